/- A function's contract by one check; a contract in an empty heap serves in every heap. The words that a walk's simp opens. The input: what is read is a value of ours, of the type's shape; from a .. -/
import Derived.Test.YtlmhkldmpggadaaGreatDoorP14
import Derived.KernelRfl
import Derived.Carry
import Derived.ProofKit
namespace Go.AM
open Go.RowKit
def x9 (P:Program) (fn:Func) (N:Nat) (ac:AC) (rs:List (Nat × Option (Option Nat))):Bool:=
 decide (fn.ntmps = N) && gQ P rs fn.results.toList && match fn.body with
  | some c=>dR P N ac c
  | none=>false
theorem Spec.wS {P:Program} {f:FuncId} {fn:Func} {N:Nat} {ac:AC} {rs:List (Nat × Option (Option Nat))} {args:List ag} {σ:af} {R:fq → af → Prop} (hfn:P.funcs[f]? = some fn)
  (hc:x9 P fn N ac rs = true) (ha:args.length ≤ N) (h:AW P N none ac (Cb rs R) { v:=fE args 0,ds:=[] } σ):Spec P f args σ R:=by
 simp only [x9,Bool.and_eq_true,decide_eq_true_eq] at hc;obtain ⟨⟨h1,h2⟩,h3⟩:=hc
 cases hb:fn.body with
 | none=>rw [hb] at h3; cases h3
 | some c=>rw [hb] at h3; exact Spec.KK hfn hb h1 h3 h2 ha h
theorem iL:∀ {l:List ag},aH l = true → ∀ j (h:j < l.length),l[j].pure = true
 | v :: r,h,0,_=>by simp only [aH,Bool.and_eq_true] at h; exact h.1
 | v :: r,h,j + 1,hj=>by simp only [aH,Bool.and_eq_true] at h; simpa using iL h.2 j (by simpa using hj)
theorem Rv.xJ {s s':St} (hS:∀ blk o,s.S blk o → s'.S blk o) (hc:∀ blk o,s.S blk o → s'.w.cell? ⟨blk,o,none⟩ = s.w.cell? ⟨blk,o,none⟩) {v:ag} {c:Value} (h:Rv s v c) (hp:v.pure = true):Rv s' v c:=by
 have hm:∀ {blk off:Nat} {u:Value},sP s blk off u → sP s' blk off u:=fun hm j hj=>⟨hS _ _ (hm j hj).1,(hc _ _ (hm j hj).1).trans (hm j hj).2⟩
 induction h with
 | undef c=>exact .undef c
 | bool b=>exact .bool b
 | int k n=>exact .int k n
 | str x=>exact .str x
 | agg cs vs hl _ ih=>exact .agg cs vs hl fun j h1 h2=>ih j h1 h2 (iL (by simpa [ag.pure] using hp) j h1)
 | tup cs vs hl _ ih=>exact .tup cs vs hl fun j h1 h2=>ih j h1 h2 (iL (by simpa [ag.pure] using hp) j h1)
 | slice0 sz a cap=>exact .slice0 sz a cap
 | slice sz xs blk off len cap us hl hn hcp _ hm' ih=>exact .slice sz xs blk off len cap us hl hn hcp (fun i h1 h2=>ih i h1 h2 (iL (by simpa [ag.pure] using hp) i h1)) (fun i h2=>⟨(hm' i h2).1,hm (hm' i h2).2⟩)
 | pval v u blk off _ hm' ih=>exact .pval v u blk off (ih (by simpa [ag.pure] using hp)) (hm hm')
 | nilptr=>exact .nilptr
 | func fn first caps fi ca hf hc' _ _ ih1 ih2=>
  simp only [ag.pure,Bool.and_eq_true] at hp;exact .func fn first caps fi ca hf hc' (fun j a b=>ih1 j a b (iL hp.1 j a)) (fun j a b=>ih2 j a b (iL hp.2 j a))
 | nilfunc=>exact .nilfunc
 | iface t v u _ ih=>exact .iface t v u (ih (by simpa [ag.pure] using hp))
 | niliface=>exact .niliface
 | nilmap=>exact .nilmap
 | optT v c _ ih=>exact .optT v c (ih (by simpa [ag.pure] using hp))
 | optF v=>exact .optF v
 | _=>simp [ag.pure] at hp
def fq.pure:fq → Bool
 | .ret v=>v.pure
 | .pan v=>v.pure
theorem Spec.frame {P:Program} {f:FuncId} {args:List ag} {Q:fq → Prop} (hs:Spec P f args [] fun r _=>Q r ∧ r.pure = true) (ha:aH args = true) (σ:af) :
  Spec P f args σ fun r σ'=>Q r ∧ σ' = σ:=by
 intro A s cargs h1 h2 h3;subst h1
 -- the same state, its blocks forgotten
 let s0:St:={ h:=[],lam:=fun _ _=>none,S:=s.S,w:=s.w }
 have i0:Inv A s0:=⟨h2.below,fun b o h=>by simp [s0] at h,fun b b' o o' blk h=>by simp [s0] at h,fun _ _ _=>rfl,h2.scell,h2.laid⟩;have a0:gy s0 args cargs:=⟨h3.1,fun j g1 g2=>Rv.xJ (s:=s) (s':=s0) (fun _ _ h=>h) (fun _ _ _=>rfl) (h3.2 j g1 g2) (iL ha j g1)⟩;refine (hs A s0 cargs rfl i0 a0).mono ?_;rintro e w' ⟨r,s1,rfl,i1,g1,hr,hq,hp⟩;have noown:∀ blk, ¬ BC s0 blk:=fun blk ⟨b,o,h,_⟩=>by simp [s0] at h
 -- the caller's blocks again
 let s2:St:={ h:=s.h,lam:=s.lam,S:=s1.S,w:=s1.w }
 have hlt:∀ b o blk,s.h[b]? = some o → dA s b o blk → blk < s.w.heap.size:=fun b o blk e1 e2=>((h2.obj b o e1).vw e2).2;have hheap:∀ blk,blk < s.w.heap.size → s1.w.heap[blk]? = s.w.heap[blk]?:=fun blk hb=>g1.outside blk hb (noown blk);have hS:∀ blk o,s1.S blk o → s.S blk o ∨ s.w.heap.size ≤ blk:=fun blk o h=>by
  rcases g1.sFrom blk o h with h' | h' | h'
  ·exact .inl h'
  ·exact .inr h'
  ·exact absurd h' (noown blk)
 have hk:bq s s2:=⟨fun _ _ _ h=>h,g1.keeps.S,g1.keeps.cell⟩;obtain ⟨i2,g2⟩:=h2.grow (s':=s2) rfl rfl hk i1.below g1.size hheap hS i1.scell;have hres:L3 s2 r e:=by
  cases r <;> cases e <;> first | (exact hr.elim) | skip
  ·exact Rv.xJ (s:=s1) (s':=s2) (fun _ _ h=>h) (fun _ _ _=>rfl) hr hp
  ·obtain ⟨c,e1,e2⟩:=hr; exact ⟨c,e1,Rv.xJ (s:=s1) (s':=s2) (fun _ _ h=>h) (fun _ _ _=>rfl) e2 hp⟩
 exact ⟨r,s2,rfl,i2,g2,hres,hq,rfl⟩
theorem Spec.aF {P:Program} {f:FuncId} {args:List ag} {v:ag} (hs:Spec P f args [] fun r _=>r = .ret v) (ha:aH args = true) (hv:v.pure = true) (σ:af) :
  Spec P f args σ fun r σ'=>r = .ret v ∧ σ' = σ:=
 Spec.frame (hs.mono fun r _ h=>⟨h,by subst h; exact hv⟩) ha σ
theorem aE.pure {P:Program} {f:FuncId} (hb:au P f = true) {args:List ag} {σ:af} {v:ag} {Q:fq → af → Prop} (hs:Spec P f args σ fun r σ'=>r = .ret v ∧ σ' = σ) (hq:Q (.ret v) σ) :
  aE P (.func (.func f) [] []) args σ Q:=
 aE.func hb (by simpa using hs.mono fun r σ' h=>by obtain ⟨rfl,rfl⟩:=h; exact hq)
theorem ah.pure {P:Program} {f:FuncId} (hb:au P f = true) {args:List ag} {σ:af} {v:ag} {K Kp:ag → af → Prop} (hs:Spec P f args σ fun r σ'=>r = .ret v ∧ σ' = σ) (hq:K v σ) :
  @ah P (.func (.func f) [] []) args σ ⟨K⟩ ⟨Kp⟩:=aE.pure hb hs hq
attribute [simp ↓] vj DG Ac ky p9 eZ
attribute [simp] HK EC u8s zx mg Iy Er Fv NG Fm EK gZ lJ nj tG Ak zT EG vu dD b9 bL gr iY gH nz Of kP mf ea opv opg Env.get Env.put Env.only Fr.put Fr.only AEx.then AEx.inBlock AEx.noGoto Cb kQ lT uR q9 fE iv AI.val AI.side AI.quiet AI.plain AI.opers
 ag.strip ag.cond dz jR fD o8 iC af.get cB tp ir iE jy putCells fM ag.gJ ag.I9 ag.cells gu jK pD pO IK Cs arith AS
 HO Aa unV IM cW isInt MZ JC NO HL mE k6 KJ Fb H3 Ha zW dB bN gz ga Fk yK isBool cS ag.tv ag.down ag.kI aH ag.pure ag.elems ag.jh aV eN j0 JL H4 D9 JO z7 zY E3 yf tS bK eX pV jV pW rdL rh u0 nV cV.run cV.qf kY eW ag.eY iB uC yi GH gqv gqs gql uI wU FU ccs cql iH
open Go.RowKit
def St.start (W:World):St:={ h:=[],lam:=fun _ _=>none,S:=fun b _=>b < W.heap.size,w:=W }
def uP (W:World):Prop:=(∀ g cs,(g,cs) ∈ ew → ∀ j (h:j < cs.length),W.cell? ⟨g,j,none⟩ = some (.int cs[j].1 cs[j].2)) ∧
 (∀ g k,(g,k) ∈ gk → ∃ v,W.cell? ⟨g,0,none⟩ = some v ∧ Mv k v) ∧
 ∀ g cs,(g,cs) ∈ ew → g < W.heap.size ∧ W.cell? ⟨g,cs.length,none⟩ = none
theorem uP.nil (h:ew = [] ∧ gk = []) (W:World):uP W:=⟨fun g cs hm=>(by rw [h.1] at hm; cases hm),fun g k hm=>(by rw [h.2] at hm; cases hm),fun g cs hm=>(by rw [h.1] at hm; cases hm)⟩
theorem AT {W:World} {g j:Nat} {v:Value} (h1:W.cell? ⟨g,j,none⟩ = some v):g < W.heap.size:=by
 simp only [World.cell?] at h1;rcases Nat.lt_or_ge g W.heap.size with h' | h'
 ·exact h'
 ·rw [Array.getElem?_eq_none h'] at h1; simp at h1
theorem uP.start {W:World} (h:uP W):LaidIn (St.start W):=
 ⟨fun g cs hm j hj=>⟨AT (h.1 g cs hm j hj),h.1 g cs hm j hj⟩,fun g k hm=>let ⟨_,e1,_⟩:=h.2.1 g k hm; ⟨AT e1,h.2.1 g k hm⟩,h.2.2⟩
theorem GN {W:World} (hL:uP W):Inv W (St.start W):=
 ⟨.refl _ _,fun b o h=>by simp [St.start] at h,fun b b' o o' blk h=>by simp [St.start] at h,fun _ _ _=>rfl,fun blk o h=>h,hL.start⟩
def nQ (b:Option Bool) (cs:List ag):ag:=
 match b with
 | some true=>.agg cs
 | _=>cs.getD 0 .undef
def sT (g:TypeId → Bool) (sz:TypeId → Nat):List Field → Nat → Nat → Bool
 | [],o,n=>o == n
 | f :: r,o,n=>f.offset == o && g f.type && sT g sz r (o + sz f.type) n
def eu (P:Program):Nat → TypeId → Bool
 | 0,_=>false
 | k + 1,t=>match P.underlying t with
  | some .bool | some (.int _) | some .string=>P.cellsOf t == 1
  | some (.slice e)=>P.cellsOf t == 1 && eu P k e && decide (0 < P.cellsOf e)
  | some (.struct fs)=>sT (eu P k) P.cellsOf fs.toList 0 (P.cellsOf t)
  | some (.array n e)=>eu P k e && P.cellsOf t == n * P.cellsOf e
  | _=>false
def sy (g:TypeId → List ag → Prop):List Field → List ag → Prop
 | [],az=>az = []
 | f :: r,az=>∃ a b,az = a ++ b ∧ g f.type a ∧ sy g r b
def vz (g:List ag → Prop):Nat → List ag → Prop
 | 0,az=>az = []
 | n + 1,az=>∃ a b,az = a ++ b ∧ g a ∧ vz g n b
def Shaped (P:Program):Nat → TypeId → List ag → Prop
 | 0,_,_=>False
 | k + 1,t,az=>match P.underlying t with
  | some .bool=>∃ b,az = [.bool b]
  | some (.int q)=>∃ n,az = [.int q n] ∧ q.min ≤ n ∧ n ≤ q.max
  | some .string=>∃ x,az = [.str x] ∧ x.size ≤ maxLen ∧ x.size ≤ reachBytes
  | some (.slice e)=>∃ xs,az = [.slice (P.cellsOf e) xs] ∧ (xs.length ≤ maxLen ∧ xs.length * P.bytesOf e ≤ reachBytes) ∧ ∀ x ∈ xs, ∃ cs,Shaped P k e cs ∧ x = nQ (fX (P.underlying e)) cs
  | some (.struct fs)=>sy (Shaped P k) fs.toList az
  | some (.array n e)=>vz (Shaped P k e) n az
  | _=>False
theorem rV {α β:Type} {f:α → Option β}:∀ {l:List α} {r:List β},l.mapM f = some r → r.length = l.length ∧ ∀ i (h1:i < l.length) (h2:i < r.length),f l[i] = some r[i]
 | [],r,h=>by simp at h; subst h; exact ⟨rfl,fun i h1=>by simp at h1⟩
 | a :: l,r,h=>by
  rw [List.mapM_cons] at h
  cases ha:f a with
  | none=>simp [ha] at h
  | some b=>
   cases hl:l.mapM f with
   | none=>simp [ha,hl] at h
   | some r'=>
    simp [ha,hl] at h;subst h;obtain ⟨h1,h2⟩:=rV hl;refine ⟨by simp [h1],fun i g1 g2=>?_⟩
    cases i with
    | zero=>simpa using ha
    | succ i=>simpa using h2 i (by simpa using g1) (by simpa using g2)
def j6 (s:St) (az:List ag) (cs:List Value):Prop:=az.length = cs.length ∧ ∀ j (h1:j < az.length) (h2:j < cs.length),Rv s az[j] cs[j] ∧ az[j].gJ = true
theorem j6.append {s:St} {a b:List ag} {c d:List Value} (h:j6 s a c) (k:j6 s b d):j6 s (a ++ b) (c ++ d):=by
 refine ⟨by simp [h.1,k.1],fun j h1 h2=>?_⟩;have:=h.1;by_cases hj:j < a.length
 ·rw [List.getElem_append_left hj,List.getElem_append_left (by omega)]; exact h.2 j hj (by omega)
 ·rw [List.getElem_append_right (by omega),List.getElem_append_right (by omega)];simp only [← this];exact k.2 _ _ _
theorem j6.one {s:St} {a:ag} {c:Value} (h:Rv s a c) (hs:a.gJ = true):j6 s [a] [c]:=
 ⟨rfl, fun j h1 h2 => by have : j = 0 := by simp at h1; exact h1
                         subst this; exact ⟨h,hs⟩⟩
theorem MH {q:IntKind} {n:Int} (h:(Lit.int q n).wf = true):q.min ≤ n ∧ n ≤ q.max:=by
 simp only [Lit.wf,Bool.and_eq_true,decide_eq_true_eq] at h; exact h
section
variable {H:Type} {enc:TypeId × Value → H} {P:Program} {W:World} {sp:Nat → Bool} {held:Bool}
theorem ug {p:Nat → Bool} {e:TypeId}:∀ {l:List (DataW H)},(DataW.weightsAll P e l).all p = true → ∀ d ∈ l,(d.weights P e).all p = true
 | [],_,d,hd=>by cases hd
 | x :: r,h,d,hd=>by
  simp only [DataW.weightsAll,List.all_append,Bool.and_eq_true] at h;rcases List.mem_cons.1 hd with rfl | hd
  ·exact h.1
  ·exact ug h.2 d hd
theorem xy {a:Addr} {x:Value} (h:W.cell? a = some x):a.spot = none ∧ a.block < W.heap.size:=by
 obtain ⟨b,o,spt⟩:=a;simp only [World.cell?] at h
 cases spt with
 | none=>
  refine ⟨rfl, ?_⟩;rcases Nat.lt_or_ge b W.heap.size with h' | h'
  ·exact h'
  ·rw [Array.getElem?_eq_none h'] at h; simp at h
 | some y=>exfalso; split at h <;> simp at h
theorem k9 : ∀ (k fuel : Nat) (t : TypeId) (cs : List Value) (d : DataW H) (ps : List MemPlace),DataW.trod enc P W 0 sp held fuel t cs = some (d,ps) → eu P k t = true → (d.weights P t).all (· ≤ reachBytes) = true →
  ∃ az,Shaped P k t az ∧ j6 (St.start W) az cs ∧ az.length = P.cellsOf t
 | 0,_,_,_,_,_,_,hp,_=>by simp [eu] at hp
 | k + 1,0,_,_,_,_,h,_,_=>by simp [DataW.trod] at h
 | k + 1,fuel + 1,t,cs,d,ps,h,hp,hR=>by
  simp only [eu] at hp;simp only [DataW.trod] at h;simp only [Shaped]
  cases hu:P.underlying t with
  | none=>rw [hu] at hp; simp at hp
  | some ty=>
   rw [hu] at hp h
   cases ty with
   | bool=>
    simp only [beq_iff_eq] at hp;rcases cs with _ | ⟨v,_ | ⟨v2,r⟩⟩
    ·simp at h
    ·cases v <;> simp at h;exact ⟨[.bool _],⟨_,rfl⟩, .one (.bool _) rfl,hp.symm⟩
    ·simp at h
   | int q=>
    simp only [beq_iff_eq] at hp;rcases cs with _ | ⟨v,_ | ⟨v2,r⟩⟩
    ·simp at h
    ·cases v <;> simp at h;obtain ⟨⟨rfl,hw⟩,_⟩:=h;exact ⟨[.int _ _],⟨_,rfl,MH hw⟩, .one (.int _ _) rfl,hp.symm⟩
    ·simp at h
   | string=>
    simp only [beq_iff_eq] at hp;rcases cs with _ | ⟨v,_ | ⟨v2,r⟩⟩
    ·simp at h
    ·cases v <;> simp at h;obtain ⟨h1,rfl,_⟩:=h;simp only [DataW.weights,List.all_cons,List.all_nil,Bool.and_true,decide_eq_true_eq] at hR;exact ⟨[.str _],⟨_,rfl,h1,by simpa using hR⟩, .one (.str _) rfl,hp.symm⟩
    ·simp at h
   | slice e=>
    simp only [Bool.and_eq_true,beq_iff_eq,decide_eq_true_eq] at hp;obtain ⟨⟨hp1,hp2⟩,hp3⟩:=hp;rcases cs with _ | ⟨v,_ | ⟨v2,r⟩⟩
    ·simp at h
    ·have hv : ∃ a len cap,v = .slice a len cap := by
      cases v with
      | slice a len cap=>exact ⟨a,len,cap,rfl⟩
      | _=>simp at h
     obtain ⟨a,len,cap,rfl⟩:=hv
     cases a with
     | none=>
      have hz:len = 0 ∧ cap = 0:=by
       rcases len with _ | len
       ·rcases cap with _ | cap
        ·exact ⟨rfl,rfl⟩
        ·simp at h
       ·simp at h
      obtain ⟨rfl,rfl⟩:=hz;exact ⟨[.slice (P.cellsOf e) []],⟨[],rfl,by simp,fun x hx=>by cases hx⟩, .one (.slice0 _ _ _) rfl,hp1.symm⟩
     | some a=>
      simp only at h
      split at h
      ·rename_i hc
       cases hel:(List.range len).mapM (fun i=>(W.cells? 0 (a.add (i * P.cellsOf e)) (P.cellsOf e)).bind (DataW.trod enc P W 0 sp held fuel e)) with
       | none=>rw [hel] at h; simp at h
       | some elems=>
        obtain ⟨g1,g2⟩:=rV hel;have hlen:elems.length = len:=by simpa using g1
        have hRR:len * P.bytesOf e ≤ reachBytes ∧ ∀ x ∈ elems,(x.1.weights P e).all (· ≤ reachBytes) = true:=by
         rw [hel] at h;simp only [Option.bind_some,Option.map_eq_some_iff] at h;obtain ⟨rest,_,h2⟩:=h;obtain ⟨rfl,_⟩:=Prod.mk.inj h2;simp only [DataW.weights,hu,List.length_map,List.all_cons,List.all_append,Bool.and_eq_true,decide_eq_true_eq] at hR;refine ⟨Nat.le_trans (Nat.mul_le_mul_right _ (by omega)) hR.1,fun x hx=>ug hR.2.1 _ (List.mem_map_of_mem hx)⟩
        -- each element
        have each : ∀ i,i < len → ∃ x u,(∃ cs,Shaped P k e cs ∧ x = nQ (fX (P.underlying e)) cs) ∧ Rv (St.start W) x u ∧ u.cells.size = P.cellsOf e ∧ ∀ j (hj : j < u.cells.size),W.cell? ((a.add (i * P.cellsOf e)).add j) = some u.cells[j] := by
         intro i hi;have:=g2 i (by simpa using hi) (by omega);simp only [List.getElem_range] at this
         cases hcl:W.cells? 0 (a.add (i * P.cellsOf e)) (P.cellsOf e) with
         | none=>rw [hcl] at this; simp at this
         | some cl=>
          rw [hcl] at this;simp only [Option.bind_some] at this;obtain ⟨az,s1,s2,s3⟩:=k9 k fuel e cl _ _ this hp2 (hRR.2 _ (List.getElem_mem _));simp only [World.cells?,Nat.zero_le,if_true] at hcl;obtain ⟨c1,c2⟩:=rV hcl;have c1':cl.length = P.cellsOf e:=by simpa using c1
          have ccell:∀ j (hj:j < cl.length),W.cell? ((a.add (i * P.cellsOf e)).add j) = some cl[j]:=fun j hj=>by
           have:=c2 j (by simp; omega) hj;simpa using this
          by_cases hag:fX (P.underlying e) = some true
          ·refine ⟨.agg az, .agg cl.toArray,⟨az,s1,by rw [hag]; rfl⟩, .agg _ _ (by simpa using s2.1.symm) (fun j h1 h2=>by simpa using (s2.2 j h1 (by simpa using h2)).1),by simpa [Value.cells] using c1',fun j hj=>?_⟩;have hj':j < cl.length:=by simpa [Value.cells] using hj
           simpa [Value.cells] using ccell j hj'
          ·-- one cell
           have hone:P.cellsOf e = 1:=by
            cases k with
            | zero=>simp [eu] at hp2
            | succ k=>
             simp only [eu] at hp2
             cases hue:P.underlying e with
             | none=>rw [hue] at hp2; simp at hp2
             | some te=>rw [hue] at hp2 hag; cases te <;> simp [fX] at hp2 hag <;> first | exact hp2 | exact hp2.1 | exact hp2.1.1
           have hcl1:∃ u,cl = [u]:=by
            match cl,c1' with
            | [u],_=>exact ⟨u,rfl⟩
            | [],h=>simp at h; omega
            | _ :: _ :: _,h=>simp at h; omega
           obtain ⟨u,rfl⟩:=hcl1;have has1:∃ x,az = [x]:=by
            have:=s2.1
            match az,this with
            | [x],_=>exact ⟨x,rfl⟩
            | [],h=>simp at h
            | _ :: _ :: _,h=>simp at h
           obtain ⟨x,rfl⟩:=has1;have h0:=s2.2 0 (by simp) (by simp);simp only [List.getElem_cons_zero] at h0;have hcs:=eh h0.1 h0.2;refine ⟨x,u,⟨[x],s1, ?_⟩,h0.1,by rw [hcs,hone]; rfl,fun j hj=>?_⟩
           ·unfold nQ; split
            ·rename_i hh; exact absurd hh hag
            ·rfl
           ·have hj0:j = 0:=by rw [hcs] at hj; simp at hj; exact hj
            subst hj0;have:=ccell 0 (by simp);simp only [List.getElem_cons_zero] at this;rw [this]; simp [hcs]
        -- all of them
        have all:∀ n,n ≤ len → ∃ (xs:List ag) (us:List Value),xs.length = n ∧ us.length = n ∧ (∀ x ∈ xs, ∃ cs,Shaped P k e cs ∧ x = nQ (fX (P.underlying e)) cs) ∧
          ∀ i (h1:i < xs.length) (h2:i < us.length),Rv (St.start W) xs[i] us[i] ∧ us[i].cells.size = P.cellsOf e ∧ ∀ j (hj:j < us[i].cells.size),W.cell? ((a.add (i * P.cellsOf e)).add j) = some us[i].cells[j]:=by
         intro n
         induction n with
         | zero=>intro _; exact ⟨[],[],rfl,rfl,fun x hx=>(by cases hx),fun i h1=>(by simp at h1)⟩
         | succ n ih=>
          intro hn;obtain ⟨xs,us,q1,q2,q3,q4⟩:=ih (by omega);obtain ⟨x,u,r1,r2,r3,r4⟩:=each n (by omega);refine ⟨xs ++ [x],us ++ [u],by simp [q1],by simp [q2],fun y hy=>?_,fun i h1 h2=>?_⟩
          ·rcases List.mem_append.1 hy with hy | hy
           ·exact q3 y hy
           ·simp at hy; subst hy; exact r1
          ·by_cases hi:i < n
           ·simp only [List.getElem_append_left (show i < xs.length by omega),List.getElem_append_left (show i < us.length by omega)];exact q4 i (by omega) (by omega)
           ·have hin:i = n:=by simp at h1; omega
            subst hin;have e1:(xs ++ [x])[i] = x:=by rw [List.getElem_append_right (by omega)]; simp [q1]
            have e2:(us ++ [u])[i] = u:=by rw [List.getElem_append_right (by omega)]; simp [q2]
            simp only [e1,e2];exact ⟨r2,r3,r4⟩
        obtain ⟨xs,us,q1,q2,q3,q4⟩:=all len (Nat.le_refl _);refine ⟨[.slice (P.cellsOf e) xs],⟨xs,rfl,⟨by omega,by rw [q1]; exact hRR.1⟩,q3⟩, .one ?_ rfl,hp1.symm⟩;by_cases h0:len = 0
        ·have:xs = []:=List.eq_nil_of_length_eq_zero (by omega);subst this; subst h0; exact .slice0 _ _ _
        ·-- the address is a plain one
         have hsp:a.spot = none:=by
          have:=(q4 0 (by omega) (by omega)).2.2 0 (by have:=(q4 0 (by omega) (by omega)).2.1; omega);have h1:=(xy this).1;rw [Nat.zero_mul] at h1;simpa [Addr.add] using h1
         obtain ⟨blk,off,spt⟩:=a;simp only at hsp;subst hsp;refine .slice _ xs blk off len cap us (by omega) q1.symm hc.2.1 (fun i h1 h2=>(q4 i h1 h2).1) (fun i h2=>⟨(q4 i (by omega) h2).2.1,fun j hj=>?_⟩);have:=(q4 i (by omega) h2).2.2 j hj;rw [addr_add,addr_add] at this;exact ⟨(xy this).2,this⟩
      ·cases h
    ·simp at h
   | struct fs=>
    simp only at hp h
    split at h
    ·rename_i hlen
     cases hm:fs.toList.mapM (fun f=>DataW.trod enc P W 0 sp held fuel f.type ((cs.drop f.offset).take (P.cellsOf f.type))) with
     | none=>rw [hm] at h; simp at h
     | some xs=>
      have key:∀ (l:List Field) (xs:List (DataW H × List MemPlace)) (o:Nat),l.mapM (fun f=>DataW.trod enc P W 0 sp held fuel f.type ((cs.drop f.offset).take (P.cellsOf f.type))) = some xs → sT (eu P k) P.cellsOf l o (P.cellsOf t) = true → (DataW.weightsEach P (l.map (·.type)) (xs.map (·.1))).all (· ≤ reachBytes) = true →
        o ≤ P.cellsOf t ∧ ∃ az,sy (Shaped P k) l az ∧ j6 (St.start W) az (cs.drop o) ∧ az.length = P.cellsOf t - o:=by
       intro l
       induction l with
       | nil=>
        intro xs o _ hpl _;simp only [sT,beq_iff_eq] at hpl;subst hpl;refine ⟨Nat.le_refl _,[],rfl,⟨by simp; omega,fun j h1=>by simp at h1⟩,by simp⟩
       | cons f l ih=>
        intro xs o hm hpl hRw;simp only [sT,Bool.and_eq_true,beq_iff_eq] at hpl;obtain ⟨⟨rfl,hpf⟩,hpl⟩:=hpl;rw [List.mapM_cons] at hm
        cases hf:DataW.trod enc P W 0 sp held fuel f.type ((cs.drop f.offset).take (P.cellsOf f.type)) with
        | none=>simp [hf] at hm
        | some d1=>
         cases hl:l.mapM (fun f=>DataW.trod enc P W 0 sp held fuel f.type ((cs.drop f.offset).take (P.cellsOf f.type))) with
         | none=>simp [hf,hl] at hm
         | some r=>
          rw [hf,hl] at hm;have hm':xs = d1 :: r:=(Option.some.inj hm).symm;subst hm';simp only [List.map_cons,DataW.weightsEach,List.all_append,Bool.and_eq_true] at hRw;obtain ⟨o1,as2,s1,s2,s3⟩:=ih r _ hl hpl hRw.2;obtain ⟨as1,t1,t2,t3⟩:=k9 k fuel f.type _ _ _ hf hpf hRw.1;refine ⟨by omega,as1 ++ as2,⟨as1,as2,rfl,t1,s1⟩, ?_,by simp [t3,s3]; omega⟩;have hsplit:cs.drop f.offset = (cs.drop f.offset).take (P.cellsOf f.type) ++ cs.drop (f.offset + P.cellsOf f.type):=by
           rw [← List.drop_drop,List.take_append_drop]
          rw [hsplit];exact t2.append s2
      rw [hm] at h;simp only [Option.map_some,Option.some.injEq,Prod.mk.injEq] at h;obtain ⟨rfl,_⟩:=h;simp only [DataW.weights,hu] at hR;obtain ⟨_,az,s1,s2,s3⟩:=key _ _ 0 hm hp hR;exact ⟨az,s1,by simpa using s2,by simpa using s3⟩
    ·cases h
   | array n e=>
    simp only [Bool.and_eq_true,beq_iff_eq] at hp;obtain ⟨hp1,hp2⟩:=hp;simp only at h
    split at h
    ·rename_i hlen
     cases hm:(List.range n).mapM (fun i=>DataW.trod enc P W 0 sp held fuel e ((cs.drop (i * P.cellsOf e)).take (P.cellsOf e))) with
     | none=>rw [hm] at h; simp at h
     | some xs=>
      obtain ⟨g1,g2⟩:=rV hm;have hRw:∀ x ∈ xs,(x.1.weights P e).all (· ≤ reachBytes) = true:=by
       rw [hm] at h;simp only [Option.map_some,Option.some.injEq,Prod.mk.injEq] at h;obtain ⟨rfl,_⟩:=h;simp only [DataW.weights,hu] at hR;exact fun x hx=>ug hR _ (List.mem_map_of_mem hx)
      have key:∀ m,m ≤ n → ∃ az,vz (Shaped P k e) m az ∧ j6 (St.start W) az (cs.drop ((n - m) * P.cellsOf e)) ∧ az.length = m * P.cellsOf e:=by
       intro m
       induction m with
       | zero=>
        intro _;refine ⟨[],rfl,⟨by simp [hlen,hp2],fun j h1=>by simp at h1⟩,by simp⟩
       | succ m ih=>
        intro hm';obtain ⟨as2,s1,s2,s3⟩:=ih (by omega);have:=g2 (n - (m + 1)) (by simp; omega) (by simp at g1; omega);simp only [List.getElem_range] at this;obtain ⟨as1,t1,t2,t3⟩:=k9 k fuel e _ _ _ this hp1 (hRw _ (List.getElem_mem _));refine ⟨as1 ++ as2,⟨as1,as2,rfl,t1,s1⟩, ?_,by simp [t3,s3,Nat.add_mul]; omega⟩;have hsplit:cs.drop ((n - (m + 1)) * P.cellsOf e) = (cs.drop ((n - (m + 1)) * P.cellsOf e)).take (P.cellsOf e) ++ cs.drop ((n - m) * P.cellsOf e):=by
         have e1:(n - m) * P.cellsOf e = (n - (m + 1)) * P.cellsOf e + P.cellsOf e:=by
          rw [show n - m = (n - (m + 1)) + 1 by omega,Nat.add_mul,Nat.one_mul]
         rw [e1, ← List.drop_drop,List.take_append_drop]
        rw [hsplit];exact t2.append s2
      obtain ⟨az,s1,s2,s3⟩:=key n (Nat.le_refl _);exact ⟨az,s1,by simpa using s2,by rw [s3,hp2]⟩
    ·cases h
   | _=>simp at hp
end
open Go.RowKit
def gA (P:Program) (k:Nat):List TypeId → List ag → Prop
 | [],[]=>True
 | t :: ts,a :: az=>(∃ cs,Shaped P k t cs ∧ a = nQ (fX (P.underlying t)) cs) ∧ gA P k ts az
 | _,_=>False
section
variable {H:Type} {enc:TypeId × Value → H} {P:Program} {W:World} {sp:Nat → Bool} {held:Bool}
theorem Dv {k:Nat} {t:TypeId} {v:Value} {d:DataW H} {ps:List MemPlace} {base:Nat} (h:DataW.Trod enc P W 0 sp held t v d ps) (hp:eu P k t = true) (hR:(d.weights P t).all (· ≤ reachBytes) = true) (hv:Value.okWide P W .any base t v) :
  ∃ a,(∃ cs,Shaped P k t cs ∧ a = nQ (fX (P.underlying t)) cs) ∧ Rv (St.start W) a v:=by
 obtain ⟨fuel,h⟩:=h;obtain ⟨az,s1,s2,s3⟩:=k9 k fuel t _ d ps h hp hR;refine ⟨_,⟨az,s1,rfl⟩, ?_⟩;have one:fX (P.underlying t) ≠ some true → P.cellsOf t = 1 → v.cells = #[v] → Rv (St.start W) (nQ (fX (P.underlying t)) az) v:=by
  intro h1 h2 h3;have hl:az.length = 1:=by omega
  match az,hl with
  | [a],_=>
   have h0:=(s2.2 0 (by simp) (by rw [h3]; simp)).1;unfold nQ;split
   ·rename_i hh; exact absurd hh h1
   ·simpa [h3] using h0
 cases k with
 | zero=>simp [eu] at hp
 | succ k=>
  simp only [eu] at hp;unfold Value.okWide Cell.okWide Cell.ok at hv
  cases hu:P.underlying t with
  | none=>rw [hu] at hp; simp at hp
  | some ty=>
   rw [hu] at hp hv one
   cases ty with
   | bool=>exact one (by simp [fX]) (by simpa using hp) (by cases v <;> first | rfl | simp at hv)
   | int q=>exact one (by simp [fX]) (by simpa using hp) (by cases v <;> first | rfl | simp at hv)
   | string=>exact one (by simp [fX]) (by simpa using hp) (by cases v <;> first | rfl | simp at hv)
   | slice e=>exact one (by simp [fX]) (by simp at hp; exact hp.1.1) (by cases v <;> first | rfl | simp at hv)
   | struct fs=>
    obtain ⟨cs,rfl,hsz,_⟩:=hv;have e1:(Value.agg cs).cells.toList = cs.toList:=rfl;rw [e1] at s2;exact .agg az cs (by simpa using s2.1.symm) (fun j h1 h2=>by have:=(s2.2 j h1 (by simpa using h2)).1; rwa [Array.getElem_toList] at this)
   | array n e=>
    obtain ⟨cs,rfl,hsz,_⟩:=hv;have e1:(Value.agg cs).cells.toList = cs.toList:=rfl;rw [e1] at s2;exact .agg az cs (by simpa using s2.1.symm) (fun j h1 h2=>by have:=(s2.2 j h1 (by simpa using h2)).1; rwa [Array.getElem_toList] at this)
   | _=>simp at hp
theorem uu {k base:Nat}:∀ {ts:List TypeId} {vs:List Value} {ds:List (DataW H)} {ps:List MemPlace},DataW.TrodAll enc P W 0 sp held ts vs ds ps → (∀ t ∈ ts,eu P k t = true) → (DataW.weightsEach P ts ds).all (· ≤ reachBytes) = true →
  (∀ (j:Nat) t v,ts[j]? = some t → vs[j]? = some v → Value.okWide P W .any base t v) →
  ∃ az,gA P k ts az ∧ vs.length = az.length ∧ ∀ j (h1:j < az.length) (h2:j < vs.length),Rv (St.start W) az[j] vs[j]
 | [],[],[],_,_,_,_,_=>⟨[],trivial,rfl,fun j h1=>by simp at h1⟩
 | t :: ts,v :: vs,d :: ds,ps,h,hp,hR,hv=>by
  simp only [DataW.weightsEach,List.all_append,Bool.and_eq_true] at hR;obtain ⟨p,q,h1,h2,_⟩:=h;obtain ⟨a,a1,a2⟩:=Dv h1 (hp t (by simp)) hR.1 (hv 0 t v rfl rfl);obtain ⟨az,b1,b2,b3⟩:=uu h2 (fun t' ht=>hp t' (by simp [ht])) hR.2 (fun j t' v' e1 e2=>hv (j + 1) t' v' (by simpa using e1) (by simpa using e2));refine ⟨a :: az,⟨a1,b1⟩,by simp [b2],fun j g1 g2=>?_⟩
  cases j with
  | zero=>exact a2
  | succ j=>simpa using b3 j (by simpa using g1) (by simpa using g2)
 | [],_ :: _,_,_,h,_,_,_=>by simp [DataW.TrodAll] at h
 | [],[],_ :: _,_,h,_,_,_=>by simp [DataW.TrodAll] at h
 | _ :: _,[],_,_,h,_,_,_=>by simp [DataW.TrodAll] at h
 | _ :: _,_ :: _,[],_,h,_,_,_=>by simp [DataW.TrodAll] at h
theorem qa {W':World} (hl:laidOutB P = true) (hb:Below W.heap.size W W'):∀ {ts:List TypeId} {vs:List Value} {ds:List (DataW H)} {ps:List MemPlace},DataW.TrodAll enc P W 0 (fun _=>true) true ts vs ds ps →
  (∀ t ∈ ts,P.readableRec t = true ∧ t < P.types.size) → (∀ p ∈ ps,p.block < W.heap.size) → DataW.TrodAll enc P W' 0 (fun b=>decide (b < W.heap.size)) true ts vs ds ps
 | [],[],[],_,h,_,_=>h
 | t :: ts,v :: vs,d :: ds,ps,h,ht,hlt=>by
  obtain ⟨p,q,h1,h2,rfl⟩:=h;exact ⟨p,q,Below.trod hl (ht t (by simp)).1 (ht t (by simp)).2 h1 hb (fun x hx=>hlt x (by simp [hx])),qa hl hb h2 (fun t' h'=>ht t' (by simp [h'])) (fun x hx=>hlt x (by simp [hx])),rfl⟩
 | [],_ :: _,_,_,h,_,_=>by simp [DataW.TrodAll] at h
 | [],[],_ :: _,_,h,_,_=>by simp [DataW.TrodAll] at h
 | _ :: _,[],_,_,h,_,_=>by simp [DataW.TrodAll] at h
 | _ :: _,_ :: _,[],_,h,_,_=>by simp [DataW.TrodAll] at h
theorem ur:∀ {ts:List TypeId} {vs:List Value} {ds:List (DataW H)} {ps:List MemPlace},DataW.TrodAll enc P W 0 sp held ts vs ds ps → ds.length = ts.length
 | [],[],[],_,_=>rfl
 | t :: ts,v :: vs,d :: ds,ps,h=>by obtain ⟨p,q,h1,h2,rfl⟩:=h; simp [ur h2]
 | [],_ :: _,_,_,h=>by simp [DataW.TrodAll] at h
 | [],[],_ :: _,_,h=>by simp [DataW.TrodAll] at h
 | _ :: _,[],_,_,h=>by simp [DataW.TrodAll] at h
 | _ :: _,_ :: _,[],_,h=>by simp [DataW.TrodAll] at h
theorem pF {f:FuncId} {fn:Func} {s:ChangeSpec} {k:Nat} {tb:TypeId} {apart handsOn:Bool} (hres:fn.resultTypes = #[tb]) (hub:P.underlying tb = some .bool) (hvars:s.vars = [])
  (hsp:∀ ds:List (DataW H),ds.length = fn.params.size → (s.fn H ds).results = [.lit (.bool true)] ∧ (s.fn H ds).args = ds ∧ (s.fn H ds).vars = []) (hl:laidOutB P = true)
  (hty:∀ t ∈ fn.params.toList,eu P k t = true ∧ P.readableRec t = true ∧ t < P.types.size)
  (hspec:∀ az,gA P k fn.params.toList az → Spec P f az [] fun r _=>r = .ret (.bool true))
  {base:Nat} {args:Array Value} {ds gs:List (DataW H)} {before:List MemPlace} (hval:∀ (j:Nat) t v,fn.params[j]? = some t → args[j]? = some v → Value.okWide P W .any base t v)
  (hW:DataW.Whole enc P fn.params.toList s.vars apart W args.toList ds gs before) (hR:(DataW.weightsEach P (fn.params.toList ++ s.plain.varTypes P) (ds ++ gs)).all (· ≤ reachBytes) = true) (hL:uP W:=by exact uP.nil ⟨rfl,rfl⟩ _) :
  Calls P f args W fun e W'=>∃ v,e = .returned v ∧ s.post enc P fn apart true handsOn false W args v W':=by
 have hW':=hW;obtain ⟨p,q,hA,hV,rfl,hfz,hnd⟩:=hW;rw [hvars] at hV;have hgs:gs = [] ∧ q = []:=by
  cases gs with
  | nil=>exact ⟨rfl,hV⟩
  | cons=>exact hV.elim
 obtain ⟨rfl,rfl⟩:=hgs;have hR':(DataW.weightsEach P fn.params.toList ds).all (· ≤ reachBytes) = true:=by
  have h0:s.plain.varTypes P = []:=by
   cases s; simp only at hvars; subst hvars; rfl
  rw [h0,List.append_nil,List.append_nil] at hR; exact hR
 obtain ⟨az,a1,a2,a3⟩:=uu (k:=k) (base:=base) hA (fun t ht=>(hty t ht).1) hR' (fun j t v e1 e2=>hval j t v (by simpa using e1) (by simpa using e2));have hlt:=DataW.TrodAll.lt hA;have hdl:=ur hA;refine (hspec az a1 W (St.start W) args rfl (GN hL) ⟨by simpa using a2,fun j h1 h2=>by have:=a3 j h1 (by simpa using h2); rwa [Array.getElem_toList] at this⟩).mono ?_;rintro e W' ⟨r,s',rfl,hi,hg,hr,rfl⟩;cases e <;> first | (exact hr.elim) | skip
 rename_i v;have hv:v = .bool true:=by
  have h':Rv s' (.bool true) v:=hr;cases h'; rfl
 subst hv;obtain ⟨r1,r2,r3⟩:=hsp (ds ++ []) (by simpa using hdl);have hb:=hi.below;refine ⟨.bool true,rfl,ds,[],p ++ [],[],p,[],hW', ?_, ?_, ?_,hb.frame _,fun h=>by cases h⟩
 ·rw [r1,hres];exact ⟨[],[],⟨1,by simp [DataW.trod,hub,Value.cells]⟩,rfl,rfl⟩
 ·rw [r2,List.append_nil];exact qa hl hb hA (fun t ht=>(hty t ht).2) hlt
 ·rw [hvars,r3]; exact rfl
end
open Go.RowKit
def GZ (P:Program) (t:TypeId):Option (List TypeId):=
 match P.underlying t with
 | some (.struct fs)=>some (fs.toList.map (·.type))
 | _=>none
def CH (P:Program) (t:TypeId):Option IntKind:=
 match P.underlying t with
 | some (.int q)=>some q
 | _=>none
def Ix (P:Program) (t:TypeId):Bool:=
 match P.underlying t with
 | some .string=>true
 | _=>false
def Gz (P:Program) (t:TypeId):Option (TypeId × Nat × Bool):=
 match P.underlying t with
 | some (.slice e)=>some (e,P.cellsOf e,match fX (P.underlying e) with
  | some true=>true
  | _=>false)
 | _=>none
def v7 (g:TypeId → List ag → Prop):List TypeId → List ag → Prop
 | [],az=>az = []
 | t :: r,az=>∃ a b,az = a ++ b ∧ g t a ∧ v7 g r b
theorem uk {g:TypeId → List ag → Prop}:∀ {fs:List Field} {az:List ag},sy g fs az → v7 g (fs.map (·.type)) az
 | [],_,h=>h
 | _ :: _,_,⟨a,b,h1,h2,h3⟩=>⟨a,b,h1,h2,uk h3⟩
theorem Shaped.fs {P:Program} {k:Nat} {t:TypeId} {az:List ag} {ts:List TypeId} (h:Shaped P (k + 1) t az) (hu:GZ P t = some ts):v7 (Shaped P k) ts az:=by
 simp only [Shaped] at h;unfold GZ at hu
 split at hu
 ·rename_i fs he;rw [he] at h;simp only [Option.some.injEq] at hu;subst hu;exact uk h
 ·cases hu
theorem Shaped.int {P:Program} {k:Nat} {t:TypeId} {az:List ag} {q:IntKind} (h:Shaped P (k + 1) t az) (hu:CH P t = some q):∃ n,az = [.int q n] ∧ q.min ≤ n ∧ n ≤ q.max:=by
 simp only [Shaped] at h;unfold CH at hu
 split at hu
 ·rename_i q' he;rw [he] at h;simp only [Option.some.injEq] at hu;subst hu;exact h
 ·cases hu
theorem Shaped.str {P:Program} {k:Nat} {t:TypeId} {az:List ag} (h:Shaped P (k + 1) t az) (hu:Ix P t = true):∃ x,az = [.str x] ∧ x.size ≤ maxLen:=by
 simp only [Shaped] at h;unfold Ix at hu
 split at hu
 ·rename_i he;rw [he] at h;obtain ⟨x,h1,h2,_⟩:=h;exact ⟨x,h1,h2⟩
 ·cases hu
theorem Shaped.sl {P:Program} {k:Nat} {t e:TypeId} {c:Nat} {g:Bool} {az:List ag} (h:Shaped P (k + 1) t az) (hu:Gz P t = some (e,c,g)) :
  ∃ xs,az = [.slice c xs] ∧ xs.length ≤ maxLen ∧ ∀ x ∈ xs, ∃ cs,Shaped P k e cs ∧ x = if g then .agg cs else cs.getD 0 .undef:=by
 simp only [Shaped] at h;unfold Gz at hu
 split at hu
 ·rename_i e' he;rw [he] at h;simp only [Option.some.injEq,Prod.mk.injEq] at hu;obtain ⟨rfl,rfl,rfl⟩:=hu;obtain ⟨xs,h1,h2,h3⟩:=h;refine ⟨xs,h1,h2.1,fun x hx=>?_⟩;obtain ⟨cs,g1,g2⟩:=h3 x hx;refine ⟨cs,g1,g2.trans ?_⟩;unfold nQ
  split <;> rename_i hh <;> simp [hh]
 ·cases hu
theorem ta {α:Type} {f:α → ag} {p:α → Prop}:∀ {xs:List ag},(∀ x ∈ xs, ∃ a,x = f a ∧ p a) → ∃ l:List α,xs = l.map f ∧ ∀ a ∈ l,p a
 | [],_=>⟨[],rfl,by simp⟩
 | x :: r,h=>by
  obtain ⟨a,rfl,ha⟩:=h x (by simp);obtain ⟨l,rfl,hl⟩:=ta (xs:=r) fun y hy=>h y (by simp [hy])
  exact ⟨a :: l,rfl,fun b hb=>by
   rcases List.mem_cons.1 hb with rfl | hb
   ·exact ha
   ·exact hl b hb⟩
end Go.AM
