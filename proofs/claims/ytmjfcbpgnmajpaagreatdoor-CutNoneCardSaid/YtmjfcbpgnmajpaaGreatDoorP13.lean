/- A function's contract by one check; a contract in an empty heap serves in every heap. The words that a walk's simp opens. The input: what is read is a value of ours, of the type's shape; from a .. -/
import Derived.Test.YtmjfcbpgnmajpaaGreatDoorP12
import Derived.KernelRfl
import Derived.Carry
import Derived.ProofKit
import Derived.Test.YtmjfcbpgnmajpaaGreatDoorTie
import Derived.Test.YtmjfcbpgnmajpaaGreatDoorCards
import Derived.LaidMore
import Derived.OpenShut
import Derived.SevenTiedAt
import Derived.RecoverIn
namespace Go.AM
open Go.RowKit
def TF (P:Program) (fn:Func) (N:Nat) (ac:AC) (rs:List (Nat × Option (Option Nat))):Bool:=
  decide (fn.ntmps = N) && eJ P rs fn.results.toList && match fn.body with
    | some c=>cD P N ac c
    | none=>false
theorem Spec.yf {P:Program} {f:FuncId} {fn:Func} {N:Nat} {ac:AC} {rs:List (Nat × Option (Option Nat))} {args:List ab} {σ:af} {R:dF → af → Prop} (hfn:P.funcs[f]? = some fn)
    (hc:TF P fn N ac rs = true) (ha:args.length ≤ N) (h:AW P N none ac (wJ rs R) { v:=cZ args 0,ds:=[] } σ):Spec P f args σ R:=by
  simp only [TF,Bool.and_eq_true,decide_eq_true_eq] at hc
  obtain ⟨⟨h1,h2⟩,h3⟩:=hc
  cases hb:fn.body with
  | none=>rw [hb] at h3; cases h3
  | some c=>rw [hb] at h3; exact Spec.Fe hfn hb h1 h3 h2 ha h
theorem fA:∀ {l:List ab},aM l = true → ∀ j (h:j < l.length),l[j].pure = true
  | v :: r,h,0,_=>by simp only [aM,Bool.and_eq_true] at h; exact h.1
  | v :: r,h,j + 1,hj=>by simp only [aM,Bool.and_eq_true] at h; simpa using fA h.2 j (by simpa using hj)
theorem Rv.sg {s s':St} (hS:∀ blk o,s.S blk o → s'.S blk o) (hc:∀ blk o,s.S blk o → s'.w.cell? ⟨blk,o,none⟩ = s.w.cell? ⟨blk,o,none⟩) {v:ab} {c:Value} (h:Rv s v c) (hp:v.pure = true):Rv s' v c:=by
  have hm:∀ {blk off:Nat} {u:Value},oU s blk off u → oU s' blk off u:=fun hm j hj=>⟨hS _ _ (hm j hj).1,(hc _ _ (hm j hj).1).trans (hm j hj).2⟩
  induction h with
  | undef c=>exact .undef c
  | bool b=>exact .bool b
  | int k n=>exact .int k n
  | str x=>exact .str x
  | agg cs vs hl _ ih=>exact .agg cs vs hl fun j h1 h2=>ih j h1 h2 (fA (by simpa [ab.pure] using hp) j h1)
  | tup cs vs hl _ ih=>exact .tup cs vs hl fun j h1 h2=>ih j h1 h2 (fA (by simpa [ab.pure] using hp) j h1)
  | slice0 sz a cap=>exact .slice0 sz a cap
  | slice sz xs blk off len cap us hl hn hcp _ hm' ih=>exact .slice sz xs blk off len cap us hl hn hcp (fun i h1 h2=>ih i h1 h2 (fA (by simpa [ab.pure] using hp) i h1)) (fun i h2=>⟨(hm' i h2).1,hm (hm' i h2).2⟩)
  | pval v u blk off _ hm' ih=>exact .pval v u blk off (ih (by simpa [ab.pure] using hp)) (hm hm')
  | nilptr=>exact .nilptr
  | func fn first caps fi ca hf hc' _ _ ih1 ih2=>
    simp only [ab.pure,Bool.and_eq_true] at hp
    exact .func fn first caps fi ca hf hc' (fun j a b=>ih1 j a b (fA hp.1 j a)) (fun j a b=>ih2 j a b (fA hp.2 j a))
  | nilfunc=>exact .nilfunc
  | iface t v u _ ih=>exact .iface t v u (ih (by simpa [ab.pure] using hp))
  | niliface=>exact .niliface
  | nilmap=>exact .nilmap
  | optT v c _ ih=>exact .optT v c (ih (by simpa [ab.pure] using hp))
  | optF v=>exact .optF v
  | _=>simp [ab.pure] at hp
def dF.pure:dF → Bool
  | .ret v=>v.pure
  | .pan v=>v.pure
theorem Spec.frame {P:Program} {f:FuncId} {args:List ab} {Q:dF → Prop} (hs:Spec P f args [] fun r _=>Q r ∧ r.pure = true) (ha:aM args = true) (σ:af) :
    Spec P f args σ fun r σ'=>Q r ∧ σ' = σ:=by
  intro A s cargs h1 h2 h3
  subst h1
  -- the same state, its blocks forgotten
  let s0:St:={ h:=[],lam:=fun _ _=>none,S:=s.S,w:=s.w }
  have i0:Inv A s0:=⟨h2.below,fun b o h=>by simp [s0] at h,fun b b' o o' blk h=>by simp [s0] at h,fun _ _ _=>rfl,h2.scell,h2.laid⟩
  have a0:km s0 args cargs:=⟨h3.1,fun j g1 g2=>Rv.sg (s:=s) (s':=s0) (fun _ _ h=>h) (fun _ _ _=>rfl) (h3.2 j g1 g2) (fA ha j g1)⟩
  refine (hs A s0 cargs rfl i0 a0).mono ?_
  rintro e w' ⟨r,s1,rfl,i1,g1,hr,hq,hp⟩
  have noown:∀ blk, ¬ xK s0 blk:=fun blk ⟨b,o,h,_⟩=>by simp [s0] at h
  -- the caller's blocks again
  let s2:St:={ h:=s.h,lam:=s.lam,S:=s1.S,w:=s1.w }
  have hlt:∀ b o blk,s.h[b]? = some o → cL s b o blk → blk < s.w.heap.size:=fun b o blk e1 e2=>((h2.obj b o e1).rb e2).2
  have hheap:∀ blk,blk < s.w.heap.size → s1.w.heap[blk]? = s.w.heap[blk]?:=fun blk hb=>g1.outside blk hb (noown blk)
  have hS:∀ blk o,s1.S blk o → s.S blk o ∨ s.w.heap.size ≤ blk:=fun blk o h=>by
    rcases g1.sFrom blk o h with h' | h' | h'
    · exact .inl h'
    · exact .inr h'
    · exact absurd h' (noown blk)
  have hk:bf s s2:=⟨fun _ _ _ h=>h,g1.keeps.S,g1.keeps.cell⟩
  obtain ⟨i2,g2⟩:=h2.grow (s':=s2) rfl rfl hk i1.below g1.size hheap hS i1.scell
  have hres:G8 s2 r e:=by
    cases r <;> cases e <;> first | (exact hr.elim) | skip
    · exact Rv.sg (s:=s1) (s':=s2) (fun _ _ h=>h) (fun _ _ _=>rfl) hr hp
    · obtain ⟨c,e1,e2⟩:=hr; exact ⟨c,e1,Rv.sg (s:=s1) (s':=s2) (fun _ _ h=>h) (fun _ _ _=>rfl) e2 hp⟩
  exact ⟨r,s2,rfl,i2,g2,hres,hq,rfl⟩
theorem Spec.ay {P:Program} {f:FuncId} {args:List ab} {v:ab} (hs:Spec P f args [] fun r _=>r = .ret v) (ha:aM args = true) (hv:v.pure = true) (σ:af) :
    Spec P f args σ fun r σ'=>r = .ret v ∧ σ' = σ:=
  Spec.frame (hs.mono fun r _ h=>⟨h,by subst h; exact hv⟩) ha σ
theorem aC.pure {P:Program} {f:FuncId} (hb:ak P f = true) {args:List ab} {σ:af} {v:ab} {Q:dF → af → Prop} (hs:Spec P f args σ fun r σ'=>r = .ret v ∧ σ' = σ) (hq:Q (.ret v) σ) :
    aC P (.func (.func f) [] []) args σ Q:=
  aC.func hb (by simpa using hs.mono fun r σ' h=>by obtain ⟨rfl,rfl⟩:=h; exact hq)
theorem aj.pure {P:Program} {f:FuncId} (hb:ak P f = true) {args:List ab} {σ:af} {v:ab} {K Kp:ab → af → Prop} (hs:Spec P f args σ fun r σ'=>r = .ret v ∧ σ' = σ) (hq:K v σ) :
    @aj P (.func (.func f) [] []) args σ ⟨K⟩ ⟨Kp⟩:=aC.pure hb hs hq
attribute [simp ↓] mL zM vY aU mQ eH
attribute [simp] Di zD Am Iy Az Ah sB gz gE kj jz I1 gO jf cS opv opg Env.get Env.put Env.only Fr.put Fr.only AEx.then AEx.inBlock AEx.noGoto wJ dM jL qu nr cZ fz AI.val AI.side AI.quiet AI.plain AI.opers
  ab.strip ab.cond bZ gP eM lq fc af.get bA oQ fh iA iS cd eB ab.fB ab.BE ab.cells fR ju lJ lH Cr yE arith vL
  Ed v9 unV ED bI isInt HA DP HJ Dy j6 iR Fi AE CB CG vR cB bp dv dY Aj uS isBool bC ab.mj ab.down ab.gK aM ab.pure ab.elems ab.fT aO df lL I2 CE zA Da vB v8 AP wz pL gk ed l8 gU oY rdL qU SZ cq.run cq.oR l0 ig ab.dz ft lC sa zR gqv gqs gql
open Go.RowKit
def St.start (W:World):St:={ h:=[],lam:=fun _ _=>none,S:=fun b _=>b < W.heap.size,w:=W }
def qv (W:World):Prop:=∀ g cs,(g,cs) ∈ eZ → ∀ j (h:j < cs.length),W.cell? ⟨g,j,none⟩ = some (.int cs[j].1 cs[j].2)
theorem qv.nil (h:eZ = []) (W:World):qv W:=fun g cs hm=>by rw [h] at hm; cases hm
theorem qv.start {W:World} (h:qv W):rT (St.start W):=fun g cs hm j hj=>⟨by
  have h1:=h g cs hm j hj
  simp only [World.cell?] at h1
  show g < W.heap.size
  rcases Nat.lt_or_ge g W.heap.size with h' | h'
  · exact h'
  · rw [Array.getElem?_eq_none h'] at h1; simp at h1,h g cs hm j hj⟩
theorem BC {W:World} (hL:qv W):Inv W (St.start W):=
  ⟨.refl _ _,fun b o h=>by simp [St.start] at h,fun b b' o o' blk h=>by simp [St.start] at h,fun _ _ _=>rfl,fun blk o h=>h,hL.start⟩
def jO (b:Option Bool) (cs:List ab):ab:=
  match b with
  | some true=>.agg cs
  | _=>cs.getD 0 .undef
def n8 (g:TypeId → Bool) (sz:TypeId → Nat):List Field → Nat → Nat → Bool
  | [],o,n=>o == n
  | f :: r,o,n=>f.offset == o && g f.type && n8 g sz r (o + sz f.type) n
def cN (P:Program):Nat → TypeId → Bool
  | 0,_=>false
  | k + 1,t=>match P.underlying t with
    | some .bool | some (.int _) | some .string=>P.cellsOf t == 1
    | some (.slice e)=>P.cellsOf t == 1 && cN P k e && decide (0 < P.cellsOf e)
    | some (.struct fs)=>n8 (cN P k) P.cellsOf fs.toList 0 (P.cellsOf t)
    | some (.array n e)=>cN P k e && P.cellsOf t == n * P.cellsOf e
    | _=>false
def od (g:TypeId → List ab → Prop):List Field → List ab → Prop
  | [],az=>az = []
  | f :: r,az=>∃ a b,az = a ++ b ∧ g f.type a ∧ od g r b
def rp (g:List ab → Prop):Nat → List ab → Prop
  | 0,az=>az = []
  | n + 1,az=>∃ a b,az = a ++ b ∧ g a ∧ rp g n b
def Shaped (P:Program):Nat → TypeId → List ab → Prop
  | 0,_,_=>False
  | k + 1,t,az=>match P.underlying t with
    | some .bool=>∃ b,az = [.bool b]
    | some (.int q)=>∃ n,az = [.int q n] ∧ q.min ≤ n ∧ n ≤ q.max
    | some .string=>∃ x,az = [.str x] ∧ x.size ≤ maxLen
    | some (.slice e)=>∃ xs,az = [.slice (P.cellsOf e) xs] ∧ xs.length ≤ maxLen ∧ ∀ x ∈ xs, ∃ cs,Shaped P k e cs ∧ x = jO (ee (P.underlying e)) cs
    | some (.struct fs)=>od (Shaped P k) fs.toList az
    | some (.array n e)=>rp (Shaped P k e) n az
    | _=>False
theorem nT {α β:Type} {f:α → Option β}:∀ {l:List α} {r:List β},l.mapM f = some r → r.length = l.length ∧ ∀ i (h1:i < l.length) (h2:i < r.length),f l[i] = some r[i]
  | [],r,h=>by simp at h; subst h; exact ⟨rfl,fun i h1=>by simp at h1⟩
  | a :: l,r,h=>by
    rw [List.mapM_cons] at h
    cases ha:f a with
    | none=>simp [ha] at h
    | some b=>
      cases hl:l.mapM f with
      | none=>simp [ha,hl] at h
      | some r'=>
        simp [ha,hl] at h
        subst h
        obtain ⟨h1,h2⟩:=nT hl
        refine ⟨by simp [h1],fun i g1 g2=>?_⟩
        cases i with
        | zero=>simpa using ha
        | succ i=>simpa using h2 i (by simpa using g1) (by simpa using g2)
def p7 (s:St) (az:List ab) (cs:List Value):Prop:=az.length = cs.length ∧ ∀ j (h1:j < az.length) (h2:j < cs.length),Rv s az[j] cs[j] ∧ az[j].fB = true
theorem p7.append {s:St} {a b:List ab} {c d:List Value} (h:p7 s a c) (k:p7 s b d):p7 s (a ++ b) (c ++ d):=by
  refine ⟨by simp [h.1,k.1],fun j h1 h2=>?_⟩
  have:=h.1
  by_cases hj:j < a.length
  · rw [List.getElem_append_left hj,List.getElem_append_left (by omega)]; exact h.2 j hj (by omega)
  · rw [List.getElem_append_right (by omega),List.getElem_append_right (by omega)]
    simp only [← this]
    exact k.2 _ _ _
theorem p7.one {s:St} {a:ab} {c:Value} (h:Rv s a c) (hs:a.fB = true):p7 s [a] [c]:=
  ⟨rfl, fun j h1 h2 => by have : j = 0 := by simp at h1; exact h1
                          subst this; exact ⟨h,hs⟩⟩
theorem Ic {q:IntKind} {n:Int} (h:(Lit.int q n).wf = true):q.min ≤ n ∧ n ≤ q.max:=by
  simp only [Lit.wf,Bool.and_eq_true,decide_eq_true_eq] at h; exact h
section
variable {H:Type} {enc:TypeId × Value → H} {P:Program} {W:World} {sp:Nat → Bool} {held:Bool}
theorem tH {a:Addr} {x:Value} (h:W.cell? a = some x):a.spot = none ∧ a.block < W.heap.size:=by
  obtain ⟨b,o,spt⟩:=a
  simp only [World.cell?] at h
  cases spt with
  | none=>
    refine ⟨rfl, ?_⟩
    rcases Nat.lt_or_ge b W.heap.size with h' | h'
    · exact h'
    · rw [Array.getElem?_eq_none h'] at h; simp at h
  | some y=>exfalso; split at h <;> simp at h
theorem iW : ∀ (k fuel : Nat) (t : TypeId) (cs : List Value) (d : DataW H) (ps : List MemPlace),DataW.trod enc P W 0 sp held fuel t cs = some (d,ps) → cN P k t = true →
    ∃ az,Shaped P k t az ∧ p7 (St.start W) az cs ∧ az.length = P.cellsOf t
  | 0,_,_,_,_,_,_,hp=>by simp [cN] at hp
  | k + 1,0,_,_,_,_,h,_=>by simp [DataW.trod] at h
  | k + 1,fuel + 1,t,cs,d,ps,h,hp=>by
    simp only [cN] at hp
    simp only [DataW.trod] at h
    simp only [Shaped]
    cases hu:P.underlying t with
    | none=>rw [hu] at hp; simp at hp
    | some ty=>
      rw [hu] at hp h
      cases ty with
      | bool=>
        simp only [beq_iff_eq] at hp
        rcases cs with _ | ⟨v,_ | ⟨v2,r⟩⟩
        · simp at h
        · cases v <;> simp at h
          exact ⟨[.bool _],⟨_,rfl⟩, .one (.bool _) rfl,hp.symm⟩
        · simp at h
      | int q=>
        simp only [beq_iff_eq] at hp
        rcases cs with _ | ⟨v,_ | ⟨v2,r⟩⟩
        · simp at h
        · cases v <;> simp at h
          obtain ⟨⟨rfl,hw⟩,_⟩:=h
          exact ⟨[.int _ _],⟨_,rfl,Ic hw⟩, .one (.int _ _) rfl,hp.symm⟩
        · simp at h
      | string=>
        simp only [beq_iff_eq] at hp
        rcases cs with _ | ⟨v,_ | ⟨v2,r⟩⟩
        · simp at h
        · cases v <;> simp at h
          exact ⟨[.str _],⟨_,rfl,h.1⟩, .one (.str _) rfl,hp.symm⟩
        · simp at h
      | slice e=>
        simp only [Bool.and_eq_true,beq_iff_eq,decide_eq_true_eq] at hp
        obtain ⟨⟨hp1,hp2⟩,hp3⟩:=hp
        rcases cs with _ | ⟨v,_ | ⟨v2,r⟩⟩
        · simp at h
        · have hv : ∃ a len cap,v = .slice a len cap := by
            cases v with
            | slice a len cap=>exact ⟨a,len,cap,rfl⟩
            | _=>simp at h
          obtain ⟨a,len,cap,rfl⟩:=hv
          cases a with
          | none=>
            have hz:len = 0 ∧ cap = 0:=by
              rcases len with _ | len
              · rcases cap with _ | cap
                · exact ⟨rfl,rfl⟩
                · simp at h
              · simp at h
            obtain ⟨rfl,rfl⟩:=hz
            exact ⟨[.slice (P.cellsOf e) []],⟨[],rfl,by simp,fun x hx=>by cases hx⟩, .one (.slice0 _ _ _) rfl,hp1.symm⟩
          | some a=>
            simp only at h
            split at h
            · rename_i hc
              cases hel:(List.range len).mapM (fun i=>(W.cells? 0 (a.add (i * P.cellsOf e)) (P.cellsOf e)).bind (DataW.trod enc P W 0 sp held fuel e)) with
              | none=>rw [hel] at h; simp at h
              | some elems=>
                obtain ⟨g1,g2⟩:=nT hel
                have hlen:elems.length = len:=by simpa using g1
                -- each element
                have each : ∀ i,i < len → ∃ x u,(∃ cs,Shaped P k e cs ∧ x = jO (ee (P.underlying e)) cs) ∧ Rv (St.start W) x u ∧ u.cells.size = P.cellsOf e ∧ ∀ j (hj : j < u.cells.size),W.cell? ((a.add (i * P.cellsOf e)).add j) = some u.cells[j] := by
                  intro i hi
                  have:=g2 i (by simpa using hi) (by omega)
                  simp only [List.getElem_range] at this
                  cases hcl:W.cells? 0 (a.add (i * P.cellsOf e)) (P.cellsOf e) with
                  | none=>rw [hcl] at this; simp at this
                  | some cl=>
                    rw [hcl] at this
                    simp only [Option.bind_some] at this
                    obtain ⟨az,s1,s2,s3⟩:=iW k fuel e cl _ _ this hp2
                    simp only [World.cells?,Nat.zero_le,if_true] at hcl
                    obtain ⟨c1,c2⟩:=nT hcl
                    have c1':cl.length = P.cellsOf e:=by simpa using c1
                    have ccell:∀ j (hj:j < cl.length),W.cell? ((a.add (i * P.cellsOf e)).add j) = some cl[j]:=fun j hj=>by
                      have:=c2 j (by simp; omega) hj
                      simpa using this
                    by_cases hag:ee (P.underlying e) = some true
                    · refine ⟨.agg az, .agg cl.toArray,⟨az,s1,by rw [hag]; rfl⟩, .agg _ _ (by simpa using s2.1.symm) (fun j h1 h2=>by simpa using (s2.2 j h1 (by simpa using h2)).1),by simpa [Value.cells] using c1',fun j hj=>?_⟩
                      have hj':j < cl.length:=by simpa [Value.cells] using hj
                      simpa [Value.cells] using ccell j hj'
                    · -- one cell
                      have hone:P.cellsOf e = 1:=by
                        cases k with
                        | zero=>simp [cN] at hp2
                        | succ k=>
                          simp only [cN] at hp2
                          cases hue:P.underlying e with
                          | none=>rw [hue] at hp2; simp at hp2
                          | some te=>rw [hue] at hp2 hag; cases te <;> simp [ee] at hp2 hag <;> first | exact hp2 | exact hp2.1 | exact hp2.1.1
                      have hcl1:∃ u,cl = [u]:=by
                        match cl,c1' with
                        | [u],_=>exact ⟨u,rfl⟩
                        | [],h=>simp at h; omega
                        | _ :: _ :: _,h=>simp at h; omega
                      obtain ⟨u,rfl⟩:=hcl1
                      have has1:∃ x,az = [x]:=by
                        have:=s2.1
                        match az,this with
                        | [x],_=>exact ⟨x,rfl⟩
                        | [],h=>simp at h
                        | _ :: _ :: _,h=>simp at h
                      obtain ⟨x,rfl⟩:=has1
                      have h0:=s2.2 0 (by simp) (by simp)
                      simp only [List.getElem_cons_zero] at h0
                      have hcs:=cY h0.1 h0.2
                      refine ⟨x,u,⟨[x],s1, ?_⟩,h0.1,by rw [hcs,hone]; rfl,fun j hj=>?_⟩
                      · unfold jO; split
                        · rename_i hh; exact absurd hh hag
                        · rfl
                      · have hj0:j = 0:=by rw [hcs] at hj; simp at hj; exact hj
                        subst hj0
                        have:=ccell 0 (by simp)
                        simp only [List.getElem_cons_zero] at this
                        rw [this]; simp [hcs]
                -- all of them
                have all:∀ n,n ≤ len → ∃ (xs:List ab) (us:List Value),xs.length = n ∧ us.length = n ∧ (∀ x ∈ xs, ∃ cs,Shaped P k e cs ∧ x = jO (ee (P.underlying e)) cs) ∧
                    ∀ i (h1:i < xs.length) (h2:i < us.length),Rv (St.start W) xs[i] us[i] ∧ us[i].cells.size = P.cellsOf e ∧ ∀ j (hj:j < us[i].cells.size),W.cell? ((a.add (i * P.cellsOf e)).add j) = some us[i].cells[j]:=by
                  intro n
                  induction n with
                  | zero=>intro _; exact ⟨[],[],rfl,rfl,fun x hx=>(by cases hx),fun i h1=>(by simp at h1)⟩
                  | succ n ih=>
                    intro hn
                    obtain ⟨xs,us,q1,q2,q3,q4⟩:=ih (by omega)
                    obtain ⟨x,u,r1,r2,r3,r4⟩:=each n (by omega)
                    refine ⟨xs ++ [x],us ++ [u],by simp [q1],by simp [q2],fun y hy=>?_,fun i h1 h2=>?_⟩
                    · rcases List.mem_append.1 hy with hy | hy
                      · exact q3 y hy
                      · simp at hy; subst hy; exact r1
                    · by_cases hi:i < n
                      · simp only [List.getElem_append_left (show i < xs.length by omega),List.getElem_append_left (show i < us.length by omega)]
                        exact q4 i (by omega) (by omega)
                      · have hin:i = n:=by simp at h1; omega
                        subst hin
                        have e1:(xs ++ [x])[i] = x:=by rw [List.getElem_append_right (by omega)]; simp [q1]
                        have e2:(us ++ [u])[i] = u:=by rw [List.getElem_append_right (by omega)]; simp [q2]
                        simp only [e1,e2]
                        exact ⟨r2,r3,r4⟩
                obtain ⟨xs,us,q1,q2,q3,q4⟩:=all len (Nat.le_refl _)
                refine ⟨[.slice (P.cellsOf e) xs],⟨xs,rfl,by omega,q3⟩, .one ?_ rfl,hp1.symm⟩
                by_cases h0:len = 0
                · have:xs = []:=List.eq_nil_of_length_eq_zero (by omega)
                  subst this; subst h0; exact .slice0 _ _ _
                · -- the address is a plain one
                  have hsp:a.spot = none:=by
                    have:=(q4 0 (by omega) (by omega)).2.2 0 (by have:=(q4 0 (by omega) (by omega)).2.1; omega)
                    have h1:=(tH this).1
                    rw [Nat.zero_mul] at h1
                    simpa [Addr.add] using h1
                  obtain ⟨blk,off,spt⟩:=a
                  simp only at hsp
                  subst hsp
                  refine .slice _ xs blk off len cap us (by omega) q1.symm hc.2.1 (fun i h1 h2=>(q4 i h1 h2).1) (fun i h2=>⟨(q4 i (by omega) h2).2.1,fun j hj=>?_⟩)
                  have:=(q4 i (by omega) h2).2.2 j hj
                  rw [bY,bY] at this
                  exact ⟨(tH this).2,this⟩
            · cases h
        · simp at h
      | struct fs=>
        simp only at hp h
        split at h
        · rename_i hlen
          cases hm:fs.toList.mapM (fun f=>DataW.trod enc P W 0 sp held fuel f.type ((cs.drop f.offset).take (P.cellsOf f.type))) with
          | none=>rw [hm] at h; simp at h
          | some xs=>
            have key:∀ (l:List Field) (xs:List (DataW H × List MemPlace)) (o:Nat),l.mapM (fun f=>DataW.trod enc P W 0 sp held fuel f.type ((cs.drop f.offset).take (P.cellsOf f.type))) = some xs → n8 (cN P k) P.cellsOf l o (P.cellsOf t) = true →
                o ≤ P.cellsOf t ∧ ∃ az,od (Shaped P k) l az ∧ p7 (St.start W) az (cs.drop o) ∧ az.length = P.cellsOf t - o:=by
              intro l
              induction l with
              | nil=>
                intro xs o _ hpl
                simp only [n8,beq_iff_eq] at hpl
                subst hpl
                refine ⟨Nat.le_refl _,[],rfl,⟨by simp; omega,fun j h1=>by simp at h1⟩,by simp⟩
              | cons f l ih=>
                intro xs o hm hpl
                simp only [n8,Bool.and_eq_true,beq_iff_eq] at hpl
                obtain ⟨⟨rfl,hpf⟩,hpl⟩:=hpl
                rw [List.mapM_cons] at hm
                cases hf:DataW.trod enc P W 0 sp held fuel f.type ((cs.drop f.offset).take (P.cellsOf f.type)) with
                | none=>simp [hf] at hm
                | some d1=>
                  cases hl:l.mapM (fun f=>DataW.trod enc P W 0 sp held fuel f.type ((cs.drop f.offset).take (P.cellsOf f.type))) with
                  | none=>simp [hf,hl] at hm
                  | some r=>
                    obtain ⟨o1,as2,s1,s2,s3⟩:=ih r _ hl hpl
                    obtain ⟨as1,t1,t2,t3⟩:=iW k fuel f.type _ _ _ hf hpf
                    refine ⟨by omega,as1 ++ as2,⟨as1,as2,rfl,t1,s1⟩, ?_,by simp [t3,s3]; omega⟩
                    have hsplit:cs.drop f.offset = (cs.drop f.offset).take (P.cellsOf f.type) ++ cs.drop (f.offset + P.cellsOf f.type):=by
                      rw [← List.drop_drop,List.take_append_drop]
                    rw [hsplit]
                    exact t2.append s2
            obtain ⟨_,az,s1,s2,s3⟩:=key _ _ 0 hm hp
            exact ⟨az,s1,by simpa using s2,by simpa using s3⟩
        · cases h
      | array n e=>
        simp only [Bool.and_eq_true,beq_iff_eq] at hp
        obtain ⟨hp1,hp2⟩:=hp
        simp only at h
        split at h
        · rename_i hlen
          cases hm:(List.range n).mapM (fun i=>DataW.trod enc P W 0 sp held fuel e ((cs.drop (i * P.cellsOf e)).take (P.cellsOf e))) with
          | none=>rw [hm] at h; simp at h
          | some xs=>
            obtain ⟨g1,g2⟩:=nT hm
            have key:∀ m,m ≤ n → ∃ az,rp (Shaped P k e) m az ∧ p7 (St.start W) az (cs.drop ((n - m) * P.cellsOf e)) ∧ az.length = m * P.cellsOf e:=by
              intro m
              induction m with
              | zero=>
                intro _
                refine ⟨[],rfl,⟨by simp [hlen,hp2],fun j h1=>by simp at h1⟩,by simp⟩
              | succ m ih=>
                intro hm'
                obtain ⟨as2,s1,s2,s3⟩:=ih (by omega)
                have:=g2 (n - (m + 1)) (by simp; omega) (by simp at g1; omega)
                simp only [List.getElem_range] at this
                obtain ⟨as1,t1,t2,t3⟩:=iW k fuel e _ _ _ this hp1
                refine ⟨as1 ++ as2,⟨as1,as2,rfl,t1,s1⟩, ?_,by simp [t3,s3,Nat.add_mul]; omega⟩
                have hsplit:cs.drop ((n - (m + 1)) * P.cellsOf e) = (cs.drop ((n - (m + 1)) * P.cellsOf e)).take (P.cellsOf e) ++ cs.drop ((n - m) * P.cellsOf e):=by
                  have e1:(n - m) * P.cellsOf e = (n - (m + 1)) * P.cellsOf e + P.cellsOf e:=by
                    rw [show n - m = (n - (m + 1)) + 1 by omega,Nat.add_mul,Nat.one_mul]
                  rw [e1, ← List.drop_drop,List.take_append_drop]
                rw [hsplit]
                exact t2.append s2
            obtain ⟨az,s1,s2,s3⟩:=key n (Nat.le_refl _)
            exact ⟨az,s1,by simpa using s2,by rw [s3,hp2]⟩
        · cases h
      | _=>simp at hp
end
open Go.RowKit
def dc (P:Program) (k:Nat):List TypeId → List ab → Prop
  | [],[]=>True
  | t :: ts,a :: az=>(∃ cs,Shaped P k t cs ∧ a = jO (ee (P.underlying t)) cs) ∧ dc P k ts az
  | _,_=>False
section
variable {H:Type} {enc:TypeId × Value → H} {P:Program} {W:World} {sp:Nat → Bool} {held:Bool}
theorem zo {k:Nat} {t:TypeId} {v:Value} {d:DataW H} {ps:List MemPlace} {base:Nat} (h:DataW.Trod enc P W 0 sp held t v d ps) (hp:cN P k t = true) (hv:Value.okWide P W .any base t v) :
    ∃ a,(∃ cs,Shaped P k t cs ∧ a = jO (ee (P.underlying t)) cs) ∧ Rv (St.start W) a v:=by
  obtain ⟨fuel,h⟩:=h
  obtain ⟨az,s1,s2,s3⟩:=iW k fuel t _ d ps h hp
  refine ⟨_,⟨az,s1,rfl⟩, ?_⟩
  have one:ee (P.underlying t) ≠ some true → P.cellsOf t = 1 → v.cells = #[v] → Rv (St.start W) (jO (ee (P.underlying t)) az) v:=by
    intro h1 h2 h3
    have hl:az.length = 1:=by omega
    match az,hl with
    | [a],_=>
      have h0:=(s2.2 0 (by simp) (by rw [h3]; simp)).1
      unfold jO
      split
      · rename_i hh; exact absurd hh h1
      · simpa [h3] using h0
  cases k with
  | zero=>simp [cN] at hp
  | succ k=>
    simp only [cN] at hp
    unfold Value.okWide Cell.okWide Cell.ok at hv
    cases hu:P.underlying t with
    | none=>rw [hu] at hp; simp at hp
    | some ty=>
      rw [hu] at hp hv one
      cases ty with
      | bool=>exact one (by simp [ee]) (by simpa using hp) (by cases v <;> first | rfl | simp at hv)
      | int q=>exact one (by simp [ee]) (by simpa using hp) (by cases v <;> first | rfl | simp at hv)
      | string=>exact one (by simp [ee]) (by simpa using hp) (by cases v <;> first | rfl | simp at hv)
      | slice e=>exact one (by simp [ee]) (by simp at hp; exact hp.1.1) (by cases v <;> first | rfl | simp at hv)
      | struct fs=>
        obtain ⟨cs,rfl,hsz,_⟩:=hv
        have e1:(Value.agg cs).cells.toList = cs.toList:=rfl
        rw [e1] at s2
        exact .agg az cs (by simpa using s2.1.symm) (fun j h1 h2=>by have:=(s2.2 j h1 (by simpa using h2)).1; rwa [Array.getElem_toList] at this)
      | array n e=>
        obtain ⟨cs,rfl,hsz,_⟩:=hv
        have e1:(Value.agg cs).cells.toList = cs.toList:=rfl
        rw [e1] at s2
        exact .agg az cs (by simpa using s2.1.symm) (fun j h1 h2=>by have:=(s2.2 j h1 (by simpa using h2)).1; rwa [Array.getElem_toList] at this)
      | _=>simp at hp
theorem qF {k base:Nat}:∀ {ts:List TypeId} {vs:List Value} {ds:List (DataW H)} {ps:List MemPlace},DataW.TrodAll enc P W 0 sp held ts vs ds ps → (∀ t ∈ ts,cN P k t = true) →
    (∀ (j:Nat) t v,ts[j]? = some t → vs[j]? = some v → Value.okWide P W .any base t v) →
    ∃ az,dc P k ts az ∧ vs.length = az.length ∧ ∀ j (h1:j < az.length) (h2:j < vs.length),Rv (St.start W) az[j] vs[j]
  | [],[],[],_,_,_,_=>⟨[],trivial,rfl,fun j h1=>by simp at h1⟩
  | t :: ts,v :: vs,d :: ds,ps,h,hp,hv=>by
    obtain ⟨p,q,h1,h2,_⟩:=h
    obtain ⟨a,a1,a2⟩:=zo h1 (hp t (by simp)) (hv 0 t v rfl rfl)
    obtain ⟨az,b1,b2,b3⟩:=qF h2 (fun t' ht=>hp t' (by simp [ht])) (fun j t' v' e1 e2=>hv (j + 1) t' v' (by simpa using e1) (by simpa using e2))
    refine ⟨a :: az,⟨a1,b1⟩,by simp [b2],fun j g1 g2=>?_⟩
    cases j with
    | zero=>exact a2
    | succ j=>simpa using b3 j (by simpa using g1) (by simpa using g2)
  | [],_ :: _,_,_,h,_,_=>by simp [DataW.TrodAll] at h
  | [],[],_ :: _,_,h,_,_=>by simp [DataW.TrodAll] at h
  | _ :: _,[],_,_,h,_,_=>by simp [DataW.TrodAll] at h
  | _ :: _,_ :: _,[],_,h,_,_=>by simp [DataW.TrodAll] at h
theorem mh {W':World} (hl:laidOutB P = true) (hb:Below W.heap.size W W'):∀ {ts:List TypeId} {vs:List Value} {ds:List (DataW H)} {ps:List MemPlace},DataW.TrodAll enc P W 0 (fun _=>true) true ts vs ds ps →
    (∀ t ∈ ts,P.readableRec t = true ∧ t < P.types.size) → (∀ p ∈ ps,p.block < W.heap.size) → DataW.TrodAll enc P W' 0 (fun b=>decide (b < W.heap.size)) true ts vs ds ps
  | [],[],[],_,h,_,_=>h
  | t :: ts,v :: vs,d :: ds,ps,h,ht,hlt=>by
    obtain ⟨p,q,h1,h2,rfl⟩:=h
    exact ⟨p,q,Below.trod hl (ht t (by simp)).1 (ht t (by simp)).2 h1 hb (fun x hx=>hlt x (by simp [hx])),mh hl hb h2 (fun t' h'=>ht t' (by simp [h'])) (fun x hx=>hlt x (by simp [hx])),rfl⟩
  | [],_ :: _,_,_,h,_,_=>by simp [DataW.TrodAll] at h
  | [],[],_ :: _,_,h,_,_=>by simp [DataW.TrodAll] at h
  | _ :: _,[],_,_,h,_,_=>by simp [DataW.TrodAll] at h
  | _ :: _,_ :: _,[],_,h,_,_=>by simp [DataW.TrodAll] at h
theorem qA:∀ {ts:List TypeId} {vs:List Value} {ds:List (DataW H)} {ps:List MemPlace},DataW.TrodAll enc P W 0 sp held ts vs ds ps → ds.length = ts.length
  | [],[],[],_,_=>rfl
  | t :: ts,v :: vs,d :: ds,ps,h=>by obtain ⟨p,q,h1,h2,rfl⟩:=h; simp [qA h2]
  | [],_ :: _,_,_,h=>by simp [DataW.TrodAll] at h
  | [],[],_ :: _,_,h=>by simp [DataW.TrodAll] at h
  | _ :: _,[],_,_,h=>by simp [DataW.TrodAll] at h
  | _ :: _,_ :: _,[],_,h=>by simp [DataW.TrodAll] at h
theorem ia {f:FuncId} {fn:Func} {s:ChangeSpec} {k:Nat} {tb:TypeId} {apart handsOn:Bool} (hres:fn.resultTypes = #[tb]) (hub:P.underlying tb = some .bool) (hvars:s.vars = [])
    (hsp:∀ ds:List (DataW H),ds.length = fn.params.size → (s.fn H ds).results = [.lit (.bool true)] ∧ (s.fn H ds).args = ds ∧ (s.fn H ds).vars = []) (hl:laidOutB P = true)
    (hty:∀ t ∈ fn.params.toList,cN P k t = true ∧ P.readableRec t = true ∧ t < P.types.size)
    (hspec:∀ az,dc P k fn.params.toList az → Spec P f az [] fun r _=>r = .ret (.bool true))
    {base:Nat} {args:Array Value} {ds gs:List (DataW H)} {before:List MemPlace} (hval:∀ (j:Nat) t v,fn.params[j]? = some t → args[j]? = some v → Value.okWide P W .any base t v)
    (hW:DataW.Whole enc P fn.params.toList s.vars apart W args.toList ds gs before) (hL:qv W:=by exact qv.nil rfl _) :
    Calls P f args W fun e W'=>∃ v,e = .returned v ∧ s.post enc P fn apart true handsOn false W args v W':=by
  have hW':=hW
  obtain ⟨p,q,hA,hV,rfl,hfz,hnd⟩:=hW
  rw [hvars] at hV
  have hgs:gs = [] ∧ q = []:=by
    cases gs with
    | nil=>exact ⟨rfl,hV⟩
    | cons=>exact hV.elim
  obtain ⟨rfl,rfl⟩:=hgs
  obtain ⟨az,a1,a2,a3⟩:=qF (k:=k) (base:=base) hA (fun t ht=>(hty t ht).1) (fun j t v e1 e2=>hval j t v (by simpa using e1) (by simpa using e2))
  have hlt:=DataW.TrodAll.lt hA
  have hdl:=qA hA
  refine (hspec az a1 W (St.start W) args rfl (BC hL) ⟨by simpa using a2,fun j h1 h2=>by have:=a3 j h1 (by simpa using h2); rwa [Array.getElem_toList] at this⟩).mono ?_
  rintro e W' ⟨r,s',rfl,hi,hg,hr,rfl⟩
  cases e <;> first | (exact hr.elim) | skip
  rename_i v
  have hv:v = .bool true:=by
    have h':Rv s' (.bool true) v:=hr
    cases h'; rfl
  subst hv
  obtain ⟨r1,r2,r3⟩:=hsp (ds ++ []) (by simpa using hdl)
  have hb:=hi.below
  refine ⟨.bool true,rfl,ds,[],p ++ [],[],p,[],hW', ?_, ?_, ?_,hb.frame _,fun h=>by cases h⟩
  · rw [r1,hres]
    exact ⟨[],[],⟨1,by simp [DataW.trod,hub,Value.cells]⟩,rfl,rfl⟩
  · rw [r2,List.append_nil]
    exact mh hl hb hA (fun t ht=>(hty t ht).2) hlt
  · rw [hvars,r3]; exact rfl
end
end Go.AM
namespace Go.Proofs.YtmjfcbpgnmajpaaGreatDoor
open Go.ChangeShapes Go.WideShapes Go.ChangeAt Go.RowKit Go.AM
theorem Tryz.own:ownKnob Tryz.prog.godebug = none:=by kernel_rfl
theorem Tryz.laidOut:laidOutB Tryz.prog = true:=by kernel_rfl
abbrev bT : List (String × DataW Unit) := [("math/bits.deBruijn32tab", Rows.laid_math_bits_deBruijn32tab), ("math/bits.deBruijn64tab", Rows.laid_math_bits_deBruijn64tab)]
theorem HX : Tryz.prog.globalNamed "math/bits.deBruijn32tab" = some 0 := by kernel_rfl
theorem IK : Tryz.prog.globalNamed "math/bits.deBruijn64tab" = some 1 := by kernel_rfl
theorem HZ:(Tryz.prog.globals[0]?).map (·.type) = some 295:=by kernel_rfl
theorem Ia:(Tryz.prog.globals[1]?).map (·.type) = some 296:=by kernel_rfl
theorem Ht:Tryz.prog.underlying 295 = some (.array 32 5):=by kernel_rfl
theorem Hq:Tryz.prog.underlying 296 = some (.array 64 5):=by kernel_rfl
theorem Gm:Tryz.prog.underlying 5 = some (.int .u8):=by kernel_rfl
theorem GQ:Tryz.prog.cellsOf 5 = 1:=by kernel_rfl
theorem xh {H:Type} {enc:TypeId × Value → H} {P:Program} {W:World} {name:String} {g m fuel base:Nat} {e t:TypeId} {q:IntKind} {cs:Array Value} {ps:List MemPlace} {L:List (IntKind × Int)} {spare:Nat → Bool} {held:Bool}
    (hg:P.globalNamed name = some g) (hv:W.var? P name = some cs) (ht:P.underlying t = some (.array m e)) (he:P.underlying e = some (.int q)) (hce:P.cellsOf e = 1)
    (hd:DataW.trod enc P W base spare held fuel t cs.toList = some (.agg (L.map fun c=>.lit (.int c.1 c.2)),ps)):∀ j (h:j < L.length),W.cell? ⟨g,j,none⟩ = some (.int L[j].1 L[j].2):=by
  obtain ⟨xs,m1,rfl,hx,hlen,hn,hel⟩:=DataW.trod_array ht hd
  simp only [Prod.mk.injEq,DataW.agg.injEq] at hx
  obtain ⟨hx,_⟩:=hx
  intro j hj
  have hxl:L.length = xs.length:=by simpa using congrArg List.length hx
  have hjx:j < xs.length:=by omega
  have h0:=hel j (by omega)
  rw [hce,List.getElem?_eq_getElem hjx] at h0
  obtain ⟨n,e1,e2,_⟩:=DataW.trod_int he h0
  have hxj:=congrArg (fun l=>l[j]?) hx
  simp only [List.getElem?_map,List.getElem?_eq_getElem hj,List.getElem?_eq_getElem hjx,Option.map_some,Option.some.injEq,e2,DataW.lit.injEq,Lit.int.injEq] at hxj
  have hc:=World.var?_cell hg hv j
  rw [hc]
  have e3:=congrArg (fun l=>l[0]?) e1
  simp at e3
  rw [e3,hxj.1,hxj.2]
theorem jR {W:World} (h:laidMetH Tryz.prog bT W):qv W:=by
  rw [MakeChecks.laidMetH_plain _ _ _ (by kernel_rfl)] at h
  obtain ⟨ps,⟨g0,t0,cs0,f0,p0,q0,hg0,ht0,hv0,hd0,⟨g1,t1,cs1,f1,p1,q1,hg1,ht1,hv1,hd1,_,_⟩,_⟩,_,_⟩:=h
  obtain rfl:=Option.some.inj (HX.symm.trans hg0)
  obtain rfl:=Option.some.inj (IK.symm.trans hg1)
  obtain rfl:=Option.some.inj (HZ.symm.trans ht0)
  obtain rfl:=Option.some.inj (Ia.symm.trans ht1)
  intro g cs hm
  simp only [eZ,List.mem_cons,List.mem_nil_iff,or_false,Prod.mk.injEq] at hm
  rcases hm with ⟨rfl,rfl⟩ | ⟨rfl,rfl⟩
  · exact xh (L:=F3) hg0 hv0 Ht Gm GQ hd0
  · exact xh (L:=GM) hg1 hv1 Hq Gm GQ hd1
theorem jF (os:Os) (args:Array Value):laidMetH Tryz.prog bT ((World.doorLaid Tryz.prog 400 os).forCall (fun _ _=>0) ⟨#[],args,[]⟩).memory:=
  laidMetH_of_parts3 (fuel:=8) (laidMet_of_run' 8 (by kernel_rfl) (by kernel_rfl)) (by kernel_rfl) (by kernel_rfl)
end Go.Proofs.YtmjfcbpgnmajpaaGreatDoor
namespace Go.AM
open Go.RowKit
inductive PM where
  | none
  | pan (v:ab)
  | recd (v:ab)
def dI (s:St):PM → FrameMode → Prop
  | .none,u=>u = .returning
  | .pan v,u=>∃ c,u = .panicking [{ v:=c,recovered:=false }] ∧ Rv s v c
  | .recd _,u=>∃ c,u = .panicking [{ v:=c,recovered:=true }]
def PM.settle:PM → PM
  | .recd _=>.none
  | m=>m
def PM.val:PM → ab
  | .pan v=>v
  | _=>.niliface
def PM.after:PM → PM
  | .pan v=>.recd v
  | m=>m
theorem dI.run {s:St} {m:PM} {u:FrameMode} (h:dI s m u):u ≠ .run:=by
  cases m with
  | none=>have h:u = .returning:=h; subst h; simp
  | pan v=>obtain ⟨c,rfl,_⟩:=h; simp
  | recd v=>obtain ⟨c,rfl⟩:=h; simp
theorem dI.settled {s:St} {m:PM} {u:FrameMode} (h:dI s m u):dI s m.settle (Go.settle u):=by
  cases m with
  | none=>have h:u = .returning:=h; subst h; rfl
  | pan v=>obtain ⟨c,rfl,hr⟩:=h; exact ⟨c,rfl,hr⟩
  | recd v=>obtain ⟨c,rfl⟩:=h; rfl
def gV (P:Program) (f:FuncId) (args:List ab) (σ:af) (m:PM) (Q:PM → af → Prop):Prop:=
  ∀ A s cargs u,s.h = σ → Inv A s → km s args cargs → dI s m u → CallsDIn Fence.wide 0 P f cargs u s.w fun e u' w'=>
    ∃ v m' s',e = .returned v ∧ s'.w = w' ∧ Inv A s' ∧ bB s s' ∧ dI s' m' u' ∧ Q m' s'.h
theorem gV.mono {P:Program} {f:FuncId} {args:List ab} {σ:af} {m:PM} {Q Q':PM → af → Prop} (h:gV P f args σ m Q) (hq:∀ m σ,Q m σ → Q' m σ):gV P f args σ m Q':=
  fun A s cargs u h1 h2 h3 h4=>(h A s cargs u h1 h2 h3 h4).mono fun _ _ _ ⟨v,m',s',a,b,c,d,e,q⟩=>⟨v,m',s',a,b,c,d,e,hq _ _ q⟩
def wL (P:Program):List tJ → af → PM → (PM → af → Prop) → Prop
  | [],σ,m,K=>K m σ
  | .coll b :: r,σ,m,K=>match σ.get b with
    | .dfr=>wL P r (σ.set b .dead) m K
    | _=>False
  | .fn (.func (.func f) [] caps) [] :: r,σ,m,K=>ak P f = true ∧ gV P f caps σ m fun m' σ'=>wL P r σ' m'.settle K
  | .fn _ _ :: _,_,_,_=>False
def Fg (rs:List (Nat × Option (Option Nat))) (R:dF → af → Prop) (e:Env):PM → af → Prop
  | .none,σ=>qu e σ rs ∧ R (.ret (nr (jL e σ rs))) σ
  | .pan v,σ=>R (.pan v) σ
  | .recd _,_=>False
def sT (P:Program) (rs:List (Nat × Option (Option Nat))) (R:dF → af → Prop):AEx → Fr → af → Prop
  | .normal,fr,σ | .ret,fr,σ=>wL P fr.ds σ .none (Fg rs R fr.v)
  | .panic v,fr,σ=>wL P fr.ds σ (.pan v) (Fg rs R fr.v)
  | _,_,_=>False
section
variable {P:Program} {N:Nat} {σ:af}
theorem dI.keeps {s s':St} (h:bf s s') {m:PM} {u:FrameMode} (hm:dI s m u):dI s' m u:=by
  cases m with
  | none=>exact hm
  | pan v=>obtain ⟨c,e,hr⟩:=hm; exact ⟨c,e,hr.keeps h⟩
  | recd v=>exact hm
theorem gl {A:World} {fn:Func} {tmps:Array Value} {R:Ending → World → Prop} {K:PM → af → Prop}:∀ {ds:List tJ} {dl:List Deferred} {s:St} {m:PM} {u:FrameMode},Inv A s → jh s ds dl → dI s m u → wL P ds s.h m K →
    (∀ s' m' u',Inv A s' → bB s s' → dI s' m' u' → K m' s'.h → LeavesIn Fence.wide 0 P fn tmps R [] u' s'.w) → LeavesInM Fence.wide 0 P fn tmps R dl u s.w
  | [],[],s,m,u,hi,_,hm,h,hend=>hend s m u hi (.refl s) hm h
  | .coll b :: ds,d :: dl,s,m,u,hi,hd,hm,h,hend=>by
    obtain ⟨⟨blk,e1,rfl⟩,hd2⟩:=hd
    simp only [wL] at h
    cases hb:s.h.get b with
    | dfr=>
      rw [hb] at h
      simp only at h
      have hbs:=af.get_some hb (by simp)
      obtain ⟨blk',e2,hB,hh,hnS⟩:=hi.obj b _ hbs
      have:blk' = blk:=by rw [e1] at e2; simpa using e2.symm
      subst this
      have hown:cL s b .dfr blk':=e1
      have hblk:blk' < s.w.heap.size:=(Array.getElem?_eq_some_iff.1 hh).1
      let s1:St:={ h:=s.h.set b .dead,lam:=s.lam,S:=s.S,w:=s.w.putObj blk' (.deferred none) }
      have hk:bf s s1:=⟨fun _ _ _ h=>h,fun _ _ h=>h,fun g o hs=>World.cell?_of_block (a:=⟨g,o,none⟩) (World.putObj_heap_other (fun e=>hnS o (e ▸ hs)))⟩
      have hgo:=hi.change (s':=s1) (List.getElem?_eq_some_iff.1 hbs).1 rfl hk (hi.below.trans ⟨rfl,rfl,rfl,by simp [s1],fun g hg=>World.putObj_heap_other (by omega)⟩) (by simp [s1]) (fun _ _ _=>rfl)
        (fun g _ hno=>World.putObj_heap_other (fun e=>hno (e ▸ ⟨_,hbs,hown⟩))) trivial (fun _ h=>h.elim) (fun _ _ h=>.inl h) (fun g x h=>by have:=hi.scell _ _ h; simp [s1]; omega)
      exact ⟨hm.run, .inl ⟨blk',s1.w,rfl,run_takeDeferred hh,gl hgo.1 (hd2.keeps hgo.2.keeps) (hm.keeps hgo.2.keeps) h (fun s' m' u' i' g' q' k'=>hend s' m' u' i' (hgo.2.trans g') q' k')⟩⟩
    | _=>rw [hb] at h; exact h.elim
  | .fn fv args :: ds,d :: dl,s,m,u,hi,hd,hm,h,hend=>by
    unfold wL at h
    split at h
    · rename_i heq; cases heq
    · rename_i heq; cases heq
    · rename_i f caps r heq
      cases heq
      obtain ⟨hb,h⟩:=h
      obtain ⟨⟨cf,cargs,r1,r2,r3⟩,hd2⟩:=hd
      cases r1 with
      | func _ _ _ fi ca hf hc q1 q2=>
        have hfi:fi = #[]:=Array.eq_empty_of_size_eq_zero (by simpa using hf)
        have hca:cargs = #[]:=Array.eq_empty_of_size_eq_zero (by simpa using r2.1)
        subst hfi hca
        have hdd:d = { target:=.fn (.func f) ca,args:=#[] ++ #[] }:=by
          have:Deferred.ofValue (.func (.func f) #[] ca) #[] = .pure { target:=.fn (.func f) ca,args:=#[] ++ #[] }:=rfl
          rw [this] at r3
          injection r3 with r3
          exact r3.symm
        subst hdd
        refine ⟨hm.run, .inr ⟨fun hd=>by simp [Fence.wide] at hd, .func f,ca,f, #[] ++ #[] ++ ca,rfl, ?_,fun _ _=>trivial, ?_⟩⟩
        · simp only [invoke]; exact nZ hb _ _
        · refine (h A s _ u rfl hi ⟨by simpa using hc,fun j g1 g2=>by have:=q2 j g1 (by simpa using g2); simpa using this⟩ hm).mono ?_
          rintro e u' w' ⟨v,m',s',rfl,rfl,i',g',hm',hk⟩
          exact gl i' (hd2.keeps g'.keeps) hm'.settled hk (fun s2 m2 u2 a b c d=>hend s2 m2 u2 a (g'.trans b) c d)
    · exact h.elim
  | [],_ :: _,_,_,_,_,hd,_,_,_=>hd.elim
  | _ :: _,[],_,_,_,_,hd,_,_,_=>hd.elim
theorem Spec.DI {f:FuncId} {fn:Func} {c:Code} {args:List ab} {rs:List (Nat × Option (Option Nat))} {R:dF → af → Prop} (hfn:P.funcs[f]? = some fn) (hb:fn.body = some c)
    (hn:fn.ntmps = N) (hrs:eJ P rs fn.results.toList = true) (ha:args.length ≤ N)
    (h:AWc P N none c (sT P rs R) { v:=cZ args 0,ds:=[] } σ):Spec P f args σ R:=by
  intro A s cargs h1 h2 h3
  refine callsIn_wide.1 (callsIn_of_wp_marks (n:=0) (F:=Fence.wide) hfn hb trivial ?_)
  have hfr:cW s N { v:=cZ args 0,ds:=[] } { tmps:=cargs ++ Array.replicate (fn.ntmps - cargs.size) Go.undef,defers:=[] }:=by
    have:=h3.1
    refine ⟨by simp; omega,fun t=>?_,trivial⟩
    rw [j8]
    simp only [Nat.zero_le,if_true,Nat.sub_zero]
    by_cases ht:t < args.length
    · have h4:t < cargs.size:=by omega
      have:=h3.2 t ht h4
      simpa [List.getD,List.getElem?_eq_getElem ht,Array.getD_eq_getD_getElem?,Array.getElem?_append,h4] using this
    · have:args.getD t .undef = .undef:=by simp [List.getD,List.getElem?_eq_none (by omega:args.length ≤ t)]
      rw [this]; exact .undef _
  refine wpIn_mono (h A s _ none h1 h2 hfr rfl) ?_
  rintro e a' w' ⟨ex,fr',s',rfl,hi,hg,hf,he,hq⟩
  have hend:∀ s2 m2 u2,Inv A s2 → bB s' s2 → dI s2 m2 u2 → Fg rs R fr'.v m2 s2.h → LeavesIn Fence.wide 0 P fn a'.tmps (bO A s R) [] u2 s2.w:=by
    intro s2 m2 u2 i2 g2 hm hk
    cases m2 with
    | none=>
      have hm:u2 = .returning:=hm
      subst hm
      obtain ⟨v,e1,e2⟩:=mi i2 (hf.keeps g2.keeps) hrs hk.1
      exact ⟨v,e1, .ret _,s2,rfl,i2,hg.trans g2,e2,hk.2⟩
    | pan v=>
      obtain ⟨c,rfl,hr⟩:=hm
      exact ⟨.pan _,s2,rfl,i2,hg.trans g2,⟨c,rfl,hr⟩,hk⟩
    | recd v=>exact hk.elim
  cases ex <;> cases e <;> first | (exact he.elim) | (exact hq.elim) | skip
  · exact gl hi hf.ds (m:=.none) rfl hq hend
  · exact gl hi hf.ds (m:=.none) rfl hq hend
  · obtain ⟨c,rfl,hrc⟩:=he
    exact gl hi hf.ds (m:=.pan _) ⟨c,rfl,hrc⟩ hq hend
theorem Spec.CA {f:FuncId} {fn:Func} {ac:AC} {rs:List (Nat × Option (Option Nat))} {args:List ab} {R:dF → af → Prop} (hfn:P.funcs[f]? = some fn)
    (hc:TF P fn N ac rs = true) (ha:args.length ≤ N) (h:AW P N none ac (sT P rs R) { v:=cZ args 0,ds:=[] } σ):Spec P f args σ R:=by
  simp only [TF,Bool.and_eq_true,decide_eq_true_eq] at hc
  obtain ⟨⟨h1,h2⟩,h3⟩:=hc
  cases hb:fn.body with
  | none=>rw [hb] at h3; cases h3
  | some c=>rw [hb] at h3; exact Spec.DI hfn hb h1 h2 ha (h c h3)
/-! ### A literal function that recovers -/
def sJ (t d:Nat) (N:Nat):List Oper → Bool
  | [o0,o1]=>decide (o0.dst = some t) && decide (t < N) && o0.guard.isNone && (match o0.op with
      | .call c=>(match c.callee with | .builtin .recover=>true | _=>false) && c.args.isEmpty
      | _=>false) && decide (o1.dst = some d) && decide (d < N) && o1.guard.isNone && (match o1.op with
      | .assign (.tmp t')=>t == t'
      | _=>false)
  | _=>false
def AK (P:Program) (fn:Func) (N t d:Nat) (rest:AC):Bool:=
  decide (fn.ntmps = N) && fn.results.isEmpty && match fn.body with
    | some (.seq (.region _ os false) y)=>sJ t d N os.toList && cD P N rest y
    | _=>false
def v7 (K:af → Prop):AEx → Fr → af → Prop
  | .normal,fr,σ | .ret,fr,σ=>fr.ds = [] ∧ K σ
  | _,_,_=>False
theorem gV.yf {f:FuncId} {fn:Func} {t d:Nat} {rest:AC} {args:List ab} {m:PM} {Q:PM → af → Prop} (hfn:P.funcs[f]? = some fn) (hc:AK P fn N t d rest = true) (ha:args.length ≤ N)
    (h:AW P N none rest (v7 (Q m.after)) { v:=(d,m.val) :: (t, .undef) :: cZ args 0,ds:=[] } σ):gV P f args σ m Q:=by
  intro A s cargs u h1 h2 h3 hm
  subst h1
  simp only [AK,Bool.and_eq_true,decide_eq_true_eq] at hc
  obtain ⟨⟨hN,hres⟩,hbody⟩:=hc
  split at hbody
  · rename_i id os y hb
    simp only [Bool.and_eq_true] at hbody
    obtain ⟨hrec,hcy⟩:=hbody
    have hres':fn.results = #[]:=by simpa using hres
    have hfr:cW s N { v:=cZ args 0,ds:=[] } { tmps:=cargs ++ Array.replicate (fn.ntmps - cargs.size) Go.undef,defers:=[] }:=by
      have:=h3.1
      refine ⟨by simp; omega,fun t=>?_,trivial⟩
      rw [j8]
      simp only [Nat.zero_le,if_true,Nat.sub_zero]
      by_cases ht:t < args.length
      · have h4:t < cargs.size:=by omega
        have:=h3.2 t ht h4
        simpa [List.getD,List.getElem?_eq_getElem ht,Array.getD_eq_getD_getElem?,Array.getElem?_append,h4] using this
      · have:args.getD t .undef = .undef:=by simp [List.getD,List.getElem?_eq_none (by omega:args.length ≤ t)]
        rw [this]; exact .undef _
    cases hos:os.toList with
    | nil=>rw [hos] at hrec; simp [sJ] at hrec
    | cons o0 l=>
      cases l with
      | nil=>rw [hos] at hrec; simp [sJ] at hrec
      | cons o1 l=>
        cases l with
        | cons _ _=>rw [hos] at hrec; simp [sJ] at hrec
        | nil=>
          rw [hos] at hrec
          have hos':os = #[o0,o1]:=by apply Array.ext'; simpa using hos
          subst hos'
          obtain ⟨d0,op0,ty0,pos0,af0,g0⟩:=o0
          obtain ⟨d1,op1,ty1,pos1,af1,g1⟩:=o1
          simp only [sJ,Bool.and_eq_true,decide_eq_true_eq] at hrec
          obtain ⟨⟨⟨⟨⟨⟨⟨c1,c2⟩,c3⟩,c4⟩,c5⟩,c6⟩,c7⟩,c8⟩:=hrec
          subst c1 c5
          have c3':g0 = none:=by simpa using c3
          have c7':g1 = none:=by simpa using c7
          subst c3' c7'
          split at c4
          · rename_i cl
            obtain ⟨cal,ca,ct⟩:=cl
            simp only [Bool.and_eq_true] at c4
            obtain ⟨c4,c4'⟩:=c4
            split at c4
            · have c4'':ca = #[]:=by simpa using c4'
              subst c4''
              split at c8
              · rename_i t'
                simp only [beq_iff_eq] at c8
                subst c8
                refine callsDIn_of_wpSIn hfn hb trivial (fun c₀ cs hmode=>?_)
                refine wpSIn_seq (wpSIn_region ?_)
                generalize hact:({ tmps:=cargs ++ Array.replicate (fn.ntmps - cargs.size) Go.undef,defers:=[] }:Act) = a at hfr ⊢
                -- what comes behind 'recover'
                have hnext:∀ (c:Value) (cs':List Frame) (u':FrameMode),Rv s m.val c → cs' = { c₀ with mode:=u' } :: cs → dI s m.after u' →
                    wpOpsSIn Fence.wide 0 P #[{ dst:=some t,op:=Op.call { callee:=.builtin .recover,args:=#[],argTypes:=ct },type:=ty0,pos:=pos0,after:=af0,guard:=none },{ dst:=some d,op:=Op.assign (.tmp t),type:=ty1,pos:=pos1,after:=af1,guard:=none }]
                      (Exit.thenS (y.wpSIn Fence.wide 0 P (bodyPostS P fn c₀ cs fun e u' w'=>∃ v m' s',e = .returned v ∧ s'.w = w' ∧ Inv A s' ∧ bB s s' ∧ dI s' m' u' ∧ Q m' s'.h)) (bodyPostS P fn c₀ cs fun e u' w'=>∃ v m' s',e = .returned v ∧ s'.w = w' ∧ Inv A s' ∧ bB s s' ∧ dI s' m' u' ∧ Q m' s'.h))
                      [1] (a.put (some t) c) cs' s.w:=by
                  intro c cs' u' hc hcs hm'
                  subst hcs
                  have f1:=hfr.put (d:=some t) (d':=some t) (by simp [TA,c2]) (v:=.undef) (.undef c)
                  have hev:(a.put (some t) c).eval (.tmp t) = c:=by
                    have:t < a.tmps.size:=by rw [hfr.size]; exact c2
                    simp [Act.eval,Act.put,this]
                  have f2:=f1.put (d:=some d) (d':=some d) (by simp [TA,c6]) hc
                  simp only [wpOpsSIn,List.getElem?_toArray,List.getElem?_cons_zero,List.getElem?_cons_succ]
                  refine ⟨fun _ _=>trivial, ?_⟩
                  rw [if_pos (by simp [Region.wanted])]
                  simp only [execOp,hev,Sem.run_pure]
                  show y.wpSIn Fence.wide 0 P _ _ _ _
                  refine wpSIn_of_wpIn rfl (wpIn_mono (h y hcy A s _ none rfl h2 f2 rfl) ?_)
                  rintro e a' w' ⟨ex,fr',s',rfl,hi,hg,hf,he,hq⟩
                  have fin:fr'.ds = [] ∧ Q m.after s'.h → a'.defers = [] ∧ ∃ u'',({ c₀ with mode:=u' } :: cs:List Frame) = { c₀ with mode:=u'' } :: cs ∧ ∃ v,(results fn a'.tmps).run P s'.w = .ok v s'.w ∧ ∃ v' m' s'',Ending.returned v = .returned v' ∧ s''.w = s'.w ∧ Inv A s'' ∧ bB s s'' ∧ dI s'' m' u'' ∧ Q m' s''.h:=by
                    rintro ⟨q1,q2⟩
                    have hd:=hf.ds
                    rw [q1] at hd
                    refine ⟨by cases hdd:a'.defers with
                      | nil=>rfl
                      | cons _ _=>rw [hdd] at hd; exact hd.elim,u',rfl, .tuple #[], ?_,_,m.after,s',rfl,rfl,hi,hg,hm'.keeps hg.keeps,q2⟩
                    rw [rX,hres']; simp
                  cases ex <;> cases e <;> first | (exact he.elim) | (exact hq.elim) | exact fin hq
                show wpOpsSIn Fence.wide 0 P _ _ [0,1] a (c₀ :: cs) s.w
                rw [wpOpsSIn]
                simp only [List.getElem?_toArray,List.getElem?_cons_zero]
                refine ⟨fun _ _=>trivial, ?_⟩
                rw [if_pos (by simp [Region.wanted])]
                have hrun:(execOp a.eval { dst:=some t,op:=Op.call { callee:=.builtin .recover,args:=#[],argTypes:=ct },type:=ty0,pos:=pos0,after:=af0,guard:=none }).run P s.w = .ok .recover s.w:=by
                  simp [execOp,resolve,invoke,builtin]
                rw [hrun]
                simp only
                cases m with
                | none=>
                  have hm:u = .returning:=hm
                  subst hm
                  have hr:recoverD (c₀ :: cs) = none:=by simp [recoverD,hmode]
                  rw [hr]
                  exact hnext .nilIface (c₀ :: cs) .returning .niliface (by rw [← hmode]) rfl
                | pan v=>
                  obtain ⟨c,rfl,hr⟩:=hm
                  have hr':recoverD (c₀ :: cs) = some (c,{ c₀ with mode:=.panicking [{ v:=c,recovered:=true }] } :: cs):=by simp [recoverD,hmode]
                  rw [hr']
                  exact hnext c _ _ hr rfl ⟨c,rfl⟩
                | recd v=>
                  obtain ⟨c,rfl⟩:=hm
                  have hr:recoverD (c₀ :: cs) = none:=by simp [recoverD,hmode]
                  rw [hr]
                  exact hnext .nilIface (c₀ :: cs) _ .niliface (by rw [← hmode]) ⟨c,rfl⟩
              · cases c8
            · cases c4
          · cases c4
  · cases hbody
end
attribute [simp] sT wL Fg v7 PM.settle PM.val PM.after
end Go.AM
