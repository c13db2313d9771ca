/- Known calls az oracles of the executor: a great run in parts. The words that a walk's simp opens. The input: what is read is a value of ours, of the type's shape; from a contract to the .. -/
import Derived.Test.YtcdfnopkemadjaaGreatDoorP18
import Derived.Test.YtcdfnopkemadjaaGreatDoorP15
import Derived.Carry
import Derived.ProofKit
import Derived.Test.YtcdfnopkemadjaaGreatDoorTie
import Derived.Test.YtcdfnopkemadjaaGreatDoorCards
import Derived.LaidMore
import Derived.Lay
import Derived.OpenShut
import Derived.SevenTiedAt
import Derived.Shelf.Vars
namespace Go.AM
mutual
def eqV:aa → aa → Bool
 | .bool a, .bool b=>a == b
 | .int j a, .int k b=>decide (j = k) && a == b
 | .str a, .str b=>a.data.toList == b.data.toList
 | .agg a, .agg b=>eqL a b
 | .tup a, .tup b=>eqL a b
 | .slice s a, .slice t b=>s == t && eqL a b
 | .nilptr, .nilptr=>true
 | .niliface, .niliface=>true
 | .nilfunc, .nilfunc=>true
 | .nilmap, .nilmap=>true
 | .pval a, .pval b=>eqV a b
 | _,_=>false
def eqL:List aa → List aa → Bool
 | [],[]=>true
 | a :: r,b :: t=>eqV a b && eqL r t
 | _,_=>false
end
mutual
theorem qF:∀ {a b:aa},eqV a b = true → a = b
 | .bool a,b,h=>by cases b <;> simp [eqV] at h; rw [h]
 | .int j a,b,h=>by cases b <;> simp [eqV] at h; rw [h.1,h.2]
 | .str a,b,h=>by
  cases b <;> simp only [eqV,Bool.false_eq_true,beq_iff_eq] at h;rename_i b;obtain ⟨a⟩:=a;obtain ⟨b⟩:=b;simp only at h;have:a = b:=Array.ext' h;rw [this]
 | .agg a,b,h=>by cases b <;> simp only [eqV,Bool.false_eq_true] at h; rw [kN h]
 | .tup a,b,h=>by cases b <;> simp only [eqV,Bool.false_eq_true] at h; rw [kN h]
 | .slice s a,b,h=>by
  cases b <;> simp only [eqV,Bool.false_eq_true,Bool.and_eq_true,beq_iff_eq] at h;rw [h.1,kN h.2]
 | .nilptr,b,h=>by cases b <;> simp [eqV] at h; rfl
 | .niliface,b,h=>by cases b <;> simp [eqV] at h; rfl
 | .nilfunc,b,h=>by cases b <;> simp [eqV] at h; rfl
 | .nilmap,b,h=>by cases b <;> simp [eqV] at h; rfl
 | .pval a,b,h=>by cases b <;> simp only [eqV,Bool.false_eq_true] at h; rw [qF h]
 | .undef,b,h=>by cases b <;> simp [eqV] at h
 | .oslice _ _ _ _,b,h=>by cases b <;> simp [eqV] at h
 | .sref _ _ _ _ _,b,h=>by cases b <;> simp [eqV] at h
 | .ptr _ _,b,h=>by cases b <;> simp [eqV] at h
 | .eptr _ _ _ _ _,b,h=>by cases b <;> simp [eqV] at h
 | .func _ _ _,b,h=>by cases b <;> simp [eqV] at h
 | .iface _ _,b,h=>by cases b <;> simp [eqV] at h
 | .map _,b,h=>by cases b <;> simp [eqV] at h
 | .opt _ _,b,h=>by cases b <;> simp [eqV] at h
 | .mint _,b,h=>by cases b <;> simp [eqV] at h
 | .iter _,b,h=>by cases b <;> simp [eqV] at h
 | .yieldf _,b,h=>by cases b <;> simp [eqV] at h
theorem kN:∀ {a b:List aa},eqL a b = true → a = b
 | [],b,h=>by cases b <;> simp [eqL] at h; rfl
 | a :: r,b,h=>by
  cases b <;> simp only [eqL,Bool.false_eq_true,Bool.and_eq_true] at h;rw [qF h.1,kN h.2]
end
structure aA where
 f:Nat
 args:List aa
 v:aa
def aq (P:Program) (e:aA):Prop:=af P e.f = true ∧ cF e.args = true ∧ e.v.pure = true ∧ Spec P e.f e.args [] fun r _=>r = .ret e.v
def aB (P:Program):List aA → Prop
 | []=>True
 | e :: r=>aq P e ∧ aB P r
def mH:List aA → Nat → List aa → Option aa
 | [],_,_=>none
 | e :: r,f,args=>if e.f = f then (match eqL e.args args with
     | true=>some e.v
     | false=>mH r f args) else mH r f args
theorem me {P:Program}:∀ {l:List aA},aB P l → ∀ f args v,mH l f args = some v → af P f = true ∧ cM P f args v
 | [],_,_,_,_,h=>by cases h
 | e :: r,⟨⟨h1,h2,h3,h4⟩,hr⟩,f,args,v,h=>by
  simp only [mH] at h
  split at h
  ·rename_i ef;subst ef
   cases he:eqL e.args args with
   | true=>
    rw [he] at h;simp only [Option.some.injEq] at h;subst h;rw [← kN he];exact ⟨h1,cM.of h3 fun σ=>Spec.x8 h4 h2 h3 σ⟩
   | false=>rw [he] at h; exact me hr _ _ _ h
  ·exact me hr _ _ _ h
def isV (v:aa):XR → Bool
 | some (.ret w,_)=>eqV w v
 | _=>false
theorem gI {P:Program} {tab:List Ent} (ht:fZ P tab) {orc:Orc} (ho:fV P orc) {L n:Nat} {e:aA} (h:isV e.v (xFc P tab L (gB P tab orc L n) [] e.f e.args []) = true) (hb:af P e.f = true) (h2:cF e.args = true) (h3:e.v.pure = true):aq P e:=by
 refine ⟨hb,h2,h3, ?_⟩
 cases hx:xFc P tab L (gB P tab orc L n) [] e.f e.args [] with
 | none=>rw [hx] at h; cases h
 | some q=>
  obtain ⟨q,σ⟩:=q;rw [hx] at h
  cases q with
  | ret v=>rw [← qF h]; exact jX ht ho hx
  | pan v=>cases h
attribute [simp ↓] kr qn nW er eS bS
attribute [simp] sj j8 u8s mC ga oR oe pb yB mB nk cJ fg fG gD jT jJ mY gX eb bx dy cX cS fO fx H2 ed bZ bG opv opg Env.get Env.put Env.only Fr.put Fr.only AEx.then AEx.inBlock AEx.noGoto o6 e9 fj jo fJ bF cH AI.val AI.side AI.quiet AI.plain AI.opers
 aa.strip aa.cond a7 eO b7 fU cB ab.get aY ij dH cZ ee putCells b9 aa.cP aa.uZ aa.cells ck cO hF eY vI mK arith jE
 zK kz unV uG aP isInt Ij so G9 sh eo eG wQ pa F9 w6 kL bw aR dG di tL lT isBool aU aa.gR aa.down aa.fm cF aa.pure aa.elems aa.cE aF b6 dv nN pT lf py jv mg np mr gU dm cm eJ du ie rdL iO jf eB bl.run bl.jC hZ eA aa.cw dY jF jm rN gqv gqs gql Cm gz iw r6 ccs cql de
open Go.RowKit
def St.start (W:World):St:={ h:=[],lam:=fun _ _=>none,S:=fun b _=>b < W.heap.size,w:=W }
def jZ (W:World):Prop:=(∀ g cs,(g,cs) ∈ bP → ∀ j (h:j < cs.length),W.cell? ⟨g,j,none⟩ = some (.int cs[j].1 cs[j].2)) ∧
 (∀ g k,(g,k) ∈ dZ → ∃ v,W.cell? ⟨g,0,none⟩ = some v ∧ Jn k v) ∧
 ∀ g cs,(g,cs) ∈ bP → g < W.heap.size ∧ W.cell? ⟨g,cs.length,none⟩ = none
theorem jZ.nil (h:bP = [] ∧ dZ = []) (W:World):jZ W:=⟨fun g cs hm=>(by rw [h.1] at hm; cases hm),fun g k hm=>(by rw [h.2] at hm; cases hm),fun g cs hm=>(by rw [h.1] at hm; cases hm)⟩
theorem kK {W:World} {g j:Nat} {v:Value} (h1:W.cell? ⟨g,j,none⟩ = some v):g < W.heap.size:=by
 simp only [World.cell?] at h1;rcases Nat.lt_or_ge g W.heap.size with h' | h'
 ·exact h'
 ·rw [Array.getElem?_eq_none h'] at h1; simp at h1
theorem jZ.start {W:World} (h:jZ W):LaidIn (St.start W):=
 ⟨fun g cs hm j hj=>⟨kK (h.1 g cs hm j hj),h.1 g cs hm j hj⟩,fun g k hm=>let ⟨_,e1,_⟩:=h.2.1 g k hm; ⟨kK e1,h.2.1 g k hm⟩,h.2.2⟩
theorem uk {W:World} (hL:jZ W):Inv W (St.start W):=
 ⟨.refl _ _,fun b o h=>by simp [St.start] at h,fun b b' o o' blk h=>by simp [St.start] at h,fun _ _ _=>rfl,fun blk o h=>h,hL.start⟩
def ke (b:Option Bool) (cs:List aa):aa:=
 match b with
 | some true=>.agg cs
 | _=>cs.getD 0 .undef
def jb (g:TypeId → Bool) (sz:TypeId → Nat):List Field → Nat → Nat → Bool
 | [],o,n=>o == n
 | f :: r,o,n=>f.offset == o && g f.type && jb g sz r (o + sz f.type) n
def cG (P:Program):Nat → TypeId → Bool
 | 0,_=>false
 | k + 1,t=>match P.underlying t with
  | some .bool | some (.int _) | some .string=>P.cellsOf t == 1
  | some (.slice e)=>P.cellsOf t == 1 && cG P k e && decide (0 < P.cellsOf e)
  | some (.struct fs)=>jb (cG P k) P.cellsOf fs.toList 0 (P.cellsOf t)
  | some (.array n e)=>cG P k e && P.cellsOf t == n * P.cellsOf e
  | _=>false
def lE (g:TypeId → List aa → Prop):List Field → List aa → Prop
 | [],az=>az = []
 | f :: r,az=>∃ a b,az = a ++ b ∧ g f.type a ∧ lE g r b
def n0 (g:List aa → Prop):Nat → List aa → Prop
 | 0,az=>az = []
 | n + 1,az=>∃ a b,az = a ++ b ∧ g a ∧ n0 g n b
def Shaped (P:Program):Nat → TypeId → List aa → Prop
 | 0,_,_=>False
 | k + 1,t,az=>match P.underlying t with
  | some .bool=>∃ b,az = [.bool b]
  | some (.int q)=>∃ n,az = [.int q n] ∧ q.min ≤ n ∧ n ≤ q.max
  | some .string=>∃ x,az = [.str x] ∧ x.size ≤ maxLen ∧ x.size ≤ reachBytes
  | some (.slice e)=>∃ xs,az = [.slice (P.cellsOf e) xs] ∧ (xs.length ≤ maxLen ∧ xs.length * P.bytesOf e ≤ reachBytes) ∧ ∀ x ∈ xs, ∃ cs,Shaped P k e cs ∧ x = ke (ea (P.underlying e)) cs
  | some (.struct fs)=>lE (Shaped P k) fs.toList az
  | some (.array n e)=>n0 (Shaped P k e) n az
  | _=>False
theorem jI {α β:Type} {f:α → Option β}:∀ {l:List α} {r:List β},l.mapM f = some r → r.length = l.length ∧ ∀ i (h1:i < l.length) (h2:i < r.length),f l[i] = some r[i]
 | [],r,h=>by simp at h; subst h; exact ⟨rfl,fun i h1=>by simp at h1⟩
 | a :: l,r,h=>by
  rw [List.mapM_cons] at h
  cases ha:f a with
  | none=>simp [ha] at h
  | some b=>
   cases hl:l.mapM f with
   | none=>simp [ha,hl] at h
   | some r'=>
    simp [ha,hl] at h;subst h;obtain ⟨h1,h2⟩:=jI hl;refine ⟨by simp [h1],fun i g1 g2=>?_⟩
    cases i with
    | zero=>simpa using ha
    | succ i=>simpa using h2 i (by simpa using g1) (by simpa using g2)
def eT (s:St) (az:List aa) (cs:List Value):Prop:=az.length = cs.length ∧ ∀ j (h1:j < az.length) (h2:j < cs.length),Rv s az[j] cs[j] ∧ az[j].cP = true
theorem eT.append {s:St} {a b:List aa} {c d:List Value} (h:eT s a c) (k:eT s b d):eT s (a ++ b) (c ++ d):=by
 refine ⟨by simp [h.1,k.1],fun j h1 h2=>?_⟩;have:=h.1;by_cases hj:j < a.length
 ·rw [List.getElem_append_left hj,List.getElem_append_left (by omega)]; exact h.2 j hj (by omega)
 ·rw [List.getElem_append_right (by omega),List.getElem_append_right (by omega)];simp only [← this];exact k.2 _ _ _
theorem eT.one {s:St} {a:aa} {c:Value} (h:Rv s a c) (hs:a.cP = true):eT s [a] [c]:=
 ⟨rfl, fun j h1 h2 => by have : j = 0 := by simp at h1; exact h1
                         subst this; exact ⟨h,hs⟩⟩
theorem Me {q:IntKind} {n:Int} (h:(Lit.int q n).wf = true):q.min ≤ n ∧ n ≤ q.max:=by
 simp only [Lit.wf,Bool.and_eq_true,decide_eq_true_eq] at h; exact h
section
variable {H:Type} {enc:TypeId × Value → H} {P:Program} {W:World} {sp:Nat → Bool} {held:Bool}
theorem jW {p:Nat → Bool} {e:TypeId}:∀ {l:List (DataW H)},(DataW.weightsAll P e l).all p = true → ∀ d ∈ l,(d.weights P e).all p = true
 | [],_,d,hd=>by cases hd
 | x :: r,h,d,hd=>by
  simp only [DataW.weightsAll,List.all_append,Bool.and_eq_true] at h;rcases List.mem_cons.1 hd with rfl | hd
  ·exact h.1
  ·exact jW h.2 d hd
theorem lV {a:Addr} {x:Value} (h:W.cell? a = some x):a.spot = none ∧ a.block < W.heap.size:=by
 obtain ⟨b,o,spt⟩:=a;simp only [World.cell?] at h
 cases spt with
 | none=>
  refine ⟨rfl, ?_⟩;rcases Nat.lt_or_ge b W.heap.size with h' | h'
  ·exact h'
  ·rw [Array.getElem?_eq_none h'] at h; simp at h
 | some y=>exfalso; split at h <;> simp at h
theorem ft : ∀ (k fuel : Nat) (t : TypeId) (cs : List Value) (d : DataW H) (ps : List MemPlace),DataW.trod enc P W 0 sp held fuel t cs = some (d,ps) → cG P k t = true → (d.weights P t).all (· ≤ reachBytes) = true →
  ∃ az,Shaped P k t az ∧ eT (St.start W) az cs ∧ az.length = P.cellsOf t
 | 0,_,_,_,_,_,_,hp,_=>by simp [cG] at hp
 | k + 1,0,_,_,_,_,h,_,_=>by simp [DataW.trod] at h
 | k + 1,fuel + 1,t,cs,d,ps,h,hp,hR=>by
  simp only [cG] at hp;simp only [DataW.trod] at h;simp only [Shaped]
  cases hu:P.underlying t with
  | none=>rw [hu] at hp; simp at hp
  | some ty=>
   rw [hu] at hp h
   cases ty with
   | bool=>
    simp only [beq_iff_eq] at hp;rcases cs with _ | ⟨v,_ | ⟨v2,r⟩⟩
    ·simp at h
    ·cases v <;> simp at h;exact ⟨[.bool _],⟨_,rfl⟩, .one (.bool _) rfl,hp.symm⟩
    ·simp at h
   | int q=>
    simp only [beq_iff_eq] at hp;rcases cs with _ | ⟨v,_ | ⟨v2,r⟩⟩
    ·simp at h
    ·cases v <;> simp at h;obtain ⟨⟨rfl,hw⟩,_⟩:=h;exact ⟨[.int _ _],⟨_,rfl,Me hw⟩, .one (.int _ _) rfl,hp.symm⟩
    ·simp at h
   | string=>
    simp only [beq_iff_eq] at hp;rcases cs with _ | ⟨v,_ | ⟨v2,r⟩⟩
    ·simp at h
    ·cases v <;> simp at h;obtain ⟨h1,rfl,_⟩:=h;simp only [DataW.weights,List.all_cons,List.all_nil,Bool.and_true,decide_eq_true_eq] at hR;exact ⟨[.str _],⟨_,rfl,h1,by simpa using hR⟩, .one (.str _) rfl,hp.symm⟩
    ·simp at h
   | slice e=>
    simp only [Bool.and_eq_true,beq_iff_eq,decide_eq_true_eq] at hp;obtain ⟨⟨hp1,hp2⟩,hp3⟩:=hp;rcases cs with _ | ⟨v,_ | ⟨v2,r⟩⟩
    ·simp at h
    ·have hv : ∃ a len cap,v = .slice a len cap := by
      cases v with
      | slice a len cap=>exact ⟨a,len,cap,rfl⟩
      | _=>simp at h
     obtain ⟨a,len,cap,rfl⟩:=hv
     cases a with
     | none=>
      have hz:len = 0 ∧ cap = 0:=by
       rcases len with _ | len
       ·rcases cap with _ | cap
        ·exact ⟨rfl,rfl⟩
        ·simp at h
       ·simp at h
      obtain ⟨rfl,rfl⟩:=hz;exact ⟨[.slice (P.cellsOf e) []],⟨[],rfl,by simp,fun x hx=>by cases hx⟩, .one (.slice0 _ _ _) rfl,hp1.symm⟩
     | some a=>
      simp only at h
      split at h
      ·rename_i hc
       cases hel:(List.range len).mapM (fun i=>(W.cells? 0 (a.add (i * P.cellsOf e)) (P.cellsOf e)).bind (DataW.trod enc P W 0 sp held fuel e)) with
       | none=>rw [hel] at h; simp at h
       | some elems=>
        obtain ⟨g1,g2⟩:=jI hel;have hlen:elems.length = len:=by simpa using g1
        have hRR:len * P.bytesOf e ≤ reachBytes ∧ ∀ x ∈ elems,(x.1.weights P e).all (· ≤ reachBytes) = true:=by
         rw [hel] at h;simp only [Option.bind_some,Option.map_eq_some_iff] at h;obtain ⟨rest,_,h2⟩:=h;obtain ⟨rfl,_⟩:=Prod.mk.inj h2;simp only [DataW.weights,hu,List.length_map,List.all_cons,List.all_append,Bool.and_eq_true,decide_eq_true_eq] at hR;refine ⟨Nat.le_trans (Nat.mul_le_mul_right _ (by omega)) hR.1,fun x hx=>jW hR.2.1 _ (List.mem_map_of_mem hx)⟩
        -- each element
        have each : ∀ i,i < len → ∃ x u,(∃ cs,Shaped P k e cs ∧ x = ke (ea (P.underlying e)) cs) ∧ Rv (St.start W) x u ∧ u.cells.size = P.cellsOf e ∧ ∀ j (hj : j < u.cells.size),W.cell? ((a.add (i * P.cellsOf e)).add j) = some u.cells[j] := by
         intro i hi;have:=g2 i (by simpa using hi) (by omega);simp only [List.getElem_range] at this
         cases hcl:W.cells? 0 (a.add (i * P.cellsOf e)) (P.cellsOf e) with
         | none=>rw [hcl] at this; simp at this
         | some cl=>
          rw [hcl] at this;simp only [Option.bind_some] at this;obtain ⟨az,s1,s2,s3⟩:=ft k fuel e cl _ _ this hp2 (hRR.2 _ (List.getElem_mem _));simp only [World.cells?,Nat.zero_le,if_true] at hcl;obtain ⟨c1,c2⟩:=jI hcl;have c1':cl.length = P.cellsOf e:=by simpa using c1
          have ccell:∀ j (hj:j < cl.length),W.cell? ((a.add (i * P.cellsOf e)).add j) = some cl[j]:=fun j hj=>by
           have:=c2 j (by simp; omega) hj;simpa using this
          by_cases hag:ea (P.underlying e) = some true
          ·refine ⟨.agg az, .agg cl.toArray,⟨az,s1,by rw [hag]; rfl⟩, .agg _ _ (by simpa using s2.1.symm) (fun j h1 h2=>by simpa using (s2.2 j h1 (by simpa using h2)).1),by simpa [Value.cells] using c1',fun j hj=>?_⟩;have hj':j < cl.length:=by simpa [Value.cells] using hj
           simpa [Value.cells] using ccell j hj'
          ·-- one cell
           have hone:P.cellsOf e = 1:=by
            cases k with
            | zero=>simp [cG] at hp2
            | succ k=>
             simp only [cG] at hp2
             cases hue:P.underlying e with
             | none=>rw [hue] at hp2; simp at hp2
             | some te=>rw [hue] at hp2 hag; cases te <;> simp [ea] at hp2 hag <;> first | exact hp2 | exact hp2.1 | exact hp2.1.1
           have hcl1:∃ u,cl = [u]:=by
            match cl,c1' with
            | [u],_=>exact ⟨u,rfl⟩
            | [],h=>simp at h; omega
            | _ :: _ :: _,h=>simp at h; omega
           obtain ⟨u,rfl⟩:=hcl1;have has1:∃ x,az = [x]:=by
            have:=s2.1
            match az,this with
            | [x],_=>exact ⟨x,rfl⟩
            | [],h=>simp at h
            | _ :: _ :: _,h=>simp at h
           obtain ⟨x,rfl⟩:=has1;have h0:=s2.2 0 (by simp) (by simp);simp only [List.getElem_cons_zero] at h0;have hcs:=bT h0.1 h0.2;refine ⟨x,u,⟨[x],s1, ?_⟩,h0.1,by rw [hcs,hone]; rfl,fun j hj=>?_⟩
           ·unfold ke; split
            ·rename_i hh; exact absurd hh hag
            ·rfl
           ·have hj0:j = 0:=by rw [hcs] at hj; simp at hj; exact hj
            subst hj0;have:=ccell 0 (by simp);simp only [List.getElem_cons_zero] at this;rw [this]; simp [hcs]
        -- all of them
        have all:∀ n,n ≤ len → ∃ (xs:List aa) (us:List Value),xs.length = n ∧ us.length = n ∧ (∀ x ∈ xs, ∃ cs,Shaped P k e cs ∧ x = ke (ea (P.underlying e)) cs) ∧
          ∀ i (h1:i < xs.length) (h2:i < us.length),Rv (St.start W) xs[i] us[i] ∧ us[i].cells.size = P.cellsOf e ∧ ∀ j (hj:j < us[i].cells.size),W.cell? ((a.add (i * P.cellsOf e)).add j) = some us[i].cells[j]:=by
         intro n
         induction n with
         | zero=>intro _; exact ⟨[],[],rfl,rfl,fun x hx=>(by cases hx),fun i h1=>(by simp at h1)⟩
         | succ n ih=>
          intro hn;obtain ⟨xs,us,q1,q2,q3,q4⟩:=ih (by omega);obtain ⟨x,u,r1,r2,r3,r4⟩:=each n (by omega);refine ⟨xs ++ [x],us ++ [u],by simp [q1],by simp [q2],fun y hy=>?_,fun i h1 h2=>?_⟩
          ·rcases List.mem_append.1 hy with hy | hy
           ·exact q3 y hy
           ·simp at hy; subst hy; exact r1
          ·by_cases hi:i < n
           ·simp only [List.getElem_append_left (show i < xs.length by omega),List.getElem_append_left (show i < us.length by omega)];exact q4 i (by omega) (by omega)
           ·have hin:i = n:=by simp at h1; omega
            subst hin;have e1:(xs ++ [x])[i] = x:=by rw [List.getElem_append_right (by omega)]; simp [q1]
            have e2:(us ++ [u])[i] = u:=by rw [List.getElem_append_right (by omega)]; simp [q2]
            simp only [e1,e2];exact ⟨r2,r3,r4⟩
        obtain ⟨xs,us,q1,q2,q3,q4⟩:=all len (Nat.le_refl _);refine ⟨[.slice (P.cellsOf e) xs],⟨xs,rfl,⟨by omega,by rw [q1]; exact hRR.1⟩,q3⟩, .one ?_ rfl,hp1.symm⟩;by_cases h0:len = 0
        ·have:xs = []:=List.eq_nil_of_length_eq_zero (by omega);subst this; subst h0; exact .slice0 _ _ _
        ·-- the address is a plain one
         have hsp:a.spot = none:=by
          have:=(q4 0 (by omega) (by omega)).2.2 0 (by have:=(q4 0 (by omega) (by omega)).2.1; omega);have h1:=(lV this).1;rw [Nat.zero_mul] at h1;simpa [Addr.add] using h1
         obtain ⟨blk,off,spt⟩:=a;simp only at hsp;subst hsp;refine .slice _ xs blk off len cap us (by omega) q1.symm hc.2.1 (fun i h1 h2=>(q4 i h1 h2).1) (fun i h2=>⟨(q4 i (by omega) h2).2.1,fun j hj=>?_⟩);have:=(q4 i (by omega) h2).2.2 j hj;rw [addr_add,addr_add] at this;exact ⟨(lV this).2,this⟩
      ·cases h
    ·simp at h
   | struct fs=>
    simp only at hp h
    split at h
    ·rename_i hlen
     cases hm:fs.toList.mapM (fun f=>DataW.trod enc P W 0 sp held fuel f.type ((cs.drop f.offset).take (P.cellsOf f.type))) with
     | none=>rw [hm] at h; simp at h
     | some xs=>
      have key:∀ (l:List Field) (xs:List (DataW H × List MemPlace)) (o:Nat),l.mapM (fun f=>DataW.trod enc P W 0 sp held fuel f.type ((cs.drop f.offset).take (P.cellsOf f.type))) = some xs → jb (cG P k) P.cellsOf l o (P.cellsOf t) = true → (DataW.weightsEach P (l.map (·.type)) (xs.map (·.1))).all (· ≤ reachBytes) = true →
        o ≤ P.cellsOf t ∧ ∃ az,lE (Shaped P k) l az ∧ eT (St.start W) az (cs.drop o) ∧ az.length = P.cellsOf t - o:=by
       intro l
       induction l with
       | nil=>
        intro xs o _ hpl _;simp only [jb,beq_iff_eq] at hpl;subst hpl;refine ⟨Nat.le_refl _,[],rfl,⟨by simp; omega,fun j h1=>by simp at h1⟩,by simp⟩
       | cons f l ih=>
        intro xs o hm hpl hRw;simp only [jb,Bool.and_eq_true,beq_iff_eq] at hpl;obtain ⟨⟨rfl,hpf⟩,hpl⟩:=hpl;rw [List.mapM_cons] at hm
        cases hf:DataW.trod enc P W 0 sp held fuel f.type ((cs.drop f.offset).take (P.cellsOf f.type)) with
        | none=>simp [hf] at hm
        | some d1=>
         cases hl:l.mapM (fun f=>DataW.trod enc P W 0 sp held fuel f.type ((cs.drop f.offset).take (P.cellsOf f.type))) with
         | none=>simp [hf,hl] at hm
         | some r=>
          rw [hf,hl] at hm;have hm':xs = d1 :: r:=(Option.some.inj hm).symm;subst hm';simp only [List.map_cons,DataW.weightsEach,List.all_append,Bool.and_eq_true] at hRw;obtain ⟨o1,as2,s1,s2,s3⟩:=ih r _ hl hpl hRw.2;obtain ⟨as1,t1,t2,t3⟩:=ft k fuel f.type _ _ _ hf hpf hRw.1;refine ⟨by omega,as1 ++ as2,⟨as1,as2,rfl,t1,s1⟩, ?_,by simp [t3,s3]; omega⟩;have hsplit:cs.drop f.offset = (cs.drop f.offset).take (P.cellsOf f.type) ++ cs.drop (f.offset + P.cellsOf f.type):=by
           rw [← List.drop_drop,List.take_append_drop]
          rw [hsplit];exact t2.append s2
      rw [hm] at h;simp only [Option.map_some,Option.some.injEq,Prod.mk.injEq] at h;obtain ⟨rfl,_⟩:=h;simp only [DataW.weights,hu] at hR;obtain ⟨_,az,s1,s2,s3⟩:=key _ _ 0 hm hp hR;exact ⟨az,s1,by simpa using s2,by simpa using s3⟩
    ·cases h
   | array n e=>
    simp only [Bool.and_eq_true,beq_iff_eq] at hp;obtain ⟨hp1,hp2⟩:=hp;simp only at h
    split at h
    ·rename_i hlen
     cases hm:(List.range n).mapM (fun i=>DataW.trod enc P W 0 sp held fuel e ((cs.drop (i * P.cellsOf e)).take (P.cellsOf e))) with
     | none=>rw [hm] at h; simp at h
     | some xs=>
      obtain ⟨g1,g2⟩:=jI hm;have hRw:∀ x ∈ xs,(x.1.weights P e).all (· ≤ reachBytes) = true:=by
       rw [hm] at h;simp only [Option.map_some,Option.some.injEq,Prod.mk.injEq] at h;obtain ⟨rfl,_⟩:=h;simp only [DataW.weights,hu] at hR;exact fun x hx=>jW hR _ (List.mem_map_of_mem hx)
      have key:∀ m,m ≤ n → ∃ az,n0 (Shaped P k e) m az ∧ eT (St.start W) az (cs.drop ((n - m) * P.cellsOf e)) ∧ az.length = m * P.cellsOf e:=by
       intro m
       induction m with
       | zero=>
        intro _;refine ⟨[],rfl,⟨by simp [hlen,hp2],fun j h1=>by simp at h1⟩,by simp⟩
       | succ m ih=>
        intro hm';obtain ⟨as2,s1,s2,s3⟩:=ih (by omega);have:=g2 (n - (m + 1)) (by simp; omega) (by simp at g1; omega);simp only [List.getElem_range] at this;obtain ⟨as1,t1,t2,t3⟩:=ft k fuel e _ _ _ this hp1 (hRw _ (List.getElem_mem _));refine ⟨as1 ++ as2,⟨as1,as2,rfl,t1,s1⟩, ?_,by simp [t3,s3,Nat.add_mul]; omega⟩;have hsplit:cs.drop ((n - (m + 1)) * P.cellsOf e) = (cs.drop ((n - (m + 1)) * P.cellsOf e)).take (P.cellsOf e) ++ cs.drop ((n - m) * P.cellsOf e):=by
         have e1:(n - m) * P.cellsOf e = (n - (m + 1)) * P.cellsOf e + P.cellsOf e:=by
          rw [show n - m = (n - (m + 1)) + 1 by omega,Nat.add_mul,Nat.one_mul]
         rw [e1, ← List.drop_drop,List.take_append_drop]
        rw [hsplit];exact t2.append s2
      obtain ⟨az,s1,s2,s3⟩:=key n (Nat.le_refl _);exact ⟨az,s1,by simpa using s2,by rw [s3,hp2]⟩
    ·cases h
   | _=>simp at hp
end
open Go.RowKit
def gx (P:Program) (k:Nat):List TypeId → List aa → Prop
 | [],[]=>True
 | t :: ts,a :: az=>(∃ cs,Shaped P k t cs ∧ a = ke (ea (P.underlying t)) cs) ∧ gx P k ts az
 | _,_=>False
section
variable {H:Type} {enc:TypeId × Value → H} {P:Program} {W:World} {sp:Nat → Bool} {held:Bool}
theorem rf {k:Nat} {t:TypeId} {v:Value} {d:DataW H} {ps:List MemPlace} {base:Nat} (h:DataW.Trod enc P W 0 sp held t v d ps) (hp:cG P k t = true) (hR:(d.weights P t).all (· ≤ reachBytes) = true) (hv:Value.okWide P W .any base t v) :
  ∃ a,(∃ cs,Shaped P k t cs ∧ a = ke (ea (P.underlying t)) cs) ∧ Rv (St.start W) a v:=by
 obtain ⟨fuel,h⟩:=h;obtain ⟨az,s1,s2,s3⟩:=ft k fuel t _ d ps h hp hR;refine ⟨_,⟨az,s1,rfl⟩, ?_⟩;have one:ea (P.underlying t) ≠ some true → P.cellsOf t = 1 → v.cells = #[v] → Rv (St.start W) (ke (ea (P.underlying t)) az) v:=by
  intro h1 h2 h3;have hl:az.length = 1:=by omega
  match az,hl with
  | [a],_=>
   have h0:=(s2.2 0 (by simp) (by rw [h3]; simp)).1;unfold ke;split
   ·rename_i hh; exact absurd hh h1
   ·simpa [h3] using h0
 cases k with
 | zero=>simp [cG] at hp
 | succ k=>
  simp only [cG] at hp;unfold Value.okWide Cell.okWide Cell.ok at hv
  cases hu:P.underlying t with
  | none=>rw [hu] at hp; simp at hp
  | some ty=>
   rw [hu] at hp hv one
   cases ty with
   | bool=>exact one (by simp [ea]) (by simpa using hp) (by cases v <;> first | rfl | simp at hv)
   | int q=>exact one (by simp [ea]) (by simpa using hp) (by cases v <;> first | rfl | simp at hv)
   | string=>exact one (by simp [ea]) (by simpa using hp) (by cases v <;> first | rfl | simp at hv)
   | slice e=>exact one (by simp [ea]) (by simp at hp; exact hp.1.1) (by cases v <;> first | rfl | simp at hv)
   | struct fs=>
    obtain ⟨cs,rfl,hsz,_⟩:=hv;have e1:(Value.agg cs).cells.toList = cs.toList:=rfl;rw [e1] at s2;exact .agg az cs (by simpa using s2.1.symm) (fun j h1 h2=>by have:=(s2.2 j h1 (by simpa using h2)).1; rwa [Array.getElem_toList] at this)
   | array n e=>
    obtain ⟨cs,rfl,hsz,_⟩:=hv;have e1:(Value.agg cs).cells.toList = cs.toList:=rfl;rw [e1] at s2;exact .agg az cs (by simpa using s2.1.symm) (fun j h1 h2=>by have:=(s2.2 j h1 (by simpa using h2)).1; rwa [Array.getElem_toList] at this)
   | _=>simp at hp
theorem j7 {k base:Nat}:∀ {ts:List TypeId} {vs:List Value} {ds:List (DataW H)} {ps:List MemPlace},DataW.TrodAll enc P W 0 sp held ts vs ds ps → (∀ t ∈ ts,cG P k t = true) → (DataW.weightsEach P ts ds).all (· ≤ reachBytes) = true →
  (∀ (j:Nat) t v,ts[j]? = some t → vs[j]? = some v → Value.okWide P W .any base t v) →
  ∃ az,gx P k ts az ∧ vs.length = az.length ∧ ∀ j (h1:j < az.length) (h2:j < vs.length),Rv (St.start W) az[j] vs[j]
 | [],[],[],_,_,_,_,_=>⟨[],trivial,rfl,fun j h1=>by simp at h1⟩
 | t :: ts,v :: vs,d :: ds,ps,h,hp,hR,hv=>by
  simp only [DataW.weightsEach,List.all_append,Bool.and_eq_true] at hR;obtain ⟨p,q,h1,h2,_⟩:=h;obtain ⟨a,a1,a2⟩:=rf h1 (hp t (by simp)) hR.1 (hv 0 t v rfl rfl);obtain ⟨az,b1,b2,b3⟩:=j7 h2 (fun t' ht=>hp t' (by simp [ht])) hR.2 (fun j t' v' e1 e2=>hv (j + 1) t' v' (by simpa using e1) (by simpa using e2));refine ⟨a :: az,⟨a1,b1⟩,by simp [b2],fun j g1 g2=>?_⟩
  cases j with
  | zero=>exact a2
  | succ j=>simpa using b3 j (by simpa using g1) (by simpa using g2)
 | [],_ :: _,_,_,h,_,_,_=>by simp [DataW.TrodAll] at h
 | [],[],_ :: _,_,h,_,_,_=>by simp [DataW.TrodAll] at h
 | _ :: _,[],_,_,h,_,_,_=>by simp [DataW.TrodAll] at h
 | _ :: _,_ :: _,[],_,h,_,_,_=>by simp [DataW.TrodAll] at h
theorem ik {W':World} (hl:laidOutB P = true) (hb:Below W.heap.size W W'):∀ {ts:List TypeId} {vs:List Value} {ds:List (DataW H)} {ps:List MemPlace},DataW.TrodAll enc P W 0 (fun _=>true) true ts vs ds ps →
  (∀ t ∈ ts,P.readableRec t = true ∧ t < P.types.size) → (∀ p ∈ ps,p.block < W.heap.size) → DataW.TrodAll enc P W' 0 (fun b=>decide (b < W.heap.size)) true ts vs ds ps
 | [],[],[],_,h,_,_=>h
 | t :: ts,v :: vs,d :: ds,ps,h,ht,hlt=>by
  obtain ⟨p,q,h1,h2,rfl⟩:=h;exact ⟨p,q,Below.trod hl (ht t (by simp)).1 (ht t (by simp)).2 h1 hb (fun x hx=>hlt x (by simp [hx])),ik hl hb h2 (fun t' h'=>ht t' (by simp [h'])) (fun x hx=>hlt x (by simp [hx])),rfl⟩
 | [],_ :: _,_,_,h,_,_=>by simp [DataW.TrodAll] at h
 | [],[],_ :: _,_,h,_,_=>by simp [DataW.TrodAll] at h
 | _ :: _,[],_,_,h,_,_=>by simp [DataW.TrodAll] at h
 | _ :: _,_ :: _,[],_,h,_,_=>by simp [DataW.TrodAll] at h
theorem j4:∀ {ts:List TypeId} {vs:List Value} {ds:List (DataW H)} {ps:List MemPlace},DataW.TrodAll enc P W 0 sp held ts vs ds ps → ds.length = ts.length
 | [],[],[],_,_=>rfl
 | t :: ts,v :: vs,d :: ds,ps,h=>by obtain ⟨p,q,h1,h2,rfl⟩:=h; simp [j4 h2]
 | [],_ :: _,_,_,h=>by simp [DataW.TrodAll] at h
 | [],[],_ :: _,_,h=>by simp [DataW.TrodAll] at h
 | _ :: _,[],_,_,h=>by simp [DataW.TrodAll] at h
 | _ :: _,_ :: _,[],_,h=>by simp [DataW.TrodAll] at h
theorem uH {f:FuncId} {fn:Func} {s:ChangeSpec} {k:Nat} {tb:TypeId} {apart handsOn:Bool} (hres:fn.resultTypes = #[tb]) (hub:P.underlying tb = some .bool) (hvars:s.vars = [])
  (hsp:∀ ds:List (DataW H),ds.length = fn.params.size → (s.fn H ds).results = [.lit (.bool true)] ∧ (s.fn H ds).args = ds ∧ (s.fn H ds).vars = []) (hl:laidOutB P = true)
  (hty:∀ t ∈ fn.params.toList,cG P k t = true ∧ P.readableRec t = true ∧ t < P.types.size)
  (hspec:∀ az,gx P k fn.params.toList az → Spec P f az [] fun r _=>r = .ret (.bool true))
  {base:Nat} {args:Array Value} {ds gs:List (DataW H)} {before:List MemPlace} (hval:∀ (j:Nat) t v,fn.params[j]? = some t → args[j]? = some v → Value.okWide P W .any base t v)
  (hW:DataW.Whole enc P fn.params.toList s.vars apart W args.toList ds gs before) (hR:(DataW.weightsEach P (fn.params.toList ++ s.plain.varTypes P) (ds ++ gs)).all (· ≤ reachBytes) = true) (hL:jZ W:=by exact jZ.nil ⟨rfl,rfl⟩ _) :
  Calls P f args W fun e W'=>∃ v,e = .returned v ∧ s.post enc P fn apart true handsOn false W args v W':=by
 have hW':=hW;obtain ⟨p,q,hA,hV,rfl,hfz,hnd⟩:=hW;rw [hvars] at hV;have hgs:gs = [] ∧ q = []:=by
  cases gs with
  | nil=>exact ⟨rfl,hV⟩
  | cons=>exact hV.elim
 obtain ⟨rfl,rfl⟩:=hgs;have hR':(DataW.weightsEach P fn.params.toList ds).all (· ≤ reachBytes) = true:=by
  have h0:s.plain.varTypes P = []:=by
   cases s; simp only at hvars; subst hvars; rfl
  rw [h0,List.append_nil,List.append_nil] at hR; exact hR
 obtain ⟨az,a1,a2,a3⟩:=j7 (k:=k) (base:=base) hA (fun t ht=>(hty t ht).1) hR' (fun j t v e1 e2=>hval j t v (by simpa using e1) (by simpa using e2));have hlt:=DataW.TrodAll.lt hA;have hdl:=j4 hA;refine (hspec az a1 W (St.start W) args rfl (uk hL) ⟨by simpa using a2,fun j h1 h2=>by have:=a3 j h1 (by simpa using h2); rwa [Array.getElem_toList] at this⟩).mono ?_;rintro e W' ⟨r,s',rfl,hi,hg,hr,rfl⟩;cases e <;> first | (exact hr.elim) | skip
 rename_i v;have hv:v = .bool true:=by
  have h':Rv s' (.bool true) v:=hr;cases h'; rfl
 subst hv;obtain ⟨r1,r2,r3⟩:=hsp (ds ++ []) (by simpa using hdl);have hb:=hi.below;refine ⟨.bool true,rfl,ds,[],p ++ [],[],p,[],hW', ?_, ?_, ?_,hb.frame _,fun h=>by cases h⟩
 ·rw [r1,hres];exact ⟨[],[],⟨1,by simp [DataW.trod,hub,Value.cells]⟩,rfl,rfl⟩
 ·rw [r2,List.append_nil];exact ik hl hb hA (fun t ht=>(hty t ht).2) hlt
 ·rw [hvars,r3]; exact rfl
end
end Go.AM
namespace Go.Proofs.YtcdfnopkemadjaaGreatDoor
open Go.ChangeShapes Go.WideShapes Go.ChangeAt Go.RowKit Go.AM
theorem Tryz.own:ownKnob Tryz.prog.godebug = none:=by kernel_rfl
theorem Tryz.laidOut:laidOutB Tryz.prog = true:=by kernel_rfl
abbrev dK : List (String × DataW Unit) := [("math/bits.deBruijn32tab", Rows.laid_math_bits_deBruijn32tab), ("math/bits.deBruijn64tab", Rows.laid_math_bits_deBruijn64tab), ("internal/strconv.uint64pow10", Rows.laid_internal_strconv_uint64pow10), ("unicode/utf8.acceptRanges", Rows.laid_unicode_utf8_acceptRanges), ("strconv.ErrRange", Rows.laid_strconv_ErrRange), ("strconv.ErrSyntax", Rows.laid_strconv_ErrSyntax), ("unicode/utf8.first", Rows.laid_unicode_utf8_first)]
theorem aha : Tryz.prog.globalNamed "internal/strconv.uint64pow10" = some 5 := by kernel_rfl
theorem aip : Tryz.prog.globalNamed "strconv.ErrSyntax" = some 1 := by kernel_rfl
theorem ago : Tryz.prog.globalNamed "strconv.ErrRange" = some 2 := by kernel_rfl
theorem agB:(Tryz.prog.globals[5]?).map (·.type) = some 458:=by kernel_rfl
theorem ah9:(Tryz.prog.globals[1]?).map (·.type) = some 143:=by kernel_rfl
theorem ahC:(Tryz.prog.globals[2]?).map (·.type) = some 143:=by kernel_rfl
theorem aey:Tryz.prog.underlying 458 = some (.array 20 388):=by kernel_rfl
theorem Y6:Tryz.prog.underlying 388 = some (.int .u64):=by kernel_rfl
theorem Xb:Tryz.prog.cellsOf 388 = 1:=by kernel_rfl
theorem Y2 : Tryz.prog.underlying 143 = some (.interface #[("Error", 112)]) := by kernel_rfl
theorem KS : Tryz.prog.globalNamed "math/bits.deBruijn32tab" = some 6 := by kernel_rfl
theorem J5 : Tryz.prog.globalNamed "math/bits.deBruijn64tab" = some 7 := by kernel_rfl
theorem LS:(Tryz.prog.globals[6]?).map (·.type) = some 487:=by kernel_rfl
theorem KP:(Tryz.prog.globals[7]?).map (·.type) = some 488:=by kernel_rfl
theorem Bm:Tryz.prog.underlying 487 = some (.array 32 5):=by kernel_rfl
theorem xp:Tryz.prog.underlying 488 = some (.array 64 5):=by kernel_rfl
theorem Jq:Tryz.prog.underlying 5 = some (.int .u8):=by kernel_rfl
theorem Jh:Tryz.prog.cellsOf 5 = 1:=by kernel_rfl
theorem lH {H:Type} {enc:TypeId × Value → H} {P:Program} {W:World} {name:String} {g m fuel base:Nat} {e t:TypeId} {q:IntKind} {cs:Array Value} {ps:List MemPlace} {L:List (IntKind × Int)} {spare:Nat → Bool} {held:Bool}
  (hg:P.globalNamed name = some g) (hv:W.var? P name = some cs) (ht:P.underlying t = some (.array m e)) (he:P.underlying e = some (.int q)) (hce:P.cellsOf e = 1)
  (hd:DataW.trod enc P W base spare held fuel t cs.toList = some (.agg (L.map fun c=>.lit (.int c.1 c.2)),ps)):∀ j (h:j < L.length),W.cell? ⟨g,j,none⟩ = some (.int L[j].1 L[j].2):=by
 obtain ⟨xs,m1,rfl,hx,hlen,hn,hel⟩:=DataW.trod_array ht hd;simp only [Prod.mk.injEq,DataW.agg.injEq] at hx;obtain ⟨hx,_⟩:=hx;intro j hj;have hxl:L.length = xs.length:=by simpa using congrArg List.length hx
 have hjx:j < xs.length:=by omega
 have h0:=hel j (by omega);rw [hce,List.getElem?_eq_getElem hjx] at h0;obtain ⟨n,e1,e2,_⟩:=DataW.trod_int he h0;have hxj:=congrArg (fun l=>l[j]?) hx;simp only [List.getElem?_map,List.getElem?_eq_getElem hj,List.getElem?_eq_getElem hjx,Option.map_some,Option.some.injEq,e2,DataW.lit.injEq,Lit.int.injEq] at hxj;have hc:=World.var?_cell hg hv j;rw [hc];have e3:=congrArg (fun l=>l[0]?) e1;simp at e3;rw [e3,hxj.1,hxj.2]
theorem lA {H:Type} {enc:TypeId × Value → H} {P:Program} {W:World} {name:String} {g m fuel base:Nat} {e t:TypeId} {cs:Array Value} {ps:List MemPlace} {L:List (IntKind × Int)} {spare:Nat → Bool} {held:Bool}
  (hg:P.globalNamed name = some g) (hv:W.var? P name = some cs) (ht:P.underlying t = some (.array m e)) (hct:P.cellsOf t = L.length)
  (hd:DataW.trod enc P W base spare held fuel t cs.toList = some (.agg (L.map fun c=>.lit (.int c.1 c.2)),ps)):g < W.heap.size ∧ W.cell? ⟨g,L.length,none⟩ = none:=by
 obtain ⟨xs,m1,rfl,hx,hlen,hn,hel⟩:=DataW.trod_array ht hd;have hc:=World.var?_cell hg hv L.length;refine ⟨?_, ?_⟩
 ·simp only [World.var?,hg,Option.bind_some] at hv;rcases Nat.lt_or_ge g W.heap.size with h' | h'
  ·exact h'
  ·rw [Array.getElem?_eq_none h'] at hv; simp at hv
 ·rw [hc];exact Array.getElem?_eq_none (by rw [hct] at hlen; simp at hlen; omega)
theorem ld {P:Program} {W:World} {name dn:String} {g fuel base:Nat} {t:TypeId} {m:Array (String × TypeId)} {cs:Array Value} {d:DataW Unit} {ps:List MemPlace} {spare:Nat → Bool}
  (hg:P.globalNamed name = some g) (hv:W.var? P name = some cs) (ht:P.underlying t = some (.interface m))
  (hd:DataW.trod (fun _=>()) P W base spare false fuel t cs.toList = some (.iface dn d,ps)):∃ te v,W.cell? ⟨g,0,none⟩ = some (.iface te v):=by
 have hc:=World.var?_cell hg hv 0;rw [hc]
 cases fuel with
 | zero=>simp [DataW.trod] at hd
 | succ fuel=>
  obtain ⟨cs⟩:=cs;simp only [DataW.trod,ht] at hd;rcases cs with _ | ⟨c,_ | ⟨c2,r⟩⟩
  ·simp at hd
  ·cases c <;> simp at hd;exact ⟨_,_,rfl⟩
  ·simp at hd
theorem p7 {W:World} (h:W.ShapedOpen Tryz.prog):∃ m,W.cell? ⟨0,0,none⟩ = some (.int .i64 m):=
 cell_of_shapedOpen_int (zero:=#[.int .i64 0]) (t:=3) h (of_decide_eq_true (by kernel_rfl)) (by kernel_rfl) rfl (by kernel_rfl) (by kernel_rfl) (by kernel_rfl)
theorem Ey:(Rows.laid_internal_strconv_uint64pow10:DataW Unit) = .agg (pJ.map fun c=>.lit (.int c.1 c.2)):=rfl
theorem B9:(Rows.laid_math_bits_deBruijn32tab:DataW Unit) = .agg (Jw.map fun c=>.lit (.int c.1 c.2)):=rfl
theorem w7:(Rows.laid_math_bits_deBruijn64tab:DataW Unit) = .agg (Jf.map fun c=>.lit (.int c.1 c.2)):=rfl
theorem Db {W:World} (h:laidMetH Tryz.prog dK W) (hs:W.ShapedOpen Tryz.prog):jZ W:=by
 rw [MakeChecks.laidMetH_plain _ _ _ (by kernel_rfl)] at h;obtain ⟨ps,⟨g0,t0,cs0,f0,p0,q0,hg0,ht0,hv0,hd0,⟨g1,t1,cs1,f1,p1,q1,hg1,ht1,hv1,hd1,⟨g2,t2,cs2,f2,p2,q2,hg2,ht2,hv2,hd2,⟨_,_,_,_,_,_,_,_,_,_,⟨g4,t4,cs4,f4,p4,q4,hg4,ht4,hv4,hd4,⟨g5,t5,cs5,f5,p5,q5,hg5,ht5,hv5,hd5,_,_⟩,_⟩,_⟩,_⟩,_⟩,_⟩,_,_⟩:=h;obtain rfl:=Option.some.inj (aha.symm.trans hg2);obtain rfl:=Option.some.inj (ago.symm.trans hg4);obtain rfl:=Option.some.inj (aip.symm.trans hg5);obtain rfl:=Option.some.inj (agB.symm.trans ht2);obtain rfl:=Option.some.inj (ahC.symm.trans ht4);obtain rfl:=Option.some.inj (ah9.symm.trans ht5);obtain rfl:=Option.some.inj (KS.symm.trans hg0);obtain rfl:=Option.some.inj (J5.symm.trans hg1);obtain rfl:=Option.some.inj (LS.symm.trans ht0);obtain rfl:=Option.some.inj (KP.symm.trans ht1);rw [Ey] at hd2;rw [B9] at hd0;rw [w7] at hd1;refine ⟨fun g cs hm=>?_,fun g k hm=>?_,fun g cs hm=>?_⟩
 ·simp only [bP,List.mem_cons,List.mem_nil_iff,or_false,Prod.mk.injEq] at hm;rcases hm with ⟨rfl,rfl⟩ | ⟨rfl,rfl⟩ | ⟨rfl,rfl⟩
  ·exact lH hg2 hv2 aey Y6 Xb hd2
  ·exact lH hg0 hv0 Bm Jq Jh hd0
  ·exact lH hg1 hv1 xp Jq Jh hd1
 ·simp only [dZ,List.mem_cons,List.mem_nil_iff,or_false,Prod.mk.injEq] at hm;rcases hm with ⟨rfl,rfl⟩ | ⟨rfl,rfl⟩ | ⟨rfl,rfl⟩
  ·obtain ⟨m,hm⟩:=p7 hs;exact ⟨_,hm,m,rfl⟩
  ·obtain ⟨te,v,hc⟩:=ld hg5 hv5 Y2 hd5;exact ⟨_,hc,te,v,rfl⟩
  ·obtain ⟨te,v,hc⟩:=ld hg4 hv4 Y2 hd4;exact ⟨_,hc,te,v,rfl⟩
 ·simp only [bP,List.mem_cons,List.mem_nil_iff,or_false,Prod.mk.injEq] at hm;rcases hm with ⟨rfl,rfl⟩ | ⟨rfl,rfl⟩ | ⟨rfl,rfl⟩
  ·exact lA hg2 hv2 aey (by kernel_rfl) hd2
  ·exact lA hg0 hv0 Bm (by kernel_rfl) hd0
  ·exact lA hg1 hv1 xp (by kernel_rfl) hd1
theorem Ib (os:Os) (args:Array Value):laidMetH Tryz.prog dK ((World.laidAll Tryz.prog os dK).forCall (fun _ _=>0) ⟨#[],args,[]⟩).memory:=by
 rw [MakeChecks.laidMetH_plain _ _ _ (by kernel_rfl)];exact laidMet_laidAll _ (by kernel_rfl) (by kernel_rfl)
theorem qy (os:Os) (args:Array Value):((World.laidAll Tryz.prog os dK).forCall (fun _ _=>0) ⟨#[],args,[]⟩).Shaped Tryz.prog:=
 World.shaped_of_ZipB (by kernel_rfl) (by kernel_rfl)
theorem iM {H:Type} {enc:TypeId × Value → H} {a:Assume} {C:Checked} {os:Os} {f:FuncId} {fn:Func} {s:ChangeSpec} {conds:List PathCond} {apart fresh handsOn again:Bool} {X:World → Array Value → Prop}
  (hX:∀ (w w':World) (args:Array Value),w.heap = w'.heap → X w args → X w' args)
  (own:ownKnob C.prog.godebug = none) (started:os.Started) (noInit:C.prog.inits.idxOf? f = none) (hfn:C.prog.funcs[f]? = some fn)
  (witness:∃ (w:World) (tape:Tape) (i:Input),w.os = os ∧ (w.forCall tape i).Shaped C.prog ∧ i.vars = [] ∧ Input.okWide C.prog (w.forCall tape i) .any w.heap.size f i ∧
   ((s.pre enc C.prog fn conds apart (w.forCall tape i).memory i.args ∧ X (w.forCall tape i).memory i.args) ∧ sizedMet enc C.prog fn (OpenSpec.ofChange s) apart (w.forCall tape i).memory i.args) ∧ a.holds C.prog (lone (Frame.enter C.prog f i.args .normal) [] (w.forCall tape i)))
  (contract:∀ (W:World) (base:Nat) (args:Array Value) (ds gs:List (DataW H)) (before:List MemPlace),
   (∀ (j:Nat) t v,fn.params[j]? = some t → args[j]? = some v → Value.okWide C.prog W .any base t v) →
   DataW.Whole enc C.prog fn.params.toList s.vars apart W args.toList ds gs before →
   (DataW.weightsEach C.prog (fn.params.toList ++ s.plain.varTypes C.prog) (ds ++ gs)).all (· ≤ reachBytes) = true → X W args → W.ShapedOpen C.prog →
   Calls C.prog f args W fun e W'=>∃ v,e = .returned v ∧ s.post enc C.prog fn apart fresh handsOn again W args v W') :
  ReturnsInHanded a C os f .any (fun w args=>(s.pre enc C.prog fn conds apart w args ∧ X w args) ∧ sizedMet enc C.prog fn (OpenSpec.ofChange s) apart w args) (s.post enc C.prog fn apart fresh handsOn again):=by
 refine returnsInHanded_of_calls own started noInit witness ?_;intro w tape i _ hsh _ hok hpre _;obtain ⟨_,_,_,fn',hfn',_,_,_,_,hval⟩:=hok;have e:fn' = fn:=Option.some.inj (hfn'.symm.trans hfn);subst e;obtain ⟨⟨⟨ds,gs,before,hw,hc⟩,hx⟩,hz⟩:=hpre;have hw':=DataW.Whole.of_heap (w':=w.forCall tape i) (by rfl) hw;refine (contract (w.forCall tape i) w.heap.size i.args ds gs before hval hw' (hz.weights hw) (hX _ _ _ (by rfl) hx) hsh).mono fun e W' ⟨v,he,hp⟩=>?_
 subst he;exact ChangeSpec.post_blind hp
theorem ve {P:Program} {f:FuncId} {fn:Func} {s:ChangeSpec} {c:OpenClaim}
  (hA:(laidOutB P && mapsRowed P && (P.stops == []) && (P.stopKnobs == []) && P.stopsHeard && P.mayEnter) = true)
  (h1:(c.inPlace == P.inPlace f) = true) (h2:(c.unfollowed == P.unfollowed f) = true) (h3:(c.recurses == P.recurses f) = true) (h4:(c.named == P.varsNamed f) = true)
  (hB:(c.wf (OpenSpec.ofChange s) && fn.params.all (P.readableRec ·) && namedTie P c.named s.vars && (c.stops == []) && (c.knobs == [])) = true)
  (hC:((c.maps == (fn.params.toList ++ s.plain.varTypes P).any (P.mapsRec ·)) && (c.ifaces == (fn.params.toList ++ s.plain.varTypes P).any (P.ifacesRec ·)) && (c.mapsOut == P.mapsAmong fn.resultTypes.toList) &&
   (c.loops == (fn.params.toList ++ s.plain.varTypes P).any (P.loopsFrom ·)) && (c.wideKeys == (fn.params.toList ++ s.plain.varTypes P ++ fn.resultTypes.toList).any (P.wideKeysFrom ·)) && s.vars.all (P.varReadable ·) &&
   fn.resultTypes.all (fun t=>P.readableRec t && decide (t < P.types.size)) && (c.ifacesOut == fn.resultTypes.toList.any (P.ifacesRec ·)) && (c.loopsOut == fn.resultTypes.toList.any (P.loopsFrom ·))) = true)
  (hD:((c.plainKeys == P.plainKeys) && c.shortTexts.isNone && (c.lifted == P.liftsFinal) && (P.make == some c.make) && (c.kinds == (if c.domain.isEmpty then [] else fn.params.toList.map fun t=>match P.underlying t with | some (.int k)=>some k | _=>none)) && (c.pinned == c.pinnedBy) &&
   (c.veiled == (fn.params.toList ++ s.plain.varTypes P ++ fn.resultTypes.toList).any (P.veiledRec ·)) && c.veiledFits P fn.params.toList (fn.params.toList ++ s.plain.varTypes P ++ fn.resultTypes.toList)) = true):joinedFacts P f fn s c = true:=by
 simp only [Bool.and_eq_true] at hA hB hC hD;obtain ⟨⟨⟨⟨⟨a1,a2⟩,a3⟩,a4⟩,a5⟩,a6⟩:=hA;obtain ⟨⟨⟨⟨b1,b2⟩,b3⟩,b4⟩,b5⟩:=hB;obtain ⟨⟨⟨⟨⟨⟨⟨⟨c1,c2⟩,c3⟩,c4⟩,c5⟩,c6⟩,c7⟩,c8⟩,c9⟩:=hC;obtain ⟨⟨⟨⟨⟨⟨⟨d1,d2⟩,d3⟩,d4⟩,d5⟩,d6⟩,d7⟩,d8⟩:=hD;simp only [joinedFacts,Bool.and_eq_true];exact ⟨⟨⟨⟨⟨⟨⟨⟨⟨⟨⟨⟨⟨⟨⟨⟨⟨⟨⟨⟨⟨⟨⟨⟨⟨⟨⟨⟨⟨⟨⟨b1,a1⟩,a2⟩,b2⟩,b3⟩,b4⟩,a3⟩,b5⟩,a4⟩,h1⟩,h2⟩,h3⟩,h4⟩,c1⟩,c2⟩,c3⟩,c4⟩,c5⟩,c6⟩,c7⟩,c8⟩,c9⟩,d1⟩,d2⟩,a5⟩,a6⟩,d3⟩,d4⟩,d5⟩,d6⟩,d7⟩,d8⟩
theorem Tryz.alone:(laidOutB Tryz.prog && mapsRowed Tryz.prog && (Tryz.prog.stops == []) && (Tryz.prog.stopKnobs == []) && Tryz.prog.stopsHeard && Tryz.prog.mayEnter) = true:=by kernel_rfl
end Go.Proofs.YtcdfnopkemadjaaGreatDoor
