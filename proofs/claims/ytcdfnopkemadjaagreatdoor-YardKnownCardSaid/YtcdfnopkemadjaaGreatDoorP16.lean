/- An executor: it runs abstract code on known values; what it says holds of the program. -/
import Derived.Test.YtcdfnopkemadjaaGreatDoorP15
namespace Go.AM
open Go.RowKit
abbrev XR:=Option (bh × ab)
structure Rnd where
 b:Nat
 N:Nat
 asg:AC
 body:AC
def xv:XV → XR
 | some (v,σ)=>some (.ret v,σ)
 | none=>none
def qP (ok:Bool) (z:aa) (σ:ab) (x k:aa):XV:=
 match x with
 | .map b=>match σ.get b with
  | .amap es=>if cS k k && cX k es then some (cJ ok z (bx k es),σ) else none
  | _=>none
 | _=>none
def qx (σ:ab) (x k v:aa):XV:=
 match x with
 | .map b=>match σ.get b with
  | .amap es=>if cS k k && cX k es then some (.undef,σ.set b (.amap (dy k v es))) else none
  | _=>none
 | _=>none
def B4 (z:aa) (σ:ab) (x k:aa):XV:=
 match x with
 | .map b=>match σ.get b with
  | .amap es=>if cS k k && cX k es then some (.tup [cJ false z (bx k es), .int .i64 (eb k es 0)],σ.set b (.amap (dy k (cJ false z (bx k es)) es))) else none
  | _=>none
 | _=>none
def n8 (σ:ab) (x s v:aa):XV:=
 match x,s with
 | .map b, .int .i64 n=>match σ.get b with
  | .amap es=>if decide (0 ≤ n) && decide (n < es.length) then some (.undef,σ.set b (.amap (es.set n.toNat ((es.getD n.toNat (.undef, .undef)).1,v)))) else none
  | _=>none
 | _,_=>none
def EH (bytes:Nat) (σ:ab) (x y:aa):XV:=
 match y with
 | .str s=>jd 1 bytes σ x (lh s)
 | _=>none
def Dx (n sz:Nat) (σ:ab) (x:aa):XV:=
 match x with
 | .pval (.agg cs)=>if decide (2 ≤ sz % 1000) && decide (sz / 1000 < n) && cs.length == n * (sz % 1000) then some (rH n sz cs,σ) else none
 | _=>none
section
variable {σ σ':ab} {x k v w:aa} {K:aa → ab → Prop}
theorem Ft {n sz:Nat} (h:Dx n sz σ x = some (v,σ')) (hk:K v σ'):j8 n sz σ x K:=by
 unfold Dx at h
 split at h
 ·split at h
  ·rename_i cs hc;cases h;simp only [Bool.and_eq_true,decide_eq_true_eq,beq_iff_eq] at hc;simp only [j8];exact ⟨hc.1.1,hc.1.2,hc.2,hk⟩
  ·cases h
 ·cases h
theorem vT {ok:Bool} {z:aa} (h:qP ok z σ x k = some (v,σ')) (hk:K v σ'):jT ok z σ x k K:=by
 unfold qP at h
 split at h
 ·rename_i b
  split at h
  ·rename_i es he
   split at h
   ·rename_i hc;cases h;rw [Bool.and_eq_true] at hc;simp only [jT,he];exact ⟨hc.1,hc.2,hk⟩
   ·cases h
  ·cases h
 ·cases h
theorem va (h:qx σ x k w = some (v,σ')) (hk:K v σ'):jJ σ x k w K:=by
 unfold qx at h
 split at h
 ·rename_i b
  split at h
  ·rename_i es he
   split at h
   ·rename_i hc;cases h;rw [Bool.and_eq_true] at hc;simp only [jJ,he];exact ⟨hc.1,hc.2,hk⟩
   ·cases h
  ·cases h
 ·cases h
theorem yD {z:aa} (h:B4 z σ x k = some (v,σ')) (hk:K v σ'):mY z σ x k K:=by
 unfold B4 at h
 split at h
 ·rename_i b
  split at h
  ·rename_i es he
   split at h
   ·rename_i hc;cases h;rw [Bool.and_eq_true] at hc;simp only [mY,he];exact ⟨hc.1,hc.2,hk⟩
   ·cases h
  ·cases h
 ·cases h
theorem rl (h:n8 σ x k w = some (v,σ')) (hk:K v σ'):gX σ x k w K:=by
 unfold n8 at h
 split at h
 ·rename_i b n
  split at h
  ·rename_i es he
   split at h
   ·rename_i hc;cases h;rw [Bool.and_eq_true,decide_eq_true_eq,decide_eq_true_eq] at hc;simp only [gX,he];exact ⟨hc.1,hc.2,hk⟩
   ·cases h
  ·cases h
 ·cases h
theorem xg {bytes:Nat} (h:EH bytes σ x k = some (v,σ')) (hk:K v σ'):sj bytes σ x k K:=by
 unfold EH at h
 split at h
 ·exact lL h hk
 ·cases h
end
def xI (call:aa → List aa → ab → XR) (ρ:ay → aa) (σ:ab):AI → XR
 | .alloc z=>some (.ret (.ptr (σ.length + (a7 z σ.length).2.length) 0),σ ++ (a7 z σ.length).2 ++ [.box (a7 z σ.length).1])
 | .box n x=>if bC (ρ x) n then some (.ret (.ptr σ.length 0),σ ++ [.box (ρ x).cells]) else none
 | .pbox n x=>if bC (ρ x) n then some (.ret (.pval (ρ x)),σ) else none
 | .loadd k x=>if kp k σ (ρ x) then some (.ret (fU k σ (ρ x)).gR,σ) else none
 | .mvd x=>some (.ret (ρ x).gR,σ)
 | .buildm z ps=>if oE (a7 z σ.length).1.length ρ ps then some (.ret (.agg (ij (a7 z σ.length).1 (ps.map fun p=>(p.1,(ρ p.2.2).cells)))),σ ++ (a7 z σ.length).2) else none
 | .storem sz x=>if sz < 1000 then (if gP (σ ++ [.spare sz 0]) 1 (.oslice sz [] σ.length 0) (ρ x) then some (.ret .undef,cO (σ ++ [.spare sz 0]) (.oslice sz [] σ.length 0) (ρ x)) else none)
  else (if gP (σ ++ [.arr (sz - 1000) []]) 1 (.sref (sz - 1000) σ.length 0 0 0) (ρ x) then some (.ret .undef,cO (σ ++ [.arr (sz - 1000) []]) (.sref (sz - 1000) σ.length 0 0 0) (ρ x)) else none)
 | .nilS m sz=>if m = 1 then some (.ret (.oslice sz [] σ.length 0),σ ++ [.spare sz 0]) else if m = 3 then some (.ret (.oslice sz [] σ.length 1),σ ++ [.spare sz 1]) else some (.ret (.sref sz σ.length 0 0 0),σ ++ [.arr sz []])
 | .lit m sz n ps=>if qq sz n ρ ps then (if m = 0 then some (.ret (.slice sz (cZ ρ (List.replicate n .undef) ps)),σ)
   else if m = 1 then some (.ret (.oslice sz (cZ ρ (List.replicate n .undef) ps) σ.length 0),σ ++ [.spare sz 0])
   else some (.ret (.sref sz σ.length 0 n n),σ ++ [.arr sz (cZ ρ (List.replicate n .undef) ps)])) else none
 | .store sz x v=>if gP σ sz (ρ v) (ρ x) then some (.ret .undef,cO σ (ρ v) (ρ x)) else none
 | .call f dn l=>call (ρ f) (aU dn (l.map ρ)) σ
 | .append sz bytes x y=>if iK σ sz (ρ y) && kb sz ((ρ y).elems σ) then xv (jd sz bytes σ (ρ x) ((ρ y).elems σ)) else none
 | .sub m sz x lo hi mx=>if pP ρ lo && pP ρ hi && pP ρ mx then xv (GK m sz σ (ρ x) (aF ρ 0 lo) (fun n=>aF ρ n hi) (mx.map fun x=>aP (ρ x))) else none
 | .freeze sz x=>xv (nI sz σ (ρ x))
 | .range x=>xv (qJ σ (ρ x))
 | .subO sz x lo=>xv (zC sz σ (ρ x) (ρ lo))
 | .isnil neg x=>xv (qz neg σ (ρ x))
 | .snil neg x=>xv (Ev neg σ (ρ x))
 | .gix g x=>xv (MO g σ (ρ x))
 | .mnew=>some (.ret (.map σ.length),σ ++ [.amap []])
 | .mget ok lk z x i=>xv (BC ok lk z σ (ρ x) (ρ i))
 | .mset lk x k v=>xv (zq lk σ (ρ x) (ρ k) (ρ v))
 | .next x=>xv (Av σ (ρ x))
 | .allocB=>some (.ret (.ptr σ.length 0),σ ++ [.bld 0 []])
 | .jB bytes x y=>xv (EH bytes σ (ρ x) (ρ y))
 | .subA n sz x=>xv (Dx n sz σ (ρ x))
 | .mgetp ok z x i=>xv (qP ok z σ (ρ x) (ρ i))
 | .msetp x k v=>xv (qx σ (ρ x) (ρ k) (ρ v))
 | .ment z x k=>xv (B4 z σ (ρ x) (ρ k))
 | .estore x s v=>xv (n8 σ (ρ x) (ρ s) (ρ v))
 | .mksl m sz bytes z n c=>if dI (ρ n) && dI (ρ c) then xv (xA m sz bytes σ z (aP (ρ n)) (aP (ρ c))) else none
 | .clear sz z x=>xv (rJ sz σ z (ρ x))
 | .copyB sz x y=>if iK σ sz (ρ y) && kb sz ((ρ y).elems σ) then xv (yh sz σ (ρ x) ((ρ y).elems σ)) else none
 | .panic x=>match ρ x with
  | .iface t v=>some (.pan (.iface t v),σ)
  | _=>none
 | i=>if i.plain && bB ρ σ i then some (.ret (i.val ρ σ),σ) else none
def KG (K Kp:aa → ab → Prop):bh → ab → Prop
 | .ret v,σ=>K v σ
 | .pan v,σ=>Kp v σ
theorem bo {x:XV} {r:bh} {σ:ab} (h:xv x = some (r,σ)):∃ v,x = some (v,σ) ∧ r = .ret v:=by
 cases x with
 | none=>cases h
 | some p=>obtain ⟨v,s⟩:=p; simp only [xv,Option.some.injEq,Prod.mk.injEq] at h; obtain ⟨rfl,rfl⟩:=h; exact ⟨v,rfl,rfl⟩
def gJ (P:Program) (call:aa → List aa → ab → XR):Prop:=
 ∀ fv args σ r σ',call fv args σ = some (r,σ') → ∀ Q:bh → ab → Prop,Q r σ' → bp P fv args σ Q
theorem NQ {P:Program} {call:aa → List aa → ab → XR} (hc:gJ P call) {ρ:ay → aa} {σ:ab} {i:AI} {r:bh} {σ':ab} {K Kp:aa → ab → Prop} (h:xI call ρ σ i = some (r,σ')) (hk:KG K Kp r σ'):bS P i ρ σ K Kp:=by
 cases i with
 | alloc z=>
  simp only [xI,Option.some.injEq,Prod.mk.injEq] at h;obtain ⟨rfl,rfl⟩:=h;exact hk
 | box n x=>
  simp only [xI] at h
  split at h
  ·rename_i h1;simp only [Option.some.injEq,Prod.mk.injEq] at h;obtain ⟨rfl,rfl⟩:=h;exact ⟨bt h1,hk⟩
  ·cases h
 | loadd k x=>
  simp only [xI] at h
  split at h
  ·rename_i h1;simp only [Option.some.injEq,Prod.mk.injEq] at h;obtain ⟨rfl,rfl⟩:=h;exact ⟨lK h1,hk⟩
  ·cases h
 | mvd x=>
  simp only [xI,Option.some.injEq,Prod.mk.injEq] at h;obtain ⟨rfl,rfl⟩:=h;exact hk
 | pbox n x=>
  simp only [xI] at h
  split at h
  ·rename_i h1;simp only [Option.some.injEq,Prod.mk.injEq] at h;obtain ⟨rfl,rfl⟩:=h;exact ⟨bt h1,hk⟩
  ·cases h
 | buildm z ps=>
  simp only [xI] at h
  split at h
  ·rename_i h1;simp only [Option.some.injEq,Prod.mk.injEq] at h;obtain ⟨rfl,rfl⟩:=h;exact ⟨kT h1,hk⟩
  ·cases h
 | storem sz x=>
  simp only [xI] at h;simp only [bS];by_cases hs:sz < 1000
  ·rw [if_pos hs] at h ⊢
   split at h
   ·rename_i h1;simp only [Option.some.injEq,Prod.mk.injEq] at h;obtain ⟨rfl,rfl⟩:=h;exact ⟨ic h1,hk⟩
   ·cases h
  ·rw [if_neg hs] at h ⊢
   split at h
   ·rename_i h1;simp only [Option.some.injEq,Prod.mk.injEq] at h;obtain ⟨rfl,rfl⟩:=h;exact ⟨ic h1,hk⟩
   ·cases h
 | allocB=>
  simp only [xI,Option.some.injEq,Prod.mk.injEq] at h;obtain ⟨rfl,rfl⟩:=h;exact hk
 | jB bytes x y=>
  simp only [xI] at h;obtain ⟨v,h2,rfl⟩:=bo h;exact xg h2 hk
 | subA n sz x=>
  simp only [xI] at h;obtain ⟨v,h2,rfl⟩:=bo h;exact Ft h2 hk
 | mgetp ok z x i=>
  simp only [xI] at h;obtain ⟨v,h2,rfl⟩:=bo h;exact vT h2 hk
 | msetp x k w=>
  simp only [xI] at h;obtain ⟨v,h2,rfl⟩:=bo h;exact va h2 hk
 | ment z x k=>
  simp only [xI] at h;obtain ⟨v,h2,rfl⟩:=bo h;exact yD h2 hk
 | estore x s w=>
  simp only [xI] at h;obtain ⟨v,h2,rfl⟩:=bo h;exact rl h2 hk
 | nilS m sz=>
  simp only [xI] at h;simp only [bS];by_cases h1:m = 1
  ·rw [if_pos h1] at h ⊢;simp only [Option.some.injEq,Prod.mk.injEq] at h;obtain ⟨rfl,rfl⟩:=h;exact hk
  ·rw [if_neg h1] at h ⊢;by_cases h3:m = 3
   ·rw [if_pos h3] at h ⊢;simp only [Option.some.injEq,Prod.mk.injEq] at h;obtain ⟨rfl,rfl⟩:=h;exact hk
   ·rw [if_neg h3] at h ⊢;simp only [Option.some.injEq,Prod.mk.injEq] at h;obtain ⟨rfl,rfl⟩:=h;exact hk
 | lit m sz n ps=>
  simp only [xI] at h;simp only [bS]
  split at h
  ·rename_i h1;refine ⟨iT h1, ?_⟩;by_cases e0:m = 0
   ·rw [if_pos e0] at h ⊢;simp only [Option.some.injEq,Prod.mk.injEq] at h;obtain ⟨rfl,rfl⟩:=h;exact hk
   ·rw [if_neg e0] at h ⊢;by_cases e1:m = 1
    ·rw [if_pos e1] at h ⊢;simp only [Option.some.injEq,Prod.mk.injEq] at h;obtain ⟨rfl,rfl⟩:=h;exact hk
    ·rw [if_neg e1] at h ⊢;simp only [Option.some.injEq,Prod.mk.injEq] at h;obtain ⟨rfl,rfl⟩:=h;exact hk
  ·cases h
 | store sz x v=>
  simp only [xI] at h
  split at h
  ·rename_i h1;simp only [Option.some.injEq,Prod.mk.injEq] at h;obtain ⟨rfl,rfl⟩:=h;exact ⟨ic h1,hk⟩
  ·cases h
 | call f dn l=>exact (hc _ _ _ _ _ h (KG K Kp) hk).mono fun r σ hr=>by cases r <;> exact hr
 | append sz bytes x y=>
  simp only [xI] at h
  split at h
  ·rename_i h1;simp only [Bool.and_eq_true] at h1;obtain ⟨v,h2,rfl⟩:=bo h;exact ⟨jN h1.1,gb h1.2,lL h2 hk⟩
  ·cases h
 | sub m sz x lo hi mx=>
  simp only [xI] at h
  split at h
  ·rename_i h1;simp only [Bool.and_eq_true] at h1;obtain ⟨v,h2,rfl⟩:=bo h;exact ⟨gh h1.1.1,gh h1.1.2,gh h1.2,HG h2 hk⟩
  ·cases h
 | freeze sz x=>obtain ⟨v,h2,rfl⟩:=bo h; exact r8 h2 hk
 | range x=>obtain ⟨v,h2,rfl⟩:=bo h; exact vd h2 hk
 | next x=>obtain ⟨v,h2,rfl⟩:=bo h; exact Aq h2 hk
 | subO sz x lo=>obtain ⟨v,h2,rfl⟩:=bo h; exact Gd h2 hk
 | isnil neg x=>obtain ⟨v,h2,rfl⟩:=bo h; exact uQ h2 hk
 | snil neg x=>obtain ⟨v,h2,rfl⟩:=bo h; exact AJ h2 hk
 | gix g x=>obtain ⟨v,h2,rfl⟩:=bo h; exact Hb h2 hk
 | mget ok lk z x i=>obtain ⟨v,h2,rfl⟩:=bo h; exact Ci h2 hk
 | mset lk x k v=>obtain ⟨v,h2,rfl⟩:=bo h; exact yK h2 hk
 | mnew=>
  simp only [xI,Option.some.injEq,Prod.mk.injEq] at h;obtain ⟨rfl,rfl⟩:=h;exact hk
 | mksl m sz bytes z n c=>
  simp only [xI] at h
  split at h
  ·rename_i h1;simp only [Bool.and_eq_true] at h1;obtain ⟨v,h2,rfl⟩:=bo h;exact ⟨bX h1.1,bX h1.2,yO h2 hk⟩
  ·cases h
 | clear sz z x=>obtain ⟨v,h2,rfl⟩:=bo h; exact wJ h2 hk
 | copyB sz x y=>
  simp only [xI] at h
  split at h
  ·rename_i h1;simp only [Bool.and_eq_true] at h1;obtain ⟨v,h2,rfl⟩:=bo h;exact ⟨jN h1.1,gb h1.2,Bb h2 hk⟩
  ·cases h
 | panic x=>
  simp only [xI] at h;simp only [bS];cases hv:ρ x <;> rw [hv] at h <;> first | (cases h; done) | skip
  simp only [Option.some.injEq,Prod.mk.injEq] at h;obtain ⟨rfl,rfl⟩:=h;exact hk
 | _=>
  simp only [xI] at h
  split at h
  ·rename_i h1;simp only [Bool.and_eq_true] at h1;simp only [Option.some.injEq,Prod.mk.injEq] at h;obtain ⟨rfl,rfl⟩:=h;exact ⟨h1.1,oX h1.2,hk⟩
  ·cases h
def xO (call:aa → List aa → ab → XR) (i:AI) (e:Env) (σ:ab):XR:=
 if i.quiet then (if cj e σ i then some (.ret (bZ e σ i),σ) else none)
 else if ba e i.opers then xI call (opv e) σ i else none
theorem l4 {P:Program} {call:aa → List aa → ab → XR} (hc:gJ P call) {i:AI} {e:Env} {σ:ab} {r:bh} {σ':ab} {K Kp:aa → ab → Prop} (h:xO call i e σ = some (r,σ')) (hk:KG K Kp r σ'):eS P i e σ K Kp:=by
 unfold xO at h;unfold eS
 split at h
 ·rename_i h1;rw [if_pos h1]
  split at h
  ·rename_i h2;simp only [Option.some.injEq,Prod.mk.injEq] at h;obtain ⟨rfl,rfl⟩:=h;exact ⟨fS h2,hk⟩
  ·cases h
 ·rename_i h1;rw [if_neg h1]
  split at h
  ·rename_i h2;exact ⟨bn h2,NQ hc h hk⟩
  ·cases h
def AI.still:AI → Bool
 | .call _ _ _ | .alloc _ | .box _ _ | .nilS _ _ | .store _ _ _ | .append _ _ _ _ | .sub _ _ _ _ _ _ | .freeze _ _ | .range _ | .next _ | .mksl _ _ _ _ _ _ | .clear _ _ _ | .copyB _ _ _ | .buildm _ _ | .storem _ _ | .mnew | .mset _ _ _ _ | .subO _ _ _ | .allocB | .jB _ _ _ | .subA _ _ _ | .msetp _ _ _ | .ment _ _ _ | .estore _ _ _=>false
 | .lit m _ _ _=>m == 0
 | _=>true
def AI.deep:AI → Nat
 | .mv _ | .extract _ _ | .pick _ _ _=>0
 | .field none _ _ | .ixV _ _ none _ _=>0
 | .field (some _) _ _ | .ixV _ _ (some _) _ _ | .load _ _ | .build _ _=>1
 | _=>2
def dR {α:Type}:ab → (ab → α) → α
 | [],K=>K []
 | o :: r,K=>dR r fun r=>K (o :: r)
theorem db {α:Type}:∀ (σ:ab) (K:ab → α),dR σ K = K σ
 | [],_=>rfl
 | o :: r,K=>by simp [dR,db r]
def iF {α:Type}:Nat → ab → (ab → α) → α
 | _,[],K=>K []
 | 0,o :: r,K=>kM o fun o=>K (o :: r)
 | n + 1,o :: r,K=>iF n r fun r=>K (o :: r)
theorem mI {α:Type}:∀ (n:Nat) (σ:ab) (K:ab → α),iF n σ K = K σ
 | _,[],_=>by simp [iF]
 | 0,o :: r,K=>by simp [iF,mF]
 | n + 1,o :: r,K=>by simp [iF,mI n r]
def kJ {α:Type} (v:aa) (σ:ab) (K:ab → α):α:=match v with
 | .ptr b _=>iF b σ K
 | .eptr _ b _ _ _=>iF b σ K
 | _=>fK σ K
theorem cL {α:Type} (v:aa) (σ:ab) (K:ab → α):kJ v σ K = K σ:=by unfold kJ; split <;> simp [mI,br]
def nD {α:Type} (i:AI) (e:Env) (σ:ab) (K:ab → α):α:=match i with
 | .call _ _ _=>K σ
 | .alloc _=>dR σ K
 | .box _ _=>dR σ K
 | .nilS _ _=>dR σ K
 | .mnew=>dR σ K
 | .mset _ _ _ _=>dR σ K
 | .lit _ _ _ _=>dR σ K
 | .store _ x _=>kJ (opv e x) σ K
 | i=>if i.still then K σ else fK σ K
theorem rF {α:Type} (i:AI) (e:Env) (σ:ab) (K:ab → α):nD i e σ K = K σ:=by
 unfold nD
 split <;> first | rfl | exact db _ _ | exact cL _ _ _ | (split <;> simp [br])
/-! ### The frequent instructions by short ways -/
def stepG (call:aa → List aa → ab → XR) (i:AI) (e:Env) (σ:ab):XR:=
 match xO call i e σ with
 | some (.ret v,σ')=>bU i.deep v fun v=>nD i e σ' fun σ'=>some (.ret v,σ')
 | some (.pan v,σ')=>some (.pan v,σ')
 | none=>none
theorem lD (call:aa → List aa → ab → XR) (i:AI) (e:Env) (σ:ab):stepG call i e σ = xO call i e σ:=by
 unfold stepG
 cases xO call i e σ with
 | none=>rfl
 | some q=>obtain ⟨q,s⟩:=q; cases q <;> simp [bM,rF]
def Jj (v:aa):Option aa:=
 match v with
 | .opt g v=>if g then some v else none
 | v=>some v
theorem w9 (v:aa):Jj v = if v.cond then some v.strip else none:=by
 cases v <;> first | rfl | (rename_i g v; cases g <;> rfl)
def opX (e:Env) (x:ay):Option aa:=
 match x with
 | .t n=>Jj (e.get n)
 | .c v=>some v
 | .f n=>some (.func (.func n) [] [])
theorem dS (e:Env) (x:ay):opX e x = if opg e x then some (opv e x) else none:=by
 cases x with
 | t n=>exact w9 _
 | _=>simp [opX,opg,opv]
def qC (v:aa) (σ:ab):XR:=fN v fun v=>some (.ret v,σ)
def rG (v:aa) (σ:ab):XR:=bU 1 v fun v=>some (.ret v,σ)
theorem gW (v:aa) (σ:ab):qC v σ = some (.ret v,σ):=dM _ _
theorem hP (v:aa) (σ:ab):rG v σ = some (.ret v,σ):=bM _ _ _
def jB {α:Type}:ab → bO → (ab → α) → α
 | [],o,K=>K [o]
 | x :: r,o,K=>jB r o fun r=>K (x :: r)
theorem ov {α:Type}:∀ (l:ab) (o:bO) (K:ab → α),jB l o K = K (l ++ [o])
 | [],_,_=>rfl
 | x :: r,o,K=>by simp [jB,ov r]
def vC {α:Type}:ab → Nat → bO → (ab → α) → α
 | [],_,_,K=>K []
 | _ :: r,0,o,K=>K (o :: r)
 | x :: r,n + 1,o,K=>vC r n o fun r=>K (x :: r)
theorem kI {α:Type}:∀ (l:ab) (n:Nat) (o:bO) (K:ab → α),vC l n o K = K (l.set n o)
 | [],_,_,_=>rfl
 | x :: r,0,o,K=>rfl
 | x :: r,n + 1,o,K=>by simp [vC,kI r]
def sMv (e:Env) (x:ay) (σ:ab):XR:=
 match opX e x with
 | some a=>qC a σ
 | none=>none
def acr (e:Env) (op:BinOp) (x y:ay) (σ:ab):XR:=
 match opX e x with
 | some a=>match opX e y with
  | some b=>if Ln op a b then qC (vI op a b) σ else none
  | none=>none
 | none=>none
def Jg (e:Env) (k:Option Nat) (x:ay) (σ:ab):XR:=
 match opX e x with
 | some a=>if kp k σ a then rG (fU k σ a) σ else none
 | none=>none
def lP (e:Env) (k:Option Nat) (off:Nat) (x:ay) (σ:ab):XR:=
 match opX e x with
 | some a=>if fa k off a then rG (eo k off a) σ else none
 | none=>none
def Gx (e:Env) (k:Option Nat) (off:Nat) (x:ay) (σ:ab):XR:=
 match opX e x with
 | some a=>if xq k off a then rG (wQ k off a) σ else none
 | none=>none
def SQ (e:Env) (sz:Nat) (x i:ay) (σ:ab):XR:=
 match opX e x with
 | some a=>match opX e i with
  | some b=>if dI b && I8 sz (aP b) a then rG (G9 (aP b) a) σ else none
  | none=>none
 | none=>none
def Xl (e:Env) (m sz:Nat) (k:Option Nat) (x i:ay) (σ:ab):XR:=
 match opX e x with
 | some a=>match opX e i with
  | some b=>if dI b && decide (0 ≤ aP b) && decide (aP b < m) && fa k ((aP b).toNat * sz) a then rG (eo k ((aP b).toNat * sz) a) σ else none
  | none=>none
 | none=>none
def YF (e:Env) (m sz:Nat) (k:Option Nat) (x i:ay) (σ:ab):XR:=
 match opX e x with
 | some a=>match opX e i with
  | some b=>if dI b && decide (0 ≤ aP b) && decide (aP b < m) && xq k ((aP b).toNat * sz) a then rG (wQ k ((aP b).toNat * sz) a) σ else none
  | none=>none
 | none=>none
def oy (e:Env) (x:ay) (i:Nat) (σ:ab):XR:=
 match opX e x with
 | some (.tup vs)=>if i < vs.length then qC (vs.getD i .undef) σ else none
 | _=>none
def n7 (e:Env) (x:ay) (σ:ab):XR:=
 match opX e x with
 | some a=>if LG a then qC (Ij a) σ else none
 | none=>none
def sUn (e:Env) (op:UnOp) (x:ay) (σ:ab):XR:=
 match opX e x with
 | some a=>if unB op a then qC (unV op a) σ else none
 | none=>none
def Jc (e:Env) (c a b:ay) (σ:ab):XR:=
 if cj e σ (.pick c a b) then qC (bZ e σ (.pick c a b)) σ else none
def Js (e:Env) (n:Nat) (x:ay) (σ:ab):XR:=
 match opX e x with
 | some a=>if bC a n then some (.ret (.pval a),σ) else none
 | none=>none
def RM (e:Env) (n:Nat) (x:ay) (σ:ab):XR:=
 match opX e x with
 | some a=>if bC a n then jB σ (.box a.cells) fun σ'=>aV σ.length fun l=>some (.ret (.ptr l 0),σ') else none
 | none=>none
def E5 (z:List aa) (σ:ab):XR:=
 if eB z then jB σ (.box z) fun σ'=>aV σ.length fun l=>some (.ret (.ptr l 0),σ')
 else some (.ret (.ptr (σ.length + (a7 z σ.length).2.length) 0),σ ++ (a7 z σ.length).2 ++ [.box (a7 z σ.length).1])
def zJ (e:Env) (sz:Nat) (x v:ay) (σ:ab):XR:=
 match opX e x with
 | some a=>match opX e v with
  | some c=>if gP σ sz c a then match a with
   | .ptr b off=>match σ.get b with
    | .box cs=>dT fN (putCells cs off c.cells) fun cs=>vC σ b (.box cs) fun σ'=>some (.ret .undef,σ')
    | _=>none
   | _=>fK (cO σ c a) fun σ'=>some (.ret .undef,σ')
   else none
  | none=>none
 | none=>none
def Jb (call:aa → List aa → ab → XR) (e:Env) (f:ay) (dn:List Bool) (l:List ay) (σ:ab):XR:=
 if ba e (f :: l) then call (opv e f) (aU dn (l.map (opv e))) σ else none
def step (call:aa → List aa → ab → XR) (i:AI) (e:Env) (σ:ab):XR:=
 match i with
 | .mv x=>sMv e x σ
 | .bin op x y=>acr e op x y σ
 | .load k x=>Jg e k x σ
 | .fieldAddr k off x=>lP e k off x σ
 | .field k off x=>Gx e k off x σ
 | .ixS sz x i=>SQ e sz x i σ
 | .ixA m sz k x i=>Xl e m sz k x i σ
 | .ixV m sz k x i=>YF e m sz k x i σ
 | .extract x i=>oy e x i σ
 | .len x=>n7 e x σ
 | .un op x=>sUn e op x σ
 | .pick c a b=>Jc e c a b σ
 | .pbox n x=>Js e n x σ
 | .box n x=>RM e n x σ
 | .alloc z=>E5 z σ
 | .store sz x v=>zJ e sz x v σ
 | .call f dn l=>Jb call e f dn l σ
 | i=>stepG call i e σ
theorem jk:∀ {z:List aa} (n:Nat),eB z = true → a7 z n = (z,[])
 | [],_,_=>rfl
 | v :: r,n,h=>by
  cases v <;> first | (simp [eB] at h; done) | (simp only [eB] at h; simp [a7,jk n h])
theorem step_eq {call:aa → List aa → ab → XR} {i:AI} {e:Env} {σ:ab} {r:bh} {σ':ab} (h:step call i e σ = some (r,σ')):xO call i e σ = some (r,σ'):=by
 cases i with
 | mv x=>
  simp only [step,sMv,dS,gW] at h;simp only [xO,AI.quiet,AI.plain,if_true,cj,AI.opers,ba,bB,bZ,AI.val];cases hx:opg e x <;> simp [hx] at h ⊢; exact h
 | bin op x y=>
  simp only [step,acr,dS,gW] at h;simp only [xO,AI.quiet,AI.plain,if_true,cj,AI.opers,ba,bB,bZ,AI.val];cases hx:opg e x <;> cases hy:opg e y <;> simp [hx,hy] at h ⊢; exact h
 | load k x=>
  simp only [step,Jg,dS,hP] at h;simp only [xO,AI.quiet,AI.plain,if_true,cj,AI.opers,ba,bB,bZ,AI.val];cases hx:opg e x <;> simp [hx] at h ⊢; exact h
 | fieldAddr k off x=>
  simp only [step,lP,dS,hP] at h;simp only [xO,AI.quiet,AI.plain,if_true,cj,AI.opers,ba,bB,bZ,AI.val];cases hx:opg e x <;> simp [hx] at h ⊢; exact h
 | field k off x=>
  simp only [step,Gx,dS,hP] at h;simp only [xO,AI.quiet,AI.plain,if_true,cj,AI.opers,ba,bB,bZ,AI.val];cases hx:opg e x <;> simp [hx] at h ⊢; exact h
 | ixS sz x i=>
  simp only [step,SQ,dS,hP] at h;simp only [xO,AI.quiet,AI.plain,if_true,cj,AI.opers,ba,bB,bZ,AI.val];cases hx:opg e x <;> cases hy:opg e i <;> simp [hx,hy] at h ⊢; exact h
 | ixA m sz k x i=>
  simp only [step,Xl,dS,hP] at h;simp only [xO,AI.quiet,AI.plain,if_true,cj,AI.opers,ba,bB,bZ,AI.val];cases hx:opg e x <;> cases hy:opg e i <;> simp [hx,hy] at h ⊢; exact h
 | ixV m sz k x i=>
  simp only [step,YF,dS,hP] at h;simp only [xO,AI.quiet,AI.plain,if_true,cj,AI.opers,ba,bB,bZ,AI.val];cases hx:opg e x <;> cases hy:opg e i <;> simp [hx,hy] at h ⊢; exact h
 | extract x i=>
  simp only [step,oy,dS,gW] at h;simp only [xO,AI.quiet,AI.plain,if_true,cj,AI.opers,ba,bB,bZ,AI.val];cases hx:opg e x
  ·simp [hx] at h
  ·cases hv:opv e x <;> simp [hx,hv] at h ⊢; exact h
 | len x=>
  simp only [step,n7,dS,gW] at h;simp only [xO,AI.quiet,AI.plain,if_true,cj,AI.opers,ba,bB,bZ,AI.val];cases hx:opg e x <;> simp [hx] at h ⊢; exact h
 | un op x=>
  simp only [step,sUn,dS,gW] at h;simp only [xO,AI.quiet,AI.plain,if_true,cj,AI.opers,ba,bB,bZ,AI.val];cases hx:opg e x <;> simp [hx] at h ⊢; exact h
 | pick c a b=>
  simp only [step,Jc,gW] at h;simp only [xO,AI.quiet,if_true];exact h
 | pbox n x=>
  simp only [step,Js,dS] at h;simp only [xO,AI.quiet,AI.plain,AI.opers,ba,xI];cases hx:opg e x <;> simp [hx] at h ⊢; exact h
 | box n x=>
  simp only [step,RM,dS,ov,dO] at h;simp only [xO,AI.quiet,AI.plain,AI.opers,ba,xI];cases hx:opg e x <;> simp [hx] at h ⊢; exact h
 | alloc z=>
  simp only [step,E5,ov,dO] at h;simp only [xO,AI.quiet,AI.plain,AI.opers,ba,xI]
  split at h
  ·rename_i hm;rw [jk _ hm];simpa using h
  ·simpa using h
 | store sz x v=>
  simp only [step,zJ,dS] at h;simp only [xO,AI.quiet,AI.plain,AI.opers,ba,xI];cases hx:opg e x
  ·simp [hx] at h
  ·cases hy:opg e v
   ·simp [hx,hy] at h
   ·simp only [hx,hy,if_true,Bool.and_true,Bool.false_eq_true,if_false] at h ⊢
    split at h
    ·rename_i hs;rw [if_pos hs]
     cases ha:opv e x with
     | ptr b off=>
      rw [ha] at h;simp only at h
      cases hb:σ.get b with
      | box cs=>
       rw [hb] at h;simp only [eD (fun v K=>dM v K),kI] at h;simp only [cO,hb];exact h
      | _=>rw [hb] at h; cases h
     | _=>rw [ha] at h; simp only [br] at h; exact h
    ·cases h
 | call f dn l=>
  simp only [step,Jb] at h;simp only [xO,AI.quiet,AI.plain,AI.opers,xI];exact h
 | _=>simp only [step,lD] at h; exact h
structure XE where
 x:AEx
 e:Env
 ds:List fp
 σ:ab
def N6 (q:Bool) (v:aa):aa:=
 match q with
 | true=>.opt true v
 | false=>v
def nM (call:aa → List aa → ab → XR):List au → Env → ab → Option (Option aa × Env × ab)
 | [],e,σ=>some (none,e,σ)
 | o :: r,e,σ=>
  match o.g with
  | none=>match step call o.i e σ with
   | some (.ret v,σ')=>nM call r (e.put o.d v) σ'
   | some (.pan v,σ')=>some (some v,e,σ')
   | none=>none
  | some gd=>match cH e gd with
   | none=>none
   | some false=>match o.i.quiet with
    | true=>nM call r (e.put o.d (.opt false (bZ e σ o.i))) σ
    | false=>nM call r (e.put o.d (.opt false .undef)) σ
   | some true=>match step call o.i e σ with
     | some (.ret v,σ')=>nM call r (e.put o.d (N6 o.i.quiet v)) σ'
     | some (.pan v,σ')=>some (some v,e,σ')
     | none=>none
theorem oI {call:aa → List aa → ab → XR} {i:AI} {e:Env} {σ:ab} {r:bh} {σ':ab} (hq:i.quiet = true) (h:xO call i e σ = some (r,σ')):cj e σ i = true ∧ r = .ret (bZ e σ i) ∧ σ' = σ:=by
 unfold xO at h;rw [if_pos hq] at h
 split at h
 ·rename_i h1;simp only [Option.some.injEq,Prod.mk.injEq] at h;obtain ⟨rfl,rfl⟩:=h;exact ⟨h1,rfl,rfl⟩
 ·cases h
theorem gk {P : Program} {call : aa → List aa → ab → XR} (hc : gJ P call) {ds : List fp} {K : Fr → ab → Prop} {Kp : aa → Fr → ab → Prop} : ∀ {ops : List au} {e : Env} {σ : ab} {p : Option aa} {e' : Env} {σ' : ab},
  nM call ops e σ = some (p,e',σ') → (match p with | none=>K ⟨e',ds⟩ σ' | some v=>Kp v ⟨e',ds⟩ σ') → er P ops ⟨e,ds⟩ σ K Kp
 | [],e,σ,p,e',σ',h,hk=>by
  simp only [nM,Option.some.injEq,Prod.mk.injEq] at h;obtain ⟨rfl,rfl,rfl⟩:=h;exact hk
 | o :: r,e,σ,p,e',σ',h,hk=>by
  simp only [nM] at h;simp only [er]
  cases hg:o.g with
  | none=>
   rw [hg] at h;simp only at h
   cases hx:step call o.i e σ with
   | none=>rw [hx] at h; cases h
   | some q=>
    obtain ⟨q,σ1⟩:=q;rw [hx] at h
    cases q with
    | ret v=>exact l4 hc (step_eq hx) (gk hc h hk)
    | pan v=>
     simp only [Option.some.injEq,Prod.mk.injEq] at h;obtain ⟨rfl,rfl,rfl⟩:=h;exact l4 hc (step_eq hx) hk
  | some gd=>
   rw [hg] at h;simp only at h ⊢
   cases hgc:cH e gd with
   | none=>rw [hgc] at h; cases h
   | some b=>
    rw [hgc] at h
    cases b with
    | false=>
     simp only at h ⊢
     cases hq:o.i.quiet with
     | true=>
      rw [hq] at h;rw [if_pos rfl];exact ⟨fun e=>(by cases e),gk hc h hk⟩
     | false=>
      rw [hq] at h;rw [if_neg (by simp)];exact ⟨fun e=>(by cases e),fun _=>gk hc h hk⟩
    | true=>
     simp only at h ⊢
     cases hx:step call o.i e σ with
     | none=>rw [hx] at h; cases h
     | some q=>
      obtain ⟨q,σ1⟩:=q;rw [hx] at h;have hx':=step_eq hx
      cases hq:o.i.quiet with
      | true=>
       obtain ⟨h1,rfl,rfl⟩:=oI hq hx';rw [hq] at h;rw [if_pos rfl];exact ⟨fun _=>fS h1,gk hc h hk⟩
      | false=>
       rw [if_neg (by simp)];refine ⟨fun _=>?_,fun e=>(by cases e)⟩
       cases q with
       | ret v=>
        rw [hq] at h;exact l4 hc hx' (gk hc h hk)
       | pan v=>
        simp only [Option.some.injEq,Prod.mk.injEq] at h;obtain ⟨rfl,rfl,rfl⟩:=h;exact l4 hc hx' hk
/-! ### Regions whose order is open -/
def sJ (sz bytes:Nat) (σ:ab) (x y:aa):Option (aa × bl):=
 match gU y with
 | none=>none
 | some ys=>if iK [] sz y && kb sz ys then match x with
  | .oslice sz' xs b k=>if sz' == sz && decide ((xs.length + ys.length) * bytes ≤ 140737488355328) then match σ.get b with
   | .spare sz'' k'=>if sz'' == sz && k' == k then some (.oslice sz (xs ++ ys) b (k + 1), .wr b (.spare sz (k + 1))) else none
   | _=>none
   else none
  | _=>none
  else none
theorem As {sz bytes:Nat} {σ:ab} {x y:aa} {v:aa} {f:bl} {K:aa → bl → Prop} (h:sJ sz bytes σ x y = some (v,f)) (hk:K v f):mr sz bytes σ x y K:=by
 unfold sJ at h;unfold mr
 cases hf:gU y with
 | none=>rw [hf] at h; cases h
 | some ys=>
  rw [hf] at h;simp only at h ⊢
  split at h
  ·rename_i h1;simp only [Bool.and_eq_true] at h1;refine ⟨jN h1.1,gb h1.2, ?_⟩
   cases x with
   | oslice sz' xs b k=>
    simp only at h ⊢
    split at h
    ·rename_i h2;simp only [Bool.and_eq_true,beq_iff_eq,decide_eq_true_eq] at h2;refine ⟨h2.1,h2.2, ?_⟩;cases hb:σ.get b <;> rw [hb] at h <;> first | (cases h; done) | skip
     simp only at h ⊢
     split at h
     ·rename_i h3;simp only [Bool.and_eq_true,beq_iff_eq] at h3;simp only [Option.some.injEq,Prod.mk.injEq] at h;obtain ⟨rfl,rfl⟩:=h;exact ⟨h3.1,h3.2,hk⟩
     ·cases h
    ·cases h
   | _=>cases h
  ·cases h
def gr (P:Program) (pcall:aa → List aa → Option aa):Prop:=
 ∀ fv args v,pcall fv args = some v → ∀ σ,bp P fv args σ fun q σ'=>q = .ret v ∧ σ' = σ
def fu {α:Type}:Option α → Bool
 | none=>true
 | some _=>false
def Ea (bytes:Nat) (n c:aa):Bool:=dI n && dI c && decide (0 ≤ aP n) && decide (aP n ≤ aP c) && decide (aP c * bytes ≤ 140737488355328) && decide (aP c ≤ 140737488355328)
theorem Fu {bytes:Nat} {n c:aa} (h:Ea bytes n c = true):H2 bytes n c:=by
 simp only [Ea,Bool.and_eq_true,decide_eq_true_eq] at h;exact ⟨bX h.1.1.1.1.1,bX h.1.1.1.1.2,h.1.1.1.2,h.1.1.2,h.1.2,h.2⟩
def oh (P:Program) (acall:Nat → aa → List aa → Option (List aa)):Prop:=
 ∀ sz fv args xs,acall sz fv args = some xs → ∀ σ,bp P fv args σ fun q σ'=>q = .ret (.oslice sz xs σ.length 1) ∧ σ' = σ ++ [.spare sz 1]
def xD (pcall:aa → List aa → Option aa) (acall:Nat → aa → List aa → Option (List aa)):List au → Env → ab → List bl → Option (Env × ab × List bl)
 | [],e,σ,es=>some (e,σ,es)
 | o :: r,e,σ,es=>
  match cm o.g e with
  | none=>none
  | some c=>match o.i with
   | .call f dn l=>if c then (if ba e (f :: l) then match pcall (opv e f) (aU dn (l.map (opv e))) with
     | some v=>bU 2 v fun v=>xD pcall acall r (e.put o.d (eJ o.g c v)) σ (rdL σ (opv e f :: l.map (opv e)) :: es)
     | none=>none
     else none)
    else xD pcall acall r (e.put o.d (eJ o.g c .undef)) σ (rdL σ (opv e f :: l.map (opv e)) :: es)
   | .box n x=>if fu o.g && ba e [x] && bC (opv e x) n then dR (σ ++ [.box (opv e x).cells]) fun σ'=>xD pcall acall r (e.put o.d (.ptr σ.length 0)) σ' (.al (.box (opv e x).cells) :: es) else none
   | .alloc z=>if fu o.g && eB z then dR (σ ++ [.box z]) fun σ'=>xD pcall acall r (e.put o.d (.ptr σ.length 0)) σ' (.al (.box z) :: es) else none
   | .callA sz f dn l=>if fu o.g && ba e (f :: l) then match acall sz (opv e f) (aU dn (l.map (opv e))) with
     | some xs=>dT (bU 1) xs fun xs=>dR (σ ++ [.spare sz 1]) fun σ'=>xD pcall acall r (e.put o.d (.oslice sz xs σ.length 1)) σ' (.al (.spare sz 1) :: es)
     | none=>none
     else none
   | .mnew=>if fu o.g then dR (σ ++ [.amap []]) fun σ'=>xD pcall acall r (e.put o.d (.map σ.length)) σ' (.al (.amap []) :: es) else none
   | .mksl m sz bytes z n k=>if m == 2 && fu o.g && ba e [n,k] && Ea bytes (opv e n) (opv e k) then dR (σ ++ [.arr sz (List.replicate (aP (opv e n)).toNat z)]) fun σ'=>
     xD pcall acall r (e.put o.d (.sref sz σ.length 0 (aP (opv e n)).toNat (aP (opv e n)).toNat)) σ' (.al (.arr sz (List.replicate (aP (opv e n)).toNat z)) :: es) else none
   | .store sz x v=>if fu o.g && ba e [x,v] && gP σ sz (opv e v) (opv e x) then match jf σ (opv e v) (opv e x) with
    | some f=>kJ (opv e x) (f.run σ) fun σ'=>xD pcall acall r (e.put o.d .undef) σ' (f :: es)
    | none=>none
    else none
   | .append sz bytes x y=>if fu o.g && ba e [x,y] then match sJ sz bytes σ (opv e x) (opv e y) with
    | some (v,f)=>bU 2 v fun v=>fK (f.run σ) fun σ'=>xD pcall acall r (e.put o.d v) σ' (f :: es)
    | none=>none
    else none
   | .lit m sz n ps=>if m == 0 then (if c then (if ba e (ps.map (·.2)) && qq sz n (opv e) ps then bU 2 (.slice sz (cZ (opv e) (List.replicate n .undef) ps)) fun v=>xD pcall acall r (e.put o.d (eJ o.g c v)) σ (.no :: es) else none)
    else xD pcall acall r (e.put o.d (eJ o.g c (.slice sz (cZ (opv e) (List.replicate n .undef) ps)))) σ (.no :: es)) else none
   | i=>match i.quiet with
    | true=>if c then (match step (fun _ _ _=>none) i e σ with
      | some (.ret v,_)=>xD pcall acall r (e.put o.d (eJ o.g c v)) σ (du e i :: es)
      | _=>none) else xD pcall acall r (e.put o.d (eJ o.g c (bZ e σ i))) σ (du e i :: es)
    | false=>none
theorem dB {α:Type} {x:Option α} (h:fu x = true):x = none:=by cases x <;> first | rfl | cases h
theorem fC {P : Program} {pcall : aa → List aa → Option aa} (hc : gr P pcall) {acall : Nat → aa → List aa → Option (List aa)} (hac : oh P acall) {K : Env → ab → List bl → Prop} : ∀ {ops : List au} {e : Env} {σ : ab} {es : List bl} {e' : Env} {σ' : ab} {es' : List bl},
  xD pcall acall ops e σ es = some (e',σ',es') → K e' σ' es' → dm P ops e σ es K
 | [],e,σ,es,e',σ',es',h,hk=>by
  simp only [xD,Option.some.injEq,Prod.mk.injEq] at h;obtain ⟨rfl,rfl,rfl⟩:=h;exact hk
 | o :: r,e,σ,es,e',σ',es',h,hk=>by
  simp only [xD] at h;simp only [dm]
  cases hg:cm o.g e with
  | none=>rw [hg] at h; cases h
  | some c=>
   rw [hg] at h;simp only at h ⊢
   have quietCase:∀ {i:AI},(match i.quiet with
    | true=>if c then (match step (fun _ _ _=>none) i e σ with
      | some (.ret v,_)=>xD pcall acall r (e.put o.d (eJ o.g c v)) σ (du e i :: es)
      | _=>none) else xD pcall acall r (e.put o.d (eJ o.g c (bZ e σ i))) σ (du e i :: es)
    | false=>none) = some (e',σ',es') → i.quiet = true ∧ (c = true → ed e σ i) ∧ dm P r (e.put o.d (eJ o.g c (bZ e σ i))) σ (du e i :: es) K:=by
    intro i h
    cases hq:i.quiet with
    | false=>rw [hq] at h; cases h
    | true=>
     rw [hq] at h;simp only at h;refine ⟨rfl, ?_⟩
     split at h
     ·cases hx:step (fun _ _ _=>none) i e σ with
      | none=>rw [hx] at h; cases h
      | some q=>
       obtain ⟨q,σ1⟩:=q;rw [hx] at h;obtain ⟨h1,rfl,rfl⟩:=oI hq (step_eq hx);exact ⟨fun _=>fS h1,fC hc hac h hk⟩
     ·rename_i hcf;exact ⟨fun e=>absurd e hcf,fC hc hac h hk⟩
   cases hi:o.i with
   | call f dn l=>
    rw [hi] at h;simp only at h ⊢
    split at h
    ·rename_i h1
     split at h
     ·rename_i h2
      cases hp:pcall (opv e f) (aU dn (l.map (opv e))) with
      | none=>rw [hp] at h; cases h
      | some v=>
       rw [hp] at h;simp only [bM] at h;exact ⟨v,fun _=>⟨bn h2,fun σ' _=>hc _ _ _ hp σ'⟩,fC hc hac h hk⟩
     ·cases h
    ·rename_i h1;exact ⟨.undef,fun e=>absurd e h1,fC hc hac h hk⟩
   | box n x=>
    rw [hi] at h;simp only at h ⊢
    split at h
    ·rename_i h1;simp only [Bool.and_eq_true] at h1;simp only [br,db,cL] at h;exact ⟨dB h1.1.1,bn h1.1.2,bt h1.2,fC hc hac h hk⟩
    ·cases h
   | alloc z=>
    rw [hi] at h;simp only at h ⊢
    split at h
    ·rename_i h1;simp only [Bool.and_eq_true] at h1;simp only [br,db,cL] at h;exact ⟨dB h1.1,h1.2,fC hc hac h hk⟩
    ·cases h
   | callA sz f dn l=>
    rw [hi] at h;simp only at h ⊢
    split at h
    ·rename_i h1;simp only [Bool.and_eq_true] at h1
     cases hx:acall sz (opv e f) (aU dn (l.map (opv e))) with
     | none=>rw [hx] at h; cases h
     | some xs=>
      rw [hx] at h;simp only [eD (fun v K=>bM 1 v K),br,db,cL] at h;exact ⟨dB h1.1,bn h1.2,xs,fun σ'=>hac _ _ _ _ hx σ',fC hc hac h hk⟩
    ·cases h
   | mnew=>
    rw [hi] at h;simp only at h ⊢
    split at h
    ·rename_i h1;simp only [br,db,cL] at h;exact ⟨dB h1,fC hc hac h hk⟩
    ·cases h
   | mksl m sz bytes z n k=>
    rw [hi] at h;simp only at h ⊢
    split at h
    ·rename_i h1;simp only [Bool.and_eq_true,beq_iff_eq] at h1;simp only [br,db,cL] at h;exact ⟨h1.1.1.1,dB h1.1.1.2,bn h1.1.2,Fu h1.2,fC hc hac h hk⟩
    ·cases h
   | store sz x v=>
    rw [hi] at h;simp only at h ⊢
    split at h
    ·rename_i h1;simp only [Bool.and_eq_true] at h1;refine ⟨dB h1.1.1,bn h1.1.2,ic h1.2, ?_⟩
     cases hw:jf σ (opv e v) (opv e x) with
     | none=>rw [hw] at h; cases h
     | some f=>
      rw [hw] at h;simp only [br,db,cL] at h;exact fC hc hac h hk
    ·cases h
   | append sz bytes x y=>
    rw [hi] at h;simp only at h ⊢
    split at h
    ·rename_i h1;simp only [Bool.and_eq_true] at h1;refine ⟨dB h1.1,bn h1.2, ?_⟩
     cases hw:sJ sz bytes σ (opv e x) (opv e y) with
     | none=>rw [hw] at h; cases h
     | some q=>
      obtain ⟨v,f⟩:=q;rw [hw] at h;simp only [bM,br,db,cL] at h;exact As hw (fC hc hac h hk)
    ·cases h
   | lit m sz n ps=>
    rw [hi] at h;simp only at h ⊢
    split at h
    ·rename_i h1;rw [if_pos (by simpa using h1)]
     split at h
     ·split at h
      ·rename_i h2;simp only [Bool.and_eq_true] at h2;simp only [bM] at h;exact ⟨fun _=>⟨bn h2.1,iT h2.2⟩,fC hc hac h hk⟩
      ·cases h
     ·rename_i h2;exact ⟨fun e=>absurd e h2,fC hc hac h hk⟩
    ·cases h
   | _=>
    rw [hi] at h;simp only at h ⊢;exact quietCase h
end Go.AM
