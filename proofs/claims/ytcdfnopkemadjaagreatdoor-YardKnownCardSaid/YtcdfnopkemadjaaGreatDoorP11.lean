/- A region whose order Go leaves open, the theorem. A region whose order Go leaves open: static check and theorem. -/
import Derived.Test.YtcdfnopkemadjaaGreatDoorP10
namespace Go.AM
open Go.RowKit
def eK (p:Nat → Bool):List au → List DR → Nat → Env → Env
 | o :: r,q :: t,k,e=>eK p r t (k + 1) (if p k = true then e.put o.d q.v else e)
 | _,_,_,e=>e
def dc:List DR → Nat → List (Option (Nat × bO))
 | [],_=>[]
 | q :: r,nb=>match q.e with
  | .al o=>some (nb,o) :: dc r (nb + 1)
  | .wr b o=>some (b,o) :: dc r nb
  | _=>none :: dc r nb
def nal:List DR → Nat
 | []=>0
 | q :: r=>match q.e with
  | .al _=>nal r + 1
  | _=>nal r
def bJ (p:Nat → Bool):List (Option (Nat × bO)) → Nat → ab → ab
 | [],_,σ=>σ
 | none :: r,k,σ=>bJ p r (k + 1) σ
 | some (b,o) :: r,k,σ=>bJ p r (k + 1) (if p k = true then σ.set b o else σ)
theorem bI (e:Env) (d:Option Nat) (v:aa) (x:Nat):(e.put d v).get x = if d = some x then v else e.get x:=by
 cases d with
 | none=>simp [Env.put]
 | some n=>
  simp only [Env.put,kx,Option.some.injEq]
theorem gn {p p':Nat → Bool} {x:Nat}:∀ {ops:List au} {t:List DR} {k:Nat} {e e':Env},(∀ j o,ops[j]? = some o → o.d = some x → p (k + j) = p' (k + j)) → e.get x = e'.get x →
  (eK p ops t k e).get x = (eK p' ops t k e').get x
 | [],_,k,e,e',_,he=>by simpa [eK] using he
 | _ :: _,[],k,e,e',_,he=>by simpa [eK] using he
 | o :: r,q :: t,k,e,e',h,he=>by
  simp only [eK];refine gn (fun j o' h1 h2=>?_) ?_
  ·have:=h (j + 1) o' (by simpa using h1) h2;rw [show k + 1 + j = k + (j + 1) by omega]; exact this
  ·by_cases hd:o.d = some x
   ·have:=h 0 o (by simp) hd;rw [Nat.add_zero] at this;rw [this];split
    ·simp [bI,hd]
    ·exact he
   ·have f:∀ (b:Bool) (e:Env),(if b = true then e.put o.d q.v else e).get x = e.get x:=fun b e=>by cases b <;> simp [bI,hd]
    rw [f,f]; exact he
theorem qa {p:Nat → Bool} {x:Nat}:∀ {ops:List au} {t:List DR} {k i:Nat} {e:Env} {o:au} {q:DR},ops[i]? = some o → t[i]? = some q → o.d = some x → p (k + i) = true →
  (∀ j o',j ≠ i → ops[j]? = some o' → o'.d ≠ some x) → (eK p ops t k e).get x = q.v
 | [],_,_,_,_,_,_,h,_,_,_,_=>by simp at h
 | _ :: _,[],_,_,_,_,_,_,h,_,_,_=>by simp at h
 | o1 :: r,q1 :: t,k,0,e,o,q,h1,h2,h3,h4,h5=>by
  simp at h1 h2; subst h1; subst h2;simp only [eK];rw [Nat.add_zero] at h4;rw [if_pos h4];have hno:∀ j o',r[j]? = some o' → o'.d = some x → p (k + 1 + j) = false:=fun j o' g1 g2=>absurd g2 (h5 (j + 1) o' (by omega) (by simpa using g1))
  have:=gn (p:=p) (p':=fun _=>false) (ops:=r) (t:=t) (k:=k + 1) (e:=e.put o1.d q1.v) (e':=e.put o1.d q1.v) hno rfl;rw [this];have none:∀ (r:List au) (t:List DR) (k:Nat) (e:Env),eK (fun _=>false) r t k e = e:=by
   intro r
   induction r with
   | nil=>intros; simp [eK]
   | cons a r ih=>intro t k e; cases t with
    | nil=>simp [eK]
    | cons b t=>simp only [eK,Bool.false_eq_true,if_false]; exact ih t _ e
  rw [none]; simp [bI,h3]
 | o1 :: r,q1 :: t,k,i + 1,e,o,q,h1,h2,h3,h4,h5=>by
  simp only [eK];exact qa (i:=i) (by simpa using h1) (by simpa using h2) h3 (by rw [show k + 1 + i = k + (i + 1) by omega]; exact h4)
   (fun j o' g1 g2=>h5 (j + 1) o' (by omega) (by simpa using g2))
theorem jQ {p:Nat → Bool}:∀ {ops:List au} {t:List DR} {k:Nat} {e:Env},(∀ j,k ≤ j → p j = false) → eK p ops t k e = e
 | [],_,_,_,_=>by simp [eK]
 | _ :: _,[],_,_,_=>by simp [eK]
 | o :: r,q :: t,k,e,h=>by
  simp only [eK];rw [h k (Nat.le_refl _)];simp only [Bool.false_eq_true,if_false];exact jQ fun j hj=>h j (by omega)
theorem e8 {p:Nat → Bool}:∀ {l:List (Option (Nat × bO))} {k:Nat} {σ:ab},(bJ p l k σ).length = σ.length
 | [],_,_=>rfl
 | none :: r,k,σ=>by simp only [bJ]; exact e8
 | some (b,o) :: r,k,σ=>by simp only [bJ]; rw [e8]; split <;> simp
theorem cN {p p':Nat → Bool} {b:Nat}:∀ {l:List (Option (Nat × bO))} {k:Nat} {σ σ':ab},(∀ j o,l[j]? = some (some (b,o)) → p (k + j) = p' (k + j)) → σ[b]? = σ'[b]? → σ.length = σ'.length →
  (bJ p l k σ)[b]? = (bJ p' l k σ')[b]?
 | [],_,_,_,_,h,_=>h
 | none :: r,k,σ,σ',h,he,hl=>by
  simp only [bJ];exact cN (fun j o g=>by rw [show k + 1 + j = k + (j + 1) by omega]; exact h (j + 1) o (by simpa using g)) he hl
 | some (b',o) :: r,k,σ,σ',h,he,hl=>by
  simp only [bJ];refine cN (fun j o g=>by rw [show k + 1 + j = k + (j + 1) by omega]; exact h (j + 1) o (by simpa using g)) ?_ ?_
  ·by_cases hb:b' = b
   ·subst hb;have:=h 0 o (by simp);rw [Nat.add_zero] at this;rw [this];split
    ·simp only [List.getElem?_set_self',he]
    ·exact he
   ·have f:∀ (c:Bool) (σ:ab),(if c = true then σ.set b' o else σ)[b]? = σ[b]?:=fun c σ=>by cases c <;> simp [List.getElem?_set_ne hb]
    rw [f,f]; exact he
  ·have f:∀ (c:Bool) (σ:ab),(if c = true then σ.set b' o else σ).length = σ.length:=fun c σ=>by cases c <;> simp
   rw [f,f]; exact hl
theorem eC {p:Nat → Bool}:∀ {l:List (Option (Nat × bO))} {k:Nat} {σ:ab},(∀ j,k ≤ j → p j = false) → bJ p l k σ = σ
 | [],_,_,_=>rfl
 | none :: r,k,σ,h=>by simp only [bJ]; exact eC fun j hj=>h j (by omega)
 | some (b,o) :: r,k,σ,h=>by
  simp only [bJ]; rw [h k (Nat.le_refl _)]; simp only [Bool.false_eq_true,if_false]; exact eC fun j hj=>h j (by omega)
theorem iL {p:Nat → Bool} {b:Nat} {o:bO}:∀ {l:List (Option (Nat × bO))} {k i:Nat} {σ:ab},l[i]? = some (some (b,o)) → p (k + i) = true →
  (∀ j o',i < j → l[j]? = some (some (b,o')) → p (k + j) = false) → b < σ.length → (bJ p l k σ)[b]? = some o
 | [],_,_,_,h,_,_,_=>by simp at h
 | x :: r,k,0,σ,h1,h2,h3,h4=>by
  simp at h1; subst h1;simp only [bJ];rw [Nat.add_zero] at h2;rw [if_pos h2];rw [cN (p':=fun _=>false) (σ':=σ.set b o) (fun j o' g=>by rw [show k + 1 + j = k + (j + 1) by omega]; exact h3 (j + 1) o' (by omega) (by simpa using g)) rfl rfl,eC (fun _ _=>rfl)];simp [h4]
 | none :: r,k,i + 1,σ,h1,h2,h3,h4=>by
  simp only [bJ];exact iL (i:=i) (by simpa using h1) (by rw [show k + 1 + i = k + (i + 1) by omega]; exact h2)
   (fun j o' g1 g2=>by rw [show k + 1 + j = k + (j + 1) by omega]; exact h3 (j + 1) o' (by omega) (by simpa using g2)) h4
 | some (b',o1) :: r,k,i + 1,σ,h1,h2,h3,h4=>by
  simp only [bJ];exact iL (i:=i) (by simpa using h1) (by rw [show k + 1 + i = k + (i + 1) by omega]; exact h2)
   (fun j o' g1 g2=>by rw [show k + 1 + j = k + (j + 1) by omega]; exact h3 (j + 1) o' (by omega) (by simpa using g2)) (by split <;> simp [h4])
theorem vi {p p':Nat → Bool} {l:List (Option (Nat × bO))} {i:Nat} {σ:ab} (hp:∀ j,p' j = (p j || j == i)) :
  (l[i]? = some none → bJ p' l 0 σ = bJ p l 0 σ) ∧
  (∀ b o,l[i]? = some (some (b,o)) → (∀ j o',i < j → l[j]? = some (some (b,o')) → p j = false) → bJ p' l 0 σ = (bJ p l 0 σ).set b o):=by
 constructor
 ·intro h;refine List.ext_getElem? fun b=>cN (fun j o g=>?_) rfl rfl
  rw [Nat.zero_add,hp];have:j ≠ i:=fun e=>by subst e; rw [h] at g; cases g
  simp [this]
 ·intro b o h hno;refine List.ext_getElem? fun b'=>?_
  by_cases hb:b = b'
  ·subst hb;by_cases hlt:b < σ.length
   ·rw [iL h (by simp [hp]) (fun j o' g1 g2=>by rw [Nat.zero_add,hp,hno j o' g1 g2]; simp; omega) hlt,List.getElem?_set_self (by rw [e8]; exact hlt)]
   ·rw [List.getElem?_eq_none (by rw [e8]; omega),List.getElem?_eq_none (by rw [List.length_set,e8]; omega)]
  ·rw [List.getElem?_set_ne hb];refine cN (fun j o' g=>?_) rfl rfl;rw [Nat.zero_add,hp];have:j ≠ i:=fun e=>by subst e; rw [h] at g; simp at g; exact hb g.1
   simp [this]
section
variable {P:Program}
theorem pB {o:au} {e:Env} {σ:ab} {q:DR} (h:lS P o e σ q) {b:Nat} {o':bO} (hq:q.e = .wr b o'):b < σ.length:=by
 obtain ⟨c,_,h⟩:=h;have quiet:q = ⟨eJ o.g c (bZ e σ o.i),du e o.i⟩ → b < σ.length:=fun he=>by rw [he] at hq; exact absurd hq lC
 cases hi:o.i <;> rw [hi] at h quiet <;> simp only at h <;> first | (exact quiet h.2.2) | skip
 case call f dn l=>rw [h.1] at hq; exact absurd hq rK
 case box n x=>rw [h.2.2.2] at hq; cases hq
 case alloc z=>rw [h.2.2] at hq; cases hq
 case mnew=>rw [h.2] at hq; cases hq
 case callA sz f dn l=>obtain ⟨_,_,xs,_,rfl⟩:=h; cases hq
 case mksl m sz bytes z n k=>rw [h.2.2.2.2] at hq; cases hq
 case append sz bytes x y=>
  obtain ⟨ys,b',o1,v,q1,q2,q3,q4,q5,rfl,_⟩:=iW h.2.2;cases hq;exact ab.bf q5
 case lit m sz n ps=>
  split at h
  ·rw [h.2] at hq; cases hq
  ·split at h
   ·rw [h.2.2.2] at hq; cases hq
   ·rw [h.2.2.2.2] at hq; cases hq
 case store sz x v=>
  have h5:=h.2.2.2.2;generalize opv e x = ax at h5
  cases ax with
  | ptr b off=>
   simp only [jf] at h5;cases hg:σ.get b <;> rw [hg] at h5 <;> first | (cases h5; done) | skip
   rw [hq] at h5; cases h5; exact ab.bf (by rw [hg]; simp)
  | eptr sz b i f n=>
   simp only [jf] at h5;cases hg:σ.get b <;> rw [hg] at h5 <;> first | (cases h5; done) | skip
   rw [hq] at h5; cases h5; exact ab.bf (by rw [hg]; simp)
  | _=>cases h5
theorem oC:∀ {ops:List au} {e:Env} {σ:ab} {t:List DR} {e':Env} {σ':ab},pE P ops e σ t e' σ' → t.length = ops.length
 | [],_,_,[],_,_,_=>rfl
 | _ :: r,_,_,_ :: t,_,_,h=>by simp [oC h.2]
 | [],_,_,_ :: _,_,_,h=>h.elim
 | _ :: _,_,_,[],_,_,h=>h.elim
theorem nu:∀ {t:List DR} {nb:Nat},(dc t nb).length = t.length
 | [],_=>rfl
 | q :: r,nb=>by simp only [dc]; split <;> simp [nu]
theorem mO {o:au} {e:Env} {σ:ab} {q:DR} {t:List DR} {_ls:List (Option (Nat × bO))} {p:Nat → Bool} {k:Nat} (hs:lS P o e σ q) (hp:p k = true) :
  bJ p (dc (q :: t) σ.length) k (σ ++ List.replicate (nal (q :: t)) .hole) = bJ p (dc t (q.e.run σ).length) (k + 1) (q.e.run σ ++ List.replicate (nal t) .hole):=by
 obtain ⟨v,ef⟩:=q
 cases ef with
 | no=>simp only [dc,bJ,nal,bl.run]
 | rd l=>simp only [dc,bJ,nal,bl.run]
 | al ob=>
  simp only [dc,bJ,nal,bl.run,hp,if_true,List.length_append,List.length_cons,List.length_nil,Nat.zero_add,List.replicate_succ];congr 1;simp
 | wr b ob=>
  have:=pB hs rfl;simp only [dc,bJ,nal,bl.run,hp,if_true,List.length_set];congr 1;exact List.set_append_left _ _ this
theorem sO:∀ {ops:List au} {e:Env} {σ:ab} {t:List DR} {e':Env} {σ':ab} (k:Nat),pE P ops e σ t e' σ' → ∀ {j:Nat} {o:au},ops[j]? = some o →
  ∃ ej σj q,t[j]? = some q ∧ lS P o ej σj q ∧ (∀ x,ej.get x = (eK (fun i=>decide (i < k + j)) ops t k e).get x) ∧ σj.length = σ.length + nal (t.take j) ∧
   σj ++ List.replicate (nal (t.drop j)) .hole = bJ (fun i=>decide (i < k + j)) (dc t σ.length) k (σ ++ List.replicate (nal t) .hole)
 | [],_,_,_,_,_,_,_,j,o,h=>by simp at h
 | o1 :: r,e,σ,[],_,_,_,hr,_,_,_=>hr.elim
 | o1 :: r,e,σ,q1 :: t,e',σ',k,hr,0,o,h=>by
  simp at h; subst h;refine ⟨e,σ,q1,rfl,hr.1,fun x=>?_,by simp [nal], ?_⟩
  ·rw [jQ]; intro j hj; simp; omega
  ·rw [eC]
   ·rfl
   ·intro j hj; simp; omega
 | o1 :: r,e,σ,q1 :: t,e',σ',k,hr,j + 1,o,h=>by
  obtain ⟨ej,σj,q,h1,h2,h3,h4,h5⟩:=sO (k + 1) hr.2 (j:=j) (o:=o) (by simpa using h);refine ⟨ej,σj,q,by simpa using h1,h2,fun x=>?_, ?_, ?_⟩
  ·rw [h3 x];simp only [eK,show k + 1 + j = k + (j + 1) by omega];rw [if_pos (by simp)]
  ·rw [h4];obtain ⟨v,ef⟩:=q1;cases ef <;> simp [nal,bl.run] <;> omega
  ·simp only [List.drop_succ_cons];rw [h5,show k + 1 + j = k + (j + 1) by omega,mO (_ls:=[]) hr.1 (by simp)]
theorem oD:∀ {ops:List au} {e:Env} {σ:ab} {t:List DR} {e':Env} {σ':ab} (k:Nat) {p:Nat → Bool},pE P ops e σ t e' σ' → (∀ j,j < ops.length → p (k + j) = true) →
  e' = eK p ops t k e ∧ σ' = bJ p (dc t σ.length) k (σ ++ List.replicate (nal t) .hole)
 | [],e,σ,[],e',σ',k,p,h,_=>by obtain ⟨rfl,rfl⟩:=h; exact ⟨by simp [eK],by simp [nal,dc,bJ]⟩
 | o :: r,e,σ,q :: t,e',σ',k,p,h,hp=>by
  obtain ⟨h1,h2⟩:=oD (k + 1) (p:=p) h.2 (fun j hj=>by rw [show k + 1 + j = k + (j + 1) by omega]; exact hp (j + 1) (by simpa using hj));have hk:p k = true:=by have:=hp 0 (by simp); simpa using this
  refine ⟨?_, ?_⟩
  ·rw [h1]; simp only [eK,hk,if_true]
  ·rw [h2,mO (_ls:=[]) h.1 hk]
 | [],_,_,_ :: _,_,_,_,_,h,_=>h.elim
 | _ :: _,_,_,[],_,_,_,_,h,_=>h.elim
theorem fL {t:List DR} {i j:Nat} (h:i ≤ j):nal (t.take i) ≤ nal (t.take j):=by
 induction t generalizing i j with
 | nil=>simp
 | cons q t ih=>
  cases i with
  | zero=>simp [nal]
  | succ i=>
   cases j with
   | zero=>omega
   | succ j=>
    have:=ih (i:=i) (j:=j) (by omega);simp only [List.take_succ_cons,nal]
    split <;> omega
theorem fP:∀ {t:List DR} {nb j:Nat} {q:DR},t[j]? = some q → (dc t nb)[j]? = some (match q.e with
  | .al o=>some (nb + nal (t.take j),o)
  | .wr b o=>some (b,o)
  | _=>none)
 | [],_,_,_,h=>by simp at h
 | q1 :: t,nb,0,q,h=>by
  simp at h; subst h;obtain ⟨v,ef⟩:=q1;cases ef <;> simp [dc,nal]
 | q1 :: t,nb,j + 1,q,h=>by
  have h':t[j]? = some q:=by simpa using h
  obtain ⟨v,ef⟩:=q1;cases ef <;> simp only [dc,List.getElem?_cons_succ,List.take_succ_cons,nal] <;> rw [fP h'];cases q.e <;> simp only <;> congr 3; omega
theorem gM {t:List DR} {j:Nat} {q:DR} {o:bO} (h:t[j]? = some q) (hq:q.e = .al o):nal (t.take j) + 1 ≤ nal (t.take (j + 1)) ∧ nal (t.take j) < nal t:=by
 induction t generalizing j with
 | nil=>simp at h
 | cons q1 t ih=>
  cases j with
  | zero=>
   simp at h; subst h;simp [nal,hq]
  | succ j=>
   have:=ih (j:=j) (by simpa using h);simp only [List.take_succ_cons,nal]
   split <;> omega
end
open Go.RowKit
def iJ (bef:List (List Nat)) (o:Oper) (j:Nat):Bool:=
 o.after.toList.all (fun e=>!Region.binds .any e || decide (e.on < j)) &&
 (bef.getD j []).all fun i=>decide (i < j) && o.after.toList.any fun e=>Region.binds .any e && (e.on == i || (bef.getD e.on []).contains i)
def mT (bef:List (List Nat)):List Oper → Nat → Bool
 | [],_=>true
 | o :: r,j=>iJ bef o j && mT bef r (j + 1)
def jK (bef:List (List Nat)) (j:Nat) (rs:List Nat):List au → Nat → Bool
 | [],_=>true
 | o :: r,i=>(match o.d with
  | some d=>!rs.contains d || (bef.getD j []).contains i || (bef.getD i []).contains j
  | none=>true) && jK bef j rs r (i + 1)
def pz (bef:List (List Nat)) (all:List au):List au → Nat → Bool
 | [],_=>true
 | o :: r,j=>jK bef j (bb o) all 0 && pz bef all r (j + 1)
def pN (d:Option Nat):List au → Bool
 | []=>false
 | o :: r=>(match d with
  | some _=>o.d == d
  | none=>false) || pN d r
def ko:List au → Bool
 | []=>true
 | o :: r=>!pN o.d r && ko r
def IT:AI → Bool
 | .box _ _ | .alloc _ | .mnew | .mksl _ _ _ _ _ _ | .callA _ _ _ _=>true
 | .lit m _ _ _=>m != 0
 | _=>false
def zi:AI → Bool
 | .callA _ _ _ _=>true
 | _=>false
def I5:List au → Bool
 | []=>true
 | o :: r=>!IT o.i && I5 r
def pk:List au → Bool
 | []=>true
 | o :: r=>(!zi o.i || I5 r) && pk r
theorem xl {P:Program} {o:au} {e:Env} {σ:ab} {q:DR} (h:lS P o e σ q) {ob:bO} (hq:q.e = .al ob):IT o.i = true:=by
 obtain ⟨c,_,h⟩:=h;have dq:∀ i ob,du e i ≠ .al ob:=fun i ob he=>by
  have hr:∀ v,ie v ≠ .al ob:=fun v=>by cases v <;> simp [ie]
  cases i <;> first | (simp [du] at he; done) | exact hr _ he
 have quiet:q = ⟨eJ o.g c (bZ e σ o.i),du e o.i⟩ → IT o.i = true:=fun he=>by rw [he] at hq; exact absurd hq (dq _ _)
 cases hi:o.i <;> rw [hi] at h quiet <;> simp only at h <;> first | rfl | (exact quiet h.2.2) | skip
 case call f dn l=>rw [h.1] at hq; unfold rdL at hq; split at hq <;> cases hq
 case append sz bytes x y=>
  obtain ⟨ys,b',o1,v,q1,q2,q3,q4,q5,rfl,_⟩:=iW h.2.2;cases hq
 case lit m sz n ps=>
  split at h
  ·rw [h.2] at hq; cases hq
  ·rename_i hm; simp [IT,hm]
 case store sz x v=>
  have h5:=h.2.2.2.2;generalize opv e x = ax at h5
  cases ax with
  | ptr b off=>simp only [jf] at h5; cases hg:σ.get b <;> rw [hg] at h5 <;> first | (cases h5; done) | (rw [hq] at h5; cases h5)
  | eptr sz b i f n=>simp only [jf] at h5; cases hg:σ.get b <;> rw [hg] at h5 <;> first | (cases h5; done) | (rw [hq] at h5; cases h5)
  | _=>cases h5
theorem p6 {P:Program}:∀ {ops:List au} {e:Env} {σ:ab} {t:List DR} {e':Env} {σ':ab},pE P ops e σ t e' σ' → I5 ops = true → nal t = 0
 | [],_,_,[],_,_,_,_=>rfl
 | o :: r,e,σ,q :: t,e',σ',h,hn=>by
  simp only [I5,Bool.and_eq_true,Bool.not_eq_true'] at hn;have ih:=p6 h.2 hn.2;obtain ⟨v,ef⟩:=q
  cases ef with
  | al ob=>have:=xl h.1 (q:=⟨v, .al ob⟩) rfl; rw [hn.1] at this; cases this
  | _=>exact ih
 | [],_,_,_ :: _,_,_,h,_=>h.elim
 | _ :: _,_,_,[],_,_,h,_=>h.elim
theorem la {P:Program}:∀ {ops:List au} {e:Env} {σ:ab} {t:List DR} {e':Env} {σ':ab},pE P ops e σ t e' σ' → pk ops = true → ∀ {j:Nat} {o:au} {q:DR} {ob:bO},ops[j]? = some o → t[j]? = some q → q.e = .al ob → zi o.i = true → nal t = nal (t.take j) + 1
 | o1 :: r,e,σ,q1 :: t,e',σ',h,hc,0,o,q,ob,h1,h2,h3,h4=>by
  simp at h1 h2;subst h1 h2;simp only [pk,h4,Bool.not_true,Bool.false_or,Bool.and_eq_true] at hc;have:=p6 h.2 hc.1;simp [nal,h3,this]
 | o1 :: r,e,σ,q1 :: t,e',σ',h,hc,j + 1,o,q,ob,h1,h2,h3,h4=>by
  simp only [pk,Bool.and_eq_true] at hc;have ih:=la h.2 hc.2 (j:=j) (by simpa using h1) (by simpa using h2) h3 h4;simp only [List.take_succ_cons,nal]
  split <;> omega
 | [],_,_,_,_,_,_,_,_,_,_,_,h1,_,_,_=>by simp at h1
 | _ :: _,_,_,[],_,_,h,_,_,_,_,_,_,_,_,_=>h.elim
def xK (P:Program) (N:Nat) (os:Array Oper) (ops:List au) (bef:List (List Nat)):Bool:=
 cz P N os ops os.toList && P.follows .mixedOrders && mT bef os.toList 0 && pz bef ops ops 0 && ko ops && pk ops
theorem eg {bef:List (List Nat)}:∀ {l:List Oper} {k j:Nat} {o:Oper},mT bef l k = true → l[j]? = some o → iJ bef o (k + j) = true
 | [],_,_,_,_,h=>by simp at h
 | a :: r,k,0,o,hb,h=>by simp at h; subst h; simp only [mT,Bool.and_eq_true] at hb; exact hb.1
 | a :: r,k,j + 1,o,hb,h=>by
  simp only [mT,Bool.and_eq_true] at hb;have:=eg hb.2 (j:=j) (o:=o) (by simpa using h);rw [show k + (j + 1) = k + 1 + j by omega]; exact this
theorem ka {bef:List (List Nat)} {j:Nat} {rs:List Nat}:∀ {l:List au} {k i:Nat} {o:au} {d:Nat},jK bef j rs l k = true → l[i]? = some o → o.d = some d → d ∈ rs → (k + i) ∈ bef.getD j [] ∨ j ∈ bef.getD (k + i) []
 | [],_,_,_,_,_,h,_,_=>by simp at h
 | a :: r,k,0,o,d,hb,h,hd,hm=>by
  simp at h; subst h;simp only [jK,hd,Bool.and_eq_true,Bool.or_eq_true,Bool.not_eq_true',List.contains_eq_mem,decide_eq_false_iff_not,decide_eq_true_eq] at hb;rcases hb.1 with (h | h) | h
  ·exact absurd hm h
  ·exact .inl h
  ·exact .inr h
 | a :: r,k,i + 1,o,d,hb,h,hd,hm=>by
  simp only [jK,Bool.and_eq_true] at hb;have:=ka hb.2 (i:=i) (by simpa using h) hd hm;rw [show k + (i + 1) = k + 1 + i by omega]; exact this
theorem lB {bef:List (List Nat)} {all:List au}:∀ {l:List au} {k j:Nat} {o:au},pz bef all l k = true → l[j]? = some o → jK bef (k + j) (bb o) all 0 = true
 | [],_,_,_,_,h=>by simp at h
 | a :: r,k,0,o,hb,h=>by simp at h; subst h; simp only [pz,Bool.and_eq_true] at hb; exact hb.1
 | a :: r,k,j + 1,o,hb,h=>by
  simp only [pz,Bool.and_eq_true] at hb;have:=lB hb.2 (j:=j) (o:=o) (by simpa using h);rw [show k + (j + 1) = k + 1 + j by omega]; exact this
theorem iv {d:Nat}:∀ {l:List au} {j:Nat} {o:au},pN (some d) l = false → l[j]? = some o → o.d ≠ some d
 | [],_,_,_,h=>by simp at h
 | a :: r,0,o,hb,h=>by simp at h; subst h; simp only [pN,Bool.or_eq_false_iff,beq_eq_false_iff_ne] at hb; exact hb.1
 | a :: r,j + 1,o,hb,h=>by simp only [pN,Bool.or_eq_false_iff] at hb; exact iv hb.2 (j:=j) (by simpa using h)
theorem k8:∀ {l:List au} {i j:Nat} {o o':au} {d:Nat},ko l = true → l[i]? = some o → l[j]? = some o' → o.d = some d → o'.d = some d → i = j
 | [],_,_,_,_,_,_,h,_,_,_=>by simp at h
 | a :: r,0,0,_,_,_,_,_,_,_,_=>rfl
 | a :: r,0,j + 1,o,o',d,hb,h1,h2,d1,d2=>by
  simp at h1; subst h1;simp only [ko,Bool.and_eq_true,Bool.not_eq_true',d1] at hb;exact absurd d2 (iv hb.1 (j:=j) (by simpa using h2))
 | a :: r,i + 1,0,o,o',d,hb,h1,h2,d1,d2=>by
  simp at h2; subst h2;simp only [ko,Bool.and_eq_true,Bool.not_eq_true',d2] at hb;exact absurd d1 (iv hb.1 (j:=i) (by simpa using h1))
 | a :: r,i + 1,j + 1,o,o',d,hb,h1,h2,d1,d2=>by
  simp only [ko,Bool.and_eq_true] at hb;rw [k8 hb.2 (i:=i) (j:=j) (by simpa using h1) (by simpa using h2) d1 d2]
theorem iU {bef:List (List Nat)} {j:Nat} {e:bl}:∀ {l:List bl} {k i:Nat} {f:bl},hZ bef j e l k = true → l[i]? = some f → e.jC f = true → (k + i) ∈ bef.getD j []
 | [],_,_,_,_,h,_=>by simp at h
 | a :: r,k,0,f,hb,h,hc=>by
  simp at h; subst h;simp only [hZ,Bool.and_eq_true,Bool.or_eq_true,Bool.not_eq_true',hc,List.contains_eq_mem,decide_eq_true_eq] at hb;simpa using hb.1
 | a :: r,k,i + 1,f,hb,h,hc=>by
  simp only [hZ,Bool.and_eq_true] at hb;have:=iU hb.2 (i:=i) (by simpa using h) hc;rw [show k + (i + 1) = k + 1 + i by omega]; exact this
theorem gC {bef:List (List Nat)}:∀ {b l:List bl} {i j:Nat} {f e:bl},eA bef b l b.length = true → i < j → (b ++ l)[i]? = some f → (b ++ l)[j]? = some e → b.length ≤ j → e.jC f = true → i ∈ bef.getD j []
 | b,[],i,j,f,e,_,_,_,h,hl,_=>by simp at h; rw [List.getElem?_eq_none (by omega)] at h; cases h
 | b,x :: r,i,j,f,e,hb,hij,hf,he,hl,hc=>by
  simp only [eA,Bool.and_eq_true] at hb;by_cases hj:j = b.length
  ·subst hj;rw [List.getElem?_append_right (Nat.le_refl _)] at he;simp at he; subst he;rw [List.getElem?_append_left hij] at hf;have:=iU hb.1 hf hc;simpa using this
  ·have h2:=hb.2;rw [show b.length + 1 = (b ++ [x]).length by simp] at h2;exact gC (b:=b ++ [x]) h2 hij (by simpa using hf) (by simpa using he) (by simp; omega) hc
theorem gg {P:Program} {N:Nat} {os:Array Oper}:∀ {ops:List au} {l:List Oper} {j:Nat} {o:Oper},cz P N os ops l = true → l[j]? = some o →
  ∃ ao,ops[j]? = some ao ∧ n9 N ao.d o.dst = true ∧ my os ao.g o.guard = true ∧ aK P ao.i o.op = true
 | [],[],_,_,_,h=>by simp at h
 | a :: r,b :: t,0,o,hc,h=>by
  simp at h; subst h;simp only [cz,Bool.and_eq_true] at hc;exact ⟨a,by simp,hc.1.1.1,hc.1.1.2,hc.1.2⟩
 | a :: r,b :: t,j + 1,o,hc,h=>by
  simp only [cz,Bool.and_eq_true] at hc;obtain ⟨ao,h1,h2⟩:=gg hc.2 (j:=j) (o:=o) (by simpa using h);exact ⟨ao,by simpa using h1,h2⟩
 | [],_ :: _,_,_,h,_=>by simp [cz] at h
 | _ :: _,[],_,_,h,_=>by simp [cz] at h
theorem gu {P:Program} {N:Nat} {os:Array Oper}:∀ {ops:List au} {l:List Oper},cz P N os ops l = true → ops.length = l.length
 | [],[],_=>rfl
 | a :: r,b :: t,hc=>by simp only [cz,Bool.and_eq_true] at hc; simp [gu hc.2]
 | [],_ :: _,h=>by simp [cz] at h
 | _ :: _,[],h=>by simp [cz] at h
def cnt:List Bool → Nat
 | []=>0
 | b :: r=>(if b = true then 0 else 1) + cnt r
theorem kH:∀ {l:List Bool} {i:Nat},l[i]? = some false → cnt (l.set i true) + 1 = cnt l
 | [],_,h=>by simp at h
 | b :: r,0,h=>by simp at h; subst h; simp [cnt]; omega
 | b :: r,i + 1,h=>by have:=kH (l:=r) (i:=i) (by simpa using h); simp only [List.set_cons_succ,cnt]; omega
theorem je:∀ {l:List Bool} {i:Nat},cnt l = 0 → l[i]? ≠ some false
 | [],_,_=>by simp
 | b :: r,0,h=>by intro e; simp at e; subst e; simp [cnt] at h
 | b :: r,i + 1,h=>by
  simp only [cnt] at h;have:=je (l:=r) (i:=i) (by omega);simpa using this
section
variable {P:Program} {A:World} {N:Nat}
theorem bK.env {s:St} {fr:Fr} {a:Act} {e:Env} (hf:bK s N fr a) (h:∀ x,e.get x = fr.v.get x):bK s N { fr with v:=e } a:=
 ⟨hf.size,fun t=>by show Rv s (e.get t) _; rw [h]; exact hf.v t,hf.ds⟩
structure G3 (A:World) (N:Nat) (s0:St) (ops:List au) (bef:List (List Nat)) (fr0:Fr) (t:List DR) (p:Nat → Bool) (s:St) (a:Act):Prop where
 inv:Inv A s
 goes:aT s0 s
 fr:bK s N { fr0 with v:=eK p ops t 0 fr0.v } a
 heap:s.h = bJ p (dc t s0.h.length) 0 (s0.h ++ List.replicate (nal t) .hole)
 unal:∀ j j' b o o' q,t[j]? = some q → q.e = .al o' → (dc t s0.h.length)[j]? = some (some (b,o')) → p j = false → p j' = true → (dc t s0.h.length)[j']? ≠ some (some (b,o))
 closed:∀ j,p j = true → ∀ i ∈ bef.getD j [],p i = true
theorem G3.hole {s0:St} {ops:List au} {bef:List (List Nat)} {fr0:Fr} {t:List DR} {p:Nat → Bool} {s:St} {a:Act} (h:G3 A N s0 ops bef fr0 t p s a) {j:Nat} {q:DR} {o:bO}
  (hj:t[j]? = some q) (hq:q.e = .al o) (hp:p j = false):s.h[s0.h.length + nal (t.take j)]? = some .hole:=by
 have hit:=fP (nb:=s0.h.length) hj;rw [hq] at hit;simp only at hit;rw [h.heap,cN (p':=fun _=>false) (σ':=s0.h ++ List.replicate (nal t) bO.hole) ?_ rfl rfl,eC (fun _ _=>rfl)]
 ·have:=(gM hj hq).2;rw [List.getElem?_append_right (by omega),List.getElem?_replicate,if_pos (by omega)]
 ·intro j' o' g;rw [Nat.zero_add]
  cases hp':p j' with
  | false=>rfl
  | true=>exact absurd g (h.unal j j' _ o' o q hj hq hit hp hp')
theorem qS {id:Nat} {os:Array Oper} {ops:List au} {bef:List (List Nat)} {ro:Option Nat} {Q:AEx → Fr → ab → Prop} {fr:Fr} {σ:ab} (hc:xK P N os ops bef = true)
  (h:dm P ops fr.v σ [] fun e σ' es=>eA bef [] es.reverse 0 = true ∧ Q .normal { fr with v:=e } σ'):AWc P N ro (.region id os true) Q fr σ:=by
 simp only [xK,Bool.and_eq_true] at hc;obtain ⟨⟨⟨⟨⟨hc1,hmix⟩,hbef⟩,htmp⟩,hdst⟩,hcal⟩:=hc;obtain ⟨t,e',σ',hrun,hcl,hQ⟩:=mL h;simp only [List.append_nil,List.reverse_reverse] at hcl;intro A s a r h1 h2 h3 h4;subst h1;have hlen:ops.length = os.size:=by simpa using gu hc1
 have htl:t.length = os.size:=(oC hrun).trans hlen
 -- the world with one draw more, and the blocks that are to come
 let sd:St:={ s with w:={ s.w with drawn:=s.w.drawn + 1 } }
 have kd:aL s sd:=⟨fun _ _ _ h=>h,fun _ _ h=>h,fun _ _ _=>rfl⟩;have gd:=h2.grow (s':=sd) rfl rfl kd ⟨h2.below.os,h2.below.tape,h2.below.output,h2.below.size,h2.below.block⟩ (Nat.le_refl _) (fun _ _=>rfl) (fun _ _ h=>.inl h) h2.scell;have gm:=gd.1.more (nal t)
 let s1:=sd.more (nal t)
 -- two that meddle are ordered
 have hclash:∀ i j qi qj,i < j → t[i]? = some qi → t[j]? = some qj → qj.e.jC qi.e = true → i ∈ bef.getD j []:=fun i j qi qj hij hi hj hcc=>
  gC (b:=[]) (l:=t.map (·.e)) hcl hij (by simp [hi]) (by simp [hj]) (by simp) hcc
 have key : ∀ (fuel : Nat) (listed : Array Bool) (s2 : St) (a2 : Act),listed.size = os.size → cnt listed.toList ≤ fuel → G3 A N s ops bef fr t (fun j => listed.getD j false) s2 a2 →
   wpAnyIn (Fro r) 0 P .any os (dt A N s Q) fuel listed a2 s2.w:=by
  -- when nothing is ready all is done
  have hready:∀ (listed:Array Bool),listed.size = os.size → Region.ready .any os listed = [] → ∀ j,j < os.size → listed.getD j false = true:=by
   intro listed hsz hr j
   induction j using Nat.strongRecOn with
   | _ j ih=>
    intro hj
    cases hl:listed.getD j false with
    | true=>rfl
    | false=>
     have hj':j < listed.size:=by omega
     have:j ∈ Region.ready .any os listed:=by
      refine mem_ready.2 ⟨by simpa [Array.getD_eq_getD_getElem?,hj'] using hl,os[j],by simp [hj],fun e he hb=>?_⟩;have hb1:=eg hbef (j:=j) (o:=os[j]) (by simp [hj]);simp only [iJ,Nat.zero_add,Bool.and_eq_true,List.all_eq_true] at hb1;have:=hb1.1 e (by simpa using he);simp only [hb,Bool.not_true,Bool.false_or,decide_eq_true_eq] at this;exact ih e.on this (by omega)
     rw [hr] at this; cases this
  have hdone:∀ (listed:Array Bool) (s2:St) (a2:Act),listed.size = os.size → G3 A N s ops bef fr t (fun j=>listed.getD j false) s2 a2 → Region.ready .any os listed = [] → dt A N s Q .normal a2 s2.w:=by
   intro listed s2 a2 hsz hd hr;have hall:=hready listed hsz hr;obtain ⟨g1,g2⟩:=oD 0 (p:=fun j=>listed.getD j false) hrun (fun j hj=>by rw [Nat.zero_add]; exact hall j (by omega));have hfr:=hd.fr;rw [← g1] at hfr;exact ⟨.normal,{ fr with v:=e' },s2,rfl,hd.inv,hd.goes,hfr,trivial,by rw [hd.heap, ← g2]; exact hQ⟩
  intro fuel
  induction fuel with
  | zero=>
   intro listed s2 a2 hsz hcnt hd;have hr:Region.ready .any os listed = []:=by
    cases hr:Region.ready .any os listed with
    | nil=>rfl
    | cons i l=>
     have hi:i ∈ Region.ready .any os listed:=by rw [hr]; simp
     obtain ⟨g1,o,g2,_⟩:=mem_ready.1 hi;have hilt:i < os.size:=by
      rcases Nat.lt_or_ge i os.size with h' | h'
      ·exact h'
      ·rw [Array.getElem?_eq_none h'] at g2; cases g2
     have:=je (l:=listed.toList) (i:=i) (by omega);have hi':i < listed.size:=by omega
     simp [hi'] at this g1;rw [g1] at this; simp at this
   exact ⟨hr,hdone listed s2 a2 hsz hd hr⟩
  | succ fuel ih=>
   intro listed s2 a2 hsz hcnt hd;refine ⟨hdone listed s2 a2 hsz hd,fun i hi=>?_⟩;obtain ⟨g1,o,g2,g3⟩:=mem_ready.1 hi;have hilt:i < os.size:=by
    rcases Nat.lt_or_ge i os.size with h' | h'
    ·exact h'
    ·rw [Array.getElem?_eq_none h'] at g2; cases g2
   have hi':i < listed.size:=by omega
   have hpi:listed.getD i false = false:=by simp [hi'] at g1 ⊢; exact g1
   -- those that come before are done
   have hb1:=eg hbef (j:=i) (o:=o) (by simpa using g2);simp only [iJ,Nat.zero_add,Bool.and_eq_true,List.all_eq_true,List.any_eq_true,decide_eq_true_eq,Bool.or_eq_true,beq_iff_eq,List.contains_eq_mem] at hb1;have hbi:∀ x ∈ bef.getD i [],x < i ∧ listed.getD x false = true:=by
    intro x hx;obtain ⟨q1,e,q2,q3,q4⟩:=hb1.2 x hx;refine ⟨q1, ?_⟩;have hon:=g3 e (by simpa using q2) q3;rcases q4 with q4 | q4
    ·rw [← q4]; exact hon
    ·exact hd.closed e.on hon x q4
   obtain ⟨ao,k1,k2,k3,k4⟩:=gg hc1 (j:=i) (o:=o) (by simpa using g2);obtain ⟨ei,σi,q,r1,r2,r3,r4,r5⟩:=sO 0 hrun k1;simp only [Nat.zero_add] at r3 r5;have htm:=lB htmp (j:=i) (o:=ao) k1;rw [Nat.zero_add] at htm;have hits:=fP (nb:=s.h.length) r1
   -- who touches a block is done just if it comes first in the text
   have htouch:∀ b,(q.e.reads b ∨ ∃ o',q.e = .wr b o') → b < σi.length → (∃ k u,s2.lam b k = some u) → ∀ j o',(dc t s.h.length)[j]? = some (some (b,o')) → listed.getD j false = decide (j < i):=by
    intro b hq hlt hlam j o' hj;have hjl:j < t.length:=by
     rcases Nat.lt_or_ge j t.length with h' | h'
     ·exact h'
     ·rw [List.getElem?_eq_none (by rw [nu]; exact h')] at hj; cases hj
    obtain ⟨qj,hqj⟩:∃ qj,t[j]? = some qj:=⟨t[j],by simp [hjl]⟩
    have hit:=fP (nb:=s.h.length) hqj;rw [hj] at hit;rcases Nat.lt_trichotomy j i with hji | hji | hji
    ·simp only [hji,decide_true]
     cases hqe:qj.e with
     | no=>rw [hqe] at hit; simp at hit
     | rd l=>rw [hqe] at hit; simp at hit
     | al ob=>
      rw [hqe] at hit; simp at hit
      cases hpj:listed.getD j false with
      | true=>rfl
      | false=>
       have:=hd.hole hqj hqe hpj;rw [← hit.1] at this;obtain ⟨k,u,hku⟩:=hlam;have:=hd.inv.obj b _ this k;rw [hku] at this; cases this
     | wr b' ob=>
      rw [hqe] at hit; simp at hit;refine (hbi j (hclash j i qj q hji hqj r1 ?_)).2;rw [hqe];rcases hq with hq | ⟨o2,hq⟩
      ·cases hqq:q.e with
       | rd l=>rw [hqq] at hq; simp only [bl.jC,List.contains_eq_mem,decide_eq_true_eq]; rw [← hit.1]; exact hq
       | _=>rw [hqq] at hq; exact hq.elim
      ·rw [hq]; simp [bl.jC,hit.1]
    ·subst hji; simp [hpi]
    ·have:¬ j < i:=by omega
     simp only [this,decide_false]
     cases hqe:qj.e with
     | no=>rw [hqe] at hit; simp at hit
     | rd l=>rw [hqe] at hit; simp at hit
     | al ob=>
      rw [hqe] at hit; simp at hit;have:=fL (t:=t) (Nat.le_of_lt hji);omega
     | wr b' ob=>
      rw [hqe] at hit; simp at hit
      have hm:=hclash i j q qj hji r1 hqj (by
       rw [hqe];rcases hq with hq | ⟨o2,hq⟩
       ·cases hqq:q.e with
        | rd l=>rw [hqq] at hq; simp only [bl.jC,List.contains_eq_mem,decide_eq_true_eq]; rw [← hit.1]; exact hq
        | _=>rw [hqq] at hq; exact hq.elim
       ·rw [hq]; simp [bl.jC,hit.1])
      cases hpj:listed.getD j false with
      | false=>rfl
      | true=>have:=hd.closed j hpj i hm; rw [hpi] at this; cases this
   have hsame:∀ b,(q.e.reads b ∨ ∃ o',q.e = .wr b o') → b < σi.length → (∃ k u,s2.lam b k = some u) → s2.h.get b = σi.get b:=by
    intro b hq hlt hlam;have e1:s2.h[b]? = (σi ++ List.replicate (nal (t.drop i)) .hole)[b]?:=by
     rw [hd.heap,r5];exact cN (fun j o' hj=>by rw [Nat.zero_add]; exact htouch b hq hlt hlam j o' hj) rfl rfl
    rw [List.getElem?_append_left hlt] at e1;simp only [ab.get,List.getD,e1]
   refine po (fr:={ fr with v:=eK (fun j=>listed.getD j false) ops t 0 fr.v }) g2 k3 k4 hd.inv hd.fr r2 (fun x hx=>?_) (fun b hb=>hsame b (.inl hb)) (fun b o' hb=>hsame b (.inr ⟨o',hb⟩)) (fun o' hal=>?_) (fun sz f dn l hai=>?_) ?_
   ·rw [r3 x];refine gn (fun j oj hj hdj=>?_) rfl;have:=ka htm hj hdj hx;rw [Nat.zero_add] at this ⊢;rcases this with this | this
    ·have:=hbi j this;rw [this.2]; simp [this.1]
    ·have hij:i < j:=by
      have hjlt:j < os.size:=by
       rcases Nat.lt_or_ge j os.size with h' | h'
       ·exact h'
       ·rw [List.getElem?_eq_none (by omega)] at hj; cases hj
      have hb2:=eg hbef (j:=j) (o:=os[j]) (by simp [hjlt]);simp only [iJ,Nat.zero_add,Bool.and_eq_true,List.all_eq_true,decide_eq_true_eq] at hb2;exact (hb2.2 i this).1
     have hpj:listed.getD j false = false:=by
      cases h':listed.getD j false with
      | false=>rfl
      | true=>have:=hd.closed j h' i this; rw [hpi] at this; cases this
     rw [hpj]; simp; omega
   ·rw [r4]; exact hd.hole r1 hal hpi
   ·have hqe:∃ ob,q.e = .al ob:=by
     obtain ⟨c,_,hst⟩:=r2;rw [hai] at hst;obtain ⟨_,_,xs,_,rfl⟩:=hst;exact ⟨_,rfl⟩
    obtain ⟨ob,hqe⟩:=hqe;have hl:=la hrun hcal k1 r1 hqe (by rw [hai]; rfl);rw [hd.heap,e8,r4];simp only [List.length_append,List.length_replicate];omega
   ·intro c s3 i3 g3' hh hv hwr;have hp':∀ j,(listed.setIfInBounds i true).getD j false = (listed.getD j false || j == i):=by
     intro j;by_cases hji:j = i
     ·subst hji; simp [hi']
     ·rw [getD_set_ne false (fun h=>hji h.symm)]; simp [hji]
    have hcnt':cnt (listed.setIfInBounds i true).toList ≤ fuel:=by
     have:=kH (l:=listed.toList) (i:=i) (by simp [hi'] at hpi ⊢; exact hpi);simp only [Array.toList_setIfInBounds]; omega
    refine ih _ s3 _ (by simpa using hsz) hcnt' ⟨i3,hd.goes.trans g3', ?_, ?_, ?_, ?_⟩
    ·have hfr:=(hd.fr.keeps g3'.keeps).put k2 hv;refine hfr.env (e:=eK (fun j=>(listed.setIfInBounds i true).getD j false) ops t 0 fr.v) fun x=>?_
     simp only [Fr.put,bI];by_cases hx:ao.d = some x
     ·rw [if_pos hx];refine qa k1 r1 hx (by rw [Nat.zero_add,hp']; simp) (fun j o' hne hj hdj=>hne (k8 hdst hj k1 hdj hx))
     ·rw [if_neg hx];refine gn (fun j oj hj hdj=>?_) rfl;rw [Nat.zero_add,hp'];have:j ≠ i:=fun e=>by subst e; rw [k1] at hj; cases hj; exact hx hdj
      simp [this]
    ·rw [hh,hd.heap];have hadd:=vi (p:=fun j=>listed.getD j false) (p':=fun j=>(listed.setIfInBounds i true).getD j false) (l:=dc t s.h.length) (i:=i) (σ:=s.h ++ List.replicate (nal t) .hole) hp'
     cases hqe:q.e with
     | no=>rw [hqe] at hits; rw [hadd.1 hits]; rfl
     | rd l=>rw [hqe] at hits; rw [hadd.1 hits]; rfl
     | al ob=>
      rw [hqe] at hits;simp only [bl.jG];rw [r4,hadd.2 _ _ hits];intro j o' hij hj
      cases hpj:listed.getD j false with
      | false=>rfl
      | true=>exact absurd hj (hd.unal i j _ o' ob q r1 hqe hits hpi hpj)
     | wr b ob=>
      rw [hqe] at hits;simp only [bl.jG];rw [hadd.2 _ _ hits];intro j o' hij hj;obtain ⟨w1,w2⟩:=hwr b ob hqe;have:=htouch b (.inr ⟨ob,hqe⟩) w1 w2 j o' hj;rw [this]; simp; omega
    ·intro j j' b oo o' qj h1 h2 h3' h4 h5 h6;rw [hp'] at h4 h5;simp only [Bool.or_eq_false_iff,beq_eq_false_iff_ne,Bool.or_eq_true,beq_iff_eq] at h4 h5;rcases h5 with h5 | h5
     ·exact hd.unal j j' b oo o' qj h1 h2 h3' h4.1 h5 h6
     ·subst h5;have hjb:=fP (nb:=s.h.length) h1;rw [h2] at hjb;simp only at hjb;rw [h3'] at hjb;simp only [Option.some.injEq,Prod.mk.injEq,and_true] at hjb
      cases hqe:q.e with
      | no=>rw [hqe] at hits; rw [h6] at hits; simp at hits
      | rd l=>rw [hqe] at hits; rw [h6] at hits; simp at hits
      | al ob=>
       rw [hqe] at hits; rw [h6] at hits; simp only [Option.some.injEq,Prod.mk.injEq] at hits;have hne:=h4.2;rcases Nat.lt_or_ge j j' with hlt | hge
       ·have a1:=(gM h1 h2).1;have a2:=fL (t:=t) (show j + 1 ≤ j' by omega);omega
       ·have a1:=(gM r1 hqe).1;have a2:=fL (t:=t) (show j' + 1 ≤ j by omega);omega
      | wr b' ob=>
       rw [hqe] at hits; rw [h6] at hits; simp only [Option.some.injEq,Prod.mk.injEq] at hits;obtain ⟨w1,k,u,hku⟩:=hwr b' ob hqe;have hol:=hd.hole h1 h2 h4.1;rw [← hjb,hits.1] at hol;have:=hd.inv.obj b' _ hol k;rw [hku] at this; cases this
    ·intro j hj x hx;rw [hp'] at hj ⊢;simp only [Bool.or_eq_true,beq_iff_eq] at hj ⊢;rcases hj with hj | hj
     ·exact .inl (hd.closed j hj x hx)
     ·subst hj; exact .inl (hbi x hx).2
 refine wpIn_region_any hmix ?_;refine key os.size (Array.replicate os.size false) s1 a (by simp) ?_ ⟨gm.1,gd.2.trans gm.2, ?_, ?_, ?_, ?_⟩
 ·have:∀ n,cnt (List.replicate n false) = n:=fun n=>by
   induction n with
   | zero=>rfl
   | succ n ih=>simp only [List.replicate_succ,cnt,ih]; simp; omega
  simp [this]
 ·have:=(h3.keeps (gd.2.trans gm.2).keeps);rw [jQ]
  ·exact this
  ·intro j _; simp [Array.getD_eq_getD_getElem?,Array.getElem?_replicate]; split <;> rfl
 ·rw [eC]
  ·rfl
  ·intro j _; simp [Array.getD_eq_getD_getElem?,Array.getElem?_replicate]; split <;> rfl
 ·intro j j' b o o' q _ _ _ _ h5;simp [Array.getD_eq_getD_getElem?,Array.getElem?_replicate] at h5
  split at h5 <;> simp at h5
 ·intro j hj;simp [Array.getD_eq_getD_getElem?,Array.getElem?_replicate] at hj
  split at hj <;> simp at hj
end
end Go.AM
