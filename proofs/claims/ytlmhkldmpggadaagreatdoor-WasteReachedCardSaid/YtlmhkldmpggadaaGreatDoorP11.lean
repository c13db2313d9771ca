/- A region whose order Go leaves open, the theorem. A region whose order Go leaves open: static check and theorem. -/
import Derived.Test.YtlmhkldmpggadaaGreatDoorP10
namespace Go.AM
open Go.RowKit
def iE (p:Nat → Bool):List aK → List DR → Nat → Env → Env
 | o :: r,q :: t,k,e=>iE p r t (k + 1) (if p k = true then e.put o.d q.v else e)
 | _,_,_,e=>e
def eY:List DR → Nat → List (Option (Nat × cm))
 | [],_=>[]
 | q :: r,nb=>match q.e with
  | .al o=>some (nb,o) :: eY r (nb + 1)
  | .wr b o=>some (b,o) :: eY r nb
  | _=>none :: eY r nb
def nal:List DR → Nat
 | []=>0
 | q :: r=>match q.e with
  | .al _=>nal r + 1
  | _=>nal r
def du (p:Nat → Bool):List (Option (Nat × cm)) → Nat → af → af
 | [],_,σ=>σ
 | none :: r,k,σ=>du p r (k + 1) σ
 | some (b,o) :: r,k,σ=>du p r (k + 1) (if p k = true then σ.set b o else σ)
theorem dk (e:Env) (d:Option Nat) (v:ag) (x:Nat):(e.put d v).get x = if d = some x then v else e.get x:=by
 cases d with
 | none=>simp [Env.put]
 | some n=>
  simp only [Env.put,ua,Option.some.injEq]
theorem lI {p p':Nat → Bool} {x:Nat}:∀ {ops:List aK} {t:List DR} {k:Nat} {e e':Env},(∀ j o,ops[j]? = some o → o.d = some x → p (k + j) = p' (k + j)) → e.get x = e'.get x →
  (iE p ops t k e).get x = (iE p' ops t k e').get x
 | [],_,k,e,e',_,he=>by simpa [iE] using he
 | _ :: _,[],k,e,e',_,he=>by simpa [iE] using he
 | o :: r,q :: t,k,e,e',h,he=>by
  simp only [iE];refine lI (fun j o' h1 h2=>?_) ?_
  ·have:=h (j + 1) o' (by simpa using h1) h2;rw [show k + 1 + j = k + (j + 1) by omega]; exact this
  ·by_cases hd:o.d = some x
   ·have:=h 0 o (by simp) hd;rw [Nat.add_zero] at this;rw [this];split
    ·simp [dk,hd]
    ·exact he
   ·have f:∀ (b:Bool) (e:Env),(if b = true then e.put o.d q.v else e).get x = e.get x:=fun b e=>by cases b <;> simp [dk,hd]
    rw [f,f]; exact he
theorem Ao {p:Nat → Bool} {x:Nat}:∀ {ops:List aK} {t:List DR} {k i:Nat} {e:Env} {o:aK} {q:DR},ops[i]? = some o → t[i]? = some q → o.d = some x → p (k + i) = true →
  (∀ j o',j ≠ i → ops[j]? = some o' → o'.d ≠ some x) → (iE p ops t k e).get x = q.v
 | [],_,_,_,_,_,_,h,_,_,_,_=>by simp at h
 | _ :: _,[],_,_,_,_,_,_,h,_,_,_=>by simp at h
 | o1 :: r,q1 :: t,k,0,e,o,q,h1,h2,h3,h4,h5=>by
  simp at h1 h2; subst h1; subst h2;simp only [iE];rw [Nat.add_zero] at h4;rw [if_pos h4];have hno:∀ j o',r[j]? = some o' → o'.d = some x → p (k + 1 + j) = false:=fun j o' g1 g2=>absurd g2 (h5 (j + 1) o' (by omega) (by simpa using g1));have:=lI (p:=p) (p':=fun _=>false) (ops:=r) (t:=t) (k:=k + 1) (e:=e.put o1.d q1.v) (e':=e.put o1.d q1.v) hno rfl;rw [this];have none:∀ (r:List aK) (t:List DR) (k:Nat) (e:Env),iE (fun _=>false) r t k e = e:=by
   intro r
   induction r with
   | nil=>intros; simp [iE]
   | cons a r ih=>intro t k e; cases t with
    | nil=>simp [iE]
    | cons b t=>simp only [iE,Bool.false_eq_true,if_false]; exact ih t _ e
  rw [none]; simp [dk,h3]
 | o1 :: r,q1 :: t,k,i + 1,e,o,q,h1,h2,h3,h4,h5=>by
  simp only [iE];exact Ao (i:=i) (by simpa using h1) (by simpa using h2) h3 (by rw [show k + 1 + i = k + (i + 1) by omega]; exact h4)
   (fun j o' g1 g2=>h5 (j + 1) o' (by omega) (by simpa using g2))
theorem rV {p:Nat → Bool}:∀ {ops:List aK} {t:List DR} {k:Nat} {e:Env},(∀ j,k ≤ j → p j = false) → iE p ops t k e = e
 | [],_,_,_,_=>by simp [iE]
 | _ :: _,[],_,_,_=>by simp [iE]
 | o :: r,q :: t,k,e,h=>by
  simp only [iE];rw [h k (Nat.le_refl _)];simp only [Bool.false_eq_true,if_false];exact rV fun j hj=>h j (by omega)
theorem jq {p:Nat → Bool}:∀ {l:List (Option (Nat × cm))} {k:Nat} {σ:af},(du p l k σ).length = σ.length
 | [],_,_=>rfl
 | none :: r,k,σ=>by simp only [du]; exact jq
 | some (b,o) :: r,k,σ=>by simp only [du]; rw [jq]; split <;> simp
theorem eL {p p':Nat → Bool} {b:Nat}:∀ {l:List (Option (Nat × cm))} {k:Nat} {σ σ':af},(∀ j o,l[j]? = some (some (b,o)) → p (k + j) = p' (k + j)) → σ[b]? = σ'[b]? → σ.length = σ'.length →
  (du p l k σ)[b]? = (du p' l k σ')[b]?
 | [],_,_,_,_,h,_=>h
 | none :: r,k,σ,σ',h,he,hl=>by
  simp only [du];exact eL (fun j o g=>by rw [show k + 1 + j = k + (j + 1) by omega]; exact h (j + 1) o (by simpa using g)) he hl
 | some (b',o) :: r,k,σ,σ',h,he,hl=>by
  simp only [du];refine eL (fun j o g=>by rw [show k + 1 + j = k + (j + 1) by omega]; exact h (j + 1) o (by simpa using g)) ?_ ?_
  ·by_cases hb:b' = b
   ·subst hb;have:=h 0 o (by simp);rw [Nat.add_zero] at this;rw [this];split
    ·simp only [List.getElem?_set_self',he]
    ·exact he
   ·have f:∀ (c:Bool) (σ:af),(if c = true then σ.set b' o else σ)[b]? = σ[b]?:=fun c σ=>by cases c <;> simp [List.getElem?_set_ne hb]
    rw [f,f]; exact he
  ·have f:∀ (c:Bool) (σ:af),(if c = true then σ.set b' o else σ).length = σ.length:=fun c σ=>by cases c <;> simp
   rw [f,f]; exact hl
theorem ic {p:Nat → Bool}:∀ {l:List (Option (Nat × cm))} {k:Nat} {σ:af},(∀ j,k ≤ j → p j = false) → du p l k σ = σ
 | [],_,_,_=>rfl
 | none :: r,k,σ,h=>by simp only [du]; exact ic fun j hj=>h j (by omega)
 | some (b,o) :: r,k,σ,h=>by
  simp only [du]; rw [h k (Nat.le_refl _)]; simp only [Bool.false_eq_true,if_false]; exact ic fun j hj=>h j (by omega)
theorem qc {p:Nat → Bool} {b:Nat} {o:cm}:∀ {l:List (Option (Nat × cm))} {k i:Nat} {σ:af},l[i]? = some (some (b,o)) → p (k + i) = true →
  (∀ j o',i < j → l[j]? = some (some (b,o')) → p (k + j) = false) → b < σ.length → (du p l k σ)[b]? = some o
 | [],_,_,_,h,_,_,_=>by simp at h
 | x :: r,k,0,σ,h1,h2,h3,h4=>by
  simp at h1; subst h1;simp only [du];rw [Nat.add_zero] at h2;rw [if_pos h2];rw [eL (p':=fun _=>false) (σ':=σ.set b o) (fun j o' g=>by rw [show k + 1 + j = k + (j + 1) by omega]; exact h3 (j + 1) o' (by omega) (by simpa using g)) rfl rfl,ic (fun _ _=>rfl)];simp [h4]
 | none :: r,k,i + 1,σ,h1,h2,h3,h4=>by
  simp only [du];exact qc (i:=i) (by simpa using h1) (by rw [show k + 1 + i = k + (i + 1) by omega]; exact h2)
   (fun j o' g1 g2=>by rw [show k + 1 + j = k + (j + 1) by omega]; exact h3 (j + 1) o' (by omega) (by simpa using g2)) h4
 | some (b',o1) :: r,k,i + 1,σ,h1,h2,h3,h4=>by
  simp only [du];exact qc (i:=i) (by simpa using h1) (by rw [show k + 1 + i = k + (i + 1) by omega]; exact h2)
   (fun j o' g1 g2=>by rw [show k + 1 + j = k + (j + 1) by omega]; exact h3 (j + 1) o' (by omega) (by simpa using g2)) (by split <;> simp [h4])
theorem EM {p p':Nat → Bool} {l:List (Option (Nat × cm))} {i:Nat} {σ:af} (hp:∀ j,p' j = (p j || j == i)) :
  (l[i]? = some none → du p' l 0 σ = du p l 0 σ) ∧
  (∀ b o,l[i]? = some (some (b,o)) → (∀ j o',i < j → l[j]? = some (some (b,o')) → p j = false) → du p' l 0 σ = (du p l 0 σ).set b o):=by
 constructor
 ·intro h;refine List.ext_getElem? fun b=>eL (fun j o g=>?_) rfl rfl;rw [Nat.zero_add,hp];have:j ≠ i:=fun e=>by subst e; rw [h] at g; cases g
  simp [this]
 ·intro b o h hno;refine List.ext_getElem? fun b'=>?_;by_cases hb:b = b'
  ·subst hb;by_cases hlt:b < σ.length
   ·rw [qc h (by simp [hp]) (fun j o' g1 g2=>by rw [Nat.zero_add,hp,hno j o' g1 g2]; simp; omega) hlt,List.getElem?_set_self (by rw [jq]; exact hlt)]
   ·rw [List.getElem?_eq_none (by rw [jq]; omega),List.getElem?_eq_none (by rw [List.length_set,jq]; omega)]
  ·rw [List.getElem?_set_ne hb];refine eL (fun j o' g=>?_) rfl rfl;rw [Nat.zero_add,hp];have:j ≠ i:=fun e=>by subst e; rw [h] at g; simp at g; exact hb g.1
   simp [this]
section
variable {P:Program}
theorem AQ {o:aK} {e:Env} {σ:af} {q:DR} (h:uz P o e σ q) {b:Nat} {o':cm} (hq:q.e = .wr b o'):b < σ.length:=by
 obtain ⟨c,_,h⟩:=h;have quiet:q = ⟨oM o.g c (lx e σ o.i),iS e o.i⟩ → b < σ.length:=fun he=>by rw [he] at hq; exact absurd hq vJ
 cases hi:o.i <;> rw [hi] at h quiet <;> simp only at h <;> first | (exact quiet h.2.2) | skip
 case call f dn l=>rw [h.1] at hq; exact absurd hq BZ
 case box n x=>rw [h.2.2.2] at hq; cases hq
 case alloc z=>rw [h.2.2] at hq; cases hq
 case mnew=>rw [h.2] at hq; cases hq
 case callA sz f dn l=>obtain ⟨_,_,xs,_,rfl⟩:=h; cases hq
 case mksl m sz bytes z n k=>rw [h.2.2.2.2] at hq; cases hq
 case append sz bytes x y=>
  obtain ⟨ys,b',o1,v,q1,q2,q3,q4,q5,rfl,_⟩:=nq h.2.2;cases hq;exact af.cE q5
 case lit m sz n ps=>
  split at h
  ·rw [h.2] at hq; cases hq
  ·split at h
   ·rw [h.2.2.2] at hq; cases hq
   ·rw [h.2.2.2.2] at hq; cases hq
 case store sz x v=>
  have h5:=h.2.2.2.2;generalize opv e x = ax at h5
  cases ax with
  | ptr b off=>
   simp only [tw] at h5;cases hg:σ.get b <;> rw [hg] at h5 <;> first | (cases h5; done) | skip
   rw [hq] at h5; cases h5; exact af.cE (by rw [hg]; simp)
  | eptr sz b i f n=>
   simp only [tw] at h5;cases hg:σ.get b <;> rw [hg] at h5 <;> first | (cases h5; done) | skip
   rw [hq] at h5; cases h5; exact af.cE (by rw [hg]; simp)
  | _=>cases h5
theorem zE:∀ {ops:List aK} {e:Env} {σ:af} {t:List DR} {e':Env} {σ':af},Bk P ops e σ t e' σ' → t.length = ops.length
 | [],_,_,[],_,_,_=>rfl
 | _ :: r,_,_,_ :: t,_,_,h=>by simp [zE h.2]
 | [],_,_,_ :: _,_,_,h=>h.elim
 | _ :: _,_,_,[],_,_,h=>h.elim
theorem xM:∀ {t:List DR} {nb:Nat},(eY t nb).length = t.length
 | [],_=>rfl
 | q :: r,nb=>by simp only [eY]; split <;> simp [xM]
theorem yb {o:aK} {e:Env} {σ:af} {q:DR} {t:List DR} {_ls:List (Option (Nat × cm))} {p:Nat → Bool} {k:Nat} (hs:uz P o e σ q) (hp:p k = true) :
  du p (eY (q :: t) σ.length) k (σ ++ List.replicate (nal (q :: t)) .hole) = du p (eY t (q.e.run σ).length) (k + 1) (q.e.run σ ++ List.replicate (nal t) .hole):=by
 obtain ⟨v,ef⟩:=q
 cases ef with
 | no=>simp only [eY,du,nal,cJ.run]
 | rd l=>simp only [eY,du,nal,cJ.run]
 | al ob=>
  simp only [eY,du,nal,cJ.run,hp,if_true,List.length_append,List.length_cons,List.length_nil,Nat.zero_add,List.replicate_succ];congr 1;simp
 | wr b ob=>
  have:=AQ hs rfl;simp only [eY,du,nal,cJ.run,hp,if_true,List.length_set];congr 1;exact List.set_append_left _ _ this
theorem C0:∀ {ops:List aK} {e:Env} {σ:af} {t:List DR} {e':Env} {σ':af} (k:Nat),Bk P ops e σ t e' σ' → ∀ {j:Nat} {o:aK},ops[j]? = some o →
  ∃ ej σj q,t[j]? = some q ∧ uz P o ej σj q ∧ (∀ x,ej.get x = (iE (fun i=>decide (i < k + j)) ops t k e).get x) ∧ σj.length = σ.length + nal (t.take j) ∧
   σj ++ List.replicate (nal (t.drop j)) .hole = du (fun i=>decide (i < k + j)) (eY t σ.length) k (σ ++ List.replicate (nal t) .hole)
 | [],_,_,_,_,_,_,_,j,o,h=>by simp at h
 | o1 :: r,e,σ,[],_,_,_,hr,_,_,_=>hr.elim
 | o1 :: r,e,σ,q1 :: t,e',σ',k,hr,0,o,h=>by
  simp at h; subst h;refine ⟨e,σ,q1,rfl,hr.1,fun x=>?_,by simp [nal], ?_⟩
  ·rw [rV]; intro j hj; simp; omega
  ·rw [ic]
   ·rfl
   ·intro j hj; simp; omega
 | o1 :: r,e,σ,q1 :: t,e',σ',k,hr,j + 1,o,h=>by
  obtain ⟨ej,σj,q,h1,h2,h3,h4,h5⟩:=C0 (k + 1) hr.2 (j:=j) (o:=o) (by simpa using h);refine ⟨ej,σj,q,by simpa using h1,h2,fun x=>?_, ?_, ?_⟩
  ·rw [h3 x];simp only [iE,show k + 1 + j = k + (j + 1) by omega];rw [if_pos (by simp)]
  ·rw [h4];obtain ⟨v,ef⟩:=q1;cases ef <;> simp [nal,cJ.run] <;> omega
  ·simp only [List.drop_succ_cons];rw [h5,show k + 1 + j = k + (j + 1) by omega,yb (_ls:=[]) hr.1 (by simp)]
theorem Aa:∀ {ops:List aK} {e:Env} {σ:af} {t:List DR} {e':Env} {σ':af} (k:Nat) {p:Nat → Bool},Bk P ops e σ t e' σ' → (∀ j,j < ops.length → p (k + j) = true) →
  e' = iE p ops t k e ∧ σ' = du p (eY t σ.length) k (σ ++ List.replicate (nal t) .hole)
 | [],e,σ,[],e',σ',k,p,h,_=>by obtain ⟨rfl,rfl⟩:=h; exact ⟨by simp [iE],by simp [nal,eY,du]⟩
 | o :: r,e,σ,q :: t,e',σ',k,p,h,hp=>by
  obtain ⟨h1,h2⟩:=Aa (k + 1) (p:=p) h.2 (fun j hj=>by rw [show k + 1 + j = k + (j + 1) by omega]; exact hp (j + 1) (by simpa using hj));have hk:p k = true:=by have:=hp 0 (by simp); simpa using this
  refine ⟨?_, ?_⟩
  ·rw [h1]; simp only [iE,hk,if_true]
  ·rw [h2,yb (_ls:=[]) h.1 hk]
 | [],_,_,_ :: _,_,_,_,_,h,_=>h.elim
 | _ :: _,_,_,[],_,_,_,_,h,_=>h.elim
theorem kG {t:List DR} {i j:Nat} (h:i ≤ j):nal (t.take i) ≤ nal (t.take j):=by
 induction t generalizing i j with
 | nil=>simp
 | cons q t ih=>
  cases i with
  | zero=>simp [nal]
  | succ i=>
   cases j with
   | zero=>omega
   | succ j=>
    have:=ih (i:=i) (j:=j) (by omega);simp only [List.take_succ_cons,nal]
    split <;> omega
theorem ln:∀ {t:List DR} {nb j:Nat} {q:DR},t[j]? = some q → (eY t nb)[j]? = some (match q.e with
  | .al o=>some (nb + nal (t.take j),o)
  | .wr b o=>some (b,o)
  | _=>none)
 | [],_,_,_,h=>by simp at h
 | q1 :: t,nb,0,q,h=>by
  simp at h; subst h;obtain ⟨v,ef⟩:=q1;cases ef <;> simp [eY,nal]
 | q1 :: t,nb,j + 1,q,h=>by
  have h':t[j]? = some q:=by simpa using h
  obtain ⟨v,ef⟩:=q1;cases ef <;> simp only [eY,List.getElem?_cons_succ,List.take_succ_cons,nal] <;> rw [ln h'];cases q.e <;> simp only <;> congr 3; omega
theorem nj {t:List DR} {j:Nat} {q:DR} {o:cm} (h:t[j]? = some q) (hq:q.e = .al o):nal (t.take j) + 1 ≤ nal (t.take (j + 1)) ∧ nal (t.take j) < nal t:=by
 induction t generalizing j with
 | nil=>simp at h
 | cons q1 t ih=>
  cases j with
  | zero=>
   simp at h; subst h;simp [nal,hq]
  | succ j=>
   have:=ih (j:=j) (by simpa using h);simp only [List.take_succ_cons,nal]
   split <;> omega
end
open Go.RowKit
def lC (bef:List (List Nat)) (o:Oper) (j:Nat):Bool:=
 o.after.toList.all (fun e=>!Region.binds .any e || decide (e.on < j)) &&
 (bef.getD j []).all fun i=>decide (i < j) && o.after.toList.any fun e=>Region.binds .any e && (e.on == i || (bef.getD e.on []).contains i)
def v8 (bef:List (List Nat)):List Oper → Nat → Bool
 | [],_=>true
 | o :: r,j=>lC bef o j && v8 bef r (j + 1)
def si (bef:List (List Nat)) (j:Nat) (rs:List Nat):List aK → Nat → Bool
 | [],_=>true
 | o :: r,i=>(match o.d with
  | some d=>!rs.contains d || (bef.getD j []).contains i || (bef.getD i []).contains j
  | none=>true) && si bef j rs r (i + 1)
def Bg (bef:List (List Nat)) (all:List aK):List aK → Nat → Bool
 | [],_=>true
 | o :: r,j=>si bef j (b7 o) all 0 && Bg bef all r (j + 1)
def Ab (d:Option Nat):List aK → Bool
 | []=>false
 | o :: r=>(match d with
  | some _=>o.d == d
  | none=>false) || Ab d r
def sY:List aK → Bool
 | []=>true
 | o :: r=>!Ab o.d r && sY r
def Hw:AI → Bool
 | .box _ _ | .alloc _ | .mnew | .mksl _ _ _ _ _ _ | .callA _ _ _ _=>true
 | .lit m _ _ _=>m != 0
 | _=>false
def GW:AI → Bool
 | .callA _ _ _ _=>true
 | _=>false
def HT:List aK → Bool
 | []=>true
 | o :: r=>!Hw o.i && HT r
def A9:List aK → Bool
 | []=>true
 | o :: r=>(!GW o.i || HT r) && A9 r
theorem FP {P:Program} {o:aK} {e:Env} {σ:af} {q:DR} (h:uz P o e σ q) {ob:cm} (hq:q.e = .al ob):Hw o.i = true:=by
 obtain ⟨c,_,h⟩:=h;have dq:∀ i ob,iS e i ≠ .al ob:=fun i ob he=>by
  have hr:∀ v,oF v ≠ .al ob:=fun v=>by cases v <;> simp [oF]
  cases i <;> first | (simp [iS] at he; done) | exact hr _ he
 have quiet:q = ⟨oM o.g c (lx e σ o.i),iS e o.i⟩ → Hw o.i = true:=fun he=>by rw [he] at hq; exact absurd hq (dq _ _)
 cases hi:o.i <;> rw [hi] at h quiet <;> simp only at h <;> first | rfl | (exact quiet h.2.2) | skip
 case call f dn l=>rw [h.1] at hq; unfold rdL at hq; split at hq <;> cases hq
 case append sz bytes x y=>
  obtain ⟨ys,b',o1,v,q1,q2,q3,q4,q5,rfl,_⟩:=nq h.2.2;cases hq
 case lit m sz n ps=>
  split at h
  ·rw [h.2] at hq; cases hq
  ·rename_i hm; simp [Hw,hm]
 case store sz x v=>
  have h5:=h.2.2.2.2;generalize opv e x = ax at h5
  cases ax with
  | ptr b off=>simp only [tw] at h5; cases hg:σ.get b <;> rw [hg] at h5 <;> first | (cases h5; done) | (rw [hq] at h5; cases h5)
  | eptr sz b i f n=>simp only [tw] at h5; cases hg:σ.get b <;> rw [hg] at h5 <;> first | (cases h5; done) | (rw [hq] at h5; cases h5)
  | _=>cases h5
theorem Bu {P:Program}:∀ {ops:List aK} {e:Env} {σ:af} {t:List DR} {e':Env} {σ':af},Bk P ops e σ t e' σ' → HT ops = true → nal t = 0
 | [],_,_,[],_,_,_,_=>rfl
 | o :: r,e,σ,q :: t,e',σ',h,hn=>by
  simp only [HT,Bool.and_eq_true,Bool.not_eq_true'] at hn;have ih:=Bu h.2 hn.2;obtain ⟨v,ef⟩:=q
  cases ef with
  | al ob=>have:=FP h.1 (q:=⟨v, .al ob⟩) rfl; rw [hn.1] at this; cases this
  | _=>exact ih
 | [],_,_,_ :: _,_,_,h,_=>h.elim
 | _ :: _,_,_,[],_,_,h,_=>h.elim
theorem vE {P:Program}:∀ {ops:List aK} {e:Env} {σ:af} {t:List DR} {e':Env} {σ':af},Bk P ops e σ t e' σ' → A9 ops = true → ∀ {j:Nat} {o:aK} {q:DR} {ob:cm},ops[j]? = some o → t[j]? = some q → q.e = .al ob → GW o.i = true → nal t = nal (t.take j) + 1
 | o1 :: r,e,σ,q1 :: t,e',σ',h,hc,0,o,q,ob,h1,h2,h3,h4=>by
  simp at h1 h2;subst h1 h2;simp only [A9,h4,Bool.not_true,Bool.false_or,Bool.and_eq_true] at hc;have:=Bu h.2 hc.1;simp [nal,h3,this]
 | o1 :: r,e,σ,q1 :: t,e',σ',h,hc,j + 1,o,q,ob,h1,h2,h3,h4=>by
  simp only [A9,Bool.and_eq_true] at hc;have ih:=vE h.2 hc.2 (j:=j) (by simpa using h1) (by simpa using h2) h3 h4;simp only [List.take_succ_cons,nal]
  split <;> omega
 | [],_,_,_,_,_,_,_,_,_,_,_,h1,_,_,_=>by simp at h1
 | _ :: _,_,_,[],_,_,h,_,_,_,_,_,_,_,_,_=>h.elim
def Fu (P:Program) (N:Nat) (os:Array Oper) (ops:List aK) (bef:List (List Nat)):Bool:=
 er P N os ops os.toList && P.follows .mixedOrders && v8 bef os.toList 0 && Bg bef ops ops 0 && sY ops && A9 ops
theorem eR {bef:List (List Nat)}:∀ {l:List Oper} {k j:Nat} {o:Oper},v8 bef l k = true → l[j]? = some o → lC bef o (k + j) = true
 | [],_,_,_,_,h=>by simp at h
 | a :: r,k,0,o,hb,h=>by simp at h; subst h; simp only [v8,Bool.and_eq_true] at hb; exact hb.1
 | a :: r,k,j + 1,o,hb,h=>by
  simp only [v8,Bool.and_eq_true] at hb;have:=eR hb.2 (j:=j) (o:=o) (by simpa using h);rw [show k + (j + 1) = k + 1 + j by omega]; exact this
theorem s8 {bef:List (List Nat)} {j:Nat} {rs:List Nat}:∀ {l:List aK} {k i:Nat} {o:aK} {d:Nat},si bef j rs l k = true → l[i]? = some o → o.d = some d → d ∈ rs → (k + i) ∈ bef.getD j [] ∨ j ∈ bef.getD (k + i) []
 | [],_,_,_,_,_,h,_,_=>by simp at h
 | a :: r,k,0,o,d,hb,h,hd,hm=>by
  simp at h; subst h;simp only [si,hd,Bool.and_eq_true,Bool.or_eq_true,Bool.not_eq_true',List.contains_eq_mem,decide_eq_false_iff_not,decide_eq_true_eq] at hb;rcases hb.1 with (h | h) | h
  ·exact absurd hm h
  ·exact .inl h
  ·exact .inr h
 | a :: r,k,i + 1,o,d,hb,h,hd,hm=>by
  simp only [si,Bool.and_eq_true] at hb;have:=s8 hb.2 (i:=i) (by simpa using h) hd hm;rw [show k + (i + 1) = k + 1 + i by omega]; exact this
theorem vm {bef:List (List Nat)} {all:List aK}:∀ {l:List aK} {k j:Nat} {o:aK},Bg bef all l k = true → l[j]? = some o → si bef (k + j) (b7 o) all 0 = true
 | [],_,_,_,_,h=>by simp at h
 | a :: r,k,0,o,hb,h=>by simp at h; subst h; simp only [Bg,Bool.and_eq_true] at hb; exact hb.1
 | a :: r,k,j + 1,o,hb,h=>by
  simp only [Bg,Bool.and_eq_true] at hb;have:=vm hb.2 (j:=j) (o:=o) (by simpa using h);rw [show k + (j + 1) = k + 1 + j by omega]; exact this
theorem qd {d:Nat}:∀ {l:List aK} {j:Nat} {o:aK},Ab (some d) l = false → l[j]? = some o → o.d ≠ some d
 | [],_,_,_,h=>by simp at h
 | a :: r,0,o,hb,h=>by simp at h; subst h; simp only [Ab,Bool.or_eq_false_iff,beq_eq_false_iff_ne] at hb; exact hb.1
 | a :: r,j + 1,o,hb,h=>by simp only [Ab,Bool.or_eq_false_iff] at hb; exact qd hb.2 (j:=j) (by simpa using h)
theorem vz:∀ {l:List aK} {i j:Nat} {o o':aK} {d:Nat},sY l = true → l[i]? = some o → l[j]? = some o' → o.d = some d → o'.d = some d → i = j
 | [],_,_,_,_,_,_,h,_,_,_=>by simp at h
 | a :: r,0,0,_,_,_,_,_,_,_,_=>rfl
 | a :: r,0,j + 1,o,o',d,hb,h1,h2,d1,d2=>by
  simp at h1; subst h1;simp only [sY,Bool.and_eq_true,Bool.not_eq_true',d1] at hb;exact absurd d2 (qd hb.1 (j:=j) (by simpa using h2))
 | a :: r,i + 1,0,o,o',d,hb,h1,h2,d1,d2=>by
  simp at h2; subst h2;simp only [sY,Bool.and_eq_true,Bool.not_eq_true',d2] at hb;exact absurd d1 (qd hb.1 (j:=i) (by simpa using h1))
 | a :: r,i + 1,j + 1,o,o',d,hb,h1,h2,d1,d2=>by
  simp only [sY,Bool.and_eq_true] at hb;rw [vz hb.2 (i:=i) (j:=j) (by simpa using h1) (by simpa using h2) d1 d2]
theorem rn {bef:List (List Nat)} {j:Nat} {e:cJ}:∀ {l:List cJ} {k i:Nat} {f:cJ},ki bef j e l k = true → l[i]? = some f → e.pg f = true → (k + i) ∈ bef.getD j []
 | [],_,_,_,_,h,_=>by simp at h
 | a :: r,k,0,f,hb,h,hc=>by
  simp at h; subst h;simp only [ki,Bool.and_eq_true,Bool.or_eq_true,Bool.not_eq_true',hc,List.contains_eq_mem,decide_eq_true_eq] at hb;simpa using hb.1
 | a :: r,k,i + 1,f,hb,h,hc=>by
  simp only [ki,Bool.and_eq_true] at hb;have:=rn hb.2 (i:=i) (by simpa using h) hc;rw [show k + (i + 1) = k + 1 + i by omega]; exact this
theorem mZ {bef:List (List Nat)}:∀ {b l:List cJ} {i j:Nat} {f e:cJ},eW bef b l b.length = true → i < j → (b ++ l)[i]? = some f → (b ++ l)[j]? = some e → b.length ≤ j → e.pg f = true → i ∈ bef.getD j []
 | b,[],i,j,f,e,_,_,_,h,hl,_=>by simp at h; rw [List.getElem?_eq_none (by omega)] at h; cases h
 | b,x :: r,i,j,f,e,hb,hij,hf,he,hl,hc=>by
  simp only [eW,Bool.and_eq_true] at hb;by_cases hj:j = b.length
  ·subst hj;rw [List.getElem?_append_right (Nat.le_refl _)] at he;simp at he; subst he;rw [List.getElem?_append_left hij] at hf;have:=rn hb.1 hf hc;simpa using this
  ·have h2:=hb.2;rw [show b.length + 1 = (b ++ [x]).length by simp] at h2;exact mZ (b:=b ++ [x]) h2 hij (by simpa using hf) (by simpa using he) (by simp; omega) hc
theorem lH {P:Program} {N:Nat} {os:Array Oper}:∀ {ops:List aK} {l:List Oper} {j:Nat} {o:Oper},er P N os ops l = true → l[j]? = some o →
  ∃ ao,ops[j]? = some ao ∧ yl N ao.d o.dst = true ∧ wJ os ao.g o.guard = true ∧ bp P ao.i o.op = true
 | [],[],_,_,_,h=>by simp at h
 | a :: r,b :: t,0,o,hc,h=>by
  simp at h; subst h;simp only [er,Bool.and_eq_true] at hc;exact ⟨a,by simp,hc.1.1.1,hc.1.1.2,hc.1.2⟩
 | a :: r,b :: t,j + 1,o,hc,h=>by
  simp only [er,Bool.and_eq_true] at hc;obtain ⟨ao,h1,h2⟩:=lH hc.2 (j:=j) (o:=o) (by simpa using h);exact ⟨ao,by simpa using h1,h2⟩
 | [],_ :: _,_,_,h,_=>by simp [er] at h
 | _ :: _,[],_,_,h,_=>by simp [er] at h
theorem l7 {P:Program} {N:Nat} {os:Array Oper}:∀ {ops:List aK} {l:List Oper},er P N os ops l = true → ops.length = l.length
 | [],[],_=>rfl
 | a :: r,b :: t,hc=>by simp only [er,Bool.and_eq_true] at hc; simp [l7 hc.2]
 | [],_ :: _,h=>by simp [er] at h
 | _ :: _,[],h=>by simp [er] at h
def cnt:List Bool → Nat
 | []=>0
 | b :: r=>(if b = true then 0 else 1) + cnt r
theorem tY:∀ {l:List Bool} {i:Nat},l[i]? = some false → cnt (l.set i true) + 1 = cnt l
 | [],_,h=>by simp at h
 | b :: r,0,h=>by simp at h; subst h; simp [cnt]; omega
 | b :: r,i + 1,h=>by have:=tY (l:=r) (i:=i) (by simpa using h); simp only [List.set_cons_succ,cnt]; omega
theorem qB:∀ {l:List Bool} {i:Nat},cnt l = 0 → l[i]? ≠ some false
 | [],_,_=>by simp
 | b :: r,0,h=>by intro e; simp at e; subst e; simp [cnt] at h
 | b :: r,i + 1,h=>by
  simp only [cnt] at h;have:=qB (l:=r) (i:=i) (by omega);simpa using this
section
variable {P:Program} {A:World} {N:Nat}
theorem dN.env {s:St} {fr:Fr} {a:Act} {e:Env} (hf:dN s N fr a) (h:∀ x,e.get x = fr.v.get x):dN s N { fr with v:=e } a:=
 ⟨hf.size,fun t=>by show Rv s (e.get t) _; rw [h]; exact hf.v t,hf.ds⟩
structure HB (A:World) (N:Nat) (s0:St) (ops:List aK) (bef:List (List Nat)) (fr0:Fr) (t:List DR) (p:Nat → Bool) (s:St) (a:Act):Prop where
 inv:Inv A s
 goes:bP s0 s
 fr:dN s N { fr0 with v:=iE p ops t 0 fr0.v } a
 heap:s.h = du p (eY t s0.h.length) 0 (s0.h ++ List.replicate (nal t) .hole)
 unal:∀ j j' b o o' q,t[j]? = some q → q.e = .al o' → (eY t s0.h.length)[j]? = some (some (b,o')) → p j = false → p j' = true → (eY t s0.h.length)[j']? ≠ some (some (b,o))
 closed:∀ j,p j = true → ∀ i ∈ bef.getD j [],p i = true
theorem HB.hole {s0:St} {ops:List aK} {bef:List (List Nat)} {fr0:Fr} {t:List DR} {p:Nat → Bool} {s:St} {a:Act} (h:HB A N s0 ops bef fr0 t p s a) {j:Nat} {q:DR} {o:cm}
  (hj:t[j]? = some q) (hq:q.e = .al o) (hp:p j = false):s.h[s0.h.length + nal (t.take j)]? = some .hole:=by
 have hit:=ln (nb:=s0.h.length) hj;rw [hq] at hit;simp only at hit;rw [h.heap,eL (p':=fun _=>false) (σ':=s0.h ++ List.replicate (nal t) cm.hole) ?_ rfl rfl,ic (fun _ _=>rfl)]
 ·have:=(nj hj hq).2;rw [List.getElem?_append_right (by omega),List.getElem?_replicate,if_pos (by omega)]
 ·intro j' o' g;rw [Nat.zero_add]
  cases hp':p j' with
  | false=>rfl
  | true=>exact absurd g (h.unal j j' _ o' o q hj hq hit hp hp')
theorem BA {id:Nat} {os:Array Oper} {ops:List aK} {bef:List (List Nat)} {ro:Option Nat} {Q:AEx → Fr → af → Prop} {fr:Fr} {σ:af} (hc:Fu P N os ops bef = true)
  (h:cy P ops fr.v σ [] fun e σ' es=>eW bef [] es.reverse 0 = true ∧ Q .normal { fr with v:=e } σ'):AWc P N ro (.region id os true) Q fr σ:=by
 simp only [Fu,Bool.and_eq_true] at hc;obtain ⟨⟨⟨⟨⟨hc1,hmix⟩,hbef⟩,htmp⟩,hdst⟩,hcal⟩:=hc;obtain ⟨t,e',σ',hrun,hcl,hQ⟩:=xi h;simp only [List.append_nil,List.reverse_reverse] at hcl;intro A s a r h1 h2 h3 h4;subst h1;have hlen:ops.length = os.size:=by simpa using l7 hc1
 have htl:t.length = os.size:=(zE hrun).trans hlen
 -- the world with one draw more, and the blocks that are to come
 let sd:St:={ s with w:={ s.w with drawn:=s.w.drawn + 1 } }
 have kd:br s sd:=⟨fun _ _ _ h=>h,fun _ _ h=>h,fun _ _ _=>rfl⟩;have gd:=h2.grow (s':=sd) rfl rfl kd ⟨h2.below.os,h2.below.tape,h2.below.output,h2.below.size,h2.below.block⟩ (Nat.le_refl _) (fun _ _=>rfl) (fun _ _ h=>.inl h) h2.scell;have gm:=gd.1.more (nal t)
 let s1:=sd.more (nal t)
 -- two that meddle are ordered
 have hclash:∀ i j qi qj,i < j → t[i]? = some qi → t[j]? = some qj → qj.e.pg qi.e = true → i ∈ bef.getD j []:=fun i j qi qj hij hi hj hcc=>
  mZ (b:=[]) (l:=t.map (·.e)) hcl hij (by simp [hi]) (by simp [hj]) (by simp) hcc
 have key : ∀ (fuel : Nat) (listed : Array Bool) (s2 : St) (a2 : Act),listed.size = os.size → cnt listed.toList ≤ fuel → HB A N s ops bef fr t (fun j => listed.getD j false) s2 a2 →
   wpAnyIn (Fro r) 0 P .any os (fP A N s Q) fuel listed a2 s2.w:=by
  -- when nothing is ready all is done
  have hready:∀ (listed:Array Bool),listed.size = os.size → Region.ready .any os listed = [] → ∀ j,j < os.size → listed.getD j false = true:=by
   intro listed hsz hr j
   induction j using Nat.strongRecOn with
   | _ j ih=>
    intro hj
    cases hl:listed.getD j false with
    | true=>rfl
    | false=>
     have hj':j < listed.size:=by omega
     have:j ∈ Region.ready .any os listed:=by
      refine mem_ready.2 ⟨by simpa [Array.getD_eq_getD_getElem?,hj'] using hl,os[j],by simp [hj],fun e he hb=>?_⟩;have hb1:=eR hbef (j:=j) (o:=os[j]) (by simp [hj]);simp only [lC,Nat.zero_add,Bool.and_eq_true,List.all_eq_true] at hb1;have:=hb1.1 e (by simpa using he);simp only [hb,Bool.not_true,Bool.false_or,decide_eq_true_eq] at this;exact ih e.on this (by omega)
     rw [hr] at this; cases this
  have hdone:∀ (listed:Array Bool) (s2:St) (a2:Act),listed.size = os.size → HB A N s ops bef fr t (fun j=>listed.getD j false) s2 a2 → Region.ready .any os listed = [] → fP A N s Q .normal a2 s2.w:=by
   intro listed s2 a2 hsz hd hr;have hall:=hready listed hsz hr;obtain ⟨g1,g2⟩:=Aa 0 (p:=fun j=>listed.getD j false) hrun (fun j hj=>by rw [Nat.zero_add]; exact hall j (by omega));have hfr:=hd.fr;rw [← g1] at hfr;exact ⟨.normal,{ fr with v:=e' },s2,rfl,hd.inv,hd.goes,hfr,trivial,by rw [hd.heap, ← g2]; exact hQ⟩
  intro fuel
  induction fuel with
  | zero=>
   intro listed s2 a2 hsz hcnt hd;have hr:Region.ready .any os listed = []:=by
    cases hr:Region.ready .any os listed with
    | nil=>rfl
    | cons i l=>
     have hi:i ∈ Region.ready .any os listed:=by rw [hr]; simp
     obtain ⟨g1,o,g2,_⟩:=mem_ready.1 hi;have hilt:i < os.size:=by
      rcases Nat.lt_or_ge i os.size with h' | h'
      ·exact h'
      ·rw [Array.getElem?_eq_none h'] at g2; cases g2
     have:=qB (l:=listed.toList) (i:=i) (by omega);have hi':i < listed.size:=by omega
     simp [hi'] at this g1;rw [g1] at this; simp at this
   exact ⟨hr,hdone listed s2 a2 hsz hd hr⟩
  | succ fuel ih=>
   intro listed s2 a2 hsz hcnt hd;refine ⟨hdone listed s2 a2 hsz hd,fun i hi=>?_⟩;obtain ⟨g1,o,g2,g3⟩:=mem_ready.1 hi;have hilt:i < os.size:=by
    rcases Nat.lt_or_ge i os.size with h' | h'
    ·exact h'
    ·rw [Array.getElem?_eq_none h'] at g2; cases g2
   have hi':i < listed.size:=by omega
   have hpi:listed.getD i false = false:=by simp [hi'] at g1 ⊢; exact g1
   -- those that come before are done
   have hb1:=eR hbef (j:=i) (o:=o) (by simpa using g2);simp only [lC,Nat.zero_add,Bool.and_eq_true,List.all_eq_true,List.any_eq_true,decide_eq_true_eq,Bool.or_eq_true,beq_iff_eq,List.contains_eq_mem] at hb1;have hbi:∀ x ∈ bef.getD i [],x < i ∧ listed.getD x false = true:=by
    intro x hx;obtain ⟨q1,e,q2,q3,q4⟩:=hb1.2 x hx;refine ⟨q1, ?_⟩;have hon:=g3 e (by simpa using q2) q3;rcases q4 with q4 | q4
    ·rw [← q4]; exact hon
    ·exact hd.closed e.on hon x q4
   obtain ⟨ao,k1,k2,k3,k4⟩:=lH hc1 (j:=i) (o:=o) (by simpa using g2);obtain ⟨ei,σi,q,r1,r2,r3,r4,r5⟩:=C0 0 hrun k1;simp only [Nat.zero_add] at r3 r5;have htm:=vm htmp (j:=i) (o:=ao) k1;rw [Nat.zero_add] at htm;have hits:=ln (nb:=s.h.length) r1
   -- who touches a block is done just if it comes first in the text
   have htouch:∀ b,(q.e.reads b ∨ ∃ o',q.e = .wr b o') → b < σi.length → (∃ k u,s2.lam b k = some u) → ∀ j o',(eY t s.h.length)[j]? = some (some (b,o')) → listed.getD j false = decide (j < i):=by
    intro b hq hlt hlam j o' hj;have hjl:j < t.length:=by
     rcases Nat.lt_or_ge j t.length with h' | h'
     ·exact h'
     ·rw [List.getElem?_eq_none (by rw [xM]; exact h')] at hj; cases hj
    obtain ⟨qj,hqj⟩:∃ qj,t[j]? = some qj:=⟨t[j],by simp [hjl]⟩;have hit:=ln (nb:=s.h.length) hqj;rw [hj] at hit;rcases Nat.lt_trichotomy j i with hji | hji | hji
    ·simp only [hji,decide_true]
     cases hqe:qj.e with
     | no=>rw [hqe] at hit; simp at hit
     | rd l=>rw [hqe] at hit; simp at hit
     | al ob=>
      rw [hqe] at hit; simp at hit
      cases hpj:listed.getD j false with
      | true=>rfl
      | false=>
       have:=hd.hole hqj hqe hpj;rw [← hit.1] at this;obtain ⟨k,u,hku⟩:=hlam;have:=hd.inv.obj b _ this k;rw [hku] at this; cases this
     | wr b' ob=>
      rw [hqe] at hit; simp at hit;refine (hbi j (hclash j i qj q hji hqj r1 ?_)).2;rw [hqe];rcases hq with hq | ⟨o2,hq⟩
      ·cases hqq:q.e with
       | rd l=>rw [hqq] at hq; simp only [cJ.pg,List.contains_eq_mem,decide_eq_true_eq]; rw [← hit.1]; exact hq
       | _=>rw [hqq] at hq; exact hq.elim
      ·rw [hq]; simp [cJ.pg,hit.1]
    ·subst hji; simp [hpi]
    ·have:¬ j < i:=by omega
     simp only [this,decide_false]
     cases hqe:qj.e with
     | no=>rw [hqe] at hit; simp at hit
     | rd l=>rw [hqe] at hit; simp at hit
     | al ob=>
      rw [hqe] at hit; simp at hit;have:=kG (t:=t) (Nat.le_of_lt hji);omega
     | wr b' ob=>
      rw [hqe] at hit; simp at hit
      have hm:=hclash i j q qj hji r1 hqj (by
       rw [hqe];rcases hq with hq | ⟨o2,hq⟩
       ·cases hqq:q.e with
        | rd l=>rw [hqq] at hq; simp only [cJ.pg,List.contains_eq_mem,decide_eq_true_eq]; rw [← hit.1]; exact hq
        | _=>rw [hqq] at hq; exact hq.elim
       ·rw [hq]; simp [cJ.pg,hit.1])
      cases hpj:listed.getD j false with
      | false=>rfl
      | true=>have:=hd.closed j hpj i hm; rw [hpi] at this; cases this
   have hsame:∀ b,(q.e.reads b ∨ ∃ o',q.e = .wr b o') → b < σi.length → (∃ k u,s2.lam b k = some u) → s2.h.get b = σi.get b:=by
    intro b hq hlt hlam;have e1:s2.h[b]? = (σi ++ List.replicate (nal (t.drop i)) .hole)[b]?:=by
     rw [hd.heap,r5];exact eL (fun j o' hj=>by rw [Nat.zero_add]; exact htouch b hq hlt hlam j o' hj) rfl rfl
    rw [List.getElem?_append_left hlt] at e1;simp only [af.get,List.getD,e1]
   refine A0 (fr:={ fr with v:=iE (fun j=>listed.getD j false) ops t 0 fr.v }) g2 k3 k4 hd.inv hd.fr r2 (fun x hx=>?_) (fun b hb=>hsame b (.inl hb)) (fun b o' hb=>hsame b (.inr ⟨o',hb⟩)) (fun o' hal=>?_) (fun sz f dn l hai=>?_) ?_
   ·rw [r3 x];refine lI (fun j oj hj hdj=>?_) rfl;have:=s8 htm hj hdj hx;rw [Nat.zero_add] at this ⊢;rcases this with this | this
    ·have:=hbi j this;rw [this.2]; simp [this.1]
    ·have hij:i < j:=by
      have hjlt:j < os.size:=by
       rcases Nat.lt_or_ge j os.size with h' | h'
       ·exact h'
       ·rw [List.getElem?_eq_none (by omega)] at hj; cases hj
      have hb2:=eR hbef (j:=j) (o:=os[j]) (by simp [hjlt]);simp only [lC,Nat.zero_add,Bool.and_eq_true,List.all_eq_true,decide_eq_true_eq] at hb2;exact (hb2.2 i this).1
     have hpj:listed.getD j false = false:=by
      cases h':listed.getD j false with
      | false=>rfl
      | true=>have:=hd.closed j h' i this; rw [hpi] at this; cases this
     rw [hpj]; simp; omega
   ·rw [r4]; exact hd.hole r1 hal hpi
   ·have hqe:∃ ob,q.e = .al ob:=by
     obtain ⟨c,_,hst⟩:=r2;rw [hai] at hst;obtain ⟨_,_,xs,_,rfl⟩:=hst;exact ⟨_,rfl⟩
    obtain ⟨ob,hqe⟩:=hqe;have hl:=vE hrun hcal k1 r1 hqe (by rw [hai]; rfl);rw [hd.heap,jq,r4];simp only [List.length_append,List.length_replicate];omega
   ·intro c s3 i3 g3' hh hv hwr;have hp':∀ j,(listed.setIfInBounds i true).getD j false = (listed.getD j false || j == i):=by
     intro j;by_cases hji:j = i
     ·subst hji; simp [hi']
     ·rw [getD_set_ne false (fun h=>hji h.symm)]; simp [hji]
    have hcnt':cnt (listed.setIfInBounds i true).toList ≤ fuel:=by
     have:=tY (l:=listed.toList) (i:=i) (by simp [hi'] at hpi ⊢; exact hpi);simp only [Array.toList_setIfInBounds]; omega
    refine ih _ s3 _ (by simpa using hsz) hcnt' ⟨i3,hd.goes.trans g3', ?_, ?_, ?_, ?_⟩
    ·have hfr:=(hd.fr.keeps g3'.keeps).put k2 hv;refine hfr.env (e:=iE (fun j=>(listed.setIfInBounds i true).getD j false) ops t 0 fr.v) fun x=>?_;simp only [Fr.put,dk];by_cases hx:ao.d = some x
     ·rw [if_pos hx];refine Ao k1 r1 hx (by rw [Nat.zero_add,hp']; simp) (fun j o' hne hj hdj=>hne (vz hdst hj k1 hdj hx))
     ·rw [if_neg hx];refine lI (fun j oj hj hdj=>?_) rfl;rw [Nat.zero_add,hp'];have:j ≠ i:=fun e=>by subst e; rw [k1] at hj; cases hj; exact hx hdj
      simp [this]
    ·rw [hh,hd.heap];have hadd:=EM (p:=fun j=>listed.getD j false) (p':=fun j=>(listed.setIfInBounds i true).getD j false) (l:=eY t s.h.length) (i:=i) (σ:=s.h ++ List.replicate (nal t) .hole) hp'
     cases hqe:q.e with
     | no=>rw [hqe] at hits; rw [hadd.1 hits]; rfl
     | rd l=>rw [hqe] at hits; rw [hadd.1 hits]; rfl
     | al ob=>
      rw [hqe] at hits;simp only [cJ.rj];rw [r4,hadd.2 _ _ hits];intro j o' hij hj
      cases hpj:listed.getD j false with
      | false=>rfl
      | true=>exact absurd hj (hd.unal i j _ o' ob q r1 hqe hits hpi hpj)
     | wr b ob=>
      rw [hqe] at hits;simp only [cJ.rj];rw [hadd.2 _ _ hits];intro j o' hij hj;obtain ⟨w1,w2⟩:=hwr b ob hqe;have:=htouch b (.inr ⟨ob,hqe⟩) w1 w2 j o' hj;rw [this]; simp; omega
    ·intro j j' b oo o' qj h1 h2 h3' h4 h5 h6;rw [hp'] at h4 h5;simp only [Bool.or_eq_false_iff,beq_eq_false_iff_ne,Bool.or_eq_true,beq_iff_eq] at h4 h5;rcases h5 with h5 | h5
     ·exact hd.unal j j' b oo o' qj h1 h2 h3' h4.1 h5 h6
     ·subst h5;have hjb:=ln (nb:=s.h.length) h1;rw [h2] at hjb;simp only at hjb;rw [h3'] at hjb;simp only [Option.some.injEq,Prod.mk.injEq,and_true] at hjb
      cases hqe:q.e with
      | no=>rw [hqe] at hits; rw [h6] at hits; simp at hits
      | rd l=>rw [hqe] at hits; rw [h6] at hits; simp at hits
      | al ob=>
       rw [hqe] at hits; rw [h6] at hits; simp only [Option.some.injEq,Prod.mk.injEq] at hits;have hne:=h4.2;rcases Nat.lt_or_ge j j' with hlt | hge
       ·have a1:=(nj h1 h2).1;have a2:=kG (t:=t) (show j + 1 ≤ j' by omega);omega
       ·have a1:=(nj r1 hqe).1;have a2:=kG (t:=t) (show j' + 1 ≤ j by omega);omega
      | wr b' ob=>
       rw [hqe] at hits; rw [h6] at hits; simp only [Option.some.injEq,Prod.mk.injEq] at hits;obtain ⟨w1,k,u,hku⟩:=hwr b' ob hqe;have hol:=hd.hole h1 h2 h4.1;rw [← hjb,hits.1] at hol;have:=hd.inv.obj b' _ hol k;rw [hku] at this; cases this
    ·intro j hj x hx;rw [hp'] at hj ⊢;simp only [Bool.or_eq_true,beq_iff_eq] at hj ⊢;rcases hj with hj | hj
     ·exact .inl (hd.closed j hj x hx)
     ·subst hj; exact .inl (hbi x hx).2
 refine wpIn_region_any hmix ?_;refine key os.size (Array.replicate os.size false) s1 a (by simp) ?_ ⟨gm.1,gd.2.trans gm.2, ?_, ?_, ?_, ?_⟩
 ·have:∀ n,cnt (List.replicate n false) = n:=fun n=>by
   induction n with
   | zero=>rfl
   | succ n ih=>simp only [List.replicate_succ,cnt,ih]; simp; omega
  simp [this]
 ·have:=(h3.keeps (gd.2.trans gm.2).keeps);rw [rV]
  ·exact this
  ·intro j _; simp [Array.getD_eq_getD_getElem?,Array.getElem?_replicate]; split <;> rfl
 ·rw [ic]
  ·rfl
  ·intro j _; simp [Array.getD_eq_getD_getElem?,Array.getElem?_replicate]; split <;> rfl
 ·intro j j' b o o' q _ _ _ _ h5;simp [Array.getD_eq_getD_getElem?,Array.getElem?_replicate] at h5
  split at h5 <;> simp at h5
 ·intro j hj;simp [Array.getD_eq_getD_getElem?,Array.getElem?_replicate] at hj
  split at hj <;> simp at hj
end
end Go.AM
