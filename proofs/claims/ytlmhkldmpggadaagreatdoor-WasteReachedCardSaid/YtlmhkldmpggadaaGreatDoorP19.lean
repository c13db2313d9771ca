/- More papers that are false; a number that is put in the place of a paper's. Plain. What is gone in the end, and what was there and is left. Plain. The ends of ranges, by halves. Plain. Proofs that .. -/
import Derived.Test.YtlmhkldmpggadaaGreatDoorP18
import Derived.Lib.Split
import Derived.Lib.AtoiAll
import Derived.Lib.ItoaNum
import Derived.Lib.Join
namespace Go.AM
def aV (y:ab) (i:Nat):Nat:=match y.papers[i]? with
 | none=>i
 | some p=>if p.copy < 0 then i else min i p.copy.toNat
def aB (y:ab) (i:Nat):Int:=match y.papers[i]? with
 | none=>0
 | some p=>p.kind
def e7 (y:ab) (i:Nat):Nat:=2 * y.places.length + dW (aB y i) y.papers 0 (aV y i)
def lD (y:ab) (wrong:List Nat) (i:Nat) (lo hi:Int):Prop:=
 gr (y.places.length + 2) (aU y (aB y i) y.places.length (bh y wrong (aB y i)) (-ar) ar) (e7 y i) lo hi
def lE (y:ab) (wrong:List Nat) (k:Int) (lo hi:Int):Prop:=
 gr (y.places.length + 2) (aU y k y.places.length (bh y wrong k) (-ar) ar) (2 * y.places.length + (bh y wrong k).length) lo hi
theorem ke {nm:ByteArray → Bool} {y:ab} (h:bV nm y) {i:Nat} (hi:i < y.papers.length):∃ hl:aV y i < y.papers.length,ba y.papers[aV y i] (aV y i) = true ∧ y.papers[aV y i].kind = aB y i ∧
  (aV y i = i ∨ (y.papers[aV y i].copy = i ∧ y.papers[i].copy = aV y i)) ∧ y.papers[aV y i].src = y.papers[i].src ∧ y.papers[aV y i].dst = y.papers[i].dst:=by
 have hp:=h.papers i hi;have hk:aB y i = y.papers[i].kind:=by unfold aB; rw [List.getElem?_eq_getElem hi]
 have hld:aV y i = if y.papers[i].copy < 0 then i else min i y.papers[i].copy.toNat:=by unfold aV; rw [List.getElem?_eq_getElem hi]
 rcases hp.copy with hc | ⟨c1,c2,c3,q,hq,c4,c5,c6,c7⟩
 ·have e:aV y i = i:=by rw [hld,if_pos (by omega)]
  simp only [e];exact ⟨hi,by unfold ba; rw [decide_eq_true (by omega:y.papers[i].copy < 0)]; rfl,hk.symm, .inl trivial,trivial,trivial⟩
 ·obtain ⟨hcl,hcq⟩:=List.getElem?_eq_some_iff.1 hq;rcases Nat.lt_or_ge i y.papers[i].copy.toNat with hlt | hge
  ·have e:aV y i = i:=by rw [hld,if_neg (by omega)]; omega
   simp only [e];exact ⟨hi,by unfold ba; rw [decide_eq_true (by omega:(i:Int) < y.papers[i].copy)]; simp,hk.symm, .inl trivial,trivial,trivial⟩
  ·have e:aV y i = y.papers[i].copy.toNat:=by rw [hld,if_neg (by omega)]; omega
   rw [e];refine ⟨hcl, ?_, ?_, .inr ⟨?_,by omega⟩, ?_, ?_⟩
   ·rw [hcq]; unfold ba; rw [c4,decide_eq_true (by omega:(y.papers[i].copy.toNat:Int) < (i:Int))]; simp
   ·rw [hcq,c5,hk]
   ·rw [hcq,c4]
   ·rw [hcq,c6]
   ·rw [hcq,c7]
theorem KY {al:aj → Nat → Int × Int} {k:Int} {l:List aj} {a:Nat} (h:a < l.length) (hk:l[a].kind = k) (hl:ba l[a] a = true):dW k l 0 a < (dy al k l 0).length:=by
 have:=zc (al:=al) l 0 a (Nat.zero_le _) (by omega) (by simpa using hk) (by simpa using hl);exact (List.getElem?_eq_some_iff.1 this).1
theorem sw {nm:ByteArray → Bool} {y:ab} (h:bV nm y) {i:Nat} (hi:i < y.papers.length) (wrong:List Nat) (lo hi':Int):e7 y i < (aU y (aB y i) y.places.length (bh y wrong (aB y i)) lo hi').length ∧ dW (aB y i) y.papers 0 (aV y i) < (bh y wrong (aB y i)).length:=by
 obtain ⟨hl,h1,h2,_⟩:=ke h hi;have:=KY (al:=aY y wrong) hl h2 h1;refine ⟨?_,this⟩;rw [ld];unfold e7;unfold bh at *;omega
/-! ### another number -/
def Ak (p:aj) (n:Int):aj:={ p with kilos:=n }
def aT (y:ab) (i:Nat) (n:Int):ab:={ y with papers:=y.papers.modify i fun p=>Ak p n }
theorem jB {y:ab} {i:Nat} {n:Int} {j:Nat} (hj:j < y.papers.length):(aT y i n).papers[j]? = some (if j = i then Ak y.papers[j] n else y.papers[j]):=by
 unfold aT;dsimp only;rw [List.getElem?_modify,List.getElem?_eq_getElem hj];by_cases e:i = j
 ·rw [if_pos e.symm]; simp [e]
 ·rw [if_neg (Ne.symm e)]; simp [e]
theorem lY (y:ab) (i:Nat) (n:Int):(aT y i n).papers.length = y.papers.length:=by simp [aT]
theorem sC {y:ab} {i:Nat} {n:Int} {j:Nat} (hji:j ≠ i):bA (aT y i n) j = bA y j:=by
 unfold bA;rcases Nat.lt_or_ge j y.papers.length with h | h
 ·rw [jB h,if_neg hji,List.getElem?_eq_getElem h]
 ·rw [List.getElem?_eq_none (by rw [lY]; exact h),List.getElem?_eq_none h]
theorem nx {y:ab} {i:Nat} {n:Int} (hi:i < y.papers.length):bA (aT y i n) i = n:=by
 unfold bA;rw [jB hi,if_pos rfl]; rfl
theorem sD {nm:ByteArray → Bool} {y:ab} (h:bV nm y) (i:Nat) {n:Int} (hn:Big n):bV nm (aT y i n):=by
 refine ⟨h.k4,h.p4,by rw [lY]; exact h.m10,h.f8,h.l8,h.kinds,h.places,⟨fun c hc=>⟨(h.first.1 c hc).toDt,(h.first.1 c hc).kind,(h.first.1 c hc).place⟩,h.first.2⟩,fun j hj=>?_,⟨fun c hc=>⟨(h.last.1 c hc).toDt,(h.last.1 c hc).kind,(h.last.1 c hc).place⟩,h.last.2⟩⟩;have hj':j < y.papers.length:=by rwa [lY] at hj
 have hp:=h.papers j hj';have hg:=jB (i:=i) (n:=n) hj';rw [List.getElem?_eq_getElem hj] at hg;have hg:=Option.some.inj hg;rw [hg];have hcopy:∀ p:aj,p = Ak y.papers[j] n ∨ p = y.papers[j] → Big p.kilos → FB (aT y i n) j p:=by
  intro p hpp hk;have e:p.kind = y.papers[j].kind ∧ p.src = y.papers[j].src ∧ p.dst = y.papers[j].dst ∧ p.copy = y.papers[j].copy:=by
   rcases hpp with e | e <;> rw [e] <;> exact ⟨rfl,rfl,rfl,rfl⟩
  obtain ⟨e1,e2,e3,e4⟩:=e;refine ⟨by rw [e1]; exact hp.kind,by rw [e2]; exact hp.src,by rw [e3]; exact hp.dst,by rw [e2,e3]; exact hp.ne,hk, ?_⟩;rw [e4,lY,e1,e2,e3];rcases hp.copy with hc | ⟨c1,c2,c3,q,hq,c4⟩
  ·exact .inl hc
  ·refine .inr ⟨c1,c2,c3,if y.papers[j].copy.toNat = i then Ak q n else q, ?_, ?_⟩
   ·obtain ⟨hl,hql⟩:=List.getElem?_eq_some_iff.1 hq;rw [jB hl,hql]
   ·split
    ·exact c4
    ·exact c4
 split
 ·exact hcopy _ (.inl rfl) hn
 ·exact hcopy _ (.inr rfl) hp.kilos
theorem rY {al be:aj → Nat → Int × Int} {k:Int}:∀ (l r:List aj) (i:Nat),l.length = r.length → (∀ j (h1:j < l.length) (h2:j < r.length),(l[j].kind = r[j].kind ∧ l[j].src = r[j].src ∧ l[j].dst = r[j].dst ∧ l[j].copy = r[j].copy) ∧ (l[j].kind = k → ba l[j] (i + j) = true → al l[j] (i + j) = be r[j] (i + j))) → dy al k l i = dy be k r i
 | [],[],_,_,_=>rfl
 | [],_ :: _,_,h,_=>by simp at h
 | _ :: _,[],_,h,_=>by simp at h
 | p :: l,q :: r,i,h,hh=>by
  have ih:=rY (al:=al) (be:=be) (k:=k) l r (i + 1) (by simpa using h) fun j h1 h2=>by
   have:=hh (j + 1) (by simpa using h1) (by simpa using h2);rw [show i + (j + 1) = i + 1 + j by omega] at this;simpa using this
  obtain ⟨⟨e1,e2,e3,e4⟩,h0⟩:=hh 0 (by simp) (by simp);simp only [List.getElem_cons_zero,Nat.add_zero] at e1 e2 e3 e4 h0;have el:ba q i = ba p i:=by unfold ba; rw [e4]
  simp only [dy,ih,el, ← e1];split
  ·rename_i hc;rw [e2,e3,h0 hc.1 hc.2]
  ·rfl
theorem qH (x:Nat) (f:Nat → Int):∀ (l r:List aF) (i:Nat),bm x (l ++ r) i f = bm x l i f + bm x r (i + l.length) f
 | [],r,i=>by simp [bm]
 | e :: l,r,i=>by simp only [List.cons_append,bm,qH x f l,List.length_cons]; rw [show i + 1 + l.length = i + (l.length + 1) by omega]; omega
def qF (y:ab) (i:Nat):Nat:=dW (aB y i) y.papers 0 (aV y i)
def fB (y:ab) (wrong:List Nat) (i:Nat) (a b:Int):List cz:=(bh y wrong (aB y i)).modify (qF y i) fun j=>⟨j.src,j.dst,a,b⟩
def sx (y:ab) (k:Int) (js:List cz):Prop:=∀ P,1 ≤ P → P < 2 ^ y.places.length → dM (bC P) y.places.length y k js = 0 ∧ bM (bC P) y.places.length y k js = 0
section
variable {nm:ByteArray → Bool} {y:ab} (h:bV nm y) {wrong:List Nat} {i:Nat} (hi:i < y.papers.length)
include h hi
theorem yC:∃ hc:qF y i < (bh y wrong (aB y i)).length,(bh y wrong (aB y i))[qF y i] = ⟨y.papers[i].src,y.papers[i].dst,(aY y wrong (y.papers.getD (aV y i) ⟨0,0,0,0,0⟩) (aV y i)).1,(aY y wrong (y.papers.getD (aV y i) ⟨0,0,0,0,0⟩) (aV y i)).2⟩:=by
 obtain ⟨hl,l1,l2,_,l4,l5⟩:=ke h hi;have h5:=zc (al:=aY y wrong) y.papers 0 (aV y i) (Nat.zero_le _) (by omega) (by simpa using l2) (by simpa using l1);have hc:=(List.getElem?_eq_some_iff.1 h5).1;refine ⟨hc, ?_⟩;have h6:(bh y wrong (aB y i))[qF y i]? = some ((bh y wrong (aB y i))[qF y i]'hc):=List.getElem?_eq_getElem hc;unfold bh qF at h6 ⊢;rw [h5] at h6;rw [← Option.some.inj h6];simp only [Nat.sub_zero,l4,l5,List.getD_eq_getElem?_getD,List.getElem?_eq_getElem hl,Option.getD_some]
theorem Ii {a b:Int} (ha:Big a) (hb:Big b) (hab:a ≤ b):(∀ j ∈ fB y wrong i a b,fp y.places.length j) ∧ (fB y wrong i a b).length ≤ 10:=by
 have _hi:=hi;obtain ⟨h1,h2⟩:=nD h wrong (aB y i);refine ⟨fun j hj=>?_,by unfold fB; rw [List.length_modify]; exact h2⟩;unfold fB at hj;obtain ⟨c,hc,rfl⟩:=List.getElem_of_mem hj;have hc':c < (bh y wrong (aB y i)).length:=by rwa [List.length_modify] at hc
 have e:((bh y wrong (aB y i)).modify (qF y i) fun j=>(⟨j.src,j.dst,a,b⟩:cz))[c] = if qF y i = c then (⟨(bh y wrong (aB y i))[c].src,(bh y wrong (aB y i))[c].dst,a,b⟩:cz) else (bh y wrong (aB y i))[c]:=List.getElem_modify ..;have hok:=h1 _ (List.getElem_mem hc');rw [e];split
 ·exact ⟨hok.src,hok.dst,hok.ne,ha,hb,hab⟩
 ·exact hok
theorem xG {a b:Int} (ha:Big a) (hb:Big b) (hab:a ≤ b):sx y (aB y i) (fB y wrong i a b) ↔ ∃ f,bz (y.places.length + 2) (gy (aU y (aB y i) y.places.length (bh y wrong (aB y i)) (-ar) ar) (e7 y i) a b) f:=by
 obtain ⟨hc,_⟩:=yC h (wrong:=wrong) hi;obtain ⟨h1,h2⟩:=Ii h (wrong:=wrong) hi ha hb hab;unfold sx;rw [← xu h.ok h.p4.2 h1 h2];unfold fB;rw [xL hc]; rfl
theorem xb {L H:Int} (hr:lD y wrong i L H) {s:Int × Int} (hs:aY y wrong (y.papers.getD (aV y i) ⟨0,0,0,0,0⟩) (aV y i) = s) {m:Int} (h1:s.1 ≤ m) (h2:m ≤ s.2):sx y (aB y i) (fB y wrong i s.1 m) ↔ L ≤ m:=by
 obtain ⟨hc,he⟩:=yC h (wrong:=wrong) hi;have hw:=sw h hi wrong (-ar) ar;have hok:=(nD h wrong (aB y i)).1 _ (List.getElem_mem hc);rw [he,hs] at hok;have b1:=hok.lo;have b2:=hok.hi;unfold Big at b1 b2;dsimp only at b1 b2;rw [xG h hi ⟨by omega,by omega⟩ ⟨by omega,by omega⟩ h1];have hget:(aU y (aB y i) y.places.length (bh y wrong (aB y i)) (-ar) ar)[e7 y i]'hw.1 = cq y.places.length ((bh y wrong (aB y i))[qF y i]):=by
  have:=mE (y:=y) (k:=aB y i) (n:=y.places.length) (js:=bh y wrong (aB y i)) (lo:=-ar) (hi:=ar) hc;have e2:(aU y (aB y i) y.places.length (bh y wrong (aB y i)) (-ar) ar)[e7 y i]? = some ((aU y (aB y i) y.places.length (bh y wrong (aB y i)) (-ar) ar)[e7 y i]'hw.1):=List.getElem?_eq_getElem hw.1;unfold e7 at e2 ⊢;unfold qF at this ⊢;rw [this] at e2;exact (Option.some.inj e2).symm
 have:=hr.below hw.1 (m:=m) (by rw [hget,he,hs]; exact h2);rw [hget,he,hs] at this;exact this
theorem vY {L H:Int} (hr:lD y wrong i L H) {s:Int × Int} (hs:aY y wrong (y.papers.getD (aV y i) ⟨0,0,0,0,0⟩) (aV y i) = s) {m:Int} (h1:s.1 ≤ m) (h2:m ≤ s.2):sx y (aB y i) (fB y wrong i m s.2) ↔ m ≤ H:=by
 obtain ⟨hc,he⟩:=yC h (wrong:=wrong) hi;have hw:=sw h hi wrong (-ar) ar;have hok:=(nD h wrong (aB y i)).1 _ (List.getElem_mem hc);rw [he,hs] at hok;have b1:=hok.lo;have b2:=hok.hi;unfold Big at b1 b2;dsimp only at b1 b2;rw [xG h hi ⟨by omega,by omega⟩ ⟨by omega,by omega⟩ h2];have hget:(aU y (aB y i) y.places.length (bh y wrong (aB y i)) (-ar) ar)[e7 y i]'hw.1 = cq y.places.length ((bh y wrong (aB y i))[qF y i]):=by
  have:=mE (y:=y) (k:=aB y i) (n:=y.places.length) (js:=bh y wrong (aB y i)) (lo:=-ar) (hi:=ar) hc;have e2:(aU y (aB y i) y.places.length (bh y wrong (aB y i)) (-ar) ar)[e7 y i]? = some ((aU y (aB y i) y.places.length (bh y wrong (aB y i)) (-ar) ar)[e7 y i]'hw.1):=List.getElem?_eq_getElem hw.1;unfold e7 at e2 ⊢;unfold qF at this ⊢;rw [this] at e2;exact (Option.some.inj e2).symm
 have:=hr.MD hw.1 (m:=m) (by rw [hget,he,hs]; exact h1);rw [hget,he,hs] at this;exact this
theorem zT {L H:Int} (hr:lD y wrong i L H) {s:Int × Int} (hs:aY y wrong (y.papers.getD (aV y i) ⟨0,0,0,0,0⟩) (aV y i) = s):s.1 ≤ L ∧ L ≤ H ∧ H ≤ s.2:=by
 obtain ⟨hc,he⟩:=yC h (wrong:=wrong) hi;have hw:=sw h hi wrong (-ar) ar;have hget:(aU y (aB y i) y.places.length (bh y wrong (aB y i)) (-ar) ar)[e7 y i]'hw.1 = cq y.places.length ((bh y wrong (aB y i))[qF y i]):=by
  have:=mE (y:=y) (k:=aB y i) (n:=y.places.length) (js:=bh y wrong (aB y i)) (lo:=-ar) (hi:=ar) hc;have e2:(aU y (aB y i) y.places.length (bh y wrong (aB y i)) (-ar) ar)[e7 y i]? = some ((aU y (aB y i) y.places.length (bh y wrong (aB y i)) (-ar) ar)[e7 y i]'hw.1):=List.getElem?_eq_getElem hw.1;unfold e7 at e2 ⊢;unfold qF at this ⊢;rw [this] at e2;exact (Option.some.inj e2).symm
 obtain ⟨f,hf,ef⟩:=hr.least;obtain ⟨g,hg,eg⟩:=hr.most;have a1:=hf.inb _ hw.1;have a2:=hg.inb _ hw.1;have a3:=hr.all f hf;rw [hget,he,hs] at a1 a2;unfold cq at a1 a2;dsimp only at a1 a2;omega
end
/-! ### what is gone -/
def wV (y:ab) (k:Int) (js:List cz) (lo hi:Int):Prop:=∀ P,P < 2 ^ y.places.length → okO (bC P) y.places.length y k js lo hi
theorem HZ {y:ab} {k:Int} {js:List cz} {lo hi:Int}:(aU y k y.places.length js lo hi)[2 * y.places.length + js.length]? = some ⟨y.places.length,y.places.length + 1,lo,hi⟩:=by
 unfold aU;rw [List.getElem?_append_right (by simp [dP])];simp [dP]
theorem HM {y:ab} {k:Int} {js:List cz} {lo hi a b:Int}:gy (aU y k y.places.length js lo hi) (2 * y.places.length + js.length) a b = aU y k y.places.length js a b:=by
 unfold aU gy;rw [p8 _ _ _ _ (by simp [dP])];simp [dP]
section
variable {nm:ByteArray → Bool} {y:ab} (h:bV nm y) {wrong:List Nat} {k:Int}
include h
theorem zX {lo hi:Int} (hlh:lo ≤ hi) (h1:-1000000000 ≤ lo) (h2:hi ≤ 1000000000) {L H:Int} (_hr:lE y wrong k L H):wV y k (bh y wrong k) lo hi ↔ ∃ f,bz (y.places.length + 2) (aU y k y.places.length (bh y wrong k) (-ar) ar) f ∧ lo ≤ f (2 * y.places.length + (bh y wrong k).length) ∧ f (2 * y.places.length + (bh y wrong k).length) ≤ hi:=by
 obtain ⟨hj,hl⟩:=nD h wrong k;unfold wV;rw [← vZ h.ok h.p4.2 hj hl hlh h1 h2];have hw:2 * y.places.length + (bh y wrong k).length < (aU y k y.places.length (bh y wrong k) (-ar) ar).length:=by rw [ld]; omega
 have hg:(aU y k y.places.length (bh y wrong k) (-ar) ar)[2 * y.places.length + (bh y wrong k).length]'hw = ⟨y.places.length,y.places.length + 1, -ar,ar⟩:=by
  have:=HZ (y:=y) (k:=k) (js:=bh y wrong k) (lo:=-ar) (hi:=ar);rw [List.getElem?_eq_getElem hw] at this; exact Option.some.inj this
 have hs:aU y k y.places.length (bh y wrong k) lo hi = gy (aU y k y.places.length (bh y wrong k) (-ar) ar) (2 * y.places.length + (bh y wrong k).length) lo hi:=HM.symm;rw [hs];constructor
 ·rintro ⟨f,hf⟩;exact ⟨f,(dU hw (by rw [hg]; unfold ar; dsimp only; omega) (by rw [hg]; unfold ar; dsimp only; omega) f).1 hf⟩
 ·rintro ⟨f,hf⟩;exact ⟨f,(dU hw (by rw [hg]; unfold ar; dsimp only; omega) (by rw [hg]; unfold ar; dsimp only; omega) f).2 hf⟩
theorem A2 {L H:Int} (hr:lE y wrong k L H):-10000000 ≤ L ∧ L ≤ H ∧ H ≤ 10000000:=by
 obtain ⟨hj,hl⟩:=nD h wrong k;have key:∀ f,bz (y.places.length + 2) (aU y k y.places.length (bh y wrong k) (-ar) ar) f → -10000000 ≤ f (2 * y.places.length + (bh y wrong k).length) ∧ f (2 * y.places.length + (bh y wrong k).length) ≤ 10000000:=by
  intro f hf;have hn:=hf.net y.places.length (by omega);unfold aU at hn;rw [qH,qH] at hn;have hp:∀ m,m ≤ y.places.length → bm y.places.length (bS y k y.places.length m) 0 f = 0:=by
   intro m
   induction m with
   | zero=>intro _; rfl
   | succ m ih=>
    intro hm;simp only [bS,qH,ih (by omega),bm];have c1:¬ m = y.places.length:=by omega
    have c2:¬ y.places.length + 1 = y.places.length:=by omega
    simp [c1]
  rw [hp _ (Nat.le_refl _)] at hn;simp only [List.length_append,List.length_map,dP,Nat.zero_add,bm] at hn;rw [if_neg (by omega:¬ y.places.length + 1 = y.places.length)] at hn;simp only [if_true] at hn;have hb:∀ (js:List cz) (b:Nat),(∀ j ∈ js,fp y.places.length j) → (∀ c (hc:c < js.length),0 ≤ f (b + c) ∧ f (b + c) ≤ 1000000) → - (js.length * 1000000:Int) ≤ bm y.places.length (js.map (cq y.places.length)) b f ∧ bm y.places.length (js.map (cq y.places.length)) b f ≤ js.length * 1000000:=by
   intro js
   induction js with
   | nil=>intro b _ _; simp [bm]
   | cons j r ih=>
    intro b hjo hf0;have h0:=hf0 0 (by simp);rw [Nat.add_zero] at h0;have ih:=ih (b + 1) (fun x hx=>hjo x (by simp [hx])) fun c hc=>by
     have:=hf0 (c + 1) (by simpa using hc);rw [show b + (c + 1) = b + 1 + c by omega] at this;exact this
    simp only [List.map_cons,bm,List.length_cons]
    split <;> split <;> omega
  have hbb:=hb (bh y wrong k) (2 * y.places.length) hj fun c hc=>by
   have hi2:2 * y.places.length + c < (aU y k y.places.length (bh y wrong k) (-ar) ar).length:=by rw [ld]; omega
   have:=hf.inb _ hi2;have e:=mE (y:=y) (k:=k) (n:=y.places.length) (js:=bh y wrong k) (lo:=-ar) (hi:=ar) hc;rw [List.getElem?_eq_getElem hi2] at e;rw [Option.some.inj e] at this;have ho:=hj _ (List.getElem_mem hc);have o1:=ho.lo;have o2:=ho.hi;unfold Big at o1 o2;unfold cq at this;dsimp only at this;omega
  omega
 obtain ⟨f,hf,ef⟩:=hr.least;obtain ⟨g,hg,eg⟩:=hr.most;have a1:=key f hf;have a2:=key g hg;have a3:=hr.all f hf;omega
theorem A3 {L H:Int} (hr:lE y wrong k L H) {m:Int} (h1:-10000000 ≤ m) (h2:m ≤ 10000000):wV y k (bh y wrong k) (-10000000) m ↔ L ≤ m:=by
 rw [zX h h1 (by omega) (by omega) hr];have hf:=A2 h hr;constructor
 ·rintro ⟨f,hf,a,b⟩;have:=hr.all f hf; omega
 ·intro hm;obtain ⟨f,hf',ef⟩:=hr.least;exact ⟨f,hf',by omega,by omega⟩
theorem wU {L H:Int} (hr:lE y wrong k L H) {m:Int} (h1:-10000000 ≤ m) (h2:m ≤ 10000000):wV y k (bh y wrong k) m 10000000 ↔ m ≤ H:=by
 rw [zX h h2 (by omega) (by omega) hr];have hf:=A2 h hr;constructor
 ·rintro ⟨f,hf,a,b⟩;have:=hr.all f hf; omega
 ·intro hm;obtain ⟨f,hf',ef⟩:=hr.most;exact ⟨f,hf',by omega,by omega⟩
end
def yp (y:ab) (wrong:List Nat) (p:aS):Bool:=
 if p.paper ≠ -1 then (decide (p.kind = 0) && decide (p.places = 0) && decide (p.over = 0)) && inI p.paper 0 (y.papers.length - 1) && bH y wrong p.paper.toNat
 else if inI p.kind 0 (y.kinds.length - 1) = false ∨ inI p.places 1 (2 ^ y.places.length - 1) = false then false
 else (decide (0 < p.over) && decide (p.over = jO y wrong p.kind p.places.toNat)) || (decide (p.over < 0) && decide (p.over = dY y wrong p.kind p.places.toNat))
def cutAt (b:UInt8):List UInt8 → List (List UInt8)
 | []=>[[]]
 | c :: r=>if c = b then [] :: cutAt b r else match cutAt b r with
  | []=>[[c]]
  | p :: q=>(c :: p) :: q
theorem lh (b:UInt8):∀ l,cutAt b l ≠ []
 | []=>by simp [cutAt]
 | c :: r=>by
  simp only [cutAt];split
  ·simp
  ·split <;> simp
def bD (b:UInt8):List (List UInt8) → List UInt8
 | []=>[]
 | [p]=>p
 | p :: q :: r=>p ++ b :: bD b (q :: r)
theorem CV (b:UInt8):∀ l,Lib.join l [b] = bD b l
 | []=>rfl
 | [p]=>by simp [Lib.join,bD,List.intercalate,List.intersperse]
 | p :: q :: r=>by
  have:=CV b (q :: r);unfold Lib.join List.intercalate at this ⊢;simp only [bD] at this ⊢;rw [← this]; simp [List.intersperse]
theorem iz (b:UInt8):∀ (p r:List UInt8),b ∉ p → cutAt b (p ++ b :: r) = p :: cutAt b r
 | [],r,_=>by simp [cutAt]
 | c :: p,r,h=>by
  have hc:c ≠ b:=fun e=>h (by simp [e]);have ih:=iz b p r fun e=>h (by simp [e]);simp only [List.cons_append,cutAt,if_neg hc,ih]
theorem jE (b:UInt8):∀ (p:List UInt8),b ∉ p → cutAt b p = [p]
 | [],_=>rfl
 | c :: p,h=>by
  have hc:c ≠ b:=fun e=>h (by simp [e]);have ih:=jE b p fun e=>h (by simp [e]);simp only [cutAt,if_neg hc,ih]
theorem pC (b:UInt8):∀ {l:List (List UInt8)},l ≠ [] → (∀ p ∈ l,b ∉ p) → cutAt b (bD b l) = l
 | [],h,_=>absurd rfl h
 | [p],_,h=>jE b p (h p (by simp))
 | p :: q :: r,_,h=>by
  simp only [bD];rw [iz b p _ (h p (by simp)),pC b (by simp) fun x hx=>h x (by simp [hx])]
theorem sU (b:UInt8) (p:List UInt8) {q:List (List UInt8)} (h:q ≠ []):bD b (p :: q) = p ++ b :: bD b q:=by
 cases q with
 | nil=>exact absurd rfl h
 | cons a r=>rfl
theorem lU (b:UInt8):∀ (l:List UInt8),bD b (cutAt b l) = l
 | []=>rfl
 | c :: r=>by
  have ih:=lU b r;have hne:=lh b r;simp only [cutAt];split
  ·rename_i h;rw [sU b [] hne,ih,h]; rfl
  ·cases hq:cutAt b r with
   | nil=>exact absurd hq hne
   | cons p q=>
    rw [hq] at ih
    cases q with
    | nil=>simp only [bD] at ih ⊢; rw [ih]
    | cons a q=>simp only [bD,List.cons_append] at ih ⊢; rw [ih]
theorem zz (b:UInt8):∀ (l:List UInt8), ∀ p ∈ cutAt b l,b ∉ p
 | [],p,h=>by simp [cutAt] at h; subst h; simp
 | c :: r,p,h=>by
  have ih:=zz b r;have hne:=lh b r;simp only [cutAt] at h
  split at h
  ·rcases List.mem_cons.1 h with rfl | h
   ·simp
   ·exact ih p h
  ·rename_i hc
   cases hq:cutAt b r with
   | nil=>exact absurd hq hne
   | cons x q=>
    rw [hq] at h ih;rcases List.mem_cons.1 h with rfl | h
    ·intro e;rcases List.mem_cons.1 e with e | e
     ·exact hc e.symm
     ·exact ih x (by simp) e
    ·exact ih p (by simp [h])
/-! ### a line of a text -/
theorem lF (b:UInt8):∀ (l:List UInt8),(b ∉ l ∧ Lib.index l [b] = -1) ∨ ∃ p r,l = p ++ b :: r ∧ b ∉ p ∧ Lib.index l [b] = p.length
 | []=>.inl ⟨by simp,by simp [Lib.index]⟩
 | c :: r=>by
  by_cases h:c = b
  ·subst h;exact .inr ⟨[],r,rfl,by simp,by simp [Lib.index,List.isPrefixOf]⟩
  ·have hp:List.isPrefixOf [b] (c :: r) = false:=by
    simp [List.isPrefixOf]; exact fun e=>h e.symm
   rcases lF b r with ⟨h1,h2⟩ | ⟨p,q,h1,h2,h3⟩
   ·refine .inl ⟨by simp [h1]; exact fun e=>h e.symm, ?_⟩;simp [Lib.index,hp,h2]
   ·refine .inr ⟨c :: p,q,by rw [h1]; rfl,by simp [h2]; exact fun e=>h e.symm, ?_⟩;rw [Lib.index,hp,h3];have:((p.length:Int) == -1) = false:=by simp
    simp [this]
theorem GM (b:UInt8) (l:List UInt8):Lib.cut l [b] = match cutAt b l with
  | []=>(l,[],false)
  | [_]=>(l,[],false)
  | p :: q=>(p,bD b q,true):=by
 rcases lF b l with ⟨h1,h2⟩ | ⟨p,r,h1,h2,h3⟩
 ·rw [jE b l h1];unfold Lib.cut;rw [h2]; simp
 ·have h4:cutAt b l = p :: cutAt b r:=by rw [h1]; exact iz b p r h2
  rw [h4];unfold Lib.cut;rw [h3,if_pos (by omega)]
  cases hq:cutAt b r with
  | nil=>exact absurd hq (lh b r)
  | cons a q=>
   simp only;rw [← hq,lU,h1];simp
theorem tk (b:UInt8):∀ (k:Nat) (l:List UInt8),l.count b ≤ k → Lib.splitK [b] 0 k l = cutAt b l
 | 0,l,h=>by
  have:b ∉ l:=by rw [← List.count_eq_zero]; omega
  rw [jE b l this]; rfl
 | k + 1,l,h=>by
  unfold Lib.splitK;rcases lF b l with ⟨h1,h2⟩ | ⟨p,r,h1,h2,h3⟩
  ·rw [h2,jE b l h1]; rfl
  ·have h4:cutAt b l = p :: cutAt b r:=by rw [h1]; exact iz b p r h2
   rw [h3,if_neg (by simp),h4];have h5:l.count b = p.count b + (r.count b + 1):=by rw [h1,List.count_append,List.count_cons_self]
   have e:(((p.length:Int)).toNat + 0) = p.length:=by simp
   rw [e,show ((p.length:Int).toNat + [b].length) = p.length + 1 by simp];have e1:l.take p.length = p:=by rw [h1]; simp
   have e2:l.drop (p.length + 1) = r:=by rw [h1]; simp
   rw [e1,e2,tk b k r (by omega)]
theorem nQ (b:UInt8):∀ (k:Nat) (l:List UInt8),l.length < k → Lib.countFrom [b] k l = l.count b
 | 0,l,h=>by omega
 | k + 1,l,h=>by
  unfold Lib.countFrom;rcases lF b l with ⟨h1,h2⟩ | ⟨p,r,h1,h2,h3⟩
  ·rw [h2]; simp; exact (List.count_eq_zero.2 h1).symm
  ·rw [h3,if_neg (by simp),show ((p.length:Int).toNat + [b].length) = p.length + 1 by simp];have e2:l.drop (p.length + 1) = r:=by rw [h1]; simp
   have e3:l.length = p.length + (r.length + 1):=by rw [h1]; simp
   rw [e2,nQ b k r (by omega),h1,List.count_append,List.count_cons_self,List.count_eq_zero.2 h2]; omega
/-! ### numerals -/
def xU (c:UInt8):Prop:=48 ≤ c.toNat ∧ c.toNat ≤ 57
def yr (a:Nat) (l:List UInt8):Nat:=l.foldl (fun a c=>a * 10 + (c.toNat - 48)) a
theorem uw {d:Nat} (h:d < 10):(UInt8.ofNat (48 + d)).toNat = 48 + d:=by
 rw [UInt8.toNat_ofNat']; omega
theorem kH (u:Nat):∀ c ∈ Lib.decDigits u,xU c:=by
 induction u using Nat.strongRecOn with
 | _ u ih=>
  intro c hc;rw [Lib.decDigits] at hc
  split at hc
  ·rw [List.mem_singleton.1 hc];have:=uw (d:=u) (by omega);unfold xU; omega
  ·rcases List.mem_append.1 hc with h | h
   ·exact ih (u / 10) (by omega) c h
   ·rw [List.mem_singleton.1 h];have:=uw (d:=u % 10) (by omega);unfold xU; omega
theorem oV (u:Nat):yr 0 (Lib.decDigits u) = u:=by
 induction u using Nat.strongRecOn with
 | _ u ih=>
  rw [Lib.decDigits];split
  ·rename_i h;simp only [yr,List.foldl_cons,List.foldl_nil,uw h]; omega
  ·have:=ih (u / 10) (by omega);unfold yr at this ⊢;rw [List.foldl_append,this,List.foldl_cons,List.foldl_nil,uw (by omega)]; omega
theorem rk (u:Nat):Lib.decDigits u ≠ []:=by
 rw [Lib.decDigits]; split <;> simp
theorem C7:∀ (l:List UInt8) (a:Nat),a ≤ yr a l
 | [],a=>Nat.le_refl _
 | c :: l,a=>by
  have:=C7 l (a * 10 + (c.toNat - 48));simp only [yr,List.foldl_cons] at this ⊢;omega
theorem o5:∀ (l:List UInt8) (a:Nat),(∀ c ∈ l,xU c) → yr a l < 9223372036854775808 → Lib.parseUint10 a l = .ok (yr a l)
 | [],a,_,_=>rfl
 | c :: l,a,h,hv=>by
  have h1:48 ≤ c.toNat ∧ c.toNat ≤ 57:=h c (by simp);have h2:=C7 l (a * 10 + (c.toNat - 48));simp only [yr,List.foldl_cons] at hv h2;simp only [Lib.parseUint10];rw [if_pos h1,if_neg (by omega),if_neg (by omega),o5 l _ (fun d hd=>h d (by simp [hd])) hv];rfl
theorem uh {n:Int} (h:0 ≤ n):Lib.itoa n = Lib.decDigits n.toNat:=by unfold Lib.itoa; rw [if_neg (by omega)]
theorem ES {n:Int} (h:0 ≤ n) (h2:n ≤ 1000000000):Lib.atoiAll (Lib.itoa n) = .ok n:=by
 rw [uh h];have hd:=kH n.toNat;have hv:=oV n.toNat
 cases hl:Lib.decDigits n.toNat with
 | nil=>exact absurd hl (rk _)
 | cons c r=>
  rw [hl] at hd hv;have hc:=hd c (by simp);unfold xU at hc;unfold Lib.atoiAll;dsimp only;rw [if_neg (by omega)];unfold Lib.parseMag;rw [if_neg (by simp),o5 (c :: r) 0 hd (by omega),hv];simp only;rw [if_neg (by omega),if_neg (by omega),if_neg (by omega)];congr 1; omega
def Bi (l:List UInt8):Int:=
 if ¬ (1 ≤ l.length ∧ l.length ≤ 9) ∨ (1 < l.length ∧ l.head? = some 48) then -1 else if l.all (fun c=>decide (48 ≤ c.toNat ∧ c.toNat ≤ 57)) then (yr 0 l:Int) else -1
theorem vV {u k:Nat} (hk:1 ≤ k) (h:u < 10 ^ k):Lib.nDigits u ≤ k:=by
 induction k generalizing u with
 | zero=>omega
 | succ k ih=>
  by_cases h10:u < 10
  ·rw [Lib.nDigits_small h10]; omega
  ·rw [Lib.nDigits_big h10];rcases Nat.eq_zero_or_pos k with h0 | h0
   ·subst h0; simp at h; omega
   ·have:=ih (u:=u / 10) h0 (by rw [Nat.pow_succ] at h; omega);omega
theorem uH (u:Nat) (h:10 ≤ u):(Lib.decDigits u).head? ≠ some 48:=by
 induction u using Nat.strongRecOn with
 | _ u ih=>
  rw [Lib.decDigits,dif_neg (by omega)];by_cases h1:u / 10 < 10
  ·rw [Lib.decDigits,dif_pos h1];simp only [List.singleton_append,List.head?_cons,ne_eq,Option.some.injEq];intro e;have:=congrArg UInt8.toNat e;rw [uw h1] at this;simp at this;omega
  ·have:=ih (u / 10) (by omega) (by omega)
   cases hl:Lib.decDigits (u / 10) with
   | nil=>exact absurd hl (rk _)
   | cons c r=>rw [hl] at this; simpa using this
theorem ER {n:Int} (h:0 ≤ n) (h2:n < 1000000000):Bi (Lib.itoa n) = n:=by
 rw [uh h];have hd:=kH n.toNat;have hv:=oV n.toNat;have hlen:=Lib.decDigits_length n.toNat;have h1:=vV (u:=n.toNat) (k:=9) (by decide) (by omega);have h3:=Lib.nDigits_pos n.toNat;unfold Bi;rw [if_neg,if_pos,hv]
 ·omega
 ·rw [List.all_eq_true]; intro c hc; exact decide_eq_true (hd c hc)
 ·rintro (h4 | ⟨h4,h5⟩)
  ·omega
  ·by_cases h10:n.toNat < 10
   ·rw [Lib.nDigits_small h10] at hlen; omega
   ·exact uH n.toNat (by omega) h5
theorem qu {n:Int} (h:0 ≤ n) {k:Nat} (hk:1 ≤ k) (h2:n < 10 ^ k):(Lib.itoa n).length ≤ k:=by
 rw [uh h,Lib.decDigits_length];refine vV hk ?_;have:((n.toNat:Nat):Int) < ((10 ^ k:Nat):Int):=by
  rw [Int.toNat_of_nonneg h]; push_cast; exact h2
 exact Int.ofNat_lt.1 this
theorem rE {n:Int} (h:0 ≤ n) {b:UInt8} (hb:b.toNat < 48):b ∉ Lib.itoa n:=by
 rw [uh h];intro hm;have:=kH _ b hm;unfold xU at this; omega
abbrev WdW:=List UInt8
def eP (b:ByteArray):WdW:=b.data.toList
def zo (w:WdW):ByteArray:=⟨w.toArray⟩
theorem uG (b:ByteArray):zo (eP b) = b:=by simp [eP,zo]
theorem GB {a b:ByteArray} (h:eP a = eP b):a = b:=by rw [← uG a,h,uG]
theorem tX:∀ l:List ByteArray,(l.map eP).map zo = l
 | []=>rfl
 | a :: l=>by rw [List.map_cons,List.map_cons,uG,tX l]
def dV (r:List WdW):WdW:=bD 32 r ++ [10]
def eD:WdW:=[107,105,110,100,115]
def dC:WdW:=[112,108,97,99,101,115]
def dD:WdW:=[102,105,114,115,116]
def ij:WdW:=[112,97,112,101,114]
def eJ:WdW:=[108,97,115,116]
def b9:WdW:=[45]
def nameAt (l:List ByteArray) (i:Int):WdW:=eP (l.getD i.toNat .empty)
def gv (y:ab) (a:Int):WdW:=if a = -1 then b9 else nameAt y.places a
def bE (w:WdW) (y:ab) (c:ay):List WdW:=[w,nameAt y.kinds c.kind,nameAt y.places c.place,Lib.itoa c.lo,Lib.itoa c.hi]
def cV (y:ab) (p:aj):List WdW:=[ij,nameAt y.kinds p.kind,gv y p.src,gv y p.dst,Lib.itoa p.kilos,if 0 ≤ p.copy then Lib.itoa p.copy else b9]
def qD (y:ab):List (List WdW):=(eD :: y.kinds.map eP) :: (dC :: y.places.map eP) :: (y.first.map (bE dD y) ++ y.papers.map (cV y) ++ y.last.map (bE eJ y))
def gk (y:ab):WdW:=(qD y).flatMap dV
def j5:ab:=⟨[],[],[],[],[]⟩
/-! ### the program -/
def AZ (l:List ByteArray) (w:WdW):Option Nat:=l.findIdx? fun s=>decide (eP s = w)
def j6 (l:List ByteArray) (w:WdW) (minus:Bool):Option Int:=match AZ l w with
 | some i=>some i
 | none=>if minus = true ∧ w = b9 then some (-1) else none
def kJ (w:WdW) (minus:Bool):Option Int:=if minus = true ∧ w = b9 then some (-1) else match Lib.atoiAll w with
 | .ok v=>if 0 ≤ v then some v else none
 | _=>none
def gY (y:ab):List WdW → Option ay
 | [_,k,p,a,b]=>match j6 y.kinds k false,j6 y.places p false,kJ a false,kJ b false with
  | some k,some p,some a,some b=>some ⟨k,p,a,b⟩
  | _,_,_,_=>none
 | _=>none
def qb (y:ab):List WdW → Option aj
 | [_,k,a,b,n,c]=>match j6 y.kinds k false,j6 y.places a true,j6 y.places b true,kJ n false,kJ c true with
  | some k,some a,some b,some n,some c=>some ⟨k,a,b,n,c⟩
  | _,_,_,_,_=>none
 | _=>none
def eN (r:List WdW) (y:ab):Option ab:=
 if r.head? = some eD then some { y with kinds:=r.tail.map zo }
 else if r.head? = some dC then some { y with places:=r.tail.map zo }
 else if r.head? = some dD then (gY y r).map fun c=>{ y with first:=y.first ++ [c] }
 else if r.head? = some ij then (qb y r).map fun p=>{ y with papers:=y.papers ++ [p] }
 else if r.head? = some eJ then (gY y r).map fun c=>{ y with last:=y.last ++ [c] }
 else none
/-! ### the document -/
def yo (l:List ByteArray) (w:WdW):Int:=if w = b9 then -1 else match AZ l w with
 | some i=>i
 | none=>-2
def Mr (y:ab):List WdW → ay
 | [_,k,p,a,b]=>⟨yo y.kinds k,yo y.places p,Bi a,Bi b⟩
 | _=>⟨0,0,0,0⟩
def Mn (y:ab):List WdW → aj
 | [_,k,a,b,n,c]=>⟨yo y.kinds k,yo y.places a,yo y.places b,Bi n,if c = b9 then -1 else Bi c⟩
 | _=>⟨0,0,0,0,0⟩
def nn (step:List WdW → ab → Option ab) (last:WdW → Bool):List WdW → ab → Option ab
 | [],_=>none
 | [l],y=>if last l then some y else none
 | r :: q :: rs,y=>match step (cutAt 32 r) y with
  | none=>none
  | some y'=>nn step last (q :: rs) y'
def vX (nm:ByteArray → Bool) (step:List WdW → ab → Option ab) (last:WdW → Bool) (s:WdW):Option ab:=match nn step last (cutAt 10 s) j5 with
 | none=>none
 | some y=>if decide ((bZ nm y).2.2 = 0) && decide (gk y = s) then some y else none
def vL (nm:ByteArray → Bool) (s:WdW):Option ab:=vX nm eN (fun l=>decide (l = [])) s
/-! ### a text is read az it was -/
structure kR (nm:ByteArray → Bool):Prop where
 byte:∀ s,nm s = true → (∀ c ∈ eP s,48 ≤ c.toNat) ∧ eP s ≠ [] ∧ (eP s).length ≤ 16
theorem kR.no {nm:ByteArray → Bool} (h:kR nm) {s:ByteArray} (hs:nm s = true) {b:UInt8} (hb:b.toNat < 48):b ∉ eP s:=fun hm=>by
 have:=(h.byte s hs).1 b hm; omega
theorem kR.minus {nm:ByteArray → Bool} (h:kR nm) {s:ByteArray} (hs:nm s = true):eP s ≠ b9:=fun e=>by
 have:=(h.byte s hs).1 45 (by rw [e]; simp [b9]);exact absurd this (by decide)
theorem Bt {b:UInt8}:∀ {l:List WdW},(∀ w ∈ l,b ∉ w) → b ≠ 32 → b ∉ bD 32 l
 | [],_,_=>by simp [bD]
 | [p],h,_=>h p (by simp)
 | p :: q :: r,h,hb=>by
  have ih:=Bt (l:=q :: r) (fun w hw=>h w (by simp [hw])) hb;simp only [bD,List.mem_append,List.mem_cons,not_or];exact ⟨h p (by simp),hb,ih⟩
theorem w9:∀ (rs:List (List WdW)),(∀ r ∈ rs,(10:UInt8) ∉ bD 32 r) → cutAt 10 (rs.flatMap dV) = rs.map (bD 32) ++ [[]]
 | [],_=>rfl
 | r :: rs,h=>by
  have ih:=w9 rs fun x hx=>h x (by simp [hx]);have e:(r :: rs).flatMap dV = bD 32 r ++ 10 :: rs.flatMap dV:=by simp [dV]
  rw [e,iz 10 _ _ (h r (by simp)),ih]; rfl
theorem xh {step:List WdW → ab → Option ab} {last:WdW → Bool} (hl:last [] = true):∀ (rs:List (List WdW)) (y:ab),(∀ r ∈ rs,cutAt 32 (bD 32 r) = r) → nn step last (rs.map (bD 32) ++ [[]]) y = rs.foldlM (fun y r=>step r y) y
 | [],y,_=>by simp [nn,hl]
 | r :: rs,y,h=>by
  have h1:=h r (by simp);have ih:=fun y=>xh (step:=step) hl rs y fun x hx=>h x (by simp [hx]);simp only [List.map_cons,List.cons_append,List.foldlM_cons]
  cases hq:rs.map (bD 32) ++ [[]] with
  | nil=>simp at hq
  | cons a t=>
   simp only [hq] at ih;simp only [nn,h1]
   cases step r y with
   | none=>rfl
   | some y'=>exact ih y'
theorem DZ {l:List ByteArray} (hn:l.Nodup) {i:Nat} (hi:i < l.length):AZ l (eP l[i]) = some i:=by
 unfold AZ;rw [List.findIdx?_eq_some_iff_getElem];refine ⟨hi,by simp,fun j hj=>?_⟩;simp only [decide_eq_true_eq];intro e;have e2:=GB e;have:=List.pairwise_iff_getElem.1 (List.nodup_iff_pairwise_ne.1 hn) j i (by omega) hi hj;exact this e2
theorem pK {l:List ByteArray} {i:Int} (h:0 ≤ i ∧ i < l.length):∃ hi:i.toNat < l.length,nameAt l i = eP l[i.toNat]:=by
 refine ⟨by omega, ?_⟩;unfold nameAt;rw [List.getD_eq_getElem?_getD,List.getElem?_eq_getElem (by omega)]; rfl
theorem qe {nm:ByteArray → Bool} (hw:kR nm) {l:List ByteArray} (hl:(∀ s ∈ l,nm s = true) ∧ l.Nodup) {i:Int} (h:0 ≤ i ∧ i < l.length) (m:Bool):j6 l (nameAt l i) m = some i ∧ yo l (nameAt l i) = i:=by
 obtain ⟨hi,e⟩:=pK h;have hf:=DZ hl.2 hi;have hm:=hw.minus (hl.1 _ (List.getElem_mem hi));rw [e];unfold j6 yo;rw [hf,if_neg hm];dsimp only;exact ⟨by congr 1; omega,by omega⟩
theorem vT {n:Int} (h:0 ≤ n):Lib.itoa n ≠ b9:=fun e=>by
 have:=rE h (b:=45) (by decide);rw [e] at this;exact this (by simp [b9])
theorem qy {n:Int} (h:0 ≤ n) (h2:n ≤ 1000000) (m:Bool):kJ (Lib.itoa n) m = some n ∧ Bi (Lib.itoa n) = n:=by
 refine ⟨?_,ER h (by omega)⟩;unfold kJ;rw [if_neg (fun e=>vT h e.2),ES h (by omega)];dsimp only;rw [if_pos h]
theorem wW {nm:ByteArray → Bool} (hw:kR nm) {y:ab} (hl:(∀ s ∈ y.places,nm s = true) ∧ y.places.Nodup) {l:List ByteArray} (e:y.places = l) {a:Int} (h:-1 ≤ a ∧ a < l.length):j6 l (gv y a) true = some a ∧ yo l (gv y a) = a:=by
 subst e;unfold gv;by_cases h1:a = -1
 ·rw [if_pos h1,h1];have hf:AZ y.places b9 = none:=by
   unfold AZ;rw [List.findIdx?_eq_none_iff];intro s hs;have:=hw.minus (hl.1 s hs);simpa using this
  unfold j6 yo;rw [hf];simp
 ·rw [if_neg h1];exact qe hw hl (by omega) true
end Go.AM
