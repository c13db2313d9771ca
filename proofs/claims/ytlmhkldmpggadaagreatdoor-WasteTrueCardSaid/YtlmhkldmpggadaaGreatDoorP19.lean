/- More papers that are false; a number that is put in the place of a paper's. Plain. What is gone in the end, and what was there and is left. Plain. The ends of ranges, by halves. Plain. Proofs that .. -/
import Derived.Test.YtlmhkldmpggadaaGreatDoorP18
import Derived.Lib.Split
import Derived.Lib.AtoiAll
import Derived.Lib.ItoaNum
import Derived.Lib.Join
namespace Go.AM
def bH (y:ab) (i:Nat):Nat:=match y.papers[i]? with
 | none=>i
 | some p=>if p.copy < 0 then i else min i p.copy.toNat
def aK (y:ab) (i:Nat):Int:=match y.papers[i]? with
 | none=>0
 | some p=>p.kind
def im (y:ab) (i:Nat):Nat:=2 * y.places.length + fN (aK y i) y.papers 0 (bH y i)
def jE (y:ab) (wrong:List Nat) (i:Nat) (lo hi:Int):Prop:=
 ik (y.places.length + 2) (aW y (aK y i) y.places.length (ba y wrong (aK y i)) (-aw) aw) (im y i) lo hi
def iw (y:ab) (wrong:List Nat) (k:Int) (lo hi:Int):Prop:=
 ik (y.places.length + 2) (aW y k y.places.length (ba y wrong k) (-aw) aw) (2 * y.places.length + (ba y wrong k).length) lo hi
theorem k8 {nm:ByteArray → Bool} {y:ab} (h:bJ nm y) {i:Nat} (hi:i < y.papers.length):∃ hl:bH y i < y.papers.length,br y.papers[bH y i] (bH y i) = true ∧ y.papers[bH y i].kind = aK y i ∧
  (bH y i = i ∨ (y.papers[bH y i].copy = i ∧ y.papers[i].copy = bH y i)) ∧ y.papers[bH y i].src = y.papers[i].src ∧ y.papers[bH y i].dst = y.papers[i].dst:=by
 have hp:=h.papers i hi;have hk:aK y i = y.papers[i].kind:=by unfold aK; rw [List.getElem?_eq_getElem hi]
 have hld:bH y i = if y.papers[i].copy < 0 then i else min i y.papers[i].copy.toNat:=by unfold bH; rw [List.getElem?_eq_getElem hi]
 rcases hp.copy with hc | ⟨c1,c2,c3,q,hq,c4,c5,c6,c7⟩
 ·have e:bH y i = i:=by rw [hld,if_pos (by omega)]
  simp only [e];exact ⟨hi,by unfold br; rw [decide_eq_true (by omega:y.papers[i].copy < 0)]; rfl,hk.symm, .inl trivial,trivial,trivial⟩
 ·obtain ⟨hcl,hcq⟩:=List.getElem?_eq_some_iff.1 hq;rcases Nat.lt_or_ge i y.papers[i].copy.toNat with hlt | hge
  ·have e:bH y i = i:=by rw [hld,if_neg (by omega)]; omega
   simp only [e];exact ⟨hi,by unfold br; rw [decide_eq_true (by omega:(i:Int) < y.papers[i].copy)]; simp,hk.symm, .inl trivial,trivial,trivial⟩
  ·have e:bH y i = y.papers[i].copy.toNat:=by rw [hld,if_neg (by omega)]; omega
   rw [e];refine ⟨hcl, ?_, ?_, .inr ⟨?_,by omega⟩, ?_, ?_⟩
   ·rw [hcq]; unfold br; rw [c4,decide_eq_true (by omega:(y.papers[i].copy.toNat:Int) < (i:Int))]; simp
   ·rw [hcq,c5,hk]
   ·rw [hcq,c4]
   ·rw [hcq,c6]
   ·rw [hcq,c7]
theorem MI {al:aj → Nat → Int × Int} {k:Int} {l:List aj} {a:Nat} (h:a < l.length) (hk:l[a].kind = k) (hl:br l[a] a = true):fN k l 0 a < (ee al k l 0).length:=by
 have:=D6 (al:=al) l 0 a (Nat.zero_le _) (by omega) (by simpa using hk) (by simpa using hl);exact (List.getElem?_eq_some_iff.1 this).1
theorem xH {nm:ByteArray → Bool} {y:ab} (h:bJ nm y) {i:Nat} (hi:i < y.papers.length) (wrong:List Nat) (lo hi':Int):im y i < (aW y (aK y i) y.places.length (ba y wrong (aK y i)) lo hi').length ∧ fN (aK y i) y.papers 0 (bH y i) < (ba y wrong (aK y i)).length:=by
 obtain ⟨hl,h1,h2,_⟩:=k8 h hi;have:=MI (al:=aZ y wrong) hl h2 h1;refine ⟨?_,this⟩;rw [jq];unfold im;unfold ba at *;omega
/-! ### another number -/
theorem wm (c:ay) (l:List ay) (k a:Int):aB (c :: l) k a = if c.kind = k ∧ c.place = a then some c else aB l k a:=by
 unfold aB;rw [List.find?_cons];by_cases h:c.kind = k ∧ c.place = a
 ·rw [if_pos h]; simp [h.1,h.2]
 ·rw [if_neg h];have:(decide (c.kind = k) && decide (c.place = a)) = false:=by rw [Bool.eq_false_iff]; simpa using h
  rw [this]
theorem De {c:ay} {l:List ay} (h:∀ d ∈ l, ¬ (c.kind = d.kind ∧ c.place = d.place)):aB l c.kind c.place = none:=by
 unfold aB;rw [List.find?_eq_none];intro d hd;have:=h d hd;simp;intro e e2;exact this ⟨e.symm,e2.symm⟩
theorem mJ (x:Nat) (f:Nat → Int):∀ (l r:List aI) (i:Nat),aS x (l ++ r) i f = aS x l i f + aS x r (i + l.length) f
 | [],r,i=>by simp [aS]
 | e :: l,r,i=>by simp only [List.cons_append,aS,mJ x f l,List.length_cons]; rw [show i + 1 + l.length = i + (l.length + 1) by omega]; omega
theorem EH (y:ab) (k:Int) (n:Nat):∀ m a,a < m → (bR y k n m)[2 * a]? = some ⟨n + 1,a,loC (aB y.first k a),hiC (aB y.first k a)⟩ ∧ (bR y k n m)[2 * a + 1]? = some ⟨a,n + 1,loC (aB y.last k a),dh y k a⟩
 | 0,a,h=>by omega
 | m + 1,a,h=>by
  simp only [bR];rcases Nat.lt_or_ge a m with hlt | hge
  ·have ih:=EH y k n m a hlt;rw [List.getElem?_append_left (by rw [cM]; omega),List.getElem?_append_left (by rw [cM]; omega)];exact ih
  ·obtain rfl:a = m:=by omega
   rw [List.getElem?_append_right (by rw [cM]; omega),List.getElem?_append_right (by rw [cM]; omega),cM];simp
def rb (y:ab) (i:Nat):Nat:=fN (aK y i) y.papers 0 (bH y i)
def dP (y:ab) (wrong:List Nat) (i:Nat) (a b:Int):List b8:=(ba y wrong (aK y i)).modify (rb y i) fun j=>⟨j.src,j.dst,a,b⟩
def qV (y:ab) (k:Int) (js:List b8):Prop:=∀ P,1 ≤ P → P < 2 ^ y.places.length → dc (bh P) y.places.length y k js = 0 ∧ bz (bh P) y.places.length y k js = 0
section
variable {nm:ByteArray → Bool} {y:ab} (h:bJ nm y) {wrong:List Nat} {i:Nat} (hi:i < y.papers.length)
include h hi
theorem Az:∃ hc:rb y i < (ba y wrong (aK y i)).length,(ba y wrong (aK y i))[rb y i] = ⟨y.papers[i].src,y.papers[i].dst,(aZ y wrong (y.papers.getD (bH y i) ⟨0,0,0,0,0⟩) (bH y i)).1,(aZ y wrong (y.papers.getD (bH y i) ⟨0,0,0,0,0⟩) (bH y i)).2⟩:=by
 obtain ⟨hl,l1,l2,_,l4,l5⟩:=k8 h hi;have h5:=D6 (al:=aZ y wrong) y.papers 0 (bH y i) (Nat.zero_le _) (by omega) (by simpa using l2) (by simpa using l1);have hc:=(List.getElem?_eq_some_iff.1 h5).1;refine ⟨hc, ?_⟩;have h6:(ba y wrong (aK y i))[rb y i]? = some ((ba y wrong (aK y i))[rb y i]'hc):=List.getElem?_eq_getElem hc;unfold ba rb at h6 ⊢;rw [h5] at h6;rw [← Option.some.inj h6];simp only [Nat.sub_zero,l4,l5,List.getD_eq_getElem?_getD,List.getElem?_eq_getElem hl,Option.getD_some]
theorem Kn {a b:Int} (ha:Big a) (hb:Big b) (hab:a ≤ b):(∀ j ∈ dP y wrong i a b,eS y.places.length j) ∧ (dP y wrong i a b).length ≤ 10:=by
 have _hi:=hi;obtain ⟨h1,h2⟩:=mR h wrong (aK y i);refine ⟨fun j hj=>?_,by unfold dP; rw [List.length_modify]; exact h2⟩;unfold dP at hj;obtain ⟨c,hc,rfl⟩:=List.getElem_of_mem hj;have hc':c < (ba y wrong (aK y i)).length:=by rwa [List.length_modify] at hc
 have e:((ba y wrong (aK y i)).modify (rb y i) fun j=>(⟨j.src,j.dst,a,b⟩:b8))[c] = if rb y i = c then (⟨(ba y wrong (aK y i))[c].src,(ba y wrong (aK y i))[c].dst,a,b⟩:b8) else (ba y wrong (aK y i))[c]:=List.getElem_modify ..;have hok:=h1 _ (List.getElem_mem hc');rw [e];split
 ·exact ⟨hok.src,hok.dst,hok.ne,ha,hb,hab⟩
 ·exact hok
theorem zi {a b:Int} (ha:Big a) (hb:Big b) (hab:a ≤ b):qV y (aK y i) (dP y wrong i a b) ↔ ∃ f,bE (y.places.length + 2) (iF (aW y (aK y i) y.places.length (ba y wrong (aK y i)) (-aw) aw) (im y i) a b) f:=by
 obtain ⟨hc,_⟩:=Az h (wrong:=wrong) hi;obtain ⟨h1,h2⟩:=Kn h (wrong:=wrong) hi ha hb hab;unfold qV;rw [← zO h.ok h.p4.2 h1 h2];unfold dP;rw [FJ hc]; rfl
theorem mw {L H:Int} (hr:jE y wrong i L H) {s:Int × Int} (hs:aZ y wrong (y.papers.getD (bH y i) ⟨0,0,0,0,0⟩) (bH y i) = s) {m:Int} (h1:s.1 ≤ m) (h2:m ≤ s.2):qV y (aK y i) (dP y wrong i s.1 m) ↔ L ≤ m:=by
 obtain ⟨hc,he⟩:=Az h (wrong:=wrong) hi;have hw:=xH h hi wrong (-aw) aw;have hok:=(mR h wrong (aK y i)).1 _ (List.getElem_mem hc);rw [he,hs] at hok;have b1:=hok.lo;have b2:=hok.hi;unfold Big at b1 b2;dsimp only at b1 b2;rw [zi h hi ⟨by omega,by omega⟩ ⟨by omega,by omega⟩ h1];have hget:(aW y (aK y i) y.places.length (ba y wrong (aK y i)) (-aw) aw)[im y i]'hw.1 = cZ y.places.length ((ba y wrong (aK y i))[rb y i]):=by
  have:=rT (y:=y) (k:=aK y i) (n:=y.places.length) (js:=ba y wrong (aK y i)) (lo:=-aw) (hi:=aw) hc;have e2:(aW y (aK y i) y.places.length (ba y wrong (aK y i)) (-aw) aw)[im y i]? = some ((aW y (aK y i) y.places.length (ba y wrong (aK y i)) (-aw) aw)[im y i]'hw.1):=List.getElem?_eq_getElem hw.1;unfold im at e2 ⊢;unfold rb at this ⊢;rw [this] at e2;exact (Option.some.inj e2).symm
 have:=hr.below hw.1 (m:=m) (by rw [hget,he,hs]; exact h2);rw [hget,he,hs] at this;exact this
theorem kH {L H:Int} (hr:jE y wrong i L H) {s:Int × Int} (hs:aZ y wrong (y.papers.getD (bH y i) ⟨0,0,0,0,0⟩) (bH y i) = s) {m:Int} (h1:s.1 ≤ m) (h2:m ≤ s.2):qV y (aK y i) (dP y wrong i m s.2) ↔ m ≤ H:=by
 obtain ⟨hc,he⟩:=Az h (wrong:=wrong) hi;have hw:=xH h hi wrong (-aw) aw;have hok:=(mR h wrong (aK y i)).1 _ (List.getElem_mem hc);rw [he,hs] at hok;have b1:=hok.lo;have b2:=hok.hi;unfold Big at b1 b2;dsimp only at b1 b2;rw [zi h hi ⟨by omega,by omega⟩ ⟨by omega,by omega⟩ h2];have hget:(aW y (aK y i) y.places.length (ba y wrong (aK y i)) (-aw) aw)[im y i]'hw.1 = cZ y.places.length ((ba y wrong (aK y i))[rb y i]):=by
  have:=rT (y:=y) (k:=aK y i) (n:=y.places.length) (js:=ba y wrong (aK y i)) (lo:=-aw) (hi:=aw) hc;have e2:(aW y (aK y i) y.places.length (ba y wrong (aK y i)) (-aw) aw)[im y i]? = some ((aW y (aK y i) y.places.length (ba y wrong (aK y i)) (-aw) aw)[im y i]'hw.1):=List.getElem?_eq_getElem hw.1;unfold im at e2 ⊢;unfold rb at this ⊢;rw [this] at e2;exact (Option.some.inj e2).symm
 have:=hr.PH hw.1 (m:=m) (by rw [hget,he,hs]; exact h1);rw [hget,he,hs] at this;exact this
theorem Cg {L H:Int} (hr:jE y wrong i L H) {s:Int × Int} (hs:aZ y wrong (y.papers.getD (bH y i) ⟨0,0,0,0,0⟩) (bH y i) = s):s.1 ≤ L ∧ L ≤ H ∧ H ≤ s.2:=by
 obtain ⟨hc,he⟩:=Az h (wrong:=wrong) hi;have hw:=xH h hi wrong (-aw) aw;have hget:(aW y (aK y i) y.places.length (ba y wrong (aK y i)) (-aw) aw)[im y i]'hw.1 = cZ y.places.length ((ba y wrong (aK y i))[rb y i]):=by
  have:=rT (y:=y) (k:=aK y i) (n:=y.places.length) (js:=ba y wrong (aK y i)) (lo:=-aw) (hi:=aw) hc;have e2:(aW y (aK y i) y.places.length (ba y wrong (aK y i)) (-aw) aw)[im y i]? = some ((aW y (aK y i) y.places.length (ba y wrong (aK y i)) (-aw) aw)[im y i]'hw.1):=List.getElem?_eq_getElem hw.1;unfold im at e2 ⊢;unfold rb at this ⊢;rw [this] at e2;exact (Option.some.inj e2).symm
 obtain ⟨f,hf,ef⟩:=hr.least;obtain ⟨g,hg,eg⟩:=hr.most;have a1:=hf.inb _ hw.1;have a2:=hg.inb _ hw.1;have a3:=hr.all f hf;rw [hget,he,hs] at a1 a2;unfold cZ at a1 a2;dsimp only at a1 a2;omega
end
/-! ### what is gone -/
def yP (y:ab) (k:Int) (js:List b8) (lo hi:Int):Prop:=∀ P,P < 2 ^ y.places.length → okO (bh P) y.places.length y k js lo hi
theorem KG {y:ab} {k:Int} {js:List b8} {lo hi:Int}:(aW y k y.places.length js lo hi)[2 * y.places.length + js.length]? = some ⟨y.places.length,y.places.length + 1,lo,hi⟩:=by
 unfold aW;rw [List.getElem?_append_right (by simp [cM])];simp [cM]
theorem Kx {y:ab} {k:Int} {js:List b8} {lo hi a b:Int}:iF (aW y k y.places.length js lo hi) (2 * y.places.length + js.length) a b = aW y k y.places.length js a b:=by
 unfold aW iF;rw [qN _ _ _ _ (by simp [cM])];simp [cM]
section
variable {nm:ByteArray → Bool} {y:ab} (h:bJ nm y) {wrong:List Nat} {k:Int}
include h
theorem Bj {lo hi:Int} (hlh:lo ≤ hi) (h1:-1000000000 ≤ lo) (h2:hi ≤ 1000000000) {L H:Int} (_hr:iw y wrong k L H):yP y k (ba y wrong k) lo hi ↔ ∃ f,bE (y.places.length + 2) (aW y k y.places.length (ba y wrong k) (-aw) aw) f ∧ lo ≤ f (2 * y.places.length + (ba y wrong k).length) ∧ f (2 * y.places.length + (ba y wrong k).length) ≤ hi:=by
 obtain ⟨hj,hl⟩:=mR h wrong k;unfold yP;rw [← wD h.ok h.p4.2 hj hl hlh h1 h2];have hw:2 * y.places.length + (ba y wrong k).length < (aW y k y.places.length (ba y wrong k) (-aw) aw).length:=by rw [jq]; omega
 have hg:(aW y k y.places.length (ba y wrong k) (-aw) aw)[2 * y.places.length + (ba y wrong k).length]'hw = ⟨y.places.length,y.places.length + 1, -aw,aw⟩:=by
  have:=KG (y:=y) (k:=k) (js:=ba y wrong k) (lo:=-aw) (hi:=aw);rw [List.getElem?_eq_getElem hw] at this; exact Option.some.inj this
 have hs:aW y k y.places.length (ba y wrong k) lo hi = iF (aW y k y.places.length (ba y wrong k) (-aw) aw) (2 * y.places.length + (ba y wrong k).length) lo hi:=Kx.symm;rw [hs];constructor
 ·rintro ⟨f,hf⟩;exact ⟨f,(fG hw (by rw [hg]; unfold aw; dsimp only; omega) (by rw [hg]; unfold aw; dsimp only; omega) f).1 hf⟩
 ·rintro ⟨f,hf⟩;exact ⟨f,(fG hw (by rw [hg]; unfold aw; dsimp only; omega) (by rw [hg]; unfold aw; dsimp only; omega) f).2 hf⟩
theorem wE {L H:Int} (hr:iw y wrong k L H):-10000000 ≤ L ∧ L ≤ H ∧ H ≤ 10000000:=by
 obtain ⟨hj,hl⟩:=mR h wrong k;have key:∀ f,bE (y.places.length + 2) (aW y k y.places.length (ba y wrong k) (-aw) aw) f → -10000000 ≤ f (2 * y.places.length + (ba y wrong k).length) ∧ f (2 * y.places.length + (ba y wrong k).length) ≤ 10000000:=by
  intro f hf;have hn:=hf.net y.places.length (by omega);unfold aW at hn;rw [mJ,mJ] at hn;have hp:∀ m,m ≤ y.places.length → aS y.places.length (bR y k y.places.length m) 0 f = 0:=by
   intro m
   induction m with
   | zero=>intro _; rfl
   | succ m ih=>
    intro hm;simp only [bR,mJ,ih (by omega),aS];have c1:¬ m = y.places.length:=by omega
    have c2:¬ y.places.length + 1 = y.places.length:=by omega
    simp [c1]
  rw [hp _ (Nat.le_refl _)] at hn;simp only [List.length_append,List.length_map,cM,Nat.zero_add,aS] at hn;rw [if_neg (by omega:¬ y.places.length + 1 = y.places.length)] at hn;simp only [if_true] at hn;have hb:∀ (js:List b8) (b:Nat),(∀ j ∈ js,eS y.places.length j) → (∀ c (hc:c < js.length),0 ≤ f (b + c) ∧ f (b + c) ≤ 1000000) → - (js.length * 1000000:Int) ≤ aS y.places.length (js.map (cZ y.places.length)) b f ∧ aS y.places.length (js.map (cZ y.places.length)) b f ≤ js.length * 1000000:=by
   intro js
   induction js with
   | nil=>intro b _ _; simp [aS]
   | cons j r ih=>
    intro b hjo hf0;have h0:=hf0 0 (by simp);rw [Nat.add_zero] at h0;have ih:=ih (b + 1) (fun x hx=>hjo x (by simp [hx])) fun c hc=>by
     have:=hf0 (c + 1) (by simpa using hc);rw [show b + (c + 1) = b + 1 + c by omega] at this;exact this
    simp only [List.map_cons,aS,List.length_cons]
    split <;> split <;> omega
  have hbb:=hb (ba y wrong k) (2 * y.places.length) hj fun c hc=>by
   have hi2:2 * y.places.length + c < (aW y k y.places.length (ba y wrong k) (-aw) aw).length:=by rw [jq]; omega
   have:=hf.inb _ hi2;have e:=rT (y:=y) (k:=k) (n:=y.places.length) (js:=ba y wrong k) (lo:=-aw) (hi:=aw) hc;rw [List.getElem?_eq_getElem hi2] at e;rw [Option.some.inj e] at this;have ho:=hj _ (List.getElem_mem hc);have o1:=ho.lo;have o2:=ho.hi;unfold Big at o1 o2;unfold cZ at this;dsimp only at this;omega
  omega
 obtain ⟨f,hf,ef⟩:=hr.least;obtain ⟨g,hg,eg⟩:=hr.most;have a1:=key f hf;have a2:=key g hg;have a3:=hr.all f hf;omega
theorem oB {L H:Int} (hr:iw y wrong k L H) {m:Int} (h1:-10000000 ≤ m) (h2:m ≤ 10000000):yP y k (ba y wrong k) (-10000000) m ↔ L ≤ m:=by
 rw [Bj h h1 (by omega) (by omega) hr];have hf:=wE h hr;constructor
 ·rintro ⟨f,hf,a,b⟩;have:=hr.all f hf; omega
 ·intro hm;obtain ⟨f,hf',ef⟩:=hr.least;exact ⟨f,hf',by omega,by omega⟩
theorem lZ {L H:Int} (hr:iw y wrong k L H) {m:Int} (h1:-10000000 ≤ m) (h2:m ≤ 10000000):yP y k (ba y wrong k) m 10000000 ↔ m ≤ H:=by
 rw [Bj h h2 (by omega) (by omega) hr];have hf:=wE h hr;constructor
 ·rintro ⟨f,hf,a,b⟩;have:=hr.all f hf; omega
 ·intro hm;obtain ⟨f,hf',ef⟩:=hr.most;exact ⟨f,hf',by omega,by omega⟩
end
def Fa (y:ab) (wrong:List Nat) (p:bt):Bool:=
 if p.paper ≠ -1 then (decide (p.kind = 0) && decide (p.places = 0) && decide (p.over = 0)) && inI p.paper 0 (y.papers.length - 1) && cD y wrong p.paper.toNat
 else if inI p.kind 0 (y.kinds.length - 1) = false ∨ inI p.places 1 (2 ^ y.places.length - 1) = false then false
 else (decide (0 < p.over) && decide (p.over = lS y wrong p.kind p.places.toNat)) || (decide (p.over < 0) && decide (p.over = fH y wrong p.kind p.places.toNat))
def cutAt (b:UInt8):List UInt8 → List (List UInt8)
 | []=>[[]]
 | c :: r=>if c = b then [] :: cutAt b r else match cutAt b r with
  | []=>[[c]]
  | p :: q=>(c :: p) :: q
theorem jr (b:UInt8):∀ l,cutAt b l ≠ []
 | []=>by simp [cutAt]
 | c :: r=>by
  simp only [cutAt];split
  ·simp
  ·split <;> simp
def bB (b:UInt8):List (List UInt8) → List UInt8
 | []=>[]
 | [p]=>p
 | p :: q :: r=>p ++ b :: bB b (q :: r)
theorem E7 (b:UInt8):∀ l,Lib.join l [b] = bB b l
 | []=>rfl
 | [p]=>by simp [Lib.join,bB,List.intercalate,List.intersperse]
 | p :: q :: r=>by
  have:=E7 b (q :: r);unfold Lib.join List.intercalate at this ⊢;simp only [bB] at this ⊢;rw [← this]; simp [List.intersperse]
theorem gR (b:UInt8):∀ (p r:List UInt8),b ∉ p → cutAt b (p ++ b :: r) = p :: cutAt b r
 | [],r,_=>by simp [cutAt]
 | c :: p,r,h=>by
  have hc:c ≠ b:=fun e=>h (by simp [e]);have ih:=gR b p r fun e=>h (by simp [e]);simp only [List.cons_append,cutAt,if_neg hc,ih]
theorem iO (b:UInt8):∀ (p:List UInt8),b ∉ p → cutAt b p = [p]
 | [],_=>rfl
 | c :: p,h=>by
  have hc:c ≠ b:=fun e=>h (by simp [e]);have ih:=iO b p fun e=>h (by simp [e]);simp only [cutAt,if_neg hc,ih]
theorem rz (b:UInt8):∀ {l:List (List UInt8)},l ≠ [] → (∀ p ∈ l,b ∉ p) → cutAt b (bB b l) = l
 | [],h,_=>absurd rfl h
 | [p],_,h=>iO b p (h p (by simp))
 | p :: q :: r,_,h=>by
  simp only [bB];rw [gR b p _ (h p (by simp)),rz b (by simp) fun x hx=>h x (by simp [hx])]
theorem uU (b:UInt8) (p:List UInt8) {q:List (List UInt8)} (h:q ≠ []):bB b (p :: q) = p ++ b :: bB b q:=by
 cases q with
 | nil=>exact absurd rfl h
 | cons a r=>rfl
theorem mX (b:UInt8):∀ (l:List UInt8),bB b (cutAt b l) = l
 | []=>rfl
 | c :: r=>by
  have ih:=mX b r;have hne:=jr b r;simp only [cutAt];split
  ·rename_i h;rw [uU b [] hne,ih,h]; rfl
  ·cases hq:cutAt b r with
   | nil=>exact absurd hq hne
   | cons p q=>
    rw [hq] at ih
    cases q with
    | nil=>simp only [bB] at ih ⊢; rw [ih]
    | cons a q=>simp only [bB,List.cons_append] at ih ⊢; rw [ih]
theorem BU (b:UInt8):∀ (l:List UInt8), ∀ p ∈ cutAt b l,b ∉ p
 | [],p,h=>by simp [cutAt] at h; subst h; simp
 | c :: r,p,h=>by
  have ih:=BU b r;have hne:=jr b r;simp only [cutAt] at h
  split at h
  ·rcases List.mem_cons.1 h with rfl | h
   ·simp
   ·exact ih p h
  ·rename_i hc
   cases hq:cutAt b r with
   | nil=>exact absurd hq hne
   | cons x q=>
    rw [hq] at h ih;rcases List.mem_cons.1 h with rfl | h
    ·intro e;rcases List.mem_cons.1 e with e | e
     ·exact hc e.symm
     ·exact ih x (by simp) e
    ·exact ih p (by simp [h])
/-! ### a line of a text -/
theorem nc (b:UInt8):∀ (l:List UInt8),(b ∉ l ∧ Lib.index l [b] = -1) ∨ ∃ p r,l = p ++ b :: r ∧ b ∉ p ∧ Lib.index l [b] = p.length
 | []=>.inl ⟨by simp,by simp [Lib.index]⟩
 | c :: r=>by
  by_cases h:c = b
  ·subst h;exact .inr ⟨[],r,rfl,by simp,by simp [Lib.index,List.isPrefixOf]⟩
  ·have hp:List.isPrefixOf [b] (c :: r) = false:=by
    simp [List.isPrefixOf]; exact fun e=>h e.symm
   rcases nc b r with ⟨h1,h2⟩ | ⟨p,q,h1,h2,h3⟩
   ·refine .inl ⟨by simp [h1]; exact fun e=>h e.symm, ?_⟩;simp [Lib.index,hp,h2]
   ·refine .inr ⟨c :: p,q,by rw [h1]; rfl,by simp [h2]; exact fun e=>h e.symm, ?_⟩;rw [Lib.index,hp,h3];have:((p.length:Int) == -1) = false:=by simp
    simp [this]
theorem Hx (b:UInt8) (l:List UInt8):Lib.cut l [b] = match cutAt b l with
  | []=>(l,[],false)
  | [_]=>(l,[],false)
  | p :: q=>(p,bB b q,true):=by
 rcases nc b l with ⟨h1,h2⟩ | ⟨p,r,h1,h2,h3⟩
 ·rw [iO b l h1];unfold Lib.cut;rw [h2]; simp
 ·have h4:cutAt b l = p :: cutAt b r:=by rw [h1]; exact gR b p r h2
  rw [h4];unfold Lib.cut;rw [h3,if_pos (by omega)]
  cases hq:cutAt b r with
  | nil=>exact absurd hq (jr b r)
  | cons a q=>
   simp only;rw [← hq,mX,h1];simp
theorem uS (b:UInt8):∀ (k:Nat) (l:List UInt8),l.count b ≤ k → Lib.splitK [b] 0 k l = cutAt b l
 | 0,l,h=>by
  have:b ∉ l:=by rw [← List.count_eq_zero]; omega
  rw [iO b l this]; rfl
 | k + 1,l,h=>by
  unfold Lib.splitK;rcases nc b l with ⟨h1,h2⟩ | ⟨p,r,h1,h2,h3⟩
  ·rw [h2,iO b l h1]; rfl
  ·have h4:cutAt b l = p :: cutAt b r:=by rw [h1]; exact gR b p r h2
   rw [h3,if_neg (by simp),h4];have h5:l.count b = p.count b + (r.count b + 1):=by rw [h1,List.count_append,List.count_cons_self]
   have e:(((p.length:Int)).toNat + 0) = p.length:=by simp
   rw [e,show ((p.length:Int).toNat + [b].length) = p.length + 1 by simp];have e1:l.take p.length = p:=by rw [h1]; simp
   have e2:l.drop (p.length + 1) = r:=by rw [h1]; simp
   rw [e1,e2,uS b k r (by omega)]
theorem n0 (b:UInt8):∀ (k:Nat) (l:List UInt8),l.length < k → Lib.countFrom [b] k l = l.count b
 | 0,l,h=>by omega
 | k + 1,l,h=>by
  unfold Lib.countFrom;rcases nc b l with ⟨h1,h2⟩ | ⟨p,r,h1,h2,h3⟩
  ·rw [h2]; simp; exact (List.count_eq_zero.2 h1).symm
  ·rw [h3,if_neg (by simp),show ((p.length:Int).toNat + [b].length) = p.length + 1 by simp];have e2:l.drop (p.length + 1) = r:=by rw [h1]; simp
   have e3:l.length = p.length + (r.length + 1):=by rw [h1]; simp
   rw [e2,n0 b k r (by omega),h1,List.count_append,List.count_cons_self,List.count_eq_zero.2 h2]; omega
/-! ### numerals -/
def sA (c:UInt8):Prop:=48 ≤ c.toNat ∧ c.toNat ≤ 57
def nO (a:Nat) (l:List UInt8):Nat:=l.foldl (fun a c=>a * 10 + (c.toNat - 48)) a
theorem xl {d:Nat} (h:d < 10):(UInt8.ofNat (48 + d)).toNat = 48 + d:=by
 rw [UInt8.toNat_ofNat']; omega
theorem lH (u:Nat):∀ c ∈ Lib.decDigits u,sA c:=by
 induction u using Nat.strongRecOn with
 | _ u ih=>
  intro c hc;rw [Lib.decDigits] at hc
  split at hc
  ·rw [List.mem_singleton.1 hc];have:=xl (d:=u) (by omega);unfold sA; omega
  ·rcases List.mem_append.1 hc with h | h
   ·exact ih (u / 10) (by omega) c h
   ·rw [List.mem_singleton.1 h];have:=xl (d:=u % 10) (by omega);unfold sA; omega
theorem qo (u:Nat):nO 0 (Lib.decDigits u) = u:=by
 induction u using Nat.strongRecOn with
 | _ u ih=>
  rw [Lib.decDigits];split
  ·rename_i h;simp only [nO,List.foldl_cons,List.foldl_nil,xl h]; omega
  ·have:=ih (u / 10) (by omega);unfold nO at this ⊢;rw [List.foldl_append,this,List.foldl_cons,List.foldl_nil,xl (by omega)]; omega
theorem tj (u:Nat):Lib.decDigits u ≠ []:=by
 rw [Lib.decDigits]; split <;> simp
theorem E6:∀ (l:List UInt8) (a:Nat),a ≤ nO a l
 | [],a=>Nat.le_refl _
 | c :: l,a=>by
  have:=E6 l (a * 10 + (c.toNat - 48));simp only [nO,List.foldl_cons] at this ⊢;omega
theorem qn:∀ (l:List UInt8) (a:Nat),(∀ c ∈ l,sA c) → nO a l < 9223372036854775808 → Lib.parseUint10 a l = .ok (nO a l)
 | [],a,_,_=>rfl
 | c :: l,a,h,hv=>by
  have h1:48 ≤ c.toNat ∧ c.toNat ≤ 57:=h c (by simp);have h2:=E6 l (a * 10 + (c.toNat - 48));simp only [nO,List.foldl_cons] at hv h2;simp only [Lib.parseUint10];rw [if_pos h1,if_neg (by omega),if_neg (by omega),qn l _ (fun d hd=>h d (by simp [hd])) hv];rfl
theorem rK {n:Int} (h:0 ≤ n):Lib.itoa n = Lib.decDigits n.toNat:=by unfold Lib.itoa; rw [if_neg (by omega)]
theorem Gy {n:Int} (h:0 ≤ n) (h2:n ≤ 1000000000):Lib.atoiAll (Lib.itoa n) = .ok n:=by
 rw [rK h];have hd:=lH n.toNat;have hv:=qo n.toNat
 cases hl:Lib.decDigits n.toNat with
 | nil=>exact absurd hl (tj _)
 | cons c r=>
  rw [hl] at hd hv;have hc:=hd c (by simp);unfold sA at hc;unfold Lib.atoiAll;dsimp only;rw [if_neg (by omega)];unfold Lib.parseMag;rw [if_neg (by simp),qn (c :: r) 0 hd (by omega),hv];simp only;rw [if_neg (by omega),if_neg (by omega),if_neg (by omega)];congr 1; omega
def j8 (l:List UInt8):Int:=
 if ¬ (1 ≤ l.length ∧ l.length ≤ 9) ∨ (1 < l.length ∧ l.head? = some 48) then -1 else if l.all (fun c=>decide (48 ≤ c.toNat ∧ c.toNat ≤ 57)) then (nO 0 l:Int) else -1
theorem xb {u k:Nat} (hk:1 ≤ k) (h:u < 10 ^ k):Lib.nDigits u ≤ k:=by
 induction k generalizing u with
 | zero=>omega
 | succ k ih=>
  by_cases h10:u < 10
  ·rw [Lib.nDigits_small h10]; omega
  ·rw [Lib.nDigits_big h10];rcases Nat.eq_zero_or_pos k with h0 | h0
   ·subst h0; simp at h; omega
   ·have:=ih (u:=u / 10) h0 (by rw [Nat.pow_succ] at h; omega);omega
theorem xf (u:Nat) (h:10 ≤ u):(Lib.decDigits u).head? ≠ some 48:=by
 induction u using Nat.strongRecOn with
 | _ u ih=>
  rw [Lib.decDigits,dif_neg (by omega)];by_cases h1:u / 10 < 10
  ·rw [Lib.decDigits,dif_pos h1];simp only [List.singleton_append,List.head?_cons,ne_eq,Option.some.injEq];intro e;have:=congrArg UInt8.toNat e;rw [xl h1] at this;simp at this;omega
  ·have:=ih (u / 10) (by omega) (by omega)
   cases hl:Lib.decDigits (u / 10) with
   | nil=>exact absurd hl (tj _)
   | cons c r=>rw [hl] at this; simpa using this
theorem GM {n:Int} (h:0 ≤ n) (h2:n < 1000000000):j8 (Lib.itoa n) = n:=by
 rw [rK h];have hd:=lH n.toNat;have hv:=qo n.toNat;have hlen:=Lib.decDigits_length n.toNat;have h1:=xb (u:=n.toNat) (k:=9) (by decide) (by omega);have h3:=Lib.nDigits_pos n.toNat;unfold j8;rw [if_neg,if_pos,hv]
 ·omega
 ·rw [List.all_eq_true]; intro c hc; exact decide_eq_true (hd c hc)
 ·rintro (h4 | ⟨h4,h5⟩)
  ·omega
  ·by_cases h10:n.toNat < 10
   ·rw [Lib.nDigits_small h10] at hlen; omega
   ·exact xf n.toNat (by omega) h5
theorem oZ {n:Int} (h:0 ≤ n) {k:Nat} (hk:1 ≤ k) (h2:n < 10 ^ k):(Lib.itoa n).length ≤ k:=by
 rw [rK h,Lib.decDigits_length];refine xb hk ?_;have:((n.toNat:Nat):Int) < ((10 ^ k:Nat):Int):=by
  rw [Int.toNat_of_nonneg h]; push_cast; exact h2
 exact Int.ofNat_lt.1 this
theorem tt {n:Int} (h:0 ≤ n) {b:UInt8} (hb:b.toNat < 48):b ∉ Lib.itoa n:=by
 rw [rK h];intro hm;have:=lH _ b hm;unfold sA at this; omega
abbrev WdW:=List UInt8
def dQ (b:ByteArray):WdW:=b.data.toList
def ry (w:WdW):ByteArray:=⟨w.toArray⟩
theorem vL (b:ByteArray):ry (dQ b) = b:=by simp [dQ,ry]
theorem Ib {a b:ByteArray} (h:dQ a = dQ b):a = b:=by rw [← vL a,h,vL]
theorem pG:∀ l:List ByteArray,(l.map dQ).map ry = l
 | []=>rfl
 | a :: l=>by rw [List.map_cons,List.map_cons,vL,pG l]
def cy (r:List WdW):WdW:=bB 32 r ++ [10]
def cT:WdW:=[107,105,110,100,115]
def b6:WdW:=[112,108,97,99,101,115]
def cd:WdW:=[102,105,114,115,116]
def dO:WdW:=[112,97,112,101,114]
def dC:WdW:=[108,97,115,116]
def bU:WdW:=[45]
def nameAt (l:List ByteArray) (i:Int):WdW:=dQ (l.getD i.toNat .empty)
def iA (y:ab) (a:Int):WdW:=if a = -1 then bU else nameAt y.places a
def aR (w:WdW) (y:ab) (c:ay):List WdW:=[w,nameAt y.kinds c.kind,nameAt y.places c.place,Lib.itoa c.lo,Lib.itoa c.hi]
def bZ (y:ab) (p:aj):List WdW:=[dO,nameAt y.kinds p.kind,iA y p.src,iA y p.dst,Lib.itoa p.kilos,if 0 ≤ p.copy then Lib.itoa p.copy else bU]
def ql (y:ab):List (List WdW):=(cT :: y.kinds.map dQ) :: (b6 :: y.places.map dQ) :: (y.first.map (aR cd y) ++ y.papers.map (bZ y) ++ y.last.map (aR dC y))
def dS (y:ab):WdW:=(ql y).flatMap cy
def eE:ab:=⟨[],[],[],[],[]⟩
/-! ### the program -/
def vh (l:List ByteArray) (w:WdW):Option Nat:=l.findIdx? fun s=>decide (dQ s = w)
def kU (l:List ByteArray) (w:WdW) (minus:Bool):Option Int:=match vh l w with
 | some i=>some i
 | none=>if minus = true ∧ w = bU then some (-1) else none
def lD (w:WdW) (minus:Bool):Option Int:=if minus = true ∧ w = bU then some (-1) else match Lib.atoiAll w with
 | .ok v=>if 0 ≤ v then some v else none
 | _=>none
def iP (y:ab):List WdW → Option ay
 | [_,k,p,a,b]=>match kU y.kinds k false,kU y.places p false,lD a false,lD b false with
  | some k,some p,some a,some b=>some ⟨k,p,a,b⟩
  | _,_,_,_=>none
 | _=>none
def rr (y:ab):List WdW → Option aj
 | [_,k,a,b,n,c]=>match kU y.kinds k false,kU y.places a true,kU y.places b true,lD n false,lD c true with
  | some k,some a,some b,some n,some c=>some ⟨k,a,b,n,c⟩
  | _,_,_,_,_=>none
 | _=>none
def fB (r:List WdW) (y:ab):Option ab:=
 if r.head? = some cT then some { y with kinds:=r.tail.map ry }
 else if r.head? = some b6 then some { y with places:=r.tail.map ry }
 else if r.head? = some cd then (iP y r).map fun c=>{ y with first:=y.first ++ [c] }
 else if r.head? = some dO then (rr y r).map fun p=>{ y with papers:=y.papers ++ [p] }
 else if r.head? = some dC then (iP y r).map fun c=>{ y with last:=y.last ++ [c] }
 else none
/-! ### the document -/
def iG (l:List ByteArray) (w:WdW):Int:=if w = bU then -1 else match vh l w with
 | some i=>i
 | none=>-2
def Ds (y:ab):List WdW → ay
 | [_,k,p,a,b]=>⟨iG y.kinds k,iG y.places p,j8 a,j8 b⟩
 | _=>⟨0,0,0,0⟩
def Hj (y:ab):List WdW → aj
 | [_,k,a,b,n,c]=>⟨iG y.kinds k,iG y.places a,iG y.places b,j8 n,if c = bU then -1 else j8 c⟩
 | _=>⟨0,0,0,0,0⟩
def jA (step:List WdW → ab → Option ab) (last:WdW → Bool):List WdW → ab → Option ab
 | [],_=>none
 | [l],y=>if last l then some y else none
 | r :: q :: rs,y=>match step (cutAt 32 r) y with
  | none=>none
  | some y'=>jA step last (q :: rs) y'
def rZ (nm:ByteArray → Bool) (step:List WdW → ab → Option ab) (last:WdW → Bool) (s:WdW):Option ab:=match jA step last (cutAt 10 s) eE with
 | none=>none
 | some y=>if decide ((cN nm y).2.2 = 0) && decide (dS y = s) then some y else none
def ru (nm:ByteArray → Bool) (s:WdW):Option ab:=rZ nm fB (fun l=>decide (l = [])) s
/-! ### a text is read az it was -/
structure kq (nm:ByteArray → Bool):Prop where
 byte:∀ s,nm s = true → (∀ c ∈ dQ s,48 ≤ c.toNat) ∧ dQ s ≠ [] ∧ (dQ s).length ≤ 16
theorem kq.no {nm:ByteArray → Bool} (h:kq nm) {s:ByteArray} (hs:nm s = true) {b:UInt8} (hb:b.toNat < 48):b ∉ dQ s:=fun hm=>by
 have:=(h.byte s hs).1 b hm; omega
theorem kq.minus {nm:ByteArray → Bool} (h:kq nm) {s:ByteArray} (hs:nm s = true):dQ s ≠ bU:=fun e=>by
 have:=(h.byte s hs).1 45 (by rw [e]; simp [bU]);exact absurd this (by decide)
theorem A2 {b:UInt8}:∀ {l:List WdW},(∀ w ∈ l,b ∉ w) → b ≠ 32 → b ∉ bB 32 l
 | [],_,_=>by simp [bB]
 | [p],h,_=>h p (by simp)
 | p :: q :: r,h,hb=>by
  have ih:=A2 (l:=q :: r) (fun w hw=>h w (by simp [hw])) hb;simp only [bB,List.mem_append,List.mem_cons,not_or];exact ⟨h p (by simp),hb,ih⟩
theorem zm:∀ (rs:List (List WdW)),(∀ r ∈ rs,(10:UInt8) ∉ bB 32 r) → cutAt 10 (rs.flatMap cy) = rs.map (bB 32) ++ [[]]
 | [],_=>rfl
 | r :: rs,h=>by
  have ih:=zm rs fun x hx=>h x (by simp [hx]);have e:(r :: rs).flatMap cy = bB 32 r ++ 10 :: rs.flatMap cy:=by simp [cy]
  rw [e,gR 10 _ _ (h r (by simp)),ih]; rfl
theorem ze {step:List WdW → ab → Option ab} {last:WdW → Bool} (hl:last [] = true):∀ (rs:List (List WdW)) (y:ab),(∀ r ∈ rs,cutAt 32 (bB 32 r) = r) → jA step last (rs.map (bB 32) ++ [[]]) y = rs.foldlM (fun y r=>step r y) y
 | [],y,_=>by simp [jA,hl]
 | r :: rs,y,h=>by
  have h1:=h r (by simp);have ih:=fun y=>ze (step:=step) hl rs y fun x hx=>h x (by simp [hx]);simp only [List.map_cons,List.cons_append,List.foldlM_cons]
  cases hq:rs.map (bB 32) ++ [[]] with
  | nil=>simp at hq
  | cons a t=>
   simp only [hq] at ih;simp only [jA,h1]
   cases step r y with
   | none=>rfl
   | some y'=>exact ih y'
theorem Gm {l:List ByteArray} (hn:l.Nodup) {i:Nat} (hi:i < l.length):vh l (dQ l[i]) = some i:=by
 unfold vh;rw [List.findIdx?_eq_some_iff_getElem];refine ⟨hi,by simp,fun j hj=>?_⟩;simp only [decide_eq_true_eq];intro e;have e2:=Ib e;have:=List.pairwise_iff_getElem.1 (List.nodup_iff_pairwise_ne.1 hn) j i (by omega) hi hj;exact this e2
theorem gD {l:List ByteArray} {i:Int} (h:0 ≤ i ∧ i < l.length):∃ hi:i.toNat < l.length,nameAt l i = dQ l[i.toNat]:=by
 refine ⟨by omega, ?_⟩;unfold nameAt;rw [List.getD_eq_getElem?_getD,List.getElem?_eq_getElem (by omega)]; rfl
theorem sM {nm:ByteArray → Bool} (hw:kq nm) {l:List ByteArray} (hl:(∀ s ∈ l,nm s = true) ∧ l.Nodup) {i:Int} (h:0 ≤ i ∧ i < l.length) (m:Bool):kU l (nameAt l i) m = some i ∧ iG l (nameAt l i) = i:=by
 obtain ⟨hi,e⟩:=gD h;have hf:=Gm hl.2 hi;have hm:=hw.minus (hl.1 _ (List.getElem_mem hi));rw [e];unfold kU iG;rw [hf,if_neg hm];dsimp only;exact ⟨by congr 1; omega,by omega⟩
theorem xm {n:Int} (h:0 ≤ n):Lib.itoa n ≠ bU:=fun e=>by
 have:=tt h (b:=45) (by decide);rw [e] at this;exact this (by simp [bU])
theorem sK {n:Int} (h:0 ≤ n) (h2:n ≤ 1000000) (m:Bool):lD (Lib.itoa n) m = some n ∧ j8 (Lib.itoa n) = n:=by
 refine ⟨?_,GM h (by omega)⟩;unfold lD;rw [if_neg (fun e=>xm h e.2),Gy h (by omega)];dsimp only;rw [if_pos h]
theorem yN {nm:ByteArray → Bool} (hw:kq nm) {y:ab} (hl:(∀ s ∈ y.places,nm s = true) ∧ y.places.Nodup) {l:List ByteArray} (e:y.places = l) {a:Int} (h:-1 ≤ a ∧ a < l.length):kU l (iA y a) true = some a ∧ iG l (iA y a) = a:=by
 subst e;unfold iA;by_cases h1:a = -1
 ·rw [if_pos h1,h1];have hf:vh y.places bU = none:=by
   unfold vh;rw [List.findIdx?_eq_none_iff];intro s hs;have:=hw.minus (hl.1 s hs);simpa using this
  unfold kU iG;rw [hf];simp
 ·rw [if_neg h1];exact sM hw hl (by omega) true
end Go.AM
