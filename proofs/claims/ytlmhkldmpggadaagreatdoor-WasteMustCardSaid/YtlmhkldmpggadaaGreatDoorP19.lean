/- More papers that are false; a number that is put in the place of a paper's. Plain. What is gone in the end, and what was there and is left. Plain. The ends of ranges, by halves. Plain. Proofs that .. -/
import Derived.Test.YtlmhkldmpggadaaGreatDoorP18
import Derived.Lib.Split
import Derived.Lib.AtoiAll
import Derived.Lib.ItoaNum
import Derived.Lib.Join
namespace Go.AM
def br (y:ab) (i:Nat):Nat:=match y.papers[i]? with
 | none=>i
 | some p=>if p.copy < 0 then i else min i p.copy.toNat
def aG (y:ab) (i:Nat):Int:=match y.papers[i]? with
 | none=>0
 | some p=>p.kind
def fU (y:ab) (i:Nat):Nat:=2 * y.places.length + e8 (aG y i) y.papers 0 (br y i)
def jY (y:ab) (wrong:List Nat) (i:Nat) (lo hi:Int):Prop:=
 ic (y.places.length + 2) (aV y (aG y i) y.places.length (ba y wrong (aG y i)) (-aq) aq) (fU y i) lo hi
def gG (y:ab) (wrong:List Nat) (k:Int) (lo hi:Int):Prop:=
 ic (y.places.length + 2) (aV y k y.places.length (ba y wrong k) (-aq) aq) (2 * y.places.length + (ba y wrong k).length) lo hi
theorem ni {nm:ByteArray → Bool} {y:ab} (h:bS nm y) {i:Nat} (hi:i < y.papers.length):∃ hl:br y i < y.papers.length,bY y.papers[br y i] (br y i) = true ∧ y.papers[br y i].kind = aG y i ∧
  (br y i = i ∨ (y.papers[br y i].copy = i ∧ y.papers[i].copy = br y i)) ∧ y.papers[br y i].src = y.papers[i].src ∧ y.papers[br y i].dst = y.papers[i].dst:=by
 have hp:=h.papers i hi;have hk:aG y i = y.papers[i].kind:=by unfold aG; rw [List.getElem?_eq_getElem hi]
 have hld:br y i = if y.papers[i].copy < 0 then i else min i y.papers[i].copy.toNat:=by unfold br; rw [List.getElem?_eq_getElem hi]
 rcases hp.copy with hc | ⟨c1,c2,c3,q,hq,c4,c5,c6,c7⟩
 ·have e:br y i = i:=by rw [hld,if_pos (by omega)]
  simp only [e];exact ⟨hi,by unfold bY; rw [decide_eq_true (by omega:y.papers[i].copy < 0)]; rfl,hk.symm, .inl trivial,trivial,trivial⟩
 ·obtain ⟨hcl,hcq⟩:=List.getElem?_eq_some_iff.1 hq;rcases Nat.lt_or_ge i y.papers[i].copy.toNat with hlt | hge
  ·have e:br y i = i:=by rw [hld,if_neg (by omega)]; omega
   simp only [e];exact ⟨hi,by unfold bY; rw [decide_eq_true (by omega:(i:Int) < y.papers[i].copy)]; simp,hk.symm, .inl trivial,trivial,trivial⟩
  ·have e:br y i = y.papers[i].copy.toNat:=by rw [hld,if_neg (by omega)]; omega
   rw [e];refine ⟨hcl, ?_, ?_, .inr ⟨?_,by omega⟩, ?_, ?_⟩
   ·rw [hcq]; unfold bY; rw [c4,decide_eq_true (by omega:(y.papers[i].copy.toNat:Int) < (i:Int))]; simp
   ·rw [hcq,c5,hk]
   ·rw [hcq,c4]
   ·rw [hcq,c6]
   ·rw [hcq,c7]
theorem IT {al:ak → Nat → Int × Int} {k:Int} {l:List ak} {a:Nat} (h:a < l.length) (hk:l[a].kind = k) (hl:bY l[a] a = true):e8 k l 0 a < (fX al k l 0).length:=by
 have:=Bs (al:=al) l 0 a (Nat.zero_le _) (by omega) (by simpa using hk) (by simpa using hl);exact (List.getElem?_eq_some_iff.1 this).1
theorem tn {nm:ByteArray → Bool} {y:ab} (h:bS nm y) {i:Nat} (hi:i < y.papers.length) (wrong:List Nat) (lo hi':Int):fU y i < (aV y (aG y i) y.places.length (ba y wrong (aG y i)) lo hi').length ∧ e8 (aG y i) y.papers 0 (br y i) < (ba y wrong (aG y i)).length:=by
 obtain ⟨hl,h1,h2,_⟩:=ni h hi;have:=IT (al:=bo y wrong) hl h2 h1;refine ⟨?_,this⟩;rw [iZ];unfold fU;unfold ba at *;omega
/-! ### another number -/
theorem qw (x:Nat) (f:Nat → Int):∀ (l r:List aA) (i:Nat),aU x (l ++ r) i f = aU x l i f + aU x r (i + l.length) f
 | [],r,i=>by simp [aU]
 | e :: l,r,i=>by simp only [List.cons_append,aU,qw x f l,List.length_cons]; rw [show i + 1 + l.length = i + (l.length + 1) by omega]; omega
def qc (y:ab) (i:Nat):Nat:=e8 (aG y i) y.papers 0 (br y i)
def eW (y:ab) (wrong:List Nat) (i:Nat) (a b:Int):List b7:=(ba y wrong (aG y i)).modify (qc y i) fun j=>⟨j.src,j.dst,a,b⟩
def rh (y:ab) (k:Int) (js:List b7):Prop:=∀ P,1 ≤ P → P < 2 ^ y.places.length → fF (b6 P) y.places.length y k js = 0 ∧ cy (b6 P) y.places.length y k js = 0
section
variable {nm:ByteArray → Bool} {y:ab} (h:bS nm y) {wrong:List Nat} {i:Nat} (hi:i < y.papers.length)
include h hi
theorem xM:∃ hc:qc y i < (ba y wrong (aG y i)).length,(ba y wrong (aG y i))[qc y i] = ⟨y.papers[i].src,y.papers[i].dst,(bo y wrong (y.papers.getD (br y i) ⟨0,0,0,0,0⟩) (br y i)).1,(bo y wrong (y.papers.getD (br y i) ⟨0,0,0,0,0⟩) (br y i)).2⟩:=by
 obtain ⟨hl,l1,l2,_,l4,l5⟩:=ni h hi;have h5:=Bs (al:=bo y wrong) y.papers 0 (br y i) (Nat.zero_le _) (by omega) (by simpa using l2) (by simpa using l1);have hc:=(List.getElem?_eq_some_iff.1 h5).1;refine ⟨hc, ?_⟩;have h6:(ba y wrong (aG y i))[qc y i]? = some ((ba y wrong (aG y i))[qc y i]'hc):=List.getElem?_eq_getElem hc;unfold ba qc at h6 ⊢;rw [h5] at h6;rw [← Option.some.inj h6];simp only [Nat.sub_zero,l4,l5,List.getD_eq_getElem?_getD,List.getElem?_eq_getElem hl,Option.getD_some]
theorem Gp {a b:Int} (ha:Big a) (hb:Big b) (hab:a ≤ b):(∀ j ∈ eW y wrong i a b,eV y.places.length j) ∧ (eW y wrong i a b).length ≤ 10:=by
 have _hi:=hi;obtain ⟨h1,h2⟩:=oe h wrong (aG y i);refine ⟨fun j hj=>?_,by unfold eW; rw [List.length_modify]; exact h2⟩;unfold eW at hj;obtain ⟨c,hc,rfl⟩:=List.getElem_of_mem hj;have hc':c < (ba y wrong (aG y i)).length:=by rwa [List.length_modify] at hc
 have e:((ba y wrong (aG y i)).modify (qc y i) fun j=>(⟨j.src,j.dst,a,b⟩:b7))[c] = if qc y i = c then (⟨(ba y wrong (aG y i))[c].src,(ba y wrong (aG y i))[c].dst,a,b⟩:b7) else (ba y wrong (aG y i))[c]:=List.getElem_modify ..
 have hok:=h1 _ (List.getElem_mem hc');rw [e];split
 ·exact ⟨hok.src,hok.dst,hok.ne,ha,hb,hab⟩
 ·exact hok
theorem vG {a b:Int} (ha:Big a) (hb:Big b) (hab:a ≤ b):rh y (aG y i) (eW y wrong i a b) ↔ ∃ f,bh (y.places.length + 2) (kQ (aV y (aG y i) y.places.length (ba y wrong (aG y i)) (-aq) aq) (fU y i) a b) f:=by
 obtain ⟨hc,_⟩:=xM h (wrong:=wrong) hi;obtain ⟨h1,h2⟩:=Gp h (wrong:=wrong) hi ha hb hab;unfold rh;rw [← vL h.ok h.p4.2 h1 h2];unfold eW;rw [DD hc]; rfl
theorem v7 {L H:Int} (hr:jY y wrong i L H) {s:Int × Int} (hs:bo y wrong (y.papers.getD (br y i) ⟨0,0,0,0,0⟩) (br y i) = s) {m:Int} (h1:s.1 ≤ m) (h2:m ≤ s.2):rh y (aG y i) (eW y wrong i s.1 m) ↔ L ≤ m:=by
 obtain ⟨hc,he⟩:=xM h (wrong:=wrong) hi;have hw:=tn h hi wrong (-aq) aq;have hok:=(oe h wrong (aG y i)).1 _ (List.getElem_mem hc);rw [he,hs] at hok;have b1:=hok.lo;have b2:=hok.hi;unfold Big at b1 b2;dsimp only at b1 b2;rw [vG h hi ⟨by omega,by omega⟩ ⟨by omega,by omega⟩ h1];have hget:(aV y (aG y i) y.places.length (ba y wrong (aG y i)) (-aq) aq)[fU y i]'hw.1 = bW y.places.length ((ba y wrong (aG y i))[qc y i]):=by
  have:=pB (y:=y) (k:=aG y i) (n:=y.places.length) (js:=ba y wrong (aG y i)) (lo:=-aq) (hi:=aq) hc;have e2:(aV y (aG y i) y.places.length (ba y wrong (aG y i)) (-aq) aq)[fU y i]? = some ((aV y (aG y i) y.places.length (ba y wrong (aG y i)) (-aq) aq)[fU y i]'hw.1):=List.getElem?_eq_getElem hw.1;unfold fU at e2 ⊢;unfold qc at this ⊢;rw [this] at e2;exact (Option.some.inj e2).symm
 have:=hr.below hw.1 (m:=m) (by rw [hget,he,hs]; exact h2);rw [hget,he,hs] at this;exact this
theorem tT {L H:Int} (hr:jY y wrong i L H) {s:Int × Int} (hs:bo y wrong (y.papers.getD (br y i) ⟨0,0,0,0,0⟩) (br y i) = s) {m:Int} (h1:s.1 ≤ m) (h2:m ≤ s.2):rh y (aG y i) (eW y wrong i m s.2) ↔ m ≤ H:=by
 obtain ⟨hc,he⟩:=xM h (wrong:=wrong) hi;have hw:=tn h hi wrong (-aq) aq;have hok:=(oe h wrong (aG y i)).1 _ (List.getElem_mem hc);rw [he,hs] at hok;have b1:=hok.lo;have b2:=hok.hi;unfold Big at b1 b2;dsimp only at b1 b2;rw [vG h hi ⟨by omega,by omega⟩ ⟨by omega,by omega⟩ h2];have hget:(aV y (aG y i) y.places.length (ba y wrong (aG y i)) (-aq) aq)[fU y i]'hw.1 = bW y.places.length ((ba y wrong (aG y i))[qc y i]):=by
  have:=pB (y:=y) (k:=aG y i) (n:=y.places.length) (js:=ba y wrong (aG y i)) (lo:=-aq) (hi:=aq) hc;have e2:(aV y (aG y i) y.places.length (ba y wrong (aG y i)) (-aq) aq)[fU y i]? = some ((aV y (aG y i) y.places.length (ba y wrong (aG y i)) (-aq) aq)[fU y i]'hw.1):=List.getElem?_eq_getElem hw.1;unfold fU at e2 ⊢;unfold qc at this ⊢;rw [this] at e2;exact (Option.some.inj e2).symm
 have:=hr.Kl hw.1 (m:=m) (by rw [hget,he,hs]; exact h1);rw [hget,he,hs] at this;exact this
theorem D8 {L H:Int} (hr:jY y wrong i L H) {s:Int × Int} (hs:bo y wrong (y.papers.getD (br y i) ⟨0,0,0,0,0⟩) (br y i) = s):s.1 ≤ L ∧ L ≤ H ∧ H ≤ s.2:=by
 obtain ⟨hc,he⟩:=xM h (wrong:=wrong) hi;have hw:=tn h hi wrong (-aq) aq;have hget:(aV y (aG y i) y.places.length (ba y wrong (aG y i)) (-aq) aq)[fU y i]'hw.1 = bW y.places.length ((ba y wrong (aG y i))[qc y i]):=by
  have:=pB (y:=y) (k:=aG y i) (n:=y.places.length) (js:=ba y wrong (aG y i)) (lo:=-aq) (hi:=aq) hc;have e2:(aV y (aG y i) y.places.length (ba y wrong (aG y i)) (-aq) aq)[fU y i]? = some ((aV y (aG y i) y.places.length (ba y wrong (aG y i)) (-aq) aq)[fU y i]'hw.1):=List.getElem?_eq_getElem hw.1;unfold fU at e2 ⊢;unfold qc at this ⊢;rw [this] at e2;exact (Option.some.inj e2).symm
 obtain ⟨f,hf,ef⟩:=hr.least;obtain ⟨g,hg,eg⟩:=hr.most;have a1:=hf.inb _ hw.1;have a2:=hg.inb _ hw.1;have a3:=hr.all f hf;rw [hget,he,hs] at a1 a2;unfold bW at a1 a2;dsimp only at a1 a2;omega
end
/-! ### what is gone -/
def vJ (y:ab) (k:Int) (js:List b7) (lo hi:Int):Prop:=∀ P,P < 2 ^ y.places.length → okO (b6 P) y.places.length y k js lo hi
theorem F8 {y:ab} {k:Int} {js:List b7} {lo hi:Int}:(aV y k y.places.length js lo hi)[2 * y.places.length + js.length]? = some ⟨y.places.length,y.places.length + 1,lo,hi⟩:=by
 unfold aV;rw [List.getElem?_append_right (by simp [dp])];simp [dp]
theorem GL {y:ab} {k:Int} {js:List b7} {lo hi a b:Int}:kQ (aV y k y.places.length js lo hi) (2 * y.places.length + js.length) a b = aV y k y.places.length js a b:=by
 unfold aV kQ;rw [pb _ _ _ _ (by simp [dp])];simp [dp]
section
variable {nm:ByteArray → Bool} {y:ab} (h:bS nm y) {wrong:List Nat} {k:Int}
include h
theorem zO {lo hi:Int} (hlh:lo ≤ hi) (h1:-1000000000 ≤ lo) (h2:hi ≤ 1000000000) {L H:Int} (_hr:gG y wrong k L H):vJ y k (ba y wrong k) lo hi ↔ ∃ f,bh (y.places.length + 2) (aV y k y.places.length (ba y wrong k) (-aq) aq) f ∧ lo ≤ f (2 * y.places.length + (ba y wrong k).length) ∧ f (2 * y.places.length + (ba y wrong k).length) ≤ hi:=by
 obtain ⟨hj,hl⟩:=oe h wrong k;unfold vJ;rw [← tM h.ok h.p4.2 hj hl hlh h1 h2];have hw:2 * y.places.length + (ba y wrong k).length < (aV y k y.places.length (ba y wrong k) (-aq) aq).length:=by rw [iZ]; omega
 have hg:(aV y k y.places.length (ba y wrong k) (-aq) aq)[2 * y.places.length + (ba y wrong k).length]'hw = ⟨y.places.length,y.places.length + 1, -aq,aq⟩:=by
  have:=F8 (y:=y) (k:=k) (js:=ba y wrong k) (lo:=-aq) (hi:=aq);rw [List.getElem?_eq_getElem hw] at this; exact Option.some.inj this
 have hs:aV y k y.places.length (ba y wrong k) lo hi = kQ (aV y k y.places.length (ba y wrong k) (-aq) aq) (2 * y.places.length + (ba y wrong k).length) lo hi:=GL.symm;rw [hs];constructor
 ·rintro ⟨f,hf⟩;exact ⟨f,(iI hw (by rw [hg]; unfold aq; dsimp only; omega) (by rw [hg]; unfold aq; dsimp only; omega) f).1 hf⟩
 ·rintro ⟨f,hf⟩;exact ⟨f,(iI hw (by rw [hg]; unfold aq; dsimp only; omega) (by rw [hg]; unfold aq; dsimp only; omega) f).2 hf⟩
theorem yY {L H:Int} (hr:gG y wrong k L H):-10000000 ≤ L ∧ L ≤ H ∧ H ≤ 10000000:=by
 obtain ⟨hj,hl⟩:=oe h wrong k;have key:∀ f,bh (y.places.length + 2) (aV y k y.places.length (ba y wrong k) (-aq) aq) f → -10000000 ≤ f (2 * y.places.length + (ba y wrong k).length) ∧ f (2 * y.places.length + (ba y wrong k).length) ≤ 10000000:=by
  intro f hf;have hn:=hf.net y.places.length (by omega);unfold aV at hn;rw [qw,qw] at hn;have hp:∀ m,m ≤ y.places.length → aU y.places.length (cH y k y.places.length m) 0 f = 0:=by
   intro m
   induction m with
   | zero=>intro _; rfl
   | succ m ih=>
    intro hm;simp only [cH,qw,ih (by omega),aU];have c1:¬ m = y.places.length:=by omega
    have c2:¬ y.places.length + 1 = y.places.length:=by omega
    simp [c1]
  rw [hp _ (Nat.le_refl _)] at hn;simp only [List.length_append,List.length_map,dp,Nat.zero_add,aU] at hn;rw [if_neg (by omega:¬ y.places.length + 1 = y.places.length)] at hn;simp only [if_true] at hn;have hb:∀ (js:List b7) (b:Nat),(∀ j ∈ js,eV y.places.length j) → (∀ c (hc:c < js.length),0 ≤ f (b + c) ∧ f (b + c) ≤ 1000000) → - (js.length * 1000000:Int) ≤ aU y.places.length (js.map (bW y.places.length)) b f ∧ aU y.places.length (js.map (bW y.places.length)) b f ≤ js.length * 1000000:=by
   intro js
   induction js with
   | nil=>intro b _ _; simp [aU]
   | cons j r ih=>
    intro b hjo hf0;have h0:=hf0 0 (by simp);rw [Nat.add_zero] at h0;have ih:=ih (b + 1) (fun x hx=>hjo x (by simp [hx])) fun c hc=>by
     have:=hf0 (c + 1) (by simpa using hc);rw [show b + (c + 1) = b + 1 + c by omega] at this;exact this
    simp only [List.map_cons,aU,List.length_cons]
    split <;> split <;> omega
  have hbb:=hb (ba y wrong k) (2 * y.places.length) hj fun c hc=>by
   have hi2:2 * y.places.length + c < (aV y k y.places.length (ba y wrong k) (-aq) aq).length:=by rw [iZ]; omega
   have:=hf.inb _ hi2;have e:=pB (y:=y) (k:=k) (n:=y.places.length) (js:=ba y wrong k) (lo:=-aq) (hi:=aq) hc;rw [List.getElem?_eq_getElem hi2] at e;rw [Option.some.inj e] at this;have ho:=hj _ (List.getElem_mem hc);have o1:=ho.lo;have o2:=ho.hi;unfold Big at o1 o2;unfold bW at this;dsimp only at this;omega
  omega
 obtain ⟨f,hf,ef⟩:=hr.least;obtain ⟨g,hg,eg⟩:=hr.most;have a1:=key f hf;have a2:=key g hg;have a3:=hr.all f hf;omega
theorem zk {L H:Int} (hr:gG y wrong k L H) {m:Int} (h1:-10000000 ≤ m) (h2:m ≤ 10000000):vJ y k (ba y wrong k) (-10000000) m ↔ L ≤ m:=by
 rw [zO h h1 (by omega) (by omega) hr];have hf:=yY h hr;constructor
 ·rintro ⟨f,hf,a,b⟩;have:=hr.all f hf; omega
 ·intro hm;obtain ⟨f,hf',ef⟩:=hr.least;exact ⟨f,hf',by omega,by omega⟩
theorem vK {L H:Int} (hr:gG y wrong k L H) {m:Int} (h1:-10000000 ≤ m) (h2:m ≤ 10000000):vJ y k (ba y wrong k) m 10000000 ↔ m ≤ H:=by
 rw [zO h h2 (by omega) (by omega) hr];have hf:=yY h hr;constructor
 ·rintro ⟨f,hf,a,b⟩;have:=hr.all f hf; omega
 ·intro hm;obtain ⟨f,hf',ef⟩:=hr.most;exact ⟨f,hf',by omega,by omega⟩
end
def fP (y:ab) (wrong:List Nat) (p:bj):Bool:=
 if p.paper ≠ -1 then (decide (p.kind = 0) && decide (p.places = 0) && decide (p.over = 0)) && inI p.paper 0 (y.papers.length - 1) && b9 y wrong p.paper.toNat
 else if inI p.kind 0 (y.kinds.length - 1) = false ∨ inI p.places 1 (2 ^ y.places.length - 1) = false then false
 else (decide (0 < p.over) && decide (p.over = j6 y wrong p.kind p.places.toNat)) || (decide (p.over < 0) && decide (p.over = eA y wrong p.kind p.places.toNat))
theorem PI {y:ab} {l:List Nat} (_h:kY y = some l) {i:Nat} (hi:i < y.papers.length):i ∈ F0 y (atW y l.length) ↔ ∃ s,qH y.papers.length 0 s ∧ s.length = l.length ∧ aF y s = true ∧ i ∈ s:=by
 rw [F3];unfold atW;constructor
 ·rintro ⟨_,s,hs,hin⟩;obtain ⟨h1,h2⟩:=List.mem_filter.1 hs;obtain ⟨h3,h4⟩:=(gP _ _ _ _).1 h1;exact ⟨s,h4,h3,h2,hin⟩
 ·rintro ⟨s,h1,h2,h3,h4⟩;exact ⟨hi,s,List.mem_filter.2 ⟨(gP _ _ _ _).2 ⟨h2,h1⟩,h3⟩,h4⟩
theorem PR {y:ab} {i:Nat} (hi:i < y.papers.length):(aF y (eO y.papers.length i) = true) ↔ i ∉ Hz y:=by
 rw [PN];constructor
 ·intro h e; rw [h] at e; cases e.2
 ·intro h
  cases hc:aF y (eO y.papers.length i) with
  | true=>rfl
  | false=>exact absurd ⟨hi,hc⟩ h
def cutAt (b:UInt8):List UInt8 → List (List UInt8)
 | []=>[[]]
 | c :: r=>if c = b then [] :: cutAt b r else match cutAt b r with
  | []=>[[c]]
  | p :: q=>(c :: p) :: q
theorem j7 (b:UInt8):∀ l,cutAt b l ≠ []
 | []=>by simp [cutAt]
 | c :: r=>by
  simp only [cutAt];split
  ·simp
  ·split <;> simp
def bm (b:UInt8):List (List UInt8) → List UInt8
 | []=>[]
 | [p]=>p
 | p :: q :: r=>p ++ b :: bm b (q :: r)
theorem B7 (b:UInt8):∀ l,Lib.join l [b] = bm b l
 | []=>rfl
 | [p]=>by simp [Lib.join,bm,List.intercalate,List.intersperse]
 | p :: q :: r=>by
  have:=B7 b (q :: r);unfold Lib.join List.intercalate at this ⊢;simp only [bm] at this ⊢;rw [← this]; simp [List.intersperse]
theorem gX (b:UInt8):∀ (p r:List UInt8),b ∉ p → cutAt b (p ++ b :: r) = p :: cutAt b r
 | [],r,_=>by simp [cutAt]
 | c :: p,r,h=>by
  have hc:c ≠ b:=fun e=>h (by simp [e])
  have ih:=gX b p r fun e=>h (by simp [e])
  simp only [List.cons_append,cutAt,if_neg hc,ih]
theorem iY (b:UInt8):∀ (p:List UInt8),b ∉ p → cutAt b p = [p]
 | [],_=>rfl
 | c :: p,h=>by
  have hc:c ≠ b:=fun e=>h (by simp [e])
  have ih:=iY b p fun e=>h (by simp [e])
  simp only [cutAt,if_neg hc,ih]
theorem oU (b:UInt8):∀ {l:List (List UInt8)},l ≠ [] → (∀ p ∈ l,b ∉ p) → cutAt b (bm b l) = l
 | [],h,_=>absurd rfl h
 | [p],_,h=>iY b p (h p (by simp))
 | p :: q :: r,_,h=>by
  simp only [bm];rw [gX b p _ (h p (by simp)),oU b (by simp) fun x hx=>h x (by simp [hx])]
theorem rG (b:UInt8) (p:List UInt8) {q:List (List UInt8)} (h:q ≠ []):bm b (p :: q) = p ++ b :: bm b q:=by
 cases q with
 | nil=>exact absurd rfl h
 | cons a r=>rfl
theorem k6 (b:UInt8):∀ (l:List UInt8),bm b (cutAt b l) = l
 | []=>rfl
 | c :: r=>by
  have ih:=k6 b r;have hne:=j7 b r;simp only [cutAt];split
  ·rename_i h;rw [rG b [] hne,ih,h]; rfl
  ·cases hq:cutAt b r with
   | nil=>exact absurd hq hne
   | cons p q=>
    rw [hq] at ih
    cases q with
    | nil=>simp only [bm] at ih ⊢; rw [ih]
    | cons a q=>simp only [bm,List.cons_append] at ih ⊢; rw [ih]
theorem zP (b:UInt8):∀ (l:List UInt8), ∀ p ∈ cutAt b l,b ∉ p
 | [],p,h=>by simp [cutAt] at h; subst h; simp
 | c :: r,p,h=>by
  have ih:=zP b r;have hne:=j7 b r;simp only [cutAt] at h
  split at h
  ·rcases List.mem_cons.1 h with rfl | h
   ·simp
   ·exact ih p h
  ·rename_i hc
   cases hq:cutAt b r with
   | nil=>exact absurd hq hne
   | cons x q=>
    rw [hq] at h ih;rcases List.mem_cons.1 h with rfl | h
    ·intro e;rcases List.mem_cons.1 e with e | e
     ·exact hc e.symm
     ·exact ih x (by simp) e
    ·exact ih p (by simp [h])
/-! ### a line of a text -/
theorem kH (b:UInt8):∀ (l:List UInt8),(b ∉ l ∧ Lib.index l [b] = -1) ∨ ∃ p r,l = p ++ b :: r ∧ b ∉ p ∧ Lib.index l [b] = p.length
 | []=>.inl ⟨by simp,by simp [Lib.index]⟩
 | c :: r=>by
  by_cases h:c = b
  ·subst h;exact .inr ⟨[],r,rfl,by simp,by simp [Lib.index,List.isPrefixOf]⟩
  ·have hp:List.isPrefixOf [b] (c :: r) = false:=by
    simp [List.isPrefixOf]; exact fun e=>h e.symm
   rcases kH b r with ⟨h1,h2⟩ | ⟨p,q,h1,h2,h3⟩
   ·refine .inl ⟨by simp [h1]; exact fun e=>h e.symm, ?_⟩;simp [Lib.index,hp,h2]
   ·refine .inr ⟨c :: p,q,by rw [h1]; rfl,by simp [h2]; exact fun e=>h e.symm, ?_⟩;rw [Lib.index,hp,h3];have:((p.length:Int) == -1) = false:=by simp
    simp [this]
theorem DG (b:UInt8) (l:List UInt8):Lib.cut l [b] = match cutAt b l with
  | []=>(l,[],false)
  | [_]=>(l,[],false)
  | p :: q=>(p,bm b q,true):=by
 rcases kH b l with ⟨h1,h2⟩ | ⟨p,r,h1,h2,h3⟩
 ·rw [iY b l h1];unfold Lib.cut;rw [h2]; simp
 ·have h4:cutAt b l = p :: cutAt b r:=by rw [h1]; exact gX b p r h2
  rw [h4];unfold Lib.cut;rw [h3,if_pos (by omega)]
  cases hq:cutAt b r with
  | nil=>exact absurd hq (j7 b r)
  | cons a q=>
   simp only;rw [← hq,k6,h1];simp
theorem rB (b:UInt8):∀ (k:Nat) (l:List UInt8),l.count b ≤ k → Lib.splitK [b] 0 k l = cutAt b l
 | 0,l,h=>by
  have:b ∉ l:=by rw [← List.count_eq_zero]; omega
  rw [iY b l this]; rfl
 | k + 1,l,h=>by
  unfold Lib.splitK;rcases kH b l with ⟨h1,h2⟩ | ⟨p,r,h1,h2,h3⟩
  ·rw [h2,iY b l h1]; rfl
  ·have h4:cutAt b l = p :: cutAt b r:=by rw [h1]; exact gX b p r h2
   rw [h3,if_neg (by simp),h4];have h5:l.count b = p.count b + (r.count b + 1):=by rw [h1,List.count_append,List.count_cons_self]
   have e:(((p.length:Int)).toNat + 0) = p.length:=by simp
   rw [e,show ((p.length:Int).toNat + [b].length) = p.length + 1 by simp];have e1:l.take p.length = p:=by rw [h1]; simp
   have e2:l.drop (p.length + 1) = r:=by rw [h1]; simp
   rw [e1,e2,rB b k r (by omega)]
theorem mh (b:UInt8):∀ (k:Nat) (l:List UInt8),l.length < k → Lib.countFrom [b] k l = l.count b
 | 0,l,h=>by omega
 | k + 1,l,h=>by
  unfold Lib.countFrom;rcases kH b l with ⟨h1,h2⟩ | ⟨p,r,h1,h2,h3⟩
  ·rw [h2]; simp; exact (List.count_eq_zero.2 h1).symm
  ·rw [h3,if_neg (by simp),show ((p.length:Int).toNat + [b].length) = p.length + 1 by simp];have e2:l.drop (p.length + 1) = r:=by rw [h1]; simp
   have e3:l.length = p.length + (r.length + 1):=by rw [h1]; simp
   rw [e2,mh b k r (by omega),h1,List.count_append,List.count_cons_self,List.count_eq_zero.2 h2]; omega
/-! ### numerals -/
def wz (c:UInt8):Prop:=48 ≤ c.toNat ∧ c.toNat ≤ 57
def xp (a:Nat) (l:List UInt8):Nat:=l.foldl (fun a c=>a * 10 + (c.toNat - 48)) a
theorem tP {d:Nat} (h:d < 10):(UInt8.ofNat (48 + d)).toNat = 48 + d:=by
 rw [UInt8.toNat_ofNat']; omega
theorem jO (u:Nat):∀ c ∈ Lib.decDigits u,wz c:=by
 induction u using Nat.strongRecOn with
 | _ u ih=>
  intro c hc;rw [Lib.decDigits] at hc
  split at hc
  ·rw [List.mem_singleton.1 hc];have:=tP (d:=u) (by omega);unfold wz; omega
  ·rcases List.mem_append.1 hc with h | h
   ·exact ih (u / 10) (by omega) c h
   ·rw [List.mem_singleton.1 h];have:=tP (d:=u % 10) (by omega);unfold wz; omega
theorem nO (u:Nat):xp 0 (Lib.decDigits u) = u:=by
 induction u using Nat.strongRecOn with
 | _ u ih=>
  rw [Lib.decDigits];split
  ·rename_i h;simp only [xp,List.foldl_cons,List.foldl_nil,tP h]; omega
  ·have:=ih (u / 10) (by omega);unfold xp at this ⊢;rw [List.foldl_append,this,List.foldl_cons,List.foldl_nil,tP (by omega)]; omega
theorem ph (u:Nat):Lib.decDigits u ≠ []:=by
 rw [Lib.decDigits]; split <;> simp
theorem Ch:∀ (l:List UInt8) (a:Nat),a ≤ xp a l
 | [],a=>Nat.le_refl _
 | c :: l,a=>by
  have:=Ch l (a * 10 + (c.toNat - 48));simp only [xp,List.foldl_cons] at this ⊢;omega
theorem nR:∀ (l:List UInt8) (a:Nat),(∀ c ∈ l,wz c) → xp a l < 9223372036854775808 → Lib.parseUint10 a l = .ok (xp a l)
 | [],a,_,_=>rfl
 | c :: l,a,h,hv=>by
  have h1:48 ≤ c.toNat ∧ c.toNat ≤ 57:=h c (by simp);have h2:=Ch l (a * 10 + (c.toNat - 48));simp only [xp,List.foldl_cons] at hv h2;simp only [Lib.parseUint10];rw [if_pos h1,if_neg (by omega),if_neg (by omega),nR l _ (fun d hd=>h d (by simp [hd])) hv];rfl
theorem sT {n:Int} (h:0 ≤ n):Lib.itoa n = Lib.decDigits n.toNat:=by unfold Lib.itoa; rw [if_neg (by omega)]
theorem Dt {n:Int} (h:0 ≤ n) (h2:n ≤ 1000000000):Lib.atoiAll (Lib.itoa n) = .ok n:=by
 rw [sT h];have hd:=jO n.toNat;have hv:=nO n.toNat
 cases hl:Lib.decDigits n.toNat with
 | nil=>exact absurd hl (ph _)
 | cons c r=>
  rw [hl] at hd hv;have hc:=hd c (by simp);unfold wz at hc;unfold Lib.atoiAll;dsimp only;rw [if_neg (by omega)];unfold Lib.parseMag;rw [if_neg (by simp),nR (c :: r) 0 hd (by omega),hv];simp only;rw [if_neg (by omega),if_neg (by omega),if_neg (by omega)];congr 1; omega
def yM (l:List UInt8):Int:=
 if ¬ (1 ≤ l.length ∧ l.length ≤ 9) ∨ (1 < l.length ∧ l.head? = some 48) then -1 else if l.all (fun c=>decide (48 ≤ c.toNat ∧ c.toNat ≤ 57)) then (xp 0 l:Int) else -1
theorem ug {u k:Nat} (hk:1 ≤ k) (h:u < 10 ^ k):Lib.nDigits u ≤ k:=by
 induction k generalizing u with
 | zero=>omega
 | succ k ih=>
  by_cases h10:u < 10
  ·rw [Lib.nDigits_small h10]; omega
  ·rw [Lib.nDigits_big h10];rcases Nat.eq_zero_or_pos k with h0 | h0
   ·subst h0; simp at h; omega
   ·have:=ih (u:=u / 10) h0 (by rw [Nat.pow_succ] at h; omega);omega
theorem ur (u:Nat) (h:10 ≤ u):(Lib.decDigits u).head? ≠ some 48:=by
 induction u using Nat.strongRecOn with
 | _ u ih=>
  rw [Lib.decDigits,dif_neg (by omega)];by_cases h1:u / 10 < 10
  ·rw [Lib.decDigits,dif_pos h1];simp only [List.singleton_append,List.head?_cons,ne_eq,Option.some.injEq];intro e;have:=congrArg UInt8.toNat e;rw [tP h1] at this;simp at this;omega
  ·have:=ih (u / 10) (by omega) (by omega)
   cases hl:Lib.decDigits (u / 10) with
   | nil=>exact absurd hl (ph _)
   | cons c r=>rw [hl] at this; simpa using this
theorem Cy {n:Int} (h:0 ≤ n) (h2:n < 1000000000):yM (Lib.itoa n) = n:=by
 rw [sT h];have hd:=jO n.toNat;have hv:=nO n.toNat;have hlen:=Lib.decDigits_length n.toNat;have h1:=ug (u:=n.toNat) (k:=9) (by decide) (by omega);have h3:=Lib.nDigits_pos n.toNat;unfold yM;rw [if_neg,if_pos,hv]
 ·omega
 ·rw [List.all_eq_true]; intro c hc; exact decide_eq_true (hd c hc)
 ·rintro (h4 | ⟨h4,h5⟩)
  ·omega
  ·by_cases h10:n.toNat < 10
   ·rw [Lib.nDigits_small h10] at hlen; omega
   ·exact ur n.toNat (by omega) h5
theorem pr {n:Int} (h:0 ≤ n) {k:Nat} (hk:1 ≤ k) (h2:n < 10 ^ k):(Lib.itoa n).length ≤ k:=by
 rw [sT h,Lib.decDigits_length];refine ug hk ?_;have:((n.toNat:Nat):Int) < ((10 ^ k:Nat):Int):=by
  rw [Int.toNat_of_nonneg h]; push_cast; exact h2
 exact Int.ofNat_lt.1 this
theorem p8 {n:Int} (h:0 ≤ n) {b:UInt8} (hb:b.toNat < 48):b ∉ Lib.itoa n:=by
 rw [sT h];intro hm;have:=jO _ b hm;unfold wz at this; omega
abbrev WdW:=List UInt8
def et (b:ByteArray):WdW:=b.data.toList
def zH (w:WdW):ByteArray:=⟨w.toArray⟩
theorem uh (b:ByteArray):zH (et b) = b:=by simp [et,zH]
theorem Fu {a b:ByteArray} (h:et a = et b):a = b:=by rw [← uh a,h,uh]
theorem sR:∀ l:List ByteArray,(l.map et).map zH = l
 | []=>rfl
 | a :: l=>by rw [List.map_cons,List.map_cons,uh,sR l]
def dy (r:List WdW):WdW:=bm 32 r ++ [10]
def dS:WdW:=[107,105,110,100,115]
def df:WdW:=[112,108,97,99,101,115]
def dh:WdW:=[102,105,114,115,116]
def gJ:WdW:=[112,97,112,101,114]
def ed:WdW:=[108,97,115,116]
def bJ:WdW:=[45]
def nameAt (l:List ByteArray) (i:Int):WdW:=et (l.getD i.toNat .empty)
def fS (y:ab) (a:Int):WdW:=if a = -1 then bJ else nameAt y.places a
def bn (w:WdW) (y:ab) (c:av):List WdW:=[w,nameAt y.kinds c.kind,nameAt y.places c.place,Lib.itoa c.lo,Lib.itoa c.hi]
def cE (y:ab) (p:ak):List WdW:=[gJ,nameAt y.kinds p.kind,fS y p.src,fS y p.dst,Lib.itoa p.kilos,if 0 ≤ p.copy then Lib.itoa p.copy else bJ]
def qt (y:ab):List (List WdW):=(dS :: y.kinds.map et) :: (df :: y.places.map et) :: (y.first.map (bn dh y) ++ y.papers.map (cE y) ++ y.last.map (bn ed y))
def dj (y:ab):WdW:=(qt y).flatMap dy
def ie:ab:=⟨[],[],[],[],[]⟩
/-! ### the program -/
def y0 (l:List ByteArray) (w:WdW):Option Nat:=l.findIdx? fun s=>decide (et s = w)
def jn (l:List ByteArray) (w:WdW) (minus:Bool):Option Int:=match y0 l w with
 | some i=>some i
 | none=>if minus = true ∧ w = bJ then some (-1) else none
def jV (w:WdW) (minus:Bool):Option Int:=if minus = true ∧ w = bJ then some (-1) else match Lib.atoiAll w with
 | .ok v=>if 0 ≤ v then some v else none
 | _=>none
def gu (y:ab):List WdW → Option av
 | [_,k,p,a,b]=>match jn y.kinds k false,jn y.places p false,jV a false,jV b false with
  | some k,some p,some a,some b=>some ⟨k,p,a,b⟩
  | _,_,_,_=>none
 | _=>none
def pc (y:ab):List WdW → Option ak
 | [_,k,a,b,n,c]=>match jn y.kinds k false,jn y.places a true,jn y.places b true,jV n false,jV c true with
  | some k,some a,some b,some n,some c=>some ⟨k,a,b,n,c⟩
  | _,_,_,_,_=>none
 | _=>none
def dW (r:List WdW) (y:ab):Option ab:=
 if r.head? = some dS then some { y with kinds:=r.tail.map zH }
 else if r.head? = some df then some { y with places:=r.tail.map zH }
 else if r.head? = some dh then (gu y r).map fun c=>{ y with first:=y.first ++ [c] }
 else if r.head? = some gJ then (pc y r).map fun p=>{ y with papers:=y.papers ++ [p] }
 else if r.head? = some ed then (gu y r).map fun c=>{ y with last:=y.last ++ [c] }
 else none
/-! ### the document -/
def w8 (l:List ByteArray) (w:WdW):Int:=if w = bJ then -1 else match y0 l w with
 | some i=>i
 | none=>-2
def J4 (y:ab):List WdW → av
 | [_,k,p,a,b]=>⟨w8 y.kinds k,w8 y.places p,yM a,yM b⟩
 | _=>⟨0,0,0,0⟩
def Lx (y:ab):List WdW → ak
 | [_,k,a,b,n,c]=>⟨w8 y.kinds k,w8 y.places a,w8 y.places b,yM n,if c = bJ then -1 else yM c⟩
 | _=>⟨0,0,0,0,0⟩
def lF (step:List WdW → ab → Option ab) (last:WdW → Bool):List WdW → ab → Option ab
 | [],_=>none
 | [l],y=>if last l then some y else none
 | r :: q :: rs,y=>match step (cutAt 32 r) y with
  | none=>none
  | some y'=>lF step last (q :: rs) y'
def td (nm:ByteArray → Bool) (step:List WdW → ab → Option ab) (last:WdW → Bool) (s:WdW):Option ab:=match lF step last (cutAt 10 s) ie with
 | none=>none
 | some y=>if decide ((bt nm y).2.2 = 0) && decide (dj y = s) then some y else none
def tK (nm:ByteArray → Bool) (s:WdW):Option ab:=td nm dW (fun l=>decide (l = [])) s
/-! ### a text is read az it was -/
structure kx (nm:ByteArray → Bool):Prop where
 byte:∀ s,nm s = true → (∀ c ∈ et s,48 ≤ c.toNat) ∧ et s ≠ [] ∧ (et s).length ≤ 16
theorem kx.no {nm:ByteArray → Bool} (h:kx nm) {s:ByteArray} (hs:nm s = true) {b:UInt8} (hb:b.toNat < 48):b ∉ et s:=fun hm=>by
 have:=(h.byte s hs).1 b hm; omega
theorem kx.minus {nm:ByteArray → Bool} (h:kx nm) {s:ByteArray} (hs:nm s = true):et s ≠ bJ:=fun e=>by
 have:=(h.byte s hs).1 45 (by rw [e]; simp [bJ]);exact absurd this (by decide)
theorem yo {b:UInt8}:∀ {l:List WdW},(∀ w ∈ l,b ∉ w) → b ≠ 32 → b ∉ bm 32 l
 | [],_,_=>by simp [bm]
 | [p],h,_=>h p (by simp)
 | p :: q :: r,h,hb=>by
  have ih:=yo (l:=q :: r) (fun w hw=>h w (by simp [hw])) hb;simp only [bm,List.mem_append,List.mem_cons,not_or];exact ⟨h p (by simp),hb,ih⟩
theorem vO:∀ (rs:List (List WdW)),(∀ r ∈ rs,(10:UInt8) ∉ bm 32 r) → cutAt 10 (rs.flatMap dy) = rs.map (bm 32) ++ [[]]
 | [],_=>rfl
 | r :: rs,h=>by
  have ih:=vO rs fun x hx=>h x (by simp [hx])
  have e:(r :: rs).flatMap dy = bm 32 r ++ 10 :: rs.flatMap dy:=by simp [dy]
  rw [e,gX 10 _ _ (h r (by simp)),ih]; rfl
theorem wo {step:List WdW → ab → Option ab} {last:WdW → Bool} (hl:last [] = true):∀ (rs:List (List WdW)) (y:ab),(∀ r ∈ rs,cutAt 32 (bm 32 r) = r) → lF step last (rs.map (bm 32) ++ [[]]) y = rs.foldlM (fun y r=>step r y) y
 | [],y,_=>by simp [lF,hl]
 | r :: rs,y,h=>by
  have h1:=h r (by simp);have ih:=fun y=>wo (step:=step) hl rs y fun x hx=>h x (by simp [hx])
  simp only [List.map_cons,List.cons_append,List.foldlM_cons]
  cases hq:rs.map (bm 32) ++ [[]] with
  | nil=>simp at hq
  | cons a t=>
   simp only [hq] at ih;simp only [lF,h1]
   cases step r y with
   | none=>rfl
   | some y'=>exact ih y'
theorem Cw {l:List ByteArray} (hn:l.Nodup) {i:Nat} (hi:i < l.length):y0 l (et l[i]) = some i:=by
 unfold y0;rw [List.findIdx?_eq_some_iff_getElem];refine ⟨hi,by simp,fun j hj=>?_⟩;simp only [decide_eq_true_eq];intro e;have e2:=Fu e;have:=List.pairwise_iff_getElem.1 (List.nodup_iff_pairwise_ne.1 hn) j i (by omega) hi hj;exact this e2
theorem oI {l:List ByteArray} {i:Int} (h:0 ≤ i ∧ i < l.length):∃ hi:i.toNat < l.length,nameAt l i = et l[i.toNat]:=by
 refine ⟨by omega, ?_⟩;unfold nameAt;rw [List.getD_eq_getElem?_getD,List.getElem?_eq_getElem (by omega)]; rfl
theorem qC {nm:ByteArray → Bool} (hw:kx nm) {l:List ByteArray} (hl:(∀ s ∈ l,nm s = true) ∧ l.Nodup) {i:Int} (h:0 ≤ i ∧ i < l.length) (m:Bool):jn l (nameAt l i) m = some i ∧ w8 l (nameAt l i) = i:=by
 obtain ⟨hi,e⟩:=oI h;have hf:=Cw hl.2 hi;have hm:=hw.minus (hl.1 _ (List.getElem_mem hi));rw [e];unfold jn w8;rw [hf,if_neg hm];dsimp only;exact ⟨by congr 1; omega,by omega⟩
theorem uz {n:Int} (h:0 ≤ n):Lib.itoa n ≠ bJ:=fun e=>by
 have:=p8 h (b:=45) (by decide);rw [e] at this;exact this (by simp [bJ])
theorem pg {n:Int} (h:0 ≤ n) (h2:n ≤ 1000000) (m:Bool):jV (Lib.itoa n) m = some n ∧ yM (Lib.itoa n) = n:=by
 refine ⟨?_,Cy h (by omega)⟩;unfold jV;rw [if_neg (fun e=>uz h e.2),Dt h (by omega)];dsimp only;rw [if_pos h]
theorem wM {nm:ByteArray → Bool} (hw:kx nm) {y:ab} (hl:(∀ s ∈ y.places,nm s = true) ∧ y.places.Nodup) {l:List ByteArray} (e:y.places = l) {a:Int} (h:-1 ≤ a ∧ a < l.length):jn l (fS y a) true = some a ∧ w8 l (fS y a) = a:=by
 subst e;unfold fS;by_cases h1:a = -1
 ·rw [if_pos h1,h1];have hf:y0 y.places bJ = none:=by
   unfold y0;rw [List.findIdx?_eq_none_iff];intro s hs;have:=hw.minus (hl.1 s hs);simpa using this
  unfold jn w8;rw [hf];simp
 ·rw [if_neg h1];exact qC hw hl (by omega) true
end Go.AM
