/- Whether a yard of waste closes, and why not; with more papers that are false it still does. Plain. The fewest papers that have to be false; those that must, and may. Plain. The way of a journey; .. -/
import Derived.Test.YtlmhkldmpggadaaGreatDoorP26
namespace Go.AM
def mY (l:List Nat) (n:Nat):Bool:=l.any fun x=>decide (x = n)
theorem ix {l:List Nat} {n:Nat}:mY l n = true ↔ n ∈ l:=by simp [mY]
def cD (y:ab) (wrong:List Nat) (i:Nat):Bool:=match y.papers[i]? with
 | none=>false
 | some p=>decide ((i:Int) < p.copy) && !mY wrong i && !mY wrong p.copy.toNat && decide (p.kilos ≠ bM y p.copy.toNat)
def ba (y:ab) (wrong:List Nat) (k:Int):List b8:=ee (aZ y wrong) k y.papers 0
def lS (y:ab) (wrong:List Nat) (k:Int) (P:Nat):Int:=dc (bh P) y.places.length y k (ba y wrong k)
def fH (y:ab) (wrong:List Nat) (k:Int) (P:Nat):Int:=bz (bh P) y.places.length y k (ba y wrong k)
structure bt where
 paper:Int
 kind:Int
 places:Int
 over:Int
def oW (y:ab) (wrong:List Nat) (k P:Nat):Option bt:=
 if P = 0 then none else if 0 < lS y wrong k P then some ⟨-1,k,P,lS y wrong k P⟩ else if fH y wrong k P < 0 then some ⟨-1,k,P,fH y wrong k P⟩ else none
def ie (y:ab) (wrong:List Nat) (k:Nat):Option bt:=(List.range (2 ^ y.places.length)).findSome? (oW y wrong k)
def nF (y:ab) (wrong:List Nat):Option Nat:=(List.range y.papers.length).find? (cD y wrong)
def yk (y:ab) (wrong:List Nat):Option bt:=match nF y wrong with
 | some i=>some ⟨i,0,0,0⟩
 | none=>(List.range y.kinds.length).findSome? (ie y wrong)
def aP (y:ab) (wrong:List Nat):Bool:=(yk y wrong).isNone
def qp (y:ab) (wrong:List Nat) (k:Int):Prop:=∃ f,bE (y.places.length + 2) (aW y k y.places.length (ba y wrong k) (-aw) aw) f
theorem zl {nm:ByteArray → Bool} {y:ab} (h:bJ nm y) (i:Nat):Big (bM y i):=by
 unfold bM
 cases hi:y.papers[i]? with
 | none=>exact ⟨by simp,by simp⟩
 | some p=>
  obtain ⟨h1,rfl⟩:=List.getElem?_eq_some_iff.1 hi;exact (h.papers i h1).kilos
theorem vC {nm:ByteArray → Bool} {y:ab} (h:bJ nm y) (wrong:List Nat) {p:aj} (hp:Big p.kilos) (i:Nat):Big (aZ y wrong p i).1 ∧ Big (aZ y wrong p i).2 ∧ (aZ y wrong p i).1 ≤ (aZ y wrong p i).2:=by
 have k1:=zl h (min i p.copy.toNat);have k2:=zl h (max i p.copy.toNat);unfold aZ;unfold Big at *;split
 ·split
  ·exact ⟨⟨by simp,by simp⟩,⟨by simp,by simp⟩,by simp⟩
  ·exact ⟨hp,hp,Int.le_refl _⟩
 split
 ·exact ⟨k1,k1,Int.le_refl _⟩
 split
 ·exact ⟨k2,k2,Int.le_refl _⟩
 ·exact ⟨⟨by simp,by simp⟩,⟨by simp,by simp⟩,by simp⟩
theorem DK {n:Nat} {al:aj → Nat → Int × Int} {k:Int}:∀ (l:List aj) (i:Nat),(∀ j (h:j < l.length),(-1 ≤ l[j].src ∧ l[j].src < n) ∧ (-1 ≤ l[j].dst ∧ l[j].dst < n) ∧ l[j].src ≠ l[j].dst ∧ Big (al l[j] (i + j)).1 ∧ Big (al l[j] (i + j)).2 ∧ (al l[j] (i + j)).1 ≤ (al l[j] (i + j)).2) → (∀ x ∈ ee al k l i,eS n x) ∧ (ee al k l i).length ≤ l.length
 | [],i,_=>by simp [ee]
 | p :: r,i,h=>by
  obtain ⟨h1,h2⟩:=DK r (i + 1) fun j hj=>by
   have:=h (j + 1) (by simpa using hj);rw [show i + (j + 1) = i + 1 + j by omega] at this;simpa using this
  have h0:=h 0 (by simp);simp only [List.getElem_cons_zero,Nat.add_zero] at h0;simp only [ee];split
  ·refine ⟨fun x hx=>?_,by simp; omega⟩;rcases List.mem_cons.1 hx with rfl | hx
   ·exact ⟨h0.1,h0.2.1,h0.2.2.1,h0.2.2.2.1,h0.2.2.2.2.1,h0.2.2.2.2.2⟩
   ·exact h1 x hx
  ·exact ⟨h1,by simp; omega⟩
theorem mR {nm:ByteArray → Bool} {y:ab} (h:bJ nm y) (wrong:List Nat) (k:Int):(∀ x ∈ ba y wrong k,eS y.places.length x) ∧ (ba y wrong k).length ≤ 10:=by
 have:=DK (n:=y.places.length) (al:=aZ y wrong) (k:=k) y.papers 0 fun j hj=>by
  have hp:=h.papers j hj;rw [Nat.zero_add];exact ⟨hp.src,hp.dst,hp.ne,vC h wrong hp.kilos j⟩
 exact ⟨this.1,by have:=this.2; have:=h.m10; unfold ba; omega⟩
theorem Fh (A:Nat → Bool) (n:Nat) (y:ab) (k:Int) (js:List b8):0 ≤ dc A n y k js ∧ bz A n y k js ≤ 0:=by
 unfold dc bz;constructor
 ·split <;> omega
 ·omega
theorem BS {nm:ByteArray → Bool} {y:ab} (h:bJ nm y) (wrong:List Nat) (k:Nat):qp y wrong k ↔ ie y wrong k = none:=by
 obtain ⟨h1,h2⟩:=mR h wrong k;unfold qp;rw [zO h.ok h.p4.2 h1 h2];unfold ie;rw [List.findSome?_eq_none_iff];constructor
 ·intro hh P hP;rw [List.mem_range] at hP;unfold oW;split
  ·rfl
  ·rename_i h0;obtain ⟨a,b⟩:=hh P (by omega) hP;unfold lS fH;rw [a,b]; simp
 ·intro hh P h0 hP;have:=hh P (List.mem_range.2 hP);obtain ⟨n1,n2⟩:=Fh (bh P) y.places.length y k (ba y wrong k);unfold oW at this;rw [if_neg (by omega)] at this
  split at this
  ·cases this
  ·rename_i g1
   split at this
   ·cases this
   ·rename_i g2;unfold lS at g1;unfold fH at g2;omega
theorem iK {nm:ByteArray → Bool} {y:ab} (h:bJ nm y) (wrong:List Nat):aP y wrong = true ↔ (∀ i,i < y.papers.length → cD y wrong i = false) ∧ ∀ k,k < y.kinds.length → qp y wrong (k:Nat):=by
 unfold aP yk
 cases ht:nF y wrong with
 | some i=>
  dsimp only;refine ⟨fun e=>by simp at e,fun ⟨h1,_⟩=>?_⟩;have h2:=List.find?_some ht;have h3:=List.mem_of_find?_eq_some ht;rw [h1 i (List.mem_range.1 h3)] at h2; cases h2
 | none=>
  dsimp only;have h1:∀ i,i < y.papers.length → cD y wrong i = false:=fun i hi=>by
   have:=List.find?_eq_none.1 ht i (List.mem_range.2 hi);simpa using this
  rw [Option.isNone_iff_eq_none,List.findSome?_eq_none_iff];constructor
  ·intro hh;exact ⟨h1,fun k hk=>(BS h wrong k).2 (hh k (List.mem_range.2 hk))⟩
  ·rintro ⟨_,h2⟩ k hk;exact (BS h wrong k).1 (h2 k (List.mem_range.1 hk))
/-! ### wider bounds -/
inductive iu:List aI → List aI → Prop
 | nil:iu [] []
 | cons {a b:aI} {l r:List aI}:a.src = b.src → a.dst = b.dst → b.low ≤ a.low → a.high ≤ b.high → iu l r → iu (a :: l) (b :: r)
theorem iu.refl:∀ l,iu l l
 | []=>.nil
 | _ :: r=>.cons rfl rfl (Int.le_refl _) (Int.le_refl _) (iu.refl r)
theorem iu.app {a b c d:List aI} (h:iu a b) (g:iu c d):iu (a ++ c) (b ++ d):=by
 induction h with
 | nil=>exact g
 | cons h1 h2 h3 h4 _ ih=>exact .cons h1 h2 h3 h4 ih
theorem iu.net {a b:List aI} (h:iu a b) (n:Nat) (f:Nat → Int):∀ i,aS n a i f = aS n b i f:=by
 induction h with
 | nil=>intro i; rfl
 | cons h1 h2 _ _ _ ih=>intro i; simp only [aS,ih,h1,h2]
theorem iu.inb {a b:List aI} (h:iu a b):∀ (f:Nat → Int) (i:Nat),(∀ k (hk:k < a.length),a[k].low ≤ f (i + k) ∧ f (i + k) ≤ a[k].high) → ∀ k (hk:k < b.length),b[k].low ≤ f (i + k) ∧ f (i + k) ≤ b[k].high:=by
 induction h with
 | nil=>intro f i _ k hk; simp at hk
 | @cons a b l r h1 h2 h3 h4 _ ih=>
  intro f i hh k hk
  cases k with
  | zero=>
   have:=hh 0 (by simp);simp only [List.getElem_cons_zero] at this ⊢;omega
  | succ k=>
   have:=ih f (i + 1) (fun j hj=>by
    have:=hh (j + 1) (by simpa using hj);rw [show i + (j + 1) = i + 1 + j by omega] at this
    simpa using this) k (by simpa using hk)
   rw [show i + (k + 1) = i + 1 + k by omega];simpa using this
theorem zc {y:ab} {wrong:List Nat} {p:aj} {i:Nat} (h:p.copy < 0):aZ y wrong p i = if i ∈ wrong then (0,1000000) else (p.kilos,p.kilos):=by
 unfold aZ; rw [if_pos h]
theorem zr {y:ab} {wrong:List Nat} {p:aj} {i c:Nat} (h:p.copy = c) (hlt:i < c):aZ y wrong p i = if ¬ i ∈ wrong then (bM y i,bM y i) else if ¬ c ∈ wrong then (bM y c,bM y c) else (0,1000000):=by
 have e1:min i p.copy.toNat = i:=by omega
 have e2:max i p.copy.toNat = c:=by omega
 unfold aZ; rw [if_neg (show ¬ p.copy < 0 by omega),e1,e2]
def eR (m:Nat):Nat → Nat → List (List Nat)
 | 0,_=>[[]]
 | many + 1,a=>(List.range' a (m - a)).flatMap fun i=>(eR m many (i + 1)).map fun l=>i :: l
def Bv (m a:Nat) (l:List Nat):Prop:=l.Pairwise (· < ·) ∧ ∀ x ∈ l,a ≤ x ∧ x < m
theorem nf (m:Nat):∀ (many a:Nat) (l:List Nat),l ∈ eR m many a ↔ l.length = many ∧ Bv m a l
 | 0,a,l=>by
  simp only [eR,List.mem_singleton];constructor
  ·rintro rfl; exact ⟨rfl, .nil,by simp⟩
  ·intro h; exact List.eq_nil_of_length_eq_zero h.1
 | many + 1,a,l=>by
  simp only [eR,List.mem_flatMap,List.mem_map];constructor
  ·rintro ⟨i,hi,r,hr,rfl⟩;rw [List.mem_range'_1] at hi;obtain ⟨h1,h2,h3⟩:=(nf m many (i + 1) r).1 hr;refine ⟨by simp [h1],List.pairwise_cons.2 ⟨fun x hx=>by have:=h3 x hx; omega,h2⟩,fun x hx=>?_⟩;rcases List.mem_cons.1 hx with rfl | hx
   ·omega
   ·have:=h3 x hx; omega
  ·rintro ⟨h1,h2,h3⟩
   cases l with
   | nil=>simp at h1
   | cons i r=>
    have hi:=h3 i (by simp);obtain ⟨h4,h5⟩:=List.pairwise_cons.1 h2;exact ⟨i,List.mem_range'_1.2 ⟨hi.1,by omega⟩,r,(nf m many (i + 1) r).2 ⟨by simpa using h1,h5,fun x hx=>⟨by have:=h4 x hx; omega,(h3 x (by simp [hx])).2⟩⟩,rfl⟩
theorem vx {m a:Nat}:∀ {l:List Nat},Bv m a l → l.length ≤ m - a
 | [],_=>by simp
 | x :: r,h=>by
  have hx:=h.2 x (by simp);obtain ⟨h1,h2⟩:=List.pairwise_cons.1 h.1;have:=vx (m:=m) (a:=x + 1) (l:=r) ⟨h2,fun z hz=>⟨by have:=h1 z hz; omega,(h.2 z (by simp [hz])).2⟩⟩;simp only [List.length_cons]; omega
def kp (m but:Nat):List Nat:=(List.range m).filter fun i=>decide (i ≠ but)
theorem za (m:Nat) (p:Nat → Bool):Bv m 0 ((List.range m).filter p):=
 ⟨(List.pairwise_lt_range).filter _,fun x hx=>⟨by omega,List.mem_range.1 (List.mem_filter.1 hx).1⟩⟩
def AN (y:ab):Option (List Nat):=(List.range (y.papers.length + 1)).findSome? fun many=>(eR y.papers.length many 0).find? (aP y)
def atW (y:ab) (many:Nat):List (List Nat):=(eR y.papers.length many 0).filter (aP y)
def mN (y:ab):Option (List (List Nat)):=(List.range (y.papers.length + 1)).findSome? fun many=>if atW y many = [] then none else some (atW y many)
def K9 (y:ab):List Nat:=(List.range y.papers.length).filter fun i=>!aP y (kp y.papers.length i)
def Kq (y:ab) (ls:List (List Nat)):List Nat:=(List.range y.papers.length).filter fun i=>ls.any fun l=>mY l i
theorem Kt {y:ab} {ls:List (List Nat)} {i:Nat}:i ∈ Kq y ls ↔ i < y.papers.length ∧ ∃ l ∈ ls,i ∈ l:=by simp [Kq,ix]
/-! ### ranges exist -/
theorem ua (P:Int → Prop):∀ (d:Nat) (lo:Int),(∃ v,P v ∧ lo ≤ v ∧ v ≤ lo + d) → ∃ m,P m ∧ lo ≤ m ∧ ∀ v,P v → lo ≤ v → m ≤ v
 | 0,lo,⟨v,h1,h2,h3⟩=>⟨v,h1,h2,fun w _ hw=>by omega⟩
 | d + 1,lo,⟨v,h1,h2,h3⟩=>by
  by_cases h:P lo
  ·exact ⟨lo,h,Int.le_refl _,fun w _ hw=>hw⟩
  ·have hne:v ≠ lo:=fun e=>h (e ▸ h1);obtain ⟨m,g1,g2,g3⟩:=ua P d (lo + 1) ⟨v,h1,by omega,by omega⟩;refine ⟨m,g1,by omega,fun w hw hlw=>?_⟩;have:w ≠ lo:=fun e=>h (e ▸ hw);exact g3 w hw (by omega)
theorem sk {N:Nat} {es:List aI} {i0:Nat} (h0:i0 < es.length) (hc:∃ f,bE N es f):∃ lo hi,ik N es i0 lo hi:=by
 obtain ⟨f,hf⟩:=hc;have hb:=hf.inb i0 h0;obtain ⟨m,⟨g,hg,eg⟩,_,h1⟩:=ua (fun v=>∃ g,bE N es g ∧ g i0 = v) (es[i0].high - es[i0].low).toNat es[i0].low ⟨f i0,⟨f,hf,rfl⟩,hb.1,by omega⟩;obtain ⟨n,⟨g',hg',eg'⟩,_,h2⟩:=ua (fun v=>∃ g,bE N es g ∧ g i0 = -v) (es[i0].high - es[i0].low).toNat (-es[i0].high) ⟨- f i0,⟨f,hf,by omega⟩,by omega,by omega⟩;refine ⟨m, -n,⟨g,hg,eg⟩,⟨g',hg',eg'⟩,fun x hx=>⟨h1 _ ⟨x,hx,rfl⟩ (hx.inb i0 h0).1, ?_⟩⟩;have:=h2 (- x i0) ⟨x,hx,by omega⟩ (by have:=(hx.inb i0 h0).2; omega);omega
/-! ### the way of a journey -/
def fN (k:Int):List aj → Nat → Nat → Nat
 | [],_,_=>0
 | p :: r,i,a=>if a ≤ i then 0 else (if p.kind = k ∧ br p i = true then 1 else 0) + fN k r (i + 1) a
theorem D6 {al:aj → Nat → Int × Int} {k:Int}:∀ (l:List aj) (i a:Nat) (h1:i ≤ a) (h2:a < i + l.length),(l[a - i]'(by omega)).kind = k → br (l[a - i]'(by omega)) a = true →
  (ee al k l i)[fN k l i a]? = some ⟨(l[a - i]'(by omega)).src,(l[a - i]'(by omega)).dst,(al (l[a - i]'(by omega)) a).1,(al (l[a - i]'(by omega)) a).2⟩
 | [],i,a,h1,h2,_,_=>by simp at h2; omega
 | p :: r,i,a,h1,h2,hk,hl=>by
  rcases Nat.eq_or_lt_of_le h1 with e | hlt
  ·subst e;simp only [Nat.sub_self,List.getElem_cons_zero] at hk hl ⊢;simp only [ee,fN];rw [if_pos ⟨hk,hl⟩,if_pos (Nat.le_refl _)]; rfl
  ·have e:a - i = (a - (i + 1)) + 1:=by omega
   simp only [e,List.getElem_cons_succ] at hk hl ⊢;have ih:=D6 (al:=al) r (i + 1) a hlt (by simp only [List.length_cons] at h2; omega) hk hl;simp only [ee,fN];rw [if_neg (by omega:¬ a ≤ i)];split
   ·rw [Nat.add_comm 1,List.getElem?_cons_succ]; exact ih
   ·rw [Nat.zero_add]; exact ih
theorem cM (y:ab) (k:Int) (n:Nat):∀ m,(bR y k n m).length = 2 * m
 | 0=>rfl
 | m + 1=>by simp only [bR,List.length_append,cM y k n m]; simp; omega
theorem rT {y:ab} {k:Int} {n:Nat} {js:List b8} {lo hi:Int} {c:Nat} (h:c < js.length):(aW y k n js lo hi)[2 * n + c]? = some (cZ n js[c]):=by
 unfold aW;rw [List.getElem?_append_left (by simp [cM]; omega),List.getElem?_append_right (by rw [cM]; omega),cM];simp [h]
theorem jq (y:ab) (k:Int) (n:Nat) (js:List b8) (lo hi:Int):(aW y k n js lo hi).length = 2 * n + js.length + 1:=by
 simp [aW,cM]; omega
theorem qN {α:Type} (f:α → α):∀ (l r:List α) (i:Nat),l.length ≤ i → (l ++ r).modify i f = l ++ r.modify (i - l.length) f
 | [],r,i,_=>by simp
 | a :: l,r,0,h=>by simp at h
 | a :: l,r,i + 1,h=>by
  simp only [List.cons_append,List.modify_succ_cons,List.length_cons];rw [qN f l r i (by simpa using h),Nat.add_sub_add_right]
theorem uO {α:Type} (f:α → α):∀ (l r:List α) (i:Nat),i < l.length → (l ++ r).modify i f = l.modify i f ++ r
 | [],r,i,h=>by simp at h
 | a :: l,r,0,_=>rfl
 | a :: l,r,i + 1,h=>by
  simp only [List.cons_append,List.modify_succ_cons];rw [uO f l r i (by simpa using h)]
theorem xk {α β:Type} (g:α → β) (f:α → α) (f':β → β) (h:∀ a,g (f a) = f' (g a)):∀ (l:List α) (i:Nat),(l.modify i f).map g = (l.map g).modify i f'
 | [],i=>by simp
 | a :: l,0=>by simp [h]
 | a :: l,i + 1=>by simp only [List.modify_succ_cons,List.map_cons,xk g f f' h l i]
theorem FJ {y:ab} {k:Int} {n:Nat} {js:List b8} {lo hi:Int} {c:Nat} (h:c < js.length) (a b:Int):aW y k n (js.modify c fun j=>⟨j.src,j.dst,a,b⟩) lo hi = iF (aW y k n js lo hi) (2 * n + c) a b:=by
 unfold aW iF;rw [uO _ _ _ _ (by simp [cM]; omega),qN _ _ _ _ (by rw [cM]; omega),cM];rw [xk (cZ n) _ (fun e:aI=>(⟨e.src,e.dst,a,b⟩:aI)) (fun j=>rfl)];rw [show 2 * n + c - 2 * n = c by omega]
def bH (y:ab) (i:Nat):Nat:=match y.papers[i]? with
 | none=>i
 | some p=>if p.copy < 0 then i else min i p.copy.toNat
def aK (y:ab) (i:Nat):Int:=match y.papers[i]? with
 | none=>0
 | some p=>p.kind
def im (y:ab) (i:Nat):Nat:=2 * y.places.length + fN (aK y i) y.papers 0 (bH y i)
def jE (y:ab) (wrong:List Nat) (i:Nat) (lo hi:Int):Prop:=
 ik (y.places.length + 2) (aW y (aK y i) y.places.length (ba y wrong (aK y i)) (-aw) aw) (im y i) lo hi
def iw (y:ab) (wrong:List Nat) (k:Int) (lo hi:Int):Prop:=
 ik (y.places.length + 2) (aW y k y.places.length (ba y wrong k) (-aw) aw) (2 * y.places.length + (ba y wrong k).length) lo hi
theorem k8 {nm:ByteArray → Bool} {y:ab} (h:bJ nm y) {i:Nat} (hi:i < y.papers.length):∃ hl:bH y i < y.papers.length,br y.papers[bH y i] (bH y i) = true ∧ y.papers[bH y i].kind = aK y i ∧
  (bH y i = i ∨ (y.papers[bH y i].copy = i ∧ y.papers[i].copy = bH y i)) ∧ y.papers[bH y i].src = y.papers[i].src ∧ y.papers[bH y i].dst = y.papers[i].dst:=by
 have hp:=h.papers i hi;have hk:aK y i = y.papers[i].kind:=by unfold aK; rw [List.getElem?_eq_getElem hi]
 have hld:bH y i = if y.papers[i].copy < 0 then i else min i y.papers[i].copy.toNat:=by unfold bH; rw [List.getElem?_eq_getElem hi]
 rcases hp.copy with hc | ⟨c1,c2,c3,q,hq,c4,c5,c6,c7⟩
 ·have e:bH y i = i:=by rw [hld,if_pos (by omega)]
  simp only [e];exact ⟨hi,by unfold br; rw [decide_eq_true (by omega:y.papers[i].copy < 0)]; rfl,hk.symm, .inl trivial,trivial,trivial⟩
 ·obtain ⟨hcl,hcq⟩:=List.getElem?_eq_some_iff.1 hq;rcases Nat.lt_or_ge i y.papers[i].copy.toNat with hlt | hge
  ·have e:bH y i = i:=by rw [hld,if_neg (by omega)]; omega
   simp only [e];exact ⟨hi,by unfold br; rw [decide_eq_true (by omega:(i:Int) < y.papers[i].copy)]; simp,hk.symm, .inl trivial,trivial,trivial⟩
  ·have e:bH y i = y.papers[i].copy.toNat:=by rw [hld,if_neg (by omega)]; omega
   rw [e];refine ⟨hcl, ?_, ?_, .inr ⟨?_,by omega⟩, ?_, ?_⟩
   ·rw [hcq]; unfold br; rw [c4,decide_eq_true (by omega:(y.papers[i].copy.toNat:Int) < (i:Int))]; simp
   ·rw [hcq,c5,hk]
   ·rw [hcq,c4]
   ·rw [hcq,c6]
   ·rw [hcq,c7]
theorem MI {al:aj → Nat → Int × Int} {k:Int} {l:List aj} {a:Nat} (h:a < l.length) (hk:l[a].kind = k) (hl:br l[a] a = true):fN k l 0 a < (ee al k l 0).length:=by
 have:=D6 (al:=al) l 0 a (Nat.zero_le _) (by omega) (by simpa using hk) (by simpa using hl);exact (List.getElem?_eq_some_iff.1 this).1
theorem xH {nm:ByteArray → Bool} {y:ab} (h:bJ nm y) {i:Nat} (hi:i < y.papers.length) (wrong:List Nat) (lo hi':Int):im y i < (aW y (aK y i) y.places.length (ba y wrong (aK y i)) lo hi').length ∧ fN (aK y i) y.papers 0 (bH y i) < (ba y wrong (aK y i)).length:=by
 obtain ⟨hl,h1,h2,_⟩:=k8 h hi;have:=MI (al:=aZ y wrong) hl h2 h1;refine ⟨?_,this⟩;rw [jq];unfold im;unfold ba at *;omega
/-! ### another number -/
end Go.AM
