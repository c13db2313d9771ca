/- The range of what can go on a way; the outside az one place more. Plain. A yard of waste: its check; papers that are false; whether it closes, and why not. Plain. Whether a yard of waste closes, .. -/
import Derived.Test.YtlmhkldmpggadaaGreatDoorP17
namespace Go.AM
structure ic (N:Nat) (es:List aA) (i0:Nat) (lo hi:Int):Prop where
 least:∃ f,bh N es f ∧ f i0 = lo
 most:∃ f,bh N es f ∧ f i0 = hi
 all:∀ f,bh N es f → lo ≤ f i0 ∧ f i0 ≤ hi
def kQ (es:List aA) (i0:Nat) (lo hi:Int):List aA:=es.modify i0 fun e=>⟨e.src,e.dst,lo,hi⟩
theorem lJ (es:List aA) (i0:Nat) (lo hi:Int):(kQ es i0 lo hi).length = es.length:=by simp [kQ]
theorem uE {es:List aA} {i0:Nat} {lo hi:Int} {i:Nat} (h:i < es.length) (h':i < (kQ es i0 lo hi).length):(kQ es i0 lo hi)[i] = if i = i0 then ⟨es[i].src,es[i].dst,lo,hi⟩ else es[i]:=by
 have e1:(kQ es i0 lo hi)[i] = if i0 = i then (fun e:aA=>(⟨e.src,e.dst,lo,hi⟩:aA)) es[i] else es[i]:=List.getElem_modify ..
 rw [e1];by_cases e:i0 = i
 ·rw [if_pos e,if_pos e.symm]
 ·rw [if_neg e,if_neg (Ne.symm e)]
theorem tV (n:Nat) (f:Nat → Int) (lo hi:Int):∀ (es:List aA) (i0 j:Nat),aU n (kQ es i0 lo hi) j f = aU n es j f
 | [],i0,j=>by simp [kQ]
 | e :: r,0,j=>by simp [kQ,aU]
 | e :: r,i0 + 1,j=>by
  have ih:=tV n f lo hi r i0 (j + 1);simp only [kQ] at ih;simp [kQ,aU,ih]
theorem iI {N:Nat} {es:List aA} {i0:Nat} (h0:i0 < es.length) {lo hi:Int} (h1:es[i0].low ≤ lo) (h2:hi ≤ es[i0].high) (f:Nat → Int):bh N (kQ es i0 lo hi) f ↔ bh N es f ∧ lo ≤ f i0 ∧ f i0 ≤ hi:=by
 constructor
 ·rintro ⟨hb,hn⟩;have hi0:=hb i0 (by rw [lJ]; exact h0);rw [uE h0 (by rw [lJ]; exact h0),if_pos rfl] at hi0;refine ⟨⟨fun i hi=>?_,fun n hN=>by rw [← tV n f lo hi es i0 0]; exact hn n hN⟩,hi0⟩;have:=hb i (by rw [lJ]; exact hi);rw [uE hi (by rw [lJ]; exact hi)] at this;by_cases e:i = i0
  ·subst e;rw [if_pos rfl] at this;dsimp only at this;omega
  ·rw [if_neg e] at this; exact this
 ·rintro ⟨⟨hb,hn⟩,h3,h4⟩;refine ⟨fun i hi=>?_,fun n hN=>by rw [tV]; exact hn n hN⟩;have hi':i < es.length:=by rwa [lJ] at hi
  rw [uE hi' hi];split
  ·rename_i e; subst e; exact ⟨h3,h4⟩
  ·exact hb i hi'
theorem ic.below {N:Nat} {es:List aA} {i0:Nat} (h0:i0 < es.length) {lo hi:Int} (hr:ic N es i0 lo hi) {m:Int} (hm:m ≤ es[i0].high):(∃ f,bh N (kQ es i0 es[i0].low m) f) ↔ lo ≤ m:=by
 constructor
 ·rintro ⟨f,hf⟩;obtain ⟨h1,h2,h3⟩:=(iI h0 (Int.le_refl _) hm f).1 hf;have:=hr.all f h1;omega
 ·intro h;obtain ⟨f,cf,ef⟩:=hr.least;exact ⟨f,(iI h0 (Int.le_refl _) hm f).2 ⟨cf,(cf.inb i0 h0).1,by omega⟩⟩
theorem ic.Kl {N:Nat} {es:List aA} {i0:Nat} (h0:i0 < es.length) {lo hi:Int} (hr:ic N es i0 lo hi) {m:Int} (hm:es[i0].low ≤ m):(∃ f,bh N (kQ es i0 m es[i0].high) f) ↔ m ≤ hi:=by
 constructor
 ·rintro ⟨f,hf⟩;obtain ⟨h1,h2,h3⟩:=(iI h0 hm (Int.le_refl _) f).1 hf;have:=hr.all f h1;omega
 ·intro h;obtain ⟨f,cf,ef⟩:=hr.most;exact ⟨f,(iI h0 hm (Int.le_refl _) f).2 ⟨cf,by omega,(cf.inb i0 h0).2⟩⟩
/-! ### with the outside -/
def amo (A:Nat → Bool) (a:Int):Bool:=decide (a < 0) || A a.toNat
def wZ (A:Nat → Bool) (j:b7):Int:=(if amo A j.dst && !amo A j.src then j.lo else 0) - (if amo A j.src && !amo A j.dst then j.hi else 0)
def xx (A:Nat → Bool) (j:b7):Int:=(if amo A j.dst && !amo A j.src then j.hi else 0) - (if amo A j.src && !amo A j.dst then j.lo else 0)
def mr (A:Nat → Bool) (n:Nat) (y:ab) (k:Int) (js:List b7):Int:=dN A n (fun a=>loC (aO y.first k a)) + cL (wZ A) js
def qF (A:Nat → Bool) (n:Nat) (y:ab) (k:Int) (js:List b7):Int:=dN A n (fun a=>hiC (aO y.first k a)) + cL (xx A) js
theorem yc {S:Nat → Bool} {n:Nat} (hn:S n = true) {a:Int}:S (fE n a) = amo S a:=by
 unfold fE amo;split
 ·rename_i h; rw [hn,decide_eq_true h]; rfl
 ·rename_i h; rw [decide_eq_false h]; rfl
theorem wC {S:Nat → Bool} {n:Nat} (hn:S n = false) {a:Int}:S (fE n a) = !amo (fun x=>!S x) a:=by
 unfold fE amo;split
 ·rename_i h; rw [hn,decide_eq_true h]; rfl
 ·rename_i h; rw [decide_eq_false h]; simp
theorem zG {S:Nat → Bool} {n:Nat} (hn:S n = true):∀ (js:List b7),dA S (js.map (bW n)) = cL (wZ S) js
 | []=>rfl
 | j :: r=>by
  simp only [List.map_cons,dA,cL,zG hn r,bW,wZ];rw [yc hn,yc hn]
theorem vY {S:Nat → Bool} {n:Nat} (hn:S n = false):∀ (js:List b7),dA S (js.map (bW n)) = - cL (xx fun x=>!S x) js
 | []=>rfl
 | j :: r=>by
  simp only [List.map_cons,dA,cL,vY hn r,bW,xx];rw [wC hn,wC hn];cases amo (fun x=>!S x) j.src <;> cases amo (fun x=>!S x) j.dst <;> simp <;> omega
theorem wH {A B:Nat → Bool} {n:Nat} (h:∀ a,a < n → A a = B a) {x:Int} (h1:x < n):amo A x = amo B x:=by
 unfold amo;rcases Int.lt_or_le x 0 with h2 | h2
 ·rw [decide_eq_true h2]; rfl
 ·rw [h x.toNat (by omega)]
theorem jx {A B:Nat → Bool} {n:Nat} (h:∀ a,a < n → A a = B a):∀ {js:List b7},(∀ j ∈ js,eV n j) → cL (wZ A) js = cL (wZ B) js ∧ cL (xx A) js = cL (xx B) js
 | [],_=>⟨rfl,rfl⟩
 | j :: r,hj=>by
  obtain ⟨h1,h2⟩:=jx h (js:=r) fun x hx=>hj x (by simp [hx])
  have h3:=hj j (by simp);simp only [cL,wZ,xx];rw [h1,h2,wH h h3.src.2,wH h h3.dst.2];exact ⟨rfl,rfl⟩
theorem BL {A:Nat → Bool} {n:Nat}:∀ js:List b7,(∀ j ∈ js,eV n j) → - (js.length * 1000000:Int) ≤ cL (wZ A) js ∧ cL (wZ A) js ≤ js.length * 1000000 ∧ - (js.length * 1000000:Int) ≤ cL (xx A) js ∧ cL (xx A) js ≤ js.length * 1000000
 | [],_=>by simp [cL]
 | j :: r,h=>by
  have ih:=BL (A:=A) r fun x hx=>h x (by simp [hx])
  have hj:=h j (by simp);have h1:=hj.lo;have h2:=hj.hi;unfold Big at h1 h2;simp only [cL,wZ,xx,List.length_cons];cases amo A j.src <;> cases amo A j.dst <;> simp <;> omega
def okO (A:Nat → Bool) (n:Nat) (y:ab) (k:Int) (js:List b7) (lo hi:Int):Prop:=
 (fF A n y k js = 0 ∧ cy A n y k js = 0) ∧ (da A y k n = true → mr A n y k js ≤ nZ A n y k + hi) ∧ lb A n y k + lo ≤ qF A n y k js
theorem DA {A B:Nat → Bool} {n:Nat} (h:∀ a,a < n → A a = B a) (y:ab) (k:Int) {js:List b7} (hj:∀ j ∈ js,eV n j) (lo hi:Int):okO A n y k js lo hi ↔ okO B n y k js lo hi:=by
 obtain ⟨h1,h2⟩:=jx h hj;obtain ⟨h3,h4⟩:=gC h y k hj;unfold okO mr qF lb nZ;rw [iF h,cD _ h,cD _ h,cD _ h,cD _ h,h1,h2,h3,h4]
theorem CC {y:ab} (hy:ml y) {k:Int} {n:Nat} (hn:n ≤ 4) {js:List b7} (hj:∀ j ∈ js,eV n j) (hl:js.length ≤ 10) {lo hi:Int} (hlh:lo ≤ hi) (hb1:-1000000000 ≤ lo) (_hb2:hi ≤ 1000000000) :
  (∃ f,bh (n + 2) (aV y k n js lo hi) f) ↔ ∀ A,okO A n y k js lo hi:=by
 rw [yI (xm hy k hj hlh)];have f01:∀ (S:Nat → Bool),S n = true → S (n + 1) = false → dA S (aV y k n js lo hi) = mr S n y k js - dN S n (fun a=>cR y k a) - hi:=by
  intro S h1 h2;simp only [aV,fN,sP h2,zG h1 js,dA,h1,h2,mr];simp; omega
 have f10:∀ (S:Nat → Bool),S n = false → S (n + 1) = true → dA S (aV y k n js lo hi) = lb (fun x=>!S x) n y k + lo - qF (fun x=>!S x) n y k js:=by
  intro S h1 h2;simp only [aV,fN,qm h2,vY h1 js,dA,h1,h2,qF,lb];simp; omega
 have hb:=fun A=>Ip (A:=A) hy (k:=k) hn hj hl
 have hbo:∀ A,mr A n y k js ≤ 14000000:=fun A=>by
  have h1:=(gl (A:=A) (g:=fun a=>loC (aO y.first k a)) (c:=1000000) (by omega) (fun a=>(cd hy.first k a).1) n).2;have h3:=BL (A:=A) js hj;unfold mr;omega
 constructor
 ·intro h A;refine ⟨⟨?_, ?_⟩, ?_, ?_⟩
  ·have hS:=gC (A:=A) (B:=fun x=>decide (x < n) && A x) (n:=n) (fun a ha=>by simp [ha]) y k hj;rw [hS.1];generalize hB:(fun x=>decide (x < n) && A x) = B;have hBn:B n = false:=by rw [← hB]; simp
   have hBn1:B (n + 1) = false:=by
    rw [← hB];show (decide (n + 1 < n) && A (n + 1)) = false
    rw [decide_eq_false (by omega)]; rfl
   have h1:=h B;rw [(gY hj).1 hBn hBn1] at h1;unfold fF;split
   ·rename_i hw;rw [iS hw] at h1; omega
   ·rfl
  ·have hS:=gC (A:=A) (B:=fun x=>!(decide (n ≤ x) || !A x)) (n:=n) (fun a ha=>by simp; omega) y k hj;rw [hS.2];generalize hB:(fun x=>decide (n ≤ x) || !A x) = B;have hBn:B n = true:=by rw [← hB]; simp
   have hBn1:B (n + 1) = true:=by rw [← hB]; simp
   have h1:=h B;rw [(gY hj).2 hBn hBn1] at h1;have e:(fun x=>!(decide (n ≤ x) || !A x)) = fun x=>!B x:=by rw [← hB]
   rw [e];unfold cy;omega
  ·intro hw;obtain ⟨B,hB⟩:∃ B:Nat → Bool,B = fun x=>if x < n then A x else decide (x = n):=⟨_,rfl⟩
   have hag:∀ a,a < n → A a = B a:=fun a ha=>by rw [hB]; simp [ha]
   have hBn:B n = true:=by rw [hB]; simp
   have hBn1:B (n + 1) = false:=by
    rw [hB];show (if n + 1 < n then A (n + 1) else decide (n + 1 = n)) = false
    rw [if_neg (by omega),decide_eq_false (by omega)]
   have h1:=h B;rw [f01 B hBn hBn1,iS (by rw [← iF hag]; exact hw)] at h1;unfold mr nZ at h1 ⊢;rw [cD _ hag,cD _ hag,(jx hag hj).1];omega
  ·obtain ⟨B,hB⟩:∃ B:Nat → Bool,B = fun x=>if x < n then !A x else decide (x ≠ n):=⟨_,rfl⟩
   have hag:∀ a,a < n → A a = !B a:=fun a ha=>by rw [hB]; simp [ha]
   have hBn:B n = false:=by rw [hB]; simp
   have hBn1:B (n + 1) = true:=by
    rw [hB];show (if n + 1 < n then !A (n + 1) else decide (n + 1 ≠ n)) = true
    rw [if_neg (by omega),decide_eq_true (by omega)]
   have h1:=h B;rw [f10 B hBn hBn1] at h1;unfold qF lb at h1 ⊢;rw [cD (B:=fun x=>!B x) _ hag,cD (B:=fun x=>!B x) _ hag,(jx (B:=fun x=>!B x) hag hj).2];omega
 ·intro h S;cases h1:S n <;> cases h2:S (n + 1)
  ·rw [(gY hj).1 h1 h2];have h3:=(h S).1.1;unfold fF at h3
   split at h3
   ·rename_i hw; rw [iS hw]; omega
   ·rename_i hw;have h4:=mJ hy (k:=k) (A:=S) (n:=n) (by simpa using hw);have h5:=(hb S).1;unfold aq at h4;omega
  ·rw [f10 S h1 h2];have:=(h fun x=>!S x).2.2;omega
  ·rw [f01 S h1 h2];by_cases hw:da S y k n = true
   ·have:=(h S).2.1 hw;rw [iS hw]; omega
   ·have h4:=mJ hy (k:=k) (A:=S) (n:=n) (by simpa using hw);have h5:=hbo S;unfold aq at h4;omega
  ·rw [(gY hj).2 h1 h2];have h3:=(h fun x=>!S x).1.2;unfold cy at h3;omega
theorem tM {y:ab} (hy:ml y) {k:Int} {n:Nat} (hn:n ≤ 4) {js:List b7} (hj:∀ j ∈ js,eV n j) (hl:js.length ≤ 10) {lo hi:Int} (hlh:lo ≤ hi) (hb1:-1000000000 ≤ lo) (hb2:hi ≤ 1000000000) :
  (∃ f,bh (n + 2) (aV y k n js lo hi) f) ↔ ∀ P,P < 2 ^ n → okO (b6 P) n y k js lo hi:=by
 rw [CC hy hn hj hl hlh hb1 hb2];constructor
 ·intro h P _; exact h _
 ·intro h A;obtain ⟨P,h1,h2⟩:=xP A n;exact (DA (fun a ha=>(h2 a ha).symm) y k hj lo hi).2 (h P h1)
def ay {α:Type} (f:Nat → α → Int):List α → Nat → Int × Int
 | [],_=>(0,0)
 | a :: r,i=>if f i a ≠ 0 then ((i:Int),f i a) else ay f r (i + 1)
theorem kf {α:Type} (f:Nat → α → Int):∀ (l:List α) (i:Nat),(ay f l i).2 = 0 ↔ ∀ k (h:k < l.length),f (i + k) l[k] = 0
 | [],i=>by simp [ay]
 | a :: r,i=>by
  have ih:=kf f r (i + 1);simp only [ay];by_cases h:f i a = 0
  ·rw [if_neg (by simp [h]),ih];constructor
   ·intro hh k hk
    cases k with
    | zero=>exact h
    | succ k=>
     have:=hh k (by simpa using hk);rw [show i + 1 + k = i + (k + 1) by omega] at this;simpa using this
   ·intro hh k hk;have:=hh (k + 1) (by simpa using hk);rw [show i + (k + 1) = i + 1 + k by omega] at this;simpa using this
  ·rw [if_pos h];constructor
   ·intro e; exact absurd e h
   ·intro hh;have:=hh 0 (by simp);simp at this; exact absurd this h
theorem yE {α:Type} {f:Nat → α → Int} {l:List α} {i:Nat} (h:(ay f l i).2 = 0):ay f l i = (0,0):=by
 induction l generalizing i with
 | nil=>rfl
 | cons a r ih=>
  simp only [ay] at h ⊢;by_cases h0:f i a = 0
  ·rw [if_neg (by simp [h0])] at h ⊢; exact ih h
  ·rw [if_pos h0] at h; exact absurd h h0
def inI (n lo hi:Int):Bool:=decide (lo ≤ n) && decide (n ≤ hi)
def eS (nm:ByteArray → Bool) (l:List ByteArray) (i:Nat) (s:ByteArray):Int:=if nm s = false then 6 else if (l.take i).any (fun t=>decide (t = s)) = true then 5 else 0
def fo (y:ab) (l:List av) (i:Nat) (c:av):Int:=
 if inI c.kind 0 (y.kinds.length - 1) = false ∨ inI c.place 0 (y.places.length - 1) = false then 4
 else if (l.take i).any (fun d=>decide (d.kind = c.kind) && decide (d.place = c.place)) = true then 5
 else if inI c.lo 0 1000000 = false ∨ inI c.hi 0 1000000 = false then 7
 else if c.lo > c.hi then 2 else 0
def kE (y:ab) (i:Nat) (p:ak):Int:=
 if inI p.kind 0 (y.kinds.length - 1) = false ∨ inI p.src (-1) (y.places.length - 1) = false ∨ inI p.dst (-1) (y.places.length - 1) = false then 4
 else if p.src = p.dst then 2
 else if inI p.kilos 0 1000000 = false then 7
 else if p.copy = -1 then 0
 else if inI p.copy 0 (y.papers.length - 1) = false ∨ p.copy = i then 9
 else match y.papers[p.copy.toNat]? with
  | none=>9
  | some q=>if q.copy = i ∧ q.kind = p.kind ∧ q.src = p.src ∧ q.dst = p.dst then 0 else 9
def bt (nm:ByteArray → Bool) (y:ab):Int × Int × Int:=
 if inI y.kinds.length 1 4 = false ∨ inI y.places.length 1 4 = false ∨ 10 < y.papers.length ∨ 8 < y.first.length ∨ 8 < y.last.length then (1,0,3)
 else if (ay (eS nm y.kinds) y.kinds 0).2 ≠ 0 then (2,ay (eS nm y.kinds) y.kinds 0)
 else if (ay (eS nm y.places) y.places 0).2 ≠ 0 then (3,ay (eS nm y.places) y.places 0)
 else if (ay (fo y y.first) y.first 0).2 ≠ 0 then (4,ay (fo y y.first) y.first 0)
 else if (ay (kE y) y.papers 0).2 ≠ 0 then (5,ay (kE y) y.papers 0)
 else if (ay (fo y y.last) y.last 0).2 ≠ 0 then (6,ay (fo y y.last) y.last 0)
 else (0,0,0)
structure zD (y:ab) (c:av):Prop extends BV c where
 kind:0 ≤ c.kind ∧ c.kind < y.kinds.length
 place:0 ≤ c.place ∧ c.place < y.places.length
structure GA (y:ab) (i:Nat) (p:ak):Prop where
 kind:0 ≤ p.kind ∧ p.kind < y.kinds.length
 src:-1 ≤ p.src ∧ p.src < y.places.length
 dst:-1 ≤ p.dst ∧ p.dst < y.places.length
 ne:p.src ≠ p.dst
 kilos:Big p.kilos
 copy:p.copy = -1 ∨ (0 ≤ p.copy ∧ p.copy < y.papers.length ∧ p.copy ≠ i ∧ ∃ q,y.papers[p.copy.toNat]? = some q ∧ q.copy = i ∧ q.kind = p.kind ∧ q.src = p.src ∧ q.dst = p.dst)
structure bS (nm:ByteArray → Bool) (y:ab):Prop where
 k4:1 ≤ y.kinds.length ∧ y.kinds.length ≤ 4
 p4:1 ≤ y.places.length ∧ y.places.length ≤ 4
 m10:y.papers.length ≤ 10
 f8:y.first.length ≤ 8
 l8:y.last.length ≤ 8
 kinds:(∀ s ∈ y.kinds,nm s = true) ∧ y.kinds.Nodup
 places:(∀ s ∈ y.places,nm s = true) ∧ y.places.Nodup
 first:(∀ c ∈ y.first,zD y c) ∧ y.first.Pairwise fun c d=>¬ (c.kind = d.kind ∧ c.place = d.place)
 papers:∀ i (h:i < y.papers.length),GA y i y.papers[i]
 last:(∀ c ∈ y.last,zD y c) ∧ y.last.Pairwise fun c d=>¬ (c.kind = d.kind ∧ c.place = d.place)
theorem bc {n lo hi:Int}:(inI n lo hi = true ↔ lo ≤ n ∧ n ≤ hi) ∧ (inI n lo hi = false ↔ ¬ (lo ≤ n ∧ n ≤ hi)):=by
 have h:inI n lo hi = true ↔ lo ≤ n ∧ n ≤ hi:=by simp [inI]
 exact ⟨h,by rw [← h]; simp⟩
theorem wA {α:Type} (R:α → α → Bool):∀ (l:List α),(∀ k (h:k < l.length),(l.take k).any (fun d=>R d l[k]) = false) ↔ l.Pairwise fun c d=>¬ R c d = true:=by
 intro l;rw [List.pairwise_iff_getElem];constructor
 ·intro h i j hi hj hij;have:=h j hj;rw [List.any_eq_false] at this;exact this l[i] (List.mem_take_iff_getElem.2 ⟨i,by omega,rfl⟩)
 ·intro h k hk;rw [List.any_eq_false];intro d hd;obtain ⟨i,hi,rfl⟩:=List.mem_take_iff_getElem.1 hd;exact h i k (by omega) hk (by omega)
theorem pQ (nm:ByteArray → Bool) (l:List ByteArray):(ay (eS nm l) l 0).2 = 0 ↔ (∀ s ∈ l,nm s = true) ∧ l.Nodup:=by
 have hp:=wA (fun d c:ByteArray=>decide (d = c)) l;have e:(l.Pairwise fun c d=>¬ decide (c = d) = true) ↔ l.Nodup:=by
  rw [List.nodup_iff_pairwise_ne];exact List.Pairwise.iff fun a b=>by simp
 rw [kf, ← e, ← hp];constructor
 ·intro h;have key:∀ k (hk:k < l.length),nm l[k] = true ∧ (l.take k).any (fun d=>decide (d = l[k])) = false:=fun k hk=>by
   have:=h k hk;unfold eS at this;rw [Nat.zero_add] at this;by_cases h1:nm l[k] = false
   ·rw [if_pos h1] at this; exact absurd this (by decide)
   ·rw [if_neg h1] at this;by_cases h2:(l.take k).any (fun d=>decide (d = l[k])) = true
    ·rw [if_pos h2] at this; exact absurd this (by decide)
    ·exact ⟨by simpa using h1,Bool.eq_false_iff.2 h2⟩
  refine ⟨fun s hs=>?_,fun k hk=>(key k hk).2⟩;obtain ⟨k,hk,rfl⟩:=List.getElem_of_mem hs;exact (key k hk).1
 ·rintro ⟨h1,h2⟩ k hk;unfold eS;rw [Nat.zero_add,if_neg (by simp [h1 _ (List.getElem_mem hk)]),if_neg (by rw [h2 k hk]; simp)]
theorem fC (y:ab) (l:List av):(ay (fo y l) l 0).2 = 0 ↔ (∀ c ∈ l,zD y c) ∧ l.Pairwise fun c d=>¬ (c.kind = d.kind ∧ c.place = d.place):=by
 have hp:=wA (fun d c:av=>decide (d.kind = c.kind) && decide (d.place = c.place)) l;have e:(l.Pairwise fun c d=>¬ (decide (c.kind = d.kind) && decide (c.place = d.place)) = true) ↔ l.Pairwise fun c d=>¬ (c.kind = d.kind ∧ c.place = d.place):=
  List.Pairwise.iff fun a b=>by simp
 rw [kf, ← e, ← hp];constructor
 ·intro h;have key:∀ k (hk:k < l.length),zD y l[k] ∧ (l.take k).any (fun d=>decide (d.kind = l[k].kind) && decide (d.place = l[k].place)) = false:=fun k hk=>by
   have:=h k hk;unfold fo at this;rw [Nat.zero_add] at this;by_cases h1:inI l[k].kind 0 (y.kinds.length - 1) = false ∨ inI l[k].place 0 (y.places.length - 1) = false
   ·rw [if_pos h1] at this; exact absurd this (by decide)
   rw [if_neg h1] at this;by_cases h2:(l.take k).any (fun d=>decide (d.kind = l[k].kind) && decide (d.place = l[k].place)) = true
   ·rw [if_pos h2] at this; exact absurd this (by decide)
   rw [if_neg h2] at this;by_cases h3:inI l[k].lo 0 1000000 = false ∨ inI l[k].hi 0 1000000 = false
   ·rw [if_pos h3] at this; exact absurd this (by decide)
   rw [if_neg h3] at this;by_cases h4:l[k].lo > l[k].hi
   ·rw [if_pos h4] at this; exact absurd this (by decide)
   rw [bc.2,bc.2] at h1 h3;exact ⟨⟨⟨⟨by omega,by omega⟩,⟨by omega,by omega⟩,by omega⟩,by omega,by omega⟩,by simpa using h2⟩
  refine ⟨fun s hs=>?_,fun k hk=>(key k hk).2⟩;obtain ⟨k,hk,rfl⟩:=List.getElem_of_mem hs;exact (key k hk).1
 ·rintro ⟨h1,h2⟩ k hk;have hc:=h1 _ (List.getElem_mem hk);have a1:=hc.kind;have a2:=hc.place;have a3:=hc.lo;have a4:=hc.hi;have a5:=hc.le;unfold Big at a3 a4;unfold fo;rw [Nat.zero_add,if_neg (by rw [bc.2,bc.2]; omega),if_neg (by rw [h2 k hk]; simp),if_neg (by rw [bc.2,bc.2]; omega),if_neg (by omega)]
theorem mN (y:ab):(ay (kE y) y.papers 0).2 = 0 ↔ ∀ i (h:i < y.papers.length),GA y i y.papers[i]:=by
 rw [kf];refine forall_congr' fun i=>forall_congr' fun hi=>?_
 rw [Nat.zero_add];generalize y.papers[i] = p;unfold kE;by_cases h1:inI p.kind 0 (y.kinds.length - 1) = false ∨ inI p.src (-1) (y.places.length - 1) = false ∨ inI p.dst (-1) (y.places.length - 1) = false
 ·rw [if_pos h1];rw [bc.2,bc.2,bc.2] at h1;refine ⟨fun e=>absurd e (by decide),fun h=>?_⟩;have:=h.kind; have:=h.src; have:=h.dst;omega
 rw [if_neg h1];rw [bc.2,bc.2,bc.2] at h1;by_cases h2:p.src = p.dst
 ·rw [if_pos h2];exact ⟨fun e=>absurd e (by decide),fun h=>absurd h2 h.ne⟩
 rw [if_neg h2];by_cases h3:inI p.kilos 0 1000000 = false
 ·rw [if_pos h3];rw [bc.2] at h3;exact ⟨fun e=>absurd e (by decide),fun h=>absurd h.kilos h3⟩
 rw [if_neg h3];rw [bc.2] at h3;have hbase:∀ hc,GA y i p:=fun hc=>⟨by omega,by omega,by omega,h2,⟨by omega,by omega⟩,hc⟩
 by_cases h4:p.copy = -1
 ·rw [if_pos h4];exact ⟨fun _=>hbase (.inl h4),fun _=>rfl⟩
 rw [if_neg h4];by_cases h5:inI p.copy 0 (y.papers.length - 1) = false ∨ p.copy = i
 ·rw [if_pos h5];rw [bc.2] at h5;refine ⟨fun e=>absurd e (by decide),fun h=>?_⟩;rcases h.copy with hc | ⟨c1,c2,c3,_⟩ <;> omega
 rw [if_neg h5];rw [bc.2] at h5
 cases hq:y.papers[p.copy.toNat]? with
 | none=>
  dsimp only;refine ⟨fun e=>absurd e (by decide),fun h=>?_⟩;rcases h.copy with hc | ⟨_,_,_,q,hq',_⟩
  ·exact absurd hc h4
  ·rw [hq] at hq'; cases hq'
 | some q=>
  dsimp only;by_cases h6:q.copy = i ∧ q.kind = p.kind ∧ q.src = p.src ∧ q.dst = p.dst
  ·rw [if_pos h6];exact ⟨fun _=>hbase (.inr ⟨by omega,by omega,by omega,q,hq,h6⟩),fun _=>rfl⟩
  ·rw [if_neg h6];refine ⟨fun e=>absurd e (by decide),fun h=>?_⟩;rcases h.copy with hc | ⟨_,_,_,q',hq',h7⟩
   ·exact absurd hc h4
   ·rw [hq] at hq'; cases hq'; exact absurd h7 h6
theorem ea (nm:ByteArray → Bool) (y:ab):(bt nm y).2.2 = 0 ↔ bS nm y:=by
 unfold bt;by_cases h1:inI y.kinds.length 1 4 = false ∨ inI y.places.length 1 4 = false ∨ 10 < y.papers.length ∨ 8 < y.first.length ∨ 8 < y.last.length
 ·rw [if_pos h1];rw [bc.2,bc.2] at h1;refine ⟨fun e=>absurd e (by decide),fun h=>?_⟩;have:=h.k4; have:=h.p4; have:=h.m10; have:=h.f8; have:=h.l8;omega
 rw [if_neg h1];rw [bc.2,bc.2] at h1;by_cases h2:(ay (eS nm y.kinds) y.kinds 0).2 = 0;rotate_left
 ·rw [if_pos h2]; exact ⟨fun e=>absurd e h2,fun h=>absurd ((pQ _ _).2 h.kinds) h2⟩
 rw [if_neg (by simp [h2])];by_cases h3:(ay (eS nm y.places) y.places 0).2 = 0;rotate_left
 ·rw [if_pos h3]; exact ⟨fun e=>absurd e h3,fun h=>absurd ((pQ _ _).2 h.places) h3⟩
 rw [if_neg (by simp [h3])];by_cases h4:(ay (fo y y.first) y.first 0).2 = 0;rotate_left
 ·rw [if_pos h4]; exact ⟨fun e=>absurd e h4,fun h=>absurd ((fC _ _).2 h.first) h4⟩
 rw [if_neg (by simp [h4])];by_cases h5:(ay (kE y) y.papers 0).2 = 0;rotate_left
 ·rw [if_pos h5]; exact ⟨fun e=>absurd e h5,fun h=>absurd ((mN _).2 h.papers) h5⟩
 rw [if_neg (by simp [h5])];by_cases h6:(ay (fo y y.last) y.last 0).2 = 0;rotate_left
 ·rw [if_pos h6]; exact ⟨fun e=>absurd e h6,fun h=>absurd ((fC _ _).2 h.last) h6⟩
 rw [if_neg (by simp [h6])];exact ⟨fun _=>⟨by omega,by omega,by omega,by omega,by omega,(pQ _ _).1 h2,(pQ _ _).1 h3,(fC _ _).1 h4,(mN _).1 h5,(fC _ _).1 h6⟩,fun _=>rfl⟩
theorem bS.ok {nm:ByteArray → Bool} {y:ab} (h:bS nm y):ml y:=⟨h.p4.2,fun c hc=>(h.first.1 c hc).toBV,fun c hc=>(h.last.1 c hc).toBV⟩
def pZ (l:List Nat) (n:Nat):Bool:=l.any fun x=>decide (x = n)
theorem kh {l:List Nat} {n:Nat}:pZ l n = true ↔ n ∈ l:=by simp [pZ]
def b9 (y:ab) (wrong:List Nat) (i:Nat):Bool:=match y.papers[i]? with
 | none=>false
 | some p=>decide ((i:Int) < p.copy) && !pZ wrong i && !pZ wrong p.copy.toNat && decide (p.kilos ≠ cJ y p.copy.toNat)
def ba (y:ab) (wrong:List Nat) (k:Int):List b7:=fX (bo y wrong) k y.papers 0
def j6 (y:ab) (wrong:List Nat) (k:Int) (P:Nat):Int:=fF (b6 P) y.places.length y k (ba y wrong k)
def eA (y:ab) (wrong:List Nat) (k:Int) (P:Nat):Int:=cy (b6 P) y.places.length y k (ba y wrong k)
structure bj where
 paper:Int
 kind:Int
 places:Int
 over:Int
def mf (y:ab) (wrong:List Nat) (k P:Nat):Option bj:=
 if P = 0 then none else if 0 < j6 y wrong k P then some ⟨-1,k,P,j6 y wrong k P⟩ else if eA y wrong k P < 0 then some ⟨-1,k,P,eA y wrong k P⟩ else none
def k9 (y:ab) (wrong:List Nat) (k:Nat):Option bj:=(List.range (2 ^ y.places.length)).findSome? (mf y wrong k)
def nW (y:ab) (wrong:List Nat):Option Nat:=(List.range y.papers.length).find? (b9 y wrong)
def zK (y:ab) (wrong:List Nat):Option bj:=match nW y wrong with
 | some i=>some ⟨i,0,0,0⟩
 | none=>(List.range y.kinds.length).findSome? (k9 y wrong)
def aF (y:ab) (wrong:List Nat):Bool:=(zK y wrong).isNone
def Cn (y:ab) (wrong:List Nat) (k:Int):Prop:=∃ f,bh (y.places.length + 2) (aV y k y.places.length (ba y wrong k) (-aq) aq) f
theorem qO {nm:ByteArray → Bool} {y:ab} (h:bS nm y) (i:Nat):Big (cJ y i):=by
 unfold cJ
 cases hi:y.papers[i]? with
 | none=>exact ⟨by simp,by simp⟩
 | some p=>
  obtain ⟨h1,rfl⟩:=List.getElem?_eq_some_iff.1 hi;exact (h.papers i h1).kilos
theorem xz {nm:ByteArray → Bool} {y:ab} (h:bS nm y) (wrong:List Nat) {p:ak} (hp:Big p.kilos) (i:Nat):Big (bo y wrong p i).1 ∧ Big (bo y wrong p i).2 ∧ (bo y wrong p i).1 ≤ (bo y wrong p i).2:=by
 have k1:=qO h (min i p.copy.toNat);have k2:=qO h (max i p.copy.toNat);unfold bo;unfold Big at *;split
 ·split
  ·exact ⟨⟨by simp,by simp⟩,⟨by simp,by simp⟩,by simp⟩
  ·exact ⟨hp,hp,Int.le_refl _⟩
 split
 ·exact ⟨k1,k1,Int.le_refl _⟩
 split
 ·exact ⟨k2,k2,Int.le_refl _⟩
 ·exact ⟨⟨by simp,by simp⟩,⟨by simp,by simp⟩,by simp⟩
theorem BE {n:Nat} {al:ak → Nat → Int × Int} {k:Int}:∀ (l:List ak) (i:Nat),(∀ j (h:j < l.length),(-1 ≤ l[j].src ∧ l[j].src < n) ∧ (-1 ≤ l[j].dst ∧ l[j].dst < n) ∧ l[j].src ≠ l[j].dst ∧ Big (al l[j] (i + j)).1 ∧ Big (al l[j] (i + j)).2 ∧ (al l[j] (i + j)).1 ≤ (al l[j] (i + j)).2) → (∀ x ∈ fX al k l i,eV n x) ∧ (fX al k l i).length ≤ l.length
 | [],i,_=>by simp [fX]
 | p :: r,i,h=>by
  obtain ⟨h1,h2⟩:=BE r (i + 1) fun j hj=>by
   have:=h (j + 1) (by simpa using hj);rw [show i + (j + 1) = i + 1 + j by omega] at this;simpa using this
  have h0:=h 0 (by simp);simp only [List.getElem_cons_zero,Nat.add_zero] at h0;simp only [fX];split
  ·refine ⟨fun x hx=>?_,by simp; omega⟩;rcases List.mem_cons.1 hx with rfl | hx
   ·exact ⟨h0.1,h0.2.1,h0.2.2.1,h0.2.2.2.1,h0.2.2.2.2.1,h0.2.2.2.2.2⟩
   ·exact h1 x hx
  ·exact ⟨h1,by simp; omega⟩
theorem oe {nm:ByteArray → Bool} {y:ab} (h:bS nm y) (wrong:List Nat) (k:Int):(∀ x ∈ ba y wrong k,eV y.places.length x) ∧ (ba y wrong k).length ≤ 10:=by
 have:=BE (n:=y.places.length) (al:=bo y wrong) (k:=k) y.papers 0 fun j hj=>by
  have hp:=h.papers j hj;rw [Nat.zero_add];exact ⟨hp.src,hp.dst,hp.ne,xz h wrong hp.kilos j⟩
 exact ⟨this.1,by have:=this.2; have:=h.m10; unfold ba; omega⟩
theorem BN (A:Nat → Bool) (n:Nat) (y:ab) (k:Int) (js:List b7):0 ≤ fF A n y k js ∧ cy A n y k js ≤ 0:=by
 unfold fF cy;constructor
 ·split <;> omega
 ·omega
theorem tB {nm:ByteArray → Bool} {y:ab} (h:bS nm y) (wrong:List Nat) (k:Nat):Cn y wrong k ↔ k9 y wrong k = none:=by
 obtain ⟨h1,h2⟩:=oe h wrong k;unfold Cn;rw [vL h.ok h.p4.2 h1 h2];unfold k9;rw [List.findSome?_eq_none_iff];constructor
 ·intro hh P hP;rw [List.mem_range] at hP;unfold mf;split
  ·rfl
  ·rename_i h0;obtain ⟨a,b⟩:=hh P (by omega) hP;unfold j6 eA;rw [a,b]; simp
 ·intro hh P h0 hP;have:=hh P (List.mem_range.2 hP);obtain ⟨n1,n2⟩:=BN (b6 P) y.places.length y k (ba y wrong k);unfold mf at this;rw [if_neg (by omega)] at this
  split at this
  ·cases this
  ·rename_i g1
   split at this
   ·cases this
   ·rename_i g2;unfold j6 at g1;unfold eA at g2;omega
theorem dD {nm:ByteArray → Bool} {y:ab} (h:bS nm y) (wrong:List Nat):aF y wrong = true ↔ (∀ i,i < y.papers.length → b9 y wrong i = false) ∧ ∀ k,k < y.kinds.length → Cn y wrong (k:Nat):=by
 unfold aF zK
 cases ht:nW y wrong with
 | some i=>
  dsimp only;refine ⟨fun e=>by simp at e,fun ⟨h1,_⟩=>?_⟩;have h2:=List.find?_some ht;have h3:=List.mem_of_find?_eq_some ht;rw [h1 i (List.mem_range.1 h3)] at h2; cases h2
 | none=>
  dsimp only;have h1:∀ i,i < y.papers.length → b9 y wrong i = false:=fun i hi=>by
   have:=List.find?_eq_none.1 ht i (List.mem_range.2 hi);simpa using this
  rw [Option.isNone_iff_eq_none,List.findSome?_eq_none_iff];constructor
  ·intro hh;exact ⟨h1,fun k hk=>(tB h wrong k).2 (hh k (List.mem_range.2 hk))⟩
  ·rintro ⟨_,h2⟩ k hk;exact (tB h wrong k).1 (h2 k (List.mem_range.1 hk))
/-! ### wider bounds -/
inductive db:List aA → List aA → Prop
 | nil:db [] []
 | cons {a b:aA} {l r:List aA}:a.src = b.src → a.dst = b.dst → b.low ≤ a.low → a.high ≤ b.high → db l r → db (a :: l) (b :: r)
theorem db.refl:∀ l,db l l
 | []=>.nil
 | _ :: r=>.cons rfl rfl (Int.le_refl _) (Int.le_refl _) (db.refl r)
theorem db.app {a b c d:List aA} (h:db a b) (g:db c d):db (a ++ c) (b ++ d):=by
 induction h with
 | nil=>exact g
 | cons h1 h2 h3 h4 _ ih=>exact .cons h1 h2 h3 h4 ih
theorem db.net {a b:List aA} (h:db a b) (n:Nat) (f:Nat → Int):∀ i,aU n a i f = aU n b i f:=by
 induction h with
 | nil=>intro i; rfl
 | cons h1 h2 _ _ _ ih=>intro i; simp only [aU,ih,h1,h2]
theorem db.inb {a b:List aA} (h:db a b):∀ (f:Nat → Int) (i:Nat),(∀ k (hk:k < a.length),a[k].low ≤ f (i + k) ∧ f (i + k) ≤ a[k].high) → ∀ k (hk:k < b.length),b[k].low ≤ f (i + k) ∧ f (i + k) ≤ b[k].high:=by
 induction h with
 | nil=>intro f i _ k hk; simp at hk
 | @cons a b l r h1 h2 h3 h4 _ ih=>
  intro f i hh k hk
  cases k with
  | zero=>
   have:=hh 0 (by simp);simp only [List.getElem_cons_zero] at this ⊢;omega
  | succ k=>
   have:=ih f (i + 1) (fun j hj=>by
    have:=hh (j + 1) (by simpa using hj);rw [show i + (j + 1) = i + 1 + j by omega] at this
    simpa using this) k (by simpa using hk)
   rw [show i + (k + 1) = i + 1 + k by omega];simpa using this
theorem db.Fg {N:Nat} {a b:List aA} (h:db a b) {f:Nat → Int} (hc:bh N a f):bh N b f:=
 ⟨fun k hk=>by
  have:=h.inb f 0 (fun j hj=>by rw [Nat.zero_add]; exact hc.inb j hj) k hk
  rwa [Nat.zero_add] at this,fun n hn=>by rw [← h.net n f 0]; exact hc.net n hn⟩
theorem wV {n:Nat} {al be:ak → Nat → Int × Int} {k:Int}:∀ (l:List ak) (i:Nat),(∀ j (h:j < l.length),l[j].kind = k → bY l[j] (i + j) = true → (be l[j] (i + j)).1 ≤ (al l[j] (i + j)).1 ∧ (al l[j] (i + j)).2 ≤ (be l[j] (i + j)).2) → db ((fX al k l i).map (bW n)) ((fX be k l i).map (bW n))
 | [],i,_=>by simp only [fX,List.map_nil]; exact .nil
 | p :: r,i,h=>by
  have ih:=wV (n:=n) r (i + 1) fun j hj=>by
   have:=h (j + 1) (by simpa using hj);rw [show i + (j + 1) = i + 1 + j by omega] at this;simpa using this
  have h0:=h 0 (by simp);simp only [List.getElem_cons_zero,Nat.add_zero] at h0;simp only [fX];split
  ·rename_i hc;obtain ⟨a,b⟩:=h0 hc.1 hc.2;simp only [List.map_cons];exact .cons rfl rfl a b ih
  ·exact ih
theorem As {y:ab} {k:Int} {n:Nat} {js ks:List b7} (h:db (js.map (bW n)) (ks.map (bW n))) (lo hi:Int):db (aV y k n js lo hi) (aV y k n ks lo hi):=
 ((db.refl _).app h).app (db.refl _)
theorem wm {y:ab} {wrong:List Nat} {p:ak} {i:Nat} (h:p.copy < 0):bo y wrong p i = if i ∈ wrong then (0,1000000) else (p.kilos,p.kilos):=by
 unfold bo; rw [if_pos h]
theorem wI {y:ab} {wrong:List Nat} {p:ak} {i c:Nat} (h:p.copy = c) (hlt:i < c):bo y wrong p i = if ¬ i ∈ wrong then (cJ y i,cJ y i) else if ¬ c ∈ wrong then (cJ y c,cJ y c) else (0,1000000):=by
 have e1:min i p.copy.toNat = i:=by omega
 have e2:max i p.copy.toNat = c:=by omega
 unfold bo; rw [if_neg (show ¬ p.copy < 0 by omega),e1,e2]
theorem AO {nm:ByteArray → Bool} {y:ab} (h:bS nm y) {wrong more:List Nat} (hs:∀ i ∈ wrong,i ∈ more) (ht:∀ i,i < y.papers.length → b9 y wrong i = false) {i:Nat} (hi:i < y.papers.length) (hl:bY y.papers[i] i = true) :
  (bo y more y.papers[i] i).1 ≤ (bo y wrong y.papers[i] i).1 ∧ (bo y wrong y.papers[i] i).2 ≤ (bo y more y.papers[i] i).2:=by
 have hp:=h.papers i hi;have hd:=ht i hi;unfold b9 at hd;rw [List.getElem?_eq_getElem hi] at hd;dsimp only at hd;have hki:cJ y i = y.papers[i].kilos:=by unfold cJ; rw [List.getElem?_eq_getElem hi]
 generalize y.papers[i] = p at *;have hb:=hp.kilos;have kb:=qO h;unfold bY at hl;rcases hp.copy with hc | ⟨c1,c2,c3,_⟩
 ·rw [wm (show p.copy < 0 by omega),wm (show p.copy < 0 by omega)];by_cases w:i ∈ wrong
  ·rw [if_pos w,if_pos (hs i w)]; simp
  ·rw [if_neg w];by_cases m:i ∈ more
   ·rw [if_pos m]; exact ⟨hb.1,hb.2⟩
   ·rw [if_neg m]; simp
 ·have hlt:(i:Int) < p.copy:=by simp at hl; omega
  obtain ⟨c,hc⟩:∃ c:Nat,p.copy = c:=⟨p.copy.toNat,by omega⟩
  have e3:p.copy.toNat = c:=by omega
  rw [wI hc (by omega),wI hc (by omega)];rw [e3,decide_eq_true hlt] at hd;have kc:=kb c;unfold Big at hb kc;have hw1:pZ wrong i = true ↔ i ∈ wrong:=kh;have hw2:pZ wrong c = true ↔ c ∈ wrong:=kh;by_cases w1:i ∈ wrong
  ·have m1:=hs i w1;by_cases w2:c ∈ wrong
   ·have m2:=hs c w2;simp [w1,w2,m1,m2]
   ·by_cases m2:c ∈ more
    ·simp [w1,w2,m1,m2]; exact kc
    ·simp [w1,w2,m1,m2]
  ·by_cases m1:i ∈ more
   ·by_cases m2:c ∈ more
    ·simp [w1,m1,m2,hki]; exact hb
    ·have w2:¬ c ∈ wrong:=fun e=>m2 (hs c e)
     have:p.kilos = cJ y c:=by
      have f1:pZ wrong i = false:=by rw [Bool.eq_false_iff]; exact fun e=>w1 (hw1.1 e)
      have f2:pZ wrong c = false:=by rw [Bool.eq_false_iff]; exact fun e=>w2 (hw2.1 e)
      rw [f1,f2] at hd;simpa using hd
     simp [w1,m1,m2,hki,this]
   ·simp [w1,m1]
theorem zz {y:ab} {wrong more:List Nat} (hs:∀ i ∈ wrong,i ∈ more) {i:Nat} (h:b9 y wrong i = false):b9 y more i = false:=by
 unfold b9 at h ⊢;split
 ·rfl
 ·rename_i p hp;rw [hp] at h;dsimp only at h;have m:∀ n,pZ wrong n = true → pZ more n = true:=fun n hn=>kh.2 (hs n (kh.1 hn))
  rw [Bool.eq_false_iff] at h ⊢;intro e;apply h;simp only [Bool.and_eq_true,Bool.not_eq_true',Bool.eq_false_iff] at e ⊢;exact ⟨⟨⟨e.1.1.1,fun w=>e.1.1.2 (m _ w)⟩,fun w=>e.1.2 (m _ w)⟩,e.2⟩
theorem oM {nm:ByteArray → Bool} {y:ab} (h:bS nm y) {wrong more:List Nat} (hs:∀ i ∈ wrong,i ∈ more) (ht:∀ i,i < y.papers.length → b9 y wrong i = false) (k lo hi:Int) :
  db (aV y k y.places.length (ba y wrong k) lo hi) (aV y k y.places.length (ba y more k) lo hi):=by
 refine As (wV y.papers 0 fun j hj _ hl=>?_) lo hi;rw [Nat.zero_add] at hl ⊢;exact AO h hs ht hj hl
theorem lL {nm:ByteArray → Bool} {y:ab} (h:bS nm y) {wrong more:List Nat} (hs:∀ i ∈ wrong,i ∈ more) (hc:aF y wrong = true):aF y more = true:=by
 obtain ⟨h1,h2⟩:=(dD h wrong).1 hc;refine (dD h more).2 ⟨fun i hi=>zz hs (h1 i hi),fun k hk=>?_⟩;obtain ⟨f,hf⟩:=h2 k hk;exact ⟨f,(oM h hs h1 k _ _).Fg hf⟩
def dw (m:Nat):Nat → Nat → List (List Nat)
 | 0,_=>[[]]
 | many + 1,a=>(List.range' a (m - a)).flatMap fun i=>(dw m many (i + 1)).map fun l=>i :: l
def qH (m a:Nat) (l:List Nat):Prop:=l.Pairwise (· < ·) ∧ ∀ x ∈ l,a ≤ x ∧ x < m
theorem gP (m:Nat):∀ (many a:Nat) (l:List Nat),l ∈ dw m many a ↔ l.length = many ∧ qH m a l
 | 0,a,l=>by
  simp only [dw,List.mem_singleton];constructor
  ·rintro rfl; exact ⟨rfl, .nil,by simp⟩
  ·intro h; exact List.eq_nil_of_length_eq_zero h.1
 | many + 1,a,l=>by
  simp only [dw,List.mem_flatMap,List.mem_map];constructor
  ·rintro ⟨i,hi,r,hr,rfl⟩;rw [List.mem_range'_1] at hi;obtain ⟨h1,h2,h3⟩:=(gP m many (i + 1) r).1 hr;refine ⟨by simp [h1],List.pairwise_cons.2 ⟨fun x hx=>by have:=h3 x hx; omega,h2⟩,fun x hx=>?_⟩;rcases List.mem_cons.1 hx with rfl | hx
   ·omega
   ·have:=h3 x hx; omega
  ·rintro ⟨h1,h2,h3⟩
   cases l with
   | nil=>simp at h1
   | cons i r=>
    have hi:=h3 i (by simp);obtain ⟨h4,h5⟩:=List.pairwise_cons.1 h2;exact ⟨i,List.mem_range'_1.2 ⟨hi.1,by omega⟩,r,(gP m many (i + 1) r).2 ⟨by simpa using h1,h5,fun x hx=>⟨by have:=h4 x hx; omega,(h3 x (by simp [hx])).2⟩⟩,rfl⟩
theorem pE {m a:Nat}:∀ {l:List Nat},qH m a l → l.length ≤ m - a
 | [],_=>by simp
 | x :: r,h=>by
  have hx:=h.2 x (by simp);obtain ⟨h1,h2⟩:=List.pairwise_cons.1 h.1;have:=pE (m:=m) (a:=x + 1) (l:=r) ⟨h2,fun z hz=>⟨by have:=h1 z hz; omega,(h.2 z (by simp [hz])).2⟩⟩;simp only [List.length_cons]; omega
def eO (m but:Nat):List Nat:=(List.range m).filter fun i=>decide (i ≠ but)
theorem BC {m but i:Nat}:i ∈ eO m but ↔ i < m ∧ i ≠ but:=by simp [eO]
theorem nw (m:Nat) (p:Nat → Bool):qH m 0 ((List.range m).filter p):=
 ⟨(List.pairwise_lt_range).filter _,fun x hx=>⟨by omega,List.mem_range.1 (List.mem_filter.1 hx).1⟩⟩
def kY (y:ab):Option (List Nat):=(List.range (y.papers.length + 1)).findSome? fun many=>(dw y.papers.length many 0).find? (aF y)
def atW (y:ab) (many:Nat):List (List Nat):=(dw y.papers.length many 0).filter (aF y)
def kI (y:ab):Option (List (List Nat)):=(List.range (y.papers.length + 1)).findSome? fun many=>if atW y many = [] then none else some (atW y many)
def Hz (y:ab):List Nat:=(List.range y.papers.length).filter fun i=>!aF y (eO y.papers.length i)
def F0 (y:ab) (ls:List (List Nat)):List Nat:=(List.range y.papers.length).filter fun i=>ls.any fun l=>pZ l i
def Few (y:ab) (l:List Nat):Prop:=qH y.papers.length 0 l ∧ aF y l = true ∧ ∀ l',qH y.papers.length 0 l' → aF y l' = true → l.length ≤ l'.length
theorem eE {α β:Type} {f:α → Option β}:∀ {l:List α} {b:β},l.findSome? f = some b → ∃ l1 a l2,l = l1 ++ a :: l2 ∧ f a = some b ∧ ∀ x ∈ l1,f x = none
 | [],b,h=>by simp at h
 | a :: r,b,h=>by
  cases ha:f a with
  | some c=>
   simp only [List.findSome?_cons,ha,Option.some.injEq] at h;exact ⟨[],a,r,rfl,by rw [ha,h],by simp⟩
  | none=>
   simp only [List.findSome?_cons,ha] at h;obtain ⟨l1,a',l2,e,h1,h2⟩:=eE h;refine ⟨a :: l1,a',l2,by rw [e]; rfl,h1,fun x hx=>?_⟩;rcases List.mem_cons.1 hx with rfl | hx
   ·exact ha
   ·exact h2 x hx
theorem me {n a:Nat} {l1 l2:List Nat} (h:List.range n = l1 ++ a :: l2):a < n ∧ ∀ x,x < a → x ∈ l1:=by
 have hl:a = l1.length:=by
  have h1:(List.range n)[l1.length]? = some a:=by rw [h]; simp
  rw [List.getElem?_range (by have:=congrArg List.length h; simp at this; omega)] at h1;exact (Option.some.inj h1).symm
 have hn:n = l1.length + (l2.length + 1):=by have:=congrArg List.length h; simpa using this
 refine ⟨by omega,fun x hx=>?_⟩;have h1:(List.range n)[x]? = some x:=List.getElem?_range (by omega);rw [h,List.getElem?_append_left (by omega)] at h1;exact List.mem_of_getElem? h1
theorem rU {y:ab} {l:List Nat} (h:kY y = some l):Few y l ∧ l.length ≤ y.papers.length ∧ (dw y.papers.length l.length 0).find? (aF y) = some l ∧ ∀ many,many < l.length → ∀ x ∈ dw y.papers.length many 0,aF y x = false:=by
 obtain ⟨l1,many,l2,e,h1,h2⟩:=eE h;obtain ⟨hm,hx⟩:=me e;obtain ⟨h3,h4⟩:=(gP _ _ _ _).1 (List.mem_of_find?_eq_some h1);subst h3;have hb:∀ many,many < l.length → ∀ x ∈ dw y.papers.length many 0,aF y x = false:=fun k hk x hxm=>by
  have:=h2 k (hx k hk);have:=List.find?_eq_none.1 this x hxm;simpa using this
 refine ⟨⟨h4,List.find?_some h1,fun l' ha hc=>?_⟩,by omega,h1,hb⟩;rcases Nat.lt_or_ge l'.length l.length with hlt | hge
 ·have:=hb l'.length hlt l' ((gP _ _ _ _).2 ⟨rfl,ha⟩);rw [hc] at this; cases this
 ·exact hge
theorem CN {y:ab} {l':List Nat} (ha:qH y.papers.length 0 l') (hc:aF y l' = true):∃ l,kY y = some l:=by
 cases h:kY y with
 | some l=>exact ⟨l,rfl⟩
 | none=>
  have h1:=List.findSome?_eq_none_iff.1 h l'.length (List.mem_range.2 (by have:=pE ha; omega));have h2:=List.find?_eq_none.1 h1 l' ((gP _ _ _ _).2 ⟨rfl,ha⟩);exact absurd hc h2
theorem A4 {nm:ByteArray → Bool} {y:ab} (h:bS nm y):(∃ l,kY y = some l) ↔ aF y (eO y.papers.length y.papers.length) = true:=by
 constructor
 ·rintro ⟨l,hl⟩;obtain ⟨⟨h1,h2,_⟩,_⟩:=rU hl;exact lL h (fun i hi=>BC.2 ⟨(h1.2 i hi).2,by have:=(h1.2 i hi).2; omega⟩) h2
 ·intro hc;exact CN (nw _ _) hc
theorem PS {y:ab} {l:List Nat} (h:kY y = some l):kI y = some (atW y l.length) ∧ atW y l.length = l :: (atW y l.length).tail:=by
 obtain ⟨_,hl,h1,h2⟩:=rU h;have hh:(atW y l.length).head? = some l:=by unfold atW; rw [List.head?_filter]; exact h1
 have hne:atW y l.length ≠ []:=fun e=>by rw [e] at hh; cases hh
 have hcons:atW y l.length = l :: (atW y l.length).tail:=by
  cases ha:atW y l.length with
  | nil=>exact absurd ha hne
  | cons a r=>rw [ha] at hh; simp at hh; rw [hh]; rfl
 refine ⟨?_,hcons⟩;have hz:∀ many,many < l.length → atW y many = []:=fun many hm=>List.filter_eq_nil_iff.2 fun x hx=>by rw [h2 many hm x hx]; simp
 unfold kI
 cases hs:(List.range (y.papers.length + 1)).findSome? fun many=>if atW y many = [] then none else some (atW y many) with
 | none=>
  have:=List.findSome?_eq_none_iff.1 hs l.length (List.mem_range.2 (by omega));rw [if_neg hne] at this; cases this
 | some x=>
  obtain ⟨l1,many,l2,e,h3,h4⟩:=eE hs;obtain ⟨hm,hx⟩:=me e;rcases Nat.lt_or_ge l.length many with hlt | hge
  ·have:=h4 _ (hx _ hlt);rw [if_neg hne] at this; cases this
  ·rcases Nat.lt_or_ge many l.length with hlt | hge2
   ·rw [if_pos (hz many hlt)] at h3; cases h3
   ·obtain rfl:many = l.length:=by omega
    rw [if_neg hne] at h3;exact h3.symm
theorem PN {y:ab} {i:Nat}:i ∈ Hz y ↔ i < y.papers.length ∧ aF y (eO y.papers.length i) = false:=by simp [Hz]
theorem F3 {y:ab} {ls:List (List Nat)} {i:Nat}:i ∈ F0 y ls ↔ i < y.papers.length ∧ ∃ l ∈ ls,i ∈ l:=by simp [F0,kh]
theorem PT {nm:ByteArray → Bool} {y:ab} (h:bS nm y) {i:Nat} (hi:i ∈ Hz y) {l:List Nat} (ha:qH y.papers.length 0 l) (hn:i ∉ l):aF y l = false:=by
 rw [Bool.eq_false_iff];intro hc;have h1:=(PN.1 hi).2;have h2:=lL h (more:=eO y.papers.length i) (fun j hj=>BC.2 ⟨(ha.2 j hj).2,fun e=>hn (e ▸ hj)⟩) hc;rw [h1] at h2; cases h2
/-! ### ranges exist -/
/-! ### the way of a journey -/
def e8 (k:Int):List ak → Nat → Nat → Nat
 | [],_,_=>0
 | p :: r,i,a=>if a ≤ i then 0 else (if p.kind = k ∧ bY p i = true then 1 else 0) + e8 k r (i + 1) a
theorem Bs {al:ak → Nat → Int × Int} {k:Int}:∀ (l:List ak) (i a:Nat) (h1:i ≤ a) (h2:a < i + l.length),(l[a - i]'(by omega)).kind = k → bY (l[a - i]'(by omega)) a = true →
  (fX al k l i)[e8 k l i a]? = some ⟨(l[a - i]'(by omega)).src,(l[a - i]'(by omega)).dst,(al (l[a - i]'(by omega)) a).1,(al (l[a - i]'(by omega)) a).2⟩
 | [],i,a,h1,h2,_,_=>by simp at h2; omega
 | p :: r,i,a,h1,h2,hk,hl=>by
  rcases Nat.eq_or_lt_of_le h1 with e | hlt
  ·subst e;simp only [Nat.sub_self,List.getElem_cons_zero] at hk hl ⊢;simp only [fX,e8];rw [if_pos ⟨hk,hl⟩,if_pos (Nat.le_refl _)]; rfl
  ·have e:a - i = (a - (i + 1)) + 1:=by omega
   simp only [e,List.getElem_cons_succ] at hk hl ⊢;have ih:=Bs (al:=al) r (i + 1) a hlt (by simp only [List.length_cons] at h2; omega) hk hl;simp only [fX,e8];rw [if_neg (by omega:¬ a ≤ i)];split
   ·rw [Nat.add_comm 1,List.getElem?_cons_succ]; exact ih
   ·rw [Nat.zero_add]; exact ih
theorem dp (y:ab) (k:Int) (n:Nat):∀ m,(cH y k n m).length = 2 * m
 | 0=>rfl
 | m + 1=>by simp only [cH,List.length_append,dp y k n m]; simp; omega
theorem pB {y:ab} {k:Int} {n:Nat} {js:List b7} {lo hi:Int} {c:Nat} (h:c < js.length):(aV y k n js lo hi)[2 * n + c]? = some (bW n js[c]):=by
 unfold aV;rw [List.getElem?_append_left (by simp [dp]; omega),List.getElem?_append_right (by rw [dp]; omega),dp];simp [h]
theorem iZ (y:ab) (k:Int) (n:Nat) (js:List b7) (lo hi:Int):(aV y k n js lo hi).length = 2 * n + js.length + 1:=by
 simp [aV,dp]; omega
theorem pb {α:Type} (f:α → α):∀ (l r:List α) (i:Nat),l.length ≤ i → (l ++ r).modify i f = l ++ r.modify (i - l.length) f
 | [],r,i,_=>by simp
 | a :: l,r,0,h=>by simp at h
 | a :: l,r,i + 1,h=>by
  simp only [List.cons_append,List.modify_succ_cons,List.length_cons];rw [pb f l r i (by simpa using h),Nat.add_sub_add_right]
theorem si {α:Type} (f:α → α):∀ (l r:List α) (i:Nat),i < l.length → (l ++ r).modify i f = l.modify i f ++ r
 | [],r,i,h=>by simp at h
 | a :: l,r,0,_=>rfl
 | a :: l,r,i + 1,h=>by
  simp only [List.cons_append,List.modify_succ_cons];rw [si f l r i (by simpa using h)]
theorem uv {α β:Type} (g:α → β) (f:α → α) (f':β → β) (h:∀ a,g (f a) = f' (g a)):∀ (l:List α) (i:Nat),(l.modify i f).map g = (l.map g).modify i f'
 | [],i=>by simp
 | a :: l,0=>by simp [h]
 | a :: l,i + 1=>by simp only [List.modify_succ_cons,List.map_cons,uv g f f' h l i]
theorem DD {y:ab} {k:Int} {n:Nat} {js:List b7} {lo hi:Int} {c:Nat} (h:c < js.length) (a b:Int):aV y k n (js.modify c fun j=>⟨j.src,j.dst,a,b⟩) lo hi = kQ (aV y k n js lo hi) (2 * n + c) a b:=by
 unfold aV kQ;rw [si _ _ _ _ (by simp [dp]; omega),pb _ _ _ _ (by rw [dp]; omega),dp];rw [uv (bW n) _ (fun e:aA=>(⟨e.src,e.dst,a,b⟩:aA)) (fun j=>rfl)];rw [show 2 * n + c - 2 * n = c by omega]
end Go.AM
