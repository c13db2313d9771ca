/- The range of what can go on a way; the outside az one place more. Plain. A yard of waste: its check; papers that are false; whether it closes, and why not. Plain. Whether a yard of waste closes, .. -/
import Derived.Test.YtlmhkldmpggadaaGreatDoorP17
namespace Go.AM
structure ik (N:Nat) (es:List aI) (i0:Nat) (lo hi:Int):Prop where
 least:∃ f,bE N es f ∧ f i0 = lo
 most:∃ f,bE N es f ∧ f i0 = hi
 all:∀ f,bE N es f → lo ≤ f i0 ∧ f i0 ≤ hi
theorem ik.unique {N:Nat} {es:List aI} {i0:Nat} {a b c d:Int} (h:ik N es i0 a b) (g:ik N es i0 c d):a = c ∧ b = d:=by
 obtain ⟨f1,c1,e1⟩:=h.least;obtain ⟨f2,c2,e2⟩:=h.most;obtain ⟨f3,c3,e3⟩:=g.least;obtain ⟨f4,c4,e4⟩:=g.most;have h1:=g.all f1 c1;have h2:=g.all f2 c2;have h3:=h.all f3 c3;have h4:=h.all f4 c4;omega
def iF (es:List aI) (i0:Nat) (lo hi:Int):List aI:=es.modify i0 fun e=>⟨e.src,e.dst,lo,hi⟩
theorem l9 (es:List aI) (i0:Nat) (lo hi:Int):(iF es i0 lo hi).length = es.length:=by simp [iF]
theorem sq {es:List aI} {i0:Nat} {lo hi:Int} {i:Nat} (h:i < es.length) (h':i < (iF es i0 lo hi).length):(iF es i0 lo hi)[i] = if i = i0 then ⟨es[i].src,es[i].dst,lo,hi⟩ else es[i]:=by
 have e1:(iF es i0 lo hi)[i] = if i0 = i then (fun e:aI=>(⟨e.src,e.dst,lo,hi⟩:aI)) es[i] else es[i]:=List.getElem_modify ..;rw [e1];by_cases e:i0 = i
 ·rw [if_pos e,if_pos e.symm]
 ·rw [if_neg e,if_neg (Ne.symm e)]
theorem xR (n:Nat) (f:Nat → Int) (lo hi:Int):∀ (es:List aI) (i0 j:Nat),aS n (iF es i0 lo hi) j f = aS n es j f
 | [],i0,j=>by simp [iF]
 | e :: r,0,j=>by simp [iF,aS]
 | e :: r,i0 + 1,j=>by
  have ih:=xR n f lo hi r i0 (j + 1);simp only [iF] at ih;simp [iF,aS,ih]
theorem fG {N:Nat} {es:List aI} {i0:Nat} (h0:i0 < es.length) {lo hi:Int} (h1:es[i0].low ≤ lo) (h2:hi ≤ es[i0].high) (f:Nat → Int):bE N (iF es i0 lo hi) f ↔ bE N es f ∧ lo ≤ f i0 ∧ f i0 ≤ hi:=by
 constructor
 ·rintro ⟨hb,hn⟩;have hi0:=hb i0 (by rw [l9]; exact h0);rw [sq h0 (by rw [l9]; exact h0),if_pos rfl] at hi0;refine ⟨⟨fun i hi=>?_,fun n hN=>by rw [← xR n f lo hi es i0 0]; exact hn n hN⟩,hi0⟩;have:=hb i (by rw [l9]; exact hi);rw [sq hi (by rw [l9]; exact hi)] at this;by_cases e:i = i0
  ·subst e;rw [if_pos rfl] at this;dsimp only at this;omega
  ·rw [if_neg e] at this; exact this
 ·rintro ⟨⟨hb,hn⟩,h3,h4⟩;refine ⟨fun i hi=>?_,fun n hN=>by rw [xR]; exact hn n hN⟩;have hi':i < es.length:=by rwa [l9] at hi
  rw [sq hi' hi];split
  ·rename_i e; subst e; exact ⟨h3,h4⟩
  ·exact hb i hi'
theorem ik.below {N:Nat} {es:List aI} {i0:Nat} (h0:i0 < es.length) {lo hi:Int} (hr:ik N es i0 lo hi) {m:Int} (hm:m ≤ es[i0].high):(∃ f,bE N (iF es i0 es[i0].low m) f) ↔ lo ≤ m:=by
 constructor
 ·rintro ⟨f,hf⟩;obtain ⟨h1,h2,h3⟩:=(fG h0 (Int.le_refl _) hm f).1 hf;have:=hr.all f h1;omega
 ·intro h;obtain ⟨f,cf,ef⟩:=hr.least;exact ⟨f,(fG h0 (Int.le_refl _) hm f).2 ⟨cf,(cf.inb i0 h0).1,by omega⟩⟩
theorem ik.PH {N:Nat} {es:List aI} {i0:Nat} (h0:i0 < es.length) {lo hi:Int} (hr:ik N es i0 lo hi) {m:Int} (hm:es[i0].low ≤ m):(∃ f,bE N (iF es i0 m es[i0].high) f) ↔ m ≤ hi:=by
 constructor
 ·rintro ⟨f,hf⟩;obtain ⟨h1,h2,h3⟩:=(fG h0 hm (Int.le_refl _) f).1 hf;have:=hr.all f h1;omega
 ·intro h;obtain ⟨f,cf,ef⟩:=hr.most;exact ⟨f,(fG h0 hm (Int.le_refl _) f).2 ⟨cf,by omega,(cf.inb i0 h0).2⟩⟩
/-! ### with the outside -/
def amo (A:Nat → Bool) (a:Int):Bool:=decide (a < 0) || A a.toNat
def vr (A:Nat → Bool) (j:b8):Int:=(if amo A j.dst && !amo A j.src then j.lo else 0) - (if amo A j.src && !amo A j.dst then j.hi else 0)
def uZ (A:Nat → Bool) (j:b8):Int:=(if amo A j.dst && !amo A j.src then j.hi else 0) - (if amo A j.src && !amo A j.dst then j.lo else 0)
def jG (A:Nat → Bool) (n:Nat) (y:ab) (k:Int) (js:List b8):Int:=dL A n (fun a=>loC (aB y.first k a)) + bO (vr A) js
def lC (A:Nat → Bool) (n:Nat) (y:ab) (k:Int) (js:List b8):Int:=dL A n (fun a=>hiC (aB y.first k a)) + bO (uZ A) js
theorem Bk {S:Nat → Bool} {n:Nat} (hn:S n = true) {a:Int}:S (fj n a) = amo S a:=by
 unfold fj amo;split
 ·rename_i h; rw [hn,decide_eq_true h]; rfl
 ·rename_i h; rw [decide_eq_false h]; rfl
theorem zD {S:Nat → Bool} {n:Nat} (hn:S n = false) {a:Int}:S (fj n a) = !amo (fun x=>!S x) a:=by
 unfold fj amo;split
 ·rename_i h; rw [hn,decide_eq_true h]; rfl
 ·rename_i h; rw [decide_eq_false h]; simp
theorem Bu {S:Nat → Bool} {n:Nat} (hn:S n = true):∀ (js:List b8),dZ S (js.map (cZ n)) = bO (vr S) js
 | []=>rfl
 | j :: r=>by
  simp only [List.map_cons,dZ,bO,Bu hn r,cZ,vr];rw [Bk hn,Bk hn]
theorem yR {S:Nat → Bool} {n:Nat} (hn:S n = false):∀ (js:List b8),dZ S (js.map (cZ n)) = - bO (uZ fun x=>!S x) js
 | []=>rfl
 | j :: r=>by
  simp only [List.map_cons,dZ,bO,yR hn r,cZ,uZ];rw [zD hn,zD hn];cases amo (fun x=>!S x) j.src <;> cases amo (fun x=>!S x) j.dst <;> simp <;> omega
theorem y8 {A B:Nat → Bool} {n:Nat} (h:∀ a,a < n → A a = B a) {x:Int} (h1:x < n):amo A x = amo B x:=by
 unfold amo;rcases Int.lt_or_le x 0 with h2 | h2
 ·rw [decide_eq_true h2]; rfl
 ·rw [h x.toNat (by omega)]
theorem lx {A B:Nat → Bool} {n:Nat} (h:∀ a,a < n → A a = B a):∀ {js:List b8},(∀ j ∈ js,eS n j) → bO (vr A) js = bO (vr B) js ∧ bO (uZ A) js = bO (uZ B) js
 | [],_=>⟨rfl,rfl⟩
 | j :: r,hj=>by
  obtain ⟨h1,h2⟩:=lx h (js:=r) fun x hx=>hj x (by simp [hx]);have h3:=hj j (by simp);simp only [bO,vr,uZ];rw [h1,h2,y8 h h3.src.2,y8 h h3.dst.2];exact ⟨rfl,rfl⟩
theorem EM {A:Nat → Bool} {n:Nat}:∀ js:List b8,(∀ j ∈ js,eS n j) → - (js.length * 1000000:Int) ≤ bO (vr A) js ∧ bO (vr A) js ≤ js.length * 1000000 ∧ - (js.length * 1000000:Int) ≤ bO (uZ A) js ∧ bO (uZ A) js ≤ js.length * 1000000
 | [],_=>by simp [bO]
 | j :: r,h=>by
  have ih:=EM (A:=A) r fun x hx=>h x (by simp [hx]);have hj:=h j (by simp);have h1:=hj.lo;have h2:=hj.hi;unfold Big at h1 h2;simp only [bO,vr,uZ,List.length_cons];cases amo A j.src <;> cases amo A j.dst <;> simp <;> omega
def okO (A:Nat → Bool) (n:Nat) (y:ab) (k:Int) (js:List b8) (lo hi:Int):Prop:=
 (dc A n y k js = 0 ∧ bz A n y k js = 0) ∧ (cz A y k n = true → jG A n y k js ≤ fb A n y k + hi) ∧ eO A n y k + lo ≤ lC A n y k js
theorem GB {A B:Nat → Bool} {n:Nat} (h:∀ a,a < n → A a = B a) (y:ab) (k:Int) {js:List b8} (hj:∀ j ∈ js,eS n j) (lo hi:Int):okO A n y k js lo hi ↔ okO B n y k js lo hi:=by
 obtain ⟨h1,h2⟩:=lx h hj;obtain ⟨h3,h4⟩:=iQ h y k hj;unfold okO jG lC eO fb;rw [jX h,dy _ h,dy _ h,dy _ h,dy _ h,h1,h2,h3,h4]
theorem FR {y:ab} (hy:oU y) {k:Int} {n:Nat} (hn:n ≤ 4) {js:List b8} (hj:∀ j ∈ js,eS n j) (hl:js.length ≤ 10) {lo hi:Int} (hlh:lo ≤ hi) (hb1:-1000000000 ≤ lo) (_hb2:hi ≤ 1000000000) :
  (∃ f,bE (n + 2) (aW y k n js lo hi) f) ↔ ∀ A,okO A n y k js lo hi:=by
 rw [sj (AV hy k hj hlh)];have f01:∀ (S:Nat → Bool),S n = true → S (n + 1) = false → dZ S (aW y k n js lo hi) = jG S n y k js - dL S n (fun a=>dh y k a) - hi:=by
  intro S h1 h2;simp only [aW,iq,vF h2,Bu h1 js,dZ,h1,h2,jG];simp; omega
 have f10:∀ (S:Nat → Bool),S n = false → S (n + 1) = true → dZ S (aW y k n js lo hi) = eO (fun x=>!S x) n y k + lo - lC (fun x=>!S x) n y k js:=by
  intro S h1 h2;simp only [aW,iq,tg h2,yR h1 js,dZ,h1,h2,lC,eO];simp; omega
 have hb:=fun A=>LY (A:=A) hy (k:=k) hn hj hl;have hbo:∀ A,jG A n y k js ≤ 14000000:=fun A=>by
  have h1:=(da (A:=A) (g:=fun a=>loC (aB y.first k a)) (c:=1000000) (by omega) (fun a=>(bx hy.first k a).1) n).2;have h3:=EM (A:=A) js hj;unfold jG;omega
 constructor
 ·intro h A;refine ⟨⟨?_, ?_⟩, ?_, ?_⟩
  ·have hS:=iQ (A:=A) (B:=fun x=>decide (x < n) && A x) (n:=n) (fun a ha=>by simp [ha]) y k hj;rw [hS.1];generalize hB:(fun x=>decide (x < n) && A x) = B;have hBn:B n = false:=by rw [← hB]; simp
   have hBn1:B (n + 1) = false:=by
    rw [← hB];show (decide (n + 1 < n) && A (n + 1)) = false;rw [decide_eq_false (by omega)]; rfl
   have h1:=h B;rw [(jo hj).1 hBn hBn1] at h1;unfold dc;split
   ·rename_i hw;rw [jt hw] at h1; omega
   ·rfl
  ·have hS:=iQ (A:=A) (B:=fun x=>!(decide (n ≤ x) || !A x)) (n:=n) (fun a ha=>by simp; omega) y k hj;rw [hS.2];generalize hB:(fun x=>decide (n ≤ x) || !A x) = B;have hBn:B n = true:=by rw [← hB]; simp
   have hBn1:B (n + 1) = true:=by rw [← hB]; simp
   have h1:=h B;rw [(jo hj).2 hBn hBn1] at h1;have e:(fun x=>!(decide (n ≤ x) || !A x)) = fun x=>!B x:=by rw [← hB]
   rw [e];unfold bz;omega
  ·intro hw;obtain ⟨B,hB⟩:∃ B:Nat → Bool,B = fun x=>if x < n then A x else decide (x = n):=⟨_,rfl⟩;have hag:∀ a,a < n → A a = B a:=fun a ha=>by rw [hB]; simp [ha]
   have hBn:B n = true:=by rw [hB]; simp
   have hBn1:B (n + 1) = false:=by
    rw [hB];show (if n + 1 < n then A (n + 1) else decide (n + 1 = n)) = false;rw [if_neg (by omega),decide_eq_false (by omega)]
   have h1:=h B;rw [f01 B hBn hBn1,jt (by rw [← jX hag]; exact hw)] at h1;unfold jG fb at h1 ⊢;rw [dy _ hag,dy _ hag,(lx hag hj).1];omega
  ·obtain ⟨B,hB⟩:∃ B:Nat → Bool,B = fun x=>if x < n then !A x else decide (x ≠ n):=⟨_,rfl⟩;have hag:∀ a,a < n → A a = !B a:=fun a ha=>by rw [hB]; simp [ha]
   have hBn:B n = false:=by rw [hB]; simp
   have hBn1:B (n + 1) = true:=by
    rw [hB];show (if n + 1 < n then !A (n + 1) else decide (n + 1 ≠ n)) = true;rw [if_neg (by omega),decide_eq_true (by omega)]
   have h1:=h B;rw [f10 B hBn hBn1] at h1;unfold lC eO at h1 ⊢;rw [dy (B:=fun x=>!B x) _ hag,dy (B:=fun x=>!B x) _ hag,(lx (B:=fun x=>!B x) hag hj).2];omega
 ·intro h S;cases h1:S n <;> cases h2:S (n + 1)
  ·rw [(jo hj).1 h1 h2];have h3:=(h S).1.1;unfold dc at h3
   split at h3
   ·rename_i hw; rw [jt hw]; omega
   ·rename_i hw;have h4:=pA hy (k:=k) (A:=S) (n:=n) (by simpa using hw);have h5:=(hb S).1;unfold aw at h4;omega
  ·rw [f10 S h1 h2];have:=(h fun x=>!S x).2.2;omega
  ·rw [f01 S h1 h2];by_cases hw:cz S y k n = true
   ·have:=(h S).2.1 hw;rw [jt hw]; omega
   ·have h4:=pA hy (k:=k) (A:=S) (n:=n) (by simpa using hw);have h5:=hbo S;unfold aw at h4;omega
  ·rw [(jo hj).2 h1 h2];have h3:=(h fun x=>!S x).1.2;unfold bz at h3;omega
theorem wD {y:ab} (hy:oU y) {k:Int} {n:Nat} (hn:n ≤ 4) {js:List b8} (hj:∀ j ∈ js,eS n j) (hl:js.length ≤ 10) {lo hi:Int} (hlh:lo ≤ hi) (hb1:-1000000000 ≤ lo) (hb2:hi ≤ 1000000000) :
  (∃ f,bE (n + 2) (aW y k n js lo hi) f) ↔ ∀ P,P < 2 ^ n → okO (bh P) n y k js lo hi:=by
 rw [FR hy hn hj hl hlh hb1 hb2];constructor
 ·intro h P _; exact h _
 ·intro h A;obtain ⟨P,h1,h2⟩:=Ap A n;exact (GB (fun a ha=>(h2 a ha).symm) y k hj lo hi).2 (h P h1)
def aG {α:Type} (f:Nat → α → Int):List α → Nat → Int × Int
 | [],_=>(0,0)
 | a :: r,i=>if f i a ≠ 0 then ((i:Int),f i a) else aG f r (i + 1)
theorem mq {α:Type} (f:Nat → α → Int):∀ (l:List α) (i:Nat),(aG f l i).2 = 0 ↔ ∀ k (h:k < l.length),f (i + k) l[k] = 0
 | [],i=>by simp [aG]
 | a :: r,i=>by
  have ih:=mq f r (i + 1);simp only [aG];by_cases h:f i a = 0
  ·rw [if_neg (by simp [h]),ih];constructor
   ·intro hh k hk
    cases k with
    | zero=>exact h
    | succ k=>
     have:=hh k (by simpa using hk);rw [show i + 1 + k = i + (k + 1) by omega] at this;simpa using this
   ·intro hh k hk;have:=hh (k + 1) (by simpa using hk);rw [show i + (k + 1) = i + 1 + k by omega] at this;simpa using this
  ·rw [if_pos h];constructor
   ·intro e; exact absurd e h
   ·intro hh;have:=hh 0 (by simp);simp at this; exact absurd this h
theorem A3 {α:Type} {f:Nat → α → Int} {l:List α} {i:Nat} (h:(aG f l i).2 = 0):aG f l i = (0,0):=by
 induction l generalizing i with
 | nil=>rfl
 | cons a r ih=>
  simp only [aG] at h ⊢;by_cases h0:f i a = 0
  ·rw [if_neg (by simp [h0])] at h ⊢; exact ih h
  ·rw [if_pos h0] at h; exact absurd h h0
def inI (n lo hi:Int):Bool:=decide (lo ≤ n) && decide (n ≤ hi)
def gp (nm:ByteArray → Bool) (l:List ByteArray) (i:Nat) (s:ByteArray):Int:=if nm s = false then 6 else if (l.take i).any (fun t=>decide (t = s)) = true then 5 else 0
def gN (y:ab) (l:List ay) (i:Nat) (c:ay):Int:=
 if inI c.kind 0 (y.kinds.length - 1) = false ∨ inI c.place 0 (y.places.length - 1) = false then 4
 else if (l.take i).any (fun d=>decide (d.kind = c.kind) && decide (d.place = c.place)) = true then 5
 else if inI c.lo 0 1000000 = false ∨ inI c.hi 0 1000000 = false then 7
 else if c.lo > c.hi then 2 else 0
def mD (y:ab) (i:Nat) (p:aj):Int:=
 if inI p.kind 0 (y.kinds.length - 1) = false ∨ inI p.src (-1) (y.places.length - 1) = false ∨ inI p.dst (-1) (y.places.length - 1) = false then 4
 else if p.src = p.dst then 2
 else if inI p.kilos 0 1000000 = false then 7
 else if p.copy = -1 then 0
 else if inI p.copy 0 (y.papers.length - 1) = false ∨ p.copy = i then 9
 else match y.papers[p.copy.toNat]? with
  | none=>9
  | some q=>if q.copy = i ∧ q.kind = p.kind ∧ q.src = p.src ∧ q.dst = p.dst then 0 else 9
def cN (nm:ByteArray → Bool) (y:ab):Int × Int × Int:=
 if inI y.kinds.length 1 4 = false ∨ inI y.places.length 1 4 = false ∨ 10 < y.papers.length ∨ 8 < y.first.length ∨ 8 < y.last.length then (1,0,3)
 else if (aG (gp nm y.kinds) y.kinds 0).2 ≠ 0 then (2,aG (gp nm y.kinds) y.kinds 0)
 else if (aG (gp nm y.places) y.places 0).2 ≠ 0 then (3,aG (gp nm y.places) y.places 0)
 else if (aG (gN y y.first) y.first 0).2 ≠ 0 then (4,aG (gN y y.first) y.first 0)
 else if (aG (mD y) y.papers 0).2 ≠ 0 then (5,aG (mD y) y.papers 0)
 else if (aG (gN y y.last) y.last 0).2 ≠ 0 then (6,aG (gN y y.last) y.last 0)
 else (0,0,0)
structure zX (y:ab) (c:ay):Prop extends Ey c where
 kind:0 ≤ c.kind ∧ c.kind < y.kinds.length
 place:0 ≤ c.place ∧ c.place < y.places.length
structure JX (y:ab) (i:Nat) (p:aj):Prop where
 kind:0 ≤ p.kind ∧ p.kind < y.kinds.length
 src:-1 ≤ p.src ∧ p.src < y.places.length
 dst:-1 ≤ p.dst ∧ p.dst < y.places.length
 ne:p.src ≠ p.dst
 kilos:Big p.kilos
 copy:p.copy = -1 ∨ (0 ≤ p.copy ∧ p.copy < y.papers.length ∧ p.copy ≠ i ∧ ∃ q,y.papers[p.copy.toNat]? = some q ∧ q.copy = i ∧ q.kind = p.kind ∧ q.src = p.src ∧ q.dst = p.dst)
structure bJ (nm:ByteArray → Bool) (y:ab):Prop where
 k4:1 ≤ y.kinds.length ∧ y.kinds.length ≤ 4
 p4:1 ≤ y.places.length ∧ y.places.length ≤ 4
 m10:y.papers.length ≤ 10
 f8:y.first.length ≤ 8
 l8:y.last.length ≤ 8
 kinds:(∀ s ∈ y.kinds,nm s = true) ∧ y.kinds.Nodup
 places:(∀ s ∈ y.places,nm s = true) ∧ y.places.Nodup
 first:(∀ c ∈ y.first,zX y c) ∧ y.first.Pairwise fun c d=>¬ (c.kind = d.kind ∧ c.place = d.place)
 papers:∀ i (h:i < y.papers.length),JX y i y.papers[i]
 last:(∀ c ∈ y.last,zX y c) ∧ y.last.Pairwise fun c d=>¬ (c.kind = d.kind ∧ c.place = d.place)
theorem bA {n lo hi:Int}:(inI n lo hi = true ↔ lo ≤ n ∧ n ≤ hi) ∧ (inI n lo hi = false ↔ ¬ (lo ≤ n ∧ n ≤ hi)):=by
 have h:inI n lo hi = true ↔ lo ≤ n ∧ n ≤ hi:=by simp [inI]
 exact ⟨h,by rw [← h]; simp⟩
theorem zH {α:Type} (R:α → α → Bool):∀ (l:List α),(∀ k (h:k < l.length),(l.take k).any (fun d=>R d l[k]) = false) ↔ l.Pairwise fun c d=>¬ R c d = true:=by
 intro l;rw [List.pairwise_iff_getElem];constructor
 ·intro h i j hi hj hij;have:=h j hj;rw [List.any_eq_false] at this;exact this l[i] (List.mem_take_iff_getElem.2 ⟨i,by omega,rfl⟩)
 ·intro h k hk;rw [List.any_eq_false];intro d hd;obtain ⟨i,hi,rfl⟩:=List.mem_take_iff_getElem.1 hd;exact h i k (by omega) hk (by omega)
theorem sa (nm:ByteArray → Bool) (l:List ByteArray):(aG (gp nm l) l 0).2 = 0 ↔ (∀ s ∈ l,nm s = true) ∧ l.Nodup:=by
 have hp:=zH (fun d c:ByteArray=>decide (d = c)) l;have e:(l.Pairwise fun c d=>¬ decide (c = d) = true) ↔ l.Nodup:=by
  rw [List.nodup_iff_pairwise_ne];exact List.Pairwise.iff fun a b=>by simp
 rw [mq, ← e, ← hp];constructor
 ·intro h;have key:∀ k (hk:k < l.length),nm l[k] = true ∧ (l.take k).any (fun d=>decide (d = l[k])) = false:=fun k hk=>by
   have:=h k hk;unfold gp at this;rw [Nat.zero_add] at this;by_cases h1:nm l[k] = false
   ·rw [if_pos h1] at this; exact absurd this (by decide)
   ·rw [if_neg h1] at this;by_cases h2:(l.take k).any (fun d=>decide (d = l[k])) = true
    ·rw [if_pos h2] at this; exact absurd this (by decide)
    ·exact ⟨by simpa using h1,Bool.eq_false_iff.2 h2⟩
  refine ⟨fun s hs=>?_,fun k hk=>(key k hk).2⟩;obtain ⟨k,hk,rfl⟩:=List.getElem_of_mem hs;exact (key k hk).1
 ·rintro ⟨h1,h2⟩ k hk;unfold gp;rw [Nat.zero_add,if_neg (by simp [h1 _ (List.getElem_mem hk)]),if_neg (by rw [h2 k hk]; simp)]
theorem gU (y:ab) (l:List ay):(aG (gN y l) l 0).2 = 0 ↔ (∀ c ∈ l,zX y c) ∧ l.Pairwise fun c d=>¬ (c.kind = d.kind ∧ c.place = d.place):=by
 have hp:=zH (fun d c:ay=>decide (d.kind = c.kind) && decide (d.place = c.place)) l;have e:(l.Pairwise fun c d=>¬ (decide (c.kind = d.kind) && decide (c.place = d.place)) = true) ↔ l.Pairwise fun c d=>¬ (c.kind = d.kind ∧ c.place = d.place):=
  List.Pairwise.iff fun a b=>by simp
 rw [mq, ← e, ← hp];constructor
 ·intro h;have key:∀ k (hk:k < l.length),zX y l[k] ∧ (l.take k).any (fun d=>decide (d.kind = l[k].kind) && decide (d.place = l[k].place)) = false:=fun k hk=>by
   have:=h k hk;unfold gN at this;rw [Nat.zero_add] at this;by_cases h1:inI l[k].kind 0 (y.kinds.length - 1) = false ∨ inI l[k].place 0 (y.places.length - 1) = false
   ·rw [if_pos h1] at this; exact absurd this (by decide)
   rw [if_neg h1] at this;by_cases h2:(l.take k).any (fun d=>decide (d.kind = l[k].kind) && decide (d.place = l[k].place)) = true
   ·rw [if_pos h2] at this; exact absurd this (by decide)
   rw [if_neg h2] at this;by_cases h3:inI l[k].lo 0 1000000 = false ∨ inI l[k].hi 0 1000000 = false
   ·rw [if_pos h3] at this; exact absurd this (by decide)
   rw [if_neg h3] at this;by_cases h4:l[k].lo > l[k].hi
   ·rw [if_pos h4] at this; exact absurd this (by decide)
   rw [bA.2,bA.2] at h1 h3;exact ⟨⟨⟨⟨by omega,by omega⟩,⟨by omega,by omega⟩,by omega⟩,by omega,by omega⟩,by simpa using h2⟩
  refine ⟨fun s hs=>?_,fun k hk=>(key k hk).2⟩;obtain ⟨k,hk,rfl⟩:=List.getElem_of_mem hs;exact (key k hk).1
 ·rintro ⟨h1,h2⟩ k hk;have hc:=h1 _ (List.getElem_mem hk);have a1:=hc.kind;have a2:=hc.place;have a3:=hc.lo;have a4:=hc.hi;have a5:=hc.le;unfold Big at a3 a4;unfold gN;rw [Nat.zero_add,if_neg (by rw [bA.2,bA.2]; omega),if_neg (by rw [h2 k hk]; simp),if_neg (by rw [bA.2,bA.2]; omega),if_neg (by omega)]
theorem pL (y:ab):(aG (mD y) y.papers 0).2 = 0 ↔ ∀ i (h:i < y.papers.length),JX y i y.papers[i]:=by
 rw [mq];refine forall_congr' fun i=>forall_congr' fun hi=>?_;rw [Nat.zero_add];generalize y.papers[i] = p;unfold mD;by_cases h1:inI p.kind 0 (y.kinds.length - 1) = false ∨ inI p.src (-1) (y.places.length - 1) = false ∨ inI p.dst (-1) (y.places.length - 1) = false
 ·rw [if_pos h1];rw [bA.2,bA.2,bA.2] at h1;refine ⟨fun e=>absurd e (by decide),fun h=>?_⟩;have:=h.kind; have:=h.src; have:=h.dst;omega
 rw [if_neg h1];rw [bA.2,bA.2,bA.2] at h1;by_cases h2:p.src = p.dst
 ·rw [if_pos h2];exact ⟨fun e=>absurd e (by decide),fun h=>absurd h2 h.ne⟩
 rw [if_neg h2];by_cases h3:inI p.kilos 0 1000000 = false
 ·rw [if_pos h3];rw [bA.2] at h3;exact ⟨fun e=>absurd e (by decide),fun h=>absurd h.kilos h3⟩
 rw [if_neg h3];rw [bA.2] at h3;have hbase:∀ hc,JX y i p:=fun hc=>⟨by omega,by omega,by omega,h2,⟨by omega,by omega⟩,hc⟩;by_cases h4:p.copy = -1
 ·rw [if_pos h4];exact ⟨fun _=>hbase (.inl h4),fun _=>rfl⟩
 rw [if_neg h4];by_cases h5:inI p.copy 0 (y.papers.length - 1) = false ∨ p.copy = i
 ·rw [if_pos h5];rw [bA.2] at h5;refine ⟨fun e=>absurd e (by decide),fun h=>?_⟩;rcases h.copy with hc | ⟨c1,c2,c3,_⟩ <;> omega
 rw [if_neg h5];rw [bA.2] at h5
 cases hq:y.papers[p.copy.toNat]? with
 | none=>
  dsimp only;refine ⟨fun e=>absurd e (by decide),fun h=>?_⟩;rcases h.copy with hc | ⟨_,_,_,q,hq',_⟩
  ·exact absurd hc h4
  ·rw [hq] at hq'; cases hq'
 | some q=>
  dsimp only;by_cases h6:q.copy = i ∧ q.kind = p.kind ∧ q.src = p.src ∧ q.dst = p.dst
  ·rw [if_pos h6];exact ⟨fun _=>hbase (.inr ⟨by omega,by omega,by omega,q,hq,h6⟩),fun _=>rfl⟩
  ·rw [if_neg h6];refine ⟨fun e=>absurd e (by decide),fun h=>?_⟩;rcases h.copy with hc | ⟨_,_,_,q',hq',h7⟩
   ·exact absurd hc h4
   ·rw [hq] at hq'; cases hq'; exact absurd h7 h6
theorem ib (nm:ByteArray → Bool) (y:ab):(cN nm y).2.2 = 0 ↔ bJ nm y:=by
 unfold cN;by_cases h1:inI y.kinds.length 1 4 = false ∨ inI y.places.length 1 4 = false ∨ 10 < y.papers.length ∨ 8 < y.first.length ∨ 8 < y.last.length
 ·rw [if_pos h1];rw [bA.2,bA.2] at h1;refine ⟨fun e=>absurd e (by decide),fun h=>?_⟩;have:=h.k4; have:=h.p4; have:=h.m10; have:=h.f8; have:=h.l8;omega
 rw [if_neg h1];rw [bA.2,bA.2] at h1;by_cases h2:(aG (gp nm y.kinds) y.kinds 0).2 = 0;rotate_left
 ·rw [if_pos h2]; exact ⟨fun e=>absurd e h2,fun h=>absurd ((sa _ _).2 h.kinds) h2⟩
 rw [if_neg (by simp [h2])];by_cases h3:(aG (gp nm y.places) y.places 0).2 = 0;rotate_left
 ·rw [if_pos h3]; exact ⟨fun e=>absurd e h3,fun h=>absurd ((sa _ _).2 h.places) h3⟩
 rw [if_neg (by simp [h3])];by_cases h4:(aG (gN y y.first) y.first 0).2 = 0;rotate_left
 ·rw [if_pos h4]; exact ⟨fun e=>absurd e h4,fun h=>absurd ((gU _ _).2 h.first) h4⟩
 rw [if_neg (by simp [h4])];by_cases h5:(aG (mD y) y.papers 0).2 = 0;rotate_left
 ·rw [if_pos h5]; exact ⟨fun e=>absurd e h5,fun h=>absurd ((pL _).2 h.papers) h5⟩
 rw [if_neg (by simp [h5])];by_cases h6:(aG (gN y y.last) y.last 0).2 = 0;rotate_left
 ·rw [if_pos h6]; exact ⟨fun e=>absurd e h6,fun h=>absurd ((gU _ _).2 h.last) h6⟩
 rw [if_neg (by simp [h6])];exact ⟨fun _=>⟨by omega,by omega,by omega,by omega,by omega,(sa _ _).1 h2,(sa _ _).1 h3,(gU _ _).1 h4,(pL _).1 h5,(gU _ _).1 h6⟩,fun _=>rfl⟩
theorem bJ.ok {nm:ByteArray → Bool} {y:ab} (h:bJ nm y):oU y:=⟨h.p4.2,fun c hc=>(h.first.1 c hc).toEy,fun c hc=>(h.last.1 c hc).toEy⟩
def mY (l:List Nat) (n:Nat):Bool:=l.any fun x=>decide (x = n)
theorem ix {l:List Nat} {n:Nat}:mY l n = true ↔ n ∈ l:=by simp [mY]
def cD (y:ab) (wrong:List Nat) (i:Nat):Bool:=match y.papers[i]? with
 | none=>false
 | some p=>decide ((i:Int) < p.copy) && !mY wrong i && !mY wrong p.copy.toNat && decide (p.kilos ≠ bM y p.copy.toNat)
def ba (y:ab) (wrong:List Nat) (k:Int):List b8:=ee (aZ y wrong) k y.papers 0
def lS (y:ab) (wrong:List Nat) (k:Int) (P:Nat):Int:=dc (bh P) y.places.length y k (ba y wrong k)
def fH (y:ab) (wrong:List Nat) (k:Int) (P:Nat):Int:=bz (bh P) y.places.length y k (ba y wrong k)
structure bt where
 paper:Int
 kind:Int
 places:Int
 over:Int
def oW (y:ab) (wrong:List Nat) (k P:Nat):Option bt:=
 if P = 0 then none else if 0 < lS y wrong k P then some ⟨-1,k,P,lS y wrong k P⟩ else if fH y wrong k P < 0 then some ⟨-1,k,P,fH y wrong k P⟩ else none
def ie (y:ab) (wrong:List Nat) (k:Nat):Option bt:=(List.range (2 ^ y.places.length)).findSome? (oW y wrong k)
def nF (y:ab) (wrong:List Nat):Option Nat:=(List.range y.papers.length).find? (cD y wrong)
def yk (y:ab) (wrong:List Nat):Option bt:=match nF y wrong with
 | some i=>some ⟨i,0,0,0⟩
 | none=>(List.range y.kinds.length).findSome? (ie y wrong)
def aP (y:ab) (wrong:List Nat):Bool:=(yk y wrong).isNone
def qp (y:ab) (wrong:List Nat) (k:Int):Prop:=∃ f,bE (y.places.length + 2) (aW y k y.places.length (ba y wrong k) (-aw) aw) f
theorem zl {nm:ByteArray → Bool} {y:ab} (h:bJ nm y) (i:Nat):Big (bM y i):=by
 unfold bM
 cases hi:y.papers[i]? with
 | none=>exact ⟨by simp,by simp⟩
 | some p=>
  obtain ⟨h1,rfl⟩:=List.getElem?_eq_some_iff.1 hi;exact (h.papers i h1).kilos
theorem vC {nm:ByteArray → Bool} {y:ab} (h:bJ nm y) (wrong:List Nat) {p:aj} (hp:Big p.kilos) (i:Nat):Big (aZ y wrong p i).1 ∧ Big (aZ y wrong p i).2 ∧ (aZ y wrong p i).1 ≤ (aZ y wrong p i).2:=by
 have k1:=zl h (min i p.copy.toNat);have k2:=zl h (max i p.copy.toNat);unfold aZ;unfold Big at *;split
 ·split
  ·exact ⟨⟨by simp,by simp⟩,⟨by simp,by simp⟩,by simp⟩
  ·exact ⟨hp,hp,Int.le_refl _⟩
 split
 ·exact ⟨k1,k1,Int.le_refl _⟩
 split
 ·exact ⟨k2,k2,Int.le_refl _⟩
 ·exact ⟨⟨by simp,by simp⟩,⟨by simp,by simp⟩,by simp⟩
theorem DK {n:Nat} {al:aj → Nat → Int × Int} {k:Int}:∀ (l:List aj) (i:Nat),(∀ j (h:j < l.length),(-1 ≤ l[j].src ∧ l[j].src < n) ∧ (-1 ≤ l[j].dst ∧ l[j].dst < n) ∧ l[j].src ≠ l[j].dst ∧ Big (al l[j] (i + j)).1 ∧ Big (al l[j] (i + j)).2 ∧ (al l[j] (i + j)).1 ≤ (al l[j] (i + j)).2) → (∀ x ∈ ee al k l i,eS n x) ∧ (ee al k l i).length ≤ l.length
 | [],i,_=>by simp [ee]
 | p :: r,i,h=>by
  obtain ⟨h1,h2⟩:=DK r (i + 1) fun j hj=>by
   have:=h (j + 1) (by simpa using hj);rw [show i + (j + 1) = i + 1 + j by omega] at this;simpa using this
  have h0:=h 0 (by simp);simp only [List.getElem_cons_zero,Nat.add_zero] at h0;simp only [ee];split
  ·refine ⟨fun x hx=>?_,by simp; omega⟩;rcases List.mem_cons.1 hx with rfl | hx
   ·exact ⟨h0.1,h0.2.1,h0.2.2.1,h0.2.2.2.1,h0.2.2.2.2.1,h0.2.2.2.2.2⟩
   ·exact h1 x hx
  ·exact ⟨h1,by simp; omega⟩
theorem mR {nm:ByteArray → Bool} {y:ab} (h:bJ nm y) (wrong:List Nat) (k:Int):(∀ x ∈ ba y wrong k,eS y.places.length x) ∧ (ba y wrong k).length ≤ 10:=by
 have:=DK (n:=y.places.length) (al:=aZ y wrong) (k:=k) y.papers 0 fun j hj=>by
  have hp:=h.papers j hj;rw [Nat.zero_add];exact ⟨hp.src,hp.dst,hp.ne,vC h wrong hp.kilos j⟩
 exact ⟨this.1,by have:=this.2; have:=h.m10; unfold ba; omega⟩
theorem Fh (A:Nat → Bool) (n:Nat) (y:ab) (k:Int) (js:List b8):0 ≤ dc A n y k js ∧ bz A n y k js ≤ 0:=by
 unfold dc bz;constructor
 ·split <;> omega
 ·omega
theorem BS {nm:ByteArray → Bool} {y:ab} (h:bJ nm y) (wrong:List Nat) (k:Nat):qp y wrong k ↔ ie y wrong k = none:=by
 obtain ⟨h1,h2⟩:=mR h wrong k;unfold qp;rw [zO h.ok h.p4.2 h1 h2];unfold ie;rw [List.findSome?_eq_none_iff];constructor
 ·intro hh P hP;rw [List.mem_range] at hP;unfold oW;split
  ·rfl
  ·rename_i h0;obtain ⟨a,b⟩:=hh P (by omega) hP;unfold lS fH;rw [a,b]; simp
 ·intro hh P h0 hP;have:=hh P (List.mem_range.2 hP);obtain ⟨n1,n2⟩:=Fh (bh P) y.places.length y k (ba y wrong k);unfold oW at this;rw [if_neg (by omega)] at this
  split at this
  ·cases this
  ·rename_i g1
   split at this
   ·cases this
   ·rename_i g2;unfold lS at g1;unfold fH at g2;omega
theorem iK {nm:ByteArray → Bool} {y:ab} (h:bJ nm y) (wrong:List Nat):aP y wrong = true ↔ (∀ i,i < y.papers.length → cD y wrong i = false) ∧ ∀ k,k < y.kinds.length → qp y wrong (k:Nat):=by
 unfold aP yk
 cases ht:nF y wrong with
 | some i=>
  dsimp only;refine ⟨fun e=>by simp at e,fun ⟨h1,_⟩=>?_⟩;have h2:=List.find?_some ht;have h3:=List.mem_of_find?_eq_some ht;rw [h1 i (List.mem_range.1 h3)] at h2; cases h2
 | none=>
  dsimp only;have h1:∀ i,i < y.papers.length → cD y wrong i = false:=fun i hi=>by
   have:=List.find?_eq_none.1 ht i (List.mem_range.2 hi);simpa using this
  rw [Option.isNone_iff_eq_none,List.findSome?_eq_none_iff];constructor
  ·intro hh;exact ⟨h1,fun k hk=>(BS h wrong k).2 (hh k (List.mem_range.2 hk))⟩
  ·rintro ⟨_,h2⟩ k hk;exact (BS h wrong k).1 (h2 k (List.mem_range.1 hk))
/-! ### wider bounds -/
inductive iu:List aI → List aI → Prop
 | nil:iu [] []
 | cons {a b:aI} {l r:List aI}:a.src = b.src → a.dst = b.dst → b.low ≤ a.low → a.high ≤ b.high → iu l r → iu (a :: l) (b :: r)
theorem iu.refl:∀ l,iu l l
 | []=>.nil
 | _ :: r=>.cons rfl rfl (Int.le_refl _) (Int.le_refl _) (iu.refl r)
theorem iu.app {a b c d:List aI} (h:iu a b) (g:iu c d):iu (a ++ c) (b ++ d):=by
 induction h with
 | nil=>exact g
 | cons h1 h2 h3 h4 _ ih=>exact .cons h1 h2 h3 h4 ih
theorem iu.net {a b:List aI} (h:iu a b) (n:Nat) (f:Nat → Int):∀ i,aS n a i f = aS n b i f:=by
 induction h with
 | nil=>intro i; rfl
 | cons h1 h2 _ _ _ ih=>intro i; simp only [aS,ih,h1,h2]
theorem iu.inb {a b:List aI} (h:iu a b):∀ (f:Nat → Int) (i:Nat),(∀ k (hk:k < a.length),a[k].low ≤ f (i + k) ∧ f (i + k) ≤ a[k].high) → ∀ k (hk:k < b.length),b[k].low ≤ f (i + k) ∧ f (i + k) ≤ b[k].high:=by
 induction h with
 | nil=>intro f i _ k hk; simp at hk
 | @cons a b l r h1 h2 h3 h4 _ ih=>
  intro f i hh k hk
  cases k with
  | zero=>
   have:=hh 0 (by simp);simp only [List.getElem_cons_zero] at this ⊢;omega
  | succ k=>
   have:=ih f (i + 1) (fun j hj=>by
    have:=hh (j + 1) (by simpa using hj);rw [show i + (j + 1) = i + 1 + j by omega] at this
    simpa using this) k (by simpa using hk)
   rw [show i + (k + 1) = i + 1 + k by omega];simpa using this
theorem iu.Wo {N:Nat} {a b:List aI} (h:iu a b) {f:Nat → Int} (hc:bE N a f):bE N b f:=
 ⟨fun k hk=>by
  have:=h.inb f 0 (fun j hj=>by rw [Nat.zero_add]; exact hc.inb j hj) k hk
  rwa [Nat.zero_add] at this,fun n hn=>by rw [← h.net n f 0]; exact hc.net n hn⟩
theorem Vp {n:Nat} {al be:aj → Nat → Int × Int} {k:Int}:∀ (l:List aj) (i:Nat),(∀ j (h:j < l.length),l[j].kind = k → br l[j] (i + j) = true → (be l[j] (i + j)).1 ≤ (al l[j] (i + j)).1 ∧ (al l[j] (i + j)).2 ≤ (be l[j] (i + j)).2) → iu ((ee al k l i).map (cZ n)) ((ee be k l i).map (cZ n))
 | [],i,_=>by simp only [ee,List.map_nil]; exact .nil
 | p :: r,i,h=>by
  have ih:=Vp (n:=n) r (i + 1) fun j hj=>by
   have:=h (j + 1) (by simpa using hj);rw [show i + (j + 1) = i + 1 + j by omega] at this;simpa using this
  have h0:=h 0 (by simp);simp only [List.getElem_cons_zero,Nat.add_zero] at h0;simp only [ee];split
  ·rename_i hc;obtain ⟨a,b⟩:=h0 hc.1 hc.2;simp only [List.map_cons];exact .cons rfl rfl a b ih
  ·exact ih
theorem VS {y:ab} {k:Int} {n:Nat} {js ks:List b8} (h:iu (js.map (cZ n)) (ks.map (cZ n))) (lo hi:Int):iu (aW y k n js lo hi) (aW y k n ks lo hi):=
 ((iu.refl _).app h).app (iu.refl _)
theorem zc {y:ab} {wrong:List Nat} {p:aj} {i:Nat} (h:p.copy < 0):aZ y wrong p i = if i ∈ wrong then (0,1000000) else (p.kilos,p.kilos):=by
 unfold aZ; rw [if_pos h]
theorem zr {y:ab} {wrong:List Nat} {p:aj} {i c:Nat} (h:p.copy = c) (hlt:i < c):aZ y wrong p i = if ¬ i ∈ wrong then (bM y i,bM y i) else if ¬ c ∈ wrong then (bM y c,bM y c) else (0,1000000):=by
 have e1:min i p.copy.toNat = i:=by omega
 have e2:max i p.copy.toNat = c:=by omega
 unfold aZ; rw [if_neg (show ¬ p.copy < 0 by omega),e1,e2]
theorem VO {nm:ByteArray → Bool} {y:ab} (h:bJ nm y) {wrong more:List Nat} (hs:∀ i ∈ wrong,i ∈ more) (ht:∀ i,i < y.papers.length → cD y wrong i = false) {i:Nat} (hi:i < y.papers.length) (hl:br y.papers[i] i = true) :
  (aZ y more y.papers[i] i).1 ≤ (aZ y wrong y.papers[i] i).1 ∧ (aZ y wrong y.papers[i] i).2 ≤ (aZ y more y.papers[i] i).2:=by
 have hp:=h.papers i hi;have hd:=ht i hi;unfold cD at hd;rw [List.getElem?_eq_getElem hi] at hd;dsimp only at hd;have hki:bM y i = y.papers[i].kilos:=by unfold bM; rw [List.getElem?_eq_getElem hi]
 generalize y.papers[i] = p at *;have hb:=hp.kilos;have kb:=zl h;unfold br at hl;rcases hp.copy with hc | ⟨c1,c2,c3,_⟩
 ·rw [zc (show p.copy < 0 by omega),zc (show p.copy < 0 by omega)];by_cases w:i ∈ wrong
  ·rw [if_pos w,if_pos (hs i w)]; simp
  ·rw [if_neg w];by_cases m:i ∈ more
   ·rw [if_pos m]; exact ⟨hb.1,hb.2⟩
   ·rw [if_neg m]; simp
 ·have hlt:(i:Int) < p.copy:=by simp at hl; omega
  obtain ⟨c,hc⟩:∃ c:Nat,p.copy = c:=⟨p.copy.toNat,by omega⟩;have e3:p.copy.toNat = c:=by omega
  rw [zr hc (by omega),zr hc (by omega)];rw [e3,decide_eq_true hlt] at hd;have kc:=kb c;unfold Big at hb kc;have hw1:mY wrong i = true ↔ i ∈ wrong:=ix;have hw2:mY wrong c = true ↔ c ∈ wrong:=ix;by_cases w1:i ∈ wrong
  ·have m1:=hs i w1;by_cases w2:c ∈ wrong
   ·have m2:=hs c w2;simp [w1,w2,m1,m2]
   ·by_cases m2:c ∈ more
    ·simp [w1,w2,m1,m2]; exact kc
    ·simp [w1,w2,m1,m2]
  ·by_cases m1:i ∈ more
   ·by_cases m2:c ∈ more
    ·simp [w1,m1,m2,hki]; exact hb
    ·have w2:¬ c ∈ wrong:=fun e=>m2 (hs c e);have:p.kilos = bM y c:=by
      have f1:mY wrong i = false:=by rw [Bool.eq_false_iff]; exact fun e=>w1 (hw1.1 e)
      have f2:mY wrong c = false:=by rw [Bool.eq_false_iff]; exact fun e=>w2 (hw2.1 e)
      rw [f1,f2] at hd;simpa using hd
     simp [w1,m1,m2,hki,this]
   ·simp [w1,m1]
theorem VD {y:ab} {wrong more:List Nat} (hs:∀ i ∈ wrong,i ∈ more) {i:Nat} (h:cD y wrong i = false):cD y more i = false:=by
 unfold cD at h ⊢;split
 ·rfl
 ·rename_i p hp;rw [hp] at h;dsimp only at h;have m:∀ n,mY wrong n = true → mY more n = true:=fun n hn=>ix.2 (hs n (ix.1 hn));rw [Bool.eq_false_iff] at h ⊢;intro e;apply h;simp only [Bool.and_eq_true,Bool.not_eq_true',Bool.eq_false_iff] at e ⊢;exact ⟨⟨⟨e.1.1.1,fun w=>e.1.1.2 (m _ w)⟩,fun w=>e.1.2 (m _ w)⟩,e.2⟩
theorem VQ {nm:ByteArray → Bool} {y:ab} (h:bJ nm y) {wrong more:List Nat} (hs:∀ i ∈ wrong,i ∈ more) (ht:∀ i,i < y.papers.length → cD y wrong i = false) (k lo hi:Int) :
  iu (aW y k y.places.length (ba y wrong k) lo hi) (aW y k y.places.length (ba y more k) lo hi):=by
 refine VS (Vp y.papers 0 fun j hj _ hl=>?_) lo hi;rw [Nat.zero_add] at hl ⊢;exact VO h hs ht hj hl
theorem nK {nm:ByteArray → Bool} {y:ab} (h:bJ nm y) {wrong more:List Nat} (hs:∀ i ∈ wrong,i ∈ more) (hc:aP y wrong = true):aP y more = true:=by
 obtain ⟨h1,h2⟩:=(iK h wrong).1 hc;refine (iK h more).2 ⟨fun i hi=>VD hs (h1 i hi),fun k hk=>?_⟩;obtain ⟨f,hf⟩:=h2 k hk;exact ⟨f,(VQ h hs h1 k _ _).Wo hf⟩
def eR (m:Nat):Nat → Nat → List (List Nat)
 | 0,_=>[[]]
 | many + 1,a=>(List.range' a (m - a)).flatMap fun i=>(eR m many (i + 1)).map fun l=>i :: l
def Bv (m a:Nat) (l:List Nat):Prop:=l.Pairwise (· < ·) ∧ ∀ x ∈ l,a ≤ x ∧ x < m
theorem nf (m:Nat):∀ (many a:Nat) (l:List Nat),l ∈ eR m many a ↔ l.length = many ∧ Bv m a l
 | 0,a,l=>by
  simp only [eR,List.mem_singleton];constructor
  ·rintro rfl; exact ⟨rfl, .nil,by simp⟩
  ·intro h; exact List.eq_nil_of_length_eq_zero h.1
 | many + 1,a,l=>by
  simp only [eR,List.mem_flatMap,List.mem_map];constructor
  ·rintro ⟨i,hi,r,hr,rfl⟩;rw [List.mem_range'_1] at hi;obtain ⟨h1,h2,h3⟩:=(nf m many (i + 1) r).1 hr;refine ⟨by simp [h1],List.pairwise_cons.2 ⟨fun x hx=>by have:=h3 x hx; omega,h2⟩,fun x hx=>?_⟩;rcases List.mem_cons.1 hx with rfl | hx
   ·omega
   ·have:=h3 x hx; omega
  ·rintro ⟨h1,h2,h3⟩
   cases l with
   | nil=>simp at h1
   | cons i r=>
    have hi:=h3 i (by simp);obtain ⟨h4,h5⟩:=List.pairwise_cons.1 h2;exact ⟨i,List.mem_range'_1.2 ⟨hi.1,by omega⟩,r,(nf m many (i + 1) r).2 ⟨by simpa using h1,h5,fun x hx=>⟨by have:=h4 x hx; omega,(h3 x (by simp [hx])).2⟩⟩,rfl⟩
theorem vx {m a:Nat}:∀ {l:List Nat},Bv m a l → l.length ≤ m - a
 | [],_=>by simp
 | x :: r,h=>by
  have hx:=h.2 x (by simp);obtain ⟨h1,h2⟩:=List.pairwise_cons.1 h.1;have:=vx (m:=m) (a:=x + 1) (l:=r) ⟨h2,fun z hz=>⟨by have:=h1 z hz; omega,(h.2 z (by simp [hz])).2⟩⟩;simp only [List.length_cons]; omega
def kp (m but:Nat):List Nat:=(List.range m).filter fun i=>decide (i ≠ but)
theorem Vg {m but i:Nat}:i ∈ kp m but ↔ i < m ∧ i ≠ but:=by simp [kp]
theorem za (m:Nat) (p:Nat → Bool):Bv m 0 ((List.range m).filter p):=
 ⟨(List.pairwise_lt_range).filter _,fun x hx=>⟨by omega,List.mem_range.1 (List.mem_filter.1 hx).1⟩⟩
def AN (y:ab):Option (List Nat):=(List.range (y.papers.length + 1)).findSome? fun many=>(eR y.papers.length many 0).find? (aP y)
def atW (y:ab) (many:Nat):List (List Nat):=(eR y.papers.length many 0).filter (aP y)
def mN (y:ab):Option (List (List Nat)):=(List.range (y.papers.length + 1)).findSome? fun many=>if atW y many = [] then none else some (atW y many)
def K9 (y:ab):List Nat:=(List.range y.papers.length).filter fun i=>!aP y (kp y.papers.length i)
def Kq (y:ab) (ls:List (List Nat)):List Nat:=(List.range y.papers.length).filter fun i=>ls.any fun l=>mY l i
def Few (y:ab) (l:List Nat):Prop:=Bv y.papers.length 0 l ∧ aP y l = true ∧ ∀ l',Bv y.papers.length 0 l' → aP y l' = true → l.length ≤ l'.length
theorem gl {α β:Type} {f:α → Option β}:∀ {l:List α} {b:β},l.findSome? f = some b → ∃ l1 a l2,l = l1 ++ a :: l2 ∧ f a = some b ∧ ∀ x ∈ l1,f x = none
 | [],b,h=>by simp at h
 | a :: r,b,h=>by
  cases ha:f a with
  | some c=>
   simp only [List.findSome?_cons,ha,Option.some.injEq] at h;exact ⟨[],a,r,rfl,by rw [ha,h],by simp⟩
  | none=>
   simp only [List.findSome?_cons,ha] at h;obtain ⟨l1,a',l2,e,h1,h2⟩:=gl h;refine ⟨a :: l1,a',l2,by rw [e]; rfl,h1,fun x hx=>?_⟩;rcases List.mem_cons.1 hx with rfl | hx
   ·exact ha
   ·exact h2 x hx
theorem Vy {n a:Nat} {l1 l2:List Nat} (h:List.range n = l1 ++ a :: l2):a < n ∧ ∀ x,x < a → x ∈ l1:=by
 have hl:a = l1.length:=by
  have h1:(List.range n)[l1.length]? = some a:=by rw [h]; simp
  rw [List.getElem?_range (by have:=congrArg List.length h; simp at this; omega)] at h1;exact (Option.some.inj h1).symm
 have hn:n = l1.length + (l2.length + 1):=by have:=congrArg List.length h; simpa using this
 refine ⟨by omega,fun x hx=>?_⟩;have h1:(List.range n)[x]? = some x:=List.getElem?_range (by omega);rw [h,List.getElem?_append_left (by omega)] at h1;exact List.mem_of_getElem? h1
theorem LO {y:ab} {l:List Nat} (h:AN y = some l):Few y l ∧ l.length ≤ y.papers.length ∧ (eR y.papers.length l.length 0).find? (aP y) = some l ∧ ∀ many,many < l.length → ∀ x ∈ eR y.papers.length many 0,aP y x = false:=by
 obtain ⟨l1,many,l2,e,h1,h2⟩:=gl h;obtain ⟨hm,hx⟩:=Vy e;obtain ⟨h3,h4⟩:=(nf _ _ _ _).1 (List.mem_of_find?_eq_some h1);subst h3;have hb:∀ many,many < l.length → ∀ x ∈ eR y.papers.length many 0,aP y x = false:=fun k hk x hxm=>by
  have:=h2 k (hx k hk);have:=List.find?_eq_none.1 this x hxm;simpa using this
 refine ⟨⟨h4,List.find?_some h1,fun l' ha hc=>?_⟩,by omega,h1,hb⟩;rcases Nat.lt_or_ge l'.length l.length with hlt | hge
 ·have:=hb l'.length hlt l' ((nf _ _ _ _).2 ⟨rfl,ha⟩);rw [hc] at this; cases this
 ·exact hge
theorem VU {y:ab} {l':List Nat} (ha:Bv y.papers.length 0 l') (hc:aP y l' = true):∃ l,AN y = some l:=by
 cases h:AN y with
 | some l=>exact ⟨l,rfl⟩
 | none=>
  have h1:=List.findSome?_eq_none_iff.1 h l'.length (List.mem_range.2 (by have:=vx ha; omega));have h2:=List.find?_eq_none.1 h1 l' ((nf _ _ _ _).2 ⟨rfl,ha⟩);exact absurd hc h2
theorem VN {nm:ByteArray → Bool} {y:ab} (h:bJ nm y):(∃ l,AN y = some l) ↔ aP y (kp y.papers.length y.papers.length) = true:=by
 constructor
 ·rintro ⟨l,hl⟩;obtain ⟨⟨h1,h2,_⟩,_⟩:=LO hl;exact nK h (fun i hi=>Vg.2 ⟨(h1.2 i hi).2,by have:=(h1.2 i hi).2; omega⟩) h2
 ·intro hc;exact VU (za _ _) hc
theorem V6 {y:ab} {i:Nat}:i ∈ K9 y ↔ i < y.papers.length ∧ aP y (kp y.papers.length i) = false:=by simp [K9]
theorem Kt {y:ab} {ls:List (List Nat)} {i:Nat}:i ∈ Kq y ls ↔ i < y.papers.length ∧ ∃ l ∈ ls,i ∈ l:=by simp [Kq,ix]
theorem V8 {nm:ByteArray → Bool} {y:ab} (h:bJ nm y) {i:Nat} (hi:i ∈ K9 y) {l:List Nat} (ha:Bv y.papers.length 0 l) (hn:i ∉ l):aP y l = false:=by
 rw [Bool.eq_false_iff];intro hc;have h1:=(V6.1 hi).2;have h2:=nK h (more:=kp y.papers.length i) (fun j hj=>Vg.2 ⟨(ha.2 j hj).2,fun e=>hn (e ▸ hj)⟩) hc;rw [h1] at h2; cases h2
/-! ### ranges exist -/
theorem ua (P:Int → Prop):∀ (d:Nat) (lo:Int),(∃ v,P v ∧ lo ≤ v ∧ v ≤ lo + d) → ∃ m,P m ∧ lo ≤ m ∧ ∀ v,P v → lo ≤ v → m ≤ v
 | 0,lo,⟨v,h1,h2,h3⟩=>⟨v,h1,h2,fun w _ hw=>by omega⟩
 | d + 1,lo,⟨v,h1,h2,h3⟩=>by
  by_cases h:P lo
  ·exact ⟨lo,h,Int.le_refl _,fun w _ hw=>hw⟩
  ·have hne:v ≠ lo:=fun e=>h (e ▸ h1);obtain ⟨m,g1,g2,g3⟩:=ua P d (lo + 1) ⟨v,h1,by omega,by omega⟩;refine ⟨m,g1,by omega,fun w hw hlw=>?_⟩;have:w ≠ lo:=fun e=>h (e ▸ hw);exact g3 w hw (by omega)
theorem sk {N:Nat} {es:List aI} {i0:Nat} (h0:i0 < es.length) (hc:∃ f,bE N es f):∃ lo hi,ik N es i0 lo hi:=by
 obtain ⟨f,hf⟩:=hc;have hb:=hf.inb i0 h0;obtain ⟨m,⟨g,hg,eg⟩,_,h1⟩:=ua (fun v=>∃ g,bE N es g ∧ g i0 = v) (es[i0].high - es[i0].low).toNat es[i0].low ⟨f i0,⟨f,hf,rfl⟩,hb.1,by omega⟩;obtain ⟨n,⟨g',hg',eg'⟩,_,h2⟩:=ua (fun v=>∃ g,bE N es g ∧ g i0 = -v) (es[i0].high - es[i0].low).toNat (-es[i0].high) ⟨- f i0,⟨f,hf,by omega⟩,by omega,by omega⟩;refine ⟨m, -n,⟨g,hg,eg⟩,⟨g',hg',eg'⟩,fun x hx=>⟨h1 _ ⟨x,hx,rfl⟩ (hx.inb i0 h0).1, ?_⟩⟩;have:=h2 (- x i0) ⟨x,hx,by omega⟩ (by have:=(hx.inb i0 h0).2; omega);omega
/-! ### the way of a journey -/
def fN (k:Int):List aj → Nat → Nat → Nat
 | [],_,_=>0
 | p :: r,i,a=>if a ≤ i then 0 else (if p.kind = k ∧ br p i = true then 1 else 0) + fN k r (i + 1) a
theorem D6 {al:aj → Nat → Int × Int} {k:Int}:∀ (l:List aj) (i a:Nat) (h1:i ≤ a) (h2:a < i + l.length),(l[a - i]'(by omega)).kind = k → br (l[a - i]'(by omega)) a = true →
  (ee al k l i)[fN k l i a]? = some ⟨(l[a - i]'(by omega)).src,(l[a - i]'(by omega)).dst,(al (l[a - i]'(by omega)) a).1,(al (l[a - i]'(by omega)) a).2⟩
 | [],i,a,h1,h2,_,_=>by simp at h2; omega
 | p :: r,i,a,h1,h2,hk,hl=>by
  rcases Nat.eq_or_lt_of_le h1 with e | hlt
  ·subst e;simp only [Nat.sub_self,List.getElem_cons_zero] at hk hl ⊢;simp only [ee,fN];rw [if_pos ⟨hk,hl⟩,if_pos (Nat.le_refl _)]; rfl
  ·have e:a - i = (a - (i + 1)) + 1:=by omega
   simp only [e,List.getElem_cons_succ] at hk hl ⊢;have ih:=D6 (al:=al) r (i + 1) a hlt (by simp only [List.length_cons] at h2; omega) hk hl;simp only [ee,fN];rw [if_neg (by omega:¬ a ≤ i)];split
   ·rw [Nat.add_comm 1,List.getElem?_cons_succ]; exact ih
   ·rw [Nat.zero_add]; exact ih
theorem cM (y:ab) (k:Int) (n:Nat):∀ m,(bR y k n m).length = 2 * m
 | 0=>rfl
 | m + 1=>by simp only [bR,List.length_append,cM y k n m]; simp; omega
theorem rT {y:ab} {k:Int} {n:Nat} {js:List b8} {lo hi:Int} {c:Nat} (h:c < js.length):(aW y k n js lo hi)[2 * n + c]? = some (cZ n js[c]):=by
 unfold aW;rw [List.getElem?_append_left (by simp [cM]; omega),List.getElem?_append_right (by rw [cM]; omega),cM];simp [h]
theorem jq (y:ab) (k:Int) (n:Nat) (js:List b8) (lo hi:Int):(aW y k n js lo hi).length = 2 * n + js.length + 1:=by
 simp [aW,cM]; omega
theorem qN {α:Type} (f:α → α):∀ (l r:List α) (i:Nat),l.length ≤ i → (l ++ r).modify i f = l ++ r.modify (i - l.length) f
 | [],r,i,_=>by simp
 | a :: l,r,0,h=>by simp at h
 | a :: l,r,i + 1,h=>by
  simp only [List.cons_append,List.modify_succ_cons,List.length_cons];rw [qN f l r i (by simpa using h),Nat.add_sub_add_right]
theorem uO {α:Type} (f:α → α):∀ (l r:List α) (i:Nat),i < l.length → (l ++ r).modify i f = l.modify i f ++ r
 | [],r,i,h=>by simp at h
 | a :: l,r,0,_=>rfl
 | a :: l,r,i + 1,h=>by
  simp only [List.cons_append,List.modify_succ_cons];rw [uO f l r i (by simpa using h)]
theorem xk {α β:Type} (g:α → β) (f:α → α) (f':β → β) (h:∀ a,g (f a) = f' (g a)):∀ (l:List α) (i:Nat),(l.modify i f).map g = (l.map g).modify i f'
 | [],i=>by simp
 | a :: l,0=>by simp [h]
 | a :: l,i + 1=>by simp only [List.modify_succ_cons,List.map_cons,xk g f f' h l i]
theorem FJ {y:ab} {k:Int} {n:Nat} {js:List b8} {lo hi:Int} {c:Nat} (h:c < js.length) (a b:Int):aW y k n (js.modify c fun j=>⟨j.src,j.dst,a,b⟩) lo hi = iF (aW y k n js lo hi) (2 * n + c) a b:=by
 unfold aW iF;rw [uO _ _ _ _ (by simp [cM]; omega),qN _ _ _ _ (by rw [cM]; omega),cM];rw [xk (cZ n) _ (fun e:aI=>(⟨e.src,e.dst,a,b⟩:aI)) (fun j=>rfl)];rw [show 2 * n + c - 2 * n = c by omega]
end Go.AM
