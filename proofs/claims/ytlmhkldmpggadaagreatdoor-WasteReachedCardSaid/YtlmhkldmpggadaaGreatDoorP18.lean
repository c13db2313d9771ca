/- The range of what can go on a way; the outside az one place more. Plain. A yard of waste: its check; papers that are false; whether it closes, and why not. Plain. Whether a yard of waste closes, .. -/
import Derived.Test.YtlmhkldmpggadaaGreatDoorP17
namespace Go.AM
structure gr (N:Nat) (es:List aF) (i0:Nat) (lo hi:Int):Prop where
 least:∃ f,bz N es f ∧ f i0 = lo
 most:∃ f,bz N es f ∧ f i0 = hi
 all:∀ f,bz N es f → lo ≤ f i0 ∧ f i0 ≤ hi
theorem gr.unique {N:Nat} {es:List aF} {i0:Nat} {a b c d:Int} (h:gr N es i0 a b) (g:gr N es i0 c d):a = c ∧ b = d:=by
 obtain ⟨f1,c1,e1⟩:=h.least;obtain ⟨f2,c2,e2⟩:=h.most;obtain ⟨f3,c3,e3⟩:=g.least;obtain ⟨f4,c4,e4⟩:=g.most;have h1:=g.all f1 c1;have h2:=g.all f2 c2;have h3:=h.all f3 c3;have h4:=h.all f4 c4;omega
def gy (es:List aF) (i0:Nat) (lo hi:Int):List aF:=es.modify i0 fun e=>⟨e.src,e.dst,lo,hi⟩
theorem kT (es:List aF) (i0:Nat) (lo hi:Int):(gy es i0 lo hi).length = es.length:=by simp [gy]
theorem rz {es:List aF} {i0:Nat} {lo hi:Int} {i:Nat} (h:i < es.length) (h':i < (gy es i0 lo hi).length):(gy es i0 lo hi)[i] = if i = i0 then ⟨es[i].src,es[i].dst,lo,hi⟩ else es[i]:=by
 have e1:(gy es i0 lo hi)[i] = if i0 = i then (fun e:aF=>(⟨e.src,e.dst,lo,hi⟩:aF)) es[i] else es[i]:=List.getElem_modify ..;rw [e1];by_cases e:i0 = i
 ·rw [if_pos e,if_pos e.symm]
 ·rw [if_neg e,if_neg (Ne.symm e)]
theorem vl (n:Nat) (f:Nat → Int) (lo hi:Int):∀ (es:List aF) (i0 j:Nat),bm n (gy es i0 lo hi) j f = bm n es j f
 | [],i0,j=>by simp [gy]
 | e :: r,0,j=>by simp [gy,bm]
 | e :: r,i0 + 1,j=>by
  have ih:=vl n f lo hi r i0 (j + 1);simp only [gy] at ih;simp [gy,bm,ih]
theorem Dz {N:Nat} {es:List aF} (h:fm N es) {i0:Nat} {lo hi:Int} (hl:lo ≤ hi):fm N (gy es i0 lo hi):=by
 have key:∀ e ∈ gy es i0 lo hi,(e.src < N ∧ e.dst < N) ∧ e.src ≠ e.dst ∧ e.low ≤ e.high:=by
  intro e he;obtain ⟨i,hi,rfl⟩:=List.getElem_of_mem he;have hi':i < es.length:=by rwa [kT] at hi
  have hm:=List.getElem_mem hi';rw [rz hi' hi];split
  ·exact ⟨h.src es[i] hm,h.ne es[i] hm,hl⟩
  ·exact ⟨h.src es[i] hm,h.ne es[i] hm,h.le es[i] hm⟩
 exact ⟨fun e he=>(key e he).1,fun e he=>(key e he).2.1,fun e he=>(key e he).2.2⟩
theorem dU {N:Nat} {es:List aF} {i0:Nat} (h0:i0 < es.length) {lo hi:Int} (h1:es[i0].low ≤ lo) (h2:hi ≤ es[i0].high) (f:Nat → Int):bz N (gy es i0 lo hi) f ↔ bz N es f ∧ lo ≤ f i0 ∧ f i0 ≤ hi:=by
 constructor
 ·rintro ⟨hb,hn⟩;have hi0:=hb i0 (by rw [kT]; exact h0);rw [rz h0 (by rw [kT]; exact h0),if_pos rfl] at hi0;refine ⟨⟨fun i hi=>?_,fun n hN=>by rw [← vl n f lo hi es i0 0]; exact hn n hN⟩,hi0⟩;have:=hb i (by rw [kT]; exact hi);rw [rz hi (by rw [kT]; exact hi)] at this;by_cases e:i = i0
  ·subst e;rw [if_pos rfl] at this;dsimp only at this;omega
  ·rw [if_neg e] at this; exact this
 ·rintro ⟨⟨hb,hn⟩,h3,h4⟩;refine ⟨fun i hi=>?_,fun n hN=>by rw [vl]; exact hn n hN⟩;have hi':i < es.length:=by rwa [kT] at hi
  rw [rz hi' hi];split
  ·rename_i e; subst e; exact ⟨h3,h4⟩
  ·exact hb i hi'
theorem AU (S:Nat → Bool) (lo hi:Int):∀ (es:List aF) (i0:Nat) (h:i0 < es.length),dI S (gy es i0 lo hi) = dI S es + ((if S es[i0].dst && !S es[i0].src then lo - es[i0].low else 0) - (if S es[i0].src && !S es[i0].dst then hi - es[i0].high else 0))
 | [],i0,h=>by simp at h
 | e :: r,0,_=>by
  simp only [gy,List.modify_zero_cons,dI,List.getElem_cons_zero];cases S e.src <;> cases S e.dst <;> simp <;> omega
 | e :: r,i0 + 1,h=>by
  have ih:=AU S lo hi r i0 (by simpa using h);simp only [gy] at ih;simp only [gy,List.modify_succ_cons,dI,List.getElem_cons_succ,ih];omega
theorem gr.mid {N:Nat} {es:List aF} (h:fm N es) {i0:Nat} (h0:i0 < es.length) {lo hi:Int} (hr:gr N es i0 lo hi) {v:Int} (h1:lo ≤ v) (h2:v ≤ hi):∃ f,bz N es f ∧ f i0 = v:=by
 obtain ⟨f,cf,ef⟩:=hr.least;obtain ⟨g,cg,eg⟩:=hr.most;have bf:=cf.inb i0 h0;have bg:=cg.inb i0 h0;have c1:∃ x,bz N (gy es i0 lo lo) x:=⟨f,(dU h0 (by omega) (by omega) f).2 ⟨cf,by omega,by omega⟩⟩;have c2:∃ x,bz N (gy es i0 hi hi) x:=⟨g,(dU h0 (by omega) (by omega) g).2 ⟨cg,by omega,by omega⟩⟩;rw [ry (Dz h (Int.le_refl _))] at c1 c2;have c3:∃ x,bz N (gy es i0 v v) x:=by
  rw [ry (Dz h (Int.le_refl _))];intro S;have d1:=c1 S;have d2:=c2 S;rw [AU S _ _ es i0 h0] at d1 d2 ⊢;cases hs:S es[i0].src <;> cases hd:S es[i0].dst <;> simp [hs,hd] at d1 d2 ⊢ <;> omega
 obtain ⟨x,hx⟩:=c3;obtain ⟨h3,h4,h5⟩:=(dU h0 (by omega) (by omega) x).1 hx;exact ⟨x,h3,by omega⟩
theorem gr.below {N:Nat} {es:List aF} {i0:Nat} (h0:i0 < es.length) {lo hi:Int} (hr:gr N es i0 lo hi) {m:Int} (hm:m ≤ es[i0].high):(∃ f,bz N (gy es i0 es[i0].low m) f) ↔ lo ≤ m:=by
 constructor
 ·rintro ⟨f,hf⟩;obtain ⟨h1,h2,h3⟩:=(dU h0 (Int.le_refl _) hm f).1 hf;have:=hr.all f h1;omega
 ·intro h;obtain ⟨f,cf,ef⟩:=hr.least;exact ⟨f,(dU h0 (Int.le_refl _) hm f).2 ⟨cf,(cf.inb i0 h0).1,by omega⟩⟩
theorem gr.MD {N:Nat} {es:List aF} {i0:Nat} (h0:i0 < es.length) {lo hi:Int} (hr:gr N es i0 lo hi) {m:Int} (hm:es[i0].low ≤ m):(∃ f,bz N (gy es i0 m es[i0].high) f) ↔ m ≤ hi:=by
 constructor
 ·rintro ⟨f,hf⟩;obtain ⟨h1,h2,h3⟩:=(dU h0 hm (Int.le_refl _) f).1 hf;have:=hr.all f h1;omega
 ·intro h;obtain ⟨f,cf,ef⟩:=hr.most;exact ⟨f,(dU h0 hm (Int.le_refl _) f).2 ⟨cf,by omega,(cf.inb i0 h0).2⟩⟩
/-! ### with the outside -/
def amo (A:Nat → Bool) (a:Int):Bool:=decide (a < 0) || A a.toNat
def yQ (A:Nat → Bool) (j:cz):Int:=(if amo A j.dst && !amo A j.src then j.lo else 0) - (if amo A j.src && !amo A j.dst then j.hi else 0)
def yM (A:Nat → Bool) (j:cz):Int:=(if amo A j.dst && !amo A j.src then j.hi else 0) - (if amo A j.src && !amo A j.dst then j.lo else 0)
def nK (A:Nat → Bool) (n:Nat) (y:ab) (k:Int) (js:List cz):Int:=dK A n (fun a=>loC (aD y.first k a)) + cC (yQ A) js
def su (A:Nat → Bool) (n:Nat) (y:ab) (k:Int) (js:List cz):Int:=dK A n (fun a=>hiC (aD y.first k a)) + cC (yM A) js
theorem AR {S:Nat → Bool} {n:Nat} (hn:S n = true) {a:Int}:S (fU n a) = amo S a:=by
 unfold fU amo;split
 ·rename_i h; rw [hn,decide_eq_true h]; rfl
 ·rename_i h; rw [decide_eq_false h]; rfl
theorem w7 {S:Nat → Bool} {n:Nat} (hn:S n = false) {a:Int}:S (fU n a) = !amo (fun x=>!S x) a:=by
 unfold fU amo;split
 ·rename_i h; rw [hn,decide_eq_true h]; rfl
 ·rename_i h; rw [decide_eq_false h]; simp
theorem Aq {S:Nat → Bool} {n:Nat} (hn:S n = true):∀ (js:List cz),dI S (js.map (cq n)) = cC (yQ S) js
 | []=>rfl
 | j :: r=>by
  simp only [List.map_cons,dI,cC,Aq hn r,cq,yQ];rw [AR hn,AR hn]
theorem xd {S:Nat → Bool} {n:Nat} (hn:S n = false):∀ (js:List cz),dI S (js.map (cq n)) = - cC (yM fun x=>!S x) js
 | []=>rfl
 | j :: r=>by
  simp only [List.map_cons,dI,cC,xd hn r,cq,yM];rw [w7 hn,w7 hn];cases amo (fun x=>!S x) j.src <;> cases amo (fun x=>!S x) j.dst <;> simp <;> omega
theorem wR {A B:Nat → Bool} {n:Nat} (h:∀ a,a < n → A a = B a) {x:Int} (h1:x < n):amo A x = amo B x:=by
 unfold amo;rcases Int.lt_or_le x 0 with h2 | h2
 ·rw [decide_eq_true h2]; rfl
 ·rw [h x.toNat (by omega)]
theorem kh {A B:Nat → Bool} {n:Nat} (h:∀ a,a < n → A a = B a):∀ {js:List cz},(∀ j ∈ js,fp n j) → cC (yQ A) js = cC (yQ B) js ∧ cC (yM A) js = cC (yM B) js
 | [],_=>⟨rfl,rfl⟩
 | j :: r,hj=>by
  obtain ⟨h1,h2⟩:=kh h (js:=r) fun x hx=>hj x (by simp [hx]);have h3:=hj j (by simp);simp only [cC,yQ,yM];rw [h1,h2,wR h h3.src.2,wR h h3.dst.2];exact ⟨rfl,rfl⟩
theorem Dl {A:Nat → Bool} {n:Nat}:∀ js:List cz,(∀ j ∈ js,fp n j) → - (js.length * 1000000:Int) ≤ cC (yQ A) js ∧ cC (yQ A) js ≤ js.length * 1000000 ∧ - (js.length * 1000000:Int) ≤ cC (yM A) js ∧ cC (yM A) js ≤ js.length * 1000000
 | [],_=>by simp [cC]
 | j :: r,h=>by
  have ih:=Dl (A:=A) r fun x hx=>h x (by simp [hx]);have hj:=h j (by simp);have h1:=hj.lo;have h2:=hj.hi;unfold Big at h1 h2;simp only [cC,yQ,yM,List.length_cons];cases amo A j.src <;> cases amo A j.dst <;> simp <;> omega
def okO (A:Nat → Bool) (n:Nat) (y:ab) (k:Int) (js:List cz) (lo hi:Int):Prop:=
 (dM A n y k js = 0 ∧ bM A n y k js = 0) ∧ (cL A y k n = true → nK A n y k js ≤ iV A n y k + hi) ∧ gM A n y k + lo ≤ su A n y k js
theorem Ee {A B:Nat → Bool} {n:Nat} (h:∀ a,a < n → A a = B a) (y:ab) (k:Int) {js:List cz} (hj:∀ j ∈ js,fp n j) (lo hi:Int):okO A n y k js lo hi ↔ okO B n y k js lo hi:=by
 obtain ⟨h1,h2⟩:=kh h hj;obtain ⟨h3,h4⟩:=gX h y k hj;unfold okO nK su gM iV;rw [iX h,cW _ h,cW _ h,cW _ h,cW _ h,h1,h2,h3,h4]
theorem DS {y:ab} (hy:mY y) {k:Int} {n:Nat} (hn:n ≤ 4) {js:List cz} (hj:∀ j ∈ js,fp n j) (hl:js.length ≤ 10) {lo hi:Int} (hlh:lo ≤ hi) (hb1:-1000000000 ≤ lo) (_hb2:hi ≤ 1000000000) :
  (∃ f,bz (n + 2) (aU y k n js lo hi) f) ↔ ∀ A,okO A n y k js lo hi:=by
 rw [ry (ub hy k hj hlh)];have f01:∀ (S:Nat → Bool),S n = true → S (n + 1) = false → dI S (aU y k n js lo hi) = nK S n y k js - dK S n (fun a=>dj y k a) - hi:=by
  intro S h1 h2;simp only [aU,gq,uf h2,Aq h1 js,dI,h1,h2,nK];simp; omega
 have f10:∀ (S:Nat → Bool),S n = false → S (n + 1) = true → dI S (aU y k n js lo hi) = gM (fun x=>!S x) n y k + lo - su (fun x=>!S x) n y k js:=by
  intro S h1 h2;simp only [aU,gq,qR h2,xd h1 js,dI,h1,h2,su,gM];simp; omega
 have hb:=fun A=>IY (A:=A) hy (k:=k) hn hj hl;have hbo:∀ A,nK A n y k js ≤ 14000000:=fun A=>by
  have h1:=(di (A:=A) (g:=fun a=>loC (aD y.first k a)) (c:=1000000) (by omega) (fun a=>(bF hy.first k a).1) n).2;have h3:=Dl (A:=A) js hj;unfold nK;omega
 constructor
 ·intro h A;refine ⟨⟨?_, ?_⟩, ?_, ?_⟩
  ·have hS:=gX (A:=A) (B:=fun x=>decide (x < n) && A x) (n:=n) (fun a ha=>by simp [ha]) y k hj;rw [hS.1];generalize hB:(fun x=>decide (x < n) && A x) = B;have hBn:B n = false:=by rw [← hB]; simp
   have hBn1:B (n + 1) = false:=by
    rw [← hB];show (decide (n + 1 < n) && A (n + 1)) = false;rw [decide_eq_false (by omega)]; rfl
   have h1:=h B;rw [(iA hj).1 hBn hBn1] at h1;unfold dM;split
   ·rename_i hw;rw [jT hw] at h1; omega
   ·rfl
  ·have hS:=gX (A:=A) (B:=fun x=>!(decide (n ≤ x) || !A x)) (n:=n) (fun a ha=>by simp; omega) y k hj;rw [hS.2];generalize hB:(fun x=>decide (n ≤ x) || !A x) = B;have hBn:B n = true:=by rw [← hB]; simp
   have hBn1:B (n + 1) = true:=by rw [← hB]; simp
   have h1:=h B;rw [(iA hj).2 hBn hBn1] at h1;have e:(fun x=>!(decide (n ≤ x) || !A x)) = fun x=>!B x:=by rw [← hB]
   rw [e];unfold bM;omega
  ·intro hw;obtain ⟨B,hB⟩:∃ B:Nat → Bool,B = fun x=>if x < n then A x else decide (x = n):=⟨_,rfl⟩;have hag:∀ a,a < n → A a = B a:=fun a ha=>by rw [hB]; simp [ha]
   have hBn:B n = true:=by rw [hB]; simp
   have hBn1:B (n + 1) = false:=by
    rw [hB];show (if n + 1 < n then A (n + 1) else decide (n + 1 = n)) = false;rw [if_neg (by omega),decide_eq_false (by omega)]
   have h1:=h B;rw [f01 B hBn hBn1,jT (by rw [← iX hag]; exact hw)] at h1;unfold nK iV at h1 ⊢;rw [cW _ hag,cW _ hag,(kh hag hj).1];omega
  ·obtain ⟨B,hB⟩:∃ B:Nat → Bool,B = fun x=>if x < n then !A x else decide (x ≠ n):=⟨_,rfl⟩;have hag:∀ a,a < n → A a = !B a:=fun a ha=>by rw [hB]; simp [ha]
   have hBn:B n = false:=by rw [hB]; simp
   have hBn1:B (n + 1) = true:=by
    rw [hB];show (if n + 1 < n then !A (n + 1) else decide (n + 1 ≠ n)) = true;rw [if_neg (by omega),decide_eq_true (by omega)]
   have h1:=h B;rw [f10 B hBn hBn1] at h1;unfold su gM at h1 ⊢;rw [cW (B:=fun x=>!B x) _ hag,cW (B:=fun x=>!B x) _ hag,(kh (B:=fun x=>!B x) hag hj).2];omega
 ·intro h S;cases h1:S n <;> cases h2:S (n + 1)
  ·rw [(iA hj).1 h1 h2];have h3:=(h S).1.1;unfold dM at h3
   split at h3
   ·rename_i hw; rw [jT hw]; omega
   ·rename_i hw;have h4:=nV hy (k:=k) (A:=S) (n:=n) (by simpa using hw);have h5:=(hb S).1;unfold ar at h4;omega
  ·rw [f10 S h1 h2];have:=(h fun x=>!S x).2.2;omega
  ·rw [f01 S h1 h2];by_cases hw:cL S y k n = true
   ·have:=(h S).2.1 hw;rw [jT hw]; omega
   ·have h4:=nV hy (k:=k) (A:=S) (n:=n) (by simpa using hw);have h5:=hbo S;unfold ar at h4;omega
  ·rw [(iA hj).2 h1 h2];have h3:=(h fun x=>!S x).1.2;unfold bM at h3;omega
theorem vZ {y:ab} (hy:mY y) {k:Int} {n:Nat} (hn:n ≤ 4) {js:List cz} (hj:∀ j ∈ js,fp n j) (hl:js.length ≤ 10) {lo hi:Int} (hlh:lo ≤ hi) (hb1:-1000000000 ≤ lo) (hb2:hi ≤ 1000000000) :
  (∃ f,bz (n + 2) (aU y k n js lo hi) f) ↔ ∀ P,P < 2 ^ n → okO (bC P) n y k js lo hi:=by
 rw [DS hy hn hj hl hlh hb1 hb2];constructor
 ·intro h P _; exact h _
 ·intro h A;obtain ⟨P,h1,h2⟩:=za A n;exact (Ee (fun a ha=>(h2 a ha).symm) y k hj lo hi).2 (h P h1)
def aE {α:Type} (f:Nat → α → Int):List α → Nat → Int × Int
 | [],_=>(0,0)
 | a :: r,i=>if f i a ≠ 0 then ((i:Int),f i a) else aE f r (i + 1)
theorem lg {α:Type} (f:Nat → α → Int):∀ (l:List α) (i:Nat),(aE f l i).2 = 0 ↔ ∀ k (h:k < l.length),f (i + k) l[k] = 0
 | [],i=>by simp [aE]
 | a :: r,i=>by
  have ih:=lg f r (i + 1);simp only [aE];by_cases h:f i a = 0
  ·rw [if_neg (by simp [h]),ih];constructor
   ·intro hh k hk
    cases k with
    | zero=>exact h
    | succ k=>
     have:=hh k (by simpa using hk);rw [show i + 1 + k = i + (k + 1) by omega] at this;simpa using this
   ·intro hh k hk;have:=hh (k + 1) (by simpa using hk);rw [show i + (k + 1) = i + 1 + k by omega] at this;simpa using this
  ·rw [if_pos h];constructor
   ·intro e; exact absurd e h
   ·intro hh;have:=hh 0 (by simp);simp at this; exact absurd this h
theorem Bq {α:Type} {f:Nat → α → Int} {l:List α} {i:Nat} (h:(aE f l i).2 = 0):aE f l i = (0,0):=by
 induction l generalizing i with
 | nil=>rfl
 | cons a r ih=>
  simp only [aE] at h ⊢;by_cases h0:f i a = 0
  ·rw [if_neg (by simp [h0])] at h ⊢; exact ih h
  ·rw [if_pos h0] at h; exact absurd h h0
def inI (n lo hi:Int):Bool:=decide (lo ≤ n) && decide (n ≤ hi)
def ft (nm:ByteArray → Bool) (l:List ByteArray) (i:Nat) (s:ByteArray):Int:=if nm s = false then 6 else if (l.take i).any (fun t=>decide (t = s)) = true then 5 else 0
def fK (y:ab) (l:List ay) (i:Nat) (c:ay):Int:=
 if inI c.kind 0 (y.kinds.length - 1) = false ∨ inI c.place 0 (y.places.length - 1) = false then 4
 else if (l.take i).any (fun d=>decide (d.kind = c.kind) && decide (d.place = c.place)) = true then 5
 else if inI c.lo 0 1000000 = false ∨ inI c.hi 0 1000000 = false then 7
 else if c.lo > c.hi then 2 else 0
def lX (y:ab) (i:Nat) (p:aj):Int:=
 if inI p.kind 0 (y.kinds.length - 1) = false ∨ inI p.src (-1) (y.places.length - 1) = false ∨ inI p.dst (-1) (y.places.length - 1) = false then 4
 else if p.src = p.dst then 2
 else if inI p.kilos 0 1000000 = false then 7
 else if p.copy = -1 then 0
 else if inI p.copy 0 (y.papers.length - 1) = false ∨ p.copy = i then 9
 else match y.papers[p.copy.toNat]? with
  | none=>9
  | some q=>if q.copy = i ∧ q.kind = p.kind ∧ q.src = p.src ∧ q.dst = p.dst then 0 else 9
def bZ (nm:ByteArray → Bool) (y:ab):Int × Int × Int:=
 if inI y.kinds.length 1 4 = false ∨ inI y.places.length 1 4 = false ∨ 10 < y.papers.length ∨ 8 < y.first.length ∨ 8 < y.last.length then (1,0,3)
 else if (aE (ft nm y.kinds) y.kinds 0).2 ≠ 0 then (2,aE (ft nm y.kinds) y.kinds 0)
 else if (aE (ft nm y.places) y.places 0).2 ≠ 0 then (3,aE (ft nm y.places) y.places 0)
 else if (aE (fK y y.first) y.first 0).2 ≠ 0 then (4,aE (fK y y.first) y.first 0)
 else if (aE (lX y) y.papers 0).2 ≠ 0 then (5,aE (lX y) y.papers 0)
 else if (aE (fK y y.last) y.last 0).2 ≠ 0 then (6,aE (fK y y.last) y.last 0)
 else (0,0,0)
structure zl (y:ab) (c:ay):Prop extends Dt c where
 kind:0 ≤ c.kind ∧ c.kind < y.kinds.length
 place:0 ≤ c.place ∧ c.place < y.places.length
structure FB (y:ab) (i:Nat) (p:aj):Prop where
 kind:0 ≤ p.kind ∧ p.kind < y.kinds.length
 src:-1 ≤ p.src ∧ p.src < y.places.length
 dst:-1 ≤ p.dst ∧ p.dst < y.places.length
 ne:p.src ≠ p.dst
 kilos:Big p.kilos
 copy:p.copy = -1 ∨ (0 ≤ p.copy ∧ p.copy < y.papers.length ∧ p.copy ≠ i ∧ ∃ q,y.papers[p.copy.toNat]? = some q ∧ q.copy = i ∧ q.kind = p.kind ∧ q.src = p.src ∧ q.dst = p.dst)
structure bV (nm:ByteArray → Bool) (y:ab):Prop where
 k4:1 ≤ y.kinds.length ∧ y.kinds.length ≤ 4
 p4:1 ≤ y.places.length ∧ y.places.length ≤ 4
 m10:y.papers.length ≤ 10
 f8:y.first.length ≤ 8
 l8:y.last.length ≤ 8
 kinds:(∀ s ∈ y.kinds,nm s = true) ∧ y.kinds.Nodup
 places:(∀ s ∈ y.places,nm s = true) ∧ y.places.Nodup
 first:(∀ c ∈ y.first,zl y c) ∧ y.first.Pairwise fun c d=>¬ (c.kind = d.kind ∧ c.place = d.place)
 papers:∀ i (h:i < y.papers.length),FB y i y.papers[i]
 last:(∀ c ∈ y.last,zl y c) ∧ y.last.Pairwise fun c d=>¬ (c.kind = d.kind ∧ c.place = d.place)
theorem bB {n lo hi:Int}:(inI n lo hi = true ↔ lo ≤ n ∧ n ≤ hi) ∧ (inI n lo hi = false ↔ ¬ (lo ≤ n ∧ n ≤ hi)):=by
 have h:inI n lo hi = true ↔ lo ≤ n ∧ n ≤ hi:=by simp [inI]
 exact ⟨h,by rw [← h]; simp⟩
theorem xx {α:Type} (R:α → α → Bool):∀ (l:List α),(∀ k (h:k < l.length),(l.take k).any (fun d=>R d l[k]) = false) ↔ l.Pairwise fun c d=>¬ R c d = true:=by
 intro l;rw [List.pairwise_iff_getElem];constructor
 ·intro h i j hi hj hij;have:=h j hj;rw [List.any_eq_false] at this;exact this l[i] (List.mem_take_iff_getElem.2 ⟨i,by omega,rfl⟩)
 ·intro h k hk;rw [List.any_eq_false];intro d hd;obtain ⟨i,hi,rfl⟩:=List.mem_take_iff_getElem.1 hd;exact h i k (by omega) hk (by omega)
theorem qg (nm:ByteArray → Bool) (l:List ByteArray):(aE (ft nm l) l 0).2 = 0 ↔ (∀ s ∈ l,nm s = true) ∧ l.Nodup:=by
 have hp:=xx (fun d c:ByteArray=>decide (d = c)) l;have e:(l.Pairwise fun c d=>¬ decide (c = d) = true) ↔ l.Nodup:=by
  rw [List.nodup_iff_pairwise_ne];exact List.Pairwise.iff fun a b=>by simp
 rw [lg, ← e, ← hp];constructor
 ·intro h;have key:∀ k (hk:k < l.length),nm l[k] = true ∧ (l.take k).any (fun d=>decide (d = l[k])) = false:=fun k hk=>by
   have:=h k hk;unfold ft at this;rw [Nat.zero_add] at this;by_cases h1:nm l[k] = false
   ·rw [if_pos h1] at this; exact absurd this (by decide)
   ·rw [if_neg h1] at this;by_cases h2:(l.take k).any (fun d=>decide (d = l[k])) = true
    ·rw [if_pos h2] at this; exact absurd this (by decide)
    ·exact ⟨by simpa using h1,Bool.eq_false_iff.2 h2⟩
  refine ⟨fun s hs=>?_,fun k hk=>(key k hk).2⟩;obtain ⟨k,hk,rfl⟩:=List.getElem_of_mem hs;exact (key k hk).1
 ·rintro ⟨h1,h2⟩ k hk;unfold ft;rw [Nat.zero_add,if_neg (by simp [h1 _ (List.getElem_mem hk)]),if_neg (by rw [h2 k hk]; simp)]
theorem ga (y:ab) (l:List ay):(aE (fK y l) l 0).2 = 0 ↔ (∀ c ∈ l,zl y c) ∧ l.Pairwise fun c d=>¬ (c.kind = d.kind ∧ c.place = d.place):=by
 have hp:=xx (fun d c:ay=>decide (d.kind = c.kind) && decide (d.place = c.place)) l;have e:(l.Pairwise fun c d=>¬ (decide (c.kind = d.kind) && decide (c.place = d.place)) = true) ↔ l.Pairwise fun c d=>¬ (c.kind = d.kind ∧ c.place = d.place):=
  List.Pairwise.iff fun a b=>by simp
 rw [lg, ← e, ← hp];constructor
 ·intro h;have key:∀ k (hk:k < l.length),zl y l[k] ∧ (l.take k).any (fun d=>decide (d.kind = l[k].kind) && decide (d.place = l[k].place)) = false:=fun k hk=>by
   have:=h k hk;unfold fK at this;rw [Nat.zero_add] at this;by_cases h1:inI l[k].kind 0 (y.kinds.length - 1) = false ∨ inI l[k].place 0 (y.places.length - 1) = false
   ·rw [if_pos h1] at this; exact absurd this (by decide)
   rw [if_neg h1] at this;by_cases h2:(l.take k).any (fun d=>decide (d.kind = l[k].kind) && decide (d.place = l[k].place)) = true
   ·rw [if_pos h2] at this; exact absurd this (by decide)
   rw [if_neg h2] at this;by_cases h3:inI l[k].lo 0 1000000 = false ∨ inI l[k].hi 0 1000000 = false
   ·rw [if_pos h3] at this; exact absurd this (by decide)
   rw [if_neg h3] at this;by_cases h4:l[k].lo > l[k].hi
   ·rw [if_pos h4] at this; exact absurd this (by decide)
   rw [bB.2,bB.2] at h1 h3;exact ⟨⟨⟨⟨by omega,by omega⟩,⟨by omega,by omega⟩,by omega⟩,by omega,by omega⟩,by simpa using h2⟩
  refine ⟨fun s hs=>?_,fun k hk=>(key k hk).2⟩;obtain ⟨k,hk,rfl⟩:=List.getElem_of_mem hs;exact (key k hk).1
 ·rintro ⟨h1,h2⟩ k hk;have hc:=h1 _ (List.getElem_mem hk);have a1:=hc.kind;have a2:=hc.place;have a3:=hc.lo;have a4:=hc.hi;have a5:=hc.le;unfold Big at a3 a4;unfold fK;rw [Nat.zero_add,if_neg (by rw [bB.2,bB.2]; omega),if_neg (by rw [h2 k hk]; simp),if_neg (by rw [bB.2,bB.2]; omega),if_neg (by omega)]
theorem n0 (y:ab):(aE (lX y) y.papers 0).2 = 0 ↔ ∀ i (h:i < y.papers.length),FB y i y.papers[i]:=by
 rw [lg];refine forall_congr' fun i=>forall_congr' fun hi=>?_;rw [Nat.zero_add];generalize y.papers[i] = p;unfold lX;by_cases h1:inI p.kind 0 (y.kinds.length - 1) = false ∨ inI p.src (-1) (y.places.length - 1) = false ∨ inI p.dst (-1) (y.places.length - 1) = false
 ·rw [if_pos h1];rw [bB.2,bB.2,bB.2] at h1;refine ⟨fun e=>absurd e (by decide),fun h=>?_⟩;have:=h.kind; have:=h.src; have:=h.dst;omega
 rw [if_neg h1];rw [bB.2,bB.2,bB.2] at h1;by_cases h2:p.src = p.dst
 ·rw [if_pos h2];exact ⟨fun e=>absurd e (by decide),fun h=>absurd h2 h.ne⟩
 rw [if_neg h2];by_cases h3:inI p.kilos 0 1000000 = false
 ·rw [if_pos h3];rw [bB.2] at h3;exact ⟨fun e=>absurd e (by decide),fun h=>absurd h.kilos h3⟩
 rw [if_neg h3];rw [bB.2] at h3;have hbase:∀ hc,FB y i p:=fun hc=>⟨by omega,by omega,by omega,h2,⟨by omega,by omega⟩,hc⟩;by_cases h4:p.copy = -1
 ·rw [if_pos h4];exact ⟨fun _=>hbase (.inl h4),fun _=>rfl⟩
 rw [if_neg h4];by_cases h5:inI p.copy 0 (y.papers.length - 1) = false ∨ p.copy = i
 ·rw [if_pos h5];rw [bB.2] at h5;refine ⟨fun e=>absurd e (by decide),fun h=>?_⟩;rcases h.copy with hc | ⟨c1,c2,c3,_⟩ <;> omega
 rw [if_neg h5];rw [bB.2] at h5
 cases hq:y.papers[p.copy.toNat]? with
 | none=>
  dsimp only;refine ⟨fun e=>absurd e (by decide),fun h=>?_⟩;rcases h.copy with hc | ⟨_,_,_,q,hq',_⟩
  ·exact absurd hc h4
  ·rw [hq] at hq'; cases hq'
 | some q=>
  dsimp only;by_cases h6:q.copy = i ∧ q.kind = p.kind ∧ q.src = p.src ∧ q.dst = p.dst
  ·rw [if_pos h6];exact ⟨fun _=>hbase (.inr ⟨by omega,by omega,by omega,q,hq,h6⟩),fun _=>rfl⟩
  ·rw [if_neg h6];refine ⟨fun e=>absurd e (by decide),fun h=>?_⟩;rcases h.copy with hc | ⟨_,_,_,q',hq',h7⟩
   ·exact absurd hc h4
   ·rw [hq] at hq'; cases hq'; exact absurd h7 h6
theorem iv (nm:ByteArray → Bool) (y:ab):(bZ nm y).2.2 = 0 ↔ bV nm y:=by
 unfold bZ;by_cases h1:inI y.kinds.length 1 4 = false ∨ inI y.places.length 1 4 = false ∨ 10 < y.papers.length ∨ 8 < y.first.length ∨ 8 < y.last.length
 ·rw [if_pos h1];rw [bB.2,bB.2] at h1;refine ⟨fun e=>absurd e (by decide),fun h=>?_⟩;have:=h.k4; have:=h.p4; have:=h.m10; have:=h.f8; have:=h.l8;omega
 rw [if_neg h1];rw [bB.2,bB.2] at h1;by_cases h2:(aE (ft nm y.kinds) y.kinds 0).2 = 0;rotate_left
 ·rw [if_pos h2]; exact ⟨fun e=>absurd e h2,fun h=>absurd ((qg _ _).2 h.kinds) h2⟩
 rw [if_neg (by simp [h2])];by_cases h3:(aE (ft nm y.places) y.places 0).2 = 0;rotate_left
 ·rw [if_pos h3]; exact ⟨fun e=>absurd e h3,fun h=>absurd ((qg _ _).2 h.places) h3⟩
 rw [if_neg (by simp [h3])];by_cases h4:(aE (fK y y.first) y.first 0).2 = 0;rotate_left
 ·rw [if_pos h4]; exact ⟨fun e=>absurd e h4,fun h=>absurd ((ga _ _).2 h.first) h4⟩
 rw [if_neg (by simp [h4])];by_cases h5:(aE (lX y) y.papers 0).2 = 0;rotate_left
 ·rw [if_pos h5]; exact ⟨fun e=>absurd e h5,fun h=>absurd ((n0 _).2 h.papers) h5⟩
 rw [if_neg (by simp [h5])];by_cases h6:(aE (fK y y.last) y.last 0).2 = 0;rotate_left
 ·rw [if_pos h6]; exact ⟨fun e=>absurd e h6,fun h=>absurd ((ga _ _).2 h.last) h6⟩
 rw [if_neg (by simp [h6])];exact ⟨fun _=>⟨by omega,by omega,by omega,by omega,by omega,(qg _ _).1 h2,(qg _ _).1 h3,(ga _ _).1 h4,(n0 _).1 h5,(ga _ _).1 h6⟩,fun _=>rfl⟩
theorem bV.ok {nm:ByteArray → Bool} {y:ab} (h:bV nm y):mY y:=⟨h.p4.2,fun c hc=>(h.first.1 c hc).toDt,fun c hc=>(h.last.1 c hc).toDt⟩
def fq (l:List Nat) (n:Nat):Bool:=l.any fun x=>decide (x = n)
theorem dF {l:List Nat} {n:Nat}:fq l n = true ↔ n ∈ l:=by simp [fq]
def bH (y:ab) (wrong:List Nat) (i:Nat):Bool:=match y.papers[i]? with
 | none=>false
 | some p=>decide ((i:Int) < p.copy) && !fq wrong i && !fq wrong p.copy.toNat && decide (p.kilos ≠ bA y p.copy.toNat)
def bh (y:ab) (wrong:List Nat) (k:Int):List cz:=dy (aY y wrong) k y.papers 0
def jO (y:ab) (wrong:List Nat) (k:Int) (P:Nat):Int:=dM (bC P) y.places.length y k (bh y wrong k)
def dY (y:ab) (wrong:List Nat) (k:Int) (P:Nat):Int:=bM (bC P) y.places.length y k (bh y wrong k)
structure aS where
 paper:Int
 kind:Int
 places:Int
 over:Int
def ny (y:ab) (wrong:List Nat) (k P:Nat):Option aS:=
 if P = 0 then none else if 0 < jO y wrong k P then some ⟨-1,k,P,jO y wrong k P⟩ else if dY y wrong k P < 0 then some ⟨-1,k,P,dY y wrong k P⟩ else none
def gD (y:ab) (wrong:List Nat) (k:Nat):Option aS:=(List.range (2 ^ y.places.length)).findSome? (ny y wrong k)
def mc (y:ab) (wrong:List Nat):Option Nat:=(List.range y.papers.length).find? (bH y wrong)
def vp (y:ab) (wrong:List Nat):Option aS:=match mc y wrong with
 | some i=>some ⟨i,0,0,0⟩
 | none=>(List.range y.kinds.length).findSome? (gD y wrong)
def aL (y:ab) (wrong:List Nat):Bool:=(vp y wrong).isNone
def xD (y:ab) (wrong:List Nat) (k:Int):Prop:=∃ f,bz (y.places.length + 2) (aU y k y.places.length (bh y wrong k) (-ar) ar) f
theorem sG {nm:ByteArray → Bool} {y:ab} (h:bV nm y) (i:Nat):Big (bA y i):=by
 unfold bA
 cases hi:y.papers[i]? with
 | none=>exact ⟨by simp,by simp⟩
 | some p=>
  obtain ⟨h1,rfl⟩:=List.getElem?_eq_some_iff.1 hi;exact (h.papers i h1).kilos
theorem qZ {nm:ByteArray → Bool} {y:ab} (h:bV nm y) (wrong:List Nat) {p:aj} (hp:Big p.kilos) (i:Nat):Big (aY y wrong p i).1 ∧ Big (aY y wrong p i).2 ∧ (aY y wrong p i).1 ≤ (aY y wrong p i).2:=by
 have k1:=sG h (min i p.copy.toNat);have k2:=sG h (max i p.copy.toNat);unfold aY;unfold Big at *;split
 ·split
  ·exact ⟨⟨by simp,by simp⟩,⟨by simp,by simp⟩,by simp⟩
  ·exact ⟨hp,hp,Int.le_refl _⟩
 split
 ·exact ⟨k1,k1,Int.le_refl _⟩
 split
 ·exact ⟨k2,k2,Int.le_refl _⟩
 ·exact ⟨⟨by simp,by simp⟩,⟨by simp,by simp⟩,by simp⟩
theorem Cw {n:Nat} {al:aj → Nat → Int × Int} {k:Int}:∀ (l:List aj) (i:Nat),(∀ j (h:j < l.length),(-1 ≤ l[j].src ∧ l[j].src < n) ∧ (-1 ≤ l[j].dst ∧ l[j].dst < n) ∧ l[j].src ≠ l[j].dst ∧ Big (al l[j] (i + j)).1 ∧ Big (al l[j] (i + j)).2 ∧ (al l[j] (i + j)).1 ≤ (al l[j] (i + j)).2) → (∀ x ∈ dy al k l i,fp n x) ∧ (dy al k l i).length ≤ l.length
 | [],i,_=>by simp [dy]
 | p :: r,i,h=>by
  obtain ⟨h1,h2⟩:=Cw r (i + 1) fun j hj=>by
   have:=h (j + 1) (by simpa using hj);rw [show i + (j + 1) = i + 1 + j by omega] at this;simpa using this
  have h0:=h 0 (by simp);simp only [List.getElem_cons_zero,Nat.add_zero] at h0;simp only [dy];split
  ·refine ⟨fun x hx=>?_,by simp; omega⟩;rcases List.mem_cons.1 hx with rfl | hx
   ·exact ⟨h0.1,h0.2.1,h0.2.2.1,h0.2.2.2.1,h0.2.2.2.2.1,h0.2.2.2.2.2⟩
   ·exact h1 x hx
  ·exact ⟨h1,by simp; omega⟩
theorem nD {nm:ByteArray → Bool} {y:ab} (h:bV nm y) (wrong:List Nat) (k:Int):(∀ x ∈ bh y wrong k,fp y.places.length x) ∧ (bh y wrong k).length ≤ 10:=by
 have:=Cw (n:=y.places.length) (al:=aY y wrong) (k:=k) y.papers 0 fun j hj=>by
  have hp:=h.papers j hj;rw [Nat.zero_add];exact ⟨hp.src,hp.dst,hp.ne,qZ h wrong hp.kilos j⟩
 exact ⟨this.1,by have:=this.2; have:=h.m10; unfold bh; omega⟩
theorem DA (A:Nat → Bool) (n:Nat) (y:ab) (k:Int) (js:List cz):0 ≤ dM A n y k js ∧ bM A n y k js ≤ 0:=by
 unfold dM bM;constructor
 ·split <;> omega
 ·omega
theorem Bm {nm:ByteArray → Bool} {y:ab} (h:bV nm y) (wrong:List Nat) (k:Nat):xD y wrong k ↔ gD y wrong k = none:=by
 obtain ⟨h1,h2⟩:=nD h wrong k;unfold xD;rw [xu h.ok h.p4.2 h1 h2];unfold gD;rw [List.findSome?_eq_none_iff];constructor
 ·intro hh P hP;rw [List.mem_range] at hP;unfold ny;split
  ·rfl
  ·rename_i h0;obtain ⟨a,b⟩:=hh P (by omega) hP;unfold jO dY;rw [a,b]; simp
 ·intro hh P h0 hP;have:=hh P (List.mem_range.2 hP);obtain ⟨n1,n2⟩:=DA (bC P) y.places.length y k (bh y wrong k);unfold ny at this;rw [if_neg (by omega)] at this
  split at this
  ·cases this
  ·rename_i g1
   split at this
   ·cases this
   ·rename_i g2;unfold jO at g1;unfold dY at g2;omega
theorem fS {nm:ByteArray → Bool} {y:ab} (h:bV nm y) (wrong:List Nat):aL y wrong = true ↔ (∀ i,i < y.papers.length → bH y wrong i = false) ∧ ∀ k,k < y.kinds.length → xD y wrong (k:Nat):=by
 unfold aL vp
 cases ht:mc y wrong with
 | some i=>
  dsimp only;refine ⟨fun e=>by simp at e,fun ⟨h1,_⟩=>?_⟩;have h2:=List.find?_some ht;have h3:=List.mem_of_find?_eq_some ht;rw [h1 i (List.mem_range.1 h3)] at h2; cases h2
 | none=>
  dsimp only;have h1:∀ i,i < y.papers.length → bH y wrong i = false:=fun i hi=>by
   have:=List.find?_eq_none.1 ht i (List.mem_range.2 hi);simpa using this
  rw [Option.isNone_iff_eq_none,List.findSome?_eq_none_iff];constructor
  ·intro hh;exact ⟨h1,fun k hk=>(Bm h wrong k).2 (hh k (List.mem_range.2 hk))⟩
  ·rintro ⟨_,h2⟩ k hk;exact (Bm h wrong k).1 (h2 k (List.mem_range.1 hk))
/-! ### wider bounds -/
inductive dz:List aF → List aF → Prop
 | nil:dz [] []
 | cons {a b:aF} {l r:List aF}:a.src = b.src → a.dst = b.dst → b.low ≤ a.low → a.high ≤ b.high → dz l r → dz (a :: l) (b :: r)
theorem dz.refl:∀ l,dz l l
 | []=>.nil
 | _ :: r=>.cons rfl rfl (Int.le_refl _) (Int.le_refl _) (dz.refl r)
theorem dz.app {a b c d:List aF} (h:dz a b) (g:dz c d):dz (a ++ c) (b ++ d):=by
 induction h with
 | nil=>exact g
 | cons h1 h2 h3 h4 _ ih=>exact .cons h1 h2 h3 h4 ih
theorem dz.net {a b:List aF} (h:dz a b) (n:Nat) (f:Nat → Int):∀ i,bm n a i f = bm n b i f:=by
 induction h with
 | nil=>intro i; rfl
 | cons h1 h2 _ _ _ ih=>intro i; simp only [bm,ih,h1,h2]
theorem dz.inb {a b:List aF} (h:dz a b):∀ (f:Nat → Int) (i:Nat),(∀ k (hk:k < a.length),a[k].low ≤ f (i + k) ∧ f (i + k) ≤ a[k].high) → ∀ k (hk:k < b.length),b[k].low ≤ f (i + k) ∧ f (i + k) ≤ b[k].high:=by
 induction h with
 | nil=>intro f i _ k hk; simp at hk
 | @cons a b l r h1 h2 h3 h4 _ ih=>
  intro f i hh k hk
  cases k with
  | zero=>
   have:=hh 0 (by simp);simp only [List.getElem_cons_zero] at this ⊢;omega
  | succ k=>
   have:=ih f (i + 1) (fun j hj=>by
    have:=hh (j + 1) (by simpa using hj);rw [show i + (j + 1) = i + 1 + j by omega] at this
    simpa using this) k (by simpa using hk)
   rw [show i + (k + 1) = i + 1 + k by omega];simpa using this
theorem dz.Pz {N:Nat} {a b:List aF} (h:dz a b) {f:Nat → Int} (hc:bz N a f):bz N b f:=
 ⟨fun k hk=>by
  have:=h.inb f 0 (fun j hj=>by rw [Nat.zero_add]; exact hc.inb j hj) k hk
  rwa [Nat.zero_add] at this,fun n hn=>by rw [← h.net n f 0]; exact hc.net n hn⟩
theorem xI {n:Nat} {al be:aj → Nat → Int × Int} {k:Int}:∀ (l:List aj) (i:Nat),(∀ j (h:j < l.length),l[j].kind = k → ba l[j] (i + j) = true → (be l[j] (i + j)).1 ≤ (al l[j] (i + j)).1 ∧ (al l[j] (i + j)).2 ≤ (be l[j] (i + j)).2) → dz ((dy al k l i).map (cq n)) ((dy be k l i).map (cq n))
 | [],i,_=>by simp only [dy,List.map_nil]; exact .nil
 | p :: r,i,h=>by
  have ih:=xI (n:=n) r (i + 1) fun j hj=>by
   have:=h (j + 1) (by simpa using hj);rw [show i + (j + 1) = i + 1 + j by omega] at this;simpa using this
  have h0:=h 0 (by simp);simp only [List.getElem_cons_zero,Nat.add_zero] at h0;simp only [dy];split
  ·rename_i hc;obtain ⟨a,b⟩:=h0 hc.1 hc.2;simp only [List.map_cons];exact .cons rfl rfl a b ih
  ·exact ih
theorem Cz {y:ab} {k:Int} {n:Nat} {js ks:List cz} (h:dz (js.map (cq n)) (ks.map (cq n))) (lo hi:Int):dz (aU y k n js lo hi) (aU y k n ks lo hi):=
 ((dz.refl _).app h).app (dz.refl _)
theorem ju {y:ab} {wrong:List Nat} {p:aj} {i:Nat} (h:p.copy < 0):aY y wrong p i = if i ∈ wrong then (0,1000000) else (p.kilos,p.kilos):=by
 unfold aY; rw [if_pos h]
theorem jr {y:ab} {wrong:List Nat} {p:aj} {i c:Nat} (h:p.copy = c) (hlt:i < c):aY y wrong p i = if ¬ i ∈ wrong then (bA y i,bA y i) else if ¬ c ∈ wrong then (bA y c,bA y c) else (0,1000000):=by
 have e1:min i p.copy.toNat = i:=by omega
 have e2:max i p.copy.toNat = c:=by omega
 unfold aY; rw [if_neg (show ¬ p.copy < 0 by omega),e1,e2]
theorem BT {nm:ByteArray → Bool} {y:ab} (h:bV nm y) {wrong more:List Nat} (hs:∀ i ∈ wrong,i ∈ more) (ht:∀ i,i < y.papers.length → bH y wrong i = false) {i:Nat} (hi:i < y.papers.length) (hl:ba y.papers[i] i = true) :
  (aY y more y.papers[i] i).1 ≤ (aY y wrong y.papers[i] i).1 ∧ (aY y wrong y.papers[i] i).2 ≤ (aY y more y.papers[i] i).2:=by
 have hp:=h.papers i hi;have hd:=ht i hi;unfold bH at hd;rw [List.getElem?_eq_getElem hi] at hd;dsimp only at hd;have hki:bA y i = y.papers[i].kilos:=by unfold bA; rw [List.getElem?_eq_getElem hi]
 generalize y.papers[i] = p at *;have hb:=hp.kilos;have kb:=sG h;unfold ba at hl;rcases hp.copy with hc | ⟨c1,c2,c3,_⟩
 ·rw [ju (show p.copy < 0 by omega),ju (show p.copy < 0 by omega)];by_cases w:i ∈ wrong
  ·rw [if_pos w,if_pos (hs i w)]; simp
  ·rw [if_neg w];by_cases m:i ∈ more
   ·rw [if_pos m]; exact ⟨hb.1,hb.2⟩
   ·rw [if_neg m]; simp
 ·have hlt:(i:Int) < p.copy:=by simp at hl; omega
  obtain ⟨c,hc⟩:∃ c:Nat,p.copy = c:=⟨p.copy.toNat,by omega⟩;have e3:p.copy.toNat = c:=by omega
  rw [jr hc (by omega),jr hc (by omega)];rw [e3,decide_eq_true hlt] at hd;have kc:=kb c;unfold Big at hb kc;have hw1:fq wrong i = true ↔ i ∈ wrong:=dF;have hw2:fq wrong c = true ↔ c ∈ wrong:=dF;by_cases w1:i ∈ wrong
  ·have m1:=hs i w1;by_cases w2:c ∈ wrong
   ·have m2:=hs c w2;simp [w1,w2,m1,m2]
   ·by_cases m2:c ∈ more
    ·simp [w1,w2,m1,m2]; exact kc
    ·simp [w1,w2,m1,m2]
  ·by_cases m1:i ∈ more
   ·by_cases m2:c ∈ more
    ·simp [w1,m1,m2,hki]; exact hb
    ·have w2:¬ c ∈ wrong:=fun e=>m2 (hs c e);have:p.kilos = bA y c:=by
      have f1:fq wrong i = false:=by rw [Bool.eq_false_iff]; exact fun e=>w1 (hw1.1 e)
      have f2:fq wrong c = false:=by rw [Bool.eq_false_iff]; exact fun e=>w2 (hw2.1 e)
      rw [f1,f2] at hd;simpa using hd
     simp [w1,m1,m2,hki,this]
   ·simp [w1,m1]
theorem As {y:ab} {wrong more:List Nat} (hs:∀ i ∈ wrong,i ∈ more) {i:Nat} (h:bH y wrong i = false):bH y more i = false:=by
 unfold bH at h ⊢;split
 ·rfl
 ·rename_i p hp;rw [hp] at h;dsimp only at h;have m:∀ n,fq wrong n = true → fq more n = true:=fun n hn=>dF.2 (hs n (dF.1 hn));rw [Bool.eq_false_iff] at h ⊢;intro e;apply h;simp only [Bool.and_eq_true,Bool.not_eq_true',Bool.eq_false_iff] at e ⊢;exact ⟨⟨⟨e.1.1.1,fun w=>e.1.1.2 (m _ w)⟩,fun w=>e.1.2 (m _ w)⟩,e.2⟩
theorem B7 {nm:ByteArray → Bool} {y:ab} (h:bV nm y) {wrong more:List Nat} (hs:∀ i ∈ wrong,i ∈ more) (ht:∀ i,i < y.papers.length → bH y wrong i = false) (k lo hi:Int) :
  dz (aU y k y.places.length (bh y wrong k) lo hi) (aU y k y.places.length (bh y more k) lo hi):=by
 refine Cz (xI y.papers 0 fun j hj _ hl=>?_) lo hi;rw [Nat.zero_add] at hl ⊢;exact BT h hs ht hj hl
theorem zK {nm:ByteArray → Bool} {y:ab} (h:bV nm y) {wrong more:List Nat} (hs:∀ i ∈ wrong,i ∈ more) (hc:aL y wrong = true):aL y more = true:=by
 obtain ⟨h1,h2⟩:=(fS h wrong).1 hc;refine (fS h more).2 ⟨fun i hi=>As hs (h1 i hi),fun k hk=>?_⟩;obtain ⟨f,hf⟩:=h2 k hk;exact ⟨f,(B7 h hs h1 k _ _).Pz hf⟩
def cr (m:Nat):Nat → Nat → List (List Nat)
 | 0,_=>[[]]
 | many + 1,a=>(List.range' a (m - a)).flatMap fun i=>(cr m many (i + 1)).map fun l=>i :: l
def oK (m a:Nat) (l:List Nat):Prop:=l.Pairwise (· < ·) ∧ ∀ x ∈ l,a ≤ x ∧ x < m
theorem fy (m:Nat):∀ (many a:Nat) (l:List Nat),l ∈ cr m many a ↔ l.length = many ∧ oK m a l
 | 0,a,l=>by
  simp only [cr,List.mem_singleton];constructor
  ·rintro rfl; exact ⟨rfl, .nil,by simp⟩
  ·intro h; exact List.eq_nil_of_length_eq_zero h.1
 | many + 1,a,l=>by
  simp only [cr,List.mem_flatMap,List.mem_map];constructor
  ·rintro ⟨i,hi,r,hr,rfl⟩;rw [List.mem_range'_1] at hi;obtain ⟨h1,h2,h3⟩:=(fy m many (i + 1) r).1 hr;refine ⟨by simp [h1],List.pairwise_cons.2 ⟨fun x hx=>by have:=h3 x hx; omega,h2⟩,fun x hx=>?_⟩;rcases List.mem_cons.1 hx with rfl | hx
   ·omega
   ·have:=h3 x hx; omega
  ·rintro ⟨h1,h2,h3⟩
   cases l with
   | nil=>simp at h1
   | cons i r=>
    have hi:=h3 i (by simp);obtain ⟨h4,h5⟩:=List.pairwise_cons.1 h2;exact ⟨i,List.mem_range'_1.2 ⟨hi.1,by omega⟩,r,(fy m many (i + 1) r).2 ⟨by simpa using h1,h5,fun x hx=>⟨by have:=h4 x hx; omega,(h3 x (by simp [hx])).2⟩⟩,rfl⟩
theorem qO {m a:Nat}:∀ {l:List Nat},oK m a l → l.length ≤ m - a
 | [],_=>by simp
 | x :: r,h=>by
  have hx:=h.2 x (by simp);obtain ⟨h1,h2⟩:=List.pairwise_cons.1 h.1;have:=qO (m:=m) (a:=x + 1) (l:=r) ⟨h2,fun z hz=>⟨by have:=h1 z hz; omega,(h.2 z (by simp [hz])).2⟩⟩;simp only [List.length_cons]; omega
def dJ (m but:Nat):List Nat:=(List.range m).filter fun i=>decide (i ≠ but)
theorem CQ {m but i:Nat}:i ∈ dJ m but ↔ i < m ∧ i ≠ but:=by simp [dJ]
theorem gV (m:Nat) (p:Nat → Bool):oK m 0 ((List.range m).filter p):=
 ⟨(List.pairwise_lt_range).filter _,fun x hx=>⟨by omega,List.mem_range.1 (List.mem_filter.1 hx).1⟩⟩
def iY (y:ab):Option (List Nat):=(List.range (y.papers.length + 1)).findSome? fun many=>(cr y.papers.length many 0).find? (aL y)
def atW (y:ab) (many:Nat):List (List Nat):=(cr y.papers.length many 0).filter (aL y)
def fG (y:ab):Option (List (List Nat)):=(List.range (y.papers.length + 1)).findSome? fun many=>if atW y many = [] then none else some (atW y many)
def Dg (y:ab):List Nat:=(List.range y.papers.length).filter fun i=>!aL y (dJ y.papers.length i)
def El (y:ab) (ls:List (List Nat)):List Nat:=(List.range y.papers.length).filter fun i=>ls.any fun l=>fq l i
def Few (y:ab) (l:List Nat):Prop:=oK y.papers.length 0 l ∧ aL y l = true ∧ ∀ l',oK y.papers.length 0 l' → aL y l' = true → l.length ≤ l'.length
theorem gU {α β:Type} {f:α → Option β}:∀ {l:List α} {b:β},l.findSome? f = some b → ∃ l1 a l2,l = l1 ++ a :: l2 ∧ f a = some b ∧ ∀ x ∈ l1,f x = none
 | [],b,h=>by simp at h
 | a :: r,b,h=>by
  cases ha:f a with
  | some c=>
   simp only [List.findSome?_cons,ha,Option.some.injEq] at h;exact ⟨[],a,r,rfl,by rw [ha,h],by simp⟩
  | none=>
   simp only [List.findSome?_cons,ha] at h;obtain ⟨l1,a',l2,e,h1,h2⟩:=gU h;refine ⟨a :: l1,a',l2,by rw [e]; rfl,h1,fun x hx=>?_⟩;rcases List.mem_cons.1 hx with rfl | hx
   ·exact ha
   ·exact h2 x hx
theorem s7 {n a:Nat} {l1 l2:List Nat} (h:List.range n = l1 ++ a :: l2):a < n ∧ ∀ x,x < a → x ∈ l1:=by
 have hl:a = l1.length:=by
  have h1:(List.range n)[l1.length]? = some a:=by rw [h]; simp
  rw [List.getElem?_range (by have:=congrArg List.length h; simp at this; omega)] at h1;exact (Option.some.inj h1).symm
 have hn:n = l1.length + (l2.length + 1):=by have:=congrArg List.length h; simpa using this
 refine ⟨by omega,fun x hx=>?_⟩;have h1:(List.range n)[x]? = some x:=List.getElem?_range (by omega);rw [h,List.getElem?_append_left (by omega)] at h1;exact List.mem_of_getElem? h1
theorem nU {y:ab} {l:List Nat} (h:iY y = some l):Few y l ∧ l.length ≤ y.papers.length ∧ (cr y.papers.length l.length 0).find? (aL y) = some l ∧ ∀ many,many < l.length → ∀ x ∈ cr y.papers.length many 0,aL y x = false:=by
 obtain ⟨l1,many,l2,e,h1,h2⟩:=gU h;obtain ⟨hm,hx⟩:=s7 e;obtain ⟨h3,h4⟩:=(fy _ _ _ _).1 (List.mem_of_find?_eq_some h1);subst h3;have hb:∀ many,many < l.length → ∀ x ∈ cr y.papers.length many 0,aL y x = false:=fun k hk x hxm=>by
  have:=h2 k (hx k hk);have:=List.find?_eq_none.1 this x hxm;simpa using this
 refine ⟨⟨h4,List.find?_some h1,fun l' ha hc=>?_⟩,by omega,h1,hb⟩;rcases Nat.lt_or_ge l'.length l.length with hlt | hge
 ·have:=hb l'.length hlt l' ((fy _ _ _ _).2 ⟨rfl,ha⟩);rw [hc] at this; cases this
 ·exact hge
theorem D4 {y:ab} {l':List Nat} (ha:oK y.papers.length 0 l') (hc:aL y l' = true):∃ l,iY y = some l:=by
 cases h:iY y with
 | some l=>exact ⟨l,rfl⟩
 | none=>
  have h1:=List.findSome?_eq_none_iff.1 h l'.length (List.mem_range.2 (by have:=qO ha; omega));have h2:=List.find?_eq_none.1 h1 l' ((fy _ _ _ _).2 ⟨rfl,ha⟩);exact absurd hc h2
theorem Cj {nm:ByteArray → Bool} {y:ab} (h:bV nm y):(∃ l,iY y = some l) ↔ aL y (dJ y.papers.length y.papers.length) = true:=by
 constructor
 ·rintro ⟨l,hl⟩;obtain ⟨⟨h1,h2,_⟩,_⟩:=nU hl;exact zK h (fun i hi=>CQ.2 ⟨(h1.2 i hi).2,by have:=(h1.2 i hi).2; omega⟩) h2
 ·intro hc;exact D4 (gV _ _) hc
theorem FU {y:ab} {l:List Nat} (h:iY y = some l):fG y = some (atW y l.length) ∧ atW y l.length = l :: (atW y l.length).tail:=by
 obtain ⟨_,hl,h1,h2⟩:=nU h;have hh:(atW y l.length).head? = some l:=by unfold atW; rw [List.head?_filter]; exact h1
 have hne:atW y l.length ≠ []:=fun e=>by rw [e] at hh; cases hh
 have hcons:atW y l.length = l :: (atW y l.length).tail:=by
  cases ha:atW y l.length with
  | nil=>exact absurd ha hne
  | cons a r=>rw [ha] at hh; simp at hh; rw [hh]; rfl
 refine ⟨?_,hcons⟩;have hz:∀ many,many < l.length → atW y many = []:=fun many hm=>List.filter_eq_nil_iff.2 fun x hx=>by rw [h2 many hm x hx]; simp
 unfold fG
 cases hs:(List.range (y.papers.length + 1)).findSome? fun many=>if atW y many = [] then none else some (atW y many) with
 | none=>
  have:=List.findSome?_eq_none_iff.1 hs l.length (List.mem_range.2 (by omega));rw [if_neg hne] at this; cases this
 | some x=>
  obtain ⟨l1,many,l2,e,h3,h4⟩:=gU hs;obtain ⟨hm,hx⟩:=s7 e;rcases Nat.lt_or_ge l.length many with hlt | hge
  ·have:=h4 _ (hx _ hlt);rw [if_neg hne] at this; cases this
  ·rcases Nat.lt_or_ge many l.length with hlt | hge2
   ·rw [if_pos (hz many hlt)] at h3; cases h3
   ·obtain rfl:many = l.length:=by omega
    rw [if_neg hne] at h3;exact h3.symm
theorem HY {y:ab} {ls:List (List Nat)} {i:Nat}:i ∈ El y ls ↔ i < y.papers.length ∧ ∃ l ∈ ls,i ∈ l:=by simp [El,dF]
/-! ### ranges exist -/
theorem sF (P:Int → Prop):∀ (d:Nat) (lo:Int),(∃ v,P v ∧ lo ≤ v ∧ v ≤ lo + d) → ∃ m,P m ∧ lo ≤ m ∧ ∀ v,P v → lo ≤ v → m ≤ v
 | 0,lo,⟨v,h1,h2,h3⟩=>⟨v,h1,h2,fun w _ hw=>by omega⟩
 | d + 1,lo,⟨v,h1,h2,h3⟩=>by
  by_cases h:P lo
  ·exact ⟨lo,h,Int.le_refl _,fun w _ hw=>hw⟩
  ·have hne:v ≠ lo:=fun e=>h (e ▸ h1);obtain ⟨m,g1,g2,g3⟩:=sF P d (lo + 1) ⟨v,h1,by omega,by omega⟩;refine ⟨m,g1,by omega,fun w hw hlw=>?_⟩;have:w ≠ lo:=fun e=>h (e ▸ hw);exact g3 w hw (by omega)
theorem yO {N:Nat} {es:List aF} {i0:Nat} (h0:i0 < es.length) (hc:∃ f,bz N es f):∃ lo hi,gr N es i0 lo hi:=by
 obtain ⟨f,hf⟩:=hc;have hb:=hf.inb i0 h0;obtain ⟨m,⟨g,hg,eg⟩,_,h1⟩:=sF (fun v=>∃ g,bz N es g ∧ g i0 = v) (es[i0].high - es[i0].low).toNat es[i0].low ⟨f i0,⟨f,hf,rfl⟩,hb.1,by omega⟩;obtain ⟨n,⟨g',hg',eg'⟩,_,h2⟩:=sF (fun v=>∃ g,bz N es g ∧ g i0 = -v) (es[i0].high - es[i0].low).toNat (-es[i0].high) ⟨- f i0,⟨f,hf,by omega⟩,by omega,by omega⟩;refine ⟨m, -n,⟨g,hg,eg⟩,⟨g',hg',eg'⟩,fun x hx=>⟨h1 _ ⟨x,hx,rfl⟩ (hx.inb i0 h0).1, ?_⟩⟩;have:=h2 (- x i0) ⟨x,hx,by omega⟩ (by have:=(hx.inb i0 h0).2; omega);omega
/-! ### the way of a journey -/
def dW (k:Int):List aj → Nat → Nat → Nat
 | [],_,_=>0
 | p :: r,i,a=>if a ≤ i then 0 else (if p.kind = k ∧ ba p i = true then 1 else 0) + dW k r (i + 1) a
theorem zc {al:aj → Nat → Int × Int} {k:Int}:∀ (l:List aj) (i a:Nat) (h1:i ≤ a) (h2:a < i + l.length),(l[a - i]'(by omega)).kind = k → ba (l[a - i]'(by omega)) a = true →
  (dy al k l i)[dW k l i a]? = some ⟨(l[a - i]'(by omega)).src,(l[a - i]'(by omega)).dst,(al (l[a - i]'(by omega)) a).1,(al (l[a - i]'(by omega)) a).2⟩
 | [],i,a,h1,h2,_,_=>by simp at h2; omega
 | p :: r,i,a,h1,h2,hk,hl=>by
  rcases Nat.eq_or_lt_of_le h1 with e | hlt
  ·subst e;simp only [Nat.sub_self,List.getElem_cons_zero] at hk hl ⊢;simp only [dy,dW];rw [if_pos ⟨hk,hl⟩,if_pos (Nat.le_refl _)]; rfl
  ·have e:a - i = (a - (i + 1)) + 1:=by omega
   simp only [e,List.getElem_cons_succ] at hk hl ⊢;have ih:=zc (al:=al) r (i + 1) a hlt (by simp only [List.length_cons] at h2; omega) hk hl;simp only [dy,dW];rw [if_neg (by omega:¬ a ≤ i)];split
   ·rw [Nat.add_comm 1,List.getElem?_cons_succ]; exact ih
   ·rw [Nat.zero_add]; exact ih
theorem Am {al be:aj → Nat → Int × Int} {k:Int} {lo hi:Int}:∀ (l:List aj) (i a:Nat) (h1:i ≤ a) (h2:a < i + l.length),(l[a - i]'(by omega)).kind = k → ba (l[a - i]'(by omega)) a = true →
  (∀ j (h:j < l.length),l[j].kind = k → ba l[j] (i + j) = true → be l[j] (i + j) = if i + j = a then (lo,hi) else al l[j] (i + j)) →
  dy be k l i = (dy al k l i).modify (dW k l i a) fun j=>⟨j.src,j.dst,lo,hi⟩
 | [],i,a,h1,h2,_,_,_=>by simp at h2; omega
 | p :: r,i,a,h1,h2,hk,hl,hb=>by
  have h0:=hb 0 (by simp);simp only [List.getElem_cons_zero,Nat.add_zero] at h0;have hb':∀ j (h:j < r.length),r[j].kind = k → ba r[j] (i + 1 + j) = true → be r[j] (i + 1 + j) = if i + 1 + j = a then (lo,hi) else al r[j] (i + 1 + j):=fun j hj=>by
   have:=hb (j + 1) (by simpa using hj);rw [show i + (j + 1) = i + 1 + j by omega] at this;simpa using this
  rcases Nat.eq_or_lt_of_le h1 with e | hlt
  ·subst e;simp only [Nat.sub_self,List.getElem_cons_zero] at hk hl;have h0:=h0 hk hl;rw [if_pos rfl] at h0;have hrest:dy be k r (i + 1) = dy al k r (i + 1):=by
    have key:∀ (r:List aj) (b:Nat),i < b → (∀ j (h:j < r.length),r[j].kind = k → ba r[j] (b + j) = true → be r[j] (b + j) = if b + j = i then (lo,hi) else al r[j] (b + j)) → dy be k r b = dy al k r b:=by
     intro r
     induction r with
     | nil=>intro b _ _; rfl
     | cons q r ih=>
      intro b hb1 hh;have g0:=hh 0 (by simp);simp only [List.getElem_cons_zero,Nat.add_zero] at g0;have ih:=ih (b + 1) (by omega) fun j hj=>by
       have:=hh (j + 1) (by simpa using hj);rw [show b + (j + 1) = b + 1 + j by omega] at this;simpa using this
      simp only [dy,ih];split
      ·rename_i hc;have:=g0 hc.1 hc.2;rw [if_neg (by omega)] at this;rw [this]
      ·rfl
    exact key r (i + 1) (by omega) hb'
   simp only [dy,dW];rw [if_pos ⟨hk,hl⟩,if_pos ⟨hk,hl⟩,if_pos (Nat.le_refl _),hrest,h0]; rfl
  ·have e:a - i = (a - (i + 1)) + 1:=by omega
   simp only [e,List.getElem_cons_succ] at hk hl;have ih:=Am (al:=al) (be:=be) (lo:=lo) (hi:=hi) r (i + 1) a hlt (by simp only [List.length_cons] at h2; omega) hk hl hb';simp only [dy,dW];rw [if_neg (by omega:¬ a ≤ i),ih];split
   ·rename_i hc;have:=h0 hc.1 hc.2;rw [if_neg (by omega)] at this;rw [this,Nat.add_comm 1,List.modify_succ_cons]
   ·rw [Nat.zero_add]
theorem dP (y:ab) (k:Int) (n:Nat):∀ m,(bS y k n m).length = 2 * m
 | 0=>rfl
 | m + 1=>by simp only [bS,List.length_append,dP y k n m]; simp; omega
theorem mE {y:ab} {k:Int} {n:Nat} {js:List cz} {lo hi:Int} {c:Nat} (h:c < js.length):(aU y k n js lo hi)[2 * n + c]? = some (cq n js[c]):=by
 unfold aU;rw [List.getElem?_append_left (by simp [dP]; omega),List.getElem?_append_right (by rw [dP]; omega),dP];simp [h]
theorem ld (y:ab) (k:Int) (n:Nat) (js:List cz) (lo hi:Int):(aU y k n js lo hi).length = 2 * n + js.length + 1:=by
 simp [aU,dP]; omega
theorem p8 {α:Type} (f:α → α):∀ (l r:List α) (i:Nat),l.length ≤ i → (l ++ r).modify i f = l ++ r.modify (i - l.length) f
 | [],r,i,_=>by simp
 | a :: l,r,0,h=>by simp at h
 | a :: l,r,i + 1,h=>by
  simp only [List.cons_append,List.modify_succ_cons,List.length_cons];rw [p8 f l r i (by simpa using h),Nat.add_sub_add_right]
theorem th {α:Type} (f:α → α):∀ (l r:List α) (i:Nat),i < l.length → (l ++ r).modify i f = l.modify i f ++ r
 | [],r,i,h=>by simp at h
 | a :: l,r,0,_=>rfl
 | a :: l,r,i + 1,h=>by
  simp only [List.cons_append,List.modify_succ_cons];rw [th f l r i (by simpa using h)]
theorem vU {α β:Type} (g:α → β) (f:α → α) (f':β → β) (h:∀ a,g (f a) = f' (g a)):∀ (l:List α) (i:Nat),(l.modify i f).map g = (l.map g).modify i f'
 | [],i=>by simp
 | a :: l,0=>by simp [h]
 | a :: l,i + 1=>by simp only [List.modify_succ_cons,List.map_cons,vU g f f' h l i]
theorem xL {y:ab} {k:Int} {n:Nat} {js:List cz} {lo hi:Int} {c:Nat} (h:c < js.length) (a b:Int):aU y k n (js.modify c fun j=>⟨j.src,j.dst,a,b⟩) lo hi = gy (aU y k n js lo hi) (2 * n + c) a b:=by
 unfold aU gy;rw [th _ _ _ _ (by simp [dP]; omega),p8 _ _ _ _ (by rw [dP]; omega),dP];rw [vU (cq n) _ (fun e:aF=>(⟨e.src,e.dst,a,b⟩:aF)) (fun j=>rfl)];rw [show 2 * n + c - 2 * n = c by omega]
end Go.AM
