/- Something can go on the ways of a kind just if no places have too much or too little. Plain. The range of what can go on a way; the outside az one place more. Plain. A yard of waste: its check; papers that are false; whether it closes, and why not. Plain. -/
import Derived.Test.YtlmhkldmpggadaaGreatDoorP25
namespace Go.AM
theorem dy {A B:Nat → Bool} (g:Nat → Int) {n:Nat} (h:∀ a,a < n → A a = B a):dL A n g = dL B n g:=
 dK n fun a ha=>by rw [h a ha]
theorem jX {A B:Nat → Bool} {y:ab} {k:Int}:∀ {n:Nat},(∀ a,a < n → A a = B a) → cz A y k n = cz B y k n
 | 0,_=>rfl
 | n + 1,h=>by simp only [cz]; rw [jX fun a ha=>h a (by omega),h n (by omega)]
theorem y9 {A B:Nat → Bool} {n:Nat} (h:∀ a,a < n → A a = B a) {x:Int} (h1:x < n):amg A x = amg B x:=by
 unfold amg;rcases Int.lt_or_le x 0 with h2 | h2
 ·rw [decide_eq_false (by omega)]; simp
 ·rw [h x.toNat (by omega)]
theorem xQ {A B:Nat → Bool} {n:Nat} (h:∀ a,a < n → A a = B a):∀ {js:List b8},(∀ j ∈ js,eS n j) → bO (jLo A) js = bO (jLo B) js ∧ bO (jHi A) js = bO (jHi B) js
 | [],_=>⟨rfl,rfl⟩
 | j :: r,hj=>by
  obtain ⟨h1,h2⟩:=xQ h (js:=r) fun x hx=>hj x (by simp [hx]);have h3:=hj j (by simp);simp only [bO,jLo,jHi];rw [h1,h2,y9 h h3.src.2,y9 h h3.dst.2];exact ⟨rfl,rfl⟩
theorem iQ {A B:Nat → Bool} {n:Nat} (h:∀ a,a < n → A a = B a) (y:ab) (k:Int) {js:List b8} (hj:∀ j ∈ js,eS n j):dc A n y k js = dc B n y k js ∧ bz A n y k js = bz B n y k js:=by
 obtain ⟨h1,h2⟩:=xQ h hj;unfold dc bz fQ fR eO fb;rw [jX h,dy _ h,dy _ h,dy _ h,dy _ h,h1,h2];exact ⟨rfl,rfl⟩
theorem Bl {n:Nat} {a:Int} (h:-1 ≤ a ∧ a < n):fj n a < n + 2:=by unfold fj; split <;> omega
theorem Hk {y:ab} (hy:oU y) (k:Int) (n:Nat):∀ m,m ≤ n → ∀ e ∈ bR y k n m,(e.src < n + 2 ∧ e.dst < n + 2) ∧ e.src ≠ e.dst ∧ e.low ≤ e.high
 | 0,_,e,he=>by simp [bR] at he
 | m + 1,hm,e,he=>by
  simp only [bR,List.mem_append,List.mem_cons,List.not_mem_nil,or_false] at he;rcases he with he | rfl | rfl
  ·exact Hk hy k n m (by omega) e he
  ·exact ⟨⟨by dsimp only; omega,by dsimp only; omega⟩,by dsimp only; omega,(bx hy.first k m).2.2⟩
  ·exact ⟨⟨by dsimp only; omega,by dsimp only; omega⟩,by dsimp only; omega,(ko hy k m).2.2.2⟩
theorem AV {y:ab} (hy:oU y) (k:Int) {n:Nat} {js:List b8} (hj:∀ j ∈ js,eS n j) {lo hi:Int} (hlh:lo ≤ hi):fY (n + 2) (aW y k n js lo hi):=by
 have key:∀ e ∈ aW y k n js lo hi,(e.src < n + 2 ∧ e.dst < n + 2) ∧ e.src ≠ e.dst ∧ e.low ≤ e.high:=by
  intro e he;simp only [aW,List.mem_append,List.mem_cons,List.not_mem_nil,or_false] at he;rcases he with (he | he) | rfl
  ·exact Hk hy k n n (Nat.le_refl _) e he
  ·obtain ⟨j,hjm,rfl⟩:=List.mem_map.1 he;have h:=hj j hjm;refine ⟨⟨Bl h.src,Bl h.dst⟩, ?_,h.le⟩;have h1:=h.src;have h2:=h.dst;have h3:=h.ne;simp only [cZ,fj]
   split <;> split <;> omega
  ·exact ⟨⟨by dsimp only; omega,by dsimp only; omega⟩,by dsimp only; omega,hlh⟩
 exact ⟨fun e he=>(key e he).1,fun e he=>(key e he).2.1,fun e he=>(key e he).2.2⟩
theorem jo {S:Nat → Bool} {y:ab} {k:Int} {n:Nat} {js:List b8} (hj:∀ j ∈ js,eS n j) {lo hi:Int} :
  (S n = false → S (n + 1) = false → dZ S (aW y k n js lo hi) = fQ S n y k js - dL S n (fun a=>dh y k a)) ∧
  (S n = true → S (n + 1) = true → dZ S (aW y k n js lo hi) = eO (fun x=>!S x) n y k - fR (fun x=>!S x) n y k js):=by
 constructor
 ·intro h1 h2;simp only [aW,iq,vF h2,An h1 js hj,dZ,h1,h2,fQ];simp; omega
 ·intro h1 h2;simp only [aW,iq,tg h2,xp h1 js hj,dZ,h1,h2,fR,eO];simp; omega
theorem LY {A:Nat → Bool} {y:ab} (hy:oU y) {k:Int} {n:Nat} (hn:n ≤ 4) {js:List b8} (hj:∀ j ∈ js,eS n j) (hl:js.length ≤ 10) :
  fQ A n y k js ≤ 14000000 ∧ -14000000 ≤ fR A n y k js:=by
 have h1:=(da (A:=A) (g:=fun a=>loC (aB y.first k a)) (c:=1000000) (by omega) (fun a=>(bx hy.first k a).1) n).2;have h2:=(da (A:=A) (g:=fun a=>hiC (aB y.first k a)) (c:=1000000) (by omega) (fun a=>(bx hy.first k a).2.1) n).1;have h3:=xV (A:=A) js hj;unfold fQ fR;omega
theorem yA {y:ab} (hy:oU y) {k:Int} {n:Nat} (hn:n ≤ 4) {js:List b8} (hj:∀ j ∈ js,eS n j) (hl:js.length ≤ 10) :
  (∃ f,bE (n + 2) (aW y k n js (-aw) aw) f) ↔ ∀ A,dc A n y k js = 0 ∧ bz A n y k js = 0:=by
 rw [sj (AV hy k hj (by simp [aw]))];constructor
 ·intro h A;constructor
  ·have hS:=iQ (A:=A) (B:=fun x=>decide (x < n) && A x) (n:=n) (fun a ha=>by simp [ha]) y k hj;rw [hS.1];generalize hB:(fun x=>decide (x < n) && A x) = B;have hBn:B n = false:=by rw [← hB]; simp
   have hBn1:B (n + 1) = false:=by
    rw [← hB];show (decide (n + 1 < n) && A (n + 1)) = false;rw [decide_eq_false (by omega)]; rfl
   have h1:=h B;rw [(jo hj).1 hBn hBn1] at h1;unfold dc;split
   ·rename_i hw;rw [jt hw] at h1; omega
   ·rfl
  ·have hS:=iQ (A:=A) (B:=fun x=>!(decide (n ≤ x) || !A x)) (n:=n) (fun a ha=>by simp; omega) y k hj;rw [hS.2];generalize hB:(fun x=>decide (n ≤ x) || !A x) = B;have hBn:B n = true:=by rw [← hB]; simp
   have hBn1:B (n + 1) = true:=by rw [← hB]; simp
   have h1:=h B;rw [(jo hj).2 hBn hBn1] at h1;have e:(fun x=>!(decide (n ≤ x) || !A x)) = fun x=>!B x:=by rw [← hB]
   rw [e];unfold bz;omega
 ·intro h S;have hb:=fun A=>LY (A:=A) hy (k:=k) hn hj hl;cases h1:S n <;> cases h2:S (n + 1)
  ·rw [(jo hj).1 h1 h2];have h3:=(h S).1;unfold dc at h3
   split at h3
   ·rename_i hw; rw [jt hw]; omega
   ·rename_i hw;have h4:=pA hy (k:=k) (A:=S) (n:=n) (by simpa using hw);have h5:=(hb S).1;unfold aw at h4;omega
  ·-- the hub, not the outside
   have e:dZ S (aW y k n js (-aw) aw) = dL (fun x=>!S x) n (fun a=>loC (aB y.last k a)) - dL (fun x=>!S x) n (fun a=>hiC (aB y.first k a)) + bO (jLo S) js - aw:=by
    simp only [aW,iq,tg h2,An h1 js hj,dZ,h1,h2];simp; omega
   have a1:=(da (A:=fun x=>!S x) (g:=fun a=>loC (aB y.last k a)) (c:=1000000) (by omega) (fun a=>(bx hy.last k a).1) n).2;have a2:=(da (A:=fun x=>!S x) (g:=fun a=>hiC (aB y.first k a)) (c:=1000000) (by omega) (fun a=>(bx hy.first k a).2.1) n).1;have a3:=xV (A:=S) js hj;rw [e];unfold aw;omega
  ·have e:dZ S (aW y k n js (-aw) aw) = dL S n (fun a=>loC (aB y.first k a)) - dL S n (fun a=>dh y k a) - bO (jHi fun x=>!S x) js - aw:=by
    simp only [aW,iq,vF h2,xp h1 js hj,dZ,h1,h2];simp; omega
   have a1:=(da (A:=S) (g:=fun a=>loC (aB y.first k a)) (c:=1000000) (by omega) (fun a=>(bx hy.first k a).1) n).2;have a2:=(da (A:=S) (g:=fun a=>dh y k a) (c:=aw) (by simp [aw]) (fun a=>⟨(ko hy k a).2.1,(ko hy k a).2.2.1⟩) n).1;have a3:=xV (A:=fun x=>!S x) js hj;rw [e];unfold aw at *;omega
  ·rw [(jo hj).2 h1 h2];have h3:=(h fun x=>!S x).2;unfold bz at h3;omega
/-! ### places az bits -/
def bh (P:Nat):Nat → Bool:=fun a=>P.testBit a
theorem Ap (A:Nat → Bool):∀ n, ∃ P,P < 2 ^ n ∧ ∀ a,a < n → bh P a = A a
 | 0=>⟨0,by simp,fun a h=>by omega⟩
 | n + 1=>by
  obtain ⟨P,h1,h2⟩:=Ap A n;cases hA:A n
  ·refine ⟨P,by rw [Nat.pow_succ]; omega,fun a ha=>?_⟩;rcases Nat.lt_or_ge a n with h | h
   ·exact h2 a h
   ·obtain rfl:a = n:=by omega
    rw [hA]; exact Nat.testBit_lt_two_pow h1
  ·refine ⟨2 ^ n + P,by rw [Nat.pow_succ]; omega,fun a ha=>?_⟩;unfold bh at h2 ⊢;rcases Nat.lt_or_ge a n with h | h
   ·rw [Nat.testBit_two_pow_add_gt h]; exact h2 a h
   ·obtain rfl:a = n:=by omega
    rw [hA,Nat.testBit_two_pow_add_eq,Nat.testBit_lt_two_pow h1]; rfl
theorem Gw (n:Nat) (y:ab) (k:Int) (js:List b8):dc (bh 0) n y k js = 0 ∧ bz (bh 0) n y k js = 0:=by
 have hb:bh 0 = fun _=>false:=by funext a; simp [bh]
 have hs:∀ g n,dL (fun _=>false) n g = 0:=fun g n=>by unfold dL; simp [eV]
 have hj:∀ js,bO (jLo fun _=>false) js = 0 ∧ bO (jHi fun _=>false) js = 0:=by
  intro js
  induction js with
  | nil=>exact ⟨rfl,rfl⟩
  | cons j r ih=>simp [bO,jLo,jHi,amg,ih]
 rw [hb];unfold dc bz fQ fR eO fb;simp only [hs,(hj js).1,(hj js).2];simp
theorem zO {y:ab} (hy:oU y) {k:Int} {n:Nat} (hn:n ≤ 4) {js:List b8} (hj:∀ j ∈ js,eS n j) (hl:js.length ≤ 10) :
  (∃ f,bE (n + 2) (aW y k n js (-aw) aw) f) ↔ ∀ P,1 ≤ P → P < 2 ^ n → dc (bh P) n y k js = 0 ∧ bz (bh P) n y k js = 0:=by
 rw [yA hy hn hj hl];constructor
 ·intro h P _ _;exact h _
 ·intro h A;obtain ⟨P,h1,h2⟩:=Ap A n;have hc:=iQ (A:=A) (B:=bh P) (n:=n) (fun a ha=>(h2 a ha).symm) y k hj;rw [hc.1,hc.2];rcases Nat.eq_zero_or_pos P with h0 | h0
  ·subst h0; exact Gw n y k js
  ·exact h P h0 h1
structure ik (N:Nat) (es:List aI) (i0:Nat) (lo hi:Int):Prop where
 least:∃ f,bE N es f ∧ f i0 = lo
 most:∃ f,bE N es f ∧ f i0 = hi
 all:∀ f,bE N es f → lo ≤ f i0 ∧ f i0 ≤ hi
theorem ik.unique {N:Nat} {es:List aI} {i0:Nat} {a b c d:Int} (h:ik N es i0 a b) (g:ik N es i0 c d):a = c ∧ b = d:=by
 obtain ⟨f1,c1,e1⟩:=h.least;obtain ⟨f2,c2,e2⟩:=h.most;obtain ⟨f3,c3,e3⟩:=g.least;obtain ⟨f4,c4,e4⟩:=g.most;have h1:=g.all f1 c1;have h2:=g.all f2 c2;have h3:=h.all f3 c3;have h4:=h.all f4 c4;omega
def iF (es:List aI) (i0:Nat) (lo hi:Int):List aI:=es.modify i0 fun e=>⟨e.src,e.dst,lo,hi⟩
theorem l9 (es:List aI) (i0:Nat) (lo hi:Int):(iF es i0 lo hi).length = es.length:=by simp [iF]
theorem sq {es:List aI} {i0:Nat} {lo hi:Int} {i:Nat} (h:i < es.length) (h':i < (iF es i0 lo hi).length):(iF es i0 lo hi)[i] = if i = i0 then ⟨es[i].src,es[i].dst,lo,hi⟩ else es[i]:=by
 have e1:(iF es i0 lo hi)[i] = if i0 = i then (fun e:aI=>(⟨e.src,e.dst,lo,hi⟩:aI)) es[i] else es[i]:=List.getElem_modify ..;rw [e1];by_cases e:i0 = i
 ·rw [if_pos e,if_pos e.symm]
 ·rw [if_neg e,if_neg (Ne.symm e)]
theorem xR (n:Nat) (f:Nat → Int) (lo hi:Int):∀ (es:List aI) (i0 j:Nat),aS n (iF es i0 lo hi) j f = aS n es j f
 | [],i0,j=>by simp [iF]
 | e :: r,0,j=>by simp [iF,aS]
 | e :: r,i0 + 1,j=>by
  have ih:=xR n f lo hi r i0 (j + 1);simp only [iF] at ih;simp [iF,aS,ih]
theorem fG {N:Nat} {es:List aI} {i0:Nat} (h0:i0 < es.length) {lo hi:Int} (h1:es[i0].low ≤ lo) (h2:hi ≤ es[i0].high) (f:Nat → Int):bE N (iF es i0 lo hi) f ↔ bE N es f ∧ lo ≤ f i0 ∧ f i0 ≤ hi:=by
 constructor
 ·rintro ⟨hb,hn⟩;have hi0:=hb i0 (by rw [l9]; exact h0);rw [sq h0 (by rw [l9]; exact h0),if_pos rfl] at hi0;refine ⟨⟨fun i hi=>?_,fun n hN=>by rw [← xR n f lo hi es i0 0]; exact hn n hN⟩,hi0⟩;have:=hb i (by rw [l9]; exact hi);rw [sq hi (by rw [l9]; exact hi)] at this;by_cases e:i = i0
  ·subst e;rw [if_pos rfl] at this;dsimp only at this;omega
  ·rw [if_neg e] at this; exact this
 ·rintro ⟨⟨hb,hn⟩,h3,h4⟩;refine ⟨fun i hi=>?_,fun n hN=>by rw [xR]; exact hn n hN⟩;have hi':i < es.length:=by rwa [l9] at hi
  rw [sq hi' hi];split
  ·rename_i e; subst e; exact ⟨h3,h4⟩
  ·exact hb i hi'
theorem ik.below {N:Nat} {es:List aI} {i0:Nat} (h0:i0 < es.length) {lo hi:Int} (hr:ik N es i0 lo hi) {m:Int} (hm:m ≤ es[i0].high):(∃ f,bE N (iF es i0 es[i0].low m) f) ↔ lo ≤ m:=by
 constructor
 ·rintro ⟨f,hf⟩;obtain ⟨h1,h2,h3⟩:=(fG h0 (Int.le_refl _) hm f).1 hf;have:=hr.all f h1;omega
 ·intro h;obtain ⟨f,cf,ef⟩:=hr.least;exact ⟨f,(fG h0 (Int.le_refl _) hm f).2 ⟨cf,(cf.inb i0 h0).1,by omega⟩⟩
theorem ik.PH {N:Nat} {es:List aI} {i0:Nat} (h0:i0 < es.length) {lo hi:Int} (hr:ik N es i0 lo hi) {m:Int} (hm:es[i0].low ≤ m):(∃ f,bE N (iF es i0 m es[i0].high) f) ↔ m ≤ hi:=by
 constructor
 ·rintro ⟨f,hf⟩;obtain ⟨h1,h2,h3⟩:=(fG h0 hm (Int.le_refl _) f).1 hf;have:=hr.all f h1;omega
 ·intro h;obtain ⟨f,cf,ef⟩:=hr.most;exact ⟨f,(fG h0 hm (Int.le_refl _) f).2 ⟨cf,by omega,(cf.inb i0 h0).2⟩⟩
/-! ### with the outside -/
def amo (A:Nat → Bool) (a:Int):Bool:=decide (a < 0) || A a.toNat
def vr (A:Nat → Bool) (j:b8):Int:=(if amo A j.dst && !amo A j.src then j.lo else 0) - (if amo A j.src && !amo A j.dst then j.hi else 0)
def uZ (A:Nat → Bool) (j:b8):Int:=(if amo A j.dst && !amo A j.src then j.hi else 0) - (if amo A j.src && !amo A j.dst then j.lo else 0)
def jG (A:Nat → Bool) (n:Nat) (y:ab) (k:Int) (js:List b8):Int:=dL A n (fun a=>loC (aB y.first k a)) + bO (vr A) js
def lC (A:Nat → Bool) (n:Nat) (y:ab) (k:Int) (js:List b8):Int:=dL A n (fun a=>hiC (aB y.first k a)) + bO (uZ A) js
theorem Bk {S:Nat → Bool} {n:Nat} (hn:S n = true) {a:Int}:S (fj n a) = amo S a:=by
 unfold fj amo;split
 ·rename_i h; rw [hn,decide_eq_true h]; rfl
 ·rename_i h; rw [decide_eq_false h]; rfl
theorem zD {S:Nat → Bool} {n:Nat} (hn:S n = false) {a:Int}:S (fj n a) = !amo (fun x=>!S x) a:=by
 unfold fj amo;split
 ·rename_i h; rw [hn,decide_eq_true h]; rfl
 ·rename_i h; rw [decide_eq_false h]; simp
theorem Bu {S:Nat → Bool} {n:Nat} (hn:S n = true):∀ (js:List b8),dZ S (js.map (cZ n)) = bO (vr S) js
 | []=>rfl
 | j :: r=>by
  simp only [List.map_cons,dZ,bO,Bu hn r,cZ,vr];rw [Bk hn,Bk hn]
theorem yR {S:Nat → Bool} {n:Nat} (hn:S n = false):∀ (js:List b8),dZ S (js.map (cZ n)) = - bO (uZ fun x=>!S x) js
 | []=>rfl
 | j :: r=>by
  simp only [List.map_cons,dZ,bO,yR hn r,cZ,uZ];rw [zD hn,zD hn];cases amo (fun x=>!S x) j.src <;> cases amo (fun x=>!S x) j.dst <;> simp <;> omega
theorem y8 {A B:Nat → Bool} {n:Nat} (h:∀ a,a < n → A a = B a) {x:Int} (h1:x < n):amo A x = amo B x:=by
 unfold amo;rcases Int.lt_or_le x 0 with h2 | h2
 ·rw [decide_eq_true h2]; rfl
 ·rw [h x.toNat (by omega)]
theorem lx {A B:Nat → Bool} {n:Nat} (h:∀ a,a < n → A a = B a):∀ {js:List b8},(∀ j ∈ js,eS n j) → bO (vr A) js = bO (vr B) js ∧ bO (uZ A) js = bO (uZ B) js
 | [],_=>⟨rfl,rfl⟩
 | j :: r,hj=>by
  obtain ⟨h1,h2⟩:=lx h (js:=r) fun x hx=>hj x (by simp [hx]);have h3:=hj j (by simp);simp only [bO,vr,uZ];rw [h1,h2,y8 h h3.src.2,y8 h h3.dst.2];exact ⟨rfl,rfl⟩
theorem EM {A:Nat → Bool} {n:Nat}:∀ js:List b8,(∀ j ∈ js,eS n j) → - (js.length * 1000000:Int) ≤ bO (vr A) js ∧ bO (vr A) js ≤ js.length * 1000000 ∧ - (js.length * 1000000:Int) ≤ bO (uZ A) js ∧ bO (uZ A) js ≤ js.length * 1000000
 | [],_=>by simp [bO]
 | j :: r,h=>by
  have ih:=EM (A:=A) r fun x hx=>h x (by simp [hx]);have hj:=h j (by simp);have h1:=hj.lo;have h2:=hj.hi;unfold Big at h1 h2;simp only [bO,vr,uZ,List.length_cons];cases amo A j.src <;> cases amo A j.dst <;> simp <;> omega
def okO (A:Nat → Bool) (n:Nat) (y:ab) (k:Int) (js:List b8) (lo hi:Int):Prop:=
 (dc A n y k js = 0 ∧ bz A n y k js = 0) ∧ (cz A y k n = true → jG A n y k js ≤ fb A n y k + hi) ∧ eO A n y k + lo ≤ lC A n y k js
theorem GB {A B:Nat → Bool} {n:Nat} (h:∀ a,a < n → A a = B a) (y:ab) (k:Int) {js:List b8} (hj:∀ j ∈ js,eS n j) (lo hi:Int):okO A n y k js lo hi ↔ okO B n y k js lo hi:=by
 obtain ⟨h1,h2⟩:=lx h hj;obtain ⟨h3,h4⟩:=iQ h y k hj;unfold okO jG lC eO fb;rw [jX h,dy _ h,dy _ h,dy _ h,dy _ h,h1,h2,h3,h4]
theorem FR {y:ab} (hy:oU y) {k:Int} {n:Nat} (hn:n ≤ 4) {js:List b8} (hj:∀ j ∈ js,eS n j) (hl:js.length ≤ 10) {lo hi:Int} (hlh:lo ≤ hi) (hb1:-1000000000 ≤ lo) (_hb2:hi ≤ 1000000000) :
  (∃ f,bE (n + 2) (aW y k n js lo hi) f) ↔ ∀ A,okO A n y k js lo hi:=by
 rw [sj (AV hy k hj hlh)];have f01:∀ (S:Nat → Bool),S n = true → S (n + 1) = false → dZ S (aW y k n js lo hi) = jG S n y k js - dL S n (fun a=>dh y k a) - hi:=by
  intro S h1 h2;simp only [aW,iq,vF h2,Bu h1 js,dZ,h1,h2,jG];simp; omega
 have f10:∀ (S:Nat → Bool),S n = false → S (n + 1) = true → dZ S (aW y k n js lo hi) = eO (fun x=>!S x) n y k + lo - lC (fun x=>!S x) n y k js:=by
  intro S h1 h2;simp only [aW,iq,tg h2,yR h1 js,dZ,h1,h2,lC,eO];simp; omega
 have hb:=fun A=>LY (A:=A) hy (k:=k) hn hj hl;have hbo:∀ A,jG A n y k js ≤ 14000000:=fun A=>by
  have h1:=(da (A:=A) (g:=fun a=>loC (aB y.first k a)) (c:=1000000) (by omega) (fun a=>(bx hy.first k a).1) n).2;have h3:=EM (A:=A) js hj;unfold jG;omega
 constructor
 ·intro h A;refine ⟨⟨?_, ?_⟩, ?_, ?_⟩
  ·have hS:=iQ (A:=A) (B:=fun x=>decide (x < n) && A x) (n:=n) (fun a ha=>by simp [ha]) y k hj;rw [hS.1];generalize hB:(fun x=>decide (x < n) && A x) = B;have hBn:B n = false:=by rw [← hB]; simp
   have hBn1:B (n + 1) = false:=by
    rw [← hB];show (decide (n + 1 < n) && A (n + 1)) = false;rw [decide_eq_false (by omega)]; rfl
   have h1:=h B;rw [(jo hj).1 hBn hBn1] at h1;unfold dc;split
   ·rename_i hw;rw [jt hw] at h1; omega
   ·rfl
  ·have hS:=iQ (A:=A) (B:=fun x=>!(decide (n ≤ x) || !A x)) (n:=n) (fun a ha=>by simp; omega) y k hj;rw [hS.2];generalize hB:(fun x=>decide (n ≤ x) || !A x) = B;have hBn:B n = true:=by rw [← hB]; simp
   have hBn1:B (n + 1) = true:=by rw [← hB]; simp
   have h1:=h B;rw [(jo hj).2 hBn hBn1] at h1;have e:(fun x=>!(decide (n ≤ x) || !A x)) = fun x=>!B x:=by rw [← hB]
   rw [e];unfold bz;omega
  ·intro hw;obtain ⟨B,hB⟩:∃ B:Nat → Bool,B = fun x=>if x < n then A x else decide (x = n):=⟨_,rfl⟩;have hag:∀ a,a < n → A a = B a:=fun a ha=>by rw [hB]; simp [ha]
   have hBn:B n = true:=by rw [hB]; simp
   have hBn1:B (n + 1) = false:=by
    rw [hB];show (if n + 1 < n then A (n + 1) else decide (n + 1 = n)) = false;rw [if_neg (by omega),decide_eq_false (by omega)]
   have h1:=h B;rw [f01 B hBn hBn1,jt (by rw [← jX hag]; exact hw)] at h1;unfold jG fb at h1 ⊢;rw [dy _ hag,dy _ hag,(lx hag hj).1];omega
  ·obtain ⟨B,hB⟩:∃ B:Nat → Bool,B = fun x=>if x < n then !A x else decide (x ≠ n):=⟨_,rfl⟩;have hag:∀ a,a < n → A a = !B a:=fun a ha=>by rw [hB]; simp [ha]
   have hBn:B n = false:=by rw [hB]; simp
   have hBn1:B (n + 1) = true:=by
    rw [hB];show (if n + 1 < n then !A (n + 1) else decide (n + 1 ≠ n)) = true;rw [if_neg (by omega),decide_eq_true (by omega)]
   have h1:=h B;rw [f10 B hBn hBn1] at h1;unfold lC eO at h1 ⊢;rw [dy (B:=fun x=>!B x) _ hag,dy (B:=fun x=>!B x) _ hag,(lx (B:=fun x=>!B x) hag hj).2];omega
 ·intro h S;cases h1:S n <;> cases h2:S (n + 1)
  ·rw [(jo hj).1 h1 h2];have h3:=(h S).1.1;unfold dc at h3
   split at h3
   ·rename_i hw; rw [jt hw]; omega
   ·rename_i hw;have h4:=pA hy (k:=k) (A:=S) (n:=n) (by simpa using hw);have h5:=(hb S).1;unfold aw at h4;omega
  ·rw [f10 S h1 h2];have:=(h fun x=>!S x).2.2;omega
  ·rw [f01 S h1 h2];by_cases hw:cz S y k n = true
   ·have:=(h S).2.1 hw;rw [jt hw]; omega
   ·have h4:=pA hy (k:=k) (A:=S) (n:=n) (by simpa using hw);have h5:=hbo S;unfold aw at h4;omega
  ·rw [(jo hj).2 h1 h2];have h3:=(h fun x=>!S x).1.2;unfold bz at h3;omega
theorem wD {y:ab} (hy:oU y) {k:Int} {n:Nat} (hn:n ≤ 4) {js:List b8} (hj:∀ j ∈ js,eS n j) (hl:js.length ≤ 10) {lo hi:Int} (hlh:lo ≤ hi) (hb1:-1000000000 ≤ lo) (hb2:hi ≤ 1000000000) :
  (∃ f,bE (n + 2) (aW y k n js lo hi) f) ↔ ∀ P,P < 2 ^ n → okO (bh P) n y k js lo hi:=by
 rw [FR hy hn hj hl hlh hb1 hb2];constructor
 ·intro h P _; exact h _
 ·intro h A;obtain ⟨P,h1,h2⟩:=Ap A n;exact (GB (fun a ha=>(h2 a ha).symm) y k hj lo hi).2 (h P h1)
def aG {α:Type} (f:Nat → α → Int):List α → Nat → Int × Int
 | [],_=>(0,0)
 | a :: r,i=>if f i a ≠ 0 then ((i:Int),f i a) else aG f r (i + 1)
theorem mq {α:Type} (f:Nat → α → Int):∀ (l:List α) (i:Nat),(aG f l i).2 = 0 ↔ ∀ k (h:k < l.length),f (i + k) l[k] = 0
 | [],i=>by simp [aG]
 | a :: r,i=>by
  have ih:=mq f r (i + 1);simp only [aG];by_cases h:f i a = 0
  ·rw [if_neg (by simp [h]),ih];constructor
   ·intro hh k hk
    cases k with
    | zero=>exact h
    | succ k=>
     have:=hh k (by simpa using hk);rw [show i + 1 + k = i + (k + 1) by omega] at this;simpa using this
   ·intro hh k hk;have:=hh (k + 1) (by simpa using hk);rw [show i + (k + 1) = i + 1 + k by omega] at this;simpa using this
  ·rw [if_pos h];constructor
   ·intro e; exact absurd e h
   ·intro hh;have:=hh 0 (by simp);simp at this; exact absurd this h
theorem A3 {α:Type} {f:Nat → α → Int} {l:List α} {i:Nat} (h:(aG f l i).2 = 0):aG f l i = (0,0):=by
 induction l generalizing i with
 | nil=>rfl
 | cons a r ih=>
  simp only [aG] at h ⊢;by_cases h0:f i a = 0
  ·rw [if_neg (by simp [h0])] at h ⊢; exact ih h
  ·rw [if_pos h0] at h; exact absurd h h0
def inI (n lo hi:Int):Bool:=decide (lo ≤ n) && decide (n ≤ hi)
def gp (nm:ByteArray → Bool) (l:List ByteArray) (i:Nat) (s:ByteArray):Int:=if nm s = false then 6 else if (l.take i).any (fun t=>decide (t = s)) = true then 5 else 0
def gN (y:ab) (l:List ay) (i:Nat) (c:ay):Int:=
 if inI c.kind 0 (y.kinds.length - 1) = false ∨ inI c.place 0 (y.places.length - 1) = false then 4
 else if (l.take i).any (fun d=>decide (d.kind = c.kind) && decide (d.place = c.place)) = true then 5
 else if inI c.lo 0 1000000 = false ∨ inI c.hi 0 1000000 = false then 7
 else if c.lo > c.hi then 2 else 0
def mD (y:ab) (i:Nat) (p:aj):Int:=
 if inI p.kind 0 (y.kinds.length - 1) = false ∨ inI p.src (-1) (y.places.length - 1) = false ∨ inI p.dst (-1) (y.places.length - 1) = false then 4
 else if p.src = p.dst then 2
 else if inI p.kilos 0 1000000 = false then 7
 else if p.copy = -1 then 0
 else if inI p.copy 0 (y.papers.length - 1) = false ∨ p.copy = i then 9
 else match y.papers[p.copy.toNat]? with
  | none=>9
  | some q=>if q.copy = i ∧ q.kind = p.kind ∧ q.src = p.src ∧ q.dst = p.dst then 0 else 9
def cN (nm:ByteArray → Bool) (y:ab):Int × Int × Int:=
 if inI y.kinds.length 1 4 = false ∨ inI y.places.length 1 4 = false ∨ 10 < y.papers.length ∨ 8 < y.first.length ∨ 8 < y.last.length then (1,0,3)
 else if (aG (gp nm y.kinds) y.kinds 0).2 ≠ 0 then (2,aG (gp nm y.kinds) y.kinds 0)
 else if (aG (gp nm y.places) y.places 0).2 ≠ 0 then (3,aG (gp nm y.places) y.places 0)
 else if (aG (gN y y.first) y.first 0).2 ≠ 0 then (4,aG (gN y y.first) y.first 0)
 else if (aG (mD y) y.papers 0).2 ≠ 0 then (5,aG (mD y) y.papers 0)
 else if (aG (gN y y.last) y.last 0).2 ≠ 0 then (6,aG (gN y y.last) y.last 0)
 else (0,0,0)
structure zX (y:ab) (c:ay):Prop extends Ey c where
 kind:0 ≤ c.kind ∧ c.kind < y.kinds.length
 place:0 ≤ c.place ∧ c.place < y.places.length
structure JX (y:ab) (i:Nat) (p:aj):Prop where
 kind:0 ≤ p.kind ∧ p.kind < y.kinds.length
 src:-1 ≤ p.src ∧ p.src < y.places.length
 dst:-1 ≤ p.dst ∧ p.dst < y.places.length
 ne:p.src ≠ p.dst
 kilos:Big p.kilos
 copy:p.copy = -1 ∨ (0 ≤ p.copy ∧ p.copy < y.papers.length ∧ p.copy ≠ i ∧ ∃ q,y.papers[p.copy.toNat]? = some q ∧ q.copy = i ∧ q.kind = p.kind ∧ q.src = p.src ∧ q.dst = p.dst)
structure bJ (nm:ByteArray → Bool) (y:ab):Prop where
 k4:1 ≤ y.kinds.length ∧ y.kinds.length ≤ 4
 p4:1 ≤ y.places.length ∧ y.places.length ≤ 4
 m10:y.papers.length ≤ 10
 f8:y.first.length ≤ 8
 l8:y.last.length ≤ 8
 kinds:(∀ s ∈ y.kinds,nm s = true) ∧ y.kinds.Nodup
 places:(∀ s ∈ y.places,nm s = true) ∧ y.places.Nodup
 first:(∀ c ∈ y.first,zX y c) ∧ y.first.Pairwise fun c d=>¬ (c.kind = d.kind ∧ c.place = d.place)
 papers:∀ i (h:i < y.papers.length),JX y i y.papers[i]
 last:(∀ c ∈ y.last,zX y c) ∧ y.last.Pairwise fun c d=>¬ (c.kind = d.kind ∧ c.place = d.place)
theorem bA {n lo hi:Int}:(inI n lo hi = true ↔ lo ≤ n ∧ n ≤ hi) ∧ (inI n lo hi = false ↔ ¬ (lo ≤ n ∧ n ≤ hi)):=by
 have h:inI n lo hi = true ↔ lo ≤ n ∧ n ≤ hi:=by simp [inI]
 exact ⟨h,by rw [← h]; simp⟩
theorem zH {α:Type} (R:α → α → Bool):∀ (l:List α),(∀ k (h:k < l.length),(l.take k).any (fun d=>R d l[k]) = false) ↔ l.Pairwise fun c d=>¬ R c d = true:=by
 intro l;rw [List.pairwise_iff_getElem];constructor
 ·intro h i j hi hj hij;have:=h j hj;rw [List.any_eq_false] at this;exact this l[i] (List.mem_take_iff_getElem.2 ⟨i,by omega,rfl⟩)
 ·intro h k hk;rw [List.any_eq_false];intro d hd;obtain ⟨i,hi,rfl⟩:=List.mem_take_iff_getElem.1 hd;exact h i k (by omega) hk (by omega)
theorem sa (nm:ByteArray → Bool) (l:List ByteArray):(aG (gp nm l) l 0).2 = 0 ↔ (∀ s ∈ l,nm s = true) ∧ l.Nodup:=by
 have hp:=zH (fun d c:ByteArray=>decide (d = c)) l;have e:(l.Pairwise fun c d=>¬ decide (c = d) = true) ↔ l.Nodup:=by
  rw [List.nodup_iff_pairwise_ne];exact List.Pairwise.iff fun a b=>by simp
 rw [mq, ← e, ← hp];constructor
 ·intro h;have key:∀ k (hk:k < l.length),nm l[k] = true ∧ (l.take k).any (fun d=>decide (d = l[k])) = false:=fun k hk=>by
   have:=h k hk;unfold gp at this;rw [Nat.zero_add] at this;by_cases h1:nm l[k] = false
   ·rw [if_pos h1] at this; exact absurd this (by decide)
   ·rw [if_neg h1] at this;by_cases h2:(l.take k).any (fun d=>decide (d = l[k])) = true
    ·rw [if_pos h2] at this; exact absurd this (by decide)
    ·exact ⟨by simpa using h1,Bool.eq_false_iff.2 h2⟩
  refine ⟨fun s hs=>?_,fun k hk=>(key k hk).2⟩;obtain ⟨k,hk,rfl⟩:=List.getElem_of_mem hs;exact (key k hk).1
 ·rintro ⟨h1,h2⟩ k hk;unfold gp;rw [Nat.zero_add,if_neg (by simp [h1 _ (List.getElem_mem hk)]),if_neg (by rw [h2 k hk]; simp)]
theorem gU (y:ab) (l:List ay):(aG (gN y l) l 0).2 = 0 ↔ (∀ c ∈ l,zX y c) ∧ l.Pairwise fun c d=>¬ (c.kind = d.kind ∧ c.place = d.place):=by
 have hp:=zH (fun d c:ay=>decide (d.kind = c.kind) && decide (d.place = c.place)) l;have e:(l.Pairwise fun c d=>¬ (decide (c.kind = d.kind) && decide (c.place = d.place)) = true) ↔ l.Pairwise fun c d=>¬ (c.kind = d.kind ∧ c.place = d.place):=
  List.Pairwise.iff fun a b=>by simp
 rw [mq, ← e, ← hp];constructor
 ·intro h;have key:∀ k (hk:k < l.length),zX y l[k] ∧ (l.take k).any (fun d=>decide (d.kind = l[k].kind) && decide (d.place = l[k].place)) = false:=fun k hk=>by
   have:=h k hk;unfold gN at this;rw [Nat.zero_add] at this;by_cases h1:inI l[k].kind 0 (y.kinds.length - 1) = false ∨ inI l[k].place 0 (y.places.length - 1) = false
   ·rw [if_pos h1] at this; exact absurd this (by decide)
   rw [if_neg h1] at this;by_cases h2:(l.take k).any (fun d=>decide (d.kind = l[k].kind) && decide (d.place = l[k].place)) = true
   ·rw [if_pos h2] at this; exact absurd this (by decide)
   rw [if_neg h2] at this;by_cases h3:inI l[k].lo 0 1000000 = false ∨ inI l[k].hi 0 1000000 = false
   ·rw [if_pos h3] at this; exact absurd this (by decide)
   rw [if_neg h3] at this;by_cases h4:l[k].lo > l[k].hi
   ·rw [if_pos h4] at this; exact absurd this (by decide)
   rw [bA.2,bA.2] at h1 h3;exact ⟨⟨⟨⟨by omega,by omega⟩,⟨by omega,by omega⟩,by omega⟩,by omega,by omega⟩,by simpa using h2⟩
  refine ⟨fun s hs=>?_,fun k hk=>(key k hk).2⟩;obtain ⟨k,hk,rfl⟩:=List.getElem_of_mem hs;exact (key k hk).1
 ·rintro ⟨h1,h2⟩ k hk;have hc:=h1 _ (List.getElem_mem hk);have a1:=hc.kind;have a2:=hc.place;have a3:=hc.lo;have a4:=hc.hi;have a5:=hc.le;unfold Big at a3 a4;unfold gN;rw [Nat.zero_add,if_neg (by rw [bA.2,bA.2]; omega),if_neg (by rw [h2 k hk]; simp),if_neg (by rw [bA.2,bA.2]; omega),if_neg (by omega)]
theorem pL (y:ab):(aG (mD y) y.papers 0).2 = 0 ↔ ∀ i (h:i < y.papers.length),JX y i y.papers[i]:=by
 rw [mq];refine forall_congr' fun i=>forall_congr' fun hi=>?_;rw [Nat.zero_add];generalize y.papers[i] = p;unfold mD;by_cases h1:inI p.kind 0 (y.kinds.length - 1) = false ∨ inI p.src (-1) (y.places.length - 1) = false ∨ inI p.dst (-1) (y.places.length - 1) = false
 ·rw [if_pos h1];rw [bA.2,bA.2,bA.2] at h1;refine ⟨fun e=>absurd e (by decide),fun h=>?_⟩;have:=h.kind; have:=h.src; have:=h.dst;omega
 rw [if_neg h1];rw [bA.2,bA.2,bA.2] at h1;by_cases h2:p.src = p.dst
 ·rw [if_pos h2];exact ⟨fun e=>absurd e (by decide),fun h=>absurd h2 h.ne⟩
 rw [if_neg h2];by_cases h3:inI p.kilos 0 1000000 = false
 ·rw [if_pos h3];rw [bA.2] at h3;exact ⟨fun e=>absurd e (by decide),fun h=>absurd h.kilos h3⟩
 rw [if_neg h3];rw [bA.2] at h3;have hbase:∀ hc,JX y i p:=fun hc=>⟨by omega,by omega,by omega,h2,⟨by omega,by omega⟩,hc⟩;by_cases h4:p.copy = -1
 ·rw [if_pos h4];exact ⟨fun _=>hbase (.inl h4),fun _=>rfl⟩
 rw [if_neg h4];by_cases h5:inI p.copy 0 (y.papers.length - 1) = false ∨ p.copy = i
 ·rw [if_pos h5];rw [bA.2] at h5;refine ⟨fun e=>absurd e (by decide),fun h=>?_⟩;rcases h.copy with hc | ⟨c1,c2,c3,_⟩ <;> omega
 rw [if_neg h5];rw [bA.2] at h5
 cases hq:y.papers[p.copy.toNat]? with
 | none=>
  dsimp only;refine ⟨fun e=>absurd e (by decide),fun h=>?_⟩;rcases h.copy with hc | ⟨_,_,_,q,hq',_⟩
  ·exact absurd hc h4
  ·rw [hq] at hq'; cases hq'
 | some q=>
  dsimp only;by_cases h6:q.copy = i ∧ q.kind = p.kind ∧ q.src = p.src ∧ q.dst = p.dst
  ·rw [if_pos h6];exact ⟨fun _=>hbase (.inr ⟨by omega,by omega,by omega,q,hq,h6⟩),fun _=>rfl⟩
  ·rw [if_neg h6];refine ⟨fun e=>absurd e (by decide),fun h=>?_⟩;rcases h.copy with hc | ⟨_,_,_,q',hq',h7⟩
   ·exact absurd hc h4
   ·rw [hq] at hq'; cases hq'; exact absurd h7 h6
theorem ib (nm:ByteArray → Bool) (y:ab):(cN nm y).2.2 = 0 ↔ bJ nm y:=by
 unfold cN;by_cases h1:inI y.kinds.length 1 4 = false ∨ inI y.places.length 1 4 = false ∨ 10 < y.papers.length ∨ 8 < y.first.length ∨ 8 < y.last.length
 ·rw [if_pos h1];rw [bA.2,bA.2] at h1;refine ⟨fun e=>absurd e (by decide),fun h=>?_⟩;have:=h.k4; have:=h.p4; have:=h.m10; have:=h.f8; have:=h.l8;omega
 rw [if_neg h1];rw [bA.2,bA.2] at h1;by_cases h2:(aG (gp nm y.kinds) y.kinds 0).2 = 0;rotate_left
 ·rw [if_pos h2]; exact ⟨fun e=>absurd e h2,fun h=>absurd ((sa _ _).2 h.kinds) h2⟩
 rw [if_neg (by simp [h2])];by_cases h3:(aG (gp nm y.places) y.places 0).2 = 0;rotate_left
 ·rw [if_pos h3]; exact ⟨fun e=>absurd e h3,fun h=>absurd ((sa _ _).2 h.places) h3⟩
 rw [if_neg (by simp [h3])];by_cases h4:(aG (gN y y.first) y.first 0).2 = 0;rotate_left
 ·rw [if_pos h4]; exact ⟨fun e=>absurd e h4,fun h=>absurd ((gU _ _).2 h.first) h4⟩
 rw [if_neg (by simp [h4])];by_cases h5:(aG (mD y) y.papers 0).2 = 0;rotate_left
 ·rw [if_pos h5]; exact ⟨fun e=>absurd e h5,fun h=>absurd ((pL _).2 h.papers) h5⟩
 rw [if_neg (by simp [h5])];by_cases h6:(aG (gN y y.last) y.last 0).2 = 0;rotate_left
 ·rw [if_pos h6]; exact ⟨fun e=>absurd e h6,fun h=>absurd ((gU _ _).2 h.last) h6⟩
 rw [if_neg (by simp [h6])];exact ⟨fun _=>⟨by omega,by omega,by omega,by omega,by omega,(sa _ _).1 h2,(sa _ _).1 h3,(gU _ _).1 h4,(pL _).1 h5,(gU _ _).1 h6⟩,fun _=>rfl⟩
theorem bJ.ok {nm:ByteArray → Bool} {y:ab} (h:bJ nm y):oU y:=⟨h.p4.2,fun c hc=>(h.first.1 c hc).toEy,fun c hc=>(h.last.1 c hc).toEy⟩
end Go.AM
