/- Small functions of chapter 05: beyond, Name, Range and their like. Ways between nodes, and what goes on them: if no set of nodes is bound to have more come to it than can go from it, something can .. -/
import Derived.Test.YtlmhkldmpggadaaGreatDoorG05
import Derived.Test.YtlmhkldmpggadaaGreatDoorP15
namespace Go.AM
open Go.Proofs
set_option maxRecDepth 100000
abbrev ii' (n:Int):ag:=.int .i64 n
theorem aq {n:Int} (h:-9223372036854775808 ≤ n) (h2:n ≤ 9223372036854775807):IntKind.i64.wrap n = n:=by rw [IntKind.wrap_i64]; omega
theorem aD {α:Type} {f:α → ag} (h:∀ a,(f a).pure = true):∀ l:List α,aH (l.map f) = true
 | []=>rfl
 | a :: l=>by simp only [List.map_cons,aH,h a,aD h l,Bool.and_self]
theorem ah.of {P:Program} {fv:ag} {args:List ag} {σ:af} {v:ag} {K Kp:ag → af → Prop} (hs:aE P fv args σ fun r σ'=>r = .ret v ∧ σ' = σ) (hq:K v σ):@ah P fv args σ ⟨K⟩ ⟨Kp⟩:=
 hs.mono (by rintro r σ' ⟨rfl,rfl⟩; exact hq)
theorem tf (b:Bool):b = false ∨ b = true:=by cases b <;> simp
@[simp] theorem RT {α:Type} (σ l:List α):(σ ++ l)[σ.length]? = l[0]?:=by simp [List.getElem?_append_right]
@[simp] theorem Qg {α:Type} (σ l:List α) (n:Nat):(σ ++ l)[σ.length + n]? = l[n]?:=by rw [List.getElem?_append_right (by omega)]; congr 1; omega
@[simp] theorem Ra {α:Type} (σ l:List α) (x:α):(σ ++ l).set σ.length x = σ ++ l.set 0 x:=by rw [List.set_append_right _ _ (by omega)]; simp
@[simp] theorem OA {α:Type} (σ l:List α) (x:α) (n:Nat):(σ ++ l).set (σ.length + n) x = σ ++ l.set n x:=by rw [List.set_append_right _ _ (by omega)]; congr 2; omega
def oO (P:Program) (fv:ag) (args:List ag) (v:ag):Prop:=∀ σ,aE P fv args σ fun r σ'=>r = .ret v ∧ σ' = σ
theorem oO.fn {P:Program} {f:FuncId} (hb:au P f = true) {first caps args:List ag} {v:ag} (hs:∀ σ,Spec P f (first ++ args ++ caps) σ fun r σ'=>r = .ret v ∧ σ' = σ):oO P (.func (.func f) first caps) args v:=
 fun σ=>aE.func hb (hs σ)
/-! ### beyond -/
def GQ (lo hi n:Int):Bool:=decide (n < lo) || decide (hi < n)
def pq (lo hi:Int) (l:List Int):Bool:=l.any (GQ lo hi)
def gP {α:Type} (p:α → Bool):List α → Nat → Int
 | [],_=>-1
 | a :: r,i=>if p a then i else gP p r (i + 1)
theorem ER {α:Type} (p:α → Bool):∀ (l:List α) (i:Nat),0 ≤ gP p l i ↔ l.any p = true
 | [],i=>by simp [gP]
 | a :: r,i=>by
  have ih:=ER p r (i + 1);have e:gP p (a :: r) i = if p a then (i:Int) else gP p r (i + 1):=rfl;rw [e,List.any_cons];by_cases h:p a = true
  ·rw [if_pos h,h]; simp
  ·rw [if_neg h];have h':p a = false:=by simpa using h
   rw [h',ih]; simp
theorem xL {α:Type} (p:α → Bool) (l:List α) (i:Nat):decide (0 ≤ gP p l i) = l.any p:=by
 rw [Bool.eq_iff_iff,decide_eq_true_iff]; exact ER p l i
theorem kW (g:FuncId) (caps:List ag) (hp:aH caps = true) (p:Int → Bool) (l:List Int) (hl:l.length ≤ maxLen) (hf:∀ x ∈ l,oO Tryz.prog (.func (.func g) [] caps) [ii' x] (.bool (p x))) (σ:af) :
  Spec Tryz.prog IN [.slice 1 (l.map ii'), .func (.func g) [] caps] σ fun r σ'=>r = .ret (.int .i64 (gP p l 0)) ∧ σ' = σ:=by
 refine Spec.aF (PU (by simp) (aa _ ?_)) (by simp [hp,aD (f:=ii') (fun _=>rfl) l]) rfl σ;simp [Mo];refine AW.loop (ι:=Nat) (fun i fr σ=>fr = { v:=[(0, .slice 1 (l.map ii')),(1, .func (.func g) [] caps),(7, .int .i64 l.length),(8, .int .i64 i)],ds:=[] } ∧ i ≤ l.length ∧ gP p l 0 = gP p (l.drop i) i) (fun i=>l.length - i) 0 (by simp) ?_;rintro i fr σ ⟨rfl,hi,hpi⟩;refine aa _ ?_;simp;refine ⟨fun hlt=>?_,fun hge=>?_⟩
 ·have hd:l.drop i = l[i] :: l.drop (i + 1):=List.drop_eq_getElem_cons hlt;rw [hd] at hpi;simp [gP] at hpi;simp [hlt];refine ah.of (hf l[i] (List.getElem_mem _) σ) ?_;simp;refine ⟨fun he=>by rw [hpi,if_pos he],fun he=>⟨i + 1,by omega,aq (by omega) (by simp only [maxLen] at hl; omega),by omega,by rw [hpi,if_neg (by simp [he])]⟩⟩
 ·have:l.drop i = []:=List.drop_eq_nil_of_le hge;rw [hpi,this]; rfl
theorem jD (g:FuncId) (caps:List ag) (hp:aH caps = true) (p:Int → Bool) (l:List Int) (hl:l.length ≤ maxLen) (hf:∀ x ∈ l,oO Tryz.prog (.func (.func g) [] caps) [ii' x] (.bool (p x))) (σ:af) :
  Spec Tryz.prog Ik [.slice 1 (l.map ii'), .func (.func g) [] caps] σ fun r σ'=>r = .ret (.bool (l.any p)) ∧ σ' = σ:=by
 refine Spec.aF (Ox (by simp) (aa _ ?_)) (by simp [hp,aD (f:=ii') (fun _=>rfl) l]) rfl σ;simp [Mu];refine ah.pure PC (kW g caps hp p l hl hf _) ?_;simp [xL]
structure aI where
 src:Nat
 dst:Nat
 low:Int
 high:Int
def InB (es:List aI) (f:Nat → Int):Prop:=∀ i (h:i < es.length),es[i].low ≤ f i ∧ f i ≤ es[i].high
def aS (n:Nat):List aI → Nat → (Nat → Int) → Int
 | [],_,_=>0
 | e :: r,i,f=>(if e.dst = n then f i else 0) - (if e.src = n then f i else 0) + aS n r (i + 1) f
def dW (N:Nat) (g:Nat → Int):Int:=match N with
 | 0=>0
 | N + 1=>dW N g + g N
theorem vN (g h:Nat → Int):∀ N,dW N (fun n=>g n + h n) = dW N g + dW N h
 | 0=>rfl
 | N + 1=>by simp only [dW,vN g h N]; omega
theorem jx (g h:Nat → Int):∀ N,dW N (fun n=>g n - h n) = dW N g - dW N h
 | 0=>rfl
 | N + 1=>by simp only [dW,jx g h N]; omega
theorem eV:∀ N,dW N (fun _=>0) = 0
 | 0=>rfl
 | N + 1=>by simp only [dW,eV N]; omega
theorem dK {g h:Nat → Int}:∀ N,(∀ n,n < N → g n = h n) → dW N g = dW N h
 | 0,_=>rfl
 | N + 1,hh=>by simp only [dW]; rw [dK N fun n hn=>hh n (by omega),hh N (by omega)]
theorem sJ {g h:Nat → Int}:∀ N,(∀ n,n < N → g n ≤ h n) → dW N g ≤ dW N h
 | 0,_=>Int.le_refl _
 | N + 1,hh=>by
  simp only [dW];have h1:=sJ N fun n hn=>hh n (by omega);have h2:=hh N (by omega);omega
theorem oJ (a:Nat) (v:Int):∀ N,dW N (fun n=>if a = n then v else 0) = if a < N then v else 0
 | 0=>by simp [dW]
 | N + 1=>by
  simp only [dW,oJ a v N];by_cases h1:a < N
  ·rw [if_pos h1,if_neg (by omega),if_pos (by omega)]; omega
  ·by_cases h2:a = N
   ·rw [if_neg h1,if_pos h2,if_pos (by omega)]; omega
   ·rw [if_neg h1,if_neg h2,if_neg (by omega)]; omega
theorem s9 {g:Nat → Int} {a:Nat}:∀ {N},(∀ n,n < N → 0 ≤ g n) → a < N → g a ≤ dW N g
 | 0,_,h=>by omega
 | N + 1,hh,h=>by
  simp only [dW];by_cases h1:a < N
  ·have:=s9 (fun n hn=>hh n (by omega)) h1;have:=hh N (by omega); omega
  ·obtain rfl:a = N:=by omega
   have:0 ≤ dW a g:=by
    have:=sJ (g:=fun _=>0) (h:=g) a fun n hn=>hh n (by omega)
    rwa [eV] at this
   omega
def dZ (S:Nat → Bool):List aI → Int
 | []=>0
 | e :: r=>(if S e.dst && !S e.src then e.low else 0) - (if S e.src && !S e.dst then e.high else 0) + dZ S r
def fx (S:Nat → Bool):List aI → Nat → (Nat → Int) → Int
 | [],_,_=>0
 | e :: r,i,f=>(if S e.dst && !S e.src then f i else 0) - (if S e.src && !S e.dst then f i else 0) + fx S r (i + 1) f
theorem pw (S:Nat → Bool) (N:Nat) (f:Nat → Int):∀ (es:List aI) (i:Nat),(∀ e ∈ es,e.src < N ∧ e.dst < N) → dW N (fun n=>if S n then aS n es i f else 0) = fx S es i f
 | [],i,_=>by
  simp only [aS,fx];rw [dK (h:=fun _=>0) N fun n _=>by split <;> rfl,eV]
 | e :: r,i,h=>by
  obtain ⟨h1,h2⟩:=h e (by simp);have ih:=pw S N f r (i + 1) fun x hx=>h x (by simp [hx]);simp only [aS,fx, ← ih];rw [dK (h:=fun n=>((if e.dst = n then (if S e.dst then f i else 0) else 0) - (if e.src = n then (if S e.src then f i else 0) else 0)) + (if S n then aS n r (i + 1) f else 0)) N ?_,vN,jx,oJ,oJ,if_pos h2,if_pos h1]
  ·cases hs:S e.src <;> cases hd:S e.dst <;> simp <;> omega
  ·intro n _;by_cases a1:e.dst = n <;> by_cases a2:e.src = n
   ·subst a1; rw [a2]; cases hd:S e.dst <;> simp
   ·subst a1; cases hd:S e.dst <;> simp [a2]
   ·subst a2; cases hd:S e.src <;> simp [a1]
   ·cases hd:S n <;> simp [a1,a2]
theorem Bc (S:Nat → Bool):∀ (es:List aI) (i:Nat) (f:Nat → Int),(∀ k (h:k < es.length),es[k].low ≤ f (i + k) ∧ f (i + k) ≤ es[k].high) → dZ S es ≤ fx S es i f
 | [],_,_,_=>by simp [dZ,fx]
 | e :: r,i,f,h=>by
  have h0:=h 0 (by simp);simp only [List.getElem_cons_zero,Nat.add_zero] at h0;have ih:=Bc S r (i + 1) f fun k hk=>by
   have:=h (k + 1) (by simp; omega);simp only [List.getElem_cons_succ] at this;rw [show i + 1 + k = i + (k + 1) by omega]; exact this
  simp only [dZ,fx];cases hs:S e.src <;> cases hd:S e.dst <;> simp <;> omega
theorem C0 (S:Nat → Bool):∀ (es:List aI) (i:Nat) (f:Nat → Int),(∀ k (h:k < es.length),(S es[k].dst = true → S es[k].src = false → f (i + k) = es[k].low) ∧ (S es[k].src = true → S es[k].dst = false → f (i + k) = es[k].high)) → fx S es i f = dZ S es
 | [],_,_,_=>by simp [dZ,fx]
 | e :: r,i,f,h=>by
  have h0:=h 0 (by simp);simp only [List.getElem_cons_zero,Nat.add_zero] at h0;have ih:=C0 S r (i + 1) f fun k hk=>by
   have:=h (k + 1) (by simp; omega);simp only [List.getElem_cons_succ] at this;rw [show i + 1 + k = i + (k + 1) by omega]; exact this
  simp only [dZ,fx,ih];cases hs:S e.src <;> cases hd:S e.dst <;> simp [hs,hd] at h0 ⊢
  ·omega
  ·omega
/-! ### steps, and lines of them -/
def fC (es:List aI) (f:Nat → Int) (k:Int) (i a c:Nat):Prop:=
 ∃ h:i < es.length,(es[i].src = a ∧ es[i].dst = c ∧ f i + k ≤ es[i].high) ∨ (es[i].dst = a ∧ es[i].src = c ∧ es[i].low ≤ f i - k)
inductive dj (es:List aI) (f:Nat → Int) (k:Int) (P:Nat → Prop) (b:Nat):Nat → List Nat → Prop
 | nil:dj es f k P b b [b]
 | cons {i a c l}:fC es f k i a c → P i → dj es f k P b c l → a ∉ l → dj es f k P b a (a :: l)
theorem dj.suffix {es:List aI} {f:Nat → Int} {k:Int} {P:Nat → Prop} {b y x:Nat} {l:List Nat} (h:dj es f k P b y l) (hx:x ∈ l):∃ l',dj es f k P b x l':=by
 induction h with
 | nil=>rw [List.mem_singleton.1 hx]; exact ⟨_, .nil⟩
 | cons h1 hp h2 h3 ih=>
  rcases List.mem_cons.1 hx with rfl | hx
  ·exact ⟨_, .cons h1 hp h2 h3⟩
  ·exact ih hx
theorem dj.step {es:List aI} {f:Nat → Int} {k:Int} {P:Nat → Prop} {b x y i:Nat} {l:List Nat} (h:dj es f k P b y l) (hs:fC es f k i x y) (hp:P i):∃ l',dj es f k P b x l':=by
 by_cases hx:x ∈ l
 ·exact h.suffix hx
 ·exact ⟨_, .cons hs hp h hx⟩
def cG (f:Nat → Int) (i:Nat) (v:Int):Nat → Int:=fun j=>if j = i then f j + v else f j
theorem iT (n:Nat) (f:Nat → Int) (i:Nat) (v:Int):∀ (es:List aI) (j:Nat),aS n es j (cG f i v) = aS n es j f + (if h:j ≤ i ∧ i < j + es.length then (if (es[i - j]'(by omega)).dst = n then v else 0) - (if (es[i - j]'(by omega)).src = n then v else 0) else 0)
 | [],j=>by
  simp only [aS,List.length_nil];rw [dif_neg (by omega)]; omega
 | e :: r,j=>by
  have ih:=iT n f i v r (j + 1);simp only [aS,ih];by_cases hji:j = i
  ·subst hji;rw [dif_neg (by omega),dif_pos (by simp)];simp only [cG,if_pos,Nat.sub_self,List.getElem_cons_zero];by_cases a1:e.dst = n <;> by_cases a2:e.src = n <;> simp [a1,a2] <;> omega
  ·have ha:cG f i v j = f j:=by unfold cG; rw [if_neg hji]
   rw [ha];by_cases hr:j + 1 ≤ i ∧ i < j + 1 + r.length
   ·rw [dif_pos hr,dif_pos (by simp only [List.length_cons]; omega)];have e1:i - j = (i - (j + 1)) + 1:=by omega
    simp only [e1,List.getElem_cons_succ];omega
   ·rw [dif_neg hr,dif_neg (by simp only [List.length_cons]; omega)];omega
theorem dj.push {es:List aI} {f:Nat → Int} {k:Int} (hk:0 ≤ k) {P:Nat → Prop} {a b:Nat} {l:List Nat} (h:dj es f k P b a l) (hb:InB es f) (hne:∀ e ∈ es,e.src ≠ e.dst) :
  ∃ f',InB es f' ∧ (∀ n,aS n es 0 f' = aS n es 0 f - (if n = a then k else 0) + (if n = b then k else 0)) ∧ ∀ j,f' j ≠ f j → P j ∧ ∃ h:j < es.length,es[j].src ∈ l ∧ es[j].dst ∈ l:=by
 induction h with
 | nil=>exact ⟨f,hb,fun n=>by omega,fun j hj=>absurd rfl hj⟩
 | @cons i a c l hs hp hl ha ih=>
  obtain ⟨f',h1,h2,h3⟩:=ih;obtain ⟨hi,hs⟩:=hs;have hcl:c ∈ l:=by cases hl <;> simp
  have hfi:f' i = f i:=by
   by_cases e:f' i = f i
   ·exact e
   ·obtain ⟨_,_,h4,h5⟩:=h3 i e;rcases hs with ⟨e1,_,_⟩ | ⟨e1,_,_⟩
    ·rw [e1] at h4; exact absurd h4 ha
    ·rw [e1] at h5; exact absurd h5 ha
  have hni:=hne es[i] (List.getElem_mem hi);have hch:∀ j, ∀ v,cG f' i v j ≠ f j → P j ∧ ∃ h:j < es.length,es[j].src ∈ a :: l ∧ es[j].dst ∈ a :: l:=by
   intro j v hj;by_cases e:j = i
   ·subst e;refine ⟨hp,hi, ?_⟩;rcases hs with ⟨e1,e2,_⟩ | ⟨e1,e2,_⟩ <;> rw [e1,e2] <;> simp [hcl]
   ·unfold cG at hj;rw [if_neg e] at hj;obtain ⟨q1,q2,q3,q4⟩:=h3 j hj;exact ⟨q1,q2,List.mem_cons_of_mem _ q3,List.mem_cons_of_mem _ q4⟩
  rcases hs with ⟨e1,e2,e3⟩ | ⟨e1,e2,e3⟩
  ·refine ⟨cG f' i k,fun j hj=>?_,fun n=>?_,fun j=>hch j k⟩
   ·have:=h1 j hj;unfold cG;split
    ·rename_i e; subst e; rw [hfi] at this ⊢; omega
    ·exact this
   ·rw [iT,h2 n,dif_pos (by omega)];simp only [Nat.sub_zero,e1,e2];rw [e1,e2] at hni;by_cases n1:n = a <;> by_cases n2:n = c
    ·omega
    ·simp [n1,Ne.symm hni]; omega
    ·simp [n2,hni,Ne.symm hni]; omega
    ·rw [if_neg (Ne.symm n2),if_neg (Ne.symm n1),if_neg n2,if_neg n1]; omega
  ·refine ⟨cG f' i (-k),fun j hj=>?_,fun n=>?_,fun j=>hch j (-k)⟩
   ·have:=h1 j hj;unfold cG;split
    ·rename_i e; subst e; rw [hfi] at this ⊢; omega
    ·exact this
   ·rw [iT,h2 n,dif_pos (by omega)];simp only [Nat.sub_zero,e1,e2];rw [e1,e2] at hni;by_cases n1:n = a <;> by_cases n2:n = c
    ·omega
    ·simp [n1,hni]; omega
    ·simp [n2,hni,Ne.symm hni]; omega
    ·rw [if_neg (Ne.symm n1),if_neg (Ne.symm n2),if_neg n2,if_neg n1]; omega
structure bE (N:Nat) (es:List aI) (f:Nat → Int):Prop where
 inb:InB es f
 net:∀ n,n < N → aS n es 0 f = 0
structure fY (N:Nat) (es:List aI):Prop where
 src:∀ e ∈ es,e.src < N ∧ e.dst < N
 ne:∀ e ∈ es,e.src ≠ e.dst
 le:∀ e ∈ es,e.low ≤ e.high
theorem zB:∀ (es:List aI) (i:Nat) (f:Nat → Int),fx (fun _=>true) es i f = 0
 | [],_,_=>rfl
 | e :: r,i,f=>by simp only [fx,zB r (i + 1) f]; simp
theorem EY {N:Nat} {es:List aI} (h:fY N es) (f:Nat → Int):dW N (fun n=>aS n es 0 f) = 0:=by
 have:=pw (fun _=>true) N f es 0 h.src;rw [zB] at this;simpa using this
theorem bE.cut {N:Nat} {es:List aI} {f:Nat → Int} (h:fY N es) (hc:bE N es f) (S:Nat → Bool):fx S es 0 f = 0 ∧ dZ S es ≤ 0:=by
 have h1:=pw S N f es 0 h.src;rw [dK (h:=fun _=>0) N (fun n hn=>by rw [hc.net n hn]; split <;> rfl),eV] at h1;have h2:=Bc S es 0 f fun k hk=>by rw [Nat.zero_add]; exact hc.inb k hk
 exact ⟨h1.symm,by omega⟩
theorem stuck {es:List aI} {f:Nat → Int} {P:Nat → Prop} {B:Nat → Prop} {S:Nat → Bool} (hS:∀ n,S n = true ↔ ¬ ∃ b l,B b ∧ dj es f 1 P b n l) (hb:InB es f) :
  ∀ k (h:k < es.length),P k → (S es[k].dst = true → S es[k].src = false → f k = es[k].low) ∧ (S es[k].src = true → S es[k].dst = false → f k = es[k].high):=by
 have hF:∀ n,S n = false → ∃ b l,B b ∧ dj es f 1 P b n l:=fun n hn=>Classical.byContradiction fun hc=>by
  rw [(hS n).2 hc] at hn; cases hn
 intro k h hp;have hk:=hb k h;refine ⟨fun h1 h2=>?_,fun h1 h2=>?_⟩
 ·obtain ⟨b,l,h3,h4⟩:=hF _ h2;by_cases e:f k = es[k].low
  ·exact e
  ·obtain ⟨l',h5⟩:=h4.step (x:=es[k].dst) (i:=k) ⟨h, .inr ⟨rfl,rfl,by omega⟩⟩ hp;exact absurd ⟨b,l',h3,h5⟩ ((hS _).1 h1)
 ·obtain ⟨b,l,h3,h4⟩:=hF _ h2;by_cases e:f k = es[k].high
  ·exact e
  ·obtain ⟨l',h5⟩:=h4.step (x:=es[k].src) (i:=k) ⟨h, .inl ⟨rfl,rfl,by omega⟩⟩ hp;exact absurd ⟨b,l',h3,h5⟩ ((hS _).1 h1)
theorem D4 (Q:Nat → Prop):∃ S:Nat → Bool, ∀ n,S n = true ↔ Q n:=
 ⟨fun n=>@decide (Q n) (Classical.propDecidable _),fun _n=>@decide_eq_true_iff _ (Classical.propDecidable _)⟩
theorem y7 {N:Nat} {es:List aI} (h:fY N es) {f:Nat → Int} (hb:InB es f) {a:Nat} (ha:a < N) (h0:0 < aS a es 0 f)
  (hn:¬ ∃ b l,(b < N ∧ aS b es 0 f < 0) ∧ dj es f 1 (fun _=>True) b a l):∃ S,S a = true ∧ 0 < dZ S es:=by
 obtain ⟨S,hS⟩:=D4 fun n=>¬ ∃ b l,(b < N ∧ aS b es 0 f < 0) ∧ dj es f 1 (fun _=>True) b n l;have h1:=stuck (B:=fun b=>b < N ∧ aS b es 0 f < 0) hS hb;have h2:=C0 S es 0 f fun k hk=>by rw [Nat.zero_add]; exact h1 k hk trivial
 have h3:=pw S N f es 0 h.src;have h4:∀ n,n < N → 0 ≤ (if S n then aS n es 0 f else 0):=fun n hnN=>by
  split
  ·rename_i hs;rcases Int.lt_or_le (aS n es 0 f) 0 with hlt | hge
   ·exact absurd ⟨n,_,⟨hnN,hlt⟩, .nil⟩ ((hS n).1 hs)
   ·exact hge
  ·omega
 have h5:=s9 h4 ha;rw [if_pos ((hS a).2 hn)] at h5;exact ⟨S,(hS a).2 hn,by omega⟩
def JE (N:Nat) (es:List aI) (f:Nat → Int):Int:=dW N fun n=>max (aS n es 0 f) 0
theorem JU (N:Nat) (es:List aI) (f:Nat → Int):0 ≤ JE N es f:=by
 have:=sJ (g:=fun _=>0) (h:=fun n=>max (aS n es 0 f) 0) N fun n _=>by omega
 rwa [eV] at this
theorem B7 {N:Nat} {es:List aI} (h:fY N es) (hc:∀ S,dZ S es ≤ 0):∀ (p:Nat) (f:Nat → Int),InB es f → JE N es f ≤ p → ∃ g,bE N es g
 | p,f,hb,hp=>by
  by_cases ha:∃ a,a < N ∧ 0 < aS a es 0 f
  ·obtain ⟨a,haN,h0⟩:=ha;by_cases hl:∃ b l,(b < N ∧ aS b es 0 f < 0) ∧ dj es f 1 (fun _=>True) b a l
   ·obtain ⟨b,l,⟨hbN,hb0⟩,hl⟩:=hl;obtain ⟨f',h1,h2,_⟩:=hl.push (by omega) hb h.ne;have hpp:JE N es f' = JE N es f - 1:=by
     unfold JE;rw [dK (h:=fun n=>max (aS n es 0 f) 0 - (if a = n then 1 else 0)) N fun n _=>?_,jx,oJ,if_pos haN];rw [h2 n];by_cases e1:n = a
     ·subst e1;have hnb:¬ n = b:=fun e=>by rw [e] at h0; omega
      simp [hnb]; omega
     ·rw [if_neg e1,if_neg (Ne.symm e1)];by_cases e2:n = b
      ·subst e2; rw [if_pos rfl]; omega
      ·rw [if_neg e2]; omega
    have hnn:=JU N es f'
    cases p with
    | zero=>omega
    | succ p=>exact B7 h hc p f' h1 (by omega)
   ·obtain ⟨S,_,hS⟩:=y7 h hb haN h0 hl;have:=hc S;omega
  ·refine ⟨f,hb,fun n hn=>?_⟩;have hle:∀ n,n < N → aS n es 0 f ≤ 0:=fun n hn=>by
    rcases Int.lt_or_le 0 (aS n es 0 f) with h1 | h1
    ·exact absurd ⟨n,hn,h1⟩ ha
    ·exact h1
   have h1:=s9 (g:=fun n=>0 - aS n es 0 f) (fun n hn=>by have:=hle n hn; omega) hn;rw [jx,eV,EY h] at h1;have:=hle n hn;omega
theorem sj {N:Nat} {es:List aI} (h:fY N es):(∃ f,bE N es f) ↔ ∀ S,dZ S es ≤ 0:=by
 refine ⟨fun ⟨f,hf⟩ S=>(hf.cut h S).2,fun hc=>?_⟩;have hb:InB es fun i=>if h:i < es.length then es[i].low else 0:=fun i hi=>by
  simp only [dif_pos hi];exact ⟨Int.le_refl _,h.le _ (List.getElem_mem hi)⟩
 exact B7 h hc _ _ hb (Int.self_le_toNat _)
/-! ### the ends of what can go on a way -/
def xX (S:Nat → Bool) (e:aI) (v:Int):Int:=(if S e.dst && !S e.src then v else 0) - (if S e.src && !S e.dst then v else 0)
theorem xg (S:Nat → Bool) {i0:Nat}:∀ (es:List aI) (i:Nat) (f g:Nat → Int),
  (∀ k (h:k < es.length),i + k ≠ i0 → (S es[k].dst = true → S es[k].src = false → f (i + k) = es[k].low) ∧ (S es[k].src = true → S es[k].dst = false → f (i + k) = es[k].high)) →
  (∀ k (h:k < es.length),es[k].low ≤ g (i + k) ∧ g (i + k) ≤ es[k].high) →
  fx S es i f - (if h:i ≤ i0 ∧ i0 < i + es.length then xX S (es[i0 - i]'(by omega)) (f i0) else 0) ≤ fx S es i g - (if h:i ≤ i0 ∧ i0 < i + es.length then xX S (es[i0 - i]'(by omega)) (g i0) else 0)
 | [],i,f,g,_,_=>by
  simp only [fx,List.length_nil];rw [dif_neg (by omega),dif_neg (by omega)]; omega
 | e :: r,i,f,g,h,hg=>by
  have ih:=xg S (i0:=i0) r (i + 1) f g (fun k hk hne=>by
   have:=h (k + 1) (by simp; omega) (by omega);simp only [List.getElem_cons_succ] at this
   rw [show i + 1 + k = i + (k + 1) by omega]; exact this) (fun k hk=>by
   have:=hg (k + 1) (by simp; omega);simp only [List.getElem_cons_succ] at this
   rw [show i + 1 + k = i + (k + 1) by omega]; exact this)
  have h0:=h 0 (by simp);have hg0:=hg 0 (by simp);simp only [List.getElem_cons_zero,Nat.add_zero] at h0 hg0;simp only [fx];by_cases hi:i = i0
  ·subst hi;rw [dif_neg (by omega),dif_neg (by omega)] at ih;rw [dif_pos (by simp),dif_pos (by simp)];simp only [Nat.sub_self,List.getElem_cons_zero,xX];omega
  ·have hcmp:(if S e.dst && !S e.src then f i else 0) - (if S e.src && !S e.dst then f i else 0) ≤ (if S e.dst && !S e.src then g i else 0) - (if S e.src && !S e.dst then g i else 0):=by
    have h0:=h0 hi;cases hs:S e.src <;> cases hd:S e.dst <;> simp [hs,hd] at h0 ⊢
    ·omega
    ·omega
   by_cases hr:i + 1 ≤ i0 ∧ i0 < i + 1 + r.length
   ·rw [dif_pos hr,dif_pos hr] at ih;rw [dif_pos (by simp only [List.length_cons]; omega),dif_pos (by simp only [List.length_cons]; omega)];have e1:i0 - i = (i0 - (i + 1)) + 1:=by omega
    simp only [e1,List.getElem_cons_succ];omega
   ·rw [dif_neg hr,dif_neg hr] at ih;rw [dif_neg (by simp only [List.length_cons]; omega),dif_neg (by simp only [List.length_cons]; omega)];omega
theorem GP {N:Nat} {es:List aI} (h:fY N es) {f g:Nat → Int} (hf:bE N es f) (hg:bE N es g) {i0:Nat} (hi:i0 < es.length)
  (hn:¬ ∃ l,dj es f 1 (fun i=>i ≠ i0) es[i0].dst es[i0].src l):f i0 ≤ g i0:=by
 obtain ⟨S,hS⟩:=D4 fun n=>¬ ∃ b l,b = es[i0].dst ∧ dj es f 1 (fun i=>i ≠ i0) b n l;have h1:=stuck (B:=fun b=>b = es[i0].dst) hS hf.inb;have hx:S es[i0].src = true:=(hS _).2 fun ⟨b,l,e,hl⟩=>hn ⟨l,e ▸ hl⟩;have hy:S es[i0].dst = false:=by
  cases hd:S es[i0].dst
  ·rfl
  ·exact absurd ⟨_,_,rfl, .nil⟩ ((hS _).1 hd)
 have h2:=xg S (i0:=i0) es 0 f g (fun k hk hne=>by rw [Nat.zero_add] at hne ⊢; exact h1 k hk hne) (fun k hk=>by rw [Nat.zero_add]; exact hg.inb k hk);rw [(hf.cut h S).1,(hg.cut h S).1,dif_pos (by omega),dif_pos (by omega)] at h2;simp only [Nat.sub_zero,xX,hx,hy] at h2;simp at h2;omega
theorem G6 {N:Nat} {es:List aI} (h:fY N es) {f g:Nat → Int} (hf:bE N es f) (hg:bE N es g) {i0:Nat} (hi:i0 < es.length)
  (hn:¬ ∃ l,dj es f 1 (fun i=>i ≠ i0) es[i0].src es[i0].dst l):g i0 ≤ f i0:=by
 obtain ⟨S,hS⟩:=D4 fun n=>¬ ∃ b l,b = es[i0].src ∧ dj es f 1 (fun i=>i ≠ i0) b n l;have h1:=stuck (B:=fun b=>b = es[i0].src) hS hf.inb;have hx:S es[i0].dst = true:=(hS _).2 fun ⟨b,l,e,hl⟩=>hn ⟨l,e ▸ hl⟩;have hy:S es[i0].src = false:=by
  cases hd:S es[i0].src
  ·rfl
  ·exact absurd ⟨_,_,rfl, .nil⟩ ((hS _).1 hd)
 have h2:=xg S (i0:=i0) es 0 f g (fun k hk hne=>by rw [Nat.zero_add] at hne ⊢; exact h1 k hk hne) (fun k hk=>by rw [Nat.zero_add]; exact hg.inb k hk);rw [(hf.cut h S).1,(hg.cut h S).1,dif_pos (by omega),dif_pos (by omega)] at h2;simp only [Nat.sub_zero,xX,hx,hy] at h2;simp at h2;omega
structure ay where
 kind:Int
 place:Int
 lo:Int
 hi:Int
structure aj where
 kind:Int
 src:Int
 dst:Int
 kilos:Int
 copy:Int
structure ab where
 kinds:List ByteArray
 places:List ByteArray
 first:List ay
 papers:List aj
 last:List ay
def aB (l:List ay) (k p:Int):Option ay:=l.find? fun c=>decide (c.kind = k) && decide (c.place = p)
def loC (o:Option ay):Int:=match o with
 | some c=>c.lo
 | none=>0
def hiC (o:Option ay):Int:=match o with
 | some c=>c.hi
 | none=>0
def aw:Int:=1099511627776
def br (p:aj) (i:Nat):Bool:=decide (p.copy < 0) || decide ((i:Int) < p.copy)
def bM (y:ab) (i:Nat):Int:=match y.papers[i]? with
 | some p=>p.kilos
 | none=>0
def aZ (y:ab) (wrong:List Nat) (p:aj) (i:Nat):Int × Int:=
 if p.copy < 0 then (if i ∈ wrong then (0,1000000) else (p.kilos,p.kilos))
 else if ¬ min i p.copy.toNat ∈ wrong then (bM y (min i p.copy.toNat),bM y (min i p.copy.toNat))
 else if ¬ max i p.copy.toNat ∈ wrong then (bM y (max i p.copy.toNat),bM y (max i p.copy.toNat))
 else (0,1000000)
structure b8 where
 src:Int
 dst:Int
 lo:Int
 hi:Int
def ee (al:aj → Nat → Int × Int) (k:Int):List aj → Nat → List b8
 | [],_=>[]
 | p :: r,i=>if p.kind = k ∧ br p i = true then ⟨p.src,p.dst,(al p i).1,(al p i).2⟩ :: ee al k r (i + 1) else ee al k r (i + 1)
/-! ### what places have -/
def amg (A:Nat → Bool) (at':Int):Bool:=decide (0 ≤ at') && A at'.toNat
def dL (A:Nat → Bool) (n:Nat) (g:Nat → Int):Int:=dW n fun a=>if A a then g a else 0
def jLo (A:Nat → Bool) (j:b8):Int:=(if amg A j.dst && !amg A j.src then j.lo else 0) - (if amg A j.src && !amg A j.dst then j.hi else 0)
def jHi (A:Nat → Bool) (j:b8):Int:=(if amg A j.dst && !amg A j.src then j.hi else 0) - (if amg A j.src && !amg A j.dst then j.lo else 0)
def bO (g:b8 → Int):List b8 → Int
 | []=>0
 | j :: r=>g j + bO g r
def fQ (A:Nat → Bool) (n:Nat) (y:ab) (k:Int) (js:List b8):Int:=dL A n (fun a=>loC (aB y.first k a)) + bO (jLo A) js
def fR (A:Nat → Bool) (n:Nat) (y:ab) (k:Int) (js:List b8):Int:=dL A n (fun a=>hiC (aB y.first k a)) + bO (jHi A) js
def eO (A:Nat → Bool) (n:Nat) (y:ab) (k:Int):Int:=dL A n fun a=>loC (aB y.last k a)
def fb (A:Nat → Bool) (n:Nat) (y:ab) (k:Int):Int:=dL A n fun a=>hiC (aB y.last k a)
def cz (A:Nat → Bool) (y:ab) (k:Int):Nat → Bool
 | 0=>true
 | n + 1=>cz A y k n && (!A n || (aB y.last k n).isSome)
def dc (A:Nat → Bool) (n:Nat) (y:ab) (k:Int) (js:List b8):Int:=if cz A y k n then max 0 (fQ A n y k js - fb A n y k) else 0
def bz (A:Nat → Bool) (n:Nat) (y:ab) (k:Int) (js:List b8):Int:=min 0 (fR A n y k js - eO A n y k)
/-! ### the ways -/
def dh (y:ab) (k:Int) (a:Nat):Int:=match aB y.last k a with
 | some c=>c.hi
 | none=>aw
def fj (n:Nat) (at':Int):Nat:=if at' < 0 then n else at'.toNat
def bR (y:ab) (k:Int) (n:Nat):Nat → List aI
 | 0=>[]
 | m + 1=>bR y k n m ++ [⟨n + 1,m,loC (aB y.first k m),hiC (aB y.first k m)⟩,⟨m,n + 1,loC (aB y.last k m),dh y k m⟩]
def cZ (n:Nat) (j:b8):aI:=⟨fj n j.src,fj n j.dst,j.lo,j.hi⟩
def aW (y:ab) (k:Int) (n:Nat) (js:List b8) (lo hi:Int):List aI:=bR y k n n ++ js.map (cZ n) ++ [⟨n,n + 1,lo,hi⟩]
theorem iq (S:Nat → Bool):∀ (l r:List aI),dZ S (l ++ r) = dZ S l + dZ S r
 | [],r=>by simp [dZ]
 | e :: l,r=>by simp only [List.cons_append,dZ,iq S l r]; omega
def Big (x:Int):Prop:=0 ≤ x ∧ x ≤ 1000000
structure eS (n:Nat) (j:b8):Prop where
 src:-1 ≤ j.src ∧ j.src < n
 dst:-1 ≤ j.dst ∧ j.dst < n
 ne:j.src ≠ j.dst
 lo:Big j.lo
 hi:Big j.hi
 le:j.lo ≤ j.hi
structure Ey (c:ay):Prop where
 lo:Big c.lo
 hi:Big c.hi
 le:c.lo ≤ c.hi
structure oU (y:ab):Prop where
 n4:y.places.length ≤ 4
 first:∀ c ∈ y.first,Ey c
 last:∀ c ∈ y.last,Ey c
theorem bx {l:List ay} (h:∀ c ∈ l,Ey c) (k p:Int):Big (loC (aB l k p)) ∧ Big (hiC (aB l k p)) ∧ loC (aB l k p) ≤ hiC (aB l k p):=by
 unfold aB
 cases hf:l.find? fun c=>decide (c.kind = k) && decide (c.place = p) with
 | none=>exact ⟨⟨by simp [loC],by simp [loC]⟩,⟨by simp [hiC],by simp [hiC]⟩,by simp [loC,hiC]⟩
 | some c=>
  have:=h c (List.mem_of_find?_eq_some hf);exact ⟨this.lo,this.hi,this.le⟩
theorem ko {y:ab} (h:oU y) (k:Int) (a:Nat):hiC (aB y.last k a) ≤ dh y k a ∧ 0 ≤ dh y k a ∧ dh y k a ≤ aw ∧ loC (aB y.last k a) ≤ dh y k a:=by
 obtain ⟨h1,h2,h3⟩:=bx h.last k a;unfold dh
 cases hf:aB y.last k a with
 | none=>rw [hf] at h1 h2 h3; unfold Big at *; simp only [aw,loC,hiC] at *; omega
 | some c=>rw [hf] at h1 h2 h3; unfold Big at *; simp only [aw,loC,hiC] at *; omega
theorem Br {S:Nat → Bool} {n:Nat} (hn:S n = false) {a:Int} (h:-1 ≤ a):S (fj n a) = amg S a:=by
 unfold fj amg;split
 ·rw [hn]; simp; omega
 ·have:decide (0 ≤ a) = true:=by simp; omega
  rw [this]; simp
theorem y5 {S:Nat → Bool} {n:Nat} (hn:S n = true) {a:Int} (h:-1 ≤ a):S (fj n a) = !amg (fun x=>!S x) a:=by
 unfold fj amg;split
 ·rw [hn]; simp; omega
 ·have:decide (0 ≤ a) = true:=by simp; omega
  rw [this]; simp
theorem An {S:Nat → Bool} {n:Nat} (hn:S n = false):∀ (js:List b8),(∀ j ∈ js,eS n j) → dZ S (js.map (cZ n)) = bO (jLo S) js
 | [],_=>rfl
 | j :: r,h=>by
  have hj:=h j (by simp);have ih:=An hn r fun x hx=>h x (by simp [hx]);simp only [List.map_cons,dZ,bO,ih,cZ,jLo];rw [Br hn hj.src.1,Br hn hj.dst.1]
theorem xp {S:Nat → Bool} {n:Nat} (hn:S n = true):∀ (js:List b8),(∀ j ∈ js,eS n j) → dZ S (js.map (cZ n)) = - bO (jHi fun x=>!S x) js
 | [],_=>rfl
 | j :: r,h=>by
  have hj:=h j (by simp);have ih:=xp hn r fun x hx=>h x (by simp [hx]);simp only [List.map_cons,dZ,bO,ih,cZ,jHi];rw [y5 hn hj.src.1,y5 hn hj.dst.1];cases amg (fun x=>!S x) j.src <;> cases amg (fun x=>!S x) j.dst <;> simp <;> omega
theorem vF {S:Nat → Bool} {n:Nat} (hn:S (n + 1) = false) (y:ab) (k:Int):∀ m,dZ S (bR y k n m) = dL S m (fun a=>loC (aB y.first k a)) - dL S m (fun a=>dh y k a)
 | 0=>rfl
 | m + 1=>by
  have ih:=vF hn y k m;simp only [bR,iq,ih,dZ,hn,dL,dW];cases hm:S m <;> simp <;> omega
theorem tg {S:Nat → Bool} {n:Nat} (hn:S (n + 1) = true) (y:ab) (k:Int):∀ m,dZ S (bR y k n m) = dL (fun x=>!S x) m (fun a=>loC (aB y.last k a)) - dL (fun x=>!S x) m (fun a=>hiC (aB y.first k a))
 | 0=>rfl
 | m + 1=>by
  have ih:=tg hn y k m;simp only [bR,iq,ih,dZ,hn,dL,dW];cases hm:S m <;> simp <;> omega
theorem da {A:Nat → Bool} {g:Nat → Int} {c:Int} (hc:0 ≤ c) (h:∀ a,0 ≤ g a ∧ g a ≤ c):∀ n:Nat,0 ≤ dL A n g ∧ dL A n g ≤ n * c
 | 0=>by simp [dL,dW]
 | n + 1=>by
  obtain ⟨h1,h2⟩:=da (A:=A) hc h n;have h3:=h n;simp only [dL,dW] at h1 h2 ⊢;have e:((n + 1:Nat):Int) * c = n * c + c:=by rw [Int.natCast_add,Int.add_mul]; simp
  rw [e];cases A n <;> simp <;> omega
theorem xV {A:Nat → Bool} {n:Nat}:∀ js:List b8,(∀ j ∈ js,eS n j) → - (js.length * 1000000:Int) ≤ bO (jLo A) js ∧ bO (jLo A) js ≤ js.length * 1000000 ∧ - (js.length * 1000000:Int) ≤ bO (jHi A) js ∧ bO (jHi A) js ≤ js.length * 1000000
 | [],_=>by simp [bO]
 | j :: r,h=>by
  have ih:=xV (A:=A) r fun x hx=>h x (by simp [hx]);have hj:=h j (by simp);have h1:=hj.lo;have h2:=hj.hi;unfold Big at h1 h2;simp only [bO,jLo,jHi,List.length_cons];cases amg A j.src <;> cases amg A j.dst <;> simp <;> omega
theorem jt {A:Nat → Bool} {y:ab} {k:Int}:∀ {n},cz A y k n = true → dL A n (fun a=>dh y k a) = fb A n y k
 | 0,_=>rfl
 | n + 1,h=>by
  simp only [cz,Bool.and_eq_true] at h;have ih:=jt h.1;simp only [fb,dL,dW] at ih ⊢;rw [ih];have h2:=h.2;cases hA:A n
  ·simp
  ·rw [hA] at h2
   cases hf:aB y.last k n with
   | none=>rw [hf] at h2; simp at h2
   | some c=>simp [dh,hf,hiC]
theorem pA {A:Nat → Bool} {y:ab} (hy:oU y) {k:Int}:∀ {n},cz A y k n = false → aw ≤ dL A n (fun a=>dh y k a)
 | 0,h=>by simp [cz] at h
 | n + 1,h=>by
  have hnn:=(da (A:=A) (g:=fun a=>dh y k a) (c:=aw) (by simp [aw]) (fun a=>⟨(ko hy k a).2.1,(ko hy k a).2.2.1⟩) n).1;have h0:=(ko hy k n).2.1;simp only [cz,Bool.and_eq_false_iff] at h;rcases h with h | h
  ·have ih:=pA hy h;simp only [dL,dW] at ih ⊢;cases A n <;> simp <;> omega
  ·cases hA:A n
   ·rw [hA] at h; simp at h
   ·rw [hA] at h
    cases hf:aB y.last k n with
    | none=>
     have e:dh y k n = aw:=by simp [dh,hf]
     simp only [dL,dW] at hnn ⊢;rw [hA,e]; simp; omega
    | some c=>rw [hf] at h; simp at h
theorem dy {A B:Nat → Bool} (g:Nat → Int) {n:Nat} (h:∀ a,a < n → A a = B a):dL A n g = dL B n g:=
 dK n fun a ha=>by rw [h a ha]
theorem jX {A B:Nat → Bool} {y:ab} {k:Int}:∀ {n:Nat},(∀ a,a < n → A a = B a) → cz A y k n = cz B y k n
 | 0,_=>rfl
 | n + 1,h=>by simp only [cz]; rw [jX fun a ha=>h a (by omega),h n (by omega)]
theorem y9 {A B:Nat → Bool} {n:Nat} (h:∀ a,a < n → A a = B a) {x:Int} (h1:x < n):amg A x = amg B x:=by
 unfold amg;rcases Int.lt_or_le x 0 with h2 | h2
 ·rw [decide_eq_false (by omega)]; simp
 ·rw [h x.toNat (by omega)]
theorem xQ {A B:Nat → Bool} {n:Nat} (h:∀ a,a < n → A a = B a):∀ {js:List b8},(∀ j ∈ js,eS n j) → bO (jLo A) js = bO (jLo B) js ∧ bO (jHi A) js = bO (jHi B) js
 | [],_=>⟨rfl,rfl⟩
 | j :: r,hj=>by
  obtain ⟨h1,h2⟩:=xQ h (js:=r) fun x hx=>hj x (by simp [hx]);have h3:=hj j (by simp);simp only [bO,jLo,jHi];rw [h1,h2,y9 h h3.src.2,y9 h h3.dst.2];exact ⟨rfl,rfl⟩
theorem iQ {A B:Nat → Bool} {n:Nat} (h:∀ a,a < n → A a = B a) (y:ab) (k:Int) {js:List b8} (hj:∀ j ∈ js,eS n j):dc A n y k js = dc B n y k js ∧ bz A n y k js = bz B n y k js:=by
 obtain ⟨h1,h2⟩:=xQ h hj;unfold dc bz fQ fR eO fb;rw [jX h,dy _ h,dy _ h,dy _ h,dy _ h,h1,h2];exact ⟨rfl,rfl⟩
theorem Bl {n:Nat} {a:Int} (h:-1 ≤ a ∧ a < n):fj n a < n + 2:=by unfold fj; split <;> omega
theorem Hk {y:ab} (hy:oU y) (k:Int) (n:Nat):∀ m,m ≤ n → ∀ e ∈ bR y k n m,(e.src < n + 2 ∧ e.dst < n + 2) ∧ e.src ≠ e.dst ∧ e.low ≤ e.high
 | 0,_,e,he=>by simp [bR] at he
 | m + 1,hm,e,he=>by
  simp only [bR,List.mem_append,List.mem_cons,List.not_mem_nil,or_false] at he;rcases he with he | rfl | rfl
  ·exact Hk hy k n m (by omega) e he
  ·exact ⟨⟨by dsimp only; omega,by dsimp only; omega⟩,by dsimp only; omega,(bx hy.first k m).2.2⟩
  ·exact ⟨⟨by dsimp only; omega,by dsimp only; omega⟩,by dsimp only; omega,(ko hy k m).2.2.2⟩
theorem AV {y:ab} (hy:oU y) (k:Int) {n:Nat} {js:List b8} (hj:∀ j ∈ js,eS n j) {lo hi:Int} (hlh:lo ≤ hi):fY (n + 2) (aW y k n js lo hi):=by
 have key:∀ e ∈ aW y k n js lo hi,(e.src < n + 2 ∧ e.dst < n + 2) ∧ e.src ≠ e.dst ∧ e.low ≤ e.high:=by
  intro e he;simp only [aW,List.mem_append,List.mem_cons,List.not_mem_nil,or_false] at he;rcases he with (he | he) | rfl
  ·exact Hk hy k n n (Nat.le_refl _) e he
  ·obtain ⟨j,hjm,rfl⟩:=List.mem_map.1 he;have h:=hj j hjm;refine ⟨⟨Bl h.src,Bl h.dst⟩, ?_,h.le⟩;have h1:=h.src;have h2:=h.dst;have h3:=h.ne;simp only [cZ,fj]
   split <;> split <;> omega
  ·exact ⟨⟨by dsimp only; omega,by dsimp only; omega⟩,by dsimp only; omega,hlh⟩
 exact ⟨fun e he=>(key e he).1,fun e he=>(key e he).2.1,fun e he=>(key e he).2.2⟩
theorem jo {S:Nat → Bool} {y:ab} {k:Int} {n:Nat} {js:List b8} (hj:∀ j ∈ js,eS n j) {lo hi:Int} :
  (S n = false → S (n + 1) = false → dZ S (aW y k n js lo hi) = fQ S n y k js - dL S n (fun a=>dh y k a)) ∧
  (S n = true → S (n + 1) = true → dZ S (aW y k n js lo hi) = eO (fun x=>!S x) n y k - fR (fun x=>!S x) n y k js):=by
 constructor
 ·intro h1 h2;simp only [aW,iq,vF h2,An h1 js hj,dZ,h1,h2,fQ];simp; omega
 ·intro h1 h2;simp only [aW,iq,tg h2,xp h1 js hj,dZ,h1,h2,fR,eO];simp; omega
theorem LY {A:Nat → Bool} {y:ab} (hy:oU y) {k:Int} {n:Nat} (hn:n ≤ 4) {js:List b8} (hj:∀ j ∈ js,eS n j) (hl:js.length ≤ 10) :
  fQ A n y k js ≤ 14000000 ∧ -14000000 ≤ fR A n y k js:=by
 have h1:=(da (A:=A) (g:=fun a=>loC (aB y.first k a)) (c:=1000000) (by omega) (fun a=>(bx hy.first k a).1) n).2;have h2:=(da (A:=A) (g:=fun a=>hiC (aB y.first k a)) (c:=1000000) (by omega) (fun a=>(bx hy.first k a).2.1) n).1;have h3:=xV (A:=A) js hj;unfold fQ fR;omega
theorem yA {y:ab} (hy:oU y) {k:Int} {n:Nat} (hn:n ≤ 4) {js:List b8} (hj:∀ j ∈ js,eS n j) (hl:js.length ≤ 10) :
  (∃ f,bE (n + 2) (aW y k n js (-aw) aw) f) ↔ ∀ A,dc A n y k js = 0 ∧ bz A n y k js = 0:=by
 rw [sj (AV hy k hj (by simp [aw]))];constructor
 ·intro h A;constructor
  ·have hS:=iQ (A:=A) (B:=fun x=>decide (x < n) && A x) (n:=n) (fun a ha=>by simp [ha]) y k hj;rw [hS.1];generalize hB:(fun x=>decide (x < n) && A x) = B;have hBn:B n = false:=by rw [← hB]; simp
   have hBn1:B (n + 1) = false:=by
    rw [← hB];show (decide (n + 1 < n) && A (n + 1)) = false;rw [decide_eq_false (by omega)]; rfl
   have h1:=h B;rw [(jo hj).1 hBn hBn1] at h1;unfold dc;split
   ·rename_i hw;rw [jt hw] at h1; omega
   ·rfl
  ·have hS:=iQ (A:=A) (B:=fun x=>!(decide (n ≤ x) || !A x)) (n:=n) (fun a ha=>by simp; omega) y k hj;rw [hS.2];generalize hB:(fun x=>decide (n ≤ x) || !A x) = B;have hBn:B n = true:=by rw [← hB]; simp
   have hBn1:B (n + 1) = true:=by rw [← hB]; simp
   have h1:=h B;rw [(jo hj).2 hBn hBn1] at h1;have e:(fun x=>!(decide (n ≤ x) || !A x)) = fun x=>!B x:=by rw [← hB]
   rw [e];unfold bz;omega
 ·intro h S;have hb:=fun A=>LY (A:=A) hy (k:=k) hn hj hl;cases h1:S n <;> cases h2:S (n + 1)
  ·rw [(jo hj).1 h1 h2];have h3:=(h S).1;unfold dc at h3
   split at h3
   ·rename_i hw; rw [jt hw]; omega
   ·rename_i hw;have h4:=pA hy (k:=k) (A:=S) (n:=n) (by simpa using hw);have h5:=(hb S).1;unfold aw at h4;omega
  ·-- the hub, not the outside
   have e:dZ S (aW y k n js (-aw) aw) = dL (fun x=>!S x) n (fun a=>loC (aB y.last k a)) - dL (fun x=>!S x) n (fun a=>hiC (aB y.first k a)) + bO (jLo S) js - aw:=by
    simp only [aW,iq,tg h2,An h1 js hj,dZ,h1,h2];simp; omega
   have a1:=(da (A:=fun x=>!S x) (g:=fun a=>loC (aB y.last k a)) (c:=1000000) (by omega) (fun a=>(bx hy.last k a).1) n).2;have a2:=(da (A:=fun x=>!S x) (g:=fun a=>hiC (aB y.first k a)) (c:=1000000) (by omega) (fun a=>(bx hy.first k a).2.1) n).1;have a3:=xV (A:=S) js hj;rw [e];unfold aw;omega
  ·have e:dZ S (aW y k n js (-aw) aw) = dL S n (fun a=>loC (aB y.first k a)) - dL S n (fun a=>dh y k a) - bO (jHi fun x=>!S x) js - aw:=by
    simp only [aW,iq,vF h2,xp h1 js hj,dZ,h1,h2];simp; omega
   have a1:=(da (A:=S) (g:=fun a=>loC (aB y.first k a)) (c:=1000000) (by omega) (fun a=>(bx hy.first k a).1) n).2;have a2:=(da (A:=S) (g:=fun a=>dh y k a) (c:=aw) (by simp [aw]) (fun a=>⟨(ko hy k a).2.1,(ko hy k a).2.2.1⟩) n).1;have a3:=xV (A:=fun x=>!S x) js hj;rw [e];unfold aw at *;omega
  ·rw [(jo hj).2 h1 h2];have h3:=(h fun x=>!S x).2;unfold bz at h3;omega
/-! ### places az bits -/
def bh (P:Nat):Nat → Bool:=fun a=>P.testBit a
theorem Ap (A:Nat → Bool):∀ n, ∃ P,P < 2 ^ n ∧ ∀ a,a < n → bh P a = A a
 | 0=>⟨0,by simp,fun a h=>by omega⟩
 | n + 1=>by
  obtain ⟨P,h1,h2⟩:=Ap A n;cases hA:A n
  ·refine ⟨P,by rw [Nat.pow_succ]; omega,fun a ha=>?_⟩;rcases Nat.lt_or_ge a n with h | h
   ·exact h2 a h
   ·obtain rfl:a = n:=by omega
    rw [hA]; exact Nat.testBit_lt_two_pow h1
  ·refine ⟨2 ^ n + P,by rw [Nat.pow_succ]; omega,fun a ha=>?_⟩;unfold bh at h2 ⊢;rcases Nat.lt_or_ge a n with h | h
   ·rw [Nat.testBit_two_pow_add_gt h]; exact h2 a h
   ·obtain rfl:a = n:=by omega
    rw [hA,Nat.testBit_two_pow_add_eq,Nat.testBit_lt_two_pow h1]; rfl
theorem Gw (n:Nat) (y:ab) (k:Int) (js:List b8):dc (bh 0) n y k js = 0 ∧ bz (bh 0) n y k js = 0:=by
 have hb:bh 0 = fun _=>false:=by funext a; simp [bh]
 have hs:∀ g n,dL (fun _=>false) n g = 0:=fun g n=>by unfold dL; simp [eV]
 have hj:∀ js,bO (jLo fun _=>false) js = 0 ∧ bO (jHi fun _=>false) js = 0:=by
  intro js
  induction js with
  | nil=>exact ⟨rfl,rfl⟩
  | cons j r ih=>simp [bO,jLo,jHi,amg,ih]
 rw [hb];unfold dc bz fQ fR eO fb;simp only [hs,(hj js).1,(hj js).2];simp
theorem zO {y:ab} (hy:oU y) {k:Int} {n:Nat} (hn:n ≤ 4) {js:List b8} (hj:∀ j ∈ js,eS n j) (hl:js.length ≤ 10) :
  (∃ f,bE (n + 2) (aW y k n js (-aw) aw) f) ↔ ∀ P,1 ≤ P → P < 2 ^ n → dc (bh P) n y k js = 0 ∧ bz (bh P) n y k js = 0:=by
 rw [yA hy hn hj hl];constructor
 ·intro h P _ _;exact h _
 ·intro h A;obtain ⟨P,h1,h2⟩:=Ap A n;have hc:=iQ (A:=A) (B:=bh P) (n:=n) (fun a ha=>(h2 a ha).symm) y k hj;rw [hc.1,hc.2];rcases Nat.eq_zero_or_pos P with h0 | h0
  ·subst h0; exact Gw n y k js
  ·exact h P h0 h1
end Go.AM
