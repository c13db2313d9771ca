/- Small functions of chapter 05: beyond, Name, Range and their like. Ways between nodes, and what goes on them: if no set of nodes is bound to have more come to it than can go from it, something can .. -/
import Derived.Test.YtlmhkldmpggadaaGreatDoorG05
import Derived.Test.YtlmhkldmpggadaaGreatDoorP15
namespace Go.AM
open Go.Proofs
set_option maxRecDepth 100000
abbrev ii' (n:Int):ag:=.int .i64 n
theorem aw {n:Int} (h:-9223372036854775808 ≤ n) (h2:n ≤ 9223372036854775807):IntKind.i64.wrap n = n:=by rw [IntKind.wrap_i64]; omega
theorem aC {α:Type} {f:α → ag} (h:∀ a,(f a).pure = true):∀ l:List α,aG (l.map f) = true
 | []=>rfl
 | a :: l=>by simp only [List.map_cons,aG,h a,aC h l,Bool.and_self]
theorem ah.of {P:Program} {fv:ag} {args:List ag} {σ:af} {v:ag} {K Kp:ag → af → Prop} (hs:aH P fv args σ fun r σ'=>r = .ret v ∧ σ' = σ) (hq:K v σ):@ah P fv args σ ⟨K⟩ ⟨Kp⟩:=
 hs.mono (by rintro r σ' ⟨rfl,rfl⟩; exact hq)
theorem tf (b:Bool):b = false ∨ b = true:=by cases b <;> simp
@[simp] theorem O7 {α:Type} (σ l:List α):(σ ++ l)[σ.length]? = l[0]?:=by simp [List.getElem?_append_right]
@[simp] theorem LP {α:Type} (σ l:List α) (n:Nat):(σ ++ l)[σ.length + n]? = l[n]?:=by rw [List.getElem?_append_right (by omega)]; congr 1; omega
@[simp] theorem LU {α:Type} (σ l:List α) (x:α):(σ ++ l).set σ.length x = σ ++ l.set 0 x:=by rw [List.set_append_right _ _ (by omega)]; simp
@[simp] theorem Lz {α:Type} (σ l:List α) (x:α) (n:Nat):(σ ++ l).set (σ.length + n) x = σ ++ l.set n x:=by rw [List.set_append_right _ _ (by omega)]; congr 2; omega
def mM (P:Program) (fv:ag) (args:List ag) (v:ag):Prop:=∀ σ,aH P fv args σ fun r σ'=>r = .ret v ∧ σ' = σ
theorem mM.fn {P:Program} {f:FuncId} (hb:au P f = true) {first caps args:List ag} {v:ag} (hs:∀ σ,Spec P f (first ++ args ++ caps) σ fun r σ'=>r = .ret v ∧ σ' = σ):mM P (.func (.func f) first caps) args v:=
 fun σ=>aH.func hb (hs σ)
/-! ### beyond -/
def Ez (lo hi n:Int):Bool:=decide (n < lo) || decide (hi < n)
def oe (lo hi:Int) (l:List Int):Bool:=l.any (Ez lo hi)
def fT {α:Type} (p:α → Bool):List α → Nat → Int
 | [],_=>-1
 | a :: r,i=>if p a then i else fT p r (i + 1)
theorem CW {α:Type} (p:α → Bool):∀ (l:List α) (i:Nat),0 ≤ fT p l i ↔ l.any p = true
 | [],i=>by simp [fT]
 | a :: r,i=>by
  have ih:=CW p r (i + 1);have e:fT p (a :: r) i = if p a then (i:Int) else fT p r (i + 1):=rfl;rw [e,List.any_cons];by_cases h:p a = true
  ·rw [if_pos h,h]; simp
  ·rw [if_neg h];have h':p a = false:=by simpa using h
   rw [h',ih]; simp
theorem uI {α:Type} (p:α → Bool) (l:List α) (i:Nat):decide (0 ≤ fT p l i) = l.any p:=by
 rw [Bool.eq_iff_iff,decide_eq_true_iff]; exact CW p l i
theorem j4 (g:FuncId) (caps:List ag) (hp:aG caps = true) (p:Int → Bool) (l:List Int) (hl:l.length ≤ maxLen) (hf:∀ x ∈ l,mM Tryz.prog (.func (.func g) [] caps) [ii' x] (.bool (p x))) (σ:af) :
  Spec Tryz.prog GO [.slice 1 (l.map ii'), .func (.func g) [] caps] σ fun r σ'=>r = .ret (.int .i64 (fT p l 0)) ∧ σ' = σ:=by
 refine Spec.aI (LA (by simp) (aa _ ?_)) (by simp [hp,aC (f:=ii') (fun _=>rfl) l]) rfl σ;simp [Jw];refine AW.loop (ι:=Nat) (fun i fr σ=>fr = { v:=[(0, .slice 1 (l.map ii')),(1, .func (.func g) [] caps),(7, .int .i64 l.length),(8, .int .i64 i)],ds:=[] } ∧ i ≤ l.length ∧ fT p l 0 = fT p (l.drop i) i) (fun i=>l.length - i) 0 (by simp) ?_;rintro i fr σ ⟨rfl,hi,hpi⟩;refine aa _ ?_;simp;refine ⟨fun hlt=>?_,fun hge=>?_⟩
 ·have hd:l.drop i = l[i] :: l.drop (i + 1):=List.drop_eq_getElem_cons hlt;rw [hd] at hpi;simp [fT] at hpi;simp [hlt];refine ah.of (hf l[i] (List.getElem_mem _) σ) ?_;simp;refine ⟨fun he=>by rw [hpi,if_pos he],fun he=>⟨i + 1,by omega,aw (by omega) (by simp only [maxLen] at hl; omega),by omega,by rw [hpi,if_neg (by simp [he])]⟩⟩
 ·have:l.drop i = []:=List.drop_eq_nil_of_le hge;rw [hpi,this]; rfl
theorem iL (g:FuncId) (caps:List ag) (hp:aG caps = true) (p:Int → Bool) (l:List Int) (hl:l.length ≤ maxLen) (hf:∀ x ∈ l,mM Tryz.prog (.func (.func g) [] caps) [ii' x] (.bool (p x))) (σ:af) :
  Spec Tryz.prog Hh [.slice 1 (l.map ii'), .func (.func g) [] caps] σ fun r σ'=>r = .ret (.bool (l.any p)) ∧ σ' = σ:=by
 refine Spec.aI (Nf (by simp) (aa _ ?_)) (by simp [hp,aC (f:=ii') (fun _=>rfl) l]) rfl σ;simp [IJ];refine ah.pure Ly (j4 g caps hp p l hl hf _) ?_;simp [uI]
structure aF where
 src:Nat
 dst:Nat
 low:Int
 high:Int
def InB (es:List aF) (f:Nat → Int):Prop:=∀ i (h:i < es.length),es[i].low ≤ f i ∧ f i ≤ es[i].high
def bm (n:Nat):List aF → Nat → (Nat → Int) → Int
 | [],_,_=>0
 | e :: r,i,f=>(if e.dst = n then f i else 0) - (if e.src = n then f i else 0) + bm n r (i + 1) f
def eU (N:Nat) (g:Nat → Int):Int:=match N with
 | 0=>0
 | N + 1=>eU N g + g N
theorem zr (g h:Nat → Int):∀ N,eU N (fun n=>g n + h n) = eU N g + eU N h
 | 0=>rfl
 | N + 1=>by simp only [eU,zr g h N]; omega
theorem nf (g h:Nat → Int):∀ N,eU N (fun n=>g n - h n) = eU N g - eU N h
 | 0=>rfl
 | N + 1=>by simp only [eU,nf g h N]; omega
theorem fV:∀ N,eU N (fun _=>0) = 0
 | 0=>rfl
 | N + 1=>by simp only [eU,fV N]; omega
theorem fQ {g h:Nat → Int}:∀ N,(∀ n,n < N → g n = h n) → eU N g = eU N h
 | 0,_=>rfl
 | N + 1,hh=>by simp only [eU]; rw [fQ N fun n hn=>hh n (by omega),hh N (by omega)]
theorem yj {g h:Nat → Int}:∀ N,(∀ n,n < N → g n ≤ h n) → eU N g ≤ eU N h
 | 0,_=>Int.le_refl _
 | N + 1,hh=>by
  simp only [eU];have h1:=yj N fun n hn=>hh n (by omega);have h2:=hh N (by omega);omega
theorem qK (a:Nat) (v:Int):∀ N,eU N (fun n=>if a = n then v else 0) = if a < N then v else 0
 | 0=>by simp [eU]
 | N + 1=>by
  simp only [eU,qK a v N];by_cases h1:a < N
  ·rw [if_pos h1,if_neg (by omega),if_pos (by omega)]; omega
  ·by_cases h2:a = N
   ·rw [if_neg h1,if_pos h2,if_pos (by omega)]; omega
   ·rw [if_neg h1,if_neg h2,if_neg (by omega)]; omega
theorem qS {g:Nat → Int} {a:Nat}:∀ {N},(∀ n,n < N → 0 ≤ g n) → a < N → g a ≤ eU N g
 | 0,_,h=>by omega
 | N + 1,hh,h=>by
  simp only [eU];by_cases h1:a < N
  ·have:=qS (fun n hn=>hh n (by omega)) h1;have:=hh N (by omega); omega
  ·obtain rfl:a = N:=by omega
   have:0 ≤ eU a g:=by
    have:=yj (g:=fun _=>0) (h:=g) a fun n hn=>hh n (by omega)
    rwa [fV] at this
   omega
def dI (S:Nat → Bool):List aF → Int
 | []=>0
 | e :: r=>(if S e.dst && !S e.src then e.low else 0) - (if S e.src && !S e.dst then e.high else 0) + dI S r
def eO (S:Nat → Bool):List aF → Nat → (Nat → Int) → Int
 | [],_,_=>0
 | e :: r,i,f=>(if S e.dst && !S e.src then f i else 0) - (if S e.src && !S e.dst then f i else 0) + eO S r (i + 1) f
theorem oz (S:Nat → Bool) (N:Nat) (f:Nat → Int):∀ (es:List aF) (i:Nat),(∀ e ∈ es,e.src < N ∧ e.dst < N) → eU N (fun n=>if S n then bm n es i f else 0) = eO S es i f
 | [],i,_=>by
  simp only [bm,eO];rw [fQ (h:=fun _=>0) N fun n _=>by split <;> rfl,fV]
 | e :: r,i,h=>by
  obtain ⟨h1,h2⟩:=h e (by simp);have ih:=oz S N f r (i + 1) fun x hx=>h x (by simp [hx]);simp only [bm,eO, ← ih];rw [fQ (h:=fun n=>((if e.dst = n then (if S e.dst then f i else 0) else 0) - (if e.src = n then (if S e.src then f i else 0) else 0)) + (if S n then bm n r (i + 1) f else 0)) N ?_,zr,nf,qK,qK,if_pos h2,if_pos h1]
  ·cases hs:S e.src <;> cases hd:S e.dst <;> simp <;> omega
  ·intro n _;by_cases a1:e.dst = n <;> by_cases a2:e.src = n
   ·subst a1; rw [a2]; cases hd:S e.dst <;> simp
   ·subst a1; cases hd:S e.dst <;> simp [a2]
   ·subst a2; cases hd:S e.src <;> simp [a1]
   ·cases hd:S n <;> simp [a1,a2]
theorem AJ (S:Nat → Bool):∀ (es:List aF) (i:Nat) (f:Nat → Int),(∀ k (h:k < es.length),es[k].low ≤ f (i + k) ∧ f (i + k) ≤ es[k].high) → dI S es ≤ eO S es i f
 | [],_,_,_=>by simp [dI,eO]
 | e :: r,i,f,h=>by
  have h0:=h 0 (by simp);simp only [List.getElem_cons_zero,Nat.add_zero] at h0;have ih:=AJ S r (i + 1) f fun k hk=>by
   have:=h (k + 1) (by simp; omega);simp only [List.getElem_cons_succ] at this;rw [show i + 1 + k = i + (k + 1) by omega]; exact this
  simp only [dI,eO];cases hs:S e.src <;> cases hd:S e.dst <;> simp <;> omega
theorem Ay (S:Nat → Bool):∀ (es:List aF) (i:Nat) (f:Nat → Int),(∀ k (h:k < es.length),(S es[k].dst = true → S es[k].src = false → f (i + k) = es[k].low) ∧ (S es[k].src = true → S es[k].dst = false → f (i + k) = es[k].high)) → eO S es i f = dI S es
 | [],_,_,_=>by simp [dI,eO]
 | e :: r,i,f,h=>by
  have h0:=h 0 (by simp);simp only [List.getElem_cons_zero,Nat.add_zero] at h0;have ih:=Ay S r (i + 1) f fun k hk=>by
   have:=h (k + 1) (by simp; omega);simp only [List.getElem_cons_succ] at this;rw [show i + 1 + k = i + (k + 1) by omega]; exact this
  simp only [dI,eO,ih];cases hs:S e.src <;> cases hd:S e.dst <;> simp [hs,hd] at h0 ⊢
  ·omega
  ·omega
/-! ### steps, and lines of them -/
def eI (es:List aF) (f:Nat → Int) (k:Int) (i a c:Nat):Prop:=
 ∃ h:i < es.length,(es[i].src = a ∧ es[i].dst = c ∧ f i + k ≤ es[i].high) ∨ (es[i].dst = a ∧ es[i].src = c ∧ es[i].low ≤ f i - k)
inductive cP (es:List aF) (f:Nat → Int) (k:Int) (P:Nat → Prop) (b:Nat):Nat → List Nat → Prop
 | nil:cP es f k P b b [b]
 | cons {i a c l}:eI es f k i a c → P i → cP es f k P b c l → a ∉ l → cP es f k P b a (a :: l)
theorem cP.suffix {es:List aF} {f:Nat → Int} {k:Int} {P:Nat → Prop} {b y x:Nat} {l:List Nat} (h:cP es f k P b y l) (hx:x ∈ l):∃ l',cP es f k P b x l':=by
 induction h with
 | nil=>rw [List.mem_singleton.1 hx]; exact ⟨_, .nil⟩
 | cons h1 hp h2 h3 ih=>
  rcases List.mem_cons.1 hx with rfl | hx
  ·exact ⟨_, .cons h1 hp h2 h3⟩
  ·exact ih hx
theorem cP.step {es:List aF} {f:Nat → Int} {k:Int} {P:Nat → Prop} {b x y i:Nat} {l:List Nat} (h:cP es f k P b y l) (hs:eI es f k i x y) (hp:P i):∃ l',cP es f k P b x l':=by
 by_cases hx:x ∈ l
 ·exact h.suffix hx
 ·exact ⟨_, .cons hs hp h hx⟩
def cB (f:Nat → Int) (i:Nat) (v:Int):Nat → Int:=fun j=>if j = i then f j + v else f j
theorem gP (n:Nat) (f:Nat → Int) (i:Nat) (v:Int):∀ (es:List aF) (j:Nat),bm n es j (cB f i v) = bm n es j f + (if h:j ≤ i ∧ i < j + es.length then (if (es[i - j]'(by omega)).dst = n then v else 0) - (if (es[i - j]'(by omega)).src = n then v else 0) else 0)
 | [],j=>by
  simp only [bm,List.length_nil];rw [dif_neg (by omega)]; omega
 | e :: r,j=>by
  have ih:=gP n f i v r (j + 1);simp only [bm,ih];by_cases hji:j = i
  ·subst hji;rw [dif_neg (by omega),dif_pos (by simp)];simp only [cB,if_pos,Nat.sub_self,List.getElem_cons_zero];by_cases a1:e.dst = n <;> by_cases a2:e.src = n <;> simp [a1,a2] <;> omega
  ·have ha:cB f i v j = f j:=by unfold cB; rw [if_neg hji]
   rw [ha];by_cases hr:j + 1 ≤ i ∧ i < j + 1 + r.length
   ·rw [dif_pos hr,dif_pos (by simp only [List.length_cons]; omega)];have e1:i - j = (i - (j + 1)) + 1:=by omega
    simp only [e1,List.getElem_cons_succ];omega
   ·rw [dif_neg hr,dif_neg (by simp only [List.length_cons]; omega)];omega
theorem cP.push {es:List aF} {f:Nat → Int} {k:Int} (hk:0 ≤ k) {P:Nat → Prop} {a b:Nat} {l:List Nat} (h:cP es f k P b a l) (hb:InB es f) (hne:∀ e ∈ es,e.src ≠ e.dst) :
  ∃ f',InB es f' ∧ (∀ n,bm n es 0 f' = bm n es 0 f - (if n = a then k else 0) + (if n = b then k else 0)) ∧ ∀ j,f' j ≠ f j → P j ∧ ∃ h:j < es.length,es[j].src ∈ l ∧ es[j].dst ∈ l:=by
 induction h with
 | nil=>exact ⟨f,hb,fun n=>by omega,fun j hj=>absurd rfl hj⟩
 | @cons i a c l hs hp hl ha ih=>
  obtain ⟨f',h1,h2,h3⟩:=ih;obtain ⟨hi,hs⟩:=hs;have hcl:c ∈ l:=by cases hl <;> simp
  have hfi:f' i = f i:=by
   by_cases e:f' i = f i
   ·exact e
   ·obtain ⟨_,_,h4,h5⟩:=h3 i e;rcases hs with ⟨e1,_,_⟩ | ⟨e1,_,_⟩
    ·rw [e1] at h4; exact absurd h4 ha
    ·rw [e1] at h5; exact absurd h5 ha
  have hni:=hne es[i] (List.getElem_mem hi);have hch:∀ j, ∀ v,cB f' i v j ≠ f j → P j ∧ ∃ h:j < es.length,es[j].src ∈ a :: l ∧ es[j].dst ∈ a :: l:=by
   intro j v hj;by_cases e:j = i
   ·subst e;refine ⟨hp,hi, ?_⟩;rcases hs with ⟨e1,e2,_⟩ | ⟨e1,e2,_⟩ <;> rw [e1,e2] <;> simp [hcl]
   ·unfold cB at hj;rw [if_neg e] at hj;obtain ⟨q1,q2,q3,q4⟩:=h3 j hj;exact ⟨q1,q2,List.mem_cons_of_mem _ q3,List.mem_cons_of_mem _ q4⟩
  rcases hs with ⟨e1,e2,e3⟩ | ⟨e1,e2,e3⟩
  ·refine ⟨cB f' i k,fun j hj=>?_,fun n=>?_,fun j=>hch j k⟩
   ·have:=h1 j hj;unfold cB;split
    ·rename_i e; subst e; rw [hfi] at this ⊢; omega
    ·exact this
   ·rw [gP,h2 n,dif_pos (by omega)];simp only [Nat.sub_zero,e1,e2];rw [e1,e2] at hni;by_cases n1:n = a <;> by_cases n2:n = c
    ·omega
    ·simp [n1,Ne.symm hni]; omega
    ·simp [n2,hni,Ne.symm hni]; omega
    ·rw [if_neg (Ne.symm n2),if_neg (Ne.symm n1),if_neg n2,if_neg n1]; omega
  ·refine ⟨cB f' i (-k),fun j hj=>?_,fun n=>?_,fun j=>hch j (-k)⟩
   ·have:=h1 j hj;unfold cB;split
    ·rename_i e; subst e; rw [hfi] at this ⊢; omega
    ·exact this
   ·rw [gP,h2 n,dif_pos (by omega)];simp only [Nat.sub_zero,e1,e2];rw [e1,e2] at hni;by_cases n1:n = a <;> by_cases n2:n = c
    ·omega
    ·simp [n1,hni]; omega
    ·simp [n2,hni,Ne.symm hni]; omega
    ·rw [if_neg (Ne.symm n1),if_neg (Ne.symm n2),if_neg n2,if_neg n1]; omega
structure bz (N:Nat) (es:List aF) (f:Nat → Int):Prop where
 inb:InB es f
 net:∀ n,n < N → bm n es 0 f = 0
structure fm (N:Nat) (es:List aF):Prop where
 src:∀ e ∈ es,e.src < N ∧ e.dst < N
 ne:∀ e ∈ es,e.src ≠ e.dst
 le:∀ e ∈ es,e.low ≤ e.high
theorem xQ:∀ (es:List aF) (i:Nat) (f:Nat → Int),eO (fun _=>true) es i f = 0
 | [],_,_=>rfl
 | e :: r,i,f=>by simp only [eO,xQ r (i + 1) f]; simp
theorem Du {N:Nat} {es:List aF} (h:fm N es) (f:Nat → Int):eU N (fun n=>bm n es 0 f) = 0:=by
 have:=oz (fun _=>true) N f es 0 h.src;rw [xQ] at this;simpa using this
theorem bz.cut {N:Nat} {es:List aF} {f:Nat → Int} (h:fm N es) (hc:bz N es f) (S:Nat → Bool):eO S es 0 f = 0 ∧ dI S es ≤ 0:=by
 have h1:=oz S N f es 0 h.src;rw [fQ (h:=fun _=>0) N (fun n hn=>by rw [hc.net n hn]; split <;> rfl),fV] at h1;have h2:=AJ S es 0 f fun k hk=>by rw [Nat.zero_add]; exact hc.inb k hk
 exact ⟨h1.symm,by omega⟩
theorem stuck {es:List aF} {f:Nat → Int} {P:Nat → Prop} {B:Nat → Prop} {S:Nat → Bool} (hS:∀ n,S n = true ↔ ¬ ∃ b l,B b ∧ cP es f 1 P b n l) (hb:InB es f) :
  ∀ k (h:k < es.length),P k → (S es[k].dst = true → S es[k].src = false → f k = es[k].low) ∧ (S es[k].src = true → S es[k].dst = false → f k = es[k].high):=by
 have hF:∀ n,S n = false → ∃ b l,B b ∧ cP es f 1 P b n l:=fun n hn=>Classical.byContradiction fun hc=>by
  rw [(hS n).2 hc] at hn; cases hn
 intro k h hp;have hk:=hb k h;refine ⟨fun h1 h2=>?_,fun h1 h2=>?_⟩
 ·obtain ⟨b,l,h3,h4⟩:=hF _ h2;by_cases e:f k = es[k].low
  ·exact e
  ·obtain ⟨l',h5⟩:=h4.step (x:=es[k].dst) (i:=k) ⟨h, .inr ⟨rfl,rfl,by omega⟩⟩ hp;exact absurd ⟨b,l',h3,h5⟩ ((hS _).1 h1)
 ·obtain ⟨b,l,h3,h4⟩:=hF _ h2;by_cases e:f k = es[k].high
  ·exact e
  ·obtain ⟨l',h5⟩:=h4.step (x:=es[k].src) (i:=k) ⟨h, .inl ⟨rfl,rfl,by omega⟩⟩ hp;exact absurd ⟨b,l',h3,h5⟩ ((hS _).1 h1)
theorem Cc (Q:Nat → Prop):∃ S:Nat → Bool, ∀ n,S n = true ↔ Q n:=
 ⟨fun n=>@decide (Q n) (Classical.propDecidable _),fun _n=>@decide_eq_true_iff _ (Classical.propDecidable _)⟩
theorem xr {N:Nat} {es:List aF} (h:fm N es) {f:Nat → Int} (hb:InB es f) {a:Nat} (ha:a < N) (h0:0 < bm a es 0 f)
  (hn:¬ ∃ b l,(b < N ∧ bm b es 0 f < 0) ∧ cP es f 1 (fun _=>True) b a l):∃ S,S a = true ∧ 0 < dI S es:=by
 obtain ⟨S,hS⟩:=Cc fun n=>¬ ∃ b l,(b < N ∧ bm b es 0 f < 0) ∧ cP es f 1 (fun _=>True) b n l;have h1:=stuck (B:=fun b=>b < N ∧ bm b es 0 f < 0) hS hb;have h2:=Ay S es 0 f fun k hk=>by rw [Nat.zero_add]; exact h1 k hk trivial
 have h3:=oz S N f es 0 h.src;have h4:∀ n,n < N → 0 ≤ (if S n then bm n es 0 f else 0):=fun n hnN=>by
  split
  ·rename_i hs;rcases Int.lt_or_le (bm n es 0 f) 0 with hlt | hge
   ·exact absurd ⟨n,_,⟨hnN,hlt⟩, .nil⟩ ((hS n).1 hs)
   ·exact hge
  ·omega
 have h5:=qS h4 ha;rw [if_pos ((hS a).2 hn)] at h5;exact ⟨S,(hS a).2 hn,by omega⟩
def Fk (N:Nat) (es:List aF) (f:Nat → Int):Int:=eU N fun n=>max (bm n es 0 f) 0
theorem Ic (N:Nat) (es:List aF) (f:Nat → Int):0 ≤ Fk N es f:=by
 have:=yj (g:=fun _=>0) (h:=fun n=>max (bm n es 0 f) 0) N fun n _=>by omega
 rwa [fV] at this
theorem zn {N:Nat} {es:List aF} (h:fm N es) (hc:∀ S,dI S es ≤ 0):∀ (p:Nat) (f:Nat → Int),InB es f → Fk N es f ≤ p → ∃ g,bz N es g
 | p,f,hb,hp=>by
  by_cases ha:∃ a,a < N ∧ 0 < bm a es 0 f
  ·obtain ⟨a,haN,h0⟩:=ha;by_cases hl:∃ b l,(b < N ∧ bm b es 0 f < 0) ∧ cP es f 1 (fun _=>True) b a l
   ·obtain ⟨b,l,⟨hbN,hb0⟩,hl⟩:=hl;obtain ⟨f',h1,h2,_⟩:=hl.push (by omega) hb h.ne;have hpp:Fk N es f' = Fk N es f - 1:=by
     unfold Fk;rw [fQ (h:=fun n=>max (bm n es 0 f) 0 - (if a = n then 1 else 0)) N fun n _=>?_,nf,qK,if_pos haN];rw [h2 n];by_cases e1:n = a
     ·subst e1;have hnb:¬ n = b:=fun e=>by rw [e] at h0; omega
      simp [hnb]; omega
     ·rw [if_neg e1,if_neg (Ne.symm e1)];by_cases e2:n = b
      ·subst e2; rw [if_pos rfl]; omega
      ·rw [if_neg e2]; omega
    have hnn:=Ic N es f'
    cases p with
    | zero=>omega
    | succ p=>exact zn h hc p f' h1 (by omega)
   ·obtain ⟨S,_,hS⟩:=xr h hb haN h0 hl;have:=hc S;omega
  ·refine ⟨f,hb,fun n hn=>?_⟩;have hle:∀ n,n < N → bm n es 0 f ≤ 0:=fun n hn=>by
    rcases Int.lt_or_le 0 (bm n es 0 f) with h1 | h1
    ·exact absurd ⟨n,hn,h1⟩ ha
    ·exact h1
   have h1:=qS (g:=fun n=>0 - bm n es 0 f) (fun n hn=>by have:=hle n hn; omega) hn;rw [nf,fV,Du h] at h1;have:=hle n hn;omega
theorem ry {N:Nat} {es:List aF} (h:fm N es):(∃ f,bz N es f) ↔ ∀ S,dI S es ≤ 0:=by
 refine ⟨fun ⟨f,hf⟩ S=>(hf.cut h S).2,fun hc=>?_⟩;have hb:InB es fun i=>if h:i < es.length then es[i].low else 0:=fun i hi=>by
  simp only [dif_pos hi];exact ⟨Int.le_refl _,h.le _ (List.getElem_mem hi)⟩
 exact zn h hc _ _ hb (Int.self_le_toNat _)
/-! ### the ends of what can go on a way -/
def uQ (S:Nat → Bool) (e:aF) (v:Int):Int:=(if S e.dst && !S e.src then v else 0) - (if S e.src && !S e.dst then v else 0)
theorem vF (S:Nat → Bool) {i0:Nat}:∀ (es:List aF) (i:Nat) (f g:Nat → Int),
  (∀ k (h:k < es.length),i + k ≠ i0 → (S es[k].dst = true → S es[k].src = false → f (i + k) = es[k].low) ∧ (S es[k].src = true → S es[k].dst = false → f (i + k) = es[k].high)) →
  (∀ k (h:k < es.length),es[k].low ≤ g (i + k) ∧ g (i + k) ≤ es[k].high) →
  eO S es i f - (if h:i ≤ i0 ∧ i0 < i + es.length then uQ S (es[i0 - i]'(by omega)) (f i0) else 0) ≤ eO S es i g - (if h:i ≤ i0 ∧ i0 < i + es.length then uQ S (es[i0 - i]'(by omega)) (g i0) else 0)
 | [],i,f,g,_,_=>by
  simp only [eO,List.length_nil];rw [dif_neg (by omega),dif_neg (by omega)]; omega
 | e :: r,i,f,g,h,hg=>by
  have ih:=vF S (i0:=i0) r (i + 1) f g (fun k hk hne=>by
   have:=h (k + 1) (by simp; omega) (by omega);simp only [List.getElem_cons_succ] at this
   rw [show i + 1 + k = i + (k + 1) by omega]; exact this) (fun k hk=>by
   have:=hg (k + 1) (by simp; omega);simp only [List.getElem_cons_succ] at this
   rw [show i + 1 + k = i + (k + 1) by omega]; exact this)
  have h0:=h 0 (by simp);have hg0:=hg 0 (by simp);simp only [List.getElem_cons_zero,Nat.add_zero] at h0 hg0;simp only [eO];by_cases hi:i = i0
  ·subst hi;rw [dif_neg (by omega),dif_neg (by omega)] at ih;rw [dif_pos (by simp),dif_pos (by simp)];simp only [Nat.sub_self,List.getElem_cons_zero,uQ];omega
  ·have hcmp:(if S e.dst && !S e.src then f i else 0) - (if S e.src && !S e.dst then f i else 0) ≤ (if S e.dst && !S e.src then g i else 0) - (if S e.src && !S e.dst then g i else 0):=by
    have h0:=h0 hi;cases hs:S e.src <;> cases hd:S e.dst <;> simp [hs,hd] at h0 ⊢
    ·omega
    ·omega
   by_cases hr:i + 1 ≤ i0 ∧ i0 < i + 1 + r.length
   ·rw [dif_pos hr,dif_pos hr] at ih;rw [dif_pos (by simp only [List.length_cons]; omega),dif_pos (by simp only [List.length_cons]; omega)];have e1:i0 - i = (i0 - (i + 1)) + 1:=by omega
    simp only [e1,List.getElem_cons_succ];omega
   ·rw [dif_neg hr,dif_neg hr] at ih;rw [dif_neg (by simp only [List.length_cons]; omega),dif_neg (by simp only [List.length_cons]; omega)];omega
theorem EP {N:Nat} {es:List aF} (h:fm N es) {f g:Nat → Int} (hf:bz N es f) (hg:bz N es g) {i0:Nat} (hi:i0 < es.length)
  (hn:¬ ∃ l,cP es f 1 (fun i=>i ≠ i0) es[i0].dst es[i0].src l):f i0 ≤ g i0:=by
 obtain ⟨S,hS⟩:=Cc fun n=>¬ ∃ b l,b = es[i0].dst ∧ cP es f 1 (fun i=>i ≠ i0) b n l;have h1:=stuck (B:=fun b=>b = es[i0].dst) hS hf.inb;have hx:S es[i0].src = true:=(hS _).2 fun ⟨b,l,e,hl⟩=>hn ⟨l,e ▸ hl⟩;have hy:S es[i0].dst = false:=by
  cases hd:S es[i0].dst
  ·rfl
  ·exact absurd ⟨_,_,rfl, .nil⟩ ((hS _).1 hd)
 have h2:=vF S (i0:=i0) es 0 f g (fun k hk hne=>by rw [Nat.zero_add] at hne ⊢; exact h1 k hk hne) (fun k hk=>by rw [Nat.zero_add]; exact hg.inb k hk);rw [(hf.cut h S).1,(hg.cut h S).1,dif_pos (by omega),dif_pos (by omega)] at h2;simp only [Nat.sub_zero,uQ,hx,hy] at h2;simp at h2;omega
theorem Ga {N:Nat} {es:List aF} (h:fm N es) {f g:Nat → Int} (hf:bz N es f) (hg:bz N es g) {i0:Nat} (hi:i0 < es.length)
  (hn:¬ ∃ l,cP es f 1 (fun i=>i ≠ i0) es[i0].src es[i0].dst l):g i0 ≤ f i0:=by
 obtain ⟨S,hS⟩:=Cc fun n=>¬ ∃ b l,b = es[i0].src ∧ cP es f 1 (fun i=>i ≠ i0) b n l;have h1:=stuck (B:=fun b=>b = es[i0].src) hS hf.inb;have hx:S es[i0].dst = true:=(hS _).2 fun ⟨b,l,e,hl⟩=>hn ⟨l,e ▸ hl⟩;have hy:S es[i0].src = false:=by
  cases hd:S es[i0].src
  ·rfl
  ·exact absurd ⟨_,_,rfl, .nil⟩ ((hS _).1 hd)
 have h2:=vF S (i0:=i0) es 0 f g (fun k hk hne=>by rw [Nat.zero_add] at hne ⊢; exact h1 k hk hne) (fun k hk=>by rw [Nat.zero_add]; exact hg.inb k hk);rw [(hf.cut h S).1,(hg.cut h S).1,dif_pos (by omega),dif_pos (by omega)] at h2;simp only [Nat.sub_zero,uQ,hx,hy] at h2;simp at h2;omega
structure ay where
 kind:Int
 place:Int
 lo:Int
 hi:Int
structure aj where
 kind:Int
 src:Int
 dst:Int
 kilos:Int
 copy:Int
structure ab where
 kinds:List ByteArray
 places:List ByteArray
 first:List ay
 papers:List aj
 last:List ay
def aD (l:List ay) (k p:Int):Option ay:=l.find? fun c=>decide (c.kind = k) && decide (c.place = p)
def loC (o:Option ay):Int:=match o with
 | some c=>c.lo
 | none=>0
def hiC (o:Option ay):Int:=match o with
 | some c=>c.hi
 | none=>0
def ar:Int:=1099511627776
def ba (p:aj) (i:Nat):Bool:=decide (p.copy < 0) || decide ((i:Int) < p.copy)
def bA (y:ab) (i:Nat):Int:=match y.papers[i]? with
 | some p=>p.kilos
 | none=>0
def aY (y:ab) (wrong:List Nat) (p:aj) (i:Nat):Int × Int:=
 if p.copy < 0 then (if i ∈ wrong then (0,1000000) else (p.kilos,p.kilos))
 else if ¬ min i p.copy.toNat ∈ wrong then (bA y (min i p.copy.toNat),bA y (min i p.copy.toNat))
 else if ¬ max i p.copy.toNat ∈ wrong then (bA y (max i p.copy.toNat),bA y (max i p.copy.toNat))
 else (0,1000000)
structure cz where
 src:Int
 dst:Int
 lo:Int
 hi:Int
def dy (al:aj → Nat → Int × Int) (k:Int):List aj → Nat → List cz
 | [],_=>[]
 | p :: r,i=>if p.kind = k ∧ ba p i = true then ⟨p.src,p.dst,(al p i).1,(al p i).2⟩ :: dy al k r (i + 1) else dy al k r (i + 1)
/-! ### what places have -/
def amg (A:Nat → Bool) (at':Int):Bool:=decide (0 ≤ at') && A at'.toNat
def dK (A:Nat → Bool) (n:Nat) (g:Nat → Int):Int:=eU n fun a=>if A a then g a else 0
def jLo (A:Nat → Bool) (j:cz):Int:=(if amg A j.dst && !amg A j.src then j.lo else 0) - (if amg A j.src && !amg A j.dst then j.hi else 0)
def jHi (A:Nat → Bool) (j:cz):Int:=(if amg A j.dst && !amg A j.src then j.hi else 0) - (if amg A j.src && !amg A j.dst then j.lo else 0)
def cC (g:cz → Int):List cz → Int
 | []=>0
 | j :: r=>g j + cC g r
def jQ (A:Nat → Bool) (n:Nat) (y:ab) (k:Int) (js:List cz):Int:=dK A n (fun a=>loC (aD y.first k a)) + cC (jLo A) js
def jI (A:Nat → Bool) (n:Nat) (y:ab) (k:Int) (js:List cz):Int:=dK A n (fun a=>hiC (aD y.first k a)) + cC (jHi A) js
def gM (A:Nat → Bool) (n:Nat) (y:ab) (k:Int):Int:=dK A n fun a=>loC (aD y.last k a)
def iV (A:Nat → Bool) (n:Nat) (y:ab) (k:Int):Int:=dK A n fun a=>hiC (aD y.last k a)
def cL (A:Nat → Bool) (y:ab) (k:Int):Nat → Bool
 | 0=>true
 | n + 1=>cL A y k n && (!A n || (aD y.last k n).isSome)
def dM (A:Nat → Bool) (n:Nat) (y:ab) (k:Int) (js:List cz):Int:=if cL A y k n then max 0 (jQ A n y k js - iV A n y k) else 0
def bM (A:Nat → Bool) (n:Nat) (y:ab) (k:Int) (js:List cz):Int:=min 0 (jI A n y k js - gM A n y k)
/-! ### the ways -/
def dj (y:ab) (k:Int) (a:Nat):Int:=match aD y.last k a with
 | some c=>c.hi
 | none=>ar
def fU (n:Nat) (at':Int):Nat:=if at' < 0 then n else at'.toNat
def bS (y:ab) (k:Int) (n:Nat):Nat → List aF
 | 0=>[]
 | m + 1=>bS y k n m ++ [⟨n + 1,m,loC (aD y.first k m),hiC (aD y.first k m)⟩,⟨m,n + 1,loC (aD y.last k m),dj y k m⟩]
def cq (n:Nat) (j:cz):aF:=⟨fU n j.src,fU n j.dst,j.lo,j.hi⟩
def aU (y:ab) (k:Int) (n:Nat) (js:List cz) (lo hi:Int):List aF:=bS y k n n ++ js.map (cq n) ++ [⟨n,n + 1,lo,hi⟩]
theorem gq (S:Nat → Bool):∀ (l r:List aF),dI S (l ++ r) = dI S l + dI S r
 | [],r=>by simp [dI]
 | e :: l,r=>by simp only [List.cons_append,dI,gq S l r]; omega
def Big (x:Int):Prop:=0 ≤ x ∧ x ≤ 1000000
structure fp (n:Nat) (j:cz):Prop where
 src:-1 ≤ j.src ∧ j.src < n
 dst:-1 ≤ j.dst ∧ j.dst < n
 ne:j.src ≠ j.dst
 lo:Big j.lo
 hi:Big j.hi
 le:j.lo ≤ j.hi
structure Dt (c:ay):Prop where
 lo:Big c.lo
 hi:Big c.hi
 le:c.lo ≤ c.hi
structure mY (y:ab):Prop where
 n4:y.places.length ≤ 4
 first:∀ c ∈ y.first,Dt c
 last:∀ c ∈ y.last,Dt c
theorem bF {l:List ay} (h:∀ c ∈ l,Dt c) (k p:Int):Big (loC (aD l k p)) ∧ Big (hiC (aD l k p)) ∧ loC (aD l k p) ≤ hiC (aD l k p):=by
 unfold aD
 cases hf:l.find? fun c=>decide (c.kind = k) && decide (c.place = p) with
 | none=>exact ⟨⟨by simp [loC],by simp [loC]⟩,⟨by simp [hiC],by simp [hiC]⟩,by simp [loC,hiC]⟩
 | some c=>
  have:=h c (List.mem_of_find?_eq_some hf);exact ⟨this.lo,this.hi,this.le⟩
theorem jz {y:ab} (h:mY y) (k:Int) (a:Nat):hiC (aD y.last k a) ≤ dj y k a ∧ 0 ≤ dj y k a ∧ dj y k a ≤ ar ∧ loC (aD y.last k a) ≤ dj y k a:=by
 obtain ⟨h1,h2,h3⟩:=bF h.last k a;unfold dj
 cases hf:aD y.last k a with
 | none=>rw [hf] at h1 h2 h3; unfold Big at *; simp only [ar,loC,hiC] at *; omega
 | some c=>rw [hf] at h1 h2 h3; unfold Big at *; simp only [ar,loC,hiC] at *; omega
theorem Ap {S:Nat → Bool} {n:Nat} (hn:S n = false) {a:Int} (h:-1 ≤ a):S (fU n a) = amg S a:=by
 unfold fU amg;split
 ·rw [hn]; simp; omega
 ·have:decide (0 ≤ a) = true:=by simp; omega
  rw [this]; simp
theorem xq {S:Nat → Bool} {n:Nat} (hn:S n = true) {a:Int} (h:-1 ≤ a):S (fU n a) = !amg (fun x=>!S x) a:=by
 unfold fU amg;split
 ·rw [hn]; simp; omega
 ·have:decide (0 ≤ a) = true:=by simp; omega
  rw [this]; simp
theorem yq {S:Nat → Bool} {n:Nat} (hn:S n = false):∀ (js:List cz),(∀ j ∈ js,fp n j) → dI S (js.map (cq n)) = cC (jLo S) js
 | [],_=>rfl
 | j :: r,h=>by
  have hj:=h j (by simp);have ih:=yq hn r fun x hx=>h x (by simp [hx]);simp only [List.map_cons,dI,cC,ih,cq,jLo];rw [Ap hn hj.src.1,Ap hn hj.dst.1]
theorem vk {S:Nat → Bool} {n:Nat} (hn:S n = true):∀ (js:List cz),(∀ j ∈ js,fp n j) → dI S (js.map (cq n)) = - cC (jHi fun x=>!S x) js
 | [],_=>rfl
 | j :: r,h=>by
  have hj:=h j (by simp);have ih:=vk hn r fun x hx=>h x (by simp [hx]);simp only [List.map_cons,dI,cC,ih,cq,jHi];rw [xq hn hj.src.1,xq hn hj.dst.1];cases amg (fun x=>!S x) j.src <;> cases amg (fun x=>!S x) j.dst <;> simp <;> omega
theorem uf {S:Nat → Bool} {n:Nat} (hn:S (n + 1) = false) (y:ab) (k:Int):∀ m,dI S (bS y k n m) = dK S m (fun a=>loC (aD y.first k a)) - dK S m (fun a=>dj y k a)
 | 0=>rfl
 | m + 1=>by
  have ih:=uf hn y k m;simp only [bS,gq,ih,dI,hn,dK,eU];cases hm:S m <;> simp <;> omega
theorem qR {S:Nat → Bool} {n:Nat} (hn:S (n + 1) = true) (y:ab) (k:Int):∀ m,dI S (bS y k n m) = dK (fun x=>!S x) m (fun a=>loC (aD y.last k a)) - dK (fun x=>!S x) m (fun a=>hiC (aD y.first k a))
 | 0=>rfl
 | m + 1=>by
  have ih:=qR hn y k m;simp only [bS,gq,ih,dI,hn,dK,eU];cases hm:S m <;> simp <;> omega
theorem di {A:Nat → Bool} {g:Nat → Int} {c:Int} (hc:0 ≤ c) (h:∀ a,0 ≤ g a ∧ g a ≤ c):∀ n:Nat,0 ≤ dK A n g ∧ dK A n g ≤ n * c
 | 0=>by simp [dK,eU]
 | n + 1=>by
  obtain ⟨h1,h2⟩:=di (A:=A) hc h n;have h3:=h n;simp only [dK,eU] at h1 h2 ⊢;have e:((n + 1:Nat):Int) * c = n * c + c:=by rw [Int.natCast_add,Int.add_mul]; simp
  rw [e];cases A n <;> simp <;> omega
theorem vG {A:Nat → Bool} {n:Nat}:∀ js:List cz,(∀ j ∈ js,fp n j) → - (js.length * 1000000:Int) ≤ cC (jLo A) js ∧ cC (jLo A) js ≤ js.length * 1000000 ∧ - (js.length * 1000000:Int) ≤ cC (jHi A) js ∧ cC (jHi A) js ≤ js.length * 1000000
 | [],_=>by simp [cC]
 | j :: r,h=>by
  have ih:=vG (A:=A) r fun x hx=>h x (by simp [hx]);have hj:=h j (by simp);have h1:=hj.lo;have h2:=hj.hi;unfold Big at h1 h2;simp only [cC,jLo,jHi,List.length_cons];cases amg A j.src <;> cases amg A j.dst <;> simp <;> omega
theorem jT {A:Nat → Bool} {y:ab} {k:Int}:∀ {n},cL A y k n = true → dK A n (fun a=>dj y k a) = iV A n y k
 | 0,_=>rfl
 | n + 1,h=>by
  simp only [cL,Bool.and_eq_true] at h;have ih:=jT h.1;simp only [iV,dK,eU] at ih ⊢;rw [ih];have h2:=h.2;cases hA:A n
  ·simp
  ·rw [hA] at h2
   cases hf:aD y.last k n with
   | none=>rw [hf] at h2; simp at h2
   | some c=>simp [dj,hf,hiC]
theorem nV {A:Nat → Bool} {y:ab} (hy:mY y) {k:Int}:∀ {n},cL A y k n = false → ar ≤ dK A n (fun a=>dj y k a)
 | 0,h=>by simp [cL] at h
 | n + 1,h=>by
  have hnn:=(di (A:=A) (g:=fun a=>dj y k a) (c:=ar) (by simp [ar]) (fun a=>⟨(jz hy k a).2.1,(jz hy k a).2.2.1⟩) n).1;have h0:=(jz hy k n).2.1;simp only [cL,Bool.and_eq_false_iff] at h;rcases h with h | h
  ·have ih:=nV hy h;simp only [dK,eU] at ih ⊢;cases A n <;> simp <;> omega
  ·cases hA:A n
   ·rw [hA] at h; simp at h
   ·rw [hA] at h
    cases hf:aD y.last k n with
    | none=>
     have e:dj y k n = ar:=by simp [dj,hf]
     simp only [dK,eU] at hnn ⊢;rw [hA,e]; simp; omega
    | some c=>rw [hf] at h; simp at h
theorem cW {A B:Nat → Bool} (g:Nat → Int) {n:Nat} (h:∀ a,a < n → A a = B a):dK A n g = dK B n g:=
 fQ n fun a ha=>by rw [h a ha]
theorem iX {A B:Nat → Bool} {y:ab} {k:Int}:∀ {n:Nat},(∀ a,a < n → A a = B a) → cL A y k n = cL B y k n
 | 0,_=>rfl
 | n + 1,h=>by simp only [cL]; rw [iX fun a ha=>h a (by omega),h n (by omega)]
theorem xX {A B:Nat → Bool} {n:Nat} (h:∀ a,a < n → A a = B a) {x:Int} (h1:x < n):amg A x = amg B x:=by
 unfold amg;rcases Int.lt_or_le x 0 with h2 | h2
 ·rw [decide_eq_false (by omega)]; simp
 ·rw [h x.toNat (by omega)]
theorem ve {A B:Nat → Bool} {n:Nat} (h:∀ a,a < n → A a = B a):∀ {js:List cz},(∀ j ∈ js,fp n j) → cC (jLo A) js = cC (jLo B) js ∧ cC (jHi A) js = cC (jHi B) js
 | [],_=>⟨rfl,rfl⟩
 | j :: r,hj=>by
  obtain ⟨h1,h2⟩:=ve h (js:=r) fun x hx=>hj x (by simp [hx]);have h3:=hj j (by simp);simp only [cC,jLo,jHi];rw [h1,h2,xX h h3.src.2,xX h h3.dst.2];exact ⟨rfl,rfl⟩
theorem gX {A B:Nat → Bool} {n:Nat} (h:∀ a,a < n → A a = B a) (y:ab) (k:Int) {js:List cz} (hj:∀ j ∈ js,fp n j):dM A n y k js = dM B n y k js ∧ bM A n y k js = bM B n y k js:=by
 obtain ⟨h1,h2⟩:=ve h hj;unfold dM bM jQ jI gM iV;rw [iX h,cW _ h,cW _ h,cW _ h,cW _ h,h1,h2];exact ⟨rfl,rfl⟩
theorem zR {n:Nat} {a:Int} (h:-1 ≤ a ∧ a < n):fU n a < n + 2:=by unfold fU; split <;> omega
theorem Hf {y:ab} (hy:mY y) (k:Int) (n:Nat):∀ m,m ≤ n → ∀ e ∈ bS y k n m,(e.src < n + 2 ∧ e.dst < n + 2) ∧ e.src ≠ e.dst ∧ e.low ≤ e.high
 | 0,_,e,he=>by simp [bS] at he
 | m + 1,hm,e,he=>by
  simp only [bS,List.mem_append,List.mem_cons,List.not_mem_nil,or_false] at he;rcases he with he | rfl | rfl
  ·exact Hf hy k n m (by omega) e he
  ·exact ⟨⟨by dsimp only; omega,by dsimp only; omega⟩,by dsimp only; omega,(bF hy.first k m).2.2⟩
  ·exact ⟨⟨by dsimp only; omega,by dsimp only; omega⟩,by dsimp only; omega,(jz hy k m).2.2.2⟩
theorem ub {y:ab} (hy:mY y) (k:Int) {n:Nat} {js:List cz} (hj:∀ j ∈ js,fp n j) {lo hi:Int} (hlh:lo ≤ hi):fm (n + 2) (aU y k n js lo hi):=by
 have key:∀ e ∈ aU y k n js lo hi,(e.src < n + 2 ∧ e.dst < n + 2) ∧ e.src ≠ e.dst ∧ e.low ≤ e.high:=by
  intro e he;simp only [aU,List.mem_append,List.mem_cons,List.not_mem_nil,or_false] at he;rcases he with (he | he) | rfl
  ·exact Hf hy k n n (Nat.le_refl _) e he
  ·obtain ⟨j,hjm,rfl⟩:=List.mem_map.1 he;have h:=hj j hjm;refine ⟨⟨zR h.src,zR h.dst⟩, ?_,h.le⟩;have h1:=h.src;have h2:=h.dst;have h3:=h.ne;simp only [cq,fU]
   split <;> split <;> omega
  ·exact ⟨⟨by dsimp only; omega,by dsimp only; omega⟩,by dsimp only; omega,hlh⟩
 exact ⟨fun e he=>(key e he).1,fun e he=>(key e he).2.1,fun e he=>(key e he).2.2⟩
theorem iA {S:Nat → Bool} {y:ab} {k:Int} {n:Nat} {js:List cz} (hj:∀ j ∈ js,fp n j) {lo hi:Int} :
  (S n = false → S (n + 1) = false → dI S (aU y k n js lo hi) = jQ S n y k js - dK S n (fun a=>dj y k a)) ∧
  (S n = true → S (n + 1) = true → dI S (aU y k n js lo hi) = gM (fun x=>!S x) n y k - jI (fun x=>!S x) n y k js):=by
 constructor
 ·intro h1 h2;simp only [aU,gq,uf h2,yq h1 js hj,dI,h1,h2,jQ];simp; omega
 ·intro h1 h2;simp only [aU,gq,qR h2,vk h1 js hj,dI,h1,h2,jI,gM];simp; omega
theorem IY {A:Nat → Bool} {y:ab} (hy:mY y) {k:Int} {n:Nat} (hn:n ≤ 4) {js:List cz} (hj:∀ j ∈ js,fp n j) (hl:js.length ≤ 10) :
  jQ A n y k js ≤ 14000000 ∧ -14000000 ≤ jI A n y k js:=by
 have h1:=(di (A:=A) (g:=fun a=>loC (aD y.first k a)) (c:=1000000) (by omega) (fun a=>(bF hy.first k a).1) n).2;have h2:=(di (A:=A) (g:=fun a=>hiC (aD y.first k a)) (c:=1000000) (by omega) (fun a=>(bF hy.first k a).2.1) n).1;have h3:=vG (A:=A) js hj;unfold jQ jI;omega
theorem Ea {y:ab} (hy:mY y) {k:Int} {n:Nat} (hn:n ≤ 4) {js:List cz} (hj:∀ j ∈ js,fp n j) (hl:js.length ≤ 10) :
  (∃ f,bz (n + 2) (aU y k n js (-ar) ar) f) ↔ ∀ A,dM A n y k js = 0 ∧ bM A n y k js = 0:=by
 rw [ry (ub hy k hj (by simp [ar]))];constructor
 ·intro h A;constructor
  ·have hS:=gX (A:=A) (B:=fun x=>decide (x < n) && A x) (n:=n) (fun a ha=>by simp [ha]) y k hj;rw [hS.1];generalize hB:(fun x=>decide (x < n) && A x) = B;have hBn:B n = false:=by rw [← hB]; simp
   have hBn1:B (n + 1) = false:=by
    rw [← hB];show (decide (n + 1 < n) && A (n + 1)) = false;rw [decide_eq_false (by omega)]; rfl
   have h1:=h B;rw [(iA hj).1 hBn hBn1] at h1;unfold dM;split
   ·rename_i hw;rw [jT hw] at h1; omega
   ·rfl
  ·have hS:=gX (A:=A) (B:=fun x=>!(decide (n ≤ x) || !A x)) (n:=n) (fun a ha=>by simp; omega) y k hj;rw [hS.2];generalize hB:(fun x=>decide (n ≤ x) || !A x) = B;have hBn:B n = true:=by rw [← hB]; simp
   have hBn1:B (n + 1) = true:=by rw [← hB]; simp
   have h1:=h B;rw [(iA hj).2 hBn hBn1] at h1;have e:(fun x=>!(decide (n ≤ x) || !A x)) = fun x=>!B x:=by rw [← hB]
   rw [e];unfold bM;omega
 ·intro h S;have hb:=fun A=>IY (A:=A) hy (k:=k) hn hj hl;cases h1:S n <;> cases h2:S (n + 1)
  ·rw [(iA hj).1 h1 h2];have h3:=(h S).1;unfold dM at h3
   split at h3
   ·rename_i hw; rw [jT hw]; omega
   ·rename_i hw;have h4:=nV hy (k:=k) (A:=S) (n:=n) (by simpa using hw);have h5:=(hb S).1;unfold ar at h4;omega
  ·-- the hub, not the outside
   have e:dI S (aU y k n js (-ar) ar) = dK (fun x=>!S x) n (fun a=>loC (aD y.last k a)) - dK (fun x=>!S x) n (fun a=>hiC (aD y.first k a)) + cC (jLo S) js - ar:=by
    simp only [aU,gq,qR h2,yq h1 js hj,dI,h1,h2];simp; omega
   have a1:=(di (A:=fun x=>!S x) (g:=fun a=>loC (aD y.last k a)) (c:=1000000) (by omega) (fun a=>(bF hy.last k a).1) n).2;have a2:=(di (A:=fun x=>!S x) (g:=fun a=>hiC (aD y.first k a)) (c:=1000000) (by omega) (fun a=>(bF hy.first k a).2.1) n).1;have a3:=vG (A:=S) js hj;rw [e];unfold ar;omega
  ·have e:dI S (aU y k n js (-ar) ar) = dK S n (fun a=>loC (aD y.first k a)) - dK S n (fun a=>dj y k a) - cC (jHi fun x=>!S x) js - ar:=by
    simp only [aU,gq,uf h2,vk h1 js hj,dI,h1,h2];simp; omega
   have a1:=(di (A:=S) (g:=fun a=>loC (aD y.first k a)) (c:=1000000) (by omega) (fun a=>(bF hy.first k a).1) n).2;have a2:=(di (A:=S) (g:=fun a=>dj y k a) (c:=ar) (by simp [ar]) (fun a=>⟨(jz hy k a).2.1,(jz hy k a).2.2.1⟩) n).1;have a3:=vG (A:=fun x=>!S x) js hj;rw [e];unfold ar at *;omega
  ·rw [(iA hj).2 h1 h2];have h3:=(h fun x=>!S x).2;unfold bM at h3;omega
/-! ### places az bits -/
def bC (P:Nat):Nat → Bool:=fun a=>P.testBit a
theorem za (A:Nat → Bool):∀ n, ∃ P,P < 2 ^ n ∧ ∀ a,a < n → bC P a = A a
 | 0=>⟨0,by simp,fun a h=>by omega⟩
 | n + 1=>by
  obtain ⟨P,h1,h2⟩:=za A n;cases hA:A n
  ·refine ⟨P,by rw [Nat.pow_succ]; omega,fun a ha=>?_⟩;rcases Nat.lt_or_ge a n with h | h
   ·exact h2 a h
   ·obtain rfl:a = n:=by omega
    rw [hA]; exact Nat.testBit_lt_two_pow h1
  ·refine ⟨2 ^ n + P,by rw [Nat.pow_succ]; omega,fun a ha=>?_⟩;unfold bC at h2 ⊢;rcases Nat.lt_or_ge a n with h | h
   ·rw [Nat.testBit_two_pow_add_gt h]; exact h2 a h
   ·obtain rfl:a = n:=by omega
    rw [hA,Nat.testBit_two_pow_add_eq,Nat.testBit_lt_two_pow h1]; rfl
theorem En (n:Nat) (y:ab) (k:Int) (js:List cz):dM (bC 0) n y k js = 0 ∧ bM (bC 0) n y k js = 0:=by
 have hb:bC 0 = fun _=>false:=by funext a; simp [bC]
 have hs:∀ g n,dK (fun _=>false) n g = 0:=fun g n=>by unfold dK; simp [fV]
 have hj:∀ js,cC (jLo fun _=>false) js = 0 ∧ cC (jHi fun _=>false) js = 0:=by
  intro js
  induction js with
  | nil=>exact ⟨rfl,rfl⟩
  | cons j r ih=>simp [cC,jLo,jHi,amg,ih]
 rw [hb];unfold dM bM jQ jI gM iV;simp only [hs,(hj js).1,(hj js).2];simp
theorem xu {y:ab} (hy:mY y) {k:Int} {n:Nat} (hn:n ≤ 4) {js:List cz} (hj:∀ j ∈ js,fp n j) (hl:js.length ≤ 10) :
  (∃ f,bz (n + 2) (aU y k n js (-ar) ar) f) ↔ ∀ P,1 ≤ P → P < 2 ^ n → dM (bC P) n y k js = 0 ∧ bM (bC P) n y k js = 0:=by
 rw [Ea hy hn hj hl];constructor
 ·intro h P _ _;exact h _
 ·intro h A;obtain ⟨P,h1,h2⟩:=za A n;have hc:=gX (A:=A) (B:=bC P) (n:=n) (fun a ha=>(h2 a ha).symm) y k hj;rw [hc.1,hc.2];rcases Nat.eq_zero_or_pos P with h0 | h0
  ·subst h0; exact En n y k js
  ·exact h P h0 h1
end Go.AM
