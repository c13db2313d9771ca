/- Small functions of chapter 05: beyond, Name, Range and their like. Ways between nodes, and what goes on them: if no set of nodes is bound to have more come to it than can go from it, something can .. -/
import Derived.Test.YtlmhkldmpggadaaGreatDoorG05
import Derived.Test.YtlmhkldmpggadaaGreatDoorP15
namespace Go.AM
open Go.Proofs
set_option maxRecDepth 100000
abbrev ii' (n:Int):ag:=.int .i64 n
theorem aw {n:Int} (h:-9223372036854775808 ≤ n) (h2:n ≤ 9223372036854775807):IntKind.i64.wrap n = n:=by rw [IntKind.wrap_i64]; omega
theorem aC {α:Type} {f:α → ag} (h:∀ a,(f a).pure = true):∀ l:List α,aK (l.map f) = true
 | []=>rfl
 | a :: l=>by simp only [List.map_cons,aK,h a,aC h l,Bool.and_self]
theorem ah.of {P:Program} {fv:ag} {args:List ag} {σ:af} {v:ag} {K Kp:ag → af → Prop} (hs:aL P fv args σ fun r σ'=>r = .ret v ∧ σ' = σ) (hq:K v σ):@ah P fv args σ ⟨K⟩ ⟨Kp⟩:=
 hs.mono (by rintro r σ' ⟨rfl,rfl⟩; exact hq)
theorem tf (b:Bool):b = false ∨ b = true:=by cases b <;> simp
@[simp] theorem MP {α:Type} (σ l:List α):(σ ++ l)[σ.length]? = l[0]?:=by simp [List.getElem?_append_right]
@[simp] theorem KE {α:Type} (σ l:List α) (n:Nat):(σ ++ l)[σ.length + n]? = l[n]?:=by rw [List.getElem?_append_right (by omega)]; congr 1; omega
@[simp] theorem KC {α:Type} (σ l:List α) (x:α):(σ ++ l).set σ.length x = σ ++ l.set 0 x:=by rw [List.set_append_right _ _ (by omega)]; simp
@[simp] theorem Kx {α:Type} (σ l:List α) (x:α) (n:Nat):(σ ++ l).set (σ.length + n) x = σ ++ l.set n x:=by rw [List.set_append_right _ _ (by omega)]; congr 2; omega
def lI (P:Program) (fv:ag) (args:List ag) (v:ag):Prop:=∀ σ,aL P fv args σ fun r σ'=>r = .ret v ∧ σ' = σ
theorem lI.fn {P:Program} {f:FuncId} (hb:ar P f = true) {first caps args:List ag} {v:ag} (hs:∀ σ,Spec P f (first ++ args ++ caps) σ fun r σ'=>r = .ret v ∧ σ' = σ):lI P (.func (.func f) first caps) args v:=
 fun σ=>aL.func hb (hs σ)
/-! ### beyond -/
def DE (lo hi n:Int):Bool:=decide (n < lo) || decide (hi < n)
def mP (lo hi:Int) (l:List Int):Bool:=l.any (DE lo hi)
def fh {α:Type} (p:α → Bool):List α → Nat → Int
 | [],_=>-1
 | a :: r,i=>if p a then i else fh p r (i + 1)
theorem Cm {α:Type} (p:α → Bool):∀ (l:List α) (i:Nat),0 ≤ fh p l i ↔ l.any p = true
 | [],i=>by simp [fh]
 | a :: r,i=>by
  have ih:=Cm p r (i + 1);have e:fh p (a :: r) i = if p a then (i:Int) else fh p r (i + 1):=rfl
  rw [e,List.any_cons];by_cases h:p a = true
  ·rw [if_pos h,h]; simp
  ·rw [if_neg h];have h':p a = false:=by simpa using h
   rw [h',ih]; simp
theorem tJ {α:Type} (p:α → Bool) (l:List α) (i:Nat):decide (0 ≤ fh p l i) = l.any p:=by
 rw [Bool.eq_iff_iff,decide_eq_true_iff]; exact Cm p l i
theorem ji (g:FuncId) (caps:List ag) (hp:aK caps = true) (p:Int → Bool) (l:List Int) (hl:l.length ≤ maxLen) (hf:∀ x ∈ l,lI Tryz.prog (.func (.func g) [] caps) [ii' x] (.bool (p x))) (σ:af) :
  Spec Tryz.prog Fo [.slice 1 (l.map ii'), .func (.func g) [] caps] σ fun r σ'=>r = .ret (.int .i64 (fh p l 0)) ∧ σ' = σ:=by
 refine Spec.aI (KX (by simp) (aa _ ?_)) (by simp [hp,aC (f:=ii') (fun _=>rfl) l]) rfl σ;simp [Hf];refine AW.loop (ι:=Nat) (fun i fr σ=>fr = { v:=[(0, .slice 1 (l.map ii')),(1, .func (.func g) [] caps),(7, .int .i64 l.length),(8, .int .i64 i)],ds:=[] } ∧ i ≤ l.length ∧ fh p l 0 = fh p (l.drop i) i) (fun i=>l.length - i) 0 (by simp) ?_;rintro i fr σ ⟨rfl,hi,hpi⟩;refine aa _ ?_;simp;refine ⟨fun hlt=>?_,fun hge=>?_⟩
 ·have hd:l.drop i = l[i] :: l.drop (i + 1):=List.drop_eq_getElem_cons hlt;rw [hd] at hpi;simp [fh] at hpi;simp [hlt];refine ah.of (hf l[i] (List.getElem_mem _) σ) ?_;simp;refine ⟨fun he=>by rw [hpi,if_pos he],fun he=>⟨i + 1,by omega,aw (by omega) (by simp only [maxLen] at hl; omega),by omega,by rw [hpi,if_neg (by simp [he])]⟩⟩
 ·have:l.drop i = []:=List.drop_eq_nil_of_le hge;rw [hpi,this]; rfl
theorem ig (g:FuncId) (caps:List ag) (hp:aK caps = true) (p:Int → Bool) (l:List Int) (hl:l.length ≤ maxLen) (hf:∀ x ∈ l,lI Tryz.prog (.func (.func g) [] caps) [ii' x] (.bool (p x))) (σ:af) :
  Spec Tryz.prog EN [.slice 1 (l.map ii'), .func (.func g) [] caps] σ fun r σ'=>r = .ret (.bool (l.any p)) ∧ σ' = σ:=by
 refine Spec.aI (Lp (by simp) (aa _ ?_)) (by simp [hp,aC (f:=ii') (fun _=>rfl) l]) rfl σ;simp [HN];refine ah.pure JT (ji g caps hp p l hl hf _) ?_;simp [tJ]
structure aA where
 src:Nat
 dst:Nat
 low:Int
 high:Int
def InB (es:List aA) (f:Nat → Int):Prop:=∀ i (h:i < es.length),es[i].low ≤ f i ∧ f i ≤ es[i].high
def aU (n:Nat):List aA → Nat → (Nat → Int) → Int
 | [],_,_=>0
 | e :: r,i,f=>(if e.dst = n then f i else 0) - (if e.src = n then f i else 0) + aU n r (i + 1) f
def eD (N:Nat) (g:Nat → Int):Int:=match N with
 | 0=>0
 | N + 1=>eD N g + g N
theorem yS (g h:Nat → Int):∀ N,eD N (fun n=>g n + h n) = eD N g + eD N h
 | 0=>rfl
 | N + 1=>by simp only [eD,yS g h N]; omega
theorem mj (g h:Nat → Int):∀ N,eD N (fun n=>g n - h n) = eD N g - eD N h
 | 0=>rfl
 | N + 1=>by simp only [eD,mj g h N]; omega
theorem fB:∀ N,eD N (fun _=>0) = 0
 | 0=>rfl
 | N + 1=>by simp only [eD,fB N]; omega
theorem e9 {g h:Nat → Int}:∀ N,(∀ n,n < N → g n = h n) → eD N g = eD N h
 | 0,_=>rfl
 | N + 1,hh=>by simp only [eD]; rw [e9 N fun n hn=>hh n (by omega),hh N (by omega)]
theorem wX {g h:Nat → Int}:∀ N,(∀ n,n < N → g n ≤ h n) → eD N g ≤ eD N h
 | 0,_=>Int.le_refl _
 | N + 1,hh=>by
  simp only [eD];have h1:=wX N fun n hn=>hh n (by omega)
  have h2:=hh N (by omega);omega
theorem pI (a:Nat) (v:Int):∀ N,eD N (fun n=>if a = n then v else 0) = if a < N then v else 0
 | 0=>by simp [eD]
 | N + 1=>by
  simp only [eD,pI a v N];by_cases h1:a < N
  ·rw [if_pos h1,if_neg (by omega),if_pos (by omega)]; omega
  ·by_cases h2:a = N
   ·rw [if_neg h1,if_pos h2,if_pos (by omega)]; omega
   ·rw [if_neg h1,if_neg h2,if_neg (by omega)]; omega
theorem qg {g:Nat → Int} {a:Nat}:∀ {N},(∀ n,n < N → 0 ≤ g n) → a < N → g a ≤ eD N g
 | 0,_,h=>by omega
 | N + 1,hh,h=>by
  simp only [eD];by_cases h1:a < N
  ·have:=qg (fun n hn=>hh n (by omega)) h1;have:=hh N (by omega); omega
  ·obtain rfl:a = N:=by omega
   have:0 ≤ eD a g:=by
    have:=wX (g:=fun _=>0) (h:=g) a fun n hn=>hh n (by omega)
    rwa [fB] at this
   omega
def dA (S:Nat → Bool):List aA → Int
 | []=>0
 | e :: r=>(if S e.dst && !S e.src then e.low else 0) - (if S e.src && !S e.dst then e.high else 0) + dA S r
def er (S:Nat → Bool):List aA → Nat → (Nat → Int) → Int
 | [],_,_=>0
 | e :: r,i,f=>(if S e.dst && !S e.src then f i else 0) - (if S e.src && !S e.dst then f i else 0) + er S r (i + 1) f
theorem ny (S:Nat → Bool) (N:Nat) (f:Nat → Int):∀ (es:List aA) (i:Nat),(∀ e ∈ es,e.src < N ∧ e.dst < N) → eD N (fun n=>if S n then aU n es i f else 0) = er S es i f
 | [],i,_=>by
  simp only [aU,er];rw [e9 (h:=fun _=>0) N fun n _=>by split <;> rfl,fB]
 | e :: r,i,h=>by
  obtain ⟨h1,h2⟩:=h e (by simp);have ih:=ny S N f r (i + 1) fun x hx=>h x (by simp [hx])
  simp only [aU,er, ← ih];rw [e9 (h:=fun n=>((if e.dst = n then (if S e.dst then f i else 0) else 0) - (if e.src = n then (if S e.src then f i else 0) else 0)) + (if S n then aU n r (i + 1) f else 0)) N ?_,yS,mj,pI,pI,if_pos h2,if_pos h1]
  ·cases hs:S e.src <;> cases hd:S e.dst <;> simp <;> omega
  ·intro n _;by_cases a1:e.dst = n <;> by_cases a2:e.src = n
   ·subst a1; rw [a2]; cases hd:S e.dst <;> simp
   ·subst a1; cases hd:S e.dst <;> simp [a2]
   ·subst a2; cases hd:S e.src <;> simp [a1]
   ·cases hd:S n <;> simp [a1,a2]
theorem zo (S:Nat → Bool):∀ (es:List aA) (i:Nat) (f:Nat → Int),(∀ k (h:k < es.length),es[k].low ≤ f (i + k) ∧ f (i + k) ≤ es[k].high) → dA S es ≤ er S es i f
 | [],_,_,_=>by simp [dA,er]
 | e :: r,i,f,h=>by
  have h0:=h 0 (by simp);simp only [List.getElem_cons_zero,Nat.add_zero] at h0;have ih:=zo S r (i + 1) f fun k hk=>by
   have:=h (k + 1) (by simp; omega);simp only [List.getElem_cons_succ] at this;rw [show i + 1 + k = i + (k + 1) by omega]; exact this
  simp only [dA,er];cases hs:S e.src <;> cases hd:S e.dst <;> simp <;> omega
theorem yO (S:Nat → Bool):∀ (es:List aA) (i:Nat) (f:Nat → Int),(∀ k (h:k < es.length),(S es[k].dst = true → S es[k].src = false → f (i + k) = es[k].low) ∧ (S es[k].src = true → S es[k].dst = false → f (i + k) = es[k].high)) → er S es i f = dA S es
 | [],_,_,_=>by simp [dA,er]
 | e :: r,i,f,h=>by
  have h0:=h 0 (by simp);simp only [List.getElem_cons_zero,Nat.add_zero] at h0;have ih:=yO S r (i + 1) f fun k hk=>by
   have:=h (k + 1) (by simp; omega);simp only [List.getElem_cons_succ] at this;rw [show i + 1 + k = i + (k + 1) by omega]; exact this
  simp only [dA,er,ih];cases hs:S e.src <;> cases hd:S e.dst <;> simp [hs,hd] at h0 ⊢
  ·omega
  ·omega
/-! ### steps, and lines of them -/
def eu (es:List aA) (f:Nat → Int) (k:Int) (i a c:Nat):Prop:=
 ∃ h:i < es.length,(es[i].src = a ∧ es[i].dst = c ∧ f i + k ≤ es[i].high) ∨ (es[i].dst = a ∧ es[i].src = c ∧ es[i].low ≤ f i - k)
inductive cm (es:List aA) (f:Nat → Int) (k:Int) (P:Nat → Prop) (b:Nat):Nat → List Nat → Prop
 | nil:cm es f k P b b [b]
 | cons {i a c l}:eu es f k i a c → P i → cm es f k P b c l → a ∉ l → cm es f k P b a (a :: l)
theorem cm.suffix {es:List aA} {f:Nat → Int} {k:Int} {P:Nat → Prop} {b y x:Nat} {l:List Nat} (h:cm es f k P b y l) (hx:x ∈ l):∃ l',cm es f k P b x l':=by
 induction h with
 | nil=>rw [List.mem_singleton.1 hx]; exact ⟨_, .nil⟩
 | cons h1 hp h2 h3 ih=>
  rcases List.mem_cons.1 hx with rfl | hx
  ·exact ⟨_, .cons h1 hp h2 h3⟩
  ·exact ih hx
theorem cm.step {es:List aA} {f:Nat → Int} {k:Int} {P:Nat → Prop} {b x y i:Nat} {l:List Nat} (h:cm es f k P b y l) (hs:eu es f k i x y) (hp:P i):∃ l',cm es f k P b x l':=by
 by_cases hx:x ∈ l
 ·exact h.suffix hx
 ·exact ⟨_, .cons hs hp h hx⟩
def bO (f:Nat → Int) (i:Nat) (v:Int):Nat → Int:=fun j=>if j = i then f j + v else f j
theorem gD (n:Nat) (f:Nat → Int) (i:Nat) (v:Int):∀ (es:List aA) (j:Nat),aU n es j (bO f i v) = aU n es j f + (if h:j ≤ i ∧ i < j + es.length then (if (es[i - j]'(by omega)).dst = n then v else 0) - (if (es[i - j]'(by omega)).src = n then v else 0) else 0)
 | [],j=>by
  simp only [aU,List.length_nil];rw [dif_neg (by omega)]; omega
 | e :: r,j=>by
  have ih:=gD n f i v r (j + 1);simp only [aU,ih];by_cases hji:j = i
  ·subst hji;rw [dif_neg (by omega),dif_pos (by simp)];simp only [bO,if_pos,Nat.sub_self,List.getElem_cons_zero];by_cases a1:e.dst = n <;> by_cases a2:e.src = n <;> simp [a1,a2] <;> omega
  ·have ha:bO f i v j = f j:=by unfold bO; rw [if_neg hji]
   rw [ha];by_cases hr:j + 1 ≤ i ∧ i < j + 1 + r.length
   ·rw [dif_pos hr,dif_pos (by simp only [List.length_cons]; omega)];have e1:i - j = (i - (j + 1)) + 1:=by omega
    simp only [e1,List.getElem_cons_succ];omega
   ·rw [dif_neg hr,dif_neg (by simp only [List.length_cons]; omega)];omega
theorem cm.push {es:List aA} {f:Nat → Int} {k:Int} (hk:0 ≤ k) {P:Nat → Prop} {a b:Nat} {l:List Nat} (h:cm es f k P b a l) (hb:InB es f) (hne:∀ e ∈ es,e.src ≠ e.dst) :
  ∃ f',InB es f' ∧ (∀ n,aU n es 0 f' = aU n es 0 f - (if n = a then k else 0) + (if n = b then k else 0)) ∧ ∀ j,f' j ≠ f j → P j ∧ ∃ h:j < es.length,es[j].src ∈ l ∧ es[j].dst ∈ l:=by
 induction h with
 | nil=>exact ⟨f,hb,fun n=>by omega,fun j hj=>absurd rfl hj⟩
 | @cons i a c l hs hp hl ha ih=>
  obtain ⟨f',h1,h2,h3⟩:=ih;obtain ⟨hi,hs⟩:=hs;have hcl:c ∈ l:=by cases hl <;> simp
  have hfi:f' i = f i:=by
   by_cases e:f' i = f i
   ·exact e
   ·obtain ⟨_,_,h4,h5⟩:=h3 i e;rcases hs with ⟨e1,_,_⟩ | ⟨e1,_,_⟩
    ·rw [e1] at h4; exact absurd h4 ha
    ·rw [e1] at h5; exact absurd h5 ha
  have hni:=hne es[i] (List.getElem_mem hi);have hch:∀ j, ∀ v,bO f' i v j ≠ f j → P j ∧ ∃ h:j < es.length,es[j].src ∈ a :: l ∧ es[j].dst ∈ a :: l:=by
   intro j v hj;by_cases e:j = i
   ·subst e;refine ⟨hp,hi, ?_⟩;rcases hs with ⟨e1,e2,_⟩ | ⟨e1,e2,_⟩ <;> rw [e1,e2] <;> simp [hcl]
   ·unfold bO at hj;rw [if_neg e] at hj;obtain ⟨q1,q2,q3,q4⟩:=h3 j hj;exact ⟨q1,q2,List.mem_cons_of_mem _ q3,List.mem_cons_of_mem _ q4⟩
  rcases hs with ⟨e1,e2,e3⟩ | ⟨e1,e2,e3⟩
  ·refine ⟨bO f' i k,fun j hj=>?_,fun n=>?_,fun j=>hch j k⟩
   ·have:=h1 j hj;unfold bO;split
    ·rename_i e; subst e; rw [hfi] at this ⊢; omega
    ·exact this
   ·rw [gD,h2 n,dif_pos (by omega)];simp only [Nat.sub_zero,e1,e2];rw [e1,e2] at hni;by_cases n1:n = a <;> by_cases n2:n = c
    ·omega
    ·simp [n1,Ne.symm hni]; omega
    ·simp [n2,hni,Ne.symm hni]; omega
    ·rw [if_neg (Ne.symm n2),if_neg (Ne.symm n1),if_neg n2,if_neg n1]; omega
  ·refine ⟨bO f' i (-k),fun j hj=>?_,fun n=>?_,fun j=>hch j (-k)⟩
   ·have:=h1 j hj;unfold bO;split
    ·rename_i e; subst e; rw [hfi] at this ⊢; omega
    ·exact this
   ·rw [gD,h2 n,dif_pos (by omega)];simp only [Nat.sub_zero,e1,e2];rw [e1,e2] at hni;by_cases n1:n = a <;> by_cases n2:n = c
    ·omega
    ·simp [n1,hni]; omega
    ·simp [n2,hni,Ne.symm hni]; omega
    ·rw [if_neg (Ne.symm n1),if_neg (Ne.symm n2),if_neg n2,if_neg n1]; omega
structure bh (N:Nat) (es:List aA) (f:Nat → Int):Prop where
 inb:InB es f
 net:∀ n,n < N → aU n es 0 f = 0
structure gr (N:Nat) (es:List aA):Prop where
 src:∀ e ∈ es,e.src < N ∧ e.dst < N
 ne:∀ e ∈ es,e.src ≠ e.dst
 le:∀ e ∈ es,e.low ≤ e.high
theorem vz:∀ (es:List aA) (i:Nat) (f:Nat → Int),er (fun _=>true) es i f = 0
 | [],_,_=>rfl
 | e :: r,i,f=>by simp only [er,vz r (i + 1) f]; simp
theorem BU {N:Nat} {es:List aA} (h:gr N es) (f:Nat → Int):eD N (fun n=>aU n es 0 f) = 0:=by
 have:=ny (fun _=>true) N f es 0 h.src;rw [vz] at this;simpa using this
theorem bh.cut {N:Nat} {es:List aA} {f:Nat → Int} (h:gr N es) (hc:bh N es f) (S:Nat → Bool):er S es 0 f = 0 ∧ dA S es ≤ 0:=by
 have h1:=ny S N f es 0 h.src;rw [e9 (h:=fun _=>0) N (fun n hn=>by rw [hc.net n hn]; split <;> rfl),fB] at h1;have h2:=zo S es 0 f fun k hk=>by rw [Nat.zero_add]; exact hc.inb k hk
 exact ⟨h1.symm,by omega⟩
theorem stuck {es:List aA} {f:Nat → Int} {P:Nat → Prop} {B:Nat → Prop} {S:Nat → Bool} (hS:∀ n,S n = true ↔ ¬ ∃ b l,B b ∧ cm es f 1 P b n l) (hb:InB es f) :
  ∀ k (h:k < es.length),P k → (S es[k].dst = true → S es[k].src = false → f k = es[k].low) ∧ (S es[k].src = true → S es[k].dst = false → f k = es[k].high):=by
 have hF:∀ n,S n = false → ∃ b l,B b ∧ cm es f 1 P b n l:=fun n hn=>Classical.byContradiction fun hc=>by
  rw [(hS n).2 hc] at hn; cases hn
 intro k h hp;have hk:=hb k h;refine ⟨fun h1 h2=>?_,fun h1 h2=>?_⟩
 ·obtain ⟨b,l,h3,h4⟩:=hF _ h2;by_cases e:f k = es[k].low
  ·exact e
  ·obtain ⟨l',h5⟩:=h4.step (x:=es[k].dst) (i:=k) ⟨h, .inr ⟨rfl,rfl,by omega⟩⟩ hp;exact absurd ⟨b,l',h3,h5⟩ ((hS _).1 h1)
 ·obtain ⟨b,l,h3,h4⟩:=hF _ h2;by_cases e:f k = es[k].high
  ·exact e
  ·obtain ⟨l',h5⟩:=h4.step (x:=es[k].src) (i:=k) ⟨h, .inl ⟨rfl,rfl,by omega⟩⟩ hp;exact absurd ⟨b,l',h3,h5⟩ ((hS _).1 h1)
theorem A7 (Q:Nat → Prop):∃ S:Nat → Bool, ∀ n,S n = true ↔ Q n:=
 ⟨fun n=>@decide (Q n) (Classical.propDecidable _),fun _n=>@decide_eq_true_iff _ (Classical.propDecidable _)⟩
theorem vE {N:Nat} {es:List aA} (h:gr N es) {f:Nat → Int} (hb:InB es f) {a:Nat} (ha:a < N) (h0:0 < aU a es 0 f)
  (hn:¬ ∃ b l,(b < N ∧ aU b es 0 f < 0) ∧ cm es f 1 (fun _=>True) b a l):∃ S,S a = true ∧ 0 < dA S es:=by
 obtain ⟨S,hS⟩:=A7 fun n=>¬ ∃ b l,(b < N ∧ aU b es 0 f < 0) ∧ cm es f 1 (fun _=>True) b n l
 have h1:=stuck (B:=fun b=>b < N ∧ aU b es 0 f < 0) hS hb;have h2:=yO S es 0 f fun k hk=>by rw [Nat.zero_add]; exact h1 k hk trivial
 have h3:=ny S N f es 0 h.src;have h4:∀ n,n < N → 0 ≤ (if S n then aU n es 0 f else 0):=fun n hnN=>by
  split
  ·rename_i hs;rcases Int.lt_or_le (aU n es 0 f) 0 with hlt | hge
   ·exact absurd ⟨n,_,⟨hnN,hlt⟩, .nil⟩ ((hS n).1 hs)
   ·exact hge
  ·omega
 have h5:=qg h4 ha;rw [if_pos ((hS a).2 hn)] at h5;exact ⟨S,(hS a).2 hn,by omega⟩
def ED (N:Nat) (es:List aA) (f:Nat → Int):Int:=eD N fun n=>max (aU n es 0 f) 0
theorem GS (N:Nat) (es:List aA) (f:Nat → Int):0 ≤ ED N es f:=by
 have:=wX (g:=fun _=>0) (h:=fun n=>max (aU n es 0 f) 0) N fun n _=>by omega
 rwa [fB] at this
theorem za {N:Nat} {es:List aA} (h:gr N es) (hc:∀ S,dA S es ≤ 0):∀ (p:Nat) (f:Nat → Int),InB es f → ED N es f ≤ p → ∃ g,bh N es g
 | p,f,hb,hp=>by
  by_cases ha:∃ a,a < N ∧ 0 < aU a es 0 f
  ·obtain ⟨a,haN,h0⟩:=ha;by_cases hl:∃ b l,(b < N ∧ aU b es 0 f < 0) ∧ cm es f 1 (fun _=>True) b a l
   ·obtain ⟨b,l,⟨hbN,hb0⟩,hl⟩:=hl;obtain ⟨f',h1,h2,_⟩:=hl.push (by omega) hb h.ne;have hpp:ED N es f' = ED N es f - 1:=by
     unfold ED;rw [e9 (h:=fun n=>max (aU n es 0 f) 0 - (if a = n then 1 else 0)) N fun n _=>?_,mj,pI,if_pos haN];rw [h2 n];by_cases e1:n = a
     ·subst e1;have hnb:¬ n = b:=fun e=>by rw [e] at h0; omega
      simp [hnb]; omega
     ·rw [if_neg e1,if_neg (Ne.symm e1)];by_cases e2:n = b
      ·subst e2; rw [if_pos rfl]; omega
      ·rw [if_neg e2]; omega
    have hnn:=GS N es f'
    cases p with
    | zero=>omega
    | succ p=>exact za h hc p f' h1 (by omega)
   ·obtain ⟨S,_,hS⟩:=vE h hb haN h0 hl;have:=hc S;omega
  ·refine ⟨f,hb,fun n hn=>?_⟩;have hle:∀ n,n < N → aU n es 0 f ≤ 0:=fun n hn=>by
    rcases Int.lt_or_le 0 (aU n es 0 f) with h1 | h1
    ·exact absurd ⟨n,hn,h1⟩ ha
    ·exact h1
   have h1:=qg (g:=fun n=>0 - aU n es 0 f) (fun n hn=>by have:=hle n hn; omega) hn;rw [mj,fB,BU h] at h1;have:=hle n hn;omega
theorem yI {N:Nat} {es:List aA} (h:gr N es):(∃ f,bh N es f) ↔ ∀ S,dA S es ≤ 0:=by
 refine ⟨fun ⟨f,hf⟩ S=>(hf.cut h S).2,fun hc=>?_⟩;have hb:InB es fun i=>if h:i < es.length then es[i].low else 0:=fun i hi=>by
  simp only [dif_pos hi];exact ⟨Int.le_refl _,h.le _ (List.getElem_mem hi)⟩
 exact za h hc _ _ hb (Int.self_le_toNat _)
/-! ### the ends of what can go on a way -/
def tO (S:Nat → Bool) (e:aA) (v:Int):Int:=(if S e.dst && !S e.src then v else 0) - (if S e.src && !S e.dst then v else 0)
theorem sX (S:Nat → Bool) {i0:Nat}:∀ (es:List aA) (i:Nat) (f g:Nat → Int),
  (∀ k (h:k < es.length),i + k ≠ i0 → (S es[k].dst = true → S es[k].src = false → f (i + k) = es[k].low) ∧ (S es[k].src = true → S es[k].dst = false → f (i + k) = es[k].high)) →
  (∀ k (h:k < es.length),es[k].low ≤ g (i + k) ∧ g (i + k) ≤ es[k].high) →
  er S es i f - (if h:i ≤ i0 ∧ i0 < i + es.length then tO S (es[i0 - i]'(by omega)) (f i0) else 0) ≤ er S es i g - (if h:i ≤ i0 ∧ i0 < i + es.length then tO S (es[i0 - i]'(by omega)) (g i0) else 0)
 | [],i,f,g,_,_=>by
  simp only [er,List.length_nil];rw [dif_neg (by omega),dif_neg (by omega)]; omega
 | e :: r,i,f,g,h,hg=>by
  have ih:=sX S (i0:=i0) r (i + 1) f g (fun k hk hne=>by
   have:=h (k + 1) (by simp; omega) (by omega);simp only [List.getElem_cons_succ] at this
   rw [show i + 1 + k = i + (k + 1) by omega]; exact this) (fun k hk=>by
   have:=hg (k + 1) (by simp; omega);simp only [List.getElem_cons_succ] at this
   rw [show i + 1 + k = i + (k + 1) by omega]; exact this)
  have h0:=h 0 (by simp);have hg0:=hg 0 (by simp);simp only [List.getElem_cons_zero,Nat.add_zero] at h0 hg0;simp only [er];by_cases hi:i = i0
  ·subst hi;rw [dif_neg (by omega),dif_neg (by omega)] at ih;rw [dif_pos (by simp),dif_pos (by simp)];simp only [Nat.sub_self,List.getElem_cons_zero,tO];omega
  ·have hcmp:(if S e.dst && !S e.src then f i else 0) - (if S e.src && !S e.dst then f i else 0) ≤ (if S e.dst && !S e.src then g i else 0) - (if S e.src && !S e.dst then g i else 0):=by
    have h0:=h0 hi;cases hs:S e.src <;> cases hd:S e.dst <;> simp [hs,hd] at h0 ⊢
    ·omega
    ·omega
   by_cases hr:i + 1 ≤ i0 ∧ i0 < i + 1 + r.length
   ·rw [dif_pos hr,dif_pos hr] at ih;rw [dif_pos (by simp only [List.length_cons]; omega),dif_pos (by simp only [List.length_cons]; omega)];have e1:i0 - i = (i0 - (i + 1)) + 1:=by omega
    simp only [e1,List.getElem_cons_succ];omega
   ·rw [dif_neg hr,dif_neg hr] at ih;rw [dif_neg (by simp only [List.length_cons]; omega),dif_neg (by simp only [List.length_cons]; omega)];omega
theorem De {N:Nat} {es:List aA} (h:gr N es) {f g:Nat → Int} (hf:bh N es f) (hg:bh N es g) {i0:Nat} (hi:i0 < es.length)
  (hn:¬ ∃ l,cm es f 1 (fun i=>i ≠ i0) es[i0].dst es[i0].src l):f i0 ≤ g i0:=by
 obtain ⟨S,hS⟩:=A7 fun n=>¬ ∃ b l,b = es[i0].dst ∧ cm es f 1 (fun i=>i ≠ i0) b n l
 have h1:=stuck (B:=fun b=>b = es[i0].dst) hS hf.inb;have hx:S es[i0].src = true:=(hS _).2 fun ⟨b,l,e,hl⟩=>hn ⟨l,e ▸ hl⟩
 have hy:S es[i0].dst = false:=by
  cases hd:S es[i0].dst
  ·rfl
  ·exact absurd ⟨_,_,rfl, .nil⟩ ((hS _).1 hd)
 have h2:=sX S (i0:=i0) es 0 f g (fun k hk hne=>by rw [Nat.zero_add] at hne ⊢; exact h1 k hk hne) (fun k hk=>by rw [Nat.zero_add]; exact hg.inb k hk);rw [(hf.cut h S).1,(hg.cut h S).1,dif_pos (by omega),dif_pos (by omega)] at h2;simp only [Nat.sub_zero,tO,hx,hy] at h2;simp at h2;omega
theorem Ex {N:Nat} {es:List aA} (h:gr N es) {f g:Nat → Int} (hf:bh N es f) (hg:bh N es g) {i0:Nat} (hi:i0 < es.length)
  (hn:¬ ∃ l,cm es f 1 (fun i=>i ≠ i0) es[i0].src es[i0].dst l):g i0 ≤ f i0:=by
 obtain ⟨S,hS⟩:=A7 fun n=>¬ ∃ b l,b = es[i0].src ∧ cm es f 1 (fun i=>i ≠ i0) b n l
 have h1:=stuck (B:=fun b=>b = es[i0].src) hS hf.inb;have hx:S es[i0].dst = true:=(hS _).2 fun ⟨b,l,e,hl⟩=>hn ⟨l,e ▸ hl⟩
 have hy:S es[i0].src = false:=by
  cases hd:S es[i0].src
  ·rfl
  ·exact absurd ⟨_,_,rfl, .nil⟩ ((hS _).1 hd)
 have h2:=sX S (i0:=i0) es 0 f g (fun k hk hne=>by rw [Nat.zero_add] at hne ⊢; exact h1 k hk hne) (fun k hk=>by rw [Nat.zero_add]; exact hg.inb k hk);rw [(hf.cut h S).1,(hg.cut h S).1,dif_pos (by omega),dif_pos (by omega)] at h2;simp only [Nat.sub_zero,tO,hx,hy] at h2;simp at h2;omega
structure av where
 kind:Int
 place:Int
 lo:Int
 hi:Int
structure ak where
 kind:Int
 src:Int
 dst:Int
 kilos:Int
 copy:Int
structure ab where
 kinds:List ByteArray
 places:List ByteArray
 first:List av
 papers:List ak
 last:List av
def aO (l:List av) (k p:Int):Option av:=l.find? fun c=>decide (c.kind = k) && decide (c.place = p)
def loC (o:Option av):Int:=match o with
 | some c=>c.lo
 | none=>0
def hiC (o:Option av):Int:=match o with
 | some c=>c.hi
 | none=>0
def aq:Int:=1099511627776
def bY (p:ak) (i:Nat):Bool:=decide (p.copy < 0) || decide ((i:Int) < p.copy)
def cJ (y:ab) (i:Nat):Int:=match y.papers[i]? with
 | some p=>p.kilos
 | none=>0
def bo (y:ab) (wrong:List Nat) (p:ak) (i:Nat):Int × Int:=
 if p.copy < 0 then (if i ∈ wrong then (0,1000000) else (p.kilos,p.kilos))
 else if ¬ min i p.copy.toNat ∈ wrong then (cJ y (min i p.copy.toNat),cJ y (min i p.copy.toNat))
 else if ¬ max i p.copy.toNat ∈ wrong then (cJ y (max i p.copy.toNat),cJ y (max i p.copy.toNat))
 else (0,1000000)
structure b7 where
 src:Int
 dst:Int
 lo:Int
 hi:Int
def fX (al:ak → Nat → Int × Int) (k:Int):List ak → Nat → List b7
 | [],_=>[]
 | p :: r,i=>if p.kind = k ∧ bY p i = true then ⟨p.src,p.dst,(al p i).1,(al p i).2⟩ :: fX al k r (i + 1) else fX al k r (i + 1)
/-! ### what places have -/
def amg (A:Nat → Bool) (at':Int):Bool:=decide (0 ≤ at') && A at'.toNat
def dN (A:Nat → Bool) (n:Nat) (g:Nat → Int):Int:=eD n fun a=>if A a then g a else 0
def jLo (A:Nat → Bool) (j:b7):Int:=(if amg A j.dst && !amg A j.src then j.lo else 0) - (if amg A j.src && !amg A j.dst then j.hi else 0)
def jHi (A:Nat → Bool) (j:b7):Int:=(if amg A j.dst && !amg A j.src then j.hi else 0) - (if amg A j.src && !amg A j.dst then j.lo else 0)
def cL (g:b7 → Int):List b7 → Int
 | []=>0
 | j :: r=>g j + cL g r
def rN (A:Nat → Bool) (n:Nat) (y:ab) (k:Int) (js:List b7):Int:=dN A n (fun a=>loC (aO y.first k a)) + cL (jLo A) js
def rM (A:Nat → Bool) (n:Nat) (y:ab) (k:Int) (js:List b7):Int:=dN A n (fun a=>hiC (aO y.first k a)) + cL (jHi A) js
def lb (A:Nat → Bool) (n:Nat) (y:ab) (k:Int):Int:=dN A n fun a=>loC (aO y.last k a)
def nZ (A:Nat → Bool) (n:Nat) (y:ab) (k:Int):Int:=dN A n fun a=>hiC (aO y.last k a)
def da (A:Nat → Bool) (y:ab) (k:Int):Nat → Bool
 | 0=>true
 | n + 1=>da A y k n && (!A n || (aO y.last k n).isSome)
def fF (A:Nat → Bool) (n:Nat) (y:ab) (k:Int) (js:List b7):Int:=if da A y k n then max 0 (rN A n y k js - nZ A n y k) else 0
def cy (A:Nat → Bool) (n:Nat) (y:ab) (k:Int) (js:List b7):Int:=min 0 (rM A n y k js - lb A n y k)
/-! ### the ways -/
def cR (y:ab) (k:Int) (a:Nat):Int:=match aO y.last k a with
 | some c=>c.hi
 | none=>aq
def fE (n:Nat) (at':Int):Nat:=if at' < 0 then n else at'.toNat
def cH (y:ab) (k:Int) (n:Nat):Nat → List aA
 | 0=>[]
 | m + 1=>cH y k n m ++ [⟨n + 1,m,loC (aO y.first k m),hiC (aO y.first k m)⟩,⟨m,n + 1,loC (aO y.last k m),cR y k m⟩]
def bW (n:Nat) (j:b7):aA:=⟨fE n j.src,fE n j.dst,j.lo,j.hi⟩
def aV (y:ab) (k:Int) (n:Nat) (js:List b7) (lo hi:Int):List aA:=cH y k n n ++ js.map (bW n) ++ [⟨n,n + 1,lo,hi⟩]
theorem fN (S:Nat → Bool):∀ (l r:List aA),dA S (l ++ r) = dA S l + dA S r
 | [],r=>by simp [dA]
 | e :: l,r=>by simp only [List.cons_append,dA,fN S l r]; omega
def Big (x:Int):Prop:=0 ≤ x ∧ x ≤ 1000000
structure eV (n:Nat) (j:b7):Prop where
 src:-1 ≤ j.src ∧ j.src < n
 dst:-1 ≤ j.dst ∧ j.dst < n
 ne:j.src ≠ j.dst
 lo:Big j.lo
 hi:Big j.hi
 le:j.lo ≤ j.hi
structure BV (c:av):Prop where
 lo:Big c.lo
 hi:Big c.hi
 le:c.lo ≤ c.hi
structure ml (y:ab):Prop where
 n4:y.places.length ≤ 4
 first:∀ c ∈ y.first,BV c
 last:∀ c ∈ y.last,BV c
theorem cd {l:List av} (h:∀ c ∈ l,BV c) (k p:Int):Big (loC (aO l k p)) ∧ Big (hiC (aO l k p)) ∧ loC (aO l k p) ≤ hiC (aO l k p):=by
 unfold aO
 cases hf:l.find? fun c=>decide (c.kind = k) && decide (c.place = p) with
 | none=>exact ⟨⟨by simp [loC],by simp [loC]⟩,⟨by simp [hiC],by simp [hiC]⟩,by simp [loC,hiC]⟩
 | some c=>
  have:=h c (List.mem_of_find?_eq_some hf);exact ⟨this.lo,this.hi,this.le⟩
theorem iL {y:ab} (h:ml y) (k:Int) (a:Nat):hiC (aO y.last k a) ≤ cR y k a ∧ 0 ≤ cR y k a ∧ cR y k a ≤ aq ∧ loC (aO y.last k a) ≤ cR y k a:=by
 obtain ⟨h1,h2,h3⟩:=cd h.last k a;unfold cR
 cases hf:aO y.last k a with
 | none=>rw [hf] at h1 h2 h3; unfold Big at *; simp only [aq,loC,hiC] at *; omega
 | some c=>rw [hf] at h1 h2 h3; unfold Big at *; simp only [aq,loC,hiC] at *; omega
theorem zu {S:Nat → Bool} {n:Nat} (hn:S n = false) {a:Int} (h:-1 ≤ a):S (fE n a) = amg S a:=by
 unfold fE amg;split
 ·rw [hn]; simp; omega
 ·have:decide (0 ≤ a) = true:=by simp; omega
  rw [this]; simp
theorem vV {S:Nat → Bool} {n:Nat} (hn:S n = true) {a:Int} (h:-1 ≤ a):S (fE n a) = !amg (fun x=>!S x) a:=by
 unfold fE amg;split
 ·rw [hn]; simp; omega
 ·have:decide (0 ≤ a) = true:=by simp; omega
  rw [this]; simp
theorem xd {S:Nat → Bool} {n:Nat} (hn:S n = false):∀ (js:List b7),(∀ j ∈ js,eV n j) → dA S (js.map (bW n)) = cL (jLo S) js
 | [],_=>rfl
 | j :: r,h=>by
  have hj:=h j (by simp);have ih:=xd hn r fun x hx=>h x (by simp [hx])
  simp only [List.map_cons,dA,cL,ih,bW,jLo];rw [zu hn hj.src.1,zu hn hj.dst.1]
theorem tA {S:Nat → Bool} {n:Nat} (hn:S n = true):∀ (js:List b7),(∀ j ∈ js,eV n j) → dA S (js.map (bW n)) = - cL (jHi fun x=>!S x) js
 | [],_=>rfl
 | j :: r,h=>by
  have hj:=h j (by simp);have ih:=tA hn r fun x hx=>h x (by simp [hx])
  simp only [List.map_cons,dA,cL,ih,bW,jHi];rw [vV hn hj.src.1,vV hn hj.dst.1];cases amg (fun x=>!S x) j.src <;> cases amg (fun x=>!S x) j.dst <;> simp <;> omega
theorem sP {S:Nat → Bool} {n:Nat} (hn:S (n + 1) = false) (y:ab) (k:Int):∀ m,dA S (cH y k n m) = dN S m (fun a=>loC (aO y.first k a)) - dN S m (fun a=>cR y k a)
 | 0=>rfl
 | m + 1=>by
  have ih:=sP hn y k m;simp only [cH,fN,ih,dA,hn,dN,eD];cases hm:S m <;> simp <;> omega
theorem qm {S:Nat → Bool} {n:Nat} (hn:S (n + 1) = true) (y:ab) (k:Int):∀ m,dA S (cH y k n m) = dN (fun x=>!S x) m (fun a=>loC (aO y.last k a)) - dN (fun x=>!S x) m (fun a=>hiC (aO y.first k a))
 | 0=>rfl
 | m + 1=>by
  have ih:=qm hn y k m;simp only [cH,fN,ih,dA,hn,dN,eD];cases hm:S m <;> simp <;> omega
theorem gl {A:Nat → Bool} {g:Nat → Int} {c:Int} (hc:0 ≤ c) (h:∀ a,0 ≤ g a ∧ g a ≤ c):∀ n:Nat,0 ≤ dN A n g ∧ dN A n g ≤ n * c
 | 0=>by simp [dN,eD]
 | n + 1=>by
  obtain ⟨h1,h2⟩:=gl (A:=A) hc h n;have h3:=h n;simp only [dN,eD] at h1 h2 ⊢;have e:((n + 1:Nat):Int) * c = n * c + c:=by rw [Int.natCast_add,Int.add_mul]; simp
  rw [e];cases A n <;> simp <;> omega
theorem uj {A:Nat → Bool} {n:Nat}:∀ js:List b7,(∀ j ∈ js,eV n j) → - (js.length * 1000000:Int) ≤ cL (jLo A) js ∧ cL (jLo A) js ≤ js.length * 1000000 ∧ - (js.length * 1000000:Int) ≤ cL (jHi A) js ∧ cL (jHi A) js ≤ js.length * 1000000
 | [],_=>by simp [cL]
 | j :: r,h=>by
  have ih:=uj (A:=A) r fun x hx=>h x (by simp [hx])
  have hj:=h j (by simp);have h1:=hj.lo;have h2:=hj.hi;unfold Big at h1 h2;simp only [cL,jLo,jHi,List.length_cons];cases amg A j.src <;> cases amg A j.dst <;> simp <;> omega
theorem iS {A:Nat → Bool} {y:ab} {k:Int}:∀ {n},da A y k n = true → dN A n (fun a=>cR y k a) = nZ A n y k
 | 0,_=>rfl
 | n + 1,h=>by
  simp only [da,Bool.and_eq_true] at h;have ih:=iS h.1;simp only [nZ,dN,eD] at ih ⊢;rw [ih];have h2:=h.2;cases hA:A n
  ·simp
  ·rw [hA] at h2
   cases hf:aO y.last k n with
   | none=>rw [hf] at h2; simp at h2
   | some c=>simp [cR,hf,hiC]
theorem mJ {A:Nat → Bool} {y:ab} (hy:ml y) {k:Int}:∀ {n},da A y k n = false → aq ≤ dN A n (fun a=>cR y k a)
 | 0,h=>by simp [da] at h
 | n + 1,h=>by
  have hnn:=(gl (A:=A) (g:=fun a=>cR y k a) (c:=aq) (by simp [aq]) (fun a=>⟨(iL hy k a).2.1,(iL hy k a).2.2.1⟩) n).1;have h0:=(iL hy k n).2.1;simp only [da,Bool.and_eq_false_iff] at h;rcases h with h | h
  ·have ih:=mJ hy h;simp only [dN,eD] at ih ⊢;cases A n <;> simp <;> omega
  ·cases hA:A n
   ·rw [hA] at h; simp at h
   ·rw [hA] at h
    cases hf:aO y.last k n with
    | none=>
     have e:cR y k n = aq:=by simp [cR,hf]
     simp only [dN,eD] at hnn ⊢;rw [hA,e]; simp; omega
    | some c=>rw [hf] at h; simp at h
theorem cD {A B:Nat → Bool} (g:Nat → Int) {n:Nat} (h:∀ a,a < n → A a = B a):dN A n g = dN B n g:=
 e9 n fun a ha=>by rw [h a ha]
theorem iF {A B:Nat → Bool} {y:ab} {k:Int}:∀ {n:Nat},(∀ a,a < n → A a = B a) → da A y k n = da B y k n
 | 0,_=>rfl
 | n + 1,h=>by simp only [da]; rw [iF fun a ha=>h a (by omega),h n (by omega)]
theorem vN {A B:Nat → Bool} {n:Nat} (h:∀ a,a < n → A a = B a) {x:Int} (h1:x < n):amg A x = amg B x:=by
 unfold amg;rcases Int.lt_or_le x 0 with h2 | h2
 ·rw [decide_eq_false (by omega)]; simp
 ·rw [h x.toNat (by omega)]
theorem uq {A B:Nat → Bool} {n:Nat} (h:∀ a,a < n → A a = B a):∀ {js:List b7},(∀ j ∈ js,eV n j) → cL (jLo A) js = cL (jLo B) js ∧ cL (jHi A) js = cL (jHi B) js
 | [],_=>⟨rfl,rfl⟩
 | j :: r,hj=>by
  obtain ⟨h1,h2⟩:=uq h (js:=r) fun x hx=>hj x (by simp [hx])
  have h3:=hj j (by simp);simp only [cL,jLo,jHi];rw [h1,h2,vN h h3.src.2,vN h h3.dst.2];exact ⟨rfl,rfl⟩
theorem gC {A B:Nat → Bool} {n:Nat} (h:∀ a,a < n → A a = B a) (y:ab) (k:Int) {js:List b7} (hj:∀ j ∈ js,eV n j):fF A n y k js = fF B n y k js ∧ cy A n y k js = cy B n y k js:=by
 obtain ⟨h1,h2⟩:=uq h hj;unfold fF cy rN rM lb nZ;rw [iF h,cD _ h,cD _ h,cD _ h,cD _ h,h1,h2];exact ⟨rfl,rfl⟩
theorem yy {n:Nat} {a:Int} (h:-1 ≤ a ∧ a < n):fE n a < n + 2:=by unfold fE; split <;> omega
theorem FQ {y:ab} (hy:ml y) (k:Int) (n:Nat):∀ m,m ≤ n → ∀ e ∈ cH y k n m,(e.src < n + 2 ∧ e.dst < n + 2) ∧ e.src ≠ e.dst ∧ e.low ≤ e.high
 | 0,_,e,he=>by simp [cH] at he
 | m + 1,hm,e,he=>by
  simp only [cH,List.mem_append,List.mem_cons,List.not_mem_nil,or_false] at he;rcases he with he | rfl | rfl
  ·exact FQ hy k n m (by omega) e he
  ·exact ⟨⟨by dsimp only; omega,by dsimp only; omega⟩,by dsimp only; omega,(cd hy.first k m).2.2⟩
  ·exact ⟨⟨by dsimp only; omega,by dsimp only; omega⟩,by dsimp only; omega,(iL hy k m).2.2.2⟩
theorem xm {y:ab} (hy:ml y) (k:Int) {n:Nat} {js:List b7} (hj:∀ j ∈ js,eV n j) {lo hi:Int} (hlh:lo ≤ hi):gr (n + 2) (aV y k n js lo hi):=by
 have key:∀ e ∈ aV y k n js lo hi,(e.src < n + 2 ∧ e.dst < n + 2) ∧ e.src ≠ e.dst ∧ e.low ≤ e.high:=by
  intro e he;simp only [aV,List.mem_append,List.mem_cons,List.not_mem_nil,or_false] at he;rcases he with (he | he) | rfl
  ·exact FQ hy k n n (Nat.le_refl _) e he
  ·obtain ⟨j,hjm,rfl⟩:=List.mem_map.1 he;have h:=hj j hjm;refine ⟨⟨yy h.src,yy h.dst⟩, ?_,h.le⟩;have h1:=h.src;have h2:=h.dst;have h3:=h.ne;simp only [bW,fE]
   split <;> split <;> omega
  ·exact ⟨⟨by dsimp only; omega,by dsimp only; omega⟩,by dsimp only; omega,hlh⟩
 exact ⟨fun e he=>(key e he).1,fun e he=>(key e he).2.1,fun e he=>(key e he).2.2⟩
theorem gY {S:Nat → Bool} {y:ab} {k:Int} {n:Nat} {js:List b7} (hj:∀ j ∈ js,eV n j) {lo hi:Int} :
  (S n = false → S (n + 1) = false → dA S (aV y k n js lo hi) = rN S n y k js - dN S n (fun a=>cR y k a)) ∧
  (S n = true → S (n + 1) = true → dA S (aV y k n js lo hi) = lb (fun x=>!S x) n y k - rM (fun x=>!S x) n y k js):=by
 constructor
 ·intro h1 h2;simp only [aV,fN,sP h2,xd h1 js hj,dA,h1,h2,rN];simp; omega
 ·intro h1 h2;simp only [aV,fN,qm h2,tA h1 js hj,dA,h1,h2,rM,lb];simp; omega
theorem Ip {A:Nat → Bool} {y:ab} (hy:ml y) {k:Int} {n:Nat} (hn:n ≤ 4) {js:List b7} (hj:∀ j ∈ js,eV n j) (hl:js.length ≤ 10) :
  rN A n y k js ≤ 14000000 ∧ -14000000 ≤ rM A n y k js:=by
 have h1:=(gl (A:=A) (g:=fun a=>loC (aO y.first k a)) (c:=1000000) (by omega) (fun a=>(cd hy.first k a).1) n).2;have h2:=(gl (A:=A) (g:=fun a=>hiC (aO y.first k a)) (c:=1000000) (by omega) (fun a=>(cd hy.first k a).2.1) n).1;have h3:=uj (A:=A) js hj;unfold rN rM;omega
theorem Du {y:ab} (hy:ml y) {k:Int} {n:Nat} (hn:n ≤ 4) {js:List b7} (hj:∀ j ∈ js,eV n j) (hl:js.length ≤ 10) :
  (∃ f,bh (n + 2) (aV y k n js (-aq) aq) f) ↔ ∀ A,fF A n y k js = 0 ∧ cy A n y k js = 0:=by
 rw [yI (xm hy k hj (by simp [aq]))];constructor
 ·intro h A;constructor
  ·have hS:=gC (A:=A) (B:=fun x=>decide (x < n) && A x) (n:=n) (fun a ha=>by simp [ha]) y k hj;rw [hS.1];generalize hB:(fun x=>decide (x < n) && A x) = B;have hBn:B n = false:=by rw [← hB]; simp
   have hBn1:B (n + 1) = false:=by
    rw [← hB];show (decide (n + 1 < n) && A (n + 1)) = false
    rw [decide_eq_false (by omega)]; rfl
   have h1:=h B;rw [(gY hj).1 hBn hBn1] at h1;unfold fF;split
   ·rename_i hw;rw [iS hw] at h1; omega
   ·rfl
  ·have hS:=gC (A:=A) (B:=fun x=>!(decide (n ≤ x) || !A x)) (n:=n) (fun a ha=>by simp; omega) y k hj;rw [hS.2];generalize hB:(fun x=>decide (n ≤ x) || !A x) = B;have hBn:B n = true:=by rw [← hB]; simp
   have hBn1:B (n + 1) = true:=by rw [← hB]; simp
   have h1:=h B;rw [(gY hj).2 hBn hBn1] at h1;have e:(fun x=>!(decide (n ≤ x) || !A x)) = fun x=>!B x:=by rw [← hB]
   rw [e];unfold cy;omega
 ·intro h S;have hb:=fun A=>Ip (A:=A) hy (k:=k) hn hj hl
  cases h1:S n <;> cases h2:S (n + 1)
  ·rw [(gY hj).1 h1 h2];have h3:=(h S).1;unfold fF at h3
   split at h3
   ·rename_i hw; rw [iS hw]; omega
   ·rename_i hw;have h4:=mJ hy (k:=k) (A:=S) (n:=n) (by simpa using hw);have h5:=(hb S).1;unfold aq at h4;omega
  ·-- the hub, not the outside
   have e:dA S (aV y k n js (-aq) aq) = dN (fun x=>!S x) n (fun a=>loC (aO y.last k a)) - dN (fun x=>!S x) n (fun a=>hiC (aO y.first k a)) + cL (jLo S) js - aq:=by
    simp only [aV,fN,qm h2,xd h1 js hj,dA,h1,h2];simp; omega
   have a1:=(gl (A:=fun x=>!S x) (g:=fun a=>loC (aO y.last k a)) (c:=1000000) (by omega) (fun a=>(cd hy.last k a).1) n).2;have a2:=(gl (A:=fun x=>!S x) (g:=fun a=>hiC (aO y.first k a)) (c:=1000000) (by omega) (fun a=>(cd hy.first k a).2.1) n).1;have a3:=uj (A:=S) js hj;rw [e];unfold aq;omega
  ·have e:dA S (aV y k n js (-aq) aq) = dN S n (fun a=>loC (aO y.first k a)) - dN S n (fun a=>cR y k a) - cL (jHi fun x=>!S x) js - aq:=by
    simp only [aV,fN,sP h2,tA h1 js hj,dA,h1,h2];simp; omega
   have a1:=(gl (A:=S) (g:=fun a=>loC (aO y.first k a)) (c:=1000000) (by omega) (fun a=>(cd hy.first k a).1) n).2;have a2:=(gl (A:=S) (g:=fun a=>cR y k a) (c:=aq) (by simp [aq]) (fun a=>⟨(iL hy k a).2.1,(iL hy k a).2.2.1⟩) n).1;have a3:=uj (A:=fun x=>!S x) js hj;rw [e];unfold aq at *;omega
  ·rw [(gY hj).2 h1 h2];have h3:=(h fun x=>!S x).2;unfold cy at h3;omega
/-! ### places az bits -/
def b6 (P:Nat):Nat → Bool:=fun a=>P.testBit a
theorem xP (A:Nat → Bool):∀ n, ∃ P,P < 2 ^ n ∧ ∀ a,a < n → b6 P a = A a
 | 0=>⟨0,by simp,fun a h=>by omega⟩
 | n + 1=>by
  obtain ⟨P,h1,h2⟩:=xP A n;cases hA:A n
  ·refine ⟨P,by rw [Nat.pow_succ]; omega,fun a ha=>?_⟩;rcases Nat.lt_or_ge a n with h | h
   ·exact h2 a h
   ·obtain rfl:a = n:=by omega
    rw [hA]; exact Nat.testBit_lt_two_pow h1
  ·refine ⟨2 ^ n + P,by rw [Nat.pow_succ]; omega,fun a ha=>?_⟩;unfold b6 at h2 ⊢;rcases Nat.lt_or_ge a n with h | h
   ·rw [Nat.testBit_two_pow_add_gt h]; exact h2 a h
   ·obtain rfl:a = n:=by omega
    rw [hA,Nat.testBit_two_pow_add_eq,Nat.testBit_lt_two_pow h1]; rfl
theorem CH (n:Nat) (y:ab) (k:Int) (js:List b7):fF (b6 0) n y k js = 0 ∧ cy (b6 0) n y k js = 0:=by
 have hb:b6 0 = fun _=>false:=by funext a; simp [b6]
 have hs:∀ g n,dN (fun _=>false) n g = 0:=fun g n=>by unfold dN; simp [fB]
 have hj:∀ js,cL (jLo fun _=>false) js = 0 ∧ cL (jHi fun _=>false) js = 0:=by
  intro js
  induction js with
  | nil=>exact ⟨rfl,rfl⟩
  | cons j r ih=>simp [cL,jLo,jHi,amg,ih]
 rw [hb];unfold fF cy rN rM lb nZ;simp only [hs,(hj js).1,(hj js).2];simp
theorem vL {y:ab} (hy:ml y) {k:Int} {n:Nat} (hn:n ≤ 4) {js:List b7} (hj:∀ j ∈ js,eV n j) (hl:js.length ≤ 10) :
  (∃ f,bh (n + 2) (aV y k n js (-aq) aq) f) ↔ ∀ P,1 ≤ P → P < 2 ^ n → fF (b6 P) n y k js = 0 ∧ cy (b6 P) n y k js = 0:=by
 rw [Du hy hn hj hl];constructor
 ·intro h P _ _;exact h _
 ·intro h A;obtain ⟨P,h1,h2⟩:=xP A n;have hc:=gC (A:=A) (B:=b6 P) (n:=n) (fun a ha=>(h2 a ha).symm) y k hj;rw [hc.1,hc.2];rcases Nat.eq_zero_or_pos P with h0 | h0
  ·subst h0; exact CH n y k js
  ·exact h P h0 h1
end Go.AM
