/- Lists of papers in order, az the program goes through them. Plain; for the walks of lists, Fewest, least, May, Lists. Lines of ways that are found from a node, one node after the other; pushing .. -/
import Derived.Test.YtlmhkldmpggadaaGreatDoorP29
import Derived.Test.YtlmhkldmpggadaaGreatDoorP25
import Derived.Test.YtlmhkldmpggadaaGreatDoorP26
import Derived.Test.YtlmhkldmpggadaaGreatDoorP28
namespace Go.AM
theorem FC {m many a:Nat} (h:m < a + many + 1):eR m (many + 1) a = []:=by
 apply List.eq_nil_iff_forall_not_mem.2;intro l hl;obtain ⟨h1,h2⟩:=(nf m (many + 1) a l).1 hl
 cases l with
 | nil=>simp at h1
 | cons x r=>
  have:=vx h2;have hx:=h2.2 x (by simp);omega
theorem BG {m many a:Nat} (h:a < m):eR m (many + 1) a = ((eR m many (a + 1)).map fun l=>a :: l) ++ eR m (many + 1) (a + 1):=by
 simp only [eR];obtain ⟨d,hd⟩:∃ d,m - a = d + 1:=⟨m - a - 1,by omega⟩;rw [hd,show m - (a + 1) = d by omega,List.range'_succ,List.flatMap_cons]
theorem K4 {m many a:Nat} (h:m ≤ a):eR m (many + 1) a = []:=by simp [eR,Nat.sub_eq_zero_of_le h]
def fy (l:List Nat) (ls:List (List Nat)):List (List Nat):=ls.map fun r=>l ++ r
theorem ahead_zero (l:List Nat) (m a:Nat):fy l (eR m 0 a) = [l]:=by simp [fy,eR]
theorem vR (l:List Nat) {m many a:Nat} (h:a < m):fy l (eR m (many + 1) a) = fy (l ++ [a]) (eR m many (a + 1)) ++ fy l (eR m (many + 1) (a + 1)):=by
 rw [BG h];simp [fy,Function.comp_def]
theorem GO (l:List Nat) {m many a:Nat} (h:m < a + many + 1):fy l (eR m (many + 1) a) = []:=by
 rw [FC h]; rfl
def qH (m:Nat):List (List Nat):=(List.range (m + 1)).flatMap fun many=>eR m many 0
theorem yU {α β:Type} (f:α → List β) (p:β → Bool):∀ l:List α,(l.flatMap f).find? p = l.findSome? fun a=>(f a).find? p
 | []=>rfl
 | a :: r=>by
  rw [List.flatMap_cons,List.find?_append,List.findSome?_cons,yU f p r];cases (f a).find? p <;> rfl
theorem D8 (y:ab):AN y = (qH y.papers.length).find? (aP y):=by
 unfold AN qH; rw [yU]
def kB (c:List Nat → Bool):List (List Nat) → List (List Nat) → List (List Nat)
 | [],sets=>sets
 | l :: r,sets=>if ∃ s,sets.head? = some s ∧ s.length < l.length then sets else kB c r (if c l then sets ++ [l] else sets)
theorem qT (c:List Nat → Bool) (n:Nat) (R:List (List Nat)):∀ (B sets:List (List Nat)),(∀ l ∈ B,l.length = n) → (∀ s ∈ sets,s.length = n) → kB c (B ++ R) sets = kB c R (sets ++ B.filter c)
 | [],sets,_,_=>by simp
 | l :: B,sets,h1,h2=>by
  have hl:=h1 l (by simp);rw [List.cons_append,kB,if_neg]
  ·have hB:∀ l ∈ B,l.length = n:=fun x hx=>h1 x (by simp [hx])
   cases hc:c l with
   | true=>
    rw [if_pos rfl,qT c n R B (sets ++ [l]) hB,List.filter_cons_of_pos (by simp [hc])]
    ·simp
    ·intro s hs;rcases List.mem_append.1 hs with h | h
     ·exact h2 s h
     ·rw [List.mem_singleton.1 h]; exact hl
   | false=>rw [if_neg (by decide),qT c n R B sets hB h2,List.filter_cons_of_neg (by simp [hc])]
  ·rintro ⟨s,hs,hlt⟩;have:=h2 s (List.mem_of_mem_head? hs);omega
theorem Gq (c:List Nat → Bool) {n:Nat} {sets:List (List Nat)} (hs:∀ s ∈ sets,s.length = n) (hne:sets ≠ []):∀ R:List (List Nat),(∀ l ∈ R,n < l.length) → kB c R sets = sets
 | [],_=>rfl
 | l :: R,h=>by
  obtain ⟨s,r,rfl⟩:=List.exists_cons_of_ne_nil hne;rw [kB,if_pos ⟨s,rfl,by rw [hs s (by simp)]; exact h l (by simp)⟩]
theorem A8 (y:ab) (m:Nat) (hm:m = y.papers.length):∀ d k,k + d = m + 1 → kB (aP y) ((List.range' k d).flatMap fun many=>eR m many 0) [] = ((List.range' k d).findSome? fun many=>if atW y many = [] then none else some (atW y many)).getD []
 | 0,k,_=>rfl
 | d + 1,k,h=>by
  rw [List.range'_succ,List.flatMap_cons,List.findSome?_cons,qT (aP y) k _ _ _ (fun l hl=>((nf m k 0 l).1 hl).1) (by simp),List.nil_append];have e:(eR m k 0).filter (aP y) = atW y k:=by unfold atW; rw [hm]
  rw [e];by_cases h0:atW y k = []
  ·rw [h0,if_pos rfl]; exact A8 y m hm d (k + 1) (by omega)
  ·rw [if_neg h0];refine Gq (aP y) (n:=k) (fun s hs=>?_) h0 _ fun l hl=>?_
   ·rw [← e] at hs; exact ((nf m k 0 s).1 (List.mem_filter.1 hs).1).1
   ·obtain ⟨j,hj,hl⟩:=List.mem_flatMap.1 hl;rw [List.mem_range'_1] at hj;have:=((nf m j 0 l).1 hl).1;omega
theorem DO (y:ab):kB (aP y) (qH y.papers.length) [] = (mN y).getD []:=by
 unfold qH mN;rw [List.range_eq_range',A8 y _ rfl _ 0 (by omega)]
theorem Cu:∀ {a b:List Nat},a.Pairwise (· < ·) → b.Pairwise (· < ·) → (∀ x,x ∈ a ↔ x ∈ b) → a = b
 | [],[],_,_,_=>rfl
 | [],x :: b,_,_,h=>absurd ((h x).2 (by simp)) (by simp)
 | x :: a,[],_,_,h=>absurd ((h x).1 (by simp)) (by simp)
 | x :: a,z :: b,ha,hb,h=>by
  obtain ⟨a1,a2⟩:=List.pairwise_cons.1 ha;obtain ⟨b1,b2⟩:=List.pairwise_cons.1 hb;have e:x = z:=by
   rcases List.mem_cons.1 ((h x).1 (by simp)) with e | e
   ·exact e
   ·rcases List.mem_cons.1 ((h z).2 (by simp)) with e' | e'
    ·exact e'.symm
    ·have:=b1 x e; have:=a1 z e'; omega
  subst e;refine congrArg _ (Cu a2 b2 fun w=>?_);constructor
  ·intro hw;rcases List.mem_cons.1 ((h w).1 (by simp [hw])) with e | e
   ·have:=a1 w hw; omega
   ·exact e
  ·intro hw;rcases List.mem_cons.1 ((h w).2 (by simp [hw])) with e | e
   ·have:=b1 w hw; omega
   ·exact e
theorem Di {y:ab} {ls:List (List Nat)} (hb:∀ l ∈ ls, ∀ i ∈ l,i < y.papers.length) {r:List Nat} (ha:r.Pairwise (· < ·)) (hr:∀ x,x ∈ r ↔ x ∈ ls.flatten):r = Kq y ls:=by
 refine Cu ha (za _ _).1 fun x=>?_;rw [hr,Kt,List.mem_flatten];constructor
 ·rintro ⟨l,h1,h2⟩; exact ⟨hb l h1 x h2,l,h1,h2⟩
 ·rintro ⟨_,l,h1,h2⟩; exact ⟨l,h1,h2⟩
structure mG (es:List aI) (f:Nat → Int) (k:Int) (P:Nat → Prop) (b a:Nat) (l:List Nat) (f':Nat → Int):Prop where
 inb:InB es f'
 net:∀ n,aS n es 0 f' = aS n es 0 f - (if n = a then k else 0) + (if n = b then k else 0)
 out:∀ j,f' j ≠ f j → P j ∧ ∃ h:j < es.length,es[j].src ∈ l ∧ es[j].dst ∈ l
theorem mG.nil {es:List aI} {f:Nat → Int} (k:Int) (P:Nat → Prop) (b:Nat) (hb:InB es f):mG es f k P b b [b] f:=
 ⟨hb,fun n=>by omega,fun j hj=>absurd rfl hj⟩
theorem mG.cons {es:List aI} {f f':Nat → Int} {k:Int} (hk:0 ≤ k) {P:Nat → Prop} {b a c i:Nat} {l:List Nat} (hne:∀ e ∈ es,e.src ≠ e.dst) (hs:fC es f k i a c) (hp:P i) (h:mG es f k P b c l f') (hcl:c ∈ l) (ha:a ∉ l) :
  ∃ hi:i < es.length,f' i = f i ∧ mG es f k P b a (a :: l) (cG f' i (if es[i].src = a then k else -k)):=by
 obtain ⟨h1,h2,h3⟩:=h;obtain ⟨hi,hs⟩:=hs;have hfi:f' i = f i:=by
  by_cases e:f' i = f i
  ·exact e
  ·obtain ⟨_,_,h4,h5⟩:=h3 i e;rcases hs with ⟨e1,_,_⟩ | ⟨e1,_,_⟩
   ·rw [e1] at h4; exact absurd h4 ha
   ·rw [e1] at h5; exact absurd h5 ha
 have hni:=hne es[i] (List.getElem_mem hi);refine ⟨hi,hfi, ?_, ?_, ?_⟩
 ·intro j hj;have:=h1 j hj;unfold cG;split
  ·rename_i e; subst e;rw [hfi] at this ⊢;rcases hs with ⟨e1,e2,e3⟩ | ⟨e1,e2,e3⟩
   ·rw [if_pos e1]; omega
   ·rw [if_neg (by rw [← e1]; exact hni)]; omega
  ·exact this
 ·intro n;rcases hs with ⟨e1,e2,e3⟩ | ⟨e1,e2,e3⟩
  ·have hv:(if es[i].src = a then k else -k) = k:=if_pos e1;rw [hv,iT,h2 n,dif_pos (by omega)];simp only [Nat.sub_zero,e1,e2];rw [e1,e2] at hni;by_cases n1:n = a <;> by_cases n2:n = c
   ·omega
   ·simp [n1,Ne.symm hni]; omega
   ·simp [n2,hni,Ne.symm hni]; omega
   ·rw [if_neg (Ne.symm n2),if_neg (Ne.symm n1),if_neg n2,if_neg n1]; omega
  ·have hv:(if es[i].src = a then k else -k) = -k:=if_neg (by rw [← e1]; exact hni);rw [hv,iT,h2 n,dif_pos (by omega)];simp only [Nat.sub_zero,e1,e2];rw [e1,e2] at hni;by_cases n1:n = a <;> by_cases n2:n = c
   ·omega
   ·simp [n1,hni]; omega
   ·simp [n2,hni,Ne.symm hni]; omega
   ·rw [if_neg (Ne.symm n1),if_neg (Ne.symm n2),if_neg n2,if_neg n1]; omega
 ·intro j hj;by_cases e:j = i
  ·subst e;refine ⟨hp,hi, ?_⟩;rcases hs with ⟨e1,e2,_⟩ | ⟨e1,e2,_⟩ <;> rw [e1,e2] <;> simp [hcl]
  ·unfold cG at hj;rw [if_neg e] at hj;obtain ⟨q1,q2,q3,q4⟩:=h3 j hj;exact ⟨q1,q2,List.mem_cons_of_mem _ q3,List.mem_cons_of_mem _ q4⟩
theorem fC.mono {es:List aI} {f:Nat → Int} {k k':Int} {i a c:Nat} (h:fC es f k i a c) (hk:k' ≤ k):fC es f k' i a c:=by
 obtain ⟨hi,h⟩:=h;exact ⟨hi,h.imp (fun ⟨h1,h2,h3⟩=>⟨h1,h2,by omega⟩) (fun ⟨h1,h2,h3⟩=>⟨h1,h2,by omega⟩)⟩
theorem dj.mono {es:List aI} {f:Nat → Int} {k k':Int} {P:Nat → Prop} {b a:Nat} {l:List Nat} (h:dj es f k P b a l) (hk:k' ≤ k):dj es f k' P b a l:=by
 induction h with
 | nil=>exact .nil
 | cons h1 hp _ h3 ih=>exact .cons (h1.mono hk) hp ih h3
theorem dj.head {es:List aI} {f:Nat → Int} {k:Int} {P:Nat → Prop} {b a:Nat} {l:List Nat} (h:dj es f k P b a l):a ∈ l ∧ b ∈ l:=by
 induction h with
 | nil=>simp
 | cons _ _ _ _ ih=>exact ⟨by simp,List.mem_cons_of_mem _ ih.2⟩
inductive iD (es:List aI) (f:Nat → Int) (P:Nat → Prop) (s:Nat) (by':Nat → Int):List Nat → Prop
 | root:by' s = -1 → iD es f P s by' [s]
 | add {L:List Nat} {x p i:Nat}:iD es f P s by' L → x ∉ L → p ∈ L → fC es f 1 i p x → P i → by' x = (i:Int) + 1 → iD es f P s by' (x :: L)
theorem iD.suffix {es:List aI} {f:Nat → Int} {P:Nat → Prop} {s:Nat} {by':Nat → Int} {L:List Nat} (h:iD es f P s by' L) {x:Nat} (hx:x ∈ L):∃ L1 L2,L = L1 ++ x :: L2 ∧ iD es f P s by' (x :: L2):=by
 induction h with
 | root h0=>rw [List.mem_singleton.1 hx]; exact ⟨[],[],rfl, .root h0⟩
 | @add L y p i h1 h2 h3 h4 h5 h6 ih=>
  rcases List.mem_cons.1 hx with rfl | hx
  ·exact ⟨[],L,rfl, .add h1 h2 h3 h4 h5 h6⟩
  ·obtain ⟨L1,L2,e,h⟩:=ih hx;exact ⟨y :: L1,L2,by rw [e]; rfl,h⟩
theorem iD.start {es:List aI} {f:Nat → Int} {P:Nat → Prop} {s:Nat} {by':Nat → Int} {L:List Nat} (h:iD es f P s by' L):s ∈ L ∧ by' s = -1:=by
 induction h with
 | root h0=>exact ⟨by simp,h0⟩
 | add _ _ _ _ _ _ ih=>exact ⟨List.mem_cons_of_mem _ ih.1,ih.2⟩
theorem iD.congr {es:List aI} {f:Nat → Int} {P:Nat → Prop} {s:Nat} {by' by2:Nat → Int} {L:List Nat} (h:iD es f P s by' L) (hb:∀ x ∈ L,by2 x = by' x):iD es f P s by2 L:=by
 induction h with
 | root h0=>exact .root (by rw [hb _ (by simp),h0])
 | add h1 h2 h3 h4 h5 h6 ih=>exact .add (ih fun x hx=>hb x (List.mem_cons_of_mem _ hx)) h2 h3 h4 h5 (by rw [hb _ (by simp),h6])
theorem iD.nodup {es:List aI} {f:Nat → Int} {P:Nat → Prop} {s:Nat} {by':Nat → Int} {L:List Nat} (h:iD es f P s by' L):L.Nodup:=by
 induction h with
 | root _=>simp
 | add _ h2 _ _ _ _ ih=>exact List.nodup_cons.2 ⟨h2,ih⟩
structure No (es:List aI) (f:Nat → Int) (k:Int) (P:Nat → Prop) (s:Nat) (by':Nat → Int) (b x:Nat) (L l:List Nat):Prop where
 tree:iD es f P s by' (x :: L)
 line:dj es f k P b x l
 new:∀ y ∈ l,y ∉ L
theorem No.step {es:List aI} {f:Nat → Int} {k:Int} {P:Nat → Prop} {s:Nat} {by':Nat → Int} {b x:Nat} {L l:List Nat} (h:No es f k P s by' b x L l) (_hne:∀ e ∈ es,e.src ≠ e.dst) (hx:x ≠ s) :
  ∃ i p:Nat,by' x = (i:Int) + 1 ∧ P i ∧ (∃ hi:i < es.length,(es[i].src = p ∧ es[i].dst = x ∨ es[i].dst = p ∧ es[i].src = x)) ∧ p ∈ L ∧ p ∉ l ∧ p ≠ x ∧ fC es f 1 i p x ∧
   ∀ k',k' ≤ k → fC es f k' i p x → ∃ L',L'.length < L.length ∧ No es f k' P s by' b p L' (p :: l):=by
 obtain ⟨ht,hl,hn⟩:=h
 cases ht with
 | root=>exact absurd rfl hx
 | @add _ _ p i h1 h2 h3 h4 h5 h6=>
  obtain ⟨hi,h4'⟩:=h4;have hpl:p ∉ l:=fun hp=>hn p hp h3;refine ⟨i,p,h6,h5,⟨hi,h4'.imp (fun h=>⟨h.1,h.2.1⟩) (fun h=>⟨h.1,h.2.1⟩)⟩,h3,hpl,fun e=>h2 (e ▸ h3),⟨hi,h4'⟩,fun k' hk hs=>?_⟩;obtain ⟨L1,L2,e,h7⟩:=h1.suffix h3;have hnd:=h1.nodup;refine ⟨L2,by rw [e]; simp; omega,h7, .cons hs h5 (hl.mono hk) hpl,fun y hy hyL=>?_⟩;rcases List.mem_cons.1 hy with rfl | hy
  ·exact (List.nodup_cons.1 h7.nodup).1 hyL
  ·exact hn y hy (by rw [e]; simp [hyL])
theorem GA {es:List aI} {f:Nat → Int} {P:Nat → Prop} {L:List Nat} (hc:∀ x ∈ L, ∀ i y,P i → fC es f 1 i x y → y ∈ L) {b a:Nat} {l:List Nat} (h:dj es f 1 P b a l) (ha:a ∈ L):b ∈ L:=by
 induction h with
 | nil=>exact ha
 | cons h1 hp _ _ ih=>exact ih (hc _ ha _ _ hp h1)
structure la (N:Nat) (es:List aI) (f:Nat → Int) (P:Nat → Prop) (a:Nat) (most:Int) (want:Nat → Int) (k:Int) (to':Nat) (f':Nat → Int):Prop where
 inb:InB es f'
 no:k = 0 → f' = f ∧ ∀ b,b < N → b ≠ a → 0 < want b → ¬ ∃ l,dj es f 1 P b a l
 yes:k ≠ 0 → (0 < k ∧ k ≤ most ∧ k ≤ want to' ∧ to' ≠ a ∧ to' < N) ∧ (∀ n,aS n es 0 f' = aS n es 0 f - (if n = a then k else 0) + (if n = to' then k else 0)) ∧ ∀ j,f' j ≠ f j → P j
theorem la.of {N:Nat} {es:List aI} {f f':Nat → Int} {P:Nat → Prop} {a b:Nat} {most k:Int} {want:Nat → Int} {l:List Nat} (h:mG es f k P b a l f') (hk:0 < k) (h1:k ≤ most) (h2:k ≤ want b) (h3:b ≠ a) (h4:b < N):la N es f P a most want k b f':=
 ⟨h.inb,fun e=>by omega,fun _=>⟨⟨hk,h1,h2,h3,h4⟩,h.net,fun j hj=>(h.out j hj).1⟩⟩
section
variable {N:Nat} {es:List aI} (h:fY N es)
include h
theorem JG {f f':Nat → Int} (hb:InB es f) {a:Nat} (ha:a < N) (h0:0 < aS a es 0 f) {t:Nat} {m:Int} (hp:la N es f (fun _=>True) a m (fun n=>- aS n es 0 f) 0 t f'):¬ ∃ g,bE N es g:=by
 rintro ⟨g,hg⟩;obtain ⟨S,_,hS⟩:=y7 h hb ha h0 fun ⟨b,l,⟨h1,h2⟩,h3⟩=>(hp.no rfl).2 b h1 (fun e=>by subst e; omega) (by omega) ⟨l,h3⟩;have:=(hg.cut h S).2;omega
omit h in
theorem Ia {f f':Nat → Int} {a:Nat} {t:Nat} {k m:Int} (hk:k ≠ 0) (hp:la N es f (fun _=>True) a m (fun n=>- aS n es 0 f) k t f') (hm:m ≤ aS a es 0 f) (hl:∀ n,n < a → aS n es 0 f ≤ 0) :
  InB es f' ∧ (∀ n,n < a → aS n es 0 f' ≤ 0) ∧ 0 ≤ aS a es 0 f' ∧ aS a es 0 f' < aS a es 0 f:=by
 obtain ⟨⟨h1,h2,h3,h4,h5⟩,h6,_⟩:=hp.yes hk;refine ⟨hp.inb,fun n hn=>?_, ?_, ?_⟩
 ·have:=hl n hn;rw [h6 n,if_neg (by omega)];split
  ·rename_i e; subst e; omega
  ·omega
 ·rw [h6 a,if_pos rfl,if_neg (Ne.symm h4)]; omega
 ·rw [h6 a,if_pos rfl,if_neg (Ne.symm h4)]; omega
theorem KL {f:Nat → Int} (hb:InB es f) (hl:∀ n,n < N → aS n es 0 f ≤ 0):bE N es f:=by
 refine ⟨hb,fun a ha=>?_⟩;have h1:=EY h f;have h2:=s9 (g:=fun n=>- aS n es 0 f) (N:=N) (fun n hn=>by have:=hl n hn; omega) ha;have h3:=jx (fun _=>0) (fun n=>aS n es 0 f) N;rw [eV,h1] at h3;have h4:=dK (g:=fun n=>0 - aS n es 0 f) (h:=fun n=>- aS n es 0 f) N (fun n _=>by omega);have:=hl a ha;omega
omit h in
theorem fC.Ga {f g:Nat → Int} {P:Nat → Prop} (he:∀ j,P j → g j = f j) {k:Int} {i a c:Nat} (hp:P i) (hs:fC es f k i a c):fC es g k i a c:=by
 obtain ⟨hi,hs⟩:=hs;exact ⟨hi,by rw [he i hp]; exact hs⟩
omit h in
theorem dj.Ga {f g:Nat → Int} {P:Nat → Prop} (he:∀ j,P j → g j = f j) {k:Int} {b a:Nat} {l:List Nat} (hl:dj es f k P b a l):dj es g k P b a l:=by
 induction hl with
 | nil=>exact .nil
 | cons h1 hp _ h3 ih=>exact .cons (h1.Ga he hp) hp ih h3
structure ov (es:List aI) (f:Nat → Int) (i a b:Nat) (all:Int) (f':Nat → Int):Prop where
 inb:InB es f'
 net:∀ n,aS n es 0 f' = aS n es 0 f - (if n = a then all else 0) + (if n = b then all else 0)
 out:f' i = f i
omit h in
theorem ov.start {f:Nat → Int} (hb:InB es f) (i a b:Nat):ov es f i a b 0 f:=⟨hb,fun n=>by simp,rfl⟩
omit h in
theorem ov.step {f f' f2:Nat → Int} {i a b:Nat} {all k most:Int} {t:Nat} (hl:ov es f i a b all f') (hk:k ≠ 0) (hp:la N es f' (fun j=>j ≠ i) a (most - all) (fun n=>if n = b then most else 0) k t f2) :
  t = b ∧ 0 < k ∧ all + k ≤ most ∧ ov es f i a b (all + k) f2:=by
 obtain ⟨⟨h1,h2,h3,h4,h5⟩,h6,h7⟩:=hp.yes hk;have ht:t = b:=by
  by_cases e:t = b
  ·exact e
  ·rw [if_neg e] at h3; omega
 subst ht;refine ⟨rfl,h1,by omega,hp.inb,fun n=>?_, ?_⟩
 ·rw [h6 n,hl.net n]
  split <;> split <;> omega
 ·rw [← hl.out];exact Classical.byContradiction fun e=>h7 i e rfl
omit h in
theorem ov.stop {f' f2:Nat → Int} {i a b:Nat} {all most:Int} {t:Nat} (hab:0 < most) (hba:b ≠ a) (hbN:b < N) (hp:la N es f' (fun j=>j ≠ i) a (most - all) (fun n=>if n = b then most else 0) 0 t f2) :
  f2 = f' ∧ ¬ ∃ l,dj es f' 1 (fun j=>j ≠ i) b a l:=by
 obtain ⟨h1,h2⟩:=hp.no rfl;exact ⟨h1,h2 b hbN hba (by rw [if_pos rfl]; exact hab)⟩
theorem Ev {f f':Nat → Int} (hc:bE N es f) {i:Nat} (hi:i < es.length) {all:Int} (h0:0 ≤ all) (hm:all ≤ f i - es[i].low) (hl:ov es f i es[i].src es[i].dst all f')
  (hs:all = f i - es[i].low ∨ ¬ ∃ l,dj es f' 1 (fun j=>j ≠ i) es[i].dst es[i].src l) :
  bE N es (cG f' i (-all)) ∧ cG f' i (-all) i = f i - all ∧ ∀ g,bE N es g → f i - all ≤ g i:=by
 have hv:cG f' i (-all) i = f i - all:=by unfold cG; rw [if_pos rfl,hl.out]; omega
 have hne:=h.ne es[i] (List.getElem_mem hi);have hg:bE N es (cG f' i (-all)):=by
  refine ⟨fun j hj=>?_,fun n hn=>?_⟩
  ·by_cases e:j = i
   ·subst e; rw [hv]; have:=hc.inb j hj; omega
   ·have:cG f' i (-all) j = f' j:=by unfold cG; rw [if_neg e]
    rw [this]; exact hl.inb j hj
  ·rw [iT,dif_pos (by omega),hl.net n,hc.net n hn];simp only [Nat.sub_zero];by_cases e1:n = es[i].src <;> by_cases e2:n = es[i].dst
   ·exact absurd (e1.symm.trans e2) hne
   ·rw [if_pos e1,if_neg e2,if_neg (Ne.symm e2),if_pos e1.symm]; omega
   ·rw [if_neg e1,if_pos e2,if_pos e2.symm,if_neg (Ne.symm e1)]; omega
   ·rw [if_neg e1,if_neg e2,if_neg (Ne.symm e2),if_neg (Ne.symm e1)]; omega
 refine ⟨hg,hv,fun g hg'=>?_⟩;rcases hs with e | e
 ·have:=(hg'.inb i hi).1; omega
 ·rw [← hv];refine GP h hg hg' hi fun ⟨l,hl'⟩=>e ⟨l,hl'.Ga fun j hj=>?_⟩;unfold cG; rw [if_neg hj]
theorem CP {f f':Nat → Int} (hc:bE N es f) {i:Nat} (hi:i < es.length) {all:Int} (h0:0 ≤ all) (hm:all ≤ es[i].high - f i) (hl:ov es f i es[i].dst es[i].src all f')
  (hs:all = es[i].high - f i ∨ ¬ ∃ l,dj es f' 1 (fun j=>j ≠ i) es[i].src es[i].dst l) :
  bE N es (cG f' i all) ∧ cG f' i all i = f i + all ∧ ∀ g,bE N es g → g i ≤ f i + all:=by
 have hv:cG f' i all i = f i + all:=by unfold cG; rw [if_pos rfl,hl.out]
 have hne:=h.ne es[i] (List.getElem_mem hi);have hg:bE N es (cG f' i all):=by
  refine ⟨fun j hj=>?_,fun n hn=>?_⟩
  ·by_cases e:j = i
   ·subst e; rw [hv]; have:=hc.inb j hj; omega
   ·have:cG f' i all j = f' j:=by unfold cG; rw [if_neg e]
    rw [this]; exact hl.inb j hj
  ·rw [iT,dif_pos (by omega),hl.net n,hc.net n hn];simp only [Nat.sub_zero];by_cases e1:n = es[i].src <;> by_cases e2:n = es[i].dst
   ·exact absurd (e1.symm.trans e2) hne
   ·rw [if_pos e1,if_neg e2,if_neg (Ne.symm e2),if_pos e1.symm]; omega
   ·rw [if_neg e1,if_pos e2,if_pos e2.symm,if_neg (Ne.symm e1)]; omega
   ·rw [if_neg e1,if_neg e2,if_neg (Ne.symm e2),if_neg (Ne.symm e1)]; omega
 refine ⟨hg,hv,fun g hg'=>?_⟩;rcases hs with e | e
 ·have:=(hg'.inb i hi).2; omega
 ·rw [← hv];refine G6 h hg hg' hi fun ⟨l,hl'⟩=>e ⟨l,hl'.Ga fun j hj=>?_⟩;unfold cG; rw [if_neg hj]
omit h in
theorem Ae {f1 f2:Nat → Int} {i:Nat} {lo hi:Int} (h1:bE N es f1 ∧ f1 i = lo ∧ ∀ g,bE N es g → lo ≤ g i) (h2:bE N es f2 ∧ f2 i = hi ∧ ∀ g,bE N es g → g i ≤ hi):ik N es i lo hi:=
 ⟨⟨f1,h1.1,h1.2.1⟩,⟨f2,h2.1,h2.2.1⟩,fun g hg=>⟨h1.2.2 g hg,h2.2.2 g hg⟩⟩
omit h in
theorem LP {M:Int} (hM:0 ≤ M) (n:Nat) (f:Nat → Int):∀ (es:List aI) (i:Nat),(∀ k,k < es.length → -M ≤ f (i + k) ∧ f (i + k) ≤ M) → - (2 * M * es.length) ≤ aS n es i f ∧ aS n es i f ≤ 2 * M * es.length
 | [],i,_=>by simp [aS]
 | e :: r,i,hb=>by
  have ih:=LP hM n f r (i + 1) fun k hk=>by have:=hb (k + 1) (by simpa using hk); rw [show i + 1 + k = i + (k + 1) by omega]; exact this
  have h0:=hb 0 (by simp);rw [Nat.add_zero] at h0;simp only [aS,List.length_cons];have e1:2 * M * ((r.length + 1:Nat):Int) = 2 * M * r.length + 2 * M:=by rw [Int.natCast_add,Int.mul_add]; simp
  rw [e1]
  split <;> split <;> omega
omit h in
theorem FF {n:Nat} {j:b8} (hj:eS n j):-aw ≤ (cZ n j).low ∧ (cZ n j).high ≤ aw:=by
 have h1:=hj.lo;have h2:=hj.hi;unfold Big at h1 h2;unfold cZ aw;dsimp only;omega
end
section
variable {nm:ByteArray → Bool} {y:ab} (h:bJ nm y) {wrong:List Nat} {i:Nat} (hi:i < y.papers.length)
include h hi
theorem rl {j:Nat} (hj:j < y.papers.length) (hl:br y.papers[j] j = true):(j = i ∨ (j:Int) = y.papers[i].copy) ↔ j = bH y i:=by
 obtain ⟨hL,l1,l2,l3,_,_⟩:=k8 h hi;constructor
 ·intro hc;rcases l3 with e | ⟨e1,e2⟩
  ·rcases hc with e3 | e3
   ·omega
   ·have hpi:=h.papers i hi;rcases hpi.copy with q | ⟨c1,c2,c3,q,hq,c4,_⟩
    ·omega
    ·have ej:y.papers[i].copy.toNat = j:=by omega
     rw [ej,List.getElem?_eq_getElem hj,Option.some.injEq] at hq;subst hq;simp only [e] at l1;unfold br at hl l1;rw [Bool.or_eq_true,decide_eq_true_eq,decide_eq_true_eq] at hl l1;omega
  ·rcases hc with e3 | e3
   ·subst e3;unfold br at hl l1;rw [Bool.or_eq_true,decide_eq_true_eq,decide_eq_true_eq] at hl l1;omega
   ·omega
 ·intro e;rcases l3 with e1 | ⟨e1,e2⟩
  ·exact .inl (e.trans e1)
  ·exact .inr (by rw [e2,e])
end
/-! ### halves -/
end Go.AM
