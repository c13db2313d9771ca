/- What is allowed, az a list of spans by papers: az the reference keeps it. Plain; for the walks of Allowed, with, still, Range, Gone. The outside az one more place, az the reference sums it; sums .. -/
import Derived.Test.YtlmhkldmpggadaaGreatDoorP20
import Derived.Test.YtlmhkldmpggadaaGreatDoorP19
import Derived.Test.YtlmhkldmpggadaaGreatDoorP17
namespace Go.AM
section
variable {nm:ByteArray → Bool} {y:ab} (h:bJ nm y) {wrong:List Nat} {i:Nat} (hi:i < y.papers.length)
include h hi
theorem rl {j:Nat} (hj:j < y.papers.length) (hl:br y.papers[j] j = true):(j = i ∨ (j:Int) = y.papers[i].copy) ↔ j = bH y i:=by
 obtain ⟨hL,l1,l2,l3,_,_⟩:=k8 h hi;constructor
 ·intro hc;rcases l3 with e | ⟨e1,e2⟩
  ·rcases hc with e3 | e3
   ·omega
   ·have hpi:=h.papers i hi;rcases hpi.copy with q | ⟨c1,c2,c3,q,hq,c4,_⟩
    ·omega
    ·have ej:y.papers[i].copy.toNat = j:=by omega
     rw [ej,List.getElem?_eq_getElem hj,Option.some.injEq] at hq;subst hq;simp only [e] at l1;unfold br at hl l1;rw [Bool.or_eq_true,decide_eq_true_eq,decide_eq_true_eq] at hl l1;omega
  ·rcases hc with e3 | e3
   ·subst e3;unfold br at hl l1;rw [Bool.or_eq_true,decide_eq_true_eq,decide_eq_true_eq] at hl l1;omega
   ·omega
 ·intro e;rcases l3 with e1 | ⟨e1,e2⟩
  ·exact .inl (e.trans e1)
  ·exact .inr (by rw [e2,e])
end
/-! ### halves -/
def uz (e:aI) (v:Int) (a:Nat):Int:=if a = e.src then e.high - v else v - e.low
def jL (e:aI) (a:Nat):Int:=e.src + e.dst - a
theorem pz {es:List aI} {f:Nat → Int} {i:Nat} (hi:i < es.length) (hne:es[i].src ≠ es[i].dst) {a c:Nat} {k:Int}:fC es f k i a c ↔ (a = es[i].src ∨ a = es[i].dst) ∧ jL es[i] a = c ∧ k ≤ uz es[i] (f i) a:=by
 unfold uz jL;constructor
 ·rintro ⟨hi',⟨h1,h2,h3⟩ | ⟨h1,h2,h3⟩⟩
  ·rw [if_pos h1.symm]; omega
  ·rw [if_neg (by omega)]; omega
 ·rintro ⟨h1 | h1,h2,h3⟩
  ·rw [if_pos h1] at h3; exact ⟨hi, .inl ⟨h1.symm,by omega,by omega⟩⟩
  ·rw [if_neg (by omega)] at h3; exact ⟨hi, .inr ⟨h1.symm,by omega,by omega⟩⟩
def lK (b:Nat → Int) (x:Nat) (v:Int):Nat → Int:=fun y=>if y = x then v else b y
/-! ### the search -/
structure Bfs (N:Nat) (es:List aI) (f:Nat → Int) (P:Nat → Prop) (want:Nat → Int) (s:Nat) (b:Nat → Int) (done line:List Nat):Prop where
 tree:iD es f P s b (line.reverse ++ done)
 seen:∀ y,y < N → (b y ≠ 0 ↔ y ∈ line.reverse ++ done)
 low:∀ y ∈ line.reverse ++ done,y < N
 closed:∀ x ∈ done, ∀ i y,P i → fC es f 1 i x y → y ∈ line.reverse ++ done
 poor:∀ x ∈ done,x ≠ s → ¬ 0 < want x
theorem Bfs.start {N:Nat} {es:List aI} {f:Nat → Int} {P:Nat → Prop} {want:Nat → Int} {s:Nat} (hs:s < N):Bfs N es f P want s (lK (fun _=>0) s (-1)) [] [s]:=by
 refine ⟨.root (by simp [lK]),fun y hy=>?_,by simpa using hs,by simp,by simp⟩;simp only [lK,List.reverse_cons,List.reverse_nil,List.nil_append,List.append_nil,List.mem_singleton]
 split <;> simp_all
structure qC (N:Nat) (es:List aI) (f:Nat → Int) (P:Nat → Prop) (want:Nat → Int) (s:Nat) (b:Nat → Int) (done:List Nat) (a:Nat) (rest:List Nat) (i:Nat):Prop where
 all:Bfs N es f P want s b done (a :: rest)
 ways:∀ j y,j < i → P j → fC es f 1 j a y → y ∈ (a :: rest).reverse ++ done
theorem Bfs.enter {N:Nat} {es:List aI} {f:Nat → Int} {P:Nat → Prop} {want:Nat → Int} {s:Nat} {b:Nat → Int} {done:List Nat} {a:Nat} {rest:List Nat} (h:Bfs N es f P want s b done (a :: rest)):qC N es f P want s b done a rest 0:=⟨h,fun j y hj=>by omega⟩
theorem qC.skip {N:Nat} {es:List aI} {f:Nat → Int} {P:Nat → Prop} {want:Nat → Int} {s:Nat} {b:Nat → Int} {done:List Nat} {a:Nat} {rest:List Nat} {i:Nat} (h:qC N es f P want s b done a rest i) (hi:∀ y,P i → fC es f 1 i a y → y ∈ (a :: rest).reverse ++ done):qC N es f P want s b done a rest (i + 1):=
 ⟨h.all,fun j y hj hp hs=>(Nat.lt_or_ge j i).elim (fun hlt=>h.ways j y hlt hp hs) fun hge=>by
  have e:j = i:=by omega
  subst e
  exact hi y hp hs⟩
theorem qC.add {N:Nat} {es:List aI} {f:Nat → Int} {P:Nat → Prop} {want:Nat → Int} {s:Nat} {b:Nat → Int} {done:List Nat} {a:Nat} {rest:List Nat} {i:Nat} (h:qC N es f P want s b done a rest i) {y:Nat} (hy:y < N) (hb:b y = 0) (hp:P i) (hs:fC es f 1 i a y) :
  qC N es f P want s (lK b y ((i:Int) + 1)) done a (rest ++ [y]) (i + 1):=by
 have hyL:¬ y ∈ (a :: rest).reverse ++ done:=fun hm=>(h.all.seen y hy).2 hm hb;have e:(a :: (rest ++ [y])).reverse ++ done = y :: ((a :: rest).reverse ++ done):=by simp
 have hL:∀ x ∈ (a :: rest).reverse ++ done,lK b y ((i:Int) + 1) x = b x:=fun x hx=>if_neg fun (ex:x = y)=>hyL (ex ▸ hx);have ha:a ∈ (a :: rest).reverse ++ done:=by simp
 refine ⟨⟨?_, ?_, ?_, ?_,h.all.poor⟩, ?_⟩
 ·rw [e]; exact .add (h.all.tree.congr hL) hyL ha hs hp (if_pos rfl)
 ·intro z hz;rw [e,List.mem_cons];unfold lK;by_cases ez:z = y
  ·rw [if_pos ez]; exact ⟨fun _=>.inl ez,fun _=>by omega⟩
  ·rw [if_neg ez,h.all.seen z hz]; exact ⟨.inr,fun hc=>hc.resolve_left ez⟩
 ·intro z hz;rw [e,List.mem_cons] at hz;rcases hz with rfl | hz
  ·exact hy
  ·exact h.all.low z hz
 ·intro x hx j z hj hst;rw [e]; exact List.mem_cons_of_mem _ (h.all.closed x hx j z hj hst)
 ·intro j z hj hpj hst;rw [e];rcases Nat.lt_or_ge j i with hlt | hge
  ·exact List.mem_cons_of_mem _ (h.ways j z hlt hpj hst)
  ·obtain rfl:j = i:=by omega
   have:z = y:=by
    obtain ⟨_,q⟩:=hst;obtain ⟨_,r⟩:=hs;rcases q with ⟨q1,q2,_⟩ | ⟨q1,q2,_⟩ <;> rcases r with ⟨r1,r2,_⟩ | ⟨r1,r2,_⟩ <;> omega
   rw [this]; exact List.mem_cons_self
theorem qC.leave {N:Nat} {es:List aI} {f:Nat → Int} {P:Nat → Prop} {want:Nat → Int} {s:Nat} {b:Nat → Int} {done:List Nat} {a:Nat} {rest:List Nat} {i:Nat} (h:qC N es f P want s b done a rest i) (hi:es.length ≤ i) (ha:a ≠ s → ¬ 0 < want a):Bfs N es f P want s b (a :: done) rest:=by
 have e:(a :: rest).reverse ++ done = rest.reverse ++ a :: done:=by simp
 obtain ⟨⟨h1,h2,h3,h4,h5⟩,h6⟩:=h;rw [e] at h1 h3;refine ⟨h1,fun y hy=>by rw [← e]; exact h2 y hy,h3,fun x hx j y hj hs=>?_,fun x hx hxs=>?_⟩
 ·rw [← e];rcases List.mem_cons.1 hx with rfl | hx
  ·exact h6 j y (by obtain ⟨hj',_⟩:=hs; omega) hj hs
  ·exact h4 x hx j y hj hs
 ·rcases List.mem_cons.1 hx with rfl | hx
  ·exact ha hxs
  ·exact h5 x hx hxs
theorem Bfs.none {N:Nat} {es:List aI} {f:Nat → Int} {P:Nat → Prop} {want:Nat → Int} {s:Nat} {b:Nat → Int} {done:List Nat} (h:Bfs N es f P want s b done []) (hb:InB es f) (most:Int) (t:Nat):la N es f P s most want 0 t f:=by
 refine ⟨hb,fun _=>⟨rfl,fun z _ hz hw ⟨l,hl⟩=>?_⟩,fun e=>absurd rfl e⟩;have h1:=h.tree.start.1;simp only [List.reverse_nil,List.nil_append] at h1;have:=GA (L:=done) (fun x hx i y hp hs=>by simpa using h.closed x hx i y hp hs) hl h1;exact h.poor z this hz hw
/-! ### the way back -/
inductive gi (es:List aI) (f:Nat → Int) (k:Int) (P:Nat → Prop) (by':Nat → Int) (b:Nat):Nat → List Nat → Prop
 | nil:gi es f k P by' b b [b]
 | cons {i p x:Nat} {l:List Nat}:by' x = (i:Int) + 1 → fC es f k i p x → P i → gi es f k P by' b x l → p ∉ l → gi es f k P by' b p (p :: l)
theorem gi.mono {es:List aI} {f:Nat → Int} {k k':Int} {P:Nat → Prop} {by':Nat → Int} {b a:Nat} {l:List Nat} (h:gi es f k P by' b a l) (hk:k' ≤ k):gi es f k' P by' b a l:=by
 induction h with
 | nil=>exact .nil
 | cons h0 h1 hp _ h3 ih=>exact .cons h0 (h1.mono hk) hp ih h3
theorem gi.head {es:List aI} {f:Nat → Int} {k:Int} {P:Nat → Prop} {by':Nat → Int} {b a:Nat} {l:List Nat} (h:gi es f k P by' b a l):∃ r,l = a :: r:=by
 cases h with
 | nil=>exact ⟨[],rfl⟩
 | cons _ _ _ _ _=>exact ⟨_,rfl⟩
theorem gi.last {es:List aI} {f:Nat → Int} {k:Int} {P:Nat → Prop} {by':Nat → Int} {b a:Nat} {l:List Nat} (h:gi es f k P by' b a l):∃ pre,l = pre ++ [b]:=by
 induction h with
 | nil=>exact ⟨[],rfl⟩
 | @cons i p x l _ _ _ _ _ ih=>obtain ⟨pre,e⟩:=ih; exact ⟨p :: pre,by rw [e]; rfl⟩
theorem gi.split {es:List aI} {f:Nat → Int} {k:Int} {P:Nat → Prop} {by':Nat → Int} {b a:Nat} {l:List Nat} (h:gi es f k P by' b a l):∀ (pre:List Nat) (x:Nat) (r:List Nat),l = pre ++ x :: r → pre ≠ [] →
  ∃ pre' p i,pre = pre' ++ [p] ∧ by' x = ((i:Nat):Int) + 1 ∧ fC es f k i p x ∧ P i ∧ p ∉ x :: r:=by
 induction h with
 | nil=>
  intro pre x r e hne;have:=congrArg List.length e
  cases pre with
  | nil=>exact absurd rfl hne
  | cons _ _=>simp at this
 | @cons i p z l h0 h1 hp h2 h3 ih=>
  intro pre x r e hne
  cases pre with
  | nil=>exact absurd rfl hne
  | cons q pre1=>
   rw [List.cons_append,List.cons.injEq] at e;obtain ⟨e1,e2⟩:=e
   cases pre1 with
   | nil=>
    obtain ⟨r',e3⟩:=h2.head;rw [List.nil_append] at e2;have ez:z = x:=by rw [e3] at e2; exact (List.cons.injEq .. ▸ e2).1
    subst ez;exact ⟨[],q,i,rfl,h0,e1 ▸ h1,hp,by rw [← e2, ← e1]; exact h3⟩
   | cons w pre2=>
    obtain ⟨pre',p',i',e4,q1,q2,q3,q4⟩:=ih (w :: pre2) x r e2 (by simp);exact ⟨q :: pre',p',i',by rw [e4]; rfl,q1,q2,q3,q4⟩
structure BD (es:List aI) (f:Nat → Int) (k:Int) (P:Nat → Prop) (s:Nat) (by':Nat → Int) (b x:Nat) (L l:List Nat):Prop where
 tree:iD es f P s by' (x :: L)
 trail:gi es f k P by' b x l
 new:∀ y ∈ l,y ∉ L
theorem AY {es:List aI} {f:Nat → Int} (k:Int) {P:Nat → Prop} {s:Nat} {by':Nat → Int} {L:List Nat} (h:iD es f P s by' L) {x:Nat} (hx:x ∈ L):∃ L2,BD es f k P s by' x x L2 [x]:=by
 obtain ⟨L1,L2,_,h2⟩:=h.suffix hx;refine ⟨L2,h2, .nil,fun y hy=>?_⟩;rw [List.mem_singleton.1 hy];exact (List.nodup_cons.1 h2.nodup).1
theorem BD.step {es:List aI} {f:Nat → Int} {k:Int} {P:Nat → Prop} {s:Nat} {by':Nat → Int} {b x:Nat} {L l:List Nat} (h:BD es f k P s by' b x L l) (hne:∀ e ∈ es,e.src ≠ e.dst) (hx:x ≠ s) :
  ∃ i p:Nat, ∃ hi:i < es.length,by' x = (i:Int) + 1 ∧ P i ∧ jL es[i] x = p ∧ 1 ≤ uz es[i] (f i) p ∧
   ∃ L',L'.length < L.length ∧ BD es f (min k (uz es[i] (f i) p)) P s by' b p L' (p :: l):=by
 obtain ⟨ht,hl,hn⟩:=h
 cases ht with
 | root=>exact absurd rfl hx
 | @add _ _ p i h1 h2 h3 h4 h5 h6=>
  obtain ⟨hi,_⟩:=id h4;have hni:=hne es[i] (List.getElem_mem hi);obtain ⟨r1,r2,r3⟩:=(pz hi hni).1 h4;have hpl:p ∉ l:=fun hp=>hn p hp h3;have ho:jL es[i] x = p:=by unfold jL at r2 ⊢; omega
  refine ⟨i,p,hi,h6,h5,ho,r3, ?_⟩;obtain ⟨L1,L2,e,h7⟩:=h1.suffix h3;have hnd:=h1.nodup;refine ⟨L2,by rw [e]; simp; omega,h7, .cons h6 ((pz hi hni).2 ⟨r1,r2,by omega⟩) h5 (hl.mono (by omega)) hpl,fun y hy hyL=>?_⟩;rcases List.mem_cons.1 hy with rfl | hy
  ·exact (List.nodup_cons.1 h7.nodup).1 hyL
  ·exact hn y hy (by rw [e]; simp [hyL])
/-! ### the pushing -/
theorem GS {es:List aI} {f f':Nat → Int} {k:Int} (hk:0 ≤ k) {P:Nat → Prop} {by':Nat → Int} {b s x:Nat} {l pre r:List Nat} (hne:∀ e ∈ es,e.src ≠ e.dst) (ht:gi es f k P by' b s l) (el:l = pre ++ x :: r) (hx:x ≠ s) (h:mG es f k P b x (x :: r) f') :
  ∃ (pre':List Nat) (p i:Nat), ∃ hi:i < es.length,pre = pre' ++ [p] ∧ by' x = ((i:Nat):Int) + 1 ∧ jL es[i] x = (p:Int) ∧ f' i = f i ∧ mG es f k P b p (p :: x :: r) (cG f' i (if es[i].src = p then k else -k)):=by
 have hpre:pre ≠ []:=by
  rintro rfl;obtain ⟨q,e⟩:=ht.head;rw [el,List.nil_append] at e;exact hx (List.cons.injEq .. ▸ e).1
 obtain ⟨pre',p,i,e1,e2,e3,e4,e5⟩:=ht.split pre x r el hpre;obtain ⟨hi,q1,q2⟩:=h.cons hk hne e3 e4 (by simp) e5;have hni:=hne es[i] (List.getElem_mem hi);obtain ⟨r1,r2,_⟩:=(pz hi hni).1 e3;exact ⟨pre',p,i,hi,e1,e2,by unfold jL at r2 ⊢; omega,q1,q2⟩
theorem H9 {es:List aI} {i:Nat} (h:i < es.length) (n:Nat) (f:Nat → Int):aS n (es.take (i + 1)) 0 f = aS n (es.take i) 0 f + ((if es[i].dst = n then f i else 0) - (if es[i].src = n then f i else 0)):=by
 rw [List.take_succ_eq_append_getElem h,mJ];simp only [aS,List.length_take,Nat.zero_add,Nat.min_eq_left (Nat.le_of_lt h)];omega
def vm (y:ab) (k:Int) (i a:Nat):Int:=if aK y a = k ∧ bH y a < i then ((2 * y.places.length + fN k y.papers 0 (bH y a):Nat):Int) else 0
theorem Gb (y:ab) (k:Int) (a:Nat):vm y k 0 a = 0:=by unfold vm; rw [if_neg (by omega)]
section
variable {nm:ByteArray → Bool} {y:ab} (h:bJ nm y) {k:Int}
include h
theorem A6 {a i:Nat} (ha:a < y.papers.length) (hi:i < y.papers.length) (hc:(i:Int) = y.papers[a].copy):(a:Int) = y.papers[i].copy:=by
 rcases (h.papers a ha).copy with e | ⟨c1,c2,c3,q,hq,c4,_⟩
 ·omega
 ·have e:y.papers[a].copy.toNat = i:=by omega
  rw [e,List.getElem?_eq_getElem hi,Option.some.injEq] at hq;subst hq;exact c4.symm
theorem GV {i a:Nat} (hi:i < y.papers.length) (ha:a < y.papers.length) (hk:y.papers[i].kind = k) (hl:br y.papers[i] i = true) :
  vm y k (i + 1) a = if a = i ∨ (a:Int) = y.papers[i].copy then ((2 * y.places.length + fN k y.papers 0 i:Nat):Int) else vm y k i a:=by
 have h1:=rl h ha (j:=i) hi hl;have h2:(i = a ∨ (i:Int) = y.papers[a].copy) ↔ (a = i ∨ (a:Int) = y.papers[i].copy):=by
  constructor
  ·rintro (e | e)
   ·exact .inl e.symm
   ·exact .inr (A6 h ha hi e)
  ·rintro (e | e)
   ·exact .inl e.symm
   ·exact .inr (A6 h hi ha e)
 unfold vm;obtain ⟨hL,_,l2,_⟩:=k8 h ha;by_cases e:i = bH y a
 ·have hka:aK y a = k:=by rw [← l2]; simp only [← e]; exact hk
  rw [if_pos (h2.1 (h1.2 e)),if_pos ⟨hka,by omega⟩, ← e]
 ·rw [if_neg (fun c=>e (h1.1 (h2.2 c)))];by_cases hc:aK y a = k ∧ bH y a < i
  ·rw [if_pos hc,if_pos ⟨hc.1,by omega⟩]
  ·rw [if_neg hc,if_neg (by omega)]
theorem GY {i a:Nat} (hi:i < y.papers.length) (ha:a < y.papers.length) (hk:¬ (y.papers[i].kind = k ∧ br y.papers[i] i = true)):vm y k (i + 1) a = vm y k i a:=by
 unfold vm;obtain ⟨hL,l1,l2,_⟩:=k8 h ha;by_cases hc:aK y a = k ∧ bH y a < i
 ·rw [if_pos hc,if_pos ⟨hc.1,by omega⟩]
 ·rw [if_neg hc,if_neg];rintro ⟨c1,c2⟩;have e:bH y a = i:=by omega
  simp only [e] at l1 l2;exact hk ⟨by rw [l2,c1],l1⟩
end
def ay.cells (c:ay):List ag:=[ii' c.kind,ii' c.place,ii' c.lo,ii' c.hi]
def ay.v (c:ay):ag:=.agg c.cells
theorem ay.pure (c:ay):c.v.pure = true:=rfl
def aj.cells (p:aj):List ag:=[ii' p.kind,ii' p.src,ii' p.dst,ii' p.kilos,ii' p.copy]
def aj.v (p:aj):ag:=.agg p.cells
theorem aj.pure (p:aj):p.v.pure = true:=rfl
def ab.cells (y:ab):List ag:=[.slice 1 (y.kinds.map .str), .slice 1 (y.places.map .str), .slice 4 (y.first.map ay.v), .slice 5 (y.papers.map aj.v), .slice 4 (y.last.map ay.v)]
def ab.v (y:ab):ag:=.agg y.cells
theorem ab.pure (y:ab):y.v.pure = true:=by
 simp [ab.v,ab.cells,ag.pure,aH,aD (f:=ag.str) (fun _=>rfl) y.kinds,aD (f:=ag.str) (fun _=>rfl) y.places,aD (f:=ay.v) (fun c=>c.pure) y.first,aD (f:=ay.v) (fun c=>c.pure) y.last,aD (f:=aj.v) (fun c=>c.pure) y.papers]
def bt.cells (p:bt):List ag:=[ii' p.paper,ii' p.kind,ii' p.places,ii' p.over]
def bt.v (p:bt):ag:=.agg p.cells
theorem bt.pure (p:bt):p.v.pure = true:=rfl
def aI.cells (e:aI) (v:Int):List ag:=[ii' e.src,ii' e.dst,ii' e.low,ii' e.high,ii' v]
def aI.v (e:aI) (v:Int):ag:=.agg (e.cells v)
open Go.Proofs
theorem ah.tl {P:Program} {f:FuncId} (hb:au P f = true) {args:List ag} {σ:af} {v:ag} {K Kp:ag → af → Prop} (hs:Spec P f args σ fun r σ'=>r = .ret v ∧ ∃ tl,σ' = σ ++ tl) (hq:∀ tl,K v (σ ++ tl)) :
  @ah P (.func (.func f) [] []) args σ ⟨K⟩ ⟨Kp⟩:=
 (aE.func (first:=[]) (caps:=[]) hb (by rw [List.nil_append,List.append_nil]; exact hs)).mono (by rintro r σ' ⟨rfl,tl,rfl⟩; exact hq tl)
theorem ah.spec {P:Program} {f:FuncId} (hb:au P f = true) {args:List ag} {σ:af} {Q:fq → af → Prop} {K Kp:ag → af → Prop} (hs:Spec P f args σ Q) (h:∀ r σ',Q r σ' → ∃ v,r = .ret v ∧ K v σ') :
  @ah P (.func (.func f) [] []) args σ ⟨K⟩ ⟨Kp⟩:=
 aE.func hb (by simpa using hs.mono fun r σ' hq=>by obtain ⟨v,rfl,hk⟩:=h r σ' hq; exact hk)
set_option maxRecDepth 100000
set_option maxHeartbeats 1000000
def tD (n lo hi:Int):Bool:=decide (lo ≤ n) && decide (n ≤ hi)
theorem gx (n lo hi:Int) (σ:af):Spec Tryz.prog IA [.int .i64 n, .int .i64 lo, .int .i64 hi] σ fun r σ'=>r = .ret (.bool (tD n lo hi)) ∧ σ' = σ:=by
 refine Spec.aF (Rt (by simp) (aa _ ?_)) rfl rfl σ;simp [Mm,tD]
def ox (s:ByteArray) (i:Nat):Nat:=(s.data[i]?.getD 0).toNat
def letterF (b:Nat):Bool:=decide (97 ≤ b) && decide (b ≤ 122)
def rJ (b:Nat):Bool:=decide (48 ≤ b) && decide (b ≤ 57)
def pY (s:ByteArray) (i:Nat):Bool:=letterF (ox s i) || (rJ (ox s i) && i != 0)
def jQ (s:ByteArray):Nat → Nat → Bool
 | _,0=>true
 | i,n + 1=>pY s i && jQ s (i + 1) n
def aQ (s:ByteArray):Bool:=decide (1 ≤ s.size) && decide (s.size ≤ 16) && jQ s 0 s.size
theorem Gk (s:ByteArray) (i:Nat) (h:i < s.size):ox s i = (s[i]'h).toNat:=by
 have h':i < s.data.size:=h;have e:s.data[i]?.getD 0 = s.data[i]'h':=by rw [Array.getElem?_eq_getElem h']; rfl
 unfold ox;rw [e];rfl
theorem tX {s:ByteArray} {i:Nat} (hlt:i < s.size) (hp:jQ s 0 s.size = jQ s i (s.size - i)) (h:pY s i = false):aQ s = false:=by
 unfold aQ;rw [hp,show s.size - i = (s.size - (i + 1)) + 1 by omega,jQ,h];simp
theorem Ho (b:ByteArray) (i:Nat) (h:i < b.data.toList.length):b.get! i = b.data.toList[i]:=by
 obtain ⟨a⟩:=b;have h':i < a.size:=by simpa using h
 show a[i]! = _;rw [getElem!_pos a i h']; simp
theorem bl (b:ByteArray):∀ (n i:Nat) (r:List UInt8),b.size - i = n → ByteArray.toList.loop b i r = r.reverse ++ (b.data.toList.drop i)
 | 0,i,r,h=>by
  unfold ByteArray.toList.loop;have:b.size ≤ i:=by omega
  rw [if_neg (by omega)];have:b.data.toList.length ≤ i:=by simpa using this
  rw [List.drop_eq_nil_of_le this]; simp
 | n + 1,i,r,h=>by
  unfold ByteArray.toList.loop;have hlt:i < b.size:=by omega
  rw [if_pos hlt,bl b n (i + 1) _ (by omega)];have h':i < b.data.toList.length:=by simpa using hlt
  rw [List.drop_eq_getElem_cons h',Ho b i h'];simp
theorem toList_data (b:ByteArray):b.toList = b.data.toList:=by
 unfold ByteArray.toList; rw [bl b _ 0 [] rfl]; simp
theorem toList_nil (s:ByteArray):s.toList = [] ↔ s.size = 0:=by
 rw [toList_data];constructor
 ·intro h;have:s.data.toList.length = 0:=by rw [h]; rfl
  simpa using this
 ·intro h;have:s.data.toList.length = 0:=by simpa using h
  exact List.eq_nil_of_length_eq_zero this
theorem qP (s:ByteArray) {i:Nat} (h:i < s.size):jQ s i (s.size - i) = (pY s i && jQ s (i + 1) (s.size - (i + 1))):=by
 rw [show s.size - i = (s.size - (i + 1)) + 1 by omega]; rfl
theorem xU (s:ByteArray) (σ:af):Spec Tryz.prog Hm [.str s] σ fun r σ'=>r = .ret (.bool (aQ s)) ∧ σ' = σ:=by
 refine Spec.aF (RR (by simp) (aa _ ?_)) rfl rfl σ;simp [Mg];refine AW.loop (ι:=Nat) (fun i fr σ=>fr = { v:=[(0, .str s),(8, .iter 0)],ds:=[] } ∧ σ = [.siter s i] ∧ i ≤ s.size ∧ jQ s 0 s.size = jQ s i (s.size - i)) (fun i=>s.size - i) 0 (by simp) ?_;rintro i fr σ ⟨rfl,rfl,hi,hp⟩;refine aa _ ?_;simp;split
 ·rename_i hlt;have hb:=Gk s i hlt;have hst:=qP s hlt;have hd:((Utf8.decode s i).1 = ox s i ∧ (Utf8.decode s i).2 = 1 ∧ ox s i < 128) ∨ (128 ≤ (Utf8.decode s i).1 ∧ 128 ≤ ox s i):=by
   by_cases ha:(s[i]'hlt).toNat < 128
   ·left; rw [Go.decode_ascii s i hlt ha,hb]; exact ⟨rfl,rfl,ha⟩
   ·right; rw [hb]; exact ⟨(Go.decode_high s i hlt (by omega)).1,by omega⟩
  generalize Utf8.decode s i = d at hd ⊢;obtain ⟨r,w⟩:=d;simp only at hd ⊢;refine ⟨fun h=>⟨h,fun h1 h2=>⟨h,h1,h2⟩⟩,fun h1 h2=>tX hlt hp ?_,fun h=>?_⟩
  ·simp [pY,letterF,rJ];omega
  ·have hok:pY s i = true:=by
    simp [pY,letterF,rJ];omega
   have hw:w = 1:=by
    rcases hd with hd | hd
    ·exact hd.2.1
    ·exfalso;have:pY s i = false:=by simp [pY,letterF,rJ]; omega
     rw [hok] at this; cases this
   subst hw;exact ⟨i + 1,by omega,rfl,by omega,by rw [hp,hst,hok]; rfl⟩
 ·rename_i hge;have:i = s.size:=by omega
  subst this;rw [Nat.sub_self] at hp;unfold aQ;rw [hp];rw [Bool.eq_iff_iff];simp [jQ];refine ⟨fun ⟨h1,h2⟩=>⟨?_,by omega⟩,fun h=>⟨fun e=>?_,by omega⟩⟩
  ·have h1':¬ s.size = 0:=fun e=>h1 ((toList_nil s).2 e);omega
  ·have:=(toList_nil s).1 e;omega
theorem qk (s:ByteArray) (σ:af):Spec Tryz.prog MB [.str s] σ fun r σ'=>r = .ret (.bool (aQ s)) ∧ σ' = σ:=by
 refine Spec.aF (UZ (by simp) (aa _ ?_)) rfl rfl σ;simp [Rx];refine ah.pure wX (gx s.size 1 16 _) ?_;simp;have hb:∀ i:Nat,((s.data[i]?.getD 0).toNat:Int) = (ox s i:Int):=fun _=>rfl;simp only [hb];have hin:tD (s.size:Int) 1 16 = true ↔ 1 ≤ s.size ∧ s.size ≤ 16:=by simp [tD]; omega
 have hin':tD (s.size:Int) 1 16 = false ↔ ¬ (1 ≤ s.size ∧ s.size ≤ 16):=by rw [← hin]; simp
 simp only [hin,hin'];refine ⟨fun h=>⟨h,by omega⟩,fun h h2=>⟨⟨h,h2⟩,by omega⟩,fun h=>?_,fun h1 h2 h3=>?_⟩
 ·by_cases hz:1 ≤ s.size ∧ s.size ≤ 16
  ·refine tX (i:=0) (by omega) rfl ?_;simp [pY,letterF];omega
  ·unfold aQ;rw [Bool.eq_false_iff];simp;intros;omega
 refine AW.loop (ι:=Nat) (fun i fr σ=>fr = { v:=[(0, .str s),(3, .int .i64 i)],ds:=[] } ∧ σ = [] ∧ 1 ≤ i ∧ i ≤ s.size ∧ jQ s 0 s.size = jQ s i (s.size - i)) (fun i=>s.size - i) 1 ⟨by simp,rfl,by omega,by omega, ?_⟩ ?_
 ·have:=qP s (i:=0) (by omega);rw [Nat.sub_zero] at this;rw [this];have:pY s 0 = true:=by simp [pY,letterF]; omega
  rw [this]; rfl
 rintro i fr σ ⟨rfl,rfl,h1i,hi,hp⟩;refine aa _ ?_;simp;simp only [hb];refine ⟨fun hlt=>⟨hlt,fun h=>⟨h,hlt⟩,hlt,fun h=>⟨h,hlt⟩,fun h h'=>tX hlt hp ?_,fun h=>?_⟩,fun hge=>?_⟩
 ·simp [pY,letterF,rJ];omega
 ·have hok:pY s i = true:=by
   simp [pY,letterF,rJ];omega
  exact ⟨i + 1,by omega,aq (by omega) (by omega),by omega,by omega,by rw [hp,qP s hlt,hok]; rfl⟩
 ·have:i = s.size:=by omega
  subst this;rw [Nat.sub_self] at hp;unfold aQ;rw [hp];simp [jQ];omega
def kA:List ByteArray → ByteArray → Nat → Int
 | [],_,_=>-1
 | a :: r,s,i=>if a.toList == s.toList then i else kA r s (i + 1)
theorem oT (l:List ByteArray) (s:ByteArray) (hl:l.length ≤ maxLen) (σ:af):Spec Tryz.prog Hn [.slice 1 (l.map .str), .str s] σ fun r σ'=>r = .ret (.int .i64 (kA l s 0)) ∧ σ' = σ:=by
 refine Spec.aF (Qy (by simp) (aa _ ?_)) ?_ rfl σ;rotate_left
 ·simp only [aH,ag.pure,Bool.and_true]; exact aD (fun _=>rfl) l
 simp [Mq];refine AW.loop (ι:=Nat) (fun i fr σ=>fr = { v:=[(0, .slice 1 (l.map .str)),(1, .str s),(5, .int .i64 i)],ds:=[] } ∧ σ = [] ∧ i ≤ l.length ∧ kA l s 0 = kA (l.drop i) s i) (fun i=>l.length - i) 0 (by simp) ?_;rintro i fr σ ⟨rfl,rfl,hi,hp⟩;refine aa _ ?_;simp;refine ⟨fun hlt=>?_,fun hge=>?_⟩
 ·have hd:l.drop i = l[i] :: l.drop (i + 1):=List.drop_eq_getElem_cons hlt;rw [hd] at hp;simp [kA] at hp;simp [hlt];refine ⟨fun he=>by rw [hp,if_pos he],fun he=>⟨i + 1,by omega,aq (by omega) (by simp only [maxLen] at hl; omega),by omega,by rw [hp,if_neg he]⟩⟩
 ·have:l.drop i = []:=List.drop_eq_nil_of_le hge;rw [hp,this]; rfl
def jb (s:Int × Int) (lo hi:Int):Int:=if !tD s.1 lo hi || !tD s.2 lo hi then 7 else if s.1 > s.2 then 2 else 0
theorem vg (a b lo hi:Int) (σ:af):Spec Tryz.prog Ic [.slice 2 [.agg [.int .i64 a, .int .i64 b]], .int .i64 lo, .int .i64 hi] σ fun r σ'=>r = .ret (.int .i64 (jb (a,b) lo hi)) ∧ σ' = σ:=by
 refine Spec.aF (Pv (by simp) (aa _ ?_)) rfl rfl σ;simp [Mk];refine AW.loop (ι:=Nat) (fun i fr σ=>fr = { v:=[(0, .slice 2 [.agg [.int .i64 a, .int .i64 b]]),(1, .int .i64 lo),(2, .int .i64 hi),(7, .bool (decide (i = 1) && decide (b < a))),(8, .int .i64 i)],ds:=[] } ∧ σ = [] ∧ i ≤ 1 ∧ (i = 1 → tD a lo hi = true ∧ tD b lo hi = true)) (fun i=>1 - i) 0 (by simp) ?_;rintro i fr σ ⟨rfl,rfl,hi',hp⟩;rcases (by omega:i = 0 ∨ i = 1) with rfl | rfl
 ·refine aa _ ?_;simp;refine ah.pure wX (gx a lo hi _) ?_;simp;refine ⟨?_, ?_⟩
  ·intro h;refine ⟨h,ah.pure wX (gx b lo hi _) ?_⟩;simp [h];exact ⟨fun hb=>by simp [jb,h,hb],fun hb=>⟨1,by omega,⟨fun _=>rfl,aq (by omega) (by omega)⟩,by omega,fun _=>hb⟩⟩
  ·intro h;simp [h,jb]
 ·refine aa _ ?_;simp [jb,hp rfl]
theorem v8 (a b lo hi:Int) (σ:af):Spec Tryz.prog G8 [.agg [.int .i64 a, .int .i64 b], .int .i64 lo, .int .i64 hi] σ fun r σ'=>r = .ret (.int .i64 (jb (a,b) lo hi)) ∧ σ' = σ:=by
 refine Spec.aF (Q9 (by simp) (aa _ ?_)) rfl rfl σ;simp [Lp];refine ah.pure RQ (vg a b lo hi _) ?_;simp
def rf (s:ByteArray) (l:List ByteArray):Int:=if aQ s then (if 0 ≤ kA l s 0 then 5 else 0) else 6
theorem wT (l:List ByteArray) (s:ByteArray) (hl:l.length ≤ maxLen) (σ:af):Spec Tryz.prog H0 [.str s, .slice 1 (l.map .str)] σ fun r σ'=>r = .ret (.int .i64 (rf s l)) ∧ σ' = σ:=by
 refine Spec.aF (Pb (by simp) (aa _ ?_)) ?_ rfl σ;rotate_left
 ·simp only [aH,ag.pure,Bool.and_true]; exact aD (fun _=>rfl) l
 simp [Mn];refine ah.pure Na (qk s _) ?_;simp;refine ⟨fun h=>by simp [rf,h],fun h=>ah.pure LZ (oT l s hl _) ?_⟩;simp [rf,h]
theorem iI (l:List ByteArray) (x:ByteArray) (hl:l.length ≤ maxLen) (σ:af) :
  Spec Tryz.prog HF [.slice 1 (l.map .str), .str x] σ fun r σ'=>r = .ret (.int .i64 (gP (fun y=>x.toList == y.toList) l 0)) ∧ σ' = σ:=by
 refine Spec.aF (Q1 (by simp) (aa _ ?_)) (by simp [aD (f:=ag.str) (fun _=>rfl) l]) rfl σ;simp [Lz];refine AW.loop (ι:=Nat) (fun i fr σ=>fr = { v:=[(0, .slice 1 (l.map ag.str)),(1, .str x),(7, .int .i64 l.length),(8, .int .i64 i)],ds:=[] } ∧ i ≤ l.length ∧ gP (fun y=>x.toList == y.toList) l 0 = gP (fun y=>x.toList == y.toList) (l.drop i) i) (fun i=>l.length - i) 0 (by simp) ?_;rintro i fr σ ⟨rfl,hi,hpi⟩;refine aa _ ?_;simp;refine ⟨fun hlt=>?_,fun hge=>?_⟩
 ·have hd:l.drop i = l[i] :: l.drop (i + 1):=List.drop_eq_getElem_cons hlt;rw [hd] at hpi;simp [gP] at hpi;simp [hlt];refine ⟨fun he=>by rw [hpi,if_pos he],fun he=>⟨i + 1,by omega,aq (by omega) (by simp only [maxLen] at hl; omega),by omega,by rw [hpi,if_neg (by simp [he])]⟩⟩
 ·have:l.drop i = []:=List.drop_eq_nil_of_le hge;rw [hpi,this]; rfl
theorem lL (l:List ByteArray) (x:ByteArray) (hl:l.length ≤ maxLen) (σ:af) :
  Spec Tryz.prog It [.slice 1 (l.map .str), .str x] σ fun r σ'=>r = .ret (.bool (l.any fun y=>x.toList == y.toList)) ∧ σ' = σ:=by
 refine Spec.aF (Qj (by simp) (aa _ ?_)) (by simp [aD (f:=ag.str) (fun _=>rfl) l]) rfl σ;simp [LQ];refine ah.pure BJ (iI l x hl _) ?_;simp [xL]
theorem nS (l:List Int) (x:Int) (hl:l.length ≤ maxLen) (σ:af) :
  Spec Tryz.prog HA [.slice 1 (l.map ii'),ii' x] σ fun r σ'=>r = .ret (.int .i64 (gP (fun y=>x == y) l 0)) ∧ σ' = σ:=by
 refine Spec.aF (P6 (by simp) (aa _ ?_)) (by simp [aD (f:=ii') (fun _=>rfl) l]) rfl σ;simp [Ls];refine AW.loop (ι:=Nat) (fun i fr σ=>fr = { v:=[(0, .slice 1 (l.map ii')),(1,ii' x),(7, .int .i64 l.length),(8, .int .i64 i)],ds:=[] } ∧ i ≤ l.length ∧ gP (fun y=>x == y) l 0 = gP (fun y=>x == y) (l.drop i) i) (fun i=>l.length - i) 0 (by simp) ?_;rintro i fr σ ⟨rfl,hi,hpi⟩;refine aa _ ?_;simp;refine ⟨fun hlt=>?_,fun hge=>?_⟩
 ·have hd:l.drop i = l[i] :: l.drop (i + 1):=List.drop_eq_getElem_cons hlt;rw [hd] at hpi;simp [gP] at hpi;simp [hlt];refine ⟨fun he=>by rw [hpi,if_pos he],fun he=>⟨i + 1,by omega,aq (by omega) (by simp only [maxLen] at hl; omega),by omega,by rw [hpi,if_neg (by simp [he])]⟩⟩
 ·have:l.drop i = []:=List.drop_eq_nil_of_le hge;rw [hpi,this]; rfl
theorem lF (l:List Int) (x:Int) (hl:l.length ≤ maxLen) (σ:af) :
  Spec Tryz.prog EE [.slice 1 (l.map ii'),ii' x] σ fun r σ'=>r = .ret (.bool (l.contains x)) ∧ σ' = σ:=by
 refine Spec.aF (Ou (by simp) (aa _ ?_)) (by simp [aD (f:=ii') (fun _=>rfl) l]) rfl σ;simp [Mt];refine ah.pure PG (nS l x hl _) ?_;simp [xL];rw [Bool.eq_iff_iff]; simp
def o5 (l:List Int):cq:=.arr 1 (l.map ii')
theorem qq (ds:List Int) (k:Nat) (x:Int) (h:k < ds.length):(ds.set k x).take (k + 1) = ds.take k ++ [x]:=by
 rw [List.take_add_one,List.take_set_of_le (Nat.le_refl k)];simp [h]
def S6 (l c:List Int):Prop:=c.Pairwise (· < ·) ∧ ∀ x,x ∈ c ↔ x ∈ l
theorem AJ (b:Nat) (l:List Int) (hn:l.length ≤ 100000) (hs:l.Pairwise (· ≤ ·)) (σ:af) (hb:b < σ.length) (hx:σ[b]? = some (o5 l)) :
  Spec Tryz.prog M7 [.sref 1 b 0 l.length l.length] σ fun r σ'=>∃ c z,S6 l c ∧ c.length ≤ l.length ∧ (c ++ z).length = l.length ∧ r = .ret (.sref 1 b 0 c.length l.length) ∧ σ' = σ.set b (o5 (c ++ z)):=by
 have hset:σ.set b (o5 l) = σ:=by
  obtain ⟨h1,h2⟩:=List.getElem?_eq_some_iff.1 hx;rw [← h2]; simp
 have hle:∀ i j (h1:i < j) (h2:j < l.length),l[i] ≤ l[j]:=fun i j h1 h2=>List.pairwise_iff_getElem.1 hs i j (by omega) h2 h1;refine Sf (by simp) (aa _ ?_);refine (Nat.lt_or_ge l.length 2).elim (fun h2=>?_) (fun h2=>?_)
 ·have h2':(l.length:Int) < 2:=by omega
  simp [MS,h2'];refine ⟨l, ?_,by omega,[],by simp,rfl,by simpa using hset.symm⟩;refine ⟨?_,fun x=>Iff.rfl⟩
  match l,h2 with
  | [],_=>simp
  | [a],_=>simp
 have h2':¬ (l.length:Int) < 2:=by omega
 simp [MS,h2'];refine AW.loop (ι:=Nat) (fun k fr σ1=>fr = { v:=[(0, .sref 1 b 0 l.length l.length),(3, .int .i64 k)],ds:=[] } ∧ σ1 = σ ∧ 1 ≤ k ∧ k ≤ l.length ∧ (l.take k).Pairwise (· < ·)) (fun k=>l.length - k) 1 ⟨by simp,rfl,by omega,by omega, ?_⟩ ?_
 ·cases l with
  | nil=>simp
  | cons a r=>simp
 rintro k fr σ1 ⟨rfl,rfl,hk1,hk,hlt⟩;refine (Nat.lt_or_ge k l.length).elim (fun hkl=>?_) (fun hge=>?_);rotate_left
 ·have hnl:¬ k < l.length:=by omega
  refine aa _ ?_;simp [hnl];exact ⟨l,⟨by rwa [List.take_of_length_le hge] at hlt,fun x=>Iff.rfl⟩,by omega,[],by simp,rfl,by simpa using hset.symm⟩
 obtain ⟨m,rfl⟩:∃ m,k = m + 1:=⟨k - 1,by omega⟩;obtain ⟨x,hxk⟩:=zqq (l[m + 1]'hkl);obtain ⟨y,hyk⟩:=zqq (l[m]'(by omega));have hw:IntKind.i64.wrap (m:Int) = m:=aq (by omega) (by omega);have q1:0 ≤ (m:Int) + 1:=by omega
 have q2:(m:Int) + 1 < l.length:=by omega
 have q3:(m:Int) < l.length:=by omega
 have q4:m < l.length:=by omega
 have hgb:σ1[b]'hb = .arr 1 (l.map ii'):=(List.getElem?_eq_some_iff.1 hx).2;refine aa _ ?_;simp [hb,hgb,hxk,hyk,hw,hkl,q1,q2,q3,q4];refine ⟨fun hxy=>⟨by omega, ?_⟩,fun hxy=>⟨m + 2,by omega,aq (by omega) (by omega),by omega,by omega, ?_⟩⟩;rotate_left
 ·rw [List.take_add_one];refine List.pairwise_append.2 ⟨hlt,by simp,fun u hu v hv=>?_⟩;have hv':v = x:=by simpa [hkl,hxk,eq_comm] using hv
  subst hv';obtain ⟨i,hi,rfl⟩:=List.mem_iff_getElem.1 hu;have hi':i < m + 1:=by simp at hi; omega
  rw [List.getElem_take];have h1:y ≤ v:=by rw [← hxk, ← hyk]; exact hle m (m + 1) (by omega) hkl
  by_cases him:i = m
  ·subst him; rw [hyk]; omega
  ·have:=hle i m (by omega) (by omega);rw [hyk] at this; omega
 obtain ⟨n2,hn2⟩:=zqq (l.length - (m + 1));have hn2':((l.length:Int) - ((m:Int) + 1)).toNat = n2:=by omega
 rw [hn2']
 refine AW.loop (ι:=Nat) (fun p fr σ2=>∃ (kk:Nat) (D:List Int),fr = { v:=[(0, .sref 1 b 0 l.length l.length),(3, .int .i64 kk),(4, .sref 1 b (m + 1) n2 l.length),(5, .int .i64 (p + 1))],ds:=[] } ∧ σ2 = σ1.set b (o5 D) ∧ p + 1 ≤ n2 ∧ D.length = l.length ∧ kk ≤ m + 1 + p ∧
  (∀ i,m + 1 + p ≤ i → D[i]? = l[i]?) ∧ (D.take kk).Pairwise (· < ·) ∧ ∀ u,u ∈ D.take kk ↔ u ∈ l.take (m + 1 + (p + 1))) (fun p=>n2 - p) 0 ⟨m + 1,l,by simp,hset.symm,by omega,rfl,by omega,fun i _=>rfl,hlt,fun u=>?_⟩ ?_
 ·rw [show m + 1 + (0 + 1) = (m + 1) + 1 from rfl,List.take_add_one (i:=m + 1),List.mem_append];have:u ∈ (l[m + 1]?).toList ↔ u = x:=by rw [List.getElem?_eq_getElem hkl,hxk]; simp
  rw [this];refine ⟨.inl,fun h=>h.elim id fun h=>?_⟩;rw [h,hxy,List.mem_iff_getElem];exact ⟨m,by simp; omega,by simpa using hyk⟩
 rintro p fr σ2 ⟨kk,D,rfl,rfl,hp,hD,hkk,hsame,hsort,hmem⟩;refine (Nat.lt_or_ge (p + 1) n2).elim (fun hpl=>?_) (fun hpg=>?_)
 ·obtain ⟨u,hu⟩:=zqq (l[m + 1 + (p + 1)]'(by omega));obtain ⟨v,hv⟩:=zqq (l[m + 1 + p]'(by omega));have hDu:D[m + 1 + (p + 1)]'(by omega) = u:=by
   have:=hsame (m + 1 + (p + 1)) (by omega);rw [List.getElem?_eq_getElem (by omega),List.getElem?_eq_getElem (by omega),hu] at this;exact Option.some.inj this
  have hDv:D[m + 1 + p]'(by omega) = v:=by
   have:=hsame (m + 1 + p) (by omega);rw [List.getElem?_eq_getElem (by omega),List.getElem?_eq_getElem (by omega),hv] at this;exact Option.some.inj this
  have r0:IntKind.i64.wrap (p:Int) = p:=aq (by omega) (by omega);have r1:0 ≤ (p:Int) + 1:=by omega
  have r2:(p:Int) + 1 < n2:=by omega
  have r3:(p:Int) < n2:=by omega
  have r4:m + 1 + p < l.length:=by omega
  have r5:m + 1 + (p + 1) < l.length:=by omega
  have r6:kk < l.length:=by omega
  have r7:(kk:Int) < l.length:=by omega
  have r8:IntKind.i64.wrap ((p:Int) + 1 + 1) = (p:Int) + 1 + 1:=aq (by omega) (by omega);have r9:IntKind.i64.wrap ((kk:Int) + 1) = (kk:Int) + 1:=aq (by omega) (by omega);have huv:v ≤ u:=by rw [← hu, ← hv]; exact hle _ _ (by omega) (by omega)
  refine aa _ ?_;simp [hb,o5,hD,hDu,hDv,r0,r1,r2,r3,r4,r5,r6,r7,r8,r9];have hmax:∀ w ∈ l.take (m + 1 + (p + 1)),w ≤ v:=fun w hw'=>by
   obtain ⟨i,hi,rfl⟩:=List.mem_iff_getElem.1 hw';have hi':i < m + 1 + (p + 1):=by simp at hi; omega
   rw [List.getElem_take];by_cases him:i = m + 1 + p
   ·subst him; rw [hv]; omega
   ·have:=hle i (m + 1 + p) (by omega) (by omega);rw [hv] at this; exact this
  have htk:∀ w,w ∈ l.take (m + 1 + (p + 1 + 1)) ↔ w ∈ l.take (m + 1 + (p + 1)) ∨ w = u:=fun w=>by
   rw [show m + 1 + (p + 1 + 1) = (m + 1 + (p + 1)) + 1 from rfl,List.take_add_one (i:=m + 1 + (p + 1)),List.mem_append];have:w ∈ (l[m + 1 + (p + 1)]?).toList ↔ w = u:=by rw [List.getElem?_eq_getElem (by omega),hu]; simp
   rw [this]
  refine ⟨fun hne=>⟨p + 1,by omega,kk + 1,⟨by simp,by simp⟩,D.set kk u,by rw [List.map_set],by omega,by simp [hD],by omega,fun i hi=>?_, ?_,fun w=>?_⟩,fun he=>⟨p + 1,by omega,kk,⟨rfl,by simp⟩,D,rfl,by omega,hD,by omega,fun i hi=>hsame i (by omega),hsort,fun w=>?_⟩⟩
  ·rw [List.getElem?_set_ne (by omega)]; exact hsame i (by omega)
  ·rw [qq D kk u (by omega)];refine List.pairwise_append.2 ⟨hsort,by simp,fun a ha c hc=>?_⟩;have hc':c = u:=by simpa using hc
   subst hc';have:=hmax a ((hmem a).1 ha);omega
  ·rw [qq D kk u (by omega),List.mem_append,hmem,htk];simp
  ·rw [hmem,htk];refine ⟨.inl,fun h=>h.elim id fun h=>?_⟩;rw [h,he,List.mem_iff_getElem];exact ⟨m + 1 + p,by simp; omega,by simpa using hv⟩
 ·have hnl:¬ (p:Int) + 1 < n2:=by omega
  have hkl':(kk:Int) ≤ l.length:=by omega
  refine aa _ ?_;simp [hb,o5,hD,hnl,hkl'];refine ⟨D.take kk,⟨hsort,fun u=>?_⟩,by simp; omega,List.replicate (l.length - kk) 0 ++ D.drop (kk + (l.length - kk)),by simp; omega,by simp; omega,by simp⟩;rw [hmem,List.take_of_length_le (by omega)]
theorem Nx (a b:ByteArray):(a.toList == b.toList) = true ↔ a = b:=by
 rw [beq_iff_eq,toList_data,toList_data];constructor
 ·intro h;obtain ⟨a⟩:=a;obtain ⟨b⟩:=b;have:a = b:=Array.toList_inj.1 h;rw [this]
 ·rintro rfl; rfl
theorem nmd (a b:ByteArray):(a.toList == b.toList) = decide (a = b):=by
 rw [Bool.eq_iff_iff,Nx,decide_eq_true_eq]
theorem zU {a b:List ByteArray} {i:Nat} (h1:i < a.length) (h2:i < b.length) (h:a.take i = b.take i):a.take (i + 1) = b.take (i + 1) ↔ a[i] = b[i]:=by
 rw [List.take_succ_eq_append_getElem h1,List.take_succ_eq_append_getElem h2,h];exact ⟨fun e=>by simpa using List.append_cancel_left e,fun e=>by rw [e]⟩
theorem xz (a b:List ByteArray) (ha:a.length ≤ maxLen) (σ:af) :
  Spec Tryz.prog Fp [.slice 1 (a.map .str), .slice 1 (b.map .str)] σ fun r σ'=>r = .ret (.bool (decide (a = b))) ∧ σ' = σ:=by
 refine Spec.aF (QK (by simp) (aa _ ?_)) (by simp [aH,ag.pure,aD (f:=ag.str) (fun _=>rfl)]) rfl σ;simp [Mr];refine AW.loop (ι:=Nat) (fun i fr σ=>∃ s:Bool,fr = { v:=[(0, .slice 1 (a.map .str)),(1, .slice 1 (b.map .str)),(5, .bool s),(6, .int .i64 i)],ds:=[] } ∧ i ≤ a.length ∧ (s = true → a.length = b.length ∧ a.take i = b.take i) ∧ (s = false → a ≠ b)) (fun i=>a.length - i) 0 ⟨_,by simp; rfl,by omega,fun h=>⟨by simp at h; omega,by simp⟩,fun h e=>by subst e; simp at h⟩ ?_;rintro i fr σ ⟨s,rfl,hi,h1,h2⟩
 cases s with
 | false=>
  have h3:=h2 rfl;refine aa _ ?_;simp [h3]
 | true=>
  obtain ⟨hl,ht⟩:=h1 rfl;refine (Nat.lt_or_ge i a.length).elim (fun hlt=>?_) (fun hge=>?_)
  ·have hlb:i < b.length:=by omega
   obtain ⟨x,hx⟩:=zqq (a[i]);obtain ⟨y,hy⟩:=zqq (b[i]);have hst:=zU hlt hlb ht;rw [hx,hy] at hst;have hw:IntKind.i64.wrap ((i:Int) + 1) = ((i + 1:Nat):Int):=by rw [aq (by omega) (by simp only [maxLen] at ha; omega)]; simp
   by_cases hxy:x = y
   ·refine aa _ ?_;simp [hlt,hlb,hx,hy,hw,hxy];exact ⟨i + 1,by omega,by simp,by omega,hl,hst.2 hxy⟩
   ·have hab:a ≠ b:=fun e=>by subst e; exact hxy (hx.symm.trans hy)
    refine aa _ ?_;simp [hlt,hlb,hx,hy,nmd,hw,hxy];exact ⟨i + 1,by omega,by simp,by omega,hab⟩
  ·have hab:a = b:=by
    rw [List.take_of_length_le hge,List.take_of_length_le (by omega)] at ht; exact ht
   refine aa _ ?_;simp [show ¬ i < b.length by omega,hab]
theorem gq (l:List Int) (hl:l.length ≤ maxLen) (σ:af):Spec Tryz.prog Mz [.slice 1 (l.map ii'), .slice 1 (l.map ii')] σ fun r σ'=>r = .ret (.bool true) ∧ σ' = σ:=by
 refine Spec.aF (T0 (by simp) (aa _ ?_)) (by simp [aD (f:=ii') (fun _=>rfl) l]) rfl σ;simp [Qt];refine AW.loop (ι:=Nat) (fun i fr σ=>fr = { v:=[(0, .slice 1 (l.map ii')),(1, .slice 1 (l.map ii')),(5, .bool true),(6, .int .i64 i)],ds:=[] } ∧ i ≤ l.length) (fun i=>l.length - i) 0 (by simp) ?_;rintro i fr σ ⟨rfl,hi⟩;refine (Nat.lt_or_ge i l.length).elim (fun hlt=>?_) (fun hge=>?_)
 ·obtain ⟨x,hx⟩:=zqq (l[i]);refine aa _ ?_;simp [hlt,hx];exact ⟨i + 1,by omega,aq (by omega) (by simp only [maxLen] at hl; omega),by omega⟩
 ·refine aa _ ?_;simp [show ¬ i < l.length by omega]
theorem ah.qe {P:Program} {f:FuncId} (hb:au P f = true) {caps args:List ag} {σ:af} {Q:fq → af → Prop} {K Kp:ag → af → Prop} (hs:Spec P f (args ++ caps) σ Q) (h:∀ r σ',Q r σ' → ∃ v,r = .ret v ∧ K v σ') :
  @ah P (.func (.func f) [] caps) args σ ⟨K⟩ ⟨Kp⟩:=
 aE.func hb (by simpa using hs.mono fun r σ' hq=>by obtain ⟨v,rfl,hk⟩:=h r σ' hq; exact hk)
theorem ah.both {P:Program} {f:FuncId} (hb:au P f = true) {args:List ag} {σ:af} {Q:fq → af → Prop} {K Kp:ag → af → Prop} (hs:Spec P f args σ Q) (h:∀ v σ',Q (.ret v) σ' → K v σ') (hp:∀ v σ',Q (.pan v) σ' → Kp v σ') :
  @ah P (.func (.func f) [] []) args σ ⟨K⟩ ⟨Kp⟩:=
 aE.func hb (by simpa using hs.mono (fun r σ' hq=>match r,hq with
  | .ret v,hq=>h v σ' hq
  | .pan v,hq=>hp v σ' hq))
theorem ah.pan {P:Program} {f:FuncId} (hb:au P f = true) {args:List ag} {σ:af} {v:ag} {Q:af → Prop} {K Kp:ag → af → Prop} (hs:Spec P f args σ fun r σ'=>r = .pan v ∧ Q σ') (hp:∀ σ',Q σ' → Kp v σ') :
  @ah P (.func (.func f) [] []) args σ ⟨K⟩ ⟨Kp⟩:=
 ah.both hb hs (fun _ _ h=>by cases h.1) (fun w σ' h=>by cases h.1; exact hp σ' h.2)
theorem oa (xs:List ag) (hf:Fits 1 xs) (hl:xs.length * 8 ≤ 140737488355328) (σ:af) :
  Spec Tryz.prog II [.slice 1 xs] σ fun r σ'=>r = .ret (.oslice 1 xs σ.length 1) ∧ σ' = σ ++ [.spare 1 1]:=by
 refine RD (by simp) (aa _ ?_);simp [LS,hf,hl]
end Go.AM
