/- push: the search, the way back, the pushing: their invariants. Plain; for the walk of push. web: the journeys' ways, what is over at the nodes, step by step. Plain; for the walks of web and .. -/
import Derived.Test.YtlmhkldmpggadaaGreatDoorP30
import Derived.Test.YtlmhkldmpggadaaGreatDoorP25
namespace Go.AM
def uz (e:aI) (v:Int) (a:Nat):Int:=if a = e.src then e.high - v else v - e.low
def jL (e:aI) (a:Nat):Int:=e.src + e.dst - a
theorem pz {es:List aI} {f:Nat → Int} {i:Nat} (hi:i < es.length) (hne:es[i].src ≠ es[i].dst) {a c:Nat} {k:Int}:fC es f k i a c ↔ (a = es[i].src ∨ a = es[i].dst) ∧ jL es[i] a = c ∧ k ≤ uz es[i] (f i) a:=by
 unfold uz jL;constructor
 ·rintro ⟨hi',⟨h1,h2,h3⟩ | ⟨h1,h2,h3⟩⟩
  ·rw [if_pos h1.symm]; omega
  ·rw [if_neg (by omega)]; omega
 ·rintro ⟨h1 | h1,h2,h3⟩
  ·rw [if_pos h1] at h3; exact ⟨hi, .inl ⟨h1.symm,by omega,by omega⟩⟩
  ·rw [if_neg (by omega)] at h3; exact ⟨hi, .inr ⟨h1.symm,by omega,by omega⟩⟩
def lK (b:Nat → Int) (x:Nat) (v:Int):Nat → Int:=fun y=>if y = x then v else b y
/-! ### the search -/
structure Bfs (N:Nat) (es:List aI) (f:Nat → Int) (P:Nat → Prop) (want:Nat → Int) (s:Nat) (b:Nat → Int) (done line:List Nat):Prop where
 tree:iD es f P s b (line.reverse ++ done)
 seen:∀ y,y < N → (b y ≠ 0 ↔ y ∈ line.reverse ++ done)
 low:∀ y ∈ line.reverse ++ done,y < N
 closed:∀ x ∈ done, ∀ i y,P i → fC es f 1 i x y → y ∈ line.reverse ++ done
 poor:∀ x ∈ done,x ≠ s → ¬ 0 < want x
theorem Bfs.start {N:Nat} {es:List aI} {f:Nat → Int} {P:Nat → Prop} {want:Nat → Int} {s:Nat} (hs:s < N):Bfs N es f P want s (lK (fun _=>0) s (-1)) [] [s]:=by
 refine ⟨.root (by simp [lK]),fun y hy=>?_,by simpa using hs,by simp,by simp⟩;simp only [lK,List.reverse_cons,List.reverse_nil,List.nil_append,List.append_nil,List.mem_singleton]
 split <;> simp_all
structure qC (N:Nat) (es:List aI) (f:Nat → Int) (P:Nat → Prop) (want:Nat → Int) (s:Nat) (b:Nat → Int) (done:List Nat) (a:Nat) (rest:List Nat) (i:Nat):Prop where
 all:Bfs N es f P want s b done (a :: rest)
 ways:∀ j y,j < i → P j → fC es f 1 j a y → y ∈ (a :: rest).reverse ++ done
theorem Bfs.enter {N:Nat} {es:List aI} {f:Nat → Int} {P:Nat → Prop} {want:Nat → Int} {s:Nat} {b:Nat → Int} {done:List Nat} {a:Nat} {rest:List Nat} (h:Bfs N es f P want s b done (a :: rest)):qC N es f P want s b done a rest 0:=⟨h,fun j y hj=>by omega⟩
theorem qC.skip {N:Nat} {es:List aI} {f:Nat → Int} {P:Nat → Prop} {want:Nat → Int} {s:Nat} {b:Nat → Int} {done:List Nat} {a:Nat} {rest:List Nat} {i:Nat} (h:qC N es f P want s b done a rest i) (hi:∀ y,P i → fC es f 1 i a y → y ∈ (a :: rest).reverse ++ done):qC N es f P want s b done a rest (i + 1):=
 ⟨h.all,fun j y hj hp hs=>(Nat.lt_or_ge j i).elim (fun hlt=>h.ways j y hlt hp hs) fun hge=>by
  have e:j = i:=by omega
  subst e
  exact hi y hp hs⟩
theorem qC.add {N:Nat} {es:List aI} {f:Nat → Int} {P:Nat → Prop} {want:Nat → Int} {s:Nat} {b:Nat → Int} {done:List Nat} {a:Nat} {rest:List Nat} {i:Nat} (h:qC N es f P want s b done a rest i) {y:Nat} (hy:y < N) (hb:b y = 0) (hp:P i) (hs:fC es f 1 i a y) :
  qC N es f P want s (lK b y ((i:Int) + 1)) done a (rest ++ [y]) (i + 1):=by
 have hyL:¬ y ∈ (a :: rest).reverse ++ done:=fun hm=>(h.all.seen y hy).2 hm hb;have e:(a :: (rest ++ [y])).reverse ++ done = y :: ((a :: rest).reverse ++ done):=by simp
 have hL:∀ x ∈ (a :: rest).reverse ++ done,lK b y ((i:Int) + 1) x = b x:=fun x hx=>if_neg fun (ex:x = y)=>hyL (ex ▸ hx);have ha:a ∈ (a :: rest).reverse ++ done:=by simp
 refine ⟨⟨?_, ?_, ?_, ?_,h.all.poor⟩, ?_⟩
 ·rw [e]; exact .add (h.all.tree.congr hL) hyL ha hs hp (if_pos rfl)
 ·intro z hz;rw [e,List.mem_cons];unfold lK;by_cases ez:z = y
  ·rw [if_pos ez]; exact ⟨fun _=>.inl ez,fun _=>by omega⟩
  ·rw [if_neg ez,h.all.seen z hz]; exact ⟨.inr,fun hc=>hc.resolve_left ez⟩
 ·intro z hz;rw [e,List.mem_cons] at hz;rcases hz with rfl | hz
  ·exact hy
  ·exact h.all.low z hz
 ·intro x hx j z hj hst;rw [e]; exact List.mem_cons_of_mem _ (h.all.closed x hx j z hj hst)
 ·intro j z hj hpj hst;rw [e];rcases Nat.lt_or_ge j i with hlt | hge
  ·exact List.mem_cons_of_mem _ (h.ways j z hlt hpj hst)
  ·obtain rfl:j = i:=by omega
   have:z = y:=by
    obtain ⟨_,q⟩:=hst;obtain ⟨_,r⟩:=hs;rcases q with ⟨q1,q2,_⟩ | ⟨q1,q2,_⟩ <;> rcases r with ⟨r1,r2,_⟩ | ⟨r1,r2,_⟩ <;> omega
   rw [this]; exact List.mem_cons_self
theorem qC.leave {N:Nat} {es:List aI} {f:Nat → Int} {P:Nat → Prop} {want:Nat → Int} {s:Nat} {b:Nat → Int} {done:List Nat} {a:Nat} {rest:List Nat} {i:Nat} (h:qC N es f P want s b done a rest i) (hi:es.length ≤ i) (ha:a ≠ s → ¬ 0 < want a):Bfs N es f P want s b (a :: done) rest:=by
 have e:(a :: rest).reverse ++ done = rest.reverse ++ a :: done:=by simp
 obtain ⟨⟨h1,h2,h3,h4,h5⟩,h6⟩:=h;rw [e] at h1 h3;refine ⟨h1,fun y hy=>by rw [← e]; exact h2 y hy,h3,fun x hx j y hj hs=>?_,fun x hx hxs=>?_⟩
 ·rw [← e];rcases List.mem_cons.1 hx with rfl | hx
  ·exact h6 j y (by obtain ⟨hj',_⟩:=hs; omega) hj hs
  ·exact h4 x hx j y hj hs
 ·rcases List.mem_cons.1 hx with rfl | hx
  ·exact ha hxs
  ·exact h5 x hx hxs
theorem Bfs.none {N:Nat} {es:List aI} {f:Nat → Int} {P:Nat → Prop} {want:Nat → Int} {s:Nat} {b:Nat → Int} {done:List Nat} (h:Bfs N es f P want s b done []) (hb:InB es f) (most:Int) (t:Nat):la N es f P s most want 0 t f:=by
 refine ⟨hb,fun _=>⟨rfl,fun z _ hz hw ⟨l,hl⟩=>?_⟩,fun e=>absurd rfl e⟩;have h1:=h.tree.start.1;simp only [List.reverse_nil,List.nil_append] at h1;have:=GA (L:=done) (fun x hx i y hp hs=>by simpa using h.closed x hx i y hp hs) hl h1;exact h.poor z this hz hw
/-! ### the way back -/
inductive gi (es:List aI) (f:Nat → Int) (k:Int) (P:Nat → Prop) (by':Nat → Int) (b:Nat):Nat → List Nat → Prop
 | nil:gi es f k P by' b b [b]
 | cons {i p x:Nat} {l:List Nat}:by' x = (i:Int) + 1 → fC es f k i p x → P i → gi es f k P by' b x l → p ∉ l → gi es f k P by' b p (p :: l)
theorem gi.mono {es:List aI} {f:Nat → Int} {k k':Int} {P:Nat → Prop} {by':Nat → Int} {b a:Nat} {l:List Nat} (h:gi es f k P by' b a l) (hk:k' ≤ k):gi es f k' P by' b a l:=by
 induction h with
 | nil=>exact .nil
 | cons h0 h1 hp _ h3 ih=>exact .cons h0 (h1.mono hk) hp ih h3
theorem gi.head {es:List aI} {f:Nat → Int} {k:Int} {P:Nat → Prop} {by':Nat → Int} {b a:Nat} {l:List Nat} (h:gi es f k P by' b a l):∃ r,l = a :: r:=by
 cases h with
 | nil=>exact ⟨[],rfl⟩
 | cons _ _ _ _ _=>exact ⟨_,rfl⟩
theorem gi.last {es:List aI} {f:Nat → Int} {k:Int} {P:Nat → Prop} {by':Nat → Int} {b a:Nat} {l:List Nat} (h:gi es f k P by' b a l):∃ pre,l = pre ++ [b]:=by
 induction h with
 | nil=>exact ⟨[],rfl⟩
 | @cons i p x l _ _ _ _ _ ih=>obtain ⟨pre,e⟩:=ih; exact ⟨p :: pre,by rw [e]; rfl⟩
theorem gi.split {es:List aI} {f:Nat → Int} {k:Int} {P:Nat → Prop} {by':Nat → Int} {b a:Nat} {l:List Nat} (h:gi es f k P by' b a l):∀ (pre:List Nat) (x:Nat) (r:List Nat),l = pre ++ x :: r → pre ≠ [] →
  ∃ pre' p i,pre = pre' ++ [p] ∧ by' x = ((i:Nat):Int) + 1 ∧ fC es f k i p x ∧ P i ∧ p ∉ x :: r:=by
 induction h with
 | nil=>
  intro pre x r e hne;have:=congrArg List.length e
  cases pre with
  | nil=>exact absurd rfl hne
  | cons _ _=>simp at this
 | @cons i p z l h0 h1 hp h2 h3 ih=>
  intro pre x r e hne
  cases pre with
  | nil=>exact absurd rfl hne
  | cons q pre1=>
   rw [List.cons_append,List.cons.injEq] at e;obtain ⟨e1,e2⟩:=e
   cases pre1 with
   | nil=>
    obtain ⟨r',e3⟩:=h2.head;rw [List.nil_append] at e2;have ez:z = x:=by rw [e3] at e2; exact (List.cons.injEq .. ▸ e2).1
    subst ez;exact ⟨[],q,i,rfl,h0,e1 ▸ h1,hp,by rw [← e2, ← e1]; exact h3⟩
   | cons w pre2=>
    obtain ⟨pre',p',i',e4,q1,q2,q3,q4⟩:=ih (w :: pre2) x r e2 (by simp);exact ⟨q :: pre',p',i',by rw [e4]; rfl,q1,q2,q3,q4⟩
structure BD (es:List aI) (f:Nat → Int) (k:Int) (P:Nat → Prop) (s:Nat) (by':Nat → Int) (b x:Nat) (L l:List Nat):Prop where
 tree:iD es f P s by' (x :: L)
 trail:gi es f k P by' b x l
 new:∀ y ∈ l,y ∉ L
theorem AY {es:List aI} {f:Nat → Int} (k:Int) {P:Nat → Prop} {s:Nat} {by':Nat → Int} {L:List Nat} (h:iD es f P s by' L) {x:Nat} (hx:x ∈ L):∃ L2,BD es f k P s by' x x L2 [x]:=by
 obtain ⟨L1,L2,_,h2⟩:=h.suffix hx;refine ⟨L2,h2, .nil,fun y hy=>?_⟩;rw [List.mem_singleton.1 hy];exact (List.nodup_cons.1 h2.nodup).1
theorem BD.step {es:List aI} {f:Nat → Int} {k:Int} {P:Nat → Prop} {s:Nat} {by':Nat → Int} {b x:Nat} {L l:List Nat} (h:BD es f k P s by' b x L l) (hne:∀ e ∈ es,e.src ≠ e.dst) (hx:x ≠ s) :
  ∃ i p:Nat, ∃ hi:i < es.length,by' x = (i:Int) + 1 ∧ P i ∧ jL es[i] x = p ∧ 1 ≤ uz es[i] (f i) p ∧
   ∃ L',L'.length < L.length ∧ BD es f (min k (uz es[i] (f i) p)) P s by' b p L' (p :: l):=by
 obtain ⟨ht,hl,hn⟩:=h
 cases ht with
 | root=>exact absurd rfl hx
 | @add _ _ p i h1 h2 h3 h4 h5 h6=>
  obtain ⟨hi,_⟩:=id h4;have hni:=hne es[i] (List.getElem_mem hi);obtain ⟨r1,r2,r3⟩:=(pz hi hni).1 h4;have hpl:p ∉ l:=fun hp=>hn p hp h3;have ho:jL es[i] x = p:=by unfold jL at r2 ⊢; omega
  refine ⟨i,p,hi,h6,h5,ho,r3, ?_⟩;obtain ⟨L1,L2,e,h7⟩:=h1.suffix h3;have hnd:=h1.nodup;refine ⟨L2,by rw [e]; simp; omega,h7, .cons h6 ((pz hi hni).2 ⟨r1,r2,by omega⟩) h5 (hl.mono (by omega)) hpl,fun y hy hyL=>?_⟩;rcases List.mem_cons.1 hy with rfl | hy
  ·exact (List.nodup_cons.1 h7.nodup).1 hyL
  ·exact hn y hy (by rw [e]; simp [hyL])
/-! ### the pushing -/
theorem GS {es:List aI} {f f':Nat → Int} {k:Int} (hk:0 ≤ k) {P:Nat → Prop} {by':Nat → Int} {b s x:Nat} {l pre r:List Nat} (hne:∀ e ∈ es,e.src ≠ e.dst) (ht:gi es f k P by' b s l) (el:l = pre ++ x :: r) (hx:x ≠ s) (h:mG es f k P b x (x :: r) f') :
  ∃ (pre':List Nat) (p i:Nat), ∃ hi:i < es.length,pre = pre' ++ [p] ∧ by' x = ((i:Nat):Int) + 1 ∧ jL es[i] x = (p:Int) ∧ f' i = f i ∧ mG es f k P b p (p :: x :: r) (cG f' i (if es[i].src = p then k else -k)):=by
 have hpre:pre ≠ []:=by
  rintro rfl;obtain ⟨q,e⟩:=ht.head;rw [el,List.nil_append] at e;exact hx (List.cons.injEq .. ▸ e).1
 obtain ⟨pre',p,i,e1,e2,e3,e4,e5⟩:=ht.split pre x r el hpre;obtain ⟨hi,q1,q2⟩:=h.cons hk hne e3 e4 (by simp) e5;have hni:=hne es[i] (List.getElem_mem hi);obtain ⟨r1,r2,_⟩:=(pz hi hni).1 e3;exact ⟨pre',p,i,hi,e1,e2,by unfold jL at r2 ⊢; omega,q1,q2⟩
theorem H9 {es:List aI} {i:Nat} (h:i < es.length) (n:Nat) (f:Nat → Int):aS n (es.take (i + 1)) 0 f = aS n (es.take i) 0 f + ((if es[i].dst = n then f i else 0) - (if es[i].src = n then f i else 0)):=by
 rw [List.take_succ_eq_append_getElem h,mJ];simp only [aS,List.length_take,Nat.zero_add,Nat.min_eq_left (Nat.le_of_lt h)];omega
def vm (y:ab) (k:Int) (i a:Nat):Int:=if aK y a = k ∧ bH y a < i then ((2 * y.places.length + fN k y.papers 0 (bH y a):Nat):Int) else 0
theorem Gb (y:ab) (k:Int) (a:Nat):vm y k 0 a = 0:=by unfold vm; rw [if_neg (by omega)]
section
variable {nm:ByteArray → Bool} {y:ab} (h:bJ nm y) {k:Int}
include h
theorem A6 {a i:Nat} (ha:a < y.papers.length) (hi:i < y.papers.length) (hc:(i:Int) = y.papers[a].copy):(a:Int) = y.papers[i].copy:=by
 rcases (h.papers a ha).copy with e | ⟨c1,c2,c3,q,hq,c4,_⟩
 ·omega
 ·have e:y.papers[a].copy.toNat = i:=by omega
  rw [e,List.getElem?_eq_getElem hi,Option.some.injEq] at hq;subst hq;exact c4.symm
theorem GV {i a:Nat} (hi:i < y.papers.length) (ha:a < y.papers.length) (hk:y.papers[i].kind = k) (hl:br y.papers[i] i = true) :
  vm y k (i + 1) a = if a = i ∨ (a:Int) = y.papers[i].copy then ((2 * y.places.length + fN k y.papers 0 i:Nat):Int) else vm y k i a:=by
 have h1:=rl h ha (j:=i) hi hl;have h2:(i = a ∨ (i:Int) = y.papers[a].copy) ↔ (a = i ∨ (a:Int) = y.papers[i].copy):=by
  constructor
  ·rintro (e | e)
   ·exact .inl e.symm
   ·exact .inr (A6 h ha hi e)
  ·rintro (e | e)
   ·exact .inl e.symm
   ·exact .inr (A6 h hi ha e)
 unfold vm;obtain ⟨hL,_,l2,_⟩:=k8 h ha;by_cases e:i = bH y a
 ·have hka:aK y a = k:=by rw [← l2]; simp only [← e]; exact hk
  rw [if_pos (h2.1 (h1.2 e)),if_pos ⟨hka,by omega⟩, ← e]
 ·rw [if_neg (fun c=>e (h1.1 (h2.2 c)))];by_cases hc:aK y a = k ∧ bH y a < i
  ·rw [if_pos hc,if_pos ⟨hc.1,by omega⟩]
  ·rw [if_neg hc,if_neg (by omega)]
theorem GY {i a:Nat} (hi:i < y.papers.length) (ha:a < y.papers.length) (hk:¬ (y.papers[i].kind = k ∧ br y.papers[i] i = true)):vm y k (i + 1) a = vm y k i a:=by
 unfold vm;obtain ⟨hL,l1,l2,_⟩:=k8 h ha;by_cases hc:aK y a = k ∧ bH y a < i
 ·rw [if_pos hc,if_pos ⟨hc.1,by omega⟩]
 ·rw [if_neg hc,if_neg];rintro ⟨c1,c2⟩;have e:bH y a = i:=by omega
  simp only [e] at l1 l2;exact hk ⟨by rw [l2,c1],l1⟩
end
def ay.cells (c:ay):List ag:=[ii' c.kind,ii' c.place,ii' c.lo,ii' c.hi]
def ay.v (c:ay):ag:=.agg c.cells
theorem ay.pure (c:ay):c.v.pure = true:=rfl
def aj.cells (p:aj):List ag:=[ii' p.kind,ii' p.src,ii' p.dst,ii' p.kilos,ii' p.copy]
def aj.v (p:aj):ag:=.agg p.cells
theorem aj.pure (p:aj):p.v.pure = true:=rfl
def ab.cells (y:ab):List ag:=[.slice 1 (y.kinds.map .str), .slice 1 (y.places.map .str), .slice 4 (y.first.map ay.v), .slice 5 (y.papers.map aj.v), .slice 4 (y.last.map ay.v)]
def ab.v (y:ab):ag:=.agg y.cells
theorem ab.pure (y:ab):y.v.pure = true:=by
 simp [ab.v,ab.cells,ag.pure,aH,aD (f:=ag.str) (fun _=>rfl) y.kinds,aD (f:=ag.str) (fun _=>rfl) y.places,aD (f:=ay.v) (fun c=>c.pure) y.first,aD (f:=ay.v) (fun c=>c.pure) y.last,aD (f:=aj.v) (fun c=>c.pure) y.papers]
def bt.cells (p:bt):List ag:=[ii' p.paper,ii' p.kind,ii' p.places,ii' p.over]
def bt.v (p:bt):ag:=.agg p.cells
theorem bt.pure (p:bt):p.v.pure = true:=rfl
def aI.cells (e:aI) (v:Int):List ag:=[ii' e.src,ii' e.dst,ii' e.low,ii' e.high,ii' v]
def aI.v (e:aI) (v:Int):ag:=.agg (e.cells v)
open Go.Proofs
theorem ah.tl {P:Program} {f:FuncId} (hb:au P f = true) {args:List ag} {σ:af} {v:ag} {K Kp:ag → af → Prop} (hs:Spec P f args σ fun r σ'=>r = .ret v ∧ ∃ tl,σ' = σ ++ tl) (hq:∀ tl,K v (σ ++ tl)) :
  @ah P (.func (.func f) [] []) args σ ⟨K⟩ ⟨Kp⟩:=
 (aE.func (first:=[]) (caps:=[]) hb (by rw [List.nil_append,List.append_nil]; exact hs)).mono (by rintro r σ' ⟨rfl,tl,rfl⟩; exact hq tl)
theorem ah.spec {P:Program} {f:FuncId} (hb:au P f = true) {args:List ag} {σ:af} {Q:fq → af → Prop} {K Kp:ag → af → Prop} (hs:Spec P f args σ Q) (h:∀ r σ',Q r σ' → ∃ v,r = .ret v ∧ K v σ') :
  @ah P (.func (.func f) [] []) args σ ⟨K⟩ ⟨Kp⟩:=
 aE.func hb (by simpa using hs.mono fun r σ' hq=>by obtain ⟨v,rfl,hk⟩:=h r σ' hq; exact hk)
end Go.AM
