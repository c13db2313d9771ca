/- What is allowed, az a list of spans by papers: az the reference keeps it. Plain; for the walks of Allowed, with, still, Range, Gone. The outside az one more place, az the reference sums it; sums .. -/
import Derived.Test.YtlmhkldmpggadaaGreatDoorP20
import Derived.Test.YtlmhkldmpggadaaGreatDoorP19
import Derived.Test.YtlmhkldmpggadaaGreatDoorP17
namespace Go.AM
section
variable {nm:ByteArray → Bool} {y:ab} (h:bS nm y) {wrong:List Nat} {i:Nat} (hi:i < y.papers.length)
include h hi
theorem A1 {j:Nat} (hj:j < y.papers.length) (hl:bY y.papers[j] j = true):(j = i ∨ (j:Int) = y.papers[i].copy) ↔ j = br y i:=by
 obtain ⟨hL,l1,l2,l3,_,_⟩:=ni h hi;constructor
 ·intro hc;rcases l3 with e | ⟨e1,e2⟩
  ·rcases hc with e3 | e3
   ·omega
   ·have hpi:=h.papers i hi;rcases hpi.copy with q | ⟨c1,c2,c3,q,hq,c4,_⟩
    ·omega
    ·have ej:y.papers[i].copy.toNat = j:=by omega
     rw [ej,List.getElem?_eq_getElem hj,Option.some.injEq] at hq;subst hq;simp only [e] at l1;unfold bY at hl l1;rw [Bool.or_eq_true,decide_eq_true_eq,decide_eq_true_eq] at hl l1;omega
  ·rcases hc with e3 | e3
   ·subst e3;unfold bY at hl l1;rw [Bool.or_eq_true,decide_eq_true_eq,decide_eq_true_eq] at hl l1;omega
   ·omega
 ·intro e;rcases l3 with e1 | ⟨e1,e2⟩
  ·exact .inl (e.trans e1)
  ·exact .inr (by rw [e2,e])
end
/-! ### halves -/
def rK (e:aA) (v:Int) (a:Nat):Int:=if a = e.src then e.high - v else v - e.low
def ia (e:aA) (a:Nat):Int:=e.src + e.dst - a
theorem nh {es:List aA} {f:Nat → Int} {i:Nat} (hi:i < es.length) (hne:es[i].src ≠ es[i].dst) {a c:Nat} {k:Int}:eu es f k i a c ↔ (a = es[i].src ∨ a = es[i].dst) ∧ ia es[i] a = c ∧ k ≤ rK es[i] (f i) a:=by
 unfold rK ia;constructor
 ·rintro ⟨hi',⟨h1,h2,h3⟩ | ⟨h1,h2,h3⟩⟩
  ·rw [if_pos h1.symm]; omega
  ·rw [if_neg (by omega)]; omega
 ·rintro ⟨h1 | h1,h2,h3⟩
  ·rw [if_pos h1] at h3; exact ⟨hi, .inl ⟨h1.symm,by omega,by omega⟩⟩
  ·rw [if_neg (by omega)] at h3; exact ⟨hi, .inr ⟨h1.symm,by omega,by omega⟩⟩
def jQ (b:Nat → Int) (x:Nat) (v:Int):Nat → Int:=fun y=>if y = x then v else b y
/-! ### the search -/
structure Bfs (N:Nat) (es:List aA) (f:Nat → Int) (P:Nat → Prop) (want:Nat → Int) (s:Nat) (b:Nat → Int) (done line:List Nat):Prop where
 tree:fI es f P s b (line.reverse ++ done)
 seen:∀ y,y < N → (b y ≠ 0 ↔ y ∈ line.reverse ++ done)
 low:∀ y ∈ line.reverse ++ done,y < N
 closed:∀ x ∈ done, ∀ i y,P i → eu es f 1 i x y → y ∈ line.reverse ++ done
 poor:∀ x ∈ done,x ≠ s → ¬ 0 < want x
theorem Bfs.start {N:Nat} {es:List aA} {f:Nat → Int} {P:Nat → Prop} {want:Nat → Int} {s:Nat} (hs:s < N):Bfs N es f P want s (jQ (fun _=>0) s (-1)) [] [s]:=by
 refine ⟨.root (by simp [jQ]),fun y hy=>?_,by simpa using hs,by simp,by simp⟩;simp only [jQ,List.reverse_cons,List.reverse_nil,List.nil_append,List.append_nil,List.mem_singleton]
 split <;> simp_all
structure nY (N:Nat) (es:List aA) (f:Nat → Int) (P:Nat → Prop) (want:Nat → Int) (s:Nat) (b:Nat → Int) (done:List Nat) (a:Nat) (rest:List Nat) (i:Nat):Prop where
 all:Bfs N es f P want s b done (a :: rest)
 ways:∀ j y,j < i → P j → eu es f 1 j a y → y ∈ (a :: rest).reverse ++ done
theorem Bfs.enter {N:Nat} {es:List aA} {f:Nat → Int} {P:Nat → Prop} {want:Nat → Int} {s:Nat} {b:Nat → Int} {done:List Nat} {a:Nat} {rest:List Nat} (h:Bfs N es f P want s b done (a :: rest)):nY N es f P want s b done a rest 0:=⟨h,fun j y hj=>by omega⟩
theorem nY.skip {N:Nat} {es:List aA} {f:Nat → Int} {P:Nat → Prop} {want:Nat → Int} {s:Nat} {b:Nat → Int} {done:List Nat} {a:Nat} {rest:List Nat} {i:Nat} (h:nY N es f P want s b done a rest i) (hi:∀ y,P i → eu es f 1 i a y → y ∈ (a :: rest).reverse ++ done):nY N es f P want s b done a rest (i + 1):=
 ⟨h.all,fun j y hj hp hs=>(Nat.lt_or_ge j i).elim (fun hlt=>h.ways j y hlt hp hs) fun hge=>by
  have e:j = i:=by omega
  subst e
  exact hi y hp hs⟩
theorem nY.add {N:Nat} {es:List aA} {f:Nat → Int} {P:Nat → Prop} {want:Nat → Int} {s:Nat} {b:Nat → Int} {done:List Nat} {a:Nat} {rest:List Nat} {i:Nat} (h:nY N es f P want s b done a rest i) {y:Nat} (hy:y < N) (hb:b y = 0) (hp:P i) (hs:eu es f 1 i a y) :
  nY N es f P want s (jQ b y ((i:Int) + 1)) done a (rest ++ [y]) (i + 1):=by
 have hyL:¬ y ∈ (a :: rest).reverse ++ done:=fun hm=>(h.all.seen y hy).2 hm hb
 have e:(a :: (rest ++ [y])).reverse ++ done = y :: ((a :: rest).reverse ++ done):=by simp
 have hL:∀ x ∈ (a :: rest).reverse ++ done,jQ b y ((i:Int) + 1) x = b x:=fun x hx=>if_neg fun (ex:x = y)=>hyL (ex ▸ hx)
 have ha:a ∈ (a :: rest).reverse ++ done:=by simp
 refine ⟨⟨?_, ?_, ?_, ?_,h.all.poor⟩, ?_⟩
 ·rw [e]; exact .add (h.all.tree.congr hL) hyL ha hs hp (if_pos rfl)
 ·intro z hz;rw [e,List.mem_cons];unfold jQ;by_cases ez:z = y
  ·rw [if_pos ez]; exact ⟨fun _=>.inl ez,fun _=>by omega⟩
  ·rw [if_neg ez,h.all.seen z hz]; exact ⟨.inr,fun hc=>hc.resolve_left ez⟩
 ·intro z hz;rw [e,List.mem_cons] at hz;rcases hz with rfl | hz
  ·exact hy
  ·exact h.all.low z hz
 ·intro x hx j z hj hst;rw [e]; exact List.mem_cons_of_mem _ (h.all.closed x hx j z hj hst)
 ·intro j z hj hpj hst;rw [e];rcases Nat.lt_or_ge j i with hlt | hge
  ·exact List.mem_cons_of_mem _ (h.ways j z hlt hpj hst)
  ·obtain rfl:j = i:=by omega
   have:z = y:=by
    obtain ⟨_,q⟩:=hst;obtain ⟨_,r⟩:=hs;rcases q with ⟨q1,q2,_⟩ | ⟨q1,q2,_⟩ <;> rcases r with ⟨r1,r2,_⟩ | ⟨r1,r2,_⟩ <;> omega
   rw [this]; exact List.mem_cons_self
theorem nY.leave {N:Nat} {es:List aA} {f:Nat → Int} {P:Nat → Prop} {want:Nat → Int} {s:Nat} {b:Nat → Int} {done:List Nat} {a:Nat} {rest:List Nat} {i:Nat} (h:nY N es f P want s b done a rest i) (hi:es.length ≤ i) (ha:a ≠ s → ¬ 0 < want a):Bfs N es f P want s b (a :: done) rest:=by
 have e:(a :: rest).reverse ++ done = rest.reverse ++ a :: done:=by simp
 obtain ⟨⟨h1,h2,h3,h4,h5⟩,h6⟩:=h;rw [e] at h1 h3;refine ⟨h1,fun y hy=>by rw [← e]; exact h2 y hy,h3,fun x hx j y hj hs=>?_,fun x hx hxs=>?_⟩
 ·rw [← e];rcases List.mem_cons.1 hx with rfl | hx
  ·exact h6 j y (by obtain ⟨hj',_⟩:=hs; omega) hj hs
  ·exact h4 x hx j y hj hs
 ·rcases List.mem_cons.1 hx with rfl | hx
  ·exact ha hxs
  ·exact h5 x hx hxs
theorem Bfs.none {N:Nat} {es:List aA} {f:Nat → Int} {P:Nat → Prop} {want:Nat → Int} {s:Nat} {b:Nat → Int} {done:List Nat} (h:Bfs N es f P want s b done []) (hb:InB es f) (most:Int) (t:Nat):jC N es f P s most want 0 t f:=by
 refine ⟨hb,fun _=>⟨rfl,fun z _ hz hw ⟨l,hl⟩=>?_⟩,fun e=>absurd rfl e⟩;have h1:=h.tree.start.1;simp only [List.reverse_nil,List.nil_append] at h1;have:=Df (L:=done) (fun x hx i y hp hs=>by simpa using h.closed x hx i y hp hs) hl h1;exact h.poor z this hz hw
/-! ### the way back -/
inductive eN (es:List aA) (f:Nat → Int) (k:Int) (P:Nat → Prop) (by':Nat → Int) (b:Nat):Nat → List Nat → Prop
 | nil:eN es f k P by' b b [b]
 | cons {i p x:Nat} {l:List Nat}:by' x = (i:Int) + 1 → eu es f k i p x → P i → eN es f k P by' b x l → p ∉ l → eN es f k P by' b p (p :: l)
theorem eN.mono {es:List aA} {f:Nat → Int} {k k':Int} {P:Nat → Prop} {by':Nat → Int} {b a:Nat} {l:List Nat} (h:eN es f k P by' b a l) (hk:k' ≤ k):eN es f k' P by' b a l:=by
 induction h with
 | nil=>exact .nil
 | cons h0 h1 hp _ h3 ih=>exact .cons h0 (h1.mono hk) hp ih h3
theorem eN.head {es:List aA} {f:Nat → Int} {k:Int} {P:Nat → Prop} {by':Nat → Int} {b a:Nat} {l:List Nat} (h:eN es f k P by' b a l):∃ r,l = a :: r:=by
 cases h with
 | nil=>exact ⟨[],rfl⟩
 | cons _ _ _ _ _=>exact ⟨_,rfl⟩
theorem eN.last {es:List aA} {f:Nat → Int} {k:Int} {P:Nat → Prop} {by':Nat → Int} {b a:Nat} {l:List Nat} (h:eN es f k P by' b a l):∃ pre,l = pre ++ [b]:=by
 induction h with
 | nil=>exact ⟨[],rfl⟩
 | @cons i p x l _ _ _ _ _ ih=>obtain ⟨pre,e⟩:=ih; exact ⟨p :: pre,by rw [e]; rfl⟩
theorem eN.split {es:List aA} {f:Nat → Int} {k:Int} {P:Nat → Prop} {by':Nat → Int} {b a:Nat} {l:List Nat} (h:eN es f k P by' b a l):∀ (pre:List Nat) (x:Nat) (r:List Nat),l = pre ++ x :: r → pre ≠ [] →
  ∃ pre' p i,pre = pre' ++ [p] ∧ by' x = ((i:Nat):Int) + 1 ∧ eu es f k i p x ∧ P i ∧ p ∉ x :: r:=by
 induction h with
 | nil=>
  intro pre x r e hne;have:=congrArg List.length e
  cases pre with
  | nil=>exact absurd rfl hne
  | cons _ _=>simp at this
 | @cons i p z l h0 h1 hp h2 h3 ih=>
  intro pre x r e hne
  cases pre with
  | nil=>exact absurd rfl hne
  | cons q pre1=>
   rw [List.cons_append,List.cons.injEq] at e;obtain ⟨e1,e2⟩:=e
   cases pre1 with
   | nil=>
    obtain ⟨r',e3⟩:=h2.head;rw [List.nil_append] at e2;have ez:z = x:=by rw [e3] at e2; exact (List.cons.injEq .. ▸ e2).1
    subst ez;exact ⟨[],q,i,rfl,h0,e1 ▸ h1,hp,by rw [← e2, ← e1]; exact h3⟩
   | cons w pre2=>
    obtain ⟨pre',p',i',e4,q1,q2,q3,q4⟩:=ih (w :: pre2) x r e2 (by simp);exact ⟨q :: pre',p',i',by rw [e4]; rfl,q1,q2,q3,q4⟩
structure zp (es:List aA) (f:Nat → Int) (k:Int) (P:Nat → Prop) (s:Nat) (by':Nat → Int) (b x:Nat) (L l:List Nat):Prop where
 tree:fI es f P s by' (x :: L)
 trail:eN es f k P by' b x l
 new:∀ y ∈ l,y ∉ L
theorem Aa {es:List aA} {f:Nat → Int} (k:Int) {P:Nat → Prop} {s:Nat} {by':Nat → Int} {L:List Nat} (h:fI es f P s by' L) {x:Nat} (hx:x ∈ L):∃ L2,zp es f k P s by' x x L2 [x]:=by
 obtain ⟨L1,L2,_,h2⟩:=h.suffix hx;refine ⟨L2,h2, .nil,fun y hy=>?_⟩;rw [List.mem_singleton.1 hy];exact (List.nodup_cons.1 h2.nodup).1
theorem zp.step {es:List aA} {f:Nat → Int} {k:Int} {P:Nat → Prop} {s:Nat} {by':Nat → Int} {b x:Nat} {L l:List Nat} (h:zp es f k P s by' b x L l) (hne:∀ e ∈ es,e.src ≠ e.dst) (hx:x ≠ s) :
  ∃ i p:Nat, ∃ hi:i < es.length,by' x = (i:Int) + 1 ∧ P i ∧ ia es[i] x = p ∧ 1 ≤ rK es[i] (f i) p ∧
   ∃ L',L'.length < L.length ∧ zp es f (min k (rK es[i] (f i) p)) P s by' b p L' (p :: l):=by
 obtain ⟨ht,hl,hn⟩:=h
 cases ht with
 | root=>exact absurd rfl hx
 | @add _ _ p i h1 h2 h3 h4 h5 h6=>
  obtain ⟨hi,_⟩:=id h4;have hni:=hne es[i] (List.getElem_mem hi);obtain ⟨r1,r2,r3⟩:=(nh hi hni).1 h4;have hpl:p ∉ l:=fun hp=>hn p hp h3
  have ho:ia es[i] x = p:=by unfold ia at r2 ⊢; omega
  refine ⟨i,p,hi,h6,h5,ho,r3, ?_⟩;obtain ⟨L1,L2,e,h7⟩:=h1.suffix h3;have hnd:=h1.nodup;refine ⟨L2,by rw [e]; simp; omega,h7, .cons h6 ((nh hi hni).2 ⟨r1,r2,by omega⟩) h5 (hl.mono (by omega)) hpl,fun y hy hyL=>?_⟩;rcases List.mem_cons.1 hy with rfl | hy
  ·exact (List.nodup_cons.1 h7.nodup).1 hyL
  ·exact hn y hy (by rw [e]; simp [hyL])
/-! ### the pushing -/
theorem DC {es:List aA} {f f':Nat → Int} {k:Int} (hk:0 ≤ k) {P:Nat → Prop} {by':Nat → Int} {b s x:Nat} {l pre r:List Nat} (hne:∀ e ∈ es,e.src ≠ e.dst) (ht:eN es f k P by' b s l) (el:l = pre ++ x :: r) (hx:x ≠ s) (h:kZ es f k P b x (x :: r) f') :
  ∃ (pre':List Nat) (p i:Nat), ∃ hi:i < es.length,pre = pre' ++ [p] ∧ by' x = ((i:Nat):Int) + 1 ∧ ia es[i] x = (p:Int) ∧ f' i = f i ∧ kZ es f k P b p (p :: x :: r) (bO f' i (if es[i].src = p then k else -k)):=by
 have hpre:pre ≠ []:=by
  rintro rfl;obtain ⟨q,e⟩:=ht.head;rw [el,List.nil_append] at e;exact hx (List.cons.injEq .. ▸ e).1
 obtain ⟨pre',p,i,e1,e2,e3,e4,e5⟩:=ht.split pre x r el hpre;obtain ⟨hi,q1,q2⟩:=h.cons hk hne e3 e4 (by simp) e5;have hni:=hne es[i] (List.getElem_mem hi);obtain ⟨r1,r2,_⟩:=(nh hi hni).1 e3;exact ⟨pre',p,i,hi,e1,e2,by unfold ia at r2 ⊢; omega,q1,q2⟩
theorem Eb {es:List aA} {i:Nat} (h:i < es.length) (n:Nat) (f:Nat → Int):aU n (es.take (i + 1)) 0 f = aU n (es.take i) 0 f + ((if es[i].dst = n then f i else 0) - (if es[i].src = n then f i else 0)):=by
 rw [List.take_succ_eq_append_getElem h,qw];simp only [aU,List.length_take,Nat.zero_add,Nat.min_eq_left (Nat.le_of_lt h)];omega
def sG (y:ab) (k:Int) (i a:Nat):Int:=if aG y a = k ∧ br y a < i then ((2 * y.places.length + e8 k y.papers 0 (br y a):Nat):Int) else 0
theorem Dq (y:ab) (k:Int) (a:Nat):sG y k 0 a = 0:=by unfold sG; rw [if_neg (by omega)]
section
variable {nm:ByteArray → Bool} {y:ab} (h:bS nm y) {k:Int}
include h
theorem yC {a i:Nat} (ha:a < y.papers.length) (hi:i < y.papers.length) (hc:(i:Int) = y.papers[a].copy):(a:Int) = y.papers[i].copy:=by
 rcases (h.papers a ha).copy with e | ⟨c1,c2,c3,q,hq,c4,_⟩
 ·omega
 ·have e:y.papers[a].copy.toNat = i:=by omega
  rw [e,List.getElem?_eq_getElem hi,Option.some.injEq] at hq;subst hq;exact c4.symm
theorem CF {i a:Nat} (hi:i < y.papers.length) (ha:a < y.papers.length) (hk:y.papers[i].kind = k) (hl:bY y.papers[i] i = true) :
  sG y k (i + 1) a = if a = i ∨ (a:Int) = y.papers[i].copy then ((2 * y.places.length + e8 k y.papers 0 i:Nat):Int) else sG y k i a:=by
 have h1:=A1 h ha (j:=i) hi hl;have h2:(i = a ∨ (i:Int) = y.papers[a].copy) ↔ (a = i ∨ (a:Int) = y.papers[i].copy):=by
  constructor
  ·rintro (e | e)
   ·exact .inl e.symm
   ·exact .inr (yC h ha hi e)
  ·rintro (e | e)
   ·exact .inl e.symm
   ·exact .inr (yC h hi ha e)
 unfold sG;obtain ⟨hL,_,l2,_⟩:=ni h ha;by_cases e:i = br y a
 ·have hka:aG y a = k:=by rw [← l2]; simp only [← e]; exact hk
  rw [if_pos (h2.1 (h1.2 e)),if_pos ⟨hka,by omega⟩, ← e]
 ·rw [if_neg (fun c=>e (h1.1 (h2.2 c)))];by_cases hc:aG y a = k ∧ br y a < i
  ·rw [if_pos hc,if_pos ⟨hc.1,by omega⟩]
  ·rw [if_neg hc,if_neg (by omega)]
theorem Cx {i a:Nat} (hi:i < y.papers.length) (ha:a < y.papers.length) (hk:¬ (y.papers[i].kind = k ∧ bY y.papers[i] i = true)):sG y k (i + 1) a = sG y k i a:=by
 unfold sG;obtain ⟨hL,l1,l2,_⟩:=ni h ha;by_cases hc:aG y a = k ∧ br y a < i
 ·rw [if_pos hc,if_pos ⟨hc.1,by omega⟩]
 ·rw [if_neg hc,if_neg];rintro ⟨c1,c2⟩;have e:br y a = i:=by omega
  simp only [e] at l1 l2;exact hk ⟨by rw [l2,c1],l1⟩
end
def av.cells (c:av):List ag:=[ii' c.kind,ii' c.place,ii' c.lo,ii' c.hi]
def av.v (c:av):ag:=.agg c.cells
theorem av.pure (c:av):c.v.pure = true:=rfl
def ak.cells (p:ak):List ag:=[ii' p.kind,ii' p.src,ii' p.dst,ii' p.kilos,ii' p.copy]
def ak.v (p:ak):ag:=.agg p.cells
theorem ak.pure (p:ak):p.v.pure = true:=rfl
def ab.cells (y:ab):List ag:=[.slice 1 (y.kinds.map .str), .slice 1 (y.places.map .str), .slice 4 (y.first.map av.v), .slice 5 (y.papers.map ak.v), .slice 4 (y.last.map av.v)]
def ab.v (y:ab):ag:=.agg y.cells
theorem ab.pure (y:ab):y.v.pure = true:=by
 simp [ab.v,ab.cells,ag.pure,aK,aC (f:=ag.str) (fun _=>rfl) y.kinds,aC (f:=ag.str) (fun _=>rfl) y.places,aC (f:=av.v) (fun c=>c.pure) y.first,aC (f:=av.v) (fun c=>c.pure) y.last,aC (f:=ak.v) (fun c=>c.pure) y.papers]
def bj.cells (p:bj):List ag:=[ii' p.paper,ii' p.kind,ii' p.places,ii' p.over]
def bj.v (p:bj):ag:=.agg p.cells
theorem bj.pure (p:bj):p.v.pure = true:=rfl
def aA.cells (e:aA) (v:Int):List ag:=[ii' e.src,ii' e.dst,ii' e.low,ii' e.high,ii' v]
def aA.v (e:aA) (v:Int):ag:=.agg (e.cells v)
open Go.Proofs
theorem ah.tl {P:Program} {f:FuncId} (hb:ar P f = true) {args:List ag} {σ:af} {v:ag} {K Kp:ag → af → Prop} (hs:Spec P f args σ fun r σ'=>r = .ret v ∧ ∃ tl,σ' = σ ++ tl) (hq:∀ tl,K v (σ ++ tl)) :
  @ah P (.func (.func f) [] []) args σ ⟨K⟩ ⟨Kp⟩:=
 (aL.func (first:=[]) (caps:=[]) hb (by rw [List.nil_append,List.append_nil]; exact hs)).mono (by rintro r σ' ⟨rfl,tl,rfl⟩; exact hq tl)
theorem ah.spec {P:Program} {f:FuncId} (hb:ar P f = true) {args:List ag} {σ:af} {Q:dU → af → Prop} {K Kp:ag → af → Prop} (hs:Spec P f args σ Q) (h:∀ r σ',Q r σ' → ∃ v,r = .ret v ∧ K v σ') :
  @ah P (.func (.func f) [] []) args σ ⟨K⟩ ⟨Kp⟩:=
 aL.func hb (by simpa using hs.mono fun r σ' hq=>by obtain ⟨v,rfl,hk⟩:=h r σ' hq; exact hk)
set_option maxRecDepth 100000
set_option maxHeartbeats 1000000
def va (n lo hi:Int):Bool:=decide (lo ≤ n) && decide (n ≤ hi)
theorem ir (n lo hi:Int) (σ:af):Spec Tryz.prog EH [.int .i64 n, .int .i64 lo, .int .i64 hi] σ fun r σ'=>r = .ret (.bool (va n lo hi)) ∧ σ' = σ:=by
 refine Spec.aI (JJ (by simp) (aa _ ?_)) rfl rfl σ;simp [HO,va]
def lE (s:ByteArray) (i:Nat):Nat:=(s.data[i]?.getD 0).toNat
def letterF (b:Nat):Bool:=decide (97 ≤ b) && decide (b ≤ 122)
def oB (b:Nat):Bool:=decide (48 ≤ b) && decide (b ≤ 57)
def nB (s:ByteArray) (i:Nat):Bool:=letterF (lE s i) || (oB (lE s i) && i != 0)
def iw (s:ByteArray):Nat → Nat → Bool
 | _,0=>true
 | i,n + 1=>nB s i && iw s (i + 1) n
def aN (s:ByteArray):Bool:=decide (1 ≤ s.size) && decide (s.size ≤ 16) && iw s 0 s.size
theorem CA (s:ByteArray) (i:Nat) (h:i < s.size):lE s i = (s[i]'h).toNat:=by
 have h':i < s.data.size:=h;have e:s.data[i]?.getD 0 = s.data[i]'h':=by rw [Array.getElem?_eq_getElem h']; rfl
 unfold lE;rw [e];rfl
theorem rj {s:ByteArray} {i:Nat} (hlt:i < s.size) (hp:iw s 0 s.size = iw s i (s.size - i)) (h:nB s i = false):aN s = false:=by
 unfold aN;rw [hp,show s.size - i = (s.size - (i + 1)) + 1 by omega,iw,h];simp
theorem Ek (b:ByteArray) (i:Nat) (h:i < b.data.toList.length):b.get! i = b.data.toList[i]:=by
 obtain ⟨a⟩:=b;have h':i < a.size:=by simpa using h
 show a[i]! = _
 rw [getElem!_pos a i h']; simp
theorem bl (b:ByteArray):∀ (n i:Nat) (r:List UInt8),b.size - i = n → ByteArray.toList.loop b i r = r.reverse ++ (b.data.toList.drop i)
 | 0,i,r,h=>by
  unfold ByteArray.toList.loop;have:b.size ≤ i:=by omega
  rw [if_neg (by omega)];have:b.data.toList.length ≤ i:=by simpa using this
  rw [List.drop_eq_nil_of_le this]; simp
 | n + 1,i,r,h=>by
  unfold ByteArray.toList.loop;have hlt:i < b.size:=by omega
  rw [if_pos hlt,bl b n (i + 1) _ (by omega)];have h':i < b.data.toList.length:=by simpa using hlt
  rw [List.drop_eq_getElem_cons h',Ek b i h'];simp
theorem toList_data (b:ByteArray):b.toList = b.data.toList:=by
 unfold ByteArray.toList; rw [bl b _ 0 [] rfl]; simp
theorem toList_nil (s:ByteArray):s.toList = [] ↔ s.size = 0:=by
 rw [toList_data];constructor
 ·intro h;have:s.data.toList.length = 0:=by rw [h]; rfl
  simpa using this
 ·intro h;have:s.data.toList.length = 0:=by simpa using h
  exact List.eq_nil_of_length_eq_zero this
theorem oD (s:ByteArray) {i:Nat} (h:i < s.size):iw s i (s.size - i) = (nB s i && iw s (i + 1) (s.size - (i + 1))):=by
 rw [show s.size - i = (s.size - (i + 1)) + 1 by omega]; rfl
theorem ud (s:ByteArray) (σ:af):Spec Tryz.prog FD [.str s] σ fun r σ'=>r = .ret (.bool (aN s)) ∧ σ' = σ:=by
 refine Spec.aI (Kf (by simp) (aa _ ?_)) rfl rfl σ;simp [Ht];refine AW.loop (ι:=Nat) (fun i fr σ=>fr = { v:=[(0, .str s),(8, .iter 0)],ds:=[] } ∧ σ = [.siter s i] ∧ i ≤ s.size ∧ iw s 0 s.size = iw s i (s.size - i)) (fun i=>s.size - i) 0 (by simp) ?_;rintro i fr σ ⟨rfl,rfl,hi,hp⟩;refine aa _ ?_;simp;split
 ·rename_i hlt;have hb:=CA s i hlt;have hst:=oD s hlt;have hd:((Utf8.decode s i).1 = lE s i ∧ (Utf8.decode s i).2 = 1 ∧ lE s i < 128) ∨ (128 ≤ (Utf8.decode s i).1 ∧ 128 ≤ lE s i):=by
   by_cases ha:(s[i]'hlt).toNat < 128
   ·left; rw [Go.decode_ascii s i hlt ha,hb]; exact ⟨rfl,rfl,ha⟩
   ·right; rw [hb]; exact ⟨(Go.decode_high s i hlt (by omega)).1,by omega⟩
  generalize Utf8.decode s i = d at hd ⊢;obtain ⟨r,w⟩:=d;simp only at hd ⊢;refine ⟨fun h=>⟨h,fun h1 h2=>⟨h,h1,h2⟩⟩,fun h1 h2=>rj hlt hp ?_,fun h=>?_⟩
  ·simp [nB,letterF,oB];omega
  ·have hok:nB s i = true:=by
    simp [nB,letterF,oB];omega
   have hw:w = 1:=by
    rcases hd with hd | hd
    ·exact hd.2.1
    ·exfalso;have:nB s i = false:=by simp [nB,letterF,oB]; omega
     rw [hok] at this; cases this
   subst hw;exact ⟨i + 1,by omega,rfl,by omega,by rw [hp,hst,hok]; rfl⟩
 ·rename_i hge;have:i = s.size:=by omega
  subst this;rw [Nat.sub_self] at hp;unfold aN;rw [hp];rw [Bool.eq_iff_iff];simp [iw];refine ⟨fun ⟨h1,h2⟩=>⟨?_,by omega⟩,fun h=>⟨fun e=>?_,by omega⟩⟩
  ·have h1':¬ s.size = 0:=fun e=>h1 ((toList_nil s).2 e)
   omega
  ·have:=(toList_nil s).1 e;omega
theorem vb (s:ByteArray) (σ:af):Spec Tryz.prog JG [.str s] σ fun r σ'=>r = .ret (.bool (aN s)) ∧ σ' = σ:=by
 refine Spec.aI (Ob (by simp) (aa _ ?_)) rfl rfl σ;simp [Mh];refine ah.pure Ev (ir s.size 1 16 _) ?_;simp;have hb:∀ i:Nat,((s.data[i]?.getD 0).toNat:Int) = (lE s i:Int):=fun _=>rfl
 simp only [hb];have hin:va (s.size:Int) 1 16 = true ↔ 1 ≤ s.size ∧ s.size ≤ 16:=by simp [va]; omega
 have hin':va (s.size:Int) 1 16 = false ↔ ¬ (1 ≤ s.size ∧ s.size ≤ 16):=by rw [← hin]; simp
 simp only [hin,hin'];refine ⟨fun h=>⟨h,by omega⟩,fun h h2=>⟨⟨h,h2⟩,by omega⟩,fun h=>?_,fun h1 h2 h3=>?_⟩
 ·by_cases hz:1 ≤ s.size ∧ s.size ≤ 16
  ·refine rj (i:=0) (by omega) rfl ?_;simp [nB,letterF];omega
  ·unfold aN;rw [Bool.eq_false_iff];simp;intros;omega
 refine AW.loop (ι:=Nat) (fun i fr σ=>fr = { v:=[(0, .str s),(3, .int .i64 i)],ds:=[] } ∧ σ = [] ∧ 1 ≤ i ∧ i ≤ s.size ∧ iw s 0 s.size = iw s i (s.size - i)) (fun i=>s.size - i) 1 ⟨by simp,rfl,by omega,by omega, ?_⟩ ?_
 ·have:=oD s (i:=0) (by omega);rw [Nat.sub_zero] at this;rw [this];have:nB s 0 = true:=by simp [nB,letterF]; omega
  rw [this]; rfl
 rintro i fr σ ⟨rfl,rfl,h1i,hi,hp⟩;refine aa _ ?_;simp;simp only [hb];refine ⟨fun hlt=>⟨hlt,fun h=>⟨h,hlt⟩,hlt,fun h=>⟨h,hlt⟩,fun h h'=>rj hlt hp ?_,fun h=>?_⟩,fun hge=>?_⟩
 ·simp [nB,letterF,oB];omega
 ·have hok:nB s i = true:=by
   simp [nB,letterF,oB];omega
  exact ⟨i + 1,by omega,aw (by omega) (by omega),by omega,by omega,by rw [hp,oD s hlt,hok]; rfl⟩
 ·have:i = s.size:=by omega
  subst this;rw [Nat.sub_self] at hp;unfold aN;rw [hp];simp [iw];omega
def kJ:List ByteArray → ByteArray → Nat → Int
 | [],_,_=>-1
 | a :: r,s,i=>if a.toList == s.toList then i else kJ r s (i + 1)
theorem uK (l:List ByteArray) (s:ByteArray) (hl:l.length ≤ maxLen) (σ:af):Spec Tryz.prog Fz [.slice 1 (l.map .str), .str s] σ fun r σ'=>r = .ret (.int .i64 (kJ l s 0)) ∧ σ' = σ:=by
 refine Spec.aI (L6 (by simp) (aa _ ?_)) ?_ rfl σ;rotate_left
 ·simp only [aK,ag.pure,Bool.and_true]; exact aC (fun _=>rfl) l
 simp [Im];refine AW.loop (ι:=Nat) (fun i fr σ=>fr = { v:=[(0, .slice 1 (l.map .str)),(1, .str s),(5, .int .i64 i)],ds:=[] } ∧ σ = [] ∧ i ≤ l.length ∧ kJ l s 0 = kJ (l.drop i) s i) (fun i=>l.length - i) 0 (by simp) ?_;rintro i fr σ ⟨rfl,rfl,hi,hp⟩;refine aa _ ?_;simp;refine ⟨fun hlt=>?_,fun hge=>?_⟩
 ·have hd:l.drop i = l[i] :: l.drop (i + 1):=List.drop_eq_getElem_cons hlt;rw [hd] at hp;simp [kJ] at hp;simp [hlt];refine ⟨fun he=>by rw [hp,if_pos he],fun he=>⟨i + 1,by omega,aw (by omega) (by simp only [maxLen] at hl; omega),by omega,by rw [hp,if_neg he]⟩⟩
 ·have:l.drop i = []:=List.drop_eq_nil_of_le hge;rw [hp,this]; rfl
def gM (s:Int × Int) (lo hi:Int):Int:=if !va s.1 lo hi || !va s.2 lo hi then 7 else if s.1 > s.2 then 2 else 0
theorem su (a b lo hi:Int) (σ:af):Spec Tryz.prog EK [.slice 2 [.agg [.int .i64 a, .int .i64 b]], .int .i64 lo, .int .i64 hi] σ fun r σ'=>r = .ret (.int .i64 (gM (a,b) lo hi)) ∧ σ' = σ:=by
 refine Spec.aI (ML (by simp) (aa _ ?_)) rfl rfl σ;simp [Hl];refine AW.loop (ι:=Nat) (fun i fr σ=>fr = { v:=[(0, .slice 2 [.agg [.int .i64 a, .int .i64 b]]),(1, .int .i64 lo),(2, .int .i64 hi),(7, .bool (decide (i = 1) && decide (b < a))),(8, .int .i64 i)],ds:=[] } ∧ σ = [] ∧ i ≤ 1 ∧ (i = 1 → va a lo hi = true ∧ va b lo hi = true)) (fun i=>1 - i) 0 (by simp) ?_;rintro i fr σ ⟨rfl,rfl,hi',hp⟩;rcases (by omega:i = 0 ∨ i = 1) with rfl | rfl
 ·refine aa _ ?_;simp;refine ah.pure Ev (ir a lo hi _) ?_;simp;refine ⟨?_, ?_⟩
  ·intro h;refine ⟨h,ah.pure Ev (ir b lo hi _) ?_⟩;simp [h];exact ⟨fun hb=>by simp [gM,h,hb],fun hb=>⟨1,by omega,⟨fun _=>rfl,aw (by omega) (by omega)⟩,by omega,fun _=>hb⟩⟩
  ·intro h;simp [h,gM]
 ·refine aa _ ?_;simp [gM,hp rfl]
theorem uB (a b lo hi:Int) (σ:af):Spec Tryz.prog FL [.agg [.int .i64 a, .int .i64 b], .int .i64 lo, .int .i64 hi] σ fun r σ'=>r = .ret (.int .i64 (gM (a,b) lo hi)) ∧ σ' = σ:=by
 refine Spec.aI (ME (by simp) (aa _ ?_)) rfl rfl σ;simp [Hq];refine ah.pure KM (su a b lo hi _) ?_;simp
def pf (s:ByteArray) (l:List ByteArray):Int:=if aN s then (if 0 ≤ kJ l s 0 then 5 else 0) else 6
theorem um (l:List ByteArray) (s:ByteArray) (hl:l.length ≤ maxLen) (σ:af):Spec Tryz.prog ET [.str s, .slice 1 (l.map .str)] σ fun r σ'=>r = .ret (.int .i64 (pf s l)) ∧ σ' = σ:=by
 refine Spec.aI (KA (by simp) (aa _ ?_)) ?_ rfl σ;rotate_left
 ·simp only [aK,ag.pure,Bool.and_true]; exact aC (fun _=>rfl) l
 simp [H9];refine ah.pure Od (vb s _) ?_;simp;refine ⟨fun h=>by simp [pf,h],fun h=>ah.pure KJ (uK l s hl _) ?_⟩;simp [pf,h]
theorem gh (l:List ByteArray) (x:ByteArray) (hl:l.length ≤ maxLen) (σ:af) :
  Spec Tryz.prog EF [.slice 1 (l.map .str), .str x] σ fun r σ'=>r = .ret (.int .i64 (fh (fun y=>x.toList == y.toList) l 0)) ∧ σ' = σ:=by
 refine Spec.aI (Mb (by simp) (aa _ ?_)) (by simp [aC (f:=ag.str) (fun _=>rfl) l]) rfl σ;simp [HY];refine AW.loop (ι:=Nat) (fun i fr σ=>fr = { v:=[(0, .slice 1 (l.map ag.str)),(1, .str x),(7, .int .i64 l.length),(8, .int .i64 i)],ds:=[] } ∧ i ≤ l.length ∧ fh (fun y=>x.toList == y.toList) l 0 = fh (fun y=>x.toList == y.toList) (l.drop i) i) (fun i=>l.length - i) 0 (by simp) ?_;rintro i fr σ ⟨rfl,hi,hpi⟩;refine aa _ ?_;simp;refine ⟨fun hlt=>?_,fun hge=>?_⟩
 ·have hd:l.drop i = l[i] :: l.drop (i + 1):=List.drop_eq_getElem_cons hlt;rw [hd] at hpi;simp [fh] at hpi;simp [hlt];refine ⟨fun he=>by rw [hpi,if_pos he],fun he=>⟨i + 1,by omega,aw (by omega) (by simp only [maxLen] at hl; omega),by omega,by rw [hpi,if_neg (by simp [he])]⟩⟩
 ·have:l.drop i = []:=List.drop_eq_nil_of_le hge;rw [hpi,this]; rfl
theorem jP (l:List ByteArray) (x:ByteArray) (hl:l.length ≤ maxLen) (σ:af) :
  Spec Tryz.prog E6 [.slice 1 (l.map .str), .str x] σ fun r σ'=>r = .ret (.bool (l.any fun y=>x.toList == y.toList)) ∧ σ' = σ:=by
 refine Spec.aI (KV (by simp) (aa _ ?_)) (by simp [aC (f:=ag.str) (fun _=>rfl) l]) rfl σ;simp [Hn];refine ah.pure yU (gh l x hl _) ?_;simp [tJ]
theorem lD (l:List Int) (x:Int) (hl:l.length ≤ maxLen) (σ:af) :
  Spec Tryz.prog FB [.slice 1 (l.map ii'),ii' x] σ fun r σ'=>r = .ret (.int .i64 (fh (fun y=>x == y) l 0)) ∧ σ' = σ:=by
 refine Spec.aI (MF (by simp) (aa _ ?_)) (by simp [aC (f:=ii') (fun _=>rfl) l]) rfl σ;simp [H6];refine AW.loop (ι:=Nat) (fun i fr σ=>fr = { v:=[(0, .slice 1 (l.map ii')),(1,ii' x),(7, .int .i64 l.length),(8, .int .i64 i)],ds:=[] } ∧ i ≤ l.length ∧ fh (fun y=>x == y) l 0 = fh (fun y=>x == y) (l.drop i) i) (fun i=>l.length - i) 0 (by simp) ?_;rintro i fr σ ⟨rfl,hi,hpi⟩;refine aa _ ?_;simp;refine ⟨fun hlt=>?_,fun hge=>?_⟩
 ·have hd:l.drop i = l[i] :: l.drop (i + 1):=List.drop_eq_getElem_cons hlt;rw [hd] at hpi;simp [fh] at hpi;simp [hlt];refine ⟨fun he=>by rw [hpi,if_pos he],fun he=>⟨i + 1,by omega,aw (by omega) (by simp only [maxLen] at hl; omega),by omega,by rw [hpi,if_neg (by simp [he])]⟩⟩
 ·have:l.drop i = []:=List.drop_eq_nil_of_le hge;rw [hpi,this]; rfl
theorem jR (l:List Int) (x:Int) (hl:l.length ≤ maxLen) (σ:af) :
  Spec Tryz.prog Cs [.slice 1 (l.map ii'),ii' x] σ fun r σ'=>r = .ret (.bool (l.contains x)) ∧ σ' = σ:=by
 refine Spec.aI (K8 (by simp) (aa _ ?_)) (by simp [aC (f:=ii') (fun _=>rfl) l]) rfl σ;simp [HR];refine ah.pure La (lD l x hl _) ?_;simp [tJ];rw [Bool.eq_iff_iff]; simp
def mA (l:List Int):bR:=.arr 1 (l.map ii')
theorem nQ (ds:List Int) (k:Nat) (x:Int) (h:k < ds.length):(ds.set k x).take (k + 1) = ds.take k ++ [x]:=by
 rw [List.take_add_one,List.take_set_of_le (Nat.le_refl k)];simp [h]
def Pm (l c:List Int):Prop:=c.Pairwise (· < ·) ∧ ∀ x,x ∈ c ↔ x ∈ l
theorem xy (b:Nat) (l:List Int) (hn:l.length ≤ 100000) (hs:l.Pairwise (· ≤ ·)) (σ:af) (hb:b < σ.length) (hx:σ[b]? = some (mA l)) :
  Spec Tryz.prog JD [.sref 1 b 0 l.length l.length] σ fun r σ'=>∃ c z,Pm l c ∧ c.length ≤ l.length ∧ (c ++ z).length = l.length ∧ r = .ret (.sref 1 b 0 c.length l.length) ∧ σ' = σ.set b (mA (c ++ z)):=by
 have hset:σ.set b (mA l) = σ:=by
  obtain ⟨h1,h2⟩:=List.getElem?_eq_some_iff.1 hx;rw [← h2]; simp
 have hle:∀ i j (h1:i < j) (h2:j < l.length),l[i] ≤ l[j]:=fun i j h1 h2=>List.pairwise_iff_getElem.1 hs i j (by omega) h2 h1
 refine Nb (by simp) (aa _ ?_);refine (Nat.lt_or_ge l.length 2).elim (fun h2=>?_) (fun h2=>?_)
 ·have h2':(l.length:Int) < 2:=by omega
  simp [Je,h2'];refine ⟨l, ?_,by omega,[],by simp,rfl,by simpa using hset.symm⟩;refine ⟨?_,fun x=>Iff.rfl⟩
  match l,h2 with
  | [],_=>simp
  | [a],_=>simp
 have h2':¬ (l.length:Int) < 2:=by omega
 simp [Je,h2'];refine AW.loop (ι:=Nat) (fun k fr σ1=>fr = { v:=[(0, .sref 1 b 0 l.length l.length),(3, .int .i64 k)],ds:=[] } ∧ σ1 = σ ∧ 1 ≤ k ∧ k ≤ l.length ∧ (l.take k).Pairwise (· < ·)) (fun k=>l.length - k) 1 ⟨by simp,rfl,by omega,by omega, ?_⟩ ?_
 ·cases l with
  | nil=>simp
  | cons a r=>simp
 rintro k fr σ1 ⟨rfl,rfl,hk1,hk,hlt⟩;refine (Nat.lt_or_ge k l.length).elim (fun hkl=>?_) (fun hge=>?_);rotate_left
 ·have hnl:¬ k < l.length:=by omega
  refine aa _ ?_;simp [hnl];exact ⟨l,⟨by rwa [List.take_of_length_le hge] at hlt,fun x=>Iff.rfl⟩,by omega,[],by simp,rfl,by simpa using hset.symm⟩
 obtain ⟨m,rfl⟩:∃ m,k = m + 1:=⟨k - 1,by omega⟩
 obtain ⟨x,hxk⟩:∃ x,l[m + 1]'hkl = x:=⟨_,rfl⟩
 obtain ⟨y,hyk⟩:∃ y,l[m]'(by omega) = y:=⟨_,rfl⟩
 have hw:IntKind.i64.wrap (m:Int) = m:=aw (by omega) (by omega);have q1:0 ≤ (m:Int) + 1:=by omega
 have q2:(m:Int) + 1 < l.length:=by omega
 have q3:(m:Int) < l.length:=by omega
 have q4:m < l.length:=by omega
 have hgb:σ1[b]'hb = .arr 1 (l.map ii'):=(List.getElem?_eq_some_iff.1 hx).2;refine aa _ ?_;simp [hb,hgb,hxk,hyk,hw,hkl,q1,q2,q3,q4];refine ⟨fun hxy=>⟨by omega, ?_⟩,fun hxy=>⟨m + 2,by omega,aw (by omega) (by omega),by omega,by omega, ?_⟩⟩;rotate_left
 ·rw [List.take_add_one];refine List.pairwise_append.2 ⟨hlt,by simp,fun u hu v hv=>?_⟩;have hv':v = x:=by simpa [hkl,hxk,eq_comm] using hv
  subst hv';obtain ⟨i,hi,rfl⟩:=List.mem_iff_getElem.1 hu;have hi':i < m + 1:=by simp at hi; omega
  rw [List.getElem_take];have h1:y ≤ v:=by rw [← hxk, ← hyk]; exact hle m (m + 1) (by omega) hkl
  by_cases him:i = m
  ·subst him; rw [hyk]; omega
  ·have:=hle i m (by omega) (by omega);rw [hyk] at this; omega
 obtain ⟨n2,hn2⟩:∃ n2,l.length - (m + 1) = n2:=⟨_,rfl⟩
 have hn2':((l.length:Int) - ((m:Int) + 1)).toNat = n2:=by omega
 rw [hn2']
 refine AW.loop (ι:=Nat) (fun p fr σ2=>∃ (kk:Nat) (D:List Int),fr = { v:=[(0, .sref 1 b 0 l.length l.length),(3, .int .i64 kk),(4, .sref 1 b (m + 1) n2 l.length),(5, .int .i64 (p + 1))],ds:=[] } ∧ σ2 = σ1.set b (mA D) ∧ p + 1 ≤ n2 ∧ D.length = l.length ∧ kk ≤ m + 1 + p ∧
  (∀ i,m + 1 + p ≤ i → D[i]? = l[i]?) ∧ (D.take kk).Pairwise (· < ·) ∧ ∀ u,u ∈ D.take kk ↔ u ∈ l.take (m + 1 + (p + 1))) (fun p=>n2 - p) 0 ⟨m + 1,l,by simp,hset.symm,by omega,rfl,by omega,fun i _=>rfl,hlt,fun u=>?_⟩ ?_
 ·rw [show m + 1 + (0 + 1) = (m + 1) + 1 from rfl,List.take_add_one (i:=m + 1),List.mem_append];have:u ∈ (l[m + 1]?).toList ↔ u = x:=by rw [List.getElem?_eq_getElem hkl,hxk]; simp
  rw [this];refine ⟨.inl,fun h=>h.elim id fun h=>?_⟩;rw [h,hxy,List.mem_iff_getElem];exact ⟨m,by simp; omega,by simpa using hyk⟩
 rintro p fr σ2 ⟨kk,D,rfl,rfl,hp,hD,hkk,hsame,hsort,hmem⟩;refine (Nat.lt_or_ge (p + 1) n2).elim (fun hpl=>?_) (fun hpg=>?_)
 ·obtain ⟨u,hu⟩:∃ u,l[m + 1 + (p + 1)]'(by omega) = u:=⟨_,rfl⟩
  obtain ⟨v,hv⟩:∃ v,l[m + 1 + p]'(by omega) = v:=⟨_,rfl⟩
  have hDu:D[m + 1 + (p + 1)]'(by omega) = u:=by
   have:=hsame (m + 1 + (p + 1)) (by omega);rw [List.getElem?_eq_getElem (by omega),List.getElem?_eq_getElem (by omega),hu] at this;exact Option.some.inj this
  have hDv:D[m + 1 + p]'(by omega) = v:=by
   have:=hsame (m + 1 + p) (by omega);rw [List.getElem?_eq_getElem (by omega),List.getElem?_eq_getElem (by omega),hv] at this;exact Option.some.inj this
  have r0:IntKind.i64.wrap (p:Int) = p:=aw (by omega) (by omega);have r1:0 ≤ (p:Int) + 1:=by omega
  have r2:(p:Int) + 1 < n2:=by omega
  have r3:(p:Int) < n2:=by omega
  have r4:m + 1 + p < l.length:=by omega
  have r5:m + 1 + (p + 1) < l.length:=by omega
  have r6:kk < l.length:=by omega
  have r7:(kk:Int) < l.length:=by omega
  have r8:IntKind.i64.wrap ((p:Int) + 1 + 1) = (p:Int) + 1 + 1:=aw (by omega) (by omega);have r9:IntKind.i64.wrap ((kk:Int) + 1) = (kk:Int) + 1:=aw (by omega) (by omega);have huv:v ≤ u:=by rw [← hu, ← hv]; exact hle _ _ (by omega) (by omega)
  refine aa _ ?_;simp [hb,mA,hD,hDu,hDv,r0,r1,r2,r3,r4,r5,r6,r7,r8,r9];have hmax:∀ w ∈ l.take (m + 1 + (p + 1)),w ≤ v:=fun w hw'=>by
   obtain ⟨i,hi,rfl⟩:=List.mem_iff_getElem.1 hw';have hi':i < m + 1 + (p + 1):=by simp at hi; omega
   rw [List.getElem_take];by_cases him:i = m + 1 + p
   ·subst him; rw [hv]; omega
   ·have:=hle i (m + 1 + p) (by omega) (by omega);rw [hv] at this; exact this
  have htk:∀ w,w ∈ l.take (m + 1 + (p + 1 + 1)) ↔ w ∈ l.take (m + 1 + (p + 1)) ∨ w = u:=fun w=>by
   rw [show m + 1 + (p + 1 + 1) = (m + 1 + (p + 1)) + 1 from rfl,List.take_add_one (i:=m + 1 + (p + 1)),List.mem_append];have:w ∈ (l[m + 1 + (p + 1)]?).toList ↔ w = u:=by rw [List.getElem?_eq_getElem (by omega),hu]; simp
   rw [this]
  refine ⟨fun hne=>⟨p + 1,by omega,kk + 1,⟨by simp,by simp⟩,D.set kk u,by rw [List.map_set],by omega,by simp [hD],by omega,fun i hi=>?_, ?_,fun w=>?_⟩,fun he=>⟨p + 1,by omega,kk,⟨rfl,by simp⟩,D,rfl,by omega,hD,by omega,fun i hi=>hsame i (by omega),hsort,fun w=>?_⟩⟩
  ·rw [List.getElem?_set_ne (by omega)]; exact hsame i (by omega)
  ·rw [nQ D kk u (by omega)];refine List.pairwise_append.2 ⟨hsort,by simp,fun a ha c hc=>?_⟩;have hc':c = u:=by simpa using hc
   subst hc';have:=hmax a ((hmem a).1 ha);omega
  ·rw [nQ D kk u (by omega),List.mem_append,hmem,htk];simp
  ·rw [hmem,htk];refine ⟨.inl,fun h=>h.elim id fun h=>?_⟩;rw [h,he,List.mem_iff_getElem];exact ⟨m + 1 + p,by simp; omega,by simpa using hv⟩
 ·have hnl:¬ (p:Int) + 1 < n2:=by omega
  have hkl':(kk:Int) ≤ l.length:=by omega
  refine aa _ ?_;simp [hb,mA,hD,hnl,hkl'];refine ⟨D.take kk,⟨hsort,fun u=>?_⟩,by simp; omega,List.replicate (l.length - kk) 0 ++ D.drop (kk + (l.length - kk)),by simp; omega,by simp; omega,by simp⟩;rw [hmem,List.take_of_length_le (by omega)]
theorem I6 (a b:ByteArray):(a.toList == b.toList) = true ↔ a = b:=by
 rw [beq_iff_eq,toList_data,toList_data];constructor
 ·intro h;obtain ⟨a⟩:=a;obtain ⟨b⟩:=b;have:a = b:=Array.toList_inj.1 h;rw [this]
 ·rintro rfl; rfl
theorem nmd (a b:ByteArray):(a.toList == b.toList) = decide (a = b):=by
 rw [Bool.eq_iff_iff,I6,decide_eq_true_eq]
theorem xT {a b:List ByteArray} {i:Nat} (h1:i < a.length) (h2:i < b.length) (h:a.take i = b.take i):a.take (i + 1) = b.take (i + 1) ↔ a[i] = b[i]:=by
 rw [List.take_succ_eq_append_getElem h1,List.take_succ_eq_append_getElem h2,h];exact ⟨fun e=>by simpa using List.append_cancel_left e,fun e=>by rw [e]⟩
theorem uc (a b:List ByteArray) (ha:a.length ≤ maxLen) (σ:af) :
  Spec Tryz.prog BW [.slice 1 (a.map .str), .slice 1 (b.map .str)] σ fun r σ'=>r = .ret (.bool (decide (a = b))) ∧ σ' = σ:=by
 refine Spec.aI (MH (by simp) (aa _ ?_)) (by simp [aK,ag.pure,aC (f:=ag.str) (fun _=>rfl)]) rfl σ;simp [Ii];refine AW.loop (ι:=Nat) (fun i fr σ=>∃ s:Bool,fr = { v:=[(0, .slice 1 (a.map .str)),(1, .slice 1 (b.map .str)),(5, .bool s),(6, .int .i64 i)],ds:=[] } ∧ i ≤ a.length ∧ (s = true → a.length = b.length ∧ a.take i = b.take i) ∧ (s = false → a ≠ b)) (fun i=>a.length - i) 0 ⟨_,by simp; rfl,by omega,fun h=>⟨by simp at h; omega,by simp⟩,fun h e=>by subst e; simp at h⟩ ?_;rintro i fr σ ⟨s,rfl,hi,h1,h2⟩
 cases s with
 | false=>
  have h3:=h2 rfl;refine aa _ ?_;simp [h3]
 | true=>
  obtain ⟨hl,ht⟩:=h1 rfl;refine (Nat.lt_or_ge i a.length).elim (fun hlt=>?_) (fun hge=>?_)
  ·have hlb:i < b.length:=by omega
   obtain ⟨x,hx⟩:∃ x,a[i] = x:=⟨_,rfl⟩
   obtain ⟨y,hy⟩:∃ y,b[i] = y:=⟨_,rfl⟩
   have hst:=xT hlt hlb ht;rw [hx,hy] at hst;have hw:IntKind.i64.wrap ((i:Int) + 1) = ((i + 1:Nat):Int):=by rw [aw (by omega) (by simp only [maxLen] at ha; omega)]; simp
   by_cases hxy:x = y
   ·refine aa _ ?_;simp [hlt,hlb,hx,hy,hw,hxy];exact ⟨i + 1,by omega,by simp,by omega,hl,hst.2 hxy⟩
   ·have hab:a ≠ b:=fun e=>by subst e; exact hxy (hx.symm.trans hy)
    refine aa _ ?_;simp [hlt,hlb,hx,hy,nmd,hw,hxy];exact ⟨i + 1,by omega,by simp,by omega,hab⟩
  ·have hab:a = b:=by
    rw [List.take_of_length_le hge,List.take_of_length_le (by omega)] at ht; exact ht
   refine aa _ ?_;simp [show ¬ i < b.length by omega,hab]
theorem jW (l:List Int) (hl:l.length ≤ maxLen) (σ:af):Spec Tryz.prog Iw [.slice 1 (l.map ii'), .slice 1 (l.map ii')] σ fun r σ'=>r = .ret (.bool true) ∧ σ' = σ:=by
 refine Spec.aI (Pk (by simp) (aa _ ?_)) (by simp [aC (f:=ii') (fun _=>rfl) l]) rfl σ;simp [Mz];refine AW.loop (ι:=Nat) (fun i fr σ=>fr = { v:=[(0, .slice 1 (l.map ii')),(1, .slice 1 (l.map ii')),(5, .bool true),(6, .int .i64 i)],ds:=[] } ∧ i ≤ l.length) (fun i=>l.length - i) 0 (by simp) ?_;rintro i fr σ ⟨rfl,hi⟩;refine (Nat.lt_or_ge i l.length).elim (fun hlt=>?_) (fun hge=>?_)
 ·obtain ⟨x,hx⟩:∃ x,l[i] = x:=⟨_,rfl⟩
  refine aa _ ?_;simp [hlt,hx];exact ⟨i + 1,by omega,aw (by omega) (by simp only [maxLen] at hl; omega),by omega⟩
 ·refine aa _ ?_;simp [show ¬ i < l.length by omega]
theorem ah.oa {P:Program} {f:FuncId} (hb:ar P f = true) {caps args:List ag} {σ:af} {Q:dU → af → Prop} {K Kp:ag → af → Prop} (hs:Spec P f (args ++ caps) σ Q) (h:∀ r σ',Q r σ' → ∃ v,r = .ret v ∧ K v σ') :
  @ah P (.func (.func f) [] caps) args σ ⟨K⟩ ⟨Kp⟩:=
 aL.func hb (by simpa using hs.mono fun r σ' hq=>by obtain ⟨v,rfl,hk⟩:=h r σ' hq; exact hk)
theorem ah.both {P:Program} {f:FuncId} (hb:ar P f = true) {args:List ag} {σ:af} {Q:dU → af → Prop} {K Kp:ag → af → Prop} (hs:Spec P f args σ Q) (h:∀ v σ',Q (.ret v) σ' → K v σ') (hp:∀ v σ',Q (.pan v) σ' → Kp v σ') :
  @ah P (.func (.func f) [] []) args σ ⟨K⟩ ⟨Kp⟩:=
 aL.func hb (by simpa using hs.mono (fun r σ' hq=>match r,hq with
  | .ret v,hq=>h v σ' hq
  | .pan v,hq=>hp v σ' hq))
theorem ah.pan {P:Program} {f:FuncId} (hb:ar P f = true) {args:List ag} {σ:af} {v:ag} {Q:af → Prop} {K Kp:ag → af → Prop} (hs:Spec P f args σ fun r σ'=>r = .pan v ∧ Q σ') (hp:∀ σ',Q σ' → Kp v σ') :
  @ah P (.func (.func f) [] []) args σ ⟨K⟩ ⟨Kp⟩:=
 ah.both hb hs (fun _ _ h=>by cases h.1) (fun w σ' h=>by cases h.1; exact hp σ' h.2)
theorem lQ (xs:List ag) (hf:Fits 1 xs) (hl:xs.length * 8 ≤ 140737488355328) (σ:af) :
  Spec Tryz.prog En [.slice 1 xs] σ fun r σ'=>r = .ret (.oslice 1 xs σ.length 1) ∧ σ' = σ ++ [.spare 1 1]:=by
 refine MB (by simp) (aa _ ?_);simp [HF,hf,hl]
end Go.AM
