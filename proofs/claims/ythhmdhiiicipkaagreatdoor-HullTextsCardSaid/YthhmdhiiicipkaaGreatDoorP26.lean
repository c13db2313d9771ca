/- Looks, and what they find; further sights. Plain. More inputs of chapter 01's laws: looks, a survey, where sights are put. The document: the check of plans, a day and sights. The document: which .. -/
import Derived.Test.YthhmdhiiicipkaaGreatDoorP25
import Derived.Test.YthhmdhiiicipkaaGreatDoorP17
import Derived.Test.YthhmdhiiicipkaaGreatDoorP24
import Derived.Test.YthhmdhiiicipkaaGreatDoorP21
import Derived.Test.YthhmdhiiicipkaaGreatDoorP23
namespace Go.AM
open Go.Proofs
set_option maxRecDepth 100000
set_option maxHeartbeats 1000000
structure bp where
  plan:Nat
  part:Nat
  name:ByteArray
  frame:Nat
def bp.cells (x:bp):List ab:=[.int .u8 x.plan, .int .u8 x.part, .str x.name, .int .u8 x.frame]
def bp.v (x:bp):ab:=.agg x.cells
theorem bp.pure (x:bp):x.v.pure = true:=rfl
def bp.ok (x:bp):Prop:=x.plan ≤ 255 ∧ x.part ≤ 255 ∧ x.frame ≤ 255
def zPl:ar:=⟨[],[]⟩
def sa (ps:List ar) (day:Int) (x:bp):Option ByteArray:=
  if cg x.name = true then some x.name
  else if cL day (ps.getD (x.plan % ps.length) zPl) = [] then none
  else some ((cL day (ps.getD (x.plan % ps.length) zPl)).getD (x.part % (cL day (ps.getD (x.plan % ps.length) zPl)).length) zHu).name
def rr (ps:List ar) (day:Int) (ns:List HuM) (acc:List av) (x:bp):List av:=
  match sa ps day x with
  | none=>acc
  | some n=>acc ++ [⟨n,((x.frame % 41:Nat):Int),dE ns n ((x.frame % 41:Nat):Int)⟩]
def hY (ps:List ar) (day:Int) (ns:List HuM):List bp → List av → List av
  | [],acc=>acc
  | x :: r,acc=>if acc.length < 12 then hY ps day ns r (rr ps day ns acc x) else acc
def w9 (ns:List HuM) (s:av):Prop:=jW s = 0 ∧ dE ns s.name s.frame = s.kind
theorem vL {ps:List ar} {day:Int} (h0:1 ≤ ps.length) (hok:∀ p ∈ ps,OkP p) {x:bp} {n:ByteArray} (h:sa ps day x = some n):cg n = true:=by
  unfold sa at h
  split at h
  · rename_i h1; cases h; exact h1
  split at h
  · cases h
  · rename_i h2
    cases h
    have hlt:x.plan % ps.length < ps.length:=Nat.mod_lt _ (by omega)
    obtain ⟨p,hp⟩:∃ p,ps.getD (x.plan % ps.length) zPl = p:=⟨_,rfl⟩
    have hm:p ∈ ps:=by
      rw [← hp,List.getD_eq_getElem?_getD,List.getElem?_eq_getElem hlt]; exact List.getElem_mem _
    rw [hp] at h2 ⊢
    have hl:0 < (cL day p).length:=List.length_pos_iff.2 h2
    have hlt2:x.part % (cL day p).length < (cL day p).length:=Nat.mod_lt _ hl
    rw [List.getD_eq_getElem?_getD,List.getElem?_eq_getElem hlt2]
    exact ((kr (hok p hm) day).part _ (List.getElem_mem _)).name
theorem za {ns:List HuM} (h:OkS ns) {n:ByteArray} (hn:cg n = true) (f:Nat) (hf:f ≤ 40):w9 ns ⟨n,(f:Int),dE ns n (f:Int)⟩:=by
  obtain ⟨k,hk,e⟩:=q9 h n f
  refine ⟨?_,rfl⟩
  unfold jW
  dsimp only
  rw [if_neg (by simp [hn]),if_neg]
  rw [e]
  simp [bu]
  omega
theorem qq {ps:List ar} {day:Int} (h0:1 ≤ ps.length) (hok:∀ p ∈ ps,OkP p) {ns:List HuM} (h:OkS ns):∀ (xs:List bp) (acc:List av),acc.length ≤ 12 → (∀ s ∈ acc,w9 ns s) →
    (hY ps day ns xs acc).length ≤ 12 ∧ ∀ s ∈ hY ps day ns xs acc,w9 ns s
  | [],acc,h1,h2=>⟨h1,h2⟩
  | x :: r,acc,h1,h2=>by
    unfold hY
    split
    · rename_i hlt
      refine qq h0 hok h r _ ?_ ?_
      · unfold rr; split
        · omega
        · simp; omega
      · unfold rr; split
        · exact h2
        · rename_i n hn
          intro s hs
          rcases List.mem_append.1 hs with hs | hs
          · exact h2 s hs
          · rcases List.mem_singleton.1 hs with rfl
            exact za h (vL h0 hok hn) _ (by have:=Nat.mod_lt x.frame (show 0 < 41 by omega); omega)
    · exact ⟨h1,h2⟩
theorem sg {ps:List ar} {day:Int} {ns:List HuM}:∀ (xs:List bp) (acc:List av),(hY ps day ns xs acc).length ≤ acc.length + xs.length
  | [],acc=>by simp [hY]
  | x :: r,acc=>by
    unfold hY
    split
    · have h1:=sg (ps:=ps) (day:=day) (ns:=ns) r (rr ps day ns acc x)
      have h2:(rr ps day ns acc x).length ≤ acc.length + 1:=by unfold rr; split <;> simp
      simp; omega
    · simp
theorem rU {ps:List ar} {day:Int} (h:CP ps day []) {p:ar} {ss:List av} (hl:ss.length ≤ 12) (ht:∀ s ∈ ss,w9 (cL day p) s):CP ps day ss ∧ bE ss (cL day p) = true:=by
  refine ⟨⟨h.n1,h.n6,h.ok,h.day,hl,fun s hs=>(ht s hs).1⟩, ?_⟩
  unfold bE
  rw [List.all_eq_true]
  intro s hs
  simpa using (ht s hs).2
theorem ml {ss:List av} {ships:List (List HuM)} {j:Nat}:j ∈ dT ss ships ↔ ∃ h:j < ships.length,bE ss ships[j] = true:=by
  unfold dT
  rw [tW]
  constructor
  · rintro ⟨⟨h1,h2⟩,h3⟩
    exact ⟨by omega,by simpa using h3⟩
  · rintro ⟨h1,h2⟩
    exact ⟨⟨by omega,by omega⟩,by simpa using h2⟩
theorem wa {ps:List ar} {day:Int} {ss:List av} (h:CP ps day ss) {j:Nat} (hj:j < ps.length):j ∈ jb ps day ss ↔ bE ss (cL day ps[j]) = true:=by
  unfold jb
  rw [if_pos (cu.2 h),ml]
  constructor
  · rintro ⟨h1,h2⟩
    simpa [aN] using h2
  · intro h2
    exact ⟨by simp [aN]; omega,by simpa [aN] using h2⟩
theorem tG {ps:List ar} {day:Int} {ss:List av} {p:ar} (hp:p ∈ ps) (h:bE ss (cL day p) = true):cL day p ∈ a8 ps day ss:=by
  unfold a8 u6
  exact List.mem_filter.2 ⟨List.mem_map.2 ⟨p,hp,rfl⟩,h⟩
theorem wb {ps:List ar} {day:Int} {ss:List av} {s:av} (h:CP ps day (ss ++ [s])):(jb ps day (ss ++ [s])).length = bf (a8 ps day ss) s.name s.frame s.kind:=by
  unfold jb
  rw [if_pos (cu.2 h)]
  have h1:(dT (ss ++ [s]) (aN day ps)).length = (a8 ps day (ss ++ [s])).length:=by
    have h0:(dT (ss ++ [s]) (aN day ps)).filterMap (fun j=>(aN day ps)[j]?) = a8 ps day (ss ++ [s]):=tH (bE (ss ++ [s])) (aN day ps) (aN day ps) 0 rfl
    have hlt:∀ j ∈ dT (ss ++ [s]) (aN day ps),j < (aN day ps).length:=fun j hj=>by
      have:=mM (bE (ss ++ [s])) (aN day ps) 0 j hj; omega
    have key:∀ L:List Nat,(∀ j ∈ L,j < (aN day ps).length) → (L.filterMap fun j=>(aN day ps)[j]?).length = L.length:=by
      intro L
      induction L with
      | nil=>intro _; rfl
      | cons a r ih=>
        intro hh
        rw [List.filterMap_cons,List.getElem?_eq_getElem (hh a (by simp))]
        simp [ih fun j hj=>hh j (by simp [hj])]
    rw [← h0,key _ hlt]
  rw [h1]
  unfold a8 u6 bf
  rw [List.countP_filter, ← List.countP_eq_length_filter]
  refine List.countP_congr fun x _=>?_
  unfold bE
  rw [List.all_append]
  simp [and_comm]
theorem rT {ps:List ar} {day:Int} {ss:List av} {s:av}:CP ps day (ss ++ [s]) ↔ CP ps day ss ∧ ss.length < 12 ∧ jW s = 0:=by
  constructor
  · intro h
    have:=h.len
    simp at this
    exact ⟨⟨h.n1,h.n6,h.ok,h.day,by omega,fun x hx=>h.sight x (by simp [hx])⟩,by omega,h.sight s (by simp)⟩
  · rintro ⟨h,h1,h2⟩
    refine ⟨h.n1,h.n6,h.ok,h.day,by simp; omega,fun x hx=>?_⟩
    rcases List.mem_append.1 hx with hx | hx
    · exact h.sight x hx
    · rcases List.mem_singleton.1 hx with rfl; exact h2
theorem ud (S:List (List HuM)) (n:ByteArray) (f:Int) (k:Nat) (hk:k ≤ 5):bf S n f k ≤ gr S n f:=by
  unfold gr
  rcases (by omega:k = 0 ∨ k = 1 ∨ k = 2 ∨ k = 3 ∨ k = 4 ∨ k = 5) with rfl | rfl | rfl | rfl | rfl | rfl <;> simp only [Int.cast_ofNat_Int] <;> omega
theorem w5 (S:List (List HuM)):((eB S).left = S.length ∨ (eB S).name ∈ aF S ∧ 0 ≤ (eB S).frame ∧ (eB S).frame ≤ 40 ∧ (eB S).left = gr S (eB S).name (eB S).frame ∧ (eB S).left < S.length) ∧
    ∀ n ∈ aF S, ∀ f:Nat,f ≤ 40 → (eB S).left ≤ gr S n f:=by
  obtain ⟨h1,h2⟩:=mR S _ (Nat.le_refl _)
  rw [my] at h1 h2
  refine ⟨?_,fun n hn f hf=>?_⟩
  · rcases h1 with ⟨_,_,h⟩ | h
    · exact .inl h
    · exact .inr h
  · obtain ⟨i,hi,rfl⟩:=List.getElem_of_mem hn
    exact h2 i f hi (by omega) (by omega)
theorem nS {S:List (List HuM)} (h:∀ ns ∈ S,OkS ns) {n:ByteArray} (hn:n ∈ aF S):cg n = true:=by
  obtain ⟨ns,hns,hf⟩:=(qD S n).1 hn
  obtain ⟨y,hy,rfl⟩:=(dw ns n).1 hf
  exact ((h ns hns).part y hy).name
theorem l6 {S:List (List HuM)} {ns:List HuM} (h:ns ∈ S) {x:HuM} (hx:x ∈ ns):x.name ∈ aF S:=(qD S _).2 ⟨ns,h,(dw ns _).2 ⟨x,hx,rfl⟩⟩
theorem oe (s:ByteArray):∀ (l:List ByteArray) (i:Nat),(0 ≤ dK l s i ↔ s ∈ l) ∧ (dK l s i < 0 ↔ s ∉ l)
  | [],i=>by simp [dK]
  | a :: r,i=>by
    obtain ⟨h1,h2⟩:=oe s r (i + 1)
    unfold dK
    by_cases h:a = s
    · subst h; simp
    · have hb:¬ (a.toList == s.toList) = true:=by
        intro e
        apply h
        have e2:a.toList = s.toList:=by simpa using e
        rw [toList_data,toList_data] at e2
        exact ByteArray.ext (Array.toList_inj.1 e2)
      rw [if_neg hb]
      have h':¬ s = a:=fun e=>h e.symm
      simp [h',h1,h2]
theorem sK {ss ttq:List av} (h:∀ s,s ∈ ss ↔ s ∈ ttq) (ns:List HuM):bE ss ns = bE ttq ns:=by
  unfold bE
  rw [Bool.eq_iff_iff,List.all_eq_true,List.all_eq_true]
  exact ⟨fun hh s hs=>hh s ((h s).2 hs),fun hh s hs=>hh s ((h s).1 hs)⟩
theorem sy {ss ttq:List av} (h:∀ s,s ∈ ss ↔ s ∈ ttq) (ships:List (List HuM)):dT ss ships = dT ttq ships:=by
  unfold dT
  rw [show bE ss = bE ttq from funext (sK h)]
theorem uw {ps:List ar} {day:Int} {ss ttq:List av} (h:∀ s,s ∈ ss ↔ s ∈ ttq) (hl:ttq.length ≤ 12) (hs:CP ps day ss):CP ps day ttq:=
  ⟨hs.n1,hs.n6,hs.ok,hs.day,hl,fun s hh=>hs.sight s ((h s).2 hh)⟩
theorem sH {ps:List ar} {day:Int} {ss ttq:List av} (h:∀ s,s ∈ ss ↔ s ∈ ttq) (h1:CP ps day ss) (h2:CP ps day ttq):jb ps day ttq = jb ps day ss:=by
  unfold jb
  rw [if_pos (cu.2 h1),if_pos (cu.2 h2),sy h]
theorem wI {ps:List ar} {day:Int} {ss:List av} {s:av} (h:CP ps day (ss ++ [s])):∀ j ∈ jb ps day (ss ++ [s]),j ∈ jb ps day ss:=by
  intro j hj
  have h0:=(rT.1 h).1
  unfold jb at hj ⊢
  rw [if_pos (cu.2 h)] at hj
  rw [if_pos (cu.2 h0)]
  obtain ⟨h1,h2⟩:=ml.1 hj
  refine ml.2 ⟨h1, ?_⟩
  unfold bE at h2 ⊢
  rw [List.all_append,Bool.and_eq_true] at h2
  exact h2.1
open Go.Proofs Go.RowKit
set_option maxRecDepth 100000
set_option maxHeartbeats 1000000
theorem C9:v7 Tryz.prog 83 = some [5,5,9,5]:=by kernel_rfl
theorem GH:wu Tryz.prog 73 = some (83,4,true):=by kernel_rfl
theorem G4:v7 Tryz.prog 75 = some [72,5,73]:=by kernel_rfl
theorem E1:wu Tryz.prog 95 = some (5,1,false):=by kernel_rfl
theorem Fi:v7 Tryz.prog 97 = some [72,95,5,68]:=by kernel_rfl
theorem ox {k:Nat} {us:List ab} (h:Shaped Tryz.prog (k + 2) 83 us):∃ x:bp,us = x.cells ∧ x.ok:=by
  obtain ⟨a,r,rfl,h1,b,r2,rfl,h2,c,r3,rfl,h3,d,r4,rfl,h4,rfl⟩:=h.fs C9
  obtain ⟨n1,rfl,g1⟩:=mC h1
  obtain ⟨n2,rfl,g2⟩:=mC h2
  obtain ⟨s,rfl,_⟩:=h3.str ty9
  obtain ⟨n4q,rfl,g4⟩:=mC h4
  exact ⟨⟨n1,n2,s,n4q⟩,rfl,g1,g2,g4⟩
theorem sG {k:Nat} {us:List ab} (h:Shaped Tryz.prog (k + 3) 73 us):∃ xs:List bp,us = [.slice 4 (xs.map bp.v)] ∧ xs.length ≤ maxLen ∧ ∀ x ∈ xs,x.ok:=by
  obtain ⟨xs,rfl,hl,hx⟩:=h.sl GH
  obtain ⟨l,rfl,hf⟩:=mN (f:=bp.v) (p:=bp.ok) (xs:=xs) fun v hv=>by
    obtain ⟨cs,q1,q2⟩:=hx v hv
    obtain ⟨s,rfl,q3⟩:=ox q1
    exact ⟨s,q2,q3⟩
  exact ⟨l,rfl,by simpa using hl,hf⟩
theorem lD {k:Nat} {us:List ab} (h:Shaped Tryz.prog (k + 4) 75 us):∃ (d t:Nat) (xs:List bp),us = [.int .u16 d, .int .u8 t, .slice 4 (xs.map bp.v)] ∧ d ≤ 65535 ∧ t ≤ 255 ∧ xs.length ≤ maxLen ∧ ∀ x ∈ xs,x.ok:=by
  obtain ⟨a,r,rfl,h1,b,r2,rfl,h2,c,r3,rfl,h3,rfl⟩:=h.fs G4
  obtain ⟨n1,rfl,g1⟩:=je h1
  obtain ⟨n2,rfl,g2⟩:=mC h2
  obtain ⟨xs,rfl,g3,g4⟩:=sG h3
  exact ⟨n1,n2,xs,rfl,g1,g2,g3,g4⟩
def u8' (n:Nat):ab:=.int .u8 n
theorem vo {k:Nat} {us:List ab} (h:Shaped Tryz.prog (k + 2) 95 us):∃ l:List Nat,us = [.slice 1 (l.map u8')] ∧ l.length ≤ maxLen ∧ ∀ n ∈ l,n ≤ 255:=by
  obtain ⟨xs,rfl,hl,hx⟩:=h.sl E1
  obtain ⟨l,rfl,hf⟩:=mN (f:=u8') (p:=fun n=>n ≤ 255) (xs:=xs) fun v hv=>by
    obtain ⟨cs,q1,q2⟩:=hx v hv
    obtain ⟨n,rfl,g⟩:=mC q1
    exact ⟨n,q2,g⟩
  exact ⟨l,rfl,by simpa using hl,hf⟩
theorem qn {k:Nat} {us:List ab} (h:Shaped Tryz.prog (k + 3) 97 us):∃ (d t:Nat) (l:List Nat) (s:av),us = [.int .u16 d, .slice 1 (l.map u8'), .int .u8 t, .str s.name,ii' s.frame,ii' s.kind] ∧ d ≤ 65535 ∧ t ≤ 255 ∧ l.length ≤ maxLen ∧ ∀ n ∈ l,n ≤ 255:=by
  obtain ⟨a,r,rfl,h1,b,r2,rfl,h2,c,r3,rfl,h3,d,r4,rfl,h4,rfl⟩:=h.fs Fi
  obtain ⟨n1,rfl,g1⟩:=je h1
  obtain ⟨l,rfl,g2,g3⟩:=vo h2
  obtain ⟨n2,rfl,g4⟩:=mC h3
  obtain ⟨s,rfl⟩:=vO h4
  exact ⟨n1,n2,l,s,rfl,g1,g4,g2,g3⟩
set_option maxRecDepth 100000
set_option maxHeartbeats 1000000
theorem gk (ps:List ar) (day:Int) (ss:List av) (hn:ps.length ≤ maxLen) (hf:∀ p ∈ ps,gO p) (hs:ss.length ≤ maxLen) (σ:ag) :
    Spec Tryz.prog HB [bx ps,ii' day,br ss] σ fun r σ'=>r = .ret (ii' (aW ps day ss)) ∧ σ' = σ:=by
  refine Spec.aC (M8 (by simp) ?_) (by simp [aA,cA,cQ,ab.pure]) rfl σ
  obtain ⟨E,hE⟩:∃ E,aW ps day ss = E:=⟨_,rfl⟩
  rw [hE]
  have hmx:maxLen = 9223372036854775807:=rfl
  have w1:=aJ ps.length 1 6
  have w2:=aJ day 0 40000
  unfold aW at hE
  simp only [bx,br]
  rcases tf (bu (ps.length:Int) 1 6) with h1 | h1
  · rw [if_pos h1] at hE
    rw [h1] at w1
    subst hE
    refine aa _ ?_
    simp [Hl]
    refine af.pure eQ (w1 _) ?_
    simp
  rw [if_neg (by simp [h1])] at hE
  rw [h1] at w1
  refine aa _ ?_
  simp [Hl]
  refine af.pure eQ (w1 _) ?_
  simp
  refine AW.loop (ι:=Nat) (fun i fr σ=>fr = { v:=[(0, .slice 2 (ps.map ar.v)),(1,ii' day),(2, .slice 3 (ss.map av.v)),(7, .int .i64 i)],ds:=[] } ∧ i ≤ ps.length ∧ cC (fun p=>(bL p).2.2) ps = cC (fun p=>(bL p).2.2) (ps.drop i)) (fun i=>ps.length - i) 0 ⟨rfl,by omega,rfl⟩ ?_
  rintro i fr σ ⟨rfl,hi,hfi⟩
  refine (Nat.lt_or_ge i ps.length).elim (fun hlt=>?_) (fun hge=>?_)
  · obtain ⟨p,hp⟩:∃ p,ps[i] = p:=⟨_,rfl⟩
    have hpf:=hf p (hp ▸ List.getElem_mem hlt)
    rw [List.drop_eq_getElem_cons hlt,hp] at hfi
    simp only [cC] at hfi
    obtain ⟨pp,pc⟩:=p
    have q:=fg pp pc hpf
    generalize bL ⟨pp,pc⟩ = A at q hfi
    obtain ⟨a1,a2,a3⟩:=A
    simp only [dc] at q hfi
    have hwi:IntKind.i64.wrap ((i:Int) + 1) = ((i + 1:Nat):Int):=by rw [aj (by omega) (by omega)]; simp
    rcases Decidable.em (a3 = 0) with h3 | h3
    · subst h3
      rw [if_neg (by simp)] at hfi
      refine aa _ ?_
      simp [hlt,hp,ar.v,ar.cells]
      refine af.pure uA (q _) ?_
      simp [hwi]
      exact ⟨i + 1,by omega,by simp,by omega,hfi⟩
    · rw [if_pos h3] at hfi
      have:a3 = E:=by rw [← hE,if_pos (by rw [hfi]; exact h3),hfi]
      subst this
      refine aa _ ?_
      simp [hlt,hp,ar.v,ar.cells]
      refine af.pure uA (q _) ?_
      simp [h3]
  · rw [List.drop_eq_nil_of_le hge] at hfi
    simp only [cC] at hfi
    rw [hfi,if_neg (by simp)] at hE
    rcases tf (bu day 0 40000) with h2 | h2
    · rw [if_pos h2] at hE
      rw [h2] at w2
      subst hE
      refine aa _ ?_
      simp [show ¬ i < ps.length by omega]
      refine af.pure eQ (w2 _) ?_
      simp
    rw [if_neg (by simp [h2])] at hE
    rw [h2] at w2
    rcases Nat.lt_or_ge 12 ss.length with h4 | h4
    · rw [if_pos h4] at hE
      subst hE
      refine aa _ ?_
      simp [show ¬ i < ps.length by omega]
      refine af.pure eQ (w2 _) ?_
      simp [show (12:Int) < ss.length by omega]
    rw [if_neg (by omega)] at hE
    refine aa _ ?_
    simp [show ¬ i < ps.length by omega]
    refine af.pure eQ (w2 _) ?_
    simp [show ¬ (12:Int) < ss.length by omega]
    refine AW.loop (ι:=Nat) (fun k fr σ=>fr = { v:=[(2, .slice 3 (ss.map av.v)),(11, .int .i64 k)],ds:=[] } ∧ k ≤ ss.length ∧ cC jW ss = cC jW (ss.drop k)) (fun k=>ss.length - k) 0 ⟨rfl,by omega,rfl⟩ ?_
    rintro k fr σ ⟨rfl,hk,hfk⟩
    refine (Nat.lt_or_ge k ss.length).elim (fun hltk=>?_) (fun hgek=>?_)
    · obtain ⟨s,hsk⟩:∃ s,ss[k] = s:=⟨_,rfl⟩
      rw [List.drop_eq_getElem_cons hltk,hsk] at hfk
      simp only [cC] at hfk
      have n1:=hO s.name
      have n2:=aJ s.frame 0 40
      have n3:=aJ s.kind 0 5
      have hwk:IntKind.i64.wrap ((k:Int) + 1) = ((k + 1:Nat):Int):=by rw [aj (by omega) (by omega)]; simp
      have hs6:jW s = if cg s.name = false then 6 else if bu s.frame 0 40 = false ∨ bu s.kind 0 5 = false then 7 else 0:=rfl
      rcases tf (cg s.name) with g1 | g1
      · rw [if_pos g1] at hs6
        rw [g1] at n1
        rw [hs6,if_pos (by simp)] at hfk
        have:(6:Int) = E:=by rw [← hE,hfk]
        subst this
        refine aa _ ?_
        simp [hltk,hsk,av.v,av.cells]
        refine af.pure zC (n1 _) ?_
        simp
      rw [if_neg (by simp [g1])] at hs6
      rw [g1] at n1
      rcases tf (bu s.frame 0 40) with g2 | g2
      · rw [if_pos (.inl g2)] at hs6
        rw [g2] at n2
        rw [hs6,if_pos (by simp)] at hfk
        have:(7:Int) = E:=by rw [← hE,hfk]
        subst this
        refine aa _ ?_
        simp [hltk,hsk,av.v,av.cells]
        refine af.pure zC (n1 _) ?_
        simp
        refine af.pure eQ (n2 _) ?_
        simp
      rw [g2] at n2
      rcases tf (bu s.kind 0 5) with g3 | g3
      · rw [if_pos (.inr g3)] at hs6
        rw [g3] at n3
        rw [hs6,if_pos (by simp)] at hfk
        have:(7:Int) = E:=by rw [← hE,hfk]
        subst this
        refine aa _ ?_
        simp [hltk,hsk,av.v,av.cells]
        refine af.pure zC (n1 _) ?_
        simp
        refine af.pure eQ (n2 _) ?_
        simp
        refine af.pure eQ (n3 _) ?_
        simp
      rw [if_neg (by simp [g2,g3])] at hs6
      rw [g3] at n3
      rw [hs6,if_neg (by simp)] at hfk
      refine aa _ ?_
      simp [hltk,hsk,av.v,av.cells]
      refine af.pure zC (n1 _) ?_
      simp
      refine af.pure eQ (n2 _) ?_
      simp
      refine af.pure eQ (n3 _) ?_
      simp [hwk]
      exact ⟨k + 1,by omega,by simp,by omega,hfk⟩
    · rw [List.drop_eq_nil_of_le hgek] at hfk
      simp only [cC] at hfk
      have:(0:Int) = E:=by rw [← hE,hfk]
      subst this
      refine aa _ ?_
      simp [show ¬ k < ss.length by omega]
set_option maxRecDepth 100000
set_option maxHeartbeats 1000000
set_option maxRecDepth 100000
set_option maxHeartbeats 1000000
theorem nW (l:List Nat) (n:Nat) (hl:l.length ≤ maxLen) (σ:ag) :
    Spec Tryz.prog Ak [.slice 1 (l.map nn'),nn' n] σ fun r σ'=>r = .ret (.bool (decide (n ∈ l))) ∧ σ' = σ:=by
  refine Spec.aC (Ft (by simp) (aa _ ?_)) (by simp [aA,ab.pure,ah (f:=nn') (fun _=>rfl)]) rfl σ
  have hmx:maxLen = 9223372036854775807:=rfl
  obtain ⟨R,hR⟩:∃ R,decide (n ∈ l) = R:=⟨_,rfl⟩
  rw [hR]
  simp [B3]
  refine AW.loop (ι:=Nat) (fun i fr σ=>fr = { v:=[(0, .slice 1 (l.map nn')),(1,nn' n),(5, .int .i64 i)],ds:=[] } ∧ i ≤ l.length ∧ decide (n ∈ l.drop i) = R) (fun i=>l.length - i) 0 ⟨rfl,by omega,hR⟩ ?_
  rintro i fr σ ⟨rfl,hi,hp⟩
  refine (Nat.lt_or_ge i l.length).elim (fun hlt=>?_) (fun hge=>?_)
  · obtain ⟨x,hx⟩:∃ x,l[i] = x:=⟨_,rfl⟩
    have hwi:IntKind.i64.wrap ((i:Int) + 1) = ((i + 1:Nat):Int):=by rw [aj (by omega) (by omega)]; simp
    rw [List.drop_eq_getElem_cons hlt,hx] at hp
    rcases Decidable.em (x = n) with h | h
    · have:R = true:=by rw [← hp,h]; simp
      subst this
      refine aa _ ?_
      simp [hlt,hx,h]
    · have:decide (n ∈ l.drop (i + 1)) = R:=by rw [← hp,decide_eq_decide]; simp [Ne.symm h]
      have hI:¬ (x:Int) = (n:Int):=by omega
      refine aa _ ?_
      simp [hlt,hx,hI,hwi]
      exact ⟨i + 1,by omega,by simp,by omega,this⟩
  · have:R = false:=by rw [← hp,List.drop_eq_nil_of_le hge]; simp
    subst this
    refine aa _ ?_
    simp [show ¬ i < l.length by omega]
theorem zt (ps:List ar) (day:Int) (x:bp):sa ps day x = if cg x.name = true then some x.name
    else if cL day (ps.getD (x.plan % ps.length) zPl) = [] then none
    else some ((cL day (ps.getD (x.plan % ps.length) zPl)).getD (x.part % (cL day (ps.getD (x.plan % ps.length) zPl)).length) zHu).name:=rfl
theorem rZ {ps:List ar} {day:Int} {ns:List HuM} {acc:List av} {x:bp} {n:ByteArray} (h:sa ps day x = some n):rr ps day ns acc x = acc ++ [⟨n,((x.frame % 41:Nat):Int),dE ns n ((x.frame % 41:Nat):Int)⟩]:=by
  unfold rr; rw [h]
theorem xn {ps:List ar} {day:Int} {ns:List HuM} {acc:List av} {x:bp} (h:sa ps day x = none):rr ps day ns acc x = acc:=by
  unfold rr; rw [h]
theorem lW (ps:List ar) (day:Int) (pp:List HuM) (pc:List ChM) (hp:gO ⟨pp,pc⟩) (hok:OkP ⟨pp,pc⟩) (xs:List bp) (hxl:xs.length ≤ maxLen) (hxs:∀ x ∈ xs,x.ok) (hf:∀ p ∈ ps,gO p) (hsv:CP ps day []) (σ:ag) :
    Spec Tryz.prog BJ [bx ps,ii' day, .agg [.slice 7 (pp.map HuM.v), .slice 10 (pc.map ChM.v)], .slice 4 (xs.map bp.v)] σ fun r σ'=>r = .ret (br (hY ps day (cL day ⟨pp,pc⟩) xs [])) ∧ σ' = σ:=by
  refine Spec.aC (Dw (by simp) (aa _ ?_)) (by simp [aA,cA,ab.pure,ah (f:=bp.v) bp.pure,ah (f:=HuM.v) (fun p=>p.pure) pp,ah (f:=ChM.v) (fun c=>c.pure) pc]) (cQ _) σ
  have hmx:maxLen = 9223372036854775807:=rfl
  have hS:=kr hok day
  have qPq:=bP pp pc hp hok day
  have hsd:cL day ⟨pp,pc⟩ = aM day pp pc:=rfl
  rw [← hsd] at qPq
  clear hsd
  generalize cL day ⟨pp,pc⟩ = ns at *
  have qFq:=lV ns hS
  obtain ⟨R,hR⟩:∃ R,hY ps day ns xs [] = R:=⟨_,rfl⟩
  rw [hR]
  have h1:=hsv.n1
  have h6:=hsv.n6
  have hne:¬ (ps.length:Int) = 0:=by omega
  have hps:¬ ps = []:=fun e=>by rw [e] at h1; simp at h1
  simp only [bx,br]
  simp [Cn]
  refine AW.loop (ι:=Nat) (fun i fr σ=>∃ (acc:List av) (q:Nat) (tl:ag),fr = { v:=[(0, .slice 2 (ps.map ar.v)),(1,ii' day),(3, .slice 4 (xs.map bp.v)),(6, .pval (.agg [.slice 7 (pp.map HuM.v), .slice 10 (pc.map ChM.v)])),(9, .oslice 3 (acc.map av.v) 0 q),(10, .int .i64 i)],ds:=[] } ∧ σ = .spare 3 q :: tl ∧ i ≤ xs.length ∧ acc.length ≤ 12 ∧ hY ps day ns (xs.drop i) acc = R) (fun i=>xs.length - i) 0 ⟨[],0,[],rfl,rfl,by omega,by simp,hR⟩ ?_
  rintro i fr σ ⟨acc,q,tl,rfl,rfl,hi,hacc,hp⟩
  refine (Nat.lt_or_ge i xs.length).elim (fun hlt=>?_) (fun hge=>?_)
  rotate_left
  · have:acc = R:=by rw [← hp,List.drop_eq_nil_of_le hge]; rfl
    subst this
    refine aa _ ?_
    simp [show ¬ i < xs.length by omega]
  obtain ⟨x,hx⟩:∃ x,xs[i] = x:=⟨_,rfl⟩
  refine (Nat.lt_or_ge acc.length 12).elim (fun hlt2=>?_) (fun hge2=>?_)
  rotate_left
  · have:acc = R:=by rw [← hp,List.drop_eq_getElem_cons hlt]; unfold hY; rw [if_neg (by omega)]
    subst this
    refine aa _ ?_
    simp [hlt,hx,show ¬ (acc.length:Int) < 12 by omega]
  have hl2I:(acc.length:Int) < 12:=by omega
  obtain ⟨x1,x2,x3⟩:=hxs x (hx ▸ List.getElem_mem hlt)
  have hwi:IntKind.i64.wrap ((i:Int) + 1) = ((i + 1:Nat):Int):=by rw [aj (by omega) (by omega)]; simp
  rw [List.drop_eq_getElem_cons hlt,hx] at hp
  unfold hY at hp
  rw [if_pos hlt2] at hp
  have hlk:=zt ps day x
  obtain ⟨f,hf'⟩:∃ f,x.frame % 41 = f:=⟨_,rfl⟩
  have e1:(IntKind.i64.wrap (x.frame:Int)).tmod 41 = (f:Int):=by rw [aj (by omega) (by omega),Int.tmod_eq_emod_of_nonneg (by omega)]; omega
  obtain ⟨j,hj⟩:∃ j,x.plan % ps.length = j:=⟨_,rfl⟩
  have hjl:j < ps.length:=hj ▸ Nat.mod_lt _ (by omega)
  have e2:(IntKind.i64.wrap (x.plan:Int)).tmod (ps.length:Int) = (j:Int):=by rw [aj (by omega) (by omega),Int.tmod_eq_emod_of_nonneg (by omega), ← Int.natCast_emod,hj]
  rw [hj] at hlk
  have n1:=hO x.name
  have hfitS:∀ (n:ByteArray) (a b:Int),Fits 3 [.agg [.str n,ii' a,ii' b]]:=fun n a b v hv=>by
    simp at hv; subst hv; exact ⟨by simp [bB],by simp [ab.cells,dR,ab.fh]⟩
  rcases tf (cg x.name) with hn | hn
  · rw [hn] at n1
    rw [if_neg (by simp [hn])] at hlk
    obtain ⟨p,hpj⟩:∃ p,ps[j] = p:=⟨_,rfl⟩
    have hpm:p ∈ ps:=hpj ▸ List.getElem_mem hjl
    rw [show ps.getD j zPl = p by rw [List.getD_eq_getElem?_getD,List.getElem?_eq_getElem hjl]; exact hpj] at hlk
    obtain ⟨p1,p2⟩:=p
    have qQq:=bP p1 p2 (hf _ hpm) (hsv.ok _ hpm) day
    have hsd:cL day ⟨p1,p2⟩ = aM day p1 p2:=rfl
    have hml:=(kr (hsv.ok _ hpm) day).len
    rw [← hsd] at qQq
    generalize cL day ⟨p1,p2⟩ = ms at qQq hlk hml
    rcases Decidable.em (ms = []) with hm | hm
    · rw [if_pos hm] at hlk
      rw [xn hlk] at hp
      subst hm
      refine aa _ ?_
      simp [hlt,hl2I,hx,bp.v,bp.cells]
      refine af.pure zC (n1 _) ?_
      simp [e2,hps,hjl,hpj,ar.v,ar.cells]
      refine af.pure p0 (qQq _) ?_
      simp [hwi]
      exact ⟨i + 1,by omega,acc,q,⟨⟨rfl,rfl⟩,by simp⟩,rfl,by omega,hacc,hp⟩
    · rw [if_neg hm] at hlk
      have hm0:0 < ms.length:=List.length_pos_iff.2 hm
      obtain ⟨k,hk⟩:∃ k,x.part % ms.length = k:=⟨_,rfl⟩
      have hkl:k < ms.length:=hk ▸ Nat.mod_lt _ hm0
      have e3:(IntKind.i64.wrap (x.part:Int)).tmod (ms.length:Int) = (k:Int):=by rw [aj (by omega) (by omega),Int.tmod_eq_emod_of_nonneg (by omega), ← Int.natCast_emod,hk]
      obtain ⟨m,hmk⟩:∃ m,ms[k] = m:=⟨_,rfl⟩
      rw [hk,show ms.getD k zHu = m by rw [List.getD_eq_getElem?_getD,List.getElem?_eq_getElem hkl]; exact hmk] at hlk
      rw [rZ hlk,hf'] at hp
      have hne3:¬ (ms.length:Int) = 0:=by omega
      have hmk':ms[k]? = some m:=by rw [List.getElem?_eq_getElem hkl,hmk]
      refine aa _ ?_
      simp [hlt,hl2I,hx,bp.v,bp.cells]
      refine af.pure zC (n1 _) ?_
      simp [e1,e2,hps,hjl,hpj,ar.v,ar.cells]
      refine af.pure p0 (qQq _) ?_
      simp [e1,e3,hm,hkl,hmk,HuM.v,HuM.cells]
      refine af.pure p0 (qPq _) ?_
      simp [e1,e3,hkl,hmk,HuM.v,HuM.cells]
      refine af.pure Hr (qFq _ _ _) ?_
      simp [hwi,hfitS,e1,e3,hkl,hmk,HuM.v,HuM.cells]
      exact ⟨by omega,i + 1,by omega,_,q + 1,⟨⟨by simp [av.v,av.cells],rfl⟩,by simp⟩,rfl,by omega,by simp; omega,hp⟩
  · rw [hn] at n1
    rw [if_pos hn] at hlk
    rw [rZ hlk,hf'] at hp
    refine aa _ ?_
    simp [hlt,hl2I,hx,bp.v,bp.cells]
    refine af.pure zC (n1 _) ?_
    simp [e1]
    refine af.pure p0 (qPq _) ?_
    simp [e1]
    refine af.pure Hr (qFq _ _ _) ?_
    simp [hwi,hfitS,e1]
    exact ⟨by omega,i + 1,by omega,_,q + 1,⟨⟨by simp [av.v,av.cells],rfl⟩,by simp⟩,rfl,by omega,by simp; omega,hp⟩
set_option maxRecDepth 100000
set_option maxHeartbeats 1000000
set_option maxRecDepth 100000
set_option maxHeartbeats 1000000
instance ltS_dec (a b:ByteArray):Decidable (ltS a b):=inferInstanceAs (Decidable (a.data.toList < b.data.toList))
structure Ew (l:List HuM) (out:List ByteArray):Prop where
  asc:Asc out
  sub:∀ y ∈ out, ∃ x ∈ l,x.name = y
  low:∀ x ∈ l,x.name ∈ out ∨ ∀ z ∈ out,ltS z x.name
theorem xj {α:Type} {l:List α} {i:Nat} (h:i < l.length) (y:α):y ∈ l.take (i + 1) ↔ y ∈ l.take i ∨ y = l[i]:=by
  rw [List.take_succ_eq_append_getElem h,List.mem_append,List.mem_singleton]
end Go.AM
