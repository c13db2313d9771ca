/- What a hull weighs in a truth: of the document. The truth that shows a reason, and the least balance: of the document. Smallest, Balance, Least: of the document. The plain law of StandBalances: .. -/
import Derived.Test.YthhmdhiiicipkaaGreatDoorP17
namespace Go.AM
open Go.Proofs
set_option maxRecDepth 100000
set_option maxHeartbeats 1000000
set_option maxRecDepth 100000
set_option maxHeartbeats 1000000
set_option maxRecDepth 100000
set_option maxHeartbeats 1000000
set_option maxRecDepth 100000
set_option maxHeartbeats 1000000
theorem jl (s:ByteArray):∀ (l:List ByteArray) (i:Nat),0 ≤ dK l s i ↔ (l.any fun a=>a.toList == s.toList) = true
  | [],i=>by simp [dK]
  | a :: r,i=>by
    have ih:=jl s r (i + 1)
    have e:dK (a :: r) s i = if a.toList == s.toList then (i:Int) else dK r s (i + 1):=rfl
    rw [e,List.any_cons]
    by_cases h:(a.toList == s.toList) = true
    · rw [if_pos h,h]; simp
    · rw [if_neg h]
      have h':(a.toList == s.toList) = false:=by simpa using h
      rw [h',ih]; simp
structure Bounds (h:l7):Prop where
  aft:0 ≤ h.aft ∧ h.aft ≤ 5000
  fore:0 ≤ h.fore ∧ h.fore ≤ 5000
  at_:∀ p ∈ h.ps,0 ≤ p.at_ ∧ p.at_ ≤ 5000
theorem vH {α:Type} (p:α → Bool):∀ (l:List α) (k i:Nat),0 ≤ bV p (l.take k) i ↔ (0 ≤ bV p l i ∧ bV p l i < i + k)
  | [],k,i=>by simp [bV]
  | a :: r,0,i=>by
    simp only [List.take_zero,bV]
    constructor
    · intro h; omega
    · rintro ⟨h1,h2⟩
      exfalso
      by_cases hp:p a = true
      · rw [if_pos hp] at h2; omega
      · rw [if_neg hp] at h1 h2
        obtain ⟨j,h3,_⟩:=wO p r (i + 1) h1
        rw [h3] at h2; push_cast at h2; omega
  | a :: r,k + 1,i=>by
    simp only [List.take_succ_cons,bV]
    by_cases hp:p a = true
    · rw [if_pos hp,if_pos hp]; constructor
      · intro h; exact ⟨h,by push_cast; omega⟩
      · intro h; exact h.1
    · rw [if_neg hp,if_neg hp,vH p r k (i + 1)]
      push_cast
      constructor <;> rintro ⟨h1,h2⟩ <;> exact ⟨h1,by omega⟩
theorem sJ (ps:List HuM) (n:ByteArray) (k:Nat):0 ≤ findF (ps.take k) n ↔ (0 ≤ findF ps n ∧ findF ps n < k):=by
  simpa [findF] using vH (fun y=>y.name.toList == n.toList) ps k 0
theorem Ei (on:List ByteArray):∀ (l:List ByteArray) (i:Nat),rA on l i = mY on l i
  | [],_=>rfl
  | n :: r,i=>by
    simp only [rA,mY,Ei on r (i + 1)]
    congr 1
    rw [Bool.eq_iff_iff,decide_eq_true_iff,jl]
    simp only [List.any_eq_true,beq_iff_eq]
    constructor <;> rintro ⟨y,h1,h2⟩ <;> exact ⟨y,h1,h2.symm⟩
theorem rN (lo hi n:Int):n4 lo hi n = !bu n lo hi:=by
  simp only [n4,bu]
  rw [Bool.eq_iff_iff]
  simp <;> omega
theorem DU (x:HuM):(aH 1 5 [x.kind] || aH 0 40 [x.first,x.last] || aH 1 1000000 [x.lo,x.hi]) = cP x:=by
  simp only [aH,List.any_cons,List.any_nil,rN,cP,ew,gi,Bool.or_false]
  cases bu x.kind 1 5 <;> cases bu x.first 0 40 <;> cases bu x.last 0 40 <;> cases bu x.lo 1 1000000 <;> cases bu x.hi 1 1000000 <;> simp
  split <;> simp
theorem AG (x:HuM) (h:cP x = false):ew x ≠ 0 ↔ x.hi < x.lo:=by
  simp only [cP,Bool.or_eq_false_iff] at h
  have h4:=h.2
  simp only [ew,gi] at h4 ⊢
  split at h4
  · simp at h4
  · rename_i h5
    rw [if_neg h5]
    split
    · simp; omega
    · simp; omega
theorem Bm {a b:HuM} (ha:a.first ≤ a.last) (hb:b.first ≤ b.last):dM a b = aP a b:=by
  simp only [dM,aP]
  rw [Bool.eq_iff_iff]
  simp
  omega
theorem Ci {ps:List HuM} {x:HuM} {k:Nat} (h:cH ps x k = 0):x.first ≤ x.last:=by
  unfold cH at h
  split at h
  · cases h
  split at h
  · cases h
  split at h
  · cases h
  split at h
  · cases h
  · omega
theorem nO (ps:List HuM) (x:HuM) (i:Nat) (hv:∀ y ∈ ps.take i,y.first ≤ y.last):cH ps x i = bn aP x (ps.take i) (ps.take i):=by
  unfold cH bn
  rw [DU,Ei]
  by_cases h1:cg x.name = false
  · rw [if_pos h1,if_pos h1]
  rw [if_neg h1,if_neg h1]
  by_cases h2:0 ≤ findF (ps.take i) x.name
  · rw [if_pos h2,if_pos ((sJ _ _ _).1 h2)]
  rw [if_neg h2,if_neg (fun h=>h2 ((sJ _ _ _).2 h))]
  by_cases h3:cP x = true
  · rw [if_pos h3,if_pos h3]
  rw [if_neg h3,if_neg h3]
  have h3':cP x = false:=by simpa using h3
  by_cases h4:x.last < x.first ∨ x.hi < x.lo
  · rw [if_pos h4,if_pos (h4.imp id (AG x h3').2)]
  have h4':¬ (x.last < x.first ∨ ew x ≠ 0):=fun h=>h4 (h.imp id (AG x h3').1)
  rw [if_neg h4,if_neg h4']
  by_cases h5:(x.on.any fun n=>decide (findF (ps.take i) n < 0)) = true
  · rw [if_pos h5,if_pos h5]
  rw [if_neg h5,if_neg h5]
  by_cases h6:mY x.on x.on 0 = true
  · rw [if_pos h6,if_pos h6]
  rw [if_neg h6,if_neg h6]
  have h7:(x.on.any fun n=>!dM x (atF (ps.take i) n)) = (x.on.any fun n=>!aP x (atF (ps.take i) n)):=by
    have hx:x.first ≤ x.last:=by omega
    have hpos:∀ n ∈ x.on,0 ≤ findF (ps.take i) n:=by
      intro n hm
      rcases Int.lt_or_le (findF (ps.take i) n) 0 with hl | hl
      · exact absurd (List.any_eq_true.2 ⟨n,hm,by simpa using hl⟩) h5
      · exact hl
    rw [Bool.eq_iff_iff,List.any_eq_true,List.any_eq_true]
    have e:∀ n ∈ x.on,dM x (atF (ps.take i) n) = aP x (atF (ps.take i) n):=by
      intro n hm
      obtain ⟨j,hj1,hj2⟩:=tu (hpos n hm)
      refine Bm hx (hv _ ?_)
      have:atF (ps.take i) n = (ps.take i)[j]:=by simp only [atF,hj1,Int.toNat_natCast,List.getD_eq_getElem?_getD,List.getElem?_eq_getElem hj2,Option.getD_some]
      rw [this]
      exact List.getElem_mem _
    constructor <;> rintro ⟨n,h1,h2⟩ <;> exact ⟨n,h1,by simpa [e n h1] using h2⟩
  rw [h7]
structure ChM where
  what:Int
  day:Int
  name:ByteArray
  part:HuM
def ChM.cells (c:ChM):List ab:=[ii' c.what,ii' c.day, .str c.name, .str c.part.name,ii' c.part.kind,ii' c.part.first,ii' c.part.last, .slice 1 (c.part.on.map .str),ii' c.part.lo,ii' c.part.hi]
def ChM.v (c:ChM):ab:=.agg c.cells
theorem ChM.pure (c:ChM):c.v.pure = true:=by simp [ChM.v,ChM.cells,ab.pure,aA,ah (f:=ab.str) (fun _=>rfl) c.part.on]
structure ar where
  ship:List HuM
  chs:List ChM
def ar.cells (p:ar):List ab:=[.slice 7 (p.ship.map HuM.v), .slice 10 (p.chs.map ChM.v)]
def ar.v (p:ar):ab:=.agg p.cells
theorem ar.pure (p:ar):p.v.pure = true:=by simp [ar.v,ar.cells,ab.pure,aA,ah (f:=HuM.v) (fun p=>p.pure) p.ship,ah (f:=ChM.v) (fun c=>c.pure) p.chs]
/-! ### names -/
theorem cm (a b:ByteArray):(a.toList == b.toList) = true ↔ a = b:=by
  rw [beq_iff_eq,toList_data,toList_data]
  constructor
  · intro h
    obtain ⟨a⟩:=a
    obtain ⟨b⟩:=b
    have:a = b:=Array.toList_inj.1 h
    rw [this]
  · rintro rfl; rfl
theorem rC (a b:ByteArray):(a.toList == b.toList) = (b.toList == a.toList):=by
  rw [Bool.eq_iff_iff,cm,cm]; exact eq_comm
theorem mr {α:Type} (p:α → Bool):∀ (l:List α) (i:Nat),0 ≤ bV p l i → ∃ j, ∃ h:j < l.length,bV p l i = ((i + j:Nat):Int) ∧ p l[j] = true ∧ ∀ k (hk:k < j),p (l[k]'(by omega)) = false
  | [],i,h=>by simp [bV] at h
  | a :: r,i,h=>by
    simp only [bV] at h ⊢
    by_cases hp:p a = true
    · rw [if_pos hp]; exact ⟨0,by simp,by simp,hp,fun k hk=>by omega⟩
    · rw [if_neg hp] at h ⊢
      obtain ⟨j,h1,h2,h3,h4⟩:=mr p r (i + 1) h
      refine ⟨j + 1,by simp; omega,by rw [h2]; congr 1; omega,by simpa using h3,fun k hk=>?_⟩
      cases k with
      | zero=>simpa using hp
      | succ k=>simpa using h4 k (by omega)
theorem dw (l:List HuM) (n:ByteArray):0 ≤ findF l n ↔ ∃ y ∈ l,y.name = n:=by
  unfold findF
  rw [wB,List.any_eq_true]
  constructor
  · rintro ⟨y,h1,h2⟩; exact ⟨y,h1,(cm _ _).1 h2⟩
  · rintro ⟨y,h1,h2⟩; exact ⟨y,h1,(cm _ _).2 h2⟩
theorem yR (l:List HuM) (n:ByteArray):findF l n < 0 ↔ ∀ y ∈ l,y.name ≠ n:=by
  have h:=dw l n
  constructor
  · intro h1 y hy hn
    have:=h.2 ⟨y,hy,hn⟩; omega
  · intro h1
    rcases Int.lt_or_le (findF l n) 0 with h2 | h2
    · exact h2
    · obtain ⟨y,hy,hn⟩:=h.1 h2
      exact absurd hn (h1 y hy)
theorem xT {l:List HuM} {n:ByteArray} (h:0 ≤ findF l n):∃ j, ∃ hj:j < l.length,findF l n = (j:Nat) ∧ (l[j]).name = n ∧ ∀ k (hk:k < j),(l[k]'(by omega)).name ≠ n:=by
  obtain ⟨j,h1,h2,h3,h4⟩:=mr _ l 0 h
  refine ⟨j,h1,by simpa [findF] using h2,(cm _ _).1 h3,fun k hk e=>?_⟩
  have:=h4 k hk
  rw [e] at this
  simp at this
def bF (x:HuM) (n:ByteArray):Bool:=x.on.any fun y=>n.toList == y.toList
theorem ea (x:HuM) (n:ByteArray):bF x n = true ↔ n ∈ x.on:=by
  unfold bF
  rw [List.any_eq_true]
  constructor
  · rintro ⟨y,h1,h2⟩; rw [(cm _ _).1 h2]; exact h1
  · intro h; exact ⟨n,h,(cm _ _).2 rfl⟩
def gq (ps:List HuM) (n:ByteArray):Bool:=ps.any fun x=>bF x n
theorem jg (l:List ByteArray) (n:ByteArray):0 ≤ dK l n 0 ↔ n ∈ l:=by
  rw [jl,List.any_eq_true]
  constructor
  · rintro ⟨y,h1,h2⟩; rw [← (cm _ _).1 h2]; exact h1
  · intro h; exact ⟨n,h,(cm _ _).2 rfl⟩
theorem Bl (on:List ByteArray):∀ (l:List ByteArray) (i:Nat),on.drop i = l → (mY on l i = false ↔ ∀ k (h:k < l.length),l[k] ∉ on.take (i + k))
  | [],i,_=>by simp [mY]
  | n :: r,i,hd=>by
    have hr:on.drop (i + 1) = r:=by rw [← List.drop_drop,hd]; rfl
    simp only [mY,Bool.or_eq_false_iff,decide_eq_false_iff_not,jg,Bl on r (i + 1) hr]
    constructor
    · rintro ⟨h1,h2⟩ k hk
      cases k with
      | zero=>simpa using h1
      | succ k=>have:=h2 k (by simpa using hk); rw [show i + (k + 1) = i + 1 + k by omega]; simpa using this
    · intro h
      refine ⟨h 0 (by simp),fun k hk=>?_⟩
      have:=h (k + 1) (by simpa using hk)
      rw [show i + (k + 1) = i + 1 + k by omega] at this
      simpa using this
theorem vz (on:List ByteArray):mY on on 0 = false ↔ on.Nodup:=by
  rw [Bl on on 0 rfl,List.Nodup,List.pairwise_iff_getElem]
  constructor
  · intro h i j hi hj hij e
    refine h j hj ?_
    rw [Nat.zero_add, ← e]
    exact List.mem_take_iff_getElem.2 ⟨i,by omega,rfl⟩
  · intro h k hk hm
    rw [Nat.zero_add] at hm
    obtain ⟨i,hi,e⟩:=List.mem_take_iff_getElem.1 hm
    exact h i k (by omega) hk (by omega) e
/-! ### parts without an error -/
structure pL (x:HuM):Prop where
  name:cg x.name = true
  range:cP x = false
  frames:x.first ≤ x.last
  span:ew x = 0
  on:x.on.Nodup
theorem dJ {before:List HuM} {n:ByteArray} (h:∃ y ∈ before,y.name = n):atF before n ∈ before ∧ (atF before n).name = n:=by
  obtain ⟨j,hj,e,hn,_⟩:=xT ((dw before n).2 h)
  have:atF before n = before[j]:=by simp only [atF,e,Int.toNat_natCast,List.getD_eq_getElem?_getD,List.getElem?_eq_getElem hj,Option.getD_some]
  rw [this]
  exact ⟨List.getElem_mem _,hn⟩
theorem o9 (x:HuM) (before others:List HuM):bn aP x before others = 0 ↔
    (pL x ∧ (∀ y ∈ others,y.name ≠ x.name) ∧ ∀ n ∈ x.on,(∃ y ∈ before,y.name = n) ∧ aP x (atF before n) = true):=by
  unfold bn
  by_cases h1:cg x.name = false
  · rw [if_pos h1]
    simp only [show (6:Int) ≠ 0 by decide,false_iff]
    rintro ⟨h,_⟩
    rw [h.name] at h1; cases h1
  rw [if_neg h1]
  by_cases h2:0 ≤ findF others x.name
  · rw [if_pos h2]
    simp only [show (5:Int) ≠ 0 by decide,false_iff]
    rintro ⟨_,h,_⟩
    obtain ⟨y,hy,e⟩:=(dw _ _).1 h2
    exact h y hy e
  rw [if_neg h2]
  have h2':=(yR others x.name).1 (by omega)
  by_cases h3:cP x = true
  · rw [if_pos h3]
    simp only [show (7:Int) ≠ 0 by decide,false_iff]
    rintro ⟨h,_⟩
    rw [h.range] at h3; cases h3
  rw [if_neg h3]
  by_cases h4:x.last < x.first ∨ ew x ≠ 0
  · rw [if_pos h4]
    simp only [show (2:Int) ≠ 0 by decide,false_iff]
    rintro ⟨h,_⟩
    have:=h.frames; have:=h.span
    omega
  rw [if_neg h4]
  by_cases h5:(x.on.any fun n=>decide (findF before n < 0)) = true
  · rw [if_pos h5]
    simp only [show (4:Int) ≠ 0 by decide,false_iff]
    rintro ⟨_,_,h⟩
    obtain ⟨n,hn,e⟩:=List.any_eq_true.1 h5
    have e':findF before n < 0:=by simpa using e
    obtain ⟨y,hy,en⟩:=(h n hn).1
    exact (yR _ _).1 e' y hy en
  rw [if_neg h5]
  have h5':∀ n ∈ x.on, ∃ y ∈ before,y.name = n:=by
    intro n hn
    refine (dw _ _).1 ?_
    rcases Int.lt_or_le (findF before n) 0 with h | h
    · exact absurd (List.any_eq_true.2 ⟨n,hn,by simpa using h⟩) h5
    · exact h
  by_cases h6:mY x.on x.on 0 = true
  · rw [if_pos h6]
    simp only [show (5:Int) ≠ 0 by decide,false_iff]
    rintro ⟨h,_⟩
    rw [(vz _).2 h.on] at h6; cases h6
  rw [if_neg h6]
  have h6':=(vz x.on).1 (by simpa using h6)
  by_cases h7:(x.on.any fun n=>!aP x (atF before n)) = true
  · rw [if_pos h7]
    simp only [show (9:Int) ≠ 0 by decide,false_iff]
    rintro ⟨_,_,h⟩
    obtain ⟨n,hn,e⟩:=List.any_eq_true.1 h7
    have:=(h n hn).2
    rw [this] at e; cases e
  rw [if_neg h7]
  refine ⟨fun _=>⟨⟨by simpa using h1,by simpa using h3,by omega,by omega,h6'⟩,h2',fun n hn=>⟨h5' n hn, ?_⟩⟩,fun _=>rfl⟩
  rcases tf (aP x (atF before n)) with h | h
  · exact absurd (List.any_eq_true.2 ⟨n,hn,by simp [h]⟩) h7
  · exact h
structure OkS (l:List HuM):Prop where
  len:l.length ≤ 12
  names:(l.map HuM.name).Nodup
  part:∀ x ∈ l,pL x
  on:∀ a x b,l = a ++ x :: b → ∀ n ∈ x.on, ∃ y ∈ a,y.name = n ∧ aP x y = true
theorem rR {a b:List HuM} (h:((a ++ b).map HuM.name).Nodup) {x y:HuM} (hx:x ∈ a) (hy:y ∈ b):x.name ≠ y.name:=by
  rw [List.map_append,List.nodup_append] at h
  exact h.2.2 _ (List.mem_map_of_mem hx) _ (List.mem_map_of_mem hy)
theorem uniq {l:List HuM} (h:(l.map HuM.name).Nodup) {x y:HuM} (hx:x ∈ l) (hy:y ∈ l) (e:x.name = y.name):x = y:=by
  obtain ⟨i,hi,rfl⟩:=List.mem_iff_getElem.1 hx
  obtain ⟨j,hj,rfl⟩:=List.mem_iff_getElem.1 hy
  rw [List.Nodup,List.pairwise_iff_getElem] at h
  rcases Nat.lt_trichotomy i j with h1 | h1 | h1
  · exact (h i j (by simpa using hi) (by simpa using hj) h1 (by rw [List.getElem_map,List.getElem_map]; exact e)).elim
  · subst h1; rfl
  · exact (h j i (by simpa using hj) (by simpa using hi) h1 (by rw [List.getElem_map,List.getElem_map]; exact e.symm)).elim
theorem vZ {l:List HuM} (h:OkS l) (hl:l.length < 12) {x:HuM}:bn aP x l l = 0 ↔ OkS (l ++ [x]):=by
  rw [o9]
  constructor
  · rintro ⟨h1,h2,h3⟩
    refine ⟨by simp; omega, ?_, ?_, ?_⟩
    · rw [List.map_append,List.nodup_append]
      refine ⟨h.names,by simp,fun a ha b hb=>?_⟩
      obtain ⟨y,hy,rfl⟩:=List.mem_map.1 ha
      simp at hb; subst hb
      exact h2 y hy
    · intro y hy
      rcases List.mem_append.1 hy with hy | hy
      · exact h.part y hy
      · simp at hy; subst hy; exact h1
    · intro a y b e n hn
      rcases List.append_eq_append_iff.1 e with ⟨az,e1,e2⟩ | ⟨bs,e1,e2⟩
      · cases az with
        | nil=>
          simp at e2 e1
          obtain ⟨rfl,rfl⟩:=e2
          subst e1
          have:=h3 n hn
          exact ⟨_,(dJ this.1).1,(dJ this.1).2,this.2⟩
        | cons z r=>simp at e2
      · cases bs with
        | nil=>
          simp at e2 e1
          obtain ⟨rfl,rfl⟩:=e2
          subst e1
          have:=h3 n hn
          exact ⟨_,(dJ this.1).1,(dJ this.1).2,this.2⟩
        | cons z r=>
          simp at e2
          obtain ⟨rfl,_⟩:=e2
          exact h.on a y r e1 n hn
  · intro h'
    refine ⟨h'.part x (by simp),fun y hy=>rR (a:=l) (b:=[x]) h'.names hy (by simp),fun n hn=>?_⟩
    obtain ⟨y,hy,e,hm⟩:=h'.on l x [] rfl n hn
    have hex:∃ y ∈ l,y.name = n:=⟨y,hy,e⟩
    refine ⟨hex, ?_⟩
    have:=dJ hex
    rw [uniq h.names this.1 hy (this.2.trans e.symm)]
    exact hm
theorem AY:OkS []:=⟨by simp,by simp,fun x hx=>absurd hx (by simp),fun a x b e=>absurd e (by simp)⟩
theorem yI {l r:List HuM} (h:OkS (l ++ r)):OkS l:=by
  have h1:=h.len
  have h2:=h.names
  rw [List.map_append,List.nodup_append] at h2
  simp only [List.length_append] at h1
  refine ⟨by omega,h2.1,fun x hx=>h.part x (by simp [hx]),fun a x b e n hn=>?_⟩
  subst e
  exact h.on a x (b ++ r) (by simp) n hn
theorem E8 (l:List HuM) (hl:l.length ≤ 12):(∀ k (h:k < l.length),bn aP l[k] (l.take k) (l.take k) = 0) ↔ OkS l:=by
  constructor
  · intro h
    have key:∀ k,k ≤ l.length → OkS (l.take k):=by
      intro k
      induction k with
      | zero=>intro _; simpa using AY
      | succ k ih=>
        intro hk
        rw [List.take_succ_eq_append_getElem (by omega)]
        exact (vZ (ih (by omega)) (by simp; omega)).1 (h k (by omega))
    have:=key l.length (by omega)
    rwa [List.take_length] at this
  · intro h k hk
    have h1:OkS (l.take k ++ [l[k]]):=by
      rw [← List.take_succ_eq_append_getElem hk]
      exact yI (r:=l.drop (k + 1)) (by rw [List.take_append_drop]; exact h)
    exact (vZ (yI h1) (by simp; omega)).2 h1
/-! ### a part is taken away -/
theorem Da {p q:List HuM} {z:HuM} (h:OkS (p ++ z :: q)) (hn:∀ x ∈ q,z.name ∉ x.on):OkS (p ++ q):=by
  refine ⟨by have:=h.len; simp at this ⊢; omega, ?_,fun x hx=>h.part x (by rcases List.mem_append.1 hx with h1 | h1 <;> simp [h1]), ?_⟩
  · have:=h.names
    simp only [List.map_append,List.map_cons,List.nodup_append,List.nodup_cons] at this ⊢
    exact ⟨this.1,this.2.1.2,fun a ha b hb=>this.2.2 a ha b (by simp [hb])⟩
  · intro a x b e n hx
    rcases List.append_eq_append_iff.1 e with ⟨az,e1,e2⟩ | ⟨bs,e1,e2⟩
    · -- behind p
      subst e1
      have hxq:x ∈ q:=by rw [e2]; simp
      obtain ⟨y,hy,en,hm⟩:=h.on (p ++ z :: az) x b (by rw [e2]; simp) n hx
      refine ⟨y, ?_,en,hm⟩
      rcases List.mem_append.1 hy with h1 | h1
      · exact List.mem_append.2 (.inl h1)
      · rcases List.mem_cons.1 h1 with rfl | h1
        · exact absurd (en ▸ hx) (hn x hxq)
        · exact List.mem_append.2 (.inr h1)
    · cases bs with
      | nil=>
        simp at e2 e1
        subst e1
        have hxq:x ∈ q:=by rw [← e2]; simp
        obtain ⟨y,hy,en,hm⟩:=h.on (p ++ [z]) x b (by rw [← e2]; simp) n hx
        refine ⟨y, ?_,en,hm⟩
        rcases List.mem_append.1 hy with h1 | h1
        · exact h1
        · simp at h1; subst h1
          exact absurd (en ▸ hx) (hn x hxq)
      | cons w r=>
        simp at e2
        obtain ⟨rfl,_⟩:=e2
        exact h.on a x (r ++ z :: q) (by rw [e1]; simp) n hx
/-! ### a part is put in the place of another -/
def ren (a b:ByteArray) (n:ByteArray):ByteArray:=if n.toList == a.toList then b else n
def oM (a b:ByteArray) (y:HuM):HuM:={ y with on:=y.on.map (ren a b) }
def kq (a b:ByteArray):List ByteArray → List ByteArray
  | []=>[]
  | n :: r=>if n.toList == a.toList then b :: r else n :: kq a b r
theorem tV {a b:ByteArray}:∀ {l:List ByteArray},a ∉ l → l.map (ren a b) = l
  | [],_=>rfl
  | n :: r,h=>by
    simp only [List.mem_cons,not_or] at h
    rw [List.map_cons,tV h.2,ren,if_neg]
    rw [cm]; exact fun e=>h.1 e.symm
theorem qH {a b:ByteArray}:∀ {l:List ByteArray},l.Nodup → kq a b l = l.map (ren a b)
  | [],_=>rfl
  | n :: r,h=>by
    simp only [List.nodup_cons] at h
    simp only [kq,List.map_cons,ren]
    by_cases hn:(n.toList == a.toList) = true
    · rw [if_pos hn,if_pos hn]
      rw [(cm _ _).1 hn] at h
      rw [tV h.1]
    · rw [if_neg hn,if_neg hn,qH h.2]
theorem D7 {p q:List HuM} {z x:HuM} (h:OkS (p ++ z :: q)) (hx:bn aP x p (p ++ q) = 0) (hm:∀ y ∈ q,z.name ∈ y.on → aP y x = true):OkS (p ++ x :: q.map (oM z.name x.name)):=by
  obtain ⟨h1,h2,h3⟩:=(o9 _ _ _).1 hx
  have hnm:(q.map (oM z.name x.name)).map HuM.name = q.map HuM.name:=by simp [oM,List.map_map,Function.comp_def]
  have hnames:=h.names
  simp only [List.map_append,List.map_cons,List.nodup_append,List.nodup_cons] at hnames
  refine ⟨by have:=h.len; simpa using this, ?_, ?_, ?_⟩
  · simp only [List.map_append,List.map_cons,hnm,List.nodup_append,List.nodup_cons]
    refine ⟨hnames.1,⟨?_,hnames.2.1.2⟩, ?_⟩
    · intro hin
      obtain ⟨y,hy,e⟩:=List.mem_map.1 hin
      exact h2 y (by simp [hy]) e
    · intro a ha b hb
      rcases List.mem_cons.1 hb with rfl | hb
      · obtain ⟨y,hy,rfl⟩:=List.mem_map.1 ha
        exact h2 y (by simp [hy])
      · exact hnames.2.2 a ha b (by simp [hb])
  · intro y hy
    rcases List.mem_append.1 hy with hy | hy
    · exact h.part y (by simp [hy])
    rcases List.mem_cons.1 hy with rfl | hy
    · exact h1
    obtain ⟨w,hw,rfl⟩:=List.mem_map.1 hy
    have hp:=h.part w (by simp [hw])
    refine ⟨hp.name,hp.range,hp.frames,hp.span, ?_⟩
    -- a new name is that of no other part
    show (w.on.map (ren z.name x.name)).Nodup
    rw [List.Nodup,List.pairwise_map]
    have hmem:∀ n ∈ w.on,n = z.name ∨ n ≠ x.name:=by
      intro n hn
      obtain ⟨a,b,e⟩:=List.append_of_mem hw
      obtain ⟨y,hy,en,_⟩:=h.on (p ++ z :: a) w b (by rw [e]; simp) n hn
      rcases List.mem_append.1 hy with h4 | h4
      · exact .inr (en ▸ h2 y (by simp [h4]))
      · rcases List.mem_cons.1 h4 with rfl | h4
        · exact .inl en.symm
        · exact .inr (en ▸ h2 y (by rw [e]; simp [h4]))
    refine List.Pairwise.imp_of_mem ?_ hp.on
    intro n m hn hm' hne
    unfold ren
    by_cases e1:(n.toList == z.name.toList) = true <;> by_cases e2:(m.toList == z.name.toList) = true
    · exact absurd (((cm _ _).1 e1).trans ((cm _ _).1 e2).symm) hne
    · rw [if_pos e1,if_neg e2]
      rcases hmem m hm' with h5 | h5
      · exact absurd ((cm _ _).2 h5) e2
      · exact fun e=>h5 e.symm
    · rw [if_neg e1,if_pos e2]
      rcases hmem n hn with h5 | h5
      · exact absurd ((cm _ _).2 h5) e1
      · exact h5
    · rw [if_neg e1,if_neg e2]; exact hne
  · intro a y b e n hn
    rcases List.append_eq_append_iff.1 e with ⟨az,e1,e2⟩ | ⟨bs,e1,e2⟩
    · subst e1
      cases az with
      | nil=>
        simp at e2
        obtain ⟨rfl,_⟩:=e2
        have:=h3 n hn
        exact ⟨_,by simpa using (dJ this.1).1,(dJ this.1).2,this.2⟩
      | cons w r=>
        simp at e2
        obtain ⟨rfl,e3⟩:=e2
        obtain ⟨r',y',b',e4,e5,e6⟩:∃ r' y' b',q = r' ++ y' :: b' ∧ r = r'.map (oM z.name x.name) ∧ y = oM z.name x.name y':=by
          obtain ⟨r',l2,e4,e5,e6⟩:=List.map_eq_append_iff.1 e3
          obtain ⟨y',b',e7,e8,e9⟩:=List.map_eq_cons_iff.1 e6
          exact ⟨r',y',b',by rw [e4,e7],e5.symm,e8.symm⟩
        subst e5 e6
        obtain ⟨m,hm1,rfl⟩:=List.mem_map.1 hn
        obtain ⟨y,hy,en,hmt⟩:=h.on (p ++ z :: r') y' b' (by rw [e4]; simp) m hm1
        have hy'q:y' ∈ q:=by rw [e4]; simp
        unfold ren
        by_cases e7:(m.toList == z.name.toList) = true
        · rw [if_pos e7]
          refine ⟨x,by simp,rfl, ?_⟩
          have:=hm y' hy'q ((cm _ _).1 e7 ▸ hm1)
          exact this
        · rw [if_neg e7]
          rcases List.mem_append.1 hy with h4 | h4
          · exact ⟨y,by simp [h4],en,hmt⟩
          · rcases List.mem_cons.1 h4 with rfl | h4
            · exact absurd ((cm _ _).2 en.symm) e7
            · exact ⟨oM z.name x.name y,List.mem_append.2 (.inr (List.mem_cons.2 (.inr (List.mem_map_of_mem h4)))),en,hmt⟩
    · cases bs with
      | nil=>
        simp at e2 e1
        obtain ⟨rfl,_⟩:=e2
        subst e1
        have:=h3 n hn
        exact ⟨_,(dJ this.1).1,(dJ this.1).2,this.2⟩
      | cons w r=>
        simp at e2
        obtain ⟨rfl,_⟩:=e2
        exact h.on a y (r ++ z :: q) (by rw [e1]; simp) n hn
def eZ (ps:List HuM) (x:HuM) (k:Nat) (bh:List HuM):Int:=
  if cg x.name = false then 6 else if (bh.any fun y=>y.name.toList == x.name.toList) = true then 5 else cH ps x k
def iv (x:HuM):Bool:=decide (x.name = ByteArray.empty) && decide (x.kind = 0) && decide (x.first = 0) && decide (x.last = 0) && decide (x.on = []) && decide (x.lo = 0) && decide (x.hi = 0)
def fj (c:ChM):Bool:=(decide (c.what = 1) && decide (c.name = ByteArray.empty)) || (decide (c.what = 2) && iv c.part) || decide (c.what = 3)
def kh (l:List HuM) (k:Nat):List HuM:=l.take k ++ l.drop (k + 1)
def eE (l:List HuM) (k:Nat) (x:HuM) (n:ByteArray):List HuM:=l.take k ++ x :: (l.drop (k + 1)).map (oM n x.name)
def aZ (l:List HuM) (c:ChM):List HuM × Int:=
  if c.what = 1 then (if 12 ≤ l.length then ([],3) else (l ++ [c.part],bn aP c.part l l))
  else if findF l c.name < 0 then ([],4)
  else if c.what = 2 then (if gq l c.name then ([],9) else (kh l (findF l c.name).toNat,0))
  else (eE l (findF l c.name).toNat c.part (atF l c.name).name,
    if bn aP c.part (l.take (findF l c.name).toNat) (kh l (findF l c.name).toNat) ≠ 0 then bn aP c.part (l.take (findF l c.name).toNat) (kh l (findF l c.name).toNat)
    else if (l.drop ((findF l c.name).toNat + 1)).any (fun y=>bF y c.name && !aP y c.part) then 9 else 0)
def oO (n:ByteArray) (x:HuM) (y:HuM):HuM:=if bF y n then { y with on:=kq n x.name y.on } else y
def doE (l:List HuM) (c:ChM):Int:=
  if c.what = 1 then (if 12 ≤ l.length then 3 else eZ l c.part l.length [])
  else if findF l c.name < 0 then 4
  else if c.what = 2 then (if gq l c.name then 9 else 0)
  else if eZ l c.part (findF l c.name).toNat (l.drop ((findF l c.name).toNat + 1)) ≠ 0 then eZ l c.part (findF l c.name).toNat (l.drop ((findF l c.name).toNat + 1))
  else if (l.drop ((findF l c.name).toNat + 1)).any (fun y=>bF y c.name && !dM y c.part) then 9 else 0
def doL (l:List HuM) (c:ChM):List HuM:=
  if c.what = 1 then l ++ [c.part]
  else if c.what = 2 then kh l (findF l c.name).toNat
  else l.take (findF l c.name).toNat ++ c.part :: (l.drop ((findF l c.name).toNat + 1)).map (oO c.name c.part)
theorem Cq (l:List HuM) (n:ByteArray):(l.any fun y=>y.name.toList == n.toList) = decide (0 ≤ findF l n):=by
  unfold findF; rw [iy]
theorem tt (a b:List HuM) (n:ByteArray):0 ≤ findF (a ++ b) n ↔ 0 ≤ findF a n ∨ 0 ≤ findF b n:=by
  simp only [dw,List.mem_append]
  constructor
  · rintro ⟨y,h1 | h1,h2⟩
    · exact .inl ⟨y,h1,h2⟩
    · exact .inr ⟨y,h1,h2⟩
  · rintro (⟨y,h1,h2⟩ | ⟨y,h1,h2⟩)
    · exact ⟨y, .inl h1,h2⟩
    · exact ⟨y, .inr h1,h2⟩
theorem zP (x:HuM) (a b:List HuM):bn aP x a (a ++ b) = if cg x.name = false then 6 else if 0 ≤ findF b x.name then 5 else bn aP x a a:=by
  by_cases h1:cg x.name = false
  · rw [if_pos h1]; unfold bn; rw [if_pos h1]
  rw [if_neg h1]
  by_cases h2:0 ≤ findF b x.name
  · rw [if_pos h2]; unfold bn; rw [if_neg h1,if_pos ((tt _ _ _).2 (.inr h2))]
  rw [if_neg h2]
  unfold bn
  rw [if_neg h1,if_neg h1]
  by_cases h3:0 ≤ findF a x.name
  · rw [if_pos h3,if_pos ((tt _ _ _).2 (.inl h3))]
  · rw [if_neg h3,if_neg (fun h=>((tt _ _ _).1 h).elim h3 h2)]
theorem vy (ps:List HuM) (x:HuM) (k:Nat) (bh:List HuM) (hv:∀ y ∈ ps.take k,y.first ≤ y.last):eZ ps x k bh = bn aP x (ps.take k) (ps.take k ++ bh):=by
  rw [zP, ← nO ps x k hv]
  unfold eZ
  rw [Cq]
  simp only [decide_eq_true_eq]
theorem yH {l:List HuM} {k:Nat} (h:k < l.length):l = l.take k ++ l[k] :: l.drop (k + 1):=by
  rw [← List.drop_eq_getElem_cons h,List.take_append_drop]
theorem bC {l:List HuM} {n:ByteArray} (h:¬ findF l n < 0):∃ k, ∃ hk:k < l.length,findF l n = (k:Nat) ∧ (l[k]).name = n ∧ atF l n = l[k]:=by
  obtain ⟨k,hk,e,hn,_⟩:=xT (l:=l) (n:=n) (by omega)
  exact ⟨k,hk,e,hn,by simp only [atF,e,Int.toNat_natCast,List.getD_eq_getElem?_getD,List.getElem?_eq_getElem hk,Option.getD_some]⟩
theorem fI {l:List HuM} (h:OkS l) (c:ChM):doE l c = (aZ l c).2 ∧ ((aZ l c).2 = 0 → doL l c = (aZ l c).1 ∧ OkS (aZ l c).1):=by
  have hfr:∀ y ∈ l,y.first ≤ y.last:=fun y hy=>(h.part y hy).frames
  unfold doE aZ doL
  by_cases h1:c.what = 1
  · simp only [if_pos h1]
    by_cases h2:12 ≤ l.length
    · simp only [if_pos h2]
      exact ⟨trivial,fun e=>by simp at e⟩
    · simp only [if_neg h2]
      have:=vy l c.part l.length [] (by simpa using hfr)
      simp only [List.take_length,List.append_nil] at this
      exact ⟨this,fun e=>⟨trivial,(vZ h (by omega)).1 e⟩⟩
  simp only [if_neg h1]
  by_cases h2:findF l c.name < 0
  · simp only [if_pos h2]
    exact ⟨trivial,fun e=>by simp at e⟩
  simp only [if_neg h2]
  obtain ⟨k,hk,ek,hn,ha⟩:=bC h2
  simp only [ek,Int.toNat_natCast]
  have hsp:=yH hk
  by_cases h3:c.what = 2
  · simp only [if_pos h3]
    by_cases h4:gq l c.name = true
    · simp only [if_pos h4]
      exact ⟨trivial,fun e=>by simp at e⟩
    · simp only [if_neg h4]
      refine ⟨trivial,fun _=>⟨trivial, ?_⟩⟩
      rw [hsp] at h
      refine Da h fun x hx hin=>h4 ?_
      refine List.any_eq_true.2 ⟨x,List.mem_of_mem_drop hx, ?_⟩
      rw [ea, ← hn]; exact hin
  simp only [if_neg h3]
  have hcb:=vy l c.part k (l.drop (k + 1)) (fun y hy=>hfr y (List.mem_of_mem_take hy))
  rw [hcb]
  have hmt:(l.drop (k + 1)).any (fun y=>bF y c.name && !aP y c.part) = (l.drop (k + 1)).any (fun y=>bF y c.name && !dM y c.part) ∨ bn aP c.part (l.take k) (kh l k) ≠ 0:=by
    by_cases he:bn aP c.part (l.take k) (kh l k) = 0
    · left
      have hpf:=((o9 _ _ _).1 he).1.frames
      rw [Bool.eq_iff_iff,List.any_eq_true,List.any_eq_true]
      have e:∀ y ∈ l.drop (k + 1),dM y c.part = aP y c.part:=fun y hy=>Bm (hfr y (List.mem_of_mem_drop hy)) hpf
      constructor <;> rintro ⟨y,hy,h5⟩ <;> exact ⟨y,hy,by simpa [e y hy] using h5⟩
    · exact .inr he
  have hout:l.take k ++ l.drop (k + 1) = kh l k:=rfl
  rw [hout]
  by_cases he:bn aP c.part (l.take k) (kh l k) = 0
  · rw [he]
    simp only [ne_eq,not_true_eq_false,if_false]
    rcases hmt with hmt | hmt
    · rw [hmt]
      refine ⟨rfl,fun hz=>?_⟩
      have hno:¬ ((l.drop (k + 1)).any (fun y=>bF y c.name && !dM y c.part) = true):=fun e=>by rw [if_pos e] at hz; simp at hz
      have hno':∀ y ∈ l.drop (k + 1),c.name ∈ y.on → aP y c.part = true:=by
        intro y hy hin
        rcases tf (aP y c.part) with hm | hm
        · rw [← hmt] at hno
          exact absurd (List.any_eq_true.2 ⟨y,hy,by simp [hm,(ea y c.name).2 hin]⟩) hno
        · exact hm
      refine ⟨?_, ?_⟩
      · unfold eE
        rw [ha,hn]
        congr 2
        refine List.map_congr_left fun y hy=>?_
        unfold oO oM
        by_cases h5:bF y c.name = true
        · rw [if_pos h5,qH (h.part y (List.mem_of_mem_drop hy)).on]
        · rw [if_neg h5,tV (fun e=>h5 ((ea _ _).2 e))]
      · rw [hsp] at h
        unfold eE
        rw [ha]
        exact D7 h he (fun y hy hin=>hno' y hy (hn ▸ hin))
    · exact absurd he hmt
  · simp only [ne_eq,he,not_false_eq_true,if_true]
    exact ⟨trivial,fun e=>e.elim⟩
/-! ### plans -/
def fT (E:List HuM → ChM → Int) (L:List HuM → ChM → List HuM):List HuM → List ChM → Nat → Int → Int × Int × Int
  | _,[],_,_=>(0,0,0)
  | l,c :: r,i,last=>if aH last 40000 [c.day] = true then (2,i,7) else if fj c = false then (2,i,6) else if E l c ≠ 0 then (2,i,E l c) else fT E L (L l c) r (i + 1) c.day
def ic (l:List HuM) (c:ChM):List HuM:=(aZ l c).1
def eH (l:List HuM) (c:ChM):Int:=(aZ l c).2
def bL (p:ar):Int × Int × Int:=
  if (il aP p.ship).2.2 ≠ 0 then il aP p.ship else if 8 < p.chs.length then (2,0,3) else fT eH ic p.ship p.chs 0 0
def bT (p:ar):Int × Int × Int:=
  if (il aP p.ship).2.2 ≠ 0 then il aP p.ship else if 8 < p.chs.length then (2,0,3) else fT doE doL p.ship p.chs 0 0
theorem tO (all:List HuM):∀ (n i:Nat),all.length - i = n → i ≤ all.length → ((lN aP all (all.drop i) i).2.2 = 0 ↔ ∀ k (h:k < all.length),i ≤ k → bn aP all[k] (all.take k) (all.take k) = 0)
  | 0,i,hn,hi=>by
    rw [List.drop_eq_nil_of_le (by omega)]
    simp only [lN,true_iff]
    intro k hk h; omega
  | n + 1,i,hn,hi=>by
    have hlt:i < all.length:=by omega
    rw [List.drop_eq_getElem_cons hlt]
    simp only [lN]
    by_cases h:bn aP all[i] (all.take i) (all.take i) ≠ 0
    · rw [if_pos h]
      constructor
      · intro e; exact absurd e h
      · intro e; exact absurd (e i hlt (by omega)) h
    · rw [if_neg h,tO all n (i + 1) (by omega) (by omega)]
      constructor
      · intro e k hk hik
        rcases Nat.lt_or_ge i k with h1 | h1
        · exact e k hk h1
        · obtain rfl:i = k:=by omega
          exact Decidable.of_not_not h
      · intro e k hk hik; exact e k hk (by omega)
theorem mI (l:List HuM):(il aP l).2.2 = 0 ↔ OkS l:=by
  unfold il
  by_cases h:12 < l.length
  · rw [if_pos h]
    constructor
    · intro e; simp at e
    · intro e; have:=e.len; omega
  · rw [if_neg h, ← E8 l (by omega)]
    have:=tO l l.length 0 (by omega) (by omega)
    simp only [List.drop_zero] at this
    rw [this]
    exact ⟨fun e k hk=>e k hk (by omega),fun e k hk _=>e k hk⟩
theorem uf:∀ (cs:List ChM) {l:List HuM} (_:OkS l) (i:Nat) (last:Int),fT doE doL l cs i last = fT eH ic l cs i last
  | [],_,_,_,_=>rfl
  | c :: r,l,h,i,last=>by
    obtain ⟨h1,h2⟩:=fI h c
    have h1':doE l c = eH l c:=h1
    simp only [fT]
    rw [h1']
    by_cases hd:aH last 40000 [c.day] = true
    · rw [if_pos hd,if_pos hd]
    rw [if_neg hd,if_neg hd]
    by_cases hb:fj c = false
    · rw [if_pos hb,if_pos hb]
    rw [if_neg hb,if_neg hb]
    by_cases he:eH l c ≠ 0
    · rw [if_pos he,if_pos he]
    · rw [if_neg he,if_neg he]
      obtain ⟨h3,h4⟩:=h2 (Decidable.of_not_not he)
      rw [h3]
      exact uf r h4 (i + 1) c.day
theorem bA (p:ar):bT p = bL p:=by
  unfold bT bL
  by_cases h:(il aP p.ship).2.2 ≠ 0
  · rw [if_pos h,if_pos h]
  · rw [if_neg h,if_neg h]
    split
    · rfl
    · exact uf _ ((mI _).1 (Decidable.of_not_not h)) 0 0
/-! ### the ship on a day -/
def aM (day:Int):List HuM → List ChM → List HuM
  | l,[]=>l
  | l,c :: r=>aM day (if c.day ≤ day then ic l c else l) r
def fH (day:Int):List HuM → List HuM → List ChM → List HuM
  | now,_,[]=>now
  | now,l,c :: r=>fH day (if c.day ≤ day then doL l c else now) (doL l c) r
inductive Steps:List HuM → List ChM → Int → Prop
  | nil (l:List HuM) (last:Int):Steps l [] last
  | cons {l:List HuM} {c:ChM} {r:List ChM} {last:Int} (hd:last ≤ c.day) (hm:c.day ≤ 40000) (hb:fj c = true) (he:(aZ l c).2 = 0) (h:Steps (ic l c) r c.day):Steps l (c :: r) last
theorem qC:∀ (cs:List ChM) (l:List HuM) (i:Nat) (last:Int),(fT eH ic l cs i last).2.2 = 0 ↔ Steps l cs last
  | [],l,i,last=>by simp only [fT,true_iff]; exact .nil l last
  | c :: r,l,i,last=>by
    simp only [fT]
    have hbd:aH last 40000 [c.day] = true ↔ ¬ (last ≤ c.day ∧ c.day ≤ 40000):=by simp [aH,n4]; omega
    by_cases hd:aH last 40000 [c.day] = true
    · rw [if_pos hd]
      constructor
      · intro e; simp at e
      · intro e; cases e with
        | cons h1 h2 _ _ _=>exact absurd ⟨h1,h2⟩ (hbd.1 hd)
    rw [if_neg hd]
    have hd':last ≤ c.day ∧ c.day ≤ 40000:=Decidable.of_not_not fun e=>hd (hbd.2 e)
    by_cases hb:fj c = false
    · rw [if_pos hb]
      constructor
      · intro e; simp at e
      · intro e; cases e with
        | cons _ _ h3 _ _=>rw [hb] at h3; cases h3
    rw [if_neg hb]
    by_cases he:eH l c ≠ 0
    · rw [if_pos he]
      constructor
      · intro e; exact absurd e he
      · intro e; cases e with
        | cons _ _ _ h4 _=>exact absurd h4 he
    · rw [if_neg he,qC r _ (i + 1) c.day]
      constructor
      · intro e; exact .cons hd'.1 hd'.2 (by simpa using hb) (Decidable.of_not_not he) e
      · intro e; cases e with
        | cons _ _ _ _ h5=>exact h5
structure OkP (p:ar):Prop where
  ship:OkS p.ship
  many:p.chs.length ≤ 8
  steps:Steps p.ship p.chs 0
theorem cF (p:ar):(bL p).2.2 = 0 ↔ OkP p:=by
  unfold bL
  by_cases h:(il aP p.ship).2.2 ≠ 0
  · rw [if_pos h]
    exact ⟨fun e=>absurd e h,fun e=>absurd ((mI _).2 e.ship) h⟩
  rw [if_neg h]
  have hs:=(mI _).1 (Decidable.of_not_not h)
  by_cases h2:8 < p.chs.length
  · rw [if_pos h2]
    exact ⟨fun e=>by simp at e,fun e=>by have:=e.many; omega⟩
  rw [if_neg h2,qC]
  exact ⟨fun e=>⟨hs,by omega,e⟩,fun e=>e.steps⟩
theorem cM:∀ {cs:List ChM} {l:List HuM} {last:Int},OkS l → Steps l cs last → ∀ day,OkS (aM day l cs)
  | [],_,_,h,_,_=>h
  | c :: r,l,last,h,hs,day=>by
    cases hs with
    | cons h1 h2 h3 h4 h5=>
    simp only [aM]
    by_cases hd:c.day ≤ day
    · rw [if_pos hd]; exact cM ((fI h c).2 h4).2 h5 day
    · rw [if_neg hd]
      have key:∀ (r:List ChM) (l2:List HuM) (last:Int),day < last → Steps l2 r last → aM day l r = l:=by
        intro r
        induction r with
        | nil=>intros; rfl
        | cons e r ih=>
          intro l2 last hlt hst
          cases hst with
          | cons g1 g2 g3 g4 g5=>
            simp only [aM]
            rw [if_neg (by omega)]
            exact ih _ _ (by omega) g5
      rw [key r _ _ (by omega) h5]; exact h
theorem kG (day:Int):∀ (r:List ChM) (now l2:List HuM) (last:Int),day < last → Steps l2 r last → aM day now r = now
  | [],_,_,_,_,_=>rfl
  | e :: r,now,l2,last,hlt,hst=>by
    cases hst with
    | cons g1 g2 g3 g4 g5=>
      simp only [aM]
      rw [if_neg (by omega)]
      exact kG day r now _ _ (by omega) g5
theorem ve (day:Int):∀ (r:List ChM) (now l2:List HuM) (last:Int),OkS l2 → day < last → Steps l2 r last → fH day now l2 r = now
  | [],_,_,_,_,_,_=>rfl
  | e :: r,now,l2,last,hok,hlt,hst=>by
    cases hst with
    | cons g1 g2 g3 g4 g5=>
      simp only [fH]
      rw [if_neg (by omega)]
      obtain ⟨h1,h2⟩:=(fI hok e).2 g4
      rw [h1]
      exact ve day r now _ _ h2 (by omega) g5
theorem dF (day:Int):∀ (cs:List ChM) (l:List HuM) (last:Int),OkS l → Steps l cs last → fH day l l cs = aM day l cs
  | [],_,_,_,_=>rfl
  | c :: r,l,last,h,hs=>by
    cases hs with
    | cons h1 h2 h3 h4 h5=>
    obtain ⟨e1,e2⟩:=(fI h c).2 h4
    simp only [fH,aM]
    rw [e1]
    by_cases hd:c.day ≤ day
    · rw [if_pos hd,if_pos hd]
      exact dF day r _ _ e2 h5
    · rw [if_neg hd,if_neg hd,ve day r _ _ _ e2 (by omega) h5,kG day r l _ _ (by omega) h5]
end Go.AM
