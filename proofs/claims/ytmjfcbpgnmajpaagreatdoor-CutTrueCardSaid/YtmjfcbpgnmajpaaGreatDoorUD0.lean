/- What is left of a hull is a hull, and stands in any truth. The plain law. -/
import Derived.Test.YtmjfcbpgnmajpaaGreatDoorP25
import Derived.Test.YtmjfcbpgnmajpaaGreatDoorP15
namespace Go.AM
open Go.Proofs
set_option maxRecDepth 100000
set_option maxHeartbeats 1000000
def de {α : Type} : List α → Nat → Nat → List α
  | [],_,_ => []
  | p :: r,s,i => if s.testBit i then p :: de r s (i + 1) else de r s (i + 1)
theorem gG : ∀ (l : List aq) (s i : Nat),eT l s i = de l s i
  | [],_,_ => rfl
  | p :: r,s,i => by simp only [eT,de,gG r]
theorem yn {α : Type} : ∀ (a b : List α) (s i : Nat),de (a ++ b) s i = de a s i ++ de b s (i + a.length)
  | [],b,s,i => by simp [de]
  | p :: r,b,s,i => by
    have e : i + (r.length + 1) = i + 1 + r.length := by omega
    simp only [List.cons_append,de,yn r b,List.length_cons,e]
    split <;> simp
theorem pB {α : Type} {l : List α} {s i : Nat} (hi : i < l.length) : de (l.take (i + 1)) s 0 = de (l.take i) s 0 ++ (if s.testBit i then [l[i]] else []) := by
  rw [List.take_add_one,List.getElem?_eq_getElem hi,Option.toList_some,yn,List.length_take,Nat.min_eq_left (by omega),Nat.zero_add]
  simp only [de]
theorem kO {α : Type} : ∀ {l : List α} {s i : Nat},(de l s i).length ≤ l.length
  | [],_,_ => by simp [de]
  | p :: r,s,i => by
    have := kO (l := r) (s := s) (i := i + 1)
    rw [de]
    split
    · rw [List.length_cons,List.length_cons]; omega
    · rw [List.length_cons]; omega
theorem fF {α β : Type} : ∀ {a : List α} {b : List β} {s i : Nat},a.length = b.length → (de a s i).length = (de b s i).length
  | [],[],_,_,_ => rfl
  | x :: a,y :: b,s,i,h => by
    have := fF (a := a) (b := b) (s := s) (i := i + 1) (by simpa using h)
    simp only [de]
    split
    · rw [List.length_cons,List.length_cons,this]
    · exact this
  | [],_ :: _,_,_,h => by simp at h
  | _ :: _,[],_,_,h => by simp at h
theorem sC {α : Type} : ∀ {l : List α} {s i : Nat},(de l s i).Sublist l
  | [],_,_ => List.Sublist.refl _
  | p :: r,s,i => by
    rw [de]
    split
    · exact (sC (l := r)).cons_cons _
    · exact (sC (l := r)).cons _
theorem AN {α : Type} : ∀ {l : List α} {s i j : Nat},i ≤ j → j - i < l.length → s.testBit j = true → de l s i ≠ []
  | [],_,_,_,_,h,_ => by simp at h
  | p :: r,s,i,j,h1,h2,h3 => by
    rw [de]
    split
    · simp
    · rename_i hb
      have : i ≠ j := by rintro rfl; exact hb h3
      exact AN (l := r) (i := i + 1) (j := j) (by omega) (by simp only [List.length_cons] at h2; omega) h3
theorem sN {α β : Type} {R : α → β → Prop} : ∀ {a : List α} {b : List β} {s i : Nat},(∀ (k : Nat) (h1 : k < a.length) (h2 : k < b.length),R a[k] b[k]) → ∀ (k : Nat) (h1 : k < (de a s i).length) (h2 : k < (de b s i).length),R (de a s i)[k] (de b s i)[k]
  | [],b,s,i,_,k,h1,_ => by simp [de] at h1
  | x :: a,[],s,i,_,k,_,h2 => by simp [de] at h2
  | x :: a,y :: b,s,i,h,k,h1,h2 => by
    have ih := sN (R := R) (a := a) (b := b) (s := s) (i := i + 1) (fun k g1 g2 => by
      have := h (k + 1) (by simpa using g1) (by simpa using g2)
      simp only [List.getElem_cons_succ] at this
      exact this)
    have h0 := h 0 (by simp) (by simp)
    simp only [de] at h1 h2 ⊢
    split at h1
    · rename_i hb
      simp only [hb,if_true] at h2 ⊢
      cases k with
      | zero => simpa using h0
      | succ k => simpa using ih k (by simpa using h1) (by simpa using h2)
    · rename_i hb
      simp only [if_neg hb] at h2 ⊢
      exact ih k h1 h2
def JB (p : aq) : Prop := dw p.name ≠ false ∧ fo p = 0
def Dd (y x : aq) : Prop := y.name.toList ≠ x.name.toList
theorem ng : ∀ {r pre : List aq},(fa (pre ++ r) r pre.length).2.2 = 0 ↔ (∀ p ∈ r,JB p) ∧ r.Pairwise Dd ∧ ∀ p ∈ r, ∀ y ∈ pre,Dd y p
  | [],pre => by simp [fa]
  | x :: r,pre => by
    have ih := ng (r := r) (pre := pre ++ [x])
    rw [List.append_assoc,List.length_append,List.length_singleton,List.singleton_append] at ih
    rw [fa]
    have htk : (pre ++ x :: r).take pre.length = pre := by simp
    rw [htk]
    by_cases h1 : dw x.name = false
    · rw [if_pos h1]
      constructor
      · intro h; simp at h
      · intro h; exact absurd h1 (h.1 x (by simp)).1
    rw [if_neg h1]
    by_cases h2 : pre.any (fun y => y.name.toList == x.name.toList) = true
    · rw [if_pos h2]
      constructor
      · intro h; simp at h
      · intro h
        obtain ⟨y,hy,e⟩ := List.any_eq_true.1 h2
        exact absurd (by simpa using e) (h.2.2 x (by simp) y hy)
    rw [if_neg h2]
    by_cases h3 : fo x = 0
    · rw [if_neg (by simp [h3]),ih]
      constructor
      · rintro ⟨g1,g2,g3⟩
        refine ⟨fun p hp => ?_,List.pairwise_cons.2 ⟨fun p hp => g3 p hp x (by simp),g2⟩,fun p hp y hy => ?_⟩
        · rcases List.mem_cons.1 hp with rfl | hp
          · exact ⟨h1,h3⟩
          · exact g1 p hp
        · rcases List.mem_cons.1 hp with rfl | hp
          · intro e
            exact h2 (List.any_eq_true.2 ⟨y,hy,by simpa using e⟩)
          · exact g3 p hp y (by simp [hy])
      · rintro ⟨g1,g2,g3⟩
        obtain ⟨k1,k2⟩ := List.pairwise_cons.1 g2
        refine ⟨fun p hp => g1 p (by simp [hp]),k2,fun p hp y hy => ?_⟩
        rcases List.mem_append.1 hy with hy | hy
        · exact g3 p (by simp [hp]) y hy
        · rw [List.mem_singleton] at hy
          subst hy; exact k1 p hp
    · rw [if_pos (by simpa using h3)]
      constructor
      · intro h; exact absurd h h3
      · intro h; exact absurd (h.1 x (by simp)).2 h3
theorem H4 {h : aB} (he : eF h = 0) {ps : List aq} (hs : ps.Sublist h.ps) (hne : ps ≠ []) : eF { h with ps := ps } = 0 := by
  unfold eF dk at he ⊢
  split at he
  · cases he
  rename_i h1
  split at he
  · cases he
  rename_i h2
  split at he
  · cases he
  rename_i h3
  have hl := hs.length_le
  have hp := List.length_pos_iff.2 hne
  show (if aW 1 10 [(ps.length : Int)] then (1,0,3) else if aW 0 5000 [h.aft,h.fore] then (1,0,7) else if h.fore ≤ h.aft then (1,0,2) else fa ps ps 0 : Int × Int × Int).2.2 = 0
  rw [if_neg,if_neg h2,if_neg h3]
  · have g := (ng (r := h.ps) (pre := [])).1 he
    exact (ng (r := ps) (pre := [])).2 ⟨fun p hp => g.1 p (hs.mem hp),g.2.1.sublist hs,fun _ _ _ hy => absurd hy (by simp)⟩
  · simp [aW,gA] at h1 ⊢
    omega
def fe (t : bh) (s : Nat) : bh := { ws := de t.ws s 0,ls := de t.ls s 0 }
theorem BL {t : ah} {tr : bh} (ht : mK t.hull tr) (s : Nat) : mK (bL t s) (fe tr s) where
  lw := by simp only [bL,fe,gG]; exact fF ht.lw
  ll := by simp only [bL,fe,gG]; exact fF ht.ll
  w := fun i hi => by
    have := sN (R := fun (p : aq) (w : Int) => p.wLo ≤ w ∧ w ≤ p.wHi) (a := t.hull.ps) (b := tr.ws) (s := s) (i := 0) (fun k h1 h2 => ht.w k h1)
    simp only [bL,fe,gG] at hi ⊢
    exact this i hi (by rw [fF ht.lw]; exact hi)
  l := fun i hi => by
    have := sN (R := fun (p : aq) (w : Int) => p.lLo ≤ w ∧ w ≤ p.lHi) (a := t.hull.ps) (b := tr.ls) (s := s) (i := 0) (fun k h1 h2 => ht.l k h1)
    simp only [bL,fe,gG] at hi ⊢
    exact this i hi (by rw [fF ht.ll]; exact hi)
theorem u9 {t : ah} (hf : t.Fit) : bc (t.lo,t.hi) 0 1000 = 0 := by
  have h2 := hf.why
  unfold gi at h2
  rw [if_neg (by simp [hf.err])] at h2
  split at h2
  · rename_i h1; exact absurd h2 h1
  · rename_i h1; simpa using h1
theorem wT {t : ah} (hf : t.Fit) {s : Nat} (hs : Sub t s) (hfa : eD t s = false) (h0 : s ≠ 0) {tr : bh} (ht : mK t.hull tr) {w : Int} (hw1 : t.lo ≤ w) (hw2 : w ≤ t.hi) :
    kB (dD (bL t s) (fe tr s) w).1 (dD (bL t s) (fe tr s) w).2.1 (dD (bL t s) (fe tr s) w).2.2 = 0 := by
  have h128 := hs.lt hf
  have hne : eT t.hull.ps s 0 ≠ [] := by
    rw [gG]
    have : ∃ j,s.testBit j = true := by
      apply Classical.byContradiction
      intro hn
      apply h0
      apply Nat.eq_of_testBit_eq
      intro j
      rw [Nat.zero_testBit]
      cases hb : s.testBit j
      · rfl
      · exact absurd ⟨j,hb⟩ hn
    obtain ⟨j,hj⟩ := this
    have := hs j hj
    exact AN (j := j) (by omega) (by have := hf.hull; omega) hj
  have he : eF (bL t s) = 0 := H4 hf.err (by rw [gG]; exact sC) hne
  have hsp := u9 hf
  have hfi := rn he
  have hz : eU (bL t s) w = 0 := by
    have hl : k6 t s = 0 := by
      unfold eD at hfa
      simp [h0] at hfa
      exact hfa
    unfold k6 gi at hl
    rw [if_neg (by simp [he]),if_neg (by simp [hsp])] at hl
    simp only at hl
    unfold iD at hl
    rcases om (bL t s) t.lo (t.hi - t.lo + 1).toNat with ⟨e,g⟩ | ⟨w0,g1,g2,g3,_,e⟩
    · exact g w hw1 (by omega)
    · rw [e] at hl; exact absurd hl g3
  obtain ⟨b1,b2,b3⟩ := dU hsp
  have htl := BL ht s
  have e0 := ly hfi htl (by omega : w ≤ 1000) 0
  have e1 := ly hfi htl (by omega : w ≤ 1000) 1
  have e2 := ly hfi htl (by omega : w ≤ 1000) 2
  obtain ⟨s0,s1,s2⟩ := pW.1 hz
  rw [lY,pW]
  simp only
  rw [Cf hfi htl (by omega) (by omega) 0,Cf hfi htl (by omega) (by omega) 1,Cf hfi htl (by omega) (by omega) 2]
  omega
end Go.AM
