/- StandBalances: the call returns true, for any hull, truth and height of water. Tide: of the program and of the document; StandTides: the call returns true, for any hull, tide and height of water. -/
import Derived.Test.YtmgbkmobhjjkiaaA20
import Derived.Test.YtmgbkmobhjjkiaaP4
import Derived.Test.YtmgbkmobhjjkiaaP6
namespace Go.AM
open Go.Proofs
set_option maxRecDepth 100000
set_option maxHeartbeats 1000000

theorem shaped_int {t : Nat} {us : List AVal} {k : Nat} (h : Shaped Try.prog (k + 1) t us) (hu : tyInt Try.prog t = some .i64) : ∃ n, us = [ii' n] := by
  obtain ⟨n, h1, _⟩ := h.int hu
  exact ⟨n, h1⟩

theorem ty24 : tyFs Try.prog 24 = some [22, 3, 3] := by kernel_rfl
theorem ty77 : tyFs Try.prog 77 = some [9, 3, 39, 3, 39] := by kernel_rfl
theorem ty39 : tyFs Try.prog 39 = some [3, 3] := by kernel_rfl
theorem ty27 : tyFs Try.prog 27 = some [25, 25] := by kernel_rfl
theorem ty22 : tySl Try.prog 22 = some (77, 7, true) := by kernel_rfl
theorem ty25 : tySl Try.prog 25 = some (3, 1, false) := by kernel_rfl
theorem ty3 : tyInt Try.prog 3 = some .i64 := by kernel_rfl
theorem ty9 : tyStr Try.prog 9 = true := by kernel_rfl

theorem shaped_span {k : Nat} {us : List AVal} (h : Shaped Try.prog (k + 2) 39 us) : ∃ a b, us = [ii' a, ii' b] := by
  obtain ⟨a, r, rfl, h1, b, r2, rfl, h2, rfl⟩ := h.fs ty39
  obtain ⟨x, rfl⟩ := shaped_int h1 ty3
  obtain ⟨y, rfl⟩ := shaped_int h2 ty3
  exact ⟨x, y, rfl⟩

theorem shaped_part {k : Nat} {us : List AVal} (h : Shaped Try.prog (k + 3) 77 us) : ∃ p : PartM, us = p.cells := by
  obtain ⟨a, r, rfl, h1, b, r2, rfl, h2, c, r3, rfl, h3, d, r4, rfl, h4, e, r5, rfl, h5, rfl⟩ := h.fs ty77
  obtain ⟨s, rfl, _⟩ := h1.str ty9
  obtain ⟨x, rfl⟩ := shaped_int h2 ty3
  obtain ⟨w1, w2, rfl⟩ := shaped_span h3
  obtain ⟨y, rfl⟩ := shaped_int h4 ty3
  obtain ⟨l1, l2, rfl⟩ := shaped_span h5
  exact ⟨⟨s, x, w1, w2, y, l1, l2⟩, rfl⟩

theorem shaped_hull {us : List AVal} (h : Shaped Try.prog 5 24 us) : ∃ m : HullM, us = m.cells ∧ m.ps.length ≤ maxLen := by
  obtain ⟨a, r, rfl, h1, b, r2, rfl, h2, c, r3, rfl, h3, rfl⟩ := h.fs ty24
  obtain ⟨xs, rfl, hl, hx⟩ := h1.sl ty22
  obtain ⟨x, rfl⟩ := shaped_int h2 ty3
  obtain ⟨y, rfl⟩ := shaped_int h3 ty3
  obtain ⟨ps, rfl, _⟩ := list_of (f := PartM.v) (p := fun _ => True) (xs := xs) fun v hv => by
    obtain ⟨cs, g1, g2⟩ := hx v hv
    obtain ⟨p, rfl⟩ := shaped_part g1
    exact ⟨p, g2, trivial⟩
  exact ⟨⟨ps, x, y⟩, rfl, by simpa using hl⟩

theorem shaped_ints {k : Nat} {us : List AVal} (h : Shaped Try.prog (k + 2) 25 us) : ∃ l : List Int, us = [.slice 1 (l.map ii')] := by
  obtain ⟨xs, rfl, hl, hx⟩ := h.sl ty25
  obtain ⟨l, rfl, _⟩ := list_of (f := ii') (p := fun _ => True) (xs := xs) fun v hv => by
    obtain ⟨cs, g1, g2⟩ := hx v hv
    obtain ⟨n, rfl⟩ := shaped_int g1 ty3
    exact ⟨n, g2, trivial⟩
  exact ⟨l, rfl⟩

theorem shaped_truth {us : List AVal} (h : Shaped Try.prog 5 27 us) : ∃ t : TruthM, us = [.slice 1 (t.ws.map ii'), .slice 1 (t.ls.map ii')] := by
  obtain ⟨a, r, rfl, h1, b, r2, rfl, h2, rfl⟩ := h.fs ty27
  obtain ⟨l, rfl⟩ := shaped_ints h1
  obtain ⟨m, rfl⟩ := shaped_ints h2
  exact ⟨⟨l, m⟩, rfl⟩

theorem balances_spec (h : HullM) (t : TruthM) (hl : h.ps.length ≤ maxLen) (water : Int) (awake_spec : ∀ σ, Spec Try.prog F_l05_Awake [] σ fun r σ' => r = .ret (.bool true) ∧ σ' = σ) : Spec Try.prog F_l05_StandBalances [h.v, t.v, ii' water] [] fun r _ => r = .ret (.bool true) := by
  have hS : ∃ a b c, (if wetE (truthE h t) water = 0 then sumsV (inS h t water 0) (inS h t water 1) (inS h t water 2) else sumsV 0 0 0) = AVal.agg [ii' a, ii' b, ii' c] ∧ balV (if wetE (truthR h t) water = 0 then weighR h t water else (0, 0, 0)) = AVal.agg [ii' a, ii' b, ii' c] := by
    rw [← truth_eq, weighR_eq]
    by_cases hz : wetE (truthE h t) water = 0
    · exact ⟨_, _, _, if_pos hz, by rw [if_pos hz]; rfl⟩
    · exact ⟨_, _, _, if_neg hz, by rw [if_neg hz]; rfl⟩
  have hT : ∃ a b c, (if wetE (eF h) water = 0 then sumsV (leastS h water 0) (leastS h water 1) (leastS h water 2) else sumsV 0 0 0) = AVal.agg [ii' a, ii' b, ii' c] ∧ balV (if wetE (eR h) water = 0 then smallR h water else (0, 0, 0)) = AVal.agg [ii' a, ii' b, ii' c] := by
    rw [← eF_eq]
    by_cases hz : wetE (eF h) water = 0
    · have he : eF h = 0 := (wetE_zero hz).1
      exact ⟨_, _, _, if_pos hz, by rw [if_pos hz, small_eq h (bounds_of h he)]; rfl⟩
    · exact ⟨_, _, _, if_neg hz, by rw [if_neg hz]; rfl⟩
  obtain ⟨a, b, c, e1, e2⟩ := hS
  obtain ⟨a', b', c', e3, e4⟩ := hT
  refine spec_l05_StandBalances (by simp) (awpC_sound _ ?_)
  simp [C_l05_StandBalances, HullM.v, HullM.cells, TruthM.v]
  refine CallK.pure B_stand_Check (stand_Check_spec h hl _) ?_
  simp [tripV]
  refine CallK.pureE B_r05_Check (r05_Check_spec h hl _) (show tripR (checkR h) = .tup [ii' (checkF h).1, ii' (checkF h).2.1, ii' (checkF h).2.2] by rw [← check_eq]; rfl) ?_
  simp [tripV]
  refine CallK.pureE B_stand_Balance (stand_Balance_spec h t hl water _) (congrArg (fun x => AVal.tup [x, ii' (wetE (truthE h t) water)]) e1) ?_
  simp
  refine CallK.pureE B_r05_Balance (r05_Balance_spec h t hl water _) (show _ = AVal.tup [.agg [ii' a, ii' b, ii' c], ii' (wetE (truthE h t) water)] by rw [e2, ← truth_eq]) ?_
  simp
  refine CallK.pureE B_stand_Least (stand_Least_spec h hl water _) (congrArg (fun x => AVal.tup [x, ii' (wetE (eF h) water)]) e3) ?_
  simp
  refine CallK.pureE B_r05_Least (r05_Least_spec h hl water _) (show _ = AVal.tup [.agg [ii' a', ii' b', ii' c'], ii' (wetE (eF h) water)] by rw [e4, ← eF_eq]) ?_
  simp
  exact CallK.pure B_l05_Awake (awake_spec _) (by simp)
end Go.AM

namespace Go.AM
open Go.Proofs
set_option maxRecDepth 100000
set_option maxHeartbeats 1000000

def tideR (h : HullM) : Int × Int :=
  if eF h ≠ 0 then (0, eF h) else if (firstR h 0 1000).1 = 0 then (1000, 0) else if (firstR h 0 1000).2 = 0 then (0, 9) else ((firstR h 0 1000).2 - 1, 0)
def pairV (x : Int × Int) : AVal := .tup [ii' x.1, ii' x.2]

theorem firstR_range (h : HullM) (lo hi : Int) (h0 : 0 ≤ lo) (h1 : hi ≤ 1000) : 0 ≤ (firstR h lo hi).2 ∧ (firstR h lo hi).2 ≤ 1000 := by
  unfold firstR
  rcases firstN_cases h lo (hi - lo + 1).toNat with ⟨e, _⟩ | ⟨w0, g1, g2, _, _, e⟩
  · rw [e]; decide
  · rw [e]; simp only; omega

theorem stand_Tide_spec (h : HullM) (hl : h.ps.length ≤ maxLen) (σ : AHeap) : Spec Try.prog F_stand_Tide [h.v] σ fun r σ' => r = .ret (pairV (tideR h)) ∧ σ' = σ := by
  refine Spec.pureFn (spec_stand_Tide (by simp) (awpC_sound _ ?_)) (by simp [h.pure]) rfl σ
  simp [C_stand_Tide, HullM.v, HullM.cells]
  refine CallK.pure B_stand_Check (stand_Check_spec h hl _) ?_
  refine (Classical.em (eF h = 0)).elim (fun he => ?_) (fun he => ?_)
  rotate_left
  · have he' : ¬ (checkF h).2.2 = 0 := he
    simp [tripV, he', tideR, he, pairV]
    rfl
  have he' : (checkF h).2.2 = 0 := he
  simp [tripV, he']
  refine CallK.pure B_stand_body_first (stand_first_spec h (fine_of he) 0 1000 (by decide) (by decide) (by decide) _) ?_
  have hr := firstR_range h 0 1000 (by decide) (by decide)
  have ht : tideR h = if (firstR h 0 1000).1 = 0 then (1000, 0) else if (firstR h 0 1000).2 = 0 then (0, 9) else ((firstR h 0 1000).2 - 1, 0) := by simp [tideR, he]
  rw [ht]
  obtain ⟨f, hf⟩ : ∃ f, firstR h 0 1000 = f := ⟨_, rfl⟩
  rw [hf] at hr ⊢
  have hw : IntKind.i64.wrap (f.2 - 1) = f.2 - 1 := wrap_id (by omega) (by omega)
  refine (Classical.em (f.1 = 0)).elim (fun h1 => ?_) (fun h1 => ?_)
  · simp [h1, pairV]
  refine (Classical.em (f.2 = 0)).elim (fun h2 => ?_) (fun h2 => ?_)
  · simp [h1, h2, pairV]
  · simp [h1, h2, hw, pairV]

theorem r05_Tide_spec (h : HullM) (hl : h.ps.length ≤ maxLen) (σ : AHeap) : Spec Try.prog F_r05_Tide [h.v] σ fun r σ' => r = .ret (pairV (tideR h)) ∧ σ' = σ := by
  refine Spec.pureFn (spec_r05_Tide (by simp) (awpC_sound _ ?_)) (by simp [h.pure]) rfl σ
  simp [C_r05_Tide, HullM.v, HullM.cells]
  refine CallK.pureE B_r05_Check (r05_Check_spec h hl _) (show tripR (checkR h) = .tup [ii' (checkF h).1, ii' (checkF h).2.1, ii' (eF h)] by rw [← check_eq]; rfl) ?_
  refine (Classical.em (eF h = 0)).elim (fun he => ?_) (fun he => ?_)
  rotate_left
  · simp [tideR, he, pairV]
  simp [he]
  refine CallK.pure B_r05_first (r05_first_spec h (fine_of he) 0 1000 (by decide) (by decide) _) ?_
  have hr := firstR_range h 0 1000 (by decide) (by decide)
  have ht : tideR h = if (firstR h 0 1000).1 = 0 then (1000, 0) else if (firstR h 0 1000).2 = 0 then (0, 9) else ((firstR h 0 1000).2 - 1, 0) := by simp [tideR, he]
  rw [ht]
  obtain ⟨f, hf⟩ : ∃ f, firstR h 0 1000 = f := ⟨_, rfl⟩
  rw [hf] at hr ⊢
  have hw : IntKind.i64.wrap (f.2 - 1) = f.2 - 1 := wrap_id (by omega) (by omega)
  refine (Classical.em (f.1 = 0)).elim (fun h1 => ?_) (fun h1 => ?_)
  · simp [h1, pairV]
  refine (Classical.em (f.2 = 0)).elim (fun h2 => ?_) (fun h2 => ?_)
  · simp [h1, h2, pairV]
  · simp [h1, h2, hw, pairV]

theorem r01_Ints_spec (l : List Int) (hl : l.length ≤ maxLen) (σ : AHeap) : Spec Try.prog F_r01_Ints [.slice 1 (l.map ii'), .slice 1 (l.map ii')] σ fun r σ' => r = .ret (.bool true) ∧ σ' = σ := by
  refine Spec.pureFn (spec_r01_Ints (by simp) (awpC_sound _ ?_)) (by simp [pures_map (f := ii') (fun _ => rfl) l]) rfl σ
  simp [C_r01_Ints]
  refine AW.loop (ι := Nat) (fun i fr σ => fr = { v := [(0, .slice 1 (l.map ii')), (1, .slice 1 (l.map ii')), (5, .bool true), (6, .int .i64 i)], ds := [] } ∧ i ≤ l.length) (fun i => l.length - i) 0 (by simp) ?_
  rintro i fr σ ⟨rfl, hi⟩
  refine (Nat.lt_or_ge i l.length).elim (fun hlt => ?_) (fun hge => ?_)
  · obtain ⟨x, hx⟩ : ∃ x, l[i] = x := ⟨_, rfl⟩
    refine awpC_sound _ ?_
    simp [hlt, hx]
    exact ⟨i + 1, by omega, wrap_id (by omega) (by simp only [maxLen] at hl; omega), by omega⟩
  · have hnl : ¬ i < l.length := by omega
    refine awpC_sound _ ?_
    simp [hnl]

theorem r05_Same_spec (t : TruthM) (h1 : t.ws.length ≤ maxLen) (h2 : t.ls.length ≤ maxLen) (σ : AHeap) : Spec Try.prog F_r05_Same [t.v, t.v] σ fun r σ' => r = .ret (.bool true) ∧ σ' = σ := by
  refine Spec.pureFn (spec_r05_Same (by simp) (awpC_sound _ ?_)) (by simp [t.pure]) rfl σ
  simp [C_r05_Same, TruthM.v]
  refine CallK.pure B_r01_Ints (r01_Ints_spec _ h1 _) ?_
  simp
  refine CallK.pure B_r01_Ints (r01_Ints_spec _ h2 _) ?_
  simp

theorem showR_len (h : HullM) (w : Int) (hl : h.ps.length ≤ maxLen) : (showR h w).1.ws.length ≤ maxLen ∧ (showR h w).1.ls.length ≤ maxLen := by
  unfold showR
  split
  · simp
  · simp [shownT]; exact hl

theorem tides_spec (h : HullM) (hl : h.ps.length ≤ maxLen) (lo hi w : Int) (awake_spec : ∀ σ, Spec Try.prog F_l05_Awake [] σ fun r σ' => r = .ret (.bool true) ∧ σ' = σ) :
    Spec Try.prog F_l05_StandTides [h.v, tideV lo hi, ii' w] [] fun r _ => r = .ret (.bool true) := by
  refine spec_l05_StandTides (by simp) (awpC_sound _ ?_)
  simp [C_l05_StandTides, HullM.v, HullM.cells, tideV]
  refine CallK.pure B_stand_Why (stand_Why_spec h hl lo hi _) ?_
  simp [tripV]
  refine CallK.pure B_r05_Why (r05_Why_spec h hl lo hi _) ?_
  simp [tripV]
  refine CallK.pure B_stand_Show (stand_Show_spec h hl w _) ?_
  simp [showV, TruthM.v]
  refine CallK.pure B_r05_Show (r05_Show_spec h hl w _) ?_
  simp [showV, TruthM.v]
  refine CallK.pure B_r05_Same (r05_Same_spec _ (showR_len h w hl).1 (showR_len h w hl).2 _) ?_
  simp [showV, TruthM.v]
  refine CallK.pure B_stand_Tide (stand_Tide_spec h hl _) ?_
  simp [pairV]
  refine CallK.pure B_r05_Tide (r05_Tide_spec h hl _) ?_
  simp [pairV]
  exact CallK.pure B_l05_Awake (awake_spec _) (by simp [pairV])
end Go.AM
