/- StandWater: the call returns true. -/
import Derived.Test.YtmgbkmobhjjkiaaP8
namespace Go.AM
open Go.Proofs
set_option maxRecDepth 100000
set_option maxHeartbeats 1000000

theorem whyR_none {h : HullM} (he : eF h = 0) {lo hi : Int} (ht : 0 ≤ lo ∧ lo ≤ hi ∧ hi ≤ 1000) (hall : ∀ w, lo ≤ w → w ≤ hi → whyZ h w = 0) : whyR h lo hi = (0, 0, 0) := by
  rw [whyR_ok he ht.1 ht.2.1 ht.2.2, show firstR h lo hi = (0, 0) from firstN_none _ _ fun w g1 g2 => hall w g1 (by omega)]
theorem whyR_at {h : HullM} (he : eF h = 0) {w : Int} (h0 : 0 ≤ w) (h1 : w ≤ 1000) (hz : whyZ h w ≠ 0) : whyR h w w = (whyZ h w, w, 0) := by
  rw [whyR_ok he h0 (Int.le_refl _) h1, show firstR h w w = (whyZ h w, w) from firstN_some _ _ w (Int.le_refl _) (by omega) hz fun v g1 g2 => by omega]

theorem tide_cases {h : HullM} (he : eF h = 0) : (tideR h = (1000, 0) ∧ ∀ w, 0 ≤ w → w ≤ 1000 → whyZ h w = 0) ∨ (tideR h = (0, 9) ∧ whyZ h 0 ≠ 0) ∨
    ∃ w0, 0 < w0 ∧ w0 ≤ 1000 ∧ tideR h = (w0 - 1, 0) ∧ whyZ h w0 ≠ 0 ∧ ∀ w, 0 ≤ w → w < w0 → whyZ h w = 0 := by
  have ht : tideR h = if (firstR h 0 1000).1 = 0 then (1000, 0) else if (firstR h 0 1000).2 = 0 then (0, 9) else ((firstR h 0 1000).2 - 1, 0) := by simp [tideR, he]
  rcases firstN_cases h 0 (1000 - 0 + 1 : Int).toNat with ⟨e, hall⟩ | ⟨w0, g1, g2, g3, g4, e⟩
  · left
    have hfi : firstR h 0 1000 = (0, 0) := e
    rw [hfi] at ht
    exact ⟨by simpa using ht, fun w k1 k2 => hall w k1 (by omega)⟩
  · right
    have hfi : firstR h 0 1000 = (whyZ h w0, w0) := e
    rw [hfi] at ht
    simp only [g3, if_false] at ht
    by_cases h0 : w0 = 0
    · left
      subst h0
      exact ⟨by simpa using ht, g3⟩
    · right
      rw [if_neg h0] at ht
      exact ⟨w0, by omega, by omega, ht, g3, g4⟩

theorem stand_Tide_at {h : HullM} (hl : h.ps.length ≤ maxLen) {a b : Int} (hw : tideR h = (a, b)) (σ : AHeap) : Spec Try.prog F_stand_Tide [h.v] σ fun r σ' => r = .ret (.tup [ii' a, ii' b]) ∧ σ' = σ := by
  have := stand_Tide_spec h hl σ
  rw [hw] at this
  exact this

theorem water_spec (h : HullM) (hl : h.ps.length ≤ maxLen) (a b : Int) (ha : 0 ≤ a ∧ a ≤ 65535) (hb : 0 ≤ b ∧ b ≤ 65535) (awake_spec : ∀ σ, Spec Try.prog F_l05_Awake [] σ fun r σ' => r = .ret (.bool true) ∧ σ' = σ) :
    Spec Try.prog F_l05_StandWater [h.v, .agg [hh a, hh b]] [] fun r _ => r = .ret (.bool true) := by
  have hpu : pures (h.ps.map PartM.v) = true := pures_map (f := PartM.v) (fun _ => rfl) h.ps
  have wa : IntKind.i64.wrap a = a := wrap_id (by omega) (by omega)
  have wb : IntKind.i64.wrap b = b := wrap_id (by omega) (by omega)
  by_cases he : eF h = 0
  rotate_left
  · have hw : tideR h = (0, eF h) := by simp [tideR, he]
    refine spec_l05_StandWater (by simp) (awpC_sound _ ?_)
    simp [C_l05_StandWater, HullM.v, HullM.cells]
    refine CallK.pure B_stand_Tide (stand_Tide_at hl hw _) ?_
    simp
    refine CallK.pure B_l05_valid (l05_valid_no hl he _) ?_
    simp [he]
    exact CallK.pure B_l05_Awake (awake_spec _) (by simp [he])
  -- a tide below M
  have key : ∀ M : Int, 0 ≤ M → M ≤ 1000 → (∀ w, 0 ≤ w → w ≤ M → whyZ h w = 0) → ∃ lo hi, a.tmod (M + 1) = lo ∧ IntKind.i64.wrap lo = lo ∧ IntKind.i64.wrap (M + 1) = M + 1 ∧ ¬ M + 1 = 0 ∧ IntKind.i64.wrap (M - lo) = M - lo ∧ IntKind.i64.wrap (M - lo + 1) = M - lo + 1 ∧ ¬ M - lo + 1 = 0 ∧
      IntKind.i64.wrap (lo + b.tmod (M - lo + 1)) = hi ∧ whyR h lo hi = (0, 0, 0) := by
    intro M h0 h1 hall
    have e1 : a.tmod (M + 1) = a % (M + 1) := Int.tmod_eq_emod_of_nonneg ha.1
    have k1 : 0 ≤ a % (M + 1) := Int.emod_nonneg _ (by omega)
    have k2 : a % (M + 1) < M + 1 := Int.emod_lt_of_pos _ (by omega)
    have e2 : b.tmod (M - a % (M + 1) + 1) = b % (M - a % (M + 1) + 1) := Int.tmod_eq_emod_of_nonneg hb.1
    have k3 : 0 ≤ b % (M - a % (M + 1) + 1) := Int.emod_nonneg _ (by omega)
    have k4 : b % (M - a % (M + 1) + 1) < M - a % (M + 1) + 1 := Int.emod_lt_of_pos _ (by omega)
    refine ⟨a % (M + 1), a % (M + 1) + b % (M - a % (M + 1) + 1), e1, wrap_id (by omega) (by omega), wrap_id (by omega) (by omega), by omega, wrap_id (by omega) (by omega), wrap_id (by omega) (by omega), by omega, ?_, whyR_none he ⟨k1, by omega, by omega⟩ fun w g1 g2 => hall w (by omega) (by omega)⟩
    rw [e2]
    exact wrap_id (by omega) (by omega)
  rcases tide_cases he with ⟨ht, hall⟩ | ⟨ht, hz⟩ | ⟨w0, g1, g2, ht, hz, hall⟩
  · obtain ⟨lo, hi, e1, e2, e3, e4, e5, e6, e7, e8, e9⟩ := key 1000 (by decide) (by decide) hall
    refine spec_l05_StandWater (by simp) (awpC_sound _ ?_)
    simp at e1 e3 e4
    simp [C_l05_StandWater, HullM.v, HullM.cells]
    refine CallK.pure B_stand_Tide (stand_Tide_at hl ht _) ?_
    simp
    refine CallK.pure B_l05_valid (l05_valid_yes hl he _) ?_
    simp [wa, wb, e1, e2, e3, e5, e6, e7, e8, hpu]
    refine ⟨_, fun σ' => CallV.fn0 B_l05_span (l05_span_spec lo hi σ'), ?_⟩
    simp [hpu]
    refine ⟨_, fun σ' => CallV.fn0 B_stand_Why (stand_Why_at hl e9 σ'), ?_⟩
    simp
    exact CallK.pure B_l05_Awake (awake_spec _) (by simp)
  · refine spec_l05_StandWater (by simp) (awpC_sound _ ?_)
    simp [C_l05_StandWater, HullM.v, HullM.cells]
    refine CallK.pure B_stand_Tide (stand_Tide_at hl ht _) ?_
    simp
    refine CallK.pure B_l05_valid (l05_valid_yes hl he _) ?_
    simp [hpu]
    refine ⟨_, fun σ' => CallV.fn0 B_l05_span (l05_span_spec 0 0 σ'), ?_⟩
    simp [hpu]
    refine ⟨_, fun σ' => CallV.fn0 B_stand_Why (stand_Why_at hl (whyR_at he (by decide) (by decide) hz) σ'), ?_⟩
    simp [hz]
    exact CallK.pure B_l05_Awake (awake_spec _) (by simp [hz])
  · obtain ⟨lo, hi, e1, e2, e3, e4, e5, e6, e7, e8, e9⟩ := key (w0 - 1) (by omega) (by omega) (fun w k1 k2 => hall w k1 (by omega))
    obtain ⟨M, hM⟩ : ∃ M, w0 - 1 = M := ⟨_, rfl⟩
    have hM1 : M + 1 = w0 := by omega
    rw [hM] at ht e1 e3 e4 e5 e6 e7 e8
    have q1 : ¬ M < 0 := by omega
    have q2 : ¬ 1000 < M := by omega
    have q3 : ¬ M = 1000 := by omega
    refine spec_l05_StandWater (by simp) (awpC_sound _ ?_)
    simp [C_l05_StandWater, HullM.v, HullM.cells]
    refine CallK.pure B_stand_Tide (stand_Tide_at hl ht _) ?_
    simp
    refine CallK.pure B_l05_valid (l05_valid_yes hl he _) ?_
    simp [wa, wb, e1, e2, e3, e4, e5, e6, e7, e8, q1, q2, hpu]
    refine ⟨_, fun σ' => CallV.fn0 B_l05_span (l05_span_spec lo hi σ'), ?_⟩
    simp [hpu]
    refine ⟨_, fun σ' => CallV.fn0 B_stand_Why (stand_Why_at hl e9 σ'), ?_⟩
    simp [q3, hpu, e3]
    refine ⟨_, fun σ' => CallV.fn0 B_l05_span (l05_span_spec _ _ σ'), ?_⟩
    simp [hpu, hM1]
    refine ⟨_, fun σ' => CallV.fn0 B_stand_Why (stand_Why_at hl (whyR_at he (by omega) (by omega) hz) σ'), ?_⟩
    simp [hz]
    exact CallK.pure B_l05_Awake (awake_spec _) (by simp [hz])
end Go.AM
