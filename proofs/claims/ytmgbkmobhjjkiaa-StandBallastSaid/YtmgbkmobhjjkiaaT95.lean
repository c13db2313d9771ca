/- StandBallasts: the call returns true. -/
import Derived.Test.YtmgbkmobhjjkiaaT94
namespace Go.AM
open Go.Proofs
set_option maxRecDepth 100000
set_option maxHeartbeats 1000000

theorem ballasts_spec (h : HullM) (hl : h.ps.length ≤ maxLen) (part lo hi : Int) (hp : -9223372036854775808 ≤ part ∧ part ≤ 9223372036854775807) (awake_spec : ∀ σ, Spec Try.prog F_l05_Awake [] σ fun r σ' => r = .ret (.bool true) ∧ σ' = σ) :
    Spec Try.prog F_l05_StandBallasts [h.v, ii' part, tideV lo hi] [] fun r _ => r = .ret (.bool true) := by
  refine spec_l05_StandBallasts (by simp) (awpC_sound _ ?_)
  simp [C_l05_StandBallasts, HullM.v, HullM.cells, tideV]
  refine CallK.pure B_stand_Ballast (stand_Ballast_spec h hl part lo hi hp _) ?_
  simp [pairV]
  refine CallK.pure B_r05_Ballast (r05_Ballast_spec h hl part lo hi hp _) ?_
  simp [pairV]
  exact CallK.pure B_l05_Awake (awake_spec _) (by simp [pairV])

theorem shaped_i64 {t : Nat} {us : List AVal} {k : Nat} (h : Shaped Try.prog (k + 1) t us) (hu : tyInt Try.prog t = some .i64) : ∃ n, us = [ii' n] ∧ -9223372036854775808 ≤ n ∧ n ≤ 9223372036854775807 := by
  obtain ⟨n, h1, h2, h3⟩ := h.int hu
  have e1 : IntKind.i64.min = -9223372036854775808 := by decide
  have e2 : IntKind.i64.max = 9223372036854775807 := by decide
  exact ⟨n, h1, by omega, by omega⟩

theorem ballP_exists {h : HullM} {q : PartM} (ha : h.aft ≤ q.at_ ∧ q.at_ ≤ h.fore) (lo hi : Int) : ∃ r, BallP h q lo hi r := by
  by_cases hx : ∃ n : Nat, (n : Int) ≤ 1000000 ∧ ∀ w, lo ≤ w → w ≤ hi → Fit h q w n
  · obtain ⟨n, ⟨hn, hf⟩, hmin⟩ := least_of hx
    refine ⟨(n, 0), .inl ⟨rfl, by simp only; omega, hn, fun b hb => ⟨fun hall => ?_, fun hle w k1 k2 => fit_mono ha hle (hf w k1 k2)⟩⟩⟩
    simp only
    by_cases hbig : b ≤ 1000000
    · have := hmin b.toNat ⟨by omega, by rw [Int.toNat_of_nonneg hb]; exact hall⟩
      omega
    · omega
  · refine ⟨(0, 9), .inr ⟨rfl, fun b h0 h1 hall => hx ⟨b.toNat, by omega, by rw [Int.toNat_of_nonneg h0]; exact hall⟩⟩⟩

theorem fit_zero {h : HullM} {q : PartM} (w : Int) : Fit h q w 0 ↔ whyZ h w = 0 := by
  rw [fit_iff]
  unfold whyZ
  rw [whyF_zero]
  simp [needS]
end Go.AM
