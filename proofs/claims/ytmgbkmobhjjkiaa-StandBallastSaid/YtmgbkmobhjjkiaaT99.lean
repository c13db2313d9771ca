/- StandBallast: the call returns true. -/
import Derived.Test.YtmgbkmobhjjkiaaT95
namespace Go.AM
open Go.Proofs
set_option maxRecDepth 100000
set_option maxHeartbeats 1000000

theorem stand_Ballast_at {h : HullM} (hl : h.ps.length ≤ maxLen) {part lo hi a b : Int} (hp : -9223372036854775808 ≤ part ∧ part ≤ 9223372036854775807) (hr : ballR h part lo hi = (a, b)) (σ : AHeap) :
    Spec Try.prog F_stand_Ballast [h.v, ii' part, .agg [ii' lo, ii' hi]] σ fun r σ' => r = .ret (.tup [ii' a, ii' b]) ∧ σ' = σ := by
  have := stand_Ballast_spec h hl part lo hi hp σ
  rw [hr] at this
  exact this
theorem r05_Why_at {h : HullM} (hl : h.ps.length ≤ maxLen) {lo hi a b c : Int} (hw : whyR h lo hi = (a, b, c)) (σ : AHeap) : Spec Try.prog F_r05_Why [h.v, .agg [ii' lo, ii' hi]] σ fun r σ' => r = .ret (.tup [ii' a, ii' b, ii' c]) ∧ σ' = σ := by
  have := r05_Why_spec h hl lo hi σ
  rw [hw] at this
  exact this

theorem whyR_none' {h : HullM} (he : eF h = 0) {lo hi : Int} (ht : 0 ≤ lo ∧ lo ≤ hi ∧ hi ≤ 1000) (hall : ∀ w, lo ≤ w → w ≤ hi → whyZ h w = 0) : whyR h lo hi = (0, 0, 0) := by
  rw [whyR_ok he ht.1 ht.2.1 ht.2.2, show firstR h lo hi = (0, 0) from firstN_none _ _ fun w g1 g2 => hall w g1 (by omega)]

/-- Of a heavier hull. -/
theorem heavy_len (h : HullM) (i : Nat) (q : PartM) (b : Int) : (heavyH h i q b).ps.length = h.ps.length := by simp [heavyH]
theorem valid_dec (h : HullM) (hl : h.ps.length ≤ maxLen) : ∃ v : Bool, (v = true ↔ eF h = 0) ∧ ∀ σ, Spec Try.prog F_l05_valid [h.v] σ fun r σ' => r = .ret (.bool v) ∧ σ' = σ := by
  by_cases he : eF h = 0
  · exact ⟨true, by simp [he], l05_valid_yes hl he⟩
  · exact ⟨false, by simp [he], l05_valid_no hl he⟩

theorem ballast_spec (h : HullM) (hl : h.ps.length ≤ maxLen) (x : WetM) (y0 y1 : Int) (hy0 : 0 ≤ y0 ∧ y0 ≤ 4294967295) (hy1 : 0 ≤ y1 ∧ y1 ≤ 4294967295) (awake_spec : ∀ σ, Spec Try.prog F_l05_Awake [] σ fun r σ' => r = .ret (.bool true) ∧ σ' = σ) :
    Spec Try.prog F_l05_StandBallast [h.v, x.v, .agg [uu y0, uu y1]] [] fun r _ => r = .ret (.bool true) := by
  have ht := tide_b x.ha.1 x.hb.1
  obtain ⟨lo, hlo⟩ : ∃ lo, tlo x.a = lo := ⟨_, rfl⟩
  obtain ⟨hi, hhi⟩ : ∃ hi, thi x.a x.b = hi := ⟨_, rfl⟩
  rw [hlo, hhi] at ht
  have hpu : pures (h.ps.map PartM.v) = true := pures_map (f := PartM.v) (fun _ => rfl) h.ps
  by_cases he : eF h = 0
  rotate_left
  · have hR : ballR h 0 lo hi = (0, eF h) := by unfold ballR; rw [if_pos he]
    refine spec_l05_StandBallast (by simp) (awpC_sound _ ?_)
    simp [C_l05_StandBallast, HullM.v, HullM.cells, WetM.v]
    refine CallK.pure B_l05_Tide (l05_Tide_at x hlo hhi _) ?_
    simp
    refine CallK.pure B_l05_valid (l05_valid_no hl he _) ?_
    simp
    refine CallK.pure B_stand_Ballast (stand_Ballast_at hl (by decide) hR _) ?_
    simp [he]
    exact CallK.pure B_l05_Awake (awake_spec _) (by simp [he])
  have hf := fine_of he
  have hlen := hf.len
  have hpok := parts_pok' he
  obtain ⟨i, hiy⟩ : ∃ i : Nat, y0 % (h.ps.length : Int) = i := ⟨(y0 % (h.ps.length : Int)).toNat, by have := Int.emod_nonneg y0 (b := (h.ps.length : Int)) (by omega); omega⟩
  have hil : (i : Int) < h.ps.length := by rw [← hiy]; exact Int.emod_lt_of_pos _ (by omega)
  have hi' : i < h.ps.length := by omega
  obtain ⟨q, hq'⟩ : ∃ q, h.ps[i] = q := ⟨_, rfl⟩
  have hq : h.ps[i]? = some q := by rw [List.getElem?_eq_getElem hi', hq']
  have hqk := hpok q (List.mem_of_getElem? hq)
  have wy0 : IntKind.i64.wrap y0 = y0 := wrap_id (by omega) (by omega)
  have wy1 : IntKind.i64.wrap y1 = y1 := wrap_id (by omega) (by omega)
  have hmod : y0.tmod (h.ps.length : Int) = (i : Int) := by rw [Int.tmod_eq_emod_of_nonneg hy0.1, hiy]
  have hnz : ¬ (h.ps.length : Int) = 0 := by omega
  have hne : h.ps ≠ [] := fun e => by rw [e] at hi'; simp at hi'
  have h1 : insF (i : Int) 0 ((h.ps.length : Int) - 1) = true := by simp [insF]; omega
  have hR : ballR h i lo hi = if insF q.at_ h.aft h.fore = false then (0, 2) else if spanErr (lo, hi) 0 1000 ≠ 0 then (0, spanErr (lo, hi) 0 1000) else ballF h q lo hi := by
    unfold ballR
    rw [if_neg (by rw [he]; simp), if_neg (by rw [h1]; simp)]
    simp only [Int.toNat_natCast, hq]
  rw [spanErr_ok ht.1 ht.2.1 ht.2.2] at hR
  by_cases hin : h.aft ≤ q.at_ ∧ q.at_ ≤ h.fore
  rotate_left
  · have hR2 : ballR h i lo hi = (0, 2) := by
      rw [hR, if_pos]
      rw [Bool.eq_false_iff]
      simp only [insF, ne_eq, Bool.and_eq_true, decide_eq_true_eq]
      omega
    refine spec_l05_StandBallast (by simp) (awpC_sound _ ?_)
    simp [C_l05_StandBallast, HullM.v, HullM.cells, WetM.v]
    refine CallK.pure B_l05_Tide (l05_Tide_at x hlo hhi _) ?_
    simp
    refine CallK.pure B_l05_valid (l05_valid_yes hl he _) ?_
    simp [wy0, hmod, hne]
    refine CallK.pure B_stand_Ballast (stand_Ballast_at hl (by omega) hR2 _) ?_
    refine (Classical.em (q.at_ < h.aft)).elim (fun hlt => ?_) (fun hlt => ?_)
    · simp [wy0, hmod, hi', hq', hil, PartM.v, PartM.cells, hlt]
      exact CallK.pure B_l05_Awake (awake_spec _) (by simp)
    · have hgt : h.fore < q.at_ := by omega
      simp [wy0, hmod, hi', hq', hil, PartM.v, PartM.cells, hlt, hgt]
      exact CallK.pure B_l05_Awake (awake_spec _) (by simp)
  have nlt : ¬ q.at_ < h.aft := by omega
  have ngt : ¬ h.fore < q.at_ := by omega
  have hR2 : ballR h i lo hi = ballF h q lo hi := by
    rw [hR, if_neg, if_neg (by simp)]
    simp [insF, hin]
  obtain ⟨r, hr⟩ := ballP_exists hin lo hi
  rw [ballF_eq hr] at hR2
  rcases hr with ⟨r0, r1, r2, r3⟩ | ⟨r0, r1⟩
  rotate_left
  · rw [r0] at hR2
    have hno := r1 0 (by decide) (by decide)
    obtain ⟨a, b, hw, ha⟩ : ∃ a b, whyR h lo hi = (a, b, 0) ∧ a ≠ 0 := by
      rcases why_cases he ht with ⟨_, hall⟩ | ⟨w0, _, _, k1, _, _, hw⟩
      · exact absurd (fun w k1 k2 => (fit_zero w).2 (hall w k1 k2)) hno
      · exact ⟨_, _, hw, by omega⟩
    refine spec_l05_StandBallast (by simp) (awpC_sound _ ?_)
    simp [C_l05_StandBallast, HullM.v, HullM.cells, WetM.v]
    refine CallK.pure B_l05_Tide (l05_Tide_at x hlo hhi _) ?_
    simp
    refine CallK.pure B_l05_valid (l05_valid_yes hl he _) ?_
    simp [wy0, hmod, hne]
    refine CallK.pure B_stand_Ballast (stand_Ballast_at hl (by omega) hR2 _) ?_
    simp [wy0, hmod, hi', hq', hil, PartM.v, PartM.cells, nlt, ngt]
    refine CallK.pure B_r05_Why (r05_Why_at hl hw _) ?_
    simp [ha]
    exact CallK.pure B_l05_Awake (awake_spec _) (by simp [ha])
  obtain ⟨n, e⟩ := r
  simp only at r0 r1 r2 r3
  subst r0
  have hH := fun b (hb : 0 ≤ b ∧ b ≤ 1000001) σ => r05_Heavier_spec h hlen.2 i q hq b (by have := hqk.w; omega) hb σ
  have hlH : ∀ b, (heavyH h i q b).ps.length ≤ maxLen := fun b => by rw [heavy_len]; exact hl
  obtain ⟨v1, hv1, hV1⟩ := valid_dec (heavyH h i q n) (hlH n)
  have hW1 : v1 = true → whyR (heavyH h i q n) lo hi = (0, 0, 0) := fun hv => whyR_none' (hv1.1 hv) ht fun w k1 k2 => (fit_why hq n w).2 ((r3 n r1).2 (Int.le_refl _) w k1 k2)
  have hn0 : ¬ n < 0 := by omega
  have hn1 : ¬ 1000000 < n := by omega
  obtain ⟨b, hb⟩ : ∃ b, y1 % n = b := ⟨_, rfl⟩
  obtain ⟨v2, hv2, hV2⟩ := valid_dec (heavyH h i q b) (hlH b)
  have hW2 : 0 ≤ b → b < n → v2 = true → ∃ a c, whyR (heavyH h i q b) lo hi = (a, c, 0) ∧ a ≠ 0 := fun h0 hlt hv => by
    rcases why_cases (hv2.1 hv) ht with ⟨_, hall⟩ | ⟨w0, _, _, k1, _, _, hw⟩
    · have := (r3 b h0).1 fun w k1 k2 => (fit_why hq b w).1 (hall w k1 k2)
      omega
    · exact ⟨_, _, hw, by omega⟩
  -- the walk behind the first hull
  by_cases hz : n = 0
  · refine (tf v1).elim (fun hv => ?_) (fun hv => ?_)
    · rw [hv] at hV1
      refine spec_l05_StandBallast (by simp) (awpC_sound _ ?_)
      simp [C_l05_StandBallast, HullM.v, HullM.cells, WetM.v]
      refine CallK.pure B_l05_Tide (l05_Tide_at x hlo hhi _) ?_
      simp
      refine CallK.pure B_l05_valid (l05_valid_yes hl he _) ?_
      simp [wy0, hmod, hne]
      refine CallK.pure B_stand_Ballast (stand_Ballast_at hl (by omega) hR2 _) ?_
      simp [wy0, hmod, hi', hq', hil, PartM.v, PartM.cells, nlt, ngt, hn0, hn1]
      refine CallK.pure B_r05_Heavier (hH n (by omega) _) ?_
      simp [HullM.v, HullM.cells]
      refine CallK.pure B_l05_valid (hV1 _) ?_
      simp [hz]
      exact CallK.pure B_l05_Awake (awake_spec _) (by simp)
    · rw [hv] at hV1
      have hWx := hW1 hv
      refine spec_l05_StandBallast (by simp) (awpC_sound _ ?_)
      simp [C_l05_StandBallast, HullM.v, HullM.cells, WetM.v]
      refine CallK.pure B_l05_Tide (l05_Tide_at x hlo hhi _) ?_
      simp
      refine CallK.pure B_l05_valid (l05_valid_yes hl he _) ?_
      simp [wy0, hmod, hne]
      refine CallK.pure B_stand_Ballast (stand_Ballast_at hl (by omega) hR2 _) ?_
      simp [wy0, hmod, hi', hq', hil, PartM.v, PartM.cells, nlt, ngt, hn0, hn1]
      refine CallK.pure B_r05_Heavier (hH n (by omega) _) ?_
      simp [HullM.v, HullM.cells]
      refine CallK.pure B_l05_valid (hV1 _) ?_
      simp
      refine CallK.pure B_stand_Why (stand_Why_at (hlH n) hWx _) ?_
      simp [hz]
      exact CallK.pure B_l05_Awake (awake_spec _) (by simp)
  · have hb0 : 0 ≤ b := by rw [← hb]; exact Int.emod_nonneg _ hz
    have hb1 : b < n := by rw [← hb]; exact Int.emod_lt_of_pos _ (by omega)
    have hmod2 : y1.tmod n = b := by rw [Int.tmod_eq_emod_of_nonneg hy1.1, hb]
    have hW2' := hW2 hb0 hb1
    refine (tf v1).elim (fun hv => ?_) (fun hv => ?_)
    · rw [hv] at hV1
      refine spec_l05_StandBallast (by simp) (awpC_sound _ ?_)
      simp [C_l05_StandBallast, HullM.v, HullM.cells, WetM.v]
      refine CallK.pure B_l05_Tide (l05_Tide_at x hlo hhi _) ?_
      simp
      refine CallK.pure B_l05_valid (l05_valid_yes hl he _) ?_
      simp [wy0, hmod, hne]
      refine CallK.pure B_stand_Ballast (stand_Ballast_at hl (by omega) hR2 _) ?_
      simp [wy0, hmod, hi', hq', hil, PartM.v, PartM.cells, nlt, ngt, hn0, hn1]
      refine CallK.pure B_r05_Heavier (hH n (by omega) _) ?_
      simp [HullM.v, HullM.cells]
      refine CallK.pure B_l05_valid (hV1 _) ?_
      simp [hz, wy0, hmod, wy1, hmod2, hpu]
      refine ⟨_, fun σ' _ => CallV.fn0 B_r05_Heavier (hH b (by omega) σ'), ?_⟩
      simp [HullM.v, HullM.cells]
      refine CallK.pure B_l05_valid (hV2 _) ?_
      refine (tf v2).elim (fun hv2f => ?_) (fun hv2t => ?_)
      · simp [hv2f]
        exact CallK.pure B_l05_Awake (awake_spec _) (by simp)
      · refine (hW2' hv2t).elim fun a hx => hx.elim fun c hx => ?_
        simp [hv2t]
        refine CallK.pure B_stand_Why (stand_Why_at (hlH b) hx.1 _) ?_
        have hna := hx.2
        simp [hna]
        exact CallK.pure B_l05_Awake (awake_spec _) (by simp [hna])
    · rw [hv] at hV1
      have hWx := hW1 hv
      refine spec_l05_StandBallast (by simp) (awpC_sound _ ?_)
      simp [C_l05_StandBallast, HullM.v, HullM.cells, WetM.v]
      refine CallK.pure B_l05_Tide (l05_Tide_at x hlo hhi _) ?_
      simp
      refine CallK.pure B_l05_valid (l05_valid_yes hl he _) ?_
      simp [wy0, hmod, hne]
      refine CallK.pure B_stand_Ballast (stand_Ballast_at hl (by omega) hR2 _) ?_
      simp [wy0, hmod, hi', hq', hil, PartM.v, PartM.cells, nlt, ngt, hn0, hn1]
      refine CallK.pure B_r05_Heavier (hH n (by omega) _) ?_
      simp [HullM.v, HullM.cells]
      refine CallK.pure B_l05_valid (hV1 _) ?_
      simp
      refine CallK.pure B_stand_Why (stand_Why_at (hlH n) hWx _) ?_
      simp [hz, wy0, hmod, wy1, hmod2, hpu]
      refine ⟨_, fun σ' _ => CallV.fn0 B_r05_Heavier (hH b (by omega) σ'), ?_⟩
      simp [HullM.v, HullM.cells]
      refine CallK.pure B_l05_valid (hV2 _) ?_
      refine (tf v2).elim (fun hv2f => ?_) (fun hv2t => ?_)
      · simp [hv2f]
        exact CallK.pure B_l05_Awake (awake_spec _) (by simp)
      · refine (hW2' hv2t).elim fun a hx => hx.elim fun c hx => ?_
        simp [hv2t]
        refine CallK.pure B_stand_Why (stand_Why_at (hlH b) hx.1 _) ?_
        have hna := hx.2
        simp [hna]
        exact CallK.pure B_l05_Awake (awake_spec _) (by simp [hna])
end Go.AM
