/- StandForces: the call returns true, for any hull, truth, height of water and forces. StandBears: the call returns true. StandShown: the call returns true. -/
import Derived.Test.YtmgbkmobhjjkiaaP7
import Derived.Test.YtmgbkmobhjjkiaaP4
import Derived.Test.YtmgbkmobhjjkiaaP8
namespace Go.AM
open Go.Proofs
set_option maxRecDepth 100000
set_option maxHeartbeats 1000000

theorem ty49 : tyFs Try.prog 49 = some [27, 3, 47] := by kernel_rfl
theorem ty62 : tyFs Try.prog 62 = some [3, 3] := by kernel_rfl
theorem ty47 : tySl Try.prog 47 = some (62, 2, true) := by kernel_rfl

theorem shaped_forces {k : Nat} {us : List AVal} (h : Shaped Try.prog (k + 3) 47 us) : ∃ l : List (Int × Int), us = [frcV l] ∧ l.length ≤ maxLen := by
  obtain ⟨xs, rfl, hl, hx⟩ := h.sl ty47
  obtain ⟨l, rfl, _⟩ := list_of (f := frV) (p := fun _ => True) (xs := xs) fun v hv => by
    obtain ⟨cs, g1, g2⟩ := hx v hv
    obtain ⟨a, r, rfl, h1, b, r2, rfl, h2, rfl⟩ := g1.fs ty62
    obtain ⟨x, rfl⟩ := shaped_int h1 ty3
    obtain ⟨y, rfl⟩ := shaped_int h2 ty3
    exact ⟨(x, y), g2, trivial⟩
  exact ⟨l, rfl, by simpa using hl⟩

theorem shaped_truth' {k : Nat} {us : List AVal} (h : Shaped Try.prog (k + 3) 27 us) : ∃ t : TruthM, us = [.slice 1 (t.ws.map ii'), .slice 1 (t.ls.map ii')] := by
  obtain ⟨a, r, rfl, h1, b, r2, rfl, h2, rfl⟩ := h.fs ty27
  obtain ⟨l, rfl⟩ := shaped_ints h1
  obtain ⟨m, rfl⟩ := shaped_ints h2
  exact ⟨⟨l, m⟩, rfl⟩

theorem shaped_pressed {us : List AVal} (h : Shaped Try.prog 5 49 us) : ∃ (t : TruthM) (w : Int) (l : List (Int × Int)), us = [.slice 1 (t.ws.map ii'), .slice 1 (t.ls.map ii'), ii' w, frcV l] ∧ l.length ≤ maxLen := by
  obtain ⟨a, r, rfl, h1, b, r2, rfl, h2, c, r3, rfl, h3, rfl⟩ := h.fs ty49
  obtain ⟨t, rfl⟩ := shaped_truth' h1
  obtain ⟨x, rfl⟩ := shaped_int h2 ty3
  obtain ⟨l, rfl, hl⟩ := shaped_forces h3
  exact ⟨t, x, l, rfl, hl⟩

theorem forcesF_len (h : HullM) (t : TruthM) (water : Int) : (forcesF h t water).1.length ≤ maxLen := by
  unfold forcesF
  split
  · simp [maxLen]
  · split <;> simp [maxLen]

theorem forces_spec (h : HullM) (t : TruthM) (hl : h.ps.length ≤ maxLen) (water : Int) (l : List (Int × Int)) (hf : l.length ≤ maxLen) (awake_spec : ∀ σ, Spec Try.prog F_l05_Awake [] σ fun r σ' => r = .ret (.bool true) ∧ σ' = σ) :
    Spec Try.prog F_l05_StandForces [h.v, .agg [.slice 1 (t.ws.map ii'), .slice 1 (t.ls.map ii'), ii' water, frcV l]] [] fun r _ => r = .ret (.bool true) := by
  refine spec_l05_StandForces (by simp) (awpC_sound _ ?_)
  simp [C_l05_StandForces, HullM.v, HullM.cells, frcV]
  refine CallK.pure B_stand_Forces (stand_Forces_spec h t hl water _) ?_
  simp [frcV]
  refine CallK.pure B_r05_Forces (r05_Forces_spec h t hl water _) ?_
  simp [frcV]
  refine CallK.pure B_r05_Alike (r05_Alike_spec _ (forcesF_len h t water) _) ?_
  simp
  refine CallK.pure B_stand_Bears (stand_Bears_spec h t hl water l hf _) ?_
  simp
  refine CallK.pureE B_r05_Bears (r05_Bears_spec h t hl water l hf _) (show _ = AVal.tup [.bool (bearsPF h t water l), ii' (bearE h t water l)] by rw [bearsPQ]) ?_
  simp
  exact CallK.pure B_l05_Awake (awake_spec _) (by simp)
end Go.AM

namespace Go.AM
open Go.Proofs
set_option maxRecDepth 100000
set_option maxHeartbeats 1000000

theorem wet_ok {w : Int} (h0 : 0 ≤ w) (h1 : w ≤ 1000) : wetE 0 w = 0 := by simp [wetE, beyondF, outF]; omega
theorem inZ_le {h : HullM} (he : eF h = 0) {t : TruthM} (ht : TrueOf h t) {w : Int} (h0 : 0 ≤ w) (h1 : w ≤ 1000) : inZ h t w 0 ≤ 60000000 := by
  have := in_bound h t w (truthE_zero.2 ⟨he, ht⟩) (wet_ok h0 h1)
  rwa [inS_z (fine_of he) ht h0 h1] at this

theorem stand_Balance_at {h : HullM} (he : eF h = 0) {t : TruthM} (ht : TrueOf h t) {w : Int} (h0 : 0 ≤ w) (h1 : w ≤ 1000) (σ : AHeap) :
    Spec Try.prog F_stand_Balance [h.v, t.v, ii' w] σ fun r σ' => r = .ret (.tup [.agg [ii' (inZ h t w 0), ii' (inZ h t w 1), ii' (inZ h t w 2)], ii' 0]) ∧ σ' = σ := by
  have hf := fine_of he
  have := stand_Balance_spec h t hf.maxLen w σ
  rw [truthE_zero.2 ⟨he, ht⟩, wet_ok h0 h1, if_pos rfl, inS_z hf ht h0 h1, inS_z hf ht h0 h1, inS_z hf ht h0 h1] at this
  exact this

theorem forcesF_at {h : HullM} (he : eF h = 0) {t : TruthM} (ht : TrueOf h t) {w : Int} (h0 : 0 ≤ w) (h1 : w ≤ 1000) :
    forcesF h t w = if whyF (inZ h t w 0) (inZ h t w 1) (inZ h t w 2) ≠ 0 then ([], 9) else ([(h.aft, inZ h t w 2), (h.fore, inZ h t w 1)], 0) := by
  have hf := fine_of he
  unfold forcesF
  rw [truthE_zero.2 ⟨he, ht⟩, wet_ok h0 h1, inS_z hf ht h0 h1, inS_z hf ht h0 h1, inS_z hf ht h0 h1]
  simp

theorem bearE_at {h : HullM} (he : eF h = 0) {t : TruthM} (ht : TrueOf h t) {w : Int} (h0 : 0 ≤ w) (h1 : w ≤ 1000) (l : List (Int × Int)) : bearE h t w l = if 10 < l.length then 3 else 0 := by
  unfold bearE
  rw [truthE_zero.2 ⟨he, ht⟩, wet_ok h0 h1]
  simp

/-- If forces bear the hull, its balance is that of a hull that stands. -/
theorem bearsP_good {aft fore s0 s1 L T : Int} (hl0 : 0 < L) (hl5 : L ≤ 5000) (hL : L = fore - aft) (ha : 0 ≤ aft) (hfo : fore ≤ 5000) (hT : wr (s0 * L) = T) (hT2 : T ≤ 300000000000) (hS : wr (s1 * L) = s1 * L) (hTe : T = s0 * L) :
    ∀ (l : List (Int × Int)) (all turn : Int), 0 ≤ all → all ≤ T ∨ all = 0 → 0 ≤ turn → turn ≤ all * L → bearsP aft fore L s0 s1 l all turn = true → 0 < s0 ∧ 0 ≤ s1 ∧ s1 ≤ s0 * L
  | [], all, turn, h1, h2, h3, h4, hb => by
    simp only [bearsP, hT, hS, Bool.and_eq_true, decide_eq_true_eq] at hb
    obtain ⟨⟨b1, b2⟩, b3⟩ := hb
    rw [b2, b3, hTe] at h4
    rw [b3] at h3
    refine ⟨b1, ?_, ?_⟩
    · exact Int.le_of_mul_le_mul_right (by omega) hl0
    · exact Int.le_of_mul_le_mul_right h4 hl0
  | x :: r, all, turn, h1, h2, h3, h4, hb => by
    simp only [bearsP, hT] at hb
    split at hb
    · cases hb
    · rename_i hn
      simp only [Bool.or_eq_true, not_or, Bool.not_eq_true] at hn
      obtain ⟨n1, n2⟩ := hn
      simp only [outF, Bool.or_eq_false_iff, decide_eq_false_iff_not] at n1 n2
      have ha2 : all ≤ 300000000000 := by omega
      have hTb : -20000000000000000 ≤ T ∨ T < -20000000000000000 := by omega
      have hmx : x.2 ≤ 0 ∨ (0 < wr (T - all) ∧ x.2 ≤ wr (T - all)) := by
        unfold max0 at n2
        split at n2 <;> omega
      -- how far the forces have come
      have hxa : 0 ≤ x.2 ∧ (all + x.2 ≤ T ∨ x.2 = 0) := by
        refine ⟨by omega, ?_⟩
        rcases hmx with h | ⟨g1, g2⟩
        · right; omega
        · left
          have hw : wr (T - all) = T - all ∨ T - all < -9223372036854775808 := by
            by_cases hh : -9223372036854775808 ≤ T - all
            · left; exact wrap_id hh (by omega)
            · right; omega
          rcases hw with hw | hw
          · omega
          · exfalso
            have hTw : -9223372036854775808 ≤ T := by rw [← hT]; simp only [wr, IntKind.wrap_i64]; omega
            rcases h2 with h2 | h2 <;> omega
      have hx1 : x.2 ≤ 300000000000 := by omega
      have w1 : wr (all + x.2) = all + x.2 := wrap_id (by omega) (by omega)
      have w2 : wr (x.1 - aft) = x.1 - aft := wrap_id (by omega) (by omega)
      have m1 : 0 ≤ x.2 * (x.1 - aft) := Int.mul_nonneg (by omega) (by omega)
      have m2 : x.2 * (x.1 - aft) ≤ x.2 * L := Int.mul_le_mul_of_nonneg_left (by omega) (by omega)
      have m3 : x.2 * L ≤ 300000000000 * 5000 := Int.mul_le_mul hx1 hl5 (by omega) (by omega)
      have m4 : all * L ≤ 300000000000 * 5000 := Int.mul_le_mul ha2 hl5 (by omega) (by omega)
      have w3 : wr (x.2 * (x.1 - aft)) = x.2 * (x.1 - aft) := wrap_id (by omega) (by omega)
      have w4 : wr (turn + x.2 * (x.1 - aft)) = turn + x.2 * (x.1 - aft) := wrap_id (by omega) (by omega)
      rw [w1, w2, w3, w4] at hb
      refine bearsP_good hl0 hl5 hL ha hfo hT hT2 hS hTe r _ _ (by omega) ?_ (by omega) ?_ hb
      · rcases hxa.2 with h | h
        · exact .inl h
        · rw [h]; simpa using h2
      · rw [Int.add_mul]; omega

theorem bearsPF_good {h : HullM} (he : eF h = 0) {t : TruthM} (ht : TrueOf h t) {w : Int} (h0 : 0 ≤ w) (h1 : w ≤ 1000) (l : List (Int × Int)) (hb : bearsPF h t w l = true) : whyF (inZ h t w 0) (inZ h t w 1) (inZ h t w 2) = 0 := by
  have hf := fine_of he
  have a1 := hf.aft; have a2 := hf.lt; have a3 := hf.fore
  unfold bearsPF at hb
  rw [inS_z hf ht h0 h1, inS_z hf ht h0 h1] at hb
  simp only [Bool.and_eq_true] at hb
  have hl : longF h = h.fore - h.aft := wrap_id (by omega) (by omega)
  rw [hl] at hb
  have hsum := in_sum h t w
  have b0 := inZ_b hf ht h0 h1 0
  have b1 := inZ_b hf ht h0 h1 1
  have m0 := mul_b (a := inZ h t w 0) (b := h.fore - h.aft) (A := 4000000000000) (B := 5000) (by omega) (by omega) (by omega) (by omega)
  have m1 := mul_b (a := inZ h t w 1) (b := h.fore - h.aft) (A := 4000000000000) (B := 5000) (by omega) (by omega) (by omega) (by omega)
  have hle := inZ_le he ht h0 h1
  have m2 : inZ h t w 0 * (h.fore - h.aft) ≤ 60000000 * (h.fore - h.aft) := Int.mul_le_mul_of_nonneg_right hle (by omega)
  have e0 : wr (inZ h t w 0 * (h.fore - h.aft)) = inZ h t w 0 * (h.fore - h.aft) := wrap_id (by omega) (by omega)
  have e1 : wr (inZ h t w 1 * (h.fore - h.aft)) = inZ h t w 1 * (h.fore - h.aft) := wrap_id (by omega) (by omega)
  have := bearsP_good (by omega) (by omega) rfl a1 a3 e0 (by omega) e1 rfl l 0 0 (by omega) (.inr rfl) (by omega) (by simp) hb.2
  rw [whyF_zero]
  omega

theorem bears_spec (h : HullM) (hl : h.ps.length ≤ maxLen) (x : WetM) (l : List (Int × Int)) (hll : l.length ≤ maxLen) (awake_spec : ∀ σ, Spec Try.prog F_l05_Awake [] σ fun r σ' => r = .ret (.bool true) ∧ σ' = σ) :
    Spec Try.prog F_l05_StandBears [h.v, x.v, frcV l] [] fun r _ => r = .ret (.bool true) := by
  have hpu : pures (h.ps.map PartM.v) = true := pures_map (f := PartM.v) (fun _ => rfl) h.ps
  have hlu : pures (x.l.map uu) = true := pures_map (f := uu) (fun _ => rfl) x.l
  have hp2 : ∀ l : List Int, pures (l.map ii') = true := pures_map (f := ii') (fun _ => rfl)
  by_cases he : eF h = 0
  rotate_left
  · have hE : bearE h ⟨[], []⟩ 0 l = eF h := by
      have : truthE h ⟨[], []⟩ = eF h := by simp [truthE, he]
      have hw : wetE (eF h) 0 = eF h := by simp [wetE, he]
      simp [bearE, this, hw, he]
    have hs := fun σ => stand_Bears_spec h ⟨[], []⟩ hl 0 l hll σ
    rw [hE] at hs
    refine spec_l05_StandBears (by simp) (awpC_sound _ ?_)
    simp [C_l05_StandBears, HullM.v, HullM.cells, WetM.v, frcV]
    refine CallK.pure B_l05_valid (l05_valid_no hl he _) ?_
    simp
    refine CallK.pure B_stand_Bears (hs _) ?_
    simp [he]
    exact CallK.pure B_l05_Awake (awake_spec _) (by simp [he])
  have hf := fine_of he
  have ht := anyT_true hf x.hl.2
  have hwx : IntKind.i64.wrap x.w = x.w := wrap_id (by have := x.hw; omega) (by have := x.hw; omega)
  obtain ⟨w, hw⟩ : ∃ w, x.w.tmod 1001 = w := ⟨_, rfl⟩
  have hw' := hw
  rw [Int.tmod_eq_emod_of_nonneg x.hw.1] at hw'
  have w0 : 0 ≤ w := by rw [← hw']; exact Int.emod_nonneg _ (by decide)
  have w1 : w ≤ 1000 := by have : x.w % 1001 < 1001 := Int.emod_lt_of_pos _ (by decide); omega
  obtain ⟨S0, h0⟩ : ∃ S0, inZ h (anyT h x.l) w 0 = S0 := ⟨_, rfl⟩
  obtain ⟨S1, h1⟩ : ∃ S1, inZ h (anyT h x.l) w 1 = S1 := ⟨_, rfl⟩
  obtain ⟨S2, h2⟩ : ∃ S2, inZ h (anyT h x.l) w 2 = S2 := ⟨_, rfl⟩
  have hB := fun σ => stand_Balance_at he ht w0 w1 σ
  have hF := forcesF_at he ht w0 w1
  have hFs := fun σ => stand_Forces_spec h (anyT h x.l) hl w σ
  have hE := bearE_at he ht w0 w1 l
  have hEs := fun σ => stand_Bears_spec h (anyT h x.l) hl w l hll σ
  have hgood := fun hb => bearsPF_good he ht w0 w1 l hb
  have hE2 := bearE_at he ht w0 w1 [(h.aft, S2), (h.fore, S1)]
  have hEs2 := fun σ => stand_Bears_spec h (anyT h x.l) hl w [(h.aft, S2), (h.fore, S1)] (by simp [maxLen]) σ
  have hown := fun hs => bears_own hf ht w0 w1 hs
  have hz0 := inS_z hf ht w0 w1 0
  have hz1 := inS_z hf ht w0 w1 1
  rw [h0] at hz0
  rw [h1] at hz1
  rw [h0, h1, h2] at hF hgood hown
  simp only [h0, h1, h2] at hB
  rw [hE2] at hEs2
  simp at hEs2
  obtain ⟨bb, hbb⟩ : ∃ b, bearsPF h (anyT h x.l) w l = b := ⟨_, rfl⟩
  rw [hbb] at hEs
  rw [hE] at hEs
  have hlc : (10 < l.length ∧ (10 : Int) < l.length ∧ (if 10 < l.length then (3 : Int) else 0) = 3) ∨ (¬ 10 < l.length ∧ ¬ (10 : Int) < l.length ∧ (if 10 < l.length then (3 : Int) else 0) = 0) := by
    by_cases h : 10 < l.length
    · left; exact ⟨h, by omega, if_pos h⟩
    · right; exact ⟨h, by omega, if_neg h⟩
  by_cases hg : whyF S0 S1 S2 = 0
  · have hs := whyF_zero.1 hg
    have hs0 : 0 < S0 := by omega
    have n0 : ¬ S0 ≤ 0 := by omega
    have n1 : ¬ S1 < 0 := by omega
    have n2 : ¬ S2 < 0 := by omega
    have hb2 : bearsPF h (anyT h x.l) w [(h.aft, S2), (h.fore, S1)] = true := by
      unfold bearsPF
      rw [hE2, hz0, hz1, hown hg]
      rfl
    rw [hb2] at hEs2
    rw [hg] at hF
    simp at hF
    rw [hF] at hFs
    refine spec_l05_StandBears (by simp) (awpC_sound _ ?_)
    simp [C_l05_StandBears, HullM.v, HullM.cells, WetM.v, frcV]
    refine CallK.pure B_l05_valid (l05_valid_yes hl he _) ?_
    simp [hwx, hw, hpu, hlu]
    refine ⟨_, fun σ' => CallV.fn0 B_l05_Truth (l05_Truth_spec h hf x.l x.hl.1 x.hl.2 σ'), ?_⟩
    simp [TruthM.v]
    refine CallK.pure B_stand_Balance (hB _) ?_
    simp [TruthM.v, hwx, hw]
    refine CallK.pure B_stand_Forces (hFs _) ?_
    simp [frcV, frV, hwx, hw]
    refine hlc.elim (fun hlc => ?_) (fun hlc => ?_)
    · obtain ⟨k1, k2, k3⟩ := hlc
      have k4 : ¬ (l.length : Int) ≤ 10 := by omega
      rw [k3] at hEs
      refine CallK.pure B_stand_Bears (hEs _) ?_
      simp [k2, k4, hwx, hw, frcV, frV, hs0, hs.2.1, hs.2.2]
      refine CallK.pure B_stand_Bears (hEs2 _) ?_
      simp
      exact CallK.pure B_l05_Awake (awake_spec _) (by simp)
    · obtain ⟨k1, k2, k3⟩ := hlc
      have k4 : (l.length : Int) ≤ 10 := by omega
      rw [k3] at hEs
      refine CallK.pure B_stand_Bears (hEs _) ?_
      simp [k2, k4, hwx, hw, frcV, frV, hs0, hs.2.1, hs.2.2]
      refine CallK.pure B_stand_Bears (hEs2 _) ?_
      simp
      exact CallK.pure B_l05_Awake (awake_spec _) (by simp)
  · have hbf : bb = false := by
      cases bb with
      | false => rfl
      | true => exact absurd (hgood hbb) hg
    subst hbf
    have hng : ¬ (0 < S0 ∧ 0 ≤ S1 ∧ 0 ≤ S2) := fun h => hg (whyF_zero.2 ⟨by omega, h.2.1, h.2.2⟩)
    rw [if_pos hg] at hF
    rw [hF] at hFs
    refine spec_l05_StandBears (by simp) (awpC_sound _ ?_)
    simp [C_l05_StandBears, HullM.v, HullM.cells, WetM.v, frcV]
    refine CallK.pure B_l05_valid (l05_valid_yes hl he _) ?_
    simp [hwx, hw, hpu, hlu]
    refine ⟨_, fun σ' => CallV.fn0 B_l05_Truth (l05_Truth_spec h hf x.l x.hl.1 x.hl.2 σ'), ?_⟩
    simp [TruthM.v]
    refine CallK.pure B_stand_Balance (hB _) ?_
    simp [TruthM.v, hwx, hw]
    refine CallK.pure B_stand_Forces (hFs _) ?_
    simp [frcV, hwx, hw]
    have h3 : (¬ 0 < S0) ∨ (0 < S0 ∧ ¬ 0 ≤ S1) ∨ (0 < S0 ∧ 0 ≤ S1 ∧ ¬ 0 ≤ S2) := by omega
    refine hlc.elim (fun hlc => ?_) (fun hlc => ?_)
    · obtain ⟨k1, k2, k3⟩ := hlc
      have k4 : ¬ (l.length : Int) ≤ 10 := by omega
      rw [k3] at hEs
      refine CallK.pure B_stand_Bears (hEs _) ?_
      refine h3.elim (fun q => ?_) (fun h3 => h3.elim (fun q => ?_) (fun q => ?_))
      · simp [k2, k4, hwx, hw, frcV, q]
        exact CallK.pure B_l05_Awake (awake_spec _) (by simp [frcV])
      · simp [k2, k4, hwx, hw, frcV, q]
        exact CallK.pure B_l05_Awake (awake_spec _) (by simp [frcV])
      · simp [k2, k4, hwx, hw, frcV, q]
        exact CallK.pure B_l05_Awake (awake_spec _) (by simp [frcV])
    · obtain ⟨k1, k2, k3⟩ := hlc
      have k4 : (l.length : Int) ≤ 10 := by omega
      rw [k3] at hEs
      refine CallK.pure B_stand_Bears (hEs _) ?_
      refine h3.elim (fun q => ?_) (fun h3 => h3.elim (fun q => ?_) (fun q => ?_))
      · simp [k2, k4, hwx, hw, frcV, q]
        exact CallK.pure B_l05_Awake (awake_spec _) (by simp [frcV])
      · simp [k2, k4, hwx, hw, frcV, q]
        exact CallK.pure B_l05_Awake (awake_spec _) (by simp [frcV])
      · simp [k2, k4, hwx, hw, frcV, q]
        exact CallK.pure B_l05_Awake (awake_spec _) (by simp [frcV])
end Go.AM

namespace Go.AM
open Go.Proofs
set_option maxRecDepth 100000
set_option maxHeartbeats 1000000

theorem shown_true {h : HullM} (hf : Fine h) (why : Int) : TrueOf h (shownT h why) where
  lw := by simp [shownT]
  ll := by simp [shownT]
  w := fun i hi => by
    have hp := hf.part _ (List.getElem_mem hi)
    simp only [shownT, List.getElem_map]
    unfold shownW
    have := hp.w
    split <;> omega
  l := fun i hi => by
    have hp := hf.part _ (List.getElem_mem hi)
    simp only [shownT, List.getElem_map]
    unfold shownL
    have := hp.l
    split <;> omega

theorem shown_least {h : HullM} (hf : Fine h) {w : Int} (h0 : 0 ≤ w) (h1 : w ≤ 1000) :
    inZ h (shownT h 1) w 0 = leastZ h w 0 ∧ inZ h (shownT h 2) w 1 = leastZ h w 1 ∧ inZ h (shownT h 3) w 2 = leastZ h w 2 := by
  have hb : Bounds h := ⟨⟨hf.aft, by have := hf.lt; have := hf.fore; omega⟩, ⟨by have := hf.lt; have := hf.aft; omega, hf.fore⟩, fun p hp => (hf.part p hp).at_⟩
  have hs := small_eq h hb w
  unfold smallR at hs
  rw [weighR_eq, weighR_eq, weighR_eq] at hs
  simp only [Prod.mk.injEq] at hs
  rw [← inS_z hf (shown_true hf 1) h0 h1, ← inS_z hf (shown_true hf 2) h0 h1, ← inS_z hf (shown_true hf 3) h0 h1, ← leastS_z hf h0 h1, ← leastS_z hf h0 h1, ← leastS_z hf h0 h1]
  exact hs

theorem why_bad {h : HullM} (hf : Fine h) {w : Int} (h0 : 0 ≤ w) (h1 : w ≤ 1000) (hz : 1 ≤ whyZ h w) :
    (whyZ h w = 1 ∧ inZ h (shownT h 1) w 0 ≤ 0) ∨ (whyZ h w = 2 ∧ inZ h (shownT h 2) w 1 < 0) ∨ (whyZ h w = 3 ∧ inZ h (shownT h 3) w 2 < 0) := by
  obtain ⟨e1, e2, e3⟩ := shown_least hf h0 h1
  rw [e1, e2, e3]
  unfold whyZ whyF at *
  split
  · left; exact ⟨rfl, by assumption⟩
  · split
    · right; left; exact ⟨rfl, by assumption⟩
    · split
      · right; right; exact ⟨rfl, by assumption⟩
      · rename_i n1 n2 n3
        rw [if_neg n1, if_neg n2, if_neg n3] at hz
        omega

theorem stands_no {h : HullM} (he : eF h = 0) {t : TruthM} (ht : TrueOf h t) {w : Int} (h0 : 0 ≤ w) (h1 : w ≤ 1000) (hb : whyF (inZ h t w 0) (inZ h t w 1) (inZ h t w 2) ≠ 0) (σ : AHeap) : Spec Try.prog F_l05_stands [h.v, t.v, ii' w] σ fun r σ' => r = .ret (.bool false) ∧ σ' = σ := by
  have := l05_stands_spec h t (fine_of he).maxLen w σ
  rw [standsF_eq he ht h0 h1, decide_eq_false hb] at this
  exact this

theorem stand_Show_at {h : HullM} (he : eF h = 0) {w y : Int} (h0 : 0 ≤ w) (h1 : w ≤ 1000) (hy : whyZ h w = y) (σ : AHeap) : Spec Try.prog F_stand_Show [h.v, ii' w] σ fun r σ' => r = .ret (.tup [(shownT h y).v, ii' y, ii' 0]) ∧ σ' = σ := by
  have := stand_Show_spec h (fine_of he).maxLen w σ
  unfold showR at this
  rw [he, wet_ok h0 h1, hy] at this
  exact this

theorem r05_Truth_at {h : HullM} (he : eF h = 0) {t : TruthM} (ht : TrueOf h t) (σ : AHeap) : Spec Try.prog F_r05_Truth [h.v, t.v] σ fun r σ' => r = .ret (ii' 0) ∧ σ' = σ := by
  have := r05_Truth_spec h t (fine_of he).maxLen σ
  rw [← truth_eq, truthE_zero.2 ⟨he, ht⟩] at this
  exact this

theorem shown_spec (h : HullM) (hl : h.ps.length ≤ maxLen) (x : WetM) (awake_spec : ∀ σ, Spec Try.prog F_l05_Awake [] σ fun r σ' => r = .ret (.bool true) ∧ σ' = σ) :
    Spec Try.prog F_l05_StandShown [h.v, x.v] [] fun r _ => r = .ret (.bool true) := by
  have ht := tide_b x.ha.1 x.hb.1
  obtain ⟨lo, hlo⟩ : ∃ lo, tlo x.a = lo := ⟨_, rfl⟩
  obtain ⟨hi, hhi⟩ : ∃ hi, thi x.a x.b = hi := ⟨_, rfl⟩
  rw [hlo, hhi] at ht
  have hpu : pures (h.ps.map PartM.v) = true := pures_map (f := PartM.v) (fun _ => rfl) h.ps
  have hlu : pures (x.l.map uu) = true := pures_map (f := uu) (fun _ => rfl) x.l
  have hp2 : ∀ l : List Int, pures (l.map ii') = true := pures_map (f := ii') (fun _ => rfl)
  by_cases he : eF h = 0
  rotate_left
  · have hw : whyR h lo hi = (0, 0, eF h) := by simp [whyR, he]
    refine spec_l05_StandShown (by simp) (awpC_sound _ ?_)
    simp [C_l05_StandShown, HullM.v, HullM.cells, WetM.v]
    refine CallK.pure B_l05_Tide (l05_Tide_at x hlo hhi _) ?_
    simp
    refine CallK.pure B_stand_Why (stand_Why_at hl hw _) ?_
    simp
    refine CallK.pure B_l05_valid (l05_valid_no hl he _) ?_
    simp
    refine CallK.pure B_l05_valid (l05_valid_no hl he _) ?_
    simp [he]
    exact CallK.pure B_l05_Awake (awake_spec _) (by simp [he])
  have hf := fine_of he
  rcases why_cases he ht with ⟨hw, _⟩ | ⟨w0, g1, g2, r1, r2, hall, hw⟩
  · refine spec_l05_StandShown (by simp) (awpC_sound _ ?_)
    simp [C_l05_StandShown, HullM.v, HullM.cells, WetM.v]
    refine CallK.pure B_l05_Tide (l05_Tide_at x hlo hhi _) ?_
    simp
    refine CallK.pure B_stand_Why (stand_Why_at hl hw _) ?_
    simp
    refine CallK.pure B_l05_valid (l05_valid_yes hl he _) ?_
    simp
    exact CallK.pure B_l05_Awake (awake_spec _) (by simp)
  have w0b : 0 ≤ w0 ∧ w0 ≤ 1000 := by omega
  have hbad := why_bad hf w0b.1 w0b.2 r1
  have n1 : ¬ w0 < lo := by omega
  have n2 : ¬ hi < w0 := by omega
  have hwx : IntKind.i64.wrap x.w = x.w := wrap_id (by have := x.hw; omega) (by have := x.hw; omega)
  have hwm : IntKind.i64.wrap (w0 - 1) = w0 - 1 := wrap_id (by omega) (by omega)
  -- the walk, for any reason y
  have key : ∀ y : Int, y ≠ 0 → whyZ h w0 = y → whyR h lo hi = (y, w0, 0) → (y = 1 ∧ inZ h (shownT h y) w0 0 ≤ 0) ∨ (y = 2 ∧ inZ h (shownT h y) w0 1 < 0) ∨ (y = 3 ∧ inZ h (shownT h y) w0 2 < 0) → Spec Try.prog F_l05_StandShown [h.v, x.v] [] fun r _ => r = .ret (.bool true) := by
    intro y hy0 hy hw hbad
    have hts := shown_true hf y
    have hns : whyF (inZ h (shownT h y) w0 0) (inZ h (shownT h y) w0 1) (inZ h (shownT h y) w0 2) ≠ 0 := by
      rw [Ne, whyF_zero]; omega
    have hB := fun σ => stand_Balance_at he hts w0b.1 w0b.2 σ
    have hN := fun σ => stands_no he hts w0b.1 w0b.2 hns σ
    have hR := fun σ => r05_Truth_at he hts σ
    have hS := fun σ => stand_Show_at he w0b.1 w0b.2 hy σ
    obtain ⟨S0, h0⟩ : ∃ S0, inZ h (shownT h y) w0 0 = S0 := ⟨_, rfl⟩
    obtain ⟨S1, h1⟩ : ∃ S1, inZ h (shownT h y) w0 1 = S1 := ⟨_, rfl⟩
    obtain ⟨S2, h2⟩ : ∃ S2, inZ h (shownT h y) w0 2 = S2 := ⟨_, rfl⟩
    rw [h0, h1, h2] at hbad
    simp only [h0, h1, h2] at hB
    clear hns hts
    refine spec_l05_StandShown (by simp) (awpC_sound _ ?_)
    simp [C_l05_StandShown, HullM.v, HullM.cells, WetM.v]
    refine CallK.pure B_l05_Tide (l05_Tide_at x hlo hhi _) ?_
    simp
    refine CallK.pure B_stand_Why (stand_Why_at hl hw _) ?_
    simp
    refine CallK.pure B_l05_valid (l05_valid_yes hl he _) ?_
    simp [hy0]
    refine CallK.pure B_stand_Show (hS _) ?_
    simp [TruthM.v]
    refine CallK.pure B_r05_Truth (hR _) ?_
    simp [n1, n2, TruthM.v]
    refine CallK.pure B_stand_Balance (hB _) ?_
    refine hbad.elim (fun hb => ?_) (fun hbad => hbad.elim (fun hb => ?_) (fun hb => ?_))
    · obtain ⟨rfl, hb⟩ := hb
      simp [hb, TruthM.v]
      refine CallK.pure B_l05_stands (hN _) ?_
      simp [hb, TruthM.v, hwm, hwx]
      refine ⟨fun _ => CallK.pure B_l05_Awake (awake_spec _) (by simp), fun hne => ?_⟩
      have ham := amongF_b (n := x.w) ht.1 (by omega : lo ≤ w0 - 1) (by omega) x.hw.1 (by have := x.hw; omega)
      have hst := stands_sure he (anyT_true hf x.hl.2) (by omega : 0 ≤ amongF lo (w0 - 1) x.w) (by omega) (hall _ ham.2.1 (by omega))
      refine ⟨_, fun σ' _ => CallV.fn0 B_l05_Truth (l05_Truth_spec h hf x.l x.hl.1 x.hl.2 σ'), ?_⟩
      simp [TruthM.v]
      refine ⟨_, fun σ' => CallV.fn0 B_l05_span (l05_span_spec lo (w0 - 1) σ'), ?_⟩
      simp
      refine ⟨_, fun σ' => CallV.fn0 B_l05_among (l05_among_spec _ _ _ ham.1 σ'), ?_⟩
      simp
      refine ⟨.bool true, fun σ' _ => CallV.fn0 B_l05_stands (stands_yes hl hst σ'), ?_⟩
      simp
      exact ⟨.bool true, fun σ' => CallV.fn0 B_l05_Awake (awake_spec σ'), by simp⟩
    · obtain ⟨rfl, hb⟩ := hb
      simp [hb, TruthM.v]
      refine CallK.pure B_l05_stands (hN _) ?_
      simp [hb, TruthM.v, hwm, hwx]
      refine ⟨fun _ => CallK.pure B_l05_Awake (awake_spec _) (by simp), fun hne => ?_⟩
      have ham := amongF_b (n := x.w) ht.1 (by omega : lo ≤ w0 - 1) (by omega) x.hw.1 (by have := x.hw; omega)
      have hst := stands_sure he (anyT_true hf x.hl.2) (by omega : 0 ≤ amongF lo (w0 - 1) x.w) (by omega) (hall _ ham.2.1 (by omega))
      refine ⟨_, fun σ' _ => CallV.fn0 B_l05_Truth (l05_Truth_spec h hf x.l x.hl.1 x.hl.2 σ'), ?_⟩
      simp [TruthM.v]
      refine ⟨_, fun σ' => CallV.fn0 B_l05_span (l05_span_spec lo (w0 - 1) σ'), ?_⟩
      simp
      refine ⟨_, fun σ' => CallV.fn0 B_l05_among (l05_among_spec _ _ _ ham.1 σ'), ?_⟩
      simp
      refine ⟨.bool true, fun σ' _ => CallV.fn0 B_l05_stands (stands_yes hl hst σ'), ?_⟩
      simp
      exact ⟨.bool true, fun σ' => CallV.fn0 B_l05_Awake (awake_spec σ'), by simp⟩
    · obtain ⟨rfl, hb⟩ := hb
      simp [hb, TruthM.v]
      refine CallK.pure B_l05_stands (hN _) ?_
      simp [hb, TruthM.v, hwm, hwx]
      refine ⟨fun _ => CallK.pure B_l05_Awake (awake_spec _) (by simp), fun hne => ?_⟩
      have ham := amongF_b (n := x.w) ht.1 (by omega : lo ≤ w0 - 1) (by omega) x.hw.1 (by have := x.hw; omega)
      have hst := stands_sure he (anyT_true hf x.hl.2) (by omega : 0 ≤ amongF lo (w0 - 1) x.w) (by omega) (hall _ ham.2.1 (by omega))
      refine ⟨_, fun σ' _ => CallV.fn0 B_l05_Truth (l05_Truth_spec h hf x.l x.hl.1 x.hl.2 σ'), ?_⟩
      simp [TruthM.v]
      refine ⟨_, fun σ' => CallV.fn0 B_l05_span (l05_span_spec lo (w0 - 1) σ'), ?_⟩
      simp
      refine ⟨_, fun σ' => CallV.fn0 B_l05_among (l05_among_spec _ _ _ ham.1 σ'), ?_⟩
      simp
      refine ⟨.bool true, fun σ' _ => CallV.fn0 B_l05_stands (stands_yes hl hst σ'), ?_⟩
      simp
      exact ⟨.bool true, fun σ' => CallV.fn0 B_l05_Awake (awake_spec σ'), by simp⟩
  rcases hbad with ⟨e, hb⟩ | ⟨e, hb⟩ | ⟨e, hb⟩
  · exact key 1 (by decide) e (by rw [hw, e]) (.inl ⟨rfl, hb⟩)
  · exact key 2 (by decide) e (by rw [hw, e]) (.inr (.inl ⟨rfl, hb⟩))
  · exact key 3 (by decide) e (by rw [hw, e]) (.inr (.inr ⟨rfl, hb⟩))
end Go.AM
