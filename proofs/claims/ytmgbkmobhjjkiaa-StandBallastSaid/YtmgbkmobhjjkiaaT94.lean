/- Ballast: of the program. -/
import Derived.Test.YtmgbkmobhjjkiaaT93
namespace Go.AM
open Go.Proofs
set_option maxRecDepth 100000
set_option maxHeartbeats 2000000

theorem armZ_nn {h : HullM} {q : PartM} (ha : h.aft ≤ q.at_ ∧ q.at_ ≤ h.fore) (j : Nat) : 0 ≤ armZ h j q := by
  unfold armZ; split
  · omega
  · split <;> omega

theorem parts_pok' {h : HullM} (he : eF h = 0) : ∀ p ∈ h.ps, POk p := fun p hp => by
  have h' := he
  unfold eF checkF at h'
  split at h'
  · cases h'
  · split at h'
    · cases h'
    · split at h'
      · cases h'
      · exact partE_iff.1 (parts_ok _ _ _ h' p hp)

theorem needS_b {h : HullM} (hf : Fine h) {w : Int} (h0 : 0 ≤ w) (h1 : w ≤ 1000) (j : Nat) : -4000000000001 ≤ needS h w j ∧ needS h w j ≤ 4000000000000 := by
  unfold needS
  split
  · have := leastZ_b hf h0 h1 0; omega
  · have := leastZ_b hf h0 h1 j; omega

theorem fit_iff (h : HullM) (q : PartM) (w b : Int) : Fit h q w b ↔ 0 ≤ needS h w 0 + armZ h 0 q * b ∧ 0 ≤ needS h w 1 + armZ h 1 q * b ∧ 0 ≤ needS h w 2 + armZ h 2 q * b := by
  constructor
  · intro hF
    exact ⟨hF 0 (by decide), hF 1 (by decide), hF 2 (by decide)⟩
  · rintro ⟨h0, h1, h2⟩ j hj
    rcases (by omega : j = 0 ∨ j = 1 ∨ j = 2) with e | e | e <;> subst e
    · exact h0
    · exact h1
    · exact h2

theorem stand_Ballast_spec (h : HullM) (hl : h.ps.length ≤ maxLen) (part lo hi : Int) (hp : -9223372036854775808 ≤ part ∧ part ≤ 9223372036854775807) (σ : AHeap) :
    Spec Try.prog F_stand_Ballast [h.v, ii' part, tideV lo hi] σ fun r σ' => r = .ret (pairV (ballR h part lo hi)) ∧ σ' = σ := by
  refine Spec.pureFn (spec_stand_Ballast (by simp) (awpC_sound _ ?_)) (by simp [h.pure]; rfl) rfl σ
  have hlw : IntKind.i64.wrap ((h.ps.length : Int) - 1) = (h.ps.length : Int) - 1 := wrap_id (by omega) (by simp only [maxLen] at hl; omega)
  refine (Classical.em (eF h = 0)).elim (fun he => ?_) (fun he => ?_)
  rotate_left
  · have hchk : tripV (checkF h) = .tup [ii' (checkF h).1, ii' (checkF h).2.1, ii' (eF h)] := rfl
    simp [C_stand_Ballast, HullM.v, HullM.cells, tideV]
    refine CallK.pureE B_stand_Check (stand_Check_spec h hl _) hchk ?_
    simp [he, ballR, pairV]
  have hchk : tripV (checkF h) = .tup [ii' (checkF h).1, ii' (checkF h).2.1, ii' 0] := by rw [← he]; rfl
  have hbi : beyondF 0 ((h.ps.length : Int) - 1) [part] = !insF part 0 ((h.ps.length : Int) - 1) := (insF_beyond _ _ _).symm
  refine (tf (insF part 0 ((h.ps.length : Int) - 1))).elim (fun h1 => ?_) (fun h1 => ?_)
  · rw [h1] at hbi
    simp [C_stand_Ballast, HullM.v, HullM.cells, tideV]
    refine CallK.pureE B_stand_Check (stand_Check_spec h hl _) hchk ?_
    simp [hlw]
    refine CallK.pureE B_stand_beyond (stand_beyond_spec 0 ((h.ps.length : Int) - 1) [part] (by simp [maxLen]) _) (congrArg AVal.bool hbi) ?_
    simp [he, ballR, pairV, h1]
  rw [h1] at hbi
  have hin : 0 ≤ part ∧ part ≤ (h.ps.length : Int) - 1 := by simpa [insF] using h1
  obtain ⟨i, rfl⟩ : ∃ i : Nat, part = i := ⟨part.toNat, by omega⟩
  have hi' : i < h.ps.length := by omega
  obtain ⟨q, hq'⟩ : ∃ q, h.ps[i] = q := ⟨_, rfl⟩
  have hq : h.ps[i]? = some q := by rw [List.getElem?_eq_getElem hi', hq']
  have hR : ballR h i lo hi = if insF q.at_ h.aft h.fore = false then (0, 2) else if spanErr (lo, hi) 0 1000 ≠ 0 then (0, spanErr (lo, hi) 0 1000) else ballF h q lo hi := by
    unfold ballR
    rw [if_neg (by rw [he]; simp), if_neg (by rw [h1]; simp)]
    simp only [Int.toNat_natCast, hq]
  rw [hR]
  have hic : (i : Int) < h.ps.length := by omega
  have hb2 : beyondF h.aft h.fore [q.at_] = !insF q.at_ h.aft h.fore := (insF_beyond _ _ _).symm
  simp [C_stand_Ballast, HullM.v, HullM.cells, tideV]
  refine CallK.pureE B_stand_Check (stand_Check_spec h hl _) hchk ?_
  simp [hlw]
  refine CallK.pureE B_stand_beyond (stand_beyond_spec 0 ((h.ps.length : Int) - 1) [(i : Int)] (by simp [maxLen]) _) (congrArg AVal.bool hbi) ?_
  simp [hi', hq', hic, PartM.v, PartM.cells]
  refine ⟨.bool (!insF q.at_ h.aft h.fore), fun σ' => by rw [← hb2]; exact CallV.fn0 B_stand_beyond (stand_beyond_spec h.aft h.fore [q.at_] (by simp [maxLen]) σ'), ?_⟩
  refine (tf (insF q.at_ h.aft h.fore)).elim (fun h2 => ?_) (fun h2 => ?_)
  · simp [h2, pairV]
  simp [h2]
  refine CallK.pure B_stand_tidal (stand_tidal_spec lo hi _) ?_
  refine (Classical.em (spanErr (lo, hi) 0 1000 = 0)).elim (fun h3 => ?_) (fun h3 => ?_)
  rotate_left
  · simp [h2, h3, pairV]
  have ht := spanErr_zero h3
  have hf := fine_of he
  have hpok := parts_pok' he
  have hqk := hpok q (List.mem_of_getElem? hq)
  have ha : h.aft ≤ q.at_ ∧ q.at_ ≤ h.fore := by simpa [insF] using h2
  simp [h3]
  refine CallK.pure B_stand_body_bends (stand_bends_spec h lo hi _) ?_
  simp
  refine AW.rangeF (by simp) fun asg' body' ca cb hps => ?_
  have hpartv : AVal.pure (ii' (i : Int)) = true := rfl
  change CallF Try.prog (AVal.func (Fn.func 92) [] [(tideV lo hi).pval, h.v.pval]) [AVal.yieldf 5] [AObj.box [ii' 0], AObj.box [ii' 0], .dead, .box [ii' 0], .dfr, AObj.looprec 116 [(3, (AVal.agg [AVal.slice 7 (List.map PartM.v h.ps), ii' h.aft, ii' h.fore]).pval), (4, (ii' (i : Int)).pval), (6, AVal.ptr 0 0), (7, AVal.ptr 1 0), (11, (AVal.agg [AVal.slice 7 (List.map PartM.v h.ps), ii' h.aft, ii' h.fore]).pval), (12, AVal.ptr 3 0), (60, AVal.func (Fn.func 92) [] [(tideV lo hi).pval, h.v.pval])] [61] asg' body' 4 .ready none] (rangeQ 5 _ _)
  refine CallF.func B_stand_body_bends_1 ((bends_1_spec h hf.len.2 lo hi ht.2.1 5 [AObj.box [ii' 0], AObj.box [ii' 0], .dead, .box [ii' 0], .dfr, AObj.looprec 116 [(3, (AVal.agg [AVal.slice 7 (List.map PartM.v h.ps), ii' h.aft, ii' h.fore]).pval), (4, (ii' (i : Int)).pval), (6, AVal.ptr 0 0), (7, AVal.ptr 1 0), (11, (AVal.agg [AVal.slice 7 (List.map PartM.v h.ps), ii' h.aft, ii' h.fore]).pval), (12, AVal.ptr 3 0), (60, AVal.func (Fn.func 92) [] [(tideV lo hi).pval, h.v.pval])] [61] asg' body' 4 .ready none]
    (fun d s => ∃ M : Int, s = [AObj.box [ii' 0], AObj.box [ii' 0], .dead, .box [ii' M], .dfr, AObj.looprec 116 [(3, (AVal.agg [AVal.slice 7 (List.map PartM.v h.ps), ii' h.aft, ii' h.fore]).pval), (4, (ii' (i : Int)).pval), (6, AVal.ptr 0 0), (7, AVal.ptr 1 0), (11, (AVal.agg [AVal.slice 7 (List.map PartM.v h.ps), ii' h.aft, ii' h.fore]).pval), (12, AVal.ptr 3 0), (60, AVal.func (Fn.func 92) [] [(tideV lo hi).pval, h.v.pval])] [61] asg' body' 4 .ready none] ∧ 0 ≤ M ∧ ∀ b, 0 ≤ b → ((∀ w, lo ≤ w → w ≤ d → Fit h q w b) ↔ M ≤ b))
    (fun s => ∃ M w : Int, s = [AObj.box [ii' 0], AObj.box [ii' 9], .dead, .box [ii' M], .dfr, AObj.looprec 116 [(3, (AVal.agg [AVal.slice 7 (List.map PartM.v h.ps), ii' h.aft, ii' h.fore]).pval), (4, (ii' (i : Int)).pval), (6, AVal.ptr 0 0), (7, AVal.ptr 1 0), (11, (AVal.agg [AVal.slice 7 (List.map PartM.v h.ps), ii' h.aft, ii' h.fore]).pval), (12, AVal.ptr 3 0), (60, AVal.func (Fn.func 92) [] [(tideV lo hi).pval, h.v.pval])] [61] asg' body' 4 .done (some .ret)] ∧ lo ≤ w ∧ w ≤ hi ∧ ∀ b, ¬ Fit h q w b) ?_ ?_).mono ?_)
  · rintro d from_ to s tl ⟨M, rfl, hM, hMb⟩ hsl hdf hfd hlf hft hto hev
    refine CallV.round (e := [(3, (AVal.agg [AVal.slice 7 (List.map PartM.v h.ps), ii' h.aft, ii' h.fore]).pval), (4, (ii' (i : Int)).pval), (6, AVal.ptr 0 0), (7, AVal.ptr 1 0), (11, (AVal.agg [AVal.slice 7 (List.map PartM.v h.ps), ii' h.aft, ii' h.fore]).pval), (12, AVal.ptr 3 0), (60, AVal.func (Fn.func 92) [] [(tideV lo hi).pval, h.v.pval])]) (D := 4) (pend := none) ca cb hps (by simp) rfl ?_
    clear ca cb
    refine awpC_sound _ ?_
    simp [putArgs, tideV]
    refine ⟨_, _, _, _, _, _, _, ⟨rfl, rfl, rfl, rfl, rfl, rfl, rfl⟩, ?_⟩
    refine awpC_sound _ ?_
    simp
    have arm0 : PureF Try.prog (.func (.func 87) [] []) [q.v] (ii' (armZ h 0 q)) := by rw [← (armF_eq hf hqk.fine 0).1]; exact PureF.fn B_stand_body_levers_1 (fun σ => stand_levers_1_spec q σ)
    have arm1 : PureF Try.prog (.func (.func 88) [] [.pval h.v]) [q.v] (ii' (armZ h 1 q)) := by rw [← (armF_eq hf hqk.fine 1).1]; exact PureF.fn B_stand_body_levers_2 (fun σ => stand_levers_2_spec q h σ)
    have arm2 : PureF Try.prog (.func (.func 89) [] [.pval h.v]) [q.v] (ii' (armZ h 2 q)) := by rw [← (armF_eq hf hqk.fine 2).1]; exact PureF.fn B_stand_body_levers_3 (fun σ => stand_levers_3_spec q h σ)
    refine AW.loop (ι := Nat) (fun n fr σ => ∃ (M : Int) (x : AHeap), fr = { v := [(3, (AVal.agg [AVal.slice 7 (List.map PartM.v h.ps), ii' h.aft, ii' h.fore]).pval), (4, (ii' (i : Int)).pval), (6, AVal.ptr 0 0), (7, AVal.ptr 1 0), (11, (AVal.agg [AVal.slice 7 (List.map PartM.v h.ps), ii' h.aft, ii' h.fore]).pval), (12, AVal.ptr 3 0), (66, AVal.slice 1 [ii' from_, ii' to]), (67, .int .i64 2), (68, .int .i64 n)], ds := [] } ∧ σ = AObj.box [ii' 0] :: .box [ii' 0] :: .dead :: .box [ii' M] :: .dfr :: AObj.looprec 116 [(3, (AVal.agg [AVal.slice 7 (List.map PartM.v h.ps), ii' h.aft, ii' h.fore]).pval), (4, (ii' (i : Int)).pval), (6, AVal.ptr 0 0), (7, AVal.ptr 1 0), (11, (AVal.agg [AVal.slice 7 (List.map PartM.v h.ps), ii' h.aft, ii' h.fore]).pval), (12, AVal.ptr 3 0), (60, AVal.func (Fn.func 92) [] [(tideV lo hi).pval, h.v.pval])] [61] asg' body' 4  .busy none :: (tl ++ x) ∧ n ≤ 2 ∧ 0 ≤ M ∧
      ∀ b, 0 ≤ b → (((∀ w, lo ≤ w → w ≤ d → Fit h q w b) ∧ (1 ≤ n → Fit h q from_ b) ∧ (2 ≤ n → Fit h q to b)) ↔ M ≤ b)) (fun n => 2 - n) 0 ⟨M, [.box [ii' from_, ii' to]], by simp, rfl, by omega, hM, fun b hb => by rw [← hMb b hb]; simp⟩ ?_
    rintro n fr σ ⟨M1, x, rfl, rfl, hn, hM1, hM1b⟩
    have hn3 : n = 0 ∨ n = 1 ∨ n = 2 := by omega
    refine hn3.elim (fun e => ?_) (fun hn3 => hn3.elim (fun e => ?_) (fun e => ?_))
    · subst e
      obtain ⟨s0, q0⟩ : ∃ s, needS h from_ 0 = s := ⟨_, rfl⟩
      obtain ⟨s1, q1⟩ : ∃ s, needS h from_ 1 = s := ⟨_, rfl⟩
      obtain ⟨s2, q2⟩ : ∃ s, needS h from_ 2 = s := ⟨_, rfl⟩
      have b0 := needS_b hf (w := from_) (by omega) (by omega) 0
      have b1 := needS_b hf (w := from_) (by omega) (by omega) 1
      have b2 := needS_b hf (w := from_) (by omega) (by omega) 2
      rw [q0] at b0
      rw [q1] at b1
      rw [q2] at b2
      have e0 : IntKind.i64.wrap (leastS h from_ 0 - 1) = s0 := by
        rw [leastS_z hf (by omega) (by omega), ← q0]
        simp only [needS, if_true] at q0 ⊢
        exact wrap_id (by omega) (by omega)
      have e1 : leastS h from_ 1 = s1 := by rw [leastS_z hf (by omega) (by omega), ← q1]; simp [needS]
      have e2 : leastS h from_ 2 = s2 := by rw [leastS_z hf (by omega) (by omega), ← q2]; simp [needS]
      refine awpC_sound _ ?_
      simp
      refine CallK.pure B_stand_body_least (stand_least_spec h hf.maxLen from_ _) ?_
      simp [sumsV, e0, e1, e2]
      refine CallK.pure B_stand_body_levers (stand_levers_spec h _) ?_
      simp [leversV, HullM.v, HullM.cells]
      refine AW.loop (ι := Nat) (fun j fr σ => ∃ (M2 : Int) (y : AHeap), fr = { v := [(3, (AVal.agg [AVal.slice 7 (List.map PartM.v h.ps), ii' h.aft, ii' h.fore]).pval), (4, (ii' (i : Int)).pval), (6, AVal.ptr 0 0), (7, AVal.ptr 1 0), (11, (AVal.agg [AVal.slice 7 (List.map PartM.v h.ps), ii' h.aft, ii' h.fore]).pval), (12, AVal.ptr 3 0), (16, .ptr ((tl ++ x).length + 1 + 1 + 1 + 1 + 1 + 1) 0), (66, AVal.slice 1 [ii' from_, ii' to]), (67, .int .i64 2), (68, .int .i64 0), (80, AVal.agg [.func (.func 87) [] [], .func (.func 90) [] [], .func (.func 91) [] [], .func (.func 88) [] [(AVal.agg [AVal.slice 7 (List.map PartM.v h.ps), ii' h.aft, ii' h.fore]).pval], .func (.func 90) [] [], .func (.func 91) [] [], .func (.func 89) [] [(AVal.agg [AVal.slice 7 (List.map PartM.v h.ps), ii' h.aft, ii' h.fore]).pval], .func (.func 90) [] [], .func (.func 91) [] []]), (81, .int .i64 j)], ds := [] } ∧
        σ = AObj.box [ii' 0] :: .box [ii' 0] :: .dead :: .box [ii' M2] :: .dfr :: AObj.looprec 116 [(3, (AVal.agg [AVal.slice 7 (List.map PartM.v h.ps), ii' h.aft, ii' h.fore]).pval), (4, (ii' (i : Int)).pval), (6, AVal.ptr 0 0), (7, AVal.ptr 1 0), (11, (AVal.agg [AVal.slice 7 (List.map PartM.v h.ps), ii' h.aft, ii' h.fore]).pval), (12, AVal.ptr 3 0), (60, AVal.func (Fn.func 92) [] [(tideV lo hi).pval, h.v.pval])] [61] asg' body' 4  .busy none :: (tl ++ x ++ .box [ii' s0, ii' s1, ii' s2] :: y) ∧ j ≤ 3 ∧ 0 ≤ M2 ∧
        ∀ b, 0 ≤ b → ((M1 ≤ b ∧ (1 ≤ j → 0 ≤ s0 + armZ h 0 q * b) ∧ (2 ≤ j → 0 ≤ s1 + armZ h 1 q * b) ∧ (3 ≤ j → 0 ≤ s2 + armZ h 2 q * b)) ↔ M2 ≤ b)) (fun j => 3 - j) 0 ⟨M1, [], by simp, by simp [HullM.v, HullM.cells], by omega, hM1, fun b hb => by simp⟩ ?_
      rintro j fr σ ⟨M2, y, rfl, rfl, hj, hM2, hM2b⟩
      have hj4 : j = 0 ∨ j = 1 ∨ j = 2 ∨ j = 3 := by omega
      refine hj4.elim (fun e => ?_) (fun hj4 => hj4.elim (fun e => ?_) (fun hj4 => hj4.elim (fun e => ?_) (fun e => ?_)))
      · subst e
        refine awpC_sound _ ?_
        simp [hi', hq', hic, PartM.v, PartM.cells]
        refine ⟨_, fun σ' => arm0 σ', ?_⟩
        obtain ⟨ar, har⟩ : ∃ ar, armZ h 0 q = ar := ⟨_, rfl⟩
        have har0 : 0 ≤ ar ∧ ar ≤ 5000 := ⟨har ▸ armZ_nn ha 0, har ▸ (armF_eq hf hqk.fine 0).2.2⟩
        rw [har] at hM2b
        have v1 : IntKind.i64.wrap (ar - 1) = ar - 1 := wrap_id (by omega) (by omega)
        have v2 : IntKind.i64.wrap (ar - 1 - s0) = ar - 1 - s0 := wrap_id (by omega) (by omega)
        have w1 : IntKind.i64.wrap 1 = 1 := by decide
        have w2 : IntKind.i64.wrap 2 = 2 := by decide
        have w3 : IntKind.i64.wrap 3 = 3 := by decide
        refine (Classical.em (0 ≤ s0)).elim (fun hs => ?_) (fun hs => ?_)
        · have hns : ¬ s0 < 0 := by omega
          have hst : stepB s0 ar M2 = some M2 := by unfold stepB; rw [if_pos hs]
          simp [hs, hns, har, w1]
          refine ⟨1, by omega, rfl, by omega, hM2, fun b hb => ?_⟩
          have k := hM2b b hb
          have st := stepB_some har0.1 hst hb
          omega
        have hs' : s0 < 0 := by omega
        refine (Classical.em (ar = 0)).elim (fun hz => ?_) (fun hz => ?_)
        · simp [hs, hs', har, hz]
          refine ⟨_, _, _, _, _, _, _, _, rfl, [_, _, _, _, _, _], ⟨_, rfl⟩, rfl, .inr ⟨rfl, ⟨_, rfl⟩, from_, by omega, by omega, fun b hF => ?_⟩⟩
          have hF' := hF 0 (by decide)
          rw [q0, har, hz, Int.zero_mul] at hF'
          omega
        · have v3 : (ar - 1 - s0).tdiv ar = (ar - 1 - s0) / ar := Int.tdiv_eq_ediv_of_nonneg (by omega)
          obtain ⟨Q, hQ⟩ : ∃ Q, (ar - 1 - s0) / ar = Q := ⟨_, rfl⟩
          have hQ0 : 0 ≤ Q := by rw [← hQ]; exact Int.ediv_nonneg (by omega) har0.1
          have hQ1 : Q ≤ ar - 1 - s0 := by rw [← hQ]; exact Int.ediv_le_self _ (by omega)
          have vQ : IntKind.i64.wrap Q = Q := wrap_id (by omega) (by omega)
          obtain ⟨M3, hM3⟩ : ∃ M3, (if M2 < Q then Q else M2) = M3 := ⟨_, rfl⟩
          have hst : stepB s0 ar M2 = some M3 := by unfold stepB; rw [if_neg hs, if_neg hz, hQ, hM3]
          have hM30 := stepB_nn hM2 hst
          simp [hs, hs', har, hz, v1, v2, v3, hQ, vQ, hM3, w1]
          refine ⟨1, by omega, rfl, by omega, hM30, fun b hb => ?_⟩
          have k := hM2b b hb
          have st := stepB_some har0.1 hst hb
          omega
      · subst e
        refine awpC_sound _ ?_
        simp [hi', hq', hic, PartM.v, PartM.cells]
        refine ⟨_, fun σ' _ => arm1 σ', ?_⟩
        obtain ⟨ar, har⟩ : ∃ ar, armZ h 1 q = ar := ⟨_, rfl⟩
        have har0 : 0 ≤ ar ∧ ar ≤ 5000 := ⟨har ▸ armZ_nn ha 1, har ▸ (armF_eq hf hqk.fine 1).2.2⟩
        rw [har] at hM2b
        have v1 : IntKind.i64.wrap (ar - 1) = ar - 1 := wrap_id (by omega) (by omega)
        have v2 : IntKind.i64.wrap (ar - 1 - s1) = ar - 1 - s1 := wrap_id (by omega) (by omega)
        have w1 : IntKind.i64.wrap 1 = 1 := by decide
        have w2 : IntKind.i64.wrap 2 = 2 := by decide
        have w3 : IntKind.i64.wrap 3 = 3 := by decide
        refine (Classical.em (0 ≤ s1)).elim (fun hs => ?_) (fun hs => ?_)
        · have hns : ¬ s1 < 0 := by omega
          have hst : stepB s1 ar M2 = some M2 := by unfold stepB; rw [if_pos hs]
          simp [hs, hns, har, w2]
          refine ⟨2, by omega, rfl, by omega, hM2, fun b hb => ?_⟩
          have k := hM2b b hb
          have st := stepB_some har0.1 hst hb
          omega
        have hs' : s1 < 0 := by omega
        refine (Classical.em (ar = 0)).elim (fun hz => ?_) (fun hz => ?_)
        · simp [hs, hs', har, hz]
          refine ⟨_, _, _, _, _, _, _, _, rfl, [_, _, _, _, _, _], ⟨_, rfl⟩, rfl, .inr ⟨rfl, ⟨_, rfl⟩, from_, by omega, by omega, fun b hF => ?_⟩⟩
          have hF' := hF 1 (by decide)
          rw [q1, har, hz, Int.zero_mul] at hF'
          omega
        · have v3 : (ar - 1 - s1).tdiv ar = (ar - 1 - s1) / ar := Int.tdiv_eq_ediv_of_nonneg (by omega)
          obtain ⟨Q, hQ⟩ : ∃ Q, (ar - 1 - s1) / ar = Q := ⟨_, rfl⟩
          have hQ0 : 0 ≤ Q := by rw [← hQ]; exact Int.ediv_nonneg (by omega) har0.1
          have hQ1 : Q ≤ ar - 1 - s1 := by rw [← hQ]; exact Int.ediv_le_self _ (by omega)
          have vQ : IntKind.i64.wrap Q = Q := wrap_id (by omega) (by omega)
          obtain ⟨M3, hM3⟩ : ∃ M3, (if M2 < Q then Q else M2) = M3 := ⟨_, rfl⟩
          have hst : stepB s1 ar M2 = some M3 := by unfold stepB; rw [if_neg hs, if_neg hz, hQ, hM3]
          have hM30 := stepB_nn hM2 hst
          simp [hs, hs', har, hz, v1, v2, v3, hQ, vQ, hM3, w2]
          refine ⟨2, by omega, rfl, by omega, hM30, fun b hb => ?_⟩
          have k := hM2b b hb
          have st := stepB_some har0.1 hst hb
          omega
      · subst e
        refine awpC_sound _ ?_
        simp [hi', hq', hic, PartM.v, PartM.cells]
        refine ⟨_, fun σ' _ => arm2 σ', ?_⟩
        obtain ⟨ar, har⟩ : ∃ ar, armZ h 2 q = ar := ⟨_, rfl⟩
        have har0 : 0 ≤ ar ∧ ar ≤ 5000 := ⟨har ▸ armZ_nn ha 2, har ▸ (armF_eq hf hqk.fine 2).2.2⟩
        rw [har] at hM2b
        have v1 : IntKind.i64.wrap (ar - 1) = ar - 1 := wrap_id (by omega) (by omega)
        have v2 : IntKind.i64.wrap (ar - 1 - s2) = ar - 1 - s2 := wrap_id (by omega) (by omega)
        have w1 : IntKind.i64.wrap 1 = 1 := by decide
        have w2 : IntKind.i64.wrap 2 = 2 := by decide
        have w3 : IntKind.i64.wrap 3 = 3 := by decide
        refine (Classical.em (0 ≤ s2)).elim (fun hs => ?_) (fun hs => ?_)
        · have hns : ¬ s2 < 0 := by omega
          have hst : stepB s2 ar M2 = some M2 := by unfold stepB; rw [if_pos hs]
          simp [hs, hns, har, w3]
          refine ⟨3, by omega, rfl, by omega, hM2, fun b hb => ?_⟩
          have k := hM2b b hb
          have st := stepB_some har0.1 hst hb
          omega
        have hs' : s2 < 0 := by omega
        refine (Classical.em (ar = 0)).elim (fun hz => ?_) (fun hz => ?_)
        · simp [hs, hs', har, hz]
          refine ⟨_, _, _, _, _, _, _, _, rfl, [_, _, _, _, _, _], ⟨_, rfl⟩, rfl, .inr ⟨rfl, ⟨_, rfl⟩, from_, by omega, by omega, fun b hF => ?_⟩⟩
          have hF' := hF 2 (by decide)
          rw [q2, har, hz, Int.zero_mul] at hF'
          omega
        · have v3 : (ar - 1 - s2).tdiv ar = (ar - 1 - s2) / ar := Int.tdiv_eq_ediv_of_nonneg (by omega)
          obtain ⟨Q, hQ⟩ : ∃ Q, (ar - 1 - s2) / ar = Q := ⟨_, rfl⟩
          have hQ0 : 0 ≤ Q := by rw [← hQ]; exact Int.ediv_nonneg (by omega) har0.1
          have hQ1 : Q ≤ ar - 1 - s2 := by rw [← hQ]; exact Int.ediv_le_self _ (by omega)
          have vQ : IntKind.i64.wrap Q = Q := wrap_id (by omega) (by omega)
          obtain ⟨M3, hM3⟩ : ∃ M3, (if M2 < Q then Q else M2) = M3 := ⟨_, rfl⟩
          have hst : stepB s2 ar M2 = some M3 := by unfold stepB; rw [if_neg hs, if_neg hz, hQ, hM3]
          have hM30 := stepB_nn hM2 hst
          simp [hs, hs', har, hz, v1, v2, v3, hQ, vQ, hM3, w3]
          refine ⟨3, by omega, rfl, by omega, hM30, fun b hb => ?_⟩
          have k := hM2b b hb
          have st := stepB_some har0.1 hst hb
          omega
      · subst e
        refine awpC_sound _ ?_
        simp
        refine ⟨1, by omega, by decide, by omega, hM2, fun b hb => ⟨fun ⟨g1, g2, _⟩ => ?_, fun hm => ?_⟩⟩
        · have f := (fit_iff h q from_ b).1 (g2 (by decide))
          rw [q0, q1, q2] at f
          exact (hM2b b hb).1 ⟨(hM1b b hb).1 ⟨g1, fun h => absurd h (by decide), fun h => absurd h (by decide)⟩, fun _ => f.1, fun _ => f.2.1, fun _ => f.2.2⟩
        · have k := (hM2b b hb).2 hm
          refine ⟨((hM1b b hb).2 k.1).1, fun _ => (fit_iff h q from_ b).2 ?_, fun h => absurd h (by decide)⟩
          rw [q0, q1, q2]
          exact ⟨k.2.1 (by decide), k.2.2.1 (by decide), k.2.2.2 (by decide)⟩
    · subst e
      obtain ⟨s0, q0⟩ : ∃ s, needS h to 0 = s := ⟨_, rfl⟩
      obtain ⟨s1, q1⟩ : ∃ s, needS h to 1 = s := ⟨_, rfl⟩
      obtain ⟨s2, q2⟩ : ∃ s, needS h to 2 = s := ⟨_, rfl⟩
      have b0 := needS_b hf (w := to) (by omega) (by omega) 0
      have b1 := needS_b hf (w := to) (by omega) (by omega) 1
      have b2 := needS_b hf (w := to) (by omega) (by omega) 2
      rw [q0] at b0
      rw [q1] at b1
      rw [q2] at b2
      have e0 : IntKind.i64.wrap (leastS h to 0 - 1) = s0 := by
        rw [leastS_z hf (by omega) (by omega), ← q0]
        simp only [needS, if_true] at q0 ⊢
        exact wrap_id (by omega) (by omega)
      have e1 : leastS h to 1 = s1 := by rw [leastS_z hf (by omega) (by omega), ← q1]; simp [needS]
      have e2 : leastS h to 2 = s2 := by rw [leastS_z hf (by omega) (by omega), ← q2]; simp [needS]
      refine awpC_sound _ ?_
      simp
      refine CallK.pure B_stand_body_least (stand_least_spec h hf.maxLen to _) ?_
      simp [sumsV, e0, e1, e2]
      refine CallK.pure B_stand_body_levers (stand_levers_spec h _) ?_
      simp [leversV, HullM.v, HullM.cells]
      refine AW.loop (ι := Nat) (fun j fr σ => ∃ (M2 : Int) (y : AHeap), fr = { v := [(3, (AVal.agg [AVal.slice 7 (List.map PartM.v h.ps), ii' h.aft, ii' h.fore]).pval), (4, (ii' (i : Int)).pval), (6, AVal.ptr 0 0), (7, AVal.ptr 1 0), (11, (AVal.agg [AVal.slice 7 (List.map PartM.v h.ps), ii' h.aft, ii' h.fore]).pval), (12, AVal.ptr 3 0), (16, .ptr ((tl ++ x).length + 1 + 1 + 1 + 1 + 1 + 1) 0), (66, AVal.slice 1 [ii' from_, ii' to]), (67, .int .i64 2), (68, .int .i64 1), (80, AVal.agg [.func (.func 87) [] [], .func (.func 90) [] [], .func (.func 91) [] [], .func (.func 88) [] [(AVal.agg [AVal.slice 7 (List.map PartM.v h.ps), ii' h.aft, ii' h.fore]).pval], .func (.func 90) [] [], .func (.func 91) [] [], .func (.func 89) [] [(AVal.agg [AVal.slice 7 (List.map PartM.v h.ps), ii' h.aft, ii' h.fore]).pval], .func (.func 90) [] [], .func (.func 91) [] []]), (81, .int .i64 j)], ds := [] } ∧
        σ = AObj.box [ii' 0] :: .box [ii' 0] :: .dead :: .box [ii' M2] :: .dfr :: AObj.looprec 116 [(3, (AVal.agg [AVal.slice 7 (List.map PartM.v h.ps), ii' h.aft, ii' h.fore]).pval), (4, (ii' (i : Int)).pval), (6, AVal.ptr 0 0), (7, AVal.ptr 1 0), (11, (AVal.agg [AVal.slice 7 (List.map PartM.v h.ps), ii' h.aft, ii' h.fore]).pval), (12, AVal.ptr 3 0), (60, AVal.func (Fn.func 92) [] [(tideV lo hi).pval, h.v.pval])] [61] asg' body' 4  .busy none :: (tl ++ x ++ .box [ii' s0, ii' s1, ii' s2] :: y) ∧ j ≤ 3 ∧ 0 ≤ M2 ∧
        ∀ b, 0 ≤ b → ((M1 ≤ b ∧ (1 ≤ j → 0 ≤ s0 + armZ h 0 q * b) ∧ (2 ≤ j → 0 ≤ s1 + armZ h 1 q * b) ∧ (3 ≤ j → 0 ≤ s2 + armZ h 2 q * b)) ↔ M2 ≤ b)) (fun j => 3 - j) 0 ⟨M1, [], by simp, by simp [HullM.v, HullM.cells], by omega, hM1, fun b hb => by simp⟩ ?_
      rintro j fr σ ⟨M2, y, rfl, rfl, hj, hM2, hM2b⟩
      have hj4 : j = 0 ∨ j = 1 ∨ j = 2 ∨ j = 3 := by omega
      refine hj4.elim (fun e => ?_) (fun hj4 => hj4.elim (fun e => ?_) (fun hj4 => hj4.elim (fun e => ?_) (fun e => ?_)))
      · subst e
        refine awpC_sound _ ?_
        simp [hi', hq', hic, PartM.v, PartM.cells]
        refine ⟨_, fun σ' => arm0 σ', ?_⟩
        obtain ⟨ar, har⟩ : ∃ ar, armZ h 0 q = ar := ⟨_, rfl⟩
        have har0 : 0 ≤ ar ∧ ar ≤ 5000 := ⟨har ▸ armZ_nn ha 0, har ▸ (armF_eq hf hqk.fine 0).2.2⟩
        rw [har] at hM2b
        have v1 : IntKind.i64.wrap (ar - 1) = ar - 1 := wrap_id (by omega) (by omega)
        have v2 : IntKind.i64.wrap (ar - 1 - s0) = ar - 1 - s0 := wrap_id (by omega) (by omega)
        have w1 : IntKind.i64.wrap 1 = 1 := by decide
        have w2 : IntKind.i64.wrap 2 = 2 := by decide
        have w3 : IntKind.i64.wrap 3 = 3 := by decide
        refine (Classical.em (0 ≤ s0)).elim (fun hs => ?_) (fun hs => ?_)
        · have hns : ¬ s0 < 0 := by omega
          have hst : stepB s0 ar M2 = some M2 := by unfold stepB; rw [if_pos hs]
          simp [hs, hns, har, w1]
          refine ⟨1, by omega, rfl, by omega, hM2, fun b hb => ?_⟩
          have k := hM2b b hb
          have st := stepB_some har0.1 hst hb
          omega
        have hs' : s0 < 0 := by omega
        refine (Classical.em (ar = 0)).elim (fun hz => ?_) (fun hz => ?_)
        · simp [hs, hs', har, hz]
          refine ⟨_, _, _, _, _, _, _, _, rfl, [_, _, _, _, _, _], ⟨_, rfl⟩, rfl, .inr ⟨rfl, ⟨_, rfl⟩, to, by omega, by omega, fun b hF => ?_⟩⟩
          have hF' := hF 0 (by decide)
          rw [q0, har, hz, Int.zero_mul] at hF'
          omega
        · have v3 : (ar - 1 - s0).tdiv ar = (ar - 1 - s0) / ar := Int.tdiv_eq_ediv_of_nonneg (by omega)
          obtain ⟨Q, hQ⟩ : ∃ Q, (ar - 1 - s0) / ar = Q := ⟨_, rfl⟩
          have hQ0 : 0 ≤ Q := by rw [← hQ]; exact Int.ediv_nonneg (by omega) har0.1
          have hQ1 : Q ≤ ar - 1 - s0 := by rw [← hQ]; exact Int.ediv_le_self _ (by omega)
          have vQ : IntKind.i64.wrap Q = Q := wrap_id (by omega) (by omega)
          obtain ⟨M3, hM3⟩ : ∃ M3, (if M2 < Q then Q else M2) = M3 := ⟨_, rfl⟩
          have hst : stepB s0 ar M2 = some M3 := by unfold stepB; rw [if_neg hs, if_neg hz, hQ, hM3]
          have hM30 := stepB_nn hM2 hst
          simp [hs, hs', har, hz, v1, v2, v3, hQ, vQ, hM3, w1]
          refine ⟨1, by omega, rfl, by omega, hM30, fun b hb => ?_⟩
          have k := hM2b b hb
          have st := stepB_some har0.1 hst hb
          omega
      · subst e
        refine awpC_sound _ ?_
        simp [hi', hq', hic, PartM.v, PartM.cells]
        refine ⟨_, fun σ' _ => arm1 σ', ?_⟩
        obtain ⟨ar, har⟩ : ∃ ar, armZ h 1 q = ar := ⟨_, rfl⟩
        have har0 : 0 ≤ ar ∧ ar ≤ 5000 := ⟨har ▸ armZ_nn ha 1, har ▸ (armF_eq hf hqk.fine 1).2.2⟩
        rw [har] at hM2b
        have v1 : IntKind.i64.wrap (ar - 1) = ar - 1 := wrap_id (by omega) (by omega)
        have v2 : IntKind.i64.wrap (ar - 1 - s1) = ar - 1 - s1 := wrap_id (by omega) (by omega)
        have w1 : IntKind.i64.wrap 1 = 1 := by decide
        have w2 : IntKind.i64.wrap 2 = 2 := by decide
        have w3 : IntKind.i64.wrap 3 = 3 := by decide
        refine (Classical.em (0 ≤ s1)).elim (fun hs => ?_) (fun hs => ?_)
        · have hns : ¬ s1 < 0 := by omega
          have hst : stepB s1 ar M2 = some M2 := by unfold stepB; rw [if_pos hs]
          simp [hs, hns, har, w2]
          refine ⟨2, by omega, rfl, by omega, hM2, fun b hb => ?_⟩
          have k := hM2b b hb
          have st := stepB_some har0.1 hst hb
          omega
        have hs' : s1 < 0 := by omega
        refine (Classical.em (ar = 0)).elim (fun hz => ?_) (fun hz => ?_)
        · simp [hs, hs', har, hz]
          refine ⟨_, _, _, _, _, _, _, _, rfl, [_, _, _, _, _, _], ⟨_, rfl⟩, rfl, .inr ⟨rfl, ⟨_, rfl⟩, to, by omega, by omega, fun b hF => ?_⟩⟩
          have hF' := hF 1 (by decide)
          rw [q1, har, hz, Int.zero_mul] at hF'
          omega
        · have v3 : (ar - 1 - s1).tdiv ar = (ar - 1 - s1) / ar := Int.tdiv_eq_ediv_of_nonneg (by omega)
          obtain ⟨Q, hQ⟩ : ∃ Q, (ar - 1 - s1) / ar = Q := ⟨_, rfl⟩
          have hQ0 : 0 ≤ Q := by rw [← hQ]; exact Int.ediv_nonneg (by omega) har0.1
          have hQ1 : Q ≤ ar - 1 - s1 := by rw [← hQ]; exact Int.ediv_le_self _ (by omega)
          have vQ : IntKind.i64.wrap Q = Q := wrap_id (by omega) (by omega)
          obtain ⟨M3, hM3⟩ : ∃ M3, (if M2 < Q then Q else M2) = M3 := ⟨_, rfl⟩
          have hst : stepB s1 ar M2 = some M3 := by unfold stepB; rw [if_neg hs, if_neg hz, hQ, hM3]
          have hM30 := stepB_nn hM2 hst
          simp [hs, hs', har, hz, v1, v2, v3, hQ, vQ, hM3, w2]
          refine ⟨2, by omega, rfl, by omega, hM30, fun b hb => ?_⟩
          have k := hM2b b hb
          have st := stepB_some har0.1 hst hb
          omega
      · subst e
        refine awpC_sound _ ?_
        simp [hi', hq', hic, PartM.v, PartM.cells]
        refine ⟨_, fun σ' _ => arm2 σ', ?_⟩
        obtain ⟨ar, har⟩ : ∃ ar, armZ h 2 q = ar := ⟨_, rfl⟩
        have har0 : 0 ≤ ar ∧ ar ≤ 5000 := ⟨har ▸ armZ_nn ha 2, har ▸ (armF_eq hf hqk.fine 2).2.2⟩
        rw [har] at hM2b
        have v1 : IntKind.i64.wrap (ar - 1) = ar - 1 := wrap_id (by omega) (by omega)
        have v2 : IntKind.i64.wrap (ar - 1 - s2) = ar - 1 - s2 := wrap_id (by omega) (by omega)
        have w1 : IntKind.i64.wrap 1 = 1 := by decide
        have w2 : IntKind.i64.wrap 2 = 2 := by decide
        have w3 : IntKind.i64.wrap 3 = 3 := by decide
        refine (Classical.em (0 ≤ s2)).elim (fun hs => ?_) (fun hs => ?_)
        · have hns : ¬ s2 < 0 := by omega
          have hst : stepB s2 ar M2 = some M2 := by unfold stepB; rw [if_pos hs]
          simp [hs, hns, har, w3]
          refine ⟨3, by omega, rfl, by omega, hM2, fun b hb => ?_⟩
          have k := hM2b b hb
          have st := stepB_some har0.1 hst hb
          omega
        have hs' : s2 < 0 := by omega
        refine (Classical.em (ar = 0)).elim (fun hz => ?_) (fun hz => ?_)
        · simp [hs, hs', har, hz]
          refine ⟨_, _, _, _, _, _, _, _, rfl, [_, _, _, _, _, _], ⟨_, rfl⟩, rfl, .inr ⟨rfl, ⟨_, rfl⟩, to, by omega, by omega, fun b hF => ?_⟩⟩
          have hF' := hF 2 (by decide)
          rw [q2, har, hz, Int.zero_mul] at hF'
          omega
        · have v3 : (ar - 1 - s2).tdiv ar = (ar - 1 - s2) / ar := Int.tdiv_eq_ediv_of_nonneg (by omega)
          obtain ⟨Q, hQ⟩ : ∃ Q, (ar - 1 - s2) / ar = Q := ⟨_, rfl⟩
          have hQ0 : 0 ≤ Q := by rw [← hQ]; exact Int.ediv_nonneg (by omega) har0.1
          have hQ1 : Q ≤ ar - 1 - s2 := by rw [← hQ]; exact Int.ediv_le_self _ (by omega)
          have vQ : IntKind.i64.wrap Q = Q := wrap_id (by omega) (by omega)
          obtain ⟨M3, hM3⟩ : ∃ M3, (if M2 < Q then Q else M2) = M3 := ⟨_, rfl⟩
          have hst : stepB s2 ar M2 = some M3 := by unfold stepB; rw [if_neg hs, if_neg hz, hQ, hM3]
          have hM30 := stepB_nn hM2 hst
          simp [hs, hs', har, hz, v1, v2, v3, hQ, vQ, hM3, w3]
          refine ⟨3, by omega, rfl, by omega, hM30, fun b hb => ?_⟩
          have k := hM2b b hb
          have st := stepB_some har0.1 hst hb
          omega
      · subst e
        refine awpC_sound _ ?_
        simp
        refine ⟨2, by omega, by decide, by omega, hM2, fun b hb => ⟨fun ⟨g1, g2, g3⟩ => ?_, fun hm => ?_⟩⟩
        · have f := (fit_iff h q to b).1 (g3 (by decide))
          rw [q0, q1, q2] at f
          exact (hM2b b hb).1 ⟨(hM1b b hb).1 ⟨g1, fun _ => g2 (by decide), fun h => absurd h (by decide)⟩, fun _ => f.1, fun _ => f.2.1, fun _ => f.2.2⟩
        · have k := (hM2b b hb).2 hm
          refine ⟨((hM1b b hb).2 k.1).1, fun _ => ((hM1b b hb).2 k.1).2.1 (by decide), fun _ => (fit_iff h q to b).2 ?_⟩
          rw [q0, q1, q2]
          exact ⟨k.2.1 (by decide), k.2.2.1 (by decide), k.2.2.2 (by decide)⟩
    · subst e
      refine awpC_sound _ ?_
      simp
      refine ⟨_, _, _, _, _, _, _, _, rfl, [_, _, _, _, _, _], ⟨_, rfl⟩, rfl, .inl ⟨rfl, M1, rfl, hM1, fun b hb => ?_⟩⟩
      rw [← hM1b b hb]
      refine ⟨fun hall => ⟨fun w k1 k2 => hall w k1 (by omega), fun _ => hall _ (by omega) (by omega), fun _ => hall _ (by omega) (by omega)⟩, fun ⟨g1, g2, g3⟩ w k1 k2 => ?_⟩
      by_cases hwd : w ≤ d
      · exact g1 w k1 hwd
      · exact fit_between hev (Int.le_refl _) (by omega) k2 (Int.le_refl _) (g2 (by omega)) (g3 (by omega))
  · exact ⟨0, rfl, by omega, fun b hb => ⟨fun _ => hb, fun _ w _ _ => by omega⟩⟩
  · rintro r σ' ⟨rfl, s, tl, rfl, hs, hJ | hS⟩
    · obtain ⟨M, rfl, hM, hMb⟩ := hJ
      have hB : BallP h q lo hi (if 1000000 < M then (0, 9) else (M, 0)) := by
        by_cases hbig : 1000000 < M
        · rw [if_pos hbig]
          exact .inr ⟨rfl, fun b k1 k2 hall => by have := (hMb b k1).1 hall; omega⟩
        · rw [if_neg hbig]
          exact .inl ⟨rfl, hM, by omega, hMb⟩
      rw [ballF_eq hB]
      refine ⟨_, _, _, _, _, _, _, _, rfl, by simp, ?_⟩
      refine (Classical.em (1000000 < M)).elim (fun hbig => ?_) (fun hbig => ?_)
      · simp [hbig, pairV, h2, h3]
      · simp [hbig, pairV, h2, h3]
    · obtain ⟨M, w, rfl, g1, g2, g3⟩ := hS
      have hB : BallP h q lo hi (0, 9) := .inr ⟨rfl, fun b _ _ hall => g3 b (hall w g1 g2)⟩
      rw [ballF_eq hB]
      refine ⟨_, _, _, _, _, _, _, _, rfl, by simp, ?_⟩
      simp [pairV, h2, h3]
end Go.AM
