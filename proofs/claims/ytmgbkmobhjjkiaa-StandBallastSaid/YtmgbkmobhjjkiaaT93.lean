/- Ballast: of the document. -/
import Derived.Test.YtmgbkmobhjjkiaaPA
namespace Go.AM
open Go.Proofs
set_option maxRecDepth 100000
set_option maxHeartbeats 1000000

theorem HullM.v_eq (h : HullM) : h.v = .agg [.slice 7 (h.ps.map PartM.v), ii' h.aft, ii' h.fore] := rfl
theorem PartM.v_eq (p : PartM) : p.v = .agg [.str p.name, ii' p.at_, ii' p.wLo, ii' p.wHi, ii' p.keel, ii' p.lLo, ii' p.lHi] := rfl

theorem r05_Heavier_spec (h : HullM) (hl : h.ps.length ≤ 10) (i : Nat) (q : PartM) (hq : h.ps[i]? = some q) (b : Int) (hw : 0 ≤ q.wLo ∧ q.wLo ≤ 1000000 ∧ 0 ≤ q.wHi ∧ q.wHi ≤ 1000000) (hb : 0 ≤ b ∧ b ≤ 1000001) (σ : AHeap) :
    Spec Try.prog F_r05_Heavier [h.v, .int .i64 i, ii' b] σ fun r σ' => r = .ret (heavyH h i q b).v ∧ σ' = σ := by
  have hp2 := (heavyH h i q b).pure
  refine Spec.pureFn (spec_r05_Heavier (by simp) (awpC_sound _ ?_)) (by simp [h.pure]) hp2 σ
  obtain ⟨hi, hq'⟩ := List.getElem?_eq_some_iff.1 hq
  have w1 : IntKind.i64.wrap (q.wLo + b) = q.wLo + b := wrap_id (by omega) (by omega)
  have w2 : IntKind.i64.wrap (q.wHi + b) = q.wHi + b := wrap_id (by omega) (by omega)
  have hfit : Fits 7 (h.ps.map PartM.v) := fun v hv => by obtain ⟨p, _, rfl⟩ := List.mem_map.1 hv; exact ⟨rfl, rfl⟩
  have hi' : (i : Int) < h.ps.length := by omega
  have hne : h.ps ≠ [] := fun e => by rw [e] at hi; simp at hi
  simp [C_r05_Heavier, HullM.v, HullM.cells, hfit, hi, hq', PartM.v, PartM.cells, w1, w2, hne]
  refine ⟨by omega, ?_, rfl, rfl⟩
  rw [List.take_of_length_le (by simp)]
  simp [heavyH, addP, List.map_set, PartM.v, PartM.cells]

theorem r05_Ballast_spec (h : HullM) (hl : h.ps.length ≤ maxLen) (part lo hi : Int) (hp : -9223372036854775808 ≤ part ∧ part ≤ 9223372036854775807) (σ : AHeap) :
    Spec Try.prog F_r05_Ballast [h.v, ii' part, tideV lo hi] σ fun r σ' => r = .ret (pairV (ballR h part lo hi)) ∧ σ' = σ := by
  refine Spec.pureFn (spec_r05_Ballast (by simp) (awpC_sound _ ?_)) (by simp [h.pure]; rfl) rfl σ
  have hlw : IntKind.i64.wrap ((h.ps.length : Int) - 1) = (h.ps.length : Int) - 1 := wrap_id (by omega) (by simp only [maxLen] at hl; omega)
  have hchk : tripR (checkR h) = .tup [ii' (checkF h).1, ii' (checkF h).2.1, ii' (eF h)] := by rw [← check_eq]; rfl
  refine (Classical.em (eF h = 0)).elim (fun he => ?_) (fun he => ?_)
  rotate_left
  · simp [C_r05_Ballast, HullM.v, HullM.cells, tideV]
    refine CallK.pureE B_r05_Check (r05_Check_spec h hl _) hchk ?_
    simp [he]
    refine ⟨.bool true, ?_⟩
    simp
    refine CallK.pure B_r05_tided (r05_tided_spec _ lo hi _) ?_
    simp [he, ballR, pairV]
  rw [he] at hchk
  refine (tf (insF part 0 ((h.ps.length : Int) - 1))).elim (fun h1 => ?_) (fun h1 => ?_)
  · simp [C_r05_Ballast, HullM.v, HullM.cells, tideV]
    refine CallK.pureE B_r05_Check (r05_Check_spec h hl _) hchk ?_
    simp [hlw]
    refine CallK.pureE B_r05_in (r05_in_spec _ _ _ _) (congrArg AVal.bool h1) ?_
    simp
    refine ⟨.bool true, ?_⟩
    simp
    refine CallK.pure B_r05_tided (r05_tided_spec _ lo hi _) ?_
    simp [he, ballR, pairV, h1]
  have hin : 0 ≤ part ∧ part ≤ (h.ps.length : Int) - 1 := by simpa [insF] using h1
  obtain ⟨i, rfl⟩ : ∃ i : Nat, part = i := ⟨part.toNat, by omega⟩
  have hi' : i < h.ps.length := by omega
  obtain ⟨q, hq'⟩ : ∃ q, h.ps[i] = q := ⟨_, rfl⟩
  have hq : h.ps[i]? = some q := by rw [List.getElem?_eq_getElem hi', hq']
  have hR : ballR h i lo hi = if insF q.at_ h.aft h.fore = false then (0, 2) else if spanErr (lo, hi) 0 1000 ≠ 0 then (0, spanErr (lo, hi) 0 1000) else ballF h q lo hi := by
    unfold ballR
    rw [if_neg (by rw [he]; simp), if_neg (by rw [h1]; simp)]
    simp only [Int.toNat_natCast, hq]
  rw [hR]
  have hic : (i : Int) < h.ps.length := by omega
  simp [C_r05_Ballast, HullM.v, HullM.cells, tideV]
  refine CallK.pureE B_r05_Check (r05_Check_spec h hl _) hchk ?_
  simp [hlw]
  refine CallK.pureE B_r05_in (r05_in_spec _ _ _ _) (congrArg AVal.bool h1) ?_
  simp [hi', hq', hic, PartM.v, PartM.cells]
  refine ⟨.bool (insF q.at_ h.aft h.fore), fun σ' => CallV.fn0 B_r05_in (r05_in_spec _ _ _ σ'), ?_⟩
  refine (tf (insF q.at_ h.aft h.fore)).elim (fun h2 => ?_) (fun h2 => ?_)
  · simp [h2]
    refine CallK.pure B_r05_tided (r05_tided_spec _ lo hi _) ?_
    simp [pairV, h2]
  simp [h2]
  refine CallK.pure B_r05_tided (r05_tided_spec _ lo hi _) ?_
  refine (Classical.em (spanErr (lo, hi) 0 1000 = 0)).elim (fun h3 => ?_) (fun h3 => ?_)
  rotate_left
  · simp [h2, h3, pairV]
  have ht := spanErr_zero h3
  have hf := fine_of he
  have hpok : ∀ p ∈ h.ps, POk p := fun p hp => by
    have h' := he
    unfold eF checkF at h'
    split at h'
    · cases h'
    · split at h'
      · cases h'
      · split at h'
        · cases h'
        · exact partE_iff.1 (parts_ok _ _ _ h' p hp)
  have hqk := hpok q (List.mem_of_getElem? hq)
  have ha : h.aft ≤ q.at_ ∧ q.at_ ≤ h.fore := by simpa [insF] using h2
  have hpu : pures (h.ps.map PartM.v) = true := pures_map (f := PartM.v) (fun _ => rfl) h.ps
  simp [h3]
  refine AW.loop (ι := Nat) (fun n fr σ => ∃ l u : Int, fr = { v := [(1, .int .i64 i), (3, .pval (.agg [.slice 7 (h.ps.map PartM.v), ii' h.aft, ii' h.fore])), (5, .pval (.agg [ii' lo, ii' hi])), (11, ii' l), (12, ii' u)], ds := [] } ∧ σ = [] ∧ 0 ≤ l ∧ l ≤ u ∧ u ≤ 1000001 ∧
    (∀ b, 0 ≤ b → b < l → ¬ ∀ w, lo ≤ w → w ≤ hi → Fit h q w b) ∧ (u = 1000001 ∨ ∀ w, lo ≤ w → w ≤ hi → Fit h q w u) ∧ n = (u - l).toNat) (fun n => n) 1000001 ⟨0, 1000001, by simp, rfl, by omega, by omega, by omega, fun b _ _ => by omega, .inl rfl, rfl⟩ ?_
  rintro n fr σ ⟨l, u, rfl, rfl, g1, g2, g3, g4, g5, rfl⟩
  refine (Classical.em (l < u)).elim (fun hlt => ?_) (fun hge => ?_)
  · have hw1 : IntKind.i64.wrap (l + u) = l + u := wrap_id (by omega) (by omega)
    have hq2 : (l + u).tdiv 2 = (l + u) / 2 := Int.tdiv_eq_ediv_of_nonneg (by omega)
    obtain ⟨m, hm⟩ : ∃ m, (l + u) / 2 = m := ⟨_, rfl⟩
    have hw2 : IntKind.i64.wrap m = m := wrap_id (by omega) (by omega)
    have hw3 : IntKind.i64.wrap (m + 1) = m + 1 := wrap_id (by omega) (by omega)
    have hH := fun σ => r05_Heavier_spec h hf.len.2 i q hq m (by have := hqk.w; omega) (by omega) σ
    have hF := fun σ => r05_first_spec (heavyH h i q m) (heavy_fine hpok hf hq (by omega) (by omega)) lo hi ht.1 ht.2.2 σ
    obtain ⟨f, hfr⟩ : ∃ f, firstR (heavyH h i q m) lo hi = f := ⟨_, rfl⟩
    have hfit : f.1 = 0 ↔ ∀ w, lo ≤ w → w ≤ hi → Fit h q w m := by
      rw [← hfr]
      unfold firstR
      rcases firstN_cases (heavyH h i q m) lo (hi - lo + 1).toNat with ⟨e, hall⟩ | ⟨w0, k1, k2, k3, _, e⟩
      · rw [e]
        simp only [true_iff]
        exact fun w k1 k2 => (fit_why hq m w).1 (hall w k1 (by omega))
      · rw [e]
        simp only
        exact ⟨fun h0 => absurd h0 k3, fun hall => (fit_why hq m w0).2 (hall w0 k1 (by omega))⟩
    rw [hfr] at hF
    refine awpC_sound _ ?_
    simp [hlt, hw1, hq2, hm, hw2, hpu]
    refine ⟨_, fun σ' => CallV.fn0 B_r05_Heavier (hH σ'), ?_⟩
    simp [HullM.v, HullM.cells]
    refine ⟨_, fun σ' => CallV.fn0 B_r05_first (hF σ'), ?_⟩
    refine (Classical.em (f.1 = 0)).elim (fun hz => ?_) (fun hz => ?_)
    · simp [hz]
      exact ⟨_, by omega, l, m, ⟨rfl, rfl⟩, g1, by omega, by omega, fun b k1 k2 => by simpa using g4 b k1 k2, .inr (hfit.1 hz), rfl⟩
    · simp [hz, hw3]
      refine ⟨_, by omega, m + 1, u, ⟨rfl, rfl⟩, by omega, by omega, by omega, fun b k1 k2 => ?_, g5, rfl⟩
      have hno : ¬ ∀ w, lo ≤ w → w ≤ hi → Fit h q w b := fun hall => hz (hfit.2 fun w a c => fit_mono ha (by omega) (hall w a c))
      simpa using hno
  · have he2 : l = u := by omega
    subst he2
    have hB : BallP h q lo hi (if 1000000 < l then (0, 9) else (l, 0)) := by
      by_cases hbig : 1000000 < l
      · rw [if_pos hbig]
        exact .inr ⟨rfl, fun b k1 k2 => g4 b k1 (by omega)⟩
      · rw [if_neg hbig]
        refine .inl ⟨rfl, g1, by omega, fun b k1 => ⟨fun hall => ?_, fun hlb w k2 k3 => ?_⟩⟩
        · by_cases h' : b < l
          · exact absurd hall (g4 b k1 h')
          · omega
        · rcases g5 with g5 | g5
          · omega
          · exact fit_mono ha hlb (g5 w k2 k3)
    rw [ballF_eq hB]
    refine awpC_sound _ ?_
    refine (Classical.em (1000000 < l)).elim (fun hbig => ?_) (fun hbig => ?_)
    · simp [hbig, pairV, h2, h3]
    · simp [hbig, pairV, h2, h3]
end Go.AM
