/- StandJoined: the call returns true. -/
import Derived.Test.YtmgbkmobhjjkiaaP9
import Derived.Test.YtmgbkmobhjjkiaaTB2
namespace Go.AM
open Go.Proofs
set_option maxRecDepth 100000
set_option maxHeartbeats 2000000

theorem joined_spec (h : HullM) (hl : h.ps.length ≤ maxLen) (a b c d : Int) (ha : 0 ≤ a ∧ a ≤ 65535) (hb : 0 ≤ b ∧ b ≤ 65535) (hc : 0 ≤ c ∧ c ≤ 65535) (hd : 0 ≤ d ∧ d ≤ 65535)
    (awake_spec : ∀ σ, Spec Try.prog F_l05_Awake [] σ fun r σ' => r = .ret (.bool true) ∧ σ' = σ) :
    Spec Try.prog F_l05_StandJoined [h.v, .agg [hh a, hh b, hh c, hh d]] [] fun r _ => r = .ret (.bool true) := by
  have hpu : pures (h.ps.map PartM.v) = true := pures_map (f := PartM.v) (fun _ => rfl) h.ps
  by_cases he : eF h = 0
  rotate_left
  · refine spec_l05_StandJoined (by simp) (awpC_sound _ ?_)
    simp [C_l05_StandJoined, HullM.v, HullM.cells]
    refine CallK.pure B_l05_valid (l05_valid_no hl he _) ?_
    simp
    exact CallK.pure B_l05_Awake (awake_spec _) (by simp)
  by_cases h10 : h.ps.length = 10
  · refine spec_l05_StandJoined (by simp) (awpC_sound _ ?_)
    simp [C_l05_StandJoined, HullM.v, HullM.cells]
    refine CallK.pure B_l05_valid (l05_valid_yes hl he _) ?_
    simp [h10]
    exact CallK.pure B_l05_Awake (awake_spec _) (by simp)
  have hf := fine_of he
  have wa : IntKind.i64.wrap a = a := wrap_id (by omega) (by omega)
  have wb : IntKind.i64.wrap b = b := wrap_id (by omega) (by omega)
  have wc : IntKind.i64.wrap c = c := wrap_id (by omega) (by omega)
  have wd : IntKind.i64.wrap d = d := wrap_id (by omega) (by omega)
  have hl1 := hf.len
  obtain ⟨i, hi⟩ : ∃ i : Nat, a.tmod h.ps.length = i := ⟨(a.tmod h.ps.length).toNat, by rw [Int.tmod_eq_emod_of_nonneg ha.1]; exact (Int.toNat_of_nonneg (Int.emod_nonneg _ (by omega))).symm⟩
  have hin : i < h.ps.length := by
    have h1 := hi
    rw [Int.tmod_eq_emod_of_nonneg ha.1] at h1
    have h2 : a % (h.ps.length : Int) < h.ps.length := Int.emod_lt_of_pos _ (by omega)
    omega
  obtain ⟨w, hw⟩ : ∃ w, b.tmod 1001 = w := ⟨_, rfl⟩
  have hw' := hw
  rw [Int.tmod_eq_emod_of_nonneg hb.1] at hw'
  have w0 : 0 ≤ w := by rw [← hw']; exact Int.emod_nonneg _ (by decide)
  have w1 : w ≤ 1000 := by have : b % 1001 < 1001 := Int.emod_lt_of_pos _ (by decide); omega
  obtain ⟨p, hp⟩ : ∃ p, h.ps[i] = p := ⟨_, rfl⟩
  have hpk : POk p := by
    have h' := he
    unfold eF checkF at h'
    split at h'
    · cases h'
    · split at h'
      · cases h'
      · split at h'
        · cases h'
        · exact partE_iff.1 (parts_ok _ _ _ h' p (hp ▸ List.getElem_mem hin))
  have hz : ¬ (h.ps.length : Int) = 0 := by omega
  have h10' : ¬ (h.ps.length : Int) = 10 := by omega
  have pw := hpk.w
  have pl := hpk.l
  have v1 : IntKind.i64.wrap (p.wLo + 1) = p.wLo + 1 := wrap_id (by omega) (by omega)
  have v2 : IntKind.i64.wrap (p.lLo + 1) = p.lLo + 1 := wrap_id (by omega) (by omega)
  have z1 : ¬ p.wLo + 1 = 0 := by omega
  have z2 : ¬ p.lLo + 1 = 0 := by omega
  obtain ⟨A, hA⟩ : ∃ A, c.tmod (p.wLo + 1) = A := ⟨_, rfl⟩
  obtain ⟨B, hB⟩ : ∃ B, d.tmod (p.lLo + 1) = B := ⟨_, rfl⟩
  have bA : 0 ≤ A ∧ A ≤ p.wLo := by
    rw [← hA, Int.tmod_eq_emod_of_nonneg hc.1]
    exact ⟨Int.emod_nonneg _ z1, by have := Int.emod_lt_of_pos c (show 0 < p.wLo + 1 by omega); omega⟩
  have bB : 0 ≤ B ∧ B ≤ p.lLo := by
    rw [← hB, Int.tmod_eq_emod_of_nonneg hd.1]
    exact ⟨Int.emod_nonneg _ z2, by have := Int.emod_lt_of_pos d (show 0 < p.lLo + 1 by omega); omega⟩
  have v3 : IntKind.i64.wrap (p.wHi - p.wLo) = p.wHi - p.wLo := wrap_id (by omega) (by omega)
  have v4 : IntKind.i64.wrap (p.lHi - p.lLo) = p.lHi - p.lLo := wrap_id (by omega) (by omega)
  obtain ⟨M, hM⟩ : ∃ M, (p.wHi - p.wLo).tdiv 2 = M := ⟨_, rfl⟩
  obtain ⟨N, hN⟩ : ∃ N, (p.lHi - p.lLo).tdiv 2 = N := ⟨_, rfl⟩
  have bM : 0 ≤ M ∧ M ≤ p.wHi - p.wLo := by
    rw [← hM, Int.tdiv_eq_ediv_of_nonneg (by omega)]; omega
  have bN : 0 ≤ N ∧ N ≤ p.lHi - p.lLo := by
    rw [← hN, Int.tdiv_eq_ediv_of_nonneg (by omega)]; omega
  have v5 : IntKind.i64.wrap M = M := wrap_id (by omega) (by omega)
  have v6 : IntKind.i64.wrap N = N := wrap_id (by omega) (by omega)
  have v7 : IntKind.i64.wrap (A + M) = A + M := wrap_id (by omega) (by omega)
  have v8 : IntKind.i64.wrap (B + N) = B + N := wrap_id (by omega) (by omega)
  have v9 : IntKind.i64.wrap (p.wLo - A) = p.wLo - A := wrap_id (by omega) (by omega)
  have va : IntKind.i64.wrap (p.wHi - (A + M)) = p.wHi - (A + M) := wrap_id (by omega) (by omega)
  have vb : IntKind.i64.wrap (p.lLo - B) = p.lLo - B := wrap_id (by omega) (by omega)
  have vc : IntKind.i64.wrap (p.lHi - (B + N)) = p.lHi - (B + N) := wrap_id (by omega) (by omega)
  have hfit : Fits 7 (h.ps.map PartM.v) := by
    intro v hv
    obtain ⟨x, _, rfl⟩ := List.mem_map.1 hv
    exact ⟨rfl, rfl⟩
  have hfit2 : Fits 7 [AVal.agg [.str zz, ii' p.at_, ii' A, AVal.int IntKind.i64 (A + M), ii' p.keel, ii' B, AVal.int IntKind.i64 (B + N)]] := by
    intro v hv; simp at hv; subst hv; exact ⟨rfl, rfl⟩
  have hs1 : h.ps.length * 64 ≤ 140737488355328 := by omega
  have hs2 : (h.ps.length + 1) * 64 ≤ 140737488355328 := by omega
  have hin1 : (i : Int) < h.ps.length + 1 := by omega
  have hin1n : i < h.ps.length + 1 := by omega
  have zzv : (⟨#[122, 122]⟩ : ByteArray) = zz := rfl
  obtain ⟨two, h2⟩ : ∃ two, joinH h i p A B = two := ⟨_, rfl⟩
  have hfin : List.take (h.ps.length + 1) ((h.ps.map PartM.v).set i (AVal.agg [.str p.name, ii' p.at_, ii' (p.wLo - A), ii' (p.wHi - (A + M)), ii' p.keel, ii' (p.lLo - B), ii' (p.lHi - (B + N))]) ++ [AVal.agg [.str zz, ii' p.at_, ii' A, AVal.int IntKind.i64 (A + M), ii' p.keel, ii' B, AVal.int IntKind.i64 (B + N)]]) = two.ps.map PartM.v := by
    subst h2
    rw [List.take_of_length_le (by simp)]
    simp only [joinH, joinQ, joinP]
    rw [List.set_append_left _ _ hin, List.map_append, List.map_set, List.map_cons, List.map_nil]
    simp only [PartM.v, PartM.cells, hM, hN]
  have hta : two.aft = h.aft := by rw [← h2]; rfl
  have htf : two.fore = h.fore := by rw [← h2]; rfl
  have htl : two.ps.length ≤ maxLen := by rw [← h2]; simp only [joinH, List.length_set, List.length_append, List.length_cons, List.length_nil, maxLen]; omega
  have hLe := fun w j => h2 ▸ join_least hin hp A B w j
  have hTi : eF two = 0 → tideR two = tideR h := fun he2 => by rw [← h2] at he2 ⊢; exact join_tide hin hp A B he he2
  have hL := fun σ => stand_Least_at he w0 w1 σ
  have hT := fun σ => stand_Tide_spec h hl σ
  have hL2 := fun he2 σ => stand_Least_at (h := two) he2 w0 w1 σ
  have hT2 := fun σ => stand_Tide_spec two htl σ
  have hVy := fun he2 σ => l05_valid_yes htl he2 σ
  have hVn := fun he2 σ => l05_valid_no htl he2 σ
  simp only [HullM.v, HullM.cells, hta, htf, hLe] at hL hT hL2 hT2 hVy hVn
  obtain ⟨L0, hL0⟩ : ∃ L, leastZ h w 0 = L := ⟨_, rfl⟩
  obtain ⟨L1, hL1⟩ : ∃ L, leastZ h w 1 = L := ⟨_, rfl⟩
  obtain ⟨L2, hL2'⟩ : ∃ L, leastZ h w 2 = L := ⟨_, rfl⟩
  simp only [hL0, hL1, hL2'] at hL hL2
  obtain ⟨T, hT0⟩ : ∃ T, tideR h = T := ⟨_, rfl⟩
  rw [hT0] at hTi
  simp only [hT0] at hT
  have hTw : ∀ he2 : eF two = 0, ∀ σ, Spec Try.prog F_stand_Tide [.agg [.slice 7 (two.ps.map PartM.v), ii' h.aft, ii' h.fore]] σ fun r σ' => r = .ret (pairV T) ∧ σ' = σ := fun he2 => by rw [← hTi he2]; exact hT2
  refine spec_l05_StandJoined (by simp) (awpC_sound _ ?_)
  simp [C_l05_StandJoined, HullM.v, HullM.cells]
  refine CallK.pure B_l05_valid (l05_valid_yes hl he _) ?_
  simp [wa, wb, wc, wd, hi, hw, hin, hp, h10', PartM.v, PartM.cells, v1, v2, z1, z2, hA, hB, v3, v4, hM, hN, v5, v6]
  refine ⟨by intro e; rw [e] at hin; simp at hin, _, fun σ' => CallV.fn0 B_l05_span (l05_span_spec A 0 σ'), _, fun σ' => CallV.fn0 B_l05_span (l05_span_spec B 0 σ'), ?_⟩
  simp [wa, wb, wc, wd, hi, hw, hz, hin, hp, hpu, h10', PartM.v, PartM.cells, v1, v2, z1, z2, hA, hB, v3, v4, hM, hN, v5, v6, v7, v8, v9, va, vb, vc]
  refine ⟨_, fun σ' => CallV.fn0 B_l05_span (l05_span_spec _ _ σ'), _, fun σ' => CallV.fn0 B_l05_span (l05_span_spec _ _ σ'), ?_⟩
  simp [wa, wb, wc, wd, hi, hw, hz, hin, hp, hpu, h10', PartM.v, PartM.cells, v1, v2, z1, z2, hA, hB, v3, v4, hM, hN, v5, v6, v7, v8, v9, va, vb, vc, hfit, hfit2, hs1, hs2, hin1, hin1n, zzv]
  simp only [hfin]
  refine (Classical.em (eF two = 0)).elim (fun he2 => ?_) (fun he2 => ?_)
  rotate_left
  · refine CallK.pure B_l05_valid (hVn he2 _) ?_
    simp
    exact CallK.pure B_l05_Awake (awake_spec _) (by simp)
  refine CallK.pure B_l05_valid (hVy he2 _) ?_
  simp [wb, hw]
  refine CallK.pure B_stand_Least (hL _) ?_
  simp [wb, hw]
  refine CallK.pure B_stand_Least (hL2 he2 _) ?_
  simp
  refine CallK.pure B_stand_Tide (hT _) ?_
  simp [pairV]
  refine CallK.pure B_stand_Tide (hTw he2 _) ?_
  simp [pairV]
  refine CallK.pure B_r01_Name (r01_Name_spec zz _) ?_
  simp [zz_name, pairV]
  exact CallK.pure B_l05_Awake (awake_spec _) (by simp [pairV, zz_name])
end Go.AM
