/- StandTurned: the call returns true. -/
import Derived.Test.YtmgbkmobhjjkiaaP9
import Derived.Test.YtmgbkmobhjjkiaaPA
namespace Go.AM
open Go.Proofs
set_option maxRecDepth 100000
set_option maxHeartbeats 1000000

theorem fits7 (p : PartM) : Fits 7 [p.v] := by intro v hv; simp at hv; subst hv; exact ⟨rfl, rfl⟩

theorem turned_spec (h : HullM) (hl : h.ps.length ≤ maxLen) (x : WetM) (awake_spec : ∀ σ, Spec Try.prog F_l05_Awake [] σ fun r σ' => r = .ret (.bool true) ∧ σ' = σ) :
    Spec Try.prog F_l05_StandTurned [h.v, x.v] [] fun r _ => r = .ret (.bool true) := by
  have hpu : pures (h.ps.map PartM.v) = true := pures_map (f := PartM.v) (fun _ => rfl) h.ps
  have hlu : pures (x.l.map uu) = true := pures_map (f := uu) (fun _ => rfl) x.l
  by_cases he : eF h = 0
  rotate_left
  · refine spec_l05_StandTurned (by simp) (awpC_sound _ ?_)
    simp [C_l05_StandTurned, HullM.v, HullM.cells, WetM.v]
    refine CallK.pure B_l05_valid (l05_valid_no hl he _) ?_
    simp
    exact CallK.pure B_l05_Awake (awake_spec _) (by simp)
  have hf := fine_of he
  have heT := turnH_valid he
  have ht := anyT_true hf x.hl.2
  have htT := turnH_true ht
  have hwx : IntKind.i64.wrap x.w = x.w := wrap_id (by have := x.hw; omega) (by have := x.hw; omega)
  obtain ⟨w, hw⟩ : ∃ w, x.w.tmod 1001 = w := ⟨_, rfl⟩
  have hw' := hw
  rw [Int.tmod_eq_emod_of_nonneg x.hw.1] at hw'
  have w0 : 0 ≤ w := by rw [← hw']; exact Int.emod_nonneg _ (by decide)
  have w1 : w ≤ 1000 := by have : x.w % 1001 < 1001 := Int.emod_lt_of_pos _ (by decide); omega
  have f1 := hf.aft; have f2 := hf.lt; have f3 := hf.fore
  have wA : IntKind.i64.wrap (5000 - h.fore) = 5000 - h.fore := wrap_id (by omega) (by omega)
  have wF : IntKind.i64.wrap (5000 - h.aft) = 5000 - h.aft := wrap_id (by omega) (by omega)
  have hB := fun σ => stand_Balance_at he ht w0 w1 σ
  have hBT := fun σ => stand_Balance_at heT htT w0 w1 σ
  have hL := fun σ => stand_Least_at he w0 w1 σ
  have hLT := fun σ => stand_Least_at heT w0 w1 σ
  have tin := turn_in h (anyT h x.l) w
  have tle := turn_least h w
  rw [tin.1, tin.2.1, tin.2.2] at hBT
  rw [tle.1, tle.2.1, tle.2.2] at hLT
  generalize inZ h (anyT h x.l) w 0 = S0 at *
  generalize inZ h (anyT h x.l) w 1 = S1 at *
  generalize inZ h (anyT h x.l) w 2 = S2 at *
  generalize leastZ h w 0 = L0 at *
  generalize leastZ h w 1 = L1 at *
  generalize leastZ h w 2 = L2 at *
  refine spec_l05_StandTurned (by simp) (awpC_sound _ ?_)
  simp [C_l05_StandTurned, HullM.v, HullM.cells, WetM.v]
  refine CallK.pure B_l05_valid (l05_valid_yes hl he _) ?_
  simp [hwx, hw, hpu, hlu]
  refine ⟨_, fun σ' => CallV.fn0 B_l05_Truth (l05_Truth_spec h hf x.l x.hl.1 x.hl.2 σ'), ?_⟩
  simp [TruthM.v, wA, wF]
  have hl10 := hf.len.2
  have htr : pures ((anyT h x.l).ws.map ii') = true := pures_map (f := ii') (fun _ => rfl) _
  refine AW.loop (ι := Nat) (fun i fr σ => ∃ tl, fr = { v := [(2, .pval (.agg [.slice 7 (h.ps.map PartM.v), ii' h.aft, ii' h.fore])), (5, .ptr 0 0), (6, ii' w), (7, .ptr 2 0), (8, .int .i64 i)], ds := [] } ∧
      σ = .box [.slice 1 ((anyT h x.l).ws.map ii'), .slice 1 ((anyT h x.l).ls.map ii')] :: .spare 7 i :: .box [.oslice 7 ((h.ps.take i).map fun p => (turnP p).v) 1 i, ii' (5000 - h.fore), ii' (5000 - h.aft)] :: tl ∧ i ≤ h.ps.length) (fun i => h.ps.length - i) 0 ⟨[], by simp, by simp, by omega⟩ ?_
  rintro i fr σ ⟨tl, rfl, rfl, hi⟩
  refine (Nat.lt_or_ge i h.ps.length).elim (fun hlt => ?_) (fun hge => ?_)
  · obtain ⟨p, hp⟩ : ∃ p, h.ps[i] = p := ⟨_, rfl⟩
    have hpf : PFine p := hp ▸ hf.part _ (List.getElem_mem hlt)
    have hwa : IntKind.i64.wrap (5000 - p.at_) = 5000 - p.at_ := wrap_id (by have := hpf.at_; omega) (by have := hpf.at_; omega)
    have hwi : IntKind.i64.wrap ((i : Int) + 1) = (i : Int) + 1 := wrap_id (by omega) (by omega)
    have hfit : Fits 7 [AVal.agg [.str p.name, ii' (5000 - p.at_), ii' p.wLo, ii' p.wHi, ii' p.keel, ii' p.lLo, ii' p.lHi]] := fits7 (turnP p)
    have hmin : min i h.ps.length = i := by omega
    have htk : List.take i (h.ps.map fun p => (turnP p).v) ++ [AVal.agg [.str p.name, ii' (5000 - p.at_), ii' p.wLo, ii' p.wHi, ii' p.keel, ii' p.lLo, ii' p.lHi]] = List.take (i + 1) (h.ps.map fun p => (turnP p).v) := by
      rw [List.take_add_one]; simp [hlt, hp]; rfl
    refine awpC_sound _ ?_
    simp [hlt, hp, hwa, hwi, hfit, hmin, PartM.v, PartM.cells]
    exact ⟨by omega, i + 1, by omega, by simp, ⟨rfl, htk, rfl⟩, by omega⟩
  · have hnl : ¬ i < h.ps.length := by omega
    refine awpC_sound _ ?_
    simp [hnl]
    refine CallK.pure B_stand_Balance (hB _) ?_
    simp
    clear hB
    have hback : AVal.agg [AVal.slice 7 (List.take i (List.map (fun p => (turnP p).v) h.ps)), ii' (5000 - h.fore), ii' (5000 - h.aft)] = (turnH h).v := by
      rw [List.take_of_length_le (by simp; omega)]
      simp [turnH, HullM.v, HullM.cells, Function.comp_def]
    rw [← hback] at hBT hLT
    refine CallK.pure B_stand_Balance (hBT _) ?_
    simp
    refine CallK.pure B_stand_Least (hL _) ?_
    simp
    refine CallK.pure B_stand_Least (hLT _) ?_
    simp
    exact CallK.pure B_l05_Awake (awake_spec _) (by simp)
end Go.AM
