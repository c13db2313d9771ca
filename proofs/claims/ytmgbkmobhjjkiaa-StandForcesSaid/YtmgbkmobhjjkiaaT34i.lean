/- Balance and Least: of the program. -/
import Derived.Test.YtmgbkmobhjjkiaaT34e
import Derived.Test.YtmgbkmobhjjkiaaT34h
namespace Go.AM
open Go.Proofs
set_option maxRecDepth 100000
set_option maxHeartbeats 1000000

def eF (h : HullM) : Int := (checkF h).2.2
theorem stand_wet_spec (h : HullM) (hl : h.ps.length ≤ maxLen) (water : Int) (σ : AHeap) : Spec Try.prog F_stand_wet [h.v, ii' water] σ fun r σ' => r = .ret (.tup [h.v, ii' (wetE (eF h) water)]) ∧ σ' = σ := by
  refine Spec.pureFn (spec_stand_wet (by simp) (awpC_sound _ ?_)) (by simp [h.pure]) (by simp [AVal.pure, pures, h.pure]) σ
  simp [C_stand_wet, HullM.v, HullM.cells]
  refine CallK.pure B_stand_Check (stand_Check_spec h hl _) ?_
  refine (Classical.em (eF h = 0)).elim (fun he => ?_) (fun he => ?_)
  · have he' : (checkF h).2.2 = 0 := he
    simp [tripV, he']
    refine (tf (beyondF 0 1000 [water])).elim (fun hb => ?_) (fun hb => ?_)
    · refine CallK.pureE B_stand_beyond (stand_beyond_spec 0 1000 [water] (by simp [maxLen]) _) (congrArg AVal.bool hb) ?_
      simp [wetE, he, hb, tripV, he']
    · refine CallK.pureE B_stand_beyond (stand_beyond_spec 0 1000 [water] (by simp [maxLen]) _) (congrArg AVal.bool hb) ?_
      simp [wetE, he, hb, tripV, he']
  · have he' : ¬ (checkF h).2.2 = 0 := he
    simp [tripV, he', wetE, he]
    rfl

def zeroH : HullM := { ps := [], aft := 0, fore := 0 }
def truthE (h : HullM) (t : TruthM) : Int :=
  if eF h ≠ 0 then eF h else if ¬ t.ws.length = h.ps.length ∨ ¬ t.ls.length = h.ps.length then 3
  else if strangeF (fun p => (p.wLo, p.wHi)) h.ps t.ws || strangeF (fun p => (p.lLo, p.lHi)) h.ps t.ls then 7 else 0

theorem stand_open_spec (h : HullM) (t : TruthM) (hl : h.ps.length ≤ maxLen) (water : Int) (σ : AHeap) :
    Spec Try.prog F_stand_open [h.v, t.v, ii' water] σ fun r σ' => r = .ret (.tup [if truthE h t = 0 then h.v else zeroH.v, ii' (wetE (truthE h t) water)]) ∧ σ' = σ := by
  refine Spec.pureFn (spec_stand_open (by simp) (awpC_sound _ ?_)) (by simp [h.pure, t.pure]) ?_ σ
  rotate_left
  · by_cases hz : truthE h t = 0 <;> simp [hz, AVal.pure, pures, h.pure, zeroH.pure]
  simp [C_stand_open, HullM.v, HullM.cells, TruthM.v]
  refine CallK.pure B_stand_Check (stand_Check_spec h hl _) ?_
  refine (Classical.em (eF h = 0)).elim (fun he => ?_) (fun he => ?_)
  · have he' : (checkF h).2.2 = 0 := he
    simp [tripV, he']
    refine ⟨fun hx => ?_, fun hw hl' => ?_⟩
    · have hx' : ¬ t.ws.length = h.ps.length ∨ ¬ t.ls.length = h.ps.length := by omega
      have ht : truthE h t = 3 := by simp only [truthE, he]; rw [if_neg (by simp), if_pos hx']
      simp [ht, wetE, zeroH]
    have hw' : t.ws.length = h.ps.length := by omega
    have hl'' : t.ls.length = h.ps.length := by omega
    have sW := fun σ => stand_strange_spec 85 (fun p => (p.wLo, p.wHi)) h.ps t.ws hl hw' (fun p => PureF.fn B_stand_open_1 (fun σ => stand_open_1_spec p σ)) σ
    have sL := fun σ => stand_strange_spec 86 (fun p => (p.lLo, p.lHi)) h.ps t.ls hl hl'' (fun p => PureF.fn B_stand_open_2 (fun σ => stand_open_2_spec p σ)) σ
    have ht : truthE h t = if strangeF (fun p => (p.wLo, p.wHi)) h.ps t.ws || strangeF (fun p => (p.lLo, p.lHi)) h.ps t.ls then 7 else 0 := by simp [truthE, he, hw', hl'']
    refine (tf (strangeF (fun p => (p.wLo, p.wHi)) h.ps t.ws)).elim (fun h1 => ?_) (fun h1 => ?_)
    · refine CallK.pureE B_stand_strange_api_StPart (sW _) (congrArg AVal.bool h1) ?_
      simp
      refine (tf (strangeF (fun p => (p.lLo, p.lHi)) h.ps t.ls)).elim (fun h2 => ?_) (fun h2 => ?_)
      · refine CallK.pureE B_stand_strange_api_StPart (sL _) (congrArg AVal.bool h2) ?_
        rw [h1, h2] at ht
        simp at ht
        simp
        refine CallK.pure B_stand_wet (stand_wet_spec h hl water _) ?_
        simp [ht, he, HullM.v, HullM.cells]
      · refine CallK.pureE B_stand_strange_api_StPart (sL _) (congrArg AVal.bool h2) ?_
        rw [h1, h2] at ht
        simp at ht
        simp [ht, wetE, zeroH]
    · refine CallK.pureE B_stand_strange_api_StPart (sW _) (congrArg AVal.bool h1) ?_
      rw [h1] at ht
      simp at ht
      simp [ht, wetE, zeroH]
  · have he' : ¬ (checkF h).2.2 = 0 := he
    have ht : truthE h t = eF h := by simp [truthE, he]
    simp [tripV, he', wetE, he, ht, zeroH]
    rfl

theorem wetE_zero' {e water : Int} (h : wetE e water = 0) : e = 0 := by
  unfold wetE at h
  split at h
  · cases h
  · exact h

theorem stand_Balance_spec (h : HullM) (t : TruthM) (hl : h.ps.length ≤ maxLen) (water : Int) (σ : AHeap) :
    Spec Try.prog F_stand_Balance [h.v, t.v, ii' water] σ fun r σ' => r = .ret (.tup [if wetE (truthE h t) water = 0 then sumsV (inS h t water 0) (inS h t water 1) (inS h t water 2) else sumsV 0 0 0, ii' (wetE (truthE h t) water)]) ∧ σ' = σ := by
  refine Spec.pureFn (spec_stand_Balance (by simp) (awpC_sound _ ?_)) (by simp [h.pure, t.pure]) ?_ σ
  rotate_left
  · by_cases hz : wetE (truthE h t) water = 0 <;> simp [hz, AVal.pure, pures, sumsV]
  simp [C_stand_Balance, HullM.v, HullM.cells, TruthM.v]
  refine CallK.pure B_stand_open (stand_open_spec h t hl water _) ?_
  refine (Classical.em (truthE h t = 0)).elim (fun h0 => ?_) (fun h0 => ?_)
  · refine (Classical.em (wetE 0 water = 0)).elim (fun h1 => ?_) (fun h1 => ?_)
    · have hn : t.ws.length = h.ps.length ∧ t.ls.length = h.ps.length := by
        have h0' := h0
        unfold truthE at h0'
        split at h0'
        · rename_i hx; exact absurd h0' hx
        · split at h0'
          · cases h0'
          · rename_i hx
            simp at hx
            exact hx
      simp [h0, h1, HullM.v, HullM.cells]
      refine CallK.pure B_stand_body_in (stand_in_spec h t hl hn.1 hn.2 water _) ?_
      simp [sumsV]
      refine CallK.pure B_stand_sums_balance (stand_sums_balance_spec _ _ _ _) ?_
      simp [h0, h1, sumsV]
    · simp [h0, h1, HullM.v, HullM.cells, sumsV]
  · have h1 : ¬ wetE (truthE h t) water = 0 := fun e => h0 (wetE_zero' e)
    simp [h0, h1, HullM.v, HullM.cells, zeroH, sumsV]

theorem stand_Least_spec (h : HullM) (hl : h.ps.length ≤ maxLen) (water : Int) (σ : AHeap) :
    Spec Try.prog F_stand_Least [h.v, ii' water] σ fun r σ' => r = .ret (.tup [if wetE (eF h) water = 0 then sumsV (leastS h water 0) (leastS h water 1) (leastS h water 2) else sumsV 0 0 0, ii' (wetE (eF h) water)]) ∧ σ' = σ := by
  refine Spec.pureFn (spec_stand_Least (by simp) (awpC_sound _ ?_)) (by simp [h.pure]) ?_ σ
  rotate_left
  · by_cases hz : wetE (eF h) water = 0 <;> simp [hz, AVal.pure, pures, sumsV]
  simp [C_stand_Least, HullM.v, HullM.cells]
  refine CallK.pure B_stand_wet (stand_wet_spec h hl water _) ?_
  refine (Classical.em (wetE (eF h) water = 0)).elim (fun h1 => ?_) (fun h1 => ?_)
  · simp [h1, HullM.v, HullM.cells]
    refine CallK.pure B_stand_body_least (stand_least_spec h hl water _) ?_
    simp [sumsV]
    refine CallK.pure B_stand_sums_balance (stand_sums_balance_spec _ _ _ _) ?_
    simp [h1, sumsV]
  · simp [h1, HullM.v, HullM.cells, sumsV]
end Go.AM
