/- The check of a hull: of the program. -/
import Derived.Test.YtmgbkmobhjjkiaaT34a
namespace Go.AM
open Go.Proofs
set_option maxRecDepth 100000
set_option maxHeartbeats 1000000

/-- Part by part: the first error. -/
def partsE (all : List PartM) : List PartM → Nat → Int × Int × Int
  | [], _ => (0, 0, 0)
  | x :: r, i =>
    if nameF x.name = false then (2, i, 6)
    else if (all.take i).any (fun y => y.name.toList == x.name.toList) then (2, i, 5)
    else if partE x ≠ 0 then (2, i, partE x) else partsE all r (i + 1)
def checkF (h : HullM) : Int × Int × Int :=
  if beyondF 1 10 [(h.ps.length : Int)] then (1, 0, 3) else if beyondF 0 5000 [h.aft, h.fore] then (1, 0, 7) else if h.fore ≤ h.aft then (1, 0, 2) else partsE h.ps h.ps 0
def tripV (x : Int × Int × Int) : AVal := .tup [ii' x.1, ii' x.2.1, ii' x.2.2]

theorem stand_Check_spec (h : HullM) (hl : h.ps.length ≤ maxLen) (σ : AHeap) : Spec Try.prog F_stand_Check [h.v] σ fun r σ' => r = .ret (tripV (checkF h)) ∧ σ' = σ := by
  refine Spec.pureFn (spec_stand_Check (by simp) (awpC_sound _ ?_)) (by simp [h.pure]) rfl σ
  simp [C_stand_Check, HullM.v, HullM.cells]
  refine (tf (beyondF 1 10 [(h.ps.length : Int)])).elim (fun h1 => ?_) (fun h1 => ?_)
  rotate_left
  · refine CallK.pureE B_stand_beyond (stand_beyond_spec 1 10 [(h.ps.length : Int)] (by simp [maxLen]) _) (congrArg AVal.bool h1) ?_
    simp [checkF, h1, tripV]
  refine CallK.pureE B_stand_beyond (stand_beyond_spec 1 10 [(h.ps.length : Int)] (by simp [maxLen]) _) (congrArg AVal.bool h1) ?_
  simp
  refine (tf (beyondF 0 5000 [h.aft, h.fore])).elim (fun h2 => ?_) (fun h2 => ?_)
  rotate_left
  · refine CallK.pureE B_stand_beyond (stand_beyond_spec 0 5000 [h.aft, h.fore] (by simp [maxLen]) _) (congrArg AVal.bool h2) ?_
    simp [checkF, h1, h2, tripV]
  refine CallK.pureE B_stand_beyond (stand_beyond_spec 0 5000 [h.aft, h.fore] (by simp [maxLen]) _) (congrArg AVal.bool h2) ?_
  simp
  refine ⟨fun h3 => by simp [checkF, h1, h2, h3, tripV], fun h3 => ?_⟩
  have hc : checkF h = partsE h.ps h.ps 0 := by simp only [checkF, h1, h2]; rw [if_neg (by simp), if_neg (by simp), if_neg (by omega)]
  rw [hc]
  refine AW.loop (ι := Nat) (fun i fr σ => fr = { v := [(1, .pval (.agg [.slice 7 (h.ps.map PartM.v), ii' h.aft, ii' h.fore])), (27, .slice 7 (h.ps.map PartM.v)), (28, .int .i64 h.ps.length), (29, .int .i64 i)], ds := [] } ∧ i ≤ h.ps.length ∧ partsE h.ps h.ps 0 = partsE h.ps (h.ps.drop i) i) (fun i => h.ps.length - i) 0 (by simp) ?_
  rintro i fr σ ⟨rfl, hi, hp⟩
  refine awpC_sound _ ?_
  simp
  refine ⟨fun hlt => ?_, fun hge => ?_⟩
  · have hd : h.ps.drop i = h.ps[i] :: h.ps.drop (i + 1) := List.drop_eq_getElem_cons hlt
    rw [hd] at hp
    simp only [partsE] at hp
    rw [hp]
    generalize hx : h.ps[i] = x at *
    simp [hlt, hx, PartM.v, PartM.cells]
    refine (tf (nameF x.name)).elim (fun h4 => ?_) (fun h4 => ?_)
    · refine CallK.pureE B_hull_Name (hull_Name_spec x.name _) (congrArg AVal.bool h4) ?_
      simp [h4, tripV]
    refine CallK.pureE B_hull_Name (hull_Name_spec x.name _) (congrArg AVal.bool h4) ?_
    simp [h4, hlt, hx, hi, PartM.v, PartM.cells]
    have hcl := fun σ => slices_ContainsFunc_St_spec 54 [.pval x.v] rfl (fun y => y.name.toList == x.name.toList) (h.ps.take i) (by simp; omega) (fun y _ => PureF.fn B_stand_Check_1 (fun σ => stand_Check_1_spec y x σ)) σ
    rw [List.map_take] at hcl
    refine (tf ((h.ps.take i).any fun y => y.name.toList == x.name.toList)).elim (fun h5 => ?_) (fun h5 => ?_)
    rotate_left
    · refine CallK.pureE B_slices_ContainsFunc_api_StPart_api_StPart (hcl _) (congrArg AVal.bool h5) ?_
      simp only [h5, if_true]
      simp [tripV, h4]
    refine CallK.pureE B_slices_ContainsFunc_api_StPart_api_StPart (hcl _) (congrArg AVal.bool h5) ?_
    simp only [h5]
    simp [hlt, hx, PartM.v, PartM.cells]
    refine CallK.pure B_stand_check (stand_check_spec x _) ?_
    refine (Classical.em (partE x = 0)).elim (fun h6 => ?_) (fun h6 => ?_)
    · simp [h6]
      exact ⟨i + 1, by omega, wrap_id (by omega) (by simp only [maxLen] at hl; omega), by omega, by simp [h4]⟩
    · simp [h4, h6, tripV]
  · have : h.ps.drop i = [] := List.drop_eq_nil_of_le hge
    rw [hp, this]; rfl
end Go.AM
