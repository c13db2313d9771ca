/- The check of a hull: of the program and of the document. -/
import Derived.Test.YtmgbkmobhjjkiaaT31
namespace Go.AM
open Go.Proofs
set_option maxRecDepth 100000
set_option maxHeartbeats 4000000

structure PartM where
  name : ByteArray
  at_ : Int
  wLo : Int
  wHi : Int
  keel : Int
  lLo : Int
  lHi : Int

def PartM.cells (p : PartM) : List AVal := [.str p.name, ii' p.at_, ii' p.wLo, ii' p.wHi, ii' p.keel, ii' p.lLo, ii' p.lHi]
def PartM.v (p : PartM) : AVal := .agg p.cells
structure HullM where
  ps : List PartM
  aft : Int
  fore : Int
def HullM.cells (h : HullM) : List AVal := [.slice 7 (h.ps.map PartM.v), ii' h.aft, ii' h.fore]
def HullM.v (h : HullM) : AVal := .agg h.cells

theorem HullM.pure (h : HullM) : h.v.pure = true := by simp [HullM.v, HullM.cells, AVal.pure, pures, pures_map (f := PartM.v) (fun _ => rfl) h.ps]

/-- The error of a part but its name. -/
def partE (p : PartM) : Int :=
  if beyondF 0 5000 [p.at_] || beyondF 0 1000 [p.keel] || beyondF 0 1000000 [p.wLo, p.wHi] || beyondF 0 5000 [p.lLo, p.lHi] then 7
  else if decide (p.wHi < p.wLo) || decide (p.lHi < p.lLo) then 2 else 0

theorem stand_check_spec (p : PartM) (σ : AHeap) : Spec Try.prog F_stand_check [p.v] σ fun r σ' => r = .ret (ii' (partE p)) ∧ σ' = σ := by
  refine Spec.pureFn (spec_stand_check (by simp) (awpC_sound _ ?_)) rfl rfl σ
  simp [C_stand_check, PartM.v, PartM.cells]
  refine (tf (beyondF 0 5000 [p.at_])).elim (fun h1 => ?_) (fun h1 => ?_)
  · refine CallK.pureE B_stand_beyond (stand_beyond_spec 0 5000 [p.at_] (by simp [maxLen]) _) (congrArg AVal.bool h1) ?_
    simp
    refine (tf (beyondF 0 1000 [p.keel])).elim (fun h2 => ?_) (fun h2 => ?_)
    · refine CallK.pureE B_stand_beyond (stand_beyond_spec 0 1000 [p.keel] (by simp [maxLen]) _) (congrArg AVal.bool h2) ?_
      simp
      refine (tf (beyondF 0 1000000 [p.wLo, p.wHi])).elim (fun h3 => ?_) (fun h3 => ?_)
      · refine CallK.pureE B_stand_beyond (stand_beyond_spec 0 1000000 [p.wLo, p.wHi] (by simp [maxLen]) _) (congrArg AVal.bool h3) ?_
        simp
        refine (tf (beyondF 0 5000 [p.lLo, p.lHi])).elim (fun h4 => ?_) (fun h4 => ?_)
        · refine CallK.pureE B_stand_beyond (stand_beyond_spec 0 5000 [p.lLo, p.lHi] (by simp [maxLen]) _) (congrArg AVal.bool h4) ?_
          refine (Classical.em (p.wHi < p.wLo)).elim (fun h5 => ?_) (fun h5 => ?_)
          · simp [h5]
            simp [partE, h1, h2, h3, h4, h5]
          · refine (Classical.em (p.lHi < p.lLo)).elim (fun h6 => ?_) (fun h6 => ?_)
            · simp [h5, h6]
              simp [partE, h1, h2, h3, h4, h5, h6]
            · simp [h5, h6]
              simp [partE, h1, h2, h3, h4, h5, h6]
        · refine CallK.pureE B_stand_beyond (stand_beyond_spec 0 5000 [p.lLo, p.lHi] (by simp [maxLen]) _) (congrArg AVal.bool h4) ?_
          simp
          simp [partE, h1, h2, h3, h4]
      · refine CallK.pureE B_stand_beyond (stand_beyond_spec 0 1000000 [p.wLo, p.wHi] (by simp [maxLen]) _) (congrArg AVal.bool h3) ?_
        simp
        simp [partE, h1, h2, h3]
    · refine CallK.pureE B_stand_beyond (stand_beyond_spec 0 1000 [p.keel] (by simp [maxLen]) _) (congrArg AVal.bool h2) ?_
      simp
      simp [partE, h1, h2]
  · refine CallK.pureE B_stand_beyond (stand_beyond_spec 0 5000 [p.at_] (by simp [maxLen]) _) (congrArg AVal.bool h1) ?_
    simp
    simp [partE, h1]
end Go.AM
