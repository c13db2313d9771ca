/- The error of a part: of the document. -/
import Derived.Test.YtmgbkmobhjjkiaaT32
import Derived.Test.YtmgbkmobhjjkiaaT33
namespace Go.AM
open Go.Proofs
set_option maxRecDepth 100000
set_option maxHeartbeats 1000000

def partR (p : PartM) : Int :=
  if !insF p.at_ 0 5000 || !insF p.keel 0 1000 || decide (spanErr (p.wLo, p.wHi) 0 1000000 = 7) || decide (spanErr (p.lLo, p.lHi) 0 5000 = 7) then 7
  else if spanErr (p.wLo, p.wHi) 0 1000000 ≠ 0 then spanErr (p.wLo, p.wHi) 0 1000000 else spanErr (p.lLo, p.lHi) 0 5000

theorem r05_part_spec (p : PartM) (σ : AHeap) : Spec Try.prog F_r05_part [p.v] σ fun r σ' => r = .ret (ii' (partR p)) ∧ σ' = σ := by
  refine Spec.pureFn (spec_r05_part (by simp) (awpC_sound _ ?_)) rfl rfl σ
  simp [C_r05_part, PartM.v, PartM.cells]
  refine ⟨.int .i64 (spanErr (p.wLo, p.wHi) 0 1000000), fun σ' => CallV.func B_r01_Range (r01_Range_spec _ _ _ _ _), ?_⟩
  simp
  refine ⟨.int .i64 (spanErr (p.lLo, p.lHi) 0 5000), fun σ' => CallV.func B_r01_Range (r01_Range_spec _ _ _ _ _), ?_⟩
  simp
  generalize hA : spanErr (p.wLo, p.wHi) 0 1000000 = A
  generalize hB : spanErr (p.lLo, p.lHi) 0 5000 = B
  have hR : partR p = if !insF p.at_ 0 5000 || !insF p.keel 0 1000 || decide (A = 7) || decide (B = 7) then 7 else if A ≠ 0 then A else B := by unfold partR; rw [hA, hB]
  rw [hR]
  refine (tf (insF p.at_ 0 5000)).elim (fun h1 => ?_) (fun h1 => ?_)
  · refine CallK.pureE B_r05_in (r05_in_spec p.at_ 0 5000 _) (congrArg AVal.bool h1) ?_
    simp [h1]
  · refine CallK.pureE B_r05_in (r05_in_spec p.at_ 0 5000 _) (congrArg AVal.bool h1) ?_
    simp [h1]
    refine (tf (insF p.keel 0 1000)).elim (fun h2 => ?_) (fun h2 => ?_)
    · refine CallK.pureE B_r05_in (r05_in_spec p.keel 0 1000 _) (congrArg AVal.bool h2) ?_
      simp [h2]
    · refine CallK.pureE B_r05_in (r05_in_spec p.keel 0 1000 _) (congrArg AVal.bool h2) ?_
      refine (Classical.em (A = 7)).elim (fun h3 => ?_) (fun h3 => ?_)
      · simp [h1, h2, h3]
      · refine (Classical.em (B = 7)).elim (fun h4 => ?_) (fun h4 => ?_)
        · simp [h1, h2, h3, h4]
        · refine (Classical.em (A = 0)).elim (fun h5 => ?_) (fun h5 => ?_)
          · simp [h1, h2, h3, h4, h5]
          · simp [h1, h2, h3, h4, h5]
end Go.AM
