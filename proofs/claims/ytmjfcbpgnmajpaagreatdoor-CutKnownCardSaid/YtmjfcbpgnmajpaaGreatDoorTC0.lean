/- slices.Clone: the copy has its own room. -/
import Derived.Test.YtmjfcbpgnmajpaaGreatDoorG05
import Derived.Test.YtmjfcbpgnmajpaaGreatDoorA19
import Derived.Test.YtmjfcbpgnmajpaaGreatDoorT30
namespace Go.AM
open Go.Proofs
set_option maxRecDepth 100000

theorem slices_Clone_int_own (xs : List AVal) (hf : Fits 1 xs) (hl : xs.length * 8 ≤ 140737488355328) (σ : AHeap) :
    Spec Tryz.prog F_slices_Clone_int_int [.slice 1 xs] σ fun r σ' => r = .ret (.oslice 1 xs σ.length 1) ∧ σ' = σ ++ [.spare 1 1] := by
  refine spec_slices_Clone_int_int (by simp) (awpC_sound _ ?_)
  simp [C_slices_Clone_int_int, hf, hl]

def cloneOrc : Orc := fun f args => if f = F_slices_Clone_int_int then match args with
  | [.slice 1 xs] => if fitsB 1 xs && decide (xs.length * 8 ≤ 140737488355328) then some (.oslice 1 xs 0 1) else none
  | _ => none
  else none
theorem cloneOrc_ok : OrcOk Tryz.prog cloneOrc := by
  intro f args v h
  unfold cloneOrc at h
  split at h
  · rename_i e
    subst e
    split at h
    · split at h
      · rename_i h1
        simp only [Bool.and_eq_true, decide_eq_true_eq] at h1
        simp only [Option.some.injEq] at h
        subst h
        exact ⟨B_slices_Clone_int_int, slices_Clone_int_own _ (fitsB_ok h1.1) h1.2⟩
      · cases h
    · cases h
  · cases h

def orcs (l : List OrcE) : Orc := fun f args => match cloneOrc f args with
  | some v => some v
  | none => orcOf l f args
theorem orcs_ok {l : List OrcE} (h : OrcsOk Tryz.prog l) : OrcOk Tryz.prog (orcs l) := by
  intro f args v hv
  unfold orcs at hv
  cases hc : cloneOrc f args with
  | some w => rw [hc] at hv; simp only [Option.some.injEq] at hv; subst hv; exact cloneOrc_ok _ _ _ hc
  | none => rw [hc] at hv; exact orcOf_ok h _ _ _ hv
end Go.AM
