/- StandKnown: the examples of the document. The call returns true, and no memory of the caller's is changed. -/
import Derived.Test.YtmgbkmobhjjkiaaA15
import Derived.Test.YtmgbkmobhjjkiaaRows
import Derived.ProofKit
import Derived.Test.YtmgbkmobhjjkiaaT21
namespace Go.Proofs.Ytmgbkmobhjjkiaa
open Go.ChangeShapes Go.WideShapes Go.ChangeAt Go.RowKit Go.AM

theorem Try.own : ownKnob Try.prog.godebug = none := by kernel_rfl
theorem Try.laidOut : laidOutB Try.prog = true := by kernel_rfl

theorem known_contract : ∀ l, shapedArgs Try.prog 5 Try.f7.params.toList l → Go.AM.Spec Try.prog 7 l [] fun r _ => r = .ret (.bool true) := by
  intro l hl
  have h0 : Try.f7.params.toList = [] := by kernel_rfl
  rw [h0] at hl
  cases l with
  | nil => exact true_of_run theTab_ok os3 known_run
  | cons a l => exact hl.elim

set_option maxRecDepth 100000 in
theorem known_lifted (os : Os) (started : os.Started) (H : Type) (enc : TypeId × Value → H) :
    ReturnsInHanded {} Try.checked os 7 .any (Rows.standKnownSpec.pre6 enc Try.prog Try.f7 Rows.standKnownRow.domain false) (Rows.standKnownSpec.post enc Try.prog Try.f7 false true false false) := by
  refine returnsInHanded_of_change (C := Try.checked) Try.own started (by kernel_rfl) Try.func7
    (ChangeSpec.witness6 (enc := enc) (C := Try.checked) false ⟨#[], #[], []⟩ 8 (by kernel_rfl) (by kernel_rfl) (by kernel_rfl) (by kernel_rfl)) ?_
  intro W base args ds gs before hval hW _ _
  exact law_calls (k := 5) (P := Try.prog) (tb := Try.f7.resultTypes.getD 0 0) (by kernel_rfl) (by kernel_rfl) rfl (fun ds hd => by
      have h3 : Try.f7.params.size = 0 := by kernel_rfl
      rw [h3] at hd
      match ds, hd with
      | [], _ => exact ⟨rfl, rfl, rfl⟩) Try.laidOut (fun t ht => by
      have h0 : Try.f7.params.toList = [] := by kernel_rfl
      rw [h0] at ht; cases ht) known_contract hval hW

theorem known_holds : Rows.StandKnownSaid :=
  OpenClaim.holds_of_wide 7 Try.f7 rfl rfl rfl rfl rfl rfl rfl ⟨rfl, rfl, rfl, rfl, rfl⟩ rfl rfl rfl rfl rfl (by kernel_rfl) Try.func7 (by kernel_rfl)
    (of_decide_eq_true (by kernel_rfl)) (by unfold Func.isWrapper; first | (rw [if_pos (by decide +kernel)]; kernel_rfl) | (rw [if_neg (by decide +kernel)]; exact ⟨rfl, rfl⟩))
    (fun os started H enc _ => known_lifted os started H enc)
end Go.Proofs.Ytmgbkmobhjjkiaa
