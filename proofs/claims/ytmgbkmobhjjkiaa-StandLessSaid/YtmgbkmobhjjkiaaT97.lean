/- StandLess: with narrower spans of Weight and Lift no number of Least is less, and with ground that reaches farther at both ends a hull that surely stood still does. The call returns true, and no memory of the caller's is changed. -/
import Derived.Test.YtmgbkmobhjjkiaaT80
import Derived.Test.YtmgbkmobhjjkiaaT91
namespace Go.Proofs.Ytmgbkmobhjjkiaa
open Go.ChangeShapes Go.WideShapes Go.ChangeAt Go.RowKit Go.AM

theorem les_agg24 : isAgg Try.prog 24 = true := by kernel_rfl
theorem les_agg66 : isAgg Try.prog 66 = false := by kernel_rfl
theorem les_agg68 : isAgg Try.prog 68 = true := by kernel_rfl

set_option maxRecDepth 100000 in
theorem les_contract : ∀ l, shapedArgs Try.prog 5 Try.f14.params.toList l → Go.AM.Spec Try.prog 14 l [] fun r _ => r = .ret (.bool true) := by
  intro l hl
  have h0 : Try.f14.params.toList = [24, 68, 66] := by kernel_rfl
  rw [h0] at hl
  cases l with
  | nil => exact hl.elim
  | cons b0 l =>
  cases l with
  | nil => exact hl.2.elim
  | cons b1 l =>
  cases l with
  | nil => exact hl.2.2.elim
  | cons b2 l =>
  cases l with
  | cons d l => exact hl.2.2.2.elim
  | nil =>
  obtain ⟨⟨a0, s0, e0⟩, ⟨a1, s1, e1⟩, ⟨a2, s2, e2⟩, _⟩ := hl
  subst e0 e1 e2
  obtain ⟨m, rfl, hm⟩ := shaped_hull s0
  obtain ⟨x, rfl⟩ := shaped_wet s1
  obtain ⟨y, rfl, hy⟩ := shaped_draws s2
  rw [packs 24 _ les_agg24, packs 68 _ les_agg68, pack1 66 _ les_agg66]
  exact less_spec m hm x y hy awake_spec

set_option maxRecDepth 100000 in
theorem les_lifted (os : Os) (started : os.Started) (H : Type) (enc : TypeId × Value → H) :
    ReturnsInHanded {} Try.checked os 14 .any (Rows.standLessSpec.pre6 enc Try.prog Try.f14 Rows.standLessRow.domain false) (Rows.standLessSpec.post enc Try.prog Try.f14 false true false false) := by
  refine returnsInHanded_of_change (C := Try.checked) Try.own started (by kernel_rfl) Try.func14
    (ChangeSpec.witness6 (enc := enc) (C := Try.checked) false ⟨#[], #[.agg #[.slice none 0 0, .int .i64 0, .int .i64 0], .agg #[.int .u16 0, .int .u16 0, .int .u16 0, .slice none 0 0], .slice none 0 0], []⟩ 8 (by kernel_rfl) (by kernel_rfl) (by kernel_rfl) (by kernel_rfl)) ?_
  intro W base args ds gs before hval hW _ _
  exact law_calls (k := 5) (P := Try.prog) (tb := Try.f14.resultTypes.getD 0 0) (by kernel_rfl) (by kernel_rfl) rfl (fun ds hd => by
      have h3 : Try.f14.params.size = 3 := by kernel_rfl
      rw [h3] at hd
      match ds, hd with
      | [a, b, c], _ => exact ⟨rfl, rfl, rfl⟩) Try.laidOut (tysOk_spec (by kernel_rfl)) les_contract hval hW

theorem les_holds : Rows.StandLessSaid :=
  OpenClaim.holds_of_wide 14 Try.f14 rfl rfl rfl rfl rfl rfl rfl ⟨rfl, rfl, rfl, rfl, rfl⟩ rfl rfl rfl rfl rfl (by kernel_rfl) Try.func14 (by kernel_rfl)
    (of_decide_eq_true (by kernel_rfl)) (by unfold Func.isWrapper; first | (rw [if_pos (by decide +kernel)]; kernel_rfl) | (rw [if_neg (by decide +kernel)]; exact ⟨rfl, rfl⟩))
    (fun os started H enc _ => les_lifted os started H enc)
end Go.Proofs.Ytmgbkmobhjjkiaa
