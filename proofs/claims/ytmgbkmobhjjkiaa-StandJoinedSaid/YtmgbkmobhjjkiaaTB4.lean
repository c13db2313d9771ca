/- StandJoined: two parts at one place, with one Keel, press like one part with the sums of their Weights and Lifts. The call returns true, and no memory of the caller's is changed. -/
import Derived.Test.YtmgbkmobhjjkiaaT80
import Derived.Test.YtmgbkmobhjjkiaaTB3
namespace Go.Proofs.Ytmgbkmobhjjkiaa
open Go.ChangeShapes Go.WideShapes Go.ChangeAt Go.RowKit Go.AM

theorem joi_agg24 : isAgg Try.prog 24 = true := by kernel_rfl
theorem joi_agg86 : isAgg Try.prog 86 = true := by kernel_rfl

set_option maxRecDepth 100000 in
theorem joi_contract : ∀ l, shapedArgs Try.prog 5 Try.f16.params.toList l → Go.AM.Spec Try.prog 16 l [] fun r _ => r = .ret (.bool true) := by
  intro l hl
  have h0 : Try.f16.params.toList = [24, 86] := by kernel_rfl
  rw [h0] at hl
  cases l with
  | nil => exact hl.elim
  | cons b0 l =>
  cases l with
  | nil => exact hl.2.elim
  | cons b1 l =>
  cases l with
  | cons d l => exact hl.2.2.elim
  | nil =>
  obtain ⟨⟨a0, s0, e0⟩, ⟨a1, s1, e1⟩, _⟩ := hl
  subst e0 e1
  obtain ⟨m, rfl, hm⟩ := shaped_hull s0
  obtain ⟨a, b, c, d, rfl, ha, hb, hc, hd⟩ := shaped_four16 s1
  rw [packs 24 _ joi_agg24, packs 86 _ joi_agg86]
  exact joined_spec m hm a b c d ha hb hc hd awake_spec

set_option maxRecDepth 100000 in
theorem joi_lifted (os : Os) (started : os.Started) (H : Type) (enc : TypeId × Value → H) :
    ReturnsInHanded {} Try.checked os 16 .any (Rows.standJoinedSpec.pre6 enc Try.prog Try.f16 Rows.standJoinedRow.domain false) (Rows.standJoinedSpec.post enc Try.prog Try.f16 false true false false) := by
  refine returnsInHanded_of_change (C := Try.checked) Try.own started (by kernel_rfl) Try.func16
    (ChangeSpec.witness6 (enc := enc) (C := Try.checked) false ⟨#[], #[.agg #[.slice none 0 0, .int .i64 0, .int .i64 0], .agg #[.int .u16 0, .int .u16 0, .int .u16 0, .int .u16 0]], []⟩ 8 (by kernel_rfl) (by kernel_rfl) (by kernel_rfl) (by kernel_rfl)) ?_
  intro W base args ds gs before hval hW _ _
  exact law_calls (k := 5) (P := Try.prog) (tb := Try.f16.resultTypes.getD 0 0) (by kernel_rfl) (by kernel_rfl) rfl (fun ds hd => by
      have h3 : Try.f16.params.size = 2 := by kernel_rfl
      rw [h3] at hd
      match ds, hd with
      | [a, b], _ => exact ⟨rfl, rfl, rfl⟩) Try.laidOut (tysOk_spec (by kernel_rfl)) joi_contract hval hW

theorem joi_holds : Rows.StandJoinedSaid :=
  OpenClaim.holds_of_wide 16 Try.f16 rfl rfl rfl rfl rfl rfl rfl ⟨rfl, rfl, rfl, rfl, rfl⟩ rfl rfl rfl rfl rfl (by kernel_rfl) Try.func16 (by kernel_rfl)
    (of_decide_eq_true (by kernel_rfl)) (by unfold Func.isWrapper; first | (rw [if_pos (by decide +kernel)]; kernel_rfl) | (rw [if_neg (by decide +kernel)]; exact ⟨rfl, rfl⟩))
    (fun os started H enc _ => joi_lifted os started H enc)
end Go.Proofs.Ytmgbkmobhjjkiaa
