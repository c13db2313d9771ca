/- StandBallasts: Ballast returns what the document says, for any hull, part and tide. The call returns true, and no memory of the caller's is changed. -/
import Derived.Test.YtmgbkmobhjjkiaaT80
import Derived.Test.YtmgbkmobhjjkiaaT95
namespace Go.Proofs.Ytmgbkmobhjjkiaa
open Go.ChangeShapes Go.WideShapes Go.ChangeAt Go.RowKit Go.AM

theorem bls_agg24 : isAgg Try.prog 24 = true := by kernel_rfl
theorem bls_agg3 : isAgg Try.prog 3 = false := by kernel_rfl
theorem bls_agg39 : isAgg Try.prog 39 = true := by kernel_rfl

set_option maxRecDepth 100000 in
theorem bls_contract : ∀ l, shapedArgs Try.prog 5 Try.f6.params.toList l → Go.AM.Spec Try.prog 6 l [] fun r _ => r = .ret (.bool true) := by
  intro l hl
  have h0 : Try.f6.params.toList = [24, 3, 39] := by kernel_rfl
  rw [h0] at hl
  cases l with
  | nil => exact hl.elim
  | cons b0 l =>
  cases l with
  | nil => exact hl.2.elim
  | cons b1 l =>
  cases l with
  | nil => exact hl.2.2.elim
  | cons b2 l =>
  cases l with
  | cons d l => exact hl.2.2.2.elim
  | nil =>
  obtain ⟨⟨a0, s0, e0⟩, ⟨a1, s1, e1⟩, ⟨a2, s2, e2⟩, _⟩ := hl
  subst e0 e1 e2
  obtain ⟨m, rfl, hm⟩ := shaped_hull s0
  obtain ⟨n, rfl, hn⟩ := shaped_i64 s1 ty3
  obtain ⟨lo, hi, rfl⟩ := shaped_span s2
  rw [packs 24 _ bls_agg24, pack1 3 _ bls_agg3, packs 39 _ bls_agg39]
  exact ballasts_spec m hm n lo hi hn awake_spec

set_option maxRecDepth 100000 in
theorem bls_lifted (os : Os) (started : os.Started) (H : Type) (enc : TypeId × Value → H) :
    ReturnsInHanded {} Try.checked os 6 .any (Rows.standBallastsSpec.pre6 enc Try.prog Try.f6 Rows.standBallastsRow.domain false) (Rows.standBallastsSpec.post enc Try.prog Try.f6 false true false false) := by
  refine returnsInHanded_of_change (C := Try.checked) Try.own started (by kernel_rfl) Try.func6
    (ChangeSpec.witness6 (enc := enc) (C := Try.checked) false ⟨#[], #[.agg #[.slice none 0 0, .int .i64 0, .int .i64 0], .int .i64 0, .agg #[.int .i64 0, .int .i64 0]], []⟩ 8 (by kernel_rfl) (by kernel_rfl) (by kernel_rfl) (by kernel_rfl)) ?_
  intro W base args ds gs before hval hW _ _
  exact law_calls (k := 5) (P := Try.prog) (tb := Try.f6.resultTypes.getD 0 0) (by kernel_rfl) (by kernel_rfl) rfl (fun ds hd => by
      have h3 : Try.f6.params.size = 3 := by kernel_rfl
      rw [h3] at hd
      match ds, hd with
      | [a, b, c], _ => exact ⟨rfl, rfl, rfl⟩) Try.laidOut (tysOk_spec (by kernel_rfl)) bls_contract hval hW

theorem bls_holds : Rows.StandBallastsSaid :=
  OpenClaim.holds_of_wide 6 Try.f6 rfl rfl rfl rfl rfl rfl rfl ⟨rfl, rfl, rfl, rfl, rfl⟩ rfl rfl rfl rfl rfl (by kernel_rfl) Try.func6 (by kernel_rfl)
    (of_decide_eq_true (by kernel_rfl)) (by unfold Func.isWrapper; first | (rw [if_pos (by decide +kernel)]; kernel_rfl) | (rw [if_neg (by decide +kernel)]; exact ⟨rfl, rfl⟩))
    (fun os started H enc _ => bls_lifted os started H enc)
end Go.Proofs.Ytmgbkmobhjjkiaa
