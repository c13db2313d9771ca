/- StandForces: Forces and Bears return what the document says, for any hull, truth, height of water and forces. The call returns true, and no memory of the caller's is changed. -/
import Derived.Test.YtmgbkmobhjjkiaaA15
import Derived.Test.YtmgbkmobhjjkiaaRows
import Derived.ProofKit
import Derived.Test.YtmgbkmobhjjkiaaT21
import Derived.Test.YtmgbkmobhjjkiaaT53
namespace Go.Proofs.Ytmgbkmobhjjkiaa
open Go.ChangeShapes Go.WideShapes Go.ChangeAt Go.RowKit Go.AM

theorem Try.own : ownKnob Try.prog.godebug = none := by kernel_rfl
theorem Try.laidOut : laidOutB Try.prog = true := by kernel_rfl

theorem awake_spec (σ : AHeap) : Go.AM.Spec Try.prog F_l05_Awake [] σ fun r σ' => r = .ret (.bool true) ∧ σ' = σ := Spec.pureFn o6_ok.2.2.2 rfl rfl σ

theorem packs (n : Nat) (us : List AVal) (h : (match aggT (Try.prog.underlying n) with | some true => true | _ => false) = true) : packT (aggT (Try.prog.underlying n)) us = .agg us := by
  unfold packT
  split at h
  · rename_i e; rw [e]
  · cases h

theorem agg24 : (match aggT (Try.prog.underlying 24) with | some true => true | _ => false) = true := by kernel_rfl
theorem agg49 : (match aggT (Try.prog.underlying 49) with | some true => true | _ => false) = true := by kernel_rfl
set_option maxRecDepth 100000 in
theorem frc_contract : ∀ l, shapedArgs Try.prog 5 Try.f5.params.toList l → Go.AM.Spec Try.prog 5 l [] fun r _ => r = .ret (.bool true) := by
  intro l hl
  have h0 : Try.f5.params.toList = [24, 49] := by kernel_rfl
  rw [h0] at hl
  cases l with
  | nil => exact hl.elim
  | cons a l =>
  cases l with
  | nil => exact hl.2.elim
  | cons b l =>
  cases l with
  | cons d l => exact hl.2.2.elim
  | nil =>
  obtain ⟨⟨ca, ha, e1⟩, ⟨cb, hb, e2⟩, _⟩ := hl
  subst e1 e2
  obtain ⟨m, rfl, hm⟩ := shaped_hull ha
  obtain ⟨t, w, fs, rfl, hf⟩ := shaped_pressed hb
  rw [packs 24 _ agg24, packs 49 _ agg49]
  exact forces_spec m t hm w fs hf awake_spec

def tysOk (P : Program) (k : Nat) : List TypeId → Bool
  | [] => true
  | t :: r => plainTy P k t && P.readableRec t && decide (t < P.types.size) && tysOk P k r
theorem tysOk_spec {P : Program} {k : Nat} : ∀ {l : List TypeId}, tysOk P k l = true → ∀ t ∈ l, plainTy P k t = true ∧ P.readableRec t = true ∧ t < P.types.size
  | t :: r, h, x, hx => by
    simp only [tysOk, Bool.and_eq_true, decide_eq_true_eq] at h
    rcases List.mem_cons.1 hx with rfl | hx
    · exact ⟨h.1.1.1, h.1.1.2, h.1.2⟩
    · exact tysOk_spec h.2 x hx

set_option maxRecDepth 100000 in
theorem frc_lifted (os : Os) (started : os.Started) (H : Type) (enc : TypeId × Value → H) :
    ReturnsInHanded {} Try.checked os 5 .any (Rows.standForcesSpec.pre6 enc Try.prog Try.f5 Rows.standForcesRow.domain false) (Rows.standForcesSpec.post enc Try.prog Try.f5 false true false false) := by
  refine returnsInHanded_of_change (C := Try.checked) Try.own started (by kernel_rfl) Try.func5
    (ChangeSpec.witness6 (enc := enc) (C := Try.checked) false ⟨#[], #[.agg #[.slice none 0 0, .int .i64 0, .int .i64 0], .agg #[.slice none 0 0, .slice none 0 0, .int .i64 0, .slice none 0 0]], []⟩ 8 (by kernel_rfl) (by kernel_rfl) (by kernel_rfl) (by kernel_rfl)) ?_
  intro W base args ds gs before hval hW _ _
  exact law_calls (k := 5) (P := Try.prog) (tb := Try.f5.resultTypes.getD 0 0) (by kernel_rfl) (by kernel_rfl) rfl (fun ds hd => by
      have h3 : Try.f5.params.size = 2 := by kernel_rfl
      rw [h3] at hd
      match ds, hd with
      | [a, b], _ => exact ⟨rfl, rfl, rfl⟩) Try.laidOut (tysOk_spec (by kernel_rfl)) frc_contract hval hW

theorem frc_holds : Rows.StandForcesSaid :=
  OpenClaim.holds_of_wide 5 Try.f5 rfl rfl rfl rfl rfl rfl rfl ⟨rfl, rfl, rfl, rfl, rfl⟩ rfl rfl rfl rfl rfl (by kernel_rfl) Try.func5 (by kernel_rfl)
    (of_decide_eq_true (by kernel_rfl)) (by unfold Func.isWrapper; first | (rw [if_pos (by decide +kernel)]; kernel_rfl) | (rw [if_neg (by decide +kernel)]; exact ⟨rfl, rfl⟩))
    (fun os started H enc _ => frc_lifted os started H enc)
end Go.Proofs.Ytmgbkmobhjjkiaa

