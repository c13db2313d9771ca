/- StandBalances: Check, Balance and Least return what the document says, for any hull, truth and height of water. The call returns true, and no memory of the caller's is changed. -/
import Derived.Test.YtmgbkmobhjjkiaaA15
import Derived.Test.YtmgbkmobhjjkiaaRows
import Derived.ProofKit
import Derived.Test.YtmgbkmobhjjkiaaT21
import Derived.Test.YtmgbkmobhjjkiaaT41
namespace Go.Proofs.Ytmgbkmobhjjkiaa
open Go.ChangeShapes Go.WideShapes Go.ChangeAt Go.RowKit Go.AM

theorem Try.own : ownKnob Try.prog.godebug = none := by kernel_rfl
theorem Try.laidOut : laidOutB Try.prog = true := by kernel_rfl

theorem awake_spec (σ : AHeap) : Go.AM.Spec Try.prog F_l05_Awake [] σ fun r σ' => r = .ret (.bool true) ∧ σ' = σ := Spec.pureFn o6_ok.2.2.2 rfl rfl σ

theorem packs (n : Nat) (us : List AVal) (h : (match aggT (Try.prog.underlying n) with | some true => true | _ => false) = true) : packT (aggT (Try.prog.underlying n)) us = .agg us := by
  unfold packT
  split at h
  · rename_i e; rw [e]
  · cases h

theorem agg24 : (match aggT (Try.prog.underlying 24) with | some true => true | _ => false) = true := by kernel_rfl
theorem agg27 : (match aggT (Try.prog.underlying 27) with | some true => true | _ => false) = true := by kernel_rfl
theorem agg3 : (match aggT (Try.prog.underlying 3) with | some true => true | _ => false) = false := by kernel_rfl
theorem pack3 (v : AVal) : packT (aggT (Try.prog.underlying 3)) [v] = v := by
  have h := agg3
  unfold packT
  split at h
  · cases h
  · rename_i hn
    split
    · rename_i e; exact absurd e hn
    · rfl

set_option maxRecDepth 100000 in
theorem bal_contract : ∀ l, shapedArgs Try.prog 5 Try.f3.params.toList l → Go.AM.Spec Try.prog 3 l [] fun r _ => r = .ret (.bool true) := by
  intro l hl
  have h0 : Try.f3.params.toList = [24, 27, 3] := by kernel_rfl
  rw [h0] at hl
  cases l with
  | nil => exact hl.elim
  | cons a l =>
  cases l with
  | nil => exact hl.2.elim
  | cons b l =>
  cases l with
  | nil => exact hl.2.2.elim
  | cons c l =>
  cases l with
  | cons d l => exact hl.2.2.2.elim
  | nil =>
  obtain ⟨⟨ca, ha, e1⟩, ⟨cb, hb, e2⟩, ⟨cc, hc, e3⟩, _⟩ := hl
  subst e1 e2 e3
  obtain ⟨m, rfl, hm⟩ := shaped_hull ha
  obtain ⟨t, rfl⟩ := shaped_truth hb
  obtain ⟨n, rfl⟩ := shaped_int hc ty3
  rw [packs 24 _ agg24, packs 27 _ agg27, pack3]
  exact balances_spec m t hm n awake_spec

def tysOk (P : Program) (k : Nat) : List TypeId → Bool
  | [] => true
  | t :: r => plainTy P k t && P.readableRec t && decide (t < P.types.size) && tysOk P k r
theorem tysOk_spec {P : Program} {k : Nat} : ∀ {l : List TypeId}, tysOk P k l = true → ∀ t ∈ l, plainTy P k t = true ∧ P.readableRec t = true ∧ t < P.types.size
  | t :: r, h, x, hx => by
    simp only [tysOk, Bool.and_eq_true, decide_eq_true_eq] at h
    rcases List.mem_cons.1 hx with rfl | hx
    · exact ⟨h.1.1.1, h.1.1.2, h.1.2⟩
    · exact tysOk_spec h.2 x hx

set_option maxRecDepth 100000 in
theorem bal_lifted (os : Os) (started : os.Started) (H : Type) (enc : TypeId × Value → H) :
    ReturnsInHanded {} Try.checked os 3 .any (Rows.standBalancesSpec.pre6 enc Try.prog Try.f3 Rows.standBalancesRow.domain false) (Rows.standBalancesSpec.post enc Try.prog Try.f3 false true false false) := by
  refine returnsInHanded_of_change (C := Try.checked) Try.own started (by kernel_rfl) Try.func3
    (ChangeSpec.witness6 (enc := enc) (C := Try.checked) false ⟨#[], #[.agg #[.slice none 0 0, .int .i64 0, .int .i64 0], .agg #[.slice none 0 0, .slice none 0 0], .int .i64 0], []⟩ 8 (by kernel_rfl) (by kernel_rfl) (by kernel_rfl) (by kernel_rfl)) ?_
  intro W base args ds gs before hval hW _ _
  exact law_calls (k := 5) (P := Try.prog) (tb := Try.f3.resultTypes.getD 0 0) (by kernel_rfl) (by kernel_rfl) rfl (fun ds hd => by
      have h3 : Try.f3.params.size = 3 := by kernel_rfl
      rw [h3] at hd
      match ds, hd with
      | [a, b, c], _ => exact ⟨rfl, rfl, rfl⟩) Try.laidOut (tysOk_spec (by kernel_rfl)) bal_contract hval hW

theorem bal_holds : Rows.StandBalancesSaid :=
  OpenClaim.holds_of_wide 3 Try.f3 rfl rfl rfl rfl rfl rfl rfl ⟨rfl, rfl, rfl, rfl, rfl⟩ rfl rfl rfl rfl rfl (by kernel_rfl) Try.func3 (by kernel_rfl)
    (of_decide_eq_true (by kernel_rfl)) (by unfold Func.isWrapper; first | (rw [if_pos (by decide +kernel)]; kernel_rfl) | (rw [if_neg (by decide +kernel)]; exact ⟨rfl, rfl⟩))
    (fun os started H enc _ => bal_lifted os started H enc)
end Go.Proofs.Ytmgbkmobhjjkiaa
