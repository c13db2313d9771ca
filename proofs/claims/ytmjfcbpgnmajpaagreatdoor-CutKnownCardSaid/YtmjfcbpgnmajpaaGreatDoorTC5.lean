/- CutKnown: the examples of the document. The call returns true, and no memory of the caller's is changed, where the tables of math/bits stand as the program's text lays them. -/
import Derived.Test.YtmjfcbpgnmajpaaGreatDoorTL0
import Derived.Test.YtmjfcbpgnmajpaaGreatDoorTC4
namespace Go.Proofs.YtmjfcbpgnmajpaaGreatDoor
open Go.ChangeShapes Go.WideShapes Go.ChangeAt Go.RowKit Go.AM

theorem cutKnown_contract : ∀ l, shapedArgs Tryz.prog 5 Tryz.f6.params.toList l → Go.AM.Spec Tryz.prog 6 l [] fun r _ => r = .ret (.bool true) := by
  intro l hl
  have h0 : Tryz.f6.params.toList = [] := by kernel_rfl
  rw [h0] at hl
  cases l with
  | nil => exact true_of_run theTab_ok (orcs_ok orcK_ok) known_run
  | cons a l => exact hl.elim

set_option maxRecDepth 100000 in
theorem cutKnown_lifted (os : Os) (started : os.Started) (H : Type) (enc : TypeId × Value → H) :
    ReturnsInHanded {} Tryz.checked os 6 .any (fun w args => (Rows.cutKnownSpec.pre enc Tryz.prog Tryz.f6 [] false w args ∧ laidMetH Tryz.prog laidTwo w) ∧ sizedMet enc Tryz.prog Tryz.f6 (OpenSpec.ofChange Rows.cutKnownSpec) false w args)
      (Rows.cutKnownSpec.post enc Tryz.prog Tryz.f6 false true false false) := by
  refine returnsInHanded_of_change_and (C := Tryz.checked) (X := fun w _ => laidMetH Tryz.prog laidTwo w) (fun _ _ _ hh h => h.of_heap hh) Tryz.own started (by kernel_rfl) Tryz.func6
    (ChangeSpec.witness_shaped (enc := enc) (C := Tryz.checked) (os := os) (X := fun w _ => laidMetH Tryz.prog laidTwo w) false (World.doorLaid Tryz.prog 400 os) #[] 8 rfl (World.shaped_of_RefB (by kernel_rfl) (by kernel_rfl)) (by kernel_rfl) (by kernel_rfl) (by kernel_rfl) (door_met os _)) ?_
  intro W base args ds gs before hval hW _ _ hL _
  exact law_calls (k := 5) (P := Tryz.prog) (tb := Tryz.f6.resultTypes.getD 0 0) (by kernel_rfl) (by kernel_rfl) rfl (fun ds hd => by
      have h3 : Tryz.f6.params.size = 0 := by kernel_rfl
      rw [h3] at hd
      match ds, hd with
      | [], _ => exact ⟨rfl, rfl, rfl⟩) Tryz.laidOut (fun t ht => by
      have h0 : Tryz.f6.params.toList = [] := by kernel_rfl
      rw [h0] at ht; cases ht) cutKnown_contract hval hW (laidW_of hL)

theorem cutKnown_said : Rows.CutKnownSaid :=
  OpenClaim.holds_of_wide 6 Tryz.f6 rfl rfl rfl rfl rfl rfl rfl ⟨rfl, rfl, rfl, rfl, rfl⟩ rfl rfl rfl rfl rfl (by kernel_rfl) Tryz.func6 (by kernel_rfl)
    (of_decide_eq_true (by kernel_rfl)) (by unfold Func.isWrapper; first | (rw [if_pos (by decide +kernel)]; kernel_rfl) | (rw [if_neg (by decide +kernel)]; exact ⟨rfl, rfl⟩))
    (fun os started H enc _ => cutKnown_lifted os started H enc)

theorem cutKnown_holds : Rows.CutKnownCardSaid :=
  Claim7.holds_tied_plain_at .later [] [.data, .data] true (true, "d1481c67644dfec0fe9e97f8892aacf0955c9f86bef1a2f0f3e74ec7de60f51d") true
    cutKnown_said (fun _ h => by cases h) (by kernel_rfl) (fun _ h => by cases h) cutKnown_row_tie rfl ⟨rfl, rfl⟩ (by kernel_rfl) rfl
    (fun f fn hf hfn => by
      obtain rfl : f = 6 := Option.some.inj ((show Tryz.prog.funcNamed "orlop/orloplaw06.CutKnown" = some 6 by kernel_rfl).symm.trans hf) |>.symm
      obtain rfl : fn = Tryz.f6 := (Option.some.inj (Tryz.func6.symm.trans hfn)).symm
      exact ⟨by kernel_rfl, fun j t ht => by
        have hp : Tryz.f6.params = #[] := by kernel_rfl
        rw [hp] at ht; simp at ht⟩)
    (by kernel_rfl)
#print axioms cutKnown_holds
end Go.Proofs.YtmjfcbpgnmajpaaGreatDoor
