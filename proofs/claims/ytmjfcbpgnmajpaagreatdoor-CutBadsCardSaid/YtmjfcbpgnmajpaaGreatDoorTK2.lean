/- CutBads: Check, Bad, May and Next return what the document says, for any task and order. The call returns true, and no memory of the caller's is changed, where the tables of math/bits stand as the program's text lays them. -/
import Derived.Test.YtmjfcbpgnmajpaaGreatDoorP13
import Derived.Test.YtmjfcbpgnmajpaaGreatDoorP25
namespace Go.Proofs.YtmjfcbpgnmajpaaGreatDoor
open Go.ChangeShapes Go.WideShapes Go.ChangeAt Go.RowKit Go.AM
def isAgg (P : Program) (n : TypeId) : Bool := match aggT (P.underlying n) with
  | some true => true
  | _ => false
theorem packs (n : Nat) (us : List AVal) (h : isAgg Tryz.prog n = true) : packT (aggT (Tryz.prog.underlying n)) us = .agg us := by
  unfold isAgg at h
  unfold packT
  split at h
  · rename_i e; rw [e]
  · cases h
theorem pack1 (n : Nat) (v : AVal) (h : isAgg Tryz.prog n = false) : packT (aggT (Tryz.prog.underlying n)) [v] = v := by
  unfold isAgg at h
  unfold packT
  split at h
  · cases h
  · rename_i hn
    split
    · rename_i e; exact absurd e hn
    · rfl
def tysOk (P : Program) (k : Nat) : List TypeId → Bool
  | [] => true
  | t :: r => plainTy P k t && P.readableRec t && decide (t < P.types.size) && tysOk P k r
theorem tysOk_spec {P : Program} {k : Nat} : ∀ {l : List TypeId}, tysOk P k l = true → ∀ t ∈ l, plainTy P k t = true ∧ P.readableRec t = true ∧ t < P.types.size
  | t :: r, h, x, hx => by
    simp only [tysOk, Bool.and_eq_true, decide_eq_true_eq] at h
    rcases List.mem_cons.1 hx with rfl | hx
    · exact ⟨h.1.1.1, h.1.1.2, h.1.2⟩
    · exact tysOk_spec h.2 x hx
set_option maxRecDepth 100000 in
theorem cutBads_contract : ∀ l, shapedArgs Tryz.prog 8 Tryz.f3.params.toList l → Go.AM.Spec Tryz.prog 3 l [] fun r _ => r = .ret (.bool true) := by
  intro l hl
  have h0 : Tryz.f3.params.toList = [38, 34] := by kernel_rfl
  rw [h0] at hl
  cases l with
  | nil => exact hl.elim
  | cons a l =>
  cases l with
  | nil => exact hl.2.elim
  | cons b l =>
  cases l with
  | cons c l => exact hl.2.2.elim
  | nil =>
  obtain ⟨⟨ca, ha, e1⟩, ⟨cb, hb, e2⟩, _⟩ := hl
  subst e1 e2
  obtain ⟨t, rfl, ht⟩ := shaped_task ha
  obtain ⟨o, rfl, ho⟩ := shaped_ints hb
  rw [packs 38 _ (by kernel_rfl), pack1 34 _ (by kernel_rfl)]
  exact cutBads_spec t ht o ho Go.AM.awake_spec
set_option maxRecDepth 100000 in
theorem cutBads_lifted (os : Os) (started : os.Started) (H : Type) (enc : TypeId × Value → H) :
    ReturnsInHanded {} Tryz.checked os 3 .any (fun w args => (Rows.cutBadsSpec.pre enc Tryz.prog Tryz.f3 [] false w args ∧ laidMetH Tryz.prog laidTwo w) ∧ sizedMet enc Tryz.prog Tryz.f3 (OpenSpec.ofChange Rows.cutBadsSpec) false w args)
      (Rows.cutBadsSpec.post enc Tryz.prog Tryz.f3 false true false false) := by
  refine returnsInHanded_of_change_and (C := Tryz.checked) (X := fun w _ => laidMetH Tryz.prog laidTwo w) (fun _ _ _ hh h => h.of_heap hh) Tryz.own started (by kernel_rfl) Tryz.func3
    (ChangeSpec.witness_shaped (enc := enc) (C := Tryz.checked) (os := os) (X := fun w _ => laidMetH Tryz.prog laidTwo w) false (World.doorLaid Tryz.prog 400 os) #[.agg #[.slice none 0 0, .slice none 0 0, .int .i64 0, .int .i64 0, .int .i64 0, .int .i64 0, .slice none 0 0, .slice none 0 0, .slice none 0 0, .slice none 0 0, .slice none 0 0], .slice none 0 0] 8 rfl (World.shaped_of_RefB (by kernel_rfl) (by kernel_rfl)) (by kernel_rfl) (by kernel_rfl) (by kernel_rfl) (door_met os _)) ?_
  intro W base args ds gs before hval hW _ _ hL _
  exact law_calls (k := 8) (P := Tryz.prog) (tb := Tryz.f3.resultTypes.getD 0 0) (by kernel_rfl) (by kernel_rfl) rfl (fun ds hd => by
      have h3 : Tryz.f3.params.size = 2 := by kernel_rfl
      rw [h3] at hd
      match ds, hd with
      | [a, b], _ => exact ⟨rfl, rfl, rfl⟩) Tryz.laidOut (tysOk_spec (by kernel_rfl)) cutBads_contract hval hW (laidW_of hL)
theorem cutBads_said : Rows.CutBadsSaid :=
  OpenClaim.holds_of_wide 3 Tryz.f3 rfl rfl rfl rfl rfl rfl rfl ⟨rfl, rfl, rfl, rfl, rfl⟩ rfl rfl rfl rfl rfl (by kernel_rfl) Tryz.func3 (by kernel_rfl)
    (of_decide_eq_true (by kernel_rfl)) (by unfold Func.isWrapper; first | (rw [if_pos (by decide +kernel)]; kernel_rfl) | (rw [if_neg (by decide +kernel)]; exact ⟨rfl, rfl⟩))
    (fun os started H enc _ => cutBads_lifted os started H enc)
theorem cutBads_holds : Rows.CutBadsCardSaid :=
  Claim7.holds_tied_plain_at .later [] [.data, .data] true (true, "d1481c67644dfec0fe9e97f8892aacf0955c9f86bef1a2f0f3e74ec7de60f51d") true
    cutBads_said (fun _ h => by cases h) (by kernel_rfl) (fun _ h => by cases h) cutBads_row_tie rfl ⟨rfl, rfl⟩ (by kernel_rfl) rfl
    (fun f fn hf hfn => by
      obtain rfl : f = 3 := Option.some.inj ((show Tryz.prog.funcNamed "orlop/orloplaw06.CutBads" = some 3 by kernel_rfl).symm.trans hf) |>.symm
      obtain rfl : fn = Tryz.f3 := (Option.some.inj (Tryz.func3.symm.trans hfn)).symm
      exact ⟨by kernel_rfl, fun j t ht => by
        have h2 : (Tryz.f3.params.toList.all fun t => !(Tryz.pinned.checked.prog.wantsStandIn t)) = true := by kernel_rfl
        have := List.all_eq_true.1 h2 t (Array.mem_toList_iff.2 (Array.mem_of_getElem? ht))
        simpa using this⟩)
    (by kernel_rfl)
end Go.Proofs.YtmjfcbpgnmajpaaGreatDoor
