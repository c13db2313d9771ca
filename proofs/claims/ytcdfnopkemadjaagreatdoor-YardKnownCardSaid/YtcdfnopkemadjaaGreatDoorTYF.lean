/- YardKnown: the examples of the document, one line after the other. The call returns true, and no memory of the caller's is changed, where the listed variables stand az the program's text lays them. -/
import Derived.Test.YtcdfnopkemadjaaGreatDoorP19
import Derived.Test.YtcdfnopkemadjaaGreatDoorP27
namespace Go.Proofs.YtcdfnopkemadjaaGreatDoor
open Go.ChangeShapes Go.WideShapes Go.ChangeAt Go.RowKit Go.AM

theorem iH : ∀ l, gx Tryz.prog 5 Tryz.f3.params.toList l → Go.AM.Spec Tryz.prog 3 l [] fun r _ => r = .ret (.bool true) := by
  intro l hl
  have h0 : Tryz.f3.params.toList = [] := by kernel_rfl
  rw [h0] at hl
  cases l with
  | nil => exact ml
  | cons a l => exact hl.elim

set_option maxRecDepth 100000 in
theorem jL (os : Os) (started : os.Started) (H : Type) (enc : TypeId × Value → H) :
    ReturnsInHanded {} Tryz.checked os 3 .any (fun w args => (Rows.yardKnownSpec.pre enc Tryz.prog Tryz.f3 [] false w args ∧ laidMetH Tryz.prog dK w) ∧ sizedMet enc Tryz.prog Tryz.f3 (OpenSpec.ofChange Rows.yardKnownSpec) false w args)
      (Rows.yardKnownSpec.post enc Tryz.prog Tryz.f3 false true false false) := by
  refine iM (C := Tryz.checked) (X := fun w _ => laidMetH Tryz.prog dK w) (fun _ _ _ hh h => h.of_heap hh) Tryz.own started (by kernel_rfl) Tryz.func3
    (ChangeSpec.witness_shaped (enc := enc) (C := Tryz.checked) (os := os) (X := fun w _ => laidMetH Tryz.prog dK w) false (World.laidAll Tryz.prog os dK) #[] 8 (World.laidAll_os _ _ _) (qy os _) (by kernel_rfl) (by kernel_rfl) (by kernel_rfl) (Ib os _)) ?_
  intro W base args ds gs before hval hW hR hL hsh
  exact uH (k := 5) (P := Tryz.prog) (tb := Tryz.f3.resultTypes.getD 0 0) (by kernel_rfl) (by kernel_rfl) rfl (fun ds hd => by
      have h3 : Tryz.f3.params.size = 0 := by kernel_rfl
      rw [h3] at hd
      match ds, hd with
      | [], _ => exact ⟨rfl, rfl, rfl⟩) Tryz.laidOut (fun t ht => by
      have h0 : Tryz.f3.params.toList = [] := by kernel_rfl
      rw [h0] at ht; cases ht) iH hval hW hR (Db hL hsh)

theorem nT : (Rows.yardKnownRow.inPlace == Tryz.prog.inPlace 3) = true := by kernel_rfl
theorem nE : (Rows.yardKnownRow.unfollowed == Tryz.prog.unfollowed 3) = true := by kernel_rfl
theorem nG : (Rows.yardKnownRow.recurses == Tryz.prog.recurses 3) = true := by kernel_rfl
theorem nP : (Rows.yardKnownRow.named == Tryz.prog.varsNamed 3) = true := by kernel_rfl
theorem jR : joinedFacts Tryz.prog 3 Tryz.f3 Rows.yardKnownSpec Rows.yardKnownRow = true := ve Tryz.alone nT nE nG nP (by kernel_rfl) (by kernel_rfl) (by kernel_rfl)
theorem ly : Tryz.f3.isWrapper Tryz.prog Rows.yardKnownRow.wrapper Rows.yardKnownRow.mainSum := by unfold Func.isWrapper; first | (rw [if_pos (by decide +kernel)]; kernel_rfl) | (rw [if_neg (by decide +kernel)]; exact ⟨rfl, rfl⟩)
theorem l8 : Rows.YardKnownSaid :=
  OpenClaim.holds_of_wide 3 Tryz.f3 rfl rfl rfl rfl rfl rfl rfl ⟨rfl, rfl, rfl, rfl, rfl⟩ rfl rfl rfl rfl rfl (by kernel_rfl) Tryz.func3 jR
    (of_decide_eq_true (by kernel_rfl)) ly
    (fun os started H enc _ => jL os started H enc)

theorem yardKnown_wf : Rows.yardKnownRow.wfByText (OpenSpec.ofChange Rows.yardKnownSpec) = true := by kernel_rfl
theorem yardKnown_main : Tryz.pinned.checked.prog.mainIs = some (true, "148779c8adca97a4e2d9c0cf7430f6695dadef532050698d418062204fd81bbb".toList) := by kernel_rfl
theorem yardKnown_looks : true = Tryz.pinned.checked.prog.looks [] := by kernel_rfl
theorem yardKnown_goes : false = Rows.yardKnownRow.goesBy Tryz.pinned.checked.prog := by kernel_rfl
theorem yardKnown_named : Tryz.prog.funcNamed "orlop/orloplaw13.YardKnown" = some 3 := by kernel_rfl
theorem yardKnown_seen (f : FuncId) (fn : Func) (hf : Tryz.pinned.checked.prog.funcNamed Rows.yardKnownRow.func = some f) (hfn : Tryz.pinned.checked.prog.funcs[f]? = some fn) : true = Tryz.pinned.checked.prog.looks [] ∧ ∀ (j : Nat) t, fn.params[j]? = some t → Tryz.pinned.checked.prog.wantsStandIn t = false := by
  obtain rfl : f = 3 := Option.some.inj (yardKnown_named.symm.trans hf) |>.symm
  obtain rfl : fn = Tryz.f3 := (Option.some.inj (Tryz.func3.symm.trans hfn)).symm
  exact ⟨yardKnown_looks, fun j t ht => by
    have hp : Tryz.f3.params = #[] := by kernel_rfl
    rw [hp] at ht; simp at ht⟩

theorem yardKnown_holds : Rows.YardKnownCardSaid :=
  Claim7.holds_tied_plain_at .later [] [.data, .data, .data, .data, .sentinel, .sentinel, .pinned] true (true, "148779c8adca97a4e2d9c0cf7430f6695dadef532050698d418062204fd81bbb") true
    l8 (fun _ h => by cases h) yardKnown_wf (fun _ h => by cases h) yardKnown_row_tie rfl ⟨rfl, rfl⟩ yardKnown_main rfl
    yardKnown_seen yardKnown_goes
#print axioms yardKnown_holds
end Go.Proofs.YtcdfnopkemadjaaGreatDoor
