/- WasteKnown: the examples of the document. The call returns true, and no memory of the caller's is changed, where the listed variables stand az the program's text lays them. -/
import Derived.Test.YtlmhkldmpggadaaGreatDoorP34
import Derived.Test.YtlmhkldmpggadaaGreatDoorP33
import Derived.Test.YtlmhkldmpggadaaGreatDoorP50
namespace Go.Proofs.YtlmhkldmpggadaaGreatDoor
open Go.ChangeShapes Go.WideShapes Go.ChangeAt Go.RowKit Go.AM
set_option maxRecDepth 100000 in
theorem p7:∀ l,gA Tryz.prog 8 Tryz.f7.params.toList l → Go.AM.Spec Tryz.prog 7 l [] fun r _=>r = .ret (.bool true):=by
 intro l hl;have h0:Tryz.f7.params.toList = []:=by kernel_rfl
 rw [h0] at hl
 cases l with
 | cons d l=>exact hl.elim
 | nil=>
 exact (vo []).mono fun r _ h=>h.1
set_option maxRecDepth 100000 in
theorem se (os:Os) (started:os.Started) (H:Type) (enc:TypeId × Value → H) :
  ReturnsInHanded {} Tryz.checked os 7 .any (fun w args=>(Rows.wasteKnownSpec.pre enc Tryz.prog Tryz.f7 [] false w args ∧ laidMetH Tryz.prog bT w) ∧ sizedMet enc Tryz.prog Tryz.f7 (OpenSpec.ofChange Rows.wasteKnownSpec) false w args)
   (Rows.wasteKnownSpec.post enc Tryz.prog Tryz.f7 false true false false):=by
 refine eD (C:=Tryz.checked) (X:=fun w _=>laidMetH Tryz.prog bT w) (fun _ _ _ hh h=>h.of_heap hh) Tryz.own started (by kernel_rfl) Tryz.func7
  (ChangeSpec.witness_shaped (enc:=enc) (C:=Tryz.checked) (os:=os) (X:=fun w _=>laidMetH Tryz.prog bT w) false (World.laidAll Tryz.prog os bT) #[] 8 (World.laidAll_os _ _ _) (mH os _) (by kernel_rfl) (by kernel_rfl) (by kernel_rfl) (vH os _)) ?_
 intro W base args ds gs before hval hW hR hL hsh
 exact pF (k:=8) (P:=Tryz.prog) (tb:=Tryz.f7.resultTypes.getD 0 0) (by kernel_rfl) (by kernel_rfl) rfl (fun ds hd=>by
   have h3:Tryz.f7.params.size = 0:=by kernel_rfl
   rw [h3] at hd
   match ds,hd with
   | [],_=>exact ⟨rfl,rfl,rfl⟩) Tryz.laidOut (kE (by kernel_rfl)) p7 hval hW hR (ti hL hsh)
theorem yn:(Rows.wasteKnownRow.inPlace == Tryz.prog.inPlace 7) = true:=by kernel_rfl
theorem yj:(Rows.wasteKnownRow.unfollowed == Tryz.prog.unfollowed 7) = true:=by kernel_rfl
theorem xZ:(Rows.wasteKnownRow.recurses == Tryz.prog.recurses 7) = true:=by kernel_rfl
theorem yo:(Rows.wasteKnownRow.named == Tryz.prog.varsNamed 7) = true:=by kernel_rfl
theorem sn:joinedFacts Tryz.prog 7 Tryz.f7 Rows.wasteKnownSpec Rows.wasteKnownRow = true:=pI Tryz.alone yn yj xZ yo (by kernel_rfl) (by kernel_rfl) (by kernel_rfl)
theorem vi:Tryz.f7.isWrapper Tryz.prog Rows.wasteKnownRow.wrapper Rows.wasteKnownRow.mainSum:=by unfold Func.isWrapper; first | (rw [if_pos (by decide +kernel)]; kernel_rfl) | (rw [if_neg (by decide +kernel)]; exact ⟨rfl,rfl⟩)
theorem u6:Rows.WasteKnownSaid:=
 OpenClaim.holds_of_wide 7 Tryz.f7 rfl rfl rfl rfl rfl rfl rfl ⟨rfl,rfl,rfl,rfl,rfl⟩ rfl rfl rfl rfl rfl (by kernel_rfl) Tryz.func7 sn
  (of_decide_eq_true (by kernel_rfl)) vi
  (fun os started H enc _=>se os started H enc)
theorem wasteKnown_holds:Rows.WasteKnownCardSaid:=
 Claim7.holds_tied_plain_at .later [] [.data, .data, .data, .data, .sentinel, .sentinel, .pinned] true (true, "5bc3faa6160b5a58fe760d55f3f1ad8ffc83f06cb82652ccd14f10a936d27600") true
  u6 (fun _ h=>by cases h) (by kernel_rfl) (fun _ h=>by cases h) wasteKnown_row_tie rfl ⟨rfl,rfl⟩ (by kernel_rfl) rfl
  (fun f fn hf hfn=>by
   obtain rfl : f = 7 := Option.some.inj ((show Tryz.prog.funcNamed "orlop/orloplaw09.WasteKnown" = some 7 by kernel_rfl).symm.trans hf) |>.symm
   obtain rfl:fn = Tryz.f7:=(Option.some.inj (Tryz.func7.symm.trans hfn)).symm
   exact ⟨by kernel_rfl,fun j t ht=>by
    have h2:(Tryz.f7.params.toList.all fun t=>!(Tryz.pinned.checked.prog.wantsStandIn t)) = true:=by kernel_rfl
    have:=List.all_eq_true.1 h2 t (Array.mem_toList_iff.2 (Array.mem_of_getElem? ht))
    simpa using this⟩)
  (by kernel_rfl)
#print axioms wasteKnown_holds
end Go.Proofs.YtlmhkldmpggadaaGreatDoor
