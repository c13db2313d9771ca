/- WasteFalses: Fewest, Must and May return what the document says, for any yard. The call returns true, and no memory of the caller's is changed, where the listed variables stand az the program's text lays them. -/
import Derived.Test.YtlmhkldmpggadaaGreatDoorP23
import Derived.Test.YtlmhkldmpggadaaGreatDoorP22
import Derived.Test.YtlmhkldmpggadaaGreatDoorP33
namespace Go.Proofs.YtlmhkldmpggadaaGreatDoor
open Go.ChangeShapes Go.WideShapes Go.ChangeAt Go.RowKit Go.AM
set_option maxRecDepth 100000 in
theorem mS:∀ l,gR Tryz.prog 8 Tryz.f4.params.toList l → Go.AM.Spec Tryz.prog 4 l [] fun r _=>r = .ret (.bool true):=by
 intro l hl;have h0:Tryz.f4.params.toList = [26]:=by kernel_rfl
 rw [h0] at hl
 cases l with
 | nil=>exact hl.elim
 | cons b0 l=>
 cases l with
 | cons d l=>exact hl.2.elim
 | nil=>
 obtain ⟨⟨a0,s0,e0⟩,_⟩:=hl;subst e0;obtain ⟨y,rfl,hy⟩:=mO s0;rw [AN 26 _ (by kernel_rfl)];exact (sy y hy []).mono fun r _ h=>h.1
set_option maxRecDepth 100000 in
theorem pV (os:Os) (started:os.Started) (H:Type) (enc:TypeId × Value → H) :
  ReturnsInHanded {} Tryz.checked os 4 .any (fun w args=>(Rows.wasteFalsesSpec.pre enc Tryz.prog Tryz.f4 [] false w args ∧ laidMetH Tryz.prog cH w) ∧ sizedMet enc Tryz.prog Tryz.f4 (OpenSpec.ofChange Rows.wasteFalsesSpec) false w args)
   (Rows.wasteFalsesSpec.post enc Tryz.prog Tryz.f4 false true false false):=by
 refine fF (C:=Tryz.checked) (X:=fun w _=>laidMetH Tryz.prog cH w) (fun _ _ _ hh h=>h.of_heap hh) Tryz.own started (by kernel_rfl) Tryz.func4
  (ChangeSpec.witness_shaped (enc:=enc) (C:=Tryz.checked) (os:=os) (X:=fun w _=>laidMetH Tryz.prog cH w) false (World.laidAll Tryz.prog os cH) #[.agg #[.slice none 0 0, .slice none 0 0, .slice none 0 0, .slice none 0 0, .slice none 0 0]] 8 (World.laidAll_os _ _ _) (pP os _) (by kernel_rfl) (by kernel_rfl) (by kernel_rfl) (yJ os _)) ?_
 intro W base args ds gs before hval hW hR hL hsh
 exact rW (k:=8) (P:=Tryz.prog) (tb:=Tryz.f4.resultTypes.getD 0 0) (by kernel_rfl) (by kernel_rfl) rfl (fun ds hd=>by
   have h3:Tryz.f4.params.size = 1:=by kernel_rfl
   rw [h3] at hd
   match ds,hd with
   | [a],_=>exact ⟨rfl,rfl,rfl⟩) Tryz.laidOut (lB (by kernel_rfl)) mS hval hW hR (vh hL hsh)
theorem vI:(Rows.wasteFalsesRow.inPlace == Tryz.prog.inPlace 4) = true:=by kernel_rfl
theorem uZ:(Rows.wasteFalsesRow.unfollowed == Tryz.prog.unfollowed 4) = true:=by kernel_rfl
theorem vR:(Rows.wasteFalsesRow.recurses == Tryz.prog.recurses 4) = true:=by kernel_rfl
theorem vS:(Rows.wasteFalsesRow.named == Tryz.prog.varsNamed 4) = true:=by kernel_rfl
theorem pL:joinedFacts Tryz.prog 4 Tryz.f4 Rows.wasteFalsesSpec Rows.wasteFalsesRow = true:=rT Tryz.alone vI uZ vR vS (by kernel_rfl) (by kernel_rfl) (by kernel_rfl)
theorem sf:Tryz.f4.isWrapper Tryz.prog Rows.wasteFalsesRow.wrapper Rows.wasteFalsesRow.mainSum:=by unfold Func.isWrapper; first | (rw [if_pos (by decide +kernel)]; kernel_rfl) | (rw [if_neg (by decide +kernel)]; exact ⟨rfl,rfl⟩)
theorem ss:Rows.WasteFalsesSaid:=
 OpenClaim.holds_of_wide 4 Tryz.f4 rfl rfl rfl rfl rfl rfl rfl ⟨rfl,rfl,rfl,rfl,rfl⟩ rfl rfl rfl rfl rfl (by kernel_rfl) Tryz.func4 pL
  (of_decide_eq_true (by kernel_rfl)) sf
  (fun os started H enc _=>pV os started H enc)
theorem wasteFalses_holds:Rows.WasteFalsesCardSaid:=
 Claim7.holds_tied_plain_at .later [] [.data, .data, .data, .data, .sentinel, .sentinel, .pinned] true (true, "5bc3faa6160b5a58fe760d55f3f1ad8ffc83f06cb82652ccd14f10a936d27600") true
  ss (fun _ h=>by cases h) (by kernel_rfl) (fun _ h=>by cases h) wasteFalses_row_tie rfl ⟨rfl,rfl⟩ (by kernel_rfl) rfl
  (fun f fn hf hfn=>by
   obtain rfl : f = 4 := Option.some.inj ((show Tryz.prog.funcNamed "orlop/orloplaw09.WasteFalses" = some 4 by kernel_rfl).symm.trans hf) |>.symm
   obtain rfl:fn = Tryz.f4:=(Option.some.inj (Tryz.func4.symm.trans hfn)).symm
   exact ⟨by kernel_rfl,fun j t ht=>by
    have h2:(Tryz.f4.params.toList.all fun t=>!(Tryz.pinned.checked.prog.wantsStandIn t)) = true:=by kernel_rfl
    have:=List.all_eq_true.1 h2 t (Array.mem_toList_iff.2 (Array.mem_of_getElem? ht))
    simpa using this⟩)
  (by kernel_rfl)
#print axioms wasteFalses_holds
end Go.Proofs.YtlmhkldmpggadaaGreatDoor
