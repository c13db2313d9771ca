/- WasteTexts: Write and Read return what the document says, for any yard and string. The call returns true, and no memory of the caller's is changed, where the listed variables stand az the program's text lays them. -/
import Derived.Test.YtlmhkldmpggadaaGreatDoorP34
import Derived.Test.YtlmhkldmpggadaaGreatDoorP33
import Derived.Test.YtlmhkldmpggadaaGreatDoorP51
namespace Go.Proofs.YtlmhkldmpggadaaGreatDoor
open Go.ChangeShapes Go.WideShapes Go.ChangeAt Go.RowKit Go.AM
set_option maxRecDepth 100000 in
theorem p6:∀ l,gA Tryz.prog 8 Tryz.f6.params.toList l → Go.AM.Spec Tryz.prog 6 l [] fun r _=>r = .ret (.bool true):=by
 intro l hl;have h0:Tryz.f6.params.toList = [26,9]:=by kernel_rfl
 rw [h0] at hl
 cases l with
 | nil=>exact hl.elim
 | cons b0 l=>
 cases l with
 | nil=>exact hl.2.elim
 | cons b1 l=>
 cases l with
 | cons d l=>exact hl.2.2.elim
 | nil=>
 obtain ⟨⟨a0,s0,e0⟩,⟨a1,s1,e1⟩,_⟩:=hl;subst e0 e1;obtain ⟨y,rfl,hy⟩:=n6 s0;obtain ⟨s,rfl,_⟩:=s1.str ty9;rw [Fs 26 _ (by kernel_rfl),ED 9 _ (by kernel_rfl)];exact (va y hy s []).mono fun r _ h=>h.1
set_option maxRecDepth 100000 in
theorem sH (os:Os) (started:os.Started) (H:Type) (enc:TypeId × Value → H) :
  ReturnsInHanded {} Tryz.checked os 6 .any (fun w args=>(Rows.wasteTextsSpec.pre enc Tryz.prog Tryz.f6 [] false w args ∧ laidMetH Tryz.prog bT w) ∧ sizedMet enc Tryz.prog Tryz.f6 (OpenSpec.ofChange Rows.wasteTextsSpec) false w args)
   (Rows.wasteTextsSpec.post enc Tryz.prog Tryz.f6 false true false false):=by
 refine eD (C:=Tryz.checked) (X:=fun w _=>laidMetH Tryz.prog bT w) (fun _ _ _ hh h=>h.of_heap hh) Tryz.own started (by kernel_rfl) Tryz.func6
  (ChangeSpec.witness_shaped (enc:=enc) (C:=Tryz.checked) (os:=os) (X:=fun w _=>laidMetH Tryz.prog bT w) false (World.laidAll Tryz.prog os bT) #[.agg #[.slice none 0 0, .slice none 0 0, .slice none 0 0, .slice none 0 0, .slice none 0 0], .string .empty] 8 (World.laidAll_os _ _ _) (mH os _) (by kernel_rfl) (by kernel_rfl) (by kernel_rfl) (vH os _)) ?_
 intro W base args ds gs before hval hW hR hL hsh
 exact pF (k:=8) (P:=Tryz.prog) (tb:=Tryz.f6.resultTypes.getD 0 0) (by kernel_rfl) (by kernel_rfl) rfl (fun ds hd=>by
   have h3:Tryz.f6.params.size = 2:=by kernel_rfl
   rw [h3] at hd
   match ds,hd with
   | [a,b],_=>exact ⟨rfl,rfl,rfl⟩) Tryz.laidOut (kE (by kernel_rfl)) p6 hval hW hR (ti hL hsh)
theorem x0:(Rows.wasteTextsRow.inPlace == Tryz.prog.inPlace 6) = true:=by kernel_rfl
theorem yd:(Rows.wasteTextsRow.unfollowed == Tryz.prog.unfollowed 6) = true:=by kernel_rfl
theorem yc:(Rows.wasteTextsRow.recurses == Tryz.prog.recurses 6) = true:=by kernel_rfl
theorem yz:(Rows.wasteTextsRow.named == Tryz.prog.varsNamed 6) = true:=by kernel_rfl
theorem sb:joinedFacts Tryz.prog 6 Tryz.f6 Rows.wasteTextsSpec Rows.wasteTextsRow = true:=pI Tryz.alone x0 yd yc yz (by kernel_rfl) (by kernel_rfl) (by kernel_rfl)
theorem vq:Tryz.f6.isWrapper Tryz.prog Rows.wasteTextsRow.wrapper Rows.wasteTextsRow.mainSum:=by unfold Func.isWrapper; first | (rw [if_pos (by decide +kernel)]; kernel_rfl) | (rw [if_neg (by decide +kernel)]; exact ⟨rfl,rfl⟩)
theorem vn:Rows.WasteTextsSaid:=
 OpenClaim.holds_of_wide 6 Tryz.f6 rfl rfl rfl rfl rfl rfl rfl ⟨rfl,rfl,rfl,rfl,rfl⟩ rfl rfl rfl rfl rfl (by kernel_rfl) Tryz.func6 sb
  (of_decide_eq_true (by kernel_rfl)) vq
  (fun os started H enc _=>sH os started H enc)
theorem wasteTexts_holds:Rows.WasteTextsCardSaid:=
 Claim7.holds_tied_plain_at .later [] [.data, .data, .data, .data, .sentinel, .sentinel, .pinned] true (true, "5bc3faa6160b5a58fe760d55f3f1ad8ffc83f06cb82652ccd14f10a936d27600") true
  vn (fun _ h=>by cases h) (by kernel_rfl) (fun _ h=>by cases h) wasteTexts_row_tie rfl ⟨rfl,rfl⟩ (by kernel_rfl) rfl
  (fun f fn hf hfn=>by
   obtain rfl : f = 6 := Option.some.inj ((show Tryz.prog.funcNamed "orlop/orloplaw09.WasteTexts" = some 6 by kernel_rfl).symm.trans hf) |>.symm
   obtain rfl:fn = Tryz.f6:=(Option.some.inj (Tryz.func6.symm.trans hfn)).symm
   exact ⟨by kernel_rfl,fun j t ht=>by
    have h2:(Tryz.f6.params.toList.all fun t=>!(Tryz.pinned.checked.prog.wantsStandIn t)) = true:=by kernel_rfl
    have:=List.all_eq_true.1 h2 t (Array.mem_toList_iff.2 (Array.mem_of_getElem? ht))
    simpa using this⟩)
  (by kernel_rfl)
#print axioms wasteTexts_holds
end Go.Proofs.YtlmhkldmpggadaaGreatDoor
