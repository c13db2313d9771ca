/- WasteRanges: Range and Gone return what the document says, for any yard, papers that are false, paper and kind. The call returns true, and no memory of the caller's is changed, where the listed variables stand az the program's text lays them. -/
import Derived.Test.YtlmhkldmpggadaaGreatDoorP23
import Derived.Test.YtlmhkldmpggadaaGreatDoorP22
import Derived.Test.YtlmhkldmpggadaaGreatDoorP33
namespace Go.Proofs.YtlmhkldmpggadaaGreatDoor
open Go.ChangeShapes Go.WideShapes Go.ChangeAt Go.RowKit Go.AM
set_option maxRecDepth 100000 in
theorem oI:∀ l,gA Tryz.prog 8 Tryz.f5.params.toList l → Go.AM.Spec Tryz.prog 5 l [] fun r _=>r = .ret (.bool true):=by
 intro l hl;have h0:Tryz.f5.params.toList = [26,27,44]:=by kernel_rfl
 rw [h0] at hl
 cases l with
 | nil=>exact hl.elim
 | cons b0 l=>
 cases l with
 | nil=>exact hl.2.elim
 | cons b1 l=>
 cases l with
 | nil=>exact hl.2.2.elim
 | cons b2 l=>
 cases l with
 | cons d l=>exact hl.2.2.2.elim
 | nil=>
 obtain ⟨⟨a0,s0,e0⟩,⟨a1,s1,e1⟩,⟨a2,s2,e2⟩,_⟩:=hl;subst e0 e1 e2;obtain ⟨y,rfl,hy⟩:=n6 s0;obtain ⟨w,rfl,hw⟩:=uF s1;obtain ⟨x,z,rfl⟩:=DV s2;rw [Fs 26 _ (by kernel_rfl),ED 27 _ (by kernel_rfl),Fs 44 _ (by kernel_rfl)];exact (tO y hy w hw x z []).mono fun r _ h=>h.1
set_option maxRecDepth 100000 in
theorem qO (os:Os) (started:os.Started) (H:Type) (enc:TypeId × Value → H) :
  ReturnsInHanded {} Tryz.checked os 5 .any (fun w args=>(Rows.wasteRangesSpec.pre enc Tryz.prog Tryz.f5 [] false w args ∧ laidMetH Tryz.prog bT w) ∧ sizedMet enc Tryz.prog Tryz.f5 (OpenSpec.ofChange Rows.wasteRangesSpec) false w args)
   (Rows.wasteRangesSpec.post enc Tryz.prog Tryz.f5 false true false false):=by
 refine eD (C:=Tryz.checked) (X:=fun w _=>laidMetH Tryz.prog bT w) (fun _ _ _ hh h=>h.of_heap hh) Tryz.own started (by kernel_rfl) Tryz.func5
  (ChangeSpec.witness_shaped (enc:=enc) (C:=Tryz.checked) (os:=os) (X:=fun w _=>laidMetH Tryz.prog bT w) false (World.laidAll Tryz.prog os bT) #[.agg #[.slice none 0 0, .slice none 0 0, .slice none 0 0, .slice none 0 0, .slice none 0 0], .slice none 0 0, .agg #[.int .i64 0, .int .i64 0]] 8 (World.laidAll_os _ _ _) (mH os _) (by kernel_rfl) (by kernel_rfl) (by kernel_rfl) (vH os _)) ?_
 intro W base args ds gs before hval hW hR hL hsh
 exact pF (k:=8) (P:=Tryz.prog) (tb:=Tryz.f5.resultTypes.getD 0 0) (by kernel_rfl) (by kernel_rfl) rfl (fun ds hd=>by
   have h3:Tryz.f5.params.size = 3:=by kernel_rfl
   rw [h3] at hd
   match ds,hd with
   | [a,b,c],_=>exact ⟨rfl,rfl,rfl⟩) Tryz.laidOut (kE (by kernel_rfl)) oI hval hW hR (ti hL hsh)
theorem wW:(Rows.wasteRangesRow.inPlace == Tryz.prog.inPlace 5) = true:=by kernel_rfl
theorem w8:(Rows.wasteRangesRow.unfollowed == Tryz.prog.unfollowed 5) = true:=by kernel_rfl
theorem wx:(Rows.wasteRangesRow.recurses == Tryz.prog.recurses 5) = true:=by kernel_rfl
theorem xT:(Rows.wasteRangesRow.named == Tryz.prog.varsNamed 5) = true:=by kernel_rfl
theorem qF:joinedFacts Tryz.prog 5 Tryz.f5 Rows.wasteRangesSpec Rows.wasteRangesRow = true:=pI Tryz.alone wW w8 wx xT (by kernel_rfl) (by kernel_rfl) (by kernel_rfl)
theorem tw:Tryz.f5.isWrapper Tryz.prog Rows.wasteRangesRow.wrapper Rows.wasteRangesRow.mainSum:=by unfold Func.isWrapper; first | (rw [if_pos (by decide +kernel)]; kernel_rfl) | (rw [if_neg (by decide +kernel)]; exact ⟨rfl,rfl⟩)
theorem ud:Rows.WasteRangesSaid:=
 OpenClaim.holds_of_wide 5 Tryz.f5 rfl rfl rfl rfl rfl rfl rfl ⟨rfl,rfl,rfl,rfl,rfl⟩ rfl rfl rfl rfl rfl (by kernel_rfl) Tryz.func5 qF
  (of_decide_eq_true (by kernel_rfl)) tw
  (fun os started H enc _=>qO os started H enc)
theorem wasteRanges_holds:Rows.WasteRangesCardSaid:=
 Claim7.holds_tied_plain_at .later [] [.data, .data, .data, .data, .sentinel, .sentinel, .pinned] true (true, "5bc3faa6160b5a58fe760d55f3f1ad8ffc83f06cb82652ccd14f10a936d27600") true
  ud (fun _ h=>by cases h) (by kernel_rfl) (fun _ h=>by cases h) wasteRanges_row_tie rfl ⟨rfl,rfl⟩ (by kernel_rfl) rfl
  (fun f fn hf hfn=>by
   obtain rfl : f = 5 := Option.some.inj ((show Tryz.prog.funcNamed "orlop/orloplaw09.WasteRanges" = some 5 by kernel_rfl).symm.trans hf) |>.symm
   obtain rfl:fn = Tryz.f5:=(Option.some.inj (Tryz.func5.symm.trans hfn)).symm
   exact ⟨by kernel_rfl,fun j t ht=>by
    have h2:(Tryz.f5.params.toList.all fun t=>!(Tryz.pinned.checked.prog.wantsStandIn t)) = true:=by kernel_rfl
    have:=List.all_eq_true.1 h2 t (Array.mem_toList_iff.2 (Array.mem_of_getElem? ht))
    simpa using this⟩)
  (by kernel_rfl)
#print axioms wasteRanges_holds
end Go.Proofs.YtlmhkldmpggadaaGreatDoor
