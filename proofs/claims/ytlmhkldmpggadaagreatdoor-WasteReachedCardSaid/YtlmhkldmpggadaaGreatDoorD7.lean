/- WasteReached: of a lead, what Range and Reach say is reached. The call returns true, and no memory of the caller's is changed, where the listed variables stand az the program's text lays them. -/
import Derived.Test.YtlmhkldmpggadaaGreatDoorP23
import Derived.Test.YtlmhkldmpggadaaGreatDoorP22
import Derived.Test.YtlmhkldmpggadaaGreatDoorP34
namespace Go.Proofs.YtlmhkldmpggadaaGreatDoor
open Go.ChangeShapes Go.WideShapes Go.ChangeAt Go.RowKit Go.AM
set_option maxRecDepth 100000 in
theorem mz:∀ l,gR Tryz.prog 8 Tryz.f13.params.toList l → Go.AM.Spec Tryz.prog 13 l [] fun r _=>r = .ret (.bool true):=by
 intro l hl;have h0:Tryz.f13.params.toList = [26,27,81]:=by kernel_rfl
 rw [h0] at hl
 cases l with
 | nil=>exact hl.elim
 | cons b0 l=>
 cases l with
 | nil=>exact hl.2.elim
 | cons b1 l=>
 cases l with
 | nil=>exact hl.2.2.elim
 | cons b2 l=>
 cases l with
 | cons d l=>exact hl.2.2.2.elim
 | nil=>
 obtain ⟨⟨a0,s0,e0⟩,⟨a1,s1,e1⟩,⟨a2,s2,e2⟩,_⟩:=hl;subst e0 e1 e2;obtain ⟨y,rfl,hy⟩:=mO s0;obtain ⟨w,rfl,hw⟩:=tn s1;obtain ⟨x,z,rfl,h1,h2⟩:=zY s2;rw [AN 26 _ (by kernel_rfl),IH 27 _ (by kernel_rfl),AN 81 _ (by kernel_rfl)];exact (qG y hy w hw x z h1 h2 []).mono fun r _ h=>h.1
set_option maxRecDepth 100000 in
theorem oC (os:Os) (started:os.Started) (H:Type) (enc:TypeId × Value → H) :
  ReturnsInHanded {} Tryz.checked os 13 .any (fun w args=>(Rows.wasteReachedSpec.pre enc Tryz.prog Tryz.f13 [] false w args ∧ laidMetH Tryz.prog cH w) ∧ sizedMet enc Tryz.prog Tryz.f13 (OpenSpec.ofChange Rows.wasteReachedSpec) false w args)
   (Rows.wasteReachedSpec.post enc Tryz.prog Tryz.f13 false true false false):=by
 refine fF (C:=Tryz.checked) (X:=fun w _=>laidMetH Tryz.prog cH w) (fun _ _ _ hh h=>h.of_heap hh) Tryz.own started (by kernel_rfl) Tryz.func13
  (ChangeSpec.witness_shaped (enc:=enc) (C:=Tryz.checked) (os:=os) (X:=fun w _=>laidMetH Tryz.prog cH w) false (World.laidAll Tryz.prog os cH) #[.agg #[.slice none 0 0, .slice none 0 0, .slice none 0 0, .slice none 0 0, .slice none 0 0], .slice none 0 0, .agg #[.int .u32 0, .int .u32 0]] 8 (World.laidAll_os _ _ _) (pP os _) (by kernel_rfl) (by kernel_rfl) (by kernel_rfl) (yJ os _)) ?_
 intro W base args ds gs before hval hW hR hL hsh
 exact rW (k:=8) (P:=Tryz.prog) (tb:=Tryz.f13.resultTypes.getD 0 0) (by kernel_rfl) (by kernel_rfl) rfl (fun ds hd=>by
   have h3:Tryz.f13.params.size = 3:=by kernel_rfl
   rw [h3] at hd
   match ds,hd with
   | [a,b,c],_=>exact ⟨rfl,rfl,rfl⟩) Tryz.laidOut (lB (by kernel_rfl)) mz hval hW hR (vh hL hsh)
theorem tJ:(Rows.wasteReachedRow.inPlace == Tryz.prog.inPlace 13) = true:=by kernel_rfl
theorem tW:(Rows.wasteReachedRow.unfollowed == Tryz.prog.unfollowed 13) = true:=by kernel_rfl
theorem tT:(Rows.wasteReachedRow.recurses == Tryz.prog.recurses 13) = true:=by kernel_rfl
theorem tB:(Rows.wasteReachedRow.named == Tryz.prog.varsNamed 13) = true:=by kernel_rfl
theorem oB:joinedFacts Tryz.prog 13 Tryz.f13 Rows.wasteReachedSpec Rows.wasteReachedRow = true:=rT Tryz.alone tJ tW tT tB (by kernel_rfl) (by kernel_rfl) (by kernel_rfl)
theorem qI:Tryz.f13.isWrapper Tryz.prog Rows.wasteReachedRow.wrapper Rows.wasteReachedRow.mainSum:=by unfold Func.isWrapper; first | (rw [if_pos (by decide +kernel)]; kernel_rfl) | (rw [if_neg (by decide +kernel)]; exact ⟨rfl,rfl⟩)
theorem qA:Rows.WasteReachedSaid:=
 OpenClaim.holds_of_wide 13 Tryz.f13 rfl rfl rfl rfl rfl rfl rfl ⟨rfl,rfl,rfl,rfl,rfl⟩ rfl rfl rfl rfl rfl (by kernel_rfl) Tryz.func13 oB
  (of_decide_eq_true (by kernel_rfl)) qI
  (fun os started H enc _=>oC os started H enc)
theorem wasteReached_holds:Rows.WasteReachedCardSaid:=
 Claim7.holds_tied_plain_at .later [] [.data, .data, .data, .data, .sentinel, .sentinel, .pinned] true (true, "5bc3faa6160b5a58fe760d55f3f1ad8ffc83f06cb82652ccd14f10a936d27600") true
  qA (fun _ h=>by cases h) (by kernel_rfl) (fun _ h=>by cases h) wasteReached_row_tie rfl ⟨rfl,rfl⟩ (by kernel_rfl) rfl
  (fun f fn hf hfn=>by
   obtain rfl : f = 13 := Option.some.inj ((show Tryz.prog.funcNamed "orlop/orloplaw09.WasteReached" = some 13 by kernel_rfl).symm.trans hf) |>.symm
   obtain rfl:fn = Tryz.f13:=(Option.some.inj (Tryz.func13.symm.trans hfn)).symm
   exact ⟨by kernel_rfl,fun j t ht=>by
    have h2:(Tryz.f13.params.toList.all fun t=>!(Tryz.pinned.checked.prog.wantsStandIn t)) = true:=by kernel_rfl
    have:=List.all_eq_true.1 h2 t (Array.mem_toList_iff.2 (Array.mem_of_getElem? ht))
    simpa using this⟩)
  (by kernel_rfl)
#print axioms wasteReached_holds
end Go.Proofs.YtlmhkldmpggadaaGreatDoor
