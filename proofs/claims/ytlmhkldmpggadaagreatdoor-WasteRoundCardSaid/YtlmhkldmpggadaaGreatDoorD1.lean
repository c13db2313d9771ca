/- WasteRound: Read of what Write returns is the yard; Write of what Read returns is the same text. The call returns true, and no memory of the caller's is changed, where the listed variables stand az the program's text lays them. -/
import Derived.Test.YtlmhkldmpggadaaGreatDoorP23
import Derived.Test.YtlmhkldmpggadaaGreatDoorP22
import Derived.Test.YtlmhkldmpggadaaGreatDoorP31
namespace Go.Proofs.YtlmhkldmpggadaaGreatDoor
open Go.ChangeShapes Go.WideShapes Go.ChangeAt Go.RowKit Go.AM
set_option maxRecDepth 100000 in
theorem nG:∀ l,fj Tryz.prog 8 Tryz.f15.params.toList l → Go.AM.Spec Tryz.prog 15 l [] fun r _=>r = .ret (.bool true):=by
 intro l hl;have h0:Tryz.f15.params.toList = [26,9]:=by kernel_rfl
 rw [h0] at hl
 cases l with
 | nil=>exact hl.elim
 | cons b0 l=>
 cases l with
 | nil=>exact hl.2.elim
 | cons b1 l=>
 cases l with
 | cons d l=>exact hl.2.2.elim
 | nil=>
 obtain ⟨⟨a0,s0,e0⟩,⟨a1,s1,e1⟩,_⟩:=hl;subst e0 e1;obtain ⟨y,rfl,hy⟩:=jE s0;obtain ⟨s,rfl,_⟩:=s1.str ty9;rw [vB 26 _ (by kernel_rfl),BK 9 _ (by kernel_rfl)];exact (sF y hy s []).mono fun r _ h=>h.1
set_option maxRecDepth 100000 in
theorem p7 (os:Os) (started:os.Started) (H:Type) (enc:TypeId × Value → H) :
  ReturnsInHanded {} Tryz.checked os 15 .any (fun w args=>(Rows.wasteRoundSpec.pre enc Tryz.prog Tryz.f15 [] false w args ∧ laidMetH Tryz.prog bu w) ∧ sizedMet enc Tryz.prog Tryz.f15 (OpenSpec.ofChange Rows.wasteRoundSpec) false w args)
   (Rows.wasteRoundSpec.post enc Tryz.prog Tryz.f15 false true false false):=by
 refine dF (C:=Tryz.checked) (X:=fun w _=>laidMetH Tryz.prog bu w) (fun _ _ _ hh h=>h.of_heap hh) Tryz.own started (by kernel_rfl) Tryz.func15
  (ChangeSpec.witness_shaped (enc:=enc) (C:=Tryz.checked) (os:=os) (X:=fun w _=>laidMetH Tryz.prog bu w) false (World.laidAll Tryz.prog os bu) #[.agg #[.slice none 0 0, .slice none 0 0, .slice none 0 0, .slice none 0 0, .slice none 0 0], .string .empty] 8 (World.laidAll_os _ _ _) (kN os _) (by kernel_rfl) (by kernel_rfl) (by kernel_rfl) (sQ os _)) ?_
 intro W base args ds gs before hval hW hR hL hsh
 exact mQ (k:=8) (P:=Tryz.prog) (tb:=Tryz.f15.resultTypes.getD 0 0) (by kernel_rfl) (by kernel_rfl) rfl (fun ds hd=>by
   have h3:Tryz.f15.params.size = 2:=by kernel_rfl
   rw [h3] at hd
   match ds,hd with
   | [a,b],_=>exact ⟨rfl,rfl,rfl⟩) Tryz.laidOut (iX (by kernel_rfl)) nG hval hW hR (qA hL hsh)
theorem vn:(Rows.wasteRoundRow.inPlace == Tryz.prog.inPlace 15) = true:=by kernel_rfl
theorem ve:(Rows.wasteRoundRow.unfollowed == Tryz.prog.unfollowed 15) = true:=by kernel_rfl
theorem vj:(Rows.wasteRoundRow.recurses == Tryz.prog.recurses 15) = true:=by kernel_rfl
theorem u6:(Rows.wasteRoundRow.named == Tryz.prog.varsNamed 15) = true:=by kernel_rfl
theorem pF:joinedFacts Tryz.prog 15 Tryz.f15 Rows.wasteRoundSpec Rows.wasteRoundRow = true:=mZ Tryz.alone vn ve vj u6 (by kernel_rfl) (by kernel_rfl) (by kernel_rfl)
theorem sE:Tryz.f15.isWrapper Tryz.prog Rows.wasteRoundRow.wrapper Rows.wasteRoundRow.mainSum:=by unfold Func.isWrapper; first | (rw [if_pos (by decide +kernel)]; kernel_rfl) | (rw [if_neg (by decide +kernel)]; exact ⟨rfl,rfl⟩)
theorem ss:Rows.WasteRoundSaid:=
 OpenClaim.holds_of_wide 15 Tryz.f15 rfl rfl rfl rfl rfl rfl rfl ⟨rfl,rfl,rfl,rfl,rfl⟩ rfl rfl rfl rfl rfl (by kernel_rfl) Tryz.func15 pF
  (of_decide_eq_true (by kernel_rfl)) sE
  (fun os started H enc _=>p7 os started H enc)
theorem wasteRound_holds:Rows.WasteRoundCardSaid:=
 Claim7.holds_tied_plain_at .later [] [.data, .data, .data, .data, .sentinel, .sentinel, .pinned] true (true, "5bc3faa6160b5a58fe760d55f3f1ad8ffc83f06cb82652ccd14f10a936d27600") true
  ss (fun _ h=>by cases h) (by kernel_rfl) (fun _ h=>by cases h) wasteRound_row_tie rfl ⟨rfl,rfl⟩ (by kernel_rfl) rfl
  (fun f fn hf hfn=>by
   obtain rfl : f = 15 := Option.some.inj ((show Tryz.prog.funcNamed "orlop/orloplaw09.WasteRound" = some 15 by kernel_rfl).symm.trans hf) |>.symm
   obtain rfl:fn = Tryz.f15:=(Option.some.inj (Tryz.func15.symm.trans hfn)).symm
   exact ⟨by kernel_rfl,fun j t ht=>by
    have h2:(Tryz.f15.params.toList.all fun t=>!(Tryz.pinned.checked.prog.wantsStandIn t)) = true:=by kernel_rfl
    have:=List.all_eq_true.1 h2 t (Array.mem_toList_iff.2 (Array.mem_of_getElem? ht))
    simpa using this⟩)
  (by kernel_rfl)
#print axioms wasteRound_holds
end Go.Proofs.YtlmhkldmpggadaaGreatDoor
