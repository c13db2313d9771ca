/- WasteMore: with more papers that are false a yard that closed still does, and no range is narrower. The call returns true, and no memory of the caller's is changed, where the listed variables stand az the program's text lays them. -/
import Derived.Test.YtlmhkldmpggadaaGreatDoorP23
import Derived.Test.YtlmhkldmpggadaaGreatDoorP22
import Derived.Test.YtlmhkldmpggadaaGreatDoorP33
namespace Go.Proofs.YtlmhkldmpggadaaGreatDoor
open Go.ChangeShapes Go.WideShapes Go.ChangeAt Go.RowKit Go.AM
set_option maxRecDepth 100000 in
theorem od:∀ l,fj Tryz.prog 8 Tryz.f12.params.toList l → Go.AM.Spec Tryz.prog 12 l [] fun r _=>r = .ret (.bool true):=by
 intro l hl;have h0:Tryz.f12.params.toList = [26,27,78]:=by kernel_rfl
 rw [h0] at hl
 cases l with
 | nil=>exact hl.elim
 | cons b0 l=>
 cases l with
 | nil=>exact hl.2.elim
 | cons b1 l=>
 cases l with
 | nil=>exact hl.2.2.elim
 | cons b2 l=>
 cases l with
 | cons d l=>exact hl.2.2.2.elim
 | nil=>
 obtain ⟨⟨a0,s0,e0⟩,⟨a1,s1,e1⟩,⟨a2,s2,e2⟩,_⟩:=hl;subst e0 e1 e2;obtain ⟨y,rfl,hy⟩:=jE s0;obtain ⟨w,rfl,hw⟩:=rZ s1;obtain ⟨a,b,c,rfl,ha,hb,hc⟩:=xX s2;rw [vB 26 _ (by kernel_rfl),BK 27 _ (by kernel_rfl),vB 78 _ (by kernel_rfl)];exact (uZ y hy w hw a b c ha hb hc []).mono fun r _ h=>h.1
set_option maxRecDepth 100000 in
theorem qV (os:Os) (started:os.Started) (H:Type) (enc:TypeId × Value → H) :
  ReturnsInHanded {} Tryz.checked os 12 .any (fun w args=>(Rows.wasteMoreSpec.pre enc Tryz.prog Tryz.f12 [] false w args ∧ laidMetH Tryz.prog bu w) ∧ sizedMet enc Tryz.prog Tryz.f12 (OpenSpec.ofChange Rows.wasteMoreSpec) false w args)
   (Rows.wasteMoreSpec.post enc Tryz.prog Tryz.f12 false true false false):=by
 refine dF (C:=Tryz.checked) (X:=fun w _=>laidMetH Tryz.prog bu w) (fun _ _ _ hh h=>h.of_heap hh) Tryz.own started (by kernel_rfl) Tryz.func12
  (ChangeSpec.witness_shaped (enc:=enc) (C:=Tryz.checked) (os:=os) (X:=fun w _=>laidMetH Tryz.prog bu w) false (World.laidAll Tryz.prog os bu) #[.agg #[.slice none 0 0, .slice none 0 0, .slice none 0 0, .slice none 0 0, .slice none 0 0], .slice none 0 0, .agg #[.int .u8 0, .int .u8 0, .int .u8 0]] 8 (World.laidAll_os _ _ _) (kN os _) (by kernel_rfl) (by kernel_rfl) (by kernel_rfl) (sQ os _)) ?_
 intro W base args ds gs before hval hW hR hL hsh
 exact mQ (k:=8) (P:=Tryz.prog) (tb:=Tryz.f12.resultTypes.getD 0 0) (by kernel_rfl) (by kernel_rfl) rfl (fun ds hd=>by
   have h3:Tryz.f12.params.size = 3:=by kernel_rfl
   rw [h3] at hd
   match ds,hd with
   | [a,b,c],_=>exact ⟨rfl,rfl,rfl⟩) Tryz.laidOut (iX (by kernel_rfl)) od hval hW hR (qA hL hsh)
theorem xu:(Rows.wasteMoreRow.inPlace == Tryz.prog.inPlace 12) = true:=by kernel_rfl
theorem xF:(Rows.wasteMoreRow.unfollowed == Tryz.prog.unfollowed 12) = true:=by kernel_rfl
theorem xW:(Rows.wasteMoreRow.recurses == Tryz.prog.recurses 12) = true:=by kernel_rfl
theorem xo:(Rows.wasteMoreRow.named == Tryz.prog.varsNamed 12) = true:=by kernel_rfl
theorem ry:joinedFacts Tryz.prog 12 Tryz.f12 Rows.wasteMoreSpec Rows.wasteMoreRow = true:=mZ Tryz.alone xu xF xW xo (by kernel_rfl) (by kernel_rfl) (by kernel_rfl)
theorem tG:Tryz.f12.isWrapper Tryz.prog Rows.wasteMoreRow.wrapper Rows.wasteMoreRow.mainSum:=by unfold Func.isWrapper; first | (rw [if_pos (by decide +kernel)]; kernel_rfl) | (rw [if_neg (by decide +kernel)]; exact ⟨rfl,rfl⟩)
theorem tw:Rows.WasteMoreSaid:=
 OpenClaim.holds_of_wide 12 Tryz.f12 rfl rfl rfl rfl rfl rfl rfl ⟨rfl,rfl,rfl,rfl,rfl⟩ rfl rfl rfl rfl rfl (by kernel_rfl) Tryz.func12 ry
  (of_decide_eq_true (by kernel_rfl)) tG
  (fun os started H enc _=>qV os started H enc)
theorem wasteMore_holds:Rows.WasteMoreCardSaid:=
 Claim7.holds_tied_plain_at .later [] [.data, .data, .data, .data, .sentinel, .sentinel, .pinned] true (true, "5bc3faa6160b5a58fe760d55f3f1ad8ffc83f06cb82652ccd14f10a936d27600") true
  tw (fun _ h=>by cases h) (by kernel_rfl) (fun _ h=>by cases h) wasteMore_row_tie rfl ⟨rfl,rfl⟩ (by kernel_rfl) rfl
  (fun f fn hf hfn=>by
   obtain rfl : f = 12 := Option.some.inj ((show Tryz.prog.funcNamed "orlop/orloplaw09.WasteMore" = some 12 by kernel_rfl).symm.trans hf) |>.symm
   obtain rfl:fn = Tryz.f12:=(Option.some.inj (Tryz.func12.symm.trans hfn)).symm
   exact ⟨by kernel_rfl,fun j t ht=>by
    have h2:(Tryz.f12.params.toList.all fun t=>!(Tryz.pinned.checked.prog.wantsStandIn t)) = true:=by kernel_rfl
    have:=List.all_eq_true.1 h2 t (Array.mem_toList_iff.2 (Array.mem_of_getElem? ht))
    simpa using this⟩)
  (by kernel_rfl)
#print axioms wasteMore_holds
end Go.Proofs.YtlmhkldmpggadaaGreatDoor
