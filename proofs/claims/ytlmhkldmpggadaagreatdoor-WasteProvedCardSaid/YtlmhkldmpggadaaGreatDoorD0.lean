/- WasteProved: a yard does not close just if Why returns a proof, and Proves accepts it; if Proves accepts any proof, the yard does not close. The call returns true, and no memory of the caller's is changed, where the listed variables stand az the program's text lays them. -/
import Derived.Test.YtlmhkldmpggadaaGreatDoorP23
import Derived.Test.YtlmhkldmpggadaaGreatDoorP22
import Derived.Test.YtlmhkldmpggadaaGreatDoorP30
namespace Go.Proofs.YtlmhkldmpggadaaGreatDoor
open Go.ChangeShapes Go.WideShapes Go.ChangeAt Go.RowKit Go.AM
set_option maxRecDepth 100000 in
theorem lM:∀ l,fj Tryz.prog 8 Tryz.f11.params.toList l → Go.AM.Spec Tryz.prog 11 l [] fun r _=>r = .ret (.bool true):=by
 intro l hl;have h0:Tryz.f11.params.toList = [26,27,29]:=by kernel_rfl
 rw [h0] at hl
 cases l with
 | nil=>exact hl.elim
 | cons b0 l=>
 cases l with
 | nil=>exact hl.2.elim
 | cons b1 l=>
 cases l with
 | nil=>exact hl.2.2.elim
 | cons b2 l=>
 cases l with
 | cons d l=>exact hl.2.2.2.elim
 | nil=>
 obtain ⟨⟨a0,s0,e0⟩,⟨a1,s1,e1⟩,⟨a2,s2,e2⟩,_⟩:=hl;subst e0 e1 e2;obtain ⟨y,rfl,hy⟩:=jE s0;obtain ⟨w,rfl,hw⟩:=rZ s1;obtain ⟨p,rfl⟩:=Af s2;rw [vB 26 _ (by kernel_rfl),BK 27 _ (by kernel_rfl),vB 29 _ (by kernel_rfl)];exact (qT y hy w hw p []).mono fun r _ h=>h.1
set_option maxRecDepth 100000 in
theorem o4 (os:Os) (started:os.Started) (H:Type) (enc:TypeId × Value → H) :
  ReturnsInHanded {} Tryz.checked os 11 .any (fun w args=>(Rows.wasteProvedSpec.pre enc Tryz.prog Tryz.f11 [] false w args ∧ laidMetH Tryz.prog bu w) ∧ sizedMet enc Tryz.prog Tryz.f11 (OpenSpec.ofChange Rows.wasteProvedSpec) false w args)
   (Rows.wasteProvedSpec.post enc Tryz.prog Tryz.f11 false true false false):=by
 refine dF (C:=Tryz.checked) (X:=fun w _=>laidMetH Tryz.prog bu w) (fun _ _ _ hh h=>h.of_heap hh) Tryz.own started (by kernel_rfl) Tryz.func11
  (ChangeSpec.witness_shaped (enc:=enc) (C:=Tryz.checked) (os:=os) (X:=fun w _=>laidMetH Tryz.prog bu w) false (World.laidAll Tryz.prog os bu) #[.agg #[.slice none 0 0, .slice none 0 0, .slice none 0 0, .slice none 0 0, .slice none 0 0], .slice none 0 0, .agg #[.int .i64 0, .int .i64 0, .int .i64 0, .int .i64 0]] 8 (World.laidAll_os _ _ _) (kN os _) (by kernel_rfl) (by kernel_rfl) (by kernel_rfl) (sQ os _)) ?_
 intro W base args ds gs before hval hW hR hL hsh
 exact mQ (k:=8) (P:=Tryz.prog) (tb:=Tryz.f11.resultTypes.getD 0 0) (by kernel_rfl) (by kernel_rfl) rfl (fun ds hd=>by
   have h3:Tryz.f11.params.size = 3:=by kernel_rfl
   rw [h3] at hd
   match ds,hd with
   | [a,b,c],_=>exact ⟨rfl,rfl,rfl⟩) Tryz.laidOut (iX (by kernel_rfl)) lM hval hW hR (qA hL hsh)
theorem tv:(Rows.wasteProvedRow.inPlace == Tryz.prog.inPlace 11) = true:=by kernel_rfl
theorem s7:(Rows.wasteProvedRow.unfollowed == Tryz.prog.unfollowed 11) = true:=by kernel_rfl
theorem u0:(Rows.wasteProvedRow.recurses == Tryz.prog.recurses 11) = true:=by kernel_rfl
theorem tE:(Rows.wasteProvedRow.named == Tryz.prog.varsNamed 11) = true:=by kernel_rfl
theorem oS:joinedFacts Tryz.prog 11 Tryz.f11 Rows.wasteProvedSpec Rows.wasteProvedRow = true:=mZ Tryz.alone tv s7 u0 tE (by kernel_rfl) (by kernel_rfl) (by kernel_rfl)
theorem qJ:Tryz.f11.isWrapper Tryz.prog Rows.wasteProvedRow.wrapper Rows.wasteProvedRow.mainSum:=by unfold Func.isWrapper; first | (rw [if_pos (by decide +kernel)]; kernel_rfl) | (rw [if_neg (by decide +kernel)]; exact ⟨rfl,rfl⟩)
theorem ri:Rows.WasteProvedSaid:=
 OpenClaim.holds_of_wide 11 Tryz.f11 rfl rfl rfl rfl rfl rfl rfl ⟨rfl,rfl,rfl,rfl,rfl⟩ rfl rfl rfl rfl rfl (by kernel_rfl) Tryz.func11 oS
  (of_decide_eq_true (by kernel_rfl)) qJ
  (fun os started H enc _=>o4 os started H enc)
theorem wasteProved_holds:Rows.WasteProvedCardSaid:=
 Claim7.holds_tied_plain_at .later [] [.data, .data, .data, .data, .sentinel, .sentinel, .pinned] true (true, "5bc3faa6160b5a58fe760d55f3f1ad8ffc83f06cb82652ccd14f10a936d27600") true
  ri (fun _ h=>by cases h) (by kernel_rfl) (fun _ h=>by cases h) wasteProved_row_tie rfl ⟨rfl,rfl⟩ (by kernel_rfl) rfl
  (fun f fn hf hfn=>by
   obtain rfl : f = 11 := Option.some.inj ((show Tryz.prog.funcNamed "orlop/orloplaw09.WasteProved" = some 11 by kernel_rfl).symm.trans hf) |>.symm
   obtain rfl:fn = Tryz.f11:=(Option.some.inj (Tryz.func11.symm.trans hfn)).symm
   exact ⟨by kernel_rfl,fun j t ht=>by
    have h2:(Tryz.f11.params.toList.all fun t=>!(Tryz.pinned.checked.prog.wantsStandIn t)) = true:=by kernel_rfl
    have:=List.all_eq_true.1 h2 t (Array.mem_toList_iff.2 (Array.mem_of_getElem? ht))
    simpa using this⟩)
  (by kernel_rfl)
#print axioms wasteProved_holds
end Go.Proofs.YtlmhkldmpggadaaGreatDoor
