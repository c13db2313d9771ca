/- WasteFewest: with the papers of Fewest the yard closes; with any fewer papers it does not. The call returns true, and no memory of the caller's is changed, where the listed variables stand az the program's text lays them. -/
import Derived.Test.YtlmhkldmpggadaaGreatDoorP23
import Derived.Test.YtlmhkldmpggadaaGreatDoorP22
import Derived.Test.YtlmhkldmpggadaaGreatDoorP32
namespace Go.Proofs.YtlmhkldmpggadaaGreatDoor
open Go.ChangeShapes Go.WideShapes Go.ChangeAt Go.RowKit Go.AM
set_option maxRecDepth 100000 in
theorem mc:∀ l,fj Tryz.prog 8 Tryz.f9.params.toList l → Go.AM.Spec Tryz.prog 9 l [] fun r _=>r = .ret (.bool true):=by
 intro l hl;have h0:Tryz.f9.params.toList = [26,61]:=by kernel_rfl
 rw [h0] at hl
 cases l with
 | nil=>exact hl.elim
 | cons b0 l=>
 cases l with
 | nil=>exact hl.2.elim
 | cons b1 l=>
 cases l with
 | cons d l=>exact hl.2.2.elim
 | nil=>
 obtain ⟨⟨a0,s0,e0⟩,⟨a1,s1,e1⟩,_⟩:=hl;subst e0 e1;obtain ⟨y,rfl,hy⟩:=jE s0;obtain ⟨n,rfl,hn⟩:=Bb s1;rw [vB 26 _ (by kernel_rfl),BK 61 _ (by kernel_rfl)];exact (rn y hy n hn []).mono fun r _ h=>h.1
set_option maxRecDepth 100000 in
theorem oA (os:Os) (started:os.Started) (H:Type) (enc:TypeId × Value → H) :
  ReturnsInHanded {} Tryz.checked os 9 .any (fun w args=>(Rows.wasteFewestSpec.pre enc Tryz.prog Tryz.f9 [] false w args ∧ laidMetH Tryz.prog bu w) ∧ sizedMet enc Tryz.prog Tryz.f9 (OpenSpec.ofChange Rows.wasteFewestSpec) false w args)
   (Rows.wasteFewestSpec.post enc Tryz.prog Tryz.f9 false true false false):=by
 refine dF (C:=Tryz.checked) (X:=fun w _=>laidMetH Tryz.prog bu w) (fun _ _ _ hh h=>h.of_heap hh) Tryz.own started (by kernel_rfl) Tryz.func9
  (ChangeSpec.witness_shaped (enc:=enc) (C:=Tryz.checked) (os:=os) (X:=fun w _=>laidMetH Tryz.prog bu w) false (World.laidAll Tryz.prog os bu) #[.agg #[.slice none 0 0, .slice none 0 0, .slice none 0 0, .slice none 0 0, .slice none 0 0], .int .u16 0] 8 (World.laidAll_os _ _ _) (kN os _) (by kernel_rfl) (by kernel_rfl) (by kernel_rfl) (sQ os _)) ?_
 intro W base args ds gs before hval hW hR hL hsh
 exact mQ (k:=8) (P:=Tryz.prog) (tb:=Tryz.f9.resultTypes.getD 0 0) (by kernel_rfl) (by kernel_rfl) rfl (fun ds hd=>by
   have h3:Tryz.f9.params.size = 2:=by kernel_rfl
   rw [h3] at hd
   match ds,hd with
   | [a,b],_=>exact ⟨rfl,rfl,rfl⟩) Tryz.laidOut (iX (by kernel_rfl)) mc hval hW hR (qA hL hsh)
theorem uI:(Rows.wasteFewestRow.inPlace == Tryz.prog.inPlace 9) = true:=by kernel_rfl
theorem uf:(Rows.wasteFewestRow.unfollowed == Tryz.prog.unfollowed 9) = true:=by kernel_rfl
theorem s9:(Rows.wasteFewestRow.recurses == Tryz.prog.recurses 9) = true:=by kernel_rfl
theorem uN:(Rows.wasteFewestRow.named == Tryz.prog.varsNamed 9) = true:=by kernel_rfl
theorem oX:joinedFacts Tryz.prog 9 Tryz.f9 Rows.wasteFewestSpec Rows.wasteFewestRow = true:=mZ Tryz.alone uI uf s9 uN (by kernel_rfl) (by kernel_rfl) (by kernel_rfl)
theorem qR:Tryz.f9.isWrapper Tryz.prog Rows.wasteFewestRow.wrapper Rows.wasteFewestRow.mainSum:=by unfold Func.isWrapper; first | (rw [if_pos (by decide +kernel)]; kernel_rfl) | (rw [if_neg (by decide +kernel)]; exact ⟨rfl,rfl⟩)
theorem qG:Rows.WasteFewestSaid:=
 OpenClaim.holds_of_wide 9 Tryz.f9 rfl rfl rfl rfl rfl rfl rfl ⟨rfl,rfl,rfl,rfl,rfl⟩ rfl rfl rfl rfl rfl (by kernel_rfl) Tryz.func9 oX
  (of_decide_eq_true (by kernel_rfl)) qR
  (fun os started H enc _=>oA os started H enc)
theorem wasteFewest_holds:Rows.WasteFewestCardSaid:=
 Claim7.holds_tied_plain_at .later [] [.data, .data, .data, .data, .sentinel, .sentinel, .pinned] true (true, "5bc3faa6160b5a58fe760d55f3f1ad8ffc83f06cb82652ccd14f10a936d27600") true
  qG (fun _ h=>by cases h) (by kernel_rfl) (fun _ h=>by cases h) wasteFewest_row_tie rfl ⟨rfl,rfl⟩ (by kernel_rfl) rfl
  (fun f fn hf hfn=>by
   obtain rfl : f = 9 := Option.some.inj ((show Tryz.prog.funcNamed "orlop/orloplaw09.WasteFewest" = some 9 by kernel_rfl).symm.trans hf) |>.symm
   obtain rfl:fn = Tryz.f9:=(Option.some.inj (Tryz.func9.symm.trans hfn)).symm
   exact ⟨by kernel_rfl,fun j t ht=>by
    have h2:(Tryz.f9.params.toList.all fun t=>!(Tryz.pinned.checked.prog.wantsStandIn t)) = true:=by kernel_rfl
    have:=List.all_eq_true.1 h2 t (Array.mem_toList_iff.2 (Array.mem_of_getElem? ht))
    simpa using this⟩)
  (by kernel_rfl)
#print axioms wasteFewest_holds
end Go.Proofs.YtlmhkldmpggadaaGreatDoor
