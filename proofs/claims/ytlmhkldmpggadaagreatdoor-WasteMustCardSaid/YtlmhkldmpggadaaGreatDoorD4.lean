/- WasteMust: with any list without a paper of Must the yard does not close; each paper of May is in a least set, and any other paper is in none. The call returns true, and no memory of the caller's is changed, where the listed variables stand az the program's text lays them. -/
import Derived.Test.YtlmhkldmpggadaaGreatDoorP23
import Derived.Test.YtlmhkldmpggadaaGreatDoorP22
import Derived.Test.YtlmhkldmpggadaaGreatDoorP31
namespace Go.Proofs.YtlmhkldmpggadaaGreatDoor
open Go.ChangeShapes Go.WideShapes Go.ChangeAt Go.RowKit Go.AM
set_option maxRecDepth 100000 in
theorem qa:∀ l,fj Tryz.prog 8 Tryz.f10.params.toList l → Go.AM.Spec Tryz.prog 10 l [] fun r _=>r = .ret (.bool true):=by
 intro l hl;have h0:Tryz.f10.params.toList = [26,5,61]:=by kernel_rfl
 rw [h0] at hl
 cases l with
 | nil=>exact hl.elim
 | cons b0 l=>
 cases l with
 | nil=>exact hl.2.elim
 | cons b1 l=>
 cases l with
 | nil=>exact hl.2.2.elim
 | cons b2 l=>
 cases l with
 | cons d l=>exact hl.2.2.2.elim
 | nil=>
 obtain ⟨⟨a0,s0,e0⟩,⟨a1,s1,e1⟩,⟨a2,s2,e2⟩,_⟩:=hl;subst e0 e1 e2;obtain ⟨y,rfl,hy⟩:=jE s0;obtain ⟨a,rfl,ha⟩:=rr s1;obtain ⟨n,rfl,hn⟩:=Bb s2;rw [vB 26 _ (by kernel_rfl),BK 5 _ (by kernel_rfl),BK 61 _ (by kernel_rfl)];exact (Py y hy a ha n hn []).mono fun r _ h=>h.1
set_option maxRecDepth 100000 in
theorem qk (os:Os) (started:os.Started) (H:Type) (enc:TypeId × Value → H) :
  ReturnsInHanded {} Tryz.checked os 10 .any (fun w args=>(Rows.wasteMustSpec.pre enc Tryz.prog Tryz.f10 [] false w args ∧ laidMetH Tryz.prog bu w) ∧ sizedMet enc Tryz.prog Tryz.f10 (OpenSpec.ofChange Rows.wasteMustSpec) false w args)
   (Rows.wasteMustSpec.post enc Tryz.prog Tryz.f10 false true false false):=by
 refine dF (C:=Tryz.checked) (X:=fun w _=>laidMetH Tryz.prog bu w) (fun _ _ _ hh h=>h.of_heap hh) Tryz.own started (by kernel_rfl) Tryz.func10
  (ChangeSpec.witness_shaped (enc:=enc) (C:=Tryz.checked) (os:=os) (X:=fun w _=>laidMetH Tryz.prog bu w) false (World.laidAll Tryz.prog os bu) #[.agg #[.slice none 0 0, .slice none 0 0, .slice none 0 0, .slice none 0 0, .slice none 0 0], .int .u8 0, .int .u16 0] 8 (World.laidAll_os _ _ _) (kN os _) (by kernel_rfl) (by kernel_rfl) (by kernel_rfl) (sQ os _)) ?_
 intro W base args ds gs before hval hW hR hL hsh
 exact mQ (k:=8) (P:=Tryz.prog) (tb:=Tryz.f10.resultTypes.getD 0 0) (by kernel_rfl) (by kernel_rfl) rfl (fun ds hd=>by
   have h3:Tryz.f10.params.size = 3:=by kernel_rfl
   rw [h3] at hd
   match ds,hd with
   | [a,b,c],_=>exact ⟨rfl,rfl,rfl⟩) Tryz.laidOut (iX (by kernel_rfl)) qa hval hW hR (qA hL hsh)
theorem PH:(Rows.wasteMustRow.inPlace == Tryz.prog.inPlace 10) = true:=by kernel_rfl
theorem PF:(Rows.wasteMustRow.unfollowed == Tryz.prog.unfollowed 10) = true:=by kernel_rfl
theorem PL:(Rows.wasteMustRow.recurses == Tryz.prog.recurses 10) = true:=by kernel_rfl
theorem PK:(Rows.wasteMustRow.named == Tryz.prog.varsNamed 10) = true:=by kernel_rfl
theorem qo:joinedFacts Tryz.prog 10 Tryz.f10 Rows.wasteMustSpec Rows.wasteMustRow = true:=mZ Tryz.alone PH PF PL PK (by kernel_rfl) (by kernel_rfl) (by kernel_rfl)
theorem Px:Tryz.f10.isWrapper Tryz.prog Rows.wasteMustRow.wrapper Rows.wasteMustRow.mainSum:=by unfold Func.isWrapper; first | (rw [if_pos (by decide +kernel)]; kernel_rfl) | (rw [if_neg (by decide +kernel)]; exact ⟨rfl,rfl⟩)
theorem PA:Rows.WasteMustSaid:=
 OpenClaim.holds_of_wide 10 Tryz.f10 rfl rfl rfl rfl rfl rfl rfl ⟨rfl,rfl,rfl,rfl,rfl⟩ rfl rfl rfl rfl rfl (by kernel_rfl) Tryz.func10 qo
  (of_decide_eq_true (by kernel_rfl)) Px
  (fun os started H enc _=>qk os started H enc)
theorem wasteMust_holds:Rows.WasteMustCardSaid:=
 Claim7.holds_tied_plain_at .later [] [.data, .data, .data, .data, .sentinel, .sentinel, .pinned] true (true, "5bc3faa6160b5a58fe760d55f3f1ad8ffc83f06cb82652ccd14f10a936d27600") true
  PA (fun _ h=>by cases h) (by kernel_rfl) (fun _ h=>by cases h) wasteMust_row_tie rfl ⟨rfl,rfl⟩ (by kernel_rfl) rfl
  (fun f fn hf hfn=>by
   obtain rfl : f = 10 := Option.some.inj ((show Tryz.prog.funcNamed "orlop/orloplaw09.WasteMust" = some 10 by kernel_rfl).symm.trans hf) |>.symm
   obtain rfl:fn = Tryz.f10:=(Option.some.inj (Tryz.func10.symm.trans hfn)).symm
   exact ⟨by kernel_rfl,fun j t ht=>by
    have h2:(Tryz.f10.params.toList.all fun t=>!(Tryz.pinned.checked.prog.wantsStandIn t)) = true:=by kernel_rfl
    have:=List.all_eq_true.1 h2 t (Array.mem_toList_iff.2 (Array.mem_of_getElem? ht))
    simpa using this⟩)
  (by kernel_rfl)
#print axioms wasteMust_holds
end Go.Proofs.YtlmhkldmpggadaaGreatDoor
