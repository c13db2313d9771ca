/- WasteKept: Gone is within what the counts of First and Last allow; a yard closes just if it does with the papers and counts of each kind alone (any yard and papers that are false; which kind). The .. -/
import Derived.Test.YtlmhkldmpggadaaGreatDoorP34
import Derived.Test.YtlmhkldmpggadaaGreatDoorP33
import Derived.Test.YtlmhkldmpggadaaGreatDoorP49
namespace Go.Proofs.YtlmhkldmpggadaaGreatDoor
open Go.ChangeShapes Go.WideShapes Go.ChangeAt Go.RowKit Go.AM
set_option maxRecDepth 100000 in
theorem qL:∀ l,gA Tryz.prog 8 Tryz.f14.params.toList l → Go.AM.Spec Tryz.prog 14 l [] fun r _=>r = .ret (.bool true):=by
 intro l hl;have h0:Tryz.f14.params.toList = [26,27,5]:=by kernel_rfl
 rw [h0] at hl
 cases l with
 | nil=>exact hl.elim
 | cons b0 l=>
 cases l with
 | nil=>exact hl.2.elim
 | cons b1 l=>
 cases l with
 | nil=>exact hl.2.2.elim
 | cons b2 l=>
 cases l with
 | cons d l=>exact hl.2.2.2.elim
 | nil=>
 obtain ⟨⟨a0,s0,e0⟩,⟨a1,s1,e1⟩,⟨a2,s2,e2⟩,_⟩:=hl;subst e0 e1 e2;obtain ⟨y,rfl,hy⟩:=n6 s0;obtain ⟨w,rfl,hw⟩:=uF s1;obtain ⟨x,rfl,hx⟩:=FG s2;rw [Fs 26 _ (by kernel_rfl),ED 27 _ (by kernel_rfl),ED 5 _ (by kernel_rfl)];exact (xn y hy w hw x hx []).mono fun r _ h=>h.1
set_option maxRecDepth 100000 in
theorem tQ (os:Os) (started:os.Started) (H:Type) (enc:TypeId × Value → H) :
  ReturnsInHanded {} Tryz.checked os 14 .any (fun w args=>(Rows.wasteKeptSpec.pre enc Tryz.prog Tryz.f14 [] false w args ∧ laidMetH Tryz.prog bT w) ∧ sizedMet enc Tryz.prog Tryz.f14 (OpenSpec.ofChange Rows.wasteKeptSpec) false w args)
   (Rows.wasteKeptSpec.post enc Tryz.prog Tryz.f14 false true false false):=by
 refine eD (C:=Tryz.checked) (X:=fun w _=>laidMetH Tryz.prog bT w) (fun _ _ _ hh h=>h.of_heap hh) Tryz.own started (by kernel_rfl) Tryz.func14
  (ChangeSpec.witness_shaped (enc:=enc) (C:=Tryz.checked) (os:=os) (X:=fun w _=>laidMetH Tryz.prog bT w) false (World.laidAll Tryz.prog os bT) #[.agg #[.slice none 0 0, .slice none 0 0, .slice none 0 0, .slice none 0 0, .slice none 0 0], .slice none 0 0, .int .u8 0] 8 (World.laidAll_os _ _ _) (mH os _) (by kernel_rfl) (by kernel_rfl) (by kernel_rfl) (vH os _)) ?_
 intro W base args ds gs before hval hW hR hL hsh
 exact pF (k:=8) (P:=Tryz.prog) (tb:=Tryz.f14.resultTypes.getD 0 0) (by kernel_rfl) (by kernel_rfl) rfl (fun ds hd=>by
   have h3:Tryz.f14.params.size = 3:=by kernel_rfl
   rw [h3] at hd
   match ds,hd with
   | [a,b,c],_=>exact ⟨rfl,rfl,rfl⟩) Tryz.laidOut (kE (by kernel_rfl)) qL hval hW hR (ti hL hsh)
theorem Av:(Rows.wasteKeptRow.inPlace == Tryz.prog.inPlace 14) = true:=by kernel_rfl
theorem Ar:(Rows.wasteKeptRow.unfollowed == Tryz.prog.unfollowed 14) = true:=by kernel_rfl
theorem Aq:(Rows.wasteKeptRow.recurses == Tryz.prog.recurses 14) = true:=by kernel_rfl
theorem Ab:(Rows.wasteKeptRow.named == Tryz.prog.varsNamed 14) = true:=by kernel_rfl
theorem tK:joinedFacts Tryz.prog 14 Tryz.f14 Rows.wasteKeptSpec Rows.wasteKeptRow = true:=pI Tryz.alone Av Ar Aq Ab (by kernel_rfl) (by kernel_rfl) (by kernel_rfl)
theorem vV:Tryz.f14.isWrapper Tryz.prog Rows.wasteKeptRow.wrapper Rows.wasteKeptRow.mainSum:=by unfold Func.isWrapper; first | (rw [if_pos (by decide +kernel)]; kernel_rfl) | (rw [if_neg (by decide +kernel)]; exact ⟨rfl,rfl⟩)
theorem wy:Rows.WasteKeptSaid:=
 OpenClaim.holds_of_wide 14 Tryz.f14 rfl rfl rfl rfl rfl rfl rfl ⟨rfl,rfl,rfl,rfl,rfl⟩ rfl rfl rfl rfl rfl (by kernel_rfl) Tryz.func14 tK
  (of_decide_eq_true (by kernel_rfl)) vV
  (fun os started H enc _=>tQ os started H enc)
theorem wasteKept_holds:Rows.WasteKeptCardSaid:=
 Claim7.holds_tied_plain_at .later [] [.data, .data, .data, .data, .sentinel, .sentinel, .pinned] true (true, "5bc3faa6160b5a58fe760d55f3f1ad8ffc83f06cb82652ccd14f10a936d27600") true
  wy (fun _ h=>by cases h) (by kernel_rfl) (fun _ h=>by cases h) wasteKept_row_tie rfl ⟨rfl,rfl⟩ (by kernel_rfl) rfl
  (fun f fn hf hfn=>by
   obtain rfl : f = 14 := Option.some.inj ((show Tryz.prog.funcNamed "orlop/orloplaw09.WasteKept" = some 14 by kernel_rfl).symm.trans hf) |>.symm
   obtain rfl:fn = Tryz.f14:=(Option.some.inj (Tryz.func14.symm.trans hfn)).symm
   exact ⟨by kernel_rfl,fun j t ht=>by
    have h2:(Tryz.f14.params.toList.all fun t=>!(Tryz.pinned.checked.prog.wantsStandIn t)) = true:=by kernel_rfl
    have:=List.all_eq_true.1 h2 t (Array.mem_toList_iff.2 (Array.mem_of_getElem? ht))
    simpa using this⟩)
  (by kernel_rfl)
#print axioms wasteKept_holds
end Go.Proofs.YtlmhkldmpggadaaGreatDoor
