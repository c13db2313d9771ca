/- WasteTrue: if papers tell ANY truth, but for some that are false, and counts of Last have what is left, then the yard closes with these papers; the journeys are in their ranges; Fewest has no more .. -/
import Derived.Test.YtlmhkldmpggadaaGreatDoorP23
import Derived.Test.YtlmhkldmpggadaaGreatDoorP22
import Derived.Test.YtlmhkldmpggadaaGreatDoorP34
namespace Go.Proofs.YtlmhkldmpggadaaGreatDoor
open Go.ChangeShapes Go.WideShapes Go.ChangeAt Go.RowKit Go.AM
set_option maxRecDepth 100000 in
theorem wh:∀ l,gA Tryz.prog 8 Tryz.f8.params.toList l → Go.AM.Spec Tryz.prog 8 l [] fun r _=>r = .ret (.bool true):=by
 intro l hl;have h0:Tryz.f8.params.toList = [26,63]:=by kernel_rfl
 rw [h0] at hl
 cases l with
 | nil=>exact hl.elim
 | cons b0 l=>
 cases l with
 | nil=>exact hl.2.elim
 | cons b1 l=>
 cases l with
 | cons d l=>exact hl.2.2.elim
 | nil=>
 obtain ⟨⟨a0,s0,e0⟩,⟨a1,s1,e1⟩,_⟩:=hl;subst e0 e1;obtain ⟨y,rfl,hy⟩:=n6 s0;obtain ⟨T,U,b,rfl,hb,⟨hT,hTb⟩,hU,hUb⟩:=VG s1;rw [Fs 26 _ (by kernel_rfl),Fs 63 _ (by kernel_rfl)];exact (Vi y hy T U hT hU hTb hUb b hb []).mono fun r _ h=>h.1
set_option maxRecDepth 100000 in
theorem B5 (os:Os) (started:os.Started) (H:Type) (enc:TypeId × Value → H) :
  ReturnsInHanded {} Tryz.checked os 8 .any (fun w args=>(Rows.wasteTrueSpec.pre enc Tryz.prog Tryz.f8 [] false w args ∧ laidMetH Tryz.prog bT w) ∧ sizedMet enc Tryz.prog Tryz.f8 (OpenSpec.ofChange Rows.wasteTrueSpec) false w args)
   (Rows.wasteTrueSpec.post enc Tryz.prog Tryz.f8 false true false false):=by
 refine eD (C:=Tryz.checked) (X:=fun w _=>laidMetH Tryz.prog bT w) (fun _ _ _ hh h=>h.of_heap hh) Tryz.own started (by kernel_rfl) Tryz.func8
  (ChangeSpec.witness_shaped (enc:=enc) (C:=Tryz.checked) (os:=os) (X:=fun w _=>laidMetH Tryz.prog bT w) false (World.laidAll Tryz.prog os bT) #[.agg #[.slice none 0 0, .slice none 0 0, .slice none 0 0, .slice none 0 0, .slice none 0 0], .agg #[.slice none 0 0, .int .u16 0, .slice none 0 0]] 8 (World.laidAll_os _ _ _) (mH os _) (by kernel_rfl) (by kernel_rfl) (by kernel_rfl) (vH os _)) ?_
 intro W base args ds gs before hval hW hR hL hsh
 exact pF (k:=8) (P:=Tryz.prog) (tb:=Tryz.f8.resultTypes.getD 0 0) (by kernel_rfl) (by kernel_rfl) rfl (fun ds hd=>by
   have h3:Tryz.f8.params.size = 2:=by kernel_rfl
   rw [h3] at hd
   match ds,hd with
   | [a,b],_=>exact ⟨rfl,rfl,rfl⟩) Tryz.laidOut (kE (by kernel_rfl)) wh hval hW hR (ti hL hsh)
theorem Vw:(Rows.wasteTrueRow.inPlace == Tryz.prog.inPlace 8) = true:=by kernel_rfl
theorem Vs:(Rows.wasteTrueRow.unfollowed == Tryz.prog.unfollowed 8) = true:=by kernel_rfl
theorem Vu:(Rows.wasteTrueRow.recurses == Tryz.prog.recurses 8) = true:=by kernel_rfl
theorem Vr:(Rows.wasteTrueRow.named == Tryz.prog.varsNamed 8) = true:=by kernel_rfl
theorem B3:joinedFacts Tryz.prog 8 Tryz.f8 Rows.wasteTrueSpec Rows.wasteTrueRow = true:=pI Tryz.alone Vw Vs Vu Vr (by kernel_rfl) (by kernel_rfl) (by kernel_rfl)
theorem Vd:Tryz.f8.isWrapper Tryz.prog Rows.wasteTrueRow.wrapper Rows.wasteTrueRow.mainSum:=by unfold Func.isWrapper; first | (rw [if_pos (by decide +kernel)]; kernel_rfl) | (rw [if_neg (by decide +kernel)]; exact ⟨rfl,rfl⟩)
theorem Vj:Rows.WasteTrueSaid:=
 OpenClaim.holds_of_wide 8 Tryz.f8 rfl rfl rfl rfl rfl rfl rfl ⟨rfl,rfl,rfl,rfl,rfl⟩ rfl rfl rfl rfl rfl (by kernel_rfl) Tryz.func8 B3
  (of_decide_eq_true (by kernel_rfl)) Vd
  (fun os started H enc _=>B5 os started H enc)
theorem wasteTrue_holds:Rows.WasteTrueCardSaid:=
 Claim7.holds_tied_plain_at .later [] [.data, .data, .data, .data, .sentinel, .sentinel, .pinned] true (true, "5bc3faa6160b5a58fe760d55f3f1ad8ffc83f06cb82652ccd14f10a936d27600") true
  Vj (fun _ h=>by cases h) (by kernel_rfl) (fun _ h=>by cases h) wasteTrue_row_tie rfl ⟨rfl,rfl⟩ (by kernel_rfl) rfl
  (fun f fn hf hfn=>by
   obtain rfl : f = 8 := Option.some.inj ((show Tryz.prog.funcNamed "orlop/orloplaw09.WasteTrue" = some 8 by kernel_rfl).symm.trans hf) |>.symm
   obtain rfl:fn = Tryz.f8:=(Option.some.inj (Tryz.func8.symm.trans hfn)).symm
   exact ⟨by kernel_rfl,fun j t ht=>by
    have h2:(Tryz.f8.params.toList.all fun t=>!(Tryz.pinned.checked.prog.wantsStandIn t)) = true:=by kernel_rfl
    have:=List.all_eq_true.1 h2 t (Array.mem_toList_iff.2 (Array.mem_of_getElem? ht))
    simpa using this⟩)
  (by kernel_rfl)
#print axioms wasteTrue_holds
end Go.Proofs.YtlmhkldmpggadaaGreatDoor
