/- CutProofs: Proof and Proves return what the document says, for any task and sets. The call returns true, and no memory of the caller's is changed, where the tables of math/bits stand az the program's text lays them. -/
import Derived.Test.YtmjfcbpgnmajpaaGreatDoorP25
import Derived.Test.YtmjfcbpgnmajpaaGreatDoorP28
namespace Go.Proofs.YtmjfcbpgnmajpaaGreatDoor
open Go.ChangeShapes Go.WideShapes Go.ChangeAt Go.RowKit Go.AM
set_option maxRecDepth 100000 in
theorem S3:∀ l,dc Tryz.prog 8 Tryz.f5.params.toList l → Go.AM.Spec Tryz.prog 5 l [] fun r _=>r = .ret (.bool true):=by
  intro l hl
  have h0:Tryz.f5.params.toList = [38,34]:=by kernel_rfl
  rw [h0] at hl
  cases l with
  | nil=>exact hl.elim
  | cons b0 l=>
  cases l with
  | nil=>exact hl.2.elim
  | cons b1 l=>
  cases l with
  | cons d l=>exact hl.2.2.elim
  | nil=>
  obtain ⟨⟨a0,s0,e0⟩,⟨a1,s1,e1⟩,_⟩:=hl
  subst e0 e1
  obtain ⟨t,rfl,ht⟩:=eN s0
  obtain ⟨o,rfl,ho⟩:=lu s1
  rw [ot 38 _ (by kernel_rfl),uo 34 _ (by kernel_rfl)]
  exact Tn t ht o ho Go.AM.fG
set_option maxRecDepth 100000 in
theorem S7 (os:Os) (started:os.Started) (H:Type) (enc:TypeId × Value → H) :
    ReturnsInHanded {} Tryz.checked os 5 .any (fun w args=>(Rows.cutProofsSpec.pre enc Tryz.prog Tryz.f5 [] false w args ∧ laidMetH Tryz.prog bT w) ∧ sizedMet enc Tryz.prog Tryz.f5 (OpenSpec.ofChange Rows.cutProofsSpec) false w args)
      (Rows.cutProofsSpec.post enc Tryz.prog Tryz.f5 false true false false):=by
  refine returnsInHanded_of_change_and (C:=Tryz.checked) (X:=fun w _=>laidMetH Tryz.prog bT w) (fun _ _ _ hh h=>h.of_heap hh) Tryz.own started (by kernel_rfl) Tryz.func5
    (ChangeSpec.witness_shaped (enc:=enc) (C:=Tryz.checked) (os:=os) (X:=fun w _=>laidMetH Tryz.prog bT w) false (World.doorLaid Tryz.prog 400 os) #[.agg #[.slice none 0 0, .slice none 0 0, .int .i64 0, .int .i64 0, .int .i64 0, .int .i64 0, .slice none 0 0, .slice none 0 0, .slice none 0 0, .slice none 0 0, .slice none 0 0], .slice none 0 0] 8 rfl (World.shaped_of_RefB (by kernel_rfl) (by kernel_rfl)) (by kernel_rfl) (by kernel_rfl) (by kernel_rfl) (jF os _)) ?_
  intro W base args ds gs before hval hW _ _ hL _
  exact ia (k:=8) (P:=Tryz.prog) (tb:=Tryz.f5.resultTypes.getD 0 0) (by kernel_rfl) (by kernel_rfl) rfl (fun ds hd=>by
      have h3:Tryz.f5.params.size = 2:=by kernel_rfl
      rw [h3] at hd
      match ds,hd with
      | [a,b],_=>exact ⟨rfl,rfl,rfl⟩) Tryz.laidOut (eG (by kernel_rfl)) S3 hval hW (jR hL)
theorem Tj:Rows.CutProofsSaid:=
  OpenClaim.holds_of_wide 5 Tryz.f5 rfl rfl rfl rfl rfl rfl rfl ⟨rfl,rfl,rfl,rfl,rfl⟩ rfl rfl rfl rfl rfl (by kernel_rfl) Tryz.func5 (by kernel_rfl)
    (of_decide_eq_true (by kernel_rfl)) (by unfold Func.isWrapper; first | (rw [if_pos (by decide +kernel)]; kernel_rfl) | (rw [if_neg (by decide +kernel)]; exact ⟨rfl,rfl⟩))
    (fun os started H enc _=>S7 os started H enc)
theorem cutProofs_holds:Rows.CutProofsCardSaid:=
  Claim7.holds_tied_plain_at .later [] [.data, .data] true (true, "d1481c67644dfec0fe9e97f8892aacf0955c9f86bef1a2f0f3e74ec7de60f51d") true
    Tj (fun _ h=>by cases h) (by kernel_rfl) (fun _ h=>by cases h) cutProofs_row_tie rfl ⟨rfl,rfl⟩ (by kernel_rfl) rfl
    (fun f fn hf hfn=>by
      obtain rfl : f = 5 := Option.some.inj ((show Tryz.prog.funcNamed "orlop/orloplaw06.CutProofs" = some 5 by kernel_rfl).symm.trans hf) |>.symm
      obtain rfl:fn = Tryz.f5:=(Option.some.inj (Tryz.func5.symm.trans hfn)).symm
      exact ⟨by kernel_rfl,fun j t ht=>by
        have h2:(Tryz.f5.params.toList.all fun t=>!(Tryz.pinned.checked.prog.wantsStandIn t)) = true:=by kernel_rfl
        have:=List.all_eq_true.1 h2 t (Array.mem_toList_iff.2 (Array.mem_of_getElem? ht))
        simpa using this⟩)
    (by kernel_rfl)
#print axioms cutProofs_holds
end Go.Proofs.YtmjfcbpgnmajpaaGreatDoor
