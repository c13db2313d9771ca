/- CutNone: if First returns ErrDown, no order is whole, and Proves accepts what Proof returns; if Proves accepts any sets, First returns ErrDown (any task and sets; any good order, by turns). The .. -/
import Derived.Test.YtmjfcbpgnmajpaaGreatDoorP25
import Derived.Test.YtmjfcbpgnmajpaaGreatDoorVK
import Derived.Test.YtmjfcbpgnmajpaaGreatDoorUF0
namespace Go.Proofs.YtmjfcbpgnmajpaaGreatDoor
open Go.ChangeShapes Go.WideShapes Go.ChangeAt Go.RowKit Go.AM
set_option maxRecDepth 100000 in
theorem S6:∀ l,dc Tryz.prog 8 Tryz.f8.params.toList l → Go.AM.Spec Tryz.prog 8 l [] fun r _=>r = .ret (.bool true):=by
  intro l hl
  have h0:Tryz.f8.params.toList = [38,34,66]:=by kernel_rfl
  rw [h0] at hl
  cases l with
  | nil=>exact hl.elim
  | cons b0 l=>
  cases l with
  | nil=>exact hl.2.elim
  | cons b1 l=>
  cases l with
  | nil=>exact hl.2.2.elim
  | cons b2 l=>
  cases l with
  | cons d l=>exact hl.2.2.2.elim
  | nil=>
  obtain ⟨⟨a0,s0,e0⟩,⟨a1,s1,e1⟩,⟨a2,s2,e2⟩,_⟩:=hl
  subst e0 e1 e2
  obtain ⟨t,rfl,ht⟩:=eN s0
  obtain ⟨o,rfl,ho⟩:=lu s1
  obtain ⟨x,rfl,hx⟩:=hY s2
  rw [ot 38 _ (by kernel_rfl),uo 34 _ (by kernel_rfl),uo 66 _ (by kernel_rfl)]
  exact Tr t ht o ho x hx Go.AM.fG
set_option maxRecDepth 100000 in
theorem Tm (os:Os) (started:os.Started) (H:Type) (enc:TypeId × Value → H) :
    ReturnsInHanded {} Tryz.checked os 8 .any (fun w args=>(Rows.cutNoneSpec.pre enc Tryz.prog Tryz.f8 [] false w args ∧ laidMetH Tryz.prog bT w) ∧ sizedMet enc Tryz.prog Tryz.f8 (OpenSpec.ofChange Rows.cutNoneSpec) false w args)
      (Rows.cutNoneSpec.post enc Tryz.prog Tryz.f8 false true false false):=by
  refine returnsInHanded_of_change_and (C:=Tryz.checked) (X:=fun w _=>laidMetH Tryz.prog bT w) (fun _ _ _ hh h=>h.of_heap hh) Tryz.own started (by kernel_rfl) Tryz.func8
    (ChangeSpec.witness_shaped (enc:=enc) (C:=Tryz.checked) (os:=os) (X:=fun w _=>laidMetH Tryz.prog bT w) false (World.doorLaid Tryz.prog 400 os) #[.agg #[.slice none 0 0, .slice none 0 0, .int .i64 0, .int .i64 0, .int .i64 0, .int .i64 0, .slice none 0 0, .slice none 0 0, .slice none 0 0, .slice none 0 0, .slice none 0 0], .slice none 0 0, .slice none 0 0] 8 rfl (World.shaped_of_RefB (by kernel_rfl) (by kernel_rfl)) (by kernel_rfl) (by kernel_rfl) (by kernel_rfl) (jF os _)) ?_
  intro W base args ds gs before hval hW _ _ hL _
  exact ia (k:=8) (P:=Tryz.prog) (tb:=Tryz.f8.resultTypes.getD 0 0) (by kernel_rfl) (by kernel_rfl) rfl (fun ds hd=>by
      have h3:Tryz.f8.params.size = 3:=by kernel_rfl
      rw [h3] at hd
      match ds,hd with
      | [a,b,c],_=>exact ⟨rfl,rfl,rfl⟩) Tryz.laidOut (eG (by kernel_rfl)) S6 hval hW (jR hL)
theorem Tw:Rows.CutNoneSaid:=
  OpenClaim.holds_of_wide 8 Tryz.f8 rfl rfl rfl rfl rfl rfl rfl ⟨rfl,rfl,rfl,rfl,rfl⟩ rfl rfl rfl rfl rfl (by kernel_rfl) Tryz.func8 (by kernel_rfl)
    (of_decide_eq_true (by kernel_rfl)) (by unfold Func.isWrapper; first | (rw [if_pos (by decide +kernel)]; kernel_rfl) | (rw [if_neg (by decide +kernel)]; exact ⟨rfl,rfl⟩))
    (fun os started H enc _=>Tm os started H enc)
theorem cutNone_holds:Rows.CutNoneCardSaid:=
  Claim7.holds_tied_plain_at .later [] [.data, .data] true (true, "d1481c67644dfec0fe9e97f8892aacf0955c9f86bef1a2f0f3e74ec7de60f51d") true
    Tw (fun _ h=>by cases h) (by kernel_rfl) (fun _ h=>by cases h) cutNone_row_tie rfl ⟨rfl,rfl⟩ (by kernel_rfl) rfl
    (fun f fn hf hfn=>by
      obtain rfl : f = 8 := Option.some.inj ((show Tryz.prog.funcNamed "orlop/orloplaw06.CutNone" = some 8 by kernel_rfl).symm.trans hf) |>.symm
      obtain rfl:fn = Tryz.f8:=(Option.some.inj (Tryz.func8.symm.trans hfn)).symm
      exact ⟨by kernel_rfl,fun j t ht=>by
        have h2:(Tryz.f8.params.toList.all fun t=>!(Tryz.pinned.checked.prog.wantsStandIn t)) = true:=by kernel_rfl
        have:=List.all_eq_true.1 h2 t (Array.mem_toList_iff.2 (Array.mem_of_getElem? ht))
        simpa using this⟩)
    (by kernel_rfl)
#print axioms cutNone_holds
end Go.Proofs.YtmjfcbpgnmajpaaGreatDoor
