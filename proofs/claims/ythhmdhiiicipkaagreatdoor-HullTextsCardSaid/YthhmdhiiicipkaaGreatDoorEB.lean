/- HullTexts: Write and Read return what the document says, for any plan and string. The call returns true, and no memory of the caller's is changed, where the listed variables stand az the program's text lays them. -/
import Derived.Test.YthhmdhiiicipkaaGreatDoorP24
import Derived.Test.YthhmdhiiicipkaaGreatDoorP33
namespace Go.Proofs.YthhmdhiiicipkaaGreatDoor
open Go.ChangeShapes Go.WideShapes Go.ChangeAt Go.RowKit Go.AM
set_option maxRecDepth 100000 in
theorem na:∀ l,db Tryz.prog 8 Tryz.f5.params.toList l → Go.AM.Spec Tryz.prog 5 l [] fun r _=>r = .ret (.bool true):=by
  intro l hl
  have h0:Tryz.f5.params.toList = [27,9]:=by kernel_rfl
  rw [h0] at hl
  cases l with
  | nil=>exact hl.elim
  | cons b0 l=>
  cases l with
  | nil=>exact hl.2.elim
  | cons b1 l=>
  cases l with
  | cons d l=>exact hl.2.2.elim
  | nil=>
  obtain ⟨⟨a0,s0,e0⟩,⟨a1,s1,e1⟩,_⟩:=hl
  subst e0 e1
  obtain ⟨p,rfl,hp⟩:=dN s0
  obtain ⟨s,rfl,_⟩:=s1.str ty9
  rw [nq 27 _ (by kernel_rfl),oJ 9 _ (by kernel_rfl)]
  exact qu p.ship p.chs hp s
set_option maxRecDepth 100000 in
theorem oc (os:Os) (started:os.Started) (H:Type) (enc:TypeId × Value → H) :
    ReturnsInHanded {} Tryz.checked os 5 .any (fun w args=>(Rows.hullTextsSpec.pre enc Tryz.prog Tryz.f5 [] false w args ∧ laidMetH Tryz.prog aK w) ∧ sizedMet enc Tryz.prog Tryz.f5 (OpenSpec.ofChange Rows.hullTextsSpec) false w args)
      (Rows.hullTextsSpec.post enc Tryz.prog Tryz.f5 false true false false):=by
  refine bI (C:=Tryz.checked) (X:=fun w _=>laidMetH Tryz.prog aK w) (fun _ _ _ hh h=>h.of_heap hh) Tryz.own started (by kernel_rfl) Tryz.func5
    (ChangeSpec.witness_shaped (enc:=enc) (C:=Tryz.checked) (os:=os) (X:=fun w _=>laidMetH Tryz.prog aK w) false (World.laidAll Tryz.prog os aK) #[.agg #[.slice none 0 0, .slice none 0 0], .string .empty] 8 (World.laidAll_os _ _ _) (eA os _) (by kernel_rfl) (by kernel_rfl) (by kernel_rfl) (jM os _)) ?_
  intro W base args ds gs before hval hW hR hL hsh
  exact fQ (k:=8) (P:=Tryz.prog) (tb:=Tryz.f5.resultTypes.getD 0 0) (by kernel_rfl) (by kernel_rfl) rfl (fun ds hd=>by
      have h3:Tryz.f5.params.size = 2:=by kernel_rfl
      rw [h3] at hd
      match ds,hd with
      | [a,b],_=>exact ⟨rfl,rfl,rfl⟩) Tryz.laidOut (dO (by kernel_rfl)) na hval hW hR (iq hL hsh)
theorem rj:Rows.HullTextsSaid:=
  OpenClaim.holds_of_wide 5 Tryz.f5 rfl rfl rfl rfl rfl rfl rfl ⟨rfl,rfl,rfl,rfl,rfl⟩ rfl rfl rfl rfl rfl (by kernel_rfl) Tryz.func5 (by kernel_rfl)
    (of_decide_eq_true (by kernel_rfl)) (by unfold Func.isWrapper; first | (rw [if_pos (by decide +kernel)]; kernel_rfl) | (rw [if_neg (by decide +kernel)]; exact ⟨rfl,rfl⟩))
    (fun os started H enc _=>oc os started H enc)
theorem hullTexts_holds:Rows.HullTextsCardSaid:=
  Claim7.holds_tied_plain_at .later [] [.data, .data, .data, .data, .sentinel, .sentinel, .pinned] true (true, "a3949665c74d51e86dfb14983233cebe873ebf68299183dbc28aa2acda12d494") true
    rj (fun _ h=>by cases h) (by kernel_rfl) (fun _ h=>by cases h) hullTexts_row_tie rfl ⟨rfl,rfl⟩ (by kernel_rfl) rfl
    (fun f fn hf hfn=>by
      obtain rfl : f = 5 := Option.some.inj ((show Tryz.prog.funcNamed "orlop/orloplaw01.HullTexts" = some 5 by kernel_rfl).symm.trans hf) |>.symm
      obtain rfl:fn = Tryz.f5:=(Option.some.inj (Tryz.func5.symm.trans hfn)).symm
      exact ⟨by kernel_rfl,fun j t ht=>by
        have h2:(Tryz.f5.params.toList.all fun t=>!(Tryz.pinned.checked.prog.wantsStandIn t)) = true:=by kernel_rfl
        have:=List.all_eq_true.1 h2 t (Array.mem_toList_iff.2 (Array.mem_of_getElem? ht))
        simpa using this⟩)
    (by kernel_rfl)
#print axioms hullTexts_holds
end Go.Proofs.YthhmdhiiicipkaaGreatDoor
