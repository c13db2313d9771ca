/- HullKnown: The examples of the document. The call returns true, and no memory of the caller's is changed, where the listed variables stand az the program's text lays them. -/
import Derived.Test.YthhmdhiiicipkaaGreatDoorP24
import Derived.Test.YthhmdhiiicipkaaGreatDoorP32
namespace Go.Proofs.YthhmdhiiicipkaaGreatDoor
open Go.ChangeShapes Go.WideShapes Go.ChangeAt Go.RowKit Go.AM
set_option maxRecDepth 100000 in
theorem nL:∀ l,db Tryz.prog 8 Tryz.f6.params.toList l → Go.AM.Spec Tryz.prog 6 l [] fun r _=>r = .ret (.bool true):=by
  intro l hl
  have h0:Tryz.f6.params.toList = []:=by kernel_rfl
  rw [h0] at hl
  cases l with
  | cons d l=>exact hl.elim
  | nil=>
  exact sy
set_option maxRecDepth 100000 in
theorem qk (os:Os) (started:os.Started) (H:Type) (enc:TypeId × Value → H) :
    ReturnsInHanded {} Tryz.checked os 6 .any (fun w args=>(Rows.hullKnownSpec.pre enc Tryz.prog Tryz.f6 [] false w args ∧ laidMetH Tryz.prog aK w) ∧ sizedMet enc Tryz.prog Tryz.f6 (OpenSpec.ofChange Rows.hullKnownSpec) false w args)
      (Rows.hullKnownSpec.post enc Tryz.prog Tryz.f6 false true false false):=by
  refine bI (C:=Tryz.checked) (X:=fun w _=>laidMetH Tryz.prog aK w) (fun _ _ _ hh h=>h.of_heap hh) Tryz.own started (by kernel_rfl) Tryz.func6
    (ChangeSpec.witness_shaped (enc:=enc) (C:=Tryz.checked) (os:=os) (X:=fun w _=>laidMetH Tryz.prog aK w) false (World.laidAll Tryz.prog os aK) #[] 8 (World.laidAll_os _ _ _) (eA os _) (by kernel_rfl) (by kernel_rfl) (by kernel_rfl) (jM os _)) ?_
  intro W base args ds gs before hval hW hR hL hsh
  exact fQ (k:=8) (P:=Tryz.prog) (tb:=Tryz.f6.resultTypes.getD 0 0) (by kernel_rfl) (by kernel_rfl) rfl (fun ds hd=>by
      have h3:Tryz.f6.params.size = 0:=by kernel_rfl
      rw [h3] at hd
      match ds,hd with
      | [],_=>exact ⟨rfl,rfl,rfl⟩) Tryz.laidOut (dO (by kernel_rfl)) nL hval hW hR (iq hL hsh)
theorem sg:Rows.HullKnownSaid:=
  OpenClaim.holds_of_wide 6 Tryz.f6 rfl rfl rfl rfl rfl rfl rfl ⟨rfl,rfl,rfl,rfl,rfl⟩ rfl rfl rfl rfl rfl (by kernel_rfl) Tryz.func6 (by kernel_rfl)
    (of_decide_eq_true (by kernel_rfl)) (by unfold Func.isWrapper; first | (rw [if_pos (by decide +kernel)]; kernel_rfl) | (rw [if_neg (by decide +kernel)]; exact ⟨rfl,rfl⟩))
    (fun os started H enc _=>qk os started H enc)
theorem hullKnown_holds:Rows.HullKnownCardSaid:=
  Claim7.holds_tied_plain_at .later [] [.data, .data, .data, .data, .sentinel, .sentinel, .pinned] true (true, "a3949665c74d51e86dfb14983233cebe873ebf68299183dbc28aa2acda12d494") true
    sg (fun _ h=>by cases h) (by kernel_rfl) (fun _ h=>by cases h) hullKnown_row_tie rfl ⟨rfl,rfl⟩ (by kernel_rfl) rfl
    (fun f fn hf hfn=>by
      obtain rfl : f = 6 := Option.some.inj ((show Tryz.prog.funcNamed "orlop/orloplaw01.HullKnown" = some 6 by kernel_rfl).symm.trans hf) |>.symm
      obtain rfl:fn = Tryz.f6:=(Option.some.inj (Tryz.func6.symm.trans hfn)).symm
      exact ⟨by kernel_rfl,fun j t ht=>by
        have h2:(Tryz.f6.params.toList.all fun t=>!(Tryz.pinned.checked.prog.wantsStandIn t)) = true:=by kernel_rfl
        have:=List.all_eq_true.1 h2 t (Array.mem_toList_iff.2 (Array.mem_of_getElem? ht))
        simpa using this⟩)
    (by kernel_rfl)
#print axioms hullKnown_holds
end Go.Proofs.YthhmdhiiicipkaaGreatDoor
