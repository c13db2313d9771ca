/- HullWeighs: What parts weigh over all frames is the sum of their weights; two ranges beside each other weigh together az the document says (any plan, day and frames). The call returns true, and no .. -/
import Derived.Test.YthhmdhiiicipkaaGreatDoorP24
import Derived.Test.YthhmdhiiicipkaaGreatDoorP29
namespace Go.Proofs.YthhmdhiiicipkaaGreatDoor
open Go.ChangeShapes Go.WideShapes Go.ChangeAt Go.RowKit Go.AM
set_option maxRecDepth 100000 in
theorem mR:∀ l,db Tryz.prog 8 Tryz.f9.params.toList l → Go.AM.Spec Tryz.prog 9 l [] fun r _=>r = .ret (.bool true):=by
  intro l hl
  have h0:Tryz.f9.params.toList = [27,72,85]:=by kernel_rfl
  rw [h0] at hl
  cases l with
  | nil=>exact hl.elim
  | cons b0 l=>
  cases l with
  | nil=>exact hl.2.elim
  | cons b1 l=>
  cases l with
  | nil=>exact hl.2.2.elim
  | cons b2 l=>
  cases l with
  | cons d l=>exact hl.2.2.2.elim
  | nil=>
  obtain ⟨⟨a0,s0,e0⟩,⟨a1,s1,e1⟩,⟨a2,s2,e2⟩,_⟩:=hl
  subst e0 e1 e2
  obtain ⟨p,rfl,hp⟩:=dN s0
  obtain ⟨d,rfl,hd⟩:=je s1
  obtain ⟨x,y,z,rfl,hx,hy,hz⟩:=uw s2
  rw [nq 27 _ (by kernel_rfl),oJ 72 _ (by kernel_rfl),nq 85 _ (by kernel_rfl)]
  exact ru p.ship p.chs hp d x y z hd hx hy hz
set_option maxRecDepth 100000 in
theorem ph (os:Os) (started:os.Started) (H:Type) (enc:TypeId × Value → H) :
    ReturnsInHanded {} Tryz.checked os 9 .any (fun w args=>(Rows.hullWeighsSpec.pre enc Tryz.prog Tryz.f9 [] false w args ∧ laidMetH Tryz.prog aK w) ∧ sizedMet enc Tryz.prog Tryz.f9 (OpenSpec.ofChange Rows.hullWeighsSpec) false w args)
      (Rows.hullWeighsSpec.post enc Tryz.prog Tryz.f9 false true false false):=by
  refine bI (C:=Tryz.checked) (X:=fun w _=>laidMetH Tryz.prog aK w) (fun _ _ _ hh h=>h.of_heap hh) Tryz.own started (by kernel_rfl) Tryz.func9
    (ChangeSpec.witness_shaped (enc:=enc) (C:=Tryz.checked) (os:=os) (X:=fun w _=>laidMetH Tryz.prog aK w) false (World.laidAll Tryz.prog os aK) #[.agg #[.slice none 0 0, .slice none 0 0], .int .u16 0, .agg #[.int .u8 0, .int .u8 0, .int .u8 0]] 8 (World.laidAll_os _ _ _) (eA os _) (by kernel_rfl) (by kernel_rfl) (by kernel_rfl) (jM os _)) ?_
  intro W base args ds gs before hval hW hR hL hsh
  exact fQ (k:=8) (P:=Tryz.prog) (tb:=Tryz.f9.resultTypes.getD 0 0) (by kernel_rfl) (by kernel_rfl) rfl (fun ds hd=>by
      have h3:Tryz.f9.params.size = 3:=by kernel_rfl
      rw [h3] at hd
      match ds,hd with
      | [a,b,c],_=>exact ⟨rfl,rfl,rfl⟩) Tryz.laidOut (dO (by kernel_rfl)) mR hval hW hR (iq hL hsh)
theorem ry:Rows.HullWeighsSaid:=
  OpenClaim.holds_of_wide 9 Tryz.f9 rfl rfl rfl rfl rfl rfl rfl ⟨rfl,rfl,rfl,rfl,rfl⟩ rfl rfl rfl rfl rfl (by kernel_rfl) Tryz.func9 (by kernel_rfl)
    (of_decide_eq_true (by kernel_rfl)) (by unfold Func.isWrapper; first | (rw [if_pos (by decide +kernel)]; kernel_rfl) | (rw [if_neg (by decide +kernel)]; exact ⟨rfl,rfl⟩))
    (fun os started H enc _=>ph os started H enc)
theorem hullWeighs_holds:Rows.HullWeighsCardSaid:=
  Claim7.holds_tied_plain_at .later [] [.data, .data, .data, .data, .sentinel, .sentinel, .pinned] true (true, "a3949665c74d51e86dfb14983233cebe873ebf68299183dbc28aa2acda12d494") true
    ry (fun _ h=>by cases h) (by kernel_rfl) (fun _ h=>by cases h) hullWeighs_row_tie rfl ⟨rfl,rfl⟩ (by kernel_rfl) rfl
    (fun f fn hf hfn=>by
      obtain rfl : f = 9 := Option.some.inj ((show Tryz.prog.funcNamed "orlop/orloplaw01.HullWeighs" = some 9 by kernel_rfl).symm.trans hf) |>.symm
      obtain rfl:fn = Tryz.f9:=(Option.some.inj (Tryz.func9.symm.trans hfn)).symm
      exact ⟨by kernel_rfl,fun j t ht=>by
        have h2:(Tryz.f9.params.toList.all fun t=>!(Tryz.pinned.checked.prog.wantsStandIn t)) = true:=by kernel_rfl
        have:=List.all_eq_true.1 h2 t (Array.mem_toList_iff.2 (Array.mem_of_getElem? ht))
        simpa using this⟩)
    (by kernel_rfl)
#print axioms hullWeighs_holds
end Go.Proofs.YthhmdhiiicipkaaGreatDoor
