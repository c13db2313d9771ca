/- HullAsks: whatever a look az Ask returns finds, of the plans that agree at most az many are left az Ask says, and fewer than there were; for ANY other look at a name that one of their ships has, .. -/
import Derived.Test.YthhmdhiiicipkaaGreatDoorP24
import Derived.Test.YthhmdhiiicipkaaGreatDoorP26
import Derived.Test.YthhmdhiiicipkaaGreatDoorP30
namespace Go.Proofs.YthhmdhiiicipkaaGreatDoor
open Go.ChangeShapes Go.WideShapes Go.ChangeAt Go.RowKit Go.AM
set_option maxRecDepth 100000 in
theorem nN:∀ l,db Tryz.prog 8 Tryz.f8.params.toList l → Go.AM.Spec Tryz.prog 8 l [] fun r _=>r = .ret (.bool true):=by
  intro l hl
  have h0:Tryz.f8.params.toList = [47,75,83]:=by kernel_rfl
  rw [h0] at hl
  cases l with
  | nil=>exact hl.elim
  | cons b0 l=>
  cases l with
  | nil=>exact hl.2.elim
  | cons b1 l=>
  cases l with
  | nil=>exact hl.2.2.elim
  | cons b2 l=>
  cases l with
  | cons d l=>exact hl.2.2.2.elim
  | nil=>
  obtain ⟨⟨a0,s0,e0⟩,⟨a1,s1,e1⟩,⟨a2,s2,e2⟩,_⟩:=hl
  subst e0 e1 e2
  obtain ⟨ps,rfl,hn,hf⟩:=wy s0
  obtain ⟨d,t,xs,rfl,hd,ht,hxl,hxs⟩:=lD s1
  obtain ⟨y,rfl,hy⟩:=ox s2
  rw [oJ 47 _ (by kernel_rfl),nq 75 _ (by kernel_rfl),nq 83 _ (by kernel_rfl)]
  exact rp ps hn hf d t xs hd ht hxl hxs y hy
set_option maxRecDepth 100000 in
theorem pV (os:Os) (started:os.Started) (H:Type) (enc:TypeId × Value → H) :
    ReturnsInHanded {} Tryz.checked os 8 .any (fun w args=>(Rows.hullAsksSpec.pre enc Tryz.prog Tryz.f8 [] false w args ∧ laidMetH Tryz.prog aK w) ∧ sizedMet enc Tryz.prog Tryz.f8 (OpenSpec.ofChange Rows.hullAsksSpec) false w args)
      (Rows.hullAsksSpec.post enc Tryz.prog Tryz.f8 false true false false):=by
  refine bI (C:=Tryz.checked) (X:=fun w _=>laidMetH Tryz.prog aK w) (fun _ _ _ hh h=>h.of_heap hh) Tryz.own started (by kernel_rfl) Tryz.func8
    (ChangeSpec.witness_shaped (enc:=enc) (C:=Tryz.checked) (os:=os) (X:=fun w _=>laidMetH Tryz.prog aK w) false (World.laidAll Tryz.prog os aK) #[.slice none 0 0, .agg #[.int .u16 0, .int .u8 0, .slice none 0 0], .agg #[.int .u8 0, .int .u8 0, .string .empty, .int .u8 0]] 8 (World.laidAll_os _ _ _) (eA os _) (by kernel_rfl) (by kernel_rfl) (by kernel_rfl) (jM os _)) ?_
  intro W base args ds gs before hval hW hR hL hsh
  exact fQ (k:=8) (P:=Tryz.prog) (tb:=Tryz.f8.resultTypes.getD 0 0) (by kernel_rfl) (by kernel_rfl) rfl (fun ds hd=>by
      have h3:Tryz.f8.params.size = 3:=by kernel_rfl
      rw [h3] at hd
      match ds,hd with
      | [a,b,c],_=>exact ⟨rfl,rfl,rfl⟩) Tryz.laidOut (dO (by kernel_rfl)) nN hval hW hR (iq hL hsh)
theorem rz:Rows.HullAsksSaid:=
  OpenClaim.holds_of_wide 8 Tryz.f8 rfl rfl rfl rfl rfl rfl rfl ⟨rfl,rfl,rfl,rfl,rfl⟩ rfl rfl rfl rfl rfl (by kernel_rfl) Tryz.func8 (by kernel_rfl)
    (of_decide_eq_true (by kernel_rfl)) (by unfold Func.isWrapper; first | (rw [if_pos (by decide +kernel)]; kernel_rfl) | (rw [if_neg (by decide +kernel)]; exact ⟨rfl,rfl⟩))
    (fun os started H enc _=>pV os started H enc)
theorem hullAsks_holds:Rows.HullAsksCardSaid:=
  Claim7.holds_tied_plain_at .later [] [.data, .data, .data, .data, .sentinel, .sentinel, .pinned] true (true, "a3949665c74d51e86dfb14983233cebe873ebf68299183dbc28aa2acda12d494") true
    rz (fun _ h=>by cases h) (by kernel_rfl) (fun _ h=>by cases h) hullAsks_row_tie rfl ⟨rfl,rfl⟩ (by kernel_rfl) rfl
    (fun f fn hf hfn=>by
      obtain rfl : f = 8 := Option.some.inj ((show Tryz.prog.funcNamed "orlop/orloplaw01.HullAsks" = some 8 by kernel_rfl).symm.trans hf) |>.symm
      obtain rfl:fn = Tryz.f8:=(Option.some.inj (Tryz.func8.symm.trans hfn)).symm
      exact ⟨by kernel_rfl,fun j t ht=>by
        have h2:(Tryz.f8.params.toList.all fun t=>!(Tryz.pinned.checked.prog.wantsStandIn t)) = true:=by kernel_rfl
        have:=List.all_eq_true.1 h2 t (Array.mem_toList_iff.2 (Array.mem_of_getElem? ht))
        simpa using this⟩)
    (by kernel_rfl)
#print axioms hullAsks_holds
end Go.Proofs.YthhmdhiiicipkaaGreatDoor
