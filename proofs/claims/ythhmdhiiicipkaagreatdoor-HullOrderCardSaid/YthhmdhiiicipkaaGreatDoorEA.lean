/- HullOrder: in any order, and told twice, sights lead to the same plans; with a further sight no plan is added (any plans, day and sights; where each sight is put, by turns, which one is told .. -/
import Derived.Test.YthhmdhiiicipkaaGreatDoorP24
import Derived.Test.YthhmdhiiicipkaaGreatDoorP26
import Derived.Test.YthhmdhiiicipkaaGreatDoorP31
namespace Go.Proofs.YthhmdhiiicipkaaGreatDoor
open Go.ChangeShapes Go.WideShapes Go.ChangeAt Go.RowKit Go.AM
set_option maxRecDepth 100000 in
theorem mz:∀ l,db Tryz.prog 8 Tryz.f13.params.toList l → Go.AM.Spec Tryz.prog 13 l [] fun r _=>r = .ret (.bool true):=by
  intro l hl
  have h0:Tryz.f13.params.toList = [47,97,48]:=by kernel_rfl
  rw [h0] at hl
  cases l with
  | nil=>exact hl.elim
  | cons b0 l=>
  cases l with
  | nil=>exact hl.2.elim
  | cons b1 l=>
  cases l with
  | nil=>exact hl.2.2.elim
  | cons b2 l=>
  cases l with
  | cons d l=>exact hl.2.2.2.elim
  | nil=>
  obtain ⟨⟨a0,s0,e0⟩,⟨a1,s1,e1⟩,⟨a2,s2,e2⟩,_⟩:=hl
  subst e0 e1 e2
  obtain ⟨ps,rfl,hn,hf⟩:=wy s0
  obtain ⟨d,t,l,s,rfl,hd,ht,hl,h8⟩:=qn s1
  obtain ⟨ss,rfl,hs⟩:=ui s2
  rw [oJ 47 _ (by kernel_rfl),nq 97 _ (by kernel_rfl),oJ 48 _ (by kernel_rfl)]
  exact qe ps hn hf d t l s hd ht hl h8 ss hs
set_option maxRecDepth 100000 in
theorem od (os:Os) (started:os.Started) (H:Type) (enc:TypeId × Value → H) :
    ReturnsInHanded {} Tryz.checked os 13 .any (fun w args=>(Rows.hullOrderSpec.pre enc Tryz.prog Tryz.f13 [] false w args ∧ laidMetH Tryz.prog aK w) ∧ sizedMet enc Tryz.prog Tryz.f13 (OpenSpec.ofChange Rows.hullOrderSpec) false w args)
      (Rows.hullOrderSpec.post enc Tryz.prog Tryz.f13 false true false false):=by
  refine bI (C:=Tryz.checked) (X:=fun w _=>laidMetH Tryz.prog aK w) (fun _ _ _ hh h=>h.of_heap hh) Tryz.own started (by kernel_rfl) Tryz.func13
    (ChangeSpec.witness_shaped (enc:=enc) (C:=Tryz.checked) (os:=os) (X:=fun w _=>laidMetH Tryz.prog aK w) false (World.laidAll Tryz.prog os aK) #[.slice none 0 0, .agg #[.int .u16 0, .slice none 0 0, .int .u8 0, .string .empty, .int .i64 0, .int .i64 0], .slice none 0 0] 8 (World.laidAll_os _ _ _) (eA os _) (by kernel_rfl) (by kernel_rfl) (by kernel_rfl) (jM os _)) ?_
  intro W base args ds gs before hval hW hR hL hsh
  exact fQ (k:=8) (P:=Tryz.prog) (tb:=Tryz.f13.resultTypes.getD 0 0) (by kernel_rfl) (by kernel_rfl) rfl (fun ds hd=>by
      have h3:Tryz.f13.params.size = 3:=by kernel_rfl
      rw [h3] at hd
      match ds,hd with
      | [a,b,c],_=>exact ⟨rfl,rfl,rfl⟩) Tryz.laidOut (dO (by kernel_rfl)) mz hval hW hR (iq hL hsh)
theorem rn:Rows.HullOrderSaid:=
  OpenClaim.holds_of_wide 13 Tryz.f13 rfl rfl rfl rfl rfl rfl rfl ⟨rfl,rfl,rfl,rfl,rfl⟩ rfl rfl rfl rfl rfl (by kernel_rfl) Tryz.func13 (by kernel_rfl)
    (of_decide_eq_true (by kernel_rfl)) (by unfold Func.isWrapper; first | (rw [if_pos (by decide +kernel)]; kernel_rfl) | (rw [if_neg (by decide +kernel)]; exact ⟨rfl,rfl⟩))
    (fun os started H enc _=>od os started H enc)
theorem hullOrder_holds:Rows.HullOrderCardSaid:=
  Claim7.holds_tied_plain_at .later [] [.data, .data, .data, .data, .sentinel, .sentinel, .pinned] true (true, "a3949665c74d51e86dfb14983233cebe873ebf68299183dbc28aa2acda12d494") true
    rn (fun _ h=>by cases h) (by kernel_rfl) (fun _ h=>by cases h) hullOrder_row_tie rfl ⟨rfl,rfl⟩ (by kernel_rfl) rfl
    (fun f fn hf hfn=>by
      obtain rfl : f = 13 := Option.some.inj ((show Tryz.prog.funcNamed "orlop/orloplaw01.HullOrder" = some 13 by kernel_rfl).symm.trans hf) |>.symm
      obtain rfl:fn = Tryz.f13:=(Option.some.inj (Tryz.func13.symm.trans hfn)).symm
      exact ⟨by kernel_rfl,fun j t ht=>by
        have h2:(Tryz.f13.params.toList.all fun t=>!(Tryz.pinned.checked.prog.wantsStandIn t)) = true:=by kernel_rfl
        have:=List.all_eq_true.1 h2 t (Array.mem_toList_iff.2 (Array.mem_of_getElem? ht))
        simpa using this⟩)
    (by kernel_rfl)
#print axioms hullOrder_holds
end Go.Proofs.YthhmdhiiicipkaaGreatDoor
