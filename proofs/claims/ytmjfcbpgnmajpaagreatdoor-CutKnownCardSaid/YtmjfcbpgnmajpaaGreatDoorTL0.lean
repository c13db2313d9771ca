/- What the condition of a tied card gives: the tables of math/bits stand in the world as the program's text lays them. -/
import Derived.Test.YtmjfcbpgnmajpaaGreatDoorA15
import Derived.Test.YtmjfcbpgnmajpaaGreatDoorTie
import Derived.Test.YtmjfcbpgnmajpaaGreatDoorCards
import Derived.ProofKit
import Derived.LaidMore
import Derived.OpenShut
import Derived.SevenTiedAt
namespace Go.Proofs.YtmjfcbpgnmajpaaGreatDoor
open Go.ChangeShapes Go.WideShapes Go.ChangeAt Go.RowKit Go.AM

theorem Tryz.own : ownKnob Tryz.prog.godebug = none := by kernel_rfl
theorem Tryz.laidOut : laidOutB Tryz.prog = true := by kernel_rfl
abbrev laidTwo : List (String × DataW Unit) := [("math/bits.deBruijn32tab", Rows.laid_math_bits_deBruijn32tab), ("math/bits.deBruijn64tab", Rows.laid_math_bits_deBruijn64tab)]
theorem gTab32 : Tryz.prog.globalNamed "math/bits.deBruijn32tab" = some 0 := by kernel_rfl
theorem gTab64 : Tryz.prog.globalNamed "math/bits.deBruijn64tab" = some 1 := by kernel_rfl
theorem tTab32 : (Tryz.prog.globals[0]?).map (·.type) = some 295 := by kernel_rfl
theorem tTab64 : (Tryz.prog.globals[1]?).map (·.type) = some 296 := by kernel_rfl
theorem uTab32 : Tryz.prog.underlying 295 = some (.array 32 5) := by kernel_rfl
theorem uTab64 : Tryz.prog.underlying 296 = some (.array 64 5) := by kernel_rfl
theorem uByte : Tryz.prog.underlying 5 = some (.int .u8) := by kernel_rfl
theorem cByte : Tryz.prog.cellsOf 5 = 1 := by kernel_rfl

theorem laid_tab {H : Type} {enc : TypeId × Value → H} {P : Program} {W : World} {name : String} {g m fuel base : Nat} {e t : TypeId} {q : IntKind} {cs : Array Value} {ps : List MemPlace} {L : List (IntKind × Int)} {spare : Nat → Bool} {held : Bool}
    (hg : P.globalNamed name = some g) (hv : W.var? P name = some cs) (ht : P.underlying t = some (.array m e)) (he : P.underlying e = some (.int q)) (hce : P.cellsOf e = 1)
    (hd : DataW.trod enc P W base spare held fuel t cs.toList = some (.agg (L.map fun c => .lit (.int c.1 c.2)), ps)) : ∀ j (h : j < L.length), W.cell? ⟨g, j, none⟩ = some (.int L[j].1 L[j].2) := by
  obtain ⟨xs, m1, rfl, hx, hlen, hn, hel⟩ := DataW.trod_array ht hd
  simp only [Prod.mk.injEq, DataW.agg.injEq] at hx
  obtain ⟨hx, _⟩ := hx
  intro j hj
  have hxl : L.length = xs.length := by simpa using congrArg List.length hx
  have hjx : j < xs.length := by omega
  have h0 := hel j (by omega)
  rw [hce, List.getElem?_eq_getElem hjx] at h0
  obtain ⟨n, e1, e2, _⟩ := DataW.trod_int he h0
  have hxj := congrArg (fun l => l[j]?) hx
  simp only [List.getElem?_map, List.getElem?_eq_getElem hj, List.getElem?_eq_getElem hjx, Option.map_some, Option.some.injEq, e2, DataW.lit.injEq, Lit.int.injEq] at hxj
  have hc := World.var?_cell hg hv j
  rw [hc]
  have e3 := congrArg (fun l => l[0]?) e1
  simp at e3
  rw [e3, hxj.1, hxj.2]

theorem laidW_of {W : World} (h : laidMetH Tryz.prog laidTwo W) : LaidW W := by
  rw [MakeChecks.laidMetH_plain _ _ _ (by kernel_rfl)] at h
  obtain ⟨ps, ⟨g0, t0, cs0, f0, p0, q0, hg0, ht0, hv0, hd0, ⟨g1, t1, cs1, f1, p1, q1, hg1, ht1, hv1, hd1, _, _⟩, _⟩, _, _⟩ := h
  obtain rfl := Option.some.inj (gTab32.symm.trans hg0)
  obtain rfl := Option.some.inj (gTab64.symm.trans hg1)
  obtain rfl := Option.some.inj (tTab32.symm.trans ht0)
  obtain rfl := Option.some.inj (tTab64.symm.trans ht1)
  intro g cs hm
  simp only [laidTab, List.mem_cons, List.mem_nil_iff, or_false, Prod.mk.injEq] at hm
  rcases hm with ⟨rfl, rfl⟩ | ⟨rfl, rfl⟩
  · exact laid_tab (L := tab32) hg0 hv0 uTab32 uByte cByte hd0
  · exact laid_tab (L := tab64) hg1 hv1 uTab64 uByte cByte hd1

/-- The door's own heap meets the condition. -/
theorem door_met (os : Os) (args : Array Value) : laidMetH Tryz.prog laidTwo ((World.doorLaid Tryz.prog 400 os).forCall (fun _ _ => 0) ⟨#[], args, []⟩).memory :=
  laidMetH_of_parts3 (fuel := 8) (laidMet_of_run' 8 (by kernel_rfl) (by kernel_rfl)) (by kernel_rfl) (by kernel_rfl)
end Go.Proofs.YtmjfcbpgnmajpaaGreatDoor
