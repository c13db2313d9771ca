/-
  DERIVED. GIVEN WITH THE SEED: THE CARDS: each row of YtcdfnopkemadjaaGreatDoorRows.lean that lists a variable, with what it lists TIED to the program's text (the seventh form; the later family's looks); each row that meets fmt, with fmt's text TOLD by the authors' own Lean function (tested against real Go, not proved from fmt's source: count such statements apart). THE CARD IS WHAT COUNTS. Prove the row's statement (the work); the ties are given (YtcdfnopkemadjaaGreatDoorTie.lean); close each card by the builder's one call (the guide's Derived/Test/ToyasCard.lean, 'card_holds'). Laid BY PROGRAM, IN A SANDBOX (cutbox-door.mjs). By AI agents, Wed Nov 11 2026. No macro, syntax, notation, axiom, sorry.
-/
import Derived.Test.YtcdfnopkemadjaaGreatDoorRows
import GoSem.ClaimSeven
namespace Go.Proofs.YtcdfnopkemadjaaGreatDoor
namespace Rows

/-- THE TIED CARD OF 'orloplaw13.YardKnown'. -/
def yardKnownCard : Claim7 := { stood := { row := yardKnownRow, standIns := [], harness := (true, "148779c8adca97a4e2d9c0cf7430f6695dadef532050698d418062204fd81bbb"), looks := true }, kinds := [], alts := [], laidByText := true, laidKinds := [.data, .data, .data, .data, .sentinel, .sentinel, .pinned], laidTests := true, laidLooks := .later }
def YardKnownCardSaid : Prop := Claim7.holds Tryz.pinned (.plain (OpenSpec.ofChange yardKnownSpec)) yardKnownCard

/-- THE SECOND FORM's CARD OF 'orloplaw13.YardKnown'. -/
def yardKnownUptoCard : Claim7 := { stood := { row := yardKnownUptoRow, standIns := [], harness := (true, "148779c8adca97a4e2d9c0cf7430f6695dadef532050698d418062204fd81bbb"), looks := true }, kinds := [], alts := [], laidByText := true, laidKinds := [.data, .data, .data, .data, .sentinel, .sentinel, .pinned], laidTests := true, laidLooks := .later }
def YardKnownUptoCardSaid : Prop := Claim7.holds Tryz.pinned (.plain (OpenSpec.upto yardKnownSpec)) yardKnownUptoCard
end Rows
end Go.Proofs.YtcdfnopkemadjaaGreatDoor
