/-
  DERIVED. GIVEN WITH THE SEED: THE CARDS: each row of YthhmdhiiicipkaaGreatDoorRows.lean that lists a variable, with what it lists TIED to the program's text (the seventh form; the later family's looks); each row that meets fmt, with fmt's text TOLD by the authors' own Lean function (tested against real Go, not proved from fmt's source: count such statements apart). THE CARD IS WHAT COUNTS. Prove the row's statement (the work); the ties are given (YthhmdhiiicipkaaGreatDoorTie.lean); close each card by the builder's one call (the guide's Derived/Test/ToyasCard.lean, 'card_holds'). Laid BY PROGRAM, IN A SANDBOX (cutbox-door.mjs). By AI agents, Wed Nov 11 2026. No macro, syntax, notation, axiom, sorry.
-/
import Derived.Test.YthhmdhiiicipkaaGreatDoorRows
import GoSem.ClaimSeven
namespace Go.Proofs.YthhmdhiiicipkaaGreatDoor
namespace Rows

/-- THE TIED CARD OF 'orloplaw01.HullShips'. -/
def hullShipsCard : Claim7 := { stood := { row := hullShipsRow, standIns := [], harness := (true, "a3949665c74d51e86dfb14983233cebe873ebf68299183dbc28aa2acda12d494"), looks := true }, kinds := [], alts := [], laidByText := true, laidKinds := [.data, .data, .data, .data, .sentinel, .sentinel, .pinned], laidTests := true, laidLooks := .later }
def HullShipsCardSaid : Prop := Claim7.holds Tryz.pinned (.plain (OpenSpec.ofChange hullShipsSpec)) hullShipsCard

/-- THE TIED CARD OF 'orloplaw01.HullPlans'. -/
def hullPlansCard : Claim7 := { stood := { row := hullPlansRow, standIns := [], harness := (true, "a3949665c74d51e86dfb14983233cebe873ebf68299183dbc28aa2acda12d494"), looks := true }, kinds := [], alts := [], laidByText := true, laidKinds := [.data, .data, .data, .data, .sentinel, .sentinel, .pinned], laidTests := true, laidLooks := .later }
def HullPlansCardSaid : Prop := Claim7.holds Tryz.pinned (.plain (OpenSpec.ofChange hullPlansSpec)) hullPlansCard

/-- THE TIED CARD OF 'orloplaw01.HullTexts'. -/
def hullTextsCard : Claim7 := { stood := { row := hullTextsRow, standIns := [], harness := (true, "a3949665c74d51e86dfb14983233cebe873ebf68299183dbc28aa2acda12d494"), looks := true }, kinds := [], alts := [], laidByText := true, laidKinds := [.data, .data, .data, .data, .sentinel, .sentinel, .pinned], laidTests := true, laidLooks := .later }
def HullTextsCardSaid : Prop := Claim7.holds Tryz.pinned (.plain (OpenSpec.ofChange hullTextsSpec)) hullTextsCard

/-- THE TIED CARD OF 'orloplaw01.HullKnown'. -/
def hullKnownCard : Claim7 := { stood := { row := hullKnownRow, standIns := [], harness := (true, "a3949665c74d51e86dfb14983233cebe873ebf68299183dbc28aa2acda12d494"), looks := true }, kinds := [], alts := [], laidByText := true, laidKinds := [.data, .data, .data, .data, .sentinel, .sentinel, .pinned], laidTests := true, laidLooks := .later }
def HullKnownCardSaid : Prop := Claim7.holds Tryz.pinned (.plain (OpenSpec.ofChange hullKnownSpec)) hullKnownCard

/-- THE TIED CARD OF 'orloplaw01.HullTrue'. -/
def hullTrueCard : Claim7 := { stood := { row := hullTrueRow, standIns := [], harness := (true, "a3949665c74d51e86dfb14983233cebe873ebf68299183dbc28aa2acda12d494"), looks := true }, kinds := [], alts := [], laidByText := true, laidKinds := [.data, .data, .data, .data, .sentinel, .sentinel, .pinned], laidTests := true, laidLooks := .later }
def HullTrueCardSaid : Prop := Claim7.holds Tryz.pinned (.plain (OpenSpec.ofChange hullTrueSpec)) hullTrueCard

/-- THE TIED CARD OF 'orloplaw01.HullAsks'. -/
def hullAsksCard : Claim7 := { stood := { row := hullAsksRow, standIns := [], harness := (true, "a3949665c74d51e86dfb14983233cebe873ebf68299183dbc28aa2acda12d494"), looks := true }, kinds := [], alts := [], laidByText := true, laidKinds := [.data, .data, .data, .data, .sentinel, .sentinel, .pinned], laidTests := true, laidLooks := .later }
def HullAsksCardSaid : Prop := Claim7.holds Tryz.pinned (.plain (OpenSpec.ofChange hullAsksSpec)) hullAsksCard

/-- THE TIED CARD OF 'orloplaw01.HullWeighs'. -/
def hullWeighsCard : Claim7 := { stood := { row := hullWeighsRow, standIns := [], harness := (true, "a3949665c74d51e86dfb14983233cebe873ebf68299183dbc28aa2acda12d494"), looks := true }, kinds := [], alts := [], laidByText := true, laidKinds := [.data, .data, .data, .data, .sentinel, .sentinel, .pinned], laidTests := true, laidLooks := .later }
def HullWeighsCardSaid : Prop := Claim7.holds Tryz.pinned (.plain (OpenSpec.ofChange hullWeighsSpec)) hullWeighsCard

/-- THE TIED CARD OF 'orloplaw01.HullStands'. -/
def hullStandsCard : Claim7 := { stood := { row := hullStandsRow, standIns := [], harness := (true, "a3949665c74d51e86dfb14983233cebe873ebf68299183dbc28aa2acda12d494"), looks := true }, kinds := [], alts := [], laidByText := true, laidKinds := [.data, .data, .data, .data, .sentinel, .sentinel, .pinned], laidTests := true, laidLooks := .later }
def HullStandsCardSaid : Prop := Claim7.holds Tryz.pinned (.plain (OpenSpec.ofChange hullStandsSpec)) hullStandsCard

/-- THE TIED CARD OF 'orloplaw01.HullSteps'. -/
def hullStepsCard : Claim7 := { stood := { row := hullStepsRow, standIns := [], harness := (true, "a3949665c74d51e86dfb14983233cebe873ebf68299183dbc28aa2acda12d494"), looks := true }, kinds := [], alts := [], laidByText := true, laidKinds := [.data, .data, .data, .data, .sentinel, .sentinel, .pinned], laidTests := true, laidLooks := .later }
def HullStepsCardSaid : Prop := Claim7.holds Tryz.pinned (.plain (OpenSpec.ofChange hullStepsSpec)) hullStepsCard

/-- THE TIED CARD OF 'orloplaw01.HullDiffers'. -/
def hullDiffersCard : Claim7 := { stood := { row := hullDiffersRow, standIns := [], harness := (true, "a3949665c74d51e86dfb14983233cebe873ebf68299183dbc28aa2acda12d494"), looks := true }, kinds := [], alts := [], laidByText := true, laidKinds := [.data, .data, .data, .data, .sentinel, .sentinel, .pinned], laidTests := true, laidLooks := .later }
def HullDiffersCardSaid : Prop := Claim7.holds Tryz.pinned (.plain (OpenSpec.ofChange hullDiffersSpec)) hullDiffersCard

/-- THE TIED CARD OF 'orloplaw01.HullOrder'. -/
def hullOrderCard : Claim7 := { stood := { row := hullOrderRow, standIns := [], harness := (true, "a3949665c74d51e86dfb14983233cebe873ebf68299183dbc28aa2acda12d494"), looks := true }, kinds := [], alts := [], laidByText := true, laidKinds := [.data, .data, .data, .data, .sentinel, .sentinel, .pinned], laidTests := true, laidLooks := .later }
def HullOrderCardSaid : Prop := Claim7.holds Tryz.pinned (.plain (OpenSpec.ofChange hullOrderSpec)) hullOrderCard

/-- THE TIED CARD OF 'orloplaw01.HullRound'. -/
def hullRoundCard : Claim7 := { stood := { row := hullRoundRow, standIns := [], harness := (true, "a3949665c74d51e86dfb14983233cebe873ebf68299183dbc28aa2acda12d494"), looks := true }, kinds := [], alts := [], laidByText := true, laidKinds := [.data, .data, .data, .data, .sentinel, .sentinel, .pinned], laidTests := true, laidLooks := .later }
def HullRoundCardSaid : Prop := Claim7.holds Tryz.pinned (.plain (OpenSpec.ofChange hullRoundSpec)) hullRoundCard

/-- THE SECOND FORM's CARD OF 'orloplaw01.HullShips'. -/
def hullShipsUptoCard : Claim7 := { stood := { row := hullShipsUptoRow, standIns := [], harness := (true, "a3949665c74d51e86dfb14983233cebe873ebf68299183dbc28aa2acda12d494"), looks := true }, kinds := [], alts := [], laidByText := true, laidKinds := [.data, .data, .data, .data, .sentinel, .sentinel, .pinned], laidTests := true, laidLooks := .later }
def HullShipsUptoCardSaid : Prop := Claim7.holds Tryz.pinned (.plain (OpenSpec.upto hullShipsSpec)) hullShipsUptoCard

/-- THE SECOND FORM's CARD OF 'orloplaw01.HullPlans'. -/
def hullPlansUptoCard : Claim7 := { stood := { row := hullPlansUptoRow, standIns := [], harness := (true, "a3949665c74d51e86dfb14983233cebe873ebf68299183dbc28aa2acda12d494"), looks := true }, kinds := [], alts := [], laidByText := true, laidKinds := [.data, .data, .data, .data, .sentinel, .sentinel, .pinned], laidTests := true, laidLooks := .later }
def HullPlansUptoCardSaid : Prop := Claim7.holds Tryz.pinned (.plain (OpenSpec.upto hullPlansSpec)) hullPlansUptoCard

/-- THE SECOND FORM's CARD OF 'orloplaw01.HullTexts'. -/
def hullTextsUptoCard : Claim7 := { stood := { row := hullTextsUptoRow, standIns := [], harness := (true, "a3949665c74d51e86dfb14983233cebe873ebf68299183dbc28aa2acda12d494"), looks := true }, kinds := [], alts := [], laidByText := true, laidKinds := [.data, .data, .data, .data, .sentinel, .sentinel, .pinned], laidTests := true, laidLooks := .later }
def HullTextsUptoCardSaid : Prop := Claim7.holds Tryz.pinned (.plain (OpenSpec.upto hullTextsSpec)) hullTextsUptoCard

/-- THE SECOND FORM's CARD OF 'orloplaw01.HullKnown'. -/
def hullKnownUptoCard : Claim7 := { stood := { row := hullKnownUptoRow, standIns := [], harness := (true, "a3949665c74d51e86dfb14983233cebe873ebf68299183dbc28aa2acda12d494"), looks := true }, kinds := [], alts := [], laidByText := true, laidKinds := [.data, .data, .data, .data, .sentinel, .sentinel, .pinned], laidTests := true, laidLooks := .later }
def HullKnownUptoCardSaid : Prop := Claim7.holds Tryz.pinned (.plain (OpenSpec.upto hullKnownSpec)) hullKnownUptoCard

/-- THE SECOND FORM's CARD OF 'orloplaw01.HullTrue'. -/
def hullTrueUptoCard : Claim7 := { stood := { row := hullTrueUptoRow, standIns := [], harness := (true, "a3949665c74d51e86dfb14983233cebe873ebf68299183dbc28aa2acda12d494"), looks := true }, kinds := [], alts := [], laidByText := true, laidKinds := [.data, .data, .data, .data, .sentinel, .sentinel, .pinned], laidTests := true, laidLooks := .later }
def HullTrueUptoCardSaid : Prop := Claim7.holds Tryz.pinned (.plain (OpenSpec.upto hullTrueSpec)) hullTrueUptoCard

/-- THE SECOND FORM's CARD OF 'orloplaw01.HullAsks'. -/
def hullAsksUptoCard : Claim7 := { stood := { row := hullAsksUptoRow, standIns := [], harness := (true, "a3949665c74d51e86dfb14983233cebe873ebf68299183dbc28aa2acda12d494"), looks := true }, kinds := [], alts := [], laidByText := true, laidKinds := [.data, .data, .data, .data, .sentinel, .sentinel, .pinned], laidTests := true, laidLooks := .later }
def HullAsksUptoCardSaid : Prop := Claim7.holds Tryz.pinned (.plain (OpenSpec.upto hullAsksSpec)) hullAsksUptoCard

/-- THE SECOND FORM's CARD OF 'orloplaw01.HullWeighs'. -/
def hullWeighsUptoCard : Claim7 := { stood := { row := hullWeighsUptoRow, standIns := [], harness := (true, "a3949665c74d51e86dfb14983233cebe873ebf68299183dbc28aa2acda12d494"), looks := true }, kinds := [], alts := [], laidByText := true, laidKinds := [.data, .data, .data, .data, .sentinel, .sentinel, .pinned], laidTests := true, laidLooks := .later }
def HullWeighsUptoCardSaid : Prop := Claim7.holds Tryz.pinned (.plain (OpenSpec.upto hullWeighsSpec)) hullWeighsUptoCard

/-- THE SECOND FORM's CARD OF 'orloplaw01.HullStands'. -/
def hullStandsUptoCard : Claim7 := { stood := { row := hullStandsUptoRow, standIns := [], harness := (true, "a3949665c74d51e86dfb14983233cebe873ebf68299183dbc28aa2acda12d494"), looks := true }, kinds := [], alts := [], laidByText := true, laidKinds := [.data, .data, .data, .data, .sentinel, .sentinel, .pinned], laidTests := true, laidLooks := .later }
def HullStandsUptoCardSaid : Prop := Claim7.holds Tryz.pinned (.plain (OpenSpec.upto hullStandsSpec)) hullStandsUptoCard

/-- THE SECOND FORM's CARD OF 'orloplaw01.HullSteps'. -/
def hullStepsUptoCard : Claim7 := { stood := { row := hullStepsUptoRow, standIns := [], harness := (true, "a3949665c74d51e86dfb14983233cebe873ebf68299183dbc28aa2acda12d494"), looks := true }, kinds := [], alts := [], laidByText := true, laidKinds := [.data, .data, .data, .data, .sentinel, .sentinel, .pinned], laidTests := true, laidLooks := .later }
def HullStepsUptoCardSaid : Prop := Claim7.holds Tryz.pinned (.plain (OpenSpec.upto hullStepsSpec)) hullStepsUptoCard

/-- THE SECOND FORM's CARD OF 'orloplaw01.HullDiffers'. -/
def hullDiffersUptoCard : Claim7 := { stood := { row := hullDiffersUptoRow, standIns := [], harness := (true, "a3949665c74d51e86dfb14983233cebe873ebf68299183dbc28aa2acda12d494"), looks := true }, kinds := [], alts := [], laidByText := true, laidKinds := [.data, .data, .data, .data, .sentinel, .sentinel, .pinned], laidTests := true, laidLooks := .later }
def HullDiffersUptoCardSaid : Prop := Claim7.holds Tryz.pinned (.plain (OpenSpec.upto hullDiffersSpec)) hullDiffersUptoCard

/-- THE SECOND FORM's CARD OF 'orloplaw01.HullOrder'. -/
def hullOrderUptoCard : Claim7 := { stood := { row := hullOrderUptoRow, standIns := [], harness := (true, "a3949665c74d51e86dfb14983233cebe873ebf68299183dbc28aa2acda12d494"), looks := true }, kinds := [], alts := [], laidByText := true, laidKinds := [.data, .data, .data, .data, .sentinel, .sentinel, .pinned], laidTests := true, laidLooks := .later }
def HullOrderUptoCardSaid : Prop := Claim7.holds Tryz.pinned (.plain (OpenSpec.upto hullOrderSpec)) hullOrderUptoCard

/-- THE SECOND FORM's CARD OF 'orloplaw01.HullRound'. -/
def hullRoundUptoCard : Claim7 := { stood := { row := hullRoundUptoRow, standIns := [], harness := (true, "a3949665c74d51e86dfb14983233cebe873ebf68299183dbc28aa2acda12d494"), looks := true }, kinds := [], alts := [], laidByText := true, laidKinds := [.data, .data, .data, .data, .sentinel, .sentinel, .pinned], laidTests := true, laidLooks := .later }
def HullRoundUptoCardSaid : Prop := Claim7.holds Tryz.pinned (.plain (OpenSpec.upto hullRoundSpec)) hullRoundUptoCard
end Rows
end Go.Proofs.YthhmdhiiicipkaaGreatDoor
