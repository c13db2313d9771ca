/-
  DERIVED. GIVEN WITH THE SEED: THE CARDS: each row of YtmjfcbpgnmajpaaGreatDoorRows.lean that lists a variable, with what it lists TIED to the program's text (the seventh form; the later family's looks); each row that meets fmt, with fmt's text TOLD by the authors' own Lean function (tested against real Go, not proved from fmt's source: count such statements apart). THE CARD IS WHAT COUNTS. Prove the row's statement (the work); the ties are given (YtmjfcbpgnmajpaaGreatDoorTie.lean); close each card by the builder's one call (the guide's Derived/Test/ToyasCard.lean, 'card_holds'). Laid BY PROGRAM, IN A SANDBOX (cutbox-door.mjs). By AI agents, Wed Nov 11 2026. No macro, syntax, notation, axiom, sorry.
-/
import Derived.Test.YtmjfcbpgnmajpaaGreatDoorRows
import GoSem.ClaimSeven
namespace Go.Proofs.YtmjfcbpgnmajpaaGreatDoor
namespace Rows

/-- THE TIED CARD OF 'orloplaw06.CutBads'. -/
def cutBadsCard : Claim7 := { stood := { row := cutBadsRow, standIns := [], harness := (true, "d1481c67644dfec0fe9e97f8892aacf0955c9f86bef1a2f0f3e74ec7de60f51d"), looks := true }, kinds := [], alts := [], laidByText := true, laidKinds := [.data, .data], laidTests := true, laidLooks := .later }
def CutBadsCardSaid : Prop := Claim7.holds Tryz.pinned (.plain (OpenSpec.ofChange cutBadsSpec)) cutBadsCard

/-- THE TIED CARD OF 'orloplaw06.CutOrders'. -/
def cutOrdersCard : Claim7 := { stood := { row := cutOrdersRow, standIns := [], harness := (true, "d1481c67644dfec0fe9e97f8892aacf0955c9f86bef1a2f0f3e74ec7de60f51d"), looks := true }, kinds := [], alts := [], laidByText := true, laidKinds := [.data, .data], laidTests := true, laidLooks := .later }
def CutOrdersCardSaid : Prop := Claim7.holds Tryz.pinned (.plain (OpenSpec.ofChange cutOrdersSpec)) cutOrdersCard

/-- THE TIED CARD OF 'orloplaw06.CutProofs'. -/
def cutProofsCard : Claim7 := { stood := { row := cutProofsRow, standIns := [], harness := (true, "d1481c67644dfec0fe9e97f8892aacf0955c9f86bef1a2f0f3e74ec7de60f51d"), looks := true }, kinds := [], alts := [], laidByText := true, laidKinds := [.data, .data], laidTests := true, laidLooks := .later }
def CutProofsCardSaid : Prop := Claim7.holds Tryz.pinned (.plain (OpenSpec.ofChange cutProofsSpec)) cutProofsCard

/-- THE TIED CARD OF 'orloplaw06.CutKnown'. -/
def cutKnownCard : Claim7 := { stood := { row := cutKnownRow, standIns := [], harness := (true, "d1481c67644dfec0fe9e97f8892aacf0955c9f86bef1a2f0f3e74ec7de60f51d"), looks := true }, kinds := [], alts := [], laidByText := true, laidKinds := [.data, .data], laidTests := true, laidLooks := .later }
def CutKnownCardSaid : Prop := Claim7.holds Tryz.pinned (.plain (OpenSpec.ofChange cutKnownSpec)) cutKnownCard

/-- THE TIED CARD OF 'orloplaw06.CutTrue'. -/
def cutTrueCard : Claim7 := { stood := { row := cutTrueRow, standIns := [], harness := (true, "d1481c67644dfec0fe9e97f8892aacf0955c9f86bef1a2f0f3e74ec7de60f51d"), looks := true }, kinds := [], alts := [], laidByText := true, laidKinds := [.data, .data], laidTests := true, laidLooks := .later }
def CutTrueCardSaid : Prop := Claim7.holds Tryz.pinned (.plain (OpenSpec.ofChange cutTrueSpec)) cutTrueCard

/-- THE TIED CARD OF 'orloplaw06.CutNone'. -/
def cutNoneCard : Claim7 := { stood := { row := cutNoneRow, standIns := [], harness := (true, "d1481c67644dfec0fe9e97f8892aacf0955c9f86bef1a2f0f3e74ec7de60f51d"), looks := true }, kinds := [], alts := [], laidByText := true, laidKinds := [.data, .data], laidTests := true, laidLooks := .later }
def CutNoneCardSaid : Prop := Claim7.holds Tryz.pinned (.plain (OpenSpec.ofChange cutNoneSpec)) cutNoneCard

/-- THE TIED CARD OF 'orloplaw06.CutLater'. -/
def cutLaterCard : Claim7 := { stood := { row := cutLaterRow, standIns := [], harness := (true, "d1481c67644dfec0fe9e97f8892aacf0955c9f86bef1a2f0f3e74ec7de60f51d"), looks := true }, kinds := [], alts := [], laidByText := true, laidKinds := [.data, .data], laidTests := true, laidLooks := .later }
def CutLaterCardSaid : Prop := Claim7.holds Tryz.pinned (.plain (OpenSpec.ofChange cutLaterSpec)) cutLaterCard

/-- THE TIED CARD OF 'orloplaw06.CutMost'. -/
def cutMostCard : Claim7 := { stood := { row := cutMostRow, standIns := [], harness := (true, "d1481c67644dfec0fe9e97f8892aacf0955c9f86bef1a2f0f3e74ec7de60f51d"), looks := true }, kinds := [], alts := [], laidByText := true, laidKinds := [.data, .data], laidTests := true, laidLooks := .later }
def CutMostCardSaid : Prop := Claim7.holds Tryz.pinned (.plain (OpenSpec.ofChange cutMostSpec)) cutMostCard

/-- THE TIED CARD OF 'orloplaw06.CutTo'. -/
def cutToCard : Claim7 := { stood := { row := cutToRow, standIns := [], harness := (true, "d1481c67644dfec0fe9e97f8892aacf0955c9f86bef1a2f0f3e74ec7de60f51d"), looks := true }, kinds := [], alts := [], laidByText := true, laidKinds := [.data, .data], laidTests := true, laidLooks := .later }
def CutToCardSaid : Prop := Claim7.holds Tryz.pinned (.plain (OpenSpec.ofChange cutToSpec)) cutToCard

/-- THE TIED CARD OF 'orloplaw06.CutEasier'. -/
def cutEasierCard : Claim7 := { stood := { row := cutEasierRow, standIns := [], harness := (true, "d1481c67644dfec0fe9e97f8892aacf0955c9f86bef1a2f0f3e74ec7de60f51d"), looks := true }, kinds := [], alts := [], laidByText := true, laidKinds := [.data, .data], laidTests := true, laidLooks := .later }
def CutEasierCardSaid : Prop := Claim7.holds Tryz.pinned (.plain (OpenSpec.ofChange cutEasierSpec)) cutEasierCard

/-- THE TIED CARD OF 'orloplaw06.CutAbove'. -/
def cutAboveCard : Claim7 := { stood := { row := cutAboveRow, standIns := [], harness := (true, "d1481c67644dfec0fe9e97f8892aacf0955c9f86bef1a2f0f3e74ec7de60f51d"), looks := true }, kinds := [], alts := [], laidByText := true, laidKinds := [.data, .data], laidTests := true, laidLooks := .later }
def CutAboveCardSaid : Prop := Claim7.holds Tryz.pinned (.plain (OpenSpec.ofChange cutAboveSpec)) cutAboveCard

/-- THE SECOND FORM's CARD OF 'orloplaw06.CutBads'. -/
def cutBadsUptoCard : Claim7 := { stood := { row := cutBadsUptoRow, standIns := [], harness := (true, "d1481c67644dfec0fe9e97f8892aacf0955c9f86bef1a2f0f3e74ec7de60f51d"), looks := true }, kinds := [], alts := [], laidByText := true, laidKinds := [.data, .data], laidTests := true, laidLooks := .later }
def CutBadsUptoCardSaid : Prop := Claim7.holds Tryz.pinned (.plain (OpenSpec.upto cutBadsSpec)) cutBadsUptoCard

/-- THE SECOND FORM's CARD OF 'orloplaw06.CutOrders'. -/
def cutOrdersUptoCard : Claim7 := { stood := { row := cutOrdersUptoRow, standIns := [], harness := (true, "d1481c67644dfec0fe9e97f8892aacf0955c9f86bef1a2f0f3e74ec7de60f51d"), looks := true }, kinds := [], alts := [], laidByText := true, laidKinds := [.data, .data], laidTests := true, laidLooks := .later }
def CutOrdersUptoCardSaid : Prop := Claim7.holds Tryz.pinned (.plain (OpenSpec.upto cutOrdersSpec)) cutOrdersUptoCard

/-- THE SECOND FORM's CARD OF 'orloplaw06.CutProofs'. -/
def cutProofsUptoCard : Claim7 := { stood := { row := cutProofsUptoRow, standIns := [], harness := (true, "d1481c67644dfec0fe9e97f8892aacf0955c9f86bef1a2f0f3e74ec7de60f51d"), looks := true }, kinds := [], alts := [], laidByText := true, laidKinds := [.data, .data], laidTests := true, laidLooks := .later }
def CutProofsUptoCardSaid : Prop := Claim7.holds Tryz.pinned (.plain (OpenSpec.upto cutProofsSpec)) cutProofsUptoCard

/-- THE SECOND FORM's CARD OF 'orloplaw06.CutKnown'. -/
def cutKnownUptoCard : Claim7 := { stood := { row := cutKnownUptoRow, standIns := [], harness := (true, "d1481c67644dfec0fe9e97f8892aacf0955c9f86bef1a2f0f3e74ec7de60f51d"), looks := true }, kinds := [], alts := [], laidByText := true, laidKinds := [.data, .data], laidTests := true, laidLooks := .later }
def CutKnownUptoCardSaid : Prop := Claim7.holds Tryz.pinned (.plain (OpenSpec.upto cutKnownSpec)) cutKnownUptoCard

/-- THE SECOND FORM's CARD OF 'orloplaw06.CutTrue'. -/
def cutTrueUptoCard : Claim7 := { stood := { row := cutTrueUptoRow, standIns := [], harness := (true, "d1481c67644dfec0fe9e97f8892aacf0955c9f86bef1a2f0f3e74ec7de60f51d"), looks := true }, kinds := [], alts := [], laidByText := true, laidKinds := [.data, .data], laidTests := true, laidLooks := .later }
def CutTrueUptoCardSaid : Prop := Claim7.holds Tryz.pinned (.plain (OpenSpec.upto cutTrueSpec)) cutTrueUptoCard

/-- THE SECOND FORM's CARD OF 'orloplaw06.CutNone'. -/
def cutNoneUptoCard : Claim7 := { stood := { row := cutNoneUptoRow, standIns := [], harness := (true, "d1481c67644dfec0fe9e97f8892aacf0955c9f86bef1a2f0f3e74ec7de60f51d"), looks := true }, kinds := [], alts := [], laidByText := true, laidKinds := [.data, .data], laidTests := true, laidLooks := .later }
def CutNoneUptoCardSaid : Prop := Claim7.holds Tryz.pinned (.plain (OpenSpec.upto cutNoneSpec)) cutNoneUptoCard

/-- THE SECOND FORM's CARD OF 'orloplaw06.CutLater'. -/
def cutLaterUptoCard : Claim7 := { stood := { row := cutLaterUptoRow, standIns := [], harness := (true, "d1481c67644dfec0fe9e97f8892aacf0955c9f86bef1a2f0f3e74ec7de60f51d"), looks := true }, kinds := [], alts := [], laidByText := true, laidKinds := [.data, .data], laidTests := true, laidLooks := .later }
def CutLaterUptoCardSaid : Prop := Claim7.holds Tryz.pinned (.plain (OpenSpec.upto cutLaterSpec)) cutLaterUptoCard

/-- THE SECOND FORM's CARD OF 'orloplaw06.CutMost'. -/
def cutMostUptoCard : Claim7 := { stood := { row := cutMostUptoRow, standIns := [], harness := (true, "d1481c67644dfec0fe9e97f8892aacf0955c9f86bef1a2f0f3e74ec7de60f51d"), looks := true }, kinds := [], alts := [], laidByText := true, laidKinds := [.data, .data], laidTests := true, laidLooks := .later }
def CutMostUptoCardSaid : Prop := Claim7.holds Tryz.pinned (.plain (OpenSpec.upto cutMostSpec)) cutMostUptoCard

/-- THE SECOND FORM's CARD OF 'orloplaw06.CutTo'. -/
def cutToUptoCard : Claim7 := { stood := { row := cutToUptoRow, standIns := [], harness := (true, "d1481c67644dfec0fe9e97f8892aacf0955c9f86bef1a2f0f3e74ec7de60f51d"), looks := true }, kinds := [], alts := [], laidByText := true, laidKinds := [.data, .data], laidTests := true, laidLooks := .later }
def CutToUptoCardSaid : Prop := Claim7.holds Tryz.pinned (.plain (OpenSpec.upto cutToSpec)) cutToUptoCard

/-- THE SECOND FORM's CARD OF 'orloplaw06.CutEasier'. -/
def cutEasierUptoCard : Claim7 := { stood := { row := cutEasierUptoRow, standIns := [], harness := (true, "d1481c67644dfec0fe9e97f8892aacf0955c9f86bef1a2f0f3e74ec7de60f51d"), looks := true }, kinds := [], alts := [], laidByText := true, laidKinds := [.data, .data], laidTests := true, laidLooks := .later }
def CutEasierUptoCardSaid : Prop := Claim7.holds Tryz.pinned (.plain (OpenSpec.upto cutEasierSpec)) cutEasierUptoCard

/-- THE SECOND FORM's CARD OF 'orloplaw06.CutAbove'. -/
def cutAboveUptoCard : Claim7 := { stood := { row := cutAboveUptoRow, standIns := [], harness := (true, "d1481c67644dfec0fe9e97f8892aacf0955c9f86bef1a2f0f3e74ec7de60f51d"), looks := true }, kinds := [], alts := [], laidByText := true, laidKinds := [.data, .data], laidTests := true, laidLooks := .later }
def CutAboveUptoCardSaid : Prop := Claim7.holds Tryz.pinned (.plain (OpenSpec.upto cutAboveSpec)) cutAboveUptoCard
end Rows
end Go.Proofs.YtmjfcbpgnmajpaaGreatDoor
