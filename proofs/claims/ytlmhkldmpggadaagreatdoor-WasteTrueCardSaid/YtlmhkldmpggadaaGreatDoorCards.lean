/-
  DERIVED. GIVEN WITH THE SEED: THE CARDS: each row of YtlmhkldmpggadaaGreatDoorRows.lean that lists a variable, with what it lists TIED to the program's text (the seventh form; the later family's looks); each row that meets fmt, with fmt's text TOLD by the authors' own Lean function (tested against real Go, not proved from fmt's source: count such statements apart). THE CARD IS WHAT COUNTS. Prove the row's statement (the work); the ties are given (YtlmhkldmpggadaaGreatDoorTie.lean); close each card by the builder's one call (the guide's Derived/Test/ToyasCard.lean, 'card_holds'). Laid BY PROGRAM, IN A SANDBOX (cutbox-door.mjs). By AI agents, Wed Nov 11 2026. No macro, syntax, notation, axiom, sorry.
-/
import Derived.Test.YtlmhkldmpggadaaGreatDoorRows
import GoSem.ClaimSeven
namespace Go.Proofs.YtlmhkldmpggadaaGreatDoor
namespace Rows

/-- THE TIED CARD OF 'orloplaw09.WasteCloses'. -/
def wasteClosesCard : Claim7 := { stood := { row := wasteClosesRow, standIns := [], harness := (true, "5bc3faa6160b5a58fe760d55f3f1ad8ffc83f06cb82652ccd14f10a936d27600"), looks := true }, kinds := [], alts := [], laidByText := true, laidKinds := [.data, .data, .data, .data, .sentinel, .sentinel, .pinned], laidTests := true, laidLooks := .later }
def WasteClosesCardSaid : Prop := Claim7.holds Tryz.pinned (.plain (OpenSpec.ofChange wasteClosesSpec)) wasteClosesCard

/-- THE TIED CARD OF 'orloplaw09.WasteFalses'. -/
def wasteFalsesCard : Claim7 := { stood := { row := wasteFalsesRow, standIns := [], harness := (true, "5bc3faa6160b5a58fe760d55f3f1ad8ffc83f06cb82652ccd14f10a936d27600"), looks := true }, kinds := [], alts := [], laidByText := true, laidKinds := [.data, .data, .data, .data, .sentinel, .sentinel, .pinned], laidTests := true, laidLooks := .later }
def WasteFalsesCardSaid : Prop := Claim7.holds Tryz.pinned (.plain (OpenSpec.ofChange wasteFalsesSpec)) wasteFalsesCard

/-- THE TIED CARD OF 'orloplaw09.WasteRanges'. -/
def wasteRangesCard : Claim7 := { stood := { row := wasteRangesRow, standIns := [], harness := (true, "5bc3faa6160b5a58fe760d55f3f1ad8ffc83f06cb82652ccd14f10a936d27600"), looks := true }, kinds := [], alts := [], laidByText := true, laidKinds := [.data, .data, .data, .data, .sentinel, .sentinel, .pinned], laidTests := true, laidLooks := .later }
def WasteRangesCardSaid : Prop := Claim7.holds Tryz.pinned (.plain (OpenSpec.ofChange wasteRangesSpec)) wasteRangesCard

/-- THE TIED CARD OF 'orloplaw09.WasteTexts'. -/
def wasteTextsCard : Claim7 := { stood := { row := wasteTextsRow, standIns := [], harness := (true, "5bc3faa6160b5a58fe760d55f3f1ad8ffc83f06cb82652ccd14f10a936d27600"), looks := true }, kinds := [], alts := [], laidByText := true, laidKinds := [.data, .data, .data, .data, .sentinel, .sentinel, .pinned], laidTests := true, laidLooks := .later }
def WasteTextsCardSaid : Prop := Claim7.holds Tryz.pinned (.plain (OpenSpec.ofChange wasteTextsSpec)) wasteTextsCard

/-- THE TIED CARD OF 'orloplaw09.WasteKnown'. -/
def wasteKnownCard : Claim7 := { stood := { row := wasteKnownRow, standIns := [], harness := (true, "5bc3faa6160b5a58fe760d55f3f1ad8ffc83f06cb82652ccd14f10a936d27600"), looks := true }, kinds := [], alts := [], laidByText := true, laidKinds := [.data, .data, .data, .data, .sentinel, .sentinel, .pinned], laidTests := true, laidLooks := .later }
def WasteKnownCardSaid : Prop := Claim7.holds Tryz.pinned (.plain (OpenSpec.ofChange wasteKnownSpec)) wasteKnownCard

/-- THE TIED CARD OF 'orloplaw09.WasteTrue'. -/
def wasteTrueCard : Claim7 := { stood := { row := wasteTrueRow, standIns := [], harness := (true, "5bc3faa6160b5a58fe760d55f3f1ad8ffc83f06cb82652ccd14f10a936d27600"), looks := true }, kinds := [], alts := [], laidByText := true, laidKinds := [.data, .data, .data, .data, .sentinel, .sentinel, .pinned], laidTests := true, laidLooks := .later }
def WasteTrueCardSaid : Prop := Claim7.holds Tryz.pinned (.plain (OpenSpec.ofChange wasteTrueSpec)) wasteTrueCard

/-- THE TIED CARD OF 'orloplaw09.WasteFewest'. -/
def wasteFewestCard : Claim7 := { stood := { row := wasteFewestRow, standIns := [], harness := (true, "5bc3faa6160b5a58fe760d55f3f1ad8ffc83f06cb82652ccd14f10a936d27600"), looks := true }, kinds := [], alts := [], laidByText := true, laidKinds := [.data, .data, .data, .data, .sentinel, .sentinel, .pinned], laidTests := true, laidLooks := .later }
def WasteFewestCardSaid : Prop := Claim7.holds Tryz.pinned (.plain (OpenSpec.ofChange wasteFewestSpec)) wasteFewestCard

/-- THE TIED CARD OF 'orloplaw09.WasteMust'. -/
def wasteMustCard : Claim7 := { stood := { row := wasteMustRow, standIns := [], harness := (true, "5bc3faa6160b5a58fe760d55f3f1ad8ffc83f06cb82652ccd14f10a936d27600"), looks := true }, kinds := [], alts := [], laidByText := true, laidKinds := [.data, .data, .data, .data, .sentinel, .sentinel, .pinned], laidTests := true, laidLooks := .later }
def WasteMustCardSaid : Prop := Claim7.holds Tryz.pinned (.plain (OpenSpec.ofChange wasteMustSpec)) wasteMustCard

/-- THE TIED CARD OF 'orloplaw09.WasteProved'. -/
def wasteProvedCard : Claim7 := { stood := { row := wasteProvedRow, standIns := [], harness := (true, "5bc3faa6160b5a58fe760d55f3f1ad8ffc83f06cb82652ccd14f10a936d27600"), looks := true }, kinds := [], alts := [], laidByText := true, laidKinds := [.data, .data, .data, .data, .sentinel, .sentinel, .pinned], laidTests := true, laidLooks := .later }
def WasteProvedCardSaid : Prop := Claim7.holds Tryz.pinned (.plain (OpenSpec.ofChange wasteProvedSpec)) wasteProvedCard

/-- THE TIED CARD OF 'orloplaw09.WasteMore'. -/
def wasteMoreCard : Claim7 := { stood := { row := wasteMoreRow, standIns := [], harness := (true, "5bc3faa6160b5a58fe760d55f3f1ad8ffc83f06cb82652ccd14f10a936d27600"), looks := true }, kinds := [], alts := [], laidByText := true, laidKinds := [.data, .data, .data, .data, .sentinel, .sentinel, .pinned], laidTests := true, laidLooks := .later }
def WasteMoreCardSaid : Prop := Claim7.holds Tryz.pinned (.plain (OpenSpec.ofChange wasteMoreSpec)) wasteMoreCard

/-- THE TIED CARD OF 'orloplaw09.WasteReached'. -/
def wasteReachedCard : Claim7 := { stood := { row := wasteReachedRow, standIns := [], harness := (true, "5bc3faa6160b5a58fe760d55f3f1ad8ffc83f06cb82652ccd14f10a936d27600"), looks := true }, kinds := [], alts := [], laidByText := true, laidKinds := [.data, .data, .data, .data, .sentinel, .sentinel, .pinned], laidTests := true, laidLooks := .later }
def WasteReachedCardSaid : Prop := Claim7.holds Tryz.pinned (.plain (OpenSpec.ofChange wasteReachedSpec)) wasteReachedCard

/-- THE TIED CARD OF 'orloplaw09.WasteKept'. -/
def wasteKeptCard : Claim7 := { stood := { row := wasteKeptRow, standIns := [], harness := (true, "5bc3faa6160b5a58fe760d55f3f1ad8ffc83f06cb82652ccd14f10a936d27600"), looks := true }, kinds := [], alts := [], laidByText := true, laidKinds := [.data, .data, .data, .data, .sentinel, .sentinel, .pinned], laidTests := true, laidLooks := .later }
def WasteKeptCardSaid : Prop := Claim7.holds Tryz.pinned (.plain (OpenSpec.ofChange wasteKeptSpec)) wasteKeptCard

/-- THE TIED CARD OF 'orloplaw09.WasteRound'. -/
def wasteRoundCard : Claim7 := { stood := { row := wasteRoundRow, standIns := [], harness := (true, "5bc3faa6160b5a58fe760d55f3f1ad8ffc83f06cb82652ccd14f10a936d27600"), looks := true }, kinds := [], alts := [], laidByText := true, laidKinds := [.data, .data, .data, .data, .sentinel, .sentinel, .pinned], laidTests := true, laidLooks := .later }
def WasteRoundCardSaid : Prop := Claim7.holds Tryz.pinned (.plain (OpenSpec.ofChange wasteRoundSpec)) wasteRoundCard

/-- THE SECOND FORM's CARD OF 'orloplaw09.WasteCloses'. -/
def wasteClosesUptoCard : Claim7 := { stood := { row := wasteClosesUptoRow, standIns := [], harness := (true, "5bc3faa6160b5a58fe760d55f3f1ad8ffc83f06cb82652ccd14f10a936d27600"), looks := true }, kinds := [], alts := [], laidByText := true, laidKinds := [.data, .data, .data, .data, .sentinel, .sentinel, .pinned], laidTests := true, laidLooks := .later }
def WasteClosesUptoCardSaid : Prop := Claim7.holds Tryz.pinned (.plain (OpenSpec.upto wasteClosesSpec)) wasteClosesUptoCard

/-- THE SECOND FORM's CARD OF 'orloplaw09.WasteFalses'. -/
def wasteFalsesUptoCard : Claim7 := { stood := { row := wasteFalsesUptoRow, standIns := [], harness := (true, "5bc3faa6160b5a58fe760d55f3f1ad8ffc83f06cb82652ccd14f10a936d27600"), looks := true }, kinds := [], alts := [], laidByText := true, laidKinds := [.data, .data, .data, .data, .sentinel, .sentinel, .pinned], laidTests := true, laidLooks := .later }
def WasteFalsesUptoCardSaid : Prop := Claim7.holds Tryz.pinned (.plain (OpenSpec.upto wasteFalsesSpec)) wasteFalsesUptoCard

/-- THE SECOND FORM's CARD OF 'orloplaw09.WasteRanges'. -/
def wasteRangesUptoCard : Claim7 := { stood := { row := wasteRangesUptoRow, standIns := [], harness := (true, "5bc3faa6160b5a58fe760d55f3f1ad8ffc83f06cb82652ccd14f10a936d27600"), looks := true }, kinds := [], alts := [], laidByText := true, laidKinds := [.data, .data, .data, .data, .sentinel, .sentinel, .pinned], laidTests := true, laidLooks := .later }
def WasteRangesUptoCardSaid : Prop := Claim7.holds Tryz.pinned (.plain (OpenSpec.upto wasteRangesSpec)) wasteRangesUptoCard

/-- THE SECOND FORM's CARD OF 'orloplaw09.WasteTexts'. -/
def wasteTextsUptoCard : Claim7 := { stood := { row := wasteTextsUptoRow, standIns := [], harness := (true, "5bc3faa6160b5a58fe760d55f3f1ad8ffc83f06cb82652ccd14f10a936d27600"), looks := true }, kinds := [], alts := [], laidByText := true, laidKinds := [.data, .data, .data, .data, .sentinel, .sentinel, .pinned], laidTests := true, laidLooks := .later }
def WasteTextsUptoCardSaid : Prop := Claim7.holds Tryz.pinned (.plain (OpenSpec.upto wasteTextsSpec)) wasteTextsUptoCard

/-- THE SECOND FORM's CARD OF 'orloplaw09.WasteKnown'. -/
def wasteKnownUptoCard : Claim7 := { stood := { row := wasteKnownUptoRow, standIns := [], harness := (true, "5bc3faa6160b5a58fe760d55f3f1ad8ffc83f06cb82652ccd14f10a936d27600"), looks := true }, kinds := [], alts := [], laidByText := true, laidKinds := [.data, .data, .data, .data, .sentinel, .sentinel, .pinned], laidTests := true, laidLooks := .later }
def WasteKnownUptoCardSaid : Prop := Claim7.holds Tryz.pinned (.plain (OpenSpec.upto wasteKnownSpec)) wasteKnownUptoCard

/-- THE SECOND FORM's CARD OF 'orloplaw09.WasteTrue'. -/
def wasteTrueUptoCard : Claim7 := { stood := { row := wasteTrueUptoRow, standIns := [], harness := (true, "5bc3faa6160b5a58fe760d55f3f1ad8ffc83f06cb82652ccd14f10a936d27600"), looks := true }, kinds := [], alts := [], laidByText := true, laidKinds := [.data, .data, .data, .data, .sentinel, .sentinel, .pinned], laidTests := true, laidLooks := .later }
def WasteTrueUptoCardSaid : Prop := Claim7.holds Tryz.pinned (.plain (OpenSpec.upto wasteTrueSpec)) wasteTrueUptoCard

/-- THE SECOND FORM's CARD OF 'orloplaw09.WasteFewest'. -/
def wasteFewestUptoCard : Claim7 := { stood := { row := wasteFewestUptoRow, standIns := [], harness := (true, "5bc3faa6160b5a58fe760d55f3f1ad8ffc83f06cb82652ccd14f10a936d27600"), looks := true }, kinds := [], alts := [], laidByText := true, laidKinds := [.data, .data, .data, .data, .sentinel, .sentinel, .pinned], laidTests := true, laidLooks := .later }
def WasteFewestUptoCardSaid : Prop := Claim7.holds Tryz.pinned (.plain (OpenSpec.upto wasteFewestSpec)) wasteFewestUptoCard

/-- THE SECOND FORM's CARD OF 'orloplaw09.WasteMust'. -/
def wasteMustUptoCard : Claim7 := { stood := { row := wasteMustUptoRow, standIns := [], harness := (true, "5bc3faa6160b5a58fe760d55f3f1ad8ffc83f06cb82652ccd14f10a936d27600"), looks := true }, kinds := [], alts := [], laidByText := true, laidKinds := [.data, .data, .data, .data, .sentinel, .sentinel, .pinned], laidTests := true, laidLooks := .later }
def WasteMustUptoCardSaid : Prop := Claim7.holds Tryz.pinned (.plain (OpenSpec.upto wasteMustSpec)) wasteMustUptoCard

/-- THE SECOND FORM's CARD OF 'orloplaw09.WasteProved'. -/
def wasteProvedUptoCard : Claim7 := { stood := { row := wasteProvedUptoRow, standIns := [], harness := (true, "5bc3faa6160b5a58fe760d55f3f1ad8ffc83f06cb82652ccd14f10a936d27600"), looks := true }, kinds := [], alts := [], laidByText := true, laidKinds := [.data, .data, .data, .data, .sentinel, .sentinel, .pinned], laidTests := true, laidLooks := .later }
def WasteProvedUptoCardSaid : Prop := Claim7.holds Tryz.pinned (.plain (OpenSpec.upto wasteProvedSpec)) wasteProvedUptoCard

/-- THE SECOND FORM's CARD OF 'orloplaw09.WasteMore'. -/
def wasteMoreUptoCard : Claim7 := { stood := { row := wasteMoreUptoRow, standIns := [], harness := (true, "5bc3faa6160b5a58fe760d55f3f1ad8ffc83f06cb82652ccd14f10a936d27600"), looks := true }, kinds := [], alts := [], laidByText := true, laidKinds := [.data, .data, .data, .data, .sentinel, .sentinel, .pinned], laidTests := true, laidLooks := .later }
def WasteMoreUptoCardSaid : Prop := Claim7.holds Tryz.pinned (.plain (OpenSpec.upto wasteMoreSpec)) wasteMoreUptoCard

/-- THE SECOND FORM's CARD OF 'orloplaw09.WasteReached'. -/
def wasteReachedUptoCard : Claim7 := { stood := { row := wasteReachedUptoRow, standIns := [], harness := (true, "5bc3faa6160b5a58fe760d55f3f1ad8ffc83f06cb82652ccd14f10a936d27600"), looks := true }, kinds := [], alts := [], laidByText := true, laidKinds := [.data, .data, .data, .data, .sentinel, .sentinel, .pinned], laidTests := true, laidLooks := .later }
def WasteReachedUptoCardSaid : Prop := Claim7.holds Tryz.pinned (.plain (OpenSpec.upto wasteReachedSpec)) wasteReachedUptoCard

/-- THE SECOND FORM's CARD OF 'orloplaw09.WasteKept'. -/
def wasteKeptUptoCard : Claim7 := { stood := { row := wasteKeptUptoRow, standIns := [], harness := (true, "5bc3faa6160b5a58fe760d55f3f1ad8ffc83f06cb82652ccd14f10a936d27600"), looks := true }, kinds := [], alts := [], laidByText := true, laidKinds := [.data, .data, .data, .data, .sentinel, .sentinel, .pinned], laidTests := true, laidLooks := .later }
def WasteKeptUptoCardSaid : Prop := Claim7.holds Tryz.pinned (.plain (OpenSpec.upto wasteKeptSpec)) wasteKeptUptoCard

/-- THE SECOND FORM's CARD OF 'orloplaw09.WasteRound'. -/
def wasteRoundUptoCard : Claim7 := { stood := { row := wasteRoundUptoRow, standIns := [], harness := (true, "5bc3faa6160b5a58fe760d55f3f1ad8ffc83f06cb82652ccd14f10a936d27600"), looks := true }, kinds := [], alts := [], laidByText := true, laidKinds := [.data, .data, .data, .data, .sentinel, .sentinel, .pinned], laidTests := true, laidLooks := .later }
def WasteRoundUptoCardSaid : Prop := Claim7.holds Tryz.pinned (.plain (OpenSpec.upto wasteRoundSpec)) wasteRoundUptoCard
end Rows
end Go.Proofs.YtlmhkldmpggadaaGreatDoor
