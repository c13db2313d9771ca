/-
  No cell of these rows narrows 'for every input' (looked for: loops, veiled, ifaces, maps, wideKeys, modest, calm, conditions, laid).
  DERIVED. THE GIVEN ROWS OF THIS SEAT. 14 by the template 'for every input the law returns true; each argument reads behind the call as it read before'; 0 by the template 'total and deterministic' (their statements: YtmgbkmobhjjkiaaTotals.lean).
  GIVEN WITH THE SEED: the statements are not yours to turn. If you find one false, say at which input.
  Laid BY PROGRAM, IN A SANDBOX (cutbox-rows.mjs): the forced cells as the released guide's own fill.sh prints them over the translation 4b81ab97bb6c4d50… (all of the seat's roots in one cut). By AI agents, Wed Nov 11 2026. No macro, syntax, notation, axiom, sorry.
-/
import Derived.Test.YtmgbkmobhjjkiaaChecked
import GoSem.Claim
import GoSem.ClaimJoined
import GoSem.ClaimMapViews
import Derived.JoinedTies
import Derived.KernelRfl
namespace Go.Proofs.Ytmgbkmobhjjkiaa
/- THE CELL 'sum', in the pinned program and in every row, IS THE sha256 OF THE DUMP (.gsa) THAT YtmgbkmobhjjkiaaProg.lean LOADS. Nothing in Lean hashes anything: it is a label: what it is worth is what the hold of that sum in a sandbox is worth. -/
noncomputable def Try.pinned : Pinned := { name := "ytmgbkmobhjjkiaa", sum := "4b81ab97bb6c4d50755543c542f430c4ddfec59b83d1cc30500317e3be87e8b4", checked := Try.checked }
namespace Rows
def none {H : Type} : Left H := { results := [], args := [] }

/-- 'orloplaw05.StandBalances': WHATEVER THE INPUT: true; the input reads as it did. -/
def standBalancesSpec : ChangeSpec := { name := "standBalances", fn := fun _ => fun
  | [d1, d2, d3] => { results := [.lit (.bool true)], args := [d1, d2, d3] }
  | _ => none }
def standBalancesRow : OpenClaim := { program := "ytmgbkmobhjjkiaa", sum := "4b81ab97bb6c4d50755543c542f430c4ddfec59b83d1cc30500317e3be87e8b4", func := "orlop/orloplaw05.StandBalances", spec := "standBalances", unfollowed := true, recurses := true, apart := false }
def StandBalancesSaid : Prop := standBalancesRow.holds Try.pinned (OpenSpec.ofChange standBalancesSpec)

/-- ITS FALSE NEIGHBOUR: 'it returns false'. Refute it at one input. -/
def standBalancesWrong : ChangeSpec := { name := "standBalances", fn := fun _ => fun
  | [d1, d2, d3] => { results := [.lit (.bool false)], args := [d1, d2, d3] }
  | _ => none }
def StandBalancesWrongFalsely : Prop := standBalancesRow.holds Try.pinned (OpenSpec.ofChange standBalancesWrong)

/-- 'orloplaw05.StandTides': WHATEVER THE INPUT: true; the input reads as it did. -/
def standTidesSpec : ChangeSpec := { name := "standTides", fn := fun _ => fun
  | [d1, d2, d3] => { results := [.lit (.bool true)], args := [d1, d2, d3] }
  | _ => none }
def standTidesRow : OpenClaim := { program := "ytmgbkmobhjjkiaa", sum := "4b81ab97bb6c4d50755543c542f430c4ddfec59b83d1cc30500317e3be87e8b4", func := "orlop/orloplaw05.StandTides", spec := "standTides", unfollowed := true, recurses := true, apart := false }
def StandTidesSaid : Prop := standTidesRow.holds Try.pinned (OpenSpec.ofChange standTidesSpec)

/-- ITS FALSE NEIGHBOUR: 'it returns false'. Refute it at one input. -/
def standTidesWrong : ChangeSpec := { name := "standTides", fn := fun _ => fun
  | [d1, d2, d3] => { results := [.lit (.bool false)], args := [d1, d2, d3] }
  | _ => none }
def StandTidesWrongFalsely : Prop := standTidesRow.holds Try.pinned (OpenSpec.ofChange standTidesWrong)

/-- 'orloplaw05.StandForces': WHATEVER THE INPUT: true; the input reads as it did. -/
def standForcesSpec : ChangeSpec := { name := "standForces", fn := fun _ => fun
  | [d1, d2] => { results := [.lit (.bool true)], args := [d1, d2] }
  | _ => none }
def standForcesRow : OpenClaim := { program := "ytmgbkmobhjjkiaa", sum := "4b81ab97bb6c4d50755543c542f430c4ddfec59b83d1cc30500317e3be87e8b4", func := "orlop/orloplaw05.StandForces", spec := "standForces", unfollowed := true, recurses := true, apart := false }
def StandForcesSaid : Prop := standForcesRow.holds Try.pinned (OpenSpec.ofChange standForcesSpec)

/-- ITS FALSE NEIGHBOUR: 'it returns false'. Refute it at one input. -/
def standForcesWrong : ChangeSpec := { name := "standForces", fn := fun _ => fun
  | [d1, d2] => { results := [.lit (.bool false)], args := [d1, d2] }
  | _ => none }
def StandForcesWrongFalsely : Prop := standForcesRow.holds Try.pinned (OpenSpec.ofChange standForcesWrong)

/-- 'orloplaw05.StandBallasts': WHATEVER THE INPUT: true; the input reads as it did. -/
def standBallastsSpec : ChangeSpec := { name := "standBallasts", fn := fun _ => fun
  | [d1, d2, d3] => { results := [.lit (.bool true)], args := [d1, d2, d3] }
  | _ => none }
def standBallastsRow : OpenClaim := { program := "ytmgbkmobhjjkiaa", sum := "4b81ab97bb6c4d50755543c542f430c4ddfec59b83d1cc30500317e3be87e8b4", func := "orlop/orloplaw05.StandBallasts", spec := "standBallasts", unfollowed := true, recurses := true, apart := false }
def StandBallastsSaid : Prop := standBallastsRow.holds Try.pinned (OpenSpec.ofChange standBallastsSpec)

/-- ITS FALSE NEIGHBOUR: 'it returns false'. Refute it at one input. -/
def standBallastsWrong : ChangeSpec := { name := "standBallasts", fn := fun _ => fun
  | [d1, d2, d3] => { results := [.lit (.bool false)], args := [d1, d2, d3] }
  | _ => none }
def StandBallastsWrongFalsely : Prop := standBallastsRow.holds Try.pinned (OpenSpec.ofChange standBallastsWrong)

/-- 'orloplaw05.StandKnown': WHATEVER THE INPUT: true; the input reads as it did. -/
def standKnownSpec : ChangeSpec := { name := "standKnown", fn := fun _ => fun
  | [] => { results := [.lit (.bool true)], args := [] }
  | _ => none }
def standKnownRow : OpenClaim := { program := "ytmgbkmobhjjkiaa", sum := "4b81ab97bb6c4d50755543c542f430c4ddfec59b83d1cc30500317e3be87e8b4", func := "orlop/orloplaw05.StandKnown", spec := "standKnown", unfollowed := true, recurses := true, apart := false }
def StandKnownSaid : Prop := standKnownRow.holds Try.pinned (OpenSpec.ofChange standKnownSpec)

/-- ITS FALSE NEIGHBOUR: 'it returns false'. Refute it at one input. -/
def standKnownWrong : ChangeSpec := { name := "standKnown", fn := fun _ => fun
  | [] => { results := [.lit (.bool false)], args := [] }
  | _ => none }
def StandKnownWrongFalsely : Prop := standKnownRow.holds Try.pinned (OpenSpec.ofChange standKnownWrong)

/-- 'orloplaw05.StandTrue': WHATEVER THE INPUT: true; the input reads as it did. -/
def standTrueSpec : ChangeSpec := { name := "standTrue", fn := fun _ => fun
  | [d1, d2] => { results := [.lit (.bool true)], args := [d1, d2] }
  | _ => none }
def standTrueRow : OpenClaim := { program := "ytmgbkmobhjjkiaa", sum := "4b81ab97bb6c4d50755543c542f430c4ddfec59b83d1cc30500317e3be87e8b4", func := "orlop/orloplaw05.StandTrue", spec := "standTrue", unfollowed := true, recurses := true, apart := false }
def StandTrueSaid : Prop := standTrueRow.holds Try.pinned (OpenSpec.ofChange standTrueSpec)

/-- ITS FALSE NEIGHBOUR: 'it returns false'. Refute it at one input. -/
def standTrueWrong : ChangeSpec := { name := "standTrue", fn := fun _ => fun
  | [d1, d2] => { results := [.lit (.bool false)], args := [d1, d2] }
  | _ => none }
def StandTrueWrongFalsely : Prop := standTrueRow.holds Try.pinned (OpenSpec.ofChange standTrueWrong)

/-- 'orloplaw05.StandShown': WHATEVER THE INPUT: true; the input reads as it did. -/
def standShownSpec : ChangeSpec := { name := "standShown", fn := fun _ => fun
  | [d1, d2] => { results := [.lit (.bool true)], args := [d1, d2] }
  | _ => none }
def standShownRow : OpenClaim := { program := "ytmgbkmobhjjkiaa", sum := "4b81ab97bb6c4d50755543c542f430c4ddfec59b83d1cc30500317e3be87e8b4", func := "orlop/orloplaw05.StandShown", spec := "standShown", unfollowed := true, recurses := true, apart := false }
def StandShownSaid : Prop := standShownRow.holds Try.pinned (OpenSpec.ofChange standShownSpec)

/-- ITS FALSE NEIGHBOUR: 'it returns false'. Refute it at one input. -/
def standShownWrong : ChangeSpec := { name := "standShown", fn := fun _ => fun
  | [d1, d2] => { results := [.lit (.bool false)], args := [d1, d2] }
  | _ => none }
def StandShownWrongFalsely : Prop := standShownRow.holds Try.pinned (OpenSpec.ofChange standShownWrong)

/-- 'orloplaw05.StandBears': WHATEVER THE INPUT: true; the input reads as it did. -/
def standBearsSpec : ChangeSpec := { name := "standBears", fn := fun _ => fun
  | [d1, d2, d3] => { results := [.lit (.bool true)], args := [d1, d2, d3] }
  | _ => none }
def standBearsRow : OpenClaim := { program := "ytmgbkmobhjjkiaa", sum := "4b81ab97bb6c4d50755543c542f430c4ddfec59b83d1cc30500317e3be87e8b4", func := "orlop/orloplaw05.StandBears", spec := "standBears", unfollowed := true, recurses := true, apart := false }
def StandBearsSaid : Prop := standBearsRow.holds Try.pinned (OpenSpec.ofChange standBearsSpec)

/-- ITS FALSE NEIGHBOUR: 'it returns false'. Refute it at one input. -/
def standBearsWrong : ChangeSpec := { name := "standBears", fn := fun _ => fun
  | [d1, d2, d3] => { results := [.lit (.bool false)], args := [d1, d2, d3] }
  | _ => none }
def StandBearsWrongFalsely : Prop := standBearsRow.holds Try.pinned (OpenSpec.ofChange standBearsWrong)

/-- 'orloplaw05.StandLeast': WHATEVER THE INPUT: true; the input reads as it did. -/
def standLeastSpec : ChangeSpec := { name := "standLeast", fn := fun _ => fun
  | [d1, d2] => { results := [.lit (.bool true)], args := [d1, d2] }
  | _ => none }
def standLeastRow : OpenClaim := { program := "ytmgbkmobhjjkiaa", sum := "4b81ab97bb6c4d50755543c542f430c4ddfec59b83d1cc30500317e3be87e8b4", func := "orlop/orloplaw05.StandLeast", spec := "standLeast", unfollowed := true, recurses := true, apart := false }
def StandLeastSaid : Prop := standLeastRow.holds Try.pinned (OpenSpec.ofChange standLeastSpec)

/-- ITS FALSE NEIGHBOUR: 'it returns false'. Refute it at one input. -/
def standLeastWrong : ChangeSpec := { name := "standLeast", fn := fun _ => fun
  | [d1, d2] => { results := [.lit (.bool false)], args := [d1, d2] }
  | _ => none }
def StandLeastWrongFalsely : Prop := standLeastRow.holds Try.pinned (OpenSpec.ofChange standLeastWrong)

/-- 'orloplaw05.StandBallast': WHATEVER THE INPUT: true; the input reads as it did. -/
def standBallastSpec : ChangeSpec := { name := "standBallast", fn := fun _ => fun
  | [d1, d2, d3] => { results := [.lit (.bool true)], args := [d1, d2, d3] }
  | _ => none }
def standBallastRow : OpenClaim := { program := "ytmgbkmobhjjkiaa", sum := "4b81ab97bb6c4d50755543c542f430c4ddfec59b83d1cc30500317e3be87e8b4", func := "orlop/orloplaw05.StandBallast", spec := "standBallast", unfollowed := true, recurses := true, apart := false }
def StandBallastSaid : Prop := standBallastRow.holds Try.pinned (OpenSpec.ofChange standBallastSpec)

/-- ITS FALSE NEIGHBOUR: 'it returns false'. Refute it at one input. -/
def standBallastWrong : ChangeSpec := { name := "standBallast", fn := fun _ => fun
  | [d1, d2, d3] => { results := [.lit (.bool false)], args := [d1, d2, d3] }
  | _ => none }
def StandBallastWrongFalsely : Prop := standBallastRow.holds Try.pinned (OpenSpec.ofChange standBallastWrong)

/-- 'orloplaw05.StandWater': WHATEVER THE INPUT: true; the input reads as it did. -/
def standWaterSpec : ChangeSpec := { name := "standWater", fn := fun _ => fun
  | [d1, d2] => { results := [.lit (.bool true)], args := [d1, d2] }
  | _ => none }
def standWaterRow : OpenClaim := { program := "ytmgbkmobhjjkiaa", sum := "4b81ab97bb6c4d50755543c542f430c4ddfec59b83d1cc30500317e3be87e8b4", func := "orlop/orloplaw05.StandWater", spec := "standWater", unfollowed := true, recurses := true, apart := false }
def StandWaterSaid : Prop := standWaterRow.holds Try.pinned (OpenSpec.ofChange standWaterSpec)

/-- ITS FALSE NEIGHBOUR: 'it returns false'. Refute it at one input. -/
def standWaterWrong : ChangeSpec := { name := "standWater", fn := fun _ => fun
  | [d1, d2] => { results := [.lit (.bool false)], args := [d1, d2] }
  | _ => none }
def StandWaterWrongFalsely : Prop := standWaterRow.holds Try.pinned (OpenSpec.ofChange standWaterWrong)

/-- 'orloplaw05.StandLess': WHATEVER THE INPUT: true; the input reads as it did. -/
def standLessSpec : ChangeSpec := { name := "standLess", fn := fun _ => fun
  | [d1, d2, d3] => { results := [.lit (.bool true)], args := [d1, d2, d3] }
  | _ => none }
def standLessRow : OpenClaim := { program := "ytmgbkmobhjjkiaa", sum := "4b81ab97bb6c4d50755543c542f430c4ddfec59b83d1cc30500317e3be87e8b4", func := "orlop/orloplaw05.StandLess", spec := "standLess", unfollowed := true, recurses := true, apart := false }
def StandLessSaid : Prop := standLessRow.holds Try.pinned (OpenSpec.ofChange standLessSpec)

/-- ITS FALSE NEIGHBOUR: 'it returns false'. Refute it at one input. -/
def standLessWrong : ChangeSpec := { name := "standLess", fn := fun _ => fun
  | [d1, d2, d3] => { results := [.lit (.bool false)], args := [d1, d2, d3] }
  | _ => none }
def StandLessWrongFalsely : Prop := standLessRow.holds Try.pinned (OpenSpec.ofChange standLessWrong)

/-- 'orloplaw05.StandTurned': WHATEVER THE INPUT: true; the input reads as it did. -/
def standTurnedSpec : ChangeSpec := { name := "standTurned", fn := fun _ => fun
  | [d1, d2] => { results := [.lit (.bool true)], args := [d1, d2] }
  | _ => none }
def standTurnedRow : OpenClaim := { program := "ytmgbkmobhjjkiaa", sum := "4b81ab97bb6c4d50755543c542f430c4ddfec59b83d1cc30500317e3be87e8b4", func := "orlop/orloplaw05.StandTurned", spec := "standTurned", unfollowed := true, recurses := true, apart := false }
def StandTurnedSaid : Prop := standTurnedRow.holds Try.pinned (OpenSpec.ofChange standTurnedSpec)

/-- ITS FALSE NEIGHBOUR: 'it returns false'. Refute it at one input. -/
def standTurnedWrong : ChangeSpec := { name := "standTurned", fn := fun _ => fun
  | [d1, d2] => { results := [.lit (.bool false)], args := [d1, d2] }
  | _ => none }
def StandTurnedWrongFalsely : Prop := standTurnedRow.holds Try.pinned (OpenSpec.ofChange standTurnedWrong)

/-- 'orloplaw05.StandJoined': WHATEVER THE INPUT: true; the input reads as it did. -/
def standJoinedSpec : ChangeSpec := { name := "standJoined", fn := fun _ => fun
  | [d1, d2] => { results := [.lit (.bool true)], args := [d1, d2] }
  | _ => none }
def standJoinedRow : OpenClaim := { program := "ytmgbkmobhjjkiaa", sum := "4b81ab97bb6c4d50755543c542f430c4ddfec59b83d1cc30500317e3be87e8b4", func := "orlop/orloplaw05.StandJoined", spec := "standJoined", unfollowed := true, recurses := true, apart := false }
def StandJoinedSaid : Prop := standJoinedRow.holds Try.pinned (OpenSpec.ofChange standJoinedSpec)

/-- ITS FALSE NEIGHBOUR: 'it returns false'. Refute it at one input. -/
def standJoinedWrong : ChangeSpec := { name := "standJoined", fn := fun _ => fun
  | [d1, d2] => { results := [.lit (.bool false)], args := [d1, d2] }
  | _ => none }
def StandJoinedWrongFalsely : Prop := standJoinedRow.holds Try.pinned (OpenSpec.ofChange standJoinedWrong)

/- THE SECOND FORM. 'bulk': how many values and letters a reading holds, each counted each time it is reached (what is shared counts as often as it is met; a slice's spare places count too). A statement '..UptoSaid' is the law's where the arguments, and the package variables that the reading takes, are together of bulk at most 1048576: NARROWER than '..Said'. Prove '..Said' where nothing that the law and all that it calls make is longer than what came in: it says more and counts as full. Else prove '..UptoSaid'. A law counts once. -/
mutual
def uptoBulk {H : Type} : DataW H → Nat
  | .lit (.string bytes) => bytes.length + 1
  | .lit _ => 1
  | .nil => 1
  | .ptr d => uptoBulk d + 1
  | .slice elems spare => uptoBulkAll elems + uptoBulkAll spare + 1
  | .agg parts => uptoBulkAll parts + 1
  | .iface _ d => uptoBulk d + 1
  | .map entries => uptoBulkEntries entries + 1
  | .held _ => 1
def uptoBulkAll {H : Type} : List (DataW H) → Nat
  | [] => 0
  | d :: r => uptoBulk d + uptoBulkAll r
def uptoBulkEntries {H : Type} : List (Lit × DataW H) → Nat
  | [] => 0
  | x :: r => uptoBulkEntry x + uptoBulkEntries r
def uptoBulkEntry {H : Type} : Lit × DataW H → Nat
  | (.string bytes, d) => bytes.length + uptoBulk d + 1
  | (_, d) => uptoBulk d + 1
 end
def uptoSmall : (H : Type) → List (DataW H) → Bool := fun _ ds => decide (uptoBulkAll ds ≤ 1048576)
def OpenSpec.upto (s : _root_.Go.ChangeSpec) : _root_.Go.OpenSpec := { _root_.Go.OpenSpec.ofChange s with cond := some uptoSmall }

/-- 'orloplaw05.StandBalances', WHERE WHAT IT READS IS OF BULK AT MOST 1048576: true; the input reads as it did. -/
def standBalancesUptoRow : OpenClaim := { program := "ytmgbkmobhjjkiaa", sum := "4b81ab97bb6c4d50755543c542f430c4ddfec59b83d1cc30500317e3be87e8b4", func := "orlop/orloplaw05.StandBalances", spec := "standBalances", unfollowed := true, recurses := true, apart := false, narrowed := true }
def StandBalancesUptoSaid : Prop := standBalancesUptoRow.holds Try.pinned (OpenSpec.upto standBalancesSpec)

/-- 'orloplaw05.StandTides', WHERE WHAT IT READS IS OF BULK AT MOST 1048576: true; the input reads as it did. -/
def standTidesUptoRow : OpenClaim := { program := "ytmgbkmobhjjkiaa", sum := "4b81ab97bb6c4d50755543c542f430c4ddfec59b83d1cc30500317e3be87e8b4", func := "orlop/orloplaw05.StandTides", spec := "standTides", unfollowed := true, recurses := true, apart := false, narrowed := true }
def StandTidesUptoSaid : Prop := standTidesUptoRow.holds Try.pinned (OpenSpec.upto standTidesSpec)

/-- 'orloplaw05.StandForces', WHERE WHAT IT READS IS OF BULK AT MOST 1048576: true; the input reads as it did. -/
def standForcesUptoRow : OpenClaim := { program := "ytmgbkmobhjjkiaa", sum := "4b81ab97bb6c4d50755543c542f430c4ddfec59b83d1cc30500317e3be87e8b4", func := "orlop/orloplaw05.StandForces", spec := "standForces", unfollowed := true, recurses := true, apart := false, narrowed := true }
def StandForcesUptoSaid : Prop := standForcesUptoRow.holds Try.pinned (OpenSpec.upto standForcesSpec)

/-- 'orloplaw05.StandBallasts', WHERE WHAT IT READS IS OF BULK AT MOST 1048576: true; the input reads as it did. -/
def standBallastsUptoRow : OpenClaim := { program := "ytmgbkmobhjjkiaa", sum := "4b81ab97bb6c4d50755543c542f430c4ddfec59b83d1cc30500317e3be87e8b4", func := "orlop/orloplaw05.StandBallasts", spec := "standBallasts", unfollowed := true, recurses := true, apart := false, narrowed := true }
def StandBallastsUptoSaid : Prop := standBallastsUptoRow.holds Try.pinned (OpenSpec.upto standBallastsSpec)

/-- 'orloplaw05.StandKnown', WHERE WHAT IT READS IS OF BULK AT MOST 1048576: true; the input reads as it did. -/
def standKnownUptoRow : OpenClaim := { program := "ytmgbkmobhjjkiaa", sum := "4b81ab97bb6c4d50755543c542f430c4ddfec59b83d1cc30500317e3be87e8b4", func := "orlop/orloplaw05.StandKnown", spec := "standKnown", unfollowed := true, recurses := true, apart := false, narrowed := true }
def StandKnownUptoSaid : Prop := standKnownUptoRow.holds Try.pinned (OpenSpec.upto standKnownSpec)

/-- 'orloplaw05.StandTrue', WHERE WHAT IT READS IS OF BULK AT MOST 1048576: true; the input reads as it did. -/
def standTrueUptoRow : OpenClaim := { program := "ytmgbkmobhjjkiaa", sum := "4b81ab97bb6c4d50755543c542f430c4ddfec59b83d1cc30500317e3be87e8b4", func := "orlop/orloplaw05.StandTrue", spec := "standTrue", unfollowed := true, recurses := true, apart := false, narrowed := true }
def StandTrueUptoSaid : Prop := standTrueUptoRow.holds Try.pinned (OpenSpec.upto standTrueSpec)

/-- 'orloplaw05.StandShown', WHERE WHAT IT READS IS OF BULK AT MOST 1048576: true; the input reads as it did. -/
def standShownUptoRow : OpenClaim := { program := "ytmgbkmobhjjkiaa", sum := "4b81ab97bb6c4d50755543c542f430c4ddfec59b83d1cc30500317e3be87e8b4", func := "orlop/orloplaw05.StandShown", spec := "standShown", unfollowed := true, recurses := true, apart := false, narrowed := true }
def StandShownUptoSaid : Prop := standShownUptoRow.holds Try.pinned (OpenSpec.upto standShownSpec)

/-- 'orloplaw05.StandBears', WHERE WHAT IT READS IS OF BULK AT MOST 1048576: true; the input reads as it did. -/
def standBearsUptoRow : OpenClaim := { program := "ytmgbkmobhjjkiaa", sum := "4b81ab97bb6c4d50755543c542f430c4ddfec59b83d1cc30500317e3be87e8b4", func := "orlop/orloplaw05.StandBears", spec := "standBears", unfollowed := true, recurses := true, apart := false, narrowed := true }
def StandBearsUptoSaid : Prop := standBearsUptoRow.holds Try.pinned (OpenSpec.upto standBearsSpec)

/-- 'orloplaw05.StandLeast', WHERE WHAT IT READS IS OF BULK AT MOST 1048576: true; the input reads as it did. -/
def standLeastUptoRow : OpenClaim := { program := "ytmgbkmobhjjkiaa", sum := "4b81ab97bb6c4d50755543c542f430c4ddfec59b83d1cc30500317e3be87e8b4", func := "orlop/orloplaw05.StandLeast", spec := "standLeast", unfollowed := true, recurses := true, apart := false, narrowed := true }
def StandLeastUptoSaid : Prop := standLeastUptoRow.holds Try.pinned (OpenSpec.upto standLeastSpec)

/-- 'orloplaw05.StandBallast', WHERE WHAT IT READS IS OF BULK AT MOST 1048576: true; the input reads as it did. -/
def standBallastUptoRow : OpenClaim := { program := "ytmgbkmobhjjkiaa", sum := "4b81ab97bb6c4d50755543c542f430c4ddfec59b83d1cc30500317e3be87e8b4", func := "orlop/orloplaw05.StandBallast", spec := "standBallast", unfollowed := true, recurses := true, apart := false, narrowed := true }
def StandBallastUptoSaid : Prop := standBallastUptoRow.holds Try.pinned (OpenSpec.upto standBallastSpec)

/-- 'orloplaw05.StandWater', WHERE WHAT IT READS IS OF BULK AT MOST 1048576: true; the input reads as it did. -/
def standWaterUptoRow : OpenClaim := { program := "ytmgbkmobhjjkiaa", sum := "4b81ab97bb6c4d50755543c542f430c4ddfec59b83d1cc30500317e3be87e8b4", func := "orlop/orloplaw05.StandWater", spec := "standWater", unfollowed := true, recurses := true, apart := false, narrowed := true }
def StandWaterUptoSaid : Prop := standWaterUptoRow.holds Try.pinned (OpenSpec.upto standWaterSpec)

/-- 'orloplaw05.StandLess', WHERE WHAT IT READS IS OF BULK AT MOST 1048576: true; the input reads as it did. -/
def standLessUptoRow : OpenClaim := { program := "ytmgbkmobhjjkiaa", sum := "4b81ab97bb6c4d50755543c542f430c4ddfec59b83d1cc30500317e3be87e8b4", func := "orlop/orloplaw05.StandLess", spec := "standLess", unfollowed := true, recurses := true, apart := false, narrowed := true }
def StandLessUptoSaid : Prop := standLessUptoRow.holds Try.pinned (OpenSpec.upto standLessSpec)

/-- 'orloplaw05.StandTurned', WHERE WHAT IT READS IS OF BULK AT MOST 1048576: true; the input reads as it did. -/
def standTurnedUptoRow : OpenClaim := { program := "ytmgbkmobhjjkiaa", sum := "4b81ab97bb6c4d50755543c542f430c4ddfec59b83d1cc30500317e3be87e8b4", func := "orlop/orloplaw05.StandTurned", spec := "standTurned", unfollowed := true, recurses := true, apart := false, narrowed := true }
def StandTurnedUptoSaid : Prop := standTurnedUptoRow.holds Try.pinned (OpenSpec.upto standTurnedSpec)

/-- 'orloplaw05.StandJoined', WHERE WHAT IT READS IS OF BULK AT MOST 1048576: true; the input reads as it did. -/
def standJoinedUptoRow : OpenClaim := { program := "ytmgbkmobhjjkiaa", sum := "4b81ab97bb6c4d50755543c542f430c4ddfec59b83d1cc30500317e3be87e8b4", func := "orlop/orloplaw05.StandJoined", spec := "standJoined", unfollowed := true, recurses := true, apart := false, narrowed := true }
def StandJoinedUptoSaid : Prop := standJoinedUptoRow.holds Try.pinned (OpenSpec.upto standJoinedSpec)

end Rows
end Go.Proofs.Ytmgbkmobhjjkiaa
