/-
  NARROWER THAN 'FOR EVERY INPUT', by the rows' own cells (each row's printed sentence says how): CutBads: laid · CutOrders: laid · CutProofs: laid · CutKnown: laid · CutTrue: laid · CutNone: laid · CutLater: laid · CutMost: laid · CutTo: laid · CutEasier: laid · CutAbove: laid.
  DERIVED. THE GIVEN ROWS OF THIS SEAT. 11 by the template 'for every input the law returns true; each argument reads behind the call as it read before'; 0 by the template 'total and deterministic' (their statements: YtmjfcbpgnmajpaaGreatDoorTotals.lean).
  GIVEN WITH THE SEED: the statements are not yours to turn. If you find one false, say at which input.
  Laid BY PROGRAM, IN A SANDBOX (cutbox-rows.mjs): the forced cells as the released guide's own fill.sh prints them over the translation 6c522ab67700b47b… (all of the seat's roots in one cut). By AI agents, Wed Nov 11 2026. No macro, syntax, notation, axiom, sorry.
-/
import Derived.Test.YtmjfcbpgnmajpaaGreatDoorChecked
import GoSem.Claim
import GoSem.ClaimJoined
import GoSem.ClaimMapViews
import Derived.JoinedTies
import Derived.KernelRfl
namespace Go.Proofs.YtmjfcbpgnmajpaaGreatDoor
/- THE CELL 'sum', in the pinned program and in every row, IS THE sha256 OF THE DUMP (.gsa) THAT YtmjfcbpgnmajpaaGreatDoorProg.lean LOADS. Nothing in Lean hashes anything: it is a label: what it is worth is what the hold of that sum in a sandbox is worth. -/
noncomputable def Tryz.pinned : Pinned := { name := "ytmjfcbpgnmajpaagreatdoor", sum := "6c522ab67700b47b9924ee87be31be9fcc5f28f8775f3bf58337682b9109dd7c", checked := Tryz.checked }
namespace Rows
def none {H : Type} : Left H := { results := [], args := [] }

/- WHAT THE LISTED PACKAGE-LEVEL VARIABLES READ AS WHEN THE CALL BEGINS. Each datum BY PROGRAM (the guide's laid-datum.mjs) off the statement by which the dump's own 'gosem.cut.vars' lays the variable. In a bare row this is a premise. The card (YtmjfcbpgnmajpaaGreatDoorCards.lean) ties it to the program's text. -/
def laid_math_bits_deBruijn32tab {H : Type} : DataW H := .agg [.lit (.int .u8 0), .lit (.int .u8 1), .lit (.int .u8 28), .lit (.int .u8 2), .lit (.int .u8 29), .lit (.int .u8 14), .lit (.int .u8 24), .lit (.int .u8 3), .lit (.int .u8 30), .lit (.int .u8 22), .lit (.int .u8 20), .lit (.int .u8 15), .lit (.int .u8 25), .lit (.int .u8 17), .lit (.int .u8 4), .lit (.int .u8 8), .lit (.int .u8 31), .lit (.int .u8 27), .lit (.int .u8 13), .lit (.int .u8 23), .lit (.int .u8 21), .lit (.int .u8 19), .lit (.int .u8 16), .lit (.int .u8 7), .lit (.int .u8 26), .lit (.int .u8 12), .lit (.int .u8 18), .lit (.int .u8 6), .lit (.int .u8 11), .lit (.int .u8 5), .lit (.int .u8 10), .lit (.int .u8 9)]
def laid_math_bits_deBruijn64tab {H : Type} : DataW H := .agg [.lit (.int .u8 0), .lit (.int .u8 1), .lit (.int .u8 56), .lit (.int .u8 2), .lit (.int .u8 57), .lit (.int .u8 49), .lit (.int .u8 28), .lit (.int .u8 3), .lit (.int .u8 61), .lit (.int .u8 58), .lit (.int .u8 42), .lit (.int .u8 50), .lit (.int .u8 38), .lit (.int .u8 29), .lit (.int .u8 17), .lit (.int .u8 4), .lit (.int .u8 62), .lit (.int .u8 47), .lit (.int .u8 59), .lit (.int .u8 36), .lit (.int .u8 45), .lit (.int .u8 43), .lit (.int .u8 51), .lit (.int .u8 22), .lit (.int .u8 53), .lit (.int .u8 39), .lit (.int .u8 33), .lit (.int .u8 30), .lit (.int .u8 24), .lit (.int .u8 18), .lit (.int .u8 12), .lit (.int .u8 5), .lit (.int .u8 63), .lit (.int .u8 55), .lit (.int .u8 48), .lit (.int .u8 27), .lit (.int .u8 60), .lit (.int .u8 41), .lit (.int .u8 37), .lit (.int .u8 16), .lit (.int .u8 46), .lit (.int .u8 35), .lit (.int .u8 44), .lit (.int .u8 21), .lit (.int .u8 52), .lit (.int .u8 32), .lit (.int .u8 23), .lit (.int .u8 11), .lit (.int .u8 54), .lit (.int .u8 26), .lit (.int .u8 40), .lit (.int .u8 15), .lit (.int .u8 34), .lit (.int .u8 20), .lit (.int .u8 31), .lit (.int .u8 10), .lit (.int .u8 25), .lit (.int .u8 14), .lit (.int .u8 19), .lit (.int .u8 9), .lit (.int .u8 13), .lit (.int .u8 8), .lit (.int .u8 7), .lit (.int .u8 6)]

/-- 'orloplaw06.CutBads': WHATEVER THE INPUT: true; the input reads as it did. -/
def cutBadsSpec : ChangeSpec := { name := "cutBads", fn := fun _ => fun
  | [d1, d2] => { results := [.lit (.bool true)], args := [d1, d2] }
  | _ => none }
def cutBadsRow : OpenClaim := { program := "ytmjfcbpgnmajpaagreatdoor", sum := "6c522ab67700b47b9924ee87be31be9fcc5f28f8775f3bf58337682b9109dd7c", func := "orlop/orloplaw06.CutBads", spec := "cutBads", unfollowed := true, recurses := true, named := ["math/bits.deBruijn32tab", "math/bits.deBruijn64tab"], apart := false, laid := [("math/bits.deBruijn32tab", laid_math_bits_deBruijn32tab), ("math/bits.deBruijn64tab", laid_math_bits_deBruijn64tab)] }
def CutBadsSaid : Prop := cutBadsRow.holds Tryz.pinned (OpenSpec.ofChange cutBadsSpec)

/-- ITS FALSE NEIGHBOUR: 'it returns false'. Refute it at one input. -/
def cutBadsWrong : ChangeSpec := { name := "cutBads", fn := fun _ => fun
  | [d1, d2] => { results := [.lit (.bool false)], args := [d1, d2] }
  | _ => none }
def CutBadsWrongFalsely : Prop := cutBadsRow.holds Tryz.pinned (OpenSpec.ofChange cutBadsWrong)

/-- 'orloplaw06.CutOrders': WHATEVER THE INPUT: true; the input reads as it did. -/
def cutOrdersSpec : ChangeSpec := { name := "cutOrders", fn := fun _ => fun
  | [d1, d2] => { results := [.lit (.bool true)], args := [d1, d2] }
  | _ => none }
def cutOrdersRow : OpenClaim := { program := "ytmjfcbpgnmajpaagreatdoor", sum := "6c522ab67700b47b9924ee87be31be9fcc5f28f8775f3bf58337682b9109dd7c", func := "orlop/orloplaw06.CutOrders", spec := "cutOrders", unfollowed := true, recurses := true, named := ["math/bits.deBruijn32tab", "math/bits.deBruijn64tab"], apart := false, laid := [("math/bits.deBruijn32tab", laid_math_bits_deBruijn32tab), ("math/bits.deBruijn64tab", laid_math_bits_deBruijn64tab)] }
def CutOrdersSaid : Prop := cutOrdersRow.holds Tryz.pinned (OpenSpec.ofChange cutOrdersSpec)

/-- ITS FALSE NEIGHBOUR: 'it returns false'. Refute it at one input. -/
def cutOrdersWrong : ChangeSpec := { name := "cutOrders", fn := fun _ => fun
  | [d1, d2] => { results := [.lit (.bool false)], args := [d1, d2] }
  | _ => none }
def CutOrdersWrongFalsely : Prop := cutOrdersRow.holds Tryz.pinned (OpenSpec.ofChange cutOrdersWrong)

/-- 'orloplaw06.CutProofs': WHATEVER THE INPUT: true; the input reads as it did. -/
def cutProofsSpec : ChangeSpec := { name := "cutProofs", fn := fun _ => fun
  | [d1, d2] => { results := [.lit (.bool true)], args := [d1, d2] }
  | _ => none }
def cutProofsRow : OpenClaim := { program := "ytmjfcbpgnmajpaagreatdoor", sum := "6c522ab67700b47b9924ee87be31be9fcc5f28f8775f3bf58337682b9109dd7c", func := "orlop/orloplaw06.CutProofs", spec := "cutProofs", unfollowed := true, recurses := true, named := ["math/bits.deBruijn32tab", "math/bits.deBruijn64tab"], apart := false, laid := [("math/bits.deBruijn32tab", laid_math_bits_deBruijn32tab), ("math/bits.deBruijn64tab", laid_math_bits_deBruijn64tab)] }
def CutProofsSaid : Prop := cutProofsRow.holds Tryz.pinned (OpenSpec.ofChange cutProofsSpec)

/-- ITS FALSE NEIGHBOUR: 'it returns false'. Refute it at one input. -/
def cutProofsWrong : ChangeSpec := { name := "cutProofs", fn := fun _ => fun
  | [d1, d2] => { results := [.lit (.bool false)], args := [d1, d2] }
  | _ => none }
def CutProofsWrongFalsely : Prop := cutProofsRow.holds Tryz.pinned (OpenSpec.ofChange cutProofsWrong)

/-- 'orloplaw06.CutKnown': WHATEVER THE INPUT: true; the input reads as it did. -/
def cutKnownSpec : ChangeSpec := { name := "cutKnown", fn := fun _ => fun
  | [] => { results := [.lit (.bool true)], args := [] }
  | _ => none }
def cutKnownRow : OpenClaim := { program := "ytmjfcbpgnmajpaagreatdoor", sum := "6c522ab67700b47b9924ee87be31be9fcc5f28f8775f3bf58337682b9109dd7c", func := "orlop/orloplaw06.CutKnown", spec := "cutKnown", unfollowed := true, recurses := true, named := ["math/bits.deBruijn32tab", "math/bits.deBruijn64tab"], apart := false, laid := [("math/bits.deBruijn32tab", laid_math_bits_deBruijn32tab), ("math/bits.deBruijn64tab", laid_math_bits_deBruijn64tab)] }
def CutKnownSaid : Prop := cutKnownRow.holds Tryz.pinned (OpenSpec.ofChange cutKnownSpec)

/-- ITS FALSE NEIGHBOUR: 'it returns false'. Refute it at one input. -/
def cutKnownWrong : ChangeSpec := { name := "cutKnown", fn := fun _ => fun
  | [] => { results := [.lit (.bool false)], args := [] }
  | _ => none }
def CutKnownWrongFalsely : Prop := cutKnownRow.holds Tryz.pinned (OpenSpec.ofChange cutKnownWrong)

/-- 'orloplaw06.CutTrue': WHATEVER THE INPUT: true; the input reads as it did. -/
def cutTrueSpec : ChangeSpec := { name := "cutTrue", fn := fun _ => fun
  | [d1, d2] => { results := [.lit (.bool true)], args := [d1, d2] }
  | _ => none }
def cutTrueRow : OpenClaim := { program := "ytmjfcbpgnmajpaagreatdoor", sum := "6c522ab67700b47b9924ee87be31be9fcc5f28f8775f3bf58337682b9109dd7c", func := "orlop/orloplaw06.CutTrue", spec := "cutTrue", unfollowed := true, recurses := true, named := ["math/bits.deBruijn32tab", "math/bits.deBruijn64tab"], apart := false, laid := [("math/bits.deBruijn32tab", laid_math_bits_deBruijn32tab), ("math/bits.deBruijn64tab", laid_math_bits_deBruijn64tab)] }
def CutTrueSaid : Prop := cutTrueRow.holds Tryz.pinned (OpenSpec.ofChange cutTrueSpec)

/-- ITS FALSE NEIGHBOUR: 'it returns false'. Refute it at one input. -/
def cutTrueWrong : ChangeSpec := { name := "cutTrue", fn := fun _ => fun
  | [d1, d2] => { results := [.lit (.bool false)], args := [d1, d2] }
  | _ => none }
def CutTrueWrongFalsely : Prop := cutTrueRow.holds Tryz.pinned (OpenSpec.ofChange cutTrueWrong)

/-- 'orloplaw06.CutNone': WHATEVER THE INPUT: true; the input reads as it did. -/
def cutNoneSpec : ChangeSpec := { name := "cutNone", fn := fun _ => fun
  | [d1, d2, d3] => { results := [.lit (.bool true)], args := [d1, d2, d3] }
  | _ => none }
def cutNoneRow : OpenClaim := { program := "ytmjfcbpgnmajpaagreatdoor", sum := "6c522ab67700b47b9924ee87be31be9fcc5f28f8775f3bf58337682b9109dd7c", func := "orlop/orloplaw06.CutNone", spec := "cutNone", unfollowed := true, recurses := true, named := ["math/bits.deBruijn32tab", "math/bits.deBruijn64tab"], apart := false, laid := [("math/bits.deBruijn32tab", laid_math_bits_deBruijn32tab), ("math/bits.deBruijn64tab", laid_math_bits_deBruijn64tab)] }
def CutNoneSaid : Prop := cutNoneRow.holds Tryz.pinned (OpenSpec.ofChange cutNoneSpec)

/-- ITS FALSE NEIGHBOUR: 'it returns false'. Refute it at one input. -/
def cutNoneWrong : ChangeSpec := { name := "cutNone", fn := fun _ => fun
  | [d1, d2, d3] => { results := [.lit (.bool false)], args := [d1, d2, d3] }
  | _ => none }
def CutNoneWrongFalsely : Prop := cutNoneRow.holds Tryz.pinned (OpenSpec.ofChange cutNoneWrong)

/-- 'orloplaw06.CutLater': WHATEVER THE INPUT: true; the input reads as it did. -/
def cutLaterSpec : ChangeSpec := { name := "cutLater", fn := fun _ => fun
  | [d1, d2, d3] => { results := [.lit (.bool true)], args := [d1, d2, d3] }
  | _ => none }
def cutLaterRow : OpenClaim := { program := "ytmjfcbpgnmajpaagreatdoor", sum := "6c522ab67700b47b9924ee87be31be9fcc5f28f8775f3bf58337682b9109dd7c", func := "orlop/orloplaw06.CutLater", spec := "cutLater", unfollowed := true, recurses := true, named := ["math/bits.deBruijn32tab", "math/bits.deBruijn64tab"], apart := false, laid := [("math/bits.deBruijn32tab", laid_math_bits_deBruijn32tab), ("math/bits.deBruijn64tab", laid_math_bits_deBruijn64tab)] }
def CutLaterSaid : Prop := cutLaterRow.holds Tryz.pinned (OpenSpec.ofChange cutLaterSpec)

/-- ITS FALSE NEIGHBOUR: 'it returns false'. Refute it at one input. -/
def cutLaterWrong : ChangeSpec := { name := "cutLater", fn := fun _ => fun
  | [d1, d2, d3] => { results := [.lit (.bool false)], args := [d1, d2, d3] }
  | _ => none }
def CutLaterWrongFalsely : Prop := cutLaterRow.holds Tryz.pinned (OpenSpec.ofChange cutLaterWrong)

/-- 'orloplaw06.CutMost': WHATEVER THE INPUT: true; the input reads as it did. -/
def cutMostSpec : ChangeSpec := { name := "cutMost", fn := fun _ => fun
  | [d1, d2] => { results := [.lit (.bool true)], args := [d1, d2] }
  | _ => none }
def cutMostRow : OpenClaim := { program := "ytmjfcbpgnmajpaagreatdoor", sum := "6c522ab67700b47b9924ee87be31be9fcc5f28f8775f3bf58337682b9109dd7c", func := "orlop/orloplaw06.CutMost", spec := "cutMost", unfollowed := true, recurses := true, named := ["math/bits.deBruijn32tab", "math/bits.deBruijn64tab"], apart := false, laid := [("math/bits.deBruijn32tab", laid_math_bits_deBruijn32tab), ("math/bits.deBruijn64tab", laid_math_bits_deBruijn64tab)] }
def CutMostSaid : Prop := cutMostRow.holds Tryz.pinned (OpenSpec.ofChange cutMostSpec)

/-- ITS FALSE NEIGHBOUR: 'it returns false'. Refute it at one input. -/
def cutMostWrong : ChangeSpec := { name := "cutMost", fn := fun _ => fun
  | [d1, d2] => { results := [.lit (.bool false)], args := [d1, d2] }
  | _ => none }
def CutMostWrongFalsely : Prop := cutMostRow.holds Tryz.pinned (OpenSpec.ofChange cutMostWrong)

/-- 'orloplaw06.CutTo': WHATEVER THE INPUT: true; the input reads as it did. -/
def cutToSpec : ChangeSpec := { name := "cutTo", fn := fun _ => fun
  | [d1, d2, d3] => { results := [.lit (.bool true)], args := [d1, d2, d3] }
  | _ => none }
def cutToRow : OpenClaim := { program := "ytmjfcbpgnmajpaagreatdoor", sum := "6c522ab67700b47b9924ee87be31be9fcc5f28f8775f3bf58337682b9109dd7c", func := "orlop/orloplaw06.CutTo", spec := "cutTo", unfollowed := true, recurses := true, named := ["math/bits.deBruijn32tab", "math/bits.deBruijn64tab"], apart := false, laid := [("math/bits.deBruijn32tab", laid_math_bits_deBruijn32tab), ("math/bits.deBruijn64tab", laid_math_bits_deBruijn64tab)] }
def CutToSaid : Prop := cutToRow.holds Tryz.pinned (OpenSpec.ofChange cutToSpec)

/-- ITS FALSE NEIGHBOUR: 'it returns false'. Refute it at one input. -/
def cutToWrong : ChangeSpec := { name := "cutTo", fn := fun _ => fun
  | [d1, d2, d3] => { results := [.lit (.bool false)], args := [d1, d2, d3] }
  | _ => none }
def CutToWrongFalsely : Prop := cutToRow.holds Tryz.pinned (OpenSpec.ofChange cutToWrong)

/-- 'orloplaw06.CutEasier': WHATEVER THE INPUT: true; the input reads as it did. -/
def cutEasierSpec : ChangeSpec := { name := "cutEasier", fn := fun _ => fun
  | [d1, d2, d3] => { results := [.lit (.bool true)], args := [d1, d2, d3] }
  | _ => none }
def cutEasierRow : OpenClaim := { program := "ytmjfcbpgnmajpaagreatdoor", sum := "6c522ab67700b47b9924ee87be31be9fcc5f28f8775f3bf58337682b9109dd7c", func := "orlop/orloplaw06.CutEasier", spec := "cutEasier", unfollowed := true, recurses := true, named := ["math/bits.deBruijn32tab", "math/bits.deBruijn64tab"], apart := false, laid := [("math/bits.deBruijn32tab", laid_math_bits_deBruijn32tab), ("math/bits.deBruijn64tab", laid_math_bits_deBruijn64tab)] }
def CutEasierSaid : Prop := cutEasierRow.holds Tryz.pinned (OpenSpec.ofChange cutEasierSpec)

/-- ITS FALSE NEIGHBOUR: 'it returns false'. Refute it at one input. -/
def cutEasierWrong : ChangeSpec := { name := "cutEasier", fn := fun _ => fun
  | [d1, d2, d3] => { results := [.lit (.bool false)], args := [d1, d2, d3] }
  | _ => none }
def CutEasierWrongFalsely : Prop := cutEasierRow.holds Tryz.pinned (OpenSpec.ofChange cutEasierWrong)

/-- 'orloplaw06.CutAbove': WHATEVER THE INPUT: true; the input reads as it did. -/
def cutAboveSpec : ChangeSpec := { name := "cutAbove", fn := fun _ => fun
  | [d1, d2] => { results := [.lit (.bool true)], args := [d1, d2] }
  | _ => none }
def cutAboveRow : OpenClaim := { program := "ytmjfcbpgnmajpaagreatdoor", sum := "6c522ab67700b47b9924ee87be31be9fcc5f28f8775f3bf58337682b9109dd7c", func := "orlop/orloplaw06.CutAbove", spec := "cutAbove", unfollowed := true, recurses := true, named := ["math/bits.deBruijn32tab", "math/bits.deBruijn64tab"], apart := false, laid := [("math/bits.deBruijn32tab", laid_math_bits_deBruijn32tab), ("math/bits.deBruijn64tab", laid_math_bits_deBruijn64tab)] }
def CutAboveSaid : Prop := cutAboveRow.holds Tryz.pinned (OpenSpec.ofChange cutAboveSpec)

/-- ITS FALSE NEIGHBOUR: 'it returns false'. Refute it at one input. -/
def cutAboveWrong : ChangeSpec := { name := "cutAbove", fn := fun _ => fun
  | [d1, d2] => { results := [.lit (.bool false)], args := [d1, d2] }
  | _ => none }
def CutAboveWrongFalsely : Prop := cutAboveRow.holds Tryz.pinned (OpenSpec.ofChange cutAboveWrong)

/- THE SECOND FORM. 'bulk': how many values and letters a reading holds, each counted each time it is reached (what is shared counts as often as it is met; a slice's spare places count too). A statement '..UptoSaid' is the law's where the arguments, and the package variables that the reading takes, are together of bulk at most 1048576: NARROWER than '..Said'. Prove '..Said' where nothing that the law and all that it calls make is longer than what came in: it says more and counts as full. Else prove '..UptoSaid'. A law counts once. -/
mutual
def uptoBulk {H : Type} : DataW H → Nat
  | .lit (.string bytes) => bytes.length + 1
  | .lit _ => 1
  | .nil => 1
  | .ptr d => uptoBulk d + 1
  | .slice elems spare => uptoBulkAll elems + uptoBulkAll spare + 1
  | .agg parts => uptoBulkAll parts + 1
  | .iface _ d => uptoBulk d + 1
  | .map entries => uptoBulkEntries entries + 1
  | .held _ => 1
def uptoBulkAll {H : Type} : List (DataW H) → Nat
  | [] => 0
  | d :: r => uptoBulk d + uptoBulkAll r
def uptoBulkEntries {H : Type} : List (Lit × DataW H) → Nat
  | [] => 0
  | x :: r => uptoBulkEntry x + uptoBulkEntries r
def uptoBulkEntry {H : Type} : Lit × DataW H → Nat
  | (.string bytes, d) => bytes.length + uptoBulk d + 1
  | (_, d) => uptoBulk d + 1
 end
def uptoSmall : (H : Type) → List (DataW H) → Bool := fun _ ds => decide (uptoBulkAll ds ≤ 1048576)
def OpenSpec.upto (s : _root_.Go.ChangeSpec) : _root_.Go.OpenSpec := { _root_.Go.OpenSpec.ofChange s with cond := some uptoSmall }

/-- 'orloplaw06.CutBads', WHERE WHAT IT READS IS OF BULK AT MOST 1048576: true; the input reads as it did. -/
def cutBadsUptoRow : OpenClaim := { program := "ytmjfcbpgnmajpaagreatdoor", sum := "6c522ab67700b47b9924ee87be31be9fcc5f28f8775f3bf58337682b9109dd7c", func := "orlop/orloplaw06.CutBads", spec := "cutBads", unfollowed := true, recurses := true, named := ["math/bits.deBruijn32tab", "math/bits.deBruijn64tab"], apart := false, laid := [("math/bits.deBruijn32tab", laid_math_bits_deBruijn32tab), ("math/bits.deBruijn64tab", laid_math_bits_deBruijn64tab)], narrowed := true }
def CutBadsUptoSaid : Prop := cutBadsUptoRow.holds Tryz.pinned (OpenSpec.upto cutBadsSpec)

/-- 'orloplaw06.CutOrders', WHERE WHAT IT READS IS OF BULK AT MOST 1048576: true; the input reads as it did. -/
def cutOrdersUptoRow : OpenClaim := { program := "ytmjfcbpgnmajpaagreatdoor", sum := "6c522ab67700b47b9924ee87be31be9fcc5f28f8775f3bf58337682b9109dd7c", func := "orlop/orloplaw06.CutOrders", spec := "cutOrders", unfollowed := true, recurses := true, named := ["math/bits.deBruijn32tab", "math/bits.deBruijn64tab"], apart := false, laid := [("math/bits.deBruijn32tab", laid_math_bits_deBruijn32tab), ("math/bits.deBruijn64tab", laid_math_bits_deBruijn64tab)], narrowed := true }
def CutOrdersUptoSaid : Prop := cutOrdersUptoRow.holds Tryz.pinned (OpenSpec.upto cutOrdersSpec)

/-- 'orloplaw06.CutProofs', WHERE WHAT IT READS IS OF BULK AT MOST 1048576: true; the input reads as it did. -/
def cutProofsUptoRow : OpenClaim := { program := "ytmjfcbpgnmajpaagreatdoor", sum := "6c522ab67700b47b9924ee87be31be9fcc5f28f8775f3bf58337682b9109dd7c", func := "orlop/orloplaw06.CutProofs", spec := "cutProofs", unfollowed := true, recurses := true, named := ["math/bits.deBruijn32tab", "math/bits.deBruijn64tab"], apart := false, laid := [("math/bits.deBruijn32tab", laid_math_bits_deBruijn32tab), ("math/bits.deBruijn64tab", laid_math_bits_deBruijn64tab)], narrowed := true }
def CutProofsUptoSaid : Prop := cutProofsUptoRow.holds Tryz.pinned (OpenSpec.upto cutProofsSpec)

/-- 'orloplaw06.CutKnown', WHERE WHAT IT READS IS OF BULK AT MOST 1048576: true; the input reads as it did. -/
def cutKnownUptoRow : OpenClaim := { program := "ytmjfcbpgnmajpaagreatdoor", sum := "6c522ab67700b47b9924ee87be31be9fcc5f28f8775f3bf58337682b9109dd7c", func := "orlop/orloplaw06.CutKnown", spec := "cutKnown", unfollowed := true, recurses := true, named := ["math/bits.deBruijn32tab", "math/bits.deBruijn64tab"], apart := false, laid := [("math/bits.deBruijn32tab", laid_math_bits_deBruijn32tab), ("math/bits.deBruijn64tab", laid_math_bits_deBruijn64tab)], narrowed := true }
def CutKnownUptoSaid : Prop := cutKnownUptoRow.holds Tryz.pinned (OpenSpec.upto cutKnownSpec)

/-- 'orloplaw06.CutTrue', WHERE WHAT IT READS IS OF BULK AT MOST 1048576: true; the input reads as it did. -/
def cutTrueUptoRow : OpenClaim := { program := "ytmjfcbpgnmajpaagreatdoor", sum := "6c522ab67700b47b9924ee87be31be9fcc5f28f8775f3bf58337682b9109dd7c", func := "orlop/orloplaw06.CutTrue", spec := "cutTrue", unfollowed := true, recurses := true, named := ["math/bits.deBruijn32tab", "math/bits.deBruijn64tab"], apart := false, laid := [("math/bits.deBruijn32tab", laid_math_bits_deBruijn32tab), ("math/bits.deBruijn64tab", laid_math_bits_deBruijn64tab)], narrowed := true }
def CutTrueUptoSaid : Prop := cutTrueUptoRow.holds Tryz.pinned (OpenSpec.upto cutTrueSpec)

/-- 'orloplaw06.CutNone', WHERE WHAT IT READS IS OF BULK AT MOST 1048576: true; the input reads as it did. -/
def cutNoneUptoRow : OpenClaim := { program := "ytmjfcbpgnmajpaagreatdoor", sum := "6c522ab67700b47b9924ee87be31be9fcc5f28f8775f3bf58337682b9109dd7c", func := "orlop/orloplaw06.CutNone", spec := "cutNone", unfollowed := true, recurses := true, named := ["math/bits.deBruijn32tab", "math/bits.deBruijn64tab"], apart := false, laid := [("math/bits.deBruijn32tab", laid_math_bits_deBruijn32tab), ("math/bits.deBruijn64tab", laid_math_bits_deBruijn64tab)], narrowed := true }
def CutNoneUptoSaid : Prop := cutNoneUptoRow.holds Tryz.pinned (OpenSpec.upto cutNoneSpec)

/-- 'orloplaw06.CutLater', WHERE WHAT IT READS IS OF BULK AT MOST 1048576: true; the input reads as it did. -/
def cutLaterUptoRow : OpenClaim := { program := "ytmjfcbpgnmajpaagreatdoor", sum := "6c522ab67700b47b9924ee87be31be9fcc5f28f8775f3bf58337682b9109dd7c", func := "orlop/orloplaw06.CutLater", spec := "cutLater", unfollowed := true, recurses := true, named := ["math/bits.deBruijn32tab", "math/bits.deBruijn64tab"], apart := false, laid := [("math/bits.deBruijn32tab", laid_math_bits_deBruijn32tab), ("math/bits.deBruijn64tab", laid_math_bits_deBruijn64tab)], narrowed := true }
def CutLaterUptoSaid : Prop := cutLaterUptoRow.holds Tryz.pinned (OpenSpec.upto cutLaterSpec)

/-- 'orloplaw06.CutMost', WHERE WHAT IT READS IS OF BULK AT MOST 1048576: true; the input reads as it did. -/
def cutMostUptoRow : OpenClaim := { program := "ytmjfcbpgnmajpaagreatdoor", sum := "6c522ab67700b47b9924ee87be31be9fcc5f28f8775f3bf58337682b9109dd7c", func := "orlop/orloplaw06.CutMost", spec := "cutMost", unfollowed := true, recurses := true, named := ["math/bits.deBruijn32tab", "math/bits.deBruijn64tab"], apart := false, laid := [("math/bits.deBruijn32tab", laid_math_bits_deBruijn32tab), ("math/bits.deBruijn64tab", laid_math_bits_deBruijn64tab)], narrowed := true }
def CutMostUptoSaid : Prop := cutMostUptoRow.holds Tryz.pinned (OpenSpec.upto cutMostSpec)

/-- 'orloplaw06.CutTo', WHERE WHAT IT READS IS OF BULK AT MOST 1048576: true; the input reads as it did. -/
def cutToUptoRow : OpenClaim := { program := "ytmjfcbpgnmajpaagreatdoor", sum := "6c522ab67700b47b9924ee87be31be9fcc5f28f8775f3bf58337682b9109dd7c", func := "orlop/orloplaw06.CutTo", spec := "cutTo", unfollowed := true, recurses := true, named := ["math/bits.deBruijn32tab", "math/bits.deBruijn64tab"], apart := false, laid := [("math/bits.deBruijn32tab", laid_math_bits_deBruijn32tab), ("math/bits.deBruijn64tab", laid_math_bits_deBruijn64tab)], narrowed := true }
def CutToUptoSaid : Prop := cutToUptoRow.holds Tryz.pinned (OpenSpec.upto cutToSpec)

/-- 'orloplaw06.CutEasier', WHERE WHAT IT READS IS OF BULK AT MOST 1048576: true; the input reads as it did. -/
def cutEasierUptoRow : OpenClaim := { program := "ytmjfcbpgnmajpaagreatdoor", sum := "6c522ab67700b47b9924ee87be31be9fcc5f28f8775f3bf58337682b9109dd7c", func := "orlop/orloplaw06.CutEasier", spec := "cutEasier", unfollowed := true, recurses := true, named := ["math/bits.deBruijn32tab", "math/bits.deBruijn64tab"], apart := false, laid := [("math/bits.deBruijn32tab", laid_math_bits_deBruijn32tab), ("math/bits.deBruijn64tab", laid_math_bits_deBruijn64tab)], narrowed := true }
def CutEasierUptoSaid : Prop := cutEasierUptoRow.holds Tryz.pinned (OpenSpec.upto cutEasierSpec)

/-- 'orloplaw06.CutAbove', WHERE WHAT IT READS IS OF BULK AT MOST 1048576: true; the input reads as it did. -/
def cutAboveUptoRow : OpenClaim := { program := "ytmjfcbpgnmajpaagreatdoor", sum := "6c522ab67700b47b9924ee87be31be9fcc5f28f8775f3bf58337682b9109dd7c", func := "orlop/orloplaw06.CutAbove", spec := "cutAbove", unfollowed := true, recurses := true, named := ["math/bits.deBruijn32tab", "math/bits.deBruijn64tab"], apart := false, laid := [("math/bits.deBruijn32tab", laid_math_bits_deBruijn32tab), ("math/bits.deBruijn64tab", laid_math_bits_deBruijn64tab)], narrowed := true }
def CutAboveUptoSaid : Prop := cutAboveUptoRow.holds Tryz.pinned (OpenSpec.upto cutAboveSpec)

end Rows
end Go.Proofs.YtmjfcbpgnmajpaaGreatDoor
