/- The examples of chapter 13: another call. -/
import Derived.Test.YtcdfnopkemadjaaGreatDoorTYB1
import Derived.Test.YtcdfnopkemadjaaGreatDoorTYB2
namespace Go.AM
open Go.Proofs
set_option maxRecDepth 100000
def ow0 : aA := ⟨PQ, [ng, qT 20 n6], (.tup [(.agg [jj 5, (.bool true), jj 0, jj 0, (.slice 1 [jj 3, jj 5]), (.slice 2 [(.agg [jj 3, (.bool false)]), (.agg [jj 4, (.bool false)]), (.agg [jj 3, (.bool true)]), (.agg [jj 4, (.bool true)])]), (.slice 3 [(.agg [jj 20, jj 1, jj 6])]), (.slice 1 [jj 0, jj 2]), (.slice 5 []), (.slice 4 [])]), jj 0])⟩
theorem Lm : aq Tryz.prog ow0 := knB ak (t := [lb0, lb1, lb2, lb3, lb4, lb5, lb6, lb7, lb8, lb9, lb10, lb11, lb12, lb13, lb14, lb15, lb16, lb17, lb18, lb19]) ⟨lb0_ok, lb1_ok, lb2_ok, lb3_ok, lb4_ok, lb5_ok, lb6_ok, lb7_ok, lb8_ok, lb9_ok, lb10_ok, lb11_ok, lb12_ok, lb13_ok, lb14_ok, lb15_ok, lb16_ok, lb17_ok, lb18_ok, lb19_ok, trivial⟩ (by kernel_rfl) (by kernel_rfl) (by kernel_rfl) (by kernel_rfl)
end Go.AM
