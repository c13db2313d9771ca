/- The examples of chapter 13: lines behind yard.after. -/
import Derived.Test.YtcdfnopkemadjaaGreatDoorTYB0
namespace Go.AM
open Go.Proofs
set_option maxRecDepth 100000
theorem lb0_ok : LbOk lb0 := LbOk.of ak (by kernel_rfl)
theorem lb1_ok : LbOk lb1 := LbOk.of ak (by kernel_rfl)
theorem lb2_ok : LbOk lb2 := LbOk.of ak (by kernel_rfl)
theorem lb3_ok : LbOk lb3 := LbOk.of ak (by kernel_rfl)
theorem lb4_ok : LbOk lb4 := LbOk.of ak (by kernel_rfl)
theorem lb5_ok : LbOk lb5 := LbOk.of ak (by kernel_rfl)
theorem lb6_ok : LbOk lb6 := LbOk.of ak (by kernel_rfl)
theorem lb7_ok : LbOk lb7 := LbOk.of ak (by kernel_rfl)
theorem lb8_ok : LbOk lb8 := LbOk.of ak (by kernel_rfl)
theorem lb9_ok : LbOk lb9 := LbOk.of ak (by kernel_rfl)
end Go.AM
