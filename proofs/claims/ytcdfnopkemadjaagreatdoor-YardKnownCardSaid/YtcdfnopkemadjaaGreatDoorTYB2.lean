/- The examples of chapter 13: lines behind yard.after. -/
import Derived.Test.YtcdfnopkemadjaaGreatDoorTYB0
namespace Go.AM
open Go.Proofs
set_option maxRecDepth 100000
theorem lb10_ok : LbOk lb10 := LbOk.of ak (by kernel_rfl)
theorem lb11_ok : LbOk lb11 := LbOk.of ak (by kernel_rfl)
theorem lb12_ok : LbOk lb12 := LbOk.of ak (by kernel_rfl)
theorem lb13_ok : LbOk lb13 := LbOk.of ak (by kernel_rfl)
theorem lb14_ok : LbOk lb14 := LbOk.of ak (by kernel_rfl)
theorem lb15_ok : LbOk lb15 := LbOk.of ak (by kernel_rfl)
theorem lb16_ok : LbOk lb16 := LbOk.of ak (by kernel_rfl)
theorem lb17_ok : LbOk lb17 := LbOk.of ak (by kernel_rfl)
theorem lb18_ok : LbOk lb18 := LbOk.of ak (by kernel_rfl)
theorem lb19_ok : LbOk lb19 := LbOk.of ak (by kernel_rfl)
end Go.AM
