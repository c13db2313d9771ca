/- The examples of chapter 13: equal answers. -/
import Derived.Test.YtcdfnopkemadjaaGreatDoorP26
namespace Go.AM
open Go.Proofs
set_option maxRecDepth 100000
theorem vB:aq Tryz.prog (aN 14):=kn aZ (by kernel_rfl) (by kernel_rfl) (by kernel_rfl) (by kernel_rfl)
theorem vF:aq Tryz.prog (aN 13):=kn aZ (by kernel_rfl) (by kernel_rfl) (by kernel_rfl) (by kernel_rfl)
theorem vK:aq Tryz.prog (aN 12):=kn aZ (by kernel_rfl) (by kernel_rfl) (by kernel_rfl) (by kernel_rfl)
theorem uR:aq Tryz.prog (aN 11):=kn aZ (by kernel_rfl) (by kernel_rfl) (by kernel_rfl) (by kernel_rfl)
theorem wm:aq Tryz.prog (aN 10):=kn aZ (by kernel_rfl) (by kernel_rfl) (by kernel_rfl) (by kernel_rfl)
theorem Er:aq Tryz.prog (aN 9):=kn aZ (by kernel_rfl) (by kernel_rfl) (by kernel_rfl) (by kernel_rfl)
theorem CE:aq Tryz.prog (aN 8):=kn aZ (by kernel_rfl) (by kernel_rfl) (by kernel_rfl) (by kernel_rfl)
end Go.AM
