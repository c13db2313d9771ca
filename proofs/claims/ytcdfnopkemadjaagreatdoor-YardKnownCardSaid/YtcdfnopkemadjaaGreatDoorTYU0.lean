/- The examples of chapter 13: equal answers. -/
import Derived.Test.YtcdfnopkemadjaaGreatDoorP26
namespace Go.AM
open Go.Proofs
set_option maxRecDepth 100000
theorem wv:aq Tryz.prog (aN 30):=kn aZ (by kernel_rfl) (by kernel_rfl) (by kernel_rfl) (by kernel_rfl)
theorem uA:aq Tryz.prog (aN 29):=kn aZ (by kernel_rfl) (by kernel_rfl) (by kernel_rfl) (by kernel_rfl)
theorem vf:aq Tryz.prog (aN 28):=kn aZ (by kernel_rfl) (by kernel_rfl) (by kernel_rfl) (by kernel_rfl)
theorem v8:aq Tryz.prog (aN 27):=kn aZ (by kernel_rfl) (by kernel_rfl) (by kernel_rfl) (by kernel_rfl)
theorem wb:aq Tryz.prog (aN 26):=kn aZ (by kernel_rfl) (by kernel_rfl) (by kernel_rfl) (by kernel_rfl)
theorem vV:aq Tryz.prog (aN 25):=kn aZ (by kernel_rfl) (by kernel_rfl) (by kernel_rfl) (by kernel_rfl)
theorem uV:aq Tryz.prog (aN 24):=kn aZ (by kernel_rfl) (by kernel_rfl) (by kernel_rfl) (by kernel_rfl)
theorem zM:aq Tryz.prog (aN 0):=kn aZ (by kernel_rfl) (by kernel_rfl) (by kernel_rfl) (by kernel_rfl)
theorem Eo:aq Tryz.prog (aN 1):=kn aZ (by kernel_rfl) (by kernel_rfl) (by kernel_rfl) (by kernel_rfl)
theorem Au:aq Tryz.prog (aN 2):=kn aZ (by kernel_rfl) (by kernel_rfl) (by kernel_rfl) (by kernel_rfl)
theorem Ak:aq Tryz.prog (aN 3):=kn aZ (by kernel_rfl) (by kernel_rfl) (by kernel_rfl) (by kernel_rfl)
theorem BW:aq Tryz.prog (aN 4):=kn aZ (by kernel_rfl) (by kernel_rfl) (by kernel_rfl) (by kernel_rfl)
end Go.AM
