/- The examples of chapter 13: equal answers. -/
import Derived.Test.YtcdfnopkemadjaaGreatDoorP26
namespace Go.AM
open Go.Proofs
set_option maxRecDepth 100000
theorem wS:aq Tryz.prog (aN 23):=kn aZ (by kernel_rfl) (by kernel_rfl) (by kernel_rfl) (by kernel_rfl)
theorem vr:aq Tryz.prog (aN 22):=kn aZ (by kernel_rfl) (by kernel_rfl) (by kernel_rfl) (by kernel_rfl)
theorem uJ:aq Tryz.prog (aN 21):=kn aZ (by kernel_rfl) (by kernel_rfl) (by kernel_rfl) (by kernel_rfl)
theorem wE:aq Tryz.prog (aN 20):=kn aZ (by kernel_rfl) (by kernel_rfl) (by kernel_rfl) (by kernel_rfl)
theorem wO:aq Tryz.prog (aN 19):=kn aZ (by kernel_rfl) (by kernel_rfl) (by kernel_rfl) (by kernel_rfl)
theorem u7:aq Tryz.prog (aN 18):=kn aZ (by kernel_rfl) (by kernel_rfl) (by kernel_rfl) (by kernel_rfl)
theorem u0:aq Tryz.prog (aN 17):=kn aZ (by kernel_rfl) (by kernel_rfl) (by kernel_rfl) (by kernel_rfl)
theorem we:aq Tryz.prog (aN 16):=kn aZ (by kernel_rfl) (by kernel_rfl) (by kernel_rfl) (by kernel_rfl)
theorem vZ:aq Tryz.prog (aN 15):=kn aZ (by kernel_rfl) (by kernel_rfl) (by kernel_rfl) (by kernel_rfl)
theorem zN:aq Tryz.prog (aN 5):=kn aZ (by kernel_rfl) (by kernel_rfl) (by kernel_rfl) (by kernel_rfl)
theorem Aj:aq Tryz.prog (aN 6):=kn aZ (by kernel_rfl) (by kernel_rfl) (by kernel_rfl) (by kernel_rfl)
theorem BL:aq Tryz.prog (aN 7):=kn aZ (by kernel_rfl) (by kernel_rfl) (by kernel_rfl) (by kernel_rfl)
end Go.AM
