/- The examples of chapter 13: another call. -/
import Derived.Test.YtcdfnopkemadjaaGreatDoorP26
namespace Go.AM
open Go.Proofs
set_option maxRecDepth 100000
def ow3:aA:=⟨aeW,[ng,qT 17 n6],(.tup [(.slice 2 [(.agg [jj 0,jj 0]),(.agg [jj 1000,jj 1200]),(.agg [jj 0,jj 0]),(.agg [jj 0,jj 0]),(.agg [jj 0,jj 0])]),(.agg [jj 2500,jj 2600]),jj 0])⟩
theorem Kd:aq Tryz.prog ow3:=knL ak (by kernel_rfl) (by kernel_rfl) (by kernel_rfl) (by kernel_rfl)
end Go.AM
