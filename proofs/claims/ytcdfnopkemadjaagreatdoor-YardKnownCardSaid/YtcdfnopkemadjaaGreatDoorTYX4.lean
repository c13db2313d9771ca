/- The examples of chapter 13: another call. -/
import Derived.Test.YtcdfnopkemadjaaGreatDoorP26
namespace Go.AM
open Go.Proofs
set_option maxRecDepth 100000
def ow4:aA:=⟨Ku,[ng,(.str ⟨#[51,32,109,97,121,10]⟩)],(.tup [(.agg [jj 0,(.bool false),jj 0,jj 0,(.slice 1 []),(.slice 2 []),(.slice 3 []),(.slice 1 []),(.slice 5 []),(.slice 4 [])]),jj 6])⟩
theorem M4:aq Tryz.prog ow4:=knL ak (by kernel_rfl) (by kernel_rfl) (by kernel_rfl) (by kernel_rfl)
end Go.AM
