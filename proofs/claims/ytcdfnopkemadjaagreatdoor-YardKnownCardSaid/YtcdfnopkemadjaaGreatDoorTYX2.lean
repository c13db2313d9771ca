/- The examples of chapter 13: another call. -/
import Derived.Test.YtcdfnopkemadjaaGreatDoorP26
namespace Go.AM
open Go.Proofs
set_option maxRecDepth 100000
def ow2:aA:=⟨Ku,[ng,(.str ⟨#[51,32,114,117,110,32,48,32,48,10,51,32,98,108,97,110,107,32,53,10,51,32,98,108,97,110,107,32,51,10,52,32,98,108,111,119,32,100,10]⟩)],(.tup [(.agg [jj 4,(.bool true),jj 0,jj 0,(.slice 1 [jj 3,jj 5]),(.slice 2 [(.agg [jj 3,(.bool false)])]),(.slice 3 []),(.slice 1 []),(.slice 5 []),(.slice 4 [])]),jj 0])⟩
theorem Lw:aq Tryz.prog ow2:=knL ak (by kernel_rfl) (by kernel_rfl) (by kernel_rfl) (by kernel_rfl)
end Go.AM
