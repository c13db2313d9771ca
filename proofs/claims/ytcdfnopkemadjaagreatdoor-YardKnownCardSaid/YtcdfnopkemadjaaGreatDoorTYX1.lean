/- The examples of chapter 13: another call. -/
import Derived.Test.YtcdfnopkemadjaaGreatDoorP26
namespace Go.AM
open Go.Proofs
set_option maxRecDepth 100000
def ow1:aA:=⟨Zi,[ng,qT 7 n6],(.tup [(.str ⟨#[51,32,114,117,110,32,48,32,48,10,51,32,98,108,97,110,107,32,53,10,51,32,98,108,97,110,107,32,51,10,52,32,98,108,111,119,32,100,10]⟩),jj 0])⟩
theorem JD:aq Tryz.prog ow1:=knL ak (by kernel_rfl) (by kernel_rfl) (by kernel_rfl) (by kernel_rfl)
end Go.AM
