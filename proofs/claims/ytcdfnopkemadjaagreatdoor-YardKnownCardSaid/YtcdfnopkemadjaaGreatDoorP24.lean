/- The examples of chapter 13: known calls. -/
import Derived.Test.YtcdfnopkemadjaaGreatDoorTY6
namespace Go.AM
open Go.Proofs
set_option maxRecDepth 100000
def acL:aA:=⟨qe,[(.agg [zv9,bR]),(.slice 1 [jj 5]),(.slice 2 [])],(.tup [(.agg [(.slice 1 []),(.slice 1 [])]),jj 0])⟩
theorem G2:aq Tryz.prog acL:=kn ug (by kernel_rfl) (by kernel_rfl) (by kernel_rfl) (by kernel_rfl)
def abq:List aA:=acL :: Wl
theorem tr:aB Tryz.prog abq:=⟨G2,ug⟩
def UF:aA:=⟨qe,[(.agg [zv9,bR]),(.slice 1 [jj 3,jj 5]),(.slice 2 [])],(.tup [(.agg [(.slice 1 []),(.slice 1 [])]),jj 0])⟩
theorem II:aq Tryz.prog UF:=kn tr (by kernel_rfl) (by kernel_rfl) (by kernel_rfl) (by kernel_rfl)
def Z0:List aA:=UF :: abq
theorem tZ:aB Tryz.prog Z0:=⟨II,tr⟩
def UZ:aA:=⟨eR,[(.str ⟨#[52]⟩)],jj 4⟩
theorem G7:aq Tryz.prog UZ:=kn tZ (by kernel_rfl) (by kernel_rfl) (by kernel_rfl) (by kernel_rfl)
def ZE:List aA:=UZ :: Z0
theorem tk:aB Tryz.prog ZE:=⟨G7,tZ⟩
def VY:aA:=⟨eR,[(.str ⟨#[100]⟩)],jj (-1)⟩
theorem G0:aq Tryz.prog VY:=kn tk (by kernel_rfl) (by kernel_rfl) (by kernel_rfl) (by kernel_rfl)
def OW:List aA:=VY :: ZE
theorem tt:aB Tryz.prog OW:=⟨G0,tk⟩
def Zd:aA:=⟨qe,[(.agg [zv9,bR]),(.slice 1 [jj 3,jj 5]),(.slice 2 [(.agg [jj 3,(.bool false)])])],(.tup [(.agg [(.slice 1 [jj 3]),(.slice 1 [jj 3])]),jj 0])⟩
theorem Ip:aq Tryz.prog Zd:=kn tt (by kernel_rfl) (by kernel_rfl) (by kernel_rfl) (by kernel_rfl)
def ac0:List aA:=Zd :: OW
theorem sn:aB Tryz.prog ac0:=⟨Ip,tt⟩
def Rp:aA:=⟨eR,[(.str ⟨#[101]⟩)],jj (-1)⟩
theorem HJ:aq Tryz.prog Rp:=kn sn (by kernel_rfl) (by kernel_rfl) (by kernel_rfl) (by kernel_rfl)
def Wt:List aA:=Rp :: ac0
theorem sW:aB Tryz.prog Wt:=⟨HJ,sn⟩
end Go.AM
