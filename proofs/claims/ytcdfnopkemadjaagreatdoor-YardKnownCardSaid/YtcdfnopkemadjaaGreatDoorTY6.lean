/- The examples of chapter 13: known calls. -/
import Derived.Test.YtcdfnopkemadjaaGreatDoorP23
namespace Go.AM
open Go.Proofs
set_option maxRecDepth 100000
def aeF:aA:=⟨eR,[(.str ⟨#[49]⟩)],jj 1⟩
theorem H3:aq Tryz.prog aeF:=kn tT (by kernel_rfl) (by kernel_rfl) (by kernel_rfl) (by kernel_rfl)
def SD:List aA:=aeF :: adU
theorem sL:aB Tryz.prog SD:=⟨H3,tT⟩
def Sm:aA:=⟨eR,[(.str ⟨#[48]⟩)],jj 0⟩
theorem I6:aq Tryz.prog Sm:=kn sL (by kernel_rfl) (by kernel_rfl) (by kernel_rfl) (by kernel_rfl)
def VO:List aA:=Sm :: SD
theorem sw:aB Tryz.prog VO:=⟨I6,sL⟩
def ZO:aA:=⟨BS,[zv6,(.agg [jj 300,jj 310,jj 5]),jj 1,jj 0],(.tup [(.agg [jj 20,jj 300,jj 560,jj (-10)]),jj 12500,jj 0])⟩
theorem H8:aq Tryz.prog ZO:=kn sw (by kernel_rfl) (by kernel_rfl) (by kernel_rfl) (by kernel_rfl)
def Y9:List aA:=ZO :: VO
theorem sT:aB Tryz.prog Y9:=⟨H8,sw⟩
def T4:aA:=⟨BS,[zv6,(.agg [jj 300,jj 310,jj 5]),jj 0,jj 0],(.tup [(.agg [jj 0,jj 0,jj 0,jj 0]),jj 0,jj 9])⟩
theorem GR:aq Tryz.prog T4:=kn sT (by kernel_rfl) (by kernel_rfl) (by kernel_rfl) (by kernel_rfl)
def Nx:List aA:=T4 :: Y9
theorem sQ:aB Tryz.prog Nx:=⟨GR,sT⟩
def Us:aA:=⟨JB,[zv6,(.agg [jj 300,jj 310,jj 5]),jj 0,jj 0],(.tup [(.agg [jj 7200,jj 12000]),jj 0])⟩
theorem HE:aq Tryz.prog Us:=kn sQ (by kernel_rfl) (by kernel_rfl) (by kernel_rfl) (by kernel_rfl)
def ad5:List aA:=Us :: Nx
theorem sa:aB Tryz.prog ad5:=⟨HE,sQ⟩
def acC:aA:=⟨eR,[(.str ⟨#[53]⟩)],jj 5⟩
theorem Hc:aq Tryz.prog acC:=kn sa (by kernel_rfl) (by kernel_rfl) (by kernel_rfl) (by kernel_rfl)
def Wl:List aA:=acC :: ad5
theorem ug:aB Tryz.prog Wl:=⟨Hc,sa⟩
end Go.AM
