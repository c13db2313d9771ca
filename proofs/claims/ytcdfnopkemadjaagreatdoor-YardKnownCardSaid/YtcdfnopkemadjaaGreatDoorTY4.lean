/- The examples of chapter 13: known calls. -/
import Derived.Test.YtcdfnopkemadjaaGreatDoorP22
namespace Go.AM
open Go.Proofs
set_option maxRecDepth 100000
def UJ:aA:=⟨O4,[(.agg [aX,(.slice 10 [])]),jj 40000],(.tup [(.agg [aX]),jj 0])⟩
theorem ID:aq Tryz.prog UJ:=kn tY (by kernel_rfl) (by kernel_rfl) (by kernel_rfl) (by kernel_rfl)
def aat:List aA:=UJ :: UE
theorem sK:aB Tryz.prog aat:=⟨ID,tY⟩
def U8:aA:=⟨wC,[Lx],(.tup [jj 0,jj 0,jj 0])⟩
theorem HY:aq Tryz.prog U8:=kn sK (by kernel_rfl) (by kernel_rfl) (by kernel_rfl) (by kernel_rfl)
def VG:List aA:=U8 :: aat
theorem tN:aB Tryz.prog VG:=⟨HY,sK⟩
def aau:aA:=⟨wT,[Lx,(.agg [jj 0,jj 60])],(.tup [jj 0,jj 0,jj 0])⟩
theorem Hz:aq Tryz.prog aau:=kn tN (by kernel_rfl) (by kernel_rfl) (by kernel_rfl) (by kernel_rfl)
def WW:List aA:=aau :: VG
theorem tU:aB Tryz.prog WW:=⟨Hz,tN⟩
def VN:aA:=⟨Jz,[(.agg [zv9,bR])],(.tup [jj 0,jj 0,jj 0])⟩
theorem IY:aq Tryz.prog VN:=kn tU (by kernel_rfl) (by kernel_rfl) (by kernel_rfl) (by kernel_rfl)
def WT:List aA:=VN :: WW
theorem s8:aB Tryz.prog WT:=⟨IY,tU⟩
def Uo:aA:=⟨qe,[(.agg [zv9,bR]),(.slice 1 []),(.slice 2 [])],(.tup [(.agg [(.slice 1 []),(.slice 1 [])]),jj 0])⟩
theorem Ha:aq Tryz.prog Uo:=kn s8 (by kernel_rfl) (by kernel_rfl) (by kernel_rfl) (by kernel_rfl)
def acs:List aA:=Uo :: WT
theorem sC:aB Tryz.prog acs:=⟨Ha,s8⟩
def RQ:aA:=⟨MW,[Pf],(.tup [jj 0,jj 0,jj 0])⟩
theorem IW:aq Tryz.prog RQ:=kn sC (by kernel_rfl) (by kernel_rfl) (by kernel_rfl) (by kernel_rfl)
def SP:List aA:=RQ :: acs
theorem sg:aB Tryz.prog SP:=⟨IW,sC⟩
end Go.AM
