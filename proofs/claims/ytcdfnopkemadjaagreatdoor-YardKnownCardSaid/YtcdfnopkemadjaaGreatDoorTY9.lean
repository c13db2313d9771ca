/- The examples of chapter 13: known calls. -/
import Derived.Test.YtcdfnopkemadjaaGreatDoorTY8
namespace Go.AM
open Go.Proofs
set_option maxRecDepth 100000
def NF:aA:=⟨Ba,[zv8,(.slice 3 [(.agg [jj 20,jj 1,jj 6])]),jj 20],(.tup [jj 20,jj 0])⟩
theorem Hv:aq Tryz.prog NF:=kn td (by kernel_rfl) (by kernel_rfl) (by kernel_rfl) (by kernel_rfl)
def T2:List aA:=NF :: To
theorem ti:aB Tryz.prog T2:=⟨Hv,td⟩
def SY:aA:=⟨eR,[(.str ⟨#[50,49]⟩)],jj 21⟩
theorem Hr:aq Tryz.prog SY:=kn ti (by kernel_rfl) (by kernel_rfl) (by kernel_rfl) (by kernel_rfl)
def abR:List aA:=SY :: T2
theorem sk:aB Tryz.prog abR:=⟨Hr,ti⟩
def Z7:aA:=⟨Ba,[zv8,(.slice 3 [(.agg [jj 20,jj 1,jj 6])]),jj 21],(.tup [jj (-1),jj 0])⟩
theorem GV:aq Tryz.prog Z7:=kn sk (by kernel_rfl) (by kernel_rfl) (by kernel_rfl) (by kernel_rfl)
def Yr:List aA:=Z7 :: abR
theorem s7:aB Tryz.prog Yr:=⟨GV,sk⟩
def VR:aA:=⟨eR,[(.str ⟨#[109,97,115,116]⟩)],jj (-1)⟩
theorem It:aq Tryz.prog VR:=kn s7 (by kernel_rfl) (by kernel_rfl) (by kernel_rfl) (by kernel_rfl)
def aan:List aA:=VR :: Yr
theorem tu:aB Tryz.prog aan:=⟨It,s7⟩
def Pz:aA:=⟨MW,[xP],(.tup [jj 0,jj 0,jj 0])⟩
theorem HF:aq Tryz.prog Pz:=kn tu (by kernel_rfl) (by kernel_rfl) (by kernel_rfl) (by kernel_rfl)
def ael:List aA:=Pz :: aan
theorem tH:aB Tryz.prog ael:=⟨HF,tu⟩
def Ux:aA:=⟨wC,[ad6],(.tup [jj 0,jj 0,jj 0])⟩
theorem IL:aq Tryz.prog Ux:=kn tH (by kernel_rfl) (by kernel_rfl) (by kernel_rfl) (by kernel_rfl)
def XD:List aA:=Ux :: ael
theorem tF:aB Tryz.prog XD:=⟨IL,tH⟩
end Go.AM
