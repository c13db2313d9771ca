/- The examples of chapter 13: known calls. -/
import Derived.Test.YtcdfnopkemadjaaGreatDoorTY4
namespace Go.AM
open Go.Proofs
set_option maxRecDepth 100000
def PJ:aA:=⟨qO,[(.agg [zv0,zv1,zv2,(.slice 5 []),(.slice 4 [])])],(.tup [jj 0,jj 0,jj 0])⟩
theorem IU:aq Tryz.prog PJ:=kn sg (by kernel_rfl) (by kernel_rfl) (by kernel_rfl) (by kernel_rfl)
def Ul:List aA:=PJ :: SP
theorem sM:aB Tryz.prog Ul:=⟨IU,sg⟩
def ac2:aA:=⟨YZ,[(.agg [jj 1000,jj 1200,cV])],(.tup [jj 0,jj 0,jj 0])⟩
theorem HD:aq Tryz.prog ac2:=kn sM (by kernel_rfl) (by kernel_rfl) (by kernel_rfl) (by kernel_rfl)
def VE:List aA:=ac2 :: Ul
theorem tS:aB Tryz.prog VE:=⟨HD,sM⟩
def OD:aA:=⟨Zb,[ME],(.tup [jj 0,jj 0,jj 0])⟩
theorem HS:aq Tryz.prog OD:=kn tS (by kernel_rfl) (by kernel_rfl) (by kernel_rfl) (by kernel_rfl)
def ach:List aA:=OD :: VE
theorem tM:aB Tryz.prog ach:=⟨HS,tS⟩
def adh:aA:=⟨eR,[(.str ⟨#[51]⟩)],jj 3⟩
theorem Iw:aq Tryz.prog adh:=kn tM (by kernel_rfl) (by kernel_rfl) (by kernel_rfl) (by kernel_rfl)
def WU:List aA:=adh :: ach
theorem uj:aB Tryz.prog WU:=⟨Iw,tM⟩
def acU:aA:=⟨eR,[(.str ⟨#[98,111,119]⟩)],jj (-1)⟩
theorem Hd:aq Tryz.prog acU:=kn uj (by kernel_rfl) (by kernel_rfl) (by kernel_rfl) (by kernel_rfl)
def VT:List aA:=acU :: WU
theorem tJ:aB Tryz.prog VT:=⟨Hd,uj⟩
def VX:aA:=⟨eR,[(.str ⟨#[50,48]⟩)],jj 20⟩
theorem G8:aq Tryz.prog VX:=kn tJ (by kernel_rfl) (by kernel_rfl) (by kernel_rfl) (by kernel_rfl)
def adU:List aA:=VX :: VT
theorem tT:aB Tryz.prog adU:=⟨G8,tJ⟩
end Go.AM
