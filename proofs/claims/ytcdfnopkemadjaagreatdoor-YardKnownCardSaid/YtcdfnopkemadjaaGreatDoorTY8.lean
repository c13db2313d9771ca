/- The examples of chapter 13: known calls. -/
import Derived.Test.YtcdfnopkemadjaaGreatDoorP24
namespace Go.AM
open Go.Proofs
set_option maxRecDepth 100000
def aag:aA:=⟨qe,[(.agg [zv9,bR]),(.slice 1 [jj 3,jj 5]),(.slice 2 [(.agg [jj 3,(.bool false)]),(.agg [jj 4,(.bool false)])])],(.tup [(.agg [(.slice 1 [jj 3,jj 4]),(.slice 1 [jj 3,jj 4])]),jj 0])⟩
theorem Hs:aq Tryz.prog aag:=kn sW (by kernel_rfl) (by kernel_rfl) (by kernel_rfl) (by kernel_rfl)
def ZR:List aA:=aag :: Wt
theorem su:aB Tryz.prog ZR:=⟨Hs,sW⟩
def aeP:aA:=⟨qe,[(.agg [zv9,bR]),(.slice 1 [jj 3,jj 5]),(.slice 2 [(.agg [jj 3,(.bool false)]),(.agg [jj 4,(.bool false)]),(.agg [jj 3,(.bool true)])])],(.tup [(.agg [(.slice 1 [jj 3,jj 4]),(.slice 1 [jj 4])]),jj 0])⟩
theorem Ic:aq Tryz.prog aeP:=kn su (by kernel_rfl) (by kernel_rfl) (by kernel_rfl) (by kernel_rfl)
def UQ:List aA:=aeP :: ZR
theorem tf:aB Tryz.prog UQ:=⟨Ic,su⟩
def Xg:aA:=⟨qe,[(.agg [zv9,bR]),(.slice 1 [jj 3,jj 5]),fo],(.tup [(.agg [(.slice 1 [jj 3,jj 4]),(.slice 1 [])]),jj 0])⟩
theorem I4:aq Tryz.prog Xg:=kn tf (by kernel_rfl) (by kernel_rfl) (by kernel_rfl) (by kernel_rfl)
def adM:List aA:=Xg :: UQ
theorem sI:aB Tryz.prog adM:=⟨I4,tf⟩
def Nw:aA:=⟨eR,[(.str ⟨#[110,101,119]⟩)],jj (-1)⟩
theorem Is:aq Tryz.prog Nw:=kn sI (by kernel_rfl) (by kernel_rfl) (by kernel_rfl) (by kernel_rfl)
def acf:List aA:=Nw :: adM
theorem sA:aB Tryz.prog acf:=⟨Is,sI⟩
def aaK:aA:=⟨eR,[(.str ⟨#[54]⟩)],jj 6⟩
theorem I9:aq Tryz.prog aaK:=kn sA (by kernel_rfl) (by kernel_rfl) (by kernel_rfl) (by kernel_rfl)
def Vy:List aA:=aaK :: acf
theorem tn:aB Tryz.prog Vy:=⟨I9,sA⟩
def OX:aA:=⟨Jl,[zv8,(.slice 3 [(.agg [jj 20,jj 1,jj 6])]),jj 20],(.tup [(.agg [jj 4,jj 8]),jj 0])⟩
theorem IK:aq Tryz.prog OX:=kn tn (by kernel_rfl) (by kernel_rfl) (by kernel_rfl) (by kernel_rfl)
def To:List aA:=OX :: Vy
theorem td:aB Tryz.prog To:=⟨IK,tn⟩
end Go.AM
