/- The examples of chapter 13: known calls. -/
import Derived.Test.YtcdfnopkemadjaaGreatDoorP25
namespace Go.AM
open Go.Proofs
set_option maxRecDepth 100000
def S5:aA:=⟨Ja,[zv4],(.tup [(.slice 1 [jj 1]),jj 0])⟩
theorem H5:aq Tryz.prog S5:=kn sR (by kernel_rfl) (by kernel_rfl) (by kernel_rfl) (by kernel_rfl)
def X3:List aA:=S5 :: Xs
theorem ss:aB Tryz.prog X3:=⟨H5,sR⟩
def Rc:aA:=⟨Je,[(.agg [jj 1000,jj 1200,cV])],(.tup [(.slice 2 [(.agg [jj 300,jj 400]),(.agg [jj 400,jj 654]),(.agg [jj 163,jj 300]),(.agg [jj 0,jj 0])]),jj 0])⟩
theorem Ik:aq Tryz.prog Rc:=kn ss (by kernel_rfl) (by kernel_rfl) (by kernel_rfl) (by kernel_rfl)
def Q5:List aA:=Rc :: X3
theorem sP:aB Tryz.prog Q5:=⟨Ik,ss⟩
def PX:aA:=⟨wC,[Pr],(.tup [jj 0,jj 0,jj 0])⟩
theorem GY:aq Tryz.prog PX:=kn sP (by kernel_rfl) (by kernel_rfl) (by kernel_rfl) (by kernel_rfl)
def Zh:List aA:=PX :: Q5
theorem uf:aB Tryz.prog Zh:=⟨GY,sP⟩
def QD:aA:=⟨wT,[Pr,(.agg [jj 0,jj 60])],(.tup [jj 2,jj 0,jj 0])⟩
theorem IE:aq Tryz.prog QD:=kn uf (by kernel_rfl) (by kernel_rfl) (by kernel_rfl) (by kernel_rfl)
def adS:List aA:=QD :: Zh
theorem sr:aB Tryz.prog adS:=⟨IE,uf⟩
def XC:aA:=⟨yg,[Pf,(.slice 1 [])],(.tup [(.slice 1 [jj 0]),jj 0])⟩
theorem IV:aq Tryz.prog XC:=kn sr (by kernel_rfl) (by kernel_rfl) (by kernel_rfl) (by kernel_rfl)
def VU:List aA:=XC :: adS
theorem tB:aB Tryz.prog VU:=⟨IV,sr⟩
def SG:aA:=⟨F_8,[],(.slice 2 [(.agg [jj 8,(.slice 1 [])]),(.agg [jj 9,(.slice 1 [])]),(.agg [jj 0,(.slice 1 [jj 7200,jj 12000])]),(.agg [jj 0,(.slice 1 [jj 5])]),(.agg [jj 0,(.slice 1 [jj 3,jj 5])]),(.agg [jj 5,(.slice 1 [])]),(.agg [jj 0,(.slice 1 [jj 3])]),(.agg [jj 0,(.slice 1 [jj 3,jj 4])]),(.agg [jj 0,(.slice 1 [jj 3,jj 4])]),(.agg [jj 0,(.slice 1 [jj 3,jj 4])]),(.agg [jj 2,(.slice 1 [])]),(.agg [jj 0,(.slice 1 [jj 4,jj 8])]),(.agg [jj 0,(.slice 1 [jj 20])]),(.agg [jj 0,(.slice 1 [jj (-1)])]),(.agg [jj 9,(.slice 1 [])]),(.agg [jj 4,(.slice 1 [])]),(.agg [jj 0,(.slice 1 [jj 1000,jj 1200])]),(.agg [jj 9,(.slice 1 [])]),(.agg [jj 0,(.slice 1 [jj 2])]),(.agg [jj 0,(.slice 1 [jj 2000,jj 2000])]),(.agg [jj 7,(.slice 1 [])]),(.agg [jj 6,(.slice 1 [])]),(.agg [jj 0,(.slice 1 [jj 2000,jj 2000,jj 1000,jj 1200,jj 0,jj 0,jj 0,jj 0,jj 0,jj 0,jj 500,jj 600])]),(.agg [jj 0,(.slice 1 [jj 0])]),(.agg [jj 0,(.slice 1 [jj 1])]),(.agg [jj 0,(.slice 1 [jj 2])]),(.agg [jj 0,(.slice 1 [])]),(.agg [jj 0,(.slice 1 [])]),(.agg [jj 0,(.slice 1 [jj 1])]),(.agg [jj 0,(.slice 1 [jj 300,jj 400,jj 400,jj 654,jj 163,jj 300,jj 0,jj 0])])])⟩
theorem Iz:aq Tryz.prog SG:=kn tB (by kernel_rfl) (by kernel_rfl) (by kernel_rfl) (by kernel_rfl)
def ZW:List aA:=SG :: VU
theorem ak:aB Tryz.prog ZW:=⟨Iz,tB⟩
end Go.AM
