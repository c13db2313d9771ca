/- The examples of chapter 13: the row returns true. -/
import Derived.Test.YtcdfnopkemadjaaGreatDoorTYV
import Derived.Test.YtcdfnopkemadjaaGreatDoorTYU0
import Derived.Test.YtcdfnopkemadjaaGreatDoorTYU1
import Derived.Test.YtcdfnopkemadjaaGreatDoorTYU2
import Derived.Test.YtcdfnopkemadjaaGreatDoorTYX0
import Derived.Test.YtcdfnopkemadjaaGreatDoorTYX1
import Derived.Test.YtcdfnopkemadjaaGreatDoorTYX2
import Derived.Test.YtcdfnopkemadjaaGreatDoorTYX3
import Derived.Test.YtcdfnopkemadjaaGreatDoorTYX4
namespace Go.AM
open Go.Proofs
set_option maxRecDepth 100000
def oA:List aA:=[aM 0,aM 1,aM 2,aM 3,aM 4,aM 5,aM 6,aM 7,aM 8,aM 9,aM 10,aM 11,aM 12,aM 13,aM 14,aM 15,aM 16,aM 17,aM 18,aM 19,aM 20,aM 21,aM 22,aM 23,aM 24,aM 25,aM 26,aM 27,aM 28,aM 29,aM 30,aN 0,aN 1,aN 2,aN 3,aN 4,aN 5,aN 6,aN 7,aN 8,aN 9,aN 10,aN 11,aN 12,aN 13,aN 14,aN 15,aN 16,aN 17,aN 18,aN 19,aN 20,aN 21,aN 22,aN 23,aN 24,aN 25,aN 26,aN 27,aN 28,aN 29,aN 30,ow0,ow1,ow2,ow3,ow4]
theorem Jo:aB Tryz.prog oA:=⟨DZ,CY,GB,FV,A6,Du,EG,zh,Ay,AQ,wi,wj,vY,vw,vn,wN,wP,uW,wx,wD,ur,vO,vS,uE,u6,vN,vU,wB,vl,vh,uF,zM,Eo,Au,Ak,BW,zN,Aj,BL,CE,Er,wm,uR,vK,vF,vB,vZ,we,u0,u7,wO,wE,uJ,vr,wS,uV,vV,wb,v8,vf,uA,wv,Lm,JD,Lw,Kd,M4,trivial⟩
theorem ll {P:Program}:∀ {a b:List aA},aB P a → aB P b → aB P (a ++ b)
 | [],_,_,h=>h
 | _ :: _,_,h,k=>⟨h.1,ll h.2 k⟩
def awE:aA:=⟨F_9,[], .bool true⟩
theorem MH:aq Tryz.prog awE:=kn (ll Jo ak) (by kernel_rfl) (by kernel_rfl) (by kernel_rfl) (by kernel_rfl)
theorem ml:Spec Tryz.prog 3 [] [] fun r _=>r = .ret (.bool true):=pw (L:=5000) (n:=60) fY (kE (l:=awE :: (oA ++ ZW)) ⟨MH,ll Jo ak⟩) (by kernel_rfl)
end Go.AM
