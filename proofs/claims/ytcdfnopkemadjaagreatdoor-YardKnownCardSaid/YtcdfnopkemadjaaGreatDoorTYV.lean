/- The examples of chapter 13: the first lines. -/
import Derived.Test.YtcdfnopkemadjaaGreatDoorTYL0
import Derived.Test.YtcdfnopkemadjaaGreatDoorTYL1
import Derived.Test.YtcdfnopkemadjaaGreatDoorTYM0
import Derived.Test.YtcdfnopkemadjaaGreatDoorTYM1
import Derived.Test.YtcdfnopkemadjaaGreatDoorTYM2
namespace Go.AM
open Go.Proofs
set_option maxRecDepth 100000
def tG:List LnE:=[le0,le1,le2,le5,le6,le7,le8,le9,Sb,VS,ad2,adv,Vj,aaG,YK,XH,Ra,SH,aaO,Sp,QW,aeE,Wh,ZB,XU]
theorem bE:ki tG:=⟨Lp,Lo,MB,MA,Kl,LM,LH,Ki,H7,IS,Ht,HA,Hf,Hy,GQ,Hi,IG,Im,GZ,Ih,I2,GW,Hg,HW,H9,trivial⟩
theorem DZ:aq Tryz.prog (aM 0):=knK ak (t:=[] ++ tG) (aQ trivial bE) (by kernel_rfl) (by kernel_rfl) (by kernel_rfl) (by kernel_rfl)
theorem CY:aq Tryz.prog (aM 1):=knK ak (t:=[] ++ tG) (aQ trivial bE) (by kernel_rfl) (by kernel_rfl) (by kernel_rfl) (by kernel_rfl)
theorem GB:aq Tryz.prog (aM 2):=knK ak (t:=[] ++ tG) (aQ trivial bE) (by kernel_rfl) (by kernel_rfl) (by kernel_rfl) (by kernel_rfl)
theorem FV:aq Tryz.prog (aM 3):=knK ak (t:=[] ++ tG) (aQ trivial bE) (by kernel_rfl) (by kernel_rfl) (by kernel_rfl) (by kernel_rfl)
theorem A6:aq Tryz.prog (aM 4):=knK ak (t:=[le3 4] ++ tG) (aQ ⟨Ce,trivial⟩ bE) (by kernel_rfl) (by kernel_rfl) (by kernel_rfl) (by kernel_rfl)
theorem Du:aq Tryz.prog (aM 5):=knK ak (t:=[le3 5,le4 5] ++ tG) (aQ ⟨yG,FK,trivial⟩ bE) (by kernel_rfl) (by kernel_rfl) (by kernel_rfl) (by kernel_rfl)
theorem EG:aq Tryz.prog (aM 6):=knK ak (t:=[le3 6,le4 6] ++ tG) (aQ ⟨EZ,Dg,trivial⟩ bE) (by kernel_rfl) (by kernel_rfl) (by kernel_rfl) (by kernel_rfl)
theorem zh:aq Tryz.prog (aM 7):=knK ak (t:=[le3 7,le4 7] ++ tG) (aQ ⟨CW,Fx,trivial⟩ bE) (by kernel_rfl) (by kernel_rfl) (by kernel_rfl) (by kernel_rfl)
theorem Ay:aq Tryz.prog (aM 8):=knK ak (t:=[le3 8,le4 8] ++ tG) (aQ ⟨D7,FG,trivial⟩ bE) (by kernel_rfl) (by kernel_rfl) (by kernel_rfl) (by kernel_rfl)
theorem AQ:aq Tryz.prog (aM 9):=knK ak (t:=[le3 9,le4 9] ++ tG) (aQ ⟨GG,FC,trivial⟩ bE) (by kernel_rfl) (by kernel_rfl) (by kernel_rfl) (by kernel_rfl)
theorem wi:aq Tryz.prog (aM 10):=knK ak (t:=[le3 10,le4 10] ++ tG) (aQ ⟨wU,vt,trivial⟩ bE) (by kernel_rfl) (by kernel_rfl) (by kernel_rfl) (by kernel_rfl)
theorem wj:aq Tryz.prog (aM 11):=knK ak (t:=[le3 11,le4 11] ++ tG) (aQ ⟨uT,uY,trivial⟩ bE) (by kernel_rfl) (by kernel_rfl) (by kernel_rfl) (by kernel_rfl)
theorem vY:aq Tryz.prog (aM 12):=knK ak (t:=[le3 12,le4 12] ++ tG) (aQ ⟨wR,vj,trivial⟩ bE) (by kernel_rfl) (by kernel_rfl) (by kernel_rfl) (by kernel_rfl)
theorem vw:aq Tryz.prog (aM 13):=knK ak (t:=[le3 13,le4 13] ++ tG) (aQ ⟨uy,vm,trivial⟩ bE) (by kernel_rfl) (by kernel_rfl) (by kernel_rfl) (by kernel_rfl)
theorem vn:aq Tryz.prog (aM 14):=knK ak (t:=[le3 14,le4 14] ++ tG) (aQ ⟨vM,wg,trivial⟩ bE) (by kernel_rfl) (by kernel_rfl) (by kernel_rfl) (by kernel_rfl)
theorem wN:aq Tryz.prog (aM 15):=knK ak (t:=[le3 15,le4 15] ++ tG) (aQ ⟨uM,wu,trivial⟩ bE) (by kernel_rfl) (by kernel_rfl) (by kernel_rfl) (by kernel_rfl)
theorem wP:aq Tryz.prog (aM 16):=knK ak (t:=[le3 16,le4 16] ++ tG) (aQ ⟨uK,vQ,trivial⟩ bE) (by kernel_rfl) (by kernel_rfl) (by kernel_rfl) (by kernel_rfl)
theorem uW:aq Tryz.prog (aM 17):=knK ak (t:=[le3 17,le4 17] ++ tG) (aQ ⟨uz,vA,trivial⟩ bE) (by kernel_rfl) (by kernel_rfl) (by kernel_rfl) (by kernel_rfl)
theorem wx:aq Tryz.prog (aM 18):=knK ak (t:=[le3 18,le4 18] ++ tG) (aQ ⟨vk,uC,trivial⟩ bE) (by kernel_rfl) (by kernel_rfl) (by kernel_rfl) (by kernel_rfl)
theorem wD:aq Tryz.prog (aM 19):=knK ak (t:=[le3 19,le4 19] ++ tG) (aQ ⟨uL,wF,trivial⟩ bE) (by kernel_rfl) (by kernel_rfl) (by kernel_rfl) (by kernel_rfl)
theorem ur:aq Tryz.prog (aM 20):=knK ak (t:=[le3 20,le4 20] ++ tG) (aQ ⟨um,vy,trivial⟩ bE) (by kernel_rfl) (by kernel_rfl) (by kernel_rfl) (by kernel_rfl)
theorem vO:aq Tryz.prog (aM 21):=knK ak (t:=[le3 21,le4 21] ++ tG) (aQ ⟨uI,wk,trivial⟩ bE) (by kernel_rfl) (by kernel_rfl) (by kernel_rfl) (by kernel_rfl)
theorem vS:aq Tryz.prog (aM 22):=knK ak (t:=[le3 22,le4 22] ++ tG) (aQ ⟨uN,vW,trivial⟩ bE) (by kernel_rfl) (by kernel_rfl) (by kernel_rfl) (by kernel_rfl)
theorem uE:aq Tryz.prog (aM 23):=knK ak (t:=[le3 23,le4 23] ++ tG) (aQ ⟨uu,vR,trivial⟩ bE) (by kernel_rfl) (by kernel_rfl) (by kernel_rfl) (by kernel_rfl)
theorem u6:aq Tryz.prog (aM 24):=knK ak (t:=[le3 24,le4 24,jy 24] ++ tG) (aQ ⟨uU,wL,rj,trivial⟩ bE) (by kernel_rfl) (by kernel_rfl) (by kernel_rfl) (by kernel_rfl)
theorem vN:aq Tryz.prog (aM 25):=knK ak (t:=[le3 25,le4 25,jy 25,kq 25] ++ tG) (aQ ⟨uS,vg,rY,ry,trivial⟩ bE) (by kernel_rfl) (by kernel_rfl) (by kernel_rfl) (by kernel_rfl)
theorem vU:aq Tryz.prog (aM 26):=knK ak (t:=[le3 26,le4 26,jy 26,kq 26,mz 26] ++ tG) (aQ ⟨wq,wA,rC,qE,rP,trivial⟩ bE) (by kernel_rfl) (by kernel_rfl) (by kernel_rfl) (by kernel_rfl)
theorem wB:aq Tryz.prog (aM 27):=knK ak (t:=[le3 27,le4 27,jy 27,kq 27,mz 27] ++ tG) (aQ ⟨vo,uw,ru,qI,qZ,trivial⟩ bE) (by kernel_rfl) (by kernel_rfl) (by kernel_rfl) (by kernel_rfl)
theorem vl:aq Tryz.prog (aM 28):=knK ak (t:=[le3 28,le4 28,jy 28,kq 28,mz 28] ++ tG) (aQ ⟨wH,vH,rM,qA,qt,trivial⟩ bE) (by kernel_rfl) (by kernel_rfl) (by kernel_rfl) (by kernel_rfl)
theorem vh:aq Tryz.prog (aM 29):=knK ak (t:=[le3 29,le4 29,jy 29,kq 29,mz 29] ++ tG) (aQ ⟨wG,wz,rV,qM,qu,trivial⟩ bE) (by kernel_rfl) (by kernel_rfl) (by kernel_rfl) (by kernel_rfl)
theorem uF:aq Tryz.prog (aM 30):=knK ak (t:=[le3 30,le4 30,jy 30,kq 30,mz 30] ++ tG) (aQ ⟨vX,wy,q9,rh,qU,trivial⟩ bE) (by kernel_rfl) (by kernel_rfl) (by kernel_rfl) (by kernel_rfl)
end Go.AM
