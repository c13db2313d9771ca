/- The examples of chapter 13: lines. -/
import Derived.Test.YtcdfnopkemadjaaGreatDoorP26
namespace Go.AM
open Go.Proofs
set_option maxRecDepth 100000
theorem Lp:aw le0:=aw.of ak fun zs _=>by kernel_rfl
theorem MB:aw le2:=aw.of ak fun zs _=>by kernel_rfl
theorem Kl:aw le6:=aw.of ak fun zs _=>by kernel_rfl
theorem LH:aw le8:=aw.of ak fun zs _=>by kernel_rfl
theorem H7:aw Sb:=aw.of ak fun zs _=>by kernel_rfl
theorem Ht:aw ad2:=aw.of ak fun zs _=>by kernel_rfl
theorem Hf:aw Vj:=aw.of ak fun zs _=>by kernel_rfl
theorem GQ:aw YK:=aw.of ak fun zs _=>by kernel_rfl
theorem IG:aw Ra:=aw.of ak fun zs _=>by kernel_rfl
theorem GZ:aw aaO:=aw.of ak fun zs _=>by kernel_rfl
theorem I2:aw QW:=aw.of ak fun zs _=>by kernel_rfl
theorem Hg:aw Wh:=aw.of ak fun zs _=>by kernel_rfl
theorem H9:aw XU:=aw.of ak fun zs _=>by kernel_rfl
end Go.AM
