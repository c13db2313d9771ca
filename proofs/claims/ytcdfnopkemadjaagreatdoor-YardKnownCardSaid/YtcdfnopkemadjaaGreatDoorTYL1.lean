/- The examples of chapter 13: lines. -/
import Derived.Test.YtcdfnopkemadjaaGreatDoorP26
namespace Go.AM
open Go.Proofs
set_option maxRecDepth 100000
theorem Lo:aw le1:=aw.of ak fun zs _=>by kernel_rfl
theorem MA:aw le5:=aw.of ak fun zs _=>by kernel_rfl
theorem LM:aw le7:=aw.of ak fun zs _=>by kernel_rfl
theorem Ki:aw le9:=aw.of ak fun zs _=>by kernel_rfl
theorem IS:aw VS:=aw.of ak fun zs _=>by kernel_rfl
theorem HA:aw adv:=aw.of ak fun zs _=>by kernel_rfl
theorem Hy:aw aaG:=aw.of ak fun zs _=>by kernel_rfl
theorem Hi:aw XH:=aw.of ak fun zs _=>by kernel_rfl
theorem Im:aw SH:=aw.of ak fun zs _=>by kernel_rfl
theorem Ih:aw Sp:=aw.of ak fun zs _=>by kernel_rfl
theorem GW:aw aeE:=aw.of ak fun zs _=>by kernel_rfl
theorem HW:aw ZB:=aw.of ak fun zs _=>by kernel_rfl
end Go.AM
