/- The examples of chapter 13: lines, where the list matters. -/
import Derived.Test.YtcdfnopkemadjaaGreatDoorP26
namespace Go.AM
open Go.Proofs
set_option maxRecDepth 100000
theorem yG:aw (le3 5):=aw.of ak fun zs h=>by
 rcases h with h | h
 ·cases h
 ·cases h
  kernel_rfl
theorem Dg:aw (le4 6):=aw.of ak fun zs h=>by
 rcases h with h | h
 ·cases h
 ·cases h
  kernel_rfl
theorem D7:aw (le3 8):=aw.of ak fun zs h=>by
 rcases h with h | h
 ·cases h
 ·cases h
  kernel_rfl
theorem FC:aw (le4 9):=aw.of ak fun zs h=>by
 rcases h with h | h
 ·cases h
 ·cases h
  kernel_rfl
theorem uT:aw (le3 11):=aw.of ak fun zs h=>by
 rcases h with h | h
 ·cases h
 ·cases h
  kernel_rfl
theorem vj:aw (le4 12):=aw.of ak fun zs h=>by
 rcases h with h | h
 ·cases h
 ·cases h
  kernel_rfl
theorem vM:aw (le3 14):=aw.of ak fun zs h=>by
 rcases h with h | h
 ·cases h
 ·cases h
  kernel_rfl
theorem wu:aw (le4 15):=aw.of ak fun zs h=>by
 rcases h with h | h
 ·cases h
 ·cases h
  kernel_rfl
theorem uz:aw (le3 17):=aw.of ak fun zs h=>by
 rcases h with h | h
 ·cases h
 ·cases h
  kernel_rfl
theorem uC:aw (le4 18):=aw.of ak fun zs h=>by
 rcases h with h | h
 ·cases h
 ·cases h
  kernel_rfl
theorem um:aw (le3 20):=aw.of ak fun zs h=>by
 rcases h with h | h
 ·cases h
 ·cases h
  kernel_rfl
theorem wk:aw (le4 21):=aw.of ak fun zs h=>by
 rcases h with h | h
 ·cases h
 ·cases h
  kernel_rfl
theorem uu:aw (le3 23):=aw.of ak fun zs h=>by
 rcases h with h | h
 ·cases h
 ·cases h
  kernel_rfl
theorem wL:aw (le4 24):=aw.of ak fun zs h=>by
 rcases h with h | h
 ·cases h
 ·cases h
  kernel_rfl
theorem vg:aw (le4 25):=aw.of ak fun zs h=>by
 rcases h with h | h
 ·cases h
 ·cases h
  kernel_rfl
theorem wq:aw (le3 26):=aw.of ak fun zs h=>by
 rcases h with h | h
 ·cases h
 ·cases h
  kernel_rfl
theorem qE:aw (kq 26):=aw.of ak fun zs h=>by
 rcases h with h | h
 ·cases h
 ·cases h
  kernel_rfl
theorem uw:aw (le4 27):=aw.of ak fun zs h=>by
 rcases h with h | h
 ·cases h
 ·cases h
  kernel_rfl
theorem qZ:aw (mz 27):=aw.of ak fun zs h=>by
 rcases h with h | h
 ·cases h
 ·cases h
  kernel_rfl
theorem rM:aw (jy 28):=aw.of ak fun zs h=>by
 rcases h with h | h
 ·cases h
 ·cases h
  kernel_rfl
theorem wG:aw (le3 29):=aw.of ak fun zs h=>by
 rcases h with h | h
 ·cases h
 ·cases h
  kernel_rfl
theorem qM:aw (kq 29):=aw.of ak fun zs h=>by
 rcases h with h | h
 ·cases h
 ·cases h
  kernel_rfl
theorem wy:aw (le4 30):=aw.of ak fun zs h=>by
 rcases h with h | h
 ·cases h
 ·cases h
  kernel_rfl
theorem qU:aw (mz 30):=aw.of ak fun zs h=>by
 rcases h with h | h
 ·cases h
 ·cases h
  kernel_rfl
end Go.AM
