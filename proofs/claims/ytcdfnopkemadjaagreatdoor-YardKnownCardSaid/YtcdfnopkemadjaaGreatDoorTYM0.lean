/- The examples of chapter 13: lines, where the list matters. -/
import Derived.Test.YtcdfnopkemadjaaGreatDoorP26
namespace Go.AM
open Go.Proofs
set_option maxRecDepth 100000
theorem Ce:aw (le3 4):=aw.of ak fun zs h=>by
 rcases h with h | h
 ·cases h
 ·cases h
  kernel_rfl
theorem EZ:aw (le3 6):=aw.of ak fun zs h=>by
 rcases h with h | h
 ·cases h
 ·cases h
  kernel_rfl
theorem Fx:aw (le4 7):=aw.of ak fun zs h=>by
 rcases h with h | h
 ·cases h
 ·cases h
  kernel_rfl
theorem GG:aw (le3 9):=aw.of ak fun zs h=>by
 rcases h with h | h
 ·cases h
 ·cases h
  kernel_rfl
theorem vt:aw (le4 10):=aw.of ak fun zs h=>by
 rcases h with h | h
 ·cases h
 ·cases h
  kernel_rfl
theorem wR:aw (le3 12):=aw.of ak fun zs h=>by
 rcases h with h | h
 ·cases h
 ·cases h
  kernel_rfl
theorem vm:aw (le4 13):=aw.of ak fun zs h=>by
 rcases h with h | h
 ·cases h
 ·cases h
  kernel_rfl
theorem uM:aw (le3 15):=aw.of ak fun zs h=>by
 rcases h with h | h
 ·cases h
 ·cases h
  kernel_rfl
theorem vQ:aw (le4 16):=aw.of ak fun zs h=>by
 rcases h with h | h
 ·cases h
 ·cases h
  kernel_rfl
theorem vk:aw (le3 18):=aw.of ak fun zs h=>by
 rcases h with h | h
 ·cases h
 ·cases h
  kernel_rfl
theorem wF:aw (le4 19):=aw.of ak fun zs h=>by
 rcases h with h | h
 ·cases h
 ·cases h
  kernel_rfl
theorem uI:aw (le3 21):=aw.of ak fun zs h=>by
 rcases h with h | h
 ·cases h
 ·cases h
  kernel_rfl
theorem vW:aw (le4 22):=aw.of ak fun zs h=>by
 rcases h with h | h
 ·cases h
 ·cases h
  kernel_rfl
theorem uU:aw (le3 24):=aw.of ak fun zs h=>by
 rcases h with h | h
 ·cases h
 ·cases h
  kernel_rfl
theorem uS:aw (le3 25):=aw.of ak fun zs h=>by
 rcases h with h | h
 ·cases h
 ·cases h
  kernel_rfl
theorem ry:aw (kq 25):=aw.of ak fun zs h=>by
 rcases h with h | h
 ·cases h
 ·cases h
  kernel_rfl
theorem rC:aw (jy 26):=aw.of ak fun zs h=>by
 rcases h with h | h
 ·cases h
 ·cases h
  kernel_rfl
theorem vo:aw (le3 27):=aw.of ak fun zs h=>by
 rcases h with h | h
 ·cases h
 ·cases h
  kernel_rfl
theorem qI:aw (kq 27):=aw.of ak fun zs h=>by
 rcases h with h | h
 ·cases h
 ·cases h
  kernel_rfl
theorem vH:aw (le4 28):=aw.of ak fun zs h=>by
 rcases h with h | h
 ·cases h
 ·cases h
  kernel_rfl
theorem qt:aw (mz 28):=aw.of ak fun zs h=>by
 rcases h with h | h
 ·cases h
 ·cases h
  kernel_rfl
theorem rV:aw (jy 29):=aw.of ak fun zs h=>by
 rcases h with h | h
 ·cases h
 ·cases h
  kernel_rfl
theorem vX:aw (le3 30):=aw.of ak fun zs h=>by
 rcases h with h | h
 ·cases h
 ·cases h
  kernel_rfl
theorem rh:aw (kq 30):=aw.of ak fun zs h=>by
 rcases h with h | h
 ·cases h
 ·cases h
  kernel_rfl
end Go.AM
