/- The examples of chapter 13: lines, where the list matters. -/
import Derived.Test.YtcdfnopkemadjaaGreatDoorP26
namespace Go.AM
open Go.Proofs
set_option maxRecDepth 100000
theorem FK:aw (le4 5):=aw.of ak fun zs h=>by
 rcases h with h | h
 ·cases h
 ·cases h
  kernel_rfl
theorem CW:aw (le3 7):=aw.of ak fun zs h=>by
 rcases h with h | h
 ·cases h
 ·cases h
  kernel_rfl
theorem FG:aw (le4 8):=aw.of ak fun zs h=>by
 rcases h with h | h
 ·cases h
 ·cases h
  kernel_rfl
theorem wU:aw (le3 10):=aw.of ak fun zs h=>by
 rcases h with h | h
 ·cases h
 ·cases h
  kernel_rfl
theorem uY:aw (le4 11):=aw.of ak fun zs h=>by
 rcases h with h | h
 ·cases h
 ·cases h
  kernel_rfl
theorem uy:aw (le3 13):=aw.of ak fun zs h=>by
 rcases h with h | h
 ·cases h
 ·cases h
  kernel_rfl
theorem wg:aw (le4 14):=aw.of ak fun zs h=>by
 rcases h with h | h
 ·cases h
 ·cases h
  kernel_rfl
theorem uK:aw (le3 16):=aw.of ak fun zs h=>by
 rcases h with h | h
 ·cases h
 ·cases h
  kernel_rfl
theorem vA:aw (le4 17):=aw.of ak fun zs h=>by
 rcases h with h | h
 ·cases h
 ·cases h
  kernel_rfl
theorem uL:aw (le3 19):=aw.of ak fun zs h=>by
 rcases h with h | h
 ·cases h
 ·cases h
  kernel_rfl
theorem vy:aw (le4 20):=aw.of ak fun zs h=>by
 rcases h with h | h
 ·cases h
 ·cases h
  kernel_rfl
theorem uN:aw (le3 22):=aw.of ak fun zs h=>by
 rcases h with h | h
 ·cases h
 ·cases h
  kernel_rfl
theorem vR:aw (le4 23):=aw.of ak fun zs h=>by
 rcases h with h | h
 ·cases h
 ·cases h
  kernel_rfl
theorem rj:aw (jy 24):=aw.of ak fun zs h=>by
 rcases h with h | h
 ·cases h
 ·cases h
  kernel_rfl
theorem rY:aw (jy 25):=aw.of ak fun zs h=>by
 rcases h with h | h
 ·cases h
 ·cases h
  kernel_rfl
theorem wA:aw (le4 26):=aw.of ak fun zs h=>by
 rcases h with h | h
 ·cases h
 ·cases h
  kernel_rfl
theorem rP:aw (mz 26):=aw.of ak fun zs h=>by
 rcases h with h | h
 ·cases h
 ·cases h
  kernel_rfl
theorem ru:aw (jy 27):=aw.of ak fun zs h=>by
 rcases h with h | h
 ·cases h
 ·cases h
  kernel_rfl
theorem wH:aw (le3 28):=aw.of ak fun zs h=>by
 rcases h with h | h
 ·cases h
 ·cases h
  kernel_rfl
theorem qA:aw (kq 28):=aw.of ak fun zs h=>by
 rcases h with h | h
 ·cases h
 ·cases h
  kernel_rfl
theorem wz:aw (le4 29):=aw.of ak fun zs h=>by
 rcases h with h | h
 ·cases h
 ·cases h
  kernel_rfl
theorem qu:aw (mz 29):=aw.of ak fun zs h=>by
 rcases h with h | h
 ·cases h
 ·cases h
  kernel_rfl
theorem q9:aw (jy 30):=aw.of ak fun zs h=>by
 rcases h with h | h
 ·cases h
 ·cases h
  kernel_rfl
end Go.AM
