/- The inputs of CutEasier and CutTrue. -/
import Derived.Test.YtmjfcbpgnmajpaaGreatDoorP27
namespace Go.AM
open Go.Proofs Go.RowKit
set_option maxRecDepth 100000
set_option maxHeartbeats 1000000
abbrev hh' (n : Int) : ab := .int .u16 n
theorem JE {n : Int} (h1 : IntKind.u16.min ≤ n) (h2 : n ≤ IntKind.u16.max) : 0 ≤ n ∧ n ≤ 65535 := by
  have e1 : IntKind.u16.min = 0 := by decide
  have e2 : IntKind.u16.max = 65535 := by decide
  omega
theorem Sz : sF Tryz.prog 54 = some .u16 := by kernel_rfl
theorem P2 : z7 Tryz.prog 55 = some (2,54) := by kernel_rfl
theorem PV : nB Tryz.prog 75 = some [55,5] := by kernel_rfl
theorem nw {k : Nat} {us : List ab} (h : Shaped Tryz.prog (k + 1) 54 us) : ∃ n,us = [hh' n] ∧ 0 ≤ n ∧ n ≤ 65535 := by
  obtain ⟨n,rfl,h1,h2⟩ := h.int Sz
  exact ⟨n,rfl,JE h1 h2⟩
theorem oG {k : Nat} {us : List ab} (h : Shaped Tryz.prog (k + 2) 55 us) : ∃ a b,us = [hh' a,hh' b] ∧ (0 ≤ a ∧ a ≤ 65535) ∧ 0 ≤ b ∧ b ≤ 65535 := by
  obtain ⟨a,r,rfl,h1,b,r2,rfl,h2,rfl⟩ := h.arr P2
  obtain ⟨x,rfl,g1⟩ := nw h1
  obtain ⟨y,rfl,g2⟩ := nw h2
  exact ⟨x,y,rfl,g1,g2⟩
theorem tV {k : Nat} {us : List ab} (h : Shaped Tryz.prog (k + 3) 75 us) : ∃ a b w,us = [hh' a,hh' b,bb' w] ∧ (0 ≤ a ∧ a ≤ 65535) ∧ (0 ≤ b ∧ b ≤ 65535) ∧ 0 ≤ w ∧ w ≤ 255 := by
  obtain ⟨a,r,rfl,h1,b,r2,rfl,h2,rfl⟩ := h.fs PV
  obtain ⟨x,y,rfl,g1,g2⟩ := oG h1
  obtain ⟨w,rfl,g3⟩ := jG h2
  exact ⟨x,y,w,rfl,g1,g2,g3⟩
end Go.AM
