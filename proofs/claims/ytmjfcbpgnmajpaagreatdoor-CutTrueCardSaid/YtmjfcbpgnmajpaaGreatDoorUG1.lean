/- The inputs of CutTrue. -/
import Derived.Test.YtmjfcbpgnmajpaaGreatDoorUG0
import Derived.Test.YtmjfcbpgnmajpaaGreatDoorUD1
namespace Go.AM
open Go.Proofs Go.RowKit
set_option maxRecDepth 100000
set_option maxHeartbeats 1000000
theorem N8 {n : Int} (h1 : IntKind.u32.min ≤ n) (h2 : n ≤ IntKind.u32.max) : 0 ≤ n ∧ n ≤ 4294967295 := by
  have e1 : IntKind.u32.min = 0 := by decide
  have e2 : IntKind.u32.max = 4294967295 := by decide
  omega
def elT (P : Program) (t : TypeId) : Nat := match P.underlying t with
  | some (.slice e) => e
  | _ => 0
theorem Rr : qQ Tryz.prog 56 = some (elT Tryz.prog 56,1,false) := by kernel_rfl
theorem JN : sF Tryz.prog (elT Tryz.prog 56) = some .u32 := by kernel_rfl
theorem QN : nB Tryz.prog 58 = some [55,54,56] := by kernel_rfl
theorem vK {k : Nat} {us : List ab} (h : Shaped Tryz.prog (k + 2) 56 us) : ∃ l : List Int,us = [.slice 1 (l.map u4')] ∧ l.length ≤ maxLen ∧ ∀ x ∈ l,0 ≤ x ∧ x ≤ 4294967295 := by
  obtain ⟨xs,rfl,hl,hx⟩ := h.sl Rr
  obtain ⟨l,rfl,g⟩ := fg (f := u4') (p := fun x => 0 ≤ x ∧ x ≤ 4294967295) (xs := xs) fun v hv => by
    obtain ⟨cs,g1,g2⟩ := hx v hv
    obtain ⟨n,rfl,h1,h2⟩ := g1.int JN
    exact ⟨n,g2,N8 h1 h2⟩
  exact ⟨l,rfl,by simpa using hl,g⟩
theorem zu {k : Nat} {us : List ab} (h : Shaped Tryz.prog (k + 3) 58 us) : ∃ (a b w : Int) (l : List Int),us = [hh' a,hh' b,hh' w, .slice 1 (l.map u4')] ∧ (0 ≤ w ∧ w ≤ 65535) ∧ l.length ≤ maxLen ∧ ∀ x ∈ l,0 ≤ x ∧ x ≤ 4294967295 := by
  obtain ⟨a,r,rfl,h1,b,r2,rfl,h2,c,r3,rfl,h3,rfl⟩ := h.fs QN
  obtain ⟨x,y,rfl,_,_⟩ := oG h1
  obtain ⟨w,rfl,g2⟩ := nw h2
  obtain ⟨l,rfl,g3,g4⟩ := vK h3
  exact ⟨x,y,w,l,rfl,g2,g3,g4⟩
end Go.AM
