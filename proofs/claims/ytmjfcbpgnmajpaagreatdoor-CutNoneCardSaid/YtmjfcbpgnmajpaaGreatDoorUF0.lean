/- The inputs of chapter 06's outright laws: bytes, by turns. -/
import Derived.Test.YtmjfcbpgnmajpaaGreatDoorP25
import Derived.Test.YtmjfcbpgnmajpaaGreatDoorUC1
namespace Go.AM
open Go.Proofs Go.RowKit
set_option maxRecDepth 100000
set_option maxHeartbeats 1000000
def z7 (P:Program) (t:TypeId):Option (Nat × TypeId):=
  match P.underlying t with
  | some (.array n e)=>some (n,e)
  | _=>none
theorem Shaped.arr {P:Program} {k n:Nat} {t e:TypeId} {us:List ab} (h:Shaped P (k + 1) t us) (hu:z7 P t = some (n,e)):rp (Shaped P k e) n us:=by
  simp only [Shaped] at h
  unfold z7 at hu
  split at hu
  · rename_i n' e' he
    rw [he] at h
    simp only [Option.some.injEq,Prod.mk.injEq] at hu
    obtain ⟨rfl,rfl⟩:=hu
    exact h
  · cases hu
theorem Qo {n:Int} (h1:IntKind.u8.min ≤ n) (h2:n ≤ IntKind.u8.max):0 ≤ n ∧ n ≤ 255:=by
  have e1:IntKind.u8.min = 0:=by decide
  have e2:IntKind.u8.max = 255:=by decide
  omega
theorem ty5:sF Tryz.prog 5 = some .u8:=by kernel_rfl
theorem Qs:qQ Tryz.prog 66 = some (5,1,false):=by kernel_rfl
theorem jG {k:Nat} {us:List ab} (h:Shaped Tryz.prog (k + 1) 5 us):∃ n,us = [bb' n] ∧ 0 ≤ n ∧ n ≤ 255:=by
  obtain ⟨n,rfl,h1,h2⟩:=h.int ty5
  exact ⟨n,rfl,Qo h1 h2⟩
theorem hY {k:Nat} {us:List ab} (h:Shaped Tryz.prog (k + 2) 66 us):∃ l:List Int,us = [.slice 1 (l.map bb')] ∧ nt l:=by
  obtain ⟨xs,rfl,hl,hx⟩:=h.sl Qs
  obtain ⟨l,rfl,g⟩:=fg (f:=bb') (p:=fun x=>0 ≤ x ∧ x ≤ 255) (xs:=xs) fun v hv=>by
    obtain ⟨cs,g1,g2⟩:=hx v hv
    obtain ⟨n,rfl,g3⟩:=jG g1
    exact ⟨n,g2,g3⟩
  exact ⟨l,rfl,by simpa using hl,g⟩
end Go.AM
