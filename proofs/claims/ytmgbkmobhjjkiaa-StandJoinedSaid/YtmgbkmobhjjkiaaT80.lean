/- What all laws of chapter 05 have in common: the examples, the inputs, the frame. -/
import Derived.Test.YtmgbkmobhjjkiaaA15
import Derived.Test.YtmgbkmobhjjkiaaRows
import Derived.ProofKit
import Derived.Test.YtmgbkmobhjjkiaaT21
import Derived.Test.YtmgbkmobhjjkiaaP7
namespace Go.Proofs.Ytmgbkmobhjjkiaa
open Go.ChangeShapes Go.WideShapes Go.ChangeAt Go.RowKit Go.AM

theorem Try.own : ownKnob Try.prog.godebug = none := by kernel_rfl
theorem Try.laidOut : laidOutB Try.prog = true := by kernel_rfl

theorem awake_spec (σ : AHeap) : Go.AM.Spec Try.prog F_l05_Awake [] σ fun r σ' => r = .ret (.bool true) ∧ σ' = σ := Spec.pureFn o6_ok.2.2.2 rfl rfl σ

def isAgg (P : Program) (n : TypeId) : Bool := match aggT (P.underlying n) with
  | some true => true
  | _ => false
theorem packs (n : Nat) (us : List AVal) (h : isAgg Try.prog n = true) : packT (aggT (Try.prog.underlying n)) us = .agg us := by
  unfold isAgg at h
  unfold packT
  split at h
  · rename_i e; rw [e]
  · cases h
theorem pack1 (n : Nat) (v : AVal) (h : isAgg Try.prog n = false) : packT (aggT (Try.prog.underlying n)) [v] = v := by
  unfold isAgg at h
  unfold packT
  split at h
  · cases h
  · rename_i hn
    split
    · rename_i e; exact absurd e hn
    · rfl

def tysOk (P : Program) (k : Nat) : List TypeId → Bool
  | [] => true
  | t :: r => plainTy P k t && P.readableRec t && decide (t < P.types.size) && tysOk P k r
theorem tysOk_spec {P : Program} {k : Nat} : ∀ {l : List TypeId}, tysOk P k l = true → ∀ t ∈ l, plainTy P k t = true ∧ P.readableRec t = true ∧ t < P.types.size
  | t :: r, h, x, hx => by
    simp only [tysOk, Bool.and_eq_true, decide_eq_true_eq] at h
    rcases List.mem_cons.1 hx with rfl | hx
    · exact ⟨h.1.1.1, h.1.1.2, h.1.2⟩
    · exact tysOk_spec h.2 x hx
end Go.Proofs.Ytmgbkmobhjjkiaa
