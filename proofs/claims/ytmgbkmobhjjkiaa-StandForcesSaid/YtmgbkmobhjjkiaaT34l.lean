/- The truth that shows a reason, and the least balance: of the document. -/
import Derived.Test.YtmgbkmobhjjkiaaT34k
namespace Go.AM
open Go.Proofs
set_option maxRecDepth 100000
set_option maxHeartbeats 1000000

def lightB (h : HullM) (why : Int) (p : PartM) : Bool :=
  decide (why = 0) || decide (why = 1) || (decide (why = 2) && decide (h.aft ≤ p.at_)) || (decide (why = 3) && decide (p.at_ ≤ h.fore))
def shownW (h : HullM) (why : Int) (p : PartM) : Int := if lightB h why p then p.wLo else p.wHi
def shownL (h : HullM) (why : Int) (p : PartM) : Int := if lightB h why p then p.lHi else p.lLo
def shownT (h : HullM) (why : Int) : TruthM := { ws := h.ps.map (shownW h why), ls := h.ps.map (shownL h why) }

theorem r05_Shown_spec (h : HullM) (hl : h.ps.length ≤ 10) (why : Int) (σ : AHeap) : Spec Try.prog F_r05_Shown [h.v, ii' why] σ fun r σ' => r = .ret (shownT h why).v ∧ σ' = σ := by
  refine Spec.pureFn (spec_r05_Shown (by simp) (awpC_sound _ ?_)) (by simp [h.pure]) (TruthM.pure _) σ
  simp [C_r05_Shown, HullM.v, HullM.cells]
  refine AW.loop (ι := Nat) (fun i fr σ => ∃ tl, fr = { v := [(1, ii' why), (2, .pval (.agg [.slice 7 (h.ps.map PartM.v), ii' h.aft, ii' h.fore])), (4, .ptr 0 0), (5, .ptr 3 0), (6, .int .i64 i)], ds := [] } ∧
      σ = .box [.slice 1 [], .slice 1 []] :: .spare 1 i :: .spare 1 i :: .box [.oslice 1 ((h.ps.take i).map (fun p => ii' (shownW h why p))) 1 i, .oslice 1 ((h.ps.take i).map (fun p => ii' (shownL h why p))) 2 i] :: tl ∧ i ≤ h.ps.length) (fun i => h.ps.length - i) 0 ?_ ?_
  · exact ⟨[], by simp, by simp, by simp⟩
  rintro i fr σ ⟨tl, rfl, rfl, hi⟩
  refine (Nat.lt_or_ge i h.ps.length).elim (fun hlt => ?_) (fun hge => ?_)
  · obtain ⟨x, hx⟩ : ∃ x, h.ps[i] = x := ⟨_, rfl⟩
    refine awpC_sound _ ?_
    have hmin : min i h.ps.length = i := by omega
    have hfit : ∀ n : Int, Fits 1 [ii' n] := fun n v hv => by simp at hv; subst hv; exact ⟨⟨rfl, rfl⟩, rfl⟩
    have hW : List.take i (List.map (fun p => ii' (shownW h why p)) h.ps) ++ [ii' (shownW h why x)] = List.take (i + 1) (List.map (fun p => ii' (shownW h why p)) h.ps) := by rw [List.take_add_one]; simp [hlt, hx]
    have hL : List.take i (List.map (fun p => ii' (shownL h why p)) h.ps) ++ [ii' (shownL h why x)] = List.take (i + 1) (List.map (fun p => ii' (shownL h why p)) h.ps) := by rw [List.take_add_one]; simp [hlt, hx]
    refine (Classical.em (why = 0)).elim (fun h0 => ?_) (fun h0 => ?_)
    · subst h0
      simp [hlt, hx, PartM.v, PartM.cells]
      have e1 : shownW h 0 x = x.wLo := by simp [shownW, lightB]
      have e2 : shownL h 0 x = x.lHi := by simp [shownL, lightB]
      rw [e1] at hW
      rw [e2] at hL
      exact ⟨hfit _, by omega, hfit _, by omega, i + 1, by omega, wrap_id (by omega) (by omega), ⟨rfl, ⟨hW, rfl⟩, hL, rfl⟩, by omega⟩
    refine (Classical.em (why = 1)).elim (fun h1 => ?_) (fun h1 => ?_)
    · subst h1
      simp [hlt, hx, PartM.v, PartM.cells]
      have e1 : shownW h 1 x = x.wLo := by simp [shownW, lightB]
      have e2 : shownL h 1 x = x.lHi := by simp [shownL, lightB]
      rw [e1] at hW
      rw [e2] at hL
      exact ⟨hfit _, by omega, hfit _, by omega, i + 1, by omega, wrap_id (by omega) (by omega), ⟨rfl, ⟨hW, rfl⟩, hL, rfl⟩, by omega⟩
    refine (Classical.em (why = 2)).elim (fun h2 => ?_) (fun h2 => ?_)
    · subst h2
      refine (Classical.em (h.aft ≤ x.at_)).elim (fun h4 => ?_) (fun h4 => ?_)
      · simp [h4, hlt, hx, PartM.v, PartM.cells]
        have e1 : shownW h 2 x = x.wLo := by simp [h4, shownW, lightB]
        have e2 : shownL h 2 x = x.lHi := by simp [h4, shownL, lightB]
        rw [e1] at hW
        rw [e2] at hL
        exact ⟨hfit _, by omega, hfit _, by omega, i + 1, by omega, wrap_id (by omega) (by omega), ⟨rfl, ⟨hW, rfl⟩, hL, rfl⟩, by omega⟩
      · simp [h4, hlt, hx, PartM.v, PartM.cells]
        have e1 : shownW h 2 x = x.wHi := by simp [h4, shownW, lightB]
        have e2 : shownL h 2 x = x.lLo := by simp [h4, shownL, lightB]
        rw [e1] at hW
        rw [e2] at hL
        exact ⟨hfit _, by omega, hfit _, by omega, i + 1, by omega, wrap_id (by omega) (by omega), ⟨rfl, ⟨hW, rfl⟩, hL, rfl⟩, by omega⟩
    refine (Classical.em (why = 3)).elim (fun h3 => ?_) (fun h3 => ?_)
    · subst h3
      refine (Classical.em (x.at_ ≤ h.fore)).elim (fun h4 => ?_) (fun h4 => ?_)
      · simp [h4, hlt, hx, PartM.v, PartM.cells]
        have e1 : shownW h 3 x = x.wLo := by simp [h4, shownW, lightB]
        have e2 : shownL h 3 x = x.lHi := by simp [h4, shownL, lightB]
        rw [e1] at hW
        rw [e2] at hL
        exact ⟨hfit _, by omega, hfit _, by omega, i + 1, by omega, wrap_id (by omega) (by omega), ⟨rfl, ⟨hW, rfl⟩, hL, rfl⟩, by omega⟩
      · simp [h4, hlt, hx, PartM.v, PartM.cells]
        have e1 : shownW h 3 x = x.wHi := by simp [h4, shownW, lightB]
        have e2 : shownL h 3 x = x.lLo := by simp [h4, shownL, lightB]
        rw [e1] at hW
        rw [e2] at hL
        exact ⟨hfit _, by omega, hfit _, by omega, i + 1, by omega, wrap_id (by omega) (by omega), ⟨rfl, ⟨hW, rfl⟩, hL, rfl⟩, by omega⟩
    · simp [h0, h1, h2, h3, hlt, hx, PartM.v, PartM.cells]
      have e1 : shownW h why x = x.wHi := by simp [h0, h1, h2, h3, shownW, lightB]
      have e2 : shownL h why x = x.lLo := by simp [h0, h1, h2, h3, shownL, lightB]
      rw [e1] at hW
      rw [e2] at hL
      exact ⟨hfit _, by omega, hfit _, by omega, i + 1, by omega, wrap_id (by omega) (by omega), ⟨rfl, ⟨hW, rfl⟩, hL, rfl⟩, by omega⟩
  · have hnl : ¬ i < h.ps.length := by omega
    refine awpC_sound _ ?_
    simp [hnl, TruthM.v, shownT]
    rw [List.take_of_length_le (by simp; omega), List.take_of_length_le (by simp; omega)]
    exact ⟨rfl, rfl⟩
end Go.AM
