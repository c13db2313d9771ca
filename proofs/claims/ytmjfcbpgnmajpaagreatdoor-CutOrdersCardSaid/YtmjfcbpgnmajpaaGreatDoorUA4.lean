/- CutOrders: what the law's call returns. -/
import Derived.Test.YtmjfcbpgnmajpaaGreatDoorUA3
import Derived.Test.YtmjfcbpgnmajpaaGreatDoorP25
namespace Go.AM
open Go.Proofs
set_option maxRecDepth 100000
set_option maxHeartbeats 1000000
theorem Th {t : ah} (hf : t.Fit) : (cK t (aP t)).length ≤ 7 := by
  rw [lQ hf rfl (bU hf)]
  exact Nat.le_trans (jN hf (bU hf)) (m7 _ (bU hf))
theorem TD (t : ah) : (fl t).length ≤ maxLen := by
  unfold fl
  split
  · rename_i h; exact Nat.le_trans (Th (bm h.1)) (by decide)
  · simp
theorem TK (t : ah) : (qn t).length ≤ maxLen := by
  unfold qn
  split
  · rename_i h; exact Nat.le_trans (Th (bm h)) (by decide)
  · simp
theorem TQ (t : ah) (p : Int) : (toL t p).length ≤ maxLen := by
  unfold toL
  split
  · rename_i h
    have hf := (ib h).1
    have hp := (ib h).2
    simp [inO] at hp
    split
    · rename_i q hq
      have h1 := H3 hf (p := p.toNat) (by omega) hq
      have h2 := (iQ hf (bU hf) h1).2
      have h3 := m7 _ (bU hf)
      exact Nat.le_trans (show (q.2 ++ [p.toNat]).length ≤ 7 by omega) (by decide)
    · simp
  · simp
theorem Td (t : ah) (hok : t.Ok) (p : Int) (haw : ∀ σ,Spec Tryz.prog vI [] σ fun r σ' => r = .ret (.bool true) ∧ σ' = σ) :
    Spec Tryz.prog F_4 [t.v,ii' p] [] fun r _ => r = .ret (.bool true) := by
  have h1 := fun σ => fj t hok σ
  have h2 := fun σ => Tf t hok σ
  have h3 := fun σ => mq t hok σ
  have h4 := fun σ => Tl t hok σ
  have h5 := fun σ => qb t hok p σ
  have h6 := fun σ => Tw t hok p σ
  simp only [gX] at h1 h2 h3 h4 h5 h6
  refine S_4 (by simp) (aa _ ?_)
  simp [C_4,ah.v,ah.cells]
  refine aj.pure zi (h1 _) ?_
  simp
  refine aj.pure Um (h2 _) ?_
  simp
  refine aj.pure zG (Fp _ (TD t) _) ?_
  simp
  refine aj.pure HU (h3 _) ?_
  simp
  refine aj.pure Ud (h4 _) ?_
  simp
  refine aj.pure zG (Fp _ (TK t) _) ?_
  simp
  refine aj.pure Ih (h5 _) ?_
  simp
  refine aj.pure Uk (h6 _) ?_
  simp
  refine aj.pure zG (Fp _ (TQ t p) _) ?_
  simp
  exact aj.pure ka (haw _) (by simp)
end Go.AM
