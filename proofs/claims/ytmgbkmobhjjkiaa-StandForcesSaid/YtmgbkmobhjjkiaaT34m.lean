/- Smallest, Balance, Least: of the document. -/
import Derived.Test.YtmgbkmobhjjkiaaT34j
import Derived.Test.YtmgbkmobhjjkiaaT34l
namespace Go.AM
open Go.Proofs
set_option maxRecDepth 100000
set_option maxHeartbeats 1000000

def smallR (h : HullM) (water : Int) : Int × Int × Int := ((weighR h (shownT h 1) water).1, (weighR h (shownT h 2) water).2.1, (weighR h (shownT h 3) water).2.2)
theorem r05_Smallest_spec (h : HullM) (hl : h.ps.length ≤ 10) (water : Int) (σ : AHeap) : Spec Try.prog F_r05_Smallest [h.v, ii' water] σ fun r σ' => r = .ret (balV (smallR h water)) ∧ σ' = σ := by
  have hm : h.ps.length ≤ maxLen := by simp only [maxLen]; omega
  refine Spec.pureFn (spec_r05_Smallest (by simp) (awpC_sound _ ?_)) (by simp [h.pure]) rfl σ
  have hpu : pures (h.ps.map PartM.v) = true := pures_map (f := PartM.v) (fun _ => rfl) h.ps
  have hp2 : ∀ l : List Int, pures (l.map ii') = true := pures_map (f := ii') (fun _ => rfl)
  simp [C_r05_Smallest, HullM.v, HullM.cells]
  refine ⟨_, fun σ' _ => CallV.func B_r05_Shown (r05_Shown_spec h hl 1 σ'), ?_⟩
  simp [TruthM.v]
  refine ⟨_, fun σ' _ => CallV.func B_r05_Weighed (r05_Weighed_spec h (shownT h 1) hm (by simp [shownT]) (by simp [shownT]) water σ'), ?_⟩
  simp [balV]
  refine ⟨_, fun σ' _ => CallV.func B_r05_Shown (r05_Shown_spec h hl 2 σ'), ?_⟩
  simp [TruthM.v]
  refine ⟨_, fun σ' _ => CallV.func B_r05_Weighed (r05_Weighed_spec h (shownT h 2) hm (by simp [shownT]) (by simp [shownT]) water σ'), ?_⟩
  simp [balV]
  refine ⟨_, fun σ' _ => CallV.func B_r05_Shown (r05_Shown_spec h hl 3 σ'), ?_⟩
  simp [TruthM.v]
  refine ⟨_, fun σ' _ => CallV.func B_r05_Weighed (r05_Weighed_spec h (shownT h 3) hm (by simp [shownT]) (by simp [shownT]) water σ'), ?_⟩
  simp [balV, hpu, hp2, smallR]

theorem wetE_zero {e water : Int} (h : wetE e water = 0) : e = 0 ∧ beyondF 0 1000 [water] = false := by
  unfold wetE at h
  split at h
  · cases h
  · rename_i hn
    refine ⟨h, ?_⟩
    rcases tf (beyondF 0 1000 [water]) with hb | hb
    · exact hb
    · exact absurd ⟨h, hb⟩ hn
theorem eR_len {h : HullM} (he : eR h = 0) : 1 ≤ h.ps.length ∧ h.ps.length ≤ 10 := by
  unfold eR checkR at he
  split at he
  · cases he
  · rename_i hn
    simp [insF] at hn
    omega

theorem r05_Least_spec (h : HullM) (hl : h.ps.length ≤ maxLen) (water : Int) (σ : AHeap) : Spec Try.prog F_r05_Least [h.v, ii' water] σ fun r σ' => r = .ret (.tup [balV (if wetE (eR h) water = 0 then smallR h water else (0, 0, 0)), ii' (wetE (eR h) water)]) ∧ σ' = σ := by
  refine Spec.pureFn (spec_r05_Least (by simp) (awpC_sound _ ?_)) (by simp [h.pure]) rfl σ
  simp [C_r05_Least, HullM.v, HullM.cells]
  refine CallK.pure B_r05_Check (r05_Check_spec h hl _) ?_
  simp [tripR]
  refine CallK.pure B_r05_watered (r05_watered_spec _ _ _) ?_
  refine (Classical.em (wetE (eR h) water = 0)).elim (fun he => ?_) (fun he => ?_)
  rotate_left
  · have he' : ¬ wetE (checkR h).2.2 water = 0 := he
    simp [he', he, eR, balV]
  have he' : wetE (checkR h).2.2 water = 0 := he
  have hl10 : h.ps.length ≤ 10 := (eR_len (wetE_zero he).1).2
  simp [he', he]
  refine CallK.pure B_r05_Smallest (r05_Smallest_spec h hl10 water _) ?_
  simp [he', he, eR, balV]

theorem r05_Balance_spec (h : HullM) (t : TruthM) (hl : h.ps.length ≤ maxLen) (water : Int) (σ : AHeap) :
    Spec Try.prog F_r05_Balance [h.v, t.v, ii' water] σ fun r σ' => r = .ret (.tup [balV (if wetE (truthR h t) water = 0 then weighR h t water else (0, 0, 0)), ii' (wetE (truthR h t) water)]) ∧ σ' = σ := by
  refine Spec.pureFn (spec_r05_Balance (by simp) (awpC_sound _ ?_)) (by simp [h.pure, t.pure]) rfl σ
  simp [C_r05_Balance, HullM.v, HullM.cells, TruthM.v]
  refine CallK.pure B_r05_Truth (r05_Truth_spec h t hl _) ?_
  simp
  refine CallK.pure B_r05_watered (r05_watered_spec _ _ _) ?_
  refine (Classical.em (wetE (truthR h t) water = 0)).elim (fun he => ?_) (fun he => ?_)
  rotate_left
  · simp [he, balV]
  have h0 := (wetE_zero he).1
  have hn : t.ws.length = h.ps.length ∧ t.ls.length = h.ps.length := by
    unfold truthR at h0
    split at h0
    · rename_i hx; exact absurd h0 hx
    · split at h0
      · cases h0
      · rename_i hx
        simp at hx
        exact hx
  simp [he]
  refine CallK.pure B_r05_Weighed (r05_Weighed_spec h t hl hn.1 hn.2 water _) ?_
  simp [balV, he]
end Go.AM
