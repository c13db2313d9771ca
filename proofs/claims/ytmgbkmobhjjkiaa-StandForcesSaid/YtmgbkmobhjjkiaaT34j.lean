/- The truth of a hull, and what it weighs: of the document. -/
import Derived.Test.YtmgbkmobhjjkiaaT34g
import Derived.Test.YtmgbkmobhjjkiaaT34d
import Derived.Test.YtmgbkmobhjjkiaaT34c
namespace Go.AM
open Go.Proofs
set_option maxRecDepth 100000
set_option maxHeartbeats 1000000

def eR (h : HullM) : Int := (checkR h).2.2
def strayF : List PartM → List Int → List Int → Bool
  | p :: r, a :: s, b :: t => (!insF a p.wLo p.wHi || !insF b p.lLo p.lHi) || strayF r s t
  | _, _, _ => false
def truthR (h : HullM) (t : TruthM) : Int :=
  if eR h ≠ 0 then eR h else if ¬ t.ws.length = h.ps.length ∨ ¬ t.ls.length = h.ps.length then 3
  else if strayF h.ps t.ws t.ls then 7 else 0

theorem r05_Truth_spec (h : HullM) (t : TruthM) (hl : h.ps.length ≤ maxLen) (σ : AHeap) : Spec Try.prog F_r05_Truth [h.v, t.v] σ fun r σ' => r = .ret (ii' (truthR h t)) ∧ σ' = σ := by
  refine Spec.pureFn (spec_r05_Truth (by simp) (awpC_sound _ ?_)) (by simp [h.pure, t.pure]) rfl σ
  simp [C_r05_Truth, HullM.v, HullM.cells, TruthM.v]
  refine CallK.pure B_r05_Check (r05_Check_spec h hl _) ?_
  refine (Classical.em (eR h = 0)).elim (fun he => ?_) (fun he => ?_)
  rotate_left
  · have he' : ¬ (checkR h).2.2 = 0 := he
    simp [tripR, he', truthR, he]
    rfl
  have he' : (checkR h).2.2 = 0 := he
  refine (Classical.em (t.ws.length = h.ps.length)).elim (fun h1 => ?_) (fun h1 => ?_)
  rotate_left
  · have h1' : ¬ (t.ws.length : Int) = h.ps.length := by omega
    simp [tripR, he', h1, h1', truthR, he]
  refine (Classical.em (t.ls.length = h.ps.length)).elim (fun h2 => ?_) (fun h2 => ?_)
  rotate_left
  · have h2' : ¬ (t.ls.length : Int) = h.ps.length := by omega
    simp [tripR, he', h1, h2, h2', truthR, he]
  have ht : truthR h t = if strayF h.ps t.ws t.ls then 7 else 0 := by simp [truthR, he, h1, h2]
  rw [ht]
  simp [tripR, he', h1, h2]
  refine AW.loop (ι := Nat) (fun i fr σ => fr = { v := [(2, .pval (.agg [.slice 7 (h.ps.map PartM.v), ii' h.aft, ii' h.fore])), (3, .pval (.agg [.slice 1 (t.ws.map ii'), .slice 1 (t.ls.map ii')])), (8, .int .i64 i)], ds := [] } ∧ i ≤ h.ps.length ∧ strayF h.ps t.ws t.ls = strayF (h.ps.drop i) (t.ws.drop i) (t.ls.drop i)) (fun i => h.ps.length - i) 0 (by simp) ?_
  rintro i fr σ ⟨rfl, hi, hp⟩
  refine (Nat.lt_or_ge i h.ps.length).elim (fun hlt => ?_) (fun hge => ?_)
  · have hd : h.ps.drop i = h.ps[i] :: h.ps.drop (i + 1) := List.drop_eq_getElem_cons hlt
    have hlw : i < t.ws.length := by omega
    have hll : i < t.ls.length := by omega
    have hdw : t.ws.drop i = t.ws[i] :: t.ws.drop (i + 1) := List.drop_eq_getElem_cons hlw
    have hdl : t.ls.drop i = t.ls[i] :: t.ls.drop (i + 1) := List.drop_eq_getElem_cons hll
    obtain ⟨x, hx⟩ : ∃ x, h.ps[i] = x := ⟨_, rfl⟩
    obtain ⟨a, ha⟩ : ∃ x, t.ws[i] = x := ⟨_, rfl⟩
    obtain ⟨b, hb⟩ : ∃ x, t.ls[i] = x := ⟨_, rfl⟩
    rw [hd, hdw, hdl, hx, ha, hb] at hp
    simp only [strayF] at hp
    rw [hp]
    refine awpC_sound _ ?_
    simp [hlt, hx, hlw, hll, ha, hb, PartM.v, PartM.cells]
    refine ⟨.bool (insF a x.wLo x.wHi), fun σ' => CallV.func B_r05_in (r05_in_spec _ _ _ _), ?_⟩
    refine (tf (insF a x.wLo x.wHi)).elim (fun h3 => ?_) (fun h3 => ?_)
    · simp [h3, hlt, hx, hlw, hll, ha, hb, PartM.v, PartM.cells]
      refine ⟨.bool true, ?_⟩
      simp [h3, hlt, hx, hlw, hll, ha, hb, PartM.v, PartM.cells]
    · simp [h3, hlt, hx, hlw, hll, ha, hb, PartM.v, PartM.cells]
      refine ⟨.bool (insF b x.lLo x.lHi), fun σ' => CallV.func B_r05_in (r05_in_spec _ _ _ _), ?_⟩
      refine (tf (insF b x.lLo x.lHi)).elim (fun h4 => ?_) (fun h4 => ?_)
      · simp [h4]
      · simp [h4]
        exact ⟨i + 1, by omega, wrap_id (by omega) (by simp only [maxLen] at hl; omega), by omega, rfl⟩
  · have : h.ps.drop i = [] := List.drop_eq_nil_of_le hge
    rw [this] at hp
    rw [hp]
    have hnl : ¬ i < h.ps.length := by omega
    refine awpC_sound _ ?_
    simp [hnl, strayF]
end Go.AM
