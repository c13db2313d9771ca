/- What a hull weighs in a truth: of the document. -/
import Derived.Test.YtmgbkmobhjjkiaaT34d
import Derived.Test.YtmgbkmobhjjkiaaT34c
namespace Go.AM
open Go.Proofs
set_option maxRecDepth 100000
set_option maxHeartbeats 1000000

def overR (water keel : Int) : Int := if 0 < wr (water - keel) then wr (water - keel) else 0
def pressR (t : TruthM) (water : Int) (p : PartM) (k : Nat) : Int := wr ((t.ws[k]?.getD 0) - wr ((t.ls[k]?.getD 0) * overR water p.keel))
def weighG (h : HullM) (t : TruthM) (water : Int) : Int → Int → Int → Nat → List PartM → Int × Int × Int
  | a, b, c, _, [] => (a, b, c)
  | a, b, c, k, p :: r => weighG h t water (wr (a + pressR t water p k)) (wr (b + wr (pressR t water p k * wr (p.at_ - h.aft)))) (wr (c + wr (pressR t water p k * wr (h.fore - p.at_)))) (k + 1) r
def weighR (h : HullM) (t : TruthM) (water : Int) : Int × Int × Int := weighG h t water 0 0 0 0 h.ps
def balV (x : Int × Int × Int) : AVal := .agg [ii' x.1, ii' x.2.1, ii' x.2.2]

theorem r05_Weighed_spec (h : HullM) (t : TruthM) (hl : h.ps.length ≤ maxLen) (h1 : t.ws.length = h.ps.length) (h2 : t.ls.length = h.ps.length) (water : Int) (σ : AHeap) :
    Spec Try.prog F_r05_Weighed [h.v, t.v, ii' water] σ fun r σ' => r = .ret (balV (weighR h t water)) ∧ σ' = σ := by
  refine Spec.pureFn (spec_r05_Weighed (by simp) (awpC_sound _ ?_)) (by simp [h.pure, t.pure]) rfl σ
  simp [C_r05_Weighed, HullM.v, HullM.cells, TruthM.v]
  refine AW.loop (ι := Nat) (fun i fr σ => ∃ a b c tl, fr = { v := [(2, ii' water), (3, .pval (.agg [.slice 7 (h.ps.map PartM.v), ii' h.aft, ii' h.fore])), (4, .pval (.agg [.slice 1 (t.ws.map ii'), .slice 1 (t.ls.map ii')])), (6, .ptr 0 0), (7, .ptr 1 0), (8, .int .i64 i)], ds := [] } ∧
      σ = .box [ii' 0, ii' 0, ii' 0] :: .box [ii' a, ii' b, ii' c] :: tl ∧ i ≤ h.ps.length ∧ weighR h t water = weighG h t water a b c i (h.ps.drop i)) (fun i => h.ps.length - i) 0 ⟨0, 0, 0, _, by simp, rfl, by simp, by simp [weighR]⟩ ?_
  rintro i fr σ ⟨a0, b0, c0, tl, rfl, rfl, hi, hs⟩
  refine (Nat.lt_or_ge i h.ps.length).elim (fun hlt => ?_) (fun hge => ?_)
  · have hd : h.ps.drop i = h.ps[i] :: h.ps.drop (i + 1) := List.drop_eq_getElem_cons hlt
    have hlw : i < t.ws.length := by omega
    have hll : i < t.ls.length := by omega
    obtain ⟨x, hx⟩ : ∃ x, h.ps[i] = x := ⟨_, rfl⟩
    obtain ⟨a, ha⟩ : ∃ x, t.ws[i] = x := ⟨_, rfl⟩
    obtain ⟨b, hb⟩ : ∃ x, t.ls[i] = x := ⟨_, rfl⟩
    rw [hd, hx] at hs
    simp only [weighG] at hs
    refine awpC_sound _ ?_
    simp [hlt, hx, hlw, hll, ha, hb, PartM.v, PartM.cells]
    refine ⟨i + 1, by omega, wrap_id (by omega) (by simp only [maxLen] at hl; omega), _, _, _, ⟨rfl, rfl, rfl⟩, by omega, ?_⟩
    rw [hs]
    simp [pressR, overR, hlw, hll, ha, hb]
  · have : h.ps.drop i = [] := List.drop_eq_nil_of_le hge
    rw [this] at hs
    simp only [weighG] at hs
    have hnl : ¬ i < h.ps.length := by omega
    refine awpC_sound _ ?_
    simp [hnl, hs, balV]
end Go.AM
