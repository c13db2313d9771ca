/- The sums in a truth, and the least ones: of the program. The sums in a truth: of the program. Balance and Least: of the program. -/
import Derived.Test.YtmgbkmobhjjkiaaP2
namespace Go.AM
open Go.Proofs
set_option maxRecDepth 100000
set_option maxHeartbeats 1000000

def overF (water keel : Int) : Int := if 0 < wr (water - keel) then wr (water - keel) else 0
/-- The arm of the sum number k. -/
def armF (h : HullM) (k : Nat) (p : PartM) : Int := if k = 0 then 1 else if k = 1 then wr (p.at_ - h.aft) else wr (h.fore - p.at_)
def sumG (t : PartM → Nat → Int) : Int → Nat → List PartM → Int
  | acc, _, [] => acc
  | acc, k, p :: r => sumG t (wr (acc + t p k)) (k + 1) r
def leastT (h : HullM) (water : Int) (j : Nat) (p : PartM) (_ : Nat) : Int :=
  wr (armF h j p * (if armF h j p < 0 then heavyF p (overF water p.keel) else lightF p (overF water p.keel)))
def leastS (h : HullM) (water : Int) (j : Nat) : Int := sumG (leastT h water j) 0 0 h.ps


theorem stand_least_spec (h : HullM) (hl : h.ps.length ≤ maxLen) (water : Int) (σ : AHeap) : Spec Try.prog F_stand_body_least [h.v, ii' water] σ fun r σ' => r = .ret (sumsV (leastS h water 0) (leastS h water 1) (leastS h water 2)) ∧ σ' = σ := by
  refine Spec.pureFn (spec_stand_body_least (by simp) (awpC_sound _ ?_)) (by simp [h.pure]) rfl σ
  simp [C_stand_body_least, HullM.v, HullM.cells]
  refine CallK.pure B_stand_body_levers (stand_levers_spec h _) ?_
  simp [leversV, HullM.v, HullM.cells]
  have hpu : pures (h.ps.map PartM.v) = true := pures_map (f := PartM.v) (fun _ => rfl) h.ps
  have w1 : IntKind.i64.wrap 1 = 1 := by decide
  have w2 : IntKind.i64.wrap 2 = 2 := by decide
  have w3 : IntKind.i64.wrap 3 = 3 := by decide
  have arm0 : ∀ x : PartM, PureF Try.prog (.func (.func 87) [] []) [x.v] (ii' (armF h 0 x)) := fun x => PureF.fn B_stand_body_levers_1 (fun σ => stand_levers_1_spec x σ)
  have arm1 : ∀ x : PartM, PureF Try.prog (.func (.func 88) [] [.pval h.v]) [x.v] (ii' (armF h 1 x)) := fun x => PureF.fn B_stand_body_levers_2 (fun σ => stand_levers_2_spec x h σ)
  have arm2 : ∀ x : PartM, PureF Try.prog (.func (.func 89) [] [.pval h.v]) [x.v] (ii' (armF h 2 x)) := fun x => PureF.fn B_stand_body_levers_3 (fun σ => stand_levers_3_spec x h σ)
  have heavy : ∀ (x : PartM) (w : Int), PureF Try.prog (.func (.func 91) [] []) [loadV' x (overF w x.keel)] (ii' (heavyF x (overF w x.keel))) := fun x w => PureF.fn B_stand_load_heavy (fun σ => stand_load_heavy_spec x _ σ)
  have light : ∀ (x : PartM) (w : Int), PureF Try.prog (.func (.func 90) [] []) [loadV' x (overF w x.keel)] (ii' (lightF x (overF w x.keel))) := fun x w => PureF.fn B_stand_load_light (fun σ => stand_load_light_spec x _ σ)
  refine AW.loop (ι := Nat) (fun j fr σ => fr = { v := [(1, ii' water), (2, .pval (.agg [.slice 7 (h.ps.map PartM.v), ii' h.aft, ii' h.fore])), (4, .ptr 0 0), (12, .agg [.func (.func 87) [] [], .func (.func 90) [] [], .func (.func 91) [] [], .func (.func 88) [] [.pval (.agg [.slice 7 (h.ps.map PartM.v), ii' h.aft, ii' h.fore])], .func (.func 90) [] [], .func (.func 91) [] [], .func (.func 89) [] [.pval (.agg [.slice 7 (h.ps.map PartM.v), ii' h.aft, ii' h.fore])], .func (.func 90) [] [], .func (.func 91) [] []]), (13, .int .i64 j)], ds := [] } ∧
      ((j = 0 ∧ ∃ tl, σ = .box [ii' 0, ii' 0, ii' 0] :: tl) ∨ (j = 1 ∧ ∃ tl, σ = .box [ii' (leastS h water 0), ii' 0, ii' 0] :: tl) ∨ (j = 2 ∧ ∃ tl, σ = .box [ii' (leastS h water 0), ii' (leastS h water 1), ii' 0] :: tl) ∨
       (j = 3 ∧ ∃ tl, σ = .box [ii' (leastS h water 0), ii' (leastS h water 1), ii' (leastS h water 2)] :: tl))) (fun j => 3 - j) 0 ⟨by simp, .inl ⟨rfl, _, rfl⟩⟩ ?_
  rintro j fr σ ⟨rfl, hcs⟩
  refine awpC_sound _ ?_
  refine hcs.elim (fun hh => ?_) (fun hcs => hcs.elim (fun hh => ?_) (fun hcs => hcs.elim (fun hh => ?_) (fun hh => ?_)))
  · obtain ⟨rfl, tl, rfl⟩ := hh
    simp
    refine AW.loop (ι := Nat) (fun i fr σ => ∃ acc tl, fr = { v := [(1, ii' water), (2, .pval (.agg [.slice 7 (h.ps.map PartM.v), ii' h.aft, ii' h.fore])), (4, .ptr 0 0), (5, .int .i64 0), (6, .pval (.agg [.func (.func 87) [] [], .func (.func 90) [] [], .func (.func 91) [] []])), (12, .agg [.func (.func 87) [] [], .func (.func 90) [] [], .func (.func 91) [] [], .func (.func 88) [] [.pval (.agg [.slice 7 (h.ps.map PartM.v), ii' h.aft, ii' h.fore])], .func (.func 90) [] [], .func (.func 91) [] [], .func (.func 89) [] [.pval (.agg [.slice 7 (h.ps.map PartM.v), ii' h.aft, ii' h.fore])], .func (.func 90) [] [], .func (.func 91) [] []]), (13, .int .i64 0), (19, .slice 7 (h.ps.map PartM.v)), (20, .int .i64 h.ps.length), (21, .int .i64 i)], ds := [] } ∧
      σ = .box [ii' (acc), ii' (0), ii' (0)] :: tl ∧ i ≤ h.ps.length ∧ leastS h water 0 = sumG (leastT h water 0) acc i (h.ps.drop i)) (fun i => h.ps.length - i) 0 ⟨0, _, by simp, rfl, by simp, by simp [leastS]⟩ ?_
    rintro i fr σ ⟨acc, tl, rfl, rfl, hi, hs⟩
    refine (Nat.lt_or_ge i h.ps.length).elim (fun hlt => ?_) (fun hge => ?_)
    · have hd : h.ps.drop i = h.ps[i] :: h.ps.drop (i + 1) := List.drop_eq_getElem_cons hlt
      obtain ⟨x, hx⟩ : ∃ x, h.ps[i] = x := ⟨_, rfl⟩
      rw [hd, hx] at hs
      simp only [sumG] at hs
      refine awpC_sound _ ?_
      simp [hlt, hx, PartM.v, PartM.cells]
      refine CallK.of (arm0 x _) ?_
      refine (Classical.em (armF h 0 x < 0)).elim (fun h1 => ?_) (fun h1 => ?_)
      · simp [h1, hlt, hx, PartM.v, PartM.cells]
        refine ⟨_, fun σ' => arm0 x σ', ?_⟩
        simp
        refine ⟨_, fun σ' => heavy x water σ', ?_⟩
        simp
        refine ⟨i + 1, by omega, wrap_id (by omega) (by simp only [maxLen] at hl; omega), by omega, ?_⟩
        rw [hs]
        simp [leastT, h1]
      · simp [h1, hlt, hx, PartM.v, PartM.cells]
        refine ⟨_, fun σ' => arm0 x σ', ?_⟩
        simp
        refine ⟨_, fun σ' => light x water σ', ?_⟩
        simp
        refine ⟨i + 1, by omega, wrap_id (by omega) (by simp only [maxLen] at hl; omega), by omega, ?_⟩
        rw [hs]
        simp [leastT, h1]
    · have : h.ps.drop i = [] := List.drop_eq_nil_of_le hge
      rw [this] at hs
      simp only [sumG] at hs
      subst hs
      have hnl : ¬ i < h.ps.length := by omega
      refine awpC_sound _ ?_
      simp [hnl]
      exact ⟨1, by omega, w1, by simp⟩
  · obtain ⟨rfl, tl, rfl⟩ := hh
    simp
    refine AW.loop (ι := Nat) (fun i fr σ => ∃ acc tl, fr = { v := [(1, ii' water), (2, .pval (.agg [.slice 7 (h.ps.map PartM.v), ii' h.aft, ii' h.fore])), (4, .ptr 0 0), (5, .int .i64 1), (6, .pval (.agg [.func (.func 88) [] [.pval (.agg [.slice 7 (h.ps.map PartM.v), ii' h.aft, ii' h.fore])], .func (.func 90) [] [], .func (.func 91) [] []])), (12, .agg [.func (.func 87) [] [], .func (.func 90) [] [], .func (.func 91) [] [], .func (.func 88) [] [.pval (.agg [.slice 7 (h.ps.map PartM.v), ii' h.aft, ii' h.fore])], .func (.func 90) [] [], .func (.func 91) [] [], .func (.func 89) [] [.pval (.agg [.slice 7 (h.ps.map PartM.v), ii' h.aft, ii' h.fore])], .func (.func 90) [] [], .func (.func 91) [] []]), (13, .int .i64 1), (19, .slice 7 (h.ps.map PartM.v)), (20, .int .i64 h.ps.length), (21, .int .i64 i)], ds := [] } ∧
      σ = .box [ii' (leastS h water 0), ii' (acc), ii' (0)] :: tl ∧ i ≤ h.ps.length ∧ leastS h water 1 = sumG (leastT h water 1) acc i (h.ps.drop i)) (fun i => h.ps.length - i) 0 ⟨0, _, by simp, rfl, by simp, by simp [leastS]⟩ ?_
    rintro i fr σ ⟨acc, tl, rfl, rfl, hi, hs⟩
    refine (Nat.lt_or_ge i h.ps.length).elim (fun hlt => ?_) (fun hge => ?_)
    · have hd : h.ps.drop i = h.ps[i] :: h.ps.drop (i + 1) := List.drop_eq_getElem_cons hlt
      obtain ⟨x, hx⟩ : ∃ x, h.ps[i] = x := ⟨_, rfl⟩
      rw [hd, hx] at hs
      simp only [sumG] at hs
      refine awpC_sound _ ?_
      simp [hlt, hx, PartM.v, PartM.cells]
      refine CallK.of (arm1 x _) ?_
      refine (Classical.em (armF h 1 x < 0)).elim (fun h1 => ?_) (fun h1 => ?_)
      · simp [h1, hlt, hx, hpu, PartM.v, PartM.cells]
        refine ⟨_, fun σ' _ => arm1 x σ', ?_⟩
        simp
        refine ⟨_, fun σ' => heavy x water σ', ?_⟩
        simp
        refine ⟨i + 1, by omega, wrap_id (by omega) (by simp only [maxLen] at hl; omega), by omega, ?_⟩
        rw [hs]
        simp [leastT, h1]
      · simp [h1, hlt, hx, hpu, PartM.v, PartM.cells]
        refine ⟨_, fun σ' _ => arm1 x σ', ?_⟩
        simp
        refine ⟨_, fun σ' => light x water σ', ?_⟩
        simp
        refine ⟨i + 1, by omega, wrap_id (by omega) (by simp only [maxLen] at hl; omega), by omega, ?_⟩
        rw [hs]
        simp [leastT, h1]
    · have : h.ps.drop i = [] := List.drop_eq_nil_of_le hge
      rw [this] at hs
      simp only [sumG] at hs
      subst hs
      have hnl : ¬ i < h.ps.length := by omega
      refine awpC_sound _ ?_
      simp [hnl]
      exact ⟨2, by omega, w2, by simp⟩
  · obtain ⟨rfl, tl, rfl⟩ := hh
    simp
    refine AW.loop (ι := Nat) (fun i fr σ => ∃ acc tl, fr = { v := [(1, ii' water), (2, .pval (.agg [.slice 7 (h.ps.map PartM.v), ii' h.aft, ii' h.fore])), (4, .ptr 0 0), (5, .int .i64 2), (6, .pval (.agg [.func (.func 89) [] [.pval (.agg [.slice 7 (h.ps.map PartM.v), ii' h.aft, ii' h.fore])], .func (.func 90) [] [], .func (.func 91) [] []])), (12, .agg [.func (.func 87) [] [], .func (.func 90) [] [], .func (.func 91) [] [], .func (.func 88) [] [.pval (.agg [.slice 7 (h.ps.map PartM.v), ii' h.aft, ii' h.fore])], .func (.func 90) [] [], .func (.func 91) [] [], .func (.func 89) [] [.pval (.agg [.slice 7 (h.ps.map PartM.v), ii' h.aft, ii' h.fore])], .func (.func 90) [] [], .func (.func 91) [] []]), (13, .int .i64 2), (19, .slice 7 (h.ps.map PartM.v)), (20, .int .i64 h.ps.length), (21, .int .i64 i)], ds := [] } ∧
      σ = .box [ii' (leastS h water 0), ii' (leastS h water 1), ii' (acc)] :: tl ∧ i ≤ h.ps.length ∧ leastS h water 2 = sumG (leastT h water 2) acc i (h.ps.drop i)) (fun i => h.ps.length - i) 0 ⟨0, _, by simp, rfl, by simp, by simp [leastS]⟩ ?_
    rintro i fr σ ⟨acc, tl, rfl, rfl, hi, hs⟩
    refine (Nat.lt_or_ge i h.ps.length).elim (fun hlt => ?_) (fun hge => ?_)
    · have hd : h.ps.drop i = h.ps[i] :: h.ps.drop (i + 1) := List.drop_eq_getElem_cons hlt
      obtain ⟨x, hx⟩ : ∃ x, h.ps[i] = x := ⟨_, rfl⟩
      rw [hd, hx] at hs
      simp only [sumG] at hs
      refine awpC_sound _ ?_
      simp [hlt, hx, PartM.v, PartM.cells]
      refine CallK.of (arm2 x _) ?_
      refine (Classical.em (armF h 2 x < 0)).elim (fun h1 => ?_) (fun h1 => ?_)
      · simp [h1, hlt, hx, hpu, PartM.v, PartM.cells]
        refine ⟨_, fun σ' _ => arm2 x σ', ?_⟩
        simp
        refine ⟨_, fun σ' => heavy x water σ', ?_⟩
        simp
        refine ⟨i + 1, by omega, wrap_id (by omega) (by simp only [maxLen] at hl; omega), by omega, ?_⟩
        rw [hs]
        simp [leastT, h1]
      · simp [h1, hlt, hx, hpu, PartM.v, PartM.cells]
        refine ⟨_, fun σ' _ => arm2 x σ', ?_⟩
        simp
        refine ⟨_, fun σ' => light x water σ', ?_⟩
        simp
        refine ⟨i + 1, by omega, wrap_id (by omega) (by simp only [maxLen] at hl; omega), by omega, ?_⟩
        rw [hs]
        simp [leastT, h1]
    · have : h.ps.drop i = [] := List.drop_eq_nil_of_le hge
      rw [this] at hs
      simp only [sumG] at hs
      subst hs
      have hnl : ¬ i < h.ps.length := by omega
      refine awpC_sound _ ?_
      simp [hnl]
      exact ⟨3, by omega, w3, by simp⟩
  · obtain ⟨rfl, tl, rfl⟩ := hh
    simp [sumsV]
end Go.AM

namespace Go.AM
open Go.Proofs
set_option maxRecDepth 100000
set_option maxHeartbeats 1000000

def pressF (t : TruthM) (water : Int) (p : PartM) (k : Nat) : Int := wr ((t.ws[k]?.getD 0) - wr ((t.ls[k]?.getD 0) * overF water p.keel))
def inT (h : HullM) (t : TruthM) (water : Int) (j : Nat) (p : PartM) (k : Nat) : Int := wr (armF h j p * pressF t water p k)
def inS (h : HullM) (t : TruthM) (water : Int) (j : Nat) : Int := sumG (inT h t water j) 0 0 h.ps

theorem stand_in_spec (h : HullM) (t : TruthM) (hl : h.ps.length ≤ maxLen) (h1 : t.ws.length = h.ps.length) (h2 : t.ls.length = h.ps.length) (water : Int) (σ : AHeap) :
    Spec Try.prog F_stand_body_in [h.v, t.v, ii' water] σ fun r σ' => r = .ret (sumsV (inS h t water 0) (inS h t water 1) (inS h t water 2)) ∧ σ' = σ := by
  refine Spec.pureFn (spec_stand_body_in (by simp) (awpC_sound _ ?_)) (by simp [h.pure, t.pure]) rfl σ
  simp [C_stand_body_in, HullM.v, HullM.cells, TruthM.v]
  refine CallK.pure B_stand_body_levers (stand_levers_spec h _) ?_
  simp [leversV, HullM.v, HullM.cells]
  have hpu : pures (h.ps.map PartM.v) = true := pures_map (f := PartM.v) (fun _ => rfl) h.ps
  have w1 : IntKind.i64.wrap 1 = 1 := by decide
  have w2 : IntKind.i64.wrap 2 = 2 := by decide
  have w3 : IntKind.i64.wrap 3 = 3 := by decide
  have arm0 : ∀ x : PartM, PureF Try.prog (.func (.func 87) [] []) [x.v] (ii' (armF h 0 x)) := fun x => PureF.fn B_stand_body_levers_1 (fun σ => stand_levers_1_spec x σ)
  have arm1 : ∀ x : PartM, PureF Try.prog (.func (.func 88) [] [.pval h.v]) [x.v] (ii' (armF h 1 x)) := fun x => PureF.fn B_stand_body_levers_2 (fun σ => stand_levers_2_spec x h σ)
  have arm2 : ∀ x : PartM, PureF Try.prog (.func (.func 89) [] [.pval h.v]) [x.v] (ii' (armF h 2 x)) := fun x => PureF.fn B_stand_body_levers_3 (fun σ => stand_levers_3_spec x h σ)
  refine AW.loop (ι := Nat) (fun j fr σ => fr = { v := [(2, ii' water), (3, .pval (.agg [.slice 7 (h.ps.map PartM.v), ii' h.aft, ii' h.fore])), (4, .pval (.agg [.slice 1 (t.ws.map ii'), .slice 1 (t.ls.map ii')])), (6, .ptr 0 0), (12, .agg [.func (.func 87) [] [], .func (.func 90) [] [], .func (.func 91) [] [], .func (.func 88) [] [.pval (.agg [.slice 7 (h.ps.map PartM.v), ii' h.aft, ii' h.fore])], .func (.func 90) [] [], .func (.func 91) [] [], .func (.func 89) [] [.pval (.agg [.slice 7 (h.ps.map PartM.v), ii' h.aft, ii' h.fore])], .func (.func 90) [] [], .func (.func 91) [] []]), (13, .int .i64 j)], ds := [] } ∧
      ((j = 0 ∧ ∃ tl, σ = .box [ii' 0, ii' 0, ii' 0] :: tl) ∨ (j = 1 ∧ ∃ tl, σ = .box [ii' (inS h t water 0), ii' 0, ii' 0] :: tl) ∨ (j = 2 ∧ ∃ tl, σ = .box [ii' (inS h t water 0), ii' (inS h t water 1), ii' 0] :: tl) ∨
       (j = 3 ∧ ∃ tl, σ = .box [ii' (inS h t water 0), ii' (inS h t water 1), ii' (inS h t water 2)] :: tl))) (fun j => 3 - j) 0 ⟨by simp, .inl ⟨rfl, _, rfl⟩⟩ ?_
  rintro j fr σ ⟨rfl, hcs⟩
  refine awpC_sound _ ?_
  refine hcs.elim (fun hh => ?_) (fun hcs => hcs.elim (fun hh => ?_) (fun hcs => hcs.elim (fun hh => ?_) (fun hh => ?_)))
  · obtain ⟨rfl, tl, rfl⟩ := hh
    clear hcs
    simp
    refine AW.loop (ι := Nat) (fun i fr σ => ∃ acc tl, fr = { v := [(2, ii' water), (3, .pval (.agg [.slice 7 (h.ps.map PartM.v), ii' h.aft, ii' h.fore])), (4, .pval (.agg [.slice 1 (t.ws.map ii'), .slice 1 (t.ls.map ii')])), (6, .ptr 0 0), (7, .int .i64 0), (8, .pval (.agg [.func (.func 87) [] [], .func (.func 90) [] [], .func (.func 91) [] []])), (12, .agg [.func (.func 87) [] [], .func (.func 90) [] [], .func (.func 91) [] [], .func (.func 88) [] [.pval (.agg [.slice 7 (h.ps.map PartM.v), ii' h.aft, ii' h.fore])], .func (.func 90) [] [], .func (.func 91) [] [], .func (.func 89) [] [.pval (.agg [.slice 7 (h.ps.map PartM.v), ii' h.aft, ii' h.fore])], .func (.func 90) [] [], .func (.func 91) [] []]), (13, .int .i64 0), (19, .slice 7 (h.ps.map PartM.v)), (20, .int .i64 h.ps.length), (21, .int .i64 i)], ds := [] } ∧
      σ = .box [ii' (acc), ii' (0), ii' (0)] :: tl ∧ i ≤ h.ps.length ∧ inS h t water 0 = sumG (inT h t water 0) acc i (h.ps.drop i)) (fun i => h.ps.length - i) 0 ⟨0, _, by simp, rfl, by simp, by simp [inS]⟩ ?_
    rintro i fr σ ⟨acc, tl, rfl, rfl, hi, hs⟩
    refine (Nat.lt_or_ge i h.ps.length).elim (fun hlt => ?_) (fun hge => ?_)
    · have hd : h.ps.drop i = h.ps[i] :: h.ps.drop (i + 1) := List.drop_eq_getElem_cons hlt
      obtain ⟨x, hx⟩ : ∃ x, h.ps[i] = x := ⟨_, rfl⟩
      have hlw : i < t.ws.length := by omega
      have hll : i < t.ls.length := by omega
      obtain ⟨a, ha⟩ : ∃ x, t.ws[i] = x := ⟨_, rfl⟩
      obtain ⟨b, hb⟩ : ∃ x, t.ls[i] = x := ⟨_, rfl⟩
      rw [hd, hx] at hs
      simp only [sumG] at hs
      refine awpC_sound _ ?_
      simp [hlt, hx, hlw, hll, ha, hb, PartM.v, PartM.cells]
      refine ⟨_, fun σ' => arm0 x σ', ?_⟩
      simp
      refine ⟨i + 1, by omega, wrap_id (by omega) (by simp only [maxLen] at hl; omega), by omega, ?_⟩
      rw [hs]
      simp [inT, pressF, overF, ha, hb, hlw, hll]
    · have : h.ps.drop i = [] := List.drop_eq_nil_of_le hge
      rw [this] at hs
      simp only [sumG] at hs
      subst hs
      have hnl : ¬ i < h.ps.length := by omega
      refine awpC_sound _ ?_
      simp [hnl]
      exact ⟨1, by omega, w1, by simp⟩
  · obtain ⟨rfl, tl, rfl⟩ := hh
    clear hcs
    simp
    refine AW.loop (ι := Nat) (fun i fr σ => ∃ acc tl, fr = { v := [(2, ii' water), (3, .pval (.agg [.slice 7 (h.ps.map PartM.v), ii' h.aft, ii' h.fore])), (4, .pval (.agg [.slice 1 (t.ws.map ii'), .slice 1 (t.ls.map ii')])), (6, .ptr 0 0), (7, .int .i64 1), (8, .pval (.agg [.func (.func 88) [] [.pval (.agg [.slice 7 (h.ps.map PartM.v), ii' h.aft, ii' h.fore])], .func (.func 90) [] [], .func (.func 91) [] []])), (12, .agg [.func (.func 87) [] [], .func (.func 90) [] [], .func (.func 91) [] [], .func (.func 88) [] [.pval (.agg [.slice 7 (h.ps.map PartM.v), ii' h.aft, ii' h.fore])], .func (.func 90) [] [], .func (.func 91) [] [], .func (.func 89) [] [.pval (.agg [.slice 7 (h.ps.map PartM.v), ii' h.aft, ii' h.fore])], .func (.func 90) [] [], .func (.func 91) [] []]), (13, .int .i64 1), (19, .slice 7 (h.ps.map PartM.v)), (20, .int .i64 h.ps.length), (21, .int .i64 i)], ds := [] } ∧
      σ = .box [ii' (inS h t water 0), ii' (acc), ii' (0)] :: tl ∧ i ≤ h.ps.length ∧ inS h t water 1 = sumG (inT h t water 1) acc i (h.ps.drop i)) (fun i => h.ps.length - i) 0 ⟨0, _, by simp, rfl, by simp, by simp [inS]⟩ ?_
    rintro i fr σ ⟨acc, tl, rfl, rfl, hi, hs⟩
    refine (Nat.lt_or_ge i h.ps.length).elim (fun hlt => ?_) (fun hge => ?_)
    · have hd : h.ps.drop i = h.ps[i] :: h.ps.drop (i + 1) := List.drop_eq_getElem_cons hlt
      obtain ⟨x, hx⟩ : ∃ x, h.ps[i] = x := ⟨_, rfl⟩
      have hlw : i < t.ws.length := by omega
      have hll : i < t.ls.length := by omega
      obtain ⟨a, ha⟩ : ∃ x, t.ws[i] = x := ⟨_, rfl⟩
      obtain ⟨b, hb⟩ : ∃ x, t.ls[i] = x := ⟨_, rfl⟩
      rw [hd, hx] at hs
      simp only [sumG] at hs
      refine awpC_sound _ ?_
      simp [hlt, hx, hpu, hlw, hll, ha, hb, PartM.v, PartM.cells]
      refine ⟨_, fun σ' _ => arm1 x σ', ?_⟩
      simp
      refine ⟨i + 1, by omega, wrap_id (by omega) (by simp only [maxLen] at hl; omega), by omega, ?_⟩
      rw [hs]
      simp [inT, pressF, overF, ha, hb, hlw, hll]
    · have : h.ps.drop i = [] := List.drop_eq_nil_of_le hge
      rw [this] at hs
      simp only [sumG] at hs
      subst hs
      have hnl : ¬ i < h.ps.length := by omega
      refine awpC_sound _ ?_
      simp [hnl]
      exact ⟨2, by omega, w2, by simp⟩
  · obtain ⟨rfl, tl, rfl⟩ := hh
    clear hcs
    simp
    refine AW.loop (ι := Nat) (fun i fr σ => ∃ acc tl, fr = { v := [(2, ii' water), (3, .pval (.agg [.slice 7 (h.ps.map PartM.v), ii' h.aft, ii' h.fore])), (4, .pval (.agg [.slice 1 (t.ws.map ii'), .slice 1 (t.ls.map ii')])), (6, .ptr 0 0), (7, .int .i64 2), (8, .pval (.agg [.func (.func 89) [] [.pval (.agg [.slice 7 (h.ps.map PartM.v), ii' h.aft, ii' h.fore])], .func (.func 90) [] [], .func (.func 91) [] []])), (12, .agg [.func (.func 87) [] [], .func (.func 90) [] [], .func (.func 91) [] [], .func (.func 88) [] [.pval (.agg [.slice 7 (h.ps.map PartM.v), ii' h.aft, ii' h.fore])], .func (.func 90) [] [], .func (.func 91) [] [], .func (.func 89) [] [.pval (.agg [.slice 7 (h.ps.map PartM.v), ii' h.aft, ii' h.fore])], .func (.func 90) [] [], .func (.func 91) [] []]), (13, .int .i64 2), (19, .slice 7 (h.ps.map PartM.v)), (20, .int .i64 h.ps.length), (21, .int .i64 i)], ds := [] } ∧
      σ = .box [ii' (inS h t water 0), ii' (inS h t water 1), ii' (acc)] :: tl ∧ i ≤ h.ps.length ∧ inS h t water 2 = sumG (inT h t water 2) acc i (h.ps.drop i)) (fun i => h.ps.length - i) 0 ⟨0, _, by simp, rfl, by simp, by simp [inS]⟩ ?_
    rintro i fr σ ⟨acc, tl, rfl, rfl, hi, hs⟩
    refine (Nat.lt_or_ge i h.ps.length).elim (fun hlt => ?_) (fun hge => ?_)
    · have hd : h.ps.drop i = h.ps[i] :: h.ps.drop (i + 1) := List.drop_eq_getElem_cons hlt
      obtain ⟨x, hx⟩ : ∃ x, h.ps[i] = x := ⟨_, rfl⟩
      have hlw : i < t.ws.length := by omega
      have hll : i < t.ls.length := by omega
      obtain ⟨a, ha⟩ : ∃ x, t.ws[i] = x := ⟨_, rfl⟩
      obtain ⟨b, hb⟩ : ∃ x, t.ls[i] = x := ⟨_, rfl⟩
      rw [hd, hx] at hs
      simp only [sumG] at hs
      refine awpC_sound _ ?_
      simp [hlt, hx, hpu, hlw, hll, ha, hb, PartM.v, PartM.cells]
      refine ⟨_, fun σ' _ => arm2 x σ', ?_⟩
      simp
      refine ⟨i + 1, by omega, wrap_id (by omega) (by simp only [maxLen] at hl; omega), by omega, ?_⟩
      rw [hs]
      simp [inT, pressF, overF, ha, hb, hlw, hll]
    · have : h.ps.drop i = [] := List.drop_eq_nil_of_le hge
      rw [this] at hs
      simp only [sumG] at hs
      subst hs
      have hnl : ¬ i < h.ps.length := by omega
      refine awpC_sound _ ?_
      simp [hnl]
      exact ⟨3, by omega, w3, by simp⟩
  · obtain ⟨rfl, tl, rfl⟩ := hh
    simp [sumsV]
end Go.AM

namespace Go.AM
open Go.Proofs
set_option maxRecDepth 100000
set_option maxHeartbeats 1000000

def eF (h : HullM) : Int := (checkF h).2.2
theorem stand_wet_spec (h : HullM) (hl : h.ps.length ≤ maxLen) (water : Int) (σ : AHeap) : Spec Try.prog F_stand_wet [h.v, ii' water] σ fun r σ' => r = .ret (.tup [h.v, ii' (wetE (eF h) water)]) ∧ σ' = σ := by
  refine Spec.pureFn (spec_stand_wet (by simp) (awpC_sound _ ?_)) (by simp [h.pure]) (by simp [AVal.pure, pures, h.pure]) σ
  simp [C_stand_wet, HullM.v, HullM.cells]
  refine CallK.pure B_stand_Check (stand_Check_spec h hl _) ?_
  refine (Classical.em (eF h = 0)).elim (fun he => ?_) (fun he => ?_)
  · have he' : (checkF h).2.2 = 0 := he
    simp [tripV, he']
    refine (tf (beyondF 0 1000 [water])).elim (fun hb => ?_) (fun hb => ?_)
    · refine CallK.pureE B_stand_beyond (stand_beyond_spec 0 1000 [water] (by simp [maxLen]) _) (congrArg AVal.bool hb) ?_
      simp [wetE, he, hb, tripV, he']
    · refine CallK.pureE B_stand_beyond (stand_beyond_spec 0 1000 [water] (by simp [maxLen]) _) (congrArg AVal.bool hb) ?_
      simp [wetE, he, hb, tripV, he']
  · have he' : ¬ (checkF h).2.2 = 0 := he
    simp [tripV, he', wetE, he]
    rfl

def zeroH : HullM := { ps := [], aft := 0, fore := 0 }
def truthE (h : HullM) (t : TruthM) : Int :=
  if eF h ≠ 0 then eF h else if ¬ t.ws.length = h.ps.length ∨ ¬ t.ls.length = h.ps.length then 3
  else if strangeF (fun p => (p.wLo, p.wHi)) h.ps t.ws || strangeF (fun p => (p.lLo, p.lHi)) h.ps t.ls then 7 else 0

theorem stand_open_spec (h : HullM) (t : TruthM) (hl : h.ps.length ≤ maxLen) (water : Int) (σ : AHeap) :
    Spec Try.prog F_stand_open [h.v, t.v, ii' water] σ fun r σ' => r = .ret (.tup [if truthE h t = 0 then h.v else zeroH.v, ii' (wetE (truthE h t) water)]) ∧ σ' = σ := by
  refine Spec.pureFn (spec_stand_open (by simp) (awpC_sound _ ?_)) (by simp [h.pure, t.pure]) ?_ σ
  rotate_left
  · by_cases hz : truthE h t = 0 <;> simp [hz, AVal.pure, pures, h.pure, zeroH.pure]
  simp [C_stand_open, HullM.v, HullM.cells, TruthM.v]
  refine CallK.pure B_stand_Check (stand_Check_spec h hl _) ?_
  refine (Classical.em (eF h = 0)).elim (fun he => ?_) (fun he => ?_)
  · have he' : (checkF h).2.2 = 0 := he
    simp [tripV, he']
    refine ⟨fun hx => ?_, fun hw hl' => ?_⟩
    · have hx' : ¬ t.ws.length = h.ps.length ∨ ¬ t.ls.length = h.ps.length := by omega
      have ht : truthE h t = 3 := by simp only [truthE, he]; rw [if_neg (by simp), if_pos hx']
      simp [ht, wetE, zeroH]
    have hw' : t.ws.length = h.ps.length := by omega
    have hl'' : t.ls.length = h.ps.length := by omega
    have sW := fun σ => stand_strange_spec 85 (fun p => (p.wLo, p.wHi)) h.ps t.ws hl hw' (fun p => PureF.fn B_stand_open_1 (fun σ => stand_open_1_spec p σ)) σ
    have sL := fun σ => stand_strange_spec 86 (fun p => (p.lLo, p.lHi)) h.ps t.ls hl hl'' (fun p => PureF.fn B_stand_open_2 (fun σ => stand_open_2_spec p σ)) σ
    have ht : truthE h t = if strangeF (fun p => (p.wLo, p.wHi)) h.ps t.ws || strangeF (fun p => (p.lLo, p.lHi)) h.ps t.ls then 7 else 0 := by simp [truthE, he, hw', hl'']
    refine (tf (strangeF (fun p => (p.wLo, p.wHi)) h.ps t.ws)).elim (fun h1 => ?_) (fun h1 => ?_)
    · refine CallK.pureE B_stand_strange_api_StPart (sW _) (congrArg AVal.bool h1) ?_
      simp
      refine (tf (strangeF (fun p => (p.lLo, p.lHi)) h.ps t.ls)).elim (fun h2 => ?_) (fun h2 => ?_)
      · refine CallK.pureE B_stand_strange_api_StPart (sL _) (congrArg AVal.bool h2) ?_
        rw [h1, h2] at ht
        simp at ht
        simp
        refine CallK.pure B_stand_wet (stand_wet_spec h hl water _) ?_
        simp [ht, he, HullM.v, HullM.cells]
      · refine CallK.pureE B_stand_strange_api_StPart (sL _) (congrArg AVal.bool h2) ?_
        rw [h1, h2] at ht
        simp at ht
        simp [ht, wetE, zeroH]
    · refine CallK.pureE B_stand_strange_api_StPart (sW _) (congrArg AVal.bool h1) ?_
      rw [h1] at ht
      simp at ht
      simp [ht, wetE, zeroH]
  · have he' : ¬ (checkF h).2.2 = 0 := he
    have ht : truthE h t = eF h := by simp [truthE, he]
    simp [tripV, he', wetE, he, ht, zeroH]
    rfl

theorem wetE_zero' {e water : Int} (h : wetE e water = 0) : e = 0 := by
  unfold wetE at h
  split at h
  · cases h
  · exact h

theorem stand_Balance_spec (h : HullM) (t : TruthM) (hl : h.ps.length ≤ maxLen) (water : Int) (σ : AHeap) :
    Spec Try.prog F_stand_Balance [h.v, t.v, ii' water] σ fun r σ' => r = .ret (.tup [if wetE (truthE h t) water = 0 then sumsV (inS h t water 0) (inS h t water 1) (inS h t water 2) else sumsV 0 0 0, ii' (wetE (truthE h t) water)]) ∧ σ' = σ := by
  refine Spec.pureFn (spec_stand_Balance (by simp) (awpC_sound _ ?_)) (by simp [h.pure, t.pure]) ?_ σ
  rotate_left
  · by_cases hz : wetE (truthE h t) water = 0 <;> simp [hz, AVal.pure, pures, sumsV]
  simp [C_stand_Balance, HullM.v, HullM.cells, TruthM.v]
  refine CallK.pure B_stand_open (stand_open_spec h t hl water _) ?_
  refine (Classical.em (truthE h t = 0)).elim (fun h0 => ?_) (fun h0 => ?_)
  · refine (Classical.em (wetE 0 water = 0)).elim (fun h1 => ?_) (fun h1 => ?_)
    · have hn : t.ws.length = h.ps.length ∧ t.ls.length = h.ps.length := by
        have h0' := h0
        unfold truthE at h0'
        split at h0'
        · rename_i hx; exact absurd h0' hx
        · split at h0'
          · cases h0'
          · rename_i hx
            simp at hx
            exact hx
      simp [h0, h1, HullM.v, HullM.cells]
      refine CallK.pure B_stand_body_in (stand_in_spec h t hl hn.1 hn.2 water _) ?_
      simp [sumsV]
      refine CallK.pure B_stand_sums_balance (stand_sums_balance_spec _ _ _ _) ?_
      simp [h0, h1, sumsV]
    · simp [h0, h1, HullM.v, HullM.cells, sumsV]
  · have h1 : ¬ wetE (truthE h t) water = 0 := fun e => h0 (wetE_zero' e)
    simp [h0, h1, HullM.v, HullM.cells, zeroH, sumsV]

theorem stand_Least_spec (h : HullM) (hl : h.ps.length ≤ maxLen) (water : Int) (σ : AHeap) :
    Spec Try.prog F_stand_Least [h.v, ii' water] σ fun r σ' => r = .ret (.tup [if wetE (eF h) water = 0 then sumsV (leastS h water 0) (leastS h water 1) (leastS h water 2) else sumsV 0 0 0, ii' (wetE (eF h) water)]) ∧ σ' = σ := by
  refine Spec.pureFn (spec_stand_Least (by simp) (awpC_sound _ ?_)) (by simp [h.pure]) ?_ σ
  rotate_left
  · by_cases hz : wetE (eF h) water = 0 <;> simp [hz, AVal.pure, pures, sumsV]
  simp [C_stand_Least, HullM.v, HullM.cells]
  refine CallK.pure B_stand_wet (stand_wet_spec h hl water _) ?_
  refine (Classical.em (wetE (eF h) water = 0)).elim (fun h1 => ?_) (fun h1 => ?_)
  · simp [h1, HullM.v, HullM.cells]
    refine CallK.pure B_stand_body_least (stand_least_spec h hl water _) ?_
    simp [sumsV]
    refine CallK.pure B_stand_sums_balance (stand_sums_balance_spec _ _ _ _) ?_
    simp [h1, sumsV]
  · simp [h1, HullM.v, HullM.cells, sumsV]
end Go.AM
