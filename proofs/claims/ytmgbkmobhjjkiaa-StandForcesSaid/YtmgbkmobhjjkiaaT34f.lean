/- The sums in a truth, and the least ones: of the program. -/
import Derived.Test.YtmgbkmobhjjkiaaT34c
import Derived.Test.YtmgbkmobhjjkiaaT34d
namespace Go.AM
open Go.Proofs
set_option maxRecDepth 100000
set_option maxHeartbeats 1000000

def overF (water keel : Int) : Int := if 0 < wr (water - keel) then wr (water - keel) else 0
/-- The arm of the sum number k. -/
def armF (h : HullM) (k : Nat) (p : PartM) : Int := if k = 0 then 1 else if k = 1 then wr (p.at_ - h.aft) else wr (h.fore - p.at_)
def sumG (t : PartM → Nat → Int) : Int → Nat → List PartM → Int
  | acc, _, [] => acc
  | acc, k, p :: r => sumG t (wr (acc + t p k)) (k + 1) r
def leastT (h : HullM) (water : Int) (j : Nat) (p : PartM) (_ : Nat) : Int :=
  wr (armF h j p * (if armF h j p < 0 then heavyF p (overF water p.keel) else lightF p (overF water p.keel)))
def leastS (h : HullM) (water : Int) (j : Nat) : Int := sumG (leastT h water j) 0 0 h.ps


theorem stand_least_spec (h : HullM) (hl : h.ps.length ≤ maxLen) (water : Int) (σ : AHeap) : Spec Try.prog F_stand_body_least [h.v, ii' water] σ fun r σ' => r = .ret (sumsV (leastS h water 0) (leastS h water 1) (leastS h water 2)) ∧ σ' = σ := by
  refine Spec.pureFn (spec_stand_body_least (by simp) (awpC_sound _ ?_)) (by simp [h.pure]) rfl σ
  simp [C_stand_body_least, HullM.v, HullM.cells]
  refine CallK.pure B_stand_body_levers (stand_levers_spec h _) ?_
  simp [leversV, HullM.v, HullM.cells]
  have hpu : pures (h.ps.map PartM.v) = true := pures_map (f := PartM.v) (fun _ => rfl) h.ps
  have w1 : IntKind.i64.wrap 1 = 1 := by decide
  have w2 : IntKind.i64.wrap 2 = 2 := by decide
  have w3 : IntKind.i64.wrap 3 = 3 := by decide
  have arm0 : ∀ x : PartM, PureF Try.prog (.func (.func 87) [] []) [x.v] (ii' (armF h 0 x)) := fun x => PureF.fn B_stand_body_levers_1 (fun σ => stand_levers_1_spec x σ)
  have arm1 : ∀ x : PartM, PureF Try.prog (.func (.func 88) [] [.pval h.v]) [x.v] (ii' (armF h 1 x)) := fun x => PureF.fn B_stand_body_levers_2 (fun σ => stand_levers_2_spec x h σ)
  have arm2 : ∀ x : PartM, PureF Try.prog (.func (.func 89) [] [.pval h.v]) [x.v] (ii' (armF h 2 x)) := fun x => PureF.fn B_stand_body_levers_3 (fun σ => stand_levers_3_spec x h σ)
  have heavy : ∀ (x : PartM) (w : Int), PureF Try.prog (.func (.func 91) [] []) [loadV' x (overF w x.keel)] (ii' (heavyF x (overF w x.keel))) := fun x w => PureF.fn B_stand_load_heavy (fun σ => stand_load_heavy_spec x _ σ)
  have light : ∀ (x : PartM) (w : Int), PureF Try.prog (.func (.func 90) [] []) [loadV' x (overF w x.keel)] (ii' (lightF x (overF w x.keel))) := fun x w => PureF.fn B_stand_load_light (fun σ => stand_load_light_spec x _ σ)
  refine AW.loop (ι := Nat) (fun j fr σ => fr = { v := [(1, ii' water), (2, .pval (.agg [.slice 7 (h.ps.map PartM.v), ii' h.aft, ii' h.fore])), (4, .ptr 0 0), (12, .agg [.func (.func 87) [] [], .func (.func 90) [] [], .func (.func 91) [] [], .func (.func 88) [] [.pval (.agg [.slice 7 (h.ps.map PartM.v), ii' h.aft, ii' h.fore])], .func (.func 90) [] [], .func (.func 91) [] [], .func (.func 89) [] [.pval (.agg [.slice 7 (h.ps.map PartM.v), ii' h.aft, ii' h.fore])], .func (.func 90) [] [], .func (.func 91) [] []]), (13, .int .i64 j)], ds := [] } ∧
      ((j = 0 ∧ ∃ tl, σ = .box [ii' 0, ii' 0, ii' 0] :: tl) ∨ (j = 1 ∧ ∃ tl, σ = .box [ii' (leastS h water 0), ii' 0, ii' 0] :: tl) ∨ (j = 2 ∧ ∃ tl, σ = .box [ii' (leastS h water 0), ii' (leastS h water 1), ii' 0] :: tl) ∨
       (j = 3 ∧ ∃ tl, σ = .box [ii' (leastS h water 0), ii' (leastS h water 1), ii' (leastS h water 2)] :: tl))) (fun j => 3 - j) 0 ⟨by simp, .inl ⟨rfl, _, rfl⟩⟩ ?_
  rintro j fr σ ⟨rfl, hcs⟩
  refine awpC_sound _ ?_
  refine hcs.elim (fun hh => ?_) (fun hcs => hcs.elim (fun hh => ?_) (fun hcs => hcs.elim (fun hh => ?_) (fun hh => ?_)))
  · obtain ⟨rfl, tl, rfl⟩ := hh
    simp
    refine AW.loop (ι := Nat) (fun i fr σ => ∃ acc tl, fr = { v := [(1, ii' water), (2, .pval (.agg [.slice 7 (h.ps.map PartM.v), ii' h.aft, ii' h.fore])), (4, .ptr 0 0), (5, .int .i64 0), (6, .pval (.agg [.func (.func 87) [] [], .func (.func 90) [] [], .func (.func 91) [] []])), (12, .agg [.func (.func 87) [] [], .func (.func 90) [] [], .func (.func 91) [] [], .func (.func 88) [] [.pval (.agg [.slice 7 (h.ps.map PartM.v), ii' h.aft, ii' h.fore])], .func (.func 90) [] [], .func (.func 91) [] [], .func (.func 89) [] [.pval (.agg [.slice 7 (h.ps.map PartM.v), ii' h.aft, ii' h.fore])], .func (.func 90) [] [], .func (.func 91) [] []]), (13, .int .i64 0), (19, .slice 7 (h.ps.map PartM.v)), (20, .int .i64 h.ps.length), (21, .int .i64 i)], ds := [] } ∧
      σ = .box [ii' (acc), ii' (0), ii' (0)] :: tl ∧ i ≤ h.ps.length ∧ leastS h water 0 = sumG (leastT h water 0) acc i (h.ps.drop i)) (fun i => h.ps.length - i) 0 ⟨0, _, by simp, rfl, by simp, by simp [leastS]⟩ ?_
    rintro i fr σ ⟨acc, tl, rfl, rfl, hi, hs⟩
    refine (Nat.lt_or_ge i h.ps.length).elim (fun hlt => ?_) (fun hge => ?_)
    · have hd : h.ps.drop i = h.ps[i] :: h.ps.drop (i + 1) := List.drop_eq_getElem_cons hlt
      obtain ⟨x, hx⟩ : ∃ x, h.ps[i] = x := ⟨_, rfl⟩
      rw [hd, hx] at hs
      simp only [sumG] at hs
      refine awpC_sound _ ?_
      simp [hlt, hx, hpu, PartM.v, PartM.cells]
      refine CallK.of (arm0 x _) ?_
      refine (Classical.em (armF h 0 x < 0)).elim (fun h1 => ?_) (fun h1 => ?_)
      · simp [h1, hlt, hx, hpu, PartM.v, PartM.cells]
        refine ⟨_, fun σ' => arm0 x σ', ?_⟩
        simp [hlt, hx, hpu, PartM.v, PartM.cells]
        refine ⟨_, fun σ' => heavy x water σ', ?_⟩
        simp [hlt, hx, hpu, PartM.v, PartM.cells]
        refine ⟨i + 1, by omega, wrap_id (by omega) (by simp only [maxLen] at hl; omega), by omega, ?_⟩
        rw [hs]
        simp [leastT, h1]
      · simp [h1, hlt, hx, hpu, PartM.v, PartM.cells]
        refine ⟨_, fun σ' => arm0 x σ', ?_⟩
        simp [hlt, hx, hpu, PartM.v, PartM.cells]
        refine ⟨_, fun σ' => light x water σ', ?_⟩
        simp [hlt, hx, hpu, PartM.v, PartM.cells]
        refine ⟨i + 1, by omega, wrap_id (by omega) (by simp only [maxLen] at hl; omega), by omega, ?_⟩
        rw [hs]
        simp [leastT, h1]
    · have : h.ps.drop i = [] := List.drop_eq_nil_of_le hge
      rw [this] at hs
      simp only [sumG] at hs
      subst hs
      have hnl : ¬ i < h.ps.length := by omega
      refine awpC_sound _ ?_
      simp [hnl]
      exact ⟨1, by omega, w1, by simp⟩
  · obtain ⟨rfl, tl, rfl⟩ := hh
    simp
    refine AW.loop (ι := Nat) (fun i fr σ => ∃ acc tl, fr = { v := [(1, ii' water), (2, .pval (.agg [.slice 7 (h.ps.map PartM.v), ii' h.aft, ii' h.fore])), (4, .ptr 0 0), (5, .int .i64 1), (6, .pval (.agg [.func (.func 88) [] [.pval (.agg [.slice 7 (h.ps.map PartM.v), ii' h.aft, ii' h.fore])], .func (.func 90) [] [], .func (.func 91) [] []])), (12, .agg [.func (.func 87) [] [], .func (.func 90) [] [], .func (.func 91) [] [], .func (.func 88) [] [.pval (.agg [.slice 7 (h.ps.map PartM.v), ii' h.aft, ii' h.fore])], .func (.func 90) [] [], .func (.func 91) [] [], .func (.func 89) [] [.pval (.agg [.slice 7 (h.ps.map PartM.v), ii' h.aft, ii' h.fore])], .func (.func 90) [] [], .func (.func 91) [] []]), (13, .int .i64 1), (19, .slice 7 (h.ps.map PartM.v)), (20, .int .i64 h.ps.length), (21, .int .i64 i)], ds := [] } ∧
      σ = .box [ii' (leastS h water 0), ii' (acc), ii' (0)] :: tl ∧ i ≤ h.ps.length ∧ leastS h water 1 = sumG (leastT h water 1) acc i (h.ps.drop i)) (fun i => h.ps.length - i) 0 ⟨0, _, by simp, rfl, by simp, by simp [leastS]⟩ ?_
    rintro i fr σ ⟨acc, tl, rfl, rfl, hi, hs⟩
    refine (Nat.lt_or_ge i h.ps.length).elim (fun hlt => ?_) (fun hge => ?_)
    · have hd : h.ps.drop i = h.ps[i] :: h.ps.drop (i + 1) := List.drop_eq_getElem_cons hlt
      obtain ⟨x, hx⟩ : ∃ x, h.ps[i] = x := ⟨_, rfl⟩
      rw [hd, hx] at hs
      simp only [sumG] at hs
      refine awpC_sound _ ?_
      simp [hlt, hx, hpu, PartM.v, PartM.cells]
      refine CallK.of (arm1 x _) ?_
      refine (Classical.em (armF h 1 x < 0)).elim (fun h1 => ?_) (fun h1 => ?_)
      · simp [h1, hlt, hx, hpu, PartM.v, PartM.cells]
        refine ⟨_, fun σ' _ => arm1 x σ', ?_⟩
        simp [hlt, hx, hpu, PartM.v, PartM.cells]
        refine ⟨_, fun σ' => heavy x water σ', ?_⟩
        simp [hlt, hx, hpu, PartM.v, PartM.cells]
        refine ⟨i + 1, by omega, wrap_id (by omega) (by simp only [maxLen] at hl; omega), by omega, ?_⟩
        rw [hs]
        simp [leastT, h1]
      · simp [h1, hlt, hx, hpu, PartM.v, PartM.cells]
        refine ⟨_, fun σ' _ => arm1 x σ', ?_⟩
        simp [hlt, hx, hpu, PartM.v, PartM.cells]
        refine ⟨_, fun σ' => light x water σ', ?_⟩
        simp [hlt, hx, hpu, PartM.v, PartM.cells]
        refine ⟨i + 1, by omega, wrap_id (by omega) (by simp only [maxLen] at hl; omega), by omega, ?_⟩
        rw [hs]
        simp [leastT, h1]
    · have : h.ps.drop i = [] := List.drop_eq_nil_of_le hge
      rw [this] at hs
      simp only [sumG] at hs
      subst hs
      have hnl : ¬ i < h.ps.length := by omega
      refine awpC_sound _ ?_
      simp [hnl]
      exact ⟨2, by omega, w2, by simp⟩
  · obtain ⟨rfl, tl, rfl⟩ := hh
    simp
    refine AW.loop (ι := Nat) (fun i fr σ => ∃ acc tl, fr = { v := [(1, ii' water), (2, .pval (.agg [.slice 7 (h.ps.map PartM.v), ii' h.aft, ii' h.fore])), (4, .ptr 0 0), (5, .int .i64 2), (6, .pval (.agg [.func (.func 89) [] [.pval (.agg [.slice 7 (h.ps.map PartM.v), ii' h.aft, ii' h.fore])], .func (.func 90) [] [], .func (.func 91) [] []])), (12, .agg [.func (.func 87) [] [], .func (.func 90) [] [], .func (.func 91) [] [], .func (.func 88) [] [.pval (.agg [.slice 7 (h.ps.map PartM.v), ii' h.aft, ii' h.fore])], .func (.func 90) [] [], .func (.func 91) [] [], .func (.func 89) [] [.pval (.agg [.slice 7 (h.ps.map PartM.v), ii' h.aft, ii' h.fore])], .func (.func 90) [] [], .func (.func 91) [] []]), (13, .int .i64 2), (19, .slice 7 (h.ps.map PartM.v)), (20, .int .i64 h.ps.length), (21, .int .i64 i)], ds := [] } ∧
      σ = .box [ii' (leastS h water 0), ii' (leastS h water 1), ii' (acc)] :: tl ∧ i ≤ h.ps.length ∧ leastS h water 2 = sumG (leastT h water 2) acc i (h.ps.drop i)) (fun i => h.ps.length - i) 0 ⟨0, _, by simp, rfl, by simp, by simp [leastS]⟩ ?_
    rintro i fr σ ⟨acc, tl, rfl, rfl, hi, hs⟩
    refine (Nat.lt_or_ge i h.ps.length).elim (fun hlt => ?_) (fun hge => ?_)
    · have hd : h.ps.drop i = h.ps[i] :: h.ps.drop (i + 1) := List.drop_eq_getElem_cons hlt
      obtain ⟨x, hx⟩ : ∃ x, h.ps[i] = x := ⟨_, rfl⟩
      rw [hd, hx] at hs
      simp only [sumG] at hs
      refine awpC_sound _ ?_
      simp [hlt, hx, hpu, PartM.v, PartM.cells]
      refine CallK.of (arm2 x _) ?_
      refine (Classical.em (armF h 2 x < 0)).elim (fun h1 => ?_) (fun h1 => ?_)
      · simp [h1, hlt, hx, hpu, PartM.v, PartM.cells]
        refine ⟨_, fun σ' _ => arm2 x σ', ?_⟩
        simp [hlt, hx, hpu, PartM.v, PartM.cells]
        refine ⟨_, fun σ' => heavy x water σ', ?_⟩
        simp [hlt, hx, hpu, PartM.v, PartM.cells]
        refine ⟨i + 1, by omega, wrap_id (by omega) (by simp only [maxLen] at hl; omega), by omega, ?_⟩
        rw [hs]
        simp [leastT, h1]
      · simp [h1, hlt, hx, hpu, PartM.v, PartM.cells]
        refine ⟨_, fun σ' _ => arm2 x σ', ?_⟩
        simp [hlt, hx, hpu, PartM.v, PartM.cells]
        refine ⟨_, fun σ' => light x water σ', ?_⟩
        simp [hlt, hx, hpu, PartM.v, PartM.cells]
        refine ⟨i + 1, by omega, wrap_id (by omega) (by simp only [maxLen] at hl; omega), by omega, ?_⟩
        rw [hs]
        simp [leastT, h1]
    · have : h.ps.drop i = [] := List.drop_eq_nil_of_le hge
      rw [this] at hs
      simp only [sumG] at hs
      subst hs
      have hnl : ¬ i < h.ps.length := by omega
      refine awpC_sound _ ?_
      simp [hnl]
      exact ⟨3, by omega, w3, by simp⟩
  · obtain ⟨rfl, tl, rfl⟩ := hh
    simp [sumsV]
end Go.AM
