/- Levers and presses: of the program; the error of a height of water: of the document. -/
import Derived.Test.YtmgbkmobhjjkiaaT32
namespace Go.AM
open Go.Proofs
set_option maxRecDepth 100000
set_option maxHeartbeats 1000000

abbrev wr (n : Int) : Int := IntKind.i64.wrap n

theorem stand_levers_1_spec (p : PartM) (σ : AHeap) : Spec Try.prog F_stand_body_levers_1 [p.v] σ fun r σ' => r = .ret (ii' 1) ∧ σ' = σ := by
  refine Spec.pureFn (spec_stand_body_levers_1 (by simp) (awpC_sound _ ?_)) rfl rfl σ
  simp [C_stand_body_levers_1, PartM.v, PartM.cells]
theorem stand_levers_2_spec (p : PartM) (h : HullM) (σ : AHeap) : Spec Try.prog F_stand_body_levers_2 [p.v, .pval h.v] σ fun r σ' => r = .ret (ii' (wr (p.at_ - h.aft))) ∧ σ' = σ := by
  refine Spec.pureFn (spec_stand_body_levers_2 (by simp) (awpC_sound _ ?_)) (by simp [h.pure]; rfl) rfl σ
  simp [C_stand_body_levers_2, PartM.v, PartM.cells, HullM.v, HullM.cells]
theorem stand_levers_3_spec (p : PartM) (h : HullM) (σ : AHeap) : Spec Try.prog F_stand_body_levers_3 [p.v, .pval h.v] σ fun r σ' => r = .ret (ii' (wr (h.fore - p.at_))) ∧ σ' = σ := by
  refine Spec.pureFn (spec_stand_body_levers_3 (by simp) (awpC_sound _ ?_)) (by simp [h.pure]; rfl) rfl σ
  simp [C_stand_body_levers_3, PartM.v, PartM.cells, HullM.v, HullM.cells]
def loadV' (p : PartM) (o : Int) : AVal := .agg (p.cells ++ [ii' o])
def lightF (p : PartM) (o : Int) : Int := wr (p.wLo - wr (p.lHi * o))
def heavyF (p : PartM) (o : Int) : Int := wr (p.wHi - wr (p.lLo * o))
theorem stand_load_light_spec (p : PartM) (o : Int) (σ : AHeap) : Spec Try.prog F_stand_load_light [loadV' p o] σ fun r σ' => r = .ret (ii' (lightF p o)) ∧ σ' = σ := by
  refine Spec.pureFn (spec_stand_load_light (by simp) (awpC_sound _ ?_)) rfl rfl σ
  simp [C_stand_load_light, loadV', PartM.cells, lightF]
theorem stand_load_heavy_spec (p : PartM) (o : Int) (σ : AHeap) : Spec Try.prog F_stand_load_heavy [loadV' p o] σ fun r σ' => r = .ret (ii' (heavyF p o)) ∧ σ' = σ := by
  refine Spec.pureFn (spec_stand_load_heavy (by simp) (awpC_sound _ ?_)) rfl rfl σ
  simp [C_stand_load_heavy, loadV', PartM.cells, heavyF]
def sumsV (a b c : Int) : AVal := .agg [ii' a, ii' b, ii' c]
theorem stand_sums_balance_spec (a b c : Int) (σ : AHeap) : Spec Try.prog F_stand_sums_balance [sumsV a b c] σ fun r σ' => r = .ret (sumsV a b c) ∧ σ' = σ := by
  refine Spec.pureFn (spec_stand_sums_balance (by simp) (awpC_sound _ ?_)) rfl rfl σ
  simp [C_stand_sums_balance, sumsV]
def wetE (e water : Int) : Int := if e = 0 ∧ beyondF 0 1000 [water] = true then 7 else e
theorem insF_beyond (n lo hi : Int) : (!insF n lo hi) = beyondF lo hi [n] := by
  rw [Bool.eq_iff_iff]; simp [insF, beyondF, outF]
theorem r05_watered_spec (e water : Int) (σ : AHeap) : Spec Try.prog F_r05_watered [ii' e, ii' water] σ fun r σ' => r = .ret (ii' (wetE e water)) ∧ σ' = σ := by
  refine Spec.pureFn (spec_r05_watered (by simp) (awpC_sound _ ?_)) rfl rfl σ
  refine (Classical.em (e = 0)).elim (fun h => ?_) (fun h => ?_)
  · simp [C_r05_watered, h]
    refine CallK.pure B_r05_in (r05_in_spec _ _ _ _) ?_
    have hb := insF_beyond water 0 1000
    refine (tf (insF water 0 1000)).elim (fun h1 => ?_) (fun h1 => ?_)
    · rw [h1] at hb
      simp [h1, wetE, ← hb]
    · rw [h1] at hb
      simp [h1, wetE, ← hb]
  · simp [C_r05_watered, h, wetE]

def leversV (h : HullM) : AVal := .agg [.func (.func 87) [] [], .func (.func 90) [] [], .func (.func 91) [] [], .func (.func 88) [] [.pval h.v], .func (.func 90) [] [], .func (.func 91) [] [], .func (.func 89) [] [.pval h.v], .func (.func 90) [] [], .func (.func 91) [] []]
theorem stand_levers_spec (h : HullM) (σ : AHeap) : Spec Try.prog F_stand_body_levers [h.v] σ fun r σ' => r = .ret (leversV h) ∧ σ' = σ := by
  refine Spec.pureFn (spec_stand_body_levers (by simp) (awpC_sound _ ?_)) (by simp [h.pure]) (by simp [leversV, AVal.pure, pures, h.pure]) σ
  simp [C_stand_body_levers, HullM.v, HullM.cells]
  have w1 : IntKind.i64.wrap 1 = 1 := by decide
  have w2 : IntKind.i64.wrap 2 = 2 := by decide
  have w3 : IntKind.i64.wrap 3 = 3 := by decide
  refine AW.loop (ι := Nat) (fun i fr σ => ∃ cs, fr = { v := [(2, .ptr 0 0), (4, .ptr 2 0), (10, .agg [.func (.func 87) [] [], .func (.func 88) [] [.pval h.v], .func (.func 89) [] [.pval h.v]]), (11, .int .i64 i)], ds := [] } ∧ σ = [.box [.nilfunc, .nilfunc, .nilfunc, .nilfunc, .nilfunc, .nilfunc, .nilfunc, .nilfunc, .nilfunc], .dead, .box cs] ∧
      ((i = 0 ∧ cs = [.nilfunc, .nilfunc, .nilfunc, .nilfunc, .nilfunc, .nilfunc, .nilfunc, .nilfunc, .nilfunc]) ∨
      (i = 1 ∧ cs = [.func (.func 87) [] [], .func (.func 90) [] [], .func (.func 91) [] [], .nilfunc, .nilfunc, .nilfunc, .nilfunc, .nilfunc, .nilfunc]) ∨
      (i = 2 ∧ cs = [.func (.func 87) [] [], .func (.func 90) [] [], .func (.func 91) [] [], .func (.func 88) [] [.pval h.v], .func (.func 90) [] [], .func (.func 91) [] [], .nilfunc, .nilfunc, .nilfunc]) ∨
      (i = 3 ∧ cs = [.func (.func 87) [] [], .func (.func 90) [] [], .func (.func 91) [] [], .func (.func 88) [] [.pval h.v], .func (.func 90) [] [], .func (.func 91) [] [], .func (.func 89) [] [.pval h.v], .func (.func 90) [] [], .func (.func 91) [] []]))) (fun i => 3 - i) 0 ⟨_, by simp [HullM.v, HullM.cells], rfl, .inl ⟨rfl, rfl⟩⟩ ?_
  rintro i fr σ ⟨cs, rfl, rfl, hcs⟩
  refine awpC_sound _ ?_
  refine hcs.elim (fun hh => ?_) (fun hcs => hcs.elim (fun hh => ?_) (fun hcs => hcs.elim (fun hh => ?_) (fun hh => ?_)))
  · obtain ⟨rfl, rfl⟩ := hh
    simp [w1, w2, w3]
  · obtain ⟨rfl, rfl⟩ := hh
    simp [w1, w2, w3]
  · obtain ⟨rfl, rfl⟩ := hh
    simp [w1, w2, w3]
  · obtain ⟨rfl, rfl⟩ := hh
    simp [w1, w2, w3, leversV]
end Go.AM
