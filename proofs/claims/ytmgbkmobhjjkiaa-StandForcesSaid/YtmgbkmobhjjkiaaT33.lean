/- Range, Place, Fresh of the document. -/
import Derived.Test.YtmgbkmobhjjkiaaT31
namespace Go.AM
open Go.Proofs
set_option maxRecDepth 100000

def placeF : List ByteArray → ByteArray → Nat → Int
  | [], _, _ => -1
  | a :: r, s, i => if a.toList == s.toList then i else placeF r s (i + 1)


theorem r01_Place_spec (l : List ByteArray) (s : ByteArray) (hl : l.length ≤ maxLen) (σ : AHeap) : Spec Try.prog F_r01_Place [.slice 1 (l.map .str), .str s] σ fun r σ' => r = .ret (.int .i64 (placeF l s 0)) ∧ σ' = σ := by
  refine Spec.pureFn (spec_r01_Place (by simp) (awpC_sound _ ?_)) ?_ rfl σ
  rotate_left
  · simp only [pures, AVal.pure, Bool.and_true]; exact pures_map (fun _ => rfl) l
  simp [C_r01_Place]
  refine AW.loop (ι := Nat) (fun i fr σ => fr = { v := [(0, .slice 1 (l.map .str)), (1, .str s), (5, .int .i64 i)], ds := [] } ∧ σ = [] ∧ i ≤ l.length ∧ placeF l s 0 = placeF (l.drop i) s i) (fun i => l.length - i) 0 (by simp) ?_
  rintro i fr σ ⟨rfl, rfl, hi, hp⟩
  refine awpC_sound _ ?_
  simp
  refine ⟨fun hlt => ?_, fun hge => ?_⟩
  · have hd : l.drop i = l[i] :: l.drop (i + 1) := List.drop_eq_getElem_cons hlt
    rw [hd] at hp
    simp [placeF] at hp
    simp [hlt]
    refine ⟨fun he => by rw [hp, if_pos he], fun he => ⟨i + 1, by omega, wrap_id (by omega) (by simp only [maxLen] at hl; omega), by omega, by rw [hp, if_neg he]⟩⟩
  · have : l.drop i = [] := List.drop_eq_nil_of_le hge
    rw [hp, this]; rfl

def spanErr (s : Int × Int) (lo hi : Int) : Int := if !insF s.1 lo hi || !insF s.2 lo hi then 7 else if s.1 > s.2 then 2 else 0

theorem r01_Spread_spec (a b lo hi : Int) (σ : AHeap) : Spec Try.prog F_r01_Spread [.slice 2 [.agg [.int .i64 a, .int .i64 b]], .int .i64 lo, .int .i64 hi] σ fun r σ' => r = .ret (.int .i64 (spanErr (a, b) lo hi)) ∧ σ' = σ := by
  refine Spec.pureFn (spec_r01_Spread (by simp) (awpC_sound _ ?_)) rfl rfl σ
  simp [C_r01_Spread]
  refine AW.loop (ι := Nat) (fun i fr σ => fr = { v := [(0, .slice 2 [.agg [.int .i64 a, .int .i64 b]]), (1, .int .i64 lo), (2, .int .i64 hi), (7, .bool (decide (i = 1) && decide (b < a))), (8, .int .i64 i)], ds := [] } ∧ σ = [] ∧ i ≤ 1 ∧ (i = 1 → insF a lo hi = true ∧ insF b lo hi = true)) (fun i => 1 - i) 0 (by simp) ?_
  rintro i fr σ ⟨rfl, rfl, hi', hp⟩
  rcases (by omega : i = 0 ∨ i = 1) with rfl | rfl
  · refine awpC_sound _ ?_
    simp
    refine CallK.pure B_r01_within (r01_within_spec a lo hi _) ?_
    simp
    refine ⟨?_, ?_⟩
    · intro h
      refine ⟨h, CallK.pure B_r01_within (r01_within_spec b lo hi _) ?_⟩
      simp [h]
      exact ⟨fun hb => by simp [spanErr, h, hb], fun hb => ⟨1, by omega, ⟨fun _ => rfl, wrap_id (by omega) (by omega)⟩, by omega, fun _ => hb⟩⟩
    · intro h
      simp [h, spanErr]
  · refine awpC_sound _ ?_
    simp [spanErr, hp rfl]

theorem r01_Range_spec (a b lo hi : Int) (σ : AHeap) : Spec Try.prog F_r01_Range [.agg [.int .i64 a, .int .i64 b], .int .i64 lo, .int .i64 hi] σ fun r σ' => r = .ret (.int .i64 (spanErr (a, b) lo hi)) ∧ σ' = σ := by
  refine Spec.pureFn (spec_r01_Range (by simp) (awpC_sound _ ?_)) rfl rfl σ
  simp [C_r01_Range]
  refine CallK.pure B_r01_Spread (r01_Spread_spec a b lo hi _) ?_
  simp

def freshF (s : ByteArray) (l : List ByteArray) : Int := if nameF s then (if 0 ≤ placeF l s 0 then 5 else 0) else 6
theorem r01_Fresh_spec (l : List ByteArray) (s : ByteArray) (hl : l.length ≤ maxLen) (σ : AHeap) : Spec Try.prog F_r01_Fresh [.str s, .slice 1 (l.map .str)] σ fun r σ' => r = .ret (.int .i64 (freshF s l)) ∧ σ' = σ := by
  refine Spec.pureFn (spec_r01_Fresh (by simp) (awpC_sound _ ?_)) ?_ rfl σ
  rotate_left
  · simp only [pures, AVal.pure, Bool.and_true]; exact pures_map (fun _ => rfl) l
  simp [C_r01_Fresh]
  refine CallK.pure B_r01_Name (r01_Name_spec s _) ?_
  simp
  refine ⟨fun h => by simp [freshF, h], fun h => CallK.pure B_r01_Place (r01_Place_spec l s hl _) ?_⟩
  simp [freshF, h]

end Go.AM
