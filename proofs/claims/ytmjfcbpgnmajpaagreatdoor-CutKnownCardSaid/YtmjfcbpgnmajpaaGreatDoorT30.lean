/- Small functions of chapter 05: beyond, Name, Range and their like. -/
import Derived.Test.YtmjfcbpgnmajpaaGreatDoorG05
import Derived.Test.YtmjfcbpgnmajpaaGreatDoorA13
namespace Go.AM
open Go.Proofs
set_option maxRecDepth 100000

abbrev ii' (n : Int) : AVal := .int .i64 n

theorem wrap_id {n : Int} (h : -9223372036854775808 ≤ n) (h2 : n ≤ 9223372036854775807) : IntKind.i64.wrap n = n := by rw [IntKind.wrap_i64]; omega

theorem pures_map {α : Type} {f : α → AVal} (h : ∀ a, (f a).pure = true) : ∀ l : List α, pures (l.map f) = true
  | [] => rfl
  | a :: l => by simp only [List.map_cons, pures, h a, pures_map h l, Bool.and_self]

theorem CallK.of {P : Program} {fv : AVal} {args : List AVal} {σ : AHeap} {v : AVal} {K Kp : AVal → AHeap → Prop} (hs : CallV P fv args σ fun r σ' => r = .ret v ∧ σ' = σ) (hq : K v σ) : @CallK P fv args σ ⟨K⟩ ⟨Kp⟩ :=
  hs.mono (by rintro r σ' ⟨rfl, rfl⟩; exact hq)

theorem CallK.pureE {P : Program} {f : FuncId} (hb : hasBody P f = true) {args : List AVal} {σ : AHeap} {v v' : AVal} {K Kp : AVal → AHeap → Prop} (hs : Spec P f args σ fun r σ' => r = .ret v ∧ σ' = σ) (e : v = v') (hq : K v' σ) :
    @CallK P (.func (.func f) [] []) args σ ⟨K⟩ ⟨Kp⟩ := by subst e; exact CallK.pure hb hs hq
theorem tf (b : Bool) : b = false ∨ b = true := by cases b <;> simp

@[simp] theorem get_app0 {α : Type} (σ l : List α) : (σ ++ l)[σ.length]? = l[0]? := by simp [List.getElem?_append_right]
@[simp] theorem get_appn {α : Type} (σ l : List α) (n : Nat) : (σ ++ l)[σ.length + n]? = l[n]? := by rw [List.getElem?_append_right (by omega)]; congr 1; omega
@[simp] theorem set_app0 {α : Type} (σ l : List α) (x : α) : (σ ++ l).set σ.length x = σ ++ l.set 0 x := by rw [List.set_append_right _ _ (by omega)]; simp
@[simp] theorem set_appn {α : Type} (σ l : List α) (x : α) (n : Nat) : (σ ++ l).set (σ.length + n) x = σ ++ l.set n x := by rw [List.set_append_right _ _ (by omega)]; congr 2; omega

/-- A function value that touches nothing. -/
def PureF (P : Program) (fv : AVal) (args : List AVal) (v : AVal) : Prop := ∀ σ, CallV P fv args σ fun r σ' => r = .ret v ∧ σ' = σ

theorem PureF.fn {P : Program} {f : FuncId} (hb : hasBody P f = true) {first caps args : List AVal} {v : AVal} (hs : ∀ σ, Spec P f (first ++ args ++ caps) σ fun r σ' => r = .ret v ∧ σ' = σ) : PureF P (.func (.func f) first caps) args v :=
  fun σ => CallV.func hb (hs σ)

/-! ### beyond -/
def outF (lo hi n : Int) : Bool := decide (n < lo) || decide (hi < n)
def beyondF (lo hi : Int) (l : List Int) : Bool := l.any (outF lo hi)
def idxF {α : Type} (p : α → Bool) : List α → Nat → Int
  | [], _ => -1
  | a :: r, i => if p a then i else idxF p r (i + 1)
theorem idxF_nn {α : Type} (p : α → Bool) : ∀ (l : List α) (i : Nat), 0 ≤ idxF p l i ↔ l.any p = true
  | [], i => by simp [idxF]
  | a :: r, i => by
    have ih := idxF_nn p r (i + 1)
    have e : idxF p (a :: r) i = if p a then (i : Int) else idxF p r (i + 1) := rfl
    rw [e, List.any_cons]
    by_cases h : p a = true
    · rw [if_pos h, h]; simp
    · rw [if_neg h]
      have h' : p a = false := by simpa using h
      rw [h', ih]; simp
theorem idxF_any {α : Type} (p : α → Bool) (l : List α) (i : Nat) : decide (0 ≤ idxF p l i) = l.any p := by
  rw [Bool.eq_iff_iff, decide_eq_true_iff]; exact idxF_nn p l i

theorem stand_beyond_1_spec (n lo hi : Int) (σ : AHeap) : Spec Tryz.prog F_stand_beyond_1 [ii' n, .pval (ii' lo), .pval (ii' hi)] σ fun r σ' => r = .ret (.bool (outF lo hi n)) ∧ σ' = σ := by
  refine Spec.pureFn (spec_stand_beyond_1 (by simp) (awpC_sound _ ?_)) rfl rfl σ
  simp [C_stand_beyond_1, outF]

theorem slices_IndexFunc_int_spec (g : FuncId) (caps : List AVal) (hp : pures caps = true) (p : Int → Bool) (l : List Int) (hl : l.length ≤ maxLen) (hf : ∀ x ∈ l, PureF Tryz.prog (.func (.func g) [] caps) [ii' x] (.bool (p x))) (σ : AHeap) :
    Spec Tryz.prog F_slices_IndexFunc_int_int [.slice 1 (l.map ii'), .func (.func g) [] caps] σ fun r σ' => r = .ret (.int .i64 (idxF p l 0)) ∧ σ' = σ := by
  refine Spec.pureFn (spec_slices_IndexFunc_int_int (by simp) (awpC_sound _ ?_)) (by simp [hp, pures_map (f := ii') (fun _ => rfl) l]) rfl σ
  simp [C_slices_IndexFunc_int_int]
  refine AW.loop (ι := Nat) (fun i fr σ => fr = { v := [(0, .slice 1 (l.map ii')), (1, .func (.func g) [] caps), (7, .int .i64 l.length), (8, .int .i64 i)], ds := [] } ∧ i ≤ l.length ∧ idxF p l 0 = idxF p (l.drop i) i) (fun i => l.length - i) 0 (by simp) ?_
  rintro i fr σ ⟨rfl, hi, hpi⟩
  refine awpC_sound _ ?_
  simp
  refine ⟨fun hlt => ?_, fun hge => ?_⟩
  · have hd : l.drop i = l[i] :: l.drop (i + 1) := List.drop_eq_getElem_cons hlt
    rw [hd] at hpi
    simp [idxF] at hpi
    simp [hlt]
    refine CallK.of (hf l[i] (List.getElem_mem _) σ) ?_
    simp
    refine ⟨fun he => by rw [hpi, if_pos he], fun he => ⟨i + 1, by omega, wrap_id (by omega) (by simp only [maxLen] at hl; omega), by omega, by rw [hpi, if_neg (by simp [he])]⟩⟩
  · have : l.drop i = [] := List.drop_eq_nil_of_le hge
    rw [hpi, this]; rfl

theorem slices_ContainsFunc_int_spec (g : FuncId) (caps : List AVal) (hp : pures caps = true) (p : Int → Bool) (l : List Int) (hl : l.length ≤ maxLen) (hf : ∀ x ∈ l, PureF Tryz.prog (.func (.func g) [] caps) [ii' x] (.bool (p x))) (σ : AHeap) :
    Spec Tryz.prog F_slices_ContainsFunc_int_int [.slice 1 (l.map ii'), .func (.func g) [] caps] σ fun r σ' => r = .ret (.bool (l.any p)) ∧ σ' = σ := by
  refine Spec.pureFn (spec_slices_ContainsFunc_int_int (by simp) (awpC_sound _ ?_)) (by simp [hp, pures_map (f := ii') (fun _ => rfl) l]) rfl σ
  simp [C_slices_ContainsFunc_int_int]
  refine CallK.pure B_slices_IndexFunc_int_int (slices_IndexFunc_int_spec g caps hp p l hl hf _) ?_
  simp [idxF_any]

theorem stand_beyond_spec (lo hi : Int) (l : List Int) (hl : l.length ≤ maxLen) (σ : AHeap) :
    Spec Tryz.prog F_stand_beyond [ii' lo, ii' hi, .slice 1 (l.map ii')] σ fun r σ' => r = .ret (.bool (beyondF lo hi l)) ∧ σ' = σ := by
  refine Spec.pureFn (spec_stand_beyond (by simp) (awpC_sound _ ?_)) (by simp [pures_map (f := ii') (fun _ => rfl) l]) rfl σ
  simp [C_stand_beyond]
  refine CallK.pure B_slices_ContainsFunc_int_int (slices_ContainsFunc_int_spec _ _ rfl (outF lo hi) l hl (fun x _ => PureF.fn B_stand_beyond_1 (fun σ => stand_beyond_1_spec x lo hi σ)) _) ?_
  simp [beyondF]
end Go.AM
