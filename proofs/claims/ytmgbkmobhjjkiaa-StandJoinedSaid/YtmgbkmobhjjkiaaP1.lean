/- Small functions of chapter 05: beyond, Name, Range and their like. What a name is: of the program and of the document. The check of a hull: of the program and of the document. Range, Place, Fresh of the document. -/
import Derived.Test.YtmgbkmobhjjkiaaG05
import Derived.Test.YtmgbkmobhjjkiaaA13
import Derived.Laws.RangeAny
namespace Go.AM
open Go.Proofs
set_option maxRecDepth 100000

abbrev ii' (n : Int) : AVal := .int .i64 n

theorem wrap_id {n : Int} (h : -9223372036854775808 ≤ n) (h2 : n ≤ 9223372036854775807) : IntKind.i64.wrap n = n := by rw [IntKind.wrap_i64]; omega

theorem pures_map {α : Type} {f : α → AVal} (h : ∀ a, (f a).pure = true) : ∀ l : List α, pures (l.map f) = true
  | [] => rfl
  | a :: l => by simp only [List.map_cons, pures, h a, pures_map h l, Bool.and_self]

theorem CallK.of {P : Program} {fv : AVal} {args : List AVal} {σ : AHeap} {v : AVal} {K Kp : AVal → AHeap → Prop} (hs : CallV P fv args σ fun r σ' => r = .ret v ∧ σ' = σ) (hq : K v σ) : @CallK P fv args σ ⟨K⟩ ⟨Kp⟩ :=
  hs.mono (by rintro r σ' ⟨rfl, rfl⟩; exact hq)

theorem CallK.pureE {P : Program} {f : FuncId} (hb : hasBody P f = true) {args : List AVal} {σ : AHeap} {v v' : AVal} {K Kp : AVal → AHeap → Prop} (hs : Spec P f args σ fun r σ' => r = .ret v ∧ σ' = σ) (e : v = v') (hq : K v' σ) :
    @CallK P (.func (.func f) [] []) args σ ⟨K⟩ ⟨Kp⟩ := by subst e; exact CallK.pure hb hs hq
theorem tf (b : Bool) : b = false ∨ b = true := by cases b <;> simp

@[simp] theorem get_app0 {α : Type} (σ l : List α) : (σ ++ l)[σ.length]? = l[0]? := by simp [List.getElem?_append_right]
@[simp] theorem get_appn {α : Type} (σ l : List α) (n : Nat) : (σ ++ l)[σ.length + n]? = l[n]? := by rw [List.getElem?_append_right (by omega)]; congr 1; omega
@[simp] theorem set_app0 {α : Type} (σ l : List α) (x : α) : (σ ++ l).set σ.length x = σ ++ l.set 0 x := by rw [List.set_append_right _ _ (by omega)]; simp
@[simp] theorem set_appn {α : Type} (σ l : List α) (x : α) (n : Nat) : (σ ++ l).set (σ.length + n) x = σ ++ l.set n x := by rw [List.set_append_right _ _ (by omega)]; congr 2; omega

/-- A function value that touches nothing. -/
def PureF (P : Program) (fv : AVal) (args : List AVal) (v : AVal) : Prop := ∀ σ, CallV P fv args σ fun r σ' => r = .ret v ∧ σ' = σ

theorem PureF.fn {P : Program} {f : FuncId} (hb : hasBody P f = true) {first caps args : List AVal} {v : AVal} (hs : ∀ σ, Spec P f (first ++ args ++ caps) σ fun r σ' => r = .ret v ∧ σ' = σ) : PureF P (.func (.func f) first caps) args v :=
  fun σ => CallV.func hb (hs σ)

/-! ### beyond -/
def outF (lo hi n : Int) : Bool := decide (n < lo) || decide (hi < n)
def beyondF (lo hi : Int) (l : List Int) : Bool := l.any (outF lo hi)
def idxF {α : Type} (p : α → Bool) : List α → Nat → Int
  | [], _ => -1
  | a :: r, i => if p a then i else idxF p r (i + 1)
theorem idxF_nn {α : Type} (p : α → Bool) : ∀ (l : List α) (i : Nat), 0 ≤ idxF p l i ↔ l.any p = true
  | [], i => by simp [idxF]
  | a :: r, i => by
    have ih := idxF_nn p r (i + 1)
    have e : idxF p (a :: r) i = if p a then (i : Int) else idxF p r (i + 1) := rfl
    rw [e, List.any_cons]
    by_cases h : p a = true
    · rw [if_pos h, h]; simp
    · rw [if_neg h]
      have h' : p a = false := by simpa using h
      rw [h', ih]; simp
theorem idxF_any {α : Type} (p : α → Bool) (l : List α) (i : Nat) : decide (0 ≤ idxF p l i) = l.any p := by
  rw [Bool.eq_iff_iff, decide_eq_true_iff]; exact idxF_nn p l i

theorem stand_beyond_1_spec (n lo hi : Int) (σ : AHeap) : Spec Try.prog F_stand_beyond_1 [ii' n, .pval (ii' lo), .pval (ii' hi)] σ fun r σ' => r = .ret (.bool (outF lo hi n)) ∧ σ' = σ := by
  refine Spec.pureFn (spec_stand_beyond_1 (by simp) (awpC_sound _ ?_)) rfl rfl σ
  simp [C_stand_beyond_1, outF]

theorem slices_IndexFunc_int_spec (g : FuncId) (caps : List AVal) (hp : pures caps = true) (p : Int → Bool) (l : List Int) (hl : l.length ≤ maxLen) (hf : ∀ x ∈ l, PureF Try.prog (.func (.func g) [] caps) [ii' x] (.bool (p x))) (σ : AHeap) :
    Spec Try.prog F_slices_IndexFunc_int_int [.slice 1 (l.map ii'), .func (.func g) [] caps] σ fun r σ' => r = .ret (.int .i64 (idxF p l 0)) ∧ σ' = σ := by
  refine Spec.pureFn (spec_slices_IndexFunc_int_int (by simp) (awpC_sound _ ?_)) (by simp [hp, pures_map (f := ii') (fun _ => rfl) l]) rfl σ
  simp [C_slices_IndexFunc_int_int]
  refine AW.loop (ι := Nat) (fun i fr σ => fr = { v := [(0, .slice 1 (l.map ii')), (1, .func (.func g) [] caps), (7, .int .i64 l.length), (8, .int .i64 i)], ds := [] } ∧ i ≤ l.length ∧ idxF p l 0 = idxF p (l.drop i) i) (fun i => l.length - i) 0 (by simp) ?_
  rintro i fr σ ⟨rfl, hi, hpi⟩
  refine awpC_sound _ ?_
  simp
  refine ⟨fun hlt => ?_, fun hge => ?_⟩
  · have hd : l.drop i = l[i] :: l.drop (i + 1) := List.drop_eq_getElem_cons hlt
    rw [hd] at hpi
    simp [idxF] at hpi
    simp [hlt]
    refine CallK.of (hf l[i] (List.getElem_mem _) σ) ?_
    simp
    refine ⟨fun he => by rw [hpi, if_pos he], fun he => ⟨i + 1, by omega, wrap_id (by omega) (by simp only [maxLen] at hl; omega), by omega, by rw [hpi, if_neg (by simp [he])]⟩⟩
  · have : l.drop i = [] := List.drop_eq_nil_of_le hge
    rw [hpi, this]; rfl

theorem slices_ContainsFunc_int_spec (g : FuncId) (caps : List AVal) (hp : pures caps = true) (p : Int → Bool) (l : List Int) (hl : l.length ≤ maxLen) (hf : ∀ x ∈ l, PureF Try.prog (.func (.func g) [] caps) [ii' x] (.bool (p x))) (σ : AHeap) :
    Spec Try.prog F_slices_ContainsFunc_int_int [.slice 1 (l.map ii'), .func (.func g) [] caps] σ fun r σ' => r = .ret (.bool (l.any p)) ∧ σ' = σ := by
  refine Spec.pureFn (spec_slices_ContainsFunc_int_int (by simp) (awpC_sound _ ?_)) (by simp [hp, pures_map (f := ii') (fun _ => rfl) l]) rfl σ
  simp [C_slices_ContainsFunc_int_int]
  refine CallK.pure B_slices_IndexFunc_int_int (slices_IndexFunc_int_spec g caps hp p l hl hf _) ?_
  simp [idxF_any]

theorem stand_beyond_spec (lo hi : Int) (l : List Int) (hl : l.length ≤ maxLen) (σ : AHeap) :
    Spec Try.prog F_stand_beyond [ii' lo, ii' hi, .slice 1 (l.map ii')] σ fun r σ' => r = .ret (.bool (beyondF lo hi l)) ∧ σ' = σ := by
  refine Spec.pureFn (spec_stand_beyond (by simp) (awpC_sound _ ?_)) (by simp [pures_map (f := ii') (fun _ => rfl) l]) rfl σ
  simp [C_stand_beyond]
  refine CallK.pure B_slices_ContainsFunc_int_int (slices_ContainsFunc_int_spec _ _ rfl (outF lo hi) l hl (fun x _ => PureF.fn B_stand_beyond_1 (fun σ => stand_beyond_1_spec x lo hi σ)) _) ?_
  simp [beyondF]
end Go.AM

namespace Go.AM
open Go.Proofs
set_option maxRecDepth 100000

def insF (n lo hi : Int) : Bool := decide (lo ≤ n) && decide (n ≤ hi)
theorem r01_within_spec (n lo hi : Int) (σ : AHeap) : Spec Try.prog F_r01_within [.int .i64 n, .int .i64 lo, .int .i64 hi] σ fun r σ' => r = .ret (.bool (insF n lo hi)) ∧ σ' = σ := by
  refine Spec.pureFn (spec_r01_within (by simp) (awpC_sound _ ?_)) rfl rfl σ
  simp [C_r01_within, insF]
theorem r05_in_spec (n lo hi : Int) (σ : AHeap) : Spec Try.prog F_r05_in [.int .i64 n, .int .i64 lo, .int .i64 hi] σ fun r σ' => r = .ret (.bool (insF n lo hi)) ∧ σ' = σ := by
  refine Spec.pureFn (spec_r05_in (by simp) (awpC_sound _ ?_)) rfl rfl σ
  simp [C_r05_in, insF]

def byteF (s : ByteArray) (i : Nat) : Nat := (s.data[i]?.getD 0).toNat
def letterF (b : Nat) : Bool := decide (97 ≤ b) && decide (b ≤ 122)
def digitF (b : Nat) : Bool := decide (48 ≤ b) && decide (b ≤ 57)
def okAt (s : ByteArray) (i : Nat) : Bool := letterF (byteF s i) || (digitF (byteF s i) && i != 0)
def okAll (s : ByteArray) : Nat → Nat → Bool
  | _, 0 => true
  | i, n + 1 => okAt s i && okAll s (i + 1) n
def nameF (s : ByteArray) : Bool := decide (1 ≤ s.size) && decide (s.size ≤ 16) && okAll s 0 s.size

theorem byteF_get (s : ByteArray) (i : Nat) (h : i < s.size) : byteF s i = (s[i]'h).toNat := by
  have h' : i < s.data.size := h
  have e : s.data[i]?.getD 0 = s.data[i]'h' := by rw [Array.getElem?_eq_getElem h']; rfl
  unfold byteF
  rw [e]
  rfl

theorem nameF_bad {s : ByteArray} {i : Nat} (hlt : i < s.size) (hp : okAll s 0 s.size = okAll s i (s.size - i)) (h : okAt s i = false) : nameF s = false := by
  unfold nameF
  rw [hp, show s.size - i = (s.size - (i + 1)) + 1 by omega, okAll, h]
  simp

theorem get_data (b : ByteArray) (i : Nat) (h : i < b.data.toList.length) : b.get! i = b.data.toList[i] := by
  obtain ⟨a⟩ := b
  have h' : i < a.size := by simpa using h
  show a[i]! = _
  rw [getElem!_pos a i h']; simp
theorem bl (b : ByteArray) : ∀ (n i : Nat) (r : List UInt8), b.size - i = n → ByteArray.toList.loop b i r = r.reverse ++ (b.data.toList.drop i)
  | 0, i, r, h => by
    unfold ByteArray.toList.loop
    have : b.size ≤ i := by omega
    rw [if_neg (by omega)]
    have : b.data.toList.length ≤ i := by simpa using this
    rw [List.drop_eq_nil_of_le this]; simp
  | n + 1, i, r, h => by
    unfold ByteArray.toList.loop
    have hlt : i < b.size := by omega
    rw [if_pos hlt, bl b n (i + 1) _ (by omega)]
    have h' : i < b.data.toList.length := by simpa using hlt
    rw [List.drop_eq_getElem_cons h', get_data b i h']
    simp
theorem toList_data (b : ByteArray) : b.toList = b.data.toList := by
  unfold ByteArray.toList; rw [bl b _ 0 [] rfl]; simp
theorem toList_nil (s : ByteArray) : s.toList = [] ↔ s.size = 0 := by
  rw [toList_data]
  constructor
  · intro h
    have : s.data.toList.length = 0 := by rw [h]; rfl
    simpa using this
  · intro h
    have : s.data.toList.length = 0 := by simpa using h
    exact List.eq_nil_of_length_eq_zero this

theorem okAll_step (s : ByteArray) {i : Nat} (h : i < s.size) : okAll s i (s.size - i) = (okAt s i && okAll s (i + 1) (s.size - (i + 1))) := by
  rw [show s.size - i = (s.size - (i + 1)) + 1 by omega]; rfl

theorem hull_Name_spec (s : ByteArray) (σ : AHeap) : Spec Try.prog F_hull_Name [.str s] σ fun r σ' => r = .ret (.bool (nameF s)) ∧ σ' = σ := by
  refine Spec.pureFn (spec_hull_Name (by simp) (awpC_sound _ ?_)) rfl rfl σ
  simp [C_hull_Name]
  refine AW.loop (ι := Nat) (fun i fr σ => fr = { v := [(0, .str s), (8, .iter 0)], ds := [] } ∧ σ = [.siter s i] ∧ i ≤ s.size ∧ okAll s 0 s.size = okAll s i (s.size - i)) (fun i => s.size - i) 0 (by simp) ?_
  rintro i fr σ ⟨rfl, rfl, hi, hp⟩
  refine awpC_sound _ ?_
  simp
  split
  · rename_i hlt
    have hb := byteF_get s i hlt
    have hst := okAll_step s hlt
    have hd : ((Utf8.decode s i).1 = byteF s i ∧ (Utf8.decode s i).2 = 1 ∧ byteF s i < 128) ∨ (128 ≤ (Utf8.decode s i).1 ∧ 128 ≤ byteF s i) := by
      by_cases ha : (s[i]'hlt).toNat < 128
      · left; rw [Go.decode_ascii s i hlt ha, hb]; exact ⟨rfl, rfl, ha⟩
      · right; rw [hb]; exact ⟨(Go.decode_high s i hlt (by omega)).1, by omega⟩
    generalize Utf8.decode s i = d at hd ⊢
    obtain ⟨r, w⟩ := d
    simp only at hd ⊢
    refine ⟨fun h => ⟨h, fun h1 h2 => ⟨h, h1, h2⟩⟩, fun h1 h2 => nameF_bad hlt hp ?_, fun h => ?_⟩
    · simp [okAt, letterF, digitF]
      omega
    · have hok : okAt s i = true := by
        simp [okAt, letterF, digitF]
        omega
      have hw : w = 1 := by
        rcases hd with hd | hd
        · exact hd.2.1
        · exfalso
          have : okAt s i = false := by simp [okAt, letterF, digitF]; omega
          rw [hok] at this; cases this
      subst hw
      exact ⟨i + 1, by omega, rfl, by omega, by rw [hp, hst, hok]; rfl⟩
  · rename_i hge
    have : i = s.size := by omega
    subst this
    rw [Nat.sub_self] at hp
    unfold nameF
    rw [hp]
    rw [Bool.eq_iff_iff]
    simp [okAll]
    refine ⟨fun ⟨h1, h2⟩ => ⟨?_, by omega⟩, fun h => ⟨fun e => ?_, by omega⟩⟩
    · have h1' : ¬ s.size = 0 := fun e => h1 ((toList_nil s).2 e)
      omega
    · have := (toList_nil s).1 e
      omega

theorem r01_Name_spec (s : ByteArray) (σ : AHeap) : Spec Try.prog F_r01_Name [.str s] σ fun r σ' => r = .ret (.bool (nameF s)) ∧ σ' = σ := by
  refine Spec.pureFn (spec_r01_Name (by simp) (awpC_sound _ ?_)) rfl rfl σ
  simp [C_r01_Name]
  refine CallK.pure B_r01_within (r01_within_spec s.size 1 16 _) ?_
  simp
  have hb : ∀ i : Nat, ((s.data[i]?.getD 0).toNat : Int) = (byteF s i : Int) := fun _ => rfl
  simp only [hb]
  have hin : insF (s.size : Int) 1 16 = true ↔ 1 ≤ s.size ∧ s.size ≤ 16 := by simp [insF]; omega
  have hin' : insF (s.size : Int) 1 16 = false ↔ ¬ (1 ≤ s.size ∧ s.size ≤ 16) := by rw [← hin]; simp
  simp only [hin, hin']
  refine ⟨fun h => ⟨h, by omega⟩, fun h h2 => ⟨⟨h, h2⟩, by omega⟩, fun h => ?_, fun h1 h2 h3 => ?_⟩
  · by_cases hz : 1 ≤ s.size ∧ s.size ≤ 16
    · refine nameF_bad (i := 0) (by omega) rfl ?_
      simp [okAt, letterF]
      omega
    · unfold nameF
      rw [Bool.eq_false_iff]
      simp
      intros
      omega
  refine AW.loop (ι := Nat) (fun i fr σ => fr = { v := [(0, .str s), (3, .int .i64 i)], ds := [] } ∧ σ = [] ∧ 1 ≤ i ∧ i ≤ s.size ∧ okAll s 0 s.size = okAll s i (s.size - i)) (fun i => s.size - i) 1 ⟨by simp, rfl, by omega, by omega, ?_⟩ ?_
  · have := okAll_step s (i := 0) (by omega)
    rw [Nat.sub_zero] at this
    rw [this]
    have : okAt s 0 = true := by simp [okAt, letterF]; omega
    rw [this]; rfl
  rintro i fr σ ⟨rfl, rfl, h1i, hi, hp⟩
  refine awpC_sound _ ?_
  simp
  simp only [hb]
  refine ⟨fun hlt => ⟨hlt, fun h => ⟨h, hlt⟩, hlt, fun h => ⟨h, hlt⟩, fun h h' => nameF_bad hlt hp ?_, fun h => ?_⟩, fun hge => ?_⟩
  · simp [okAt, letterF, digitF]
    omega
  · have hok : okAt s i = true := by
      simp [okAt, letterF, digitF]
      omega
    exact ⟨i + 1, by omega, wrap_id (by omega) (by omega), by omega, by omega, by rw [hp, okAll_step s hlt, hok]; rfl⟩
  · have : i = s.size := by omega
    subst this
    rw [Nat.sub_self] at hp
    unfold nameF
    rw [hp]
    simp [okAll]
    omega
end Go.AM

namespace Go.AM
open Go.Proofs
set_option maxRecDepth 100000
set_option maxHeartbeats 4000000

structure PartM where
  name : ByteArray
  at_ : Int
  wLo : Int
  wHi : Int
  keel : Int
  lLo : Int
  lHi : Int

def PartM.cells (p : PartM) : List AVal := [.str p.name, ii' p.at_, ii' p.wLo, ii' p.wHi, ii' p.keel, ii' p.lLo, ii' p.lHi]
def PartM.v (p : PartM) : AVal := .agg p.cells
structure HullM where
  ps : List PartM
  aft : Int
  fore : Int
def HullM.cells (h : HullM) : List AVal := [.slice 7 (h.ps.map PartM.v), ii' h.aft, ii' h.fore]
def HullM.v (h : HullM) : AVal := .agg h.cells

theorem HullM.pure (h : HullM) : h.v.pure = true := by simp [HullM.v, HullM.cells, AVal.pure, pures, pures_map (f := PartM.v) (fun _ => rfl) h.ps]

/-- The error of a part but its name. -/
def partE (p : PartM) : Int :=
  if beyondF 0 5000 [p.at_] || beyondF 0 1000 [p.keel] || beyondF 0 1000000 [p.wLo, p.wHi] || beyondF 0 5000 [p.lLo, p.lHi] then 7
  else if decide (p.wHi < p.wLo) || decide (p.lHi < p.lLo) then 2 else 0

theorem stand_check_spec (p : PartM) (σ : AHeap) : Spec Try.prog F_stand_check [p.v] σ fun r σ' => r = .ret (ii' (partE p)) ∧ σ' = σ := by
  refine Spec.pureFn (spec_stand_check (by simp) (awpC_sound _ ?_)) rfl rfl σ
  simp [C_stand_check, PartM.v, PartM.cells]
  refine (tf (beyondF 0 5000 [p.at_])).elim (fun h1 => ?_) (fun h1 => ?_)
  · refine CallK.pureE B_stand_beyond (stand_beyond_spec 0 5000 [p.at_] (by simp [maxLen]) _) (congrArg AVal.bool h1) ?_
    simp
    refine (tf (beyondF 0 1000 [p.keel])).elim (fun h2 => ?_) (fun h2 => ?_)
    · refine CallK.pureE B_stand_beyond (stand_beyond_spec 0 1000 [p.keel] (by simp [maxLen]) _) (congrArg AVal.bool h2) ?_
      simp
      refine (tf (beyondF 0 1000000 [p.wLo, p.wHi])).elim (fun h3 => ?_) (fun h3 => ?_)
      · refine CallK.pureE B_stand_beyond (stand_beyond_spec 0 1000000 [p.wLo, p.wHi] (by simp [maxLen]) _) (congrArg AVal.bool h3) ?_
        simp
        refine (tf (beyondF 0 5000 [p.lLo, p.lHi])).elim (fun h4 => ?_) (fun h4 => ?_)
        · refine CallK.pureE B_stand_beyond (stand_beyond_spec 0 5000 [p.lLo, p.lHi] (by simp [maxLen]) _) (congrArg AVal.bool h4) ?_
          refine (Classical.em (p.wHi < p.wLo)).elim (fun h5 => ?_) (fun h5 => ?_)
          · simp [h5]
            simp [partE, h1, h2, h3, h4, h5]
          · refine (Classical.em (p.lHi < p.lLo)).elim (fun h6 => ?_) (fun h6 => ?_)
            · simp [h5, h6]
              simp [partE, h1, h2, h3, h4, h5, h6]
            · simp [h5, h6]
              simp [partE, h1, h2, h3, h4, h5, h6]
        · refine CallK.pureE B_stand_beyond (stand_beyond_spec 0 5000 [p.lLo, p.lHi] (by simp [maxLen]) _) (congrArg AVal.bool h4) ?_
          simp
          simp [partE, h1, h2, h3, h4]
      · refine CallK.pureE B_stand_beyond (stand_beyond_spec 0 1000000 [p.wLo, p.wHi] (by simp [maxLen]) _) (congrArg AVal.bool h3) ?_
        simp
        simp [partE, h1, h2, h3]
    · refine CallK.pureE B_stand_beyond (stand_beyond_spec 0 1000 [p.keel] (by simp [maxLen]) _) (congrArg AVal.bool h2) ?_
      simp
      simp [partE, h1, h2]
  · refine CallK.pureE B_stand_beyond (stand_beyond_spec 0 5000 [p.at_] (by simp [maxLen]) _) (congrArg AVal.bool h1) ?_
    simp
    simp [partE, h1]
end Go.AM

namespace Go.AM
open Go.Proofs
set_option maxRecDepth 100000

def placeF : List ByteArray → ByteArray → Nat → Int
  | [], _, _ => -1
  | a :: r, s, i => if a.toList == s.toList then i else placeF r s (i + 1)


theorem r01_Place_spec (l : List ByteArray) (s : ByteArray) (hl : l.length ≤ maxLen) (σ : AHeap) : Spec Try.prog F_r01_Place [.slice 1 (l.map .str), .str s] σ fun r σ' => r = .ret (.int .i64 (placeF l s 0)) ∧ σ' = σ := by
  refine Spec.pureFn (spec_r01_Place (by simp) (awpC_sound _ ?_)) ?_ rfl σ
  rotate_left
  · simp only [pures, AVal.pure, Bool.and_true]; exact pures_map (fun _ => rfl) l
  simp [C_r01_Place]
  refine AW.loop (ι := Nat) (fun i fr σ => fr = { v := [(0, .slice 1 (l.map .str)), (1, .str s), (5, .int .i64 i)], ds := [] } ∧ σ = [] ∧ i ≤ l.length ∧ placeF l s 0 = placeF (l.drop i) s i) (fun i => l.length - i) 0 (by simp) ?_
  rintro i fr σ ⟨rfl, rfl, hi, hp⟩
  refine awpC_sound _ ?_
  simp
  refine ⟨fun hlt => ?_, fun hge => ?_⟩
  · have hd : l.drop i = l[i] :: l.drop (i + 1) := List.drop_eq_getElem_cons hlt
    rw [hd] at hp
    simp [placeF] at hp
    simp [hlt]
    refine ⟨fun he => by rw [hp, if_pos he], fun he => ⟨i + 1, by omega, wrap_id (by omega) (by simp only [maxLen] at hl; omega), by omega, by rw [hp, if_neg he]⟩⟩
  · have : l.drop i = [] := List.drop_eq_nil_of_le hge
    rw [hp, this]; rfl

def spanErr (s : Int × Int) (lo hi : Int) : Int := if !insF s.1 lo hi || !insF s.2 lo hi then 7 else if s.1 > s.2 then 2 else 0

theorem r01_Spread_spec (a b lo hi : Int) (σ : AHeap) : Spec Try.prog F_r01_Spread [.slice 2 [.agg [.int .i64 a, .int .i64 b]], .int .i64 lo, .int .i64 hi] σ fun r σ' => r = .ret (.int .i64 (spanErr (a, b) lo hi)) ∧ σ' = σ := by
  refine Spec.pureFn (spec_r01_Spread (by simp) (awpC_sound _ ?_)) rfl rfl σ
  simp [C_r01_Spread]
  refine AW.loop (ι := Nat) (fun i fr σ => fr = { v := [(0, .slice 2 [.agg [.int .i64 a, .int .i64 b]]), (1, .int .i64 lo), (2, .int .i64 hi), (7, .bool (decide (i = 1) && decide (b < a))), (8, .int .i64 i)], ds := [] } ∧ σ = [] ∧ i ≤ 1 ∧ (i = 1 → insF a lo hi = true ∧ insF b lo hi = true)) (fun i => 1 - i) 0 (by simp) ?_
  rintro i fr σ ⟨rfl, rfl, hi', hp⟩
  rcases (by omega : i = 0 ∨ i = 1) with rfl | rfl
  · refine awpC_sound _ ?_
    simp
    refine CallK.pure B_r01_within (r01_within_spec a lo hi _) ?_
    simp
    refine ⟨?_, ?_⟩
    · intro h
      refine ⟨h, CallK.pure B_r01_within (r01_within_spec b lo hi _) ?_⟩
      simp [h]
      exact ⟨fun hb => by simp [spanErr, h, hb], fun hb => ⟨1, by omega, ⟨fun _ => rfl, wrap_id (by omega) (by omega)⟩, by omega, fun _ => hb⟩⟩
    · intro h
      simp [h, spanErr]
  · refine awpC_sound _ ?_
    simp [spanErr, hp rfl]

theorem r01_Range_spec (a b lo hi : Int) (σ : AHeap) : Spec Try.prog F_r01_Range [.agg [.int .i64 a, .int .i64 b], .int .i64 lo, .int .i64 hi] σ fun r σ' => r = .ret (.int .i64 (spanErr (a, b) lo hi)) ∧ σ' = σ := by
  refine Spec.pureFn (spec_r01_Range (by simp) (awpC_sound _ ?_)) rfl rfl σ
  simp [C_r01_Range]
  refine CallK.pure B_r01_Spread (r01_Spread_spec a b lo hi _) ?_
  simp

def freshF (s : ByteArray) (l : List ByteArray) : Int := if nameF s then (if 0 ≤ placeF l s 0 then 5 else 0) else 6
theorem r01_Fresh_spec (l : List ByteArray) (s : ByteArray) (hl : l.length ≤ maxLen) (σ : AHeap) : Spec Try.prog F_r01_Fresh [.str s, .slice 1 (l.map .str)] σ fun r σ' => r = .ret (.int .i64 (freshF s l)) ∧ σ' = σ := by
  refine Spec.pureFn (spec_r01_Fresh (by simp) (awpC_sound _ ?_)) ?_ rfl σ
  rotate_left
  · simp only [pures, AVal.pure, Bool.and_true]; exact pures_map (fun _ => rfl) l
  simp [C_r01_Fresh]
  refine CallK.pure B_r01_Name (r01_Name_spec s _) ?_
  simp
  refine ⟨fun h => by simp [freshF, h], fun h => CallK.pure B_r01_Place (r01_Place_spec l s hl _) ?_⟩
  simp [freshF, h]

end Go.AM
