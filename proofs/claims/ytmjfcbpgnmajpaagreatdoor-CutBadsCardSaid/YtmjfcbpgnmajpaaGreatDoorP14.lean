/- Small functions of chapter 05: beyond, Name, Range and their like. What a name is: of the program and of the document. The check of a hull: of the program and of the document. Is a name taken: of .. -/
import Derived.Test.YtmjfcbpgnmajpaaGreatDoorG05
import Derived.Test.YtmjfcbpgnmajpaaGreatDoorP13
import Derived.Laws.RangeAny
namespace Go.AM
open Go.Proofs
set_option maxRecDepth 100000
abbrev ii' (n : Int) : AVal := .int .i64 n
theorem wrap_id {n : Int} (h : -9223372036854775808 ≤ n) (h2 : n ≤ 9223372036854775807) : IntKind.i64.wrap n = n := by rw [IntKind.wrap_i64]; omega
theorem pures_map {α : Type} {f : α → AVal} (h : ∀ a, (f a).pure = true) : ∀ l : List α, pures (l.map f) = true
  | [] => rfl
  | a :: l => by simp only [List.map_cons, pures, h a, pures_map h l, Bool.and_self]
theorem CallK.of {P : Program} {fv : AVal} {args : List AVal} {σ : AHeap} {v : AVal} {K Kp : AVal → AHeap → Prop} (hs : CallV P fv args σ fun r σ' => r = .ret v ∧ σ' = σ) (hq : K v σ) : @CallK P fv args σ ⟨K⟩ ⟨Kp⟩ :=
  hs.mono (by rintro r σ' ⟨rfl, rfl⟩; exact hq)
theorem CallK.pureE {P : Program} {f : FuncId} (hb : hasBody P f = true) {args : List AVal} {σ : AHeap} {v v' : AVal} {K Kp : AVal → AHeap → Prop} (hs : Spec P f args σ fun r σ' => r = .ret v ∧ σ' = σ) (e : v = v') (hq : K v' σ) :
    @CallK P (.func (.func f) [] []) args σ ⟨K⟩ ⟨Kp⟩ := by subst e; exact CallK.pure hb hs hq
theorem tf (b : Bool) : b = false ∨ b = true := by cases b <;> simp
@[simp] theorem get_app0 {α : Type} (σ l : List α) : (σ ++ l)[σ.length]? = l[0]? := by simp [List.getElem?_append_right]
@[simp] theorem get_appn {α : Type} (σ l : List α) (n : Nat) : (σ ++ l)[σ.length + n]? = l[n]? := by rw [List.getElem?_append_right (by omega)]; congr 1; omega
@[simp] theorem set_app0 {α : Type} (σ l : List α) (x : α) : (σ ++ l).set σ.length x = σ ++ l.set 0 x := by rw [List.set_append_right _ _ (by omega)]; simp
@[simp] theorem set_appn {α : Type} (σ l : List α) (x : α) (n : Nat) : (σ ++ l).set (σ.length + n) x = σ ++ l.set n x := by rw [List.set_append_right _ _ (by omega)]; congr 2; omega
def PureF (P : Program) (fv : AVal) (args : List AVal) (v : AVal) : Prop := ∀ σ, CallV P fv args σ fun r σ' => r = .ret v ∧ σ' = σ
theorem PureF.fn {P : Program} {f : FuncId} (hb : hasBody P f = true) {first caps args : List AVal} {v : AVal} (hs : ∀ σ, Spec P f (first ++ args ++ caps) σ fun r σ' => r = .ret v ∧ σ' = σ) : PureF P (.func (.func f) first caps) args v :=
  fun σ => CallV.func hb (hs σ)
/-! ### beyond -/
def outF (lo hi n : Int) : Bool := decide (n < lo) || decide (hi < n)
def beyondF (lo hi : Int) (l : List Int) : Bool := l.any (outF lo hi)
def idxF {α : Type} (p : α → Bool) : List α → Nat → Int
  | [], _ => -1
  | a :: r, i => if p a then i else idxF p r (i + 1)
theorem idxF_nn {α : Type} (p : α → Bool) : ∀ (l : List α) (i : Nat), 0 ≤ idxF p l i ↔ l.any p = true
  | [], i => by simp [idxF]
  | a :: r, i => by
    have ih := idxF_nn p r (i + 1)
    have e : idxF p (a :: r) i = if p a then (i : Int) else idxF p r (i + 1) := rfl
    rw [e, List.any_cons]
    by_cases h : p a = true
    · rw [if_pos h, h]; simp
    · rw [if_neg h]
      have h' : p a = false := by simpa using h
      rw [h', ih]; simp
theorem idxF_any {α : Type} (p : α → Bool) (l : List α) (i : Nat) : decide (0 ≤ idxF p l i) = l.any p := by
  rw [Bool.eq_iff_iff, decide_eq_true_iff]; exact idxF_nn p l i
theorem stand_beyond_1_spec (n lo hi : Int) (σ : AHeap) : Spec Tryz.prog F_stand_beyond_1 [ii' n, .pval (ii' lo), .pval (ii' hi)] σ fun r σ' => r = .ret (.bool (outF lo hi n)) ∧ σ' = σ := by
  refine Spec.pureFn (spec_stand_beyond_1 (by simp) (awpC_sound _ ?_)) rfl rfl σ
  simp [C_stand_beyond_1, outF]
theorem slices_IndexFunc_int_spec (g : FuncId) (caps : List AVal) (hp : pures caps = true) (p : Int → Bool) (l : List Int) (hl : l.length ≤ maxLen) (hf : ∀ x ∈ l, PureF Tryz.prog (.func (.func g) [] caps) [ii' x] (.bool (p x))) (σ : AHeap) :
    Spec Tryz.prog F_slices_IndexFunc_int_int [.slice 1 (l.map ii'), .func (.func g) [] caps] σ fun r σ' => r = .ret (.int .i64 (idxF p l 0)) ∧ σ' = σ := by
  refine Spec.pureFn (spec_slices_IndexFunc_int_int (by simp) (awpC_sound _ ?_)) (by simp [hp, pures_map (f := ii') (fun _ => rfl) l]) rfl σ
  simp [C_slices_IndexFunc_int_int]
  refine AW.loop (ι := Nat) (fun i fr σ => fr = { v := [(0, .slice 1 (l.map ii')), (1, .func (.func g) [] caps), (7, .int .i64 l.length), (8, .int .i64 i)], ds := [] } ∧ i ≤ l.length ∧ idxF p l 0 = idxF p (l.drop i) i) (fun i => l.length - i) 0 (by simp) ?_
  rintro i fr σ ⟨rfl, hi, hpi⟩
  refine awpC_sound _ ?_
  simp
  refine ⟨fun hlt => ?_, fun hge => ?_⟩
  · have hd : l.drop i = l[i] :: l.drop (i + 1) := List.drop_eq_getElem_cons hlt
    rw [hd] at hpi
    simp [idxF] at hpi
    simp [hlt]
    refine CallK.of (hf l[i] (List.getElem_mem _) σ) ?_
    simp
    refine ⟨fun he => by rw [hpi, if_pos he], fun he => ⟨i + 1, by omega, wrap_id (by omega) (by simp only [maxLen] at hl; omega), by omega, by rw [hpi, if_neg (by simp [he])]⟩⟩
  · have : l.drop i = [] := List.drop_eq_nil_of_le hge
    rw [hpi, this]; rfl
theorem slices_ContainsFunc_int_spec (g : FuncId) (caps : List AVal) (hp : pures caps = true) (p : Int → Bool) (l : List Int) (hl : l.length ≤ maxLen) (hf : ∀ x ∈ l, PureF Tryz.prog (.func (.func g) [] caps) [ii' x] (.bool (p x))) (σ : AHeap) :
    Spec Tryz.prog F_slices_ContainsFunc_int_int [.slice 1 (l.map ii'), .func (.func g) [] caps] σ fun r σ' => r = .ret (.bool (l.any p)) ∧ σ' = σ := by
  refine Spec.pureFn (spec_slices_ContainsFunc_int_int (by simp) (awpC_sound _ ?_)) (by simp [hp, pures_map (f := ii') (fun _ => rfl) l]) rfl σ
  simp [C_slices_ContainsFunc_int_int]
  refine CallK.pure B_slices_IndexFunc_int_int (slices_IndexFunc_int_spec g caps hp p l hl hf _) ?_
  simp [idxF_any]
theorem stand_beyond_spec (lo hi : Int) (l : List Int) (hl : l.length ≤ maxLen) (σ : AHeap) :
    Spec Tryz.prog F_stand_beyond [ii' lo, ii' hi, .slice 1 (l.map ii')] σ fun r σ' => r = .ret (.bool (beyondF lo hi l)) ∧ σ' = σ := by
  refine Spec.pureFn (spec_stand_beyond (by simp) (awpC_sound _ ?_)) (by simp [pures_map (f := ii') (fun _ => rfl) l]) rfl σ
  simp [C_stand_beyond]
  refine CallK.pure B_slices_ContainsFunc_int_int (slices_ContainsFunc_int_spec _ _ rfl (outF lo hi) l hl (fun x _ => PureF.fn B_stand_beyond_1 (fun σ => stand_beyond_1_spec x lo hi σ)) _) ?_
  simp [beyondF]
end Go.AM
namespace Go.AM
open Go.Proofs
set_option maxRecDepth 100000
def insF (n lo hi : Int) : Bool := decide (lo ≤ n) && decide (n ≤ hi)
theorem r01_within_spec (n lo hi : Int) (σ : AHeap) : Spec Tryz.prog F_r01_within [.int .i64 n, .int .i64 lo, .int .i64 hi] σ fun r σ' => r = .ret (.bool (insF n lo hi)) ∧ σ' = σ := by
  refine Spec.pureFn (spec_r01_within (by simp) (awpC_sound _ ?_)) rfl rfl σ
  simp [C_r01_within, insF]
theorem r05_in_spec (n lo hi : Int) (σ : AHeap) : Spec Tryz.prog F_r05_in [.int .i64 n, .int .i64 lo, .int .i64 hi] σ fun r σ' => r = .ret (.bool (insF n lo hi)) ∧ σ' = σ := by
  refine Spec.pureFn (spec_r05_in (by simp) (awpC_sound _ ?_)) rfl rfl σ
  simp [C_r05_in, insF]
def byteF (s : ByteArray) (i : Nat) : Nat := (s.data[i]?.getD 0).toNat
def letterF (b : Nat) : Bool := decide (97 ≤ b) && decide (b ≤ 122)
def digitF (b : Nat) : Bool := decide (48 ≤ b) && decide (b ≤ 57)
def okAt (s : ByteArray) (i : Nat) : Bool := letterF (byteF s i) || (digitF (byteF s i) && i != 0)
def okAll (s : ByteArray) : Nat → Nat → Bool
  | _, 0 => true
  | i, n + 1 => okAt s i && okAll s (i + 1) n
def nameF (s : ByteArray) : Bool := decide (1 ≤ s.size) && decide (s.size ≤ 16) && okAll s 0 s.size
theorem byteF_get (s : ByteArray) (i : Nat) (h : i < s.size) : byteF s i = (s[i]'h).toNat := by
  have h' : i < s.data.size := h
  have e : s.data[i]?.getD 0 = s.data[i]'h' := by rw [Array.getElem?_eq_getElem h']; rfl
  unfold byteF
  rw [e]
  rfl
theorem nameF_bad {s : ByteArray} {i : Nat} (hlt : i < s.size) (hp : okAll s 0 s.size = okAll s i (s.size - i)) (h : okAt s i = false) : nameF s = false := by
  unfold nameF
  rw [hp, show s.size - i = (s.size - (i + 1)) + 1 by omega, okAll, h]
  simp
theorem get_data (b : ByteArray) (i : Nat) (h : i < b.data.toList.length) : b.get! i = b.data.toList[i] := by
  obtain ⟨a⟩ := b
  have h' : i < a.size := by simpa using h
  show a[i]! = _
  rw [getElem!_pos a i h']; simp
theorem bl (b : ByteArray) : ∀ (n i : Nat) (r : List UInt8), b.size - i = n → ByteArray.toList.loop b i r = r.reverse ++ (b.data.toList.drop i)
  | 0, i, r, h => by
    unfold ByteArray.toList.loop
    have : b.size ≤ i := by omega
    rw [if_neg (by omega)]
    have : b.data.toList.length ≤ i := by simpa using this
    rw [List.drop_eq_nil_of_le this]; simp
  | n + 1, i, r, h => by
    unfold ByteArray.toList.loop
    have hlt : i < b.size := by omega
    rw [if_pos hlt, bl b n (i + 1) _ (by omega)]
    have h' : i < b.data.toList.length := by simpa using hlt
    rw [List.drop_eq_getElem_cons h', get_data b i h']
    simp
theorem toList_data (b : ByteArray) : b.toList = b.data.toList := by
  unfold ByteArray.toList; rw [bl b _ 0 [] rfl]; simp
theorem toList_nil (s : ByteArray) : s.toList = [] ↔ s.size = 0 := by
  rw [toList_data]
  constructor
  · intro h
    have : s.data.toList.length = 0 := by rw [h]; rfl
    simpa using this
  · intro h
    have : s.data.toList.length = 0 := by simpa using h
    exact List.eq_nil_of_length_eq_zero this
theorem okAll_step (s : ByteArray) {i : Nat} (h : i < s.size) : okAll s i (s.size - i) = (okAt s i && okAll s (i + 1) (s.size - (i + 1))) := by
  rw [show s.size - i = (s.size - (i + 1)) + 1 by omega]; rfl
theorem hull_Name_spec (s : ByteArray) (σ : AHeap) : Spec Tryz.prog F_hull_Name [.str s] σ fun r σ' => r = .ret (.bool (nameF s)) ∧ σ' = σ := by
  refine Spec.pureFn (spec_hull_Name (by simp) (awpC_sound _ ?_)) rfl rfl σ
  simp [C_hull_Name]
  refine AW.loop (ι := Nat) (fun i fr σ => fr = { v := [(0, .str s), (8, .iter 0)], ds := [] } ∧ σ = [.siter s i] ∧ i ≤ s.size ∧ okAll s 0 s.size = okAll s i (s.size - i)) (fun i => s.size - i) 0 (by simp) ?_
  rintro i fr σ ⟨rfl, rfl, hi, hp⟩
  refine awpC_sound _ ?_
  simp
  split
  · rename_i hlt
    have hb := byteF_get s i hlt
    have hst := okAll_step s hlt
    have hd : ((Utf8.decode s i).1 = byteF s i ∧ (Utf8.decode s i).2 = 1 ∧ byteF s i < 128) ∨ (128 ≤ (Utf8.decode s i).1 ∧ 128 ≤ byteF s i) := by
      by_cases ha : (s[i]'hlt).toNat < 128
      · left; rw [Go.decode_ascii s i hlt ha, hb]; exact ⟨rfl, rfl, ha⟩
      · right; rw [hb]; exact ⟨(Go.decode_high s i hlt (by omega)).1, by omega⟩
    generalize Utf8.decode s i = d at hd ⊢
    obtain ⟨r, w⟩ := d
    simp only at hd ⊢
    refine ⟨fun h => ⟨h, fun h1 h2 => ⟨h, h1, h2⟩⟩, fun h1 h2 => nameF_bad hlt hp ?_, fun h => ?_⟩
    · simp [okAt, letterF, digitF]
      omega
    · have hok : okAt s i = true := by
        simp [okAt, letterF, digitF]
        omega
      have hw : w = 1 := by
        rcases hd with hd | hd
        · exact hd.2.1
        · exfalso
          have : okAt s i = false := by simp [okAt, letterF, digitF]; omega
          rw [hok] at this; cases this
      subst hw
      exact ⟨i + 1, by omega, rfl, by omega, by rw [hp, hst, hok]; rfl⟩
  · rename_i hge
    have : i = s.size := by omega
    subst this
    rw [Nat.sub_self] at hp
    unfold nameF
    rw [hp]
    rw [Bool.eq_iff_iff]
    simp [okAll]
    refine ⟨fun ⟨h1, h2⟩ => ⟨?_, by omega⟩, fun h => ⟨fun e => ?_, by omega⟩⟩
    · have h1' : ¬ s.size = 0 := fun e => h1 ((toList_nil s).2 e)
      omega
    · have := (toList_nil s).1 e
      omega
theorem r01_Name_spec (s : ByteArray) (σ : AHeap) : Spec Tryz.prog F_r01_Name [.str s] σ fun r σ' => r = .ret (.bool (nameF s)) ∧ σ' = σ := by
  refine Spec.pureFn (spec_r01_Name (by simp) (awpC_sound _ ?_)) rfl rfl σ
  simp [C_r01_Name]
  refine CallK.pure B_r01_within (r01_within_spec s.size 1 16 _) ?_
  simp
  have hb : ∀ i : Nat, ((s.data[i]?.getD 0).toNat : Int) = (byteF s i : Int) := fun _ => rfl
  simp only [hb]
  have hin : insF (s.size : Int) 1 16 = true ↔ 1 ≤ s.size ∧ s.size ≤ 16 := by simp [insF]; omega
  have hin' : insF (s.size : Int) 1 16 = false ↔ ¬ (1 ≤ s.size ∧ s.size ≤ 16) := by rw [← hin]; simp
  simp only [hin, hin']
  refine ⟨fun h => ⟨h, by omega⟩, fun h h2 => ⟨⟨h, h2⟩, by omega⟩, fun h => ?_, fun h1 h2 h3 => ?_⟩
  · by_cases hz : 1 ≤ s.size ∧ s.size ≤ 16
    · refine nameF_bad (i := 0) (by omega) rfl ?_
      simp [okAt, letterF]
      omega
    · unfold nameF
      rw [Bool.eq_false_iff]
      simp
      intros
      omega
  refine AW.loop (ι := Nat) (fun i fr σ => fr = { v := [(0, .str s), (3, .int .i64 i)], ds := [] } ∧ σ = [] ∧ 1 ≤ i ∧ i ≤ s.size ∧ okAll s 0 s.size = okAll s i (s.size - i)) (fun i => s.size - i) 1 ⟨by simp, rfl, by omega, by omega, ?_⟩ ?_
  · have := okAll_step s (i := 0) (by omega)
    rw [Nat.sub_zero] at this
    rw [this]
    have : okAt s 0 = true := by simp [okAt, letterF]; omega
    rw [this]; rfl
  rintro i fr σ ⟨rfl, rfl, h1i, hi, hp⟩
  refine awpC_sound _ ?_
  simp
  simp only [hb]
  refine ⟨fun hlt => ⟨hlt, fun h => ⟨h, hlt⟩, hlt, fun h => ⟨h, hlt⟩, fun h h' => nameF_bad hlt hp ?_, fun h => ?_⟩, fun hge => ?_⟩
  · simp [okAt, letterF, digitF]
    omega
  · have hok : okAt s i = true := by
      simp [okAt, letterF, digitF]
      omega
    exact ⟨i + 1, by omega, wrap_id (by omega) (by omega), by omega, by omega, by rw [hp, okAll_step s hlt, hok]; rfl⟩
  · have : i = s.size := by omega
    subst this
    rw [Nat.sub_self] at hp
    unfold nameF
    rw [hp]
    simp [okAll]
    omega
end Go.AM
namespace Go.AM
open Go.Proofs
set_option maxRecDepth 100000
set_option maxHeartbeats 4000000
structure PartM where
  name : ByteArray
  at_ : Int
  wLo : Int
  wHi : Int
  keel : Int
  lLo : Int
  lHi : Int
def PartM.cells (p : PartM) : List AVal := [.str p.name, ii' p.at_, ii' p.wLo, ii' p.wHi, ii' p.keel, ii' p.lLo, ii' p.lHi]
def PartM.v (p : PartM) : AVal := .agg p.cells
structure HullM where
  ps : List PartM
  aft : Int
  fore : Int
def HullM.cells (h : HullM) : List AVal := [.slice 7 (h.ps.map PartM.v), ii' h.aft, ii' h.fore]
def HullM.v (h : HullM) : AVal := .agg h.cells
theorem HullM.pure (h : HullM) : h.v.pure = true := by simp [HullM.v, HullM.cells, AVal.pure, pures, pures_map (f := PartM.v) (fun _ => rfl) h.ps]
def partE (p : PartM) : Int :=
  if beyondF 0 5000 [p.at_] || beyondF 0 1000 [p.keel] || beyondF 0 1000000 [p.wLo, p.wHi] || beyondF 0 5000 [p.lLo, p.lHi] then 7
  else if decide (p.wHi < p.wLo) || decide (p.lHi < p.lLo) then 2 else 0
theorem stand_check_spec (p : PartM) (σ : AHeap) : Spec Tryz.prog F_stand_check [p.v] σ fun r σ' => r = .ret (ii' (partE p)) ∧ σ' = σ := by
  refine Spec.pureFn (spec_stand_check (by simp) (awpC_sound _ ?_)) rfl rfl σ
  simp [C_stand_check, PartM.v, PartM.cells]
  refine (tf (beyondF 0 5000 [p.at_])).elim (fun h1 => ?_) (fun h1 => ?_)
  · refine CallK.pureE B_stand_beyond (stand_beyond_spec 0 5000 [p.at_] (by simp [maxLen]) _) (congrArg AVal.bool h1) ?_
    simp
    refine (tf (beyondF 0 1000 [p.keel])).elim (fun h2 => ?_) (fun h2 => ?_)
    · refine CallK.pureE B_stand_beyond (stand_beyond_spec 0 1000 [p.keel] (by simp [maxLen]) _) (congrArg AVal.bool h2) ?_
      simp
      refine (tf (beyondF 0 1000000 [p.wLo, p.wHi])).elim (fun h3 => ?_) (fun h3 => ?_)
      · refine CallK.pureE B_stand_beyond (stand_beyond_spec 0 1000000 [p.wLo, p.wHi] (by simp [maxLen]) _) (congrArg AVal.bool h3) ?_
        simp
        refine (tf (beyondF 0 5000 [p.lLo, p.lHi])).elim (fun h4 => ?_) (fun h4 => ?_)
        · refine CallK.pureE B_stand_beyond (stand_beyond_spec 0 5000 [p.lLo, p.lHi] (by simp [maxLen]) _) (congrArg AVal.bool h4) ?_
          refine (Classical.em (p.wHi < p.wLo)).elim (fun h5 => ?_) (fun h5 => ?_)
          · simp [h5]
            simp [partE, h1, h2, h3, h4, h5]
          · refine (Classical.em (p.lHi < p.lLo)).elim (fun h6 => ?_) (fun h6 => ?_)
            · simp [h5, h6]
              simp [partE, h1, h2, h3, h4, h5, h6]
            · simp [h5, h6]
              simp [partE, h1, h2, h3, h4, h5, h6]
        · refine CallK.pureE B_stand_beyond (stand_beyond_spec 0 5000 [p.lLo, p.lHi] (by simp [maxLen]) _) (congrArg AVal.bool h4) ?_
          simp
          simp [partE, h1, h2, h3, h4]
      · refine CallK.pureE B_stand_beyond (stand_beyond_spec 0 1000000 [p.wLo, p.wHi] (by simp [maxLen]) _) (congrArg AVal.bool h3) ?_
        simp
        simp [partE, h1, h2, h3]
    · refine CallK.pureE B_stand_beyond (stand_beyond_spec 0 1000 [p.keel] (by simp [maxLen]) _) (congrArg AVal.bool h2) ?_
      simp
      simp [partE, h1, h2]
  · refine CallK.pureE B_stand_beyond (stand_beyond_spec 0 5000 [p.at_] (by simp [maxLen]) _) (congrArg AVal.bool h1) ?_
    simp
    simp [partE, h1]
end Go.AM
namespace Go.AM
open Go.Proofs
set_option maxRecDepth 100000
set_option maxHeartbeats 1000000
theorem stand_Check_1_spec (y x : PartM) (σ : AHeap) : Spec Tryz.prog F_stand_Check_1 [y.v, .pval x.v] σ fun r σ' => r = .ret (.bool (y.name.toList == x.name.toList)) ∧ σ' = σ := by
  refine Spec.pureFn (spec_stand_Check_1 (by simp) (awpC_sound _ ?_)) rfl rfl σ
  simp [C_stand_Check_1, PartM.v, PartM.cells]
theorem slices_IndexFunc_St_spec (g : FuncId) (caps : List AVal) (hp : pures caps = true) (p : PartM → Bool) (l : List PartM) (hl : l.length ≤ maxLen) (hf : ∀ x ∈ l, PureF Tryz.prog (.func (.func g) [] caps) [x.v] (.bool (p x))) (σ : AHeap) :
    Spec Tryz.prog F_slices_IndexFunc_api_StPart_api_StPart [.slice 7 (l.map PartM.v), .func (.func g) [] caps] σ fun r σ' => r = .ret (.int .i64 (idxF p l 0)) ∧ σ' = σ := by
  refine Spec.pureFn (spec_slices_IndexFunc_api_StPart_api_StPart (by simp) (awpC_sound _ ?_)) (by simp [hp, pures_map (f := PartM.v) (fun _ => rfl) l]) rfl σ
  simp [C_slices_IndexFunc_api_StPart_api_StPart]
  refine AW.loop (ι := Nat) (fun i fr σ => fr = { v := [(0, .slice 7 (l.map PartM.v)), (1, .func (.func g) [] caps), (7, .int .i64 l.length), (8, .int .i64 i)], ds := [] } ∧ i ≤ l.length ∧ idxF p l 0 = idxF p (l.drop i) i) (fun i => l.length - i) 0 (by simp) ?_
  rintro i fr σ ⟨rfl, hi, hpi⟩
  refine awpC_sound _ ?_
  simp
  refine ⟨fun hlt => ?_, fun hge => ?_⟩
  · have hd : l.drop i = l[i] :: l.drop (i + 1) := List.drop_eq_getElem_cons hlt
    rw [hd] at hpi
    simp [idxF] at hpi
    simp [hlt, PartM.v, PartM.cells]
    refine CallK.of (hf l[i] (List.getElem_mem _) σ) ?_
    simp
    refine ⟨fun he => by rw [hpi, if_pos he], fun he => ⟨i + 1, by omega, wrap_id (by omega) (by simp only [maxLen] at hl; omega), by omega, by rw [hpi, if_neg (by simp [he])]⟩⟩
  · have : l.drop i = [] := List.drop_eq_nil_of_le hge
    rw [hpi, this]; rfl
theorem slices_ContainsFunc_St_spec (g : FuncId) (caps : List AVal) (hp : pures caps = true) (p : PartM → Bool) (l : List PartM) (hl : l.length ≤ maxLen) (hf : ∀ x ∈ l, PureF Tryz.prog (.func (.func g) [] caps) [x.v] (.bool (p x))) (σ : AHeap) :
    Spec Tryz.prog F_slices_ContainsFunc_api_StPart_api_StPart [.slice 7 (l.map PartM.v), .func (.func g) [] caps] σ fun r σ' => r = .ret (.bool (l.any p)) ∧ σ' = σ := by
  refine Spec.pureFn (spec_slices_ContainsFunc_api_StPart_api_StPart (by simp) (awpC_sound _ ?_)) (by simp [hp, pures_map (f := PartM.v) (fun _ => rfl) l]) rfl σ
  simp [C_slices_ContainsFunc_api_StPart_api_StPart]
  refine CallK.pure B_slices_IndexFunc_api_StPart_api_StPart (slices_IndexFunc_St_spec g caps hp p l hl hf _) ?_
  simp [idxF_any]
end Go.AM
namespace Go.AM
open Go.Proofs
set_option maxRecDepth 100000
set_option maxHeartbeats 1000000
structure HuM where
  name : ByteArray
  kind : Int
  first : Int
  last : Int
  on : List ByteArray
  lo : Int
  hi : Int
def HuM.cells (p : HuM) : List AVal := [.str p.name, ii' p.kind, ii' p.first, ii' p.last, .slice 1 (p.on.map .str), ii' p.lo, ii' p.hi]
def HuM.v (p : HuM) : AVal := .agg p.cells
theorem HuM.pure (p : HuM) : p.v.pure = true := by simp [HuM.v, HuM.cells, AVal.pure, pures, pures_map (f := AVal.str) (fun _ => rfl) p.on]
structure TankM where
  name : ByteArray
  kept : Bool
def TankM.cells (p : TankM) : List AVal := [.str p.name, .bool p.kept]
def TankM.v (p : TankM) : AVal := .agg p.cells
theorem TankM.pure (p : TankM) : p.v.pure = true := rfl
theorem hull_beyond_1_spec (n lo hi : Int) (σ : AHeap) : Spec Tryz.prog F_hull_beyond_1 [ii' n, .pval (ii' lo), .pval (ii' hi)] σ fun r σ' => r = .ret (.bool (outF lo hi n)) ∧ σ' = σ := by
  refine Spec.pureFn (spec_hull_beyond_1 (by simp) (awpC_sound _ ?_)) rfl rfl σ
  simp [C_hull_beyond_1, outF]
theorem hull_beyond_spec (lo hi : Int) (l : List Int) (hl : l.length ≤ maxLen) (σ : AHeap) :
    Spec Tryz.prog F_hull_beyond [ii' lo, ii' hi, .slice 1 (l.map ii')] σ fun r σ' => r = .ret (.bool (beyondF lo hi l)) ∧ σ' = σ := by
  refine Spec.pureFn (spec_hull_beyond (by simp) (awpC_sound _ ?_)) (by simp [pures_map (f := ii') (fun _ => rfl) l]) rfl σ
  simp [C_hull_beyond]
  refine CallK.pure B_slices_ContainsFunc_int_int (slices_ContainsFunc_int_spec _ _ rfl (outF lo hi) l hl (fun x _ => PureF.fn B_hull_beyond_1 (fun σ => hull_beyond_1_spec x lo hi σ)) _) ?_
  simp [beyondF]
def meetF (a b : HuM) : Bool := decide (a.first ≤ b.last) && decide (b.first ≤ a.last)
theorem hull_meet_spec (a b : HuM) (σ : AHeap) : Spec Tryz.prog F_hull_meet [a.v, b.v] σ fun r σ' => r = .ret (.bool (meetF a b)) ∧ σ' = σ := by
  refine Spec.pureFn (spec_hull_meet (by simp) (awpC_sound _ ?_)) (by simp [HuM.pure]) rfl σ
  simp [C_hull_meet, HuM.v, HuM.cells]
  refine (Classical.em (a.first ≤ b.last)).elim (fun h => ?_) (fun h => ?_) <;> simp [h, meetF]
theorem r01_meet_spec (a b : HuM) (σ : AHeap) : Spec Tryz.prog F_r01_meet [a.v, b.v] σ fun r σ' => r = .ret (.bool (decide (max a.first b.first ≤ min a.last b.last))) ∧ σ' = σ := by
  refine Spec.pureFn (spec_r01_meet (by simp) (awpC_sound _ ?_)) (by simp [HuM.pure]) rfl σ
  simp [C_r01_meet, HuM.v, HuM.cells]
  by_cases h1 : a.first < b.first <;> by_cases h2 : b.last < a.last <;> simp only [h1, h2, if_true, if_false] <;> omega
theorem slices_IndexFunc_Hu_spec (g : FuncId) (caps : List AVal) (hp : pures caps = true) (p : HuM → Bool) (l : List HuM) (hl : l.length ≤ maxLen) (hf : ∀ x ∈ l, PureF Tryz.prog (.func (.func g) [] caps) [x.v] (.bool (p x))) (σ : AHeap) :
    Spec Tryz.prog F_slices_IndexFunc_api_HuPart_api_HuPart [.slice 7 (l.map HuM.v), .func (.func g) [] caps] σ fun r σ' => r = .ret (.int .i64 (idxF p l 0)) ∧ σ' = σ := by
  refine Spec.pureFn (spec_slices_IndexFunc_api_HuPart_api_HuPart (by simp) (awpC_sound _ ?_)) (by simp [hp, pures_map (f := HuM.v) (fun p => p.pure) l]) rfl σ
  simp [C_slices_IndexFunc_api_HuPart_api_HuPart]
  refine AW.loop (ι := Nat) (fun i fr σ => fr = { v := [(0, .slice 7 (l.map HuM.v)), (1, .func (.func g) [] caps), (7, .int .i64 l.length), (8, .int .i64 i)], ds := [] } ∧ i ≤ l.length ∧ idxF p l 0 = idxF p (l.drop i) i) (fun i => l.length - i) 0 (by simp) ?_
  rintro i fr σ ⟨rfl, hi, hpi⟩
  refine awpC_sound _ ?_
  simp
  refine ⟨fun hlt => ?_, fun hge => ?_⟩
  · have hd : l.drop i = l[i] :: l.drop (i + 1) := List.drop_eq_getElem_cons hlt
    rw [hd] at hpi
    simp [idxF] at hpi
    simp [hlt, HuM.v, HuM.cells]
    refine CallK.of (hf l[i] (List.getElem_mem _) σ) ?_
    simp
    refine ⟨fun he => by rw [hpi, if_pos he], fun he => ⟨i + 1, by omega, wrap_id (by omega) (by simp only [maxLen] at hl; omega), by omega, by rw [hpi, if_neg (by simp [he])]⟩⟩
  · have : l.drop i = [] := List.drop_eq_nil_of_le hge
    rw [hpi, this]; rfl
theorem slices_ContainsFunc_Hu_spec (g : FuncId) (caps : List AVal) (hp : pures caps = true) (p : HuM → Bool) (l : List HuM) (hl : l.length ≤ maxLen) (hf : ∀ x ∈ l, PureF Tryz.prog (.func (.func g) [] caps) [x.v] (.bool (p x))) (σ : AHeap) :
    Spec Tryz.prog F_slices_ContainsFunc_api_HuPart_api_HuPart [.slice 7 (l.map HuM.v), .func (.func g) [] caps] σ fun r σ' => r = .ret (.bool (l.any p)) ∧ σ' = σ := by
  refine Spec.pureFn (spec_slices_ContainsFunc_api_HuPart_api_HuPart (by simp) (awpC_sound _ ?_)) (by simp [hp, pures_map (f := HuM.v) (fun p => p.pure) l]) rfl σ
  simp [C_slices_ContainsFunc_api_HuPart_api_HuPart]
  refine CallK.pure B_slices_IndexFunc_api_HuPart_api_HuPart (slices_IndexFunc_Hu_spec g caps hp p l hl hf _) ?_
  simp [idxF_any]
theorem slices_IndexFunc_Vn_spec (g : FuncId) (caps : List AVal) (hp : pures caps = true) (p : TankM → Bool) (l : List TankM) (hl : l.length ≤ maxLen) (hf : ∀ x ∈ l, PureF Tryz.prog (.func (.func g) [] caps) [x.v] (.bool (p x))) (σ : AHeap) :
    Spec Tryz.prog F_slices_IndexFunc_api_VnTank_api_VnTank [.slice 2 (l.map TankM.v), .func (.func g) [] caps] σ fun r σ' => r = .ret (.int .i64 (idxF p l 0)) ∧ σ' = σ := by
  refine Spec.pureFn (spec_slices_IndexFunc_api_VnTank_api_VnTank (by simp) (awpC_sound _ ?_)) (by simp [hp, pures_map (f := TankM.v) (fun _ => rfl) l]) rfl σ
  simp [C_slices_IndexFunc_api_VnTank_api_VnTank]
  refine AW.loop (ι := Nat) (fun i fr σ => fr = { v := [(0, .slice 2 (l.map TankM.v)), (1, .func (.func g) [] caps), (7, .int .i64 l.length), (8, .int .i64 i)], ds := [] } ∧ i ≤ l.length ∧ idxF p l 0 = idxF p (l.drop i) i) (fun i => l.length - i) 0 (by simp) ?_
  rintro i fr σ ⟨rfl, hi, hpi⟩
  refine awpC_sound _ ?_
  simp
  refine ⟨fun hlt => ?_, fun hge => ?_⟩
  · have hd : l.drop i = l[i] :: l.drop (i + 1) := List.drop_eq_getElem_cons hlt
    rw [hd] at hpi
    simp [idxF] at hpi
    simp [hlt, TankM.v, TankM.cells]
    refine CallK.of (hf l[i] (List.getElem_mem _) σ) ?_
    simp
    refine ⟨fun he => by rw [hpi, if_pos he], fun he => ⟨i + 1, by omega, wrap_id (by omega) (by simp only [maxLen] at hl; omega), by omega, by rw [hpi, if_neg (by simp [he])]⟩⟩
  · have : l.drop i = [] := List.drop_eq_nil_of_le hge
    rw [hpi, this]; rfl
theorem slices_ContainsFunc_Vn_spec (g : FuncId) (caps : List AVal) (hp : pures caps = true) (p : TankM → Bool) (l : List TankM) (hl : l.length ≤ maxLen) (hf : ∀ x ∈ l, PureF Tryz.prog (.func (.func g) [] caps) [x.v] (.bool (p x))) (σ : AHeap) :
    Spec Tryz.prog F_slices_ContainsFunc_api_VnTank_api_VnTank [.slice 2 (l.map TankM.v), .func (.func g) [] caps] σ fun r σ' => r = .ret (.bool (l.any p)) ∧ σ' = σ := by
  refine Spec.pureFn (spec_slices_ContainsFunc_api_VnTank_api_VnTank (by simp) (awpC_sound _ ?_)) (by simp [hp, pures_map (f := TankM.v) (fun _ => rfl) l]) rfl σ
  simp [C_slices_ContainsFunc_api_VnTank_api_VnTank]
  refine CallK.pure B_slices_IndexFunc_api_VnTank_api_VnTank (slices_IndexFunc_Vn_spec g caps hp p l hl hf _) ?_
  simp [idxF_any]
/-! ### strings -/
theorem slices_Index_str_spec (l : List ByteArray) (x : ByteArray) (hl : l.length ≤ maxLen) (σ : AHeap) :
    Spec Tryz.prog F_slices_Index_string_string [.slice 1 (l.map .str), .str x] σ fun r σ' => r = .ret (.int .i64 (idxF (fun y => x.toList == y.toList) l 0)) ∧ σ' = σ := by
  refine Spec.pureFn (spec_slices_Index_string_string (by simp) (awpC_sound _ ?_)) (by simp [pures_map (f := AVal.str) (fun _ => rfl) l]) rfl σ
  simp [C_slices_Index_string_string]
  refine AW.loop (ι := Nat) (fun i fr σ => fr = { v := [(0, .slice 1 (l.map AVal.str)), (1, .str x), (7, .int .i64 l.length), (8, .int .i64 i)], ds := [] } ∧ i ≤ l.length ∧ idxF (fun y => x.toList == y.toList) l 0 = idxF (fun y => x.toList == y.toList) (l.drop i) i) (fun i => l.length - i) 0 (by simp) ?_
  rintro i fr σ ⟨rfl, hi, hpi⟩
  refine awpC_sound _ ?_
  simp
  refine ⟨fun hlt => ?_, fun hge => ?_⟩
  · have hd : l.drop i = l[i] :: l.drop (i + 1) := List.drop_eq_getElem_cons hlt
    rw [hd] at hpi
    simp [idxF] at hpi
    simp [hlt]
    refine ⟨fun he => by rw [hpi, if_pos he], fun he => ⟨i + 1, by omega, wrap_id (by omega) (by simp only [maxLen] at hl; omega), by omega, by rw [hpi, if_neg (by simp [he])]⟩⟩
  · have : l.drop i = [] := List.drop_eq_nil_of_le hge
    rw [hpi, this]; rfl
theorem slices_Contains_str_spec (l : List ByteArray) (x : ByteArray) (hl : l.length ≤ maxLen) (σ : AHeap) :
    Spec Tryz.prog F_slices_Contains_string_string [.slice 1 (l.map .str), .str x] σ fun r σ' => r = .ret (.bool (l.any fun y => x.toList == y.toList)) ∧ σ' = σ := by
  refine Spec.pureFn (spec_slices_Contains_string_string (by simp) (awpC_sound _ ?_)) (by simp [pures_map (f := AVal.str) (fun _ => rfl) l]) rfl σ
  simp [C_slices_Contains_string_string]
  refine CallK.pure B_slices_Index_string_string (slices_Index_str_spec l x hl _) ?_
  simp [idxF_any]
theorem hull_ship_find_1_spec (y : HuM) (x : ByteArray) (σ : AHeap) : Spec Tryz.prog F_hull_ship_find_1 [y.v, .pval (.str x)] σ fun r σ' => r = .ret (.bool (y.name.toList == x.toList)) ∧ σ' = σ := by
  refine Spec.pureFn (spec_hull_ship_find_1 (by simp) (awpC_sound _ ?_)) (by simp [HuM.pure, AVal.pure, pures]) rfl σ
  simp [C_hull_ship_find_1, HuM.v, HuM.cells]
def findF (l : List HuM) (x : ByteArray) : Int := idxF (fun y => y.name.toList == x.toList) l 0
end Go.AM
namespace Go.AM
open Go.Proofs
set_option maxRecDepth 100000
def placeF : List ByteArray → ByteArray → Nat → Int
  | [], _, _ => -1
  | a :: r, s, i => if a.toList == s.toList then i else placeF r s (i + 1)
theorem r01_Place_spec (l : List ByteArray) (s : ByteArray) (hl : l.length ≤ maxLen) (σ : AHeap) : Spec Tryz.prog F_r01_Place [.slice 1 (l.map .str), .str s] σ fun r σ' => r = .ret (.int .i64 (placeF l s 0)) ∧ σ' = σ := by
  refine Spec.pureFn (spec_r01_Place (by simp) (awpC_sound _ ?_)) ?_ rfl σ
  rotate_left
  · simp only [pures, AVal.pure, Bool.and_true]; exact pures_map (fun _ => rfl) l
  simp [C_r01_Place]
  refine AW.loop (ι := Nat) (fun i fr σ => fr = { v := [(0, .slice 1 (l.map .str)), (1, .str s), (5, .int .i64 i)], ds := [] } ∧ σ = [] ∧ i ≤ l.length ∧ placeF l s 0 = placeF (l.drop i) s i) (fun i => l.length - i) 0 (by simp) ?_
  rintro i fr σ ⟨rfl, rfl, hi, hp⟩
  refine awpC_sound _ ?_
  simp
  refine ⟨fun hlt => ?_, fun hge => ?_⟩
  · have hd : l.drop i = l[i] :: l.drop (i + 1) := List.drop_eq_getElem_cons hlt
    rw [hd] at hp
    simp [placeF] at hp
    simp [hlt]
    refine ⟨fun he => by rw [hp, if_pos he], fun he => ⟨i + 1, by omega, wrap_id (by omega) (by simp only [maxLen] at hl; omega), by omega, by rw [hp, if_neg he]⟩⟩
  · have : l.drop i = [] := List.drop_eq_nil_of_le hge
    rw [hp, this]; rfl
def spanErr (s : Int × Int) (lo hi : Int) : Int := if !insF s.1 lo hi || !insF s.2 lo hi then 7 else if s.1 > s.2 then 2 else 0
theorem r01_Spread_spec (a b lo hi : Int) (σ : AHeap) : Spec Tryz.prog F_r01_Spread [.slice 2 [.agg [.int .i64 a, .int .i64 b]], .int .i64 lo, .int .i64 hi] σ fun r σ' => r = .ret (.int .i64 (spanErr (a, b) lo hi)) ∧ σ' = σ := by
  refine Spec.pureFn (spec_r01_Spread (by simp) (awpC_sound _ ?_)) rfl rfl σ
  simp [C_r01_Spread]
  refine AW.loop (ι := Nat) (fun i fr σ => fr = { v := [(0, .slice 2 [.agg [.int .i64 a, .int .i64 b]]), (1, .int .i64 lo), (2, .int .i64 hi), (7, .bool (decide (i = 1) && decide (b < a))), (8, .int .i64 i)], ds := [] } ∧ σ = [] ∧ i ≤ 1 ∧ (i = 1 → insF a lo hi = true ∧ insF b lo hi = true)) (fun i => 1 - i) 0 (by simp) ?_
  rintro i fr σ ⟨rfl, rfl, hi', hp⟩
  rcases (by omega : i = 0 ∨ i = 1) with rfl | rfl
  · refine awpC_sound _ ?_
    simp
    refine CallK.pure B_r01_within (r01_within_spec a lo hi _) ?_
    simp
    refine ⟨?_, ?_⟩
    · intro h
      refine ⟨h, CallK.pure B_r01_within (r01_within_spec b lo hi _) ?_⟩
      simp [h]
      exact ⟨fun hb => by simp [spanErr, h, hb], fun hb => ⟨1, by omega, ⟨fun _ => rfl, wrap_id (by omega) (by omega)⟩, by omega, fun _ => hb⟩⟩
    · intro h
      simp [h, spanErr]
  · refine awpC_sound _ ?_
    simp [spanErr, hp rfl]
theorem r01_Range_spec (a b lo hi : Int) (σ : AHeap) : Spec Tryz.prog F_r01_Range [.agg [.int .i64 a, .int .i64 b], .int .i64 lo, .int .i64 hi] σ fun r σ' => r = .ret (.int .i64 (spanErr (a, b) lo hi)) ∧ σ' = σ := by
  refine Spec.pureFn (spec_r01_Range (by simp) (awpC_sound _ ?_)) rfl rfl σ
  simp [C_r01_Range]
  refine CallK.pure B_r01_Spread (r01_Spread_spec a b lo hi _) ?_
  simp
def freshF (s : ByteArray) (l : List ByteArray) : Int := if nameF s then (if 0 ≤ placeF l s 0 then 5 else 0) else 6
theorem r01_Fresh_spec (l : List ByteArray) (s : ByteArray) (hl : l.length ≤ maxLen) (σ : AHeap) : Spec Tryz.prog F_r01_Fresh [.str s, .slice 1 (l.map .str)] σ fun r σ' => r = .ret (.int .i64 (freshF s l)) ∧ σ' = σ := by
  refine Spec.pureFn (spec_r01_Fresh (by simp) (awpC_sound _ ?_)) ?_ rfl σ
  rotate_left
  · simp only [pures, AVal.pure, Bool.and_true]; exact pures_map (fun _ => rfl) l
  simp [C_r01_Fresh]
  refine CallK.pure B_r01_Name (r01_Name_spec s _) ?_
  simp
  refine ⟨fun h => by simp [freshF, h], fun h => CallK.pure B_r01_Place (r01_Place_spec l s hl _) ?_⟩
  simp [freshF, h]
end Go.AM
namespace Go.AM
open Go.Proofs
set_option maxRecDepth 100000
set_option maxHeartbeats 1000000
theorem r01_find_spec (l : List HuM) (x : ByteArray) (hl : l.length ≤ maxLen) (σ : AHeap) :
    Spec Tryz.prog F_r01_find [.slice 7 (l.map HuM.v), .str x] σ fun r σ' => r = .ret (.int .i64 (findF l x)) ∧ σ' = σ := by
  refine Spec.pureFn (spec_r01_find (by simp) (awpC_sound _ ?_)) (by simp [pures_map (f := HuM.v) (fun p => p.pure) l]) rfl σ
  simp [C_r01_find]
  refine AW.loop (ι := Nat) (fun i fr σ => fr = { v := [(0, .slice 7 (l.map HuM.v)), (1, .str x), (5, .int .i64 i)], ds := [] } ∧ i ≤ l.length ∧ findF l x = idxF (fun y => y.name.toList == x.toList) (l.drop i) i) (fun i => l.length - i) 0 (by simp [findF]) ?_
  rintro i fr σ ⟨rfl, hi, hpi⟩
  refine awpC_sound _ ?_
  simp
  refine ⟨fun hlt => ?_, fun hge => ?_⟩
  · have hd : l.drop i = l[i] :: l.drop (i + 1) := List.drop_eq_getElem_cons hlt
    rw [hd] at hpi
    simp [idxF] at hpi
    simp [hlt, HuM.v, HuM.cells]
    refine ⟨fun he => by rw [hpi, if_pos he], fun he => ⟨i + 1, by omega, wrap_id (by omega) (by simp only [maxLen] at hl; omega), by omega, by rw [hpi, if_neg (by simp [he])]⟩⟩
  · have : l.drop i = [] := List.drop_eq_nil_of_le hge
    rw [hpi, this]; rfl
def spanHu (x : HuM) : Int := spanErr (x.lo, x.hi) 1 1000000
def rangeHu (x : HuM) : Bool := !insF x.kind 1 5 || !insF x.first 0 40 || !insF x.last 0 40 || spanHu x == 7
def repG (on : List ByteArray) : List ByteArray → Nat → Bool
  | [], _ => false
  | n :: r, i => decide (0 ≤ placeF (on.take i) n 0) || repG on r (i + 1)
def atF (l : List HuM) (n : ByteArray) : HuM := l.getD (findF l n).toNat ⟨.empty, 0, 0, 0, [], 0, 0⟩
def meetR (a b : HuM) : Bool := decide (max a.first b.first ≤ min a.last b.last)
def partHF (mt : HuM → HuM → Bool) (x : HuM) (before others : List HuM) : Int :=
  if nameF x.name = false then 6
  else if 0 ≤ findF others x.name then 5
  else if rangeHu x then 7
  else if x.last < x.first ∨ spanHu x ≠ 0 then 2
  else if x.on.any (fun n => decide (findF before n < 0)) then 4
  else if repG x.on x.on 0 then 5
  else if x.on.any (fun n => !mt x (atF before n)) then 9 else 0
theorem idxF_lt {α : Type} (p : α → Bool) : ∀ (l : List α) (i : Nat), 0 ≤ idxF p l i → ∃ j, idxF p l i = i + (j : Nat) ∧ j < l.length
  | [], i, h => by simp [idxF] at h
  | a :: r, i, h => by
    simp only [idxF] at h ⊢
    by_cases hp : p a = true
    · rw [if_pos hp]; exact ⟨0, by simp, by simp⟩
    · rw [if_neg hp] at h ⊢
      obtain ⟨j, h1, h2⟩ := idxF_lt p r (i + 1) h
      exact ⟨j + 1, by rw [h1]; push_cast; omega, by simp; omega⟩
theorem findF_lt {l : List HuM} {n : ByteArray} (h : 0 ≤ findF l n) : ∃ j, findF l n = (j : Nat) ∧ j < l.length := by
  obtain ⟨j, h1, h2⟩ := idxF_lt _ l 0 h
  exact ⟨j, by simpa [findF] using h1, h2⟩
theorem r01_Part_spec (x : HuM) (before others : List HuM) (hb : before.length ≤ maxLen) (ho : others.length ≤ maxLen) (hn : x.on.length ≤ maxLen) (σ : AHeap) :
    Spec Tryz.prog F_r01_Part [x.v, .slice 7 (before.map HuM.v), .slice 7 (others.map HuM.v)] σ fun r σ' => r = .ret (ii' (partHF meetR x before others)) ∧ σ' = σ := by
  refine Spec.pureFn (spec_r01_Part (by simp) (awpC_sound _ ?_)) (by simp [HuM.pure, pures_map (f := HuM.v) (fun p => p.pure)]) rfl σ
  simp [C_r01_Part, HuM.v, HuM.cells]
  refine (tf (nameF x.name)).elim (fun h1 => ?_) (fun h1 => ?_)
  · refine CallK.pureE B_r01_Name (r01_Name_spec x.name _) (congrArg AVal.bool h1) ?_
    simp [partHF, h1]
  refine CallK.pureE B_r01_Name (r01_Name_spec x.name _) (congrArg AVal.bool h1) ?_
  simp
  refine CallK.pure B_r01_find (r01_find_spec others x.name ho _) ?_
  simp
  refine ⟨fun h2 => by simp [partHF, h1, h2], fun h2 => ?_⟩
  refine CallK.pure B_r01_Range (r01_Range_spec x.lo x.hi 1 1000000 _) ?_
  simp
  refine (tf (insF x.kind 1 5)).elim (fun h3 => ?_) (fun h3 => ?_)
  · refine CallK.pureE B_r01_within (r01_within_spec x.kind 1 5 _) (congrArg AVal.bool h3) ?_
    simp
    simp [partHF, h1, h2, rangeHu, h3]
  refine CallK.pureE B_r01_within (r01_within_spec x.kind 1 5 _) (congrArg AVal.bool h3) ?_
  simp
  refine (tf (insF x.first 0 40)).elim (fun h4 => ?_) (fun h4 => ?_)
  · refine CallK.pureE B_r01_within (r01_within_spec x.first 0 40 _) (congrArg AVal.bool h4) ?_
    simp
    simp [partHF, h1, h2, rangeHu, h3, h4]
  refine CallK.pureE B_r01_within (r01_within_spec x.first 0 40 _) (congrArg AVal.bool h4) ?_
  simp
  refine (tf (insF x.last 0 40)).elim (fun h5 => ?_) (fun h5 => ?_)
  · refine CallK.pureE B_r01_within (r01_within_spec x.last 0 40 _) (congrArg AVal.bool h5) ?_
    simp
    simp [partHF, h1, h2, rangeHu, h3, h4, h5]
  refine CallK.pureE B_r01_within (r01_within_spec x.last 0 40 _) (congrArg AVal.bool h5) ?_
  simp
  refine ⟨fun h6 => by simp [partHF, h1, h2, rangeHu, h3, h4, h5, spanHu, h6], fun h6 => ⟨fun h7 => ?_, fun h7 h8 => ?_⟩⟩
  · have : x.last < x.first ∨ spanHu x ≠ 0 := h7
    simp [partHF, h1, rangeHu, h3, h4, h5, this]
    simp [spanHu, h6, h2]
  have hp : partHF meetR x before others = if x.on.any (fun n => decide (findF before n < 0)) then 4 else if repG x.on x.on 0 then 5 else if x.on.any (fun n => !meetR x (atF before n)) then 9 else 0 := by
    have e1 : ¬ (x.last < x.first ∨ spanHu x ≠ 0) := by simp only [spanHu, h8]; omega
    have e2 : rangeHu x = false := by simp [rangeHu, h3, h4, h5, spanHu, h6]
    simp only [partHF, h1, e2]
    rw [if_neg (by simp), if_neg (by omega), if_neg (by simp), if_neg e1]
  refine AW.loop (ι := Nat) (fun i fr σ => fr = { v := [(1, .slice 7 (before.map HuM.v)), (3, .pval (.agg [.str x.name, ii' x.kind, ii' x.first, ii' x.last, .slice 1 (x.on.map .str), ii' x.lo, ii' x.hi])), (8, .int .i64 i)], ds := [] } ∧ σ = [] ∧ i ≤ x.on.length ∧ x.on.any (fun n => decide (findF before n < 0)) = (x.on.drop i).any (fun n => decide (findF before n < 0))) (fun i => x.on.length - i) 0 (by simp) ?_
  rintro i fr σ ⟨rfl, rfl, hi, hpi⟩
  refine awpC_sound _ ?_
  simp
  refine ⟨fun hlt => ?_, fun hge => ?_⟩
  · have hd : x.on.drop i = x.on[i] :: x.on.drop (i + 1) := List.drop_eq_getElem_cons hlt
    rw [hd] at hpi
    simp only [List.any_cons] at hpi
    obtain ⟨n, hn'⟩ : ∃ n, x.on[i] = n := ⟨_, rfl⟩
    rw [hn'] at hpi
    simp [hlt, hn']
    refine CallK.pure B_r01_find (r01_find_spec before n hb _) ?_
    simp [hlt, hn']
    refine ⟨fun h => ?_, fun h => ⟨i + 1, by omega, wrap_id (by omega) (by simp only [maxLen] at hn; omega), by omega, ?_⟩⟩
    · rw [hp, hpi]; simp [h]
    · rw [hpi]; simp; omega
  have hz : x.on.drop i = [] := List.drop_eq_nil_of_le hge
  rw [hz] at hpi
  have hp2 : partHF meetR x before others = if repG x.on x.on 0 then 5 else if x.on.any (fun n => !meetR x (atF before n)) then 9 else 0 := by rw [hp, if_neg (by rw [hpi]; simp)]
  have hpos : ∀ n ∈ x.on, 0 ≤ findF before n := by
    intro n hm
    have := hpi
    simp only [List.any_nil, List.any_eq_false, decide_eq_true_eq] at this
    have := this n hm
    omega
  refine AW.loop (ι := Nat) (fun i fr σ => fr = { v := [(1, .slice 7 (before.map HuM.v)), (3, .pval (.agg [.str x.name, ii' x.kind, ii' x.first, ii' x.last, .slice 1 (x.on.map .str), ii' x.lo, ii' x.hi])), (9, .int .i64 i)], ds := [] } ∧ σ = [] ∧ i ≤ x.on.length ∧ repG x.on x.on 0 = repG x.on (x.on.drop i) i) (fun i => x.on.length - i) 0 (by simp) ?_
  rintro i fr σ ⟨rfl, rfl, hi, hpi⟩
  refine awpC_sound _ ?_
  simp
  refine ⟨fun hlt => ?_, fun hge => ?_⟩
  · have hd : x.on.drop i = x.on[i] :: x.on.drop (i + 1) := List.drop_eq_getElem_cons hlt
    rw [hd] at hpi
    simp only [repG] at hpi
    obtain ⟨n, hn'⟩ : ∃ n, x.on[i] = n := ⟨_, rfl⟩
    rw [hn'] at hpi
    simp [hlt, hn']
    have hq := fun σ' => r01_Place_spec (x.on.take i) n (by simp; omega) σ'
    rw [List.map_take] at hq
    refine ⟨by omega, .int .i64 (placeF (x.on.take i) n 0), fun σ' => CallV.func B_r01_Place (hq σ'), ?_⟩
    simp
    refine ⟨fun h => ?_, fun h => ⟨i + 1, by omega, wrap_id (by omega) (by simp only [maxLen] at hn; omega), by omega, ?_⟩⟩
    · rw [hp2, hpi]; simp [h]
    · rw [hpi]; simp; omega
  have hz : x.on.drop i = [] := List.drop_eq_nil_of_le hge
  rw [hz] at hpi
  have hp3 : partHF meetR x before others = if x.on.any (fun n => !meetR x (atF before n)) then 9 else 0 := by rw [hp2, if_neg (by rw [hpi]; simp [repG])]
  refine AW.loop (ι := Nat) (fun i fr σ => fr = { v := [(1, .slice 7 (before.map HuM.v)), (3, .pval (.agg [.str x.name, ii' x.kind, ii' x.first, ii' x.last, .slice 1 (x.on.map .str), ii' x.lo, ii' x.hi])), (10, .int .i64 i)], ds := [] } ∧ σ = [] ∧ i ≤ x.on.length ∧ x.on.any (fun n => !meetR x (atF before n)) = (x.on.drop i).any (fun n => !meetR x (atF before n))) (fun i => x.on.length - i) 0 (by simp) ?_
  rintro i fr σ ⟨rfl, rfl, hi, hpi⟩
  refine awpC_sound _ ?_
  simp
  refine ⟨fun hlt => ?_, fun hge => ?_⟩
  · have hd : x.on.drop i = x.on[i] :: x.on.drop (i + 1) := List.drop_eq_getElem_cons hlt
    rw [hd] at hpi
    simp only [List.any_cons] at hpi
    obtain ⟨n, hn'⟩ : ∃ n, x.on[i] = n := ⟨_, rfl⟩
    have h0 := hpos n (hn' ▸ List.getElem_mem _)
    rw [hn'] at hpi
    simp [hlt, hn']
    obtain ⟨j, hj1, hj2⟩ := findF_lt h0
    refine ⟨.int .i64 (findF before n), fun σ' => CallV.func B_r01_find (r01_find_spec before n hb σ'), ?_⟩
    have hat : atF before n = before[j] := by simp [atF, hj1, hj2]
    obtain ⟨y, hy⟩ : ∃ y, before[j] = y := ⟨_, rfl⟩
    rw [hat, hy] at hpi
    simp [hj1, hj2, hy, HuM.v, HuM.cells]
    refine ⟨.bool (meetR x y), fun σ' => CallV.func B_r01_meet (r01_meet_spec x y σ'), ?_⟩
    simp
    refine ⟨fun h => ?_, fun h => ⟨i + 1, by omega, wrap_id (by omega) (by simp only [maxLen] at hn; omega), by omega, ?_⟩⟩
    · rw [hp3, hpi]; simp [h]
    · rw [hpi]; simp [h]
  have hz : x.on.drop i = [] := List.drop_eq_nil_of_le hge
  rw [hz] at hpi
  rw [hp3, hpi]; rfl
end Go.AM
namespace Go.AM
open Go.Proofs
set_option maxRecDepth 100000
set_option maxHeartbeats 1000000
def partsE (all : List PartM) : List PartM → Nat → Int × Int × Int
  | [], _ => (0, 0, 0)
  | x :: r, i =>
    if nameF x.name = false then (2, i, 6)
    else if (all.take i).any (fun y => y.name.toList == x.name.toList) then (2, i, 5)
    else if partE x ≠ 0 then (2, i, partE x) else partsE all r (i + 1)
def checkF (h : HullM) : Int × Int × Int :=
  if beyondF 1 10 [(h.ps.length : Int)] then (1, 0, 3) else if beyondF 0 5000 [h.aft, h.fore] then (1, 0, 7) else if h.fore ≤ h.aft then (1, 0, 2) else partsE h.ps h.ps 0
def tripV (x : Int × Int × Int) : AVal := .tup [ii' x.1, ii' x.2.1, ii' x.2.2]
theorem stand_Check_spec (h : HullM) (hl : h.ps.length ≤ maxLen) (σ : AHeap) : Spec Tryz.prog F_stand_Check [h.v] σ fun r σ' => r = .ret (tripV (checkF h)) ∧ σ' = σ := by
  refine Spec.pureFn (spec_stand_Check (by simp) (awpC_sound _ ?_)) (by simp [h.pure]) rfl σ
  simp [C_stand_Check, HullM.v, HullM.cells]
  refine (tf (beyondF 1 10 [(h.ps.length : Int)])).elim (fun h1 => ?_) (fun h1 => ?_)
  rotate_left
  · refine CallK.pureE B_stand_beyond (stand_beyond_spec 1 10 [(h.ps.length : Int)] (by simp [maxLen]) _) (congrArg AVal.bool h1) ?_
    simp [checkF, h1, tripV]
  refine CallK.pureE B_stand_beyond (stand_beyond_spec 1 10 [(h.ps.length : Int)] (by simp [maxLen]) _) (congrArg AVal.bool h1) ?_
  simp
  refine (tf (beyondF 0 5000 [h.aft, h.fore])).elim (fun h2 => ?_) (fun h2 => ?_)
  rotate_left
  · refine CallK.pureE B_stand_beyond (stand_beyond_spec 0 5000 [h.aft, h.fore] (by simp [maxLen]) _) (congrArg AVal.bool h2) ?_
    simp [checkF, h1, h2, tripV]
  refine CallK.pureE B_stand_beyond (stand_beyond_spec 0 5000 [h.aft, h.fore] (by simp [maxLen]) _) (congrArg AVal.bool h2) ?_
  simp
  refine ⟨fun h3 => by simp [checkF, h1, h2, h3, tripV], fun h3 => ?_⟩
  have hc : checkF h = partsE h.ps h.ps 0 := by simp only [checkF, h1, h2]; rw [if_neg (by simp), if_neg (by simp), if_neg (by omega)]
  rw [hc]
  refine AW.loop (ι := Nat) (fun i fr σ => fr = { v := [(1, .pval (.agg [.slice 7 (h.ps.map PartM.v), ii' h.aft, ii' h.fore])), (27, .slice 7 (h.ps.map PartM.v)), (28, .int .i64 h.ps.length), (29, .int .i64 i)], ds := [] } ∧ i ≤ h.ps.length ∧ partsE h.ps h.ps 0 = partsE h.ps (h.ps.drop i) i) (fun i => h.ps.length - i) 0 (by simp) ?_
  rintro i fr σ ⟨rfl, hi, hp⟩
  refine awpC_sound _ ?_
  simp
  refine ⟨fun hlt => ?_, fun hge => ?_⟩
  · have hd : h.ps.drop i = h.ps[i] :: h.ps.drop (i + 1) := List.drop_eq_getElem_cons hlt
    rw [hd] at hp
    simp only [partsE] at hp
    rw [hp]
    generalize hx : h.ps[i] = x at *
    simp [hlt, hx, PartM.v, PartM.cells]
    refine (tf (nameF x.name)).elim (fun h4 => ?_) (fun h4 => ?_)
    · refine CallK.pureE B_hull_Name (hull_Name_spec x.name _) (congrArg AVal.bool h4) ?_
      simp [h4, tripV]
    refine CallK.pureE B_hull_Name (hull_Name_spec x.name _) (congrArg AVal.bool h4) ?_
    simp [h4, hlt, hx, hi, PartM.v, PartM.cells]
    have hcl := fun σ => slices_ContainsFunc_St_spec F_stand_Check_1 [.pval x.v] rfl (fun y => y.name.toList == x.name.toList) (h.ps.take i) (by simp; omega) (fun y _ => PureF.fn B_stand_Check_1 (fun σ => stand_Check_1_spec y x σ)) σ
    rw [List.map_take] at hcl
    refine (tf ((h.ps.take i).any fun y => y.name.toList == x.name.toList)).elim (fun h5 => ?_) (fun h5 => ?_)
    rotate_left
    · refine CallK.pureE B_slices_ContainsFunc_api_StPart_api_StPart (hcl _) (congrArg AVal.bool h5) ?_
      simp only [h5, if_true]
      simp [tripV, h4]
    refine CallK.pureE B_slices_ContainsFunc_api_StPart_api_StPart (hcl _) (congrArg AVal.bool h5) ?_
    simp only [h5]
    simp [hlt, hx, PartM.v, PartM.cells]
    refine CallK.pure B_stand_check (stand_check_spec x _) ?_
    refine (Classical.em (partE x = 0)).elim (fun h6 => ?_) (fun h6 => ?_)
    · simp [h6]
      exact ⟨i + 1, by omega, wrap_id (by omega) (by simp only [maxLen] at hl; omega), by omega, by simp [h4]⟩
    · simp [h4, h6, tripV]
  · have : h.ps.drop i = [] := List.drop_eq_nil_of_le hge
    rw [hp, this]; rfl
end Go.AM
namespace Go.AM
open Go.Proofs
set_option maxRecDepth 100000
set_option maxHeartbeats 1000000
def shipE (mt : HuM → HuM → Bool) (all : List HuM) : List HuM → Nat → Int × Int × Int
  | [], _ => (0, 0, 0)
  | x :: r, i => if partHF mt x (all.take i) (all.take i) ≠ 0 then (1, i, partHF mt x (all.take i) (all.take i)) else shipE mt all r (i + 1)
def shipC (mt : HuM → HuM → Bool) (ps : List HuM) : Int × Int × Int := if 12 < ps.length then (1, 0, 3) else shipE mt ps ps 0
def okHu (ps : List HuM) : Prop := ps.length ≤ maxLen ∧ ∀ x ∈ ps, x.on.length ≤ maxLen
theorem r01_Check_spec (ps : List HuM) (hok : okHu ps) (σ : AHeap) :
    Spec Tryz.prog F_r01_Check [.agg [.slice 7 (ps.map HuM.v), .slice 10 []]] σ fun r σ' => r = .ret (tripV (shipC meetR ps)) ∧ σ' = σ := by
  obtain ⟨hl, hon⟩ := hok
  refine Spec.pureFn (spec_r01_Check (by simp) (awpC_sound _ ?_)) (by simp [AVal.pure, pures, pures_map (f := HuM.v) (fun p => p.pure) ps]) (by simp [tripV, AVal.pure, pures]) σ
  simp [C_r01_Check]
  refine ⟨fun h => by rw [shipC, if_pos (by omega)]; simp [tripV], fun h => ?_⟩
  have hc : shipC meetR ps = shipE meetR ps ps 0 := by rw [shipC, if_neg (by omega)]
  refine AW.loop (ι := Nat) (fun i fr σ => fr = { v := [(1, .pval (.agg [.slice 7 (ps.map HuM.v), .slice 10 []])), (5, .slice 7 (ps.map HuM.v)), (6, .int .i64 i)], ds := [] } ∧ σ = [] ∧ i ≤ ps.length ∧ shipC meetR ps = shipE meetR ps (ps.drop i) i) (fun i => ps.length - i) 0 (by simp [hc]) ?_
  rintro i fr σ ⟨rfl, rfl, hi, hpi⟩
  refine awpC_sound _ ?_
  simp
  refine ⟨fun hlt => ?_, fun hge => ?_⟩
  · have hd : ps.drop i = ps[i] :: ps.drop (i + 1) := List.drop_eq_getElem_cons hlt
    rw [hd] at hpi
    simp only [shipE] at hpi
    obtain ⟨x, hx⟩ : ∃ x, ps[i] = x := ⟨_, rfl⟩
    have hxo := hon x (hx ▸ List.getElem_mem _)
    rw [hx] at hpi
    have hq := fun σ' => r01_Part_spec x (ps.take i) (ps.take i) (by simp; omega) (by simp; omega) hxo σ'
    rw [List.map_take] at hq
    simp [hlt, hx, HuM.v, HuM.cells]
    refine ⟨by omega, ii' (partHF meetR x (ps.take i) (ps.take i)), fun σ' => CallV.func B_r01_Part (hq σ'), ?_⟩
    simp
    refine ⟨fun h => ?_, fun h => ⟨i + 1, by omega, wrap_id (by omega) (by simp only [maxLen] at hl; omega), by omega, ?_⟩⟩
    · rw [hpi, if_pos h]; simp [tripV]
    · rw [hpi, if_neg (by simp [h])]
  have hz : ps.drop i = [] := List.drop_eq_nil_of_le hge
  rw [hz] at hpi
  refine AW.loop (ι := Nat) (fun _ fr σ => fr = { v := [(1, .pval (.agg [.slice 7 (ps.map HuM.v), .slice 10 []])), (5, .slice 7 (ps.map HuM.v)), (8, .int .i64 0), (9, .int .i64 0)], ds := [] } ∧ σ = []) (fun _ => 0) 0 (by simp) ?_
  rintro _ fr σ ⟨rfl, rfl⟩
  refine awpC_sound _ ?_
  simp
  rw [hpi]
  simp [shipE, tripV]
end Go.AM
