/- The sort of a short list of numbers, in place. The double numbers of a sorted list are left out, in place. -/
import Derived.Test.YtmgbkmobhjjkiaaP1
namespace Go.AM
open Go.Proofs
set_option maxRecDepth 100000
set_option maxHeartbeats 1000000

theorem cmp_isNaN_int_spec (n : Int) (σ : AHeap) : Spec Try.prog 115 [ii' n] σ fun r σ' => r = .ret (.bool false) ∧ σ' = σ := by
  refine Spec.pureFn (spec_cmp_isNaN_int (by simp) (awpC_sound _ ?_)) rfl rfl σ
  simp [C_cmp_isNaN_int]
theorem cmp_Less_int_spec (a b : Int) (σ : AHeap) : Spec Try.prog F_cmp_Less_int [ii' a, ii' b] σ fun r σ' => r = .ret (.bool (decide (a < b))) ∧ σ' = σ := by
  refine Spec.pureFn (spec_cmp_Less_int (by simp) (awpC_sound _ ?_)) rfl rfl σ
  simp [C_cmp_Less_int]
  refine CallK.pure B_cmp_isNaN_int (cmp_isNaN_int_spec _ _) ?_
  simp

def intsV (l : List Int) : AObj := .arr 1 (l.map ii')

theorem insertion_spec (b : Nat) (l : List Int) (hn : l.length ≤ 12) (σ : AHeap) (hb : b < σ.length) (hx : σ[b]? = some (intsV l)) :
    Spec Try.prog F_slices_insertionSortOrdered_int [.sref 1 b 0 l.length l.length, ii' 0, ii' l.length] σ fun r σ' => r = .ret (.tup []) ∧ ∃ l', l'.Perm l ∧ l'.Pairwise (· ≤ ·) ∧ σ' = σ.set b (intsV l') := by
  refine spec_slices_insertionSortOrdered_int (by simp) (awpC_sound _ ?_)
  simp [C_slices_insertionSortOrdered_int]
  refine AW.loop (ι := Nat) (fun i fr σ1 => fr = { v := [(0, .sref 1 b 0 l.length l.length), (1, ii' 0), (2, ii' l.length), (6, .int .i64 i)], ds := [] } ∧ 1 ≤ i ∧ ∃ ds : List Int, ds.Perm l ∧ (ds.take i).Pairwise (· ≤ ·) ∧ σ1 = σ.set b (intsV ds)) (fun i => l.length - i) 1 ⟨by simp; decide, by omega, l, .refl _, ?_, ?_⟩ ?_
  · cases l with
    | nil => simp
    | cons a r => simp
  · obtain ⟨h1, h2⟩ := List.getElem?_eq_some_iff.1 hx
    rw [← h2]; simp
  rintro i fr σ1 ⟨rfl, hi, ds, hp, hs, rfl⟩
  have hlen : ds.length = l.length := hp.length_eq
  refine (Nat.lt_or_ge i l.length).elim (fun hlt => ?_) (fun hge => ?_)
  rotate_left
  · have hnl : ¬ i < l.length := by omega
    refine awpC_sound _ ?_
    simp [hnl]
    exact ⟨ds, hp, by rw [List.take_of_length_le (by omega)] at hs; exact hs, rfl⟩
  refine awpC_sound _ ?_
  simp [hlt]
  refine AW.loop (ι := Nat) (fun j fr σ1 => fr = { v := [(0, .sref 1 b 0 l.length l.length), (1, ii' 0), (2, ii' l.length), (6, .int .i64 i), (7, .int .i64 j)], ds := [] } ∧
    ∃ (A B C : List Int) (x : Int), A.length = j ∧ A.length + B.length = i ∧ (A ++ x :: B ++ C).Perm l ∧ (A ++ B).Pairwise (· ≤ ·) ∧ (∀ y ∈ B, x ≤ y) ∧ σ1 = σ.set b (intsV (A ++ x :: B ++ C))) (fun j => j) i ⟨by simp, ds.take i, [], ds.drop (i + 1), ds[i]'(by omega), ?_⟩ ?_
  · have hd : ds = ds.take i ++ ds[i]'(by omega) :: ds.drop (i + 1) := by rw [List.getElem_cons_drop]; simp
    refine ⟨by simp; omega, by simp; omega, ?_, by simpa using hs, by simp, ?_⟩
    · simp; exact hp
    · simp
  rintro j fr σ1 ⟨rfl, A, B, C, x, hj, hAB, hperm, hsort, hB, rfl⟩
  have hlen2 : A.length + (1 + B.length + C.length) = l.length := by have := hperm.length_eq; simp at this; omega
  have hAc : A = [] ∨ ∃ A' y, A = A' ++ [y] := (List.eq_nil_or_concat A).elim .inl fun ⟨A', y, h⟩ => .inr ⟨A', y, by simpa using h⟩
  rcases hAc with rfl | ⟨A', y, rfl⟩
  · simp at hj
    subst hj
    refine awpC_sound _ ?_
    simp
    refine ⟨.bool false, ?_⟩
    simp
    simp at hAB
    refine ⟨i + 1, by omega, wrap_id (by omega) (by omega), by omega, x :: (B ++ C), by simpa using hperm, ?_, rfl⟩
    rw [show x :: (B ++ C) = (x :: B) ++ C from rfl, List.take_left' (by simp; omega)]
    exact List.pairwise_cons.2 ⟨hB, by simpa using hsort⟩
  · simp at hj
    subst hj
    obtain ⟨k, hk⟩ : ∃ k, A'.length = k := ⟨_, rfl⟩
    obtain ⟨D, hD⟩ : ∃ D, A' ++ [y] ++ x :: B ++ C = D := ⟨_, rfl⟩
    rw [hD]
    simp at hlen2
    have hk1 : k + 1 < l.length := by omega
    have hDl : D.length = l.length := by rw [← hD]; exact hperm.length_eq
    have hx0 : D[k + 1]? = some x := by rw [← hD, ← hk]; simp
    have hy0 : D[k]? = some y := by rw [← hD, ← hk]; simp
    have hx1 : D[k + 1]'(by omega) = x := Option.some.inj ((List.getElem?_eq_getElem (by omega)).symm.trans hx0)
    have hy1 : D[k]'(by omega) = y := Option.some.inj ((List.getElem?_eq_getElem (by omega)).symm.trans hy0)
    have hset : ((D.map ii').set (k + 1) (ii' y)).set k (ii' x) = A'.map ii' ++ ii' x :: (ii' y :: B.map ii' ++ C.map ii') := by
      rw [← hD, ← hk]
      simp
    have hle : ∀ a ∈ A' ++ [y], a ≤ y := fun a ha => by
      rcases List.mem_append.1 ha with h | h
      · rw [List.append_assoc] at hsort
        exact (List.pairwise_append.1 hsort).2.2 a h y (by simp)
      · simp at h; omega
    have hw : IntKind.i64.wrap (k : Int) = k := wrap_id (by omega) (by omega)
    have q1 : 0 ≤ (k : Int) + 1 := by omega
    have q2 : (k : Int) + 1 < l.length := by omega
    have q3 : (k : Int) < l.length := by omega
    have q4 : k < l.length := by omega
    rw [hk]
    refine awpC_sound _ ?_
    simp [hb, intsV, hx1, hy1, hw, hk1, hDl, q1, q2, q3, q4]
    refine ⟨.bool (decide (x < y)), fun σ' => CallV.func B_cmp_Less_int (cmp_Less_int_spec x y σ'), ?_⟩
    simp
    simp at hAB
    refine ⟨fun h1 => ⟨k, by omega, rfl, A', hk, y :: B, by simp; omega, C, x, ?_, ?_, ?_, ?_⟩, fun h1 => ⟨i + 1, by omega, wrap_id (by omega) (by omega), by omega, D, ?_, ?_, rfl⟩⟩
    · refine List.Perm.trans ?_ hperm
      simp
      refine List.Perm.append_left _ ?_
      exact List.Perm.swap _ _ _
    · simpa using hsort
    · intro z hz
      rcases List.mem_cons.1 hz with rfl | hz
      · omega
      · exact hB z hz
    · congr 2
    · rw [← hD]; exact hperm
    · rw [← hD, show A' ++ [y] ++ x :: B ++ C = (A' ++ [y] ++ x :: B) ++ C from rfl, List.take_left' (by simp; omega)]
      refine List.pairwise_append.2 ⟨(List.pairwise_append.1 hsort).1, List.pairwise_cons.2 ⟨hB, (List.pairwise_append.1 hsort).2.1⟩, fun a ha c hc => ?_⟩
      rcases List.mem_cons.1 hc with rfl | hc
      · have := hle a ha; omega
      · exact (List.pairwise_append.1 hsort).2.2 a ha c hc

theorem math_bits_Len64_spec (n : Nat) (hn : n ≤ 12) : ∃ k, ∀ σ, Spec Try.prog 109 [.int .u64 n] σ fun r σ' => r = .ret (ii' k) ∧ σ' = σ := by
  refine ⟨if n = 0 then 0 else if n = 1 then 1 else if n ≤ 3 then 2 else if n ≤ 7 then 3 else 4, fun σ => ?_⟩
  refine Spec.pureFn (spec_math_bits_Len64 (by simp) (awpC_sound _ ?_)) rfl rfl σ
  have h1 : ¬ (4294967296 : Int) ≤ n := by omega
  have h2 : ¬ (65536 : Int) ≤ n := by omega
  have h3 : ¬ (256 : Int) ≤ n := by omega
  simp [C_math_bits_Len64, h1, h2, h3]
  rcases (by omega : n = 0 ∨ n = 1 ∨ n = 2 ∨ n = 3 ∨ n = 4 ∨ n = 5 ∨ n = 6 ∨ n = 7 ∨ n = 8 ∨ n = 9 ∨ n = 10 ∨ n = 11 ∨ n = 12) with h | h | h | h | h | h | h | h | h | h | h | h | h <;> subst h <;> decide +kernel

theorem math_bits_Len_spec (n : Nat) (hn : n ≤ 12) : ∃ k, ∀ σ, Spec Try.prog F_math_bits_Len [.int .u64 n] σ fun r σ' => r = .ret (ii' k) ∧ σ' = σ := by
  obtain ⟨k, hk⟩ := math_bits_Len64_spec n hn
  refine ⟨k, fun σ => Spec.pureFn (spec_math_bits_Len (by simp) (awpC_sound _ ?_)) rfl rfl σ⟩
  simp [C_math_bits_Len]
  refine CallK.pure B_math_bits_Len64 (hk _) ?_
  simp

theorem CallK.spec {P : Program} {f : FuncId} (hb : hasBody P f = true) {args : List AVal} {σ : AHeap} {Q : ARes → AHeap → Prop} {K Kp : AVal → AHeap → Prop} (hs : Spec P f args σ Q) (h : ∀ r σ', Q r σ' → ∃ v, r = .ret v ∧ K v σ') :
    @CallK P (.func (.func f) [] []) args σ ⟨K⟩ ⟨Kp⟩ :=
  CallV.func hb (by simpa using hs.mono fun r σ' hq => by obtain ⟨v, rfl, hk⟩ := h r σ' hq; exact hk)

theorem pdq_spec (b : Nat) (l : List Int) (hn : l.length ≤ 12) (k : Int) (σ : AHeap) (hb : b < σ.length) (hx : σ[b]? = some (intsV l)) :
    Spec Try.prog F_slices_pdqsortOrdered_int [.sref 1 b 0 l.length l.length, ii' 0, ii' l.length, ii' k] σ fun r σ' => r = .ret (.tup []) ∧ ∃ l', l'.Perm l ∧ l'.Pairwise (· ≤ ·) ∧ σ' = σ.set b (intsV l') := by
  refine spec_slices_pdqsortOrdered_int (by simp) (awpC_sound _ ?_)
  simp [C_slices_pdqsortOrdered_int]
  refine AW.loop (ι := Nat) (fun i fr σ1 => fr = { v := [(0, .sref 1 b 0 l.length l.length), (1, ii' 0), (2, ii' l.length), (3, ii' k), (8, .bool true), (9, .bool true)], ds := [] } ∧ σ1 = σ) (fun i => i) 0 ⟨by simp, rfl⟩ ?_
  rintro i fr σ1 ⟨rfl, rfl⟩
  have hw : IntKind.i64.wrap (l.length : Int) = l.length := wrap_id (by omega) (by omega)
  have hn' : (l.length : Int) ≤ 12 := by omega
  refine awpC_sound _ ?_
  simp [hw, hn']
  refine CallK.spec B_slices_insertionSortOrdered_int (insertion_spec b l hn σ1 hb hx) ?_
  rintro r σ' ⟨rfl, l', h1, h2, rfl⟩
  exact ⟨_, rfl, by simp; exact ⟨l', h1, h2, rfl⟩⟩

theorem sort_spec (b : Nat) (l : List Int) (hn : l.length ≤ 12) (σ : AHeap) (hb : b < σ.length) (hx : σ[b]? = some (intsV l)) :
    Spec Try.prog F_slices_Sort_int_int [.sref 1 b 0 l.length l.length] σ fun r σ' => r = .ret (.tup []) ∧ ∃ l', l'.Perm l ∧ l'.Pairwise (· ≤ ·) ∧ σ' = σ.set b (intsV l') := by
  obtain ⟨k, hk⟩ := math_bits_Len_spec l.length hn
  refine spec_slices_Sort_int_int (by simp) (awpC_sound _ ?_)
  have hw : IntKind.u64.wrap (l.length : Int) = l.length := by rw [IntKind.wrap_u64]; omega
  simp [C_slices_Sort_int_int, hw]
  refine CallK.pure B_math_bits_Len (hk _) ?_
  simp
  refine CallK.spec B_slices_pdqsortOrdered_int (pdq_spec b l hn k σ hb hx) ?_
  rintro r σ' ⟨rfl, l', h1, h2, rfl⟩
  exact ⟨_, rfl, by simp; exact ⟨l', h1, h2, rfl⟩⟩
end Go.AM

namespace Go.AM
open Go.Proofs
set_option maxRecDepth 100000
set_option maxHeartbeats 1000000

theorem take_set_succ (ds : List Int) (k : Nat) (x : Int) (h : k < ds.length) : (ds.set k x).take (k + 1) = ds.take k ++ [x] := by
  rw [List.take_add_one, List.take_set_of_le (Nat.le_refl k)]
  simp [h]

/-- What is left: each number once. -/
def Once (l c : List Int) : Prop := c.Pairwise (· < ·) ∧ ∀ x, x ∈ c ↔ x ∈ l

theorem compact_spec (b : Nat) (l : List Int) (hn : l.length ≤ 12) (hs : l.Pairwise (· ≤ ·)) (σ : AHeap) (hb : b < σ.length) (hx : σ[b]? = some (intsV l)) :
    Spec Try.prog F_slices_Compact_int_int [.sref 1 b 0 l.length l.length] σ fun r σ' => ∃ c z, Once l c ∧ c.length ≤ l.length ∧ (c ++ z).length = l.length ∧ r = .ret (.sref 1 b 0 c.length l.length) ∧ σ' = σ.set b (intsV (c ++ z)) := by
  have hset : σ.set b (intsV l) = σ := by
    obtain ⟨h1, h2⟩ := List.getElem?_eq_some_iff.1 hx
    rw [← h2]; simp
  have hle : ∀ i j (h1 : i < j) (h2 : j < l.length), l[i] ≤ l[j] := fun i j h1 h2 => List.pairwise_iff_getElem.1 hs i j (by omega) h2 h1
  refine spec_slices_Compact_int_int (by simp) (awpC_sound _ ?_)
  refine (Nat.lt_or_ge l.length 2).elim (fun h2 => ?_) (fun h2 => ?_)
  · have h2' : (l.length : Int) < 2 := by omega
    simp [C_slices_Compact_int_int, h2']
    refine ⟨l, ?_, by omega, [], by simp, rfl, by simpa using hset.symm⟩
    refine ⟨?_, fun x => Iff.rfl⟩
    match l, h2 with
    | [], _ => simp
    | [a], _ => simp
  have h2' : ¬ (l.length : Int) < 2 := by omega
  simp [C_slices_Compact_int_int, h2']
  refine AW.loop (ι := Nat) (fun k fr σ1 => fr = { v := [(0, .sref 1 b 0 l.length l.length), (3, .int .i64 k)], ds := [] } ∧ σ1 = σ ∧ 1 ≤ k ∧ k ≤ l.length ∧ (l.take k).Pairwise (· < ·)) (fun k => l.length - k) 1 ⟨by simp, rfl, by omega, by omega, ?_⟩ ?_
  · cases l with
    | nil => simp
    | cons a r => simp
  rintro k fr σ1 ⟨rfl, rfl, hk1, hk, hlt⟩
  refine (Nat.lt_or_ge k l.length).elim (fun hkl => ?_) (fun hge => ?_)
  rotate_left
  · have hnl : ¬ k < l.length := by omega
    refine awpC_sound _ ?_
    simp [hnl]
    exact ⟨l, ⟨by rwa [List.take_of_length_le hge] at hlt, fun x => Iff.rfl⟩, by omega, [], by simp, rfl, by simpa using hset.symm⟩
  obtain ⟨m, rfl⟩ : ∃ m, k = m + 1 := ⟨k - 1, by omega⟩
  obtain ⟨x, hxk⟩ : ∃ x, l[m + 1]'hkl = x := ⟨_, rfl⟩
  obtain ⟨y, hyk⟩ : ∃ y, l[m]'(by omega) = y := ⟨_, rfl⟩
  have hw : IntKind.i64.wrap (m : Int) = m := wrap_id (by omega) (by omega)
  have q1 : 0 ≤ (m : Int) + 1 := by omega
  have q2 : (m : Int) + 1 < l.length := by omega
  have q3 : (m : Int) < l.length := by omega
  have q4 : m < l.length := by omega
  have hgb : σ1[b]'hb = .arr 1 (l.map ii') := (List.getElem?_eq_some_iff.1 hx).2
  refine awpC_sound _ ?_
  simp [hb, hgb, hxk, hyk, hw, hkl, q1, q2, q3, q4]
  refine ⟨fun hxy => ⟨by omega, ?_⟩, fun hxy => ⟨m + 2, by omega, wrap_id (by omega) (by omega), by omega, by omega, ?_⟩⟩
  rotate_left
  · rw [List.take_add_one]
    refine List.pairwise_append.2 ⟨hlt, by simp, fun u hu v hv => ?_⟩
    have hv' : v = x := by simpa [hkl, hxk, eq_comm] using hv
    subst hv'
    obtain ⟨i, hi, rfl⟩ := List.mem_iff_getElem.1 hu
    have hi' : i < m + 1 := by simp at hi; omega
    rw [List.getElem_take]
    have h1 : y ≤ v := by rw [← hxk, ← hyk]; exact hle m (m + 1) (by omega) hkl
    by_cases him : i = m
    · subst him; rw [hyk]; omega
    · have := hle i m (by omega) (by omega)
      rw [hyk] at this; omega
  obtain ⟨n2, hn2⟩ : ∃ n2, l.length - (m + 1) = n2 := ⟨_, rfl⟩
  have hn2' : ((l.length : Int) - ((m : Int) + 1)).toNat = n2 := by omega
  rw [hn2']
  refine AW.loop (ι := Nat) (fun p fr σ2 => ∃ (kk : Nat) (D : List Int), fr = { v := [(0, .sref 1 b 0 l.length l.length), (3, .int .i64 kk), (4, .sref 1 b (m + 1) n2 l.length), (5, .int .i64 (p + 1))], ds := [] } ∧ σ2 = σ1.set b (intsV D) ∧ p + 1 ≤ n2 ∧ D.length = l.length ∧ kk ≤ m + 1 + p ∧
    (∀ i, m + 1 + p ≤ i → D[i]? = l[i]?) ∧ (D.take kk).Pairwise (· < ·) ∧ ∀ u, u ∈ D.take kk ↔ u ∈ l.take (m + 1 + (p + 1))) (fun p => n2 - p) 0 ⟨m + 1, l, by simp, hset.symm, by omega, rfl, by omega, fun i _ => rfl, hlt, fun u => ?_⟩ ?_
  · rw [show m + 1 + (0 + 1) = (m + 1) + 1 from rfl, List.take_add_one (i := m + 1), List.mem_append]
    have : u ∈ (l[m + 1]?).toList ↔ u = x := by rw [List.getElem?_eq_getElem hkl, hxk]; simp
    rw [this]
    refine ⟨.inl, fun h => h.elim id fun h => ?_⟩
    rw [h, hxy, List.mem_iff_getElem]
    exact ⟨m, by simp; omega, by simpa using hyk⟩
  rintro p fr σ2 ⟨kk, D, rfl, rfl, hp, hD, hkk, hsame, hsort, hmem⟩
  refine (Nat.lt_or_ge (p + 1) n2).elim (fun hpl => ?_) (fun hpg => ?_)
  · obtain ⟨u, hu⟩ : ∃ u, l[m + 1 + (p + 1)]'(by omega) = u := ⟨_, rfl⟩
    obtain ⟨v, hv⟩ : ∃ v, l[m + 1 + p]'(by omega) = v := ⟨_, rfl⟩
    have hDu : D[m + 1 + (p + 1)]'(by omega) = u := by
      have := hsame (m + 1 + (p + 1)) (by omega)
      rw [List.getElem?_eq_getElem (by omega), List.getElem?_eq_getElem (by omega), hu] at this
      exact Option.some.inj this
    have hDv : D[m + 1 + p]'(by omega) = v := by
      have := hsame (m + 1 + p) (by omega)
      rw [List.getElem?_eq_getElem (by omega), List.getElem?_eq_getElem (by omega), hv] at this
      exact Option.some.inj this
    have r0 : IntKind.i64.wrap (p : Int) = p := wrap_id (by omega) (by omega)
    have r1 : 0 ≤ (p : Int) + 1 := by omega
    have r2 : (p : Int) + 1 < n2 := by omega
    have r3 : (p : Int) < n2 := by omega
    have r4 : m + 1 + p < l.length := by omega
    have r5 : m + 1 + (p + 1) < l.length := by omega
    have r6 : kk < l.length := by omega
    have r7 : (kk : Int) < l.length := by omega
    have r8 : IntKind.i64.wrap ((p : Int) + 1 + 1) = (p : Int) + 1 + 1 := wrap_id (by omega) (by omega)
    have r9 : IntKind.i64.wrap ((kk : Int) + 1) = (kk : Int) + 1 := wrap_id (by omega) (by omega)
    have huv : v ≤ u := by rw [← hu, ← hv]; exact hle _ _ (by omega) (by omega)
    refine awpC_sound _ ?_
    simp [hb, intsV, hD, hDu, hDv, r0, r1, r2, r3, r4, r5, r6, r7, r8, r9]
    have hmax : ∀ w ∈ l.take (m + 1 + (p + 1)), w ≤ v := fun w hw' => by
      obtain ⟨i, hi, rfl⟩ := List.mem_iff_getElem.1 hw'
      have hi' : i < m + 1 + (p + 1) := by simp at hi; omega
      rw [List.getElem_take]
      by_cases him : i = m + 1 + p
      · subst him; rw [hv]; omega
      · have := hle i (m + 1 + p) (by omega) (by omega)
        rw [hv] at this; exact this
    have htk : ∀ w, w ∈ l.take (m + 1 + (p + 1 + 1)) ↔ w ∈ l.take (m + 1 + (p + 1)) ∨ w = u := fun w => by
      rw [show m + 1 + (p + 1 + 1) = (m + 1 + (p + 1)) + 1 from rfl, List.take_add_one (i := m + 1 + (p + 1)), List.mem_append]
      have : w ∈ (l[m + 1 + (p + 1)]?).toList ↔ w = u := by rw [List.getElem?_eq_getElem (by omega), hu]; simp
      rw [this]
    refine ⟨fun hne => ⟨p + 1, by omega, kk + 1, ⟨by simp, by simp⟩, D.set kk u, by rw [List.map_set], by omega, by simp [hD], by omega, fun i hi => ?_, ?_, fun w => ?_⟩, fun he => ⟨p + 1, by omega, kk, ⟨rfl, by simp⟩, D, rfl, by omega, hD, by omega, fun i hi => hsame i (by omega), hsort, fun w => ?_⟩⟩
    · rw [List.getElem?_set_ne (by omega)]; exact hsame i (by omega)
    · rw [take_set_succ D kk u (by omega)]
      refine List.pairwise_append.2 ⟨hsort, by simp, fun a ha c hc => ?_⟩
      have hc' : c = u := by simpa using hc
      subst hc'
      have := hmax a ((hmem a).1 ha)
      omega
    · rw [take_set_succ D kk u (by omega), List.mem_append, hmem, htk]
      simp
    · rw [hmem, htk]
      refine ⟨.inl, fun h => h.elim id fun h => ?_⟩
      rw [h, he, List.mem_iff_getElem]
      exact ⟨m + 1 + p, by simp; omega, by simpa using hv⟩
  · have hnl : ¬ (p : Int) + 1 < n2 := by omega
    have hkl' : (kk : Int) ≤ l.length := by omega
    refine awpC_sound _ ?_
    simp [hb, intsV, hD, hnl, hkl']
    refine ⟨D.take kk, ⟨hsort, fun u => ?_⟩, by simp; omega, List.replicate (l.length - kk) 0 ++ D.drop (kk + (l.length - kk)), by simp; omega, by simp; omega, by simp⟩
    rw [hmem, List.take_of_length_le (by omega)]
end Go.AM
