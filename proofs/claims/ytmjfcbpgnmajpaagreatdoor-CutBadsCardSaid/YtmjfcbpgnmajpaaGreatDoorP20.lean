/- Bits are counted, and why a part cannot be cut: of the program, the first three reasons. Maps of numbers; the parts of a set, one after the other: of the program. Whether what is left falls: of .. -/
import Derived.Test.YtmjfcbpgnmajpaaGreatDoorP19
namespace Go.AM
open Go.Proofs
set_option maxRecDepth 100000
set_option maxHeartbeats 1000000
abbrev un' (n : Nat) : AVal := .int .u64 (n : Int)
def tzN (s : Nat) : Nat := ((List.range 7).find? s.testBit).getD 64
def tzI (s : Nat) : Int := bshrI IntKind.u64 (IntKind.u64.wrap (bandI IntKind.u64 (s : Int) (IntKind.u64.wrap (-(s : Int))) * 285870213051353865)) 58
theorem tz_tab : ∀ s, s < 128 → 0 < s → 0 ≤ tzI s ∧ ((tabOf 1 laidTab)[(tzI s).toNat]?).map (fun p => IntKind.i64.wrap p.2) = some ((tzN s : Nat) : Int) := by decide +kernel
theorem tz64_spec (s : Nat) (hs : s < 128) (h0 : 0 < s) (σ : AHeap) : Spec Tryz.prog F_math_bits_TrailingZeros64 [un' s] σ fun r σ' => r = .ret (nn' (tzN s)) ∧ σ' = σ := by
  refine Spec.pureFn (spec_math_bits_TrailingZeros64 (by simp) (awpC_sound _ ?_)) rfl rfl σ
  simp [C_math_bits_TrailingZeros64]
  refine ⟨fun e => by omega, fun _ => ?_⟩
  obtain ⟨h1, h2⟩ := tz_tab s hs h0
  unfold tzI at h1 h2
  refine ⟨h1, ?_⟩
  obtain ⟨p, hp, h3⟩ := Option.map_eq_some_iff.1 h2
  rw [hp]
  exact h3
theorem oc64_spec (s : Nat) (hs : s < 128) (σ : AHeap) : Spec Tryz.prog F_math_bits_OnesCount64 [un' s] σ fun r σ' => r = .ret (nn' (pop s)) ∧ σ' = σ := by
  refine Spec.pureFn (spec_math_bits_OnesCount64 (by simp) (awpC_sound _ ?_)) rfl rfl σ
  simp [C_math_bits_OnesCount64]
  revert s
  decide +kernel
theorem tz_spec (s : Nat) (hs : s < 128) (h0 : 0 < s) (σ : AHeap) : Spec Tryz.prog F_math_bits_TrailingZeros [un' s] σ fun r σ' => r = .ret (nn' (tzN s)) ∧ σ' = σ := by
  refine Spec.pureFn (spec_math_bits_TrailingZeros (by simp) (awpC_sound _ ?_)) rfl rfl σ
  simp [C_math_bits_TrailingZeros]
  refine CallK.pure B_math_bits_TrailingZeros64 (tz64_spec s hs h0 _) ?_
  simp
theorem oc_spec (s : Nat) (hs : s < 128) (σ : AHeap) : Spec Tryz.prog F_math_bits_OnesCount [un' s] σ fun r σ' => r = .ret (nn' (pop s)) ∧ σ' = σ := by
  refine Spec.pureFn (spec_math_bits_OnesCount (by simp) (awpC_sound _ ?_)) rfl rfl σ
  simp [C_math_bits_OnesCount]
  refine CallK.pure B_math_bits_OnesCount64 (oc64_spec s hs _) ?_
  simp
theorem has_spec (s i : Nat) (hs : s < 128) (hi : i < 7) (σ : AHeap) : Spec Tryz.prog F_cut_set_has [nn' s, nn' i] σ fun r σ' => r = .ret (.bool (s.testBit i)) ∧ σ' = σ := by
  refine Spec.pureFn (spec_cut_set_has (by simp) (awpC_sound _ ?_)) rfl rfl σ
  have := has_i64 (s := s) (i := i) (by omega) (by omega)
  simp [C_cut_set_has, this]
structure ShipAt (t : TaskM) (n : Nat) (σ : AHeap) (es : List (AVal × AVal)) : Prop where
  above : σ[n]? = some (.arr 1 (aboveV t))
  known : σ[n + 1]? = some (.amap es)
  ship : σ[n + 2]? = some (.box (cutC t n (gasT t)))
theorem above_lt {t : TaskM} (h : t.Fit) (i : Nat) : aboveT t i < 128 := by
  unfold aboveT
  exact aboveA_lt (n := 7) (by have := h.ship7; omega) (by omega)
theorem gas_lt {t : TaskM} (h : t.Fit) : gasT t < 128 := by
  unfold gasT
  exact gasA_lt (n := 7) (by have := h.ship7; have := h.tanks; omega) (by omega)
@[simp] theorem aboveV_len (t : TaskM) : (aboveV t).length = t.ship.length := by simp [aboveV]
@[simp] theorem aboveV_getE (t : TaskM) {i : Nat} (h : i < (aboveV t).length) : (aboveV t)[i] = nn' (aboveT t i) := by simp [aboveV]
theorem gone_spec (s i : Nat) (hs : s < 128) (hi : i < 7) (p : AVal) (σ : AHeap) : Spec Tryz.prog F_cut_ship_gone [p, nn' s, nn' i] σ fun r σ' => r = .ret (.bool (!s.testBit i)) ∧ σ' = σ := by
  refine spec_cut_ship_gone (by simp) (awpC_sound _ ?_)
  simp [C_cut_ship_gone]
  refine CallK.pure B_cut_set_has (has_spec s i hs hi _) ?_
  simp
theorem nn_ne (n : Nat) : ((n : Int) != 0) = !decide (n = 0) := by
  cases n with
  | zero => rfl
  | succ k =>
    have h1 : ¬ ((k + 1 : Nat) : Int) = 0 := by omega
    have h2 : ¬ k + 1 = 0 := by omega
    simp only [h2, decide_false, Bool.not_false, bne_iff_ne, ne_eq, h1, not_false_eq_true]
theorem covered_spec {t : TaskM} (hf : t.Fit) {n : Nat} {σ : AHeap} {es : List (AVal × AVal)} (h : ShipAt t n σ es) (s i : Nat) (hs : s < 128) (hi : i < t.ship.length) :
    Spec Tryz.prog F_cut_ship_covered [.ptr (n + 2) 0, nn' s, nn' i] σ fun r σ' => r = .ret (.bool (decide (s &&& aboveT t i ≠ 0))) ∧ σ' = σ := by
  refine spec_cut_ship_covered (by simp) (awpC_sound _ ?_)
  have h1 := h.above
  have h2 := h.ship
  have h3 := and_i64 (a := s) (b := aboveT t i) (by omega) (by have := above_lt hf i; omega)
  simp [C_cut_ship_covered, h1, h2, h3, hi, nn_ne]
theorem gassed_spec {t : TaskM} (hf : t.Fit) {n : Nat} {σ : AHeap} {es : List (AVal × AVal)} (h : ShipAt t n σ es) (s : AVal) (i : Nat) (hi : i < 7) :
    Spec Tryz.prog F_cut_ship_gassed [.ptr (n + 2) 0, s, nn' i] σ fun r σ' => r = .ret (.bool ((gasT t).testBit i)) ∧ σ' = σ := by
  refine spec_cut_ship_gassed (by simp) (awpC_sound _ ?_)
  have h2 := h.ship
  simp [C_cut_ship_gassed, h2]
  refine CallK.pure B_cut_set_has (has_spec (gasT t) i (gas_lt hf) hi _) ?_
  simp
theorem all_spec {t : TaskM} (hf : t.Fit) {n : Nat} {σ : AHeap} {es : List (AVal × AVal)} (h : ShipAt t n σ es) :
    Spec Tryz.prog F_cut_ship_all [.ptr (n + 2) 0] σ fun r σ' => r = .ret (nn' (allT t)) ∧ σ' = σ := by
  refine spec_cut_ship_all (by simp) (awpC_sound _ ?_)
  have h2 := h.ship
  have h7 := hf.ship7
  have h3 := shl_i64 (i := t.ship.length) (by omega)
  have h4 : (1 : Nat) ≤ 2 ^ t.ship.length := Nat.one_le_two_pow
  have h5 : IntKind.i64.wrap (2 ^ t.ship.length - 1) = ((allT t : Nat) : Int) := by
    have h6 : ((allT t : Nat) : Int) = 2 ^ t.ship.length - 1 := by
      have e : (2 : Int) ^ t.ship.length = ((2 ^ t.ship.length : Nat) : Int) := by simp
      rw [e]; unfold allT; omega
    rw [← h6]
    exact wrap_i64 (by have := allT_lt hf; omega)
  simp [C_cut_ship_all, h2, h3, h5]
end Go.AM
namespace Go.AM
open Go.Proofs
set_option maxRecDepth 100000
set_option maxHeartbeats 1000000
/-! A map from numbers to numbers. -/
def mapN (m : List (Nat × Int)) : List (AVal × AVal) := m.map fun p => (nn' p.1, ii' p.2)
def getN (k : Nat) : List (Nat × Int) → Option Int
  | [] => none
  | p :: r => if p.1 = k then some p.2 else getN k r
def putN (k : Nat) (v : Int) : List (Nat × Int) → List (Nat × Int)
  | [] => [(k, v)]
  | p :: r => if p.1 = k then (k, v) :: r else p :: putN k v r
@[simp ↓ high] theorem keysOk_mapN (k : Int) (m : List (Nat × Int)) : keysOk .i (.int .i64 k) (mapN m) = true := by
  induction m with
  | nil => rfl
  | cons p r ih =>
    show (leafIs .i (.int .i64 k) (nn' p.1) && keysOk .i (.int .i64 k) (mapN r)) = true
    rw [ih]; rfl
theorem leafEq_nn (a b : Nat) : leafEq (nn' a) (nn' b) = decide (b = a) := by
  show ((a : Int) == (b : Int)) = _
  by_cases h : b = a
  · subst h; simp
  · have : ¬ (a : Int) = (b : Int) := by omega
    simp [h, this]
@[simp ↓ high] theorem mapGet_mapN (k : Nat) (m : List (Nat × Int)) : mapGet (.int .i64 (k : Int)) (mapN m) = (getN k m).map ii' := by
  induction m with
  | nil => rfl
  | cons p r ih =>
    show (if leafEq (nn' k) (nn' p.1) then some (ii' p.2) else mapGet (nn' k) (mapN r)) = _
    rw [leafEq_nn, getN]
    by_cases h : p.1 = k
    · simp [h]
    · rw [if_neg (by simp [h]), if_neg h]; exact ih
@[simp ↓ high] theorem mapPut_mapN (k : Nat) (v : Int) (m : List (Nat × Int)) : mapPut (.int .i64 (k : Int)) (.int .i64 v) (mapN m) = mapN (putN k v m) := by
  induction m with
  | nil => rfl
  | cons p r ih =>
    show (if leafEq (nn' k) (nn' p.1) then (nn' k, ii' v) :: mapN r else (nn' p.1, ii' p.2) :: mapPut (nn' k) (ii' v) (mapN r)) = _
    rw [leafEq_nn, putN]
    by_cases h : p.1 = k
    · simp [h]; rfl
    · rw [if_neg (by simp [h]), if_neg h]; exact congrArg _ ih
@[simp] theorem mapN_nil : mapN [] = [] := rfl
theorem getN_put (k j : Nat) (v : Int) : ∀ m : List (Nat × Int), getN j (putN k v m) = if k = j then some v else getN j m
  | [] => by simp [putN, getN]
  | p :: r => by
    rw [putN]
    by_cases h : p.1 = k
    · rw [if_pos h, getN, getN]
      by_cases h2 : k = j
      · simp [h2]
      · rw [if_neg h2, if_neg h2, if_neg (by omega)]
    · rw [if_neg h, getN, getN, getN_put k j v r]
      by_cases h2 : p.1 = j
      · rw [if_pos h2, if_pos h2, if_neg (by omega)]
      · rw [if_neg h2, if_neg h2]
def KnownOk (t : TaskM) (m : List (Nat × Int)) : Prop := ∀ k v, getN k m = some v → v = leftW t k
def ShipI (t : TaskM) (n : Nat) (σ : AHeap) : Prop := ∃ m, KnownOk t m ∧ ShipAt t n σ (mapN m)
def Memo (t : TaskM) (n : Nat) (σ σ' : AHeap) : Prop := ∃ m tl, KnownOk t m ∧ σ' = σ.set (n + 1) (.amap (mapN m)) ++ tl
theorem ShipI.len {t : TaskM} {n : Nat} {σ : AHeap} (h : ShipI t n σ) : n + 2 < σ.length := by
  obtain ⟨m, _, h⟩ := h
  exact (List.getElem?_eq_some_iff.1 h.ship).1
theorem ShipI.memo {t : TaskM} {n : Nat} {σ σ' : AHeap} (h : ShipI t n σ) (hm : Memo t n σ σ') : ShipI t n σ' := by
  have hl := h.len
  obtain ⟨m0, _, h⟩ := h
  obtain ⟨m, tl, h1, rfl⟩ := hm
  refine ⟨m, h1, ⟨?_, ?_, ?_⟩⟩
  · rw [List.getElem?_append_left (by simp; omega), List.getElem?_set_ne (by omega)]; exact h.above
  · rw [List.getElem?_append_left (by simp; omega), List.getElem?_set_self (by omega)]
  · rw [List.getElem?_append_left (by simp; omega), List.getElem?_set_ne (by omega)]; exact h.ship
theorem ShipI.app {t : TaskM} {n : Nat} {σ tl : AHeap} (h : ShipI t n σ) : ShipI t n (σ ++ tl) := by
  have hl := h.len
  obtain ⟨m, h1, h⟩ := h
  refine ⟨m, h1, ⟨?_, ?_, ?_⟩⟩
  · rw [List.getElem?_append_left (by omega)]; exact h.above
  · rw [List.getElem?_append_left (by omega)]; exact h.known
  · rw [List.getElem?_append_left (by omega)]; exact h.ship
theorem set_same {α : Type} {l : List α} {n : Nat} {x : α} (h : l[n]? = some x) : l.set n x = l := by
  obtain ⟨h1, h2⟩ := List.getElem?_eq_some_iff.1 h
  rw [← h2]; exact List.set_getElem_self h1
theorem ShipI.refl {t : TaskM} {n : Nat} {σ : AHeap} (h : ShipI t n σ) (tl : AHeap) : Memo t n σ (σ ++ tl) := by
  obtain ⟨m, h1, h⟩ := h
  exact ⟨m, tl, h1, by rw [set_same h.known]⟩
theorem Memo.trans {t : TaskM} {n : Nat} {σ σ' σ'' : AHeap} (h0 : ShipI t n σ) (h : Memo t n σ σ') (h' : Memo t n σ' σ'') : Memo t n σ σ'' := by
  have hl := h0.len
  obtain ⟨m, tl, h1, rfl⟩ := h
  obtain ⟨m', tl', h1', rfl⟩ := h'
  refine ⟨m', tl ++ tl', h1', ?_⟩
  rw [List.set_append_left _ _ (by simp; omega), List.set_set, List.append_assoc]
theorem Memo.split {t : TaskM} {n : Nat} {s tl σ' : AHeap} (h0 : ShipI t n s) (h : Memo t n (s ++ tl) σ') : ∃ m tl', KnownOk t m ∧ σ' = s.set (n + 1) (.amap (mapN m)) ++ tl ++ tl' := by
  have hl := h0.len
  obtain ⟨m, tl', h1, rfl⟩ := h
  exact ⟨m, tl', h1, by rw [List.set_append_left _ _ (by omega)]⟩
/-! The parts of a set. -/
theorem tz_lt : ∀ s, s < 128 → 0 < s → tzN s < 7 ∧ s.testBit (tzN s) = true := by decide
theorem tz_below : ∀ s, s < 128 → 0 < s → ∀ j, j < 7 → s.testBit j = true → tzN s ≤ j := by decide
theorem low_bit : ∀ s, s < 128 → 0 < s → (s &&& (s - 1)) < s ∧ ∀ j, j < 7 → (s &&& (s - 1)).testBit j = (s.testBit j && decide (tzN s < j)) := by decide
theorem cut_parts_spec (s : Nat) (σ : AHeap) : Spec Tryz.prog F_cut_set_parts [nn' s] σ fun r σ' => r = .ret (.func (.func F_cut_set_parts_1) [] [.pval (nn' s)]) ∧ σ' = σ := by
  refine Spec.pureFn (spec_cut_set_parts (by simp) (awpC_sound _ ?_)) rfl rfl σ
  simp [C_cut_set_parts]
theorem parts_1_spec (s : Nat) (hs : s < 128) (b : Nat) (σ : AHeap) (J : Nat → AHeap → Prop) (Stop : AHeap → Prop)
    (hy : ∀ i s' tl, i < 7 → s.testBit i = true → J i s' → s'.length = σ.length →
      CallV Tryz.prog (.yieldf b) [nn' i] (s' ++ tl) fun r σ' => ∃ s'' tl', σ' = s'' ++ tl ++ tl' ∧ s''.length = σ.length ∧ ((r = .ret (.bool true) ∧ J (i + 1) s'') ∨ (r = .ret (.bool false) ∧ Stop s'')))
    (hskip : ∀ i s', i < 7 → s.testBit i = false → J i s' → J (i + 1) s') (h0 : J 0 σ) :
    Spec Tryz.prog F_cut_set_parts_1 [.yieldf b, .pval (nn' s)] σ fun r σ' => r = .ret (.tup []) ∧ ∃ s' tl, σ' = s' ++ tl ∧ s'.length = σ.length ∧ (J 7 s' ∨ Stop s') := by
  have hsk : ∀ d i k s', k = i + d → k ≤ 7 → (∀ j, i ≤ j → j < k → s.testBit j = false) → J i s' → J k s' := by
    intro d
    induction d with
    | zero => intro i k s' e _ _ h; rw [e]; exact h
    | succ d ih =>
      intro i k s' e h7 hb h
      exact ih (i + 1) k s' (by omega) h7 (fun j h1 h2 => hb j (by omega) h2) (hskip i s' (by omega) (hb i (by omega) (by omega)) h)
  refine spec_cut_set_parts_1 (by simp) (awpC_sound _ ?_)
  have hc : IntKind.u64.wrap (s : Int) = s := wrap_u64 (by omega)
  simp [C_cut_set_parts_1, hc]
  refine AW.loop (ι := Nat) (fun L fr σ1 => ∃ i s' tl, fr = { v := [(0, .yieldf b), (3, un' L)], ds := [] } ∧ σ1 = s' ++ tl ∧ s'.length = σ.length ∧ J i s' ∧ i ≤ 7 ∧ L < 128 ∧ ∀ k, k < 7 → L.testBit k = (s.testBit k && decide (i ≤ k))) (fun L => L) s ⟨0, σ, [], by simp, by simp, rfl, h0, by omega, hs, by simp⟩ ?_
  rintro L fr σ1 ⟨i, s', tl, rfl, rfl, hsl, hJ, hi, hL, hb⟩
  refine (Nat.eq_zero_or_pos L).elim (fun h0 => ?_) (fun hpos => ?_)
  · subst h0
    refine awpC_sound _ ?_
    simp
    refine ⟨s', ⟨_, rfl⟩, hsl, .inl (hsk (7 - i) i 7 s' (by omega) (by omega) (fun j h1 h2 => ?_) hJ)⟩
    have := hb j h2
    simp [h1] at this
    exact this
  · obtain ⟨k1, k2⟩ := tz_lt L hL hpos
    have k3 := tz_below L hL hpos
    obtain ⟨k4, k5⟩ := low_bit L hL hpos
    obtain ⟨k, hk⟩ : ∃ k, tzN L = k := ⟨_, rfl⟩
    rw [hk] at k1 k2 k3 k5
    have hbk := hb k k1
    rw [k2] at hbk
    have hbk1 : s.testBit k = true := by cases h : s.testBit k <;> simp [h] at hbk ⊢
    have hbk2 : i ≤ k := by rw [hbk1] at hbk; simpa using hbk.symm
    have hJk : J k s' := hsk (k - i) i k s' (by omega) (by omega) (fun j h1 h2 => by
      have := hb j (by omega)
      simp [h1] at this
      rw [← this]
      cases h : L.testBit j
      · rfl
      · have := k3 j (by omega) h; omega) hJ
    have hz : ¬ L = 0 := by omega
    have hw1 : IntKind.u64.wrap ((L : Int) - 1) = ((L - 1 : Nat) : Int) := by rw [show (L : Int) - 1 = ((L - 1 : Nat) : Int) by omega]; exact wrap_u64 (by omega)
    have hw2 := and_u64 (a := L) (b := L - 1) (by omega) (by omega)
    refine awpC_sound _ ?_
    simp [hz]
    refine CallK.pureE B_math_bits_TrailingZeros (tz_spec L hL hpos _) (congrArg nn' hk) ?_
    simp
    refine (hy k s' tl k1 hbk1 hJk hsl).mono ?_
    rintro r σ' ⟨s'', tl', rfl, hs', hr⟩
    rcases hr with ⟨rfl, hJ'⟩ | ⟨rfl, hS⟩
    · simp [hw1, hw2]
      refine ⟨L &&& (L - 1), k4, by simp, k + 1, s'', ⟨_, rfl⟩, by omega, hJ', by omega, by omega, fun j hj => ?_⟩
      rw [k5 j hj, hb j hj]
      by_cases h1 : k < j
      · have h2 : i ≤ j := by omega
        simp [h1, h2, Nat.succ_le_of_lt h1]
      · have h2 : ¬ k + 1 ≤ j := by omega
        simp [h1, h2]
    · simp
      exact ⟨s'', ⟨_, rfl⟩, by omega, .inr hS⟩
end Go.AM
namespace Go.AM
open Go.Proofs
set_option maxRecDepth 100000
set_option maxHeartbeats 1000000
theorem awp_cut {P : Program} {N : Nat} {ro : Option Nat} {a b : AC} {Q : AEx → Fr → AHeap → Prop} {fr : Fr} {σ : AHeap} (fr' : Fr) (σ' : AHeap) (h1 : ∀ Q' : AEx → Fr → AHeap → Prop, Q' .normal fr' σ' → awpC P N ro a Q' fr σ) (h2 : awpC P N ro b Q fr' σ') : awpC P N ro (.seq a b) Q fr σ := h1 _ h2
theorem subP_app : ∀ (a b : List PartM) (s i : Nat), subP (a ++ b) s i = subP a s i ++ subP b s (i + a.length)
  | [], b, s, i => by simp [subP]
  | p :: r, b, s, i => by
    rw [List.cons_append, subP, subP, subP_app r b]
    rw [List.length_cons, show i + (r.length + 1) = i + 1 + r.length by omega]
    split <;> simp
theorem subP_take {l : List PartM} {s i : Nat} (hi : i < l.length) : subP (l.take (i + 1)) s 0 = subP (l.take i) s 0 ++ (if s.testBit i then [l[i]] else []) := by
  rw [List.take_add_one, subP_app, List.getElem?_eq_getElem hi]
  simp [subP, Nat.min_eq_left (Nat.le_of_lt hi)]
theorem subP_len : ∀ {l : List PartM} {s i : Nat}, (subP l s i).length ≤ l.length
  | [], _, _ => by simp [subP]
  | p :: r, s, i => by
    rw [subP]
    have := subP_len (l := r) (s := s) (i := i + 1)
    split <;> simp <;> omega
theorem subP_full {t : TaskM} (hf : t.Fit) {s i : Nat} (hi : t.ship.length ≤ i) : subP (t.hull.ps.take i) s 0 = (leftH t s).ps := by
  rw [List.take_of_length_le (by have := hf.hull; omega)]; rfl
@[simp] theorem cutC_tail3 (t : TaskM) (N g : Nat) : List.take 3 (cutC t N g).tail = [.slice 7 (t.hull.ps.map PartM.v), ii' t.hull.aft, ii' t.hull.fore] := rfl
theorem ii_ne (a : Int) : (a != 0) = !decide (a = 0) := by
  by_cases h : a = 0 <;> simp [h]
def fallE (n R B : Nat) : Env := [(3, .pval (.ptr (n + 2) 0)), (7, nn' R), (10, .ptr B 0), (36, .func (.func F_cut_set_parts_1) [] [.pval (nn' R)])]
def fallH (t : TaskM) (n R B i k : Nat) (asg body : Code) (st : LoopState) : AHeap := [.box [.oslice 7 ((subP (t.hull.ps.take i) R 0).map PartM.v) (B + 1) k, ii' t.hull.aft, ii' t.hull.fore], .spare 7 k, .dfr, .looprec 71 (fallE n R B) [37] asg body (B + 2) st none]
theorem falls_spec {t : TaskM} (hf : t.Fit) (hok : t.Ok) {n : Nat} {σ : AHeap} (h : ShipI t n σ) (s i : Nat) (hs : Sub t s) (hi : i < 7) :
    Spec Tryz.prog F_cut_ship_falls [.ptr (n + 2) 0, nn' s, nn' i] σ fun r σ' => r = .ret (.bool (fallsS t (rem1 s i))) ∧ Memo t n σ σ' := by
  have hl := h.len
  have hkeep : Memo t n σ σ := by simpa using h.refl []
  obtain ⟨m, hk, hsh⟩ := h
  have h128 := hs.lt hf
  have hsR := hs.rem (i := i)
  have hR := rem1_lt (i := i) h128
  have h1 := shl_i64 (i := i) (by omega)
  have h2 : bandnI .i64 (s : Int) (2 ^ i) = ((rem1 s i : Nat) : Int) := by
    have := andn_i64 (a := s) (b := 2 ^ i) (by omega)
    simpa [rem1] using this
  obtain ⟨R, hRe⟩ : ∃ R, rem1 s i = R := ⟨_, rfl⟩
  rw [hRe] at h2 hsR hR ⊢
  have hA : ∀ X, (σ ++ X)[n + 2]? = some (.box (cutC t n (gasT t))) := fun X => by rw [List.getElem?_append_left (by omega)]; exact hsh.ship
  have hB : ∀ X, (σ ++ X)[n + 1]? = some (.amap (mapN m)) := fun X => by rw [List.getElem?_append_left (by omega)]; exact hsh.known
  have hcases : getN R m = none ∨ getN R m = some (leftW t R) := by
    cases hh : getN R m with
    | none => exact .inl rfl
    | some v => right; rw [hk R v hh]
  refine spec_cut_ship_falls (by simp) (awpC_sound _ ?_)
  unfold C_cut_ship_falls
  refine awp_cut { v := [(1, nn' s), (2, nn' i), (3, .pval (.ptr (n + 2) 0))], ds := [] } σ (fun Q' h => by simpa using h) ?_
  refine awp_cut { v := [(3, .pval (.ptr (n + 2) 0)), (7, nn' R)], ds := [] } σ (fun Q' h => by simpa [h1, h2] using h) ?_
  refine hcases.elim (fun hn => ?_) (fun hv => ?_)
  rotate_left
  · simp [hv, hsh.ship, hsh.known]
    refine ⟨fun h0 => ⟨by simp [fallsS, h0], hkeep⟩, fun h0 => ⟨by simp [fallsS, h0, ii_ne], hkeep⟩⟩
  simp [hn, hsh.ship, hsh.known]
  refine ⟨fun h0 => ⟨by simp [fallsS, h0], hkeep⟩, fun h0 => ?_⟩
  refine CallK.pure B_cut_set_parts (cut_parts_spec R _) ?_
  simp
  refine AW.rangeF (by simp) fun asg' body' ca cb hps => ?_
  simp only [List.length_append, List.length_cons, List.length_nil, List.append_assoc, List.cons_append, List.nil_append, Nat.zero_add, Nat.reduceAdd, Nat.add_assoc]
  change CallF Tryz.prog (.func (.func F_cut_set_parts_1) [] [.pval (nn' R)]) [.yieldf (σ.length + 3)] (σ ++ fallH t n R σ.length 0 0 asg' body' .ready) (rangeQ (σ.length + 3) _ _)
  have hlen : ∀ i k st, (σ ++ fallH t n R σ.length i k asg' body' st).length = σ.length + 4 := fun _ _ _ => by simp [fallH]
  refine CallF.func B_cut_set_parts_1 ((parts_1_spec R hR (σ.length + 3) _ (fun i s' => ∃ k, s' = σ ++ fallH t n R σ.length i k asg' body' .ready) (fun _ => False) ?_ ?_ ?_).mono ?_)
  · rintro j s' tl hj hjb ⟨k, rfl⟩ _
    have hjs := hsR j hjb
    have hjh : j < t.hull.ps.length := by have := hf.hull; omega
    obtain ⟨p, hp⟩ : ∃ p, t.hull.ps[j] = p := ⟨_, rfl⟩
    have hst := subP_take (s := R) hjh
    rw [if_pos hjb, hp] at hst
    have hsl := subP_len (l := t.hull.ps.take j) (s := R) (i := 0)
    have hmn : min j t.hull.ps.length ≤ 7 := by omega
    have hbd : ((subP (t.hull.ps.take j) R 0).length + 1) * 64 ≤ 140737488355328 := by simp at hsl; omega
    refine CallV.round (e := fallE n R σ.length) (D := σ.length + 2) (pend := none) ca cb hps (by simp [fallH]) rfl ?_
    refine awpC_sound _ ?_
    simp [putArgs, fallE, fallH]
    refine ⟨_, _, _, _, _, _, _, ⟨rfl, rfl, rfl, rfl, rfl, rfl, rfl⟩, ?_⟩
    refine awpC_sound _ ?_
    simp [hA, hjh, hp, PartM.v, PartM.cells]
    refine ⟨by intro v hv; simp at hv; subst hv; exact ⟨rfl, rfl⟩, hbd, 71, fallE n R σ.length, [37], asg', body', σ.length + 2, .busy, none, by simp [fallE], σ ++ fallH t n R σ.length (j + 1) (k + 1) asg' body' .ready, ⟨[], ?_⟩, hlen _ _ _, rfl, k + 1, rfl⟩
    simp [fallH, fallE, hst, PartM.v, PartM.cells]
  · rintro j s' hj hjb ⟨k, rfl⟩
    refine ⟨k, ?_⟩
    have : subP (t.hull.ps.take (j + 1)) R 0 = subP (t.hull.ps.take j) R 0 := by
      rcases Nat.lt_or_ge j t.hull.ps.length with h1 | h1
      · rw [subP_take h1, if_neg (by simp [hjb])]; simp
      · rw [List.take_of_length_le (by omega), List.take_of_length_le h1]
    unfold fallH
    rw [this]
  · exact ⟨0, rfl⟩
  · rintro r σ' ⟨rfl, s', tl, rfl, _, ⟨k, rfl⟩ | hS⟩
    rotate_left
    · exact hS.elim
    have h7 := subP_full hf (s := R) (i := 7) hf.ship7
    refine ⟨71, fallE n R σ.length, [37], asg', body', σ.length + 2, .ready, none, by simp [fallH], by simp, ?_⟩
    have hS : ∀ (X : AHeap) (v : AObj), (σ ++ X).set (n + 1) v = σ.set (n + 1) v ++ X := fun X v => List.set_append_left _ _ (by omega)
    have hps : (leftH t R).ps.length ≤ maxLen := Nat.le_trans subP_len hok.hull
    have hm : KnownOk t (putN R (leftW t R) m) := fun j v hv => by
      rw [getN_put] at hv
      split at hv
      · rename_i e; cases hv; rw [e]
      · exact hk j v hv
    have hw : (whyR (leftH t R) t.lo t.hi).1 = leftW t R := rfl
    simp [fallH, fallE, h7, hA]
    refine ⟨tripV (whyR (leftH t R) t.lo t.hi), fun σ' _ _ => CallV.func B_stand_Why (stand_Why_spec (leftH t R) hps t.lo t.hi σ'), ?_⟩
    simp [tripV, hA, hB, hw, hS]
    refine ⟨by simp [fallsS, h0, ii_ne], _, _, hm, rfl⟩
end Go.AM
namespace Go.AM
open Go.Proofs
set_option maxRecDepth 100000
set_option maxHeartbeats 1000000
theorem CallK.memo {t : TaskM} {n : Nat} {fv : AVal} {args : List AVal} {σ : AHeap} {v : AVal} {K Kp : AVal → AHeap → Prop} (hs : CallV Tryz.prog fv args σ fun r σ' => r = .ret v ∧ Memo t n σ σ') (hq : ∀ σ', Memo t n σ σ' → K v σ') : @CallK Tryz.prog fv args σ ⟨K⟩ ⟨Kp⟩ :=
  hs.mono (by rintro r σ' ⟨rfl, hm⟩; exact hq σ' hm)
theorem CallK.memoS {t : TaskM} {n : Nat} {f : FuncId} (hb : hasBody Tryz.prog f = true) {args : List AVal} {s X : AHeap} {v v' : AVal} {K Kp : AVal → AHeap → Prop} (hs : Spec Tryz.prog f args (s ++ X) fun r σ' => r = .ret v ∧ Memo t n (s ++ X) σ') (h0 : n + 2 < s.length) (e : v = v') (hq : ∀ m tl, KnownOk t m → K v' (s.set (n + 1) (.amap (mapN m)) ++ (X ++ tl))) : @CallK Tryz.prog (.func (.func f) [] []) args (s ++ X) ⟨K⟩ ⟨Kp⟩ :=
  (CallV.func (first := []) (caps := []) hb (by rw [List.nil_append, List.append_nil]; exact hs)).mono (by
    rintro r σ' ⟨rfl, m, tl, h1, rfl⟩
    subst e
    have := hq m tl h1
    rw [← List.append_assoc] at this
    rw [List.set_append_left _ _ (by omega)]
    exact this)
theorem CallV.memo {t : TaskM} {n : Nat} {f : FuncId} (hb : hasBody Tryz.prog f = true) {first args : List AVal} {σ : AHeap} {v : AVal} (hs : Spec Tryz.prog f (first ++ args) σ fun r σ' => r = .ret v ∧ Memo t n σ σ') : CallV Tryz.prog (.func (.func f) first []) args σ fun r σ' => r = .ret v ∧ Memo t n σ σ' :=
  CallV.func hb (by rw [List.append_nil]; exact hs)
theorem ShipI.keep {t : TaskM} {n : Nat} {σ : AHeap} (h : ShipI t n σ) : Memo t n σ σ := by simpa using h.refl []
theorem Spec.memo0 {t : TaskM} {n : Nat} {f : FuncId} {args : List AVal} {σ : AHeap} {v : AVal} (h : ShipI t n σ) (hs : Spec Tryz.prog f args σ fun r σ' => r = .ret v ∧ σ' = σ) : Spec Tryz.prog f args σ fun r σ' => r = .ret v ∧ Memo t n σ σ' :=
  hs.mono (by rintro r σ' ⟨rfl, rfl⟩; exact ⟨rfl, h.keep⟩)
def badT (t : TaskM) (s i : Nat) : Nat → Bool
  | 0 => !s.testBit i
  | 1 => decide (s &&& aboveT t i ≠ 0)
  | 2 => (gasT t).testBit i
  | _ => fallsS t (rem1 s i)
theorem whyT_bad (t : TaskM) (s i : Nat) : whyT t s i = if badT t s i 0 then 1 else if badT t s i 1 then 2 else if badT t s i 2 then 3 else if badT t s i 3 then 4 else 0 := by
  unfold whyT badT
  simp
def whyG (n k : Nat) : Nat := [F_cut_ship_gone, F_cut_ship_covered, F_cut_ship_gassed, F_cut_ship_falls].getD k n
theorem bad_call {t : TaskM} (hf : t.Fit) (hok : t.Ok) {n : Nat} (s i k : Nat) (hs : Sub t s) (hi : i < t.ship.length) (hk : k < 4) {σ : AHeap} (h : ShipI t n σ) :
    CallV Tryz.prog (.func (.func (whyG 0 k)) [.ptr (n + 2) 0] []) [nn' s, nn' i] σ fun r σ' => r = .ret (.bool (badT t s i k)) ∧ Memo t n σ σ' := by
  have h128 := hs.lt hf
  have h7 := hf.ship7
  obtain ⟨m, hm, hsh⟩ := id h
  rcases k with _ | _ | _ | _ | k
  · exact CallV.memo (first := [.ptr (n + 2) 0]) (args := [nn' s, nn' i]) B_cut_ship_gone (Spec.memo0 h (gone_spec s i h128 (by omega) _ σ))
  · exact CallV.memo (first := [.ptr (n + 2) 0]) (args := [nn' s, nn' i]) B_cut_ship_covered (Spec.memo0 h (covered_spec hf hsh s i h128 hi))
  · exact CallV.memo (first := [.ptr (n + 2) 0]) (args := [nn' s, nn' i]) B_cut_ship_gassed (Spec.memo0 h (gassed_spec hf hsh _ i (by omega)))
  · exact CallV.memo (first := [.ptr (n + 2) 0]) (args := [nn' s, nn' i]) B_cut_ship_falls (falls_spec hf hok h s i hs (by omega))
  · omega
theorem why_spec {t : TaskM} (hf : t.Fit) (hok : t.Ok) {n : Nat} {σ : AHeap} (h : ShipI t n σ) (s i : Nat) (hs : Sub t s) (hi : i < t.ship.length) :
    Spec Tryz.prog F_cut_ship_why [.ptr (n + 2) 0, nn' s, nn' i] σ fun r σ' => r = .ret (nn' (whyT t s i)) ∧ Memo t n σ σ' := by
  obtain ⟨w, hw⟩ : ∃ w, whyT t s i = w := ⟨_, rfl⟩
  have hw' := hw
  rw [whyT_bad] at hw'
  rw [hw]
  refine spec_cut_ship_why (by simp) (awpC_sound _ ?_)
  simp [C_cut_ship_why]
  refine AW.loop (ι := Nat) (fun k fr σ1 => fr = { v := [(1, nn' s), (2, nn' i), (17, .agg [.func (.func F_cut_ship_gone) [.ptr (n + 2) 0] [], .func (.func F_cut_ship_covered) [.ptr (n + 2) 0] [], .func (.func F_cut_ship_gassed) [.ptr (n + 2) 0] [], .func (.func F_cut_ship_falls) [.ptr (n + 2) 0] []]), (18, nn' k)], ds := [] } ∧ Memo t n σ σ1 ∧ k ≤ 4 ∧ ∀ j, j < k → badT t s i j = false) (fun k => 4 - k) 0 ⟨by simp, h.keep, by omega, fun j hj => absurd hj (by omega)⟩ ?_
  rintro k fr σ1 ⟨rfl, hm, hk, hb⟩
  refine (Nat.lt_or_ge k 4).elim (fun hlt => ?_) (fun hge => ?_)
  · have hix : ∀ hk4 : k < 4, ([AVal.func (.func F_cut_ship_gone) [.ptr (n + 2) 0] [], .func (.func F_cut_ship_covered) [.ptr (n + 2) 0] [], .func (.func F_cut_ship_gassed) [.ptr (n + 2) 0] [], .func (.func F_cut_ship_falls) [.ptr (n + 2) 0] []])[k]'hk4 = .func (.func (whyG 0 k)) [.ptr (n + 2) 0] [] := fun hk4 => by
      rcases k with _ | _ | _ | _ | k
      · rfl
      · rfl
      · rfl
      · rfl
      · omega
    have hltI : (k : Int) < 4 := by omega
    have hgeI : ¬ (4 : Int) ≤ k := by omega
    have hw1 : IntKind.i64.wrap ((k : Int) + 1) = ((k + 1 : Nat) : Int) := by rw [wrap_id (by omega) (by omega)]; simp
    have hw2 : IntKind.i64.wrap (1 + (k : Int)) = ((k + 1 : Nat) : Int) := by rw [wrap_id (by omega) (by omega)]; omega
    refine awpC_sound _ ?_
    simp [hlt, hltI, hgeI, hix]
    refine CallK.memo (bad_call hf hok s i k hs hi hlt (h.memo hm)) fun σ2 hm2 => ?_
    have hm3 := hm.trans h hm2
    refine (tf (badT t s i k)).elim (fun hbk => ?_) (fun hbk => ?_)
    · simp [hbk, hw1]
      exact ⟨k + 1, by omega, rfl, hm3, by omega, fun j hj => by
        rcases Nat.lt_or_ge j k with h1 | h1
        · exact hb j h1
        · have : j = k := by omega
          subst this; exact hbk⟩
    · simp [hbk, hw2]
      refine ⟨?_, hm3⟩
      rw [← hw']
      rcases k with _ | _ | _ | _ | k
      · simp [hbk]
      · simp [hbk, hb 0 (by omega)]
      · simp [hbk, hb 0 (by omega), hb 1 (by omega)]
      · simp [hbk, hb 0 (by omega), hb 1 (by omega), hb 2 (by omega)]
      · omega
  · have hnl : ¬ k < 4 := by omega
    refine awpC_sound _ ?_
    have hnI : ¬ (k : Int) < 4 := by omega
    have hgI : (4 : Int) ≤ k := by omega
    simp [hnI, hgI]
    refine ⟨?_, hm⟩
    rw [← hw', hb 0 (by omega), hb 1 (by omega), hb 2 (by omega), hb 3 (by omega)]
    rfl
end Go.AM
namespace Go.AM
open Go.Proofs
set_option maxRecDepth 100000
set_option maxHeartbeats 1000000
theorem qEval_step {P : Program} {ops : List AOper} {bef : List (List Nat)} {last qs : List Nat} {l : Nat} {r : List (List Nat × Nat)} {done no : List Nat} {e : Env} {σ : AHeap} {K : Env → AHeap → Prop} (e' : Env) {o : AOper} (he : qPut ops qs e σ = e') (ho : ops[l]? = some o)
    (h1 : qAll ops no e' σ (done ++ qs)) (h2 : gql P o e' σ fun v σ' => qEval P ops bef last r (done ++ qs) (bef.getD l []) (e'.put o.d v) σ' K) : qEval P ops bef last ((qs, l) :: r) done no e σ K := by
  rw [qEval, he]
  exact ⟨h1, by rw [ho]; exact h2⟩
theorem cut_can_spec (n : Nat) (s : Nat) (σ : AHeap) : Spec Tryz.prog F_cut_ship_can [.ptr n 0, nn' s] σ fun r σ' => r = .ret (.func (.func F_cut_ship_can_1) [] [.pval (nn' s), .pval (.ptr n 0)]) ∧ σ' = σ := by
  refine spec_cut_ship_can (by simp) (awpC_sound _ ?_)
  simp [C_cut_ship_can]
def canE (n s b : Nat) : Env := [(1, .pval (nn' s)), (2, .pval (.ptr (n + 2) 0)), (3, .pval (.yieldf b)), (6, .func (.func F_cut_set_parts_1) [] [.pval (nn' s)])]
def canH (n s b B : Nat) (asg body : Code) (st : LoopState) (pd : Option Code) : AHeap := [.dfr, .looprec 23 (canE n s b) [7] asg body B st pd]
theorem can_1_spec {t : TaskM} (hf : t.Fit) (hok : t.Ok) {n : Nat} (σ : AHeap) (s : Nat) (hs : Sub t s) (b : Nat) (J : Nat → AHeap → Prop) (Stop : AHeap → Prop)
    (hJ : ∀ i s', J i s' → ShipI t n s')
    (hm : ∀ i s' m, J i s' → KnownOk t m → J i (s'.set (n + 1) (.amap (mapN m))))
    (hy : ∀ i s' tl, i < t.ship.length → whyT t s i = 0 → J i s' → s'.length = σ.length →
      CallV Tryz.prog (.yieldf b) [nn' i, nn' (rem1 s i)] (s' ++ tl) fun r σ' => ∃ s'' tl', σ' = s'' ++ tl ++ tl' ∧ s''.length = σ.length ∧ ((r = .ret (.bool true) ∧ J (i + 1) s'') ∨ (r = .ret (.bool false) ∧ Stop s'')))
    (hskip : ∀ i s', i < 7 → whyT t s i ≠ 0 → J i s' → J (i + 1) s') (h0 : J 0 σ) :
    Spec Tryz.prog F_cut_ship_can_1 [.yieldf b, .pval (nn' s), .pval (.ptr (n + 2) 0)] σ fun r σ' => r = .ret (.tup []) ∧ ∃ s' tl, σ' = s' ++ tl ∧ s'.length = σ.length ∧ (J 7 s' ∨ Stop s') := by
  have h128 := hs.lt hf
  have h7 := hf.ship7
  refine spec_cut_ship_can_1 (by simp) (awpC_sound _ ?_)
  simp [C_cut_ship_can_1]
  refine CallK.pure B_cut_set_parts (cut_parts_spec s _) ?_
  simp
  refine AW.rangeF (by simp) fun asg' body' ca cb hps => ?_
  simp only [List.length_append, List.length_cons, List.length_nil, List.append_assoc, List.cons_append, List.nil_append, Nat.zero_add, Nat.reduceAdd, Nat.add_assoc]
  change CallF Tryz.prog (.func (.func F_cut_set_parts_1) [] [.pval (nn' s)]) [.yieldf (σ.length + 1)] (σ ++ canH n s b σ.length asg' body' .ready none) (rangeQ (σ.length + 1) _ _)
  have hn : ∀ i s', J i s' → n + 2 < s'.length := fun i s' h => (hJ i s' h).len
  refine CallF.func B_cut_set_parts_1 ((parts_1_spec s h128 (σ.length + 1) _ (fun i s2 => ∃ s', s2 = s' ++ canH n s b σ.length asg' body' .ready none ∧ s'.length = σ.length ∧ J i s') (fun s2 => ∃ s', s2 = s' ++ canH n s b σ.length asg' body' .done (some .ret) ∧ s'.length = σ.length ∧ Stop s') ?_ ?_ ?_).mono ?_)
  · rintro i s2 tl hi hib ⟨s', rfl, hsl, hJi⟩ _
    have his := hs i hib
    have hsh := hJ i s' hJi
    have hnl := hn i s' hJi
    refine CallV.round (e := canE n s b) (D := σ.length) (pend := none) ca cb hps (by rw [← hsl]; simp [canH]) rfl ?_
    refine awpC_sound _ ?_
    simp [putArgs, canE, canH]
    rw [← hsl]
    simp
    refine ⟨_, _, _, _, _, _, _, ⟨rfl, rfl, rfl, rfl, rfl, rfl, rfl⟩, ?_⟩
    refine awpC_sound _ ?_
    simp
    have hx1 := shl_i64 (i := i) (by omega)
    have hx2 : bandnI .i64 (s : Int) (2 ^ i) = ((rem1 s i : Nat) : Int) := by
      have := andn_i64 (a := s) (b := 2 ^ i) (by omega)
      simpa [rem1] using this
    refine (Classical.em (whyT t s i = 0)).elim (fun hw => ?_) (fun hw => ?_)
    · refine CallK.memoS B_cut_ship_why (why_spec hf hok (hsh.app) s i hs his) hnl (congrArg nn' hw) fun m tl2 hk => ?_
      refine qEval_step [(19, .opt true (nn' (rem1 s i))), (18, .opt true (nn' (2 ^ i))), (17, .opt true (nn' i)), (16, .opt true (nn' s)), (15, .opt true (nn' i)), (14, .opt true (.yieldf b)), (13, .bool true), (12, .bool true), (11, nn' 0), (10, nn' i), (9, nn' s), (8, .ptr (n + 2) 0), (1, .pval (nn' s)), (2, .pval (.ptr (n + 2) 0)), (3, .pval (.yieldf b)), (4, nn' i)] (by simp [hx1, hx2]) rfl (by simp [hx1, hx2]) ?_
      simp
      refine (hy i (s'.set (n + 1) (.amap (mapN m))) (.dfr :: .looprec 23 [(1, (nn' s).pval), (2, (AVal.ptr (n + 2) 0).pval), (3, (AVal.yieldf b).pval), (6, AVal.func (Fn.func F_cut_set_parts_1) [] [(nn' s).pval])] [7] asg' body' s'.length .busy none :: (tl ++ tl2)) his hw (hm i s' m hJi hk) (by simp [hsl])).mono ?_
      rintro r σ' ⟨s'', tl', rfl, hs', ⟨rfl, hJ'⟩ | ⟨rfl, hS⟩⟩
      · simp
        have e : s'.length = s''.length := by omega
        rw [e]
        exact ⟨23, canE n s b, [7], asg', body', s''.length, .busy, none, by simp [canE], s'' ++ [.dfr, .looprec 23 (canE n s b) [7] asg' body' s''.length .ready none], ⟨tl2 ++ tl', by simp [canE]⟩, by simp, .inl ⟨rfl, s'', rfl, rfl, hJ'⟩⟩
      · simp
        have e : s'.length = s''.length := by omega
        rw [e]
        exact ⟨23, canE n s b, [7], asg', body', s''.length, .busy, none, by simp [canE], s'' ++ [.dfr, .looprec 23 (canE n s b) [7] asg' body' s''.length .done (some .ret)], ⟨tl2 ++ tl', by simp [canE]⟩, by simp, .inr ⟨rfl, s'', rfl, rfl, hS⟩⟩
    · refine CallK.memoS B_cut_ship_why (why_spec hf hok (hsh.app) s i hs his) hnl rfl fun m tl2 hk => ?_
      have hwI : ¬ (whyT t s i : Int) = 0 := by omega
      have hwB : ((whyT t s i : Int) == 0) = false := by simpa using hwI
      simp [hwI, hwB, hw]
      obtain ⟨S, hS⟩ : ∃ S, s'.set (n + 1) (.amap (mapN m)) = S := ⟨_, rfl⟩
      have e : s'.length = S.length := by rw [← hS]; simp
      have hj := hm i s' m hJi hk
      rw [hS] at hj ⊢
      rw [e]
      exact ⟨23, canE n s b, [7], asg', body', S.length, .busy, none, by simp [canE], S ++ [.dfr, .looprec 23 (canE n s b) [7] asg' body' S.length .ready none], ⟨tl2, by simp [canE]⟩, by simp, .inl ⟨rfl, S, by simp [canE], rfl, hskip i _ hi hw hj⟩⟩
  · rintro i s2 hi hib ⟨s', rfl, hsl, hJi⟩
    exact ⟨s', rfl, hsl, hskip i s' hi (fun e => by rw [why_bit e] at hib; cases hib) hJi⟩
  · exact ⟨σ, rfl, rfl, h0⟩
  · rintro r σ' ⟨rfl, s2, tl, rfl, _, ⟨s', rfl, hsl, hJ7⟩ | ⟨s', rfl, hsl, hS⟩⟩
    · refine ⟨23, canE n s b, [7], asg', body', σ.length, .ready, none, by rw [← hsl]; simp [canH], by simp, ?_⟩
      rw [← hsl]
      simp [canH]
      exact ⟨s', ⟨_, rfl⟩, rfl, .inl hJ7⟩
    · refine ⟨23, canE n s b, [7], asg', body', σ.length, .done, some .ret, by rw [← hsl]; simp [canH], by simp, ?_⟩
      rw [← hsl]
      simp [canH]
      exact ⟨s', ⟨_, rfl⟩, rfl, .inr hS⟩
end Go.AM
namespace Go.AM
open Go.Proofs
set_option maxRecDepth 100000
set_option maxHeartbeats 1000000
def goT (t : TaskM) : List Nat → Nat → Option Nat
  | [], s => some s
  | i :: r, s => if i < t.ship.length ∧ whyT t s i = 0 then goT t r (rem1 s i) else none
theorem goT_app {t : TaskM} : ∀ {a b : List Nat} {s : Nat}, goT t (a ++ b) s = (goT t a s).bind (goT t b)
  | [], b, s => rfl
  | i :: r, b, s => by
    rw [List.cons_append, goT, goT]
    split
    · exact goT_app
    · rfl
theorem goT_sub {t : TaskM} : ∀ {l : List Nat} {s s' : Nat}, goT t l s = some s' → Sub t s → Sub t s'
  | [], s, s', h, hs => by
    rw [goT] at h
    cases h; exact hs
  | i :: r, s, s', h, hs => by
    rw [goT] at h
    split at h
    · exact goT_sub h hs.rem
    · cases h
theorem goT_pop {t : TaskM} (hf : t.Fit) : ∀ {l : List Nat} {s s' : Nat}, s < 128 → goT t l s = some s' → s' < 128 ∧ pop s' + l.length = pop s
  | [], s, s', hs, h => by
    rw [goT] at h
    cases h; exact ⟨hs, rfl⟩
  | i :: r, s, s', hs, h => by
    rw [goT] at h
    split at h
    · rename_i h1
      have := pop_rem1 s hs i (by have := hf.ship7; omega) (why_bit h1.2)
      obtain ⟨h2, h3⟩ := goT_pop hf (rem1_lt hs) h
      exact ⟨h2, by rw [List.length_cons]; omega⟩
    · cases h
def nextT (t : TaskM) (s : Nat) : Option Nat := (canL t s).find? fun i => mostT t (rem1 s i) + 1 == mostT t s
def longO (t : TaskM) : Nat → Nat → List Nat
  | 0, _ => []
  | k + 1, s => match nextT t s with
    | some i => i :: longO t k (rem1 s i)
    | none => []
def longU (t : TaskM) (s : Nat) : List Nat := longO t (mostT t s) s
theorem nextT_some {t : TaskM} (hf : t.Fit) {s : Nat} (hs : s < 128) (h : 0 < mostT t s) : ∃ i, nextT t s = some i ∧ i < t.ship.length ∧ whyT t s i = 0 ∧ mostT t (rem1 s i) + 1 = mostT t s := by
  have h0 := h
  rw [mostT_eq hf hs] at h
  rcases maxL_mem (f := fun i => mostT t (rem1 s i)) (l := canL t s) (n := 0) with e | ⟨i, hi, e⟩
  · omega
  · cases hn : nextT t s with
    | none =>
      have := List.find?_eq_none.1 hn i hi
      exfalso
      apply this
      rw [mostT_eq hf hs, e]
      simp; omega
    | some j =>
      have h1 := List.mem_of_find?_eq_some hn
      have h2 := List.find?_some hn
      exact ⟨j, rfl, (canL_mem.1 h1).1, (canL_mem.1 h1).2, by simpa using h2⟩
theorem longT_step {t : TaskM} {s i : Nat} (h : nextT t s = some i) (hm : mostT t (rem1 s i) + 1 = mostT t s) : longU t s = i :: longU t (rem1 s i) := by
  unfold longU
  rw [← hm, longO, h]
theorem longT_zero {t : TaskM} {s : Nat} (h : mostT t s = 0) : longU t s = [] := by unfold longU; rw [h]; rfl
theorem longT_len {t : TaskM} (hf : t.Fit) : ∀ {n s : Nat}, mostT t s = n → s < 128 → (longU t s).length = n
  | 0, s, h, _ => by rw [longT_zero h]; rfl
  | n + 1, s, h, hs => by
    obtain ⟨i, h1, _, _, h4⟩ := nextT_some hf hs (by omega)
    rw [longT_step h1 h4, List.length_cons, longT_len hf (n := n) (by omega) (rem1_lt hs)]
end Go.AM
namespace Go.AM
open Go.Proofs
set_option maxRecDepth 100000
set_option maxHeartbeats 1000000
def MostOk (t : TaskM) (M : List (Nat × Int)) : Prop := ∀ k v, getN k M = some v → v = (mostT t k : Int)
def findV (n k q : Nat) : AVal := .func (.func F_cut_ship_most_1) [] [.pval (.map k), .pval (.ptr (n + 2) 0), .ptr q 0]
def mset2 (σ : AHeap) (n k : Nat) (m M : List (Nat × Int)) : AHeap := (σ.set (n + 1) (.amap (mapN m))).set k (.amap (mapN M))
structure MostAt (t : TaskM) (n k q : Nat) (σ : AHeap) : Prop where
  ship : ShipI t n σ
  lt : n + 2 < k
  known : ∃ M, MostOk t M ∧ σ[k]? = some (.amap (mapN M))
  find : σ[q]? = some (.box [findV n k q])
def Memo2 (t : TaskM) (n k : Nat) (σ σ' : AHeap) : Prop := ∃ m M tl, KnownOk t m ∧ MostOk t M ∧ σ' = mset2 σ n k m M ++ tl
@[simp] theorem mset2_len (σ : AHeap) (n k : Nat) (m M : List (Nat × Int)) : (mset2 σ n k m M).length = σ.length := by simp [mset2]
theorem mset2_get (σ : AHeap) {n k j : Nat} (m M : List (Nat × Int)) (h1 : j ≠ n + 1) (h2 : j ≠ k) : (mset2 σ n k m M)[j]? = σ[j]? := by
  rw [mset2, List.getElem?_set_ne (fun e => h2 e.symm), List.getElem?_set_ne (fun e => h1 e.symm)]
theorem mset2_k (σ : AHeap) {n k : Nat} (m M : List (Nat × Int)) (h : k < σ.length) : (mset2 σ n k m M)[k]? = some (.amap (mapN M)) := by
  rw [mset2, List.getElem?_set_self (by simpa using h)]
theorem mset2_n (σ : AHeap) {n k : Nat} (m M : List (Nat × Int)) (h : n + 1 < σ.length) (hne : n + 1 ≠ k) : (mset2 σ n k m M)[n + 1]? = some (.amap (mapN m)) := by
  rw [mset2, List.getElem?_set_ne (fun e => hne e.symm), List.getElem?_set_self h]
theorem mset2_setn (σ : AHeap) {n k : Nat} (m M m' : List (Nat × Int)) (hne : n + 1 ≠ k) : (mset2 σ n k m M).set (n + 1) (.amap (mapN m')) = mset2 σ n k m' M := by
  rw [mset2, List.set_comm _ _ (fun e => hne e.symm), List.set_set]; rfl
theorem mset2_setk (σ : AHeap) {n k : Nat} (m M M' : List (Nat × Int)) : (mset2 σ n k m M).set k (.amap (mapN M')) = mset2 σ n k m M' := by
  rw [mset2, List.set_set]; rfl
theorem mset2_app (σ X : AHeap) {n k : Nat} (m M m' M' : List (Nat × Int)) (h1 : n + 1 < σ.length) (h2 : k < σ.length) (hne : n + 1 ≠ k) : mset2 (mset2 σ n k m M ++ X) n k m' M' = mset2 σ n k m' M' ++ X := by
  rw [mset2, List.set_append_left _ _ (by simpa using h1), mset2_setn _ _ _ _ hne, List.set_append_left _ _ (by simpa using h2), mset2_setk]
theorem mset2_self {σ : AHeap} {n k : Nat} {m M : List (Nat × Int)} (h1 : σ[n + 1]? = some (.amap (mapN m))) (h2 : σ[k]? = some (.amap (mapN M))) : mset2 σ n k m M = σ := by
  rw [mset2, set_same h1, set_same h2]
theorem MostAt.k_lt {t : TaskM} {n k q : Nat} {σ : AHeap} (h : MostAt t n k q σ) : k < σ.length := by
  obtain ⟨M, _, h⟩ := h.known
  exact (List.getElem?_eq_some_iff.1 h).1
theorem MostAt.q_lt {t : TaskM} {n k q : Nat} {σ : AHeap} (h : MostAt t n k q σ) : q < σ.length := (List.getElem?_eq_some_iff.1 h.find).1
theorem MostAt.q_ne {t : TaskM} {n k q : Nat} {σ : AHeap} (h : MostAt t n k q σ) : q ≠ n + 1 ∧ q ≠ k := by
  obtain ⟨M, _, h1⟩ := h.known
  obtain ⟨m, _, h2⟩ := h.ship
  have h3 := h.find
  refine ⟨fun e => ?_, fun e => ?_⟩
  · subst e; rw [h2.known] at h3; cases h3
  · subst e; rw [h1] at h3; cases h3
theorem MostAt.mset {t : TaskM} {n k q : Nat} {σ : AHeap} (h : MostAt t n k q σ) {m M : List (Nat × Int)} (hm : KnownOk t m) (hM : MostOk t M) (X : AHeap) : MostAt t n k q (mset2 σ n k m M ++ X) := by
  have h1 := h.ship.len
  have h2 := h.lt
  have h3 := h.k_lt
  have h4 := h.q_ne
  have h5 := h.q_lt
  obtain ⟨m0, _, hs⟩ := h.ship
  refine ⟨⟨m, hm, ⟨?_, ?_, ?_⟩⟩, h2, ⟨M, hM, ?_⟩, ?_⟩
  · rw [List.getElem?_append_left (by simp; omega), mset2_get _ _ _ (by omega) (by omega)]; exact hs.above
  · rw [List.getElem?_append_left (by simp; omega), mset2_n _ _ _ (by omega) (by omega)]
  · rw [List.getElem?_append_left (by simp; omega), mset2_get _ _ _ (by omega) (by omega)]; exact hs.ship
  · rw [List.getElem?_append_left (by simp; omega), mset2_k _ _ _ h3]
  · rw [List.getElem?_append_left (by simp; omega), mset2_get _ _ _ h4.1 h4.2]; exact h.find
theorem MostAt.ex {t : TaskM} {n k q : Nat} {σ : AHeap} (h : MostAt t n k q σ) : ∃ m M, KnownOk t m ∧ MostOk t M ∧ mset2 σ n k m M = σ ∧ σ[k]? = some (.amap (mapN M)) := by
  obtain ⟨m, h1, h2⟩ := h.ship
  obtain ⟨M, h3, h4⟩ := h.known
  exact ⟨m, M, h1, h3, mset2_self h2.known h4, h4⟩
theorem MostAt.app {t : TaskM} {n k q : Nat} {σ : AHeap} (h : MostAt t n k q σ) (X : AHeap) : MostAt t n k q (σ ++ X) := by
  obtain ⟨m, M, h1, h2, h3, _⟩ := h.ex
  have := h.mset h1 h2 X
  rw [h3] at this
  exact this
section
variable (σ X : AHeap) (n k : Nat) (m M : List (Nat × Int))
@[simp] theorem mset2_g0 : (mset2 σ n k m M ++ X)[σ.length]? = X[0]? := by
  have := get_app0 (mset2 σ n k m M) X
  rwa [mset2_len] at this
@[simp] theorem mset2_gn (j : Nat) : (mset2 σ n k m M ++ X)[σ.length + j]? = X[j]? := by
  have := get_appn (mset2 σ n k m M) X j
  rwa [mset2_len] at this
@[simp] theorem mset2_s0 (x : AObj) : (mset2 σ n k m M ++ X).set σ.length x = mset2 σ n k m M ++ X.set 0 x := by
  have := set_app0 (mset2 σ n k m M) X x
  rwa [mset2_len] at this
@[simp] theorem mset2_sn (x : AObj) (j : Nat) : (mset2 σ n k m M ++ X).set (σ.length + j) x = mset2 σ n k m M ++ X.set j x := by
  have := set_appn (mset2 σ n k m M) X x j
  rwa [mset2_len] at this
end
def canU (t : TaskM) (s i : Nat) : List Nat := (List.range i).filter fun j => whyT t s j == 0
theorem canU_succ (t : TaskM) (s i : Nat) : canU t s (i + 1) = canU t s i ++ (if whyT t s i = 0 then [i] else []) := by
  unfold canU
  rw [List.range_succ, List.filter_append]
  congr 1
  by_cases h : whyT t s i = 0 <;> simp [h]
theorem canU_all {t : TaskM} (hf : t.Fit) {s : Nat} (hs : Sub t s) : canU t s 7 = canL t s := by
  unfold canU canL
  have h7 := hf.ship7
  have : ∀ d, t.ship.length + d ≤ 7 → (List.range (t.ship.length + d)).filter (fun j => whyT t s j == 0) = (List.range t.ship.length).filter (fun j => whyT t s j == 0) := by
    intro d
    induction d with
    | zero => intro _; rfl
    | succ d ih =>
      intro hd
      rw [← Nat.add_assoc, List.range_succ, List.filter_append, ih (by omega)]
      have : ¬ whyT t s (t.ship.length + d) = 0 := fun e => by
        have := hs _ (why_bit e)
        omega
      simp [this]
  have := this (7 - t.ship.length) (by omega)
  rw [show t.ship.length + (7 - t.ship.length) = 7 by omega] at this
  exact this
def mostU (t : TaskM) (s i : Nat) : Nat := maxL (fun i => mostT t (rem1 s i)) (canU t s i) 0
theorem mostU_succ (t : TaskM) (s i : Nat) : mostU t s (i + 1) = if whyT t s i = 0 then max (mostU t s i) (1 + mostT t (rem1 s i)) else mostU t s i := by
  unfold mostU
  rw [canU_succ]
  split
  · unfold maxL; rw [List.foldl_append]; rfl
  · rw [List.append_nil]
theorem mostU_all {t : TaskM} (hf : t.Fit) {s : Nat} (hs : Sub t s) : mostU t s 7 = mostT t s := by
  rw [mostU, canU_all hf hs, mostT_eq hf (hs.lt hf)]
theorem mostU_le {t : TaskM} (hf : t.Fit) {s : Nat} (hs : Sub t s) (i : Nat) (h : i ≤ 7) : mostU t s i ≤ mostT t s := by
  have : ∀ d, i + d ≤ 7 → mostU t s i ≤ mostU t s (i + d) := by
    intro d
    induction d with
    | zero => intro _; exact Nat.le_refl _
    | succ d ih =>
      intro hd
      refine Nat.le_trans (ih (by omega)) ?_
      rw [← Nat.add_assoc, mostU_succ]
      split
      · exact Nat.le_max_left _ _
      · exact Nat.le_refl _
  have := this (7 - i) (by omega)
  rw [show i + (7 - i) = 7 by omega, mostU_all hf hs] at this
  exact this
end Go.AM
namespace Go.AM
open Go.Proofs
set_option maxRecDepth 100000
set_option maxHeartbeats 1000000
def colE (n s B : Nat) (w : AVal) : Env := [(3, .pval w), (4, .ptr (B + 1) 0), (7, .func (.func F_cut_ship_can_1) [] [.pval (nn' s), .pval (.ptr (n + 2) 0)])]
def colH (n s B k : Nat) (w : AVal) (l : List Nat) (asg body : Code) (st : LoopState) : AHeap := [.spare 1 k, .box [.oslice 1 (l.map nn') B k], .dfr, .looprec 18 (colE n s B w) [8, 9] asg body (B + 2) st none]
theorem collect_spec {t : TaskM} (hf : t.Fit) (hok : t.Ok) {n : Nat} (σ : AHeap) (s : Nat) (hs : Sub t s) (fn : Fn) (first caps : List AVal) (W : Nat → Bool) (J : AHeap → Prop)
    (hJ : ∀ s', J s' → ShipI t n s') (hm : ∀ s' m, J s' → KnownOk t m → J (s'.set (n + 1) (.amap (mapN m))))
    (hw : ∀ i s' tl, i < t.ship.length → whyT t s i = 0 → J s' → s'.length = σ.length → CallV Tryz.prog (.func fn first caps) [nn' (rem1 s i)] (s' ++ tl) fun r σ' => ∃ s'' tl', σ' = s'' ++ tl ++ tl' ∧ s''.length = σ.length ∧ r = .ret (.bool (W i)) ∧ J s'')
    (h0 : J σ) :
    Spec Tryz.prog F_cut_collect_cut_set [.func (.func F_cut_ship_can_1) [] [.pval (nn' s), .pval (.ptr (n + 2) 0)], .func fn first caps] σ fun r σ' => r = .ret (.slice 1 (((canL t s).filter W).map nn')) ∧ ∃ s' tl, σ' = s' ++ tl ∧ s'.length = σ.length ∧ J s' := by
  have h7 := hf.ship7
  refine spec_cut_collect_cut_set (by simp) (awpC_sound _ ?_)
  simp [C_cut_collect_cut_set]
  refine AW.rangeF (by simp) fun asg' body' ca cb hps => ?_
  simp only [List.length_append, List.length_cons, List.length_nil, List.append_assoc, List.cons_append, List.nil_append, Nat.zero_add, Nat.reduceAdd, Nat.add_assoc]
  change CallF Tryz.prog (.func (.func F_cut_ship_can_1) [] [.pval (nn' s), .pval (.ptr (n + 2) 0)]) [.yieldf (σ.length + 3)] (σ ++ colH n s σ.length 0 (.func fn first caps) [] asg' body' .ready) (rangeQ (σ.length + 3) _ _)
  refine CallF.func B_cut_ship_can_1 ((can_1_spec hf hok _ s hs (σ.length + 3) (fun i s2 => ∃ s' k, s2 = s' ++ colH n s σ.length k (.func fn first caps) ((canU t s i).filter W) asg' body' .ready ∧ s'.length = σ.length ∧ (canU t s i).length ≤ i ∧ J s') (fun _ => False) ?_ ?_ ?_ ?_ ?_).mono ?_)
  · rintro i s2 ⟨s', k, rfl, _, _, hj⟩
    exact (hJ s' hj).app
  · rintro i s2 m ⟨s', k, rfl, hl, hc, hj⟩ hk
    have := (hJ s' hj).len
    exact ⟨s'.set (n + 1) (.amap (mapN m)), k, by rw [List.set_append_left _ _ (by omega)], by simpa using hl, hc, hm s' m hj hk⟩
  · rintro i s2 tl hi hwi ⟨s', k, rfl, hl, hc, hj⟩ _
    have hcs := canU_succ t s i
    rw [if_pos hwi] at hcs
    have hlen : ((canU t s i).filter W).length ≤ 7 := Nat.le_trans (List.length_filter_le _ _) (by omega)
    refine CallV.round (e := colE n s σ.length (.func fn first caps)) (D := σ.length + 2) (pend := none) ca cb hps (by rw [← hl]; simp [colH]) rfl ?_
    refine awpC_sound _ ?_
    simp [putArgs, colE, colH]
    rw [← hl]
    simp
    refine ⟨_, _, _, _, _, _, _, ⟨rfl, rfl, rfl, rfl, rfl, rfl, rfl⟩, ?_⟩
    refine awpC_sound _ ?_
    simp
    refine (hw i s' _ hi hwi hj hl).mono ?_
    rintro r σ' ⟨s'', tl', rfl, hl', rfl, hj'⟩
    have e : s'.length = s''.length := by omega
    refine (tf (W i)).elim (fun hW => ?_) (fun hW => ?_)
    · have hfl : (canU t s (i + 1)).filter W = (canU t s i).filter W := by rw [hcs, List.filter_append]; simp [hW]
      rw [hW, e]
      simp
      exact ⟨18, colE n s s''.length (.func fn first caps), [8, 9], asg', body', s''.length + 2, .busy, none, by simp [colE], s'' ++ colH n s s''.length k (.func fn first caps) ((canU t s (i + 1)).filter W) asg' body' .ready, ⟨tl', by simp [colE, colH, hfl]⟩, by simp [colH], rfl, s'', ⟨k, by simp [colH, colE]⟩, rfl, by rw [hcs]; simp; omega, hj'⟩
    · have hfl : (canU t s (i + 1)).filter W = (canU t s i).filter W ++ [i] := by rw [hcs, List.filter_append]; simp [hW]
      rw [hW, e]
      simp
      exact ⟨by intro v hv; simp at hv; subst hv; exact ⟨⟨rfl, rfl⟩, rfl⟩, by omega, 18, colE n s s''.length (.func fn first caps), [8, 9], asg', body', s''.length + 2, .busy, none, by simp [colE], s'' ++ colH n s s''.length (k + 1) (.func fn first caps) ((canU t s (i + 1)).filter W) asg' body' .ready, ⟨tl', by simp [colE, colH, hfl]⟩, by simp [colH], rfl, s'', ⟨k + 1, by simp [colH, colE]⟩, rfl, by rw [hcs]; simp; omega, hj'⟩
  · rintro i s2 hi hwi ⟨s', k, rfl, hl, hc, hj⟩
    have hcs := canU_succ t s i
    rw [if_neg hwi, List.append_nil] at hcs
    exact ⟨s', k, by rw [hcs], hl, by rw [hcs]; omega, hj⟩
  · exact ⟨σ, 0, rfl, rfl, by simp [canU], h0⟩
  · rintro r σ' ⟨rfl, s2, tl, rfl, _, ⟨s', k, rfl, hl, hc, hj⟩ | hS⟩
    rotate_left
    · exact hS.elim
    rw [canU_all hf hs]
    refine ⟨18, colE n s σ.length (.func fn first caps), [8, 9], asg', body', σ.length + 2, .ready, none, by rw [← hl]; simp [colH], by simp, ?_⟩
    rw [← hl]
    simp [colH, colE]
    exact ⟨s', ⟨_, rfl⟩, rfl, hj⟩
end Go.AM
