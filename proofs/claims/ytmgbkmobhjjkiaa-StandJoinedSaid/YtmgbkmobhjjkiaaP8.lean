/- Small functions of the outright laws of chapter 05: valid, turn, among, span. A truth, a tide by turns; whether a hull stands, as Forces and Bears say: of the outright laws. The inputs of the outright laws, by their types. -/
import Derived.Test.YtmgbkmobhjjkiaaP4
import Derived.Test.YtmgbkmobhjjkiaaP7
namespace Go.AM
open Go.Proofs
set_option maxRecDepth 100000
set_option maxHeartbeats 1000000

theorem l05_valid_spec (h : HullM) (hl : h.ps.length ≤ maxLen) (σ : AHeap) : Spec Try.prog F_l05_valid [h.v] σ fun r σ' => r = .ret (.bool (decide (eR h = 0))) ∧ σ' = σ := by
  refine Spec.pureFn (spec_l05_valid (by simp) (awpC_sound _ ?_)) (by simp [h.pure]) rfl σ
  simp [C_l05_valid, HullM.v, HullM.cells]
  refine CallK.pure B_r05_Check (r05_Check_spec h hl _) ?_
  simp [tripR, eR]
  rfl

theorem l05_span_spec (a b : Int) (σ : AHeap) : Spec Try.prog F_l05_span [ii' a, ii' b] σ fun r σ' => r = .ret (.agg [ii' a, ii' b]) ∧ σ' = σ := by
  refine Spec.pureFn (spec_l05_span (by simp) (awpC_sound _ ?_)) rfl rfl σ
  simp [C_l05_span]

def amongF (lo hi n : Int) : Int := wr (lo + n.tmod (wr (wr (hi - lo) + 1)))
theorem l05_among_spec (lo hi n : Int) (hz : wr (wr (hi - lo) + 1) ≠ 0) (σ : AHeap) : Spec Try.prog F_l05_among [.agg [ii' lo, ii' hi], ii' n] σ fun r σ' => r = .ret (ii' (amongF lo hi n)) ∧ σ' = σ := by
  refine Spec.pureFn (spec_l05_among (by simp) (awpC_sound _ ?_)) rfl rfl σ
  simp [C_l05_among, amongF]
  exact hz

abbrev uu (n : Int) : AVal := .int .u32 n
def turnF (l : List Int) (n : Nat) : Int := if l.length = 0 then 0 else wr (l[n % l.length]?.getD 0)
theorem l05_turn_spec (l : List Int) (hl : l.length ≤ maxLen) (n : Nat) (_hn : n ≤ maxLen) (σ : AHeap) : Spec Try.prog F_l05_turn [.slice 1 (l.map uu), .int .i64 n] σ fun r σ' => r = .ret (ii' (turnF l n)) ∧ σ' = σ := by
  refine Spec.pureFn (spec_l05_turn (by simp) (awpC_sound _ ?_)) (by simp [pures_map (f := uu) (fun _ => rfl) l]) rfl σ
  refine (Classical.em (l.length = 0)).elim (fun h => ?_) (fun h => ?_)
  · have : l = [] := List.eq_nil_of_length_eq_zero h
    subst this
    simp [C_l05_turn, turnF]
  · have hne : l ≠ [] := fun e => h (by rw [e]; rfl)
    have hlt : n % l.length < l.length := Nat.mod_lt _ (by omega)
    have e : (n : Int).tmod (l.length : Int) = ((n % l.length : Nat) : Int) := by rw [Int.tmod_eq_emod_of_nonneg (by omega)]; simp
    have ht : turnF l n = wr (l[n % l.length]'hlt) := by simp [turnF, h, hlt]
    rw [ht]
    obtain ⟨k, hk⟩ : ∃ k, n % l.length = k := ⟨_, rfl⟩
    rw [hk] at e hlt
    obtain ⟨x, hx⟩ : ∃ x, l[k] = x := ⟨_, rfl⟩
    have hx' : l[n % l.length]'(by omega) = x := by rw [← hx]; congr 1
    rw [hx']
    simp [C_l05_turn, h, e, hlt, hx]
end Go.AM

namespace Go.AM
open Go.Proofs
set_option maxRecDepth 100000
set_option maxHeartbeats 1000000

abbrev hh (n : Int) : AVal := .int .u16 n
def tlo (a : Int) : Int := a % 1001
def thi (a b : Int) : Int := tlo a + b % (1000 - tlo a + 1)
theorem tide_b {a b : Int} (_ha : 0 ≤ a) (_hb : 0 ≤ b) : 0 ≤ tlo a ∧ tlo a ≤ thi a b ∧ thi a b ≤ 1000 := by
  unfold thi tlo
  have h1 : 0 ≤ a % 1001 := Int.emod_nonneg _ (by decide)
  have h2 : a % 1001 < 1001 := Int.emod_lt_of_pos _ (by decide)
  have h3 : 0 ≤ b % (1000 - a % 1001 + 1) := Int.emod_nonneg _ (by omega)
  have h4 : b % (1000 - a % 1001 + 1) < 1000 - a % 1001 + 1 := Int.emod_lt_of_pos _ (by omega)
  omega

theorem l05_Tide_spec (a b : Int) (ha : 0 ≤ a ∧ a ≤ 65535) (hb : 0 ≤ b ∧ b ≤ 65535) (σ : AHeap) : Spec Try.prog F_l05_Tide [.agg [hh a, hh b]] σ fun r σ' => r = .ret (tideV (tlo a) (thi a b)) ∧ σ' = σ := by
  refine Spec.pureFn (spec_l05_Tide (by simp) (awpC_sound _ ?_)) rfl rfl σ
  have ht := tide_b ha.1 hb.1
  have h1 : 0 ≤ a % 1001 := Int.emod_nonneg _ (by decide)
  have h2 : a % 1001 < 1001 := Int.emod_lt_of_pos _ (by decide)
  have w1 : IntKind.i64.wrap a = a := wrap_id (by omega) (by omega)
  have w2 : IntKind.i64.wrap b = b := wrap_id (by omega) (by omega)
  have e1 : a.tmod 1001 = tlo a := Int.tmod_eq_emod_of_nonneg ha.1
  have e0 : IntKind.i64.wrap (tlo a) = tlo a := wrap_id (by omega) (by omega)
  have e2 : IntKind.i64.wrap (1000 - tlo a) = 1000 - tlo a := wrap_id (by omega) (by omega)
  have e3 : IntKind.i64.wrap (1000 - tlo a + 1) = 1000 - tlo a + 1 := wrap_id (by omega) (by omega)
  have e4 : b.tmod (1000 - tlo a + 1) = b % (1000 - tlo a + 1) := Int.tmod_eq_emod_of_nonneg hb.1
  have e5 : ¬ 1000 - tlo a + 1 = 0 := by omega
  have e6 : tlo a + b % (1000 - tlo a + 1) = thi a b := rfl
  have h3 : 0 ≤ b % (1000 - tlo a + 1) := Int.emod_nonneg _ (by omega)
  have h4 : b % (1000 - tlo a + 1) < 1000 - tlo a + 1 := Int.emod_lt_of_pos _ (by omega)
  have e7 : IntKind.i64.wrap (b % (1000 - tlo a + 1)) = b % (1000 - tlo a + 1) := wrap_id (by omega) (by omega)
  have e8 : IntKind.i64.wrap (thi a b) = thi a b := wrap_id (by omega) (by omega)
  simp [C_l05_Tide, w1, w2, e1, e2, e3, e4, e5, e6, e8]
  refine CallK.pure B_l05_span (l05_span_spec _ _ _) ?_
  simp [tideV]

/-! ### stands -/
theorem sumI_add {f g e : PartM → Nat → Int} (L : Int) : ∀ (l : List PartM) (k : Nat), (∀ p k, f p k + g p k = e p k * L) → sumI f k l + sumI g k l = sumI e k l * L
  | [], _, _ => by simp [sumI]
  | p :: r, k, h => by
    have ih := sumI_add (f := f) (g := g) (e := e) L r (k + 1) h
    have h0 := h p k
    simp only [sumI]
    rw [Int.add_mul]
    omega

theorem in_sum (h : HullM) (t : TruthM) (w : Int) : inZ h t w 1 + inZ h t w 2 = inZ h t w 0 * (h.fore - h.aft) := by
  refine sumI_add _ _ _ fun p k => ?_
  generalize (t.ws[k]?.getD 0) - (t.ls[k]?.getD 0) * ovZ w p.keel = x
  simp only [armZ]
  simp only [show ((1 : Nat) = 0) = False by simp, show ((2 : Nat) = 0) = False by simp, show ((2 : Nat) = 1) = False by simp, if_true, if_false, Int.sub_mul, Int.mul_sub, Int.one_mul]
  rw [Int.mul_comm x h.fore, Int.mul_comm x h.aft]
  omega

def standsF (h : HullM) (t : TruthM) (w : Int) : Bool := decide ((forcesF h t w).2 = 0) && (decide (bearE h t w (forcesF h t w).1 = 0) && bearsPF h t w (forcesF h t w).1)

theorem frc_len (h : HullM) (t : TruthM) (w : Int) : (forcesF h t w).1.length ≤ maxLen := by
  unfold forcesF
  split
  · simp [maxLen]
  · split <;> simp [maxLen]
theorem max0_nn {n : Int} (h : 0 ≤ n) : max0 n = n := by unfold max0; split <;> omega

theorem l05_stands_spec (h : HullM) (t : TruthM) (hl : h.ps.length ≤ maxLen) (w : Int) (σ : AHeap) : Spec Try.prog F_l05_stands [h.v, t.v, ii' w] σ fun r σ' => r = .ret (.bool (standsF h t w)) ∧ σ' = σ := by
  refine Spec.pureFn (spec_l05_stands (by simp) (awpC_sound _ ?_)) (by simp [h.pure, t.pure]) rfl σ
  simp [C_l05_stands, HullM.v, HullM.cells, TruthM.v]
  refine CallK.pure B_stand_Forces (stand_Forces_spec h t hl w _) ?_
  have hfl := frc_len h t w
  refine (Classical.em ((forcesF h t w).2 = 0)).elim (fun h0 => ?_) (fun h0 => ?_)
  rotate_left
  · simp [h0, standsF, frcV]
  simp [h0, frcV]
  refine CallK.pure B_stand_Bears (stand_Bears_spec h t hl w _ hfl _) ?_
  refine (Classical.em (bearE h t w (forcesF h t w).1 = 0)).elim (fun h1 => ?_) (fun h1 => ?_)
  · simp [h0, h1, standsF]
  · simp [h0, h1, standsF]

theorem bears_own {h : HullM} (hf : Fine h) {t : TruthM} (ht : TrueOf h t) {w : Int} (h0 : 0 ≤ w) (hw : w ≤ 1000) (hs : whyF (inZ h t w 0) (inZ h t w 1) (inZ h t w 2) = 0) :
    bearsP h.aft h.fore (longF h) (inZ h t w 0) (inZ h t w 1) [(h.aft, inZ h t w 2), (h.fore, inZ h t w 1)] 0 0 = true := by
  obtain ⟨s0, s1, s2⟩ := whyF_zero.1 hs
  have hsum := in_sum h t w
  have b0 := inZ_b hf ht h0 hw 0
  have b1 := inZ_b hf ht h0 hw 1
  have b2 := inZ_b hf ht h0 hw 2
  have a1 := hf.aft; have a2 := hf.lt; have a3 := hf.fore
  generalize inZ h t w 0 = S0 at *
  generalize inZ h t w 1 = S1 at *
  generalize inZ h t w 2 = S2 at *
  have hl : longF h = h.fore - h.aft := wrap_id (by omega) (by omega)
  have m := mul_b (a := S1) (b := h.fore - h.aft) (A := 4000000000000) (B := 5000) (by omega) (by omega) (by omega) (by omega)
  have m0 : wr (S0 * (h.fore - h.aft)) = S0 * (h.fore - h.aft) := wrap_id (by omega) (by omega)
  have m1 : wr (S1 * (h.fore - h.aft)) = S1 * (h.fore - h.aft) := wrap_id (by omega) (by omega)
  have d0 : wr (h.aft - h.aft) = 0 := by rw [Int.sub_self]; decide
  have d1 : wr (h.fore - h.aft) = h.fore - h.aft := wrap_id (by omega) (by omega)
  have c1 : wr (0 + S2) = S2 := by rw [Int.zero_add]; exact wrap_id (by omega) (by omega)
  have c2 : wr (S2 + S1) = S0 * (h.fore - h.aft) := by rw [Int.add_comm, hsum]; exact m0
  have c3 : wr (0 + wr (S2 * 0)) = 0 := by rw [Int.mul_zero]; decide
  have c4 : wr (0 + S1 * (h.fore - h.aft)) = S1 * (h.fore - h.aft) := by rw [Int.zero_add]; exact m1
  have x0 : wr (S0 * (h.fore - h.aft) - 0) = S0 * (h.fore - h.aft) := by rw [Int.sub_zero]; exact m0
  have x1 : wr (S0 * (h.fore - h.aft) - S2) = S1 := by rw [← hsum, show S1 + S2 - S2 = S1 by omega]; exact wrap_id (by omega) (by omega)
  simp only [bearsP, hl, m0, m1, d0, d1, c1, c2, c3, c4, x0, x1]
  have o1 : outF h.aft h.fore h.aft = false := by simp only [outF, Bool.or_eq_false_iff, decide_eq_false_iff_not]; omega
  have o2 : outF h.aft h.fore h.fore = false := by simp only [outF, Bool.or_eq_false_iff, decide_eq_false_iff_not]; omega
  have o3 : outF 0 (max0 (S0 * (h.fore - h.aft))) S2 = false := by rw [← hsum, max0_nn (by omega)]; simp only [outF, Bool.or_eq_false_iff, decide_eq_false_iff_not]; omega
  have o4 : outF 0 (max0 S1) S1 = false := by rw [max0_nn (by omega)]; simp only [outF, Bool.or_eq_false_iff, decide_eq_false_iff_not]; omega
  simp [o1, o2, o3, o4]
  omega

theorem standsF_eq {h : HullM} (he : eF h = 0) {t : TruthM} (ht : TrueOf h t) {w : Int} (h0 : 0 ≤ w) (hw : w ≤ 1000) : standsF h t w = decide (whyF (inZ h t w 0) (inZ h t w 1) (inZ h t w 2) = 0) := by
  have hf := fine_of he
  have htr : truthE h t = 0 := truthE_zero.2 ⟨he, ht⟩
  have hwe : wetE 0 w = 0 := by simp [wetE, beyondF, outF]; omega
  have hF : forcesF h t w = if whyF (inZ h t w 0) (inZ h t w 1) (inZ h t w 2) ≠ 0 then ([], 9) else ([(h.aft, inZ h t w 2), (h.fore, inZ h t w 1)], 0) := by
    unfold forcesF; rw [htr, hwe, inS_z hf ht h0 hw, inS_z hf ht h0 hw, inS_z hf ht h0 hw]; simp
  unfold standsF
  rw [hF]
  by_cases hs : whyF (inZ h t w 0) (inZ h t w 1) (inZ h t w 2) = 0
  · have hb := bears_own hf ht h0 hw hs
    simp only [hs, ne_eq, not_true_eq_false, if_false]
    have hE : bearE h t w [(h.aft, inZ h t w 2), (h.fore, inZ h t w 1)] = 0 := by simp [bearE, htr, hwe]
    unfold bearsPF
    rw [hE, inS_z hf ht h0 hw, inS_z hf ht h0 hw, hb]
    rfl
  · simp [hs]

/-- Where the hull surely stands, it stands in every truth. -/
theorem stands_sure {h : HullM} (he : eF h = 0) {t : TruthM} (ht : TrueOf h t) {w : Int} (h0 : 0 ≤ w) (hw : w ≤ 1000) (hs : whyZ h w = 0) : standsF h t w = true := by
  have hf := fine_of he
  rw [standsF_eq he ht h0 hw, decide_eq_true_iff, whyF_zero]
  obtain ⟨s0, s1, s2⟩ := whyF_zero.1 hs
  have l0 := least_le_in hf ht hw 0
  have l1 := least_le_in hf ht hw 1
  have l2 := least_le_in hf ht hw 2
  omega

/-! ### Any truth -/
def anyT (h : HullM) (l : List Int) : TruthM := { ws := h.ps.mapIdx fun k p => amongF p.wLo p.wHi (turnF l (2 * k)), ls := h.ps.mapIdx fun k p => amongF p.lLo p.lHi (turnF l (2 * k + 1)) }

theorem turnF_b {l : List Int} (hl : ∀ x ∈ l, 0 ≤ x ∧ x ≤ 4294967295) (n : Nat) : 0 ≤ turnF l n ∧ turnF l n ≤ 4294967295 := by
  unfold turnF
  split
  · omega
  · rename_i h0
    have hlt : n % l.length < l.length := Nat.mod_lt _ (by omega)
    rw [List.getElem?_eq_getElem hlt]
    have := hl _ (List.getElem_mem hlt)
    simp only [Option.getD_some]
    rw [show wr (l[n % l.length]'hlt) = l[n % l.length]'hlt from wrap_id (by omega) (by omega)]
    exact this

theorem amongF_b {lo hi n : Int} (h0 : 0 ≤ lo) (h1 : lo ≤ hi) (h2 : hi ≤ 3000000) (hn : 0 ≤ n) (_hn2 : n ≤ 4294967295) : wr (wr (hi - lo) + 1) ≠ 0 ∧ lo ≤ amongF lo hi n ∧ amongF lo hi n ≤ hi ∧ amongF lo hi n = lo + n % (hi - lo + 1) := by
  have w1 : wr (hi - lo) = hi - lo := wrap_id (by omega) (by omega)
  have w2 : wr (hi - lo + 1) = hi - lo + 1 := wrap_id (by omega) (by omega)
  unfold amongF
  rw [w1, w2, Int.tmod_eq_emod_of_nonneg hn]
  have h3 : 0 ≤ n % (hi - lo + 1) := Int.emod_nonneg _ (by omega)
  have h4 : n % (hi - lo + 1) < hi - lo + 1 := Int.emod_lt_of_pos _ (by omega)
  have w3 : wr (lo + n % (hi - lo + 1)) = lo + n % (hi - lo + 1) := wrap_id (by omega) (by omega)
  rw [w3]
  omega

theorem anyT_true {h : HullM} (hf : Fine h) {l : List Int} (hl : ∀ x ∈ l, 0 ≤ x ∧ x ≤ 4294967295) : TrueOf h (anyT h l) where
  lw := by simp [anyT]
  ll := by simp [anyT]
  w := fun i hi => by
    have hp := hf.part _ (List.getElem_mem hi)
    have ht := turnF_b hl (2 * i)
    have := amongF_b hp.w.1 hp.w.2.1 hp.w.2.2 ht.1 ht.2
    simp only [anyT, List.getElem_mapIdx]
    exact ⟨this.2.1, this.2.2.1⟩
  l := fun i hi => by
    have hp := hf.part _ (List.getElem_mem hi)
    have ht := turnF_b hl (2 * i + 1)
    have := amongF_b hp.l.1 hp.l.2.1 (by have := hp.l; omega) ht.1 ht.2
    simp only [anyT, List.getElem_mapIdx]
    exact ⟨this.2.1, this.2.2.1⟩

theorem l05_Truth_spec (h : HullM) (hf : Fine h) (l : List Int) (hll : l.length ≤ maxLen) (hl : ∀ x ∈ l, 0 ≤ x ∧ x ≤ 4294967295) (σ : AHeap) :
    Spec Try.prog F_l05_Truth [h.v, .slice 1 (l.map uu)] σ fun r σ' => r = .ret (anyT h l).v ∧ σ' = σ := by
  refine Spec.pureFn (spec_l05_Truth (by simp) (awpC_sound _ ?_)) (by simp [h.pure, pures_map (f := uu) (fun _ => rfl) l]) (TruthM.pure _) σ
  simp [C_l05_Truth, HullM.v, HullM.cells]
  obtain ⟨W, hW⟩ : ∃ W : List Int, W = (anyT h l).ws := ⟨_, rfl⟩
  obtain ⟨L, hL⟩ : ∃ L : List Int, L = (anyT h l).ls := ⟨_, rfl⟩
  have hWl : W.length = h.ps.length := by rw [hW]; simp [anyT]
  have hLl : L.length = h.ps.length := by rw [hL]; simp [anyT]
  have hl10 := hf.len.2
  have hlu : pures (l.map uu) = true := pures_map (f := uu) (fun _ => rfl) l
  refine AW.loop (ι := Nat) (fun i fr σ => ∃ tl, fr = { v := [(1, .slice 1 (l.map uu)), (2, .pval (.agg [.slice 7 (h.ps.map PartM.v), ii' h.aft, ii' h.fore])), (4, .ptr 0 0), (5, .ptr 3 0), (6, .int .i64 i)], ds := [] } ∧
      σ = .box [.slice 1 [], .slice 1 []] :: .spare 1 i :: .spare 1 i :: .box [.oslice 1 ((W.take i).map ii') 1 i, .oslice 1 ((L.take i).map ii') 2 i] :: tl ∧ i ≤ h.ps.length) (fun i => h.ps.length - i) 0 ⟨_, by simp, rfl, by omega⟩ ?_
  rintro i fr σ ⟨tl, rfl, rfl, hi⟩
  refine (Nat.lt_or_ge i h.ps.length).elim (fun hlt => ?_) (fun hge => ?_)
  · obtain ⟨x, hx⟩ : ∃ x, h.ps[i] = x := ⟨_, rfl⟩
    have hxf : PFine x := hx ▸ hf.part _ (List.getElem_mem hlt)
    have ht0 := turnF_b hl (2 * i)
    have ht1 := turnF_b hl (2 * i + 1)
    have ha0 := amongF_b hxf.w.1 hxf.w.2.1 hxf.w.2.2 ht0.1 ht0.2
    have ha1 := amongF_b hxf.l.1 hxf.l.2.1 (by have := hxf.l; omega) ht1.1 ht1.2
    have hWi : W[i]? = some (amongF x.wLo x.wHi (turnF l (2 * i))) := by rw [hW]; simp [anyT, hlt, hx]
    have hLi : L[i]? = some (amongF x.lLo x.lHi (turnF l (2 * i + 1))) := by rw [hL]; simp [anyT, hlt, hx]
    have hW1 : (W.take i).map ii' ++ [ii' (amongF x.wLo x.wHi (turnF l (2 * i)))] = (W.take (i + 1)).map ii' := by rw [List.take_add_one, hWi]; simp
    have hL1 : (L.take i).map ii' ++ [ii' (amongF x.lLo x.lHi (turnF l (2 * i + 1)))] = (L.take (i + 1)).map ii' := by rw [List.take_add_one, hLi]; simp
    have hmin1 : min i W.length = i := by omega
    have hmin2 : min i L.length = i := by omega
    have hfit : ∀ n : Int, Fits 1 [ii' n] := fun n v hv => by simp at hv; subst hv; exact ⟨⟨rfl, rfl⟩, rfl⟩
    have hw : IntKind.i64.wrap ((i : Int) + 1) = (i : Int) + 1 := wrap_id (by omega) (by omega)
    have hw2 : IntKind.i64.wrap (2 * (i : Int)) = ((2 * i : Nat) : Int) := by rw [wrap_id (by omega) (by omega)]; simp
    have hw3 : IntKind.i64.wrap (2 * (i : Int) + 1) = ((2 * i + 1 : Nat) : Int) := by rw [wrap_id (by omega) (by omega)]; simp
    have e2i : 2 * (i : Int) = ((2 * i : Nat) : Int) := by simp
    refine awpC_sound _ ?_
    simp [hlt, hx, hlu, hw2, PartM.v, PartM.cells]
    refine ⟨.int .i64 (turnF l (2 * i)), fun σ' _ => by rw [e2i]; exact CallV.func B_l05_turn (l05_turn_spec l hll (2 * i) (by simp only [maxLen]; omega) σ'), .int .i64 (amongF x.wLo x.wHi (turnF l (2 * i))), ?_⟩
    simp [hmin1, hfit]
    refine ⟨fun σ' => CallV.func B_l05_among (l05_among_spec _ _ _ ha0.1 σ'), by omega, .int .i64 (turnF l (2 * i + 1)), fun σ' _ => by rw [hw3]; exact CallV.func B_l05_turn (l05_turn_spec l hll (2 * i + 1) (by simp only [maxLen]; omega) σ'), .int .i64 (amongF x.lLo x.lHi (turnF l (2 * i + 1))), ?_⟩
    simp [hmin2, hfit, hw]
    rw [List.map_take, List.map_take] at hW1 hL1
    refine ⟨fun σ' => CallV.func B_l05_among (l05_among_spec _ _ _ ha1.1 σ'), by omega, i + 1, by omega, by simp, ⟨rfl, ⟨hW1, rfl⟩, hL1, rfl⟩, by omega⟩
  · have hnl : ¬ i < h.ps.length := by omega
    refine awpC_sound _ ?_
    simp [hnl]
    rw [List.take_of_length_le (by simp; omega), List.take_of_length_le (by simp; omega), hW, hL]
    rfl
end Go.AM

namespace Go.AM
open Go.RowKit Go.Proofs
set_option maxRecDepth 100000
set_option maxHeartbeats 1000000

def tyArr (P : Program) (t : TypeId) : Option (Nat × TypeId) :=
  match P.underlying t with
  | some (.array n e) => some (n, e)
  | _ => none
theorem Shaped.arr {P : Program} {k n : Nat} {t e : TypeId} {us : List AVal} (h : Shaped P (k + 1) t us) (hu : tyArr P t = some (n, e)) : shapedN (Shaped P k e) n us := by
  simp only [Shaped] at h
  unfold tyArr at hu
  split at hu
  · rename_i n' e' he
    rw [he] at h
    simp only [Option.some.injEq, Prod.mk.injEq] at hu
    obtain ⟨rfl, rfl⟩ := hu
    exact h
  · cases hu

theorem shaped_kind {P : Program} {t : TypeId} {q : IntKind} {us : List AVal} {k : Nat} (h : Shaped P (k + 1) t us) (hu : tyInt P t = some q) : ∃ n, us = [.int q n] ∧ q.min ≤ n ∧ n ≤ q.max := h.int hu
theorem u16_b {n : Int} (h1 : IntKind.u16.min ≤ n) (h2 : n ≤ IntKind.u16.max) : 0 ≤ n ∧ n ≤ 65535 := by
  have e1 : IntKind.u16.min = 0 := by decide
  have e2 : IntKind.u16.max = 65535 := by decide
  omega
theorem u32_b {n : Int} (h1 : IntKind.u32.min ≤ n) (h2 : n ≤ IntKind.u32.max) : 0 ≤ n ∧ n ≤ 4294967295 := by
  have e1 : IntKind.u32.min = 0 := by decide
  have e2 : IntKind.u32.max = 4294967295 := by decide
  omega
theorem ty68 : tyFs Try.prog 68 = some [65, 64, 66] := by kernel_rfl
theorem ty65 : tyArr Try.prog 65 = some (2, 64) := by kernel_rfl
theorem ty86 : tyArr Try.prog 86 = some (4, 64) := by kernel_rfl
theorem ty79 : tyArr Try.prog 79 = some (2, 78) := by kernel_rfl
theorem ty64 : tyInt Try.prog 64 = some .u16 := by kernel_rfl
theorem ty78 : tyInt Try.prog 78 = some .u32 := by kernel_rfl
theorem ty66 : tySl Try.prog 66 = some (78, 1, false) := by kernel_rfl

theorem shaped_u16 {k : Nat} {us : List AVal} (h : Shaped Try.prog (k + 1) 64 us) : ∃ n, us = [hh n] ∧ 0 ≤ n ∧ n ≤ 65535 := by
  obtain ⟨n, rfl, h1, h2⟩ := h.int ty64
  exact ⟨n, rfl, u16_b h1 h2⟩
theorem shaped_u32 {k : Nat} {us : List AVal} (h : Shaped Try.prog (k + 1) 78 us) : ∃ n, us = [uu n] ∧ 0 ≤ n ∧ n ≤ 4294967295 := by
  obtain ⟨n, rfl, h1, h2⟩ := h.int ty78
  exact ⟨n, rfl, u32_b h1 h2⟩
theorem shaped_two16 {k : Nat} {us : List AVal} (h : Shaped Try.prog (k + 2) 65 us) : ∃ a b, us = [hh a, hh b] ∧ (0 ≤ a ∧ a ≤ 65535) ∧ 0 ≤ b ∧ b ≤ 65535 := by
  obtain ⟨a, r, rfl, h1, b, r2, rfl, h2, rfl⟩ := h.arr ty65
  obtain ⟨x, rfl, g1⟩ := shaped_u16 h1
  obtain ⟨y, rfl, g2⟩ := shaped_u16 h2
  exact ⟨x, y, rfl, g1, g2⟩
theorem shaped_four16 {k : Nat} {us : List AVal} (h : Shaped Try.prog (k + 2) 86 us) : ∃ a b c d, us = [hh a, hh b, hh c, hh d] ∧ (0 ≤ a ∧ a ≤ 65535) ∧ (0 ≤ b ∧ b ≤ 65535) ∧ (0 ≤ c ∧ c ≤ 65535) ∧ 0 ≤ d ∧ d ≤ 65535 := by
  obtain ⟨a, r, rfl, h1, b, r2, rfl, h2, c, r3, rfl, h3, d, r4, rfl, h4, rfl⟩ := h.arr ty86
  obtain ⟨x, rfl, g1⟩ := shaped_u16 h1
  obtain ⟨y, rfl, g2⟩ := shaped_u16 h2
  obtain ⟨z, rfl, g3⟩ := shaped_u16 h3
  obtain ⟨w, rfl, g4⟩ := shaped_u16 h4
  exact ⟨x, y, z, w, rfl, g1, g2, g3, g4⟩
theorem shaped_two32 {k : Nat} {us : List AVal} (h : Shaped Try.prog (k + 2) 79 us) : ∃ a b, us = [uu a, uu b] ∧ (0 ≤ a ∧ a ≤ 4294967295) ∧ 0 ≤ b ∧ b ≤ 4294967295 := by
  obtain ⟨a, r, rfl, h1, b, r2, rfl, h2, rfl⟩ := h.arr ty79
  obtain ⟨x, rfl, g1⟩ := shaped_u32 h1
  obtain ⟨y, rfl, g2⟩ := shaped_u32 h2
  exact ⟨x, y, rfl, g1, g2⟩

def Draws (l : List Int) : Prop := l.length ≤ maxLen ∧ ∀ x ∈ l, 0 ≤ x ∧ x ≤ 4294967295
theorem shaped_draws {k : Nat} {us : List AVal} (h : Shaped Try.prog (k + 2) 66 us) : ∃ l : List Int, us = [.slice 1 (l.map uu)] ∧ Draws l := by
  obtain ⟨xs, rfl, hl, hx⟩ := h.sl ty66
  obtain ⟨l, rfl, g⟩ := list_of (f := uu) (p := fun x => 0 ≤ x ∧ x ≤ 4294967295) (xs := xs) fun v hv => by
    obtain ⟨cs, g1, g2⟩ := hx v hv
    obtain ⟨n, rfl, g3⟩ := shaped_u32 g1
    exact ⟨n, g2, g3⟩
  exact ⟨l, rfl, by simpa using hl, g⟩

/-- A tide, a height of water, a truth, by turns. -/
structure WetM where
  a : Int
  b : Int
  w : Int
  l : List Int
  ha : 0 ≤ a ∧ a ≤ 65535
  hb : 0 ≤ b ∧ b ≤ 65535
  hw : 0 ≤ w ∧ w ≤ 65535
  hl : Draws l
def WetM.v (x : WetM) : AVal := .agg [hh x.a, hh x.b, hh x.w, .slice 1 (x.l.map uu)]
theorem WetM.pure (x : WetM) : x.v.pure = true := by simp [WetM.v, AVal.pure, pures, pures_map (f := uu) (fun _ => rfl) x.l]
theorem shaped_wet {us : List AVal} (h : Shaped Try.prog 5 68 us) : ∃ x : WetM, us = [hh x.a, hh x.b, hh x.w, .slice 1 (x.l.map uu)] := by
  obtain ⟨a, r, rfl, h1, b, r2, rfl, h2, c, r3, rfl, h3, rfl⟩ := h.fs ty68
  obtain ⟨x, y, rfl, g1, g2⟩ := shaped_two16 h1
  obtain ⟨w, rfl, g3⟩ := shaped_u16 h2
  obtain ⟨l, rfl, g4⟩ := shaped_draws h3
  exact ⟨⟨x, y, w, l, g1, g2, g3, g4⟩, rfl⟩

theorem spanErr_ok {lo hi : Int} (h0 : 0 ≤ lo) (h1 : lo ≤ hi) (h2 : hi ≤ 1000) : spanErr (lo, hi) 0 1000 = 0 := by
  rw [spanErr_out, if_neg, if_neg (by omega)]
  simp [beyondF, outF]; omega
theorem whyR_ok {h : HullM} (he : eF h = 0) {lo hi : Int} (h0 : 0 ≤ lo) (h1 : lo ≤ hi) (h2 : hi ≤ 1000) : whyR h lo hi = ((firstR h lo hi).1, (firstR h lo hi).2, 0) := by
  unfold whyR; rw [spanErr_ok h0 h1 h2]; simp [he]

theorem stand_Why_at {h : HullM} (hl : h.ps.length ≤ maxLen) {lo hi a b c : Int} (hw : whyR h lo hi = (a, b, c)) (σ : AHeap) : Spec Try.prog F_stand_Why [h.v, .agg [ii' lo, ii' hi]] σ fun r σ' => r = .ret (.tup [ii' a, ii' b, ii' c]) ∧ σ' = σ := by
  have := stand_Why_spec h hl lo hi σ
  rw [hw] at this
  exact this
theorem l05_valid_no {h : HullM} (hl : h.ps.length ≤ maxLen) (he : ¬ eF h = 0) (σ : AHeap) : Spec Try.prog F_l05_valid [h.v] σ fun r σ' => r = .ret (.bool false) ∧ σ' = σ := by
  have := l05_valid_spec h hl σ
  rw [← eF_eq, decide_eq_false he] at this
  exact this
theorem l05_valid_yes {h : HullM} (hl : h.ps.length ≤ maxLen) (he : eF h = 0) (σ : AHeap) : Spec Try.prog F_l05_valid [h.v] σ fun r σ' => r = .ret (.bool true) ∧ σ' = σ := by
  have := l05_valid_spec h hl σ
  rw [← eF_eq, decide_eq_true he] at this
  exact this
theorem l05_Tide_at (x : WetM) {lo hi : Int} (h1 : tlo x.a = lo) (h2 : thi x.a x.b = hi) (σ : AHeap) : Spec Try.prog F_l05_Tide [.agg [hh x.a, hh x.b]] σ fun r σ' => r = .ret (.agg [ii' lo, ii' hi]) ∧ σ' = σ := by
  have := l05_Tide_spec x.a x.b x.ha x.hb σ
  rw [h1, h2] at this
  exact this
theorem why_cases {h : HullM} (he : eF h = 0) {lo hi : Int} (ht : 0 ≤ lo ∧ lo ≤ hi ∧ hi ≤ 1000) :
    (whyR h lo hi = (0, 0, 0) ∧ ∀ w, lo ≤ w → w ≤ hi → whyZ h w = 0) ∨ ∃ w0, lo ≤ w0 ∧ w0 ≤ hi ∧ 1 ≤ whyZ h w0 ∧ whyZ h w0 ≤ 3 ∧ (∀ w, lo ≤ w → w < w0 → whyZ h w = 0) ∧ whyR h lo hi = (whyZ h w0, w0, 0) := by
  have hw := whyR_ok he ht.1 ht.2.1 ht.2.2
  rcases firstN_cases h lo (hi - lo + 1).toNat with ⟨e, hall⟩ | ⟨w0, g1, g2, g3, g4, e⟩
  · left
    have hfi : firstR h lo hi = (0, 0) := e
    rw [hfi] at hw
    exact ⟨hw, fun w k1 k2 => hall w k1 (by omega)⟩
  · right
    have hfi : firstR h lo hi = (whyZ h w0, w0) := e
    rw [hfi] at hw
    have hr := whyF_range (leastZ h w0 0) (leastZ h w0 1) (leastZ h w0 2)
    have hr1 : 1 ≤ whyZ h w0 ∧ whyZ h w0 ≤ 3 := by unfold whyZ at *; omega
    exact ⟨w0, g1, by omega, hr1.1, hr1.2, g4, hw⟩

theorem CallV.fn0 {P : Program} {f : FuncId} (hb : hasBody P f = true) {args : List AVal} {σ : AHeap} {Q : ARes → AHeap → Prop} (hs : Spec P f args σ Q) : CallV P (.func (.func f) [] []) args σ Q := CallV.func hb (by simpa using hs)
theorem stands_yes {h : HullM} (hl : h.ps.length ≤ maxLen) {t : TruthM} {w : Int} (hs : standsF h t w = true) (σ : AHeap) : Spec Try.prog F_l05_stands [h.v, t.v, ii' w] σ fun r σ' => r = .ret (.bool true) ∧ σ' = σ := by
  have := l05_stands_spec h t hl w σ
  rw [hs] at this
  exact this

theorem true_spec (h : HullM) (hl : h.ps.length ≤ maxLen) (x : WetM) (awake_spec : ∀ σ, Spec Try.prog F_l05_Awake [] σ fun r σ' => r = .ret (.bool true) ∧ σ' = σ) :
    Spec Try.prog F_l05_StandTrue [h.v, x.v] [] fun r _ => r = .ret (.bool true) := by
  have ht := tide_b x.ha.1 x.hb.1
  obtain ⟨lo, hlo⟩ : ∃ lo, tlo x.a = lo := ⟨_, rfl⟩
  obtain ⟨hi, hhi⟩ : ∃ hi, thi x.a x.b = hi := ⟨_, rfl⟩
  rw [hlo, hhi] at ht
  have hpu : pures (h.ps.map PartM.v) = true := pures_map (f := PartM.v) (fun _ => rfl) h.ps
  have hlu : pures (x.l.map uu) = true := pures_map (f := uu) (fun _ => rfl) x.l
  by_cases he : eF h = 0
  rotate_left
  · have hw : whyR h lo hi = (0, 0, eF h) := by simp [whyR, he]
    refine spec_l05_StandTrue (by simp) (awpC_sound _ ?_)
    simp [C_l05_StandTrue, HullM.v, HullM.cells, WetM.v]
    refine CallK.pure B_l05_Tide (l05_Tide_at x hlo hhi _) ?_
    simp
    refine CallK.pure B_stand_Why (stand_Why_at hl hw _) ?_
    simp
    refine CallK.pure B_l05_valid (l05_valid_no hl he _) ?_
    simp [he]
    exact CallK.pure B_l05_Awake (awake_spec _) (by simp [he])
  have hf := fine_of he
  rcases why_cases he ht with ⟨hw, hall⟩ | ⟨w0, g1, g2, r1, r2, _, hw⟩
  · have ham := amongF_b ht.1 ht.2.1 (by omega) x.hw.1 (by have := x.hw; omega)
    have hst := stands_sure he (anyT_true hf x.hl.2) (by omega : 0 ≤ amongF lo hi x.w) (by omega) (hall _ ham.2.1 ham.2.2.1)
    have hpt : (anyT h x.l).v.pure = true := TruthM.pure _
    have hwx : IntKind.i64.wrap x.w = x.w := wrap_id (by have := x.hw; omega) (by have := x.hw; omega)
    refine spec_l05_StandTrue (by simp) (awpC_sound _ ?_)
    simp [C_l05_StandTrue, HullM.v, HullM.cells, WetM.v]
    refine CallK.pure B_l05_Tide (l05_Tide_at x hlo hhi _) ?_
    simp
    refine CallK.pure B_stand_Why (stand_Why_at hl hw _) ?_
    simp
    refine CallK.pure B_l05_valid (l05_valid_yes hl he _) ?_
    simp [hpu, hlu, hwx]
    refine ⟨_, fun σ' _ => CallV.func B_l05_Truth (l05_Truth_spec h hf x.l x.hl.1 x.hl.2 σ'), ?_⟩
    simp [TruthM.v]
    refine ⟨_, fun σ' => CallV.func B_l05_among (l05_among_spec _ _ _ ham.1 σ'), ?_⟩
    have hp2 : ∀ l : List Int, pures (l.map ii') = true := pures_map (f := ii') (fun _ => rfl)
    simp
    refine ⟨.bool true, fun σ' _ => CallV.fn0 B_l05_stands (stands_yes hl hst σ'), ?_⟩
    simp
    exact ⟨.bool true, fun σ' => CallV.fn0 B_l05_Awake (awake_spec σ'), by simp⟩
  · obtain ⟨y, hy⟩ : ∃ y, whyZ h w0 = y := ⟨_, rfl⟩
    rw [hy] at r1 r2 hw
    have hy0 : ¬ y = 0 := by omega
    refine spec_l05_StandTrue (by simp) (awpC_sound _ ?_)
    simp [C_l05_StandTrue, HullM.v, HullM.cells, WetM.v]
    refine CallK.pure B_l05_Tide (l05_Tide_at x hlo hhi _) ?_
    simp
    refine CallK.pure B_stand_Why (stand_Why_at hl hw _) ?_
    simp
    refine CallK.pure B_l05_valid (l05_valid_yes hl he _) ?_
    simp [hy0, r1, r2, g1, g2]
    exact CallK.pure B_l05_Awake (awake_spec _) (by simp [r1, r2, g1, g2])
end Go.AM
