/- Forces and Bears: of the program and of the document; both say the same. -/
import Derived.Test.YtmgbkmobhjjkiaaT40
namespace Go.AM
open Go.Proofs
set_option maxRecDepth 100000
set_option maxHeartbeats 1000000

def whyF (a b c : Int) : Int := if a ≤ 0 then 1 else if b < 0 then 2 else if c < 0 then 3 else 0

theorem stand_why_spec (a b c : Int) (σ : AHeap) : Spec Try.prog F_stand_sums_why [.agg [ii' a, ii' b, ii' c]] σ fun r σ' => r = .ret (ii' (whyF a b c)) ∧ σ' = σ := by
  refine Spec.pureFn (spec_stand_sums_why (by simp) (awpC_sound _ ?_)) rfl rfl σ
  refine (Classical.em (a ≤ 0)).elim (fun h1 => ?_) (fun h1 => ?_)
  · simp [C_stand_sums_why, h1, whyF]
  refine (Classical.em (b < 0)).elim (fun h2 => ?_) (fun h2 => ?_)
  · simp [C_stand_sums_why, h1, h2, whyF]
  refine (Classical.em (c < 0)).elim (fun h3 => ?_) (fun h3 => ?_)
  · simp [C_stand_sums_why, h1, h2, h3, whyF]
  · simp [C_stand_sums_why, h1, h2, h3, whyF]

theorem r05_Reason_spec (a b c : Int) (σ : AHeap) : Spec Try.prog F_r05_Reason [.agg [ii' a, ii' b, ii' c]] σ fun r σ' => r = .ret (ii' (whyF a b c)) ∧ σ' = σ := by
  refine Spec.pureFn (spec_r05_Reason (by simp) (awpC_sound _ ?_)) rfl rfl σ
  refine (Classical.em (a ≤ 0)).elim (fun h1 => ?_) (fun h1 => ?_)
  · simp [C_r05_Reason, h1, whyF]
  refine (Classical.em (b < 0)).elim (fun h2 => ?_) (fun h2 => ?_)
  · simp [C_r05_Reason, h1, h2, whyF]
  refine (Classical.em (c < 0)).elim (fun h3 => ?_) (fun h3 => ?_)
  · simp [C_r05_Reason, h1, h2, h3, whyF]
  · simp [C_r05_Reason, h1, h2, h3, whyF]

def frV (x : Int × Int) : AVal := .agg [ii' x.1, ii' x.2]
def frcV (l : List (Int × Int)) : AVal := .slice 2 (l.map frV)
theorem frcV_pure (l : List (Int × Int)) : (frcV l).pure = true := by simp [frcV, AVal.pure, pures_map (f := frV) (fun _ => rfl) l]

def forcesF (h : HullM) (t : TruthM) (water : Int) : List (Int × Int) × Int :=
  if wetE (truthE h t) water ≠ 0 then ([], wetE (truthE h t) water)
  else if whyF (inS h t water 0) (inS h t water 1) (inS h t water 2) ≠ 0 then ([], 9)
  else ([(h.aft, inS h t water 2), (h.fore, inS h t water 1)], 0)

theorem truth_len {h : HullM} {t : TruthM} (h0 : truthE h t = 0) : t.ws.length = h.ps.length ∧ t.ls.length = h.ps.length := by
  unfold truthE at h0
  split at h0
  · rename_i hx; exact absurd h0 hx
  · split at h0
    · cases h0
    · rename_i hx
      simp at hx
      exact hx

theorem stand_Forces_spec (h : HullM) (t : TruthM) (hl : h.ps.length ≤ maxLen) (water : Int) (σ : AHeap) :
    Spec Try.prog F_stand_Forces [h.v, t.v, ii' water] σ fun r σ' => r = .ret (.tup [frcV (forcesF h t water).1, ii' (forcesF h t water).2]) ∧ σ' = σ := by
  refine Spec.pureFn (spec_stand_Forces (by simp) (awpC_sound _ ?_)) (by simp [h.pure, t.pure]) (by simp [AVal.pure, pures, frcV_pure]) σ
  simp [C_stand_Forces, HullM.v, HullM.cells, TruthM.v]
  refine CallK.pure B_stand_open (stand_open_spec h t hl water _) ?_
  refine (Classical.em (truthE h t = 0)).elim (fun h0 => ?_) (fun h0 => ?_)
  · refine (Classical.em (wetE 0 water = 0)).elim (fun h1 => ?_) (fun h1 => ?_)
    · have hn := truth_len h0
      have hf : forcesF h t water = if whyF (inS h t water 0) (inS h t water 1) (inS h t water 2) ≠ 0 then ([], 9) else ([(h.aft, inS h t water 2), (h.fore, inS h t water 1)], 0) := by simp [forcesF, h0, h1]
      rw [hf]
      simp [h0, h1, HullM.v, HullM.cells]
      refine CallK.pure B_stand_body_in (stand_in_spec h t hl hn.1 hn.2 water _) ?_
      simp [sumsV]
      refine CallK.pure B_stand_sums_why (stand_why_spec _ _ _ _) ?_
      refine (Classical.em (whyF (inS h t water 0) (inS h t water 1) (inS h t water 2) = 0)).elim (fun h2 => ?_) (fun h2 => ?_)
      · simp [h2, frcV, frV]
      · simp [h2, frcV]
    · have hf : forcesF h t water = ([], wetE 0 water) := by simp [forcesF, h0, h1]
      rw [hf]
      simp [h0, h1, HullM.v, HullM.cells, frcV]
  · have h1 : ¬ wetE (truthE h t) water = 0 := fun e => h0 (wetE_zero' e)
    have hf : forcesF h t water = ([], wetE (truthE h t) water) := by simp [forcesF, h1]
    rw [hf]
    simp [h0, h1, HullM.v, HullM.cells, zeroH, frcV]

theorem r05_Forces_spec (h : HullM) (t : TruthM) (hl : h.ps.length ≤ maxLen) (water : Int) (σ : AHeap) :
    Spec Try.prog F_r05_Forces [h.v, t.v, ii' water] σ fun r σ' => r = .ret (.tup [frcV (forcesF h t water).1, ii' (forcesF h t water).2]) ∧ σ' = σ := by
  refine Spec.pureFn (spec_r05_Forces (by simp) (awpC_sound _ ?_)) (by simp [h.pure, t.pure]) (by simp [AVal.pure, pures, frcV_pure]) σ
  simp [C_r05_Forces, HullM.v, HullM.cells, TruthM.v]
  refine (Classical.em (wetE (truthE h t) water = 0)).elim (fun h1 => ?_) (fun h1 => ?_)
  · refine CallK.pureE B_r05_Balance (r05_Balance_spec h t hl water _) (show _ = AVal.tup [.agg [ii' (inS h t water 0), ii' (inS h t water 1), ii' (inS h t water 2)], ii' 0] by rw [← truth_eq, weighR_eq, h1]; rfl) ?_
    have hf : forcesF h t water = if whyF (inS h t water 0) (inS h t water 1) (inS h t water 2) ≠ 0 then ([], 9) else ([(h.aft, inS h t water 2), (h.fore, inS h t water 1)], 0) := by simp [forcesF, h1]
    rw [hf]
    simp
    refine CallK.pure B_r05_Reason (r05_Reason_spec _ _ _ _) ?_
    refine (Classical.em (whyF (inS h t water 0) (inS h t water 1) (inS h t water 2) = 0)).elim (fun h2 => ?_) (fun h2 => ?_)
    · simp [h2, frcV, frV]
    · simp [h2, frcV]
  · refine CallK.pureE B_r05_Balance (r05_Balance_spec h t hl water _) (show _ = AVal.tup [.agg [ii' 0, ii' 0, ii' 0], ii' (wetE (truthE h t) water)] by rw [← truth_eq, if_neg h1]; rfl) ?_
    have hf : forcesF h t water = ([], wetE (truthE h t) water) := by simp [forcesF, h1]
    rw [hf]
    simp [h1, frcV]

theorem r05_Alike_spec (l : List (Int × Int)) (hl : l.length ≤ maxLen) (σ : AHeap) : Spec Try.prog F_r05_Alike [frcV l, frcV l] σ fun r σ' => r = .ret (.bool true) ∧ σ' = σ := by
  refine Spec.pureFn (spec_r05_Alike (by simp) (awpC_sound _ ?_)) (by simp [frcV_pure]) rfl σ
  simp [C_r05_Alike, frcV]
  refine AW.loop (ι := Nat) (fun i fr σ => fr = { v := [(0, .slice 2 (l.map frV)), (1, .slice 2 (l.map frV)), (5, .bool true), (6, .int .i64 i)], ds := [] } ∧ i ≤ l.length) (fun i => l.length - i) 0 (by simp) ?_
  rintro i fr σ ⟨rfl, hi⟩
  refine (Nat.lt_or_ge i l.length).elim (fun hlt => ?_) (fun hge => ?_)
  · obtain ⟨x, hx⟩ : ∃ x, l[i] = x := ⟨_, rfl⟩
    refine awpC_sound _ ?_
    simp [hlt, hx, frV]
    exact ⟨i + 1, by omega, wrap_id (by omega) (by simp only [maxLen] at hl; omega), by omega⟩
  · have hnl : ¬ i < l.length := by omega
    refine awpC_sound _ ?_
    simp [hnl]

def max0 (n : Int) : Int := if 0 < n then n else 0
def bearsP (aft fore long s0 s1 : Int) : List (Int × Int) → Int → Int → Bool
  | [], all, turn => decide (0 < s0) && decide (all = wr (s0 * long)) && decide (turn = wr (s1 * long))
  | x :: r, all, turn => if outF aft fore x.1 || outF 0 (max0 (wr (wr (s0 * long) - all))) x.2 then false else bearsP aft fore long s0 s1 r (wr (all + x.2)) (wr (turn + wr (x.2 * wr (x.1 - aft))))
def bearsQ (aft fore : Int) : List (Int × Int) → Int → Int → Bool
  | [], left, turn => decide (left = 0) && decide (turn = 0)
  | x :: r, left, turn => if insF x.1 aft fore && insF x.2 0 left then bearsQ aft fore r (wr (left - x.2)) (wr (turn - wr (x.2 * wr (x.1 - aft)))) else false

def bearE (h : HullM) (t : TruthM) (water : Int) (l : List (Int × Int)) : Int := if wetE (truthE h t) water ≠ 0 then wetE (truthE h t) water else if 10 < l.length then 3 else 0
def longF (h : HullM) : Int := wr (h.fore - h.aft)
def bearsPF (h : HullM) (t : TruthM) (water : Int) (l : List (Int × Int)) : Bool := decide (bearE h t water l = 0) && bearsP h.aft h.fore (longF h) (inS h t water 0) (inS h t water 1) l 0 0
def bearsQF (h : HullM) (t : TruthM) (water : Int) (l : List (Int × Int)) : Bool := decide (bearE h t water l = 0) && decide (0 < inS h t water 0) && bearsQ h.aft h.fore l (wr (inS h t water 0 * longF h)) (wr (inS h t water 1 * longF h))

theorem r05_Bears_spec (h : HullM) (t : TruthM) (hl : h.ps.length ≤ maxLen) (water : Int) (l : List (Int × Int)) (hf : l.length ≤ maxLen) (σ : AHeap) :
    Spec Try.prog F_r05_Bears [h.v, t.v, ii' water, frcV l] σ fun r σ' => r = .ret (.tup [.bool (bearsQF h t water l), ii' (bearE h t water l)]) ∧ σ' = σ := by
  refine Spec.pureFn (spec_r05_Bears (by simp) (awpC_sound _ ?_)) (by simp [h.pure, t.pure, frcV_pure]) rfl σ
  simp [C_r05_Bears, HullM.v, HullM.cells, TruthM.v, frcV]
  refine (Classical.em (wetE (truthE h t) water = 0)).elim (fun h1 => ?_) (fun h1 => ?_)
  rotate_left
  · refine CallK.pureE B_r05_Balance (r05_Balance_spec h t hl water _) (show _ = AVal.tup [.agg [ii' 0, ii' 0, ii' 0], ii' (wetE (truthE h t) water)] by rw [← truth_eq, if_neg h1]; rfl) ?_
    have he : bearE h t water l = wetE (truthE h t) water := by simp [bearE, h1]
    simp [h1, bearsQF, he]
  refine CallK.pureE B_r05_Balance (r05_Balance_spec h t hl water _) (show _ = AVal.tup [.agg [ii' (inS h t water 0), ii' (inS h t water 1), ii' (inS h t water 2)], ii' 0] by rw [← truth_eq, weighR_eq, h1]; rfl) ?_
  refine (Classical.em (10 < l.length)).elim (fun h2 => ?_) (fun h2 => ?_)
  · have h2' : (10 : Int) < l.length := by omega
    have he : bearE h t water l = 3 := by simp [bearE, h1, h2]
    simp [h2', bearsQF, he]
  have h2' : ¬ (10 : Int) < l.length := by omega
  have he : bearE h t water l = 0 := by simp [bearE, h1, h2]
  refine (Classical.em (inS h t water 0 ≤ 0)).elim (fun h3 => ?_) (fun h3 => ?_)
  · have h3' : ¬ 0 < inS h t water 0 := by omega
    simp [h2', h3, h3', bearsQF, he]
  have h3' : 0 < inS h t water 0 := by omega
  have hq : bearsQF h t water l = bearsQ h.aft h.fore l (wr (inS h t water 0 * longF h)) (wr (inS h t water 1 * longF h)) := by simp [bearsQF, he, h3']
  rw [hq, he]
  simp [h2', h3, h3']
  refine AW.loop (ι := Nat) (fun i fr σ => ∃ left turn, fr = { v := [(3, .slice 2 (l.map frV)), (4, .pval (.agg [.slice 7 (h.ps.map PartM.v), ii' h.aft, ii' h.fore])), (12, ii' left), (13, ii' turn), (14, .int .i64 i)], ds := [] } ∧ i ≤ l.length ∧
      bearsQ h.aft h.fore l (wr (inS h t water 0 * longF h)) (wr (inS h t water 1 * longF h)) = bearsQ h.aft h.fore (l.drop i) left turn) (fun i => l.length - i) 0 ⟨wr (inS h t water 0 * longF h), wr (inS h t water 1 * longF h), by simp [longF], by simp, by simp⟩ ?_
  rintro i fr σ ⟨left, turn, rfl, hi, hs⟩
  refine (Nat.lt_or_ge i l.length).elim (fun hlt => ?_) (fun hge => ?_)
  · have hd : l.drop i = l[i] :: l.drop (i + 1) := List.drop_eq_getElem_cons hlt
    obtain ⟨x, hx⟩ : ∃ x, l[i] = x := ⟨_, rfl⟩
    rw [hd, hx] at hs
    simp only [bearsQ] at hs
    rw [hs]
    refine awpC_sound _ ?_
    simp [hlt, hx, frV]
    refine ⟨.bool (insF x.1 h.aft h.fore), fun σ' => CallV.func B_r05_in (r05_in_spec _ _ _ _), ?_⟩
    refine (tf (insF x.1 h.aft h.fore)).elim (fun h4 => ?_) (fun h4 => ?_)
    · simp [h4, hlt, hx, frV]
      refine ⟨.bool true, ?_⟩
      simp [h4, hlt, hx, frV]
    · simp [h4, hlt, hx, frV]
      refine ⟨.bool (insF x.2 0 left), fun σ' => CallV.func B_r05_in (r05_in_spec _ _ _ _), ?_⟩
      refine (tf (insF x.2 0 left)).elim (fun h5 => ?_) (fun h5 => ?_)
      · simp [h5, hlt, hx, frV]
      · simp [h5, hlt, hx, frV]
        exact ⟨i + 1, by omega, _, _, ⟨rfl, rfl, wrap_id (by omega) (by simp only [maxLen] at hf; omega)⟩, by omega, rfl⟩
  · have : l.drop i = [] := List.drop_eq_nil_of_le hge
    rw [this] at hs
    simp only [bearsQ] at hs
    rw [hs]
    have hnl : ¬ i < l.length := by omega
    refine awpC_sound _ ?_
    refine (Classical.em (left = 0)).elim (fun h4 => ?_) (fun h4 => ?_)
    · refine (Classical.em (turn = 0)).elim (fun h5 => ?_) (fun h5 => ?_)
      · simp [hnl, h4, h5]
      · simp [hnl, h4, h5]
    · simp [hnl, h4]

theorem stand_Bears_spec (h : HullM) (t : TruthM) (hl : h.ps.length ≤ maxLen) (water : Int) (l : List (Int × Int)) (hf : l.length ≤ maxLen) (σ : AHeap) :
    Spec Try.prog F_stand_Bears [h.v, t.v, ii' water, frcV l] σ fun r σ' => r = .ret (.tup [.bool (bearsPF h t water l), ii' (bearE h t water l)]) ∧ σ' = σ := by
  refine Spec.pureFn (spec_stand_Bears (by simp) (awpC_sound _ ?_)) (by simp [h.pure, t.pure, frcV_pure]) rfl σ
  simp [C_stand_Bears, HullM.v, HullM.cells, TruthM.v, frcV]
  refine CallK.pure B_stand_open (stand_open_spec h t hl water _) ?_
  refine (Classical.em (truthE h t = 0)).elim (fun h0 => ?_) (fun h0 => ?_)
  rotate_left
  · have h1 : ¬ wetE (truthE h t) water = 0 := fun e => h0 (wetE_zero' e)
    have he : bearE h t water l = wetE (truthE h t) water := by simp [bearE, h1]
    have hb : bearsPF h t water l = false := by simp [bearsPF, he, h1]
    rw [he, hb]
    simp [h0, h1, HullM.v, HullM.cells, zeroH]
  refine (Classical.em (wetE 0 water = 0)).elim (fun h1 => ?_) (fun h1 => ?_)
  rotate_left
  · have he : bearE h t water l = wetE 0 water := by simp [bearE, h0, h1]
    have hb : bearsPF h t water l = false := by simp [bearsPF, he, h1]
    rw [he, hb]
    simp [h0, h1, HullM.v, HullM.cells]
  refine (Classical.em (10 < l.length)).elim (fun h2 => ?_) (fun h2 => ?_)
  · have h2' : (10 : Int) < l.length := by omega
    have he : bearE h t water l = 3 := by simp [bearE, h0, h1, h2]
    have hb : bearsPF h t water l = false := by simp [bearsPF, he]
    rw [he, hb]
    simp [h0, h1, h2', HullM.v, HullM.cells]
  have h2' : ¬ (10 : Int) < l.length := by omega
  have he : bearE h t water l = 0 := by simp [bearE, h0, h1, h2]
  have hb : bearsPF h t water l = bearsP h.aft h.fore (longF h) (inS h t water 0) (inS h t water 1) l 0 0 := by simp [bearsPF, he]
  have hn := truth_len h0
  rw [he, hb]
  simp [h0, h1, h2', HullM.v, HullM.cells]
  refine CallK.pure B_stand_body_in (stand_in_spec h t hl hn.1 hn.2 water _) ?_
  simp [sumsV]
  refine AW.loop (ι := Nat) (fun i fr σ => ∃ all turn, fr = { v := [(4, .pval (.agg [.slice 7 (h.ps.map PartM.v), ii' h.aft, ii' h.fore])), (12, .pval (.agg [ii' (inS h t water 0), ii' (inS h t water 1), ii' (inS h t water 2)])), (13, ii' (longF h)), (14, ii' all), (15, ii' turn), (42, .slice 2 (l.map frV)), (43, .int .i64 l.length), (44, .int .i64 i)], ds := [] } ∧ i ≤ l.length ∧
      bearsP h.aft h.fore (longF h) (inS h t water 0) (inS h t water 1) l 0 0 = bearsP h.aft h.fore (longF h) (inS h t water 0) (inS h t water 1) (l.drop i) all turn) (fun i => l.length - i) 0 ⟨0, 0, by simp [longF], by simp, by simp⟩ ?_
  rintro i fr σ ⟨all, turn, rfl, hi, hs⟩
  refine (Nat.lt_or_ge i l.length).elim (fun hlt => ?_) (fun hge => ?_)
  · have hd : l.drop i = l[i] :: l.drop (i + 1) := List.drop_eq_getElem_cons hlt
    obtain ⟨x, hx⟩ : ∃ x, l[i] = x := ⟨_, rfl⟩
    rw [hd, hx] at hs
    simp only [bearsP] at hs
    rw [hs]
    refine awpC_sound _ ?_
    simp [hlt, hx, frV]
    refine (tf (outF h.aft h.fore x.1)).elim (fun h4 => ?_) (fun h4 => ?_)
    · refine CallK.pureE B_stand_beyond (stand_beyond_spec h.aft h.fore [x.1] (by simp [maxLen]) _) (congrArg AVal.bool (show beyondF h.aft h.fore [x.1] = false by simpa [beyondF] using h4)) ?_
      simp [hlt, hx, frV, h4]
      refine (tf (outF 0 (max0 (wr (wr (inS h t water 0 * longF h) - all))) x.2)).elim (fun h5 => ?_) (fun h5 => ?_)
      · refine CallK.pureE B_stand_beyond (stand_beyond_spec 0 (max0 (wr (wr (inS h t water 0 * longF h) - all))) [x.2] (by simp [maxLen]) _) (congrArg AVal.bool (show beyondF _ _ [x.2] = false by simpa [beyondF] using h5)) ?_
        simp [hlt, hx, frV, h5]
        exact ⟨i + 1, by omega, _, _, ⟨rfl, rfl, wrap_id (by omega) (by simp only [maxLen] at hf; omega)⟩, by omega, by rw [h4]; rfl⟩
      · refine CallK.pureE B_stand_beyond (stand_beyond_spec 0 (max0 (wr (wr (inS h t water 0 * longF h) - all))) [x.2] (by simp [maxLen]) _) (congrArg AVal.bool (show beyondF _ _ [x.2] = true by simpa [beyondF] using h5)) ?_
        simp [hlt, hx, frV, h5]
    · refine CallK.pureE B_stand_beyond (stand_beyond_spec h.aft h.fore [x.1] (by simp [maxLen]) _) (congrArg AVal.bool (show beyondF h.aft h.fore [x.1] = true by simpa [beyondF] using h4)) ?_
      simp [hlt, hx, frV, h4]
  · have : l.drop i = [] := List.drop_eq_nil_of_le hge
    rw [this] at hs
    simp only [bearsP] at hs
    rw [hs]
    have hnl : ¬ i < l.length := by omega
    refine awpC_sound _ ?_
    refine (Classical.em (0 < inS h t water 0)).elim (fun h4 => ?_) (fun h4 => ?_)
    · refine (Classical.em (all = wr (inS h t water 0 * longF h))).elim (fun h5 => ?_) (fun h5 => ?_)
      · refine (Classical.em (turn = wr (inS h t water 1 * longF h))).elim (fun h6 => ?_) (fun h6 => ?_)
        · simp [hnl, h4, h5, h6]
        · simp [hnl, h4, h5, h6]
      · simp [hnl, h4, h5]
    · simp [hnl, h4]

/-! ### Both say the same -/
theorem bearsP_neg (aft fore long s0 s1 : Int) (h : ¬ 0 < s0) : ∀ (l : List (Int × Int)) (a b : Int), bearsP aft fore long s0 s1 l a b = false
  | [], a, b => by simp [bearsP, h]
  | x :: r, a, b => by simp only [bearsP]; split <;> first | rfl | exact bearsP_neg aft fore long s0 s1 h r _ _

theorem bears_eq (aft fore long s0 s1 : Int) (hs : 0 < s0) (L : Int) (hL : wr (s0 * long) = L) (h0 : 0 ≤ L) (h1 : L ≤ 4611686018427387904) : ∀ (l : List (Int × Int)) (all turn : Int), 0 ≤ all → all ≤ L → wr turn = turn →
    bearsP aft fore long s0 s1 l all turn = bearsQ aft fore l (L - all) (wr (wr (s1 * long) - turn))
  | [], all, turn, g1, g2, g3 => by
    simp only [bearsP, bearsQ, hs, hL, decide_true, Bool.true_and]
    have e1 : decide (all = L) = decide (L - all = 0) := by rw [decide_eq_decide]; omega
    have e2 : decide (turn = wr (s1 * long)) = decide (wr (wr (s1 * long) - turn) = 0) := by
      rw [decide_eq_decide]
      simp only [wr, IntKind.wrap_i64] at g3 ⊢
      omega
    rw [e1, e2]
  | x :: r, all, turn, g1, g2, g3 => by
    simp only [bearsP, bearsQ, hL, insF_out]
    have e0 : wr (L - all) = L - all := wrap_id (by omega) (by omega)
    have e1 : max0 (wr (L - all)) = L - all := by rw [e0]; unfold max0; split <;> omega
    rw [e1]
    rcases tf (outF aft fore x.1) with k1 | k1
    · rcases tf (outF 0 (L - all) x.2) with k2 | k2
      · have kx : 0 ≤ x.2 ∧ x.2 ≤ L - all := by simp [outF] at k2; omega
        have e2 : wr (all + x.2) = all + x.2 := wrap_id (by omega) (by omega)
        have e3 : wr (L - all - x.2) = L - (all + x.2) := by
          have : wr (L - all - x.2) = L - all - x.2 := wrap_id (by omega) (by omega)
          rw [this]; omega
        have e4 : wr (wr (wr (s1 * long) - turn) - wr (x.2 * wr (x.1 - aft))) = wr (wr (s1 * long) - wr (turn + wr (x.2 * wr (x.1 - aft)))) := by
          generalize wr (x.2 * wr (x.1 - aft)) = y
          generalize wr (s1 * long) = z
          simp only [wr, IntKind.wrap_i64]
          omega
        simp only [k1, k2]
        simp only [Bool.or_self, Bool.false_eq_true, if_false, Bool.not_false, Bool.and_self, if_true]
        rw [bears_eq aft fore long s0 s1 hs L hL h0 h1 r (wr (all + x.2)) _ (by rw [e2]; omega) (by rw [e2]; omega) (wr_wr _), e2, e3, e4]
      · simp [k1, k2]
    · simp [k1]

theorem sumG_bound (f : PartM → Nat → Int) (B : Int) (hB : 0 ≤ B) : ∀ (l : List PartM) (a : Int) (k : Nat), (∀ i (hi : i < l.length), -B ≤ f l[i] (k + i) ∧ f l[i] (k + i) ≤ B) → ∀ M : Int, -M ≤ a ∧ a ≤ M → M + B * l.length ≤ 4611686018427387904 →
    -(M + B * l.length) ≤ sumG f a k l ∧ sumG f a k l ≤ M + B * l.length
  | [], a, k, _, M, h, _ => by simpa [sumG] using h
  | p :: r, a, k, h, M, hM, hx => by
    simp only [sumG]
    have h0 := h 0 (by simp)
    simp at h0
    have hlen : ((p :: r).length : Int) = r.length + 1 := by simp
    rw [hlen, Int.mul_add, Int.mul_one] at hx ⊢
    have hr : 0 ≤ B * (r.length : Int) := Int.mul_nonneg hB (by omega)
    have e : wr (a + f p k) = a + f p k := wrap_id (by omega) (by omega)
    rw [e]
    have := sumG_bound f B hB r (a + f p k) (k + 1) (fun i hi => by
      have := h (i + 1) (by simpa using hi)
      simpa [Nat.add_assoc, Nat.add_comm 1] using this) (M + B) (by omega) (by omega)
    omega

theorem strange_ok (f : PartM → Int × Int) : ∀ (ps : List PartM) (ns : List Int), strangeF f ps ns = false → ∀ i (hi : i < ps.length) (hj : i < ns.length), (f ps[i]).1 ≤ ns[i] ∧ ns[i] ≤ (f ps[i]).2
  | [], _, _, i, hi, _ => by simp at hi
  | _ :: _, [], _, i, _, hj => by simp at hj
  | p :: r, n :: t, h, i, hi, hj => by
    simp only [strangeF, Bool.or_eq_false_iff] at h
    cases i with
    | zero =>
      have := h.1
      simp [outF] at this
      simpa using this
    | succ i => simpa using strange_ok f r t h.2 i (by simpa using hi) (by simpa using hj)

theorem partE_ok {p : PartM} (h : partE p = 0) : (0 ≤ p.keel ∧ p.keel ≤ 1000) ∧ (0 ≤ p.wLo ∧ p.wHi ≤ 1000000) ∧ (0 ≤ p.lLo ∧ p.lHi ≤ 5000) := by
  unfold partE at h
  split at h
  · cases h
  · rename_i hn
    simp [beyondF, outF] at hn
    omega

theorem in_bound (h : HullM) (t : TruthM) (water : Int) (h0 : truthE h t = 0) (hw : wetE 0 water = 0) : inS h t water 0 ≤ 60000000 := by
  have he : eF h = 0 := by
    unfold truthE at h0
    split at h0
    · rename_i hx; exact absurd h0 hx
    · rename_i hx; simpa using hx
  have hn := truth_len h0
  have hst : strangeF (fun p => (p.wLo, p.wHi)) h.ps t.ws = false ∧ strangeF (fun p => (p.lLo, p.lHi)) h.ps t.ls = false := by
    unfold truthE at h0
    rw [if_neg (by simp [he]), if_neg (by simp [hn.1, hn.2])] at h0
    rcases tf (strangeF (fun p => (p.wLo, p.wHi)) h.ps t.ws) with k1 | k1 <;> rcases tf (strangeF (fun p => (p.lLo, p.lHi)) h.ps t.ls) with k2 | k2 <;> simp [k1, k2] at h0 ⊢
  have hwa : 0 ≤ water ∧ water ≤ 1000 := by
    have := (wetE_zero hw).2
    simp [beyondF, outF] at this
    exact this
  have hlen : h.ps.length ≤ 10 := by rw [eF_eq] at he; exact (eR_len he).2
  have hps : ∀ p ∈ h.ps, partE p = 0 := by
    have he' := he
    unfold eF checkF at he'
    split at he'
    · cases he'
    · split at he'
      · cases he'
      · split at he'
        · cases he'
        · exact parts_ok _ _ _ he'
  have hb := sumG_bound (inT h t water 0) 6000000 (by omega) h.ps 0 0 (fun i hi => by
    have hp := partE_ok (hps _ (List.getElem_mem hi))
    have k1 := strange_ok _ _ _ hst.1 i hi (by omega)
    have k2 := strange_ok _ _ _ hst.2 i hi (by omega)
    have e : inT h t water 0 h.ps[i] (0 + i) = pressR t water h.ps[i] (0 + i) := one_press t water _ _
    rw [e]
    unfold pressR
    have hov : 0 ≤ overR water h.ps[i].keel ∧ overR water h.ps[i].keel ≤ 1000 := by
      unfold overR
      have : wr (water - h.ps[i].keel) = water - h.ps[i].keel := wrap_id (by omega) (by omega)
      rw [this]
      split <;> omega
    have ew : t.ws[0 + i]?.getD 0 = t.ws[i]'(by omega) := by simp [show i < t.ws.length by omega]
    have el : t.ls[0 + i]?.getD 0 = t.ls[i]'(by omega) := by simp [show i < t.ls.length by omega]
    rw [ew, el]
    generalize overR water h.ps[i].keel = o at hov
    generalize t.ws[i]'(by omega) = a at k1
    generalize t.ls[i]'(by omega) = b at k2
    simp only at k1 k2
    have m1 : 0 ≤ b * o := Int.mul_nonneg (by omega) hov.1
    have m2 : b * o ≤ 5000 * 1000 := Int.mul_le_mul (by omega) hov.2 hov.1 (by omega)
    have w1 : wr (b * o) = b * o := wrap_id (by omega) (by omega)
    rw [w1]
    have w2 : wr (a - b * o) = a - b * o := wrap_id (by omega) (by omega)
    rw [w2]
    omega) 0 (by omega) (by omega)
  have : inS h t water 0 ≤ 0 + 6000000 * (h.ps.length : Int) := hb.2
  omega

theorem bearsPQ (h : HullM) (t : TruthM) (water : Int) (l : List (Int × Int)) : bearsPF h t water l = bearsQF h t water l := by
  unfold bearsPF bearsQF
  by_cases he : bearE h t water l = 0
  · have hw : wetE (truthE h t) water = 0 := by
      unfold bearE at he
      split at he
      · rename_i hx; exact absurd he hx
      · rename_i hx; simpa using hx
    have h0 := wetE_zero' hw
    rw [h0] at hw
    have hef : eF h = 0 := by
      unfold truthE at h0
      split at h0
      · rename_i hx; exact absurd h0 hx
      · rename_i hx; simpa using hx
    have hbd := bounds_of h hef
    have hlo : 0 < h.fore - h.aft := by
      have he' := hef
      unfold eF checkF at he'
      split at he'
      · cases he'
      · split at he'
        · cases he'
        · split at he'
          · cases he'
          · omega
    have hl : longF h = h.fore - h.aft := wrap_id (by have := hbd.aft; have := hbd.fore; omega) (by have := hbd.aft; have := hbd.fore; omega)
    by_cases hs : 0 < inS h t water 0
    · have hb := in_bound h t water h0 hw
      have hlb : h.fore - h.aft ≤ 5000 := by have := hbd.aft; have := hbd.fore; omega
      have m1 : 0 ≤ inS h t water 0 * (h.fore - h.aft) := Int.mul_nonneg (by omega) (by omega)
      have m2 : inS h t water 0 * (h.fore - h.aft) ≤ 60000000 * 5000 := Int.mul_le_mul hb hlb (by omega) (by omega)
      have hL : wr (inS h t water 0 * longF h) = inS h t water 0 * (h.fore - h.aft) := by rw [hl]; exact wrap_id (by omega) (by omega)
      have := bears_eq h.aft h.fore (longF h) (inS h t water 0) (inS h t water 1) hs _ hL m1 (by omega) l 0 0 (by omega) m1 (by decide)
      rw [this, hL, Int.sub_zero, Int.sub_zero, wr_wr]
      simp [he, hs]
    · rw [bearsP_neg _ _ _ _ _ hs]
      simp [hs]
  · simp [he]
end Go.AM
