/- Bad and May: of the document. Bad and May: of the program. How many parts can be cut of a set: of the program, the walk. Next: of the document. Next: of the program. -/
import Derived.Test.YtmjfcbpgnmajpaaGreatDoorP21
import Derived.Test.YtmjfcbpgnmajpaaGreatDoorP20
namespace Go.AM
open Go.Proofs
set_option maxRecDepth 100000
set_option maxHeartbeats 1000000
def badE (t : TaskM) (l : List Int) : Int × Int × Int := if orderE t l ≠ 0 then (0, 0, orderE t l) else ((walkR t l 0 (allT t)).1, (walkR t l 0 (allT t)).2.1, 0)
def behindE (t : TaskM) (l : List Int) : Int := if orderE t l ≠ 0 then orderE t l else if 0 ≤ (walkR t l 0 (allT t)).1 then 9 else 0
def leftT (t : TaskM) (l : List Int) : Nat := (walkR t l 0 (allT t)).2.2
def behindV (t : TaskM) (l : List Int) : AVal := if behindE t l = 0 then .tup [tableV t, nn' (leftT t l), ii' 0] else .tup [.agg [ii' 0, .slice 1 []], ii' 0, ii' (behindE t l)]
theorem order_fit {t : TaskM} {l : List Int} (h : orderE t l = 0) : t.Fit ∧ l.all (inO t.ship.length) = true := by
  unfold orderE at h
  split at h
  · rename_i h1; exact absurd h h1
  · rename_i h1
    split at h
    · rename_i h2; exact ⟨check_fit (by simpa using h1), h2⟩
    · cases h
theorem behind_order {t : TaskM} {l : List Int} (h : behindE t l = 0) : orderE t l = 0 := by
  unfold behindE at h
  split at h
  · rename_i h1; exact absurd h h1
  · rename_i h1; simpa using h1
theorem behindV_pure (t : TaskM) (l : List Int) : (behindV t l).pure = true := by
  unfold behindV
  split
  · simp [AVal.pure, pures, tableV_pure]
  · rfl
theorem left_sub (t : TaskM) (l : List Int) : Sub t (leftT t l) := walkR_sub (Sub.all t)
theorem r06_Bad_spec (t : TaskM) (hok : t.Ok) (l : List Int) (hl : l.length ≤ maxLen) (σ : AHeap) : Spec Tryz.prog F_r06_Bad [t.v, .slice 1 (l.map ii')] σ fun r σ' => r = .ret (tripV (badE t l)) ∧ σ' = σ := by
  refine Spec.pureFn (spec_r06_Bad (by simp) (awpC_sound _ ?_)) (by simp [pures, t.pure, AVal.pure, pures_map (f := ii') (fun _ => rfl)]) rfl σ
  have ho := fun σ => r06_Order_spec t hok l hl σ
  obtain ⟨b, hb⟩ : ∃ b, badE t l = b := ⟨_, rfl⟩
  have hb' := hb
  unfold badE at hb'
  rw [hb]
  simp [C_r06_Bad, TaskM.v, TaskM.cells]
  refine CallK.pure B_r06_Order (ho _) ?_
  refine (Classical.em (orderE t l = 0)).elim (fun h => ?_) (fun h => ?_)
  rotate_left
  · rw [if_pos h] at hb'
    simp [h]
    rw [← hb']; rfl
  rw [if_neg (by simp [h])] at hb'
  have hfi := order_fit h
  simp [h]
  refine CallK.pure B_r06_Made (r06_Made_spec t hok hfi.1 _) ?_
  simp [tableV]
  refine CallK.pure B_r06_Table_Walk (tableWalk_spec t hfi.1 l hl hfi.2 _) ?_
  simp [tripV]
  rw [← hb']; exact ⟨rfl, rfl, rfl⟩
theorem r06_behind_spec (t : TaskM) (hok : t.Ok) (l : List Int) (hl : l.length ≤ maxLen) (σ : AHeap) : Spec Tryz.prog F_r06_behind [t.v, .slice 1 (l.map ii')] σ fun r σ' => r = .ret (behindV t l) ∧ σ' = σ := by
  refine Spec.pureFn (spec_r06_behind (by simp) (awpC_sound _ ?_)) (by simp [pures, t.pure, AVal.pure, pures_map (f := ii') (fun _ => rfl)]) (behindV_pure t l) σ
  have ho := fun σ => r06_Order_spec t hok l hl σ
  obtain ⟨b, hb⟩ : ∃ b, behindV t l = b := ⟨_, rfl⟩
  have hb' := hb
  unfold behindV at hb'
  rw [hb]
  simp [C_r06_behind, TaskM.v, TaskM.cells]
  refine CallK.pure B_r06_Order (ho _) ?_
  refine (Classical.em (orderE t l = 0)).elim (fun h => ?_) (fun h => ?_)
  rotate_left
  · have hbe : behindE t l = orderE t l := by unfold behindE; rw [if_pos h]
    rw [hbe, if_neg h] at hb'
    simp [h]
    rw [← hb']
  have hfi := order_fit h
  simp [h]
  refine CallK.pure B_r06_Made (r06_Made_spec t hok hfi.1 _) ?_
  simp [tableV]
  refine CallK.pure B_r06_Table_Walk (tableWalk_spec t hfi.1 l hl hfi.2 _) ?_
  refine (Classical.em (0 ≤ (walkR t l 0 (allT t)).1)).elim (fun h2 => ?_) (fun h2 => ?_)
  · have hbe : behindE t l = 9 := by unfold behindE; rw [if_neg (by simp [h]), if_pos h2]
    rw [hbe, if_neg (by omega)] at hb'
    simp [h2]
    rw [← hb']
  · have hbe : behindE t l = 0 := by unfold behindE; rw [if_neg (by simp [h]), if_neg h2]
    rw [hbe, if_pos rfl] at hb'
    simp [h2]
    rw [← hb']; rfl
def mayV (t : TaskM) (l : List Int) : AVal := .tup [.slice 1 (if behindE t l = 0 then (canL t (leftT t l)).map nn' else []), ii' (behindE t l)]
theorem canP_succ (t : TaskM) (s i : Nat) : ((List.range (i + 1)).filter fun j => whyT t s j == 0) = ((List.range i).filter fun j => whyT t s j == 0) ++ (if whyT t s i = 0 then [i] else []) := by
  rw [List.range_succ, List.filter_append]
  congr 1
  by_cases h : whyT t s i = 0 <;> simp [h]
theorem mayV_pure (t : TaskM) (l : List Int) : (mayV t l).pure = true := by
  unfold mayV
  split
  · simp [AVal.pure, pures, pures_map (f := nn') (fun _ => rfl)]
  · rfl
theorem r06_May_spec (t : TaskM) (hok : t.Ok) (l : List Int) (hl : l.length ≤ maxLen) (σ : AHeap) : Spec Tryz.prog F_r06_May [t.v, .slice 1 (l.map ii')] σ fun r σ' => r = .ret (mayV t l) ∧ σ' = σ := by
  refine Spec.pureFn (spec_r06_May (by simp) (awpC_sound _ ?_)) (by simp [pures, t.pure, AVal.pure, pures_map (f := ii') (fun _ => rfl)]) (mayV_pure t l) σ
  have ho := fun σ => r06_behind_spec t hok l hl σ
  unfold behindV at ho
  obtain ⟨b, hb⟩ : ∃ b, mayV t l = b := ⟨_, rfl⟩
  have hb' := hb
  unfold mayV at hb'
  rw [hb]
  simp [C_r06_May, TaskM.v, TaskM.cells]
  refine (Classical.em (behindE t l = 0)).elim (fun h => ?_) (fun h => ?_)
  rotate_left
  · simp only [if_neg h] at hb' ho
    refine CallK.pure B_r06_behind (ho _) ?_
    simp
    refine AW.loop (ι := Nat) (fun i fr σ => fr = { v := [(6, .pval (.agg [ii' 0, .slice 1 []])), (7, ii' 0), (8, ii' (behindE t l)), (9, .oslice 1 [] 1 0), (10, ii' 0)], ds := [] } ∧ σ = [.dead, .spare 1 0]) (fun i => 0) 0 ⟨by simp, by simp⟩ ?_
    rintro i fr σ ⟨rfl, rfl⟩
    refine awpC_sound _ ?_
    simp
    rw [← hb']
  simp only [if_pos h] at hb' ho
  obtain ⟨hf, hin⟩ := order_fit (behind_order h)
  have h7 := hf.ship7
  have hs := left_sub t l
  obtain ⟨s, hse⟩ : ∃ s, leftT t l = s := ⟨_, rfl⟩
  rw [hse] at hb' ho hs
  have h128 := hs.lt hf
  have hsp : s < 2 ^ t.ship.length := Nat.lt_pow_two_of_testBit s fun j hj => by
    cases hb : s.testBit j
    · rfl
    · have := hs j hb; omega
  have hspI : (s : Int) < 2 ^ t.ship.length := by
    have e : (2 : Int) ^ t.ship.length = ((2 ^ t.ship.length : Nat) : Int) := by simp
    rw [e]; omega
  refine CallK.pure B_r06_behind (ho _) ?_
  simp [tableV]
  refine AW.loop (ι := Nat) (fun i fr σ => ∃ k, fr = { v := [(6, .pval (tableV t)), (7, nn' s), (8, ii' 0), (9, .oslice 1 (((List.range i).filter fun j => whyT t s j == 0).map nn') 1 k), (10, nn' i)], ds := [] } ∧ σ = [.dead, .spare 1 k] ∧ i ≤ t.ship.length) (fun i => t.ship.length - i) 0 ⟨0, by simp [tableV], by simp, by omega⟩ ?_
  rintro i fr σ ⟨k, rfl, rfl, hi⟩
  refine (Nat.lt_or_ge i t.ship.length).elim (fun hlt => ?_) (fun hge => ?_)
  · have hw1 : IntKind.i64.wrap ((i : Int) + 1) = ((i + 1 : Nat) : Int) := by rw [wrap_id (by omega) (by omega)]; simp
    have hcs := canP_succ t s i
    have hlen : ((List.range i).filter fun j => whyT t s j == 0).length ≤ 7 := Nat.le_trans (List.length_filter_le _ _) (by simp; omega)
    refine (Classical.em (whyT t s i = 0)).elim (fun hz => ?_) (fun hz => ?_)
    · rw [if_pos hz] at hcs
      refine awpC_sound _ ?_
      simp [hlt, hsp, hspI, hz, hw1, tableV, rowV]
      exact ⟨by intro v hv; simp at hv; subst hv; exact ⟨⟨rfl, rfl⟩, rfl⟩, by omega, i + 1, by omega, k + 1, ⟨⟨by rw [hcs]; simp, rfl⟩, by simp⟩, rfl, by omega⟩
    · rw [if_neg hz, List.append_nil] at hcs
      have hzI : ¬ (whyT t s i : Int) = 0 := by omega
      refine awpC_sound _ ?_
      simp [hlt, hsp, hspI, hzI, hw1, tableV, rowV]
      exact ⟨fun e => absurd e hz, fun _ => ⟨i + 1, by omega, k, ⟨⟨by rw [hcs], rfl⟩, by simp⟩, rfl, by omega⟩⟩
  · have hnl : ¬ i < t.ship.length := by omega
    have him : i = t.ship.length := by omega
    subst him
    refine awpC_sound _ ?_
    simp [tableV]
    rw [← hb', h]; rfl
end Go.AM
namespace Go.AM
open Go.Proofs
set_option maxRecDepth 100000
set_option maxHeartbeats 1000000
theorem out_in (m : Nat) (l : List Int) : l.any (outM m) = !(l.all (inO m)) := by
  rw [Bool.eq_iff_iff]
  simp only [List.any_eq_true, Bool.not_eq_true', List.all_eq_false]
  constructor
  · rintro ⟨x, hx, h⟩
    refine ⟨x, hx, ?_⟩
    simp [outM] at h
    simp [inO]
    omega
  · rintro ⟨x, hx, h⟩
    refine ⟨x, hx, ?_⟩
    simp [inO] at h
    simp [outM]
    omega
theorem walk_spec {t : TaskM} (hf : t.Fit) (hok : t.Ok) {n : Nat} {σ : AHeap} (h : ShipI t n σ) (l : List Int) (hl : l.length ≤ maxLen) (hin : l.all (inO t.ship.length) = true) :
    Spec Tryz.prog F_cut_ship_walk [.ptr (n + 2) 0, .slice 1 (l.map ii')] σ fun r σ' => r = .ret (.tup [ii' (walkR t l 0 (allT t)).1, nn' (walkR t l 0 (allT t)).2.1, nn' (walkR t l 0 (allT t)).2.2]) ∧ Memo t n σ σ' := by
  have h7 := hf.ship7
  obtain ⟨W, hW⟩ : ∃ W, walkR t l 0 (allT t) = W := ⟨_, rfl⟩
  rw [hW]
  obtain ⟨m, hk, hsh⟩ := id h
  refine spec_cut_ship_walk (by simp) (awpC_sound _ ?_)
  simp [C_cut_ship_walk]
  refine CallK.pure B_cut_ship_all (all_spec hf hsh) ?_
  simp
  refine AW.loop (ι := Nat) (fun i fr σ1 => ∃ s, fr = { v := [(0, .ptr (n + 2) 0), (6, nn' s), (12, .slice 1 (l.map ii')), (13, nn' l.length), (14, nn' i)], ds := [] } ∧ Memo t n σ σ1 ∧ i ≤ l.length ∧ Sub t s ∧ walkR t (l.drop i) i s = W) (fun i => l.length - i) 0 ⟨allT t, by simp, h.keep, by omega, Sub.all t, hW⟩ ?_
  rintro i fr σ1 ⟨s, rfl, hm, hi, hs, hw⟩
  have h128 := hs.lt hf
  refine (Nat.lt_or_ge i l.length).elim (fun hlt => ?_) (fun hge => ?_)
  · have hd : l.drop i = l[i] :: l.drop (i + 1) := List.drop_eq_getElem_cons hlt
    obtain ⟨x, hx⟩ : ∃ x, l[i] = x := ⟨_, rfl⟩
    have hxi := List.all_eq_true.1 hin x (hx ▸ List.getElem_mem _)
    simp only [inO, Bool.and_eq_true, decide_eq_true_eq] at hxi
    obtain ⟨k, rfl⟩ : ∃ n : Nat, x = n := ⟨x.toNat, by omega⟩
    have hn : k < t.ship.length := by omega
    have hw1 : IntKind.i64.wrap ((i : Int) + 1) = ((i + 1 : Nat) : Int) := by rw [wrap_id (by omega) (by simp only [maxLen] at hl; omega)]; simp
    rw [hd, hx, walkR] at hw
    simp only [Int.toNat_natCast] at hw
    have hx1 := shl_i64 (i := k) (by omega)
    have hx2 : bandnI .i64 (s : Int) (2 ^ k) = ((rem1 s k : Nat) : Int) := by
      have := andn_i64 (a := s) (b := 2 ^ k) (by omega)
      simpa [rem1] using this
    refine awpC_sound _ ?_
    simp [hlt, hx]
    refine CallK.memo (CallV.memo (first := []) (args := [.ptr (n + 2) 0, nn' s, nn' k]) B_cut_ship_why (why_spec hf hok (h.memo hm) s k hs hn)) fun σ2 hm2 => ?_
    have hm3 := hm.trans h hm2
    refine (Classical.em (whyT t s k = 0)).elim (fun hz => ?_) (fun hz => ?_)
    · rw [if_neg (by simpa using hz)] at hw
      simp [hlt, hx, hz, hx1, hx2, hw1]
      exact ⟨i + 1, by omega, rem1 s k, ⟨rfl, by simp⟩, hm3, by omega, hs.rem, hw⟩
    · rw [if_pos hz] at hw
      have hzI : ¬ (whyT t s k : Int) = 0 := by omega
      simp [hlt, hx, hz, hzI, hx1, hx2]
      rw [← hw]
      exact ⟨⟨rfl, rfl, rfl⟩, hm3⟩
  · have hnl : ¬ i < l.length := by omega
    rw [List.drop_eq_nil_of_le hge] at hw
    refine awpC_sound _ ?_
    simp [hnl]
    rw [← hw]; exact ⟨⟨rfl, rfl, rfl⟩, hm⟩
def opened (t : TaskM) (σ : AHeap) (m : List (Nat × Int)) (tl : AHeap) : AHeap := σ ++ .arr 1 (aboveV t) :: .amap (mapN m) :: .box (cutC t σ.length (gasT t)) :: tl
theorem opened_ship {t : TaskM} {σ : AHeap} {m : List (Nat × Int)} (hm : KnownOk t m) (tl : AHeap) : ShipI t σ.length (opened t σ m tl) := ⟨m, hm, by simp [opened], by simp [opened], by simp [opened]⟩
theorem known_nil (t : TaskM) : KnownOk t [] := fun _ _ h => by cases h
theorem opened_memo {t : TaskM} {σ σ' : AHeap} {m : List (Nat × Int)} {tl : AHeap} (h : Memo t σ.length (opened t σ m tl) σ') : ∃ m' tl', KnownOk t m' ∧ σ' = opened t σ m' tl' := by
  obtain ⟨m', tl', h1, rfl⟩ := h
  exact ⟨m', tl ++ tl', h1, by simp [opened]⟩
theorem enter_spec (t : TaskM) (hok : t.Ok) (l : List Int) (hl : l.length ≤ maxLen) (σ : AHeap) : Spec Tryz.prog F_cut_enter [t.v, .slice 1 (l.map ii')] σ fun r σ' =>
    (orderE t l = 0 ∧ r = .ret (.tup [.ptr (σ.length + 2) 0, ii' 0]) ∧ ∃ tl, σ' = opened t σ [] tl) ∨
    (orderE t l ≠ 0 ∧ (r = .ret (.tup [.ptr (σ.length + 2) 0, ii' (orderE t l)]) ∨ r = .ret (.tup [.nilptr, ii' (orderE t l)])) ∧ ∃ tl, σ' = σ ++ tl) := by
  refine spec_cut_enter (by simp) (awpC_sound _ ?_)
  obtain ⟨e, he⟩ : ∃ e, orderE t l = e := ⟨_, rfl⟩
  have he' := he
  unfold orderE at he'
  rw [he]
  simp [C_cut_enter, TaskM.v, TaskM.cells]
  refine CallK.spec B_cut_open (cut_open_spec t hok σ) ?_
  rintro r σ' (⟨h1, rfl, tl, rfl⟩ | ⟨h1, rfl, tl, rfl⟩)
  · refine ⟨_, rfl, ?_⟩
    rw [if_neg (by simp [h1])] at he'
    simp
    refine (tf (l.all (inO t.ship.length))).elim (fun hb => ?_) (fun hb => ?_)
    · refine CallK.pureE B_cut_beyond (cut_beyond_spec t.ship.length l hl _) (congrArg AVal.bool (show l.any (outM t.ship.length) = true by rw [out_in, hb]; rfl)) ?_
      rw [if_neg (by simp [hb])] at he'
      simp [← he']
    · refine CallK.pureE B_cut_beyond (cut_beyond_spec t.ship.length l hl _) (congrArg AVal.bool (show l.any (outM t.ship.length) = false by rw [out_in, hb]; rfl)) ?_
      rw [if_pos hb] at he'
      simp [← he', opened]
  · refine ⟨_, rfl, ?_⟩
    rw [if_pos h1] at he'
    simp [h1, ← he']
theorem cut_Bad_spec (t : TaskM) (hok : t.Ok) (l : List Int) (hl : l.length ≤ maxLen) (σ : AHeap) : Spec Tryz.prog F_cut_Bad [t.v, .slice 1 (l.map ii')] σ fun r σ' => r = .ret (tripV (badE t l)) ∧ σ' = σ := by
  refine Spec.pureFn (spec_cut_Bad (by simp) (awpC_sound _ ?_)) (by simp [pures, t.pure, AVal.pure, pures_map (f := ii') (fun _ => rfl)]) rfl σ
  obtain ⟨b, hb⟩ : ∃ b, badE t l = b := ⟨_, rfl⟩
  have hb' := hb
  unfold badE at hb'
  rw [hb]
  simp [C_cut_Bad, TaskM.v, TaskM.cells]
  refine CallK.spec B_cut_enter (enter_spec t hok l hl _) ?_
  rintro r σ' (⟨h1, rfl, tl, rfl⟩ | ⟨h1, rfl | rfl, tl, rfl⟩)
  · refine ⟨_, rfl, ?_⟩
    rw [if_neg (by simp [h1])] at hb'
    have hfi := order_fit h1
    simp
    refine CallK.memo (CallV.memo (first := []) (args := [.ptr 2 0, .slice 1 (l.map ii')]) B_cut_ship_walk (walk_spec hfi.1 hok (opened_ship (σ := []) (known_nil t) tl) l hl hfi.2)) fun σ2 hm2 => ?_
    simp [tripV, ← hb']
  · refine ⟨_, rfl, ?_⟩
    rw [if_pos h1] at hb'
    simp [h1, tripV, ← hb']
  · refine ⟨_, rfl, ?_⟩
    rw [if_pos h1] at hb'
    simp [h1, tripV, ← hb']
theorem good_spec (t : TaskM) (hok : t.Ok) (l : List Int) (hl : l.length ≤ maxLen) (σ : AHeap) : Spec Tryz.prog F_cut_good [t.v, .slice 1 (l.map ii')] σ fun r σ' =>
    (behindE t l = 0 ∧ r = .ret (.tup [.ptr (σ.length + 2) 0, nn' (leftT t l), ii' 0]) ∧ ∃ m tl, KnownOk t m ∧ σ' = opened t σ m tl) ∨
    (behindE t l ≠ 0 ∧ r = .ret (.tup [.nilptr, ii' 0, ii' (behindE t l)]) ∧ ∃ tl, σ' = σ ++ tl) := by
  refine spec_cut_good (by simp) (awpC_sound _ ?_)
  obtain ⟨b, hb⟩ : ∃ b, behindE t l = b := ⟨_, rfl⟩
  have hb' := hb
  unfold behindE at hb'
  rw [hb]
  simp [C_cut_good, TaskM.v, TaskM.cells]
  refine CallK.spec B_cut_enter (enter_spec t hok l hl _) ?_
  rintro r σ' (⟨h1, rfl, tl, rfl⟩ | ⟨h1, rfl | rfl, tl, rfl⟩)
  · refine ⟨_, rfl, ?_⟩
    rw [if_neg (by simp [h1])] at hb'
    have hfi := order_fit h1
    simp
    refine CallK.memo (CallV.memo (first := []) (args := [.ptr (σ.length + 2) 0, .slice 1 (l.map ii')]) B_cut_ship_walk (walk_spec hfi.1 hok (opened_ship (known_nil t) tl) l hl hfi.2)) fun σ2 hm2 => ?_
    refine (Classical.em (0 ≤ (walkR t l 0 (allT t)).1)).elim (fun h2 => ?_) (fun h2 => ?_)
    · rw [if_pos h2] at hb'
      simp [h2]
      obtain ⟨m', tl', hk, rfl⟩ := opened_memo hm2
      exact ⟨by omega, hb', _, rfl⟩
    · rw [if_neg h2] at hb'
      simp [h2]
      obtain ⟨m', tl', hk, rfl⟩ := opened_memo hm2
      exact ⟨hb'.symm, rfl, m', hk, tl', rfl⟩
  · refine ⟨_, rfl, ?_⟩
    rw [if_pos h1] at hb'
    simp [h1, ← hb']
  · refine ⟨_, rfl, ?_⟩
    rw [if_pos h1] at hb'
    simp [h1, ← hb']
theorem may_1_spec (s : Nat) (σ : AHeap) : Spec Tryz.prog F_cut_May_1 [nn' s] σ fun r σ' => r = .ret (.bool true) ∧ σ' = σ := by
  refine Spec.pureFn (spec_cut_May_1 (by simp) (awpC_sound _ ?_)) rfl rfl σ
  simp [C_cut_May_1]
def OpenJ (t : TaskM) (tl : AHeap) (s' : AHeap) : Prop := ∃ m, KnownOk t m ∧ s' = opened t [] m tl
theorem OpenJ.ship {t : TaskM} {tl s' : AHeap} (h : OpenJ t tl s') : ShipI t 0 s' := by
  obtain ⟨m, hm, rfl⟩ := h
  exact opened_ship (σ := []) hm tl
theorem OpenJ.memo {t : TaskM} {tl s' : AHeap} (h : OpenJ t tl s') {m : List (Nat × Int)} (hm : KnownOk t m) : OpenJ t tl (s'.set (0 + 1) (.amap (mapN m))) := by
  obtain ⟨m', _, rfl⟩ := h
  exact ⟨m, hm, rfl⟩
theorem cut_May_spec (t : TaskM) (hok : t.Ok) (l : List Int) (hl : l.length ≤ maxLen) (σ : AHeap) : Spec Tryz.prog F_cut_May [t.v, .slice 1 (l.map ii')] σ fun r σ' => r = .ret (mayV t l) ∧ σ' = σ := by
  refine Spec.pureFn (spec_cut_May (by simp) (awpC_sound _ ?_)) (by simp [pures, t.pure, AVal.pure, pures_map (f := ii') (fun _ => rfl)]) (mayV_pure t l) σ
  obtain ⟨b, hb⟩ : ∃ b, mayV t l = b := ⟨_, rfl⟩
  have hb' := hb
  unfold mayV at hb'
  rw [hb]
  simp [C_cut_May, TaskM.v, TaskM.cells]
  refine CallK.spec B_cut_good (good_spec t hok l hl _) ?_
  rintro r σ' (⟨h1, rfl, m, tl, hm, rfl⟩ | ⟨h1, rfl, tl, rfl⟩)
  · refine ⟨_, rfl, ?_⟩
    rw [h1, if_pos rfl] at hb'
    obtain ⟨hf, hin⟩ := order_fit (behind_order h1)
    simp
    refine CallK.pure B_cut_ship_can (cut_can_spec 2 (leftT t l) _) ?_
    simp
    refine CallK.spec B_cut_collect_cut_set (collect_spec hf hok (n := 0) (opened t [] m tl) (leftT t l) (left_sub t l) (.func F_cut_May_1) [] [] (fun _ => true) (OpenJ t tl) (fun s' h => h.ship) (fun s' m h hm => h.memo hm) (fun i s' tl' _ _ h hl' => ?_) ⟨m, hm, rfl⟩) ?_
    · refine (CallV.pure B_cut_May_1 (may_1_spec (rem1 (leftT t l) i) (s' ++ tl')) (Q := fun r σ' => r = .ret (.bool true) ∧ σ' = s' ++ tl') ⟨rfl, rfl⟩).mono ?_
      rintro r σ' ⟨rfl, rfl⟩
      exact ⟨s', [], by simp, hl', rfl, h⟩
    · rintro r σ' ⟨rfl, s', tl', rfl, _, hj⟩
      refine ⟨_, rfl, ?_⟩
      have hft : (canL t (leftT t l)).filter (fun _ => true) = canL t (leftT t l) := List.filter_eq_self.2 fun _ _ => rfl
      simp [← hb', hft]
  · refine ⟨_, rfl, ?_⟩
    rw [if_neg h1] at hb'
    simp [h1, ← hb']
end Go.AM
namespace Go.AM
open Go.Proofs
set_option maxRecDepth 100000
set_option maxHeartbeats 1000000
def mostE (n k q s B : Nat) : Env := [(1, .pval (.map k)), (3, .ptr q 0), (4, .pval (nn' s)), (6, .ptr B 0), (20, .func (.func F_cut_ship_can_1) [] [.pval (nn' s), .pval (.ptr (n + 2) 0)])]
def mostH (n k q s B v : Nat) (asg body : Code) (st : LoopState) (pd : Option Code) : AHeap := [.box [nn' v], .dfr, .looprec 38 (mostE n k q s B) [21, 22] asg body (B + 1) st pd]
theorem CallK.memo2 {t : TaskM} {n k : Nat} {fv : AVal} {args : List AVal} {σ X : AHeap} {m0 M0 : List (Nat × Int)} {v : AVal} {K Kp : AVal → AHeap → Prop} (hs : CallV Tryz.prog fv args (mset2 σ n k m0 M0 ++ X) fun r σ' => r = .ret v ∧ Memo2 t n k (mset2 σ n k m0 M0 ++ X) σ') (h1 : n + 1 < σ.length) (h2 : k < σ.length) (hne : n + 1 ≠ k)
    (hq : ∀ m M tl, KnownOk t m → MostOk t M → K v (mset2 σ n k m M ++ (X ++ tl))) : @CallK Tryz.prog fv args (mset2 σ n k m0 M0 ++ X) ⟨K⟩ ⟨Kp⟩ :=
  hs.mono (by
    rintro r σ' ⟨rfl, m, M, tl, g1, g2, rfl⟩
    have := hq m M tl g1 g2
    rw [mset2_app _ _ _ _ _ _ h1 h2 hne, List.append_assoc]
    exact this)
theorem find_step {t : TaskM} (hf : t.Fit) (hok : t.Ok) {n k q : Nat} (s : Nat) (hs : Sub t s)
    (ih : ∀ s', pop s' < pop s → Sub t s' → ∀ σ, MostAt t n k q σ → Spec Tryz.prog F_cut_ship_most_1 [nn' s', .pval (.map k), .pval (.ptr (n + 2) 0), .ptr q 0] σ fun r σ' => r = .ret (nn' (mostT t s')) ∧ Memo2 t n k σ σ')
    (σ : AHeap) (h : MostAt t n k q σ) :
    Spec Tryz.prog F_cut_ship_most_1 [nn' s, .pval (.map k), .pval (.ptr (n + 2) 0), .ptr q 0] σ fun r σ' => r = .ret (nn' (mostT t s)) ∧ Memo2 t n k σ σ' := by
  have h128 := hs.lt hf
  have h7 := hf.ship7
  have hnl := h.ship.len
  have hkl := h.k_lt
  have hql := h.q_lt
  have hnk := h.lt
  obtain ⟨m0, M0, hm0, hM0, hself, hk⟩ := h.ex
  have hcases : getN s M0 = none ∨ getN s M0 = some (mostT t s : Int) := by
    cases hh : getN s M0 with
    | none => exact .inl rfl
    | some v => right; rw [hM0 s v hh]
  have hfind : ∀ {m M} X, KnownOk t m → MostOk t M → (mset2 σ n k m M ++ X)[q]? = some (.box [findV n k q]) := fun X g1 g2 => (h.mset g1 g2 X).find
  have hkn : ∀ m M X, (mset2 σ n k m M ++ X)[k]? = some (.amap (mapN M)) := fun m M X => by rw [List.getElem?_append_left (by simpa using hkl)]; exact mset2_k _ _ _ hkl
  have hks : ∀ m M M' X, (mset2 σ n k m M ++ X).set k (.amap (mapN M')) = mset2 σ n k m M' ++ X := fun m M M' X => by rw [List.set_append_left _ _ (by simpa using hkl), mset2_setk]
  have hns : ∀ m M m' X, (mset2 σ n k m M ++ X).set (n + 1) (.amap (mapN m')) = mset2 σ n k m' M ++ X := fun m M m' X => by rw [List.set_append_left _ _ (by simp; omega), mset2_setn _ _ _ _ (by omega)]
  refine spec_cut_ship_most_1 (by simp) (awpC_sound _ ?_)
  simp [C_cut_ship_most_1]
  refine AW.scope ?_
  refine awpC_sound _ ?_
  refine hcases.elim (fun hn => ?_) (fun hv => ?_)
  rotate_left
  · simp [hk, hv]
    exact ⟨m0, M0, _, hm0, hM0, by rw [hself]⟩
  simp [hk, hn]
  refine CallK.pure B_cut_ship_can (cut_can_spec (n + 2) s _) ?_
  simp
  refine AW.rangeF (by simp) fun asg' body' ca cb hps => ?_
  simp only [List.length_append, List.length_cons, List.length_nil, List.append_assoc, List.cons_append, List.nil_append, Nat.zero_add, Nat.reduceAdd, Nat.add_assoc]
  change CallF Tryz.prog (.func (.func F_cut_ship_can_1) [] [.pval (nn' s), .pval (.ptr (n + 2) 0)]) [.yieldf (σ.length + 2)] (σ ++ mostH n k q s σ.length 0 asg' body' .ready none) (rangeQ (σ.length + 2) _ _)
  refine CallF.func B_cut_ship_can_1 ((can_1_spec hf hok _ s hs (σ.length + 2) (fun i s' => ∃ m M, KnownOk t m ∧ MostOk t M ∧ s' = mset2 σ n k m M ++ mostH n k q s σ.length (mostU t s i) asg' body' .ready none)
    (fun s' => ∃ m M, KnownOk t m ∧ MostOk t M ∧ s' = mset2 σ n k m M ++ mostH n k q s σ.length (mostT t s) asg' body' .done (some (.exit 0))) ?_ ?_ ?_ ?_ ?_).mono ?_)
  · rintro i s' ⟨m, M, hm, hM, rfl⟩
    exact (h.mset hm hM _).ship
  · rintro i s' m' ⟨m, M, hm, hM, rfl⟩ hm'
    exact ⟨m', M, hm', hM, hns _ _ _ _⟩
  · rintro i s' tl hi hw ⟨m, M, hm, hM, rfl⟩ hlen
    have hpr := pop_rem1 s h128 i (by omega) (why_bit hw)
    have hp7 := pop_le s h128
    have hle := mostT_le hf (rem1_lt (i := i) h128)
    have hun := mostU_succ t s i
    rw [if_pos hw] at hun
    have hu7 := mostU_le hf hs i (by omega)
    have hu8 := mostU_le hf hs (i + 1) (by omega)
    have hml := mostT_le hf h128
    have hw1 : IntKind.i64.wrap (1 + (mostT t (rem1 s i) : Int)) = ((1 + mostT t (rem1 s i) : Nat) : Int) := by rw [wrap_id (by omega) (by omega)]; simp
    have hcv : IntKind.u64.wrap (s : Int) = s := wrap_u64 (by omega)
    refine CallV.round (e := mostE n k q s σ.length) (D := σ.length + 1) (pend := none) ca cb hps (by simp [mostH]) rfl ?_
    refine awpC_sound _ ?_
    simp [putArgs, mostE, mostH]
    refine ⟨_, _, _, _, _, _, _, ⟨rfl, rfl, rfl, rfl, rfl, rfl, rfl⟩, ?_⟩
    refine awpC_sound _ ?_
    simp [hfind _ hm hM, findV]
    refine CallK.memo2 (CallV.func (first := []) (args := [nn' (rem1 s i)]) (caps := [.pval (.map k), .pval (.ptr (n + 2) 0), .ptr q 0]) B_cut_ship_most_1 (ih (rem1 s i) (by omega) hs.rem _ (h.mset hm hM _))) (by omega) hkl (by omega) fun m' M' tl2 hm' hM' => ?_
    have hif : (if (mostU t s i : Int) < 1 + (mostT t (rem1 s i) : Int) then 1 + (mostT t (rem1 s i) : Int) else (mostU t s i : Int)) = ((mostU t s (i + 1) : Nat) : Int) := by
      rw [hun]; split <;> omega
    simp [hfind _ hm' hM', findV, hw1, hcv, hif]
    refine ⟨nn' (pop s), fun σ' => CallV.func (first := []) (args := [un' s]) (caps := []) B_math_bits_OnesCount (oc_spec s h128 σ'), ?_⟩
    refine (Classical.em (mostU t s (i + 1) = pop s)).elim (fun he => ?_) (fun he => ?_)
    · have hmp : mostT t s = pop s := by omega
      simp [he]
      exact ⟨38, mostE n k q s σ.length, [21, 22], asg', body', σ.length + 1, .busy, none, by simp [mostE], mset2 σ n k m' M' ++ mostH n k q s σ.length (mostT t s) asg' body' .done (some (.exit 0)), ⟨tl2, by simp [mostE, mostH, hmp]⟩, by simp [mostH], .inr ⟨rfl, m', hm', M', hM', by simp [mostE, mostH]⟩⟩
    · have heI : ¬ (mostU t s (i + 1) : Int) = (pop s : Int) := by omega
      simp [heI]
      exact ⟨38, mostE n k q s σ.length, [21, 22], asg', body', σ.length + 1, .busy, none, by simp [mostE], mset2 σ n k m' M' ++ mostH n k q s σ.length (mostU t s (i + 1)) asg' body' .ready none, ⟨tl2, by simp [mostE, mostH]⟩, by simp [mostH], .inl ⟨rfl, m', hm', M', hM', by simp [mostE, mostH]⟩⟩
  · rintro i s' hi hw ⟨m, M, hm, hM, rfl⟩
    exact ⟨m, M, hm, hM, by rw [mostU_succ, if_neg hw]⟩
  · exact ⟨m0, M0, hm0, hM0, by rw [hself]; rfl⟩
  · rintro r σ' ⟨rfl, s2, tl, rfl, _, ⟨m, M, hm, hM, rfl⟩ | ⟨m, M, hm, hM, rfl⟩⟩
    · have hput : MostOk t (putN s (mostT t s) M) := fun j v hv => by
        rw [getN_put] at hv
        split at hv
        · rename_i e; cases hv; rw [e]
        · exact hM j v hv
      rw [mostU_all hf hs]
      refine ⟨38, mostE n k q s σ.length, [21, 22], asg', body', σ.length + 1, .ready, none, by simp [mostH], by simp, ?_⟩
      simp [mostH, mostE, hkn, hks]
      exact ⟨m, _, _, hm, hput, rfl⟩
    · have hput : MostOk t (putN s (mostT t s) M) := fun j v hv => by
        rw [getN_put] at hv
        split at hv
        · rename_i e; cases hv; rw [e]
        · exact hM j v hv
      refine ⟨38, mostE n k q s σ.length, [21, 22], asg', body', σ.length + 1, .done, some (.exit 0), by simp [mostH], by simp, ?_⟩
      simp [mostH, mostE, hkn, hks]
      exact ⟨m, _, _, hm, hput, rfl⟩
theorem find_spec {t : TaskM} (hf : t.Fit) (hok : t.Ok) {n k q : Nat} (s : Nat) (hs : Sub t s) (σ : AHeap) (h : MostAt t n k q σ) :
    Spec Tryz.prog F_cut_ship_most_1 [nn' s, .pval (.map k), .pval (.ptr (n + 2) 0), .ptr q 0] σ fun r σ' => r = .ret (nn' (mostT t s)) ∧ Memo2 t n k σ σ' := by
  obtain ⟨d, hd⟩ : ∃ d, pop s = d := ⟨_, rfl⟩
  induction d using Nat.strongRecOn generalizing s σ with
  | ind d ih => exact find_step hf hok s hs (fun s' hlt hs' σ' h' => ih (pop s') (by omega) s' hs' σ' h' rfl) σ h
end Go.AM
namespace Go.AM
open Go.Proofs
set_option maxRecDepth 100000
set_option maxHeartbeats 1000000
def wholL (t : TaskM) (n : Nat) : List AVal := (List.range n).map fun s => .bool (wholeT t s)
theorem wholL_succ (t : TaskM) (n : Nat) : wholL t (n + 1) = wholL t n ++ [.bool (wholeT t n)] := by simp [wholL, List.range_succ]
@[simp] theorem wholL_len (t : TaskM) (n : Nat) : (wholL t n).length = n := by simp [wholL]
@[simp] theorem wholL_get (t : TaskM) (n i : Nat) (h : i < (wholL t n).length) : (wholL t n)[i] = .bool (wholeT t i) := by simp [wholL]
theorem wholL_pure (t : TaskM) (n : Nat) : (AVal.slice 1 (wholL t n)).pure = true := by
  simp [AVal.pure, wholL, pures_map (f := fun s => .bool (wholeT t s)) (fun _ => rfl)]
def someA (t : TaskM) (s : Nat) : Nat → Bool
  | 0 => false
  | i + 1 => someA t s i || (whyT t s i == 0 && wholeT t (rem1 s i))
theorem some_iff {t : TaskM} {s : Nat} : ∀ {n : Nat}, someA t s n = true ↔ ∃ i, i < n ∧ whyT t s i = 0 ∧ wholeT t (rem1 s i) = true
  | 0 => by simp [someA]
  | n + 1 => by
    rw [someA, Bool.or_eq_true, some_iff (n := n), Bool.and_eq_true, beq_iff_eq]
    constructor
    · rintro (⟨k, h1, h2⟩ | h)
      · exact ⟨k, by omega, h2⟩
      · exact ⟨n, by omega, h⟩
    · rintro ⟨k, h1, h2⟩
      by_cases h : k = n
      · subst h; exact .inr h2
      · exact .inl ⟨k, by omega, h2⟩
theorem whole_some {t : TaskM} (hf : t.Fit) {s : Nat} (hs : s < 128) (h0 : s ≠ 0) : wholeT t s = someA t s t.ship.length := by
  rw [Bool.eq_iff_iff, whole_iff hf hs, some_iff]
  constructor
  · rintro (h | h)
    · exact absurd h h0
    · exact h
  · exact .inr
theorem tableWhole_spec (t : TaskM) (hf : t.Fit) (σ : AHeap) : Spec Tryz.prog F_r06_Table_Whole [tableV t] σ fun r σ' => r = .ret (.slice 1 (wholL t (2 ^ t.ship.length))) ∧ σ' = σ := by
  refine Spec.pureFn (spec_r06_Table_Whole (by simp) (awpC_sound _ ?_)) (by simp [pures, tableV_pure]) (wholL_pure t _) σ
  have h7 := hf.ship7
  obtain ⟨m, hm⟩ : ∃ m, t.ship.length = m := ⟨_, rfl⟩
  have hpm : 2 ^ m ≤ 128 := by
    have : 2 ^ m ≤ 2 ^ 7 := Nat.pow_le_pow_right (by omega) (by omega)
    omega
  have hp1 : 1 ≤ 2 ^ m := Nat.one_le_two_pow
  have hm7 : m ≤ 7 := by omega
  have hrl := rowsV_len t (2 ^ m)
  simp [C_r06_Table_Whole, tableV, hm]
  refine AW.loop (ι := Nat) (fun s fr σ => ∃ k, fr = { v := [(1, .pval (.agg [nn' m, .slice 1 (rowsV t (2 ^ m))])), (3, .oslice 1 (wholL t s) 0 k), (4, nn' s)], ds := [] } ∧ σ = [.spare 1 k] ∧ 1 ≤ s ∧ s ≤ 2 ^ m) (fun s => 2 ^ m - s) 1 ⟨0, by simp [wholL]; rfl, rfl, by omega, hp1⟩ ?_
  rintro s fr σ ⟨k, rfl, rfl, hs1, hs⟩
  refine (Nat.lt_or_ge s (2 ^ m)).elim (fun hlt => ?_) (fun hge => ?_)
  rotate_left
  · have hnlI : ¬ (s : Int) < 2 ^ m := by
      have : ¬ ((s : Nat) : Int) < ((2 ^ m : Nat) : Int) := by omega
      simpa using this
    have hs2 : s = 2 ^ m := by omega
    refine awpC_sound _ ?_
    simp
    refine CallK.pure B_r06_Power (r06_Power_spec m hm7 _) ?_
    simp [hnlI, hs2]
  have hltI : (s : Int) < 2 ^ m := by
    have : ((s : Nat) : Int) < ((2 ^ m : Nat) : Int) := by omega
    simpa using this
  have hws : IntKind.i64.wrap ((s : Int) + 1) = ((s + 1 : Nat) : Int) := by rw [wrap_id (by omega) (by omega)]; simp
  have hst := wholL_succ t s
  have hwh := whole_some hf (s := s) (by omega) (by omega)
  rw [hm] at hwh
  refine awpC_sound _ ?_
  simp
  refine CallK.pure B_r06_Power (r06_Power_spec m hm7 _) ?_
  simp [hltI]
  refine AW.loop (ι := Nat) (fun i fr σ => fr = { v := [(1, .pval (.agg [nn' m, .slice 1 (rowsV t (2 ^ m))])), (3, .oslice 1 (wholL t s) 0 k), (4, nn' s), (5, .bool (someA t s i)), (6, nn' i)], ds := [] } ∧ σ = [.spare 1 k] ∧ i ≤ m) (fun i => m - i) 0 ⟨by simp [someA], rfl, by omega⟩ ?_
  rintro i fr σ ⟨rfl, rfl, hi⟩
  refine (Nat.lt_or_ge i m).elim (fun hil => ?_) (fun hig => ?_)
  rotate_left
  · have him : i = m := by omega
    refine awpC_sound _ ?_
    simp [him, hws]
    exact ⟨by intro v hv; simp at hv; subst hv; exact ⟨⟨rfl, rfl⟩, rfl⟩, by omega, s + 1, by omega, k + 1, ⟨⟨by rw [hst, hwh], rfl⟩, by simp⟩, rfl, by omega, by omega⟩
  have hwi : IntKind.i64.wrap ((i : Int) + 1) = ((i + 1 : Nat) : Int) := by rw [wrap_id (by omega) (by omega)]; simp
  have hiS : i < t.ship.length := by omega
  have hw0 : (wholL t s)[0]? = some (.bool (wholeT t 0)) := by
    have : 0 < s := by omega
    simp [wholL, this]
  have hsA : someA t s (i + 1) = (someA t s i || (whyT t s i == 0 && wholeT t (rem1 s i))) := rfl
  refine (tf (someA t s i)).elim (fun hb => ?_) (fun hb => ?_)
  rotate_left
  · rw [hb, Bool.true_or] at hsA
    rw [hb]
    refine awpC_sound _ ?_
    simp [hil, hlt, hltI, hwi, rowV, hiS, hm, hw0]
    exact ⟨i + 1, by omega, ⟨hsA, by simp⟩, by omega⟩
  rw [hb, Bool.false_or] at hsA
  rw [hb]
  refine (Classical.em (whyT t s i = 0)).elim (fun hz => ?_) (fun hz => ?_)
  · obtain ⟨hr1, hr2⟩ := rem1_sub s (by omega) i (by omega) (why_bit hz)
    have hrm : IntKind.i64.wrap ((s : Int) - 2 ^ i) = ((rem1 s i : Nat) : Int) := by
      rw [hr1, show (s : Int) - 2 ^ i = ((s - 2 ^ i : Nat) : Int) by
        have e : (2 : Int) ^ i = ((2 ^ i : Nat) : Int) := by simp
        rw [e]; omega]
      exact wrap_i64 (Nat.lt_of_le_of_lt (Nat.sub_le _ _) (by omega))
    have hpp : 0 < 2 ^ i := Nat.pow_pos (by omega)
    have hrs : rem1 s i < s := by rw [hr1]; exact Nat.sub_lt (by omega) hpp
    rw [show (whyT t s i == 0) = true by simpa using hz, Bool.true_and] at hsA
    refine awpC_sound _ ?_
    simp [hil, hlt, hltI, hwi, rowV, hiS, hm, hz]
    refine CallK.pure B_r06_Power (r06_Power_spec i (by omega) _) ?_
    simp [hil, hlt, hltI, hwi, rowV, hiS, hm, hz, hrm, hrs]
    exact ⟨i + 1, by omega, ⟨hsA.symm, by simp⟩, by omega⟩
  · rw [show (whyT t s i == 0) = false by simpa using hz, Bool.false_and] at hsA
    have hzI : ¬ (whyT t s i : Int) = 0 := by omega
    have hzB : ((whyT t s i : Int) == 0) = false := by simpa using hzI
    refine awpC_sound _ ?_
    simp [hil, hlt, hltI, hwi, rowV, hiS, hm, hzI, hzB, hw0]
    exact ⟨i + 1, by omega, ⟨hsA, by simp⟩, by omega⟩
def nextL (t : TaskM) (s : Nat) : List Nat := (canL t s).filter fun i => wholeT t (rem1 s i)
def nextV (t : TaskM) (l : List Int) : AVal := .tup [.slice 1 (if behindE t l = 0 then (nextL t (leftT t l)).map nn' else []), ii' (behindE t l)]
theorem nextV_pure (t : TaskM) (l : List Int) : (nextV t l).pure = true := by
  unfold nextV
  split
  · simp [AVal.pure, pures, pures_map (f := nn') (fun _ => rfl)]
  · rfl
def nextU (t : TaskM) (s i : Nat) : List Nat := ((List.range i).filter fun j => whyT t s j == 0).filter fun i => wholeT t (rem1 s i)
theorem nextU_succ (t : TaskM) (s i : Nat) : nextU t s (i + 1) = nextU t s i ++ (if whyT t s i = 0 ∧ wholeT t (rem1 s i) = true then [i] else []) := by
  unfold nextU
  rw [canP_succ, List.filter_append]
  congr 1
  by_cases h : whyT t s i = 0
  · cases h2 : wholeT t (rem1 s i) <;> simp [h, h2]
  · simp [h]
theorem nextU_len (t : TaskM) (s i : Nat) : (nextU t s i).length ≤ i := by
  unfold nextU
  refine Nat.le_trans (List.length_filter_le _ _) (Nat.le_trans (List.length_filter_le _ _) (by simp))
theorem r06_Next_spec (t : TaskM) (hok : t.Ok) (l : List Int) (hl : l.length ≤ maxLen) (σ : AHeap) : Spec Tryz.prog F_r06_Next [t.v, .slice 1 (l.map ii')] σ fun r σ' => r = .ret (nextV t l) ∧ σ' = σ := by
  refine Spec.pureFn (spec_r06_Next (by simp) (awpC_sound _ ?_)) (by simp [pures, t.pure, AVal.pure, pures_map (f := ii') (fun _ => rfl)]) (nextV_pure t l) σ
  have ho := fun σ => r06_behind_spec t hok l hl σ
  unfold behindV at ho
  obtain ⟨b, hb⟩ : ∃ b, nextV t l = b := ⟨_, rfl⟩
  have hb' := hb
  unfold nextV at hb'
  rw [hb]
  simp [C_r06_Next, TaskM.v, TaskM.cells]
  refine (Classical.em (behindE t l = 0)).elim (fun h => ?_) (fun h => ?_)
  rotate_left
  · simp only [if_neg h] at hb' ho
    refine CallK.pure B_r06_behind (ho _) ?_
    simp [h]
    rw [← hb']
  simp only [if_pos h] at hb' ho
  obtain ⟨hf, hin⟩ := order_fit (behind_order h)
  have h7 := hf.ship7
  have hs := left_sub t l
  obtain ⟨s, hse⟩ : ∃ s, leftT t l = s := ⟨_, rfl⟩
  rw [hse] at hb' ho hs
  have h128 := hs.lt hf
  have hsp : s < 2 ^ t.ship.length := Nat.lt_pow_two_of_testBit s fun j hj => by
    cases hb : s.testBit j
    · rfl
    · have := hs j hb; omega
  have hspI : (s : Int) < 2 ^ t.ship.length := by
    have e : (2 : Int) ^ t.ship.length = ((2 ^ t.ship.length : Nat) : Int) := by simp
    rw [e]; omega
  have hw0 : (wholL t (2 ^ t.ship.length))[0]? = some (.bool (wholeT t 0)) := by
    have : 0 < 2 ^ t.ship.length := Nat.pow_pos (by omega)
    simp [wholL, this]
  have hp0 : (0 : Int) < 2 ^ t.ship.length := by omega
  refine CallK.pure B_r06_behind (ho _) ?_
  simp [tableV]
  refine CallK.pure B_r06_Table_Whole (tableWhole_spec t hf _) ?_
  simp
  refine AW.loop (ι := Nat) (fun i fr σ => ∃ k, fr = { v := [(6, .pval (.agg [nn' t.ship.length, .slice 1 (rowsV t (2 ^ t.ship.length))])), (7, nn' s), (9, .slice 1 (wholL t (2 ^ t.ship.length))), (10, .oslice 1 ((nextU t s i).map nn') 1 k), (11, nn' i)], ds := [] } ∧ σ = [.dead, .spare 1 k] ∧ i ≤ t.ship.length) (fun i => t.ship.length - i) 0 ⟨0, by simp [nextU], by simp, by omega⟩ ?_
  rintro i fr σ ⟨k, rfl, rfl, hi⟩
  refine (Nat.lt_or_ge i t.ship.length).elim (fun hlt => ?_) (fun hge => ?_)
  · have hw1 : IntKind.i64.wrap ((i : Int) + 1) = ((i + 1 : Nat) : Int) := by rw [wrap_id (by omega) (by omega)]; simp
    have hcs := nextU_succ t s i
    have hlen := nextU_len t s i
    refine (Classical.em (whyT t s i = 0)).elim (fun hz => ?_) (fun hz => ?_)
    · obtain ⟨hr1, hr2⟩ := rem1_sub s (by omega) i (by omega) (why_bit hz)
      have hrm : IntKind.i64.wrap ((s : Int) - 2 ^ i) = ((rem1 s i : Nat) : Int) := by
        rw [hr1, show (s : Int) - 2 ^ i = ((s - 2 ^ i : Nat) : Int) by
          have e : (2 : Int) ^ i = ((2 ^ i : Nat) : Int) := by simp
          rw [e]; omega]
        exact wrap_i64 (Nat.lt_of_le_of_lt (Nat.sub_le _ _) (by omega))
      have hrs : rem1 s i < 2 ^ t.ship.length := Nat.lt_of_le_of_lt (by rw [hr1]; exact Nat.sub_le _ _) hsp
      have hrsI : ((rem1 s i : Nat) : Int) < 2 ^ t.ship.length := by
        have e : (2 : Int) ^ t.ship.length = ((2 ^ t.ship.length : Nat) : Int) := by simp
        rw [e]; omega
      refine awpC_sound _ ?_
      simp [hlt, hsp, hspI, hz, hw1, rowV]
      refine CallK.pure B_r06_Power (r06_Power_spec i (by omega) _) ?_
      refine (tf (wholeT t (rem1 s i))).elim (fun hh => ?_) (fun hh => ?_)
      · rw [if_neg (by simp [hh]), List.append_nil] at hcs
        simp [hlt, hsp, hspI, hz, hw1, rowV, hrm, hrs, hrsI, hh]
        exact ⟨i + 1, by omega, k, ⟨⟨by rw [hcs], rfl⟩, by simp⟩, rfl, by omega⟩
      · rw [if_pos ⟨hz, hh⟩] at hcs
        simp [hlt, hsp, hspI, hz, hw1, rowV, hrm, hrs, hrsI, hh]
        exact ⟨by intro v hv; simp at hv; subst hv; exact ⟨⟨rfl, rfl⟩, rfl⟩, by omega, i + 1, by omega, k + 1, ⟨⟨by rw [hcs]; simp, rfl⟩, by simp⟩, rfl, by omega⟩
    · rw [if_neg (fun e => hz e.1), List.append_nil] at hcs
      have hzI : ¬ (whyT t s i : Int) = 0 := by omega
      have hzB : ((whyT t s i : Int) == 0) = false := by simpa using hzI
      refine awpC_sound _ ?_
      simp [hlt, hsp, hspI, hzI, hzB, hz, hw1, rowV, hw0, hp0]
      exact ⟨i + 1, by omega, k, ⟨⟨by rw [hcs], rfl⟩, by simp⟩, rfl, by omega⟩
  · have hnl : ¬ i < t.ship.length := by omega
    have him : i = t.ship.length := by omega
    subst him
    refine awpC_sound _ ?_
    simp
    rw [← hb', h]; rfl
end Go.AM
namespace Go.AM
open Go.Proofs
set_option maxRecDepth 100000
set_option maxHeartbeats 1000000
theorem most_spec (t : TaskM) {n : Nat} (σ : AHeap) (h : ShipI t n σ) : Spec Tryz.prog F_cut_ship_most [.ptr (n + 2) 0] σ fun r σ' => r = .ret (findV n σ.length (σ.length + 2)) ∧ σ' = σ ++ [.amap [], .dead, .box [findV n σ.length (σ.length + 2)]] := by
  refine spec_cut_ship_most (by simp) (awpC_sound _ ?_)
  simp [C_cut_ship_most, findV]
theorem most_at (t : TaskM) {n : Nat} (σ : AHeap) (h : ShipI t n σ) (X : AHeap) : MostAt t n σ.length (σ.length + 2) (σ ++ [.amap [], .dead, .box [findV n σ.length (σ.length + 2)]] ++ X) := by
  have hl := h.len
  rw [List.append_assoc]
  exact ⟨h.app, hl, ⟨[], fun _ _ h => (by cases h), by simp⟩, by simp⟩
theorem whole_spec {t : TaskM} (hf : t.Fit) (hok : t.Ok) {n k q : Nat} (s : Nat) (hs : Sub t s) (σ : AHeap) (h : MostAt t n k q σ) :
    Spec Tryz.prog F_cut_whole [findV n k q, nn' s] σ fun r σ' => r = .ret (.bool (wholeT t s)) ∧ Memo2 t n k σ σ' := by
  have h128 := hs.lt hf
  have hnl := h.ship.len
  have hkl := h.k_lt
  have hnk := h.lt
  obtain ⟨m0, M0, hm0, hM0, hself, hk⟩ := h.ex
  have hcv : IntKind.u64.wrap (s : Int) = s := wrap_u64 (by omega)
  have hfs : Spec Tryz.prog F_cut_ship_most_1 ([nn' s] ++ [.pval (.map k), .pval (.ptr (n + 2) 0), .ptr q 0]) (mset2 σ n k m0 M0 ++ []) fun r σ' => r = .ret (nn' (mostT t s)) ∧ Memo2 t n k (mset2 σ n k m0 M0 ++ []) σ' := by
    rw [List.append_nil, hself]; exact find_spec hf hok s hs σ h
  refine spec_cut_whole (by simp) (awpC_sound _ ?_)
  simp [C_cut_whole, findV]
  have hσ : σ = mset2 σ n k m0 M0 ++ [] := by rw [List.append_nil, hself]
  rw [hσ]
  refine CallK.memo2 (CallV.func (first := []) (args := [nn' s]) (caps := [.pval (.map k), .pval (.ptr (n + 2) 0), .ptr q 0]) B_cut_ship_most_1 hfs) (by omega) hkl (by omega) fun m' M' tl2 hm' hM' => ?_
  simp [hcv]
  refine CallK.pure B_math_bits_OnesCount (oc_spec s h128 _) ?_
  simp
  rw [hself]
  refine ⟨?_, m', M', tl2, hm', hM', rfl⟩
  unfold wholeT
  rw [Bool.eq_iff_iff, beq_iff_eq, beq_iff_eq]
  omega
theorem next_1_spec {t : TaskM} (hf : t.Fit) (hok : t.Ok) {n k q : Nat} (s : Nat) (hs : Sub t s) (σ : AHeap) (h : MostAt t n k q σ) :
    Spec Tryz.prog F_cut_Next_1 [nn' s, .pval (findV n k q)] σ fun r σ' => r = .ret (.bool (wholeT t s)) ∧ Memo2 t n k σ σ' := by
  refine spec_cut_Next_1 (by simp) (awpC_sound _ ?_)
  simp [C_cut_Next_1, findV]
  refine CallK.spec B_cut_whole (whole_spec hf hok s hs σ h) ?_
  rintro r σ' ⟨rfl, hm⟩
  refine ⟨_, rfl, ?_⟩
  simp
  exact hm
theorem next_collect {t : TaskM} (hf : t.Fit) (hok : t.Ok) {n k q : Nat} (s : Nat) (hs : Sub t s) (σ : AHeap) (h : MostAt t n k q σ) :
    Spec Tryz.prog F_cut_collect_cut_set [.func (.func F_cut_ship_can_1) [] [.pval (nn' s), .pval (.ptr (n + 2) 0)], .func (.func F_cut_Next_1) [] [.pval (findV n k q)]] σ fun r σ' => r = .ret (.slice 1 ((nextL t s).map nn')) := by
  have hnl := h.ship.len
  have hkl := h.k_lt
  have hnk := h.lt
  obtain ⟨m0, M0, hm0, hM0, hself, hk⟩ := h.ex
  refine (collect_spec hf hok (n := n) σ s hs (.func F_cut_Next_1) [] [.pval (findV n k q)] (fun i => wholeT t (rem1 s i)) (fun s' => ∃ m M, KnownOk t m ∧ MostOk t M ∧ s' = mset2 σ n k m M) ?_ ?_ ?_ ⟨m0, M0, hm0, hM0, hself.symm⟩).mono ?_
  · rintro s' ⟨m, M, hm, hM, rfl⟩
    have := (h.mset hm hM []).ship
    rwa [List.append_nil] at this
  · rintro s' m' ⟨m, M, hm, hM, rfl⟩ hm'
    exact ⟨m', M, hm', hM, mset2_setn _ _ _ _ (by omega)⟩
  · rintro i s' tl hi hw ⟨m, M, hm, hM, rfl⟩ hl
    refine (CallV.func (first := []) (args := [nn' (rem1 s i)]) (caps := [.pval (findV n k q)]) B_cut_Next_1 (next_1_spec hf hok (rem1 s i) hs.rem _ (h.mset hm hM tl))).mono ?_
    rintro r σ' ⟨rfl, m', M', tl', hm', hM', rfl⟩
    exact ⟨mset2 σ n k m' M', tl', by rw [mset2_app _ _ _ _ _ _ (by omega) hkl (by omega)], by simp, rfl, m', M', hm', hM', rfl⟩
  · rintro r σ' ⟨rfl, _⟩
    rfl
theorem cut_Next_spec (t : TaskM) (hok : t.Ok) (l : List Int) (hl : l.length ≤ maxLen) (σ : AHeap) : Spec Tryz.prog F_cut_Next [t.v, .slice 1 (l.map ii')] σ fun r σ' => r = .ret (nextV t l) ∧ σ' = σ := by
  refine Spec.pureFn (spec_cut_Next (by simp) (awpC_sound _ ?_)) (by simp [pures, t.pure, AVal.pure, pures_map (f := ii') (fun _ => rfl)]) (nextV_pure t l) σ
  obtain ⟨b, hb⟩ : ∃ b, nextV t l = b := ⟨_, rfl⟩
  have hb' := hb
  unfold nextV at hb'
  rw [hb]
  simp [C_cut_Next, TaskM.v, TaskM.cells]
  refine CallK.spec B_cut_good (good_spec t hok l hl _) ?_
  rintro r σ' (⟨h1, rfl, m, tl, hm, rfl⟩ | ⟨h1, rfl, tl, rfl⟩)
  · refine ⟨_, rfl, ?_⟩
    rw [h1, if_pos rfl] at hb'
    obtain ⟨hf, hin⟩ := order_fit (behind_order h1)
    simp
    refine CallK.spec B_cut_ship_most (most_spec t (n := 0) (opened t [] m tl) (opened_ship (σ := []) hm tl)) ?_
    rintro r σ' ⟨rfl, rfl⟩
    refine ⟨_, rfl, ?_⟩
    simp [findV]
    refine CallK.pure B_cut_ship_can (cut_can_spec 2 (leftT t l) _) ?_
    simp
    have hat := most_at t (n := 0) (opened t [] m tl) (opened_ship (σ := []) hm tl) [.dead]
    simp only [List.append_assoc, List.cons_append, List.nil_append] at hat
    refine CallK.spec B_cut_collect_cut_set (next_collect hf hok (leftT t l) (left_sub t l) _ hat) ?_
    rintro r σ' rfl
    refine ⟨_, rfl, ?_⟩
    simp [← hb']
  · refine ⟨_, rfl, ?_⟩
    rw [if_neg h1] at hb'
    simp [h1, ← hb']
end Go.AM
