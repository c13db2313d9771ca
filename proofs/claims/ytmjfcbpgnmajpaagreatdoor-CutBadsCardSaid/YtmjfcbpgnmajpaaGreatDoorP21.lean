/- Powers, sets, and the hull of what is left: of the document. A ship that is cut is made: of the program. The table of why a part cannot be cut of a set: of the document. The error of a task: of .. -/
import Derived.Test.YtmjfcbpgnmajpaaGreatDoorP20
import Derived.Test.YtmjfcbpgnmajpaaGreatDoorP19
namespace Go.AM
open Go.Proofs
set_option maxRecDepth 100000
set_option maxHeartbeats 1000000
theorem r06_Power_spec (n : Nat) (hn : n ≤ 7) (σ : AHeap) : Spec Tryz.prog F_r06_Power [nn' n] σ fun r σ' => r = .ret (nn' (2 ^ n)) ∧ σ' = σ := by
  refine Spec.pureFn (spec_r06_Power (by simp) (awpC_sound _ ?_)) rfl rfl σ
  simp [C_r06_Power]
  refine AW.loop (ι := Nat) (fun i fr σ => fr = { v := [(0, nn' n), (3, nn' (2 ^ i)), (4, nn' i)], ds := [] } ∧ i ≤ n) (fun i => n - i) 0 ⟨by simp, by omega⟩ ?_
  rintro i fr σ ⟨rfl, hi⟩
  refine (Nat.lt_or_ge i n).elim (fun hlt => ?_) (fun hge => ?_)
  · have hw1 : IntKind.i64.wrap ((i : Int) + 1) = ((i + 1 : Nat) : Int) := by rw [wrap_id (by omega) (by omega)]; simp
    have hp : 2 ^ (i + 1) < 256 := Nat.lt_of_le_of_lt (Nat.pow_le_pow_right (by omega) (by omega : i + 1 ≤ 7)) (by decide)
    have hw2 : IntKind.i64.wrap (2 * ((2 ^ i : Nat) : Int)) = ((2 ^ (i + 1) : Nat) : Int) := by
      rw [show 2 * ((2 ^ i : Nat) : Int) = ((2 ^ (i + 1) : Nat) : Int) by rw [Nat.pow_succ]; push_cast; omega]
      exact wrap_i64 (by omega)
    have hw3 : IntKind.i64.wrap (2 * 2 ^ i) = ((2 ^ (i + 1) : Nat) : Int) := by simpa using hw2
    refine awpC_sound _ ?_
    simp [hlt, hw1, hw3]
    exact ⟨i + 1, by omega, ⟨by simp, by omega⟩⟩
  · have : i = n := by omega
    subst this
    refine awpC_sound _ ?_
    simp
theorem r06_Has_spec (s i : Nat) (hs : s < 128) (hi : i < 7) (σ : AHeap) : Spec Tryz.prog F_r06_Has [nn' s, nn' i] σ fun r σ' => r = .ret (.bool (s.testBit i)) ∧ σ' = σ := by
  refine Spec.pureFn (spec_r06_Has (by simp) (awpC_sound _ ?_)) rfl rfl σ
  have hp : (0 : Nat) < 2 ^ i := Nat.pow_pos (by omega)
  have hpz : ¬ (2 : Int) ^ i = 0 := by
    have : ((2 ^ i : Nat) : Int) ≠ 0 := by omega
    simpa using this
  have h1 : (s : Int).tdiv (2 ^ i) = ((s / 2 ^ i : Nat) : Int) := by
    have : (2 : Int) ^ i = ((2 ^ i : Nat) : Int) := by simp
    rw [this]; rfl
  have h2 : IntKind.i64.wrap ((s / 2 ^ i : Nat) : Int) = ((s / 2 ^ i : Nat) : Int) := wrap_i64 (Nat.lt_of_le_of_lt (Nat.div_le_self _ _) (by omega))
  have h3 : ((((s / 2 ^ i : Nat) : Int).tmod 2) == 1) = s.testBit i := by
    rw [Nat.testBit_eq_decide_div_mod_eq]
    have : ((s / 2 ^ i : Nat) : Int).tmod 2 = ((s / 2 ^ i % 2 : Nat) : Int) := rfl
    rw [this]
    by_cases h : s / 2 ^ i % 2 = 1
    · simp [h]
    · have : s / 2 ^ i % 2 = 0 := by omega
      simp [this]
  have e : (s : Int) / 2 ^ i = ((s / 2 ^ i : Nat) : Int) := by push_cast; rfl
  have h4 : ((IntKind.i64.wrap ((s : Int) / 2 ^ i)).tmod 2 == 1) = s.testBit i := by rw [e, h2]; exact h3
  simp [C_r06_Has]
  refine CallK.pure B_r06_Power (r06_Power_spec i (by omega) _) ?_
  simp [hpz, h1, h4]
theorem r06_Left_spec (t : TaskM) (h7 : t.hull.ps.length ≤ 7) (s : Nat) (hs : s < 128) (σ : AHeap) : Spec Tryz.prog F_r06_Left [t.v, nn' s] σ fun r σ' => r = .ret (leftH t s).v ∧ σ' = σ := by
  refine Spec.pureFn (spec_r06_Left (by simp) (awpC_sound _ ?_)) (by simp [pures, t.pure, AVal.pure]) (leftH t s).pure σ
  simp [C_r06_Left, TaskM.v, TaskM.cells]
  refine AW.loop (ι := Nat) (fun i fr σ => ∃ k, fr = { v := [(1, nn' s), (2, .pval t.v), (4, .ptr 0 0), (5, .ptr 1 0), (6, nn' i)], ds := [] } ∧
    σ = [.box [.slice 7 [], ii' 0, ii' 0], .box [.oslice 7 ((subP (t.hull.ps.take i) s 0).map PartM.v) 2 k, ii' t.hull.aft, ii' t.hull.fore], .spare 7 k] ∧ i ≤ t.hull.ps.length) (fun i => t.hull.ps.length - i) 0 ⟨0, by simp [TaskM.v, TaskM.cells], by simp [subP], by omega⟩ ?_
  rintro i fr σ ⟨k, rfl, rfl, hi⟩
  refine (Nat.lt_or_ge i t.hull.ps.length).elim (fun hlt => ?_) (fun hge => ?_)
  · have hw1 : IntKind.i64.wrap ((i : Int) + 1) = ((i + 1 : Nat) : Int) := by rw [wrap_id (by omega) (by omega)]; simp
    obtain ⟨p, hp⟩ : ∃ p, t.hull.ps[i] = p := ⟨_, rfl⟩
    have hst := subP_take (s := s) hlt
    rw [hp] at hst
    have hsl := subP_len (l := t.hull.ps.take i) (s := s) (i := 0)
    have hbd : ((subP (t.hull.ps.take i) s 0).length + 1) * 64 ≤ 140737488355328 := by simp at hsl; omega
    refine awpC_sound _ ?_
    simp [hlt, TaskM.v, TaskM.cells]
    refine (tf (s.testBit i)).elim (fun hb => ?_) (fun hb => ?_)
    · refine CallK.pureE B_r06_Has (r06_Has_spec s i hs (by omega) _) (congrArg AVal.bool hb) ?_
      rw [hb, if_neg (by simp), List.append_nil] at hst
      simp [hlt, hp, hw1]
      exact ⟨i + 1, by omega, by simp, by rw [hst], by omega⟩
    · refine CallK.pureE B_r06_Has (r06_Has_spec s i hs (by omega) _) (congrArg AVal.bool hb) ?_
      rw [hb, if_pos rfl] at hst
      simp [hlt, hp, hw1, PartM.v, PartM.cells, TaskM.v, TaskM.cells]
      exact ⟨by intro v hv; simp at hv; subst hv; exact ⟨rfl, rfl⟩, hbd, i + 1, by omega, by simp, by rw [hst]; simp [PartM.v, PartM.cells], by omega⟩
  · have hnl : ¬ i < t.hull.ps.length := by omega
    refine awpC_sound _ ?_
    simp [hnl, TaskM.v, TaskM.cells]
    rw [List.take_of_length_le hge]; rfl
end Go.AM
namespace Go.AM
open Go.Proofs
set_option maxRecDepth 100000
set_option maxHeartbeats 1000000
theorem cut_open_1_spec (fr : List Int) (b : List Int) (x : Int) (hl : fr.length ≤ maxLen) (σ : AHeap) : Spec Tryz.prog F_cut_open_1 [ii' x, .pval (.agg [.slice 1 (fr.map ii'), .slice 1 (b.map ii')])] σ fun r σ' => r = .ret (.bool (!fr.contains x)) ∧ σ' = σ := by
  refine Spec.pureFn (spec_cut_open_1 (by simp) (awpC_sound _ ?_)) (by simp [pures, AVal.pure, pures_map (f := ii') (fun _ => rfl)]) rfl σ
  simp [C_cut_open_1]
  refine CallK.pure B_slices_Contains_int_int (slices_Contains_int_spec fr x hl _) ?_
  simp
theorem bitsL_len (n : Nat) : (bitsL n).length ≤ 7 := by
  unfold bitsL
  rw [List.length_map]
  exact Nat.le_trans (List.length_filter_le _ _) (by simp)
def blowL (t : TaskM) : List Int := bitsL (afterM t.net t.blanks t.steps).2.2
theorem ventF_spec (t : TaskM) (hok : t.Ok) (hfit : t.Fit) (σ : AHeap) : Spec Tryz.prog F_vent_After [.agg [.slice 2 (t.net.tanks.map TankM.v), .slice 3 (t.net.pipes.map PipeM.v)], .slice 1 (t.blanks.map ii'), .slice 2 (t.steps.map StepM.v)] σ fun r σ' => r = .ret (.tup [.agg [.slice 1 ((freeT t).map ii'), .slice 1 ((blowL t).map ii')], ii' 0]) ∧ σ' = σ := by
  have := vent_After_spec t.net t.blanks t.steps hok.tk hok.pp hok.bl σ
  rw [afterV_eq, hfit.after] at this
  unfold afterS at this
  rw [if_pos hfit.after] at this
  exact this
theorem cut_open_spec (t : TaskM) (hok : t.Ok) (σ : AHeap) : Spec Tryz.prog F_cut_open [t.v] σ fun r σ' =>
    ((checkT t).2.2 = 0 ∧ r = .ret (.tup [.ptr (σ.length + 2) 0, ii' 0]) ∧ ∃ tl, σ' = σ ++ .arr 1 (aboveV t) :: .amap [] :: .box (cutC t σ.length (gasT t)) :: tl) ∨
    ((checkT t).2.2 ≠ 0 ∧ r = .ret (.tup [.nilptr, ii' (checkT t).2.2]) ∧ ∃ tl, σ' = σ ++ tl) := by
  refine spec_cut_open (by simp) (awpC_sound _ ?_)
  simp [C_cut_open, TaskM.v, TaskM.cells]
  refine CallK.pure B_cut_Check (cut_Check_spec t hok _) ?_
  simp [tripV]
  refine (Classical.em ((checkT t).2.2 = 0)).elim (fun h1 => ?_) (fun h1 => ?_)
  rotate_left
  · simp [h1]
  have hfit := check_fit h1
  have h7 := hfit.ship7
  simp [h1]
  have hwn : t.ship.length * 8 ≤ 140737488355328 := by omega
  refine ⟨⟨by omega, by omega⟩, CallK.pure B_vent_After (ventF_spec t hok hfit _) ?_⟩
  simp
  refine AW.loop (ι := Nat) (fun i fr σ' => ∃ (L : List Nat) (g : Nat) (tl : AHeap), fr = { v := [(1, .pval (.agg [.slice 7 (t.ship.map HuM.v), .slice 7 (t.hull.ps.map PartM.v), ii' t.hull.aft, ii' t.hull.fore, ii' t.lo, ii' t.hi, .slice 2 (t.net.tanks.map TankM.v), .slice 3 (t.net.pipes.map PipeM.v), .slice 1 (t.blanks.map ii'), .slice 2 (t.steps.map StepM.v), .slice 1 (t.tanks.map intsS)])), (7, .ptr (σ.length + 2) 0), (8, .pval (.agg [.slice 1 ((freeT t).map ii'), .slice 1 ((blowL t).map ii')])), (44, .slice 7 (t.ship.map HuM.v)), (45, .int .i64 t.ship.length), (46, .int .i64 i)], ds := [] } ∧
    σ' = σ ++ .arr 1 (L.map nn') :: .amap [] :: .box (cutC t σ.length g) :: tl ∧ i ≤ t.ship.length ∧ L.length = t.ship.length ∧ (∀ j, j < t.ship.length → L[j]? = some (if j < i then aboveT t j else 0)) ∧ gasA (freeT t) (t.tanks.drop i) i g = gasT t ∧ g < 128) (fun i => t.ship.length - i) 0 ⟨List.replicate t.ship.length 0, 0, [.dead], by simp, by simp [cutC], by omega, by simp, fun j hj => by simp [hj], rfl, by omega⟩ ?_
  rintro i fr σ' ⟨L, g, tl, rfl, rfl, hi, hL, hLj, hg, hg7⟩
  refine (Nat.lt_or_ge i t.ship.length).elim (fun hlt => ?_) (fun hge => ?_)
  rotate_left
  · have hnl : ¬ i < t.ship.length := by omega
    have hz : t.tanks.drop i = [] := List.drop_eq_nil_of_le (by have := hfit.tanks; omega)
    rw [hz] at hg
    replace hg : g = gasT t := hg
    have hLe : L.map nn' = aboveV t := by
      apply List.ext_getElem?
      intro j
      unfold aboveV
      rcases Nat.lt_or_ge j t.ship.length with h | h
      · rw [List.getElem?_map, hLj j h, if_pos (by omega)]; simp [h]
      · rw [List.getElem?_eq_none (by simpa [hL] using h), List.getElem?_eq_none (by simpa using h)]
    refine awpC_sound _ ?_
    simp [hnl]
    exact ⟨h1, hLe, by rw [hg]⟩
  have hd : t.ship.drop i = t.ship[i] :: t.ship.drop (i + 1) := List.drop_eq_getElem_cons hlt
  obtain ⟨x, hx⟩ : ∃ x, t.ship[i] = x := ⟨_, rfl⟩
  have hab : aboveT t i = aboveA x.name t.ship 0 0 := by simp [aboveT, hlt, hx]
  have hw1 : IntKind.i64.wrap ((i : Int) + 1) = ((i + 1 : Nat) : Int) := by rw [wrap_id (by omega) (by omega)]; simp
  have hLi := hLj i hlt
  rw [if_neg (by omega)] at hLi
  have hiL : i < L.length := by omega
  have hL0 : L.set i 0 = L := by
    have : L[i] = 0 := Option.some.inj ((List.getElem?_eq_getElem hiL).symm.trans hLi)
    rw [← this]; exact List.set_getElem_self hiL
  refine awpC_sound _ ?_
  simp [hlt, hx, HuM.v, HuM.cells]
  refine AW.loop (ι := Nat) (fun k fr σ' => ∃ (a : Nat) (tl : AHeap), fr = { v := [(1, .pval (.agg [.slice 7 (t.ship.map HuM.v), .slice 7 (t.hull.ps.map PartM.v), ii' t.hull.aft, ii' t.hull.fore, ii' t.lo, ii' t.hi, .slice 2 (t.net.tanks.map TankM.v), .slice 3 (t.net.pipes.map PipeM.v), .slice 1 (t.blanks.map ii'), .slice 2 (t.steps.map StepM.v), .slice 1 (t.tanks.map intsS)])), (7, .ptr (σ.length + 2) 0), (8, .pval (.agg [.slice 1 ((freeT t).map ii'), .slice 1 ((blowL t).map ii')])), (10, .int .i64 i), (11, .pval (.agg [.str x.name, ii' x.kind, ii' x.first, ii' x.last, .slice 1 (x.on.map .str), ii' x.lo, ii' x.hi])), (44, .slice 7 (t.ship.map HuM.v)), (45, .int .i64 t.ship.length), (46, .int .i64 i), (53, .slice 7 (t.ship.map HuM.v)), (54, .int .i64 t.ship.length), (55, .int .i64 k)], ds := [] } ∧
    σ' = σ ++ .arr 1 ((L.set i a).map nn') :: .amap [] :: .box (cutC t σ.length g) :: tl ∧ k ≤ t.ship.length ∧ a < 128 ∧ aboveA x.name (t.ship.drop k) k a = aboveT t i) (fun k => t.ship.length - k) 0 ⟨0, tl ++ [.dead], by simp, by simp [hL0], by omega, by omega, hab.symm⟩ ?_
  rintro k fr σ' ⟨a, tl2, rfl, rfl, hk, ha, hak⟩
  refine (Nat.lt_or_ge k t.ship.length).elim (fun hkl => ?_) (fun hkg => ?_)
  · have hdk : t.ship.drop k = t.ship[k] :: t.ship.drop (k + 1) := List.drop_eq_getElem_cons hkl
    obtain ⟨y, hy⟩ : ∃ y, t.ship[k] = y := ⟨_, rfl⟩
    have hyo := hok.ship.2 y (hy ▸ List.getElem_mem _)
    rw [hdk, hy] at hak
    simp only [aboveA] at hak
    have hw1k : IntKind.i64.wrap ((k : Int) + 1) = ((k + 1 : Nat) : Int) := by rw [wrap_id (by omega) (by omega)]; simp
    have hsh : bshlI .i64 1 (k : Int) = ((2 ^ k : Nat) : Int) := shl_i64 (by omega)
    have hor : borI .i64 (a : Int) (2 ^ k) = ((a ||| 2 ^ k : Nat) : Int) := by
      have := or_i64 (a := a) (b := 2 ^ k) (by omega) (e63 (by omega))
      simpa using this
    have hct := fun σ => slices_Contains_str_spec y.on x.name hyo σ
    refine awpC_sound _ ?_
    simp [hkl, hy, HuM.v, HuM.cells]
    refine (tf (onF y x.name)).elim (fun ho => ?_) (fun ho => ?_)
    · refine CallK.pureE B_slices_Contains_string_string (hct _) (congrArg AVal.bool ho) ?_
      rw [ho, if_neg (by simp)] at hak
      simp
      exact ⟨k + 1, by omega, hw1k, a, rfl, by omega, ha, hak⟩
    · refine CallK.pureE B_slices_Contains_string_string (hct _) (congrArg AVal.bool ho) ?_
      rw [ho, if_pos rfl] at hak
      have hget : ((L.map nn').set i (nn' a))[i]? = some (nn' a) := by simp [hiL]
      simp [hiL, hL, hsh, hor, hget, hlt]
      exact ⟨k + 1, by omega, hw1k, a ||| 2 ^ k, rfl, by omega, or_lt (n := 7) ha (pow_lt7 (by omega)), hak⟩
  have hnk : ¬ k < t.ship.length := by omega
  have hzk : t.ship.drop k = [] := List.drop_eq_nil_of_le hkg
  rw [hzk] at hak
  replace hak : a = aboveT t i := hak
  have hit : i < t.tanks.length := by have := hfit.tanks; omega
  have hdt : t.tanks.drop i = t.tanks[i] :: t.tanks.drop (i + 1) := List.drop_eq_getElem_cons hit
  obtain ⟨l, hl⟩ : ∃ l, t.tanks[i] = l := ⟨_, rfl⟩
  have hll := hok.tls l (hl ▸ List.getElem_mem _)
  rw [hdt, hl] at hg
  simp only [gasA] at hg
  have hfl : (freeT t).length ≤ maxLen := Nat.le_trans (bitsL_len _) (by decide)
  have hsh : bshlI .i64 1 (i : Int) = ((2 ^ i : Nat) : Int) := shl_i64 (by omega)
  have hor : borI .i64 (g : Int) (2 ^ i) = ((g ||| 2 ^ i : Nat) : Int) := by
    have := or_i64 (a := g) (b := 2 ^ i) (by omega) (e63 (by omega))
    simpa using this
  have hcf := fun σ => slices_ContainsFunc_int_spec F_cut_open_1 [.pval (.agg [.slice 1 ((freeT t).map ii'), .slice 1 ((blowL t).map ii')])] (by simp [pures, AVal.pure, pures_map (f := ii') (fun _ => rfl)]) (fun x => !(freeT t).contains x) l hll (fun x _ => PureF.fn B_cut_open_1 (fun σ => cut_open_1_spec (freeT t) (blowL t) x hfl σ)) σ
  have hnew : ∀ j, j < t.ship.length → (L.set i a)[j]? = some (if j < i + 1 then aboveT t j else 0) := fun j hj => by
    by_cases h : j = i
    · subst h
      rw [List.getElem?_set_self hiL, if_pos (by omega), hak]
    · rw [List.getElem?_set_ne (fun e => h e.symm), hLj j hj]
      by_cases h2 : j < i
      · rw [if_pos h2, if_pos (by omega)]
      · rw [if_neg h2, if_neg (by omega)]
  have hset : (L.map nn').set i (nn' a) = (L.set i a).map nn' := by rw [List.map_set]
  refine awpC_sound _ ?_
  simp [hnk, hit, hl, intsS]
  refine (tf (l.any fun x => !(freeT t).contains x)).elim (fun ho => ?_) (fun ho => ?_)
  · refine CallK.pureE B_slices_ContainsFunc_int_int (hcf _) (congrArg AVal.bool ho) ?_
    rw [ho, if_neg (by simp)] at hg
    simp
    exact ⟨i + 1, by omega, hw1, L.set i a, g, ⟨hset, rfl⟩, by omega, by simpa using hL, hnew, hg, hg7⟩
  · refine CallK.pureE B_slices_ContainsFunc_int_int (hcf _) (congrArg AVal.bool ho) ?_
    rw [ho, if_pos rfl] at hg
    simp [hsh, hor]
    exact ⟨i + 1, by omega, hw1, L.set i a, g ||| 2 ^ i, ⟨hset, rfl⟩, by omega, by simpa using hL, hnew, hg, or_lt (n := 7) hg7 (pow_lt7 (by omega))⟩
end Go.AM
namespace Go.AM
open Go.Proofs
set_option maxRecDepth 100000
set_option maxHeartbeats 1000000
def rowV (t : TaskM) (s m : Nat) : AVal := .slice 1 ((List.range m).map fun i => nn' (whyT t s i))
def rowsV (t : TaskM) (n : Nat) : List AVal := (List.range n).map fun s => rowV t s t.ship.length
def tableV (t : TaskM) : AVal := .agg [nn' t.ship.length, .slice 1 (rowsV t (2 ^ t.ship.length))]
def standL (t : TaskM) (n : Nat) : List AVal := (List.range n).map fun s => .bool (!fallsS t s)
theorem standL_succ (t : TaskM) (n : Nat) : standL t (n + 1) = standL t n ++ [.bool (!fallsS t n)] := by simp [standL, List.range_succ]
theorem rowsV_succ (t : TaskM) (n : Nat) : rowsV t (n + 1) = rowsV t n ++ [rowV t n t.ship.length] := by simp [rowsV, List.range_succ]
theorem rowV_succ (t : TaskM) (s n : Nat) : (List.range (n + 1)).map (fun i => nn' (whyT t s i)) = (List.range n).map (fun i => nn' (whyT t s i)) ++ [nn' (whyT t s n)] := by simp [List.range_succ]
@[simp] theorem standL_len (t : TaskM) (n : Nat) : (standL t n).length = n := by simp [standL]
@[simp] theorem rowsV_len (t : TaskM) (n : Nat) : (rowsV t n).length = n := by simp [rowsV]
@[simp] theorem standL_get (t : TaskM) (n i : Nat) (h : i < (standL t n).length) : (standL t n)[i] = .bool (!fallsS t i) := by simp [standL]
@[simp] theorem rowsV_get (t : TaskM) (n i : Nat) (h : i < (rowsV t n).length) : (rowsV t n)[i] = rowV t i t.ship.length := by simp [rowsV]
theorem rowV_pure (t : TaskM) (s m : Nat) : (rowV t s m).pure = true := by
  simp [rowV, AVal.pure, pures_map (f := fun i => nn' (whyT t s i)) (fun _ => rfl)]
theorem tableV_pure (t : TaskM) : (tableV t).pure = true := by
  simp [tableV, AVal.pure, pures, rowsV, pures_map (f := fun s => rowV t s t.ship.length) (fun s => rowV_pure t s _)]
def overA (t : TaskM) (s i : Nat) : Nat → Bool
  | 0 => false
  | k + 1 => overA t s i k || (s.testBit k && (match t.ship[k]? with | some y => onF y (t.ship.getD i ⟨.empty, 0, 0, 0, [], 0, 0⟩).name | none => false))
def anyTo {α : Type} (p : α → Bool) (l : List α) (k : Nat) : Bool := (l.take k).any p
theorem anyTo_succ {α : Type} (p : α → Bool) (l : List α) {k : Nat} (h : k < l.length) : anyTo p l (k + 1) = (anyTo p l k || p l[k]) := by
  unfold anyTo
  rw [List.take_add_one, List.any_append, List.getElem?_eq_getElem h]
  simp
def genA {α : Type} (p : α → Bool) : List α → Nat → Nat → Nat
  | [], _, a => a
  | y :: r, k, a => genA p r (k + 1) (if p y then a ||| 2 ^ k else a)
theorem bit_genA {α : Type} (p : α → Bool) : ∀ {l : List α} {k a j : Nat}, (genA p l k a).testBit j = (a.testBit j || (decide (k ≤ j) && (match l[j - k]? with | some y => p y | none => false)))
  | [], k, a, j => by simp [genA]
  | y :: r, k, a, j => by
    rw [genA, bit_genA]
    by_cases h : j = k
    · subst h
      have : ¬ j + 1 ≤ j := by omega
      cases h0 : p y <;> simp [h0, this, Nat.testBit_or, Nat.testBit_two_pow]
    · by_cases h2 : k ≤ j
      · have h3 : k + 1 ≤ j := by omega
        have h4 : j - k = (j - (k + 1)) + 1 := by omega
        have h5 : ¬ k = j := fun e => h e.symm
        rw [h4]
        cases h0 : p y <;> simp [h2, h3, h5, Nat.testBit_or, Nat.testBit_two_pow]
      · have h3 : ¬ k + 1 ≤ j := by omega
        have h5 : ¬ k = j := fun e => h e.symm
        cases h0 : p y <;> simp [h2, h3, h5, Nat.testBit_or, Nat.testBit_two_pow]
theorem aboveA_gen {nm : ByteArray} : ∀ {l : List HuM} {k a : Nat}, aboveA nm l k a = genA (fun y => onF y nm) l k a
  | [], _, _ => rfl
  | y :: r, k, a => by rw [aboveA, genA, aboveA_gen]
theorem gasA_gen {free : List Int} : ∀ {l : List (List Int)} {k a : Nat}, gasA free l k a = genA (fun y => y.any (fun x => !free.contains x)) l k a
  | [], _, _ => rfl
  | y :: r, k, a => by rw [gasA, genA, gasA_gen]
theorem over_and {t : TaskM} {s i : Nat} : ∀ {n : Nat}, overA t s i n = true ↔ ∃ k, k < n ∧ s.testBit k = true ∧ (aboveT t i).testBit k = true
  | 0 => by simp [overA]
  | n + 1 => by
    rw [overA, Bool.or_eq_true, over_and (n := n), Bool.and_eq_true]
    have hb : (aboveT t i).testBit n = (match t.ship[n]? with | some y => onF y (t.ship.getD i ⟨.empty, 0, 0, 0, [], 0, 0⟩).name | none => false) := by
      unfold aboveT
      rw [aboveA_gen, bit_genA]
      simp
      cases t.ship[n]? <;> rfl
    rw [← hb]
    constructor
    · rintro (⟨k, h1, h2⟩ | ⟨h1, h2⟩)
      · exact ⟨k, by omega, h2⟩
      · exact ⟨n, by omega, h1, h2⟩
    · rintro ⟨k, h1, h2⟩
      by_cases h : k = n
      · subst h; exact .inr h2
      · exact .inl ⟨k, by omega, h2⟩
theorem over_eq {t : TaskM} (hf : t.Fit) (s i : Nat) : overA t s i t.ship.length = decide (s &&& aboveT t i ≠ 0) := by
  rw [Bool.eq_iff_iff, over_and]
  simp only [decide_eq_true_eq, ne_eq]
  constructor
  · rintro ⟨k, _, h1, h2⟩ h
    have : (s &&& aboveT t i).testBit k = true := by rw [Nat.testBit_and, h1, h2]; rfl
    rw [h] at this
    simp at this
  · intro h
    apply Classical.byContradiction
    intro hn
    apply h
    apply Nat.eq_of_testBit_eq
    intro k
    rw [Nat.testBit_and, Nat.zero_testBit]
    cases h1 : s.testBit k
    · rfl
    · cases h2 : (aboveT t i).testBit k
      · rfl
      · exfalso
        apply hn
        refine ⟨k, ?_, h1, h2⟩
        rcases Nat.lt_or_ge k t.ship.length with g | g
        · exact g
        · have := aboveA_lt (nm := (t.ship.getD i ⟨.empty, 0, 0, 0, [], 0, 0⟩).name) (l := t.ship) (k := 0) (a := 0) (n := t.ship.length) (by omega) (Nat.pow_pos (by omega))
          have := bit_out this g
          unfold aboveT at h2
          rw [this] at h2; cases h2
theorem gas_eq {t : TaskM} {i : Nat} {l : List Int} (h : t.tanks[i]? = some l) : (gasT t).testBit i = l.any (fun x => !(freeT t).contains x) := by
  unfold gasT
  rw [gasA_gen, bit_genA]
  rw [Nat.sub_zero, h]
  simp
end Go.AM
namespace Go.AM
open Go.Proofs
set_option maxRecDepth 100000
set_option maxHeartbeats 1000000
theorem r06_in_spec (n m : Int) (σ : AHeap) : Spec Tryz.prog F_r06_in [ii' n, ii' m] σ fun r σ' => r = .ret (.bool (decide (0 ≤ n) && decide (n < m))) ∧ σ' = σ := by
  refine Spec.pureFn (spec_r06_in (by simp) (awpC_sound _ ?_)) rfl rfl σ
  simp [C_r06_in]
theorem r06_Check_spec (t : TaskM) (hok : t.Ok) (σ : AHeap) : Spec Tryz.prog F_r06_Check [t.v] σ fun r σ' => r = .ret (tripV (checkT t)) ∧ σ' = σ := by
  refine Spec.pureFn (spec_r06_Check (by simp) (awpC_sound _ ?_)) (by simp [pures, t.pure]) rfl σ
  have hq1 := fun σ => r01_Check_spec t.ship hok.ship σ
  rw [← ship_eq] at hq1
  have hq2 := fun σ => r05_Check_spec t.hull hok.hull σ
  have hq3 := fun σ => r05_Why_spec t.hull hok.hull t.lo t.hi σ
  have hq4 := fun σ => r04_After_spec t.net t.blanks t.steps hok.tk hok.pp hok.bl hok.st σ
  have h22 : (checkR t.hull).2.2 = eF t.hull := (eF_eq _).symm
  rw [afterV_eq] at hq4
  obtain ⟨c, hc⟩ : ∃ c, checkT t = c := ⟨_, rfl⟩
  have hc' := hc
  unfold checkT at hc'
  rw [hc]
  simp [C_r06_Check, TaskM.v, TaskM.cells]
  refine CallK.pure B_r01_Check (hq1 _) ?_
  refine (Classical.em ((shipP t.ship).2.2 = 0)).elim (fun h1 => ?_) (fun h1 => ?_)
  rotate_left
  · rw [if_pos h1] at hc'
    simp [tripV, h1, ← hc']
  rw [if_neg (by simp [h1])] at hc'
  simp [tripV, h1]
  refine CallK.pure B_r05_Check (hq2 _) ?_
  refine (Classical.em (eF t.hull = 0)).elim (fun h2 => ?_) (fun h2 => ?_)
  rotate_left
  · rw [if_pos h2] at hc'
    simp [tripR, h22, h2]
    rw [← hc']; rfl
  rw [if_neg (by simp [h2])] at hc'
  simp [tripR, h22, h2]
  refine ⟨fun h3 => ?_, fun h3 h4 => ?_⟩
  · rw [if_pos (by omega)] at hc'
    rw [← hc']; rfl
  have hlen : t.hull.ps.length = t.ship.length := by omega
  rw [if_neg (by omega)] at hc'
  refine AW.loop (ι := Nat) (fun i fr σ' => fr = { v := [(1, .pval (.agg [.slice 7 (t.ship.map HuM.v), .slice 7 (t.hull.ps.map PartM.v), ii' t.hull.aft, ii' t.hull.fore, ii' t.lo, ii' t.hi, .slice 2 (t.net.tanks.map TankM.v), .slice 3 (t.net.pipes.map PipeM.v), .slice 1 (t.blanks.map ii'), .slice 2 (t.steps.map StepM.v), .slice 1 (t.tanks.map intsS)])), (8, .int .i64 t.ship.length), (9, .int .i64 i)], ds := [] } ∧ i ≤ t.ship.length ∧ namesE t.ship t.hull.ps 0 = namesE (t.ship.drop i) (t.hull.ps.drop i) i) (fun i => t.ship.length - i) 0 ⟨by simp, by omega, rfl⟩ ?_
  rintro i fr σ' ⟨rfl, hi, hnm⟩
  refine (Nat.lt_or_ge i t.ship.length).elim (fun hlt => ?_) (fun hge => ?_)
  · have hlt2 : i < t.hull.ps.length := by omega
    have hd : t.ship.drop i = t.ship[i] :: t.ship.drop (i + 1) := List.drop_eq_getElem_cons hlt
    have hd2 : t.hull.ps.drop i = t.hull.ps[i] :: t.hull.ps.drop (i + 1) := List.drop_eq_getElem_cons hlt2
    obtain ⟨x, hx⟩ : ∃ x, t.ship[i] = x := ⟨_, rfl⟩
    obtain ⟨y, hy⟩ : ∃ y, t.hull.ps[i] = y := ⟨_, rfl⟩
    rw [hd, hd2, hx, hy] at hnm
    simp only [namesE] at hnm
    have hw1 : IntKind.i64.wrap ((i : Int) + 1) = ((i + 1 : Nat) : Int) := by rw [wrap_id (by omega) (by omega)]; simp
    refine awpC_sound _ ?_
    simp [hlt, hlt2, hx, hy, HuM.v, HuM.cells, PartM.v, PartM.cells]
    refine ⟨fun h5 => ?_, fun h5 => ⟨i + 1, by omega, hw1, by omega, by rw [hnm, if_pos h5]⟩⟩
    rw [if_neg h5] at hnm
    rw [hnm, if_pos (by simp)] at hc'
    rw [← hc']; rfl
  have hnl : ¬ i < t.ship.length := by omega
  have hz : t.ship.drop i = [] := List.drop_eq_nil_of_le hge
  rw [hz] at hnm
  replace hnm : namesE t.ship t.hull.ps 0 = (0, 0, 0) := hnm
  rw [hnm, if_neg (by simp)] at hc'
  refine awpC_sound _ ?_
  simp [hnl]
  refine CallK.pure B_r05_Why (hq3 _) ?_
  refine (Classical.em ((whyR t.hull t.lo t.hi).2.2 = 0)).elim (fun h5 => ?_) (fun h5 => ?_)
  rotate_left
  · rw [if_pos h5] at hc'
    simp [tripV, h5, ← hc']
  rw [if_neg (by simp [h5])] at hc'
  simp [tripV, h5]
  refine CallK.pure B_r04_After (hq4 _) ?_
  refine (Classical.em ((afterM t.net t.blanks t.steps).1 = 0)).elim (fun h6 => ?_) (fun h6 => ?_)
  rotate_left
  · rw [if_pos h6] at hc'
    simp [h6]
    rw [← hc']; rfl
  rw [if_neg (by simp [h6])] at hc'
  simp [h6]
  refine ⟨fun h7 => ?_, fun h7 => ?_⟩
  · rw [if_pos (by omega)] at hc'
    rw [← hc']; rfl
  have hlen2 : t.tanks.length = t.ship.length := by omega
  rw [if_neg (by omega)] at hc'
  refine AW.loop (ι := Nat) (fun i fr σ' => fr = { v := [(1, .pval (.agg [.slice 7 (t.ship.map HuM.v), .slice 7 (t.hull.ps.map PartM.v), ii' t.hull.aft, ii' t.hull.fore, ii' t.lo, ii' t.hi, .slice 2 (t.net.tanks.map TankM.v), .slice 3 (t.net.pipes.map PipeM.v), .slice 1 (t.blanks.map ii'), .slice 2 (t.steps.map StepM.v), .slice 1 (t.tanks.map intsS)])), (8, .int .i64 t.ship.length), (10, .int .i64 i)], ds := [] } ∧ i ≤ t.tanks.length ∧ listsE t.net.tanks.length (t.tanks.drop i) i = c) (fun i => t.tanks.length - i) 0 ⟨by simp, by omega, hc'⟩ ?_
  rintro i fr σ' ⟨rfl, hi, hls⟩
  refine (Nat.lt_or_ge i t.tanks.length).elim (fun hlt => ?_) (fun hge => ?_)
  rotate_left
  · have hnl : ¬ i < t.ship.length := by omega
    have hz : t.tanks.drop i = [] := List.drop_eq_nil_of_le hge
    rw [hz] at hls
    refine awpC_sound _ ?_
    simp [hnl]
    rw [← hls]; rfl
  have hlt2 : i < t.ship.length := by omega
  have hd : t.tanks.drop i = t.tanks[i] :: t.tanks.drop (i + 1) := List.drop_eq_getElem_cons hlt
  obtain ⟨l, hl⟩ : ∃ l, t.tanks[i] = l := ⟨_, rfl⟩
  have hll := hok.tls l (hl ▸ List.getElem_mem _)
  rw [hd, hl] at hls
  simp only [listsE] at hls
  have hw1 : IntKind.i64.wrap ((i : Int) + 1) = ((i + 1 : Nat) : Int) := by rw [wrap_id (by omega) (by omega)]; simp
  refine awpC_sound _ ?_
  simp [hlt, hlt2, hl, intsS]
  refine AW.loop (ι := Nat) (fun k fr σ' => fr = { v := [(1, .pval (.agg [.slice 7 (t.ship.map HuM.v), .slice 7 (t.hull.ps.map PartM.v), ii' t.hull.aft, ii' t.hull.fore, ii' t.lo, ii' t.hi, .slice 2 (t.net.tanks.map TankM.v), .slice 3 (t.net.pipes.map PipeM.v), .slice 1 (t.blanks.map ii'), .slice 2 (t.steps.map StepM.v), .slice 1 (t.tanks.map intsS)])), (8, .int .i64 t.ship.length), (10, .int .i64 i), (11, .slice 1 (l.map ii')), (12, .int .i64 k)], ds := [] } ∧ k ≤ l.length ∧ listE t.net.tanks.length l = eachE t.net.tanks.length (fun _ => false) l (l.drop k) k) (fun k => l.length - k) 0 ⟨by simp, by omega, rfl⟩ ?_
  rintro k fr σ' ⟨rfl, hk, hle⟩
  refine (Nat.lt_or_ge k l.length).elim (fun hkl => ?_) (fun hkg => ?_)
  rotate_left
  · have hnl : ¬ k < l.length := by omega
    have hz : l.drop k = [] := List.drop_eq_nil_of_le hkg
    rw [hz] at hle
    replace hle : listE t.net.tanks.length l = 0 := hle
    rw [if_neg (by simp [hle])] at hls
    refine awpC_sound _ ?_
    simp [hnl]
    exact ⟨i + 1, by omega, hw1, by omega, hls⟩
  have hdk : l.drop k = l[k] :: l.drop (k + 1) := List.drop_eq_getElem_cons hkl
  obtain ⟨b, hb⟩ : ∃ b, l[k] = b := ⟨_, rfl⟩
  rw [hdk, hb] at hle
  simp only [eachE] at hle
  refine awpC_sound _ ?_
  simp [hkl, hb]
  refine ⟨_, fun σ' => CallV.func B_r06_in (r06_in_spec b t.net.tanks.length σ'), ?_⟩
  simp
  refine ⟨fun h8 => ?_, fun h8 h9 => ?_⟩
  · rw [if_pos (by simpa [outM] using h8)] at hle
    rw [if_pos (by rw [hle]; simp), hle] at hls
    rw [← hls]; rfl
  rw [if_neg (by simp [outM]; omega)] at hle
  rcases Nat.eq_zero_or_pos k with h0 | h0
  · subst h0
    rw [if_neg (by simp)] at hle
    have hw0 : IntKind.i64.wrap (-1) = -1 := by decide
    simp [hw0, hkl, hb]
    exact ⟨1, by omega, rfl, by omega, by simpa using hle⟩
  obtain ⟨j, rfl⟩ : ∃ j, k = j + 1 := ⟨k - 1, by omega⟩
  have hw : IntKind.i64.wrap (((j + 1 : Nat) : Int) - 1) = j := by rw [show (((j + 1 : Nat) : Int) - 1) = (j : Int) by omega]; exact wrap_id (by omega) (by simp only [maxLen] at hll; omega)
  have hjl : j < l.length := by omega
  obtain ⟨d, hdj⟩ : ∃ d, l[j] = d := ⟨_, rfl⟩
  have hgb : l.getD (j + 1 - 1) 0 = d := by simp [hjl, hdj]
  have hwk : IntKind.i64.wrap ((j : Int) + 1 + 1) = ((j + 2 : Nat) : Int) := by rw [show (j : Int) + 1 + 1 = ((j + 2 : Nat) : Int) by omega]; exact wrap_id (by omega) (by simp only [maxLen] at hll; omega)
  have hw2 : IntKind.i64.wrap (j : Int) = j := wrap_id (by omega) (by simp only [maxLen] at hll; omega)
  have hj0 : (0 : Int) < (j : Int) + 1 := by omega
  rw [hgb] at hle
  rw [hw]
  simp [hjl, hdj]
  refine ⟨fun h10 => ?_, fun h10 => ⟨j + 2, by omega, hwk, by omega, ?_⟩⟩
  · rw [if_pos ⟨by omega, h10⟩] at hle
    rw [if_pos (by rw [hle]; simp), hle] at hls
    rw [← hls]; rfl
  · rw [hle, if_neg (by omega)]; simp
end Go.AM
namespace Go.AM
open Go.Proofs
set_option maxRecDepth 100000
set_option maxHeartbeats 1000000
theorem r04_AfterF_spec (t : TaskM) (hok : t.Ok) (hfit : t.Fit) (σ : AHeap) : Spec Tryz.prog F_r04_After [.agg [.slice 2 (t.net.tanks.map TankM.v), .slice 3 (t.net.pipes.map PipeM.v)], .slice 1 (t.blanks.map ii'), .slice 2 (t.steps.map StepM.v)] σ fun r σ' => r = .ret (.tup [.agg [.slice 1 ((freeT t).map ii'), .slice 1 ((blowL t).map ii')], ii' 0]) ∧ σ' = σ := by
  have := r04_After_spec t.net t.blanks t.steps hok.tk hok.pp hok.bl hok.st σ
  rw [afterV_eq, hfit.after] at this
  unfold afterS at this
  rw [if_pos hfit.after] at this
  exact this
theorem ii_eq (a : Int) : (a == 0) = decide (a = 0) := by
  by_cases h : a = 0 <;> simp [h]
theorem r06_Made_spec (t : TaskM) (hok : t.Ok) (hf : t.Fit) (σ : AHeap) : Spec Tryz.prog F_r06_Made [t.v] σ fun r σ' => r = .ret (tableV t) ∧ σ' = σ := by
  refine Spec.pureFn (spec_r06_Made (by simp) (awpC_sound _ ?_)) (by simp [pures, t.pure]) (tableV_pure t) σ
  have h7 := hf.ship7
  have hhl := hf.hull
  have htl := hf.tanks
  obtain ⟨m, hm⟩ : ∃ m, t.ship.length = m := ⟨_, rfl⟩
  have hpm : 2 ^ m ≤ 128 := by
    have : 2 ^ m ≤ 2 ^ 7 := Nat.pow_le_pow_right (by omega) (by omega)
    omega
  have hp1 : 1 ≤ 2 ^ m := Nat.one_le_two_pow
  have hm7 : m ≤ 7 := by omega
  simp [C_r06_Made, TaskM.v, TaskM.cells]
  refine AW.loop (ι := Nat) (fun s fr σ => ∃ k, fr = { v := [(1, .pval t.v), (2, .ptr 0 0), (3, nn' m), (4, .oslice 1 (standL t s) 1 k), (5, nn' s)], ds := [] } ∧
    σ = [.box [ii' 0, .slice 1 []], .spare 1 k] ∧ 1 ≤ s ∧ s ≤ 2 ^ m) (fun s => 2 ^ m - s) 1 ⟨0, by simp [TaskM.v, TaskM.cells, hm, standL, fallsS], rfl, by omega, hp1⟩ ?_
  rintro s fr σ ⟨k, rfl, rfl, hs1, hs⟩
  have hq1 := fun s (hs : s < 128) σ => r06_Left_spec t (by omega) s hs σ
  have hq2 := fun s σ => r05_Why_spec (leftH t s) (Nat.le_trans subP_len hok.hull) t.lo t.hi σ
  refine (Nat.lt_or_ge s (2 ^ m)).elim (fun hlt => ?_) (fun hge => ?_)
  · have hw1 : IntKind.i64.wrap ((s : Int) + 1) = ((s + 1 : Nat) : Int) := by rw [wrap_id (by omega) (by omega)]; simp
    have hltI : (s : Int) < 2 ^ m := by
      have : ((s : Nat) : Int) < ((2 ^ m : Nat) : Int) := by omega
      simpa using this
    have hst := standL_succ t s
    have hfs : (!fallsS t s) = decide (leftW t s = 0) := by
      have : ¬ s = 0 := by omega
      simp [fallsS, this]
    rw [hfs] at hst
    have hwl : (whyR (leftH t s) t.lo t.hi).1 = leftW t s := rfl
    refine awpC_sound _ ?_
    simp [TaskM.v, TaskM.cells]
    refine CallK.pure B_r06_Power (r06_Power_spec m hm7 _) ?_
    simp [hltI, TaskM.v, TaskM.cells]
    refine ⟨(leftH t s).v, fun σ' _ => CallV.func (first := []) (args := [t.v, nn' s]) (caps := []) B_r06_Left (hq1 s (by omega) σ'), ?_⟩
    simp [HullM.v, HullM.cells]
    refine ⟨tripV (whyR (leftH t s) t.lo t.hi), fun σ' _ => CallV.func (first := []) (args := [(leftH t s).v, tideV t.lo t.hi]) (caps := []) B_r05_Why (hq2 s σ'), ?_⟩
    simp [tripV, hwl, hw1]
    exact ⟨by intro v hv; simp at hv; subst hv; exact ⟨⟨rfl, rfl⟩, rfl⟩, by omega, s + 1, by omega, k + 1, ⟨⟨by rw [hst, ← ii_eq], rfl⟩, by simp⟩, rfl, by omega, by omega⟩
  · have hnlI : ¬ (s : Int) < 2 ^ m := by
      have : ¬ ((s : Nat) : Int) < ((2 ^ m : Nat) : Int) := by omega
      simpa using this
    refine awpC_sound _ ?_
    simp [TaskM.v, TaskM.cells]
    refine CallK.pure B_r06_Power (r06_Power_spec m hm7 _) ?_
    simp [hnlI, TaskM.v, TaskM.cells]
    refine CallK.pure B_r04_After (r04_AfterF_spec t hok hf _) ?_
    simp
    have hs2 : s = 2 ^ m := by omega
    subst hs2
    refine AW.loop (ι := Nat) (fun s fr σ => ∃ q tl, fr = { v := [(1, .pval t.v), (2, .ptr 0 0), (3, nn' m), (4, .oslice 1 (standL t (2 ^ m)) 1 k), (9, .pval (.agg [.slice 1 ((freeT t).map ii'), .slice 1 ((blowL t).map ii')])), (11, .ptr 4 0), (12, nn' s)], ds := [] } ∧
      σ = .box [ii' 0, .slice 1 []] :: .spare 1 k :: .dead :: .spare 1 q :: .box [nn' m, .oslice 1 (rowsV t s) 3 q] :: tl ∧ s ≤ 2 ^ m) (fun s => 2 ^ m - s) 0 ⟨0, [], by simp [TaskM.v, TaskM.cells], by simp [rowsV], by omega⟩ ?_
    rintro s fr σ ⟨q, tl, rfl, rfl, hs⟩
    refine (Nat.lt_or_ge s (2 ^ m)).elim (fun hlt => ?_) (fun hge => ?_)
    rotate_left
    · have hnlI : ¬ (s : Int) < 2 ^ m := by
        have : ¬ ((s : Nat) : Int) < ((2 ^ m : Nat) : Int) := by omega
        simpa using this
      have hs2 : s = 2 ^ m := by omega
      subst hs2
      refine awpC_sound _ ?_
      simp [TaskM.v, TaskM.cells]
      refine CallK.pure B_r06_Power (r06_Power_spec m hm7 _) ?_
      simp [hnlI, TaskM.v, TaskM.cells, tableV, hm]
    have hltI : (s : Int) < 2 ^ m := by
      have : ((s : Nat) : Int) < ((2 ^ m : Nat) : Int) := by omega
      simpa using this
    have hws : IntKind.i64.wrap ((s : Int) + 1) = ((s + 1 : Nat) : Int) := by rw [wrap_id (by omega) (by omega)]; simp
    have hrs := rowsV_succ t s
    refine awpC_sound _ ?_
    simp [TaskM.v, TaskM.cells]
    refine CallK.pure B_r06_Power (r06_Power_spec m hm7 _) ?_
    simp [hltI, TaskM.v, TaskM.cells]
    refine AW.loop (ι := Nat) (fun i fr σ => ∃ p, fr = { v := [(1, .pval t.v), (2, .ptr 0 0), (3, nn' m), (4, .oslice 1 (standL t (2 ^ m)) 1 k), (9, .pval (.agg [.slice 1 ((freeT t).map ii'), .slice 1 ((blowL t).map ii')])), (11, .ptr 4 0), (12, nn' s), (13, .oslice 1 ((List.range i).map fun j => nn' (whyT t s j)) (tl.length + 5) p), (14, nn' i)], ds := [] } ∧
      σ = .box [ii' 0, .slice 1 []] :: .spare 1 k :: .dead :: .spare 1 q :: .box [nn' m, .oslice 1 (rowsV t s) 3 q] :: (tl ++ [.spare 1 p]) ∧ i ≤ m) (fun i => m - i) 0 ⟨0, by simp [TaskM.v, TaskM.cells], by simp, by omega⟩ ?_
    rintro i fr σ ⟨p, rfl, rfl, hi⟩
    refine (Nat.lt_or_ge i m).elim (fun hil => ?_) (fun hig => ?_)
    rotate_left
    · have hnl : ¬ i < m := by omega
      have him : i = m := by omega
      subst him
      refine awpC_sound _ ?_
      simp [hnl, hws, TaskM.v, TaskM.cells]
      exact ⟨by intro v hv; simp at hv; subst hv; exact ⟨⟨rfl, rfl⟩, rfl⟩, by omega, s + 1, by omega, by simp, by rw [hrs, hm]; rfl, by omega⟩
    have hwi : IntKind.i64.wrap ((i : Int) + 1) = ((i + 1 : Nat) : Int) := by rw [wrap_id (by omega) (by omega)]; simp
    have hiS : i < t.ship.length := by omega
    obtain ⟨x, hx⟩ : ∃ x, t.ship[i] = x := ⟨_, rfl⟩
    have hit : i < t.tanks.length := by omega
    obtain ⟨l, hl⟩ : ∃ l, t.tanks[i] = l := ⟨_, rfl⟩
    have hll := hok.tls l (hl ▸ List.getElem_mem _)
    refine awpC_sound _ ?_
    simp [hil, TaskM.v, TaskM.cells]
    refine AW.loop (ι := Nat) (fun kk fr σ => fr = { v := [(1, .pval t.v), (2, .ptr 0 0), (3, nn' m), (4, .oslice 1 (standL t (2 ^ m)) 1 k), (9, .pval (.agg [.slice 1 ((freeT t).map ii'), .slice 1 ((blowL t).map ii')])), (11, .ptr 4 0), (12, nn' s), (13, .oslice 1 ((List.range i).map fun j => nn' (whyT t s j)) (tl.length + 5) p), (14, nn' i), (15, .bool (overA t s i kk)), (16, .bool false), (17, nn' kk)], ds := [] } ∧
      σ = .box [ii' 0, .slice 1 []] :: .spare 1 k :: .dead :: .spare 1 q :: .box [nn' m, .oslice 1 (rowsV t s) 3 q] :: (tl ++ [.spare 1 p]) ∧ kk ≤ m) (fun kk => m - kk) 0 ⟨by simp [TaskM.v, TaskM.cells, overA], by simp, by omega⟩ ?_
    rintro kk fr σ ⟨rfl, rfl, hkk⟩
    refine (Nat.lt_or_ge kk m).elim (fun hkl => ?_) (fun hkg => ?_)
    · have hwk : IntKind.i64.wrap ((kk : Int) + 1) = ((kk + 1 : Nat) : Int) := by rw [wrap_id (by omega) (by omega)]; simp
      have hkS : kk < t.ship.length := by omega
      obtain ⟨y, hy⟩ : ∃ y, t.ship[kk] = y := ⟨_, rfl⟩
      have hyo := hok.ship.2 y (hy ▸ List.getElem_mem _)
      have hov : overA t s i (kk + 1) = (overA t s i kk || (s.testBit kk && onF y x.name)) := by simp [overA, hkS, hy, hiS, hx]
      have hH := fun σ => r06_Has_spec s kk (by omega) (by omega) σ
      have hPl := fun σ => r01_Place_spec y.on x.name hyo σ
      have hpa : decide (0 ≤ placeF y.on x.name 0) = onF y x.name := by
        rw [Bool.eq_iff_iff, decide_eq_true_iff, placeF_any]
        unfold onF
        rw [show (fun a : ByteArray => a.toList == x.name.toList) = fun a => x.name.toList == a.toList from funext fun a => by rw [Bool.eq_iff_iff, beq_iff_eq, beq_iff_eq]; exact eq_comm]
      refine (tf (overA t s i kk)).elim (fun hb => ?_) (fun hb => ?_)
      rotate_left
      · rw [hb, Bool.true_or] at hov
        rw [hb]
        refine awpC_sound _ ?_
        simp [hkl, hkS, hiS, hy, hx, hwk, TaskM.v, TaskM.cells, HuM.v, HuM.cells]
        refine ⟨.bool true, ?_⟩
        simp
        refine ⟨.int .i64 0, ?_⟩
        simp
        exact ⟨kk + 1, by omega, ⟨hov, by simp⟩, by omega⟩
      rw [hb, Bool.false_or] at hov
      rw [hb]
      refine (tf (s.testBit kk)).elim (fun hc => ?_) (fun hc => ?_)
      · rw [hc, Bool.false_and] at hov
        rw [hc] at hH
        refine awpC_sound _ ?_
        simp [hkl, hkS, hiS, hy, hx, hwk, TaskM.v, TaskM.cells, HuM.v, HuM.cells]
        refine ⟨.bool false, fun σ' => CallV.func (first := []) (args := [nn' s, nn' kk]) (caps := []) B_r06_Has (hH σ'), ?_⟩
        simp
        refine ⟨.int .i64 0, ?_⟩
        simp
        exact ⟨kk + 1, by omega, ⟨hov, by simp⟩, by omega⟩
      · rw [hc, Bool.true_and] at hov
        rw [hc] at hH
        refine awpC_sound _ ?_
        simp [hkl, hkS, hiS, hy, hx, hwk, TaskM.v, TaskM.cells, HuM.v, HuM.cells]
        refine ⟨.bool true, fun σ' => CallV.func (first := []) (args := [nn' s, nn' kk]) (caps := []) B_r06_Has (hH σ'), ?_⟩
        simp [hkl, hkS, hiS, hy, hx, hwk, TaskM.v, TaskM.cells, HuM.v, HuM.cells]
        refine ⟨.int .i64 (placeF y.on x.name 0), fun σ' _ => CallV.func (first := []) (args := [.slice 1 (y.on.map .str), .str x.name]) (caps := []) B_r01_Place (hPl σ'), ?_⟩
        simp [hpa]
        exact ⟨kk + 1, by omega, ⟨hov.symm, by simp⟩, by omega⟩
    have hkm : kk = m := by omega
    subst hkm
    have hnk : ¬ kk < kk := by omega
    refine awpC_sound _ ?_
    simp [hnk, TaskM.v, TaskM.cells]
    refine AW.loop (ι := Nat) (fun j fr σ => fr = { v := [(1, .pval t.v), (2, .ptr 0 0), (3, nn' kk), (4, .oslice 1 (standL t (2 ^ kk)) 1 k), (9, .pval (.agg [.slice 1 ((freeT t).map ii'), .slice 1 ((blowL t).map ii')])), (11, .ptr 4 0), (12, nn' s), (13, .oslice 1 ((List.range i).map fun j => nn' (whyT t s j)) (tl.length + 5) p), (14, nn' i), (15, .bool (overA t s i kk)), (16, .bool (anyTo (fun x => !(freeT t).contains x) l j)), (18, nn' j)], ds := [] } ∧
      σ = .box [ii' 0, .slice 1 []] :: .spare 1 k :: .dead :: .spare 1 q :: .box [nn' kk, .oslice 1 (rowsV t s) 3 q] :: (tl ++ [.spare 1 p]) ∧ j ≤ l.length) (fun j => l.length - j) 0 ⟨by simp [TaskM.v, TaskM.cells, anyTo], by simp, by omega⟩ ?_
    rintro j fr σ ⟨rfl, rfl, hj⟩
    refine (Nat.lt_or_ge j l.length).elim (fun hjl => ?_) (fun hjg => ?_)
    · have hwj : IntKind.i64.wrap ((j : Int) + 1) = ((j + 1 : Nat) : Int) := by rw [wrap_id (by omega) (by simp only [maxLen] at hll; omega)]; simp
      have hany := anyTo_succ (fun x => !(freeT t).contains x) l hjl
      obtain ⟨b, hb⟩ : ∃ b, l[j] = b := ⟨_, rfl⟩
      have hfl : (freeT t).length ≤ maxLen := Nat.le_trans (bitsL_len _) (by decide)
      have hHs := fun σ => r04_Has_spec (freeT t) b hfl σ
      rw [hb] at hany
      refine (tf (anyTo (fun x => !(freeT t).contains x) l j)).elim (fun hc => ?_) (fun hc => ?_)
      · rw [hc, Bool.false_or] at hany
        rw [hc]
        refine awpC_sound _ ?_
        simp [hit, hl, hjl, hb, hwj, intsS, TaskM.v, TaskM.cells]
        refine ⟨.bool ((freeT t).contains b), fun σ' _ => CallV.func (first := []) (args := [.slice 1 ((freeT t).map ii'), ii' b]) (caps := []) B_r04_Has (hHs σ'), ?_⟩
        simp
        simp at hany
        exact ⟨j + 1, by omega, ⟨by rw [hany]; simp, by simp⟩, by omega⟩
      · rw [hc, Bool.true_or] at hany
        rw [hc]
        refine awpC_sound _ ?_
        simp [hit, hl, hjl, hb, hwj, intsS, TaskM.v, TaskM.cells]
        refine ⟨.bool true, ?_⟩
        simp
        simp at hany
        exact ⟨j + 1, by omega, ⟨hany, by simp⟩, by omega⟩
    have hjm : j = l.length := by omega
    subst hjm
    have hnj : ¬ l.length < l.length := by omega
    refine awpC_sound _ ?_
    simp [hit, hl, hnj, intsS, TaskM.v, TaskM.cells]
    have hov := over_eq hf s i
    rw [hm] at hov
    have hga : (gasT t).testBit i = anyTo (fun x => !(freeT t).contains x) l l.length := by
      rw [gas_eq (l := l) (by rw [List.getElem?_eq_getElem hit, hl])]
      unfold anyTo
      rw [List.take_length]
    have hH := fun σ => r06_Has_spec s i (by omega) (by omega) σ
    have hrow := rowV_succ t s i
    have hfit1 : ∀ w : Nat, Fits 1 [nn' w] := fun w v hv => by simp at hv; subst hv; exact ⟨⟨rfl, rfl⟩, rfl⟩
    have hwhy : whyT t s i = if s.testBit i then (if overA t s i kk then 2 else if anyTo (fun x => !(freeT t).contains x) l l.length then 3 else if fallsS t (rem1 s i) then 4 else 0) else 1 := by
      unfold whyT
      rw [hov, hga]
      cases s.testBit i <;> simp
    refine (tf (s.testBit i)).elim (fun hb => ?_) (fun hb => ?_)
    · rw [hb, if_neg (by simp)] at hwhy
      rw [hb] at hH
      refine CallK.pure B_r06_Has (hH _) ?_
      simp
      exact ⟨hfit1 1, by omega, i + 1, by omega, p + 1, ⟨⟨by rw [hrow, hwhy]; rfl, rfl⟩, hwi⟩, rfl, by omega⟩
    rw [hb, if_pos rfl] at hwhy
    rw [hb] at hH
    refine CallK.pure B_r06_Has (hH _) ?_
    simp
    refine (tf (overA t s i kk)).elim (fun hc => ?_) (fun hc => ?_)
    rotate_left
    · rw [hc, if_pos rfl] at hwhy
      simp [hc]
      exact ⟨hfit1 2, by omega, i + 1, by omega, p + 1, ⟨⟨by rw [hrow, hwhy]; rfl, rfl⟩, hwi⟩, rfl, by omega⟩
    rw [hc, if_neg (by simp)] at hwhy
    simp [hc]
    refine (tf (anyTo (fun x => !(freeT t).contains x) l l.length)).elim (fun hd => ?_) (fun hd => ?_)
    rotate_left
    · rw [hd, if_pos rfl] at hwhy
      simp at hd
      simp [hd]
      exact ⟨hfit1 3, by omega, i + 1, by omega, p + 1, ⟨⟨by rw [hrow, hwhy]; rfl, rfl⟩, hwi⟩, rfl, by omega⟩
    rw [hd, if_neg (by simp)] at hwhy
    simp at hd
    simp [hd]
    refine CallK.pure B_r06_Power (r06_Power_spec i (by omega) _) ?_
    obtain ⟨hr1, hr2⟩ := rem1_sub s (by omega) i (by omega) hb
    have hrm : IntKind.i64.wrap ((s : Int) - 2 ^ i) = ((rem1 s i : Nat) : Int) := by
      rw [hr1, show (s : Int) - 2 ^ i = ((s - 2 ^ i : Nat) : Int) by
        have e : (2 : Int) ^ i = ((2 ^ i : Nat) : Int) := by simp
        rw [e]; omega]
      exact wrap_i64 (Nat.lt_of_le_of_lt (Nat.sub_le _ _) (by omega))
    have hrl : rem1 s i < 2 ^ kk := Nat.lt_of_le_of_lt (by rw [hr1]; exact Nat.sub_le _ _) hlt
    have hrlI : ((rem1 s i : Nat) : Int) < 2 ^ kk := by
      have e : (2 : Int) ^ kk = ((2 ^ kk : Nat) : Int) := by simp
      rw [e]; omega
    refine (tf (fallsS t (rem1 s i))).elim (fun hg => ?_) (fun hg => ?_)
    · rw [hg, if_neg (by simp)] at hwhy
      simp [hrm, hrl, hrlI, hg]
      exact ⟨hfit1 0, by omega, i + 1, by omega, p + 1, ⟨⟨by rw [hrow, hwhy]; rfl, rfl⟩, hwi⟩, rfl, by omega⟩
    · rw [hg, if_pos rfl] at hwhy
      simp [hrm, hrl, hrlI, hg]
      exact ⟨hfit1 4, by omega, i + 1, by omega, p + 1, ⟨⟨by rw [hrow, hwhy]; rfl, rfl⟩, hwi⟩, rfl, by omega⟩
end Go.AM
namespace Go.AM
open Go.Proofs
set_option maxRecDepth 100000
set_option maxHeartbeats 1000000
def inO (m : Nat) (x : Int) : Bool := decide (0 ≤ x) && decide (x < m)
def orderE (t : TaskM) (l : List Int) : Int := if (checkT t).2.2 ≠ 0 then (checkT t).2.2 else if l.all (inO t.ship.length) then 0 else 4
theorem r06_Order_spec (t : TaskM) (hok : t.Ok) (l : List Int) (hl : l.length ≤ maxLen) (σ : AHeap) : Spec Tryz.prog F_r06_Order [t.v, .slice 1 (l.map ii')] σ fun r σ' => r = .ret (ii' (orderE t l)) ∧ σ' = σ := by
  refine Spec.pureFn (spec_r06_Order (by simp) (awpC_sound _ ?_)) (by simp [pures, t.pure, AVal.pure, pures_map (f := ii') (fun _ => rfl)]) rfl σ
  have hc := fun σ => r06_Check_spec t hok σ
  simp [C_r06_Order, TaskM.v, TaskM.cells]
  refine CallK.pure B_r06_Check (hc _) ?_
  simp [tripV]
  obtain ⟨e0, he0⟩ : ∃ e0, (checkT t).2.2 = e0 := ⟨_, rfl⟩
  rw [he0]
  refine AW.loop (ι := Nat) (fun i fr σ => ∃ e, fr = { v := [(1, .slice 1 (l.map ii')), (2, .pval t.v), (7, ii' e), (8, nn' i)], ds := [] } ∧ i ≤ l.length ∧ (e = 0 → e0 = 0 ∧ (l.take i).all (inO t.ship.length) = true) ∧ (e ≠ 0 → e = orderE t l)) (fun i => l.length - i) 0 ⟨e0, by simp [TaskM.v, TaskM.cells], by omega, fun h => ⟨h, rfl⟩, fun h => by unfold orderE; rw [he0, if_pos h]⟩ ?_
  rintro i fr σ ⟨e, rfl, hi, h0, h1⟩
  refine (Nat.lt_or_ge i l.length).elim (fun hlt => ?_) (fun hge => ?_)
  · refine (Classical.em (e = 0)).elim (fun hz => ?_) (fun hz => ?_)
    · subst hz
      obtain ⟨g1, g2⟩ := h0 rfl
      obtain ⟨x, hx⟩ : ∃ x, l[i] = x := ⟨_, rfl⟩
      have hw1 : IntKind.i64.wrap ((i : Int) + 1) = ((i + 1 : Nat) : Int) := by rw [wrap_id (by omega) (by simp only [maxLen] at hl; omega)]; simp
      have htk : (l.take (i + 1)).all (inO t.ship.length) = inO t.ship.length x := by
        rw [List.take_add_one, List.all_append, g2, List.getElem?_eq_getElem hlt, hx]; simp
      have hin := fun σ => r06_in_spec x t.ship.length σ
      refine awpC_sound _ ?_
      simp [hlt, hx, TaskM.v, TaskM.cells]
      refine ⟨.bool (inO t.ship.length x), fun σ' => CallV.func (first := []) (args := [ii' x, ii' t.ship.length]) (caps := []) B_r06_in (hin σ'), ?_⟩
      refine (tf (inO t.ship.length x)).elim (fun hb => ?_) (fun hb => ?_)
      · simp [hb]
        refine ⟨i + 1, by omega, 4, ⟨rfl, hw1⟩, by omega, fun h => (by cases h), fun _ => ?_⟩
        unfold orderE
        rw [he0, g1, if_neg (by simp), if_neg]
        intro hall
        have := List.all_eq_true.1 hall x (hx ▸ List.getElem_mem _)
        rw [hb] at this; cases this
      · simp [hb]
        exact ⟨i + 1, by omega, 0, ⟨rfl, hw1⟩, by omega, fun _ => ⟨g1, by simpa using htk.trans hb⟩, fun h => absurd rfl h⟩
    · refine awpC_sound _ ?_
      simp [hlt, hz, TaskM.v, TaskM.cells]
      exact h1 hz
  · have hnl : ¬ i < l.length := by omega
    refine awpC_sound _ ?_
    simp [hnl, TaskM.v, TaskM.cells]
    by_cases hz : e = 0
    · subst hz
      obtain ⟨g1, g2⟩ := h0 rfl
      rw [List.take_of_length_le hge] at g2
      unfold orderE
      rw [he0, g1, if_neg (by simp), if_pos g2]
    · exact h1 hz
theorem tableWalk_spec (t : TaskM) (hf : t.Fit) (l : List Int) (hl : l.length ≤ maxLen) (hin : l.all (inO t.ship.length) = true) (σ : AHeap) :
    Spec Tryz.prog F_r06_Table_Walk [tableV t, .slice 1 (l.map ii')] σ fun r σ' => r = .ret (.tup [ii' (walkR t l 0 (allT t)).1, nn' (walkR t l 0 (allT t)).2.1, nn' (walkR t l 0 (allT t)).2.2]) ∧ σ' = σ := by
  refine Spec.pureFn (spec_r06_Table_Walk (by simp) (awpC_sound _ ?_)) (by simp [pures, tableV_pure, AVal.pure, pures_map (f := ii') (fun _ => rfl)]) rfl σ
  have h7 := hf.ship7
  obtain ⟨W, hW⟩ : ∃ W, walkR t l 0 (allT t) = W := ⟨_, rfl⟩
  rw [hW]
  have hp1 : 1 ≤ 2 ^ t.ship.length := Nat.one_le_two_pow
  have hp2 : 2 ^ t.ship.length ≤ 128 := Nat.le_trans (Nat.pow_le_pow_right (by omega) h7) (by decide)
  have hall : IntKind.i64.wrap (2 ^ t.ship.length - 1) = ((allT t : Nat) : Int) := by
    have e : (2 : Int) ^ t.ship.length = ((2 ^ t.ship.length : Nat) : Int) := by simp
    have h6 : ((allT t : Nat) : Int) = 2 ^ t.ship.length - 1 := by
      rw [e]; unfold allT; omega
    rw [← h6]
    exact wrap_i64 (by have := allT_lt hf; omega)
  simp [C_r06_Table_Walk, tableV]
  refine CallK.pure B_r06_Power (r06_Power_spec t.ship.length h7 _) ?_
  simp [hall]
  refine AW.loop (ι := Nat) (fun i fr σ => ∃ s, fr = { v := [(1, .slice 1 (l.map ii')), (2, .pval (tableV t)), (7, nn' s), (8, nn' i)], ds := [] } ∧ i ≤ l.length ∧ Sub t s ∧ walkR t (l.drop i) i s = W) (fun i => l.length - i) 0 ⟨allT t, by simp [tableV], by omega, Sub.all t, hW⟩ ?_
  rintro i fr σ ⟨s, rfl, hi, hs, hw⟩
  have h128 := hs.lt hf
  have hsp : s < 2 ^ t.ship.length := Nat.lt_pow_two_of_testBit s fun j hj => by
    cases hb : s.testBit j
    · rfl
    · have := hs j hb; omega
  refine (Nat.lt_or_ge i l.length).elim (fun hlt => ?_) (fun hge => ?_)
  · have hd : l.drop i = l[i] :: l.drop (i + 1) := List.drop_eq_getElem_cons hlt
    obtain ⟨x, hx⟩ : ∃ x, l[i] = x := ⟨_, rfl⟩
    have hxi := List.all_eq_true.1 hin x (hx ▸ List.getElem_mem _)
    simp only [inO, Bool.and_eq_true, decide_eq_true_eq] at hxi
    obtain ⟨n, rfl⟩ : ∃ n : Nat, x = n := ⟨x.toNat, by omega⟩
    have hn : n < t.ship.length := by omega
    have hw1 : IntKind.i64.wrap ((i : Int) + 1) = ((i + 1 : Nat) : Int) := by rw [wrap_id (by omega) (by simp only [maxLen] at hl; omega)]; simp
    rw [hd, hx, walkR] at hw
    simp only [Int.toNat_natCast] at hw
    have hspI : (s : Int) < 2 ^ t.ship.length := by
      have e : (2 : Int) ^ t.ship.length = ((2 ^ t.ship.length : Nat) : Int) := by simp
      rw [e]; omega
    refine (Classical.em (whyT t s n = 0)).elim (fun hz => ?_) (fun hz => ?_)
    · obtain ⟨hr1, hr2⟩ := rem1_sub s h128 n (by omega) (why_bit hz)
      have hrm : IntKind.i64.wrap ((s : Int) - 2 ^ n) = ((rem1 s n : Nat) : Int) := by
        rw [hr1, show (s : Int) - 2 ^ n = ((s - 2 ^ n : Nat) : Int) by
          have e : (2 : Int) ^ n = ((2 ^ n : Nat) : Int) := by simp
          rw [e]; omega]
        exact wrap_i64 (Nat.lt_of_le_of_lt (Nat.sub_le _ _) (by omega))
      rw [if_neg (by simpa using hz)] at hw
      refine awpC_sound _ ?_
      simp [hlt, hx, hn, hsp, hspI, hz, hw1, tableV, rowV]
      refine CallK.pure B_r06_Power (r06_Power_spec n (by omega) _) ?_
      simp [hrm, hw1, tableV]
      exact ⟨i + 1, by omega, _, ⟨rfl, by simp⟩, by omega, hs.rem, hw⟩
    · rw [if_pos hz] at hw
      refine awpC_sound _ ?_
      simp [hlt, hx, hn, hsp, hspI, hz, hw1, tableV, rowV]
      rw [← hw]; exact ⟨rfl, rfl, rfl⟩
  · have hnl : ¬ i < l.length := by omega
    rw [List.drop_eq_nil_of_le hge] at hw
    refine awpC_sound _ ?_
    simp [hnl, tableV]
    rw [← hw]; exact ⟨rfl, rfl, rfl⟩
end Go.AM
