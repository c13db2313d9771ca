/- The check of a ship without changes: of the program; both say the same. The check of a ship without changes: the program says what the document does. The check of a net of tanks: of the program. .. -/
import Derived.Test.YtmjfcbpgnmajpaaGreatDoorP15
import Derived.Test.YtmjfcbpgnmajpaaGreatDoorP14
namespace Go.AM
open Go.Proofs
set_option maxRecDepth 100000
set_option maxHeartbeats 1000000
def shipQ (all : List HuM) : List HuM → Nat → Int × Int × Int
  | [], _ => (0, 0, 0)
  | x :: r, i => if checkP all x i ≠ 0 then (1, i, checkP all x i) else shipQ all r (i + 1)
def shipP (ps : List HuM) : Int × Int × Int := if 12 < ps.length then (1, 0, 3) else shipQ ps ps 0
theorem CallK.tl {P : Program} {f : FuncId} (hb : hasBody P f = true) {args : List AVal} {σ : AHeap} {v : AVal} {K Kp : AVal → AHeap → Prop} (hs : Spec P f args σ fun r σ' => r = .ret v ∧ ∃ tl, σ' = σ ++ tl) (hq : ∀ tl, K v (σ ++ tl)) :
    @CallK P (.func (.func f) [] []) args σ ⟨K⟩ ⟨Kp⟩ :=
  (CallV.func (first := []) (caps := []) hb (by rw [List.nil_append, List.append_nil]; exact hs)).mono (by rintro r σ' ⟨rfl, tl, rfl⟩; exact hq tl)
theorem CallK.tlE {P : Program} {f : FuncId} (hb : hasBody P f = true) {args : List AVal} {σ : AHeap} {α : Type} {v : α → AVal} {K Kp : AVal → AHeap → Prop} (hs : Spec P f args σ fun r σ' => ∃ w, r = .ret (v w) ∧ ∃ tl, σ' = σ ++ tl) (hq : ∀ w tl, K (v w) (σ ++ tl)) :
    @CallK P (.func (.func f) [] []) args σ ⟨K⟩ ⟨Kp⟩ :=
  (CallV.func (first := []) (caps := []) hb (by rw [List.nil_append, List.append_nil]; exact hs)).mono (by rintro r σ' ⟨w, rfl, tl, rfl⟩; exact hq w tl)
theorem hull_verbs_spec (σ : AHeap) : Spec Tryz.prog F_hull_verbs [] σ fun r σ' => ∃ b : Nat, r = .ret (.map b) ∧ ∃ tl, σ' = σ ++ tl := by
  refine spec_hull_verbs (by simp) (awpC_sound _ ?_)
  simp [C_hull_verbs]
theorem hull_build_spec (ps : List HuM) (hok : okHu ps) (σ : AHeap) :
    Spec Tryz.prog F_hull_build [.agg [.slice 7 (ps.map HuM.v), .slice 10 []], .int .i64 0] σ fun r σ' => ∃ s, r = .ret (.tup [s, ii' (shipP ps).1, ii' (shipP ps).2.1, ii' (shipP ps).2.2]) ∧ ∃ tl, σ' = σ ++ tl := by
  obtain ⟨hl, hon⟩ := hok
  refine spec_hull_build (by simp) (awpC_sound _ ?_)
  simp [C_hull_build]
  refine ⟨fun h => by rw [shipP, if_pos (by omega)]; simp, fun h => ?_⟩
  have hc : shipP ps = shipQ ps ps 0 := by rw [shipP, if_neg (by omega)]
  refine AW.loop (ι := Nat) (fun i fr σ' => ∃ tl, fr = { v := [(1, .int .i64 0), (2, .pval (.agg [.slice 7 (ps.map HuM.v), .slice 10 []])), (4, .ptr σ.length 0), (8, .ptr (σ.length + 1) 0), (28, .slice 7 (ps.map HuM.v)), (29, .int .i64 ps.length), (30, .int .i64 i)], ds := [] } ∧ σ' = σ ++ .box [.slice 7 []] :: .box [.slice 7 (ps.map HuM.v)] :: tl ∧ i ≤ ps.length ∧ shipP ps = shipQ ps (ps.drop i) i) (fun i => ps.length - i) 0 ⟨[], by simp, rfl, by simp, by simp [hc]⟩ ?_
  rintro i fr σ' ⟨tl, rfl, rfl, hi, hpi⟩
  refine awpC_sound _ ?_
  simp
  refine ⟨fun hlt => ?_, fun hge => ?_⟩
  · have hd : ps.drop i = ps[i] :: ps.drop (i + 1) := List.drop_eq_getElem_cons hlt
    rw [hd] at hpi
    simp only [shipQ] at hpi
    obtain ⟨x, hx⟩ : ∃ x, ps[i] = x := ⟨_, rfl⟩
    have hxo := hon x (hx ▸ List.getElem_mem _)
    rw [hx] at hpi
    simp [hlt, hx, HuM.v, HuM.cells]
    have hq := hull_ship_check_spec ps x i hl hi hxo (σ.length + 1) (σ ++ .box [.slice 7 []] :: .box [.slice 7 (ps.map HuM.v)] :: (tl ++ [.dead])) (by simp)
    refine CallK.tl B_hull_ship_check hq fun t2 => ?_
    refine (Classical.em (checkP ps x i = 0)).elim (fun h3 => ?_) (fun h3 => ?_)
    · simp [h3]
      refine ⟨i + 1, by omega, wrap_id (by omega) (by simp only [maxLen] at hl; omega), by omega, ?_⟩
      rw [hpi, if_neg (by simp [h3])]
    · simp [h3]
      rw [hpi, if_pos h3]
      simp
  have hz : ps.drop i = [] := List.drop_eq_nil_of_le hge
  rw [hz] at hpi
  refine CallK.tlE B_hull_verbs (hull_verbs_spec _) fun w t2 => ?_
  simp
  refine AW.loop (ι := Nat) (fun _ fr σ' => fr = { v := [(1, .int .i64 0), (4, .ptr σ.length 0), (8, .ptr (σ.length + 1) 0), (11, .int .i64 0), (12, .map w), (52, .slice 10 []), (53, .int .i64 0), (54, .int .i64 0)], ds := [] } ∧ σ' = σ ++ .box [.slice 7 (ps.map HuM.v)] :: .box [.slice 7 (ps.map HuM.v)] :: (tl ++ t2)) (fun _ => 0) 0 (by simp) ?_
  rintro _ fr σ' ⟨rfl, rfl⟩
  refine awpC_sound _ ?_
  simp
  rw [hpi]
  simp [shipQ]
theorem hull_Check_spec (ps : List HuM) (hok : okHu ps) (σ : AHeap) :
    Spec Tryz.prog F_hull_Check [.agg [.slice 7 (ps.map HuM.v), .slice 10 []]] σ fun r σ' => r = .ret (tripV (shipP ps)) ∧ σ' = σ := by
  refine Spec.pureFn (spec_hull_Check (by simp) (awpC_sound _ ?_)) (by simp [AVal.pure, pures, pures_map (f := HuM.v) (fun p => p.pure) ps]) (by simp [tripV, AVal.pure, pures]) σ
  simp [C_hull_Check]
  refine CallK.tlE B_hull_build (hull_build_spec ps hok _) fun s tl => ?_
  simp [tripV]
end Go.AM
namespace Go.AM
open Go.Proofs
theorem idxF_take {α : Type} (p : α → Bool) : ∀ (l : List α) (k i : Nat), 0 ≤ idxF p (l.take k) i ↔ (0 ≤ idxF p l i ∧ idxF p l i < i + k)
  | [], k, i => by simp [idxF]
  | a :: r, 0, i => by
    simp only [List.take_zero, idxF]
    constructor
    · intro h; omega
    · rintro ⟨h1, h2⟩
      exfalso
      by_cases hp : p a = true
      · rw [if_pos hp] at h2; omega
      · rw [if_neg hp] at h1 h2
        obtain ⟨j, h3, _⟩ := idxF_lt p r (i + 1) h1
        rw [h3] at h2; push_cast at h2; omega
  | a :: r, k + 1, i => by
    simp only [List.take_succ_cons, idxF]
    by_cases hp : p a = true
    · rw [if_pos hp, if_pos hp]; constructor
      · intro h; exact ⟨h, by push_cast; omega⟩
      · intro h; exact h.1
    · rw [if_neg hp, if_neg hp, idxF_take p r k (i + 1)]
      push_cast
      constructor <;> rintro ⟨h1, h2⟩ <;> exact ⟨h1, by omega⟩
theorem findF_take (ps : List HuM) (n : ByteArray) (k : Nat) : 0 ≤ findF (ps.take k) n ↔ (0 ≤ findF ps n ∧ findF ps n < k) := by
  simpa [findF] using idxF_take (fun y => y.name.toList == n.toList) ps k 0
theorem rep_eq (on : List ByteArray) : ∀ (l : List ByteArray) (i : Nat), repC on l i = repG on l i
  | [], _ => rfl
  | n :: r, i => by
    simp only [repC, repG, rep_eq on r (i + 1)]
    congr 1
    rw [Bool.eq_iff_iff, decide_eq_true_iff, placeF_any]
    simp only [List.any_eq_true, beq_iff_eq]
    constructor <;> rintro ⟨y, h1, h2⟩ <;> exact ⟨y, h1, h2.symm⟩
theorem out_ins (lo hi n : Int) : outF lo hi n = !insF n lo hi := by
  simp only [outF, insF]
  rw [Bool.eq_iff_iff]
  simp <;> omega
theorem range_eq (x : HuM) : (beyondF 1 5 [x.kind] || beyondF 0 40 [x.first, x.last] || beyondF 1 1000000 [x.lo, x.hi]) = rangeHu x := by
  simp only [beyondF, List.any_cons, List.any_nil, out_ins, rangeHu, spanHu, spanErr, Bool.or_false]
  cases insF x.kind 1 5 <;> cases insF x.first 0 40 <;> cases insF x.last 0 40 <;> cases insF x.lo 1 1000000 <;> cases insF x.hi 1 1000000 <;> simp
  split <;> simp
theorem span_eq (x : HuM) (h : rangeHu x = false) : spanHu x ≠ 0 ↔ x.hi < x.lo := by
  simp only [rangeHu, Bool.or_eq_false_iff] at h
  have h4 := h.2
  simp only [spanHu, spanErr] at h4 ⊢
  split at h4
  · simp at h4
  · rename_i h5
    rw [if_neg h5]
    split
    · simp; omega
    · simp; omega
theorem meet_eq {a b : HuM} (ha : a.first ≤ a.last) (hb : b.first ≤ b.last) : meetF a b = meetR a b := by
  simp only [meetF, meetR]
  rw [Bool.eq_iff_iff]
  simp
  omega
theorem checkP_le {ps : List HuM} {x : HuM} {k : Nat} (h : checkP ps x k = 0) : x.first ≤ x.last := by
  unfold checkP at h
  split at h
  · cases h
  split at h
  · cases h
  split at h
  · cases h
  split at h
  · cases h
  · omega
theorem checkHu_eq (ps : List HuM) (x : HuM) (i : Nat) (hv : ∀ y ∈ ps.take i, y.first ≤ y.last) : checkP ps x i = partHF meetR x (ps.take i) (ps.take i) := by
  unfold checkP partHF
  rw [range_eq, rep_eq]
  by_cases h1 : nameF x.name = false
  · rw [if_pos h1, if_pos h1]
  rw [if_neg h1, if_neg h1]
  by_cases h2 : 0 ≤ findF (ps.take i) x.name
  · rw [if_pos h2, if_pos ((findF_take _ _ _).1 h2)]
  rw [if_neg h2, if_neg (fun h => h2 ((findF_take _ _ _).2 h))]
  by_cases h3 : rangeHu x = true
  · rw [if_pos h3, if_pos h3]
  rw [if_neg h3, if_neg h3]
  have h3' : rangeHu x = false := by simpa using h3
  by_cases h4 : x.last < x.first ∨ x.hi < x.lo
  · rw [if_pos h4, if_pos (h4.imp id (span_eq x h3').2)]
  have h4' : ¬ (x.last < x.first ∨ spanHu x ≠ 0) := fun h => h4 (h.imp id (span_eq x h3').1)
  rw [if_neg h4, if_neg h4']
  by_cases h5 : (x.on.any fun n => decide (findF (ps.take i) n < 0)) = true
  · rw [if_pos h5, if_pos h5]
  rw [if_neg h5, if_neg h5]
  by_cases h6 : repG x.on x.on 0 = true
  · rw [if_pos h6, if_pos h6]
  rw [if_neg h6, if_neg h6]
  have h7 : (x.on.any fun n => !meetF x (atF (ps.take i) n)) = (x.on.any fun n => !meetR x (atF (ps.take i) n)) := by
    have hx : x.first ≤ x.last := by omega
    have hpos : ∀ n ∈ x.on, 0 ≤ findF (ps.take i) n := by
      intro n hm
      rcases Int.lt_or_le (findF (ps.take i) n) 0 with hl | hl
      · exact absurd (List.any_eq_true.2 ⟨n, hm, by simpa using hl⟩) h5
      · exact hl
    rw [Bool.eq_iff_iff, List.any_eq_true, List.any_eq_true]
    have e : ∀ n ∈ x.on, meetF x (atF (ps.take i) n) = meetR x (atF (ps.take i) n) := by
      intro n hm
      obtain ⟨j, hj1, hj2⟩ := findF_lt (hpos n hm)
      refine meet_eq hx (hv _ ?_)
      have : atF (ps.take i) n = (ps.take i)[j] := by simp only [atF, hj1, Int.toNat_natCast, List.getD_eq_getElem?_getD, List.getElem?_eq_getElem hj2, Option.getD_some]
      rw [this]
      exact List.getElem_mem _
    constructor <;> rintro ⟨n, h1, h2⟩ <;> exact ⟨n, h1, by simpa [e n h1] using h2⟩
  rw [h7]
theorem ship_eq (ps : List HuM) : shipP ps = shipC meetR ps := by
  have key : ∀ (n i : Nat), ps.length - i = n → i ≤ ps.length → (∀ y ∈ ps.take i, y.first ≤ y.last) → shipQ ps (ps.drop i) i = shipE meetR ps (ps.drop i) i := by
    intro n
    induction n with
    | zero => intro i hn hi _; rw [List.drop_eq_nil_of_le (by omega)]; rfl
    | succ n ih =>
      intro i hn hi hv
      have hlt : i < ps.length := by omega
      rw [List.drop_eq_getElem_cons hlt]
      simp only [shipQ, shipE]
      rw [checkHu_eq ps ps[i] i hv]
      by_cases h : partHF meetR ps[i] (ps.take i) (ps.take i) ≠ 0
      · rw [if_pos h, if_pos h]
      · rw [if_neg h, if_neg h]
        refine ih (i + 1) (by omega) (by omega) ?_
        intro y hy
        rw [List.take_succ_eq_append_getElem hlt] at hy
        rcases List.mem_append.1 hy with hy | hy
        · exact hv y hy
        · simp at hy; subst hy
          exact checkP_le (by rw [checkHu_eq ps ps[i] i hv]; omega)
  unfold shipP shipC
  split
  · rfl
  · simpa using key ps.length 0 (by omega) (by omega) (by simp)
end Go.AM
namespace Go.AM
open Go.Proofs
set_option maxRecDepth 100000
set_option maxHeartbeats 1000000
structure PipeM where
  from_ : Int
  to : Int
  welded : Bool
def PipeM.cells (p : PipeM) : List AVal := [ii' p.from_, ii' p.to, .bool p.welded]
def PipeM.v (p : PipeM) : AVal := .agg p.cells
structure NetM where
  tanks : List TankM
  pipes : List PipeM
def NetM.cells (c : NetM) : List AVal := [.slice 2 (c.tanks.map TankM.v), .slice 3 (c.pipes.map PipeM.v)]
def NetM.v (c : NetM) : AVal := .agg c.cells
theorem NetM.pure (c : NetM) : c.v.pure = true := by simp [NetM.v, NetM.cells, AVal.pure, pures, pures_map (f := TankM.v) (fun _ => rfl) c.tanks, pures_map (f := PipeM.v) (fun _ => rfl) c.pipes]
def outM (m n : Int) : Bool := decide (n < 0) || decide (m ≤ n)
theorem vent_beyond_1_spec (n m : Int) (σ : AHeap) : Spec Tryz.prog F_vent_beyond_1 [ii' n, .pval (ii' m)] σ fun r σ' => r = .ret (.bool (outM m n)) ∧ σ' = σ := by
  refine Spec.pureFn (spec_vent_beyond_1 (by simp) (awpC_sound _ ?_)) rfl rfl σ
  simp [C_vent_beyond_1, outM]
theorem vent_beyond_spec (m : Int) (l : List Int) (hl : l.length ≤ maxLen) (σ : AHeap) :
    Spec Tryz.prog F_vent_beyond [ii' m, .slice 1 (l.map ii')] σ fun r σ' => r = .ret (.bool (l.any (outM m))) ∧ σ' = σ := by
  refine Spec.pureFn (spec_vent_beyond (by simp) (awpC_sound _ ?_)) (by simp [pures_map (f := ii') (fun _ => rfl) l]) rfl σ
  simp [C_vent_beyond]
  refine CallK.pure B_slices_ContainsFunc_int_int (slices_ContainsFunc_int_spec _ _ rfl (outM m) l hl (fun x _ => PureF.fn B_vent_beyond_1 (fun σ => vent_beyond_1_spec x m σ)) _) ?_
  simp
theorem vent_Check_1_spec (y x : TankM) (σ : AHeap) : Spec Tryz.prog F_vent_Check_1 [y.v, .pval x.v] σ fun r σ' => r = .ret (.bool (y.name.toList == x.name.toList)) ∧ σ' = σ := by
  refine Spec.pureFn (spec_vent_Check_1 (by simp) (awpC_sound _ ?_)) rfl rfl σ
  simp [C_vent_Check_1, TankM.v, TankM.cells]
def tanksE (all : List TankM) : List TankM → Nat → Int × Int × Int
  | [], _ => (0, 0, 0)
  | x :: r, i => if nameF x.name = false then (2, i, 6) else if (all.take i).any (fun y => y.name.toList == x.name.toList) then (2, i, 5) else tanksE all r (i + 1)
def pipesE (m : Int) : List PipeM → Nat → Int × Int × Int
  | [], _ => (0, 0, 0)
  | p :: r, i => if [p.from_, p.to].any (outM m) then (3, i, 4) else if p.from_ = p.to then (3, i, 2) else pipesE m r (i + 1)
def netE (c : NetM) : Int × Int × Int :=
  if c.tanks.length = 0 ∨ 7 < c.tanks.length ∨ 12 < c.pipes.length then (1, 0, 3)
  else if (tanksE c.tanks c.tanks 0).1 ≠ 0 then tanksE c.tanks c.tanks 0 else pipesE c.tanks.length c.pipes 0
theorem vent_Check_spec (c : NetM) (hl : c.tanks.length ≤ maxLen) (hl2 : c.pipes.length ≤ maxLen) (σ : AHeap) :
    Spec Tryz.prog F_vent_Check [c.v] σ fun r σ' => r = .ret (tripV (netE c)) ∧ σ' = σ := by
  refine Spec.pureFn (spec_vent_Check (by simp) (awpC_sound _ ?_)) (by simp [c.pure]) (by simp [tripV, AVal.pure, pures]) σ
  simp [C_vent_Check, NetM.v, NetM.cells]
  refine ⟨fun h => ?_, fun h1 h2 h3 => ?_⟩
  · have : c.tanks.length = 0 ∨ 7 < c.tanks.length ∨ 12 < c.pipes.length := by
      rcases h with (h | h) | h
      · exact .inl (by simp [h])
      · exact .inr (.inl (by omega))
      · exact .inr (.inr (by omega))
    rw [netE, if_pos this]; simp [tripV]
  have hsz : ¬ (c.tanks.length = 0 ∨ 7 < c.tanks.length ∨ 12 < c.pipes.length) := by
    rintro (h | h | h)
    · exact h1 (List.length_eq_zero_iff.1 h)
    · omega
    · omega
  have hc : netE c = if (tanksE c.tanks c.tanks 0).1 ≠ 0 then tanksE c.tanks c.tanks 0 else pipesE c.tanks.length c.pipes 0 := by rw [netE, if_neg hsz]
  refine AW.loop (ι := Nat) (fun i fr _ => fr = { v := [(1, .pval (.agg [.slice 2 (c.tanks.map TankM.v), .slice 3 (c.pipes.map PipeM.v)])), (26, .slice 2 (c.tanks.map TankM.v)), (27, .int .i64 c.tanks.length), (28, .int .i64 i)], ds := [] } ∧ i ≤ c.tanks.length ∧ tanksE c.tanks c.tanks 0 = tanksE c.tanks (c.tanks.drop i) i) (fun i => c.tanks.length - i) 0 (by simp) ?_
  rintro i fr σ' ⟨rfl, hi, hpi⟩
  refine awpC_sound _ ?_
  simp
  refine ⟨fun hlt => ?_, fun hge => ?_⟩
  · have hd : c.tanks.drop i = c.tanks[i] :: c.tanks.drop (i + 1) := List.drop_eq_getElem_cons hlt
    rw [hd] at hpi
    simp only [tanksE] at hpi
    obtain ⟨x, hx⟩ : ∃ x, c.tanks[i] = x := ⟨_, rfl⟩
    rw [hx] at hpi
    simp [hlt, hx, TankM.v, TankM.cells]
    refine (tf (nameF x.name)).elim (fun h4 => ?_) (fun h4 => ?_)
    · refine CallK.pureE B_hull_Name (hull_Name_spec x.name _) (congrArg AVal.bool h4) ?_
      simp [hlt, hx, TankM.v, TankM.cells]
      rw [if_pos h4] at hpi
      rw [hc, hpi, if_pos (by simp)]; simp [tripV]
    refine CallK.pureE B_hull_Name (hull_Name_spec x.name _) (congrArg AVal.bool h4) ?_
    simp [hlt, hx, hi, TankM.v, TankM.cells]
    rw [if_neg (by simp [h4])] at hpi
    have hq := fun σ => slices_ContainsFunc_Vn_spec F_vent_Check_1 [.pval x.v] rfl (fun y => y.name.toList == x.name.toList) (c.tanks.take i) (by simp; omega) (fun y _ => PureF.fn B_vent_Check_1 (fun σ => vent_Check_1_spec y x σ)) σ
    rw [List.map_take] at hq
    refine (tf ((c.tanks.take i).any (fun y => y.name.toList == x.name.toList))).elim (fun h5 => ?_) (fun h5 => ?_)
    · refine CallK.pureE B_slices_ContainsFunc_api_VnTank_api_VnTank (hq _) (congrArg AVal.bool h5) ?_
      simp [hlt, hx, TankM.v, TankM.cells]
      rw [if_neg (by simp [h5])] at hpi
      exact ⟨i + 1, by omega, wrap_id (by omega) (by simp only [maxLen] at hl; omega), by omega, hpi⟩
    · refine CallK.pureE B_slices_ContainsFunc_api_VnTank_api_VnTank (hq _) (congrArg AVal.bool h5) ?_
      simp [hlt, hx, TankM.v, TankM.cells]
      rw [if_pos h5] at hpi
      rw [hc, hpi, if_pos (by simp)]; simp [tripV]
  have hz : c.tanks.drop i = [] := List.drop_eq_nil_of_le hge
  rw [hz] at hpi
  have hc2 : netE c = pipesE c.tanks.length c.pipes 0 := by rw [hc, hpi, if_neg (by simp [tanksE])]
  refine AW.loop (ι := Nat) (fun i fr _ => fr = { v := [(1, .pval (.agg [.slice 2 (c.tanks.map TankM.v), .slice 3 (c.pipes.map PipeM.v)])), (49, .slice 3 (c.pipes.map PipeM.v)), (50, .int .i64 c.pipes.length), (51, .int .i64 i)], ds := [] } ∧ i ≤ c.pipes.length ∧ netE c = pipesE c.tanks.length (c.pipes.drop i) i) (fun i => c.pipes.length - i) 0 (by simp [hc2]) ?_
  rintro i fr σ' ⟨rfl, hi, hpi⟩
  refine awpC_sound _ ?_
  simp
  refine ⟨fun hlt => ?_, fun hge => ?_⟩
  · have hd : c.pipes.drop i = c.pipes[i] :: c.pipes.drop (i + 1) := List.drop_eq_getElem_cons hlt
    rw [hd] at hpi
    simp only [pipesE] at hpi
    obtain ⟨p, hx⟩ : ∃ p, c.pipes[i] = p := ⟨_, rfl⟩
    rw [hx] at hpi
    simp [hlt, hx, PipeM.v, PipeM.cells]
    have hq := fun σ => vent_beyond_spec c.tanks.length [p.from_, p.to] (by simp [maxLen]) σ
    refine (tf ([p.from_, p.to].any (outM c.tanks.length))).elim (fun h5 => ?_) (fun h5 => ?_)
    · refine CallK.pureE B_vent_beyond (hq _) (congrArg AVal.bool h5) ?_
      rw [if_neg (by simp only [h5]; simp)] at hpi
      simp [hlt, hx, PipeM.v, PipeM.cells]
      refine ⟨fun h6 => ?_, fun h6 => ⟨i + 1, by omega, wrap_id (by omega) (by simp only [maxLen] at hl2; omega), by omega, ?_⟩⟩
      · rw [hpi, if_pos h6]; simp [tripV]
      · rw [hpi, if_neg h6]
    · refine CallK.pureE B_vent_beyond (hq _) (congrArg AVal.bool h5) ?_
      rw [if_pos h5] at hpi
      simp [hlt, hx, PipeM.v, PipeM.cells]
      rw [hpi]; simp [tripV]
  have hz : c.pipes.drop i = [] := List.drop_eq_nil_of_le hge
  rw [hz] at hpi
  rw [hpi]; simp [pipesE, tripV]
end Go.AM
namespace Go.AM
open Go.Proofs
set_option maxRecDepth 100000
set_option maxHeartbeats 1000000
theorem r04_in_spec (n m : Int) (σ : AHeap) : Spec Tryz.prog F_r04_in [ii' n, ii' m] σ fun r σ' => r = .ret (.bool (decide (0 ≤ n) && decide (n < m))) ∧ σ' = σ := by
  refine Spec.pureFn (spec_r04_in (by simp) (awpC_sound _ ?_)) rfl rfl σ
  simp [C_r04_in]
theorem fresh_tank (all : List TankM) (i : Nat) (x : TankM) : freshF x.name ((all.take i).map TankM.name) = if nameF x.name = false then 6 else if (all.take i).any (fun y => y.name.toList == x.name.toList) then 5 else 0 := by
  have hp := placeF_any x.name ((all.take i).map TankM.name) 0
  unfold freshF
  cases h : nameF x.name
  · simp
  · simp only [if_true, Bool.true_eq_false, if_false]
    by_cases h2 : 0 ≤ placeF ((all.take i).map TankM.name) x.name 0
    · have h3 : ((all.take i).any fun y => y.name.toList == x.name.toList) = true := by
        have := hp.1 h2
        rw [List.any_map] at this
        exact this
      rw [if_pos h2, if_pos h3]
    · rw [if_neg h2, if_neg]
      intro h3
      exact h2 (hp.2 (by rw [List.any_map]; exact h3))
theorem r04_Check_spec (c : NetM) (_hl : c.tanks.length ≤ maxLen) (hl2 : c.pipes.length ≤ maxLen) (σ : AHeap) :
    Spec Tryz.prog F_r04_Check [c.v] σ fun r σ' => r = .ret (tripV (netE c)) ∧ σ' = σ := by
  refine Spec.pureFn (spec_r04_Check (by simp) (awpC_sound _ ?_)) (by simp [c.pure]) (by simp [tripV, AVal.pure, pures]) σ
  simp [C_r04_Check, NetM.v, NetM.cells]
  refine ⟨fun h => ?_, fun h1 h2 h3 => ?_⟩
  · have : c.tanks.length = 0 ∨ 7 < c.tanks.length ∨ 12 < c.pipes.length := by omega
    rw [netE, if_pos this]; simp [tripV]
  have hsz : ¬ (c.tanks.length = 0 ∨ 7 < c.tanks.length ∨ 12 < c.pipes.length) := by omega
  have hc : netE c = if (tanksE c.tanks c.tanks 0).1 ≠ 0 then tanksE c.tanks c.tanks 0 else pipesE c.tanks.length c.pipes 0 := by rw [netE, if_neg hsz]
  refine AW.loop (ι := Nat) (fun i fr σ => fr = { v := [(1, .pval (.agg [.slice 2 (c.tanks.map TankM.v), .slice 3 (c.pipes.map PipeM.v)])), (5, .oslice 1 ((c.tanks.take i).map (fun p => .str p.name)) 0 i), (6, .int .i64 i)], ds := [] } ∧ σ = [.spare 1 i] ∧ i ≤ c.tanks.length ∧ tanksE c.tanks c.tanks 0 = tanksE c.tanks (c.tanks.drop i) i) (fun i => c.tanks.length - i) 0 (by simp) ?_
  rintro i fr σ ⟨rfl, rfl, hi, hp⟩
  refine (Nat.lt_or_ge i c.tanks.length).elim (fun hlt => ?_) (fun hge => ?_)
  · have hd : c.tanks.drop i = c.tanks[i] :: c.tanks.drop (i + 1) := List.drop_eq_getElem_cons hlt
    obtain ⟨x, hx⟩ : ∃ x, c.tanks[i] = x := ⟨_, rfl⟩
    rw [hd, hx] at hp
    simp only [tanksE] at hp
    refine awpC_sound _ ?_
    simp [hlt, hx, TankM.v, TankM.cells]
    have hfr := fun σ => r01_Fresh_spec ((c.tanks.take i).map TankM.name) x.name (by simp [maxLen]; omega) σ
    have hft := fresh_tank c.tanks i x
    simp only [List.map_take, List.map_map, Function.comp_def] at hfr hft
    refine CallK.pure B_r01_Fresh (hfr _) ?_
    simp [hlt, hx, TankM.v, TankM.cells]
    have hfit : Fits 1 [AVal.str x.name] := by intro v hv; simp at hv; subst hv; exact ⟨⟨rfl, rfl⟩, rfl⟩
    have htk : List.take i (List.map (fun p => AVal.str p.name) c.tanks) ++ [AVal.str x.name] = List.take (i + 1) (List.map (fun p : TankM => AVal.str p.name) c.tanks) := by
      rw [List.take_add_one]; simp [hlt, hx]
    have hmin : min i c.tanks.length = i := by omega
    refine ⟨hfit, by omega, fun h5 => ?_, fun h5 => ?_⟩
    · rw [hft] at h5 ⊢
      by_cases ha : nameF x.name = false
      · rw [if_pos ha] at hp ⊢
        rw [hc, hp, if_pos (by simp)]; simp [tripV]
      rw [if_neg ha] at hp h5 ⊢
      by_cases hb : ((c.tanks.take i).any fun y => y.name.toList == x.name.toList) = true
      · rw [if_pos hb] at hp ⊢
        rw [hc, hp, if_pos (by simp)]; simp [tripV]
      · rw [if_neg hb] at h5; exact absurd rfl h5
    · rw [hft] at h5
      by_cases ha : nameF x.name = false
      · rw [if_pos ha] at h5; exact absurd h5 (by decide)
      rw [if_neg ha] at hp h5
      by_cases hb : ((c.tanks.take i).any fun y => y.name.toList == x.name.toList) = true
      · rw [if_pos hb] at h5; exact absurd h5 (by decide)
      rw [if_neg hb] at hp
      exact ⟨i + 1, by omega, ⟨⟨htk, rfl⟩, wrap_id (by omega) (by omega)⟩, rfl, by omega, hp⟩
  have hz : c.tanks.drop i = [] := List.drop_eq_nil_of_le hge
  rw [hz] at hp
  have hc2 : netE c = pipesE c.tanks.length c.pipes 0 := by rw [hc, hp, if_neg (by simp [tanksE])]
  have hnl : ¬ i < c.tanks.length := by omega
  refine awpC_sound _ ?_
  simp [hnl]
  refine AW.loop (ι := Nat) (fun i fr _ => fr = { v := [(1, .pval (.agg [.slice 2 (c.tanks.map TankM.v), .slice 3 (c.pipes.map PipeM.v)])), (8, .int .i64 i)], ds := [] } ∧ i ≤ c.pipes.length ∧ netE c = pipesE c.tanks.length (c.pipes.drop i) i) (fun i => c.pipes.length - i) 0 (by simp [hc2]) ?_
  rintro i fr σ' ⟨rfl, hi, hpi⟩
  refine (Nat.lt_or_ge i c.pipes.length).elim (fun hlt => ?_) (fun hge => ?_)
  · have hd : c.pipes.drop i = c.pipes[i] :: c.pipes.drop (i + 1) := List.drop_eq_getElem_cons hlt
    obtain ⟨p, hx⟩ : ∃ p, c.pipes[i] = p := ⟨_, rfl⟩
    rw [hd, hx] at hpi
    simp only [pipesE] at hpi
    refine awpC_sound _ ?_
    simp [hlt, hx, PipeM.v, PipeM.cells]
    have ho : ∀ n : Int, outM c.tanks.length n = !(decide (0 ≤ n) && decide (n < c.tanks.length)) := by
      intro n; simp only [outM]; rw [Bool.eq_iff_iff]; simp <;> omega
    refine (tf (decide (0 ≤ p.from_) && decide (p.from_ < (c.tanks.length : Int)))).elim (fun h4 => ?_) (fun h4 => ?_)
    · refine CallK.pureE B_r04_in (r04_in_spec p.from_ c.tanks.length _) (congrArg AVal.bool h4) ?_
      rw [if_pos (by simp only [List.any_cons, ho, h4]; rfl)] at hpi
      simp [hlt, hx, PipeM.v, PipeM.cells]
      rw [hpi]; simp [tripV]
    refine CallK.pureE B_r04_in (r04_in_spec p.from_ c.tanks.length _) (congrArg AVal.bool h4) ?_
    simp [hlt, hx, PipeM.v, PipeM.cells]
    refine (tf (decide (0 ≤ p.to) && decide (p.to < (c.tanks.length : Int)))).elim (fun h5 => ?_) (fun h5 => ?_)
    · refine CallK.pureE B_r04_in (r04_in_spec p.to c.tanks.length _) (congrArg AVal.bool h5) ?_
      rw [if_pos (by simp only [List.any_cons, ho, h4, h5]; rfl)] at hpi
      simp [hlt, hx, PipeM.v, PipeM.cells]
      rw [hpi]; simp [tripV]
    refine CallK.pureE B_r04_in (r04_in_spec p.to c.tanks.length _) (congrArg AVal.bool h5) ?_
    rw [if_neg (by simp only [List.any_cons, List.any_nil, ho, h4, h5]; simp)] at hpi
    simp [hlt, hx, PipeM.v, PipeM.cells]
    refine ⟨fun h6 => ?_, fun h6 => ⟨i + 1, by omega, wrap_id (by omega) (by simp only [maxLen] at hl2; omega), by omega, ?_⟩⟩
    · rw [hpi, if_pos h6]; simp [tripV]
    · rw [hpi, if_neg h6]
  have hz : c.pipes.drop i = [] := List.drop_eq_nil_of_le hge
  rw [hz] at hpi
  have hnl : ¬ i < c.pipes.length := by omega
  refine awpC_sound _ ?_
  simp [hnl]
  rw [hpi]; simp [pipesE, tripV]
end Go.AM
namespace Go.AM
open Go.Proofs
set_option maxRecDepth 100000
set_option maxHeartbeats 1000000
theorem r04_Has_spec (l : List Int) (n : Int) (hl : l.length ≤ maxLen) (σ : AHeap) : Spec Tryz.prog F_r04_Has [.slice 1 (l.map ii'), ii' n] σ fun r σ' => r = .ret (.bool (l.contains n)) ∧ σ' = σ := by
  refine Spec.pureFn (spec_r04_Has (by simp) (awpC_sound _ ?_)) (by simp [pures_map (f := ii') (fun _ => rfl) l]) rfl σ
  simp [C_r04_Has]
  refine AW.loop (ι := Nat) (fun i fr σ => fr = { v := [(0, .slice 1 (l.map ii')), (1, ii' n), (5, .int .i64 i)], ds := [] } ∧ i ≤ l.length ∧ l.contains n = (l.drop i).contains n) (fun i => l.length - i) 0 (by simp) ?_
  rintro i fr σ ⟨rfl, hi, hpi⟩
  refine awpC_sound _ ?_
  simp
  refine ⟨fun hlt => ?_, fun hge => ?_⟩
  · have hd : l.drop i = l[i] :: l.drop (i + 1) := List.drop_eq_getElem_cons hlt
    obtain ⟨x, hx⟩ : ∃ x, l[i] = x := ⟨_, rfl⟩
    rw [hd, hx] at hpi
    simp [hlt, hx]
    refine ⟨fun he => ?_, fun he => ⟨i + 1, by omega, wrap_id (by omega) (by simp only [maxLen] at hl; omega), by omega, ?_⟩⟩
    · subst he; simp at hpi; simpa using hpi
    · rw [List.contains_cons] at hpi
      have : (n == x) = false := by simp; exact fun h => he h.symm
      rw [this, Bool.false_or] at hpi
      simpa using hpi
  · have : l.drop i = [] := List.drop_eq_nil_of_le hge
    rw [this] at hpi
    simpa using hpi
def blanksE (c : NetM) (bs : List Int) : List Int → Nat → Int
  | [], _ => 0
  | b :: r, i => if outM c.pipes.length b then 4 else if 0 < i ∧ b ≤ bs.getD (i - 1) 0 then 2 else if (c.pipes.getD b.toNat ⟨0, 0, false⟩).welded then 9 else blanksE c bs r (i + 1)
def blanksOf (c : NetM) (bs : List Int) : Int := if (netE c).2.2 ≠ 0 then (netE c).2.2 else blanksE c bs bs 0
end Go.AM
namespace Go.AM
open Go.Proofs
set_option maxRecDepth 100000
set_option maxHeartbeats 1000000
theorem r04_BlanksOf_spec (c : NetM) (bs : List Int) (hl : c.tanks.length ≤ maxLen) (hl2 : c.pipes.length ≤ maxLen) (hb : bs.length ≤ maxLen) (σ : AHeap) :
    Spec Tryz.prog F_r04_BlanksOf [c.v, .slice 1 (bs.map ii')] σ fun r σ' => r = .ret (ii' (blanksOf c bs)) ∧ σ' = σ := by
  refine Spec.pureFn (spec_r04_BlanksOf (by simp) (awpC_sound _ ?_)) (by simp [c.pure, pures_map (f := ii') (fun _ => rfl) bs]) rfl σ
  simp [C_r04_BlanksOf, NetM.v, NetM.cells]
  refine CallK.pure B_r04_Check (r04_Check_spec c hl hl2 _) ?_
  simp [tripV]
  refine AW.loop (ι := Nat) (fun i fr _ => ∃ e : Int, fr = { v := [(1, .slice 1 (bs.map ii')), (2, .pval (.agg [.slice 2 (c.tanks.map TankM.v), .slice 3 (c.pipes.map PipeM.v)])), (7, ii' e), (8, .int .i64 i)], ds := [] } ∧ i ≤ bs.length ∧ blanksOf c bs = if e ≠ 0 then e else blanksE c bs (bs.drop i) i) (fun i => bs.length - i) 0 ⟨_, rfl, by simp, by simp [blanksOf]⟩ ?_
  rintro i fr σ ⟨e, rfl, hi, hp⟩
  refine (Classical.em (i < bs.length ∧ e = 0)).elim (fun hc => ?_) (fun hc => ?_)
  · obtain ⟨hlt, rfl⟩ := hc
    have hd : bs.drop i = bs[i] :: bs.drop (i + 1) := List.drop_eq_getElem_cons hlt
    obtain ⟨b, hx⟩ : ∃ b, bs[i] = b := ⟨_, rfl⟩
    rw [hd, hx, if_neg (by simp)] at hp
    simp only [blanksE] at hp
    refine awpC_sound _ ?_
    simp [hlt, hx]
    refine ⟨.bool (decide (0 ≤ b) && decide (b < (c.pipes.length : Int))), fun σ' => CallV.func B_r04_in (r04_in_spec b c.pipes.length σ'), ?_⟩
    simp
    refine ⟨fun h => ⟨i + 1, by omega, 4, ⟨rfl, wrap_id (by omega) (by simp only [maxLen] at hb; omega)⟩, by omega, ?_⟩, fun h1 h2 => ?_⟩
    · rw [hp, if_pos (by simpa [outM] using h)]; simp
    rw [if_neg (by simp [outM]; omega)] at hp
    have hbn : b.toNat < c.pipes.length := by omega
    have hgd : c.pipes.getD b.toNat ⟨0, 0, false⟩ = c.pipes[b.toNat] := by simp [hbn]
    rcases Nat.eq_zero_or_pos i with h0 | h0
    · subst h0
      rw [if_neg (by simp)] at hp
      have hw0 : IntKind.i64.wrap (-1) = -1 := by decide
      simp [hw0, hlt, hx, h1, h2, PipeM.v, PipeM.cells]
      refine ⟨fun h3 => ⟨1, by omega, 9, ⟨rfl, rfl⟩, by omega, ?_⟩, fun h3 => ⟨1, by omega, 0, ⟨rfl, rfl⟩, by omega, ?_⟩⟩
      · rw [hp, hgd, if_pos h3]; simp
      · rw [hp, hgd, if_neg (by simp [h3])]; simp
    obtain ⟨k, rfl⟩ : ∃ k, i = k + 1 := ⟨i - 1, by omega⟩
    have hw : IntKind.i64.wrap (((k + 1 : Nat) : Int) - 1) = k := by rw [show (((k + 1 : Nat) : Int) - 1) = (k : Int) by omega]; exact wrap_id (by omega) (by simp only [maxLen] at hb; omega)
    have hkl : k < bs.length := by omega
    obtain ⟨d, hdk⟩ : ∃ d, bs[k] = d := ⟨_, rfl⟩
    rw [hw]
    simp [hkl, hdk, h1, h2, PipeM.v, PipeM.cells]
    have hgb : bs.getD (k + 1 - 1) 0 = d := by simp [hkl, hdk]
    rw [hgb, hgd] at hp
    have hwk : IntKind.i64.wrap ((k : Int) + 1 + 1) = ((k + 2 : Nat) : Int) := by rw [show (k : Int) + 1 + 1 = ((k + 2 : Nat) : Int) by omega]; exact wrap_id (by omega) (by simp only [maxLen] at hb; omega)
    refine ⟨fun h3 => ⟨k + 2, by omega, 2, ⟨rfl, hwk⟩, by omega, ?_⟩, fun h3 => ⟨fun h4 => ⟨k + 2, by omega, 9, ⟨rfl, hwk⟩, by omega, ?_⟩, fun h4 => ⟨k + 2, by omega, 0, ⟨rfl, hwk⟩, by omega, ?_⟩⟩⟩
    · rw [hp, if_pos ⟨by omega, h3⟩]; simp
    · rw [hp, if_neg (by omega), if_pos h4]; simp
    · rw [hp, if_neg (by omega), if_neg (by simp [h4])]; simp
  refine (Nat.lt_or_ge i bs.length).elim (fun hlt => ?_) (fun hge => ?_)
  · have he : e ≠ 0 := fun h => hc ⟨hlt, h⟩
    rw [if_pos he] at hp
    refine awpC_sound _ ?_
    simp [hlt, he]
    rw [hp]
  · have hz : bs.drop i = [] := List.drop_eq_nil_of_le hge
    have hnl : ¬ i < bs.length := by omega
    rw [hz] at hp
    refine awpC_sound _ ?_
    simp [hnl]
    rw [hp]
    by_cases he : e = 0
    · simp [he, blanksE]
    · simp [he]
end Go.AM
namespace Go.AM
open Go.Proofs
set_option maxRecDepth 100000
def andn (a b : Nat) : Nat := (BitVec.ofNat 64 a &&& ~~~ BitVec.ofNat 64 b).toNat
theorem bit_andn (a b i : Nat) (hi : i < 64) : (andn a b).testBit i = (a.testBit i && !b.testBit i) := by
  unfold andn
  rw [BitVec.testBit_toNat, BitVec.getLsbD_and, BitVec.getLsbD_not, BitVec.getLsbD_ofNat, BitVec.getLsbD_ofNat]
  simp [hi]
theorem andn_le (a b : Nat) : andn a b ≤ a := by
  unfold andn
  rw [BitVec.toNat_and]
  exact Nat.le_trans Nat.and_le_left (by rw [BitVec.toNat_ofNat]; exact Nat.mod_le _ _)
theorem bit_out {n k i : Nat} (h : n < 2 ^ k) (hi : k ≤ i) : n.testBit i = false := Nat.testBit_lt_two_pow (Nat.lt_of_lt_of_le h (Nat.pow_le_pow_right (by omega) hi))
theorem bits_ext {k a b : Nat} (_hk : k ≤ 64) (ha : a < 2 ^ k) (hb : b < 2 ^ k) (h : ∀ i, i < k → a.testBit i = b.testBit i) : a = b := by
  apply Nat.eq_of_testBit_eq
  intro i
  by_cases hi : i < k
  · exact h i hi
  · rw [bit_out ha (by omega), bit_out hb (by omega)]
theorem ofInt_nat (n : Nat) : BitVec.ofInt 64 (n : Int) = BitVec.ofNat 64 n := by simp
theorem toNat_of {n : Nat} (h : n < 2 ^ 63) : (BitVec.ofNat 64 n).toNat = n := by rw [BitVec.toNat_ofNat]; omega
theorem wrap_u64 {n : Nat} (h : n < 2 ^ 64) : IntKind.u64.wrap (n : Int) = n := by rw [IntKind.wrap_u64]; omega
theorem wrap_i64 {n : Nat} (h : n < 2 ^ 63) : IntKind.i64.wrap (n : Int) = n := wrap_id (by omega) (by omega)
/-! The operations on bits, under names that simp leaves alone. -/
def bandI (k : IntKind) (a b : Int) : Int := bitV .and k a b
theorem bandI_eq (k : IntKind) (a b : Int) : bandI k a b = k.wrap (BitVec.ofInt k.bits a &&& BitVec.ofInt k.bits b).toNat := bitV_eq .and k a b
def borI (k : IntKind) (a b : Int) : Int := bitV .or k a b
theorem borI_eq (k : IntKind) (a b : Int) : borI k a b = k.wrap (BitVec.ofInt k.bits a ||| BitVec.ofInt k.bits b).toNat := bitV_eq .or k a b
def bandnI (k : IntKind) (a b : Int) : Int := bitV .andNot k a b
theorem bandnI_eq (k : IntKind) (a b : Int) : bandnI k a b = k.wrap (BitVec.ofInt k.bits a &&& ~~~ (BitVec.ofInt k.bits b)).toNat := bitV_eq .andNot k a b
def bshlI (k : IntKind) (a b : Int) : Int := k.wrap (a * 2 ^ min b.toNat k.bits)
def bshrI (k : IntKind) (a b : Int) : Int := a.fdiv (2 ^ min b.toNat k.bits)
@[simp ↓ high] theorem arith_and (k : IntKind) (a b : Int) : arith .and k a b = .int k (bandI k a b) := rfl
@[simp ↓ high] theorem arith_or (k : IntKind) (a b : Int) : arith .or k a b = .int k (borI k a b) := rfl
@[simp ↓ high] theorem arith_andNot (k : IntKind) (a b : Int) : arith .andNot k a b = .int k (bandnI k a b) := rfl
@[simp ↓ high] theorem arith_shl (k : IntKind) (a b : Int) : arith .shl k a b = .int k (bshlI k a b) := rfl
@[simp ↓ high] theorem arith_shr (k : IntKind) (a b : Int) : arith .shr k a b = .int k (bshrI k a b) := rfl
theorem or_lt63 {a b : Nat} (ha : a < 2 ^ 63) (hb : b < 2 ^ 63) : a ||| b < 2 ^ 63 := Nat.or_lt_two_pow ha hb
theorem and_u64 {a b : Nat} (ha : a < 2 ^ 63) (hb : b < 2 ^ 63) : bandI .u64 (a : Int) (b : Int) = ((a &&& b : Nat) : Int) := by
  rw [bandI_eq, show IntKind.u64.bits = 64 from rfl, ofInt_nat, ofInt_nat, BitVec.toNat_and, toNat_of ha, toNat_of hb]
  exact wrap_u64 (Nat.lt_of_le_of_lt Nat.and_le_left (by omega))
theorem or_u64 {a b : Nat} (ha : a < 2 ^ 63) (hb : b < 2 ^ 63) : borI .u64 (a : Int) (b : Int) = ((a ||| b : Nat) : Int) := by
  rw [borI_eq, show IntKind.u64.bits = 64 from rfl, ofInt_nat, ofInt_nat, BitVec.toNat_or, toNat_of ha, toNat_of hb]
  exact wrap_u64 (by have := or_lt63 ha hb; omega)
theorem andn_u64 {a b : Nat} (ha : a < 2 ^ 63) : bandnI .u64 (a : Int) (b : Int) = (andn a b : Int) := by
  rw [bandnI_eq, show IntKind.u64.bits = 64 from rfl, ofInt_nat, ofInt_nat]
  exact wrap_u64 (Nat.lt_of_le_of_lt (andn_le a b) (by omega))
theorem and_i64 {a b : Nat} (ha : a < 2 ^ 63) (hb : b < 2 ^ 63) : bandI .i64 (a : Int) (b : Int) = ((a &&& b : Nat) : Int) := by
  rw [bandI_eq, show IntKind.i64.bits = 64 from rfl, ofInt_nat, ofInt_nat, BitVec.toNat_and, toNat_of ha, toNat_of hb]
  exact wrap_i64 (Nat.lt_of_le_of_lt Nat.and_le_left ha)
theorem or_i64 {a b : Nat} (ha : a < 2 ^ 63) (hb : b < 2 ^ 63) : borI .i64 (a : Int) (b : Int) = ((a ||| b : Nat) : Int) := by
  rw [borI_eq, show IntKind.i64.bits = 64 from rfl, ofInt_nat, ofInt_nat, BitVec.toNat_or, toNat_of ha, toNat_of hb]
  exact wrap_i64 (or_lt63 ha hb)
theorem andn_i64 {a b : Nat} (ha : a < 2 ^ 63) : bandnI .i64 (a : Int) (b : Int) = (andn a b : Int) := by
  rw [bandnI_eq, show IntKind.i64.bits = 64 from rfl, ofInt_nat, ofInt_nat]
  exact wrap_i64 (Nat.lt_of_le_of_lt (andn_le a b) ha)
theorem shr_val {k : IntKind} (hk : k.bits = 64) {s i : Nat} (hi : i < 64) : bshrI k (s : Int) (i : Int) = ((s / 2 ^ i : Nat) : Int) := by
  rw [bshrI, hk, show min ((i : Int).toNat) 64 = i by simp; omega, Int.fdiv_eq_ediv_of_nonneg _ (by exact_mod_cast Nat.zero_le _)]
  push_cast; rfl
theorem shl_u64 {i : Nat} (hi : i < 63) : bshlI .u64 1 (i : Int) = ((2 ^ i : Nat) : Int) := by
  rw [bshlI, show IntKind.u64.bits = 64 from rfl, show min ((i : Int).toNat) 64 = i by simp; omega, Int.one_mul]
  exact_mod_cast wrap_u64 (Nat.lt_trans (Nat.pow_lt_pow_right (by omega) hi) (by decide))
theorem shl_i64 {i : Nat} (hi : i < 63) : bshlI .i64 1 (i : Int) = ((2 ^ i : Nat) : Int) := by
  rw [bshlI, show IntKind.i64.bits = 64 from rfl, show min ((i : Int).toNat) 64 = i by simp; omega, Int.one_mul]
  exact_mod_cast wrap_i64 (Nat.pow_lt_pow_right (by omega) hi)
theorem bit_one (s i : Nat) : ((((s / 2 ^ i) &&& 1 : Nat) : Int) == 1) = s.testBit i := by
  rw [Nat.and_one_is_mod, Nat.testBit_eq_decide_div_mod_eq]
  by_cases h : s / 2 ^ i % 2 = 1
  · simp [h]
  · have : s / 2 ^ i % 2 = 0 := by omega
    simp [this]
theorem has_u64 {s i : Nat} (hs : s < 2 ^ 63) (hi : i < 64) : (bandI .u64 (bshrI .u64 (s : Int) (i : Int)) 1 == 1) = s.testBit i := by
  rw [shr_val rfl hi, show (1 : Int) = ((1 : Nat) : Int) from rfl, and_u64 (Nat.lt_of_le_of_lt (Nat.div_le_self _ _) hs) (by decide)]
  exact bit_one s i
theorem has_i64 {s i : Nat} (hs : s < 2 ^ 63) (hi : i < 64) : (bandI .i64 (bshrI .i64 (s : Int) (i : Int)) 1 == 1) = s.testBit i := by
  rw [shr_val rfl hi, show (1 : Int) = ((1 : Nat) : Int) from rfl, and_i64 (Nat.lt_of_le_of_lt (Nat.div_le_self _ _) hs) (by decide)]
  exact bit_one s i
end Go.AM
namespace Go.AM
open Go.Proofs
set_option maxRecDepth 100000
structure StepM where
  tank : Int
  off : Bool
def StepM.cells (p : StepM) : List AVal := [ii' p.tank, .bool p.off]
def StepM.v (p : StepM) : AVal := .agg p.cells
def halfM (b f x y : Nat) : Nat := if f.testBit x = false ∧ f.testBit y = true ∧ b.testBit y = false then andn f (2 ^ y) else f
def loseM (b f x y : Nat) : Nat := if f.testBit x = f.testBit y then f else andn f (andn (f &&& (2 ^ x ||| 2 ^ y)) b)
theorem andn_lt {k a b : Nat} (h : a < k) : andn a b < k := Nat.lt_of_le_of_lt (andn_le a b) h
theorem half_lt {k b f x y : Nat} (h : f < k) : halfM b f x y < k := by unfold halfM; split; exact andn_lt h; exact h
theorem lose_lt {k b f x y : Nat} (h : f < k) : loseM b f x y < k := by unfold loseM; split; exact h; exact andn_lt h
theorem lose_le (b f x y : Nat) : loseM b f x y ≤ f := by unfold loseM; split; exact Nat.le_refl _; exact andn_le _ _
theorem bit_half {b f x y i : Nat} (hi : i < 64) : (halfM b f x y).testBit i = (f.testBit i && !(decide (i = y) && !f.testBit x && f.testBit y && !b.testBit y)) := by
  unfold halfM
  split
  · rename_i h
    rw [bit_andn _ _ _ hi, Nat.testBit_two_pow, h.1, h.2.1, h.2.2]
    by_cases e : y = i
    · simp [e]
    · have : i ≠ y := fun h => e h.symm
      simp [e, this]
  · rename_i h
    cases h1 : f.testBit x <;> cases h2 : f.testBit y <;> cases h3 : b.testBit y <;> simp [h1, h2, h3] at h ⊢
theorem bit_lose {b f x y i : Nat} (hi : i < 64) : (loseM b f x y).testBit i = (f.testBit i && !(!(f.testBit x == f.testBit y) && (decide (i = x) || decide (i = y)) && !b.testBit i)) := by
  unfold loseM
  split
  · rename_i h; simp [h]
  · rename_i h
    rw [bit_andn _ _ _ hi, bit_andn _ _ _ hi, Nat.testBit_and, Nat.testBit_or, Nat.testBit_two_pow, Nat.testBit_two_pow]
    have e1 : decide (x = i) = decide (i = x) := by simp [eq_comm]
    have e2 : decide (y = i) = decide (i = y) := by simp [eq_comm]
    rw [e1, e2]
    cases f.testBit i <;> cases h1 : f.testBit x <;> cases h2 : f.testBit y <;> simp [h1, h2] at h ⊢
theorem lose_half {b f x y : Nat} (hf : f < 128) (hx : x < 7) (hy : y < 7) : halfM b (halfM b f x y) y x = loseM b f x y := by
  refine bits_ext (k := 7) (by omega) (half_lt (half_lt hf)) (lose_lt hf) fun i hi => ?_
  rw [bit_half (by omega), bit_half (by omega), bit_half (by omega), bit_half (by omega), bit_lose (by omega)]
  by_cases e1 : i = x
  · subst e1
    by_cases e2 : i = y
    · subst e2; cases f.testBit i <;> cases b.testBit i <;> simp
    · cases f.testBit i <;> cases b.testBit i <;> cases f.testBit y <;> cases b.testBit y <;> simp [e2]
  · by_cases e2 : i = y
    · subst e2
      have e3 : x ≠ i := fun h => e1 h.symm
      cases f.testBit i <;> cases b.testBit i <;> cases f.testBit x <;> cases b.testBit x <;> simp [e1, e3]
    · simp [e1, e2]
def passM (bs : List Int) (b : Nat) : List PipeM → Nat → Nat → Nat
  | [], _, f => f
  | p :: r, i, f => passM bs b r (i + 1) (if bs.contains (i : Int) then f else loseM b f p.from_.toNat p.to.toNat)
theorem pass_le (bs : List Int) (b : Nat) : ∀ (l : List PipeM) (i f : Nat), passM bs b l i f ≤ f
  | [], _, _ => Nat.le_refl _
  | p :: r, i, f => Nat.le_trans (pass_le bs b r (i + 1) _) (by split; exact Nat.le_refl _; exact lose_le _ _ _ _)
def spreadM (ps : List PipeM) (bs : List Int) (b f : Nat) : Nat :=
  if h : passM bs b ps 0 f < f then spreadM ps bs b (passM bs b ps 0 f) else f
termination_by f
decreasing_by exact h
theorem spread_fix {ps : List PipeM} {bs : List Int} {b f : Nat} (h : passM bs b ps 0 f = f) : spreadM ps bs b f = f := by
  rw [spreadM, dif_neg (by omega)]
theorem spread_pass (ps : List PipeM) (bs : List Int) (b f : Nat) : spreadM ps bs b (passM bs b ps 0 f) = spreadM ps bs b f := by
  have h := pass_le bs b ps 0 f
  rcases Nat.lt_or_ge (passM bs b ps 0 f) f with h1 | h1
  · conv => rhs; rw [spreadM, dif_pos h1]
  · rw [show passM bs b ps 0 f = f by omega]
theorem spread_le (ps : List PipeM) (bs : List Int) (b : Nat) : ∀ f, spreadM ps bs b f ≤ f := by
  intro f
  induction f using Nat.strongRecOn with
  | _ f ih =>
    rw [spreadM]
    split
    · rename_i h; exact Nat.le_trans (ih _ h) (by omega)
    · exact Nat.le_refl _
def keptB : List TankM → Nat → Nat
  | [], _ => 0
  | t :: r, i => (if t.kept then 2 ^ i else 0) ||| keptB r (i + 1)
theorem bit_kept : ∀ (l : List TankM) (i k : Nat), (keptB l i).testBit k = (decide (i ≤ k) && (l.getD (k - i) ⟨ByteArray.empty, false⟩).kept)
  | [], i, k => by simp [keptB]
  | t :: r, i, k => by
    rw [keptB, Nat.testBit_or, bit_kept r]
    by_cases h : k = i
    · subst h
      have : ¬ k + 1 ≤ k := by omega
      cases hk : t.kept <;> simp [this, hk]
    · have h1 : (if t.kept then 2 ^ i else 0 : Nat).testBit k = false := by
        have : ¬ i = k := fun e => h e.symm
        cases t.kept <;> simp [this]
      rw [h1, Bool.false_or]
      by_cases h2 : i ≤ k
      · have h3 : i + 1 ≤ k := by omega
        rw [show k - i = (k - (i + 1)) + 1 by omega]
        simp [h2, h3]
      · have h3 : ¬ i + 1 ≤ k := by omega
        simp [h2, h3]
theorem kept_lt : ∀ (l : List TankM) (i n : Nat), i + l.length ≤ n → keptB l i < 2 ^ n
  | [], _, n, _ => by simp [keptB]; exact Nat.pow_pos (by omega)
  | t :: r, i, n, h => by
    rw [List.length_cons] at h
    refine Nat.or_lt_two_pow ?_ (kept_lt r (i + 1) n (by omega))
    split
    · exact Nat.pow_lt_pow_right (by omega) (by omega)
    · exact Nat.pow_pos (by omega)
def stepM (c : NetM) (bs : List Int) (f b : Nat) (x : StepM) : Option (Nat × Nat) :=
  if (c.tanks.getD x.tank.toNat ⟨ByteArray.empty, false⟩).kept = true ∨ b.testBit x.tank.toNat ≠ x.off then none
  else if x.off then some (spreadM c.pipes bs (andn b (2 ^ x.tank.toNat)) f, andn b (2 ^ x.tank.toNat))
  else some (spreadM c.pipes bs (b ||| 2 ^ x.tank.toNat) (f ||| 2 ^ x.tank.toNat), b ||| 2 ^ x.tank.toNat)
def stepsM (c : NetM) (bs : List Int) : List StepM → Nat → Nat → Int × Nat × Nat
  | [], f, b => (0, f, b)
  | x :: r, f, b => if outM c.tanks.length x.tank then (4, 0, 0) else match stepM c bs f b x with
    | none => (2, 0, 0)
    | some (f', b') => stepsM c bs r f' b'
def bitsL (n : Nat) : List Int := ((List.range 7).filter fun i => n.testBit i).map (fun i : Nat => (i : Int))
def afterM (c : NetM) (bs : List Int) (xs : List StepM) : Int × Nat × Nat :=
  if blanksOf c bs ≠ 0 then (blanksOf c bs, 0, 0) else if 60 < xs.length then (3, 0, 0) else stepsM c bs xs 0 0
def afterV (r : Int × Nat × Nat) : AVal :=
  if r.1 = 0 then .tup [.agg [.slice 1 ((bitsL r.2.1).map ii'), .slice 1 ((bitsL r.2.2).map ii')], ii' 0] else .tup [.agg [.slice 1 [], .slice 1 []], ii' r.1]
structure NetOk (c : NetM) : Prop where
  tanks : c.tanks.length ≤ 7
  pipes : c.pipes.length ≤ 12
  ends : ∀ p ∈ c.pipes, 0 ≤ p.from_ ∧ p.from_.toNat < c.tanks.length ∧ 0 ≤ p.to ∧ p.to.toNat < c.tanks.length ∧ p.from_ ≠ p.to
theorem pipesE_ok {m : Int} : ∀ {l : List PipeM} {i : Nat}, (pipesE m l i).2.2 = 0 → ∀ p ∈ l, 0 ≤ p.from_ ∧ p.from_ < m ∧ 0 ≤ p.to ∧ p.to < m ∧ p.from_ ≠ p.to
  | [], _, _ => fun p hp => absurd hp (by simp)
  | q :: r, i, h => fun p hp => by
    simp only [pipesE] at h
    split at h
    · simp at h
    · rename_i h1
      split at h
      · simp at h
      · rename_i h2
        rcases List.mem_cons.1 hp with rfl | hp
        · simp [outM] at h1
          omega
        · exact pipesE_ok h p hp
theorem netE_ok {c : NetM} (h : (netE c).2.2 = 0) : NetOk c := by
  unfold netE at h
  split at h
  · simp at h
  · rename_i h1
    split at h
    · rename_i h2
      exfalso
      have key : ∀ (l : List TankM) (i : Nat), (tanksE c.tanks l i).1 ≠ 0 → (tanksE c.tanks l i).2.2 ≠ 0 := by
        intro l
        induction l with
        | nil => intro i h; simp [tanksE] at h
        | cons x r ih => intro i h; simp only [tanksE] at h ⊢; split <;> rename_i g1 <;> simp [g1] at h ⊢; split <;> rename_i g2 <;> simp [g2] at h ⊢; exact ih _ h
      exact key _ _ h2 h
    · refine ⟨by omega, by omega, fun p hp => ?_⟩
      have := pipesE_ok h p hp
      omega
end Go.AM
namespace Go.AM
open Go.Proofs
set_option maxRecDepth 100000
set_option maxHeartbeats 1000000
theorem cmp_isNaN_int_spec (n : Int) (σ : AHeap) : Spec Tryz.prog F_cmp_isNaN_int [ii' n] σ fun r σ' => r = .ret (.bool false) ∧ σ' = σ := by
  refine Spec.pureFn (spec_cmp_isNaN_int (by simp) (awpC_sound _ ?_)) rfl rfl σ
  simp [C_cmp_isNaN_int]
theorem cmp_Less_int_spec (a b : Int) (σ : AHeap) : Spec Tryz.prog F_cmp_Less_int [ii' a, ii' b] σ fun r σ' => r = .ret (.bool (decide (a < b))) ∧ σ' = σ := by
  refine Spec.pureFn (spec_cmp_Less_int (by simp) (awpC_sound _ ?_)) rfl rfl σ
  simp [C_cmp_Less_int]
  refine CallK.pure B_cmp_isNaN_int (cmp_isNaN_int_spec _ _) ?_
  simp
def intsV (l : List Int) : AObj := .arr 1 (l.map ii')
theorem insertion_spec (b : Nat) (l : List Int) (hn : l.length ≤ 12) (σ : AHeap) (hb : b < σ.length) (hx : σ[b]? = some (intsV l)) :
    Spec Tryz.prog F_slices_insertionSortOrdered_int [.sref 1 b 0 l.length l.length, ii' 0, ii' l.length] σ fun r σ' => r = .ret (.tup []) ∧ ∃ l', l'.Perm l ∧ l'.Pairwise (· ≤ ·) ∧ σ' = σ.set b (intsV l') := by
  refine spec_slices_insertionSortOrdered_int (by simp) (awpC_sound _ ?_)
  simp [C_slices_insertionSortOrdered_int]
  refine AW.loop (ι := Nat) (fun i fr σ1 => fr = { v := [(0, .sref 1 b 0 l.length l.length), (1, ii' 0), (2, ii' l.length), (6, .int .i64 i)], ds := [] } ∧ 1 ≤ i ∧ ∃ ds : List Int, ds.Perm l ∧ (ds.take i).Pairwise (· ≤ ·) ∧ σ1 = σ.set b (intsV ds)) (fun i => l.length - i) 1 ⟨by simp; decide, by omega, l, .refl _, ?_, ?_⟩ ?_
  · cases l with
    | nil => simp
    | cons a r => simp
  · obtain ⟨h1, h2⟩ := List.getElem?_eq_some_iff.1 hx
    rw [← h2]; simp
  rintro i fr σ1 ⟨rfl, hi, ds, hp, hs, rfl⟩
  have hlen : ds.length = l.length := hp.length_eq
  refine (Nat.lt_or_ge i l.length).elim (fun hlt => ?_) (fun hge => ?_)
  rotate_left
  · have hnl : ¬ i < l.length := by omega
    refine awpC_sound _ ?_
    simp [hnl]
    exact ⟨ds, hp, by rw [List.take_of_length_le (by omega)] at hs; exact hs, rfl⟩
  refine awpC_sound _ ?_
  simp [hlt]
  refine AW.loop (ι := Nat) (fun j fr σ1 => fr = { v := [(0, .sref 1 b 0 l.length l.length), (1, ii' 0), (2, ii' l.length), (6, .int .i64 i), (7, .int .i64 j)], ds := [] } ∧
    ∃ (A B C : List Int) (x : Int), A.length = j ∧ A.length + B.length = i ∧ (A ++ x :: B ++ C).Perm l ∧ (A ++ B).Pairwise (· ≤ ·) ∧ (∀ y ∈ B, x ≤ y) ∧ σ1 = σ.set b (intsV (A ++ x :: B ++ C))) (fun j => j) i ⟨by simp, ds.take i, [], ds.drop (i + 1), ds[i]'(by omega), ?_⟩ ?_
  · have hd : ds = ds.take i ++ ds[i]'(by omega) :: ds.drop (i + 1) := by rw [List.getElem_cons_drop]; simp
    refine ⟨by simp; omega, by simp; omega, ?_, by simpa using hs, by simp, ?_⟩
    · simp; exact hp
    · simp
  rintro j fr σ1 ⟨rfl, A, B, C, x, hj, hAB, hperm, hsort, hB, rfl⟩
  have hlen2 : A.length + (1 + B.length + C.length) = l.length := by have := hperm.length_eq; simp at this; omega
  have hAc : A = [] ∨ ∃ A' y, A = A' ++ [y] := (List.eq_nil_or_concat A).elim .inl fun ⟨A', y, h⟩ => .inr ⟨A', y, by simpa using h⟩
  rcases hAc with rfl | ⟨A', y, rfl⟩
  · simp at hj
    subst hj
    refine awpC_sound _ ?_
    simp
    refine ⟨.bool false, ?_⟩
    simp
    simp at hAB
    refine ⟨i + 1, by omega, wrap_id (by omega) (by omega), by omega, x :: (B ++ C), by simpa using hperm, ?_, rfl⟩
    rw [show x :: (B ++ C) = (x :: B) ++ C from rfl, List.take_left' (by simp; omega)]
    exact List.pairwise_cons.2 ⟨hB, by simpa using hsort⟩
  · simp at hj
    subst hj
    obtain ⟨k, hk⟩ : ∃ k, A'.length = k := ⟨_, rfl⟩
    obtain ⟨D, hD⟩ : ∃ D, A' ++ [y] ++ x :: B ++ C = D := ⟨_, rfl⟩
    rw [hD]
    simp at hlen2
    have hk1 : k + 1 < l.length := by omega
    have hDl : D.length = l.length := by rw [← hD]; exact hperm.length_eq
    have hx0 : D[k + 1]? = some x := by rw [← hD, ← hk]; simp
    have hy0 : D[k]? = some y := by rw [← hD, ← hk]; simp
    have hx1 : D[k + 1]'(by omega) = x := Option.some.inj ((List.getElem?_eq_getElem (by omega)).symm.trans hx0)
    have hy1 : D[k]'(by omega) = y := Option.some.inj ((List.getElem?_eq_getElem (by omega)).symm.trans hy0)
    have hset : ((D.map ii').set (k + 1) (ii' y)).set k (ii' x) = A'.map ii' ++ ii' x :: (ii' y :: B.map ii' ++ C.map ii') := by
      rw [← hD, ← hk]
      simp
    have hle : ∀ a ∈ A' ++ [y], a ≤ y := fun a ha => by
      rcases List.mem_append.1 ha with h | h
      · rw [List.append_assoc] at hsort
        exact (List.pairwise_append.1 hsort).2.2 a h y (by simp)
      · simp at h; omega
    have hw : IntKind.i64.wrap (k : Int) = k := wrap_id (by omega) (by omega)
    have q1 : 0 ≤ (k : Int) + 1 := by omega
    have q2 : (k : Int) + 1 < l.length := by omega
    have q3 : (k : Int) < l.length := by omega
    have q4 : k < l.length := by omega
    rw [hk]
    refine awpC_sound _ ?_
    simp [hb, intsV, hx1, hy1, hw, hk1, hDl, q1, q2, q3, q4]
    refine ⟨.bool (decide (x < y)), fun σ' => CallV.func B_cmp_Less_int (cmp_Less_int_spec x y σ'), ?_⟩
    simp
    simp at hAB
    refine ⟨fun h1 => ⟨k, by omega, rfl, A', hk, y :: B, by simp; omega, C, x, ?_, ?_, ?_, ?_⟩, fun h1 => ⟨i + 1, by omega, wrap_id (by omega) (by omega), by omega, D, ?_, ?_, rfl⟩⟩
    · refine List.Perm.trans ?_ hperm
      simp
      refine List.Perm.append_left _ ?_
      exact List.Perm.swap _ _ _
    · simpa using hsort
    · intro z hz
      rcases List.mem_cons.1 hz with rfl | hz
      · omega
      · exact hB z hz
    · congr 2
    · rw [← hD]; exact hperm
    · rw [← hD, show A' ++ [y] ++ x :: B ++ C = (A' ++ [y] ++ x :: B) ++ C from rfl, List.take_left' (by simp; omega)]
      refine List.pairwise_append.2 ⟨(List.pairwise_append.1 hsort).1, List.pairwise_cons.2 ⟨hB, (List.pairwise_append.1 hsort).2.1⟩, fun a ha c hc => ?_⟩
      rcases List.mem_cons.1 hc with rfl | hc
      · have := hle a ha; omega
      · exact (List.pairwise_append.1 hsort).2.2 a ha c hc
theorem math_bits_Len64_spec (n : Nat) (hn : n ≤ 12) : ∃ k, ∀ σ, Spec Tryz.prog F_math_bits_Len64 [.int .u64 n] σ fun r σ' => r = .ret (ii' k) ∧ σ' = σ := by
  refine ⟨if n = 0 then 0 else if n = 1 then 1 else if n ≤ 3 then 2 else if n ≤ 7 then 3 else 4, fun σ => ?_⟩
  refine Spec.pureFn (spec_math_bits_Len64 (by simp) (awpC_sound _ ?_)) rfl rfl σ
  have h1 : ¬ (4294967296 : Int) ≤ n := by omega
  have h2 : ¬ (65536 : Int) ≤ n := by omega
  have h3 : ¬ (256 : Int) ≤ n := by omega
  simp [C_math_bits_Len64, h1, h2, h3]
  rcases (by omega : n = 0 ∨ n = 1 ∨ n = 2 ∨ n = 3 ∨ n = 4 ∨ n = 5 ∨ n = 6 ∨ n = 7 ∨ n = 8 ∨ n = 9 ∨ n = 10 ∨ n = 11 ∨ n = 12) with h | h | h | h | h | h | h | h | h | h | h | h | h <;> subst h <;> decide +kernel
theorem math_bits_Len_spec (n : Nat) (hn : n ≤ 12) : ∃ k, ∀ σ, Spec Tryz.prog F_math_bits_Len [.int .u64 n] σ fun r σ' => r = .ret (ii' k) ∧ σ' = σ := by
  obtain ⟨k, hk⟩ := math_bits_Len64_spec n hn
  refine ⟨k, fun σ => Spec.pureFn (spec_math_bits_Len (by simp) (awpC_sound _ ?_)) rfl rfl σ⟩
  simp [C_math_bits_Len]
  refine CallK.pure B_math_bits_Len64 (hk _) ?_
  simp
theorem CallK.spec {P : Program} {f : FuncId} (hb : hasBody P f = true) {args : List AVal} {σ : AHeap} {Q : ARes → AHeap → Prop} {K Kp : AVal → AHeap → Prop} (hs : Spec P f args σ Q) (h : ∀ r σ', Q r σ' → ∃ v, r = .ret v ∧ K v σ') :
    @CallK P (.func (.func f) [] []) args σ ⟨K⟩ ⟨Kp⟩ :=
  CallV.func hb (by simpa using hs.mono fun r σ' hq => by obtain ⟨v, rfl, hk⟩ := h r σ' hq; exact hk)
theorem pdq_spec (b : Nat) (l : List Int) (hn : l.length ≤ 12) (k : Int) (σ : AHeap) (hb : b < σ.length) (hx : σ[b]? = some (intsV l)) :
    Spec Tryz.prog F_slices_pdqsortOrdered_int [.sref 1 b 0 l.length l.length, ii' 0, ii' l.length, ii' k] σ fun r σ' => r = .ret (.tup []) ∧ ∃ l', l'.Perm l ∧ l'.Pairwise (· ≤ ·) ∧ σ' = σ.set b (intsV l') := by
  refine spec_slices_pdqsortOrdered_int (by simp) (awpC_sound _ ?_)
  simp [C_slices_pdqsortOrdered_int]
  refine AW.loop (ι := Nat) (fun i fr σ1 => fr = { v := [(0, .sref 1 b 0 l.length l.length), (1, ii' 0), (2, ii' l.length), (3, ii' k), (8, .bool true), (9, .bool true)], ds := [] } ∧ σ1 = σ) (fun i => i) 0 ⟨by simp, rfl⟩ ?_
  rintro i fr σ1 ⟨rfl, rfl⟩
  have hw : IntKind.i64.wrap (l.length : Int) = l.length := wrap_id (by omega) (by omega)
  have hn' : (l.length : Int) ≤ 12 := by omega
  refine awpC_sound _ ?_
  simp [hw, hn']
  refine CallK.spec B_slices_insertionSortOrdered_int (insertion_spec b l hn σ1 hb hx) ?_
  rintro r σ' ⟨rfl, l', h1, h2, rfl⟩
  exact ⟨_, rfl, by simp; exact ⟨l', h1, h2, rfl⟩⟩
theorem sort_spec (b : Nat) (l : List Int) (hn : l.length ≤ 12) (σ : AHeap) (hb : b < σ.length) (hx : σ[b]? = some (intsV l)) :
    Spec Tryz.prog F_slices_Sort_int_int [.sref 1 b 0 l.length l.length] σ fun r σ' => r = .ret (.tup []) ∧ ∃ l', l'.Perm l ∧ l'.Pairwise (· ≤ ·) ∧ σ' = σ.set b (intsV l') := by
  obtain ⟨k, hk⟩ := math_bits_Len_spec l.length hn
  refine spec_slices_Sort_int_int (by simp) (awpC_sound _ ?_)
  have hw : IntKind.u64.wrap (l.length : Int) = l.length := by rw [IntKind.wrap_u64]; omega
  simp [C_slices_Sort_int_int, hw]
  refine CallK.pure B_math_bits_Len (hk _) ?_
  simp
  refine CallK.spec B_slices_pdqsortOrdered_int (pdq_spec b l hn k σ hb hx) ?_
  rintro r σ' ⟨rfl, l', h1, h2, rfl⟩
  exact ⟨_, rfl, by simp; exact ⟨l', h1, h2, rfl⟩⟩
end Go.AM
