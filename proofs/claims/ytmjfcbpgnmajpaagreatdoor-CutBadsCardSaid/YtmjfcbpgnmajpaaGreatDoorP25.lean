/- CutBads: what the law's call returns. Awake of chapter 06, by contracts. Awake of chapter 06, by contracts. What a shaped input looks like, type by type. The inputs of chapter 06's laws: a task, numbers. -/
import Derived.Test.YtmjfcbpgnmajpaaGreatDoorP22
import Derived.Test.YtmjfcbpgnmajpaaGreatDoorP19
import Derived.Test.YtmjfcbpgnmajpaaGreatDoorP24
import Derived.Test.YtmjfcbpgnmajpaaGreatDoorP13
namespace Go.AM
open Go.Proofs
set_option maxRecDepth 100000
set_option maxHeartbeats 1000000
theorem r01_Ints_spec (l : List Int) (hl : l.length ≤ maxLen) (σ : AHeap) : Spec Tryz.prog F_r01_Ints [.slice 1 (l.map ii'), .slice 1 (l.map ii')] σ fun r σ' => r = .ret (.bool true) ∧ σ' = σ := by
  refine Spec.pureFn (spec_r01_Ints (by simp) (awpC_sound _ ?_)) (by simp [pures_map (f := ii') (fun _ => rfl) l]) rfl σ
  simp [C_r01_Ints]
  refine AW.loop (ι := Nat) (fun i fr σ => fr = { v := [(0, .slice 1 (l.map ii')), (1, .slice 1 (l.map ii')), (5, .bool true), (6, .int .i64 i)], ds := [] } ∧ i ≤ l.length) (fun i => l.length - i) 0 (by simp) ?_
  rintro i fr σ ⟨rfl, hi⟩
  refine (Nat.lt_or_ge i l.length).elim (fun hlt => ?_) (fun hge => ?_)
  · obtain ⟨x, hx⟩ : ∃ x, l[i] = x := ⟨_, rfl⟩
    refine awpC_sound _ ?_
    simp [hlt, hx]
    exact ⟨i + 1, by omega, wrap_id (by omega) (by simp only [maxLen] at hl; omega), by omega⟩
  · have hnl : ¬ i < l.length := by omega
    refine awpC_sound _ ?_
    simp [hnl]
theorem ints_nn (l : List Nat) (hl : l.length ≤ maxLen) (σ : AHeap) : Spec Tryz.prog F_r01_Ints [.slice 1 (l.map nn'), .slice 1 (l.map nn')] σ fun r σ' => r = .ret (.bool true) ∧ σ' = σ := by
  have := r01_Ints_spec (l.map fun (n : Nat) => (n : Int)) (by simpa using hl) σ
  rw [List.map_map] at this
  exact this
theorem canL_len {t : TaskM} (hf : t.Fit) (s : Nat) : (canL t s).length ≤ 7 := Nat.le_trans (List.length_filter_le _ _) (by simp; exact hf.ship7)
def mayL (t : TaskM) (l : List Int) : List Nat := if behindE t l = 0 then canL t (leftT t l) else []
def nextM (t : TaskM) (l : List Int) : List Nat := if behindE t l = 0 then nextL t (leftT t l) else []
theorem mayV_eq (t : TaskM) (l : List Int) : mayV t l = .tup [.slice 1 ((mayL t l).map nn'), ii' (behindE t l)] := by
  unfold mayV mayL; split <;> rfl
theorem nextV_eq (t : TaskM) (l : List Int) : nextV t l = .tup [.slice 1 ((nextM t l).map nn'), ii' (behindE t l)] := by
  unfold nextV nextM; split <;> rfl
theorem mayL_len (t : TaskM) (l : List Int) : (mayL t l).length ≤ maxLen := by
  unfold mayL
  split
  · rename_i h
    exact Nat.le_trans (canL_len (order_fit (behind_order h)).1 _) (by decide)
  · simp
theorem nextM_len (t : TaskM) (l : List Int) : (nextM t l).length ≤ maxLen := by
  unfold nextM
  split
  · rename_i h
    exact Nat.le_trans (List.length_filter_le _ _) (Nat.le_trans (canL_len (order_fit (behind_order h)).1 _) (by decide))
  · simp
theorem cutBads_spec (t : TaskM) (hok : t.Ok) (l : List Int) (hl : l.length ≤ maxLen) (haw : ∀ σ, Spec Tryz.prog F_l06_Awake [] σ fun r σ' => r = .ret (.bool true) ∧ σ' = σ) :
    Spec Tryz.prog F_l06_CutBads [t.v, .slice 1 (l.map ii')] [] fun r _ => r = .ret (.bool true) := by
  have h1 := fun σ => cut_Check_spec t hok σ
  have h2 := fun σ => r06_Check_spec t hok σ
  have h3 := fun σ => cut_Bad_spec t hok l hl σ
  have h4 := fun σ => r06_Bad_spec t hok l hl σ
  have h5 := fun σ => cut_May_spec t hok l hl σ
  have h6 := fun σ => r06_May_spec t hok l hl σ
  have h7 := fun σ => cut_Next_spec t hok l hl σ
  have h8 := fun σ => r06_Next_spec t hok l hl σ
  rw [mayV_eq] at h5 h6
  rw [nextV_eq] at h7 h8
  refine spec_l06_CutBads (by simp) (awpC_sound _ ?_)
  simp [C_l06_CutBads, TaskM.v, TaskM.cells]
  refine CallK.pure B_cut_Check (h1 _) ?_
  simp [tripV]
  refine CallK.pure B_r06_Check (h2 _) ?_
  simp [tripV]
  refine CallK.pure B_cut_Bad (h3 _) ?_
  simp [tripV]
  refine CallK.pure B_r06_Bad (h4 _) ?_
  simp [tripV]
  refine CallK.pure B_cut_May (h5 _) ?_
  simp
  refine CallK.pure B_r06_May (h6 _) ?_
  simp
  refine CallK.pure B_r01_Ints (ints_nn _ (mayL_len t l) _) ?_
  simp
  refine CallK.pure B_cut_Next (h7 _) ?_
  simp
  refine CallK.pure B_r06_Next (h8 _) ?_
  simp
  refine CallK.pure B_r01_Ints (ints_nn _ (nextM_len t l) _) ?_
  simp
  exact CallK.pure B_l06_Awake (haw _) (by simp)
end Go.AM
namespace Go.AM
open Go.Proofs
set_option maxRecDepth 100000
set_option maxHeartbeats 1000000
abbrev lst2 (l : List Int) (e : Int) : AVal := .tup [.slice 1 (l.map ii'), ii' e]
theorem ex_max {l : List Int} (h : l.length ≤ 3) : l.length ≤ maxLen := by unfold maxLen; omega
theorem exBad1_spec (σ : AHeap) : Spec Tryz.prog F_cut_Bad [(exT false false).v, .slice 1 [ii' 0, ii' 1]] σ fun r σ' => r = .ret (.tup [ii' 1, ii' 4, ii' 0]) ∧ σ' = σ := by
  have h := cut_Bad_spec _ (exOk false false) [0, 1] (ex_max (by decide)) σ
  rw [exBad1] at h; exact h
theorem exBad2_spec (σ : AHeap) : Spec Tryz.prog F_cut_Bad [(exT false true).v, .slice 1 [ii' 0, ii' 2]] σ fun r σ' => r = .ret (.tup [ii' 1, ii' 3, ii' 0]) ∧ σ' = σ := by
  have h := cut_Bad_spec _ (exOk false true) [0, 2] (ex_max (by decide)) σ
  rw [exBad2] at h; exact h
theorem exMay_spec (σ : AHeap) : Spec Tryz.prog F_cut_May [(exT false false).v, .slice 1 []] σ fun r σ' => r = .ret (lst2 [0, 1] 0) ∧ σ' = σ := by
  have h := cut_May_spec _ (exOk false false) [] (ex_max (by decide)) σ
  unfold mayV at h
  rw [exBeh.1, exBeh.2.1] at h; exact h
theorem exNext_spec (σ : AHeap) : Spec Tryz.prog F_cut_Next [(exT false false).v, .slice 1 []] σ fun r σ' => r = .ret (lst2 [0] 0) ∧ σ' = σ := by
  have h := cut_Next_spec _ (exOk false false) [] (ex_max (by decide)) σ
  unfold nextV at h
  rw [exBeh.1, exBeh.2.2] at h; exact h
theorem exFirst_spec (σ : AHeap) : Spec Tryz.prog F_cut_First [(exT false false).v] σ fun r σ' => r = .ret (lst2 [0, 2, 1] 0) ∧ σ' = σ := by
  have h := cut_First_spec _ (exOk false false) σ
  rw [exFirst.1, exFirst.2] at h; exact h
theorem exMost_spec (σ : AHeap) : Spec Tryz.prog F_cut_Most [(exT true false).v] σ fun r σ' => r = .ret (lst2 [1] 0) ∧ σ' = σ := by
  have h := cut_Most_spec _ (exOk true false) σ
  rw [exMost.2.1, exMost.2.2] at h; exact h
theorem exTo_spec (σ : AHeap) : Spec Tryz.prog F_cut_To [(exT false false).v, ii' 2] σ fun r σ' => r = .ret (lst2 [0, 2] 0) ∧ σ' = σ := by
  have h := cut_To_spec _ (exOk false false) 2 σ
  rw [exTo.1, exTo.2] at h; exact h
theorem exProof_spec (σ : AHeap) : Spec Tryz.prog F_cut_Proof [(exT false true).v] σ fun r σ' => r = .ret (lst2 [5, 6, 7] 0) ∧ σ' = σ := by
  have h := cut_Proof_spec _ (exOk false true) (fun _ => exProof.2.2) σ
  rw [exProof.1, exProof.2.1] at h; exact h
theorem exPrv1_spec (σ : AHeap) : Spec Tryz.prog F_cut_Proves [(exT false true).v, .slice 1 [ii' 7, ii' 6, ii' 5]] σ fun r σ' => r = .ret (.tup [.bool true, ii' 0]) ∧ σ' = σ := by
  have h := cut_Proves_spec _ (exOk false true) [7, 6, 5] (ex_max (by decide)) σ
  rw [exProves.1, exProves.2.1] at h; exact h
theorem exPrv2_spec (σ : AHeap) : Spec Tryz.prog F_cut_Proves [(exT false true).v, .slice 1 [ii' 7, ii' 6]] σ fun r σ' => r = .ret (.tup [.bool false, ii' 0]) ∧ σ' = σ := by
  have h := cut_Proves_spec _ (exOk false true) [7, 6] (ex_max (by decide)) σ
  rw [exProves.2.2.1, exProves.2.2.2] at h; exact h
end Go.AM
namespace Go.AM
open Go.Proofs
set_option maxRecDepth 100000
set_option maxHeartbeats 1000000
theorem awpOps_u {P : Program} {o : AOper} {r : List AOper} {fr : Fr} {σ : AHeap} {K : Fr → AHeap → Prop} {Kp : AVal → Fr → AHeap → Prop} (hg : o.g = none) (hq : o.i.quiet = true) (hs : qside fr.v σ o.i) (h : awpOps P r (fr.put o.d (qval fr.v σ o.i)) σ K Kp) : awpOps P (o :: r) fr σ K Kp := by
  rw [awpOps, hg]
  show awpO _ _ _ _ _ _
  unfold awpO
  rw [if_pos hq]
  exact ⟨hs, h⟩
theorem awpOps_g {P : Program} {o : AOper} {r : List AOper} {fr : Fr} {σ : AHeap} {K : Fr → AHeap → Prop} {Kp : AVal → Fr → AHeap → Prop} {gd : Nat × Bool} {g : Bool} (hg : o.g = some gd) (hc : gcond fr.v gd = some g) (hq : o.i.quiet = true) (hs : g = true → qside fr.v σ o.i) (h : awpOps P r (fr.put o.d (.opt g (qval fr.v σ o.i))) σ K Kp) : awpOps P (o :: r) fr σ K Kp := by
  rw [awpOps, hg]
  show match gcond fr.v gd with | none => False | some g => _
  rw [hc]
  show ite _ _ _
  rw [if_pos hq]
  exact ⟨hs, h⟩
theorem awpOps_c {P : Program} {o : AOper} {r : List AOper} {fr : Fr} {σ : AHeap} {K : Fr → AHeap → Prop} {Kp : AVal → Fr → AHeap → Prop} {gd : Nat × Bool} (hg : o.g = some gd) (hc : gcond fr.v gd = some true) (hq : o.i.quiet = false) (h : awpO P o.i fr.v σ (fun v σ' => awpOps P r (fr.put o.d v) σ' K Kp) (fun v σ' => Kp v fr σ')) : awpOps P (o :: r) fr σ K Kp := by
  rw [awpOps, hg]
  show match gcond fr.v gd with | none => False | some g => _
  rw [hc]
  show ite _ _ _
  rw [if_neg (by rw [hq]; simp)]
  exact ⟨fun _ => h, fun h => by cases h⟩
theorem awake_spec (σ : AHeap) : Spec Tryz.prog F_l06_Awake [] σ fun r σ' => r = .ret (.bool true) ∧ σ' = σ := by
  refine Spec.pureFn (spec_l06_Awake (by simp) (awpC_sound _ ?_)) rfl rfl σ
  obtain ⟨w9, hw9⟩ : ∃ w9, ∀ σ, Spec Tryz.prog F_cut_First [(exT true false).v] σ fun r σ' => r = .ret (.tup [.slice 1 (List.map nn' w9), ii' 9]) ∧ σ' = σ := ⟨firstL (exT true false), fun σ => by have h := cut_First_spec _ (exOk true false) σ; rw [exMost.1] at h; exact h⟩
  simp [C_l06_Awake]
  refine CallK.pure B_l06_Task (l06_Task_spec false false _) ?_
  simp
  refine CallK.pure B_l06_Task (l06_Task_spec true false _) ?_
  simp
  refine CallK.pure B_l06_Task (l06_Task_spec false true _) ?_
  simp [TaskM.v, TaskM.cells]
  refine CallK.pure B_cut_Bad (exBad1_spec _) ?_
  simp [TaskM.v, TaskM.cells]
  refine CallK.pure B_cut_Bad (exBad2_spec _) ?_
  simp [TaskM.v, TaskM.cells]
  refine CallK.pure B_cut_May (exMay_spec _) ?_
  simp [TaskM.v, TaskM.cells]
  refine CallK.pure B_cut_Next (exNext_spec _) ?_
  simp [TaskM.v, TaskM.cells]
  refine CallK.pure B_cut_First (exFirst_spec _) ?_
  simp [TaskM.v, TaskM.cells]
  refine CallK.pure B_cut_First (hw9 _) ?_
  simp [TaskM.v, TaskM.cells]
  refine CallK.pure B_cut_Most (exMost_spec _) ?_
  simp [TaskM.v, TaskM.cells]
  refine CallK.pure B_cut_To (exTo_spec _) ?_
  simp [TaskM.v, TaskM.cells]
  refine CallK.pure B_cut_Proof (exProof_spec _) ?_
  simp [TaskM.v, TaskM.cells]
  refine CallK.pure B_cut_Proves (exPrv1_spec _) ?_
  simp [TaskM.v, TaskM.cells]
  refine CallK.pure B_cut_Proves (exPrv2_spec _) ?_
  simp [-awpOps]
  iterate 5 ((first | refine awpOps_u rfl rfl (by simp) ?_ | refine awpOps_g (g := true) rfl (by simp) rfl (by simp) ?_); simp [-awpOps])
  rw [awpOps]
  simp [-awpOps]
  repeat ((first | refine awpOps_u rfl rfl (by simp) ?_ | refine awpOps_g (g := true) rfl (by simp) rfl (by simp) ?_); simp [-awpOps])
  refine awpOps_c rfl (by simp) rfl ?_
  simp [-awpOps]
  refine awpOps_c rfl (by simp) rfl ?_
  simp [-awpOps]
  refine CallK.pure B_r01_Ints (r01_Ints_spec [0, 1] (ex_max (by decide)) _) ?_
  simp [-awpOps]
  repeat ((first | refine awpOps_u rfl rfl (by simp) ?_ | refine awpOps_g (g := true) rfl (by simp) rfl (by simp) ?_); simp [-awpOps])
  refine awpOps_c rfl (by simp) rfl ?_
  simp [-awpOps]
  refine awpOps_c rfl (by simp) rfl ?_
  simp [-awpOps]
  refine CallK.pure B_r01_Ints (r01_Ints_spec [0] (ex_max (by decide)) _) ?_
  simp [-awpOps]
  repeat ((first | refine awpOps_u rfl rfl (by simp) ?_ | refine awpOps_g (g := true) rfl (by simp) rfl (by simp) ?_); simp [-awpOps])
  refine awpOps_c rfl (by simp) rfl ?_
  simp [-awpOps]
  refine awpOps_c rfl (by simp) rfl ?_
  simp [-awpOps]
  refine CallK.pure B_r01_Ints (r01_Ints_spec [0, 2, 1] (ex_max (by decide)) _) ?_
  simp [-awpOps]
  repeat ((first | refine awpOps_u rfl rfl (by simp) ?_ | refine awpOps_g (g := true) rfl (by simp) rfl (by simp) ?_); simp [-awpOps])
  refine awpOps_c rfl (by simp) rfl ?_
  simp [-awpOps]
  refine awpOps_c rfl (by simp) rfl ?_
  simp [-awpOps]
  refine CallK.pure B_r01_Ints (r01_Ints_spec [1] (ex_max (by decide)) _) ?_
  simp [-awpOps]
  repeat ((first | refine awpOps_u rfl rfl (by simp) ?_ | refine awpOps_g (g := true) rfl (by simp) rfl (by simp) ?_); simp [-awpOps])
  refine awpOps_c rfl (by simp) rfl ?_
  simp [-awpOps]
  refine awpOps_c rfl (by simp) rfl ?_
  simp [-awpOps]
  refine CallK.pure B_r01_Ints (r01_Ints_spec [0, 2] (ex_max (by decide)) _) ?_
  simp [-awpOps]
  repeat ((first | refine awpOps_u rfl rfl (by simp) ?_ | refine awpOps_g (g := true) rfl (by simp) rfl (by simp) ?_); simp [-awpOps])
  refine awpOps_c rfl (by simp) rfl ?_
  simp [-awpOps]
  refine awpOps_c rfl (by simp) rfl ?_
  simp [-awpOps]
  refine CallK.pure B_r01_Ints (r01_Ints_spec [5, 6, 7] (ex_max (by decide)) _) ?_
  simp [-awpOps]
  repeat ((first | refine awpOps_u rfl rfl (by simp) ?_ | refine awpOps_g (g := true) rfl (by simp) rfl (by simp) ?_); simp [-awpOps])
  rw [awpOps]
  simp
end Go.AM
namespace Go.AM
open Go.RowKit
def tyFs (P : Program) (t : TypeId) : Option (List TypeId) :=
  match P.underlying t with
  | some (.struct fs) => some (fs.toList.map (·.type))
  | _ => none
def tyInt (P : Program) (t : TypeId) : Option IntKind :=
  match P.underlying t with
  | some (.int q) => some q
  | _ => none
def tyStr (P : Program) (t : TypeId) : Bool :=
  match P.underlying t with
  | some .string => true
  | _ => false
def tySl (P : Program) (t : TypeId) : Option (TypeId × Nat × Bool) :=
  match P.underlying t with
  | some (.slice e) => some (e, P.cellsOf e, match aggT (P.underlying e) with
    | some true => true
    | _ => false)
  | _ => none
def shapedTs (g : TypeId → List AVal → Prop) : List TypeId → List AVal → Prop
  | [], az => az = []
  | t :: r, az => ∃ a b, az = a ++ b ∧ g t a ∧ shapedTs g r b
theorem shapedFs_ts {g : TypeId → List AVal → Prop} : ∀ {fs : List Field} {az : List AVal}, shapedFs g fs az → shapedTs g (fs.map (·.type)) az
  | [], _, h => h
  | _ :: _, _, ⟨a, b, h1, h2, h3⟩ => ⟨a, b, h1, h2, shapedFs_ts h3⟩
theorem Shaped.fs {P : Program} {k : Nat} {t : TypeId} {az : List AVal} {ts : List TypeId} (h : Shaped P (k + 1) t az) (hu : tyFs P t = some ts) : shapedTs (Shaped P k) ts az := by
  simp only [Shaped] at h
  unfold tyFs at hu
  split at hu
  · rename_i fs he
    rw [he] at h
    simp only [Option.some.injEq] at hu
    subst hu
    exact shapedFs_ts h
  · cases hu
theorem Shaped.int {P : Program} {k : Nat} {t : TypeId} {az : List AVal} {q : IntKind} (h : Shaped P (k + 1) t az) (hu : tyInt P t = some q) : ∃ n, az = [.int q n] ∧ q.min ≤ n ∧ n ≤ q.max := by
  simp only [Shaped] at h
  unfold tyInt at hu
  split at hu
  · rename_i q' he
    rw [he] at h
    simp only [Option.some.injEq] at hu
    subst hu
    exact h
  · cases hu
theorem Shaped.str {P : Program} {k : Nat} {t : TypeId} {az : List AVal} (h : Shaped P (k + 1) t az) (hu : tyStr P t = true) : ∃ x, az = [.str x] ∧ x.size ≤ maxLen := by
  simp only [Shaped] at h
  unfold tyStr at hu
  split at hu
  · rename_i he
    rw [he] at h
    exact h
  · cases hu
theorem Shaped.sl {P : Program} {k : Nat} {t e : TypeId} {c : Nat} {g : Bool} {az : List AVal} (h : Shaped P (k + 1) t az) (hu : tySl P t = some (e, c, g)) :
    ∃ xs, az = [.slice c xs] ∧ xs.length ≤ maxLen ∧ ∀ x ∈ xs, ∃ cs, Shaped P k e cs ∧ x = if g then .agg cs else cs.getD 0 .undef := by
  simp only [Shaped] at h
  unfold tySl at hu
  split at hu
  · rename_i e' he
    rw [he] at h
    simp only [Option.some.injEq, Prod.mk.injEq] at hu
    obtain ⟨rfl, rfl, rfl⟩ := hu
    obtain ⟨xs, h1, h2, h3⟩ := h
    refine ⟨xs, h1, h2, fun x hx => ?_⟩
    obtain ⟨cs, g1, g2⟩ := h3 x hx
    refine ⟨cs, g1, g2.trans ?_⟩
    unfold packT
    split <;> rename_i hh <;> simp [hh]
  · cases hu
theorem list_of {α : Type} {f : α → AVal} {p : α → Prop} : ∀ {xs : List AVal}, (∀ x ∈ xs, ∃ a, x = f a ∧ p a) → ∃ l : List α, xs = l.map f ∧ ∀ a ∈ l, p a
  | [], _ => ⟨[], rfl, by simp⟩
  | x :: r, h => by
    obtain ⟨a, rfl, ha⟩ := h x (by simp)
    obtain ⟨l, rfl, hl⟩ := list_of (xs := r) fun y hy => h y (by simp [hy])
    exact ⟨a :: l, rfl, fun b hb => by
      rcases List.mem_cons.1 hb with rfl | hb
      · exact ha
      · exact hl b hb⟩
end Go.AM
namespace Go.AM
open Go.Proofs Go.RowKit
set_option maxRecDepth 100000
set_option maxHeartbeats 1000000
theorem shaped_int {t : Nat} {us : List AVal} {k : Nat} (h : Shaped Tryz.prog (k + 1) t us) (hu : tyInt Tryz.prog t = some .i64) : ∃ n, us = [ii' n] := by
  obtain ⟨n, h1, _⟩ := h.int hu
  exact ⟨n, h1⟩
def tyBool (P : Program) (t : TypeId) : Bool :=
  match P.underlying t with
  | some .bool => true
  | _ => false
theorem Shaped.bool {P : Program} {k : Nat} {t : TypeId} {us : List AVal} (h : Shaped P (k + 1) t us) (hu : tyBool P t = true) : ∃ b, us = [.bool b] := by
  simp only [Shaped] at h
  unfold tyBool at hu
  split at hu
  · rename_i he
    rw [he] at h
    exact h
  · cases hu
theorem ty3 : tyInt Tryz.prog 3 = some .i64 := by kernel_rfl
theorem ty4 : tyBool Tryz.prog 4 = true := by kernel_rfl
theorem ty9 : tyStr Tryz.prog 9 = true := by kernel_rfl
theorem ty38 : tyFs Tryz.prog 38 = some [24, 27, 29, 33, 34, 35, 36] := by kernel_rfl
theorem ty24 : tyFs Tryz.prog 24 = some [22] := by kernel_rfl
theorem ty22 : tySl Tryz.prog 22 = some (90, 7, true) := by kernel_rfl
theorem ty90 : tyFs Tryz.prog 90 = some [9, 3, 3, 3, 88, 29] := by kernel_rfl
theorem ty88 : tySl Tryz.prog 88 = some (9, 1, false) := by kernel_rfl
theorem ty29 : tyFs Tryz.prog 29 = some [3, 3] := by kernel_rfl
theorem ty27 : tyFs Tryz.prog 27 = some [25, 3, 3] := by kernel_rfl
theorem ty25 : tySl Tryz.prog 25 = some (92, 7, true) := by kernel_rfl
theorem ty92 : tyFs Tryz.prog 92 = some [9, 3, 29, 3, 29] := by kernel_rfl
theorem ty33 : tyFs Tryz.prog 33 = some [30, 31] := by kernel_rfl
theorem ty30 : tySl Tryz.prog 30 = some (215, 2, true) := by kernel_rfl
theorem ty215 : tyFs Tryz.prog 215 = some [9, 4] := by kernel_rfl
theorem ty31 : tySl Tryz.prog 31 = some (217, 3, true) := by kernel_rfl
theorem ty217 : tyFs Tryz.prog 217 = some [3, 3, 4] := by kernel_rfl
theorem ty34 : tySl Tryz.prog 34 = some (3, 1, false) := by kernel_rfl
theorem ty35 : tySl Tryz.prog 35 = some (146, 2, true) := by kernel_rfl
theorem ty146 : tyFs Tryz.prog 146 = some [3, 4] := by kernel_rfl
theorem ty36 : tySl Tryz.prog 36 = some (34, 1, false) := by kernel_rfl
theorem shaped_span {k : Nat} {us : List AVal} (h : Shaped Tryz.prog (k + 2) 29 us) : ∃ a b, us = [ii' a, ii' b] := by
  obtain ⟨a, r, rfl, h1, b, r2, rfl, h2, rfl⟩ := h.fs ty29
  obtain ⟨x, rfl⟩ := shaped_int h1 ty3
  obtain ⟨y, rfl⟩ := shaped_int h2 ty3
  exact ⟨x, y, rfl⟩
theorem shaped_part {k : Nat} {us : List AVal} (h : Shaped Tryz.prog (k + 3) 92 us) : ∃ p : PartM, us = p.cells := by
  obtain ⟨a, r, rfl, h1, b, r2, rfl, h2, c, r3, rfl, h3, d, r4, rfl, h4, e, r5, rfl, h5, rfl⟩ := h.fs ty92
  obtain ⟨s, rfl, _⟩ := h1.str ty9
  obtain ⟨n1, rfl⟩ := shaped_int h2 ty3
  obtain ⟨n2, n3, rfl⟩ := shaped_span h3
  obtain ⟨n4, rfl⟩ := shaped_int h4 ty3
  obtain ⟨n5, n6, rfl⟩ := shaped_span h5
  exact ⟨⟨s, n1, n2, n3, n4, n5, n6⟩, rfl⟩
theorem shaped_ints {k : Nat} {us : List AVal} (h : Shaped Tryz.prog (k + 2) 34 us) : ∃ l : List Int, us = [.slice 1 (l.map ii')] ∧ l.length ≤ maxLen := by
  obtain ⟨xs, rfl, hl, hx⟩ := h.sl ty34
  obtain ⟨l, rfl, _⟩ := list_of (f := ii') (p := fun _ => True) (xs := xs) fun v hv => by
    obtain ⟨cs, g1, g2⟩ := hx v hv
    obtain ⟨n, rfl⟩ := shaped_int g1 ty3
    exact ⟨n, g2, trivial⟩
  exact ⟨l, rfl, by simpa using hl⟩
theorem shaped_strs {k : Nat} {us : List AVal} (h : Shaped Tryz.prog (k + 2) 88 us) : ∃ l : List ByteArray, us = [.slice 1 (l.map .str)] ∧ l.length ≤ maxLen := by
  obtain ⟨xs, rfl, hl, hx⟩ := h.sl ty88
  obtain ⟨l, rfl, _⟩ := list_of (f := AVal.str) (p := fun _ => True) (xs := xs) fun v hv => by
    obtain ⟨cs, g1, g2⟩ := hx v hv
    obtain ⟨n, rfl, _⟩ := g1.str ty9
    exact ⟨n, g2, trivial⟩
  exact ⟨l, rfl, by simpa using hl⟩
theorem shaped_hu {k : Nat} {us : List AVal} (h : Shaped Tryz.prog (k + 3) 90 us) : ∃ p : HuM, us = p.cells ∧ p.on.length ≤ maxLen := by
  obtain ⟨a, r, rfl, h1, b, r2, rfl, h2, c, r3, rfl, h3, d, r4, rfl, h4, e, r5, rfl, h5, f, r6, rfl, h6, rfl⟩ := h.fs ty90
  obtain ⟨s, rfl, _⟩ := h1.str ty9
  obtain ⟨n1, rfl⟩ := shaped_int h2 ty3
  obtain ⟨n2, rfl⟩ := shaped_int h3 ty3
  obtain ⟨n3, rfl⟩ := shaped_int h4 ty3
  obtain ⟨on, rfl, ho⟩ := shaped_strs h5
  obtain ⟨n5, n6, rfl⟩ := shaped_span h6
  exact ⟨⟨s, n1, n2, n3, on, n5, n6⟩, rfl, ho⟩
theorem shaped_tank {k : Nat} {us : List AVal} (h : Shaped Tryz.prog (k + 2) 215 us) : ∃ p : TankM, us = p.cells := by
  obtain ⟨a, r, rfl, h1, b, r2, rfl, h2, rfl⟩ := h.fs ty215
  obtain ⟨s, rfl, _⟩ := h1.str ty9
  obtain ⟨b, rfl⟩ := h2.bool ty4
  exact ⟨⟨s, b⟩, rfl⟩
theorem shaped_pipe {k : Nat} {us : List AVal} (h : Shaped Tryz.prog (k + 2) 217 us) : ∃ p : PipeM, us = p.cells := by
  obtain ⟨a, r, rfl, h1, b, r2, rfl, h2, c, r3, rfl, h3, rfl⟩ := h.fs ty217
  obtain ⟨n1, rfl⟩ := shaped_int h1 ty3
  obtain ⟨n2, rfl⟩ := shaped_int h2 ty3
  obtain ⟨b, rfl⟩ := h3.bool ty4
  exact ⟨⟨n1, n2, b⟩, rfl⟩
theorem shaped_step {k : Nat} {us : List AVal} (h : Shaped Tryz.prog (k + 2) 146 us) : ∃ p : StepM, us = p.cells := by
  obtain ⟨a, r, rfl, h1, b, r2, rfl, h2, rfl⟩ := h.fs ty146
  obtain ⟨n1, rfl⟩ := shaped_int h1 ty3
  obtain ⟨b, rfl⟩ := h2.bool ty4
  exact ⟨⟨n1, b⟩, rfl⟩
theorem shaped_task {k : Nat} {us : List AVal} (h : Shaped Tryz.prog (k + 6) 38 us) : ∃ t : TaskM, us = t.cells ∧ t.Ok := by
  obtain ⟨a, r, rfl, h1, b, r2, rfl, h2, c, r3, rfl, h3, d, r4, rfl, h4, e, r5, rfl, h5, f, r6, rfl, h6, g, r7, rfl, h7, rfl⟩ := h.fs ty38
  obtain ⟨a1, r1, rfl, g1, rfl⟩ := h1.fs ty24
  obtain ⟨xs, rfl, hxl, hx⟩ := g1.sl ty22
  obtain ⟨ship, rfl, hon⟩ := list_of (f := HuM.v) (p := fun p => p.on.length ≤ maxLen) (xs := xs) fun v hv => by
    obtain ⟨cs, q1, q2⟩ := hx v hv
    obtain ⟨p, rfl, q3⟩ := shaped_hu q1
    exact ⟨p, q2, q3⟩
  obtain ⟨b1, r8, rfl, g2, b2, r9, rfl, g3, b3, r10, rfl, g4, rfl⟩ := h2.fs ty27
  obtain ⟨ys, rfl, hyl, hy⟩ := g2.sl ty25
  obtain ⟨ps, rfl, _⟩ := list_of (f := PartM.v) (p := fun _ => True) (xs := ys) fun v hv => by
    obtain ⟨cs, q1, q2⟩ := hy v hv
    obtain ⟨p, rfl⟩ := shaped_part q1
    exact ⟨p, q2, trivial⟩
  obtain ⟨aft, rfl⟩ := shaped_int g3 ty3
  obtain ⟨fore, rfl⟩ := shaped_int g4 ty3
  obtain ⟨lo, hi, rfl⟩ := shaped_span h3
  obtain ⟨d1, r11, rfl, g5, d2, r12, rfl, g6, rfl⟩ := h4.fs ty33
  obtain ⟨zs, rfl, hzl, hz⟩ := g5.sl ty30
  obtain ⟨tanks, rfl, _⟩ := list_of (f := TankM.v) (p := fun _ => True) (xs := zs) fun v hv => by
    obtain ⟨cs, q1, q2⟩ := hz v hv
    obtain ⟨p, rfl⟩ := shaped_tank q1
    exact ⟨p, q2, trivial⟩
  obtain ⟨ws, rfl, hwl, hw⟩ := g6.sl ty31
  obtain ⟨pipes, rfl, _⟩ := list_of (f := PipeM.v) (p := fun _ => True) (xs := ws) fun v hv => by
    obtain ⟨cs, q1, q2⟩ := hw v hv
    obtain ⟨p, rfl⟩ := shaped_pipe q1
    exact ⟨p, q2, trivial⟩
  obtain ⟨blanks, rfl, hbl⟩ := shaped_ints h5
  obtain ⟨ss, rfl, hsl, hs⟩ := h6.sl ty35
  obtain ⟨steps, rfl, _⟩ := list_of (f := StepM.v) (p := fun _ => True) (xs := ss) fun v hv => by
    obtain ⟨cs, q1, q2⟩ := hs v hv
    obtain ⟨p, rfl⟩ := shaped_step q1
    exact ⟨p, q2, trivial⟩
  obtain ⟨ts, rfl, htl, ht⟩ := h7.sl ty36
  obtain ⟨lists, rfl, hll⟩ := list_of (f := intsS) (p := fun l => l.length ≤ maxLen) (xs := ts) fun v hv => by
    obtain ⟨cs, q1, q2⟩ := ht v hv
    obtain ⟨l, rfl, q3⟩ := shaped_ints q1
    exact ⟨l, q2, q3⟩
  refine ⟨⟨ship, ⟨ps, aft, fore⟩, lo, hi, ⟨tanks, pipes⟩, blanks, steps, lists⟩, rfl, ⟨by simpa using hxl, hon⟩, by simpa using hyl, by simpa using hzl, by simpa using hwl, hbl, by simpa using hsl, by simpa using htl, hll⟩
end Go.AM
