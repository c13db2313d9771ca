/- Hulls that are made of a hull: their errors, their sums. Ballast: the plain law. -/
import Derived.Test.YtmgbkmobhjjkiaaP8
namespace Go.AM
open Go.Proofs
set_option maxRecDepth 100000
set_option maxHeartbeats 1000000

structure POk (p : PartM) : Prop where
  at_ : 0 ≤ p.at_ ∧ p.at_ ≤ 5000
  keel : 0 ≤ p.keel ∧ p.keel ≤ 1000
  w : 0 ≤ p.wLo ∧ p.wLo ≤ p.wHi ∧ p.wHi ≤ 1000000
  l : 0 ≤ p.lLo ∧ p.lLo ≤ p.lHi ∧ p.lHi ≤ 5000
theorem partE_iff {p : PartM} : partE p = 0 ↔ POk p := by
  unfold partE
  constructor
  · intro h
    split at h
    · cases h
    · rename_i hn
      split at h
      · cases h
      · rename_i hn2
        simp [beyondF, outF] at hn hn2
        exact ⟨by omega, by omega, by omega, by omega⟩
  · rintro ⟨h1, h2, h3, h4⟩
    rw [if_neg, if_neg]
    · simp; omega
    · simp [beyondF, outF]; omega
theorem POk.fine {p : PartM} (h : POk p) : PFine p := ⟨h.at_, h.keel, by have := h.w; omega, h.l⟩

theorem partsE_iff (all : List PartM) : ∀ (l : List PartM) (i : Nat), (partsE all l i).2.2 = 0 ↔
    ∀ k (hk : k < l.length), nameF l[k].name = true ∧ ((all.take (i + k)).any fun y => y.name.toList == l[k].name.toList) = false ∧ partE l[k] = 0
  | [], _ => by simp [partsE]
  | x :: r, i => by
    have ih := partsE_iff all r (i + 1)
    constructor
    · intro h k hk
      simp only [partsE] at h
      split at h
      · cases h
      · rename_i h1
        split at h
        · cases h
        · rename_i h2
          split at h
          · rename_i h3; exact absurd h h3
          · rename_i h3
            cases k with
            | zero => exact ⟨by simpa using h1, by simpa using h2, by simpa using h3⟩
            | succ k =>
              have := ih.1 h k (by simpa using hk)
              simpa [Nat.add_assoc, Nat.add_comm 1] using this
    · intro h
      have h0 := h 0 (by simp)
      simp only [List.getElem_cons_zero, Nat.add_zero] at h0
      simp only [partsE]
      rw [if_neg (by rw [h0.1]; simp), if_neg (by rw [h0.2.1]; simp), if_neg (by rw [h0.2.2]; simp), ih]
      intro k hk
      have := h (k + 1) (by simpa using hk)
      simpa [Nat.add_assoc, Nat.add_comm 1] using this

/-- The same names, and parts without an error: the hull has none. -/
theorem valid_of {h h' : HullM} (he : eF h = 0) (hn : h'.ps.map PartM.name = h.ps.map PartM.name) (hp : ∀ p ∈ h'.ps, POk p) (h1 : 0 ≤ h'.aft) (h2 : h'.aft < h'.fore) (h3 : h'.fore ≤ 5000) : eF h' = 0 := by
  have hf := fine_of he
  have hl : h'.ps.length = h.ps.length := by have := congrArg List.length hn; simpa using this
  have hP : (partsE h.ps h.ps 0).2.2 = 0 := by
    unfold eF checkF at he
    split at he
    · cases he
    · split at he
      · cases he
      · split at he
        · cases he
        · exact he
  have hP' : (partsE h'.ps h'.ps 0).2.2 = 0 := by
    rw [partsE_iff] at hP ⊢
    intro k hk
    have := hP k (by omega)
    have hnk : h'.ps[k].name = h.ps[k].name := by
      have e : (h'.ps.map PartM.name)[k]? = (h.ps.map PartM.name)[k]? := by rw [hn]
      simpa [hk, show k < h.ps.length by omega] using e
    refine ⟨by rw [hnk]; exact this.1, ?_, partE_iff.2 (hp _ (List.getElem_mem _))⟩
    rw [hnk]
    have a1 : ∀ (ps : List PartM), ((ps.take (0 + k)).any fun y => y.name.toList == h.ps[k].name.toList) = (((ps.map PartM.name).take (0 + k)).any fun s => s.toList == h.ps[k].name.toList) := fun ps => by
      rw [← List.map_take, List.any_map]; rfl
    rw [a1, hn, ← a1]
    exact this.2.1
  have hlen := hf.len
  unfold eF checkF
  rw [if_neg, if_neg, if_neg (by omega)]
  · exact hP'
  · simp [beyondF, outF]; omega
  · simp [beyondF, outF]; omega

theorem sumI_map (g : PartM → PartM) {f : PartM → Nat → Int} : ∀ (l : List PartM) (k : Nat), sumI f k (l.map g) = sumI (fun p k => f (g p) k) k l
  | [], _ => rfl
  | p :: r, k => by simp only [List.map_cons, sumI, sumI_map g r (k + 1)]

/-! ### End for end -/
def turnP (p : PartM) : PartM := { p with at_ := 5000 - p.at_ }
def turnH (h : HullM) : HullM := { ps := h.ps.map turnP, aft := 5000 - h.fore, fore := 5000 - h.aft }

theorem turnH_valid {h : HullM} (he : eF h = 0) : eF (turnH h) = 0 := by
  have hf := fine_of he
  have hP : ∀ p ∈ h.ps, POk p := fun p hp => by
    have h' := he
    unfold eF checkF at h'
    split at h'
    · cases h'
    · split at h'
      · cases h'
      · split at h'
        · cases h'
        · exact partE_iff.1 (parts_ok _ _ _ h' p hp)
  have h1 := hf.aft; have h2 := hf.lt; have h3 := hf.fore
  refine valid_of he ?_ ?_ ?_ ?_ ?_
  · simp only [turnH, List.map_map]; rfl
  · intro p hp
    simp only [turnH, List.mem_map] at hp
    obtain ⟨q, hq, rfl⟩ := hp
    have := hP q hq
    have := this.at_
    exact ⟨by simp only [turnP]; omega, (hP q hq).keel, (hP q hq).w, (hP q hq).l⟩
  · simp only [turnH]; omega
  · simp only [turnH]; omega
  · simp only [turnH]; omega

theorem turnH_true {h : HullM} {t : TruthM} (ht : TrueOf h t) : TrueOf (turnH h) t where
  lw := by simp [turnH, ht.lw]
  ll := by simp [turnH, ht.ll]
  w := fun i hi => by
    have := ht.w i (by simpa [turnH] using hi)
    simpa [turnH, turnP] using this
  l := fun i hi => by
    have := ht.l i (by simpa [turnH] using hi)
    simpa [turnH, turnP] using this

theorem turn_arm (h : HullM) (p : PartM) : armZ (turnH h) 0 (turnP p) = armZ h 0 p ∧ armZ (turnH h) 1 (turnP p) = armZ h 2 p ∧ armZ (turnH h) 2 (turnP p) = armZ h 1 p := by
  simp only [armZ, turnH, turnP]
  refine ⟨rfl, ?_, ?_⟩ <;> simp <;> omega

theorem turn_in (h : HullM) (t : TruthM) (w : Int) : inZ (turnH h) t w 0 = inZ h t w 0 ∧ inZ (turnH h) t w 1 = inZ h t w 2 ∧ inZ (turnH h) t w 2 = inZ h t w 1 := by
  unfold inZ
  refine ⟨?_, ?_, ?_⟩
  all_goals
    rw [show (turnH h).ps = h.ps.map turnP from rfl, sumI_map]
    refine sumI_congr _ _ fun i hi => ?_
    simp only [(turn_arm h _).1, (turn_arm h _).2.1, (turn_arm h _).2.2]
    rfl
theorem turn_least (h : HullM) (w : Int) : leastZ (turnH h) w 0 = leastZ h w 0 ∧ leastZ (turnH h) w 1 = leastZ h w 2 ∧ leastZ (turnH h) w 2 = leastZ h w 1 := by
  unfold leastZ
  refine ⟨?_, ?_, ?_⟩
  all_goals
    rw [show (turnH h).ps = h.ps.map turnP from rfl, sumI_map]
    refine sumI_congr _ _ fun i hi => ?_
    simp only [termZ, (turn_arm h _).1, (turn_arm h _).2.1, (turn_arm h _).2.2]
    rfl

theorem wet_ok' {w : Int} (h0 : 0 ≤ w) (h1 : w ≤ 1000) : wetE 0 w = 0 := by simp [wetE, beyondF, outF]; omega
theorem stand_Least_at {h : HullM} (he : eF h = 0) {w : Int} (h0 : 0 ≤ w) (h1 : w ≤ 1000) (σ : AHeap) :
    Spec Try.prog F_stand_Least [h.v, ii' w] σ fun r σ' => r = .ret (.tup [.agg [ii' (leastZ h w 0), ii' (leastZ h w 1), ii' (leastZ h w 2)], ii' 0]) ∧ σ' = σ := by
  have hf := fine_of he
  have := stand_Least_spec h hf.maxLen w σ
  rw [he, wet_ok' h0 h1, if_pos rfl, leastS_z hf h0 h1, leastS_z hf h0 h1, leastS_z hf h0 h1] at this
  exact this
end Go.AM

namespace Go.AM
open Go.Proofs
set_option maxRecDepth 100000
set_option maxHeartbeats 1000000

def addP (q : PartM) (b : Int) : PartM := { q with wLo := q.wLo + b, wHi := q.wHi + b }
def heavyH (h : HullM) (i : Nat) (q : PartM) (b : Int) : HullM := { h with ps := h.ps.set i (addP q b) }

theorem sumI_set {f : PartM → Nat → Int} (x y : PartM) : ∀ (l : List PartM) (i k : Nat), l[i]? = some x → sumI f k (l.set i y) = sumI f k l + (f y (k + i) - f x (k + i))
  | [], i, k, h => by simp at h
  | p :: r, 0, k, h => by
    simp at h; subst h
    simp only [List.set_cons_zero, sumI, Nat.add_zero]
    omega
  | p :: r, i + 1, k, h => by
    simp only [List.set_cons_succ, sumI]
    rw [sumI_set x y r i (k + 1) (by simpa using h), show k + 1 + i = k + (i + 1) by omega]
    omega

theorem heavy_least {h : HullM} {i : Nat} {q : PartM} (hq : h.ps[i]? = some q) (b w : Int) (j : Nat) : leastZ (heavyH h i q b) w j = leastZ h w j + armZ h j q * b := by
  unfold leastZ
  have := sumI_set (f := fun p _ => termZ (heavyH h i q b) w j p) q (addP q b) h.ps i 0 hq
  rw [show (heavyH h i q b).ps = h.ps.set i (addP q b) from rfl, this]
  have e : termZ (heavyH h i q b) w j (addP q b) = termZ h w j q + armZ h j q * b := by
    show (if armZ h j q < 0 then armZ h j q * ((q.wHi + b) - q.lLo * ovZ w q.keel) else armZ h j q * ((q.wLo + b) - q.lHi * ovZ w q.keel)) = _
    unfold termZ
    split
    · simp only [Int.mul_sub, Int.mul_add]; omega
    · simp only [Int.mul_sub, Int.mul_add]; omega
  rw [e]
  show sumI (fun p _ => termZ h w j p) 0 h.ps + (termZ h w j q + armZ h j q * b - termZ h w j q) = _
  omega

theorem heavy_fine {h : HullM} (hf : ∀ p ∈ h.ps, POk p) (hh : Fine h) {i : Nat} {q : PartM} (hq : h.ps[i]? = some q) {b : Int} (h0 : 0 ≤ b) (h1 : b ≤ 1000001) : Fine (heavyH h i q b) where
  len := by simp only [heavyH, List.length_set]; exact hh.len
  aft := hh.aft
  lt := hh.lt
  fore := hh.fore
  part := fun p hp => by
    simp only [heavyH] at hp
    rcases List.mem_or_eq_of_mem_set hp with hp | rfl
    · exact (hf p hp).fine
    · have := hf q (List.mem_of_getElem? hq)
      exact ⟨this.at_, this.keel, by have := this.w; simp only [addP]; omega, this.l⟩

def needS (h : HullM) (w : Int) (j : Nat) : Int := if j = 0 then leastZ h w 0 - 1 else leastZ h w j
def Fit (h : HullM) (q : PartM) (w b : Int) : Prop := ∀ j, j ≤ 2 → 0 ≤ needS h w j + armZ h j q * b
theorem fit_why {h : HullM} {i : Nat} {q : PartM} (hq : h.ps[i]? = some q) (b w : Int) : whyZ (heavyH h i q b) w = 0 ↔ Fit h q w b := by
  unfold whyZ
  rw [whyF_zero, heavy_least hq, heavy_least hq, heavy_least hq]
  constructor
  · rintro ⟨h0, h1, h2⟩ j hj
    rcases (by omega : j = 0 ∨ j = 1 ∨ j = 2) with e | e | e <;> subst e
    · simp only [needS, if_true]; omega
    · simpa [needS] using h1
    · simpa [needS] using h2
  · intro hF
    have h0 := hF 0 (by decide); have h1 := hF 1 (by decide); have h2 := hF 2 (by decide)
    simp [needS] at h0 h1 h2
    omega

theorem fit_between {h : HullM} {q : PartM} {lo hi : Int} (he : Even h lo hi) {x y z b : Int} (h1 : lo ≤ x) (h2 : x ≤ y) (h3 : y ≤ z) (h4 : z ≤ hi) (hx : Fit h q x b) (hz : Fit h q z b) : Fit h q y b := fun j hj => by
  have a := hx j hj; have c := hz j hj
  unfold needS at *
  by_cases h0 : j = 0
  · subst h0
    simp only [if_true] at *
    have := leastZ_between he 0 (T := 1 - armZ h 0 q * b) h1 h2 h3 h4 (by omega) (by omega)
    omega
  · simp only [h0, if_false] at *
    have := leastZ_between he j (T := - (armZ h j q * b)) h1 h2 h3 h4 (by omega) (by omega)
    omega

theorem fit_mono {h : HullM} {q : PartM} (ha : h.aft ≤ q.at_ ∧ q.at_ ≤ h.fore) {w b c : Int} (hbc : b ≤ c) (hb : Fit h q w b) : Fit h q w c := fun j hj => by
  have a := hb j hj
  have : 0 ≤ armZ h j q := by
    unfold armZ; split
    · omega
    · split <;> omega
  have := Int.mul_le_mul_of_nonneg_left hbc this
  omega

/-- What one sum asks for. -/
def stepB (s arm M : Int) : Option Int := if 0 ≤ s then some M else if arm = 0 then none else some (if M < (arm - 1 - s) / arm then (arm - 1 - s) / arm else M)
theorem stepB_some {s arm M M' : Int} (ha : 0 ≤ arm) (h : stepB s arm M = some M') {b : Int} (hb : 0 ≤ b) : (M ≤ b ∧ 0 ≤ s + arm * b) ↔ M' ≤ b := by
  have hm : 0 ≤ arm * b := Int.mul_nonneg ha hb
  unfold stepB at h
  split at h
  · cases h; omega
  · rename_i hs
    split at h
    · cases h
    · rename_i h0
      have hp : 0 < arm := by omega
      have key : (arm - 1 - s) / arm ≤ b ↔ 0 ≤ s + arm * b := by
        rw [show (arm - 1 - s) / arm ≤ b ↔ (arm - 1 - s) / arm < b + 1 by omega, Int.ediv_lt_iff_lt_mul hp, Int.add_mul, Int.mul_comm b arm]
        omega
      rw [← key]
      simp only [Option.some.injEq] at h
      subst h
      split <;> omega
theorem stepB_none {s arm M : Int} (h : stepB s arm M = none) (b : Int) : ¬ 0 ≤ s + arm * b := by
  unfold stepB at h
  split at h
  · cases h
  · split at h
    · rename_i h1 h2; subst h2; simp; omega
    · cases h
theorem stepB_nn {s arm M M' : Int} (hM : 0 ≤ M) (h : stepB s arm M = some M') : 0 ≤ M' := by
  unfold stepB at h
  split at h
  · cases h; exact hM
  · split at h
    · cases h
    · simp only [Option.some.injEq] at h; subst h; split <;> omega

/-- What Ballast is to return. -/
def BallP (h : HullM) (q : PartM) (lo hi : Int) (r : Int × Int) : Prop :=
  (r.2 = 0 ∧ 0 ≤ r.1 ∧ r.1 ≤ 1000000 ∧ ∀ b, 0 ≤ b → ((∀ w, lo ≤ w → w ≤ hi → Fit h q w b) ↔ r.1 ≤ b)) ∨
  (r = (0, 9) ∧ ∀ b, 0 ≤ b → b ≤ 1000000 → ¬ ∀ w, lo ≤ w → w ≤ hi → Fit h q w b)
theorem BallP.unique {h : HullM} {q : PartM} {lo hi : Int} {r s : Int × Int} (hr : BallP h q lo hi r) (hs : BallP h q lo hi s) : r = s := by
  rcases hr with ⟨r0, r1, r2, r3⟩ | ⟨r0, r1⟩ <;> rcases hs with ⟨s0, s1, s2, s3⟩ | ⟨s0, s1⟩
  · have a := (s3 r.1 r1).1 ((r3 r.1 r1).2 (Int.le_refl _))
    have b := (r3 s.1 s1).1 ((s3 s.1 s1).2 (Int.le_refl _))
    exact Prod.ext (by omega) (by omega)
  · exact absurd ((r3 r.1 r1).2 (Int.le_refl _)) (s1 r.1 r1 r2)
  · exact absurd ((s3 s.1 s1).2 (Int.le_refl _)) (r1 s.1 s1 s2)
  · rw [r0, s0]
open Classical in
noncomputable def ballF (h : HullM) (q : PartM) (lo hi : Int) : Int × Int := if hx : ∃ r, BallP h q lo hi r then Classical.choose hx else (0, 0)
theorem ballF_eq {h : HullM} {q : PartM} {lo hi : Int} {r : Int × Int} (hr : BallP h q lo hi r) : ballF h q lo hi = r := by
  have hx : ∃ r, BallP h q lo hi r := ⟨r, hr⟩
  unfold ballF
  rw [dif_pos hx]
  exact (Classical.choose_spec hx).unique hr
noncomputable def ballR (h : HullM) (part lo hi : Int) : Int × Int :=
  if eF h ≠ 0 then (0, eF h) else if insF part 0 ((h.ps.length : Int) - 1) = false then (0, 4) else
  match h.ps[part.toNat]? with
  | some q => if insF q.at_ h.aft h.fore = false then (0, 2) else if spanErr (lo, hi) 0 1000 ≠ 0 then (0, spanErr (lo, hi) 0 1000) else ballF h q lo hi
  | none => (0, 0)
end Go.AM
