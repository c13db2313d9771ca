/- Sums of presses without wrapping: that the least is below all truths, and that it changes evenly where no keel lies. The pieces of a tide: of the program. From where on a hull does not surely stand: of the program and of the document. Why and Show: of the program and of the document. -/
import Derived.Test.YtmgbkmobhjjkiaaP4
import Derived.Test.YtmgbkmobhjjkiaaP5
namespace Go.AM
open Go.Proofs
set_option maxRecDepth 100000
set_option maxHeartbeats 1000000

def armZ (h : HullM) (j : Nat) (p : PartM) : Int := if j = 0 then 1 else if j = 1 then p.at_ - h.aft else h.fore - p.at_
def ovZ (w keel : Int) : Int := if 0 < w - keel then w - keel else 0
def termZ (h : HullM) (w : Int) (j : Nat) (p : PartM) : Int :=
  if armZ h j p < 0 then armZ h j p * (p.wHi - p.lLo * ovZ w p.keel) else armZ h j p * (p.wLo - p.lHi * ovZ w p.keel)
def sumI (f : PartM → Nat → Int) : Nat → List PartM → Int
  | _, [] => 0
  | k, p :: r => f p k + sumI f (k + 1) r
def leastZ (h : HullM) (w : Int) (j : Nat) : Int := sumI (fun p _ => termZ h w j p) 0 h.ps
def inZ (h : HullM) (t : TruthM) (w : Int) (j : Nat) : Int := sumI (fun p k => armZ h j p * ((t.ws[k]?.getD 0) - (t.ls[k]?.getD 0) * ovZ w p.keel)) 0 h.ps

structure PFine (p : PartM) : Prop where
  at_ : 0 ≤ p.at_ ∧ p.at_ ≤ 5000
  keel : 0 ≤ p.keel ∧ p.keel ≤ 1000
  w : 0 ≤ p.wLo ∧ p.wLo ≤ p.wHi ∧ p.wHi ≤ 3000000
  l : 0 ≤ p.lLo ∧ p.lLo ≤ p.lHi ∧ p.lHi ≤ 5000
structure Fine (h : HullM) : Prop where
  len : 1 ≤ h.ps.length ∧ h.ps.length ≤ 10
  aft : 0 ≤ h.aft
  lt : h.aft < h.fore
  fore : h.fore ≤ 5000
  part : ∀ p ∈ h.ps, PFine p

theorem partE_fine {p : PartM} (h : partE p = 0) : PFine p := by
  unfold partE at h
  split at h
  · cases h
  · rename_i hn
    split at h
    · cases h
    · rename_i hn2
      simp [beyondF, outF] at hn hn2
      exact ⟨by omega, by omega, by omega, by omega⟩

theorem fine_of {h : HullM} (he : eF h = 0) : Fine h := by
  unfold eF checkF at he
  split at he
  · cases he
  · rename_i h1
    split at he
    · cases he
    · rename_i h2
      split at he
      · cases he
      · rename_i h3
        simp [beyondF, outF] at h1 h2
        exact ⟨by omega, by omega, by omega, by omega, fun p hp => partE_fine (parts_ok _ _ _ he p hp)⟩

theorem ovZ_b {w k : Int} (hw : w ≤ 1000) (hk : 0 ≤ k) : 0 ≤ ovZ w k ∧ ovZ w k ≤ 1000 := by
  unfold ovZ; split <;> omega

theorem mul_b {a b A B : Int} (h1 : -A ≤ a) (h2 : a ≤ A) (h3 : -B ≤ b) (h4 : b ≤ B) : -(A * B) ≤ a * b ∧ a * b ≤ A * B := by
  have hA : 0 ≤ A := by omega
  have hB : 0 ≤ B := by omega
  have key : a.natAbs * b.natAbs ≤ A.natAbs * B.natAbs := Nat.mul_le_mul (by omega) (by omega)
  have e1 : ((a * b).natAbs : Int) ≤ A * B := by
    rw [Int.natAbs_mul]
    have : ((a.natAbs * b.natAbs : Nat) : Int) ≤ ((A.natAbs * B.natAbs : Nat) : Int) := by exact_mod_cast key
    refine Int.le_trans this ?_
    rw [Int.natCast_mul, Int.natAbs_of_nonneg hA, Int.natAbs_of_nonneg hB]
    exact Int.le_refl _
  omega

theorem sumG_exact {t : PartM → Nat → Int} {f : PartM → Nat → Int} : ∀ (l : List PartM) (acc : Int) (k : Nat) (A : Int), (∀ i (hi : i < l.length), t l[i] (k + i) = f l[i] (k + i) ∧ -400000000000 ≤ f l[i] (k + i) ∧ f l[i] (k + i) ≤ 400000000000) →
    -A ≤ acc → acc ≤ A → A + 400000000000 * (l.length : Int) ≤ 9000000000000000000 → sumG t acc k l = acc + sumI f k l
  | [], acc, k, A, _, _, _, _ => by simp [sumG, sumI]
  | p :: r, acc, k, A, h, h1, h2, h3 => by
    have h0 := h 0 (by simp)
    simp at h0
    simp only [sumG, sumI]
    have hl : ((p :: r).length : Int) = (r.length : Int) + 1 := by simp
    rw [hl] at h3
    have hw : wr (acc + t p k) = acc + f p k := by rw [h0.1]; exact wrap_id (by omega) (by omega)
    rw [hw, sumG_exact r (acc + f p k) (k + 1) (A + 400000000000) (fun i hi => by
      have := h (i + 1) (by simpa using hi)
      simpa [Nat.add_assoc, Nat.add_comm 1] using this) (by omega) (by omega) (by omega)]
    omega

theorem armF_eq {h : HullM} (hf : Fine h) {p : PartM} (hp : PFine p) (j : Nat) : armF h j p = armZ h j p ∧ -5000 ≤ armZ h j p ∧ armZ h j p ≤ 5000 := by
  have a := hp.at_; have b := hf.aft; have c := hf.lt; have d := hf.fore
  unfold armF armZ
  by_cases h0 : j = 0
  · simp [h0]
  · by_cases h1 : j = 1
    · simp only [h1]
      exact ⟨wrap_id (by omega) (by omega), by simp; omega⟩
    · simp only [h0, h1, if_false]
      exact ⟨wrap_id (by omega) (by omega), by omega⟩

theorem overF_z {w k : Int} (h0 : 0 ≤ w) (hw : w ≤ 1000) (hk : 0 ≤ k ∧ k ≤ 1000) : overF w k = ovZ w k := by
  unfold overF ovZ
  have : wr (w - k) = w - k := wrap_id (by omega) (by omega)
  rw [this]

theorem press_z {a b o : Int} (ha : 0 ≤ a ∧ a ≤ 3000000) (hb : 0 ≤ b ∧ b ≤ 5000) (ho : 0 ≤ o ∧ o ≤ 1000) : wr (a - wr (b * o)) = a - b * o ∧ -8000000 ≤ a - b * o ∧ a - b * o ≤ 8000000 := by
  have m := mul_b (a := b) (b := o) (A := 5000) (B := 1000) (by omega) (by omega) (by omega) (by omega)
  have w1 : wr (b * o) = b * o := wrap_id (by omega) (by omega)
  rw [w1]
  exact ⟨wrap_id (by omega) (by omega), by omega, by omega⟩

theorem leastT_z {h : HullM} (hf : Fine h) {p : PartM} (hp : PFine p) {w : Int} (h0 : 0 ≤ w) (hw : w ≤ 1000) (j k : Nat) : leastT h w j p k = termZ h w j p ∧ -400000000000 ≤ termZ h w j p ∧ termZ h w j p ≤ 400000000000 := by
  obtain ⟨e1, e2, e3⟩ := armF_eq hf hp j
  unfold leastT termZ lightF heavyF
  rw [overF_z h0 hw hp.keel, e1]
  have ho := ovZ_b hw hp.keel.1
  have q1 := press_z (a := p.wHi) (b := p.lLo) (o := ovZ w p.keel) (by have := hp.w; omega) (by have := hp.l; omega) ho
  have q2 := press_z (a := p.wLo) (b := p.lHi) (o := ovZ w p.keel) (by have := hp.w; omega) (by have := hp.l; omega) ho
  rw [q1.1, q2.1]
  by_cases hn : armZ h j p < 0
  · simp only [hn, if_true]
    have m := mul_b (A := 5000) (B := 8000000) e2 e3 q1.2.1 q1.2.2
    exact ⟨wrap_id (by omega) (by omega), by omega, by omega⟩
  · simp only [hn, if_false]
    have m := mul_b (A := 5000) (B := 8000000) e2 e3 q2.2.1 q2.2.2
    exact ⟨wrap_id (by omega) (by omega), by omega, by omega⟩

theorem sumI_bound {f : PartM → Nat → Int} {B : Int} : ∀ (l : List PartM) (k : Nat), (∀ i (hi : i < l.length), -B ≤ f l[i] (k + i) ∧ f l[i] (k + i) ≤ B) → -(B * (l.length : Int)) ≤ sumI f k l ∧ sumI f k l ≤ B * (l.length : Int)
  | [], k, _ => by simp [sumI]
  | p :: r, k, h => by
    have h0 := h 0 (by simp)
    simp at h0
    have ih := sumI_bound (f := f) (B := B) r (k + 1) fun i hi => by
      have := h (i + 1) (by simpa using hi)
      simpa [Nat.add_assoc, Nat.add_comm 1] using this
    have hl : ((p :: r).length : Int) = (r.length : Int) + 1 := by simp
    simp only [sumI]
    rw [hl, Int.mul_add]
    omega

theorem leastS_z {h : HullM} (hf : Fine h) {w : Int} (h0 : 0 ≤ w) (hw : w ≤ 1000) (j : Nat) : leastS h w j = leastZ h w j := by
  unfold leastS leastZ
  have := sumG_exact (t := leastT h w j) (f := fun p _ => termZ h w j p) h.ps 0 0 0 (fun i hi => leastT_z hf (hf.part _ (List.getElem_mem hi)) h0 hw j _) (by decide) (by decide) (by have := hf.len; omega)
  rw [this]; omega

theorem leastZ_b {h : HullM} (hf : Fine h) {w : Int} (h0 : 0 ≤ w) (hw : w ≤ 1000) (j : Nat) : -4000000000000 ≤ leastZ h w j ∧ leastZ h w j ≤ 4000000000000 := by
  have := sumI_bound (f := fun p _ => termZ h w j p) (B := 400000000000) h.ps 0 (fun i hi => (leastT_z hf (hf.part _ (List.getElem_mem hi)) h0 hw j 0).2)
  have hl := hf.len
  unfold leastZ
  omega

/-- A truth of a hull. -/
structure TrueOf (h : HullM) (t : TruthM) : Prop where
  lw : t.ws.length = h.ps.length
  ll : t.ls.length = h.ps.length
  w : ∀ i (hi : i < h.ps.length), h.ps[i].wLo ≤ t.ws[i]'(by omega) ∧ t.ws[i]'(by omega) ≤ h.ps[i].wHi
  l : ∀ i (hi : i < h.ps.length), h.ps[i].lLo ≤ t.ls[i]'(by omega) ∧ t.ls[i]'(by omega) ≤ h.ps[i].lHi

theorem strange_iff (f : PartM → Int × Int) : ∀ (ps : List PartM) (ns : List Int), ns.length = ps.length → (strangeF f ps ns = false ↔ ∀ i (h1 : i < ps.length) (h2 : i < ns.length), (f ps[i]).1 ≤ ns[i] ∧ ns[i] ≤ (f ps[i]).2)
  | [], _, _ => by simp [strangeF]
  | p :: r, [], h => by simp at h
  | p :: r, n :: s, h => by
    have ih := strange_iff f r s (by simpa using h)
    simp only [strangeF, Bool.or_eq_false_iff]
    rw [ih]
    constructor
    · rintro ⟨h1, h2⟩ i g1 g2
      cases i with
      | zero => simp [outF] at h1 ⊢; exact h1
      | succ i => simpa using h2 i (by simpa using g1) (by simpa using g2)
    · intro hh
      refine ⟨?_, fun i g1 g2 => hh (i + 1) (by simpa using g1) (by simpa using g2)⟩
      have := hh 0 (by simp) (by simp)
      simp [outF] at this ⊢
      exact this

theorem truthE_zero {h : HullM} {t : TruthM} : truthE h t = 0 ↔ eF h = 0 ∧ TrueOf h t := by
  constructor
  · intro h0
    have hn := truth_len h0
    unfold truthE at h0
    split at h0
    · rename_i hx; exact absurd h0 hx
    · rename_i hx
      split at h0
      · cases h0
      · split at h0
        · cases h0
        · rename_i hs
          simp only [Bool.or_eq_true, not_or, Bool.not_eq_true] at hs
          have k1 := (strange_iff _ _ _ hn.1).1 hs.1
          have k2 := (strange_iff _ _ _ hn.2).1 hs.2
          exact ⟨by simpa using hx, hn.1, hn.2, fun i hi => k1 i hi (by omega), fun i hi => k2 i hi (by omega)⟩
  · rintro ⟨h0, ht⟩
    have k1 := (strange_iff (fun p => (p.wLo, p.wHi)) h.ps t.ws ht.lw).2 fun i g1 _ => ht.w i g1
    have k2 := (strange_iff (fun p => (p.lLo, p.lHi)) h.ps t.ls ht.ll).2 fun i g1 _ => ht.l i g1
    simp [truthE, h0, ht.lw, ht.ll, k1, k2]

theorem inT_z {h : HullM} (hf : Fine h) {t : TruthM} (ht : TrueOf h t) {w : Int} (h0 : 0 ≤ w) (hw : w ≤ 1000) (j : Nat) (i : Nat) (hi : i < h.ps.length) :
    inT h t w j h.ps[i] i = armZ h j h.ps[i] * ((t.ws[i]?.getD 0) - (t.ls[i]?.getD 0) * ovZ w h.ps[i].keel) ∧ -400000000000 ≤ armZ h j h.ps[i] * ((t.ws[i]?.getD 0) - (t.ls[i]?.getD 0) * ovZ w h.ps[i].keel) ∧
      armZ h j h.ps[i] * ((t.ws[i]?.getD 0) - (t.ls[i]?.getD 0) * ovZ w h.ps[i].keel) ≤ 400000000000 := by
  have hp := hf.part _ (List.getElem_mem hi)
  obtain ⟨e1, e2, e3⟩ := armF_eq hf hp j
  unfold inT pressF
  have hlw := ht.lw; have hll := ht.ll
  have ew : t.ws[i]?.getD 0 = t.ws[i]'(by omega) := by simp [show i < t.ws.length by omega]
  have el : t.ls[i]?.getD 0 = t.ls[i]'(by omega) := by simp [show i < t.ls.length by omega]
  have kw := ht.w i hi
  have kl := ht.l i hi
  rw [overF_z h0 hw hp.keel, e1, ew, el]
  have ho := ovZ_b hw hp.keel.1
  have q1 := press_z (a := t.ws[i]'(by omega)) (b := t.ls[i]'(by omega)) (o := ovZ w h.ps[i].keel) (by have := hp.w; omega) (by have := hp.l; omega) ho
  rw [q1.1]
  have m := mul_b (A := 5000) (B := 8000000) e2 e3 q1.2.1 q1.2.2
  exact ⟨wrap_id (by omega) (by omega), by omega, by omega⟩

theorem inS_z {h : HullM} (hf : Fine h) {t : TruthM} (ht : TrueOf h t) {w : Int} (h0 : 0 ≤ w) (hw : w ≤ 1000) (j : Nat) : inS h t w j = inZ h t w j := by
  unfold inS inZ
  have := sumG_exact (t := inT h t w j) (f := fun p k => armZ h j p * ((t.ws[k]?.getD 0) - (t.ls[k]?.getD 0) * ovZ w p.keel)) h.ps 0 0 0 (fun i hi => by
    rw [Nat.zero_add]
    exact inT_z hf ht h0 hw j i hi) (by decide) (by decide) (by have := hf.len; omega)
  rw [this]; omega

theorem inZ_b {h : HullM} (hf : Fine h) {t : TruthM} (ht : TrueOf h t) {w : Int} (h0 : 0 ≤ w) (hw : w ≤ 1000) (j : Nat) : -4000000000000 ≤ inZ h t w j ∧ inZ h t w j ≤ 4000000000000 := by
  have := sumI_bound (f := fun p k => armZ h j p * ((t.ws[k]?.getD 0) - (t.ls[k]?.getD 0) * ovZ w p.keel)) (B := 400000000000) h.ps 0 (fun i hi => by
    rw [Nat.zero_add]
    exact (inT_z hf ht h0 hw j i hi).2)
  have hl := hf.len
  unfold inZ
  omega

theorem sumI_le {f g : PartM → Nat → Int} : ∀ (l : List PartM) (k : Nat), (∀ i (hi : i < l.length), f l[i] (k + i) ≤ g l[i] (k + i)) → sumI f k l ≤ sumI g k l
  | [], k, _ => by simp [sumI]
  | p :: r, k, h => by
    have h0 := h 0 (by simp)
    simp at h0
    have ih := sumI_le (f := f) (g := g) r (k + 1) fun i hi => by
      have := h (i + 1) (by simpa using hi)
      simpa [Nat.add_assoc, Nat.add_comm 1] using this
    simp only [sumI]
    omega
theorem sumI_congr {f g : PartM → Nat → Int} (l : List PartM) (k : Nat) (h : ∀ i (hi : i < l.length), f l[i] (k + i) = g l[i] (k + i)) : sumI f k l = sumI g k l :=
  Int.le_antisymm (sumI_le l k fun i hi => Int.le_of_eq (h i hi)) (sumI_le l k fun i hi => Int.le_of_eq (h i hi).symm)

/-- The least term of a part. -/
theorem termZ_le {h : HullM} {p : PartM} {w a b : Int} (j : Nat) (ha : p.wLo ≤ a ∧ a ≤ p.wHi) (hb : p.lLo ≤ b ∧ b ≤ p.lHi) (ho : 0 ≤ ovZ w p.keel) : termZ h w j p ≤ armZ h j p * (a - b * ovZ w p.keel) := by
  unfold termZ
  generalize ovZ w p.keel = o at *
  have m1 : b * o ≤ p.lHi * o := Int.mul_le_mul_of_nonneg_right hb.2 ho
  have m2 : p.lLo * o ≤ b * o := Int.mul_le_mul_of_nonneg_right hb.1 ho
  by_cases hn : armZ h j p < 0
  · simp only [hn, if_true]
    exact Int.mul_le_mul_of_nonpos_left (by omega) (by omega)
  · simp only [hn, if_false]
    exact Int.mul_le_mul_of_nonneg_left (by omega) (by omega)

theorem least_le_in {h : HullM} (hf : Fine h) {t : TruthM} (ht : TrueOf h t) {w : Int} (hw : w ≤ 1000) (j : Nat) : leastZ h w j ≤ inZ h t w j :=
  sumI_le _ _ fun i hi => by
    have hp := hf.part _ (List.getElem_mem hi)
    have hlw := ht.lw; have hll := ht.ll
    simp only [Nat.zero_add]
    have ew : t.ws[i]?.getD 0 = t.ws[i]'(by omega) := by simp [show i < t.ws.length by omega]
    have el : t.ls[i]?.getD 0 = t.ls[i]'(by omega) := by simp [show i < t.ls.length by omega]
    rw [ew, el]
    exact termZ_le j (ht.w i hi) (ht.l i hi) (ovZ_b hw hp.keel.1).1

/-! ### Evenly -/
theorem sumI_affine {f : Int → PartM → Nat → Int} {lo hi : Int} : ∀ (l : List PartM) (k : Nat), (∀ i (hi' : i < l.length), ∃ α β, ∀ w, lo ≤ w → w ≤ hi → f w l[i] (k + i) = α + β * w) → ∃ α β, ∀ w, lo ≤ w → w ≤ hi → sumI (f w) k l = α + β * w
  | [], k, _ => ⟨0, 0, fun w _ _ => by simp [sumI]⟩
  | p :: r, k, h => by
    obtain ⟨a, b, h0⟩ := h 0 (by simp)
    simp at h0
    obtain ⟨c, d, h1⟩ := sumI_affine (f := f) (lo := lo) (hi := hi) r (k + 1) fun i hi' => by
      have := h (i + 1) (by simpa using hi')
      simpa [Nat.add_assoc, Nat.add_comm 1] using this
    refine ⟨a + c, b + d, fun w g1 g2 => ?_⟩
    simp only [sumI]
    rw [h0 w g1 g2, h1 w g1 g2, Int.add_mul]
    omega

def Even (h : HullM) (lo hi : Int) : Prop := ∀ p ∈ h.ps, p.keel ≤ lo ∨ hi ≤ p.keel

theorem ovZ_affine {lo hi k : Int} (h : k ≤ lo ∨ hi ≤ k) : ∃ α β, ∀ w, lo ≤ w → w ≤ hi → ovZ w k = α + β * w := by
  rcases h with h | h
  · refine ⟨-k, 1, fun w _ _ => ?_⟩
    unfold ovZ; split <;> omega
  · refine ⟨0, 0, fun w _ _ => ?_⟩
    unfold ovZ; split <;> omega

theorem leastZ_affine {h : HullM} {lo hi : Int} (he : Even h lo hi) (j : Nat) : ∃ α β, ∀ w, lo ≤ w → w ≤ hi → leastZ h w j = α + β * w := by
  refine sumI_affine (f := fun w p _ => termZ h w j p) h.ps 0 fun i hi' => ?_
  obtain ⟨α, β, ho⟩ := ovZ_affine (he _ (List.getElem_mem hi'))
  generalize h.ps[i] = p at *
  by_cases hn : armZ h j p < 0
  · refine ⟨armZ h j p * (p.wHi - p.lLo * α), -(armZ h j p * (p.lLo * β)), fun w g1 g2 => ?_⟩
    unfold termZ
    rw [if_pos hn, ho w g1 g2]
    simp only [Int.mul_sub, Int.mul_add, Int.neg_mul, Int.mul_assoc]
    omega
  · refine ⟨armZ h j p * (p.wLo - p.lHi * α), -(armZ h j p * (p.lHi * β)), fun w g1 g2 => ?_⟩
    unfold termZ
    rw [if_neg hn, ho w g1 g2]
    simp only [Int.mul_sub, Int.mul_add, Int.neg_mul, Int.mul_assoc]
    omega

theorem leastZ_between {h : HullM} {lo hi : Int} (he : Even h lo hi) (j : Nat) {T a b c : Int} (h1 : lo ≤ a) (h2 : a ≤ b) (h3 : b ≤ c) (h4 : c ≤ hi) (ha : T ≤ leastZ h a j) (hc : T ≤ leastZ h c j) : T ≤ leastZ h b j := by
  obtain ⟨α, β, hz⟩ := leastZ_affine he j
  rw [hz a h1 (by omega)] at ha
  rw [hz c (by omega) h4] at hc
  rw [hz b (by omega) (by omega)]
  rcases Int.le_total 0 β with hb | hb
  · have := Int.mul_le_mul_of_nonneg_left h2 hb
    omega
  · have := Int.mul_le_mul_of_nonpos_left hb h3
    omega

def whyZ (h : HullM) (w : Int) : Int := whyF (leastZ h w 0) (leastZ h w 1) (leastZ h w 2)
theorem whyF_zero {a b c : Int} : whyF a b c = 0 ↔ 1 ≤ a ∧ 0 ≤ b ∧ 0 ≤ c := by
  unfold whyF
  split
  · simp; omega
  · split
    · simp; omega
    · split
      · simp; omega
      · simp; omega
theorem whyF_range (a b c : Int) : whyF a b c = 0 ∨ whyF a b c = 1 ∨ whyF a b c = 2 ∨ whyF a b c = 3 := by
  unfold whyF; split
  · simp
  · split
    · simp
    · split <;> simp
theorem why_between {h : HullM} {lo hi : Int} (he : Even h lo hi) {a b c : Int} (h1 : lo ≤ a) (h2 : a ≤ b) (h3 : b ≤ c) (h4 : c ≤ hi) (ha : whyZ h a = 0) (hc : whyZ h c = 0) : whyZ h b = 0 := by
  unfold whyZ at *
  rw [whyF_zero] at *
  exact ⟨leastZ_between he 0 h1 h2 h3 h4 ha.1 hc.1, leastZ_between he 1 h1 h2 h3 h4 ha.2.1 hc.2.1, leastZ_between he 2 h1 h2 h3 h4 ha.2.2 hc.2.2⟩

/-- The first height, of n from lo on, at which the hull does not surely stand. -/
def firstN (h : HullM) (lo : Int) : Nat → Int × Int
  | 0 => (0, 0)
  | n + 1 => if whyZ h lo = 0 then firstN h (lo + 1) n else (whyZ h lo, lo)

theorem firstN_none {h : HullM} : ∀ (n : Nat) (lo : Int), (∀ w, lo ≤ w → w < lo + n → whyZ h w = 0) → firstN h lo n = (0, 0)
  | 0, _, _ => rfl
  | n + 1, lo, hh => by
    simp only [firstN]
    rw [if_pos (hh lo (by omega) (by omega)), firstN_none n (lo + 1) fun w g1 g2 => hh w (by omega) (by omega)]

theorem firstN_some {h : HullM} : ∀ (n : Nat) (lo w0 : Int), lo ≤ w0 → w0 < lo + n → whyZ h w0 ≠ 0 → (∀ w, lo ≤ w → w < w0 → whyZ h w = 0) → firstN h lo n = (whyZ h w0, w0)
  | 0, lo, w0, h1, h2, _, _ => by omega
  | n + 1, lo, w0, h1, h2, h3, hh => by
    simp only [firstN]
    by_cases he : lo = w0
    · subst he; rw [if_neg h3]
    · rw [if_pos (hh lo (by omega) (by omega))]
      exact firstN_some n (lo + 1) w0 (by omega) (by omega) h3 fun w g1 g2 => hh w (by omega) g2

theorem firstN_cases (h : HullM) (lo : Int) (n : Nat) : (firstN h lo n = (0, 0) ∧ ∀ w, lo ≤ w → w < lo + n → whyZ h w = 0) ∨ ∃ w0, lo ≤ w0 ∧ w0 < lo + n ∧ whyZ h w0 ≠ 0 ∧ (∀ w, lo ≤ w → w < w0 → whyZ h w = 0) ∧ firstN h lo n = (whyZ h w0, w0) := by
  induction n generalizing lo with
  | zero => left; exact ⟨rfl, fun w g1 g2 => by omega⟩
  | succ n ih =>
    simp only [firstN]
    by_cases h0 : whyZ h lo = 0
    · rw [if_pos h0]
      rcases ih (lo + 1) with ⟨e, g⟩ | ⟨w0, g1, g2, g3, g4, e⟩
      · left
        refine ⟨e, fun w k1 k2 => ?_⟩
        by_cases hw : w = lo
        · subst hw; exact h0
        · exact g w (by omega) (by omega)
      · right
        refine ⟨w0, by omega, by omega, g3, fun w k1 k2 => ?_, e⟩
        by_cases hw : w = lo
        · subst hw; exact h0
        · exact g4 w (by omega) (by omega)
    · rw [if_neg h0]
      right
      exact ⟨lo, by omega, by omega, h0, fun w k1 k2 => by omega, rfl⟩
end Go.AM

namespace Go.AM
open Go.Proofs
set_option maxRecDepth 100000
set_option maxHeartbeats 1000000

def tideV (lo hi : Int) : AVal := .agg [ii' lo, ii' hi]
theorem stand_bends_spec (h : HullM) (lo hi : Int) (σ : AHeap) : Spec Try.prog F_stand_body_bends [h.v, tideV lo hi] σ fun r σ' => r = .ret (.func (.func 92) [] [.pval (tideV lo hi), .pval h.v]) ∧ σ' = σ := by
  refine Spec.pureFn (spec_stand_body_bends (by simp) (awpC_sound _ ?_)) (by simp [h.pure]; rfl) (by simp [AVal.pure, pures, h.pure, tideV]) σ
  simp [C_stand_body_bends, HullM.v, HullM.cells, tideV]

theorem bends_1_spec (h : HullM) (hl : h.ps.length ≤ 10) (lo hi : Int) (hlh : lo ≤ hi) (b : Nat) (σ : AHeap) (J : Int → AHeap → Prop) (Stop : AHeap → Prop)
    (hy : ∀ d from_ to s tl, J d s → s.length = σ.length → d ≤ from_ → from_ ≤ d + 1 → lo ≤ from_ → from_ ≤ to → to ≤ hi → Even h from_ to →
      CallV Try.prog (.yieldf b) [tideV from_ to] (s ++ tl) fun r σ' => ∃ s' tl', σ' = s' ++ tl ++ tl' ∧ s'.length = σ.length ∧ ((r = .ret (.bool true) ∧ J to s') ∨ (r = .ret (.bool false) ∧ Stop s')))
    (h0 : J (lo - 1) σ) :
    Spec Try.prog 92 [.yieldf b, .pval (tideV lo hi), .pval h.v] σ fun r σ' => r = .ret (.tup []) ∧ ∃ s tl, σ' = s ++ tl ∧ s.length = σ.length ∧ (J hi s ∨ Stop s) := by
  refine spec_stand_body_bends_1 (by simp) (awpC_sound _ ?_)
  simp [C_stand_body_bends_1, HullM.v, HullM.cells, tideV]
  refine AW.loop (ι := Nat) (fun i fr σ1 => ∃ l tl, fr = { v := [(0, .yieldf b), (1, .pval (.agg [ii' lo, ii' hi])), (4, .sref 1 σ.length 0 l.length l.length), (15, .slice 7 (h.ps.map PartM.v)), (16, .int .i64 h.ps.length), (17, .int .i64 i)], ds := [] } ∧
      σ1 = σ ++ intsV l :: tl ∧ i ≤ h.ps.length ∧ l.length ≤ i + 1 ∧ ∀ x, x ∈ l ↔ x = hi ∨ ∃ p ∈ h.ps.take i, p.keel = x ∧ lo < x ∧ x < hi) (fun i => h.ps.length - i) 0 ⟨[hi], [], by simp, by simp [intsV], by simp, by simp, by simp⟩ ?_
  rintro i fr σ1 ⟨l, tl, rfl, rfl, hi', hll, hm⟩
  refine (Nat.lt_or_ge i h.ps.length).elim (fun hlt => ?_) (fun hge => ?_)
  · obtain ⟨x, hx⟩ : ∃ x, h.ps[i] = x := ⟨_, rfl⟩
    have htk : ∀ p, p ∈ h.ps.take (i + 1) ↔ p ∈ h.ps.take i ∨ p = x := fun p => by
      rw [List.take_add_one, List.mem_append]
      simp [hlt, hx, eq_comm]
    have hfit : Fits 1 [ii' x.keel] := by intro v hv; simp at hv; subst hv; exact ⟨⟨rfl, rfl⟩, rfl⟩
    have hw : IntKind.i64.wrap ((i : Int) + 1) = (i : Int) + 1 := wrap_id (by omega) (by omega)
    refine awpC_sound _ ?_
    refine (Classical.em (lo < x.keel)).elim (fun h1 => ?_) (fun h1 => ?_)
    · refine (Classical.em (x.keel < hi)).elim (fun h2 => ?_) (fun h2 => ?_)
      · simp [hlt, hx, h1, h2, hw, hfit, PartM.v, PartM.cells, intsV]
        rw [if_neg (by omega)]
        refine ⟨by omega, i + 1, by omega, l ++ [x.keel], by simp, by simp, by omega, by simp; omega, fun z => ?_⟩
        rw [List.mem_append, hm]
        constructor
        · rintro ((e | ⟨p, g1, g2⟩) | e)
          · exact .inl e
          · exact .inr ⟨p, (htk p).2 (.inl g1), g2⟩
          · simp at e
            exact .inr ⟨x, (htk x).2 (.inr rfl), e.symm, by omega, by omega⟩
        · rintro (e | ⟨p, g1, g2⟩)
          · exact .inl (.inl e)
          · rcases (htk p).1 g1 with g1 | g1
            · exact .inl (.inr ⟨p, g1, g2⟩)
            · subst g1; exact .inr (by simp [g2.1])
      · simp [hlt, hx, h1, h2, hw, PartM.v, PartM.cells, intsV]
        refine ⟨i + 1, by omega, l, by simp, rfl, by omega, by omega, fun z => ?_⟩
        rw [hm]
        constructor
        · rintro (e | ⟨p, g1, g2⟩)
          · exact .inl e
          · exact .inr ⟨p, (htk p).2 (.inl g1), g2⟩
        · rintro (e | ⟨p, g1, g2⟩)
          · exact .inl e
          · rcases (htk p).1 g1 with g1 | g1
            · exact .inr ⟨p, g1, g2⟩
            · subst g1; omega
    · simp [hlt, hx, h1, hw, PartM.v, PartM.cells, intsV]
      refine ⟨i + 1, by omega, l, by simp, rfl, by omega, by omega, fun z => ?_⟩
      rw [hm]
      constructor
      · rintro (e | ⟨p, g1, g2⟩)
        · exact .inl e
        · exact .inr ⟨p, (htk p).2 (.inl g1), g2⟩
      · rintro (e | ⟨p, g1, g2⟩)
        · exact .inl e
        · rcases (htk p).1 g1 with g1 | g1
          · exact .inr ⟨p, g1, g2⟩
          · subst g1; omega
  · have hnl : ¬ i < h.ps.length := by omega
    rw [List.take_of_length_le hge] at hm
    refine awpC_sound _ ?_
    simp [hnl]
    refine CallK.spec B_slices_Sort_int_int (sort_spec σ.length l (by omega) _ (by simp) (by simp)) ?_
    rintro r σ1 ⟨rfl, l', hp, hs, rfl⟩
    refine ⟨_, rfl, ?_⟩
    have hlen : l'.length = l.length := hp.length_eq
    simp
    have hc := compact_spec σ.length l' (by omega) hs (σ ++ intsV l' :: tl) (by simp) (by simp)
    rw [hlen] at hc
    refine CallK.spec B_slices_Compact_int_int hc ?_
    rintro r σ1 ⟨c, z, ⟨hc1, hc2⟩, hcl, hcz, rfl, rfl⟩
    refine ⟨_, rfl, ?_⟩
    have hm' : ∀ x, x ∈ c ↔ x = hi ∨ ∃ p ∈ h.ps, p.keel = x ∧ lo < x ∧ x < hi := fun x => by rw [hc2, hp.mem_iff, hm]
    obtain ⟨D, hD⟩ : ∃ D, c ++ z = D := ⟨_, rfl⟩
    rw [hD] at hcz ⊢
    have hclt : ∀ i j (h1 : i < j) (h2 : j < c.length), c[i] < c[j] := fun i j h1 h2 => List.pairwise_iff_getElem.1 hc1 i j (by omega) h2 h1
    simp
    refine AW.loop (ι := Nat) (fun j fr σ2 => ∃ from_ d s tl, fr = { v := [(0, .yieldf b), (7, ii' from_), (44, .sref 1 σ.length 0 c.length l.length), (45, .int .i64 c.length), (46, .int .i64 j)], ds := [] } ∧
      σ2 = s ++ intsV D :: tl ∧ s.length = σ.length ∧ J d s ∧ j ≤ c.length ∧ (j = 0 → d = lo - 1 ∧ from_ = lo) ∧ (∀ k (hk : k < c.length), j = k + 1 → d = from_ ∧ from_ = c[k])) (fun j => c.length - j) 0 ⟨lo, lo - 1, σ, tl, by simp, rfl, rfl, h0, by omega, fun _ => ⟨rfl, rfl⟩, fun k _ e => by omega⟩ ?_
    rintro j fr σ2 ⟨from_, d, s, tl, rfl, rfl, hsl, hJ, hj, hj0, hjs⟩
    refine (Nat.lt_or_ge j c.length).elim (fun hlt => ?_) (fun hge => ?_)
    · obtain ⟨to, hto⟩ : ∃ to, c[j] = to := ⟨_, rfl⟩
      have hto' : (c ++ z)[j]? = some to := by rw [List.getElem?_append_left hlt, List.getElem?_eq_getElem hlt, hto]
      rw [hD] at hto'
      have hDto : D[j]'(by omega) = to := Option.some.inj ((List.getElem?_eq_getElem (by omega)).symm.trans hto')
      have hw : IntKind.i64.wrap ((j : Int) + 1) = ((j + 1 : Nat) : Int) := by rw [wrap_id (by omega) (by omega)]; simp
      have r1 : j < l.length := by omega
      have hmem := (hm' to).1 (by rw [← hto]; exact List.getElem_mem _)
      have hb1 : lo ≤ to ∧ to ≤ hi := by
        rcases hmem with e | ⟨p, _, _, e⟩
        · omega
        · omega
      have hfl : lo ≤ from_ ∧ d ≤ from_ ∧ from_ ≤ d + 1 ∧ from_ ≤ to := by
        rcases j with _ | k
        · obtain ⟨e1, e2⟩ := hj0 rfl
          omega
        · obtain ⟨e1, e2⟩ := hjs k (by omega) rfl
          have h1 := hclt k (k + 1) (by omega) hlt
          rw [hto] at h1
          have h2 := (hm' from_).1 (by rw [e2]; exact List.getElem_mem _)
          rcases h2 with e | ⟨p, _, _, e⟩ <;> omega
      have hev : Even h from_ to := fun p hp => by
        by_cases hk : p.keel ≤ from_
        · exact .inl hk
        · right
          by_cases hk2 : to ≤ p.keel
          · exact hk2
          · exfalso
            have hin : p.keel ∈ c := (hm' _).2 (.inr ⟨p, hp, rfl, by omega, by omega⟩)
            obtain ⟨m, hm1, hm2⟩ := List.mem_iff_getElem.1 hin
            have hmj : m < j := by
              rcases Nat.lt_or_ge m j with h' | h'
              · exact h'
              · rcases Nat.lt_or_ge j m with h'' | h''
                · have := hclt j m h'' hm1; omega
                · have : m = j := by omega
                  subst this; omega
            rcases j with _ | k
            · omega
            · obtain ⟨e1, e2⟩ := hjs k (by omega) rfl
              rcases Nat.lt_or_ge m k with h' | h'
              · have := hclt m k h' (by omega); omega
              · have : m = k := by omega
                subst this; omega
      refine awpC_sound _ ?_
      rw [← hsl]
      simp [hlt, intsV, hcz, r1, hDto]
      refine (hy d from_ to s (intsV D :: tl) hJ hsl hfl.2.1 hfl.2.2.1 hfl.1 hfl.2.2.2 hb1.2 hev).mono ?_
      rintro r σ' ⟨s', tl', rfl, hs', hr⟩
      rcases hr with ⟨rfl, hJ'⟩ | ⟨rfl, hS⟩
      · simp [hlt, intsV, hcz, r1, hDto]
        refine ⟨j + 1, by omega, to, ⟨rfl, hw⟩, to, s', ⟨tl ++ tl', rfl⟩, by omega, hJ', by omega, by omega, fun k hk e => ?_⟩
        have : k = j := by omega
        subst this
        exact ⟨rfl, hto.symm⟩
      · simp
        exact ⟨s', ⟨_, rfl⟩, by omega, .inr hS⟩
    · have hnl : ¬ j < c.length := by omega
      refine awpC_sound _ ?_
      simp [hnl]
      refine ⟨s, ⟨_, rfl⟩, hsl, .inl ?_⟩
      have hin : hi ∈ c := (hm' hi).2 (.inl rfl)
      obtain ⟨m, hm1, hm2⟩ := List.mem_iff_getElem.1 hin
      rcases j with _ | k
      · omega
      · obtain ⟨e1, e2⟩ := hjs k (by omega) rfl
        have h1 := (hm' c[k]).1 (List.getElem_mem _)
        have : d = hi := by
          rcases Nat.lt_or_ge m k with h' | h'
          · have := hclt m k h' (by omega)
            rcases h1 with e | ⟨p, _, _, e⟩ <;> omega
          · have : m = k := by omega
            subst this; omega
        rw [← this]; exact hJ
end Go.AM

namespace Go.AM
open Go.Proofs
set_option maxRecDepth 100000
set_option maxHeartbeats 1000000

theorem whyS_z {h : HullM} (hf : Fine h) {w : Int} (h0 : 0 ≤ w) (hw : w ≤ 1000) : whyF (leastS h w 0) (leastS h w 1) (leastS h w 2) = whyZ h w := by
  unfold whyZ; rw [leastS_z hf h0 hw, leastS_z hf h0 hw, leastS_z hf h0 hw]

theorem Fine.maxLen {h : HullM} (hf : Fine h) : h.ps.length ≤ maxLen := by have := hf.len; simp only [Go.maxLen]; omega

def firstR (h : HullM) (lo hi : Int) : Int × Int := firstN h lo (hi - lo + 1).toNat

theorem r05_small_z {h : HullM} (hf : Fine h) (w : Int) (σ : AHeap) : Spec Try.prog F_r05_Smallest [h.v, ii' w] σ fun r σ' => r = .ret (sumsV (leastS h w 0) (leastS h w 1) (leastS h w 2)) ∧ σ' = σ := by
  have hb : Bounds h := ⟨⟨hf.aft, by have := hf.lt; have := hf.fore; omega⟩, ⟨by have := hf.lt; have := hf.aft; omega, hf.fore⟩, fun p hp => (hf.part p hp).at_⟩
  have := r05_Smallest_spec h hf.len.2 w σ
  rw [small_eq h hb w] at this
  exact this

theorem r05_first_spec (h : HullM) (hf : Fine h) (lo hi : Int) (h0 : 0 ≤ lo) (h1 : hi ≤ 1000) (σ : AHeap) :
    Spec Try.prog F_r05_first [h.v, tideV lo hi] σ fun r σ' => r = .ret (.tup [ii' (firstR h lo hi).1, ii' (firstR h lo hi).2]) ∧ σ' = σ := by
  refine Spec.pureFn (spec_r05_first (by simp) (awpC_sound _ ?_)) (by simp [h.pure]; rfl) rfl σ
  simp [C_r05_first, HullM.v, HullM.cells, tideV]
  refine AW.loop (ι := Nat) (fun i fr σ => ∃ w : Int, fr = { v := [(2, .pval (.agg [.slice 7 (h.ps.map PartM.v), ii' h.aft, ii' h.fore])), (3, .pval (.agg [ii' lo, ii' hi])), (6, ii' w)], ds := [] } ∧ lo ≤ w ∧ firstR h lo hi = firstN h w (hi - w + 1).toNat ∧ i = (hi - w + 1).toNat) (fun i => i) (hi - lo + 1).toNat ⟨lo, by simp, by omega, rfl, rfl⟩ ?_
  rintro i fr σ ⟨w, rfl, hlw, hfi, rfl⟩
  refine (Classical.em (w ≤ hi)).elim (fun hle => ?_) (fun hgt => ?_)
  · have hn : (hi - w + 1).toNat = (hi - (w + 1) + 1).toNat + 1 := by omega
    rw [hn] at hfi
    simp only [firstN] at hfi
    have hpu : pures (h.ps.map PartM.v) = true := pures_map (f := PartM.v) (fun _ => rfl) h.ps
    have hw : IntKind.i64.wrap (w + 1) = w + 1 := wrap_id (by omega) (by omega)
    refine awpC_sound _ ?_
    simp [hle]
    refine CallK.pure B_r05_Smallest (r05_small_z hf w _) ?_
    simp [sumsV]
    refine CallK.pureE B_r05_Reason (r05_Reason_spec _ _ _ _) (congrArg ii' (whyS_z hf (by omega) (by omega))) ?_
    refine (Classical.em (whyZ h w = 0)).elim (fun hz => ?_) (fun hz => ?_)
    · rw [if_pos hz] at hfi
      simp [hz, hw]
      exact ⟨_, by omega, by omega, hfi, rfl⟩
    · rw [if_neg hz] at hfi
      simp [hz, hfi]
  · have hn : (hi - w + 1).toNat = 0 := by omega
    rw [hn] at hfi
    refine awpC_sound _ ?_
    simp [hgt, hfi, firstN]

theorem stand_first_spec (h : HullM) (hf : Fine h) (lo hi : Int) (h0 : 0 ≤ lo) (hlh : lo ≤ hi) (h1 : hi ≤ 1000) (σ : AHeap) :
    Spec Try.prog F_stand_body_first [h.v, tideV lo hi] σ fun r σ' => r = .ret (.tup [ii' (firstR h lo hi).1, ii' (firstR h lo hi).2]) ∧ σ' = σ := by
  refine Spec.pureFn (spec_stand_body_first (by simp) (awpC_sound _ ?_)) (by simp [h.pure]; rfl) rfl σ
  simp [C_stand_body_first, HullM.v, HullM.cells, tideV]
  refine AW.scope ?_
  refine awpC_sound _ ?_
  simp
  refine CallK.pure B_stand_body_bends (stand_bends_spec h lo hi _) ?_
  simp
  refine AW.rangeF (by simp) fun asg' body' ca cb hps => ?_
  change CallF Try.prog (AVal.func (Fn.func 92) [] [(tideV lo hi).pval, h.v.pval]) [AVal.yieldf 3] [AObj.box [ii' 0], AObj.box [ii' 0], .dfr, .looprec 54 [(2, h.v.pval), (4, AVal.ptr 0 0), (5, AVal.ptr 1 0), (12, AVal.func (Fn.func 92) [] [(tideV lo hi).pval, h.v.pval])] [13] asg' body' 2 .ready none] (rangeQ 3 _ _)
  refine CallF.func B_stand_body_bends_1 ((bends_1_spec h hf.len.2 lo hi hlh 3 [AObj.box [ii' 0], AObj.box [ii' 0], .dfr, .looprec 54 [(2, h.v.pval), (4, AVal.ptr 0 0), (5, AVal.ptr 1 0), (12, AVal.func (Fn.func 92) [] [(tideV lo hi).pval, h.v.pval])] [13] asg' body' 2 .ready none]
    (fun d s => (∃ a b, s = [.box [ii' a], .box [ii' b], .dfr, .looprec 54 [(2, h.v.pval), (4, AVal.ptr 0 0), (5, AVal.ptr 1 0), (12, AVal.func (Fn.func 92) [] [(tideV lo hi).pval, h.v.pval])] [13] asg' body' 2 .ready none]) ∧ ∀ w, lo ≤ w → w ≤ d → whyZ h w = 0)
    (fun s => ∃ w0, s = [.box [ii' (whyZ h w0)], .box [ii' w0], .dfr, .looprec 54 [(2, h.v.pval), (4, AVal.ptr 0 0), (5, AVal.ptr 1 0), (12, AVal.func (Fn.func 92) [] [(tideV lo hi).pval, h.v.pval])] [13] asg' body' 2 .done (some .ret)] ∧ lo ≤ w0 ∧ w0 ≤ hi ∧ whyZ h w0 ≠ 0 ∧ ∀ w, lo ≤ w → w < w0 → whyZ h w = 0) ?_ ?_).mono ?_)
  · rintro d from_ to s tl ⟨⟨a, b, rfl⟩, hd⟩ hsl hdf hfd hlf hft hto hev
    refine CallV.round (e := [(2, h.v.pval), (4, AVal.ptr 0 0), (5, AVal.ptr 1 0), (12, AVal.func (Fn.func 92) [] [(tideV lo hi).pval, h.v.pval])]) (D := 2) (pend := none) ca cb hps (by simp) rfl ?_
    refine awpC_sound _ ?_
    simp [putArgs, tideV]
    refine ⟨_, _, _, _, _, _, _, ⟨rfl, rfl, rfl, rfl, rfl, rfl, rfl⟩, ?_⟩
    refine awpC_sound _ ?_
    simp [HullM.v, HullM.cells]
    refine CallK.pure B_stand_body_least (stand_least_spec h hf.maxLen from_ _) ?_
    simp [sumsV]
    refine CallK.pureE B_stand_sums_why (stand_why_spec _ _ _ _) (congrArg ii' (whyS_z hf (by omega) (by omega))) ?_
    refine (Classical.em (whyZ h from_ = 0)).elim (fun hz => ?_) (fun hz => ?_)
    rotate_left
    · simp [hz, HullM.v, HullM.cells]
      exact ⟨_, _, _, _, _, _, _, _, rfl, [_, _, _, _], ⟨_, rfl⟩, rfl, .inr ⟨rfl, from_, rfl, hlf, by omega, hz, fun w g1 g2 => hd w g1 (by omega)⟩⟩
    simp [hz, HullM.v, HullM.cells]
    refine CallK.pure B_stand_body_least (stand_least_spec h hf.maxLen to _) ?_
    simp [sumsV]
    refine CallK.pureE B_stand_sums_why (stand_why_spec _ _ _ _) (congrArg ii' (whyS_z hf (by omega) (by omega))) ?_
    refine (Classical.em (whyZ h to = 0)).elim (fun hz2 => ?_) (fun hz2 => ?_)
    · simp [hz2, HullM.v, HullM.cells]
      refine ⟨_, _, _, _, _, _, _, _, rfl, [_, _, _, _], ⟨_, rfl⟩, rfl, .inl ⟨rfl, ⟨_, _, rfl⟩, fun w g1 g2 => ?_⟩⟩
      by_cases hwd : w ≤ d
      · exact hd w g1 hwd
      · exact why_between hev (Int.le_refl _) (by omega) g2 (Int.le_refl _) hz hz2
    simp [hz2, HullM.v, HullM.cells]
    have hne : from_ ≠ to := fun e => hz2 (e ▸ hz)
    clear ca cb
    refine AW.loop (ι := Nat) (fun i fr σ1 => ∃ l1 l2 a b : Int, fr = { v := [(2, .pval (.agg [.slice 7 (h.ps.map PartM.v), ii' h.aft, ii' h.fore])), (4, .ptr 0 0), (5, .ptr 1 0), (7, ii' l1), (8, ii' l2)], ds := [] } ∧
      σ1 = [.box [ii' a], .box [ii' b], .dfr, .looprec 54 [(2, .pval (.agg [.slice 7 (h.ps.map PartM.v), ii' h.aft, ii' h.fore])), (4, AVal.ptr 0 0), (5, AVal.ptr 1 0), (12, AVal.func (Fn.func 92) [] [(AVal.agg [ii' lo, ii' hi]).pval, .pval (.agg [.slice 7 (h.ps.map PartM.v), ii' h.aft, ii' h.fore])])] [13] asg' body' 2 .busy none] ++ (tl ++ [.box [ii' from_, ii' to]]) ∧
      from_ ≤ l1 ∧ l1 < l2 ∧ l2 ≤ to ∧ whyZ h l1 = 0 ∧ whyZ h l2 ≠ 0 ∧ i = (l2 - l1).toNat) (fun i => i) (to - from_).toNat ⟨from_, to, _, _, by simp, rfl, by omega, by omega, by omega, hz, hz2, rfl⟩ ?_
    rintro i fr σ1 ⟨l1, l2, a, b, rfl, rfl, g1, g2, g3, g4, g5, rfl⟩
    have hw1 : IntKind.i64.wrap (l2 - l1) = l2 - l1 := wrap_id (by omega) (by omega)
    refine (Classical.em (1 < l2 - l1)).elim (fun hlt => ?_) (fun hge => ?_)
    · have hw2 : IntKind.i64.wrap (l1 + l2) = l1 + l2 := wrap_id (by omega) (by omega)
      have hq : (l1 + l2).tdiv 2 = (l1 + l2) / 2 := Int.tdiv_eq_ediv_of_nonneg (by omega)
      obtain ⟨mid, hmid⟩ : ∃ mid, (l1 + l2) / 2 = mid := ⟨_, rfl⟩
      have hw3 : IntKind.i64.wrap mid = mid := wrap_id (by omega) (by omega)
      refine awpC_sound _ ?_
      simp [hw1, hw2, hq, hmid, hw3, hlt]
      refine CallK.pure B_stand_body_least (stand_least_spec h hf.maxLen mid _) ?_
      simp [sumsV]
      refine CallK.pureE B_stand_sums_why (stand_why_spec _ _ _ _) (congrArg ii' (whyS_z hf (by omega) (by omega))) ?_
      refine (Classical.em (whyZ h mid = 0)).elim (fun hz3 => ?_) (fun hz3 => ?_)
      · simp [hz3, hw2, hq, hmid, hw3]
        exact ⟨_, by omega, mid, l2, ⟨rfl, rfl⟩, by omega, by omega, by omega, hz3, g5, rfl⟩
      · simp [hz3, hw2, hq, hmid, hw3]
        exact ⟨_, by omega, l1, mid, ⟨rfl, rfl⟩, by omega, by omega, by omega, g4, hz3, rfl⟩
    · refine awpC_sound _ ?_
      simp [hw1, hge]
      refine CallK.pure B_stand_body_least (stand_least_spec h hf.maxLen l2 _) ?_
      simp [sumsV]
      refine CallK.pureE B_stand_sums_why (stand_why_spec _ _ _ _) (congrArg ii' (whyS_z hf (by omega) (by omega))) ?_
      simp
      refine ⟨_, _, _, _, _, _, _, _, rfl, [_, _, _, _], ⟨_, rfl⟩, rfl, .inr ⟨rfl, l2, rfl, by omega, by omega, g5, fun w k1 k2 => ?_⟩⟩
      by_cases hwd : w ≤ d
      · exact hd w k1 hwd
      · exact why_between hev (Int.le_refl _) (by omega) (by omega : w ≤ l1) (by omega) hz g4
  · exact ⟨⟨0, 0, rfl⟩, fun w _ _ => by omega⟩
  · rintro r σ' ⟨rfl, s, tl, rfl, hs, hJ | hS⟩
    · obtain ⟨⟨a, b, rfl⟩, hJ⟩ := hJ
      have hfi : firstR h lo hi = (0, 0) := firstN_none _ _ fun w g1 g2 => hJ w g1 (by omega)
      refine ⟨_, _, _, _, _, _, _, _, rfl, by simp, ?_⟩
      simp [hfi]
    · obtain ⟨w0, rfl, g1, g2, g3, g4⟩ := hS
      have hfi : firstR h lo hi = (whyZ h w0, w0) := firstN_some _ _ w0 g1 (by omega) g3 g4
      refine ⟨_, _, _, _, _, _, _, _, rfl, by simp, ?_⟩
      simp [hfi]
end Go.AM

namespace Go.AM
open Go.Proofs
set_option maxRecDepth 100000
set_option maxHeartbeats 1000000

theorem spanErr_out (lo hi : Int) : spanErr (lo, hi) 0 1000 = if beyondF 0 1000 [lo, hi] then 7 else if hi < lo then 2 else 0 := by
  unfold spanErr
  simp only [beyondF, insF_out, List.any_cons, List.any_nil, Bool.or_false, Bool.not_not]
theorem spanErr_zero {lo hi : Int} (h : spanErr (lo, hi) 0 1000 = 0) : 0 ≤ lo ∧ lo ≤ hi ∧ hi ≤ 1000 := by
  rw [spanErr_out] at h
  split at h
  · cases h
  · rename_i h1
    split at h
    · cases h
    · simp [beyondF, outF] at h1
      omega

theorem stand_tidal_spec (lo hi : Int) (σ : AHeap) : Spec Try.prog F_stand_tidal [tideV lo hi] σ fun r σ' => r = .ret (ii' (spanErr (lo, hi) 0 1000)) ∧ σ' = σ := by
  refine Spec.pureFn (spec_stand_tidal (by simp) (awpC_sound _ ?_)) rfl rfl σ
  have hs := spanErr_out lo hi
  simp [C_stand_tidal, tideV]
  refine (tf (beyondF 0 1000 [lo, hi])).elim (fun h1 => ?_) (fun h1 => ?_)
  · refine CallK.pureE B_stand_beyond (stand_beyond_spec 0 1000 [lo, hi] (by simp [maxLen]) _) (congrArg AVal.bool h1) ?_
    rw [h1] at hs
    refine (Classical.em (hi < lo)).elim (fun h2 => ?_) (fun h2 => ?_)
    · simp [hs, h2]
    · simp [hs, h2]
  · refine CallK.pureE B_stand_beyond (stand_beyond_spec 0 1000 [lo, hi] (by simp [maxLen]) _) (congrArg AVal.bool h1) ?_
    rw [h1] at hs
    simp [hs]

theorem r05_tided_spec (e lo hi : Int) (σ : AHeap) : Spec Try.prog F_r05_tided [ii' e, tideV lo hi] σ fun r σ' => r = .ret (ii' (if e = 0 then spanErr (lo, hi) 0 1000 else e)) ∧ σ' = σ := by
  refine Spec.pureFn (spec_r05_tided (by simp) (awpC_sound _ ?_)) rfl rfl σ
  refine (Classical.em (e = 0)).elim (fun h => ?_) (fun h => ?_)
  · simp [C_r05_tided, tideV, h]
    refine CallK.pure B_r01_Range (r01_Range_spec lo hi 0 1000 _) ?_
    simp
  · simp [C_r05_tided, tideV, h]

def whyR (h : HullM) (lo hi : Int) : Int × Int × Int :=
  if eF h ≠ 0 then (0, 0, eF h) else if spanErr (lo, hi) 0 1000 ≠ 0 then (0, 0, spanErr (lo, hi) 0 1000) else ((firstR h lo hi).1, (firstR h lo hi).2, 0)

theorem stand_Why_spec (h : HullM) (hl : h.ps.length ≤ maxLen) (lo hi : Int) (σ : AHeap) : Spec Try.prog F_stand_Why [h.v, tideV lo hi] σ fun r σ' => r = .ret (tripV (whyR h lo hi)) ∧ σ' = σ := by
  refine Spec.pureFn (spec_stand_Why (by simp) (awpC_sound _ ?_)) (by simp [h.pure]; rfl) rfl σ
  simp [C_stand_Why, HullM.v, HullM.cells, tideV]
  refine CallK.pure B_stand_Check (stand_Check_spec h hl _) ?_
  refine (Classical.em (eF h = 0)).elim (fun he => ?_) (fun he => ?_)
  rotate_left
  · have he' : ¬ (checkF h).2.2 = 0 := he
    simp [tripV, he', whyR, he]
    rfl
  have he' : (checkF h).2.2 = 0 := he
  simp [tripV, he']
  refine CallK.pure B_stand_tidal (stand_tidal_spec lo hi _) ?_
  refine (Classical.em (spanErr (lo, hi) 0 1000 = 0)).elim (fun hs => ?_) (fun hs => ?_)
  rotate_left
  · simp [hs, whyR, he, tripV]
  have hb := spanErr_zero hs
  simp [hs]
  refine CallK.pure B_stand_body_first (stand_first_spec h (fine_of he) lo hi hb.1 hb.2.1 hb.2.2 _) ?_
  simp [whyR, he, hs, tripV]

theorem r05_Why_spec (h : HullM) (hl : h.ps.length ≤ maxLen) (lo hi : Int) (σ : AHeap) : Spec Try.prog F_r05_Why [h.v, tideV lo hi] σ fun r σ' => r = .ret (tripV (whyR h lo hi)) ∧ σ' = σ := by
  refine Spec.pureFn (spec_r05_Why (by simp) (awpC_sound _ ?_)) (by simp [h.pure]; rfl) rfl σ
  simp [C_r05_Why, HullM.v, HullM.cells, tideV]
  refine CallK.pureE B_r05_Check (r05_Check_spec h hl _) (show tripR (checkR h) = .tup [ii' (checkF h).1, ii' (checkF h).2.1, ii' (eF h)] by rw [← check_eq]; rfl) ?_
  simp
  refine CallK.pure B_r05_tided (r05_tided_spec _ lo hi _) ?_
  refine (Classical.em (eF h = 0)).elim (fun he => ?_) (fun he => ?_)
  rotate_left
  · simp [he, whyR, tripV]
  refine (Classical.em (spanErr (lo, hi) 0 1000 = 0)).elim (fun hs => ?_) (fun hs => ?_)
  rotate_left
  · simp [hs, whyR, he, tripV]
  have hb := spanErr_zero hs
  simp [hs, he]
  refine CallK.pure B_r05_first (r05_first_spec h (fine_of he) lo hi hb.1 hb.2.2 _) ?_
  simp [whyR, he, hs, tripV]

def showR (h : HullM) (w : Int) : TruthM × Int × Int := if wetE (eF h) w ≠ 0 then (⟨[], []⟩, 0, wetE (eF h) w) else (shownT h (whyZ h w), whyZ h w, 0)
def showV (x : TruthM × Int × Int) : AVal := .tup [x.1.v, ii' x.2.1, ii' x.2.2]
theorem showV_pure (x : TruthM × Int × Int) : (showV x).pure = true := by simp [showV, AVal.pure, pures, TruthM.pure]

theorem wet_range {e w : Int} (h : wetE e w = 0) : e = 0 ∧ 0 ≤ w ∧ w ≤ 1000 := by
  obtain ⟨h1, h2⟩ := wetE_zero h
  simp [beyondF, outF] at h2
  omega

theorem r05_Show_spec (h : HullM) (hl : h.ps.length ≤ maxLen) (w : Int) (σ : AHeap) : Spec Try.prog F_r05_Show [h.v, ii' w] σ fun r σ' => r = .ret (showV (showR h w)) ∧ σ' = σ := by
  refine Spec.pureFn (spec_r05_Show (by simp) (awpC_sound _ ?_)) (by simp [h.pure]) (showV_pure _) σ
  simp [C_r05_Show, HullM.v, HullM.cells]
  refine CallK.pureE B_r05_Check (r05_Check_spec h hl _) (show tripR (checkR h) = .tup [ii' (checkF h).1, ii' (checkF h).2.1, ii' (eF h)] by rw [← check_eq]; rfl) ?_
  simp
  refine CallK.pure B_r05_watered (r05_watered_spec _ _ _) ?_
  refine (Classical.em (wetE (eF h) w = 0)).elim (fun he => ?_) (fun he => ?_)
  rotate_left
  · simp [he, showR, showV, TruthM.v]
  have hb := wet_range he
  have hf := fine_of hb.1
  simp [he]
  refine CallK.pure B_r05_Smallest (r05_small_z hf w _) ?_
  simp [sumsV]
  refine CallK.pureE B_r05_Reason (r05_Reason_spec _ _ _ _) (congrArg ii' (whyS_z hf hb.2.1 hb.2.2)) ?_
  simp
  refine CallK.pure B_r05_Shown (r05_Shown_spec h hf.len.2 _ _) ?_
  simp [showR, showV, he, TruthM.v]

theorem stand_Show_spec (h : HullM) (hl : h.ps.length ≤ maxLen) (w : Int) (σ : AHeap) : Spec Try.prog F_stand_Show [h.v, ii' w] σ fun r σ' => r = .ret (showV (showR h w)) ∧ σ' = σ := by
  refine Spec.pureFn (spec_stand_Show (by simp) (awpC_sound _ ?_)) (by simp [h.pure]) (showV_pure _) σ
  simp [C_stand_Show, HullM.v, HullM.cells]
  refine CallK.pure B_stand_wet (stand_wet_spec h hl w _) ?_
  refine (Classical.em (wetE (eF h) w = 0)).elim (fun he => ?_) (fun he => ?_)
  rotate_left
  · simp [he, showR, showV, TruthM.v, HullM.v, HullM.cells]
  have hb := wet_range he
  have hf := fine_of hb.1
  simp [he, HullM.v, HullM.cells]
  refine CallK.pure B_stand_body_least (stand_least_spec h hl w _) ?_
  simp [sumsV]
  refine CallK.pureE B_stand_sums_why (stand_why_spec _ _ _ _) (congrArg ii' (whyS_z hf hb.2.1 hb.2.2)) ?_
  simp
  refine CallK.pure B_stand_body_levers (stand_levers_spec h _) ?_
  simp [leversV, HullM.v, HullM.cells]
  obtain ⟨k, hk2, hki, hkb⟩ : ∃ k : Nat, k ≤ 2 ∧ (if 0 < IntKind.i64.wrap (whyZ h w - 1) then IntKind.i64.wrap (whyZ h w - 1) else 0) = (k : Int) ∧ ∀ p ∈ h.ps, lightB h (whyZ h w) p = decide (¬ armF h k p < 0) := by
    have ha : ∀ p ∈ h.ps, ∀ k, armF h k p = armZ h k p := fun p hp k => (armF_eq hf (hf.part p hp) k).1
    rcases whyF_range (leastZ h w 0) (leastZ h w 1) (leastZ h w 2) with e | e | e | e <;> rw [show whyZ h w = _ from e]
    · exact ⟨0, by decide, by decide, fun p hp => by rw [ha p hp]; simp [lightB, armZ]⟩
    · exact ⟨0, by decide, by decide, fun p hp => by rw [ha p hp]; simp [lightB, armZ]⟩
    · exact ⟨1, by decide, by decide, fun p hp => by rw [ha p hp]; simp [lightB, armZ]⟩
    · exact ⟨2, by decide, by decide, fun p hp => by rw [ha p hp]; simp [lightB, armZ]⟩
  obtain ⟨g, caps, hpc, hcells, harm⟩ : ∃ (g : FuncId) (caps : List AVal), pures caps = true ∧ List.take 3 (List.drop ((k : Int).toNat * 3) [AVal.func (Fn.func 87) [] [], AVal.func (Fn.func 90) [] [], AVal.func (Fn.func 91) [] [],
      AVal.func (Fn.func 88) [] [(AVal.agg [AVal.slice 7 (List.map PartM.v h.ps), ii' h.aft, ii' h.fore]).pval], AVal.func (Fn.func 90) [] [], AVal.func (Fn.func 91) [] [],
      AVal.func (Fn.func 89) [] [(AVal.agg [AVal.slice 7 (List.map PartM.v h.ps), ii' h.aft, ii' h.fore]).pval], AVal.func (Fn.func 90) [] [], AVal.func (Fn.func 91) [] []]) = [.func (.func g) [] caps, .func (.func 90) [] [], .func (.func 91) [] []] ∧
      ∀ x : PartM, PureF Try.prog (.func (.func g) [] caps) [x.v] (ii' (armF h k x)) := by
    have hpu := h.pure
    simp only [HullM.v, HullM.cells] at hpu
    rcases (by omega : k = 0 ∨ k = 1 ∨ k = 2) with e | e | e <;> subst e
    · exact ⟨87, [], rfl, rfl, fun x => PureF.fn B_stand_body_levers_1 (fun σ => stand_levers_1_spec x σ)⟩
    · exact ⟨88, [.pval h.v], by simp [h.pure], rfl, fun x => PureF.fn B_stand_body_levers_2 (fun σ => stand_levers_2_spec x h σ)⟩
    · exact ⟨89, [.pval h.v], by simp [h.pure], rfl, fun x => PureF.fn B_stand_body_levers_3 (fun σ => stand_levers_3_spec x h σ)⟩
  simp only [hki, hcells]
  have hkk : (k : Int) < 3 := by omega
  have hk3 : k * 3 ≤ 6 := by omega
  have hmin : min 3 (9 - k * 3) = 3 := by omega
  have hl10 := hf.len.2
  simp [hkk, hk3, hmin]
  refine AW.loop (ι := Nat) (fun i fr σ => ∃ tl, fr = { v := [(4, .ptr 2 0), (5, ii' (whyZ h w)), (8, .pval (.agg [.func (.func g) [] caps, .func (.func 90) [] [], .func (.func 91) [] []])), (33, .slice 7 (h.ps.map PartM.v)), (34, .int .i64 h.ps.length), (35, .int .i64 i)], ds := [] } ∧
      σ = .spare 1 i :: .spare 1 i :: .box [.oslice 1 ((h.ps.take i).map (fun p => ii' (shownW h (whyZ h w) p))) 0 i, .oslice 1 ((h.ps.take i).map (fun p => ii' (shownL h (whyZ h w) p))) 1 i] :: tl ∧ i ≤ h.ps.length) (fun i => h.ps.length - i) 0 ⟨_, by simp, rfl, by omega⟩ ?_
  rintro i fr σ ⟨tl, rfl, rfl, hi⟩
  refine (Nat.lt_or_ge i h.ps.length).elim (fun hlt => ?_) (fun hge => ?_)
  · obtain ⟨x, hx⟩ : ∃ x, h.ps[i] = x := ⟨_, rfl⟩
    have hxm : x ∈ h.ps := hx ▸ List.getElem_mem hlt
    have hmin2 : min i h.ps.length = i := by omega
    have hfit : ∀ n : Int, Fits 1 [ii' n] := fun n v hv => by simp at hv; subst hv; exact ⟨⟨rfl, rfl⟩, rfl⟩
    have hw : IntKind.i64.wrap ((i : Int) + 1) = (i : Int) + 1 := wrap_id (by omega) (by omega)
    have hW : List.take i (List.map (fun p => ii' (shownW h (whyZ h w) p)) h.ps) ++ [ii' (shownW h (whyZ h w) x)] = List.take (i + 1) (List.map (fun p => ii' (shownW h (whyZ h w) p)) h.ps) := by rw [List.take_add_one]; simp [hlt, hx]
    have hL : List.take i (List.map (fun p => ii' (shownL h (whyZ h w) p)) h.ps) ++ [ii' (shownL h (whyZ h w) x)] = List.take (i + 1) (List.map (fun p => ii' (shownL h (whyZ h w) p)) h.ps) := by rw [List.take_add_one]; simp [hlt, hx]
    refine awpC_sound _ ?_
    simp [hlt, hx, PartM.v, PartM.cells]
    refine CallK.of (harm x _) ?_
    refine (Classical.em (armF h k x < 0)).elim (fun h4 => ?_) (fun h4 => ?_)
    · have e0 : lightB h (whyZ h w) x = false := by rw [hkb x hxm]; simp; omega
      have e1 : shownW h (whyZ h w) x = x.wHi := by simp [e0, shownW]
      have e2 : shownL h (whyZ h w) x = x.lLo := by simp [e0, shownL]
      simp [h4, hlt, hx, hw, hmin2, hfit, PartM.v, PartM.cells]
      rw [e1] at hW
      rw [e2] at hL
      exact ⟨by omega, i + 1, by omega, by omega, ⟨rfl, ⟨hW, rfl⟩, hL, rfl⟩, by omega⟩
    · have e0 : lightB h (whyZ h w) x = true := by rw [hkb x hxm]; simp; omega
      have e1 : shownW h (whyZ h w) x = x.wLo := by simp [e0, shownW]
      have e2 : shownL h (whyZ h w) x = x.lHi := by simp [e0, shownL]
      simp [h4, hlt, hx, hw, hmin2, hfit, PartM.v, PartM.cells]
      rw [e1] at hW
      rw [e2] at hL
      exact ⟨by omega, i + 1, by omega, by omega, ⟨rfl, ⟨hW, rfl⟩, hL, rfl⟩, by omega⟩
  · have hnl : ¬ i < h.ps.length := by omega
    refine awpC_sound _ ?_
    simp [hnl]
    rw [List.take_of_length_le (by simp; omega), List.take_of_length_le (by simp; omega)]
    simp [showR, he, showV, TruthM.v, shownT]
end Go.AM
