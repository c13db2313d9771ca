/- StandLess: narrower spans, farther ground; the call returns true. -/
import Derived.Test.YtmgbkmobhjjkiaaP9
import Derived.Test.YtmgbkmobhjjkiaaPA
namespace Go.AM
open Go.Proofs
set_option maxRecDepth 100000
set_option maxHeartbeats 1000000

def narLo (lo hi a : Int) : Int := lo + a % (hi - lo + 1)
def narHi (lo hi a b : Int) : Int := narLo lo hi a + b % (hi - narLo lo hi a + 1)
theorem nar_b {lo hi a b : Int} (_h0 : 0 ≤ lo) (h1 : lo ≤ hi) (_ha : 0 ≤ a) (_hb : 0 ≤ b) : lo ≤ narLo lo hi a ∧ narLo lo hi a ≤ narHi lo hi a b ∧ narHi lo hi a b ≤ hi := by
  unfold narHi
  have h3 : 0 ≤ a % (hi - lo + 1) := Int.emod_nonneg _ (by omega)
  have h4 : a % (hi - lo + 1) < hi - lo + 1 := Int.emod_lt_of_pos _ (by omega)
  have h5 : narLo lo hi a = lo + a % (hi - lo + 1) := rfl
  have h6 : 0 ≤ b % (hi - narLo lo hi a + 1) := Int.emod_nonneg _ (by omega)
  have h7 : b % (hi - narLo lo hi a + 1) < hi - narLo lo hi a + 1 := Int.emod_lt_of_pos _ (by omega)
  omega

theorem l05_narrow_spec (lo hi : Int) (l : List Int) (hl : Draws l) (n : Nat) (hn : n ≤ 100) (h0 : 0 ≤ lo) (h1 : lo ≤ hi) (h2 : hi ≤ 3000000) (σ : AHeap) :
    Spec Try.prog F_l05_narrow [.agg [ii' lo, ii' hi], .slice 1 (l.map uu), .int .i64 n] σ fun r σ' => r = .ret (.agg [ii' (narLo lo hi (turnF l n)), ii' (narHi lo hi (turnF l n) (turnF l (n + 1)))]) ∧ σ' = σ := by
  refine Spec.pureFn (spec_l05_narrow (by simp) (awpC_sound _ ?_)) (by simp [pures_map (f := uu) (fun _ => rfl) l]) rfl σ
  have hlu : pures (l.map uu) = true := pures_map (f := uu) (fun _ => rfl) l
  have t0 := turnF_b hl.2 n
  have t1 := turnF_b hl.2 (n + 1)
  have ham := amongF_b h0 h1 h2 t0.1 t0.2
  have hb := nar_b h0 h1 t0.1 t1.1
  have e0 : amongF lo hi (turnF l n) = narLo lo hi (turnF l n) := ham.2.2.2
  have hw : IntKind.i64.wrap ((n : Int) + 1) = ((n + 1 : Nat) : Int) := by rw [wrap_id (by omega) (by omega)]; simp
  obtain ⟨A, hA⟩ : ∃ A, narLo lo hi (turnF l n) = A := ⟨_, rfl⟩
  have eH : narHi lo hi (turnF l n) (turnF l (n + 1)) = A + turnF l (n + 1) % (hi - A + 1) := by unfold narHi; rw [hA]
  rw [eH] at hb ⊢
  rw [hA] at hb e0 ⊢
  have e1 : (turnF l (n + 1)).tmod (hi - A + 1) = turnF l (n + 1) % (hi - A + 1) := Int.tmod_eq_emod_of_nonneg t1.1
  have w1 : IntKind.i64.wrap (hi - A) = hi - A := wrap_id (by omega) (by omega)
  have w2 : IntKind.i64.wrap (hi - A + 1) = hi - A + 1 := wrap_id (by omega) (by omega)
  have w3 : IntKind.i64.wrap (A + turnF l (n + 1) % (hi - A + 1)) = A + turnF l (n + 1) % (hi - A + 1) := wrap_id (by omega) (by omega)
  have w4 : ¬ hi - A + 1 = 0 := by omega
  simp [C_l05_narrow, hlu]
  refine ⟨_, fun σ' _ => CallV.fn0 B_l05_turn (l05_turn_spec l hl.1 n (by simp only [maxLen]; omega) σ'), ?_⟩
  simp
  refine ⟨_, fun σ' => CallV.fn0 B_l05_among (l05_among_spec lo hi _ ham.1 σ'), ?_⟩
  simp [e0, hw]
  refine ⟨.int .i64 (turnF l (n + 1)), fun σ' _ => CallV.fn0 B_l05_turn (l05_turn_spec l hl.1 (n + 1) (by simp only [maxLen]; omega) σ'), ?_⟩
  simp [e1, w1, w2, w3, w4]
  refine ⟨_, fun σ' => CallV.fn0 B_l05_span (l05_span_spec _ _ σ'), ?_⟩
  simp

def fineP (l : List Int) (k : Nat) (p : PartM) : PartM :=
  { p with wLo := narLo p.wLo p.wHi (turnF l (4 * k)), wHi := narHi p.wLo p.wHi (turnF l (4 * k)) (turnF l (4 * k + 1)),
           lLo := narLo p.lLo p.lHi (turnF l (4 * k + 2)), lHi := narHi p.lLo p.lHi (turnF l (4 * k + 2)) (turnF l (4 * k + 2 + 1)) }
def fineH (h : HullM) (l : List Int) : HullM := { h with ps := h.ps.mapIdx (fineP l) }

theorem parts_pok {h : HullM} (he : eF h = 0) : ∀ p ∈ h.ps, POk p := fun p hp => by
  have h' := he
  unfold eF checkF at h'
  split at h'
  · cases h'
  · split at h'
    · cases h'
    · split at h'
      · cases h'
      · exact partE_iff.1 (parts_ok _ _ _ h' p hp)

theorem fineP_b {l : List Int} (hl : Draws l) {p : PartM} (hp : POk p) (k : Nat) : POk (fineP l k p) ∧ (p.wLo ≤ (fineP l k p).wLo ∧ (fineP l k p).wHi ≤ p.wHi) ∧ p.lLo ≤ (fineP l k p).lLo ∧ (fineP l k p).lHi ≤ p.lHi := by
  have b1 := nar_b hp.w.1 hp.w.2.1 (turnF_b hl.2 (4 * k)).1 (turnF_b hl.2 (4 * k + 1)).1
  have b2 := nar_b hp.l.1 hp.l.2.1 (turnF_b hl.2 (4 * k + 2)).1 (turnF_b hl.2 (4 * k + 2 + 1)).1
  have h1 := hp.w; have h2 := hp.l
  exact ⟨⟨hp.at_, hp.keel, by simp only [fineP]; omega, by simp only [fineP]; omega⟩, by simp only [fineP]; omega, by simp only [fineP]; omega⟩

theorem fineH_valid {h : HullM} (he : eF h = 0) {l : List Int} (hl : Draws l) : eF (fineH h l) = 0 := by
  have hf := fine_of he
  have h2 := hf.lt
  refine valid_of he ?_ (fun p hp => ?_) hf.aft h2 hf.fore
  · refine List.ext_getElem? fun i => ?_
    simp only [fineH, List.getElem?_map, List.getElem?_mapIdx, Option.map_map]
    rfl
  · simp only [fineH] at hp
    obtain ⟨i, hi, rfl⟩ := List.mem_iff_getElem.1 hp
    rw [List.getElem_mapIdx]
    exact (fineP_b hl (parts_pok he _ (List.getElem_mem _)) i).1

theorem sumI_mapIdx (g : Nat → PartM → PartM) {f : PartM → Nat → Int} (l : List PartM) : ∀ (m k : Nat), sumI f k (l.mapIdx fun i => g (i + m)) = sumI (fun p j => f (g (j - k + m) p) j) k l := by
  induction l with
  | nil => intro m k; rfl
  | cons p r ih =>
    intro m k
    simp only [List.mapIdx_cons, sumI]
    have e : (r.mapIdx fun i => g (i + 1 + m)) = r.mapIdx fun i => g (i + (m + 1)) := by congr 1; funext i; rw [Nat.add_assoc, Nat.add_comm 1]
    rw [e, ih (m + 1) (k + 1)]
    simp only [Nat.sub_self, Nat.zero_add]
    congr 1
    refine sumI_congr _ _ fun i hi => ?_
    congr 2
    omega

theorem fine_least {h : HullM} (he : eF h = 0) {l : List Int} (hl : Draws l) {w : Int} (hw : w ≤ 1000) (j : Nat) : leastZ h w j ≤ leastZ (fineH h l) w j := by
  have hf := fine_of he
  unfold leastZ
  have := sumI_mapIdx (fineP l) (f := fun p _ => termZ (fineH h l) w j p) h.ps 0 0
  simp only [Nat.add_zero] at this
  rw [show (fineH h l).ps = h.ps.mapIdx fun i => fineP l i from rfl, this]
  refine sumI_le _ _ fun i hi => ?_
  have hp := parts_pok he _ (List.getElem_mem hi)
  have hb := fineP_b hl hp (0 + i - 0)
  have ho := (ovZ_b hw hp.keel.1).1
  obtain ⟨q1, q2, q3⟩ := hb
  obtain ⟨n, hn⟩ : ∃ n, 0 + i - 0 = n := ⟨_, rfl⟩
  rw [hn] at q1 q2 q3 ⊢
  show termZ h w j h.ps[i] ≤ if armZ h j h.ps[i] < 0 then armZ h j h.ps[i] * ((fineP l n h.ps[i]).wHi - (fineP l n h.ps[i]).lLo * ovZ w h.ps[i].keel) else armZ h j h.ps[i] * ((fineP l n h.ps[i]).wLo - (fineP l n h.ps[i]).lHi * ovZ w h.ps[i].keel)
  have r1 := q1.w; have r2 := q1.l
  split
  · exact termZ_le j ⟨by omega, by omega⟩ ⟨by omega, by omega⟩ ho
  · exact termZ_le j ⟨by omega, by omega⟩ ⟨by omega, by omega⟩ ho

/-! ### Farther ground -/
def wideH (h : HullM) (a f : Int) : HullM := { h with aft := a, fore := f }
theorem wideH_valid {h : HullM} (he : eF h = 0) {a f : Int} (h0 : 0 ≤ a) (h1 : a ≤ h.aft) (h2 : h.fore ≤ f) (h3 : f ≤ 5000) : eF (wideH h a f) = 0 :=
  valid_of he rfl (h' := wideH h a f) (fun p hp => parts_pok he p hp) h0 (by have := (fine_of he).lt; simp only [wideH]; omega) h3

theorem sumI_lin {f g e : PartM → Nat → Int} (L : Int) : ∀ (l : List PartM) (k : Nat), (∀ p k, f p k = g p k + L * e p k) → sumI f k l = sumI g k l + L * sumI e k l
  | [], _, _ => by simp [sumI]
  | p :: r, k, h => by
    simp only [sumI, h p k, sumI_lin L r (k + 1) h, Int.mul_add]
    omega

theorem wide_in (h : HullM) (a f : Int) (t : TruthM) (w : Int) : inZ (wideH h a f) t w 0 = inZ h t w 0 ∧ inZ (wideH h a f) t w 1 = inZ h t w 1 + (h.aft - a) * inZ h t w 0 ∧ inZ (wideH h a f) t w 2 = inZ h t w 2 + (f - h.fore) * inZ h t w 0 := by
  refine ⟨rfl, ?_, ?_⟩
  · refine sumI_lin _ _ _ fun p k => ?_
    generalize (t.ws[k]?.getD 0) - (t.ls[k]?.getD 0) * ovZ w p.keel = x
    simp [armZ, wideH, Int.sub_mul]
    omega
  · refine sumI_lin _ _ _ fun p k => ?_
    generalize (t.ws[k]?.getD 0) - (t.ls[k]?.getD 0) * ovZ w p.keel = x
    simp [armZ, wideH, Int.sub_mul]
    omega

theorem wide_true {h : HullM} {a f : Int} {t : TruthM} (ht : TrueOf (wideH h a f) t) : TrueOf h t := ⟨ht.lw, ht.ll, ht.w, ht.l⟩

theorem wide_why {h : HullM} (he : eF h = 0) {a f : Int} (h0 : 0 ≤ a) (h1 : a ≤ h.aft) (h2 : h.fore ≤ f) (h3 : f ≤ 5000) {w : Int} (w0 : 0 ≤ w) (w1 : w ≤ 1000) (hz : whyZ h w = 0) : whyZ (wideH h a f) w = 0 := by
  have hf := fine_of he
  have hfw := fine_of (wideH_valid he h0 h1 h2 h3)
  obtain ⟨e1, e2, e3⟩ := shown_least hfw w0 w1
  unfold whyZ at *
  rw [whyF_zero] at *
  rw [← e1, ← e2, ← e3]
  have k := fun y => wide_in h a f (shownT (wideH h a f) y) w
  have l := fun y j => least_le_in hf (wide_true (shown_true hfw y)) w1 j
  rw [(k 1).1, (k 2).2.1, (k 3).2.2]
  have a0 := l 1 0; have b0 := l 2 0; have b1 := l 2 1; have c0 := l 3 0; have c2 := l 3 2
  have m1 : 0 ≤ (h.aft - a) * inZ h (shownT (wideH h a f) 2) w 0 := Int.mul_nonneg (by omega) (by omega)
  have m2 : 0 ≤ (f - h.fore) * inZ h (shownT (wideH h a f) 3) w 0 := Int.mul_nonneg (by omega) (by omega)
  omega

theorem less_spec (h : HullM) (hl : h.ps.length ≤ maxLen) (x : WetM) (y : List Int) (hy : Draws y) (awake_spec : ∀ σ, Spec Try.prog F_l05_Awake [] σ fun r σ' => r = .ret (.bool true) ∧ σ' = σ) :
    Spec Try.prog F_l05_StandLess [h.v, x.v, .slice 1 (y.map uu)] [] fun r _ => r = .ret (.bool true) := by
  have hpu : pures (h.ps.map PartM.v) = true := pures_map (f := PartM.v) (fun _ => rfl) h.ps
  have hyu : pures (y.map uu) = true := pures_map (f := uu) (fun _ => rfl) y
  by_cases he : eF h = 0
  rotate_left
  · refine spec_l05_StandLess (by simp) (awpC_sound _ ?_)
    simp [C_l05_StandLess, HullM.v, HullM.cells, WetM.v]
    refine CallK.pure B_l05_valid (l05_valid_no hl he _) ?_
    simp
    exact CallK.pure B_l05_Awake (awake_spec _) (by simp)
  have hf := fine_of he
  have hft := fineH_valid he hy
  have ht := tide_b x.ha.1 x.hb.1
  obtain ⟨lo, hlo⟩ : ∃ lo, tlo x.a = lo := ⟨_, rfl⟩
  obtain ⟨hi, hhi⟩ : ∃ hi, thi x.a x.b = hi := ⟨_, rfl⟩
  rw [hlo, hhi] at ht
  have hwx : IntKind.i64.wrap x.w = x.w := wrap_id (by have := x.hw; omega) (by have := x.hw; omega)
  obtain ⟨w, hw⟩ : ∃ w, x.w.tmod 1001 = w := ⟨_, rfl⟩
  have hw' := hw
  rw [Int.tmod_eq_emod_of_nonneg x.hw.1] at hw'
  have w0 : 0 ≤ w := by rw [← hw']; exact Int.emod_nonneg _ (by decide)
  have w1 : w ≤ 1000 := by have : x.w % 1001 < 1001 := Int.emod_lt_of_pos _ (by decide); omega
  have f1 := hf.aft; have f2 := hf.lt; have f3 := hf.fore
  have hL := fun σ => stand_Least_at he w0 w1 σ
  have hLT := fun σ => stand_Least_at hft w0 w1 σ
  have le0 := fine_least he hy w1 0
  have le1 := fine_least he hy w1 1
  have le2 := fine_least he hy w1 2
  obtain ⟨L0, h0⟩ : ∃ L, leastZ h w 0 = L := ⟨_, rfl⟩
  obtain ⟨L1, h1⟩ : ∃ L, leastZ h w 1 = L := ⟨_, rfl⟩
  obtain ⟨L2, h2⟩ : ∃ L, leastZ h w 2 = L := ⟨_, rfl⟩
  obtain ⟨M0, k0⟩ : ∃ L, leastZ (fineH h y) w 0 = L := ⟨_, rfl⟩
  obtain ⟨M1, k1⟩ : ∃ L, leastZ (fineH h y) w 1 = L := ⟨_, rfl⟩
  obtain ⟨M2, k2⟩ : ∃ L, leastZ (fineH h y) w 2 = L := ⟨_, rfl⟩
  simp only [h0, h1, h2] at hL
  simp only [k0, k1, k2] at hLT
  rw [h0, k0] at le0
  rw [h1, k1] at le1
  rw [h2, k2] at le2
  have t0 := turnF_b hy.2 0
  have t1 := turnF_b hy.2 1
  obtain ⟨a, ha⟩ : ∃ a, h.aft - turnF y 0 % (h.aft + 1) = a := ⟨_, rfl⟩
  obtain ⟨f, hfo⟩ : ∃ f, h.fore + turnF y 1 % (5000 - h.fore + 1) = f := ⟨_, rfl⟩
  have k1 : 0 ≤ turnF y 0 % (h.aft + 1) := Int.emod_nonneg _ (by omega)
  have k2 : turnF y 0 % (h.aft + 1) < h.aft + 1 := Int.emod_lt_of_pos _ (by omega)
  have k3 : 0 ≤ turnF y 1 % (5000 - h.fore + 1) := Int.emod_nonneg _ (by omega)
  have k4 : turnF y 1 % (5000 - h.fore + 1) < 5000 - h.fore + 1 := Int.emod_lt_of_pos _ (by omega)
  have m1 : (turnF y 0).tmod (h.aft + 1) = turnF y 0 % (h.aft + 1) := Int.tmod_eq_emod_of_nonneg t0.1
  have m2 : (turnF y 1).tmod (5000 - h.fore + 1) = turnF y 1 % (5000 - h.fore + 1) := Int.tmod_eq_emod_of_nonneg t1.1
  have w3 : IntKind.i64.wrap (h.aft + 1) = h.aft + 1 := wrap_id (by omega) (by omega)
  have w4 : IntKind.i64.wrap (5000 - h.fore) = 5000 - h.fore := wrap_id (by omega) (by omega)
  have w5 : IntKind.i64.wrap (5000 - h.fore + 1) = 5000 - h.fore + 1 := wrap_id (by omega) (by omega)
  have w6 : IntKind.i64.wrap a = a := wrap_id (by omega) (by omega)
  have w7 : IntKind.i64.wrap f = f := wrap_id (by omega) (by omega)
  have z1 : ¬ h.aft + 1 = 0 := by omega
  have z2 : ¬ 5000 - h.fore + 1 = 0 := by omega
  obtain ⟨A, B, C, D, hA, hC, hAC⟩ : ∃ A B C D, whyR h lo hi = (A, B, 0) ∧ whyR (wideH h a f) lo hi = (C, D, 0) ∧ (A = 0 → C = 0) := by
    have hvw := wideH_valid he (a := a) (f := f) (by omega) (by omega) (by omega) (by omega)
    rcases why_cases he ht with ⟨e1, hall⟩ | ⟨v0, _, _, r1, _, _, e1⟩
    · rcases why_cases hvw ht with ⟨e2, _⟩ | ⟨v1, q1, q2, r1, _, _, _⟩
      · exact ⟨_, _, _, _, e1, e2, fun _ => rfl⟩
      · have := wide_why he (a := a) (f := f) (by omega) (by omega) (by omega) (by omega) (w := v1) (by omega) (by omega) (hall v1 q1 q2)
        omega
    · rcases why_cases hvw ht with ⟨e2, _⟩ | ⟨v1, _, _, _, _, _, e2⟩
      · exact ⟨_, _, _, _, e1, e2, fun _ => rfl⟩
      · exact ⟨_, _, _, _, e1, e2, fun h0 => by omega⟩
  have hW2 : ∀ σ, Spec Try.prog F_stand_Why [AVal.agg [AVal.slice 7 (List.map PartM.v h.ps), ii' a, ii' f], AVal.agg [ii' lo, ii' hi]] σ fun r σ' => r = .ret (.tup [ii' C, ii' D, ii' 0]) ∧ σ' = σ := fun σ => stand_Why_at (h := wideH h a f) hl hC σ
  refine spec_l05_StandLess (by simp) (awpC_sound _ ?_)
  simp [C_l05_StandLess, HullM.v, HullM.cells, WetM.v]
  refine CallK.pure B_l05_valid (l05_valid_yes hl he _) ?_
  simp [hwx, hw]
  refine ⟨_, fun σ' => CallV.fn0 B_l05_Tide (l05_Tide_at x hlo hhi σ'), ?_⟩
  simp
  have hl10 := hf.len.2
  have hpok := parts_pok he
  refine AW.loop (ι := Nat) (fun i fr σ => ∃ tl, fr = { v := [(2, .slice 1 (y.map uu)), (3, .pval (.agg [.slice 7 (h.ps.map PartM.v), ii' h.aft, ii' h.fore])), (7, ii' w), (8, .ptr 0 0), (9, .ptr 1 0), (10, .int .i64 i)], ds := [] } ∧
      σ = .box [ii' lo, ii' hi] :: .box [.oslice 7 (((fineH h y).ps.take i).map PartM.v) 2 i, ii' h.aft, ii' h.fore] :: .spare 7 i :: tl ∧ i ≤ h.ps.length) (fun i => h.ps.length - i) 0 ⟨[], by simp, by simp, by omega⟩ ?_
  rintro i fr σ ⟨tl, rfl, rfl, hi'⟩
  have hfl : (fineH h y).ps.length = h.ps.length := by simp [fineH]
  refine (Nat.lt_or_ge i h.ps.length).elim (fun hlt => ?_) (fun hge => ?_)
  · obtain ⟨p, hp⟩ : ∃ p, h.ps[i] = p := ⟨_, rfl⟩
    have hpf : POk p := hp ▸ hpok _ (List.getElem_mem hlt)
    have hwi : IntKind.i64.wrap ((i : Int) + 1) = (i : Int) + 1 := wrap_id (by omega) (by omega)
    have hw4 : IntKind.i64.wrap (4 * (i : Int)) = ((4 * i : Nat) : Int) := by rw [wrap_id (by omega) (by omega)]; simp
    have hw5 : IntKind.i64.wrap (((4 * i : Nat) : Int) + 2) = ((4 * i + 2 : Nat) : Int) := by rw [wrap_id (by omega) (by omega)]; simp
    have hg : (fineH h y).ps[i]? = some (fineP y i p) := by simp [fineH, hlt, hp]
    obtain ⟨q, hq⟩ : ∃ q, fineP y i p = q := ⟨_, rfl⟩
    have hfit : Fits 7 [AVal.agg [.str p.name, ii' p.at_, ii' q.wLo, ii' q.wHi, ii' p.keel, ii' q.lLo, ii' q.lHi]] := by intro v hv; simp at hv; subst hv; exact ⟨rfl, rfl⟩
    have hmin : min i (fineH h y).ps.length = i := by omega
    have htk : List.take i ((fineH h y).ps.map PartM.v) ++ [AVal.agg [.str p.name, ii' p.at_, ii' q.wLo, ii' q.wHi, ii' p.keel, ii' q.lLo, ii' q.lHi]] = List.take (i + 1) ((fineH h y).ps.map PartM.v) := by
      rw [List.take_add_one]
      simp [hg, PartM.v, PartM.cells, ← hq, fineP]
    have hN1 := fun σ => l05_narrow_spec p.wLo p.wHi y hy (4 * i) (by omega) hpf.w.1 hpf.w.2.1 (by have := hpf.w; omega) σ
    have hN2 := fun σ => l05_narrow_spec p.lLo p.lHi y hy (4 * i + 2) (by omega) hpf.l.1 hpf.l.2.1 (by have := hpf.l; omega) σ
    have e1 : narLo p.wLo p.wHi (turnF y (4 * i)) = q.wLo := by rw [← hq]; rfl
    have e2 : narHi p.wLo p.wHi (turnF y (4 * i)) (turnF y (4 * i + 1)) = q.wHi := by rw [← hq]; rfl
    have e3 : narLo p.lLo p.lHi (turnF y (4 * i + 2)) = q.lLo := by rw [← hq]; rfl
    have e4 : narHi p.lLo p.lHi (turnF y (4 * i + 2)) (turnF y (4 * i + 2 + 1)) = q.lHi := by rw [← hq]; rfl
    rw [e1, e2] at hN1
    rw [e3, e4] at hN2
    refine awpC_sound _ ?_
    simp [hlt, hp, hyu, PartM.v, PartM.cells]
    refine ⟨.agg [ii' q.wLo, ii' q.wHi], fun σ' _ => by rw [hw4]; exact CallV.fn0 B_l05_narrow (hN1 σ'), .agg [ii' q.lLo, ii' q.lHi], fun σ' _ => by rw [hw4, hw5]; exact CallV.fn0 B_l05_narrow (hN2 σ'), ?_⟩
    simp [hfit, hmin, hwi]
    exact ⟨by omega, i + 1, by omega, by simp, ⟨htk, rfl⟩, by omega⟩
  · have hnl : ¬ i < h.ps.length := by omega
    refine awpC_sound _ ?_
    simp [hnl]
    refine CallK.pure B_stand_Least (hL _) ?_
    simp
    have hv : (fineH h y).v = AVal.agg [AVal.slice 7 (List.take i (List.map PartM.v (fineH h y).ps)), ii' h.aft, ii' h.fore] := by
      rw [List.take_of_length_le (by simp; omega)]; rfl
    rw [hv] at hLT
    refine CallK.pure B_stand_Least (hLT _) ?_
    have c0 : ¬ M0 < L0 := by omega
    have c1 : ¬ M1 < L1 := by omega
    have c2 : ¬ M2 < L2 := by omega
    simp [c0, c1, c2, hyu, w3, w4, w5]
    refine ⟨.int .i64 (turnF y 0), fun σ' _ => CallV.fn0 B_l05_turn (l05_turn_spec y hy.1 0 (by simp [maxLen]) σ'), ?_⟩
    simp [m1, z1, ha, w6]
    refine ⟨.int .i64 (turnF y 1), fun σ' _ => CallV.fn0 B_l05_turn (l05_turn_spec y hy.1 1 (by simp [maxLen]) σ'), ?_⟩
    simp [m2, z2, hfo, w7]
    refine CallK.pure B_stand_Why (stand_Why_at hl hA _) ?_
    simp
    refine CallK.pure B_stand_Why (hW2 _) ?_
    refine (Classical.em (A = 0)).elim (fun hz => ?_) (fun hz => ?_)
    · simp [hz, hAC hz]
      exact CallK.pure B_l05_Awake (awake_spec _) (by simp [hz, hAC hz])
    · simp [hz]
      exact CallK.pure B_l05_Awake (awake_spec _) (by simp [hz])
end Go.AM
