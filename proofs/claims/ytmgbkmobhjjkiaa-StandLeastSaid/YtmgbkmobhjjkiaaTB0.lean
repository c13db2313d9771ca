/- StandLeast: the call returns true. -/
import Derived.Test.YtmgbkmobhjjkiaaP9
import Derived.Test.YtmgbkmobhjjkiaaPA
namespace Go.AM
open Go.Proofs
set_option maxRecDepth 100000
set_option maxHeartbeats 2000000

/-- The least of the four ends of a part. -/
theorem four_ends {h : HullM} {p : PartM} (hp : POk p) {w : Int} (hw : w ≤ 1000) (j : Nat) {p0 p1 p2 p3 n0 n1 n2 n3 m1 m2 : Int}
    (e0 : p.wLo - p.lLo * ovZ w p.keel = p0) (e1 : p.wHi - p.lLo * ovZ w p.keel = p1) (e2 : p.wLo - p.lHi * ovZ w p.keel = p2) (e3 : p.wHi - p.lHi * ovZ w p.keel = p3)
    (g0 : p0 * armZ h j p = n0) (g1 : p1 * armZ h j p = n1) (g2 : p2 * armZ h j p = n2) (g3 : p3 * armZ h j p = n3)
    (k1 : (if n1 < n0 then n1 else n0) = m1) (k2 : (if n2 < m1 then n2 else m1) = m2) : (if n3 < m2 then n3 else m2) = termZ h w j p := by
  have ho := ovZ_b hw hp.keel.1
  have hm : p.lLo * ovZ w p.keel ≤ p.lHi * ovZ w p.keel := Int.mul_le_mul_of_nonneg_right hp.l.2.1 ho.1
  have hwl := hp.w
  unfold termZ
  rw [e1, e2, Int.mul_comm _ p1, Int.mul_comm _ p2, g1, g2]
  by_cases hn : armZ h j p < 0
  · rw [if_pos hn]
    have a0 : p1 * armZ h j p ≤ p0 * armZ h j p := Int.mul_le_mul_of_nonpos_right (by omega) (by omega)
    have a2 : p1 * armZ h j p ≤ p2 * armZ h j p := Int.mul_le_mul_of_nonpos_right (by omega) (by omega)
    have a3 : p1 * armZ h j p ≤ p3 * armZ h j p := Int.mul_le_mul_of_nonpos_right (by omega) (by omega)
    rw [g1, g0] at a0
    rw [g1, g2] at a2
    rw [g1, g3] at a3
    subst k1 k2
    split <;> split <;> omega
  · rw [if_neg hn]
    have a0 : p2 * armZ h j p ≤ p0 * armZ h j p := Int.mul_le_mul_of_nonneg_right (by omega) (by omega)
    have a1 : p2 * armZ h j p ≤ p1 * armZ h j p := Int.mul_le_mul_of_nonneg_right (by omega) (by omega)
    have a3 : p2 * armZ h j p ≤ p3 * armZ h j p := Int.mul_le_mul_of_nonneg_right (by omega) (by omega)
    rw [g2, g0] at a0
    rw [g2, g1] at a1
    rw [g2, g3] at a3
    subst k1 k2
    split <;> split <;> omega

theorem least_spec (h : HullM) (hl : h.ps.length ≤ maxLen) (x : WetM) (awake_spec : ∀ σ, Spec Try.prog F_l05_Awake [] σ fun r σ' => r = .ret (.bool true) ∧ σ' = σ) :
    Spec Try.prog F_l05_StandLeast [h.v, x.v] [] fun r _ => r = .ret (.bool true) := by
  have hpu : pures (h.ps.map PartM.v) = true := pures_map (f := PartM.v) (fun _ => rfl) h.ps
  have hlu : pures (x.l.map uu) = true := pures_map (f := uu) (fun _ => rfl) x.l
  have hp2 : ∀ l : List Int, pures (l.map ii') = true := pures_map (f := ii') (fun _ => rfl)
  have hwx : IntKind.i64.wrap x.w = x.w := wrap_id (by have := x.hw; omega) (by have := x.hw; omega)
  obtain ⟨w, hw⟩ : ∃ w, x.w.tmod 1001 = w := ⟨_, rfl⟩
  have hw' := hw
  rw [Int.tmod_eq_emod_of_nonneg x.hw.1] at hw'
  have w0 : 0 ≤ w := by rw [← hw']; exact Int.emod_nonneg _ (by decide)
  have w1 : w ≤ 1000 := by have : x.w % 1001 < 1001 := Int.emod_lt_of_pos _ (by decide); omega
  by_cases he : eF h = 0
  rotate_left
  · have hs := fun σ => stand_Least_spec h hl w σ
    have hwe : wetE (eF h) w = eF h := by simp [wetE, he]
    rw [hwe, if_neg he] at hs
    refine spec_l05_StandLeast (by simp) (awpC_sound _ ?_)
    simp [C_l05_StandLeast, HullM.v, HullM.cells, WetM.v, hwx, hw]
    refine CallK.pure B_stand_Least (hs _) ?_
    simp [sumsV]
    refine CallK.pure B_l05_valid (l05_valid_no hl he _) ?_
    simp [he]
    exact CallK.pure B_l05_Awake (awake_spec _) (by simp [he])
  have hf := fine_of he
  have ht := anyT_true hf x.hl.2
  have hpok : ∀ p ∈ h.ps, POk p := fun p hp => by
    have h' := he
    unfold eF checkF at h'
    split at h'
    · cases h'
    · split at h'
      · cases h'
      · split at h'
        · cases h'
        · exact partE_iff.1 (parts_ok _ _ _ h' p hp)
  have hL := fun σ => stand_Least_at he w0 w1 σ
  have hB := fun σ => stand_Balance_at he ht w0 w1 σ
  have l0 := least_le_in hf ht w1 0
  have l1 := least_le_in hf ht w1 1
  have l2 := least_le_in hf ht w1 2
  obtain ⟨L0, hL0⟩ : ∃ L, leastZ h w 0 = L := ⟨_, rfl⟩
  obtain ⟨L1, hL1⟩ : ∃ L, leastZ h w 1 = L := ⟨_, rfl⟩
  obtain ⟨L2, hL2⟩ : ∃ L, leastZ h w 2 = L := ⟨_, rfl⟩
  obtain ⟨S0, hS0⟩ : ∃ L, inZ h (anyT h x.l) w 0 = L := ⟨_, rfl⟩
  obtain ⟨S1, hS1⟩ : ∃ L, inZ h (anyT h x.l) w 1 = L := ⟨_, rfl⟩
  obtain ⟨S2, hS2⟩ : ∃ L, inZ h (anyT h x.l) w 2 = L := ⟨_, rfl⟩
  simp only [hL0, hL1, hL2] at hL
  simp only [hS0, hS1, hS2] at hB
  rw [hL0, hS0] at l0
  rw [hL1, hS1] at l1
  rw [hL2, hS2] at l2
  have c0 : ¬ S0 < L0 := by omega
  have c1 : ¬ S1 < L1 := by omega
  have c2 : ¬ S2 < L2 := by omega
  have hl10 := hf.len.2
  have z0 : IntKind.i64.wrap 0 = 0 := by decide
  have z1 : IntKind.i64.wrap 1 = 1 := by decide
  have z2 : IntKind.i64.wrap 2 = 2 := by decide
  have z3 : IntKind.i64.wrap 3 = 3 := by decide
  have z4 : IntKind.i64.wrap 4 = 4 := by decide
  refine spec_l05_StandLeast (by simp) (awpC_sound _ ?_)
  simp [C_l05_StandLeast, HullM.v, HullM.cells, WetM.v, hwx, hw]
  refine CallK.pure B_stand_Least (hL _) ?_
  simp
  refine CallK.pure B_l05_valid (l05_valid_yes hl he _) ?_
  simp [hpu, hlu, hwx, hw]
  refine ⟨_, fun σ' _ => CallV.fn0 B_l05_Truth (l05_Truth_spec h hf x.l x.hl.1 x.hl.2 σ'), ?_⟩
  simp [TruthM.v]
  refine ⟨_, fun σ' _ => CallV.fn0 B_stand_Balance (hB σ'), ?_⟩
  simp [c0, c1, c2]
  refine AW.loop (ι := Nat) (fun j fr _ => fr = { v := [(2, (AVal.agg [AVal.slice 7 (List.map PartM.v h.ps), ii' h.aft, ii' h.fore]).pval), (5, ii' w), (6, (AVal.agg [ii' L0, ii' L1, ii' L2]).pval), (10, .int .i64 j)], ds := [] } ∧ j ≤ 3) (fun j => 3 - j) 0 ⟨by simp, by omega⟩ ?_
  rintro j fr σ ⟨rfl, hj⟩
  have hj4 : j = 0 ∨ j = 1 ∨ j = 2 ∨ j = 3 := by omega
  refine hj4.elim (fun e => ?_) (fun hj4 => hj4.elim (fun e => ?_) (fun hj4 => hj4.elim (fun e => ?_) (fun e => ?_)))
  · subst e
    refine awpC_sound _ ?_
    simp
    refine AW.loop (ι := Nat) (fun i fr _ => ∃ acc : Int, fr = { v := [(2, (AVal.agg [AVal.slice 7 (List.map PartM.v h.ps), ii' h.aft, ii' h.fore]).pval), (5, ii' w), (6, (AVal.agg [ii' L0, ii' L1, ii' L2]).pval), (10, .int .i64 0), (11, ii' acc), (12, .int .i64 i)], ds := [] } ∧ i ≤ h.ps.length ∧
      -(400000000000 * (i : Int)) ≤ acc ∧ acc ≤ 400000000000 * (i : Int) ∧ acc + sumI (fun p _ => termZ h w 0 p) i (h.ps.drop i) = L0) (fun i => h.ps.length - i) 0 ⟨0, by simp, by omega, by simp, by simp, by rw [← hL0]; simp [leastZ]⟩ ?_
    rintro i fr σ ⟨acc, rfl, hi, ha1, ha2, hsum⟩
    refine (Nat.lt_or_ge i h.ps.length).elim (fun hlt => ?_) (fun hge => ?_)
    · obtain ⟨x, hx⟩ : ∃ x, h.ps[i] = x := ⟨_, rfl⟩
      have hxk : POk x := hx ▸ hpok _ (List.getElem_mem hlt)
      have hd : h.ps.drop i = x :: h.ps.drop (i + 1) := by rw [List.drop_eq_getElem_cons hlt, hx]
      rw [hd] at hsum
      simp only [sumI] at hsum
      have hterm := (leastT_z hf hxk.fine w0 w1 0 0).2
      have hwi : IntKind.i64.wrap ((i : Int) + 1) = (i : Int) + 1 := wrap_id (by omega) (by omega)
      obtain ⟨o, ho⟩ : ∃ o, ovZ w x.keel = o := ⟨_, rfl⟩
      have hob := ovZ_b w1 hxk.keel.1
      rw [ho] at hob
      have hxk1 := hxk.at_
      have hxk2 := hxk.keel
      have hxk3 := hxk.w
      have hxk4 := hxk.l
      have f1 := hf.aft
      have f2 := hf.lt
      have f3 := hf.fore
      have wk : IntKind.i64.wrap (w - x.keel) = w - x.keel := wrap_id (by omega) (by omega)
      have hov : (if x.keel < w then w - x.keel else 0) = o := by rw [← ho]; unfold ovZ; split <;> split <;> omega
      have mq0 := mul_b (a := x.lLo) (b := o) (A := 5000) (B := 1000) (by omega) (by omega) (by omega) (by omega)
      have mq1 := mul_b (a := x.lHi) (b := o) (A := 5000) (B := 1000) (by omega) (by omega) (by omega) (by omega)
      have wq0 : IntKind.i64.wrap (x.lLo * o) = x.lLo * o := wrap_id (by omega) (by omega)
      have wq1 : IntKind.i64.wrap (x.lHi * o) = x.lHi * o := wrap_id (by omega) (by omega)
      obtain ⟨p0, hp0⟩ : ∃ p, x.wLo - x.lLo * o = p := ⟨_, rfl⟩
      obtain ⟨p1, hp1⟩ : ∃ p, x.wHi - x.lLo * o = p := ⟨_, rfl⟩
      obtain ⟨p2, hp2'⟩ : ∃ p, x.wLo - x.lHi * o = p := ⟨_, rfl⟩
      obtain ⟨p3, hp3⟩ : ∃ p, x.wHi - x.lHi * o = p := ⟨_, rfl⟩
      have vp0 : IntKind.i64.wrap p0 = p0 := wrap_id (by omega) (by omega)
      have vp1 : IntKind.i64.wrap p1 = p1 := wrap_id (by omega) (by omega)
      have vp2 : IntKind.i64.wrap p2 = p2 := wrap_id (by omega) (by omega)
      have vp3 : IntKind.i64.wrap p3 = p3 := wrap_id (by omega) (by omega)
      obtain ⟨ar, har⟩ : ∃ a, armZ h 0 x = a := ⟨_, rfl⟩
      have harb := (armF_eq hf hxk.fine 0).2
      rw [har] at harb
      obtain ⟨n0, hn0⟩ : ∃ n, p0 * ar = n := ⟨_, rfl⟩
      obtain ⟨n1, hn1⟩ : ∃ n, p1 * ar = n := ⟨_, rfl⟩
      obtain ⟨n2, hn2⟩ : ∃ n, p2 * ar = n := ⟨_, rfl⟩
      obtain ⟨n3, hn3⟩ : ∃ n, p3 * ar = n := ⟨_, rfl⟩
      have mn0 := mul_b (a := p0) (b := ar) (A := 8000000) (B := 5000) (by omega) (by omega) (by omega) (by omega)
      have mn1 := mul_b (a := p1) (b := ar) (A := 8000000) (B := 5000) (by omega) (by omega) (by omega) (by omega)
      have mn2 := mul_b (a := p2) (b := ar) (A := 8000000) (B := 5000) (by omega) (by omega) (by omega) (by omega)
      have mn3 := mul_b (a := p3) (b := ar) (A := 8000000) (B := 5000) (by omega) (by omega) (by omega) (by omega)
      have vn0 : IntKind.i64.wrap n0 = n0 := wrap_id (by omega) (by omega)
      have vn1 : IntKind.i64.wrap n1 = n1 := wrap_id (by omega) (by omega)
      have vn2 : IntKind.i64.wrap n2 = n2 := wrap_id (by omega) (by omega)
      have vn3 : IntKind.i64.wrap n3 = n3 := wrap_id (by omega) (by omega)
      obtain ⟨m1, hm1⟩ : ∃ m, (if n1 < n0 then n1 else n0) = m := ⟨_, rfl⟩
      obtain ⟨m2, hm2⟩ : ∃ m, (if n2 < m1 then n2 else m1) = m := ⟨_, rfl⟩
      have hfin := four_ends (h := h) (p0 := p0) (p1 := p1) (p2 := p2) (p3 := p3) (n0 := n0) (n1 := n1) (n2 := n2) (n3 := n3) hxk w1 0 (by rw [ho]; exact hp0) (by rw [ho]; exact hp1) (by rw [ho]; exact hp2') (by rw [ho]; exact hp3) (by rw [har]; exact hn0) (by rw [har]; exact hn1) (by rw [har]; exact hn2) (by rw [har]; exact hn3) hm1 hm2
      obtain ⟨T, hT⟩ : ∃ T, termZ h w 0 x = T := ⟨_, rfl⟩
      rw [hT] at hfin hsum hterm
      have har1 : ar = 1 := by rw [← har]; rfl
      rw [har1, Int.mul_one] at hn0 hn1 hn2 hn3
      refine awpC_sound _ ?_
      simp [hlt, hx, PartM.v, PartM.cells]
      refine AW.loop (ι := Nat) (fun e fr _ => ∃ le : Int, fr = { v := [(2, (AVal.agg [AVal.slice 7 (List.map PartM.v h.ps), ii' h.aft, ii' h.fore]).pval), (5, ii' w), (6, (AVal.agg [ii' L0, ii' L1, ii' L2]).pval), (10, .int .i64 0), (11, ii' acc), (12, .int .i64 i), (13, .pval (.agg [.str x.name, ii' x.at_, ii' x.wLo, ii' x.wHi, ii' x.keel, ii' x.lLo, ii' x.lHi])), (14, ii' le), (15, .int .i64 e)], ds := [] } ∧
        ((e = 0 ∧ 0 = le) ∨ (e = 1 ∧ n0 = le) ∨ (e = 2 ∧ m1 = le) ∨ (e = 3 ∧ m2 = le) ∨ (e = 4 ∧ T = le))) (fun e => 4 - e) 0 ⟨0, by simp, .inl ⟨rfl, rfl⟩⟩ ?_
      rintro e fr σ ⟨le, rfl, hcs⟩
      refine hcs.elim (fun hh => ?_) (fun hcs => hcs.elim (fun hh => ?_) (fun hcs => hcs.elim (fun hh => ?_) (fun hcs => hcs.elim (fun hh => ?_) (fun hh => ?_))))
      · obtain ⟨rfl, rfl⟩ := hh
        refine awpC_sound _ ?_
        simp [z0, hov, wk, wq0, hp0, z1, hn0, vn0]
        exact ⟨1, by omega, _, ⟨rfl, rfl⟩, .inr (.inl ⟨rfl, rfl⟩)⟩
      · obtain ⟨rfl, rfl⟩ := hh
        refine awpC_sound _ ?_
        refine (Classical.em (n1 < n0)).elim (fun hc => ?_) (fun hc => ?_)
        · rw [if_pos hc] at hm1
          have hc' : ¬ n0 ≤ n1 := by omega
          simp [z0, hov, wk, wq0, hp1, z2, hn1, vn1, hc]
          exact ⟨2, by omega, _, ⟨rfl, rfl⟩, .inr (.inr (.inl ⟨rfl, hm1.symm⟩))⟩
        · rw [if_neg hc] at hm1
          have hc' : n0 ≤ n1 := by omega
          simp [z0, hov, wk, wq0, hp1, z2, hn1, vn1, hc]
          exact ⟨2, by omega, _, ⟨rfl, rfl⟩, .inr (.inr (.inl ⟨rfl, hm1.symm⟩))⟩
      · obtain ⟨rfl, rfl⟩ := hh
        refine awpC_sound _ ?_
        refine (Classical.em (n2 < m1)).elim (fun hc => ?_) (fun hc => ?_)
        · rw [if_pos hc] at hm2
          have hc' : ¬ m1 ≤ n2 := by omega
          simp [hov, wk, wq1, hp2', z1, z3, hn2, vn2, hc]
          exact ⟨3, by omega, _, ⟨rfl, rfl⟩, .inr (.inr (.inr (.inl ⟨rfl, hm2.symm⟩)))⟩
        · rw [if_neg hc] at hm2
          have hc' : m1 ≤ n2 := by omega
          simp [hov, wk, wq1, hp2', z1, z3, hn2, vn2, hc]
          exact ⟨3, by omega, _, ⟨rfl, rfl⟩, .inr (.inr (.inr (.inl ⟨rfl, hm2.symm⟩)))⟩
      · obtain ⟨rfl, rfl⟩ := hh
        refine awpC_sound _ ?_
        refine (Classical.em (n3 < m2)).elim (fun hc => ?_) (fun hc => ?_)
        · rw [if_pos hc] at hfin
          have hc' : ¬ m2 ≤ n3 := by omega
          simp [hov, wk, wq1, hp3, z1, z4, hn3, vn3, hc]
          exact ⟨4, by omega, _, ⟨rfl, rfl⟩, .inr (.inr (.inr (.inr (⟨rfl, hfin.symm⟩))))⟩
        · rw [if_neg hc] at hfin
          have hc' : m2 ≤ n3 := by omega
          simp [hov, wk, wq1, hp3, z1, z4, hn3, vn3, hc]
          exact ⟨4, by omega, _, ⟨rfl, rfl⟩, .inr (.inr (.inr (.inr (⟨rfl, hfin.symm⟩))))⟩
      · obtain ⟨rfl, rfl⟩ := hh
        have wacc : IntKind.i64.wrap (acc + T) = acc + T := wrap_id (by omega) (by omega)
        refine awpC_sound _ ?_
        simp [wacc, hwi]
        exact ⟨i + 1, by omega, _, ⟨rfl, by simp⟩, by omega, by omega, by omega, by omega⟩
    · have hnl : ¬ i < h.ps.length := by omega
      rw [List.drop_eq_nil_of_le hge] at hsum
      simp only [sumI] at hsum
      have hacc : acc = L0 := by omega
      refine awpC_sound _ ?_
      simp [hnl, hacc, z1]
      exact ⟨0 + 1, by omega, rfl, by omega⟩
  · subst e
    refine awpC_sound _ ?_
    simp
    refine AW.loop (ι := Nat) (fun i fr _ => ∃ acc : Int, fr = { v := [(2, (AVal.agg [AVal.slice 7 (List.map PartM.v h.ps), ii' h.aft, ii' h.fore]).pval), (5, ii' w), (6, (AVal.agg [ii' L0, ii' L1, ii' L2]).pval), (10, .int .i64 1), (11, ii' acc), (12, .int .i64 i)], ds := [] } ∧ i ≤ h.ps.length ∧
      -(400000000000 * (i : Int)) ≤ acc ∧ acc ≤ 400000000000 * (i : Int) ∧ acc + sumI (fun p _ => termZ h w 1 p) i (h.ps.drop i) = L1) (fun i => h.ps.length - i) 0 ⟨0, by simp, by omega, by simp, by simp, by rw [← hL1]; simp [leastZ]⟩ ?_
    rintro i fr σ ⟨acc, rfl, hi, ha1, ha2, hsum⟩
    refine (Nat.lt_or_ge i h.ps.length).elim (fun hlt => ?_) (fun hge => ?_)
    · obtain ⟨x, hx⟩ : ∃ x, h.ps[i] = x := ⟨_, rfl⟩
      have hxk : POk x := hx ▸ hpok _ (List.getElem_mem hlt)
      have hd : h.ps.drop i = x :: h.ps.drop (i + 1) := by rw [List.drop_eq_getElem_cons hlt, hx]
      rw [hd] at hsum
      simp only [sumI] at hsum
      have hterm := (leastT_z hf hxk.fine w0 w1 1 0).2
      have hwi : IntKind.i64.wrap ((i : Int) + 1) = (i : Int) + 1 := wrap_id (by omega) (by omega)
      obtain ⟨o, ho⟩ : ∃ o, ovZ w x.keel = o := ⟨_, rfl⟩
      have hob := ovZ_b w1 hxk.keel.1
      rw [ho] at hob
      have hxk1 := hxk.at_
      have hxk2 := hxk.keel
      have hxk3 := hxk.w
      have hxk4 := hxk.l
      have f1 := hf.aft
      have f2 := hf.lt
      have f3 := hf.fore
      have wk : IntKind.i64.wrap (w - x.keel) = w - x.keel := wrap_id (by omega) (by omega)
      have hov : (if x.keel < w then w - x.keel else 0) = o := by rw [← ho]; unfold ovZ; split <;> split <;> omega
      have mq0 := mul_b (a := x.lLo) (b := o) (A := 5000) (B := 1000) (by omega) (by omega) (by omega) (by omega)
      have mq1 := mul_b (a := x.lHi) (b := o) (A := 5000) (B := 1000) (by omega) (by omega) (by omega) (by omega)
      have wq0 : IntKind.i64.wrap (x.lLo * o) = x.lLo * o := wrap_id (by omega) (by omega)
      have wq1 : IntKind.i64.wrap (x.lHi * o) = x.lHi * o := wrap_id (by omega) (by omega)
      obtain ⟨p0, hp0⟩ : ∃ p, x.wLo - x.lLo * o = p := ⟨_, rfl⟩
      obtain ⟨p1, hp1⟩ : ∃ p, x.wHi - x.lLo * o = p := ⟨_, rfl⟩
      obtain ⟨p2, hp2'⟩ : ∃ p, x.wLo - x.lHi * o = p := ⟨_, rfl⟩
      obtain ⟨p3, hp3⟩ : ∃ p, x.wHi - x.lHi * o = p := ⟨_, rfl⟩
      have vp0 : IntKind.i64.wrap p0 = p0 := wrap_id (by omega) (by omega)
      have vp1 : IntKind.i64.wrap p1 = p1 := wrap_id (by omega) (by omega)
      have vp2 : IntKind.i64.wrap p2 = p2 := wrap_id (by omega) (by omega)
      have vp3 : IntKind.i64.wrap p3 = p3 := wrap_id (by omega) (by omega)
      obtain ⟨ar, har⟩ : ∃ a, armZ h 1 x = a := ⟨_, rfl⟩
      have harb := (armF_eq hf hxk.fine 1).2
      rw [har] at harb
      obtain ⟨n0, hn0⟩ : ∃ n, p0 * ar = n := ⟨_, rfl⟩
      obtain ⟨n1, hn1⟩ : ∃ n, p1 * ar = n := ⟨_, rfl⟩
      obtain ⟨n2, hn2⟩ : ∃ n, p2 * ar = n := ⟨_, rfl⟩
      obtain ⟨n3, hn3⟩ : ∃ n, p3 * ar = n := ⟨_, rfl⟩
      have mn0 := mul_b (a := p0) (b := ar) (A := 8000000) (B := 5000) (by omega) (by omega) (by omega) (by omega)
      have mn1 := mul_b (a := p1) (b := ar) (A := 8000000) (B := 5000) (by omega) (by omega) (by omega) (by omega)
      have mn2 := mul_b (a := p2) (b := ar) (A := 8000000) (B := 5000) (by omega) (by omega) (by omega) (by omega)
      have mn3 := mul_b (a := p3) (b := ar) (A := 8000000) (B := 5000) (by omega) (by omega) (by omega) (by omega)
      have vn0 : IntKind.i64.wrap n0 = n0 := wrap_id (by omega) (by omega)
      have vn1 : IntKind.i64.wrap n1 = n1 := wrap_id (by omega) (by omega)
      have vn2 : IntKind.i64.wrap n2 = n2 := wrap_id (by omega) (by omega)
      have vn3 : IntKind.i64.wrap n3 = n3 := wrap_id (by omega) (by omega)
      obtain ⟨m1, hm1⟩ : ∃ m, (if n1 < n0 then n1 else n0) = m := ⟨_, rfl⟩
      obtain ⟨m2, hm2⟩ : ∃ m, (if n2 < m1 then n2 else m1) = m := ⟨_, rfl⟩
      have hfin := four_ends (h := h) (p0 := p0) (p1 := p1) (p2 := p2) (p3 := p3) (n0 := n0) (n1 := n1) (n2 := n2) (n3 := n3) hxk w1 1 (by rw [ho]; exact hp0) (by rw [ho]; exact hp1) (by rw [ho]; exact hp2') (by rw [ho]; exact hp3) (by rw [har]; exact hn0) (by rw [har]; exact hn1) (by rw [har]; exact hn2) (by rw [har]; exact hn3) hm1 hm2
      obtain ⟨T, hT⟩ : ∃ T, termZ h w 1 x = T := ⟨_, rfl⟩
      rw [hT] at hfin hsum hterm
      have wat : IntKind.i64.wrap (x.at_ - h.aft) = ar := by rw [← har]; simp only [armZ]; exact wrap_id (by omega) (by omega)
      refine awpC_sound _ ?_
      simp [hlt, hx, PartM.v, PartM.cells]
      refine AW.loop (ι := Nat) (fun e fr _ => ∃ le : Int, fr = { v := [(2, (AVal.agg [AVal.slice 7 (List.map PartM.v h.ps), ii' h.aft, ii' h.fore]).pval), (5, ii' w), (6, (AVal.agg [ii' L0, ii' L1, ii' L2]).pval), (10, .int .i64 1), (11, ii' acc), (12, .int .i64 i), (13, .pval (.agg [.str x.name, ii' x.at_, ii' x.wLo, ii' x.wHi, ii' x.keel, ii' x.lLo, ii' x.lHi])), (14, ii' le), (15, .int .i64 e)], ds := [] } ∧
        ((e = 0 ∧ 0 = le) ∨ (e = 1 ∧ n0 = le) ∨ (e = 2 ∧ m1 = le) ∨ (e = 3 ∧ m2 = le) ∨ (e = 4 ∧ T = le))) (fun e => 4 - e) 0 ⟨0, by simp, .inl ⟨rfl, rfl⟩⟩ ?_
      rintro e fr σ ⟨le, rfl, hcs⟩
      refine hcs.elim (fun hh => ?_) (fun hcs => hcs.elim (fun hh => ?_) (fun hcs => hcs.elim (fun hh => ?_) (fun hcs => hcs.elim (fun hh => ?_) (fun hh => ?_))))
      · obtain ⟨rfl, rfl⟩ := hh
        refine awpC_sound _ ?_
        simp [z0, hov, wk, wq0, hp0, vp0, z1, hn0, vn0, wat]
        exact ⟨1, by omega, _, ⟨rfl, rfl⟩, .inr (.inl ⟨rfl, rfl⟩)⟩
      · obtain ⟨rfl, rfl⟩ := hh
        refine awpC_sound _ ?_
        refine (Classical.em (n1 < n0)).elim (fun hc => ?_) (fun hc => ?_)
        · rw [if_pos hc] at hm1
          have hc' : ¬ n0 ≤ n1 := by omega
          simp [z0, hov, wk, wq0, hp1, vp1, z2, hn1, vn1, wat, hc]
          exact ⟨2, by omega, _, ⟨rfl, rfl⟩, .inr (.inr (.inl ⟨rfl, hm1.symm⟩))⟩
        · rw [if_neg hc] at hm1
          have hc' : n0 ≤ n1 := by omega
          simp [z0, hov, wk, wq0, hp1, vp1, z2, hn1, vn1, wat, hc]
          exact ⟨2, by omega, _, ⟨rfl, rfl⟩, .inr (.inr (.inl ⟨rfl, hm1.symm⟩))⟩
      · obtain ⟨rfl, rfl⟩ := hh
        refine awpC_sound _ ?_
        refine (Classical.em (n2 < m1)).elim (fun hc => ?_) (fun hc => ?_)
        · rw [if_pos hc] at hm2
          have hc' : ¬ m1 ≤ n2 := by omega
          simp [hov, wk, wq1, hp2', vp2, z1, z3, hn2, vn2, wat, hc]
          exact ⟨3, by omega, _, ⟨rfl, rfl⟩, .inr (.inr (.inr (.inl ⟨rfl, hm2.symm⟩)))⟩
        · rw [if_neg hc] at hm2
          have hc' : m1 ≤ n2 := by omega
          simp [hov, wk, wq1, hp2', vp2, z1, z3, hn2, vn2, wat, hc]
          exact ⟨3, by omega, _, ⟨rfl, rfl⟩, .inr (.inr (.inr (.inl ⟨rfl, hm2.symm⟩)))⟩
      · obtain ⟨rfl, rfl⟩ := hh
        refine awpC_sound _ ?_
        refine (Classical.em (n3 < m2)).elim (fun hc => ?_) (fun hc => ?_)
        · rw [if_pos hc] at hfin
          have hc' : ¬ m2 ≤ n3 := by omega
          simp [hov, wk, wq1, hp3, vp3, z1, z4, hn3, vn3, wat, hc]
          exact ⟨4, by omega, _, ⟨rfl, rfl⟩, .inr (.inr (.inr (.inr (⟨rfl, hfin.symm⟩))))⟩
        · rw [if_neg hc] at hfin
          have hc' : m2 ≤ n3 := by omega
          simp [hov, wk, wq1, hp3, vp3, z1, z4, hn3, vn3, wat, hc]
          exact ⟨4, by omega, _, ⟨rfl, rfl⟩, .inr (.inr (.inr (.inr (⟨rfl, hfin.symm⟩))))⟩
      · obtain ⟨rfl, rfl⟩ := hh
        have wacc : IntKind.i64.wrap (acc + T) = acc + T := wrap_id (by omega) (by omega)
        refine awpC_sound _ ?_
        simp [wacc, hwi]
        exact ⟨i + 1, by omega, _, ⟨rfl, by simp⟩, by omega, by omega, by omega, by omega⟩
    · have hnl : ¬ i < h.ps.length := by omega
      rw [List.drop_eq_nil_of_le hge] at hsum
      simp only [sumI] at hsum
      have hacc : acc = L1 := by omega
      refine awpC_sound _ ?_
      simp [hnl, hacc, z2]
      exact ⟨1 + 1, by omega, rfl, by omega⟩
  · subst e
    refine awpC_sound _ ?_
    simp
    refine AW.loop (ι := Nat) (fun i fr _ => ∃ acc : Int, fr = { v := [(2, (AVal.agg [AVal.slice 7 (List.map PartM.v h.ps), ii' h.aft, ii' h.fore]).pval), (5, ii' w), (6, (AVal.agg [ii' L0, ii' L1, ii' L2]).pval), (10, .int .i64 2), (11, ii' acc), (12, .int .i64 i)], ds := [] } ∧ i ≤ h.ps.length ∧
      -(400000000000 * (i : Int)) ≤ acc ∧ acc ≤ 400000000000 * (i : Int) ∧ acc + sumI (fun p _ => termZ h w 2 p) i (h.ps.drop i) = L2) (fun i => h.ps.length - i) 0 ⟨0, by simp, by omega, by simp, by simp, by rw [← hL2]; simp [leastZ]⟩ ?_
    rintro i fr σ ⟨acc, rfl, hi, ha1, ha2, hsum⟩
    refine (Nat.lt_or_ge i h.ps.length).elim (fun hlt => ?_) (fun hge => ?_)
    · obtain ⟨x, hx⟩ : ∃ x, h.ps[i] = x := ⟨_, rfl⟩
      have hxk : POk x := hx ▸ hpok _ (List.getElem_mem hlt)
      have hd : h.ps.drop i = x :: h.ps.drop (i + 1) := by rw [List.drop_eq_getElem_cons hlt, hx]
      rw [hd] at hsum
      simp only [sumI] at hsum
      have hterm := (leastT_z hf hxk.fine w0 w1 2 0).2
      have hwi : IntKind.i64.wrap ((i : Int) + 1) = (i : Int) + 1 := wrap_id (by omega) (by omega)
      obtain ⟨o, ho⟩ : ∃ o, ovZ w x.keel = o := ⟨_, rfl⟩
      have hob := ovZ_b w1 hxk.keel.1
      rw [ho] at hob
      have hxk1 := hxk.at_
      have hxk2 := hxk.keel
      have hxk3 := hxk.w
      have hxk4 := hxk.l
      have f1 := hf.aft
      have f2 := hf.lt
      have f3 := hf.fore
      have wk : IntKind.i64.wrap (w - x.keel) = w - x.keel := wrap_id (by omega) (by omega)
      have hov : (if x.keel < w then w - x.keel else 0) = o := by rw [← ho]; unfold ovZ; split <;> split <;> omega
      have mq0 := mul_b (a := x.lLo) (b := o) (A := 5000) (B := 1000) (by omega) (by omega) (by omega) (by omega)
      have mq1 := mul_b (a := x.lHi) (b := o) (A := 5000) (B := 1000) (by omega) (by omega) (by omega) (by omega)
      have wq0 : IntKind.i64.wrap (x.lLo * o) = x.lLo * o := wrap_id (by omega) (by omega)
      have wq1 : IntKind.i64.wrap (x.lHi * o) = x.lHi * o := wrap_id (by omega) (by omega)
      obtain ⟨p0, hp0⟩ : ∃ p, x.wLo - x.lLo * o = p := ⟨_, rfl⟩
      obtain ⟨p1, hp1⟩ : ∃ p, x.wHi - x.lLo * o = p := ⟨_, rfl⟩
      obtain ⟨p2, hp2'⟩ : ∃ p, x.wLo - x.lHi * o = p := ⟨_, rfl⟩
      obtain ⟨p3, hp3⟩ : ∃ p, x.wHi - x.lHi * o = p := ⟨_, rfl⟩
      have vp0 : IntKind.i64.wrap p0 = p0 := wrap_id (by omega) (by omega)
      have vp1 : IntKind.i64.wrap p1 = p1 := wrap_id (by omega) (by omega)
      have vp2 : IntKind.i64.wrap p2 = p2 := wrap_id (by omega) (by omega)
      have vp3 : IntKind.i64.wrap p3 = p3 := wrap_id (by omega) (by omega)
      obtain ⟨ar, har⟩ : ∃ a, armZ h 2 x = a := ⟨_, rfl⟩
      have harb := (armF_eq hf hxk.fine 2).2
      rw [har] at harb
      obtain ⟨n0, hn0⟩ : ∃ n, p0 * ar = n := ⟨_, rfl⟩
      obtain ⟨n1, hn1⟩ : ∃ n, p1 * ar = n := ⟨_, rfl⟩
      obtain ⟨n2, hn2⟩ : ∃ n, p2 * ar = n := ⟨_, rfl⟩
      obtain ⟨n3, hn3⟩ : ∃ n, p3 * ar = n := ⟨_, rfl⟩
      have mn0 := mul_b (a := p0) (b := ar) (A := 8000000) (B := 5000) (by omega) (by omega) (by omega) (by omega)
      have mn1 := mul_b (a := p1) (b := ar) (A := 8000000) (B := 5000) (by omega) (by omega) (by omega) (by omega)
      have mn2 := mul_b (a := p2) (b := ar) (A := 8000000) (B := 5000) (by omega) (by omega) (by omega) (by omega)
      have mn3 := mul_b (a := p3) (b := ar) (A := 8000000) (B := 5000) (by omega) (by omega) (by omega) (by omega)
      have vn0 : IntKind.i64.wrap n0 = n0 := wrap_id (by omega) (by omega)
      have vn1 : IntKind.i64.wrap n1 = n1 := wrap_id (by omega) (by omega)
      have vn2 : IntKind.i64.wrap n2 = n2 := wrap_id (by omega) (by omega)
      have vn3 : IntKind.i64.wrap n3 = n3 := wrap_id (by omega) (by omega)
      obtain ⟨m1, hm1⟩ : ∃ m, (if n1 < n0 then n1 else n0) = m := ⟨_, rfl⟩
      obtain ⟨m2, hm2⟩ : ∃ m, (if n2 < m1 then n2 else m1) = m := ⟨_, rfl⟩
      have hfin := four_ends (h := h) (p0 := p0) (p1 := p1) (p2 := p2) (p3 := p3) (n0 := n0) (n1 := n1) (n2 := n2) (n3 := n3) hxk w1 2 (by rw [ho]; exact hp0) (by rw [ho]; exact hp1) (by rw [ho]; exact hp2') (by rw [ho]; exact hp3) (by rw [har]; exact hn0) (by rw [har]; exact hn1) (by rw [har]; exact hn2) (by rw [har]; exact hn3) hm1 hm2
      obtain ⟨T, hT⟩ : ∃ T, termZ h w 2 x = T := ⟨_, rfl⟩
      rw [hT] at hfin hsum hterm
      have wat : IntKind.i64.wrap (h.fore - x.at_) = ar := by rw [← har]; simp only [armZ]; exact wrap_id (by omega) (by omega)
      refine awpC_sound _ ?_
      simp [hlt, hx, PartM.v, PartM.cells]
      refine AW.loop (ι := Nat) (fun e fr _ => ∃ le : Int, fr = { v := [(2, (AVal.agg [AVal.slice 7 (List.map PartM.v h.ps), ii' h.aft, ii' h.fore]).pval), (5, ii' w), (6, (AVal.agg [ii' L0, ii' L1, ii' L2]).pval), (10, .int .i64 2), (11, ii' acc), (12, .int .i64 i), (13, .pval (.agg [.str x.name, ii' x.at_, ii' x.wLo, ii' x.wHi, ii' x.keel, ii' x.lLo, ii' x.lHi])), (14, ii' le), (15, .int .i64 e)], ds := [] } ∧
        ((e = 0 ∧ 0 = le) ∨ (e = 1 ∧ n0 = le) ∨ (e = 2 ∧ m1 = le) ∨ (e = 3 ∧ m2 = le) ∨ (e = 4 ∧ T = le))) (fun e => 4 - e) 0 ⟨0, by simp, .inl ⟨rfl, rfl⟩⟩ ?_
      rintro e fr σ ⟨le, rfl, hcs⟩
      refine hcs.elim (fun hh => ?_) (fun hcs => hcs.elim (fun hh => ?_) (fun hcs => hcs.elim (fun hh => ?_) (fun hcs => hcs.elim (fun hh => ?_) (fun hh => ?_))))
      · obtain ⟨rfl, rfl⟩ := hh
        refine awpC_sound _ ?_
        simp [z0, hov, wk, wq0, hp0, vp0, z1, hn0, vn0, wat]
        exact ⟨1, by omega, _, ⟨rfl, rfl⟩, .inr (.inl ⟨rfl, rfl⟩)⟩
      · obtain ⟨rfl, rfl⟩ := hh
        refine awpC_sound _ ?_
        refine (Classical.em (n1 < n0)).elim (fun hc => ?_) (fun hc => ?_)
        · rw [if_pos hc] at hm1
          have hc' : ¬ n0 ≤ n1 := by omega
          simp [z0, hov, wk, wq0, hp1, vp1, z2, hn1, vn1, wat, hc]
          exact ⟨2, by omega, _, ⟨rfl, rfl⟩, .inr (.inr (.inl ⟨rfl, hm1.symm⟩))⟩
        · rw [if_neg hc] at hm1
          have hc' : n0 ≤ n1 := by omega
          simp [z0, hov, wk, wq0, hp1, vp1, z2, hn1, vn1, wat, hc]
          exact ⟨2, by omega, _, ⟨rfl, rfl⟩, .inr (.inr (.inl ⟨rfl, hm1.symm⟩))⟩
      · obtain ⟨rfl, rfl⟩ := hh
        refine awpC_sound _ ?_
        refine (Classical.em (n2 < m1)).elim (fun hc => ?_) (fun hc => ?_)
        · rw [if_pos hc] at hm2
          have hc' : ¬ m1 ≤ n2 := by omega
          simp [hov, wk, wq1, hp2', vp2, z1, z3, hn2, vn2, wat, hc]
          exact ⟨3, by omega, _, ⟨rfl, rfl⟩, .inr (.inr (.inr (.inl ⟨rfl, hm2.symm⟩)))⟩
        · rw [if_neg hc] at hm2
          have hc' : m1 ≤ n2 := by omega
          simp [hov, wk, wq1, hp2', vp2, z1, z3, hn2, vn2, wat, hc]
          exact ⟨3, by omega, _, ⟨rfl, rfl⟩, .inr (.inr (.inr (.inl ⟨rfl, hm2.symm⟩)))⟩
      · obtain ⟨rfl, rfl⟩ := hh
        refine awpC_sound _ ?_
        refine (Classical.em (n3 < m2)).elim (fun hc => ?_) (fun hc => ?_)
        · rw [if_pos hc] at hfin
          have hc' : ¬ m2 ≤ n3 := by omega
          simp [hov, wk, wq1, hp3, vp3, z1, z4, hn3, vn3, wat, hc]
          exact ⟨4, by omega, _, ⟨rfl, rfl⟩, .inr (.inr (.inr (.inr (⟨rfl, hfin.symm⟩))))⟩
        · rw [if_neg hc] at hfin
          have hc' : m2 ≤ n3 := by omega
          simp [hov, wk, wq1, hp3, vp3, z1, z4, hn3, vn3, wat, hc]
          exact ⟨4, by omega, _, ⟨rfl, rfl⟩, .inr (.inr (.inr (.inr (⟨rfl, hfin.symm⟩))))⟩
      · obtain ⟨rfl, rfl⟩ := hh
        have wacc : IntKind.i64.wrap (acc + T) = acc + T := wrap_id (by omega) (by omega)
        refine awpC_sound _ ?_
        simp [wacc, hwi]
        exact ⟨i + 1, by omega, _, ⟨rfl, by simp⟩, by omega, by omega, by omega, by omega⟩
    · have hnl : ¬ i < h.ps.length := by omega
      rw [List.drop_eq_nil_of_le hge] at hsum
      simp only [sumI] at hsum
      have hacc : acc = L2 := by omega
      refine awpC_sound _ ?_
      simp [hnl, hacc, z3]
      exact ⟨2 + 1, by omega, rfl, by omega⟩
  · subst e
    refine awpC_sound _ ?_
    simp
    exact CallK.pure B_l05_Awake (awake_spec _) (by simp)
end Go.AM
