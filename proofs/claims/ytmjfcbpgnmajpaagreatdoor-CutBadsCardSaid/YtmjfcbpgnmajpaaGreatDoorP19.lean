/- The pieces of a tide: of the program. From where on a hull does not surely stand: of the program and of the document. Why and Show: of the program and of the document. Tasks of cuts: data, and the .. -/
import Derived.Test.YtmjfcbpgnmajpaaGreatDoorP18
import Derived.Test.YtmjfcbpgnmajpaaGreatDoorP16
namespace Go.AM
open Go.Proofs
set_option maxRecDepth 100000
set_option maxHeartbeats 1000000
def tideV (lo hi : Int) : AVal := .agg [ii' lo, ii' hi]
theorem stand_bends_spec (h : HullM) (lo hi : Int) (σ : AHeap) : Spec Tryz.prog F_stand_body_bends [h.v, tideV lo hi] σ fun r σ' => r = .ret (.func (.func 193) [] [.pval (tideV lo hi), .pval h.v]) ∧ σ' = σ := by
  refine Spec.pureFn (spec_stand_body_bends (by simp) (awpC_sound _ ?_)) (by simp [h.pure]; rfl) (by simp [AVal.pure, pures, h.pure, tideV]) σ
  simp [C_stand_body_bends, HullM.v, HullM.cells, tideV]
theorem bends_1_spec (h : HullM) (hl : h.ps.length ≤ 10) (lo hi : Int) (hlh : lo ≤ hi) (b : Nat) (σ : AHeap) (J : Int → AHeap → Prop) (Stop : AHeap → Prop)
    (hy : ∀ d from_ to s tl, J d s → s.length = σ.length → d ≤ from_ → from_ ≤ d + 1 → lo ≤ from_ → from_ ≤ to → to ≤ hi → Even h from_ to →
      CallV Tryz.prog (.yieldf b) [tideV from_ to] (s ++ tl) fun r σ' => ∃ s' tl', σ' = s' ++ tl ++ tl' ∧ s'.length = σ.length ∧ ((r = .ret (.bool true) ∧ J to s') ∨ (r = .ret (.bool false) ∧ Stop s')))
    (h0 : J (lo - 1) σ) :
    Spec Tryz.prog F_stand_body_bends_1 [.yieldf b, .pval (tideV lo hi), .pval h.v] σ fun r σ' => r = .ret (.tup []) ∧ ∃ s tl, σ' = s ++ tl ∧ s.length = σ.length ∧ (J hi s ∨ Stop s) := by
  refine spec_stand_body_bends_1 (by simp) (awpC_sound _ ?_)
  simp [C_stand_body_bends_1, HullM.v, HullM.cells, tideV]
  refine AW.loop (ι := Nat) (fun i fr σ1 => ∃ l tl, fr = { v := [(0, .yieldf b), (1, .pval (.agg [ii' lo, ii' hi])), (4, .sref 1 σ.length 0 l.length l.length), (15, .slice 7 (h.ps.map PartM.v)), (16, .int .i64 h.ps.length), (17, .int .i64 i)], ds := [] } ∧
      σ1 = σ ++ intsV l :: tl ∧ i ≤ h.ps.length ∧ l.length ≤ i + 1 ∧ ∀ x, x ∈ l ↔ x = hi ∨ ∃ p ∈ h.ps.take i, p.keel = x ∧ lo < x ∧ x < hi) (fun i => h.ps.length - i) 0 ⟨[hi], [], by simp, by simp [intsV], by simp, by simp, by simp⟩ ?_
  rintro i fr σ1 ⟨l, tl, rfl, rfl, hi', hll, hm⟩
  refine (Nat.lt_or_ge i h.ps.length).elim (fun hlt => ?_) (fun hge => ?_)
  · obtain ⟨x, hx⟩ : ∃ x, h.ps[i] = x := ⟨_, rfl⟩
    have htk : ∀ p, p ∈ h.ps.take (i + 1) ↔ p ∈ h.ps.take i ∨ p = x := fun p => by
      rw [List.take_add_one, List.mem_append]
      simp [hlt, hx, eq_comm]
    have hfit : Fits 1 [ii' x.keel] := by intro v hv; simp at hv; subst hv; exact ⟨⟨rfl, rfl⟩, rfl⟩
    have hw : IntKind.i64.wrap ((i : Int) + 1) = (i : Int) + 1 := wrap_id (by omega) (by omega)
    refine awpC_sound _ ?_
    refine (Classical.em (lo < x.keel)).elim (fun h1 => ?_) (fun h1 => ?_)
    · refine (Classical.em (x.keel < hi)).elim (fun h2 => ?_) (fun h2 => ?_)
      · simp [hlt, hx, h1, h2, hw, hfit, PartM.v, PartM.cells, intsV]
        rw [if_neg (by omega)]
        refine ⟨by omega, i + 1, by omega, l ++ [x.keel], by simp, by simp, by omega, by simp; omega, fun z => ?_⟩
        rw [List.mem_append, hm]
        constructor
        · rintro ((e | ⟨p, g1, g2⟩) | e)
          · exact .inl e
          · exact .inr ⟨p, (htk p).2 (.inl g1), g2⟩
          · simp at e
            exact .inr ⟨x, (htk x).2 (.inr rfl), e.symm, by omega, by omega⟩
        · rintro (e | ⟨p, g1, g2⟩)
          · exact .inl (.inl e)
          · rcases (htk p).1 g1 with g1 | g1
            · exact .inl (.inr ⟨p, g1, g2⟩)
            · subst g1; exact .inr (by simp [g2.1])
      · simp [hlt, hx, h1, h2, hw, PartM.v, PartM.cells, intsV]
        refine ⟨i + 1, by omega, l, by simp, rfl, by omega, by omega, fun z => ?_⟩
        rw [hm]
        constructor
        · rintro (e | ⟨p, g1, g2⟩)
          · exact .inl e
          · exact .inr ⟨p, (htk p).2 (.inl g1), g2⟩
        · rintro (e | ⟨p, g1, g2⟩)
          · exact .inl e
          · rcases (htk p).1 g1 with g1 | g1
            · exact .inr ⟨p, g1, g2⟩
            · subst g1; omega
    · simp [hlt, hx, h1, hw, PartM.v, PartM.cells, intsV]
      refine ⟨i + 1, by omega, l, by simp, rfl, by omega, by omega, fun z => ?_⟩
      rw [hm]
      constructor
      · rintro (e | ⟨p, g1, g2⟩)
        · exact .inl e
        · exact .inr ⟨p, (htk p).2 (.inl g1), g2⟩
      · rintro (e | ⟨p, g1, g2⟩)
        · exact .inl e
        · rcases (htk p).1 g1 with g1 | g1
          · exact .inr ⟨p, g1, g2⟩
          · subst g1; omega
  · have hnl : ¬ i < h.ps.length := by omega
    rw [List.take_of_length_le hge] at hm
    refine awpC_sound _ ?_
    simp [hnl]
    refine CallK.spec B_slices_Sort_int_int (sort_spec σ.length l (by omega) _ (by simp) (by simp)) ?_
    rintro r σ1 ⟨rfl, l', hp, hs, rfl⟩
    refine ⟨_, rfl, ?_⟩
    have hlen : l'.length = l.length := hp.length_eq
    simp
    have hc := compact_spec σ.length l' (by omega) hs (σ ++ intsV l' :: tl) (by simp) (by simp)
    rw [hlen] at hc
    refine CallK.spec B_slices_Compact_int_int hc ?_
    rintro r σ1 ⟨c, z, ⟨hc1, hc2⟩, hcl, hcz, rfl, rfl⟩
    refine ⟨_, rfl, ?_⟩
    have hm' : ∀ x, x ∈ c ↔ x = hi ∨ ∃ p ∈ h.ps, p.keel = x ∧ lo < x ∧ x < hi := fun x => by rw [hc2, hp.mem_iff, hm]
    obtain ⟨D, hD⟩ : ∃ D, c ++ z = D := ⟨_, rfl⟩
    rw [hD] at hcz ⊢
    have hclt : ∀ i j (h1 : i < j) (h2 : j < c.length), c[i] < c[j] := fun i j h1 h2 => List.pairwise_iff_getElem.1 hc1 i j (by omega) h2 h1
    simp
    refine AW.loop (ι := Nat) (fun j fr σ2 => ∃ from_ d s tl, fr = { v := [(0, .yieldf b), (7, ii' from_), (44, .sref 1 σ.length 0 c.length l.length), (45, .int .i64 c.length), (46, .int .i64 j)], ds := [] } ∧
      σ2 = s ++ intsV D :: tl ∧ s.length = σ.length ∧ J d s ∧ j ≤ c.length ∧ (j = 0 → d = lo - 1 ∧ from_ = lo) ∧ (∀ k (hk : k < c.length), j = k + 1 → d = from_ ∧ from_ = c[k])) (fun j => c.length - j) 0 ⟨lo, lo - 1, σ, tl, by simp, rfl, rfl, h0, by omega, fun _ => ⟨rfl, rfl⟩, fun k _ e => by omega⟩ ?_
    rintro j fr σ2 ⟨from_, d, s, tl, rfl, rfl, hsl, hJ, hj, hj0, hjs⟩
    refine (Nat.lt_or_ge j c.length).elim (fun hlt => ?_) (fun hge => ?_)
    · obtain ⟨to, hto⟩ : ∃ to, c[j] = to := ⟨_, rfl⟩
      have hto' : (c ++ z)[j]? = some to := by rw [List.getElem?_append_left hlt, List.getElem?_eq_getElem hlt, hto]
      rw [hD] at hto'
      have hDto : D[j]'(by omega) = to := Option.some.inj ((List.getElem?_eq_getElem (by omega)).symm.trans hto')
      have hw : IntKind.i64.wrap ((j : Int) + 1) = ((j + 1 : Nat) : Int) := by rw [wrap_id (by omega) (by omega)]; simp
      have r1 : j < l.length := by omega
      have hmem := (hm' to).1 (by rw [← hto]; exact List.getElem_mem _)
      have hb1 : lo ≤ to ∧ to ≤ hi := by
        rcases hmem with e | ⟨p, _, _, e⟩
        · omega
        · omega
      have hfl : lo ≤ from_ ∧ d ≤ from_ ∧ from_ ≤ d + 1 ∧ from_ ≤ to := by
        rcases j with _ | k
        · obtain ⟨e1, e2⟩ := hj0 rfl
          omega
        · obtain ⟨e1, e2⟩ := hjs k (by omega) rfl
          have h1 := hclt k (k + 1) (by omega) hlt
          rw [hto] at h1
          have h2 := (hm' from_).1 (by rw [e2]; exact List.getElem_mem _)
          rcases h2 with e | ⟨p, _, _, e⟩ <;> omega
      have hev : Even h from_ to := fun p hp => by
        by_cases hk : p.keel ≤ from_
        · exact .inl hk
        · right
          by_cases hk2 : to ≤ p.keel
          · exact hk2
          · exfalso
            have hin : p.keel ∈ c := (hm' _).2 (.inr ⟨p, hp, rfl, by omega, by omega⟩)
            obtain ⟨m, hm1, hm2⟩ := List.mem_iff_getElem.1 hin
            have hmj : m < j := by
              rcases Nat.lt_or_ge m j with h' | h'
              · exact h'
              · rcases Nat.lt_or_ge j m with h'' | h''
                · have := hclt j m h'' hm1; omega
                · have : m = j := by omega
                  subst this; omega
            rcases j with _ | k
            · omega
            · obtain ⟨e1, e2⟩ := hjs k (by omega) rfl
              rcases Nat.lt_or_ge m k with h' | h'
              · have := hclt m k h' (by omega); omega
              · have : m = k := by omega
                subst this; omega
      refine awpC_sound _ ?_
      rw [← hsl]
      simp [hlt, intsV, hcz, r1, hDto]
      refine (hy d from_ to s (intsV D :: tl) hJ hsl hfl.2.1 hfl.2.2.1 hfl.1 hfl.2.2.2 hb1.2 hev).mono ?_
      rintro r σ' ⟨s', tl', rfl, hs', hr⟩
      rcases hr with ⟨rfl, hJ'⟩ | ⟨rfl, hS⟩
      · simp [hlt, intsV, hcz, r1, hDto]
        refine ⟨j + 1, by omega, to, ⟨rfl, hw⟩, to, s', ⟨tl ++ tl', rfl⟩, by omega, hJ', by omega, by omega, fun k hk e => ?_⟩
        have : k = j := by omega
        subst this
        exact ⟨rfl, hto.symm⟩
      · simp
        exact ⟨s', ⟨_, rfl⟩, by omega, .inr hS⟩
    · have hnl : ¬ j < c.length := by omega
      refine awpC_sound _ ?_
      simp [hnl]
      refine ⟨s, ⟨_, rfl⟩, hsl, .inl ?_⟩
      have hin : hi ∈ c := (hm' hi).2 (.inl rfl)
      obtain ⟨m, hm1, hm2⟩ := List.mem_iff_getElem.1 hin
      rcases j with _ | k
      · omega
      · obtain ⟨e1, e2⟩ := hjs k (by omega) rfl
        have h1 := (hm' c[k]).1 (List.getElem_mem _)
        have : d = hi := by
          rcases Nat.lt_or_ge m k with h' | h'
          · have := hclt m k h' (by omega)
            rcases h1 with e | ⟨p, _, _, e⟩ <;> omega
          · have : m = k := by omega
            subst this; omega
        rw [← this]; exact hJ
end Go.AM
namespace Go.AM
open Go.Proofs
set_option maxRecDepth 100000
set_option maxHeartbeats 1000000
theorem whyS_z {h : HullM} (hf : Fine h) {w : Int} (h0 : 0 ≤ w) (hw : w ≤ 1000) : whyF (leastS h w 0) (leastS h w 1) (leastS h w 2) = whyZ h w := by
  unfold whyZ; rw [leastS_z hf h0 hw, leastS_z hf h0 hw, leastS_z hf h0 hw]
theorem Fine.maxLen {h : HullM} (hf : Fine h) : h.ps.length ≤ maxLen := by have := hf.len; simp only [Go.maxLen]; omega
def firstR (h : HullM) (lo hi : Int) : Int × Int := firstN h lo (hi - lo + 1).toNat
theorem r05_small_z {h : HullM} (hf : Fine h) (w : Int) (σ : AHeap) : Spec Tryz.prog F_r05_Smallest [h.v, ii' w] σ fun r σ' => r = .ret (sumsV (leastS h w 0) (leastS h w 1) (leastS h w 2)) ∧ σ' = σ := by
  have hb : Bounds h := ⟨⟨hf.aft, by have := hf.lt; have := hf.fore; omega⟩, ⟨by have := hf.lt; have := hf.aft; omega, hf.fore⟩, fun p hp => (hf.part p hp).at_⟩
  have := r05_Smallest_spec h hf.len.2 w σ
  rw [small_eq h hb w] at this
  exact this
theorem r05_first_spec (h : HullM) (hf : Fine h) (lo hi : Int) (h0 : 0 ≤ lo) (h1 : hi ≤ 1000) (σ : AHeap) :
    Spec Tryz.prog F_r05_first [h.v, tideV lo hi] σ fun r σ' => r = .ret (.tup [ii' (firstR h lo hi).1, ii' (firstR h lo hi).2]) ∧ σ' = σ := by
  refine Spec.pureFn (spec_r05_first (by simp) (awpC_sound _ ?_)) (by simp [h.pure]; rfl) rfl σ
  simp [C_r05_first, HullM.v, HullM.cells, tideV]
  refine AW.loop (ι := Nat) (fun i fr σ => ∃ w : Int, fr = { v := [(2, .pval (.agg [.slice 7 (h.ps.map PartM.v), ii' h.aft, ii' h.fore])), (3, .pval (.agg [ii' lo, ii' hi])), (6, ii' w)], ds := [] } ∧ lo ≤ w ∧ firstR h lo hi = firstN h w (hi - w + 1).toNat ∧ i = (hi - w + 1).toNat) (fun i => i) (hi - lo + 1).toNat ⟨lo, by simp, by omega, rfl, rfl⟩ ?_
  rintro i fr σ ⟨w, rfl, hlw, hfi, rfl⟩
  refine (Classical.em (w ≤ hi)).elim (fun hle => ?_) (fun hgt => ?_)
  · have hn : (hi - w + 1).toNat = (hi - (w + 1) + 1).toNat + 1 := by omega
    rw [hn] at hfi
    simp only [firstN] at hfi
    have hpu : pures (h.ps.map PartM.v) = true := pures_map (f := PartM.v) (fun _ => rfl) h.ps
    have hw : IntKind.i64.wrap (w + 1) = w + 1 := wrap_id (by omega) (by omega)
    refine awpC_sound _ ?_
    simp [hle]
    refine CallK.pure B_r05_Smallest (r05_small_z hf w _) ?_
    simp [sumsV]
    refine CallK.pureE B_r05_Reason (r05_Reason_spec _ _ _ _) (congrArg ii' (whyS_z hf (by omega) (by omega))) ?_
    refine (Classical.em (whyZ h w = 0)).elim (fun hz => ?_) (fun hz => ?_)
    · rw [if_pos hz] at hfi
      simp [hz, hw]
      exact ⟨_, by omega, by omega, hfi, rfl⟩
    · rw [if_neg hz] at hfi
      simp [hz, hfi]
  · have hn : (hi - w + 1).toNat = 0 := by omega
    rw [hn] at hfi
    refine awpC_sound _ ?_
    simp [hgt, hfi, firstN]
theorem stand_first_spec (h : HullM) (hf : Fine h) (lo hi : Int) (h0 : 0 ≤ lo) (hlh : lo ≤ hi) (h1 : hi ≤ 1000) (σ : AHeap) :
    Spec Tryz.prog F_stand_body_first [h.v, tideV lo hi] σ fun r σ' => r = .ret (.tup [ii' (firstR h lo hi).1, ii' (firstR h lo hi).2]) ∧ σ' = σ := by
  refine Spec.pureFn (spec_stand_body_first (by simp) (awpC_sound _ ?_)) (by simp [h.pure]; rfl) rfl σ
  simp [C_stand_body_first, HullM.v, HullM.cells, tideV]
  refine AW.scope ?_
  refine awpC_sound _ ?_
  simp
  refine CallK.pure B_stand_body_bends (stand_bends_spec h lo hi _) ?_
  simp
  refine AW.rangeF (by simp) fun asg' body' ca cb hps => ?_
  change CallF Tryz.prog (AVal.func (Fn.func 193) [] [(tideV lo hi).pval, h.v.pval]) [AVal.yieldf 3] [AObj.box [ii' 0], AObj.box [ii' 0], .dfr, .looprec 54 [(2, h.v.pval), (4, AVal.ptr 0 0), (5, AVal.ptr 1 0), (12, AVal.func (Fn.func 193) [] [(tideV lo hi).pval, h.v.pval])] [13] asg' body' 2 .ready none] (rangeQ 3 _ _)
  refine CallF.func B_stand_body_bends_1 ((bends_1_spec h hf.len.2 lo hi hlh 3 [AObj.box [ii' 0], AObj.box [ii' 0], .dfr, .looprec 54 [(2, h.v.pval), (4, AVal.ptr 0 0), (5, AVal.ptr 1 0), (12, AVal.func (Fn.func 193) [] [(tideV lo hi).pval, h.v.pval])] [13] asg' body' 2 .ready none]
    (fun d s => (∃ a b, s = [.box [ii' a], .box [ii' b], .dfr, .looprec 54 [(2, h.v.pval), (4, AVal.ptr 0 0), (5, AVal.ptr 1 0), (12, AVal.func (Fn.func 193) [] [(tideV lo hi).pval, h.v.pval])] [13] asg' body' 2 .ready none]) ∧ ∀ w, lo ≤ w → w ≤ d → whyZ h w = 0)
    (fun s => ∃ w0, s = [.box [ii' (whyZ h w0)], .box [ii' w0], .dfr, .looprec 54 [(2, h.v.pval), (4, AVal.ptr 0 0), (5, AVal.ptr 1 0), (12, AVal.func (Fn.func 193) [] [(tideV lo hi).pval, h.v.pval])] [13] asg' body' 2 .done (some .ret)] ∧ lo ≤ w0 ∧ w0 ≤ hi ∧ whyZ h w0 ≠ 0 ∧ ∀ w, lo ≤ w → w < w0 → whyZ h w = 0) ?_ ?_).mono ?_)
  · rintro d from_ to s tl ⟨⟨a, b, rfl⟩, hd⟩ hsl hdf hfd hlf hft hto hev
    refine CallV.round (e := [(2, h.v.pval), (4, AVal.ptr 0 0), (5, AVal.ptr 1 0), (12, AVal.func (Fn.func 193) [] [(tideV lo hi).pval, h.v.pval])]) (D := 2) (pend := none) ca cb hps (by simp) rfl ?_
    refine awpC_sound _ ?_
    simp [putArgs, tideV]
    refine ⟨_, _, _, _, _, _, _, ⟨rfl, rfl, rfl, rfl, rfl, rfl, rfl⟩, ?_⟩
    refine awpC_sound _ ?_
    simp [HullM.v, HullM.cells]
    refine CallK.pure B_stand_body_least (stand_least_spec h hf.maxLen from_ _) ?_
    simp [sumsV]
    refine CallK.pureE B_stand_sums_why (stand_why_spec _ _ _ _) (congrArg ii' (whyS_z hf (by omega) (by omega))) ?_
    refine (Classical.em (whyZ h from_ = 0)).elim (fun hz => ?_) (fun hz => ?_)
    rotate_left
    · simp [hz, HullM.v, HullM.cells]
      exact ⟨_, _, _, _, _, _, _, _, rfl, [_, _, _, _], ⟨_, rfl⟩, rfl, .inr ⟨rfl, from_, rfl, hlf, by omega, hz, fun w g1 g2 => hd w g1 (by omega)⟩⟩
    simp [hz, HullM.v, HullM.cells]
    refine CallK.pure B_stand_body_least (stand_least_spec h hf.maxLen to _) ?_
    simp [sumsV]
    refine CallK.pureE B_stand_sums_why (stand_why_spec _ _ _ _) (congrArg ii' (whyS_z hf (by omega) (by omega))) ?_
    refine (Classical.em (whyZ h to = 0)).elim (fun hz2 => ?_) (fun hz2 => ?_)
    · simp [hz2, HullM.v, HullM.cells]
      refine ⟨_, _, _, _, _, _, _, _, rfl, [_, _, _, _], ⟨_, rfl⟩, rfl, .inl ⟨rfl, ⟨_, _, rfl⟩, fun w g1 g2 => ?_⟩⟩
      by_cases hwd : w ≤ d
      · exact hd w g1 hwd
      · exact why_between hev (Int.le_refl _) (by omega) g2 (Int.le_refl _) hz hz2
    simp [hz2, HullM.v, HullM.cells]
    have hne : from_ ≠ to := fun e => hz2 (e ▸ hz)
    clear ca cb
    refine AW.loop (ι := Nat) (fun i fr σ1 => ∃ l1 l2 a b : Int, fr = { v := [(2, .pval (.agg [.slice 7 (h.ps.map PartM.v), ii' h.aft, ii' h.fore])), (4, .ptr 0 0), (5, .ptr 1 0), (7, ii' l1), (8, ii' l2)], ds := [] } ∧
      σ1 = [.box [ii' a], .box [ii' b], .dfr, .looprec 54 [(2, .pval (.agg [.slice 7 (h.ps.map PartM.v), ii' h.aft, ii' h.fore])), (4, AVal.ptr 0 0), (5, AVal.ptr 1 0), (12, AVal.func (Fn.func 193) [] [(AVal.agg [ii' lo, ii' hi]).pval, .pval (.agg [.slice 7 (h.ps.map PartM.v), ii' h.aft, ii' h.fore])])] [13] asg' body' 2 .busy none] ++ (tl ++ [.box [ii' from_, ii' to]]) ∧
      from_ ≤ l1 ∧ l1 < l2 ∧ l2 ≤ to ∧ whyZ h l1 = 0 ∧ whyZ h l2 ≠ 0 ∧ i = (l2 - l1).toNat) (fun i => i) (to - from_).toNat ⟨from_, to, _, _, by simp, rfl, by omega, by omega, by omega, hz, hz2, rfl⟩ ?_
    rintro i fr σ1 ⟨l1, l2, a, b, rfl, rfl, g1, g2, g3, g4, g5, rfl⟩
    have hw1 : IntKind.i64.wrap (l2 - l1) = l2 - l1 := wrap_id (by omega) (by omega)
    refine (Classical.em (1 < l2 - l1)).elim (fun hlt => ?_) (fun hge => ?_)
    · have hw2 : IntKind.i64.wrap (l1 + l2) = l1 + l2 := wrap_id (by omega) (by omega)
      have hq : (l1 + l2).tdiv 2 = (l1 + l2) / 2 := Int.tdiv_eq_ediv_of_nonneg (by omega)
      obtain ⟨mid, hmid⟩ : ∃ mid, (l1 + l2) / 2 = mid := ⟨_, rfl⟩
      have hw3 : IntKind.i64.wrap mid = mid := wrap_id (by omega) (by omega)
      refine awpC_sound _ ?_
      simp [hw1, hw2, hq, hmid, hw3, hlt]
      refine CallK.pure B_stand_body_least (stand_least_spec h hf.maxLen mid _) ?_
      simp [sumsV]
      refine CallK.pureE B_stand_sums_why (stand_why_spec _ _ _ _) (congrArg ii' (whyS_z hf (by omega) (by omega))) ?_
      refine (Classical.em (whyZ h mid = 0)).elim (fun hz3 => ?_) (fun hz3 => ?_)
      · simp [hz3, hw2, hq, hmid, hw3]
        exact ⟨_, by omega, mid, l2, ⟨rfl, rfl⟩, by omega, by omega, by omega, hz3, g5, rfl⟩
      · simp [hz3, hw2, hq, hmid, hw3]
        exact ⟨_, by omega, l1, mid, ⟨rfl, rfl⟩, by omega, by omega, by omega, g4, hz3, rfl⟩
    · refine awpC_sound _ ?_
      simp [hw1, hge]
      refine CallK.pure B_stand_body_least (stand_least_spec h hf.maxLen l2 _) ?_
      simp [sumsV]
      refine CallK.pureE B_stand_sums_why (stand_why_spec _ _ _ _) (congrArg ii' (whyS_z hf (by omega) (by omega))) ?_
      simp
      refine ⟨_, _, _, _, _, _, _, _, rfl, [_, _, _, _], ⟨_, rfl⟩, rfl, .inr ⟨rfl, l2, rfl, by omega, by omega, g5, fun w k1 k2 => ?_⟩⟩
      by_cases hwd : w ≤ d
      · exact hd w k1 hwd
      · exact why_between hev (Int.le_refl _) (by omega) (by omega : w ≤ l1) (by omega) hz g4
  · exact ⟨⟨0, 0, rfl⟩, fun w _ _ => by omega⟩
  · rintro r σ' ⟨rfl, s, tl, rfl, hs, hJ | hS⟩
    · obtain ⟨⟨a, b, rfl⟩, hJ⟩ := hJ
      have hfi : firstR h lo hi = (0, 0) := firstN_none _ _ fun w g1 g2 => hJ w g1 (by omega)
      refine ⟨_, _, _, _, _, _, _, _, rfl, by simp, ?_⟩
      simp [hfi]
    · obtain ⟨w0, rfl, g1, g2, g3, g4⟩ := hS
      have hfi : firstR h lo hi = (whyZ h w0, w0) := firstN_some _ _ w0 g1 (by omega) g3 g4
      refine ⟨_, _, _, _, _, _, _, _, rfl, by simp, ?_⟩
      simp [hfi]
end Go.AM
namespace Go.AM
open Go.Proofs
set_option maxRecDepth 100000
set_option maxHeartbeats 1000000
theorem spanErr_out (lo hi : Int) : spanErr (lo, hi) 0 1000 = if beyondF 0 1000 [lo, hi] then 7 else if hi < lo then 2 else 0 := by
  unfold spanErr
  simp only [beyondF, insF_out, List.any_cons, List.any_nil, Bool.or_false, Bool.not_not]
theorem spanErr_zero {lo hi : Int} (h : spanErr (lo, hi) 0 1000 = 0) : 0 ≤ lo ∧ lo ≤ hi ∧ hi ≤ 1000 := by
  rw [spanErr_out] at h
  split at h
  · cases h
  · rename_i h1
    split at h
    · cases h
    · simp [beyondF, outF] at h1
      omega
theorem stand_tidal_spec (lo hi : Int) (σ : AHeap) : Spec Tryz.prog F_stand_tidal [tideV lo hi] σ fun r σ' => r = .ret (ii' (spanErr (lo, hi) 0 1000)) ∧ σ' = σ := by
  refine Spec.pureFn (spec_stand_tidal (by simp) (awpC_sound _ ?_)) rfl rfl σ
  have hs := spanErr_out lo hi
  simp [C_stand_tidal, tideV]
  refine (tf (beyondF 0 1000 [lo, hi])).elim (fun h1 => ?_) (fun h1 => ?_)
  · refine CallK.pureE B_stand_beyond (stand_beyond_spec 0 1000 [lo, hi] (by simp [maxLen]) _) (congrArg AVal.bool h1) ?_
    rw [h1] at hs
    refine (Classical.em (hi < lo)).elim (fun h2 => ?_) (fun h2 => ?_)
    · simp [hs, h2]
    · simp [hs, h2]
  · refine CallK.pureE B_stand_beyond (stand_beyond_spec 0 1000 [lo, hi] (by simp [maxLen]) _) (congrArg AVal.bool h1) ?_
    rw [h1] at hs
    simp [hs]
theorem r05_tided_spec (e lo hi : Int) (σ : AHeap) : Spec Tryz.prog F_r05_tided [ii' e, tideV lo hi] σ fun r σ' => r = .ret (ii' (if e = 0 then spanErr (lo, hi) 0 1000 else e)) ∧ σ' = σ := by
  refine Spec.pureFn (spec_r05_tided (by simp) (awpC_sound _ ?_)) rfl rfl σ
  refine (Classical.em (e = 0)).elim (fun h => ?_) (fun h => ?_)
  · simp [C_r05_tided, tideV, h]
    refine CallK.pure B_r01_Range (r01_Range_spec lo hi 0 1000 _) ?_
    simp
  · simp [C_r05_tided, tideV, h]
def whyR (h : HullM) (lo hi : Int) : Int × Int × Int :=
  if eF h ≠ 0 then (0, 0, eF h) else if spanErr (lo, hi) 0 1000 ≠ 0 then (0, 0, spanErr (lo, hi) 0 1000) else ((firstR h lo hi).1, (firstR h lo hi).2, 0)
theorem stand_Why_spec (h : HullM) (hl : h.ps.length ≤ maxLen) (lo hi : Int) (σ : AHeap) : Spec Tryz.prog F_stand_Why [h.v, tideV lo hi] σ fun r σ' => r = .ret (tripV (whyR h lo hi)) ∧ σ' = σ := by
  refine Spec.pureFn (spec_stand_Why (by simp) (awpC_sound _ ?_)) (by simp [h.pure]; rfl) rfl σ
  simp [C_stand_Why, HullM.v, HullM.cells, tideV]
  refine CallK.pure B_stand_Check (stand_Check_spec h hl _) ?_
  refine (Classical.em (eF h = 0)).elim (fun he => ?_) (fun he => ?_)
  rotate_left
  · have he' : ¬ (checkF h).2.2 = 0 := he
    simp [tripV, he', whyR, he]
    rfl
  have he' : (checkF h).2.2 = 0 := he
  simp [tripV, he']
  refine CallK.pure B_stand_tidal (stand_tidal_spec lo hi _) ?_
  refine (Classical.em (spanErr (lo, hi) 0 1000 = 0)).elim (fun hs => ?_) (fun hs => ?_)
  rotate_left
  · simp [hs, whyR, he, tripV]
  have hb := spanErr_zero hs
  simp [hs]
  refine CallK.pure B_stand_body_first (stand_first_spec h (fine_of he) lo hi hb.1 hb.2.1 hb.2.2 _) ?_
  simp [whyR, he, hs, tripV]
theorem r05_Why_spec (h : HullM) (hl : h.ps.length ≤ maxLen) (lo hi : Int) (σ : AHeap) : Spec Tryz.prog F_r05_Why [h.v, tideV lo hi] σ fun r σ' => r = .ret (tripV (whyR h lo hi)) ∧ σ' = σ := by
  refine Spec.pureFn (spec_r05_Why (by simp) (awpC_sound _ ?_)) (by simp [h.pure]; rfl) rfl σ
  simp [C_r05_Why, HullM.v, HullM.cells, tideV]
  refine CallK.pureE B_r05_Check (r05_Check_spec h hl _) (show tripR (checkR h) = .tup [ii' (checkF h).1, ii' (checkF h).2.1, ii' (eF h)] by rw [← check_eq]; rfl) ?_
  simp
  refine CallK.pure B_r05_tided (r05_tided_spec _ lo hi _) ?_
  refine (Classical.em (eF h = 0)).elim (fun he => ?_) (fun he => ?_)
  rotate_left
  · simp [he, whyR, tripV]
  refine (Classical.em (spanErr (lo, hi) 0 1000 = 0)).elim (fun hs => ?_) (fun hs => ?_)
  rotate_left
  · simp [hs, whyR, he, tripV]
  have hb := spanErr_zero hs
  simp [hs, he]
  refine CallK.pure B_r05_first (r05_first_spec h (fine_of he) lo hi hb.1 hb.2.2 _) ?_
  simp [whyR, he, hs, tripV]
end Go.AM
namespace Go.AM
open Go.Proofs
set_option maxRecDepth 100000
set_option maxHeartbeats 1000000
structure TaskM where
  ship : List HuM
  hull : HullM
  lo : Int
  hi : Int
  net : NetM
  blanks : List Int
  steps : List StepM
  tanks : List (List Int)
def intsS (l : List Int) : AVal := .slice 1 (l.map ii')
def TaskM.cells (t : TaskM) : List AVal := [.slice 7 (t.ship.map HuM.v), .slice 7 (t.hull.ps.map PartM.v), ii' t.hull.aft, ii' t.hull.fore, ii' t.lo, ii' t.hi, .slice 2 (t.net.tanks.map TankM.v), .slice 3 (t.net.pipes.map PipeM.v), .slice 1 (t.blanks.map ii'), .slice 2 (t.steps.map StepM.v), .slice 1 (t.tanks.map intsS)]
def TaskM.v (t : TaskM) : AVal := .agg t.cells
theorem intsS_pure (l : List Int) : (intsS l).pure = true := by simp [intsS, AVal.pure, pures_map (f := ii') (fun _ => rfl)]
theorem TaskM.pure (t : TaskM) : t.v.pure = true := by
  simp [TaskM.v, TaskM.cells, AVal.pure, pures, pures_map (f := ii') (fun _ => rfl), pures_map (f := HuM.v) (fun p => p.pure), pures_map (f := PartM.v) (fun _ => rfl), pures_map (f := TankM.v) (fun p => p.pure), pures_map (f := PipeM.v) (fun _ => rfl), pures_map (f := StepM.v) (fun p => p.pure), pures_map (f := intsS) intsS_pure]
structure TaskM.Ok (t : TaskM) : Prop where
  ship : okHu t.ship
  hull : t.hull.ps.length ≤ maxLen
  tk : t.net.tanks.length ≤ maxLen
  pp : t.net.pipes.length ≤ maxLen
  bl : t.blanks.length ≤ maxLen
  st : t.steps.length ≤ maxLen
  tl : t.tanks.length ≤ maxLen
  tls : ∀ l ∈ t.tanks, l.length ≤ maxLen
def namesE : List HuM → List PartM → Nat → Int × Int × Int
  | x :: r, y :: s, i => if y.name.toList = x.name.toList then namesE r s (i + 1) else (2, i, 4)
  | _, _, _ => (0, 0, 0)
abbrev listE (m : Int) (l : List Int) : Int := eachE m (fun _ => false) l l 0
def listsE (m : Int) : List (List Int) → Nat → Int × Int × Int
  | [], _ => (0, 0, 0)
  | l :: r, i => if listE m l ≠ 0 then (5, i, listE m l) else listsE m r (i + 1)
def checkT (t : TaskM) : Int × Int × Int :=
  if (shipP t.ship).2.2 ≠ 0 then (1, (shipP t.ship).2.1, (shipP t.ship).2.2)
  else if eF t.hull ≠ 0 then (2, 0, eF t.hull)
  else if t.hull.ps.length ≠ t.ship.length ∨ 7 < t.ship.length then (2, 0, 3)
  else if (namesE t.ship t.hull.ps 0).1 ≠ 0 then namesE t.ship t.hull.ps 0
  else if (whyR t.hull t.lo t.hi).2.2 ≠ 0 then (3, 0, (whyR t.hull t.lo t.hi).2.2)
  else if (afterM t.net t.blanks t.steps).1 ≠ 0 then (4, 0, (afterM t.net t.blanks t.steps).1)
  else if t.tanks.length ≠ t.ship.length then (5, 0, 3)
  else listsE t.net.tanks.length t.tanks 0
def afterS (r : Int × Nat × Nat) : AVal := if r.1 = 0 then .agg [.slice 1 ((bitsL r.2.1).map ii'), .slice 1 ((bitsL r.2.2).map ii')] else .agg [.slice 1 [], .slice 1 []]
theorem afterV_eq (r : Int × Nat × Nat) : afterV r = .tup [afterS r, ii' r.1] := by
  unfold afterV afterS
  split
  · rename_i h; rw [h]
  · rfl
end Go.AM
namespace Go.AM
open Go.Proofs
set_option maxRecDepth 100000
set_option maxHeartbeats 1000000
theorem cut_beyond_1_spec (n m : Int) (σ : AHeap) : Spec Tryz.prog F_cut_beyond_1 [ii' n, .pval (ii' m)] σ fun r σ' => r = .ret (.bool (outM m n)) ∧ σ' = σ := by
  refine Spec.pureFn (spec_cut_beyond_1 (by simp) (awpC_sound _ ?_)) rfl rfl σ
  simp [C_cut_beyond_1, outM]
theorem cut_beyond_spec (m : Int) (l : List Int) (hl : l.length ≤ maxLen) (σ : AHeap) :
    Spec Tryz.prog F_cut_beyond [ii' m, .slice 1 (l.map ii')] σ fun r σ' => r = .ret (.bool (l.any (outM m))) ∧ σ' = σ := by
  refine Spec.pureFn (spec_cut_beyond (by simp) (awpC_sound _ ?_)) (by simp [pures_map (f := ii') (fun _ => rfl)]) rfl σ
  simp [C_cut_beyond]
  refine CallK.pure B_slices_ContainsFunc_int_int (slices_ContainsFunc_int_spec _ _ (by simp [pures, AVal.pure]) (outM m) l hl (fun x _ => PureF.fn B_cut_beyond_1 (fun σ => cut_beyond_1_spec x m σ)) _) ?_
  simp
abbrev tyWrong : TypeId := 81
def wrongV (p a e : Int) : AVal := .iface tyWrong (.agg [ii' p, ii' a, ii' e])
theorem cut_must_spec (p a e : Int) (σ : AHeap) : Spec Tryz.prog F_cut_must [ii' p, ii' a, ii' e] σ fun r σ' => r = (if e = 0 then .ret (.tup []) else .pan (wrongV p a e)) ∧ σ' = σ := by
  refine spec_cut_must (by simp) (awpC_sound _ ?_)
  by_cases h : e = 0
  · simp [C_cut_must, h]
  · simp [C_cut_must, h, wrongV]
theorem cut_Check_1_none (a b c : Nat) (σ : AHeap) : DSpec Tryz.prog F_cut_Check_1 [.ptr a 0, .ptr b 0, .ptr c 0] σ .none fun m σ' => m = .none ∧ σ' = σ := by
  refine dspec_cut_Check_1 (by simp) (awpC_sound _ ?_)
  simp [C_cut_Check_1, PM.after]
theorem cut_Check_1_pan (p q e x y z : Int) (tl : AHeap) :
    DSpec Tryz.prog F_cut_Check_1 [.ptr 0 0, .ptr 1 0, .ptr 2 0] (.box [ii' x] :: .box [ii' y] :: .box [ii' z] :: tl) (.pan (wrongV p q e)) fun m σ' => (∃ v, m = .recd v) ∧ ∃ tl, σ' = .box [ii' p] :: .box [ii' q] :: .box [ii' e] :: tl := by
  refine dspec_cut_Check_1 (by simp) (awpC_sound _ ?_)
  simp [C_cut_Check_1, PM.after, wrongV]
theorem cut_pan (p q e x y z : Int) (tl : AHeap) {R : PM → AHeap → Prop} (h : ∀ v tl, R (.recd v) (.box [ii' p] :: .box [ii' q] :: .box [ii' e] :: tl)) :
    hasBody Tryz.prog F_cut_Check_1 = true ∧ DSpec Tryz.prog F_cut_Check_1 [.ptr 0 0, .ptr 1 0, .ptr 2 0] (.box [ii' x] :: .box [ii' y] :: .box [ii' z] :: tl) (.pan (wrongV p q e)) R :=
  ⟨B_cut_Check_1, (cut_Check_1_pan p q e x y z tl).mono (by rintro m σ' ⟨⟨v, rfl⟩, tl, rfl⟩; exact h v tl)⟩
theorem cut_Check_spec (t : TaskM) (hok : t.Ok) (σ : AHeap) : Spec Tryz.prog F_cut_Check [t.v] σ fun r σ' => r = .ret (tripV (checkT t)) ∧ σ' = σ := by
  refine Spec.pureFn (spec_cut_Check (by simp) (awpC_sound _ ?_)) (by simp [pures, t.pure]) rfl σ
  have hq1 := fun σ => hull_Check_spec t.ship hok.ship σ
  have hq2 : ∀ σ, Spec Tryz.prog F_stand_Check [t.hull.v] σ fun r σ' => r = .ret (.tup [ii' (checkF t.hull).1, ii' (checkF t.hull).2.1, ii' (eF t.hull)]) ∧ σ' = σ := fun σ => stand_Check_spec t.hull hok.hull σ
  have hq3 := fun σ => stand_Why_spec t.hull hok.hull t.lo t.hi σ
  have hq4 := fun σ => vent_After_spec t.net t.blanks t.steps hok.tk hok.pp hok.bl σ
  rw [afterV_eq] at hq4
  obtain ⟨c, hc⟩ : ∃ c, checkT t = c := ⟨_, rfl⟩
  have hc' := hc
  unfold checkT at hc'
  rw [hc]
  simp [C_cut_Check, TaskM.v, TaskM.cells]
  refine CallK.pure B_hull_Check (hq1 _) ?_
  simp [tripV]
  refine (Classical.em ((shipP t.ship).2.2 = 0)).elim (fun h1 => ?_) (fun h1 => ?_)
  rotate_left
  · rw [if_pos h1] at hc'
    refine CallK.panE B_cut_must (cut_must_spec _ _ _ _) (if_neg h1) ?_
    simp
    refine cut_pan _ _ _ _ _ _ _ fun v tl => ?_
    simp
    rw [← hc']; rfl
  rw [if_neg (by simp [h1])] at hc'
  refine CallK.retE B_cut_must (cut_must_spec _ _ _ _) (if_pos h1) ?_
  simp
  refine CallK.pure B_stand_Check (hq2 _) ?_
  simp
  refine (Classical.em (eF t.hull = 0)).elim (fun h2 => ?_) (fun h2 => ?_)
  rotate_left
  · rw [if_pos h2] at hc'
    refine CallK.panE B_cut_must (cut_must_spec _ _ _ _) (if_neg h2) ?_
    simp
    refine cut_pan _ _ _ _ _ _ _ fun v tl => ?_
    simp
    rw [← hc']; rfl
  rw [if_neg (by simp [h2])] at hc'
  refine CallK.retE B_cut_must (cut_must_spec _ _ _ _) (if_pos h2) ?_
  simp
  refine ⟨fun h3 => ?_, fun h3 h4 => ?_⟩
  · rw [if_pos (by omega)] at hc'
    refine CallK.panE B_cut_must (cut_must_spec 2 0 3 _) (if_neg (by omega)) ?_
    simp
    refine cut_pan _ _ _ _ _ _ _ fun v tl => ?_
    simp
    rw [← hc']; rfl
  have hlen : t.hull.ps.length = t.ship.length := by omega
  rw [if_neg (by omega)] at hc'
  refine AW.loop (ι := Nat) (fun i fr σ' => ∃ x y z tl, fr = { v := [(1, .pval (.agg [.slice 7 (t.ship.map HuM.v), .slice 7 (t.hull.ps.map PartM.v), ii' t.hull.aft, ii' t.hull.fore, ii' t.lo, ii' t.hi, .slice 2 (t.net.tanks.map TankM.v), .slice 3 (t.net.pipes.map PipeM.v), .slice 1 (t.blanks.map ii'), .slice 2 (t.steps.map StepM.v), .slice 1 (t.tanks.map intsS)])), (2, .ptr 0 0), (3, .ptr 1 0), (4, .ptr 2 0), (5, .int .i64 t.ship.length), (50, .slice 7 (t.ship.map HuM.v)), (51, .int .i64 t.ship.length), (52, .int .i64 i)], ds := [.fn (.func (.func F_cut_Check_1) [] [.ptr 0 0, .ptr 1 0, .ptr 2 0]) []] } ∧
    σ' = .box [ii' x] :: .box [ii' y] :: .box [ii' z] :: tl ∧ i ≤ t.ship.length ∧ namesE t.ship t.hull.ps 0 = namesE (t.ship.drop i) (t.hull.ps.drop i) i) (fun i => t.ship.length - i) 0 ⟨_, _, _, _, by simp, rfl, by omega, rfl⟩ ?_
  rintro i fr σ' ⟨x0, y0, z0, tl, rfl, rfl, hi, hnm⟩
  refine (Nat.lt_or_ge i t.ship.length).elim (fun hlt => ?_) (fun hge => ?_)
  · have hlt2 : i < t.hull.ps.length := by omega
    have hd : t.ship.drop i = t.ship[i] :: t.ship.drop (i + 1) := List.drop_eq_getElem_cons hlt
    have hd2 : t.hull.ps.drop i = t.hull.ps[i] :: t.hull.ps.drop (i + 1) := List.drop_eq_getElem_cons hlt2
    obtain ⟨x, hx⟩ : ∃ x, t.ship[i] = x := ⟨_, rfl⟩
    obtain ⟨y, hy⟩ : ∃ y, t.hull.ps[i] = y := ⟨_, rfl⟩
    rw [hd, hd2, hx, hy] at hnm
    simp only [namesE] at hnm
    have hw1 : IntKind.i64.wrap ((i : Int) + 1) = ((i + 1 : Nat) : Int) := by rw [wrap_id (by omega) (by omega)]; simp
    refine awpC_sound _ ?_
    simp [hlt, hlt2, hx, hy, HuM.v, HuM.cells, PartM.v, PartM.cells]
    refine ⟨fun h5 => ?_, fun h5 => ?_⟩
    rotate_left
    · exact ⟨i + 1, by omega, hw1, by omega, by rw [hnm, if_pos h5]⟩
    rw [if_neg h5] at hnm
    rw [hnm, if_pos (by simp)] at hc'
    refine CallK.panE B_cut_must (cut_must_spec 2 i 4 _) (if_neg (by omega)) ?_
    simp
    refine cut_pan _ _ _ _ _ _ _ fun v tl => ?_
    simp
    rw [← hc']; rfl
  have hnl : ¬ i < t.ship.length := by omega
  have hz : t.ship.drop i = [] := List.drop_eq_nil_of_le hge
  rw [hz] at hnm
  replace hnm : namesE t.ship t.hull.ps 0 = (0, 0, 0) := hnm
  rw [hnm, if_neg (by simp)] at hc'
  refine awpC_sound _ ?_
  simp [hnl]
  refine CallK.pure B_stand_Why (hq3 _) ?_
  simp [tripV]
  refine (Classical.em ((whyR t.hull t.lo t.hi).2.2 = 0)).elim (fun h5 => ?_) (fun h5 => ?_)
  rotate_left
  · rw [if_pos h5] at hc'
    refine CallK.panE B_cut_must (cut_must_spec 3 0 _ _) (if_neg h5) ?_
    simp
    refine cut_pan _ _ _ _ _ _ _ fun v tl => ?_
    simp
    rw [← hc']; rfl
  rw [if_neg (by simp [h5])] at hc'
  refine CallK.retE B_cut_must (cut_must_spec 3 0 _ _) (if_pos h5) ?_
  simp
  refine CallK.pure B_vent_After (hq4 _) ?_
  simp
  refine (Classical.em ((afterM t.net t.blanks t.steps).1 = 0)).elim (fun h6 => ?_) (fun h6 => ?_)
  rotate_left
  · rw [if_pos h6] at hc'
    refine CallK.panE B_cut_must (cut_must_spec 4 0 _ _) (if_neg h6) ?_
    simp
    refine cut_pan _ _ _ _ _ _ _ fun v tl => ?_
    simp
    rw [← hc']; rfl
  rw [if_neg (by simp [h6])] at hc'
  refine CallK.retE B_cut_must (cut_must_spec 4 0 _ _) (if_pos h6) ?_
  simp
  refine ⟨fun h7 => ?_, fun h7 => ?_⟩
  · rw [if_pos (by omega)] at hc'
    refine CallK.panE B_cut_must (cut_must_spec 5 0 3 _) (if_neg (by omega)) ?_
    simp
    refine cut_pan _ _ _ _ _ _ _ fun v tl => ?_
    simp
    rw [← hc']; rfl
  have hlen2 : t.tanks.length = t.ship.length := by omega
  rw [if_neg (by omega)] at hc'
  refine AW.loop (ι := Nat) (fun i fr σ' => ∃ x y z tl, fr = { v := [(1, .pval (.agg [.slice 7 (t.ship.map HuM.v), .slice 7 (t.hull.ps.map PartM.v), ii' t.hull.aft, ii' t.hull.fore, ii' t.lo, ii' t.hi, .slice 2 (t.net.tanks.map TankM.v), .slice 3 (t.net.pipes.map PipeM.v), .slice 1 (t.blanks.map ii'), .slice 2 (t.steps.map StepM.v), .slice 1 (t.tanks.map intsS)])), (2, .ptr 0 0), (3, .ptr 1 0), (4, .ptr 2 0), (100, .slice 1 (t.tanks.map intsS)), (101, .int .i64 t.tanks.length), (102, .int .i64 i)], ds := [.fn (.func (.func F_cut_Check_1) [] [.ptr 0 0, .ptr 1 0, .ptr 2 0]) []] } ∧
    σ' = .box [ii' x] :: .box [ii' y] :: .box [ii' z] :: tl ∧ i ≤ t.tanks.length ∧ listsE t.net.tanks.length (t.tanks.drop i) i = c) (fun i => t.tanks.length - i) 0 ⟨_, _, _, _, by simp, rfl, by omega, hc'⟩ ?_
  rintro i fr σ' ⟨x1, y1, z1, tl1, rfl, rfl, hi, hls⟩
  refine (Nat.lt_or_ge i t.tanks.length).elim (fun hlt => ?_) (fun hge => ?_)
  rotate_left
  · have hnl : ¬ i < t.tanks.length := by omega
    have hz : t.tanks.drop i = [] := List.drop_eq_nil_of_le hge
    rw [hz] at hls
    refine awpC_sound _ ?_
    simp [hnl]
    refine ⟨B_cut_Check_1, (cut_Check_1_none _ _ _ _).mono ?_⟩
    rintro m' σ' ⟨rfl, rfl⟩
    simp
    rw [← hls]; rfl
  have hd : t.tanks.drop i = t.tanks[i] :: t.tanks.drop (i + 1) := List.drop_eq_getElem_cons hlt
  obtain ⟨l, hl⟩ : ∃ l, t.tanks[i] = l := ⟨_, rfl⟩
  have hll := hok.tls l (hl ▸ List.getElem_mem _)
  rw [hd, hl] at hls
  simp only [listsE] at hls
  have hw1 : IntKind.i64.wrap ((i : Int) + 1) = ((i + 1 : Nat) : Int) := by rw [wrap_id (by omega) (by omega)]; simp
  refine awpC_sound _ ?_
  simp [hlt, hl, intsS]
  refine AW.loop (ι := Nat) (fun k fr σ' => ∃ x y z tl, fr = { v := [(1, .pval (.agg [.slice 7 (t.ship.map HuM.v), .slice 7 (t.hull.ps.map PartM.v), ii' t.hull.aft, ii' t.hull.fore, ii' t.lo, ii' t.hi, .slice 2 (t.net.tanks.map TankM.v), .slice 3 (t.net.pipes.map PipeM.v), .slice 1 (t.blanks.map ii'), .slice 2 (t.steps.map StepM.v), .slice 1 (t.tanks.map intsS)])), (2, .ptr 0 0), (3, .ptr 1 0), (4, .ptr 2 0), (8, .int .i64 i), (9, .slice 1 (l.map ii')), (100, .slice 1 (t.tanks.map intsS)), (101, .int .i64 t.tanks.length), (102, .int .i64 i), (107, .slice 1 (l.map ii')), (108, .int .i64 l.length), (109, .int .i64 k)], ds := [.fn (.func (.func F_cut_Check_1) [] [.ptr 0 0, .ptr 1 0, .ptr 2 0]) []] } ∧
    σ' = .box [ii' x] :: .box [ii' y] :: .box [ii' z] :: tl ∧ k ≤ l.length ∧ listE t.net.tanks.length l = eachE t.net.tanks.length (fun _ => false) l (l.drop k) k) (fun k => l.length - k) 0 ⟨_, _, _, _, by simp, rfl, by omega, rfl⟩ ?_
  rintro k fr σ' ⟨x2, y2, z2, tl2, rfl, rfl, hk, hle⟩
  refine (Nat.lt_or_ge k l.length).elim (fun hkl => ?_) (fun hkg => ?_)
  rotate_left
  · have hnl : ¬ k < l.length := by omega
    have hz : l.drop k = [] := List.drop_eq_nil_of_le hkg
    rw [hz] at hle
    replace hle : listE t.net.tanks.length l = 0 := hle
    rw [if_neg (by simp [hle])] at hls
    refine awpC_sound _ ?_
    simp [hnl]
    exact ⟨i + 1, by omega, hw1, by omega, hls⟩
  have hdk : l.drop k = l[k] :: l.drop (k + 1) := List.drop_eq_getElem_cons hkl
  obtain ⟨b, hb⟩ : ∃ b, l[k] = b := ⟨_, rfl⟩
  rw [hdk, hb] at hle
  simp only [eachE] at hle
  refine awpC_sound _ ?_
  simp [hkl, hb]
  refine (tf (outM t.net.tanks.length b)).elim (fun h8 => ?_) (fun h8 => ?_)
  rotate_left
  · refine CallK.pureE B_cut_beyond (cut_beyond_spec t.net.tanks.length [b] (by simp [maxLen]) _) (congrArg AVal.bool (show [b].any (outM t.net.tanks.length) = true by simp [h8])) ?_
    rw [if_pos h8] at hle
    rw [if_pos (by rw [hle]; simp), hle] at hls
    simp
    refine CallK.panE B_cut_must (cut_must_spec 5 i 4 _) (if_neg (by omega)) ?_
    simp
    refine cut_pan _ _ _ _ _ _ _ fun v tl => ?_
    simp
    rw [← hls]; rfl
  refine CallK.pureE B_cut_beyond (cut_beyond_spec t.net.tanks.length [b] (by simp [maxLen]) _) (congrArg AVal.bool (show [b].any (outM t.net.tanks.length) = false by simp [h8])) ?_
  rw [if_neg (by simp [h8])] at hle
  refine (Nat.eq_zero_or_pos k).elim (fun h0 => ?_) (fun h0 => ?_)
  · subst h0
    rw [if_neg (by simp)] at hle
    have hw0 : IntKind.i64.wrap (-1) = -1 := by decide
    simp [hw0, hkl, hb]
    exact ⟨1, by omega, rfl, by omega, by simpa using hle⟩
  obtain ⟨j, rfl⟩ : ∃ j, k = j + 1 := ⟨k - 1, by omega⟩
  have hw : IntKind.i64.wrap (((j + 1 : Nat) : Int) - 1) = j := by rw [show (((j + 1 : Nat) : Int) - 1) = (j : Int) by omega]; exact wrap_id (by omega) (by simp only [maxLen] at hll; omega)
  have hjl : j < l.length := by omega
  obtain ⟨d, hdj⟩ : ∃ d, l[j] = d := ⟨_, rfl⟩
  have hgb : l.getD (j + 1 - 1) 0 = d := by simp [hjl, hdj]
  have hwk : IntKind.i64.wrap ((j : Int) + 1 + 1) = ((j + 2 : Nat) : Int) := by rw [show (j : Int) + 1 + 1 = ((j + 2 : Nat) : Int) by omega]; exact wrap_id (by omega) (by simp only [maxLen] at hll; omega)
  have hw2 : IntKind.i64.wrap (j : Int) = j := wrap_id (by omega) (by simp only [maxLen] at hll; omega)
  have hj0 : (0 : Int) < (j : Int) + 1 := by omega
  rw [hgb] at hle
  refine (Classical.em (b ≤ d)).elim (fun h10 => ?_) (fun h10 => ?_)
  · rw [if_pos ⟨by omega, h10⟩] at hle
    rw [if_pos (by rw [hle]; simp), hle] at hls
    simp [hjl, hdj, hkl, hb, hj0, hw2, h10]
    refine CallK.panE B_cut_must (cut_must_spec 5 i 2 _) (if_neg (by omega)) ?_
    simp
    refine cut_pan _ _ _ _ _ _ _ fun v tl => ?_
    simp
    rw [← hls]; rfl
  · simp [hjl, hdj, hkl, hb, hj0, hw2, h10]
    exact ⟨j + 2, by omega, hwk, by omega, by rw [hle, if_neg (by omega)]; simp⟩
end Go.AM
namespace Go.AM
open Go.Proofs
set_option maxRecDepth 100000
set_option maxHeartbeats 1000000
abbrev nn' (n : Nat) : AVal := .int .i64 (n : Int)
def onF (y : HuM) (nm : ByteArray) : Bool := y.on.any fun s => nm.toList == s.toList
def aboveA (nm : ByteArray) : List HuM → Nat → Nat → Nat
  | [], _, a => a
  | y :: r, k, a => aboveA nm r (k + 1) (if onF y nm then a ||| 2 ^ k else a)
def aboveT (t : TaskM) (i : Nat) : Nat := aboveA (t.ship.getD i ⟨.empty, 0, 0, 0, [], 0, 0⟩).name t.ship 0 0
def gasA (free : List Int) : List (List Int) → Nat → Nat → Nat
  | [], _, a => a
  | l :: r, i, a => gasA free r (i + 1) (if l.any (fun x => !free.contains x) then a ||| 2 ^ i else a)
def freeT (t : TaskM) : List Int := bitsL (afterM t.net t.blanks t.steps).2.1
def gasT (t : TaskM) : Nat := gasA (freeT t) t.tanks 0 0
def aboveV (t : TaskM) : List AVal := (List.range t.ship.length).map fun i => nn' (aboveT t i)
def cutC (t : TaskM) (N g : Nat) : List AVal := [.slice 7 (t.ship.map HuM.v), .slice 7 (t.hull.ps.map PartM.v), ii' t.hull.aft, ii' t.hull.fore, ii' t.lo, ii' t.hi, .slice 2 (t.net.tanks.map TankM.v), .slice 3 (t.net.pipes.map PipeM.v), .slice 1 (t.blanks.map ii'), .slice 2 (t.steps.map StepM.v), .slice 1 (t.tanks.map intsS), .sref 1 N 0 t.ship.length t.ship.length, nn' g, .map (N + 1)]
section
variable (t : TaskM) (N g : Nat)
@[simp] theorem cutC_len : (cutC t N g).length = 14 := rfl
@[simp] theorem cutC_1 : (cutC t N g)[1]? = some (.slice 7 (t.hull.ps.map PartM.v)) := rfl
@[simp] theorem cutC_11 : (cutC t N g)[11]? = some (.sref 1 N 0 t.ship.length t.ship.length) := rfl
@[simp] theorem cutC_12 : (cutC t N g)[12]? = some (nn' g) := rfl
@[simp] theorem cutC_13 : (cutC t N g)[13]? = some (.map (N + 1)) := rfl
@[simp] theorem cutC_set12 (g' : Nat) : (cutC t N g).set 12 (nn' g') = cutC t N g' := rfl
@[simp] theorem cutC_hull : List.take 3 (List.drop 1 (cutC t N g)) = t.hull.cells := rfl
@[simp] theorem cutC_tide : List.take 2 (List.drop 4 (cutC t N g)) = [ii' t.lo, ii' t.hi] := rfl
end
theorem aboveA_lt {nm : ByteArray} : ∀ {l : List HuM} {k a n : Nat}, k + l.length ≤ n → a < 2 ^ n → aboveA nm l k a < 2 ^ n
  | [], _, _, _, _, h => h
  | y :: r, k, a, n, hk, h => by
    rw [List.length_cons] at hk
    rw [aboveA]
    refine aboveA_lt (by omega) ?_
    split
    · exact Nat.or_lt_two_pow h (Nat.pow_lt_pow_right (by omega) (by omega))
    · exact h
theorem gasA_lt {free : List Int} : ∀ {l : List (List Int)} {k a n : Nat}, k + l.length ≤ n → a < 2 ^ n → gasA free l k a < 2 ^ n
  | [], _, _, _, _, h => h
  | y :: r, k, a, n, hk, h => by
    rw [List.length_cons] at hk
    rw [gasA]
    refine gasA_lt (by omega) ?_
    split
    · exact Nat.or_lt_two_pow h (Nat.pow_lt_pow_right (by omega) (by omega))
    · exact h
structure TaskM.Fit (t : TaskM) : Prop where
  ship7 : t.ship.length ≤ 7
  hull : t.hull.ps.length = t.ship.length
  tanks : t.tanks.length = t.ship.length
  err : eF t.hull = 0
  why : (whyR t.hull t.lo t.hi).2.2 = 0
  after : (afterM t.net t.blanks t.steps).1 = 0
theorem names_err : ∀ {S : List HuM} {H : List PartM} {i : Nat}, (namesE S H i).1 = 0 ∨ (namesE S H i).2.2 = 4
  | x :: r, y :: s, i => by
    simp only [namesE]
    split
    · exact names_err
    · exact .inr rfl
  | [], _, _ => .inl rfl
  | _ :: _, [], _ => .inl rfl
theorem check_fit {t : TaskM} (h : (checkT t).2.2 = 0) : t.Fit := by
  unfold checkT at h
  split at h
  · rename_i h1; exact absurd h h1
  split at h
  · rename_i h1; exact absurd h h1
  rename_i h2
  split at h
  · cases h
  rename_i h3
  split at h
  · rename_i h4
    rcases names_err (S := t.ship) (H := t.hull.ps) (i := 0) with e | e
    · exact absurd e h4
    · rw [e] at h; cases h
  split at h
  · rename_i h1; exact absurd h h1
  rename_i h5
  split at h
  · rename_i h1; exact absurd h h1
  rename_i h6
  split at h
  · cases h
  rename_i h7
  exact ⟨by omega, by omega, by omega, by simpa using h2, by simpa using h5, by simpa using h6⟩
end Go.AM
namespace Go.AM
open Go.Proofs
set_option maxRecDepth 100000
set_option maxHeartbeats 1000000
def subP : List PartM → Nat → Nat → List PartM
  | [], _, _ => []
  | p :: r, s, i => if s.testBit i then p :: subP r s (i + 1) else subP r s (i + 1)
def leftH (t : TaskM) (s : Nat) : HullM := { t.hull with ps := subP t.hull.ps s 0 }
def leftW (t : TaskM) (s : Nat) : Int := (whyR (leftH t s) t.lo t.hi).1
def fallsS (t : TaskM) (s : Nat) : Bool := !decide (s = 0) && !decide (leftW t s = 0)
def rem1 (s i : Nat) : Nat := andn s (2 ^ i)
def whyT (t : TaskM) (s i : Nat) : Nat := if !s.testBit i then 1 else if s &&& aboveT t i ≠ 0 then 2 else if (gasT t).testBit i then 3 else if fallsS t (rem1 s i) then 4 else 0
def pop (s : Nat) : Nat := ((List.range 7).filter s.testBit).length
def allT (t : TaskM) : Nat := 2 ^ t.ship.length - 1
theorem rem1_lt {s i : Nat} (hs : s < 128) : rem1 s i < 128 := Nat.lt_of_le_of_lt (andn_le _ _) hs
theorem rem1_sub : ∀ s, s < 128 → ∀ i, i < 7 → s.testBit i = true → rem1 s i = s - 2 ^ i ∧ 2 ^ i ≤ s := by decide
theorem pop_rem1 : ∀ s, s < 128 → ∀ i, i < 7 → s.testBit i = true → pop (rem1 s i) + 1 = pop s := by decide
theorem pop_le : ∀ s, s < 128 → pop s ≤ 7 := by decide
theorem pop_zero : ∀ s, s < 128 → pop s = 0 → s = 0 := by decide
theorem allT_lt {t : TaskM} (h : t.Fit) : allT t < 128 := by
  have := pow_lt7 (i := t.ship.length)
  have := h.ship7
  unfold allT
  have h2 : 2 ^ t.ship.length ≤ 2 ^ 7 := Nat.pow_le_pow_right (by omega) this
  have h3 : (2 : Nat) ^ 7 = 128 := rfl
  omega
theorem bit_all {n i : Nat} : (2 ^ n - 1).testBit i = decide (i < n) := Nat.testBit_two_pow_sub_one n i
theorem why_bit {t : TaskM} {s i : Nat} (h : whyT t s i = 0) : s.testBit i = true := by
  unfold whyT at h
  split at h
  · cases h
  · rename_i h1; simpa using h1
def Sub (t : TaskM) (s : Nat) : Prop := ∀ i, s.testBit i = true → i < t.ship.length
theorem Sub.lt {t : TaskM} (h : t.Fit) {s : Nat} (hs : Sub t s) : s < 128 := by
  have : s < 2 ^ 7 := Nat.lt_pow_two_of_testBit s fun i hi => by
    cases hb : s.testBit i
    · rfl
    · have := hs i hb; have := h.ship7; omega
  exact this
theorem Sub.rem {t : TaskM} {s i : Nat} (hs : Sub t s) : Sub t (rem1 s i) := fun k hk => by
  refine hs k ?_
  by_cases h64 : k < 64
  · rw [rem1, bit_andn _ _ _ h64] at hk
    exact (Bool.and_eq_true_iff.1 hk).1
  · have : rem1 s i < 2 ^ 64 := by unfold rem1 andn; exact BitVec.isLt _
    rw [bit_out this (by omega)] at hk
    cases hk
theorem Sub.all (t : TaskM) : Sub t (allT t) := fun i hi => by
  rw [allT, bit_all] at hi
  simpa using hi
def canL (t : TaskM) (s : Nat) : List Nat := (List.range t.ship.length).filter fun i => whyT t s i == 0
theorem canL_mem {t : TaskM} {s i : Nat} : i ∈ canL t s ↔ i < t.ship.length ∧ whyT t s i = 0 := by simp [canL]
def maxL (f : Nat → Nat) (l : List Nat) (n : Nat) : Nat := l.foldl (fun n i => max n (1 + f i)) n
theorem maxL_le {f : Nat → Nat} : ∀ {l : List Nat} {n m : Nat}, maxL f l n ≤ m ↔ n ≤ m ∧ ∀ i ∈ l, 1 + f i ≤ m
  | [], n, m => by simp [maxL]
  | x :: l, n, m => by
    have := maxL_le (f := f) (l := l) (n := max n (1 + f x)) (m := m)
    simp only [maxL, List.foldl_cons] at this ⊢
    rw [this]
    simp only [List.mem_cons, forall_eq_or_imp, Nat.max_le, and_assoc]
theorem maxL_congr {f g : Nat → Nat} {l : List Nat} {n : Nat} (h : ∀ i ∈ l, f i = g i) : maxL f l n = maxL g l n := by
  induction l generalizing n with
  | nil => rfl
  | cons x l ih =>
    simp only [maxL, List.foldl_cons]
    rw [h x (by simp)]
    exact ih fun i hi => h i (by simp [hi])
theorem maxL_mem {f : Nat → Nat} : ∀ {l : List Nat} {n : Nat}, maxL f l n = n ∨ ∃ i ∈ l, maxL f l n = 1 + f i
  | [], n => .inl rfl
  | x :: l, n => by
    rcases maxL_mem (f := f) (l := l) (n := max n (1 + f x)) with h | ⟨i, hi, h⟩
    · simp only [maxL, List.foldl_cons] at h ⊢
      rw [h]
      rcases Nat.le_total n (1 + f x) with g | g
      · right; exact ⟨x, by simp, Nat.max_eq_right g⟩
      · left; exact Nat.max_eq_left g
    · exact .inr ⟨i, by simp [hi], h⟩
def mostF (t : TaskM) : Nat → Nat → Nat
  | 0, _ => 0
  | k + 1, s => maxL (fun i => mostF t k (rem1 s i)) (canL t s) 0
def mostT (t : TaskM) (s : Nat) : Nat := mostF t (pop s) s
theorem mostF_le {t : TaskM} (hf : t.Fit) : ∀ {k s : Nat}, s < 128 → mostF t k s ≤ pop s
  | 0, s, _ => by simp [mostF]
  | k + 1, s, hs => by
    rw [mostF, maxL_le]
    refine ⟨by omega, fun i hi => ?_⟩
    obtain ⟨h1, h2⟩ := canL_mem.1 hi
    have := pop_rem1 s hs i (by have := hf.ship7; omega) (why_bit h2)
    have := mostF_le hf (k := k) (s := rem1 s i) (rem1_lt hs)
    omega
theorem mostF_eq {t : TaskM} (hf : t.Fit) : ∀ {k s : Nat}, s < 128 → pop s ≤ k → mostF t k s = mostT t s
  | 0, s, _, hk => by
    have : pop s = 0 := by omega
    rw [mostT, this]
  | k + 1, s, hs, hk => by
    rw [mostT]
    cases hp : pop s with
    | zero =>
      have := mostF_le hf (k := k + 1) hs
      rw [hp] at this
      simpa [mostF] using this
    | succ j =>
      rw [mostF, mostF]
      refine maxL_congr fun i hi => ?_
      obtain ⟨h1, h2⟩ := canL_mem.1 hi
      have := pop_rem1 s hs i (by have := hf.ship7; omega) (why_bit h2)
      rw [mostF_eq hf (rem1_lt hs) (by omega), mostT]
      congr 1
      omega
theorem mostT_eq {t : TaskM} (hf : t.Fit) {s : Nat} (hs : s < 128) : mostT t s = maxL (fun i => mostT t (rem1 s i)) (canL t s) 0 := by
  rw [← mostF_eq hf hs (k := pop s + 1) (by omega), mostF]
  refine maxL_congr fun i hi => ?_
  obtain ⟨h1, h2⟩ := canL_mem.1 hi
  have := pop_rem1 s hs i (by have := hf.ship7; omega) (why_bit h2)
  exact mostF_eq hf (rem1_lt hs) (by omega)
theorem mostT_le {t : TaskM} (hf : t.Fit) {s : Nat} (hs : s < 128) : mostT t s ≤ pop s := mostF_le hf hs
def wholeT (t : TaskM) (s : Nat) : Bool := mostT t s == pop s
theorem whole_iff {t : TaskM} (hf : t.Fit) {s : Nat} (hs : s < 128) : wholeT t s = true ↔ s = 0 ∨ ∃ i, i < t.ship.length ∧ whyT t s i = 0 ∧ wholeT t (rem1 s i) = true := by
  unfold wholeT
  constructor
  · intro h
    have h : mostT t s = pop s := by simpa using h
    by_cases h0 : s = 0
    · exact .inl h0
    right
    have hp : pop s ≠ 0 := fun e => h0 (pop_zero s hs e)
    rw [mostT_eq hf hs] at h
    rcases maxL_mem (f := fun i => mostT t (rem1 s i)) (l := canL t s) (n := 0) with e | ⟨i, hi, e⟩
    · omega
    · obtain ⟨h1, h2⟩ := canL_mem.1 hi
      refine ⟨i, h1, h2, ?_⟩
      have := pop_rem1 s hs i (by have := hf.ship7; omega) (why_bit h2)
      have h4 : 1 + mostT t (rem1 s i) = pop s := e.symm.trans h
      simp
      omega
  · rintro (h | ⟨i, h1, h2, h3⟩)
    · subst h; rfl
    · have h3 : mostT t (rem1 s i) = pop (rem1 s i) := by simpa using h3
      have := pop_rem1 s hs i (by have := hf.ship7; omega) (why_bit h2)
      have hle := mostT_le hf hs
      have : 1 + mostT t (rem1 s i) ≤ mostT t s := by
        rw [mostT_eq hf hs]
        exact (maxL_le (f := fun i => mostT t (rem1 s i))).1 (Nat.le_refl _) |>.2 i (canL_mem.2 ⟨h1, h2⟩)
      simp
      omega
def walkR (t : TaskM) : List Int → Nat → Nat → Int × Nat × Nat
  | [], _, s => (-1, 0, s)
  | x :: r, k, s => if whyT t s x.toNat ≠ 0 then ((k : Int), whyT t s x.toNat, s) else walkR t r (k + 1) (rem1 s x.toNat)
theorem walkR_sub {t : TaskM} : ∀ {l : List Int} {k s : Nat}, Sub t s → Sub t (walkR t l k s).2.2
  | [], _, _, h => h
  | x :: r, k, s, h => by
    rw [walkR]
    split
    · exact h
    · exact walkR_sub h.rem
end Go.AM
