/- StandForces: the call returns true, for any hull, truth, height of water and forces. -/
import Derived.Test.YtmgbkmobhjjkiaaT41
import Derived.Test.YtmgbkmobhjjkiaaT52
namespace Go.AM
open Go.Proofs
set_option maxRecDepth 100000
set_option maxHeartbeats 1000000

theorem ty49 : tyFs Try.prog 49 = some [27, 3, 47] := by kernel_rfl
theorem ty62 : tyFs Try.prog 62 = some [3, 3] := by kernel_rfl
theorem ty47 : tySl Try.prog 47 = some (62, 2, true) := by kernel_rfl

theorem shaped_forces {k : Nat} {us : List AVal} (h : Shaped Try.prog (k + 3) 47 us) : ∃ l : List (Int × Int), us = [frcV l] ∧ l.length ≤ maxLen := by
  obtain ⟨xs, rfl, hl, hx⟩ := h.sl ty47
  obtain ⟨l, rfl, _⟩ := list_of (f := frV) (p := fun _ => True) (xs := xs) fun v hv => by
    obtain ⟨cs, g1, g2⟩ := hx v hv
    obtain ⟨a, r, rfl, h1, b, r2, rfl, h2, rfl⟩ := g1.fs ty62
    obtain ⟨x, rfl⟩ := shaped_int h1 ty3
    obtain ⟨y, rfl⟩ := shaped_int h2 ty3
    exact ⟨(x, y), g2, trivial⟩
  exact ⟨l, rfl, by simpa using hl⟩

theorem shaped_truth' {k : Nat} {us : List AVal} (h : Shaped Try.prog (k + 3) 27 us) : ∃ t : TruthM, us = [.slice 1 (t.ws.map ii'), .slice 1 (t.ls.map ii')] := by
  obtain ⟨a, r, rfl, h1, b, r2, rfl, h2, rfl⟩ := h.fs ty27
  obtain ⟨l, rfl⟩ := shaped_ints h1
  obtain ⟨m, rfl⟩ := shaped_ints h2
  exact ⟨⟨l, m⟩, rfl⟩

theorem shaped_pressed {us : List AVal} (h : Shaped Try.prog 5 49 us) : ∃ (t : TruthM) (w : Int) (l : List (Int × Int)), us = [.slice 1 (t.ws.map ii'), .slice 1 (t.ls.map ii'), ii' w, frcV l] ∧ l.length ≤ maxLen := by
  obtain ⟨a, r, rfl, h1, b, r2, rfl, h2, c, r3, rfl, h3, rfl⟩ := h.fs ty49
  obtain ⟨t, rfl⟩ := shaped_truth' h1
  obtain ⟨x, rfl⟩ := shaped_int h2 ty3
  obtain ⟨l, rfl, hl⟩ := shaped_forces h3
  exact ⟨t, x, l, rfl, hl⟩

theorem forcesF_len (h : HullM) (t : TruthM) (water : Int) : (forcesF h t water).1.length ≤ maxLen := by
  unfold forcesF
  split
  · simp [maxLen]
  · split <;> simp [maxLen]

theorem forces_spec (h : HullM) (t : TruthM) (hl : h.ps.length ≤ maxLen) (water : Int) (l : List (Int × Int)) (hf : l.length ≤ maxLen) (awake_spec : ∀ σ, Spec Try.prog F_l05_Awake [] σ fun r σ' => r = .ret (.bool true) ∧ σ' = σ) :
    Spec Try.prog F_l05_StandForces [h.v, .agg [.slice 1 (t.ws.map ii'), .slice 1 (t.ls.map ii'), ii' water, frcV l]] [] fun r _ => r = .ret (.bool true) := by
  refine spec_l05_StandForces (by simp) (awpC_sound _ ?_)
  simp [C_l05_StandForces, HullM.v, HullM.cells, frcV]
  refine CallK.pure B_stand_Forces (stand_Forces_spec h t hl water _) ?_
  simp [frcV]
  refine CallK.pure B_r05_Forces (r05_Forces_spec h t hl water _) ?_
  simp [frcV]
  refine CallK.pure B_r05_Alike (r05_Alike_spec _ (forcesF_len h t water) _) ?_
  simp
  refine CallK.pure B_stand_Bears (stand_Bears_spec h t hl water l hf _) ?_
  simp
  refine CallK.pureE B_r05_Bears (r05_Bears_spec h t hl water l hf _) (show _ = AVal.tup [.bool (bearsPF h t water l), ii' (bearE h t water l)] by rw [bearsPQ]) ?_
  simp
  exact CallK.pure B_l05_Awake (awake_spec _) (by simp)
end Go.AM
