/- The plain law of StandBalances: what the program's walks compute is what the document's do. -/
import Derived.Test.YtmgbkmobhjjkiaaT34i
import Derived.Test.YtmgbkmobhjjkiaaT34m
namespace Go.AM
open Go.Proofs
set_option maxRecDepth 100000
set_option maxHeartbeats 1000000

theorem insF_out (n lo hi : Int) : insF n lo hi = !outF lo hi n := by
  rw [Bool.eq_iff_iff]; simp [insF, outF]

theorem partE_eq (p : PartM) : partE p = partR p := by
  unfold partE partR spanErr
  simp only [beyondF, insF_out, List.any_cons, List.any_nil, Bool.or_false, Bool.not_not]
  rcases tf (outF 0 5000 p.at_) with h1 | h1 <;> rcases tf (outF 0 1000 p.keel) with h2 | h2 <;> rcases tf (outF 0 1000000 p.wLo) with h3 | h3 <;> rcases tf (outF 0 1000000 p.wHi) with h4 | h4 <;> rcases tf (outF 0 5000 p.lLo) with h5 | h5 <;> rcases tf (outF 0 5000 p.lHi) with h6 | h6 <;> simp only [h1, h2, h3, h4, h5, h6] <;>
    by_cases h7 : p.wHi < p.wLo <;> by_cases h8 : p.lHi < p.lLo <;> simp [h7, h8]

theorem placeF_any (s : ByteArray) : ∀ (l : List ByteArray) (i : Nat), 0 ≤ placeF l s i ↔ (l.any fun a => a.toList == s.toList) = true
  | [], i => by simp [placeF]
  | a :: r, i => by
    have ih := placeF_any s r (i + 1)
    have e : placeF (a :: r) s i = if a.toList == s.toList then (i : Int) else placeF r s (i + 1) := rfl
    rw [e, List.any_cons]
    by_cases h : (a.toList == s.toList) = true
    · rw [if_pos h, h]; simp
    · rw [if_neg h]
      have h' : (a.toList == s.toList) = false := by simpa using h
      rw [h', ih]; simp

theorem parts_eq (all : List PartM) : ∀ (l : List PartM) (i : Nat), partsE all l i = partsR all l i
  | [], _ => rfl
  | x :: r, i => by
    simp only [partsE, partsR, errR, freshF]
    rw [parts_eq all r (i + 1)]
    have hp := placeF_any x.name ((all.take i).map PartM.name) 0
    have ha : (((all.take i).map PartM.name).any fun a => a.toList == x.name.toList) = ((all.take i).any fun y => y.name.toList == x.name.toList) := by rw [List.any_map]; rfl
    rw [ha] at hp
    rcases tf (nameF x.name) with h1 | h1
    · simp [h1]
    · rcases tf ((all.take i).any fun y => y.name.toList == x.name.toList) with h2 | h2
      · have h3 : ¬ 0 ≤ placeF ((all.take i).map PartM.name) x.name 0 := by rw [hp, h2]; simp
        simp only [h1, h2, partE_eq, if_neg h3]
        simp
      · have h3 : 0 ≤ placeF ((all.take i).map PartM.name) x.name 0 := by rw [hp, h2]
        simp only [h1, h2, if_pos h3]
        simp

theorem check_eq (h : HullM) : checkF h = checkR h := by
  unfold checkF checkR
  rw [parts_eq]
  simp only [beyondF, insF_out, List.any_cons, List.any_nil, Bool.or_false]
  rcases tf (outF 1 10 (h.ps.length : Int)) with h1 | h1 <;> rcases tf (outF 0 5000 h.aft) with h2 | h2 <;> rcases tf (outF 0 5000 h.fore) with h3 | h3 <;> simp [h1, h2, h3]

theorem eF_eq (h : HullM) : eF h = eR h := by unfold eF eR; rw [check_eq]

theorem stray_eq : ∀ (ps : List PartM) (ws ls : List Int), ws.length = ps.length → ls.length = ps.length → (strangeF (fun p => (p.wLo, p.wHi)) ps ws || strangeF (fun p => (p.lLo, p.lHi)) ps ls) = strayF ps ws ls
  | [], _, _, _, _ => by simp [strangeF, strayF]
  | p :: r, a :: s, b :: t, h1, h2 => by
    have ih := stray_eq r s t (by simpa using h1) (by simpa using h2)
    simp only [strangeF, strayF, insF_out, Bool.not_not]
    rw [← ih]
    cases outF p.wLo p.wHi a <;> cases outF p.lLo p.lHi b <;> simp
  | _ :: _, [], _, h1, _ => by simp at h1
  | _ :: _, _ :: _, [], _, h2 => by simp at h2

theorem truth_eq (h : HullM) (t : TruthM) : truthE h t = truthR h t := by
  unfold truthE truthR
  rw [eF_eq]
  by_cases h1 : ¬ t.ws.length = h.ps.length ∨ ¬ t.ls.length = h.ps.length
  · rw [if_pos h1, if_pos h1]
  · rw [if_neg h1, if_neg h1]
    have h2 : t.ws.length = h.ps.length ∧ t.ls.length = h.ps.length := by simpa using h1
    rw [stray_eq _ _ _ h2.1 h2.2]

theorem wr_wr (n : Int) : wr (wr n) = wr n := by simp only [wr, IntKind.wrap_i64]; omega
theorem overF_eq (w k : Int) : overF w k = overR w k := rfl
theorem pressF_eq (t : TruthM) (w : Int) (p : PartM) (k : Nat) : pressF t w p k = pressR t w p k := rfl
theorem one_press (t : TruthM) (w : Int) (p : PartM) (k : Nat) : wr (1 * pressR t w p k) = pressR t w p k := by
  rw [Int.one_mul]; exact wr_wr _

theorem weigh_eq (h : HullM) (t : TruthM) (w : Int) : ∀ (l : List PartM) (a b c : Int) (k : Nat), weighG h t w a b c k l = (sumG (inT h t w 0) a k l, sumG (inT h t w 1) b k l, sumG (inT h t w 2) c k l)
  | [], _, _, _, _ => rfl
  | p :: r, a, b, c, k => by
    simp only [weighG, sumG]
    rw [weigh_eq h t w r]
    have e0 : inT h t w 0 p k = pressR t w p k := one_press t w p k
    have e1 : inT h t w 1 p k = wr (pressR t w p k * wr (p.at_ - h.aft)) := by
      show wr (wr (p.at_ - h.aft) * pressR t w p k) = _
      rw [Int.mul_comm]
    have e2 : inT h t w 2 p k = wr (pressR t w p k * wr (h.fore - p.at_)) := by
      show wr (wr (h.fore - p.at_) * pressR t w p k) = _
      rw [Int.mul_comm]
    rw [e0, e1, e2]

theorem weighR_eq (h : HullM) (t : TruthM) (w : Int) : weighR h t w = (inS h t w 0, inS h t w 1, inS h t w 2) := weigh_eq h t w h.ps 0 0 0 0

theorem sumG_congr {f g : PartM → Nat → Int} : ∀ (l : List PartM) (a : Int) (k : Nat), (∀ i (hi : i < l.length), f l[i] (k + i) = g l[i] (k + i)) → sumG f a k l = sumG g a k l
  | [], _, _, _ => rfl
  | p :: r, a, k, h => by
    simp only [sumG]
    have h0 := h 0 (by simp)
    simp at h0
    rw [h0]
    exact sumG_congr r _ (k + 1) fun i hi => by
      have := h (i + 1) (by simpa using hi)
      simpa [Nat.add_assoc, Nat.add_comm 1] using this

theorem parts_ok (all : List PartM) : ∀ (l : List PartM) (i : Nat), (partsE all l i).2.2 = 0 → ∀ p ∈ l, partE p = 0
  | [], _, _ => by simp
  | x :: r, i, h => by
    simp only [partsE] at h
    split at h
    · cases h
    · split at h
      · cases h
      · split at h
        · rename_i hx; exact absurd h hx
        · rename_i hx
          intro p hp
          rcases List.mem_cons.1 hp with rfl | hp
          · simpa using hx
          · exact parts_ok all r (i + 1) h p hp

structure Bounds (h : HullM) : Prop where
  aft : 0 ≤ h.aft ∧ h.aft ≤ 5000
  fore : 0 ≤ h.fore ∧ h.fore ≤ 5000
  at_ : ∀ p ∈ h.ps, 0 ≤ p.at_ ∧ p.at_ ≤ 5000

theorem partE_at {p : PartM} (h : partE p = 0) : 0 ≤ p.at_ ∧ p.at_ ≤ 5000 := by
  unfold partE at h
  split at h
  · cases h
  · rename_i hn
    simp [beyondF, outF] at hn
    omega

theorem bounds_of (h : HullM) (he : eF h = 0) : Bounds h := by
  unfold eF checkF at he
  split at he
  · cases he
  · split at he
    · cases he
    · rename_i h2
      split at he
      · cases he
      · simp [beyondF, outF] at h2
        exact ⟨by omega, by omega, fun p hp => partE_at (parts_ok _ _ _ he p hp)⟩

theorem small_eq (h : HullM) (hb : Bounds h) (w : Int) : smallR h w = (leastS h w 0, leastS h w 1, leastS h w 2) := by
  unfold smallR
  rw [weighR_eq, weighR_eq, weighR_eq]
  have gW : ∀ (why : Int) (i : Nat) (hi : i < h.ps.length), (shownT h why).ws[i]?.getD 0 = shownW h why h.ps[i] := fun why i hi => by simp [shownT, hi]
  have gL : ∀ (why : Int) (i : Nat) (hi : i < h.ps.length), (shownT h why).ls[i]?.getD 0 = shownL h why h.ps[i] := fun why i hi => by simp [shownT, hi]
  have c0 : inS h (shownT h 1) w 0 = leastS h w 0 := sumG_congr _ _ _ fun i hi => by
    simp only [Nat.zero_add, inT, leastT, pressF, gW 1 i hi, gL 1 i hi]
    simp [armF, shownW, shownL, lightB, lightF]
  have c1 : inS h (shownT h 2) w 1 = leastS h w 1 := sumG_congr _ _ _ fun i hi => by
    simp only [Nat.zero_add, inT, leastT, pressF, gW 2 i hi, gL 2 i hi]
    have hat := hb.at_ _ (List.getElem_mem hi)
    have ha := hb.aft
    have harm : armF h 1 h.ps[i] = h.ps[i].at_ - h.aft := by simp only [armF]; exact wrap_id (by omega) (by omega)
    rw [harm]
    by_cases hc : h.aft ≤ h.ps[i].at_
    · have hc' : ¬ h.ps[i].at_ - h.aft < 0 := by omega
      simp [shownW, shownL, lightB, hc, hc', lightF]
    · have hc' : h.ps[i].at_ - h.aft < 0 := by omega
      simp [shownW, shownL, lightB, hc, hc', heavyF]
  have c2 : inS h (shownT h 3) w 2 = leastS h w 2 := sumG_congr _ _ _ fun i hi => by
    simp only [Nat.zero_add, inT, leastT, pressF, gW 3 i hi, gL 3 i hi]
    have hat := hb.at_ _ (List.getElem_mem hi)
    have ha := hb.fore
    have harm : armF h 2 h.ps[i] = h.fore - h.ps[i].at_ := by simp only [armF]; exact wrap_id (by omega) (by omega)
    rw [harm]
    by_cases hc : h.ps[i].at_ ≤ h.fore
    · have hc' : ¬ h.fore - h.ps[i].at_ < 0 := by omega
      simp [shownW, shownL, lightB, hc, hc', lightF]
    · have hc' : h.fore - h.ps[i].at_ < 0 := by omega
      simp [shownW, shownL, lightB, hc, hc', heavyF]
  rw [c0, c1, c2]

end Go.AM
