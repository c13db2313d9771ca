/- The check of a hull: of the document. The truth of a hull, and what it weighs: of the document. What a hull weighs in a truth: of the document. The truth that shows a reason, and the least balance: of the document. Smallest, Balance, Least: of the document. The plain law of StandBalances: what the program's walks compute is what the document's do. Forces and Bears: of the program and of the document; both say the same. -/
import Derived.Test.YtmgbkmobhjjkiaaP2
import Derived.Test.YtmgbkmobhjjkiaaP3
namespace Go.AM
open Go.Proofs
set_option maxRecDepth 100000
set_option maxHeartbeats 1000000

def errR (all : List PartM) (x : PartM) (i : Nat) : Int :=
  if freshF x.name ((all.take i).map PartM.name) = 0 then partR x else freshF x.name ((all.take i).map PartM.name)
def partsR (all : List PartM) : List PartM → Nat → Int × Int × Int
  | [], _ => (0, 0, 0)
  | x :: r, i => if errR all x i ≠ 0 then (2, i, errR all x i) else partsR all r (i + 1)
def checkR (h : HullM) : Int × Int × Int :=
  if insF (h.ps.length : Int) 1 10 = false then (1, 0, 3) else if insF h.aft 0 5000 = false ∨ insF h.fore 0 5000 = false then (1, 0, 7) else if h.fore ≤ h.aft then (1, 0, 2) else partsR h.ps h.ps 0
def tripR (x : Int × Int × Int) : AVal := .tup [ii' x.1, ii' x.2.1, ii' x.2.2]

theorem r05_Check_spec (h : HullM) (_hl : h.ps.length ≤ maxLen) (σ : AHeap) : Spec Try.prog F_r05_Check [h.v] σ fun r σ' => r = .ret (tripR (checkR h)) ∧ σ' = σ := by
  refine Spec.pureFn (spec_r05_Check (by simp) (awpC_sound _ ?_)) (by simp [h.pure]) rfl σ
  simp [C_r05_Check, HullM.v, HullM.cells]
  refine (tf (insF (h.ps.length : Int) 1 10)).elim (fun h1 => ?_) (fun h1 => ?_)
  · refine CallK.pureE B_r05_in (r05_in_spec (h.ps.length : Int) 1 10 _) (congrArg AVal.bool h1) ?_
    simp [checkR, h1, tripR]
  refine CallK.pureE B_r05_in (r05_in_spec (h.ps.length : Int) 1 10 _) (congrArg AVal.bool h1) ?_
  simp
  refine (tf (insF h.aft 0 5000)).elim (fun h2 => ?_) (fun h2 => ?_)
  · refine CallK.pureE B_r05_in (r05_in_spec h.aft 0 5000 _) (congrArg AVal.bool h2) ?_
    simp [checkR, h1, h2, tripR]
  refine CallK.pureE B_r05_in (r05_in_spec h.aft 0 5000 _) (congrArg AVal.bool h2) ?_
  simp
  refine (tf (insF h.fore 0 5000)).elim (fun h3 => ?_) (fun h3 => ?_)
  · refine CallK.pureE B_r05_in (r05_in_spec h.fore 0 5000 _) (congrArg AVal.bool h3) ?_
    simp [checkR, h1, h2, h3, tripR]
  refine CallK.pureE B_r05_in (r05_in_spec h.fore 0 5000 _) (congrArg AVal.bool h3) ?_
  simp
  refine ⟨fun h4 => by simp [checkR, h1, h2, h3, h4, tripR], fun h4 => ?_⟩
  have hc : checkR h = partsR h.ps h.ps 0 := by simp only [checkR, h1, h2, h3]; rw [if_neg (by simp), if_neg (by simp), if_neg (by omega)]
  have hlen : h.ps.length ≤ 10 := by simp [insF] at h1; omega
  rw [hc]
  refine AW.loop (ι := Nat) (fun i fr σ => fr = { v := [(1, .pval (.agg [.slice 7 (h.ps.map PartM.v), ii' h.aft, ii' h.fore])), (5, .oslice 1 ((h.ps.take i).map (fun p => .str p.name)) 0 i), (6, .int .i64 i)], ds := [] } ∧ σ = [.spare 1 i] ∧ i ≤ h.ps.length ∧ partsR h.ps h.ps 0 = partsR h.ps (h.ps.drop i) i) (fun i => h.ps.length - i) 0 (by simp) ?_
  rintro i fr σ ⟨rfl, rfl, hi, hp⟩
  refine (Nat.lt_or_ge i h.ps.length).elim (fun hlt => ?_) (fun hge => ?_)
  · have hd : h.ps.drop i = h.ps[i] :: h.ps.drop (i + 1) := List.drop_eq_getElem_cons hlt
    obtain ⟨x, hx⟩ : ∃ x, h.ps[i] = x := ⟨_, rfl⟩
    rw [hd, hx] at hp
    simp only [partsR] at hp
    rw [hp]
    refine awpC_sound _ ?_
    simp [hlt, hx, PartM.v, PartM.cells]
    have hfr := fun σ => r01_Fresh_spec ((h.ps.take i).map PartM.name) x.name (by simp [maxLen]; omega) σ
    simp only [List.map_take, List.map_map, Function.comp_def] at hfr
    refine CallK.pure B_r01_Fresh (hfr _) ?_
    simp [hlt, hx, PartM.v, PartM.cells]
    have hmin : min i h.ps.length = i := by omega
    have hfit : Fits 1 [AVal.str x.name] := by intro v hv; simp at hv; subst hv; exact ⟨⟨rfl, rfl⟩, rfl⟩
    have htk : List.take i (List.map (fun p => AVal.str p.name) h.ps) ++ [AVal.str x.name] = List.take (i + 1) (List.map (fun p : PartM => AVal.str p.name) h.ps) := by
      rw [List.take_add_one]; simp [hlt, hx]
    have herr : errR h.ps x i = if freshF x.name (List.take i (List.map PartM.name h.ps)) = 0 then partR x else freshF x.name (List.take i (List.map PartM.name h.ps)) := by simp only [errR, List.map_take]
    refine ⟨hfit, by omega, fun h5 => ?_, fun h5 => ⟨fun _ => ?_, fun h6 => absurd h6 h5⟩⟩
    · refine CallK.pure B_r05_part (r05_part_spec x _) ?_
      rw [if_pos h5] at herr
      refine (Classical.em (partR x = 0)).elim (fun h6 => ?_) (fun h6 => ?_)
      · simp [h6, herr, hlt, hx, PartM.v, PartM.cells]
        exact ⟨i + 1, by omega, ⟨⟨htk, rfl⟩, wrap_id (by omega) (by omega)⟩, rfl, by omega, rfl⟩
      · simp [h6, herr, tripR, hlt, hx, PartM.v, PartM.cells]
    · rw [if_neg h5] at herr
      rw [if_neg (by rw [herr]; exact h5), herr]; rfl
  · have : h.ps.drop i = [] := List.drop_eq_nil_of_le hge
    rw [this] at hp
    rw [hp]
    have hnl : ¬ i < h.ps.length := by omega
    refine awpC_sound _ ?_
    simp [hnl, tripR, partsR]
end Go.AM

namespace Go.AM
open Go.Proofs
set_option maxRecDepth 100000
set_option maxHeartbeats 1000000

def eR (h : HullM) : Int := (checkR h).2.2
def strayF : List PartM → List Int → List Int → Bool
  | p :: r, a :: s, b :: t => (!insF a p.wLo p.wHi || !insF b p.lLo p.lHi) || strayF r s t
  | _, _, _ => false
def truthR (h : HullM) (t : TruthM) : Int :=
  if eR h ≠ 0 then eR h else if ¬ t.ws.length = h.ps.length ∨ ¬ t.ls.length = h.ps.length then 3
  else if strayF h.ps t.ws t.ls then 7 else 0

theorem r05_Truth_spec (h : HullM) (t : TruthM) (hl : h.ps.length ≤ maxLen) (σ : AHeap) : Spec Try.prog F_r05_Truth [h.v, t.v] σ fun r σ' => r = .ret (ii' (truthR h t)) ∧ σ' = σ := by
  refine Spec.pureFn (spec_r05_Truth (by simp) (awpC_sound _ ?_)) (by simp [h.pure, t.pure]) rfl σ
  simp [C_r05_Truth, HullM.v, HullM.cells, TruthM.v]
  refine CallK.pure B_r05_Check (r05_Check_spec h hl _) ?_
  refine (Classical.em (eR h = 0)).elim (fun he => ?_) (fun he => ?_)
  rotate_left
  · have he' : ¬ (checkR h).2.2 = 0 := he
    simp [tripR, he', truthR, he]
    rfl
  have he' : (checkR h).2.2 = 0 := he
  refine (Classical.em (t.ws.length = h.ps.length)).elim (fun h1 => ?_) (fun h1 => ?_)
  rotate_left
  · have h1' : ¬ (t.ws.length : Int) = h.ps.length := by omega
    simp [tripR, he', h1, h1', truthR, he]
  refine (Classical.em (t.ls.length = h.ps.length)).elim (fun h2 => ?_) (fun h2 => ?_)
  rotate_left
  · have h2' : ¬ (t.ls.length : Int) = h.ps.length := by omega
    simp [tripR, he', h1, h2, h2', truthR, he]
  have ht : truthR h t = if strayF h.ps t.ws t.ls then 7 else 0 := by simp [truthR, he, h1, h2]
  rw [ht]
  simp [tripR, he', h1, h2]
  refine AW.loop (ι := Nat) (fun i fr σ => fr = { v := [(2, .pval (.agg [.slice 7 (h.ps.map PartM.v), ii' h.aft, ii' h.fore])), (3, .pval (.agg [.slice 1 (t.ws.map ii'), .slice 1 (t.ls.map ii')])), (8, .int .i64 i)], ds := [] } ∧ i ≤ h.ps.length ∧ strayF h.ps t.ws t.ls = strayF (h.ps.drop i) (t.ws.drop i) (t.ls.drop i)) (fun i => h.ps.length - i) 0 (by simp) ?_
  rintro i fr σ ⟨rfl, hi, hp⟩
  refine (Nat.lt_or_ge i h.ps.length).elim (fun hlt => ?_) (fun hge => ?_)
  · have hd : h.ps.drop i = h.ps[i] :: h.ps.drop (i + 1) := List.drop_eq_getElem_cons hlt
    have hlw : i < t.ws.length := by omega
    have hll : i < t.ls.length := by omega
    have hdw : t.ws.drop i = t.ws[i] :: t.ws.drop (i + 1) := List.drop_eq_getElem_cons hlw
    have hdl : t.ls.drop i = t.ls[i] :: t.ls.drop (i + 1) := List.drop_eq_getElem_cons hll
    obtain ⟨x, hx⟩ : ∃ x, h.ps[i] = x := ⟨_, rfl⟩
    obtain ⟨a, ha⟩ : ∃ x, t.ws[i] = x := ⟨_, rfl⟩
    obtain ⟨b, hb⟩ : ∃ x, t.ls[i] = x := ⟨_, rfl⟩
    rw [hd, hdw, hdl, hx, ha, hb] at hp
    simp only [strayF] at hp
    rw [hp]
    refine awpC_sound _ ?_
    simp [hlt, hx, hlw, hll, ha, hb, PartM.v, PartM.cells]
    refine ⟨.bool (insF a x.wLo x.wHi), fun σ' => CallV.func B_r05_in (r05_in_spec _ _ _ _), ?_⟩
    refine (tf (insF a x.wLo x.wHi)).elim (fun h3 => ?_) (fun h3 => ?_)
    · simp [h3]
      refine ⟨.bool true, ?_⟩
      simp
    · simp [h3]
      refine ⟨.bool (insF b x.lLo x.lHi), fun σ' => CallV.func B_r05_in (r05_in_spec _ _ _ _), ?_⟩
      refine (tf (insF b x.lLo x.lHi)).elim (fun h4 => ?_) (fun h4 => ?_)
      · simp [h4]
      · simp [h4]
        exact ⟨i + 1, by omega, wrap_id (by omega) (by simp only [maxLen] at hl; omega), by omega, rfl⟩
  · have : h.ps.drop i = [] := List.drop_eq_nil_of_le hge
    rw [this] at hp
    rw [hp]
    have hnl : ¬ i < h.ps.length := by omega
    refine awpC_sound _ ?_
    simp [hnl, strayF]
end Go.AM

namespace Go.AM
open Go.Proofs
set_option maxRecDepth 100000
set_option maxHeartbeats 1000000

def overR (water keel : Int) : Int := if 0 < wr (water - keel) then wr (water - keel) else 0
def pressR (t : TruthM) (water : Int) (p : PartM) (k : Nat) : Int := wr ((t.ws[k]?.getD 0) - wr ((t.ls[k]?.getD 0) * overR water p.keel))
def weighG (h : HullM) (t : TruthM) (water : Int) : Int → Int → Int → Nat → List PartM → Int × Int × Int
  | a, b, c, _, [] => (a, b, c)
  | a, b, c, k, p :: r => weighG h t water (wr (a + pressR t water p k)) (wr (b + wr (pressR t water p k * wr (p.at_ - h.aft)))) (wr (c + wr (pressR t water p k * wr (h.fore - p.at_)))) (k + 1) r
def weighR (h : HullM) (t : TruthM) (water : Int) : Int × Int × Int := weighG h t water 0 0 0 0 h.ps
def balV (x : Int × Int × Int) : AVal := .agg [ii' x.1, ii' x.2.1, ii' x.2.2]

theorem r05_Weighed_spec (h : HullM) (t : TruthM) (hl : h.ps.length ≤ maxLen) (h1 : t.ws.length = h.ps.length) (h2 : t.ls.length = h.ps.length) (water : Int) (σ : AHeap) :
    Spec Try.prog F_r05_Weighed [h.v, t.v, ii' water] σ fun r σ' => r = .ret (balV (weighR h t water)) ∧ σ' = σ := by
  refine Spec.pureFn (spec_r05_Weighed (by simp) (awpC_sound _ ?_)) (by simp [h.pure, t.pure]) rfl σ
  simp [C_r05_Weighed, HullM.v, HullM.cells, TruthM.v]
  refine AW.loop (ι := Nat) (fun i fr σ => ∃ a b c tl, fr = { v := [(2, ii' water), (3, .pval (.agg [.slice 7 (h.ps.map PartM.v), ii' h.aft, ii' h.fore])), (4, .pval (.agg [.slice 1 (t.ws.map ii'), .slice 1 (t.ls.map ii')])), (6, .ptr 0 0), (7, .ptr 1 0), (8, .int .i64 i)], ds := [] } ∧
      σ = .box [ii' 0, ii' 0, ii' 0] :: .box [ii' a, ii' b, ii' c] :: tl ∧ i ≤ h.ps.length ∧ weighR h t water = weighG h t water a b c i (h.ps.drop i)) (fun i => h.ps.length - i) 0 ⟨0, 0, 0, _, by simp, rfl, by simp, by simp [weighR]⟩ ?_
  rintro i fr σ ⟨a0, b0, c0, tl, rfl, rfl, hi, hs⟩
  refine (Nat.lt_or_ge i h.ps.length).elim (fun hlt => ?_) (fun hge => ?_)
  · have hd : h.ps.drop i = h.ps[i] :: h.ps.drop (i + 1) := List.drop_eq_getElem_cons hlt
    have hlw : i < t.ws.length := by omega
    have hll : i < t.ls.length := by omega
    obtain ⟨x, hx⟩ : ∃ x, h.ps[i] = x := ⟨_, rfl⟩
    obtain ⟨a, ha⟩ : ∃ x, t.ws[i] = x := ⟨_, rfl⟩
    obtain ⟨b, hb⟩ : ∃ x, t.ls[i] = x := ⟨_, rfl⟩
    rw [hd, hx] at hs
    simp only [weighG] at hs
    refine awpC_sound _ ?_
    simp [hlt, hx, hlw, hll, ha, hb, PartM.v, PartM.cells]
    refine ⟨i + 1, by omega, wrap_id (by omega) (by simp only [maxLen] at hl; omega), _, _, _, ⟨rfl, rfl, rfl⟩, by omega, ?_⟩
    rw [hs]
    simp [pressR, overR, hlw, hll, ha, hb]
  · have : h.ps.drop i = [] := List.drop_eq_nil_of_le hge
    rw [this] at hs
    simp only [weighG] at hs
    have hnl : ¬ i < h.ps.length := by omega
    refine awpC_sound _ ?_
    simp [hnl, hs, balV]
end Go.AM

namespace Go.AM
open Go.Proofs
set_option maxRecDepth 100000
set_option maxHeartbeats 1000000

def lightB (h : HullM) (why : Int) (p : PartM) : Bool :=
  decide (why = 0) || decide (why = 1) || (decide (why = 2) && decide (h.aft ≤ p.at_)) || (decide (why = 3) && decide (p.at_ ≤ h.fore))
def shownW (h : HullM) (why : Int) (p : PartM) : Int := if lightB h why p then p.wLo else p.wHi
def shownL (h : HullM) (why : Int) (p : PartM) : Int := if lightB h why p then p.lHi else p.lLo
def shownT (h : HullM) (why : Int) : TruthM := { ws := h.ps.map (shownW h why), ls := h.ps.map (shownL h why) }

theorem r05_Shown_spec (h : HullM) (hl : h.ps.length ≤ 10) (why : Int) (σ : AHeap) : Spec Try.prog F_r05_Shown [h.v, ii' why] σ fun r σ' => r = .ret (shownT h why).v ∧ σ' = σ := by
  refine Spec.pureFn (spec_r05_Shown (by simp) (awpC_sound _ ?_)) (by simp [h.pure]) (TruthM.pure _) σ
  simp [C_r05_Shown, HullM.v, HullM.cells]
  refine AW.loop (ι := Nat) (fun i fr σ => ∃ tl, fr = { v := [(1, ii' why), (2, .pval (.agg [.slice 7 (h.ps.map PartM.v), ii' h.aft, ii' h.fore])), (4, .ptr 0 0), (5, .ptr 3 0), (6, .int .i64 i)], ds := [] } ∧
      σ = .box [.slice 1 [], .slice 1 []] :: .spare 1 i :: .spare 1 i :: .box [.oslice 1 ((h.ps.take i).map (fun p => ii' (shownW h why p))) 1 i, .oslice 1 ((h.ps.take i).map (fun p => ii' (shownL h why p))) 2 i] :: tl ∧ i ≤ h.ps.length) (fun i => h.ps.length - i) 0 ?_ ?_
  · exact ⟨[], by simp, by simp, by simp⟩
  rintro i fr σ ⟨tl, rfl, rfl, hi⟩
  refine (Nat.lt_or_ge i h.ps.length).elim (fun hlt => ?_) (fun hge => ?_)
  · obtain ⟨x, hx⟩ : ∃ x, h.ps[i] = x := ⟨_, rfl⟩
    refine awpC_sound _ ?_
    have hmin : min i h.ps.length = i := by omega
    have hfit : ∀ n : Int, Fits 1 [ii' n] := fun n v hv => by simp at hv; subst hv; exact ⟨⟨rfl, rfl⟩, rfl⟩
    have hW : List.take i (List.map (fun p => ii' (shownW h why p)) h.ps) ++ [ii' (shownW h why x)] = List.take (i + 1) (List.map (fun p => ii' (shownW h why p)) h.ps) := by rw [List.take_add_one]; simp [hlt, hx]
    have hL : List.take i (List.map (fun p => ii' (shownL h why p)) h.ps) ++ [ii' (shownL h why x)] = List.take (i + 1) (List.map (fun p => ii' (shownL h why p)) h.ps) := by rw [List.take_add_one]; simp [hlt, hx]
    refine (Classical.em (why = 0)).elim (fun h0 => ?_) (fun h0 => ?_)
    · subst h0
      simp [hlt, hx, PartM.v, PartM.cells]
      have e1 : shownW h 0 x = x.wLo := by simp [shownW, lightB]
      have e2 : shownL h 0 x = x.lHi := by simp [shownL, lightB]
      rw [e1] at hW
      rw [e2] at hL
      exact ⟨hfit _, by omega, hfit _, by omega, i + 1, by omega, wrap_id (by omega) (by omega), ⟨rfl, ⟨hW, rfl⟩, hL, rfl⟩, by omega⟩
    refine (Classical.em (why = 1)).elim (fun h1 => ?_) (fun h1 => ?_)
    · subst h1
      simp [hlt, hx, PartM.v, PartM.cells]
      have e1 : shownW h 1 x = x.wLo := by simp [shownW, lightB]
      have e2 : shownL h 1 x = x.lHi := by simp [shownL, lightB]
      rw [e1] at hW
      rw [e2] at hL
      exact ⟨hfit _, by omega, hfit _, by omega, i + 1, by omega, wrap_id (by omega) (by omega), ⟨rfl, ⟨hW, rfl⟩, hL, rfl⟩, by omega⟩
    refine (Classical.em (why = 2)).elim (fun h2 => ?_) (fun h2 => ?_)
    · subst h2
      refine (Classical.em (h.aft ≤ x.at_)).elim (fun h4 => ?_) (fun h4 => ?_)
      · simp [h4, hlt, hx, PartM.v, PartM.cells]
        have e1 : shownW h 2 x = x.wLo := by simp [h4, shownW, lightB]
        have e2 : shownL h 2 x = x.lHi := by simp [h4, shownL, lightB]
        rw [e1] at hW
        rw [e2] at hL
        exact ⟨hfit _, by omega, hfit _, by omega, i + 1, by omega, wrap_id (by omega) (by omega), ⟨rfl, ⟨hW, rfl⟩, hL, rfl⟩, by omega⟩
      · simp [h4, hlt, hx, PartM.v, PartM.cells]
        have e1 : shownW h 2 x = x.wHi := by simp [h4, shownW, lightB]
        have e2 : shownL h 2 x = x.lLo := by simp [h4, shownL, lightB]
        rw [e1] at hW
        rw [e2] at hL
        exact ⟨hfit _, by omega, hfit _, by omega, i + 1, by omega, wrap_id (by omega) (by omega), ⟨rfl, ⟨hW, rfl⟩, hL, rfl⟩, by omega⟩
    refine (Classical.em (why = 3)).elim (fun h3 => ?_) (fun h3 => ?_)
    · subst h3
      refine (Classical.em (x.at_ ≤ h.fore)).elim (fun h4 => ?_) (fun h4 => ?_)
      · simp [h4, hlt, hx, PartM.v, PartM.cells]
        have e1 : shownW h 3 x = x.wLo := by simp [h4, shownW, lightB]
        have e2 : shownL h 3 x = x.lHi := by simp [h4, shownL, lightB]
        rw [e1] at hW
        rw [e2] at hL
        exact ⟨hfit _, by omega, hfit _, by omega, i + 1, by omega, wrap_id (by omega) (by omega), ⟨rfl, ⟨hW, rfl⟩, hL, rfl⟩, by omega⟩
      · simp [h4, hlt, hx, PartM.v, PartM.cells]
        have e1 : shownW h 3 x = x.wHi := by simp [h4, shownW, lightB]
        have e2 : shownL h 3 x = x.lLo := by simp [h4, shownL, lightB]
        rw [e1] at hW
        rw [e2] at hL
        exact ⟨hfit _, by omega, hfit _, by omega, i + 1, by omega, wrap_id (by omega) (by omega), ⟨rfl, ⟨hW, rfl⟩, hL, rfl⟩, by omega⟩
    · simp [h0, h1, h2, h3, hlt, hx, PartM.v, PartM.cells]
      have e1 : shownW h why x = x.wHi := by simp [h0, h1, h2, h3, shownW, lightB]
      have e2 : shownL h why x = x.lLo := by simp [h0, h1, h2, h3, shownL, lightB]
      rw [e1] at hW
      rw [e2] at hL
      exact ⟨hfit _, by omega, hfit _, by omega, i + 1, by omega, wrap_id (by omega) (by omega), ⟨rfl, ⟨hW, rfl⟩, hL, rfl⟩, by omega⟩
  · have hnl : ¬ i < h.ps.length := by omega
    refine awpC_sound _ ?_
    simp [hnl, TruthM.v, shownT]
    rw [List.take_of_length_le (by simp; omega), List.take_of_length_le (by simp; omega)]
    exact ⟨rfl, rfl⟩
end Go.AM

namespace Go.AM
open Go.Proofs
set_option maxRecDepth 100000
set_option maxHeartbeats 1000000

def smallR (h : HullM) (water : Int) : Int × Int × Int := ((weighR h (shownT h 1) water).1, (weighR h (shownT h 2) water).2.1, (weighR h (shownT h 3) water).2.2)
theorem r05_Smallest_spec (h : HullM) (hl : h.ps.length ≤ 10) (water : Int) (σ : AHeap) : Spec Try.prog F_r05_Smallest [h.v, ii' water] σ fun r σ' => r = .ret (balV (smallR h water)) ∧ σ' = σ := by
  have hm : h.ps.length ≤ maxLen := by simp only [maxLen]; omega
  refine Spec.pureFn (spec_r05_Smallest (by simp) (awpC_sound _ ?_)) (by simp [h.pure]) rfl σ
  have hpu : pures (h.ps.map PartM.v) = true := pures_map (f := PartM.v) (fun _ => rfl) h.ps
  have hp2 : ∀ l : List Int, pures (l.map ii') = true := pures_map (f := ii') (fun _ => rfl)
  simp [C_r05_Smallest, HullM.v, HullM.cells]
  refine ⟨_, fun σ' _ => CallV.func B_r05_Shown (r05_Shown_spec h hl 1 σ'), ?_⟩
  simp [TruthM.v]
  refine ⟨_, fun σ' _ => CallV.func B_r05_Weighed (r05_Weighed_spec h (shownT h 1) hm (by simp [shownT]) (by simp [shownT]) water σ'), ?_⟩
  simp [balV]
  refine ⟨_, fun σ' _ => CallV.func B_r05_Shown (r05_Shown_spec h hl 2 σ'), ?_⟩
  simp [TruthM.v]
  refine ⟨_, fun σ' _ => CallV.func B_r05_Weighed (r05_Weighed_spec h (shownT h 2) hm (by simp [shownT]) (by simp [shownT]) water σ'), ?_⟩
  simp [balV]
  refine ⟨_, fun σ' _ => CallV.func B_r05_Shown (r05_Shown_spec h hl 3 σ'), ?_⟩
  simp [TruthM.v]
  refine ⟨_, fun σ' _ => CallV.func B_r05_Weighed (r05_Weighed_spec h (shownT h 3) hm (by simp [shownT]) (by simp [shownT]) water σ'), ?_⟩
  simp [balV, smallR]

theorem wetE_zero {e water : Int} (h : wetE e water = 0) : e = 0 ∧ beyondF 0 1000 [water] = false := by
  unfold wetE at h
  split at h
  · cases h
  · rename_i hn
    refine ⟨h, ?_⟩
    rcases tf (beyondF 0 1000 [water]) with hb | hb
    · exact hb
    · exact absurd ⟨h, hb⟩ hn
theorem eR_len {h : HullM} (he : eR h = 0) : 1 ≤ h.ps.length ∧ h.ps.length ≤ 10 := by
  unfold eR checkR at he
  split at he
  · cases he
  · rename_i hn
    simp [insF] at hn
    omega

theorem r05_Least_spec (h : HullM) (hl : h.ps.length ≤ maxLen) (water : Int) (σ : AHeap) : Spec Try.prog F_r05_Least [h.v, ii' water] σ fun r σ' => r = .ret (.tup [balV (if wetE (eR h) water = 0 then smallR h water else (0, 0, 0)), ii' (wetE (eR h) water)]) ∧ σ' = σ := by
  refine Spec.pureFn (spec_r05_Least (by simp) (awpC_sound _ ?_)) (by simp [h.pure]) rfl σ
  simp [C_r05_Least, HullM.v, HullM.cells]
  refine CallK.pure B_r05_Check (r05_Check_spec h hl _) ?_
  simp [tripR]
  refine CallK.pure B_r05_watered (r05_watered_spec _ _ _) ?_
  refine (Classical.em (wetE (eR h) water = 0)).elim (fun he => ?_) (fun he => ?_)
  rotate_left
  · have he' : ¬ wetE (checkR h).2.2 water = 0 := he
    simp [he', eR, balV]
  have he' : wetE (checkR h).2.2 water = 0 := he
  have hl10 : h.ps.length ≤ 10 := (eR_len (wetE_zero he).1).2
  simp [he', he]
  refine CallK.pure B_r05_Smallest (r05_Smallest_spec h hl10 water _) ?_
  simp [he', eR, balV]

theorem r05_Balance_spec (h : HullM) (t : TruthM) (hl : h.ps.length ≤ maxLen) (water : Int) (σ : AHeap) :
    Spec Try.prog F_r05_Balance [h.v, t.v, ii' water] σ fun r σ' => r = .ret (.tup [balV (if wetE (truthR h t) water = 0 then weighR h t water else (0, 0, 0)), ii' (wetE (truthR h t) water)]) ∧ σ' = σ := by
  refine Spec.pureFn (spec_r05_Balance (by simp) (awpC_sound _ ?_)) (by simp [h.pure, t.pure]) rfl σ
  simp [C_r05_Balance, HullM.v, HullM.cells, TruthM.v]
  refine CallK.pure B_r05_Truth (r05_Truth_spec h t hl _) ?_
  simp
  refine CallK.pure B_r05_watered (r05_watered_spec _ _ _) ?_
  refine (Classical.em (wetE (truthR h t) water = 0)).elim (fun he => ?_) (fun he => ?_)
  rotate_left
  · simp [he, balV]
  have h0 := (wetE_zero he).1
  have hn : t.ws.length = h.ps.length ∧ t.ls.length = h.ps.length := by
    unfold truthR at h0
    split at h0
    · rename_i hx; exact absurd h0 hx
    · split at h0
      · cases h0
      · rename_i hx
        simp at hx
        exact hx
  simp [he]
  refine CallK.pure B_r05_Weighed (r05_Weighed_spec h t hl hn.1 hn.2 water _) ?_
  simp [balV, he]
end Go.AM

namespace Go.AM
open Go.Proofs
set_option maxRecDepth 100000
set_option maxHeartbeats 1000000

theorem insF_out (n lo hi : Int) : insF n lo hi = !outF lo hi n := by
  rw [Bool.eq_iff_iff]; simp [insF, outF]

theorem partE_eq (p : PartM) : partE p = partR p := by
  unfold partE partR spanErr
  simp only [beyondF, insF_out, List.any_cons, List.any_nil, Bool.or_false, Bool.not_not]
  rcases tf (outF 0 5000 p.at_) with h1 | h1 <;> rcases tf (outF 0 1000 p.keel) with h2 | h2 <;> rcases tf (outF 0 1000000 p.wLo) with h3 | h3 <;> rcases tf (outF 0 1000000 p.wHi) with h4 | h4 <;> rcases tf (outF 0 5000 p.lLo) with h5 | h5 <;> rcases tf (outF 0 5000 p.lHi) with h6 | h6 <;> simp only [h1, h2, h3, h4, h5, h6] <;>
    by_cases h7 : p.wHi < p.wLo <;> by_cases h8 : p.lHi < p.lLo <;> simp [h7, h8]

theorem placeF_any (s : ByteArray) : ∀ (l : List ByteArray) (i : Nat), 0 ≤ placeF l s i ↔ (l.any fun a => a.toList == s.toList) = true
  | [], i => by simp [placeF]
  | a :: r, i => by
    have ih := placeF_any s r (i + 1)
    have e : placeF (a :: r) s i = if a.toList == s.toList then (i : Int) else placeF r s (i + 1) := rfl
    rw [e, List.any_cons]
    by_cases h : (a.toList == s.toList) = true
    · rw [if_pos h, h]; simp
    · rw [if_neg h]
      have h' : (a.toList == s.toList) = false := by simpa using h
      rw [h', ih]; simp

theorem parts_eq (all : List PartM) : ∀ (l : List PartM) (i : Nat), partsE all l i = partsR all l i
  | [], _ => rfl
  | x :: r, i => by
    simp only [partsE, partsR, errR, freshF]
    rw [parts_eq all r (i + 1)]
    have hp := placeF_any x.name ((all.take i).map PartM.name) 0
    have ha : (((all.take i).map PartM.name).any fun a => a.toList == x.name.toList) = ((all.take i).any fun y => y.name.toList == x.name.toList) := by rw [List.any_map]; rfl
    rw [ha] at hp
    rcases tf (nameF x.name) with h1 | h1
    · simp [h1]
    · rcases tf ((all.take i).any fun y => y.name.toList == x.name.toList) with h2 | h2
      · have h3 : ¬ 0 ≤ placeF ((all.take i).map PartM.name) x.name 0 := by rw [hp, h2]; simp
        simp only [h1, h2, partE_eq, if_neg h3]
        simp
      · have h3 : 0 ≤ placeF ((all.take i).map PartM.name) x.name 0 := by rw [hp, h2]
        simp only [h1, h2, if_pos h3]
        simp

theorem check_eq (h : HullM) : checkF h = checkR h := by
  unfold checkF checkR
  rw [parts_eq]
  simp only [beyondF, insF_out, List.any_cons, List.any_nil, Bool.or_false]
  rcases tf (outF 1 10 (h.ps.length : Int)) with h1 | h1 <;> rcases tf (outF 0 5000 h.aft) with h2 | h2 <;> rcases tf (outF 0 5000 h.fore) with h3 | h3 <;> simp [h1, h2, h3]

theorem eF_eq (h : HullM) : eF h = eR h := by unfold eF eR; rw [check_eq]

theorem stray_eq : ∀ (ps : List PartM) (ws ls : List Int), ws.length = ps.length → ls.length = ps.length → (strangeF (fun p => (p.wLo, p.wHi)) ps ws || strangeF (fun p => (p.lLo, p.lHi)) ps ls) = strayF ps ws ls
  | [], _, _, _, _ => by simp [strangeF, strayF]
  | p :: r, a :: s, b :: t, h1, h2 => by
    have ih := stray_eq r s t (by simpa using h1) (by simpa using h2)
    simp only [strangeF, strayF, insF_out, Bool.not_not]
    rw [← ih]
    cases outF p.wLo p.wHi a <;> cases outF p.lLo p.lHi b <;> simp
  | _ :: _, [], _, h1, _ => by simp at h1
  | _ :: _, _ :: _, [], _, h2 => by simp at h2

theorem truth_eq (h : HullM) (t : TruthM) : truthE h t = truthR h t := by
  unfold truthE truthR
  rw [eF_eq]
  by_cases h1 : ¬ t.ws.length = h.ps.length ∨ ¬ t.ls.length = h.ps.length
  · rw [if_pos h1, if_pos h1]
  · rw [if_neg h1, if_neg h1]
    have h2 : t.ws.length = h.ps.length ∧ t.ls.length = h.ps.length := by simpa using h1
    rw [stray_eq _ _ _ h2.1 h2.2]

theorem wr_wr (n : Int) : wr (wr n) = wr n := by simp only [wr, IntKind.wrap_i64]; omega
theorem overF_eq (w k : Int) : overF w k = overR w k := rfl
theorem pressF_eq (t : TruthM) (w : Int) (p : PartM) (k : Nat) : pressF t w p k = pressR t w p k := rfl
theorem one_press (t : TruthM) (w : Int) (p : PartM) (k : Nat) : wr (1 * pressR t w p k) = pressR t w p k := by
  rw [Int.one_mul]; exact wr_wr _

theorem weigh_eq (h : HullM) (t : TruthM) (w : Int) : ∀ (l : List PartM) (a b c : Int) (k : Nat), weighG h t w a b c k l = (sumG (inT h t w 0) a k l, sumG (inT h t w 1) b k l, sumG (inT h t w 2) c k l)
  | [], _, _, _, _ => rfl
  | p :: r, a, b, c, k => by
    simp only [weighG, sumG]
    rw [weigh_eq h t w r]
    have e0 : inT h t w 0 p k = pressR t w p k := one_press t w p k
    have e1 : inT h t w 1 p k = wr (pressR t w p k * wr (p.at_ - h.aft)) := by
      show wr (wr (p.at_ - h.aft) * pressR t w p k) = _
      rw [Int.mul_comm]
    have e2 : inT h t w 2 p k = wr (pressR t w p k * wr (h.fore - p.at_)) := by
      show wr (wr (h.fore - p.at_) * pressR t w p k) = _
      rw [Int.mul_comm]
    rw [e0, e1, e2]

theorem weighR_eq (h : HullM) (t : TruthM) (w : Int) : weighR h t w = (inS h t w 0, inS h t w 1, inS h t w 2) := weigh_eq h t w h.ps 0 0 0 0

theorem sumG_congr {f g : PartM → Nat → Int} : ∀ (l : List PartM) (a : Int) (k : Nat), (∀ i (hi : i < l.length), f l[i] (k + i) = g l[i] (k + i)) → sumG f a k l = sumG g a k l
  | [], _, _, _ => rfl
  | p :: r, a, k, h => by
    simp only [sumG]
    have h0 := h 0 (by simp)
    simp at h0
    rw [h0]
    exact sumG_congr r _ (k + 1) fun i hi => by
      have := h (i + 1) (by simpa using hi)
      simpa [Nat.add_assoc, Nat.add_comm 1] using this

theorem parts_ok (all : List PartM) : ∀ (l : List PartM) (i : Nat), (partsE all l i).2.2 = 0 → ∀ p ∈ l, partE p = 0
  | [], _, _ => by simp
  | x :: r, i, h => by
    simp only [partsE] at h
    split at h
    · cases h
    · split at h
      · cases h
      · split at h
        · rename_i hx; exact absurd h hx
        · rename_i hx
          intro p hp
          rcases List.mem_cons.1 hp with rfl | hp
          · simpa using hx
          · exact parts_ok all r (i + 1) h p hp

structure Bounds (h : HullM) : Prop where
  aft : 0 ≤ h.aft ∧ h.aft ≤ 5000
  fore : 0 ≤ h.fore ∧ h.fore ≤ 5000
  at_ : ∀ p ∈ h.ps, 0 ≤ p.at_ ∧ p.at_ ≤ 5000

theorem partE_at {p : PartM} (h : partE p = 0) : 0 ≤ p.at_ ∧ p.at_ ≤ 5000 := by
  unfold partE at h
  split at h
  · cases h
  · rename_i hn
    simp [beyondF, outF] at hn
    omega

theorem bounds_of (h : HullM) (he : eF h = 0) : Bounds h := by
  unfold eF checkF at he
  split at he
  · cases he
  · split at he
    · cases he
    · rename_i h2
      split at he
      · cases he
      · simp [beyondF, outF] at h2
        exact ⟨by omega, by omega, fun p hp => partE_at (parts_ok _ _ _ he p hp)⟩

theorem small_eq (h : HullM) (hb : Bounds h) (w : Int) : smallR h w = (leastS h w 0, leastS h w 1, leastS h w 2) := by
  unfold smallR
  rw [weighR_eq, weighR_eq, weighR_eq]
  have gW : ∀ (why : Int) (i : Nat) (hi : i < h.ps.length), (shownT h why).ws[i]?.getD 0 = shownW h why h.ps[i] := fun why i hi => by simp [shownT, hi]
  have gL : ∀ (why : Int) (i : Nat) (hi : i < h.ps.length), (shownT h why).ls[i]?.getD 0 = shownL h why h.ps[i] := fun why i hi => by simp [shownT, hi]
  have c0 : inS h (shownT h 1) w 0 = leastS h w 0 := sumG_congr _ _ _ fun i hi => by
    simp only [Nat.zero_add, inT, leastT, pressF, gW 1 i hi, gL 1 i hi]
    simp [armF, shownW, shownL, lightB, lightF]
  have c1 : inS h (shownT h 2) w 1 = leastS h w 1 := sumG_congr _ _ _ fun i hi => by
    simp only [Nat.zero_add, inT, leastT, pressF, gW 2 i hi, gL 2 i hi]
    have hat := hb.at_ _ (List.getElem_mem hi)
    have ha := hb.aft
    have harm : armF h 1 h.ps[i] = h.ps[i].at_ - h.aft := by simp only [armF]; exact wrap_id (by omega) (by omega)
    rw [harm]
    by_cases hc : h.aft ≤ h.ps[i].at_
    · have hc' : ¬ h.ps[i].at_ - h.aft < 0 := by omega
      simp [shownW, shownL, lightB, hc, hc', lightF]
    · have hc' : h.ps[i].at_ - h.aft < 0 := by omega
      simp [shownW, shownL, lightB, hc, hc', heavyF]
  have c2 : inS h (shownT h 3) w 2 = leastS h w 2 := sumG_congr _ _ _ fun i hi => by
    simp only [Nat.zero_add, inT, leastT, pressF, gW 3 i hi, gL 3 i hi]
    have hat := hb.at_ _ (List.getElem_mem hi)
    have ha := hb.fore
    have harm : armF h 2 h.ps[i] = h.fore - h.ps[i].at_ := by simp only [armF]; exact wrap_id (by omega) (by omega)
    rw [harm]
    by_cases hc : h.ps[i].at_ ≤ h.fore
    · have hc' : ¬ h.fore - h.ps[i].at_ < 0 := by omega
      simp [shownW, shownL, lightB, hc, hc', lightF]
    · have hc' : h.fore - h.ps[i].at_ < 0 := by omega
      simp [shownW, shownL, lightB, hc, hc', heavyF]
  rw [c0, c1, c2]

end Go.AM

namespace Go.AM
open Go.Proofs
set_option maxRecDepth 100000
set_option maxHeartbeats 1000000

def whyF (a b c : Int) : Int := if a ≤ 0 then 1 else if b < 0 then 2 else if c < 0 then 3 else 0

theorem stand_why_spec (a b c : Int) (σ : AHeap) : Spec Try.prog F_stand_sums_why [.agg [ii' a, ii' b, ii' c]] σ fun r σ' => r = .ret (ii' (whyF a b c)) ∧ σ' = σ := by
  refine Spec.pureFn (spec_stand_sums_why (by simp) (awpC_sound _ ?_)) rfl rfl σ
  refine (Classical.em (a ≤ 0)).elim (fun h1 => ?_) (fun h1 => ?_)
  · simp [C_stand_sums_why, h1, whyF]
  refine (Classical.em (b < 0)).elim (fun h2 => ?_) (fun h2 => ?_)
  · simp [C_stand_sums_why, h1, h2, whyF]
  refine (Classical.em (c < 0)).elim (fun h3 => ?_) (fun h3 => ?_)
  · simp [C_stand_sums_why, h1, h2, h3, whyF]
  · simp [C_stand_sums_why, h1, h2, h3, whyF]

theorem r05_Reason_spec (a b c : Int) (σ : AHeap) : Spec Try.prog F_r05_Reason [.agg [ii' a, ii' b, ii' c]] σ fun r σ' => r = .ret (ii' (whyF a b c)) ∧ σ' = σ := by
  refine Spec.pureFn (spec_r05_Reason (by simp) (awpC_sound _ ?_)) rfl rfl σ
  refine (Classical.em (a ≤ 0)).elim (fun h1 => ?_) (fun h1 => ?_)
  · simp [C_r05_Reason, h1, whyF]
  refine (Classical.em (b < 0)).elim (fun h2 => ?_) (fun h2 => ?_)
  · simp [C_r05_Reason, h1, h2, whyF]
  refine (Classical.em (c < 0)).elim (fun h3 => ?_) (fun h3 => ?_)
  · simp [C_r05_Reason, h1, h2, h3, whyF]
  · simp [C_r05_Reason, h1, h2, h3, whyF]

def frV (x : Int × Int) : AVal := .agg [ii' x.1, ii' x.2]
def frcV (l : List (Int × Int)) : AVal := .slice 2 (l.map frV)
theorem frcV_pure (l : List (Int × Int)) : (frcV l).pure = true := by simp [frcV, AVal.pure, pures_map (f := frV) (fun _ => rfl) l]

def forcesF (h : HullM) (t : TruthM) (water : Int) : List (Int × Int) × Int :=
  if wetE (truthE h t) water ≠ 0 then ([], wetE (truthE h t) water)
  else if whyF (inS h t water 0) (inS h t water 1) (inS h t water 2) ≠ 0 then ([], 9)
  else ([(h.aft, inS h t water 2), (h.fore, inS h t water 1)], 0)

theorem truth_len {h : HullM} {t : TruthM} (h0 : truthE h t = 0) : t.ws.length = h.ps.length ∧ t.ls.length = h.ps.length := by
  unfold truthE at h0
  split at h0
  · rename_i hx; exact absurd h0 hx
  · split at h0
    · cases h0
    · rename_i hx
      simp at hx
      exact hx

theorem stand_Forces_spec (h : HullM) (t : TruthM) (hl : h.ps.length ≤ maxLen) (water : Int) (σ : AHeap) :
    Spec Try.prog F_stand_Forces [h.v, t.v, ii' water] σ fun r σ' => r = .ret (.tup [frcV (forcesF h t water).1, ii' (forcesF h t water).2]) ∧ σ' = σ := by
  refine Spec.pureFn (spec_stand_Forces (by simp) (awpC_sound _ ?_)) (by simp [h.pure, t.pure]) (by simp [AVal.pure, pures, frcV_pure]) σ
  simp [C_stand_Forces, HullM.v, HullM.cells, TruthM.v]
  refine CallK.pure B_stand_open (stand_open_spec h t hl water _) ?_
  refine (Classical.em (truthE h t = 0)).elim (fun h0 => ?_) (fun h0 => ?_)
  · refine (Classical.em (wetE 0 water = 0)).elim (fun h1 => ?_) (fun h1 => ?_)
    · have hn := truth_len h0
      have hf : forcesF h t water = if whyF (inS h t water 0) (inS h t water 1) (inS h t water 2) ≠ 0 then ([], 9) else ([(h.aft, inS h t water 2), (h.fore, inS h t water 1)], 0) := by simp [forcesF, h0, h1]
      rw [hf]
      simp [h0, h1, HullM.v, HullM.cells]
      refine CallK.pure B_stand_body_in (stand_in_spec h t hl hn.1 hn.2 water _) ?_
      simp [sumsV]
      refine CallK.pure B_stand_sums_why (stand_why_spec _ _ _ _) ?_
      refine (Classical.em (whyF (inS h t water 0) (inS h t water 1) (inS h t water 2) = 0)).elim (fun h2 => ?_) (fun h2 => ?_)
      · simp [h2, frcV, frV]
      · simp [h2, frcV]
    · have hf : forcesF h t water = ([], wetE 0 water) := by simp [forcesF, h0, h1]
      rw [hf]
      simp [h0, h1, HullM.v, HullM.cells, frcV]
  · have h1 : ¬ wetE (truthE h t) water = 0 := fun e => h0 (wetE_zero' e)
    have hf : forcesF h t water = ([], wetE (truthE h t) water) := by simp [forcesF, h1]
    rw [hf]
    simp [h0, h1, HullM.v, HullM.cells, zeroH, frcV]

theorem r05_Forces_spec (h : HullM) (t : TruthM) (hl : h.ps.length ≤ maxLen) (water : Int) (σ : AHeap) :
    Spec Try.prog F_r05_Forces [h.v, t.v, ii' water] σ fun r σ' => r = .ret (.tup [frcV (forcesF h t water).1, ii' (forcesF h t water).2]) ∧ σ' = σ := by
  refine Spec.pureFn (spec_r05_Forces (by simp) (awpC_sound _ ?_)) (by simp [h.pure, t.pure]) (by simp [AVal.pure, pures, frcV_pure]) σ
  simp [C_r05_Forces, HullM.v, HullM.cells, TruthM.v]
  refine (Classical.em (wetE (truthE h t) water = 0)).elim (fun h1 => ?_) (fun h1 => ?_)
  · refine CallK.pureE B_r05_Balance (r05_Balance_spec h t hl water _) (show _ = AVal.tup [.agg [ii' (inS h t water 0), ii' (inS h t water 1), ii' (inS h t water 2)], ii' 0] by rw [← truth_eq, weighR_eq, h1]; rfl) ?_
    have hf : forcesF h t water = if whyF (inS h t water 0) (inS h t water 1) (inS h t water 2) ≠ 0 then ([], 9) else ([(h.aft, inS h t water 2), (h.fore, inS h t water 1)], 0) := by simp [forcesF, h1]
    rw [hf]
    simp
    refine CallK.pure B_r05_Reason (r05_Reason_spec _ _ _ _) ?_
    refine (Classical.em (whyF (inS h t water 0) (inS h t water 1) (inS h t water 2) = 0)).elim (fun h2 => ?_) (fun h2 => ?_)
    · simp [h2, frcV, frV]
    · simp [h2, frcV]
  · refine CallK.pureE B_r05_Balance (r05_Balance_spec h t hl water _) (show _ = AVal.tup [.agg [ii' 0, ii' 0, ii' 0], ii' (wetE (truthE h t) water)] by rw [← truth_eq, if_neg h1]; rfl) ?_
    have hf : forcesF h t water = ([], wetE (truthE h t) water) := by simp [forcesF, h1]
    rw [hf]
    simp [h1, frcV]

theorem r05_Alike_spec (l : List (Int × Int)) (hl : l.length ≤ maxLen) (σ : AHeap) : Spec Try.prog F_r05_Alike [frcV l, frcV l] σ fun r σ' => r = .ret (.bool true) ∧ σ' = σ := by
  refine Spec.pureFn (spec_r05_Alike (by simp) (awpC_sound _ ?_)) (by simp [frcV_pure]) rfl σ
  simp [C_r05_Alike, frcV]
  refine AW.loop (ι := Nat) (fun i fr σ => fr = { v := [(0, .slice 2 (l.map frV)), (1, .slice 2 (l.map frV)), (5, .bool true), (6, .int .i64 i)], ds := [] } ∧ i ≤ l.length) (fun i => l.length - i) 0 (by simp) ?_
  rintro i fr σ ⟨rfl, hi⟩
  refine (Nat.lt_or_ge i l.length).elim (fun hlt => ?_) (fun hge => ?_)
  · obtain ⟨x, hx⟩ : ∃ x, l[i] = x := ⟨_, rfl⟩
    refine awpC_sound _ ?_
    simp [hlt, hx, frV]
    exact ⟨i + 1, by omega, wrap_id (by omega) (by simp only [maxLen] at hl; omega), by omega⟩
  · have hnl : ¬ i < l.length := by omega
    refine awpC_sound _ ?_
    simp [hnl]

def max0 (n : Int) : Int := if 0 < n then n else 0
def bearsP (aft fore long s0 s1 : Int) : List (Int × Int) → Int → Int → Bool
  | [], all, turn => decide (0 < s0) && decide (all = wr (s0 * long)) && decide (turn = wr (s1 * long))
  | x :: r, all, turn => if outF aft fore x.1 || outF 0 (max0 (wr (wr (s0 * long) - all))) x.2 then false else bearsP aft fore long s0 s1 r (wr (all + x.2)) (wr (turn + wr (x.2 * wr (x.1 - aft))))
def bearsQ (aft fore : Int) : List (Int × Int) → Int → Int → Bool
  | [], left, turn => decide (left = 0) && decide (turn = 0)
  | x :: r, left, turn => if insF x.1 aft fore && insF x.2 0 left then bearsQ aft fore r (wr (left - x.2)) (wr (turn - wr (x.2 * wr (x.1 - aft)))) else false

def bearE (h : HullM) (t : TruthM) (water : Int) (l : List (Int × Int)) : Int := if wetE (truthE h t) water ≠ 0 then wetE (truthE h t) water else if 10 < l.length then 3 else 0
def longF (h : HullM) : Int := wr (h.fore - h.aft)
def bearsPF (h : HullM) (t : TruthM) (water : Int) (l : List (Int × Int)) : Bool := decide (bearE h t water l = 0) && bearsP h.aft h.fore (longF h) (inS h t water 0) (inS h t water 1) l 0 0
def bearsQF (h : HullM) (t : TruthM) (water : Int) (l : List (Int × Int)) : Bool := decide (bearE h t water l = 0) && decide (0 < inS h t water 0) && bearsQ h.aft h.fore l (wr (inS h t water 0 * longF h)) (wr (inS h t water 1 * longF h))

theorem r05_Bears_spec (h : HullM) (t : TruthM) (hl : h.ps.length ≤ maxLen) (water : Int) (l : List (Int × Int)) (hf : l.length ≤ maxLen) (σ : AHeap) :
    Spec Try.prog F_r05_Bears [h.v, t.v, ii' water, frcV l] σ fun r σ' => r = .ret (.tup [.bool (bearsQF h t water l), ii' (bearE h t water l)]) ∧ σ' = σ := by
  refine Spec.pureFn (spec_r05_Bears (by simp) (awpC_sound _ ?_)) (by simp [h.pure, t.pure, frcV_pure]) rfl σ
  simp [C_r05_Bears, HullM.v, HullM.cells, TruthM.v, frcV]
  refine (Classical.em (wetE (truthE h t) water = 0)).elim (fun h1 => ?_) (fun h1 => ?_)
  rotate_left
  · refine CallK.pureE B_r05_Balance (r05_Balance_spec h t hl water _) (show _ = AVal.tup [.agg [ii' 0, ii' 0, ii' 0], ii' (wetE (truthE h t) water)] by rw [← truth_eq, if_neg h1]; rfl) ?_
    have he : bearE h t water l = wetE (truthE h t) water := by simp [bearE, h1]
    simp [h1, bearsQF, he]
  refine CallK.pureE B_r05_Balance (r05_Balance_spec h t hl water _) (show _ = AVal.tup [.agg [ii' (inS h t water 0), ii' (inS h t water 1), ii' (inS h t water 2)], ii' 0] by rw [← truth_eq, weighR_eq, h1]; rfl) ?_
  refine (Classical.em (10 < l.length)).elim (fun h2 => ?_) (fun h2 => ?_)
  · have h2' : (10 : Int) < l.length := by omega
    have he : bearE h t water l = 3 := by simp [bearE, h1, h2]
    simp [h2', bearsQF, he]
  have h2' : ¬ (10 : Int) < l.length := by omega
  have he : bearE h t water l = 0 := by simp [bearE, h1, h2]
  refine (Classical.em (inS h t water 0 ≤ 0)).elim (fun h3 => ?_) (fun h3 => ?_)
  · have h3' : ¬ 0 < inS h t water 0 := by omega
    simp [h2', h3, h3', bearsQF, he]
  have h3' : 0 < inS h t water 0 := by omega
  have hq : bearsQF h t water l = bearsQ h.aft h.fore l (wr (inS h t water 0 * longF h)) (wr (inS h t water 1 * longF h)) := by simp [bearsQF, he, h3']
  rw [hq, he]
  simp [h2', h3]
  refine AW.loop (ι := Nat) (fun i fr σ => ∃ left turn, fr = { v := [(3, .slice 2 (l.map frV)), (4, .pval (.agg [.slice 7 (h.ps.map PartM.v), ii' h.aft, ii' h.fore])), (12, ii' left), (13, ii' turn), (14, .int .i64 i)], ds := [] } ∧ i ≤ l.length ∧
      bearsQ h.aft h.fore l (wr (inS h t water 0 * longF h)) (wr (inS h t water 1 * longF h)) = bearsQ h.aft h.fore (l.drop i) left turn) (fun i => l.length - i) 0 ⟨wr (inS h t water 0 * longF h), wr (inS h t water 1 * longF h), by simp [longF], by simp, by simp⟩ ?_
  rintro i fr σ ⟨left, turn, rfl, hi, hs⟩
  refine (Nat.lt_or_ge i l.length).elim (fun hlt => ?_) (fun hge => ?_)
  · have hd : l.drop i = l[i] :: l.drop (i + 1) := List.drop_eq_getElem_cons hlt
    obtain ⟨x, hx⟩ : ∃ x, l[i] = x := ⟨_, rfl⟩
    rw [hd, hx] at hs
    simp only [bearsQ] at hs
    rw [hs]
    refine awpC_sound _ ?_
    simp [hlt, hx, frV]
    refine ⟨.bool (insF x.1 h.aft h.fore), fun σ' => CallV.func B_r05_in (r05_in_spec _ _ _ _), ?_⟩
    refine (tf (insF x.1 h.aft h.fore)).elim (fun h4 => ?_) (fun h4 => ?_)
    · simp [h4]
      refine ⟨.bool true, ?_⟩
      simp
    · simp [h4]
      refine ⟨.bool (insF x.2 0 left), fun σ' => CallV.func B_r05_in (r05_in_spec _ _ _ _), ?_⟩
      refine (tf (insF x.2 0 left)).elim (fun h5 => ?_) (fun h5 => ?_)
      · simp [h5]
      · simp [h5]
        exact ⟨i + 1, by omega, _, _, ⟨rfl, rfl, wrap_id (by omega) (by simp only [maxLen] at hf; omega)⟩, by omega, rfl⟩
  · have : l.drop i = [] := List.drop_eq_nil_of_le hge
    rw [this] at hs
    simp only [bearsQ] at hs
    rw [hs]
    have hnl : ¬ i < l.length := by omega
    refine awpC_sound _ ?_
    refine (Classical.em (left = 0)).elim (fun h4 => ?_) (fun h4 => ?_)
    · refine (Classical.em (turn = 0)).elim (fun h5 => ?_) (fun h5 => ?_)
      · simp [hnl, h4, h5]
      · simp [hnl, h4, h5]
    · simp [hnl, h4]

theorem stand_Bears_spec (h : HullM) (t : TruthM) (hl : h.ps.length ≤ maxLen) (water : Int) (l : List (Int × Int)) (hf : l.length ≤ maxLen) (σ : AHeap) :
    Spec Try.prog F_stand_Bears [h.v, t.v, ii' water, frcV l] σ fun r σ' => r = .ret (.tup [.bool (bearsPF h t water l), ii' (bearE h t water l)]) ∧ σ' = σ := by
  refine Spec.pureFn (spec_stand_Bears (by simp) (awpC_sound _ ?_)) (by simp [h.pure, t.pure, frcV_pure]) rfl σ
  simp [C_stand_Bears, HullM.v, HullM.cells, TruthM.v, frcV]
  refine CallK.pure B_stand_open (stand_open_spec h t hl water _) ?_
  refine (Classical.em (truthE h t = 0)).elim (fun h0 => ?_) (fun h0 => ?_)
  rotate_left
  · have h1 : ¬ wetE (truthE h t) water = 0 := fun e => h0 (wetE_zero' e)
    have he : bearE h t water l = wetE (truthE h t) water := by simp [bearE, h1]
    have hb : bearsPF h t water l = false := by simp [bearsPF, he, h1]
    rw [he, hb]
    simp [h0, h1, HullM.v, HullM.cells, zeroH]
  refine (Classical.em (wetE 0 water = 0)).elim (fun h1 => ?_) (fun h1 => ?_)
  rotate_left
  · have he : bearE h t water l = wetE 0 water := by simp [bearE, h0, h1]
    have hb : bearsPF h t water l = false := by simp [bearsPF, he, h1]
    rw [he, hb]
    simp [h0, h1, HullM.v, HullM.cells]
  refine (Classical.em (10 < l.length)).elim (fun h2 => ?_) (fun h2 => ?_)
  · have h2' : (10 : Int) < l.length := by omega
    have he : bearE h t water l = 3 := by simp [bearE, h0, h1, h2]
    have hb : bearsPF h t water l = false := by simp [bearsPF, he]
    rw [he, hb]
    simp [h0, h1, h2', HullM.v, HullM.cells]
  have h2' : ¬ (10 : Int) < l.length := by omega
  have he : bearE h t water l = 0 := by simp [bearE, h0, h1, h2]
  have hb : bearsPF h t water l = bearsP h.aft h.fore (longF h) (inS h t water 0) (inS h t water 1) l 0 0 := by simp [bearsPF, he]
  have hn := truth_len h0
  rw [he, hb]
  simp [h0, h1, h2', HullM.v, HullM.cells]
  refine CallK.pure B_stand_body_in (stand_in_spec h t hl hn.1 hn.2 water _) ?_
  simp [sumsV]
  refine AW.loop (ι := Nat) (fun i fr σ => ∃ all turn, fr = { v := [(4, .pval (.agg [.slice 7 (h.ps.map PartM.v), ii' h.aft, ii' h.fore])), (12, .pval (.agg [ii' (inS h t water 0), ii' (inS h t water 1), ii' (inS h t water 2)])), (13, ii' (longF h)), (14, ii' all), (15, ii' turn), (42, .slice 2 (l.map frV)), (43, .int .i64 l.length), (44, .int .i64 i)], ds := [] } ∧ i ≤ l.length ∧
      bearsP h.aft h.fore (longF h) (inS h t water 0) (inS h t water 1) l 0 0 = bearsP h.aft h.fore (longF h) (inS h t water 0) (inS h t water 1) (l.drop i) all turn) (fun i => l.length - i) 0 ⟨0, 0, by simp [longF], by simp, by simp⟩ ?_
  rintro i fr σ ⟨all, turn, rfl, hi, hs⟩
  refine (Nat.lt_or_ge i l.length).elim (fun hlt => ?_) (fun hge => ?_)
  · have hd : l.drop i = l[i] :: l.drop (i + 1) := List.drop_eq_getElem_cons hlt
    obtain ⟨x, hx⟩ : ∃ x, l[i] = x := ⟨_, rfl⟩
    rw [hd, hx] at hs
    simp only [bearsP] at hs
    rw [hs]
    refine awpC_sound _ ?_
    simp [hlt, hx, frV]
    refine (tf (outF h.aft h.fore x.1)).elim (fun h4 => ?_) (fun h4 => ?_)
    · refine CallK.pureE B_stand_beyond (stand_beyond_spec h.aft h.fore [x.1] (by simp [maxLen]) _) (congrArg AVal.bool (show beyondF h.aft h.fore [x.1] = false by simpa [beyondF] using h4)) ?_
      simp [hlt, hx, frV]
      refine (tf (outF 0 (max0 (wr (wr (inS h t water 0 * longF h) - all))) x.2)).elim (fun h5 => ?_) (fun h5 => ?_)
      · refine CallK.pureE B_stand_beyond (stand_beyond_spec 0 (max0 (wr (wr (inS h t water 0 * longF h) - all))) [x.2] (by simp [maxLen]) _) (congrArg AVal.bool (show beyondF _ _ [x.2] = false by simpa [beyondF] using h5)) ?_
        simp [hlt, hx, frV, h5]
        exact ⟨i + 1, by omega, _, _, ⟨rfl, rfl, wrap_id (by omega) (by simp only [maxLen] at hf; omega)⟩, by omega, by rw [h4]; rfl⟩
      · refine CallK.pureE B_stand_beyond (stand_beyond_spec 0 (max0 (wr (wr (inS h t water 0 * longF h) - all))) [x.2] (by simp [maxLen]) _) (congrArg AVal.bool (show beyondF _ _ [x.2] = true by simpa [beyondF] using h5)) ?_
        simp [hlt, hx, frV, h5]
    · refine CallK.pureE B_stand_beyond (stand_beyond_spec h.aft h.fore [x.1] (by simp [maxLen]) _) (congrArg AVal.bool (show beyondF h.aft h.fore [x.1] = true by simpa [beyondF] using h4)) ?_
      simp [hlt, hx, frV, h4]
  · have : l.drop i = [] := List.drop_eq_nil_of_le hge
    rw [this] at hs
    simp only [bearsP] at hs
    rw [hs]
    have hnl : ¬ i < l.length := by omega
    refine awpC_sound _ ?_
    refine (Classical.em (0 < inS h t water 0)).elim (fun h4 => ?_) (fun h4 => ?_)
    · refine (Classical.em (all = wr (inS h t water 0 * longF h))).elim (fun h5 => ?_) (fun h5 => ?_)
      · refine (Classical.em (turn = wr (inS h t water 1 * longF h))).elim (fun h6 => ?_) (fun h6 => ?_)
        · simp [hnl, h4, h5, h6]
        · simp [hnl, h4, h5, h6]
      · simp [hnl, h4, h5]
    · simp [hnl, h4]

/-! ### Both say the same -/
theorem bearsP_neg (aft fore long s0 s1 : Int) (h : ¬ 0 < s0) : ∀ (l : List (Int × Int)) (a b : Int), bearsP aft fore long s0 s1 l a b = false
  | [], a, b => by simp [bearsP, h]
  | x :: r, a, b => by simp only [bearsP]; split <;> first | rfl | exact bearsP_neg aft fore long s0 s1 h r _ _

theorem bears_eq (aft fore long s0 s1 : Int) (hs : 0 < s0) (L : Int) (hL : wr (s0 * long) = L) (h0 : 0 ≤ L) (h1 : L ≤ 4611686018427387904) : ∀ (l : List (Int × Int)) (all turn : Int), 0 ≤ all → all ≤ L → wr turn = turn →
    bearsP aft fore long s0 s1 l all turn = bearsQ aft fore l (L - all) (wr (wr (s1 * long) - turn))
  | [], all, turn, g1, g2, g3 => by
    simp only [bearsP, bearsQ, hs, hL, decide_true, Bool.true_and]
    have e1 : decide (all = L) = decide (L - all = 0) := by rw [decide_eq_decide]; omega
    have e2 : decide (turn = wr (s1 * long)) = decide (wr (wr (s1 * long) - turn) = 0) := by
      rw [decide_eq_decide]
      simp only [wr, IntKind.wrap_i64] at g3 ⊢
      omega
    rw [e1, e2]
  | x :: r, all, turn, g1, g2, g3 => by
    simp only [bearsP, bearsQ, hL, insF_out]
    have e0 : wr (L - all) = L - all := wrap_id (by omega) (by omega)
    have e1 : max0 (wr (L - all)) = L - all := by rw [e0]; unfold max0; split <;> omega
    rw [e1]
    rcases tf (outF aft fore x.1) with k1 | k1
    · rcases tf (outF 0 (L - all) x.2) with k2 | k2
      · have kx : 0 ≤ x.2 ∧ x.2 ≤ L - all := by simp [outF] at k2; omega
        have e2 : wr (all + x.2) = all + x.2 := wrap_id (by omega) (by omega)
        have e3 : wr (L - all - x.2) = L - (all + x.2) := by
          have : wr (L - all - x.2) = L - all - x.2 := wrap_id (by omega) (by omega)
          rw [this]; omega
        have e4 : wr (wr (wr (s1 * long) - turn) - wr (x.2 * wr (x.1 - aft))) = wr (wr (s1 * long) - wr (turn + wr (x.2 * wr (x.1 - aft)))) := by
          generalize wr (x.2 * wr (x.1 - aft)) = y
          generalize wr (s1 * long) = z
          simp only [wr, IntKind.wrap_i64]
          omega
        simp only [k1, k2]
        simp only [Bool.or_self, Bool.false_eq_true, if_false, Bool.not_false, Bool.and_self, if_true]
        rw [bears_eq aft fore long s0 s1 hs L hL h0 h1 r (wr (all + x.2)) _ (by rw [e2]; omega) (by rw [e2]; omega) (wr_wr _), e2, e3, e4]
      · simp [k1, k2]
    · simp [k1]

theorem sumG_bound (f : PartM → Nat → Int) (B : Int) (hB : 0 ≤ B) : ∀ (l : List PartM) (a : Int) (k : Nat), (∀ i (hi : i < l.length), -B ≤ f l[i] (k + i) ∧ f l[i] (k + i) ≤ B) → ∀ M : Int, -M ≤ a ∧ a ≤ M → M + B * l.length ≤ 4611686018427387904 →
    -(M + B * l.length) ≤ sumG f a k l ∧ sumG f a k l ≤ M + B * l.length
  | [], a, k, _, M, h, _ => by simpa [sumG] using h
  | p :: r, a, k, h, M, hM, hx => by
    simp only [sumG]
    have h0 := h 0 (by simp)
    simp at h0
    have hlen : ((p :: r).length : Int) = r.length + 1 := by simp
    rw [hlen, Int.mul_add, Int.mul_one] at hx ⊢
    have hr : 0 ≤ B * (r.length : Int) := Int.mul_nonneg hB (by omega)
    have e : wr (a + f p k) = a + f p k := wrap_id (by omega) (by omega)
    rw [e]
    have := sumG_bound f B hB r (a + f p k) (k + 1) (fun i hi => by
      have := h (i + 1) (by simpa using hi)
      simpa [Nat.add_assoc, Nat.add_comm 1] using this) (M + B) (by omega) (by omega)
    omega

theorem strange_ok (f : PartM → Int × Int) : ∀ (ps : List PartM) (ns : List Int), strangeF f ps ns = false → ∀ i (hi : i < ps.length) (hj : i < ns.length), (f ps[i]).1 ≤ ns[i] ∧ ns[i] ≤ (f ps[i]).2
  | [], _, _, i, hi, _ => by simp at hi
  | _ :: _, [], _, i, _, hj => by simp at hj
  | p :: r, n :: t, h, i, hi, hj => by
    simp only [strangeF, Bool.or_eq_false_iff] at h
    cases i with
    | zero =>
      have := h.1
      simp [outF] at this
      simpa using this
    | succ i => simpa using strange_ok f r t h.2 i (by simpa using hi) (by simpa using hj)

theorem partE_ok {p : PartM} (h : partE p = 0) : (0 ≤ p.keel ∧ p.keel ≤ 1000) ∧ (0 ≤ p.wLo ∧ p.wHi ≤ 1000000) ∧ (0 ≤ p.lLo ∧ p.lHi ≤ 5000) := by
  unfold partE at h
  split at h
  · cases h
  · rename_i hn
    simp [beyondF, outF] at hn
    omega

theorem in_bound (h : HullM) (t : TruthM) (water : Int) (h0 : truthE h t = 0) (hw : wetE 0 water = 0) : inS h t water 0 ≤ 60000000 := by
  have he : eF h = 0 := by
    unfold truthE at h0
    split at h0
    · rename_i hx; exact absurd h0 hx
    · rename_i hx; simpa using hx
  have hn := truth_len h0
  have hst : strangeF (fun p => (p.wLo, p.wHi)) h.ps t.ws = false ∧ strangeF (fun p => (p.lLo, p.lHi)) h.ps t.ls = false := by
    unfold truthE at h0
    rw [if_neg (by simp [he]), if_neg (by simp [hn.1, hn.2])] at h0
    rcases tf (strangeF (fun p => (p.wLo, p.wHi)) h.ps t.ws) with k1 | k1 <;> rcases tf (strangeF (fun p => (p.lLo, p.lHi)) h.ps t.ls) with k2 | k2 <;> simp [k1, k2] at h0 ⊢
  have hwa : 0 ≤ water ∧ water ≤ 1000 := by
    have := (wetE_zero hw).2
    simp [beyondF, outF] at this
    exact this
  have hlen : h.ps.length ≤ 10 := by rw [eF_eq] at he; exact (eR_len he).2
  have hps : ∀ p ∈ h.ps, partE p = 0 := by
    have he' := he
    unfold eF checkF at he'
    split at he'
    · cases he'
    · split at he'
      · cases he'
      · split at he'
        · cases he'
        · exact parts_ok _ _ _ he'
  have hb := sumG_bound (inT h t water 0) 6000000 (by omega) h.ps 0 0 (fun i hi => by
    have hp := partE_ok (hps _ (List.getElem_mem hi))
    have k1 := strange_ok _ _ _ hst.1 i hi (by omega)
    have k2 := strange_ok _ _ _ hst.2 i hi (by omega)
    have e : inT h t water 0 h.ps[i] (0 + i) = pressR t water h.ps[i] (0 + i) := one_press t water _ _
    rw [e]
    unfold pressR
    have hov : 0 ≤ overR water h.ps[i].keel ∧ overR water h.ps[i].keel ≤ 1000 := by
      unfold overR
      have : wr (water - h.ps[i].keel) = water - h.ps[i].keel := wrap_id (by omega) (by omega)
      rw [this]
      split <;> omega
    have ew : t.ws[0 + i]?.getD 0 = t.ws[i]'(by omega) := by simp [show i < t.ws.length by omega]
    have el : t.ls[0 + i]?.getD 0 = t.ls[i]'(by omega) := by simp [show i < t.ls.length by omega]
    rw [ew, el]
    generalize overR water h.ps[i].keel = o at hov
    generalize t.ws[i]'(by omega) = a at k1
    generalize t.ls[i]'(by omega) = b at k2
    simp only at k1 k2
    have m1 : 0 ≤ b * o := Int.mul_nonneg (by omega) hov.1
    have m2 : b * o ≤ 5000 * 1000 := Int.mul_le_mul (by omega) hov.2 hov.1 (by omega)
    have w1 : wr (b * o) = b * o := wrap_id (by omega) (by omega)
    rw [w1]
    have w2 : wr (a - b * o) = a - b * o := wrap_id (by omega) (by omega)
    rw [w2]
    omega) 0 (by omega) (by omega)
  have : inS h t water 0 ≤ 0 + 6000000 * (h.ps.length : Int) := hb.2
  omega

theorem bearsPQ (h : HullM) (t : TruthM) (water : Int) (l : List (Int × Int)) : bearsPF h t water l = bearsQF h t water l := by
  unfold bearsPF bearsQF
  by_cases he : bearE h t water l = 0
  · have hw : wetE (truthE h t) water = 0 := by
      unfold bearE at he
      split at he
      · rename_i hx; exact absurd he hx
      · rename_i hx; simpa using hx
    have h0 := wetE_zero' hw
    rw [h0] at hw
    have hef : eF h = 0 := by
      unfold truthE at h0
      split at h0
      · rename_i hx; exact absurd h0 hx
      · rename_i hx; simpa using hx
    have hbd := bounds_of h hef
    have hlo : 0 < h.fore - h.aft := by
      have he' := hef
      unfold eF checkF at he'
      split at he'
      · cases he'
      · split at he'
        · cases he'
        · split at he'
          · cases he'
          · omega
    have hl : longF h = h.fore - h.aft := wrap_id (by have := hbd.aft; have := hbd.fore; omega) (by have := hbd.aft; have := hbd.fore; omega)
    by_cases hs : 0 < inS h t water 0
    · have hb := in_bound h t water h0 hw
      have hlb : h.fore - h.aft ≤ 5000 := by have := hbd.aft; have := hbd.fore; omega
      have m1 : 0 ≤ inS h t water 0 * (h.fore - h.aft) := Int.mul_nonneg (by omega) (by omega)
      have m2 : inS h t water 0 * (h.fore - h.aft) ≤ 60000000 * 5000 := Int.mul_le_mul hb hlb (by omega) (by omega)
      have hL : wr (inS h t water 0 * longF h) = inS h t water 0 * (h.fore - h.aft) := by rw [hl]; exact wrap_id (by omega) (by omega)
      have := bears_eq h.aft h.fore (longF h) (inS h t water 0) (inS h t water 1) hs _ hL m1 (by omega) l 0 0 (by omega) m1 (by decide)
      rw [this, hL, Int.sub_zero, Int.sub_zero, wr_wr]
      simp [he, hs]
    · rw [bearsP_neg _ _ _ _ _ hs]
      simp [hs]
  · simp [he]
end Go.AM
