/- The check of a hull: of the document. -/
import Derived.Test.YtmgbkmobhjjkiaaT34b
namespace Go.AM
open Go.Proofs
set_option maxRecDepth 100000
set_option maxHeartbeats 1000000

def errR (all : List PartM) (x : PartM) (i : Nat) : Int :=
  if freshF x.name ((all.take i).map PartM.name) = 0 then partR x else freshF x.name ((all.take i).map PartM.name)
def partsR (all : List PartM) : List PartM → Nat → Int × Int × Int
  | [], _ => (0, 0, 0)
  | x :: r, i => if errR all x i ≠ 0 then (2, i, errR all x i) else partsR all r (i + 1)
def checkR (h : HullM) : Int × Int × Int :=
  if insF (h.ps.length : Int) 1 10 = false then (1, 0, 3) else if insF h.aft 0 5000 = false ∨ insF h.fore 0 5000 = false then (1, 0, 7) else if h.fore ≤ h.aft then (1, 0, 2) else partsR h.ps h.ps 0
def tripR (x : Int × Int × Int) : AVal := .tup [ii' x.1, ii' x.2.1, ii' x.2.2]

theorem r05_Check_spec (h : HullM) (hl : h.ps.length ≤ maxLen) (σ : AHeap) : Spec Try.prog F_r05_Check [h.v] σ fun r σ' => r = .ret (tripR (checkR h)) ∧ σ' = σ := by
  refine Spec.pureFn (spec_r05_Check (by simp) (awpC_sound _ ?_)) (by simp [h.pure]) rfl σ
  simp [C_r05_Check, HullM.v, HullM.cells]
  refine (tf (insF (h.ps.length : Int) 1 10)).elim (fun h1 => ?_) (fun h1 => ?_)
  · refine CallK.pureE B_r05_in (r05_in_spec (h.ps.length : Int) 1 10 _) (congrArg AVal.bool h1) ?_
    simp [checkR, h1, tripR]
  refine CallK.pureE B_r05_in (r05_in_spec (h.ps.length : Int) 1 10 _) (congrArg AVal.bool h1) ?_
  simp
  refine (tf (insF h.aft 0 5000)).elim (fun h2 => ?_) (fun h2 => ?_)
  · refine CallK.pureE B_r05_in (r05_in_spec h.aft 0 5000 _) (congrArg AVal.bool h2) ?_
    simp [checkR, h1, h2, tripR]
  refine CallK.pureE B_r05_in (r05_in_spec h.aft 0 5000 _) (congrArg AVal.bool h2) ?_
  simp
  refine (tf (insF h.fore 0 5000)).elim (fun h3 => ?_) (fun h3 => ?_)
  · refine CallK.pureE B_r05_in (r05_in_spec h.fore 0 5000 _) (congrArg AVal.bool h3) ?_
    simp [checkR, h1, h2, h3, tripR]
  refine CallK.pureE B_r05_in (r05_in_spec h.fore 0 5000 _) (congrArg AVal.bool h3) ?_
  simp
  refine ⟨fun h4 => by simp [checkR, h1, h2, h3, h4, tripR], fun h4 => ?_⟩
  have hc : checkR h = partsR h.ps h.ps 0 := by simp only [checkR, h1, h2, h3]; rw [if_neg (by simp), if_neg (by simp), if_neg (by omega)]
  have hlen : h.ps.length ≤ 10 := by simp [insF] at h1; omega
  rw [hc]
  refine AW.loop (ι := Nat) (fun i fr σ => fr = { v := [(1, .pval (.agg [.slice 7 (h.ps.map PartM.v), ii' h.aft, ii' h.fore])), (5, .oslice 1 ((h.ps.take i).map (fun p => .str p.name)) 0 i), (6, .int .i64 i)], ds := [] } ∧ σ = [.spare 1 i] ∧ i ≤ h.ps.length ∧ partsR h.ps h.ps 0 = partsR h.ps (h.ps.drop i) i) (fun i => h.ps.length - i) 0 (by simp) ?_
  rintro i fr σ ⟨rfl, rfl, hi, hp⟩
  refine (Nat.lt_or_ge i h.ps.length).elim (fun hlt => ?_) (fun hge => ?_)
  · have hd : h.ps.drop i = h.ps[i] :: h.ps.drop (i + 1) := List.drop_eq_getElem_cons hlt
    obtain ⟨x, hx⟩ : ∃ x, h.ps[i] = x := ⟨_, rfl⟩
    rw [hd, hx] at hp
    simp only [partsR] at hp
    rw [hp]
    refine awpC_sound _ ?_
    simp [hlt, hx, PartM.v, PartM.cells]
    have hfr := fun σ => r01_Fresh_spec ((h.ps.take i).map PartM.name) x.name (by simp [maxLen]; omega) σ
    simp only [List.map_take, List.map_map, Function.comp_def] at hfr
    refine CallK.pure B_r01_Fresh (hfr _) ?_
    simp [hlt, hx, PartM.v, PartM.cells]
    have hmin : min i h.ps.length = i := by omega
    have hfit : Fits 1 [AVal.str x.name] := by intro v hv; simp at hv; subst hv; exact ⟨⟨rfl, rfl⟩, rfl⟩
    have htk : List.take i (List.map (fun p => AVal.str p.name) h.ps) ++ [AVal.str x.name] = List.take (i + 1) (List.map (fun p : PartM => AVal.str p.name) h.ps) := by
      rw [List.take_add_one]; simp [hlt, hx]
    have herr : errR h.ps x i = if freshF x.name (List.take i (List.map PartM.name h.ps)) = 0 then partR x else freshF x.name (List.take i (List.map PartM.name h.ps)) := by simp only [errR, List.map_take]
    refine ⟨hfit, by omega, fun h5 => ?_, fun h5 => ⟨fun _ => ?_, fun h6 => absurd h6 h5⟩⟩
    · refine CallK.pure B_r05_part (r05_part_spec x _) ?_
      rw [if_pos h5] at herr
      refine (Classical.em (partR x = 0)).elim (fun h6 => ?_) (fun h6 => ?_)
      · simp [h6, herr, hlt, hx, PartM.v, PartM.cells]
        exact ⟨i + 1, by omega, ⟨⟨htk, rfl⟩, wrap_id (by omega) (by omega)⟩, rfl, by omega, rfl⟩
      · simp [h6, herr, tripR, hlt, hx, PartM.v, PartM.cells]
    · rw [if_neg h5] at herr
      rw [if_neg (by rw [herr]; exact h5), herr]; rfl
  · have : h.ps.drop i = [] := List.drop_eq_nil_of_le hge
    rw [this] at hp
    rw [hp]
    have hnl : ¬ i < h.ps.length := by omega
    refine awpC_sound _ ?_
    simp [hnl, tripR, partsR]
end Go.AM
