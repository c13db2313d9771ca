/- Is a name taken: of the program. The error of a part: of the document. The truth of a hull: of the program. Levers and presses: of the program; the error of a height of water: of the document. The check of a hull: of the program. -/
import Derived.Test.YtmgbkmobhjjkiaaP1
namespace Go.AM
open Go.Proofs
set_option maxRecDepth 100000
set_option maxHeartbeats 1000000

theorem stand_Check_1_spec (y x : PartM) (σ : AHeap) : Spec Try.prog F_stand_Check_1 [y.v, .pval x.v] σ fun r σ' => r = .ret (.bool (y.name.toList == x.name.toList)) ∧ σ' = σ := by
  refine Spec.pureFn (spec_stand_Check_1 (by simp) (awpC_sound _ ?_)) rfl rfl σ
  simp [C_stand_Check_1, PartM.v, PartM.cells]

theorem slices_IndexFunc_St_spec (g : FuncId) (caps : List AVal) (hp : pures caps = true) (p : PartM → Bool) (l : List PartM) (hl : l.length ≤ maxLen) (hf : ∀ x ∈ l, PureF Try.prog (.func (.func g) [] caps) [x.v] (.bool (p x))) (σ : AHeap) :
    Spec Try.prog F_slices_IndexFunc_api_StPart_api_StPart [.slice 7 (l.map PartM.v), .func (.func g) [] caps] σ fun r σ' => r = .ret (.int .i64 (idxF p l 0)) ∧ σ' = σ := by
  refine Spec.pureFn (spec_slices_IndexFunc_api_StPart_api_StPart (by simp) (awpC_sound _ ?_)) (by simp [hp, pures_map (f := PartM.v) (fun _ => rfl) l]) rfl σ
  simp [C_slices_IndexFunc_api_StPart_api_StPart]
  refine AW.loop (ι := Nat) (fun i fr σ => fr = { v := [(0, .slice 7 (l.map PartM.v)), (1, .func (.func g) [] caps), (7, .int .i64 l.length), (8, .int .i64 i)], ds := [] } ∧ i ≤ l.length ∧ idxF p l 0 = idxF p (l.drop i) i) (fun i => l.length - i) 0 (by simp) ?_
  rintro i fr σ ⟨rfl, hi, hpi⟩
  refine awpC_sound _ ?_
  simp
  refine ⟨fun hlt => ?_, fun hge => ?_⟩
  · have hd : l.drop i = l[i] :: l.drop (i + 1) := List.drop_eq_getElem_cons hlt
    rw [hd] at hpi
    simp [idxF] at hpi
    simp [hlt, PartM.v, PartM.cells]
    refine CallK.of (hf l[i] (List.getElem_mem _) σ) ?_
    simp
    refine ⟨fun he => by rw [hpi, if_pos he], fun he => ⟨i + 1, by omega, wrap_id (by omega) (by simp only [maxLen] at hl; omega), by omega, by rw [hpi, if_neg (by simp [he])]⟩⟩
  · have : l.drop i = [] := List.drop_eq_nil_of_le hge
    rw [hpi, this]; rfl

theorem slices_ContainsFunc_St_spec (g : FuncId) (caps : List AVal) (hp : pures caps = true) (p : PartM → Bool) (l : List PartM) (hl : l.length ≤ maxLen) (hf : ∀ x ∈ l, PureF Try.prog (.func (.func g) [] caps) [x.v] (.bool (p x))) (σ : AHeap) :
    Spec Try.prog F_slices_ContainsFunc_api_StPart_api_StPart [.slice 7 (l.map PartM.v), .func (.func g) [] caps] σ fun r σ' => r = .ret (.bool (l.any p)) ∧ σ' = σ := by
  refine Spec.pureFn (spec_slices_ContainsFunc_api_StPart_api_StPart (by simp) (awpC_sound _ ?_)) (by simp [hp, pures_map (f := PartM.v) (fun _ => rfl) l]) rfl σ
  simp [C_slices_ContainsFunc_api_StPart_api_StPart]
  refine CallK.pure B_slices_IndexFunc_api_StPart_api_StPart (slices_IndexFunc_St_spec g caps hp p l hl hf _) ?_
  simp [idxF_any]

end Go.AM

namespace Go.AM
open Go.Proofs
set_option maxRecDepth 100000
set_option maxHeartbeats 1000000

def partR (p : PartM) : Int :=
  if !insF p.at_ 0 5000 || !insF p.keel 0 1000 || decide (spanErr (p.wLo, p.wHi) 0 1000000 = 7) || decide (spanErr (p.lLo, p.lHi) 0 5000 = 7) then 7
  else if spanErr (p.wLo, p.wHi) 0 1000000 ≠ 0 then spanErr (p.wLo, p.wHi) 0 1000000 else spanErr (p.lLo, p.lHi) 0 5000

theorem r05_part_spec (p : PartM) (σ : AHeap) : Spec Try.prog F_r05_part [p.v] σ fun r σ' => r = .ret (ii' (partR p)) ∧ σ' = σ := by
  refine Spec.pureFn (spec_r05_part (by simp) (awpC_sound _ ?_)) rfl rfl σ
  simp [C_r05_part, PartM.v, PartM.cells]
  refine ⟨.int .i64 (spanErr (p.wLo, p.wHi) 0 1000000), fun σ' => CallV.func B_r01_Range (r01_Range_spec _ _ _ _ _), ?_⟩
  simp
  refine ⟨.int .i64 (spanErr (p.lLo, p.lHi) 0 5000), fun σ' => CallV.func B_r01_Range (r01_Range_spec _ _ _ _ _), ?_⟩
  simp
  generalize hA : spanErr (p.wLo, p.wHi) 0 1000000 = A
  generalize hB : spanErr (p.lLo, p.lHi) 0 5000 = B
  have hR : partR p = if !insF p.at_ 0 5000 || !insF p.keel 0 1000 || decide (A = 7) || decide (B = 7) then 7 else if A ≠ 0 then A else B := by unfold partR; rw [hA, hB]
  rw [hR]
  refine (tf (insF p.at_ 0 5000)).elim (fun h1 => ?_) (fun h1 => ?_)
  · refine CallK.pureE B_r05_in (r05_in_spec p.at_ 0 5000 _) (congrArg AVal.bool h1) ?_
    simp [h1]
  · refine CallK.pureE B_r05_in (r05_in_spec p.at_ 0 5000 _) (congrArg AVal.bool h1) ?_
    simp
    refine (tf (insF p.keel 0 1000)).elim (fun h2 => ?_) (fun h2 => ?_)
    · refine CallK.pureE B_r05_in (r05_in_spec p.keel 0 1000 _) (congrArg AVal.bool h2) ?_
      simp [h2]
    · refine CallK.pureE B_r05_in (r05_in_spec p.keel 0 1000 _) (congrArg AVal.bool h2) ?_
      refine (Classical.em (A = 7)).elim (fun h3 => ?_) (fun h3 => ?_)
      · simp [h1, h2, h3]
      · refine (Classical.em (B = 7)).elim (fun h4 => ?_) (fun h4 => ?_)
        · simp [h1, h2, h3, h4]
        · refine (Classical.em (A = 0)).elim (fun h5 => ?_) (fun h5 => ?_)
          · simp [h1, h2, h4, h5]
          · simp [h1, h2, h3, h4, h5]
end Go.AM

namespace Go.AM
open Go.Proofs
set_option maxRecDepth 100000

structure TruthM where
  ws : List Int
  ls : List Int
def TruthM.v (t : TruthM) : AVal := .agg [.slice 1 (t.ws.map ii'), .slice 1 (t.ls.map ii')]
theorem TruthM.pure (t : TruthM) : t.v.pure = true := by simp [TruthM.v, AVal.pure, pures, pures_map (f := ii') (fun _ => rfl)]

theorem stand_open_1_spec (p : PartM) (σ : AHeap) : Spec Try.prog F_stand_open_1 [p.v] σ fun r σ' => r = .ret (.agg [ii' p.wLo, ii' p.wHi]) ∧ σ' = σ := by
  refine Spec.pureFn (spec_stand_open_1 (by simp) (awpC_sound _ ?_)) rfl rfl σ
  simp [C_stand_open_1, PartM.v, PartM.cells]
theorem stand_open_2_spec (p : PartM) (σ : AHeap) : Spec Try.prog F_stand_open_2 [p.v] σ fun r σ' => r = .ret (.agg [ii' p.lLo, ii' p.lHi]) ∧ σ' = σ := by
  refine Spec.pureFn (spec_stand_open_2 (by simp) (awpC_sound _ ?_)) rfl rfl σ
  simp [C_stand_open_2, PartM.v, PartM.cells]

def strangeF (f : PartM → Int × Int) : List PartM → List Int → Bool
  | p :: r, n :: t => outF (f p).1 (f p).2 n || strangeF f r t
  | _, _ => false

theorem stand_strange_spec (g : FuncId) (f : PartM → Int × Int) (ps : List PartM) (ns : List Int) (hl : ps.length ≤ maxLen) (hn : ns.length = ps.length) (hf : ∀ p, PureF Try.prog (.func (.func g) [] []) [p.v] (.agg [ii' (f p).1, ii' (f p).2])) (σ : AHeap) :
    Spec Try.prog F_stand_strange_api_StPart [.slice 7 (ps.map PartM.v), .slice 1 (ns.map ii'), .func (.func g) [] []] σ fun r σ' => r = .ret (.bool (strangeF f ps ns)) ∧ σ' = σ := by
  refine Spec.pureFn (spec_stand_strange_api_StPart (by simp) (awpC_sound _ ?_)) (by simp [pures_map (f := ii') (fun _ => rfl), pures_map (f := PartM.v) (fun _ => rfl)]) rfl σ
  simp [C_stand_strange_api_StPart]
  refine AW.loop (ι := Nat) (fun i fr σ => fr = { v := [(1, .slice 1 (ns.map ii')), (2, .func (.func g) [] []), (10, .slice 7 (ps.map PartM.v)), (11, .int .i64 ps.length), (12, .int .i64 i)], ds := [] } ∧ i ≤ ps.length ∧ strangeF f ps ns = strangeF f (ps.drop i) (ns.drop i)) (fun i => ps.length - i) 0 (by simp) ?_
  rintro i fr σ ⟨rfl, hi, hp⟩
  refine awpC_sound _ ?_
  simp
  refine ⟨fun hlt => ?_, fun hge => ?_⟩
  · have hd : ps.drop i = ps[i] :: ps.drop (i + 1) := List.drop_eq_getElem_cons hlt
    have hlt' : i < ns.length := by omega
    have hd' : ns.drop i = ns[i] :: ns.drop (i + 1) := List.drop_eq_getElem_cons hlt'
    rw [hd, hd'] at hp
    simp [strangeF] at hp
    simp [hlt, PartM.v, PartM.cells]
    refine CallK.of (hf ps[i] _) ?_
    simp [hlt']
    refine ⟨.bool (beyondF (f ps[i]).1 (f ps[i]).2 [ns[i]]), fun σ' => CallV.func B_stand_beyond (stand_beyond_spec _ _ [ns[i]] (by simp [maxLen]) σ'), ?_⟩
    simp [beyondF]
    refine ⟨fun h => by rw [hp, h]; rfl, fun h => ⟨i + 1, by omega, wrap_id (by omega) (by simp only [maxLen] at hl; omega), by omega, by rw [hp, h]; simp⟩⟩
  · have h1 : ps.drop i = [] := List.drop_eq_nil_of_le hge
    rw [hp, h1]; simp [strangeF]

end Go.AM

namespace Go.AM
open Go.Proofs
set_option maxRecDepth 100000
set_option maxHeartbeats 1000000

abbrev wr (n : Int) : Int := IntKind.i64.wrap n

theorem stand_levers_1_spec (p : PartM) (σ : AHeap) : Spec Try.prog F_stand_body_levers_1 [p.v] σ fun r σ' => r = .ret (ii' 1) ∧ σ' = σ := by
  refine Spec.pureFn (spec_stand_body_levers_1 (by simp) (awpC_sound _ ?_)) rfl rfl σ
  simp [C_stand_body_levers_1, PartM.v, PartM.cells]
theorem stand_levers_2_spec (p : PartM) (h : HullM) (σ : AHeap) : Spec Try.prog F_stand_body_levers_2 [p.v, .pval h.v] σ fun r σ' => r = .ret (ii' (wr (p.at_ - h.aft))) ∧ σ' = σ := by
  refine Spec.pureFn (spec_stand_body_levers_2 (by simp) (awpC_sound _ ?_)) (by simp [h.pure]; rfl) rfl σ
  simp [C_stand_body_levers_2, PartM.v, PartM.cells, HullM.v, HullM.cells]
theorem stand_levers_3_spec (p : PartM) (h : HullM) (σ : AHeap) : Spec Try.prog F_stand_body_levers_3 [p.v, .pval h.v] σ fun r σ' => r = .ret (ii' (wr (h.fore - p.at_))) ∧ σ' = σ := by
  refine Spec.pureFn (spec_stand_body_levers_3 (by simp) (awpC_sound _ ?_)) (by simp [h.pure]; rfl) rfl σ
  simp [C_stand_body_levers_3, PartM.v, PartM.cells, HullM.v, HullM.cells]
def loadV' (p : PartM) (o : Int) : AVal := .agg (p.cells ++ [ii' o])
def lightF (p : PartM) (o : Int) : Int := wr (p.wLo - wr (p.lHi * o))
def heavyF (p : PartM) (o : Int) : Int := wr (p.wHi - wr (p.lLo * o))
theorem stand_load_light_spec (p : PartM) (o : Int) (σ : AHeap) : Spec Try.prog F_stand_load_light [loadV' p o] σ fun r σ' => r = .ret (ii' (lightF p o)) ∧ σ' = σ := by
  refine Spec.pureFn (spec_stand_load_light (by simp) (awpC_sound _ ?_)) rfl rfl σ
  simp [C_stand_load_light, loadV', PartM.cells, lightF]
theorem stand_load_heavy_spec (p : PartM) (o : Int) (σ : AHeap) : Spec Try.prog F_stand_load_heavy [loadV' p o] σ fun r σ' => r = .ret (ii' (heavyF p o)) ∧ σ' = σ := by
  refine Spec.pureFn (spec_stand_load_heavy (by simp) (awpC_sound _ ?_)) rfl rfl σ
  simp [C_stand_load_heavy, loadV', PartM.cells, heavyF]
def sumsV (a b c : Int) : AVal := .agg [ii' a, ii' b, ii' c]
theorem stand_sums_balance_spec (a b c : Int) (σ : AHeap) : Spec Try.prog F_stand_sums_balance [sumsV a b c] σ fun r σ' => r = .ret (sumsV a b c) ∧ σ' = σ := by
  refine Spec.pureFn (spec_stand_sums_balance (by simp) (awpC_sound _ ?_)) rfl rfl σ
  simp [C_stand_sums_balance, sumsV]
def wetE (e water : Int) : Int := if e = 0 ∧ beyondF 0 1000 [water] = true then 7 else e
theorem insF_beyond (n lo hi : Int) : (!insF n lo hi) = beyondF lo hi [n] := by
  rw [Bool.eq_iff_iff]; simp [insF, beyondF, outF]
theorem r05_watered_spec (e water : Int) (σ : AHeap) : Spec Try.prog F_r05_watered [ii' e, ii' water] σ fun r σ' => r = .ret (ii' (wetE e water)) ∧ σ' = σ := by
  refine Spec.pureFn (spec_r05_watered (by simp) (awpC_sound _ ?_)) rfl rfl σ
  refine (Classical.em (e = 0)).elim (fun h => ?_) (fun h => ?_)
  · simp [C_r05_watered, h]
    refine CallK.pure B_r05_in (r05_in_spec _ _ _ _) ?_
    have hb := insF_beyond water 0 1000
    refine (tf (insF water 0 1000)).elim (fun h1 => ?_) (fun h1 => ?_)
    · rw [h1] at hb
      simp [h1, wetE, ← hb]
    · rw [h1] at hb
      simp [h1, wetE, ← hb]
  · simp [C_r05_watered, h, wetE]

def leversV (h : HullM) : AVal := .agg [.func (.func 87) [] [], .func (.func 90) [] [], .func (.func 91) [] [], .func (.func 88) [] [.pval h.v], .func (.func 90) [] [], .func (.func 91) [] [], .func (.func 89) [] [.pval h.v], .func (.func 90) [] [], .func (.func 91) [] []]
theorem stand_levers_spec (h : HullM) (σ : AHeap) : Spec Try.prog F_stand_body_levers [h.v] σ fun r σ' => r = .ret (leversV h) ∧ σ' = σ := by
  refine Spec.pureFn (spec_stand_body_levers (by simp) (awpC_sound _ ?_)) (by simp [h.pure]) (by simp [leversV, AVal.pure, pures, h.pure]) σ
  simp [C_stand_body_levers, HullM.v, HullM.cells]
  have w1 : IntKind.i64.wrap 1 = 1 := by decide
  have w2 : IntKind.i64.wrap 2 = 2 := by decide
  have w3 : IntKind.i64.wrap 3 = 3 := by decide
  refine AW.loop (ι := Nat) (fun i fr σ => ∃ cs, fr = { v := [(2, .ptr 0 0), (4, .ptr 2 0), (10, .agg [.func (.func 87) [] [], .func (.func 88) [] [.pval h.v], .func (.func 89) [] [.pval h.v]]), (11, .int .i64 i)], ds := [] } ∧ σ = [.box [.nilfunc, .nilfunc, .nilfunc, .nilfunc, .nilfunc, .nilfunc, .nilfunc, .nilfunc, .nilfunc], .dead, .box cs] ∧
      ((i = 0 ∧ cs = [.nilfunc, .nilfunc, .nilfunc, .nilfunc, .nilfunc, .nilfunc, .nilfunc, .nilfunc, .nilfunc]) ∨
      (i = 1 ∧ cs = [.func (.func 87) [] [], .func (.func 90) [] [], .func (.func 91) [] [], .nilfunc, .nilfunc, .nilfunc, .nilfunc, .nilfunc, .nilfunc]) ∨
      (i = 2 ∧ cs = [.func (.func 87) [] [], .func (.func 90) [] [], .func (.func 91) [] [], .func (.func 88) [] [.pval h.v], .func (.func 90) [] [], .func (.func 91) [] [], .nilfunc, .nilfunc, .nilfunc]) ∨
      (i = 3 ∧ cs = [.func (.func 87) [] [], .func (.func 90) [] [], .func (.func 91) [] [], .func (.func 88) [] [.pval h.v], .func (.func 90) [] [], .func (.func 91) [] [], .func (.func 89) [] [.pval h.v], .func (.func 90) [] [], .func (.func 91) [] []]))) (fun i => 3 - i) 0 ⟨_, by simp [HullM.v, HullM.cells], rfl, .inl ⟨rfl, rfl⟩⟩ ?_
  rintro i fr σ ⟨cs, rfl, rfl, hcs⟩
  refine awpC_sound _ ?_
  refine hcs.elim (fun hh => ?_) (fun hcs => hcs.elim (fun hh => ?_) (fun hcs => hcs.elim (fun hh => ?_) (fun hh => ?_)))
  · obtain ⟨rfl, rfl⟩ := hh
    simp [w1]
  · obtain ⟨rfl, rfl⟩ := hh
    simp [w2]
  · obtain ⟨rfl, rfl⟩ := hh
    simp [w3]
  · obtain ⟨rfl, rfl⟩ := hh
    simp [leversV]
end Go.AM

namespace Go.AM
open Go.Proofs
set_option maxRecDepth 100000
set_option maxHeartbeats 1000000

/-- Part by part: the first error. -/
def partsE (all : List PartM) : List PartM → Nat → Int × Int × Int
  | [], _ => (0, 0, 0)
  | x :: r, i =>
    if nameF x.name = false then (2, i, 6)
    else if (all.take i).any (fun y => y.name.toList == x.name.toList) then (2, i, 5)
    else if partE x ≠ 0 then (2, i, partE x) else partsE all r (i + 1)
def checkF (h : HullM) : Int × Int × Int :=
  if beyondF 1 10 [(h.ps.length : Int)] then (1, 0, 3) else if beyondF 0 5000 [h.aft, h.fore] then (1, 0, 7) else if h.fore ≤ h.aft then (1, 0, 2) else partsE h.ps h.ps 0
def tripV (x : Int × Int × Int) : AVal := .tup [ii' x.1, ii' x.2.1, ii' x.2.2]

theorem stand_Check_spec (h : HullM) (hl : h.ps.length ≤ maxLen) (σ : AHeap) : Spec Try.prog F_stand_Check [h.v] σ fun r σ' => r = .ret (tripV (checkF h)) ∧ σ' = σ := by
  refine Spec.pureFn (spec_stand_Check (by simp) (awpC_sound _ ?_)) (by simp [h.pure]) rfl σ
  simp [C_stand_Check, HullM.v, HullM.cells]
  refine (tf (beyondF 1 10 [(h.ps.length : Int)])).elim (fun h1 => ?_) (fun h1 => ?_)
  rotate_left
  · refine CallK.pureE B_stand_beyond (stand_beyond_spec 1 10 [(h.ps.length : Int)] (by simp [maxLen]) _) (congrArg AVal.bool h1) ?_
    simp [checkF, h1, tripV]
  refine CallK.pureE B_stand_beyond (stand_beyond_spec 1 10 [(h.ps.length : Int)] (by simp [maxLen]) _) (congrArg AVal.bool h1) ?_
  simp
  refine (tf (beyondF 0 5000 [h.aft, h.fore])).elim (fun h2 => ?_) (fun h2 => ?_)
  rotate_left
  · refine CallK.pureE B_stand_beyond (stand_beyond_spec 0 5000 [h.aft, h.fore] (by simp [maxLen]) _) (congrArg AVal.bool h2) ?_
    simp [checkF, h1, h2, tripV]
  refine CallK.pureE B_stand_beyond (stand_beyond_spec 0 5000 [h.aft, h.fore] (by simp [maxLen]) _) (congrArg AVal.bool h2) ?_
  simp
  refine ⟨fun h3 => by simp [checkF, h1, h2, h3, tripV], fun h3 => ?_⟩
  have hc : checkF h = partsE h.ps h.ps 0 := by simp only [checkF, h1, h2]; rw [if_neg (by simp), if_neg (by simp), if_neg (by omega)]
  rw [hc]
  refine AW.loop (ι := Nat) (fun i fr σ => fr = { v := [(1, .pval (.agg [.slice 7 (h.ps.map PartM.v), ii' h.aft, ii' h.fore])), (27, .slice 7 (h.ps.map PartM.v)), (28, .int .i64 h.ps.length), (29, .int .i64 i)], ds := [] } ∧ i ≤ h.ps.length ∧ partsE h.ps h.ps 0 = partsE h.ps (h.ps.drop i) i) (fun i => h.ps.length - i) 0 (by simp) ?_
  rintro i fr σ ⟨rfl, hi, hp⟩
  refine awpC_sound _ ?_
  simp
  refine ⟨fun hlt => ?_, fun hge => ?_⟩
  · have hd : h.ps.drop i = h.ps[i] :: h.ps.drop (i + 1) := List.drop_eq_getElem_cons hlt
    rw [hd] at hp
    simp only [partsE] at hp
    rw [hp]
    generalize hx : h.ps[i] = x at *
    simp [hlt, hx, PartM.v, PartM.cells]
    refine (tf (nameF x.name)).elim (fun h4 => ?_) (fun h4 => ?_)
    · refine CallK.pureE B_hull_Name (hull_Name_spec x.name _) (congrArg AVal.bool h4) ?_
      simp [h4, tripV]
    refine CallK.pureE B_hull_Name (hull_Name_spec x.name _) (congrArg AVal.bool h4) ?_
    simp [h4, hlt, hx, hi, PartM.v, PartM.cells]
    have hcl := fun σ => slices_ContainsFunc_St_spec 54 [.pval x.v] rfl (fun y => y.name.toList == x.name.toList) (h.ps.take i) (by simp; omega) (fun y _ => PureF.fn B_stand_Check_1 (fun σ => stand_Check_1_spec y x σ)) σ
    rw [List.map_take] at hcl
    refine (tf ((h.ps.take i).any fun y => y.name.toList == x.name.toList)).elim (fun h5 => ?_) (fun h5 => ?_)
    rotate_left
    · refine CallK.pureE B_slices_ContainsFunc_api_StPart_api_StPart (hcl _) (congrArg AVal.bool h5) ?_
      simp only [h5, if_true]
      simp [tripV, h4]
    refine CallK.pureE B_slices_ContainsFunc_api_StPart_api_StPart (hcl _) (congrArg AVal.bool h5) ?_
    simp only [h5]
    simp [hlt, hx, PartM.v, PartM.cells]
    refine CallK.pure B_stand_check (stand_check_spec x _) ?_
    refine (Classical.em (partE x = 0)).elim (fun h6 => ?_) (fun h6 => ?_)
    · simp [h6]
      exact ⟨i + 1, by omega, wrap_id (by omega) (by simp only [maxLen] at hl; omega), by omega, by simp [h4]⟩
    · simp [h4, h6, tripV]
  · have : h.ps.drop i = [] := List.drop_eq_nil_of_le hge
    rw [hp, this]; rfl
end Go.AM
