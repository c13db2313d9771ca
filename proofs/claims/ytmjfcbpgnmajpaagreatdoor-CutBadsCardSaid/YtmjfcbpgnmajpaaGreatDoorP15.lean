/- The error of a part of a ship: of the program. The truth of a hull: of the program. Levers and presses: of the program; the error of a height of water: of the document. The sums in a truth, and .. -/
import Derived.Test.YtmjfcbpgnmajpaaGreatDoorP14
namespace Go.AM
open Go.Proofs
set_option maxRecDepth 100000
set_option maxHeartbeats 1000000
def repC (on : List ByteArray) : List ByteArray → Nat → Bool
  | [], _ => false
  | n :: r, i => (on.take i).any (fun y => n.toList == y.toList) || repC on r (i + 1)
theorem hull_repeated_spec (on : List ByteArray) (hn : on.length ≤ maxLen) (σ : AHeap) :
    Spec Tryz.prog F_hull_repeated_string [.slice 1 (on.map .str)] σ fun r σ' => r = .ret (.bool (repC on on 0)) ∧ σ' = σ := by
  refine Spec.pureFn (spec_hull_repeated_string (by simp) (awpC_sound _ ?_)) (by simp [pures_map (f := AVal.str) (fun _ => rfl)]) rfl σ
  simp [C_hull_repeated_string]
  refine AW.loop (ι := Nat) (fun i fr σ => fr = { v := [(0, .slice 1 (on.map .str)), (5, .slice 1 (on.map .str)), (6, .int .i64 on.length), (7, .int .i64 i)], ds := [] } ∧ σ = [] ∧ i ≤ on.length ∧ repC on on 0 = repC on (on.drop i) i) (fun i => on.length - i) 0 (by simp) ?_
  rintro i fr σ ⟨rfl, rfl, hi, hpi⟩
  refine awpC_sound _ ?_
  simp
  refine ⟨fun hlt => ?_, fun hge => ?_⟩
  · have hd : on.drop i = on[i] :: on.drop (i + 1) := List.drop_eq_getElem_cons hlt
    rw [hd] at hpi
    simp only [repC] at hpi
    obtain ⟨n, hn'⟩ : ∃ n, on[i] = n := ⟨_, rfl⟩
    rw [hn'] at hpi
    simp [hlt, hn']
    have hq := slices_Contains_str_spec (on.take i) n (by simp; omega) []
    rw [List.map_take] at hq
    refine ⟨by omega, CallK.pure B_slices_Contains_string_string hq ?_⟩
    simp [hlt, hn']
    refine ⟨fun y hy he => ?_, fun h => ⟨i + 1, by omega, wrap_id (by omega) (by simp only [maxLen] at hn; omega), by omega, ?_⟩⟩
    · have : ((on.take i).any fun y => n.toList == y.toList) = true := List.any_eq_true.2 ⟨y, hy, by simp [he]⟩
      rw [hpi, this]; rfl
    · have : ((on.take i).any fun y => n.toList == y.toList) = false := by rw [List.any_eq_false]; intro y hy; simp [h y hy]
      rw [hpi, this]; rfl
  have hz : on.drop i = [] := List.drop_eq_nil_of_le hge
  rw [hz] at hpi
  rw [hpi]; rfl
theorem hull_ship_find_spec (ps : List HuM) (x : ByteArray) (hl : ps.length ≤ maxLen) (b : Nat) (σ : AHeap) (hb : σ[b]? = some (.box [.slice 7 (ps.map HuM.v)])) :
    Spec Tryz.prog F_hull_ship_find [.ptr b 0, .str x] σ fun r σ' => r = .ret (.int .i64 (findF ps x)) ∧ σ' = σ := by
  refine spec_hull_ship_find (by simp) (awpC_sound _ ?_)
  simp [C_hull_ship_find, hb]
  refine CallK.pure B_slices_IndexFunc_api_HuPart_api_HuPart (slices_IndexFunc_Hu_spec _ _ rfl (fun y => y.name.toList == x.toList) ps hl (fun y _ => PureF.fn B_hull_ship_find_1 (fun σ => hull_ship_find_1_spec y x σ)) _) ?_
  simp [findF]
theorem hull_ship_check_2_spec (ps : List HuM) (n : ByteArray) (hl : ps.length ≤ maxLen) (b : Nat) (σ : AHeap) (hb : σ[b]? = some (.box [.slice 7 (ps.map HuM.v)])) :
    Spec Tryz.prog F_hull_ship_check_2 [.str n, .ptr b 0] σ fun r σ' => r = .ret (.bool (decide (findF ps n < 0))) ∧ σ' = σ := by
  refine spec_hull_ship_check_2 (by simp) (awpC_sound _ ?_)
  simp [C_hull_ship_check_2]
  refine CallK.pure B_hull_ship_find (hull_ship_find_spec ps n hl b _ hb) ?_
  simp
theorem hull_ship_check_3_spec (ps : List HuM) (x : HuM) (n : ByteArray) (hl : ps.length ≤ maxLen) (b : Nat) (σ : AHeap) (hb : σ[b]? = some (.box [.slice 7 (ps.map HuM.v)])) (h0 : 0 ≤ findF ps n) :
    Spec Tryz.prog F_hull_ship_check_3 [.str n, .pval x.v, .ptr b 0] σ fun r σ' => r = .ret (.bool (!meetF x (atF ps n))) ∧ σ' = σ := by
  refine spec_hull_ship_check_3 (by simp) (awpC_sound _ ?_)
  simp [C_hull_ship_check_3, hb, HuM.v, HuM.cells]
  obtain ⟨j, hj1, hj2⟩ := findF_lt h0
  have hat : atF ps n = ps[j] := by simp [atF, hj1, hj2]
  obtain ⟨y, hy⟩ : ∃ y, ps[j] = y := ⟨_, rfl⟩
  refine CallK.pure B_hull_ship_find (hull_ship_find_spec ps n hl b _ hb) ?_
  simp [hj1, hj2, hy, hb, HuM.v, HuM.cells]
  refine CallK.pure B_hull_meet (hull_meet_spec x y _) ?_
  simp [hj1, hj2, hy, hb, HuM.v, HuM.cells]
  rw [hat, hy]
theorem slices_IndexFunc_strH_spec (g : FuncId) (caps : List AVal) (p : ByteArray → Bool) (l : List ByteArray) (hl : l.length ≤ maxLen) (σ : AHeap) (hf : ∀ x ∈ l, CallV Tryz.prog (.func (.func g) [] caps) [.str x] σ fun r σ' => r = .ret (.bool (p x)) ∧ σ' = σ) :
    Spec Tryz.prog F_slices_IndexFunc_string_string [.slice 1 (l.map AVal.str), .func (.func g) [] caps] σ fun r σ' => r = .ret (.int .i64 (idxF p l 0)) ∧ σ' = σ := by
  refine spec_slices_IndexFunc_string_string (by simp) (awpC_sound _ ?_)
  simp [C_slices_IndexFunc_string_string]
  refine AW.loop (ι := Nat) (fun i fr σ' => fr = { v := [(0, .slice 1 (l.map AVal.str)), (1, .func (.func g) [] caps), (7, .int .i64 l.length), (8, .int .i64 i)], ds := [] } ∧ σ' = σ ∧ i ≤ l.length ∧ idxF p l 0 = idxF p (l.drop i) i) (fun i => l.length - i) 0 (by simp) ?_
  rintro i fr σ' ⟨rfl, rfl, hi, hpi⟩
  refine awpC_sound _ ?_
  simp
  refine ⟨fun hlt => ?_, fun hge => ?_⟩
  · have hd : l.drop i = l[i] :: l.drop (i + 1) := List.drop_eq_getElem_cons hlt
    rw [hd] at hpi
    simp [idxF] at hpi
    simp [hlt]
    refine CallK.of (hf l[i] (List.getElem_mem _)) ?_
    simp
    refine ⟨fun he => by rw [hpi, if_pos he], fun he => ⟨i + 1, by omega, wrap_id (by omega) (by simp only [maxLen] at hl; omega), by omega, by rw [hpi, if_neg (by simp [he])]⟩⟩
  · have : l.drop i = [] := List.drop_eq_nil_of_le hge
    rw [hpi, this]; rfl
theorem slices_ContainsFunc_strH_spec (g : FuncId) (caps : List AVal) (p : ByteArray → Bool) (l : List ByteArray) (hl : l.length ≤ maxLen) (σ : AHeap) (hf : ∀ x ∈ l, CallV Tryz.prog (.func (.func g) [] caps) [.str x] σ fun r σ' => r = .ret (.bool (p x)) ∧ σ' = σ) :
    Spec Tryz.prog F_slices_ContainsFunc_string_string [.slice 1 (l.map AVal.str), .func (.func g) [] caps] σ fun r σ' => r = .ret (.bool (l.any p)) ∧ σ' = σ := by
  refine spec_slices_ContainsFunc_string_string (by simp) (awpC_sound _ ?_)
  simp [C_slices_ContainsFunc_string_string]
  refine CallK.pure B_slices_IndexFunc_string_string (slices_IndexFunc_strH_spec g caps p l hl σ hf) ?_
  simp [idxF_any]
def checkP (ps : List HuM) (x : HuM) (k : Nat) : Int :=
  if nameF x.name = false then 6
  else if 0 ≤ findF ps x.name ∧ findF ps x.name < k then 5
  else if beyondF 1 5 [x.kind] || beyondF 0 40 [x.first, x.last] || beyondF 1 1000000 [x.lo, x.hi] then 7
  else if x.last < x.first ∨ x.hi < x.lo then 2
  else if x.on.any (fun n => decide (findF (ps.take k) n < 0)) then 4
  else if repC x.on x.on 0 then 5
  else if x.on.any (fun n => !meetF x (atF (ps.take k) n)) then 9 else 0
theorem hull_ship_check_spec (ps : List HuM) (x : HuM) (k : Nat) (hl : ps.length ≤ maxLen) (hk : k ≤ ps.length) (hn : x.on.length ≤ maxLen) (b : Nat) (σ : AHeap) (hb : σ[b]? = some (.box [.slice 7 (ps.map HuM.v)])) :
    Spec Tryz.prog F_hull_ship_check [.ptr b 0, x.v, .int .i64 k, .slice 7 []] σ fun r σ' => r = .ret (ii' (checkP ps x k)) ∧ ∃ tl, σ' = σ ++ tl := by
  refine spec_hull_ship_check (by simp) (awpC_sound _ ?_)
  simp [C_hull_ship_check, HuM.v, HuM.cells]
  refine (tf (nameF x.name)).elim (fun h1 => ?_) (fun h1 => ?_)
  · refine CallK.pureE B_hull_Name (hull_Name_spec x.name _) (congrArg AVal.bool h1) ?_
    simp [checkP, h1]
  refine CallK.pureE B_hull_Name (hull_Name_spec x.name _) (congrArg AVal.bool h1) ?_
  simp
  have hfd := hull_ship_find_spec ps x.name hl b σ hb
  have hcf := slices_ContainsFunc_Hu_spec F_hull_ship_check_1 [.pval x.v] (by simp [AVal.pure, pures, x.pure]) (fun y => y.name.toList == x.name.toList) [] (by simp) (by simp) σ
  refine (Classical.em (0 ≤ findF ps x.name)).elim (fun h2 => ?yes) (fun h2 => ?no)
  case' no => (refine CallK.pure B_hull_ship_find hfd ?_; simp [h2]; have h23 : ¬ (0 ≤ findF ps x.name ∧ findF ps x.name < k) := fun h => h2 h.1; refine CallK.pure B_slices_ContainsFunc_api_HuPart_api_HuPart hcf ?_; simp [h2])
  case' yes => (refine CallK.pure B_hull_ship_find hfd ?_; simp [h2]; refine CallK.pure B_hull_ship_find hfd ?_; refine (Classical.em (findF ps x.name < k)).elim (fun h3 => ?small) (fun h3 => ?large))
  case' small => (simp [h2, h3]; simp [checkP, h1, h2, h3])
  case' large => (simp [h2, h3]; have h23 : ¬ (0 ≤ findF ps x.name ∧ findF ps x.name < k) := fun h => h3 h.2; refine CallK.pure B_slices_ContainsFunc_api_HuPart_api_HuPart hcf ?_; simp [h2, h3])
  all_goals
    refine (tf (beyondF 1 5 [x.kind])).elim (fun h4 => ?_) (fun h4 => ?_)
    rotate_left
    · refine CallK.pureE B_hull_beyond (hull_beyond_spec 1 5 [x.kind] (by simp [maxLen]) _) (congrArg AVal.bool h4) ?_
      simp
      simp [checkP, h1, h4]; omega
    refine CallK.pureE B_hull_beyond (hull_beyond_spec 1 5 [x.kind] (by simp [maxLen]) _) (congrArg AVal.bool h4) ?_
    simp
    refine (tf (beyondF 0 40 [x.first, x.last])).elim (fun h5 => ?_) (fun h5 => ?_)
    rotate_left
    · refine CallK.pureE B_hull_beyond (hull_beyond_spec 0 40 [x.first, x.last] (by simp [maxLen]) _) (congrArg AVal.bool h5) ?_
      simp
      simp [checkP, h1, h4, h5]; omega
    refine CallK.pureE B_hull_beyond (hull_beyond_spec 0 40 [x.first, x.last] (by simp [maxLen]) _) (congrArg AVal.bool h5) ?_
    simp
    refine (tf (beyondF 1 1000000 [x.lo, x.hi])).elim (fun h6 => ?_) (fun h6 => ?_)
    rotate_left
    · refine CallK.pureE B_hull_beyond (hull_beyond_spec 1 1000000 [x.lo, x.hi] (by simp [maxLen]) _) (congrArg AVal.bool h6) ?_
      simp
      simp [checkP, h1, h4, h5, h6]; omega
    refine CallK.pureE B_hull_beyond (hull_beyond_spec 1 1000000 [x.lo, x.hi] (by simp [maxLen]) _) (congrArg AVal.bool h6) ?_
    simp [hb]
    refine ⟨fun h7 => ?_, fun h7 h8 => ?_⟩
    · simp only [checkP, h1, h4, h5, h6]
      rw [if_neg (by simp), if_neg h23, if_neg (by simp), if_pos h7]
    have hc : checkP ps x k = if x.on.any (fun n => decide (findF (ps.take k) n < 0)) then 4 else if repC x.on x.on 0 then 5 else if x.on.any (fun n => !meetF x (atF (ps.take k) n)) then 9 else 0 := by
      simp only [checkP, h1, h4, h5, h6]
      rw [if_neg (by simp), if_neg h23, if_neg (by simp), if_neg (by omega)]
    have hb1 : (σ ++ [AObj.box [AVal.slice 7 (List.take k (List.map HuM.v ps))]])[σ.length]? = some (.box [.slice 7 ((ps.take k).map HuM.v)]) := by simp [List.map_take]
    have hlk : (ps.take k).length ≤ maxLen := by simp; omega
    have hq1 := slices_ContainsFunc_strH_spec F_hull_ship_check_2 [.ptr σ.length 0] (fun n => decide (findF (ps.take k) n < 0)) x.on hn _ (fun n _ => CallV.func B_hull_ship_check_2 (hull_ship_check_2_spec (ps.take k) n hlk σ.length _ hb1))
    refine ⟨hk, (tf (x.on.any (fun n => decide (findF (ps.take k) n < 0)))).elim (fun h9 => ?_) (fun h9 => ?_)⟩
    rotate_left
    · refine CallK.pureE B_slices_ContainsFunc_string_string hq1 (congrArg AVal.bool h9) ?_
      simp
      rw [hc, if_pos h9]
    refine CallK.pureE B_slices_ContainsFunc_string_string hq1 (congrArg AVal.bool h9) ?_
    simp
    rw [h9] at hc
    have hpos : ∀ n ∈ x.on, 0 ≤ findF (ps.take k) n := by
      intro n hm
      have := List.any_eq_false.1 h9 n hm
      simp at this
      omega
    have hq2 := slices_ContainsFunc_strH_spec F_hull_ship_check_3 [.pval x.v, .ptr σ.length 0] (fun n => !meetF x (atF (ps.take k) n)) x.on hn _ (fun n hm => CallV.func B_hull_ship_check_3 (hull_ship_check_3_spec (ps.take k) x n hlk σ.length _ hb1 (hpos n hm)))
    refine (tf (repC x.on x.on 0)).elim (fun ha => ?_) (fun ha => ?_)
    rotate_left
    · refine CallK.pureE B_hull_repeated_string (hull_repeated_spec x.on hn _) (congrArg AVal.bool ha) ?_
      simp
      rw [hc, if_neg (by simp), if_pos ha]
    refine CallK.pureE B_hull_repeated_string (hull_repeated_spec x.on hn _) (congrArg AVal.bool ha) ?_
    simp
    refine (tf (x.on.any (fun n => !meetF x (atF (ps.take k) n)))).elim (fun hd => ?_) (fun hd => ?_)
    rotate_left
    · refine CallK.pureE B_slices_ContainsFunc_string_string hq2 (congrArg AVal.bool hd) ?_
      simp
      rw [hc, if_neg (by simp), if_neg (by simp [ha]), if_pos hd]
    refine CallK.pureE B_slices_ContainsFunc_string_string hq2 (congrArg AVal.bool hd) ?_
    simp
    rw [hc, if_neg (by simp), if_neg (by simp [ha]), if_neg (by simp [hd])]
end Go.AM
namespace Go.AM
open Go.Proofs
set_option maxRecDepth 100000
structure TruthM where
  ws : List Int
  ls : List Int
def TruthM.v (t : TruthM) : AVal := .agg [.slice 1 (t.ws.map ii'), .slice 1 (t.ls.map ii')]
theorem TruthM.pure (t : TruthM) : t.v.pure = true := by simp [TruthM.v, AVal.pure, pures, pures_map (f := ii') (fun _ => rfl)]
end Go.AM
namespace Go.AM
open Go.Proofs
set_option maxRecDepth 100000
set_option maxHeartbeats 1000000
abbrev wr (n : Int) : Int := IntKind.i64.wrap n
theorem stand_levers_1_spec (p : PartM) (σ : AHeap) : Spec Tryz.prog F_stand_body_levers_1 [p.v] σ fun r σ' => r = .ret (ii' 1) ∧ σ' = σ := by
  refine Spec.pureFn (spec_stand_body_levers_1 (by simp) (awpC_sound _ ?_)) rfl rfl σ
  simp [C_stand_body_levers_1, PartM.v, PartM.cells]
theorem stand_levers_2_spec (p : PartM) (h : HullM) (σ : AHeap) : Spec Tryz.prog F_stand_body_levers_2 [p.v, .pval h.v] σ fun r σ' => r = .ret (ii' (wr (p.at_ - h.aft))) ∧ σ' = σ := by
  refine Spec.pureFn (spec_stand_body_levers_2 (by simp) (awpC_sound _ ?_)) (by simp [h.pure]; rfl) rfl σ
  simp [C_stand_body_levers_2, PartM.v, PartM.cells, HullM.v, HullM.cells]
theorem stand_levers_3_spec (p : PartM) (h : HullM) (σ : AHeap) : Spec Tryz.prog F_stand_body_levers_3 [p.v, .pval h.v] σ fun r σ' => r = .ret (ii' (wr (h.fore - p.at_))) ∧ σ' = σ := by
  refine Spec.pureFn (spec_stand_body_levers_3 (by simp) (awpC_sound _ ?_)) (by simp [h.pure]; rfl) rfl σ
  simp [C_stand_body_levers_3, PartM.v, PartM.cells, HullM.v, HullM.cells]
def loadV' (p : PartM) (o : Int) : AVal := .agg (p.cells ++ [ii' o])
def lightF (p : PartM) (o : Int) : Int := wr (p.wLo - wr (p.lHi * o))
def heavyF (p : PartM) (o : Int) : Int := wr (p.wHi - wr (p.lLo * o))
theorem stand_load_light_spec (p : PartM) (o : Int) (σ : AHeap) : Spec Tryz.prog F_stand_load_light [loadV' p o] σ fun r σ' => r = .ret (ii' (lightF p o)) ∧ σ' = σ := by
  refine Spec.pureFn (spec_stand_load_light (by simp) (awpC_sound _ ?_)) rfl rfl σ
  simp [C_stand_load_light, loadV', PartM.cells, lightF]
theorem stand_load_heavy_spec (p : PartM) (o : Int) (σ : AHeap) : Spec Tryz.prog F_stand_load_heavy [loadV' p o] σ fun r σ' => r = .ret (ii' (heavyF p o)) ∧ σ' = σ := by
  refine Spec.pureFn (spec_stand_load_heavy (by simp) (awpC_sound _ ?_)) rfl rfl σ
  simp [C_stand_load_heavy, loadV', PartM.cells, heavyF]
def sumsV (a b c : Int) : AVal := .agg [ii' a, ii' b, ii' c]
def leversV (h : HullM) : AVal := .agg [.func (.func 216) [] [], .func (.func 219) [] [], .func (.func 220) [] [], .func (.func 217) [] [.pval h.v], .func (.func 219) [] [], .func (.func 220) [] [], .func (.func 218) [] [.pval h.v], .func (.func 219) [] [], .func (.func 220) [] []]
theorem stand_levers_spec (h : HullM) (σ : AHeap) : Spec Tryz.prog F_stand_body_levers [h.v] σ fun r σ' => r = .ret (leversV h) ∧ σ' = σ := by
  refine Spec.pureFn (spec_stand_body_levers (by simp) (awpC_sound _ ?_)) (by simp [h.pure]) (by simp [leversV, AVal.pure, pures, h.pure]) σ
  simp [C_stand_body_levers, HullM.v, HullM.cells]
  have w1 : IntKind.i64.wrap 1 = 1 := by decide
  have w2 : IntKind.i64.wrap 2 = 2 := by decide
  have w3 : IntKind.i64.wrap 3 = 3 := by decide
  refine AW.loop (ι := Nat) (fun i fr σ => ∃ cs, fr = { v := [(2, .ptr 0 0), (4, .ptr 2 0), (10, .agg [.func (.func 216) [] [], .func (.func 217) [] [.pval h.v], .func (.func 218) [] [.pval h.v]]), (11, .int .i64 i)], ds := [] } ∧ σ = [.box [.nilfunc, .nilfunc, .nilfunc, .nilfunc, .nilfunc, .nilfunc, .nilfunc, .nilfunc, .nilfunc], .dead, .box cs] ∧
      ((i = 0 ∧ cs = [.nilfunc, .nilfunc, .nilfunc, .nilfunc, .nilfunc, .nilfunc, .nilfunc, .nilfunc, .nilfunc]) ∨
      (i = 1 ∧ cs = [.func (.func 216) [] [], .func (.func 219) [] [], .func (.func 220) [] [], .nilfunc, .nilfunc, .nilfunc, .nilfunc, .nilfunc, .nilfunc]) ∨
      (i = 2 ∧ cs = [.func (.func 216) [] [], .func (.func 219) [] [], .func (.func 220) [] [], .func (.func 217) [] [.pval h.v], .func (.func 219) [] [], .func (.func 220) [] [], .nilfunc, .nilfunc, .nilfunc]) ∨
      (i = 3 ∧ cs = [.func (.func 216) [] [], .func (.func 219) [] [], .func (.func 220) [] [], .func (.func 217) [] [.pval h.v], .func (.func 219) [] [], .func (.func 220) [] [], .func (.func 218) [] [.pval h.v], .func (.func 219) [] [], .func (.func 220) [] []]))) (fun i => 3 - i) 0 ⟨_, by simp [HullM.v, HullM.cells], rfl, .inl ⟨rfl, rfl⟩⟩ ?_
  rintro i fr σ ⟨cs, rfl, rfl, hcs⟩
  refine awpC_sound _ ?_
  refine hcs.elim (fun hh => ?_) (fun hcs => hcs.elim (fun hh => ?_) (fun hcs => hcs.elim (fun hh => ?_) (fun hh => ?_)))
  · obtain ⟨rfl, rfl⟩ := hh
    simp [w1]
  · obtain ⟨rfl, rfl⟩ := hh
    simp [w2]
  · obtain ⟨rfl, rfl⟩ := hh
    simp [w3]
  · obtain ⟨rfl, rfl⟩ := hh
    simp [leversV]
end Go.AM
namespace Go.AM
open Go.Proofs
set_option maxRecDepth 100000
set_option maxHeartbeats 1000000
def overF (water keel : Int) : Int := if 0 < wr (water - keel) then wr (water - keel) else 0
def armF (h : HullM) (k : Nat) (p : PartM) : Int := if k = 0 then 1 else if k = 1 then wr (p.at_ - h.aft) else wr (h.fore - p.at_)
def sumG (t : PartM → Nat → Int) : Int → Nat → List PartM → Int
  | acc, _, [] => acc
  | acc, k, p :: r => sumG t (wr (acc + t p k)) (k + 1) r
def leastT (h : HullM) (water : Int) (j : Nat) (p : PartM) (_ : Nat) : Int :=
  wr (armF h j p * (if armF h j p < 0 then heavyF p (overF water p.keel) else lightF p (overF water p.keel)))
def leastS (h : HullM) (water : Int) (j : Nat) : Int := sumG (leastT h water j) 0 0 h.ps
theorem stand_least_spec (h : HullM) (hl : h.ps.length ≤ maxLen) (water : Int) (σ : AHeap) : Spec Tryz.prog F_stand_body_least [h.v, ii' water] σ fun r σ' => r = .ret (sumsV (leastS h water 0) (leastS h water 1) (leastS h water 2)) ∧ σ' = σ := by
  refine Spec.pureFn (spec_stand_body_least (by simp) (awpC_sound _ ?_)) (by simp [h.pure]) rfl σ
  simp [C_stand_body_least, HullM.v, HullM.cells]
  refine CallK.pure B_stand_body_levers (stand_levers_spec h _) ?_
  simp [leversV, HullM.v, HullM.cells]
  have hpu : pures (h.ps.map PartM.v) = true := pures_map (f := PartM.v) (fun _ => rfl) h.ps
  have w1 : IntKind.i64.wrap 1 = 1 := by decide
  have w2 : IntKind.i64.wrap 2 = 2 := by decide
  have w3 : IntKind.i64.wrap 3 = 3 := by decide
  have arm0 : ∀ x : PartM, PureF Tryz.prog (.func (.func 216) [] []) [x.v] (ii' (armF h 0 x)) := fun x => PureF.fn B_stand_body_levers_1 (fun σ => stand_levers_1_spec x σ)
  have arm1 : ∀ x : PartM, PureF Tryz.prog (.func (.func 217) [] [.pval h.v]) [x.v] (ii' (armF h 1 x)) := fun x => PureF.fn B_stand_body_levers_2 (fun σ => stand_levers_2_spec x h σ)
  have arm2 : ∀ x : PartM, PureF Tryz.prog (.func (.func 218) [] [.pval h.v]) [x.v] (ii' (armF h 2 x)) := fun x => PureF.fn B_stand_body_levers_3 (fun σ => stand_levers_3_spec x h σ)
  have heavy : ∀ (x : PartM) (w : Int), PureF Tryz.prog (.func (.func 220) [] []) [loadV' x (overF w x.keel)] (ii' (heavyF x (overF w x.keel))) := fun x w => PureF.fn B_stand_load_heavy (fun σ => stand_load_heavy_spec x _ σ)
  have light : ∀ (x : PartM) (w : Int), PureF Tryz.prog (.func (.func 219) [] []) [loadV' x (overF w x.keel)] (ii' (lightF x (overF w x.keel))) := fun x w => PureF.fn B_stand_load_light (fun σ => stand_load_light_spec x _ σ)
  refine AW.loop (ι := Nat) (fun j fr σ => fr = { v := [(1, ii' water), (2, .pval (.agg [.slice 7 (h.ps.map PartM.v), ii' h.aft, ii' h.fore])), (4, .ptr 0 0), (12, .agg [.func (.func 216) [] [], .func (.func 219) [] [], .func (.func 220) [] [], .func (.func 217) [] [.pval (.agg [.slice 7 (h.ps.map PartM.v), ii' h.aft, ii' h.fore])], .func (.func 219) [] [], .func (.func 220) [] [], .func (.func 218) [] [.pval (.agg [.slice 7 (h.ps.map PartM.v), ii' h.aft, ii' h.fore])], .func (.func 219) [] [], .func (.func 220) [] []]), (13, .int .i64 j)], ds := [] } ∧
      ((j = 0 ∧ ∃ tl, σ = .box [ii' 0, ii' 0, ii' 0] :: tl) ∨ (j = 1 ∧ ∃ tl, σ = .box [ii' (leastS h water 0), ii' 0, ii' 0] :: tl) ∨ (j = 2 ∧ ∃ tl, σ = .box [ii' (leastS h water 0), ii' (leastS h water 1), ii' 0] :: tl) ∨
       (j = 3 ∧ ∃ tl, σ = .box [ii' (leastS h water 0), ii' (leastS h water 1), ii' (leastS h water 2)] :: tl))) (fun j => 3 - j) 0 ⟨by simp, .inl ⟨rfl, _, rfl⟩⟩ ?_
  rintro j fr σ ⟨rfl, hcs⟩
  refine awpC_sound _ ?_
  refine hcs.elim (fun hh => ?_) (fun hcs => hcs.elim (fun hh => ?_) (fun hcs => hcs.elim (fun hh => ?_) (fun hh => ?_)))
  · obtain ⟨rfl, tl, rfl⟩ := hh
    simp
    refine AW.loop (ι := Nat) (fun i fr σ => ∃ acc tl, fr = { v := [(1, ii' water), (2, .pval (.agg [.slice 7 (h.ps.map PartM.v), ii' h.aft, ii' h.fore])), (4, .ptr 0 0), (5, .int .i64 0), (6, .pval (.agg [.func (.func 216) [] [], .func (.func 219) [] [], .func (.func 220) [] []])), (12, .agg [.func (.func 216) [] [], .func (.func 219) [] [], .func (.func 220) [] [], .func (.func 217) [] [.pval (.agg [.slice 7 (h.ps.map PartM.v), ii' h.aft, ii' h.fore])], .func (.func 219) [] [], .func (.func 220) [] [], .func (.func 218) [] [.pval (.agg [.slice 7 (h.ps.map PartM.v), ii' h.aft, ii' h.fore])], .func (.func 219) [] [], .func (.func 220) [] []]), (13, .int .i64 0), (19, .slice 7 (h.ps.map PartM.v)), (20, .int .i64 h.ps.length), (21, .int .i64 i)], ds := [] } ∧
      σ = .box [ii' (acc), ii' (0), ii' (0)] :: tl ∧ i ≤ h.ps.length ∧ leastS h water 0 = sumG (leastT h water 0) acc i (h.ps.drop i)) (fun i => h.ps.length - i) 0 ⟨0, _, by simp, rfl, by simp, by simp [leastS]⟩ ?_
    rintro i fr σ ⟨acc, tl, rfl, rfl, hi, hs⟩
    refine (Nat.lt_or_ge i h.ps.length).elim (fun hlt => ?_) (fun hge => ?_)
    · have hd : h.ps.drop i = h.ps[i] :: h.ps.drop (i + 1) := List.drop_eq_getElem_cons hlt
      obtain ⟨x, hx⟩ : ∃ x, h.ps[i] = x := ⟨_, rfl⟩
      rw [hd, hx] at hs
      simp only [sumG] at hs
      refine awpC_sound _ ?_
      simp [hlt, hx, PartM.v, PartM.cells]
      refine CallK.of (arm0 x _) ?_
      refine (Classical.em (armF h 0 x < 0)).elim (fun h1 => ?_) (fun h1 => ?_)
      · simp [h1, hlt, hx, PartM.v, PartM.cells]
        refine ⟨_, fun σ' => arm0 x σ', ?_⟩
        simp
        refine ⟨_, fun σ' => heavy x water σ', ?_⟩
        simp
        refine ⟨i + 1, by omega, wrap_id (by omega) (by simp only [maxLen] at hl; omega), by omega, ?_⟩
        rw [hs]
        simp [leastT, h1]
      · simp [h1, hlt, hx, PartM.v, PartM.cells]
        refine ⟨_, fun σ' => arm0 x σ', ?_⟩
        simp
        refine ⟨_, fun σ' => light x water σ', ?_⟩
        simp
        refine ⟨i + 1, by omega, wrap_id (by omega) (by simp only [maxLen] at hl; omega), by omega, ?_⟩
        rw [hs]
        simp [leastT, h1]
    · have : h.ps.drop i = [] := List.drop_eq_nil_of_le hge
      rw [this] at hs
      simp only [sumG] at hs
      subst hs
      have hnl : ¬ i < h.ps.length := by omega
      refine awpC_sound _ ?_
      simp [hnl]
      exact ⟨1, by omega, w1, by simp⟩
  · obtain ⟨rfl, tl, rfl⟩ := hh
    simp
    refine AW.loop (ι := Nat) (fun i fr σ => ∃ acc tl, fr = { v := [(1, ii' water), (2, .pval (.agg [.slice 7 (h.ps.map PartM.v), ii' h.aft, ii' h.fore])), (4, .ptr 0 0), (5, .int .i64 1), (6, .pval (.agg [.func (.func 217) [] [.pval (.agg [.slice 7 (h.ps.map PartM.v), ii' h.aft, ii' h.fore])], .func (.func 219) [] [], .func (.func 220) [] []])), (12, .agg [.func (.func 216) [] [], .func (.func 219) [] [], .func (.func 220) [] [], .func (.func 217) [] [.pval (.agg [.slice 7 (h.ps.map PartM.v), ii' h.aft, ii' h.fore])], .func (.func 219) [] [], .func (.func 220) [] [], .func (.func 218) [] [.pval (.agg [.slice 7 (h.ps.map PartM.v), ii' h.aft, ii' h.fore])], .func (.func 219) [] [], .func (.func 220) [] []]), (13, .int .i64 1), (19, .slice 7 (h.ps.map PartM.v)), (20, .int .i64 h.ps.length), (21, .int .i64 i)], ds := [] } ∧
      σ = .box [ii' (leastS h water 0), ii' (acc), ii' (0)] :: tl ∧ i ≤ h.ps.length ∧ leastS h water 1 = sumG (leastT h water 1) acc i (h.ps.drop i)) (fun i => h.ps.length - i) 0 ⟨0, _, by simp, rfl, by simp, by simp [leastS]⟩ ?_
    rintro i fr σ ⟨acc, tl, rfl, rfl, hi, hs⟩
    refine (Nat.lt_or_ge i h.ps.length).elim (fun hlt => ?_) (fun hge => ?_)
    · have hd : h.ps.drop i = h.ps[i] :: h.ps.drop (i + 1) := List.drop_eq_getElem_cons hlt
      obtain ⟨x, hx⟩ : ∃ x, h.ps[i] = x := ⟨_, rfl⟩
      rw [hd, hx] at hs
      simp only [sumG] at hs
      refine awpC_sound _ ?_
      simp [hlt, hx, PartM.v, PartM.cells]
      refine CallK.of (arm1 x _) ?_
      refine (Classical.em (armF h 1 x < 0)).elim (fun h1 => ?_) (fun h1 => ?_)
      · simp [h1, hlt, hx, hpu, PartM.v, PartM.cells]
        refine ⟨_, fun σ' _ => arm1 x σ', ?_⟩
        simp
        refine ⟨_, fun σ' => heavy x water σ', ?_⟩
        simp
        refine ⟨i + 1, by omega, wrap_id (by omega) (by simp only [maxLen] at hl; omega), by omega, ?_⟩
        rw [hs]
        simp [leastT, h1]
      · simp [h1, hlt, hx, hpu, PartM.v, PartM.cells]
        refine ⟨_, fun σ' _ => arm1 x σ', ?_⟩
        simp
        refine ⟨_, fun σ' => light x water σ', ?_⟩
        simp
        refine ⟨i + 1, by omega, wrap_id (by omega) (by simp only [maxLen] at hl; omega), by omega, ?_⟩
        rw [hs]
        simp [leastT, h1]
    · have : h.ps.drop i = [] := List.drop_eq_nil_of_le hge
      rw [this] at hs
      simp only [sumG] at hs
      subst hs
      have hnl : ¬ i < h.ps.length := by omega
      refine awpC_sound _ ?_
      simp [hnl]
      exact ⟨2, by omega, w2, by simp⟩
  · obtain ⟨rfl, tl, rfl⟩ := hh
    simp
    refine AW.loop (ι := Nat) (fun i fr σ => ∃ acc tl, fr = { v := [(1, ii' water), (2, .pval (.agg [.slice 7 (h.ps.map PartM.v), ii' h.aft, ii' h.fore])), (4, .ptr 0 0), (5, .int .i64 2), (6, .pval (.agg [.func (.func 218) [] [.pval (.agg [.slice 7 (h.ps.map PartM.v), ii' h.aft, ii' h.fore])], .func (.func 219) [] [], .func (.func 220) [] []])), (12, .agg [.func (.func 216) [] [], .func (.func 219) [] [], .func (.func 220) [] [], .func (.func 217) [] [.pval (.agg [.slice 7 (h.ps.map PartM.v), ii' h.aft, ii' h.fore])], .func (.func 219) [] [], .func (.func 220) [] [], .func (.func 218) [] [.pval (.agg [.slice 7 (h.ps.map PartM.v), ii' h.aft, ii' h.fore])], .func (.func 219) [] [], .func (.func 220) [] []]), (13, .int .i64 2), (19, .slice 7 (h.ps.map PartM.v)), (20, .int .i64 h.ps.length), (21, .int .i64 i)], ds := [] } ∧
      σ = .box [ii' (leastS h water 0), ii' (leastS h water 1), ii' (acc)] :: tl ∧ i ≤ h.ps.length ∧ leastS h water 2 = sumG (leastT h water 2) acc i (h.ps.drop i)) (fun i => h.ps.length - i) 0 ⟨0, _, by simp, rfl, by simp, by simp [leastS]⟩ ?_
    rintro i fr σ ⟨acc, tl, rfl, rfl, hi, hs⟩
    refine (Nat.lt_or_ge i h.ps.length).elim (fun hlt => ?_) (fun hge => ?_)
    · have hd : h.ps.drop i = h.ps[i] :: h.ps.drop (i + 1) := List.drop_eq_getElem_cons hlt
      obtain ⟨x, hx⟩ : ∃ x, h.ps[i] = x := ⟨_, rfl⟩
      rw [hd, hx] at hs
      simp only [sumG] at hs
      refine awpC_sound _ ?_
      simp [hlt, hx, PartM.v, PartM.cells]
      refine CallK.of (arm2 x _) ?_
      refine (Classical.em (armF h 2 x < 0)).elim (fun h1 => ?_) (fun h1 => ?_)
      · simp [h1, hlt, hx, hpu, PartM.v, PartM.cells]
        refine ⟨_, fun σ' _ => arm2 x σ', ?_⟩
        simp
        refine ⟨_, fun σ' => heavy x water σ', ?_⟩
        simp
        refine ⟨i + 1, by omega, wrap_id (by omega) (by simp only [maxLen] at hl; omega), by omega, ?_⟩
        rw [hs]
        simp [leastT, h1]
      · simp [h1, hlt, hx, hpu, PartM.v, PartM.cells]
        refine ⟨_, fun σ' _ => arm2 x σ', ?_⟩
        simp
        refine ⟨_, fun σ' => light x water σ', ?_⟩
        simp
        refine ⟨i + 1, by omega, wrap_id (by omega) (by simp only [maxLen] at hl; omega), by omega, ?_⟩
        rw [hs]
        simp [leastT, h1]
    · have : h.ps.drop i = [] := List.drop_eq_nil_of_le hge
      rw [this] at hs
      simp only [sumG] at hs
      subst hs
      have hnl : ¬ i < h.ps.length := by omega
      refine awpC_sound _ ?_
      simp [hnl]
      exact ⟨3, by omega, w3, by simp⟩
  · obtain ⟨rfl, tl, rfl⟩ := hh
    simp [sumsV]
end Go.AM
namespace Go.AM
open Go.Proofs
set_option maxRecDepth 100000
set_option maxHeartbeats 1000000
def pressF (t : TruthM) (water : Int) (p : PartM) (k : Nat) : Int := wr ((t.ws[k]?.getD 0) - wr ((t.ls[k]?.getD 0) * overF water p.keel))
def inT (h : HullM) (t : TruthM) (water : Int) (j : Nat) (p : PartM) (k : Nat) : Int := wr (armF h j p * pressF t water p k)
def inS (h : HullM) (t : TruthM) (water : Int) (j : Nat) : Int := sumG (inT h t water j) 0 0 h.ps
end Go.AM
namespace Go.AM
open Go.Proofs
set_option maxRecDepth 100000
set_option maxHeartbeats 1000000
def eF (h : HullM) : Int := (checkF h).2.2
end Go.AM
namespace Go.AM
open Go.Proofs
set_option maxRecDepth 100000
set_option maxHeartbeats 1000000
def partR (p : PartM) : Int :=
  if !insF p.at_ 0 5000 || !insF p.keel 0 1000 || decide (spanErr (p.wLo, p.wHi) 0 1000000 = 7) || decide (spanErr (p.lLo, p.lHi) 0 5000 = 7) then 7
  else if spanErr (p.wLo, p.wHi) 0 1000000 ≠ 0 then spanErr (p.wLo, p.wHi) 0 1000000 else spanErr (p.lLo, p.lHi) 0 5000
theorem r05_part_spec (p : PartM) (σ : AHeap) : Spec Tryz.prog F_r05_part [p.v] σ fun r σ' => r = .ret (ii' (partR p)) ∧ σ' = σ := by
  refine Spec.pureFn (spec_r05_part (by simp) (awpC_sound _ ?_)) rfl rfl σ
  simp [C_r05_part, PartM.v, PartM.cells]
  refine ⟨.int .i64 (spanErr (p.wLo, p.wHi) 0 1000000), fun σ' => CallV.func B_r01_Range (r01_Range_spec _ _ _ _ _), ?_⟩
  simp
  refine ⟨.int .i64 (spanErr (p.lLo, p.lHi) 0 5000), fun σ' => CallV.func B_r01_Range (r01_Range_spec _ _ _ _ _), ?_⟩
  simp
  generalize hA : spanErr (p.wLo, p.wHi) 0 1000000 = A
  generalize hB : spanErr (p.lLo, p.lHi) 0 5000 = B
  have hR : partR p = if !insF p.at_ 0 5000 || !insF p.keel 0 1000 || decide (A = 7) || decide (B = 7) then 7 else if A ≠ 0 then A else B := by unfold partR; rw [hA, hB]
  rw [hR]
  refine (tf (insF p.at_ 0 5000)).elim (fun h1 => ?_) (fun h1 => ?_)
  · refine CallK.pureE B_r05_in (r05_in_spec p.at_ 0 5000 _) (congrArg AVal.bool h1) ?_
    simp [h1]
  · refine CallK.pureE B_r05_in (r05_in_spec p.at_ 0 5000 _) (congrArg AVal.bool h1) ?_
    simp
    refine (tf (insF p.keel 0 1000)).elim (fun h2 => ?_) (fun h2 => ?_)
    · refine CallK.pureE B_r05_in (r05_in_spec p.keel 0 1000 _) (congrArg AVal.bool h2) ?_
      simp [h2]
    · refine CallK.pureE B_r05_in (r05_in_spec p.keel 0 1000 _) (congrArg AVal.bool h2) ?_
      refine (Classical.em (A = 7)).elim (fun h3 => ?_) (fun h3 => ?_)
      · simp [h1, h2, h3]
      · refine (Classical.em (B = 7)).elim (fun h4 => ?_) (fun h4 => ?_)
        · simp [h1, h2, h3, h4]
        · refine (Classical.em (A = 0)).elim (fun h5 => ?_) (fun h5 => ?_)
          · simp [h1, h2, h4, h5]
          · simp [h1, h2, h3, h4, h5]
end Go.AM
namespace Go.AM
open Go.Proofs
set_option maxRecDepth 100000
set_option maxHeartbeats 1000000
def errR (all : List PartM) (x : PartM) (i : Nat) : Int :=
  if freshF x.name ((all.take i).map PartM.name) = 0 then partR x else freshF x.name ((all.take i).map PartM.name)
def partsR (all : List PartM) : List PartM → Nat → Int × Int × Int
  | [], _ => (0, 0, 0)
  | x :: r, i => if errR all x i ≠ 0 then (2, i, errR all x i) else partsR all r (i + 1)
def checkR (h : HullM) : Int × Int × Int :=
  if insF (h.ps.length : Int) 1 10 = false then (1, 0, 3) else if insF h.aft 0 5000 = false ∨ insF h.fore 0 5000 = false then (1, 0, 7) else if h.fore ≤ h.aft then (1, 0, 2) else partsR h.ps h.ps 0
def tripR (x : Int × Int × Int) : AVal := .tup [ii' x.1, ii' x.2.1, ii' x.2.2]
theorem r05_Check_spec (h : HullM) (_hl : h.ps.length ≤ maxLen) (σ : AHeap) : Spec Tryz.prog F_r05_Check [h.v] σ fun r σ' => r = .ret (tripR (checkR h)) ∧ σ' = σ := by
  refine Spec.pureFn (spec_r05_Check (by simp) (awpC_sound _ ?_)) (by simp [h.pure]) rfl σ
  simp [C_r05_Check, HullM.v, HullM.cells]
  refine (tf (insF (h.ps.length : Int) 1 10)).elim (fun h1 => ?_) (fun h1 => ?_)
  · refine CallK.pureE B_r05_in (r05_in_spec (h.ps.length : Int) 1 10 _) (congrArg AVal.bool h1) ?_
    simp [checkR, h1, tripR]
  refine CallK.pureE B_r05_in (r05_in_spec (h.ps.length : Int) 1 10 _) (congrArg AVal.bool h1) ?_
  simp
  refine (tf (insF h.aft 0 5000)).elim (fun h2 => ?_) (fun h2 => ?_)
  · refine CallK.pureE B_r05_in (r05_in_spec h.aft 0 5000 _) (congrArg AVal.bool h2) ?_
    simp [checkR, h1, h2, tripR]
  refine CallK.pureE B_r05_in (r05_in_spec h.aft 0 5000 _) (congrArg AVal.bool h2) ?_
  simp
  refine (tf (insF h.fore 0 5000)).elim (fun h3 => ?_) (fun h3 => ?_)
  · refine CallK.pureE B_r05_in (r05_in_spec h.fore 0 5000 _) (congrArg AVal.bool h3) ?_
    simp [checkR, h1, h2, h3, tripR]
  refine CallK.pureE B_r05_in (r05_in_spec h.fore 0 5000 _) (congrArg AVal.bool h3) ?_
  simp
  refine ⟨fun h4 => by simp [checkR, h1, h2, h3, h4, tripR], fun h4 => ?_⟩
  have hc : checkR h = partsR h.ps h.ps 0 := by simp only [checkR, h1, h2, h3]; rw [if_neg (by simp), if_neg (by simp), if_neg (by omega)]
  have hlen : h.ps.length ≤ 10 := by simp [insF] at h1; omega
  rw [hc]
  refine AW.loop (ι := Nat) (fun i fr σ => fr = { v := [(1, .pval (.agg [.slice 7 (h.ps.map PartM.v), ii' h.aft, ii' h.fore])), (5, .oslice 1 ((h.ps.take i).map (fun p => .str p.name)) 0 i), (6, .int .i64 i)], ds := [] } ∧ σ = [.spare 1 i] ∧ i ≤ h.ps.length ∧ partsR h.ps h.ps 0 = partsR h.ps (h.ps.drop i) i) (fun i => h.ps.length - i) 0 (by simp) ?_
  rintro i fr σ ⟨rfl, rfl, hi, hp⟩
  refine (Nat.lt_or_ge i h.ps.length).elim (fun hlt => ?_) (fun hge => ?_)
  · have hd : h.ps.drop i = h.ps[i] :: h.ps.drop (i + 1) := List.drop_eq_getElem_cons hlt
    obtain ⟨x, hx⟩ : ∃ x, h.ps[i] = x := ⟨_, rfl⟩
    rw [hd, hx] at hp
    simp only [partsR] at hp
    rw [hp]
    refine awpC_sound _ ?_
    simp [hlt, hx, PartM.v, PartM.cells]
    have hfr := fun σ => r01_Fresh_spec ((h.ps.take i).map PartM.name) x.name (by simp [maxLen]; omega) σ
    simp only [List.map_take, List.map_map, Function.comp_def] at hfr
    refine CallK.pure B_r01_Fresh (hfr _) ?_
    simp [hlt, hx, PartM.v, PartM.cells]
    have hmin : min i h.ps.length = i := by omega
    have hfit : Fits 1 [AVal.str x.name] := by intro v hv; simp at hv; subst hv; exact ⟨⟨rfl, rfl⟩, rfl⟩
    have htk : List.take i (List.map (fun p => AVal.str p.name) h.ps) ++ [AVal.str x.name] = List.take (i + 1) (List.map (fun p : PartM => AVal.str p.name) h.ps) := by
      rw [List.take_add_one]; simp [hlt, hx]
    have herr : errR h.ps x i = if freshF x.name (List.take i (List.map PartM.name h.ps)) = 0 then partR x else freshF x.name (List.take i (List.map PartM.name h.ps)) := by simp only [errR, List.map_take]
    refine ⟨hfit, by omega, fun h5 => ?_, fun h5 => ⟨fun _ => ?_, fun h6 => absurd h6 h5⟩⟩
    · refine CallK.pure B_r05_part (r05_part_spec x _) ?_
      rw [if_pos h5] at herr
      refine (Classical.em (partR x = 0)).elim (fun h6 => ?_) (fun h6 => ?_)
      · simp [h6, herr, hlt, hx, PartM.v, PartM.cells]
        exact ⟨i + 1, by omega, ⟨⟨htk, rfl⟩, wrap_id (by omega) (by omega)⟩, rfl, by omega, rfl⟩
      · simp [h6, herr, tripR, hlt, hx, PartM.v, PartM.cells]
    · rw [if_neg h5] at herr
      rw [if_neg (by rw [herr]; exact h5), herr]; rfl
  · have : h.ps.drop i = [] := List.drop_eq_nil_of_le hge
    rw [this] at hp
    rw [hp]
    have hnl : ¬ i < h.ps.length := by omega
    refine awpC_sound _ ?_
    simp [hnl, tripR, partsR]
end Go.AM
namespace Go.AM
open Go.Proofs
set_option maxRecDepth 100000
set_option maxHeartbeats 1000000
def eR (h : HullM) : Int := (checkR h).2.2
end Go.AM
namespace Go.AM
open Go.Proofs
set_option maxRecDepth 100000
set_option maxHeartbeats 1000000
def overR (water keel : Int) : Int := if 0 < wr (water - keel) then wr (water - keel) else 0
def pressR (t : TruthM) (water : Int) (p : PartM) (k : Nat) : Int := wr ((t.ws[k]?.getD 0) - wr ((t.ls[k]?.getD 0) * overR water p.keel))
def weighG (h : HullM) (t : TruthM) (water : Int) : Int → Int → Int → Nat → List PartM → Int × Int × Int
  | a, b, c, _, [] => (a, b, c)
  | a, b, c, k, p :: r => weighG h t water (wr (a + pressR t water p k)) (wr (b + wr (pressR t water p k * wr (p.at_ - h.aft)))) (wr (c + wr (pressR t water p k * wr (h.fore - p.at_)))) (k + 1) r
def weighR (h : HullM) (t : TruthM) (water : Int) : Int × Int × Int := weighG h t water 0 0 0 0 h.ps
def balV (x : Int × Int × Int) : AVal := .agg [ii' x.1, ii' x.2.1, ii' x.2.2]
theorem r05_Weighed_spec (h : HullM) (t : TruthM) (hl : h.ps.length ≤ maxLen) (h1 : t.ws.length = h.ps.length) (h2 : t.ls.length = h.ps.length) (water : Int) (σ : AHeap) :
    Spec Tryz.prog F_r05_Weighed [h.v, t.v, ii' water] σ fun r σ' => r = .ret (balV (weighR h t water)) ∧ σ' = σ := by
  refine Spec.pureFn (spec_r05_Weighed (by simp) (awpC_sound _ ?_)) (by simp [h.pure, t.pure]) rfl σ
  simp [C_r05_Weighed, HullM.v, HullM.cells, TruthM.v]
  refine AW.loop (ι := Nat) (fun i fr σ => ∃ a b c tl, fr = { v := [(2, ii' water), (3, .pval (.agg [.slice 7 (h.ps.map PartM.v), ii' h.aft, ii' h.fore])), (4, .pval (.agg [.slice 1 (t.ws.map ii'), .slice 1 (t.ls.map ii')])), (6, .ptr 0 0), (7, .ptr 1 0), (8, .int .i64 i)], ds := [] } ∧
      σ = .box [ii' 0, ii' 0, ii' 0] :: .box [ii' a, ii' b, ii' c] :: tl ∧ i ≤ h.ps.length ∧ weighR h t water = weighG h t water a b c i (h.ps.drop i)) (fun i => h.ps.length - i) 0 ⟨0, 0, 0, _, by simp, rfl, by simp, by simp [weighR]⟩ ?_
  rintro i fr σ ⟨a0, b0, c0, tl, rfl, rfl, hi, hs⟩
  refine (Nat.lt_or_ge i h.ps.length).elim (fun hlt => ?_) (fun hge => ?_)
  · have hd : h.ps.drop i = h.ps[i] :: h.ps.drop (i + 1) := List.drop_eq_getElem_cons hlt
    have hlw : i < t.ws.length := by omega
    have hll : i < t.ls.length := by omega
    obtain ⟨x, hx⟩ : ∃ x, h.ps[i] = x := ⟨_, rfl⟩
    obtain ⟨a, ha⟩ : ∃ x, t.ws[i] = x := ⟨_, rfl⟩
    obtain ⟨b, hb⟩ : ∃ x, t.ls[i] = x := ⟨_, rfl⟩
    rw [hd, hx] at hs
    simp only [weighG] at hs
    refine awpC_sound _ ?_
    simp [hlt, hx, hlw, hll, ha, hb, PartM.v, PartM.cells]
    refine ⟨i + 1, by omega, wrap_id (by omega) (by simp only [maxLen] at hl; omega), _, _, _, ⟨rfl, rfl, rfl⟩, by omega, ?_⟩
    rw [hs]
    simp [pressR, overR, hlw, hll, ha, hb]
  · have : h.ps.drop i = [] := List.drop_eq_nil_of_le hge
    rw [this] at hs
    simp only [weighG] at hs
    have hnl : ¬ i < h.ps.length := by omega
    refine awpC_sound _ ?_
    simp [hnl, hs, balV]
end Go.AM
namespace Go.AM
open Go.Proofs
set_option maxRecDepth 100000
set_option maxHeartbeats 1000000
def lightB (h : HullM) (why : Int) (p : PartM) : Bool :=
  decide (why = 0) || decide (why = 1) || (decide (why = 2) && decide (h.aft ≤ p.at_)) || (decide (why = 3) && decide (p.at_ ≤ h.fore))
def shownW (h : HullM) (why : Int) (p : PartM) : Int := if lightB h why p then p.wLo else p.wHi
def shownL (h : HullM) (why : Int) (p : PartM) : Int := if lightB h why p then p.lHi else p.lLo
def shownT (h : HullM) (why : Int) : TruthM := { ws := h.ps.map (shownW h why), ls := h.ps.map (shownL h why) }
theorem r05_Shown_spec (h : HullM) (hl : h.ps.length ≤ 10) (why : Int) (σ : AHeap) : Spec Tryz.prog F_r05_Shown [h.v, ii' why] σ fun r σ' => r = .ret (shownT h why).v ∧ σ' = σ := by
  refine Spec.pureFn (spec_r05_Shown (by simp) (awpC_sound _ ?_)) (by simp [h.pure]) (TruthM.pure _) σ
  simp [C_r05_Shown, HullM.v, HullM.cells]
  refine AW.loop (ι := Nat) (fun i fr σ => ∃ tl, fr = { v := [(1, ii' why), (2, .pval (.agg [.slice 7 (h.ps.map PartM.v), ii' h.aft, ii' h.fore])), (4, .ptr 0 0), (5, .ptr 3 0), (6, .int .i64 i)], ds := [] } ∧
      σ = .box [.slice 1 [], .slice 1 []] :: .spare 1 i :: .spare 1 i :: .box [.oslice 1 ((h.ps.take i).map (fun p => ii' (shownW h why p))) 1 i, .oslice 1 ((h.ps.take i).map (fun p => ii' (shownL h why p))) 2 i] :: tl ∧ i ≤ h.ps.length) (fun i => h.ps.length - i) 0 ?_ ?_
  · exact ⟨[], by simp, by simp, by simp⟩
  rintro i fr σ ⟨tl, rfl, rfl, hi⟩
  refine (Nat.lt_or_ge i h.ps.length).elim (fun hlt => ?_) (fun hge => ?_)
  · obtain ⟨x, hx⟩ : ∃ x, h.ps[i] = x := ⟨_, rfl⟩
    refine awpC_sound _ ?_
    have hmin : min i h.ps.length = i := by omega
    have hfit : ∀ n : Int, Fits 1 [ii' n] := fun n v hv => by simp at hv; subst hv; exact ⟨⟨rfl, rfl⟩, rfl⟩
    have hW : List.take i (List.map (fun p => ii' (shownW h why p)) h.ps) ++ [ii' (shownW h why x)] = List.take (i + 1) (List.map (fun p => ii' (shownW h why p)) h.ps) := by rw [List.take_add_one]; simp [hlt, hx]
    have hL : List.take i (List.map (fun p => ii' (shownL h why p)) h.ps) ++ [ii' (shownL h why x)] = List.take (i + 1) (List.map (fun p => ii' (shownL h why p)) h.ps) := by rw [List.take_add_one]; simp [hlt, hx]
    refine (Classical.em (why = 0)).elim (fun h0 => ?_) (fun h0 => ?_)
    · subst h0
      simp [hlt, hx, PartM.v, PartM.cells]
      have e1 : shownW h 0 x = x.wLo := by simp [shownW, lightB]
      have e2 : shownL h 0 x = x.lHi := by simp [shownL, lightB]
      rw [e1] at hW
      rw [e2] at hL
      exact ⟨hfit _, by omega, hfit _, by omega, i + 1, by omega, wrap_id (by omega) (by omega), ⟨rfl, ⟨hW, rfl⟩, hL, rfl⟩, by omega⟩
    refine (Classical.em (why = 1)).elim (fun h1 => ?_) (fun h1 => ?_)
    · subst h1
      simp [hlt, hx, PartM.v, PartM.cells]
      have e1 : shownW h 1 x = x.wLo := by simp [shownW, lightB]
      have e2 : shownL h 1 x = x.lHi := by simp [shownL, lightB]
      rw [e1] at hW
      rw [e2] at hL
      exact ⟨hfit _, by omega, hfit _, by omega, i + 1, by omega, wrap_id (by omega) (by omega), ⟨rfl, ⟨hW, rfl⟩, hL, rfl⟩, by omega⟩
    refine (Classical.em (why = 2)).elim (fun h2 => ?_) (fun h2 => ?_)
    · subst h2
      refine (Classical.em (h.aft ≤ x.at_)).elim (fun h4 => ?_) (fun h4 => ?_)
      · simp [h4, hlt, hx, PartM.v, PartM.cells]
        have e1 : shownW h 2 x = x.wLo := by simp [h4, shownW, lightB]
        have e2 : shownL h 2 x = x.lHi := by simp [h4, shownL, lightB]
        rw [e1] at hW
        rw [e2] at hL
        exact ⟨hfit _, by omega, hfit _, by omega, i + 1, by omega, wrap_id (by omega) (by omega), ⟨rfl, ⟨hW, rfl⟩, hL, rfl⟩, by omega⟩
      · simp [h4, hlt, hx, PartM.v, PartM.cells]
        have e1 : shownW h 2 x = x.wHi := by simp [h4, shownW, lightB]
        have e2 : shownL h 2 x = x.lLo := by simp [h4, shownL, lightB]
        rw [e1] at hW
        rw [e2] at hL
        exact ⟨hfit _, by omega, hfit _, by omega, i + 1, by omega, wrap_id (by omega) (by omega), ⟨rfl, ⟨hW, rfl⟩, hL, rfl⟩, by omega⟩
    refine (Classical.em (why = 3)).elim (fun h3 => ?_) (fun h3 => ?_)
    · subst h3
      refine (Classical.em (x.at_ ≤ h.fore)).elim (fun h4 => ?_) (fun h4 => ?_)
      · simp [h4, hlt, hx, PartM.v, PartM.cells]
        have e1 : shownW h 3 x = x.wLo := by simp [h4, shownW, lightB]
        have e2 : shownL h 3 x = x.lHi := by simp [h4, shownL, lightB]
        rw [e1] at hW
        rw [e2] at hL
        exact ⟨hfit _, by omega, hfit _, by omega, i + 1, by omega, wrap_id (by omega) (by omega), ⟨rfl, ⟨hW, rfl⟩, hL, rfl⟩, by omega⟩
      · simp [h4, hlt, hx, PartM.v, PartM.cells]
        have e1 : shownW h 3 x = x.wHi := by simp [h4, shownW, lightB]
        have e2 : shownL h 3 x = x.lLo := by simp [h4, shownL, lightB]
        rw [e1] at hW
        rw [e2] at hL
        exact ⟨hfit _, by omega, hfit _, by omega, i + 1, by omega, wrap_id (by omega) (by omega), ⟨rfl, ⟨hW, rfl⟩, hL, rfl⟩, by omega⟩
    · simp [h0, h1, h2, h3, hlt, hx, PartM.v, PartM.cells]
      have e1 : shownW h why x = x.wHi := by simp [h0, h1, h2, h3, shownW, lightB]
      have e2 : shownL h why x = x.lLo := by simp [h0, h1, h2, h3, shownL, lightB]
      rw [e1] at hW
      rw [e2] at hL
      exact ⟨hfit _, by omega, hfit _, by omega, i + 1, by omega, wrap_id (by omega) (by omega), ⟨rfl, ⟨hW, rfl⟩, hL, rfl⟩, by omega⟩
  · have hnl : ¬ i < h.ps.length := by omega
    refine awpC_sound _ ?_
    simp [hnl, TruthM.v, shownT]
    rw [List.take_of_length_le (by simp; omega), List.take_of_length_le (by simp; omega)]
    exact ⟨rfl, rfl⟩
end Go.AM
namespace Go.AM
open Go.Proofs
set_option maxRecDepth 100000
set_option maxHeartbeats 1000000
def smallR (h : HullM) (water : Int) : Int × Int × Int := ((weighR h (shownT h 1) water).1, (weighR h (shownT h 2) water).2.1, (weighR h (shownT h 3) water).2.2)
theorem r05_Smallest_spec (h : HullM) (hl : h.ps.length ≤ 10) (water : Int) (σ : AHeap) : Spec Tryz.prog F_r05_Smallest [h.v, ii' water] σ fun r σ' => r = .ret (balV (smallR h water)) ∧ σ' = σ := by
  have hm : h.ps.length ≤ maxLen := by simp only [maxLen]; omega
  refine Spec.pureFn (spec_r05_Smallest (by simp) (awpC_sound _ ?_)) (by simp [h.pure]) rfl σ
  have hpu : pures (h.ps.map PartM.v) = true := pures_map (f := PartM.v) (fun _ => rfl) h.ps
  have hp2 : ∀ l : List Int, pures (l.map ii') = true := pures_map (f := ii') (fun _ => rfl)
  simp [C_r05_Smallest, HullM.v, HullM.cells]
  refine ⟨_, fun σ' _ => CallV.func B_r05_Shown (r05_Shown_spec h hl 1 σ'), ?_⟩
  simp [TruthM.v]
  refine ⟨_, fun σ' _ => CallV.func B_r05_Weighed (r05_Weighed_spec h (shownT h 1) hm (by simp [shownT]) (by simp [shownT]) water σ'), ?_⟩
  simp [balV]
  refine ⟨_, fun σ' _ => CallV.func B_r05_Shown (r05_Shown_spec h hl 2 σ'), ?_⟩
  simp [TruthM.v]
  refine ⟨_, fun σ' _ => CallV.func B_r05_Weighed (r05_Weighed_spec h (shownT h 2) hm (by simp [shownT]) (by simp [shownT]) water σ'), ?_⟩
  simp [balV]
  refine ⟨_, fun σ' _ => CallV.func B_r05_Shown (r05_Shown_spec h hl 3 σ'), ?_⟩
  simp [TruthM.v]
  refine ⟨_, fun σ' _ => CallV.func B_r05_Weighed (r05_Weighed_spec h (shownT h 3) hm (by simp [shownT]) (by simp [shownT]) water σ'), ?_⟩
  simp [balV, smallR]
end Go.AM
namespace Go.AM
open Go.Proofs
set_option maxRecDepth 100000
set_option maxHeartbeats 1000000
theorem insF_out (n lo hi : Int) : insF n lo hi = !outF lo hi n := by
  rw [Bool.eq_iff_iff]; simp [insF, outF]
theorem partE_eq (p : PartM) : partE p = partR p := by
  unfold partE partR spanErr
  simp only [beyondF, insF_out, List.any_cons, List.any_nil, Bool.or_false, Bool.not_not]
  rcases tf (outF 0 5000 p.at_) with h1 | h1 <;> rcases tf (outF 0 1000 p.keel) with h2 | h2 <;> rcases tf (outF 0 1000000 p.wLo) with h3 | h3 <;> rcases tf (outF 0 1000000 p.wHi) with h4 | h4 <;> rcases tf (outF 0 5000 p.lLo) with h5 | h5 <;> rcases tf (outF 0 5000 p.lHi) with h6 | h6 <;> simp only [h1, h2, h3, h4, h5, h6] <;>
    by_cases h7 : p.wHi < p.wLo <;> by_cases h8 : p.lHi < p.lLo <;> simp [h7, h8]
theorem placeF_any (s : ByteArray) : ∀ (l : List ByteArray) (i : Nat), 0 ≤ placeF l s i ↔ (l.any fun a => a.toList == s.toList) = true
  | [], i => by simp [placeF]
  | a :: r, i => by
    have ih := placeF_any s r (i + 1)
    have e : placeF (a :: r) s i = if a.toList == s.toList then (i : Int) else placeF r s (i + 1) := rfl
    rw [e, List.any_cons]
    by_cases h : (a.toList == s.toList) = true
    · rw [if_pos h, h]; simp
    · rw [if_neg h]
      have h' : (a.toList == s.toList) = false := by simpa using h
      rw [h', ih]; simp
theorem parts_eq (all : List PartM) : ∀ (l : List PartM) (i : Nat), partsE all l i = partsR all l i
  | [], _ => rfl
  | x :: r, i => by
    simp only [partsE, partsR, errR, freshF]
    rw [parts_eq all r (i + 1)]
    have hp := placeF_any x.name ((all.take i).map PartM.name) 0
    have ha : (((all.take i).map PartM.name).any fun a => a.toList == x.name.toList) = ((all.take i).any fun y => y.name.toList == x.name.toList) := by rw [List.any_map]; rfl
    rw [ha] at hp
    rcases tf (nameF x.name) with h1 | h1
    · simp [h1]
    · rcases tf ((all.take i).any fun y => y.name.toList == x.name.toList) with h2 | h2
      · have h3 : ¬ 0 ≤ placeF ((all.take i).map PartM.name) x.name 0 := by rw [hp, h2]; simp
        simp only [h1, h2, partE_eq, if_neg h3]
        simp
      · have h3 : 0 ≤ placeF ((all.take i).map PartM.name) x.name 0 := by rw [hp, h2]
        simp only [h1, h2, if_pos h3]
        simp
theorem check_eq (h : HullM) : checkF h = checkR h := by
  unfold checkF checkR
  rw [parts_eq]
  simp only [beyondF, insF_out, List.any_cons, List.any_nil, Bool.or_false]
  rcases tf (outF 1 10 (h.ps.length : Int)) with h1 | h1 <;> rcases tf (outF 0 5000 h.aft) with h2 | h2 <;> rcases tf (outF 0 5000 h.fore) with h3 | h3 <;> simp [h1, h2, h3]
theorem eF_eq (h : HullM) : eF h = eR h := by unfold eF eR; rw [check_eq]
theorem wr_wr (n : Int) : wr (wr n) = wr n := by simp only [wr, IntKind.wrap_i64]; omega
theorem one_press (t : TruthM) (w : Int) (p : PartM) (k : Nat) : wr (1 * pressR t w p k) = pressR t w p k := by
  rw [Int.one_mul]; exact wr_wr _
theorem weigh_eq (h : HullM) (t : TruthM) (w : Int) : ∀ (l : List PartM) (a b c : Int) (k : Nat), weighG h t w a b c k l = (sumG (inT h t w 0) a k l, sumG (inT h t w 1) b k l, sumG (inT h t w 2) c k l)
  | [], _, _, _, _ => rfl
  | p :: r, a, b, c, k => by
    simp only [weighG, sumG]
    rw [weigh_eq h t w r]
    have e0 : inT h t w 0 p k = pressR t w p k := one_press t w p k
    have e1 : inT h t w 1 p k = wr (pressR t w p k * wr (p.at_ - h.aft)) := by
      show wr (wr (p.at_ - h.aft) * pressR t w p k) = _
      rw [Int.mul_comm]
    have e2 : inT h t w 2 p k = wr (pressR t w p k * wr (h.fore - p.at_)) := by
      show wr (wr (h.fore - p.at_) * pressR t w p k) = _
      rw [Int.mul_comm]
    rw [e0, e1, e2]
theorem weighR_eq (h : HullM) (t : TruthM) (w : Int) : weighR h t w = (inS h t w 0, inS h t w 1, inS h t w 2) := weigh_eq h t w h.ps 0 0 0 0
theorem sumG_congr {f g : PartM → Nat → Int} : ∀ (l : List PartM) (a : Int) (k : Nat), (∀ i (hi : i < l.length), f l[i] (k + i) = g l[i] (k + i)) → sumG f a k l = sumG g a k l
  | [], _, _, _ => rfl
  | p :: r, a, k, h => by
    simp only [sumG]
    have h0 := h 0 (by simp)
    simp at h0
    rw [h0]
    exact sumG_congr r _ (k + 1) fun i hi => by
      have := h (i + 1) (by simpa using hi)
      simpa [Nat.add_assoc, Nat.add_comm 1] using this
theorem parts_ok (all : List PartM) : ∀ (l : List PartM) (i : Nat), (partsE all l i).2.2 = 0 → ∀ p ∈ l, partE p = 0
  | [], _, _ => by simp
  | x :: r, i, h => by
    simp only [partsE] at h
    split at h
    · cases h
    · split at h
      · cases h
      · split at h
        · rename_i hx; exact absurd h hx
        · rename_i hx
          intro p hp
          rcases List.mem_cons.1 hp with rfl | hp
          · simpa using hx
          · exact parts_ok all r (i + 1) h p hp
structure Bounds (h : HullM) : Prop where
  aft : 0 ≤ h.aft ∧ h.aft ≤ 5000
  fore : 0 ≤ h.fore ∧ h.fore ≤ 5000
  at_ : ∀ p ∈ h.ps, 0 ≤ p.at_ ∧ p.at_ ≤ 5000
theorem small_eq (h : HullM) (hb : Bounds h) (w : Int) : smallR h w = (leastS h w 0, leastS h w 1, leastS h w 2) := by
  unfold smallR
  rw [weighR_eq, weighR_eq, weighR_eq]
  have gW : ∀ (why : Int) (i : Nat) (hi : i < h.ps.length), (shownT h why).ws[i]?.getD 0 = shownW h why h.ps[i] := fun why i hi => by simp [shownT, hi]
  have gL : ∀ (why : Int) (i : Nat) (hi : i < h.ps.length), (shownT h why).ls[i]?.getD 0 = shownL h why h.ps[i] := fun why i hi => by simp [shownT, hi]
  have c0 : inS h (shownT h 1) w 0 = leastS h w 0 := sumG_congr _ _ _ fun i hi => by
    simp only [Nat.zero_add, inT, leastT, pressF, gW 1 i hi, gL 1 i hi]
    simp [armF, shownW, shownL, lightB, lightF]
  have c1 : inS h (shownT h 2) w 1 = leastS h w 1 := sumG_congr _ _ _ fun i hi => by
    simp only [Nat.zero_add, inT, leastT, pressF, gW 2 i hi, gL 2 i hi]
    have hat := hb.at_ _ (List.getElem_mem hi)
    have ha := hb.aft
    have harm : armF h 1 h.ps[i] = h.ps[i].at_ - h.aft := by simp only [armF]; exact wrap_id (by omega) (by omega)
    rw [harm]
    by_cases hc : h.aft ≤ h.ps[i].at_
    · have hc' : ¬ h.ps[i].at_ - h.aft < 0 := by omega
      simp [shownW, shownL, lightB, hc, hc', lightF]
    · have hc' : h.ps[i].at_ - h.aft < 0 := by omega
      simp [shownW, shownL, lightB, hc, hc', heavyF]
  have c2 : inS h (shownT h 3) w 2 = leastS h w 2 := sumG_congr _ _ _ fun i hi => by
    simp only [Nat.zero_add, inT, leastT, pressF, gW 3 i hi, gL 3 i hi]
    have hat := hb.at_ _ (List.getElem_mem hi)
    have ha := hb.fore
    have harm : armF h 2 h.ps[i] = h.fore - h.ps[i].at_ := by simp only [armF]; exact wrap_id (by omega) (by omega)
    rw [harm]
    by_cases hc : h.ps[i].at_ ≤ h.fore
    · have hc' : ¬ h.fore - h.ps[i].at_ < 0 := by omega
      simp [shownW, shownL, lightB, hc, hc', lightF]
    · have hc' : h.fore - h.ps[i].at_ < 0 := by omega
      simp [shownW, shownL, lightB, hc, hc', heavyF]
  rw [c0, c1, c2]
end Go.AM
