/- The truth of a hull: of the program. -/
import Derived.Test.YtmgbkmobhjjkiaaT32
namespace Go.AM
open Go.Proofs
set_option maxRecDepth 100000

structure TruthM where
  ws : List Int
  ls : List Int
def TruthM.v (t : TruthM) : AVal := .agg [.slice 1 (t.ws.map ii'), .slice 1 (t.ls.map ii')]
theorem TruthM.pure (t : TruthM) : t.v.pure = true := by simp [TruthM.v, AVal.pure, pures, pures_map (f := ii') (fun _ => rfl)]

theorem stand_open_1_spec (p : PartM) (σ : AHeap) : Spec Try.prog F_stand_open_1 [p.v] σ fun r σ' => r = .ret (.agg [ii' p.wLo, ii' p.wHi]) ∧ σ' = σ := by
  refine Spec.pureFn (spec_stand_open_1 (by simp) (awpC_sound _ ?_)) rfl rfl σ
  simp [C_stand_open_1, PartM.v, PartM.cells]
theorem stand_open_2_spec (p : PartM) (σ : AHeap) : Spec Try.prog F_stand_open_2 [p.v] σ fun r σ' => r = .ret (.agg [ii' p.lLo, ii' p.lHi]) ∧ σ' = σ := by
  refine Spec.pureFn (spec_stand_open_2 (by simp) (awpC_sound _ ?_)) rfl rfl σ
  simp [C_stand_open_2, PartM.v, PartM.cells]

def strangeF (f : PartM → Int × Int) : List PartM → List Int → Bool
  | p :: r, n :: t => outF (f p).1 (f p).2 n || strangeF f r t
  | _, _ => false

theorem stand_strange_spec (g : FuncId) (f : PartM → Int × Int) (ps : List PartM) (ns : List Int) (hl : ps.length ≤ maxLen) (hn : ns.length = ps.length) (hf : ∀ p, PureF Try.prog (.func (.func g) [] []) [p.v] (.agg [ii' (f p).1, ii' (f p).2])) (σ : AHeap) :
    Spec Try.prog F_stand_strange_api_StPart [.slice 7 (ps.map PartM.v), .slice 1 (ns.map ii'), .func (.func g) [] []] σ fun r σ' => r = .ret (.bool (strangeF f ps ns)) ∧ σ' = σ := by
  refine Spec.pureFn (spec_stand_strange_api_StPart (by simp) (awpC_sound _ ?_)) (by simp [pures_map (f := ii') (fun _ => rfl), pures_map (f := PartM.v) (fun _ => rfl)]) rfl σ
  simp [C_stand_strange_api_StPart]
  refine AW.loop (ι := Nat) (fun i fr σ => fr = { v := [(1, .slice 1 (ns.map ii')), (2, .func (.func g) [] []), (10, .slice 7 (ps.map PartM.v)), (11, .int .i64 ps.length), (12, .int .i64 i)], ds := [] } ∧ i ≤ ps.length ∧ strangeF f ps ns = strangeF f (ps.drop i) (ns.drop i)) (fun i => ps.length - i) 0 (by simp) ?_
  rintro i fr σ ⟨rfl, hi, hp⟩
  refine awpC_sound _ ?_
  simp
  refine ⟨fun hlt => ?_, fun hge => ?_⟩
  · have hd : ps.drop i = ps[i] :: ps.drop (i + 1) := List.drop_eq_getElem_cons hlt
    have hlt' : i < ns.length := by omega
    have hd' : ns.drop i = ns[i] :: ns.drop (i + 1) := List.drop_eq_getElem_cons hlt'
    rw [hd, hd'] at hp
    simp [strangeF] at hp
    simp [hlt, PartM.v, PartM.cells]
    refine CallK.of (hf ps[i] _) ?_
    simp [hlt']
    refine ⟨.bool (beyondF (f ps[i]).1 (f ps[i]).2 [ns[i]]), fun σ' => CallV.func B_stand_beyond (stand_beyond_spec _ _ [ns[i]] (by simp [maxLen]) σ'), ?_⟩
    simp [beyondF]
    refine ⟨fun h => by rw [hp, h]; rfl, fun h => ⟨i + 1, by omega, wrap_id (by omega) (by simp only [maxLen] at hl; omega), by omega, by rw [hp, h]; simp⟩⟩
  · have h1 : ps.drop i = [] := List.drop_eq_nil_of_le hge
    rw [hp, h1]; simp [strangeF]

end Go.AM
