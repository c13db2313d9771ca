/- Is a name taken: of the program. -/
import Derived.Test.YtmgbkmobhjjkiaaT32
namespace Go.AM
open Go.Proofs
set_option maxRecDepth 100000
set_option maxHeartbeats 1000000

theorem stand_Check_1_spec (y x : PartM) (σ : AHeap) : Spec Try.prog F_stand_Check_1 [y.v, .pval x.v] σ fun r σ' => r = .ret (.bool (y.name.toList == x.name.toList)) ∧ σ' = σ := by
  refine Spec.pureFn (spec_stand_Check_1 (by simp) (awpC_sound _ ?_)) rfl rfl σ
  simp [C_stand_Check_1, PartM.v, PartM.cells]

theorem slices_IndexFunc_St_spec (g : FuncId) (caps : List AVal) (hp : pures caps = true) (p : PartM → Bool) (l : List PartM) (hl : l.length ≤ maxLen) (hf : ∀ x ∈ l, PureF Try.prog (.func (.func g) [] caps) [x.v] (.bool (p x))) (σ : AHeap) :
    Spec Try.prog F_slices_IndexFunc_api_StPart_api_StPart [.slice 7 (l.map PartM.v), .func (.func g) [] caps] σ fun r σ' => r = .ret (.int .i64 (idxF p l 0)) ∧ σ' = σ := by
  refine Spec.pureFn (spec_slices_IndexFunc_api_StPart_api_StPart (by simp) (awpC_sound _ ?_)) (by simp [hp, pures_map (f := PartM.v) (fun _ => rfl) l]) rfl σ
  simp [C_slices_IndexFunc_api_StPart_api_StPart]
  refine AW.loop (ι := Nat) (fun i fr σ => fr = { v := [(0, .slice 7 (l.map PartM.v)), (1, .func (.func g) [] caps), (7, .int .i64 l.length), (8, .int .i64 i)], ds := [] } ∧ i ≤ l.length ∧ idxF p l 0 = idxF p (l.drop i) i) (fun i => l.length - i) 0 (by simp) ?_
  rintro i fr σ ⟨rfl, hi, hpi⟩
  refine awpC_sound _ ?_
  simp
  refine ⟨fun hlt => ?_, fun hge => ?_⟩
  · have hd : l.drop i = l[i] :: l.drop (i + 1) := List.drop_eq_getElem_cons hlt
    rw [hd] at hpi
    simp [idxF] at hpi
    simp [hlt, PartM.v, PartM.cells]
    refine CallK.of (hf l[i] (List.getElem_mem _) σ) ?_
    simp
    refine ⟨fun he => by rw [hpi, if_pos he], fun he => ⟨i + 1, by omega, wrap_id (by omega) (by simp only [maxLen] at hl; omega), by omega, by rw [hpi, if_neg (by simp [he])]⟩⟩
  · have : l.drop i = [] := List.drop_eq_nil_of_le hge
    rw [hpi, this]; rfl

theorem slices_ContainsFunc_St_spec (g : FuncId) (caps : List AVal) (hp : pures caps = true) (p : PartM → Bool) (l : List PartM) (hl : l.length ≤ maxLen) (hf : ∀ x ∈ l, PureF Try.prog (.func (.func g) [] caps) [x.v] (.bool (p x))) (σ : AHeap) :
    Spec Try.prog F_slices_ContainsFunc_api_StPart_api_StPart [.slice 7 (l.map PartM.v), .func (.func g) [] caps] σ fun r σ' => r = .ret (.bool (l.any p)) ∧ σ' = σ := by
  refine Spec.pureFn (spec_slices_ContainsFunc_api_StPart_api_StPart (by simp) (awpC_sound _ ?_)) (by simp [hp, pures_map (f := PartM.v) (fun _ => rfl) l]) rfl σ
  simp [C_slices_ContainsFunc_api_StPart_api_StPart]
  refine CallK.pure B_slices_IndexFunc_api_StPart_api_StPart (slices_IndexFunc_St_spec g caps hp p l hl hf _) ?_
  simp [idxF_any]

end Go.AM
