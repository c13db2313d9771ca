/- CutMost: what the law's call returns. -/
import Derived.Test.YtmjfcbpgnmajpaaGreatDoorP26
import Derived.Test.YtmjfcbpgnmajpaaGreatDoorP25
namespace Go.AM
open Go.Proofs
set_option maxRecDepth 100000
set_option maxHeartbeats 1000000
theorem oc (l : List Nat) : (l.map fun (n : Nat) => (n : Int)).map ii' = l.map nn' := by rw [List.map_map]; rfl
theorem jZ (t : ah) (hok : t.Ok) (l : List Nat) (hl : l.length ≤ maxLen) (σ : af) : Spec Tryz.prog BG [t.v, .slice 1 (l.map nn')] σ fun r σ' => r = .ret (aS (qY t (l.map fun (n : Nat) => (n : Int)))) ∧ σ' = σ := by
  have := hU t hok (l.map fun (n : Nat) => (n : Int)) (by simpa using hl) σ
  rw [oc] at this
  exact this
theorem vJ (t : ah) (hok : t.Ok) (x : List Int) (hx : nt x) (haw : ∀ σ,Spec Tryz.prog vI [] σ fun r σ' => r = .ret (.bool true) ∧ σ' = σ) :
    Spec Tryz.prog Jt [t.v, .slice 1 (x.map bb')] [] fun r _ => r = .ret (.bool true) := by
  have h1 := fun σ => mq t hok σ
  have h2 := fun σ => dA t hok σ
  have h3 := fun σ => fj t hok σ
  simp only [gX] at h1 h3
  refine (Classical.em ((aN t).2.2 = 0)).elim (fun h => ?_) (fun h => ?_)
  rotate_left
  · have hm : qn t = [] := by unfold qn; rw [if_neg h]
    rw [hm] at h1
    refine ND (by simp) (aa _ ?_)
    simp [HH,ah.v,ah.cells]
    refine aj.pure HU (h1 _) ?_
    simp
    refine aj.aD ra (h2 _) (congrArg ab.bool (decide_eq_false h)) ?_
    simp [h]
    exact aj.pure ka (haw _) (by simp [h])
  have hf := bm h
  obtain ⟨s,hg⟩ := AX hf
  obtain ⟨gs,hgg,_⟩ := nV t (dL x) 7
  have hgl := A7 hf hgg
  have h7 : (cK t (aP t)).length ≤ 7 := dh hf hg
  have hm : qn t = cK t (aP t) := by unfold qn; rw [if_pos h]
  have hbad := fun σ => jZ t hok (cK t (aP t)) (by simp only [maxLen]; omega) σ
  have hgood := fun σ => fN t hok hf x hx 7 σ
  rw [nU h hg] at hbad
  simp only [aS] at hbad
  rw [hm,h] at h1
  have hfi : (eK t = 9 ∧ (cK t (aP t)).length < t.ar.length) ∨ (eK t = 0 ∧ fl t = cK t (aP t)) := by
    unfold eK fl
    rw [if_neg (by simp [h])]
    by_cases hlt : (cK t (aP t)).length < t.ar.length
    · exact .inl ⟨if_pos hlt,hlt⟩
    · exact .inr ⟨if_neg hlt,if_pos ⟨h,by omega⟩⟩
  refine ND (by simp) (aa _ ?_)
  simp [HH,ah.v,ah.cells]
  refine aj.pure HU (h1 _) ?_
  simp
  refine aj.aD ra (h2 _) (congrArg ab.bool (decide_eq_true h)) ?_
  simp
  refine aj.pure wW (hbad _) ?_
  simp
  refine hfi.elim (fun hx2 => ?_) (fun hx2 => ?_)
  · obtain ⟨he,hlt⟩ := hx2
    rw [he] at h3
    refine aj.pure zi (h3 _) ?_
    simp
    refine aj.pure BI (hgood _) ?_
    simp [hgl,hlt]
    exact aj.pure ka (haw _) (by simp [hgl,hlt])
  · obtain ⟨he,hl⟩ := hx2
    rw [he,hl] at h3
    refine aj.pure zi (h3 _) ?_
    simp
    refine aj.pure BI (hgood _) ?_
    simp [hgl]
    refine aj.pure zG (Fp _ (by simp only [maxLen]; omega) _) ?_
    simp [hgl]
    exact aj.pure ka (haw _) (by simp [hgl])
end Go.AM
