/- CutTo: what the law's call returns. -/
import Derived.Test.YtmjfcbpgnmajpaaGreatDoorUC2
namespace Go.AM
open Go.Proofs
set_option maxRecDepth 100000
set_option maxHeartbeats 1000000
theorem vi (t : ah) (hok : t.Ok) (p : Int) {l : List Nat} {e : Int} (h1 : toL t p = l) (h2 : toE t p = e) (σ : af) : Spec Tryz.prog EB [t.v,ii' p] σ fun r σ' => r = .ret (.tup [.slice 1 (l.map nn'),ii' e]) ∧ σ' = σ := by
  have := qb t hok p σ
  rw [h1,h2] at this
  exact this
theorem ze (t : ah) (hok : t.Ok) (x : List Int) (hx : nt x) (w : Int) (hw : 0 ≤ w ∧ w ≤ 255) (haw : ∀ σ,Spec Tryz.prog vI [] σ fun r σ' => r = .ret (.bool true) ∧ σ' = σ) :
    Spec Tryz.prog Nb [t.v, .slice 1 (x.map bb'),bb' w] [] fun r _ => r = .ret (.bool true) := by
  have h2 := fun σ => dA t hok σ
  obtain ⟨w,rfl⟩ : ∃ n : Nat,w = (n : Int) := ⟨w.toNat,by omega⟩
  have e1 : IntKind.i64.wrap (w : Int) = (w : Int) := an (by omega) (by omega)
  refine Sr (by simp) (aa _ ?_)
  simp [Kl,ah.v,ah.cells]
  refine (Classical.em ((aN t).2.2 = 0)).elim (fun h => ?_) (fun h => ?_)
  rotate_left
  · refine aj.aD ra (h2 _) (congrArg ab.bool (decide_eq_false h)) ?_
    have he : toE t w = (aN t).2.2 := by
      have ho : bz t [w] = (aN t).2.2 := by unfold bz; rw [if_pos h]
      unfold toE; rw [ho,if_neg h]
    simp [e1]
    refine aj.pure Ih (vi t hok w rfl he _) ?_
    simp [h]
    exact aj.pure ka (haw _) (by simp [h])
  have hf := bm h
  have hpos := sI hf
  have h7 := hf.ship7
  refine aj.aD ra (h2 _) (congrArg ab.bool (decide_eq_true h)) ?_
  obtain ⟨p,hp⟩ : ∃ p,w % t.ar.length = p := ⟨_,rfl⟩
  have hpl : p < t.ar.length := by rw [← hp]; exact Nat.mod_lt _ hpos
  have e2 : (w : Int).tmod (t.ar.length : Int) = (p : Int) := by rw [← hp]; exact (lA w hpos).2.2.2
  have e3 : IntKind.i64.wrap (p : Int) = (p : Int) := an (by omega) (by omega)
  have e4 : ¬ (t.ar.length : Int) = 0 := by omega
  have e5 : ¬ t.ar.length = 0 := by omega
  have hgood := fun σ => fN t hok hf x hx 7 σ
  obtain ⟨gs,hgg,_⟩ := nV t (dL x) 7
  obtain ⟨g,hgd⟩ : ∃ g,qk t (dL x) 7 = g := ⟨_,rfl⟩
  rw [hgd] at hgood hgg
  have hg7 := dh hf hgg
  obtain ⟨l,hl⟩ : ∃ l,toL t (p : Int) = l := ⟨_,rfl⟩
  obtain ⟨e,he⟩ : ∃ e,toE t (p : Int) = e := ⟨_,rfl⟩
  have hto := fun i (hi : i < g.length) (hip : g[i] = p) => EH h hpl hgg hi hip
  have his := Lv h hpl
  rw [hl,he] at hto his
  simp [e1,e2,e3,e4,e5]
  refine aj.pure Ih (vi t hok p hl he _) ?_
  simp
  refine aj.pure BI (hgood _) ?_
  simp
  refine AW.loop (ι := Nat) (fun i fr σ => fr = { v := [(3, .pval (.agg [.slice 7 (t.ar.map HuM.v), .slice 7 (t.hull.ps.map aq.v),ii' t.hull.aft,ii' t.hull.fore,ii' t.lo,ii' t.hi, .slice 2 (t.net.tanks.map aE.v), .slice 3 (t.net.pipes.map aG.v), .slice 1 (t.blanks.map ii'), .slice 2 (t.steps.map a7.v), .slice 1 (t.tanks.map cj)])),(9,nn' p),(10, .slice 1 (l.map nn')),(11,ii' e),(12, .slice 1 (g.map nn')),(13,nn' i)],ds := [] } ∧ σ = [] ∧ i ≤ g.length) (fun i => g.length - i) 0 ⟨by simp [e1,e2],rfl,by omega⟩ ?_
  rintro i fr σ ⟨rfl,rfl,hi⟩
  refine (Nat.lt_or_ge i g.length).elim (fun hlt => ?_) (fun hge => ?_)
  · obtain ⟨c,hc⟩ : ∃ c,g[i] = c := ⟨_,rfl⟩
    have hw1 : IntKind.i64.wrap ((i : Int) + 1) = ((i + 1 : Nat) : Int) := by rw [an (by omega) (by omega)]; simp
    refine aa _ ?_
    refine (Classical.em (c = p)).elim (fun hcp => ?_) (fun hcp => ?_)
    · obtain ⟨t1,t2⟩ := hto i hlt (hc.trans hcp)
      have t3 : ¬ i + 1 < l.length := by omega
      have t4 : ¬ ((i : Int) + 1) < l.length := by omega
      simp [hlt,hc,hcp,t1,hw1,t3,t4]
      exact ⟨i + 1,by omega,by simp,by omega⟩
    · have hcI : ¬ (c : Int) = (p : Int) := by omega
      simp [hlt,hc,hcp,hcI,hw1]
      exact ⟨i + 1,by omega,by simp,by omega⟩
  have hnl : ¬ i < g.length := by omega
  rcases his with ⟨t1,t2⟩ | ⟨t1,r,s,t2,t3⟩
  · refine aa _ ?_
    simp [hnl,t1,t2]
    exact aj.pure ka (haw _) (by simp [t1,t2])
  · have hbad := fun σ => jZ t hok (r ++ [p]) (by have := dh hf t3; simp only [maxLen]; omega) σ
    rw [nU h t3] at hbad
    simp only [aS,List.map_append,List.map_cons,List.map_nil] at hbad
    have hr7 := dh hf t3
    rw [List.length_append,List.length_singleton] at hr7
    have hwr : IntKind.i64.wrap (r.length : Int) = (r.length : Int) := an (by omega) (by omega)
    have hget : (List.map nn' r ++ [nn' p])[r.length]? = some (nn' p) := by simp
    refine aa _ ?_
    simp [hnl,t1,t2]
    refine aj.pure wW (hbad _) ?_
    simp [t2,hwr,hget]
    exact ⟨by omega,aj.pure ka (haw _) (by simp [t2,hwr,hget])⟩
end Go.AM
