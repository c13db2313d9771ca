/- CutLater: what the law's call returns. -/
import Derived.Test.YtmjfcbpgnmajpaaGreatDoorUC2
namespace Go.AM
open Go.Proofs
set_option maxRecDepth 100000
set_option maxHeartbeats 1000000
theorem qp {t : ah} (hok : t.Ok) (h : (aN t).2.2 = 0) {l : List Nat} {s : Nat} (hg : goT t l (aP t) = some s) (σ : af) : Spec Tryz.prog Ef [t.v, .slice 1 (l.map nn')] σ fun r σ' => r = .ret (.tup [.slice 1 ((gQ t s).map nn'),ii' 0]) ∧ σ' = σ := by
  have h7 := dh (bm h) hg
  have := jq t hok (l.map fun (n : Nat) => (n : Int)) (by rw [List.length_map]; simp only [maxLen]; omega) σ
  rw [oc] at this
  unfold qc at this
  rw [(iU h hg).1,(iU h hg).2,if_pos rfl] at this
  exact this
theorem j4 {t : ah} (hok : t.Ok) (h : (aN t).2.2 = 0) {l : List Nat} {s : Nat} (hg : goT t l (aP t) = some s) (σ : af) : Spec Tryz.prog Em [t.v, .slice 1 (l.map nn')] σ fun r σ' => r = .ret (.tup [.slice 1 ((bq t s).map nn'),ii' 0]) ∧ σ' = σ := by
  have h7 := dh (bm h) hg
  have := oE t hok (l.map fun (n : Nat) => (n : Int)) (by rw [List.length_map]; simp only [maxLen]; omega) σ
  rw [oc] at this
  unfold zp at this
  rw [(iU h hg).1,(iU h hg).2,if_pos rfl] at this
  exact this
theorem nd (l : List Nat) (hl : l.length ≤ maxLen) (n : Nat) (σ : af) : Spec Tryz.prog Fa [.slice 1 (l.map nn'),nn' n] σ fun r σ' => r = .ret (.bool (l.contains n)) ∧ σ' = σ := by
  have := ff (l.map fun (n : Nat) => (n : Int)) (n : Int) (by simpa using hl) σ
  rw [oc] at this
  have e : (l.map fun (n : Nat) => (n : Int)).contains (n : Int) = l.contains n := by
    rw [Bool.eq_iff_iff,List.contains_iff_mem,List.contains_iff_mem,List.mem_map]
    constructor
    · rintro ⟨x,hx,e⟩
      have : x = n := by omega
      subst this; exact hx
    · intro h; exact ⟨n,h,rfl⟩
  rw [e] at this
  exact this
theorem oZ {t : ah} {s i : Nat} : i ∈ gQ t s ↔ i ∈ bq t s ∧ cT t (aK s i) = true := by simp [gQ]
theorem next_ne {t : ah} (hf : t.Fit) {s : Nat} (hs : s < 128) (hw : cT t s = true) (h0 : s ≠ 0) : gQ t s ≠ [] := by
  rcases (pb hf hs).1 hw with e | ⟨i,h1,h2,h3⟩
  · exact absurd e h0
  · intro e
    have : i ∈ gQ t s := oZ.2 ⟨bg.2 ⟨h1,h2⟩,h3⟩
    rw [e] at this; cases this
theorem B6 {t : ah} (hf : t.Fit) {s : Nat} (hs : s < 128) (hw : cT t s = false) : gQ t s = [] := by
  apply List.eq_nil_iff_forall_not_mem.2
  intro i hi
  obtain ⟨h1,h2⟩ := oZ.1 hi
  have := (pb hf hs).2 (.inr ⟨i,(bg.1 h1).1,(bg.1 h1).2,h2⟩)
  rw [hw] at this; cases this
theorem jX {t : ah} (hf : t.Fit) {l : List Nat} {s i : Nat} (hg : goT t l (aP t) = some s) (hi : i ∈ bq t s) : l.contains i = false := by
  obtain ⟨h1,h2⟩ := bg.1 hi
  have h3 := eA h2
  rw [ru hf hg h1] at h3
  simpa using h3
theorem Be {t : ah} (hf : t.Fit) {l : List Nat} {s : Nat} (hg : goT t l (aP t) = some s) : s = 0 ↔ t.ar.length ≤ l.length := by
  have h1 := iQ hf (bU hf) hg
  have h2 : pop (aP t) = t.ar.length := Ac _ hf.ship7
  constructor
  · rintro rfl
    have : pop 0 = 0 := by decide
    omega
  · intro h
    exact xO s h1.1 (by omega)
theorem pH {l : List Nat} (h : l ≠ []) (n : Nat) : ∃ c, ∃ hl : n % l.length < l.length,l[n % l.length] = c ∧ c ∈ l := by
  have hp := List.length_pos_iff.2 h
  have hl := Nat.mod_lt n hp
  exact ⟨_,hl,rfl,List.getElem_mem hl⟩
theorem Cu {t : ah} {s c : Nat} (hc : c ∈ bq t s) : (gQ t s).contains c = cT t (aK s c) := by
  rw [Bool.eq_iff_iff,List.contains_iff_mem,oZ]
  exact ⟨fun h => h.2,fun h => ⟨hc,h⟩⟩
theorem rj {t : ah} {l : List Nat} {s c : Nat} (hg : goT t l (aP t) = some s) (hc : c ∈ bq t s) : goT t (l ++ [c]) (aP t) = some (aK s c) := by
  rw [fS,hg,Option.bind_some,goT,if_pos (bg.1 hc),goT]
theorem BS {t : ah} (hf : t.Fit) {s c : Nat} (hs : s < 128) (hw : cT t s = false) (hc : c ∈ bq t s) : cT t (aK s c) = false := by
  cases h : cT t (aK s c)
  · rfl
  · have := (pb hf hs).2 (.inr ⟨c,(bg.1 hc).1,(bg.1 hc).2,h⟩)
    rw [hw] at this; cases this
theorem ri (l : List Nat) : Fits 1 (l.map nn') := by
  intro v hv
  obtain ⟨a,_,rfl⟩ := List.mem_map.1 hv
  exact ⟨⟨rfl,rfl⟩,rfl⟩
theorem tQ (t : ah) (hok : t.Ok) (x : List Int) (hx : nt x) (y0 y1 : Int) (h0 : 0 ≤ y0 ∧ y0 ≤ 255) (h1 : 0 ≤ y1 ∧ y1 ≤ 255) (haw : ∀ σ,Spec Tryz.prog vI [] σ fun r σ' => r = .ret (.bool true) ∧ σ' = σ) :
    Spec Tryz.prog F_9 [t.v, .slice 1 (x.map bb'), .agg [bb' y0,bb' y1]] [] fun r _ => r = .ret (.bool true) := by
  have h2 := fun σ => dA t hok σ
  obtain ⟨y0,rfl⟩ : ∃ n : Nat,y0 = (n : Int) := ⟨y0.toNat,by omega⟩
  obtain ⟨y1,rfl⟩ : ∃ n : Nat,y1 = (n : Int) := ⟨y1.toNat,by omega⟩
  have ey0 : IntKind.i64.wrap (y0 : Int) = (y0 : Int) := an (by omega) (by omega)
  have ey1 : IntKind.i64.wrap (y1 : Int) = (y1 : Int) := an (by omega) (by omega)
  by_cases h : (aN t).2.2 = 0
  rotate_left
  · have hb : cA t [] = (aN t).2.2 := (zn t).1
    have hn := fun σ => jq t hok [] (by simp) σ
    simp only [qc,hb,if_neg h,List.map_nil] at hn
    refine S_9 (by simp) (aa _ ?_)
    simp [C_9,ah.v,ah.cells]
    refine aj.aD ra (h2 _) (congrArg ab.bool (decide_eq_false h)) ?_
    simp
    refine aj.pure yX (hn _) ?_
    simp [h]
    exact aj.pure ka (haw _) (by simp [h])
  have hf := bm h
  have hpos := sI hf
  have h7 := hf.ship7
  obtain ⟨m,hm⟩ : ∃ m,y0 % (t.ar.length + 1) = m := ⟨_,rfl⟩
  have hgood := fun σ => fN t hok hf x hx m σ
  obtain ⟨s,hgg,_⟩ := nV t (dL x) m
  obtain ⟨g,hgd⟩ : ∃ g,qk t (dL x) m = g := ⟨_,rfl⟩
  rw [hgd] at hgood hgg
  have hg7 := dh hf hgg
  have hs : Sub t s := lN hgg (Sub.all t)
  have h128 := hs.lt hf
  have hmay := fun σ => j4 hok h hgg σ
  have hnext := fun σ => qp hok h hgg σ
  have hcl7 : (bq t s).length ≤ 7 := nM hf s
  have hnl : (gQ t s).length ≤ (bq t s).length := List.length_filter_le _ _
  have ew : IntKind.i64.wrap ((t.ar.length : Int) + 1) = ((t.ar.length + 1 : Nat) : Int) := by rw [an (by omega) (by omega)]; simp
  obtain ⟨f1,f2,f3,f4⟩ := lA y0 (m := t.ar.length + 1) (by omega)
  rw [hm] at f4
  simp only [Int.natCast_add,Int.natCast_one] at f4 ew
  by_cases hc : bq t s = []
  · have hn0 : gQ t s = [] := by unfold gQ; rw [hc]; rfl
    rw [hc] at hmay
    rw [hn0] at hnext
    refine S_9 (by simp) (aa _ ?_)
    simp [C_9,ah.v,ah.cells]
    refine aj.aD ra (h2 _) (congrArg ab.bool (decide_eq_true h)) ?_
    simp [ey0,ew,f4]
    refine ⟨by omega, .slice 1 (g.map nn'),fun σ' => aC.func BI (hgood σ'), ?_⟩
    simp
    refine aj.pure zB (hmay _) ?_
    simp
    refine aj.pure yX (hnext _) ?_
    simp
    exact aj.pure ka (haw _) (by simp)
  obtain ⟨c,hcl,hcv,hcm⟩ := pH hc y1
  have hcp : 0 < (bq t s).length := List.length_pos_iff.2 hc
  obtain ⟨c1,c2,c3,c4⟩ := lA y1 hcp
  have hcm2 := bg.1 hcm
  have hcn := jX hf hgg hcm
  have hhas1 := fun σ => nd g (by simp only [maxLen]; omega) c σ
  have hhas2 := fun σ => nd (gQ t s) (by simp only [maxLen]; omega) c σ
  have hc5 : ¬ (t.ar.length : Int) ≤ (c : Int) := by omega
  have hc6 : ¬ t.ar.length ≤ c := by omega
  have hcI : ¬ (c : Int) < 0 := by omega
  have hnlI : ¬ (bq t s).length < (gQ t s).length := by omega
  refine S_9 (by simp) (aa _ ?_)
  simp [C_9,ah.v,ah.cells]
  refine aj.aD ra (h2 _) (congrArg ab.bool (decide_eq_true h)) ?_
  simp [ey0,ew,f4]
  refine ⟨by omega, .slice 1 (g.map nn'),fun σ' => aC.func BI (hgood σ'), ?_⟩
  simp
  refine aj.pure zB (hmay _) ?_
  simp
  refine aj.pure yX (hnext _) ?_
  simp [hnlI,hc,ey1,c1,c2,c3,hcl,hcv,hc5,hc6,hcI]
  refine aj.aD jc (hhas1 _) (congrArg ab.bool hcn) ?_
  simp [hnlI,hc,ey1,c1,c2,c3,hcl,hcv,hc5,hc6,hcI]
  refine ⟨ri g,by omega,ri [c],by omega, ?_⟩
  refine aj.aD jc (hhas2 _) (congrArg ab.bool (Cu hcm)) ?_
  simp [hc,ey1,c1,hcl,hcv]
  refine AW.loop (ι := Nat) (fun n fr σ => ∃ more s' k,fr = { v := [(1, .slice 1 (x.map bb')),(3, .pval (.agg [.slice 7 (t.ar.map HuM.v), .slice 7 (t.hull.ps.map aq.v),ii' t.hull.aft,ii' t.hull.fore,ii' t.lo,ii' t.hi, .slice 2 (t.net.tanks.map aE.v), .slice 3 (t.net.pipes.map aG.v), .slice 1 (t.blanks.map ii'), .slice 2 (t.steps.map a7.v), .slice 1 (t.tanks.map cj)])),(15, .oslice 1 (List.map nn' more) 0 k),(16, .bool (cT t s'))],ds := [] } ∧ σ = [.spare 1 k] ∧ goT t more (aP t) = some s' ∧ more.length = n) (fun n => t.ar.length - n) (g.length + 1) ⟨g ++ [c],aK s c,2,by simp,rfl,rj hgg hcm,by simp⟩ ?_
  rintro n fr σ ⟨more,s',k,rfl,rfl,hgm,hln⟩
  have hm7 := dh hf hgm
  have hs' : Sub t s' := lN hgm (Sub.all t)
  have h128' := hs'.lt hf
  have hz := Be hf hgm
  refine (Nat.lt_or_ge n t.ar.length).elim (fun hlt => ?_) (fun hge => ?_)
  rotate_left
  · have hs0 : s' = 0 := hz.2 (by omega)
    have hw : cT t s' = true := by rw [hs0]; rfl
    have hnlt : ¬ more.length < t.ar.length := by omega
    have hbad := fun σ => jZ t hok more (by simp only [maxLen]; omega) σ
    rw [nU h hgm] at hbad
    simp only [aS] at hbad
    rw [hw]
    refine aa _ ?_
    simp [hnlt]
    refine aj.pure wW (hbad _) ?_
    simp
    exact aj.pure ka (haw _) (by simp)
  have hmlt : more.length < t.ar.length := by omega
  have hs0 : s' ≠ 0 := fun e => by have := hz.1 e; omega
  have hnext' := fun σ => qp hok h hgm σ
  have hmay' := fun σ => j4 hok h hgm σ
  have htu := fun σ => mf x hx n (by simp only [maxLen]; omega) σ
  have hcl7' : (bq t s').length ≤ 7 := nM hf s'
  refine (tf (cT t s')).elim (fun hw => ?_) (fun hw => ?_)
  · rw [B6 hf h128' hw] at hnext'
    rw [hw]
    refine (Classical.em (bq t s' = [])).elim (fun hc' => ?_) (fun hc' => ?_)
    · rw [hc'] at hmay'
      refine aa _ ?_
      simp [hmlt]
      refine aj.pure yX (hnext' _) ?_
      simp
      refine aj.pure zB (hmay' _) ?_
      simp
      exact aj.pure ka (haw _) (by simp)
    · obtain ⟨d,d1,d2,dm⟩ := pH hc' (dL x n)
      have hdp : 0 < (bq t s').length := List.length_pos_iff.2 hc'
      obtain ⟨e1,e2,e3,e4⟩ := lA (dL x n) hdp
      have hd2 := bg.1 dm
      have hdn := jX hf hgm dm
      have hhas := fun σ => nd more (by simp only [maxLen]; omega) d σ
      have hd5 : ¬ (t.ar.length : Int) ≤ (d : Int) := by omega
      have hd6 : ¬ t.ar.length ≤ d := by omega
      have hdI : ¬ (d : Int) < 0 := by omega
      have hwd := BS hf h128' hw dm
      refine aa _ ?_
      simp [hmlt]
      refine aj.pure yX (hnext' _) ?_
      simp
      refine aj.pure zB (hmay' _) ?_
      simp [hc',hln]
      refine aj.pure IC (htu _) ?_
      simp [hc',e1,e2,e3,d1,d2,hd5,hd6,hdI]
      refine aj.aD jc (hhas _) (congrArg ab.bool hdn) ?_
      simp [hc',e1,e2,e3,d1,d2,hd5,hd6,hdI]
      exact ⟨ri [d],by omega,n + 1,by omega,more ++ [d],aK s' d,k + 1,⟨⟨by simp,rfl⟩,hwd⟩,rfl,rj hgm dm,by simp [hln]⟩
  · have hcn' := next_ne hf h128' hw hs0
    rw [hw]
    obtain ⟨d,d1,d2,dm⟩ := pH hcn' (dL x n)
    have hdp : 0 < (gQ t s').length := List.length_pos_iff.2 hcn'
    obtain ⟨e1,e2,e3,e4⟩ := lA (dL x n) hdp
    obtain ⟨dm,hwd⟩ := oZ.1 dm
    have hd2 := bg.1 dm
    have hdn := jX hf hgm dm
    have hhas := fun σ => nd more (by simp only [maxLen]; omega) d σ
    have hd5 : ¬ (t.ar.length : Int) ≤ (d : Int) := by omega
    have hd6 : ¬ t.ar.length ≤ d := by omega
    have hdI : ¬ (d : Int) < 0 := by omega
    refine aa _ ?_
    simp [hmlt]
    refine aj.pure yX (hnext' _) ?_
    simp [hcn',hdp,hln]
    refine aj.pure IC (htu _) ?_
    simp [hcn',e1,e2,e3,d1,d2,hd5,hd6,hdI]
    refine aj.aD jc (hhas _) (congrArg ab.bool hdn) ?_
    simp [hcn',e1,e2,e3,d1,d2,hd5,hd6,hdI]
    exact ⟨ri [d],by omega,n + 1,by omega,more ++ [d],aK s' d,k + 1,⟨⟨by simp,rfl⟩,hwd⟩,rfl,rj hgm dm,by simp [hln]⟩
end Go.AM
