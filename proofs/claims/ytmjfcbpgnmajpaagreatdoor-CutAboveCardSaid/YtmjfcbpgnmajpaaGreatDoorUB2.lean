/- CutAbove: what the law's call returns. -/
import Derived.Test.YtmjfcbpgnmajpaaGreatDoorUB1
import Derived.Test.YtmjfcbpgnmajpaaGreatDoorP25
namespace Go.AM
open Go.Proofs
set_option maxRecDepth 100000
set_option maxHeartbeats 1000000
theorem Af {l : List Int} (h : ∀ x ∈ l,0 ≤ x) {k : Nat} (hk : k ∈ l.map Int.toNat) : l.contains (k : Int) = true := by
  obtain ⟨x,hx,e⟩ := List.mem_map.1 hk
  have := h x hx
  have : x = (k : Int) := by omega
  rw [← this,List.contains_iff_mem]; exact hx
theorem s7 {t : ah} (hc : (aN t).2.2 = 0) {good : List Int} (hin : good.all (inO t.ar.length) = true) {s : Nat} (hg : goT t (good.map Int.toNat) (aP t) = some s) :
    good.length ≤ 7 ∧ ∀ (i : Nat) (hi : i < good.length), ∃ a : Nat,good[i] = (a : Int) ∧ a < t.ar.length ∧ ∀ k : Nat,k < t.ar.length → (ovL t.ar a t.ar.length).getD k false = true → (good.take i).contains (k : Int) = true := by
  have hf := bm hc
  have hnn : ∀ x ∈ good,0 ≤ x ∧ x < t.ar.length := fun x hx => by
    have := List.all_eq_true.1 hin x hx
    simpa [inO] using this
  refine ⟨by have := Bu hf hg; simpa using this,fun i hi => ?_⟩
  obtain ⟨h0,h1⟩ := hnn _ (List.getElem_mem hi)
  refine ⟨good[i].toNat,by omega,by omega,fun k hk ho => ?_⟩
  have hi2 : i < (good.map Int.toNat).length := by simpa using hi
  have hmem := ub hf hc hg hi2 (k + 1) k (by omega) hk (by simpa using ho)
  rw [← List.map_take] at hmem
  exact Af (fun x hx => (hnn x (List.mem_of_mem_take hx)).1) hmem
theorem xk {t : ah} (hc : (aN t).2.2 = 0) {l : List Int} (hin : l.all (inO t.ar.length) = true) : ∃ (good : List Int) (A : Int) (W : Nat),(bH t l 0 (aP t)).1 = A ∧ (bH t l 0 (aP t)).2.1 = W ∧
    ((A = -1 ∧ W = 0 ∧ good = l) ∨ ∃ n : Nat, ∃ hn : n < l.length,A = (n : Int) ∧ W ≠ 0 ∧ good = l.take n ∧ (W = 1 → good.contains l[n] = true)) ∧
    good.length ≤ 7 ∧ ∀ (i : Nat) (hi : i < good.length), ∃ a : Nat,good[i] = (a : Int) ∧ a < t.ar.length ∧ ∀ k : Nat,k < t.ar.length → (ovL t.ar a t.ar.length).getD k false = true → (good.take i).contains (k : Int) = true := by
  have hf := bm hc
  have hnn : ∀ x ∈ l,0 ≤ x ∧ x < t.ar.length := fun x hx => by
    have := List.all_eq_true.1 hin x hx
    simpa [inO] using this
  rcases sZ (t := t) (l := l) (k := 0) (s := aP t) with ⟨h1,h2⟩ | ⟨h1,h2,h3⟩
  · exact ⟨l,_,_,rfl,rfl, .inl ⟨h1,h2,rfl⟩,s7 hc hin (uO hin h1)⟩
  · obtain ⟨n,hn⟩ : ∃ n : Nat,(bH t l 0 (aP t)).1 = (n : Int) := ⟨(bH t l 0 (aP t)).1.toNat,by omega⟩
    obtain ⟨hnl,hg,hw⟩ := xn (t := t) (l := l) (k := 0) (s := aP t) (n := n) hin (by rw [hn]; simp)
    have hin2 : (l.take n).all (inO t.ar.length) = true := List.all_eq_true.2 fun x hx => List.all_eq_true.1 hin x (List.mem_of_mem_take hx)
    refine ⟨l.take n,_,_,rfl,rfl, .inr ⟨n,hnl,hn,h3,rfl,fun hw1 => ?_⟩,s7 hc hin2 hg⟩
    obtain ⟨g0,g1⟩ := hnn _ (List.getElem_mem hnl)
    rw [hw1] at hw
    have hb : (bH t l 0 (aP t)).2.2.testBit (l[n]).toNat = false := by
      unfold bD at hw
      split at hw
      · rename_i hb; simpa using hb
      · split at hw
        · cases hw
        · split at hw
          · cases hw
          · split at hw <;> cases hw
    rw [ru hf hg (by omega)] at hb
    have hb : ((l.take n).map Int.toNat).contains (l[n]).toNat = true := by simpa using hb
    have := Af (l := l.take n) (fun x hx => (hnn x (List.mem_of_mem_take hx)).1) (List.contains_iff_mem.1 hb)
    rwa [show (((l[n]).toNat : Nat) : Int) = l[n] from Int.toNat_of_nonneg g0] at this
theorem tL (t : ah) (hok : t.Ok) (l : List Int) (hl : l.length ≤ maxLen) (haw : ∀ σ,Spec Tryz.prog vI [] σ fun r σ' => r = .ret (.bool true) ∧ σ' = σ) :
    Spec Tryz.prog Lq [t.v, .slice 1 (l.map ii')] [] fun r _ => r = .ret (.bool true) := by
  have h1 := fun σ => hU t hok l hl σ
  have h2 := fun σ => tc t hok l hl σ
  refine Qh (by simp) (aa _ ?_)
  simp [Ki,ah.v,ah.cells]
  refine (Classical.em (bz t l = 0)).elim (fun h => ?_) (fun h => ?_)
  rotate_left
  · have hb : qY t l = (0,0,bz t l) := by unfold qY; rw [if_pos h]
    rw [hb] at h1
    simp only [aS] at h1
    refine aj.pure wW (h1 _) ?_
    simp
    refine aj.pure Kh (h2 _) ?_
    simp [h]
    exact aj.pure ka (haw _) (by simp [h])
  obtain ⟨hf,hin⟩ := ib h
  have hc : (aN t).2.2 = 0 := by
    unfold bz at h
    split at h
    · rename_i h1; exact absurd h h1
    · rename_i h1; simpa using h1
  have H : ∀ (k : Nat) (hk : k < t.ar.length), ∀ s ∈ (t.ar[k]).on, ∃ j : Nat,findF t.ar s = (j : Int) ∧ j < k := fun k hk s hs => by
    obtain ⟨j,g1,g2,_⟩ := vj hc hk hs
    exact ⟨j,g1,g2⟩
  obtain ⟨good,A,W,e1,e2,hcase,hg7,hgd⟩ := xk hc hin
  have hb : qY t l = (A,(W : Int),0) := by unfold qY; rw [if_neg (by simp [h]),e1,e2]
  rw [hb] at h1
  simp only [aS] at h1
  have hss := hf.ship7
  refine aj.pure wW (h1 _) ?_
  simp
  refine aj.pure Kh (h2 _) ?_
  have hgl : good.length ≤ l.length := by
    rcases hcase with ⟨_,_,e⟩ | ⟨n,hn,_,_,e,_⟩
    · rw [e]; exact Nat.le_refl _
    · rw [e,List.length_take]; omega
  have hend : ¬ (0 ≤ A ∧ W = 1) ∨ (0 ≤ A ∧ W = 1 ∧ ∃ n : Nat, ∃ hn : n < l.length,A = (n : Int) ∧ good.contains l[n] = true) := by
    rcases hcase with ⟨e,_,_⟩ | ⟨n,hn,e,_,_,e4⟩
    · left; omega
    · by_cases hW : W = 1
      · exact .inr ⟨by omega,hW,n,hn,e,e4 hW⟩
      · exact .inl fun h => hW h.2
  have hok2 := hok.ar
  refine hcase.elim (fun hx => ?ga) (fun hx => ?gb)
  case' ga =>
    obtain ⟨hA,hW,hg⟩ := hx
    simp [h,hA,hW]
    refine ⟨by omega,fun _ => ?_⟩
  case' gb =>
    obtain ⟨n,hn,hA,hW,hg,_⟩ := hx
    have hA1 : ¬ (n : Int) < -1 := by omega
    have hA2 : ¬ (n : Int) = -1 := by omega
    have hA3 : ¬ (l.length : Int) ≤ n := by omega
    have hA4 : ¬ l.length ≤ n := by omega
    have hA5 : n ≤ l.length := by omega
    simp [h,hA,hA1,hA2,hA3,hA4,hA5,hW]
    refine ⟨by rw [show ((n : Int) == -1) = false by simp,show ((W : Int) == 0) = false by simpa using hW],fun _ => ?_⟩
  all_goals
    refine AW.loop (ι := Nat) (fun i fr σ => fr = { v := [(1, .slice 1 (l.map ii')),(5,ii' A),(6,ii' (W : Int)),(8, .slice 1 (good.map ii')),(9, .slice 7 (t.ar.map HuM.v)),(10,nn' i)],ds := [] } ∧ σ = [] ∧ i ≤ good.length) (fun i => good.length - i) 0 ⟨by simp [hA,hW,hg],rfl,by omega⟩ ?_
    rintro i fr σ ⟨rfl,rfl,hi⟩
    refine (Nat.lt_or_ge i good.length).elim (fun hlt => ?_) (fun hge => ?_)
    · obtain ⟨a,ga1,ga2,ga3⟩ := hgd i hlt
      have hov := fun σ => tZ t.ar hok.ar (by omega) H a ga2 σ
      obtain ⟨L,hL⟩ : ∃ L,ovL t.ar a t.ar.length = L := ⟨_,rfl⟩
      have hLl : L.length = t.ar.length := by rw [← hL,gZ]
      rw [hL] at hov ga3
      have hw1 : IntKind.i64.wrap ((i : Int) + 1) = ((i + 1 : Nat) : Int) := by rw [an (by omega) (by omega)]; simp
      refine aa _ ?_
      simp [hlt,ga1]
      refine aj.pure PQ (hov _) ?_
      simp
      refine AW.loop (ι := Nat) (fun k fr σ => fr = { v := [(1, .slice 1 (l.map ii')),(5,ii' A),(6,ii' (W : Int)),(8, .slice 1 (good.map ii')),(9, .slice 7 (t.ar.map HuM.v)),(10,nn' i),(11, .slice 1 (L.map boV)),(12,nn' k)],ds := [] } ∧ σ = [] ∧ k ≤ t.ar.length) (fun k => t.ar.length - k) 0 ⟨by simp,rfl,by omega⟩ ?_
      rintro k fr σ ⟨rfl,rfl,hk⟩
      refine (Nat.lt_or_ge k t.ar.length).elim (fun hkl => ?_) (fun hkg => ?_)
      · obtain ⟨b,hb⟩ : ∃ b,L[k] = b := ⟨_,rfl⟩
        have hkL : k < L.length := by omega
        have hw2 : IntKind.i64.wrap ((k : Int) + 1) = ((k + 1 : Nat) : Int) := by rw [an (by omega) (by omega)]; simp
        have hhas := fun σ => ff (good.take i) (k : Int) (by rw [List.length_take]; simp only [maxLen]; omega) σ
        rw [List.map_take] at hhas
        have hgk : L.getD k false = b := by rw [List.getD_eq_getElem?_getD,List.getElem?_eq_getElem hkL,hb]; rfl
        have hil : i ≤ good.length := by omega
        refine aa _ ?_
        refine (tf b).elim (fun hbb => ?_) (fun hbb => ?_)
        · simp [hkL,hLl,hkl,hb,hbb,hw2]
          exact ⟨k + 1,by omega,by simp,by omega⟩
        · have hc := ga3 k hkl (hgk.trans hbb)
          simp [hkL,hLl,hkl,hb,hbb,hw2,hil]
          refine aj.aD jc (hhas _) (congrArg ab.bool hc) ?_
          simp [hkL,hLl,hkl,hb,hbb,hw2,hil]
          exact ⟨k + 1,by omega,by simp,by omega⟩
      · have hnk : ¬ k < t.ar.length := by omega
        refine aa _ ?_
        simp [hLl,hnk,hw1]
        exact ⟨i + 1,by omega,by simp,by omega⟩
    · have hnl : ¬ i < good.length := by omega
      refine aa _ ?_
      refine hend.elim (fun he => ?_) (fun he => ?_)
      · refine (Classical.em (0 ≤ A)).elim (fun h0 => ?_) (fun h0 => ?_)
        · have hW1 : ¬ W = 1 := fun e => he ⟨h0,e⟩
          have hWI1 : ¬ (W : Int) = 1 := by omega
          simp [hnl,h0,hW1,hWI1]
          exact aj.pure ka (haw _) (by simp [h0,hW1,hWI1])
        · simp [hnl,h0]
          exact aj.pure ka (haw _) (by simp [h0])
      · obtain ⟨h0,hW1,n',hn',hAn,hcn⟩ := he
        obtain ⟨c,hcv⟩ : ∃ c,l[n'] = c := ⟨_,rfl⟩
        rw [hcv] at hcn
        have hhas := fun σ => ff good c (by simp only [maxLen]; omega) σ
        simp [hnl,h0,hW1,hAn,hn',hcv]
        refine aj.aD jc (hhas _) (congrArg ab.bool hcn) ?_
        simp
        exact aj.pure ka (haw _) (by simp)
end Go.AM
