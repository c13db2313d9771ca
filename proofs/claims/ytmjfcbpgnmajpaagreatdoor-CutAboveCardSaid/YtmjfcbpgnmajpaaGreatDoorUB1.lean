/- What is above a part: of the document. -/
import Derived.Test.YtmjfcbpgnmajpaaGreatDoorP25
namespace Go.AM
open Go.Proofs
set_option maxRecDepth 100000
set_option maxHeartbeats 1000000
abbrev boV (b : Bool) : ab := .bool b
theorem tZ (l : List HuM) (hl : DL l) (h12 : l.length ≤ 12) (H : ∀ (k : Nat) (hk : k < l.length), ∀ s ∈ (l[k]).on, ∃ j : Nat,findF l s = (j : Int) ∧ j < k) (a : Nat) (ha : a < l.length) (σ : af) :
    Spec Tryz.prog ID [.slice 7 (l.map HuM.v),nn' a] σ fun r σ' => r = .ret (.slice 1 ((ovL l a l.length).map boV)) ∧ σ' = σ := by
  refine Spec.ay (RG (by simp) (aa _ ?_)) (by simp [av (f := HuM.v) (fun p => p.pure) l]) (by simp [ab.pure,av (f := boV) (fun _ => rfl)]) σ
  have hm := hl.1
  have hwa : IntKind.i64.wrap ((a : Int) + 1) = ((a + 1 : Nat) : Int) := by rw [an (by omega) (by simp only [maxLen] at hm; omega)]; simp
  simp [MB,hwa]
  refine ⟨by omega, ?_⟩
  refine AW.loop (ι := Nat) (fun i fr σ => ∃ L : List Bool,fr = { v := [(0, .slice 7 (l.map HuM.v)),(1,nn' a),(5, .sref 1 0 0 l.length l.length),(6,nn' i)],ds := [] } ∧ σ = [.arr 1 (L.map boV)] ∧ L.length = l.length ∧ a < i ∧ i ≤ l.length ∧ (∀ j,j < l.length → L[j]? = some (if j < i then (ovL l a l.length).getD j false else false))) (fun i => l.length - i) (a + 1) ⟨List.replicate l.length false,by simp,by simp,by simp,by omega,by omega,fun j hj => ?_⟩ ?_
  · rw [List.getElem?_replicate,if_pos hj]
    split
    · rename_i h
      rw [vC hj]
      have : ¬ a < j := by omega
      simp [this]
    · rfl
  rintro i fr σ ⟨L,rfl,rfl,hL,hai,hi,hLj⟩
  refine (Nat.lt_or_ge i l.length).elim (fun hlt => ?_) (fun hge => ?_)
  rotate_left
  · have hnl : ¬ i < l.length := by omega
    have hLe : L = ovL l a l.length := by
      apply List.ext_getElem?
      intro j
      by_cases hj : j < l.length
      · rw [hLj j hj,if_pos (by omega),List.getD_eq_getElem?_getD,List.getElem?_eq_getElem (by rw [gZ]; exact hj)]; rfl
      · rw [List.getElem?_eq_none (by omega),List.getElem?_eq_none (by rw [gZ]; omega)]
    refine aa _ ?_
    simp [hnl,hL,hLe,gZ]
    exact List.take_of_length_le (by simp [gZ])
  obtain ⟨x,hx⟩ : ∃ x,l[i] = x := ⟨_,rfl⟩
  have hxo := hl.2 x (hx ▸ List.getElem_mem _)
  have hHx := H i hlt
  rw [hx] at hHx
  have hw1 : IntKind.i64.wrap ((i : Int) + 1) = ((i + 1 : Nat) : Int) := by rw [an (by omega) (by simp only [maxLen] at hm; omega)]; simp
  obtain ⟨pr,hpr⟩ : ∃ pr : ByteArray → Bool,pr = fun s => decide (findF l s = (a : Int)) || (ovL l a i).getD (findF l s).toNat false := ⟨_,rfl⟩
  have hov : (ovL l a l.length).getD i false = x.on.any pr := by
    rw [vC hlt,List.getElem?_eq_getElem hlt,hx,hpr]
    simp [hai]
  have hiL : i < L.length := by omega
  refine aa _ ?_
  simp [hlt]
  refine AW.loop (ι := Nat) (fun k fr σ => ∃ L' : List Bool,fr = { v := [(0, .slice 7 (l.map HuM.v)),(1,nn' a),(5, .sref 1 0 0 l.length l.length),(6,nn' i),(7,nn' k)],ds := [] } ∧ σ = [.arr 1 (L'.map boV)] ∧ L' = L.set i ((x.on.take k).any pr) ∧ k ≤ x.on.length) (fun k => x.on.length - k) 0 ⟨L,by simp,by simp, ?_,by omega⟩ ?_
  · have h2 := hLj i hlt
    rw [if_neg (by omega)] at h2
    simp only [List.take_zero,List.any_nil]
    have : L[i] = false := Option.some.inj ((List.getElem?_eq_getElem hiL).symm.trans h2)
    rw [← this]; exact (List.set_getElem_self hiL).symm
  rintro k fr σ ⟨L',rfl,rfl,hL',hk⟩
  have hL'l : L'.length = l.length := by rw [hL',List.length_set]; exact hL
  refine (Nat.lt_or_ge k x.on.length).elim (fun hkl => ?_) (fun hkg => ?_)
  rotate_left
  · have hnk : ¬ k < x.on.length := by omega
    rw [List.take_of_length_le hkg] at hL'
    have key : ∀ j,j < l.length → L'[j]? = some (if j < i + 1 then (ovL l a l.length).getD j false else false) := fun j hj => by
      rw [hL']
      by_cases hji : j = i
      · subst hji
        rw [List.getElem?_set_self hiL,if_pos (by omega),hov]
      · rw [List.getElem?_set_ne (fun e => hji e.symm),hLj j hj]
        by_cases h2 : j < i
        · rw [if_pos h2,if_pos (by omega)]
        · rw [if_neg h2,if_neg (by omega)]
    refine aa _ ?_
    simp [hlt,hx,HuM.v,HuM.cells,hnk,hw1]
    exact ⟨i + 1,by omega,by simp,L',rfl,hL'l,by omega,by omega,fun j hj => by simpa using key j hj⟩
  obtain ⟨s,hs⟩ : ∃ s,x.on[k] = s := ⟨_,rfl⟩
  obtain ⟨j,hj1,hj2⟩ := hHx s (hs ▸ List.getElem_mem _)
  have hjl : j < l.length := by omega
  have hw2 : IntKind.i64.wrap ((k : Int) + 1) = ((k + 1 : Nat) : Int) := by rw [an (by omega) (by simp only [maxLen] at hxo; omega)]; simp
  obtain ⟨p,hp⟩ : ∃ p,(x.on.take k).any pr = p := ⟨_,rfl⟩
  obtain ⟨q,hq⟩ : ∃ q,(ovL l a l.length).getD j false = q := ⟨_,rfl⟩
  have hgi : L'[i]? = some p := by rw [hL',List.getElem?_set_self hiL,hp]
  have hgj : L'[j]? = some q := by
    rw [hL',List.getElem?_set_ne (by omega),hLj j hjl,if_pos hj2,hq]
  have hps : pr s = (decide (j = a) || q) := by
    rw [hpr, ← hq,oL hjl]
    simp only [hj1,Int.toNat_natCast,oL hj2]
    congr 1
    rw [Bool.eq_iff_iff]; simp only [decide_eq_true_eq]; omega
  have hnx : ((x.on.take (k + 1)).any pr) = (p || (decide (j = a) || q)) := by
    rw [List.take_add_one,List.any_append,hp,List.getElem?_eq_getElem hkl,hs]
    simp [hps]
  have hset : ∀ v,(L'.map boV).set i (boV v) = (L'.set i v).map boV := fun v => by rw [List.map_set]
  have hset2 : ∀ v,L'.set i v = L.set i v := fun v => by rw [hL',List.set_set]
  have hfi := fun σ => fP l s hm σ
  rw [hj1] at hfi
  refine aa _ ?_
  simp [hlt,hx,HuM.v,HuM.cells,hkl,hs]
  refine aj.pure ER (hfi _) ?_
  have hc1 : ¬ (j : Int) < 0 := by omega
  have hgi2 : ∀ h,L'[i]'h = p := fun h => Option.some.inj ((List.getElem?_eq_getElem h).symm.trans hgi)
  have hdec : decide ((j : Int) = (a : Int)) = decide (j = a) := by
    rw [Bool.eq_iff_iff]; simp only [decide_eq_true_eq]; omega
  refine (tf p).elim (fun hb => ?_) (fun hb => ?_)
  · subst hb
    rw [Bool.false_or] at hnx
    simp [hL'l,hgi2,hgj,hlt,hw2]
    exact ⟨fun h => ⟨h,hjl⟩,k + 1,by omega,by simp,L'.set i (decide (j = a) || q),by rw [hdec]; exact hset _,by rw [hset2,hnx],by omega⟩
  · subst hb
    rw [Bool.true_or] at hnx
    simp [hL'l,hgi2,hgj,hlt,hw2]
    exact ⟨k + 1,by omega,by simp,L'.set i true,hset true,by rw [hset2,hnx],by omega⟩
end Go.AM
