/- A truth by turns; whether what is left stands in it: of the law. -/
import Derived.Test.YtmjfcbpgnmajpaaGreatDoorUD0
import Derived.Test.YtmjfcbpgnmajpaaGreatDoorP24
import Derived.Test.YtmjfcbpgnmajpaaGreatDoorUC2
namespace Go.AM
open Go.Proofs
set_option maxRecDepth 100000
set_option maxHeartbeats 1000000
def eW (lo hi n : Int) : Int := wr (lo + n.tmod (wr (wr (hi - lo) + 1)))
theorem kS (lo hi n : Int) (hz : wr (wr (hi - lo) + 1) ≠ 0) (σ : af) : Spec Tryz.prog H6 [.agg [ii' lo,ii' hi],ii' n] σ fun r σ' => r = .ret (ii' (eW lo hi n)) ∧ σ' = σ := by
  refine Spec.ay (RJ (by simp) (aa _ ?_)) rfl rfl σ
  simp [L2,eW]
  exact hz
abbrev u4' (n : Int) : ab := .int .u32 n
def gw (l : List Int) (n : Nat) : Int := if l.length = 0 then 0 else wr (l[n % l.length]?.getD 0)
theorem my (l : List Int) (hl : l.length ≤ maxLen) (n : Nat) (_hn : n ≤ maxLen) (σ : af) : Spec Tryz.prog HB [.slice 1 (l.map u4'), .int .i64 n] σ fun r σ' => r = .ret (ii' (gw l n)) ∧ σ' = σ := by
  refine Spec.ay (QS (by simp) (aa _ ?_)) (by simp [av (f := u4') (fun _ => rfl) l]) rfl σ
  refine (Classical.em (l.length = 0)).elim (fun h => ?_) (fun h => ?_)
  · have : l = [] := List.eq_nil_of_length_eq_zero h
    subst this
    simp [IF,gw]
  · have hne : l ≠ [] := fun e => h (by rw [e]; rfl)
    have hlt : n % l.length < l.length := Nat.mod_lt _ (by omega)
    have e : (n : Int).tmod (l.length : Int) = ((n % l.length : Nat) : Int) := by rw [Int.tmod_eq_emod_of_nonneg (by omega)]; simp
    have ht : gw l n = wr (l[n % l.length]'hlt) := by simp [gw,h,hlt]
    rw [ht]
    obtain ⟨k,hk⟩ : ∃ k,n % l.length = k := ⟨_,rfl⟩
    rw [hk] at e hlt
    obtain ⟨x,hx⟩ : ∃ x,l[k] = x := ⟨_,rfl⟩
    have hx' : l[n % l.length]'(by omega) = x := by rw [← hx]; congr 1
    rw [hx']
    simp [IF,h,e,hlt,hx]
def pC (h : aB) (l : List Int) : bh := { ws := h.ps.mapIdx fun k p => eW p.wLo p.wHi (gw l (2 * k)),ls := h.ps.mapIdx fun k p => eW p.lLo p.lHi (gw l (2 * k + 1)) }
theorem rf {l : List Int} (hl : ∀ x ∈ l,0 ≤ x ∧ x ≤ 4294967295) (n : Nat) : 0 ≤ gw l n ∧ gw l n ≤ 4294967295 := by
  unfold gw
  split
  · omega
  · rename_i h0
    have hlt : n % l.length < l.length := Nat.mod_lt _ (by omega)
    rw [List.getElem?_eq_getElem hlt]
    have := hl _ (List.getElem_mem hlt)
    simp only [Option.getD_some]
    rw [show wr (l[n % l.length]'hlt) = l[n % l.length]'hlt from an (by omega) (by omega)]
    exact this
theorem oq {lo hi n : Int} (h0 : 0 ≤ lo) (h1 : lo ≤ hi) (h2 : hi ≤ 3000000) (hn : 0 ≤ n) (_hn2 : n ≤ 4294967295) : wr (wr (hi - lo) + 1) ≠ 0 ∧ lo ≤ eW lo hi n ∧ eW lo hi n ≤ hi ∧ eW lo hi n = lo + n % (hi - lo + 1) := by
  have w1 : wr (hi - lo) = hi - lo := an (by omega) (by omega)
  have w2 : wr (hi - lo + 1) = hi - lo + 1 := an (by omega) (by omega)
  unfold eW
  rw [w1,w2,Int.tmod_eq_emod_of_nonneg hn]
  have h3 : 0 ≤ n % (hi - lo + 1) := Int.emod_nonneg _ (by omega)
  have h4 : n % (hi - lo + 1) < hi - lo + 1 := Int.emod_lt_of_pos _ (by omega)
  have w3 : wr (lo + n % (hi - lo + 1)) = lo + n % (hi - lo + 1) := an (by omega) (by omega)
  rw [w3]
  omega
theorem Bo {h : aB} (hf : nf h) {l : List Int} (hl : ∀ x ∈ l,0 ≤ x ∧ x ≤ 4294967295) : mK h (pC h l) where
  lw := by simp [pC]
  ll := by simp [pC]
  w := fun i hi => by
    have hp := hf.part _ (List.getElem_mem hi)
    have ht := rf hl (2 * i)
    have := oq hp.w.1 hp.w.2.1 hp.w.2.2 ht.1 ht.2
    simp only [pC,List.getElem_mapIdx]
    exact ⟨this.2.1,this.2.2.1⟩
  l := fun i hi => by
    have hp := hf.part _ (List.getElem_mem hi)
    have ht := rf hl (2 * i + 1)
    have := oq hp.l.1 hp.l.2.1 (by have := hp.l; omega) ht.1 ht.2
    simp only [pC,List.getElem_mapIdx]
    exact ⟨this.2.1,this.2.2.1⟩
theorem rE (h : aB) (hf : nf h) (l : List Int) (hll : l.length ≤ maxLen) (hl : ∀ x ∈ l,0 ≤ x ∧ x ≤ 4294967295) (σ : af) :
    Spec Tryz.prog IE [h.v, .slice 1 (l.map u4')] σ fun r σ' => r = .ret (pC h l).v ∧ σ' = σ := by
  refine Spec.ay (PE (by simp) (aa _ ?_)) (by simp [h.pure,av (f := u4') (fun _ => rfl) l]) (bh.pure _) σ
  simp [Lp,aB.v,aB.cells]
  obtain ⟨W,hW⟩ : ∃ W : List Int,W = (pC h l).ws := ⟨_,rfl⟩
  obtain ⟨L,hL⟩ : ∃ L : List Int,L = (pC h l).ls := ⟨_,rfl⟩
  have hWl : W.length = h.ps.length := by rw [hW]; simp [pC]
  have hLl : L.length = h.ps.length := by rw [hL]; simp [pC]
  have hl10 := hf.len.2
  have hlu : aM (l.map u4') = true := av (f := u4') (fun _ => rfl) l
  refine AW.loop (ι := Nat) (fun i fr σ => ∃ tl,fr = { v := [(1, .slice 1 (l.map u4')),(2, .pval (.agg [.slice 7 (h.ps.map aq.v),ii' h.aft,ii' h.fore])),(4, .ptr 0 0),(5, .ptr 3 0),(6, .int .i64 i)],ds := [] } ∧
      σ = .box [.slice 1 [], .slice 1 []] :: .spare 1 i :: .spare 1 i :: .box [.oslice 1 ((W.take i).map ii') 1 i, .oslice 1 ((L.take i).map ii') 2 i] :: tl ∧ i ≤ h.ps.length) (fun i => h.ps.length - i) 0 ⟨_,by simp,rfl,by omega⟩ ?_
  rintro i fr σ ⟨tl,rfl,rfl,hi⟩
  refine (Nat.lt_or_ge i h.ps.length).elim (fun hlt => ?_) (fun hge => ?_)
  · obtain ⟨x,hx⟩ : ∃ x,h.ps[i] = x := ⟨_,rfl⟩
    have hxf : ym x := hx ▸ hf.part _ (List.getElem_mem hlt)
    have ht0 := rf hl (2 * i)
    have ht1 := rf hl (2 * i + 1)
    have ha0 := oq hxf.w.1 hxf.w.2.1 hxf.w.2.2 ht0.1 ht0.2
    have ha1 := oq hxf.l.1 hxf.l.2.1 (by have := hxf.l; omega) ht1.1 ht1.2
    have hWi : W[i]? = some (eW x.wLo x.wHi (gw l (2 * i))) := by rw [hW]; simp [pC,hlt,hx]
    have hLi : L[i]? = some (eW x.lLo x.lHi (gw l (2 * i + 1))) := by rw [hL]; simp [pC,hlt,hx]
    have hW1 : (W.take i).map ii' ++ [ii' (eW x.wLo x.wHi (gw l (2 * i)))] = (W.take (i + 1)).map ii' := by rw [List.take_add_one,hWi]; simp
    have hL1 : (L.take i).map ii' ++ [ii' (eW x.lLo x.lHi (gw l (2 * i + 1)))] = (L.take (i + 1)).map ii' := by rw [List.take_add_one,hLi]; simp
    have hmin1 : min i W.length = i := by omega
    have hmin2 : min i L.length = i := by omega
    have hfit : ∀ n : Int,Fits 1 [ii' n] := fun n v hv => by simp at hv; subst hv; exact ⟨⟨rfl,rfl⟩,rfl⟩
    have hw : IntKind.i64.wrap ((i : Int) + 1) = (i : Int) + 1 := an (by omega) (by omega)
    have hw2 : IntKind.i64.wrap (2 * (i : Int)) = ((2 * i : Nat) : Int) := by rw [an (by omega) (by omega)]; simp
    have hw3 : IntKind.i64.wrap (2 * (i : Int) + 1) = ((2 * i + 1 : Nat) : Int) := by rw [an (by omega) (by omega)]; simp
    have e2i : 2 * (i : Int) = ((2 * i : Nat) : Int) := by simp
    refine aa _ ?_
    simp [hlt,hx,hlu,hw2,aq.v,aq.cells]
    refine ⟨.int .i64 (gw l (2 * i)),fun σ' _ => by rw [e2i]; exact aC.func Ly (my l hll (2 * i) (by simp only [maxLen]; omega) σ'), .int .i64 (eW x.wLo x.wHi (gw l (2 * i))), ?_⟩
    simp [hmin1,hfit]
    refine ⟨fun σ' => aC.func MC (kS _ _ _ ha0.1 σ'),by omega, .int .i64 (gw l (2 * i + 1)),fun σ' _ => by rw [hw3]; exact aC.func Ly (my l hll (2 * i + 1) (by simp only [maxLen]; omega) σ'), .int .i64 (eW x.lLo x.lHi (gw l (2 * i + 1))), ?_⟩
    simp [hmin2,hfit,hw]
    rw [List.map_take,List.map_take] at hW1 hL1
    refine ⟨fun σ' => aC.func MC (kS _ _ _ ha1.1 σ'),by omega,i + 1,by omega,by simp,⟨rfl,⟨hW1,rfl⟩,hL1,rfl⟩,by omega⟩
  · have hnl : ¬ i < h.ps.length := by omega
    refine aa _ ?_
    simp [hnl]
    rw [List.take_of_length_le (by simp; omega),List.take_of_length_le (by simp; omega),hW,hL]
    rfl
end Go.AM
