/- Whether what is left stands in a truth: the law's own function. -/
import Derived.Test.YtmjfcbpgnmajpaaGreatDoorUD1
import Derived.Test.YtmjfcbpgnmajpaaGreatDoorUC4
namespace Go.AM
open Go.Proofs
set_option maxRecDepth 100000
set_option maxHeartbeats 1000000
theorem q9 (t : ah) (hok : t.Ok) (hf : t.Fit) (order : List Nat) {s : Nat} (hg : goT t order (aP t) = some s) (tr : bh) (h1 : tr.ws.length = t.hull.ps.length) (h2 : tr.ls.length = t.hull.ps.length) (w : Int)
    (hres : eT t.hull.ps s 0 = [] ∨ kB (dD (bL t s) (fe tr s) w).1 (dD (bL t s) (fe tr s) w).2.1 (dD (bL t s) (fe tr s) w).2.2 = 0) (σ : af) :
    Spec Tryz.prog Hs [t.v, .slice 1 (order.map nn'),tr.v,ii' w] σ fun r σ' => r = .ret (.bool true) ∧ σ' = σ := by
  refine Spec.ay (SK (by simp) (aa _ ?_)) (by simp [aM,t.pure,tr.pure,ab.pure,av (f := nn') (fun _ => rfl)]) rfl σ
  simp [LF,ah.v,ah.cells,bh.v]
  have h7 := hf.ship7
  have hlen := hf.hull
  have hg7 := dh hf hg
  refine AW.loop (ι := Nat) (fun i fr σ => ∃ k1 k2 k3,fr = { v := [(1, .slice 1 (order.map nn')),(3,ii' w),(4, .pval (.agg [.slice 7 (t.ar.map HuM.v), .slice 7 (t.hull.ps.map aq.v),ii' t.hull.aft,ii' t.hull.fore,ii' t.lo,ii' t.hi, .slice 2 (t.net.tanks.map aE.v), .slice 3 (t.net.pipes.map aG.v), .slice 1 (t.blanks.map ii'), .slice 2 (t.steps.map a7.v), .slice 1 (t.tanks.map cj)])),(6, .pval (.agg [.slice 1 (tr.ws.map ii'), .slice 1 (tr.ls.map ii')])),(9, .ptr 2 0),(10, .ptr 3 0),(11,nn' i)],ds := [] } ∧
    σ = [.spare 1 k1, .spare 1 k2, .box [.oslice 7 ((de (t.hull.ps.take i) s 0).map aq.v) 4 k3,ii' t.hull.aft,ii' t.hull.fore], .box [.oslice 1 ((de (tr.ws.take i) s 0).map ii') 0 k1, .oslice 1 ((de (tr.ls.take i) s 0).map ii') 1 k2], .spare 7 k3] ∧ i ≤ t.hull.ps.length) (fun i => t.hull.ps.length - i) 0 ⟨0,0,0,by simp,by simp [de],by omega⟩ ?_
  rintro i fr σ ⟨k1,k2,k3,rfl,rfl,hi⟩
  refine (Nat.lt_or_ge i t.hull.ps.length).elim (fun hlt => ?_) (fun hge => ?_)
  · have hil : i < t.ar.length := by omega
    have hw1 : IntKind.i64.wrap ((i : Int) + 1) = ((i + 1 : Nat) : Int) := by rw [an (by omega) (by omega)]; simp
    have hlw : i < tr.ws.length := by omega
    have hll : i < tr.ls.length := by omega
    have t1 := pB (l := t.hull.ps) (s := s) hlt
    have t2 := pB (l := tr.ws) (s := s) hlw
    have t3 := pB (l := tr.ls) (s := s) hll
    obtain ⟨p,hp⟩ : ∃ p,t.hull.ps[i] = p := ⟨_,rfl⟩
    obtain ⟨a,ha⟩ : ∃ a,tr.ws[i] = a := ⟨_,rfl⟩
    obtain ⟨c,hc⟩ : ∃ c,tr.ls[i] = c := ⟨_,rfl⟩
    rw [hp] at t1
    rw [ha] at t2
    rw [hc] at t3
    have hb := ru hf hg hil
    have hhas := fun σ => nd order (by simp only [maxLen]; omega) i σ
    have hl1 : (de (t.hull.ps.take i) s 0).length ≤ 7 := Nat.le_trans kO (by rw [List.length_take]; omega)
    have hl2 : (de (tr.ws.take i) s 0).length ≤ 7 := Nat.le_trans kO (by rw [List.length_take]; omega)
    have hl3 : (de (tr.ls.take i) s 0).length ≤ 7 := Nat.le_trans kO (by rw [List.length_take]; omega)
    refine (tf (order.contains i)).elim (fun hh => ?_) (fun hh => ?_)
    · rw [hh] at hb
      have hb : s.testBit i = true := hb
      rw [if_pos hb] at t1 t2 t3
      refine aa _ ?_
      simp [hlt]
      refine aj.aD jc (hhas _) (congrArg ab.bool hh) ?_
      simp [hlt,hp,hlw,ha,hll,hc,hw1,aq.v,aq.cells]
      exact ⟨by intro v hv; simp at hv; subst hv; exact ⟨rfl,rfl⟩,by omega,by intro v hv; simp at hv; subst hv; exact ⟨⟨rfl,rfl⟩,rfl⟩,by omega,by intro v hv; simp at hv; subst hv; exact ⟨⟨rfl,rfl⟩,rfl⟩,by omega,i + 1,by omega,by simp,⟨by rw [t1,List.map_append]; rfl,by rw [t2,List.map_append]; rfl,by rw [t3,List.map_append]; rfl⟩,by omega⟩
    · rw [hh] at hb
      have hb : s.testBit i = false := hb
      rw [hb,if_neg (by simp),List.append_nil] at t1 t2 t3
      refine aa _ ?_
      simp [hlt]
      refine aj.aD jc (hhas _) (congrArg ab.bool hh) ?_
      simp [hw1]
      exact ⟨i + 1,by omega,by simp,⟨by rw [t1],by rw [t2],by rw [t3]⟩,by omega⟩
  · obtain rfl : i = t.hull.ps.length := by omega
    have hnl : ¬ t.hull.ps.length < t.hull.ps.length := by omega
    have e1 : t.hull.ps.take t.hull.ps.length = t.hull.ps := List.take_of_length_le (Nat.le_refl _)
    have e2 : tr.ws.take t.hull.ps.length = tr.ws := List.take_of_length_le (by omega)
    have e3 : tr.ls.take t.hull.ps.length = tr.ls := List.take_of_length_le (by omega)
    have hwe := fun σ => dP (bL t s) (fe tr s) (by simp only [bL,gG]; exact Nat.le_trans kO hok.hull) (by simp only [bL,fe,gG]; exact fF h1) (by simp only [bL,fe,gG]; exact fF h2) w σ
    obtain ⟨W,hW⟩ : ∃ W,dD (bL t s) (fe tr s) w = W := ⟨_,rfl⟩
    rw [hW] at hres hwe
    have hre := fun σ => ky W.1 W.2.1 W.2.2 σ
    simp only [zl,aB.v,aB.cells,bL,fe,bh.v,gG] at hwe
    rw [gG] at hres
    refine (Classical.em (de t.hull.ps s 0 = [])).elim (fun h0 => ?_) (fun h0 => ?_)
    · refine aa _ ?_
      simp [e1,e2,e3,h0]
    · have hz : kB W.1 W.2.1 W.2.2 = 0 := hres.elim (fun e => absurd e h0) id
      rw [hz] at hre
      refine aa _ ?_
      simp [e1,e2,e3,h0]
      refine aj.pure EE (hwe _) ?_
      simp [h0]
      refine aj.pure JP (hre _) ?_
      simp [h0]
end Go.AM
