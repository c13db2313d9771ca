/- CutTrue: what the law's call returns. -/
import Derived.Test.YtmjfcbpgnmajpaaGreatDoorUD2
import Derived.Test.YtmjfcbpgnmajpaaGreatDoorUG0
namespace Go.AM
open Go.Proofs
set_option maxRecDepth 100000
set_option maxHeartbeats 1000000
theorem wN {t : ah} (hf : t.Fit) {l : List Nat} {s : Nat} (hg : goT t l (aP t) = some s) {i : Nat} (hi : i < l.length) : ∃ s1,goT t (l.take (i + 1)) (aP t) = some s1 ∧ l[i] < t.ar.length ∧ (l.take i).contains l[i] = false ∧ eD t s1 = false ∧ Sub t s1 := by
  obtain ⟨s0,h1,h2,h3⟩ := DV hg hi
  have hc : l[i] ∈ bq t s0 := bg.2 ⟨h2,h3⟩
  have h4 := rj h1 hc
  have e : l.take (i + 1) = l.take i ++ [l[i]] := by rw [List.take_add_one,List.getElem?_eq_getElem hi]; rfl
  rw [← e] at h4
  refine ⟨_,h4,h2,jX hf h1 hc, ?_,lN h4 (Sub.all t)⟩
  unfold bD at h3
  split at h3
  · cases h3
  · split at h3
    · cases h3
    · split at h3
      · cases h3
      · split at h3
        · cases h3
        · rename_i hh; simpa using hh
theorem wm (t : ah) (hok : t.Ok) (a b w : ab) (x : List Int) (hxl : x.length ≤ maxLen) (hx : ∀ n ∈ x,0 ≤ n ∧ n ≤ 4294967295) (n : Int) (hw : w = hh' n) (hn : 0 ≤ n ∧ n ≤ 65535) (m1 m2 : Int) (ha : a = hh' m1) (hb : b = hh' m2) (haw : ∀ σ,Spec Tryz.prog vI [] σ fun r σ' => r = .ret (.bool true) ∧ σ' = σ) :
    Spec Tryz.prog F_7 [t.v, .agg [a,b,w, .slice 1 (x.map u4')]] [] fun r _ => r = .ret (.bool true) := by
  subst hw ha hb
  have h1 := fun σ => fj t hok σ
  simp only [gX] at h1
  have h2 := fun σ => dA t hok σ
  by_cases h : (aN t).2.2 = 0
  rotate_left
  · have hm : fl t = [] := by unfold fl; rw [if_neg (fun e => h e.1)]
    have he : eK t = (aN t).2.2 := by unfold eK; rw [if_pos h]
    rw [hm,he] at h1
    refine S_7 (by simp) (aa _ ?_)
    simp [C_7,ah.v,ah.cells]
    refine aj.pure zi (h1 _) ?_
    simp
    refine aj.aD ra (h2 _) (congrArg ab.bool (decide_eq_false h)) ?_
    simp [h]
    exact aj.pure ka (haw _) (by simp [h])
  have hf := bm h
  have h7 := hf.ship7
  by_cases hlt : (cK t (aP t)).length < t.ar.length
  · have he : eK t = 9 := by unfold eK; rw [if_neg (by simp [h]),if_pos hlt]
    have hm : fl t = [] := by unfold fl; rw [if_neg (fun e => by omega)]
    rw [hm,he] at h1
    refine S_7 (by simp) (aa _ ?_)
    simp [C_7,ah.v,ah.cells]
    refine aj.pure zi (h1 _) ?_
    simp
    refine aj.aD ra (h2 _) (congrArg ab.bool (decide_eq_true h)) ?_
    simp
    exact aj.pure ka (haw _) (by simp)
  have he : eK t = 0 := by unfold eK; rw [if_neg (by simp [h]),if_neg hlt]
  have hm : fl t = cK t (aP t) := by unfold fl; rw [if_pos ⟨h,by omega⟩]
  obtain ⟨s,hg⟩ := AX hf
  obtain ⟨l,hl⟩ : ∃ l,cK t (aP t) = l := ⟨_,rfl⟩
  rw [hm,he,hl] at h1
  rw [hl] at hg hlt
  have hl7 := dh hf hg
  have hll : l.length = t.ar.length := by
    have h3 := (iQ hf (bU hf) hg).2
    have h4 : pop (aP t) = t.ar.length := Ac _ hf.ship7
    omega
  have hfi := rn hf.err
  have htr := Bo hfi (l := x) hx
  have hT := fun σ => rE t.hull hfi x hxl hx σ
  obtain ⟨tr,htrd⟩ : ∃ tr,pC t.hull x = tr := ⟨_,rfl⟩
  rw [htrd] at htr hT
  have hsp := dU (u9 hf)
  obtain ⟨n,rfl⟩ : ∃ k : Nat,n = (k : Int) := ⟨n.toNat,by omega⟩
  have en : IntKind.i64.wrap (n : Int) = (n : Int) := an (by omega) (by omega)
  obtain ⟨T,hTe⟩ : ∃ T : Nat,t.hi - t.lo = (T : Int) := ⟨(t.hi - t.lo).toNat,by omega⟩
  have hal := Nat.mod_lt n (show 0 < T + 1 by omega)
  obtain ⟨W,hW⟩ : ∃ W : Int,t.lo + ((n % (T + 1) : Nat) : Int) = W := ⟨_,rfl⟩
  have p1 : IntKind.i64.wrap (t.hi - t.lo) = (T : Int) := by rw [hTe]; exact an (by omega) (by omega)
  have p2 : IntKind.i64.wrap ((T : Int) + 1) = (T : Int) + 1 := an (by omega) (by omega)
  obtain ⟨p3,p4,p5,p6⟩ := lA n (m := T + 1) (by omega)
  have p7 : IntKind.i64.wrap ((n % (T + 1) : Nat) : Int) = ((n % (T + 1) : Nat) : Int) := an (by omega) (by omega)
  have p8 : IntKind.i64.wrap W = W := an (by omega) (by omega)
  have hcT : ¬ (T : Int) + 1 = 0 := by omega
  have hW' : t.lo + (n : Int) % ((T : Int) + 1) = W := by rw [← hW]; simp
  simp only [Int.natCast_add,Int.natCast_one] at p6
  simp only [bh.v] at hT
  refine S_7 (by simp) (aa _ ?_)
  simp [C_7,ah.v,ah.cells]
  refine aj.pure zi (h1 _) ?_
  simp
  refine aj.aD ra (h2 _) (congrArg ab.bool (decide_eq_true h)) ?_
  simp [hll]
  refine ⟨_,fun σ' => aC.func QR (hT σ'), ?_⟩
  simp [en,p1,p2,hcT,p6,p7,hW',p8]
  refine AW.loop (ι := Nat) (fun i fr σ => fr = { v := [(2, .pval (.agg [.slice 7 (t.ar.map HuM.v), .slice 7 (t.hull.ps.map aq.v),ii' t.hull.aft,ii' t.hull.fore,ii' t.lo,ii' t.hi, .slice 2 (t.net.tanks.map aE.v), .slice 3 (t.net.pipes.map aG.v), .slice 1 (t.blanks.map ii'), .slice 2 (t.steps.map a7.v), .slice 1 (t.tanks.map cj)])),(5, .slice 1 (l.map nn')),(7, .ptr 0 0),(8,ii' W),(9,nn' i)],ds := [] } ∧ σ = [.box [.slice 1 (tr.ws.map ii'), .slice 1 (tr.ls.map ii')]] ∧ i ≤ l.length) (fun i => l.length - i) 0 ⟨by simp [en,p1,p2,hcT,p6,p7,hW',p8],by simp,by omega⟩ ?_
  rintro i fr σ ⟨rfl,rfl,hi⟩
  refine (Nat.lt_or_ge i l.length).elim (fun hil => ?_) (fun hig => ?_)
  rotate_left
  · have hnl : ¬ i < l.length := by omega
    refine aa _ ?_
    simp [hnl]
    exact aj.pure ka (haw _) (by simp)
  obtain ⟨s1,k1,k2,k3,k4,k5⟩ := wN hf hg hil
  obtain ⟨c,hc⟩ : ∃ c,l[i] = c := ⟨_,rfl⟩
  rw [hc] at k2 k3
  have hres : eT t.hull.ps s1 0 = [] ∨ kB (dD (bL t s1) (fe tr s1) W).1 (dD (bL t s1) (fe tr s1) W).2.1 (dD (bL t s1) (fe tr s1) W).2.2 = 0 := by
    by_cases h0 : s1 = 0
    · left
      subst h0
      have : ∀ (l : List aq) (i : Nat),eT l 0 i = [] := fun l => by
        induction l with
        | nil => intro i; rfl
        | cons p r ih => intro i; simp only [eT,Nat.zero_testBit]; exact ih (i + 1)
      exact this _ _
    · exact .inr (wT hf k5 k4 h0 htr (by omega) (by omega))
  have hst := fun σ => q9 t hok hf (l.take (i + 1)) k1 tr htr.lw htr.ll W hres σ
  have hhas := fun σ => nd (l.take i) (by rw [List.length_take]; simp only [maxLen]; omega) c σ
  rw [k3,List.map_take] at hhas
  rw [List.map_take] at hst
  simp only [bh.v] at hst
  have hw1 : IntKind.i64.wrap ((i : Int) + 1) = ((i + 1 : Nat) : Int) := by rw [an (by omega) (by omega)]; simp
  have hc1 : ¬ (l.length : Int) ≤ (c : Int) := by omega
  have hc2 : ¬ l.length ≤ c := by omega
  have hc3 : ¬ (c : Int) < 0 := by omega
  have hc4 : i + 1 ≤ l.length := by omega
  refine aa _ ?_
  simp [hil,hc,hc1,hc2,hc3,hc4,hw1,hi]
  refine ⟨.bool false,fun σ' _ => aC.func jc (hhas σ'), ?_⟩
  simp [hil,hc,hc1,hc2,hc3,hc4,hw1,hi]
  refine ⟨⟨by omega,by omega⟩, .bool true,fun σ' _ => aC.func Q9 (hst σ'), ?_⟩
  simp [hw1]
  exact ⟨i + 1,by omega,by simp,by omega⟩
end Go.AM
