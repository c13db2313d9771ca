/- A few steps of an insertion sort. A part is parted by a number: what is not above it first. A part is parted by a number, which stands between then. The middle one of three places; a place to part .. -/
import Derived.Test.YtmjfcbpgnmajpaaGreatDoorP25
import Derived.Test.YtmjfcbpgnmajpaaGreatDoorP16
namespace Go.AM
open Go.Proofs
set_option maxRecDepth 100000
set_option maxHeartbeats 1000000
def Low (a c:Nat) (l:List Int):Prop:=∀ k,0 < a → a ≤ k → k < c → gd l (a - 1) ≤ gd l k
theorem Low.mix {a c:Nat} {l l':List Int} (h:Low a c l) (hm:Mix a c l l') (hc:c ≤ l.length):Low a c l':=fun k h0 h1 h2=>by
  rw [hm.out (a - 1) (by omega)]
  exact hm.all hc (P:=fun x=>gd l (a - 1) ≤ x) (fun q q1 q2=>h q h0 q1 q2) k h1 h2
theorem Srt.one {a c:Nat} {l:List Int} (h:c ≤ a + 1):Srt a c l:=fun i j h1 h2 h3=>by
  obtain rfl:i = j:=by omega
  exact Int.le_refl _
theorem Srt.push {a c:Nat} {l:List Int} (h:Srt a c l) (hac:a < c) (hl:gd l (c - 1) ≤ gd l c):Srt a (c + 1) l:=fun i j h1 h2 h3=>by
  by_cases hj:j = c
  · subst hj
    by_cases hi:i = j
    · subst hi; exact Int.le_refl _
    · exact Int.le_trans (h i (j - 1) h1 (by omega) (by omega)) hl
  · exact h i j h1 h2 (by omega)
def Tx (a c k:Nat) (l:List Int):Prop:=∀ i j,a ≤ i → i ≤ j → j < c → j ≠ k → gd l i ≤ gd l j
theorem Tx.done {a c k:Nat} {l:List Int} (h:Tx a c k l) (hk:k ≤ a ∨ gd l (k - 1) ≤ gd l k):Srt a c l:=fun i j h1 h2 h3=>by
  by_cases hj:j = k
  · subst hj
    by_cases hi:i = j
    · subst hi; exact Int.le_refl _
    · rcases hk with hk | hk
      · omega
      · by_cases hi2:i = j - 1
        · subst hi2; exact hk
        · exact Int.le_trans (h i (j - 1) h1 (by omega) (by omega) (by omega)) hk
  · exact h i j h1 h2 h3 hj
theorem Tx.step {a c k:Nat} {l:List Int} (h:Tx a c k l) (hk:a < k) (hkc:k < c) (hl:c ≤ l.length) (hlt:gd l k < gd l (k - 1)):Tx a c (k - 1) (sw l k (k - 1)):=fun i j h1 h2 h3 h4=>by
  rw [eb (by omega) (by omega),eb (by omega) (by omega)]
  by_cases e1:j = k
  · subst e1
    rw [if_neg h4,if_pos rfl]
    by_cases e2:i = j - 1
    · rw [if_pos e2]; omega
    · rw [if_neg e2]
      by_cases e3:i = j
      · rw [if_pos e3]; exact Int.le_refl _
      · rw [if_neg e3]
        exact h i (j - 1) h1 (by omega) (by omega) (by omega)
  · rw [if_neg h4,if_neg e1]
    by_cases e2:i = k - 1
    · rw [if_pos e2]
      exact h k j (by omega) (by omega) h3 e1
    · rw [if_neg e2]
      by_cases e3:i = k
      · rw [if_pos e3]
        exact h (k - 1) j (by omega) (by omega) h3 e1
      · rw [if_neg e3]
        exact h i j h1 h2 h3 e1
theorem Tu (b:Nat) (l:List Int) (hN:l.length ≤ 1000) (a c:Nat) (hac:a < c) (hc:c ≤ l.length) (hlow:Low a c l) (σ:af) (hb:b < σ.length) (hx:σ[b]? = some (cU l)) :
    Spec Tryz.prog Ue [.sref 1 b 0 l.length l.length,nn2 a,nn2 c] σ fun r σ'=>∃ q,r = .ret (.bool q) ∧ ∃ l',Mix a c l l' ∧ (q = true → Srt a c l') ∧ σ' = σ.set b (cU l'):=by
  refine Vf (by simp) (dm _ ?_)
  have w1:IntKind.i64.wrap ((a:Int) + 1) = ((a + 1:Nat):Int):=wE (by omega) (by omega)
  simp [UL,w1]
  refine AW.loop (ι:=Nat) (fun j fr σ1=>∃ i,fr = { v:=[(0, .sref 1 b 0 l.length l.length),(1,nn2 a),(2,nn2 c),(7,nn2 i),(8,nn2 j)],ds:=[] } ∧ a < i ∧ i ≤ c ∧ ∃ D:List Int,Mix a c l D ∧ Srt a i D ∧ σ1 = σ.set b (cU D)) (fun j=>5 - j) 0 ⟨a + 1,by simp,by omega,by omega,l, .refl _ _ _, .one (by omega),S0 hx⟩ ?_
  rintro j fr σ1 ⟨i,rfl,h1,h2,D,hm,hs,rfl⟩
  refine (Nat.lt_or_ge j 5).elim (fun hj=>?_) (fun hj=>?_)
  rotate_left
  · have hnl:¬ (j:Int) < 5:=by omega
    have hnl2:¬ j < 5:=by omega
    refine dm _ ?_
    simp [hnl]
    exact ⟨D,hm,rfl⟩
  have hjI:(j:Int) < 5:=by omega
  refine dm _ ?_
  simp [hjI]
  refine AW.loop (ι:=Nat) (fun i fr σ1=>fr = { v:=[(0, .sref 1 b 0 l.length l.length),(1,nn2 a),(2,nn2 c),(7,nn2 i),(8,nn2 j)],ds:=[] } ∧ a < i ∧ i ≤ c ∧ ∃ D:List Int,Mix a c l D ∧ Srt a i D ∧ σ1 = σ.set b (cU D)) (fun i=>c - i) i ⟨by simp,h1,h2,D,hm,hs,rfl⟩ ?_
  clear hm hs h1 h2
  rintro i fr σ1 ⟨rfl,h1,h2,D,hm,hs,rfl⟩
  have hl:=hm.len
  have w2:IntKind.i64.wrap ((c:Int) - a) = ((c - a:Nat):Int):=wE (by omega) (by omega)
  refine (Classical.em (i = c)).elim (fun hic=>?_) (fun hic=>?_)
  · subst hic
    refine dm _ ?_
    simp
    refine ⟨.bool false, ?_⟩
    simp
    exact ⟨D,hm,hs,rfl⟩
  obtain ⟨i1,hi1⟩:∃ i1,i - 1 = i1:=⟨_,rfl⟩
  have hiI:i < c:=by omega
  have w3:IntKind.i64.wrap ((i:Int) - 1) = i1:=wE (by omega) (by omega)
  have w4:IntKind.i64.wrap ((i:Int) + 1) = ((i + 1:Nat):Int):=wE (by omega) (by omega)
  have w5:IntKind.i64.wrap ((i:Int) - a) = ((i - a:Nat):Int):=wE (by omega) (by omega)
  have hil:i < D.length:=by omega
  have hin:i < l.length:=by omega
  have hjl:i1 < D.length:=by omega
  have hjn:i1 < l.length:=by omega
  obtain ⟨x,hxv⟩:∃ x,D[i] = x:=⟨_,rfl⟩
  obtain ⟨y,hyv⟩:∃ y,D[i1] = y:=⟨_,rfl⟩
  have hx2:gd D i = x:=by rw [← hxv,ea]
  have hy2:gd D i1 = y:=by rw [← hyv,ea]
  have hne:¬ i = i1:=by omega
  refine (Classical.em (x < y)).elim (fun hxy=>?_) (fun hxy=>?_)
  rotate_left
  · refine dm _ ?_
    simp [w3,hb,cU,hl,hin,hjn,hxv,hyv,hiI]
    refine ⟨.bool (decide (x < y)),fun σ'=>aC.func LI (n7 x y σ'), ?_⟩
    simp [hxy,w4]
    exact ⟨i + 1,by omega,by simp,by omega,by omega,D,hm,hs.push h1 (by rw [hi1,hx2,hy2]; omega),rfl⟩
  refine dm _ ?_
  simp [w3,hb,cU,hl,hin,hjn,hxv,hyv,hiI]
  refine ⟨.bool (decide (x < y)),fun σ'=>aC.func LI (n7 x y σ'), ?_⟩
  simp [hxy,w2,w5,hyv,hne]
  obtain ⟨E,hE⟩:∃ E,sw D i i1 = E:=⟨_,rfl⟩
  have hEv:((List.map ii' D).set i (ii' y)).set i1 (ii' x) = E.map ii':=by rw [← hE,sw,hx2,hy2,List.map_set,List.map_set]
  have hEm:Mix a c l E:=by rw [← hE]; exact hm.trans (.sw (by omega) (by omega) (by omega))
  have hEB:Tx a i i1 E:=fun p q e1 e2 e3 e4=>by
    rw [← hE,eb (by omega) (by omega),eb (by omega) (by omega),if_neg e4,if_neg (show ¬ q = i by omega),if_neg (show ¬ p = i1 by omega),if_neg (show ¬ p = i by omega)]
    exact hs p q e1 e2 e3
  have w6:IntKind.i64.wrap ((j:Int) + 1) = ((j + 1:Nat):Int):=wE (by omega) (by omega)
  have w7:IntKind.i64.wrap ((c:Int) - i) = ((c - i:Nat):Int):=wE (by omega) (by omega)
  have hcI:¬ (i:Int) = c:=by omega
  rw [hEv]
  refine ⟨fun e=>absurd e hcI,fun _=>⟨fun _=>⟨D,hm,rfl⟩,fun _=>⟨fun hge=>?ga,fun hlt=>?gb⟩⟩⟩
  case' gb=>
    have hEs:Srt a i E:=hEB.done (.inl (by omega))
  case' ga=>
    clear hEv hE
    refine AW.loop (ι:=Nat) (fun k fr σ1=>fr = { v:=[(0, .sref 1 b 0 l.length l.length),(1,nn2 a),(2,nn2 c),(7,nn2 i),(8,nn2 j),(9,nn2 k)],ds:=[] } ∧ a ≤ k ∧ k ≤ i1 ∧ ∃ E:List Int,Mix a c l E ∧ Tx a i k E ∧ σ1 = σ.set b (cU E)) (fun k=>k) i1 ⟨by simp,by omega,by omega,E,hEm,hEB,rfl⟩ ?_
    clear hEm hEB
    rintro k fr σ1 ⟨rfl,k1,k2,E,hEm,hEB,rfl⟩
    have hEl:=hEm.len
    refine (Classical.em (k = 0)).elim (fun hk0=>?gc) (fun hk0=>?gd)
  case' gc=>
    subst hk0
    have hEs:Srt a i E:=hEB.done (.inl (by omega))
    refine dm _ ?_
    simp
  case' gd=>
    obtain ⟨k1',hk1'⟩:∃ k1',k - 1 = k1':=⟨_,rfl⟩
    have v1:IntKind.i64.wrap ((k:Int) - 1) = k1':=wE (by omega) (by omega)
    have hkl:k < E.length:=by omega
    have hkn:k < l.length:=by omega
    have hql:k1' < E.length:=by omega
    have hqn:k1' < l.length:=by omega
    have hk1I:(1:Int) ≤ k:=by omega
    have hk1N:1 ≤ k:=by omega
    obtain ⟨u,huv⟩:∃ u,E[k] = u:=⟨_,rfl⟩
    obtain ⟨v,hvv⟩:∃ v,E[k1'] = v:=⟨_,rfl⟩
    have hu2:gd E k = u:=by rw [← huv,ea]
    have hv2:gd E k1' = v:=by rw [← hvv,ea]
    have hnk:¬ k = k1':=by omega
    refine (Classical.em (u < v)).elim (fun huw=>?ge) (fun huw=>?gf)
  case ge=>
    have hak:a < k:=by
      rcases Nat.lt_or_ge a k with h | h
      · exact h
      · exfalso
        obtain rfl:k = a:=by omega
        have:=(hlow.mix hEm hc) k (by omega) (by omega) (by omega)
        rw [hk1',hu2,hv2] at this
        omega
    refine dm _ ?_
    simp [v1,hb,cU,hEl,hkn,hqn,huv,hvv,hk1I]
    refine ⟨.bool (decide (u < v)),fun σ'=>aC.func LI (n7 u v σ'), ?_⟩
    simp [huw,hvv,hnk]
    exact ⟨k1',by omega,rfl,by omega,by omega,sw E k k1',hEm.trans (.sw (by omega) (by omega) (by omega)),by have:=hEB.step hak (by omega) (by omega) (by rw [hk1',hu2,hv2]; exact huw); rwa [hk1'] at this,by rw [sw,hu2,hv2,List.map_set,List.map_set]⟩
  case' gf=>
    have hEs:Srt a i E:=hEB.done (.inr (by rw [hk1',hu2,hv2]; omega))
    refine dm _ ?_
    simp [v1,hb,cU,hEl,hkn,hqn,huv,hvv,hk1I]
    refine ⟨.bool (decide (u < v)),fun σ'=>aC.func LI (n7 u v σ'), ?_⟩
    simp [huw]
  all_goals
    refine ⟨fun _=>?_,fun _=>⟨j + 1,by omega,i,⟨rfl,w6⟩,h1,h2,E,hEm,hEs,rfl⟩⟩
    refine AW.loop (ι:=Nat) (fun k fr σ1=>fr = { v:=[(0, .sref 1 b 0 l.length l.length),(1,nn2 a),(2,nn2 c),(7,nn2 i),(8,nn2 j),(10,nn2 k)],ds:=[] } ∧ i < k ∧ k ≤ c ∧ ∃ E:List Int,Mix a c l E ∧ Srt a i E ∧ σ1 = σ.set b (cU E)) (fun k=>c - k) (i + 1) ⟨by simp [w4],by omega,by omega,E,hEm,hEs,rfl⟩ ?_
    clear hEm hEs
    rintro k fr σ1 ⟨rfl,k1,k2,E,hEm,hEs,rfl⟩
    have hEl:=hEm.len
    refine (Nat.lt_or_ge k c).elim (fun hkc=>?_) (fun hkc=>?_)
    rotate_left
    · have hnk:¬ k < c:=by omega
      refine dm _ ?_
      simp [hnk,w6]
      exact ⟨j + 1,by omega,i,⟨rfl,by simp⟩,h1,h2,E,hEm,hEs,rfl⟩
    obtain ⟨k1',hk1'⟩:∃ k1',k - 1 = k1':=⟨_,rfl⟩
    have v1:IntKind.i64.wrap ((k:Int) - 1) = k1':=wE (by omega) (by omega)
    have v2:IntKind.i64.wrap ((k:Int) + 1) = ((k + 1:Nat):Int):=wE (by omega) (by omega)
    have hkl:k < E.length:=by omega
    have hkn:k < l.length:=by omega
    have hql:k1' < E.length:=by omega
    have hqn:k1' < l.length:=by omega
    obtain ⟨u,huv⟩:∃ u,E[k] = u:=⟨_,rfl⟩
    obtain ⟨v,hvv⟩:∃ v,E[k1'] = v:=⟨_,rfl⟩
    have hu2:gd E k = u:=by rw [← huv,ea]
    have hv2:gd E k1' = v:=by rw [← hvv,ea]
    have hnk:¬ k = k1':=by omega
    have hsw:Srt a i (sw E k k1'):=fun p q e1 e2 e3=>by
      rw [eb hkl hql,eb hkl hql,if_neg (show ¬ p = k1' by omega),if_neg (show ¬ p = k by omega),if_neg (show ¬ q = k1' by omega),if_neg (show ¬ q = k by omega)]
      exact hEs p q e1 e2 e3
    refine (Classical.em (u < v)).elim (fun huw=>?_) (fun huw=>?_)
    · refine dm _ ?_
      simp [v1,hb,cU,hEl,hkn,hqn,huv,hvv,hkc]
      refine ⟨.bool (decide (u < v)),fun σ'=>aC.func LI (n7 u v σ'), ?_⟩
      simp [huw,v2,hvv,hnk]
      exact ⟨k + 1,by omega,by simp,by omega,by omega,sw E k k1',hEm.trans (.sw (by omega) (by omega) (by omega)),hsw,by rw [sw,hu2,hv2,List.map_set,List.map_set]⟩
    · refine dm _ ?_
      simp [v1,hb,cU,hEl,hkn,hqn,huv,hvv,hkc]
      refine ⟨.bool (decide (u < v)),fun σ'=>aC.func LI (n7 u v σ'), ?_⟩
      simp [huw,w6]
      exact ⟨j + 1,by omega,i,⟨rfl,by simp⟩,h1,h2,E,hEm,hEs,rfl⟩
set_option maxRecDepth 100000
set_option maxHeartbeats 1000000
structure Pt (L:Int → Bool) (a c i J:Nat) (D:List Int):Prop where
  lo:a < i
  le:i ≤ J
  hi:J ≤ c
  left:∀ k,a < k → k < i → L (gd D k) = true
  right:∀ k,J ≤ k → k < c → L (gd D k) = false
theorem Pt.UT {L:Int → Bool} {a c i J:Nat} {D:List Int} (h:Pt L a c i J D) (hi:i < J) (hl:L (gd D i) = true):Pt L a c (i + 1) J D:=⟨by have:=h.lo; omega,hi,h.hi,fun k h1 h2=>by
  by_cases e:k = i
  · subst e; exact hl
  · exact h.left k h1 (by omega),h.right⟩
theorem Pt.UY {L:Int → Bool} {a c i J:Nat} {D:List Int} (h:Pt L a c i (J + 1) D) (hi:i ≤ J) (hr:L (gd D J) = false):Pt L a c i J D:=⟨h.lo,hi,by have:=h.hi; omega,h.left,fun k h1 h2=>by
  by_cases e:k = J
  · subst e; exact hr
  · exact h.right k (by omega) h2⟩
theorem Pt.swap {L:Int → Bool} {a c i J:Nat} {D:List Int} (h:Pt L a c i (J + 1) D) (hi:i < J) (hc:c ≤ D.length) (hl:L (gd D i) = false) (hr:L (gd D J) = true):Pt L a c (i + 1) J (sw D i J):=by
  have h1:=h.hi
  have h2:=h.lo
  refine ⟨by omega,hi,by omega,fun k e1 e2=>?_,fun k e1 e2=>?_⟩
  · rw [eb (by omega) (by omega),if_neg (by omega)]
    by_cases e:k = i
    · rw [if_pos e]; exact hr
    · rw [if_neg e]; exact h.left k e1 (by omega)
  · rw [eb (by omega) (by omega)]
    by_cases e:k = J
    · rw [if_pos e]; exact hl
    · rw [if_neg e,if_neg (by omega)]; exact h.right k (by omega) e2
theorem Mix.swA {a c i j:Nat} {l D:List Int} (hm:Mix a c l D) (hi:a ≤ i ∧ i < c) (hj:a ≤ j ∧ j < c) (hc:c ≤ l.length):Mix a c l (Go.AM.sw D i j):=hm.trans (.sw hi hj (by have:=hm.len; omega))
theorem Tv {D:List Int} {i j a:Nat} (hi:i < D.length) (hj:j < D.length) (h1:a ≠ i) (h2:a ≠ j):gd (sw D i j) a = gd D a:=by
  rw [eb hi hj,if_neg h2,if_neg h1]
def leP (p x:Int):Bool:=!decide (p < x)
theorem TT (b:Nat) (l:List Int) (hN:l.length ≤ 1000) (a c q:Nat) (haq:a ≤ q) (hqc:q < c) (hc:c ≤ l.length) (σ:af) (hb:b < σ.length) (hx:σ[b]? = some (cU l)) :
    Spec Tryz.prog Uk [.sref 1 b 0 l.length l.length,nn2 a,nn2 c,nn2 q] σ fun r σ'=>∃ m,r = .ret (nn2 m) ∧ a < m ∧ m ≤ c ∧ ∃ l',Mix a c l l' ∧ (∀ k,a ≤ k → k < m → gd l' k ≤ gd l q) ∧ (∀ k,m ≤ k → k < c → gd l q < gd l' k) ∧ σ' = σ.set b (cU l'):=by
  refine Vn (by simp) (dm _ ?_)
  obtain ⟨p,hpv⟩:∃ p,gd l q = p:=⟨_,rfl⟩
  rw [hpv]
  have hal:a < l.length:=by omega
  have hql:q < l.length:=by omega
  have hpq:l[q] = p:=by rw [ea,hpv]
  obtain ⟨x,hxv⟩:∃ x,l[a] = x:=⟨_,rfl⟩
  have hx2:gd l a = x:=by rw [← hxv,ea]
  obtain ⟨E,hE⟩:∃ E,sw l a q = E:=⟨_,rfl⟩
  have hEm:Mix a c l E:=by rw [← hE]; exact .sw (by omega) (by omega) hc
  have hEa:gd E a = p:=by
    rw [← hE,eb hal hql]
    by_cases e:a = q
    · rw [if_pos e,e,hpv]
    · rw [if_neg e,if_pos rfl,hpv]
  have hEv:((List.map ii' l).set a (ii' p)).set q (ii' x) = E.map ii':=by rw [← hE,sw,hpv,hx2,List.map_set,List.map_set]
  have hEv2:a = q → (List.map ii' l).set a (ii' p) = E.map ii':=fun e=>by
    have hxp:x = p:=by rw [← hx2, ← hpv,e]
    rw [← hEv, ← e,hxp,List.set_set]
  have w1:IntKind.i64.wrap ((a:Int) + 1) = ((a + 1:Nat):Int):=wE (by omega) (by omega)
  have w2:IntKind.i64.wrap ((c:Int) - 1) = (c:Int) - 1:=an (by omega) (by omega)
  obtain ⟨h1,h2⟩:=List.getElem?_eq_some_iff.1 hx
  refine (Classical.em (a = q)).elim (fun haq2=>?ga) (fun haq2=>?gb)
  case' ga=>
    have hst:=hEv2 haq2
    subst haq2
    have hxp:x = p:=by rw [← hx2, ← hpv]
    simp [Up,hb,h2,cU,hal,hxv,hxp]
  case' gb=>
    have hst:=hEv
    simp [Up,hb,h2,cU,hal,hql,hpq,hxv,haq2]
  all_goals
    refine AW.loop (ι:=Nat × Nat) (fun x fr σ1=>fr = { v:=[(0, .sref 1 b 0 l.length l.length),(1,nn2 a),(9,nn2 x.1),(10,ii' ((x.2:Int) - 1))],ds:=[] } ∧ ∃ D:List Int,Mix a c l D ∧ gd D a = p ∧ Pt (leP p) a c x.1 x.2 D ∧ σ1 = σ.set b (cU D)) (fun x=>x.2 - x.1) (a + 1,c) ⟨by simp [w1,w2],E,hEm,hEa,⟨by omega,by simp; omega,by simp,fun k h1 h2=>by simp at h2; omega,fun k h1 h2=>by simp at h1; omega⟩,by rw [hst]; rfl⟩ ?_
    clear hst hEv hEv2 hE hEa hEm hxv hx2 hx h1 h2 hpq hpv
    rintro ⟨i0,J0⟩ fr σ1 ⟨rfl,D,hm,hDa,hP,rfl⟩
    have hl:=hm.len
    have hlo:=hP.lo
    have hJc:=hP.hi
    have hle:=hP.le
    simp only at hlo hJc hle hP
    refine dm _ ?_
    simp
    refine AW.loop (ι:=Nat) (fun i fr σ1=>fr = { v:=[(0, .sref 1 b 0 l.length l.length),(1,nn2 a),(9,nn2 i),(10,ii' ((J0:Int) - 1))],ds:=[] } ∧ i0 ≤ i ∧ Pt (leP p) a c i J0 D ∧ σ1 = σ.set b (cU D)) (fun i=>J0 - i) i0 ⟨by simp,by omega,hP,rfl⟩ ?_
    clear hP
    rintro i fr σ1 ⟨rfl,hii,hP,rfl⟩
    have hle2:=hP.le
    have hlo2:=hP.lo
    have hal':a < D.length:=by omega
    have hDaG:D[a] = p:=by rw [ea,hDa]
    refine (Nat.lt_or_ge i J0).elim (fun hiJ=>?_) (fun hiJ=>?_)
  all_goals first
    | (have hiJ':i < J0:=hiJ
       have hil:i < D.length:=by omega
       have hin:i < l.length:=by omega
       obtain ⟨u,huv⟩:∃ u,D[i] = u:=⟨_,rfl⟩
       have hu2:gd D i = u:=by rw [← huv,ea]
       have hcI:(i:Int) ≤ (J0:Int) - 1:=by omega
       have wi:IntKind.i64.wrap ((i:Int) + 1) = ((i + 1:Nat):Int):=wE (by omega) (by omega)
       refine (Classical.em (p < u)).elim (fun hpu=>?_) (fun hpu=>?_)
       rotate_left
       · refine dm _ ?_
         simp [hcI,hb,cU,hl,hal,hin,huv,hDaG]
         refine ⟨.bool (decide (p < u)),fun σ'=>aC.func LI (n7 p u σ'), ?_⟩
         simp [hpu,wi]
         exact ⟨i + 1,by omega,by simp,by omega,hP.UT hiJ (by rw [hu2]; simp [leP,hpu])⟩
       have hstop:i < J0 → leP p (gd D i) = false:=fun _=>by rw [hu2]; simp [leP,hpu]
       refine dm _ ?_
       simp [hcI,hb,cU,hl,hal,hin,huv,hDaG]
       refine ⟨.bool (decide (p < u)),fun σ'=>aC.func LI (n7 p u σ'), ?_⟩
       simp [hpu])
    | (have hiJ':J0 ≤ i:=hiJ
       have hstop:i < J0 → leP p (gd D i) = false:=fun h=>by omega
       have hcI:¬ (i:Int) ≤ (J0:Int) - 1:=by omega
       refine dm _ ?_
       simp [hcI]
       refine ⟨.bool false, ?_⟩
       simp)
  all_goals
    refine AW.loop (ι:=Nat) (fun J fr σ1=>fr = { v:=[(0, .sref 1 b 0 l.length l.length),(1,nn2 a),(9,nn2 i),(10,ii' ((J:Int) - 1))],ds:=[] } ∧ J ≤ J0 ∧ Pt (leP p) a c i J D ∧ (i < J → leP p (gd D i) = false) ∧ σ1 = σ.set b (cU D)) (fun J=>J) J0 ⟨by simp,by omega,hP,hstop,rfl⟩ ?_
    clear hP hstop
    rintro J fr σ1 ⟨rfl,hJJ,hP,hstop,rfl⟩
    have hle3:=hP.le
    refine (Nat.lt_or_ge i J).elim (fun hiK=>?_) (fun hiK=>?_)
    · obtain ⟨j,rfl⟩:∃ j,J = j + 1:=⟨J - 1,by omega⟩
      have hjl:j < D.length:=by omega
      have hjn:j < l.length:=by omega
      have hil:i < D.length:=by omega
      have hin:i < l.length:=by omega
      obtain ⟨w,hwv⟩:∃ w,D[j] = w:=⟨_,rfl⟩
      have hw2:gd D j = w:=by rw [← hwv,ea]
      obtain ⟨u,huv⟩:∃ u,D[i] = u:=⟨_,rfl⟩
      have hu2:gd D i = u:=by rw [← huv,ea]
      have hij:i ≤ j:=by omega
      have hst:=hstop (by omega)
      have wi:IntKind.i64.wrap ((i:Int) + 1) = ((i + 1:Nat):Int):=wE (by omega) (by omega)
      have wj:IntKind.i64.wrap ((j:Int) - 1) = (j:Int) - 1:=an (by omega) (by omega)
      refine (Classical.em (p < w)).elim (fun hpw=>?_) (fun hpw=>?_)
      · refine dm _ ?_
        simp [hij,hb,cU,hl,hal,hjn,hwv,hDaG]
        refine ⟨.bool (decide (p < w)),fun σ'=>aC.func LI (n7 p w σ'), ?_⟩
        simp [hpw,wj]
        exact ⟨j,by omega,rfl,by omega,hP.UY hij (by rw [hw2]; simp [leP,hpw]),fun _=>hst⟩
      · have hne:¬ i = j:=fun e=>by
          rw [e,hw2] at hst
          simp [leP,hpw] at hst
        have hnl:¬ j < i:=by omega
        refine dm _ ?_
        simp [hij,hb,cU,hl,hal,hjn,hwv,hDaG]
        refine ⟨.bool (decide (p < w)),fun σ'=>aC.func LI (n7 p w σ'), ?_⟩
        simp [hpw,wi,wj,hnl,hl,hin,hwv,huv,hne]
        exact ⟨i + 1,j,by omega,⟨by simp,rfl⟩,sw D i j,hm.swA ⟨by omega,by omega⟩ ⟨by omega,by omega⟩ hc,by have:=Tv (a:=a) hil hjl (by omega) (by omega); rw [hDa] at this; simpa [gd] using this,hP.swap (by omega) (by omega) hst (by rw [hw2]; simp [leP,hpw]),by rw [sw,hu2,hw2,List.map_set,List.map_set]⟩
    · have hJi:J = i:=by omega
      subst hJi
      have hcI:¬ (J:Int) ≤ (J:Int) - 1:=by omega
      have hcI2:(J:Int) - 1 < J:=by omega
      refine dm _ ?_
      simp [hcI]
      refine ⟨.bool false, ?_⟩
      simp [hcI2]
      refine ⟨J,rfl,by omega,by omega,D,hm,fun k e1 e2=>?_,fun k e1 e2=>?_,rfl⟩
      · by_cases e:k = a
        · subst e
          have:gd D k ≤ p:=by rw [hDa]; exact Int.le_refl _
          simpa [gd] using this
        · have h3:=hP.left k (by omega) e2
          have:gd D k ≤ p:=by simp [leP] at h3; simpa [gd] using h3
          simpa [gd] using this
      · have h3:=hP.right k e1 e2
        have:p < gd D k:=by simp [leP] at h3; simpa [gd] using h3
        simpa [gd] using this
set_option maxRecDepth 100000
set_option maxHeartbeats 1600000
def ltP (p x:Int):Bool:=decide (x < p)
theorem Pt.final {p:Int} {a c j:Nat} {D:List Int} (h:Pt (ltP p) a c (j + 1) (j + 1) D) (hDa:gd D a = p) (hc:c ≤ D.length):gd (sw D j a) j = p ∧ (∀ k,a ≤ k → k < j → gd (sw D j a) k ≤ p) ∧ ∀ k,j < k → k < c → p ≤ gd (sw D j a) k:=by
  have h1:=h.lo
  have h2:=h.hi
  have hl:∀ k,a < k → k < j + 1 → gd D k ≤ p:=fun k e1 e2=>by
    have:=h.left k e1 e2
    have:gd D k < p:=by simpa [ltP] using this
    omega
  have g:=eb (D:=D) (i:=j) (j:=a) (by omega) (by omega)
  refine ⟨?_,fun k e1 e2=>?_,fun k e1 e2=>?_⟩
  · rw [g]
    by_cases e:j = a
    · rw [if_pos e,e,hDa]
    · rw [if_neg e,if_pos rfl,hDa]
  · rw [g]
    by_cases e:k = a
    · rw [if_pos e]; exact hl j (by omega) (by omega)
    · rw [if_neg e,if_neg (by omega)]; exact hl k (by omega) (by omega)
  · rw [g,if_neg (by omega),if_neg (by omega)]
    have:=h.right k (by omega) e2
    have:¬ gd D k < p:=by simpa [ltP] using this
    omega
theorem TZ (b:Nat) (l:List Int) (hN:l.length ≤ 1000) (a c q:Nat) (haq:a ≤ q) (hqc:q < c) (hc:c ≤ l.length) (σ:af) (hb:b < σ.length) (hx:σ[b]? = some (cU l)) :
    Spec Tryz.prog Uv [.sref 1 b 0 l.length l.length,nn2 a,nn2 c,nn2 q] σ fun r σ'=>∃ m B,r = .ret (.tup [nn2 m, .bool B]) ∧ a ≤ m ∧ m < c ∧ ∃ l',Mix a c l l' ∧ (∀ k,a ≤ k → k < m → gd l' k ≤ gd l' m) ∧ (∀ k,m < k → k < c → gd l' m ≤ gd l' k) ∧ σ' = σ.set b (cU l'):=by
  refine Vz (by simp) (dm _ ?_)
  obtain ⟨p,hpv⟩:∃ p,gd l q = p:=⟨_,rfl⟩
  have hal:a < l.length:=by omega
  have hql:q < l.length:=by omega
  have hpq:l[q] = p:=by rw [ea,hpv]
  obtain ⟨x,hxv⟩:∃ x,l[a] = x:=⟨_,rfl⟩
  have hx2:gd l a = x:=by rw [← hxv,ea]
  obtain ⟨E,hE⟩:∃ E,sw l a q = E:=⟨_,rfl⟩
  have hEm:Mix a c l E:=by rw [← hE]; exact .sw (by omega) (by omega) hc
  have hEa:gd E a = p:=by
    rw [← hE,eb hal hql]
    by_cases e:a = q
    · rw [if_pos e,e,hpv]
    · rw [if_neg e,if_pos rfl,hpv]
  have hEv:((List.map ii' l).set a (ii' p)).set q (ii' x) = E.map ii':=by rw [← hE,sw,hpv,hx2,List.map_set,List.map_set]
  have w1:IntKind.i64.wrap ((a:Int) + 1) = ((a + 1:Nat):Int):=wE (by omega) (by omega)
  have w2:IntKind.i64.wrap ((c:Int) - 1) = (c:Int) - 1:=an (by omega) (by omega)
  obtain ⟨h1,h2⟩:=List.getElem?_eq_some_iff.1 hx
  have fin:∀ (j:Nat) (D:List Int),Mix a c l D → gd D a = p → Pt (ltP p) a c (j + 1) (j + 1) D → a ≤ j ∧ j < c ∧ ∃ l',Mix a c l l' ∧ (∀ k,a ≤ k → k < j → gd l' k ≤ gd l' j) ∧ (∀ k,j < k → k < c → gd l' j ≤ gd l' k) ∧ sw D j a = l':=fun j D hm hDa hP=>by
    have e1:=hP.lo
    have e2:=hP.hi
    have hl:=hm.len
    obtain ⟨f1,f2,f3⟩:=hP.final hDa (by omega)
    exact ⟨by omega,by omega,_,hm.swA ⟨by omega,by omega⟩ ⟨by omega,by omega⟩ hc,fun k e1 e2=>by rw [f1]; exact f2 k e1 e2,fun k e1 e2=>by rw [f1]; exact f3 k e1 e2,rfl⟩
  simp [UJ,hb,h2,cU,hal,hql,hpq,hxv,List.getElem_set]
  refine AW.loop (ι:=Nat) (fun i fr σ1=>fr = { v:=[(0, .sref 1 b 0 l.length l.length),(1,nn2 a),(10,nn2 i),(11,ii' ((c:Int) - 1))],ds:=[] } ∧ Pt (ltP p) a c i c E ∧ σ1 = σ.set b (cU E)) (fun i=>c - i) (a + 1) ⟨by simp [w1,w2],⟨by omega,by omega,by omega,fun k h1 h2=>by omega,fun k h1 h2=>by omega⟩,by rw [hEv]; rfl⟩ ?_
  clear hEv hE hxv hx2 hx h1 h2 hpq hpv
  rintro i fr σ1 ⟨rfl,hP,rfl⟩
  have hl:=hEm.len
  have hle:=hP.le
  have hlo:=hP.lo
  have hal':a < E.length:=by omega
  have hDaG:E[a] = p:=by rw [ea,hEa]
  refine (Nat.lt_or_ge i c).elim (fun hiJ=>?_) (fun hiJ=>?_)
  all_goals first
    | (have hiJ':i < c:=hiJ
       have hil:i < E.length:=by omega
       have hin:i < l.length:=by omega
       obtain ⟨u,huv⟩:∃ u,E[i] = u:=⟨_,rfl⟩
       have hu2:gd E i = u:=by rw [← huv,ea]
       have hcI:(i:Int) ≤ (c:Int) - 1:=by omega
       have wi:IntKind.i64.wrap ((i:Int) + 1) = ((i + 1:Nat):Int):=wE (by omega) (by omega)
       refine (Classical.em (u < p)).elim (fun hpu=>?_) (fun hpu=>?_)
       · refine dm _ ?_
         simp [hcI,hb,cU,hl,hal,hin,huv,hDaG]
         refine ⟨.bool (decide (u < p)),fun σ'=>aC.func LI (n7 u p σ'), ?_⟩
         simp [hpu,wi]
         exact ⟨i + 1,by omega,by simp,hP.UT hiJ (by rw [hu2]; simp [ltP,hpu])⟩
       have hstop:i < c → ltP p (gd E i) = false:=fun _=>by rw [hu2]; simp only [ltP,decide_eq_false_iff_not]; exact hpu
       refine dm _ ?_
       simp [hcI,hb,cU,hl,hal,hin,huv,hDaG]
       refine ⟨.bool (decide (u < p)),fun σ'=>aC.func LI (n7 u p σ'), ?_⟩
       simp [hpu])
    | (have hiJ':c ≤ i:=hiJ
       have hstop:i < c → ltP p (gd E i) = false:=fun h=>by omega
       have hcI:¬ (i:Int) ≤ (c:Int) - 1:=by omega
       refine dm _ ?_
       simp [hcI]
       refine ⟨.bool false, ?_⟩
       simp)
  all_goals
    refine AW.loop (ι:=Nat) (fun J fr σ1=>fr = { v:=[(0, .sref 1 b 0 l.length l.length),(1,nn2 a),(10,nn2 i),(11,ii' ((J:Int) - 1))],ds:=[] } ∧ J ≤ c ∧ Pt (ltP p) a c i J E ∧ (i < J → ltP p (gd E i) = false) ∧ σ1 = σ.set b (cU E)) (fun J=>J) c ⟨by simp,by omega,hP,hstop,rfl⟩ ?_
    clear hP hstop
    rintro J fr σ1 ⟨rfl,hJJ,hP,hstop,rfl⟩
    have hle3:=hP.le
    refine (Nat.lt_or_ge i J).elim (fun hiK=>?_) (fun hiK=>?_)
    rotate_left
    · have hJi:J = i:=by omega
      subst hJi
      obtain ⟨j,rfl⟩:∃ j,J = j + 1:=⟨J - 1,by omega⟩
      have hjl:j < E.length:=by omega
      have hjn:j < l.length:=by omega
      obtain ⟨w,hwv⟩:∃ w,E[j] = w:=⟨_,rfl⟩
      have hw2:gd E j = w:=by rw [← hwv,ea]
      obtain ⟨f1,f2,l',f3,f4,f5,f6⟩:=fin j E hEm hEa hP
      have hlv:((List.map ii' E).set j (ii' p)).set a (ii' w) = l'.map ii':=by rw [← f6,sw,hw2,hEa,List.map_set,List.map_set]
      have hcI:¬ (j:Int) + 1 ≤ (j:Int):=by omega
      have hcI2:(j:Int) < (j:Int) + 1:=by omega
      refine dm _ ?_
      simp [hcI]
      refine ⟨.bool false, ?_⟩
      simp [hcI2,hb,cU,hl,hal,hjn,hwv,hDaG,List.getElem_set]
      exact ⟨j,rfl,f1,f2,l',f3,by simpa [gd] using f4,by simpa [gd] using f5,by rw [hlv]⟩
    obtain ⟨j,rfl⟩:∃ j,J = j + 1:=⟨J - 1,by omega⟩
    have hjl:j < E.length:=by omega
    have hjn:j < l.length:=by omega
    have hil:i < E.length:=by omega
    have hin:i < l.length:=by omega
    obtain ⟨w,hwv⟩:∃ w,E[j] = w:=⟨_,rfl⟩
    have hw2:gd E j = w:=by rw [← hwv,ea]
    obtain ⟨u,huv⟩:∃ u,E[i] = u:=⟨_,rfl⟩
    have hu2:gd E i = u:=by rw [← huv,ea]
    have hij:i ≤ j:=by omega
    have hst:=hstop (by omega)
    have wi:IntKind.i64.wrap ((i:Int) + 1) = ((i + 1:Nat):Int):=wE (by omega) (by omega)
    have wj:IntKind.i64.wrap ((j:Int) - 1) = (j:Int) - 1:=an (by omega) (by omega)
    refine (Classical.em (w < p)).elim (fun hpw=>?_) (fun hpw=>?_)
    rotate_left
    · refine dm _ ?_
      simp [hij,hb,cU,hl,hal,hjn,hwv,hDaG]
      refine ⟨.bool (decide (w < p)),fun σ'=>aC.func LI (n7 w p σ'), ?_⟩
      simp [hpw,wj]
      exact ⟨j,by omega,rfl,by omega,hP.UY hij (by rw [hw2]; simp only [ltP,decide_eq_false_iff_not]; exact hpw),fun _=>hst⟩
    have hne:¬ i = j:=fun e=>by
      rw [e,hw2] at hst
      simp [ltP] at hst
      omega
    have hnl:¬ j < i:=by omega
    refine dm _ ?_
    simp [hij,hb,cU,hl,hal,hjn,hwv,hDaG]
    refine ⟨.bool (decide (w < p)),fun σ'=>aC.func LI (n7 w p σ'), ?_⟩
    simp [hpw,wi,wj,hnl,hl,hin,hwv,huv,List.getElem_set,hne]
    have hF:Mix a c l (sw E i j):=hEm.swA ⟨by omega,by omega⟩ ⟨by omega,by omega⟩ hc
    have hFa:gd (sw E i j) a = p:=by rw [Tv hil hjl (by omega) (by omega),hEa]
    have hFP:Pt (ltP p) a c (i + 1) j (sw E i j):=hP.swap (by omega) (by omega) hst (by rw [hw2]; simp [ltP,hpw])
    have hFv:((List.map ii' E).set i (ii' w)).set j (ii' u) = (sw E i j).map ii':=by rw [sw,hu2,hw2,List.map_set,List.map_set]
    refine AW.loop (ι:=Nat × Nat) (fun x fr σ1=>fr = { v:=[(0, .sref 1 b 0 l.length l.length),(1,nn2 a),(10,nn2 x.1),(11,ii' ((x.2:Int) - 1))],ds:=[] } ∧ ∃ D:List Int,Mix a c l D ∧ gd D a = p ∧ Pt (ltP p) a c x.1 x.2 D ∧ σ1 = σ.set b (cU D)) (fun x=>x.2 - x.1) (i + 1,j) ⟨by simp,_,hF,hFa,hFP,by rw [hFv]; rfl⟩ ?_
    clear hF hFa hFP hFv hst hstop hP hu2 huv hw2 hwv hDaG hEa hl hal' hjl hil hne hnl hij wi wj hle3 hle hlo hiK hJJ hin hjn hpw
    rintro ⟨i0,J0⟩ fr σ1 ⟨rfl,D,hm,hDa,hP,rfl⟩
    have hl:=hm.len
    have hlo:=hP.lo
    have hJc:=hP.hi
    have hle:=hP.le
    simp only at hlo hJc hle hP
    refine dm _ ?_
    simp
    refine AW.loop (ι:=Nat) (fun i fr σ1=>fr = { v:=[(0, .sref 1 b 0 l.length l.length),(1,nn2 a),(10,nn2 i),(11,ii' ((J0:Int) - 1))],ds:=[] } ∧ i0 ≤ i ∧ Pt (ltP p) a c i J0 D ∧ σ1 = σ.set b (cU D)) (fun i=>J0 - i) i0 ⟨by simp,by omega,hP,rfl⟩ ?_
    clear hP
    rintro i fr σ1 ⟨rfl,hii,hP,rfl⟩
    have hle2:=hP.le
    have hlo2:=hP.lo
    have hal':a < D.length:=by omega
    have hDaG:D[a] = p:=by rw [ea,hDa]
    refine (Nat.lt_or_ge i J0).elim (fun hiJ=>?_) (fun hiJ=>?_)
  all_goals first
    | (have hiJ':i < J0:=hiJ
       have hil:i < D.length:=by omega
       have hin:i < l.length:=by omega
       obtain ⟨u,huv⟩:∃ u,D[i] = u:=⟨_,rfl⟩
       have hu2:gd D i = u:=by rw [← huv,ea]
       have hcI:(i:Int) ≤ (J0:Int) - 1:=by omega
       have wi:IntKind.i64.wrap ((i:Int) + 1) = ((i + 1:Nat):Int):=wE (by omega) (by omega)
       refine (Classical.em (u < p)).elim (fun hpu=>?_) (fun hpu=>?_)
       · refine dm _ ?_
         simp [hcI,hb,cU,hl,hal,hin,huv,hDaG]
         refine ⟨.bool (decide (u < p)),fun σ'=>aC.func LI (n7 u p σ'), ?_⟩
         simp [hpu,wi]
         exact ⟨i + 1,by omega,by simp,by omega,hP.UT hiJ (by rw [hu2]; simp [ltP,hpu])⟩
       have hstop:i < J0 → ltP p (gd D i) = false:=fun _=>by rw [hu2]; simp only [ltP,decide_eq_false_iff_not]; exact hpu
       refine dm _ ?_
       simp [hcI,hb,cU,hl,hal,hin,huv,hDaG]
       refine ⟨.bool (decide (u < p)),fun σ'=>aC.func LI (n7 u p σ'), ?_⟩
       simp [hpu])
    | (have hiJ':J0 ≤ i:=hiJ
       have hstop:i < J0 → ltP p (gd D i) = false:=fun h=>by omega
       have hcI:¬ (i:Int) ≤ (J0:Int) - 1:=by omega
       refine dm _ ?_
       simp [hcI]
       refine ⟨.bool false, ?_⟩
       simp)
  all_goals
    refine AW.loop (ι:=Nat) (fun J fr σ1=>fr = { v:=[(0, .sref 1 b 0 l.length l.length),(1,nn2 a),(10,nn2 i),(11,ii' ((J:Int) - 1))],ds:=[] } ∧ J ≤ J0 ∧ Pt (ltP p) a c i J D ∧ (i < J → ltP p (gd D i) = false) ∧ σ1 = σ.set b (cU D)) (fun J=>J) J0 ⟨by simp,by omega,hP,hstop,rfl⟩ ?_
    clear hP hstop
    rintro J fr σ1 ⟨rfl,hJJ,hP,hstop,rfl⟩
    have hle3:=hP.le
    refine (Nat.lt_or_ge i J).elim (fun hiK=>?_) (fun hiK=>?_)
    · obtain ⟨j,rfl⟩:∃ j,J = j + 1:=⟨J - 1,by omega⟩
      have hjl:j < D.length:=by omega
      have hjn:j < l.length:=by omega
      have hil:i < D.length:=by omega
      have hin:i < l.length:=by omega
      obtain ⟨w,hwv⟩:∃ w,D[j] = w:=⟨_,rfl⟩
      have hw2:gd D j = w:=by rw [← hwv,ea]
      obtain ⟨u,huv⟩:∃ u,D[i] = u:=⟨_,rfl⟩
      have hu2:gd D i = u:=by rw [← huv,ea]
      have hij:i ≤ j:=by omega
      have hst:=hstop (by omega)
      have wi:IntKind.i64.wrap ((i:Int) + 1) = ((i + 1:Nat):Int):=wE (by omega) (by omega)
      have wj:IntKind.i64.wrap ((j:Int) - 1) = (j:Int) - 1:=an (by omega) (by omega)
      refine (Classical.em (w < p)).elim (fun hpw=>?_) (fun hpw=>?_)
      rotate_left
      · refine dm _ ?_
        simp [hij,hb,cU,hl,hal,hjn,hwv,hDaG]
        refine ⟨.bool (decide (w < p)),fun σ'=>aC.func LI (n7 w p σ'), ?_⟩
        simp [hpw,wj]
        exact ⟨j,by omega,rfl,by omega,hP.UY hij (by rw [hw2]; simp only [ltP,decide_eq_false_iff_not]; exact hpw),fun _=>hst⟩
      · have hne:¬ i = j:=fun e=>by
          rw [e,hw2] at hst
          simp [ltP] at hst
          omega
        have hnl:¬ j < i:=by omega
        refine dm _ ?_
        simp [hij,hb,cU,hl,hal,hjn,hwv,hDaG]
        refine ⟨.bool (decide (w < p)),fun σ'=>aC.func LI (n7 w p σ'), ?_⟩
        simp [hpw,wi,wj,hnl,hl,hin,hwv,huv,List.getElem_set,hne]
        exact ⟨i + 1,j,by omega,⟨by simp,rfl⟩,sw D i j,hm.swA ⟨by omega,by omega⟩ ⟨by omega,by omega⟩ hc,by have:=Tv (a:=a) hil hjl (by omega) (by omega); rw [hDa] at this; simpa [gd] using this,hP.swap (by omega) (by omega) hst (by rw [hw2]; simp [ltP,hpw]),by rw [sw,hu2,hw2,List.map_set,List.map_set]⟩
    · have hJi:J = i:=by omega
      subst hJi
      obtain ⟨j,rfl⟩:∃ j,J = j + 1:=⟨J - 1,by omega⟩
      have hjl:j < D.length:=by omega
      have hjn:j < l.length:=by omega
      obtain ⟨w,hwv⟩:∃ w,D[j] = w:=⟨_,rfl⟩
      have hw2:gd D j = w:=by rw [← hwv,ea]
      obtain ⟨f1,f2,l',f3,f4,f5,f6⟩:=fin j D hm hDa hP
      have hlv:((List.map ii' D).set j (ii' p)).set a (ii' w) = l'.map ii':=by rw [← f6,sw,hw2,hDa,List.map_set,List.map_set]
      have hcI:¬ (j:Int) + 1 ≤ (j:Int):=by omega
      have hcI2:(j:Int) < (j:Int) + 1:=by omega
      refine dm _ ?_
      simp [hcI]
      refine ⟨.bool false, ?_⟩
      simp [hcI2,hb,cU,hl,hal,hjn,hwv,hDaG,List.getElem_set]
      exact ⟨j,rfl,f1,f2,l',f3,by simpa [gd] using f4,by simpa [gd] using f5,by rw [hlv]⟩
set_option maxRecDepth 100000
set_option maxHeartbeats 1000000
theorem SX (b s:Nat) (l:List Int) (_hN:l.length ≤ 1000) (i j:Nat) (hi:i < l.length) (hj:j < l.length) (n:Nat) (hn:n ≤ 1000) (σ:af) (hx:σ[b]? = some (cU l)) (hs:σ[s]? = some (.box [nn2 n])) :
    Spec Tryz.prog T8 [.sref 1 b 0 l.length l.length,nn2 i,nn2 j, .ptr s 0] σ fun r σ'=>∃ x y n',r = .ret (.tup [nn2 x,nn2 y]) ∧ ((x = i ∧ y = j) ∨ (x = j ∧ y = i)) ∧ n' ≤ n + 1 ∧ σ' = σ.set s (.box [nn2 n']):=by
  refine Vm (by simp) (dm _ ?_)
  obtain ⟨h1,h2⟩:=List.getElem?_eq_some_iff.1 hx
  obtain ⟨h3,h4⟩:=List.getElem?_eq_some_iff.1 hs
  obtain ⟨x,hxv⟩:∃ x,l[i] = x:=⟨_,rfl⟩
  obtain ⟨y,hyv⟩:∃ y,l[j] = y:=⟨_,rfl⟩
  have w1:IntKind.i64.wrap ((n:Int) + 1) = ((n + 1:Nat):Int):=wE (by omega) (by omega)
  have hself:σ = σ.set s (.box [nn2 n]):=by rw [← h4]; simp
  simp [UR,h1,h2,cU,hi,hj,hxv,hyv]
  refine ⟨.bool (decide (y < x)),fun σ'=>aC.func LI (n7 y x σ'), ?_⟩
  simp [h3,h4,w1]
  exact ⟨fun hxy=>⟨j,i,⟨rfl,rfl⟩, .inr ⟨rfl,rfl⟩,n + 1,by omega,rfl⟩,fun hxy=>⟨i,j,⟨rfl,rfl⟩, .inl ⟨rfl,rfl⟩,n,by omega,hself⟩⟩
theorem S9 (b s:Nat) (hbs:b ≠ s) (l:List Int) (hN:l.length ≤ 1000) (i j k:Nat) (hi:i < l.length) (hj:j < l.length) (hk:k < l.length) (n:Nat) (hn:n ≤ 900) (σ:af) (hx:σ[b]? = some (cU l)) (hs:σ[s]? = some (.box [nn2 n])) :
    Spec Tryz.prog Ud [.sref 1 b 0 l.length l.length,nn2 i,nn2 j,nn2 k, .ptr s 0] σ fun r σ'=>∃ x n',r = .ret (nn2 x) ∧ (x = i ∨ x = j ∨ x = k) ∧ n' ≤ n + 3 ∧ σ' = σ.set s (.box [nn2 n']):=by
  refine U9 (by simp) (dm _ ?_)
  obtain ⟨h3,h4⟩:=List.getElem?_eq_some_iff.1 hs
  have hget:∀ m:Nat,(σ.set s (.box [nn2 m]))[b]? = some (cU l) ∧ (σ.set s (.box [nn2 m]))[s]? = some (.box [nn2 m]):=fun m=>⟨by rw [List.getElem?_set_ne (fun e=>hbs e.symm)]; exact hx,by rw [List.getElem?_set_self h3]⟩
  simp [UO]
  refine aj.spec Un (SX b s l hN i j hi hj n (by omega) σ hx hs) ?_
  rintro r σ1 ⟨x1,y1,n1,rfl,c1,e1,rfl⟩
  refine ⟨_,rfl, ?_⟩
  simp
  refine aj.spec Un (SX b s l hN y1 k (by omega) hk n1 (by omega) _ (hget n1).1 (hget n1).2) ?_
  rintro r σ2 ⟨x2,y2,n2,rfl,c2,e2,rfl⟩
  refine ⟨_,rfl, ?_⟩
  simp
  refine aj.spec Un (SX b s l hN x1 x2 (by omega) (by omega) n2 (by omega) _ (hget n2).1 (hget n2).2) ?_
  rintro r σ3 ⟨x3,y3,n3,rfl,c3,e3,rfl⟩
  refine ⟨_,rfl, ?_⟩
  simp
  exact ⟨y3,rfl,by omega,n3,by omega,rfl⟩
theorem Tg (b s:Nat) (hbs:b ≠ s) (l:List Int) (hN:l.length ≤ 1000) (i:Nat) (h0:0 < i) (hi:i + 1 < l.length) (n:Nat) (hn:n ≤ 900) (σ:af) (hx:σ[b]? = some (cU l)) (hs:σ[s]? = some (.box [nn2 n])) :
    Spec Tryz.prog Ul [.sref 1 b 0 l.length l.length,nn2 i, .ptr s 0] σ fun r σ'=>∃ x n',r = .ret (nn2 x) ∧ (i - 1 ≤ x ∧ x ≤ i + 1) ∧ n' ≤ n + 3 ∧ σ' = σ.set s (.box [nn2 n']):=by
  refine Vk (by simp) (dm _ ?_)
  have w1:IntKind.i64.wrap ((i:Int) - 1) = ((i - 1:Nat):Int):=wE (by omega) (by omega)
  have w2:IntKind.i64.wrap ((i:Int) + 1) = ((i + 1:Nat):Int):=wE (by omega) (by omega)
  simp [UP,w1,w2]
  refine aj.spec Us (S9 b s hbs l hN (i - 1) i (i + 1) (by omega) (by omega) (by omega) n hn σ hx hs) ?_
  rintro r σ3 ⟨x,n',rfl,c3,e3,rfl⟩
  refine ⟨_,rfl, ?_⟩
  simp
  exact ⟨x,rfl,by omega,n',by omega,rfl⟩
set_option maxRecDepth 100000
set_option maxHeartbeats 1000000
theorem choose_spec (b:Nat) (l:List Int) (hN:l.length ≤ 1000) (a c:Nat) (hac:a + 12 < c) (hc:c ≤ l.length) (σ:af) (hb:b < σ.length) (hx:σ[b]? = some (cU l)) :
    Spec Tryz.prog Ua [.sref 1 b 0 l.length l.length,nn2 a,nn2 c] σ fun r σ'=>∃ p h o,r = .ret (.tup [nn2 p,nn2 h]) ∧ a ≤ p ∧ p < c ∧ σ' = σ ++ [o]:=by
  refine VC (by simp) (dm _ ?_)
  obtain ⟨n,hn⟩:∃ n,c - a = n:=⟨_,rfl⟩
  obtain ⟨q,hq⟩:∃ q,n / 4 = q:=⟨_,rfl⟩
  have w1:IntKind.i64.wrap ((c:Int) - a) = n:=wE (by omega) (by omega)
  have w2:IntKind.i64.wrap ((n:Int).tdiv 4) = q:=by
    rw [Int.tdiv_eq_ediv_of_nonneg (by omega)]
    exact wE (by omega) (by omega)
  have w2':IntKind.i64.wrap ((n:Int) / 4) = q:=wE (by omega) (by omega)
  have w3:IntKind.i64.wrap ((q:Int) * 2) = ((q * 2:Nat):Int):=wE (by omega) (by omega)
  have w4:IntKind.i64.wrap ((q:Int) * 3) = ((q * 3:Nat):Int):=wE (by omega) (by omega)
  have w4':IntKind.i64.wrap (q:Int) = q:=wN (by omega) (by omega)
  obtain ⟨i,hi⟩:∃ i,a + q = i:=⟨_,rfl⟩
  obtain ⟨j,hj⟩:∃ j,a + q * 2 = j:=⟨_,rfl⟩
  obtain ⟨k,hk⟩:∃ k,a + q * 3 = k:=⟨_,rfl⟩
  have w5:IntKind.i64.wrap ((a:Int) + q) = i:=wE (by omega) (by omega)
  have w6:IntKind.i64.wrap ((a:Int) + (q:Int) * 2) = j:=wE (by omega) (by omega)
  have w7:IntKind.i64.wrap ((a:Int) + (q:Int) * 3) = k:=wE (by omega) (by omega)
  have h8:(8:Int) ≤ n:=by omega
  have h8N:8 ≤ n:=by omega
  have hbs:b ≠ σ.length:=by omega
  have hg:∀ m:Nat,(σ ++ [bo.box [nn2 m]])[b]? = some (cU l) ∧ (σ ++ [bo.box [nn2 m]])[σ.length]? = some (.box [nn2 m]):=fun m=>⟨by rw [List.getElem?_append_left hb]; exact hx,by simp⟩
  have hset:∀ m m':Nat,(σ ++ [bo.box [nn2 m]]).set σ.length (.box [nn2 m']) = σ ++ [bo.box [nn2 m']]:=fun m m'=>by simp
  simp only [Int.natCast_mul,Int.cast_ofNat_Int] at w3 w4
  have h0:((0:Nat):Int) = 0:=rfl
  have med:=fun (i' j' k' n0:Nat) (e1:i' < l.length) (e2:j' < l.length) (e3:k' < l.length) (e4:n0 ≤ 900)=>S9 b σ.length hbs l hN i' j' k' e1 e2 e3 n0 e4 (σ ++ [bo.box [nn2 n0]]) (hg n0).1 (hg n0).2
  have adj:=fun (i' n0:Nat) (e1:0 < i') (e2:i' + 1 < l.length) (e4:n0 ≤ 900)=>Tg b σ.length hbs l hN i' e1 e2 n0 e4 (σ ++ [bo.box [nn2 n0]]) (hg n0).1 (hg n0).2
  simp only [hset] at med adj
  refine (Nat.lt_or_ge n 50).elim (fun h50=>?_) (fun h50=>?_)
  · have m0:=med i j k 0 (by omega) (by omega) (by omega) (by omega)
    rw [show nn2 0 = ii' 0 from rfl] at m0
    simp [T7,w1,w2',w3,w4,w4',w5,w6,w7,h8]
    refine ⟨fun e=>absurd e (by omega),fun _=>?_⟩
    refine aj.spec Us m0 ?_
    rintro r σ1 ⟨x,n',rfl,c1,e1,rfl⟩
    refine ⟨_,rfl, ?_⟩
    simp
    exact ⟨fun _=>⟨x,⟨rfl,1,rfl⟩,by omega,by omega⟩,fun _=>⟨fun _=>⟨x,⟨rfl,2,rfl⟩,by omega,by omega⟩,fun _=>⟨x,⟨rfl,0,rfl⟩,by omega,by omega⟩⟩⟩
  · have a0:=adj i 0 (by omega) (by omega) (by omega)
    rw [show nn2 0 = ii' 0 from rfl] at a0
    simp [T7,w1,w2',w3,w4,w4',w5,w6,w7,h8]
    refine ⟨fun _=>?_,fun e=>absurd e (by omega)⟩
    refine aj.spec T9 a0 ?_
    rintro r σ1 ⟨x,n1,rfl,c1,e1,rfl⟩
    refine ⟨_,rfl, ?_⟩
    simp [w1,w2',w3,w4,w4',w5,w6,w7]
    refine aj.spec T9 (adj j n1 (by omega) (by omega) (by omega)) ?_
    rintro r σ1 ⟨y,n2,rfl,c2,e2,rfl⟩
    refine ⟨_,rfl, ?_⟩
    simp [w1,w2',w3,w4,w4',w5,w6,w7]
    refine aj.spec T9 (adj k n2 (by omega) (by omega) (by omega)) ?_
    rintro r σ1 ⟨z,n3,rfl,c3,e3,rfl⟩
    refine ⟨_,rfl, ?_⟩
    simp [w1,w2',w3,w4,w4',w5,w6,w7]
    refine aj.spec Us (med x y z n3 (by omega) (by omega) (by omega) (by omega)) ?_
    rintro r σ1 ⟨u,n4,rfl,c4,e4,rfl⟩
    refine ⟨_,rfl, ?_⟩
    simp [w1,w2',w3,w4,w4',w5,w6,w7]
    exact ⟨fun _=>⟨u,⟨rfl,1,rfl⟩,by omega,by omega⟩,fun _=>⟨fun _=>⟨u,⟨rfl,2,rfl⟩,by omega,by omega⟩,fun _=>⟨u,⟨rfl,0,rfl⟩,by omega,by omega⟩⟩⟩
set_option maxRecDepth 100000
set_option maxHeartbeats 1000000
theorem TY (a b:Int):0 ≤ wh .xor .u64 a b ∧ wh .xor .u64 a b < 18446744073709551616:=by
  rw [rl]
  have h:(BitVec.ofInt IntKind.u64.bits a ^^^ BitVec.ofInt IntKind.u64.bits b).toNat < 2 ^ 64:=BitVec.isLt _
  have e:Fq .xor .u64 a b = ((BitVec.ofInt IntKind.u64.bits a ^^^ BitVec.ofInt IntKind.u64.bits b).toNat:Int):=wrap_u64 h
  rw [e]
  have h2:(2:Nat) ^ 64 = 18446744073709551616:=by decide
  omega
theorem T0 (a:Int) (m:Nat) (hm:m < 1000):0 ≤ wh .and .u64 a (m:Int) ∧ wh .and .u64 a (m:Int) ≤ (m:Int):=by
  rw [rl]
  have h:(BitVec.ofInt IntKind.u64.bits a &&& BitVec.ofInt IntKind.u64.bits (m:Int)).toNat < 2 ^ 64:=BitVec.isLt _
  have e:Fq .and .u64 a (m:Int) = ((BitVec.ofInt IntKind.u64.bits a &&& BitVec.ofInt IntKind.u64.bits (m:Int)).toNat:Int):=wrap_u64 h
  have h3:(BitVec.ofInt IntKind.u64.bits a &&& BitVec.ofInt IntKind.u64.bits (m:Int)).toNat ≤ m:=by
    rw [BitVec.toNat_and]
    refine Nat.le_trans Nat.and_le_right ?_
    rw [show IntKind.u64.bits = 64 from rfl,cx,gp (by omega)]
    exact Nat.le_refl _
  rw [e]
  omega
theorem UE (a:Int) (m:Nat) (hm:m < 1000):∃ o:Nat,qe .u64 a (m:Int) = (o:Int) ∧ o ≤ m:=by
  have:=T0 a m hm
  exact ⟨(wh .and .u64 a (m:Int)).toNat,by rw [qe]; omega,by omega⟩
theorem Uo (s:Nat) (v:Int) (σ:af) (hs:σ[s]? = some (.box [.int .u64 v])) :
    Spec Tryz.prog Ug [.ptr s 0] σ fun r σ'=>∃ w:Int,r = .ret (.int .u64 w) ∧ (0 ≤ w ∧ w < 18446744073709551616) ∧ σ' = σ.set s (.box [.int .u64 w]):=by
  refine Vx (by simp) (dm _ ?_)
  obtain ⟨h3,h4⟩:=List.getElem?_eq_some_iff.1 hs
  simp [UK,h3,h4]
  exact TY _ _
theorem TU (n:Nat) (hn:n < 256) (h0:0 < n):∃ k:Nat,(n < 2 ^ k ∧ 2 ^ k ≤ 2 * n ∧ k ≤ 8) ∧ ∀ σ,Spec Tryz.prog DK [.int .u64 n] σ fun r σ'=>r = .ret (nn2 k) ∧ σ' = σ:=by
  have key:∀ n,n < 256 → 0 < n → n < 2 ^ (Nat.log2 n + 1) ∧ 2 ^ (Nat.log2 n + 1) ≤ 2 * n ∧ Nat.log2 n + 1 ≤ 8:=by decide +kernel
  refine ⟨Nat.log2 n + 1,key n hn h0,fun σ=>?_⟩
  refine Spec.ay (La (by simp) (dm _ ?_)) rfl rfl σ
  have h1:¬ (4294967296:Int) ≤ n:=by omega
  have h2:¬ (65536:Int) ≤ n:=by omega
  have h3:¬ (256:Int) ≤ n:=by omega
  simp [Gu,h1,h2,h3]
  clear h1 h2 h3 key σ
  revert n
  decide +kernel
theorem TE (n:Nat) (hn:n < 256) (h0:0 < n):∃ k:Nat,(n < 2 ^ k ∧ 2 ^ k ≤ 2 * n ∧ k ≤ 8) ∧ ∀ σ,Spec Tryz.prog Dm [.int .u64 n] σ fun r σ'=>r = .ret (nn2 k) ∧ σ' = σ:=by
  obtain ⟨k,h,hk⟩:=TU n hn h0
  refine ⟨k,h,fun σ=>Spec.ay (JM (by simp) (dm _ ?_)) rfl rfl σ⟩
  simp [FC]
  refine aj.pure KM (hk _) ?_
  simp
theorem Ty (n:Nat) (hn:n < 256) (h0:0 < n):∃ M:Nat,(n < M ∧ M ≤ 2 * n) ∧ ∀ σ,Spec Tryz.prog Um [nn2 n] σ fun r σ'=>r = .ret (.int .u64 M) ∧ σ' = σ:=by
  obtain ⟨k,⟨h1,h2,h3⟩,hk⟩:=TE n hn h0
  refine ⟨2 ^ k,⟨h1,h2⟩,fun σ=>Spec.ay (VE (by simp) (dm _ ?_)) rfl rfl σ⟩
  have w1:IntKind.u64.wrap (n:Int) = n:=wrap_u64 (by omega)
  have w2:=Fk (i:=k) (by omega)
  simp [UN,w1]
  refine aj.pure T5 (hk _) ?_
  simp
  simpa using w2
theorem TS (b:Nat) (l:List Int) (hN:l.length ≤ 200) (a c:Nat) (hac:a + 12 < c) (hc:c ≤ l.length) (σ:af) (hb:b < σ.length) (hx:σ[b]? = some (cU l)) :
    Spec Tryz.prog Ub [.sref 1 b 0 l.length l.length,nn2 a,nn2 c] σ fun r σ'=>r = .ret (.tup []) ∧ ∃ l' o,Mix a c l l' ∧ σ' = σ.set b (cU l') ++ [o]:=by
  refine Vr (by simp) (dm _ ?_)
  obtain ⟨n,hn⟩:∃ n,c - a = n:=⟨_,rfl⟩
  obtain ⟨q,hq⟩:∃ q,n / 4 = q:=⟨_,rfl⟩
  obtain ⟨S,hS⟩:∃ S,σ.length = S:=⟨_,rfl⟩
  obtain ⟨M,⟨hM1,hM2⟩,hM⟩:=Ty n (by omega) (by omega)
  have w1:IntKind.i64.wrap ((c:Int) - a) = n:=wE (by omega) (by omega)
  have w2:IntKind.i64.wrap ((n:Int).tdiv 4) = q:=by
    rw [Int.tdiv_eq_ediv_of_nonneg (by omega)]
    exact wE (by omega) (by omega)
  have w2':IntKind.i64.wrap ((n:Int) / 4) = q:=wE (by omega) (by omega)
  have w3:IntKind.i64.wrap ((q:Int) * 2) = (q:Int) * 2:=wN (by omega) (by omega)
  obtain ⟨j,hj⟩:∃ j,a + q * 2 = j:=⟨_,rfl⟩
  have w5:IntKind.i64.wrap ((a:Int) + (q:Int) * 2) = j:=wE (by omega) (by omega)
  have w6:IntKind.i64.wrap ((j:Int) - 1) = ((j - 1:Nat):Int):=wE (by omega) (by omega)
  have w7:IntKind.i64.wrap ((j:Int) + 1) = ((j + 1:Nat):Int):=wE (by omega) (by omega)
  have w8:IntKind.u64.wrap (n:Int) = n:=wrap_u64 (by omega)
  have w9:IntKind.u64.wrap ((M:Int) - 1) = ((M - 1:Nat):Int):=by
    rw [show (M:Int) - 1 = ((M - 1:Nat):Int) by omega]; exact wrap_u64 (by omega)
  have h8:(8:Int) ≤ n:=by omega
  have h8N:8 ≤ n:=by omega
  simp [UQ,w1,h8,w8,hS]
  refine aj.pure Vg (hM _) ?_
  simp
  refine AW.loop (ι:=Nat) (fun I fr σ1=>fr = { v:=[(0, .sref 1 b 0 l.length l.length),(1,nn2 a),(6,nn2 n),(7, .ptr S 0),(8, .int .u64 M),(9,nn2 I)],ds:=[] } ∧ j - 1 ≤ I ∧ I ≤ j + 2 ∧ ∃ (D:List Int) (v:Int),Mix a c l D ∧ σ1 = σ.set b (cU D) ++ [.box [.int .u64 v]]) (fun I=>j + 2 - I) (j - 1) ⟨by simp [w1,hS,w2',w3,w5,w6],by omega,by omega,l,(n:Int), .refl _ _ _,by rw [← S0 hx]⟩ ?_
  rintro I fr σ1 ⟨rfl,i1,i2,D,v,hm,rfl⟩
  have hl:=hm.len
  refine (Nat.lt_or_ge (j + 1) I).elim (fun hlt=>?_) (fun hle=>?_)
  · have hnl:¬ I ≤ j + 1:=by omega
    have hnlI:¬ (I:Int) ≤ (j:Int) + 1:=by omega
    refine dm _ ?_
    simp [w2',w3,w5,w7,hnlI]
    exact ⟨D,hm,rfl⟩
  have hleI:(I:Int) ≤ (j:Int) + 1:=by omega
  have hxo:=Uo S v (σ.set b (cU D) ++ [.box [.int .u64 v]]) (by rw [List.getElem?_append_right (by simp [hS]),List.length_set,hS]; simp)
  refine dm _ ?_
  simp [w2',w3,w5,w7,hleI]
  refine aj.spec Va hxo ?_
  rintro r σ2 ⟨w,rfl,_,rfl⟩
  refine ⟨_,rfl, ?_⟩
  refine Exists.elim (UE w (M - 1) (by omega)) (fun o ho=>?_)
  have ho1:=ho.1
  have ho2:=ho.2
  have v1:IntKind.i64.wrap (o:Int) = o:=wN (by omega) (by omega)
  have hIl:I < D.length:=by omega
  have hIn:I < l.length:=by omega
  have vI:IntKind.i64.wrap ((I:Int) + 1) = ((I + 1:Nat):Int):=wE (by omega) (by omega)
  refine Exists.elim (⟨D[I],rfl⟩:∃ x,D[I] = x) (fun x hxv=>?_)
  have hx2:gd D I = x:=by rw [← hxv,ea]
  have hbT:b < (σ.set b (cU D)).length:=by rw [List.length_set]; exact hb
  have hbS:b < S:=by omega
  refine (Nat.lt_or_ge o n).elim (fun hon=>?_) (fun hon=>?_)
  · have hon':¬ n ≤ o:=by omega
    refine Exists.elim (⟨a + o,rfl⟩:∃ O,a + o = O) (fun O hO=>?_)
    have v2:IntKind.i64.wrap ((a:Int) + o) = O:=wE (by omega) (by omega)
    have hOl:O < D.length:=by omega
    have hOn:O < l.length:=by omega
    refine Exists.elim (⟨D[O],rfl⟩:∃ y,D[O] = y) (fun y hyv=>?_)
    have hy2:gd D O = y:=by rw [← hyv,ea]
    simp [w9,ho1,v1,v2,vI,hon',hl,hIn,hOn,hxv,hyv,hbS,hS,cU,List.getElem_set,List.getElem?_append]
    exact ⟨I + 1,by omega,by omega,by omega,by omega,sw D I O,hm.trans (.sw (by omega) (by omega) (by omega)),by rw [sw,hx2,hy2,List.map_set,List.map_set]⟩
  · refine Exists.elim (⟨o - n,rfl⟩:∃ o',o - n = o') (fun o' ho'=>?_)
    refine Exists.elim (⟨a + o',rfl⟩:∃ O,a + o' = O) (fun O hO=>?_)
    have v0:IntKind.i64.wrap ((o:Int) - n) = o':=wE (by omega) (by omega)
    have v2:IntKind.i64.wrap ((a:Int) + o') = O:=wE (by omega) (by omega)
    have hOl:O < D.length:=by omega
    have hOn:O < l.length:=by omega
    refine Exists.elim (⟨D[O],rfl⟩:∃ y,D[O] = y) (fun y hyv=>?_)
    have hy2:gd D O = y:=by rw [← hyv,ea]
    simp [w9,ho1,v0,v1,v2,vI,hon,hl,hIn,hOn,hxv,hyv,hbS,hS,cU,List.getElem_set,List.getElem?_append]
    exact ⟨I + 1,by omega,by omega,by omega,by omega,sw D I O,hm.trans (.sw (by omega) (by omega) (by omega)),by rw [sw,hx2,hy2,List.map_set,List.map_set]⟩
set_option maxRecDepth 100000
set_option maxHeartbeats 1000000
theorem Srt.toB {a i:Nat} {l:List Int} (h:Srt a i l):Tx a (i + 1) i l:=fun p q h1 h2 h3 h4=>h p q h1 h2 (by omega)
theorem TH (b:Nat) (l:List Int) (hN:l.length ≤ 1000) (a c:Nat) (hac:a ≤ c) (hc:c ≤ l.length) (σ:af) (hb:b < σ.length) (hx:σ[b]? = some (cU l)) :
    Spec Tryz.prog Cn [.sref 1 b 0 l.length l.length,nn2 a,nn2 c] σ fun r σ'=>r = .ret (.tup []) ∧ ∃ l',Mix a c l l' ∧ Srt a c l' ∧ σ' = σ.set b (cU l'):=by
  refine MQ (by simp) (dm _ ?_)
  have w1:IntKind.i64.wrap ((a:Int) + 1) = ((a + 1:Nat):Int):=wE (by omega) (by omega)
  simp [Hi,w1]
  refine AW.loop (ι:=Nat) (fun i fr σ1=>fr = { v:=[(0, .sref 1 b 0 l.length l.length),(1,nn2 a),(2,nn2 c),(6,nn2 i)],ds:=[] } ∧ a < i ∧ i ≤ c + 1 ∧ ∃ D:List Int,Mix a c l D ∧ Srt a i D ∧ σ1 = σ.set b (cU D)) (fun i=>c + 1 - i) (a + 1) ⟨by simp,by omega,by omega,l, .refl _ _ _, .one (by omega),S0 hx⟩ ?_
  rintro i fr σ1 ⟨rfl,h1,h2,D,hm,hs,rfl⟩
  have hl:=hm.len
  refine (Nat.lt_or_ge i c).elim (fun hic=>?_) (fun hic=>?_)
  rotate_left
  · have hnl:¬ i < c:=by omega
    refine dm _ ?_
    simp [hnl]
    exact ⟨D,hm,fun p q e1 e2 e3=>hs p q e1 e2 (by omega),rfl⟩
  have w2:IntKind.i64.wrap ((i:Int) + 1) = ((i + 1:Nat):Int):=wE (by omega) (by omega)
  refine dm _ ?_
  simp [hic]
  refine AW.loop (ι:=Nat) (fun k fr σ1=>fr = { v:=[(0, .sref 1 b 0 l.length l.length),(1,nn2 a),(2,nn2 c),(6,nn2 i),(7,nn2 k)],ds:=[] } ∧ a ≤ k ∧ k ≤ i ∧ ∃ E:List Int,Mix a c l E ∧ Tx a (i + 1) k E ∧ σ1 = σ.set b (cU E)) (fun k=>k) i ⟨by simp,by omega,by omega,D,hm,hs.toB,rfl⟩ ?_
  clear hm hs hl
  rintro k fr σ1 ⟨rfl,k1,k2,E,hm,hs,rfl⟩
  have hl:=hm.len
  refine (Classical.em (k = a)).elim (fun hka=>?_) (fun hka=>?_)
  · subst hka
    have hEs:Srt k (i + 1) E:=hs.done (.inl (by omega))
    refine dm _ ?_
    simp
    refine ⟨.bool false, ?_⟩
    simp [w2]
    exact ⟨i + 1,by omega,by simp,by omega,by omega,E,hm,hEs,rfl⟩
  obtain ⟨j,hj⟩:∃ j,k - 1 = j:=⟨_,rfl⟩
  have v1:IntKind.i64.wrap ((k:Int) - 1) = j:=wE (by omega) (by omega)
  have hkl:k < E.length:=by omega
  have hkn:k < l.length:=by omega
  have hql:j < E.length:=by omega
  have hqn:j < l.length:=by omega
  have hak:a < k:=by omega
  obtain ⟨u,huv⟩:∃ u,E[k] = u:=⟨_,rfl⟩
  obtain ⟨v,hvv⟩:∃ v,E[j] = v:=⟨_,rfl⟩
  have hu2:gd E k = u:=by rw [← huv,ea]
  have hv2:gd E j = v:=by rw [← hvv,ea]
  have hnk:¬ k = j:=by omega
  refine dm _ ?_
  refine (Classical.em (u < v)).elim (fun huw=>?_) (fun huw=>?_)
  · simp [v1,hb,cU,hl,hkn,hqn,huv,hvv,hak]
    refine ⟨.bool (decide (u < v)),fun σ'=>aC.func LI (n7 u v σ'), ?_⟩
    simp [huw,hvv,hnk]
    exact ⟨j,by omega,rfl,by omega,by omega,sw E k j,hm.trans (.sw (by omega) (by omega) (by omega)),by have:=hs.step hak (by omega) (by omega) (by rw [hj,hu2,hv2]; exact huw); rwa [hj] at this,by rw [sw,hu2,hv2,List.map_set,List.map_set]⟩
  · have hEs:Srt a (i + 1) E:=hs.done (.inr (by rw [hj,hu2,hv2]; omega))
    simp [v1,hb,cU,hl,hkn,hqn,huv,hvv,hak]
    refine ⟨.bool (decide (u < v)),fun σ'=>aC.func LI (n7 u v σ'), ?_⟩
    simp [huw,w2]
    exact ⟨i + 1,by omega,by simp,by omega,by omega,E,hm,hEs,rfl⟩
end Go.AM
