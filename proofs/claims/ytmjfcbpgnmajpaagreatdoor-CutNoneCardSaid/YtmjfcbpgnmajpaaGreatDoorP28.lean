/- Proof: of the document. Proves: of the document. CutProofs: what the law's call returns. -/
import Derived.Test.YtmjfcbpgnmajpaaGreatDoorP27
import Derived.Test.YtmjfcbpgnmajpaaGreatDoorP24
import Derived.Test.YtmjfcbpgnmajpaaGreatDoorP25
namespace Go.AM
open Go.Proofs
set_option maxRecDepth 100000
set_option maxHeartbeats 1000000
def upL (t:ah) (n:Nat):List Int:=((List.range n).filter (hT t)).map fun s:Nat=>(s:Int)
theorem Uc (t:ah) (n:Nat):upL t (n + 1) = upL t n ++ (if hT t n = true then [(n:Int)] else []):=by
  unfold upL
  rw [List.range_succ,List.filter_append,List.map_append]
  congr 1
  cases h:hT t n <;> simp [h]
theorem UA (t:ah) (n:Nat):(upL t n).length ≤ n:=by
  unfold upL
  rw [List.length_map]
  exact Nat.le_trans (List.length_filter_le _ _) (by simp)
theorem TP (t:ah) (n:Nat):(upL t n).Pairwise (· ≤ ·):=by
  unfold upL
  rw [List.pairwise_map]
  exact (List.Pairwise.filter _ List.pairwise_lt_range).imp (fun h=>by omega)
theorem TV {t:ah} (hf:t.Fit):upL t (2 ^ t.ar.length) = yB (eS t (hG t).length):=by
  refine B5 ?_ (TP t _)
  unfold upL eS
  rw [List.take_length,show ((hG t).map fun q=>(q.1:Int)) = ((hG t).map (·.1)).map fun s:Nat=>(s:Int) by rw [List.map_map]; rfl]
  refine List.Perm.map _ ?_
  refine (List.perm_ext_iff_of_nodup (List.Pairwise.filter _ List.nodup_range) ?_).2 fun s=>?_
  · rw [List.Nodup,List.pairwise_map]
    exact (kX hf).nodup
  · rw [List.mem_filter,List.mem_range,List.mem_map]
    constructor
    · rintro ⟨_,h⟩
      exact ew.1 h
    · intro h
      exact ⟨S8 hf (ew.2 h),ew.2 h⟩
theorem Td (t:ah) (hok:t.Ok) (σ:af):Spec Tryz.prog UX [t.v] σ fun r σ'=>r = .ret (tg (rH t) (py t)) ∧ σ' = σ:=by
  refine Spec.ay (VO (by simp) (dm _ ?_)) (by simp [aM,t.pure]) (by simp [tg,ab.pure,aM,av (f:=ii') (fun _=>rfl)]) σ
  have ho:=fun σ=>SY t hok σ
  unfold TR at ho
  simp [VD,ah.v,ah.cells]
  refine (Classical.em ((aN t).2.2 = 0)).elim (fun h=>?_) (fun h=>?_)
  rotate_left
  · simp only [if_neg h] at ho
    refine aj.pure UB (ho _) ?_
    simp [h,tg,rH,py]
  simp only [if_pos h] at ho
  have hf:=bm h
  have h7:=hf.ship7
  obtain ⟨P,hP⟩:∃ P,2 ^ t.ar.length = P:=⟨_,rfl⟩
  have hpm:P ≤ 128:=by
    have:2 ^ t.ar.length ≤ 2 ^ 7:=Nat.pow_le_pow_right (by omega) (by omega)
    omega
  have hp1:0 < P:=by rw [← hP]; exact Nat.pow_pos (by omega)
  have hrl:(To t).length = P:=by simp [To,hP]
  have hrg:∀ i (hi:i < (To t).length),(To t)[i] = .bool (hT t i):=fun i hi=>by simp [To]
  have hemp:hT t 0 = tj t:=rfl
  have hup:=TV hf
  rw [hP] at hup
  obtain ⟨L,hL⟩:∃ L,To t = L:=⟨_,rfl⟩
  have hreach:=fun σ=>S4 t hf σ
  rw [hL] at hreach hrl
  simp only [hL] at hrg
  refine aj.pure UB (ho _) ?_
  simp [s5]
  refine aj.pure VJ (hreach _) ?_
  refine (tf (hT t 0)).elim (fun hz=>?_) (fun hz=>?_)
  rotate_left
  · rw [hz] at hemp
    simp [hrl,hrg,hz,hp1,h,tg,rH,py, ← hemp]
  rw [hz] at hemp
  have hpe:py t = 0:=by simp [py,h, ← hemp]
  have hpl:rH t = upL t P:=by rw [rH,if_pos hpe,hup]
  simp [hrl,hrg,hz,hp1]
  refine AW.loop (ι:=Nat) (fun s fr σ=>∃ k,fr = { v:=[(7, .slice 1 L),(8, .oslice 1 ((upL t s).map ii') 1 k),(9,nn' s)],ds:=[] } ∧ σ = [.dead, .spare 1 k] ∧ s ≤ P) (fun s=>P - s) 0 ⟨0,by simp [upL],by simp,by omega⟩ ?_
  rintro s fr σ ⟨k,rfl,rfl,hs⟩
  have hul:=UA t s
  have hus:=Uc t s
  refine (Nat.lt_or_ge s P).elim (fun hlt=>?_) (fun hge=>?_)
  rotate_left
  · have hsP:s = P:=by omega
    subst hsP
    refine dm _ ?_
    simp [hrl]
    rw [hpl,hpe]; simp [tg]
  have hws:IntKind.i64.wrap ((s:Int) + 1) = ((s + 1:Nat):Int):=by rw [an (by omega) (by omega)]; simp
  refine (tf (hT t s)).elim (fun hr=>?_) (fun hr=>?_)
  · rw [hr] at hus
    refine dm _ ?_
    simp [hrl,hrg,hlt,hr,hws]
    exact ⟨s + 1,by omega,k,⟨⟨by rw [hus]; simp,rfl⟩,by simp⟩,rfl,by omega⟩
  · rw [hr] at hus
    refine dm _ ?_
    simp [hrl,hrg,hlt,hr,hws]
    exact ⟨by intro v hv; simp at hv; subst hv; exact ⟨⟨rfl,rfl⟩,rfl⟩,by omega,s + 1,by omega,k + 1,⟨⟨by rw [hus]; simp,rfl⟩,by simp⟩,rfl,by omega⟩
set_option maxRecDepth 100000
set_option maxHeartbeats 1000000
theorem Tc (t:ah) (hok:t.Ok) (sets:List Int) (hl:sets.length ≤ maxLen) (σ:af):Spec Tryz.prog US [t.v, .slice 1 (sets.map ii')] σ fun r σ'=>r = .ret (CY (dN t sets) (iZ t sets)) ∧ σ' = σ:=by
  refine Spec.ay (VH (by simp) (dm _ ?_)) (by simp [aM,t.pure,ab.pure,av (f:=ii') (fun _=>rfl)]) rfl σ
  have ho:=fun σ=>SY t hok σ
  unfold TR at ho
  have hml:=hl
  simp only [maxLen] at hml
  simp [Vs,ah.v,ah.cells]
  refine (Classical.em ((aN t).2.2 = 0)).elim (fun h=>?_) (fun h=>?_)
  rotate_left
  · simp only [if_neg h] at ho
    refine aj.pure UB (ho _) ?_
    simp
    refine AW.loop (ι:=Nat) (fun i fr σ=>fr = { v:=[(1, .slice 1 (sets.map ii')),(6, .pval (.agg [ii' 0, .slice 1 []])),(7,ii' 0),(8,ii' (aN t).2.2),(9,ii' 0)],ds:=[] } ∧ σ = [.dead]) (fun i=>i) 0 ⟨by simp,rfl⟩ ?_
    rintro i fr σ ⟨rfl,rfl⟩
    refine dm _ ?_
    simp [h]
    have hE:iZ t sets = (aN t).2.2:=by unfold iZ; rw [if_pos h]
    have hB:dN t sets = false:=by unfold dN; rw [hE]; simp [h]
    rw [hE,hB]; rfl
  simp only [if_pos h] at ho
  have hf:=bm h
  have h7:=hf.ship7
  have ha:=bU hf
  have hw1:IntKind.i64.wrap (((aP t:Nat):Int) + 1) = ((aP t:Nat):Int) + 1:=an (by omega) (by omega)
  obtain ⟨N,hN⟩:∃ N,((aP t:Nat):Int) + 1 = N:=⟨_,rfl⟩
  rw [hN] at hw1
  refine aj.pure UB (ho _) ?_
  simp [s5]
  refine AW.loop (ι:=Nat) (fun i fr σ=>∃ e,fr = { v:=[(1, .slice 1 (sets.map ii')),(6, .pval (.agg [nn' t.ar.length, .slice 1 (gq t (2 ^ t.ar.length))])),(7,nn' (aP t)),(8,ii' e),(9,nn' i)],ds:=[] } ∧ σ = [.dead] ∧ i ≤ sets.length ∧ ((e = 0 ∧ (sets.take i).any (cO N) = false) ∨ (e = 7 ∧ sets.any (cO N) = true))) (fun i=>sets.length - i) 0 ⟨0,by simp,rfl,by omega, .inl ⟨rfl,by simp⟩⟩ ?_
  rintro i fr σ ⟨e,rfl,rfl,hi,he⟩
  refine he.elim (fun he=>?_) (fun he=>?_)
  rotate_left
  · obtain ⟨rfl,hany⟩:=he
    have hE:iZ t sets = 7:=by unfold iZ; rw [if_neg (by simp [h]),hN,hany]; rfl
    have hB:dN t sets = false:=by unfold dN; rw [hE]; simp
    refine dm _ ?_
    simp
    rw [hE,hB]; rfl
  obtain ⟨rfl,hany⟩:=he
  refine (Nat.lt_or_ge i sets.length).elim (fun hlt=>?_) (fun hge=>?_)
  · obtain ⟨x,hx⟩:∃ x,sets[i] = x:=⟨_,rfl⟩
    have hws:IntKind.i64.wrap ((i:Int) + 1) = ((i + 1:Nat):Int):=by rw [an (by omega) (by omega)]; simp
    have hin:=fun σ=>qJ x N σ
    refine (tf (cO N x)).elim (fun ho=>?_) (fun ho=>?_)
    · have hv:(decide (0 ≤ x) && decide (x < N)) = true:=by
        simp [cO] at ho
        simp; omega
      refine dm _ ?_
      simp [hlt,hx,hw1,hN]
      refine aj.aD Md (hin _) (congrArg ab.bool hv) ?_
      simp [hlt,hx,hw1,hN,hws]
      refine ⟨i + 1,by omega,0,⟨rfl,by simp⟩,by omega, .inl ⟨rfl,fun y hy=>?_⟩⟩
      rw [List.take_add_one,List.getElem?_eq_getElem hlt,hx,List.mem_append] at hy
      exact hy.elim (fun hy=>by simpa using List.any_eq_false.1 hany y hy) (fun hy=>by simp at hy; rw [hy]; exact ho)
    · have hv:(decide (0 ≤ x) && decide (x < N)) = false:=by
        simp [cO] at ho
        simp; omega
      refine dm _ ?_
      simp [hlt,hx,hw1,hN]
      refine aj.aD Md (hin _) (congrArg ab.bool hv) ?_
      simp [hlt,hx,hw1,hN,hws]
      exact ⟨i + 1,by omega,7,⟨rfl,by simp⟩,by omega, .inr ⟨rfl,x,by rw [← hx]; exact List.getElem_mem hlt,ho⟩⟩
  have hb:sets.any (cO N) = false:=by rw [List.take_of_length_le hge] at hany; exact hany
  have hE:iZ t sets = 0:=by unfold iZ; rw [if_neg (by simp [h]),hN,hb,if_neg (by simp)]
  have hnl:¬ i < sets.length:=by omega
  refine dm _ ?_
  simp [hnl]
  refine (tf (sets.contains ((aP t:Nat):Int))).elim (fun hc=>?_) (fun hc=>?_)
  · have hB:dN t sets = false:=by unfold dN; rw [hc]; simp
    refine aj.aD jc (ff sets _ hl _) (congrArg ab.bool hc) ?_
    simp
    rw [hE,hB]; rfl
  refine aj.aD jc (ff sets _ hl _) (congrArg ab.bool hc) ?_
  simp
  refine (tf (sets.contains 0)).elim (fun hz=>?_) (fun hz=>?_)
  rotate_left
  · have hB:dN t sets = false:=by unfold dN; rw [hz]; simp
    refine aj.aD jc (ff sets _ hl _) (congrArg ab.bool hz) ?_
    simp
    rw [hE,hB]; rfl
  refine aj.aD jc (ff sets _ hl _) (congrArg ab.bool hz) ?_
  simp
  have hin:∀ x ∈ sets,0 ≤ x ∧ x ≤ (aP t:Nat):=by
    intro x hx
    have:=List.any_eq_false.1 hb x hx
    simp [cO] at this
    omega
  obtain ⟨m,hm⟩:∃ m,t.ar.length = m:=⟨_,rfl⟩
  obtain ⟨P,hP⟩:∃ P,2 ^ m = P:=⟨_,rfl⟩
  have hall:aP t + 1 = P:=by
    have:0 < 2 ^ m:=Nat.pow_pos (by omega)
    rw [aP,hm]; omega
  rw [hm,hP]
  refine AW.loop (ι:=Nat) (fun i fr σ=>fr = { v:=[(1, .slice 1 (sets.map ii')),(6, .pval (.agg [nn' m, .slice 1 (gq t P)])),(10,nn' i)],ds:=[] } ∧ σ = [.dead] ∧ i ≤ sets.length ∧ ∀ (j:Nat) (h:j < sets.length),j < i → qa t sets sets[j] = true) (fun i=>sets.length - i) 0 ⟨by simp,rfl,by omega,fun j _ hj=>absurd hj (by omega)⟩ ?_
  clear hi hany hnl
  rintro i fr σ ⟨rfl,rfl,hi,hheld⟩
  refine (Nat.lt_or_ge i sets.length).elim (fun hlt=>?_) (fun hge=>?_)
  rotate_left
  · have hnl:¬ i < sets.length:=by omega
    have hall:sets.all (qa t sets) = true:=by
      rw [List.all_eq_true]
      intro x hx
      obtain ⟨j,hj,rfl⟩:=List.getElem_of_mem hx
      exact hheld j hj (by omega)
    have hB:dN t sets = true:=by unfold dN; rw [hE,hc,hz,hall]; rfl
    refine dm _ ?_
    simp [hnl]
    rw [hE,hB]; rfl
  obtain ⟨x,hx⟩:∃ x,sets[i] = x:=⟨_,rfl⟩
  have hxm:x ∈ sets:=by rw [← hx]; exact List.getElem_mem hlt
  obtain ⟨u,rfl⟩:∃ u:Nat,x = (u:Int):=⟨x.toNat,by have:=(hin x hxm).1; omega⟩
  have huP:u < P:=by have:=(hin _ hxm).2; omega
  have hu128:u < 128:=by have:=(hin _ hxm).2; omega
  have hws:IntKind.i64.wrap ((i:Int) + 1) = ((i + 1:Nat):Int):=by rw [an (by omega) (by omega)]; simp
  have hhd:qa t sets (u:Int) = (bq t u).all fun k=>sets.contains ((aK u k:Nat):Int):=rfl
  refine dm _ ?_
  simp [hlt]
  refine AW.loop (ι:=Nat) (fun k fr σ=>fr = { v:=[(1, .slice 1 (sets.map ii')),(6, .pval (.agg [nn' m, .slice 1 (gq t P)])),(10,nn' i),(11,nn' k)],ds:=[] } ∧ σ = [.dead] ∧ k ≤ m ∧ ∀ j,j < k → bD t u j = 0 → sets.contains ((aK u j:Nat):Int) = true) (fun k=>m - k) 0 ⟨by simp,rfl,by omega,fun j hj=>absurd hj (by omega)⟩ ?_
  rintro k fr σ ⟨rfl,rfl,hk,hcon⟩
  refine (Nat.lt_or_ge k m).elim (fun hkm=>?_) (fun hkm=>?_)
  rotate_left
  · have hnl:¬ k < m:=by omega
    have hxh:qa t sets (u:Int) = true:=by
      rw [hhd,List.all_eq_true]
      intro j hj
      have:=bg.1 hj
      exact hcon j (by omega) this.2
    refine dm _ ?_
    simp [hnl,hws]
    exact ⟨i + 1,by omega,by simp,by omega,fun j h hj=>by
      by_cases e:j = i
      · subst e; rw [hx]; exact hxh
      · exact hheld j h (by omega)⟩
  have hkS:k < t.ar.length:=by omega
  have hwk:IntKind.i64.wrap ((k:Int) + 1) = ((k + 1:Nat):Int):=by rw [an (by omega) (by omega)]; simp
  refine (Classical.em (bD t u k = 0)).elim (fun hw=>?_) (fun hw=>?_)
  rotate_left
  · have hzI:¬ (bD t u k:Int) = 0:=by omega
    have hzB:((bD t u k:Int) == 0) = false:=by simpa using hzI
    refine dm _ ?_
    simp [hkm,hlt,hx,huP,yb,hm,hzB,hwk]
    refine ⟨.bool false, ?_⟩
    simp
    exact ⟨k + 1,by omega,by simp,by omega,fun j hj hjw=>by
      by_cases e:j = k
      · subst e; exact absurd hjw hw
      · simpa using hcon j (by omega) hjw⟩
  have hrm:=DH hu128 (i:=k) (by omega) (eA hw)
  obtain ⟨c,hcv⟩:∃ c,sets.contains ((aK u k:Nat):Int) = c:=⟨_,rfl⟩
  have hpu:aM (sets.map ii') = true:=av (f:=ii') (fun _=>rfl) _
  refine dm _ ?_
  simp [hkm,hlt,hx,huP,yb,hm,hw,hwk,hpu]
  refine ⟨nn' (2 ^ k),fun σ'=>aC.func xS (bP k (by omega) σ'), ?_⟩
  simp [hrm]
  have hcall:∀ σ',Spec Tryz.prog Fa [.slice 1 (sets.map ii'),ii' ((aK u k:Nat):Int)] σ' fun r σ''=>r = .ret (.bool c) ∧ σ'' = σ':=fun σ'=>by rw [← hcv]; exact ff sets _ hl σ'
  refine ⟨.bool c,fun σ' _=>aC.func jc (hcall σ'), ?_⟩
  simp
  refine ⟨fun hcf=>?_,fun hct=>⟨k + 1,by omega,by simp,by omega,fun j hj hjw=>?_⟩⟩
  · have hxh:qa t sets (u:Int) = false:=by
      rw [hhd,List.all_eq_false]
      exact ⟨k,bg.2 ⟨hkS,hw⟩,by rw [hcv,hcf]; decide⟩
    have hall:sets.all (qa t sets) = false:=List.all_eq_false.2 ⟨_,hxm,by rw [hxh]; decide⟩
    have hB:dN t sets = false:=by unfold dN; rw [hall]; simp
    rw [hE,hB]; rfl
  · by_cases e:j = k
    · subst e
      rw [hct] at hcv
      simpa using hcv
    · simpa using hcon j (by omega) hjw
set_option maxRecDepth 100000
set_option maxHeartbeats 1000000
theorem Tf (t:ah):(rH t).length ≤ maxLen:=by
  unfold rH
  split
  · rename_i h
    have hc:(aN t).2.2 = 0:=by
      unfold py at h
      split at h
      · exact h
      · rename_i h2; simpa using h2
    have hf:=bm hc
    have h1:=vS hf (kX hf)
    rw [(rU _).length_eq]
    have h2:(eS t (hG t).length).length = (hG t).length:=by simp [eS]
    rw [h2]
    exact Nat.le_trans h1 (by decide)
  · simp
theorem Tn (t:ah) (hok:t.Ok) (l:List Int) (hl:l.length ≤ maxLen) (haw:∀ σ,Spec Tryz.prog Uu [] σ fun r σ'=>r = .ret (.bool true) ∧ σ' = σ) :
    Spec Tryz.prog F_5 [t.v, .slice 1 (l.map ii')] [] fun r _=>r = .ret (.bool true):=by
  have h1:=fun σ=>S2 t hok σ
  have h2:=fun σ=>Td t hok σ
  have h3:=fun σ=>kz t hok l hl σ
  have h4:=fun σ=>Tc t hok l hl σ
  have h5:=fun σ=>cG (rH t) (Tf t) σ
  obtain ⟨L,hL⟩:∃ L,(rH t).map ii' = L:=⟨_,rfl⟩
  obtain ⟨e,he⟩:∃ e,py t = e:=⟨_,rfl⟩
  obtain ⟨q,hq⟩:∃ q,dN t l = q:=⟨_,rfl⟩
  obtain ⟨f,hf⟩:∃ f,iZ t l = f:=⟨_,rfl⟩
  simp only [tg,hL,he] at h1 h2
  simp only [hL] at h5
  simp only [CY,hq,hf] at h3 h4
  refine S_5 (by simp) (dm _ ?_)
  simp [C_5,ah.v,ah.cells]
  refine aj.pure Qv (h1 _) ?_
  simp
  refine aj.pure VT (h2 _) ?_
  simp
  refine aj.pure zG (h5 _) ?_
  simp
  refine aj.pure K1 (h3 _) ?_
  simp
  refine aj.pure VR (h4 _) ?_
  simp
  exact aj.pure ka (haw _) (by simp)
end Go.AM
