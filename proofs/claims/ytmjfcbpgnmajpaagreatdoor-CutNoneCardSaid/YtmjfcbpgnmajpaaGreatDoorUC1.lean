/- Any good order, by turns: the law's own function. -/
import Derived.Test.YtmjfcbpgnmajpaaGreatDoorP29
import Derived.Test.YtmjfcbpgnmajpaaGreatDoorP27
namespace Go.AM
open Go.Proofs
set_option maxRecDepth 100000
set_option maxHeartbeats 1000000
abbrev bb' (n:Int):ab:=.int .u8 n
def nt (l:List Int):Prop:=l.length ≤ maxLen ∧ ∀ x ∈ l,0 ≤ x ∧ x ≤ 255
def dL (l:List Int) (n:Nat):Nat:=if l.length = 0 then 0 else (l.getD (n % l.length) 0).toNat
theorem lA (a:Nat) {m:Nat} (h:0 < m):((a:Int).tmod (m:Int)).toNat = a % m ∧ 0 ≤ (a:Int).tmod (m:Int) ∧ (a:Int).tmod (m:Int) < (m:Int) ∧ (a:Int).tmod (m:Int) = ((a % m:Nat):Int):=by
  have hm:=Nat.mod_lt a h
  have e0:(a:Int).tmod (m:Int) = ((a % m:Nat):Int):=by rw [Int.tmod_eq_emod_of_nonneg (by omega)]; rfl
  exact ⟨by rw [e0,Int.toNat_natCast],by rw [e0]; omega,by rw [e0]; omega,e0⟩
theorem mf (l:List Int) (hl:nt l) (n:Nat) (_hn:n ≤ maxLen) (σ:af):Spec Tryz.prog H2 [.slice 1 (l.map bb'),nn' n] σ fun r σ'=>r = .ret (nn' (dL l n)) ∧ σ' = σ:=by
  refine Spec.ay (RQ (by simp) (dm _ ?_)) (by simp [av (f:=bb') (fun _=>rfl) l]) rfl σ
  refine (Classical.em (l.length = 0)).elim (fun h0=>?_) (fun h0=>?_)
  · simp [HI,h0,dL]
  have hlt:n % l.length < l.length:=Nat.mod_lt _ (by omega)
  obtain ⟨x,hx⟩:∃ x,l[n % l.length] = x:=⟨_,rfl⟩
  have hb:=hl.2 x (hx ▸ List.getElem_mem hlt)
  have hm:=hl.1
  have e0:(n:Int).tmod (l.length:Int) = ((n % l.length:Nat):Int):=by rw [Int.tmod_eq_emod_of_nonneg (by omega)]; rfl
  have e1:((n:Int).tmod (l.length:Int)).toNat = n % l.length:=by rw [e0,Int.toNat_natCast]
  have e2:0 ≤ (n:Int).tmod (l.length:Int):=by rw [e0]; omega
  have e6:(n:Int).tmod (l.length:Int) < (l.length:Int):=by rw [e0]; omega
  have e3:IntKind.i64.wrap x = x:=an (by omega) (by omega)
  have e4:dL l n = x.toNat:=by
    unfold dL
    rw [if_neg h0,List.getD_eq_getElem?_getD,List.getElem?_eq_getElem hlt,hx]; rfl
  have e5:((x.toNat:Nat):Int) = x:=Int.toNat_of_nonneg hb.1
  simp [HI,h0]
  simp [e1,e2,e6,hlt,hx,e3,e4,e5]
theorem dA (t:ah) (hok:t.Ok) (σ:af):Spec Tryz.prog HQ [t.v] σ fun r σ'=>r = .ret (.bool (decide ((aN t).2.2 = 0))) ∧ σ' = σ:=by
  refine Spec.ay (PU (by simp) (dm _ ?_)) (by simp [aM,t.pure]) rfl σ
  have h1:=fun σ=>k9 t hok σ
  simp [Ow,ah.v,ah.cells]
  refine aj.pure N5 (h1 _) ?_
  simp [aS,G7]
theorem Cv {t:ah} {s:Nat}:dH t s t.ar.length = bq t s:=rfl
theorem Ev (t:ah) (s i:Nat):(dH t s i).length ≤ i:=by
  unfold dH
  exact Nat.le_trans (List.length_filter_le _ _) (by simp)
theorem fN (t:ah) (hok:t.Ok) (hf:t.Fit) (l:List Int) (hl:nt l) (most:Nat) (σ:af):Spec Tryz.prog HD [t.v, .slice 1 (l.map bb'),nn' most] σ fun r σ'=>r = .ret (.slice 1 ((qk t (dL l) most).map nn')) ∧ σ' = σ:=by
  refine Spec.ay (Ql (by simp) (dm _ ?_)) (by simp [aM,t.pure,ab.pure,av (f:=bb') (fun _=>rfl) l]) (by simp [ab.pure,av (f:=nn') (fun _=>rfl)]) σ
  have h7:=hf.ship7
  obtain ⟨b,hb⟩:∃ b,qk t (dL l) most = b:=⟨_,rfl⟩
  rw [hb]
  have hma:IntKind.i64.wrap ((2:Int) ^ t.ar.length - 1) = ((aP t:Nat):Int):=by
    have:=bU hf
    have h1:1 ≤ 2 ^ t.ar.length:=Nat.one_le_two_pow
    have e:(2:Int) ^ t.ar.length = ((2 ^ t.ar.length:Nat):Int):=by simp
    unfold aP at this ⊢
    rw [an (by omega) (by omega)]; omega
  simp [Mx,ah.v,ah.cells]
  refine aj.pure SD (tO t hok hf _) ?_
  simp [s5]
  refine aj.pure xS (bP t.ar.length h7 _) ?_
  simp [hma]
  refine AW.loop (ι:=Nat) (fun n fr σ=>∃ out s k tl,fr = { v:=[(1, .slice 1 (l.map bb')),(2,nn' most),(7, .pval (.agg [nn' t.ar.length, .slice 1 (gq t (2 ^ t.ar.length))])),(8,nn' s),(9, .oslice 1 (List.map nn' out) 1 k)],ds:=[] } ∧ σ = .dead :: .spare 1 k :: tl ∧ goT t out (aP t) = some s ∧ Sub t s ∧ out.length = n ∧ n ≤ most ∧ vy t (dL l) (most - n) s out = b) (fun n=>most - n) 0 ⟨[],aP t,0,[],by simp,by simp,rfl,Sub.all t,rfl,by omega,hb⟩ ?_
  rintro n fr σ ⟨out,s,k,tl,rfl,rfl,hg,hs,hlen,hn,hgs⟩
  have h128:=hs.lt hf
  have hsp:=hs.pow
  have hspI:=Sd hsp
  have ho7:=dh hf hg
  refine (Nat.lt_or_ge n most).elim (fun hlt=>?_) (fun hge=>?_)
  rotate_left
  · have he:most - n = 0:=by omega
    rw [he,vy] at hgs
    subst hgs
    have:¬ out.length < most:=by omega
    refine dm _ ?_
    simp [this]
  have hlt':out.length < most:=by omega
  refine dm _ ?_
  simp [hlt']
  refine AW.loop (ι:=Nat) (fun i fr σ=>∃ k2,fr = { v:=[(1, .slice 1 (l.map bb')),(2,nn' most),(7, .pval (.agg [nn' t.ar.length, .slice 1 (gq t (2 ^ t.ar.length))])),(8,nn' s),(9, .oslice 1 (List.map nn' out) 1 k),(10, .oslice 1 ((dH t s i).map nn') (tl.length + 2) k2),(11,nn' i)],ds:=[] } ∧ σ = .dead :: .spare 1 k :: (tl ++ [.spare 1 k2]) ∧ i ≤ t.ar.length) (fun i=>t.ar.length - i) 0 ⟨0,by simp [dH],by simp,by omega⟩ ?_
  rintro i fr σ ⟨k2,rfl,rfl,hi⟩
  refine (Nat.lt_or_ge i t.ar.length).elim (fun hil=>?_) (fun hig=>?_)
  · have hw1:IntKind.i64.wrap ((i:Int) + 1) = ((i + 1:Nat):Int):=by rw [an (by omega) (by omega)]; simp
    have hcs:=cy t s i
    have hcl:=Ev t s i
    refine dm _ ?_
    refine (Classical.em (bD t s i = 0)).elim (fun hz=>?_) (fun hz=>?_)
    · rw [if_pos hz] at hcs
      simp [hil,hsp,hspI,hz,hw1,yb]
      exact ⟨by intro v hv; simp at hv; subst hv; exact ⟨⟨rfl,rfl⟩,rfl⟩,by omega,i + 1,by omega,k2 + 1,⟨⟨by rw [hcs]; simp,rfl⟩,by simp⟩,rfl,by omega⟩
    · rw [if_neg hz,List.append_nil] at hcs
      have hzI:¬ (bD t s i:Int) = 0:=by omega
      simp [hil,hsp,hspI,hz,hw1,yb]
      exact ⟨i + 1,by omega,k2,⟨⟨by rw [hcs],rfl⟩,by simp⟩,rfl,by omega⟩
  obtain rfl:i = t.ar.length:=by omega
  rw [Cv]
  have e1:most - n = (most - n - 1) + 1:=by omega
  rw [e1,vy] at hgs
  refine (Classical.em (bq t s = [])).elim (fun hc=>?_) (fun hc=>?_)
  · rw [if_pos hc] at hgs
    refine dm _ ?_
    simp [hc,hgs]
  rw [if_neg hc,hlen] at hgs
  have hcp:0 < (bq t s).length:=List.length_pos_iff.2 hc
  obtain ⟨c,hcv⟩:∃ c,(bq t s).getD (dL l n % (bq t s).length) 0 = c:=⟨_,rfl⟩
  have hcm:=bg.1 (hcv ▸ x8 hc (dL l n))
  rw [hcv] at hgs
  have hml:dL l n % (bq t s).length < (bq t s).length:=Nat.mod_lt _ hcp
  have hcg:(bq t s)[dL l n % (bq t s).length] = c:=by rw [← hcv,List.getD_eq_getElem?_getD,List.getElem?_eq_getElem hml]; rfl
  have hrm:=DH h128 (i:=c) (by omega) (eA hcm.2)
  have htu:=mf l hl n (by simp only [maxLen]; omega)
  refine dm _ ?_
  simp [hc,hlen]
  refine aj.pure IC (htu _) ?_
  obtain ⟨f1,f2,f3,_⟩:=lA (dL l n) hcp
  simp [hc,f1,f2,f3,hml,hcg]
  refine ⟨by intro v hv; simp at hv; subst hv; exact ⟨⟨rfl,rfl⟩,rfl⟩,by omega, ?_⟩
  refine aj.pure xS (bP c (by omega) _) ?_
  simp [hrm]
  exact ⟨n + 1,by omega,out ++ [c],aK s c,k + 1,⟨rfl,by simp [f1,hml,hcg],rfl⟩,rfl,by rw [fS,hg,Option.bind_some,goT,if_pos hcm,goT],hs.rem,by simp; omega,by omega,by rw [show most - (n + 1) = most - n - 1 by omega]; exact hgs⟩
end Go.AM
