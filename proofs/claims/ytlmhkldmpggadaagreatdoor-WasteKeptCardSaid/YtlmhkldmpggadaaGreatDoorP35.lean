/- Chapter 09: the reference's Check and Wrong; which yards are valid. Chapter 09: journeys, counts that are found, ends: of the program. Chapter 09: what journeys allow, copies that differ: of the program. -/
import Derived.Test.YtlmhkldmpggadaaGreatDoorP34
namespace Go.AM
open Go.Proofs
set_option maxRecDepth 100000
set_option maxHeartbeats 1000000
theorem kM (y:ab) (hy:dv y) (σ:af):Spec Tryz.prog Oa [y.v] σ fun r σ'=>r = .ret (df (cN aQ y)) ∧ σ' = σ:=by
 refine Spec.aF (Tx (by simp) ?_) (by simp [y.pure,aH]) (by simp [df,ag.pure,aH]) σ;have hI1:=fun σ=>cr y.kinds.length 1 4 σ;have hI2:=fun σ=>cr y.places.length 1 4 σ;have hn1:=fun σ=>n9 y.kinds hy.kinds σ;have hn2:=fun σ=>n9 y.places hy.places σ;have hc1:=fun σ=>nJ y hy y.first hy.first σ
 have hc2:=fun σ=>nJ y hy y.last hy.last σ;have hpp:=fun i hi σ=>vW y hy i hi σ;have hm:=hy.papers;simp only [ab.v,ab.cells,dt] at hc1 hc2 hpp;by_cases a1:inI y.kinds.length 1 4 = false
 ·have hv:cN aQ y = (1,0,3):=by unfold cN; rw [if_pos (.inl a1)]
  rw [hv];rw [a1] at hI1;refine aa _ ?_;simp [Bn,ab.v,ab.cells];refine ah.pure cU (hI1 _) ?_;simp [df]
 rw [Bool.not_eq_false] at a1;rw [a1] at hI1;by_cases a2:inI y.places.length 1 4 = false
 ·have hv:cN aQ y = (1,0,3):=by unfold cN; rw [if_pos (.inr (.inl a2))]
  rw [hv];rw [a2] at hI2;refine aa _ ?_;simp [Bn,ab.v,ab.cells];refine ah.pure cU (hI1 _) ?_;simp;refine ah.pure cU (hI2 _) ?_;simp [df]
 rw [Bool.not_eq_false] at a2;rw [a2] at hI2;by_cases a3:10 < y.papers.length ∨ 8 < y.first.length ∨ 8 < y.last.length
 ·have hv:cN aQ y = (1,0,3):=by unfold cN; rw [if_pos (.inr (.inr a3))]
  rw [hv];by_cases b1:10 < y.papers.length <;> by_cases b2:8 < y.first.length
  all_goals have b1I:(10 < y.papers.length) ↔ (10:Int) < y.papers.length:=by omega
  all_goals have b2I:(8 < y.first.length) ↔ (8:Int) < y.first.length:=by omega
  all_goals have b3I:(8 < y.last.length) ↔ (8:Int) < y.last.length:=by omega
  all_goals rw [b1I] at b1
  all_goals rw [b2I] at b2
  all_goals rw [b1I,b2I,b3I] at a3
  all_goals refine aa _ ?_
  all_goals simp [Bn,ab.v,ab.cells]
  all_goals refine ah.pure cU (hI1 _) ?_
  all_goals simp
  all_goals refine ah.pure cU (hI2 _) ?_
  ·simp [df,b1]
  ·simp [df,b1]
  ·simp [df,b1,b2]
  ·have b3:(8:Int) < y.last.length:=a3.elim (fun h=>absurd h b1) fun h=>h.elim (fun h=>absurd h b2) id;simp [df,b1,b2,b3]
 have b1:¬ (10:Int) < y.papers.length:=by omega
 have b2:¬ (8:Int) < y.first.length:=by omega
 have b3:¬ (8:Int) < y.last.length:=by omega
 have hv:cN aQ y = if (aG (gp aQ y.kinds) y.kinds 0).2 ≠ 0 then (2,aG (gp aQ y.kinds) y.kinds 0)
   else if (aG (gp aQ y.places) y.places 0).2 ≠ 0 then (3,aG (gp aQ y.places) y.places 0)
   else if (aG (gN y y.first) y.first 0).2 ≠ 0 then (4,aG (gN y y.first) y.first 0)
   else if (aG (mD y) y.papers 0).2 ≠ 0 then (5,aG (mD y) y.papers 0)
   else if (aG (gN y y.last) y.last 0).2 ≠ 0 then (6,aG (gN y y.last) y.last 0)
   else (0,0,0):=by unfold cN; rw [if_neg (by rw [a1,a2]; simpa using a3)]
 rw [hv];obtain ⟨⟨i1,e1⟩,h1⟩:∃ p,aG (gp aQ y.kinds) y.kinds 0 = p:=⟨_,rfl⟩;obtain ⟨⟨i2,e2⟩,h2⟩:∃ p,aG (gp aQ y.places) y.places 0 = p:=⟨_,rfl⟩;obtain ⟨⟨i3,e3⟩,h3⟩:∃ p,aG (gN y y.first) y.first 0 = p:=⟨_,rfl⟩
 obtain ⟨⟨i5,e5⟩,h5⟩:∃ p,aG (gN y y.last) y.last 0 = p:=⟨_,rfl⟩;rw [h1] at hn1;rw [h2] at hn2;rw [h3] at hc1;rw [h5] at hc2;rw [h1,h2,h3,h5];dsimp only at hn1 hn2 hc1 hc2 ⊢;by_cases z1:e1 = 0;rotate_left
 ·rw [if_pos z1];refine aa _ ?_;simp [Bn,ab.v,ab.cells];refine ah.pure cU (hI1 _) ?_;simp;refine ah.pure cU (hI2 _) ?_;simp [b1,b2,b3];refine ah.pure D0 (hn1 _) ?_;simp [z1,df]
 rw [if_neg (by simp [z1])];by_cases z2:e2 = 0;rotate_left
 ·rw [if_pos z2];refine aa _ ?_;simp [Bn,ab.v,ab.cells];refine ah.pure cU (hI1 _) ?_;simp;refine ah.pure cU (hI2 _) ?_;simp [b1,b2,b3];refine ah.pure D0 (hn1 _) ?_;simp [z1];refine ah.pure D0 (hn2 _) ?_;simp [z2,df]
 rw [if_neg (by simp [z2])];by_cases z3:e3 = 0;rotate_left
 ·rw [if_pos z3];refine aa _ ?_;simp [Bn,ab.v,ab.cells];refine ah.pure cU (hI1 _) ?_;simp;refine ah.pure cU (hI2 _) ?_;simp [b1,b2,b3];refine ah.pure D0 (hn1 _) ?_;simp [z1];refine ah.pure D0 (hn2 _) ?_;simp [z2];refine ah.pure MK (hc1 _) ?_;simp [z3,df]
 rw [if_neg (by simp [z3])];refine aa _ ?_;simp [Bn,ab.v,ab.cells];refine ah.pure cU (hI1 _) ?_;simp;refine ah.pure cU (hI2 _) ?_;simp [b1,b2,b3];refine ah.pure D0 (hn1 _) ?_;simp [z1];refine ah.pure D0 (hn2 _) ?_;simp [z2];refine ah.pure MK (hc1 _) ?_;simp [z3];refine AW.loop (ι:=Nat) (fun i fr σ=>fr = { v:=[(1, .pval (.agg [.slice 1 (y.kinds.map .str), .slice 1 (y.places.map .str), .slice 4 (y.first.map ay.v), .slice 5 (y.papers.map aj.v), .slice 4 (y.last.map ay.v)])),(7, .int .i64 i)],ds:=[] } ∧ i ≤ y.papers.length ∧ aG (mD y) y.papers 0 = aG (mD y) (y.papers.drop i) i) (fun i=>y.papers.length - i) 0 (by simp) ?_;rintro i fr σ ⟨rfl,hi,hq⟩;refine (Nat.lt_or_ge i y.papers.length).elim (fun hlt=>?_) (fun hge=>?_)
 ·rw [pj _ _ hlt] at hq;have hpi:=fun σ=>hpp i hlt σ;have hw:IntKind.i64.wrap ((i:Int) + 1) = ((i + 1:Nat):Int):=by rw [aq (by omega) (by simp only [maxLen] at hm; omega)]; simp
  obtain ⟨e,he⟩:=zqq (mD y i y.papers[i]);rw [he] at hpi hq;by_cases h0:e = 0
  ·rw [if_neg (by simp [h0])] at hq;refine aa _ ?_;simp [hlt];refine ah.pure OD (hpi _) ?_;simp [h0,hw];exact ⟨i + 1,by omega,rfl,by omega,hq⟩
  ·rw [if_pos h0] at hq;rw [hq];refine aa _ ?_;simp [hlt];refine ah.pure OD (hpi _) ?_;simp [h0,df]
 ·have hd:y.papers.drop i = []:=List.drop_eq_nil_of_le hge;have hn:aG (mD y) [] i = (0,0):=rfl;rw [hd,hn] at hq;rw [hq];refine aa _ ?_;simp [show ¬ i < y.papers.length by omega];refine ah.pure MK (hc2 _) ?_;by_cases z5:e5 = 0
  ·have hz:=A3 (f:=gN y y.last) (l:=y.last) (i:=0) (by rw [h5]; exact z5);simp [z5,df]
  ·simp [z5,df]
theorem oM (y:ab) (hy:dv y) (w:List Int) (hwl:w.length ≤ maxLen) (σ:af) :
  Spec Tryz.prog M9 [y.v, .slice 1 (w.map ii')] σ fun r σ'=>r = .ret (ii' (bW y w)) ∧ σ' = σ:=by
 refine Spec.aF (SA (by simp) ?_) (by simp [y.pure,aH,ag.pure,aD (f:=ii') (fun _=>rfl)]) rfl σ;have hc:=fun σ=>kM y hy σ;have hm:=hy.papers;simp only [maxLen] at hm hwl;simp only [ab.v,ab.cells,df] at hc;obtain ⟨e0,he0⟩:∃ e,(cN aQ y).2.2 = e:=⟨_,rfl⟩;rw [he0] at hc;have hop:bW y w = if e0 ≠ 0 then e0 else (aG (vd y w) w 0).2:=by unfold bW; rw [he0]
 obtain ⟨nm,hnm⟩:=zqq ((y.papers.length:Int) - 1);have w1:IntKind.i64.wrap ((y.papers.length:Int) - 1) = nm:=by rw [aq (by omega) (by omega),hnm]
 refine aa _ ?_;simp [O1,ab.v,ab.cells];refine ah.pure FK (hc _) ?_;simp;refine AW.loop (ι:=Nat) (fun m fr σ=>∃ (i:Nat) (e:Int),fr = { v:=[(1, .slice 1 (w.map ii')),(2, .pval (.agg [.slice 1 (y.kinds.map .str), .slice 1 (y.places.map .str), .slice 4 (y.first.map ay.v), .slice 5 (y.papers.map aj.v), .slice 4 (y.last.map ay.v)])),(7, .int .i64 e),(8, .int .i64 i)],ds:=[] } ∧ m = w.length - i ∧ i ≤ w.length ∧ (e ≠ 0 → bW y w = e) ∧ (e = 0 → bW y w = (aG (vd y w) (w.drop i) i).2)) (fun m=>m) w.length ⟨0,e0,by simp,by omega,by omega,fun h=>by rw [hop,if_pos h],fun h=>by rw [hop,if_neg (by simp [h])]; rfl⟩ ?_;rintro m fr σ ⟨i,e,rfl,rfl,hi,h1,h2⟩;by_cases hz:e = 0;rotate_left
 ·rw [h1 hz];by_cases hlt:i < w.length
  ·refine aa _ ?_;simp [hlt,hz]
  ·refine aa _ ?_;simp [hlt]
 have hv:=h2 hz;subst hz;by_cases hlt:i < w.length;rotate_left
 ·have hd:w.drop i = []:=List.drop_eq_nil_of_le (by omega);rw [hd] at hv;rw [hv];refine aa _ ?_;simp [hlt,aG]
 rw [pj _ _ hlt] at hv;obtain ⟨x,hx⟩:=zqq (w[i]);rw [hx] at hv;have hw:IntKind.i64.wrap ((i:Int) + 1) = ((i + 1:Nat):Int):=by rw [aq (by omega) (by omega)]; simp
 have hI:=fun σ=>cr x 0 nm σ;by_cases a1:inI x 0 nm = false
 ·have hw4:vd y w i x = 4:=by unfold vd; rw [hnm,if_pos a1]
  rw [hw4,if_pos (by decide)] at hv;rw [a1] at hI;refine aa _ ?_;simp [hlt,hx,w1];refine ⟨_,fun σ'=>aE.func cU (hI σ'), ?_⟩;simp [hw];exact ⟨w.length - (i + 1),by omega,i + 1,_,⟨rfl,by simp⟩,rfl,by omega,fun _=>hv,fun h=>absurd h (by decide)⟩
 rw [Bool.not_eq_false] at a1;rw [a1] at hI;have hw5:vd y w i x = if 0 < i ∧ x ≤ w.getD (i - 1) 0 then 2 else 0:=by unfold vd; rw [hnm,if_neg (by simp [a1])]
 by_cases h0:0 < i;rotate_left
 ·obtain rfl:i = 0:=by omega
  have hx0:w[0]? = some x:=by rw [List.getElem?_eq_getElem hlt,hx]
  rw [if_neg (by simp)] at hw5;rw [hw5,if_neg (by simp)] at hv;refine aa _ ?_;simp [hlt,hx,w1];refine ⟨_,fun σ'=>aE.func cU (hI σ'), ?_⟩;simp [show IntKind.i64.wrap (1:Int) = 1 from rfl,show IntKind.i64.wrap (-1:Int) = -1 from rfl,hx0];exact ⟨w.length - 1,by omega,1,0,⟨rfl,by simp⟩,rfl,by omega,fun h=>absurd rfl h,fun _=>hv⟩
 have hlt1:i - 1 < w.length:=by omega
 obtain ⟨z,hzz⟩:=zqq (w[i - 1]);have hgd:w.getD (i - 1) 0 = z:=by rw [List.getD_eq_getElem?_getD,List.getElem?_eq_getElem hlt1,hzz]; rfl
 have ws:IntKind.i64.wrap ((i:Int) - 1) = ((i - 1:Nat):Int):=by rw [aq (by omega) (by omega)]; omega
 have h0I:(0:Int) < i:=by omega
 rw [hgd] at hw5;by_cases hxz:x ≤ z
 ·rw [if_pos ⟨h0,hxz⟩] at hw5;rw [hw5,if_pos (by decide)] at hv;refine aa _ ?_;simp [hlt,hx,w1];refine ⟨_,fun σ'=>aE.func cU (hI σ'), ?_⟩;simp [h0,ws,hlt1,hzz,hxz,hw];exact ⟨w.length - (i + 1),by omega,i + 1,_,⟨rfl,by simp⟩,rfl,by omega,fun _=>hv,fun h=>absurd h (by decide)⟩
 ·rw [if_neg (by simp [hxz])] at hw5;rw [hw5,if_neg (by simp)] at hv;refine aa _ ?_;simp [hlt,hx,w1];refine ⟨_,fun σ'=>aE.func cU (hI σ'), ?_⟩;simp [h0,ws,hlt1,hzz,hxz,hw];exact ⟨w.length - (i + 1),by omega,i + 1,0,⟨rfl,by simp⟩,rfl,by omega,fun h=>absurd rfl h,fun _=>hv⟩
def mT (wrong:List Nat):ag:=.slice 1 (wrong.map fun i:Nat=>ii' (i:Int))
def bb (wrong:List Nat):List Int:=wrong.map fun i:Nat=>(i:Int)
theorem mZ (wrong:List Nat):mT wrong = .slice 1 ((bb wrong).map ii'):=by unfold mT bb; rw [List.map_map]; rfl
theorem mj (wrong:List Nat):(mT wrong).pure = true:=by rw [mZ]; simp [ag.pure,aD (f:=ii') (fun _=>rfl)]
def ou (wrong:List Nat):Prop:=wrong.length ≤ maxLen
theorem qb (wrong:List Nat) (hw:ou wrong) (i:Nat) (σ:af) :
  Spec Tryz.prog EE [mT wrong,ii' i] σ fun r σ'=>r = .ret (.bool (decide (i ∈ wrong))) ∧ σ' = σ:=by
 have h:=lF (bb wrong) (i:Int) (by unfold bb; rw [List.length_map]; exact hw) σ;have e:∀ l:List Nat,(bb l).contains (i:Int) = decide (i ∈ l):=fun l=>by
  rw [Bool.eq_iff_iff];simp [bb];exact ⟨fun ⟨a,h1,h2⟩=>(show a = i by omega) ▸ h1,fun h=>⟨i,h,rfl⟩⟩
 rw [mZ];rw [e] at h; exact h
theorem mr (y:ab) (i:Nat) (hi:i < y.papers.length) (σ:af) :
  Spec Tryz.prog JM [y.v,ii' i] σ fun r σ'=>r = .ret (.bool (br y.papers[i] i)) ∧ σ' = σ:=by
 refine Spec.aF (Sd (by simp) (aa _ ?_)) (by simp [y.pure,aH,ag.pure]) rfl σ;obtain ⟨p,hp⟩:=zqq (y.papers[i]);rw [hp];simp [LM,ab.v,ab.cells,hi,hp,aj.v,aj.cells,br]
theorem qQ (c:ay) (k p:Int) (σ:af):Spec Tryz.prog EV [c.v, .pval (.agg [ii' k,ii' p])] σ fun r σ'=>r = .ret (.bool (decide (c.kind = k) && decide (c.place = p))) ∧ σ' = σ:=by
 refine Spec.aF (P7 (by simp) (aa _ ?_)) (by simp [c.pure,aH,ag.pure]) rfl σ;simp [Md,ay.v,ay.cells];rw [Bool.eq_iff_iff]; simp
theorem kX (g:FuncId) (caps:List ag) (hp:aH caps = true) (p:ay → Bool) (l:List ay) (hl:l.length ≤ maxLen) (hf:∀ x ∈ l,oO Tryz.prog (.func (.func g) [] caps) [x.v] (.bool (p x))) (σ:af) :
  Spec Tryz.prog Jk [.slice 4 (l.map ay.v), .func (.func g) [] caps] σ fun r σ'=>r = .ret (.int .i64 (gP p l 0)) ∧ σ' = σ:=by
 refine Spec.aF (OX (by simp) (aa _ ?_)) (by simp [hp,aD (f:=ay.v) (fun c=>c.pure) l]) rfl σ;simp [LU];refine AW.loop (ι:=Nat) (fun i fr σ=>fr = { v:=[(0, .slice 4 (l.map ay.v)),(1, .func (.func g) [] caps),(7, .int .i64 l.length),(8, .int .i64 i)],ds:=[] } ∧ i ≤ l.length ∧ gP p l 0 = gP p (l.drop i) i) (fun i=>l.length - i) 0 (by simp) ?_;rintro i fr σ ⟨rfl,hi,hpi⟩;refine (Nat.lt_or_ge i l.length).elim (fun hlt=>?_) (fun hge=>?_)
 ·have hd:l.drop i = l[i] :: l.drop (i + 1):=List.drop_eq_getElem_cons hlt;have hx:=hf l[i] (List.getElem_mem _);obtain ⟨x,hxe⟩:=zqq (l[i]);rw [hd,hxe] at hpi;rw [hxe] at hx;have hw:=oE hlt hl;simp only [gP,ay.v,ay.cells] at hpi hx;rcases tf (p x) with h | h
  ·rw [h] at hpi hx;refine aa _ ?_;simp [hlt,hxe,ay.v,ay.cells];refine ah.of (hx σ) ?_;simp [hw];exact ⟨i + 1,by omega,by simp,by omega,by simpa using hpi⟩
  ·rw [h] at hpi hx;refine aa _ ?_;simp [hlt,hxe,ay.v,ay.cells];refine ah.of (hx σ) ?_;simp [hpi]
 ·have:l.drop i = []:=List.drop_eq_nil_of_le hge;rw [this] at hpi;refine aa _ ?_;simp [show ¬ i < l.length by omega,hpi,gP]
theorem qw (q:ay → Bool):∀ (l:List ay) (i:Nat),(gP q l i < 0 ∧ l.find? q = none) ∨ ∃ j, ∃ h:j < l.length,gP q l i = ((i + j:Nat):Int) ∧ l.find? q = some l[j]
 | [],i=>.inl ⟨by simp [gP],rfl⟩
 | a :: r,i=>by
  have e:gP q (a :: r) i = if q a then (i:Int) else gP q r (i + 1):=rfl;by_cases h:q a = true
  ·right; refine ⟨0,by simp,by rw [e,if_pos h]; simp,by simp [h]⟩
  ·have h':q a = false:=by simpa using h
   rcases qw q r (i + 1) with ⟨h1,h2⟩ | ⟨j,hj,h1,h2⟩
   ·left; exact ⟨by rw [e,if_neg h]; exact h1,by simp [h',h2]⟩
   ·right; exact ⟨j + 1,by simpa using hj,by rw [e,if_neg h,h1]; congr 1; omega,by simp [h',h2]⟩
def yQ (o:Option ay):ag:=.agg [ii' (loC o),ii' (hiC o)]
theorem fL (l:List ay) (hl:l.length ≤ maxLen) (k p:Int) (σ:af) :
  Spec Tryz.prog Jz [.slice 4 (l.map ay.v), .agg [ii' k,ii' p]] σ fun r σ'=>r = .ret (.tup [yQ (aB l k p), .bool (aB l k p).isSome]) ∧ σ' = σ:=by
 refine Spec.aF (Pm (by simp) ?_) (by simp [aH,ag.pure,aD (f:=ay.v) (fun c=>c.pure)]) (by simp [ag.pure,aH,yQ]) σ;have hx:=kX EV [.pval (.agg [ii' k,ii' p])] rfl (fun c=>decide (c.kind = k) && decide (c.place = p)) l hl (fun c _=>oO.fn Ps fun σ=>qQ c k p σ);rcases qw (fun c=>decide (c.kind = k) && decide (c.place = p)) l 0 with ⟨h1,h2⟩ | ⟨j,hj,h1,h2⟩
 ·have hfo:aB l k p = none:=h2;rw [hfo];refine aa _ ?_;simp [HJ];refine ah.pure L6 (hx _) ?_;simp [h1,yQ,loC,hiC]
 ·have hfo:aB l k p = some l[j]:=h2;rw [hfo];obtain ⟨c,hc⟩:=zqq (l[j]);rw [h1] at hx;rw [hc];simp only [Nat.zero_add] at hx;refine aa _ ?_;simp [HJ];refine ah.pure L6 (hx _) ?_;simp [hj,hc,ay.v,ay.cells,yQ,loC,hiC,show ¬ (j:Int) < 0 by omega]
def qu:ag:=.agg [.func (.func rL) [] [], .func (.func sC) [] [], .func (.func sC) [] [], .func (.func rL) [] []]
theorem ln (a b:Int) (σ:af):Spec Tryz.prog rL [.agg [ii' a,ii' b]] σ fun r σ'=>r = .ret (ii' a) ∧ σ' = σ:=by
 refine Spec.aF (Oo (by simp) (aa _ ?_)) rfl rfl σ;simp [Lg]
theorem ld (a b:Int) (σ:af):Spec Tryz.prog sC [.agg [ii' a,ii' b]] σ fun r σ'=>r = .ret (ii' b) ∧ σ' = σ:=by
 refine Spec.aF (Pu (by simp) (aa _ ?_)) rfl rfl σ;simp [Me]
theorem vc (σ:af):Spec Tryz.prog HC [] σ fun r σ'=>r = .ret qu ∧ σ' = σ:=by
 refine Spec.aF (QS (by simp) (aa _ ?_)) rfl rfl σ;simp [Ml,qu]
theorem rA (P:Nat) (hP:P < 16) (a:Int) (ha:a < 4) (σ:af):Spec Tryz.prog zk [ii' a, .pval (ii' P)] σ fun r σ'=>r = .ret (.bool (amg (bh P) a)) ∧ σ' = σ:=by
 refine Spec.aF (Pg (by simp) (aa _ ?_)) rfl rfl σ;by_cases h:0 ≤ a
 ·obtain ⟨n,rfl⟩:∃ n:Nat,a = n:=⟨a.toNat,by omega⟩;have key:∀ P:Nat,P < 16 → ∀ n:Nat,n < 4 → (DH BinOp.and IntKind.i64 ((P:Int).fdiv (2 ^ min n IntKind.i64.bits)) 1 == 1) = P.testBit n:=by decide +kernel
  have:=key P hP n (by omega);simp [Ht,amg,bh];exact this
 ·simp [Ht,amg,h]
theorem ot {y:ab} {j:Nat} (h:j < y.papers.length):bM y j = y.papers[j].kilos:=by unfold bM; rw [List.getElem?_eq_getElem h]
theorem lf {nm:ByteArray → Bool} {y:ab} (hv:bJ nm y) (wrong:List Nat) (hw:ou wrong) (i:Nat) (hi:i < y.papers.length) (σ:af) :
  Spec Tryz.prog HG [y.v,ii' i,mT wrong] σ fun r σ'=>r = .ret (.agg [ii' (aZ y wrong y.papers[i] i).1,ii' (aZ y wrong y.papers[i] i).2]) ∧ σ' = σ:=by
 refine Spec.aF (OQ (by simp) ?_) (by simp [y.pure,aH,ag.pure,mj]) rfl σ;have hp:=hv.papers i hi;have hm:=hv.m10;obtain ⟨p,hpe⟩:=zqq (y.papers[i]);rw [hpe] at hp ⊢;obtain ⟨S,hS⟩:∃ S:Int × Int,aZ y wrong p i = S:=⟨_,rfl⟩;rw [hS];have hcn:=fun j σ=>qb wrong hw j σ
 -- the loop over the one or two papers
 obtain ⟨L,hW⟩:∃ L,mT wrong = .slice 1 L:=⟨_,rfl⟩;rw [hW] at hcn ⊢
 have hjs:∃ js:List Nat,((p.copy < 0 ∧ js = [i]) ∨ ∃ k:Nat,p.copy = k ∧ js = [min i k,max i k]) ∧ (∀ j ∈ js,j < y.papers.length) ∧ js.length ≤ 2 ∧
   S = match js.find? (fun j=>decide (j ∉ wrong)) with
    | some j=>(bM y j,bM y j)
    | none=>(0,1000000):=by
  by_cases hc:p.copy < 0
  ·refine ⟨[i], .inl ⟨hc,rfl⟩,by simpa using hi,by simp, ?_⟩;rw [← hS]; unfold aZ; rw [if_pos hc];have hk:=ot hi;rw [hpe] at hk;by_cases h1:i ∈ wrong <;> simp [h1,hk]
  ·rcases hp.copy with e | ⟨c1,c2,c3,_⟩
   ·omega
   obtain ⟨k,hk⟩:∃ k:Nat,p.copy = k:=⟨p.copy.toNat,by omega⟩;refine ⟨[min i k,max i k], .inr ⟨k,hk,rfl⟩,by simp; omega,by simp, ?_⟩;rw [← hS]; unfold aZ; rw [if_neg hc,hk,Int.toNat_natCast];by_cases h1:min i k ∈ wrong
   ·by_cases h2:max i k ∈ wrong <;> simp [h1,h2]
   ·simp [h1]
 obtain ⟨js,hcase,hjl,hj2,hSj⟩:=hjs;refine aa _ ?_;rcases hcase with ⟨hc,hj1⟩ | ⟨k,hk,hj1⟩
 case' inl=>simp [I8,ab.v,ab.cells,aj.v,aj.cells,hi,hpe,show ¬ 0 ≤ p.copy by omega]
 case' inr=>
  have hmin:(if k < i then (k:Int) else (i:Int)) = ((min i k:Nat):Int):=by split <;> omega
  have hmax:(if i < k then (k:Int) else (i:Int)) = ((max i k:Nat):Int):=by split <;> omega
  simp [I8,ab.v,ab.cells,aj.v,aj.cells,hi,hpe,hk,hmin,hmax]
 all_goals
  refine AW.loop (ι:=Nat) (fun n fr σ'=>fr = { v:=[(2, .slice 1 L),(3, .pval y.v),(6, .ptr 0 0),(29, .slice 1 (js.map fun j:Nat=>ii' (j:Int))),(30, .int .i64 js.length),(31, .int .i64 n)],ds:=[] } ∧ σ' = [.box [ii' 0,ii' 0]] ∧ n ≤ js.length ∧ ∀ j ∈ js.take n,j ∈ wrong) (fun n=>js.length - n) 0 ⟨by simp [ab.v,ab.cells,hj1],by simp,by omega,by simp⟩ ?_;rintro n fr σ' ⟨rfl,rfl,hn,hin⟩;refine (Nat.lt_or_ge n js.length).elim (fun hlt=>?_) (fun hge=>?_)
  ·obtain ⟨j,hj⟩:=zqq (js[n]);have hjy:j < y.papers.length:=hjl j (hj ▸ List.getElem_mem hlt);have h0:=hcn j;have hkj:=ot hjy;obtain ⟨q,hq⟩:=zqq (y.papers[j]);rw [hq] at hkj;have hwn:IntKind.i64.wrap ((n:Int) + 1) = ((n + 1:Nat):Int):=by rw [aq (by omega) (by omega)]; simp
   have htk:js.take (n + 1) = js.take n ++ [j]:=by rw [List.take_succ_eq_append_getElem hlt,hj]
   by_cases h1:j ∈ wrong
   ·rw [decide_eq_true h1] at h0;refine aa _ ?_;simp [ab.v,ab.cells,hlt,hj];refine ah.pure EB (h0 _) ?_;simp [hwn]
    exact ⟨n + 1,by omega,by simp,by omega,by
     rw [htk]; intro x hx;rcases List.mem_append.1 hx with h | h
     ·exact hin x h
     ·rw [List.mem_singleton.1 h]; exact h1⟩
   ·rw [decide_eq_false h1] at h0;have hfd:js.find? (fun j=>decide (j ∉ wrong)) = some j:=by
     rw [List.find?_eq_some_iff_getElem];refine ⟨by simp [h1],n,hlt,hj,fun m hm=>?_⟩;have:=hin js[m] (List.mem_take_iff_getElem.2 ⟨m,by omega,rfl⟩);simp [this]
    rw [hfd] at hSj;dsimp only at hSj;rw [hSj,hkj];refine aa _ ?_;simp [ab.v,ab.cells,hlt,hj];refine ah.pure EB (h0 _) ?_;simp [ab.v,ab.cells,aj.v,aj.cells,hlt,hj,hjy,hq]
  ·have hfd:js.find? (fun j=>decide (j ∉ wrong)) = none:=by
    rw [List.find?_eq_none];intro x hx;rw [List.take_of_length_le hge] at hin;simp [hin x hx]
   rw [hfd] at hSj;rw [hSj];refine aa _ ?_;simp [show ¬ n < js.length by omega]
theorem GF {y:ab} {wrong:List Nat} {i:Nat} (hi:i < y.papers.length):cD y wrong i = (decide ((i:Int) < y.papers[i].copy) && !mY wrong i && !mY wrong y.papers[i].copy.toNat && decide (y.papers[i].kilos ≠ bM y y.papers[i].copy.toNat)):=by
 unfold cD; rw [List.getElem?_eq_getElem hi]
theorem kG {nm:ByteArray → Bool} {y:ab} (hv:bJ nm y) (wrong:List Nat) (hw:ou wrong) (i:Nat) (hi:i < y.papers.length) (σ:af) :
  Spec Tryz.prog M5 [y.v,ii' i,mT wrong] σ fun r σ'=>r = .ret (.bool (cD y wrong i)) ∧ σ' = σ:=by
 refine Spec.aF (TZ (by simp) ?_) (by simp [y.pure,aH,ag.pure,mj]) rfl σ;have hp:=hv.papers i hi;rw [GF hi];obtain ⟨p,hpe⟩:=zqq (y.papers[i]);rw [hpe] at hp ⊢;have hcn:=fun j σ=>qb wrong hw j σ;have hh:∀ j,mY wrong j = decide (j ∈ wrong):=fun j=>by rw [Bool.eq_iff_iff,ix,decide_eq_true_eq]
 rw [hh,hh];obtain ⟨L,hW⟩:∃ L,mT wrong = .slice 1 L:=⟨_,rfl⟩;rw [hW] at hcn ⊢;obtain ⟨k,hk⟩:∃ k:Nat,p.copy.toNat = k:=⟨_,rfl⟩;have hkl:k < y.papers.length:=by
  rcases hp.copy with e | ⟨c1,c2,c3,_⟩ <;> omega
 obtain ⟨q,hq⟩:=zqq (y.papers[k]);have hkq:=ot hkl;rw [hq] at hkq;rw [hk,hkq];by_cases hc:(i:Int) < p.copy;rotate_left
 ·rw [decide_eq_false hc];refine aa _ ?_;simp [KN,ab.v,ab.cells,aj.v,aj.cells,hi,hpe,hc,hk,hkl,hq];refine ⟨.bool true, ?_⟩;simp;refine ⟨.bool true, ?_⟩;simp
 have hkI:p.copy = k:=by omega
 have hik:i < k:=by omega
 by_cases h1:p.kilos = q.kilos
 ·rw [decide_eq_false (p:=p.kilos ≠ q.kilos) (by simp [h1]),Bool.and_false];refine aa _ ?_;simp [KN,ab.v,ab.cells,aj.v,aj.cells,hi,hpe,hkI,hkl,hq,hik,h1];refine ⟨.bool true, ?_⟩;simp;refine ⟨.bool true, ?_⟩;simp
 ·rw [decide_eq_true (p:=p.kilos ≠ q.kilos) h1,Bool.and_true,hkI,decide_eq_true (p:=(i:Int) < k) (by omega),Bool.true_and];have c1:=hcn i;have c2:=hcn k;obtain ⟨a,ha⟩:=zqq (decide (i ∈ wrong));obtain ⟨b,hb⟩:=zqq (decide (k ∈ wrong));rw [ha] at c1 ⊢;rw [hb] at c2 ⊢;refine aa _ ?_;simp [KN,ab.v,ab.cells,aj.v,aj.cells,hi,hpe,hkI,hkl,hq,hik,h1];refine ⟨.bool a, ?_⟩;simp;refine ⟨fun σ'=>aE.func EB (c1 σ'), .bool b, ?_⟩;simp;cases a <;> simp;exact fun σ'=>aE.func EB (c2 σ')
theorem nB {nm:ByteArray → Bool} {y:ab} (hv:bJ nm y) (wrong:List Nat) (hw:ou wrong) (σ:af) :
  Spec Tryz.prog Nn [y.v,mT wrong] σ fun r σ'=>r = .ret (ii' (match nF y wrong with | some i=>(i:Int) | none=>-1)) ∧ σ' = σ:=by
 refine Spec.aF (Uc (by simp) ?_) (by simp [y.pure,aH,mj]) rfl σ;have hm:=hv.m10;have hd:=fun i hi σ=>kG hv wrong hw i hi σ;obtain ⟨L,hW⟩:∃ L,mT wrong = .slice 1 L:=⟨_,rfl⟩;rw [hW] at hd ⊢;simp only [ab.v,ab.cells] at hd;refine aa _ ?_;simp [QQ,ab.v,ab.cells];refine AW.loop (ι:=Nat) (fun i fr _=>fr = { v:=[(1, .slice 1 L),(2, .pval y.v),(9, .int .i64 y.papers.length),(10, .int .i64 i)],ds:=[] } ∧ i ≤ y.papers.length ∧ ∀ j,j < i → cD y wrong j = false) (fun i=>y.papers.length - i) 0 ⟨by simp [ab.v,ab.cells],by omega,by simp⟩ ?_;rintro i fr σ' ⟨rfl,hi,hp⟩;refine (Nat.lt_or_ge i y.papers.length).elim (fun hlt=>?_) (fun hge=>?_)
 ·have h0:=hd i hlt;have hwi:IntKind.i64.wrap ((i:Int) + 1) = ((i + 1:Nat):Int):=by rw [aq (by omega) (by omega)]; simp
  rcases tf (cD y wrong i) with h | h
  ·rw [h] at h0;refine aa _ ?_;simp [hlt,ab.v,ab.cells];refine ah.pure ML (h0 _) ?_;simp [hwi]
   exact ⟨i + 1,by omega,by simp,by omega,fun j hj=>by
    rcases Nat.lt_or_ge j i with h' | h'
    ·exact hp j h'
    ·obtain rfl:j = i:=by omega
     exact h⟩
  ·rw [h] at h0;rw [H7 hp hlt h];refine aa _ ?_;simp [hlt,ab.v,ab.cells];refine ah.pure ML (h0 _) ?_;simp
 ·rw [Gr fun j hj=>hp j (by omega)];refine aa _ ?_;simp [show ¬ i < y.papers.length by omega]
end Go.AM
