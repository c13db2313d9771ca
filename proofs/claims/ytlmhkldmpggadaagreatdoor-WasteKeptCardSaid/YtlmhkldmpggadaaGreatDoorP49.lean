/- Chapter 09: WasteKept, by contracts. -/
import Derived.Test.YtlmhkldmpggadaaGreatDoorP48
namespace Go.AM
open Go.Proofs
set_option maxRecDepth 100000
set_option maxHeartbeats 4000000
theorem uq (y:ab) (k:Int) (w:List Nat):Bv (bP y k).papers.length 0 (dp y k w):=by
 have hl:(bP y k).papers.length = bw k y.papers y.papers.length:=by
  unfold bP bw;dsimp only;rw [List.length_map,List.take_length,List.countP_eq_length_filter]
 have hr:=za y.papers.length fun j=>decide (jS y j = k) && mY w j;have hm:∀ j ∈ (List.range y.papers.length).filter (fun j=>decide (jS y j = k) && mY w j),j < y.papers.length ∧ jS y j = k:=fun j hj=>by
  obtain ⟨h1,h2⟩:=List.mem_filter.1 hj;rw [Bool.and_eq_true,decide_eq_true_eq] at h2;exact ⟨List.mem_range.1 h1,h2.1⟩
 constructor
 ·unfold dp;rw [List.pairwise_map];refine hr.1.imp_of_mem ?_;intro a b ha hb hab;have h1:=hm a ha;exact j9 h1.1 (by rw [← sN h1.1]; exact h1.2) hab
 ·intro z hz;obtain ⟨j,hj,rfl⟩:=List.mem_map.1 hz;have h1:=hm j hj;rw [hl];exact ⟨Nat.zero_le _,j9 h1.1 (by rw [← sN h1.1]; exact h1.2) h1.1⟩
theorem Bz (k:Int) (g:ay → Int):∀ l r:List ay,fZ k g (l ++ r) = fZ k g l + fZ k g r
 | [],r=>by simp [fZ]
 | c :: l,r=>by simp only [List.cons_append,fZ,Bz k g l r]; omega
theorem kl (k:Int) (g:ay → Int) {l:List ay} {i:Nat} (hi:i < l.length):fZ k g (l.take (i + 1)) = fZ k g (l.take i) + if l[i].kind = k then g l[i] else 0:=by
 rw [List.take_succ_eq_append_getElem hi,Bz]; simp [fZ]
theorem tY {k:Int} {g:ay → Int} {l:List ay} (hg:∀ c ∈ l,0 ≤ g c ∧ g c ≤ 1000000):∀ i,i ≤ l.length → 0 ≤ fZ k g (l.take i) ∧ fZ k g (l.take i) ≤ i * 1000000
 | 0,_=>by simp [fZ]
 | i + 1,h=>by
  have ih:=tY (k:=k) hg i (by omega);have h1:=hg l[i] (List.getElem_mem _);rw [kl k g (by omega)]
  split <;> omega
def rF (y:ab) (w:List Nat) (k:Nat):Bool:=(List.range k).all fun j=>aP (bP y (j:Int)) (dp y (j:Int) w)
theorem Cw (y:ab) (w:List Nat) (k:Nat):rF y w (k + 1) = (rF y w k && aP (bP y (k:Int)) (dp y (k:Int) w)):=by
 unfold rF;rw [List.range_succ,List.all_append]; simp
theorem DP {y:ab} (hv:bJ aQ y) (w:List Nat):aP y w = rF y w y.kinds.length:=by
 refine Bool.eq_iff_iff.2 ?_;rw [GK hv w];unfold rF;rw [List.all_eq_true];exact ⟨fun h k hk=>h k (List.mem_range.1 hk),fun h k hk=>h k (List.mem_range.2 hk)⟩
theorem xn (y:ab) (hy:dv y) (w:List Int) (hwl:w.length ≤ maxLen) (x:Nat) (hx:x ≤ 255) (σ:af) :
  Spec Tryz.prog Sc [y.v, .slice 1 (w.map ii'), .int .u8 x] σ fun r σ'=>r = .ret (.bool true) ∧ σ' = σ:=by
 refine Spec.aF (Ss (by simp) (aa _ ?_)) (by simp [y.pure,aH,ag.pure,aD (f:=ii') (fun _=>rfl)]) rfl σ;have hcl:=fun σ=>ed y hy w hwl σ;have hwr:=fun σ=>oM y hy w hwl σ;by_cases h0:bW y w = 0;rotate_left
 ·have e1:gw y w = (false,bW y w):=by unfold gw; rw [if_pos h0]
  rw [e1] at hcl;obtain ⟨e,he⟩:=zqq (bW y w);rw [he] at h0 hcl hwr;simp only [ab.v,ab.cells] at hcl hwr;simp [NF,ab.v,ab.cells];refine ah.pure GL (hcl _) ?_;simp;refine ah.pure Ja (hwr _) ?_;simp [h0];refine ah.pure Dq (gM _) ?_;simp
 have hw:=(cJ y w).1 h0;have hv:=hw.valid;have hk4:=hv.k4;have hp4:=hv.p4;have hf8:=hv.f8;have hl8:=hv.l8;have e1:gw y w = (aP y (bD w),0):=by unfold gw; rw [if_neg (by simp [h0])]
 rw [e1] at hcl;rw [h0] at hwr;have hfit:(bb (bD w)).length ≤ maxLen:=by rw [hw.is]; exact hwl
 have hal:=fun (k:Nat) σ=>xC hv (bD w) hfit k σ;rw [hw.is] at hal;have hav:=fun (k:Nat)=>nT hv (k:Int);have hac:=fun (k:Nat) σ=>ed (bP y (k:Int)) (Fg (hav k)) (bb (dp y (k:Int) (bD w))) (Ij (hav k) (uq y k (bD w))) σ;simp only [fun k:Nat=>CV (hav k) (uq y (k:Int) (bD w))] at hac;have hck:=Cw y (bD w);have hca:=DP hv (bD w);have hc0:rF y (bD w) 0 = true:=rfl;obtain ⟨WN,hWN⟩:=zqq (bD w);obtain ⟨nk,hnk⟩:=zqq y.kinds.length;simp only [hWN] at hcl hal hac hck hca hc0;rw [hnk] at hk4 hca;have r2:((x:Int).tmod nk) = ((x % nk:Nat):Int):=rfl;have l2:x % nk < nk:=Nat.mod_lt x (by omega);have cvx:=Kg x hx;have hnI:¬ (nk:Int) = 0:=by omega
 have hnN:¬ nk = 0:=by omega
 obtain ⟨kd,hkd⟩:∃ a,x % nk = a:=⟨_,rfl⟩;rw [hkd] at r2 l2;rw [hca] at hcl;obtain ⟨cK,hcK⟩:∃ f,rF y WN = f:=⟨_,rfl⟩;rw [hcK] at hcl hck hca hc0;simp only [ab.v,ab.cells] at hcl hwr hal hac;simp [NF,ab.v,ab.cells];refine ah.pure GL (hcl _) ?_;simp;refine ah.pure Ja (hwr _) ?_;simp;refine AW.loop (ι:=Nat) (fun k fr σ'=>fr = { v:=[(1, .slice 1 (w.map ii')),(2, .int .u8 x),(3, .pval (yvL y)),(7, .bool (cK nk)),(8,ii' 0),(10, .bool (cK k)),(11, .int .i64 k)],ds:=[] } ∧ k ≤ nk) (fun k=>nk - k) 0 ⟨by simp [hc0],by omega⟩ ?_;rintro k fr tl ⟨rfl,hk⟩;refine (Nat.lt_or_ge k nk).elim (fun hlt=>?_) (fun hge=>?_)
 ·have hltI:(k:Int) < (nk:Int):=by omega
  have w3:IntKind.i64.wrap ((k:Int) + 1) = ((k + 1:Nat):Int):=by rw [aq (by omega) (by omega)]; simp
  have hckk:=hck k;have hakk:=hal k;have hcll:=hac k;obtain ⟨b,hb⟩:=zqq (aP (bP y (k:Int)) (dp y (k:Int) WN));rw [hb] at hckk hcll;obtain ⟨c,hc⟩:=zqq (cK k);rw [hc] at hckk ⊢;refine aa _ ?_;simp [hnk,hltI];refine ah.pure U4 (hakk _) ?_;simp;refine ah.pure GL (hcll _) ?_;cases c
  all_goals simp [w3]
  all_goals exact ⟨k + 1,by omega,by simp [hckk],by omega⟩
 obtain rfl:k = nk:=by omega
 refine (tf (cK k)).elim (fun hcb=>?_) (fun hcb=>?_)
 ·have hc:aP y (bD w) = false:=by rw [hWN,hca]; exact hcb
  have s4:=fun σ=>Dt hy hwl h0 hc (k:=kd) (by omega) σ;simp only [ab.v,ab.cells] at s4;rw [hcb];refine aa _ ?_;simp [hnk,cvx,r2,hnN];refine ah.pure He (s4 _) ?_;simp;refine ah.pure Dq (gM _) ?_;simp
 have hc:aP y (bD w) = true:=by rw [hWN,hca]; exact hcb
 obtain ⟨L,H,hr⟩:=Ff hv hc (k:=kd) (by omega);have s4:=fun σ=>Bb hy hwl h0 hc (k:=kd) (by omega) hr σ;obtain ⟨g1,g2,g3⟩:=I4 hv hr;simp only [ab.v,ab.cells] at s4;have sp0:=fun σ=>bI 0 0 σ;rw [hcb];refine aa _ ?_;simp [hnk,cvx,r2,hnN];refine ah.pure He (s4 _) ?_;simp;refine ah.pure p8 (sp0 _) ?_;simp;refine ah.pure p8 (sp0 _) ?_;simp [hnk,cvx,r2];obtain ⟨n,hn⟩:=zqq tl.length;have G1:∀ (d a:cq) (l:af),(tl ++ d :: a :: l)[n + 1]? = some a:=fun d a l=>by
  rw [← hn,List.getElem?_append_right (by omega),show tl.length + 1 - tl.length = 1 by omega]; rfl
 have G2:∀ (d a c:cq) (l:af),(tl ++ d :: a :: c :: l)[n + 2]? = some c:=fun d a c l=>by
  rw [← hn,List.getElem?_append_right (by omega),show tl.length + 2 - tl.length = 2 by omega]; rfl
 have S1:∀ (d a x:cq) (l:af),(tl ++ d :: a :: l).set (n + 1) x = tl ++ d :: x :: l:=fun d a x l=>by
  rw [← hn,List.set_append_right _ _ (by omega),show tl.length + 1 - tl.length = 1 by omega]; rfl
 have S2:∀ (d a c x:cq) (l:af),(tl ++ d :: a :: c :: l).set (n + 2) x = tl ++ d :: a :: x :: l:=fun d a c x l=>by
  rw [← hn,List.set_append_right _ _ (by omega),show tl.length + 2 - tl.length = 2 by omega]; rfl
 rw [hn];have hcf:∀ c ∈ y.first,(0 ≤ c.lo ∧ c.lo ≤ 1000000) ∧ 0 ≤ c.hi ∧ c.hi ≤ 1000000:=fun c hcm=>by
  have h:=hv.first.1 c hcm
  have h1:=h.lo;have h2:=h.hi;unfold Big at h1 h2;exact ⟨h1,h2⟩
 have hcl':∀ c ∈ y.last,(0 ≤ c.lo ∧ c.lo ≤ 1000000) ∧ 0 ≤ c.hi ∧ c.hi ≤ 1000000:=fun c hcm=>by
  have h:=hv.last.1 c hcm;have h1:=h.lo;have h2:=h.hi;unfold Big at h1 h2;exact ⟨h1,h2⟩
 refine AW.loop (ι:=Nat) (fun i fr σ'=>∃ (u v:Int) (t2:af),fr = { v:=[(3, .pval (yvL y)),(16,ii' kd),(17, .pval (.agg [ii' L,ii' H])),(19, .ptr (n + 1) 0),(20, .ptr (n + 2) 0),(21,ii' 0),(22, .int .i64 i)],ds:=[] } ∧ σ' = tl ++ .dead :: .box [ii' u,ii' v] :: .box [ii' 0,ii' 0] :: t2 ∧ i ≤ y.first.length ∧ u = fZ kd (fun c=>c.lo) (y.first.take i) ∧ v = fZ kd (fun c=>c.hi) (y.first.take i)) (fun i=>y.first.length - i) 0 ⟨0,0,[],by simp,by simp,by omega,by simp [fZ],by simp [fZ]⟩ ?_;rintro i fr σ' ⟨u,v,t2,rfl,rfl,hi,hu,hv'⟩;have hwi:IntKind.i64.wrap ((i:Int) + 1) = ((i + 1:Nat):Int):=by rw [aq (by omega) (by omega)]; simp
 have b1:=tY (k:=(kd:Int)) (g:=fun c=>c.lo) (fun c hcm=>(hcf c hcm).1) i hi;have b2:=tY (k:=(kd:Int)) (g:=fun c=>c.hi) (fun c hcm=>(hcf c hcm).2) i hi;rw [← hu] at b1;rw [← hv'] at b2;refine (Nat.lt_or_ge i y.first.length).elim (fun hlt=>?_) (fun hge=>?_)
 ·have hltI:(i:Int) < y.first.length:=by omega
  have s1:=kl (kd:Int) (fun c=>c.lo) hlt;have s2:=kl (kd:Int) (fun c=>c.hi) hlt;have hcb:=hcf _ (List.getElem_mem hlt);obtain ⟨⟨ck,cp,cl,ch⟩,hx⟩:∃ p,y.first[i] = p:=⟨_,rfl⟩
  rw [hx] at s1 s2 hcb;dsimp only at s1 s2 hcb;rw [← hu] at s1;rw [← hv'] at s2;have wu:IntKind.i64.wrap (u + cl) = u + cl:=aq (by omega) (by omega);have wv:IntKind.i64.wrap (v + ch) = v + ch:=aq (by omega) (by omega);have sp:=fun σ=>bI (u + cl) (v + ch) σ;by_cases e1:ck = kd
  ·rw [if_pos e1] at s1 s2;refine aa _ ?_;simp [hltI,hlt,hx,ay.v,ay.cells,e1,G1,wu,wv];refine ah.pure p8 (sp _) ?_;simp [hwi,G1,S1];exact ⟨i + 1,by omega,by simp,_,_,⟨rfl,rfl⟩,by omega,by rw [s1],by rw [s2]⟩
  ·rw [if_neg e1,Int.add_zero] at s1 s2;refine aa _ ?_;simp [hltI,hlt,hx,ay.v,ay.cells,e1,hwi];exact ⟨i + 1,by omega,by simp,_,_,⟨rfl,rfl⟩,by omega,by rw [s1],by rw [s2]⟩
 obtain rfl:i = y.first.length:=by omega
 rw [List.take_length] at hu hv';rw [← hu] at g3;rw [← hv'] at g2;refine aa _ ?_;simp;refine AW.loop (ι:=Nat) (fun i fr σ'=>∃ (s t c:Int) (t2:af),fr = { v:=[(3, .pval (yvL y)),(16,ii' kd),(17, .pval (.agg [ii' L,ii' H])),(19, .ptr (n + 1) 0),(20, .ptr (n + 2) 0),(21,ii' c),(24, .int .i64 i)],ds:=[] } ∧ σ' = tl ++ .dead :: .box [ii' u,ii' v] :: .box [ii' s,ii' t] :: t2 ∧ i ≤ y.last.length ∧ s = fZ kd (fun c=>c.lo) (y.last.take i) ∧ t = fZ kd (fun c=>c.hi) (y.last.take i) ∧ c = fZ kd (fun _=>1) (y.last.take i)) (fun i=>y.last.length - i) 0 ⟨0,0,0,t2,by simp,by simp,by omega,by simp [fZ],by simp [fZ],by simp [fZ]⟩ ?_;rintro i fr σ' ⟨s,t,c,t2,rfl,rfl,hi,hs,ht,hcc⟩;have hwi:IntKind.i64.wrap ((i:Int) + 1) = ((i + 1:Nat):Int):=by rw [aq (by omega) (by omega)]; simp
 have b3:=tY (k:=(kd:Int)) (g:=fun c=>c.lo) (fun c hcm=>(hcl' c hcm).1) i hi;have b4:=tY (k:=(kd:Int)) (g:=fun c=>c.hi) (fun c hcm=>(hcl' c hcm).2) i hi;have b5:=tY (k:=(kd:Int)) (l:=y.last) (g:=fun _=>1) (fun _ _=>by omega) i hi;rw [← hs] at b3;rw [← ht] at b4;rw [← hcc] at b5;refine (Nat.lt_or_ge i y.last.length).elim (fun hlt=>?_) (fun hge=>?_)
 ·have hltI:(i:Int) < y.last.length:=by omega
  have s1:=kl (kd:Int) (fun c=>c.lo) hlt;have s2:=kl (kd:Int) (fun c=>c.hi) hlt;have s3:=kl (kd:Int) (fun _=>1) hlt;have hcb:=hcl' _ (List.getElem_mem hlt);obtain ⟨⟨ck,cp,cl,ch⟩,hx⟩:∃ p,y.last[i] = p:=⟨_,rfl⟩;rw [hx] at s1 s2 s3 hcb;dsimp only at s1 s2 s3 hcb;rw [← hs] at s1;rw [← ht] at s2;rw [← hcc] at s3;have wu:IntKind.i64.wrap (s + cl) = s + cl:=aq (by omega) (by omega);have wv:IntKind.i64.wrap (t + ch) = t + ch:=aq (by omega) (by omega);have wc:IntKind.i64.wrap (c + 1) = c + 1:=aq (by omega) (by omega);have sp:=fun σ=>bI (s + cl) (t + ch) σ;by_cases e1:ck = kd
  ·rw [if_pos e1] at s1 s2 s3;refine aa _ ?_;simp [hltI,hlt,hx,ay.v,ay.cells,e1,G1,G2,wu,wv];refine ah.pure p8 (sp _) ?_;simp [hwi,G2,S2,wc];exact ⟨i + 1,by omega,_,_,_,⟨rfl,by simp⟩,⟨rfl,rfl⟩,by omega,by rw [s1],by rw [s2],by rw [s3]⟩
  ·rw [if_neg e1,Int.add_zero] at s1 s2 s3;refine aa _ ?_;simp [hltI,hlt,hx,ay.v,ay.cells,e1,hwi];exact ⟨i + 1,by omega,_,_,_,⟨rfl,by simp⟩,⟨rfl,rfl⟩,by omega,by rw [s1],by rw [s2],by rw [s3]⟩
 obtain rfl:i = y.last.length:=by omega
 rw [List.take_length] at hs ht hcc;rw [← hs] at g2;rw [← ht, ← hcc] at g3;have hkl:kd < y.kinds.length:=by omega
 have hkI:(kd:Int) < y.kinds.length:=by omega
 have hnm:=hv.kinds.1 _ (List.getElem_mem hkl);have hna:=fun σ=>qk y.kinds[kd] σ;rw [hnm] at hna;have w1:IntKind.i64.wrap (v - s) = v - s:=aq (by omega) (by omega);have w2:IntKind.i64.wrap (u - t) = u - t:=aq (by omega) (by omega);by_cases hcp:c < y.places.length
 ·refine aa _ ?_;simp [G1,G2,w1,w2,g1,g2,hcp,hkl,hkI];refine ah.pure Na (hna _) ?_;simp [G1,G2,w1,w2,g1,g2,hcp,hkl];refine ah.pure Dq (gM _) ?_;simp [G1,G2,w1,w2,g1,g2,hcp,hkl]
 ·have g3:=g3 (by omega);refine aa _ ?_;simp [G1,G2,w1,w2,g1,g2,g3,hcp,hkl,hkI];refine ah.pure Na (hna _) ?_;simp [G1,G2,w1,w2,g1,g2,g3,hcp,hkl];refine ah.pure Dq (gM _) ?_;simp [G1,G2,w1,w2,g1,g2,g3,hcp,hkl]
end Go.AM
