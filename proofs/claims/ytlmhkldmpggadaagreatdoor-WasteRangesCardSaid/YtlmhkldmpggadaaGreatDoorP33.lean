/- Chapter 09: of the reference: what is allowed, with other numbers for one journey; Range. Chapter 09: of the reference: Gone, by halves. Chapter 09: WasteRanges, by contracts. -/
import Derived.Test.YtlmhkldmpggadaaGreatDoorP32
namespace Go.AM
open Go.Proofs
set_option maxRecDepth 100000
set_option maxHeartbeats 4000000
theorem yu {y:ab} (hv:bJ aQ y) {al:List (Int × Int)} (hal:al.length = y.papers.length) {i:Nat} (hi:i < y.papers.length) (a b:Int) (σ:af) :
  Spec Tryz.prog MU [y.v, .slice 2 (al.map eH),ii' i, .agg [ii' a,ii' b]] σ fun r σ'=>r = .ret (.slice 2 ((jT y al i (a,b)).map eH)) ∧ σ' = σ:=by
 refine Spec.aF (Sg (by simp) (aa _ ?_)) (by simp [y.pure,aH,ag.pure,gX]) (by simp [ag.pure,gX]) σ;have hm10:=hv.m10;have hial:i < al.length:=by omega
 have hcp:=(hv.papers i hi).copy;have hfa:=GR al;have hwl:jT y al i (a,b) = if 0 ≤ y.papers[i].copy then (al.set i (a,b)).set y.papers[i].copy.toNat (a,b) else al.set i (a,b):=by unfold jT; rw [List.getElem?_eq_getElem hi]
 obtain ⟨⟨pk,ps,pd,pn,pc⟩,hx⟩:∃ p,y.papers[i] = p:=⟨_,rfl⟩;rw [hx] at hwl hcp;dsimp only at hwl hcp;have hms:∀ (l:List (Int × Int)) (j:Nat) (s:Int × Int),(l.set j s).map eH = (l.map eH).set j (eH s):=fun l j s=>List.map_set;have hne:¬ al = []:=fun e=>by rw [e] at hial; simp at hial
 obtain ⟨⟨u,v⟩,hu⟩:∃ s,al[i] = s:=⟨_,rfl⟩;rcases hcp with hc | ⟨c1,c2,c3,_⟩
 ·rw [if_neg (by omega)] at hwl;rw [hwl,hms];simp [Oc,ab.v,ab.cells,hfa,hial,hi,hx,aj.v,aj.cells,hc,hu,eH];refine ⟨hne,by omega, ?_⟩;rw [List.take_of_length_le (by simp)]
 ·obtain ⟨j,rfl⟩:∃ j:Nat,pc = j:=⟨pc.toNat,by omega⟩;rw [if_pos c1,Int.toNat_natCast] at hwl;rw [hwl,hms,hms];have hj:j < al.length:=by omega
  have hij:¬ i = j:=by omega
  obtain ⟨⟨u2,v2⟩,hu2⟩:∃ s,al[j] = s:=⟨_,rfl⟩;simp [Oc,ab.v,ab.cells,hfa,hial,hi,hx,aj.v,aj.cells,hj,hu,hu2,hij,eH];refine ⟨hne,by omega, ?_⟩;rw [List.take_of_length_le (by simp)]
theorem rX {y:ab} (hy:dv y) (w:List Int) (hwl:w.length ≤ maxLen) (i:Int) (h0:cY y w (inI i 0 ((y.papers.length:Int) - 1)) ≠ 0) (σ:af) :
  Spec Tryz.prog IB [y.v, .slice 1 (w.map ii'),ii' i] σ fun r σ'=>r = .ret (.tup [.agg [ii' 0,ii' 0],ii' (cY y w (inI i 0 ((y.papers.length:Int) - 1)))]) ∧ σ' = σ:=by
 refine Spec.aF (RC (by simp) (aa _ ?_)) (by simp [y.pure,aH,ag.pure,aD (f:=ii') (fun _=>rfl)]) (by simp [ag.pure,aH]) σ;have hm:=hy.papers;simp only [maxLen] at hm;have w1:IntKind.i64.wrap ((y.papers.length:Int) - 1) = (y.papers.length:Int) - 1:=aq (by omega) (by omega);have hin:=fun σ=>cr i 0 ((y.papers.length:Int) - 1) σ;have hcl:=fun σ=>fJ y hy w hwl (inI i 0 ((y.papers.length:Int) - 1)) σ;obtain ⟨e,he⟩:=zqq (cY y w (inI i 0 ((y.papers.length:Int) - 1)));rw [he] at hcl h0 ⊢;simp only [ab.v,ab.cells] at hcl;simp [MA,ab.v,ab.cells,w1];refine ⟨_,fun σ'=>aE.func cU (hin σ'), ?_⟩;simp;refine ⟨_,fun σ' _=>aE.func KX (hcl σ'), ?_⟩;simp [h0]
theorem yq {y:ab} (hy:dv y) (w:List Int) (hwl:w.length ≤ maxLen) (h0:bW y w = 0) (hc:aP y (bD w) = true) {i:Nat} (hi:i < y.papers.length) {L H:Int} (hr:jE y (bD w) i L H) (σ:af) :
  Spec Tryz.prog IB [y.v, .slice 1 (w.map ii'),ii' i] σ fun r σ'=>r = .ret (.tup [.agg [ii' L,ii' H],ii' 0]) ∧ σ' = σ:=by
 refine Spec.aF (RC (by simp) (aa _ ?_)) (by simp [y.pure,aH,ag.pure,aD (f:=ii') (fun _=>rfl)]) (by simp [ag.pure,aH]) σ;have hw:=(cJ y w).1 h0;have hv:=hw.valid;have hm10:=hv.m10;have w1:IntKind.i64.wrap ((y.papers.length:Int) - 1) = (y.papers.length:Int) - 1:=aq (by omega) (by omega);have hii:inI (i:Int) 0 ((y.papers.length:Int) - 1) = true:=by unfold inI; simp; omega
 have hin:=fun σ=>cr i 0 ((y.papers.length:Int) - 1) σ;have hcl:=fun σ=>fJ y hy w hwl true σ;have hce:cY y w true = 0:=by unfold cY; rw [if_neg (by simp [h0]),if_neg (by simp),if_pos hc]
 rw [hce] at hcl;rw [hii] at hin;have hal:=fun σ=>iU hv (bD w) (by rw [hw.is]; exact hwl) σ;rw [hw.is] at hal;obtain ⟨k,hk,hka⟩:=vG hv hi;have hkp:y.papers[i].kind = k:=by rw [← hka]; unfold aK; rw [List.getElem?_eq_getElem hi]
 obtain ⟨⟨a,b⟩,hs⟩:∃ s,aZ y (bD w) y.papers[i] i = s:=⟨_,rfl⟩;have hbd:=Cg hv hi hr ((qK hv (wrong:=bD w) hi).trans hs);have hsb:=pg hv (bD w) i;have hgs:kV (alL y (bD w)) i = (a,b):=by rw [sx hi,hs]
 rw [hgs] at hsb;obtain ⟨hA,hB⟩:=hsb;unfold Big at hA hB;dsimp only at hbd hA hB;have hlen:=pR y (bD w);have hil:i < (alL y (bD w)).length:=by omega
 have hali:(alL y (bD w))[i] = (a,b):=by
  unfold kV at hgs;rw [List.getElem?_eq_getElem hil] at hgs; exact hgs
 have hlo:=fun m (h1:a ≤ m) (h2:m ≤ b)=>Ek hv hi hr hs hka h1 h2;have hhi:=fun m (h1:a ≤ m) (h2:m ≤ b)=>BT hv hi hr hs hka h1 h2;have hwi:=fun (u v:Int) σ=>yu hv hlen hi u v σ;have hst:=fun (u v:Int) (hu:Big u) (hv':Big v) σ=>xx hv (al:=jT y (alL y (bD w)) i (u,v)) (by rw [Gg]; exact hlen) (Eg hv hi hlen (pg hv (bD w)) hu hv') k σ;obtain ⟨AL,hAL⟩:=zqq (alL y (bD w));simp only [hAL] at hal hlen hil hali hlo hhi hwi hst;simp only [ab.v,ab.cells] at hcl hal hwi hst;have hiI:(i:Int) < y.papers.length:=by omega
 have hiA:(i:Int) < AL.length:=by omega
 obtain ⟨⟨pk,ps,pd,pn,pc⟩,hx⟩:∃ p,y.papers[i] = p:=⟨_,rfl⟩;rw [hx] at hkp;dsimp only at hkp;subst hkp;simp [MA,ab.v,ab.cells,w1];refine ⟨_,fun σ'=>aE.func cU (hin σ'), ?_⟩;simp;refine ⟨_,fun σ' _=>aE.func KX (hcl σ'), ?_⟩;simp [hi,hx,aj.v,aj.cells];refine ⟨_,fun σ' _=>aE.func Ky (hal σ'), ?_⟩;simp [hil,hali,eH];refine AW.loop (ι:=Int × Int) (fun p fr σ'=>∃ tl:af,fr = { v:=[(2,ii' i),(3, .pval (yvL y)),(6, .ptr 0 0),(9, .slice 2 (AL.map eH)),(10,ii' k),(11, .pval (.agg [ii' a,ii' b])),(12,ii' p.1),(13,ii' p.2)],ds:=[] } ∧ σ' = .box [ii' 0,ii' 0] :: tl ∧ a ≤ p.1 ∧ p.1 ≤ L ∧ L ≤ p.2 ∧ p.2 ≤ b) (fun p=>(p.2 - p.1).toNat) (a,b) ⟨_,by simp,by simp; rfl,by simp,by dsimp only; omega,by dsimp only; omega,by simp⟩ ?_;rintro ⟨low,high⟩ fr σ' ⟨tl,rfl,rfl,i1,i2,i3,i4⟩;dsimp only at i1 i2 i3 i4 ⊢;refine (Int.lt_or_le low high).elim (fun hlt=>?_) (fun hge=>?_)
 ·obtain ⟨mid,hmid⟩:∃ m,(low + high) / 2 = m:=⟨_,rfl⟩;have hwa:IntKind.i64.wrap (low + high) = low + high:=aq (by omega) (by omega);have hwq:(low + high).tdiv 2 = mid:=by rw [Int.tdiv_eq_ediv_of_nonneg (by omega)]; exact hmid
  have hwm:IntKind.i64.wrap mid = mid:=aq (by omega) (by omega);have hwm1:IntKind.i64.wrap (mid + 1) = mid + 1:=aq (by omega) (by omega);have hwt:=fun σ=>hwi a mid σ;have hsm:=fun σ=>hst a mid ⟨by omega,by omega⟩ ⟨by omega,by omega⟩ σ;rw [show fV y k (cw y (jT y AL i (a,mid)) k) = decide (L ≤ mid) from hlo mid (by omega) (by omega)] at hsm;by_cases hb:L ≤ mid
  ·rw [decide_eq_true hb] at hsm;refine aa _ ?_;simp [hlt,hwa,hwq,hwm];refine ⟨_,fun σ' _=>aE.func J3 (hwt σ'), ?_⟩;simp;refine ⟨_,fun σ' _=>aE.func KV (hsm σ'), ?_⟩;simp;exact ⟨low,mid,by omega,⟨rfl,rfl⟩,by omega,by omega,by omega,by omega⟩
  ·rw [decide_eq_false hb] at hsm;refine aa _ ?_;simp [hlt,hwa,hwq,hwm];refine ⟨_,fun σ' _=>aE.func J3 (hwt σ'), ?_⟩;simp;refine ⟨_,fun σ' _=>aE.func KV (hsm σ'), ?_⟩;simp [hwm1];exact ⟨mid + 1,high,by omega,⟨rfl,rfl⟩,by omega,by omega,by omega,by omega⟩
 have hlL:low = L:=by omega
 have hnlt:¬ low < high:=by omega
 subst hlL;refine aa _ ?_;simp [hnlt];refine AW.loop (ι:=Int × Int) (fun p fr σ'=>∃ tl:af,fr = { v:=[(2,ii' i),(3, .pval (yvL y)),(6, .ptr 0 0),(9, .slice 2 (AL.map eH)),(10,ii' k),(11, .pval (.agg [ii' a,ii' b])),(12,ii' p.1),(13,ii' p.2),(15,ii' low)],ds:=[] } ∧ σ' = .box [ii' 0,ii' 0] :: tl ∧ a ≤ p.1 ∧ p.1 ≤ H ∧ H ≤ p.2 ∧ p.2 ≤ b) (fun p=>(p.2 - p.1).toNat) (low,b) ⟨tl,by simp,by simp,by dsimp only; omega,by dsimp only; omega,by dsimp only; omega,by simp⟩ ?_;rintro ⟨lo2,hi2⟩ fr σ' ⟨tl,rfl,rfl,i1,i2,i3,i4⟩;dsimp only at i1 i2 i3 i4 ⊢;refine (Int.lt_or_le lo2 hi2).elim (fun hlt=>?_) (fun hge=>?_)
 ·obtain ⟨mid,hmid⟩:∃ m,(lo2 + hi2 + 1) / 2 = m:=⟨_,rfl⟩;have hwa:IntKind.i64.wrap (lo2 + hi2) = lo2 + hi2:=aq (by omega) (by omega);have hwb:IntKind.i64.wrap (lo2 + hi2 + 1) = lo2 + hi2 + 1:=aq (by omega) (by omega);have hwq:(lo2 + hi2 + 1).tdiv 2 = mid:=by rw [Int.tdiv_eq_ediv_of_nonneg (by omega)]; exact hmid
  have hwm:IntKind.i64.wrap mid = mid:=aq (by omega) (by omega);have hwm1:IntKind.i64.wrap (mid - 1) = mid - 1:=aq (by omega) (by omega);have hwt:=fun σ=>hwi mid b σ;have hsm:=fun σ=>hst mid b ⟨by omega,by omega⟩ ⟨by omega,by omega⟩ σ;rw [show fV y k (cw y (jT y AL i (mid,b)) k) = decide (mid ≤ H) from hhi mid (by omega) (by omega)] at hsm;by_cases hb:mid ≤ H
  ·rw [decide_eq_true hb] at hsm;refine aa _ ?_;simp [hlt,hwa,hwb,hwq,hwm];refine ⟨_,fun σ' _=>aE.func J3 (hwt σ'), ?_⟩;simp;refine ⟨_,fun σ' _=>aE.func KV (hsm σ'), ?_⟩;simp;exact ⟨mid,hi2,by omega,⟨rfl,rfl⟩,by omega,by omega,by omega,by omega⟩
  ·rw [decide_eq_false hb] at hsm;refine aa _ ?_;simp [hlt,hwa,hwb,hwq,hwm];refine ⟨_,fun σ' _=>aE.func J3 (hwt σ'), ?_⟩;simp;refine ⟨_,fun σ' _=>aE.func KV (hsm σ'), ?_⟩;simp [hwm1];exact ⟨lo2,mid - 1,by omega,⟨rfl,rfl⟩,by omega,by omega,by omega,by omega⟩
 obtain rfl:lo2 = H:=by omega
 have hnlt:¬ lo2 < hi2:=by omega
 refine aa _ ?_;simp [hnlt]
theorem CC {y:ab} (hy:dv y) (w:List Int) (hwl:w.length ≤ maxLen) (i:Int) (h0:cY y w (inI i 0 ((y.kinds.length:Int) - 1)) ≠ 0) (σ:af) :
  Spec Tryz.prog Hc [y.v, .slice 1 (w.map ii'),ii' i] σ fun r σ'=>r = .ret (.tup [.agg [ii' 0,ii' 0],ii' (cY y w (inI i 0 ((y.kinds.length:Int) - 1)))]) ∧ σ' = σ:=by
 refine Spec.aF (Qa (by simp) (aa _ ?_)) (by simp [y.pure,aH,ag.pure,aD (f:=ii') (fun _=>rfl)]) (by simp [ag.pure,aH]) σ;have hm:=hy.kinds;simp only [maxLen] at hm;have w1:IntKind.i64.wrap ((y.kinds.length:Int) - 1) = (y.kinds.length:Int) - 1:=aq (by omega) (by omega);have hin:=fun σ=>cr i 0 ((y.kinds.length:Int) - 1) σ;have hcl:=fun σ=>fJ y hy w hwl (inI i 0 ((y.kinds.length:Int) - 1)) σ;obtain ⟨e,he⟩:=zqq (cY y w (inI i 0 ((y.kinds.length:Int) - 1)));rw [he] at hcl h0 ⊢;simp only [ab.v,ab.cells] at hcl;simp [NS,ab.v,ab.cells,w1];refine ⟨_,fun σ'=>aE.func cU (hin σ'), ?_⟩;simp;refine ⟨_,fun σ' _=>aE.func KX (hcl σ'), ?_⟩;simp [h0]
theorem AD {y:ab} (hy:dv y) (w:List Int) (hwl:w.length ≤ maxLen) (h0:bW y w = 0) (hc:aP y (bD w) = true) {k:Nat} (hk:k < y.kinds.length) {L H:Int} (hr:iw y (bD w) k L H) (σ:af) :
  Spec Tryz.prog Hc [y.v, .slice 1 (w.map ii'),ii' k] σ fun r σ'=>r = .ret (.tup [.agg [ii' L,ii' H],ii' 0]) ∧ σ' = σ:=by
 refine Spec.aF (Qa (by simp) (aa _ ?_)) (by simp [y.pure,aH,ag.pure,aD (f:=ii') (fun _=>rfl)]) (by simp [ag.pure,aH]) σ;have hw:=(cJ y w).1 h0;have hv:=hw.valid;have hk4:=hv.k4;have w1:IntKind.i64.wrap ((y.kinds.length:Int) - 1) = (y.kinds.length:Int) - 1:=aq (by omega) (by omega);have hii:inI (k:Int) 0 ((y.kinds.length:Int) - 1) = true:=by unfold inI; simp; omega
 have hin:=fun σ=>cr k 0 ((y.kinds.length:Int) - 1) σ;have hcl:=fun σ=>fJ y hy w hwl true σ;have hce:cY y w true = 0:=by unfold cY; rw [if_neg (by simp [h0]),if_neg (by simp),if_pos hc]
 rw [hce] at hcl;rw [hii] at hin;have hal:=fun σ=>iU hv (bD w) (by rw [hw.is]; exact hwl) σ;rw [hw.is] at hal;have hfar:=wE hv hr;have hlo:=fun m (h1:-10000000 ≤ m) (h2:m ≤ 10000000)=>oB hv hr h1 h2;have hhi:=fun m (h1:-10000000 ≤ m) (h2:m ≤ 10000000)=>lZ hv hr h1 h2;simp only [← tI] at hlo hhi;have hgo:=fun (u v:Int) (hu:-100000000 ≤ u ∧ u ≤ 100000000) (hv':-100000000 ≤ v ∧ v ≤ 100000000) σ=>x8 hv (bD w) k hu hv' σ;obtain ⟨AL,hAL⟩:=zqq ((alL y (bD w)).map eH);simp only [hAL] at hal hgo;simp only [ab.v,ab.cells] at hcl hal hgo;obtain ⟨gB,hgB⟩:∃ g,my y k (ba y (bD w) k) = g:=⟨_,rfl⟩;simp only [hgB] at hgo hlo hhi;simp [NS,ab.v,ab.cells,w1];refine ⟨_,fun σ'=>aE.func cU (hin σ'), ?_⟩;simp;refine ⟨_,fun σ' _=>aE.func KX (hcl σ'), ?_⟩;simp;refine ah.pure Ky (hal _) ?_;have w20:IntKind.i64.wrap (20000000:Int) = 20000000:=by decide
 simp [w20];refine AW.loop (ι:=Int × Int) (fun p fr σ'=>∃ tl:af,fr = { v:=[(2,ii' k),(3, .pval (yvL y)),(6, .ptr 0 0),(9, .slice 2 AL),(10,ii' 10000000),(11,ii' p.1),(12,ii' p.2)],ds:=[] } ∧ σ' = .box [ii' 0,ii' 0] :: tl ∧ 0 ≤ p.1 ∧ p.1 ≤ L + 10000000 ∧ L + 10000000 ≤ p.2 ∧ p.2 ≤ 20000000) (fun p=>(p.2 - p.1).toNat) (0,20000000) ⟨[],by simp,by simp,by simp,by dsimp only; omega,by dsimp only; omega,by simp⟩ ?_;rintro ⟨low,high⟩ fr σ' ⟨tl,rfl,rfl,i1,i2,i3,i4⟩;dsimp only at i1 i2 i3 i4 ⊢;refine (Int.lt_or_le low high).elim (fun hlt=>?_) (fun hge=>?_)
 ·obtain ⟨mid,hmid⟩:∃ m,(low + high) / 2 = m:=⟨_,rfl⟩;have hwa:IntKind.i64.wrap (low + high) = low + high:=aq (by omega) (by omega);have hwq:(low + high).tdiv 2 = mid:=by rw [Int.tdiv_eq_ediv_of_nonneg (by omega)]; exact hmid
  have hwm:IntKind.i64.wrap mid = mid:=aq (by omega) (by omega);have hws:IntKind.i64.wrap (mid - 10000000) = mid - 10000000:=aq (by omega) (by omega);have hwm1:IntKind.i64.wrap (mid + 1) = mid + 1:=aq (by omega) (by omega);have hwn:IntKind.i64.wrap (-10000000:Int) = -10000000:=by decide
  have hlm:=hlo (mid - 10000000) (by omega) (by omega);have hgm:=fun σ=>hgo (-10000000) (mid - 10000000) (by omega) (by omega) σ;rcases tf (gB (-10000000) (mid - 10000000)) with hb | hb
  ·rw [hb] at hlm hgm;have hnl:¬ L ≤ mid - 10000000:=fun h=>by have:=hlm.2 h; cases this
   refine aa _ ?_;simp [hlt,hwa,hwq,hwm,hws,hwn];refine ah.pure Kc (hgm _) ?_;simp [hwm1,hwa,hwq,hwm];exact ⟨mid + 1,high,by omega,⟨rfl,rfl⟩,by omega,by omega,by omega,by omega⟩
  ·rw [hb] at hlm hgm;have hnl:L ≤ mid - 10000000:=hlm.1 rfl;refine aa _ ?_;simp [hlt,hwa,hwq,hwm,hws,hwn];refine ah.pure Kc (hgm _) ?_;simp [hwa,hwq,hwm];exact ⟨low,mid,by omega,⟨rfl,rfl⟩,by omega,by omega,by omega,by omega⟩
 have hlL:low = L + 10000000:=by omega
 have hnlt:¬ low < high:=by omega
 refine aa _ ?_;simp [hnlt,w20];refine AW.loop (ι:=Int × Int) (fun p fr σ'=>∃ tl:af,fr = { v:=[(2,ii' k),(3, .pval (yvL y)),(6, .ptr 0 0),(9, .slice 2 AL),(10,ii' 10000000),(11,ii' p.1),(12,ii' p.2),(14,ii' low)],ds:=[] } ∧ σ' = .box [ii' 0,ii' 0] :: tl ∧ 0 ≤ p.1 ∧ p.1 ≤ H + 10000000 ∧ H + 10000000 ≤ p.2 ∧ p.2 ≤ 20000000) (fun p=>(p.2 - p.1).toNat) (low,20000000) ⟨tl,by simp,by simp,by dsimp only; omega,by dsimp only; omega,by dsimp only; omega,by simp⟩ ?_;rintro ⟨lo2,hi2⟩ fr σ' ⟨tl,rfl,rfl,i1,i2,i3,i4⟩;dsimp only at i1 i2 i3 i4 ⊢;refine (Int.lt_or_le lo2 hi2).elim (fun hlt=>?_) (fun hge=>?_)
 ·obtain ⟨mid,hmid⟩:∃ m,(lo2 + hi2 + 1) / 2 = m:=⟨_,rfl⟩;have hwa:IntKind.i64.wrap (lo2 + hi2) = lo2 + hi2:=aq (by omega) (by omega);have hwb:IntKind.i64.wrap (lo2 + hi2 + 1) = lo2 + hi2 + 1:=aq (by omega) (by omega);have hwq:(lo2 + hi2 + 1).tdiv 2 = mid:=by rw [Int.tdiv_eq_ediv_of_nonneg (by omega)]; exact hmid
  have hwm:IntKind.i64.wrap mid = mid:=aq (by omega) (by omega);have hws:IntKind.i64.wrap (mid - 10000000) = mid - 10000000:=aq (by omega) (by omega);have hwm1:IntKind.i64.wrap (mid - 1) = mid - 1:=aq (by omega) (by omega);have hlm:=hhi (mid - 10000000) (by omega) (by omega);have hgm:=fun σ=>hgo (mid - 10000000) 10000000 (by omega) (by omega) σ;rcases tf (gB (mid - 10000000) 10000000) with hb | hb
  ·rw [hb] at hlm hgm;have hnl:¬ mid - 10000000 ≤ H:=fun h=>by have:=hlm.2 h; cases this
   refine aa _ ?_;simp [hlt,hwa,hwb,hwq,hwm,hws];refine ah.pure Kc (hgm _) ?_;simp [hwm1,hwa,hwb,hwq,hwm];exact ⟨lo2,mid - 1,by omega,⟨rfl,rfl⟩,by omega,by omega,by omega,by omega⟩
  ·rw [hb] at hlm hgm;have hnl:mid - 10000000 ≤ H:=hlm.1 rfl;refine aa _ ?_;simp [hlt,hwa,hwb,hwq,hwm,hws];refine ah.pure Kc (hgm _) ?_;simp [hwa,hwb,hwq,hwm];exact ⟨mid,hi2,by omega,⟨rfl,rfl⟩,by omega,by omega,by omega,by omega⟩
 have hlH:lo2 = H + 10000000:=by omega
 have hnlt:¬ lo2 < hi2:=by omega
 have e1:IntKind.i64.wrap (low - 10000000) = L:=by rw [aq (by omega) (by omega)]; omega
 have e2:IntKind.i64.wrap (lo2 - 10000000) = H:=by rw [aq (by omega) (by omega)]; omega
 refine aa _ ?_;simp [hnlt,e1,e2]
theorem DB {y:ab} (hy:dv y) {w:List Int} (hwl:w.length ≤ maxLen) (i:Int):∃ (lo hi e:Int),(∀ σ,Spec Tryz.prog C7 [y.v, .slice 1 (w.map ii'),ii' i] σ fun r σ'=>r = .ret (.tup [.agg [ii' lo,ii' hi],ii' e]) ∧ σ' = σ) ∧ ∀ σ,Spec Tryz.prog IB [y.v, .slice 1 (w.map ii'),ii' i] σ fun r σ'=>r = .ret (.tup [.agg [ii' lo,ii' hi],ii' e]) ∧ σ' = σ:=by
 have hbk:∀ h0:bW y w = 0,eJ y w (fa y i) = cY y w (inI i 0 ((y.papers.length:Int) - 1)):=fun h0=>by
  rw [Fl];congr 1;unfold fa;split
  ·rename_i h;have hv:=((cJ y w).1 h0).valid;have hi:=bA.1.1 h;obtain ⟨k,hk,hka⟩:=vG hv (i:=i.toNat) (by omega);rw [h,hka]; simp
  ·rename_i h;rw [Bool.not_eq_true] at h;rw [h]; rfl
 by_cases h0:bW y w = 0;rotate_left
 ·have e1:eJ y w (fa y i) = bW y w:=by unfold eJ; rw [if_pos h0]
  have e2:cY y w (inI i 0 ((y.papers.length:Int) - 1)) = bW y w:=by unfold cY; rw [if_pos h0]
  refine ⟨0,0,bW y w,fun σ=>(dH y hy w hwl i σ).mono ?_,fun σ=>?_⟩
  ·rintro r σ' ⟨⟨lo,hi,rfl,h1,_⟩,rfl⟩;rw [e1] at h1 ⊢;obtain ⟨rfl,rfl⟩:=h1 h0;exact ⟨rfl,rfl⟩
  ·have:=rX hy w hwl i (by rw [e2]; exact h0) σ;rw [e2] at this; exact this
 have hb:=hbk h0;by_cases hz:cY y w (inI i 0 ((y.papers.length:Int) - 1)) = 0;rotate_left
 ·refine ⟨0,0,cY y w (inI i 0 ((y.papers.length:Int) - 1)),fun σ=>(dH y hy w hwl i σ).mono ?_,fun σ=>rX hy w hwl i hz σ⟩;rintro r σ' ⟨⟨lo,hi,rfl,h1,_⟩,rfl⟩;rw [hb] at h1 ⊢;obtain ⟨rfl,rfl⟩:=h1 hz;exact ⟨rfl,rfl⟩
 have hin:inI i 0 ((y.papers.length:Int) - 1) = true:=by
  rcases tf (inI i 0 ((y.papers.length:Int) - 1)) with h | h
  ·unfold cY at hz; rw [if_neg (by simp [h0]),if_pos h] at hz; cases hz
  ·exact h
 have hc:aP y (bD w) = true:=by
  unfold cY at hz;rw [if_neg (by simp [h0]),if_neg (by simp [hin])] at hz;rcases tf (aP y (bD w)) with h | h
  ·rw [h] at hz; simp at hz
  ·exact h
 have hi:=bA.1.1 hin;obtain ⟨k,rfl⟩:∃ k:Nat,i = k:=⟨i.toNat,by omega⟩;have hk:k < y.papers.length:=by omega
 obtain ⟨L,H,hr⟩:=Jg ((cJ y w).1 h0).valid hc hk;exact ⟨L,H,0,fun σ=>F4 hy hwl h0 hc hk hr σ,fun σ=>yq hy w hwl h0 hc hk hr σ⟩
theorem FH {y:ab} (hy:dv y) {w:List Int} (hwl:w.length ≤ maxLen) (i:Int):∃ (lo hi e:Int),(∀ σ,Spec Tryz.prog CX [y.v, .slice 1 (w.map ii'),ii' i] σ fun r σ'=>r = .ret (.tup [.agg [ii' lo,ii' hi],ii' e]) ∧ σ' = σ) ∧ ∀ σ,Spec Tryz.prog Hc [y.v, .slice 1 (w.map ii'),ii' i] σ fun r σ'=>r = .ret (.tup [.agg [ii' lo,ii' hi],ii' e]) ∧ σ' = σ:=by
 have hb:eJ y w (eU y i) = cY y w (inI i 0 ((y.kinds.length:Int) - 1)):=by
  rw [Fl];congr 1;unfold eU;split
  ·rename_i h;have hi:=bA.1.1 h;rw [h]; simp; omega
  ·rename_i h;rw [Bool.not_eq_true] at h;rw [h]; rfl
 by_cases hz:cY y w (inI i 0 ((y.kinds.length:Int) - 1)) = 0;rotate_left
 ·refine ⟨0,0,cY y w (inI i 0 ((y.kinds.length:Int) - 1)),fun σ=>(eL y hy w hwl i σ).mono ?_,fun σ=>CC hy w hwl i hz σ⟩;rintro r σ' ⟨⟨lo,hi,rfl,h1,_⟩,rfl⟩;rw [hb] at h1 ⊢;obtain ⟨rfl,rfl⟩:=h1 hz;exact ⟨rfl,rfl⟩
 have h0:bW y w = 0:=by
  unfold cY at hz;by_cases h:bW y w = 0
  ·exact h
  ·rw [if_pos h] at hz; exact absurd hz h
 have hin:inI i 0 ((y.kinds.length:Int) - 1) = true:=by
  rcases tf (inI i 0 ((y.kinds.length:Int) - 1)) with h | h
  ·unfold cY at hz; rw [if_neg (by simp [h0]),if_pos h] at hz; cases hz
  ·exact h
 have hc:aP y (bD w) = true:=by
  unfold cY at hz;rw [if_neg (by simp [h0]),if_neg (by simp [hin])] at hz;rcases tf (aP y (bD w)) with h | h
  ·rw [h] at hz; simp at hz
  ·exact h
 have hi:=bA.1.1 hin;obtain ⟨k,rfl⟩:∃ k:Nat,i = k:=⟨i.toNat,by omega⟩;have hk:k < y.kinds.length:=by omega
 obtain ⟨L,H,hr⟩:=Ff ((cJ y w).1 h0).valid hc hk;exact ⟨L,H,0,fun σ=>Bb hy hwl h0 hc hk hr σ,fun σ=>AD hy w hwl h0 hc hk hr σ⟩
theorem tO (y:ab) (hy:dv y) (w:List Int) (hwl:w.length ≤ maxLen) (x z:Int) (σ:af) :
  Spec Tryz.prog F_5 [y.v, .slice 1 (w.map ii'), .agg [ii' x,ii' z]] σ fun r σ'=>r = .ret (.bool true) ∧ σ' = σ:=by
 refine Spec.aF (S_5 (by simp) (aa _ ?_)) (by simp [y.pure,aH,ag.pure,aD (f:=ii') (fun _=>rfl)]) rfl σ;obtain ⟨lo,hi,e,c1,c2⟩:=DB hy hwl x;obtain ⟨lo2,hi2,e2,d1,d2⟩:=FH hy hwl z;simp only [ab.v,ab.cells] at c1 c2 d1 d2;simp [C_5,ab.v,ab.cells];refine ah.pure J0 (c1 _) ?_;simp;refine ah.pure TB (c2 _) ?_;simp;refine ah.pure He (d1 _) ?_;simp;refine ah.pure Ug (d2 _) ?_;simp;refine ah.pure Dq (gM _) ?_;simp
end Go.AM
