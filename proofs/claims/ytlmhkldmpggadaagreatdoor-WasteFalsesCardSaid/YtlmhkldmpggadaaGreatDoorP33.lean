/- Chapter 09: of the reference: what is asked of a yard; all least sets. Chapter 09: of the reference: Fewest, Must, May; WasteFalses, by contracts. Chapter 09: of the reference: May; WasteFalses, by contracts. -/
import Derived.Test.YtlmhkldmpggadaaGreatDoorP32
import Derived.Test.YtlmhkldmpggadaaGreatDoorP31
namespace Go.AM
open Go.Proofs
set_option maxRecDepth 100000
set_option maxHeartbeats 2000000
theorem FJ (m:Nat):bG (tU (-1)) m = List.range m:=by
 unfold bG;rw [List.filter_eq_self];intro x _;unfold tU;rw [decide_eq_true_eq]; omega
theorem jH (y:ab) (hy:dw y) (σ:af):Spec Tryz.prog J0 [y.v] σ fun r σ'=>r = .ret (ii' (ck y)) ∧ σ' = σ:=by
 refine Spec.aI (Rh (by simp) (aa _ ?_)) (by simp [y.pure,aG]) rfl σ;have hc:=fun σ=>jY y hy σ;simp only [ab.v,ab.cells,cN] at hc;by_cases h0:(bZ aR y).2.2 = 0
 ·have hv:=(iv aR y).1 h0;have hm10:=hv.m10;have hal:=fun σ=>qz y hm10 (-1) σ;rw [FJ] at hal;have hln:(aQ (List.range y.papers.length)).length ≤ maxLen:=by simp only [aQ,List.length_map,List.length_range,maxLen]; omega
  have hcl:=fun σ=>fD hv (List.range y.papers.length) hln σ;rw [tp hv];obtain ⟨b,hb⟩:=zqq (aL y (List.range y.papers.length));rw [hb] at hcl ⊢;rw [h0] at hc;simp only [ab.v,ab.cells] at hal hcl;cases b
  all_goals simp [K0,ab.v,ab.cells]
  all_goals refine ah.pure H4 (hc _) ?_
  all_goals simp
  all_goals refine ⟨_,fun σ'=>aH.func OW (hal σ'), ?_⟩
  all_goals simp
  all_goals refine ⟨_,fun σ'=>aH.func E3 (hcl σ'), ?_⟩
  all_goals simp
 ·rw [EN h0];obtain ⟨e,he⟩:=zqq ((bZ aR y).2.2);rw [he] at hc h0 ⊢;simp [K0,ab.v,ab.cells];refine ah.pure H4 (hc _) ?_;simp [h0];refine ⟨.bool false, ?_⟩;simp
def CG (o:Option (List (List Nat))):ag:=.tup [.slice 1 (bw (o.getD [])), .bool o.isSome]
theorem EB (o:Option (List (List Nat))):(CG o).pure = true:=by simp [CG,ag.pure,aG,nM]
theorem nc {y:ab} (hv:bV aR y) (σ:af):Spec Tryz.prog KH [y.v] σ fun r σ'=>r = .ret (CG (fG y)) ∧ σ' = σ:=by
 refine Spec.aI (PD (by simp) (aa _ ?_)) (by simp [y.pure,aG]) (EB _) σ;have hm10:=hv.m10;obtain ⟨m,hm⟩:=zqq y.papers.length;have hls:=fun (many:Nat) (h:many ≤ 10) σ=>nH (m:=m) (by omega) many [] (by simp; omega) (by simp) σ;have hah:∀ many,bK [] (cr m many (wQ [])) = cr m many 0:=fun many=>by simp [bK,wQ]
 simp only [hah,show aQ [] = [] from rfl,List.map_nil] at hls;have hle:fG y = (List.range (m + 1)).findSome? fun many=>if atW y many = [] then none else some (atW y many):=by unfold fG; rw [hm]
 rw [hle];simp [O3,ab.v,ab.cells];refine AW.loop (ι:=Nat) (fun k fr σ'=>fr = { v:=[(1, .pval (yvL y)),(4, .int .i64 k)],ds:=[] } ∧ k ≤ m + 1 ∧ ((List.range (m + 1)).findSome? fun many=>if atW y many = [] then none else some (atW y many)) = (List.range' k (m + 1 - k)).findSome? fun many=>if atW y many = [] then none else some (atW y many)) (fun k=>m + 1 - k) 0 ⟨by simp,by omega,by rw [List.range_eq_range']; rfl⟩ ?_;rintro k fr σ' ⟨rfl,hk,hq⟩;refine (Nat.lt_or_ge k (m + 1)).elim (fun hlt=>?_) (fun hge=>?_);rotate_left
 ·obtain rfl:k = m + 1:=by omega
  rw [Nat.sub_self] at hq;have hq2:((List.range (m + 1)).findSome? fun many=>if atW y many = [] then none else some (atW y many)) = none:=hq;rw [hq2];have hn1:¬ m + 1 ≤ m:=by omega
  have hn2:¬ ((m:Int) + 1 ≤ m):=by omega
  refine aa _ ?_;simp [hm,hn2,CG,bw]
 have hwk:IntKind.i64.wrap ((k:Int) + 1) = ((k + 1:Nat):Int):=by rw [aw (by omega) (by omega)]; simp
 obtain ⟨d,hd⟩:∃ d,m + 1 - k = d + 1:=⟨m - k,by omega⟩;have hd2:m + 1 - (k + 1) = d:=by omega
 rw [hd,List.range'_succ,List.findSome?_cons] at hq;have hlk:=hls k (by omega);have hLSm:∀ s,s ∈ cr m k 0 → oK y.papers.length 0 s:=fun s h=>by rw [hm]; exact ((fy m k 0 s).1 h).2
 have hLSl:(cr m k 0).length ≤ 1024:=uX (by omega) _;have hat:atW y k = (cr m k 0).filter (aL y):=by unfold atW; rw [hm]
 rw [hat] at hq;obtain ⟨LS,hLS⟩:=zqq (cr m k 0);rw [hLS] at hlk hLSm hLSl hq;have hkm:k ≤ m:=by omega
 have hkmI:(k:Int) ≤ m:=by omega
 refine aa _ ?_;simp [hm,hkmI];refine ah.pure Lq (hlk _) ?_;simp;have hg:∀ (q:Nat) (tl:af),(σ' ++ cm.spare 1 q :: tl)[σ'.length]? = some (.spare 1 q):=fun q tl=>by rw [List.getElem?_append_right (Nat.le_refl _)]; simp
 have hs:∀ (q:Nat) (tl:af) (x:cm),(σ' ++ cm.spare 1 q :: tl).set σ'.length x = σ' ++ x :: tl:=fun q tl x=>by rw [List.set_append_right _ _ (Nat.le_refl _)]; simp
 obtain ⟨B,hB⟩:=zqq (σ'.length);rw [hB] at hg hs;rw [hB];refine AW.loop (ι:=Nat) (fun n fr σ2=>∃ (q:Nat) (tl:af),fr = { v:=[(1, .pval (yvL y)),(4, .int .i64 k),(5, .slice 1 (bw LS)),(6, .oslice 1 (bw ((LS.take n).filter (aL y))) B q),(7, .int .i64 n)],ds:=[] } ∧ σ2 = σ' ++ .spare 1 q :: tl ∧ n ≤ LS.length) (fun n=>LS.length - n) 0 ⟨0,[],by simp [bw],rfl,by omega⟩ ?_;rintro n fr σ2 ⟨q,tl,rfl,rfl,hn⟩;refine (Nat.lt_or_ge n LS.length).elim (fun hltn=>?_) (fun hgen=>?_)
 ·have hltI:(n:Int) < LS.length:=by omega
  have hwn:IntKind.i64.wrap ((n:Int) + 1) = ((n + 1:Nat):Int):=by rw [aw (by omega) (by omega)]; simp
  obtain ⟨S,hS⟩:=zqq (LS[n]);have hSm:=hLSm S (by rw [← hS]; exact List.getElem_mem hltn);have hcs:=fun σ=>fD hv S (iw hv hSm) σ;simp only [ab.v,ab.cells] at hcs;have hst:(LS.take (n + 1)).filter (aL y) = (LS.take n).filter (aL y) ++ if aL y S then [S] else []:=by
   rw [List.take_succ_eq_append_getElem hltn,hS,List.filter_append];congr 1;cases h:aL y S <;> simp [h]
  have hXl:((LS.take n).filter (aL y)).length ≤ 1024:=Nat.le_trans (List.length_filter_le _ _) (by rw [List.length_take]; omega);obtain ⟨X,hX⟩:=zqq ((LS.take n).filter (aL y));rw [hX] at hst hXl ⊢;have hXv:(bw X).length ≤ 1024:=by unfold bw; rw [List.length_map]; exact hXl
  have hln:n < (bw LS).length:=by unfold bw; rw [List.length_map]; exact hltn
  have hge:(bw LS)[n]'hln = .slice 1 ((aQ S).map ii'):=by simp [bw,hS]
  have hll:(bw LS).length = LS.length:=by unfold bw; rw [List.length_map]
  have hfS:Fits 1 [ag.slice 1 ((aQ S).map ii')]:=mL [S];obtain ⟨E,hE⟩:=zqq (aL y S);rw [hE] at hcs hst;cases E
  ·rw [if_neg (by simp),List.append_nil] at hst;refine aa _ ?_;simp [hll,hltI,hltn,hge];refine ⟨_,fun σ' _=>aH.func E3 (hcs σ'), ?_⟩;simp [hwn];exact ⟨n + 1,by omega,q,⟨⟨by rw [hst],rfl⟩,by simp⟩,rfl,by omega⟩
  ·rw [if_pos rfl] at hst;refine aa _ ?_;simp [hll,hltI,hltn,hge];refine ⟨_,fun σ' _=>aH.func E3 (hcs σ'), ?_⟩;simp [hwn,hg,hs,hfS];exact ⟨by omega,n + 1,by omega,q + 1,⟨⟨by rw [hst]; simp [bw],rfl⟩,by simp⟩,rfl,by omega⟩
 ·obtain rfl:n = LS.length:=by omega
  have hll:(bw LS).length = LS.length:=by unfold bw; rw [List.length_map]
  rw [List.take_length];obtain ⟨X,hX⟩:=zqq (LS.filter (aL y));rw [hX] at hq ⊢;by_cases hX0:X = []
  ·rw [if_pos hX0] at hq;subst hX0;refine aa _ ?_;simp [bw,hwk];exact ⟨k + 1,by omega,by simp,by omega,by rw [hq,hd2]⟩
  ·rw [if_neg hX0] at hq;rw [hq];have hXp:0 < X.length:=by
    cases X with
    | nil=>exact absurd rfl hX0
    | cons a r=>simp
   have hXv:(bw X).length = X.length:=by unfold bw; rw [List.length_map]
   refine aa _ ?_;simp [hll,hXv,hXp,CG]
theorem DP {y:ab} (h:ck y = 0):aL y (List.range y.papers.length) = true:=by
 have hv:=eG h;have:=tp hv;rw [h] at this
 cases hq:aL y (List.range y.papers.length) with
 | true=>rfl
 | false=>rw [hq] at this; exact absurd this (by decide)
theorem sE {y:ab} (h:ck y = 0):∃ l,iY y = some l ∧ fG y = some (atW y l.length) ∧ ∃ r,atW y l.length = l :: r:=by
 have hv:=eG h;obtain ⟨l,hl⟩:=(Cj hv).2 (by rw [yG]; exact DP h);obtain ⟨h1,h2⟩:=FU hl;exact ⟨l,hl,h1,_,h2⟩
theorem tN (y:ab) (hy:dw y) (σ:af):Spec Tryz.prog Ke [y.v] σ fun r σ'=>r = .ret (.tup [.slice 1 ((aQ (dG y).1).map ii'),ii' (dG y).2]) ∧ σ' = σ:=by
 refine Spec.aI (P5 (by simp) (aa _ ?_)) (by simp [y.pure,aG]) (by simp [ag.pure,aG,aC (f:=ii') (fun _=>rfl)]) σ;have ha:=fun σ=>jH y hy σ;by_cases h0:ck y = 0
 ·obtain ⟨l,h1,h2,r,h3⟩:=sE h0;have hle:=fun σ=>nc (eG h0) σ;rw [h2,h3] at hle;have e1:dG y = (l,0):=by unfold dG; rw [if_neg (by simp [h0]),h1]
  rw [e1];rw [h0] at ha;simp only [ab.v,ab.cells,CG,Option.getD_some,Option.isSome_some] at ha hle;simp [Kj,ab.v,ab.cells];refine ah.pure Ed (ha _) ?_;simp;refine ah.pure N0 (hle _) ?_;simp [bw]
 ·have e1:dG y = ([],ck y):=by unfold dG; rw [if_pos h0]
  rw [e1];obtain ⟨e,he⟩:=zqq (ck y);rw [he] at ha h0 ⊢;simp only [ab.v,ab.cells] at ha;simp [Kj,ab.v,ab.cells];refine ah.pure Ed (ha _) ?_;simp [h0,aQ]
theorem wB (y:ab) (hy:dw y) (σ:af):Spec Tryz.prog Lg [y.v] σ fun r σ'=>r = .ret (.tup [.slice 1 ((aQ (ky y).1).map ii'),ii' (ky y).2]) ∧ σ' = σ:=by
 refine Spec.aI (PQ (by simp) (aa _ ?_)) (by simp [y.pure,aG]) (by simp [ag.pure,aG,aC (f:=ii') (fun _=>rfl)]) σ;have ha:=fun σ=>jH y hy σ;have hm:=hy.papers;by_cases h0:ck y = 0;rotate_left
 ·have e1:ky y = ([],ck y):=by unfold ky; rw [if_pos h0]
  rw [e1];obtain ⟨e,he⟩:=zqq (ck y);rw [he] at ha h0 ⊢;simp only [ab.v,ab.cells] at ha;simp [La,ab.v,ab.cells];refine ah.pure Ed (ha _) ?_;simp;refine AW.loop (ι:=Nat) (fun k fr σ'=>∃ (q:Nat) (tl:af),fr = { v:=[(1, .pval (yvL y)),(4,ii' e),(5, .oslice 1 [] 0 q),(6, .int .i64 k)],ds:=[] } ∧ σ' = .spare 1 q :: tl ∧ k = 0) (fun _=>0) 0 ⟨0,[],by simp,by simp,rfl⟩ ?_;rintro k fr σ' ⟨q,tl,rfl,rfl,rfl⟩;by_cases hz:0 < y.papers.length
  ·refine aa _ ?_;simp [h0,hz,aQ]
  ·refine aa _ ?_;simp [hz,aQ]
 have hv:=eG h0;have hm10:=hv.m10;have e1:ky y = (Dg y,0):=by unfold ky; rw [if_neg (by simp [h0])]
 rw [e1];rw [h0] at ha;have hal:=fun (k:Nat) σ=>qz y hm10 (k:Int) σ;have hba:∀ k:Nat,bG (tU (k:Int)) y.papers.length = dJ y.papers.length k:=fun k=>by
  unfold bG dJ;apply List.filter_congr;intro x _;unfold tU;rw [Bool.eq_iff_iff,decide_eq_true_eq,decide_eq_true_eq]; omega
 simp only [hba] at hal;have hcl:=fun (k:Nat) σ=>fD hv (dJ y.papers.length k) (iw hv (gV _ _)) σ;simp only [ab.v,ab.cells] at ha hal hcl;simp [La,ab.v,ab.cells];refine ah.pure Ed (ha _) ?_;simp;refine AW.loop (ι:=Nat) (fun k fr σ'=>∃ (q:Nat) (tl:af),fr = { v:=[(1, .pval (yvL y)),(4,ii' 0),(5, .oslice 1 ((aQ (gO y k)).map ii') 0 q),(6, .int .i64 k)],ds:=[] } ∧ σ' = .spare 1 q :: tl ∧ k ≤ y.papers.length) (fun k=>y.papers.length - k) 0 ⟨0,[],by simp [gO,aQ],by simp,by omega⟩ ?_;rintro k fr σ' ⟨q,tl,rfl,rfl,hk⟩;refine (Nat.lt_or_ge k y.papers.length).elim (fun hlt=>?_) (fun hge=>?_);rotate_left
 ·obtain rfl:k = y.papers.length:=by omega
  refine aa _ ?_;simp [gO,Dg]
 have hltI:(k:Int) < y.papers.length:=by omega
 have w3:IntKind.i64.wrap ((k:Int) + 1) = ((k + 1:Nat):Int):=by rw [aw (by omega) (by omega)]; simp
 have hst:=tc y k;have hln:(aQ (gO y k)).length ≤ k:=by
  have:=List.length_filter_le (fun i:Nat=>!aL y (dJ y.papers.length i)) (List.range k);simp only [aQ,List.length_map,gO];simpa using this
 have hclk:=hcl k;have halk:=hal k;obtain ⟨b,hb⟩:=zqq (aL y (dJ y.papers.length k));rw [hb] at hclk hst;cases b
 all_goals refine aa _ ?_
 all_goals simp [hltI]
 all_goals refine ⟨_,fun σ' _=>aH.func OW (halk σ'), ?_⟩
 all_goals simp
 all_goals refine ⟨_,fun σ' _=>aH.func E3 (hclk σ'), ?_⟩
 all_goals simp [w3,fits_int]
 ·exact ⟨by omega,k + 1,by omega,q + 1,⟨⟨by rw [hst]; simp [aQ],rfl⟩,by simp⟩,rfl,by omega⟩
 ·exact ⟨k + 1,by omega,q,⟨⟨by rw [hst]; simp,rfl⟩,by simp⟩,rfl,by omega⟩
def ru (ls:List (List Nat)) (m:Nat):List Nat:=(List.range m).filter fun i=>ls.any fun l=>fq l i
theorem CP (ls:List (List Nat)) (m:Nat):ru ls (m + 1) = ru ls m ++ if (ls.any fun l=>fq l m) then [m] else []:=by
 unfold ru;rw [List.range_succ,List.filter_append];congr 1;cases h:(ls.any fun l=>fq l m) <;> simp [h]
theorem yV (y:ab) (hy:dw y) (σ:af):Spec Tryz.prog Ko [y.v] σ fun r σ'=>r = .ret (.tup [.slice 1 ((aQ (qV y).1).map ii'),ii' (qV y).2]) ∧ σ' = σ:=by
 refine Spec.aI (Qv (by simp) (aa _ ?_)) (by simp [y.pure,aG]) (by simp [ag.pure,aG,aC (f:=ii') (fun _=>rfl)]) σ;have ha:=fun σ=>jH y hy σ;by_cases h0:ck y = 0;rotate_left
 ·have e1:qV y = ([],ck y):=by unfold qV; rw [if_pos h0]
  rw [e1];obtain ⟨e,he⟩:=zqq (ck y);rw [he] at ha h0 ⊢;simp only [ab.v,ab.cells] at ha;simp [Lo,ab.v,ab.cells];refine ah.pure Ed (ha _) ?_;simp [h0,aQ]
 obtain ⟨l,h1,h2,r,h3⟩:=sE h0;have hv:=eG h0;have hm10:=hv.m10;have hle:=fun σ=>nc hv σ;have e1:qV y = (El y (atW y l.length),0):=by unfold qV; rw [if_neg (by simp [h0]),h2]; rfl
 rw [e1];rw [h2] at hle;rw [h0] at ha;have hLl:=C6 hm10 l.length;have hLm:∀ s ∈ atW y l.length,oK y.papers.length 0 s:=fun s hs=>((fy _ _ _ s).1 (List.mem_filter.1 hs).1).2;obtain ⟨LS,hLS⟩:=zqq (atW y l.length);rw [hLS] at hle hLl hLm ⊢;have hmw:El y LS = ru LS y.papers.length:=rfl;rw [hmw];have hll:(bw LS).length = LS.length:=by unfold bw; rw [List.length_map]
 simp only [ab.v,ab.cells,CG,Option.getD_some,Option.isSome_some] at ha hle;simp [Lo,ab.v,ab.cells];refine ah.pure Ed (ha _) ?_;simp;refine ah.pure N0 (hle _) ?_;simp;refine AW.loop (ι:=Nat) (fun i fr σ'=>∃ (q:Nat) (tl:af),fr = { v:=[(1, .pval (yvL y)),(5, .slice 1 (bw LS)),(7, .oslice 1 ((aQ (ru LS i)).map ii') 0 q),(8, .int .i64 i)],ds:=[] } ∧ σ' = .spare 1 q :: tl ∧ i ≤ y.papers.length) (fun i=>y.papers.length - i) 0 ⟨0,[],by simp [ru,aQ],by simp,by omega⟩ ?_;rintro i fr σ' ⟨q,tl,rfl,rfl,hi⟩;refine (Nat.lt_or_ge i y.papers.length).elim (fun hlt=>?_) (fun hge=>?_);rotate_left
 ·obtain rfl:i = y.papers.length:=by omega
  refine aa _ ?_;simp
 have hltI:(i:Int) < y.papers.length:=by omega
 have w3:IntKind.i64.wrap ((i:Int) + 1) = ((i + 1:Nat):Int):=by rw [aw (by omega) (by omega)]; simp
 have hst:=CP LS i;have hln:(aQ (ru LS i)).length ≤ i:=by
  have:=List.length_filter_le (fun i:Nat=>LS.any fun l=>fq l i) (List.range i);simp only [aQ,List.length_map,ru];simpa using this
 obtain ⟨X,hX⟩:=zqq (aQ (ru LS i));rw [hX] at hln ⊢;refine aa _ ?_;simp [hltI];refine AW.loop (ι:=Nat) (fun k fr σ'=>∃ b:Bool,fr = { v:=[(1, .pval (yvL y)),(5, .slice 1 (bw LS)),(7, .oslice 1 (X.map ii') 0 q),(8, .int .i64 i),(9, .bool b),(10, .int .i64 k)],ds:=[] } ∧ σ' = .spare 1 q :: tl ∧ k ≤ LS.length ∧ b = (LS.take k).any fun l=>fq l i) (fun k=>LS.length - k) 0 ⟨false,by simp,by simp,by omega,by simp⟩ ?_;rintro k fr σ' ⟨b,rfl,rfl,hk,hb⟩;refine (Nat.lt_or_ge k LS.length).elim (fun hltk=>?_) (fun hgek=>?_)
 ·have hltkI:(k:Int) < LS.length:=by omega
  have wk:IntKind.i64.wrap ((k:Int) + 1) = ((k + 1:Nat):Int):=by rw [aw (by omega) (by omega)]; simp
  obtain ⟨S,hS⟩:=zqq (LS[k]);have hSm:=hLm S (by rw [← hS]; exact List.getElem_mem hltk);have hha:=fun σ=>ji (aQ S) (iw hv hSm) (i:Int) σ;rw [BH] at hha;have hhs:fq S i = decide (i ∈ S):=by rw [Bool.eq_iff_iff,dF,decide_eq_true_eq]
  have hsk:(LS.take (k + 1)).any (fun l=>fq l i) = (b || decide (i ∈ S)):=by
   rw [List.take_succ_eq_append_getElem hltk,hS,List.any_append, ← hb, ← hhs]; simp
  have hlnk:k < (bw LS).length:=by omega
  have hge:(bw LS)[k]'hlnk = .slice 1 ((aQ S).map ii'):=by simp [bw,hS]
  obtain ⟨d,hd⟩:=zqq (decide (i ∈ S));rw [hd] at hha hsk;cases b
  ·refine aa _ ?_;simp [hll,hltkI,hltk,hge];refine ah.pure tI (hha _) ?_;cases d
   ·rw [Bool.or_false] at hsk;simp [wk];exact ⟨k + 1,by omega,by simpa using hsk,by omega⟩
   ·rw [Bool.or_true] at hsk;simp [wk];exact ⟨k + 1,by omega,by simpa using hsk,by omega⟩
  ·rw [Bool.true_or] at hsk;refine aa _ ?_;simp [hll,hltkI,hltk,hge,wk];exact ⟨k + 1,by omega,by simpa using hsk,by omega⟩
 ·obtain rfl:k = LS.length:=by omega
  rw [List.take_length] at hb;rw [← hb] at hst;cases b
  ·rw [if_neg (by simp),List.append_nil] at hst;refine aa _ ?_;simp [hll,w3];exact ⟨i + 1,by omega,q,⟨⟨by rw [hst,hX],rfl⟩,by simp⟩,rfl,by omega⟩
  ·rw [if_pos rfl] at hst;refine aa _ ?_;simp [hll,w3,fits_int];exact ⟨by omega,i + 1,by omega,q + 1,⟨⟨by rw [hst, ← hX]; simp [aQ],rfl⟩,by simp⟩,rfl,by omega⟩
theorem sy (y:ab) (hy:dw y) (σ:af):Spec Tryz.prog F_4 [y.v] σ fun r σ'=>r = .ret (.bool true) ∧ σ' = σ:=by
 refine Spec.aI (S_4 (by simp) (aa _ ?_)) (by simp [y.pure,aG]) rfl σ;have a1:=fun σ=>j9 y hy σ;have a2:=fun σ=>tN y hy σ;have b1:=fun σ=>mf y hy σ;have b2:=fun σ=>wB y hy σ;have c1:=fun σ=>mG y hy σ;have c2:=fun σ=>yV y hy σ;have l1:(aQ (dG y).1).length ≤ maxLen:=by
  by_cases h0:ck y = 0
  ·obtain ⟨l,h1,_⟩:=sE h0;have e1:dG y = (l,0):=by unfold dG; rw [if_neg (by simp [h0]),h1]
   rw [e1];exact iw (eG h0) (nU h1).1.1
  ·have e1:dG y = ([],ck y):=by unfold dG; rw [if_pos h0]
   rw [e1]; simp [aQ]
 have l2:(aQ (ky y).1).length ≤ maxLen:=by
  unfold ky;split
  ·simp [aQ]
  ·rename_i h0;exact iw (eG (by simpa using h0)) (gV _ _)
 have l3:(aQ (qV y).1).length ≤ maxLen:=by
  unfold qV;split
  ·simp [aQ]
  ·rename_i h0;exact iw (eG (by simpa using h0)) (gV _ _)
 have i1:=fun σ=>eo _ l1 σ;have i2:=fun σ=>eo _ l2 σ;have i3:=fun σ=>eo _ l3 σ;obtain ⟨f1,hf1⟩:∃ z,aQ (dG y).1 = z:=⟨_,rfl⟩;obtain ⟨f2,hf2⟩:∃ z,(dG y).2 = z:=⟨_,rfl⟩;obtain ⟨m1,hm1⟩:∃ z,aQ (ky y).1 = z:=⟨_,rfl⟩;obtain ⟨m2,hm2⟩:∃ z,(ky y).2 = z:=⟨_,rfl⟩;obtain ⟨q1,hq1⟩:∃ z,aQ (qV y).1 = z:=⟨_,rfl⟩;obtain ⟨q2,hq2⟩:∃ z,(qV y).2 = z:=⟨_,rfl⟩;rw [hf1,hf2] at a1 a2;rw [hm1,hm2] at b1 b2;rw [hq1,hq2] at c1 c2;rw [hf1] at i1;rw [hm1] at i2;rw [hq1] at i3;simp only [ab.v,ab.cells] at a1 a2 b1 b2 c1 c2;simp [C_4,ab.v,ab.cells];refine ah.pure LD (a1 _) ?_;simp;refine ah.pure Qx (a2 _) ?_;simp;refine ah.pure ET (i1 _) ?_;simp;refine ah.pure Nx (b1 _) ?_;simp;refine ah.pure Qu (b2 _) ?_;simp;refine ah.pure ET (i2 _) ?_;simp;refine ah.pure Nn (c1 _) ?_;simp;refine ah.pure RW (c2 _) ?_;simp;refine ah.pure ET (i3 _) ?_;simp;refine ah.pure Ep (hO _) ?_;simp
end Go.AM
