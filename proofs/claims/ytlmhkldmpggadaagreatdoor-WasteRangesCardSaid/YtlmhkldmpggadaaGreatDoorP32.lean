/- Chapter 09: the reference's All and Lists. Chapter 09: of the reference: what journeys allow; which papers differ. Chapter 09: of the reference: which papers differ; the first proof; which yards .. -/
import Derived.Test.YtlmhkldmpggadaaGreatDoorP31
import Derived.Test.YtlmhkldmpggadaaGreatDoorP25
import Derived.Test.YtlmhkldmpggadaaGreatDoorP27
import Derived.Test.YtlmhkldmpggadaaGreatDoorP19
namespace Go.AM
open Go.Proofs
set_option maxRecDepth 100000
set_option maxHeartbeats 1000000
set_option maxHeartbeats 4000000
theorem Da (l:List Nat) (i:Nat):((bb l).any fun x=>decide (x = (i:Int))) = decide (i ∈ l):=by
 rw [Bool.eq_iff_iff,List.any_eq_true,decide_eq_true_eq];constructor
 ·rintro ⟨x,hx,e⟩;obtain ⟨j,hj,rfl⟩:=List.mem_map.1 hx;have:j = i:=by have:=of_decide_eq_true e; omega
  exact this ▸ hj
 ·intro h;exact ⟨(i:Int),List.mem_map_of_mem h,by simp⟩
theorem GR (l:List (Int × Int)):Fits 2 (l.map eH):=fun v hv=>by
 obtain ⟨s,_,rfl⟩:=List.mem_map.1 hv;exact ⟨rfl,rfl⟩
theorem w9 (a b:Int):Fits 2 [ag.agg [ii' a,ii' b]]:=fun v hv=>by
 simp at hv; subst hv; exact ⟨rfl,rfl⟩
theorem iU {y:ab} (hv:bJ aQ y) (w:List Nat) (hw:(bb w).length ≤ maxLen) (σ:af) :
  Spec Tryz.prog NT [y.v, .slice 1 ((bb w).map ii')] σ fun r σ'=>r = .ret (.slice 2 ((alL y w).map eH)) ∧ σ' = σ:=by
 refine Spec.aF (UU (by simp) (aa _ ?_)) (by simp [y.pure,aH,ag.pure,aD (f:=ii') (fun _=>rfl)]) (by simp [ag.pure,gX]) σ;have hm10:=hv.m10;have hha:=fun (i:Nat) σ=>mP (bb w) hw (i:Int) σ;simp only [Da] at hha;obtain ⟨W,hW⟩:=zqq ((bb w).map ii');simp only [hW] at hha;rw [hW];have hall:=pR y w;simp [Re,ab.v,ab.cells];refine AW.loop (ι:=Nat) (fun i fr σ'=>∃ (q:Nat) (tl:af),fr = { v:=[(1, .slice 1 W),(2, .pval (yvL y)),(5, .oslice 2 (((alL y w).take i).map eH) 0 q),(6, .int .i64 i)],ds:=[] } ∧ σ' = .spare 2 q :: tl ∧ i ≤ y.papers.length) (fun i=>y.papers.length - i) 0 ⟨0,[],by simp,rfl,by omega⟩ ?_;rintro i fr σ' ⟨q,tl,rfl,rfl,hi⟩;refine (Nat.lt_or_ge i y.papers.length).elim (fun hlt=>?_) (fun hge=>?_);rotate_left
 ·obtain rfl:i = y.papers.length:=by omega
  refine aa _ ?_;simp;rw [List.take_of_length_le (by rw [List.length_map]; omega)]
 have hltI:(i:Int) < y.papers.length:=by omega
 have hwi:IntKind.i64.wrap ((i:Int) + 1) = ((i + 1:Nat):Int):=by rw [aq (by omega) (by omega)]; simp
 have hil:i < (alL y w).length:=by omega
 have hst:((alL y w).take (i + 1)).map eH = ((alL y w).take i).map eH ++ [eH (aZ y w y.papers[i] i)]:=by
  rw [List.take_succ_eq_append_getElem hil,List.map_append,List.map_cons,List.map_nil];have:=sx (y:=y) (wrong:=w) hlt;unfold kV at this;rw [List.getElem?_eq_getElem hil] at this;rw [show (alL y w)[i] = aZ y w y.papers[i] i from this]
 have hln:(((alL y w).take i).map eH).length ≤ 10:=by rw [List.length_map,List.length_take]; omega
 rw [List.map_take,List.map_take] at hst;rw [List.map_take] at hln ⊢;obtain ⟨X,hX⟩:=zqq (((alL y w).map eH).take i);rw [hX] at hst hln ⊢;have hcp:=(hv.papers i hlt).copy;obtain ⟨⟨pk,ps,pd,pn,pc⟩,hx⟩:∃ p,y.papers[i] = p:=⟨_,rfl⟩;rw [hx] at hst hcp;dsimp only at hcp;rcases hcp with hc | ⟨c1,c2,c3,_⟩
 ·have hal:aZ y w ⟨pk,ps,pd,pn,pc⟩ i = if i ∈ w then (0,1000000) else (pn,pn):=by unfold aZ; rw [if_pos (by show pc < 0; omega)]
  have hhi:=hha i;obtain ⟨b,hb⟩:=zqq (decide (i ∈ w));rw [hb] at hhi;cases b
  ·rw [hal,if_neg (of_decide_eq_false hb)] at hst;refine aa _ ?_;simp [hltI,hlt,hx,aj.v,aj.cells,hc];refine ah.pure BL (hhi _) ?_;simp [hltI,hlt,hx,aj.v,aj.cells,hc,hwi,w9];exact ⟨by omega,i + 1,by omega,q + 1,⟨⟨by rw [hst]; rfl,rfl⟩,by simp⟩,rfl,by omega⟩
  ·rw [hal,if_pos (of_decide_eq_true hb)] at hst;refine aa _ ?_;simp [hltI,hlt,hx,aj.v,aj.cells,hc];refine ah.pure BL (hhi _) ?_;simp [hltI,hlt,hx,aj.v,aj.cells,hc,hwi,w9];exact ⟨by omega,i + 1,by omega,q + 1,⟨⟨by rw [hst]; rfl,rfl⟩,by simp⟩,rfl,by omega⟩
 ·obtain ⟨j,rfl⟩:∃ j:Nat,pc = j:=⟨pc.toNat,by omega⟩;have hj:j < y.papers.length:=by omega
  have hji:j ≠ i:=by omega
  obtain ⟨a,ha⟩:=zqq (min i j);obtain ⟨b,hb⟩:=zqq (max i j);have hal:aZ y w ⟨pk,ps,pd,pn,(j:Int)⟩ i = if ¬ a ∈ w then (bM y a,bM y a) else if ¬ b ∈ w then (bM y b,bM y b) else (0,1000000):=by
   unfold aZ;rw [if_neg (by show ¬ (j:Int) < 0; omega)];simp only [Int.toNat_natCast,ha,hb]
  have hjn:¬ (j:Int) = -1:=by omega
  have hmn:(if j < i then (j:Int) else (i:Int)) = a:=by split <;> omega
  have hmx:(if i < j then (j:Int) else (i:Int)) = b:=by split <;> omega
  have hb0:(0:Int) ≤ b:=by omega
  have hal1:a < y.papers.length:=by omega
  have hbl1:b < y.papers.length:=by omega
  have hhA:=hha a;have hhB:=hha b;obtain ⟨⟨ak,as',ad,an,ac⟩,hxa⟩:∃ p,y.papers[a] = p:=⟨_,rfl⟩;obtain ⟨⟨bk,bs,bd,bn,bc⟩,hxb⟩:∃ p,y.papers[b] = p:=⟨_,rfl⟩;have ka:bM y a = an:=by unfold bM; rw [List.getElem?_eq_getElem hal1,hxa]
  have kb:bM y b = bn:=by unfold bM; rw [List.getElem?_eq_getElem hbl1,hxb]
  rw [ka,kb] at hal;obtain ⟨u,hu⟩:=zqq (decide (a ∈ w));obtain ⟨v,hv'⟩:=zqq (decide (b ∈ w));rw [hu] at hhA;rw [hv'] at hhB;have hal2:aZ y w ⟨pk,ps,pd,pn,(j:Int)⟩ i = if u = false then (an,an) else if v = false then (bn,bn) else (0,1000000):=by
   rw [hal];cases u <;> cases v <;> simp only [decide_eq_true_eq,decide_eq_false_iff_not] at hu hv' <;> simp [hu,hv']
  rw [hal2] at hst;cases u <;> cases v
  all_goals simp only [Bool.true_eq_false,if_true,if_false] at hst
  all_goals refine aa _ ?_
  all_goals simp [hltI,hlt,hx,aj.v,aj.cells,hmn,hmx,hb0]
  all_goals refine ah.pure BL (hhB _) ?_
  all_goals simp [hltI,hlt,hx,aj.v,aj.cells,hmn,hmx,hb0,hbl1,hxb]
  all_goals refine ah.pure BL (hhA _) ?_
  all_goals simp [hltI,hlt,hx,aj.v,aj.cells,hmn,hmx,hb0,hal1,hbl1,hxa,hxb,hwi,w9]
  all_goals exact ⟨by omega,i + 1,by omega,q + 1,⟨⟨by rw [hst]; rfl,rfl⟩,by simp⟩,rfl,by omega⟩
theorem tN {y:ab} (hv:bJ aQ y) (w:List Nat) (hw:(bb w).length ≤ maxLen) {i:Nat} (hi:i < y.papers.length) (σ:af) :
  Spec Tryz.prog MC [y.v, .slice 1 ((bb w).map ii'),ii' i] σ fun r σ'=>r = .ret (.bool (cD y w i)) ∧ σ' = σ:=by
 refine Spec.aF (TQ (by simp) ?_) (by simp [y.pure,aH,ag.pure,aD (f:=ii') (fun _=>rfl)]) rfl σ;have hha:=fun (i:Nat) σ=>mP (bb w) hw (i:Int) σ;simp only [Da] at hha;obtain ⟨W,hW⟩:=zqq ((bb w).map ii');simp only [hW] at hha;rw [hW];have hhas:∀ n,mY w n = decide (n ∈ w):=fun n=>by rw [Bool.eq_iff_iff,ix,decide_eq_true_eq]
 have hcp:=(hv.papers i hi).copy;have hdf:cD y w i = (decide ((i:Int) < y.papers[i].copy) && !mY w i && !mY w y.papers[i].copy.toNat && decide (y.papers[i].kilos ≠ bM y y.papers[i].copy.toNat)):=by unfold cD; rw [List.getElem?_eq_getElem hi]
 rw [hdf,hhas,hhas];obtain ⟨⟨pk,ps,pd,pn,pc⟩,hx⟩:∃ p,y.papers[i] = p:=⟨_,rfl⟩;rw [hx] at hcp ⊢;dsimp only at hcp ⊢;have hjl:pc.toNat < y.papers.length:=by rcases hcp with h | ⟨h,h2,_⟩ <;> omega
 obtain ⟨⟨jk,js,jd,jn,jc⟩,hxj⟩:∃ p,y.papers[pc.toNat] = p:=⟨_,rfl⟩;have hgj:y.papers[pc.toNat]? = some ⟨jk,js,jd,jn,jc⟩:=by rw [List.getElem?_eq_getElem hjl,hxj]
 by_cases h1:(i:Int) < pc;rotate_left
 ·rw [decide_eq_false h1];refine aa _ ?_;simp [N9,ab.v,ab.cells,hi,hx,aj.v,aj.cells,h1,hgj]
  repeat (refine ⟨.bool false, ?_⟩; simp)
 obtain ⟨c1,c2⟩:0 ≤ pc ∧ pc < y.papers.length:=by rcases hcp with h | ⟨h,h2,_⟩ <;> omega
 obtain ⟨j,rfl⟩:∃ j:Nat,pc = j:=⟨pc.toNat,by omega⟩;have hj:j < y.papers.length:=by omega
 rw [Int.toNat_natCast] at hgj;have hxj:y.papers[j] = ⟨jk,js,jd,jn,jc⟩:=by rw [List.getElem?_eq_getElem hj] at hgj; exact Option.some.inj hgj
 have kj:bM y j = jn:=by unfold bM; rw [List.getElem?_eq_getElem hj,hxj]
 rw [decide_eq_true h1,Int.toNat_natCast,kj];have hhi:=hha i;have hhj:=hha j;obtain ⟨u,hu⟩:=zqq (decide (i ∈ w));obtain ⟨v,hv'⟩:=zqq (decide (j ∈ w));rw [hu] at hhi ⊢;rw [hv'] at hhj ⊢;have hij:i < j:=by omega
 cases u <;> cases v
 all_goals refine aa _ ?_
 all_goals simp [N9,ab.v,ab.cells,hi,hx,aj.v,aj.cells,hij]
 all_goals refine ⟨_,fun σ'=>aE.func BL (hhi σ'), ?_⟩
 all_goals simp [hj,hxj]
 all_goals first
  | (refine ⟨_,fun σ'=>aE.func BL (hhj σ'), ?_⟩; simp [aj.v,aj.cells])
  | (refine ⟨.bool false, ?_⟩; simp [aj.v,aj.cells])
 by_cases e:jn = pn
 ·simp [e]
 ·have e':¬ pn = jn:=fun h=>e h.symm;simp [e,e']
def gK (y:ab) (al:List (Int × Int)) (k:Nat) (P:Nat):Option bt:=
 if P = 0 then none
 else if 0 < dc (bh P) y.places.length y k (cw y al k) then some ⟨-1,k,P,dc (bh P) y.places.length y k (cw y al k)⟩
 else if bz (bh P) y.places.length y k (cw y al k) < 0 then some ⟨-1,k,P,bz (bh P) y.places.length y k (cw y al k)⟩ else none
def sV (o:Option bt):ag:=.tup [(o.getD ⟨0,0,0,0⟩).v, .bool o.isSome]
theorem yH (o:Option bt):(sV o).pure = true:=by simp [sV,ag.pure,aH,bt.v,bt.cells]
theorem oK {y:ab} (hv:bJ aQ y) {al:List (Int × Int)} (hal:al.length = y.papers.length) (hok:je al) (k:Nat) (σ:af) :
  Spec Tryz.prog JN [y.v, .slice 2 (al.map eH),ii' k] σ fun r σ'=>r = .ret (sV ((List.range (2 ^ y.places.length)).findSome? (gK y al k))) ∧ σ' = σ:=by
 refine Spec.aF (PO (by simp) (aa _ ?_)) (by simp [y.pure,aH,ag.pure,gX]) (yH _) σ;have hp4:=hv.p4;have hpw:=fun σ=>kL y.places.length (by omega) σ;obtain ⟨N,hN⟩:∃ N:Nat,2 ^ y.places.length = N:=⟨_,rfl⟩;have hN16:N ≤ 16:=by rw [← hN]; exact Nat.le_trans (Nat.pow_le_pow_right (by omega) hp4.2) (by decide)
 have hN1:1 ≤ N:=by rw [← hN]; exact Nat.one_le_two_pow
 have hov:=fun (P:Nat) (hP:P ≤ 1000) σ=>oe hv hal hok (k:Int) P hP σ;simp only [ab.v,ab.cells] at hov;rw [hN] at hpw ⊢;obtain ⟨AL,hAL⟩:=zqq (al.map eH);rw [hAL] at hov ⊢;simp [Mw,ab.v,ab.cells]
 refine AW.loop (ι:=Nat) (fun P fr σ'=>∃ tl:af,fr = { v:=[(1, .slice 2 AL),(2,ii' k),(3, .pval (yvL y)),(6, .ptr 0 0),(8, .int .i64 P)],ds:=[] } ∧ σ' = .box [ii' 0,ii' 0,ii' 0,ii' 0] :: tl ∧ 1 ≤ P ∧ P ≤ N ∧ (List.range N).findSome? (gK y al k) = (List.range' P (N - P)).findSome? (gK y al k)) (fun P=>N - P) 1 ⟨[],by simp,by simp,by omega,by omega,by
  obtain ⟨n,rfl⟩:∃ n,N = n + 1:=⟨N - 1,by omega⟩;rw [List.range_eq_range',List.range'_succ,List.findSome?_cons]
  rfl⟩ ?_
 rintro P fr σ' ⟨tl,rfl,rfl,hP1,hPN,hq⟩;refine (Nat.lt_or_ge P N).elim (fun hlt=>?_) (fun hge=>?_);rotate_left
 ·obtain rfl:P = N:=by omega
  rw [Nat.sub_self] at hq;have hq2:(List.range P).findSome? (gK y al k) = none:=hq;rw [hq2];refine aa _ ?_;simp;refine ah.pure F6 (hpw _) ?_;simp [sV,bt.v,bt.cells]
 have hltI:(P:Int) < N:=by omega
 have hw:IntKind.i64.wrap ((P:Int) + 1) = ((P + 1:Nat):Int):=by rw [aq (by omega) (by omega)]; simp
 obtain ⟨d,hd⟩:∃ d,N - P = d + 1:=⟨N - P - 1,by omega⟩;have hd2:N - (P + 1) = d:=by omega
 rw [hd,List.range'_succ,List.findSome?_cons] at hq;have hoP:=hov P (by omega);have hfp:gK y al k P = if 0 < dc (bh P) y.places.length y k (cw y al k) then some ⟨-1,k,P,dc (bh P) y.places.length y k (cw y al k)⟩ else if bz (bh P) y.places.length y k (cw y al k) < 0 then some ⟨-1,k,P,bz (bh P) y.places.length y k (cw y al k)⟩ else none:=by
  unfold gK; rw [if_neg (by omega)]
 obtain ⟨u,hu⟩:=zqq (dc (bh P) y.places.length y k (cw y al k));obtain ⟨v,hv'⟩:=zqq (bz (bh P) y.places.length y k (cw y al k));rw [hu,hv'] at hoP hfp;by_cases h1:0 < u
 ·rw [if_pos h1] at hfp;rw [hfp] at hq;rw [hq];refine aa _ ?_;simp;refine ah.pure F6 (hpw _) ?_;simp [hlt];refine ah.pure GD (hoP _) ?_;simp [h1,sV,bt.v,bt.cells]
 rw [if_neg h1] at hfp;by_cases h2:v < 0
 ·rw [if_pos h2] at hfp;rw [hfp] at hq;rw [hq];refine aa _ ?_;simp;refine ah.pure F6 (hpw _) ?_;simp [hlt];refine ah.pure GD (hoP _) ?_;simp [h1,h2,sV,bt.v,bt.cells]
 rw [if_neg h2] at hfp;rw [hfp] at hq;refine aa _ ?_;simp;refine ah.pure F6 (hpw _) ?_;simp [hlt];refine ah.pure GD (hoP _) ?_;simp [h1,h2,hw];exact ⟨P + 1,by omega,by simp,by omega,by omega,by rw [hq,hd2]⟩
theorem Cd {y:ab} (wrong:List Nat) (k:Nat):gK y (alL y wrong) k = oW y wrong k:=by
 funext P;unfold gK oW lS fH;rw [wP]
theorem vS {y:ab} (hv:bJ aQ y) (w:List Nat) (hw:(bb w).length ≤ maxLen) (σ:af) :
  Spec Tryz.prog NB [y.v, .slice 1 ((bb w).map ii')] σ fun r σ'=>r = .ret (sV (yk y w)) ∧ σ' = σ:=by
 refine Spec.aF (Uh (by simp) (aa _ ?_)) (by simp [y.pure,aH,ag.pure,aD (f:=ii') (fun _=>rfl)]) (yH _) σ;have hk4:=hv.k4;have hm10:=hv.m10;have hdi:=fun (i:Nat) (hi:i < y.papers.length) σ=>tN hv w hw hi σ;have hal:=fun σ=>iU hv w hw σ;have hfi:=fun (k:Nat) σ=>oK hv (pR y w) (pg hv w) k σ;simp only [Cd] at hfi;have hkp:∀ k,(List.range (2 ^ y.places.length)).findSome? (oW y w k) = ie y w k:=fun k=>rfl;simp only [hkp] at hfi;obtain ⟨W,hW⟩:=zqq ((bb w).map ii');obtain ⟨AL,hAL⟩:=zqq ((alL y w).map eH);simp only [ab.v,ab.cells,hW,hAL] at hdi hal hfi;rw [hW];simp [QJ,ab.v,ab.cells];refine AW.loop (ι:=Nat) (fun i fr σ'=>∃ tl:af,fr = { v:=[(1, .slice 1 W),(2, .pval (yvL y)),(4, .ptr 0 0),(6, .int .i64 i)],ds:=[] } ∧ σ' = .box [ii' 0,ii' 0,ii' 0,ii' 0] :: tl ∧ i ≤ y.papers.length ∧ nF y w = (List.range' i (y.papers.length - i)).find? (cD y w)) (fun i=>y.papers.length - i) 0 ⟨[],by simp,by simp,by omega,by unfold nF; rw [List.range_eq_range']; rfl⟩ ?_;rintro i fr σ' ⟨tl,rfl,rfl,hi,hq⟩;refine (Nat.lt_or_ge i y.papers.length).elim (fun hlt=>?_) (fun hge=>?_)
 ·have hltI:(i:Int) < y.papers.length:=by omega
  have hwi:IntKind.i64.wrap ((i:Int) + 1) = ((i + 1:Nat):Int):=by rw [aq (by omega) (by omega)]; simp
  obtain ⟨d,hd⟩:∃ d,y.papers.length - i = d + 1:=⟨y.papers.length - i - 1,by omega⟩;have hd2:y.papers.length - (i + 1) = d:=by omega
  rw [hd,List.range'_succ,List.find?_cons] at hq;have hdii:=hdi i hlt;obtain ⟨b,hb⟩:=zqq (cD y w i);rw [hb] at hdii hq;cases b
  ·refine aa _ ?_;simp [hltI];refine ah.pure Qk (hdii _) ?_;simp [hwi];exact ⟨i + 1,by omega,by simp,by omega,by rw [hq,hd2]⟩
  ·have hwy:yk y w = some ⟨i,0,0,0⟩:=by unfold yk; rw [hq]
   rw [hwy];refine aa _ ?_;simp [hltI];refine ah.pure Qk (hdii _) ?_;simp [sV,bt.v,bt.cells]
 obtain rfl:i = y.papers.length:=by omega
 rw [Nat.sub_self] at hq;have hq2:nF y w = none:=hq;have hwy:yk y w = (List.range y.kinds.length).findSome? (ie y w):=by unfold yk; rw [hq2]
 rw [hwy];refine aa _ ?_;simp;refine AW.loop (ι:=Nat) (fun k fr σ'=>∃ tl:af,fr = { v:=[(1, .slice 1 W),(2, .pval (yvL y)),(4, .ptr 0 0),(7, .int .i64 k)],ds:=[] } ∧ σ' = .box [ii' 0,ii' 0,ii' 0,ii' 0] :: tl ∧ k ≤ y.kinds.length ∧ (List.range y.kinds.length).findSome? (ie y w) = (List.range' k (y.kinds.length - k)).findSome? (ie y w)) (fun k=>y.kinds.length - k) 0 ⟨tl,by simp,by simp,by omega,by rw [List.range_eq_range']; rfl⟩ ?_;rintro k fr σ' ⟨tl,rfl,rfl,hk,hq⟩;refine (Nat.lt_or_ge k y.kinds.length).elim (fun hlt=>?_) (fun hge=>?_)
 ·have hltI:(k:Int) < y.kinds.length:=by omega
  have hwi:IntKind.i64.wrap ((k:Int) + 1) = ((k + 1:Nat):Int):=by rw [aq (by omega) (by omega)]; simp
  obtain ⟨d,hd⟩:∃ d,y.kinds.length - k = d + 1:=⟨y.kinds.length - k - 1,by omega⟩;have hd2:y.kinds.length - (k + 1) = d:=by omega
  rw [hd,List.range'_succ,List.findSome?_cons] at hq;have hfk:=hfi k;obtain ⟨o,ho⟩:=zqq (ie y w k);rw [ho] at hfk hq
  cases o with
  | none=>
   refine aa _ ?_;simp [hltI];refine ⟨_,fun σ' _=>aE.func Ky (hal σ'), ?_⟩;simp;refine ⟨_,fun σ' _=>aE.func EJ (hfk σ'), ?_⟩;simp [sV,bt.v,bt.cells,hwi];exact ⟨k + 1,by omega,by simp,by omega,by rw [hq,hd2]⟩
  | some p=>
   obtain ⟨p1,p2,p3,p4⟩:=p;rw [hq];refine aa _ ?_;simp [hltI];refine ⟨_,fun σ' _=>aE.func Ky (hal σ'), ?_⟩;simp;refine ⟨_,fun σ' _=>aE.func EJ (hfk σ'), ?_⟩;simp [sV,bt.v,bt.cells]
 ·obtain rfl:k = y.kinds.length:=by omega
  rw [Nat.sub_self] at hq;have hq3:(List.range y.kinds.length).findSome? (ie y w) = none:=hq;rw [hq3];refine aa _ ?_;simp [sV,bt.v,bt.cells]
theorem ve {y:ab} (hv:bJ aQ y) (w:List Nat) (hw:(bb w).length ≤ maxLen) (σ:af) :
  Spec Tryz.prog Nj [y.v, .slice 1 ((bb w).map ii')] σ fun r σ'=>r = .ret (.bool (aP y w)) ∧ σ' = σ:=by
 refine Spec.aF (T9 (by simp) (aa _ ?_)) (by simp [y.pure,aH,ag.pure,aD (f:=ii') (fun _=>rfl)]) rfl σ;have hp:=fun σ=>vS hv w hw σ;unfold aP;obtain ⟨o,ho⟩:=zqq (yk y w);rw [ho] at hp ⊢;simp only [ab.v,ab.cells] at hp
 cases o with
 | none=>
  simp [NV,ab.v,ab.cells];refine ah.pure Px (hp _) ?_;simp [sV,bt.v,bt.cells]
 | some p=>
  obtain ⟨p1,p2,p3,p4⟩:=p;simp [NV,ab.v,ab.cells];refine ah.pure Px (hp _) ?_;simp [sV,bt.v,bt.cells]
def cY (y:ab) (w:List Int) (b:Bool):Int:=if bW y w ≠ 0 then bW y w else if b = false then 4 else if aP y (bD w) then 0 else 9
theorem Fl (y:ab) (w:List Int) (kd:Int):eJ y w kd = cY y w (decide (0 ≤ kd)):=by
 unfold eJ cY;by_cases h:kd < 0
 ·simp [h,show ¬ 0 ≤ kd by omega]
 ·simp [h,show 0 ≤ kd by omega]
theorem fJ (y:ab) (hy:dv y) (w:List Int) (hwl:w.length ≤ maxLen) (b:Bool) (σ:af) :
  Spec Tryz.prog Nf [y.v, .slice 1 (w.map ii'), .bool b] σ fun r σ'=>r = .ret (ii' (cY y w b)) ∧ σ' = σ:=by
 refine Spec.aF (SN (by simp) (aa _ ?_)) (by simp [y.pure,aH,ag.pure,aD (f:=ii') (fun _=>rfl)]) rfl σ;have hwr:=fun σ=>oM y hy w hwl σ;unfold cY;by_cases h0:bW y w = 0
 ·rw [if_neg (by simp [h0])];have hw:=(cJ y w).1 h0;have hcl:=fun σ=>ve hw.valid (bD w) (by rw [hw.is]; exact hwl) σ;rw [hw.is] at hcl;rw [h0] at hwr;simp only [ab.v,ab.cells] at hwr hcl;obtain ⟨c,hc⟩:=zqq (aP y (bD w));rw [hc] at hcl ⊢;cases b
  ·simp [KS,ab.v,ab.cells];refine ah.pure Ja (hwr _) ?_;simp
  ·cases c
   all_goals simp [KS,ab.v,ab.cells]
   all_goals refine ah.pure Ja (hwr _) ?_
   all_goals simp
   all_goals refine ah.pure Tk (hcl _) ?_
   all_goals simp
 ·rw [if_pos h0];obtain ⟨e,he⟩:=zqq (bW y w);rw [he] at hwr h0 ⊢;simp only [ab.v,ab.cells] at hwr;simp [KS,ab.v,ab.cells];refine ah.pure Ja (hwr _) ?_;simp [h0]
theorem oc (y:ab) (al:List (Int × Int)) (k P:Nat):gK y al k P = none ↔ (P = 0 ∨ (dc (bh P) y.places.length y k (cw y al k) = 0 ∧ bz (bh P) y.places.length y k (cw y al k) = 0)):=by
 have m0:0 ≤ dc (bh P) y.places.length y k (cw y al k):=by unfold dc; split <;> omega
 have l0:bz (bh P) y.places.length y k (cw y al k) ≤ 0:=by unfold bz; omega
 unfold gK;split
 ·simp [*]
 ·split
  ·simp; omega
  ·split
   ·simp; omega
   ·simp; omega
theorem Eo (y:ab) (al:List (Int × Int)) (k:Nat):(!((List.range (2 ^ y.places.length)).findSome? (gK y al k)).isSome) = fV y k (cw y al k):=by
 have hs:(!((List.range (2 ^ y.places.length)).findSome? (gK y al k)).isSome) = true ↔ (List.range (2 ^ y.places.length)).findSome? (gK y al k) = none:=by
  cases (List.range (2 ^ y.places.length)).findSome? (gK y al k) <;> simp
 rw [List.findSome?_eq_none_iff] at hs;refine Bool.eq_iff_iff.2 ?_;rw [hs,kT];unfold qV;constructor
 ·intro h P h1 h2;rcases (oc y al k P).1 (h P (List.mem_range.2 h2)) with e | e
  ·omega
  ·exact e
 ·intro h P hP;rcases Nat.eq_zero_or_pos P with e | e
  ·exact (oc y al k P).2 (.inl e)
  ·exact (oc y al k P).2 (.inr (h P e (List.mem_range.1 hP)))
theorem xx {y:ab} (hv:bJ aQ y) {al:List (Int × Int)} (hal:al.length = y.papers.length) (hok:je al) (k:Nat) (σ:af) :
  Spec Tryz.prog MW [y.v, .slice 2 (al.map eH),ii' k] σ fun r σ'=>r = .ret (.bool (fV y k (cw y al k))) ∧ σ' = σ:=by
 refine Spec.aF (U2 (by simp) (aa _ ?_)) (by simp [y.pure,aH,ag.pure,gX]) rfl σ;have hfi:=fun σ=>oK hv hal hok k σ;rw [← Eo];obtain ⟨o,ho⟩:=zqq ((List.range (2 ^ y.places.length)).findSome? (gK y al k));rw [ho] at hfi ⊢;simp only [ab.v,ab.cells,sV] at hfi
 cases o with
 | none=>
  simp [Nr,ab.v,ab.cells];refine ah.pure EJ (hfi _) ?_;simp [bt.v,bt.cells]
 | some p=>
  obtain ⟨p1,p2,p3,p4⟩:=p;simp [Nr,ab.v,ab.cells];refine ah.pure EJ (hfi _) ?_;simp [bt.v,bt.cells]
theorem Ek {y:ab} (hv:bJ aQ y) {w:List Nat} {i:Nat} (hi:i < y.papers.length) {L H:Int} (hr:jE y w i L H) {a b:Int} (hs:aZ y w y.papers[i] i = (a,b)) {k:Nat} (hk:aK y i = k) {m:Int} (h1:a ≤ m) (h2:m ≤ b):fV y k (cw y (jT y (alL y w) i (a,m)) k) = decide (L ≤ m):=by
 have hs':=(qK hv (wrong:=w) hi).trans hs;have h3:=mw hv hi hr hs' (m:=m) h1 h2;have h4:=kT y k (cw y (jT y (alL y w) i (a,m)) k);have h5:=zh hv (wrong:=w) hi a m;rw [hk] at h3 h5;rw [h5] at h4 ⊢;rw [h3] at h4;exact Bool.eq_iff_iff.2 (by rw [h4,decide_eq_true_eq])
theorem BT {y:ab} (hv:bJ aQ y) {w:List Nat} {i:Nat} (hi:i < y.papers.length) {L H:Int} (hr:jE y w i L H) {a b:Int} (hs:aZ y w y.papers[i] i = (a,b)) {k:Nat} (hk:aK y i = k) {m:Int} (h1:a ≤ m) (h2:m ≤ b):fV y k (cw y (jT y (alL y w) i (m,b)) k) = decide (m ≤ H):=by
 have hs':=(qK hv (wrong:=w) hi).trans hs;have h3:=kH hv hi hr hs' (m:=m) h1 h2;have h4:=kT y k (cw y (jT y (alL y w) i (m,b)) k);have h5:=zh hv (wrong:=w) hi m b;rw [hk] at h3 h5;rw [h5] at h4 ⊢;rw [h3] at h4;exact Bool.eq_iff_iff.2 (by rw [h4,decide_eq_true_eq])
theorem Rb (A:Nat → Bool) {al:List (Int × Int)} (ha:je al) (i:Nat) (p:aj):(-1000000 ≤ qB A (et al p i) ∧ qB A (et al p i) ≤ 1000000) ∧ -1000000 ≤ qD A (et al p i) ∧ qD A (et al p i) ≤ 1000000:=by
 obtain ⟨h1,h2⟩:=ha i;unfold Big at h1 h2;unfold qB qD et;dsimp only;by_cases e1:p.dst = -1 <;> by_cases e2:p.src = -1 <;> cases amg A p.src <;> cases amg A p.dst <;> simp [e1,e2] <;> omega
theorem MR {y:ab} (hv:bJ aQ y) {al:List (Int × Int)} (hok:je al) (k:Int) (A:Nat → Bool):(-10000000 ≤ fQ A y.places.length y k (cw y al k) ∧ fQ A y.places.length y k (cw y al k) ≤ 14000000) ∧ (-10000000 ≤ fR A y.places.length y k (cw y al k) ∧ fR A y.places.length y k (cw y al k) ≤ 14000000) ∧ (0 ≤ eO A y.places.length y k ∧ eO A y.places.length y k ≤ 4000000) ∧ 0 ≤ fb A y.places.length y k ∧ fb A y.places.length y k ≤ 4000000:=by
 have hyo:=hv.ok;have hp4:=hv.p4;have hm10:=hv.m10;have b1:=da (A:=A) (g:=fun a=>loC (aB y.first k a)) (c:=1000000) (by omega) (fun a=>(bx hyo.first k a).1) y.places.length;have b2:=da (A:=A) (g:=fun a=>hiC (aB y.first k a)) (c:=1000000) (by omega) (fun a=>(bx hyo.first k a).2.1) y.places.length;have b3:=da (A:=A) (g:=fun a=>loC (aB y.last k a)) (c:=1000000) (by omega) (fun a=>(bx hyo.last k a).1) y.places.length;have b4:=da (A:=A) (g:=fun a=>hiC (aB y.last k a)) (c:=1000000) (by omega) (fun a=>(bx hyo.last k a).2.1) y.places.length;have c1:=kN (y:=y) (fun i p=>(yF A hok i p).1) k y.papers.length (Nat.le_refl _);have c2:=kN (y:=y) (fun i p=>(yF A hok i p).2) k y.papers.length (Nat.le_refl _);rw [kS y al k (Nat.le_refl _)] at c1 c2;unfold fQ fR eO fb;omega
def goP (y:ab) (k:Int) (js:List b8) (lo hi:Int) (P:Nat):Bool:=
 decide (dc (bh P) y.places.length y k js = 0) && decide (bz (bh P) y.places.length y k js = 0) && (!cz (bh P) y k y.places.length || decide (jG (bh P) y.places.length y k js ≤ fb (bh P) y.places.length y k + hi)) && decide (eO (bh P) y.places.length y k + lo ≤ lC (bh P) y.places.length y k js)
theorem Gh (y:ab) (k:Int) (js:List b8) (lo hi:Int):my y k js lo hi = (List.range (2 ^ y.places.length)).all (goP y k js lo hi):=rfl
theorem x8 {y:ab} (hv:bJ aQ y) (w:List Nat) (k:Int) {lo hi:Int} (hlo:-100000000 ≤ lo ∧ lo ≤ 100000000) (hhi:-100000000 ≤ hi ∧ hi ≤ 100000000) (σ:af) :
  Spec Tryz.prog NY [y.v, .slice 2 ((alL y w).map eH),ii' k,ii' lo,ii' hi] σ fun r σ'=>r = .ret (.bool (my y k (ba y w k) lo hi)) ∧ σ' = σ:=by
 refine Spec.aF (Uz (by simp) (aa _ ?_)) (by simp [y.pure,aH,ag.pure,gX]) rfl σ;have hp4:=hv.p4;have hm10:=hv.m10;have hpw:=fun σ=>kL y.places.length (by omega) σ;obtain ⟨N,hN⟩:∃ N:Nat,2 ^ y.places.length = N:=⟨_,rfl⟩;have hN16:N ≤ 16:=by rw [← hN]; exact Nat.le_trans (Nat.pow_le_pow_right (by omega) hp4.2) (by decide)
 have hlen:=pR y w;have hok:=pg hv w;have hjo:=(mR hv w k).1;have hov:=fun (P:Nat) (hP:P ≤ 1000) σ=>oe hv hlen hok k P hP σ;have hca:=fun (P:Nat) (hP:P ≤ 1000) σ=>so hv hlen hok k P hP σ;have hsh:=fun (P:Nat) (hP:P ≤ 1000) σ=>nG hv k P hP σ;have hle:=fun i hi σ=>n7 hv (i:=i) hi σ;have hcb:=MR hv hok k;have hob:=fun A=>Rb A hok;rw [Gh, ← wP];rw [← wP] at hjo;rw [hN] at hpw ⊢;simp only [ab.v,ab.cells] at hov hca hsh hle;obtain ⟨AL,hAL⟩:=zqq ((alL y w).map eH);have hALl:AL.length = y.papers.length:=by rw [← hAL,List.length_map,hlen]
 have hALi:∀ i (h:i < y.papers.length),AL[i]'(by omega) = eH (kV (alL y w) i):=fun i h=>by
  simp only [← hAL,List.getElem_map];unfold kV;rw [List.getElem?_eq_getElem (by omega)]; rfl
 rw [hAL] at hov hca ⊢;obtain ⟨al,hal⟩:=zqq (alL y w);simp only [hal] at hov hca hlen hok hjo hcb hob hALi ⊢;clear hAL;simp [Oz,ab.v,ab.cells];refine ah.pure F6 (hpw _) ?_;simp;refine AW.loop (ι:=Nat) (fun P fr σ'=>fr = { v:=[(1, .slice 2 AL),(2,ii' k),(3,ii' lo),(4,ii' hi),(5, .pval (yvL y)),(11, .int .i64 N),(12, .int .i64 P)],ds:=[] } ∧ P ≤ N ∧ (List.range N).all (goP y k (cw y al k) lo hi) = (List.range' P (N - P)).all (goP y k (cw y al k) lo hi)) (fun P=>N - P) 0 ⟨by simp,by omega,by rw [List.range_eq_range']; rfl⟩ ?_;rintro P fr tl ⟨rfl,hPN,hq⟩;refine (Nat.lt_or_ge P N).elim (fun hlt=>?_) (fun hge=>?_);rotate_left
 ·obtain rfl:P = N:=by omega
  rw [Nat.sub_self] at hq;rw [hq];refine aa _ ?_;simp
 have hltI:(P:Int) < N:=by omega
 have hwP:IntKind.i64.wrap ((P:Int) + 1) = ((P + 1:Nat):Int):=by rw [aq (by omega) (by omega)]; simp
 obtain ⟨d,hd⟩:∃ d,N - P = d + 1:=⟨N - P - 1,by omega⟩;have hd2:N - (P + 1) = d:=by omega
 rw [hd,List.range'_succ,List.all_cons] at hq;have hgP:goP y k (cw y al k) lo hi P = (decide (dc (bh P) y.places.length y k (cw y al k) = 0) && decide (bz (bh P) y.places.length y k (cw y al k) = 0) && (!cz (bh P) y k y.places.length || decide (jG (bh P) y.places.length y k (cw y al k) ≤ fb (bh P) y.places.length y k + hi)) && decide (eO (bh P) y.places.length y k + lo ≤ lC (bh P) y.places.length y k (cw y al k))):=rfl;have hoP:=hov P (by omega);have hcP:=hca P (by omega);have hsP:=hsh P (by omega);have ham:=fun a ha σ=>kD P (by omega) a ha σ;obtain ⟨A,hA⟩:=zqq (bh P);rw [hA] at hgP hoP hcP hsP ham;obtain ⟨k1,k2,k3,k4⟩:=hcb A;have m0:0 ≤ dc A y.places.length y k (cw y al k):=by unfold dc; split <;> omega
 have l0:bz A y.places.length y k (cw y al k) ≤ 0:=by unfold bz; omega
 obtain ⟨o1,o2⟩:=EW A _ hjo;have g1:jG A y.places.length y k (cw y al k) = fQ A y.places.length y k (cw y al k) + bO (qB A) (cw y al k):=by unfold jG fQ; rw [o1]; omega
 have g2:lC A y.places.length y k (cw y al k) = fR A y.places.length y k (cw y al k) + bO (qD A) (cw y al k):=by unfold lC fR; rw [o2]; omega
 rw [g1,g2] at hgP;obtain ⟨mu,hmu⟩:∃ v,dc A y.places.length y k (cw y al k) = v:=⟨_,rfl⟩;obtain ⟨li,hli⟩:∃ v,bz A y.places.length y k (cw y al k) = v:=⟨_,rfl⟩;obtain ⟨cl,hcl⟩:∃ v,fQ A y.places.length y k (cw y al k) = v:=⟨_,rfl⟩;obtain ⟨ch,hch⟩:∃ v,fR A y.places.length y k (cw y al k) = v:=⟨_,rfl⟩;obtain ⟨sl,hsl⟩:∃ v,eO A y.places.length y k = v:=⟨_,rfl⟩;obtain ⟨sh,hsh'⟩:∃ v,fb A y.places.length y k = v:=⟨_,rfl⟩;obtain ⟨m,hm⟩:∃ v,cz A y k y.places.length = v:=⟨_,rfl⟩;rw [hmu,hli,hm,hcl,hch,hsl,hsh'] at hgP;rw [hmu,hli] at hoP;rw [hcl,hch] at hcP;rw [hsl,hsh',hm] at hsP;rw [hmu] at m0;rw [hli] at l0;rw [hcl] at k1;rw [hch] at k2;rw [hsl] at k3;rw [hsh'] at k4;clear o1 o2 g1 g2;by_cases h1:mu = 0;rotate_left
 ·have hm1:0 < mu:=by omega
  have hgF:goP y k (cw y al k) lo hi P = false:=by rw [hgP]; simp [h1]
  rw [hgF,Bool.false_and] at hq;rw [hq];refine aa _ ?_;simp [hltI];refine ah.pure GD (hoP _) ?_;simp [hm1]
 by_cases h2:li = 0;rotate_left
 ·have hm1:li < 0:=by omega
  have hgF:goP y k (cw y al k) lo hi P = false:=by rw [hgP]; simp [h2]
  rw [hgF,Bool.false_and] at hq;rw [hq];refine aa _ ?_;simp [hltI];refine ah.pure GD (hoP _) ?_;simp [h1,hm1]
 rw [h1,h2] at hoP;simp only [h1,h2,decide_true,Bool.true_and] at hgP;refine aa _ ?_;simp [hltI];refine ah.pure GD (hoP _) ?_;simp;refine ah.pure IY (hcP _) ?_;simp;refine ah.pure Je (hsP _) ?_;simp;obtain ⟨n,hn⟩:=zqq tl.length;have G0:∀ (o:cq) (l:af),(tl ++ o :: l)[n]? = some o:=fun o l=>by rw [← hn,List.getElem?_append_right (Nat.le_refl _)]; simp
 have S0:∀ (o x:cq) (l:af),(tl ++ o :: l).set n x = tl ++ x :: l:=fun o x l=>by rw [← hn,List.set_append_right _ _ (Nat.le_refl _)]; simp
 rw [hn];refine AW.loop (ι:=Nat) (fun i fr σ'=>∃ (u v:Int) (t2:af),fr = { v:=[(1, .slice 2 AL),(2,ii' k),(3,ii' lo),(4,ii' hi),(5, .pval (yvL y)),(11, .int .i64 N),(12, .int .i64 P),(15, .ptr n 0),(16, .pval (.agg [ii' sl,ii' sh])),(17, .bool m),(18, .int .i64 i)],ds:=[] } ∧ σ' = tl ++ .box [ii' u,ii' v] :: t2 ∧ i ≤ y.papers.length ∧ u = cl + bO (qB A) (iy y al k i) ∧ v = ch + bO (qD A) (iy y al k i)) (fun i=>y.papers.length - i) 0 ⟨cl,ch,[.dead],by simp,by simp,by omega,by simp [ju,bO],by simp [ju,bO]⟩ ?_;rintro i fr σ' ⟨u,v,t2,rfl,rfl,hi',hu,hv'⟩;refine (Nat.lt_or_ge i y.papers.length).elim (fun hlt2=>?_) (fun hge=>?_);rotate_left
 ·obtain rfl:i = y.papers.length:=by omega
  rw [kS y al k (Nat.le_refl _)] at hu hv';rw [← hu, ← hv'] at hgP;have c1:=kN (y:=y) (fun i p=>(hob A i p).1) k y.papers.length (Nat.le_refl _);have c2:=kN (y:=y) (fun i p=>(hob A i p).2) k y.papers.length (Nat.le_refl _);rw [kS y al k (Nat.le_refl _)] at c1 c2;have wa:IntKind.i64.wrap (sh + hi) = sh + hi:=aq (by omega) (by omega);have wb:IntKind.i64.wrap (sl + lo) = sl + lo:=aq (by omega) (by omega);cases m
  ·simp only [Bool.not_false,Bool.true_or,Bool.true_and] at hgP;by_cases hB:sl + lo ≤ v
   ·have hB':¬ v < sl + lo:=by omega
    rw [decide_eq_true hB] at hgP;rw [hgP,Bool.true_and] at hq;refine aa _ ?_;simp [G0,wa,wb,hB',hwP];exact ⟨P + 1,by omega,by simp,by omega,by rw [hq,hd2]⟩
   ·have hB':v < sl + lo:=by omega
    rw [decide_eq_false hB] at hgP;rw [hgP,Bool.false_and] at hq;rw [hq];refine aa _ ?_;simp [G0,wa,wb,hB']
  ·simp only [Bool.not_true,Bool.false_or] at hgP;by_cases hC:u ≤ sh + hi
   ·have hC':¬ sh + hi < u:=by omega
    rw [decide_eq_true hC,Bool.true_and] at hgP;by_cases hB:sl + lo ≤ v
    ·have hB':¬ v < sl + lo:=by omega
     rw [decide_eq_true hB] at hgP;rw [hgP,Bool.true_and] at hq;refine aa _ ?_;simp [G0,wa,wb,hB',hC',hwP];exact ⟨P + 1,by omega,by simp,by omega,by rw [hq,hd2]⟩
    ·have hB':v < sl + lo:=by omega
     rw [decide_eq_false hB] at hgP;rw [hgP,Bool.false_and] at hq;rw [hq];refine aa _ ?_;simp [G0,wa,wb,hB',hC']
   ·have hC':sh + hi < u:=by omega
    rw [decide_eq_false hC,Bool.false_and] at hgP;rw [hgP,Bool.false_and] at hq;rw [hq];refine aa _ ?_;simp [G0,wa,wb,hC']
 have hltI2:(i:Int) < y.papers.length:=by omega
 have hwi:IntKind.i64.wrap ((i:Int) + 1) = ((i + 1:Nat):Int):=by rw [aq (by omega) (by omega)]; simp
 have hal_i:i < AL.length:=by omega
 have c1:=kN (y:=y) (fun i p=>(hob A i p).1) k i hi';have c2:=kN (y:=y) (fun i p=>(hob A i p).2) k i hi';have s1:=lP (qB A) al k hlt2;have s2:=lP (qD A) al k hlt2;have hlii:=fun σ=>hle i hlt2 σ;have hpv:=hv.papers i hlt2;obtain ⟨z1,z2⟩:=hok i;unfold Big at z1 z2;have hali:=hALi i hlt2;obtain ⟨⟨al1,al2⟩,hgs⟩:∃ s,kV al i = s:=⟨_,rfl⟩;rw [hgs] at z1 z2 hali;unfold et at s1 s2;rw [hgs] at s1 s2;obtain ⟨⟨pk,ps,pd,pn,pc⟩,hx⟩:∃ p,y.papers[i] = p:=⟨_,rfl⟩;rw [hx] at hlii s1 s2 hpv;have hps:=hpv.src;have hpd:=hpv.dst;have hpne:=hpv.ne;dsimp only at s1 s2 hps hpd hpne z1 z2;have hams:=fun σ=>ham ps (by omega) σ;have hamd:=fun σ=>ham pd (by omega) σ;obtain ⟨S,hS⟩:=zqq (amg A ps);obtain ⟨D,hD⟩:=zqq (amg A pd);obtain ⟨Ld,hL⟩:∃ L,br ⟨pk,ps,pd,pn,pc⟩ i = L:=⟨_,rfl⟩;rw [hS] at hams;rw [hD] at hamd;rw [hL] at hlii s1 s2;simp only [qB,qD,hS,hD] at s1 s2;obtain ⟨X,hX⟩:∃ X:af,tl ++ .box [ii' u,ii' v] :: t2 = X:=⟨_,rfl⟩;by_cases e1:pk = k;rotate_left
 ·rw [if_neg (by simp [e1])] at s1 s2;refine aa _ ?_;simp [hltI2,hlt2,hx,aj.v,aj.cells,hal_i,hali,eH,e1,hwi];exact ⟨i + 1,by omega,by simp,_,_,⟨rfl,rfl⟩,by omega,by rw [s1]; omega,by rw [s2]; omega⟩
 cases Ld
 ·rw [if_neg (by simp)] at s1 s2;refine aa _ ?_;simp [hltI2,hlt2,hx,aj.v,aj.cells,hal_i,hali,eH,e1];refine ah.pure Gt (hlii _) ?_;simp [hwi];exact ⟨i + 1,by omega,by simp,_,_,⟨rfl,rfl⟩,by omega,by rw [s1]; omega,by rw [s2]; omega⟩
 rw [if_pos ⟨e1,rfl⟩] at s1 s2;clear hX;have W1:IntKind.i64.wrap (u + al1) = u + al1:=aq (by omega) (by omega);have W2:IntKind.i64.wrap (v + al2) = v + al2:=aq (by omega) (by omega);have W3:IntKind.i64.wrap (u + al1 + al2) = u + al1 + al2:=aq (by omega) (by omega);have W4:IntKind.i64.wrap (u + al1 + al2 - al1) = u + al1 + al2 - al1:=aq (by omega) (by omega);have W5:IntKind.i64.wrap (v + al2 + al1) = v + al2 + al1:=aq (by omega) (by omega);have W6:IntKind.i64.wrap (v + al2 + al1 - al2) = v + al2 + al1 - al2:=aq (by omega) (by omega);have W7:IntKind.i64.wrap (u - al2) = u - al2:=aq (by omega) (by omega);have W8:IntKind.i64.wrap (v - al1) = v - al1:=aq (by omega) (by omega);have W9:IntKind.i64.wrap u = u:=aq (by omega) (by omega);have W10:IntKind.i64.wrap v = v:=aq (by omega) (by omega);have W11:IntKind.i64.wrap (u - al1) = u - al1:=aq (by omega) (by omega);have W12:IntKind.i64.wrap (v - al2) = v - al2:=aq (by omega) (by omega);by_cases c1:pd = -1
 ·have c2:¬ ps = -1:=by omega
  simp only [if_pos c1,if_neg c2] at s1 s2;cases S
  all_goals simp only [if_true,if_false,Bool.false_eq_true] at s1 s2
  all_goals refine aa _ ?_
  all_goals simp [hltI2,hlt2,hx,aj.v,aj.cells,hal_i,hali,eH,e1]
  all_goals refine ah.pure Gt (hlii _) ?_
  all_goals simp [hwi,c1,c2,G0,S0,W1,W2]
  all_goals refine ah.pure qv (hams _) ?_
  all_goals simp [hwi,c1,c2,G0,S0,W1,W2,W3,W4,W5,W6]
  all_goals exact ⟨i + 1,by omega,by simp,_,_,⟨rfl,rfl⟩,by omega,by rw [s1]; omega,by rw [s2]; omega⟩
 by_cases c2:ps = -1
 ·simp only [if_neg c1,if_pos c2] at s1 s2;cases D
  all_goals simp only [if_true,if_false,Bool.false_eq_true] at s1 s2
  all_goals refine aa _ ?_
  all_goals simp [hltI2,hlt2,hx,aj.v,aj.cells,hal_i,hali,eH,e1]
  all_goals refine ah.pure Gt (hlii _) ?_
  all_goals simp [hwi,c1,c2,G0,S0,W7,W8]
  all_goals refine ah.pure qv (hamd _) ?_
  all_goals simp [hwi,c2,G0,S0,W7,W8,W9,W10,W11,W12]
  all_goals exact ⟨i + 1,by omega,by simp,_,_,⟨rfl,rfl⟩,by omega,by rw [s1]; omega,by rw [s2]; omega⟩
 ·simp only [if_neg c1,if_neg c2] at s1 s2;refine aa _ ?_;simp [hltI2,hlt2,hx,aj.v,aj.cells,hal_i,hali,eH,e1];refine ah.pure Gt (hlii _) ?_;simp [hwi,c1,c2];exact ⟨i + 1,by omega,by simp,_,_,⟨rfl,rfl⟩,by omega,by rw [s1]; omega,by rw [s2]; omega⟩
end Go.AM
