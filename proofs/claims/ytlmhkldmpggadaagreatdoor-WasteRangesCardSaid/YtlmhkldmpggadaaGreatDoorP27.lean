/- Chapter 09: the fewest papers: of the program. Chapter 09: papers that must be wrong: of the program. Chapter 09: some papers, by bits; Has. Chapter 09: of the reference: powers, places among .. -/
import Derived.Test.YtlmhkldmpggadaaGreatDoorP26
import Derived.Test.YtlmhkldmpggadaaGreatDoorP23
import Derived.Test.YtlmhkldmpggadaaGreatDoorP21
import Derived.Test.YtlmhkldmpggadaaGreatDoorP25
import Derived.Test.YtlmhkldmpggadaaGreatDoorP15
import Derived.Below
namespace Go.AM
open Go.Proofs
set_option maxRecDepth 100000
set_option maxHeartbeats 1000000
def sX (y:ab):List Nat × Int:=if iW y ≠ 0 then ([],iW y) else match AN y with
 | some l=>(l,0)
 | none=>([],9)
theorem xF {y:ab} (h:iW y = 0):bJ aQ y:=by
 unfold iW at h;by_cases h0:bW y [] = 0
 ·exact ((cJ y []).1 h0).valid
 ·rw [if_pos h0] at h; exact absurd h h0
theorem lb (y:ab) (hy:dv y) (σ:af):Spec Tryz.prog IG [y.v] σ fun r σ'=>r = .ret (.tup [.slice 1 ((bb (sX y).1).map ii'),ii' (sX y).2]) ∧ σ' = σ:=by
 refine Spec.aF (TK (by simp) ?_) (by simp [y.pure,aH]) (by simp [ag.pure,aH,aD (f:=ii') (fun _=>rfl)]) σ;have hen:=fun σ=>iN y hy σ;have hls:=fun σ=>lV y σ;simp only [ab.v,ab.cells] at hen hls;unfold sX;by_cases h0:iW y = 0;rotate_left
 ·rw [if_pos h0];refine aa _ ?_;simp [M1,ab.v,ab.cells];refine ah.pure Gs (hen _) ?_;simp [h0,bb]
 rw [if_neg (by simp [h0])];have hv:=xF h0;have hm10:=hv.m10;rw [h0] at hen;rw [D8];refine aa _ ?_;simp [M1,ab.v,ab.cells];refine ah.pure Gs (hen _) ?_;simp;refine ah.pure RI (hls _) ?_;simp;refine AW.jM (by simp) fun asg' body' ca cb hps=>?_;have hcl:=fun l (hl:ou l) σ=>dk hv l hl σ;simp only [mZ,ab.v,ab.cells] at hcl;obtain ⟨ya,hya⟩:∃ ya:ag,ag.agg [.slice 1 (y.kinds.map .str), .slice 1 (y.places.map .str), .slice 4 (y.first.map ay.v), .slice 5 (y.papers.map aj.v), .slice 4 (y.last.map ay.v)] = ya:=⟨_,rfl⟩;rw [hya] at hcl;simp only [hya];have hl1:=fun J Stop=>ku y (by omega) 4 [.box [.slice 1 []], .box [ii' 0], .dead, .dfr, .looprec 22 [(2, .ptr 0 0),(3, .ptr 1 0),(4, .pval ya),(16, .func (.func 133) [] [.pval ya])] [17] asg' body' 3 .ready none] J Stop;rw [show y.v = ya from hya] at hl1;change oq Tryz.prog (.func (.func 133) [] [.pval ya]) [.yieldf 4] [.box [.slice 1 []], .box [ii' 0], .dead, .dfr, .looprec 22 [(2, .ptr 0 0),(3, .ptr 1 0),(4, .pval ya),(16, .func (.func 133) [] [.pval ya])] [17] asg' body' 3 .ready none] (vZ 4 _ _)
 refine oq.func La ((hl1
  (fun done s=>s = [.box [.slice 1 []], .box [ii' 0], .dead, .dfr, .looprec 22 [(2, .ptr 0 0),(3, .ptr 1 0),(4, .pval ya),(16, .func (.func 133) [] [.pval ya])] [17] asg' body' 3 .ready none] ∧ ∀ l ∈ done,aP y l = false)
  (fun s=>∃ l,s = [.box [.slice 1 ((bb l).map ii')], .box [ii' 0], .dead, .dfr, .looprec 22 [(2, .ptr 0 0),(3, .ptr 1 0),(4, .pval ya),(16, .func (.func 133) [] [.pval ya])] [17] asg' body' 3 .done (some .ret)] ∧ (qH y.papers.length).find? (aP y) = some l) ?_ ?_).mono ?_)
 ·subst hya;rintro done l s tl ⟨rfl,hd⟩ hsl hlm hll ⟨rest,hall⟩;refine aE.round (e:=[(2, .ptr 0 0),(3, .ptr 1 0),(4, .pval (.agg [.slice 1 (y.kinds.map .str), .slice 1 (y.places.map .str), .slice 4 (y.first.map ay.v), .slice 5 (y.papers.map aj.v), .slice 4 (y.last.map ay.v)])),(16, .func (.func 133) [] [.pval (.agg [.slice 1 (y.kinds.map .str), .slice 1 (y.places.map .str), .slice 4 (y.first.map ay.v), .slice 5 (y.papers.map aj.v), .slice 4 (y.last.map ay.v)])])]) (D:=3) (pend:=none) ca cb hps (by simp) rfl ?_;have hcll:=hcl l (by unfold ou; simp only [maxLen]; omega);refine aa _ ?_;simp [jf];refine ⟨_,_,_,_,_,_,_,⟨rfl,rfl,rfl,rfl,rfl,rfl,rfl⟩, ?_⟩;refine aa _ ?_;simp;refine ah.pure Ay (hcll _) ?_;rcases tf (aP y l) with hc | hc
  ·simp [hc];exact ⟨_,_,_,_,_,_,_,_,rfl,[_,_,_,_,_],⟨[],by simp⟩,rfl, .inl ⟨rfl,rfl,fun l1 h1=>h1.elim (hd l1) fun e=>e ▸ hc⟩⟩
  ·simp [hc];have hfi:(qH y.papers.length).find? (aP y) = some l:=by
    rw [hall,List.find?_append,List.find?_eq_none.2 fun l1 h1=>by rw [hd l1 h1]; simp];simp [hc]
   exact ⟨_,_,_,_,_,_,_,_,rfl,[_,_,_,_,_],⟨[],by simp⟩,rfl, .inr ⟨rfl,l,rfl,hfi⟩⟩
 ·exact ⟨rfl,by simp⟩
 ·rintro r σ' ⟨rfl,s,tl,rfl,hs,⟨rfl,hJ⟩ | ⟨l,rfl,hS⟩⟩
  ·have hfi:(qH y.papers.length).find? (aP y) = none:=List.find?_eq_none.2 fun l hl=>by rw [hJ l hl]; simp
   rw [hfi];refine ⟨_,_,_,_,_,_,_,_,rfl,by simp, ?_⟩;simp [bb]
  ·rw [hS];refine ⟨_,_,_,_,_,_,_,_,rfl,by simp, ?_⟩;simp
def Be (y:ab):List Nat × Int:=if iW y ≠ 0 then ([],iW y) else (K9 y,0)
def nW (y:ab) (k:Nat):List Nat:=(List.range k).filter fun i=>!aP y (kp y.papers.length i)
theorem CF (y:ab) (k:Nat):nW y (k + 1) = nW y k ++ if aP y (kp y.papers.length k) then [] else [k]:=by
 unfold nW;rw [List.range_succ,List.filter_append];congr 1;cases h:aP y (kp y.papers.length k) <;> simp [h]
theorem HB (m k:Nat):vp m k = kp m k:=by
 unfold vp kp;refine List.filter_congr fun i _=>?_;by_cases h:i = k
 ·simp [h]
 ·have:¬ (i:Int) = k:=by omega
  simp [h,this]
theorem nC (y:ab) (hy:dv y) (σ:af):Spec Tryz.prog Il [y.v] σ fun r σ'=>r = .ret (.tup [.slice 1 ((bb (Be y).1).map ii'),ii' (Be y).2]) ∧ σ' = σ:=by
 refine Spec.aF (TH (by simp) ?_) (by simp [y.pure,aH]) (by simp [ag.pure,aH,aD (f:=ii') (fun _=>rfl)]) σ;have hen:=fun σ=>iN y hy σ;simp only [ab.v,ab.cells] at hen;unfold Be;by_cases h0:iW y = 0;rotate_left
 ·rw [if_pos h0];refine aa _ ?_;simp [N2,ab.v,ab.cells];refine ah.pure Gs (hen _) ?_;simp [h0,bb]
 rw [if_neg (by simp [h0])];have hv:=xF h0;have hm10:=hv.m10;rw [h0] at hen;have hal:=fun (k:Nat) σ=>oL y (by omega) k σ;have hfit:∀ k,ou (kp y.papers.length k):=fun k=>by
  have:=List.length_filter_le (fun i:Nat=>decide (i ≠ k)) (List.range y.papers.length);unfold ou kp;simp only [maxLen,List.length_range] at this ⊢;omega
 have hcl:=fun k σ=>dk hv (kp y.papers.length k) (hfit k) σ;simp only [mZ] at hcl;simp only [HB] at hal;simp only [ab.v,ab.cells] at hal hcl;refine aa _ ?_;simp [N2,ab.v,ab.cells];refine ah.pure Gs (hen _) ?_;simp;refine AW.loop (ι:=Nat) (fun k fr σ'=>∃ (q:Nat) (tl:af),fr = { v:=[(2, .oslice 1 ((bb (nW y k)).map ii') 0 q),(4, .pval y.v),(17, .int .i64 y.papers.length),(18, .int .i64 k)],ds:=[] } ∧ σ' = .spare 1 q :: tl ∧ k ≤ y.papers.length) (fun k=>y.papers.length - k) 0 ⟨0,[.dead],by simp [nW,bb,ab.v,ab.cells],rfl,by omega⟩ ?_;rintro k fr σ' ⟨q,tl,rfl,rfl,hk⟩;refine (Nat.lt_or_ge k y.papers.length).elim (fun hlt=>?_) (fun hge=>?_);rotate_left
 ·obtain rfl:k = y.papers.length:=by omega
  refine aa _ ?_;simp [nW,K9]
 have hltI:(k:Int) < y.papers.length:=by omega
 have w3:IntKind.i64.wrap ((k:Int) + 1) = ((k + 1:Nat):Int):=by rw [aq (by omega) (by omega)]; simp
 have hst:=CF y k;have hln:(bb (nW y k)).length ≤ k:=by
  have:=List.length_filter_le (fun i:Nat=>!aP y (kp y.papers.length i)) (List.range k);simp only [bb,List.length_map,nW];simpa using this
 have hclk:=hcl k;have halk:=hal k;rcases tf (aP y (kp y.papers.length k)) with hc | hc
 ·rw [hc] at hclk hst;refine aa _ ?_;simp [hltI,ab.v,ab.cells];refine ah.pure Ob (halk _) ?_;simp [ab.v,ab.cells];refine ah.pure Ay (hclk _) ?_;simp [w3,fits_int,ab.v,ab.cells];exact ⟨by omega,k + 1,by omega,q + 1,⟨⟨by rw [hst]; simp [bb],rfl⟩,by simp⟩,rfl,by omega⟩
 ·rw [hc] at hclk hst;refine aa _ ?_;simp [hltI,ab.v,ab.cells];refine ah.pure Ob (halk _) ?_;simp [ab.v,ab.cells];refine ah.pure Ay (hclk _) ?_;simp [w3,ab.v,ab.cells];exact ⟨k + 1,by omega,q,⟨⟨by rw [hst]; simp,rfl⟩,by simp⟩,rfl,by omega⟩
theorem mP (l:List Int) (hl:l.length ≤ maxLen) (n:Int) (σ:af):Spec Tryz.prog Nt [.slice 1 (l.map ii'),ii' n] σ fun r σ'=>r = .ret (.bool (l.any fun x=>decide (x = n))) ∧ σ' = σ:=by
 refine Spec.aF (Ue (by simp) (aa _ ?_)) (by simp [aH,ag.pure,aD (f:=ii') (fun _=>rfl)]) rfl σ;simp [Qe];refine AW.loop (ι:=Nat) (fun i fr σ=>fr = { v:=[(0, .slice 1 (l.map ii')),(1,ii' n),(5, .int .i64 i)],ds:=[] } ∧ i ≤ l.length ∧ (l.any fun x=>decide (x = n)) = (l.drop i).any fun x=>decide (x = n)) (fun i=>l.length - i) 0 (by simp) ?_;rintro i fr σ ⟨rfl,hi,hq⟩;refine (Nat.lt_or_ge i l.length).elim (fun hlt=>?_) (fun hge=>?_)
 ·obtain ⟨x,hx⟩:=zqq (l[i]);rw [List.drop_eq_getElem_cons hlt,List.any_cons,hx] at hq;have hw:IntKind.i64.wrap ((i:Int) + 1) = ((i + 1:Nat):Int):=by rw [aq (by omega) (by simp only [maxLen] at hl; omega)]; simp
  by_cases h:x = n
  ·rw [decide_eq_true h,Bool.true_or] at hq;rw [hq];refine aa _ ?_;simp [hlt,hx,h]
  ·rw [decide_eq_false h,Bool.false_or] at hq;rw [hq];refine aa _ ?_;simp [hlt,hx,h,hw];exact ⟨i + 1,by omega,by simp,by omega,rfl⟩
 ·have hd:l.drop i = []:=List.drop_eq_nil_of_le hge;rw [hd] at hq;rw [hq];refine aa _ ?_;simp [show ¬ i < l.length by omega]
theorem kL (n:Nat) (hn:n ≤ 10) (σ:af):Spec Tryz.prog Nq [ii' n] σ fun r σ'=>r = .ret (ii' ((2 ^ n:Nat):Int)) ∧ σ' = σ:=by
 refine Spec.aF (Tl (by simp) (aa _ ?_)) rfl rfl σ;simp [OG];refine AW.loop (ι:=Nat) (fun i fr σ=>∃ x:Nat,fr = { v:=[(0,ii' n),(3, .int .i64 x),(4, .int .i64 i)],ds:=[] } ∧ i ≤ n ∧ x = 2 ^ i) (fun i=>n - i) 0 ⟨1,by simp,by omega,rfl⟩ ?_;rintro i fr σ ⟨x,rfl,hi,hx⟩;refine (Nat.lt_or_ge i n).elim (fun hlt=>?_) (fun hge=>?_)
 ·have hltI:(i:Int) < n:=by omega
  have hxb:x ≤ 1024:=by rw [hx]; exact Nat.le_trans (Nat.pow_le_pow_right (by omega) (by omega:i ≤ 10)) (by decide)
  have hw:IntKind.i64.wrap ((i:Int) + 1) = ((i + 1:Nat):Int):=by rw [aq (by omega) (by omega)]; simp
  have hw2:IntKind.i64.wrap (2 * (x:Int)) = ((2 * x:Nat):Int):=by rw [aq (by omega) (by omega)]; simp
  refine aa _ ?_;simp [hltI,hw,hw2];exact ⟨i + 1,by omega,⟨by rw [hx,Int.pow_succ,Int.mul_comm]; simp,by simp⟩,by omega⟩
 ·obtain rfl:i = n:=by omega
  refine aa _ ?_;simp [hx]
theorem kD (P:Nat) (hP:P ≤ 1000) (a:Int) (ha:a ≤ 10) (σ:af):Spec Tryz.prog HY [ii' P,ii' a] σ fun r σ'=>r = .ret (.bool (amg (bh P) a)) ∧ σ' = σ:=by
 refine Spec.aF (Qd (by simp) ?_) rfl rfl σ;by_cases h0:0 ≤ a
 ·obtain ⟨n,rfl⟩:∃ n:Nat,a = n:=⟨a.toNat,by omega⟩;have hp:=fun σ=>kL n (by omega) σ;obtain ⟨Z,hZ⟩:∃ Z:Nat,2 ^ n = Z:=⟨_,rfl⟩;have hZp:0 < Z:=by rw [← hZ]; exact Nat.two_pow_pos n
  have hv:amg (bh P) (n:Int) = decide (P / Z % 2 = 1):=by
   unfold amg bh;rw [decide_eq_true (by omega:(0:Int) ≤ n),Bool.true_and,Int.toNat_natCast,Nat.testBit_eq_decide_div_mod_eq,hZ]
  rw [hZ] at hp;rw [hv];have hq:(P:Int).tdiv Z = ((P / Z:Nat):Int):=rfl;obtain ⟨q,hqq⟩:=zqq (P / Z);have hqP:q ≤ P:=by rw [← hqq]; exact Nat.div_le_self _ _
  have hm:(q:Int).tmod 2 = ((q % 2:Nat):Int):=rfl;rw [hqq] at hq;rw [hqq];have wq:IntKind.i64.wrap (q:Int) = q:=aq (by omega) (by omega);have hZI:¬ (Z:Int) = 0:=by omega
  have hZN:¬ Z = 0:=by omega
  refine aa _ ?_;simp [Jq,h0];refine ah.pure F6 (hp _) ?_;simp [hq,wq,hm,hZN];rcases Nat.mod_two_eq_zero_or_one q with h | h
  ·have hI:(q:Int) % 2 = 0:=by omega
   simp [h,hI]
  ·have hI:(q:Int) % 2 = 1:=by omega
   simp [h,hI]
 ·have hv:amg (bh P) a = false:=by unfold amg; rw [decide_eq_false h0]; rfl
  rw [hv];refine aa _ ?_;simp [Jq,h0]
theorem oR (l:List ay) (hl:l.length ≤ maxLen) (k p:Int) (σ:af):Spec Tryz.prog IT [.slice 4 (l.map ay.v),ii' k,ii' p] σ fun r σ'=>r = .ret (.tup [.agg [ii' (loC (aB l k p)),ii' (hiC (aB l k p))], .bool (aB l k p).isSome]) ∧ σ' = σ:=by
 refine Spec.aF (Pa (by simp) (aa _ ?_)) (by simp [aH,ag.pure,aD (f:=ay.v) (fun c=>c.pure)]) rfl σ;simp [L5];refine AW.loop (ι:=Nat) (fun i fr σ=>fr = { v:=[(0, .slice 4 (l.map ay.v)),(1,ii' k),(2,ii' p),(6, .ptr 0 0),(8, .int .i64 i)],ds:=[] } ∧ σ = [.box [ii' 0,ii' 0]] ∧ i ≤ l.length ∧ aB l k p = aB (l.drop i) k p) (fun i=>l.length - i) 0 (by simp) ?_;rintro i fr σ ⟨rfl,rfl,hi,hq⟩;refine (Nat.lt_or_ge i l.length).elim (fun hlt=>?_) (fun hge=>?_)
 ·obtain ⟨⟨k',p',a,b⟩,hx⟩:∃ x,l[i] = x:=⟨_,rfl⟩;have hw:IntKind.i64.wrap ((i:Int) + 1) = ((i + 1:Nat):Int):=by rw [aq (by omega) (by simp only [maxLen] at hl; omega)]; simp
  rw [List.drop_eq_getElem_cons hlt,hx] at hq;by_cases e1:k' = k
  ·by_cases e2:p' = p
   ·have:aB l k p = some ⟨k',p',a,b⟩:=by rw [hq]; unfold aB; simp [e1,e2]
    rw [this];refine aa _ ?_;simp [hlt,hx,ay.v,ay.cells,e1,e2,loC,hiC]
   ·have h2:aB l k p = aB (l.drop (i + 1)) k p:=by rw [hq]; unfold aB; simp [e2]
    refine aa _ ?_;simp [hlt,hx,ay.v,ay.cells,e1,e2,hw];exact ⟨i + 1,by omega,by simp,by omega,h2⟩
  ·have h2:aB l k p = aB (l.drop (i + 1)) k p:=by rw [hq]; unfold aB; simp [e1]
   refine aa _ ?_;simp [hlt,hx,ay.v,ay.cells,e1,hw];exact ⟨i + 1,by omega,by simp,by omega,h2⟩
 ·have hd:l.drop i = []:=List.drop_eq_nil_of_le hge;rw [hd] at hq;have:aB l k p = none:=hq;rw [this];refine aa _ ?_;simp [show ¬ i < l.length by omega,loC,hiC]
theorem n7 {y:ab} (hv:bJ aQ y) {i:Nat} (hi:i < y.papers.length) (σ:af):Spec Tryz.prog Nh [y.v,ii' i] σ fun r σ'=>r = .ret (.bool (br y.papers[i] i)) ∧ σ' = σ:=by
 refine Spec.aF (Sn (by simp) ?_) (by simp [y.pure,aH,ag.pure]) rfl σ;have hcp:=(hv.papers i hi).copy;obtain ⟨⟨k,s,d,n,c⟩,hx⟩:∃ x,y.papers[i] = x:=⟨_,rfl⟩;rw [hx] at hcp ⊢;dsimp only at hcp;by_cases h1:c = -1
 ·have:br ⟨k,s,d,n,c⟩ i = true:=by unfold br; simp [h1]
  rw [this];refine aa _ ?_;simp [MQ,ab.v,ab.cells,hi,hx,aj.v,aj.cells,h1]
 ·have h2:¬ c < 0:=by rcases hcp with h | ⟨h,_⟩ <;> omega
  have:br ⟨k,s,d,n,c⟩ i = decide ((i:Int) < c):=by unfold br; simp [h2]
  rw [this];refine aa _ ?_;simp [MQ,ab.v,ab.cells,hi,hx,aj.v,aj.cells,h1]
def eH (s:Int × Int):ag:=.agg [ii' s.1,ii' s.2]
theorem gX (l:List (Int × Int)):aH (l.map eH) = true:=aD (fun _=>rfl) l
abbrev yvL (y:ab):ag:=.agg [.slice 1 (y.kinds.map .str), .slice 1 (y.places.map .str), .slice 4 (y.first.map ay.v), .slice 5 (y.papers.map aj.v), .slice 4 (y.last.map ay.v)]
theorem so {y:ab} (hv:bJ aQ y) {al:List (Int × Int)} (hal:al.length = y.papers.length) (hok:je al) (k:Int) (P:Nat) (hP:P ≤ 1000) (σ:af) :
  Spec Tryz.prog Hz [y.v, .slice 2 (al.map eH),ii' k,ii' P] σ fun r σ'=>r = .ret (.agg [ii' (fQ (bh P) y.places.length y k (cw y al k)),ii' (fR (bh P) y.places.length y k (cw y al k))]) ∧ σ' = σ:=by
 refine Spec.aF (PD (by simp) (aa _ ?_)) (by simp [y.pure,aH,ag.pure,gX]) rfl σ;obtain ⟨A,hA⟩:=zqq (bh P);have hp4:=hv.p4;have hm10:=hv.m10;have hf8:=hv.f8;have hyo:=hv.ok;have ham:=fun a ha σ=>kD P hP a ha σ;have hco:=fun (a:Nat) σ=>oR y.first (by simp only [maxLen]; omega) k (a:Int) σ
 have hle:=fun i hi σ=>n7 hv (i:=i) hi σ;rw [hA] at ham ⊢;have hgl:∀ a:Nat,0 ≤ loC (aB y.first k a) ∧ loC (aB y.first k a) ≤ 1000000:=fun a=>(bx hyo.first k a).1;have hgh:∀ a:Nat,0 ≤ hiC (aB y.first k a) ∧ hiC (aB y.first k a) ≤ 1000000:=fun a=>(bx hyo.first k a).2.1;simp only [ab.v,ab.cells] at hle;simp [LC,ab.v,ab.cells];refine AW.loop (ι:=Nat) (fun a fr σ'=>∃ (lo hi:Int) (tl:af),fr = { v:=[(1, .slice 2 (al.map eH)),(2,ii' k),(3,ii' P),(4, .pval (yvL y)),(8, .ptr 0 0),(9, .ptr 1 0),(10, .int .i64 a)],ds:=[] } ∧ σ' = .box [ii' 0,ii' 0] :: .box [ii' lo,ii' hi] :: tl ∧ a ≤ y.places.length ∧ lo = dL A a (fun p=>loC (aB y.first k p)) ∧ hi = dL A a (fun p=>hiC (aB y.first k p))) (fun a=>y.places.length - a) 0 ⟨0,0,[],by simp,by simp,by omega,rfl,rfl⟩ ?_;rintro a fr σ' ⟨lo,hi,tl,rfl,rfl,hap,hlo,hhi⟩;refine (Nat.lt_or_ge a y.places.length).elim (fun hlt=>?_) (fun hge=>?_)
 ·have hltI:(a:Int) < y.places.length:=by omega
  have hw:IntKind.i64.wrap ((a:Int) + 1) = ((a + 1:Nat):Int):=by rw [aq (by omega) (by omega)]; simp
  have b1:=da (A:=A) (g:=fun a=>loC (aB y.first k a)) (c:=1000000) (by omega) hgl a;have b2:=da (A:=A) (g:=fun a=>hiC (aB y.first k a)) (c:=1000000) (by omega) hgh a;rw [← hlo] at b1;rw [← hhi] at b2;have s1:=lQ A a fun p=>loC (aB y.first k p);have s2:=lQ A a fun p=>hiC (aB y.first k p);rw [← hlo] at s1;rw [← hhi] at s2;have hca:=hco a;have gl:=hgl a;have gh:=hgh a;obtain ⟨o,ho⟩:=zqq (aB y.first k (a:Int));rw [ho] at hca s1 s2 gl gh;have hama:=fun σ=>ham (a:Int) (by omega) σ;have hamg:amg A (a:Int) = A a:=by unfold amg; rw [decide_eq_true (by omega:(0:Int) ≤ a)]; rfl
  rw [hamg] at hama;obtain ⟨g1,hg1⟩:∃ g,loC o = g:=⟨_,rfl⟩;obtain ⟨g2,hg2⟩:∃ g,hiC o = g:=⟨_,rfl⟩;rw [hg1] at hca s1 gl;rw [hg2] at hca s2 gh;have wl:IntKind.i64.wrap (lo + g1) = lo + g1:=aq (by omega) (by omega);have wh:IntKind.i64.wrap (hi + g2) = hi + g2:=aq (by omega) (by omega)
  cases o with
  | none=>
   have z1:g1 = 0:=hg1.symm;have z2:g2 = 0:=hg2.symm;have t1:(if A a = true then g1 else 0) = 0:=by rw [z1]; split <;> rfl
   have t2:(if A a = true then g2 else 0) = 0:=by rw [z2]; split <;> rfl
   rw [t1,Int.add_zero] at s1;rw [t2,Int.add_zero] at s2;refine aa _ ?_;simp [hltI];refine ah.pure EL (hca _) ?_;simp [hw];exact ⟨a + 1,by omega,by simp,_,_,⟨rfl,rfl⟩,by omega,s1.symm,s2.symm⟩
  | some c=>
   cases hAa:A a with
   | false=>
    rw [hAa] at hama s1 s2;rw [if_neg (by decide),Int.add_zero] at s1 s2;refine aa _ ?_;simp [hltI];refine ah.pure EL (hca _) ?_;simp;refine ah.pure qv (hama _) ?_;simp [hw];exact ⟨a + 1,by omega,by simp,_,_,⟨rfl,rfl⟩,by omega,s1.symm,s2.symm⟩
   | true=>
    rw [hAa] at hama s1 s2;rw [if_pos rfl] at s1 s2;refine aa _ ?_;simp [hltI];refine ah.pure EL (hca _) ?_;simp;refine ah.pure qv (hama _) ?_;simp [hw,wl,wh];exact ⟨a + 1,by omega,by simp,_,_,⟨rfl,rfl⟩,by omega,s1.symm,s2.symm⟩
 obtain rfl:a = y.places.length:=by omega
 obtain ⟨LO,hLO⟩:∃ z,dL A y.places.length (fun p=>loC (aB y.first k p)) = z:=⟨_,rfl⟩;obtain ⟨HI,hHI⟩:∃ z,dL A y.places.length (fun p=>hiC (aB y.first k p)) = z:=⟨_,rfl⟩;have b1:=da (A:=A) (g:=fun a=>loC (aB y.first k a)) (c:=1000000) (by omega) hgl y.places.length;have b2:=da (A:=A) (g:=fun a=>hiC (aB y.first k a)) (c:=1000000) (by omega) hgh y.places.length;rw [hLO] at b1 hlo;rw [hHI] at b2 hhi;subst hlo hhi;have hcl:fQ A y.places.length y k (cw y al k) = lo + bO (jLo A) (cw y al k):=by unfold fQ; rw [hLO]
 have hch:fR A y.places.length y k (cw y al k) = hi + bO (jHi A) (cw y al k):=by unfold fR; rw [hHI]
 rw [hcl,hch];refine aa _ ?_;simp;refine AW.loop (ι:=Nat) (fun i fr σ'=>∃ (u v:Int) (tl:af),fr = { v:=[(1, .slice 2 (al.map eH)),(2,ii' k),(3,ii' P),(4, .pval (yvL y)),(8, .ptr 0 0),(9, .ptr 1 0),(13, .int .i64 i)],ds:=[] } ∧ σ' = .box [ii' 0,ii' 0] :: .box [ii' u,ii' v] :: tl ∧ i ≤ y.papers.length ∧ u = lo + bO (jLo A) (iy y al k i) ∧ v = hi + bO (jHi A) (iy y al k i)) (fun i=>y.papers.length - i) 0 ⟨lo,hi,tl,by simp,by simp,by omega,by simp [ju,bO],by simp [ju,bO]⟩ ?_;rintro i fr σ' ⟨u,v,tl,rfl,rfl,hi',hu,hv'⟩;refine (Nat.lt_or_ge i y.papers.length).elim (fun hlt=>?_) (fun hge=>?_);rotate_left
 ·obtain rfl:i = y.papers.length:=by omega
  rw [kS y al k (Nat.le_refl _)] at hu hv';refine aa _ ?_;simp [hu,hv']
 have hltI:(i:Int) < y.papers.length:=by omega
 have hw:IntKind.i64.wrap ((i:Int) + 1) = ((i + 1:Nat):Int):=by rw [aq (by omega) (by omega)]; simp
 have hal_i:i < al.length:=by omega
 have c1:=kN (y:=y) (fun i p=>(yF A hok i p).1) k i hi';have c2:=kN (y:=y) (fun i p=>(yF A hok i p).2) k i hi';have s1:=lP (jLo A) al k hlt;have s2:=lP (jHi A) al k hlt;have hli:=fun σ=>hle i hlt σ;have hpv:=hv.papers i hlt;obtain ⟨z1,z2⟩:=hok i;unfold Big at z1 z2;obtain ⟨⟨al1,al2⟩,hali⟩:∃ s,al[i] = s:=⟨_,rfl⟩;have hgs:kV al i = (al1,al2):=by unfold kV; rw [List.getElem?_eq_getElem hal_i,hali]; rfl
 rw [hgs] at z1 z2;unfold et at s1 s2;rw [hgs] at s1 s2;obtain ⟨⟨pk,ps,pd,pn,pc⟩,hx⟩:∃ p,y.papers[i] = p:=⟨_,rfl⟩;rw [hx] at hli s1 s2 hpv;have hps:=hpv.src;have hpd:=hpv.dst;dsimp only at s1 s2 hps hpd z1 z2;have hams:=fun σ=>ham ps (by omega) σ;have hamd:=fun σ=>ham pd (by omega) σ;obtain ⟨S,hS⟩:=zqq (amg A ps);obtain ⟨D,hD⟩:=zqq (amg A pd);obtain ⟨L,hL⟩:=zqq (br ⟨pk,ps,pd,pn,pc⟩ i);rw [hS] at hams;rw [hD] at hamd;rw [hL] at hli s1 s2;simp only [jLo,jHi,hS,hD] at s1 s2;have w1:IntKind.i64.wrap (u + al1) = u + al1:=aq (by omega) (by omega);have w2:IntKind.i64.wrap (v + al2) = v + al2:=aq (by omega) (by omega);have w3:IntKind.i64.wrap (u - al2) = u - al2:=aq (by omega) (by omega);have w4:IntKind.i64.wrap (v - al1) = v - al1:=aq (by omega) (by omega);by_cases e1:pk = k;rotate_left
 ·rw [if_neg (by simp [e1])] at s1 s2;refine aa _ ?_;simp [hltI,hlt,hx,aj.v,aj.cells,hal_i,hali,eH,e1,hw];refine ⟨.bool false, ?_⟩;simp;refine ⟨.bool false, .bool false, ?_⟩;simp;exact ⟨i + 1,by omega,by simp,_,_,⟨rfl,rfl⟩,by omega,by rw [s1]; omega,by rw [s2]; omega⟩
 cases L
 ·rw [if_neg (by simp)] at s1 s2;refine aa _ ?_;simp [hltI,hlt,hx,aj.v,aj.cells,hal_i,hali,eH,e1,hw];refine ⟨_,fun σ' _=>aE.func Gt (hli σ'), ?_⟩;simp;refine ⟨.bool false, .bool false, ?_⟩;simp;exact ⟨i + 1,by omega,by simp,_,_,⟨rfl,rfl⟩,by omega,by rw [s1]; omega,by rw [s2]; omega⟩
 rw [if_pos ⟨e1,rfl⟩] at s1 s2;cases S <;> cases D
 all_goals simp only [Bool.not_true,Bool.not_false,Bool.and_true,Bool.and_false,Bool.false_eq_true,if_false,if_true] at s1 s2
 all_goals refine aa _ ?_
 all_goals simp [hltI,hlt,hx,aj.v,aj.cells,hal_i,hali,eH,e1,hw]
 all_goals refine ⟨_,fun σ' _=>aE.func Gt (hli σ'), ?_⟩
 all_goals simp
 all_goals refine ⟨_,fun σ'=>aE.func qv (hams σ'),_,fun σ'=>aE.func qv (hamd σ'), ?_⟩
 all_goals simp
 ·exact ⟨i + 1,by omega,by simp,_,_,⟨rfl,rfl⟩,by omega,by rw [s1]; omega,by rw [s2]; omega⟩
 ·refine ah.pure qv (hamd _) ?_;simp [hw,w1,w2];exact ⟨i + 1,by omega,by simp,_,_,⟨rfl,rfl⟩,by omega,by rw [s1]; omega,by rw [s2]; omega⟩
 ·refine ah.pure qv (hamd _) ?_;simp [hw,w3,w4];exact ⟨i + 1,by omega,by simp,_,_,⟨rfl,rfl⟩,by omega,by rw [s1]; omega,by rw [s2]; omega⟩
 ·exact ⟨i + 1,by omega,by simp,_,_,⟨rfl,rfl⟩,by omega,by rw [s1]; omega,by rw [s2]; omega⟩
set_option maxHeartbeats 2000000
theorem nG {y:ab} (hv:bJ aQ y) (k:Int) (P:Nat) (hP:P ≤ 1000) (σ:af) :
  Spec Tryz.prog Iq [y.v,ii' k,ii' P] σ fun r σ'=>r = .ret (.tup [.agg [ii' (eO (bh P) y.places.length y k),ii' (fb (bh P) y.places.length y k)], .bool (cz (bh P) y k y.places.length)]) ∧ σ' = σ:=by
 refine Spec.aF (OT (by simp) (aa _ ?_)) (by simp [y.pure,aH,ag.pure]) rfl σ;obtain ⟨A,hA⟩:=zqq (bh P);have hp4:=hv.p4;have hl8:=hv.l8;have hyo:=hv.ok;have ham:=fun a ha σ=>kD P hP a ha σ;have hco:=fun (a:Nat) σ=>oR y.last (by simp only [maxLen]; omega) k (a:Int) σ;rw [hA] at ham ⊢;have hgl:∀ a:Nat,0 ≤ loC (aB y.last k a) ∧ loC (aB y.last k a) ≤ 1000000:=fun a=>(bx hyo.last k a).1;have hgh:∀ a:Nat,0 ≤ hiC (aB y.last k a) ∧ hiC (aB y.last k a) ≤ 1000000:=fun a=>(bx hyo.last k a).2.1;simp [LV,ab.v,ab.cells];refine AW.loop (ι:=Nat) (fun a fr σ'=>∃ (lo hi:Int) (m:Bool) (tl:af),fr = { v:=[(1,ii' k),(2,ii' P),(3, .pval (yvL y)),(6, .ptr 0 0),(8, .ptr 1 0),(9, .bool m),(10, .int .i64 a)],ds:=[] } ∧ σ' = .box [ii' 0,ii' 0] :: .box [ii' lo,ii' hi] :: tl ∧ a ≤ y.places.length ∧ lo = dL A a (fun p=>loC (aB y.last k p)) ∧ hi = dL A a (fun p=>hiC (aB y.last k p)) ∧ m = cz A y k a) (fun a=>y.places.length - a) 0 ⟨0,0,true,[],by simp,by simp,by omega,rfl,rfl,rfl⟩ ?_;rintro a fr σ' ⟨lo,hi,m,tl,rfl,rfl,hap,hlo,hhi,hm⟩;refine (Nat.lt_or_ge a y.places.length).elim (fun hlt=>?_) (fun hge=>?_);rotate_left
 ·obtain rfl:a = y.places.length:=by omega
  refine aa _ ?_;simp [eO,fb,hlo,hhi,hm]
 have hltI:(a:Int) < y.places.length:=by omega
 have hw:IntKind.i64.wrap ((a:Int) + 1) = ((a + 1:Nat):Int):=by rw [aq (by omega) (by omega)]; simp
 have b1:=da (A:=A) (g:=fun a=>loC (aB y.last k a)) (c:=1000000) (by omega) hgl a;have b2:=da (A:=A) (g:=fun a=>hiC (aB y.last k a)) (c:=1000000) (by omega) hgh a;rw [← hlo] at b1;rw [← hhi] at b2;have s1:=lQ A a fun p=>loC (aB y.last k p);have s2:=lQ A a fun p=>hiC (aB y.last k p);have s3:cz A y k (a + 1) = (cz A y k a && (!A a || (aB y.last k a).isSome)):=rfl;rw [← hlo] at s1;rw [← hhi] at s2;rw [← hm] at s3;have hca:=hco a;have gl:=hgl a;have gh:=hgh a;obtain ⟨o,ho⟩:=zqq (aB y.last k (a:Int));rw [ho] at hca s1 s2 s3 gl gh;have hama:=fun σ=>ham (a:Int) (by omega) σ;have hamg:amg A (a:Int) = A a:=by unfold amg; rw [decide_eq_true (by omega:(0:Int) ≤ a)]; rfl
 rw [hamg] at hama;obtain ⟨g1,hg1⟩:∃ g,loC o = g:=⟨_,rfl⟩;obtain ⟨g2,hg2⟩:∃ g,hiC o = g:=⟨_,rfl⟩;obtain ⟨g3,hg3⟩:∃ g,o.isSome = g:=⟨_,rfl⟩;rw [hg1] at hca s1 gl;rw [hg2] at hca s2 gh;rw [hg3] at hca s3;have wl:IntKind.i64.wrap (lo + g1) = lo + g1:=aq (by omega) (by omega);have wh:IntKind.i64.wrap (hi + g2) = hi + g2:=aq (by omega) (by omega)
 cases hAa:A a with
 | false=>
  rw [hAa] at hama s1 s2 s3;rw [if_neg (by decide),Int.add_zero] at s1 s2;rw [Bool.not_false,Bool.true_or,Bool.and_true] at s3;cases m
  all_goals refine aa _ ?_
  all_goals simp [hltI]
  all_goals refine ah.pure qv (hama _) ?_
  all_goals simp [hw]
  all_goals exact ⟨a + 1,by omega,by simp,_,_,⟨rfl,rfl⟩,by omega,s1.symm,s2.symm,s3⟩
 | true=>
  rw [hAa] at hama s1 s2 s3;rw [if_pos rfl] at s1 s2;rw [Bool.not_true,Bool.false_or] at s3;cases m <;> cases g3
  all_goals simp only [Bool.and_true,Bool.and_false] at s3
  all_goals refine aa _ ?_
  all_goals simp [hltI]
  all_goals refine ah.pure qv (hama _) ?_
  all_goals simp
  all_goals refine ah.pure EL (hca _) ?_
  all_goals simp [hw,wl,wh]
  all_goals exact ⟨a + 1,by omega,by simp,_,_,⟨rfl,rfl⟩,by omega,s1.symm,s2.symm,s3⟩
theorem oe {y:ab} (hv:bJ aQ y) {al:List (Int × Int)} (hal:al.length = y.papers.length) (hok:je al) (k:Int) (P:Nat) (hP:P ≤ 1000) (σ:af) :
  Spec Tryz.prog NW [y.v, .slice 2 (al.map eH),ii' k,ii' P] σ fun r σ'=>r = .ret (.tup [ii' (dc (bh P) y.places.length y k (cw y al k)),ii' (bz (bh P) y.places.length y k (cw y al k))]) ∧ σ' = σ:=by
 refine Spec.aF (UG (by simp) ?_) (by simp [y.pure,aH,ag.pure,gX]) rfl σ;have hyo:=hv.ok;have hp4:=hv.p4;have hm10:=hv.m10;have hca:=fun σ=>so hv hal hok k P hP σ;have hsh:=fun σ=>nG hv k P hP σ;obtain ⟨A,hA⟩:=zqq (bh P);rw [hA] at hca hsh ⊢;have b1:=da (A:=A) (g:=fun a=>loC (aB y.first k a)) (c:=1000000) (by omega) (fun a=>(bx hyo.first k a).1) y.places.length;have b2:=da (A:=A) (g:=fun a=>hiC (aB y.first k a)) (c:=1000000) (by omega) (fun a=>(bx hyo.first k a).2.1) y.places.length;have b3:=da (A:=A) (g:=fun a=>loC (aB y.last k a)) (c:=1000000) (by omega) (fun a=>(bx hyo.last k a).1) y.places.length;have b4:=da (A:=A) (g:=fun a=>hiC (aB y.last k a)) (c:=1000000) (by omega) (fun a=>(bx hyo.last k a).2.1) y.places.length;have c1:=kN (y:=y) (fun i p=>(yF A hok i p).1) k y.papers.length (Nat.le_refl _);have c2:=kN (y:=y) (fun i p=>(yF A hok i p).2) k y.papers.length (Nat.le_refl _);rw [kS y al k (Nat.le_refl _)] at c1 c2;have k1:-10000000 ≤ fQ A y.places.length y k (cw y al k) ∧ fQ A y.places.length y k (cw y al k) ≤ 14000000:=by unfold fQ; omega
 have k2:-10000000 ≤ fR A y.places.length y k (cw y al k) ∧ fR A y.places.length y k (cw y al k) ≤ 14000000:=by unfold fR; omega
 have k3:0 ≤ eO A y.places.length y k ∧ eO A y.places.length y k ≤ 4000000:=by unfold eO; omega
 have k4:0 ≤ fb A y.places.length y k ∧ fb A y.places.length y k ≤ 4000000:=by unfold fb; omega
 clear b1 b2 b3 b4 c1 c2;unfold dc bz;obtain ⟨cl,hcl⟩:∃ z,fQ A y.places.length y k (cw y al k) = z:=⟨_,rfl⟩;obtain ⟨ch,hch⟩:∃ z,fR A y.places.length y k (cw y al k) = z:=⟨_,rfl⟩;obtain ⟨sl,hsl⟩:∃ z,eO A y.places.length y k = z:=⟨_,rfl⟩;obtain ⟨sh,hsh'⟩:∃ z,fb A y.places.length y k = z:=⟨_,rfl⟩;obtain ⟨m,hm⟩:=zqq (cz A y k y.places.length);rw [hcl,hch] at hca;rw [hsl,hsh',hm] at hsh;rw [hcl] at k1 ⊢;rw [hch] at k2 ⊢;rw [hsl] at k3 ⊢;rw [hsh'] at k4 ⊢;rw [hm];have w1:IntKind.i64.wrap (cl - sh) = cl - sh:=aq (by omega) (by omega);have w2:IntKind.i64.wrap (ch - sl) = ch - sl:=aq (by omega) (by omega);simp only [ab.v,ab.cells] at hca hsh;cases m
 ·refine aa _ ?_;simp [NX,ab.v,ab.cells];refine ah.pure IY (hca _) ?_;simp;refine ah.pure Je (hsh _) ?_;simp [w2]
  split <;> omega
 ·refine aa _ ?_;simp [NX,ab.v,ab.cells];refine ah.pure IY (hca _) ?_;simp;refine ah.pure Je (hsh _) ?_;simp [w1,w2]
  constructor <;> split <;> omega
set_option maxHeartbeats 1000000
def mQ (l:List Nat):ag:=.slice 1 ((bb l).map ii')
def uh (c:List Nat → Bool) (done sets:List (List Nat)):Prop:=∀ R,kB c (done ++ R) [] = kB c R sets
theorem uh.step {c:List Nat → Bool} {done sets:List (List Nat)} (h:uh c done sets) {l:List Nat} (hn:¬ ∃ s,sets.head? = some s ∧ s.length < l.length):uh c (done ++ [l]) (if c l then sets ++ [l] else sets):=fun R=>by
 rw [List.append_assoc,h ([l] ++ R),List.singleton_append,kB,if_neg hn]
theorem uh.stop {c:List Nat → Bool} {done sets all rest:List (List Nat)} (h:uh c done sets) {l:List Nat} (hn:∃ s,sets.head? = some s ∧ s.length < l.length) (ha:all = done ++ l :: rest):kB c all [] = sets:=by
 rw [ha,h,kB,if_pos hn]
theorem ui {α β:Type} (f:α → List β) (k:Nat) (h:∀ x,(f x).length ≤ k):∀ l:List α,(l.flatMap f).length ≤ l.length * k
 | []=>by simp
 | x :: r=>by
  have h1:=ui f k h r;have h2:=h x;rw [List.flatMap_cons,List.length_append,List.length_cons,Nat.add_mul];omega
theorem tL {nm:ByteArray → Bool} {y:ab} (hv:bJ nm y) (σ:af):Spec Tryz.prog M6 [y.v] σ fun r σ'=>r = .ret (.slice 1 (((mN y).getD []).map mQ)) ∧ σ' = σ:=by
 refine Spec.aF (Te (by simp) ?_) (by simp [y.pure,aH]) (by simp [ag.pure,aD (f:=mQ) (fun l=>by simp [mQ,ag.pure,aD (f:=ii') (fun _=>rfl)])]) σ;have hls:=fun σ=>lV y σ;have hm10:=hv.m10;have hcl:=fun l (hl:ou l) σ=>dk hv l hl σ;simp only [ab.v,ab.cells] at hls;simp only [mZ,ab.v,ab.cells] at hcl;rw [← DO];refine aa _ ?_;simp [RO,ab.v,ab.cells];refine AW.scope ?_;refine aa _ ?_;simp;refine ah.pure RI (hls _) ?_;simp;refine AW.jM (by simp) fun asg' body' ca cb hps=>?_;obtain ⟨ya,hya⟩:∃ ya:ag,ag.agg [.slice 1 (y.kinds.map .str), .slice 1 (y.places.map .str), .slice 4 (y.first.map ay.v), .slice 5 (y.papers.map aj.v), .slice 4 (y.last.map ay.v)] = ya:=⟨_,rfl⟩;rw [hya] at hcl;simp only [hya];have hl1:=fun J Stop=>ku y (by omega) 3 [.spare 1 0, .box [.oslice 1 [] 0 0], .dfr, .looprec 27 [(1, .pval ya),(2, .ptr 1 0),(5, .func (.func 133) [] [.pval ya])] [6] asg' body' 2 .ready none] J Stop;rw [show y.v = ya from hya] at hl1;change oq Tryz.prog (.func (.func 133) [] [.pval ya]) [.yieldf 3] [.spare 1 0, .box [.oslice 1 [] 0 0], .dfr, .looprec 27 [(1, .pval ya),(2, .ptr 1 0),(5, .func (.func 133) [] [.pval ya])] [6] asg' body' 2 .ready none] (vZ 3 _ _)
 refine oq.func La ((hl1
  (fun done s=>∃ (q:Nat) (sets:List (List Nat)),s = [.spare 1 q, .box [.oslice 1 (sets.map mQ) 0 q], .dfr, .looprec 27 [(1, .pval ya),(2, .ptr 1 0),(5, .func (.func 133) [] [.pval ya])] [6] asg' body' 2 .ready none] ∧ uh (aP y) done sets ∧ sets.length ≤ done.length)
  (fun s=>∃ (q:Nat) (sets:List (List Nat)),s = [.spare 1 q, .box [.oslice 1 (sets.map mQ) 0 q], .dfr, .looprec 27 [(1, .pval ya),(2, .ptr 1 0),(5, .func (.func 133) [] [.pval ya])] [6] asg' body' 2 .done (some (.exit 0))] ∧ kB (aP y) (qH y.papers.length) [] = sets) ?_ ?_).mono ?_)
 ·subst hya;rintro done l s tl ⟨q,sets,rfl,hsk,hsl2⟩ hsl hlm hll ⟨rest,hall⟩;refine aE.round (e:=[(1, .pval (.agg [.slice 1 (y.kinds.map .str), .slice 1 (y.places.map .str), .slice 4 (y.first.map ay.v), .slice 5 (y.papers.map aj.v), .slice 4 (y.last.map ay.v)])),(2, .ptr 1 0),(5, .func (.func 133) [] [.pval (.agg [.slice 1 (y.kinds.map .str), .slice 1 (y.places.map .str), .slice 4 (y.first.map ay.v), .slice 5 (y.papers.map aj.v), .slice 4 (y.last.map ay.v)])])]) (D:=2) (pend:=none) ca cb hps (by simp) rfl ?_;have hcll:=hcl l (by unfold ou; simp only [maxLen]; omega);have hroom:(sets.length + 1) * 24 ≤ 140737488355328:=by
   have h1:=ui (fun many=>eR y.papers.length many 0) 1024 (fun many=>Cq hm10 many) (List.range (y.papers.length + 1));have h2:(qH y.papers.length).length ≤ (y.papers.length + 1) * 1024:=by unfold qH; simpa using h1
   rw [hall,List.length_append] at h2;omega
  have hstep:=fun hn=>hsk.step (l:=l) hn;have hstop:=fun hn=>hsk.stop (l:=l) hn hall;have hnl:(bb l).length = l.length:=by simp [bb]
  have hfl:Fits 1 [ag.slice 1 ((bb l).map ii')]:=fun v hv=>by
   simp at hv; subst hv; exact ⟨⟨rfl,rfl⟩,rfl⟩
  cases sets with
  | nil=>
   have hst:=hstep (by simp);refine aa _ ?_;simp [jf];refine ⟨_,_,_,_,_,_,_,⟨rfl,rfl,rfl,rfl,rfl,rfl,rfl⟩, ?_⟩;refine aa _ ?_;simp;refine ah.pure Ay (hcll _) ?_;rcases tf (aP y l) with hc | hc
   ·rw [hc,if_neg (by simp)] at hst;simp [hc];exact ⟨_,_,_,_,_,_,_,_,rfl,[_,_,_,_],⟨[],by simp⟩,rfl, .inl ⟨rfl,q,[],rfl,hst,by simp⟩⟩
   ·rw [hc,if_pos rfl] at hst;simp [hc,hfl];exact ⟨_,_,_,_,_,_,_,_,rfl,[_,_,_,_],⟨[],by simp [mQ]⟩,rfl, .inl ⟨rfl,q + 1,[l],rfl,hst,by simp⟩⟩
  | cons s0 sr=>
   have hn0:(bb s0).length = s0.length:=by simp [bb]
   by_cases hlen:s0.length < l.length
   ·have hso:=hstop ⟨s0,rfl,hlen⟩;refine aa _ ?_;simp [jf];refine ⟨_,_,_,_,_,_,_,⟨rfl,rfl,rfl,rfl,rfl,rfl,rfl⟩, ?_⟩;refine aa _ ?_;simp [mQ,hn0,hnl,hlen,hso];exact ⟨_,_,_,_,_,_,_,_,rfl,[_,_,_,_],⟨[],by simp⟩,rfl, .inr ⟨rfl,q,rfl⟩⟩
   ·have hst:=hstep (by rintro ⟨s,hs,hlt⟩; simp at hs; subst hs; exact hlen hlt);refine aa _ ?_;simp [jf];refine ⟨_,_,_,_,_,_,_,⟨rfl,rfl,rfl,rfl,rfl,rfl,rfl⟩, ?_⟩;refine aa _ ?_;simp [mQ,hn0,hnl,hlen];refine ah.pure Ay (hcll _) ?_;rcases tf (aP y l) with hc | hc
    ·rw [hc,if_neg (by simp)] at hst;simp [hc];exact ⟨_,_,_,_,_,_,_,_,rfl,[_,_,_,_],⟨[],by simp [mQ]⟩,rfl, .inl ⟨rfl,q,s0 :: sr,rfl,hst,by simp at hsl2 ⊢; omega⟩⟩
    ·rw [hc,if_pos rfl] at hst;simp [hc,hfl];exact ⟨by simp at hroom; omega,_,_,_,_,_,_,_,_,rfl,[_,_,_,_],⟨[],by simp [mQ]⟩,rfl, .inl ⟨rfl,q + 1,s0 :: sr ++ [l],rfl,hst,by simp at hsl2 ⊢; omega⟩⟩
 ·exact ⟨0,[],rfl,fun R=>rfl,by simp⟩
 ·rintro r σ' ⟨rfl,s,tl,rfl,hs,⟨q,sets,rfl,hJ,_⟩ | ⟨q,sets,rfl,hS⟩⟩
  ·have hfi:=hJ [];rw [List.append_nil] at hfi;rw [hfi];refine ⟨_,_,_,_,_,_,_,_,rfl,by simp, ?_⟩;simp [kB]
  ·rw [hS];refine ⟨_,_,_,_,_,_,_,_,rfl,by simp, ?_⟩;simp
open Go.RowKit
section
variable {P:Program} {A:World} {s:St}
theorem Inv.Ql (hi:Inv A s) {w':World} (hb:Below s.w.heap.size s.w w'):Inv A { s with w:=w' } ∧ bV s { s with w:=w' }:=
 hi.grow (s':={ s with w:=w' }) rfl rfl ⟨fun _ _ _ h=>h,fun _ _ h=>h,fun blk o hs=>World.cell?_of_block (a:=⟨blk,o,none⟩) (hb.block blk (hi.scell blk o hs))⟩
  (hi.below.trans (hb.mono hi.below.size)) hb.size hb.block (fun _ _ h=>.inl h) (fun _blk _x h=>Nat.lt_of_lt_of_le (hi.scell _ _ h) hb.size)
theorem Inv.FZ (hi:Inv A s) {w':World} (hb:Below s.w.heap.size s.w w') {blk:Nat} (hblk:s.w.heap.size ≤ blk) (us:List Value) (hc:∀ j (h:j < us.length),w'.cell? ⟨blk,j,none⟩ = some us[j]) :
  ∃ s',s'.h = s.h ∧ s'.w = w' ∧ Inv A s' ∧ bV s s' ∧ ∀ j,j < us.length → s'.S blk j:=by
 let s':St:={ h:=s.h,lam:=s.lam,S:=fun g o=>s.S g o ∨ (g = blk ∧ o < us.length),w:=w' }
 have hk:bq s s':=⟨fun _ _ _ h=>h,fun _ _ h=>.inl h,fun g o hs=>World.cell?_of_block (a:=⟨g,o,none⟩) (hb.block g (hi.scell g o hs))⟩
 have hgo:=hi.grow (s':=s') rfl rfl hk (hi.below.trans (hb.mono hi.below.size)) hb.size hb.block (fun g x h=>by
   rcases h with h | ⟨h,_⟩
   ·exact .inl h
   ·exact .inr (h ▸ hblk))
  (fun g x h=>by
   rcases h with h | ⟨rfl,h⟩
   ·exact Nat.lt_of_lt_of_le (hi.scell _ _ h) hb.size
   ·exact AT (hc x h))
 exact ⟨s',rfl,rfl,hgo.1,hgo.2,fun j h=>.inr ⟨rfl,h⟩⟩
theorem HV {s:St} {blk cap:Nat} {l:List ByteArray} (hcap:l.length ≤ cap) (hS:∀ j,j < l.length → s.S blk j) (hc:∀ j (h:j < l.length),s.w.cell? ⟨blk,j,none⟩ = some (.string l[j])) :
  Rv s (.slice 1 (l.map .str)) (.slice (some ⟨blk,0,none⟩) l.length cap):=by
 refine Rv.slice 1 (l.map .str) blk 0 l.length cap (l.map Value.string) (by simp) (by simp) hcap (fun i h1 h2=>by simp only [List.getElem_map]; exact .str _) (fun i h2=>?_);have h2':i < l.length:=by simpa using h2
 refine ⟨by simp [Value.cells],fun j hj=>?_⟩;have hj0:j = 0:=by simp [Value.cells] at hj; exact hj
 subst hj0;refine ⟨by simpa using hS i h2', ?_⟩;have:=hc i h2';simpa [Value.cells] using this
theorem Spec.KC {f:FuncId} {args:List ag} {σ:af} {Q:ag → Prop}
  (h:∀ A s cargs,s.h = σ → Inv A s → gy s args cargs → Calls P f cargs s.w fun e w'=>Below s.w.heap.size s.w w' ∧ ∃ v c,e = .returned c ∧ (∀ s':St,Rv s' v c) ∧ Q v) :
  Spec P f args σ fun r σ'=>∃ v,r = .ret v ∧ Q v ∧ σ' = σ:=by
 intro A s cargs h1 h2 h3;refine (h A s cargs h1 h2 h3).mono ?_;rintro e w' ⟨hb,v,c,rfl,hr,hq⟩;obtain ⟨i',g'⟩:=h2.Ql hb;exact ⟨.ret v,_,rfl,i',g',hr _,v,rfl,hq,h1⟩
theorem Spec.sE {f:FuncId} {args:List ag} {σ:af} {v:ag}
  (h:∀ A s cargs,s.h = σ → Inv A s → gy s args cargs → Calls P f cargs s.w fun e w'=>Below s.w.heap.size s.w w' ∧ ∃ c,e = .returned c ∧ ∀ s':St,Rv s' v c) :
  Spec P f args σ fun r σ'=>r = .ret v ∧ σ' = σ:=by
 refine (Spec.KC (Q:=fun u=>u = v) fun A s cargs h1 h2 h3=>(h A s cargs h1 h2 h3).mono ?_).mono ?_
 ·rintro e w' ⟨hb,c,rfl,hr⟩;exact ⟨hb,v,c,rfl,hr,rfl⟩
 ·rintro r σ' ⟨u,rfl,rfl,rfl⟩;exact ⟨rfl,rfl⟩
theorem gy.one {s:St} {a:ag} {cs:Array Value} (h:gy s [a] cs):∃ c,cs = #[c] ∧ Rv s a c:=by
 obtain ⟨h1,h2⟩:=h;obtain ⟨l⟩:=cs
 match l,h1 with
 | [c],_=>exact ⟨c,rfl,h2 0 (by simp) (by simp)⟩
theorem gy.two {s:St} {a b:ag} {cs:Array Value} (h:gy s [a,b] cs):∃ c d,cs = #[c,d] ∧ Rv s a c ∧ Rv s b d:=by
 obtain ⟨h1,h2⟩:=h;obtain ⟨l⟩:=cs
 match l,h1 with
 | [c,d],_=>exact ⟨c,d,rfl,h2 0 (by simp) (by simp),h2 1 (by simp) (by simp)⟩
theorem Rv.lh {s:St} {x:ByteArray} {c:Value} (h:Rv s (.str x) c):c = .string x:=by cases h; rfl
theorem Rv.AK {s:St} {k:IntKind} {n:Int} {c:Value} (h:Rv s (.int k n) c):c = .int k n:=by cases h; rfl
theorem Rv.IJ {s:St} {l:List ByteArray} {c:Value} (h:Rv s (.slice 1 (l.map .str)) c):∃ a cap,c = .slice a l.length cap ∧ (l = [] ∨ ∃ blk off,a = some ⟨blk,off,none⟩ ∧ l.length ≤ cap ∧ ∀ j x,l[j]? = some x → s.S blk (off + j) ∧ s.w.cell? ⟨blk,off + j,none⟩ = some (.string x)):=by
 obtain ⟨a,cap,rfl,hh⟩:=h.dI;refine ⟨a,cap,by simp, ?_⟩;rcases hh with h0 | ⟨blk,off,us,rfl,hl,hcp,hr,hm⟩
 ·exact .inl (by simpa using h0)
 ·refine .inr ⟨blk,off,rfl,by simpa using hcp,fun j x hj=>?_⟩;obtain ⟨hj1,rfl⟩:=List.getElem?_eq_some_iff.1 hj;simp only [List.length_map] at hl;have hr1:=hr j (by simpa using hj1) (by omega);simp only [List.getElem_map] at hr1;have he:=hr1.lh;have:=(hm j (by omega)).2 0 (by rw [he]; simp [Value.cells]);simp only [Nat.mul_one,Nat.add_zero] at this;refine ⟨this.1,this.2.trans ?_⟩;simp [he,Value.cells]
end
end Go.AM
