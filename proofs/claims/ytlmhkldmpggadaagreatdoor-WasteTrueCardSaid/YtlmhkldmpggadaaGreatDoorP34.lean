/- Chapter 09: WasteTrue, by contracts. The inputs of WasteTrue: numbers by turns, and which papers are false. -/
import Derived.Test.YtlmhkldmpggadaaGreatDoorP33
import Derived.Test.YtlmhkldmpggadaaGreatDoorP23
namespace Go.AM
open Go.Proofs
set_option maxRecDepth 100000
set_option maxHeartbeats 4000000
theorem Vi (y:ab) (hy:dv y) (T U:List Nat) (hT:T.length ≤ maxLen) (hU:U.length ≤ maxLen) (hTb:∀ x ∈ T,x ≤ 4294967295) (hUb:∀ x ∈ U,x ≤ 4294967295) (bits:Nat) (hb:bits ≤ 65535) (σ:af) :
  Spec Tryz.prog F_8 [y.v, .agg [.slice 1 (T.map ka), .int .u16 bits, .slice 1 (U.map ka)]] σ fun r σ'=>r = .ret (.bool true) ∧ σ' = σ:=by
 refine Spec.aF (S_8 (by simp) (aa _ ?_)) (by simp [y.pure,aH,ag.pure,aD (f:=ka) (fun _=>rfl)]) rfl σ;have hva:=fun σ=>Vk y hy σ;by_cases h0:(cN aQ y).2.2 = 0;rotate_left
 ·have ho:bW y [] ≠ 0:=fun h=>h0 ((ib aQ y).2 ((cJ y []).1 h).valid);have hco:=fun σ=>ed y hy [] (by simp [maxLen]) σ;rw [show gw y [] = (false,bW y []) from by unfold gw; rw [if_pos ho]] at hco;rw [decide_eq_false h0] at hva;obtain ⟨e,he⟩:=zqq (bW y []);rw [he] at hco ho;simp only [ab.v,ab.cells,List.map_nil] at hva hco;simp [C_8,ab.v,ab.cells];refine ah.pure Wj (hva _) ?_;simp;refine ah.pure GL (hco _) ?_;simp [ho];refine ah.pure Dq (gM _) ?_;simp [ho]
 have hv:=(ib aQ y).1 h0;rw [decide_eq_true h0] at hva;have hm10:=hv.m10;have hk4:=hv.k4;have htd:=fun σ=>Vm hv T U hT hU hTb hUb bits hb σ;have hz:=wb hv (cA T) (cA U) bits.testBit;have hzl:=cQ (y:=y) (t:=cA T) (u:=cA U) (wr:=bits.testBit);have hzk:(bd y (cA T) (cA U) bits.testBit).kinds = y.kinds:=rfl;obtain ⟨t1,t2,t3⟩:=V3 hv (cA T) (cA U) bits.testBit;have hwl:=(pf hv (cA T)).len;have hwb:=gh hv (cA T);have hNa:Bv y.papers.length 0 (bg y bits.testBit):=za _ _;obtain ⟨w,hw⟩:=zqq ((cK y (cA T)).2);obtain ⟨N,hN⟩:=zqq (bg y bits.testBit);obtain ⟨z,hzz⟩:=zqq (bd y (cA T) (cA U) bits.testBit);rw [hzz,hw,hN] at htd;rw [hzz] at hz hzl hzk;rw [hzz,hN] at t1;rw [hw] at hwl;simp only [hzz,hN,hw] at t2 t3;simp only [hw] at hwb;rw [hN] at hNa;have hNa':=hNa;rw [← hzl] at hNa';have fz:=Fg hz;have hNf:=Ij hz hNa';have hc1:=fun σ=>ed z fz (bb N) hNf σ;rw [CV hz hNa',t1] at hc1;have hall:aP z (List.range z.papers.length) = true:=nK hz (fun i hi=>List.mem_range.2 (hNa'.2 i hi).2) t1;obtain ⟨l,hl⟩:=(VN hz).2 (by rw [Vt]; exact hall);obtain ⟨⟨hla,hlc,hlm⟩,_⟩:=LO hl;have hfe:=fun σ=>lb z fz σ;rw [show sX z = (l,0) from by unfold sX; rw [U7 hz,if_pos hall,if_neg (by decide),hl]] at hfe;have hle:=hlm N hNa' t1;have hmu:=fun σ=>nC z fz σ;rw [show Be z = (K9 z,0) from by unfold Be; rw [U7 hz,if_pos hall,if_neg (by decide)]] at hmu;have hmi:∀ i ∈ K9 z,i ∈ N:=fun i hi=>by
  by_cases h:i ∈ N
  ·exact h
  ·have:=V8 hz hi hNa' h;rw [t1] at this; cases this
 have hmo:=(cJ z _).2 (KO hz hNa');have wN:=uc N;have hrg:∀ i,i < y.papers.length → ∃ lo hi:Int,(∀ σ,Spec Tryz.prog C7 [z.v, .slice 1 ((bb N).map ii'),ii' i] σ fun r σ'=>r = .ret (.tup [.agg [ii' lo,ii' hi],ii' 0]) ∧ σ' = σ) ∧ lo ≤ w.getD i 0 ∧ w.getD i 0 ≤ hi:=fun i hi=>by
  obtain ⟨lo,hi',hr⟩:=Jg hz t1 (i:=i) (by omega);exact ⟨lo,hi',fun σ=>F4 fz hNf hmo (by rw [wN]; exact t1) (by omega) (by rw [wN]; exact hr) σ,t2 i hi lo hi' hr⟩
 have hgo:∀ k:Nat,k < y.kinds.length → ∃ lo hi:Int,(∀ σ,Spec Tryz.prog CX [z.v, .slice 1 ((bb N).map ii'),ii' k] σ fun r σ'=>r = .ret (.tup [.agg [ii' lo,ii' hi],ii' 0]) ∧ σ' = σ) ∧ lo ≤ ak w k (-1) y.papers 0 ∧ ak w k (-1) y.papers 0 ≤ hi:=fun k hk=>by
  obtain ⟨lo,hi',hr⟩:=Ff hz t1 (k:=k) (by rw [hzk]; exact hk);exact ⟨lo,hi',fun σ=>Bb fz hNf hmo (by rw [wN]; exact t1) (by rw [hzk]; exact hk) (by rw [wN]; exact hr) σ,t3 k lo hi' hr⟩
 have hha:=fun (i:Nat) σ=>mP (bb N) hNf (i:Int) σ;simp only [Da] at hha;have hlI:¬ ((bb N).length:Int) < (bb l).length:=by simp only [bb,List.length_map]; omega
 have hld:=fun i hi σ=>n7 hv (i:=i) hi σ;obtain ⟨Ni,hNi⟩:∃ x,(bb N).map ii' = x:=⟨_,rfl⟩;obtain ⟨li,hli⟩:∃ x,bb l = x:=⟨_,rfl⟩;obtain ⟨TL,hTL⟩:∃ x,T.map ka = x:=⟨_,rfl⟩;obtain ⟨UL,hUL⟩:∃ x,U.map ka = x:=⟨_,rfl⟩;have hNil:Ni.length = (bb N).length:=by rw [← hNi,List.length_map]
 simp only [hNi] at htd hc1 hrg hgo hha;simp only [hli] at hfe hlI;simp only [hTL,hUL] at htd ⊢;rw [← hNil] at hlI;simp only [ab.v,ab.cells] at hva htd hc1 hfe hmu hrg hgo hld;simp [C_8,ab.v,ab.cells];refine ah.pure Wj (hva _) ?_;simp;refine ah.pure Ws (htd _) ?_;simp;refine ah.pure GL (hc1 _) ?_;simp;refine ah.pure Qb (hfe _) ?_;simp;refine ah.pure Qq (hmu _) ?_;simp [hlI];obtain ⟨ml,hml⟩:∃ l,K9 z = l:=⟨_,rfl⟩;simp only [hml] at hmi ⊢;have hnl:(bb ml).length = ml.length:=by simp [bb]
 have hng:∀ i (h:i < ml.length),(bb ml)[i]'(by rw [hnl]; exact h) = ((ml[i]:Nat):Int):=fun i h=>by simp [bb]
 obtain ⟨zv,hzv⟩:∃ v:ag,ag.agg [.slice 1 (z.kinds.map .str), .slice 1 (z.places.map .str), .slice 4 (z.first.map ay.v), .slice 5 (z.papers.map aj.v), .slice 4 (z.last.map ay.v)] = v:=⟨_,rfl⟩;have hmlen:ml.length ≤ 10:=by rw [← hml,K9]; have:=List.length_filter_le (fun i=>!aP z (kp z.papers.length i)) (List.range z.papers.length); simp at this; omega
 refine AW.loop (ι:=Nat) (fun i fr σ'=>fr = { v:=[(2, .pval (yvL y)),(7, .pval (yvL z)),(8, .slice 1 (w.map ii')),(9, .slice 1 Ni),(14, .slice 1 ((bb ml).map ii')),(16, .int .i64 i)],ds:=[] } ∧ i ≤ ml.length) (fun i=>ml.length - i) 0 ⟨by simp,by omega⟩ ?_;rintro i fr σ' ⟨rfl,hi⟩;have hwi:IntKind.i64.wrap ((i:Int) + 1) = ((i + 1:Nat):Int):=by rw [aq (by omega) (by omega)]; simp
 refine (Nat.lt_or_ge i ml.length).elim (fun hlt=>?_) (fun hge=>?_)
 ·have hgi:=hng i hlt;have hin:=hmi ml[i] (List.getElem_mem hlt);have hhi:=hha ml[i];rw [decide_eq_true hin] at hhi;refine aa _ ?_;simp [hnl,hlt,hgi];refine ah.pure BL (hhi _) ?_;simp [hwi];exact ⟨i + 1,by omega,by simp,by omega⟩
 have hnlt:¬ i < ml.length:=by omega
 clear hwi;refine aa _ ?_;simp [hnl,hnlt];refine AW.loop (ι:=Nat) (fun i fr σ'=>fr = { v:=[(2, .pval (yvL y)),(7, .pval (yvL z)),(8, .slice 1 (w.map ii')),(9, .slice 1 Ni),(17, .int .i64 i)],ds:=[] } ∧ i ≤ y.papers.length) (fun i=>y.papers.length - i) 0 ⟨by simp,by omega⟩ ?_;rintro i fr σ' ⟨rfl,hi⟩;have hwi:IntKind.i64.wrap ((i:Int) + 1) = ((i + 1:Nat):Int):=by rw [aq (by omega) (by omega)]; simp
 refine (Nat.lt_or_ge i y.papers.length).elim (fun hlt=>?_) (fun hge=>?_)
 ·have hltI:(i:Int) < y.papers.length:=by omega
  have hiw:i < w.length:=by omega
  obtain ⟨lo,hi',hr,hlo,hhi⟩:=hrg i hlt;have hwg:w.getD i 0 = w[i]:=by rw [List.getD_eq_getElem?_getD,List.getElem?_eq_getElem hiw]; rfl
  rw [hwg] at hlo hhi;have n1:¬ w[i] < lo:=by omega
  have n2:¬ hi' < w[i]:=by omega
  refine aa _ ?_;simp [hwl,hlt,hltI,hiw];refine ah.pure J0 (hr _) ?_;simp [hwl,hlt,hltI,hiw,n1,n2,hwi];exact ⟨i + 1,by omega,by simp,by omega⟩
 have hnlt:¬ i < y.papers.length:=by omega
 have hnltI:¬ (i:Int) < y.papers.length:=by omega
 clear hwi;refine aa _ ?_;simp [hwl,hnlt,hnltI];refine AW.loop (ι:=Nat) (fun k fr σ'=>fr = { v:=[(2, .pval (yvL y)),(7, .pval (yvL z)),(8, .slice 1 (w.map ii')),(9, .slice 1 Ni),(20, .int .i64 k)],ds:=[] } ∧ k ≤ y.kinds.length) (fun k=>y.kinds.length - k) 0 ⟨by simp,by omega⟩ ?_;rintro k fr σ' ⟨rfl,hk⟩;have hwk:IntKind.i64.wrap ((k:Int) + 1) = ((k + 1:Nat):Int):=by rw [aq (by omega) (by omega)]; simp
 refine (Nat.lt_or_ge k y.kinds.length).elim (fun hlt=>?_) (fun hge=>?_);rotate_left
 ·have hnltI:¬ (k:Int) < y.kinds.length:=by omega
  have hnlt:¬ k < y.kinds.length:=by omega
  refine aa _ ?_;simp [hnlt,hnltI];refine ah.pure Dq (gM _) ?_;simp
 have hltI:(k:Int) < y.kinds.length:=by omega
 obtain ⟨lo,hi',hr,hlo,hhi⟩:=hgo k hlt;refine aa _ ?_;simp [hlt,hltI];refine AW.loop (ι:=Nat) (fun i fr σ'=>∃ n:Int,fr = { v:=[(2, .pval (yvL y)),(7, .pval (yvL z)),(8, .slice 1 (w.map ii')),(9, .slice 1 Ni),(20, .int .i64 k),(21,ii' n),(22, .int .i64 i)],ds:=[] } ∧ i ≤ y.papers.length ∧ n = ak w k (-1) (y.papers.take i) 0) (fun i=>y.papers.length - i) 0 ⟨0,by simp,by omega,by simp [ak]⟩ ?_;rintro i fr σ' ⟨n,rfl,hi,hn⟩;have hwi:IntKind.i64.wrap ((i:Int) + 1) = ((i + 1:Nat):Int):=by rw [aq (by omega) (by omega)]; simp
 refine (Nat.lt_or_ge i y.papers.length).elim (fun hlt2=>?_) (fun hge=>?_);rotate_left
 ·obtain rfl:i = y.papers.length:=by omega
  rw [List.take_length] at hn;rw [← hn] at hlo hhi;have n1:¬ n < lo:=by omega
  have n2:¬ hi' < n:=by omega
  refine aa _ ?_;simp [hwl];refine ah.pure He (hr _) ?_;simp [n1,n2,hwk];exact ⟨k + 1,by omega,by simp,by omega⟩
 have hltI2:(i:Int) < y.papers.length:=by omega
 have hiw:i < w.length:=by omega
 have hcb:=Vc hwb k (-1) (y.papers.take i) 0;rw [← hn,List.length_take] at hcb;have hst:ak w k (-1) (y.papers.take (i + 1)) 0 = n + (if y.papers[i].kind = k ∧ br y.papers[i] i = true then (if y.papers[i].dst = -1 then w.getD i 0 else 0) - (if y.papers[i].src = -1 then w.getD i 0 else 0) else 0):=by
  rw [List.take_succ_eq_append_getElem hlt2,Vh, ← hn];simp only [ak,List.length_take,Nat.zero_add,Nat.min_eq_left (Nat.le_of_lt hlt2),Int.add_zero]
 have hwg:w.getD i 0 = w[i]:=by rw [List.getD_eq_getElem?_getD,List.getElem?_eq_getElem hiw]; rfl
 have hwbi:=hwb i;rw [hwg] at hst hwbi;have hldi:=fun σ=>hld i hlt2 σ;have hpv:=hv.papers i hlt2;have hne:=hpv.ne;have hps:=hpv.src;have hpd:=hpv.dst;obtain ⟨⟨pk,ps,pd,pn,pc⟩,hx⟩:∃ p,y.papers[i] = p:=⟨_,rfl⟩;rw [hx] at hst hldi hne hps hpd;dsimp only at hst hne hps hpd;obtain ⟨v,hvv⟩:=zqq (w[i]);rw [hvv] at hst hwbi;have w1:IntKind.i64.wrap (n + v) = n + v:=aq (by omega) (by omega);have w2:IntKind.i64.wrap (n - v) = n - v:=aq (by omega) (by omega);obtain ⟨ld,hldd⟩:∃ b,br ⟨pk,ps,pd,pn,pc⟩ i = b:=⟨_,rfl⟩;rw [hldd] at hst hldi;by_cases e1:pk = k;rotate_left
 ·rw [if_neg (by simp [e1]),Int.add_zero] at hst;refine aa _ ?_;simp [hwl,hlt2,hltI2,hx,aj.v,aj.cells,e1,hwi];exact ⟨i + 1,by omega,⟨hst.symm,by simp⟩,by omega⟩
 cases ld
 ·rw [if_neg (by simp),Int.add_zero] at hst;refine aa _ ?_;simp [hwl,hlt2,hltI2,hx,aj.v,aj.cells,e1,hwi];refine ah.pure Gt (hldi _) ?_;simp [hwi];exact ⟨i + 1,by omega,⟨hst.symm,by simp⟩,by omega⟩
 rw [if_pos ⟨e1,rfl⟩] at hst;by_cases c1:pd = -1
 ·have c2:¬ ps = -1:=by omega
  rw [if_pos c1,if_neg c2,Int.sub_zero] at hst;refine aa _ ?_;simp [hwl,hlt2,hltI2,hx,aj.v,aj.cells,e1,hwi];refine ah.pure Gt (hldi _) ?_;simp [hwi,c1,c2,hiw,hvv,w1,hwl,hlt2,hltI2];exact ⟨i + 1,by omega,⟨hst.symm,by simp⟩,by omega⟩
 by_cases c2:ps = -1
 ·rw [if_neg c1,if_pos c2,Int.zero_sub] at hst;refine aa _ ?_;simp [hwl,hlt2,hltI2,hx,aj.v,aj.cells,e1,hwi];refine ah.pure Gt (hldi _) ?_;simp [hwi,c1,c2,hiw,hvv,w2,hwl,hlt2,hltI2];exact ⟨i + 1,by omega,⟨by rw [hst]; omega,by simp⟩,by omega⟩
 ·rw [if_neg c1,if_neg c2,Int.sub_zero,Int.add_zero] at hst;refine aa _ ?_;simp [hwl,hlt2,hltI2,hx,aj.v,aj.cells,e1,hwi];refine ah.pure Gt (hldi _) ?_;simp [hwi,c1,c2];exact ⟨i + 1,by omega,⟨hst.symm,by simp⟩,by omega⟩
open Go.Proofs Go.RowKit
set_option maxHeartbeats 1000000
theorem Ww:GZ Tryz.prog 63 = some [60,61,60]:=by kernel_rfl
theorem Wq:Gz Tryz.prog 60 = some (80,1,false):=by kernel_rfl
theorem Ld {k:Nat} {us:List ag} (h:Shaped Tryz.prog (k + 2) 60 us):∃ l:List Nat,us = [.slice 1 (l.map ka)] ∧ l.length ≤ maxLen ∧ ∀ x ∈ l,x ≤ 4294967295:=by
 obtain ⟨xs,rfl,hl,hx⟩:=h.sl Wq;obtain ⟨l,rfl,hb⟩:=ta (f:=ka) (p:=fun n=>n ≤ 4294967295) (xs:=xs) fun v hv=>by
  obtain ⟨cs,g1,g2⟩:=hx v hv;obtain ⟨n,rfl,hn⟩:=VP g1;exact ⟨n,g2,hn⟩
 exact ⟨l,rfl,by simpa using hl,hb⟩
theorem VG {k:Nat} {us:List ag} (h:Shaped Tryz.prog (k + 3) 63 us):∃ (T U:List Nat) (b:Nat),us = [.slice 1 (T.map ka), .int .u16 b, .slice 1 (U.map ka)] ∧ b ≤ 65535 ∧ (T.length ≤ maxLen ∧ ∀ x ∈ T,x ≤ 4294967295) ∧ U.length ≤ maxLen ∧ ∀ x ∈ U,x ≤ 4294967295:=by
 obtain ⟨a,r,rfl,h1,b,r2,rfl,h2,c,r3,rfl,h3,rfl⟩:=h.fs Ww;obtain ⟨T,rfl,g1,g2⟩:=Ld h1;obtain ⟨n,rfl,g3⟩:=VR h2;obtain ⟨U,rfl,g4,g5⟩:=Ld h3;exact ⟨T,U,n,rfl,g3,⟨g1,g2⟩,g4,g5⟩
end Go.AM
