/- Chapter 09: of the reference: the text of a yard. Chapter 09: of the reference: Write, found. Chapter 09: of the reference: Read. Chapter 09: WasteTexts, by contracts. -/
import Derived.Test.YtlmhkldmpggadaaGreatDoorP35
import Derived.Test.YtlmhkldmpggadaaGreatDoorP44
import Derived.Test.YtlmhkldmpggadaaGreatDoorP45
import Derived.Test.YtlmhkldmpggadaaGreatDoorP48
namespace Go.AM
open Go.Proofs
set_option maxRecDepth 100000
set_option maxHeartbeats 2000000
theorem zE (w:WdW):∀ r:List WdW,bB 32 (w :: r) = w ++ r.flatMap fun x=>32 :: x
 | []=>by simp [bB]
 | x :: r=>by
  have ih:=zE x r;rw [bB,ih]; simp
theorem nu (w:ByteArray) (l:List ByteArray) (hl:l.length ≤ 1000) (hb:(cy (aA w :: l.map aA)).length ≤ 10000) (σ:af) :
  Spec Tryz.prog ID [.str w, .slice 1 (l.map .str)] σ fun r σ'=>r = .ret (.str (bytes (cy (aA w :: l.map aA)))) ∧ σ' = σ:=by
 refine Spec.aF (PJ (by simp) (aa _ ?_)) (by simp [aH,ag.pure,aD (f:=ag.str) (fun _=>rfl)]) rfl σ;have hrow:cy (aA w :: l.map aA) = aA w ++ (l.map aA).flatMap (fun x=>32 :: x) ++ [10]:=by unfold cy; rw [zE]
 rw [hrow] at hb ⊢;rw [List.length_append] at hb;simp [Lk];refine AW.loop (ι:=Nat) (fun i fr σ=>∃ out:ByteArray,fr = { v:=[(1, .slice 1 (l.map .str)),(5, .str out),(6, .int .i64 i)],ds:=[] } ∧ i ≤ l.length ∧ aA out = aA w ++ ((l.map aA).take i).flatMap fun x=>32 :: x) (fun i=>l.length - i) 0 ⟨w,by simp,by omega,by simp⟩ ?_;rintro i fr σ ⟨out,rfl,hi,ho⟩;have hpre:(aA out).length ≤ 10000:=by
  rw [ho];have h1:(((l.map aA).take i).flatMap fun x=>(32:UInt8) :: x).length ≤ ((l.map aA).flatMap fun x=>(32:UInt8) :: x).length:=by
   conv=>rhs; rw [← List.take_append_drop i (l.map aA),List.flatMap_append,List.length_append]
   omega
  rw [List.length_append] at hb ⊢;omega
 rw [cL] at hpre;refine (Nat.lt_or_ge i l.length).elim (fun hlt=>?_) (fun hge=>?_)
 ·obtain ⟨x,hx⟩:=zqq (l[i]);have hw:IntKind.i64.wrap ((i:Int) + 1) = ((i + 1:Nat):Int):=by rw [aq (by omega) (by omega)]; simp
  have hst:((l.map aA).take (i + 1)).flatMap (fun x=>(32:UInt8) :: x) = ((l.map aA).take i).flatMap (fun x=>32 :: x) ++ 32 :: aA x:=by
   rw [List.take_succ_eq_append_getElem (by rw [List.length_map]; exact hlt),List.flatMap_append,List.getElem_map,hx]; simp
  have hxl:x.size ≤ 10000:=by
   have h1:(aA x).length ≤ ((l.map aA).flatMap fun x=>(32:UInt8) :: x).length:=by
    rw [← List.take_append_drop (i + 1) (l.map aA),List.flatMap_append,hst];simp;omega
   rw [cL] at h1;rw [List.length_append] at hb;omega
  refine aa _ ?_;have e1:(⟨#[32]⟩:ByteArray).size = 1:=rfl;simp [hlt,hx,hw,e1];refine ⟨by omega,by omega,i + 1,by omega,_,⟨rfl,by simp⟩,by omega, ?_⟩;rw [ji,ji,ho,hst];show _ ++ [32] ++ _ = _;simp
 ·obtain rfl:i = l.length:=by omega
  refine aa _ ?_;have e1:(⟨#[10]⟩:ByteArray).size = 1:=rfl;simp [e1];refine ⟨by omega, ?_⟩;apply mC;rw [ji,bF,ho,List.take_of_length_le (by simp)];show _ ++ [10] = _;simp
theorem oG (y:ab) (a:Int) (ha:-1 ≤ a ∧ a < y.places.length) (σ:af) :
  Spec Tryz.prog HZ [y.v,ii' a] σ fun r σ'=>r = .ret (.str (mb y a)) ∧ σ' = σ:=by
 refine Spec.aF (R6 (by simp) ?_) (by simp [y.pure,aH,ag.pure]) rfl σ;unfold mb;by_cases h:a = -1
 ·subst h;refine aa _ ?_;simp [Ip,ab.v,ab.cells];rfl
 ·obtain ⟨k,rfl⟩:∃ k:Nat,a = k:=⟨a.toNat,by omega⟩;have hk:k < y.places.length:=by omega
  refine aa _ ?_;simp [Ip,ab.v,ab.cells,h,hk]
theorem AZ (a b c d e:WdW):cy [a,b,c,d,e] = a ++ [32] ++ b ++ [32] ++ c ++ [32] ++ d ++ [32] ++ e ++ [10]:=by simp [cy,bB]
theorem JZ (a b c d e f:WdW):cy [a,b,c,d,e,f] = a ++ [32] ++ b ++ [32] ++ c ++ [32] ++ d ++ [32] ++ e ++ [32] ++ f ++ [10]:=by simp [cy,bB]
theorem mA {y:ab} (hv:bJ aQ y) (w:ByteArray) (l:List ay) (hl:l.length ≤ 8) (hc:∀ c ∈ l,zX y c) (hw5:w.size ≤ 5) (σ:af) :
  Spec Tryz.prog Hp [y.v, .str w, .slice 4 (l.map ay.v)] σ fun r σ'=>r = .ret (.str (bytes (l.flatMap fun c=>cy (aR (aA w) y c)))) ∧ σ' = σ:=by
 refine Spec.aF (ON (by simp) (aa _ ?_)) (by simp [y.pure,aH,ag.pure,aD (f:=ay.v) (fun c=>c.pure)]) rfl σ;have hnm:∀ (ns:List ByteArray),(∀ s ∈ ns,aQ s = true) → ∀ i (h:i < ns.length),ns[i].size ≤ 16:=fun ns hn i h=>by
  have:=(rk.byte _ (hn _ (List.getElem_mem h))).2.2
  rwa [show dQ ns[i] = aA ns[i] from rfl,cL] at this
 have hrl:∀ c ∈ l,(cy (aR (aA w) y c)).length ≤ 500:=fun c hcm=>by
  have h:=hc c hcm;have h1:=h.kind;have h2:=h.place;have h3:=h.lo;have h4:=h.hi;unfold Big at h3 h4;obtain ⟨k1,e1⟩:=gD h1;obtain ⟨k2,e2⟩:=gD h2;have n1:=hnm y.kinds hv.kinds.1 _ k1;have n2:=hnm y.places hv.places.1 _ k2;have l1:(dQ y.kinds[c.kind.toNat]).length = y.kinds[c.kind.toNat].size:=cL _;have l2:(dQ y.places[c.place.toNat]).length = y.places[c.place.toNat].size:=cL _;obtain ⟨a,ha⟩:∃ a:Nat,c.lo = a:=⟨c.lo.toNat,by omega⟩;obtain ⟨b,hb⟩:∃ b:Nat,c.hi = b:=⟨c.hi.toNat,by omega⟩;have d1:=oQ a (by omega);have d2:=oQ b (by omega);unfold aR;rw [AZ,e1,e2,ha,hb,o6,o6];simp only [List.length_append,List.length_singleton,cL,l1,l2];omega
 simp [Ly,ab.v,ab.cells];refine AW.loop (ι:=Nat) (fun i fr σ=>∃ out:ByteArray,fr = { v:=[(1, .str w),(2, .slice 4 (l.map ay.v)),(3, .pval (.agg [.slice 1 (y.kinds.map .str), .slice 1 (y.places.map .str), .slice 4 (y.first.map ay.v), .slice 5 (y.papers.map aj.v), .slice 4 (y.last.map ay.v)])),(7, .str out),(8, .int .i64 i)],ds:=[] } ∧ i ≤ l.length ∧ out.size ≤ 500 * i ∧ aA out = (l.take i).flatMap fun c=>cy (aR (aA w) y c)) (fun i=>l.length - i) 0 ⟨⟨#[]⟩,by simp,by omega,by simp; rfl,by simp; rfl⟩ ?_;rintro i fr σ ⟨out,rfl,hi,hos,ho⟩;refine (Nat.lt_or_ge i l.length).elim (fun hlt=>?_) (fun hge=>?_);rotate_left
 ·obtain rfl:i = l.length:=by omega
  refine aa _ ?_;simp;apply mC;rw [bF,ho,List.take_length]
 have hwi:IntKind.i64.wrap ((i:Int) + 1) = ((i + 1:Nat):Int):=by rw [aq (by omega) (by omega)]; simp
 have hst:(l.take (i + 1)).flatMap (fun c=>cy (aR (aA w) y c)) = (l.take i).flatMap (fun c=>cy (aR (aA w) y c)) ++ cy (aR (aA w) y l[i]):=by
  rw [List.take_succ_eq_append_getElem hlt,List.flatMap_append]; simp
 have hci:=hc l[i] (List.getElem_mem hlt);have hri:=hrl l[i] (List.getElem_mem hlt);obtain ⟨⟨ck,cp,clo,chi⟩,hx⟩:∃ x,l[i] = x:=⟨_,rfl⟩;rw [hx] at hst hci hri;have hk:=hci.kind;have hp:=hci.place;have hlo:=hci.lo;have hhi:=hci.hi;dsimp only at hk hp hlo hhi;obtain ⟨k,rfl⟩:∃ k:Nat,ck = k:=⟨ck.toNat,by omega⟩;obtain ⟨p,rfl⟩:∃ p:Nat,cp = p:=⟨cp.toNat,by omega⟩;unfold Big at hlo hhi;obtain ⟨a,rfl⟩:∃ a:Nat,clo = a:=⟨clo.toNat,by omega⟩;obtain ⟨b,rfl⟩:∃ b:Nat,chi = b:=⟨chi.toNat,by omega⟩;have d1:=fun σ=>gv a (by omega) σ;have d2:=fun σ=>gv b (by omega) σ;have hkl:k < y.kinds.length:=by omega
 have hpl:p < y.places.length:=by omega
 have n1:=hnm y.kinds hv.kinds.1 k hkl;have n2:=hnm y.places hv.places.1 p hpl;have n3:=oQ a (by omega);have n4:=oQ b (by omega);rw [← o6] at n3 n4;have z3:(bytes (Lib.itoa (a:Int))).size ≤ 10:=by rw [eo]; exact n3
 have z4:(bytes (Lib.itoa (b:Int))).size ≤ 10:=by rw [eo]; exact n4
 obtain ⟨K,hK⟩:=zqq (y.kinds[k]);obtain ⟨Q,hQ⟩:=zqq (y.places[p]);rw [hK] at n1;rw [hQ] at n2;have na1:nameAt y.kinds (k:Int) = aA K:=by
  obtain ⟨_,e⟩:=gD (l:=y.kinds) (i:=(k:Int)) hk;rw [e]; show aA y.kinds[k] = _; rw [hK]
 have na2:nameAt y.places (p:Int) = aA Q:=by
  obtain ⟨_,e⟩:=gD (l:=y.places) (i:=(p:Int)) hp;rw [e]; show aA y.places[p] = _; rw [hQ]
 have hrow:cy (aR (aA w) y ⟨k,p,a,b⟩) = aA w ++ [32] ++ aA K ++ [32] ++ aA Q ++ [32] ++ Lib.itoa a ++ [32] ++ Lib.itoa b ++ [10]:=by unfold aR; rw [AZ,na1,na2]
 obtain ⟨A,hA⟩:=zqq (bytes (Lib.itoa (a:Int)));obtain ⟨B,hB⟩:=zqq (bytes (Lib.itoa (b:Int)));rw [hA] at d1 z3;rw [hB] at d2 z4;have hA':Lib.itoa (a:Int) = aA A:=by rw [← hA,bF]
 have hB':Lib.itoa (b:Int) = aA B:=by rw [← hB,bF]
 rw [hA',hB'] at hrow;have e32:(⟨#[32]⟩:ByteArray).size = 1:=rfl;have e10:(⟨#[10]⟩:ByteArray).size = 1:=rfl;refine aa _ ?_;simp [hlt,hx,ay.v,ay.cells,hkl,hpl,hK,hQ,e32];refine ⟨by omega,by omega,by omega,by omega,by omega,by omega,_,fun σ'=>aE.func CG (d1 σ'), ?_⟩;simp [hwi,e32];refine ⟨by omega,by omega,_,fun σ'=>aE.func CG (d2 σ'), ?_⟩;simp [e32,e10];refine ⟨by omega,by omega,i + 1,by omega,_,⟨rfl,by simp⟩,by omega, ?_, ?_⟩
 ·simp only [ByteArray.size_append,e32,e10];omega
 ·rw [hst,hrow];simp only [ji,ho];simp [show aA ⟨#[32]⟩ = [32] from rfl,show aA ⟨#[10]⟩ = [10] from rfl]
theorem qE {y:ab} (hv:bJ aQ y) (σ:af) :
  Spec Tryz.prog MJ [y.v] σ fun r σ'=>r = .ret (.str (bytes (dS y))) ∧ σ' = σ:=by
 refine Spec.aF (Tn (by simp) ?_) (by simp [y.pure,aH]) rfl σ;have htl:=zo rk hv;have hk4:=hv.k4;have hp4:=hv.p4;have hm10:=hv.m10;obtain ⟨R1,hR1⟩:∃ R,cy (cT :: y.kinds.map dQ) = R:=⟨_,rfl⟩;obtain ⟨R2,hR2⟩:∃ R,cy (b6 :: y.places.map dQ) = R:=⟨_,rfl⟩;obtain ⟨R3,hR3⟩:∃ R,(y.first.flatMap fun c=>cy (aR cd y c)) = R:=⟨_,rfl⟩;obtain ⟨R4,hR4⟩:∃ R,(y.papers.flatMap fun p=>cy (bZ y p)) = R:=⟨_,rfl⟩;obtain ⟨R5,hR5⟩:∃ R,(y.last.flatMap fun c=>cy (aR dC y c)) = R:=⟨_,rfl⟩;have hT:dS y = R1 ++ (R2 ++ (R3 ++ (R4 ++ R5))):=by
  rw [← hR1, ← hR2, ← hR3, ← hR4, ← hR5];unfold dS ql;simp [List.flatMap_append,List.flatMap_map]
 have hlen:R1.length + (R2.length + (R3.length + (R4.length + R5.length))) ≤ 4000:=by
  rw [hT] at htl; simpa using htl
 have e1:aA eA :: y.kinds.map aA = cT :: y.kinds.map dQ:=rfl;have e2:aA de :: y.places.map aA = b6 :: y.places.map dQ:=rfl;have c1:=fun σ=>nu eA y.kinds (by omega) (by rw [e1,hR1]; omega) σ;have c2:=fun σ=>nu de y.places (by omega) (by rw [e2,hR2]; omega) σ;have c3:=fun σ=>mA hv bS y.first hv.f8 hv.first.1 (by decide) σ
 have c5:=fun σ=>mA hv dE y.last hv.l8 hv.last.1 (by decide) σ;rw [e1,hR1] at c1;rw [e2,hR2] at c2;rw [show aA bS = cd from rfl,hR3] at c3;rw [show aA dE = dC from rfl,hR5] at c5;simp only [ab.v,ab.cells] at c3 c5;have z1:=eo R1;have z2:=eo R2;have z3:=eo R3;have z5:=eo R5;obtain ⟨B1,hB1⟩:∃ B,bytes R1 = B:=⟨_,rfl⟩;obtain ⟨B2,hB2⟩:∃ B,bytes R2 = B:=⟨_,rfl⟩;obtain ⟨B3,hB3⟩:∃ B,bytes R3 = B:=⟨_,rfl⟩;obtain ⟨B5,hB5⟩:∃ B,bytes R5 = B:=⟨_,rfl⟩;rw [hB1] at c1 z1;rw [hB2] at c2 z2;rw [hB3] at c3 z3;rw [hB5] at c5 z5;have hfk:=vA y.kinds;have hfp:=vA y.places;refine aa _ ?_;simp [P1,ab.v,ab.cells];refine ⟨_,fun σ'=>aE.func LA (c1 σ'),_,fun σ'=>aE.func LA (c2 σ'), ?_⟩;simp;refine ⟨by omega,_,fun σ'=>aE.func Mh (c3 σ'), ?_⟩;simp;refine ⟨by omega, ?_⟩;have hcat:aA (B1 ++ B2 ++ B3) = R1 ++ (R2 ++ R3):=by
  rw [ji,ji, ← hB1, ← hB2, ← hB3,bF,bF,bF,List.append_assoc]
 refine AW.loop (ι:=Nat) (fun i fr σ'=>∃ out:ByteArray,fr = { v:=[(1, .pval (.agg [.slice 1 (y.kinds.map .str), .slice 1 (y.places.map .str), .slice 4 (y.first.map ay.v), .slice 5 (y.papers.map aj.v), .slice 4 (y.last.map ay.v)])),(3, .str out),(4, .int .i64 i)],ds:=[] } ∧ i ≤ y.papers.length ∧ aA out = R1 ++ (R2 ++ R3) ++ (y.papers.take i).flatMap fun p=>cy (bZ y p)) (fun i=>y.papers.length - i) 0 ⟨_,by simp; rfl,by omega,by simpa using hcat⟩ ?_;rintro i fr σ' ⟨out,rfl,hi,ho⟩;refine (Nat.lt_or_ge i y.papers.length).elim (fun hlt=>?_) (fun hge=>?_);rotate_left
 ·obtain rfl:i = y.papers.length:=by omega
  rw [List.take_length,hR4] at ho;have hol:out.size ≤ 4000:=by rw [← cL,ho]; simp; omega
  refine aa _ ?_;simp;refine ah.pure Mh (c5 _) ?_;simp;refine ⟨by omega, ?_⟩;apply mC;rw [ji,bF,ho, ← hB5,bF,hT];simp
 have hltI:(i:Int) < y.papers.length:=by omega
 have hwi:IntKind.i64.wrap ((i:Int) + 1) = ((i + 1:Nat):Int):=by rw [aq (by omega) (by omega)]; simp
 have hpv:=hv.papers i hlt;obtain ⟨p,hx⟩:=zqq (y.papers[i]);have hpm:p ∈ y.papers:=hx ▸ List.getElem_mem _;rw [hx] at hpv;have hfl:=lB (fun p=>cy (bZ y p)) hlt;rw [hx] at hfl;have hrow:=jY (fun p=>cy (bZ y p)) hpm;have hpre:((y.papers.take i).flatMap fun p=>cy (bZ y p)).length ≤ R4.length:=by
  rw [← hR4]
  conv=>rhs; rw [← List.take_append_drop i y.papers,List.flatMap_append,List.length_append]
  omega
 rw [hR4] at hrow;have hol:out.size ≤ 4000:=by rw [← cL,ho]; simp only [List.length_append]; omega
 have hkb:=hpv.kilos;unfold Big at hkb;obtain ⟨kn,hkn⟩:∃ n:Nat,p.kilos = n:=⟨p.kilos.toNat,by omega⟩;have i1:=fun σ=>gv kn (by omega) σ;have t1:=fun σ=>oG y p.src hpv.src σ;have t2:=fun σ=>oG y p.dst hpv.dst σ;simp only [ab.v,ab.cells] at t1 t2;obtain ⟨K,hK⟩:∃ K:Nat,p.kind = K:=⟨p.kind.toNat,by have:=hpv.kind; omega⟩;have hK1:K < y.kinds.length:=by have:=hpv.kind; omega
 have hKI:(K:Int) < y.kinds.length:=by omega
 obtain ⟨W,hW⟩:=zqq (y.kinds[K]);have hWD:y.kinds.getD p.kind.toNat .empty = W:=by
  rw [hK,Int.toNat_natCast,List.getD,List.getElem?_eq_getElem hK1,Option.getD_some,hW]
 have hrw:cy (bZ y p) = aA bo ++ [32] ++ aA W ++ [32] ++ aA (mb y p.src) ++ [32] ++ aA (mb y p.dst) ++ [32] ++ aA (bytes (Lib.itoa kn)) ++ [32] ++ aA (vf p) ++ [10]:=by
  rw [← xj];simp only [Au,List.map_cons,List.map_nil];rw [JZ,hWD,hkn]
 obtain ⟨S,hS⟩:=zqq (mb y p.src);obtain ⟨D,hD⟩:=zqq (mb y p.dst);obtain ⟨A,hA⟩:=zqq (bytes (Lib.itoa (kn:Int)));rw [hS] at t1 hrw;rw [hD] at t2 hrw;rw [hA] at i1 hrw;have hbl:6 + W.size + 1 + S.size + 1 + D.size + 1 + A.size + 1 + (vf p).size + 1 ≤ 4000:=by
  rw [hrw] at hrow;simp only [List.length_append,List.length_singleton,cL] at hrow;have:bo.size = 5:=rfl;omega
 have e32:(⟨#[32]⟩:ByteArray).size = 1:=rfl;have e10:(⟨#[10]⟩:ByteArray).size = 1:=rfl;have e6:(⟨#[112,97,112,101,114,32]⟩:ByteArray).size = 6:=rfl;have hend:∀ C:ByteArray,vf p = C → aA (out ++ ⟨#[112,97,112,101,114,32]⟩ ++ W ++ ⟨#[32]⟩ ++ S ++ ⟨#[32]⟩ ++ D ++ ⟨#[32]⟩ ++ A ++ ⟨#[32]⟩ ++ C ++ ⟨#[10]⟩) = R1 ++ (R2 ++ R3) ++ (y.papers.take (i + 1)).flatMap fun p=>cy (bZ y p):=by
  intro C hC;rw [hfl,hrw,hC];simp only [ji,ho];simp [show aA ⟨#[32]⟩ = [32] from rfl,show aA ⟨#[10]⟩ = [10] from rfl,show aA ⟨#[112,97,112,101,114,32]⟩ = aA bo ++ [32] from rfl]
 by_cases hcp:0 ≤ p.copy
 ·have hcb:p.copy < 10:=by
   rcases hpv.copy with e | ⟨_,e,_⟩ <;> omega
  obtain ⟨cn,hcn⟩:∃ n:Nat,p.copy = n:=⟨p.copy.toNat,by omega⟩;have i2:=fun σ=>gv cn (by omega) σ;have hC:vf p = bytes (Lib.itoa (cn:Int)):=by unfold vf; rw [if_pos hcp,hcn]
  obtain ⟨C,hCC⟩:=zqq (bytes (Lib.itoa (cn:Int)));rw [hCC] at i2 hC;rw [hC] at hbl
  replace hend:=hend C hC
  refine aa _ ?_;simp [hlt,hltI,hx,aj.v,aj.cells,hK,hK1,hKI,hcn,hkn,hW];refine ah.pure CG (i2 _) ?_;simp [hlt,hltI,hx,aj.v,aj.cells,hK,hK1,hKI,hcn,hkn,hW,e32,e6];refine ⟨by omega,by omega,by omega,_,fun σ' _=>aE.func EU (t1 σ'), ?_⟩;simp [e32];refine ⟨by omega,by omega,_,fun σ' _=>aE.func EU (t2 σ'), ?_⟩;simp [e32];refine ⟨by omega,by omega,_,fun σ'=>aE.func CG (i1 σ'), ?_⟩;simp [e32,e10,e6,hwi];exact ⟨by omega,by omega,by omega,by omega,i + 1,by omega,_,⟨rfl,by simp⟩,by omega,by rw [hend]; simp⟩
 ·have hC:vf p = ⟨#[45]⟩:=by unfold vf; rw [if_neg hcp]; rfl
  have e45:(⟨#[45]⟩:ByteArray).size = 1:=rfl;rw [hC,e45] at hbl
  replace hend:=hend _ hC
  refine aa _ ?_;simp [hlt,hltI,hx,aj.v,aj.cells,hK,hK1,hKI,hcp,hkn,hW,e32,e6];refine ⟨by omega,by omega,by omega,_,fun σ' _=>aE.func EU (t1 σ'), ?_⟩;simp [e32];refine ⟨by omega,by omega,_,fun σ' _=>aE.func EU (t2 σ'), ?_⟩;simp [e32];refine ⟨by omega,by omega,_,fun σ'=>aE.func CG (i1 σ'), ?_⟩;simp [e32,e10,e6,e45,hwi];exact ⟨by omega,by omega,by omega,by omega,i + 1,by omega,_,⟨rfl,by simp⟩,by omega,by rw [hend]; simp⟩
theorem wM (y:ab) (hy:dv y) (σ:af) :
  Spec Tryz.prog MD [y.v] σ fun r σ'=>r = .ret (.tup [.str (bytes (mW y).1),ii' (mW y).2]) ∧ σ' = σ:=by
 refine Spec.aF (TN (by simp) ?_) (by simp [y.pure,aH]) (by simp [ag.pure,aH]) σ;have hc:=fun σ=>kM y hy σ;unfold mW;simp only [ab.v,ab.cells,df] at hc;by_cases h0:(cN aQ y).2.2 = 0;rotate_left
 ·rw [if_pos h0];refine aa _ ?_;simp [NZ,ab.v,ab.cells];refine ah.pure FK (hc _) ?_;simp [h0,bytes]
 rw [if_neg (by simp [h0])];have hv:=(ib aQ y).1 h0;have ht:=fun σ=>qE hv σ;simp only [ab.v,ab.cells] at ht;rw [h0] at hc;refine aa _ ?_;simp [NZ,ab.v,ab.cells];refine ah.pure FK (hc _) ?_;simp;refine ah.pure Np (ht _) ?_;simp
theorem wI (s:ByteArray):∀ (l:List ByteArray) (i:Nat),kA l s i = match vh l (aA s) with
  | some k=>((k + i:Nat):Int)
  | none=>-1
 | [],i=>rfl
 | a :: l,i=>by
  have ih:=wI s l (i + 1);have e:(a.toList == s.toList) = decide (dQ a = aA s):=by
   rw [toList_data,toList_data];by_cases h:dQ a = aA s
   ·rw [decide_eq_true h]; exact beq_iff_eq.2 h
   ·rw [decide_eq_false h]; exact beq_eq_false_iff_ne.2 h
  unfold kA vh;unfold vh at ih;rw [List.findIdx?_cons,e];by_cases h:dQ a = aA s
  ·simp [h]
  ·simp only [decide_eq_false h,Bool.false_eq_true,if_false];rw [ih]
   cases l.findIdx? (fun t=>decide (dQ t = aA s)) with
   | none=>rfl
   | some k=>simp only [Option.map_some]; congr 1; omega
theorem oX (l:List ByteArray) (hl:l.length ≤ maxLen) (s:ByteArray) (σ:af) :
  Spec Tryz.prog Hh [.slice 1 (l.map .str), .str s] σ fun r σ'=>r = .ret (ii' (iG l (aA s))) ∧ σ' = σ:=by
 refine Spec.aF (PR (by simp) (aa _ ?_)) (by simp [aH,ag.pure,aD (f:=ag.str) (fun _=>rfl)]) rfl σ;have hp:=fun σ=>oT l s hl σ;rw [wI] at hp;unfold iG;have hms:aA s = bU ↔ s = miS:=⟨fun h=>mC h,fun h=>by rw [h]; rfl⟩;by_cases h:s = miS
 ·rw [if_pos (hms.2 h)];subst h;simp [Hu,miS]
 rw [if_neg fun e=>h (hms.1 e)];have h':¬ s.toList = [45]:=fun e=>h (mC (by rw [toList_data] at e; exact e));simp [Hu,h'];refine ah.pure LZ (hp _) ?_
 cases vh l (aA s) with
 | none=>simp
 | some k=>simp
theorem BW (w:WdW) (r:List WdW) (y:ab):fA (w :: r) y = if w = cT then some { y with kinds:=r.map ry } else if w = b6 then some { y with places:=r.map ry } else if w = dO ∧ r.length = 5 then some { y with papers:=y.papers ++ [Hj y (w :: r)] } else if r.length = 4 then (if w = cd then some { y with first:=y.first ++ [Ds y (w :: r)] } else some { y with last:=y.last ++ [Ds y (w :: r)] }) else none:=by
 have e1:(r.length + 1 = 6) ↔ r.length = 5:=by omega
 have e2:(r.length + 1 = 5) ↔ r.length = 4:=by omega
 unfold fA;simp only [List.head?_cons,Option.some.injEq,List.tail_cons,List.length_cons,e1,e2]
theorem B9 {ws:List WdW} {y y':ab} (h:fA ws y = some y'):y'.kinds.length ≤ max y.kinds.length ws.length ∧ y'.places.length ≤ max y.places.length ws.length ∧ y'.first.length + y'.papers.length + y'.last.length ≤ y.first.length + y.papers.length + y.last.length + 1:=by
 unfold fA at h
 split at h
 ·cases h; dsimp only; rw [List.length_map,List.length_tail]; omega
 ·split at h
  ·cases h; dsimp only; rw [List.length_map,List.length_tail]; omega
  ·split at h
   ·cases h; simp; omega
   ·split at h
    ·split at h
     ·cases h; simp; omega
     ·cases h; simp; omega
    ·cases h
theorem FB (s:ByteArray):ep s = if 4000 < s.size then ((eE,3):ab × Int) else match jA fA (fun _=>true) (cutAt 10 (aA s)) eE with
  | none=>(eE,6)
  | some y=>if decide ((cN aQ y).2.2 = 0) && decide (dS y = aA s) then (y,0) else (eE,6):=by
 unfold ep;rw [En rk];unfold AE rZ;split
 ·rfl
 ·cases jA fA (fun _=>true) (cutAt 10 (aA s)) eE with
  | none=>rfl
  | some y=>
   dsimp only;by_cases hh:(decide ((cN aQ y).2.2 = 0) && decide (dS y = aA s)) = true
   ·rw [if_pos hh,if_pos hh]
   ·rw [if_neg hh,if_neg hh]
theorem ym (s:ByteArray) (σ:af):Spec Tryz.prog NC [.str s] σ fun r σ'=>r = .ret (.tup [(ep s).1.v,ii' (ep s).2]) ∧ σ' = σ:=by
 refine Spec.aF (UF (by simp) ?_) rfl (by simp [ag.pure,aH,ab.pure]) σ;have hzv:eE.v = .agg [.slice 1 [], .slice 1 [], .slice 4 [], .slice 5 [], .slice 4 []]:=rfl;by_cases h6:4000 < s.size
 ·have hv:ep s = (eE,3):=by unfold ep; rw [if_pos h6]
  have h6I:(4000:Int) < s.size:=by omega
  rw [hv];refine aa _ ?_;simp [NA,h6I,hzv]
 have h6I:¬ (4000:Int) < s.size:=by omega
 have hrf:=FB s;rw [if_neg h6] at hrf;have u10:((10:UInt8).toNat:Int) = 10:=rfl;have u32:((32:UInt8).toNat:Int) = 32:=rfl;have qc:=fun σ=>rY s 10 (by omega) σ;have hcl:=mB 10 (aA s);rw [cL] at hcl;have hnx:cutAt 10 (aA s) ≠ []:=jr _ _;obtain ⟨R,hR⟩:=zqq (cutAt 10 (aA s));rw [hR] at qc hcl hnx hrf;have hR0:1 ≤ R.length:=List.length_pos_iff.2 hnx;rw [u10] at qc;have eK:(⟨#[107,105,110,100,115]⟩:ByteArray) = eA:=rfl;have eP:(⟨#[112,108,97,99,101,115]⟩:ByteArray) = de:=rfl;have eQ:(⟨#[112,97,112,101,114]⟩:ByteArray) = bo:=rfl;have eF:(⟨#[102,105,114,115,116]⟩:ByteArray) = bS:=rfl;have eM:(⟨#[45]⟩:ByteArray) = miS:=rfl;refine aa _ ?_;simp [NA,h6I];refine ah.pure qx (qc _) ?_;simp
 refine AW.loop (ι:=Nat) (fun i fr σ=>∃ (y:ab) (q1 q2 q3:Nat) (t:af),fr = { v:=[(0, .str s),(2, .ptr 0 0),(4, .ptr 4 0),(5, .slice 1 (R.map fun w=>.str (bytes w))),(6, .int .i64 i)],ds:=[] } ∧
  σ = .box [.slice 1 [], .slice 1 [], .slice 4 [], .slice 5 [], .slice 4 []] :: .spare 4 q1 :: .spare 5 q2 :: .spare 4 q3 :: .box [.slice 1 (y.kinds.map .str), .slice 1 (y.places.map .str), .oslice 4 (y.first.map ay.v) 1 q1, .oslice 5 (y.papers.map aj.v) 2 q2, .oslice 4 (y.last.map ay.v) 3 q3] :: t ∧ i + 1 ≤ R.length ∧ y.first.length + y.papers.length + y.last.length ≤ i ∧ y.kinds.length ≤ 6001 ∧ y.places.length ≤ 6001 ∧ jA fA (fun _=>true) (R.drop i) y = jA fA (fun _=>true) R eE) (fun i=>R.length - i) 0 ⟨eE,0,0,0,[],by simp,by simp [eE],by omega,by simp [eE],by simp [eE],by simp [eE],by rw [List.drop_zero]⟩ ?_
 rintro i fr σ ⟨y,q1,q2,q3,t,rfl,rfl,hi,hsz,hkl,hpl,hco⟩;have hwi2:IntKind.i64.wrap ((i:Int) + 1) = (i:Int) + 1:=aq (by omega) (by omega);refine (Nat.lt_or_ge (i + 1) R.length).elim (fun hlt=>?_) (fun hge=>?_)
 ·have hd:=List.drop_eq_getElem_cons (l:=R) (i:=i) (by omega);have hd2:=List.drop_eq_getElem_cons (l:=R) (i:=i + 1) hlt;rw [hd,hd2] at hco;simp only [jA] at hco;rw [← hd2] at hco;have hrm:R[i]'(by omega) ∈ R:=List.getElem_mem _;obtain ⟨r,hr⟩:=zqq (R[i]'(by omega));rw [hr] at hrm hco;have hr6:=hcl.2 r hrm;have hiN:i < R.length:=by omega
  have hltI:(i:Int) + 1 < R.length:=by omega
  have hr2:∀ h:i < R.length,R[i]'h = r:=fun _=>hr;have qwq:=fun σ=>rY (bytes r) 32 (by rw [eo]; omega) σ;rw [bF,u32] at qwq;have hcw:=mB 32 r;have hnw:=jr 32 r;obtain ⟨ws,hws⟩:=zqq (cutAt 32 r);rw [hws] at qwq hcw hnw hco
  cases ws with
  | nil=>exact absurd rfl hnw
  | cons w0 wr=>
  have hwl:wr.length ≤ 6000:=by have:=hcw.1; simp at this; omega
  have hwz:∀ n ∈ (w0 :: wr),(bytes n).size ≤ 6000:=fun w hw=>by
   rw [eo];have:=hcw.2 w hw;omega
  have hTk:List.take wr.length (wr.map fun w=>ag.str (bytes w)) = wr.map fun w=>ag.str (bytes w):=List.take_of_length_le (by simp);have hB:(wr.map ry).map ag.str = wr.map fun w=>ag.str (bytes w):=by rw [List.map_map]; rfl
  have hre:=BW w0 wr y;have hln:=fun y' (h:fA (w0 :: wr) y = some y')=>B9 h;obtain ⟨z0,hz0⟩:∃ z,bytes w0 = z:=⟨_,rfl⟩;have hw0:w0 = aA z0:=by rw [← hz0,bF]
  have hpi:∀ x:ByteArray,w0 = aA x ↔ z0 = x:=fun x=>by rw [hw0]; exact ⟨fun h=>xe h,fun h=>by rw [h]⟩
  have hpK:w0 = cT ↔ z0 = eA:=hpi eA;have hpP:w0 = b6 ↔ z0 = de:=hpi de;have hpQ:w0 = dO ↔ z0 = bo:=hpi bo;have hpF:w0 = cd ↔ z0 = bS:=hpi bS;by_cases cK:z0 = eA
  ·rw [if_pos (hpK.2 cK)] at hre;rw [hre] at hco;have hl:=hln _ hre;subst cK;refine aa _ ?_;simp [hltI,hwi2,hiN,hr2];refine ah.pure qx (qwq _) ?_;simp [hz0,eK,hTk];exact ⟨by omega,i + 1,by omega,by rw [hwi2]; simp,{ y with kinds:=wr.map ry },⟨hB.symm,rfl,rfl,rfl,rfl⟩,by omega,by dsimp only; omega,by dsimp only at hl ⊢; simp at hl ⊢; omega,by dsimp only; omega,hco⟩
  rw [if_neg (fun h=>cK (hpK.1 h))] at hre;have nK:¬ z0 = eA:=cK;by_cases cP:z0 = de
  ·rw [if_pos (hpP.2 cP)] at hre;rw [hre] at hco;have hl:=hln _ hre;subst cP;refine aa _ ?_;simp [hltI,hwi2,hiN,hr2];refine ah.pure qx (qwq _) ?_;simp [nmd,hz0,eK,eP,nK,hTk];exact ⟨by omega,i + 1,by omega,by rw [hwi2]; simp,{ y with places:=wr.map ry },⟨rfl,hB.symm,rfl,rfl,rfl⟩,by omega,by dsimp only; omega,by dsimp only; omega,by dsimp only at hl ⊢; simp at hl ⊢; omega,hco⟩
  rw [if_neg (fun h=>cP (hpP.1 h))] at hre;have nP:¬ z0 = de:=cP;have hfK:=fun (s:ByteArray) σ=>oX y.kinds (by simp only [maxLen]; omega) s σ;have hfP:=fun (s:ByteArray) σ=>oX y.places (by simp only [maxLen]; omega) s σ;by_cases cQ:z0 = bo ∧ wr.length = 5
  ·obtain ⟨cQ,h5⟩:=cQ;rw [if_pos ⟨hpQ.2 cQ,h5⟩] at hre;rw [hre] at hco;have hl:=hln _ hre;obtain ⟨w1,w2,w3,w4,w5,rfl⟩:∃ w1 w2 w3 w4 w5,wr = [w1,w2,w3,w4,w5]:=by
    match wr,h5 with
    | [w1,w2,w3,w4,w5],_=>exact ⟨w1,w2,w3,w4,w5,rfl⟩
   have f1:=hfK (bytes w1);have f2:=hfP (bytes w2);have f3:=hfP (bytes w3);have d4:=fun σ=>fI (bytes w4) (hwz w4 (by simp)) σ;have d5:=fun σ=>fI (bytes w5) (hwz w5 (by simp)) σ;rw [bF] at f1 f2 f3 d4 d5;have hpp:Hj y [w0,w1,w2,w3,w4,w5] = ⟨iG y.kinds w1,iG y.places w2,iG y.places w3,j8 w4,if w5 = bU then -1 else j8 w5⟩:=rfl;rw [hpp] at hco;obtain ⟨z5,hz5⟩:∃ z,bytes w5 = z:=⟨_,rfl⟩;have hp5:w5 = bU ↔ z5 = miS:=by
    have:w5 = aA z5:=by rw [← hz5,bF]
    rw [this]; exact ⟨fun h=>xe h,fun h=>by rw [h]; rfl⟩
   rw [hz5] at d5;subst cQ;by_cases c5:z5 = miS
   ·rw [if_pos (hp5.2 c5)] at hco;subst c5;refine aa _ ?_;simp [hltI,hwi2,hiN,hr2];refine ah.pure qx (qwq _) ?_;simp [nmd,hz0,hz5,eK,eP,eQ,eM,nK,nP];refine ⟨[],ah.pure nM (f1 _) ?_⟩;simp;refine ⟨[],ah.pure nM (f2 _) ?_⟩;simp;refine ⟨[],ah.pure nM (f3 _) ?_⟩;simp;refine ⟨[],ah.pure sG (d4 _) ?_⟩;simp [mz];exact ⟨by omega,i + 1,by omega,by rw [hwi2]; simp,{ y with papers:=y.papers ++ [⟨iG y.kinds w1,iG y.places w2,iG y.places w3,j8 w4, -1⟩] },⟨rfl,rfl,rfl,by simp [aj.v,aj.cells],rfl⟩,by omega,by simp; omega,by dsimp only; omega,by dsimp only; omega,hco⟩
   ·rw [if_neg (fun h=>c5 (hp5.1 h))] at hco;refine aa _ ?_;simp [hltI,hwi2,hiN,hr2];refine ah.pure qx (qwq _) ?_;simp [nmd,hz0,hz5,eK,eP,eQ,eM,nK,nP,c5];refine ah.pure sG (d5 _) ?_;simp [hz0];refine ⟨[],ah.pure nM (f1 _) ?_⟩;simp;refine ⟨[],ah.pure nM (f2 _) ?_⟩;simp;refine ⟨[],ah.pure nM (f3 _) ?_⟩;simp;refine ⟨[],ah.pure sG (d4 _) ?_⟩;simp [mz];exact ⟨by omega,i + 1,by omega,by rw [hwi2]; simp,{ y with papers:=y.papers ++ [⟨iG y.kinds w1,iG y.places w2,iG y.places w3,j8 w4,j8 w5⟩] },⟨rfl,rfl,rfl,by simp [aj.v,aj.cells],rfl⟩,by omega,by simp; omega,by dsimp only; omega,by dsimp only; omega,hco⟩
  have nQ:¬ (w0 = dO ∧ wr.length = 5):=fun h=>cQ ⟨hpQ.1 h.1,h.2⟩;rw [if_neg nQ] at hre;have hQw:∀ (h:z0 = bo), ¬ (wr.length:Int) + 1 = 6:=fun h e=>cQ ⟨h,by omega⟩;by_cases h4:wr.length = 4;rotate_left
  ·rw [if_neg h4] at hre;rw [hre] at hco;have h4I:¬ (wr.length:Int) + 1 = 5:=by omega
   have hrv:ep s = (eE,6):=by rw [hrf, ← hco]
   rw [hrv];have nKA:¬ bo = eA:=by decide
   have nPA:¬ bo = de:=by decide
   by_cases cA:z0 = bo
   ·have h6I:=hQw cA;refine aa _ ?_;simp [hltI,hwi2,hiN,hr2];refine ah.pure qx (qwq _) ?_;simp [nmd,hz0,eK,eP,eQ,nKA,nPA,cA,h6I,h4I,hzv]
   ·refine aa _ ?_;simp [hltI,hwi2,hiN,hr2];refine ah.pure qx (qwq _) ?_;simp [nmd,hz0,eK,eP,eQ,nK,nP,cA,h4I,hzv]
  rw [if_pos h4] at hre;obtain ⟨w1,w2,w3,w4,rfl⟩:∃ w1 w2 w3 w4,wr = [w1,w2,w3,w4]:=by
   match wr,h4 with
   | [w1,w2,w3,w4],_=>exact ⟨w1,w2,w3,w4,rfl⟩
  have f1:=hfK (bytes w1);have f2:=hfP (bytes w2);have d3:=fun σ=>fI (bytes w3) (hwz w3 (by simp)) σ;have d4:=fun σ=>fI (bytes w4) (hwz w4 (by simp)) σ;rw [bF] at f1 f2 d3 d4;have hu1:=aD (f:=ag.str) (fun _=>rfl) y.kinds;have hu2:=aD (f:=ag.str) (fun _=>rfl) y.places;have hcc:Ds y [w0,w1,w2,w3,w4] = ⟨iG y.kinds w1,iG y.places w2,j8 w3,j8 w4⟩:=rfl;rw [hcc] at hre;by_cases cF:z0 = bS
  ·rw [if_pos (hpF.2 cF)] at hre;rw [hre] at hco;have nKA:¬ bS = eA:=by decide
   have nPA:¬ bS = de:=by decide
   have nQA:¬ bS = bo:=by decide
   subst cF;refine aa _ ?_;simp [hltI,hwi2,hiN,hr2];refine ah.pure qx (qwq _) ?_;simp [nmd,hz0,eK,eP,eQ,eF,nKA,nPA,nQA];refine ⟨_,fun σ' _=>aE.func nM (f1 σ'), ?_⟩;simp;refine ⟨_,fun σ' _=>aE.func nM (f2 σ'), ?_⟩;simp;refine ⟨_,fun σ'=>aE.func sG (d3 σ'), ?_⟩;simp;refine ⟨_,fun σ'=>aE.func sG (d4 σ'), ?_⟩;simp [ki,hu1];exact ⟨by omega,i + 1,by omega,by rw [hwi2]; simp,{ y with first:=y.first ++ [⟨iG y.kinds w1,iG y.places w2,j8 w3,j8 w4⟩] },⟨rfl,rfl,by simp [ay.v,ay.cells],rfl,rfl⟩,by omega,by simp; omega,by dsimp only; omega,by dsimp only; omega,hco⟩
  rw [if_neg (fun h=>cF (hpF.1 h))] at hre;rw [hre] at hco;by_cases cA:z0 = bo
  ·have nKA:¬ bo = eA:=by decide
   have nPA:¬ bo = de:=by decide
   have nFA:¬ bo = bS:=by decide
   subst cA;refine aa _ ?_;simp [hltI,hwi2,hiN,hr2];refine ah.pure qx (qwq _) ?_;simp [nmd,hz0,eK,eP,eQ,eF,nKA,nPA];refine ⟨_,fun σ' _=>aE.func nM (f1 σ'), ?_⟩;simp;refine ⟨_,fun σ' _=>aE.func nM (f2 σ'), ?_⟩;simp;refine ⟨_,fun σ'=>aE.func sG (d3 σ'), ?_⟩;simp;refine ⟨_,fun σ'=>aE.func sG (d4 σ'), ?_⟩;simp [nFA,ki,hu1];exact ⟨by omega,i + 1,by omega,by rw [hwi2]; simp,{ y with last:=y.last ++ [⟨iG y.kinds w1,iG y.places w2,j8 w3,j8 w4⟩] },⟨rfl,rfl,rfl,rfl,by simp [ay.v,ay.cells]⟩,by omega,by simp; omega,by dsimp only; omega,by dsimp only; omega,hco⟩
  ·refine aa _ ?_;simp [hltI,hwi2,hiN,hr2];refine ah.pure qx (qwq _) ?_;simp [nmd,hz0,eK,eP,eQ,eF,nK,nP,cA];refine ⟨_,fun σ' _=>aE.func nM (f1 σ'), ?_⟩;simp;refine ⟨_,fun σ' _=>aE.func nM (f2 σ'), ?_⟩;simp;refine ⟨_,fun σ'=>aE.func sG (d3 σ'), ?_⟩;simp;refine ⟨_,fun σ'=>aE.func sG (d4 σ'), ?_⟩;simp [cF,ki,hu1];exact ⟨by omega,i + 1,by omega,by rw [hwi2]; simp,{ y with last:=y.last ++ [⟨iG y.kinds w1,iG y.places w2,j8 w3,j8 w4⟩] },⟨rfl,rfl,rfl,rfl,by simp [ay.v,ay.cells]⟩,by omega,by simp; omega,by dsimp only; omega,by dsimp only; omega,hco⟩
 have hie:R.length = i + 1:=by omega
 have hdr:R.drop i = [R[i]'(by omega)]:=by rw [List.drop_eq_getElem_cons (by omega),List.drop_eq_nil_of_le (by omega)]
 rw [hdr] at hco;have hco2:jA fA (fun _=>true) R eE = some y:=by rw [← hco]; rfl
 rw [hco2] at hrf;dsimp only at hrf;have hltI:¬ (i:Int) + 1 < R.length:=by omega
 have hfy:dv y:=⟨by simp only [maxLen]; omega,by simp only [maxLen]; omega,by simp only [maxLen]; omega,by simp only [maxLen]; omega,by simp only [maxLen]; omega⟩;have hck:=fun σ=>kM y hfy σ;simp only [ab.v,ab.cells,df] at hck;by_cases hz:(cN aQ y).2.2 = 0;rotate_left
 ·rw [if_neg (by simp [hz])] at hrf;rw [hrf];refine aa _ ?_;simp [hltI,hwi2];refine ah.pure FK (hck _) ?_;simp [hz,hzv]
 have htx:=fun σ=>qE ((ib aQ y).1 hz) σ;simp only [ab.v,ab.cells] at htx;rw [hz] at hck;have hbt:bytes (dS y) = s ↔ dS y = aA s:=⟨fun h=>by rw [← h,bF],fun h=>data_inj (by rw [mM]; exact h)⟩;by_cases ht:dS y = aA s
 ·have hbe:=hbt.2 ht;rw [if_pos (by simp [hz,ht])] at hrf;rw [hrf];rw [hbe] at htx;refine aa _ ?_;simp [hltI,hwi2];refine ah.pure FK (hck _) ?_;simp;refine ah.pure Np (htx _) ?_;simp [ab.v,ab.cells]
 ·have hbe:¬ bytes (dS y) = s:=fun h=>ht (hbt.1 h);rw [if_neg (by simp [ht])] at hrf;rw [hrf];refine aa _ ?_;simp [hltI,hwi2];refine ah.pure FK (hck _) ?_;simp;refine ah.pure Np (htx _) ?_;simp [nmd,hbe,hzv]
set_option maxHeartbeats 4000000
theorem F3 (s:ByteArray):dv (ep s).1:=by
 by_cases h:(ep s).2 = 0
 ·obtain ⟨z,hz⟩:∃ z,ep s = (z,0):=⟨(ep s).1,by rw [← h]⟩;rw [hz]; exact Fg (Gv hz).1
 ·rw [Eh h];refine ⟨?_, ?_, ?_, ?_, ?_⟩ <;> simp [eE]
theorem va (y:ab) (hy:dv y) (s:ByteArray) (σ:af) :
  Spec Tryz.prog F_6 [y.v, .str s] σ fun r σ'=>r = .ret (.bool true) ∧ σ' = σ:=by
 refine Spec.aF (S_6 (by simp) (aa _ ?_)) (by simp [y.pure,aH,ag.pure]) rfl σ;have w1:=fun σ=>lX y hy σ;have w2:=fun σ=>wM y hy σ;have d1:=fun σ=>nE s σ;have d2:=fun σ=>ym s σ;have hsm:=fun σ=>qd (ep s).1 (F3 s) σ;obtain ⟨⟨t1,t2⟩,ht⟩:∃ t,mW y = t:=⟨_,rfl⟩;obtain ⟨⟨z,e⟩,hz⟩:∃ p,ep s = p:=⟨_,rfl⟩;rw [ht] at w1 w2;rw [hz] at d1 d2 hsm;obtain ⟨T,hT⟩:=zqq (bytes t1);simp only [ab.v,ab.cells,hT] at w1 w2 d1 d2 hsm;simp [C_6,ab.v,ab.cells];refine ah.pure Rf (w1 _) ?_;simp;refine ah.pure Tj (w2 _) ?_;simp;refine ah.pure OY (d1 _) ?_;simp;refine ah.pure TI (d2 _) ?_;simp;refine ah.pure Oy (hsm _) ?_;simp;refine ah.pure Dq (gM _) ?_;simp
end Go.AM
