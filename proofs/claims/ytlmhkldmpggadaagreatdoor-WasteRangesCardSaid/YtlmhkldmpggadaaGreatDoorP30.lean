/- The text of a yard of waste is short. Plain. Chapter 09: the text of a yard; Write: of the program. Chapter 09: Write: of the program. Chapter 09: reading words: of the program. Chapter 09: .. -/
import Derived.Test.YtlmhkldmpggadaaGreatDoorP20
import Derived.Test.YtlmhkldmpggadaaGreatDoorP29
namespace Go.AM
theorem zF:∀ (l:List WdW),(bB 32 l).length ≤ (l.map List.length).sum + l.length
 | []=>by simp [bB]
 | [p]=>by simp [bB]
 | p :: q :: r=>by
  have:=zF (q :: r);simp only [bB,List.length_append,List.length_cons,List.map_cons,List.sum_cons] at this ⊢;omega
theorem si (r:List WdW):(cy r).length ≤ (r.map List.length).sum + r.length + 1:=by
 have:=zF r;simp only [cy,List.length_append,List.length_singleton]; omega
theorem pK {α:Type} (f:α → WdW) {m:Nat}:∀ (l:List α),(∀ x ∈ l,(f x).length ≤ m) → (l.flatMap f).length ≤ m * l.length
 | [],_=>by simp
 | a :: l,h=>by
  have h1:=h a (by simp);have h2:=pK f l fun x hx=>h x (by simp [hx]);simp only [List.flatMap_cons,List.length_append,List.length_cons,Nat.mul_add];omega
theorem tZ {nm:ByteArray → Bool} (hw:kq nm):∀ l:List ByteArray,(∀ s ∈ l,nm s = true) → ((l.map dQ).map List.length).sum ≤ 16 * l.length
 | [],_=>by simp
 | a :: l,h=>by
  have h1:=(hw.byte a (h a (by simp))).2.2;have h2:=tZ hw l fun s hs=>h s (by simp [hs]);simp only [List.map_cons,List.sum_cons,List.length_cons] at h2 ⊢;omega
theorem zo {nm:ByteArray → Bool} (hw:kq nm) {y:ab} (h:bJ nm y):(dS y).length ≤ 4000:=by
 have na:∀ (l:List ByteArray),(∀ s ∈ l,nm s = true) → ∀ i:Int,0 ≤ i ∧ i < l.length → (nameAt l i).length ≤ 16:=fun l hl i hi=>by
  obtain ⟨hi',e⟩:=gD hi;rw [e]; exact (hw.byte _ (hl _ (List.getElem_mem hi'))).2.2
 have hcnt:∀ (w:WdW),w.length ≤ 5 → ∀ c,zX y c → (cy (aR w y c)).length ≤ 57:=fun w hwl c hc=>by
  have h3:=hc.lo;have h4:=hc.hi;unfold Big at h3 h4;have k1:=na y.kinds h.kinds.1 _ hc.kind;have k2:=na y.places h.places.1 _ hc.place;have k3:=oZ (n:=c.lo) h3.1 (k:=7) (by omega) (by omega);have k4:=oZ (n:=c.hi) h4.1 (k:=7) (by omega) (by omega);have:=si (aR w y c);simp only [aR,List.map_cons,List.map_nil,List.sum_cons,List.sum_nil,List.length_cons,List.length_nil] at this ⊢;omega
 have hpl:∀ a:Int, -1 ≤ a ∧ a < y.places.length → (iA y a).length ≤ 16:=fun a ha=>by
  unfold iA;split
  ·simp [bU]
  ·exact na y.places h.places.1 _ (by omega)
 have hpap:∀ p ∈ y.papers,(cy (bZ y p)).length ≤ 69:=fun p hp=>by
  obtain ⟨i,hi,rfl⟩:=List.getElem_of_mem hp;have hv:=h.papers i hi;have h4:=hv.kilos;unfold Big at h4;have hm:=h.m10;have k1:=na y.kinds h.kinds.1 _ hv.kind;have k2:=hpl _ hv.src;have k3:=hpl _ hv.dst;have k4:=oZ (n:=y.papers[i].kilos) h4.1 (k:=7) (by omega) (by omega);have k5:(if 0 ≤ y.papers[i].copy then Lib.itoa y.papers[i].copy else bU).length ≤ 1:=by
   split
   ·rename_i hc
    exact oZ hc (by omega) (by
     rcases hv.copy with e | ⟨_,e,_⟩
     ·omega
     ·omega)
   ·simp [bU]
  have:=si (bZ y y.papers[i]);simp only [bZ,List.map_cons,List.map_nil,List.sum_cons,List.sum_nil,List.length_cons,List.length_nil] at this ⊢;have e:dO.length = 5:=rfl;omega
 have f1:=pK (fun c=>cy (aR cd y c)) (m:=57) y.first fun c hc=>hcnt cd (by decide) c (h.first.1 c hc)
 have f2:=pK (fun p=>cy (bZ y p)) (m:=69) y.papers hpap;have f3:=pK (fun c=>cy (aR dC y c)) (m:=57) y.last fun c hc=>hcnt dC (by decide) c (h.last.1 c hc);have f4:=si (cT :: y.kinds.map dQ);have f5:=si (b6 :: y.places.map dQ);have s4:=tZ hw y.kinds h.kinds.1;have s5:=tZ hw y.places h.places.1;have e4:cT.length = 5:=rfl;have e5:b6.length = 6:=rfl;simp only [List.map_cons,List.sum_cons,List.length_cons,List.length_map] at f4 f5;have g1:=h.k4; have g2:=h.p4; have g3:=h.m10; have g4:=h.f8; have g5:=h.l8;unfold dS ql;simp only [List.flatMap_cons,List.flatMap_append,List.flatMap_map,List.length_append];omega
open Go.Proofs
set_option maxRecDepth 100000
set_option maxHeartbeats 1000000
def eA:ByteArray:=⟨#[107,105,110,100,115]⟩
def de:ByteArray:=⟨#[112,108,97,99,101,115]⟩
def bS:ByteArray:=⟨#[102,105,114,115,116]⟩
def bo:ByteArray:=⟨#[112,97,112,101,114]⟩
def dE:ByteArray:=⟨#[108,97,115,116]⟩
def vf (p:aj):ByteArray:=if 0 ≤ p.copy then bytes (Lib.itoa p.copy) else miS
def Au (y:ab) (p:aj):List ByteArray:=[bo,y.kinds.getD p.kind.toNat .empty,mb y p.src,mb y p.dst,bytes (Lib.itoa p.kilos),vf p]
theorem xj (y:ab) (p:aj):(Au y p).map aA = bZ y p:=by
 have e:aA (vf p) = if 0 ≤ p.copy then Lib.itoa p.copy else bU:=by
  unfold vf;split
  ·exact bF _
  ·rfl
 simp only [Au,bZ,List.map_cons,List.map_nil,bF,Hv,e];rfl
theorem jJ (ws:List ByteArray) (hws:ws.length ≤ 100) (hl:(cy (ws.map aA)).length ≤ 4001) (k:Nat) (bs:List UInt8) (hbs:bs.length ≤ 5000) (tl:af) :
  aE Tryz.prog (.func (.func 143) [] [.ptr 0 0]) [.slice 1 (ws.map .str)] (.bld k bs :: tl) fun r σ'=>r = .ret (.tup []) ∧ σ' = .bld (k + 1) (bs ++ cy (ws.map aA)) :: tl:=
 aE.func K8 (first:=[]) (nt ws hws (by simp only [cy,List.length_append] at hl; omega) 0 k bs (by omega) _ rfl)
theorem nL {nm:ByteArray → Bool} (hn:kq nm) {y:ab} (hv:bJ nm y) (σ:af):Spec Tryz.prog NH [y.v] σ fun r σ'=>r = .ret (.str (bytes (dS y))) ∧ σ' = σ:=by
 refine Spec.aF (TA (by simp) ?_) (by simp [y.pure,aH]) rfl σ;have htl:=zo hn hv;have hk4:=hv.k4;have hp4:=hv.p4;have hm10:=hv.m10;obtain ⟨R1,hR1⟩:∃ R,cy (cT :: y.kinds.map dQ) = R:=⟨_,rfl⟩;obtain ⟨R2,hR2⟩:∃ R,cy (b6 :: y.places.map dQ) = R:=⟨_,rfl⟩;obtain ⟨R3,hR3⟩:∃ R,(y.first.flatMap fun c=>cy (aR cd y c)) = R:=⟨_,rfl⟩;obtain ⟨R4,hR4⟩:∃ R,(y.papers.flatMap fun p=>cy (bZ y p)) = R:=⟨_,rfl⟩;obtain ⟨R5,hR5⟩:∃ R,(y.last.flatMap fun c=>cy (aR dC y c)) = R:=⟨_,rfl⟩;have hT:dS y = R1 ++ (R2 ++ (R3 ++ (R4 ++ R5))):=by
  rw [← hR1, ← hR2, ← hR3, ← hR4, ← hR5];unfold dS ql;simp [List.flatMap_append,List.flatMap_map]
 have hlen:R1.length + (R2.length + (R3.length + (R4.length + R5.length))) ≤ 4000:=by
  rw [hT] at htl; simpa using htl
 have e1:(eA :: y.kinds).map aA = cT :: y.kinds.map dQ:=rfl;have e2:(de :: y.places).map aA = b6 :: y.places.map dQ:=rfl;have c1:=fun k bs hbs tl=>jJ (eA :: y.kinds) (by simp; omega) (by rw [e1,hR1]; omega) k bs hbs tl;have c2:=fun k bs hbs tl=>jJ (de :: y.places) (by simp; omega) (by rw [e2,hR2]; omega) k bs hbs tl;rw [e1,hR1] at c1;rw [e2,hR2] at c2;simp only [List.map_cons] at c1 c2;have cnt:=fun (w:ByteArray) (cs:List ay) (hcl:cs.length ≤ 8) (hc:∀ c ∈ cs,zX y c) (hlen:(cs.flatMap fun c=>cy (aR (aA w) y c)).length ≤ 5000) k bs hbs tl=>
  aE.func RX (first:=[]) (caps:=[.pval (.func (.func 143) [] [.ptr 0 0]), .pval y.v]) (args:=[.str w, .slice 4 (cs.map ay.v)])
   (sZ y w cs (by omega) (fun c hm=>⟨(hc c hm).kind,(hc c hm).place,(hc c hm).lo,(hc c hm).hi⟩) hlen 0 k bs hbs (.bld k bs :: tl) rfl)
 have c3:=cnt bS y.first hv.f8 hv.first.1 (by show (y.first.flatMap fun c=>cy (aR cd y c)).length ≤ 5000; rw [hR3]; omega)
 have c5:=cnt dE y.last hv.l8 hv.last.1 (by show (y.last.flatMap fun c=>cy (aR dC y c)).length ≤ 5000; rw [hR5]; omega);have hfk:=vA y.kinds;have hfp:=vA y.places;rw [show aA bS = cd from rfl,hR3] at c3;rw [show aA dE = dC from rfl,hR5] at c5;simp only [ab.v,ab.cells] at c3 c5;rw [hT];refine aa _ ?_;simp [Qn,ab.v,ab.cells,hfk];refine ⟨by omega,ah.fO (c1 _ _ (by simp) _) ?_⟩;rintro r σ' ⟨rfl,rfl⟩;refine ⟨_,rfl, ?_⟩;simp [hfp];refine ⟨by omega,ah.fO (c2 _ _ (by omega) _) ?_⟩;rintro r σ' ⟨rfl,rfl⟩;refine ⟨_,rfl, ?_⟩;simp;refine ah.fO (c3 _ _ (by simp; omega) _) ?_;rintro r σ' ⟨rfl,k,tl,rfl⟩;refine ⟨_,rfl, ?_⟩;simp;obtain ⟨BB,hBB⟩:=zqq (R1 ++ (R2 ++ R3));have hBl:BB.length + R4.length + R5.length ≤ 4000:=by rw [← hBB]; simp; omega
 have hTT:R1 ++ (R2 ++ (R3 ++ (R4 ++ R5))) = BB ++ R4 ++ R5:=by rw [← hBB]; simp
 rw [hBB,hTT];have c4:=fun (p:aj) (hp:(cy (bZ y p)).length ≤ 4001) k bs hbs tl=>jJ (Au y p) (by simp [Au]) (by rw [xj]; exact hp) k bs hbs tl;simp only [xj] at c4;refine AW.loop (ι:=Nat) (fun i fr σ'=>∃ (k:Nat) (tl:af),fr = { v:=[(1, .pval y.v),(3, .ptr 0 0),(4, .pval (.func (.func 143) [] [.ptr 0 0])),(5, .func (.func 146) [] [.pval (.func (.func 143) [] [.ptr 0 0]), .pval y.v]),(6, .func (.func 148) [] [.pval y.v]),(34, .slice 5 (y.papers.map aj.v)),(35, .int .i64 y.papers.length),(36, .int .i64 i)],ds:=[] } ∧ σ' = .bld k (BB ++ (y.papers.take i).flatMap fun p=>cy (bZ y p)) :: tl ∧ i ≤ y.papers.length) (fun i=>y.papers.length - i) 0 ⟨k,_,by simp [ab.v,ab.cells],by simp; rfl,by omega⟩ ?_;clear tl k;rintro i fr σ' ⟨k,tl,rfl,rfl,hi⟩;refine (Nat.lt_or_ge i y.papers.length).elim (fun hlt=>?_) (fun hge=>?_);rotate_left
 ·obtain rfl:i = y.papers.length:=by omega
  rw [List.take_length,hR4];refine aa _ ?_;simp [ab.v,ab.cells];refine ah.fO (c5 _ _ (by simp; omega) _) ?_;rintro r σ' ⟨rfl,k',tl',rfl⟩;refine ⟨_,rfl, ?_⟩;simp;refine ah.spec OB (xu 0 k' _ _ rfl) ?_;rintro r σ' ⟨rfl,rfl⟩;refine ⟨_,rfl, ?_⟩;simp [bytes]
 have hltI:(i:Int) < y.papers.length:=by omega
 have hwi:IntKind.i64.wrap ((i:Int) + 1) = ((i + 1:Nat):Int):=by rw [aq (by omega) (by omega)]; simp
 have hpv:=hv.papers i hlt;obtain ⟨p,hx⟩:=zqq (y.papers[i]);have hpm:p ∈ y.papers:=hx ▸ List.getElem_mem _;rw [hx] at hpv;have hfl:=lB (fun p=>cy (bZ y p)) hlt;rw [hx] at hfl;have hrow:=jY (fun p=>cy (bZ y p)) hpm;have hpre:((y.papers.take i).flatMap fun p=>cy (bZ y p)).length ≤ R4.length:=by
  rw [← hR4]
  conv=>rhs; rw [← List.take_append_drop i y.papers,List.flatMap_append,List.length_append]
  omega
 rw [hR4] at hrow;obtain ⟨S,hS⟩:=zqq (((y.papers.take i).flatMap fun p=>cy (bZ y p)));rw [hS] at hfl hpre ⊢;have hli:=fun tl=>c4 p (by omega) k (BB ++ S) (by simp; omega) tl;rw [List.append_assoc, ← hfl] at hli;have hkb:=hpv.kilos;unfold Big at hkb;have i1:=fun σ=>pJ p.kilos (by omega) (by omega) σ;have t1:=fun σ=>aE.func Mb (first:=[]) (caps:=[.pval y.v]) (args:=[ii' p.src]) (lu y p.src hpv.src σ);have t2:=fun σ=>aE.func Mb (first:=[]) (caps:=[.pval y.v]) (args:=[ii' p.dst]) (lu y p.dst hpv.dst σ);simp only [ab.v,ab.cells] at t1 t2;obtain ⟨K,hK⟩:∃ K:Nat,p.kind = K:=⟨p.kind.toNat,by have:=hpv.kind; omega⟩;have hK1:K < y.kinds.length:=by have:=hpv.kind; omega
 have hKI:(K:Int) < y.kinds.length:=by omega
 by_cases hcp:0 ≤ p.copy
 ·have hps:Au y p = [bo,y.kinds[K],mb y p.src,mb y p.dst,bytes (Lib.itoa p.kilos),bytes (Lib.itoa p.copy)]:=by
   simp only [Au,vf,hK,if_pos hcp,Int.toNat_natCast,List.getD,List.getElem?_eq_getElem hK1,Option.getD_some]
  rw [hps] at hli;simp only [List.map_cons,List.map_nil] at hli;have hcb:p.copy < 10:=by
   rcases hpv.copy with e | ⟨_,e,_⟩ <;> omega
  have i2:=fun σ=>pJ p.copy (by omega) (by omega) σ;refine aa _ ?_;simp [hlt,hltI,hx,aj.v,aj.cells,ab.v,ab.cells,hK,hK1,hKI,hcp];refine ah.pure BI (i2 _) ?_;simp [hlt,hltI,hx,aj.v,aj.cells,ab.v,ab.cells,hK,hK1,hKI,hcp];refine ⟨[.str (mb y p.src), .str (mb y p.dst), .str (bytes (Lib.itoa p.kilos))],⟨ah.of (t1 _) ?_,ah.of (t2 _) ?_,ah.pure BI (i1 _) ?_⟩, ?_⟩
  ·simp
  ·simp
  ·simp
  simp;refine ⟨[],ah.fO (hli _) ?_⟩;rintro r σ' ⟨rfl,rfl⟩;refine ⟨_,rfl, ?_⟩;simp [hwi];exact ⟨i + 1,by omega,by simp,rfl,by omega⟩
 ·have hps:Au y p = [bo,y.kinds[K],mb y p.src,mb y p.dst,bytes (Lib.itoa p.kilos),miS]:=by
   simp only [Au,vf,hK,if_neg hcp,Int.toNat_natCast,List.getD,List.getElem?_eq_getElem hK1,Option.getD_some]
  rw [hps] at hli;simp only [List.map_cons,List.map_nil] at hli;refine aa _ ?_;simp [hlt,hltI,hx,aj.v,aj.cells,ab.v,ab.cells,hK,hK1,hKI,hcp];refine ⟨[.str (mb y p.src), .str (mb y p.dst), .str (bytes (Lib.itoa p.kilos))],⟨ah.of (t1 _) ?_,ah.of (t2 _) ?_,ah.pure BI (i1 _) ?_⟩, ?_⟩
  ·simp
  ·simp
  ·simp
  simp;refine ⟨[],ah.fO (hli _) ?_⟩;rintro r σ' ⟨rfl,rfl⟩;refine ⟨_,rfl, ?_⟩;simp [hwi];exact ⟨i + 1,by omega,by simp,rfl,by omega⟩
theorem zb (s:ByteArray):∀ n i,jQ s i n = true ↔ ∀ j,i ≤ j → j < i + n → pY s j = true
 | 0,i=>by simp [jQ]; omega
 | n + 1,i=>by
  simp only [jQ,Bool.and_eq_true,zb s n (i + 1)];constructor
  ·rintro ⟨h1,h2⟩ j hj hj2;rcases Nat.eq_or_lt_of_le hj with e | e
   ·exact e ▸ h1
   ·exact h2 j (by omega) (by omega)
  ·intro h;exact ⟨h i (by omega) (by omega),fun j hj hj2=>h j (by omega) (by omega)⟩
theorem rk:kq aQ:=⟨fun s hs=>by
 unfold aQ at hs;simp only [Bool.and_eq_true,decide_eq_true_eq] at hs;obtain ⟨⟨h1,h2⟩,h3⟩:=hs;have hl:(dQ s).length = s.size:=by simp [dQ]
 refine ⟨fun c hc=>?_,fun e=>by rw [e] at hl; simp at hl; omega,by omega⟩;obtain ⟨j,hj,rfl⟩:=List.mem_iff_getElem.1 hc;have:=(zb s s.size 0).1 h3 j (by omega) (by omega);have hj':j < s.data.size:=by simpa [dQ] using hj
 have e:ox s j = (dQ s)[j].toNat:=by
  unfold ox dQ;rw [Array.getElem?_eq_getElem hj'];simp
 unfold pY letterF rJ at this;simp only [Bool.or_eq_true,Bool.and_eq_true,decide_eq_true_eq] at this;have h48:48 ≤ ox s j:=by omega
 exact Nat.le_trans h48 (Nat.le_of_eq e)⟩
def mW (y:ab):WdW × Int:=if (cN aQ y).2.2 ≠ 0 then ([],(cN aQ y).2.2) else (dS y,0)
theorem lX (y:ab) (hy:dv y) (σ:af):Spec Tryz.prog J2 [y.v] σ fun r σ'=>r = .ret (.tup [.str (bytes (mW y).1),ii' (mW y).2]) ∧ σ' = σ:=by
 refine Spec.aF (T6 (by simp) ?_) (by simp [y.pure,aH]) (by simp [ag.pure,aH]) σ;have hc:=fun σ=>iR y hy σ;unfold mW;simp only [ab.v,ab.cells,df] at hc;by_cases h0:(cN aQ y).2.2 = 0;rotate_left
 ·rw [if_pos h0];refine aa _ ?_;simp [Nl,ab.v,ab.cells];refine ah.pure Dr (hc _) ?_;simp [h0,bytes]
 rw [if_neg (by simp [h0])];have hv:=(ib aQ y).1 h0;have ht:=fun σ=>nL rk hv σ;simp only [ab.v,ab.cells] at ht;rw [h0] at hc;refine aa _ ?_;simp [Nl,ab.v,ab.cells];refine ah.pure Dr (hc _) ?_;simp;refine ah.pure Oe (ht _) ?_;simp
def lE:ag:=.iface 30 (ii' 6)
def fp (o:Option ag):fq:=match o with
 | some v=>.ret v
 | none=>.pan lE
theorem aU (σ:af):Spec Tryz.prog Fe [.bool true] σ fun r σ'=>r = .ret (.tup []) ∧ σ' = σ:=by
 refine Mc (by simp) (aa _ ?_);simp [Jh]
theorem b7 (σ:af):Spec Tryz.prog Fe [.bool false] σ fun r σ'=>r = .pan lE ∧ σ' = σ:=by
 refine Mc (by simp) (aa _ ?_);simp [Jh,lE]
theorem du (s:ByteArray) (hs:s.size ≤ 100000) (minus:Bool) (σ:af) :
  Spec Tryz.prog Io [.str s, .bool minus] σ fun r σ'=>r = fp ((lD (aA s) minus).map ii') ∧ σ' = σ:=by
 obtain ⟨te,ha⟩:=GU s (by omega) σ;refine Q6 (by simp) ?_;have htl:s.toList = [45] ↔ aA s = bU:=by rw [toList_data]; rfl
 by_cases hm:minus = true ∧ aA s = bU
 ·have hh:lD (aA s) minus = some (-1):=by unfold lD; rw [if_pos hm]
  rw [hh,hm.1];have h1:=htl.2 hm.2;refine aa _ ?_;simp [um,h1,fp]
 have hms:minus = false ∨ ¬ s.toList = [45]:=by
  cases minus with
  | false=>exact .inl rfl
  | true=>exact .inr fun h=>hm ⟨rfl,htl.1 h⟩
 cases hq:Lib.atoiAll s.data.toList with
 | ok v=>
  have hv:wj s te = .tup [ii' v, .niliface]:=by unfold wj; rw [hq]
  rw [hv] at ha;have hq':Lib.atoiAll (aA s) = .ok v:=hq;have hh:lD (aA s) minus = if 0 ≤ v then some v else none:=by unfold lD; rw [if_neg hm,hq']
  rw [hh];by_cases h0:0 ≤ v
  ·rw [if_pos h0];rcases hms with e | e
   ·subst e;refine aa _ ?_;simp [um];refine ah.pure zG ha ?_;simp [h0];refine ah.pure dT (aU _) ?_;simp [fp]
   ·refine aa _ ?_;simp [um,e];refine ah.pure zG ha ?_;simp [h0];refine ah.pure dT (aU _) ?_;simp [fp]
  ·rw [if_neg h0];rcases hms with e | e
   ·subst e;refine aa _ ?_;simp [um];refine ah.pure zG ha ?_;simp [h0];refine ah.pan dT (b7 _) ?_;rintro σ' rfl;simp [fp]
   ·refine aa _ ?_;simp [um,e];refine ah.pure zG ha ?_;simp [h0];refine ah.pan dT (b7 _) ?_;rintro σ' rfl;simp [fp]
 | _=>
  obtain ⟨z,hv⟩:∃ z,wj s te = .tup [ii' z, .iface te .undef]:=by unfold wj; rw [hq]; exact ⟨_,rfl⟩
  rw [hv] at ha;have e:Lib.atoiAll (aA s) = Lib.atoiAll s.data.toList:=rfl;have hno:lD (aA s) minus = none:=by unfold lD; rw [if_neg hm,e,hq]
  rw [hno];rcases hms with e | e
  ·subst e;refine aa _ ?_;simp [um];refine ah.pure zG ha ?_;simp;refine ah.pan dT (b7 _) ?_;rintro σ' rfl;simp [fp]
  ·refine aa _ ?_;simp [um,e];refine ah.pure zG ha ?_;simp;refine ah.pan dT (b7 _) ?_;rintro σ' rfl;simp [fp]
theorem Fu (s:ByteArray):∀ (l:List ByteArray) (k:Nat),gP (fun y=>s.toList == y.toList) l k = match l.findIdx? fun x=>decide (dQ x = aA s) with
  | some i=>((k + i:Nat):Int)
  | none=>-1
 | [],k=>by simp [gP]
 | a :: r,k=>by
  have ih:=Fu s r (k + 1);have he:(s.toList == a.toList) = decide (dQ a = aA s):=by
   rw [toList_data,toList_data,Bool.eq_iff_iff];rw [beq_iff_eq,decide_eq_true_eq];exact ⟨fun h=>h.symm,fun h=>h.symm⟩
  simp only [gP,List.findIdx?_cons,he];by_cases h:dQ a = aA s
  ·simp [h]
  ·rw [if_neg (by simp [h])];simp only [h,decide_false];rw [ih]
   cases r.findIdx? fun x=>decide (dQ x = aA s) with
   | none=>rfl
   | some i=>
    have e:k + 1 + i = k + (i + 1):=by omega
    show ((k + 1 + i:Nat):Int) = ((k + (i + 1):Nat):Int);rw [e]
theorem cH (l:List ByteArray) (hl:l.length ≤ maxLen) (s:ByteArray) (minus:Bool) (σ:af) :
  Spec Tryz.prog HW [.slice 1 (l.map .str), .str s, .bool minus] σ fun r σ'=>r = fp ((kU l (aA s) minus).map ii') ∧ σ' = σ:=by
 have hix:=fun σ=>iI l s hl σ;have htl:s.toList = [45] ↔ aA s = bU:=by rw [toList_data]; rfl
 rw [Fu] at hix;refine OK (by simp) ?_
 cases hq:l.findIdx? fun x=>decide (dQ x = aA s) with
 | some i=>
  have hh:kU l (aA s) minus = some (i:Int):=by unfold kU vh; rw [hq]
  rw [hq] at hix;rw [hh];refine aa _ ?_;simp [BA];refine ah.pure BJ (hix _) ?_;simp;refine ah.pure dT (aU _) ?_;simp [fp]
 | none=>
  have hh:kU l (aA s) minus = if minus = true ∧ aA s = bU then some (-1) else none:=by unfold kU vh; rw [hq]
  rw [hq] at hix;rw [hh];by_cases hm:minus = true ∧ aA s = bU
  ·rw [if_pos hm,hm.1];have h1:=htl.2 hm.2;refine aa _ ?_;simp [BA];refine ah.pure BJ (hix _) ?_;simp [h1];refine ah.pure dT (aU _) ?_;simp [fp]
  ·rw [if_neg hm]
   cases minus with
   | false=>
    refine aa _ ?_;simp [BA];refine ah.pure BJ (hix _) ?_;simp;refine ah.pan dT (b7 _) ?_;rintro σ' rfl;simp [fp]
   | true=>
    have h1:¬ s.toList = [45]:=fun h=>hm ⟨rfl,htl.1 h⟩;refine aa _ ?_;simp [BA];refine ah.pure BJ (hix _) ?_;have hbq:(s.toList == [45]) = false:=by simpa using h1
    simp [hbq];refine ah.pan dT (b7 _) ?_;rintro σ' rfl;simp [fp]
theorem sR (y:ab) (hk:y.kinds.length ≤ maxLen) (hp:y.places.length ≤ maxLen) (X Y Z:ag) (b:Nat) (σ:af) (hb:σ[b]? = some (.box [.slice 1 (y.kinds.map .str), .slice 1 (y.places.map .str),X,Y,Z])) (w0 w1 w2 w3 w4:ByteArray) (h3:w3.size ≤ 100000) (h4:w4.size ≤ 100000) :
  Spec Tryz.prog EP [.pval (.slice 1 [.str w0, .str w1, .str w2, .str w3, .str w4]), .pval (.ptr b 0)] σ fun r σ'=>r = fp ((iP y [aA w0,aA w1,aA w2,aA w3,aA w4]).map ay.v) ∧ ∃ tl,σ' = σ ++ tl:=by
 refine LN (by simp) ?_;have i1:=fun σ=>cH y.kinds hk w1 false σ;have i2:=fun σ=>cH y.places hp w2 false σ;have n3:=fun σ=>du w3 h3 false σ;have n4:=fun σ=>du w4 h4 false σ;have hbl:=(List.getElem?_eq_some_iff.1 hb).1;have gb:∀ l:af,(σ ++ l)[b]? = some (.box [.slice 1 (y.kinds.map .str), .slice 1 (y.places.map .str),X,Y,Z]):=fun l=>by rw [List.getElem?_append_left hbl]; exact hb
 cases e0:kU y.kinds (aA w1) false with
 | none=>
  rw [e0] at i1;have hc:iP y [aA w0,aA w1,aA w2,aA w3,aA w4] = none:=by simp only [iP,e0]
  rw [hc];refine aa _ ?_;simp [xw];refine ah.pure dT (aU _) ?_;simp [gb];refine ⟨[],ah.pan fo (v:=lE) (Q:=fun σ'=>σ' = _) (i1 _) ?_⟩;rintro σ' rfl;simp [fp]
 | some v0=>
 rw [e0] at i1;simp only [Option.map_some,fp] at i1
 cases e1:kU y.places (aA w2) false with
 | none=>
  rw [e1] at i2;have hc:iP y [aA w0,aA w1,aA w2,aA w3,aA w4] = none:=by simp only [iP,e0,e1]
  rw [hc];refine aa _ ?_;simp [xw];refine ah.pure dT (aU _) ?_;simp [gb];refine ⟨[],ah.pure fo (i1 _) ?_⟩;simp [gb];refine ⟨[],ah.pan fo (v:=lE) (Q:=fun σ'=>σ' = _) (i2 _) ?_⟩;rintro σ' rfl;simp [fp]
 | some v1=>
 rw [e1] at i2;simp only [Option.map_some,fp] at i2
 cases e2:lD (aA w3) false with
 | none=>
  rw [e2] at n3;have hc:iP y [aA w0,aA w1,aA w2,aA w3,aA w4] = none:=by simp only [iP,e0,e1,e2]
  rw [hc];refine aa _ ?_;simp [xw];refine ah.pure dT (aU _) ?_;simp [gb];refine ⟨[],ah.pure fo (i1 _) ?_⟩;simp [gb];refine ⟨[],ah.pure fo (i2 _) ?_⟩;simp [gb];refine ⟨[],ah.pan qz (v:=lE) (Q:=fun σ'=>σ' = _) (n3 _) ?_⟩;rintro σ' rfl;simp [fp]
 | some v2=>
 rw [e2] at n3;simp only [Option.map_some,fp] at n3
 cases e3:lD (aA w4) false with
 | none=>
  rw [e3] at n4;have hc:iP y [aA w0,aA w1,aA w2,aA w3,aA w4] = none:=by simp only [iP,e0,e1,e2,e3]
  rw [hc];refine aa _ ?_;simp [xw];refine ah.pure dT (aU _) ?_;simp [gb];refine ⟨[],ah.pure fo (i1 _) ?_⟩;simp [gb];refine ⟨[],ah.pure fo (i2 _) ?_⟩;simp [gb];refine ⟨[],ah.pure qz (n3 _) ?_⟩;simp [gb];refine ⟨[],ah.pan qz (v:=lE) (Q:=fun σ'=>σ' = _) (n4 _) ?_⟩;rintro σ' rfl;simp [fp]
 | some v3=>
 rw [e3] at n4;simp only [Option.map_some,fp] at n4;have hc:iP y [aA w0,aA w1,aA w2,aA w3,aA w4] = some ⟨v0,v1,v2,v3⟩:=by simp only [iP,e0,e1,e2,e3]
 rw [hc];refine aa _ ?_;simp [xw];refine ah.pure dT (aU _) ?_;simp [gb];refine ⟨[],ah.pure fo (i1 _) ?_⟩;simp [gb];refine ⟨[],ah.pure fo (i2 _) ?_⟩;simp [gb];refine ⟨[],ah.pure qz (n3 _) ?_⟩;simp [gb];refine ⟨[],ah.pure qz (n4 _) ?_⟩;simp [gb];rfl
theorem IS (y:ab):∀ l:List WdW,l.length ≠ 5 → iP y l = none
 | [],_=>rfl
 | [_],_=>rfl
 | [_,_],_=>rfl
 | [_,_,_],_=>rfl
 | [_,_,_,_],_=>rfl
 | [_,_,_,_,_],h=>absurd rfl h
 | _ :: _ :: _ :: _ :: _ :: _ :: _,_=>rfl
theorem ff (y:ab) (hk:y.kinds.length ≤ maxLen) (hp:y.places.length ≤ maxLen) (X Y Z:ag) (b:Nat) (σ:af) (hb:σ[b]? = some (.box [.slice 1 (y.kinds.map .str), .slice 1 (y.places.map .str),X,Y,Z])) (ws:List ByteArray) (hw:∀ w ∈ ws,w.size ≤ 100000) :
  Spec Tryz.prog EP [.pval (.slice 1 (ws.map .str)), .pval (.ptr b 0)] σ fun r σ'=>r = fp ((iP y (ws.map aA)).map ay.v) ∧ ∃ tl,σ' = σ ++ tl:=by
 by_cases h5:ws.length = 5
 ·match ws,h5,hw with
  | [w0,w1,w2,w3,w4],_,hw=>exact sR y hk hp X Y Z b σ hb w0 w1 w2 w3 w4 (hw w3 (by simp)) (hw w4 (by simp))
 ·have hc:=IS y (ws.map aA) (by simpa using h5);rw [hc];have h5I:¬ (ws.length:Int) = 5:=by omega
  have hbq:((ws.length:Int) == 5) = false:=by simpa using h5I
  refine LN (by simp) ?_;refine aa _ ?_;simp [xw,hbq];refine ah.pan dT (b7 _) ?_;rintro σ' rfl;simp [fp]
structure qh (σ:af) (b b1 b2 b3:Nat) (y:ab) (q1 q2 q3:Nat):Prop where
 box:σ[b]? = some (.box [.slice 1 (y.kinds.map .str), .slice 1 (y.places.map .str), .oslice 4 (y.first.map ay.v) b1 q1, .oslice 5 (y.papers.map aj.v) b2 q2, .oslice 4 (y.last.map ay.v) b3 q3])
 s1:σ[b1]? = some (.spare 4 q1)
 s2:σ[b2]? = some (.spare 5 q2)
 s3:σ[b3]? = some (.spare 4 q3)
 n12:b1 ≠ b2
 n13:b1 ≠ b3
 n23:b2 ≠ b3
theorem tV (y:ab) (b b1 b2 b3 q1 q2 q3:Nat) (σ:af) (h:qh σ b b1 b2 b3 y q1 q2 q3) (ws:List ByteArray) :
  Spec Tryz.prog lY [.ptr b 0, .slice 1 ((eA :: ws).map .str)] σ fun r σ'=>r = .ret (.tup []) ∧ ∃ tl,σ' = σ.set b (.box [.slice 1 (ws.map .str), .slice 1 (y.places.map .str), .oslice 4 (y.first.map ay.v) b1 q1, .oslice 5 (y.papers.map aj.v) b2 q2, .oslice 4 (y.last.map ay.v) b3 q3]) ++ tl:=by
 refine qg (by simp) ?_;have hb:=h.box;have hkk:(eA.toList == [107,105,110,100,115]) = true:=by rw [toList_data]; rfl
 refine aa _ ?_;simp [kK,hb,hkk];have htk:List.take ws.length (List.map ag.str ws) = List.map ag.str ws:=List.take_of_length_le (by simp);exact ⟨by omega,[],by rw [htk]; simp⟩
theorem sF (y:ab) (b b1 b2 b3 q1 q2 q3:Nat) (σ:af) (h:qh σ b b1 b2 b3 y q1 q2 q3) (ws:List ByteArray) :
  Spec Tryz.prog lY [.ptr b 0, .slice 1 ((de :: ws).map .str)] σ fun r σ'=>r = .ret (.tup []) ∧ ∃ tl,σ' = σ.set b (.box [.slice 1 (y.kinds.map .str), .slice 1 (ws.map .str), .oslice 4 (y.first.map ay.v) b1 q1, .oslice 5 (y.papers.map aj.v) b2 q2, .oslice 4 (y.last.map ay.v) b3 q3]) ++ tl:=by
 refine qg (by simp) ?_;have hb:=h.box;have h1:(de.toList == [107,105,110,100,115]) = false:=by rw [toList_data]; rfl
 have h2:(de.toList == [112,108,97,99,101,115]) = true:=by rw [toList_data]; rfl
 refine aa _ ?_;simp [kK,hb,h1,h2];have htk:List.take ws.length (List.map ag.str ws) = List.map ag.str ws:=List.take_of_length_le (by simp);exact ⟨by omega,[],by rw [htk]; simp⟩
theorem ah.OI {P:Program} {fv:ag} {args:List ag} {σ:af} {v:ag} {Q:af → Prop} {K Kp:ag → af → Prop} (hs:aE P fv args σ fun r σ'=>r = .pan v ∧ Q σ') (hp:∀ σ',Q σ' → Kp v σ'):@ah P fv args σ ⟨K⟩ ⟨Kp⟩:=
 hs.mono fun r σ' hq=>by obtain ⟨rfl,hq⟩:=hq; exact hp σ' hq
theorem p0 (y:ab) (hk:y.kinds.length ≤ maxLen) (hp:y.places.length ≤ maxLen) (b b1 b2 b3 q1 q2 q3:Nat) (σ:af) (h:qh σ b b1 b2 b3 y q1 q2 q3) (ws:List ByteArray) (hw:∀ w ∈ bS :: ws,w.size ≤ 100000) (hc:iP y ((bS :: ws).map aA) = none) :
  Spec Tryz.prog lY [.ptr b 0, .slice 1 ((bS :: ws).map .str)] σ fun r σ'=>r = .pan lE ∧ ∃ tl,σ' = σ ++ tl:=by
 refine qg (by simp) ?_;have hb:=h.box;have hr:=ff y hk hp _ _ _ b σ hb (bS :: ws) hw;rw [hc] at hr;simp only [List.map_cons] at hr;have h1:(bS.toList == [107,105,110,100,115]) = false:=by rw [toList_data]; rfl
 have h2:(bS.toList == [112,108,97,99,101,115]) = false:=by rw [toList_data]; rfl
 have h3:(bS.toList == [102,105,114,115,116]) = true:=by rw [toList_data]; rfl
 refine aa _ ?_;simp [kK,hb,h1,h2,h3];refine ⟨[],ah.OI (aE.func EO (first:=[]) (caps:=[.pval (.slice 1 (.str bS :: ws.map .str)), .pval (.ptr b 0)]) (args:=[]) hr) ?_⟩;rintro σ' ⟨tl,rfl⟩;simp
theorem CK (c:ay):Fits 4 [ag.agg [ii' c.kind,ii' c.place,ii' c.lo,ii' c.hi]]:=fun v hv=>by
 simp at hv; subst hv; exact ⟨rfl,rfl⟩
theorem nY (y:ab) (hk:y.kinds.length ≤ maxLen) (hp:y.places.length ≤ maxLen) (hf:y.first.length ≤ 100000) (b b1 b2 b3 q1 q2 q3:Nat) (σ:af) (h:qh σ b b1 b2 b3 y q1 q2 q3) (ws:List ByteArray) (hw:∀ w ∈ bS :: ws,w.size ≤ 100000) {c:ay} (hc:iP y ((bS :: ws).map aA) = some c) :
  Spec Tryz.prog lY [.ptr b 0, .slice 1 ((bS :: ws).map .str)] σ fun r σ'=>r = .ret (.tup []) ∧ ∃ tl,σ' = (σ.set b1 (.spare 4 (q1 + 1))).set b (.box [.slice 1 (y.kinds.map .str), .slice 1 (y.places.map .str), .oslice 4 ((y.first ++ [c]).map ay.v) b1 (q1 + 1), .oslice 5 (y.papers.map aj.v) b2 q2, .oslice 4 (y.last.map ay.v) b3 q3]) ++ tl:=by
 refine qg (by simp) ?_;have hb:=h.box;have hs1:=h.s1;have hbl:=(List.getElem?_eq_some_iff.1 hb).1;have hsl:=(List.getElem?_eq_some_iff.1 hs1).1;have hne:b1 ≠ b:=fun e=>by rw [e,hb] at hs1; cases hs1
 have gb:∀ l:af,(σ ++ l)[b]? = some (.box [.slice 1 (y.kinds.map .str), .slice 1 (y.places.map .str), .oslice 4 (y.first.map ay.v) b1 q1, .oslice 5 (y.papers.map aj.v) b2 q2, .oslice 4 (y.last.map ay.v) b3 q3]):=fun l=>by rw [List.getElem?_append_left hbl]; exact hb
 have g1:∀ l:af,(σ ++ l)[b1]? = some (.spare 4 q1):=fun l=>by rw [List.getElem?_append_left hsl]; exact hs1
 have st1:∀ (l:af) (o:cq),(σ ++ l).set b1 o = σ.set b1 o ++ l:=fun l o=>List.set_append_left _ _ hsl;have gb2:∀ (l:af) (o:cq),(σ.set b1 o ++ l)[b]? = some (.box [.slice 1 (y.kinds.map .str), .slice 1 (y.places.map .str), .oslice 4 (y.first.map ay.v) b1 q1, .oslice 5 (y.papers.map aj.v) b2 q2, .oslice 4 (y.last.map ay.v) b3 q3]):=fun l o=>by
  rw [List.getElem?_append_left (by rw [List.length_set]; exact hbl),List.getElem?_set_ne hne]; exact hb
 have st2:∀ (l:af) (o x:cq),(σ.set b1 o ++ l).set b x = (σ.set b1 o).set b x ++ l:=fun l o x=>List.set_append_left _ _ (by rw [List.length_set]; exact hbl);have hr:=ff y hk hp _ _ _ b σ hb (bS :: ws) hw;rw [hc] at hr;simp only [List.map_cons,Option.map_some,fp] at hr;have h1:(bS.toList == [107,105,110,100,115]) = false:=by rw [toList_data]; rfl
 have h2:(bS.toList == [112,108,97,99,101,115]) = false:=by rw [toList_data]; rfl
 have h3:(bS.toList == [102,105,114,115,116]) = true:=by rw [toList_data]; rfl
 refine aa _ ?_;simp [kK,hb,h1,h2,h3];refine ⟨[],ah.fO (aE.func EO (first:=[]) (caps:=[.pval (.slice 1 (.str bS :: ws.map .str)), .pval (.ptr b 0)]) (args:=[]) hr) ?_⟩;rintro r σ' ⟨rfl,tl,rfl⟩;refine ⟨_,rfl, ?_⟩;simp [hb,gb,g1,st1,gb2,st2,ay.v,ay.cells,CK];omega
theorem qZ (y:ab) (hk:y.kinds.length ≤ maxLen) (hp:y.places.length ≤ maxLen) (b b1 b2 b3 q1 q2 q3:Nat) (σ:af) (h:qh σ b b1 b2 b3 y q1 q2 q3) (ws:List ByteArray) (hw:∀ w ∈ dE :: ws,w.size ≤ 100000) (hc:iP y ((dE :: ws).map aA) = none) :
  Spec Tryz.prog lY [.ptr b 0, .slice 1 ((dE :: ws).map .str)] σ fun r σ'=>r = .pan lE ∧ ∃ tl,σ' = σ ++ tl:=by
 refine qg (by simp) ?_;have hb:=h.box;have hr:=ff y hk hp _ _ _ b σ hb (dE :: ws) hw;rw [hc] at hr;simp only [List.map_cons] at hr;have h1:(dE.toList == [107,105,110,100,115]) = false:=by rw [toList_data]; rfl
 have h2:(dE.toList == [112,108,97,99,101,115]) = false:=by rw [toList_data]; rfl
 have h3:(dE.toList == [102,105,114,115,116]) = false:=by rw [toList_data]; rfl
 have h4:(dE.toList == [112,97,112,101,114]) = false:=by rw [toList_data]; rfl
 have h5:(dE.toList == [108,97,115,116]) = true:=by rw [toList_data]; rfl
 refine aa _ ?_;simp [kK,hb,h1,h2,h3,h4,h5];refine ⟨[],ah.OI (aE.func EO (first:=[]) (caps:=[.pval (.slice 1 (.str dE :: ws.map .str)), .pval (.ptr b 0)]) (args:=[]) hr) ?_⟩;rintro σ' ⟨tl,rfl⟩;simp
theorem pT (y:ab) (hk:y.kinds.length ≤ maxLen) (hp:y.places.length ≤ maxLen) (hf:y.last.length ≤ 100000) (b b1 b2 b3 q1 q2 q3:Nat) (σ:af) (h:qh σ b b1 b2 b3 y q1 q2 q3) (ws:List ByteArray) (hw:∀ w ∈ dE :: ws,w.size ≤ 100000) {c:ay} (hc:iP y ((dE :: ws).map aA) = some c) :
  Spec Tryz.prog lY [.ptr b 0, .slice 1 ((dE :: ws).map .str)] σ fun r σ'=>r = .ret (.tup []) ∧ ∃ tl,σ' = (σ.set b3 (.spare 4 (q3 + 1))).set b (.box [.slice 1 (y.kinds.map .str), .slice 1 (y.places.map .str), .oslice 4 (y.first.map ay.v) b1 q1, .oslice 5 (y.papers.map aj.v) b2 q2, .oslice 4 ((y.last ++ [c]).map ay.v) b3 (q3 + 1)]) ++ tl:=by
 refine qg (by simp) ?_;have hb:=h.box;have hs1:=h.s3;have hbl:=(List.getElem?_eq_some_iff.1 hb).1;have hsl:=(List.getElem?_eq_some_iff.1 hs1).1;have hne:b3 ≠ b:=fun e=>by rw [e,hb] at hs1; cases hs1
 have gb:∀ l:af,(σ ++ l)[b]? = some (.box [.slice 1 (y.kinds.map .str), .slice 1 (y.places.map .str), .oslice 4 (y.first.map ay.v) b1 q1, .oslice 5 (y.papers.map aj.v) b2 q2, .oslice 4 (y.last.map ay.v) b3 q3]):=fun l=>by rw [List.getElem?_append_left hbl]; exact hb
 have g1:∀ l:af,(σ ++ l)[b3]? = some (.spare 4 q3):=fun l=>by rw [List.getElem?_append_left hsl]; exact hs1
 have st1:∀ (l:af) (o:cq),(σ ++ l).set b3 o = σ.set b3 o ++ l:=fun l o=>List.set_append_left _ _ hsl;have gb2:∀ (l:af) (o:cq),(σ.set b3 o ++ l)[b]? = some (.box [.slice 1 (y.kinds.map .str), .slice 1 (y.places.map .str), .oslice 4 (y.first.map ay.v) b1 q1, .oslice 5 (y.papers.map aj.v) b2 q2, .oslice 4 (y.last.map ay.v) b3 q3]):=fun l o=>by
  rw [List.getElem?_append_left (by rw [List.length_set]; exact hbl),List.getElem?_set_ne hne]; exact hb
 have st2:∀ (l:af) (o x:cq),(σ.set b3 o ++ l).set b x = (σ.set b3 o).set b x ++ l:=fun l o x=>List.set_append_left _ _ (by rw [List.length_set]; exact hbl);have hr:=ff y hk hp _ _ _ b σ hb (dE :: ws) hw;rw [hc] at hr;simp only [List.map_cons,Option.map_some,fp] at hr;have h1:(dE.toList == [107,105,110,100,115]) = false:=by rw [toList_data]; rfl
 have h2:(dE.toList == [112,108,97,99,101,115]) = false:=by rw [toList_data]; rfl
 have h3:(dE.toList == [102,105,114,115,116]) = false:=by rw [toList_data]; rfl
 have h4:(dE.toList == [112,97,112,101,114]) = false:=by rw [toList_data]; rfl
 have h5:(dE.toList == [108,97,115,116]) = true:=by rw [toList_data]; rfl
 refine aa _ ?_;simp [kK,hb,h1,h2,h3,h4,h5];refine ⟨[],ah.fO (aE.func EO (first:=[]) (caps:=[.pval (.slice 1 (.str dE :: ws.map .str)), .pval (.ptr b 0)]) (args:=[]) hr) ?_⟩;rintro r σ' ⟨rfl,tl,rfl⟩;refine ⟨_,rfl, ?_⟩;simp [hb,gb,g1,st1,gb2,st2,ay.v,ay.cells,CK];omega
theorem tP (b:Nat) (σ:af) (w:ByteArray) (ws:List ByteArray) (g1:w ≠ eA) (g2:w ≠ de) (g3:w ≠ bS) (g4:w ≠ bo) (g5:w ≠ dE) :
  Spec Tryz.prog lY [.ptr b 0, .slice 1 ((w :: ws).map .str)] σ fun r σ'=>r = .pan lE ∧ ∃ tl,σ' = σ ++ tl:=by
 refine qg (by simp) ?_;have key:∀ x:ByteArray,w ≠ x → (w.toList == x.data.toList) = false:=fun x hx=>by
  rw [beq_eq_false_iff_ne,toList_data];exact fun e=>hx (data_inj e)
 have h1:(w.toList == [107,105,110,100,115]) = false:=key eA g1;have h2:(w.toList == [112,108,97,99,101,115]) = false:=key de g2;have h3:(w.toList == [102,105,114,115,116]) = false:=key bS g3;have h4:(w.toList == [112,97,112,101,114]) = false:=key bo g4;have h5:(w.toList == [108,97,115,116]) = false:=key dE g5;refine aa _ ?_;simp [kK,h1,h2,h3,h4,h5];refine ah.pan dT (b7 _) ?_;rintro σ' rfl;simp
theorem oC (y:ab) (b b1 b2 b3 q1 q2 q3:Nat) (σ:af) (_h:qh σ b b1 b2 b3 y q1 q2 q3) (ws:List ByteArray) (h6:(bo :: ws).length ≠ 6) :
  Spec Tryz.prog lY [.ptr b 0, .slice 1 ((bo :: ws).map .str)] σ fun r σ'=>r = .pan lE ∧ ∃ tl,σ' = σ ++ tl:=by
 refine qg (by simp) ?_;have h1:(bo.toList == [107,105,110,100,115]) = false:=by rw [toList_data]; rfl
 have h2:(bo.toList == [112,108,97,99,101,115]) = false:=by rw [toList_data]; rfl
 have h3:(bo.toList == [102,105,114,115,116]) = false:=by rw [toList_data]; rfl
 have h4:(bo.toList == [112,97,112,101,114]) = true:=by rw [toList_data]; rfl
 have h6':¬ ws.length = 5:=by simpa using h6
 have h6I:¬ (ws.length:Int) + 1 = 6:=by omega
 have hbq:((ws.length:Int) + 1 == 6) = false:=by simpa using h6I
 refine aa _ ?_;simp [kK,h1,h2,h3,h4,hbq];refine ah.pan dT (b7 _) ?_;rintro σ' rfl;simp
theorem pS (y:ab) (hk:y.kinds.length ≤ maxLen) (hp:y.places.length ≤ maxLen) (b b1 b2 b3 q1 q2 q3:Nat) (σ:af) (h:qh σ b b1 b2 b3 y q1 q2 q3) (w1 w2 w3 w4 w5:ByteArray) (z4:w4.size ≤ 100000) (z5:w5.size ≤ 100000) (hc:rr y [aA bo,aA w1,aA w2,aA w3,aA w4,aA w5] = none) :
  Spec Tryz.prog lY [.ptr b 0, .slice 1 [.str bo, .str w1, .str w2, .str w3, .str w4, .str w5]] σ fun r σ'=>r = .pan lE ∧ ∃ tl,σ' = σ ++ tl:=by
 refine qg (by simp) ?_;have hb:=h.box;have i1:=fun σ=>cH y.kinds hk w1 false σ;have i2:=fun σ=>cH y.places hp w2 true σ;have i3:=fun σ=>cH y.places hp w3 true σ;have n4:=fun σ=>du w4 z4 false σ;have n5:=fun σ=>du w5 z5 true σ;have h1:(bo.toList == [107,105,110,100,115]) = false:=by rw [toList_data]; rfl
 have h2:(bo.toList == [112,108,97,99,101,115]) = false:=by rw [toList_data]; rfl
 have h3:(bo.toList == [102,105,114,115,116]) = false:=by rw [toList_data]; rfl
 have h4:(bo.toList == [112,97,112,101,114]) = true:=by rw [toList_data]; rfl
 cases e0:kU y.kinds (aA w1) false with
 | none=>
  rw [e0] at i1;refine aa _ ?_;simp [kK,hb,h1,h2,h3,h4];refine ah.pure dT (aU _) ?_;simp [hb];refine ⟨[],ah.pan fo (v:=lE) (Q:=fun σ'=>σ' = _) (i1 _) ?_⟩;rintro σ' rfl;simp
 | some v0=>
 rw [e0] at i1;simp only [Option.map_some,fp] at i1
 cases e1:kU y.places (aA w2) true with
 | none=>
  rw [e1] at i2;refine aa _ ?_;simp [kK,hb,h1,h2,h3,h4];refine ah.pure dT (aU _) ?_;simp [hb];refine ⟨[],ah.pure fo (i1 _) ?_⟩;simp [hb];refine ⟨[],ah.pan fo (v:=lE) (Q:=fun σ'=>σ' = _) (i2 _) ?_⟩;rintro σ' rfl;simp
 | some v1=>
 rw [e1] at i2;simp only [Option.map_some,fp] at i2
 cases e2:kU y.places (aA w3) true with
 | none=>
  rw [e2] at i3;refine aa _ ?_;simp [kK,hb,h1,h2,h3,h4];refine ah.pure dT (aU _) ?_;simp [hb];refine ⟨[],ah.pure fo (i1 _) ?_⟩;simp [hb];refine ⟨[],ah.pure fo (i2 _) ?_⟩;simp [hb];refine ⟨[],ah.pan fo (v:=lE) (Q:=fun σ'=>σ' = _) (i3 _) ?_⟩;rintro σ' rfl;simp
 | some v2=>
 rw [e2] at i3;simp only [Option.map_some,fp] at i3
 cases e3:lD (aA w4) false with
 | none=>
  rw [e3] at n4;refine aa _ ?_;simp [kK,hb,h1,h2,h3,h4];refine ah.pure dT (aU _) ?_;simp [hb];refine ⟨[],ah.pure fo (i1 _) ?_⟩;simp [hb];refine ⟨[],ah.pure fo (i2 _) ?_⟩;simp [hb];refine ⟨[],ah.pure fo (i3 _) ?_⟩;simp [hb];refine ⟨[],ah.pan qz (v:=lE) (Q:=fun σ'=>σ' = _) (n4 _) ?_⟩;rintro σ' rfl;simp
 | some v3=>
 rw [e3] at n4;simp only [Option.map_some,fp] at n4
 cases e4:lD (aA w5) true with
 | none=>
  rw [e4] at n5;refine aa _ ?_;simp [kK,hb,h1,h2,h3,h4];refine ah.pure dT (aU _) ?_;simp [hb];refine ⟨[],ah.pure fo (i1 _) ?_⟩;simp [hb];refine ⟨[],ah.pure fo (i2 _) ?_⟩;simp [hb];refine ⟨[],ah.pure fo (i3 _) ?_⟩;simp [hb];refine ⟨[],ah.pure qz (n4 _) ?_⟩;simp [hb];refine ⟨[],ah.pan qz (v:=lE) (Q:=fun σ'=>σ' = _) (n5 _) ?_⟩;rintro σ' rfl;simp
 | some v4=>
 rw [e4] at n5;simp only [Option.map_some,fp] at n5;have hs:rr y [aA bo,aA w1,aA w2,aA w3,aA w4,aA w5] = some ⟨v0,v1,v2,v3,v4⟩:=by simp only [rr,e0,e1,e2,e3,e4]
 rw [hs] at hc;cases hc
theorem Jw (p:aj):Fits 5 [ag.agg [ii' p.kind,ii' p.src,ii' p.dst,ii' p.kilos,ii' p.copy]]:=fun v hv=>by
 simp at hv; subst hv; exact ⟨rfl,rfl⟩
theorem oF (y:ab) (hk:y.kinds.length ≤ maxLen) (hp:y.places.length ≤ maxLen) (hf:y.papers.length ≤ 100000) (b b1 b2 b3 q1 q2 q3:Nat) (σ:af) (h:qh σ b b1 b2 b3 y q1 q2 q3) (w1 w2 w3 w4 w5:ByteArray) (z4:w4.size ≤ 100000) (z5:w5.size ≤ 100000) {p:aj} (hc:rr y [aA bo,aA w1,aA w2,aA w3,aA w4,aA w5] = some p) :
  Spec Tryz.prog lY [.ptr b 0, .slice 1 [.str bo, .str w1, .str w2, .str w3, .str w4, .str w5]] σ fun r σ'=>r = .ret (.tup []) ∧ ∃ tl,σ' = (σ.set b2 (.spare 5 (q2 + 1))).set b (.box [.slice 1 (y.kinds.map .str), .slice 1 (y.places.map .str), .oslice 4 (y.first.map ay.v) b1 q1, .oslice 5 ((y.papers ++ [p]).map aj.v) b2 (q2 + 1), .oslice 4 (y.last.map ay.v) b3 q3]) ++ tl:=by
 refine qg (by simp) ?_;have hb:=h.box;have hs1:=h.s2;have hbl:=(List.getElem?_eq_some_iff.1 hb).1;have hsl:=(List.getElem?_eq_some_iff.1 hs1).1;have hne:b2 ≠ b:=fun e=>by rw [e,hb] at hs1; cases hs1
 have gb:∀ l:af,(σ ++ l)[b]? = some (.box [.slice 1 (y.kinds.map .str), .slice 1 (y.places.map .str), .oslice 4 (y.first.map ay.v) b1 q1, .oslice 5 (y.papers.map aj.v) b2 q2, .oslice 4 (y.last.map ay.v) b3 q3]):=fun l=>by rw [List.getElem?_append_left hbl]; exact hb
 have g1:∀ l:af,(σ ++ l)[b2]? = some (.spare 5 q2):=fun l=>by rw [List.getElem?_append_left hsl]; exact hs1
 have st1:∀ (l:af) (o:cq),(σ ++ l).set b2 o = σ.set b2 o ++ l:=fun l o=>List.set_append_left _ _ hsl;have gb2:∀ (l:af) (o:cq),(σ.set b2 o ++ l)[b]? = some (.box [.slice 1 (y.kinds.map .str), .slice 1 (y.places.map .str), .oslice 4 (y.first.map ay.v) b1 q1, .oslice 5 (y.papers.map aj.v) b2 q2, .oslice 4 (y.last.map ay.v) b3 q3]):=fun l o=>by
  rw [List.getElem?_append_left (by rw [List.length_set]; exact hbl),List.getElem?_set_ne hne]; exact hb
 have st2:∀ (l:af) (o x:cq),(σ.set b2 o ++ l).set b x = (σ.set b2 o).set b x ++ l:=fun l o x=>List.set_append_left _ _ (by rw [List.length_set]; exact hbl);have i1:=fun σ=>cH y.kinds hk w1 false σ;have i2:=fun σ=>cH y.places hp w2 true σ;have i3:=fun σ=>cH y.places hp w3 true σ;have n4:=fun σ=>du w4 z4 false σ;have n5:=fun σ=>du w5 z5 true σ;have h1:(bo.toList == [107,105,110,100,115]) = false:=by rw [toList_data]; rfl
 have h2:(bo.toList == [112,108,97,99,101,115]) = false:=by rw [toList_data]; rfl
 have h3:(bo.toList == [102,105,114,115,116]) = false:=by rw [toList_data]; rfl
 have h4:(bo.toList == [112,97,112,101,114]) = true:=by rw [toList_data]; rfl
 simp only [rr] at hc
 cases e0:kU y.kinds (aA w1) false with
 | none=>rw [e0] at hc; simp at hc
 | some v0=>
 rw [e0] at i1 hc;simp only [Option.map_some,fp] at i1
 cases e1:kU y.places (aA w2) true with
 | none=>rw [e1] at hc; simp at hc
 | some v1=>
 rw [e1] at i2 hc;simp only [Option.map_some,fp] at i2
 cases e2:kU y.places (aA w3) true with
 | none=>rw [e2] at hc; simp at hc
 | some v2=>
 rw [e2] at i3 hc;simp only [Option.map_some,fp] at i3
 cases e3:lD (aA w4) false with
 | none=>rw [e3] at hc; simp at hc
 | some v3=>
 rw [e3] at n4 hc;simp only [Option.map_some,fp] at n4
 cases e4:lD (aA w5) true with
 | none=>rw [e4] at hc; simp at hc
 | some v4=>
 rw [e4] at n5 hc;simp only [Option.map_some,fp] at n5;simp only [Option.some.injEq] at hc;subst hc;refine aa _ ?_;simp [kK,hb,h1,h2,h3,h4];refine ah.pure dT (aU _) ?_;simp [hb];refine ⟨[],ah.pure fo (i1 _) ?_⟩;simp [hb];refine ⟨[],ah.pure fo (i2 _) ?_⟩;simp [hb];refine ⟨[],ah.pure fo (i3 _) ?_⟩;simp [hb];refine ⟨[],ah.pure qz (n4 _) ?_⟩;simp [hb];refine ⟨[],ah.pure qz (n5 _) ?_⟩;have gb3:∀ o:cq,(σ.set b2 o)[b]? = some (.box [.slice 1 (y.kinds.map .str), .slice 1 (y.places.map .str), .oslice 4 (y.first.map ay.v) b1 q1, .oslice 5 (y.papers.map aj.v) b2 q2, .oslice 4 (y.last.map ay.v) b3 q3]):=fun o=>by
  rw [List.getElem?_set_ne hne]; exact hb
 have hfp:=Jw ⟨v0,v1,v2,v3,v4⟩;simp only at hfp;simp [hb,hs1,gb3,aj.v,aj.cells,hfp];omega
end Go.AM
