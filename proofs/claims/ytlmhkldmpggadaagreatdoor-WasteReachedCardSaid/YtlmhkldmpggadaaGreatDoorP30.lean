/- The text of a yard of waste is short. Plain. Chapter 09: the text of a yard; Write: of the program. Chapter 09: Write: of the program. Chapter 09: reading words: of the program. Chapter 09: .. -/
import Derived.Test.YtlmhkldmpggadaaGreatDoorP20
import Derived.Test.YtlmhkldmpggadaaGreatDoorP29
namespace Go.AM
theorem wZ:∀ (l:List WdW),(bD 32 l).length ≤ (l.map List.length).sum + l.length
 | []=>by simp [bD]
 | [p]=>by simp [bD]
 | p :: q :: r=>by
  have:=wZ (q :: r);simp only [bD,List.length_append,List.length_cons,List.map_cons,List.sum_cons] at this ⊢;omega
theorem qQ (r:List WdW):(dV r).length ≤ (r.map List.length).sum + r.length + 1:=by
 have:=wZ r;simp only [dV,List.length_append,List.length_singleton]; omega
theorem ox {α:Type} (f:α → WdW) {m:Nat}:∀ (l:List α),(∀ x ∈ l,(f x).length ≤ m) → (l.flatMap f).length ≤ m * l.length
 | [],_=>by simp
 | a :: l,h=>by
  have h1:=h a (by simp);have h2:=ox f l fun x hx=>h x (by simp [hx]);simp only [List.flatMap_cons,List.length_append,List.length_cons,Nat.mul_add];omega
theorem rM {nm:ByteArray → Bool} (hw:kR nm):∀ l:List ByteArray,(∀ s ∈ l,nm s = true) → ((l.map eP).map List.length).sum ≤ 16 * l.length
 | [],_=>by simp
 | a :: l,h=>by
  have h1:=(hw.byte a (h a (by simp))).2.2;have h2:=rM hw l fun s hs=>h s (by simp [hs]);simp only [List.map_cons,List.sum_cons,List.length_cons] at h2 ⊢;omega
theorem D8 {nm:ByteArray → Bool} (hw:kR nm) {y:ab} (h:bV nm y):(gk y).length ≤ 4000:=by
 have na:∀ (l:List ByteArray),(∀ s ∈ l,nm s = true) → ∀ i:Int,0 ≤ i ∧ i < l.length → (nameAt l i).length ≤ 16:=fun l hl i hi=>by
  obtain ⟨hi',e⟩:=pK hi;rw [e]; exact (hw.byte _ (hl _ (List.getElem_mem hi'))).2.2
 have hcnt:∀ (w:WdW),w.length ≤ 5 → ∀ c,zl y c → (dV (bE w y c)).length ≤ 57:=fun w hwl c hc=>by
  have h3:=hc.lo;have h4:=hc.hi;unfold Big at h3 h4;have k1:=na y.kinds h.kinds.1 _ hc.kind;have k2:=na y.places h.places.1 _ hc.place;have k3:=qu (n:=c.lo) h3.1 (k:=7) (by omega) (by omega);have k4:=qu (n:=c.hi) h4.1 (k:=7) (by omega) (by omega);have:=qQ (bE w y c);simp only [bE,List.map_cons,List.map_nil,List.sum_cons,List.sum_nil,List.length_cons,List.length_nil] at this ⊢;omega
 have hpl:∀ a:Int, -1 ≤ a ∧ a < y.places.length → (gv y a).length ≤ 16:=fun a ha=>by
  unfold gv;split
  ·simp [b9]
  ·exact na y.places h.places.1 _ (by omega)
 have hpap:∀ p ∈ y.papers,(dV (cV y p)).length ≤ 69:=fun p hp=>by
  obtain ⟨i,hi,rfl⟩:=List.getElem_of_mem hp;have hv:=h.papers i hi;have h4:=hv.kilos;unfold Big at h4;have hm:=h.m10;have k1:=na y.kinds h.kinds.1 _ hv.kind;have k2:=hpl _ hv.src;have k3:=hpl _ hv.dst;have k4:=qu (n:=y.papers[i].kilos) h4.1 (k:=7) (by omega) (by omega);have k5:(if 0 ≤ y.papers[i].copy then Lib.itoa y.papers[i].copy else b9).length ≤ 1:=by
   split
   ·rename_i hc
    exact qu hc (by omega) (by
     rcases hv.copy with e | ⟨_,e,_⟩
     ·omega
     ·omega)
   ·simp [b9]
  have:=qQ (cV y y.papers[i]);simp only [cV,List.map_cons,List.map_nil,List.sum_cons,List.sum_nil,List.length_cons,List.length_nil] at this ⊢;have e:ij.length = 5:=rfl;omega
 have f1:=ox (fun c=>dV (bE dD y c)) (m:=57) y.first fun c hc=>hcnt dD (by decide) c (h.first.1 c hc)
 have f2:=ox (fun p=>dV (cV y p)) (m:=69) y.papers hpap;have f3:=ox (fun c=>dV (bE eJ y c)) (m:=57) y.last fun c hc=>hcnt eJ (by decide) c (h.last.1 c hc);have f4:=qQ (eD :: y.kinds.map eP);have f5:=qQ (dC :: y.places.map eP);have s4:=rM hw y.kinds h.kinds.1;have s5:=rM hw y.places h.places.1;have e4:eD.length = 5:=rfl;have e5:dC.length = 6:=rfl;simp only [List.map_cons,List.sum_cons,List.length_cons,List.length_map] at f4 f5;have g1:=h.k4; have g2:=h.p4; have g3:=h.m10; have g4:=h.f8; have g5:=h.l8;unfold gk qD;simp only [List.flatMap_cons,List.flatMap_append,List.flatMap_map,List.length_append];omega
open Go.Proofs
set_option maxRecDepth 100000
set_option maxHeartbeats 1000000
def kC:ByteArray:=⟨#[107,105,110,100,115]⟩
def gC:ByteArray:=⟨#[112,108,97,99,101,115]⟩
def cO:ByteArray:=⟨#[102,105,114,115,116]⟩
def bW:ByteArray:=⟨#[112,97,112,101,114]⟩
def dt:ByteArray:=⟨#[108,97,115,116]⟩
def Gw (p:aj):ByteArray:=if 0 ≤ p.copy then bytes (Lib.itoa p.copy) else miS
def Bp (y:ab) (p:aj):List ByteArray:=[bW,y.kinds.getD p.kind.toNat .empty,qn y p.src,qn y p.dst,bytes (Lib.itoa p.kilos),Gw p]
theorem zp (y:ab) (p:aj):(Bp y p).map aM = cV y p:=by
 have e:aM (Gw p) = if 0 ≤ p.copy then Lib.itoa p.copy else b9:=by
  unfold Gw;split
  ·exact jy _
  ·rfl
 simp only [Bp,cV,List.map_cons,List.map_nil,jy,GC,e];rfl
theorem iJ (ws:List ByteArray) (hws:ws.length ≤ 100) (hl:(dV (ws.map aM)).length ≤ 4001) (k:Nat) (bs:List UInt8) (hbs:bs.length ≤ 5000) (tl:af) :
  aH Tryz.prog (.func (.func 143) [] [.ptr 0 0]) [.slice 1 (ws.map .str)] (.bld k bs :: tl) fun r σ'=>r = .ret (.tup []) ∧ σ' = .bld (k + 1) (bs ++ dV (ws.map aM)) :: tl:=
 aH.func JM (first:=[]) (mg ws hws (by simp only [dV,List.length_append] at hl; omega) 0 k bs (by omega) _ rfl)
theorem l9 {nm:ByteArray → Bool} (hn:kR nm) {y:ab} (hv:bV nm y) (σ:af):Spec Tryz.prog Kc [y.v] σ fun r σ'=>r = .ret (.str (bytes (gk y))) ∧ σ' = σ:=by
 refine Spec.aI (Pp (by simp) ?_) (by simp [y.pure,aG]) rfl σ;have htl:=D8 hn hv;have hk4:=hv.k4;have hp4:=hv.p4;have hm10:=hv.m10;obtain ⟨R1,hR1⟩:∃ R,dV (eD :: y.kinds.map eP) = R:=⟨_,rfl⟩;obtain ⟨R2,hR2⟩:∃ R,dV (dC :: y.places.map eP) = R:=⟨_,rfl⟩;obtain ⟨R3,hR3⟩:∃ R,(y.first.flatMap fun c=>dV (bE dD y c)) = R:=⟨_,rfl⟩;obtain ⟨R4,hR4⟩:∃ R,(y.papers.flatMap fun p=>dV (cV y p)) = R:=⟨_,rfl⟩;obtain ⟨R5,hR5⟩:∃ R,(y.last.flatMap fun c=>dV (bE eJ y c)) = R:=⟨_,rfl⟩;have hT:gk y = R1 ++ (R2 ++ (R3 ++ (R4 ++ R5))):=by
  rw [← hR1, ← hR2, ← hR3, ← hR4, ← hR5];unfold gk qD;simp [List.flatMap_append,List.flatMap_map]
 have hlen:R1.length + (R2.length + (R3.length + (R4.length + R5.length))) ≤ 4000:=by
  rw [hT] at htl; simpa using htl
 have e1:(kC :: y.kinds).map aM = eD :: y.kinds.map eP:=rfl;have e2:(gC :: y.places).map aM = dC :: y.places.map eP:=rfl;have c1:=fun k bs hbs tl=>iJ (kC :: y.kinds) (by simp; omega) (by rw [e1,hR1]; omega) k bs hbs tl;have c2:=fun k bs hbs tl=>iJ (gC :: y.places) (by simp; omega) (by rw [e2,hR2]; omega) k bs hbs tl;rw [e1,hR1] at c1;rw [e2,hR2] at c2;simp only [List.map_cons] at c1 c2;have cnt:=fun (w:ByteArray) (cs:List ay) (hcl:cs.length ≤ 8) (hc:∀ c ∈ cs,zl y c) (hlen:(cs.flatMap fun c=>dV (bE (aM w) y c)).length ≤ 5000) k bs hbs tl=>
  aH.func Oy (first:=[]) (caps:=[.pval (.func (.func 143) [] [.ptr 0 0]), .pval y.v]) (args:=[.str w, .slice 4 (cs.map ay.v)])
   (rp y w cs (by omega) (fun c hm=>⟨(hc c hm).kind,(hc c hm).place,(hc c hm).lo,(hc c hm).hi⟩) hlen 0 k bs hbs (.bld k bs :: tl) rfl)
 have c3:=cnt cO y.first hv.f8 hv.first.1 (by show (y.first.flatMap fun c=>dV (bE dD y c)).length ≤ 5000; rw [hR3]; omega)
 have c5:=cnt dt y.last hv.l8 hv.last.1 (by show (y.last.flatMap fun c=>dV (bE eJ y c)).length ≤ 5000; rw [hR5]; omega);have hfk:=DE y.kinds;have hfp:=DE y.places;rw [show aM cO = dD from rfl,hR3] at c3;rw [show aM dt = eJ from rfl,hR5] at c5;simp only [ab.v,ab.cells] at c3 c5;rw [hT];refine aa _ ?_;simp [Lu,ab.v,ab.cells,hfk];refine ⟨by omega,ah.eZ (c1 _ _ (by simp) _) ?_⟩;rintro r σ' ⟨rfl,rfl⟩;refine ⟨_,rfl, ?_⟩;simp [hfp];refine ⟨by omega,ah.eZ (c2 _ _ (by omega) _) ?_⟩;rintro r σ' ⟨rfl,rfl⟩;refine ⟨_,rfl, ?_⟩;simp;refine ah.eZ (c3 _ _ (by simp; omega) _) ?_;rintro r σ' ⟨rfl,k,tl,rfl⟩;refine ⟨_,rfl, ?_⟩;simp;obtain ⟨BB,hBB⟩:=zqq (R1 ++ (R2 ++ R3));have hBl:BB.length + R4.length + R5.length ≤ 4000:=by rw [← hBB]; simp; omega
 have hTT:R1 ++ (R2 ++ (R3 ++ (R4 ++ R5))) = BB ++ R4 ++ R5:=by rw [← hBB]; simp
 rw [hBB,hTT];have c4:=fun (p:aj) (hp:(dV (cV y p)).length ≤ 4001) k bs hbs tl=>iJ (Bp y p) (by simp [Bp]) (by rw [zp]; exact hp) k bs hbs tl;simp only [zp] at c4;refine AW.loop (ι:=Nat) (fun i fr σ'=>∃ (k:Nat) (tl:af),fr = { v:=[(1, .pval y.v),(3, .ptr 0 0),(4, .pval (.func (.func 143) [] [.ptr 0 0])),(5, .func (.func 146) [] [.pval (.func (.func 143) [] [.ptr 0 0]), .pval y.v]),(6, .func (.func 148) [] [.pval y.v]),(34, .slice 5 (y.papers.map aj.v)),(35, .int .i64 y.papers.length),(36, .int .i64 i)],ds:=[] } ∧ σ' = .bld k (BB ++ (y.papers.take i).flatMap fun p=>dV (cV y p)) :: tl ∧ i ≤ y.papers.length) (fun i=>y.papers.length - i) 0 ⟨k,_,by simp [ab.v,ab.cells],by simp; rfl,by omega⟩ ?_;clear tl k;rintro i fr σ' ⟨k,tl,rfl,rfl,hi⟩;refine (Nat.lt_or_ge i y.papers.length).elim (fun hlt=>?_) (fun hge=>?_);rotate_left
 ·obtain rfl:i = y.papers.length:=by omega
  rw [List.take_length,hR4];refine aa _ ?_;simp [ab.v,ab.cells];refine ah.eZ (c5 _ _ (by simp; omega) _) ?_;rintro r σ' ⟨rfl,k',tl',rfl⟩;refine ⟨_,rfl, ?_⟩;simp;refine ah.spec NX (vQ 0 k' _ _ rfl) ?_;rintro r σ' ⟨rfl,rfl⟩;refine ⟨_,rfl, ?_⟩;simp [bytes]
 have hltI:(i:Int) < y.papers.length:=by omega
 have hwi:IntKind.i64.wrap ((i:Int) + 1) = ((i + 1:Nat):Int):=by rw [aw (by omega) (by omega)]; simp
 have hpv:=hv.papers i hlt;obtain ⟨p,hx⟩:=zqq (y.papers[i]);have hpm:p ∈ y.papers:=hx ▸ List.getElem_mem _;rw [hx] at hpv;have hfl:=pb (fun p=>dV (cV y p)) hlt;rw [hx] at hfl;have hrow:=lP (fun p=>dV (cV y p)) hpm;have hpre:((y.papers.take i).flatMap fun p=>dV (cV y p)).length ≤ R4.length:=by
  rw [← hR4]
  conv=>rhs; rw [← List.take_append_drop i y.papers,List.flatMap_append,List.length_append]
  omega
 rw [hR4] at hrow;obtain ⟨S,hS⟩:=zqq (((y.papers.take i).flatMap fun p=>dV (cV y p)));rw [hS] at hfl hpre ⊢;have hli:=fun tl=>c4 p (by omega) k (BB ++ S) (by simp; omega) tl;rw [List.append_assoc, ← hfl] at hli;have hkb:=hpv.kilos;unfold Big at hkb;have i1:=fun σ=>ou p.kilos (by omega) (by omega) σ;have t1:=fun σ=>aH.func JG (first:=[]) (caps:=[.pval y.v]) (args:=[ii' p.src]) (j7 y p.src hpv.src σ);have t2:=fun σ=>aH.func JG (first:=[]) (caps:=[.pval y.v]) (args:=[ii' p.dst]) (j7 y p.dst hpv.dst σ);simp only [ab.v,ab.cells] at t1 t2;obtain ⟨K,hK⟩:∃ K:Nat,p.kind = K:=⟨p.kind.toNat,by have:=hpv.kind; omega⟩;have hK1:K < y.kinds.length:=by have:=hpv.kind; omega
 have hKI:(K:Int) < y.kinds.length:=by omega
 by_cases hcp:0 ≤ p.copy
 ·have hps:Bp y p = [bW,y.kinds[K],qn y p.src,qn y p.dst,bytes (Lib.itoa p.kilos),bytes (Lib.itoa p.copy)]:=by
   simp only [Bp,Gw,hK,if_pos hcp,Int.toNat_natCast,List.getD,List.getElem?_eq_getElem hK1,Option.getD_some]
  rw [hps] at hli;simp only [List.map_cons,List.map_nil] at hli;have hcb:p.copy < 10:=by
   rcases hpv.copy with e | ⟨_,e,_⟩ <;> omega
  have i2:=fun σ=>ou p.copy (by omega) (by omega) σ;refine aa _ ?_;simp [hlt,hltI,hx,aj.v,aj.cells,ab.v,ab.cells,hK,hK1,hKI,hcp];refine ah.pure zH (i2 _) ?_;simp [hlt,hltI,hx,aj.v,aj.cells,ab.v,ab.cells,hK,hK1,hKI,hcp];refine ⟨[.str (qn y p.src), .str (qn y p.dst), .str (bytes (Lib.itoa p.kilos))],⟨ah.of (t1 _) ?_,ah.of (t2 _) ?_,ah.pure zH (i1 _) ?_⟩, ?_⟩
  ·simp
  ·simp
  ·simp
  simp;refine ⟨[],ah.eZ (hli _) ?_⟩;rintro r σ' ⟨rfl,rfl⟩;refine ⟨_,rfl, ?_⟩;simp [hwi];exact ⟨i + 1,by omega,by simp,rfl,by omega⟩
 ·have hps:Bp y p = [bW,y.kinds[K],qn y p.src,qn y p.dst,bytes (Lib.itoa p.kilos),miS]:=by
   simp only [Bp,Gw,hK,if_neg hcp,Int.toNat_natCast,List.getD,List.getElem?_eq_getElem hK1,Option.getD_some]
  rw [hps] at hli;simp only [List.map_cons,List.map_nil] at hli;refine aa _ ?_;simp [hlt,hltI,hx,aj.v,aj.cells,ab.v,ab.cells,hK,hK1,hKI,hcp];refine ⟨[.str (qn y p.src), .str (qn y p.dst), .str (bytes (Lib.itoa p.kilos))],⟨ah.of (t1 _) ?_,ah.of (t2 _) ?_,ah.pure zH (i1 _) ?_⟩, ?_⟩
  ·simp
  ·simp
  ·simp
  simp;refine ⟨[],ah.eZ (hli _) ?_⟩;rintro r σ' ⟨rfl,rfl⟩;refine ⟨_,rfl, ?_⟩;simp [hwi];exact ⟨i + 1,by omega,by simp,rfl,by omega⟩
theorem xg (s:ByteArray):∀ n i,iQ s i n = true ↔ ∀ j,i ≤ j → j < i + n → oO s j = true
 | 0,i=>by simp [iQ]; omega
 | n + 1,i=>by
  simp only [iQ,Bool.and_eq_true,xg s n (i + 1)];constructor
  ·rintro ⟨h1,h2⟩ j hj hj2;rcases Nat.eq_or_lt_of_le hj with e | e
   ·exact e ▸ h1
   ·exact h2 j (by omega) (by omega)
  ·intro h;exact ⟨h i (by omega) (by omega),fun j hj hj2=>h j (by omega) (by omega)⟩
theorem Ch:kR aR:=⟨fun s hs=>by
 unfold aR at hs;simp only [Bool.and_eq_true,decide_eq_true_eq] at hs;obtain ⟨⟨h1,h2⟩,h3⟩:=hs;have hl:(eP s).length = s.size:=by simp [eP]
 refine ⟨fun c hc=>?_,fun e=>by rw [e] at hl; simp at hl; omega,by omega⟩;obtain ⟨j,hj,rfl⟩:=List.mem_iff_getElem.1 hc;have:=(xg s s.size 0).1 h3 j (by omega) (by omega);have hj':j < s.data.size:=by simpa [eP] using hj
 have e:nF s j = (eP s)[j].toNat:=by
  unfold nF eP;rw [Array.getElem?_eq_getElem hj'];simp
 unfold oO letterF pA at this;simp only [Bool.or_eq_true,Bool.and_eq_true,decide_eq_true_eq] at this;have h48:48 ≤ nF s j:=by omega
 exact Nat.le_trans h48 (Nat.le_of_eq e)⟩
def vt (y:ab):WdW × Int:=if (bZ aR y).2.2 ≠ 0 then ([],(bZ aR y).2.2) else (gk y,0)
theorem sn (y:ab) (hy:dw y) (σ:af):Spec Tryz.prog Iq [y.v] σ fun r σ'=>r = .ret (.tup [.str (bytes (vt y).1),ii' (vt y).2]) ∧ σ' = σ:=by
 refine Spec.aI (Rb (by simp) ?_) (by simp [y.pure,aG]) (by simp [ag.pure,aG]) σ;have hc:=fun σ=>eT y hy σ;unfold vt;simp only [ab.v,ab.cells,cN] at hc;by_cases h0:(bZ aR y).2.2 = 0;rotate_left
 ·rw [if_pos h0];refine aa _ ?_;simp [KQ,ab.v,ab.cells];refine ah.pure zO (hc _) ?_;simp [h0,bytes]
 rw [if_neg (by simp [h0])];have hv:=(iv aR y).1 h0;have ht:=fun σ=>l9 Ch hv σ;simp only [ab.v,ab.cells] at ht;rw [h0] at hc;refine aa _ ?_;simp [KQ,ab.v,ab.cells];refine ah.pure zO (hc _) ?_;simp;refine ah.pure Kl (ht _) ?_;simp
def kM:ag:=.iface 30 (ii' 6)
def eF (o:Option ag):eE:=match o with
 | some v=>.ret v
 | none=>.pan kM
theorem aX (σ:af):Spec Tryz.prog Dp [.bool true] σ fun r σ'=>r = .ret (.tup []) ∧ σ' = σ:=by
 refine Jg (by simp) (aa _ ?_);simp [E9]
theorem bQ (σ:af):Spec Tryz.prog Dp [.bool false] σ fun r σ'=>r = .pan kM ∧ σ' = σ:=by
 refine Jg (by simp) (aa _ ?_);simp [E9,kM]
theorem cT (s:ByteArray) (hs:s.size ≤ 100000) (minus:Bool) (σ:af) :
  Spec Tryz.prog He [.str s, .bool minus] σ fun r σ'=>r = eF ((kJ (aM s) minus).map ii') ∧ σ' = σ:=by
 obtain ⟨te,ha⟩:=Ek s (by omega) σ;refine Nk (by simp) ?_;have htl:s.toList = [45] ↔ aM s = b9:=by rw [toList_data]; rfl
 by_cases hm:minus = true ∧ aM s = b9
 ·have hh:kJ (aM s) minus = some (-1):=by unfold kJ; rw [if_pos hm]
  rw [hh,hm.1];have h1:=htl.2 hm.2;refine aa _ ?_;simp [sT,h1,eF]
 have hms:minus = false ∨ ¬ s.toList = [45]:=by
  cases minus with
  | false=>exact .inl rfl
  | true=>exact .inr fun h=>hm ⟨rfl,htl.1 h⟩
 cases hq:Lib.atoiAll s.data.toList with
 | ok v=>
  have hv:u0 s te = .tup [ii' v, .niliface]:=by unfold u0; rw [hq]
  rw [hv] at ha;have hq':Lib.atoiAll (aM s) = .ok v:=hq;have hh:kJ (aM s) minus = if 0 ≤ v then some v else none:=by unfold kJ; rw [if_neg hm,hq']
  rw [hh];by_cases h0:0 ≤ v
  ·rw [if_pos h0];rcases hms with e | e
   ·subst e;refine aa _ ?_;simp [sT];refine ah.pure xK ha ?_;simp [h0];refine ah.pure dv (aX _) ?_;simp [eF]
   ·refine aa _ ?_;simp [sT,e];refine ah.pure xK ha ?_;simp [h0];refine ah.pure dv (aX _) ?_;simp [eF]
  ·rw [if_neg h0];rcases hms with e | e
   ·subst e;refine aa _ ?_;simp [sT];refine ah.pure xK ha ?_;simp [h0];refine ah.pan dv (bQ _) ?_;rintro σ' rfl;simp [eF]
   ·refine aa _ ?_;simp [sT,e];refine ah.pure xK ha ?_;simp [h0];refine ah.pan dv (bQ _) ?_;rintro σ' rfl;simp [eF]
 | _=>
  obtain ⟨z,hv⟩:∃ z,u0 s te = .tup [ii' z, .iface te .undef]:=by unfold u0; rw [hq]; exact ⟨_,rfl⟩
  rw [hv] at ha;have e:Lib.atoiAll (aM s) = Lib.atoiAll s.data.toList:=rfl;have hno:kJ (aM s) minus = none:=by unfold kJ; rw [if_neg hm,e,hq]
  rw [hno];rcases hms with e | e
  ·subst e;refine aa _ ?_;simp [sT];refine ah.pure xK ha ?_;simp;refine ah.pan dv (bQ _) ?_;rintro σ' rfl;simp [eF]
  ·refine aa _ ?_;simp [sT,e];refine ah.pure xK ha ?_;simp;refine ah.pan dv (bQ _) ?_;rintro σ' rfl;simp [eF]
theorem C5 (s:ByteArray):∀ (l:List ByteArray) (k:Nat),fT (fun y=>s.toList == y.toList) l k = match l.findIdx? fun x=>decide (eP x = aM s) with
  | some i=>((k + i:Nat):Int)
  | none=>-1
 | [],k=>by simp [fT]
 | a :: r,k=>by
  have ih:=C5 s r (k + 1);have he:(s.toList == a.toList) = decide (eP a = aM s):=by
   rw [toList_data,toList_data,Bool.eq_iff_iff];rw [beq_iff_eq,decide_eq_true_eq];exact ⟨fun h=>h.symm,fun h=>h.symm⟩
  simp only [fT,List.findIdx?_cons,he];by_cases h:eP a = aM s
  ·simp [h]
  ·rw [if_neg (by simp [h])];simp only [h,decide_false];rw [ih]
   cases r.findIdx? fun x=>decide (eP x = aM s) with
   | none=>rfl
   | some i=>
    have e:k + 1 + i = k + (i + 1):=by omega
    show ((k + 1 + i:Nat):Int) = ((k + (i + 1):Nat):Int);rw [e]
theorem cu (l:List ByteArray) (hl:l.length ≤ maxLen) (s:ByteArray) (minus:Bool) (σ:af) :
  Spec Tryz.prog Hl [.slice 1 (l.map .str), .str s, .bool minus] σ fun r σ'=>r = eF ((j6 l (aM s) minus).map ii') ∧ σ' = σ:=by
 have hix:=fun σ=>gL l s hl σ;have htl:s.toList = [45] ↔ aM s = b9:=by rw [toList_data]; rfl
 rw [C5] at hix;refine L4 (by simp) ?_
 cases hq:l.findIdx? fun x=>decide (eP x = aM s) with
 | some i=>
  have hh:j6 l (aM s) minus = some (i:Int):=by unfold j6 AZ; rw [hq]
  rw [hq] at hix;rw [hh];refine aa _ ?_;simp [zD];refine ah.pure Ai (hix _) ?_;simp;refine ah.pure dv (aX _) ?_;simp [eF]
 | none=>
  have hh:j6 l (aM s) minus = if minus = true ∧ aM s = b9 then some (-1) else none:=by unfold j6 AZ; rw [hq]
  rw [hq] at hix;rw [hh];by_cases hm:minus = true ∧ aM s = b9
  ·rw [if_pos hm,hm.1];have h1:=htl.2 hm.2;refine aa _ ?_;simp [zD];refine ah.pure Ai (hix _) ?_;simp [h1];refine ah.pure dv (aX _) ?_;simp [eF]
  ·rw [if_neg hm]
   cases minus with
   | false=>
    refine aa _ ?_;simp [zD];refine ah.pure Ai (hix _) ?_;simp;refine ah.pan dv (bQ _) ?_;rintro σ' rfl;simp [eF]
   | true=>
    have h1:¬ s.toList = [45]:=fun h=>hm ⟨rfl,htl.1 h⟩;refine aa _ ?_;simp [zD];refine ah.pure Ai (hix _) ?_;have hbq:(s.toList == [45]) = false:=by simpa using h1
    simp [hbq];refine ah.pan dv (bQ _) ?_;rintro σ' rfl;simp [eF]
theorem qh (y:ab) (hk:y.kinds.length ≤ maxLen) (hp:y.places.length ≤ maxLen) (X Y Z:ag) (b:Nat) (σ:af) (hb:σ[b]? = some (.box [.slice 1 (y.kinds.map .str), .slice 1 (y.places.map .str),X,Y,Z])) (w0 w1 w2 w3 w4:ByteArray) (h3:w3.size ≤ 100000) (h4:w4.size ≤ 100000) :
  Spec Tryz.prog DD [.pval (.slice 1 [.str w0, .str w1, .str w2, .str w3, .str w4]), .pval (.ptr b 0)] σ fun r σ'=>r = eF ((gY y [aM w0,aM w1,aM w2,aM w3,aM w4]).map ay.v) ∧ ∃ tl,σ' = σ ++ tl:=by
 refine Jt (by simp) ?_;have i1:=fun σ=>cu y.kinds hk w1 false σ;have i2:=fun σ=>cu y.places hp w2 false σ;have n3:=fun σ=>cT w3 h3 false σ;have n4:=fun σ=>cT w4 h4 false σ;have hbl:=(List.getElem?_eq_some_iff.1 hb).1;have gb:∀ l:af,(σ ++ l)[b]? = some (.box [.slice 1 (y.kinds.map .str), .slice 1 (y.places.map .str),X,Y,Z]):=fun l=>by rw [List.getElem?_append_left hbl]; exact hb
 cases e0:j6 y.kinds (aM w1) false with
 | none=>
  rw [e0] at i1;have hc:gY y [aM w0,aM w1,aM w2,aM w3,aM w4] = none:=by simp only [gY,e0]
  rw [hc];refine aa _ ?_;simp [uS];refine ah.pure dv (aX _) ?_;simp [gb];refine ⟨[],ah.pan eB (v:=kM) (Q:=fun σ'=>σ' = _) (i1 _) ?_⟩;rintro σ' rfl;simp [eF]
 | some v0=>
 rw [e0] at i1;simp only [Option.map_some,eF] at i1
 cases e1:j6 y.places (aM w2) false with
 | none=>
  rw [e1] at i2;have hc:gY y [aM w0,aM w1,aM w2,aM w3,aM w4] = none:=by simp only [gY,e0,e1]
  rw [hc];refine aa _ ?_;simp [uS];refine ah.pure dv (aX _) ?_;simp [gb];refine ⟨[],ah.pure eB (i1 _) ?_⟩;simp [gb];refine ⟨[],ah.pan eB (v:=kM) (Q:=fun σ'=>σ' = _) (i2 _) ?_⟩;rintro σ' rfl;simp [eF]
 | some v1=>
 rw [e1] at i2;simp only [Option.map_some,eF] at i2
 cases e2:kJ (aM w3) false with
 | none=>
  rw [e2] at n3;have hc:gY y [aM w0,aM w1,aM w2,aM w3,aM w4] = none:=by simp only [gY,e0,e1,e2]
  rw [hc];refine aa _ ?_;simp [uS];refine ah.pure dv (aX _) ?_;simp [gb];refine ⟨[],ah.pure eB (i1 _) ?_⟩;simp [gb];refine ⟨[],ah.pure eB (i2 _) ?_⟩;simp [gb];refine ⟨[],ah.pan o4 (v:=kM) (Q:=fun σ'=>σ' = _) (n3 _) ?_⟩;rintro σ' rfl;simp [eF]
 | some v2=>
 rw [e2] at n3;simp only [Option.map_some,eF] at n3
 cases e3:kJ (aM w4) false with
 | none=>
  rw [e3] at n4;have hc:gY y [aM w0,aM w1,aM w2,aM w3,aM w4] = none:=by simp only [gY,e0,e1,e2,e3]
  rw [hc];refine aa _ ?_;simp [uS];refine ah.pure dv (aX _) ?_;simp [gb];refine ⟨[],ah.pure eB (i1 _) ?_⟩;simp [gb];refine ⟨[],ah.pure eB (i2 _) ?_⟩;simp [gb];refine ⟨[],ah.pure o4 (n3 _) ?_⟩;simp [gb];refine ⟨[],ah.pan o4 (v:=kM) (Q:=fun σ'=>σ' = _) (n4 _) ?_⟩;rintro σ' rfl;simp [eF]
 | some v3=>
 rw [e3] at n4;simp only [Option.map_some,eF] at n4;have hc:gY y [aM w0,aM w1,aM w2,aM w3,aM w4] = some ⟨v0,v1,v2,v3⟩:=by simp only [gY,e0,e1,e2,e3]
 rw [hc];refine aa _ ?_;simp [uS];refine ah.pure dv (aX _) ?_;simp [gb];refine ⟨[],ah.pure eB (i1 _) ?_⟩;simp [gb];refine ⟨[],ah.pure eB (i2 _) ?_⟩;simp [gb];refine ⟨[],ah.pure o4 (n3 _) ?_⟩;simp [gb];refine ⟨[],ah.pure o4 (n4 _) ?_⟩;simp [gb];rfl
theorem Fp (y:ab):∀ l:List WdW,l.length ≠ 5 → gY y l = none
 | [],_=>rfl
 | [_],_=>rfl
 | [_,_],_=>rfl
 | [_,_,_],_=>rfl
 | [_,_,_,_],_=>rfl
 | [_,_,_,_,_],h=>absurd rfl h
 | _ :: _ :: _ :: _ :: _ :: _ :: _,_=>rfl
theorem ew (y:ab) (hk:y.kinds.length ≤ maxLen) (hp:y.places.length ≤ maxLen) (X Y Z:ag) (b:Nat) (σ:af) (hb:σ[b]? = some (.box [.slice 1 (y.kinds.map .str), .slice 1 (y.places.map .str),X,Y,Z])) (ws:List ByteArray) (hw:∀ w ∈ ws,w.size ≤ 100000) :
  Spec Tryz.prog DD [.pval (.slice 1 (ws.map .str)), .pval (.ptr b 0)] σ fun r σ'=>r = eF ((gY y (ws.map aM)).map ay.v) ∧ ∃ tl,σ' = σ ++ tl:=by
 by_cases h5:ws.length = 5
 ·match ws,h5,hw with
  | [w0,w1,w2,w3,w4],_,hw=>exact qh y hk hp X Y Z b σ hb w0 w1 w2 w3 w4 (hw w3 (by simp)) (hw w4 (by simp))
 ·have hc:=Fp y (ws.map aM) (by simpa using h5);rw [hc];have h5I:¬ (ws.length:Int) = 5:=by omega
  have hbq:((ws.length:Int) == 5) = false:=by simpa using h5I
  refine Jt (by simp) ?_;refine aa _ ?_;simp [uS,hbq];refine ah.pan dv (bQ _) ?_;rintro σ' rfl;simp [eF]
structure pf (σ:af) (b b1 b2 b3:Nat) (y:ab) (q1 q2 q3:Nat):Prop where
 box:σ[b]? = some (.box [.slice 1 (y.kinds.map .str), .slice 1 (y.places.map .str), .oslice 4 (y.first.map ay.v) b1 q1, .oslice 5 (y.papers.map aj.v) b2 q2, .oslice 4 (y.last.map ay.v) b3 q3])
 s1:σ[b1]? = some (.spare 4 q1)
 s2:σ[b2]? = some (.spare 5 q2)
 s3:σ[b3]? = some (.spare 4 q3)
 n12:b1 ≠ b2
 n13:b1 ≠ b3
 n23:b2 ≠ b3
theorem se (y:ab) (b b1 b2 b3 q1 q2 q3:Nat) (σ:af) (h:pf σ b b1 b2 b3 y q1 q2 q3) (ws:List ByteArray) :
  Spec Tryz.prog lb [.ptr b 0, .slice 1 ((kC :: ws).map .str)] σ fun r σ'=>r = .ret (.tup []) ∧ ∃ tl,σ' = σ.set b (.box [.slice 1 (ws.map .str), .slice 1 (y.places.map .str), .oslice 4 (y.first.map ay.v) b1 q1, .oslice 5 (y.papers.map aj.v) b2 q2, .oslice 4 (y.last.map ay.v) b3 q3]) ++ tl:=by
 refine o7 (by simp) ?_;have hb:=h.box;have hkk:(kC.toList == [107,105,110,100,115]) = true:=by rw [toList_data]; rfl
 refine aa _ ?_;simp [jX,hb,hkk];have htk:List.take ws.length (List.map ag.str ws) = List.map ag.str ws:=List.take_of_length_le (by simp);exact ⟨by omega,[],by rw [htk]; simp⟩
theorem qt (y:ab) (b b1 b2 b3 q1 q2 q3:Nat) (σ:af) (h:pf σ b b1 b2 b3 y q1 q2 q3) (ws:List ByteArray) :
  Spec Tryz.prog lb [.ptr b 0, .slice 1 ((gC :: ws).map .str)] σ fun r σ'=>r = .ret (.tup []) ∧ ∃ tl,σ' = σ.set b (.box [.slice 1 (y.kinds.map .str), .slice 1 (ws.map .str), .oslice 4 (y.first.map ay.v) b1 q1, .oslice 5 (y.papers.map aj.v) b2 q2, .oslice 4 (y.last.map ay.v) b3 q3]) ++ tl:=by
 refine o7 (by simp) ?_;have hb:=h.box;have h1:(gC.toList == [107,105,110,100,115]) = false:=by rw [toList_data]; rfl
 have h2:(gC.toList == [112,108,97,99,101,115]) = true:=by rw [toList_data]; rfl
 refine aa _ ?_;simp [jX,hb,h1,h2];have htk:List.take ws.length (List.map ag.str ws) = List.map ag.str ws:=List.take_of_length_le (by simp);exact ⟨by omega,[],by rw [htk]; simp⟩
theorem ah.Nc {P:Program} {fv:ag} {args:List ag} {σ:af} {v:ag} {Q:af → Prop} {K Kp:ag → af → Prop} (hs:aH P fv args σ fun r σ'=>r = .pan v ∧ Q σ') (hp:∀ σ',Q σ' → Kp v σ'):@ah P fv args σ ⟨K⟩ ⟨Kp⟩:=
 hs.mono fun r σ' hq=>by obtain ⟨rfl,hq⟩:=hq; exact hp σ' hq
theorem oI (y:ab) (hk:y.kinds.length ≤ maxLen) (hp:y.places.length ≤ maxLen) (b b1 b2 b3 q1 q2 q3:Nat) (σ:af) (h:pf σ b b1 b2 b3 y q1 q2 q3) (ws:List ByteArray) (hw:∀ w ∈ cO :: ws,w.size ≤ 100000) (hc:gY y ((cO :: ws).map aM) = none) :
  Spec Tryz.prog lb [.ptr b 0, .slice 1 ((cO :: ws).map .str)] σ fun r σ'=>r = .pan kM ∧ ∃ tl,σ' = σ ++ tl:=by
 refine o7 (by simp) ?_;have hb:=h.box;have hr:=ew y hk hp _ _ _ b σ hb (cO :: ws) hw;rw [hc] at hr;simp only [List.map_cons] at hr;have h1:(cO.toList == [107,105,110,100,115]) = false:=by rw [toList_data]; rfl
 have h2:(cO.toList == [112,108,97,99,101,115]) = false:=by rw [toList_data]; rfl
 have h3:(cO.toList == [102,105,114,115,116]) = true:=by rw [toList_data]; rfl
 refine aa _ ?_;simp [jX,hb,h1,h2,h3];refine ⟨[],ah.Nc (aH.func Dj (first:=[]) (caps:=[.pval (.slice 1 (.str cO :: ws.map .str)), .pval (.ptr b 0)]) (args:=[]) hr) ?_⟩;rintro σ' ⟨tl,rfl⟩;simp
theorem zt (c:ay):Fits 4 [ag.agg [ii' c.kind,ii' c.place,ii' c.lo,ii' c.hi]]:=fun v hv=>by
 simp at hv; subst hv; exact ⟨rfl,rfl⟩
theorem nI (y:ab) (hk:y.kinds.length ≤ maxLen) (hp:y.places.length ≤ maxLen) (hf:y.first.length ≤ 100000) (b b1 b2 b3 q1 q2 q3:Nat) (σ:af) (h:pf σ b b1 b2 b3 y q1 q2 q3) (ws:List ByteArray) (hw:∀ w ∈ cO :: ws,w.size ≤ 100000) {c:ay} (hc:gY y ((cO :: ws).map aM) = some c) :
  Spec Tryz.prog lb [.ptr b 0, .slice 1 ((cO :: ws).map .str)] σ fun r σ'=>r = .ret (.tup []) ∧ ∃ tl,σ' = (σ.set b1 (.spare 4 (q1 + 1))).set b (.box [.slice 1 (y.kinds.map .str), .slice 1 (y.places.map .str), .oslice 4 ((y.first ++ [c]).map ay.v) b1 (q1 + 1), .oslice 5 (y.papers.map aj.v) b2 q2, .oslice 4 (y.last.map ay.v) b3 q3]) ++ tl:=by
 refine o7 (by simp) ?_;have hb:=h.box;have hs1:=h.s1;have hbl:=(List.getElem?_eq_some_iff.1 hb).1;have hsl:=(List.getElem?_eq_some_iff.1 hs1).1;have hne:b1 ≠ b:=fun e=>by rw [e,hb] at hs1; cases hs1
 have gb:∀ l:af,(σ ++ l)[b]? = some (.box [.slice 1 (y.kinds.map .str), .slice 1 (y.places.map .str), .oslice 4 (y.first.map ay.v) b1 q1, .oslice 5 (y.papers.map aj.v) b2 q2, .oslice 4 (y.last.map ay.v) b3 q3]):=fun l=>by rw [List.getElem?_append_left hbl]; exact hb
 have g1:∀ l:af,(σ ++ l)[b1]? = some (.spare 4 q1):=fun l=>by rw [List.getElem?_append_left hsl]; exact hs1
 have st1:∀ (l:af) (o:cm),(σ ++ l).set b1 o = σ.set b1 o ++ l:=fun l o=>List.set_append_left _ _ hsl;have gb2:∀ (l:af) (o:cm),(σ.set b1 o ++ l)[b]? = some (.box [.slice 1 (y.kinds.map .str), .slice 1 (y.places.map .str), .oslice 4 (y.first.map ay.v) b1 q1, .oslice 5 (y.papers.map aj.v) b2 q2, .oslice 4 (y.last.map ay.v) b3 q3]):=fun l o=>by
  rw [List.getElem?_append_left (by rw [List.length_set]; exact hbl),List.getElem?_set_ne hne]; exact hb
 have st2:∀ (l:af) (o x:cm),(σ.set b1 o ++ l).set b x = (σ.set b1 o).set b x ++ l:=fun l o x=>List.set_append_left _ _ (by rw [List.length_set]; exact hbl);have hr:=ew y hk hp _ _ _ b σ hb (cO :: ws) hw;rw [hc] at hr;simp only [List.map_cons,Option.map_some,eF] at hr;have h1:(cO.toList == [107,105,110,100,115]) = false:=by rw [toList_data]; rfl
 have h2:(cO.toList == [112,108,97,99,101,115]) = false:=by rw [toList_data]; rfl
 have h3:(cO.toList == [102,105,114,115,116]) = true:=by rw [toList_data]; rfl
 refine aa _ ?_;simp [jX,hb,h1,h2,h3];refine ⟨[],ah.eZ (aH.func Dj (first:=[]) (caps:=[.pval (.slice 1 (.str cO :: ws.map .str)), .pval (.ptr b 0)]) (args:=[]) hr) ?_⟩;rintro r σ' ⟨rfl,tl,rfl⟩;refine ⟨_,rfl, ?_⟩;simp [hb,gb,g1,st1,gb2,st2,ay.v,ay.cells,zt];omega
theorem pO (y:ab) (hk:y.kinds.length ≤ maxLen) (hp:y.places.length ≤ maxLen) (b b1 b2 b3 q1 q2 q3:Nat) (σ:af) (h:pf σ b b1 b2 b3 y q1 q2 q3) (ws:List ByteArray) (hw:∀ w ∈ dt :: ws,w.size ≤ 100000) (hc:gY y ((dt :: ws).map aM) = none) :
  Spec Tryz.prog lb [.ptr b 0, .slice 1 ((dt :: ws).map .str)] σ fun r σ'=>r = .pan kM ∧ ∃ tl,σ' = σ ++ tl:=by
 refine o7 (by simp) ?_;have hb:=h.box;have hr:=ew y hk hp _ _ _ b σ hb (dt :: ws) hw;rw [hc] at hr;simp only [List.map_cons] at hr;have h1:(dt.toList == [107,105,110,100,115]) = false:=by rw [toList_data]; rfl
 have h2:(dt.toList == [112,108,97,99,101,115]) = false:=by rw [toList_data]; rfl
 have h3:(dt.toList == [102,105,114,115,116]) = false:=by rw [toList_data]; rfl
 have h4:(dt.toList == [112,97,112,101,114]) = false:=by rw [toList_data]; rfl
 have h5:(dt.toList == [108,97,115,116]) = true:=by rw [toList_data]; rfl
 refine aa _ ?_;simp [jX,hb,h1,h2,h3,h4,h5];refine ⟨[],ah.Nc (aH.func Dj (first:=[]) (caps:=[.pval (.slice 1 (.str dt :: ws.map .str)), .pval (.ptr b 0)]) (args:=[]) hr) ?_⟩;rintro σ' ⟨tl,rfl⟩;simp
theorem oL (y:ab) (hk:y.kinds.length ≤ maxLen) (hp:y.places.length ≤ maxLen) (hf:y.last.length ≤ 100000) (b b1 b2 b3 q1 q2 q3:Nat) (σ:af) (h:pf σ b b1 b2 b3 y q1 q2 q3) (ws:List ByteArray) (hw:∀ w ∈ dt :: ws,w.size ≤ 100000) {c:ay} (hc:gY y ((dt :: ws).map aM) = some c) :
  Spec Tryz.prog lb [.ptr b 0, .slice 1 ((dt :: ws).map .str)] σ fun r σ'=>r = .ret (.tup []) ∧ ∃ tl,σ' = (σ.set b3 (.spare 4 (q3 + 1))).set b (.box [.slice 1 (y.kinds.map .str), .slice 1 (y.places.map .str), .oslice 4 (y.first.map ay.v) b1 q1, .oslice 5 (y.papers.map aj.v) b2 q2, .oslice 4 ((y.last ++ [c]).map ay.v) b3 (q3 + 1)]) ++ tl:=by
 refine o7 (by simp) ?_;have hb:=h.box;have hs1:=h.s3;have hbl:=(List.getElem?_eq_some_iff.1 hb).1;have hsl:=(List.getElem?_eq_some_iff.1 hs1).1;have hne:b3 ≠ b:=fun e=>by rw [e,hb] at hs1; cases hs1
 have gb:∀ l:af,(σ ++ l)[b]? = some (.box [.slice 1 (y.kinds.map .str), .slice 1 (y.places.map .str), .oslice 4 (y.first.map ay.v) b1 q1, .oslice 5 (y.papers.map aj.v) b2 q2, .oslice 4 (y.last.map ay.v) b3 q3]):=fun l=>by rw [List.getElem?_append_left hbl]; exact hb
 have g1:∀ l:af,(σ ++ l)[b3]? = some (.spare 4 q3):=fun l=>by rw [List.getElem?_append_left hsl]; exact hs1
 have st1:∀ (l:af) (o:cm),(σ ++ l).set b3 o = σ.set b3 o ++ l:=fun l o=>List.set_append_left _ _ hsl;have gb2:∀ (l:af) (o:cm),(σ.set b3 o ++ l)[b]? = some (.box [.slice 1 (y.kinds.map .str), .slice 1 (y.places.map .str), .oslice 4 (y.first.map ay.v) b1 q1, .oslice 5 (y.papers.map aj.v) b2 q2, .oslice 4 (y.last.map ay.v) b3 q3]):=fun l o=>by
  rw [List.getElem?_append_left (by rw [List.length_set]; exact hbl),List.getElem?_set_ne hne]; exact hb
 have st2:∀ (l:af) (o x:cm),(σ.set b3 o ++ l).set b x = (σ.set b3 o).set b x ++ l:=fun l o x=>List.set_append_left _ _ (by rw [List.length_set]; exact hbl);have hr:=ew y hk hp _ _ _ b σ hb (dt :: ws) hw;rw [hc] at hr;simp only [List.map_cons,Option.map_some,eF] at hr;have h1:(dt.toList == [107,105,110,100,115]) = false:=by rw [toList_data]; rfl
 have h2:(dt.toList == [112,108,97,99,101,115]) = false:=by rw [toList_data]; rfl
 have h3:(dt.toList == [102,105,114,115,116]) = false:=by rw [toList_data]; rfl
 have h4:(dt.toList == [112,97,112,101,114]) = false:=by rw [toList_data]; rfl
 have h5:(dt.toList == [108,97,115,116]) = true:=by rw [toList_data]; rfl
 refine aa _ ?_;simp [jX,hb,h1,h2,h3,h4,h5];refine ⟨[],ah.eZ (aH.func Dj (first:=[]) (caps:=[.pval (.slice 1 (.str dt :: ws.map .str)), .pval (.ptr b 0)]) (args:=[]) hr) ?_⟩;rintro r σ' ⟨rfl,tl,rfl⟩;refine ⟨_,rfl, ?_⟩;simp [hb,gb,g1,st1,gb2,st2,ay.v,ay.cells,zt];omega
theorem rN (b:Nat) (σ:af) (w:ByteArray) (ws:List ByteArray) (g1:w ≠ kC) (g2:w ≠ gC) (g3:w ≠ cO) (g4:w ≠ bW) (g5:w ≠ dt) :
  Spec Tryz.prog lb [.ptr b 0, .slice 1 ((w :: ws).map .str)] σ fun r σ'=>r = .pan kM ∧ ∃ tl,σ' = σ ++ tl:=by
 refine o7 (by simp) ?_;have key:∀ x:ByteArray,w ≠ x → (w.toList == x.data.toList) = false:=fun x hx=>by
  rw [beq_eq_false_iff_ne,toList_data];exact fun e=>hx (data_inj e)
 have h1:(w.toList == [107,105,110,100,115]) = false:=key kC g1;have h2:(w.toList == [112,108,97,99,101,115]) = false:=key gC g2;have h3:(w.toList == [102,105,114,115,116]) = false:=key cO g3;have h4:(w.toList == [112,97,112,101,114]) = false:=key bW g4;have h5:(w.toList == [108,97,115,116]) = false:=key dt g5;refine aa _ ?_;simp [jX,h1,h2,h3,h4,h5];refine ah.pan dv (bQ _) ?_;rintro σ' rfl;simp
theorem ni (y:ab) (b b1 b2 b3 q1 q2 q3:Nat) (σ:af) (_h:pf σ b b1 b2 b3 y q1 q2 q3) (ws:List ByteArray) (h6:(bW :: ws).length ≠ 6) :
  Spec Tryz.prog lb [.ptr b 0, .slice 1 ((bW :: ws).map .str)] σ fun r σ'=>r = .pan kM ∧ ∃ tl,σ' = σ ++ tl:=by
 refine o7 (by simp) ?_;have h1:(bW.toList == [107,105,110,100,115]) = false:=by rw [toList_data]; rfl
 have h2:(bW.toList == [112,108,97,99,101,115]) = false:=by rw [toList_data]; rfl
 have h3:(bW.toList == [102,105,114,115,116]) = false:=by rw [toList_data]; rfl
 have h4:(bW.toList == [112,97,112,101,114]) = true:=by rw [toList_data]; rfl
 have h6':¬ ws.length = 5:=by simpa using h6
 have h6I:¬ (ws.length:Int) + 1 = 6:=by omega
 have hbq:((ws.length:Int) + 1 == 6) = false:=by simpa using h6I
 refine aa _ ?_;simp [jX,h1,h2,h3,h4,hbq];refine ah.pan dv (bQ _) ?_;rintro σ' rfl;simp
theorem oD (y:ab) (hk:y.kinds.length ≤ maxLen) (hp:y.places.length ≤ maxLen) (b b1 b2 b3 q1 q2 q3:Nat) (σ:af) (h:pf σ b b1 b2 b3 y q1 q2 q3) (w1 w2 w3 w4 w5:ByteArray) (z4:w4.size ≤ 100000) (z5:w5.size ≤ 100000) (hc:qb y [aM bW,aM w1,aM w2,aM w3,aM w4,aM w5] = none) :
  Spec Tryz.prog lb [.ptr b 0, .slice 1 [.str bW, .str w1, .str w2, .str w3, .str w4, .str w5]] σ fun r σ'=>r = .pan kM ∧ ∃ tl,σ' = σ ++ tl:=by
 refine o7 (by simp) ?_;have hb:=h.box;have i1:=fun σ=>cu y.kinds hk w1 false σ;have i2:=fun σ=>cu y.places hp w2 true σ;have i3:=fun σ=>cu y.places hp w3 true σ;have n4:=fun σ=>cT w4 z4 false σ;have n5:=fun σ=>cT w5 z5 true σ;have h1:(bW.toList == [107,105,110,100,115]) = false:=by rw [toList_data]; rfl
 have h2:(bW.toList == [112,108,97,99,101,115]) = false:=by rw [toList_data]; rfl
 have h3:(bW.toList == [102,105,114,115,116]) = false:=by rw [toList_data]; rfl
 have h4:(bW.toList == [112,97,112,101,114]) = true:=by rw [toList_data]; rfl
 cases e0:j6 y.kinds (aM w1) false with
 | none=>
  rw [e0] at i1;refine aa _ ?_;simp [jX,hb,h1,h2,h3,h4];refine ah.pure dv (aX _) ?_;simp [hb];refine ⟨[],ah.pan eB (v:=kM) (Q:=fun σ'=>σ' = _) (i1 _) ?_⟩;rintro σ' rfl;simp
 | some v0=>
 rw [e0] at i1;simp only [Option.map_some,eF] at i1
 cases e1:j6 y.places (aM w2) true with
 | none=>
  rw [e1] at i2;refine aa _ ?_;simp [jX,hb,h1,h2,h3,h4];refine ah.pure dv (aX _) ?_;simp [hb];refine ⟨[],ah.pure eB (i1 _) ?_⟩;simp [hb];refine ⟨[],ah.pan eB (v:=kM) (Q:=fun σ'=>σ' = _) (i2 _) ?_⟩;rintro σ' rfl;simp
 | some v1=>
 rw [e1] at i2;simp only [Option.map_some,eF] at i2
 cases e2:j6 y.places (aM w3) true with
 | none=>
  rw [e2] at i3;refine aa _ ?_;simp [jX,hb,h1,h2,h3,h4];refine ah.pure dv (aX _) ?_;simp [hb];refine ⟨[],ah.pure eB (i1 _) ?_⟩;simp [hb];refine ⟨[],ah.pure eB (i2 _) ?_⟩;simp [hb];refine ⟨[],ah.pan eB (v:=kM) (Q:=fun σ'=>σ' = _) (i3 _) ?_⟩;rintro σ' rfl;simp
 | some v2=>
 rw [e2] at i3;simp only [Option.map_some,eF] at i3
 cases e3:kJ (aM w4) false with
 | none=>
  rw [e3] at n4;refine aa _ ?_;simp [jX,hb,h1,h2,h3,h4];refine ah.pure dv (aX _) ?_;simp [hb];refine ⟨[],ah.pure eB (i1 _) ?_⟩;simp [hb];refine ⟨[],ah.pure eB (i2 _) ?_⟩;simp [hb];refine ⟨[],ah.pure eB (i3 _) ?_⟩;simp [hb];refine ⟨[],ah.pan o4 (v:=kM) (Q:=fun σ'=>σ' = _) (n4 _) ?_⟩;rintro σ' rfl;simp
 | some v3=>
 rw [e3] at n4;simp only [Option.map_some,eF] at n4
 cases e4:kJ (aM w5) true with
 | none=>
  rw [e4] at n5;refine aa _ ?_;simp [jX,hb,h1,h2,h3,h4];refine ah.pure dv (aX _) ?_;simp [hb];refine ⟨[],ah.pure eB (i1 _) ?_⟩;simp [hb];refine ⟨[],ah.pure eB (i2 _) ?_⟩;simp [hb];refine ⟨[],ah.pure eB (i3 _) ?_⟩;simp [hb];refine ⟨[],ah.pure o4 (n4 _) ?_⟩;simp [hb];refine ⟨[],ah.pan o4 (v:=kM) (Q:=fun σ'=>σ' = _) (n5 _) ?_⟩;rintro σ' rfl;simp
 | some v4=>
 rw [e4] at n5;simp only [Option.map_some,eF] at n5;have hs:qb y [aM bW,aM w1,aM w2,aM w3,aM w4,aM w5] = some ⟨v0,v1,v2,v3,v4⟩:=by simp only [qb,e0,e1,e2,e3,e4]
 rw [hs] at hc;cases hc
theorem Fq (p:aj):Fits 5 [ag.agg [ii' p.kind,ii' p.src,ii' p.dst,ii' p.kilos,ii' p.copy]]:=fun v hv=>by
 simp at hv; subst hv; exact ⟨rfl,rfl⟩
theorem nJ (y:ab) (hk:y.kinds.length ≤ maxLen) (hp:y.places.length ≤ maxLen) (hf:y.papers.length ≤ 100000) (b b1 b2 b3 q1 q2 q3:Nat) (σ:af) (h:pf σ b b1 b2 b3 y q1 q2 q3) (w1 w2 w3 w4 w5:ByteArray) (z4:w4.size ≤ 100000) (z5:w5.size ≤ 100000) {p:aj} (hc:qb y [aM bW,aM w1,aM w2,aM w3,aM w4,aM w5] = some p) :
  Spec Tryz.prog lb [.ptr b 0, .slice 1 [.str bW, .str w1, .str w2, .str w3, .str w4, .str w5]] σ fun r σ'=>r = .ret (.tup []) ∧ ∃ tl,σ' = (σ.set b2 (.spare 5 (q2 + 1))).set b (.box [.slice 1 (y.kinds.map .str), .slice 1 (y.places.map .str), .oslice 4 (y.first.map ay.v) b1 q1, .oslice 5 ((y.papers ++ [p]).map aj.v) b2 (q2 + 1), .oslice 4 (y.last.map ay.v) b3 q3]) ++ tl:=by
 refine o7 (by simp) ?_;have hb:=h.box;have hs1:=h.s2;have hbl:=(List.getElem?_eq_some_iff.1 hb).1;have hsl:=(List.getElem?_eq_some_iff.1 hs1).1;have hne:b2 ≠ b:=fun e=>by rw [e,hb] at hs1; cases hs1
 have gb:∀ l:af,(σ ++ l)[b]? = some (.box [.slice 1 (y.kinds.map .str), .slice 1 (y.places.map .str), .oslice 4 (y.first.map ay.v) b1 q1, .oslice 5 (y.papers.map aj.v) b2 q2, .oslice 4 (y.last.map ay.v) b3 q3]):=fun l=>by rw [List.getElem?_append_left hbl]; exact hb
 have g1:∀ l:af,(σ ++ l)[b2]? = some (.spare 5 q2):=fun l=>by rw [List.getElem?_append_left hsl]; exact hs1
 have st1:∀ (l:af) (o:cm),(σ ++ l).set b2 o = σ.set b2 o ++ l:=fun l o=>List.set_append_left _ _ hsl;have gb2:∀ (l:af) (o:cm),(σ.set b2 o ++ l)[b]? = some (.box [.slice 1 (y.kinds.map .str), .slice 1 (y.places.map .str), .oslice 4 (y.first.map ay.v) b1 q1, .oslice 5 (y.papers.map aj.v) b2 q2, .oslice 4 (y.last.map ay.v) b3 q3]):=fun l o=>by
  rw [List.getElem?_append_left (by rw [List.length_set]; exact hbl),List.getElem?_set_ne hne]; exact hb
 have st2:∀ (l:af) (o x:cm),(σ.set b2 o ++ l).set b x = (σ.set b2 o).set b x ++ l:=fun l o x=>List.set_append_left _ _ (by rw [List.length_set]; exact hbl);have i1:=fun σ=>cu y.kinds hk w1 false σ;have i2:=fun σ=>cu y.places hp w2 true σ;have i3:=fun σ=>cu y.places hp w3 true σ;have n4:=fun σ=>cT w4 z4 false σ;have n5:=fun σ=>cT w5 z5 true σ;have h1:(bW.toList == [107,105,110,100,115]) = false:=by rw [toList_data]; rfl
 have h2:(bW.toList == [112,108,97,99,101,115]) = false:=by rw [toList_data]; rfl
 have h3:(bW.toList == [102,105,114,115,116]) = false:=by rw [toList_data]; rfl
 have h4:(bW.toList == [112,97,112,101,114]) = true:=by rw [toList_data]; rfl
 simp only [qb] at hc
 cases e0:j6 y.kinds (aM w1) false with
 | none=>rw [e0] at hc; simp at hc
 | some v0=>
 rw [e0] at i1 hc;simp only [Option.map_some,eF] at i1
 cases e1:j6 y.places (aM w2) true with
 | none=>rw [e1] at hc; simp at hc
 | some v1=>
 rw [e1] at i2 hc;simp only [Option.map_some,eF] at i2
 cases e2:j6 y.places (aM w3) true with
 | none=>rw [e2] at hc; simp at hc
 | some v2=>
 rw [e2] at i3 hc;simp only [Option.map_some,eF] at i3
 cases e3:kJ (aM w4) false with
 | none=>rw [e3] at hc; simp at hc
 | some v3=>
 rw [e3] at n4 hc;simp only [Option.map_some,eF] at n4
 cases e4:kJ (aM w5) true with
 | none=>rw [e4] at hc; simp at hc
 | some v4=>
 rw [e4] at n5 hc;simp only [Option.map_some,eF] at n5;simp only [Option.some.injEq] at hc;subst hc;refine aa _ ?_;simp [jX,hb,h1,h2,h3,h4];refine ah.pure dv (aX _) ?_;simp [hb];refine ⟨[],ah.pure eB (i1 _) ?_⟩;simp [hb];refine ⟨[],ah.pure eB (i2 _) ?_⟩;simp [hb];refine ⟨[],ah.pure eB (i3 _) ?_⟩;simp [hb];refine ⟨[],ah.pure o4 (n4 _) ?_⟩;simp [hb];refine ⟨[],ah.pure o4 (n5 _) ?_⟩;have gb3:∀ o:cm,(σ.set b2 o)[b]? = some (.box [.slice 1 (y.kinds.map .str), .slice 1 (y.places.map .str), .oslice 4 (y.first.map ay.v) b1 q1, .oslice 5 (y.papers.map aj.v) b2 q2, .oslice 4 (y.last.map ay.v) b3 q3]):=fun o=>by
  rw [List.getElem?_set_ne hne]; exact hb
 have hfp:=Fq ⟨v0,v1,v2,v3,v4⟩;simp only at hfp;simp [hb,hs1,gb3,aj.v,aj.cells,hfp];omega
end Go.AM
