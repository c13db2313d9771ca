/- The inputs of chapter 09's laws: a yard, papers that are false, a proof, numbers; and how arguments are packed. Chapter 09: Check, and what every question asks first: of the program. (Printed by .. -/
import Derived.Test.YtlmhkldmpggadaaGreatDoorP15
import Derived.Test.YtlmhkldmpggadaaGreatDoorP22
namespace Go.AM
open Go.Proofs Go.RowKit
set_option maxRecDepth 100000
set_option maxHeartbeats 1000000
theorem dw {t:Nat} {us:List ag} {k:Nat} (h:Shaped Tryz.prog (k + 1) t us) (hu:CH Tryz.prog t = some .i64):∃ n,us = [ii' n]:=by
 obtain ⟨n,h1,_⟩:=h.int hu;exact ⟨n,h1⟩
theorem ty3:CH Tryz.prog 3 = some .i64:=by kernel_rfl
theorem Wy:CH Tryz.prog 61 = some .u16:=by kernel_rfl
theorem Wx:CH Tryz.prog 80 = some .u32:=by kernel_rfl
theorem ty9:Ix Tryz.prog 9 = true:=by kernel_rfl
theorem Tc:GZ Tryz.prog 26 = some [22,22,23,24,23]:=by kernel_rfl
theorem Up:Gz Tryz.prog 22 = some (9,1,false):=by kernel_rfl
theorem UW:Gz Tryz.prog 23 = some (59,4,true):=by kernel_rfl
theorem Uy:Gz Tryz.prog 24 = some (68,5,true):=by kernel_rfl
theorem Wl:GZ Tryz.prog 59 = some [3,3,46]:=by kernel_rfl
theorem Un:GZ Tryz.prog 46 = some [3,3]:=by kernel_rfl
theorem Sx:GZ Tryz.prog 68 = some [3,3,3,3,3]:=by kernel_rfl
theorem A7 {k:Nat} {us:List ag} (h:Shaped Tryz.prog (k + 2) 46 us):∃ a b,us = [ii' a,ii' b]:=by
 obtain ⟨a,r,rfl,h1,b,r2,rfl,h2,rfl⟩:=h.fs Un;obtain ⟨x,rfl⟩:=dw h1 ty3;obtain ⟨y,rfl⟩:=dw h2 ty3;exact ⟨x,y,rfl⟩
theorem uN {k:Nat} {us:List ag} (h:Shaped Tryz.prog (k + 2) 22 us):∃ l:List ByteArray,us = [.slice 1 (l.map .str)] ∧ l.length ≤ maxLen:=by
 obtain ⟨xs,rfl,hl,hx⟩:=h.sl Up;obtain ⟨l,rfl,_⟩:=ta (f:=ag.str) (p:=fun _=>True) (xs:=xs) fun v hv=>by
  obtain ⟨cs,g1,g2⟩:=hx v hv;obtain ⟨n,rfl,_⟩:=g1.str ty9;exact ⟨n,g2,trivial⟩
 exact ⟨l,rfl,by simpa using hl⟩
theorem C9 {k:Nat} {us:List ag} (h:Shaped Tryz.prog (k + 3) 59 us):∃ c:ay,us = c.cells:=by
 obtain ⟨a,r,rfl,h1,b,r2,rfl,h2,c,r3,rfl,h3,rfl⟩:=h.fs Wl;obtain ⟨n1,rfl⟩:=dw h1 ty3;obtain ⟨n2,rfl⟩:=dw h2 ty3;obtain ⟨n3,n4,rfl⟩:=A7 h3;exact ⟨⟨n1,n2,n3,n4⟩,rfl⟩
theorem Dc {k:Nat} {us:List ag} (h:Shaped Tryz.prog (k + 2) 68 us):∃ p:aj,us = p.cells:=by
 obtain ⟨a,r,rfl,h1,b,r2,rfl,h2,c,r3,rfl,h3,d,r4,rfl,h4,e,r5,rfl,h5,rfl⟩:=h.fs Sx;obtain ⟨n1,rfl⟩:=dw h1 ty3;obtain ⟨n2,rfl⟩:=dw h2 ty3;obtain ⟨n3,rfl⟩:=dw h3 ty3;obtain ⟨n4,rfl⟩:=dw h4 ty3;obtain ⟨n5,rfl⟩:=dw h5 ty3;exact ⟨⟨n1,n2,n3,n4,n5⟩,rfl⟩
theorem uy {k:Nat} {us:List ag} (h:Shaped Tryz.prog (k + 4) 23 us):∃ l:List ay,us = [.slice 4 (l.map ay.v)] ∧ l.length ≤ maxLen:=by
 obtain ⟨xs,rfl,hl,hx⟩:=h.sl UW;obtain ⟨l,rfl,_⟩:=ta (f:=ay.v) (p:=fun _=>True) (xs:=xs) fun v hv=>by
  obtain ⟨cs,q1,q2⟩:=hx v hv;obtain ⟨p,rfl⟩:=C9 q1;exact ⟨p,q2,trivial⟩
 exact ⟨l,rfl,by simpa using hl⟩
theorem A0 {k:Nat} {us:List ag} (h:Shaped Tryz.prog (k + 3) 24 us):∃ l:List aj,us = [.slice 5 (l.map aj.v)] ∧ l.length ≤ maxLen:=by
 obtain ⟨xs,rfl,hl,hx⟩:=h.sl Uy;obtain ⟨l,rfl,_⟩:=ta (f:=aj.v) (p:=fun _=>True) (xs:=xs) fun v hv=>by
  obtain ⟨cs,q1,q2⟩:=hx v hv;obtain ⟨p,rfl⟩:=Dc q1;exact ⟨p,q2,trivial⟩
 exact ⟨l,rfl,by simpa using hl⟩
theorem n6 {k:Nat} {us:List ag} (h:Shaped Tryz.prog (k + 5) 26 us):∃ y:ab,us = y.cells ∧ dv y:=by
 obtain ⟨a,r,rfl,h1,b,r2,rfl,h2,c,r3,rfl,h3,d,r4,rfl,h4,e,r5,rfl,h5,rfl⟩:=h.fs Tc;obtain ⟨ks,rfl,g1⟩:=uN h1;obtain ⟨ps,rfl,g2⟩:=uN h2;obtain ⟨fs,rfl,g3⟩:=uy h3;obtain ⟨pp,rfl,g4⟩:=A0 h4;obtain ⟨ls,rfl,g5⟩:=uy h5;exact ⟨⟨ks,ps,fs,pp,ls⟩,rfl,⟨g1,g2,g3,g4,g5⟩⟩
theorem VR {k:Nat} {us:List ag} (h:Shaped Tryz.prog (k + 1) 61 us):∃ n:Nat,us = [.int .u16 n] ∧ n ≤ 65535:=by
 obtain ⟨n,rfl,h1,h2⟩:=h.int Wy;have g1:(0:Int) ≤ n:=h1;have g2:n ≤ 65535:=h2;exact ⟨n.toNat,by rw [Int.toNat_of_nonneg g1],by omega⟩
theorem VP {k:Nat} {us:List ag} (h:Shaped Tryz.prog (k + 1) 80 us):∃ n:Nat,us = [.int .u32 n] ∧ n ≤ 4294967295:=by
 obtain ⟨n,rfl,h1,h2⟩:=h.int Wx;have g1:(0:Int) ≤ n:=h1;have g2:n ≤ 4294967295:=h2;exact ⟨n.toNat,by rw [Int.toNat_of_nonneg g1],by omega⟩
end Go.AM
namespace Go.Proofs.YtlmhkldmpggadaaGreatDoor
open Go.ChangeShapes Go.WideShapes Go.ChangeAt Go.RowKit Go.AM
def isAgg (P:Program) (n:TypeId):Bool:=match fX (P.underlying n) with
 | some true=>true
 | _=>false
theorem Fs (n:Nat) (us:List ag) (h:isAgg Tryz.prog n = true):nQ (fX (Tryz.prog.underlying n)) us = .agg us:=by
 unfold isAgg at h;unfold nQ
 split at h
 ·rename_i e; rw [e]
 ·cases h
def I1 (P:Program) (k:Nat):List TypeId → Bool
 | []=>true
 | t :: r=>eu P k t && P.readableRec t && decide (t < P.types.size) && I1 P k r
theorem kE {P:Program} {k:Nat}:∀ {l:List TypeId},I1 P k l = true → ∀ t ∈ l,eu P k t = true ∧ P.readableRec t = true ∧ t < P.types.size
 | t :: r,h,x,hx=>by
  simp only [I1,Bool.and_eq_true,decide_eq_true_eq] at h;rcases List.mem_cons.1 hx with rfl | hx
  ·exact ⟨h.1.1.1,h.1.1.2,h.1.2⟩
  ·exact kE h.2 x hx
end Go.Proofs.YtlmhkldmpggadaaGreatDoor
namespace Go.AM
open Go.Proofs
set_option maxRecDepth 100000
set_option maxHeartbeats 1000000
def df (p:Int × Int × Int):ag:=.tup [ii' p.1,ii' p.2.1,ii' p.2.2]
def qU:List (Int × Int) → Int → Int × Int × Int
 | [],_=>(0,0,0)
 | p :: r,n=>if p.2 ≠ 0 then (n,p) else qU r (n + 1)
def ic (y:ab):List (Int × Int):=[aG (gp aQ y.kinds) y.kinds 0,aG (gp aQ y.places) y.places 0,aG (gN y y.first) y.first 0,aG (mD y) y.papers 0,aG (gN y y.last) y.last 0]
theorem Ah (y:ab):cN aQ y = if inI y.kinds.length 1 4 = false ∨ inI y.places.length 1 4 = false ∨ 10 < y.papers.length ∨ 8 < y.first.length ∨ 8 < y.last.length then (1,0,3) else qU (ic y) 2:=rfl
def dY (y:ab):List ag:=[.func (.func KT) [] [.pval y.v], .func (.func Ka) [] [.pval y.v], .func (.func Kh) [] [.pval y.v], .func (.func Kb) [] [.pval y.v], .func (.func JV) [] [.pval y.v]]
theorem iR (y:ab) (hy:dv y) (σ:af):Spec Tryz.prog MT [y.v] σ fun r σ'=>r = .ret (df (cN aQ y)) ∧ σ' = σ:=by
 refine Spec.aF (TG (by simp) ?_) (by simp [y.pure,aH]) (by simp [df,ag.pure,aH]) σ;rw [Ah];have hb1:=fun σ=>cj 1 4 (y.kinds.length:Int) σ;have hb2:=fun σ=>cj 1 4 (y.places.length:Int) σ;rcases tf (inI (y.kinds.length:Int) 1 4) with a1 | a1
 ·rw [a1] at hb1;rw [if_pos (.inl a1)];refine aa _ ?_;simp [GI,ab.v,ab.cells];refine ah.pure cm (hb1 _) ?_;simp [df]
 rw [a1] at hb1;rcases tf (inI (y.places.length:Int) 1 4) with a2 | a2
 ·rw [a2] at hb2;rw [if_pos (.inr (.inl a2))];refine aa _ ?_;simp [GI,ab.v,ab.cells];refine ah.pure cm (hb1 _) ?_;simp;refine ah.pure cm (hb2 _) ?_;simp [df]
 rw [a2] at hb2;by_cases a3:10 < y.papers.length
 ·rw [if_pos (.inr (.inr (.inl a3)))];have a3I:(10:Int) < y.papers.length:=by omega
  refine aa _ ?_;simp [GI,ab.v,ab.cells];refine ah.pure cm (hb1 _) ?_;simp;refine ah.pure cm (hb2 _) ?_;simp [df,a3I]
 have a3I:¬ (10:Int) < y.papers.length:=by omega
 obtain ⟨u,hu⟩:=zqq y.first.length
 obtain ⟨v,hv⟩:=zqq y.last.length;obtain ⟨m,hm,hm8⟩:∃ m:Nat,((if u < v then (v:Int) else (u:Int)) = m) ∧ (8 < m ↔ 8 < u ∨ 8 < v):=by
  by_cases h:u < v
  ·exact ⟨v,by rw [if_pos h],by omega⟩
  ·exact ⟨u,by rw [if_neg h],by omega⟩
 rw [hu,hv];by_cases a4:8 < u ∨ 8 < v
 ·have a4I:(8:Int) < m:=by have:=hm8.2 a4; omega
  rw [if_pos (.inr (.inr (.inr a4)))];refine aa _ ?_;simp [GI,ab.v,ab.cells];refine ah.pure cm (hb1 _) ?_;simp;refine ah.pure cm (hb2 _) ?_;simp [df,a3I,hu,hv,hm,a4I]
 have a4I:¬ (8:Int) < m:=fun h=>a4 (hm8.1 (by omega));rw [if_neg (by simp only [a1,a2]; simp; omega)];have c1:=fun σ=>rE y hy σ;have c2:=fun σ=>rH y hy σ;have c3:=fun σ=>qR y hy σ;have c4:=fun σ=>qM y hy σ;have c5:=fun σ=>rI y hy σ;simp only [ab.v,ab.cells] at c1 c2 c3 c4 c5;obtain ⟨E,hE⟩:=zqq (qU (ic y) 2);rw [hE];refine aa _ ?_;simp [GI,ab.v,ab.cells];refine ah.pure cm (hb1 _) ?_;simp;refine ah.pure cm (hb2 _) ?_;simp [a3I,hu,hv,hm,a4I];refine AW.loop (ι:=Nat) (fun i fr _=>fr = { v:=[(50, .agg (dY y)),(51, .int .i64 i)],ds:=[] } ∧ i ≤ 5 ∧ qU ((ic y).drop i) (i + 2) = E) (fun i=>5 - i) 0 ⟨by simp [dY,ab.v,ab.cells],by omega,hE⟩ ?_;rintro i fr σ' ⟨rfl,hi,hp⟩;have hcs:i = 0 ∨ i = 1 ∨ i = 2 ∨ i = 3 ∨ i = 4 ∨ i = 5:=by omega
 rcases hcs with rfl | rfl | rfl | rfl | rfl | rfl
 ·obtain ⟨q,hq⟩:=zqq (aG (gp aQ y.kinds) y.kinds 0);simp only [ic,List.drop,qU,hq] at hp;rw [hq] at c1;simp only [dt] at c1;by_cases hz:q.2 = 0
  ·rw [if_neg (by simp [hz])] at hp;refine aa _ ?_;simp [dY,ab.v,ab.cells];refine ah.qe QO (c1 _) ?_;rintro r σ1 ⟨rfl,rfl⟩;refine ⟨_,rfl, ?_⟩;simp [hz,show IntKind.i64.wrap (1:Int) = 1 from rfl];exact ⟨1,by omega,by simp,by omega,by simpa [ic,qU] using hp⟩
  ·rw [if_pos hz] at hp;refine aa _ ?_;simp [dY,ab.v,ab.cells];refine ah.qe QO (c1 _) ?_;rintro r σ1 ⟨rfl,rfl⟩;refine ⟨_,rfl, ?_⟩;simp [hz, ← hp,df,show IntKind.i64.wrap (2:Int) = 2 from rfl]
 ·obtain ⟨q,hq⟩:=zqq (aG (gp aQ y.places) y.places 0);simp only [ic,List.drop,qU,hq] at hp;rw [hq] at c2;simp only [dt] at c2;by_cases hz:q.2 = 0
  ·rw [if_neg (by simp [hz])] at hp;refine aa _ ?_;simp [dY,ab.v,ab.cells];refine ah.qe O4 (c2 _) ?_;rintro r σ1 ⟨rfl,rfl⟩;refine ⟨_,rfl, ?_⟩;simp [hz,show IntKind.i64.wrap (2:Int) = 2 from rfl];exact ⟨2,by omega,by simp,by omega,by simpa [ic,qU] using hp⟩
  ·rw [if_pos hz] at hp;refine aa _ ?_;simp [dY,ab.v,ab.cells];refine ah.qe O4 (c2 _) ?_;rintro r σ1 ⟨rfl,rfl⟩;refine ⟨_,rfl, ?_⟩;simp [hz, ← hp,df,show IntKind.i64.wrap (3:Int) = 3 from rfl]
 ·obtain ⟨q,hq⟩:=zqq (aG (gN y y.first) y.first 0);simp only [ic,List.drop,qU,hq] at hp;rw [hq] at c3;simp only [dt] at c3;by_cases hz:q.2 = 0
  ·rw [if_neg (by simp [hz])] at hp;refine aa _ ?_;simp [dY,ab.v,ab.cells];refine ah.qe OW (c3 _) ?_;rintro r σ1 ⟨rfl,rfl⟩;refine ⟨_,rfl, ?_⟩;simp [hz,show IntKind.i64.wrap (3:Int) = 3 from rfl];exact ⟨3,by omega,by simp,by omega,by simpa [ic,qU] using hp⟩
  ·rw [if_pos hz] at hp;refine aa _ ?_;simp [dY,ab.v,ab.cells];refine ah.qe OW (c3 _) ?_;rintro r σ1 ⟨rfl,rfl⟩;refine ⟨_,rfl, ?_⟩;simp [hz, ← hp,df,show IntKind.i64.wrap (4:Int) = 4 from rfl]
 ·obtain ⟨q,hq⟩:=zqq (aG (mD y) y.papers 0);simp only [ic,List.drop,qU,hq] at hp;rw [hq] at c4;simp only [dt] at c4;by_cases hz:q.2 = 0
  ·rw [if_neg (by simp [hz])] at hp;refine aa _ ?_;simp [dY,ab.v,ab.cells];refine ah.qe QC (c4 _) ?_;rintro r σ1 ⟨rfl,rfl⟩;refine ⟨_,rfl, ?_⟩;simp [hz,show IntKind.i64.wrap (4:Int) = 4 from rfl];exact ⟨4,by omega,by simp,by omega,by simpa [ic,qU] using hp⟩
  ·rw [if_pos hz] at hp;refine aa _ ?_;simp [dY,ab.v,ab.cells];refine ah.qe QC (c4 _) ?_;rintro r σ1 ⟨rfl,rfl⟩;refine ⟨_,rfl, ?_⟩;simp [hz, ← hp,df,show IntKind.i64.wrap (5:Int) = 5 from rfl]
 ·obtain ⟨q,hq⟩:=zqq (aG (gN y y.last) y.last 0);simp only [ic,List.drop,qU,hq] at hp;rw [hq] at c5;simp only [dt] at c5;by_cases hz:q.2 = 0
  ·rw [if_neg (by simp [hz])] at hp;refine aa _ ?_;simp [dY,ab.v,ab.cells];refine ah.qe RY (c5 _) ?_;rintro r σ1 ⟨rfl,rfl⟩;refine ⟨_,rfl, ?_⟩;simp [hz,show IntKind.i64.wrap (5:Int) = 5 from rfl];exact ⟨5,by omega,by simp,by omega,by simpa [ic,qU] using hp⟩
  ·rw [if_pos hz] at hp;refine aa _ ?_;simp [dY,ab.v,ab.cells];refine ah.qe RY (c5 _) ?_;rintro r σ1 ⟨rfl,rfl⟩;refine ⟨_,rfl, ?_⟩;simp [hz, ← hp,df,show IntKind.i64.wrap (6:Int) = 6 from rfl]
 ·simp only [ic,List.drop,qU] at hp;refine aa _ ?_;simp [← hp,df]
/-! ### open -/
def vd (y:ab) (wrong:List Int) (k:Nat) (i:Int):Int:=if inI i 0 ((y.papers.length:Int) - 1) = false then 4 else if 0 < k ∧ i ≤ wrong.getD (k - 1) 0 then 2 else 0
def bW (y:ab) (wrong:List Int):Int:=if (cN aQ y).2.2 ≠ 0 then (cN aQ y).2.2 else (aG (vd y wrong) wrong 0).2
theorem BK (y:ab) (hy:dv y) (wrong:List Int) (hwl:wrong.length ≤ maxLen) (k:Nat) (hk:k < wrong.length) (b:Nat) (σ:af) (hb:σ[b]? = some (.box y.cells)) :
  Spec Tryz.prog Fi [ii' k,ii' wrong[k], .ptr b 0, .pval (.slice 1 (wrong.map ii'))] σ fun r σ'=>r = .ret (ii' (vd y wrong k wrong[k])) ∧ σ' = σ:=by
 obtain ⟨i,hi⟩:=zqq (wrong[k]);have hm:=hy.papers;simp only [maxLen] at hm;have w3:IntKind.i64.wrap ((y.papers.length:Int) - 1) = (y.papers.length:Int) - 1:=aq (by omega) (by omega);obtain ⟨hbl,hbe⟩:=List.getElem?_eq_some_iff.1 hb;have hb1:=fun σ=>cj 0 ((y.papers.length:Int) - 1) i σ;rw [hi];unfold vd;refine O5 (by simp) ?_;rcases tf (inI i 0 ((y.papers.length:Int) - 1)) with a1 | a1
 ·rw [a1] at hb1;rw [if_pos a1];refine aa _ ?_;simp [Bq,hbl,hbe,ab.cells,w3];refine ah.pure cm (hb1 _) ?_;simp
 rw [a1] at hb1;rw [if_neg (by simp [a1])];rcases Nat.eq_zero_or_pos k with h0 | h0
 ·subst h0;refine aa _ ?_;simp [Bq,hbl,hbe,ab.cells,w3];refine ah.pure cm (hb1 _) ?_;simp [show IntKind.i64.wrap (-1) = -1 from rfl,hk,hi]
 ·obtain ⟨j,rfl⟩:∃ j,k = j + 1:=⟨k - 1,by omega⟩;have hj:j < wrong.length:=by omega
  obtain ⟨v,hv⟩:=zqq (wrong[j]);have hg:wrong.getD (j + 1 - 1) 0 = v:=by
   rw [Nat.add_sub_cancel,List.getD_eq_getElem?_getD,List.getElem?_eq_getElem hj,hv]; rfl
  rw [hg];have hjI:(0:Int) < (j:Int) + 1:=by omega
  have hwj:IntKind.i64.wrap (j:Int) = j:=by
   exact aq (by omega) (by simp only [maxLen] at hwl; omega)
  by_cases h2:i ≤ v
  ·rw [if_pos ⟨by omega,h2⟩];refine aa _ ?_;simp [Bq,hbl,hbe,ab.cells,w3];refine ah.pure cm (hb1 _) ?_;simp [hjI,hwj,hj,hv,h2]
  ·rw [if_neg (by simp [h2])];refine aa _ ?_;simp [Bq,hbl,hbe,ab.cells,w3];refine ah.pure cm (hb1 _) ?_;simp [hjI,hwj,hj,hv,h2]
theorem eT (y:ab) (hy:dv y) (wrong:List Int) (hwl:wrong.length ≤ maxLen) (σ:af) :
  Spec Tryz.prog MX [y.v, .slice 1 (wrong.map ii')] σ fun r σ'=>r = .ret (.tup [y.v,ii' (bW y wrong)]) ∧ σ' = σ:=by
 refine Spec.aF (U1 (by simp) ?_) (by simp [y.pure,aH,ag.pure,aD (f:=ii') (fun _=>rfl)]) (by simp [y.pure,ag.pure,aH]) σ;have hc:=fun σ=>iR y hy σ;unfold bW;simp only [ab.v,ab.cells,df] at hc ⊢;by_cases h0:(cN aQ y).2.2 = 0
 ·rw [if_neg (by simp [h0])];rw [h0] at hc;have hf:=fun τ=>pU Fi [] [.ptr 0 0, .pval (.slice 1 (wrong.map ii'))] wrong (vd y wrong) hwl (fun _ σ=>∃ tl,σ = .box y.cells :: tl) (fun _ σ h=>by obtain ⟨tl,rfl⟩:=h; exact ⟨tl ++ [.dead],rfl⟩)
   (fun k hk σ h=>by
    obtain ⟨tl,rfl⟩:=h
    exact aE.func QI ((BK y hy wrong hwl k hk 0 _ rfl).mono fun r σ' h=>⟨h.1,tl,h.2⟩)) (.box y.cells :: τ) ⟨τ,rfl⟩
  simp only [ab.cells] at hf;refine aa _ ?_;simp [NN];refine ah.pure Dr (hc _) ?_;simp;refine ah.spec QG (hf _) ?_;rintro r σ1 ⟨rfl,_,tl,rfl⟩;refine ⟨_,rfl, ?_⟩;simp
 ·rw [if_pos h0];refine aa _ ?_;simp [NN];refine ah.pure Dr (hc _) ?_;simp [h0]
theorem cr (n lo hi:Int) (σ:af):Spec Tryz.prog Ns [ii' n,ii' lo,ii' hi] σ fun r σ'=>r = .ret (.bool (inI n lo hi)) ∧ σ' = σ:=by
 refine Spec.aF (Ua (by simp) (aa _ ?_)) rfl rfl σ;unfold inI;by_cases h1:lo ≤ n <;> by_cases h2:n ≤ hi <;> simp [Rq,h1,h2]
theorem yO (s:ByteArray):∀ (l:List ByteArray) (i:Nat),(0 ≤ kA l s i) ↔ l.any (fun t=>decide (t = s)) = true
 | [],i=>by simp [kA]
 | a :: r,i=>by
  have ih:=yO s r (i + 1);rw [List.any_cons,Bool.or_eq_true,decide_eq_true_eq];unfold kA;by_cases h:a = s
  ·rw [if_pos (by rw [h]; simp)]; exact ⟨fun _=>.inl h,fun _=>by omega⟩
  ·have hb:¬ (a.toList == s.toList) = true:=by rw [nmd,decide_eq_true_eq]; exact h
   rw [if_neg hb,ih];exact ⟨.inr,fun e=>e.elim (fun e=>absurd e h) id⟩
theorem Gp (l:List ByteArray) (i:Nat) (s:ByteArray):rf s (l.take i) = gp aQ l i s:=by
 have hp:=yO s (l.take i) 0;unfold rf gp
 cases aQ s with
 | false=>rfl
 | true=>
  by_cases h:(l.take i).any (fun t=>decide (t = s)) = true
  ·simp only [if_pos (hp.2 h),if_pos h]; rfl
  ·simp only [if_neg (fun e=>h (hp.1 e)),if_neg h]; rfl
theorem pj {α:Type} (f:Nat → α → Int) (l:List α) {i:Nat} (h:i < l.length):aG f (l.drop i) i = if f i l[i] ≠ 0 then ((i:Int),f i l[i]) else aG f (l.drop (i + 1)) (i + 1):=by
 rw [List.drop_eq_getElem_cons h]; rfl
theorem n9 (l:List ByteArray) (hl:l.length ≤ maxLen) (σ:af):Spec Tryz.prog MF [.slice 1 (l.map .str)] σ fun r σ'=>r = .ret (.tup [ii' (aG (gp aQ l) l 0).1,ii' (aG (gp aQ l) l 0).2]) ∧ σ' = σ:=by
 refine Spec.aF (Wu (by simp) (aa _ ?_)) (by simp [aH,ag.pure,aD (f:=ag.str) (fun _=>rfl)]) rfl σ;simp [O0];refine AW.loop (ι:=Nat) (fun i fr σ=>fr = { v:=[(0, .slice 1 (l.map .str)),(4, .int .i64 i)],ds:=[] } ∧ i ≤ l.length ∧ aG (gp aQ l) l 0 = aG (gp aQ l) (l.drop i) i) (fun i=>l.length - i) 0 (by simp) ?_;rintro i fr σ ⟨rfl,hi,hp⟩;refine (Nat.lt_or_ge i l.length).elim (fun hlt=>?_) (fun hge=>?_)
 ·rw [pj _ l hlt, ← Gp] at hp;obtain ⟨x,hx⟩:=zqq (l[i]);rw [hx] at hp;have hf:=fun σ=>wT (l.take i) x (by rw [List.length_take]; omega) σ;have htk:List.take i (l.map ag.str) = (l.take i).map ag.str:=by rw [List.map_take]
  have hw:IntKind.i64.wrap ((i:Int) + 1) = ((i + 1:Nat):Int):=by rw [aq (by omega) (by simp only [maxLen] at hl; omega)]; simp
  rw [List.map_take] at hf;by_cases h0:rf x (l.take i) = 0
  ·rw [if_neg (by simp [h0])] at hp;rw [h0] at hf;rw [hp];refine aa _ ?_;simp [hlt,hx];refine ⟨by omega,_,fun σ' _=>aE.func LW (hf σ'), ?_⟩;simp [hw];exact ⟨i + 1,by omega,rfl,by omega,rfl⟩
  ·rw [if_pos h0] at hp;rw [hp];obtain ⟨e,he⟩:=zqq (rf x (l.take i));rw [he] at hf h0 ⊢;refine aa _ ?_;simp [hlt,hx];refine ⟨by omega,_,fun σ' _=>aE.func LW (hf σ'), ?_⟩;simp [h0]
 ·have hd:l.drop i = []:=List.drop_eq_nil_of_le hge;rw [hd] at hp;rw [hp];refine aa _ ?_;simp [show ¬ i < l.length by omega,aG]
theorem I0 (a b:Int):jb (a,b) 0 1000000 = if inI a 0 1000000 = false ∨ inI b 0 1000000 = false then 7 else if a > b then 2 else 0:=by
 unfold jb tD inI;by_cases h1:0 ≤ a <;> by_cases h2:a ≤ 1000000 <;> by_cases h3:0 ≤ b <;> by_cases h4:b ≤ 1000000 <;> simp [h1,h2,h3,h4]
theorem nJ (y:ab) (hy:dv y) (l:List ay) (hl:l.length ≤ maxLen) (σ:af) :
  Spec Tryz.prog Od [y.v, .slice 4 (l.map ay.v)] σ fun r σ'=>r = .ret (dt (aG (gN y l) l 0)) ∧ σ' = σ:=by
 refine Spec.aF (Su (by simp) (aa _ ?_)) (by simp [y.pure,aH,ag.pure,aD (f:=ay.v) (fun c=>c.pure)]) (by simp [dt,ag.pure,aH]) σ;have hk:=hy.kinds;have hp:=hy.places;obtain ⟨ks,ps,fs,pp,ls⟩:=y;simp only [maxLen] at hk hp hl;obtain ⟨nk,hnk⟩:=zqq ((ks.length:Int) - 1);obtain ⟨np,hnp⟩:=zqq ((ps.length:Int) - 1);have w1:IntKind.i64.wrap ((ks.length:Int) - 1) = nk:=by rw [aq (by omega) (by omega),hnk]
 have w2:IntKind.i64.wrap ((ps.length:Int) - 1) = np:=by rw [aq (by omega) (by omega),hnp]
 simp [PX,ab.v,ab.cells];refine AW.loop (ι:=Nat) (fun i fr σ=>fr = { v:=[(1, .slice 4 (l.map ay.v)),(2, .pval (.agg [.slice 1 (ks.map .str), .slice 1 (ps.map .str), .slice 4 (fs.map ay.v), .slice 5 (pp.map aj.v), .slice 4 (ls.map ay.v)])),(6, .int .i64 i)],ds:=[] } ∧ i ≤ l.length ∧ aG (gN ⟨ks,ps,fs,pp,ls⟩ l) l 0 = aG (gN ⟨ks,ps,fs,pp,ls⟩ l) (l.drop i) i) (fun i=>l.length - i) 0 (by simp) ?_;rintro i fr σ ⟨rfl,hi,hq⟩;refine (Nat.lt_or_ge i l.length).elim (fun hlt=>?_) (fun hge=>?_);rotate_left
 ·have hd:l.drop i = []:=List.drop_eq_nil_of_le hge;rw [hd] at hq;rw [hq];refine aa _ ?_;simp [show ¬ i < l.length by omega,aG,dt]
 rw [pj _ l hlt] at hq;obtain ⟨⟨k,p,a,b⟩,hx⟩:∃ x,l[i] = x:=⟨_,rfl⟩;rw [hx] at hq;have hw:IntKind.i64.wrap ((i:Int) + 1) = ((i + 1:Nat):Int):=by rw [aq (by omega) (by omega)]; simp
 have hi1:=fun σ=>cr k 0 nk σ;have hi2:=fun σ=>cr p 0 np σ;have hr:=fun σ=>v8 a b 0 1000000 σ;have hE:gN ⟨ks,ps,fs,pp,ls⟩ l i ⟨k,p,a,b⟩ = if inI k 0 nk = false ∨ inI p 0 np = false then 4 else if (l.take i).any (fun d=>decide (d.kind = k) && decide (d.place = p)) = true then 5 else jb (a,b) 0 1000000:=by
  rw [I0, ← hnk, ← hnp]; rfl
 refine (tf (inI k 0 nk)).elim (fun a1=>?_) (fun a1=>?_)
 ·rw [a1] at hi1;rw [if_pos (.inl a1)] at hE;rw [hE,if_pos (by decide)] at hq;rw [hq];refine aa _ ?_;simp [hlt,hx,ay.v,ay.cells,w1];refine ah.pure cU (hi1 _) ?_;simp [hlt,hx,ay.v,ay.cells,w1,w2,dt]
 refine (tf (inI p 0 np)).elim (fun a2=>?_) (fun a2=>?_)
 ·rw [a1] at hi1;rw [a2] at hi2;rw [if_pos (.inr a2)] at hE;rw [hE,if_pos (by decide)] at hq;rw [hq];refine aa _ ?_;simp [hlt,hx,ay.v,ay.cells,w1];refine ah.pure cU (hi1 _) ?_;simp [hlt,hx,ay.v,ay.cells,w1,w2];refine ah.pure cU (hi2 _) ?_;simp [hlt,hx,ay.v,ay.cells,w1,w2,dt]
 rw [a1] at hi1;rw [a2] at hi2;rw [if_neg (by simp [a1,a2])] at hE;refine aa _ ?_;simp [hlt,hx,ay.v,ay.cells,w1];refine ah.pure cU (hi1 _) ?_;simp [hlt,hx,ay.v,ay.cells,w1,w2];refine ah.pure cU (hi2 _) ?_;simp [hlt,hx,ay.v,ay.cells,w1,w2,dt];refine AW.loop (ι:=Nat) (fun m fr σ=>fr = { v:=[(1, .slice 4 (l.map ay.v)),(2, .pval (.agg [.slice 1 (ks.map .str), .slice 1 (ps.map .str), .slice 4 (fs.map ay.v), .slice 5 (pp.map aj.v), .slice 4 (ls.map ay.v)])),(6, .int .i64 i),(7, .pval (.agg [ii' k,ii' p,ii' a,ii' b])),(8, .int .i64 m)],ds:=[] } ∧ m ≤ i ∧ (l.take m).any (fun d=>decide (d.kind = k) && decide (d.place = p)) = false) (fun m=>i - m) 0 ⟨rfl,by omega,rfl⟩ ?_;rintro m fr σ ⟨rfl,hm,hno⟩;refine (Nat.lt_or_ge m i).elim (fun hml=>?_) (fun hmg=>?_)
 ·have hmlt:m < l.length:=by omega
  obtain ⟨⟨k',p',a',b'⟩,hx'⟩:∃ x,l[m] = x:=⟨_,rfl⟩;have hw2:IntKind.i64.wrap ((m:Int) + 1) = ((m + 1:Nat):Int):=by rw [aq (by omega) (by omega)]; simp
  have hst:(l.take (m + 1)).any (fun d=>decide (d.kind = k) && decide (d.place = p)) = (decide (k' = k) && decide (p' = p)):=by
   rw [List.take_succ_eq_append_getElem hmlt,List.any_append,hno,hx']; simp
  by_cases e1:k' = k
  ·by_cases e2:p' = p
   ·have hany:(l.take i).any (fun d=>decide (d.kind = k) && decide (d.place = p)) = true:=by
     rw [List.any_eq_true];exact ⟨l[m],List.mem_take_iff_getElem.2 ⟨m,by omega,rfl⟩,by rw [hx']; simp [e1,e2]⟩
    rw [if_pos hany] at hE;rw [hE,if_pos (by decide)] at hq;rw [hq];refine aa _ ?_;simp [hml,hmlt,hx',ay.v,ay.cells,e1,e2,dt]
   ·refine aa _ ?_;simp [hml,hmlt,hx',ay.v,ay.cells,e1,e2,hw2];exact ⟨m + 1,by omega,rfl,by omega,by have h9:=hst.trans (by simp [e2]:_ = false); simpa using h9⟩
  ·refine aa _ ?_;simp [hml,hmlt,hx',ay.v,ay.cells,e1,hw2];exact ⟨m + 1,by omega,rfl,by omega,by have h9:=hst.trans (by simp [e1]:_ = false); simpa using h9⟩
 ·obtain rfl:m = i:=by omega
  rw [if_neg (by rw [hno]; simp)] at hE;by_cases h0:jb (a,b) 0 1000000 = 0
  ·rw [hE,h0,if_neg (by decide)] at hq;rw [h0] at hr;rw [hq];refine aa _ ?_;simp [hlt];refine ah.pure Lm (hr _) ?_;simp [hw];exact ⟨m + 1,by omega,rfl,by omega,rfl⟩
  ·rw [hE,if_pos h0] at hq;rw [hq];obtain ⟨e,he⟩:=zqq (jb (a,b) 0 1000000);rw [he] at hr h0 ⊢;refine aa _ ?_;simp [hlt];refine ah.pure Lm (hr _) ?_;simp [h0,dt]
theorem vW (y:ab) (hy:dv y) (i:Nat) (hi:i < y.papers.length) (σ:af) :
  Spec Tryz.prog M3 [y.v,ii' i] σ fun r σ'=>r = .ret (ii' (mD y i y.papers[i])) ∧ σ' = σ:=by
 refine Spec.aF (Tz (by simp) ?_) (by simp [y.pure,aH,ag.pure]) rfl σ;have hk:=hy.kinds;have hp:=hy.places;have hm:=hy.papers;obtain ⟨ks,ps,fs,pp,ls⟩:=y;simp only [maxLen] at hk hp hm hi ⊢;obtain ⟨nk,hnk⟩:=zqq ((ks.length:Int) - 1);obtain ⟨np,hnp⟩:=zqq ((ps.length:Int) - 1);obtain ⟨nm,hnm⟩:=zqq ((pp.length:Int) - 1);have w1:IntKind.i64.wrap ((ks.length:Int) - 1) = nk:=by rw [aq (by omega) (by omega),hnk]
 have w2:IntKind.i64.wrap ((ps.length:Int) - 1) = np:=by rw [aq (by omega) (by omega),hnp]
 have w3:IntKind.i64.wrap ((pp.length:Int) - 1) = nm:=by rw [aq (by omega) (by omega),hnm]
 obtain ⟨⟨k,s,d,n,c⟩,hx⟩:∃ x,pp[i] = x:=⟨_,rfl⟩;have hI1:=fun σ=>cr k 0 nk σ;have hI2:=fun σ=>cr s (-1) np σ;have hI3:=fun σ=>cr d (-1) np σ;have hI4:=fun σ=>cr n 0 1000000 σ;have hI5:=fun σ=>cr c 0 nm σ;rw [hx];unfold mD;dsimp only;rw [hnk,hnp,hnm];by_cases a1:inI k 0 nk = false
 ·rw [a1] at hI1;rw [if_pos (.inl a1)];refine aa _ ?_;simp [yr,ab.v,ab.cells,hi,hx,aj.v,aj.cells,w1];refine ah.pure cU (hI1 _) ?_;simp [hi,hx,aj.v,aj.cells,w1,w2]
 by_cases a2:inI s (-1) np = false
 ·rw [Bool.not_eq_false] at a1;rw [a1] at hI1;rw [a2] at hI2;rw [if_pos (.inr (.inl a2))];refine aa _ ?_;simp [yr,ab.v,ab.cells,hi,hx,aj.v,aj.cells,w1];refine ah.pure cU (hI1 _) ?_;simp [hi,hx,aj.v,aj.cells,w1,w2];refine ah.pure cU (hI2 _) ?_;simp [hi,hx,aj.v,aj.cells,w1,w2]
 by_cases a3:inI d (-1) np = false
 ·rw [Bool.not_eq_false] at a1 a2;rw [a1] at hI1;rw [a2] at hI2;rw [a3] at hI3;rw [if_pos (.inr (.inr a3))];refine aa _ ?_;simp [yr,ab.v,ab.cells,hi,hx,aj.v,aj.cells,w1];refine ah.pure cU (hI1 _) ?_;simp [hi,hx,aj.v,aj.cells,w1,w2];refine ah.pure cU (hI2 _) ?_;simp [hi,hx,aj.v,aj.cells,w1,w2];refine ah.pure cU (hI3 _) ?_;simp [hi,hx,aj.v,aj.cells,w1,w2]
 rw [if_neg (by simp [a1,a2,a3])];rw [Bool.not_eq_false] at a1 a2 a3;rw [a1] at hI1;rw [a2] at hI2;rw [a3] at hI3;by_cases a4:s = d
 ·rw [if_pos a4];refine aa _ ?_;simp [yr,ab.v,ab.cells,hi,hx,aj.v,aj.cells,w1];refine ah.pure cU (hI1 _) ?_;simp [hi,hx,aj.v,aj.cells,w1,w2];refine ah.pure cU (hI2 _) ?_;simp [hi,hx,aj.v,aj.cells,w1,w2];refine ah.pure cU (hI3 _) ?_;simp [hi,hx,aj.v,aj.cells,w1,w2,a4]
 rw [if_neg a4];by_cases a5:inI n 0 1000000 = false
 ·rw [a5] at hI4;rw [if_pos a5];refine aa _ ?_;simp [yr,ab.v,ab.cells,hi,hx,aj.v,aj.cells,w1];refine ah.pure cU (hI1 _) ?_;simp [hi,hx,aj.v,aj.cells,w1,w2];refine ah.pure cU (hI2 _) ?_;simp [hi,hx,aj.v,aj.cells,w1,w2];refine ah.pure cU (hI3 _) ?_;simp [hi,hx,aj.v,aj.cells,w1,w2,a4];refine ah.pure cU (hI4 _) ?_;simp [hi,hx,aj.v,aj.cells,w1,w2,w3]
 rw [if_neg a5];rw [Bool.not_eq_false] at a5;rw [a5] at hI4;by_cases a6:c = -1
 ·rw [if_pos a6];refine aa _ ?_;simp [yr,ab.v,ab.cells,hi,hx,aj.v,aj.cells,w1];refine ah.pure cU (hI1 _) ?_;simp [hi,hx,aj.v,aj.cells,w1,w2];refine ah.pure cU (hI2 _) ?_;simp [hi,hx,aj.v,aj.cells,w1,w2];refine ah.pure cU (hI3 _) ?_;simp [hi,hx,aj.v,aj.cells,w1,w2,a4];refine ah.pure cU (hI4 _) ?_;simp [hi,hx,aj.v,aj.cells,w1,w2,w3,a6]
 rw [if_neg a6];by_cases a7:inI c 0 nm = false
 ·rw [a7] at hI5;rw [if_pos (.inl a7)];refine aa _ ?_;simp [yr,ab.v,ab.cells,hi,hx,aj.v,aj.cells,w1];refine ah.pure cU (hI1 _) ?_;simp [hi,hx,aj.v,aj.cells,w1,w2];refine ah.pure cU (hI2 _) ?_;simp [hi,hx,aj.v,aj.cells,w1,w2];refine ah.pure cU (hI3 _) ?_;simp [hi,hx,aj.v,aj.cells,w1,w2,a4];refine ah.pure cU (hI4 _) ?_;simp [hi,hx,aj.v,aj.cells,w1,w2,w3,a6];refine ah.pure cU (hI5 _) ?_;simp [hi,hx,aj.v,aj.cells,w1,w2,w3]
 rw [Bool.not_eq_false] at a7;rw [a7] at hI5;by_cases a8:c = (i:Int)
 ·rw [if_pos (.inr a8)];refine aa _ ?_;simp [yr,ab.v,ab.cells,hi,hx,aj.v,aj.cells,w1];refine ah.pure cU (hI1 _) ?_;simp [hi,hx,aj.v,aj.cells,w1,w2];refine ah.pure cU (hI2 _) ?_;simp [hi,hx,aj.v,aj.cells,w1,w2];refine ah.pure cU (hI3 _) ?_;simp [hi,hx,aj.v,aj.cells,w1,w2,a4];refine ah.pure cU (hI4 _) ?_;simp [hi,hx,aj.v,aj.cells,w1,w2,w3,a6];refine ah.pure cU (hI5 _) ?_;simp [hi,hx,aj.v,aj.cells,w1,w2,w3,a8]
 rw [if_neg (by simp [a7,a8])];have h7:0 ≤ c ∧ c ≤ nm:=by simpa [inI] using a7
 obtain ⟨j,rfl⟩:∃ j:Nat,c = j:=⟨c.toNat,by omega⟩;have hj:j < pp.length:=by omega
 have hjI:(j:Int) < pp.length:=by omega
 obtain ⟨⟨k2,s2,d2,n2,c2⟩,hx2⟩:∃ x,pp[j] = x:=⟨_,rfl⟩;have hget:pp[(j:Int).toNat]? = some ⟨k2,s2,d2,n2,c2⟩:=by rw [Int.toNat_natCast,List.getElem?_eq_getElem hj,hx2]
 have h60:¬ (j:Int) = -1:=a6;rw [hget];dsimp only;have hcase:¬ c2 = (i:Int) ∨ (c2 = (i:Int) ∧ ¬ k2 = k) ∨ (c2 = (i:Int) ∧ k2 = k ∧ ¬ s2 = s) ∨ (c2 = (i:Int) ∧ k2 = k ∧ s2 = s ∧ ¬ d2 = d) ∨ (c2 = (i:Int) ∧ k2 = k ∧ s2 = s ∧ d2 = d):=by
  by_cases b1:c2 = (i:Int) <;> by_cases b2:k2 = k <;> by_cases b3:s2 = s <;> by_cases b4:d2 = d <;> simp [b1,b2,b3,b4]
 rcases hcase with b1 | ⟨b1,b2⟩ | ⟨b1,b2,b3⟩ | ⟨b1,b2,b3,b4⟩ | ⟨b1,b2,b3,b4⟩
 all_goals refine aa _ ?_
 all_goals simp [yr,ab.v,ab.cells,hi,hx,aj.v,aj.cells,w1]
 all_goals refine ah.pure cU (hI1 _) ?_
 all_goals simp [hi,hx,aj.v,aj.cells,w1,w2]
 all_goals refine ah.pure cU (hI2 _) ?_
 all_goals simp [hi,hx,aj.v,aj.cells,w1,w2]
 all_goals refine ah.pure cU (hI3 _) ?_
 all_goals simp [hi,hx,aj.v,aj.cells,w1,w2,a4]
 all_goals refine ah.pure cU (hI4 _) ?_
 all_goals simp [hi,hx,aj.v,aj.cells,w1,w2,w3,h60]
 all_goals refine ah.pure cU (hI5 _) ?_
 ·simp [hi,hx,aj.v,aj.cells,w1,w2,w3,a8,hj,hx2,b1]
 ·simp [hi,hx,aj.v,aj.cells,w1,w2,w3,a8,hj,hx2,b1,b2]
 ·simp [hi,hx,aj.v,aj.cells,w1,w2,w3,a8,hj,hx2,b1,b2,b3]
 ·simp [hi,hx,aj.v,aj.cells,w1,w2,w3,a8,hj,hx2,b1,b2,b3,b4]
 ·simp [hi,hx,aj.v,aj.cells,w1,w2,w3,a8,hj,hx2,b1,b2,b3,b4]
theorem kM (y:ab) (hy:dv y) (σ:af):Spec Tryz.prog Oa [y.v] σ fun r σ'=>r = .ret (df (cN aQ y)) ∧ σ' = σ:=by
 refine Spec.aF (Tx (by simp) ?_) (by simp [y.pure,aH]) (by simp [df,ag.pure,aH]) σ;have hI1:=fun σ=>cr y.kinds.length 1 4 σ;have hI2:=fun σ=>cr y.places.length 1 4 σ;have hn1:=fun σ=>n9 y.kinds hy.kinds σ;have hn2:=fun σ=>n9 y.places hy.places σ;have hc1:=fun σ=>nJ y hy y.first hy.first σ
 have hc2:=fun σ=>nJ y hy y.last hy.last σ;have hpp:=fun i hi σ=>vW y hy i hi σ;have hm:=hy.papers;simp only [ab.v,ab.cells,dt] at hc1 hc2 hpp;by_cases a1:inI y.kinds.length 1 4 = false
 ·have hv:cN aQ y = (1,0,3):=by unfold cN; rw [if_pos (.inl a1)]
  rw [hv];rw [a1] at hI1;refine aa _ ?_;simp [Bn,ab.v,ab.cells];refine ah.pure cU (hI1 _) ?_;simp [df]
 rw [Bool.not_eq_false] at a1;rw [a1] at hI1;by_cases a2:inI y.places.length 1 4 = false
 ·have hv:cN aQ y = (1,0,3):=by unfold cN; rw [if_pos (.inr (.inl a2))]
  rw [hv];rw [a2] at hI2;refine aa _ ?_;simp [Bn,ab.v,ab.cells];refine ah.pure cU (hI1 _) ?_;simp;refine ah.pure cU (hI2 _) ?_;simp [df]
 rw [Bool.not_eq_false] at a2;rw [a2] at hI2;by_cases a3:10 < y.papers.length ∨ 8 < y.first.length ∨ 8 < y.last.length
 ·have hv:cN aQ y = (1,0,3):=by unfold cN; rw [if_pos (.inr (.inr a3))]
  rw [hv];by_cases b1:10 < y.papers.length <;> by_cases b2:8 < y.first.length
  all_goals have b1I:(10 < y.papers.length) ↔ (10:Int) < y.papers.length:=by omega
  all_goals have b2I:(8 < y.first.length) ↔ (8:Int) < y.first.length:=by omega
  all_goals have b3I:(8 < y.last.length) ↔ (8:Int) < y.last.length:=by omega
  all_goals rw [b1I] at b1
  all_goals rw [b2I] at b2
  all_goals rw [b1I,b2I,b3I] at a3
  all_goals refine aa _ ?_
  all_goals simp [Bn,ab.v,ab.cells]
  all_goals refine ah.pure cU (hI1 _) ?_
  all_goals simp
  all_goals refine ah.pure cU (hI2 _) ?_
  ·simp [df,b1]
  ·simp [df,b1]
  ·simp [df,b1,b2]
  ·have b3:(8:Int) < y.last.length:=a3.elim (fun h=>absurd h b1) fun h=>h.elim (fun h=>absurd h b2) id;simp [df,b1,b2,b3]
 have b1:¬ (10:Int) < y.papers.length:=by omega
 have b2:¬ (8:Int) < y.first.length:=by omega
 have b3:¬ (8:Int) < y.last.length:=by omega
 have hv:cN aQ y = if (aG (gp aQ y.kinds) y.kinds 0).2 ≠ 0 then (2,aG (gp aQ y.kinds) y.kinds 0)
   else if (aG (gp aQ y.places) y.places 0).2 ≠ 0 then (3,aG (gp aQ y.places) y.places 0)
   else if (aG (gN y y.first) y.first 0).2 ≠ 0 then (4,aG (gN y y.first) y.first 0)
   else if (aG (mD y) y.papers 0).2 ≠ 0 then (5,aG (mD y) y.papers 0)
   else if (aG (gN y y.last) y.last 0).2 ≠ 0 then (6,aG (gN y y.last) y.last 0)
   else (0,0,0):=by unfold cN; rw [if_neg (by rw [a1,a2]; simpa using a3)]
 rw [hv];obtain ⟨⟨i1,e1⟩,h1⟩:∃ p,aG (gp aQ y.kinds) y.kinds 0 = p:=⟨_,rfl⟩;obtain ⟨⟨i2,e2⟩,h2⟩:∃ p,aG (gp aQ y.places) y.places 0 = p:=⟨_,rfl⟩;obtain ⟨⟨i3,e3⟩,h3⟩:∃ p,aG (gN y y.first) y.first 0 = p:=⟨_,rfl⟩
 obtain ⟨⟨i5,e5⟩,h5⟩:∃ p,aG (gN y y.last) y.last 0 = p:=⟨_,rfl⟩;rw [h1] at hn1;rw [h2] at hn2;rw [h3] at hc1;rw [h5] at hc2;rw [h1,h2,h3,h5];dsimp only at hn1 hn2 hc1 hc2 ⊢;by_cases z1:e1 = 0;rotate_left
 ·rw [if_pos z1];refine aa _ ?_;simp [Bn,ab.v,ab.cells];refine ah.pure cU (hI1 _) ?_;simp;refine ah.pure cU (hI2 _) ?_;simp [b1,b2,b3];refine ah.pure D0 (hn1 _) ?_;simp [z1,df]
 rw [if_neg (by simp [z1])];by_cases z2:e2 = 0;rotate_left
 ·rw [if_pos z2];refine aa _ ?_;simp [Bn,ab.v,ab.cells];refine ah.pure cU (hI1 _) ?_;simp;refine ah.pure cU (hI2 _) ?_;simp [b1,b2,b3];refine ah.pure D0 (hn1 _) ?_;simp [z1];refine ah.pure D0 (hn2 _) ?_;simp [z2,df]
 rw [if_neg (by simp [z2])];by_cases z3:e3 = 0;rotate_left
 ·rw [if_pos z3];refine aa _ ?_;simp [Bn,ab.v,ab.cells];refine ah.pure cU (hI1 _) ?_;simp;refine ah.pure cU (hI2 _) ?_;simp [b1,b2,b3];refine ah.pure D0 (hn1 _) ?_;simp [z1];refine ah.pure D0 (hn2 _) ?_;simp [z2];refine ah.pure MK (hc1 _) ?_;simp [z3,df]
 rw [if_neg (by simp [z3])];refine aa _ ?_;simp [Bn,ab.v,ab.cells];refine ah.pure cU (hI1 _) ?_;simp;refine ah.pure cU (hI2 _) ?_;simp [b1,b2,b3];refine ah.pure D0 (hn1 _) ?_;simp [z1];refine ah.pure D0 (hn2 _) ?_;simp [z2];refine ah.pure MK (hc1 _) ?_;simp [z3];refine AW.loop (ι:=Nat) (fun i fr σ=>fr = { v:=[(1, .pval (.agg [.slice 1 (y.kinds.map .str), .slice 1 (y.places.map .str), .slice 4 (y.first.map ay.v), .slice 5 (y.papers.map aj.v), .slice 4 (y.last.map ay.v)])),(7, .int .i64 i)],ds:=[] } ∧ i ≤ y.papers.length ∧ aG (mD y) y.papers 0 = aG (mD y) (y.papers.drop i) i) (fun i=>y.papers.length - i) 0 (by simp) ?_;rintro i fr σ ⟨rfl,hi,hq⟩;refine (Nat.lt_or_ge i y.papers.length).elim (fun hlt=>?_) (fun hge=>?_)
 ·rw [pj _ _ hlt] at hq;have hpi:=fun σ=>hpp i hlt σ;have hw:IntKind.i64.wrap ((i:Int) + 1) = ((i + 1:Nat):Int):=by rw [aq (by omega) (by simp only [maxLen] at hm; omega)]; simp
  obtain ⟨e,he⟩:=zqq (mD y i y.papers[i]);rw [he] at hpi hq;by_cases h0:e = 0
  ·rw [if_neg (by simp [h0])] at hq;refine aa _ ?_;simp [hlt];refine ah.pure OD (hpi _) ?_;simp [h0,hw];exact ⟨i + 1,by omega,rfl,by omega,hq⟩
  ·rw [if_pos h0] at hq;rw [hq];refine aa _ ?_;simp [hlt];refine ah.pure OD (hpi _) ?_;simp [h0,df]
 ·have hd:y.papers.drop i = []:=List.drop_eq_nil_of_le hge;have hn:aG (mD y) [] i = (0,0):=rfl;rw [hd,hn] at hq;rw [hq];refine aa _ ?_;simp [show ¬ i < y.papers.length by omega];refine ah.pure MK (hc2 _) ?_;by_cases z5:e5 = 0
  ·have hz:=A3 (f:=gN y y.last) (l:=y.last) (i:=0) (by rw [h5]; exact z5);simp [z5,df]
  ·simp [z5,df]
theorem Vk (y:ab) (hy:dv y) (σ:af):Spec Tryz.prog Wb [y.v] σ fun r σ'=>r = .ret (.bool (decide ((cN aQ y).2.2 = 0))) ∧ σ' = σ:=by
 refine Spec.aF (Wn (by simp) (aa _ ?_)) (by simp [y.pure,aH]) rfl σ;have hc:=fun σ=>kM y hy σ;simp only [ab.v,ab.cells,df] at hc;simp [Wg,ab.v,ab.cells];refine ah.pure FK (hc _) ?_;by_cases h:(cN aQ y).2.2 = 0 <;> simp [h]
end Go.AM
