/- The inputs of chapter 09's laws: a yard, papers that are false, a proof, numbers; and how arguments are packed. Chapter 09: Check, and what every question asks first: of the program. (Printed by .. -/
import Derived.Test.YtlmhkldmpggadaaGreatDoorP15
import Derived.Test.YtlmhkldmpggadaaGreatDoorP22
namespace Go.AM
open Go.Proofs Go.RowKit
set_option maxRecDepth 100000
set_option maxHeartbeats 1000000
theorem bV {t:Nat} {us:List ag} {k:Nat} (h:Shaped Tryz.prog (k + 1) t us) (hu:wL Tryz.prog t = some .i64):∃ n,us = [ii' n]:=by
 obtain ⟨n,h1,_⟩:=h.int hu;exact ⟨n,h1⟩
theorem ty3:wL Tryz.prog 3 = some .i64:=by kernel_rfl
theorem ty5:wL Tryz.prog 5 = some .u8:=by kernel_rfl
theorem N8:wL Tryz.prog 61 = some .u16:=by kernel_rfl
theorem ty9:FH Tryz.prog 9 = true:=by kernel_rfl
theorem M7:AZ Tryz.prog 26 = some [22,22,23,24,23]:=by kernel_rfl
theorem On:C8 Tryz.prog 22 = some (9,1,false):=by kernel_rfl
theorem OY:C8 Tryz.prog 23 = some (59,4,true):=by kernel_rfl
theorem N7:C8 Tryz.prog 24 = some (68,5,true):=by kernel_rfl
theorem NC:AZ Tryz.prog 59 = some [3,3,46]:=by kernel_rfl
theorem N5:AZ Tryz.prog 46 = some [3,3]:=by kernel_rfl
theorem NT:AZ Tryz.prog 68 = some [3,3,3,3,3]:=by kernel_rfl
theorem zl {k:Nat} {us:List ag} (h:Shaped Tryz.prog (k + 2) 46 us):∃ a b,us = [ii' a,ii' b]:=by
 obtain ⟨a,r,rfl,h1,b,r2,rfl,h2,rfl⟩:=h.fs N5;obtain ⟨x,rfl⟩:=bV h1 ty3;obtain ⟨y,rfl⟩:=bV h2 ty3;exact ⟨x,y,rfl⟩
theorem rD {k:Nat} {us:List ag} (h:Shaped Tryz.prog (k + 2) 22 us):∃ l:List ByteArray,us = [.slice 1 (l.map .str)] ∧ l.length ≤ maxLen:=by
 obtain ⟨xs,rfl,hl,hx⟩:=h.sl On;obtain ⟨l,rfl,_⟩:=pC (f:=ag.str) (p:=fun _=>True) (xs:=xs) fun v hv=>by
  obtain ⟨cs,g1,g2⟩:=hx v hv;obtain ⟨n,rfl,_⟩:=g1.str ty9;exact ⟨n,g2,trivial⟩
 exact ⟨l,rfl,by simpa using hl⟩
theorem AG {k:Nat} {us:List ag} (h:Shaped Tryz.prog (k + 3) 59 us):∃ c:av,us = c.cells:=by
 obtain ⟨a,r,rfl,h1,b,r2,rfl,h2,c,r3,rfl,h3,rfl⟩:=h.fs NC;obtain ⟨n1,rfl⟩:=bV h1 ty3;obtain ⟨n2,rfl⟩:=bV h2 ty3;obtain ⟨n3,n4,rfl⟩:=zl h3;exact ⟨⟨n1,n2,n3,n4⟩,rfl⟩
theorem Bl {k:Nat} {us:List ag} (h:Shaped Tryz.prog (k + 2) 68 us):∃ p:ak,us = p.cells:=by
 obtain ⟨a,r,rfl,h1,b,r2,rfl,h2,c,r3,rfl,h3,d,r4,rfl,h4,e,r5,rfl,h5,rfl⟩:=h.fs NT;obtain ⟨n1,rfl⟩:=bV h1 ty3;obtain ⟨n2,rfl⟩:=bV h2 ty3;obtain ⟨n3,rfl⟩:=bV h3 ty3;obtain ⟨n4,rfl⟩:=bV h4 ty3;obtain ⟨n5,rfl⟩:=bV h5 ty3;exact ⟨⟨n1,n2,n3,n4,n5⟩,rfl⟩
theorem rR {k:Nat} {us:List ag} (h:Shaped Tryz.prog (k + 4) 23 us):∃ l:List av,us = [.slice 4 (l.map av.v)] ∧ l.length ≤ maxLen:=by
 obtain ⟨xs,rfl,hl,hx⟩:=h.sl OY;obtain ⟨l,rfl,_⟩:=pC (f:=av.v) (p:=fun _=>True) (xs:=xs) fun v hv=>by
  obtain ⟨cs,q1,q2⟩:=hx v hv;obtain ⟨p,rfl⟩:=AG q1;exact ⟨p,q2,trivial⟩
 exact ⟨l,rfl,by simpa using hl⟩
theorem zE {k:Nat} {us:List ag} (h:Shaped Tryz.prog (k + 3) 24 us):∃ l:List ak,us = [.slice 5 (l.map ak.v)] ∧ l.length ≤ maxLen:=by
 obtain ⟨xs,rfl,hl,hx⟩:=h.sl N7;obtain ⟨l,rfl,_⟩:=pC (f:=ak.v) (p:=fun _=>True) (xs:=xs) fun v hv=>by
  obtain ⟨cs,q1,q2⟩:=hx v hv;obtain ⟨p,rfl⟩:=Bl q1;exact ⟨p,q2,trivial⟩
 exact ⟨l,rfl,by simpa using hl⟩
theorem jE {k:Nat} {us:List ag} (h:Shaped Tryz.prog (k + 5) 26 us):∃ y:ab,us = y.cells ∧ dz y:=by
 obtain ⟨a,r,rfl,h1,b,r2,rfl,h2,c,r3,rfl,h3,d,r4,rfl,h4,e,r5,rfl,h5,rfl⟩:=h.fs M7;obtain ⟨ks,rfl,g1⟩:=rD h1;obtain ⟨ps,rfl,g2⟩:=rD h2;obtain ⟨fs,rfl,g3⟩:=rR h3;obtain ⟨pp,rfl,g4⟩:=zE h4;obtain ⟨ls,rfl,g5⟩:=rR h5;exact ⟨⟨ks,ps,fs,pp,ls⟩,rfl,⟨g1,g2,g3,g4,g5⟩⟩
theorem rr {k:Nat} {us:List ag} (h:Shaped Tryz.prog (k + 1) 5 us):∃ n:Nat,us = [.int .u8 n] ∧ n ≤ 255:=by
 obtain ⟨n,rfl,h1,h2⟩:=h.int ty5;have g1:(0:Int) ≤ n:=h1;have g2:n ≤ 255:=h2;exact ⟨n.toNat,by rw [Int.toNat_of_nonneg g1],by omega⟩
theorem Bb {k:Nat} {us:List ag} (h:Shaped Tryz.prog (k + 1) 61 us):∃ n:Nat,us = [.int .u16 n] ∧ n ≤ 65535:=by
 obtain ⟨n,rfl,h1,h2⟩:=h.int N8;have g1:(0:Int) ≤ n:=h1;have g2:n ≤ 65535:=h2;exact ⟨n.toNat,by rw [Int.toNat_of_nonneg g1],by omega⟩
end Go.AM
namespace Go.Proofs.YtlmhkldmpggadaaGreatDoor
open Go.ChangeShapes Go.WideShapes Go.ChangeAt Go.RowKit Go.AM
def isAgg (P:Program) (n:TypeId):Bool:=match eR (P.underlying n) with
 | some true=>true
 | _=>false
theorem vB (n:Nat) (us:List ag) (h:isAgg Tryz.prog n = true):km (eR (Tryz.prog.underlying n)) us = .agg us:=by
 unfold isAgg at h;unfold km
 split at h
 ·rename_i e; rw [e]
 ·cases h
theorem BK (n:Nat) (v:ag) (h:isAgg Tryz.prog n = false):km (eR (Tryz.prog.underlying n)) [v] = v:=by
 unfold isAgg at h;unfold km
 split at h
 ·cases h
 ·rename_i hn;split
  ·rename_i e; exact absurd e hn
  ·rfl
def EM (P:Program) (k:Nat):List TypeId → Bool
 | []=>true
 | t :: r=>du P k t && P.readableRec t && decide (t < P.types.size) && EM P k r
theorem iX {P:Program} {k:Nat}:∀ {l:List TypeId},EM P k l = true → ∀ t ∈ l,du P k t = true ∧ P.readableRec t = true ∧ t < P.types.size
 | t :: r,h,x,hx=>by
  simp only [EM,Bool.and_eq_true,decide_eq_true_eq] at h;rcases List.mem_cons.1 hx with rfl | hx
  ·exact ⟨h.1.1.1,h.1.1.2,h.1.2⟩
  ·exact iX h.2 x hx
end Go.Proofs.YtlmhkldmpggadaaGreatDoor
namespace Go.AM
open Go.Proofs
set_option maxRecDepth 100000
set_option maxHeartbeats 1000000
def cw (p:Int × Int × Int):ag:=.tup [ii' p.1,ii' p.2.1,ii' p.2.2]
def o9:List (Int × Int) → Int → Int × Int × Int
 | [],_=>(0,0,0)
 | p :: r,n=>if p.2 ≠ 0 then (n,p) else o9 r (n + 1)
def fL (y:ab):List (Int × Int):=[ay (eS aN y.kinds) y.kinds 0,ay (eS aN y.places) y.places 0,ay (fo y y.first) y.first 0,ay (kE y) y.papers 0,ay (fo y y.last) y.last 0]
theorem w9 (y:ab):bt aN y = if inI y.kinds.length 1 4 = false ∨ inI y.places.length 1 4 = false ∨ 10 < y.papers.length ∨ 8 < y.first.length ∨ 8 < y.last.length then (1,0,3) else o9 (fL y) 2:=rfl
def dc (y:ab):List ag:=[.func (.func GQ) [] [.pval y.v], .func (.func Gf) [] [.pval y.v], .func (.func F9) [] [.pval y.v], .func (.func Gk) [] [.pval y.v], .func (.func Gt) [] [.pval y.v]]
theorem gn (y:ab) (hy:dz y) (σ:af):Spec Tryz.prog IF [y.v] σ fun r σ'=>r = .ret (cw (bt aN y)) ∧ σ' = σ:=by
 refine Spec.aI (Pv (by simp) ?_) (by simp [y.pure,aK]) (by simp [cw,ag.pure,aK]) σ;rw [w9];have hb1:=fun σ=>bD 1 4 (y.kinds.length:Int) σ
 have hb2:=fun σ=>bD 1 4 (y.places.length:Int) σ
 rcases tf (inI (y.kinds.length:Int) 1 4) with a1 | a1
 ·rw [a1] at hb1;rw [if_pos (.inl a1)];refine aa _ ?_;simp [Dz,ab.v,ab.cells];refine ah.pure bE (hb1 _) ?_;simp [cw]
 rw [a1] at hb1;rcases tf (inI (y.places.length:Int) 1 4) with a2 | a2
 ·rw [a2] at hb2;rw [if_pos (.inr (.inl a2))];refine aa _ ?_;simp [Dz,ab.v,ab.cells];refine ah.pure bE (hb1 _) ?_;simp;refine ah.pure bE (hb2 _) ?_;simp [cw]
 rw [a2] at hb2;by_cases a3:10 < y.papers.length
 ·rw [if_pos (.inr (.inr (.inl a3)))];have a3I:(10:Int) < y.papers.length:=by omega
  refine aa _ ?_;simp [Dz,ab.v,ab.cells];refine ah.pure bE (hb1 _) ?_;simp;refine ah.pure bE (hb2 _) ?_;simp [cw,a3I]
 have a3I:¬ (10:Int) < y.papers.length:=by omega
 obtain ⟨u,hu⟩:∃ u,y.first.length = u:=⟨_,rfl⟩
 obtain ⟨v,hv⟩:∃ v,y.last.length = v:=⟨_,rfl⟩
 obtain ⟨m,hm,hm8⟩:∃ m:Nat,((if u < v then (v:Int) else (u:Int)) = m) ∧ (8 < m ↔ 8 < u ∨ 8 < v):=by
  by_cases h:u < v
  ·exact ⟨v,by rw [if_pos h],by omega⟩
  ·exact ⟨u,by rw [if_neg h],by omega⟩
 rw [hu,hv];by_cases a4:8 < u ∨ 8 < v
 ·have a4I:(8:Int) < m:=by have:=hm8.2 a4; omega
  rw [if_pos (.inr (.inr (.inr a4)))];refine aa _ ?_;simp [Dz,ab.v,ab.cells];refine ah.pure bE (hb1 _) ?_;simp;refine ah.pure bE (hb2 _) ?_;simp [cw,a3I,hu,hv,hm,a4I]
 have a4I:¬ (8:Int) < m:=fun h=>a4 (hm8.1 (by omega))
 rw [if_neg (by simp only [a1,a2]; simp; omega)];have c1:=fun σ=>o6 y hy σ
 have c2:=fun σ=>oh y hy σ
 have c3:=fun σ=>oW y hy σ
 have c4:=fun σ=>oY y hy σ
 have c5:=fun σ=>ox y hy σ
 simp only [ab.v,ab.cells] at c1 c2 c3 c4 c5;obtain ⟨E,hE⟩:∃ E,o9 (fL y) 2 = E:=⟨_,rfl⟩
 rw [hE];refine aa _ ?_;simp [Dz,ab.v,ab.cells];refine ah.pure bE (hb1 _) ?_;simp;refine ah.pure bE (hb2 _) ?_;simp [a3I,hu,hv,hm,a4I];refine AW.loop (ι:=Nat) (fun i fr _=>fr = { v:=[(50, .agg (dc y)),(51, .int .i64 i)],ds:=[] } ∧ i ≤ 5 ∧ o9 ((fL y).drop i) (i + 2) = E) (fun i=>5 - i) 0 ⟨by simp [dc,ab.v,ab.cells],by omega,hE⟩ ?_;rintro i fr σ' ⟨rfl,hi,hp⟩;have hcs:i = 0 ∨ i = 1 ∨ i = 2 ∨ i = 3 ∨ i = 4 ∨ i = 5:=by omega
 rcases hcs with rfl | rfl | rfl | rfl | rfl | rfl
 ·obtain ⟨q,hq⟩:∃ q,ay (eS aN y.kinds) y.kinds 0 = q:=⟨_,rfl⟩
  simp only [fL,List.drop,o9,hq] at hp;rw [hq] at c1;simp only [cz] at c1;by_cases hz:q.2 = 0
  ·rw [if_neg (by simp [hz])] at hp;refine aa _ ?_;simp [dc,ab.v,ab.cells];refine ah.oa LA (c1 _) ?_;rintro r σ1 ⟨rfl,rfl⟩;refine ⟨_,rfl, ?_⟩;simp [hz,show IntKind.i64.wrap (1:Int) = 1 from rfl];exact ⟨1,by omega,by simp,by omega,by simpa [fL,o9] using hp⟩
  ·rw [if_pos hz] at hp;refine aa _ ?_;simp [dc,ab.v,ab.cells];refine ah.oa LA (c1 _) ?_;rintro r σ1 ⟨rfl,rfl⟩;refine ⟨_,rfl, ?_⟩;simp [hz, ← hp,cw,show IntKind.i64.wrap (2:Int) = 2 from rfl]
 ·obtain ⟨q,hq⟩:∃ q,ay (eS aN y.places) y.places 0 = q:=⟨_,rfl⟩
  simp only [fL,List.drop,o9,hq] at hp;rw [hq] at c2;simp only [cz] at c2;by_cases hz:q.2 = 0
  ·rw [if_neg (by simp [hz])] at hp;refine aa _ ?_;simp [dc,ab.v,ab.cells];refine ah.oa J1 (c2 _) ?_;rintro r σ1 ⟨rfl,rfl⟩;refine ⟨_,rfl, ?_⟩;simp [hz,show IntKind.i64.wrap (2:Int) = 2 from rfl];exact ⟨2,by omega,by simp,by omega,by simpa [fL,o9] using hp⟩
  ·rw [if_pos hz] at hp;refine aa _ ?_;simp [dc,ab.v,ab.cells];refine ah.oa J1 (c2 _) ?_;rintro r σ1 ⟨rfl,rfl⟩;refine ⟨_,rfl, ?_⟩;simp [hz, ← hp,cw,show IntKind.i64.wrap (3:Int) = 3 from rfl]
 ·obtain ⟨q,hq⟩:∃ q,ay (fo y y.first) y.first 0 = q:=⟨_,rfl⟩
  simp only [fL,List.drop,o9,hq] at hp;rw [hq] at c3;simp only [cz] at c3;by_cases hz:q.2 = 0
  ·rw [if_neg (by simp [hz])] at hp;refine aa _ ?_;simp [dc,ab.v,ab.cells];refine ah.oa MN (c3 _) ?_;rintro r σ1 ⟨rfl,rfl⟩;refine ⟨_,rfl, ?_⟩;simp [hz,show IntKind.i64.wrap (3:Int) = 3 from rfl];exact ⟨3,by omega,by simp,by omega,by simpa [fL,o9] using hp⟩
  ·rw [if_pos hz] at hp;refine aa _ ?_;simp [dc,ab.v,ab.cells];refine ah.oa MN (c3 _) ?_;rintro r σ1 ⟨rfl,rfl⟩;refine ⟨_,rfl, ?_⟩;simp [hz, ← hp,cw,show IntKind.i64.wrap (4:Int) = 4 from rfl]
 ·obtain ⟨q,hq⟩:∃ q,ay (kE y) y.papers 0 = q:=⟨_,rfl⟩
  simp only [fL,List.drop,o9,hq] at hp;rw [hq] at c4;simp only [cz] at c4;by_cases hz:q.2 = 0
  ·rw [if_neg (by simp [hz])] at hp;refine aa _ ?_;simp [dc,ab.v,ab.cells];refine ah.oa Mt (c4 _) ?_;rintro r σ1 ⟨rfl,rfl⟩;refine ⟨_,rfl, ?_⟩;simp [hz,show IntKind.i64.wrap (4:Int) = 4 from rfl];exact ⟨4,by omega,by simp,by omega,by simpa [fL,o9] using hp⟩
  ·rw [if_pos hz] at hp;refine aa _ ?_;simp [dc,ab.v,ab.cells];refine ah.oa Mt (c4 _) ?_;rintro r σ1 ⟨rfl,rfl⟩;refine ⟨_,rfl, ?_⟩;simp [hz, ← hp,cw,show IntKind.i64.wrap (5:Int) = 5 from rfl]
 ·obtain ⟨q,hq⟩:∃ q,ay (fo y y.last) y.last 0 = q:=⟨_,rfl⟩
  simp only [fL,List.drop,o9,hq] at hp;rw [hq] at c5;simp only [cz] at c5;by_cases hz:q.2 = 0
  ·rw [if_neg (by simp [hz])] at hp;refine aa _ ?_;simp [dc,ab.v,ab.cells];refine ah.oa Ml (c5 _) ?_;rintro r σ1 ⟨rfl,rfl⟩;refine ⟨_,rfl, ?_⟩;simp [hz,show IntKind.i64.wrap (5:Int) = 5 from rfl];exact ⟨5,by omega,by simp,by omega,by simpa [fL,o9] using hp⟩
  ·rw [if_pos hz] at hp;refine aa _ ?_;simp [dc,ab.v,ab.cells];refine ah.oa Ml (c5 _) ?_;rintro r σ1 ⟨rfl,rfl⟩;refine ⟨_,rfl, ?_⟩;simp [hz, ← hp,cw,show IntKind.i64.wrap (6:Int) = 6 from rfl]
 ·simp only [fL,List.drop,o9] at hp;refine aa _ ?_;simp [← hp,cw]
/-! ### open -/
def sx (y:ab) (wrong:List Int) (k:Nat) (i:Int):Int:=if inI i 0 ((y.papers.length:Int) - 1) = false then 4 else if 0 < k ∧ i ≤ wrong.getD (k - 1) 0 then 2 else 0
def bQ (y:ab) (wrong:List Int):Int:=if (bt aN y).2.2 ≠ 0 then (bt aN y).2.2 else (ay (sx y wrong) wrong 0).2
theorem yp (y:ab) (hy:dz y) (wrong:List Int) (hwl:wrong.length ≤ maxLen) (k:Nat) (hk:k < wrong.length) (b:Nat) (σ:af) (hb:σ[b]? = some (.box y.cells)) :
  Spec Tryz.prog BO [ii' k,ii' wrong[k], .ptr b 0, .pval (.slice 1 (wrong.map ii'))] σ fun r σ'=>r = .ret (ii' (sx y wrong k wrong[k])) ∧ σ' = σ:=by
 obtain ⟨i,hi⟩:∃ i,wrong[k] = i:=⟨_,rfl⟩
 have hm:=hy.papers;simp only [maxLen] at hm;have w3:IntKind.i64.wrap ((y.papers.length:Int) - 1) = (y.papers.length:Int) - 1:=aw (by omega) (by omega);obtain ⟨hbl,hbe⟩:=List.getElem?_eq_some_iff.1 hb;have hb1:=fun σ=>bD 0 ((y.papers.length:Int) - 1) i σ
 rw [hi];unfold sx;refine MC (by simp) ?_;rcases tf (inI i 0 ((y.papers.length:Int) - 1)) with a1 | a1
 ·rw [a1] at hb1;rw [if_pos a1];refine aa _ ?_;simp [z8,hbl,hbe,ab.cells,w3];refine ah.pure bE (hb1 _) ?_;simp
 rw [a1] at hb1;rw [if_neg (by simp [a1])];rcases Nat.eq_zero_or_pos k with h0 | h0
 ·subst h0;refine aa _ ?_;simp [z8,hbl,hbe,ab.cells,w3];refine ah.pure bE (hb1 _) ?_;simp [show IntKind.i64.wrap (-1) = -1 from rfl,hk,hi]
 ·obtain ⟨j,rfl⟩:∃ j,k = j + 1:=⟨k - 1,by omega⟩
  have hj:j < wrong.length:=by omega
  obtain ⟨v,hv⟩:∃ v,wrong[j] = v:=⟨_,rfl⟩
  have hg:wrong.getD (j + 1 - 1) 0 = v:=by
   rw [Nat.add_sub_cancel,List.getD_eq_getElem?_getD,List.getElem?_eq_getElem hj,hv]; rfl
  rw [hg];have hjI:(0:Int) < (j:Int) + 1:=by omega
  have hwj:IntKind.i64.wrap (j:Int) = j:=by
   exact aw (by omega) (by simp only [maxLen] at hwl; omega)
  by_cases h2:i ≤ v
  ·rw [if_pos ⟨by omega,h2⟩];refine aa _ ?_;simp [z8,hbl,hbe,ab.cells,w3];refine ah.pure bE (hb1 _) ?_;simp [hjI,hwj,hj,hv,h2]
  ·rw [if_neg (by simp [h2])];refine aa _ ?_;simp [z8,hbl,hbe,ab.cells,w3];refine ah.pure bE (hb1 _) ?_;simp [hjI,hwj,hj,hv,h2]
theorem dH (y:ab) (hy:dz y) (wrong:List Int) (hwl:wrong.length ≤ maxLen) (σ:af) :
  Spec Tryz.prog IQ [y.v, .slice 1 (wrong.map ii')] σ fun r σ'=>r = .ret (.tup [y.v,ii' (bQ y wrong)]) ∧ σ' = σ:=by
 refine Spec.aI (Nq (by simp) ?_) (by simp [y.pure,aK,ag.pure,aC (f:=ii') (fun _=>rfl)]) (by simp [y.pure,ag.pure,aK]) σ;have hc:=fun σ=>gn y hy σ
 unfold bQ;simp only [ab.v,ab.cells,cw] at hc ⊢;by_cases h0:(bt aN y).2.2 = 0
 ·rw [if_neg (by simp [h0])];rw [h0] at hc;have hf:=fun τ=>nJ BO [] [.ptr 0 0, .pval (.slice 1 (wrong.map ii'))] wrong (sx y wrong) hwl (fun _ σ=>∃ tl,σ = .box y.cells :: tl) (fun _ σ h=>by obtain ⟨tl,rfl⟩:=h; exact ⟨tl ++ [.dead],rfl⟩)
   (fun k hk σ h=>by
    obtain ⟨tl,rfl⟩:=h
    exact aL.func J8 ((yp y hy wrong hwl k hk 0 _ rfl).mono fun r σ' h=>⟨h.1,tl,h.2⟩)) (.box y.cells :: τ) ⟨τ,rfl⟩
  simp only [ab.cells] at hf;refine aa _ ?_;simp [JF];refine ah.pure AV (hc _) ?_;simp;refine ah.spec LI (hf _) ?_;rintro r σ1 ⟨rfl,_,tl,rfl⟩;refine ⟨_,rfl, ?_⟩;simp
 ·rw [if_pos h0];refine aa _ ?_;simp [JF];refine ah.pure AV (hc _) ?_;simp [h0]
set_option maxRecDepth 100000
set_option maxHeartbeats 1000000
theorem cO (n lo hi:Int) (σ:af):Spec Tryz.prog JH [ii' n,ii' lo,ii' hi] σ fun r σ'=>r = .ret (.bool (inI n lo hi)) ∧ σ' = σ:=by
 refine Spec.aI (Oe (by simp) (aa _ ?_)) rfl rfl σ;unfold inI;by_cases h1:lo ≤ n <;> by_cases h2:n ≤ hi <;> simp [Ky,h1,h2]
theorem wG (s:ByteArray):∀ (l:List ByteArray) (i:Nat),(0 ≤ kJ l s i) ↔ l.any (fun t=>decide (t = s)) = true
 | [],i=>by simp [kJ]
 | a :: r,i=>by
  have ih:=wG s r (i + 1);rw [List.any_cons,Bool.or_eq_true,decide_eq_true_eq];unfold kJ;by_cases h:a = s
  ·rw [if_pos (by rw [h]; simp)]; exact ⟨fun _=>.inl h,fun _=>by omega⟩
  ·have hb:¬ (a.toList == s.toList) = true:=by rw [nmd,decide_eq_true_eq]; exact h
   rw [if_neg hb,ih];exact ⟨.inr,fun e=>e.elim (fun e=>absurd e h) id⟩
theorem DB (l:List ByteArray) (i:Nat) (s:ByteArray):pf s (l.take i) = eS aN l i s:=by
 have hp:=wG s (l.take i) 0;unfold pf eS
 cases aN s with
 | false=>rfl
 | true=>
  by_cases h:(l.take i).any (fun t=>decide (t = s)) = true
  ·simp only [if_pos (hp.2 h),if_pos h]; rfl
  ·simp only [if_neg (fun e=>h (hp.1 e)),if_neg h]; rfl
theorem mU {α:Type} (f:Nat → α → Int) (l:List α) {i:Nat} (h:i < l.length):ay f (l.drop i) i = if f i l[i] ≠ 0 then ((i:Int),f i l[i]) else ay f (l.drop (i + 1)) (i + 1):=by
 rw [List.drop_eq_getElem_cons h]; rfl
theorem l9 (l:List ByteArray) (hl:l.length ≤ maxLen) (σ:af):Spec Tryz.prog Iq [.slice 1 (l.map .str)] σ fun r σ'=>r = .ret (.tup [ii' (ay (eS aN l) l 0).1,ii' (ay (eS aN l) l 0).2]) ∧ σ' = σ:=by
 refine Spec.aI (Nk (by simp) (aa _ ?_)) (by simp [aK,ag.pure,aC (f:=ag.str) (fun _=>rfl)]) rfl σ;simp [Kj];refine AW.loop (ι:=Nat) (fun i fr σ=>fr = { v:=[(0, .slice 1 (l.map .str)),(4, .int .i64 i)],ds:=[] } ∧ i ≤ l.length ∧ ay (eS aN l) l 0 = ay (eS aN l) (l.drop i) i) (fun i=>l.length - i) 0 (by simp) ?_;rintro i fr σ ⟨rfl,hi,hp⟩;refine (Nat.lt_or_ge i l.length).elim (fun hlt=>?_) (fun hge=>?_)
 ·rw [mU _ l hlt, ← DB] at hp;obtain ⟨x,hx⟩:∃ x,l[i] = x:=⟨_,rfl⟩
  rw [hx] at hp;have hf:=fun σ=>um (l.take i) x (by rw [List.length_take]; omega) σ
  have htk:List.take i (l.map ag.str) = (l.take i).map ag.str:=by rw [List.map_take]
  have hw:IntKind.i64.wrap ((i:Int) + 1) = ((i + 1:Nat):Int):=by rw [aw (by omega) (by simp only [maxLen] at hl; omega)]; simp
  rw [List.map_take] at hf;by_cases h0:pf x (l.take i) = 0
  ·rw [if_neg (by simp [h0])] at hp;rw [h0] at hf;rw [hp];refine aa _ ?_;simp [hlt,hx];refine ⟨by omega,_,fun σ' _=>aL.func HD (hf σ'), ?_⟩;simp [hw];exact ⟨i + 1,by omega,rfl,by omega,rfl⟩
  ·rw [if_pos h0] at hp;rw [hp];obtain ⟨e,he⟩:∃ e,pf x (l.take i) = e:=⟨_,rfl⟩
   rw [he] at hf h0 ⊢;refine aa _ ?_;simp [hlt,hx];refine ⟨by omega,_,fun σ' _=>aL.func HD (hf σ'), ?_⟩;simp [h0]
 ·have hd:l.drop i = []:=List.drop_eq_nil_of_le hge;rw [hd] at hp;rw [hp];refine aa _ ?_;simp [show ¬ i < l.length by omega,ay]
theorem EC (a b:Int):gM (a,b) 0 1000000 = if inI a 0 1000000 = false ∨ inI b 0 1000000 = false then 7 else if a > b then 2 else 0:=by
 unfold gM va inI;by_cases h1:0 ≤ a <;> by_cases h2:a ≤ 1000000 <;> by_cases h3:0 ≤ b <;> by_cases h4:b ≤ 1000000 <;> simp [h1,h2,h3,h4]
theorem lA (y:ab) (hy:dz y) (l:List av) (hl:l.length ≤ maxLen) (σ:af) :
  Spec Tryz.prog Jh [y.v, .slice 4 (l.map av.v)] σ fun r σ'=>r = .ret (cz (ay (fo y l) l 0)) ∧ σ' = σ:=by
 refine Spec.aI (Ni (by simp) (aa _ ?_)) (by simp [y.pure,aK,ag.pure,aC (f:=av.v) (fun c=>c.pure)]) (by simp [cz,ag.pure,aK]) σ;have hk:=hy.kinds;have hp:=hy.places;obtain ⟨ks,ps,fs,pp,ls⟩:=y;simp only [maxLen] at hk hp hl;obtain ⟨nk,hnk⟩:∃ nk,(ks.length:Int) - 1 = nk:=⟨_,rfl⟩
 obtain ⟨np,hnp⟩:∃ np,(ps.length:Int) - 1 = np:=⟨_,rfl⟩
 have w1:IntKind.i64.wrap ((ks.length:Int) - 1) = nk:=by rw [aw (by omega) (by omega),hnk]
 have w2:IntKind.i64.wrap ((ps.length:Int) - 1) = np:=by rw [aw (by omega) (by omega),hnp]
 simp [KS,ab.v,ab.cells];refine AW.loop (ι:=Nat) (fun i fr σ=>fr = { v:=[(1, .slice 4 (l.map av.v)),(2, .pval (.agg [.slice 1 (ks.map .str), .slice 1 (ps.map .str), .slice 4 (fs.map av.v), .slice 5 (pp.map ak.v), .slice 4 (ls.map av.v)])),(6, .int .i64 i)],ds:=[] } ∧ i ≤ l.length ∧ ay (fo ⟨ks,ps,fs,pp,ls⟩ l) l 0 = ay (fo ⟨ks,ps,fs,pp,ls⟩ l) (l.drop i) i) (fun i=>l.length - i) 0 (by simp) ?_;rintro i fr σ ⟨rfl,hi,hq⟩;refine (Nat.lt_or_ge i l.length).elim (fun hlt=>?_) (fun hge=>?_);rotate_left
 ·have hd:l.drop i = []:=List.drop_eq_nil_of_le hge;rw [hd] at hq;rw [hq];refine aa _ ?_;simp [show ¬ i < l.length by omega,ay,cz]
 rw [mU _ l hlt] at hq;obtain ⟨⟨k,p,a,b⟩,hx⟩:∃ x,l[i] = x:=⟨_,rfl⟩
 rw [hx] at hq;have hw:IntKind.i64.wrap ((i:Int) + 1) = ((i + 1:Nat):Int):=by rw [aw (by omega) (by omega)]; simp
 have hi1:=fun σ=>cO k 0 nk σ
 have hi2:=fun σ=>cO p 0 np σ
 have hr:=fun σ=>uB a b 0 1000000 σ
 have hE:fo ⟨ks,ps,fs,pp,ls⟩ l i ⟨k,p,a,b⟩ = if inI k 0 nk = false ∨ inI p 0 np = false then 4 else if (l.take i).any (fun d=>decide (d.kind = k) && decide (d.place = p)) = true then 5 else gM (a,b) 0 1000000:=by
  rw [EC, ← hnk, ← hnp]; rfl
 refine (tf (inI k 0 nk)).elim (fun a1=>?_) (fun a1=>?_)
 ·rw [a1] at hi1;rw [if_pos (.inl a1)] at hE;rw [hE,if_pos (by decide)] at hq;rw [hq];refine aa _ ?_;simp [hlt,hx,av.v,av.cells,w1];refine ah.pure ck (hi1 _) ?_;simp [hlt,hx,av.v,av.cells,w1,w2,cz]
 refine (tf (inI p 0 np)).elim (fun a2=>?_) (fun a2=>?_)
 ·rw [a1] at hi1;rw [a2] at hi2;rw [if_pos (.inr a2)] at hE;rw [hE,if_pos (by decide)] at hq;rw [hq];refine aa _ ?_;simp [hlt,hx,av.v,av.cells,w1];refine ah.pure ck (hi1 _) ?_;simp [hlt,hx,av.v,av.cells,w1,w2];refine ah.pure ck (hi2 _) ?_;simp [hlt,hx,av.v,av.cells,w1,w2,cz]
 rw [a1] at hi1;rw [a2] at hi2;rw [if_neg (by simp [a1,a2])] at hE;refine aa _ ?_;simp [hlt,hx,av.v,av.cells,w1];refine ah.pure ck (hi1 _) ?_;simp [hlt,hx,av.v,av.cells,w1,w2];refine ah.pure ck (hi2 _) ?_;simp [hlt,hx,av.v,av.cells,w1,w2,cz];refine AW.loop (ι:=Nat) (fun m fr σ=>fr = { v:=[(1, .slice 4 (l.map av.v)),(2, .pval (.agg [.slice 1 (ks.map .str), .slice 1 (ps.map .str), .slice 4 (fs.map av.v), .slice 5 (pp.map ak.v), .slice 4 (ls.map av.v)])),(6, .int .i64 i),(7, .pval (.agg [ii' k,ii' p,ii' a,ii' b])),(8, .int .i64 m)],ds:=[] } ∧ m ≤ i ∧ (l.take m).any (fun d=>decide (d.kind = k) && decide (d.place = p)) = false) (fun m=>i - m) 0 ⟨rfl,by omega,rfl⟩ ?_;rintro m fr σ ⟨rfl,hm,hno⟩;refine (Nat.lt_or_ge m i).elim (fun hml=>?_) (fun hmg=>?_)
 ·have hmlt:m < l.length:=by omega
  obtain ⟨⟨k',p',a',b'⟩,hx'⟩:∃ x,l[m] = x:=⟨_,rfl⟩
  have hw2:IntKind.i64.wrap ((m:Int) + 1) = ((m + 1:Nat):Int):=by rw [aw (by omega) (by omega)]; simp
  have hst:(l.take (m + 1)).any (fun d=>decide (d.kind = k) && decide (d.place = p)) = (decide (k' = k) && decide (p' = p)):=by
   rw [List.take_succ_eq_append_getElem hmlt,List.any_append,hno,hx']; simp
  by_cases e1:k' = k
  ·by_cases e2:p' = p
   ·have hany:(l.take i).any (fun d=>decide (d.kind = k) && decide (d.place = p)) = true:=by
     rw [List.any_eq_true];exact ⟨l[m],List.mem_take_iff_getElem.2 ⟨m,by omega,rfl⟩,by rw [hx']; simp [e1,e2]⟩
    rw [if_pos hany] at hE;rw [hE,if_pos (by decide)] at hq;rw [hq];refine aa _ ?_;simp [hml,hmlt,hx',av.v,av.cells,e1,e2,cz]
   ·refine aa _ ?_;simp [hml,hmlt,hx',av.v,av.cells,e1,e2,hw2];exact ⟨m + 1,by omega,rfl,by omega,by have h9:=hst.trans (by simp [e2]:_ = false); simpa using h9⟩
  ·refine aa _ ?_;simp [hml,hmlt,hx',av.v,av.cells,e1,hw2];exact ⟨m + 1,by omega,rfl,by omega,by have h9:=hst.trans (by simp [e1]:_ = false); simpa using h9⟩
 ·obtain rfl:m = i:=by omega
  rw [if_neg (by rw [hno]; simp)] at hE;by_cases h0:gM (a,b) 0 1000000 = 0
  ·rw [hE,h0,if_neg (by decide)] at hq;rw [h0] at hr;rw [hq];refine aa _ ?_;simp [hlt];refine ah.pure HH (hr _) ?_;simp [hw];exact ⟨m + 1,by omega,rfl,by omega,rfl⟩
  ·rw [hE,if_pos h0] at hq;rw [hq];obtain ⟨e,he⟩:∃ e,gM (a,b) 0 1000000 = e:=⟨_,rfl⟩
   rw [he] at hr h0 ⊢;refine aa _ ?_;simp [hlt];refine ah.pure HH (hr _) ?_;simp [h0,cz]
set_option maxRecDepth 100000
set_option maxHeartbeats 1000000
theorem tN (y:ab) (hy:dz y) (i:Nat) (hi:i < y.papers.length) (σ:af) :
  Spec Tryz.prog Jo [y.v,ii' i] σ fun r σ'=>r = .ret (ii' (kE y i y.papers[i])) ∧ σ' = σ:=by
 refine Spec.aI (Ow (by simp) ?_) (by simp [y.pure,aK,ag.pure]) rfl σ;have hk:=hy.kinds;have hp:=hy.places;have hm:=hy.papers;obtain ⟨ks,ps,fs,pp,ls⟩:=y;simp only [maxLen] at hk hp hm hi ⊢;obtain ⟨nk,hnk⟩:∃ nk,(ks.length:Int) - 1 = nk:=⟨_,rfl⟩
 obtain ⟨np,hnp⟩:∃ np,(ps.length:Int) - 1 = np:=⟨_,rfl⟩
 obtain ⟨nm,hnm⟩:∃ nm,(pp.length:Int) - 1 = nm:=⟨_,rfl⟩
 have w1:IntKind.i64.wrap ((ks.length:Int) - 1) = nk:=by rw [aw (by omega) (by omega),hnk]
 have w2:IntKind.i64.wrap ((ps.length:Int) - 1) = np:=by rw [aw (by omega) (by omega),hnp]
 have w3:IntKind.i64.wrap ((pp.length:Int) - 1) = nm:=by rw [aw (by omega) (by omega),hnm]
 obtain ⟨⟨k,s,d,n,c⟩,hx⟩:∃ x,pp[i] = x:=⟨_,rfl⟩
 have hI1:=fun σ=>cO k 0 nk σ
 have hI2:=fun σ=>cO s (-1) np σ
 have hI3:=fun σ=>cO d (-1) np σ
 have hI4:=fun σ=>cO n 0 1000000 σ
 have hI5:=fun σ=>cO c 0 nm σ
 rw [hx];unfold kE;dsimp only;rw [hnk,hnp,hnm];by_cases a1:inI k 0 nk = false
 ·rw [a1] at hI1;rw [if_pos (.inl a1)];refine aa _ ?_;simp [vm,ab.v,ab.cells,hi,hx,ak.v,ak.cells,w1];refine ah.pure ck (hI1 _) ?_;simp [hi,hx,ak.v,ak.cells,w1,w2]
 by_cases a2:inI s (-1) np = false
 ·rw [Bool.not_eq_false] at a1;rw [a1] at hI1;rw [a2] at hI2;rw [if_pos (.inr (.inl a2))];refine aa _ ?_;simp [vm,ab.v,ab.cells,hi,hx,ak.v,ak.cells,w1];refine ah.pure ck (hI1 _) ?_;simp [hi,hx,ak.v,ak.cells,w1,w2];refine ah.pure ck (hI2 _) ?_;simp [hi,hx,ak.v,ak.cells,w1,w2]
 by_cases a3:inI d (-1) np = false
 ·rw [Bool.not_eq_false] at a1 a2;rw [a1] at hI1;rw [a2] at hI2;rw [a3] at hI3;rw [if_pos (.inr (.inr a3))];refine aa _ ?_;simp [vm,ab.v,ab.cells,hi,hx,ak.v,ak.cells,w1];refine ah.pure ck (hI1 _) ?_;simp [hi,hx,ak.v,ak.cells,w1,w2];refine ah.pure ck (hI2 _) ?_;simp [hi,hx,ak.v,ak.cells,w1,w2];refine ah.pure ck (hI3 _) ?_;simp [hi,hx,ak.v,ak.cells,w1,w2]
 rw [if_neg (by simp [a1,a2,a3])];rw [Bool.not_eq_false] at a1 a2 a3;rw [a1] at hI1;rw [a2] at hI2;rw [a3] at hI3;by_cases a4:s = d
 ·rw [if_pos a4];refine aa _ ?_;simp [vm,ab.v,ab.cells,hi,hx,ak.v,ak.cells,w1];refine ah.pure ck (hI1 _) ?_;simp [hi,hx,ak.v,ak.cells,w1,w2];refine ah.pure ck (hI2 _) ?_;simp [hi,hx,ak.v,ak.cells,w1,w2];refine ah.pure ck (hI3 _) ?_;simp [hi,hx,ak.v,ak.cells,w1,w2,a4]
 rw [if_neg a4];by_cases a5:inI n 0 1000000 = false
 ·rw [a5] at hI4;rw [if_pos a5];refine aa _ ?_;simp [vm,ab.v,ab.cells,hi,hx,ak.v,ak.cells,w1];refine ah.pure ck (hI1 _) ?_;simp [hi,hx,ak.v,ak.cells,w1,w2];refine ah.pure ck (hI2 _) ?_;simp [hi,hx,ak.v,ak.cells,w1,w2];refine ah.pure ck (hI3 _) ?_;simp [hi,hx,ak.v,ak.cells,w1,w2,a4];refine ah.pure ck (hI4 _) ?_;simp [hi,hx,ak.v,ak.cells,w1,w2,w3]
 rw [if_neg a5];rw [Bool.not_eq_false] at a5;rw [a5] at hI4;by_cases a6:c = -1
 ·rw [if_pos a6];refine aa _ ?_;simp [vm,ab.v,ab.cells,hi,hx,ak.v,ak.cells,w1];refine ah.pure ck (hI1 _) ?_;simp [hi,hx,ak.v,ak.cells,w1,w2];refine ah.pure ck (hI2 _) ?_;simp [hi,hx,ak.v,ak.cells,w1,w2];refine ah.pure ck (hI3 _) ?_;simp [hi,hx,ak.v,ak.cells,w1,w2,a4];refine ah.pure ck (hI4 _) ?_;simp [hi,hx,ak.v,ak.cells,w1,w2,w3,a6]
 rw [if_neg a6];by_cases a7:inI c 0 nm = false
 ·rw [a7] at hI5;rw [if_pos (.inl a7)];refine aa _ ?_;simp [vm,ab.v,ab.cells,hi,hx,ak.v,ak.cells,w1];refine ah.pure ck (hI1 _) ?_;simp [hi,hx,ak.v,ak.cells,w1,w2];refine ah.pure ck (hI2 _) ?_;simp [hi,hx,ak.v,ak.cells,w1,w2];refine ah.pure ck (hI3 _) ?_;simp [hi,hx,ak.v,ak.cells,w1,w2,a4];refine ah.pure ck (hI4 _) ?_;simp [hi,hx,ak.v,ak.cells,w1,w2,w3,a6];refine ah.pure ck (hI5 _) ?_;simp [hi,hx,ak.v,ak.cells,w1,w2,w3]
 rw [Bool.not_eq_false] at a7;rw [a7] at hI5;by_cases a8:c = (i:Int)
 ·rw [if_pos (.inr a8)];refine aa _ ?_;simp [vm,ab.v,ab.cells,hi,hx,ak.v,ak.cells,w1];refine ah.pure ck (hI1 _) ?_;simp [hi,hx,ak.v,ak.cells,w1,w2];refine ah.pure ck (hI2 _) ?_;simp [hi,hx,ak.v,ak.cells,w1,w2];refine ah.pure ck (hI3 _) ?_;simp [hi,hx,ak.v,ak.cells,w1,w2,a4];refine ah.pure ck (hI4 _) ?_;simp [hi,hx,ak.v,ak.cells,w1,w2,w3,a6];refine ah.pure ck (hI5 _) ?_;simp [hi,hx,ak.v,ak.cells,w1,w2,w3,a8]
 rw [if_neg (by simp [a7,a8])];have h7:0 ≤ c ∧ c ≤ nm:=by simpa [inI] using a7
 obtain ⟨j,rfl⟩:∃ j:Nat,c = j:=⟨c.toNat,by omega⟩
 have hj:j < pp.length:=by omega
 have hjI:(j:Int) < pp.length:=by omega
 obtain ⟨⟨k2,s2,d2,n2,c2⟩,hx2⟩:∃ x,pp[j] = x:=⟨_,rfl⟩
 have hget:pp[(j:Int).toNat]? = some ⟨k2,s2,d2,n2,c2⟩:=by rw [Int.toNat_natCast,List.getElem?_eq_getElem hj,hx2]
 have h60:¬ (j:Int) = -1:=a6;rw [hget];dsimp only;have hcase:¬ c2 = (i:Int) ∨ (c2 = (i:Int) ∧ ¬ k2 = k) ∨ (c2 = (i:Int) ∧ k2 = k ∧ ¬ s2 = s) ∨ (c2 = (i:Int) ∧ k2 = k ∧ s2 = s ∧ ¬ d2 = d) ∨ (c2 = (i:Int) ∧ k2 = k ∧ s2 = s ∧ d2 = d):=by
  by_cases b1:c2 = (i:Int) <;> by_cases b2:k2 = k <;> by_cases b3:s2 = s <;> by_cases b4:d2 = d <;> simp [b1,b2,b3,b4]
 rcases hcase with b1 | ⟨b1,b2⟩ | ⟨b1,b2,b3⟩ | ⟨b1,b2,b3,b4⟩ | ⟨b1,b2,b3,b4⟩
 all_goals refine aa _ ?_
 all_goals simp [vm,ab.v,ab.cells,hi,hx,ak.v,ak.cells,w1]
 all_goals refine ah.pure ck (hI1 _) ?_
 all_goals simp [hi,hx,ak.v,ak.cells,w1,w2]
 all_goals refine ah.pure ck (hI2 _) ?_
 all_goals simp [hi,hx,ak.v,ak.cells,w1,w2]
 all_goals refine ah.pure ck (hI3 _) ?_
 all_goals simp [hi,hx,ak.v,ak.cells,w1,w2,a4]
 all_goals refine ah.pure ck (hI4 _) ?_
 all_goals simp [hi,hx,ak.v,ak.cells,w1,w2,w3,h60]
 all_goals refine ah.pure ck (hI5 _) ?_
 ·simp [hi,hx,ak.v,ak.cells,w1,w2,w3,a8,hj,hx2,b1]
 ·simp [hi,hx,ak.v,ak.cells,w1,w2,w3,a8,hj,hx2,b1,b2]
 ·simp [hi,hx,ak.v,ak.cells,w1,w2,w3,a8,hj,hx2,b1,b2,b3]
 ·simp [hi,hx,ak.v,ak.cells,w1,w2,w3,a8,hj,hx2,b1,b2,b3,b4]
 ·simp [hi,hx,ak.v,ak.cells,w1,w2,w3,a8,hj,hx2,b1,b2,b3,b4]
set_option maxRecDepth 100000
set_option maxHeartbeats 1000000
theorem lY (y:ab) (hy:dz y) (σ:af):Spec Tryz.prog Is [y.v] σ fun r σ'=>r = .ret (cw (bt aN y)) ∧ σ' = σ:=by
 refine Spec.aI (Pf (by simp) ?_) (by simp [y.pure,aK]) (by simp [cw,ag.pure,aK]) σ;have hI1:=fun σ=>cO y.kinds.length 1 4 σ
 have hI2:=fun σ=>cO y.places.length 1 4 σ
 have hn1:=fun σ=>l9 y.kinds hy.kinds σ
 have hn2:=fun σ=>l9 y.places hy.places σ
 have hc1:=fun σ=>lA y hy y.first hy.first σ
 have hc2:=fun σ=>lA y hy y.last hy.last σ
 have hpp:=fun i hi σ=>tN y hy i hi σ
 have hm:=hy.papers;simp only [ab.v,ab.cells,cz] at hc1 hc2 hpp;by_cases a1:inI y.kinds.length 1 4 = false
 ·have hv:bt aN y = (1,0,3):=by unfold bt; rw [if_pos (.inl a1)]
  rw [hv];rw [a1] at hI1;refine aa _ ?_;simp [zh,ab.v,ab.cells];refine ah.pure ck (hI1 _) ?_;simp [cw]
 rw [Bool.not_eq_false] at a1;rw [a1] at hI1;by_cases a2:inI y.places.length 1 4 = false
 ·have hv:bt aN y = (1,0,3):=by unfold bt; rw [if_pos (.inr (.inl a2))]
  rw [hv];rw [a2] at hI2;refine aa _ ?_;simp [zh,ab.v,ab.cells];refine ah.pure ck (hI1 _) ?_;simp;refine ah.pure ck (hI2 _) ?_;simp [cw]
 rw [Bool.not_eq_false] at a2;rw [a2] at hI2;by_cases a3:10 < y.papers.length ∨ 8 < y.first.length ∨ 8 < y.last.length
 ·have hv:bt aN y = (1,0,3):=by unfold bt; rw [if_pos (.inr (.inr a3))]
  rw [hv];by_cases b1:10 < y.papers.length <;> by_cases b2:8 < y.first.length
  all_goals have b1I:(10 < y.papers.length) ↔ (10:Int) < y.papers.length:=by omega
  all_goals have b2I:(8 < y.first.length) ↔ (8:Int) < y.first.length:=by omega
  all_goals have b3I:(8 < y.last.length) ↔ (8:Int) < y.last.length:=by omega
  all_goals rw [b1I] at b1
  all_goals rw [b2I] at b2
  all_goals rw [b1I,b2I,b3I] at a3
  all_goals refine aa _ ?_
  all_goals simp [zh,ab.v,ab.cells]
  all_goals refine ah.pure ck (hI1 _) ?_
  all_goals simp
  all_goals refine ah.pure ck (hI2 _) ?_
  ·simp [cw,b1]
  ·simp [cw,b1]
  ·simp [cw,b1,b2]
  ·have b3:(8:Int) < y.last.length:=a3.elim (fun h=>absurd h b1) fun h=>h.elim (fun h=>absurd h b2) id
   simp [cw,b1,b2,b3]
 have b1:¬ (10:Int) < y.papers.length:=by omega
 have b2:¬ (8:Int) < y.first.length:=by omega
 have b3:¬ (8:Int) < y.last.length:=by omega
 have hv:bt aN y = if (ay (eS aN y.kinds) y.kinds 0).2 ≠ 0 then (2,ay (eS aN y.kinds) y.kinds 0)
   else if (ay (eS aN y.places) y.places 0).2 ≠ 0 then (3,ay (eS aN y.places) y.places 0)
   else if (ay (fo y y.first) y.first 0).2 ≠ 0 then (4,ay (fo y y.first) y.first 0)
   else if (ay (kE y) y.papers 0).2 ≠ 0 then (5,ay (kE y) y.papers 0)
   else if (ay (fo y y.last) y.last 0).2 ≠ 0 then (6,ay (fo y y.last) y.last 0)
   else (0,0,0):=by unfold bt; rw [if_neg (by rw [a1,a2]; simpa using a3)]
 rw [hv];obtain ⟨⟨i1,e1⟩,h1⟩:∃ p,ay (eS aN y.kinds) y.kinds 0 = p:=⟨_,rfl⟩
 obtain ⟨⟨i2,e2⟩,h2⟩:∃ p,ay (eS aN y.places) y.places 0 = p:=⟨_,rfl⟩
 obtain ⟨⟨i3,e3⟩,h3⟩:∃ p,ay (fo y y.first) y.first 0 = p:=⟨_,rfl⟩
 obtain ⟨⟨i5,e5⟩,h5⟩:∃ p,ay (fo y y.last) y.last 0 = p:=⟨_,rfl⟩
 rw [h1] at hn1;rw [h2] at hn2;rw [h3] at hc1;rw [h5] at hc2;rw [h1,h2,h3,h5];dsimp only at hn1 hn2 hc1 hc2 ⊢;by_cases z1:e1 = 0;rotate_left
 ·rw [if_pos z1];refine aa _ ?_;simp [zh,ab.v,ab.cells];refine ah.pure ck (hI1 _) ?_;simp;refine ah.pure ck (hI2 _) ?_;simp [b1,b2,b3];refine ah.pure AB (hn1 _) ?_;simp [z1,cw]
 rw [if_neg (by simp [z1])];by_cases z2:e2 = 0;rotate_left
 ·rw [if_pos z2];refine aa _ ?_;simp [zh,ab.v,ab.cells];refine ah.pure ck (hI1 _) ?_;simp;refine ah.pure ck (hI2 _) ?_;simp [b1,b2,b3];refine ah.pure AB (hn1 _) ?_;simp [z1];refine ah.pure AB (hn2 _) ?_;simp [z2,cw]
 rw [if_neg (by simp [z2])];by_cases z3:e3 = 0;rotate_left
 ·rw [if_pos z3];refine aa _ ?_;simp [zh,ab.v,ab.cells];refine ah.pure ck (hI1 _) ?_;simp;refine ah.pure ck (hI2 _) ?_;simp [b1,b2,b3];refine ah.pure AB (hn1 _) ?_;simp [z1];refine ah.pure AB (hn2 _) ?_;simp [z2];refine ah.pure JA (hc1 _) ?_;simp [z3,cw]
 rw [if_neg (by simp [z3])];refine aa _ ?_;simp [zh,ab.v,ab.cells];refine ah.pure ck (hI1 _) ?_;simp;refine ah.pure ck (hI2 _) ?_;simp [b1,b2,b3];refine ah.pure AB (hn1 _) ?_;simp [z1];refine ah.pure AB (hn2 _) ?_;simp [z2];refine ah.pure JA (hc1 _) ?_;simp [z3];refine AW.loop (ι:=Nat) (fun i fr σ=>fr = { v:=[(1, .pval (.agg [.slice 1 (y.kinds.map .str), .slice 1 (y.places.map .str), .slice 4 (y.first.map av.v), .slice 5 (y.papers.map ak.v), .slice 4 (y.last.map av.v)])),(7, .int .i64 i)],ds:=[] } ∧ i ≤ y.papers.length ∧ ay (kE y) y.papers 0 = ay (kE y) (y.papers.drop i) i) (fun i=>y.papers.length - i) 0 (by simp) ?_;rintro i fr σ ⟨rfl,hi,hq⟩;refine (Nat.lt_or_ge i y.papers.length).elim (fun hlt=>?_) (fun hge=>?_)
 ·rw [mU _ _ hlt] at hq;have hpi:=fun σ=>hpp i hlt σ
  have hw:IntKind.i64.wrap ((i:Int) + 1) = ((i + 1:Nat):Int):=by rw [aw (by omega) (by simp only [maxLen] at hm; omega)]; simp
  obtain ⟨e,he⟩:∃ e,kE y i y.papers[i] = e:=⟨_,rfl⟩
  rw [he] at hpi hq;by_cases h0:e = 0
  ·rw [if_neg (by simp [h0])] at hq;refine aa _ ?_;simp [hlt];refine ah.pure Kb (hpi _) ?_;simp [h0,hw];exact ⟨i + 1,by omega,rfl,by omega,hq⟩
  ·rw [if_pos h0] at hq;rw [hq];refine aa _ ?_;simp [hlt];refine ah.pure Kb (hpi _) ?_;simp [h0,cw]
 ·have hd:y.papers.drop i = []:=List.drop_eq_nil_of_le hge;have hn:ay (kE y) [] i = (0,0):=rfl;rw [hd,hn] at hq;rw [hq];refine aa _ ?_;simp [show ¬ i < y.papers.length by omega];refine ah.pure JA (hc2 _) ?_;by_cases z5:e5 = 0
  ·have hz:=yE (f:=fo y y.last) (l:=y.last) (i:=0) (by rw [h5]; exact z5);simp [z5,cw]
  ·simp [z5,cw]
theorem uA (y:ab) (hy:dz y) (σ:af):Spec Tryz.prog Js [y.v] σ fun r σ'=>r = .ret (.bool (decide ((bt aN y).2.2 = 0))) ∧ σ' = σ:=by
 refine Spec.aI (OU (by simp) (aa _ ?_)) (by simp [y.pure,aK]) rfl σ;have hc:=fun σ=>lY y hy σ
 simp only [ab.v,ab.cells,cw] at hc;simp [Mu,ab.v,ab.cells];refine ah.pure MV (hc _) ?_;by_cases h:(bt aN y).2.2 = 0 <;> simp [h]
end Go.AM
