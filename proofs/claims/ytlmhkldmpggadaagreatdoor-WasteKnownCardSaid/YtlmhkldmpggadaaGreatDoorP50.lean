/- Chapter 09: WasteKnown, by contracts. -/
import Derived.Test.YtlmhkldmpggadaaGreatDoorP45
namespace Go.AM
open Go.Proofs
set_option maxRecDepth 100000
set_option maxHeartbeats 4000000
theorem JD (σ:af):Spec Tryz.prog F5 [exY.v, .slice 1 []] σ fun r σ'=>r = .ret (.tup [.bool false,ii' 0]) ∧ σ' = σ:=by
 have h:=ed exY fk [] (by decide) σ;rw [show gw exY [] = (false,0) by decide +kernel] at h; exact h
theorem H2 (y:ab) (hy:dv y) (w:List Int) (hw:w.length ≤ maxLen) {a b c d e:Int} (h:(fun r:bt × Int=>(r.1.paper,r.1.kind,r.1.places,r.1.over,r.2)) (Iz y w) = (a,b,c,d,e)) (σ:af):Spec Tryz.prog G5 [y.v, .slice 1 (w.map ii')] σ fun r σ'=>r = .ret (.tup [.agg [ii' a,ii' b,ii' c,ii' d],ii' e]) ∧ σ' = σ:=by
 have g:=og y hy w hw σ;simp only [Prod.mk.injEq] at h;obtain ⟨e1,e2,e3,e4,e5⟩:=h;simp only [bt.v,bt.cells,e1,e2,e3,e4,e5] at g; exact g
theorem Jo (σ:af):Spec Tryz.prog IG [exY.v] σ fun r σ'=>r = .ret (.tup [.slice 1 [ii' 1],ii' 0]) ∧ σ' = σ:=by
 have h:=lb exY fk σ;rw [show sX exY = ([1],0) by decide +kernel] at h; exact h
theorem NJ (σ:af):Spec Tryz.prog Il [exZ.v] σ fun r σ'=>r = .ret (.tup [.slice 1 [],ii' 0]) ∧ σ' = σ:=by
 have h:=nC exZ pb σ;rw [show Be exZ = ([],0) by decide +kernel] at h; exact h
theorem QA (σ:af):Spec Tryz.prog Ji [exY.v] σ fun r σ'=>r = .ret (.tup [.slice 1 [ii' 1],ii' 0]) ∧ σ' = σ:=by
 have h:=o7 exY fk σ;rw [show JF exY = ([1],0) by decide +kernel] at h; exact h
theorem J6 (σ:af):Spec Tryz.prog C7 [exY.v, .slice 1 [ii' 0,ii' 1],ii' 0] σ fun r σ'=>r = .ret (.tup [.agg [ii' 600,ii' 600],ii' 0]) ∧ σ' = σ:=by
 have h:=dH exY fk [0,1] (by decide) 0 σ;have e0:eJ exY [0,1] (fa exY 0) = 0:=by decide +kernel
 rw [e0] at h;refine h.mono ?_;rintro r σ' ⟨⟨lo,hi,rfl,_,h2⟩,rfl⟩;obtain ⟨rfl,rfl⟩:=FP (Dj Gc) (h2 rfl);exact ⟨rfl,rfl⟩
theorem N0 (σ:af):Spec Tryz.prog CX [exY.v, .slice 1 [ii' 1],ii' 1] σ fun r σ'=>r = .ret (.tup [.agg [ii' 0,ii' 0],ii' 0]) ∧ σ' = σ:=by
 have h:=eL exY fk [1] (by decide) 1 σ;have e0:eJ exY [1] (eU exY 1) = 0:=by decide +kernel
 rw [e0] at h;refine h.mono ?_;rintro r σ' ⟨⟨lo,hi,rfl,_,h2⟩,rfl⟩;obtain ⟨rfl,rfl⟩:=Hw (Dj Gc) (h2 rfl);exact ⟨rfl,rfl⟩
theorem z6 (σ:af):Spec Tryz.prog JI [.bool false] σ fun r σ'=>∃ (o1 o3:cq),r = .ret (.agg [.slice 1 (exY.kinds.map .str), .slice 1 (exY.places.map .str), .slice 4 (exY.first.map ay.v), .slice 5 (exY.papers.map aj.v), .sref 4 (σ.length + 1) 0 2 2]) ∧ σ' = σ ++ [o1, .arr 4 [.agg [ii' 0,ii' 0,ii' 100,ii' 100], .agg [ii' 0,ii' 1,ii' 600,ii' 600]],o3]:=by
 refine tA (by simp) (aa _ ?_);simp [lM];refine ah.pure p8 (bI 1000 1000 _) ?_;simp;refine ah.pure p8 (bI 100 100 _) ?_;simp;refine ah.pure p8 (bI 600 600 _) ?_;simp;exact ⟨rfl,rfl,rfl,rfl⟩
theorem vo (σ:af):Spec Tryz.prog F_7 [] σ fun r σ'=>r = .ret (.bool true) ∧ σ' = σ:=by
 refine Spec.aF (S_7 (by simp) (aa _ ?_)) rfl rfl σ;have hY:=ja false;have hZ:=ja true;rw [show exW false = exY from rfl] at hY;rw [show exW true = exZ from rfl] at hZ;have c0:=JD;have w0:=fun σ=>H2 exY fk [] (by decide) (a:=0) (b:=0) (c:=0) (d:=0) (e:=0) (by decide +kernel) σ;have w1:=fun σ=>H2 exY fk [1] (by decide) (a:=0) (b:=0) (c:=0) (d:=0) (e:=4) (by decide +kernel) σ;have w2:=fun σ=>H2 exF Ku [1,2] (by decide) (a:=-1) (b:=0) (c:=2) (d:=-100) (e:=0) (by decide +kernel) σ;have fe:=Jo;have mu:=NJ;have ma:=QA;have ra:=J6;have go:=N0;simp only [ab.v,ab.cells,List.map_nil,List.map_cons] at hY hZ c0 w0 w1 w2 fe mu ma ra go;simp [C_7];refine ah.pure HQ (hY _) ?_;simp;refine ah.pure GL (c0 _) ?_;simp;refine ah.pure JR (w0 _) ?_;simp;refine ah.pure JR (w1 _) ?_;simp;refine ah.spec HQ (z6 _) ?_;rintro r σ2 ⟨o1,o3,rfl,rfl⟩;refine ⟨_,rfl, ?_⟩;simp;refine ⟨_,fun σ'=>aE.func p8 (bI 700 700 σ'), ?_⟩;have w3:∀ σ,Spec Tryz.prog G5 [.agg [.slice 1 (exY.kinds.map .str), .slice 1 (exY.places.map .str), .slice 4 (exY.first.map ay.v), .slice 5 (exY.papers.map aj.v), .slice 4 [.agg [ii' 0,ii' 0,ii' 100,ii' 100], .agg [ii' 0,ii' 1,ii' 700,ii' 700]]], .slice 1 [ii' 1,ii' 2]] σ fun r σ'=>r = .ret (.tup [.agg [ii' (-1),ii' 0,ii' 2,ii' (-100)],ii' 0]) ∧ σ' = σ:=w2;simp;refine ah.pure JR (w3 _) ?_;simp;refine ah.pure Qb (fe _) ?_;simp;refine ah.pure O6 (ma _) ?_;simp;refine ah.pure HQ (hZ _) ?_;simp;refine ah.pure Qq (mu _) ?_;simp;refine ah.pure J0 (ra _) ?_;simp;refine ah.pure He (go _) ?_;simp [-bK];refine xI 0 ?_ ?_
 ·have hm:∀ {l:List Int},l.length ≤ 10 → l.length ≤ maxLen:=fun h=>by simp only [maxLen]; omega
  repeat (rw [bK]; simp [-bK])
  refine ⟨.bool true,fun σ'=>aE.func Jb (gq [1] (hm (by simp)) σ'), ?_⟩
  repeat (rw [bK]; simp [-bK])
  refine ⟨.bool true,fun σ'=>aE.func Jb (gq [1] (hm (by simp)) σ'), ?_⟩
  repeat (rw [bK]; simp [-bK])
  refine ⟨_,fun σ'=>aE.func p8 (bI 600 600 σ'), ?_⟩
  repeat (rw [bK]; simp [-bK])
  refine ⟨_,fun σ'=>aE.func p8 (bI 0 0 σ'), ?_⟩
  repeat (rw [bK]; simp [-bK])
  refine ⟨.bool true,fun σ'=>aE.func Dq (gM σ'), ?_⟩
  repeat (rw [bK]; simp [-bK])
  simp [D7,zK]
 ·intro e es h1 h2;have hcl:∀ bef,eW bef [] es.reverse 0 = true:=fun bef=>vM bef _ [] 0 (by intro x hx; exact tW h2 x (List.mem_reverse.1 hx));simp [hcl,h1]
end Go.AM
