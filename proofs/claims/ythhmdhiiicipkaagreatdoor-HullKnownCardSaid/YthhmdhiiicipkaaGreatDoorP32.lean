/- HullKnown: the examples of the document. -/
import Derived.Test.YthhmdhiiicipkaaGreatDoorP29
namespace Go.AM
open Go.Proofs
set_option maxRecDepth 100000
set_option maxHeartbeats 1000000
def C9:List HuM:=[lf,lu,qO,nM]
theorem AR:a7 exP 150 = C9 ∧ bJ exP 150 = 0:=⟨by kernel_rfl,by kernel_rfl⟩
theorem xI:cB exQ 0 0 40 = 0 ∧ b9 exQ 0 0 40 = .agg [ii' 14000,ii' 15500]:=⟨by kernel_rfl,by kernel_rfl⟩
theorem oF:(cz exP 200 cJ = 0 ∧ cy exP 200 cJ = [eo,b8]) ∧ cz exP 200 b8 = 0 ∧ cy exP 200 b8 = []:=⟨⟨by kernel_rfl,by kernel_rfl⟩,by kernel_rfl,by kernel_rfl⟩
theorem B7:aF [cL 99 exP,cL 99 exQ] = [eo,eS,cY]:=jI (by kernel_rfl)
theorem By:aF [cL 100 exP,cL 100 exQ] = [eo,eS,b8,cY]:=jI (by kernel_rfl)
theorem sL:bN exP exQ 99 = 0 ∧ bq exP exQ 99 = []:=by
  have h1:bN exP exQ 99 = 0:=by kernel_rfl
  refine ⟨h1, ?_⟩
  unfold bq cD
  rw [if_pos h1,B7]
  kernel_rfl
theorem sQ:bN exP exQ 100 = 0 ∧ bq exP exQ 100 = [b8]:=by
  have h1:bN exP exQ 100 = 0:=by kernel_rfl
  refine ⟨h1, ?_⟩
  unfold bq cD
  rw [if_pos h1,By]
  kernel_rfl
def Cj:List av:=[⟨b8,5,0⟩]
theorem yx:aW [exP,exQ] 200 Cj = 0 ∧ jb [exP,exQ] 200 Cj = [0,1]:=⟨by kernel_rfl,by kernel_rfl⟩
theorem BX:aF [cL 200 exQ] = [eo,eS,cY]:=jI (by kernel_rfl)
theorem vX:aW [exQ] 200 [] = 0 ∧ a8 [exQ] 200 [] = [cL 200 exQ]:=⟨by kernel_rfl,by kernel_rfl⟩
theorem Fk:(eB [cL 200 exQ]).left = 1:=by
  unfold eB
  rw [BX]
  kernel_rfl
theorem Dw:jA [exQ] 200 [] = 4 ∧ k0 [exQ] 200 [] = ⟨.empty,0,0⟩:=by
  have h0:cR [exQ] 200 [] = 0:=by
    unfold cR
    rw [vX.1,if_neg (by decide),vX.2,if_neg (by simp)]
  have h1:jA [exQ] 200 [] = 4:=by
    unfold jA
    rw [h0,if_neg (by decide),vX.2,Fk,if_pos (by rfl)]
  refine ⟨h1, ?_⟩
  unfold k0
  rw [if_neg (by rw [h1]; decide)]
theorem yw (σ:ag):Spec Tryz.prog C6 [exP.v,ii' 150] σ fun r σ'=>r = .ret (.tup [.agg [.slice 7 (C9.map HuM.v)],ii' 0]) ∧ σ' = σ:=by
  have h:=bZ exP.ship exP.chs fP.1.tolJ 150 σ
  rw [show (⟨exP.ship,exP.chs⟩:ar) = exP from rfl,AR.1,AR.2] at h
  exact h
theorem wI (σ:ag):Spec Tryz.prog Cl [exQ.v,ii' 0,ii' 0,ii' 40] σ fun r σ'=>r = .ret (.tup [.agg [ii' 14000,ii' 15500],ii' 0]) ∧ σ' = σ:=by
  have h:=fq exQ.ship exQ.chs fP.2.tolJ 0 0 40 σ
  rw [show (⟨exQ.ship,exQ.chs⟩:ar) = exQ from rfl,xI.1,xI.2] at h
  exact h
theorem uF (σ:ag):Spec Tryz.prog yX [exP.v,ii' 200, .str cJ] σ fun r σ'=>r = .ret (.tup [.slice 1 ([eo,b8].map .str),ii' 0]) ∧ σ' = σ:=by
  have h:=dp exP.ship exP.chs fP.1.tolJ 200 cJ σ
  rw [show (⟨exP.ship,exP.chs⟩:ar) = exP from rfl,oF.1.1,oF.1.2] at h
  exact h
theorem uD (σ:ag):Spec Tryz.prog yX [exP.v,ii' 200, .str b8] σ fun r σ'=>r = .ret (.tup [.slice 1 [],ii' 0]) ∧ σ' = σ:=by
  have h:=dp exP.ship exP.chs fP.1.tolJ 200 b8 σ
  rw [show (⟨exP.ship,exP.chs⟩:ar) = exP from rfl,oF.2.1,oF.2.2] at h
  exact h
theorem uc (σ:ag):Spec Tryz.prog BG [exP.v,exQ.v,ii' 99] σ fun r σ'=>r = .ret (.tup [.slice 1 [],ii' 0]) ∧ σ' = σ:=by
  have h:=cT exP.ship exQ.ship exP.chs exQ.chs fP.1.tolJ fP.2.tolJ 99 σ
  rw [show (⟨exP.ship,exP.chs⟩:ar) = exP from rfl,show (⟨exQ.ship,exQ.chs⟩:ar) = exQ from rfl,sL.1,sL.2] at h
  exact h
theorem tS (σ:ag):Spec Tryz.prog BG [exP.v,exQ.v,ii' 100] σ fun r σ'=>r = .ret (.tup [.slice 1 ([b8].map .str),ii' 0]) ∧ σ' = σ:=by
  have h:=cT exP.ship exQ.ship exP.chs exQ.chs fP.1.tolJ fP.2.tolJ 100 σ
  rw [show (⟨exP.ship,exP.chs⟩:ar) = exP from rfl,show (⟨exQ.ship,exQ.chs⟩:ar) = exQ from rfl,sQ.1,sQ.2] at h
  exact h
theorem vU (σ:ag):Spec Tryz.prog D4 [bx [exP,exQ],ii' 200,br Cj] σ fun r σ'=>r = .ret (.tup [.slice 1 ([0,1].map ii'),ii' 0]) ∧ σ' = σ:=by
  have h:=iA [exP,exQ] 200 Cj (vR _ (by simp [Cj])) σ
  rw [yx.1,yx.2] at h
  exact h
theorem zb (σ:ag):Spec Tryz.prog Dv [bx [exQ],ii' 200, .slice 3 []] σ fun r σ'=>r = .ret (.tup [.str .empty,ii' 0,ii' 0,ii' 4]) ∧ σ' = σ:=by
  have h:=jR [exQ] 200 [] ⟨by simp [maxLen],fun p hp=>by
    simp at hp; subst hp; exact fP.2.tolJ,by simp [maxLen]⟩ σ
  rw [Dw.1,Dw.2] at h
  exact h
theorem sy:Spec Tryz.prog F_6 [] [] fun r _=>r = .ret (.bool true):=by
  refine S_6 (by simp) (aa _ ?_)
  have hP:=dZ 2 (by omega)
  have hQ:=dZ 0 (by omega)
  rw [wS] at hP
  rw [tX] at hQ
  have hsh:=yw
  have hwe:=wI
  have ha1:=uF
  have ha2:=uD
  have hd1:=uc
  have hd2:=tS
  have hbo:=ni
  have hag:=vU
  have hak:=zb
  simp only [ar.v,ar.cells,bx,br,Cj,av.v,av.cells,List.map_cons,List.map_nil] at hP hQ hsh hwe ha1 ha2 hd1 hd2 hbo hag hak
  simp only [C9,lf,lu,qO,nM,HuM.v,HuM.cells,List.map_cons,List.map_nil] at hsh
  simp [C_6]
  refine af.pure kS (hP _) ?_
  simp
  refine af.pure ll (hsh _) ?_
  simp
  refine af.pure kS (hQ _) ?_
  simp
  refine af.pure yl (hwe _) ?_
  simp
  refine af.pure kS (hP _) ?_
  simp
  refine af.pure zi (ha1 _) ?_
  simp
  refine af.pure kS (hP _) ?_
  simp
  refine af.pure zi (ha2 _) ?_
  simp
  refine af.pure kS (hP _) ?_
  simp
  refine af.pure kS (hQ _) ?_
  simp
  refine af.pure uy (hd1 _) ?_
  simp
  refine af.pure kS (hP _) ?_
  simp
  refine af.pure kS (hQ _) ?_
  simp
  refine af.pure uy (hd2 _) ?_
  simp
  refine af.pure EF (hbo _) ?_
  simp
  refine af.pure Fh (hag _) ?_
  simp
  refine af.pure kS (hQ _) ?_
  simp
  refine af.pure Fi (hak _) ?_
  simp [-bc]
  refine tD 0 ?_ ?_
  · have hm:∀ {l:List ByteArray},l.length ≤ 10 → l.length ≤ maxLen:=fun h=>by simp only [maxLen]; omega
    have hq1:cY.toList = [116,97,110,107,49]:=by rw [toList_data]; rfl
    have hq2:b8.toList = [112,105,112,101,49]:=by rw [toList_data]; rfl
    repeat (rw [bc]; simp [-bc,hq1,hq2])
    refine ⟨.agg [ii' 14000,ii' 15500],fun σ'=>aB.func oE (bt 14000 15500 σ'), ?_⟩
    repeat (rw [bc]; simp [-bc])
    refine ⟨.bool true,fun σ'=>aB.func pD (b5 [eo,b8] (hm (by simp)) σ'), ?_⟩
    repeat (rw [bc]; simp [-bc])
    refine ⟨.bool true,fun σ'=>aB.func pD (b5 [b8] (hm (by simp)) σ'), ?_⟩
    repeat (rw [bc]; simp [-bc])
    refine ⟨.bool true,fun σ'=>aB.func EK (j5 [0,1] (by simp [maxLen]) σ'), ?_⟩
    repeat (rw [bc]; simp [-bc])
    refine ⟨.bool true,fun σ'=>aB.func jB (bj σ'), ?_⟩
    repeat (rw [bc]; simp [-bc])
    simp [Ae,vm]
  · intro e es h1 h2
    have hcl:∀ bef,dY bef [] es.reverse 0 = true:=fun bef=>tw bef _ [] 0 (by intro x hx; exact ql h2 x (List.mem_reverse.1 hx))
    simp [hcl,h1]
end Go.AM
