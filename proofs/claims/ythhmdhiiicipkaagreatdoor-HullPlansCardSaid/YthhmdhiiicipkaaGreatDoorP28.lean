/- The examples of chapter 01. The examples of chapter 01: the law's own functions, and what the program answers. Awake of chapter 01, by contracts. HullShips: Name, Check, Ship, Weigh and Above return what the document says. -/
import Derived.Test.YthhmdhiiicipkaaGreatDoorP27
import Derived.Test.YthhmdhiiicipkaaGreatDoorP25
import Derived.Test.YthhmdhiiicipkaaGreatDoorP24
import Derived.Test.YthhmdhiiicipkaaGreatDoorP22
namespace Go.AM
open Go.Proofs
set_option maxRecDepth 100000
set_option maxHeartbeats 1000000
def eS:ByteArray:=⟨#[107,101,101,108]⟩
def cY:ByteArray:=⟨#[116,97,110,107,49]⟩
def eo:ByteArray:=⟨#[100,101,99,107]⟩
def b8:ByteArray:=⟨#[112,105,112,101,49]⟩
def cJ:ByteArray:=⟨#[104,111,108,100,49]⟩
def lf:HuM:=⟨eS,2,0,40,[],9000,10000⟩
def lu:HuM:=⟨cY,4,10,19,[eS],2000,2500⟩
def qO:HuM:=⟨eo,1,5,24,[cY,eS],3000,3000⟩
def nM:HuM:=⟨b8,5,12,30,[cY],100,200⟩
def kY:HuM:=⟨cJ,1,10,29,[eS],800,900⟩
def exQ:ar:=⟨[lf,lu,qO],[]⟩
def exP:ar:=⟨[lf,lu,qO],[⟨1,100, .empty,nM⟩,⟨3,200,cY,kY⟩]⟩
def sb:List HuM:=[lf,kY,⟨eo,1,5,24,[cJ,eS],3000,3000⟩,⟨b8,5,12,30,[cJ],100,200⟩]
def DI:List av:=[⟨cY,15,4⟩]
theorem wN:(bT exP).2.2 = 0 ∧ (bT exQ).2.2 = 0:=⟨by kernel_rfl,by kernel_rfl⟩
theorem Eo:bJ exP 200 = 0 ∧ bJ exQ 0 = 0:=⟨by kernel_rfl,by kernel_rfl⟩
theorem Er:a7 exP 200 = sb:=by kernel_rfl
theorem yp:cB exQ 0 10 19 = 0 ∧ b9 exQ 0 10 19 = .agg [ii' 5695,ii' 6440]:=⟨by kernel_rfl,by kernel_rfl⟩
theorem pn:cz exP 200 eS = 0 ∧ cy exP 200 eS = [cJ,eo,b8] ∧ cz exP 200 cY = 4:=⟨by kernel_rfl,by kernel_rfl,by kernel_rfl⟩
def De:List ByteArray → Bool
  | a :: b :: r=>decide (ltS a b) && De (b :: r)
  | _=>true
theorem ym:∀ {l:List ByteArray},De l = true → Asc l
  | [],_=>List.Pairwise.nil
  | [a],_=>List.pairwise_singleton _ _
  | a :: b :: r,h=>by
    simp only [De,Bool.and_eq_true,decide_eq_true_eq] at h
    have ih:=ym h.2
    refine List.pairwise_cons.2 ⟨fun x hx=>?_,ih⟩
    rcases List.mem_cons.1 hx with rfl | hx
    · exact h.1
    · exact fN h.1 ((List.pairwise_cons.1 ih).1 x hx)
theorem zp {m l:List ByteArray} (h:(De m && m.all (fun x=>wT x l) && l.all (fun x=>wT x m)) = true):jx l = m:=by
  simp only [Bool.and_eq_true,List.all_eq_true,lP] at h
  exact (qt (ym h.1.1) fun x=>⟨h.1.2 x,h.2 x⟩).symm
theorem jI {m:List ByteArray} {l:List (List HuM)} (h:(De m && m.all (fun x=>wT x (bU l)) && (bU l).all (fun x=>wT x m)) = true):aF l = m:=zp h
theorem p6:aF [cL 200 exP,cL 200 exQ] = [eo,cJ,eS,b8,cY]:=jI (by kernel_rfl)
theorem uR:bN exP exQ 200 = 0 ∧ bq exP exQ 200 = [eo,cJ,b8,cY]:=by
  have h1:bN exP exQ 200 = 0:=by kernel_rfl
  refine ⟨h1, ?_⟩
  unfold bq cD
  rw [if_pos h1,p6]
  kernel_rfl
theorem uT:aW [exP,exQ] 200 DI = 0 ∧ aW [exP,exQ] 200 [] = 0:=⟨by kernel_rfl,by kernel_rfl⟩
theorem Dl:jb [exP,exQ] 200 DI = [1]:=by kernel_rfl
theorem rK:a8 [exP,exQ] 200 [] = [cL 200 exP,cL 200 exQ]:=by kernel_rfl
theorem wR:cR [exP,exQ] 200 [] = 0 ∧ dA [exP,exQ] 200 [] = ([eo,eS],[eo,cJ,eS,b8,cY]):=by
  have h1:cR [exP,exQ] 200 [] = 0:=by
    unfold cR
    rw [uT.2,if_neg (by decide),rK,if_neg (by simp)]
  refine ⟨h1, ?_⟩
  unfold dA tL
  rw [if_pos h1,rK,p6]
  kernel_rfl
theorem Bi:eB [cL 200 exP,cL 200 exQ] = ⟨cJ,10,1⟩:=by
  unfold eB
  rw [p6]
  kernel_rfl
theorem CU:jA [exP,exQ] 200 [] = 0 ∧ k0 [exP,exQ] 200 [] = ⟨cJ,10,1⟩:=by
  have h1:jA [exP,exQ] 200 [] = 0:=by
    unfold jA
    rw [wR.1,if_neg (by decide),rK,Bi,if_neg (by decide)]
  refine ⟨h1, ?_⟩
  unfold k0
  rw [if_pos h1,rK,Bi]
def j0:ByteArray:=⟨#[112,97,114,116,32,107,101,101,108,32,98,101,97,109,32,48,32,52,48,32,57,48,48,48,32,49,48,48,48,48,10,112,97,114,116,32,116,97,110,107,49,32,116,97,110,107,32,49,48,32,49,57,32,50,48,48,48,32,50,53,48,48,32,107,101,101,108,10,112,97,114,116,32,100,101,99,107,32,112,108,97,116,101,32,53,32,50,52,32,51,48,48,48,32,51,48,48,48,32,116,97,110,107,49,32,107,101,101,108,10,49,48,48,32,97,100,100,32,112,105,112,101,49,32,112,105,112,101,32,49,50,32,51,48,32,49,48,48,32,50,48,48,32,116,97,110,107,49,10,50,48,48,32,115,119,97,112,32,116,97,110,107,49,32,104,111,108,100,49,32,112,108,97,116,101,32,49,48,32,50,57,32,56,48,48,32,57,48,48,32,107,101,101,108,10]⟩
theorem AT:fY exP = aL j0:=by kernel_rfl
set_option maxRecDepth 100000
set_option maxHeartbeats 1000000
theorem bt (a b:Int) (σ:ag):Spec Tryz.prog GY [ii' a,ii' b] σ fun r σ'=>r = .ret (.agg [ii' a,ii' b]) ∧ σ' = σ:=by
  refine Spec.aC (MR (by simp) (aa _ ?_)) rfl rfl σ
  simp [Jn]
theorem cw (x:HuM) (σ:ag):Spec Tryz.prog H5 [.str x.name,ii' x.kind,ii' x.first,ii' x.last, .agg [ii' x.lo,ii' x.hi], .slice 1 (x.on.map .str)] σ fun r σ'=>r = .ret x.v ∧ σ' = σ:=by
  refine Spec.aC (Ma (by simp) (aa _ ?_)) (by simp [aA,ab.pure,ah (f:=ab.str) (fun _=>rfl)]) x.pure σ
  simp [IJ,HuM.v,HuM.cells]
def exN (n:Nat):ar:=⟨exP.ship,exP.chs.take n⟩
theorem dZ (n:Nat) (hn:n ≤ 2) (σ:ag):Spec Tryz.prog GX [nn' n] σ fun r σ'=>r = .ret (exN n).v ∧ σ' = σ:=by
  refine Spec.aC (Mp (by simp) (aa _ ?_)) rfl (exN n).pure σ
  have p1:=cw nM
  have p2:=cw kY
  have p3:=cw lf
  have p4:=cw lu
  have p5:=cw qO
  have h2:(n:Int) ≤ 2:=by omega
  simp only [nM,kY,lf,lu,qO,HuM.v,HuM.cells,b8,cJ,eS,cY,eo,List.map_cons,List.map_nil] at p1 p2 p3 p4 p5
  simp [KH]
  refine af.pure oE (bt 100 200 _) ?_
  simp
  refine af.pure wV (p1 _) ?_
  simp
  refine af.pure oE (bt 800 900 _) ?_
  simp
  refine af.pure wV (p2 _) ?_
  simp
  refine ⟨_,fun σ'=>aB.func oE (bt 9000 10000 σ'), ?_⟩
  simp
  refine ⟨_,fun σ'=>aB.func wV (p3 σ'), ?_⟩
  simp
  refine ⟨_,fun σ'=>aB.func oE (bt 2000 2500 σ'), ?_⟩
  simp
  refine ⟨_,fun σ'=>aB.func wV (p4 σ'), ?_⟩
  simp
  refine ⟨_,fun σ'=>aB.func oE (bt 3000 3000 σ'), ?_⟩
  simp
  refine ⟨_,fun σ'=>aB.func wV (p5 σ'), ?_⟩
  simp [h2]
  show _ = ab.agg [_, .slice 10 ((exP.chs.take n).map ChM.v)]
  rw [List.map_take]; rfl
theorem wS:exN 2 = exP:=rfl
theorem tX:exN 0 = exQ:=rfl
theorem ni (σ:ag):Spec Tryz.prog Hk [] σ fun r σ'=>r = .ret (bx [exP,exQ]) ∧ σ' = σ:=by
  refine Spec.aC (MA (by simp) (aa _ ?_)) rfl (cA _) σ
  simp [Js]
  refine af.pure kS (dZ 2 (by omega) _) ?_
  simp
  refine af.pure kS (dZ 0 (by omega) _) ?_
  simp [wS,tX,ar.v,ar.cells,bx]
theorem nt (σ:ag):Spec Tryz.prog GN [] σ fun r σ'=>r = .ret (.str j0) ∧ σ' = σ:=by
  refine Spec.aC (Mi (by simp) (aa _ ?_)) rfl rfl σ
  simp [Ka,j0]
theorem fP:gO exP ∧ gO exQ:=by
  refine ⟨⟨⟨by simp [exP,maxLen], ?_,by simp [exP,maxLen], ?_⟩, ?_⟩,⟨⟨by simp [exQ,maxLen], ?_,by simp [exQ,maxLen], ?_⟩, ?_⟩⟩
  · intro x hx; simp [exP] at hx; rcases hx with rfl | rfl | rfl <;> simp [lf,lu,qO,maxLen]
  · intro c hc; simp [exP] at hc; rcases hc with rfl | rfl <;> simp [nM,kY,maxLen]
  · intro c hc; simp [exP] at hc; rcases hc with rfl | rfl <;> simp [nM,kY]
  · intro x hx; simp [exQ] at hx; rcases hx with rfl | rfl | rfl <;> simp [lf,lu,qO,maxLen]
  · intro c hc; simp [exQ] at hc
  · intro c hc; simp [exQ] at hc
theorem vR (ss:List av) (h:ss.length ≤ 10):Ec [exP,exQ] ss:=⟨by simp [maxLen],fun p hp=>by
  simp at hp; rcases hp with rfl | rfl
  · exact fP.1.tolJ
  · exact fP.2.tolJ,by simp only [maxLen]; omega⟩
theorem xy (σ:ag):Spec Tryz.prog C6 [exP.v,ii' 200] σ fun r σ'=>r = .ret (.tup [.agg [.slice 7 (sb.map HuM.v)],ii' 0]) ∧ σ' = σ:=by
  have h:=bZ exP.ship exP.chs fP.1.tolJ 200 σ
  rw [show (⟨exP.ship,exP.chs⟩:ar) = exP from rfl,Er,Eo.1] at h
  exact h
theorem vQ (σ:ag):Spec Tryz.prog Cl [exQ.v,ii' 0,ii' 10,ii' 19] σ fun r σ'=>r = .ret (.tup [.agg [ii' 5695,ii' 6440],ii' 0]) ∧ σ' = σ:=by
  have h:=fq exQ.ship exQ.chs fP.2.tolJ 0 10 19 σ
  rw [show (⟨exQ.ship,exQ.chs⟩:ar) = exQ from rfl,yp.1,yp.2] at h
  exact h
theorem wq (σ:ag):Spec Tryz.prog yX [exP.v,ii' 200, .str eS] σ fun r σ'=>r = .ret (.tup [.slice 1 ([cJ,eo,b8].map .str),ii' 0]) ∧ σ' = σ:=by
  have h:=dp exP.ship exP.chs fP.1.tolJ 200 eS σ
  rw [show (⟨exP.ship,exP.chs⟩:ar) = exP from rfl,pn.1,pn.2.1] at h
  exact h
theorem ur (σ:ag):Spec Tryz.prog yX [exP.v,ii' 200, .str cY] σ fun r σ'=>r = .ret (.tup [.slice 1 [],ii' 4]) ∧ σ' = σ:=by
  have h:=dp exP.ship exP.chs fP.1.tolJ 200 cY σ
  have e:cy exP 200 cY = []:=by unfold cy; rw [pn.2.2]; rfl
  rw [show (⟨exP.ship,exP.chs⟩:ar) = exP from rfl,pn.2.2,e] at h
  exact h
theorem uo (σ:ag):Spec Tryz.prog BG [exP.v,exQ.v,ii' 200] σ fun r σ'=>r = .ret (.tup [.slice 1 ([eo,cJ,b8,cY].map .str),ii' 0]) ∧ σ' = σ:=by
  have h:=cT exP.ship exQ.ship exP.chs exQ.chs fP.1.tolJ fP.2.tolJ 200 σ
  rw [show (⟨exP.ship,exP.chs⟩:ar) = exP from rfl,show (⟨exQ.ship,exQ.chs⟩:ar) = exQ from rfl,uR.1,uR.2] at h
  exact h
theorem wz (σ:ag):Spec Tryz.prog D4 [bx [exP,exQ],ii' 200,br DI] σ fun r σ'=>r = .ret (.tup [.slice 1 [ii' 1],ii' 0]) ∧ σ' = σ:=by
  have h:=iA [exP,exQ] 200 DI (vR _ (by simp [DI])) σ
  rw [Dl,uT.1] at h
  exact h
theorem xb (σ:ag):Spec Tryz.prog Fc [bx [exP,exQ],ii' 200, .slice 3 []] σ fun r σ'=>r = .ret (.tup [.slice 1 ([eo,eS].map .str), .slice 1 ([eo,cJ,eS,b8,cY].map .str),ii' 0]) ∧ σ' = σ:=by
  have h:=lI [exP,exQ] 200 [] (vR _ (by simp)) σ
  rw [wR.1,wR.2] at h
  exact h
theorem zj (σ:ag):Spec Tryz.prog Dv [bx [exP,exQ],ii' 200, .slice 3 []] σ fun r σ'=>r = .ret (.tup [.str cJ,ii' 10,ii' 1,ii' 0]) ∧ σ' = σ:=by
  have h:=jR [exP,exQ] 200 [] (vR _ (by simp)) σ
  rw [CU.1,CU.2] at h
  exact h
theorem wv (σ:ag):Spec Tryz.prog Ex [exP.v] σ fun r σ'=>r = .ret (.tup [.str j0,ii' 0]) ∧ σ' = σ:=by
  have h:=iB exP.ship exP.chs fP.1.tolJ σ
  have e:ee exP = j0:=by unfold ee; rw [if_pos wN.1,AT,cU]
  rw [show (⟨exP.ship,exP.chs⟩:ar) = exP from rfl,e,wN.1] at h
  exact h
theorem xN (σ:ag):Spec Tryz.prog E9 [.str j0] σ fun r σ'=>r = .ret (.tup [exP.v,ii' 0]) ∧ σ' = σ:=by
  have h:=fS j0 σ
  have hok:OkP exP:=(cF _).1 (by rw [← bA]; exact wN.1)
  have hsz:¬ 6000 < j0.size:=by decide
  have e:gH j0 = .tup [exP.v,ii' 0]:=by
    unfold gH
    rw [if_neg hsz,(mL _ _).2 ⟨hok,AT⟩]
  rw [e] at h
  exact h
set_option maxRecDepth 100000
set_option maxHeartbeats 1000000
def vm:List cj → Bool
  | []=>true
  | .no :: r=>vm r
  | _=>false
theorem rY (bef:List (List Nat)) (j:Nat):∀ (l:List cj) (i:Nat),jP bef j .no l i = true
  | [],_=>rfl
  | f :: r,i=>by
    have e:cj.nr .no f = false:=by cases f <;> rfl
    simp only [jP,e,rY bef j r (i + 1)]; rfl
theorem ql:∀ {l:List cj},vm l = true → ∀ e ∈ l,e = .no
  | [],_,e,h=>by cases h
  | .no :: r,h,e,he=>by
    rcases List.mem_cons.1 he with rfl | he
    · rfl
    · exact ql (l:=r) h e he
  | .rd _ :: _,h,_,_=>by cases h
  | .al _ :: _,h,_,_=>by cases h
  | .wr _ _ :: _,h,_,_=>by cases h
theorem tw (bef:List (List Nat)):∀ (l p:List cj) (i:Nat),(∀ e ∈ l,e = .no) → dY bef p l i = true:=by
  intro l
  induction l with
  | nil=>intro p i _; rfl
  | cons a r ih=>
    intro p i h
    have ha:=h a (by simp)
    subst ha
    simp only [dY,rY,ih _ _ (fun e he=>h e (by simp [he]))]; rfl
def Ae (t:Nat) (σ:ag) (e:Env) (σ':ag) (es:List cj):Prop:=e.get t = .bool true ∧ σ' = σ ∧ vm es = true
theorem Bu {sz bytes:Nat} {σ:ag} {x y:ab} {K K':ab → cj → Prop} (h:∀ v f,K' v f → K v f) (hd:uH sz bytes σ x y K'):uH sz bytes σ x y K:=by
  obtain ⟨_,_,_,_,_,_,_,_,_,hk,_,hr⟩:=ln hd
  exact hr K (h _ _ hk)
theorem Az {P:Program} {K K':Env → ag → List cj → Prop} (h:∀ e σ es,K' e σ es → K e σ es):∀ {ops:List ay} {e:Env} {σ:ag} {es:List cj},bc P ops e σ es K' → bc P ops e σ es K:=by
  intro ops
  induction ops with
  | nil=>intro e σ es hd; exact h _ _ _ hd
  | cons o r ih=>
    intro e σ es hd
    obtain ⟨d,g,i⟩:=o
    cases hc:eg g e with
    | none=>simp only [bc,hc] at hd
    | some c=>
      cases i
      all_goals simp only [bc,hc] at hd ⊢
      all_goals first
        | exact ⟨hd.1,hd.2.1,ih hd.2.2⟩
        | exact ⟨hd.1,hd.2.1,hd.2.2.1,ih hd.2.2.2⟩
        | exact ⟨hd.1,ih hd.2⟩
        | exact ⟨hd.1,hd.2.1,hd.2.2.1,hd.2.2.2.1,ih hd.2.2.2.2⟩
        | (obtain ⟨v,h1,h2⟩:=hd; exact ⟨v,h1,ih h2⟩)
        | (obtain ⟨h1,h2,v,h3,h4⟩:=hd; exact ⟨h1,h2,v,h3,ih h4⟩)
        | (obtain ⟨h1,h2,h3⟩:=hd; exact ⟨h1,h2,Bu (fun v f hv=>ih hv) h3⟩)
        | (obtain ⟨h1,h2,h3,h4⟩:=hd
           refine ⟨h1,h2,h3, ?_⟩
           split at h4
           · exact ih h4
           · exact h4)
        | (split at hd
           · rename_i h0; rw [if_pos h0]; exact ⟨hd.1,ih hd.2⟩
           · rename_i h0
             rw [if_neg h0]
             split at hd
             · rename_i h1; rw [if_pos h1]; exact ⟨hd.1,hd.2.1,hd.2.2.1,ih hd.2.2.2⟩
             · rename_i h1; rw [if_neg h1]; exact ⟨hd.1,hd.2.1,hd.2.2.1,hd.2.2.2.1,ih hd.2.2.2.2⟩)
        | skip
theorem tD {P:Program} {ops:List ay} {e:Env} {σ:ag} {K:Env → ag → List cj → Prop} (t:Nat) (h:bc P ops e σ [] (Ae t σ)) (hk:∀ e es,e.get t = .bool true → vm es = true → K e σ es):bc P ops e σ [] K:=
  Az (fun e σ' es h=>by obtain ⟨h1,rfl,h3⟩:=h; exact hk e es h1 h3) h
theorem b5 (l:List ByteArray) (hl:l.length ≤ maxLen) (σ:ag):Spec Tryz.prog E7 [.slice 1 (l.map .str), .slice 1 (l.map .str)] σ fun r σ'=>r = .ret (.bool true) ∧ σ' = σ:=by
  have:=gh l l hl σ
  rw [decide_eq_true rfl] at this
  exact this
theorem bj (σ:ag):Spec Tryz.prog H0 [] σ fun r σ'=>r = .ret (.bool true) ∧ σ' = σ:=by
  refine Spec.aC (MZ (by simp) (aa _ ?_)) rfl rfl σ
  have hP:=dZ 2 (by omega)
  have hQ:=dZ 0 (by omega)
  rw [wS] at hP
  rw [tX] at hQ
  have hsh:=xy
  have hwe:=vQ
  have hab:=wq
  have ha4:=ur
  have hdi:=uo
  have hbo:=ni
  have hag:=wz
  have hsu:=xb
  have hak:=zj
  have hwr:=wv
  have hre:=xN
  simp only [ar.v,ar.cells,bx,br] at hP hQ hsh hwe hab ha4 hdi hbo hag hsu hak hwr hre
  simp [It]
  refine af.pure kS (hP _) ?_
  simp
  refine af.pure ll (hsh _) ?_
  simp
  refine af.pure kS (hQ _) ?_
  simp
  refine af.pure yl (hwe _) ?_
  simp
  refine af.pure kS (hP _) ?_
  simp
  refine af.pure zi (hab _) ?_
  simp
  refine af.pure kS (hP _) ?_
  simp
  refine af.pure kS (hQ _) ?_
  simp
  refine af.pure uy (hdi _) ?_
  simp
  refine af.pure EF (hbo _) ?_
  simp
  refine af.pure Fh (hag _) ?_
  simp
  refine af.pure EF (hbo _) ?_
  simp
  refine af.pure HN (hsu _) ?_
  simp
  refine af.pure EF (hbo _) ?_
  simp
  refine af.pure Fi (hak _) ?_
  simp
  refine af.pure kS (hP _) ?_
  simp
  refine af.pure zc (hwr _) ?_
  simp
  refine af.pure KM (nt _) ?_
  simp
  refine af.pure Ab (hre _) ?_
  simp
  refine af.pure kS (hP _) ?_
  simp
  refine af.pure zi (ha4 _) ?_
  simp
  have p1:=cw lf
  have p2:=cw kY
  have p3:=cw ⟨eo,1,5,24,[cJ,eS],3000,3000⟩
  have p4:=cw ⟨b8,5,12,30,[cJ],100,200⟩
  simp only [lf,kY,HuM.v,HuM.cells,b8,cJ,eS,eo,List.map_cons,List.map_nil] at p1 p2 p3 p4
  refine af.pure oE (bt 9000 10000 _) ?_
  simp
  refine af.pure wV (p1 _) ?_
  simp
  refine af.pure oE (bt 800 900 _) ?_
  simp
  refine af.pure wV (p2 _) ?_
  simp
  refine af.pure oE (bt 3000 3000 _) ?_
  simp
  refine af.pure wV (p3 _) ?_
  simp
  refine af.pure oE (bt 100 200 _) ?_
  simp
  refine af.pure wV (p4 _) ?_
  simp [-bc]
  have hn1:=fun σ=>bY cY σ
  have hn2:=fun σ=>bY ⟨#[49,116,97,110,107]⟩ σ
  rw [show cg cY = true by kernel_rfl] at hn1
  rw [show cg ⟨#[49,116,97,110,107]⟩ = false by kernel_rfl] at hn2
  refine tD 0 ?_ ?_
  · have hm:∀ {l:List ByteArray},l.length ≤ 10 → l.length ≤ maxLen:=fun h=>by simp only [maxLen]; omega
    have hq:cJ.toList = [104,111,108,100,49]:=by rw [toList_data]; rfl
    have hpw:=ah (f:=HuM.v) (fun p=>p.pure) sb
    have hp1:=ah (f:=HuM.v) (fun p=>p.pure) exP.ship
    have hp2:=ah (f:=ChM.v) (fun p=>p.pure) exP.chs
    have hwm:∀ x ∈ sb,x.on.length ≤ maxLen:=by
      intro x hx; simp [sb] at hx; rcases hx with rfl | rfl | rfl | rfl <;> simp [lf,kY,maxLen]
    repeat (rw [bc]; simp [-bc])
    refine ⟨.bool true,fun σ'=>aB.func re (hn1 σ'), ?_⟩
    repeat (rw [bc]; simp [-bc])
    refine ⟨.bool false,fun σ'=>aB.func re (hn2 σ'), ?_⟩
    repeat (rw [bc]; simp [-bc])
    refine ⟨.bool true,fun σ' _=>aB.func sU (eG sb (by simp [sb,maxLen]) hwm σ'), ?_⟩
    repeat (rw [bc]; simp [-bc])
    refine ⟨.agg [ii' 5695,ii' 6440],fun σ'=>aB.func oE (bt 5695 6440 σ'), ?_⟩
    repeat (rw [bc]; simp [-bc])
    refine ⟨.bool true,fun σ'=>aB.func pD (b5 [cJ,eo,b8] (hm (by simp)) σ'), ?_⟩
    repeat (rw [bc]; simp [-bc])
    refine ⟨.bool true,fun σ'=>aB.func pD (b5 [eo,cJ,b8,cY] (hm (by simp)) σ'), ?_⟩
    repeat (rw [bc]; simp [-bc])
    refine ⟨.bool true,fun σ'=>aB.func EK (j5 [1] (by simp [maxLen]) σ'), ?_⟩
    repeat (rw [bc]; simp [-bc])
    refine ⟨.bool true,fun σ'=>aB.func pD (b5 [eo,eS] (hm (by simp)) σ'), ?_⟩
    repeat (rw [bc]; simp [-bc])
    refine ⟨.bool true,fun σ'=>aB.func pD (b5 [eo,cJ,eS,b8,cY] (hm (by simp)) σ'), ?_⟩
    repeat (rw [bc]; simp [-bc,hq])
    refine ⟨.str j0,fun σ'=>aB.func KM (nt σ'), ?_⟩
    repeat (rw [bc]; simp [-bc])
    refine ⟨.agg [.slice 7 (exP.ship.map HuM.v), .slice 10 (exP.chs.map ChM.v)],fun σ'=>aB.func kS (hP σ'), ?_⟩
    repeat (rw [bc]; simp [-bc])
    refine ⟨.bool true,fun σ' _=>aB.func GM (nz exP.ship exP.chs (by simp [exP,maxLen]) fP.1.on (by simp [exP,maxLen]) fP.1.con σ'), ?_⟩
    repeat (rw [bc]; simp [-bc])
    simp [Ae,vm,hpw,hp1,hp2]
  · intro e es h1 h2
    have hcl:∀ bef,dY bef [] es.reverse 0 = true:=fun bef=>tw bef _ [] 0 (by intro x hx; exact ql h2 x (List.mem_reverse.1 hx))
    simp [hcl,h1]
set_option maxRecDepth 100000
set_option maxHeartbeats 1000000
theorem iX (p:ar) (day:Int):OkS (a7 p day):=by
  unfold a7
  split
  · rename_i h
    have hok:=eM h
    rw [dF day _ _ _ hok.ship hok.steps]
    exact cM hok.ship hok.steps day
  · exact AY
theorem Aw (p:ar) (day:Int):(a7 p day).length ≤ maxLen:=Nat.le_trans (iX p day).len (show (12:Nat) ≤ maxLen by unfold maxLen; omega)
theorem BT (p:ar) (day:Int):∀ x ∈ a7 p day,x.on.length ≤ maxLen:=fun x hx=>Nat.le_trans (fC (iX p day) x hx) (show (12:Nat) ≤ maxLen by unfold maxLen; omega)
theorem zW (p:ar) (day:Int) (name:ByteArray):(cy p day name).length ≤ maxLen:=by
  have h12:(12:Nat) ≤ maxLen:=by unfold maxLen; omega
  unfold cy
  split
  · rename_i h
    have h0:bJ p day = 0:=by
      unfold cz at h
      split at h
      · rename_i h1; exact absurd h h1
      · rename_i h1; exact Decidable.not_not.1 h1
    have hs:=iX p day
    unfold a7 at hs
    rw [if_pos h0] at hs
    rw [List.length_map]
    exact Nat.le_trans (List.length_filter_le _ _) (Nat.le_trans hs.len h12)
  · simp
theorem sG (s:ByteArray) (ps:List HuM) (cs:List ChM) (hf:gO ⟨ps,cs⟩) (day a b:Int) (name:ByteArray) :
    Spec Tryz.prog F_3 [.str s, .agg [.slice 7 (ps.map HuM.v), .slice 10 (cs.map ChM.v)], .agg [ii' day,ii' a,ii' b, .str name]] [] fun r _=>r = .ret (.bool true):=by
  refine S_3 (by simp) (aa _ ?_)
  have q1:=et ps cs hf.tolJ
  have q2:=fg ps cs hf
  rw [bA] at q1
  have q3:=bZ ps cs hf.tolJ day
  have q4:=uG ps cs hf day
  have q5:=fq ps cs hf.tolJ day a b
  have q6:=tv ps cs hf day a b
  have q7:=dp ps cs hf.tolJ day name
  have q8:=sA ps cs hf day name
  have q9:=eG (a7 ⟨ps,cs⟩ day) (Aw _ _) (BT _ day)
  have q10:=gh (cy ⟨ps,cs⟩ day name) (cy ⟨ps,cs⟩ day name) (zW _ _ _)
  generalize bL ⟨ps,cs⟩ = A at q1 q2
  obtain ⟨a1,a2,a3⟩:=A
  simp only [dc] at q1 q2
  generalize a7 ⟨ps,cs⟩ day = B at q3 q4 q9
  generalize bJ ⟨ps,cs⟩ day = B' at q3 q4
  generalize cy ⟨ps,cs⟩ day name = D at q7 q8 q10
  generalize cz ⟨ps,cs⟩ day name = D' at q7 q8
  obtain ⟨w1,w2,hw⟩:∃ w1 w2,b9 ⟨ps,cs⟩ day a b = .agg [ii' w1,ii' w2]:=by unfold b9; split <;> exact ⟨_,_,rfl⟩
  rw [hw] at q5 q6
  generalize cB ⟨ps,cs⟩ day a b = C' at q5 q6
  simp [C_3]
  refine af.pure ue (q1 _) ?_
  simp
  refine af.pure uA (q2 _) ?_
  simp
  refine af.pure re (bY s _) ?_
  simp
  refine af.pure zC (hO s _) ?_
  simp
  refine af.pure ll (q3 _) ?_
  simp
  refine af.pure Ml (q4 _) ?_
  simp
  refine af.pure sU (q9 _) ?_
  simp
  refine af.pure yl (q5 _) ?_
  simp
  refine af.pure Nl (q6 _) ?_
  simp
  refine af.pure zi (q7 _) ?_
  simp
  refine af.pure MM (q8 _) ?_
  simp
  refine af.pure pD (q10 _) ?_
  simp
  refine af.pure jB (bj _) ?_
  simp
end Go.AM
