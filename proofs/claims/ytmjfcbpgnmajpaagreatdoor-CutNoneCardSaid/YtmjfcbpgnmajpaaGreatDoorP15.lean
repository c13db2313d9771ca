/- The error of a part of a ship: of the program. The truth of a hull: of the program. Levers and presses: of the program; the error of a height of water: of the document. The sums in a truth, and .. -/
import Derived.Test.YtmjfcbpgnmajpaaGreatDoorP14
namespace Go.AM
open Go.Proofs
set_option maxRecDepth 100000
set_option maxHeartbeats 1000000
def tN (on:List ByteArray):List ByteArray → Nat → Bool
  | [],_=>false
  | n :: r,i=>(on.take i).any (fun y=>n.toList == y.toList) || tN on r (i + 1)
theorem iM (on:List ByteArray) (hn:on.length ≤ maxLen) (σ:af) :
    Spec Tryz.prog Cp [.slice 1 (on.map .str)] σ fun r σ'=>r = .ret (.bool (tN on on 0)) ∧ σ' = σ:=by
  refine Spec.ay (L1 (by simp) (dm _ ?_)) (by simp [av (f:=ab.str) (fun _=>rfl)]) rfl σ
  simp [FK]
  refine AW.loop (ι:=Nat) (fun i fr σ=>fr = { v:=[(0, .slice 1 (on.map .str)),(5, .slice 1 (on.map .str)),(6, .int .i64 on.length),(7, .int .i64 i)],ds:=[] } ∧ σ = [] ∧ i ≤ on.length ∧ tN on on 0 = tN on (on.drop i) i) (fun i=>on.length - i) 0 (by simp) ?_
  rintro i fr σ ⟨rfl,rfl,hi,hpi⟩
  refine dm _ ?_
  simp
  refine ⟨fun hlt=>?_,fun hge=>?_⟩
  · have hd:on.drop i = on[i] :: on.drop (i + 1):=List.drop_eq_getElem_cons hlt
    rw [hd] at hpi
    simp only [tN] at hpi
    obtain ⟨n,hn'⟩:∃ n,on[i] = n:=⟨_,rfl⟩
    rw [hn'] at hpi
    simp [hlt,hn']
    have hq:=ez (on.take i) n (by simp; omega) []
    rw [List.map_take] at hq
    refine ⟨by omega,aj.pure DE hq ?_⟩
    simp [hlt,hn']
    refine ⟨fun y hy he=>?_,fun h=>⟨i + 1,by omega,an (by omega) (by simp only [maxLen] at hn; omega),by omega, ?_⟩⟩
    · have:((on.take i).any fun y=>n.toList == y.toList) = true:=List.any_eq_true.2 ⟨y,hy,by simp [he]⟩
      rw [hpi,this]; rfl
    · have:((on.take i).any fun y=>n.toList == y.toList) = false:=by rw [List.any_eq_false]; intro y hy; simp [h y hy]
      rw [hpi,this]; rfl
  have hz:on.drop i = []:=List.drop_eq_nil_of_le hge
  rw [hz] at hpi
  rw [hpi]; rfl
theorem dZ (ps:List HuM) (x:ByteArray) (hl:ps.length ≤ maxLen) (b:Nat) (σ:af) (hb:σ[b]? = some (.box [.slice 7 (ps.map HuM.v)])) :
    Spec Tryz.prog CU [.ptr b 0, .str x] σ fun r σ'=>r = .ret (.int .i64 (findF ps x)) ∧ σ' = σ:=by
  refine Nt (by simp) (dm _ ?_)
  simp [GB,hb]
  refine aj.pure GK (er _ _ rfl (fun y=>y.name.toList == x.toList) ps hl (fun y _=>ck.fn K5 (fun σ=>kD y x σ)) _) ?_
  simp [findF]
theorem kb (ps:List HuM) (n:ByteArray) (hl:ps.length ≤ maxLen) (b:Nat) (σ:af) (hb:σ[b]? = some (.box [.slice 7 (ps.map HuM.v)])) :
    Spec Tryz.prog AT [.str n, .ptr b 0] σ fun r σ'=>r = .ret (.bool (decide (findF ps n < 0))) ∧ σ' = σ:=by
  refine Nu (by simp) (dm _ ?_)
  simp [G4]
  refine aj.pure wA (dZ ps n hl b _ hb) ?_
  simp
theorem j9 (ps:List HuM) (x:HuM) (n:ByteArray) (hl:ps.length ≤ maxLen) (b:Nat) (σ:af) (hb:σ[b]? = some (.box [.slice 7 (ps.map HuM.v)])) (h0:0 ≤ findF ps n) :
    Spec Tryz.prog AL [.str n, .pval x.v, .ptr b 0] σ fun r σ'=>r = .ret (.bool (!yr x (atF ps n))) ∧ σ' = σ:=by
  refine Pf (by simp) (dm _ ?_)
  simp [GP,hb,HuM.v,HuM.cells]
  obtain ⟨j,hj1,hj2⟩:=oI h0
  have hat:atF ps n = ps[j]:=by simp [atF,hj1,hj2]
  obtain ⟨y,hy⟩:∃ y,ps[j] = y:=⟨_,rfl⟩
  refine aj.pure wA (dZ ps n hl b _ hb) ?_
  simp [hj1,hj2,hy,hb,HuM.v,HuM.cells]
  refine aj.pure MD (sn x y _) ?_
  simp [hj1,hj2,hy,hb,HuM.v,HuM.cells]
  rw [hat,hy]
theorem iB (g:FuncId) (caps:List ab) (p:ByteArray → Bool) (l:List ByteArray) (hl:l.length ≤ maxLen) (σ:af) (hf:∀ x ∈ l,aC Tryz.prog (.func (.func g) [] caps) [.str x] σ fun r σ'=>r = .ret (.bool (p x)) ∧ σ' = σ) :
    Spec Tryz.prog CM [.slice 1 (l.map ab.str), .func (.func g) [] caps] σ fun r σ'=>r = .ret (.int .i64 (bK p l 0)) ∧ σ' = σ:=by
  refine JQ (by simp) (dm _ ?_)
  simp [F5]
  refine AW.loop (ι:=Nat) (fun i fr σ'=>fr = { v:=[(0, .slice 1 (l.map ab.str)),(1, .func (.func g) [] caps),(7, .int .i64 l.length),(8, .int .i64 i)],ds:=[] } ∧ σ' = σ ∧ i ≤ l.length ∧ bK p l 0 = bK p (l.drop i) i) (fun i=>l.length - i) 0 (by simp) ?_
  rintro i fr σ' ⟨rfl,rfl,hi,hpi⟩
  refine dm _ ?_
  simp
  refine ⟨fun hlt=>?_,fun hge=>?_⟩
  · have hd:l.drop i = l[i] :: l.drop (i + 1):=List.drop_eq_getElem_cons hlt
    rw [hd] at hpi
    simp [bK] at hpi
    simp [hlt]
    refine aj.of (hf l[i] (List.getElem_mem _)) ?_
    simp
    refine ⟨fun he=>by rw [hpi,if_pos he],fun he=>⟨i + 1,by omega,an (by omega) (by simp only [maxLen] at hl; omega),by omega,by rw [hpi,if_neg (by simp [he])]⟩⟩
  · have:l.drop i = []:=List.drop_eq_nil_of_le hge
    rw [hpi,this]; rfl
theorem cX (g:FuncId) (caps:List ab) (p:ByteArray → Bool) (l:List ByteArray) (hl:l.length ≤ maxLen) (σ:af) (hf:∀ x ∈ l,aC Tryz.prog (.func (.func g) [] caps) [.str x] σ fun r σ'=>r = .ret (.bool (p x)) ∧ σ' = σ) :
    Spec Tryz.prog De [.slice 1 (l.map ab.str), .func (.func g) [] caps] σ fun r σ'=>r = .ret (.bool (l.any p)) ∧ σ' = σ:=by
  refine MJ (by simp) (dm _ ?_)
  simp [Gr]
  refine aj.pure Pm (iB g caps p l hl σ hf) ?_
  simp [il]
def dX (ps:List HuM) (x:HuM) (k:Nat):Int:=
  if dw x.name = false then 6
  else if 0 ≤ findF ps x.name ∧ findF ps x.name < k then 5
  else if aW 1 5 [x.kind] || aW 0 40 [x.first,x.last] || aW 1 1000000 [x.lo,x.hi] then 7
  else if x.last < x.first ∨ x.hi < x.lo then 2
  else if x.on.any (fun n=>decide (findF (ps.take k) n < 0)) then 4
  else if tN x.on x.on 0 then 5
  else if x.on.any (fun n=>!yr x (atF (ps.take k) n)) then 9 else 0
theorem lr (ps:List HuM) (x:HuM) (k:Nat) (hl:ps.length ≤ maxLen) (hk:k ≤ ps.length) (hn:x.on.length ≤ maxLen) (b:Nat) (σ:af) (hb:σ[b]? = some (.box [.slice 7 (ps.map HuM.v)])) :
    Spec Tryz.prog Cd [.ptr b 0,x.v, .int .i64 k, .slice 7 []] σ fun r σ'=>r = .ret (ii' (dX ps x k)) ∧ ∃ tl,σ' = σ ++ tl:=by
  refine Pb (by simp) (dm _ ?_)
  simp [Hg,HuM.v,HuM.cells]
  refine (tf (dw x.name)).elim (fun h1=>?_) (fun h1=>?_)
  · refine aj.aD Bd (cP x.name _) (congrArg ab.bool h1) ?_
    simp [dX,h1]
  refine aj.aD Bd (cP x.name _) (congrArg ab.bool h1) ?_
  simp
  have hfd:=dZ ps x.name hl b σ hb
  have hcf:=hZ NT [.pval x.v] (by simp [ab.pure,aM,x.pure]) (fun y=>y.name.toList == x.name.toList) [] (by simp) (by simp) σ
  refine (Classical.em (0 ≤ findF ps x.name)).elim (fun h2=>?yes) (fun h2=>?no)
  case' no=>(refine aj.pure wA hfd ?_; simp [h2]; have h23:¬ (0 ≤ findF ps x.name ∧ findF ps x.name < k):=fun h=>h2 h.1; refine aj.pure Fu hcf ?_; simp [h2])
  case' yes=>(refine aj.pure wA hfd ?_; simp [h2]; refine aj.pure wA hfd ?_; refine (Classical.em (findF ps x.name < k)).elim (fun h3=>?small) (fun h3=>?large))
  case' small=>(simp [h2,h3]; simp [dX,h1,h2,h3])
  case' large=>(simp [h2,h3]; have h23:¬ (0 ≤ findF ps x.name ∧ findF ps x.name < k):=fun h=>h3 h.2; refine aj.pure Fu hcf ?_; simp [h2,h3])
  all_goals
    refine (tf (aW 1 5 [x.kind])).elim (fun h4=>?_) (fun h4=>?_)
    rotate_left
    · refine aj.aD uy (b8 1 5 [x.kind] (by simp [maxLen]) _) (congrArg ab.bool h4) ?_
      simp
      simp [dX,h1,h4]; omega
    refine aj.aD uy (b8 1 5 [x.kind] (by simp [maxLen]) _) (congrArg ab.bool h4) ?_
    simp
    refine (tf (aW 0 40 [x.first,x.last])).elim (fun h5=>?_) (fun h5=>?_)
    rotate_left
    · refine aj.aD uy (b8 0 40 [x.first,x.last] (by simp [maxLen]) _) (congrArg ab.bool h5) ?_
      simp
      simp [dX,h1,h4,h5]; omega
    refine aj.aD uy (b8 0 40 [x.first,x.last] (by simp [maxLen]) _) (congrArg ab.bool h5) ?_
    simp
    refine (tf (aW 1 1000000 [x.lo,x.hi])).elim (fun h6=>?_) (fun h6=>?_)
    rotate_left
    · refine aj.aD uy (b8 1 1000000 [x.lo,x.hi] (by simp [maxLen]) _) (congrArg ab.bool h6) ?_
      simp
      simp [dX,h1,h4,h5,h6]; omega
    refine aj.aD uy (b8 1 1000000 [x.lo,x.hi] (by simp [maxLen]) _) (congrArg ab.bool h6) ?_
    simp [hb]
    refine ⟨fun h7=>?_,fun h7 h8=>?_⟩
    · simp only [dX,h1,h4,h5,h6]
      rw [if_neg (by simp),if_neg h23,if_neg (by simp),if_pos h7]
    have hc:dX ps x k = if x.on.any (fun n=>decide (findF (ps.take k) n < 0)) then 4 else if tN x.on x.on 0 then 5 else if x.on.any (fun n=>!yr x (atF (ps.take k) n)) then 9 else 0:=by
      simp only [dX,h1,h4,h5,h6]
      rw [if_neg (by simp),if_neg h23,if_neg (by simp),if_neg (by omega)]
    have hb1:(σ ++ [bo.box [ab.slice 7 (List.take k (List.map HuM.v ps))]])[σ.length]? = some (.box [.slice 7 ((ps.take k).map HuM.v)]):=by simp [List.map_take]
    have hlk:(ps.take k).length ≤ maxLen:=by simp; omega
    have hq1:=cX AT [.ptr σ.length 0] (fun n=>decide (findF (ps.take k) n < 0)) x.on hn _ (fun n _=>aC.func O0 (kb (ps.take k) n hlk σ.length _ hb1))
    refine ⟨hk,(tf (x.on.any (fun n=>decide (findF (ps.take k) n < 0)))).elim (fun h9=>?_) (fun h9=>?_)⟩
    rotate_left
    · refine aj.aD zY hq1 (congrArg ab.bool h9) ?_
      simp
      rw [hc,if_pos h9]
    refine aj.aD zY hq1 (congrArg ab.bool h9) ?_
    simp
    rw [h9] at hc
    have hpos:∀ n ∈ x.on,0 ≤ findF (ps.take k) n:=by
      intro n hm
      have:=List.any_eq_false.1 h9 n hm
      simp at this
      omega
    have hq2:=cX AL [.pval x.v, .ptr σ.length 0] (fun n=>!yr x (atF (ps.take k) n)) x.on hn _ (fun n hm=>aC.func J7 (j9 (ps.take k) x n hlk σ.length _ hb1 (hpos n hm)))
    refine (tf (tN x.on x.on 0)).elim (fun ha=>?_) (fun ha=>?_)
    rotate_left
    · refine aj.aD GX (iM x.on hn _) (congrArg ab.bool ha) ?_
      simp
      rw [hc,if_neg (by simp),if_pos ha]
    refine aj.aD GX (iM x.on hn _) (congrArg ab.bool ha) ?_
    simp
    refine (tf (x.on.any (fun n=>!yr x (atF (ps.take k) n)))).elim (fun hd=>?_) (fun hd=>?_)
    rotate_left
    · refine aj.aD zY hq2 (congrArg ab.bool hd) ?_
      simp
      rw [hc,if_neg (by simp),if_neg (by simp [ha]),if_pos hd]
    refine aj.aD zY hq2 (congrArg ab.bool hd) ?_
    simp
    rw [hc,if_neg (by simp),if_neg (by simp [ha]),if_neg (by simp [hd])]
set_option maxRecDepth 100000
structure bh where
  ws:List Int
  ls:List Int
def bh.v (t:bh):ab:=.agg [.slice 1 (t.ws.map ii'), .slice 1 (t.ls.map ii')]
theorem bh.pure (t:bh):t.v.pure = true:=by simp [bh.v,ab.pure,aM,av (f:=ii') (fun _=>rfl)]
set_option maxRecDepth 100000
set_option maxHeartbeats 1000000
abbrev wr (n:Int):Int:=IntKind.i64.wrap n
theorem l5 (p:aq) (σ:af):Spec Tryz.prog B2 [p.v] σ fun r σ'=>r = .ret (ii' 1) ∧ σ' = σ:=by
  refine Spec.ay (Kb (by simp) (dm _ ?_)) rfl rfl σ
  simp [Gh,aq.v,aq.cells]
theorem ma (p:aq) (h:aB) (σ:af):Spec Tryz.prog CS [p.v, .pval h.v] σ fun r σ'=>r = .ret (ii' (wr (p.at_ - h.aft))) ∧ σ' = σ:=by
  refine Spec.ay (MF (by simp) (dm _ ?_)) (by simp [h.pure]; rfl) rfl σ
  simp [FT,aq.v,aq.cells,aB.v,aB.cells]
theorem mb (p:aq) (h:aB) (σ:af):Spec Tryz.prog DN [p.v, .pval h.v] σ fun r σ'=>r = .ret (ii' (wr (h.fore - p.at_))) ∧ σ' = σ:=by
  refine Spec.ay (Pl (by simp) (dm _ ?_)) (by simp [h.pure]; rfl) rfl σ
  simp [Gl,aq.v,aq.cells,aB.v,aB.cells]
def pJ (p:aq) (o:Int):ab:=.agg (p.cells ++ [ii' o])
def kK (p:aq) (o:Int):Int:=wr (p.wLo - wr (p.lHi * o))
def mP (p:aq) (o:Int):Int:=wr (p.wHi - wr (p.lLo * o))
theorem kG (p:aq) (o:Int) (σ:af):Spec Tryz.prog DT [pJ p o] σ fun r σ'=>r = .ret (ii' (kK p o)) ∧ σ' = σ:=by
  refine Spec.ay (Ka (by simp) (dm _ ?_)) rfl rfl σ
  simp [He,pJ,aq.cells,kK]
theorem kC (p:aq) (o:Int) (σ:af):Spec Tryz.prog DC [pJ p o] σ fun r σ'=>r = .ret (ii' (mP p o)) ∧ σ' = σ:=by
  refine Spec.ay (JG (by simp) (dm _ ?_)) rfl rfl σ
  simp [Hc,pJ,aq.cells,mP]
def qq (a b c:Int):ab:=.agg [ii' a,ii' b,ii' c]
def rq (h:aB):ab:=.agg [.func (.func 216) [] [], .func (.func 219) [] [], .func (.func 220) [] [], .func (.func 217) [] [.pval h.v], .func (.func 219) [] [], .func (.func 220) [] [], .func (.func 218) [] [.pval h.v], .func (.func 219) [] [], .func (.func 220) [] []]
theorem ow (h:aB) (σ:af):Spec Tryz.prog Df [h.v] σ fun r σ'=>r = .ret (rq h) ∧ σ' = σ:=by
  refine Spec.ay (Km (by simp) (dm _ ?_)) (by simp [h.pure]) (by simp [rq,ab.pure,aM,h.pure]) σ
  simp [Fz,aB.v,aB.cells]
  have w1:IntKind.i64.wrap 1 = 1:=by decide
  have w2:IntKind.i64.wrap 2 = 2:=by decide
  have w3:IntKind.i64.wrap 3 = 3:=by decide
  refine AW.loop (ι:=Nat) (fun i fr σ=>∃ cs,fr = { v:=[(2, .ptr 0 0),(4, .ptr 2 0),(10, .agg [.func (.func 216) [] [], .func (.func 217) [] [.pval h.v], .func (.func 218) [] [.pval h.v]]),(11, .int .i64 i)],ds:=[] } ∧ σ = [.box [.nilfunc, .nilfunc, .nilfunc, .nilfunc, .nilfunc, .nilfunc, .nilfunc, .nilfunc, .nilfunc], .dead, .box cs] ∧
      ((i = 0 ∧ cs = [.nilfunc, .nilfunc, .nilfunc, .nilfunc, .nilfunc, .nilfunc, .nilfunc, .nilfunc, .nilfunc]) ∨
      (i = 1 ∧ cs = [.func (.func 216) [] [], .func (.func 219) [] [], .func (.func 220) [] [], .nilfunc, .nilfunc, .nilfunc, .nilfunc, .nilfunc, .nilfunc]) ∨
      (i = 2 ∧ cs = [.func (.func 216) [] [], .func (.func 219) [] [], .func (.func 220) [] [], .func (.func 217) [] [.pval h.v], .func (.func 219) [] [], .func (.func 220) [] [], .nilfunc, .nilfunc, .nilfunc]) ∨
      (i = 3 ∧ cs = [.func (.func 216) [] [], .func (.func 219) [] [], .func (.func 220) [] [], .func (.func 217) [] [.pval h.v], .func (.func 219) [] [], .func (.func 220) [] [], .func (.func 218) [] [.pval h.v], .func (.func 219) [] [], .func (.func 220) [] []]))) (fun i=>3 - i) 0 ⟨_,by simp [aB.v,aB.cells],rfl, .inl ⟨rfl,rfl⟩⟩ ?_
  rintro i fr σ ⟨cs,rfl,rfl,hcs⟩
  refine dm _ ?_
  refine hcs.elim (fun hh=>?_) (fun hcs=>hcs.elim (fun hh=>?_) (fun hcs=>hcs.elim (fun hh=>?_) (fun hh=>?_)))
  · obtain ⟨rfl,rfl⟩:=hh
    simp [w1]
  · obtain ⟨rfl,rfl⟩:=hh
    simp [w2]
  · obtain ⟨rfl,rfl⟩:=hh
    simp [w3]
  · obtain ⟨rfl,rfl⟩:=hh
    simp [rq]
set_option maxRecDepth 100000
set_option maxHeartbeats 1000000
def nK (water keel:Int):Int:=if 0 < wr (water - keel) then wr (water - keel) else 0
def l6 (h:aB) (k:Nat) (p:aq):Int:=if k = 0 then 1 else if k = 1 then wr (p.at_ - h.aft) else wr (h.fore - p.at_)
def iO (t:aq → Nat → Int):Int → Nat → List aq → Int
  | acc,_,[]=>acc
  | acc,k,p :: r=>iO t (wr (acc + t p k)) (k + 1) r
def eg (h:aB) (water:Int) (j:Nat) (p:aq) (_:Nat):Int:=
  wr (l6 h j p * (if l6 h j p < 0 then mP p (nK water p.keel) else kK p (nK water p.keel)))
def bu (h:aB) (water:Int) (j:Nat):Int:=iO (eg h water j) 0 0 h.ps
theorem dO (h:aB) (hl:h.ps.length ≤ maxLen) (water:Int) (σ:af):Spec Tryz.prog Ux [h.v,ii' water] σ fun r σ'=>r = .ret (qq (bu h water 0) (bu h water 1) (bu h water 2)) ∧ σ' = σ:=by
  refine Spec.ay (LG (by simp) (dm _ ?_)) (by simp [h.pure]) rfl σ
  simp [Hf,aB.v,aB.cells]
  refine aj.pure MA (ow h _) ?_
  simp [rq,aB.v,aB.cells]
  have hpu:aM (h.ps.map aq.v) = true:=av (f:=aq.v) (fun _=>rfl) h.ps
  have w1:IntKind.i64.wrap 1 = 1:=by decide
  have w2:IntKind.i64.wrap 2 = 2:=by decide
  have w3:IntKind.i64.wrap 3 = 3:=by decide
  have arm0:∀ x:aq,ck Tryz.prog (.func (.func 216) [] []) [x.v] (ii' (l6 h 0 x)):=fun x=>ck.fn Oe (fun σ=>l5 x σ)
  have arm1:∀ x:aq,ck Tryz.prog (.func (.func 217) [] [.pval h.v]) [x.v] (ii' (l6 h 1 x)):=fun x=>ck.fn OV (fun σ=>ma x h σ)
  have arm2:∀ x:aq,ck Tryz.prog (.func (.func 218) [] [.pval h.v]) [x.v] (ii' (l6 h 2 x)):=fun x=>ck.fn OB (fun σ=>mb x h σ)
  have heavy:∀ (x:aq) (w:Int),ck Tryz.prog (.func (.func 220) [] []) [pJ x (nK w x.keel)] (ii' (mP x (nK w x.keel))):=fun x w=>ck.fn Kz (fun σ=>kC x _ σ)
  have light:∀ (x:aq) (w:Int),ck Tryz.prog (.func (.func 219) [] []) [pJ x (nK w x.keel)] (ii' (kK x (nK w x.keel))):=fun x w=>ck.fn Kd (fun σ=>kG x _ σ)
  refine AW.loop (ι:=Nat) (fun j fr σ=>fr = { v:=[(1,ii' water),(2, .pval (.agg [.slice 7 (h.ps.map aq.v),ii' h.aft,ii' h.fore])),(4, .ptr 0 0),(12, .agg [.func (.func 216) [] [], .func (.func 219) [] [], .func (.func 220) [] [], .func (.func 217) [] [.pval (.agg [.slice 7 (h.ps.map aq.v),ii' h.aft,ii' h.fore])], .func (.func 219) [] [], .func (.func 220) [] [], .func (.func 218) [] [.pval (.agg [.slice 7 (h.ps.map aq.v),ii' h.aft,ii' h.fore])], .func (.func 219) [] [], .func (.func 220) [] []]),(13, .int .i64 j)],ds:=[] } ∧
      ((j = 0 ∧ ∃ tl,σ = .box [ii' 0,ii' 0,ii' 0] :: tl) ∨ (j = 1 ∧ ∃ tl,σ = .box [ii' (bu h water 0),ii' 0,ii' 0] :: tl) ∨ (j = 2 ∧ ∃ tl,σ = .box [ii' (bu h water 0),ii' (bu h water 1),ii' 0] :: tl) ∨
       (j = 3 ∧ ∃ tl,σ = .box [ii' (bu h water 0),ii' (bu h water 1),ii' (bu h water 2)] :: tl))) (fun j=>3 - j) 0 ⟨by simp, .inl ⟨rfl,_,rfl⟩⟩ ?_
  rintro j fr σ ⟨rfl,hcs⟩
  refine dm _ ?_
  refine hcs.elim (fun hh=>?_) (fun hcs=>hcs.elim (fun hh=>?_) (fun hcs=>hcs.elim (fun hh=>?_) (fun hh=>?_)))
  · obtain ⟨rfl,tl,rfl⟩:=hh
    simp
    refine AW.loop (ι:=Nat) (fun i fr σ=>∃ acc tl,fr = { v:=[(1,ii' water),(2, .pval (.agg [.slice 7 (h.ps.map aq.v),ii' h.aft,ii' h.fore])),(4, .ptr 0 0),(5, .int .i64 0),(6, .pval (.agg [.func (.func 216) [] [], .func (.func 219) [] [], .func (.func 220) [] []])),(12, .agg [.func (.func 216) [] [], .func (.func 219) [] [], .func (.func 220) [] [], .func (.func 217) [] [.pval (.agg [.slice 7 (h.ps.map aq.v),ii' h.aft,ii' h.fore])], .func (.func 219) [] [], .func (.func 220) [] [], .func (.func 218) [] [.pval (.agg [.slice 7 (h.ps.map aq.v),ii' h.aft,ii' h.fore])], .func (.func 219) [] [], .func (.func 220) [] []]),(13, .int .i64 0),(19, .slice 7 (h.ps.map aq.v)),(20, .int .i64 h.ps.length),(21, .int .i64 i)],ds:=[] } ∧
      σ = .box [ii' (acc),ii' (0),ii' (0)] :: tl ∧ i ≤ h.ps.length ∧ bu h water 0 = iO (eg h water 0) acc i (h.ps.drop i)) (fun i=>h.ps.length - i) 0 ⟨0,_,by simp,rfl,by simp,by simp [bu]⟩ ?_
    rintro i fr σ ⟨acc,tl,rfl,rfl,hi,hs⟩
    refine (Nat.lt_or_ge i h.ps.length).elim (fun hlt=>?_) (fun hge=>?_)
    · have hd:h.ps.drop i = h.ps[i] :: h.ps.drop (i + 1):=List.drop_eq_getElem_cons hlt
      obtain ⟨x,hx⟩:∃ x,h.ps[i] = x:=⟨_,rfl⟩
      rw [hd,hx] at hs
      simp only [iO] at hs
      refine dm _ ?_
      simp [hlt,hx,aq.v,aq.cells]
      refine aj.of (arm0 x _) ?_
      refine (Classical.em (l6 h 0 x < 0)).elim (fun h1=>?_) (fun h1=>?_)
      · simp [h1,hlt,hx,aq.v,aq.cells]
        refine ⟨_,fun σ'=>arm0 x σ', ?_⟩
        simp
        refine ⟨_,fun σ'=>heavy x water σ', ?_⟩
        simp
        refine ⟨i + 1,by omega,an (by omega) (by simp only [maxLen] at hl; omega),by omega, ?_⟩
        rw [hs]
        simp [eg,h1]
      · simp [h1,hlt,hx,aq.v,aq.cells]
        refine ⟨_,fun σ'=>arm0 x σ', ?_⟩
        simp
        refine ⟨_,fun σ'=>light x water σ', ?_⟩
        simp
        refine ⟨i + 1,by omega,an (by omega) (by simp only [maxLen] at hl; omega),by omega, ?_⟩
        rw [hs]
        simp [eg,h1]
    · have:h.ps.drop i = []:=List.drop_eq_nil_of_le hge
      rw [this] at hs
      simp only [iO] at hs
      subst hs
      have hnl:¬ i < h.ps.length:=by omega
      refine dm _ ?_
      simp [hnl]
      exact ⟨1,by omega,w1,by simp⟩
  · obtain ⟨rfl,tl,rfl⟩:=hh
    simp
    refine AW.loop (ι:=Nat) (fun i fr σ=>∃ acc tl,fr = { v:=[(1,ii' water),(2, .pval (.agg [.slice 7 (h.ps.map aq.v),ii' h.aft,ii' h.fore])),(4, .ptr 0 0),(5, .int .i64 1),(6, .pval (.agg [.func (.func 217) [] [.pval (.agg [.slice 7 (h.ps.map aq.v),ii' h.aft,ii' h.fore])], .func (.func 219) [] [], .func (.func 220) [] []])),(12, .agg [.func (.func 216) [] [], .func (.func 219) [] [], .func (.func 220) [] [], .func (.func 217) [] [.pval (.agg [.slice 7 (h.ps.map aq.v),ii' h.aft,ii' h.fore])], .func (.func 219) [] [], .func (.func 220) [] [], .func (.func 218) [] [.pval (.agg [.slice 7 (h.ps.map aq.v),ii' h.aft,ii' h.fore])], .func (.func 219) [] [], .func (.func 220) [] []]),(13, .int .i64 1),(19, .slice 7 (h.ps.map aq.v)),(20, .int .i64 h.ps.length),(21, .int .i64 i)],ds:=[] } ∧
      σ = .box [ii' (bu h water 0),ii' (acc),ii' (0)] :: tl ∧ i ≤ h.ps.length ∧ bu h water 1 = iO (eg h water 1) acc i (h.ps.drop i)) (fun i=>h.ps.length - i) 0 ⟨0,_,by simp,rfl,by simp,by simp [bu]⟩ ?_
    rintro i fr σ ⟨acc,tl,rfl,rfl,hi,hs⟩
    refine (Nat.lt_or_ge i h.ps.length).elim (fun hlt=>?_) (fun hge=>?_)
    · have hd:h.ps.drop i = h.ps[i] :: h.ps.drop (i + 1):=List.drop_eq_getElem_cons hlt
      obtain ⟨x,hx⟩:∃ x,h.ps[i] = x:=⟨_,rfl⟩
      rw [hd,hx] at hs
      simp only [iO] at hs
      refine dm _ ?_
      simp [hlt,hx,aq.v,aq.cells]
      refine aj.of (arm1 x _) ?_
      refine (Classical.em (l6 h 1 x < 0)).elim (fun h1=>?_) (fun h1=>?_)
      · simp [h1,hlt,hx,hpu,aq.v,aq.cells]
        refine ⟨_,fun σ' _=>arm1 x σ', ?_⟩
        simp
        refine ⟨_,fun σ'=>heavy x water σ', ?_⟩
        simp
        refine ⟨i + 1,by omega,an (by omega) (by simp only [maxLen] at hl; omega),by omega, ?_⟩
        rw [hs]
        simp [eg,h1]
      · simp [h1,hlt,hx,hpu,aq.v,aq.cells]
        refine ⟨_,fun σ' _=>arm1 x σ', ?_⟩
        simp
        refine ⟨_,fun σ'=>light x water σ', ?_⟩
        simp
        refine ⟨i + 1,by omega,an (by omega) (by simp only [maxLen] at hl; omega),by omega, ?_⟩
        rw [hs]
        simp [eg,h1]
    · have:h.ps.drop i = []:=List.drop_eq_nil_of_le hge
      rw [this] at hs
      simp only [iO] at hs
      subst hs
      have hnl:¬ i < h.ps.length:=by omega
      refine dm _ ?_
      simp [hnl]
      exact ⟨2,by omega,w2,by simp⟩
  · obtain ⟨rfl,tl,rfl⟩:=hh
    simp
    refine AW.loop (ι:=Nat) (fun i fr σ=>∃ acc tl,fr = { v:=[(1,ii' water),(2, .pval (.agg [.slice 7 (h.ps.map aq.v),ii' h.aft,ii' h.fore])),(4, .ptr 0 0),(5, .int .i64 2),(6, .pval (.agg [.func (.func 218) [] [.pval (.agg [.slice 7 (h.ps.map aq.v),ii' h.aft,ii' h.fore])], .func (.func 219) [] [], .func (.func 220) [] []])),(12, .agg [.func (.func 216) [] [], .func (.func 219) [] [], .func (.func 220) [] [], .func (.func 217) [] [.pval (.agg [.slice 7 (h.ps.map aq.v),ii' h.aft,ii' h.fore])], .func (.func 219) [] [], .func (.func 220) [] [], .func (.func 218) [] [.pval (.agg [.slice 7 (h.ps.map aq.v),ii' h.aft,ii' h.fore])], .func (.func 219) [] [], .func (.func 220) [] []]),(13, .int .i64 2),(19, .slice 7 (h.ps.map aq.v)),(20, .int .i64 h.ps.length),(21, .int .i64 i)],ds:=[] } ∧
      σ = .box [ii' (bu h water 0),ii' (bu h water 1),ii' (acc)] :: tl ∧ i ≤ h.ps.length ∧ bu h water 2 = iO (eg h water 2) acc i (h.ps.drop i)) (fun i=>h.ps.length - i) 0 ⟨0,_,by simp,rfl,by simp,by simp [bu]⟩ ?_
    rintro i fr σ ⟨acc,tl,rfl,rfl,hi,hs⟩
    refine (Nat.lt_or_ge i h.ps.length).elim (fun hlt=>?_) (fun hge=>?_)
    · have hd:h.ps.drop i = h.ps[i] :: h.ps.drop (i + 1):=List.drop_eq_getElem_cons hlt
      obtain ⟨x,hx⟩:∃ x,h.ps[i] = x:=⟨_,rfl⟩
      rw [hd,hx] at hs
      simp only [iO] at hs
      refine dm _ ?_
      simp [hlt,hx,aq.v,aq.cells]
      refine aj.of (arm2 x _) ?_
      refine (Classical.em (l6 h 2 x < 0)).elim (fun h1=>?_) (fun h1=>?_)
      · simp [h1,hlt,hx,hpu,aq.v,aq.cells]
        refine ⟨_,fun σ' _=>arm2 x σ', ?_⟩
        simp
        refine ⟨_,fun σ'=>heavy x water σ', ?_⟩
        simp
        refine ⟨i + 1,by omega,an (by omega) (by simp only [maxLen] at hl; omega),by omega, ?_⟩
        rw [hs]
        simp [eg,h1]
      · simp [h1,hlt,hx,hpu,aq.v,aq.cells]
        refine ⟨_,fun σ' _=>arm2 x σ', ?_⟩
        simp
        refine ⟨_,fun σ'=>light x water σ', ?_⟩
        simp
        refine ⟨i + 1,by omega,an (by omega) (by simp only [maxLen] at hl; omega),by omega, ?_⟩
        rw [hs]
        simp [eg,h1]
    · have:h.ps.drop i = []:=List.drop_eq_nil_of_le hge
      rw [this] at hs
      simp only [iO] at hs
      subst hs
      have hnl:¬ i < h.ps.length:=by omega
      refine dm _ ?_
      simp [hnl]
      exact ⟨3,by omega,w3,by simp⟩
  · obtain ⟨rfl,tl,rfl⟩:=hh
    simp [qq]
set_option maxRecDepth 100000
set_option maxHeartbeats 1000000
def sU (t:bh) (water:Int) (p:aq) (k:Nat):Int:=wr ((t.ws[k]?.getD 0) - wr ((t.ls[k]?.getD 0) * nK water p.keel))
def inT (h:aB) (t:bh) (water:Int) (j:Nat) (p:aq) (k:Nat):Int:=wr (l6 h j p * sU t water p k)
def inS (h:aB) (t:bh) (water:Int) (j:Nat):Int:=iO (inT h t water j) 0 0 h.ps
set_option maxRecDepth 100000
set_option maxHeartbeats 1000000
def eF (h:aB):Int:=(dk h).2.2
set_option maxRecDepth 100000
set_option maxHeartbeats 1000000
def qG (p:aq):Int:=
  if !e7 p.at_ 0 5000 || !e7 p.keel 0 1000 || decide (bc (p.wLo,p.wHi) 0 1000000 = 7) || decide (bc (p.lLo,p.lHi) 0 5000 = 7) then 7
  else if bc (p.wLo,p.wHi) 0 1000000 ≠ 0 then bc (p.wLo,p.wHi) 0 1000000 else bc (p.lLo,p.lHi) 0 5000
theorem tM (p:aq) (σ:af):Spec Tryz.prog Ek [p.v] σ fun r σ'=>r = .ret (ii' (qG p)) ∧ σ' = σ:=by
  refine Spec.ay (KO (by simp) (dm _ ?_)) rfl rfl σ
  simp [G1,aq.v,aq.cells]
  refine ⟨.int .i64 (bc (p.wLo,p.wHi) 0 1000000),fun σ'=>aC.func Ad (e9 _ _ _ _ _), ?_⟩
  simp
  refine ⟨.int .i64 (bc (p.lLo,p.lHi) 0 5000),fun σ'=>aC.func Ad (e9 _ _ _ _ _), ?_⟩
  simp
  generalize hA:bc (p.wLo,p.wHi) 0 1000000 = A
  generalize hB:bc (p.lLo,p.lHi) 0 5000 = B
  have hR:qG p = if !e7 p.at_ 0 5000 || !e7 p.keel 0 1000 || decide (A = 7) || decide (B = 7) then 7 else if A ≠ 0 then A else B:=by unfold qG; rw [hA,hB]
  rw [hR]
  refine (tf (e7 p.at_ 0 5000)).elim (fun h1=>?_) (fun h1=>?_)
  · refine aj.aD mC (b5 p.at_ 0 5000 _) (congrArg ab.bool h1) ?_
    simp [h1]
  · refine aj.aD mC (b5 p.at_ 0 5000 _) (congrArg ab.bool h1) ?_
    simp
    refine (tf (e7 p.keel 0 1000)).elim (fun h2=>?_) (fun h2=>?_)
    · refine aj.aD mC (b5 p.keel 0 1000 _) (congrArg ab.bool h2) ?_
      simp [h2]
    · refine aj.aD mC (b5 p.keel 0 1000 _) (congrArg ab.bool h2) ?_
      refine (Classical.em (A = 7)).elim (fun h3=>?_) (fun h3=>?_)
      · simp [h1,h2,h3]
      · refine (Classical.em (B = 7)).elim (fun h4=>?_) (fun h4=>?_)
        · simp [h1,h2,h3,h4]
        · refine (Classical.em (A = 0)).elim (fun h5=>?_) (fun h5=>?_)
          · simp [h1,h2,h4,h5]
          · simp [h1,h2,h3,h4,h5]
set_option maxRecDepth 100000
set_option maxHeartbeats 1000000
def DY (all:List aq) (x:aq) (i:Nat):Int:=
  if jo x.name ((all.take i).map aq.name) = 0 then qG x else jo x.name ((all.take i).map aq.name)
def kf (all:List aq):List aq → Nat → Int × Int × Int
  | [],_=>(0,0,0)
  | x :: r,i=>if DY all x i ≠ 0 then (2,i,DY all x i) else kf all r (i + 1)
def gC (h:aB):Int × Int × Int:=
  if e7 (h.ps.length:Int) 1 10 = false then (1,0,3) else if e7 h.aft 0 5000 = false ∨ e7 h.fore 0 5000 = false then (1,0,7) else if h.fore ≤ h.aft then (1,0,2) else kf h.ps h.ps 0
def mw (x:Int × Int × Int):ab:=.tup [ii' x.1,ii' x.2.1,ii' x.2.2]
theorem lj (h:aB) (_hl:h.ps.length ≤ maxLen) (σ:af):Spec Tryz.prog Im [h.v] σ fun r σ'=>r = .ret (mw (gC h)) ∧ σ' = σ:=by
  refine Spec.ay (SS (by simp) (dm _ ?_)) (by simp [h.pure]) rfl σ
  simp [Lo,aB.v,aB.cells]
  refine (tf (e7 (h.ps.length:Int) 1 10)).elim (fun h1=>?_) (fun h1=>?_)
  · refine aj.aD mC (b5 (h.ps.length:Int) 1 10 _) (congrArg ab.bool h1) ?_
    simp [gC,h1,mw]
  refine aj.aD mC (b5 (h.ps.length:Int) 1 10 _) (congrArg ab.bool h1) ?_
  simp
  refine (tf (e7 h.aft 0 5000)).elim (fun h2=>?_) (fun h2=>?_)
  · refine aj.aD mC (b5 h.aft 0 5000 _) (congrArg ab.bool h2) ?_
    simp [gC,h1,h2,mw]
  refine aj.aD mC (b5 h.aft 0 5000 _) (congrArg ab.bool h2) ?_
  simp
  refine (tf (e7 h.fore 0 5000)).elim (fun h3=>?_) (fun h3=>?_)
  · refine aj.aD mC (b5 h.fore 0 5000 _) (congrArg ab.bool h3) ?_
    simp [gC,h1,h2,h3,mw]
  refine aj.aD mC (b5 h.fore 0 5000 _) (congrArg ab.bool h3) ?_
  simp
  refine ⟨fun h4=>by simp [gC,h1,h2,h3,h4,mw],fun h4=>?_⟩
  have hc:gC h = kf h.ps h.ps 0:=by simp only [gC,h1,h2,h3]; rw [if_neg (by simp),if_neg (by simp),if_neg (by omega)]
  have hlen:h.ps.length ≤ 10:=by simp [e7] at h1; omega
  rw [hc]
  refine AW.loop (ι:=Nat) (fun i fr σ=>fr = { v:=[(1, .pval (.agg [.slice 7 (h.ps.map aq.v),ii' h.aft,ii' h.fore])),(5, .oslice 1 ((h.ps.take i).map (fun p=>.str p.name)) 0 i),(6, .int .i64 i)],ds:=[] } ∧ σ = [.spare 1 i] ∧ i ≤ h.ps.length ∧ kf h.ps h.ps 0 = kf h.ps (h.ps.drop i) i) (fun i=>h.ps.length - i) 0 (by simp) ?_
  rintro i fr σ ⟨rfl,rfl,hi,hp⟩
  refine (Nat.lt_or_ge i h.ps.length).elim (fun hlt=>?_) (fun hge=>?_)
  · have hd:h.ps.drop i = h.ps[i] :: h.ps.drop (i + 1):=List.drop_eq_getElem_cons hlt
    obtain ⟨x,hx⟩:∃ x,h.ps[i] = x:=⟨_,rfl⟩
    rw [hd,hx] at hp
    simp only [kf] at hp
    rw [hp]
    refine dm _ ?_
    simp [hlt,hx,aq.v,aq.cells]
    have hfr:=fun σ=>k7 ((h.ps.take i).map aq.name) x.name (by simp [maxLen]; omega) σ
    simp only [List.map_take,List.map_map,Function.comp_def] at hfr
    refine aj.pure Hd (hfr _) ?_
    simp [hlt,hx,aq.v,aq.cells]
    have hmin:min i h.ps.length = i:=by omega
    have hfit:Fits 1 [ab.str x.name]:=by intro v hv; simp at hv; subst hv; exact ⟨⟨rfl,rfl⟩,rfl⟩
    have htk:List.take i (List.map (fun p=>ab.str p.name) h.ps) ++ [ab.str x.name] = List.take (i + 1) (List.map (fun p:aq=>ab.str p.name) h.ps):=by
      rw [List.take_add_one]; simp [hlt,hx]
    have herr:DY h.ps x i = if jo x.name (List.take i (List.map aq.name h.ps)) = 0 then qG x else jo x.name (List.take i (List.map aq.name h.ps)):=by simp only [DY,List.map_take]
    refine ⟨hfit,by omega,fun h5=>?_,fun h5=>⟨fun _=>?_,fun h6=>absurd h6 h5⟩⟩
    · refine aj.pure N2 (tM x _) ?_
      rw [if_pos h5] at herr
      refine (Classical.em (qG x = 0)).elim (fun h6=>?_) (fun h6=>?_)
      · simp [h6,herr,hlt,hx,aq.v,aq.cells]
        exact ⟨i + 1,by omega,⟨⟨htk,rfl⟩,an (by omega) (by omega)⟩,rfl,by omega,rfl⟩
      · simp [h6,herr,mw,hlt,hx,aq.v,aq.cells]
    · rw [if_neg h5] at herr
      rw [if_neg (by rw [herr]; exact h5),herr]; rfl
  · have:h.ps.drop i = []:=List.drop_eq_nil_of_le hge
    rw [this] at hp
    rw [hp]
    have hnl:¬ i < h.ps.length:=by omega
    refine dm _ ?_
    simp [hnl,mw,kf]
set_option maxRecDepth 100000
set_option maxHeartbeats 1000000
def eR (h:aB):Int:=(gC h).2.2
set_option maxRecDepth 100000
set_option maxHeartbeats 1000000
def GI (water keel:Int):Int:=if 0 < wr (water - keel) then wr (water - keel) else 0
def iH (t:bh) (water:Int) (p:aq) (k:Nat):Int:=wr ((t.ws[k]?.getD 0) - wr ((t.ls[k]?.getD 0) * GI water p.keel))
def ni (h:aB) (t:bh) (water:Int):Int → Int → Int → Nat → List aq → Int × Int × Int
  | a,b,c,_,[]=>(a,b,c)
  | a,b,c,k,p :: r=>ni h t water (wr (a + iH t water p k)) (wr (b + wr (iH t water p k * wr (p.at_ - h.aft)))) (wr (c + wr (iH t water p k * wr (h.fore - p.at_)))) (k + 1) r
def dD (h:aB) (t:bh) (water:Int):Int × Int × Int:=ni h t water 0 0 0 0 h.ps
def zl (x:Int × Int × Int):ab:=.agg [ii' x.1,ii' x.2.1,ii' x.2.2]
theorem dP (h:aB) (t:bh) (hl:h.ps.length ≤ maxLen) (h1:t.ws.length = h.ps.length) (h2:t.ls.length = h.ps.length) (water:Int) (σ:af) :
    Spec Tryz.prog Hr [h.v,t.v,ii' water] σ fun r σ'=>r = .ret (zl (dD h t water)) ∧ σ' = σ:=by
  refine Spec.ay (R7 (by simp) (dm _ ?_)) (by simp [h.pure,t.pure]) rfl σ
  simp [O2,aB.v,aB.cells,bh.v]
  refine AW.loop (ι:=Nat) (fun i fr σ=>∃ a b c tl,fr = { v:=[(2,ii' water),(3, .pval (.agg [.slice 7 (h.ps.map aq.v),ii' h.aft,ii' h.fore])),(4, .pval (.agg [.slice 1 (t.ws.map ii'), .slice 1 (t.ls.map ii')])),(6, .ptr 0 0),(7, .ptr 1 0),(8, .int .i64 i)],ds:=[] } ∧
      σ = .box [ii' 0,ii' 0,ii' 0] :: .box [ii' a,ii' b,ii' c] :: tl ∧ i ≤ h.ps.length ∧ dD h t water = ni h t water a b c i (h.ps.drop i)) (fun i=>h.ps.length - i) 0 ⟨0,0,0,_,by simp,rfl,by simp,by simp [dD]⟩ ?_
  rintro i fr σ ⟨a0,b0,c0,tl,rfl,rfl,hi,hs⟩
  refine (Nat.lt_or_ge i h.ps.length).elim (fun hlt=>?_) (fun hge=>?_)
  · have hd:h.ps.drop i = h.ps[i] :: h.ps.drop (i + 1):=List.drop_eq_getElem_cons hlt
    have hlw:i < t.ws.length:=by omega
    have hll:i < t.ls.length:=by omega
    obtain ⟨x,hx⟩:∃ x,h.ps[i] = x:=⟨_,rfl⟩
    obtain ⟨a,ha⟩:∃ x,t.ws[i] = x:=⟨_,rfl⟩
    obtain ⟨b,hb⟩:∃ x,t.ls[i] = x:=⟨_,rfl⟩
    rw [hd,hx] at hs
    simp only [ni] at hs
    refine dm _ ?_
    simp [hlt,hx,hlw,hll,ha,hb,aq.v,aq.cells]
    refine ⟨i + 1,by omega,an (by omega) (by simp only [maxLen] at hl; omega),_,_,_,⟨rfl,rfl,rfl⟩,by omega, ?_⟩
    rw [hs]
    simp [iH,GI,hlw,hll,ha,hb]
  · have:h.ps.drop i = []:=List.drop_eq_nil_of_le hge
    rw [this] at hs
    simp only [ni] at hs
    have hnl:¬ i < h.ps.length:=by omega
    refine dm _ ?_
    simp [hnl,hs,zl]
set_option maxRecDepth 100000
set_option maxHeartbeats 1000000
def cC (h:aB) (why:Int) (p:aq):Bool:=
  decide (why = 0) || decide (why = 1) || (decide (why = 2) && decide (h.aft ≤ p.at_)) || (decide (why = 3) && decide (p.at_ ≤ h.fore))
def bW (h:aB) (why:Int) (p:aq):Int:=if cC h why p then p.wLo else p.wHi
def bV (h:aB) (why:Int) (p:aq):Int:=if cC h why p then p.lHi else p.lLo
def cE (h:aB) (why:Int):bh:={ ws:=h.ps.map (bW h why),ls:=h.ps.map (bV h why) }
theorem iL (h:aB) (hl:h.ps.length ≤ 10) (why:Int) (σ:af):Spec Tryz.prog Cz [h.v,ii' why] σ fun r σ'=>r = .ret (cE h why).v ∧ σ' = σ:=by
  refine Spec.ay (OG (by simp) (dm _ ?_)) (by simp [h.pure]) (bh.pure _) σ
  simp [Fw,aB.v,aB.cells]
  refine AW.loop (ι:=Nat) (fun i fr σ=>∃ tl,fr = { v:=[(1,ii' why),(2, .pval (.agg [.slice 7 (h.ps.map aq.v),ii' h.aft,ii' h.fore])),(4, .ptr 0 0),(5, .ptr 3 0),(6, .int .i64 i)],ds:=[] } ∧
      σ = .box [.slice 1 [], .slice 1 []] :: .spare 1 i :: .spare 1 i :: .box [.oslice 1 ((h.ps.take i).map (fun p=>ii' (bW h why p))) 1 i, .oslice 1 ((h.ps.take i).map (fun p=>ii' (bV h why p))) 2 i] :: tl ∧ i ≤ h.ps.length) (fun i=>h.ps.length - i) 0 ?_ ?_
  · exact ⟨[],by simp,by simp,by simp⟩
  rintro i fr σ ⟨tl,rfl,rfl,hi⟩
  refine (Nat.lt_or_ge i h.ps.length).elim (fun hlt=>?_) (fun hge=>?_)
  · obtain ⟨x,hx⟩:∃ x,h.ps[i] = x:=⟨_,rfl⟩
    refine dm _ ?_
    have hmin:min i h.ps.length = i:=by omega
    have hfit:∀ n:Int,Fits 1 [ii' n]:=fun n v hv=>by simp at hv; subst hv; exact ⟨⟨rfl,rfl⟩,rfl⟩
    have hW:List.take i (List.map (fun p=>ii' (bW h why p)) h.ps) ++ [ii' (bW h why x)] = List.take (i + 1) (List.map (fun p=>ii' (bW h why p)) h.ps):=by rw [List.take_add_one]; simp [hlt,hx]
    have hL:List.take i (List.map (fun p=>ii' (bV h why p)) h.ps) ++ [ii' (bV h why x)] = List.take (i + 1) (List.map (fun p=>ii' (bV h why p)) h.ps):=by rw [List.take_add_one]; simp [hlt,hx]
    refine (Classical.em (why = 0)).elim (fun h0=>?_) (fun h0=>?_)
    · subst h0
      simp [hlt,hx,aq.v,aq.cells]
      have e1:bW h 0 x = x.wLo:=by simp [bW,cC]
      have e2:bV h 0 x = x.lHi:=by simp [bV,cC]
      rw [e1] at hW
      rw [e2] at hL
      exact ⟨hfit _,by omega,hfit _,by omega,i + 1,by omega,an (by omega) (by omega),⟨rfl,⟨hW,rfl⟩,hL,rfl⟩,by omega⟩
    refine (Classical.em (why = 1)).elim (fun h1=>?_) (fun h1=>?_)
    · subst h1
      simp [hlt,hx,aq.v,aq.cells]
      have e1:bW h 1 x = x.wLo:=by simp [bW,cC]
      have e2:bV h 1 x = x.lHi:=by simp [bV,cC]
      rw [e1] at hW
      rw [e2] at hL
      exact ⟨hfit _,by omega,hfit _,by omega,i + 1,by omega,an (by omega) (by omega),⟨rfl,⟨hW,rfl⟩,hL,rfl⟩,by omega⟩
    refine (Classical.em (why = 2)).elim (fun h2=>?_) (fun h2=>?_)
    · subst h2
      refine (Classical.em (h.aft ≤ x.at_)).elim (fun h4=>?_) (fun h4=>?_)
      · simp [h4,hlt,hx,aq.v,aq.cells]
        have e1:bW h 2 x = x.wLo:=by simp [h4,bW,cC]
        have e2:bV h 2 x = x.lHi:=by simp [h4,bV,cC]
        rw [e1] at hW
        rw [e2] at hL
        exact ⟨hfit _,by omega,hfit _,by omega,i + 1,by omega,an (by omega) (by omega),⟨rfl,⟨hW,rfl⟩,hL,rfl⟩,by omega⟩
      · simp [h4,hlt,hx,aq.v,aq.cells]
        have e1:bW h 2 x = x.wHi:=by simp [h4,bW,cC]
        have e2:bV h 2 x = x.lLo:=by simp [h4,bV,cC]
        rw [e1] at hW
        rw [e2] at hL
        exact ⟨hfit _,by omega,hfit _,by omega,i + 1,by omega,an (by omega) (by omega),⟨rfl,⟨hW,rfl⟩,hL,rfl⟩,by omega⟩
    refine (Classical.em (why = 3)).elim (fun h3=>?_) (fun h3=>?_)
    · subst h3
      refine (Classical.em (x.at_ ≤ h.fore)).elim (fun h4=>?_) (fun h4=>?_)
      · simp [h4,hlt,hx,aq.v,aq.cells]
        have e1:bW h 3 x = x.wLo:=by simp [h4,bW,cC]
        have e2:bV h 3 x = x.lHi:=by simp [h4,bV,cC]
        rw [e1] at hW
        rw [e2] at hL
        exact ⟨hfit _,by omega,hfit _,by omega,i + 1,by omega,an (by omega) (by omega),⟨rfl,⟨hW,rfl⟩,hL,rfl⟩,by omega⟩
      · simp [h4,hlt,hx,aq.v,aq.cells]
        have e1:bW h 3 x = x.wHi:=by simp [h4,bW,cC]
        have e2:bV h 3 x = x.lLo:=by simp [h4,bV,cC]
        rw [e1] at hW
        rw [e2] at hL
        exact ⟨hfit _,by omega,hfit _,by omega,i + 1,by omega,an (by omega) (by omega),⟨rfl,⟨hW,rfl⟩,hL,rfl⟩,by omega⟩
    · simp [h0,h1,h2,h3,hlt,hx,aq.v,aq.cells]
      have e1:bW h why x = x.wHi:=by simp [h0,h1,h2,h3,bW,cC]
      have e2:bV h why x = x.lLo:=by simp [h0,h1,h2,h3,bV,cC]
      rw [e1] at hW
      rw [e2] at hL
      exact ⟨hfit _,by omega,hfit _,by omega,i + 1,by omega,an (by omega) (by omega),⟨rfl,⟨hW,rfl⟩,hL,rfl⟩,by omega⟩
  · have hnl:¬ i < h.ps.length:=by omega
    refine dm _ ?_
    simp [hnl,bh.v,cE]
    rw [List.take_of_length_le (by simp; omega),List.take_of_length_le (by simp; omega)]
    exact ⟨rfl,rfl⟩
set_option maxRecDepth 100000
set_option maxHeartbeats 1000000
def vE (h:aB) (water:Int):Int × Int × Int:=((dD h (cE h 1) water).1,(dD h (cE h 2) water).2.1,(dD h (cE h 3) water).2.2)
theorem nO (h:aB) (hl:h.ps.length ≤ 10) (water:Int) (σ:af):Spec Tryz.prog AJ [h.v,ii' water] σ fun r σ'=>r = .ret (zl (vE h water)) ∧ σ' = σ:=by
  have hm:h.ps.length ≤ maxLen:=by simp only [maxLen]; omega
  refine Spec.ay (MX (by simp) (dm _ ?_)) (by simp [h.pure]) rfl σ
  have hpu:aM (h.ps.map aq.v) = true:=av (f:=aq.v) (fun _=>rfl) h.ps
  have hp2:∀ l:List Int,aM (l.map ii') = true:=av (f:=ii') (fun _=>rfl)
  simp [GL,aB.v,aB.cells]
  refine ⟨_,fun σ' _=>aC.func Ez (iL h hl 1 σ'), ?_⟩
  simp [bh.v]
  refine ⟨_,fun σ' _=>aC.func EE (dP h (cE h 1) hm (by simp [cE]) (by simp [cE]) water σ'), ?_⟩
  simp [zl]
  refine ⟨_,fun σ' _=>aC.func Ez (iL h hl 2 σ'), ?_⟩
  simp [bh.v]
  refine ⟨_,fun σ' _=>aC.func EE (dP h (cE h 2) hm (by simp [cE]) (by simp [cE]) water σ'), ?_⟩
  simp [zl]
  refine ⟨_,fun σ' _=>aC.func Ez (iL h hl 3 σ'), ?_⟩
  simp [bh.v]
  refine ⟨_,fun σ' _=>aC.func EE (dP h (cE h 3) hm (by simp [cE]) (by simp [cE]) water σ'), ?_⟩
  simp [zl,vE]
set_option maxRecDepth 100000
set_option maxHeartbeats 1000000
theorem rF (n lo hi:Int):e7 n lo hi = !gA lo hi n:=by
  rw [Bool.eq_iff_iff]; simp [e7,gA]
theorem Eb (p:aq):fo p = qG p:=by
  unfold fo qG bc
  simp only [aW,rF,List.any_cons,List.any_nil,Bool.or_false,Bool.not_not]
  rcases tf (gA 0 5000 p.at_) with h1 | h1 <;> rcases tf (gA 0 1000 p.keel) with h2 | h2 <;> rcases tf (gA 0 1000000 p.wLo) with h3 | h3 <;> rcases tf (gA 0 1000000 p.wHi) with h4 | h4 <;> rcases tf (gA 0 5000 p.lLo) with h5 | h5 <;> rcases tf (gA 0 5000 p.lHi) with h6 | h6 <;> simp only [h1,h2,h3,h4,h5,h6] <;>
    by_cases h7:p.wHi < p.wLo <;> by_cases h8:p.lHi < p.lLo <;> simp [h7,h8]
theorem iw (s:ByteArray):∀ (l:List ByteArray) (i:Nat),0 ≤ dG l s i ↔ (l.any fun a=>a.toList == s.toList) = true
  | [],i=>by simp [dG]
  | a :: r,i=>by
    have ih:=iw s r (i + 1)
    have e:dG (a :: r) s i = if a.toList == s.toList then (i:Int) else dG r s (i + 1):=rfl
    rw [e,List.any_cons]
    by_cases h:(a.toList == s.toList) = true
    · rw [if_pos h,h]; simp
    · rw [if_neg h]
      have h':(a.toList == s.toList) = false:=by simpa using h
      rw [h',ih]; simp
theorem parts_eq (all:List aq):∀ (l:List aq) (i:Nat),fa all l i = kf all l i
  | [],_=>rfl
  | x :: r,i=>by
    simp only [fa,kf,DY,jo]
    rw [parts_eq all r (i + 1)]
    have hp:=iw x.name ((all.take i).map aq.name) 0
    have ha:(((all.take i).map aq.name).any fun a=>a.toList == x.name.toList) = ((all.take i).any fun y=>y.name.toList == x.name.toList):=by rw [List.any_map]; rfl
    rw [ha] at hp
    rcases tf (dw x.name) with h1 | h1
    · simp [h1]
    · rcases tf ((all.take i).any fun y=>y.name.toList == x.name.toList) with h2 | h2
      · have h3:¬ 0 ≤ dG ((all.take i).map aq.name) x.name 0:=by rw [hp,h2]; simp
        simp only [h1,h2,Eb,if_neg h3]
        simp
      · have h3:0 ≤ dG ((all.take i).map aq.name) x.name 0:=by rw [hp,h2]
        simp only [h1,h2,if_pos h3]
        simp
theorem yo (h:aB):dk h = gC h:=by
  unfold dk gC
  rw [parts_eq]
  simp only [aW,rF,List.any_cons,List.any_nil,Bool.or_false]
  rcases tf (gA 1 10 (h.ps.length:Int)) with h1 | h1 <;> rcases tf (gA 0 5000 h.aft) with h2 | h2 <;> rcases tf (gA 0 5000 h.fore) with h3 | h3 <;> simp [h1,h2,h3]
theorem M6 (h:aB):eF h = eR h:=by unfold eF eR; rw [yo]
theorem JY (n:Int):wr (wr n) = wr n:=by simp only [wr,IntKind.wrap_i64]; omega
theorem Bb (t:bh) (w:Int) (p:aq) (k:Nat):wr (1 * iH t w p k) = iH t w p k:=by
  rw [Int.one_mul]; exact JY _
theorem xE (h:aB) (t:bh) (w:Int):∀ (l:List aq) (a b c:Int) (k:Nat),ni h t w a b c k l = (iO (inT h t w 0) a k l,iO (inT h t w 1) b k l,iO (inT h t w 2) c k l)
  | [],_,_,_,_=>rfl
  | p :: r,a,b,c,k=>by
    simp only [ni,iO]
    rw [xE h t w r]
    have e0:inT h t w 0 p k = iH t w p k:=Bb t w p k
    have e1:inT h t w 1 p k = wr (iH t w p k * wr (p.at_ - h.aft)):=by
      show wr (wr (p.at_ - h.aft) * iH t w p k) = _
      rw [Int.mul_comm]
    have e2:inT h t w 2 p k = wr (iH t w p k * wr (h.fore - p.at_)):=by
      show wr (wr (h.fore - p.at_) * iH t w p k) = _
      rw [Int.mul_comm]
    rw [e0,e1,e2]
theorem lY (h:aB) (t:bh) (w:Int):dD h t w = (inS h t w 0,inS h t w 1,inS h t w 2):=xE h t w h.ps 0 0 0 0
theorem kg {f g:aq → Nat → Int}:∀ (l:List aq) (a:Int) (k:Nat),(∀ i (hi:i < l.length),f l[i] (k + i) = g l[i] (k + i)) → iO f a k l = iO g a k l
  | [],_,_,_=>rfl
  | p :: r,a,k,h=>by
    simp only [iO]
    have h0:=h 0 (by simp)
    simp at h0
    rw [h0]
    exact kg r _ (k + 1) fun i hi=>by
      have:=h (i + 1) (by simpa using hi)
      simpa [Nat.add_assoc,Nat.add_comm 1] using this
theorem xB (all:List aq):∀ (l:List aq) (i:Nat),(fa all l i).2.2 = 0 → ∀ p ∈ l,fo p = 0
  | [],_,_=>by simp
  | x :: r,i,h=>by
    simp only [fa] at h
    split at h
    · cases h
    · split at h
      · cases h
      · split at h
        · rename_i hx; exact absurd h hx
        · rename_i hx
          intro p hp
          rcases List.mem_cons.1 hp with rfl | hp
          · simpa using hx
          · exact xB all r (i + 1) h p hp
structure Bounds (h:aB):Prop where
  aft:0 ≤ h.aft ∧ h.aft ≤ 5000
  fore:0 ≤ h.fore ∧ h.fore ≤ 5000
  at_:∀ p ∈ h.ps,0 ≤ p.at_ ∧ p.at_ ≤ 5000
theorem Dz (h:aB) (hb:Bounds h) (w:Int):vE h w = (bu h w 0,bu h w 1,bu h w 2):=by
  unfold vE
  rw [lY,lY,lY]
  have gW:∀ (why:Int) (i:Nat) (hi:i < h.ps.length),(cE h why).ws[i]?.getD 0 = bW h why h.ps[i]:=fun why i hi=>by simp [cE,hi]
  have gL:∀ (why:Int) (i:Nat) (hi:i < h.ps.length),(cE h why).ls[i]?.getD 0 = bV h why h.ps[i]:=fun why i hi=>by simp [cE,hi]
  have c0:inS h (cE h 1) w 0 = bu h w 0:=kg _ _ _ fun i hi=>by
    simp only [Nat.zero_add,inT,eg,sU,gW 1 i hi,gL 1 i hi]
    simp [l6,bW,bV,cC,kK]
  have c1:inS h (cE h 2) w 1 = bu h w 1:=kg _ _ _ fun i hi=>by
    simp only [Nat.zero_add,inT,eg,sU,gW 2 i hi,gL 2 i hi]
    have hat:=hb.at_ _ (List.getElem_mem hi)
    have ha:=hb.aft
    have harm:l6 h 1 h.ps[i] = h.ps[i].at_ - h.aft:=by simp only [l6]; exact an (by omega) (by omega)
    rw [harm]
    by_cases hc:h.aft ≤ h.ps[i].at_
    · have hc':¬ h.ps[i].at_ - h.aft < 0:=by omega
      simp [bW,bV,cC,hc,hc',kK]
    · have hc':h.ps[i].at_ - h.aft < 0:=by omega
      simp [bW,bV,cC,hc,hc',mP]
  have c2:inS h (cE h 3) w 2 = bu h w 2:=kg _ _ _ fun i hi=>by
    simp only [Nat.zero_add,inT,eg,sU,gW 3 i hi,gL 3 i hi]
    have hat:=hb.at_ _ (List.getElem_mem hi)
    have ha:=hb.fore
    have harm:l6 h 2 h.ps[i] = h.fore - h.ps[i].at_:=by simp only [l6]; exact an (by omega) (by omega)
    rw [harm]
    by_cases hc:h.ps[i].at_ ≤ h.fore
    · have hc':¬ h.fore - h.ps[i].at_ < 0:=by omega
      simp [bW,bV,cC,hc,hc',kK]
    · have hc':h.fore - h.ps[i].at_ < 0:=by omega
      simp [bW,bV,cC,hc,hc',mP]
  rw [c0,c1,c2]
end Go.AM
