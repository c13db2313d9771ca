/- The ship on a day, of the program: hull.build. The program: Check, open, fresh, Ship. The document: a change tried. The document: a part swapped. The document: a change tried. The document: the check of a plan. The document: the ship on a day. -/
import Derived.Test.YthhmdhiiicipkaaGreatDoorP20
namespace Go.AM
open Go.Proofs
set_option maxRecDepth 100000
set_option maxHeartbeats 1000000
theorem Hx {l:List HuM} {c:ChM} (h:doE l c = 0):doR l c = doL l c:=by unfold doR; rw [if_pos h]
theorem gv (ps:List HuM) (cs:List ChM) (hf:lJ ⟨ps,cs⟩) (day:Int) (σ:ag) :
    Spec Tryz.prog Ep [.agg [.slice 7 (ps.map HuM.v), .slice 10 (cs.map ChM.v)], .int .i64 day] σ fun r σ'=>∃ ns:List HuM,r = .ret (.tup [.agg [.slice 7 (ns.map HuM.v)],ii' (bT ⟨ps,cs⟩).1,ii' (bT ⟨ps,cs⟩).2.1,ii' (bT ⟨ps,cs⟩).2.2]) ∧ ((bT ⟨ps,cs⟩).2.2 = 0 → ns = fH day ps ps cs) ∧ ∃ tl,σ' = σ ++ tl:=by
  obtain ⟨hl,hon,hcl,hcon⟩:=hf
  dsimp only at hl hon hcl hcon
  have hpp:bT ⟨ps,cs⟩ = if (shP ps).2.2 ≠ 0 then shP ps else if 8 < cs.length then (2,0,3) else fT doE doL ps cs 0 0:=by rw [Gn]; rfl
  generalize hpq:bT ⟨ps,cs⟩ = q at *
  refine No (by simp) (aa _ ?_)
  simp [Km]
  refine ⟨fun h=>?_,fun h=>?_⟩
  · have h0:shP ps = (1,0,3):=by rw [shP,if_pos (by omega)]
    rw [h0] at hpp
    rw [hpp]
    exact ⟨[],by simp,by simp⟩
  have hc:shP ps = shQ ps ps 0:=by rw [shP,if_neg (by omega)]
  refine AW.loop (ι:=Nat) (fun i fr σ'=>∃ tl,fr = { v:=[(1, .int .i64 day),(2, .pval (.agg [.slice 7 (ps.map HuM.v), .slice 10 (cs.map ChM.v)])),(4, .ptr σ.length 0),(8, .ptr (σ.length + 1) 0),(28, .slice 7 (ps.map HuM.v)),(29, .int .i64 ps.length),(30, .int .i64 i)],ds:=[] } ∧ σ' = σ ++ .box [.slice 7 []] :: .box [.slice 7 (ps.map HuM.v)] :: tl ∧ i ≤ ps.length ∧ shP ps = shQ ps (ps.drop i) i) (fun i=>ps.length - i) 0 ⟨[],by simp,rfl,by simp,by simp [hc]⟩ ?_
  rintro i fr σ' ⟨tl,rfl,rfl,hi,hpi⟩
  refine (Nat.lt_or_ge i ps.length).elim (fun hlt=>?_) (fun hge=>?_)
  · have hd:ps.drop i = ps[i] :: ps.drop (i + 1):=List.drop_eq_getElem_cons hlt
    rw [hd] at hpi
    simp only [shQ] at hpi
    obtain ⟨x,hx⟩:∃ x,ps[i] = x:=⟨_,rfl⟩
    have hxo:=hon x (hx ▸ List.getElem_mem _)
    rw [hx] at hpi
    have hq:=ma ps x i hl hi hxo (σ.length + 1) (σ ++ .box [.slice 7 []] :: .box [.slice 7 (ps.map HuM.v)] :: (tl ++ [.dead])) (by simp)
    refine aa _ ?_
    simp [hlt,hx,HuM.v,HuM.cells]
    refine af.tl CI hq fun t2=>?_
    refine (Classical.em (cH ps x i = 0)).elim (fun h3=>?_) (fun h3=>?_)
    · simp [h3]
      refine ⟨i + 1,by omega,aj (by omega) (by simp only [maxLen] at hl; omega),by omega, ?_⟩
      rw [hpi,if_neg (by simp [h3])]
    · rw [if_pos h3] at hpi
      rw [hpi,if_pos h3] at hpp
      simp [h3,hpp]
      done
  have hz:ps.drop i = []:=List.drop_eq_nil_of_le hge
  rw [hz] at hpi
  have hok:OkS ps:=(mI ps).1 (by rw [← Gn,hpi]; rfl)
  rw [hpi,if_neg (by simp [shQ])] at hpp
  obtain ⟨M,hM⟩:∃ M,M = (σ ++ aQ.box [.slice 7 []] :: aQ.box [.slice 7 (ps.map HuM.v)] :: tl).length:=⟨_,rfl⟩
  have hvb:=sf (σ ++ aQ.box [.slice 7 []] :: aQ.box [.slice 7 (ps.map HuM.v)] :: tl)
  rw [← hM] at hvb
  by_cases h8:8 < cs.length
  · rw [if_pos h8] at hpp
    refine aa _ ?_
    simp [show ¬ i < ps.length by omega,hpp]
    intro h; omega
  rw [if_neg h8] at hpp
  refine aa _ ?_
  simp [show ¬ i < ps.length by omega]
  refine ⟨fun h=>absurd h (by omega),fun _=>af.spec Mt hvb ?_⟩
  rintro r σ' ⟨rfl,rfl⟩
  refine ⟨_,rfl, ?_⟩
  have k4:∀ (n l:aQ) (r:ag),(σ ++ n :: l :: r)[σ.length]? = some n:=fun n l r=>by simp
  have k8:∀ (n l:aQ) (r:ag),(σ ++ n :: l :: r)[σ.length + 1]? = some l:=fun n l r=>by simp
  have s4:∀ (n l o:aQ) (r:ag),(σ ++ n :: l :: r).set σ.length o = σ ++ o :: l :: r:=fun n l o r=>by simp
  have s8:∀ (n l o:aQ) (r:ag),(σ ++ n :: l :: r).set (σ.length + 1) o = σ ++ n :: o :: r:=fun n l o r=>by simp
  have kM:∀ (n l:aQ) (r:ag),(σ ++ n :: l :: (tl ++ .amap eT :: r))[M]? = some (.amap eT):=fun n l r=>by
    rw [hM,List.getElem?_append_right (by simp),show (σ ++ aQ.box [ab.slice 7 []] :: aQ.box [ab.slice 7 (List.map HuM.v ps)] :: tl).length - σ.length = tl.length + 1 + 1 by simp,List.getElem?_cons_succ,List.getElem?_cons_succ]
    simp
  simp [s4]
  refine AW.loop (ι:=Nat) (fun j fr σ'=>∃ (l now:List HuM) (last:Int) (t:ag),fr = { v:=[(1, .int .i64 day),(4, .ptr σ.length 0),(8, .ptr (σ.length + 1) 0),(11, .int .i64 last),(12, .map M),(52, .slice 10 (cs.map ChM.v)),(53, .int .i64 cs.length),(54, .int .i64 j)],ds:=[] } ∧ σ' = σ ++ .box [.slice 7 (now.map HuM.v)] :: .box [.slice 7 (l.map HuM.v)] :: (tl ++ .amap eT :: t) ∧ j ≤ cs.length ∧ OkS l ∧ q = fT doE doL l (cs.drop j) j last ∧ fH day ps ps cs = fH day now l (cs.drop j)) (fun j=>cs.length - j) 0 ⟨ps,ps,0,[],by simp,by simp,by simp,hok,by simpa using hpp,by simp⟩ ?_
  rintro j fr σ' ⟨l,now,last,t,rfl,rfl,hj,hokl,hpj,hnj⟩
  refine (Nat.lt_or_ge j cs.length).elim (fun hlt=>?_) (fun hge=>?_)
  rotate_left
  · have hz:cs.drop j = []:=List.drop_eq_nil_of_le hge
    rw [hz] at hpj hnj
    simp only [fT] at hpj
    simp only [fH] at hnj
    refine aa _ ?_
    simp [show ¬ j < cs.length by omega,s4,hpj]
    rw [hnj]
  have hd:cs.drop j = cs[j] :: cs.drop (j + 1):=List.drop_eq_getElem_cons hlt
  obtain ⟨c,hcj⟩:∃ c,cs[j] = c:=⟨_,rfl⟩
  have hcn:=hcon c (hcj ▸ List.getElem_mem _)
  rw [hd,hcj] at hpj hnj
  simp only [fT] at hpj
  simp only [fH] at hnj
  have hvk:kT .i (ii' c.what) eT = true:=B6 c.what
  have hby:=aE last 40000 [c.day] (by simp [maxLen])
  refine (tf (aH last 40000 [c.day])).elim (fun hb=>?_) (fun hb=>?_)
  rotate_left
  · rw [if_pos hb] at hpj
    by_cases hw:c.what = 1 ∨ c.what = 2 ∨ c.what = 3
    · obtain ⟨f,g,hvg,_⟩:=Bq c hw hcn
      have hvg':eL (ii' c.what) eT = some (dL f g):=hvg
      refine aa _ ?_
      simp [hlt,hcj,ChM.v,ChM.cells,s4,kM,hvk,hvg',dL]
      refine af.aS dW (hby _) (congrArg ab.bool hb) ?_
      simp [s4,hpj]
      exact ⟨_,rfl⟩
    · have hvg':eL (ii' c.what) eT = none:=(pZ c hw).1
      refine aa _ ?_
      simp [hlt,hcj,ChM.v,ChM.cells,s4,kM,hvk,hvg']
      refine af.aS dW (hby _) (congrArg ab.bool hb) ?_
      simp [s4,hpj]
      exact ⟨_,rfl⟩
  rw [if_neg (by simp [hb])] at hpj
  by_cases hw:c.what = 1 ∨ c.what = 2 ∨ c.what = 3
  rotate_left
  · have hvg':eL (ii' c.what) eT = none:=(pZ c hw).1
    rw [if_pos (pZ c hw).2] at hpj
    refine aa _ ?_
    simp [hlt,hcj,ChM.v,ChM.cells,s4,kM,hvk,hvg']
    refine af.aS dW (hby _) (congrArg ab.bool hb) ?_
    simp [hlt,hcj,ChM.v,ChM.cells,s4,hvg',hpj]
    exact ⟨_,rfl⟩
  obtain ⟨f,g,hvg,hBf,hBg,hsf,hsg⟩:=Bq c hw hcn
  have hvg':eL (ii' c.what) eT = some (dL f g):=hvg
  simp only [ChM.v,ChM.cells] at hsf hsg
  refine (tf (fj c)).elim (fun hbr=>?_) (fun hbr=>?_)
  · rw [if_pos hbr] at hpj
    refine aa _ ?_
    simp [hlt,hcj,ChM.v,ChM.cells,s4,kM,hvk,hvg',dL]
    refine af.aS dW (hby _) (congrArg ab.bool hb) ?_
    simp [hlt,hcj,ChM.v,ChM.cells,s4,hvg',dL,hpj]
    refine af.aS hBf (hsf _) (congrArg ab.bool hbr) ?_
    simp [hlt,hcj,ChM.v,ChM.cells,s4,hvg',dL,hpj]
    exact ⟨_,rfl⟩
  rw [if_neg (by simp [hbr])] at hpj
  have hq:=hsg l hokl (σ.length + 1) (σ ++ aQ.box [ab.slice 7 (List.map HuM.v now)] :: aQ.box [ab.slice 7 (List.map HuM.v l)] :: (tl ++ aQ.amap eT :: (t ++ [aQ.dead,aQ.dead]))) (k8 _ _ _)
  have hss:=fI hokl c
  by_cases he:doE l c = 0
  rotate_left
  · rw [if_pos he] at hpj
    refine aa _ ?_
    simp [hlt,hcj,ChM.v,ChM.cells,s4,kM,hvk,hvg',dL]
    refine af.aS dW (hby _) (congrArg ab.bool hb) ?_
    simp [hlt,hcj,ChM.v,ChM.cells,s4,hvg',dL]
    refine af.aS hBf (hsf _) (congrArg ab.bool hbr) ?_
    simp [hlt,hcj,ChM.v,ChM.cells,s4,hvg',dL]
    refine af.spec hBg hq ?_
    rintro r σ' ⟨rfl,t3,rfl⟩
    refine ⟨_,rfl, ?_⟩
    simp [hlt,hcj,ChM.v,ChM.cells,s4,s8,hvg',dL,he,hpj]
    exact ⟨_,rfl⟩
  rw [if_neg (by simp [he])] at hpj
  obtain ⟨h3,h4⟩:=hss.2 (by rw [← hss.1]; exact he)
  rw [Hx he,he] at hq
  have hok2:OkS (doL l c):=by rw [h3]; exact h4
  have hwj:IntKind.i64.wrap ((j:Int) + 1) = ((j + 1:Nat):Int):=by rw [aj (by omega) (by simp only [maxLen] at hcl; omega)]; omega
  by_cases hdy:c.day ≤ day
  · rw [if_pos hdy] at hnj
    refine aa _ ?_
    simp [hlt,hcj,ChM.v,ChM.cells,s4,kM,hvk,hvg',dL]
    refine af.aS dW (hby _) (congrArg ab.bool hb) ?_
    simp [hlt,hcj,ChM.v,ChM.cells,s4,hvg',dL]
    refine af.aS hBf (hsf _) (congrArg ab.bool hbr) ?_
    simp [hlt,hcj,ChM.v,ChM.cells,s4,hvg',dL]
    refine af.spec hBg hq ?_
    rintro r σ' ⟨rfl,t3,rfl⟩
    refine ⟨_,rfl, ?_⟩
    simp [hlt,hcj,ChM.v,ChM.cells,s4,s8,hvg',dL,hdy]
    exact ⟨j + 1,by omega,doL l c,doL l c,c.day,⟨rfl,hwj⟩,⟨rfl,rfl⟩,by omega,hok2,hpj,hnj⟩
  · rw [if_neg hdy] at hnj
    refine aa _ ?_
    simp [hlt,hcj,ChM.v,ChM.cells,s4,kM,hvk,hvg',dL]
    refine af.aS dW (hby _) (congrArg ab.bool hb) ?_
    simp [hlt,hcj,ChM.v,ChM.cells,s4,hvg',dL]
    refine af.aS hBf (hsf _) (congrArg ab.bool hbr) ?_
    simp [hlt,hcj,ChM.v,ChM.cells,s4,hvg',dL]
    refine af.spec hBg hq ?_
    rintro r σ' ⟨rfl,t3,rfl⟩
    refine ⟨_,rfl, ?_⟩
    simp [hlt,hcj,ChM.v,ChM.cells,s4,s8,hvg',dL,hdy]
    exact ⟨j + 1,by omega,doL l c,now,c.day,⟨rfl,hwj⟩,⟨rfl,rfl⟩,by omega,hok2,hpj,hnj⟩
set_option maxRecDepth 100000
set_option maxHeartbeats 1000000
theorem et (ps:List HuM) (cs:List ChM) (hf:lJ ⟨ps,cs⟩) (σ:ag) :
    Spec Tryz.prog HE [.agg [.slice 7 (ps.map HuM.v), .slice 10 (cs.map ChM.v)]] σ fun r σ'=>r = .ret (dc (bT ⟨ps,cs⟩)) ∧ σ' = σ:=by
  refine Spec.aC (Oj (by simp) (aa _ ?_)) (by simp [aA,ab.pure,ah (f:=HuM.v) (fun p=>p.pure) ps,ah (f:=ChM.v) (fun c=>c.pure) cs]) (by simp [dc,ab.pure,aA]) σ
  simp [Jm]
  refine af.spec BY (gv ps cs hf 0 _) ?_
  rintro r σ' ⟨ns,rfl,_,tl,rfl⟩
  refine ⟨_,rfl, ?_⟩
  simp [dc]
def bJ (p:ar) (day:Int):Int:=if (bT p).2.2 ≠ 0 then (bT p).2.2 else if aH 0 40000 [day] = true then 7 else 0
theorem dG (ps:List HuM) (cs:List ChM) (hf:lJ ⟨ps,cs⟩) (day:Int) (σ:ag) :
    Spec Tryz.prog FB [.agg [.slice 7 (ps.map HuM.v), .slice 10 (cs.map ChM.v)], .int .i64 day] σ fun r σ'=>∃ ns:List HuM,r = .ret (.tup [.agg [.slice 7 (ns.map HuM.v)],ii' (bJ ⟨ps,cs⟩ day)]) ∧ (bJ ⟨ps,cs⟩ day = 0 → ns = fH day ps ps cs) ∧ ∃ tl,σ' = σ ++ tl:=by
  have hby:=aE 0 40000 [day] (by simp [maxLen])
  have hb:=gv ps cs hf day
  have ho:bJ ⟨ps,cs⟩ day = if (bT ⟨ps,cs⟩).2.2 ≠ 0 then (bT ⟨ps,cs⟩).2.2 else if aH 0 40000 [day] = true then 7 else 0:=rfl
  generalize bT ⟨ps,cs⟩ = q at *
  generalize bJ ⟨ps,cs⟩ day = o at *
  by_cases h1:q.2.2 = 0
  · rw [if_neg (by simp [h1])] at ho
    refine (tf (aH 0 40000 [day])).elim (fun h2=>?_) (fun h2=>?_)
    · rw [if_neg (by simp [h2])] at ho
      refine HA (by simp) (aa _ ?_)
      simp [EN]
      refine af.spec BY (hb _) ?_
      rintro r σ' ⟨ns,rfl,hns,tl,rfl⟩
      refine ⟨_,rfl, ?_⟩
      simp [h1]
      refine af.aS dW (hby _) (congrArg ab.bool h2) ?_
      simp [h1,ho]
      rw [hns h1]
    · rw [if_pos h2] at ho
      refine HA (by simp) (aa _ ?_)
      simp [EN]
      refine af.spec BY (hb _) ?_
      rintro r σ' ⟨ns,rfl,hns,tl,rfl⟩
      refine ⟨_,rfl, ?_⟩
      simp [h1]
      refine af.aS dW (hby _) (congrArg ab.bool h2) ?_
      simp [h1,ho]
      exact ⟨ns,rfl⟩
  · rw [if_pos h1] at ho
    refine HA (by simp) (aa _ ?_)
    simp [EN]
    refine af.spec BY (hb _) ?_
    rintro r σ' ⟨ns,rfl,hns,tl,rfl⟩
    refine ⟨_,rfl, ?_⟩
    simp [h1,ho]
    exact ⟨ns,rfl⟩
theorem ri (x:HuM) (hl:x.on.length * 16 ≤ 140737488355328) (σ:ag):Spec Tryz.prog HU [x.v] σ fun r σ'=>r = .ret x.v ∧ σ' = σ:=by
  refine Spec.aC (LG (by simp) (aa _ ?_)) (by simp [aA,x.pure]) x.pure σ
  simp [Ke,HuM.v,HuM.cells]
  refine af.spec Gp (lO x.on hl _) ?_
  rintro r σ' ⟨rfl,rfl⟩
  refine ⟨_,rfl, ?_⟩
  simp
  done
theorem eM {p:ar} {day:Int} (h:bJ p day = 0):OkP p:=by
  refine (cF p).1 ?_
  rw [← bA]
  unfold bJ at h
  by_cases h1:(bT p).2.2 = 0
  · exact h1
  · rw [if_pos h1] at h; exact h
def a7 (p:ar) (day:Int):List HuM:=if bJ p day = 0 then fH day p.ship p.ship p.chs else []
theorem bZ (ps:List HuM) (cs:List ChM) (hf:lJ ⟨ps,cs⟩) (day:Int) (σ:ag) :
    Spec Tryz.prog C6 [.agg [.slice 7 (ps.map HuM.v), .slice 10 (cs.map ChM.v)], .int .i64 day] σ fun r σ'=>r = .ret (.tup [.agg [.slice 7 ((a7 ⟨ps,cs⟩ day).map HuM.v)],ii' (bJ ⟨ps,cs⟩ day)]) ∧ σ' = σ:=by
  have hpu:=ah (f:=HuM.v) (fun p=>p.pure) (a7 ⟨ps,cs⟩ day)
  refine Spec.aC (Om (by simp) ?_) (by simp [aA,ab.pure,ah (f:=HuM.v) (fun p=>p.pure) ps,ah (f:=ChM.v) (fun c=>c.pure) cs]) (by simp [ab.pure,aA,hpu]) σ
  have ho:=dG ps cs hf day
  by_cases h1:bJ ⟨ps,cs⟩ day = 0
  rotate_left
  · have hs:a7 ⟨ps,cs⟩ day = []:=by unfold a7; rw [if_neg h1]
    rw [hs]
    refine aa _ ?_
    simp [HI]
    refine af.spec rq (ho _) ?_
    rintro r σ' ⟨ns,rfl,hns,tl,rfl⟩
    refine ⟨_,rfl, ?_⟩
    simp [h1]
  have hs:a7 ⟨ps,cs⟩ day = fH day ps ps cs:=by unfold a7; rw [if_pos h1]
  have hok:=eM h1
  have hon:OkS (fH day ps ps cs):=by
    rw [dF day cs ps 0 hok.ship hok.steps]; exact cM hok.ship hok.steps day
  rw [hs,h1]
  rw [h1] at ho
  refine aa _ ?_
  simp [HI]
  refine af.spec rq (ho _) ?_
  rintro r σ' ⟨ns,rfl,hns,tl,rfl⟩
  refine ⟨_,rfl, ?_⟩
  rw [← hns rfl] at hon ⊢
  have hnl:=hon.len
  simp
  refine ⟨by omega,by omega, ?_⟩
  obtain ⟨A,hA⟩:∃ A,A = tl ++ [aQ.dead]:=⟨_,rfl⟩
  have k1:∀ (o x:aQ) (t:ag),(o :: (A ++ x :: t))[A.length + 1]? = some x:=fun o x t=>by simp
  have k2:∀ (o x y:aQ) (t:ag),(o :: (A ++ x :: t)).set (A.length + 1) y = o :: (A ++ y :: t):=fun o x y t=>by simp
  have k3:∀ (x y:aQ) (t:ag),(A ++ x :: t).set A.length y = A ++ y :: t:=fun x y t=>by simp
  refine AW.loop (ι:=Nat) (fun i fr σ'=>∃ t,fr = { v:=[(4, .ptr 0 0),(8, .sref 7 (A.length + 1) 0 ns.length ns.length),(28, .slice 7 (ns.map HuM.v)),(29, .int .i64 ns.length),(30, .int .i64 i)],ds:=[] } ∧ σ' = .box [.slice 7 []] :: (A ++ .arr 7 ((ns.take i).map HuM.v ++ List.replicate (ns.length - i) uv) :: t) ∧ i ≤ ns.length) (fun i=>ns.length - i) 0 ⟨[],by simp [hA],by simp [hA,uv],by simp⟩ ?_
  rintro i fr σ' ⟨t,rfl,rfl,hi⟩
  refine (Nat.lt_or_ge i ns.length).elim (fun hlt=>?_) (fun hge=>?_)
  rotate_left
  · have htk:ns.take i = ns:=List.take_of_length_le (by omega)
    have hz:ns.length - i = 0:=by omega
    rw [htk,hz]
    refine aa _ ?_
    simp [show ¬ i < ns.length by omega,k2]
    exact List.take_of_length_le (by simp)
  obtain ⟨x,hx⟩:∃ x,ns[i] = x:=⟨_,rfl⟩
  have hxo:=fC hon x (hx ▸ List.getElem_mem _)
  have hfr:=ri x (by omega)
  simp only [HuM.v,HuM.cells] at hfr
  obtain ⟨ys,hys⟩:∃ ys,ys = (ns.take i).map HuM.v ++ List.replicate (ns.length - i) uv:=⟨_,rfl⟩
  have hyl:ys.length = ns.length:=by rw [hys]; simp; omega
  have hyi:ys[i]? = some uv:=by
    rw [hys,List.getElem?_append_right (by simp; omega)]
    simp [show i - min i ns.length = 0 by omega,List.getElem?_replicate]; omega
  have hye:∀ h:i < ys.length,ys[i] = uv:=fun h=>by
    rw [List.getElem?_eq_getElem h] at hyi; exact Option.some.inj hyi
  have hyn:(ns.take (i + 1)).map HuM.v ++ List.replicate (ns.length - (i + 1)) uv = ys.set i x.v:=by
    rw [hys,List.take_succ_eq_append_getElem hlt,hx,show ns.length - i = (ns.length - (i + 1)) + 1 by omega,List.replicate_succ,List.map_append,List.set_append_right _ _ (by simp; omega)]
    simp [show i - min i ns.length = 0 by omega]
  rw [← hys]
  refine aa _ ?_
  simp [hlt,hx,HuM.v,HuM.cells,k2]
  refine af.pure LW (hfr _) ?_
  simp [hlt,hx,HuM.v,HuM.cells,k2,hyl,hye,uv]
  rw [List.map_take] at hyn
  exact ⟨i + 1,by omega,by rw [aj (by omega) (by omega)]; omega,hyn.symm,by omega⟩
set_option maxRecDepth 100000
set_option maxHeartbeats 1000000
theorem wg:ByteArray.empty.toList = []:=by rw [toList_data]; rfl
theorem uK (c:ChM) (σ:ag):Spec Tryz.prog GF [c.v] σ fun r σ'=>r = .ret (.bool (fj c)) ∧ σ' = σ:=by
  refine Spec.aC (NV (by simp) (aa _ ?_)) (by simp [aA,c.pure]) rfl σ
  simp [IS,ChM.v,ChM.cells]
  have e:∀ n:ByteArray,n.toList = [] ↔ n = ByteArray.empty:=fun n=>by
    have h:=cm n ByteArray.empty
    rw [wg,beq_iff_eq] at h; exact h
  have hb:(decide (c.part.name = ByteArray.empty) && decide (c.part.kind = 0) && decide (c.part.first = 0) && decide (c.part.last = 0) && decide (c.part.on = []) && (decide (c.part.lo = 0) && decide (c.part.hi = 0))) = iv c.part:=by
    simp only [iv,Bool.and_assoc]
  simp only [e,hb,fj]
  refine ⟨?_, ?_, ?_, ?_⟩
  · intro h; exact ⟨h,fun h2=>⟨h,h2⟩⟩
  · intro h; exact (Classical.em (c.what = 1)).elim (fun h1=>.inr (h h1)) .inl
  · intro h h2
    refine ⟨(Classical.em (c.what = 1)).elim (fun h1=>.inr (h h1)) .inl, ?_⟩
    by_cases hw:c.what = 2
    · right
      have:=h2 hw
      by_cases a1:c.part.name = ByteArray.empty <;> by_cases a2:c.part.kind = 0 <;> by_cases a3:c.part.first = 0 <;> by_cases a4:c.part.last = 0 <;> by_cases a5:c.part.on = [] <;> by_cases a6:c.part.lo = 0 <;> simp_all
    · exact .inl hw
  · rfl
theorem se (l:List HuM) (hl:l.length ≤ maxLen) (hn:∀ x ∈ l,x.on.length ≤ maxLen) (n:ByteArray) (σ:ag):Spec Tryz.prog Eb [.slice 7 (l.map HuM.v), .str n] σ fun r σ'=>r = .ret (.bool (gq l n)) ∧ σ' = σ:=by
  refine Spec.aC (IH (by simp) (aa _ ?_)) (by simp [aA,ab.pure,ah (f:=HuM.v) (fun p=>p.pure) l]) rfl σ
  simp [FR]
  refine AW.loop (ι:=Nat) (fun i fr σ=>fr = { v:=[(0, .slice 7 (l.map HuM.v)),(1, .str n),(5, .int .i64 i)],ds:=[] } ∧ σ = [] ∧ i ≤ l.length ∧ gq l n = (l.drop i).any (fun x=>bF x n)) (fun i=>l.length - i) 0 (by simp [gq]) ?_
  rintro i fr σ ⟨rfl,rfl,hi,hs⟩
  refine (Nat.lt_or_ge i l.length).elim (fun hlt=>?_) (fun hge=>?_)
  rotate_left
  · rw [List.drop_eq_nil_of_le hge] at hs
    refine aa _ ?_
    simp [show ¬ i < l.length by omega,hs]
  rw [List.drop_eq_getElem_cons hlt,List.any_cons] at hs
  obtain ⟨x,hx⟩:∃ x,l[i] = x:=⟨_,rfl⟩
  rw [hx] at hs
  have hp:=dH x.on n (hn x (hx ▸ List.getElem_mem _))
  refine aa _ ?_
  simp [hlt,hx,HuM.v,HuM.cells]
  refine af.pure wF (hp _) ?_
  have hpl:0 ≤ dK x.on n 0 ↔ bF x n = true:=by
    rw [jl,bF]
    simp only [rC n]
  simp
  refine ⟨fun h=>?_,fun h=>⟨i + 1,by omega,by rw [aj (by omega) (by simp only [maxLen] at hl; omega)]; omega,by omega, ?_⟩⟩
  · rw [hs,hpl.1 h,Bool.true_or]
  · have:bF x n = false:=by
      cases e:bF x n
      · rfl
      · exact absurd (hpl.2 e) (by omega)
    rw [hs,this,Bool.false_or]
theorem kp (l:List HuM) (k:Nat) (hk:k < l.length) (hl:l.length ≤ 12) (σ:ag):Spec Tryz.prog DP [.slice 7 (l.map HuM.v), .int .i64 k] σ fun r σ'=>r = .ret (.slice 7 ((kh l k).map HuM.v)) ∧ σ' = σ:=by
  refine Spec.aC (Jz (by simp) (aa _ ?_)) (by simp [aA,ab.pure,ah (f:=HuM.v) (fun p=>p.pure) l]) (by simp [ab.pure,ah (f:=HuM.v) (fun p=>p.pure) (kh l k)]) σ
  have hf:=HuM.fits l
  have hwk:IntKind.i64.wrap ((k:Int) + 1) = (k:Int) + 1:=aj (by omega) (by omega)
  have hf1:Fits 7 ((l.map HuM.v).take k):=fun v hv=>hf v (List.mem_of_mem_take hv)
  have hf2:Fits 7 ((l.map HuM.v).drop (k + 1)):=fun v hv=>hf v (List.mem_of_mem_drop hv)
  have htk:List.take l.length (l.map HuM.v) = l.map HuM.v:=List.take_of_length_le (by simp)
  have h1:(k:Int) ≤ l.length ∧ (k:Int) + 1 ≤ l.length ∧ (0:Int) ≤ (k:Int) + 1:=by omega
  simp [FG,hf1,hf2,hwk,h1,htk]
  exact ⟨by omega,by omega,by simp [kh]⟩
set_option maxRecDepth 100000
set_option maxHeartbeats 1000000
def swZ (l:List HuM) (k:Nat) (x:HuM) (n:ByteArray) (i:Nat) (hi:i < l.length):HuM:={ (if i = k then x else l[i]) with on:=(if i = k then x else l[i]).on.map fun m=>if k < i ∧ m = n then x.name else m }
theorem Cm (l:List HuM) (k:Nat) (x:HuM) (n:ByteArray) (hk:k < l.length) (i:Nat) (hi:i < l.length):(eE l k x n)[i]? = some (swZ l k x n i hi):=by
  unfold eE swZ
  have hid:∀ y:HuM,{ y with on:=y.on.map fun m=>m } = y:=fun y=>by simp
  rcases Nat.lt_trichotomy i k with h | h | h
  · rw [List.getElem?_append_left (by simp; omega)]
    simp [h,show i ≠ k by omega,show ¬ k < i by omega]
    rw [List.getElem?_eq_getElem hi]
  · subst h
    rw [List.getElem?_append_right (by simp; omega)]
    simp [show min i l.length = i by omega]
  · rw [List.getElem?_append_right (by simp; omega)]
    simp only [List.length_take,show min k l.length = k by omega]
    obtain ⟨d,rfl⟩:∃ d,i = k + 1 + d:=⟨i - (k + 1),by omega⟩
    rw [show k + 1 + d - k = d + 1 by omega,List.getElem?_cons_succ,List.getElem?_map,List.getElem?_drop,List.getElem?_eq_getElem hi]
    simp only [Option.map_some,oM]
    simp [show k + 1 + d ≠ k by omega,show k < k + 1 + d by omega]
    intro a _
    unfold ren
    simp only [cm]
theorem Bz (l:List HuM) (k:Nat) (x:HuM) (n:ByteArray) (hk:k < l.length):(eE l k x n).length = l.length:=by
  simp [eE]; omega
theorem qv (l:List HuM) (k:Nat) (x:HuM) (hk:k < l.length) (hl:l.length ≤ 12) (hx:x.on.length ≤ 8796093022208) (hn:∀ y ∈ l,y.on.length ≤ 8796093022208) (σ:ag) :
    Spec Tryz.prog CH [.slice 7 (l.map HuM.v), .int .i64 k,x.v] σ fun r σ'=>r = .ret (.slice 7 ((eE l k x (l[k]).name).map HuM.v)) ∧ σ' = σ:=by
  refine Spec.aC (Kh (by simp) (aa _ ?_)) (by simp [aA,ab.pure,x.pure,ah (f:=HuM.v) (fun p=>p.pure) l]) (by simp [ab.pure,ah (f:=HuM.v) (fun p=>p.pure) (eE l k x (l[k]).name)]) σ
  simp [Gz,HuM.v,HuM.cells]
  obtain ⟨n,hnn⟩:∃ n,n = (l[k]).name:=⟨_,rfl⟩
  have hsl:=Bz l k x n hk
  refine AW.loop (ι:=Nat) (fun i fr σ'=>∃ tl,fr = { v:=[(0, .slice 7 (l.map HuM.v)),(1, .int .i64 k),(5, .pval x.v),(7, .oslice 7 (((eE l k x n).take i).map HuM.v) 0 i),(8, .int .i64 i)],ds:=[] } ∧ σ' = .spare 7 i :: tl ∧ i ≤ l.length) (fun i=>l.length - i) 0 ⟨[],by simp [HuM.v,HuM.cells],rfl,by simp⟩ ?_
  rintro i fr σ' ⟨tl,rfl,rfl,hi⟩
  refine (Nat.lt_or_ge i l.length).elim (fun hlt=>?_) (fun hge=>?_)
  rotate_left
  · refine aa _ ?_
    simp [show ¬ i < l.length by omega]
    rw [← hnn]
    exact List.take_of_length_le (by simp; omega)
  have hz:=Cm l k x n hk i hlt
  obtain ⟨w,hw⟩:∃ w,w = l[i]:=⟨_,rfl⟩
  obtain ⟨q,hq⟩:∃ q,q = l[k]:=⟨_,rfl⟩
  have hlk:l[k]? = some q:=by rw [hq]; exact List.getElem?_eq_getElem hk
  have hlg:l[k] = q:=hq.symm
  have hqn:q.name = n:=by rw [hq,hnn]
  have b1:∀ (o a b:aQ),(o :: (tl ++ [a,b]))[tl.length + 1]? = some a:=fun o a b=>by simp
  have b2:∀ (o a b:aQ),(o :: (tl ++ [a,b]))[tl.length + 1 + 1]? = some b:=fun o a b=>by simp
  have c1:∀ (o a b z:aQ),(o :: (tl ++ [a,b])).set (tl.length + 1) z = o :: (tl ++ [z,b]):=fun o a b z=>by simp
  have c2:∀ (o a b z:aQ),(o :: (tl ++ [a,b])).set (tl.length + 1 + 1) z = o :: (tl ++ [a,z]):=fun o a b z=>by simp
  by_cases hik:i = k
  · have heq:((i:Int) = (k:Int)) = True:=eq_true (by omega)
    have hgt:((k:Int) < (i:Int)) = False:=eq_false (by omega)
    have hgs:(eE l k x n)[i]? = some { x with on:=x.on.map (fun m=>m) }:=by rw [hz]; simp [swZ,hik]
    have hye:x.on.length ≤ 8796093022208:=by exact hx
    refine aa _ ?_
    simp [hlt, ← hw,heq,hlg,hqn,HuM.v,HuM.cells]
    refine AW.loop (ι:=Nat) (fun j fr σ'=>fr = { v:=[(0, .slice 7 (l.map HuM.v)),(1, .int .i64 k),(5, .pval x.v),(7, .oslice 7 (((eE l k x n).take i).map HuM.v) 0 i),(8, .int .i64 i),(9, .ptr (tl.length + 1) 0),(10, .oslice 1 ((x.on.map (fun m=>m)).take j |>.map .str) (tl.length + 1 + 1) j),(11, .int .i64 j)],ds:=[] } ∧ σ' = .spare 7 i :: (tl ++ [.box x.cells, .spare 1 j]) ∧ j ≤ x.on.length) (fun j=>x.on.length - j) 0 (by simp [HuM.v,HuM.cells]) ?_
    rintro j fr σ' ⟨rfl,rfl,hj⟩
    refine (Nat.lt_or_ge j x.on.length).elim (fun hjl=>?_) (fun hjg=>?_)
    rotate_left
    · have htk:(x.on.map (fun m=>m)).take j = x.on.map (fun m=>m):=List.take_of_length_le (by simp; omega)
      rw [htk]
      refine aa _ ?_
      simp [show ¬ j < x.on.length by omega,c1,c2,hgt,hk,hlg,hqn,HuM.v,HuM.cells]
      have htk2:List.take (i + 1) (List.map HuM.v (eE l k x n)) = List.take i (List.map HuM.v (eE l k x n)) ++ [HuM.v { x with on:=x.on.map (fun m=>m) }]:=by
        rw [List.take_add_one,List.getElem?_map,hgs]; rfl
      refine ⟨fun v hv=>by simp at hv; subst hv; exact ⟨rfl,rfl⟩,by omega,i + 1,by omega,⟨⟨?_,rfl⟩,by rw [aj (by omega) (by omega)]; omega⟩,rfl,by omega⟩
      rw [htk2]; simp [HuM.v,HuM.cells]
    obtain ⟨u,hu⟩:∃ u,u = x.on[j]:=⟨_,rfl⟩
    refine aa _ ?_
    simp [hjl, ← hu,c1,c2,hgt,hk,hlg,hqn,HuM.v,HuM.cells]
    refine ⟨fun v hv=>by simp at hv; subst hv; exact ⟨⟨rfl,rfl⟩,rfl⟩,by omega,j + 1,by omega,⟨⟨?_,rfl⟩,by rw [aj (by omega) (by omega)]; omega⟩,rfl,by omega⟩
    rw [List.take_add_one,List.getElem?_map,List.getElem?_eq_getElem hjl, ← hu]
    rfl
  by_cases hki:k < i
  · have heq:((i:Int) = (k:Int)) = False:=eq_false (by omega)
    have hgt:((k:Int) < (i:Int)) = True:=eq_true (by omega)
    have hgs:(eE l k x n)[i]? = some { w with on:=w.on.map (fun m=>if m = n then x.name else m) }:=by rw [hz]; simp [swZ,hik,hki, ← hw]
    have hye:w.on.length ≤ 8796093022208:=by rw [hw]; exact hn _ (List.getElem_mem _)
    refine aa _ ?_
    simp [hlt, ← hw,heq,hlg,hqn,HuM.v,HuM.cells]
    refine AW.loop (ι:=Nat) (fun j fr σ'=>fr = { v:=[(0, .slice 7 (l.map HuM.v)),(1, .int .i64 k),(5, .pval x.v),(7, .oslice 7 (((eE l k x n).take i).map HuM.v) 0 i),(8, .int .i64 i),(9, .ptr (tl.length + 1) 0),(10, .oslice 1 ((w.on.map (fun m=>if m = n then x.name else m)).take j |>.map .str) (tl.length + 1 + 1) j),(11, .int .i64 j)],ds:=[] } ∧ σ' = .spare 7 i :: (tl ++ [.box w.cells, .spare 1 j]) ∧ j ≤ w.on.length) (fun j=>w.on.length - j) 0 (by simp [HuM.v,HuM.cells]) ?_
    rintro j fr σ' ⟨rfl,rfl,hj⟩
    refine (Nat.lt_or_ge j w.on.length).elim (fun hjl=>?_) (fun hjg=>?_)
    rotate_left
    · have htk:(w.on.map (fun m=>if m = n then x.name else m)).take j = w.on.map (fun m=>if m = n then x.name else m):=List.take_of_length_le (by simp; omega)
      rw [htk]
      refine aa _ ?_
      simp [show ¬ j < w.on.length by omega,c1,hgt,hk,hlg,hqn,HuM.v,HuM.cells]
      have htk2:List.take (i + 1) (List.map HuM.v (eE l k x n)) = List.take i (List.map HuM.v (eE l k x n)) ++ [HuM.v { w with on:=w.on.map (fun m=>if m = n then x.name else m) }]:=by
        rw [List.take_add_one,List.getElem?_map,hgs]; rfl
      refine ⟨fun v hv=>by simp at hv; subst hv; exact ⟨rfl,rfl⟩,by omega,i + 1,by omega,⟨⟨?_,rfl⟩,by rw [aj (by omega) (by omega)]; omega⟩,rfl,by omega⟩
      rw [htk2]; simp [HuM.v,HuM.cells]
    obtain ⟨u,hu⟩:∃ u,u = w.on[j]:=⟨_,rfl⟩
    refine (tf (u.toList == n.toList)).elim (fun hun=>?_) (fun hun=>?_)
    · refine aa _ ?_
      simp [hjl, ← hu,hun,c1,c2,hgt,hk,hlg,hqn,HuM.v,HuM.cells]
      refine ⟨fun v hv=>by simp at hv; subst hv; exact ⟨⟨rfl,rfl⟩,rfl⟩,by omega,j + 1,by omega,⟨⟨?_,rfl⟩,by rw [aj (by omega) (by omega)]; omega⟩,rfl,by omega⟩
      rw [List.take_add_one,List.getElem?_map,List.getElem?_eq_getElem hjl, ← hu]
      simp [show u ≠ n from fun e=>by rw [← cm] at e; rw [e] at hun; exact absurd hun (by simp)]
    · refine aa _ ?_
      simp [hjl, ← hu,hun,c1,c2,hgt,hk,hlg,hqn,HuM.v,HuM.cells]
      refine ⟨fun v hv=>by simp at hv; subst hv; exact ⟨⟨rfl,rfl⟩,rfl⟩,by omega,j + 1,by omega,⟨⟨?_,rfl⟩,by rw [aj (by omega) (by omega)]; omega⟩,rfl,by omega⟩
      rw [List.take_add_one,List.getElem?_map,List.getElem?_eq_getElem hjl, ← hu]
      simp [(cm u n).1 hun]
  · have heq:((i:Int) = (k:Int)) = False:=eq_false (by omega)
    have hgt:((k:Int) < (i:Int)) = False:=eq_false (by omega)
    have hgs:(eE l k x n)[i]? = some { w with on:=w.on.map (fun m=>m) }:=by rw [hz]; simp [swZ,hik,hki, ← hw]
    have hye:w.on.length ≤ 8796093022208:=by rw [hw]; exact hn _ (List.getElem_mem _)
    refine aa _ ?_
    simp [hlt, ← hw,heq,hlg,hqn,HuM.v,HuM.cells]
    refine AW.loop (ι:=Nat) (fun j fr σ'=>fr = { v:=[(0, .slice 7 (l.map HuM.v)),(1, .int .i64 k),(5, .pval x.v),(7, .oslice 7 (((eE l k x n).take i).map HuM.v) 0 i),(8, .int .i64 i),(9, .ptr (tl.length + 1) 0),(10, .oslice 1 ((w.on.map (fun m=>m)).take j |>.map .str) (tl.length + 1 + 1) j),(11, .int .i64 j)],ds:=[] } ∧ σ' = .spare 7 i :: (tl ++ [.box w.cells, .spare 1 j]) ∧ j ≤ w.on.length) (fun j=>w.on.length - j) 0 (by simp [HuM.v,HuM.cells]) ?_
    rintro j fr σ' ⟨rfl,rfl,hj⟩
    refine (Nat.lt_or_ge j w.on.length).elim (fun hjl=>?_) (fun hjg=>?_)
    rotate_left
    · have htk:(w.on.map (fun m=>m)).take j = w.on.map (fun m=>m):=List.take_of_length_le (by simp; omega)
      rw [htk]
      refine aa _ ?_
      simp [show ¬ j < w.on.length by omega,c1,c2,hgt,hk,hlg,hqn,HuM.v,HuM.cells]
      have htk2:List.take (i + 1) (List.map HuM.v (eE l k x n)) = List.take i (List.map HuM.v (eE l k x n)) ++ [HuM.v { w with on:=w.on.map (fun m=>m) }]:=by
        rw [List.take_add_one,List.getElem?_map,hgs]; rfl
      refine ⟨fun v hv=>by simp at hv; subst hv; exact ⟨rfl,rfl⟩,by omega,i + 1,by omega,⟨⟨?_,rfl⟩,by rw [aj (by omega) (by omega)]; omega⟩,rfl,by omega⟩
      rw [htk2]; simp [HuM.v,HuM.cells]
    obtain ⟨u,hu⟩:∃ u,u = w.on[j]:=⟨_,rfl⟩
    refine aa _ ?_
    simp [hjl, ← hu,c1,c2,hgt,hk,hlg,hqn,HuM.v,HuM.cells]
    refine ⟨fun v hv=>by simp at hv; subst hv; exact ⟨⟨rfl,rfl⟩,rfl⟩,by omega,j + 1,by omega,⟨⟨?_,rfl⟩,by rw [aj (by omega) (by omega)]; omega⟩,rfl,by omega⟩
    rw [List.take_add_one,List.getElem?_map,List.getElem?_eq_getElem hjl, ← hu]
    rfl
set_option maxRecDepth 100000
set_option maxHeartbeats 1000000
theorem ky (l:List HuM) (c:ChM) (hok:OkS l) (hx:c.part.on.length ≤ 8796093022208) (σ:ag) :
    Spec Tryz.prog GK [.slice 7 (l.map HuM.v),c.v] σ fun r σ'=>r = .ret (.tup [.slice 7 ((aZ l c).1.map HuM.v),ii' (aZ l c).2]) ∧ σ' = σ:=by
  have hl:=hok.len
  have hon:=fC hok
  refine Spec.aC (Nw (by simp) ?_) (by simp [aA,ab.pure,c.pure,ah (f:=HuM.v) (fun p=>p.pure) l]) (by simp [ab.pure,aA,ah (f:=HuM.v) (fun p=>p.pure) (aZ l c).1]) σ
  have hmx:c.part.on.length ≤ maxLen:=by simp only [maxLen]; omega
  by_cases h1:c.what = 1
  · by_cases h2:12 ≤ l.length
    · have e:aZ l c = ([],3):=by unfold aZ; rw [if_pos h1,if_pos h2]
      rw [e]
      refine aa _ ?_
      simp [zo,ChM.v,ChM.cells,h1]
      omega
    · have e:aZ l c = (l ++ [c.part],bn aP c.part l l):=by unfold aZ; rw [if_pos h1,if_neg h2]
      rw [e]
      have hp:=j4 c.part l l (by simp only [maxLen]; omega) (by simp only [maxLen]; omega) hmx
      have hf:=HuM.fits l
      refine aa _ ?_
      simp [zo,ChM.v,ChM.cells,h1,hf,show ¬ (12:Int) ≤ l.length by omega]
      have hf1:Fits 7 [c.part.v]:=HuM.fits [c.part]
      have hpu:=ah (f:=HuM.v) (fun p=>p.pure) l
      simp only [HuM.v,HuM.cells] at hf1 hp
      refine ⟨[.slice 7 [c.part.v]], ?_⟩
      simp [HuM.v,HuM.cells,hf1]
      refine ⟨by omega,by omega,[ii' (bn aP c.part l l)],af.pure EO (hp _) ?_, ?_⟩
      · simp
      · simp
  have hfd:=bW l c.name (by simp only [maxLen]; omega)
  by_cases h3:findF l c.name < 0
  · have e:aZ l c = ([],4):=by unfold aZ; rw [if_neg h1,if_pos h3]
    rw [e]
    refine aa _ ?_
    simp [zo,ChM.v,ChM.cells,h1]
    refine af.pure iQ (hfd _) ?_
    simp [h3]
    done
  obtain ⟨k,hk,ek,hkn,hka⟩:=bC h3
  have hk0:¬ (k:Int) < 0:=by omega
  rw [ek] at hfd
  by_cases h4:c.what = 2
  · have hsd:=se l (by simp only [maxLen]; omega) (fun x hx=>by have:=hon x hx; simp only [maxLen]; omega) c.name
    rcases tf (gq l c.name) with h5 | h5
    · have e:aZ l c = (kh l k,0):=by unfold aZ; rw [if_neg h1,if_neg h3,if_pos h4,if_neg (by simp [h5]),ek]; rfl
      rw [e]
      refine aa _ ?_
      simp [zo,ChM.v,ChM.cells,h4]
      refine af.pure iQ (hfd _) ?_
      simp [hk0]
      refine af.aS F9 (hsd _) (congrArg ab.bool h5) ?_
      simp
      refine af.pure FY (kp l k hk hl _) ?_
      simp
      done
    · have e:aZ l c = ([],9):=by unfold aZ; rw [if_neg h1,if_neg h3,if_pos h4,if_pos h5]
      rw [e]
      refine aa _ ?_
      simp [zo,ChM.v,ChM.cells,h4]
      refine af.pure iQ (hfd _) ?_
      simp [hk0]
      refine af.aS F9 (hsd _) (congrArg ab.bool h5) ?_
      simp
      done
  obtain ⟨e0,he0⟩:∃ e0,e0 = bn aP c.part (l.take k) (kh l k):=⟨_,rfl⟩
  obtain ⟨eF,heF⟩:∃ eF,eF = if e0 ≠ 0 then e0 else if (l.drop (k + 1)).any (fun y=>bF y c.name && !aP y c.part) then 9 else 0:=⟨_,rfl⟩
  have e:aZ l c = (eE l k c.part (l[k]).name,eF):=by
    rw [heF]; unfold aZ; rw [if_neg h1,if_neg h3,if_neg h4,ek,hka,he0]; rfl
  rw [e]
  have hp:=j4 c.part (l.take k) (kh l k) (by simp only [maxLen,List.length_take]; omega) (by simp [kh,maxLen]; omega) hmx
  rw [← he0,List.map_take] at hp
  simp only [HuM.v,HuM.cells] at hp
  have hwt:=kp l k hk hl
  have hwk:IntKind.i64.wrap ((k:Int) + 1) = (k:Int) + 1:=aj (by omega) (by omega)
  have hkl:(k:Int) ≤ (l.length:Int):=by omega
  have hsw:=qv l k c.part hk hl hx (fun y hy=>by have:=hon y hy; omega)
  simp only [HuM.v,HuM.cells] at hsw
  refine aa _ ?_
  simp [zo,ChM.v,ChM.cells,h1]
  refine af.pure iQ (hfd _) ?_
  simp [hk0,h4,hkl,hwk]
  refine ⟨.slice 7 ((kh l k).map HuM.v),fun σ'=>aB.func (first:=[]) (caps:=[]) FY (hwt σ'),ii' e0,⟨by simp,fun σ'=>aB.func (first:=[]) (caps:=[]) EO (hp σ')⟩,by simp, ?_⟩
  simp
  refine AW.loop (ι:=Nat) (fun d fr σ=>∃ e1,fr = { v:=[(0, .slice 7 (l.map HuM.v)),(3, .pval c.v),(6, .int .i64 k),(7,ii' e1),(8, .int .i64 ((k + 1 + d:Nat):Int))],ds:=[] } ∧ σ = [] ∧ d ≤ l.length - (k + 1) ∧ e1 = if e0 ≠ 0 then e0 else if ((l.drop (k + 1)).take d).any (fun y=>bF y c.name && !aP y c.part) then 9 else 0) (fun d=>l.length - (k + 1) - d) 0 ⟨e0,by simp [ChM.v,ChM.cells],rfl,Nat.zero_le _,by by_cases h:e0 = 0 <;> simp [h]⟩ ?_
  rintro d fr σ' ⟨e1,rfl,rfl,hd,he1⟩
  by_cases hex:e1 = 0 ∧ d < l.length - (k + 1)
  rotate_left
  · have hfin:e1 = if e0 ≠ 0 then e0 else if (l.drop (k + 1)).any (fun y=>bF y c.name && !aP y c.part) then 9 else 0:=by
      by_cases h0:e0 ≠ 0
      · rw [if_pos h0] at he1 ⊢; exact he1
      rw [if_neg h0] at he1 ⊢
      by_cases hdl:d < l.length - (k + 1)
      · have h1:e1 ≠ 0:=fun h=>hex ⟨h,hdl⟩
        by_cases ha:((l.drop (k + 1)).take d).any (fun y=>bF y c.name && !aP y c.part) = true
        · rw [if_pos ha] at he1
          obtain ⟨y,hy,hyp⟩:=List.any_eq_true.1 ha
          rw [if_pos (List.any_eq_true.2 ⟨y,List.mem_of_mem_take hy,hyp⟩)]; exact he1
        · rw [if_neg ha] at he1; exact absurd he1 h1
      · rw [List.take_of_length_le (by simp; omega)] at he1; exact he1
    rw [← heF] at hfin
    refine aa _ ?_
    by_cases hlt:k + 1 + d < l.length
    · have h1:¬ e1 = 0:=fun h=>hex ⟨h,by omega⟩
      simp [ChM.v,ChM.cells,show ((k:Int) + 1 + d < l.length) = True from eq_true (by omega),h1]
      refine af.pure Gc (hsw _) ?_
      simp [hfin]
    · simp [ChM.v,ChM.cells,show ((k:Int) + 1 + d < l.length) = False from eq_false (by omega)]
      refine af.pure Gc (hsw _) ?_
      simp [hfin]
  obtain ⟨h1,hdl⟩:=hex
  have hlt:k + 1 + d < l.length:=by omega
  obtain ⟨y,hy⟩:∃ y,y = l[k + 1 + d]:=⟨_,rfl⟩
  have hly:l[k + 1 + d]? = some y:=by rw [List.getElem?_eq_getElem hlt,hy]
  have hyo:y.on.length ≤ maxLen:=by have:=hon y (hy ▸ List.getElem_mem _); simp only [maxLen]; omega
  have hpl:=dH y.on c.name hyo
  have hmt:=np y c.part
  simp only [HuM.v,HuM.cells] at hmt
  have hwi:IntKind.i64.wrap ((k:Int) + 1 + d + 1) = (k:Int) + 1 + d + 1:=aj (by omega) (by omega)
  have hpo:0 ≤ dK y.on c.name 0 ↔ bF y c.name = true:=by
    rw [jl,bF]
    simp only [rC c.name]
  have hany:((l.drop (k + 1)).take (d + 1)).any (fun y=>bF y c.name && !aP y c.part) = (((l.drop (k + 1)).take d).any (fun y=>bF y c.name && !aP y c.part) || (bF y c.name && !aP y c.part)):=by
    rw [List.take_succ_eq_append_getElem (by simp; omega),List.any_append]
    simp [hy]
  have hi1:((k:Int) + 1 + d < l.length) = True:=eq_true (by omega)
  have htn:((k:Int) + 1 + d).toNat = k + 1 + d:=by omega
  have hin:(0:Int) ≤ (k:Int) + 1 + d:=by omega
  have hlg:l[k + 1 + d] = y:=hy.symm
  obtain ⟨pl,hple⟩:∃ pl,pl = dK y.on c.name 0:=⟨_,rfl⟩
  rw [← hple] at hpl hpo
  rw [h1] at he1
  have h00:e0 = 0:=by
    by_cases h:e0 = 0
    · exact h
    · rw [if_pos h] at he1; exact absurd he1.symm h
  have hta:((l.drop (k + 1)).take d).any (fun y=>bF y c.name && !aP y c.part) = false:=by
    rw [h00] at he1
    cases ha:((l.drop (k + 1)).take d).any (fun y=>bF y c.name && !aP y c.part)
    · rfl
    · rw [ha] at he1; simp at he1
  rw [hta,Bool.false_or] at hany
  have hdn:∀ e2,(e2 = if bF y c.name = true ∧ aP y c.part = false then 9 else 0) → e2 = if e0 ≠ 0 then e0 else if ((l.drop (k + 1)).take (d + 1)).any (fun y=>bF y c.name && !aP y c.part) then 9 else 0:=fun e2 h=>by
    rw [hany,h00,h]; simp
  rcases tf (bF y c.name) with hoh | hoh
  · have hneg:(0 ≤ pl) = False:=eq_false fun h=>by rw [hpo,hoh] at h; exact absurd h (by simp)
    have hd2:=hdn 0 (by simp [hoh])
    refine aa _ ?_
    simp [ChM.v,ChM.cells,hi1,h1,htn,hin,hlt,hlg,HuM.v,HuM.cells,hwi]
    refine ⟨.int .i64 pl,fun σ'=>aB.func (first:=[]) (caps:=[]) wF (hpl σ'), ?_⟩
    simp [hneg]
    refine ⟨.bool false, ?_⟩
    simp
    refine ⟨d + 1,by omega,⟨?_,by omega⟩,by omega⟩
    simpa using hd2
  have hpos:(0 ≤ pl) = True:=eq_true (hpo.2 hoh)
  rcases tf (aP y c.part) with hm | hm
  · have hd2:=hdn 9 (by simp [hoh,hm])
    have hmt2:=hmt
    rw [show decide (max y.first c.part.first ≤ min y.last c.part.last) = false from hm] at hmt2
    refine aa _ ?_
    simp [ChM.v,ChM.cells,hi1,h1,htn,hin,hlt,hlg,HuM.v,HuM.cells,hwi]
    refine ⟨.int .i64 pl,fun σ'=>aB.func (first:=[]) (caps:=[]) wF (hpl σ'), ?_⟩
    simp [hpos]
    refine ⟨.bool false,fun σ'=>aB.func (first:=[]) (caps:=[]) Hu (hmt2 σ'), ?_⟩
    simp
    refine ⟨d + 1,by omega,⟨?_,by omega⟩,by omega⟩
    simpa using hd2
  · have hd2:=hdn 0 (by simp [hoh,hm])
    have hmt2:=hmt
    rw [show decide (max y.first c.part.first ≤ min y.last c.part.last) = true from hm] at hmt2
    refine aa _ ?_
    simp [ChM.v,ChM.cells,hi1,h1,htn,hin,hlt,hlg,HuM.v,HuM.cells,hwi]
    refine ⟨.int .i64 pl,fun σ'=>aB.func (first:=[]) (caps:=[]) wF (hpl σ'), ?_⟩
    simp [hpos]
    refine ⟨.bool true,fun σ'=>aB.func (first:=[]) (caps:=[]) Hu (hmt2 σ'), ?_⟩
    simp
    refine ⟨d + 1,by omega,⟨?_,by omega⟩,by omega⟩
    simpa using hd2
set_option maxRecDepth 100000
set_option maxHeartbeats 1000000
structure gO (p:ar):Prop extends lJ p where
  room:∀ c ∈ p.chs,c.part.on.length ≤ 8796093022208
theorem fg (ps:List HuM) (cs:List ChM) (hf:gO ⟨ps,cs⟩) (σ:ag) :
    Spec Tryz.prog HL [.agg [.slice 7 (ps.map HuM.v), .slice 10 (cs.map ChM.v)]] σ fun r σ'=>r = .ret (dc (bL ⟨ps,cs⟩)) ∧ σ' = σ:=by
  obtain ⟨⟨hl,hon,hcl,hcon⟩,hroom⟩:=hf
  dsimp only at hl hon hcl hcon hroom
  have hpp:bL ⟨ps,cs⟩ = if (il aP ps).2.2 ≠ 0 then il aP ps else if 8 < cs.length then (2,0,3) else fT eH ic ps cs 0 0:=rfl
  generalize bL ⟨ps,cs⟩ = q at *
  refine Spec.aC (Lt (by simp) (aa _ ?_)) (by simp [ab.pure,aA,ah (f:=HuM.v) (fun p=>p.pure) ps,ah (f:=ChM.v) (fun c=>c.pure) cs]) (by simp [dc,ab.pure,aA]) σ
  simp [JG]
  refine ⟨fun h=>?_,fun h=>?_⟩
  · have h0:il aP ps = (1,0,3):=by rw [il,if_pos (by omega)]
    rw [h0] at hpp
    rw [hpp]; simp [dc]
  have hc:il aP ps = lN aP ps ps 0:=by rw [il,if_neg (by omega)]
  refine AW.loop (ι:=Nat) (fun i fr σ=>fr = { v:=[(1, .pval (.agg [.slice 7 (ps.map HuM.v), .slice 10 (cs.map ChM.v)])),(5, .slice 7 (ps.map HuM.v)),(6, .int .i64 i)],ds:=[] } ∧ σ = [] ∧ i ≤ ps.length ∧ il aP ps = lN aP ps (ps.drop i) i) (fun i=>ps.length - i) 0 (by simp [hc]) ?_
  rintro i fr σ ⟨rfl,rfl,hi,hpi⟩
  refine (Nat.lt_or_ge i ps.length).elim (fun hlt=>?_) (fun hge=>?_)
  · have hd:ps.drop i = ps[i] :: ps.drop (i + 1):=List.drop_eq_getElem_cons hlt
    rw [hd] at hpi
    simp only [lN] at hpi
    obtain ⟨x,hx⟩:∃ x,ps[i] = x:=⟨_,rfl⟩
    have hxo:=hon x (hx ▸ List.getElem_mem _)
    rw [hx] at hpi
    have hq:=fun σ'=>j4 x (ps.take i) (ps.take i) (by simp; omega) (by simp; omega) hxo σ'
    rw [List.map_take] at hq
    by_cases h0:bn aP x (ps.take i) (ps.take i) = 0
    · rw [if_neg (by simp [h0])] at hpi
      refine aa _ ?_
      simp [hlt,hx,HuM.v,HuM.cells]
      refine ⟨by omega,ii' (bn aP x (ps.take i) (ps.take i)),fun σ'=>aB.func EO (hq σ'), ?_⟩
      simp [h0]
      exact ⟨i + 1,by omega,aj (by omega) (by simp only [maxLen] at hl; omega),by omega,hpi⟩
    · rw [if_pos h0] at hpi
      rw [hpi,if_pos h0] at hpp
      refine aa _ ?_
      simp [hlt,hx,HuM.v,HuM.cells]
      refine ⟨by omega,ii' (bn aP x (ps.take i) (ps.take i)),fun σ'=>aB.func EO (hq σ'), ?_⟩
      simp [h0,hpp,dc]
  have hz:ps.drop i = []:=List.drop_eq_nil_of_le hge
  rw [hz] at hpi
  have hok:OkS ps:=(mI ps).1 (by rw [hpi]; rfl)
  rw [hpi,if_neg (by simp [lN])] at hpp
  by_cases h8:8 < cs.length
  · rw [if_pos h8] at hpp
    refine aa _ ?_
    simp [show ¬ i < ps.length by omega,hpp,dc]
    intro h; omega
  rw [if_neg h8] at hpp
  refine aa _ ?_
  simp [show ¬ i < ps.length by omega]
  refine ⟨fun h=>absurd h (by omega),fun _=>?_⟩
  refine AW.loop (ι:=Nat) (fun j fr σ'=>∃ (l:List HuM) (last:Int),fr = { v:=[(1, .pval (.agg [.slice 7 (ps.map HuM.v), .slice 10 (cs.map ChM.v)])),(5, .slice 7 (l.map HuM.v)),(8, .int .i64 last),(9, .int .i64 j)],ds:=[] } ∧ j ≤ cs.length ∧ OkS l ∧ q = fT eH ic l (cs.drop j) j last) (fun j=>cs.length - j) 0 ⟨ps,0,by simp,by simp,hok,by simpa using hpp⟩ ?_
  rintro j fr σ' ⟨l,last,rfl,hj,hokl,hpj⟩
  refine (Nat.lt_or_ge j cs.length).elim (fun hlt=>?_) (fun hge=>?_)
  rotate_left
  · have hz:cs.drop j = []:=List.drop_eq_nil_of_le hge
    rw [hz] at hpj
    simp only [fT] at hpj
    refine aa _ ?_
    simp [show ¬ j < cs.length by omega,hpj,dc]
  have hd:cs.drop j = cs[j] :: cs.drop (j + 1):=List.drop_eq_getElem_cons hlt
  obtain ⟨c,hcj⟩:∃ c,cs[j] = c:=⟨_,rfl⟩
  have hcr:=hroom c (hcj ▸ List.getElem_mem _)
  rw [hd,hcj] at hpj
  simp only [fT] at hpj
  have hwi:=aJ c.day last 40000
  have hbr:=uK c
  have hch:=ky l c hokl hcr
  simp only [ChM.v,ChM.cells] at hbr hch
  have hb1:bu c.day last 40000 = !(aH last 40000 [c.day]):=by
    rw [Bool.eq_iff_iff]
    simp [aH,n4,bu]
  rcases tf (aH last 40000 [c.day]) with hb | hb
  rotate_left
  · rw [if_pos hb] at hpj
    rw [hb] at hb1
    refine aa _ ?_
    simp [hlt,hcj,ChM.v,ChM.cells]
    refine af.aS eQ (hwi _) (congrArg ab.bool hb1) ?_
    simp [hlt,hcj,ChM.v,ChM.cells,hpj,dc]
  rw [if_neg (by simp [hb])] at hpj
  rw [hb] at hb1
  rcases tf (fj c) with hbf | hbf
  · rw [if_pos hbf] at hpj
    refine aa _ ?_
    simp [hlt,hcj,ChM.v,ChM.cells]
    refine af.aS eQ (hwi _) (congrArg ab.bool hb1) ?_
    simp [hlt,hcj,ChM.v,ChM.cells]
    refine af.aS HK (hbr _) (congrArg ab.bool hbf) ?_
    simp [hlt,hcj,ChM.v,ChM.cells,hpj,dc]
  rw [if_neg (by simp [hbf])] at hpj
  have hss:=fI hokl c
  have hE:eH l c = (aZ l c).2:=rfl
  have hL:ic l c = (aZ l c).1:=rfl
  rw [hE,hL] at hpj
  by_cases he:(aZ l c).2 = 0
  rotate_left
  · rw [if_pos he] at hpj
    refine aa _ ?_
    simp [hlt,hcj,ChM.v,ChM.cells]
    refine af.aS eQ (hwi _) (congrArg ab.bool hb1) ?_
    simp [hlt,hcj,ChM.v,ChM.cells]
    refine af.aS HK (hbr _) (congrArg ab.bool hbf) ?_
    simp [hlt,hcj,ChM.v,ChM.cells]
    refine af.pure Hf (hch _) ?_
    simp [hlt,hcj,ChM.v,ChM.cells,he,hpj,dc]
  rw [if_neg (by simp [he])] at hpj
  obtain ⟨_,h4⟩:=hss.2 he
  have hwj:IntKind.i64.wrap ((j:Int) + 1) = ((j + 1:Nat):Int):=by rw [aj (by omega) (by simp only [maxLen] at hcl; omega)]; omega
  refine aa _ ?_
  simp [hlt,hcj,ChM.v,ChM.cells]
  refine af.aS eQ (hwi _) (congrArg ab.bool hb1) ?_
  simp [hlt,hcj,ChM.v,ChM.cells]
  refine af.aS HK (hbr _) (congrArg ab.bool hbf) ?_
  simp [hlt,hcj,ChM.v,ChM.cells]
  refine af.pure Hf (hch _) ?_
  simp [hlt,hcj,ChM.v,ChM.cells,he]
  exact ⟨j + 1,by omega,(aZ l c).1,c.day,⟨rfl,rfl,hwj⟩,by omega,h4,hpj⟩
set_option maxRecDepth 100000
set_option maxHeartbeats 1000000
theorem qP (day:Int):∀ (r:List ChM) (l:List HuM) (last:Int),day < last → Steps l r last → ∀ c ∈ r,day < c.day
  | [],_,_,_,_=>by simp
  | e :: r,l,last,h,hs=>by
    cases hs with
    | cons hd hm hb he hr=>
      intro c hc
      rcases List.mem_cons.1 hc with rfl | hc
      · omega
      · exact qP day r _ _ (by omega) hr c hc
theorem bP (ps:List HuM) (cs:List ChM) (hf:gO ⟨ps,cs⟩) (hok:OkP ⟨ps,cs⟩) (day:Int) (σ:ag) :
    Spec Tryz.prog Ek [.agg [.slice 7 (ps.map HuM.v), .slice 10 (cs.map ChM.v)], .int .i64 day] σ fun r σ'=>r = .ret (.slice 7 ((aM day ps cs).map HuM.v)) ∧ σ' = σ:=by
  refine Spec.aC (MT (by simp) (aa _ ?_)) (by simp [ab.pure,aA,ah (f:=HuM.v) (fun p=>p.pure) ps,ah (f:=ChM.v) (fun c=>c.pure) cs]) (by simp [ab.pure,ah (f:=HuM.v) (fun p=>p.pure) (aM day ps cs)]) σ
  have hroom:=hf.room
  have hcl:=hf.chs
  dsimp only at hroom hcl
  simp [KY]
  refine AW.loop (ι:=Nat) (fun j fr σ'=>∃ (l:List HuM),fr = { v:=[(1, .int .i64 day),(2, .pval (.agg [.slice 7 (ps.map HuM.v), .slice 10 (cs.map ChM.v)])),(5, .slice 7 (l.map HuM.v)),(6, .int .i64 j)],ds:=[] } ∧ j ≤ cs.length ∧ ((∃ last,OkS l ∧ Steps l (cs.drop j) last) ∨ ∀ c ∈ cs.drop j,day < c.day) ∧ aM day ps cs = aM day l (cs.drop j)) (fun j=>cs.length - j) 0 ⟨ps,by simp,by simp, .inl ⟨0,hok.ship,hok.steps⟩,by simp⟩ ?_
  rintro j fr σ' ⟨l,rfl,hj,hst,hon⟩
  refine (Nat.lt_or_ge j cs.length).elim (fun hlt=>?_) (fun hge=>?_)
  rotate_left
  · have hz:cs.drop j = []:=List.drop_eq_nil_of_le hge
    rw [hz] at hon
    simp only [aM] at hon
    refine aa _ ?_
    simp [show ¬ j < cs.length by omega,hon]
  have hd:cs.drop j = cs[j] :: cs.drop (j + 1):=List.drop_eq_getElem_cons hlt
  obtain ⟨c,hcj⟩:∃ c,cs[j] = c:=⟨_,rfl⟩
  have hcr:=hroom c (hcj ▸ List.getElem_mem _)
  have hwj:IntKind.i64.wrap ((j:Int) + 1) = ((j + 1:Nat):Int):=by rw [aj (by omega) (by simp only [maxLen] at hcl; omega)]; omega
  rw [hd,hcj] at hst hon
  simp only [aM] at hon
  by_cases hdy:c.day ≤ day
  · rw [if_pos hdy] at hon
    have h1:∃ last,OkS l ∧ Steps l (c :: cs.drop (j + 1)) last:=by
      rcases hst with h | h
      · exact h
      · exact absurd (h c (by simp)) (by omega)
    obtain ⟨last,hokl,hs⟩:=h1
    have hch:=ky l c hokl hcr
    simp only [ChM.v,ChM.cells] at hch
    have h2:∃ last,OkS (aZ l c).1 ∧ Steps (aZ l c).1 (cs.drop (j + 1)) last:=by
      cases hs with
      | cons hd hm hb he hr=>exact ⟨_,(((fI hokl c).2 he).2),hr⟩
    refine aa _ ?_
    simp [hlt,hcj,ChM.v,ChM.cells,hdy]
    refine af.pure Hf (hch _) ?_
    simp [hlt,hcj,ChM.v,ChM.cells]
    exact ⟨j + 1,by omega,(aZ l c).1,⟨rfl,hwj⟩,by omega, .inl (h2.elim fun a b=>⟨b.1,a,b.2⟩),hon⟩
  · rw [if_neg hdy] at hon
    have h1:∀ e ∈ cs.drop (j + 1),day < e.day:=by
      rcases hst with ⟨last,_,hs⟩ | h
      · cases hs with
        | cons hd hm hb he hr=>exact qP day _ _ _ (by omega) hr
      · exact fun e he=>h e (by simp [he])
    refine aa _ ?_
    simp [hlt,hcj,ChM.v,ChM.cells,hdy]
    exact ⟨j + 1,by omega,l,⟨rfl,hwj⟩,by omega, .inr h1,hon⟩
end Go.AM
