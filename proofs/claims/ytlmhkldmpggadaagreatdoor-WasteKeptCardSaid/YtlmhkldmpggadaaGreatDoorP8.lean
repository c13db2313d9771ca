/- A store; and all instructions in one theorem. -/
import Derived.Test.YtlmhkldmpggadaaGreatDoorP7
namespace Go.AM
open Go.RowKit
section
variable {P:Program} {s:St} {A:World} {ρ:aO → ag} {ρ':Operand → Value} {K Kp:ag → af → Prop}
theorem ni:∀ (l:List ag) (cs:List ag) (off p:Nat),(putCells cs off l)[p]? = if off ≤ p ∧ p < off + l.length ∧ p < cs.length then l[p - off]? else cs[p]?
 | [],cs,off,p=>by rw [if_neg (by simp; omega)]; rfl
 | a :: l,cs,off,p=>by
  rw [putCells,ni l];simp only [List.length_set,List.length_cons,List.getElem?_set];by_cases e:off = p
  ·subst e;rw [if_neg (by omega)];by_cases hlt:off < cs.length
   ·rw [if_pos rfl,if_pos hlt,if_pos (by omega)]; simp
   ·rw [if_pos rfl,if_neg hlt,if_neg (by omega),List.getElem?_eq_none (by omega)]
  ·rw [if_neg e];by_cases c:off + 1 ≤ p ∧ p < off + 1 + l.length ∧ p < cs.length
   ·rw [if_pos c,if_pos (by omega),show p - off = (p - (off + 1)) + 1 by omega]; simp
   ·rw [if_neg c,if_neg (by omega)]
def wrote (C:Array Value) (off:Nat) (l:List Value):Array Value:=(C.toList.take off ++ l ++ C.toList.drop (off + l.length)).toArray
theorem iX {C:Array Value} {off:Nat} {l:List Value} (h:off + l.length ≤ C.size):(wrote C off l).size = C.size:=by simp [wrote]; omega
theorem kg {C:Array Value} {off:Nat} {l:List Value} (h:off + l.length ≤ C.size) (p:Nat):(wrote C off l)[p]? = if off ≤ p ∧ p < off + l.length then l[p - off]? else C[p]?:=by
 simp only [wrote,List.getElem?_toArray];have h1:(C.toList.take off).length = off:=by simp; omega
 by_cases c1:p < off
 ·rw [if_neg (by omega),List.append_assoc,List.getElem?_append_left (by omega),List.getElem?_take_of_lt c1]; simp
 ·by_cases c2:p < off + l.length
  ·rw [if_pos (by omega),List.append_assoc,List.getElem?_append_right (by omega),h1,List.getElem?_append_left (by omega)]
  ·rw [if_neg (by omega),List.getElem?_append_right (by simp; omega)];simp only [List.length_append,h1,List.getElem?_drop];rw [show off + l.length + (p - (off + l.length)) = p by omega]; simp
theorem od:∀ {l:List ag},fM l = true → ∀ v ∈ l,v.gJ = true
 | a :: l,h,v,hv=>by
  simp only [fM,Bool.and_eq_true] at h;rcases List.mem_cons.1 hv with rfl | h'
  ·exact h.1
  ·exact od h.2 v h'
theorem pE {v:ag} {c:Value} (hv:Rv s v c) {n:Nat} (hn:cB v n) (ha:fM v.cells = true):∀ x ∈ c.cells.toList,x.oneCell' = true:=by
 obtain ⟨h1,h2,h3⟩:=dX hv hn;intro x hx;obtain ⟨j,hj,rfl⟩:=List.getElem_of_mem hx;have g2:j < c.cells.size:=by simpa using hj
 have:=h3 j (by omega) g2;simpa using JB this (od ha _ (List.getElem_mem _))
theorem Inv.write (hi:Inv A s) {b blk:Nat} {o o':cq} (hb:s.h[b]? = some o) (hown:dA s b o blk) (w':World) (hos:w'.os = s.w.os) (ht:w'.tape = s.w.tape) (hout:w'.output = s.w.output)
  (hsz:w'.heap.size = s.w.heap.size) (hother:∀ k,k ≠ blk → w'.heap[k]? = s.w.heap[k]?) (hnS:∀ x, ¬ s.S blk x)
  (hobj:bq s { s with h:=s.h.set b o',w:=w' } → oz { s with h:=s.h.set b o',w:=w' } A.heap.size b o') (hown':∀ k,dA { s with h:=s.h.set b o',w:=w' } b o' k → k = blk) :
  Inv A { s with h:=s.h.set b o',w:=w' } ∧ bV s { s with h:=s.h.set b o',w:=w' }:=by
 have hlt:=(hi.obj b o hb).vw hown;have hk:bq s { s with h:=s.h.set b o',w:=w' }:=⟨fun _ _ _ h=>h,fun _ _ h=>h,fun k x hs=>World.cell?_of_block (a:=⟨k,x,none⟩) (hother k (fun e=>hnS x (e ▸ hs)))⟩;refine hi.change (s':={ s with h:=s.h.set b o',w:=w' }) (List.getElem?_eq_some_iff.1 hb).1 rfl hk ?_ (Nat.le_of_eq hsz.symm) (fun _ _ _=>rfl) ?_ (hobj hk) (fun k h=>.inr ⟨o,hb,by rw [hown' k h]; exact hown⟩) (fun _ _ h=>.inl h)
  (fun k x h=>by have:=hi.scell _ _ h; simp only; omega)
 ·exact hi.below.trans ⟨hos,ht,hout,Nat.le_of_eq hsz.symm,fun k hk'=>hother k (by omega)⟩
 ·intro k _ hno;exact hother k fun e=>hno ⟨o,hb,e ▸ hown⟩
theorem lq (hi : Inv A s) {t : TypeId} {sz : Nat} (ht : P.cellsOf t = sz) (hinf : (P.info? t).isSome = true) {a v : ag} {c d : Value} (hac : Rv s a c) (hv : Rv s v d) (ho : gu s.h sz v a) (h : K .undef (jK s.h v a)) :
  aC P A s K Kp ((do Instr.storeAt t c d; pure Next.skip:Sem Next).run P s.w):=by
 have hrun:∀ {blk off:Nat} {vs:Array Value} {el:TypeId},c = .pointer (some ⟨blk,off,none⟩) → s.w.heap[blk]? = some (.cells vs el (0,0)) → off + d.cells.size ≤ vs.size → d.cells.size = sz → (∀ x ∈ d.cells.toList,x.oneCell' = true) →
   (do Instr.storeAt t c d; pure Next.skip:Sem Next).run P s.w = .ok .skip (s.w.setRow blk (wrote vs off d.cells.toList)):=by
  intro blk off vs el hc hh hfit hdsz hone;subst hc;have:=run_storeCells_at P blk off el d.cells.toList 0 vs s.w hh (by simpa using hfit) hone;simp only [Nat.add_zero] at this;simp [Instr.storeAt,Instr.sureAddr,storeVar,aT hinf,ht,hdsz,this,wrote]
 cases a with
 | ptr b off=>
  obtain ⟨o1,o2,o3⟩:=ho;obtain ⟨d1,d2,d3⟩:=dX hv o1
  cases hb:s.h.get b with
  | box cs=>
   rw [hb] at o3;simp only [jK,hb] at h;have hbs:=af.get_some hb (by simp);obtain ⟨blk,vs,el,hl,hB,hh,hvs,hr,hnS⟩:=hi.obj b _ hbs
   cases hac with
   | ptr _ _ blk' hl'=>
    have:blk' = blk:=by rw [hl] at hl'; simpa using hl'.symm
    subst this;rw [hrun rfl hh (by omega) d1 (pE hv o1 o2)];have hfit:off + d.cells.toList.length ≤ vs.size:=by simp; omega
    have hw:=hi.write (o':=.box (putCells cs off v.cells)) hbs hl (s.w.setRow blk' (wrote vs off d.cells.toList)) rfl rfl rfl (by simp) (fun k hk=>setRow_other _ _ _ _ hk) hnS
     (fun hk=>⟨blk',_,el,hl,hB,setRow_heap s.w blk' vs _ el (0,0) hh,by rw [iX hfit,fK,hvs],fun j h1 h2=>by
      have e1:=ni v.cells cs off j;have e2:=kg hfit j;rw [List.getElem?_eq_getElem h1] at e1;rw [Array.getElem?_eq_getElem h2] at e2;rw [fK] at h1;simp only [Array.length_toList] at e2;by_cases cc:off ≤ j ∧ j < off + d.cells.size
      ·rw [if_pos ⟨cc.1,by omega,h1⟩,List.getElem?_eq_getElem (by omega)] at e1;rw [if_pos cc,List.getElem?_eq_getElem (by simp; omega)] at e2;rw [Option.some.inj e1,Option.some.inj e2];have:=(d3 (j - off) (by omega) (by omega)).keeps hk;simpa using this
      ·rw [if_neg (by omega),List.getElem?_eq_getElem h1] at e1;rw [if_neg cc,Array.getElem?_eq_getElem (by omega)] at e2;rw [Option.some.inj e1,Option.some.inj e2]
       exact (hr j h1 (by omega)).keeps hk,hnS⟩)
     (fun k hk=>by have e:s.lam b 0 = _:=hk; rw [hl] at e; simpa using e.symm)
    exact ⟨.undef,_,rfl,hw.1,hw.2, .undef _,h⟩
  | _=>rw [hb] at o3; exact o3.elim
 | eptr esz b i f n=>
  obtain ⟨o1,o2,o3⟩:=ho;obtain ⟨d1,d2,d3⟩:=dX hv o1
  cases hb:s.h.get b with
  | arr esz' xs=>
   rw [hb] at o3;simp only [jK,hb] at h;obtain ⟨rfl,hn,hin,hset⟩:=o3;have hbs:=af.get_some hb (by simp);obtain ⟨hlater,hob⟩:=hi.obj b _ hbs;rcases hob with ⟨hx,_⟩ | ⟨blk,cap,vs,el,us,h0c,hl,hB,hh,hvs,hcap,hus,hr,hcell,hnS⟩
   ·subst hx; simp at hn; omega
   ·cases hac with
    | eptr _ _ _ _ _ blk' cap' hl'=>
     have:blk' = blk:=by rw [hn,hl'] at hl; simp at hl; exact hl.1
     subst this;have h1:i < xs.length:=by omega
     have h2:i < us.length:=by omega
     obtain ⟨hri,hci⟩:=hr i h1 h2;have hx:xs.getD i .undef = xs[i]:=by simp [List.getD,List.getElem?_eq_getElem h1]
     rw [hx] at hset h
     -- the element that is written
     have helem : ∃ u,Rv s (pD xs[i] f v.cells) u ∧ u.cells.size = esz' ∧ f + d.cells.size ≤ esz' ∧ ∀ j (hj : j < u.cells.size),some u.cells[j] = if f ≤ j ∧ j < f + d.cells.size then d.cells[j - f]? else us[i].cells[j]? := by
      cases hxi:xs[i] with
      | agg cs=>
       rw [hxi] at hri hset;obtain ⟨ws,hw,hws,hwr⟩:=hri.ig;simp only [pO] at hset;have hw2:us[i].cells = ws:=by rw [hw]; rfl
       rw [hw2] at hci;have hfit:f + d.cells.toList.length ≤ ws.size:=by simp; omega
       refine ⟨.agg (wrote ws f d.cells.toList), ?_,by show (wrote ws f d.cells.toList).size = esz'; rw [iX hfit]; exact hci,by omega,fun j hj=>?_⟩
       ·refine .agg _ _ (by rw [iX hfit,fK,hws]) (fun j g1 g2=>?_);have e1:=ni v.cells cs f j;have e2:=kg hfit j;rw [List.getElem?_eq_getElem g1] at e1;rw [Array.getElem?_eq_getElem g2] at e2;rw [fK] at g1;simp only [Array.length_toList] at e2;by_cases cc:f ≤ j ∧ j < f + d.cells.size
        ·rw [if_pos ⟨cc.1,by omega,g1⟩,List.getElem?_eq_getElem (by omega)] at e1;rw [if_pos cc,List.getElem?_eq_getElem (by simp; omega)] at e2;rw [Option.some.inj e1,Option.some.inj e2];have:=d3 (j - f) (by omega) (by omega);simpa using this
        ·rw [if_neg (by omega),List.getElem?_eq_getElem g1] at e1;rw [if_neg cc,Array.getElem?_eq_getElem (by omega)] at e2;rw [Option.some.inj e1,Option.some.inj e2];exact hwr j g1 (by omega)
       ·have hj':j < (wrote ws f d.cells.toList).size:=hj;have e2:=kg hfit j;rw [Array.getElem?_eq_getElem hj'] at e2;show some ((wrote ws f d.cells.toList)[j]'hj') = _;rw [e2,hw2];simp
      | _=>
       rw [hxi] at hri hset;simp only [pO] at hset;obtain ⟨q1,q2,q3⟩:=hset
       first
        | (exfalso; simp [ag.gJ] at q1; done)
        | (subst q2
           have hc1:=eh hri q1;have hz1:us[i].cells.size = 1:=by rw [hc1]; rfl
           have hdone:v.gJ = true ∧ v.cells = [v] ∧ d.cells = #[d] ∨ ∃ q,v = .agg [q]:=by
            cases v with
            | agg cs=>right; simp only [cB] at o1; rw [q3] at o1; match cs,o1 with | [q],_=>exact ⟨q,rfl⟩
            | _=>left; exact ⟨o1.1,rfl,eh hv o1.1⟩
           have hone:v.cells.getD 0 .undef = v.cells[0]'(by omega):=by simp [List.getD,List.getElem?_eq_getElem (show 0 < v.cells.length by omega)]
           have hd0:0 < d.cells.size:=by omega
           have hsc:=od o2 (v.cells[0]'(by omega)) (List.getElem_mem _);have hr0:=d3 0 (by omega) hd0;have hcc:=eh hr0 hsc;refine ⟨d.cells[0],by simp only [pD,hone]; exact hr0,by rw [hcc]; simp; omega,by omega,fun j hj=>?_⟩;have hj0:j = 0:=by rw [hcc] at hj; simp at hj; exact hj
           subst hj0;rw [if_pos (by omega)]
           simp [hcc,hd0])
     obtain ⟨u,hu,husz,hffit,hucell⟩:=helem;have hbnd:i * esz' + esz' ≤ vs.size:=by
      rw [hvs];have:(i + 1) * esz' ≤ cap * esz':=Nat.mul_le_mul_right _ (by omega);rw [Nat.add_mul] at this; omega
     have hfit:i * esz' + f + d.cells.toList.length ≤ vs.size:=by simp; omega
     rw [hrun rfl hh (by simpa using hfit) d1 (pE hv o1 o2)];have hw := hi.write (o' := .arr esz' (xs.set i (pD xs[i] f v.cells))) hbs ⟨cap,h0c,hl⟩ (s.w.setRow blk' (wrote vs (i * esz' + f) d.cells.toList)) rfl rfl rfl (by simp) (fun k hk => setRow_other _ _ _ _ hk) hnS
      (fun hk => ⟨fun k' hk' => hlater k' (by rw [List.length_set] at hk'; exact hk'), .inr ⟨blk',cap,_,el,us.set i u,h0c,by rw [List.length_set]; exact hl,hB,setRow_heap s.w blk' vs _ el (0,0) hh,by rw [iX hfit]; exact hvs,by simpa using hcap,by simpa using hus,fun k g1 g2 => by
        simp only [List.length_set] at g1 g2;by_cases e:i = k
        ·subst e; simp only [List.getElem_set_self]; exact ⟨hu.keeps hk,husz⟩
        ·simp only [List.getElem_set_ne e]; exact ⟨(hr k g1 g2).1.keeps hk,(hr k g1 g2).2⟩,
       fun k j g2 gj=>by
        simp only [List.length_set] at g2;rw [kg hfit];simp only [Array.length_toList];by_cases e:i = k
        ·subst e;simp only [List.getElem_set_self] at gj ⊢;rw [hucell j gj];by_cases cc:f ≤ j ∧ j < f + d.cells.size
         ·rw [if_pos ⟨by omega,by omega⟩,if_pos cc,show i * esz' + j - (i * esz' + f) = j - f by omega]; simp
         ·rw [if_neg (by omega),if_neg cc,hcell i j g2 (by omega),Array.getElem?_eq_getElem (by omega)]
        ·simp only [List.getElem_set_ne e] at gj ⊢;have hk2:=(hr k (by omega) g2).2;rw [if_neg]
         ·exact hcell k j g2 gj
         ·rintro ⟨q1,q2⟩;obtain ⟨j',hj'⟩:∃ j',k * esz' + j = i * esz' + j':=⟨k * esz' + j - i * esz',by omega⟩
          exact e (idx_eq (by omega) (by omega) hj').1.symm,hnS⟩⟩)
      (fun k hk=>by
       obtain ⟨cap2,_,e⟩:=hk;rw [List.length_set] at e;have e':s.lam b xs.length = _:=e
       rw [hl] at e'; simp at e'; exact e'.1.symm)
     exact ⟨.undef,_,rfl,hw.1,hw.2, .undef _,h⟩
  | _=>rw [hb] at o3; exact o3.elim
 | _=>exact ho.elim
end
end Go.AM
