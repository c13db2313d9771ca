/- A store; and all instructions in one theorem. Slices that grow: the memory behind 'append', behind a part of a slice, behind a slice that is handed on for good. -/
import Derived.Test.YtcdfnopkemadjaaGreatDoorP5
import Derived.Deep.AppendSrc
namespace Go.AM
open Go.RowKit
section
variable {P:Program} {s:St} {A:World} {ρ:ay → aa} {ρ':Operand → Value} {K Kp:aa → ab → Prop}
theorem gw:∀ (l:List aa) (cs:List aa) (off p:Nat),(putCells cs off l)[p]? = if off ≤ p ∧ p < off + l.length ∧ p < cs.length then l[p - off]? else cs[p]?
 | [],cs,off,p=>by rw [if_neg (by simp; omega)]; rfl
 | a :: l,cs,off,p=>by
  rw [putCells,gw l];simp only [List.length_set,List.length_cons,List.getElem?_set];by_cases e:off = p
  ·subst e;rw [if_neg (by omega)];by_cases hlt:off < cs.length
   ·rw [if_pos rfl,if_pos hlt,if_pos (by omega)]; simp
   ·rw [if_pos rfl,if_neg hlt,if_neg (by omega),List.getElem?_eq_none (by omega)]
  ·rw [if_neg e];by_cases c:off + 1 ≤ p ∧ p < off + 1 + l.length ∧ p < cs.length
   ·rw [if_pos c,if_pos (by omega),show p - off = (p - (off + 1)) + 1 by omega]; simp
   ·rw [if_neg c,if_neg (by omega)]
def wrote (C:Array Value) (off:Nat) (l:List Value):Array Value:=(C.toList.take off ++ l ++ C.toList.drop (off + l.length)).toArray
theorem eu {C:Array Value} {off:Nat} {l:List Value} (h:off + l.length ≤ C.size):(wrote C off l).size = C.size:=by simp [wrote]; omega
theorem e7 {C:Array Value} {off:Nat} {l:List Value} (h:off + l.length ≤ C.size) (p:Nat):(wrote C off l)[p]? = if off ≤ p ∧ p < off + l.length then l[p - off]? else C[p]?:=by
 simp only [wrote,List.getElem?_toArray];have h1:(C.toList.take off).length = off:=by simp; omega
 by_cases c1:p < off
 ·rw [if_neg (by omega),List.append_assoc,List.getElem?_append_left (by omega),List.getElem?_take_of_lt c1]; simp
 ·by_cases c2:p < off + l.length
  ·rw [if_pos (by omega),List.append_assoc,List.getElem?_append_right (by omega),h1,List.getElem?_append_left (by omega)]
  ·rw [if_neg (by omega),List.getElem?_append_right (by simp; omega)];simp only [List.length_append,h1,List.getElem?_drop];rw [show off + l.length + (p - (off + l.length)) = p by omega]; simp
theorem gS:∀ {l:List aa},b9 l = true → ∀ v ∈ l,v.cP = true
 | a :: l,h,v,hv=>by
  simp only [b9,Bool.and_eq_true] at h;rcases List.mem_cons.1 hv with rfl | h'
  ·exact h.1
  ·exact gS h.2 v h'
theorem hJ {v:aa} {c:Value} (hv:Rv s v c) {n:Nat} (hn:aY v n) (ha:b9 v.cells = true):∀ x ∈ c.cells.toList,x.oneCell' = true:=by
 obtain ⟨h1,h2,h3⟩:=bQ hv hn;intro x hx;obtain ⟨j,hj,rfl⟩:=List.getElem_of_mem hx;have g2:j < c.cells.size:=by simpa using hj
 have:=h3 j (by omega) g2;simpa using GN this (gS ha _ (List.getElem_mem _))
theorem Inv.write (hi:Inv A s) {b blk:Nat} {o o':bO} (hb:s.h[b]? = some o) (hown:bu s b o blk) (w':World) (hos:w'.os = s.w.os) (ht:w'.tape = s.w.tape) (hout:w'.output = s.w.output)
  (hsz:w'.heap.size = s.w.heap.size) (hother:∀ k,k ≠ blk → w'.heap[k]? = s.w.heap[k]?) (hnS:∀ x, ¬ s.S blk x)
  (hobj:aL s { s with h:=s.h.set b o',w:=w' } → gf { s with h:=s.h.set b o',w:=w' } A.heap.size b o') (hown':∀ k,bu { s with h:=s.h.set b o',w:=w' } b o' k → k = blk) :
  Inv A { s with h:=s.h.set b o',w:=w' } ∧ aT s { s with h:=s.h.set b o',w:=w' }:=by
 have hlt:=(hi.obj b o hb).kG hown;have hk:aL s { s with h:=s.h.set b o',w:=w' }:=⟨fun _ _ _ h=>h,fun _ _ h=>h,fun k x hs=>World.cell?_of_block (a:=⟨k,x,none⟩) (hother k (fun e=>hnS x (e ▸ hs)))⟩;refine hi.change (s':={ s with h:=s.h.set b o',w:=w' }) (List.getElem?_eq_some_iff.1 hb).1 rfl hk ?_ (Nat.le_of_eq hsz.symm) (fun _ _ _=>rfl) ?_ (hobj hk) (fun k h=>.inr ⟨o,hb,by rw [hown' k h]; exact hown⟩) (fun _ _ h=>.inl h)
  (fun k x h=>by have:=hi.scell _ _ h; simp only; omega)
 ·exact hi.below.trans ⟨hos,ht,hout,Nat.le_of_eq hsz.symm,fun k hk'=>hother k (by omega)⟩
 ·intro k _ hno;exact hother k fun e=>hno ⟨o,hb,e ▸ hown⟩
theorem fB (hi : Inv A s) {t : TypeId} {sz : Nat} (ht : P.cellsOf t = sz) (hinf : (P.info? t).isSome = true) {a v : aa} {c d : Value} (hac : Rv s a c) (hv : Rv s v d) (ho : ck s.h sz v a) (h : K .undef (cO s.h v a)) :
  ar P A s K Kp ((do Instr.storeAt t c d; pure Next.skip:Sem Next).run P s.w):=by
 have hrun:∀ {blk off:Nat} {vs:Array Value} {el:TypeId},c = .pointer (some ⟨blk,off,none⟩) → s.w.heap[blk]? = some (.cells vs el (0,0)) → off + d.cells.size ≤ vs.size → d.cells.size = sz → (∀ x ∈ d.cells.toList,x.oneCell' = true) →
   (do Instr.storeAt t c d; pure Next.skip:Sem Next).run P s.w = .ok .skip (s.w.setRow blk (wrote vs off d.cells.toList)):=by
  intro blk off vs el hc hh hfit hdsz hone;subst hc;have:=run_storeCells_at P blk off el d.cells.toList 0 vs s.w hh (by simpa using hfit) hone;simp only [Nat.add_zero] at this;simp [Instr.storeAt,Instr.sureAddr,storeVar,aG hinf,ht,hdsz,this,wrote]
 cases a with
 | ptr b off=>
  obtain ⟨o1,o2,o3⟩:=ho;obtain ⟨d1,d2,d3⟩:=bQ hv o1
  cases hb:s.h.get b with
  | box cs=>
   rw [hb] at o3;simp only [cO,hb] at h;have hbs:=ab.get_some hb (by simp);obtain ⟨blk,vs,el,hl,hB,hh,hvs,hr,hnS⟩:=hi.obj b _ hbs
   cases hac with
   | ptr _ _ blk' hl'=>
    have:blk' = blk:=by rw [hl] at hl'; simpa using hl'.symm
    subst this;rw [hrun rfl hh (by omega) d1 (hJ hv o1 o2)];have hfit:off + d.cells.toList.length ≤ vs.size:=by simp; omega
    have hw:=hi.write (o':=.box (putCells cs off v.cells)) hbs hl (s.w.setRow blk' (wrote vs off d.cells.toList)) rfl rfl rfl (by simp) (fun k hk=>setRow_other _ _ _ _ hk) hnS
     (fun hk=>⟨blk',_,el,hl,hB,setRow_heap s.w blk' vs _ el (0,0) hh,by rw [eu hfit,cY,hvs],fun j h1 h2=>by
      have e1:=gw v.cells cs off j;have e2:=e7 hfit j;rw [List.getElem?_eq_getElem h1] at e1;rw [Array.getElem?_eq_getElem h2] at e2;rw [cY] at h1;simp only [Array.length_toList] at e2;by_cases cc:off ≤ j ∧ j < off + d.cells.size
      ·rw [if_pos ⟨cc.1,by omega,h1⟩,List.getElem?_eq_getElem (by omega)] at e1;rw [if_pos cc,List.getElem?_eq_getElem (by simp; omega)] at e2;rw [Option.some.inj e1,Option.some.inj e2];have:=(d3 (j - off) (by omega) (by omega)).keeps hk;simpa using this
      ·rw [if_neg (by omega),List.getElem?_eq_getElem h1] at e1;rw [if_neg cc,Array.getElem?_eq_getElem (by omega)] at e2;rw [Option.some.inj e1,Option.some.inj e2]
       exact (hr j h1 (by omega)).keeps hk,hnS⟩)
     (fun k hk=>by have e:s.lam b 0 = _:=hk; rw [hl] at e; simpa using e.symm)
    exact ⟨.undef,_,rfl,hw.1,hw.2, .undef _,h⟩
  | _=>rw [hb] at o3; exact o3.elim
 | eptr esz b i f n=>
  obtain ⟨o1,o2,o3⟩:=ho;obtain ⟨d1,d2,d3⟩:=bQ hv o1
  cases hb:s.h.get b with
  | arr esz' xs=>
   rw [hb] at o3;simp only [cO,hb] at h;obtain ⟨rfl,hn,hin,hset⟩:=o3;have hbs:=ab.get_some hb (by simp);obtain ⟨hlater,hob⟩:=hi.obj b _ hbs;rcases hob with ⟨hx,_⟩ | ⟨blk,cap,vs,el,us,h0c,hl,hB,hh,hvs,hcap,hus,hr,hcell,hnS,hcm⟩
   ·subst hx; simp at hn; omega
   ·cases hac with
    | eptr _ _ _ _ _ blk' cap' hl'=>
     have:blk' = blk:=by rw [hn,hl'] at hl; simp at hl; exact hl.1
     subst this;have h1:i < xs.length:=by omega
     have h2:i < us.length:=by omega
     obtain ⟨hri,hci⟩:=hr i h1 h2;have hx:xs.getD i .undef = xs[i]:=by simp [List.getD,List.getElem?_eq_getElem h1]
     rw [hx] at hset h
     -- the element that is written
     have helem : ∃ u,Rv s (hF xs[i] f v.cells) u ∧ u.cells.size = esz' ∧ f + d.cells.size ≤ esz' ∧ ∀ j (hj : j < u.cells.size),some u.cells[j] = if f ≤ j ∧ j < f + d.cells.size then d.cells[j - f]? else us[i].cells[j]? := by
      cases hxi:xs[i] with
      | agg cs=>
       rw [hxi] at hri hset;obtain ⟨ws,hw,hws,hwr⟩:=hri.dw;simp only [eY] at hset;have hw2:us[i].cells = ws:=by rw [hw]; rfl
       rw [hw2] at hci;have hfit:f + d.cells.toList.length ≤ ws.size:=by simp; omega
       refine ⟨.agg (wrote ws f d.cells.toList), ?_,by show (wrote ws f d.cells.toList).size = esz'; rw [eu hfit]; exact hci,by omega,fun j hj=>?_⟩
       ·refine .agg _ _ (by rw [eu hfit,cY,hws]) (fun j g1 g2=>?_);have e1:=gw v.cells cs f j;have e2:=e7 hfit j;rw [List.getElem?_eq_getElem g1] at e1;rw [Array.getElem?_eq_getElem g2] at e2;rw [cY] at g1;simp only [Array.length_toList] at e2;by_cases cc:f ≤ j ∧ j < f + d.cells.size
        ·rw [if_pos ⟨cc.1,by omega,g1⟩,List.getElem?_eq_getElem (by omega)] at e1;rw [if_pos cc,List.getElem?_eq_getElem (by simp; omega)] at e2;rw [Option.some.inj e1,Option.some.inj e2];have:=d3 (j - f) (by omega) (by omega);simpa using this
        ·rw [if_neg (by omega),List.getElem?_eq_getElem g1] at e1;rw [if_neg cc,Array.getElem?_eq_getElem (by omega)] at e2;rw [Option.some.inj e1,Option.some.inj e2];exact hwr j g1 (by omega)
       ·have hj':j < (wrote ws f d.cells.toList).size:=hj;have e2:=e7 hfit j;rw [Array.getElem?_eq_getElem hj'] at e2;show some ((wrote ws f d.cells.toList)[j]'hj') = _
        rw [e2,hw2];simp
      | _=>
       rw [hxi] at hri hset;simp only [eY] at hset;obtain ⟨q1,q2,q3⟩:=hset
       first
        | (exfalso; simp [aa.cP] at q1; done)
        | (subst q2
           have hc1:=bT hri q1;have hz1:us[i].cells.size = 1:=by rw [hc1]; rfl
           have hdone:v.cP = true ∧ v.cells = [v] ∧ d.cells = #[d] ∨ ∃ q,v = .agg [q]:=by
            cases v with
            | agg cs=>right; simp only [aY] at o1; rw [q3] at o1; match cs,o1 with | [q],_=>exact ⟨q,rfl⟩
            | _=>left; exact ⟨o1.1,rfl,bT hv o1.1⟩
           have hone:v.cells.getD 0 .undef = v.cells[0]'(by omega):=by simp [List.getD,List.getElem?_eq_getElem (show 0 < v.cells.length by omega)]
           have hd0:0 < d.cells.size:=by omega
           have hsc:=gS o2 (v.cells[0]'(by omega)) (List.getElem_mem _);have hr0:=d3 0 (by omega) hd0;have hcc:=bT hr0 hsc;refine ⟨d.cells[0],by simp only [hF,hone]; exact hr0,by rw [hcc]; simp; omega,by omega,fun j hj=>?_⟩;have hj0:j = 0:=by rw [hcc] at hj; simp at hj; exact hj
           subst hj0;rw [if_pos (by omega)]
           simp [hcc,hd0])
     obtain ⟨u,hu,husz,hffit,hucell⟩:=helem;have hbnd:i * esz' + esz' ≤ vs.size:=by
      rw [hvs];have:(i + 1) * esz' ≤ cap * esz':=Nat.mul_le_mul_right _ (by omega);rw [Nat.add_mul] at this; omega
     have hfit:i * esz' + f + d.cells.toList.length ≤ vs.size:=by simp; omega
     rw [hrun rfl hh (by simpa using hfit) d1 (hJ hv o1 o2)];have hw := hi.write (o' := .arr esz' (xs.set i (hF xs[i] f v.cells))) hbs ⟨cap,h0c,hl⟩ (s.w.setRow blk' (wrote vs (i * esz' + f) d.cells.toList)) rfl rfl rfl (by simp) (fun k hk => setRow_other _ _ _ _ hk) hnS
      (fun hk => ⟨fun k' hk' => hlater k' (by rw [List.length_set] at hk'; exact hk'), .inr ⟨blk',cap,_,el,us.set i u,h0c,by rw [List.length_set]; exact hl,hB,setRow_heap s.w blk' vs _ el (0,0) hh,by rw [eu hfit]; exact hvs,by simpa using hcap,by simpa using hus,fun k g1 g2 => by
        simp only [List.length_set] at g1 g2;by_cases e:i = k
        ·subst e; simp only [List.getElem_set_self]; exact ⟨hu.keeps hk,husz⟩
        ·simp only [List.getElem_set_ne e]; exact ⟨(hr k g1 g2).1.keeps hk,(hr k g1 g2).2⟩,
       fun k j g2 gj=>by
        simp only [List.length_set] at g2;rw [e7 hfit];simp only [Array.length_toList];by_cases e:i = k
        ·subst e;simp only [List.getElem_set_self] at gj ⊢;rw [hucell j gj];by_cases cc:f ≤ j ∧ j < f + d.cells.size
         ·rw [if_pos ⟨by omega,by omega⟩,if_pos cc,show i * esz' + j - (i * esz' + f) = j - f by omega]; simp
         ·rw [if_neg (by omega),if_neg cc,hcell i j g2 (by omega),Array.getElem?_eq_getElem (by omega)]
        ·simp only [List.getElem_set_ne e] at gj ⊢;have hk2:=(hr k (by omega) g2).2;rw [if_neg]
         ·exact hcell k j g2 gj
         ·rintro ⟨q1,q2⟩;obtain ⟨j',hj'⟩:∃ j',k * esz' + j = i * esz' + j':=⟨k * esz' + j - i * esz',by omega⟩
          exact e (idx_eq (by omega) (by omega) hj').1.symm,hnS,hcm⟩⟩)
      (fun k hk=>by
       obtain ⟨cap2,_,e⟩:=hk;rw [List.length_set] at e;have e':s.lam b xs.length = _:=e
       rw [hl] at e'; simp at e'; exact e'.1.symm)
     exact ⟨.undef,_,rfl,hw.1,hw.2, .undef _,h⟩
  | _=>rw [hb] at o3; exact o3.elim
 | _=>exact ho.elim
end
open Go.RowKit
def aI:List Value → List Value
 | []=>[]
 | u :: r=>u.cells.toList ++ aI r
theorem bD {sz:Nat}:∀ {us:List Value},(∀ i (h:i < us.length),us[i].cells.size = sz) → (aI us).length = us.length * sz
 | [],_=>by simp [aI]
 | u :: r,h=>by
  have h0:=h 0 (by simp);have:=bD (us:=r) (fun i hi=>by have:=h (i + 1) (by simpa using hi); simpa using this);simp only [aI,List.length_append,Array.length_toList,this,List.length_cons,Nat.add_mul,Nat.one_mul];simp at h0; omega
theorem dQ {sz:Nat}:∀ {us:List Value},(∀ i (h:i < us.length),us[i].cells.size = sz) → ∀ i j (h:i < us.length) (hj:j < us[i].cells.size),(aI us)[i * sz + j]? = some us[i].cells[j]
 | [],_,i,_,h,_=>by simp at h
 | u :: r,hs,0,j,_,hj=>by
  simp only [aI,Nat.zero_mul,Nat.zero_add];simp at hj;rw [List.getElem?_append_left (by simpa using hj)];simp [hj]
 | u :: r,hs,i + 1,j,h,hj=>by
  have h0:=hs 0 (by simp);simp at h0;have hs':∀ i (h:i < r.length),r[i].cells.size = sz:=fun i hi=>by have:=hs (i + 1) (by simpa using hi); simpa using this
  have:=dQ hs' i j (by simpa using h) (by simpa using hj);simp only [aI];rw [List.getElem?_append_right (by simp [Nat.add_mul]; omega)];simp only [Array.length_toList,h0];rw [show (i + 1) * sz + j - sz = i * sz + j by rw [Nat.add_mul]; omega,this];simp
theorem hM {q n sz : Nat} (h : q < n * sz) : ∃ i j,i < n ∧ j < sz ∧ q = i * sz + j := by
 have hsz : 0 < sz := by rcases Nat.eq_zero_or_pos sz with h0 | h0
                         ·subst h0; simp at h
                         ·exact h0
 exact ⟨q / sz,q % sz,(Nat.div_lt_iff_lt_mul hsz).2 h,Nat.mod_lt _ hsz,by rw [Nat.mul_comm]; exact (Nat.div_add_mod q sz).symm⟩
section
variable {P:Program} {s:St} {A:World} {K Kp:aa → ab → Prop}
theorem mZ (hi:Inv A s) {sz:Nat} {v:aa} {d:Value} (hv:Rv s v d) (ho:v.cE s.h sz) :
  ∃ (a:Option Addr) (cap:Nat) (us:List Value),d = .slice a (v.elems s.h).length cap ∧ us.length = (v.elems s.h).length ∧
   (∀ i (h1:i < (v.elems s.h).length) (h2:i < us.length),Rv s (v.elems s.h)[i] us[i]) ∧ (∀ i (h2:i < us.length),us[i].cells.size = sz) ∧
   ((v.elems s.h).length = 0 ∨ ∃ blk off,a = some ⟨blk,off,none⟩ ∧ ∀ i j (h2:i < us.length) (hj:j < us[i].cells.size),s.w.cell? ⟨blk,off + i * sz + j,none⟩ = some us[i].cells[j]):=by
 have core:∀ {sz':Nat} {xs:List aa} {d:Value},Rv s (.slice sz' xs) d → sz' = sz ∨ xs = [] → ∃ (a:Option Addr) (cap:Nat) (us:List Value),d = .slice a xs.length cap ∧ us.length = xs.length ∧
   (∀ i (h1:i < xs.length) (h2:i < us.length),Rv s xs[i] us[i]) ∧ (∀ i (h2:i < us.length),us[i].cells.size = sz) ∧
   (xs.length = 0 ∨ ∃ blk off,a = some ⟨blk,off,none⟩ ∧ ∀ i j (h2:i < us.length) (hj:j < us[i].cells.size),s.w.cell? ⟨blk,off + i * sz + j,none⟩ = some us[i].cells[j]):=by
  intro sz' xs d hv ho;obtain ⟨a,cap,rfl,h⟩:=hv.bL;by_cases hx:xs = []
  ·subst hx; exact ⟨a,cap,[],rfl,rfl,fun i h1=>by simp at h1,fun i h1=>by simp at h1, .inl rfl⟩
  ·have hz:sz' = sz:=ho.resolve_right hx;subst hz;rcases h with h1 | ⟨blk,off,us,rfl,hl,hc,hr,hm⟩
   ·exact absurd h1 hx
   ·exact ⟨_,cap,us,rfl,hl,hr,fun i h2=>(hm i h2).1, .inr ⟨blk,off,rfl,fun i j h2 hj=>((hm i h2).2 j hj).2⟩⟩
 cases v with
 | slice sz' xs=>exact core hv ho
 | oslice sz' xs b k=>
  cases hv with
  | oslice _ _ _ _ _ hs hl=>exact core hs (.inl ho)
 | sref sz' b off len n=>
  obtain ⟨rfl,ho⟩:=ho
  cases hb:s.h.get b with
  | arr sz'' xs=>
   rw [hb] at ho;simp only at ho;obtain ⟨rfl,hn⟩:=ho;simp only [aa.elems,hb]
   have zero:∀ {a:Option Addr} {cap:Nat},len = 0 → ∃ (a':Option Addr) (cap':Nat) (us:List Value),Value.slice a len cap = .slice a' ((xs.drop off).take len).length cap' ∧ us.length = ((xs.drop off).take len).length ∧
     (∀ i (h1:i < ((xs.drop off).take len).length) (h2:i < us.length),Rv s ((xs.drop off).take len)[i] us[i]) ∧ (∀ i (h2:i < us.length),us[i].cells.size = sz'') ∧
     (((xs.drop off).take len).length = 0 ∨ ∃ blk off,a' = some ⟨blk,off,none⟩ ∧ ∀ i j (h2:i < us.length) (hj:j < us[i].cells.size),s.w.cell? ⟨blk,off + i * sz'' + j,none⟩ = some us[i].cells[j]):=by
    intro a cap hl;subst hl;exact ⟨a,cap,[],by simp,by simp,fun i h1=>by simp at h1,fun i h1=>by simp at h1, .inl (by simp)⟩
   cases hv with
   | sref0 _ _ a hl=>exact zero rfl
   | srefE=>exact zero rfl
   | sref _ _ _ _ _ blk cap hl h1 h2=>
    by_cases hlen:len = 0
    ·exact zero hlen
    ·rcases (hi.obj b _ (ab.get_some hb (by simp))).2 with ⟨hx,_⟩ | ⟨blk',cap',vs,el,us,_,hl',_,hh,hsz,hc,hu,hr,hvs,_⟩
     ·subst hx; simp at hn; omega
     ·have:blk' = blk:=by rw [hn,hl] at hl'; simp at hl'; exact hl'.1.symm
      subst this;have hL:((xs.drop off).take len).length = len:=by simp; omega
      refine ⟨_,cap - off,(us.drop off).take len,by rw [hL],by simp; omega,fun i g1 g2=>?_,fun i g2=>?_, .inr ⟨blk',off * sz'',rfl,fun i j g2 gj=>?_⟩⟩
      ·have:=(hr (off + i) (by omega) (by simp at g2; omega)).1;simpa using this
      ·have:=(hr (off + i) (by simp at g2; omega) (by simp at g2; omega)).2;simpa using this
      ·have hlt:off + i < us.length:=by simp at g2; omega
       have e:((us.drop off).take len)[i] = us[off + i]:=by simp
       have hj':j < us[off + i].cells.size:=by rw [e] at gj; exact gj
       have:=hvs (off + i) j hlt hj';simp only [e];simp only [World.cell?,hh];rw [← Nat.add_mul,this];rfl
  | _=>rw [hb] at ho; exact ho.elim
 | _=>exact ho.elim
theorem p9 {sz:Nat} {v:aa} {u:Value} (hv:Rv s v u) (h:aY v sz ∧ b9 v.cells = true):∀ x ∈ u.cells.toList,x.oneCell' = true:=hJ hv h.1 h.2
theorem KU {sz:Nat} {ys:List aa} {us:List Value} {a:Option Addr} {cap:Nat} {tx e':TypeId} (hk:P.underlying tx = some (.slice e')) (hl:us.length = ys.length)
  (hr:∀ i (h1:i < ys.length) (h2:i < us.length),Rv s ys[i] us[i]) (hz:∀ i (h2:i < us.length),us[i].cells.size = sz) (hf:∀ v ∈ ys,aY v sz ∧ b9 v.cells = true)
  (hm:ys.length = 0 ∨ ∃ blk off,a = some ⟨blk,off,none⟩ ∧ ∀ i j (h2:i < us.length) (hj:j < us[i].cells.size),s.w.cell? ⟨blk,off + i * sz + j,none⟩ = some us[i].cells[j]) :
  Src P sz tx (.slice a ys.length cap) ys.length (aI us) s.w:=by
 have hone:∀ u ∈ aI us,u.oneCell' = true:=by
  intro u hu;have:∀ {us:List Value} {u:Value},u ∈ aI us → ∃ i, ∃ h:i < us.length,u ∈ us[i].cells.toList:=by
   intro us
   induction us with
   | nil=>intro u h; simp [aI] at h
   | cons x r ih=>
    intro u h;rcases List.mem_append.1 h with h | h
    ·exact ⟨0,by simp,h⟩
    ·obtain ⟨i,h1,h2⟩:=ih h; exact ⟨i + 1,by simpa using h1,by simpa using h2⟩
  obtain ⟨i,h1,h2⟩:=this hu;exact p9 (hr i (by omega) h1) (hf _ (List.getElem_mem _)) u h2
 rcases hm with h0 | ⟨blk,off,rfl,hc⟩
 ·have:us = []:=List.eq_nil_of_length_eq_zero (by omega);subst this;rw [h0]
  cases a with
  | none=>exact Src.ofNil _ hk cap
  | some ad=>exact Src.ofSlice _ hk ad 0 cap [] (by simp) (fun j u h=>by simp at h) (fun u h=>by cases h)
 ·refine Src.ofSlice _ hk _ _ cap _ (by rw [bD hz,hl]) (fun q u hq=>?_) hone;have hlt:q < us.length * sz:=by
   rw [← bD hz];rcases Nat.lt_or_ge q (aI us).length with h' | h'
   ·exact h'
   ·rw [List.getElem?_eq_none h'] at hq; cases hq
  obtain ⟨i,j,h1,h2,rfl⟩:=hM hlt;have hj:j < us[i].cells.size:=by rw [hz i h1]; exact h2
  rw [dQ hz i j h1 hj] at hq;rw [← Option.some.inj hq,addr_add, ← Nat.add_assoc];exact hc i j h1 hj
theorem dj {t tx ty e:TypeId} {i:TypeInfo} (ht:P.underlying t = some (.slice e)) (hinf:P.info? e = some i) {w:World} (blk off n7 sCap:Nat) (x:Value) (n:Nat) (news:List Value) (hs:Src P i.size tx x n news w)
  {vs:Array Value} {el:TypeId} (hh:w.heap[blk]? = some (.cells vs el (0,0))) (hroom:n7 + n ≤ sCap) (hfit:off + n7 * i.size + news.length ≤ vs.size) :
  (Builtin.append_ #[t,tx] ty #[.slice (some ⟨blk,off,none⟩) n7 sCap,x]).run P w = .ok (.slice (some ⟨blk,off,none⟩) (n7 + n) sCap) (w.setRow blk (wrote vs (off + n7 * i.size) news)):=by
 have hst:=run_storeCells_at P blk (off + n7 * i.size) el news 0 vs w hh (by simpa using hfit) hs.one;simp only [Nat.add_zero] at hst;rcases hs.kind with ⟨e',hk⟩ | hk <;> simp [Builtin.append_,run_underlying ht,run_underlying hk,sizeOf,typeInfo,hinf,hs.len,hroom,hs.cells,addr_add,hst,wrote]
theorem Inv.drew (hi:Inv A s):Inv A { s with w:=s.w.drew } ∧ aT s { s with w:=s.w.drew }:=
 hi.grow (s':={ s with w:=s.w.drew }) rfl rfl ⟨fun _ _ _ h=>h,fun _ _ h=>h,fun _ _ _=>rfl⟩ hi.below.drew (Nat.le_refl _) (fun _ _=>rfl) (fun _ _ h=>.inl h) hi.scell
theorem Inv.ql (hi:Inv A s) {b k sz:Nat} (hb:s.h[b]? = some (.spare sz k)) {xs:List aa} {us:List Value} {C:Array Value} (el:TypeId) (cap:Nat) (hcap:xs.length ≤ cap) (hC:C.size = cap * sz) (he:bV s sz xs us C) :
  ∃ s',s'.h = s.h.set b (.spare sz (k + 1)) ∧ s'.w = s.w.alloc (.cells C el) ∧ Inv A s' ∧ aT s s' ∧ Rv s' (.oslice sz xs b (k + 1)) (.slice (some ⟨s.w.heap.size,0,none⟩) xs.length cap):=by
 have hblt:b < s.h.length:=(List.getElem?_eq_some_iff.1 hb).1;obtain ⟨hno,_⟩:=hi.obj b _ hb
 let c:Value:=.slice (some ⟨s.w.heap.size,0,none⟩) xs.length cap
 let s':St:={ h:=s.h.set b (.spare sz (k + 1)),lam:=aO s.lam b (k + 1) c,S:=fun blk o=>s.S blk o ∨ (blk = s.w.heap.size ∧ o < xs.length * sz),w:=s.w.alloc (.cells C el) }
 have hk:aL s s':=⟨aJ (hno _ (by omega)),fun _ _ h=>.inl h,fun blk o hs=>World.cell?_alloc_lt _ _ (a:=⟨blk,o,none⟩) (hi.scell blk o hs)⟩;have hnew:s'.w.heap[s.w.heap.size]? = some (.cells C el (0,0)):=by show (s.w.heap.push _)[s.w.heap.size]? = _; simp
 have hgo:=hi.change (s':=s') hblt rfl hk (hi.below.alloc hi.below.size _) (by simp [s']) (fun b' k hne=>av (.inl hne))
  (fun blk hlt _=>Below.heap_alloc _ _ _ hlt)
  ⟨fun k' hk'=>(av (.inr (by omega))).trans (hno k' (by omega)),_,xs.length,cap,aC _ _ _ _,hcap,fun hlt=>⟨s.w.heap.size,0,C,el,rfl,hi.below.size,hnew,by omega,fun o ho hs=>by
   rcases hs with hs | ⟨_,hs⟩
   ·have:=hi.scell _ _ hs; omega
   ·omega⟩⟩
  (fun blk ho=>by
   obtain ⟨off,len,cap',e,hlt⟩:=ho;have e':aO s.lam b (k + 1) c b (k + 1) = _:=e;simp [c] at e'
   left; omega)
  (fun blk x h=>h.imp id fun h=>.inl (by omega)) (fun blk x h=>by
   rcases h with h | ⟨h,_⟩
   ·have:=hi.scell _ _ h; simp [s']; omega
   ·simp [s']; omega)
 refine ⟨s',rfl,rfl,hgo.1,hgo.2, .oslice _ _ _ _ _ ?_ (aC _ _ _ _)⟩;refine .slice sz xs _ 0 _ cap us he.len rfl hcap (fun i h1 h2=>(he.rv i h1 h2).1.keeps hk) (fun i h2=>⟨(he.rv i (by have:=he.len; omega) h2).2,fun j hj=>?_⟩);have hsz:=(he.rv i (by have:=he.len; omega) h2).2;have hlt:i * sz + j < xs.length * sz:=bY (by have:=he.len; omega) (by omega);rw [Nat.zero_add];refine ⟨.inr ⟨rfl,hlt⟩, ?_⟩;show (s.w.alloc (.cells C el)).cell? _ = _
 rw [World.cell?_alloc_new];exact he.cell i j h2 hj
theorem Inv.rQ (hi:Inv A s) {b k sz:Nat} (hb:s.h[b]? = some (.spare sz k)) {xs ys:List aa} {c:Value} {us:List Value} (hc:Rv s (.slice sz xs) c) (hl:s.lam b k = some c) (hul:us.length = ys.length)
  (hr:∀ i (h1:i < ys.length) (h2:i < us.length),Rv s ys[i] us[i]) (hz:∀ i (h2:i < us.length),us[i].cells.size = sz) {blk off cap:Nat} (hcv:c = .slice (some ⟨blk,off,none⟩) xs.length cap) (hroom:xs.length + ys.length ≤ cap)
  (hlt:xs.length < cap) {vs:Array Value} {el:TypeId} (hh:s.w.heap[blk]? = some (.cells vs el (0,0))) :
  off + xs.length * sz + (aI us).length ≤ vs.size ∧
  ∃ s',s'.h = s.h.set b (.spare sz (k + 1)) ∧ s'.w = s.w.setRow blk (wrote vs (off + xs.length * sz) (aI us)) ∧ Inv A s' ∧ aT s s' ∧
   Rv s' (.oslice sz (xs ++ ys) b (k + 1)) (.slice (some ⟨blk,off,none⟩) (xs.length + ys.length) cap):=by
 have hblt:b < s.h.length:=(List.getElem?_eq_some_iff.1 hb).1;obtain ⟨hno,a,len,cap',hl',hle,hx⟩:=hi.obj b _ hb;have e1:a = some ⟨blk,off,none⟩ ∧ len = xs.length ∧ cap' = cap:=by rw [hl,hcv] at hl'; simp at hl'; exact ⟨hl'.1.symm,hl'.2.1.symm,hl'.2.2.symm⟩
 obtain ⟨rfl,rfl,rfl⟩:=e1;obtain ⟨blk',off',vs',el',ha,hB,hh',hfitc,hnS⟩:=hx hlt;have e2:blk' = blk ∧ off' = off:=by simp at ha; exact ⟨ha.1.symm,ha.2.symm⟩
 obtain ⟨rfl,rfl⟩:=e2;have e3:vs' = vs:=by rw [hh] at hh'; simp at hh'; exact hh'.1.symm
 subst e3;have hfl:=bD hz;have hmul:(xs.length + ys.length) * sz ≤ cap' * sz:=Nat.mul_le_mul_right _ hroom;rw [Nat.add_mul] at hmul;have hfit:off' + xs.length * sz + (aI us).length ≤ vs'.size:=by rw [hfl,hul]; omega
 refine ⟨hfit, ?_⟩;have hown:bu s b (.spare sz k) blk':=⟨off',xs.length,cap',hl',hlt⟩;have hblk:blk' < s.w.heap.size:=(Array.getElem?_eq_some_iff.1 hh).1
 let cn:Value:=.slice (some ⟨blk',off',none⟩) (xs.length + ys.length) cap'
 let s':St:={ h:=s.h.set b (.spare sz (k + 1)),lam:=aO s.lam b (k + 1) cn,S:=fun g o=>s.S g o ∨ (g = blk' ∧ off' + xs.length * sz ≤ o ∧ o < off' + xs.length * sz + (aI us).length),w:=s.w.setRow blk' (wrote vs' (off' + xs.length * sz) (aI us)) }
 have hcell:∀ o,s'.w.cell? ⟨blk',o,none⟩ = if off' + xs.length * sz ≤ o ∧ o < off' + xs.length * sz + (aI us).length then (aI us)[o - (off' + xs.length * sz)]? else s.w.cell? ⟨blk',o,none⟩:=by
  intro o;have h1:=setRow_heap s.w blk' vs' (wrote vs' (off' + xs.length * sz) (aI us)) el (0,0) hh;simp only [World.cell?,s',h1,hh];exact e7 hfit o
 have hk:aL s s':=⟨aJ (hno _ (by omega)),fun _ _ h=>.inl h,fun g o hs=>by
  by_cases hg:g = blk'
  ·subst hg;rw [hcell,if_neg];rintro ⟨h1,_⟩;exact hnS o h1 hs
  ·exact World.cell?_of_block (a:=⟨g,o,none⟩) (setRow_other _ _ _ _ hg)⟩
 have hgo:=hi.change (s':=s') hblt rfl hk (hi.below.trans ⟨rfl,rfl,rfl,by simp [s'],fun g hg=>setRow_other _ _ _ _ (by omega)⟩) (by simp [s']) (fun b' k hne=>av (.inl hne))
  (fun g _ hno=>setRow_other _ _ _ _ (fun e=>hno (e ▸ ⟨_,hb,hown⟩)))
  ⟨fun k' hk'=>(av (.inr (by omega))).trans (hno k' (by omega)),_,_,cap',aC _ _ _ _,hroom,fun hlt2=>⟨blk',off',_,el,rfl,hB,setRow_heap s.w blk' vs' _ el (0,0) hh,by rw [eu hfit]; exact hfitc,fun o ho hs=>by
   rw [Nat.add_mul] at ho;rcases hs with hs | ⟨_,_,hs⟩
   ·exact hnS o (by omega) hs
   ·rw [hfl,hul] at hs; omega⟩⟩
  (fun g ho=>by
   obtain ⟨off2,len2,cap2,e,hlt2⟩:=ho;have e':aO s.lam b (k + 1) cn b (k + 1) = _:=e;simp [cn] at e';right
   rw [← e'.1.1]; exact ⟨_,hb,hown⟩)
  (fun g x h=>h.imp id fun h=>.inr (by rw [h.1]; exact ⟨_,hb,hown⟩)) (fun g x h=>by
   rcases h with h | ⟨h,_⟩
   ·have:=hi.scell _ _ h; simp [s']; omega
   ·simp [s']; omega)
 refine ⟨s',rfl,rfl,hgo.1,hgo.2, .oslice _ _ _ _ _ ?_ (aC _ _ _ _)⟩;obtain ⟨a2,cap2,e4,h5⟩:=hc.bL;rw [hcv] at e4;have hux:∃ ux:List Value,ux.length = xs.length ∧ (∀ i (h1:i < xs.length) (h2:i < ux.length),Rv s xs[i] ux[i]) ∧ ∀ i (h2:i < ux.length),ux[i].cells.size = sz ∧ jH s blk' (off' + i * sz) ux[i]:=by
  rcases h5 with rfl | ⟨g,o,ux,rfl,q1,q2,q3,q4⟩
  ·exact ⟨[],rfl,fun i h1=>by simp at h1,fun i h1=>by simp at h1⟩
  ·simp at e4;obtain ⟨⟨rfl,rfl⟩,_⟩:=e4;exact ⟨ux,q1,q3,q4⟩
 obtain ⟨ux,q1,q3,q4⟩:=hux;refine .slice sz (xs ++ ys) blk' off' _ cap' (ux ++ us) (by simp [q1,hul]) (by simp) hroom (fun i h1 h2=>?_) (fun i h2=>?_)
 ·by_cases hlt3:i < xs.length
  ·have hlt4:i < ux.length:=by omega
   rw [List.getElem_append_left hlt3,List.getElem_append_left hlt4];exact (q3 i hlt3 hlt4).keeps hk
  ·have hlt4:¬ i < ux.length:=by omega
   rw [List.getElem_append_right (by omega),List.getElem_append_right (by omega)];simp only [q1];exact (hr (i - xs.length) (by simp at h1; omega) (by simp at h2; omega)).keeps hk
 ·by_cases hlt4:i < ux.length
  ·simp only [List.getElem_append_left hlt4];exact ⟨(q4 i hlt4).1,(q4 i hlt4).2.keeps hk⟩
  ·simp only [List.getElem_append_right (show ux.length ≤ i by omega)];have hlt5:i - ux.length < us.length:=by simp at h2; omega
   refine ⟨hz _ hlt5,fun j hj=>?_⟩;have hjz:j < sz:=by rw [hz _ hlt5] at hj; exact hj
   have hidx:(i - ux.length) * sz + j < us.length * sz:=bY hlt5 hjz;have hpos:off' + i * sz + j = off' + xs.length * sz + ((i - ux.length) * sz + j):=by
    have:i = xs.length + (i - ux.length):=by omega
    conv=>lhs; rw [this]
    rw [Nat.add_mul]; omega
   refine ⟨.inr ⟨rfl,by omega,by rw [hfl]; omega⟩, ?_⟩;rw [hpos,hcell,if_pos ⟨by omega,by rw [hfl]; omega⟩,show off' + xs.length * sz + ((i - ux.length) * sz + j) - (off' + xs.length * sz) = (i - ux.length) * sz + j by omega];exact dQ hz _ j hlt5 hj
/-! ### An array of the call's own -/
theorem iN {α:Type} {xs ys:List α} {p:Nat} (hp:p ≤ xs.length) (i:Nat):(xs.take p ++ ys ++ xs.drop (p + ys.length))[i]? = if p ≤ i ∧ i < p + ys.length then ys[i - p]? else xs[i]?:=by
 have h1:(xs.take p).length = p:=by simp; omega
 by_cases c1:i < p
 ·rw [if_neg (by omega),List.append_assoc,List.getElem?_append_left (by omega),List.getElem?_take_of_lt c1]
 ·by_cases c2:i < p + ys.length
  ·rw [if_pos (by omega),List.append_assoc,List.getElem?_append_right (by omega),h1,List.getElem?_append_left (by omega)]
  ·rw [if_neg (by omega),List.getElem?_append_right (by simp; omega)];simp only [List.length_append,h1,List.getElem?_drop];congr 1; omega
theorem fb {α:Type} {xs ys:List α} {p:Nat} (hp:p ≤ xs.length):(xs.take p ++ ys ++ xs.drop (p + ys.length)).length = max xs.length (p + ys.length):=by
 simp; omega
theorem bV.putRow {sz:Nat} {xs ys:List aa} {us ws:List Value} {C:Array Value} (h:bV s sz xs us C) (hwl:ws.length = ys.length) (hr:∀ i (h1:i < ys.length) (h2:i < ws.length),Rv s ys[i] ws[i])
  (hz:∀ i (h2:i < ws.length),ws[i].cells.size = sz) {p:Nat} (hp:p ≤ xs.length) (hfit:p * sz + (aI ws).length ≤ C.size) :
  bV s sz (xs.take p ++ ys ++ xs.drop (p + ys.length)) (us.take p ++ ws ++ us.drop (p + ws.length)) (wrote C (p * sz) (aI ws)):=by
 have hul:=h.len;have hp':p ≤ us.length:=by omega
 have hlen:(us.take p ++ ws ++ us.drop (p + ws.length)).length = (xs.take p ++ ys ++ xs.drop (p + ys.length)).length:=by rw [fb hp,fb hp']; omega
 refine ⟨hlen,fun i h1 h2=>?_,fun i j h2 hj=>?_⟩
 ·have e1:=iN (ys:=ys) hp i;have e2:=iN (ys:=ws) hp' i;rw [List.getElem?_eq_getElem h1] at e1;rw [List.getElem?_eq_getElem h2] at e2;rw [fb hp] at h1;by_cases c:p ≤ i ∧ i < p + ys.length
  ·rw [if_pos c,List.getElem?_eq_getElem (by omega)] at e1;rw [if_pos (by omega),List.getElem?_eq_getElem (by omega)] at e2;rw [Option.some.inj e1,Option.some.inj e2];exact ⟨hr _ _ _,hz _ _⟩
  ·rw [if_neg c,List.getElem?_eq_getElem (by omega)] at e1;rw [if_neg (by omega),List.getElem?_eq_getElem (by omega)] at e2;rw [Option.some.inj e1,Option.some.inj e2];exact h.rv i (by omega) (by omega)
 ·have e2:=iN (ys:=ws) hp' i;rw [List.getElem?_eq_getElem h2] at e2;have hlt:=h2;rw [fb hp'] at hlt;rw [e7 hfit,bD hz];by_cases c:p ≤ i ∧ i < p + ws.length
  ·have hlt2:i - p < ws.length:=by omega
   rw [if_pos c,List.getElem?_eq_getElem hlt2] at e2;have e3:=Option.some.inj e2;have hj2:j < ws[i - p].cells.size:=by rw [e3] at hj; exact hj
   have hjz:j < sz:=by rw [hz _ hlt2] at hj2; exact hj2
   have hm:=bY hlt2 hjz;have hpos:i * sz + j = p * sz + ((i - p) * sz + j):=by
    have:i = p + (i - p):=by omega
    conv=>lhs; rw [this]
    rw [Nat.add_mul]; omega
   rw [if_pos ⟨by omega,by omega⟩,hpos,show p * sz + ((i - p) * sz + j) - p * sz = (i - p) * sz + j by omega,dQ hz _ j hlt2 hj2];simp only [e3]
  ·have hlt2:i < us.length:=by omega
   rw [if_neg c,List.getElem?_eq_getElem hlt2] at e2;have e3:=Option.some.inj e2;have hj2:j < us[i].cells.size:=by rw [e3] at hj; exact hj
   have hjz:j < sz:=by rw [(h.rv i (by omega) hlt2).2] at hj2; exact hj2
   rw [if_neg]
   ·simp only [e3]; exact h.cell i j hlt2 hj2
   ·rintro ⟨q1,q2⟩;rcases Nat.lt_or_ge i p with h3 | h3
    ·have:=bY h3 hjz; omega
    ·have h4:p + ws.length ≤ i:=by omega
     have:=Nat.mul_le_mul_right sz h4;rw [Nat.add_mul] at this; omega
theorem gf.eX {B b sz:Nat} {xs:List aa} (h:gf s B b (.arr sz xs)):(xs = [] ∧ ∃ a,s.lam b 0 = some (.slice a 0 0)) ∨
  ∃ blk cap vs el us,0 < cap ∧ s.lam b xs.length = some (.slice (some ⟨blk,0,none⟩) xs.length cap) ∧ B ≤ blk ∧ s.w.heap[blk]? = some (.cells vs el (0,0)) ∧ vs.size = cap * sz ∧ xs.length ≤ cap ∧ bV s sz xs us vs ∧ ∀ o, ¬ s.S blk o:=by
 rcases h.2 with h | ⟨blk,cap,vs,el,us,h0,hl,hB,hh,hsz,hc,hu,hr,hv,hn⟩
 ·exact .inl h
 ·exact .inr ⟨blk,cap,vs,el,us,h0,hl,hB,hh,hsz,hc,⟨hu,fun i h1 h2=>hr i h1 h2,hv⟩,hn.1⟩
theorem gf.sV {B b sz:Nat} {xs:List aa} (h:gf s B b (.arr sz xs)) {blk cap:Nat} (h0:0 < cap) (hl:s.lam b xs.length = some (.slice (some ⟨blk,0,none⟩) xs.length cap)):cap ≤ 9223372036854775807:=by
 rcases h.2 with ⟨rfl,a,h1⟩ | ⟨blk',cap',vs,el,us,h0',hl',_,_,_,_,_,_,_,_,hc⟩
 ·rw [List.length_nil,h1] at hl; simp at hl; omega
 ·rw [hl'] at hl; simp at hl; omega
theorem Inv.od (hi:Inv A s) {b sz:Nat} {xs:List aa} (hb:s.h[b]? = some (.arr sz xs)) {blk cap:Nat} {vs:Array Value} {el:TypeId} {us:List Value} (h0:0 < cap) (hl:s.lam b xs.length = some (.slice (some ⟨blk,0,none⟩) xs.length cap))
  (hh:s.w.heap[blk]? = some (.cells vs el (0,0))) (hvs:vs.size = cap * sz) (hel:bV s sz xs us vs) (hnS:∀ o, ¬ s.S blk o) (hB:A.heap.size ≤ blk)
  {ys:List aa} {ws:List Value} (hwl:ws.length = ys.length) (hr:∀ i (h1:i < ys.length) (h2:i < ws.length),Rv s ys[i] ws[i]) (hz:∀ i (h2:i < ws.length),ws[i].cells.size = sz)
  {p:Nat} (hp:p ≤ xs.length) (hroom:p + ys.length ≤ cap) (hcap:xs.length ≤ cap) :
  p * sz + (aI ws).length ≤ vs.size ∧
  ∃ s',s'.h = s.h.set b (.arr sz (xs.take p ++ ys ++ xs.drop (p + ys.length))) ∧ s'.w = s.w.setRow blk (wrote vs (p * sz) (aI ws)) ∧ Inv A s' ∧ aT s s' ∧
   s'.lam b (max xs.length (p + ys.length)) = some (.slice (some ⟨blk,0,none⟩) (max xs.length (p + ys.length)) cap):=by
 have hblt:b < s.h.length:=(List.getElem?_eq_some_iff.1 hb).1;have hno:=(hi.obj b _ hb).1;have hown:bu s b (.arr sz xs) blk:=⟨cap,h0,hl⟩;have hblk:blk < s.w.heap.size:=(Array.getElem?_eq_some_iff.1 hh).1;have hfl:=bD hz;have hmul:(p + ys.length) * sz ≤ cap * sz:=Nat.mul_le_mul_right _ hroom;rw [Nat.add_mul] at hmul;have hfit:p * sz + (aI ws).length ≤ vs.size:=by rw [hfl,hwl]; omega
 refine ⟨hfit, ?_⟩;have hlen:=fb (ys:=ys) hp
 let n':=max xs.length (p + ys.length)
 let cn:Value:=.slice (some ⟨blk,0,none⟩) n' cap
 have hset:aO s.lam b n' cn b n' = some cn:=aC _ _ _ _
 let s':St:={ h:=s.h.set b (.arr sz (xs.take p ++ ys ++ xs.drop (p + ys.length))),lam:=aO s.lam b n' cn,S:=s.S,w:=s.w.setRow blk (wrote vs (p * sz) (aI ws)) }
 have hk:aL s s':=by
  refine ⟨fun b' k v hv=>?_,fun _ _ h=>h,fun g o hs=>?_⟩
  ·rcases Nat.lt_or_ge xs.length n' with h1 | h1
   ·exact aJ (hno n' h1) b' k v hv
   ·have:n' = xs.length:=by have:xs.length ≤ n':=Nat.le_max_left _ _; omega
    show aO s.lam b n' cn b' k = some v
    unfold aO;split
    ·rename_i e; obtain ⟨rfl,rfl⟩:=e; rw [this,hl] at hv; simp only [cn,this]; exact hv
    ·exact hv
  ·have hg:g ≠ blk:=fun e=>hnS o (e ▸ hs)
   exact World.cell?_of_block (a:=⟨g,o,none⟩) (setRow_other _ _ _ _ hg)
 have hgo:=hi.change (s':=s') hblt rfl hk (hi.below.trans ⟨rfl,rfl,rfl,by simp [s'],fun g hg=>setRow_other _ _ _ _ (by omega)⟩) (by simp [s']) (fun b' k hne=>av (.inl hne))
  (fun g _ hno=>setRow_other _ _ _ _ (fun e=>hno (e ▸ ⟨_,hb,hown⟩)))
  ⟨fun k' hk'=>by
    rw [hlen] at hk';exact (av (.inr (by have:n' = max xs.length (p + ys.length):=rfl; omega))).trans (hno k' (by omega)),
   .inr ⟨blk,cap,_,el,us.take p ++ ws ++ us.drop (p + ws.length),h0,by rw [hlen]; exact hset,hB,setRow_heap s.w blk vs _ el (0,0) hh,by rw [eu hfit]; exact hvs,by rw [hlen]; omega,
    (hel.putRow hwl hr hz hp hfit).len,fun i h1 h2=>⟨((hel.putRow hwl hr hz hp hfit).rv i h1 h2).1.keeps hk,((hel.putRow hwl hr hz hp hfit).rv i h1 h2).2⟩,(hel.putRow hwl hr hz hp hfit).cell,hnS,(hi.obj b _ hb).sV h0 hl⟩⟩
  (fun g ho=>by
   obtain ⟨cap2,_,e⟩:=ho;rw [hlen] at e;have e':aO s.lam b n' cn b n' = _:=e;simp only [aC,cn] at e';simp at e';right
   rw [← e'.1]; exact ⟨_,hb,hown⟩)
  (fun g x h=>.inl h) (fun g x h=>by have:=hi.scell _ _ h; simp [s']; omega)
 exact ⟨s',rfl,rfl,hgo.1,hgo.2,hset⟩
theorem Inv.o9 (hi:Inv A s) {b sz:Nat} {xs zs:List aa} (hb:s.h[b]? = some (.arr sz xs)) {us:List Value} {C:Array Value} (el:TypeId) (cap:Nat) (hlt:xs.length < zs.length) (hcap:zs.length ≤ cap) (hC:C.size = cap * sz) (he:bV s sz zs us C) (hcm:cap ≤ 9223372036854775807) :
  ∃ s',s'.h = s.h.set b (.arr sz zs) ∧ s'.w = s.w.alloc (.cells C el) ∧ Inv A s' ∧ aT s s' ∧ s'.lam b zs.length = some (.slice (some ⟨s.w.heap.size,0,none⟩) zs.length cap):=by
 have hblt:b < s.h.length:=(List.getElem?_eq_some_iff.1 hb).1;have hno:=(hi.obj b _ hb).1
 let c:Value:=.slice (some ⟨s.w.heap.size,0,none⟩) zs.length cap
 let s':St:={ h:=s.h.set b (.arr sz zs),lam:=aO s.lam b zs.length c,S:=s.S,w:=s.w.alloc (.cells C el) }
 have hk:aL s s':=⟨aJ (hno _ hlt),fun _ _ h=>h,fun blk o hs=>World.cell?_alloc_lt _ _ (a:=⟨blk,o,none⟩) (hi.scell blk o hs)⟩;have hnew:s'.w.heap[s.w.heap.size]? = some (.cells C el (0,0)):=by show (s.w.heap.push _)[s.w.heap.size]? = _; simp
 have hgo:=hi.change (s':=s') hblt rfl hk (hi.below.alloc hi.below.size _) (by simp [s']) (fun b' k hne=>av (.inl hne))
  (fun blk hlt _=>Below.heap_alloc _ _ _ hlt)
  ⟨fun k' hk'=>(av (.inr (by omega))).trans (hno k' (by omega)), .inr ⟨s.w.heap.size,cap,C,el,us,by omega,aC _ _ _ _,hi.below.size,hnew,hC,hcap,he.len,fun i h1 h2=>⟨(he.rv i h1 h2).1.keeps hk,(he.rv i h1 h2).2⟩,he.cell,fun o hs=>by have:=hi.scell _ _ hs; omega,hcm⟩⟩
  (fun blk ho=>by
   obtain ⟨cap',_,e⟩:=ho;have e':aO s.lam b zs.length c b zs.length = _:=e;simp [c] at e'
   left; omega)
  (fun blk x h=>.inl h) (fun blk x h=>by have:=hi.scell _ _ h; simp [s']; omega)
 exact ⟨s',rfl,rfl,hgo.1,hgo.2,aC _ _ _ _⟩
theorem Inv.iI (hi:Inv A s) {b sz:Nat} {xs:List aa} (hb:s.h[b]? = some (.arr sz xs)) {off len n:Nat} {c:Value} (hc:Rv s (.sref sz b off len n) c) (hn:xs.length = n) :
  ∃ s',s'.h = s.h.set b .dead ∧ s'.w = s.w ∧ Inv A s' ∧ aT s s' ∧ Rv s' (.slice sz ((xs.drop off).take len)) c:=by
 have hblt:b < s.h.length:=(List.getElem?_eq_some_iff.1 hb).1;by_cases hlen:len = 0
 ·subst hlen
  let s':St:={ h:=s.h.set b .dead,lam:=s.lam,S:=s.S,w:=s.w }
  have hk:aL s s':=⟨fun _ _ _ h=>h,fun _ _ h=>h,fun _ _ _=>rfl⟩;have hgo:=hi.change (s':=s') hblt rfl hk hi.below (Nat.le_refl _) (fun _ _ _=>rfl) (fun _ _ _=>rfl) trivial (fun _ h=>h.elim) (fun _ _ h=>.inl h) hi.scell;refine ⟨s',rfl,rfl,hgo.1,hgo.2, ?_⟩;simp only [List.take_zero];cases hc <;> exact .slice0 _ _ _
 ·cases hc with
  | sref0=>exact absurd rfl hlen
  | srefE=>exact absurd rfl hlen
  | sref _ _ _ _ _ blk cap hl h1 h2=>
   rcases (hi.obj b _ hb).eX with ⟨hx,_⟩ | ⟨blk',cap',vs,el,us,h0,hl',hB,hh,hvs,hcap,hel,hnS⟩
   ·subst hx; simp at hn; omega
   ·have e1:blk' = blk ∧ cap' = cap:=by rw [hn,hl] at hl'; simp at hl'; exact ⟨hl'.1.symm,hl'.2.symm⟩
    obtain ⟨rfl,rfl⟩:=e1;have hown:bu s b (.arr sz xs) blk':=⟨cap',h0,hl'⟩;have hblk:blk' < s.w.heap.size:=(Array.getElem?_eq_some_iff.1 hh).1
    let s':St:={ h:=s.h.set b .dead,lam:=s.lam,S:=fun g o=>s.S g o ∨ (g = blk' ∧ o < vs.size),w:=s.w }
    have hk:aL s s':=⟨fun _ _ _ h=>h,fun _ _ h=>.inl h,fun _ _ _=>rfl⟩;have hgo:=hi.change (s':=s') hblt rfl hk hi.below (Nat.le_refl _) (fun _ _ _=>rfl) (fun _ _ _=>rfl) trivial (fun _ h=>h.elim)
     (fun g x h=>h.imp id fun h=>.inr (by rw [h.1]; exact ⟨_,hb,hown⟩)) (fun g x h=>by
      rcases h with h | ⟨h,_⟩
      ·exact hi.scell _ _ h
      ·rw [h]; exact hblk)
    refine ⟨s',rfl,rfl,hgo.1,hgo.2, ?_⟩;have hul:=hel.len;refine .slice sz _ blk' (off * sz) len (cap' - off) ((us.drop off).take len) (by simp; omega) (by simp; omega) (by omega) (fun i g1 g2=>?_) (fun i g2=>?_)
    ·have:=(hel.rv (off + i) (by simp at g1; omega) (by simp at g2; omega)).1.keeps hk;simpa using this
    ·have hlt:off + i < us.length:=by simp at g2; omega
     have e:((us.drop off).take len)[i] = us[off + i]:=by simp
     have hz:=(hel.rv (off + i) (by omega) hlt).2;simp only [e];refine ⟨hz,fun j hj=>?_⟩;have hcl:=hel.cell (off + i) j hlt hj;have hlt2:off * sz + i * sz + j < vs.size:=by
      rcases Nat.lt_or_ge (off * sz + i * sz + j) vs.size with h' | h'
      ·exact h'
      ·rw [Nat.add_mul,Array.getElem?_eq_none h'] at hcl; cases hcl
     refine ⟨.inr ⟨rfl,hlt2⟩, ?_⟩;show World.cell? s.w _ = _
     simp only [World.cell?,hh];rw [← Nat.add_mul,hcl];rfl
theorem Inv.lb (hi:Inv A s) {b:Nat} {cs:List aa} (hb:s.h[b]? = some (.box cs)) {c:Value} (hc:Rv s (.ptr b 0) c) :
  ∃ s',s'.h = s.h.set b .dead ∧ s'.w = s.w ∧ Inv A s' ∧ aT s s' ∧ Rv s' (.pval (.agg cs)) c ∧ ∀ v,cs = [v] → v.cP = true → Rv s' (.pval v) c:=by
 have hblt:b < s.h.length:=(List.getElem?_eq_some_iff.1 hb).1;obtain ⟨blk,vs,el,hl,hB,hh,hsz,hr,hnS⟩:=hi.obj b _ hb;have hown:bu s b (.box cs) blk:=hl;have hblk:blk < s.w.heap.size:=(Array.getElem?_eq_some_iff.1 hh).1;have e1:c = .pointer (some ⟨blk,0,none⟩):=by
  cases hc with
  | ptr _ _ blk' hl'=>rw [hl] at hl'; simp at hl'; rw [hl']
 subst e1
 let s':St:={ h:=s.h.set b .dead,lam:=s.lam,S:=fun g o=>s.S g o ∨ (g = blk ∧ o < vs.size),w:=s.w }
 have hk:aL s s':=⟨fun _ _ _ h=>h,fun _ _ h=>.inl h,fun _ _ _=>rfl⟩;have hgo:=hi.change (s':=s') hblt rfl hk hi.below (Nat.le_refl _) (fun _ _ _=>rfl) (fun _ _ _=>rfl) trivial (fun _ h=>h.elim)
  (fun g x h=>h.imp id fun h=>.inr (by rw [h.1]; exact ⟨_,hb,hown⟩)) (fun g x h=>by
   rcases h with h | ⟨h,_⟩
   ·exact hi.scell _ _ h
   ·rw [h]; exact hblk)
 refine ⟨s',rfl,rfl,hgo.1,hgo.2, .pval _ (.agg vs) _ _ (.agg _ _ hsz fun j h1 h2=>(hr j h1 h2).keeps hk) (fun j hj=>?_),fun v hv hs=>?_⟩
 ·have hj':j < vs.size:=hj;refine ⟨.inr ⟨rfl,by omega⟩, ?_⟩;show World.cell? s.w _ = _
  simp only [World.cell?,hh,Nat.zero_add];simp [Value.cells,hj']
 ·subst hv;have h0:0 < vs.size:=by rw [hsz]; simp
  have hr0:=(hr 0 (by simp) h0).keeps hk;simp only [List.getElem_cons_zero] at hr0;refine .pval _ vs[0] _ _ hr0 fun j hj=>?_
  have hsc:=bT hr0 hs;have hj0:j = 0:=by rw [hsc] at hj; simp at hj; exact hj
  subst hj0;refine ⟨.inr ⟨rfl,by omega⟩, ?_⟩;show World.cell? s.w _ = _
  simp only [World.cell?,hh,Nat.zero_add];simp [hsc,h0]
end
end Go.AM
