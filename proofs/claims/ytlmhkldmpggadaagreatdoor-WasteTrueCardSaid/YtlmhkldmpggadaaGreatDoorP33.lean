/- A yard of waste that tells a truth, but for papers that are false: it closes with them. Plain. Chapter 09: of the law: numbers by turns; a yard that is told. Chapter 09: of the law: a yard that tells a truth, but for papers that are false. Chapter 09: WasteRound, by contracts. -/
import Derived.Test.YtlmhkldmpggadaaGreatDoorP32
import Derived.Test.YtlmhkldmpggadaaGreatDoorP31
namespace Go.AM
def eK (u:Nat → Nat) (hF:bc):List ay → Nat → List ay
 | [],_=>[]
 | c :: r,i=>if hF c.kind c.place ≤ 1000000 then ⟨c.kind,c.place,hF c.kind c.place - (u (2 * i):Int) % (hF c.kind c.place + 1),hF c.kind c.place + (u (2 * i + 1):Int) % (1000000 - hF c.kind c.place + 1)⟩ :: eK u hF r (i + 1) else eK u hF r (i + 1)
def eF (t:Nat → Nat) (wr:Nat → Bool) (w:List Int):List aj → Nat → List aj
 | [],_=>[]
 | p :: r,i=>{ p with kilos:=if wr i then (t (5 * i + 2):Int) % 1000001 else w.getD i 0 } :: eF t wr w r (i + 1)
def bn (y:ab) (t:Nat → Nat):bc:=Vl t y.first 0 fun _ _=>0
def cK (y:ab) (t:Nat → Nat):bc × List Int:=VB t y.papers 0 (bn y t,[])
def bd (y:ab) (t u:Nat → Nat) (wr:Nat → Bool):ab:={ y with papers:=eF t wr (cK y t).2 y.papers 0,last:=eK u (cK y t).1 y.last 0 }
def bg (y:ab) (wr:Nat → Bool):List Nat:=(List.range y.papers.length).filter wr
theorem jc (t:Nat → Nat) (wr:Nat → Bool) (w:List Int):∀ (l:List aj) (i:Nat),(eF t wr w l i).length = l.length
 | [],_=>rfl
 | p :: r,i=>by simp only [eF,List.length_cons,jc t wr w r]
theorem VE (t:Nat → Nat) (wr:Nat → Bool) (w:List Int):∀ (l:List aj) (i j:Nat) (h:j < l.length),(eF t wr w l i)[j]? = some { l[j] with kilos:=if wr (i + j) then (t (5 * (i + j) + 2):Int) % 1000001 else w.getD (i + j) 0 }
 | [],_,j,h=>by simp at h
 | p :: r,i,0,_=>rfl
 | p :: r,i,j + 1,h=>by
  simp only [eF,List.getElem?_cons_succ,List.getElem_cons_succ];rw [VE t wr w r (i + 1) j (by simpa using h),show i + 1 + j = i + (j + 1) by omega]
theorem e8 {u:Nat → Nat} {hF:bc}:∀ {l:List ay} {i:Nat} {d:ay},d ∈ eK u hF l i → ∃ c ∈ l, ∃ j,hF c.kind c.place ≤ 1000000 ∧ d = ⟨c.kind,c.place,hF c.kind c.place - (u (2 * j):Int) % (hF c.kind c.place + 1),hF c.kind c.place + (u (2 * j + 1):Int) % (1000000 - hF c.kind c.place + 1)⟩
 | [],_,_,h=>by simp [eK] at h
 | c :: r,i,d,h=>by
  simp only [eK] at h
  split at h
  ·rename_i hc;rcases List.mem_cons.1 h with rfl | h
   ·exact ⟨c,by simp,i,hc,rfl⟩
   ·obtain ⟨c',h1,h2⟩:=e8 h;exact ⟨c',by simp [h1],h2⟩
  ·obtain ⟨c',h1,h2⟩:=e8 h;exact ⟨c',by simp [h1],h2⟩
theorem wc {u:Nat → Nat} {hF:bc}:∀ {l:List ay} {i:Nat},(l.Pairwise fun c d=>¬ (c.kind = d.kind ∧ c.place = d.place)) → (eK u hF l i).Pairwise fun c d=>¬ (c.kind = d.kind ∧ c.place = d.place)
 | [],_,_=>.nil
 | c :: r,i,h=>by
  obtain ⟨h1,h2⟩:=List.pairwise_cons.1 h;simp only [eK];split
  ·refine List.pairwise_cons.2 ⟨fun d hd=>?_,wc h2⟩;obtain ⟨c',h3,j,_,e⟩:=e8 hd;rw [e]; exact h1 c' h3
  ·exact wc h2
theorem B2 {u:Nat → Nat} {hF:bc}:∀ (l:List ay) (i:Nat),(eK u hF l i).length ≤ l.length
 | [],_=>Nat.le_refl _
 | c :: r,i=>by
  simp only [eK];split
  ·simp [B2 r]
  ·have:=B2 (u:=u) (hF:=hF) r (i + 1); simp; omega
theorem pf {nm:ByteArray → Bool} {y:ab} (h:bJ nm y) (t:Nat → Nat):VH y (bn y t) y.papers.length (cK y t):=by
 have h0:VH y (bn y t) 0 (bn y t,[]):=by
  refine ⟨rfl,fun j hj=>by omega,fun j hj=>by omega,fun k a=>?_,fun k a _=>by simp [ak]⟩;have:=Vv t (k:=k) (a:=a) y.first 0 (fun _ _=>0) (fun c hc=>(h.first.1 c hc).toEy) h.first.2 rfl
  have hb:=(bx (l:=y.first) (fun c hc=>(h.first.1 c hc).toEy) k a).1;unfold Big at hb;unfold bn;dsimp only;omega
 have:=VI h t y.papers.length 0 _ (by omega) h0;rw [List.drop_zero] at this;exact this
theorem Va {nm:ByteArray → Bool} {y:ab} (h:bJ nm y) (t:Nat → Nat) (k a:Int):loC (aB y.first k a) ≤ bn y t k a ∧ bn y t k a ≤ hiC (aB y.first k a) ∧ bn y t k a ≤ 1000000:=by
 have:=Vv t (k:=k) (a:=a) y.first 0 (fun _ _=>0) (fun c hc=>(h.first.1 c hc).toEy) h.first.2 rfl
 have hb:=(bx (l:=y.first) (fun c hc=>(h.first.1 c hc).toEy) k a).2.1;unfold Big at hb;unfold bn;omega
theorem gh {nm:ByteArray → Bool} {y:ab} (h:bJ nm y) (t:Nat → Nat) (j:Nat):0 ≤ (cK y t).2.getD j 0 ∧ (cK y t).2.getD j 0 ≤ 1000000:=by
 have hw:=pf h t;rcases Nat.lt_or_ge j y.papers.length with hlt | hge
 ·exact hw.val j hlt
 ·rw [List.getD_eq_getElem?_getD,List.getElem?_eq_none (by rw [hw.len]; exact hge)]; simp
theorem l0 {y:ab} {t u:Nat → Nat} {wr:Nat → Bool} {j:Nat} (hj:j < y.papers.length):(bd y t u wr).papers[j]? = some { y.papers[j] with kilos:=if wr j then (t (5 * j + 2):Int) % 1000001 else (cK y t).2.getD j 0 }:=by
 have:=VE t wr (cK y t).2 y.papers 0 j hj;rw [Nat.zero_add] at this;exact this
theorem cQ {y:ab} {t u:Nat → Nat} {wr:Nat → Bool}:(bd y t u wr).papers.length = y.papers.length:=jc _ _ _ _ _
theorem Vb {y:ab} {t u:Nat → Nat} {wr:Nat → Bool} {j:Nat} (hj:j < y.papers.length) (hj2:j < (bd y t u wr).papers.length):(bd y t u wr).papers[j] = { y.papers[j] with kilos:=if wr j then (t (5 * j + 2):Int) % 1000001 else (cK y t).2.getD j 0 }:=by
 have:=l0 (t:=t) (u:=u) (wr:=wr) hj;rw [List.getElem?_eq_getElem hj2] at this;exact Option.some.inj this
theorem wb {nm:ByteArray → Bool} {y:ab} (h:bJ nm y) (t u:Nat → Nat) (wr:Nat → Bool):bJ nm (bd y t u wr):=by
 have hw:=pf h t;refine ⟨h.k4,h.p4,by rw [cQ]; exact h.m10,h.f8,Nat.le_trans (B2 _ _) h.l8,h.kinds,h.places,⟨fun c hc=>⟨(h.first.1 c hc).toEy,(h.first.1 c hc).kind,(h.first.1 c hc).place⟩,h.first.2⟩,fun j hj=>?_,⟨fun d hd=>?_,wc h.last.2⟩⟩
 ·have hj':j < y.papers.length:=by rwa [cQ] at hj
  have hp:=h.papers j hj';rw [Vb hj' hj];refine ⟨hp.kind,hp.src,hp.dst,hp.ne, ?_, ?_⟩
  ·dsimp only;split
   ·have h1:=Int.emod_nonneg (t (5 * j + 2):Int) (show (1000001:Int) ≠ 0 by omega);have h2:=Int.emod_lt_of_pos (t (5 * j + 2):Int) (show (0:Int) < 1000001 by omega);exact ⟨h1,by omega⟩
   ·exact gh h t j
  ·dsimp only;rw [cQ];rcases hp.copy with hc | ⟨c1,c2,c3,q,hq,c4⟩
   ·exact .inl hc
   ·obtain ⟨hcl,hcq⟩:=List.getElem?_eq_some_iff.1 hq;refine .inr ⟨c1,c2,c3,_,l0 hcl, ?_⟩;dsimp only;rw [hcq]; exact c4
 ·obtain ⟨c,hc,j,hn,rfl⟩:=e8 hd;have hv:=h.last.1 c hc;have hnn:=hw.nn c.kind c.place;have m1:=an (u (2 * j)) hnn;have m2:=an (u (2 * j + 1)) (show 0 ≤ 1000000 - (cK y t).1 c.kind c.place by omega);exact ⟨⟨⟨by dsimp only; omega,by dsimp only; omega⟩,⟨by dsimp only; omega,by dsimp only; omega⟩,by dsimp only; omega⟩,hv.kind,hv.place⟩
theorem Vq {y:ab} {t u:Nat → Nat} {wr:Nat → Bool} (w:List Int) (k a:Int):ak w k a (bd y t u wr).papers 0 = ak w k a y.papers 0:=by
 have key:∀ (l:List aj) (i j:Nat),ak w k a (eF t wr (cK y t).2 l i) j = ak w k a l j:=by
  intro l
  induction l with
  | nil=>intro i j; rfl
  | cons p r ih=>intro i j; simp only [eF,ak,ih]; rfl
 exact key _ _ _
theorem VM {nm:ByteArray → Bool} {y:ab} (h:bJ nm y) (t u:Nat → Nat) (wr:Nat → Bool):V7 (bd y t u wr) (bg y wr) (bn y t) (cK y t).1 (cK y t).2 ∧ ∀ i,i < y.papers.length → cD (bd y t u wr) (bg y wr) i = false:=by
 have hz:=wb h t u wr;have hw:=pf h t;have hmem:∀ j,j < y.papers.length → (j ∈ bg y wr ↔ wr j = true):=fun j hj=>by
  unfold bg; rw [List.mem_filter,List.mem_range]; exact ⟨fun e=>e.2,fun e=>⟨hj,e⟩⟩
 have hk:∀ j,j < y.papers.length → j ∉ bg y wr → bM (bd y t u wr) j = (cK y t).2.getD j 0:=fun j hj hn=>by
  unfold bM;rw [l0 hj];have:wr j = false:=by rw [Bool.eq_false_iff]; exact fun e=>hn ((hmem j hj).2 e)
  dsimp only;rw [this]; simp
 -- both copies went the same
 have hsame:∀ i (hi:i < y.papers.length) (c:Nat),y.papers[i].copy = c → i < c → c < y.papers.length ∧ (cK y t).2.getD c 0 = (cK y t).2.getD i 0:=by
  intro i hi c hc hlt;rcases sc h hi with e | ⟨c',e,hcl,_,_,e2,_⟩
  ·omega
  ·obtain rfl:c' = c:=by omega
   refine ⟨hcl, ?_⟩;have hl:br y.papers[c'] c' = false:=by
    unfold br;rw [e2,decide_eq_false (show ¬ ((i:Int) < 0) by omega),decide_eq_false (show ¬ ((c':Int) < (i:Int)) by omega)]; rfl
   have:=hw.pair c' hcl hcl hl;rw [e2] at this;simpa using this
 refine ⟨⟨fun k a=>?_,fun k a=>?_,fun i hi hl=>?_,fun k a ha=>?_⟩,fun i hi=>?_⟩
 ·have:=Va h t k a;exact ⟨this.1,this.2.1⟩
 ·have hnn:=hw.nn k a;have hbal:=hw.bal k a (by omega);rw [List.take_length] at hbal;have hcb:=Vc (fun j=>gh h t j) k a y.papers 0;have hs:=Va h t k a;have hm:=h.m10;unfold dh
  cases hf:aB (bd y t u wr).last k a with
  | none=>
   simp only [loC,aw];omega
  | some d=>
   have hd:=List.mem_of_find?_eq_some hf;have hp:=List.find?_some hf;simp only [Bool.and_eq_true,decide_eq_true_eq] at hp;obtain ⟨c,hc,j,hn,e⟩:=e8 hd;have e1:c.kind = k:=by rw [← hp.1,e]
   have e2:c.place = a:=by rw [← hp.2,e]
   rw [e1,e2] at hn e;have m1:=an (u (2 * j)) hnn;have m2:=an (u (2 * j + 1)) (show 0 ≤ 1000000 - (cK y t).1 k a by omega);rw [e];simp only [loC];omega
 ·have hi':i < y.papers.length:=by rwa [cQ] at hi
  have hg:=gh h t i;rw [Vb hi' hi] at hl ⊢;obtain ⟨q,hqe⟩:∃ q:aj,({ y.papers[i] with kilos:=if wr i then (t (5 * i + 2):Int) % 1000001 else (cK y t).2.getD i 0 }:aj) = q:=⟨_,rfl⟩;have hqc:q.copy = y.papers[i].copy:=by rw [← hqe]
  have hqk:q.kilos = if wr i then (t (5 * i + 2):Int) % 1000001 else (cK y t).2.getD i 0:=by rw [← hqe]
  rw [hqe] at hl ⊢;rcases sc h hi' with hc | ⟨c,hc,_,hcne,_⟩
  ·rw [zc (show q.copy < 0 by omega)];by_cases hin:i ∈ bg y wr
   ·rw [if_pos hin]; exact hg
   ·rw [if_neg hin];have:wr i = false:=by rw [Bool.eq_false_iff]; exact fun e=>hin ((hmem i hi').2 e)
    rw [hqk,this]; simp
  ·have hlt:i < c:=by
    unfold br at hl;rw [hqc,hc] at hl;simp at hl; omega
   obtain ⟨hcl,hsm⟩:=hsame i hi' c hc hlt;rw [zr (c:=c) (show q.copy = c by omega) hlt];by_cases hin:i ∈ bg y wr
   ·rw [if_neg (by simpa using hin)];by_cases hin2:c ∈ bg y wr
    ·rw [if_neg (by simpa using hin2)]; exact hg
    ·rw [if_pos hin2,hk c hcl hin2,hsm]; simp
   ·rw [if_pos hin,hk i hi' hin]; simp
 ·have:=hw.bal k a ha;rw [List.take_length] at this;rw [Vq]; exact this
 ·unfold cD;rw [l0 hi];dsimp only;rcases sc h hi with hc | ⟨c,hc,_,hcne,_⟩
  ·rw [hc,decide_eq_false (show ¬ ((i:Int) < -1) by omega)]; rfl
  ·have e3:y.papers[i].copy.toNat = c:=by omega
   rw [e3,hc];by_cases hlt:i < c
   ·obtain ⟨hcl,hsm⟩:=hsame i hi c hc hlt;by_cases hin:i ∈ bg y wr
    ·rw [ix.2 hin]; simp
    ·by_cases hin2:c ∈ bg y wr
     ·rw [ix.2 hin2]; simp
     ·have:wr i = false:=by rw [Bool.eq_false_iff]; exact fun e=>hin ((hmem i hi).2 e)
      rw [hk c hcl hin2,hsm,this]; simp
   ·rw [decide_eq_false (show ¬ ((i:Int) < (c:Int)) by omega)]; rfl
theorem V3 {nm:ByteArray → Bool} {y:ab} (h:bJ nm y) (t u:Nat → Nat) (wr:Nat → Bool) :
  aP (bd y t u wr) (bg y wr) = true ∧
  (∀ i,i < y.papers.length → ∀ lo hi,jE (bd y t u wr) (bg y wr) i lo hi → lo ≤ (cK y t).2.getD i 0 ∧ (cK y t).2.getD i 0 ≤ hi) ∧
  ∀ k lo hi,iw (bd y t u wr) (bg y wr) k lo hi → lo ≤ ak (cK y t).2 k (-1) y.papers 0 ∧ ak (cK y t).2 k (-1) y.papers 0 ≤ hi:=by
 have hz:=wb h t u wr;obtain ⟨ht,hd⟩:=VM h t u wr;have hc:=fun k=>VL hz (fun j=>gh h t j) ht k;refine ⟨(iK hz _).2 ⟨fun i hi=>hd i (by rwa [cQ] at hi),fun k _=>⟨_,hc k⟩⟩,fun i hi lo hi' hr=>?_,fun k lo hi' hr=>?_⟩
 ·have h1 := hr.all _ (hc _);have hi2:i < (bd y t u wr).papers.length:=by rw [cQ]; exact hi
  rw [V1 hz hi2] at h1;have e:(cK y t).2.getD (bH (bd y t u wr) i) 0 = (cK y t).2.getD i 0:=by
   have hw:=pf h t;obtain ⟨hl,_,_,l3,_⟩:=k8 hz hi2;rcases l3 with e | ⟨e1,e2⟩
   ·rw [e]
   ·rw [Vb hi hi2] at e2;dsimp only at e2;by_cases hlead:br y.papers[i] i = true
    ·-- the first paper of a journey leads
     exfalso;have g1:=Vb (t:=t) (u:=u) (wr:=wr) (show bH (bd y t u wr) i < y.papers.length by rw [cQ] at hl; exact hl) hl;have hlt:¬ bH (bd y t u wr) i < i ∨ bH (bd y t u wr) i < i:=by omega
     unfold br at hlead;rw [e2] at hlead;simp at hlead;have hle:bH (bd y t u wr) i ≤ i:=by
      unfold bH;rw [l0 hi];dsimp only
      split <;> omega
     omega
    ·have:=hw.pair i hi hi (by simpa using hlead);rw [e2] at this;rw [this]; simp
  rw [e] at h1; exact h1
 ·have h1:=hr.all _ (hc k);rw [VX,Vq] at h1;exact h1
open Go.Proofs
set_option maxRecDepth 100000
set_option maxHeartbeats 4000000
abbrev ka (n:Nat):ag:=.int .u32 n
def cA (l:List Nat) (n:Nat):Nat:=if l.length = 0 then 0 else l.getD (n % l.length) 0
theorem sh (l:List Nat) (hl:l.length ≤ maxLen) (hb:∀ x ∈ l,x ≤ 4294967295) (n:Nat) (σ:af) :
  Spec Tryz.prog V4 [.slice 1 (l.map ka),ii' n] σ fun r σ'=>r = .ret (ii' (cA l n)) ∧ σ' = σ:=by
 refine Spec.aF (Wh (by simp) (aa _ ?_)) (by simp [aH,ag.pure,aD (f:=ka) (fun _=>rfl)]) rfl σ;unfold cA;by_cases h0:l.length = 0
 ·rw [if_pos h0];have h0':l = []:=List.length_eq_zero_iff.1 h0;subst h0';simp [V5]
 rw [if_neg h0];have h0I:¬ (l.length:Int) = 0:=by omega
 have h0':¬ l = []:=fun e=>h0 (by rw [e]; rfl);have hr:((n:Int).tmod l.length) = ((n % l.length:Nat):Int):=rfl;have hlt:=Nat.mod_lt n (by omega:0 < l.length);obtain ⟨j,hj⟩:=zqq (n % l.length);rw [hj] at hr hlt ⊢;have hx:l.getD j 0 = l[j]:=by rw [List.getD_eq_getElem?_getD,List.getElem?_eq_getElem hlt]; rfl
 have hxb:=hb l[j] (List.getElem_mem hlt);have hltI:(j:Int) < l.length:=by omega
 rw [hx];obtain ⟨x,hxx⟩:=zqq (l[j]);rw [hxx] at hxb ⊢;have hw:IntKind.i64.wrap (x:Int) = x:=aq (by omega) (by omega);simp [V5,h0,hr,hlt,hltI,hxx,hw]
def wq (h:bc):List ag:=(List.range 16).map fun n=>ii' (h ((n / 4:Nat):Int) ((n % 4:Nat):Int))
theorem B1 (h:bc):(wq h).length = 16:=by simp [wq]
theorem VW:wq (fun _ _=>0) = [ii' 0,ii' 0,ii' 0,ii' 0,ii' 0,ii' 0,ii' 0,ii' 0,ii' 0,ii' 0,ii' 0,ii' 0,ii' 0,ii' 0,ii' 0,ii' 0]:=rfl
theorem kj (h:bc) {k p:Nat} (hk:k < 4) (hp:p < 4):(wq h)[k * 4 + p]? = some (ii' (h k p)):=by
 have e1:(k * 4 + p) / 4 = k:=by omega
 have e2:(k * 4 + p) % 4 = p:=by omega
 unfold wq;rw [List.getElem?_map,List.getElem?_range (by omega),Option.map_some,e1,e2]
theorem U9 (h:bc) {k p:Nat} (hk:k < 4) (hp:p < 4) (hh:k * 4 + p < (wq h).length):(wq h)[k * 4 + p] = ii' (h k p):=by
 have:=kj h hk hp;rw [List.getElem?_eq_getElem hh] at this;exact Option.some.inj this
theorem wu (h:bc) {k p:Nat} (_hk:k < 4) (hp:p < 4) (v:Int):(wq h).set (k * 4 + p) (ii' v) = wq (cg h k p v):=by
 refine List.ext_getElem (by simp [wq]) fun j h1 h2=>?_;simp only [wq,List.getElem_set,List.getElem_map,List.getElem_range];have hj:j < 16:=by simpa [wq] using h2
 by_cases e:k * 4 + p = j
 ·subst e;rw [if_pos rfl,show (k * 4 + p) / 4 = k by omega,show (k * 4 + p) % 4 = p by omega,qc]
 ·rw [if_neg e,jd _ _ fun x=>e (by omega)]
theorem V9 (l:List aj):Fits 5 (l.map aj.v):=fun v hv=>by
 obtain ⟨s,_,rfl⟩:=List.mem_map.1 hv;exact ⟨rfl,rfl⟩
theorem VK (bits i:Nat):(bb (nP bits i)).length ≤ i:=by
 unfold bb nP;rw [List.length_map];have:=List.length_filter_le (fun j=>bits.testBit j) (List.range i);simpa using this
theorem VJ (a b c d:Int):Fits 4 [ag.agg [ii' a,ii' b,ii' c,ii' d]]:=fun v hv=>by
 simp at hv; subst hv; exact ⟨rfl,rfl⟩
theorem We {c:Prop} [Decidable c] {A B:Prop} (hB:B) (hA:c → B → A):if c then A else B:=by
 split
 ·exact hA ‹_› hB
 ·exact hB
theorem VA (t:Nat → Nat) (wr:Nat → Bool) (w:List Int):∀ (l r:List aj) (i:Nat),eF t wr w (l ++ r) i = eF t wr w l i ++ eF t wr w r (i + l.length)
 | [],r,i=>by simp [eF]
 | p :: l,r,i=>by
  simp only [List.cons_append,eF,VA t wr w l,List.length_cons];rw [show i + 1 + l.length = i + (l.length + 1) by omega]
theorem Vf (t:Nat → Nat) (wr:Nat → Bool) {w w':List Int}:∀ (l:List aj) (i:Nat),(∀ j,i ≤ j → j < i + l.length → w.getD j 0 = w'.getD j 0) → eF t wr w l i = eF t wr w' l i
 | [],_,_=>rfl
 | p :: l,i,h=>by
  simp only [eF];rw [Vf t wr l (i + 1) fun j h1 h2=>h j (by omega) (by simp only [List.length_cons]; omega),h i (Nat.le_refl _) (by simp)]
def jn (y:ab) (t:Nat → Nat) (wr:Nat → Bool) (ws:List Int) (i:Nat):List aj:=eF t wr ws (y.papers.take i) 0 ++ y.papers.drop i
section
variable {y:ab} {t:Nat → Nat} {wr:Nat → Bool} {ws:List Int} {i:Nat}
theorem Vn:(jn y t wr ws i).length = y.papers.length:=by
 unfold jn;rw [List.length_append,jc,List.length_take,List.length_drop]; omega
theorem VT (hi:i < y.papers.length):(jn y t wr ws i)[i]'(by rw [Vn]; exact hi) = y.papers[i]:=by
 unfold jn;have e:(eF t wr ws (y.papers.take i) 0).length = i:=by rw [jc,List.length_take]; omega
 rw [List.getElem_append_right (by omega)];simp only [e,Nat.sub_self,List.getElem_drop,Nat.add_zero]
theorem VV (hi:i < y.papers.length) (hw:ws.length = i) (v:Int):(jn y t wr ws i).set i { y.papers[i] with kilos:=if wr i then (t (5 * i + 2):Int) % 1000001 else v } = jn y t wr (ws ++ [v]) (i + 1):=by
 unfold jn;have e:(eF t wr ws (y.papers.take i) 0).length = i:=by rw [jc,List.length_take]; omega
 have hl:(y.papers.take i).length = i:=by rw [List.length_take]; omega
 have hc:eF t wr (ws ++ [v]) (y.papers.take i) 0 = eF t wr ws (y.papers.take i) 0:=Vf t wr _ 0 fun j _ hj=>by
  rw [List.getD_eq_getElem?_getD,List.getD_eq_getElem?_getD,List.getElem?_append_left (by omega)]
 have hg:(ws ++ [v]).getD i 0 = v:=by
  rw [List.getD_eq_getElem?_getD,List.getElem?_append_right (by omega),hw]; simp
 rw [List.set_append_right _ _ (by omega),e,Nat.sub_self,List.drop_eq_getElem_cons hi,List.set_cons_zero,List.take_succ_eq_append_getElem hi,VA,hc,hl,Nat.zero_add];simp only [eF,hg,List.append_assoc,List.cons_append,List.nil_append]
end
theorem VY (ws:List Int) (v:Int) {M i:Nat} (hw:ws.length = i) (hi:i < M):(ws ++ List.replicate (M - i) 0).set i v = (ws ++ [v]) ++ List.replicate (M - (i + 1)) 0:=by
 rw [List.set_append_right _ _ (by omega),hw,Nat.sub_self,show M - i = (M - (i + 1)) + 1 by omega,List.replicate_succ,List.set_cons_zero];simp
theorem Vm {y:ab} (hv:bJ aQ y) (T U:List Nat) (hT:T.length ≤ maxLen) (hU:U.length ≤ maxLen) (hTb:∀ x ∈ T,x ≤ 4294967295) (hUb:∀ x ∈ U,x ≤ 4294967295) (bits:Nat) (_hb:bits ≤ 65535) (σ:af) :
  Spec Tryz.prog Wa [y.v, .agg [.slice 1 (T.map ka), .int .u16 bits, .slice 1 (U.map ka)]] σ fun r σ'=>r = .ret (.tup [(bd y (cA T) (cA U) bits.testBit).v, .slice 1 ((cK y (cA T)).2.map ii'), .slice 1 ((bb (bg y bits.testBit)).map ii')]) ∧ σ' = σ:=by
 refine Spec.aF (Wv (by simp) (aa _ ?_)) (by simp [y.pure,aH,ag.pure,aD (f:=ka) (fun _=>rfl)]) (by simp [ag.pure,aH,ab.pure,aD (f:=ii') (fun _=>rfl)]) σ;have hm10:=hv.m10;have hf8:=hv.f8;have hl8:=hv.l8;have hk4:=hv.k4;have hp4:=hv.p4;have tT:=fun (n:Nat) σ=>sh T hT hTb n σ;have tU:=fun (n:Nat) σ=>sh U hU hUb n σ;obtain ⟨t,ht⟩:=zqq (cA T);obtain ⟨u,hu⟩:=zqq (cA U);obtain ⟨TL,hTL⟩:∃ l,T.map ka = l:=⟨_,rfl⟩;obtain ⟨UL,hUL⟩:∃ l,U.map ka = l:=⟨_,rfl⟩;simp only [ht,hTL] at tT;simp only [hu,hUL] at tU;rw [ht,hu,hTL,hUL];simp [Wf,ab.v,ab.cells];refine AW.loop (ι:=Nat) (fun i fr σ'=>∃ (h:bc) (tl:af),fr = { v:=[(2, .pval (yvL y)),(3, .pval (.agg [.slice 1 TL, .int .u16 bits, .slice 1 UL])),(4, .ptr 0 0),(7, .ptr 1 0),(8, .int .i64 i)],ds:=[] } ∧ σ' = .box [.slice 1 [], .slice 1 [], .slice 4 [], .slice 5 [], .slice 4 []] :: .box (wq h) :: tl ∧ i ≤ y.first.length ∧ Vl t (y.first.drop i) i h = bn y t) (fun i=>y.first.length - i) 0 ⟨fun _ _=>0,[],by simp,by simp [VW],by omega,by rw [List.drop_zero]; rfl⟩ ?_;rintro i fr σ' ⟨h,tl,rfl,rfl,hi,hst⟩;have hwi:IntKind.i64.wrap ((i:Int) + 1) = ((i + 1:Nat):Int):=by rw [aq (by omega) (by omega)]; simp
 refine (Nat.lt_or_ge i y.first.length).elim (fun hlt=>?_) (fun hge=>?_)
 ·have hltI:(i:Int) < y.first.length:=by omega
  have hc:=hv.first.1 y.first[i] (List.getElem_mem hlt)
  have hck:=hc.kind;have hcp:=hc.place;have hc1:=hc.lo;have hc2:=hc.hi;have hc3:=hc.le;rw [List.drop_eq_getElem_cons hlt] at hst;obtain ⟨⟨ck,cp,cl,ch⟩,hx⟩:∃ p,y.first[i] = p:=⟨_,rfl⟩
  rw [hx] at hck hcp hc1 hc2 hc3 hst;dsimp only at hck hcp hc1 hc2 hc3;unfold Big at hc1 hc2;simp only [Vl] at hst;obtain ⟨k,rfl⟩:∃ k:Nat,ck = k:=⟨ck.toNat,by omega⟩;obtain ⟨p,rfl⟩:∃ p:Nat,cp = p:=⟨cp.toNat,by omega⟩;have hk:k < 4:=by omega
  have hp:p < 4:=by omega
  have hti:=tT i;have hmr:=an (t i) (d:=ch - cl) (by omega);have hq:((t i:Nat):Int).tmod (ch - cl + 1) = ((t i:Nat):Int) % (ch - cl + 1):=Int.tmod_eq_emod_of_nonneg (Int.natCast_nonneg _);have hhs:=wu h hk hp (cl + ((t i:Nat):Int) % (ch - cl + 1));obtain ⟨V,hV⟩:=zqq (((t i:Nat):Int) % (ch - cl + 1));rw [hV] at hq hmr hhs hst;have W1:IntKind.i64.wrap (ch - cl) = ch - cl:=aq (by omega) (by omega);have W2:IntKind.i64.wrap (ch - cl + 1) = ch - cl + 1:=aq (by omega) (by omega);have W3:IntKind.i64.wrap V = V:=aq (by omega) (by omega);have W4:IntKind.i64.wrap (cl + V) = cl + V:=aq (by omega) (by omega);have hne:¬ ch - cl + 1 = 0:=by omega
  have hkI:(k:Int) < 4:=by omega
  have hpI:(p:Int) < 4:=by omega
  have hhl:=B1 h;refine aa _ ?_;simp [hltI,hlt,hx,ay.v,ay.cells];refine ⟨_,fun σ' _=>aE.func e7 (hti σ'), ?_⟩;simp [W1,W2,W4,hq,hne,hkI,hpI,hhl,hwi];exact ⟨by omega,i + 1,by omega,by simp,cg h k p (cl + V),hhs,by omega,hst⟩
 obtain rfl:i = y.first.length:=by omega
 rw [List.drop_length] at hst;have hst:h = bn y t:=hst;subst hst;have hfp:=V9 y.papers;obtain ⟨m,hm⟩:=zqq tl.length;have G0:∀ (a:cq) (l:af),(tl ++ a :: l)[m]? = some a:=fun a l=>by rw [← hm,List.getElem?_append_right (Nat.le_refl _)]; simp
 have G1:∀ (a b:cq) (l:af),(tl ++ a :: b :: l)[m + 1]? = some b:=fun a b l=>by rw [← hm,List.getElem?_append_right (by omega),show tl.length + 1 - tl.length = 1 by omega]; rfl
 have G2:∀ (a b c:cq) (l:af),(tl ++ a :: b :: c :: l)[m + 2]? = some c:=fun a b c l=>by rw [← hm,List.getElem?_append_right (by omega),show tl.length + 2 - tl.length = 2 by omega]; rfl
 have G3:∀ (a b c d:cq) (l:af),(tl ++ a :: b :: c :: d :: l)[m + 3]? = some d:=fun a b c d l=>by rw [← hm,List.getElem?_append_right (by omega),show tl.length + 3 - tl.length = 3 by omega]; rfl
 have G4:∀ (a b c d e:cq) (l:af),(tl ++ a :: b :: c :: d :: e :: l)[m + 4]? = some e:=fun a b c d e l=>by rw [← hm,List.getElem?_append_right (by omega),show tl.length + 4 - tl.length = 4 by omega]; rfl
 have S0:∀ (a x:cq) (l:af),(tl ++ a :: l).set m x = tl ++ x :: l:=fun a x l=>by rw [← hm,List.set_append_right _ _ (Nat.le_refl _)]; simp
 have S1:∀ (a b x:cq) (l:af),(tl ++ a :: b :: l).set (m + 1) x = tl ++ a :: x :: l:=fun a b x l=>by rw [← hm,List.set_append_right _ _ (by omega),show tl.length + 1 - tl.length = 1 by omega]; rfl
 have S2:∀ (a b c x:cq) (l:af),(tl ++ a :: b :: c :: l).set (m + 2) x = tl ++ a :: b :: x :: l:=fun a b c x l=>by rw [← hm,List.set_append_right _ _ (by omega),show tl.length + 2 - tl.length = 2 by omega]; rfl
 have S3:∀ (a b c d x:cq) (l:af),(tl ++ a :: b :: c :: d :: l).set (m + 3) x = tl ++ a :: b :: c :: x :: l:=fun a b c d x l=>by rw [← hm,List.set_append_right _ _ (by omega),show tl.length + 3 - tl.length = 3 by omega]; rfl
 have S4:∀ (a b c d e x:cq) (l:af),(tl ++ a :: b :: c :: d :: e :: l).set (m + 4) x = tl ++ a :: b :: c :: d :: x :: l:=fun a b c d e x l=>by rw [← hm,List.set_append_right _ _ (by omega),show tl.length + 4 - tl.length = 4 by omega]; rfl
 have hw0:VH y (bn y t) 0 (bn y t,[]):=⟨rfl,fun j hj=>by omega,fun j hj=>by omega,fun k a=>by
  have:=Va hv t k a;have h1:=(bx hv.ok.first k a).1
  exact Int.le_trans h1.1 this.1,fun k a _=>by simp [ak]⟩
 refine aa _ ?_;simp [hfp,hm];refine We ?_ fun h0 hB=>?_;rotate_left
 ·have h1:y.papers.length = 0:=by rw [h0]; rfl
  simp only [h1] at hB ⊢;exact hB.2
 refine ⟨by omega,by omega,by omega, ?_⟩
 refine AW.loop (ι:=Nat) (fun i fr σ'=>∃ (h:bc) (ws:List Int) (q:Nat) (t2:af),fr = { v:=[(2, .pval (yvL y)),(3, .pval (.agg [.slice 1 TL, .int .u16 bits, .slice 1 UL])),(4, .ptr 0 0),(7, .ptr 1 0),(10, .ptr (m + 2) 0),(11, .sref 1 (m + 5) 0 y.papers.length y.papers.length),(12, .oslice 1 ((bb (nP bits i)).map ii') (m + 6) q),(13, .int .i64 i)],ds:=[] } ∧
  σ' = .box [.slice 1 [], .slice 1 [], .slice 4 [], .slice 5 [], .slice 4 []] :: .box (wq h) :: (tl ++ .box [.slice 1 (y.kinds.map .str), .slice 1 (y.places.map .str), .slice 4 (y.first.map ay.v), .sref 5 (m + 3) 0 y.papers.length y.papers.length, .oslice 4 [] (m + 4) 0] :: .arr 5 ((jn y t bits.testBit ws i).map aj.v) :: .spare 4 0 :: .arr 1 ((ws ++ List.replicate (y.papers.length - i) 0).map ii') :: .spare 1 q :: t2) ∧ i ≤ y.papers.length ∧ VH y (bn y t) i (h,ws) ∧ VB t (y.papers.drop i) i (h,ws) = cK y t) (fun i=>y.papers.length - i) 0 ⟨bn y t,[],0,[],by simp [nP,bb],by simp [jn,eF],by omega,hw0,by rw [List.drop_zero]; rfl⟩ ?_
 rintro i fr σ' ⟨h,ws,q,t2,rfl,rfl,hi,hwt,hgo⟩;have hwi:IntKind.i64.wrap ((i:Int) + 1) = ((i + 1:Nat):Int):=by rw [aq (by omega) (by omega)]; simp
 refine (Nat.lt_or_ge i y.papers.length).elim (fun hlt=>?_) (fun hge=>?_)
 ·have hltI:(i:Int) < y.papers.length:=by omega
  have hpv:=hv.papers i hlt;have hstep:=Vo hv t hlt hwt;rw [List.drop_eq_getElem_cons hlt] at hgo;simp only [VB] at hgo;have hpr:=sc hv hlt;have hwl:=hwt.len;dsimp only at hwl;have hpl:=Vn (y:=y) (t:=t) (wr:=bits.testBit) (ws:=ws) (i:=i);have hpg:=VT (t:=t) (wr:=bits.testBit) (ws:=ws) hlt;have hps:=fun v=>VV (t:=t) (wr:=bits.testBit) hlt hwl v;have hws:=fun v=>VY ws v hwl hlt;have hWl:(ws ++ List.replicate (y.papers.length - i) 0).length = y.papers.length:=by rw [List.length_append,List.length_replicate]; omega
  have hWg:∀ c,c < i → (ws ++ List.replicate (y.papers.length - i) (0:Int))[c]? = some (ws.getD c 0):=fun c hc=>by
   rw [List.getElem?_append_left (by omega),List.getD_eq_getElem?_getD,List.getElem?_eq_getElem (by omega)]; rfl
  have hbt:=V2 bits (k:=i) (by omega);have hss:=Vz bits i;have hle:=fun σ=>n7 hv hlt σ;have hsl:=VK bits i;have hTp:aH TL = true:=by rw [← hTL]; exact aD (f:=ka) (fun _=>rfl) T
  have hnn:=hwt.nn;have hbal:=hwt.bal;have hall:∀ j,0 ≤ ws.getD j 0 ∧ ws.getD j 0 ≤ 1000000:=fun j=>by
   rcases Nat.lt_or_ge j i with hj | hj
   ·exact hwt.val j hj
   ·have hl:=hwt.len;dsimp only at hl;rw [List.getD_eq_getElem?_getD,List.getElem?_eq_none (by omega)]; simp
  have hhb:∀ k a,0 ≤ a → 0 ≤ h k a ∧ h k a ≤ 11000000:=fun k a ha=>by
   have h1:=hnn k a;have h2:=hbal k a ha;have h3:=Vc hall k a (y.papers.take i) 0;have h4:=(Va hv t k a).2.2;rw [List.length_take] at h3;dsimp only at h1 h2;omega
  have q5:((t (5 * i + 2):Nat):Int).tmod 1000001 = ((t (5 * i + 2):Nat):Int) % 1000001:=Int.tmod_eq_emod_of_nonneg (Int.natCast_nonneg _);have X5:IntKind.i64.wrap (((t (5 * i + 2):Nat):Int) % 1000001) = ((t (5 * i + 2):Nat):Int) % 1000001:=aq (by omega) (by omega);have t5:=tT (5 * i + 2);have t3:=tT (3 * i + 1);have X1:IntKind.i64.wrap (3 * (i:Int)) = 3 * (i:Int):=aq (by omega) (by omega);have X2:IntKind.i64.wrap (3 * (i:Int) + 1) = ((3 * i + 1:Nat):Int):=by rw [aq (by omega) (by omega)]; simp
  have X3:IntKind.i64.wrap (5 * (i:Int)) = 5 * (i:Int):=aq (by omega) (by omega);have X4:IntKind.i64.wrap (5 * (i:Int) + 2) = ((5 * i + 2:Nat):Int):=by rw [aq (by omega) (by omega)]; simp
  obtain ⟨⟨pk,ps,pd,pn,pc⟩,hx⟩:∃ p,y.papers[i] = p:=⟨_,rfl⟩;rw [hx] at hpv hstep hgo hpr hpg hps hle;have hk:=hpv.kind;have hs:=hpv.src;have hd:=hpv.dst;dsimp only at hk hs hd hps;obtain ⟨k,rfl⟩:∃ k:Nat,pk = k:=⟨pk.toNat,by omega⟩;have hk4':k < 4:=by omega
  have hkI:(k:Int) < 4:=by omega
  obtain ⟨W,hW⟩:=zqq (ws ++ List.replicate (y.papers.length - i) (0:Int));obtain ⟨P,hP⟩:=zqq (jn y t bits.testBit ws i);simp only [hW] at hws hWl hWg ⊢;simp only [hP] at hpl hpg hps ⊢;have hiP:i < P.length:=by omega
  have hiW:i < W.length:=by omega
  obtain ⟨ld,hld⟩:∃ b,br ⟨(k:Int),ps,pd,pn,pc⟩ i = b:=⟨_,rfl⟩;rw [hld] at hle;cases ld
  ·have hcl:pc.toNat < i ∧ 0 ≤ pc:=by
    unfold br at hld;rcases hpr with hc | ⟨c,hc,_,hcne,_⟩
    ·dsimp only at hc; rw [hc] at hld; simp at hld
    ·dsimp only at hc; rw [hc] at hld; simp at hld; omega
   have hgt:cP t ⟨(k:Int),ps,pd,pn,pc⟩ i (h,ws) = (h,ws ++ [ws.getD pc.toNat 0]):=by unfold cP; rw [hld]; rfl
   rw [hgt] at hstep hgo;obtain ⟨c,rfl⟩:∃ c:Nat,pc = c:=⟨pc.toNat,by omega⟩;rw [Int.toNat_natCast] at hcl hstep hgo;have hgc:=hWg c hcl.1;have hcW:c < W.length:=by omega
   rw [List.getElem?_eq_getElem hcW] at hgc;have hgc:=Option.some.inj hgc;obtain ⟨v,hv'⟩:=zqq (ws.getD c 0);rw [hv'] at hgc hstep hgo;have hcm:c < y.papers.length:=by omega
   cases hbit:bits.testBit i
   ·have hb2:=eq_false (mt hbt.1 (by rw [hbit]; decide));rw [hbit] at hss hps;refine aa _ ?_;simp [hltI,hlt,hx,aj.v,aj.cells];refine ah.pure Gt (hle _) ?_;simp [G0,G1,G3,G4,S1,S3,S4,hWl,hpl,hpg,hlt,aj.v,aj.cells,hb2,hwi,hcm,hgc];refine ⟨i + 1,by omega,h,ws ++ [v],q,⟨⟨by rw [hss]; simp [bb],rfl⟩,by simp⟩,⟨rfl,by rw [← hps v]; simp [aj.v,aj.cells], ?_,rfl⟩,by omega,hstep,hgo⟩;have he:=congrArg (List.map ii') (hws v);rw [List.map_set,List.map_append,List.map_replicate] at he;exact he
   ·have hb1:=hbt.2 hbit;rw [hbit] at hss hps;refine aa _ ?_;simp [hltI,hlt,hx,aj.v,aj.cells];refine ah.pure Gt (hle _) ?_;simp [G0,G1,G3,G4,S1,S3,S4,hWl,hpl,hpg,hlt,aj.v,aj.cells,hb1,X3,X4,fits_int,hwi,hcm,hgc];refine ⟨by omega,_,fun σ' _=>aE.func e7 (t5 σ'), ?_⟩;simp [q5,hTp];refine ⟨i + 1,by omega,h,ws ++ [v],q + 1,⟨⟨by rw [hss]; simp [bb],rfl⟩,by simp⟩,⟨rfl,by rw [← hps v]; simp [aj.v,aj.cells], ?_,rfl⟩,by omega,hstep,hgo⟩;have he:=congrArg (List.map ii') (hws v);rw [List.map_set,List.map_append,List.map_replicate] at he;exact he
  ·have hqm:∀ mo:Int,0 ≤ mo → mo ≤ 1000000 → ((t (3 * i + 1):Nat):Int).tmod (mo + 1) = ((t (3 * i + 1):Nat):Int) % (mo + 1):=fun mo _ _=>Int.tmod_eq_emod_of_nonneg (Int.natCast_nonneg _);have hmr:∀ mo:Int,0 ≤ mo → 0 ≤ ((t (3 * i + 1):Nat):Int) % (mo + 1) ∧ ((t (3 * i + 1):Nat):Int) % (mo + 1) ≤ mo:=fun mo hmo=>an _ hmo;have hhl:=B1 h;by_cases c1:ps = -1
   ·have c2:¬ pd = -1:=by have:=hpv.ne; dsimp only at this; omega
    obtain ⟨d,rfl⟩:∃ d:Nat,pd = d:=⟨pd.toNat,by omega⟩;have hd4:d < 4:=by omega
    have hdI:(d:Int) < 4:=by omega
    have hkd:k * 4 + d < 16:=by omega
    have hkd':k * 4 + d ≤ 15:=by omega
    have hq:=hqm 5000 (by omega) (by omega);have hr:=hmr 5000 (by omega);have hgt:cP t ⟨(k:Int),ps,(d:Int),pn,pc⟩ i (h,ws) = (cg h k d (h k d + ((t (3 * i + 1):Nat):Int) % (5000 + 1)),ws ++ [((t (3 * i + 1):Nat):Int) % (5000 + 1)]):=by unfold cP; rw [hld]; simp [c1]
    rw [hgt] at hstep hgo;obtain ⟨v,hvv⟩:=zqq (((t (3 * i + 1):Nat):Int) % (5000 + 1));rw [hvv] at hq hr hstep hgo;have hq':((t (3 * i + 1):Nat):Int).tmod 5001 = v:=hq;have hg1:=kj h hk4' hd4;have hga1:=U9 h hk4' hd4;have hs1:=wu h hk4' hd4 (h k d + v);have hb1':=hhb k d (by omega);have Y1:IntKind.i64.wrap v = v:=aq (by omega) (by omega);have Y2:IntKind.i64.wrap (h k d + v) = h k d + v:=aq (by omega) (by omega);have Y3:IntKind.i64.wrap (5001:Int) = 5001:=by decide
    cases hbit:bits.testBit i
    ·have hb2:=eq_false (mt hbt.1 (by rw [hbit]; decide));rw [hbit] at hss hps;refine aa _ ?_;simp [hltI,hlt,hx,aj.v,aj.cells];refine ah.pure Gt (hle _) ?_;simp [c1,X1,X2];refine ah.pure e7 (t3 _) ?_;simp [G0,G1,G3,G4,S1,S3,S4,hWl,hpl,hpg,hlt,aj.v,aj.cells,hb2,hwi,c1,c2,X1,X2,Y2,Y3,hq',hkI,hdI,hkd,hkd',hhl,hga1,hs1];refine ⟨i + 1,by omega,cg h k d (h k d + v),ws ++ [v],q,⟨⟨by rw [hss]; simp [bb],rfl⟩,by simp⟩,⟨rfl,by rw [← hps v]; simp [aj.v,aj.cells,c1], ?_,rfl⟩,by omega,hstep,hgo⟩;have he:=congrArg (List.map ii') (hws v);rw [List.map_set,List.map_append,List.map_replicate] at he;exact he
    ·have hb1:=hbt.2 hbit;rw [hbit] at hss hps;refine aa _ ?_;simp [hltI,hlt,hx,aj.v,aj.cells];refine ah.pure Gt (hle _) ?_;simp [c1,X1,X2];refine ah.pure e7 (t3 _) ?_;simp [G0,G1,G3,G4,S1,S3,S4,hWl,hpl,hpg,hlt,aj.v,aj.cells,hb1,X3,X4,fits_int,hwi,c1,c2,X1,X2,Y2,Y3,hq',hkI,hdI,hkd,hkd',hhl,hga1,hs1];refine ⟨by omega,_,fun σ' _=>aE.func e7 (t5 σ'), ?_⟩;simp [q5,hTp];refine ⟨i + 1,by omega,cg h k d (h k d + v),ws ++ [v],q + 1,⟨⟨by rw [hss]; simp [bb],rfl⟩,by simp⟩,⟨rfl,by rw [← hps v]; simp [aj.v,aj.cells,c1], ?_,rfl⟩,by omega,hstep,hgo⟩;have he:=congrArg (List.map ii') (hws v);rw [List.map_set,List.map_append,List.map_replicate] at he;exact he
   ·obtain ⟨s,rfl⟩:∃ s:Nat,ps = s:=⟨ps.toNat,by omega⟩;have hs4:s < 4:=by omega
    have hsI:(s:Int) < 4:=by omega
    have hks:k * 4 + s < 16:=by omega
    have hks':k * 4 + s ≤ 15:=by omega
    have hbs:=hhb k s (by omega);have hgs:=kj h hk4' hs4;have hgas:=U9 h hk4' hs4;obtain ⟨mo,hmo⟩:=zqq (min (1000000:Int) (h k s));have hmo':(if h k s < 1000000 then h k s else 1000000) = mo:=by omega
    have hmo2:(if (1000000:Int) < h k s then 1000000 else h k s) = mo:=by omega
    have hq:=hqm mo (by omega) (by omega);have hr:=hmr mo (by omega);have hne:¬ mo + 1 = 0:=by omega
    have Y0:IntKind.i64.wrap (mo + 1) = mo + 1:=aq (by omega) (by omega);obtain ⟨v,hvv⟩:=zqq (((t (3 * i + 1):Nat):Int) % (mo + 1));rw [hvv] at hq hr;have hvb:0 ≤ v ∧ v ≤ 1000000:=by omega
    have hs1:=wu h hk4' hs4 (h k s - v);have Y1:IntKind.i64.wrap v = v:=aq (by omega) (by omega);have Y2:IntKind.i64.wrap (h k s - v) = h k s - v:=aq (by omega) (by omega);by_cases c2:pd = -1
    ·have hgt:cP t ⟨(k:Int),(s:Int),pd,pn,pc⟩ i (h,ws) = (cg h k s (h k s - v),ws ++ [v]):=by
      unfold cP; rw [hld]; simp [c1,c2,hmo,hvv]
     rw [hgt] at hstep hgo;cases hbit:bits.testBit i
     ·have hb2:=eq_false (mt hbt.1 (by rw [hbit]; decide));rw [hbit] at hss hps;refine aa _ ?_;simp [hltI,hlt,hx,aj.v,aj.cells];refine ah.pure Gt (hle _) ?_;simp [c1,c2,X1,X2,hkI,hsI,hks,hhl,hgas,hmo'];refine ah.pure e7 (t3 _) ?_;simp [G0,G1,G3,G4,S1,S3,S4,hWl,hpl,hpg,hlt,aj.v,aj.cells,hb2,hwi,c1,c2,X1,X2,hmo',Y0,Y2,hne,hq,hkI,hsI,hks,hks',hhl,hgas,hs1];refine ⟨i + 1,by omega,cg h k s (h k s - v),ws ++ [v],q,⟨⟨by rw [hss]; simp [bb],rfl⟩,by simp⟩,⟨rfl,by rw [← hps v]; simp [aj.v,aj.cells,c2], ?_,rfl⟩,by omega,hstep,hgo⟩;have he:=congrArg (List.map ii') (hws v);rw [List.map_set,List.map_append,List.map_replicate] at he;exact he
     ·have hb1:=hbt.2 hbit;rw [hbit] at hss hps;refine aa _ ?_;simp [hltI,hlt,hx,aj.v,aj.cells];refine ah.pure Gt (hle _) ?_;simp [c1,c2,X1,X2,hkI,hsI,hks,hhl,hgas,hmo'];refine ah.pure e7 (t3 _) ?_;simp [G0,G1,G3,G4,S1,S3,S4,hWl,hpl,hpg,hlt,aj.v,aj.cells,hb1,X3,X4,fits_int,hwi,c1,c2,X1,X2,hmo',Y0,Y2,hne,hq,hkI,hsI,hks,hks',hhl,hgas,hs1];refine ⟨by omega,_,fun σ' _=>aE.func e7 (t5 σ'), ?_⟩;simp [q5,hTp];refine ⟨i + 1,by omega,cg h k s (h k s - v),ws ++ [v],q + 1,⟨⟨by rw [hss]; simp [bb],rfl⟩,by simp⟩,⟨rfl,by rw [← hps v]; simp [aj.v,aj.cells,c2], ?_,rfl⟩,by omega,hstep,hgo⟩;have he:=congrArg (List.map ii') (hws v);rw [List.map_set,List.map_append,List.map_replicate] at he;exact he
    ·obtain ⟨d,rfl⟩:∃ d:Nat,pd = d:=⟨pd.toNat,by omega⟩;have hsd:¬ s = d:=by have:=hpv.ne; dsimp only at this; omega
     have hd4:d < 4:=by omega
     have hdI:(d:Int) < 4:=by omega
     have hkd:k * 4 + d < 16:=by omega
     have hkd':k * 4 + d ≤ 15:=by omega
     have hbd:=hhb k d (by omega);have hgt:cP t ⟨(k:Int),(s:Int),(d:Int),pn,pc⟩ i (h,ws) = (cg (cg h k s (h k s - v)) k d (h k d + v),ws ++ [v]):=by
      have he:cg h k s (h k s - v) k d = h k d:=jd _ _ fun x=>hsd (Int.ofNat.inj x.2).symm;unfold cP; rw [hld]; simp [c1,c2,hmo,hvv,he]
     rw [hgt] at hstep hgo;have he:cg h k s (h k s - v) k d = h k d:=jd _ _ fun x=>hsd (Int.ofNat.inj x.2).symm;have hgd:=kj (cg h k s (h k s - v)) hk4' hd4;have hgad:=U9 (cg h k s (h k s - v)) hk4' hd4;have hhl2:=B1 (cg h k s (h k s - v));rw [he] at hgd;simp only [he] at hgad;have hs2:=wu (cg h k s (h k s - v)) hk4' hd4 (h k d + v);have Y3:IntKind.i64.wrap (h k d + v) = h k d + v:=aq (by clear hmo hmo' hmo2 hq hr; omega) (by clear hmo hmo' hmo2 hq hr; omega);cases hbit:bits.testBit i
     ·have hb2:=eq_false (mt hbt.1 (by rw [hbit]; decide));rw [hbit] at hss hps;refine aa _ ?_;simp [hltI,hlt,hx,aj.v,aj.cells];refine ah.pure Gt (hle _) ?_;simp [c1,X1,X2,hkI,hsI,hks,hhl,hgas,hmo'];refine ah.pure e7 (t3 _) ?_;simp [G0,G1,G3,G4,S1,S3,S4,hWl,hpl,hpg,hlt,aj.v,aj.cells,hb2,hwi,c1,c2,X1,X2,hmo',Y0,Y2,Y3,hne,hq,hkI,hsI,hdI,hks,hks',hkd,hkd',hhl,hhl2,hgas,hs1,hgad,hs2];refine ⟨i + 1,by omega,cg (cg h k s (h k s - v)) k d (h k d + v),ws ++ [v],q,⟨⟨by rw [hss]; simp [bb],rfl⟩,by simp⟩,⟨rfl,by rw [← hps v]; simp [aj.v,aj.cells], ?_,rfl⟩,by omega,hstep,hgo⟩;have he:=congrArg (List.map ii') (hws v);rw [List.map_set,List.map_append,List.map_replicate] at he;exact he
     ·have hb1:=hbt.2 hbit;rw [hbit] at hss hps;refine aa _ ?_;simp [hltI,hlt,hx,aj.v,aj.cells];refine ah.pure Gt (hle _) ?_;simp [c1,X1,X2,hkI,hsI,hks,hhl,hgas,hmo'];refine ah.pure e7 (t3 _) ?_;simp [G0,G1,G3,G4,S1,S3,S4,hWl,hpl,hpg,hlt,aj.v,aj.cells,hb1,X3,X4,fits_int,hwi,c1,c2,X1,X2,hmo',Y0,Y2,Y3,hne,hq,hkI,hsI,hdI,hks,hks',hkd,hkd',hhl,hhl2,hgas,hs1,hgad,hs2];refine ⟨by omega,_,fun σ' _=>aE.func e7 (t5 σ'), ?_⟩;simp [q5,hTp];refine ⟨i + 1,by omega,cg (cg h k s (h k s - v)) k d (h k d + v),ws ++ [v],q + 1,⟨⟨by rw [hss]; simp [bb],rfl⟩,by simp⟩,⟨rfl,by rw [← hps v]; simp [aj.v,aj.cells], ?_,rfl⟩,by omega,hstep,hgo⟩;have he:=congrArg (List.map ii') (hws v);rw [List.map_set,List.map_append,List.map_replicate] at he;exact he
 obtain rfl:i = y.papers.length:=by omega
 rw [List.drop_length] at hgo;have hgo:(h,ws) = cK y t:=hgo;have hnn:=hwt.nn;rw [Nat.sub_self,List.replicate_zero,List.append_nil];have hPz:jn y t bits.testBit ws y.papers.length = eF t bits.testBit ws y.papers 0:=by unfold jn; rw [List.take_length,List.drop_length,List.append_nil]
 rw [hPz];obtain ⟨PL,hPL⟩:∃ l,eF t bits.testBit ws y.papers 0 = l:=⟨_,rfl⟩;have hPLl:PL.length = y.papers.length:=by rw [← hPL,jc]
 rw [hPL];obtain ⟨SL,hSL⟩:∃ l,(bb (nP bits y.papers.length)).map ii' = l:=⟨_,rfl⟩;rw [hSL];have hwl:=hwt.len;dsimp only at hwl hnn;refine aa _ ?_;simp
 refine AW.loop (ι:=Nat) (fun j fr σ'=>∃ (L:List ay) (q4:Nat) (t2:af),fr = { v:=[(2, .pval (yvL y)),(3, .pval (.agg [.slice 1 TL, .int .u16 bits, .slice 1 UL])),(4, .ptr 0 0),(7, .ptr 1 0),(10, .ptr (m + 2) 0),(11, .sref 1 (m + 5) 0 y.papers.length y.papers.length),(12, .oslice 1 SL (m + 6) q),(16, .int .i64 j)],ds:=[] } ∧
  σ' = .box [.slice 1 [], .slice 1 [], .slice 4 [], .slice 5 [], .slice 4 []] :: .box (wq h) :: (tl ++ .box [.slice 1 (y.kinds.map .str), .slice 1 (y.places.map .str), .slice 4 (y.first.map ay.v), .sref 5 (m + 3) 0 y.papers.length y.papers.length, .oslice 4 (L.map ay.v) (m + 4) q4] :: .arr 5 (PL.map aj.v) :: .spare 4 q4 :: .arr 1 (ws.map ii') :: .spare 1 q :: t2) ∧ j ≤ y.last.length ∧ L.length ≤ j ∧ L ++ eK u h (y.last.drop j) j = eK u h y.last 0) (fun j=>y.last.length - j) 0 ⟨[],0,t2,by simp,by simp,by omega,by simp,by rw [List.drop_zero]; rfl⟩ ?_
 rintro j fr σ' ⟨L,q4,t2,rfl,rfl,hj,hLl,hLL⟩;have hwj:IntKind.i64.wrap ((j:Int) + 1) = ((j + 1:Nat):Int):=by rw [aq (by omega) (by omega)]; simp
 refine (Nat.lt_or_ge j y.last.length).elim (fun hlt=>?_) (fun hge=>?_)
 ·have hltI:(j:Int) < y.last.length:=by omega
  have hc:=hv.last.1 y.last[j] (List.getElem_mem hlt);have hck:=hc.kind;have hcp:=hc.place;rw [List.drop_eq_getElem_cons hlt] at hLL;simp only [eK] at hLL;obtain ⟨⟨ck,cp,cl,ch⟩,hx⟩:∃ p,y.last[j] = p:=⟨_,rfl⟩;rw [hx] at hck hcp hLL;dsimp only at hck hcp hLL;obtain ⟨k,rfl⟩:∃ k:Nat,ck = k:=⟨ck.toNat,by omega⟩;obtain ⟨p,rfl⟩:∃ p:Nat,cp = p:=⟨cp.toNat,by omega⟩;have hk:k < 4:=by omega
  have hp:p < 4:=by omega
  have hkI:(k:Int) < 4:=by omega
  have hpI:(p:Int) < 4:=by omega
  have hkp:k * 4 + p < 16:=by omega
  have hkp':k * 4 + p ≤ 15:=by omega
  have hg:=kj h hk hp;have hga:=U9 h hk hp;have hhl:=B1 h;have hn0:=hnn k p;obtain ⟨n,hn⟩:=zqq (h (k:Int) (p:Int));rw [hn] at hg hn0 hLL;simp only [hn] at hga;by_cases hc6:n ≤ 1000000
  ·rw [if_pos hc6] at hLL;have u1:=tU (2 * j);have u2:=tU (2 * j + 1);have r1:=an (u (2 * j)) (d:=n) (by omega);have r2:=an (u (2 * j + 1)) (d:=1000000 - n) (by omega);have q1:((u (2 * j):Nat):Int).tmod (n + 1) = ((u (2 * j):Nat):Int) % (n + 1):=Int.tmod_eq_emod_of_nonneg (Int.natCast_nonneg _);have q2:((u (2 * j + 1):Nat):Int).tmod (1000000 - n + 1) = ((u (2 * j + 1):Nat):Int) % (1000000 - n + 1):=Int.tmod_eq_emod_of_nonneg (Int.natCast_nonneg _);obtain ⟨v1,hv1⟩:∃ v,((u (2 * j):Nat):Int) % (n + 1) = v:=⟨_,rfl⟩;obtain ⟨v2,hv2⟩:∃ v,((u (2 * j + 1):Nat):Int) % (1000000 - n + 1) = v:=⟨_,rfl⟩;rw [hv1] at r1 q1 hLL;rw [hv2] at r2 q2 hLL;have W1:IntKind.i64.wrap (2 * (j:Int)) = 2 * (j:Int):=aq (by omega) (by omega);have W2:IntKind.i64.wrap (2 * (j:Int) + 1) = 2 * (j:Int) + 1:=aq (by omega) (by omega);have W3:IntKind.i64.wrap (n + 1) = n + 1:=aq (by omega) (by omega);have W4:IntKind.i64.wrap (1000000 - n) = 1000000 - n:=aq (by omega) (by omega);have W5:IntKind.i64.wrap (1000000 - n + 1) = 1000000 - n + 1:=aq (by omega) (by omega);have W6:IntKind.i64.wrap v1 = v1:=aq (by omega) (by omega);have W7:IntKind.i64.wrap v2 = v2:=aq (by omega) (by omega);have W8:IntKind.i64.wrap (n - v1) = n - v1:=aq (by omega) (by omega);have W9:IntKind.i64.wrap (n + v2) = n + v2:=aq (by omega) (by omega);have n1:¬ n + 1 = 0:=by omega
   have n2:¬ 1000000 - n + 1 = 0:=by omega
   have sp:=fun σ=>bI (n - v1) (n + v2) σ;have hTp:aH UL = true:=by rw [← hUL]; exact aD (f:=ka) (fun _=>rfl) U
   refine aa _ ?_;simp [hltI,hlt,hx,ay.v,ay.cells,hkI,hpI,hkp,hhl,hga,hc6,W1,W2];refine ⟨_,fun σ' _=>aE.func e7 (u1 σ'), ?_⟩;simp [W3,W4,W5,W8,n1,q1];refine ⟨_,fun σ' _=>aE.func e7 (u2 σ'), ?_⟩;simp [W9,n2,q2];refine ⟨_,fun σ'=>aE.func p8 (sp σ'), ?_⟩;simp [G0,G2,S0,S2,hwj,VJ];exact ⟨by omega,j + 1,by omega,by simp,L ++ [⟨(k:Int),(p:Int),n - v1,n + v2⟩],by simp [ay.v,ay.cells],by omega,by simp; omega,by rw [← hLL]; simp⟩
  ·rw [if_neg hc6] at hLL;refine aa _ ?_;simp [hltI,hlt,hx,ay.v,ay.cells,hkI,hpI,hkp,hhl,hga,hc6,hwj];exact ⟨j + 1,by omega,by simp,L,rfl,by omega,by omega,hLL⟩
 obtain rfl:j = y.last.length:=by omega
 rw [List.drop_length] at hLL;have hLL:L = eK u h y.last 0:=by rw [← hLL]; simp [eK]
 refine aa _ ?_;simp [G0,G1,G2,G3,S0,S1,S2,S3,hPLl,hwl];refine ⟨⟨rfl,rfl,rfl, ?_, ?_⟩, ?_, ?_⟩
 ·rw [List.take_of_length_le (by simp; omega)];show _ = List.map aj.v (eF t bits.testBit (cK y t).2 y.papers 0);rw [← hgo,hPL]
 ·show _ = List.map ay.v (eK u (cK y t).1 y.last 0);rw [← hgo,hLL]
 ·rw [List.take_of_length_le (by simp; omega), ← hgo]
 ·rw [← hSL]; rfl
set_option maxRecDepth 100000
set_option maxHeartbeats 1000000
theorem Fg {y:ab} (h:bJ aQ y):dv y:=by
 have h1:=h.k4;have h2:=h.p4;have h3:=h.m10;have h4:=h.f8;have h5:=h.l8;refine ⟨?_, ?_, ?_, ?_, ?_⟩ <;> simp only [maxLen] <;> omega
end Go.AM
