/- Chapter 09: the reference's All and Lists. Chapter 09: of the reference: what journeys allow; which papers differ. Chapter 09: of the reference: which papers differ; the first proof; which yards .. -/
import Derived.Test.YtlmhkldmpggadaaGreatDoorP31
import Derived.Test.YtlmhkldmpggadaaGreatDoorP25
import Derived.Test.YtlmhkldmpggadaaGreatDoorP27
import Derived.Test.YtlmhkldmpggadaaGreatDoorP19
import Derived.Test.YtlmhkldmpggadaaGreatDoorP23
namespace Go.AM
open Go.Proofs
set_option maxRecDepth 100000
set_option maxHeartbeats 1000000
theorem yw {α β:Type} (f:α → List β) {c:Nat}:∀ l:List α,(∀ x ∈ l,(f x).length ≤ c) → (l.flatMap f).length ≤ c * l.length
 | [],_=>by simp
 | x :: r,h=>by
  have ih:=yw f r fun z hz=>h z (by simp [hz]);have h0:=h x (by simp);rw [List.flatMap_cons,List.length_append,List.length_cons,Nat.mul_succ]; omega
def tU (b:Int) (i:Nat):Bool:=decide ((i:Int) ≠ b)
theorem qz (y:ab) (hm:y.papers.length ≤ 10) (b:Int) (σ:af) :
  Spec Tryz.prog Kf [y.v,ii' b] σ fun r σ'=>r = .ret (.slice 1 ((aQ (bG (tU b) y.papers.length)).map ii')) ∧ σ' = σ:=by
 refine Spec.aI (Qy (by simp) (aa _ ?_)) (by simp [y.pure,aG,ag.pure]) (by simp [ag.pure,aC (f:=ii') (fun _=>rfl)]) σ;simp [O8,ab.v,ab.cells];refine AW.loop (ι:=Nat) (fun k fr σ'=>∃ (q:Nat) (tl:af),fr = { v:=[(1,ii' b),(2, .pval y.v),(5, .oslice 1 ((aQ (bG (tU b) k)).map ii') 0 q),(6, .int .i64 k)],ds:=[] } ∧ σ' = .spare 1 q :: tl ∧ k ≤ y.papers.length) (fun k=>y.papers.length - k) 0 ⟨0,[],by simp [bG,aQ,ab.v,ab.cells],rfl,by omega⟩ ?_;rintro k fr σ' ⟨q,tl,rfl,rfl,hk⟩;refine (Nat.lt_or_ge k y.papers.length).elim (fun hlt=>?_) (fun hge=>?_);rotate_left
 ·obtain rfl:k = y.papers.length:=by omega
  refine aa _ ?_;simp [ab.v,ab.cells]
 have hltI:(k:Int) < y.papers.length:=by omega
 have w3:IntKind.i64.wrap ((k:Int) + 1) = ((k + 1:Nat):Int):=by rw [aw (by omega) (by omega)]; simp
 have hst:=mU (tU b) k;have hln:=pE (tU b) k;by_cases hkb:(k:Int) = b
 ·rw [if_neg (by simp [tU,hkb])] at hst;obtain ⟨L,hL⟩:=zqq (bG (tU b) k);rw [hL] at hst hln;refine aa _ ?_;simp only [hL];simp [hltI,ab.v,ab.cells,eq_true hkb,w3];exact ⟨k + 1,by omega,q,⟨⟨by rw [hst]; simp,rfl⟩,by simp⟩,rfl,by omega⟩
 ·rw [if_pos (by simp [tU,hkb])] at hst;obtain ⟨L,hL⟩:=zqq (bG (tU b) k);rw [hL] at hst hln;refine aa _ ?_;simp only [hL];simp [hltI,ab.v,ab.cells,hkb,w3,fits_int];exact ⟨by omega,k + 1,by omega,q + 1,⟨⟨by rw [hst]; simp [aQ],rfl⟩,by simp⟩,rfl,by omega⟩
def bw (ls:List (List Nat)):List ag:=ls.map fun l=>.slice 1 ((aQ l).map ii')
def wQ (l:List Nat):Nat:=match l.getLast? with
 | some x=>x + 1
 | none=>0
theorem nM (ls:List (List Nat)):aG (bw ls) = true:=aC (fun l=>by simp [ag.pure,aC (f:=ii') (fun _=>rfl)]) ls
theorem mL (ls:List (List Nat)):Fits 1 (bw ls):=fun v hv=>by
 obtain ⟨l,_,rfl⟩:=List.mem_map.1 hv;exact ⟨by simp [b6],by simp [ag.cells,eX,ag.fI]⟩
theorem uu (l:List Nat) (i:Nat):wQ (l ++ [i]) = i + 1:=by unfold wQ; rw [List.getLast?_append]; simp
theorem nH {m:Nat} (hm:m ≤ 10):∀ (many:Nat) (l:List Nat),l.length + many ≤ 100 → (∀ x ∈ l,x ≤ 10) → ∀ σ:af,
  Spec Tryz.prog J7 [.slice 1 ((aQ l).map ii'),ii' many,ii' m] σ fun r σ'=>r = .ret (.slice 1 (bw (bK l (cr m many (wQ l))))) ∧ σ' = σ
 | 0,l,hl,hb,σ=>by
  refine Spec.aI (OT (by simp) (aa _ ?_)) (by simp [aG,ag.pure,aC (f:=ii') (fun _=>rfl)]) (by simp [ag.pure,nM]) σ;simp [H8,ahead_zero,bw]
 | many + 1,l,hl,hb,σ=>by
  refine Spec.aI (OT (by simp) ?_) (by simp [aG,ag.pure,aC (f:=ii') (fun _=>rfl)]) (by simp [ag.pure,nM]) σ
  have ih:=fun i (hi:i < m) σ=>nH hm many (l ++ [i]) (by simp; omega) (fun x hx=>by
   rcases List.mem_append.1 hx with h | h
   ·exact hb x h
   ·rw [List.mem_singleton.1 h]; omega) σ
  simp only [uu] at ih;have hmn:¬ ((many:Int) + 1 = 0):=by omega
  have w1:IntKind.i64.wrap (many:Int) = (many:Int):=aw (by omega) (by omega);obtain ⟨L,hL⟩:=zqq (aQ l);have hLl:L.length = l.length:=by rw [← hL]; simp [aQ]
  obtain ⟨a,ha⟩:=zqq (wQ l);have hpre:(L.length = 0 ∧ a = 0) ∨ (0 < L.length ∧ ∃ x:Nat,L[L.length - 1]? = some (x:Int) ∧ x ≤ 10 ∧ a = x + 1):=by
   rcases List.eq_nil_or_concat l with e | ⟨r,x,e⟩
   ·subst e; exact .inl ⟨by rw [hLl]; rfl,by rw [← ha]; rfl⟩
   ·have e':l = r ++ [x]:=by rw [e]; simp
    refine .inr ⟨by rw [hLl,e']; simp,x, ?_,hb x (by rw [e']; simp),by rw [← ha,e',uu]⟩;rw [← hL,e']; simp [aQ]
  rw [hL,ha,CL];have hihl:∀ i:Nat,aQ (l ++ [i]) = L ++ [(i:Int)]:=fun i=>by rw [← hL]; simp [aQ]
  simp only [hihl] at ih;have ha11:a ≤ 11:=by rcases hpre with ⟨_,h⟩ | ⟨_,x,_,h1,h2⟩ <;> omega
  rcases hpre with ⟨hL0,ha0⟩ | ⟨hL1,x,hx,hx10,hax⟩
  ·refine aa _ ?_;simp [H8,hmn,hL0];refine AW.loop (ι:=Nat) (fun i fr σ'=>∃ (q:Nat) (tl:af),fr = { v:=[(0, .slice 1 (L.map ii')),(1,ii' ((many:Int) + 1)),(2,ii' m),(8, .oslice 1 (bw ((List.range' a (i - a)).flatMap fun j=>bK (l ++ [j]) (cr m many (j + 1)))) 0 q),(9, .int .i64 i)],ds:=[] } ∧ σ' = .spare 1 q :: tl ∧ a ≤ i ∧ (i ≤ m ∨ i = a)) (fun i=>20 - i) a ⟨0,[],by simp [bw,ha0],rfl,by omega, .inr rfl⟩ ?_;rintro i fr σ' ⟨q,tl,rfl,rfl,hai,him⟩;refine (Nat.lt_or_ge i m).elim (fun hlt=>?_) (fun hge=>?_)
   ·have hltI:(i:Int) < m:=by omega
    have hfi:Fits 1 (L.map ii'):=oq L;have hstep:=xW (fun j=>bK (l ++ [j]) (cr m many (j + 1))) hai;have hal:∀ j,(bK (l ++ [j]) (cr m many (j + 1))).length ≤ 1024:=fun j=>by
     unfold bK;rw [List.length_map];exact Nat.le_trans (ll m _ many (j + 1) rfl) (Nat.le_trans (Nat.pow_le_pow_right (by omega) (show m - (j + 1) ≤ 10 by omega)) (by decide))
    have hfl:=yw (fun j=>bK (l ++ [j]) (cr m many (j + 1))) (List.range' a (i - a)) fun j _=>hal j;rw [List.length_range'] at hfl;have hw:IntKind.i64.wrap ((i:Int) + 1) = ((i + 1:Nat):Int):=by rw [aw (by omega) (by omega)]; simp
    have hii:=ih i hlt;have hali:=hal i;simp only [List.map_append,List.map_cons,List.map_nil] at hii;obtain ⟨X,hX⟩:=zqq (((List.range' a (i - a)).flatMap fun j=>bK (l ++ [j]) (cr m many (j + 1))));obtain ⟨Y,hY⟩:=zqq (bK (l ++ [i]) (cr m many (i + 1)));rw [hX] at hfl hstep;simp only [hY] at hstep hali hii;have hXl:(bw X).length ≤ 1024 * 20:=by unfold bw; rw [List.length_map]; exact Nat.le_trans hfl (Nat.mul_le_mul_left _ (by omega))
    have hYl:(bw Y).length ≤ 1024:=by unfold bw; rw [List.length_map]; exact hali
    have hfY:=mL Y;rw [hX];refine aa _ ?_;simp [hltI,hfi,fits_int,w1];refine ⟨by omega,by omega,ah.pure Lq (hii _) ?_⟩;simp [hfY,hw];exact ⟨by omega,i + 1,by omega,q + 1,⟨⟨by rw [hstep]; simp [bw],rfl⟩,by simp⟩,rfl,by omega,by omega⟩
   ·have him2:i - a = m - a:=by omega
    refine aa _ ?_;simp [show ¬ (i:Int) < m by omega,him2]
  ·have hLI:(0:Int) < L.length:=by omega
   have w2:IntKind.i64.wrap ((L.length:Int) - 1) = ((L.length - 1:Nat):Int):=by rw [aw (by omega) (by omega)]; omega
   have w5:IntKind.i64.wrap ((x:Int) + 1) = (a:Int):=by rw [aw (by omega) (by omega)]; omega
   have hlt1:L.length - 1 < L.length:=by omega
   have hxe:L[L.length - 1] = (x:Int):=by rw [List.getElem?_eq_getElem hlt1] at hx; exact Option.some.inj hx
   refine aa _ ?_;simp [H8,hmn,hL1,w2,hlt1,hxe,w5];refine AW.loop (ι:=Nat) (fun i fr σ'=>∃ (q:Nat) (tl:af),fr = { v:=[(0, .slice 1 (L.map ii')),(1,ii' ((many:Int) + 1)),(2,ii' m),(8, .oslice 1 (bw ((List.range' a (i - a)).flatMap fun j=>bK (l ++ [j]) (cr m many (j + 1)))) 0 q),(9, .int .i64 i)],ds:=[] } ∧ σ' = .spare 1 q :: tl ∧ a ≤ i ∧ (i ≤ m ∨ i = a)) (fun i=>20 - i) a ⟨0,[],by simp [bw],rfl,by omega, .inr rfl⟩ ?_;rintro i fr σ' ⟨q,tl,rfl,rfl,hai,him⟩;refine (Nat.lt_or_ge i m).elim (fun hlt=>?_) (fun hge=>?_)
   ·have hltI:(i:Int) < m:=by omega
    have hfi:Fits 1 (L.map ii'):=oq L;have hstep:=xW (fun j=>bK (l ++ [j]) (cr m many (j + 1))) hai;have hal:∀ j,(bK (l ++ [j]) (cr m many (j + 1))).length ≤ 1024:=fun j=>by
     unfold bK;rw [List.length_map];exact Nat.le_trans (ll m _ many (j + 1) rfl) (Nat.le_trans (Nat.pow_le_pow_right (by omega) (show m - (j + 1) ≤ 10 by omega)) (by decide))
    have hfl:=yw (fun j=>bK (l ++ [j]) (cr m many (j + 1))) (List.range' a (i - a)) fun j _=>hal j;rw [List.length_range'] at hfl;have hw:IntKind.i64.wrap ((i:Int) + 1) = ((i + 1:Nat):Int):=by rw [aw (by omega) (by omega)]; simp
    have hii:=ih i hlt;have hali:=hal i;simp only [List.map_append,List.map_cons,List.map_nil] at hii;obtain ⟨X,hX⟩:=zqq (((List.range' a (i - a)).flatMap fun j=>bK (l ++ [j]) (cr m many (j + 1))));obtain ⟨Y,hY⟩:=zqq (bK (l ++ [i]) (cr m many (i + 1)));rw [hX] at hfl hstep;simp only [hY] at hstep hali hii;have hXl:(bw X).length ≤ 1024 * 20:=by unfold bw; rw [List.length_map]; exact Nat.le_trans hfl (Nat.mul_le_mul_left _ (by omega))
    have hYl:(bw Y).length ≤ 1024:=by unfold bw; rw [List.length_map]; exact hali
    have hfY:=mL Y;rw [hX];refine aa _ ?_;simp [hltI,hfi,fits_int,w1];refine ⟨by omega,by omega,ah.pure Lq (hii _) ?_⟩;simp [hfY,hw];exact ⟨by omega,i + 1,by omega,q + 1,⟨⟨by rw [hstep]; simp [bw],rfl⟩,by simp⟩,rfl,by omega,by omega⟩
   ·have him2:i - a = m - a:=by omega
    refine aa _ ?_;simp [show ¬ (i:Int) < m by omega,him2]
set_option maxHeartbeats 4000000
theorem BH (l:List Nat) (i:Nat):((aQ l).any fun x=>decide (x = (i:Int))) = decide (i ∈ l):=by
 rw [Bool.eq_iff_iff,List.any_eq_true,decide_eq_true_eq];constructor
 ·rintro ⟨x,hx,e⟩;obtain ⟨j,hj,rfl⟩:=List.mem_map.1 hx;have:j = i:=by have:=of_decide_eq_true e; omega
  exact this ▸ hj
 ·intro h;exact ⟨(i:Int),List.mem_map_of_mem h,by simp⟩
theorem uC (a b:Int):Fits 2 [ag.agg [ii' a,ii' b]]:=fun v hv=>by
 simp at hv; subst hv; exact ⟨rfl,rfl⟩
theorem kU {y:ab} (hv:bV aR y) (w:List Nat) (hw:(aQ w).length ≤ maxLen) (σ:af) :
  Spec Tryz.prog Kx [y.v, .slice 1 ((aQ w).map ii')] σ fun r σ'=>r = .ret (.slice 2 ((alL y w).map kS)) ∧ σ' = σ:=by
 refine Spec.aI (Pu (by simp) (aa _ ?_)) (by simp [y.pure,aG,ag.pure,aC (f:=ii') (fun _=>rfl)]) (by simp [ag.pure,nZ]) σ;have hm10:=hv.m10;have hha:=fun (i:Nat) σ=>ji (aQ w) hw (i:Int) σ;simp only [BH] at hha;obtain ⟨W,hW⟩:=zqq ((aQ w).map ii');simp only [hW] at hha;rw [hW];have hall:=ud y w;simp [NC,ab.v,ab.cells];refine AW.loop (ι:=Nat) (fun i fr σ'=>∃ (q:Nat) (tl:af),fr = { v:=[(1, .slice 1 W),(2, .pval (yvL y)),(5, .oslice 2 (((alL y w).take i).map kS) 0 q),(6, .int .i64 i)],ds:=[] } ∧ σ' = .spare 2 q :: tl ∧ i ≤ y.papers.length) (fun i=>y.papers.length - i) 0 ⟨0,[],by simp,rfl,by omega⟩ ?_;rintro i fr σ' ⟨q,tl,rfl,rfl,hi⟩;refine (Nat.lt_or_ge i y.papers.length).elim (fun hlt=>?_) (fun hge=>?_);rotate_left
 ·obtain rfl:i = y.papers.length:=by omega
  refine aa _ ?_;simp;rw [List.take_of_length_le (by rw [List.length_map]; omega)]
 have hltI:(i:Int) < y.papers.length:=by omega
 have hwi:IntKind.i64.wrap ((i:Int) + 1) = ((i + 1:Nat):Int):=by rw [aw (by omega) (by omega)]; simp
 have hil:i < (alL y w).length:=by omega
 have hst:((alL y w).take (i + 1)).map kS = ((alL y w).take i).map kS ++ [kS (aY y w y.papers[i] i)]:=by
  rw [List.take_succ_eq_append_getElem hil,List.map_append,List.map_cons,List.map_nil];have:=yZ (y:=y) (wrong:=w) hlt;unfold tC at this;rw [List.getElem?_eq_getElem hil] at this;rw [show (alL y w)[i] = aY y w y.papers[i] i from this]
 have hln:(((alL y w).take i).map kS).length ≤ 10:=by rw [List.length_map,List.length_take]; omega
 rw [List.map_take,List.map_take] at hst;rw [List.map_take] at hln ⊢;obtain ⟨X,hX⟩:=zqq (((alL y w).map kS).take i);rw [hX] at hst hln ⊢;have hcp:=(hv.papers i hlt).copy;obtain ⟨⟨pk,ps,pd,pn,pc⟩,hx⟩:∃ p,y.papers[i] = p:=⟨_,rfl⟩;rw [hx] at hst hcp;dsimp only at hcp;rcases hcp with hc | ⟨c1,c2,c3,_⟩
 ·have hal:aY y w ⟨pk,ps,pd,pn,pc⟩ i = if i ∈ w then (0,1000000) else (pn,pn):=by unfold aY; rw [if_pos (by show pc < 0; omega)]
  have hhi:=hha i;obtain ⟨b,hb⟩:=zqq (decide (i ∈ w));rw [hb] at hhi;cases b
  ·rw [hal,if_neg (of_decide_eq_false hb)] at hst;refine aa _ ?_;simp [hltI,hlt,hx,aj.v,aj.cells,hc];refine ah.pure tI (hhi _) ?_;simp [hltI,hlt,hx,aj.v,aj.cells,hc,hwi,uC];exact ⟨by omega,i + 1,by omega,q + 1,⟨⟨by rw [hst]; rfl,rfl⟩,by simp⟩,rfl,by omega⟩
  ·rw [hal,if_pos (of_decide_eq_true hb)] at hst;refine aa _ ?_;simp [hltI,hlt,hx,aj.v,aj.cells,hc];refine ah.pure tI (hhi _) ?_;simp [hltI,hlt,hx,aj.v,aj.cells,hc,hwi,uC];exact ⟨by omega,i + 1,by omega,q + 1,⟨⟨by rw [hst]; rfl,rfl⟩,by simp⟩,rfl,by omega⟩
 ·obtain ⟨j,rfl⟩:∃ j:Nat,pc = j:=⟨pc.toNat,by omega⟩;have hj:j < y.papers.length:=by omega
  have hji:j ≠ i:=by omega
  obtain ⟨a,ha⟩:=zqq (min i j);obtain ⟨b,hb⟩:=zqq (max i j);have hal:aY y w ⟨pk,ps,pd,pn,(j:Int)⟩ i = if ¬ a ∈ w then (bA y a,bA y a) else if ¬ b ∈ w then (bA y b,bA y b) else (0,1000000):=by
   unfold aY;rw [if_neg (by show ¬ (j:Int) < 0; omega)];simp only [Int.toNat_natCast,ha,hb]
  have hjn:¬ (j:Int) = -1:=by omega
  have hmn:(if j < i then (j:Int) else (i:Int)) = a:=by split <;> omega
  have hmx:(if i < j then (j:Int) else (i:Int)) = b:=by split <;> omega
  have hb0:(0:Int) ≤ b:=by omega
  have hal1:a < y.papers.length:=by omega
  have hbl1:b < y.papers.length:=by omega
  have hhA:=hha a;have hhB:=hha b;obtain ⟨⟨ak,as',ad,an,ac⟩,hxa⟩:∃ p,y.papers[a] = p:=⟨_,rfl⟩;obtain ⟨⟨bk,bs,bd,bn,bc⟩,hxb⟩:∃ p,y.papers[b] = p:=⟨_,rfl⟩;have ka:bA y a = an:=by unfold bA; rw [List.getElem?_eq_getElem hal1,hxa]
  have kb:bA y b = bn:=by unfold bA; rw [List.getElem?_eq_getElem hbl1,hxb]
  rw [ka,kb] at hal;obtain ⟨u,hu⟩:=zqq (decide (a ∈ w));obtain ⟨v,hv'⟩:=zqq (decide (b ∈ w));rw [hu] at hhA;rw [hv'] at hhB;have hal2:aY y w ⟨pk,ps,pd,pn,(j:Int)⟩ i = if u = false then (an,an) else if v = false then (bn,bn) else (0,1000000):=by
   rw [hal];cases u <;> cases v <;> simp only [decide_eq_true_eq,decide_eq_false_iff_not] at hu hv' <;> simp [hu,hv']
  rw [hal2] at hst;cases u <;> cases v
  all_goals simp only [Bool.true_eq_false,if_true,if_false] at hst
  all_goals refine aa _ ?_
  all_goals simp [hltI,hlt,hx,aj.v,aj.cells,hmn,hmx,hb0]
  all_goals refine ah.pure tI (hhB _) ?_
  all_goals simp [hltI,hlt,hx,aj.v,aj.cells,hmn,hmx,hb0,hbl1,hxb]
  all_goals refine ah.pure tI (hhA _) ?_
  all_goals simp [hltI,hlt,hx,aj.v,aj.cells,hmn,hmx,hb0,hal1,hbl1,hxa,hxb,hwi,uC]
  all_goals exact ⟨by omega,i + 1,by omega,q + 1,⟨⟨by rw [hst]; rfl,rfl⟩,by simp⟩,rfl,by omega⟩
theorem kZ {y:ab} (hv:bV aR y) (w:List Nat) (hw:(aQ w).length ≤ maxLen) {i:Nat} (hi:i < y.papers.length) (σ:af) :
  Spec Tryz.prog KV [y.v, .slice 1 ((aQ w).map ii'),ii' i] σ fun r σ'=>r = .ret (.bool (bH y w i)) ∧ σ' = σ:=by
 refine Spec.aI (Rw (by simp) ?_) (by simp [y.pure,aG,ag.pure,aC (f:=ii') (fun _=>rfl)]) rfl σ;have hha:=fun (i:Nat) σ=>ji (aQ w) hw (i:Int) σ;simp only [BH] at hha;obtain ⟨W,hW⟩:=zqq ((aQ w).map ii');simp only [hW] at hha;rw [hW];have hhas:∀ n,fq w n = decide (n ∈ w):=fun n=>by rw [Bool.eq_iff_iff,dF,decide_eq_true_eq]
 have hcp:=(hv.papers i hi).copy;have hdf:bH y w i = (decide ((i:Int) < y.papers[i].copy) && !fq w i && !fq w y.papers[i].copy.toNat && decide (y.papers[i].kilos ≠ bA y y.papers[i].copy.toNat)):=by unfold bH; rw [List.getElem?_eq_getElem hi]
 rw [hdf,hhas,hhas];obtain ⟨⟨pk,ps,pd,pn,pc⟩,hx⟩:∃ p,y.papers[i] = p:=⟨_,rfl⟩;rw [hx] at hcp ⊢;dsimp only at hcp ⊢;have hjl:pc.toNat < y.papers.length:=by rcases hcp with h | ⟨h,h2,_⟩ <;> omega
 obtain ⟨⟨jk,js,jd,jn,jc⟩,hxj⟩:∃ p,y.papers[pc.toNat] = p:=⟨_,rfl⟩;have hgj:y.papers[pc.toNat]? = some ⟨jk,js,jd,jn,jc⟩:=by rw [List.getElem?_eq_getElem hjl,hxj]
 by_cases h1:(i:Int) < pc;rotate_left
 ·rw [decide_eq_false h1];refine aa _ ?_;simp [KK,ab.v,ab.cells,hi,hx,aj.v,aj.cells,h1,hgj]
  repeat (refine ⟨.bool false, ?_⟩; simp)
 obtain ⟨c1,c2⟩:0 ≤ pc ∧ pc < y.papers.length:=by rcases hcp with h | ⟨h,h2,_⟩ <;> omega
 obtain ⟨j,rfl⟩:∃ j:Nat,pc = j:=⟨pc.toNat,by omega⟩;have hj:j < y.papers.length:=by omega
 rw [Int.toNat_natCast] at hgj;have hxj:y.papers[j] = ⟨jk,js,jd,jn,jc⟩:=by rw [List.getElem?_eq_getElem hj] at hgj; exact Option.some.inj hgj
 have kj:bA y j = jn:=by unfold bA; rw [List.getElem?_eq_getElem hj,hxj]
 rw [decide_eq_true h1,Int.toNat_natCast,kj];have hhi:=hha i;have hhj:=hha j;obtain ⟨u,hu⟩:=zqq (decide (i ∈ w));obtain ⟨v,hv'⟩:=zqq (decide (j ∈ w));rw [hu] at hhi ⊢;rw [hv'] at hhj ⊢;have hij:i < j:=by omega
 cases u <;> cases v
 all_goals refine aa _ ?_
 all_goals simp [KK,ab.v,ab.cells,hi,hx,aj.v,aj.cells,hij]
 all_goals refine ⟨_,fun σ'=>aH.func tI (hhi σ'), ?_⟩
 all_goals simp [hj,hxj]
 all_goals first
  | (refine ⟨_,fun σ'=>aH.func tI (hhj σ'), ?_⟩; simp [aj.v,aj.cells])
  | (refine ⟨.bool false, ?_⟩; simp [aj.v,aj.cells])
 by_cases e:jn = pn
 ·simp [e]
 ·have e':¬ pn = jn:=fun h=>e h.symm;simp [e,e']
def nh (y:ab) (al:List (Int × Int)) (k:Nat) (P:Nat):Option aS:=
 if P = 0 then none
 else if 0 < dM (bC P) y.places.length y k (ib y al k) then some ⟨-1,k,P,dM (bC P) y.places.length y k (ib y al k)⟩
 else if bM (bC P) y.places.length y k (ib y al k) < 0 then some ⟨-1,k,P,bM (bC P) y.places.length y k (ib y al k)⟩ else none
def p6 (o:Option aS):ag:=.tup [(o.getD ⟨0,0,0,0⟩).v, .bool o.isSome]
theorem x9 (o:Option aS):(p6 o).pure = true:=by simp [p6,ag.pure,aG,aS.v,aS.cells]
theorem vi {y:ab} (hv:bV aR y) {al:List (Int × Int)} (hal:al.length = y.papers.length) (hok:qo al) (k:Nat) (σ:af) :
  Spec Tryz.prog GU [y.v, .slice 2 (al.map kS),ii' k] σ fun r σ'=>r = .ret (p6 ((List.range (2 ^ y.places.length)).findSome? (nh y al k))) ∧ σ' = σ:=by
 refine Spec.aI (Md (by simp) (aa _ ?_)) (by simp [y.pure,aG,ag.pure,nZ]) (x9 _) σ;have hp4:=hv.p4;have hpw:=fun σ=>jJ y.places.length (by omega) σ;obtain ⟨N,hN⟩:∃ N:Nat,2 ^ y.places.length = N:=⟨_,rfl⟩;have hN16:N ≤ 16:=by rw [← hN]; exact Nat.le_trans (Nat.pow_le_pow_right (by omega) hp4.2) (by decide)
 have hN1:1 ≤ N:=by rw [← hN]; exact Nat.one_le_two_pow
 have hov:=fun (P:Nat) (hP:P ≤ 1000) σ=>mN hv hal hok (k:Int) P hP σ;simp only [ab.v,ab.cells] at hov;rw [hN] at hpw ⊢;obtain ⟨AL,hAL⟩:=zqq (al.map kS);rw [hAL] at hov ⊢;simp [IC,ab.v,ab.cells]
 refine AW.loop (ι:=Nat) (fun P fr σ'=>∃ tl:af,fr = { v:=[(1, .slice 2 AL),(2,ii' k),(3, .pval (yvL y)),(6, .ptr 0 0),(8, .int .i64 P)],ds:=[] } ∧ σ' = .box [ii' 0,ii' 0,ii' 0,ii' 0] :: tl ∧ 1 ≤ P ∧ P ≤ N ∧ (List.range N).findSome? (nh y al k) = (List.range' P (N - P)).findSome? (nh y al k)) (fun P=>N - P) 1 ⟨[],by simp,by simp,by omega,by omega,by
  obtain ⟨n,rfl⟩:∃ n,N = n + 1:=⟨N - 1,by omega⟩;rw [List.range_eq_range',List.range'_succ,List.findSome?_cons]
  rfl⟩ ?_
 rintro P fr σ' ⟨tl,rfl,rfl,hP1,hPN,hq⟩;refine (Nat.lt_or_ge P N).elim (fun hlt=>?_) (fun hge=>?_);rotate_left
 ·obtain rfl:P = N:=by omega
  rw [Nat.sub_self] at hq;have hq2:(List.range P).findSome? (nh y al k) = none:=hq;rw [hq2];refine aa _ ?_;simp;refine ah.pure z8 (hpw _) ?_;simp [p6,aS.v,aS.cells]
 have hltI:(P:Int) < N:=by omega
 have hw:IntKind.i64.wrap ((P:Int) + 1) = ((P + 1:Nat):Int):=by rw [aw (by omega) (by omega)]; simp
 obtain ⟨d,hd⟩:∃ d,N - P = d + 1:=⟨N - P - 1,by omega⟩;have hd2:N - (P + 1) = d:=by omega
 rw [hd,List.range'_succ,List.findSome?_cons] at hq;have hoP:=hov P (by omega);have hfp:nh y al k P = if 0 < dM (bC P) y.places.length y k (ib y al k) then some ⟨-1,k,P,dM (bC P) y.places.length y k (ib y al k)⟩ else if bM (bC P) y.places.length y k (ib y al k) < 0 then some ⟨-1,k,P,bM (bC P) y.places.length y k (ib y al k)⟩ else none:=by
  unfold nh; rw [if_neg (by omega)]
 obtain ⟨u,hu⟩:=zqq (dM (bC P) y.places.length y k (ib y al k));obtain ⟨v,hv'⟩:=zqq (bM (bC P) y.places.length y k (ib y al k));rw [hu,hv'] at hoP hfp;by_cases h1:0 < u
 ·rw [if_pos h1] at hfp;rw [hfp] at hq;rw [hq];refine aa _ ?_;simp;refine ah.pure z8 (hpw _) ?_;simp [hlt];refine ah.pure FQ (hoP _) ?_;simp [h1,p6,aS.v,aS.cells]
 rw [if_neg h1] at hfp;by_cases h2:v < 0
 ·rw [if_pos h2] at hfp;rw [hfp] at hq;rw [hq];refine aa _ ?_;simp;refine ah.pure z8 (hpw _) ?_;simp [hlt];refine ah.pure FQ (hoP _) ?_;simp [h1,h2,p6,aS.v,aS.cells]
 rw [if_neg h2] at hfp;rw [hfp] at hq;refine aa _ ?_;simp;refine ah.pure z8 (hpw _) ?_;simp [hlt];refine ah.pure FQ (hoP _) ?_;simp [h1,h2,hw];exact ⟨P + 1,by omega,by simp,by omega,by omega,by rw [hq,hd2]⟩
theorem A6 {y:ab} (wrong:List Nat) (k:Nat):nh y (alL y wrong) k = ny y wrong k:=by
 funext P;unfold nh ny jO dY;rw [AD]
theorem mW {y:ab} (hv:bV aR y) (w:List Nat) (hw:(aQ w).length ≤ maxLen) (σ:af) :
  Spec Tryz.prog Lk [y.v, .slice 1 ((aQ w).map ii')] σ fun r σ'=>r = .ret (p6 (vp y w)) ∧ σ' = σ:=by
 refine Spec.aI (Qa (by simp) (aa _ ?_)) (by simp [y.pure,aG,ag.pure,aC (f:=ii') (fun _=>rfl)]) (x9 _) σ;have hk4:=hv.k4;have hm10:=hv.m10;have hdi:=fun (i:Nat) (hi:i < y.papers.length) σ=>kZ hv w hw hi σ;have hal:=fun σ=>kU hv w hw σ;have hfi:=fun (k:Nat) σ=>vi hv (ud y w) (xz hv w) k σ;simp only [A6] at hfi;have hkp:∀ k,(List.range (2 ^ y.places.length)).findSome? (ny y w k) = gD y w k:=fun k=>rfl;simp only [hkp] at hfi;obtain ⟨W,hW⟩:=zqq ((aQ w).map ii');obtain ⟨AL,hAL⟩:=zqq ((alL y w).map kS);simp only [ab.v,ab.cells,hW,hAL] at hdi hal hfi;rw [hW];simp [Mm,ab.v,ab.cells];refine AW.loop (ι:=Nat) (fun i fr σ'=>∃ tl:af,fr = { v:=[(1, .slice 1 W),(2, .pval (yvL y)),(4, .ptr 0 0),(6, .int .i64 i)],ds:=[] } ∧ σ' = .box [ii' 0,ii' 0,ii' 0,ii' 0] :: tl ∧ i ≤ y.papers.length ∧ mc y w = (List.range' i (y.papers.length - i)).find? (bH y w)) (fun i=>y.papers.length - i) 0 ⟨[],by simp,by simp,by omega,by unfold mc; rw [List.range_eq_range']; rfl⟩ ?_;rintro i fr σ' ⟨tl,rfl,rfl,hi,hq⟩;refine (Nat.lt_or_ge i y.papers.length).elim (fun hlt=>?_) (fun hge=>?_)
 ·have hltI:(i:Int) < y.papers.length:=by omega
  have hwi:IntKind.i64.wrap ((i:Int) + 1) = ((i + 1:Nat):Int):=by rw [aw (by omega) (by omega)]; simp
  obtain ⟨d,hd⟩:∃ d,y.papers.length - i = d + 1:=⟨y.papers.length - i - 1,by omega⟩;have hd2:y.papers.length - (i + 1) = d:=by omega
  rw [hd,List.range'_succ,List.find?_cons] at hq;have hdii:=hdi i hlt;obtain ⟨b,hb⟩:=zqq (bH y w i);rw [hb] at hdii hq;cases b
  ·refine aa _ ?_;simp [hltI];refine ah.pure DF (hdii _) ?_;simp [hwi];exact ⟨i + 1,by omega,by simp,by omega,by rw [hq,hd2]⟩
  ·have hwy:vp y w = some ⟨i,0,0,0⟩:=by unfold vp; rw [hq]
   rw [hwy];refine aa _ ?_;simp [hltI];refine ah.pure DF (hdii _) ?_;simp [p6,aS.v,aS.cells]
 obtain rfl:i = y.papers.length:=by omega
 rw [Nat.sub_self] at hq;have hq2:mc y w = none:=hq;have hwy:vp y w = (List.range y.kinds.length).findSome? (gD y w):=by unfold vp; rw [hq2]
 rw [hwy];refine aa _ ?_;simp;refine AW.loop (ι:=Nat) (fun k fr σ'=>∃ tl:af,fr = { v:=[(1, .slice 1 W),(2, .pval (yvL y)),(4, .ptr 0 0),(7, .int .i64 k)],ds:=[] } ∧ σ' = .box [ii' 0,ii' 0,ii' 0,ii' 0] :: tl ∧ k ≤ y.kinds.length ∧ (List.range y.kinds.length).findSome? (gD y w) = (List.range' k (y.kinds.length - k)).findSome? (gD y w)) (fun k=>y.kinds.length - k) 0 ⟨tl,by simp,by simp,by omega,by rw [List.range_eq_range']; rfl⟩ ?_;rintro k fr σ' ⟨tl,rfl,rfl,hk,hq⟩;refine (Nat.lt_or_ge k y.kinds.length).elim (fun hlt=>?_) (fun hge=>?_)
 ·have hltI:(k:Int) < y.kinds.length:=by omega
  have hwi:IntKind.i64.wrap ((k:Int) + 1) = ((k + 1:Nat):Int):=by rw [aw (by omega) (by omega)]; simp
  obtain ⟨d,hd⟩:∃ d,y.kinds.length - k = d + 1:=⟨y.kinds.length - k - 1,by omega⟩;have hd2:y.kinds.length - (k + 1) = d:=by omega
  rw [hd,List.range'_succ,List.findSome?_cons] at hq;have hfk:=hfi k;obtain ⟨o,ho⟩:=zqq (gD y w k);rw [ho] at hfk hq
  cases o with
  | none=>
   refine aa _ ?_;simp [hltI];refine ⟨_,fun σ' _=>aH.func JZ (hal σ'), ?_⟩;simp;refine ⟨_,fun σ' _=>aH.func IP (hfk σ'), ?_⟩;simp [p6,aS.v,aS.cells,hwi];exact ⟨k + 1,by omega,by simp,by omega,by rw [hq,hd2]⟩
  | some p=>
   obtain ⟨p1,p2,p3,p4⟩:=p;rw [hq];refine aa _ ?_;simp [hltI];refine ⟨_,fun σ' _=>aH.func JZ (hal σ'), ?_⟩;simp;refine ⟨_,fun σ' _=>aH.func IP (hfk σ'), ?_⟩;simp [p6,aS.v,aS.cells]
 ·obtain rfl:k = y.kinds.length:=by omega
  rw [Nat.sub_self] at hq;have hq3:(List.range y.kinds.length).findSome? (gD y w) = none:=hq;rw [hq3];refine aa _ ?_;simp [p6,aS.v,aS.cells]
theorem fD {y:ab} (hv:bV aR y) (w:List Nat) (hw:(aQ w).length ≤ maxLen) (σ:af) :
  Spec Tryz.prog K5 [y.v, .slice 1 ((aQ w).map ii')] σ fun r σ'=>r = .ret (.bool (aL y w)) ∧ σ' = σ:=by
 refine Spec.aI (Qm (by simp) (aa _ ?_)) (by simp [y.pure,aG,ag.pure,aC (f:=ii') (fun _=>rfl)]) rfl σ;have hp:=fun σ=>mW hv w hw σ;unfold aL;obtain ⟨o,ho⟩:=zqq (vp y w);rw [ho] at hp ⊢;simp only [ab.v,ab.cells] at hp
 cases o with
 | none=>
  simp [JV,ab.v,ab.cells];refine ah.pure HV (hp _) ?_;simp [p6,aS.v,aS.cells]
 | some p=>
  obtain ⟨p1,p2,p3,p4⟩:=p;simp [JV,ab.v,ab.cells];refine ah.pure HV (hp _) ?_;simp [p6,aS.v,aS.cells]
theorem tR (y:ab) (hy:dw y) (w:List Int) (hwl:w.length ≤ maxLen) (σ:af) :
  Spec Tryz.prog KB [y.v, .slice 1 (w.map ii')] σ fun r σ'=>r = .ret (.tup [.bool (gu y w).1,ii' (gu y w).2]) ∧ σ' = σ:=by
 refine Spec.aI (Qb (by simp) (aa _ ?_)) (by simp [y.pure,aG,ag.pure,aC (f:=ii') (fun _=>rfl)]) (by simp [ag.pure,aG]) σ;have hwr:=fun σ=>gg y hy w hwl σ;unfold gu;by_cases h0:cd y w = 0
 ·rw [if_neg (by simp [h0])];have hw:=(cw y w).1 h0;have hcl:=fun σ=>fD hw.valid (b8 w) (by rw [hw.is]; exact hwl) σ;rw [hw.is] at hcl;rw [h0] at hwr;simp only [ab.v,ab.cells] at hwr hcl;simp [KD,ab.v,ab.cells];refine ah.pure mB (hwr _) ?_;simp;refine ah.pure E3 (hcl _) ?_;simp
 ·rw [if_pos h0];obtain ⟨e,he⟩:=zqq (cd y w);rw [he] at hwr h0 ⊢;simp only [ab.v,ab.cells] at hwr;simp [KD,ab.v,ab.cells];refine ah.pure mB (hwr _) ?_;simp [h0]
theorem yK (y:ab) (hy:dw y) (w:List Int) (hwl:w.length ≤ maxLen) (σ:af) :
  Spec Tryz.prog KC [y.v, .slice 1 (w.map ii')] σ fun r σ'=>r = .ret (.tup [(Bb y w).1.v,ii' (Bb y w).2]) ∧ σ' = σ:=by
 refine Spec.aI (Qf (by simp) (aa _ ?_)) (by simp [y.pure,aG,ag.pure,aC (f:=ii') (fun _=>rfl)]) (by simp [ag.pure,aG,aS.v,aS.cells]) σ;have hwr:=fun σ=>gg y hy w hwl σ;unfold Bb;by_cases h0:cd y w = 0
 ·rw [if_neg (by simp [h0])];have hw:=(cw y w).1 h0;have hp:=fun σ=>mW hw.valid (b8 w) (by rw [hw.is]; exact hwl) σ;rw [hw.is] at hp;rw [h0] at hwr;obtain ⟨o,ho⟩:=zqq (vp y (b8 w));rw [ho] at hp ⊢;simp only [ab.v,ab.cells] at hwr hp
  cases o with
  | none=>
   simp [Hv,ab.v,ab.cells];refine ah.pure mB (hwr _) ?_;simp;refine ah.pure HV (hp _) ?_;simp [p6,aS.v,aS.cells,EI]
  | some p=>
   obtain ⟨p1,p2,p3,p4⟩:=p;simp [Hv,ab.v,ab.cells];refine ah.pure mB (hwr _) ?_;simp;refine ah.pure HV (hp _) ?_;simp [p6,aS.v,aS.cells]
 ·rw [if_pos h0];obtain ⟨e,he⟩:=zqq (cd y w);rw [he] at hwr h0 ⊢;simp only [ab.v,ab.cells] at hwr;simp [Hv,ab.v,ab.cells];refine ah.pure mB (hwr _) ?_;simp [h0,aS.v,aS.cells,EI]
theorem tz (y:ab) (hy:dw y) (w:List Int) (hwl:w.length ≤ maxLen) (p:aS) (σ:af) :
  Spec Tryz.prog J3 [y.v, .slice 1 (w.map ii'),p.v] σ fun r σ'=>r = .ret (.tup [.bool (jg y w p).1,ii' (jg y w p).2]) ∧ σ' = σ:=by
 refine Spec.aI (QR (by simp) ?_) (by simp [y.pure,p.pure,aG,ag.pure,aC (f:=ii') (fun _=>rfl)]) (by simp [ag.pure,aG]) σ;have hwr:=fun σ=>gg y hy w hwl σ;obtain ⟨pa,pk,pp,po⟩:=p;unfold jg;by_cases h0:cd y w = 0;rotate_left
 ·rw [if_pos h0];obtain ⟨e,he⟩:=zqq (cd y w);rw [he] at hwr h0 ⊢;simp only [ab.v,ab.cells] at hwr;refine aa _ ?_;simp [wu,ab.v,ab.cells,aS.v,aS.cells];refine ah.pure mB (hwr _) ?_;simp [h0]
 rw [if_neg (by simp [h0])];have hw:=(cw y w).1 h0;have hv:=hw.valid;rw [h0] at hwr;have hm10:=hv.m10;have hk4:=hv.k4;have hp4:=hv.p4;obtain ⟨nm,hnm⟩:=zqq ((y.papers.length:Int) - 1);obtain ⟨nk,hnk⟩:=zqq ((y.kinds.length:Int) - 1);have w1:IntKind.i64.wrap ((y.papers.length:Int) - 1) = nm:=by rw [aw (by omega) (by omega),hnm]
 have w2:IntKind.i64.wrap ((y.kinds.length:Int) - 1) = nk:=by rw [aw (by omega) (by omega),hnk]
 obtain ⟨N,hN⟩:∃ N:Nat,2 ^ y.places.length = N:=⟨_,rfl⟩;have hN16:N ≤ 16:=by rw [← hN]; exact Nat.le_trans (Nat.pow_le_pow_right (by omega) hp4.2) (by decide)
 have hpw:=fun σ=>jJ y.places.length (by omega) σ;rw [hN] at hpw;have w3:IntKind.i64.wrap ((N:Int) - 1) = (N:Int) - 1:=aw (by omega) (by omega);have hI1:=fun σ=>cA pa 0 nm σ;have hI2:=fun σ=>cA pk 0 nk σ;have hI3:=fun σ=>cA pp 1 ((N:Int) - 1) σ;simp only [ab.v,ab.cells] at hwr;unfold yp;dsimp only;rw [hnm,hnk];have hNI:((2:Int) ^ y.places.length - 1) = (N:Int) - 1:=by rw [← hN]; simp
 rw [hNI];by_cases hpa:pa = -1;rotate_left
 ·rw [if_pos hpa];by_cases a1:inI pa 0 nm = false
  ·rw [a1] at hI1 ⊢;rw [Bool.and_false,Bool.false_and];refine aa _ ?_;simp [wu,ab.v,ab.cells,aS.v,aS.cells];refine ah.pure mB (hwr _) ?_;simp [hpa,w1];refine ah.pure bY (hI1 _) ?_;simp
  rw [Bool.not_eq_false] at a1;rw [a1] at hI1 ⊢;have hin:=bB.1.1 a1;obtain ⟨i,rfl⟩:∃ i:Nat,pa = i:=⟨pa.toNat,by omega⟩;have hdi:=fun σ=>kZ hv (b8 w) (by rw [hw.is]; exact hwl) (i:=i) (by omega) σ;rw [hw.is] at hdi;rw [Int.toNat_natCast];obtain ⟨d,hd⟩:=zqq (bH y (b8 w) i);rw [hd] at hdi ⊢;simp only [ab.v,ab.cells] at hdi;have hcs:d = false ∨ (d = true ∧ ¬ pk = 0) ∨ (d = true ∧ pk = 0 ∧ ¬ pp = 0) ∨ (d = true ∧ pk = 0 ∧ pp = 0):=by
   cases d <;> by_cases z1:pk = 0 <;> by_cases z2:pp = 0 <;> simp [z1,z2]
  rcases hcs with rfl | ⟨rfl,z1⟩ | ⟨rfl,rfl,z2⟩ | ⟨rfl,rfl,rfl⟩
  ·refine aa _ ?_;simp [wu,ab.v,ab.cells,aS.v,aS.cells];refine ah.pure mB (hwr _) ?_;simp [hpa,w1];refine ah.pure bY (hI1 _) ?_;simp;refine ah.pure DF (hdi _) ?_;simp
  ·refine aa _ ?_;simp [wu,ab.v,ab.cells,aS.v,aS.cells];refine ah.pure mB (hwr _) ?_;simp [hpa,w1];refine ah.pure bY (hI1 _) ?_;simp;refine ah.pure DF (hdi _) ?_;simp [z1]
  ·refine aa _ ?_;simp [wu,ab.v,ab.cells,aS.v,aS.cells];refine ah.pure mB (hwr _) ?_;simp [hpa,w1];refine ah.pure bY (hI1 _) ?_;simp;refine ah.pure DF (hdi _) ?_;simp [z2]
  ·refine aa _ ?_;simp [wu,ab.v,ab.cells,aS.v,aS.cells];refine ah.pure mB (hwr _) ?_;simp [hpa,w1];refine ah.pure bY (hI1 _) ?_;simp;refine ah.pure DF (hdi _) ?_;simp;by_cases e:po = 0 <;> simp [e]
 rw [if_neg (by simp [hpa])];by_cases a2:inI pk 0 nk = false
 ·rw [a2] at hI2;rw [if_pos (.inl a2)];refine aa _ ?_;simp [wu,ab.v,ab.cells,aS.v,aS.cells];refine ah.pure mB (hwr _) ?_;simp [hpa,w2];refine ⟨_,fun σ'=>aH.func bY (hI2 σ'), ?_⟩;simp;refine ⟨.int .i64 1, ?_⟩;simp
 rw [Bool.not_eq_false] at a2;rw [a2] at hI2;by_cases a3:inI pp 1 ((N:Int) - 1) = false
 ·rw [a3] at hI3;rw [if_pos (.inr a3)];refine aa _ ?_;simp [wu,ab.v,ab.cells,aS.v,aS.cells];refine ah.pure mB (hwr _) ?_;simp [hpa,w2];refine ⟨_,fun σ'=>aH.func bY (hI2 σ'), ?_⟩;simp;refine ⟨_,fun σ'=>aH.func z8 (hpw σ'), ?_⟩;simp [w3];refine ⟨_,fun σ'=>aH.func bY (hI3 σ'), ?_⟩;simp
 rw [Bool.not_eq_false] at a3;rw [a3] at hI3;rw [if_neg (by simp [a2,a3])];have hk2:=bB.1.1 a2;have hp2:=bB.1.1 a3;obtain ⟨P,rfl⟩:∃ P:Nat,pp = P:=⟨pp.toNat,by omega⟩;rw [Int.toNat_natCast];obtain ⟨u,hu⟩:=zqq (jO y (b8 w) pk P);obtain ⟨v,hv'⟩:=zqq (dY y (b8 w) pk P);have hu0:0 ≤ u:=by
  rw [← hu]; unfold jO dM;split
  ·exact Int.le_max_left _ _
  ·exact Int.le_refl _
 have hv0:v ≤ 0:=by rw [← hv']; unfold dY bM; exact Int.min_le_left _ _
 have hov:=fun σ=>mN hv (ud y (b8 w)) (xz hv (b8 w)) pk P (by omega) σ;rw [AD] at hov;have hov2:∀ σ,Spec Tryz.prog Iv [y.v, .slice 2 ((alL y (b8 w)).map kS),ii' pk,ii' P] σ fun r σ'=>r = .ret (.tup [ii' u,ii' v]) ∧ σ' = σ:=fun σ=>by rw [← hu, ← hv']; exact hov σ
 have hal:=fun σ=>kU hv (b8 w) (by rw [hw.is]; exact hwl) σ;rw [hw.is] at hal;rw [hu,hv'];obtain ⟨AL,hAL⟩:=zqq ((alL y (b8 w)).map kS);simp only [ab.v,ab.cells,hAL] at hal hov2;by_cases h0p:po = 0
 ·subst h0p;have hz:(decide ((0:Int) < 0) && decide (0 = u) || decide ((0:Int) < 0) && decide (0 = v)) = false:=by simp
  rw [hz];refine aa _ ?_;simp [wu,ab.v,ab.cells,aS.v,aS.cells];refine ah.pure mB (hwr _) ?_;simp [hpa,w2];refine ⟨_,fun σ'=>aH.func bY (hI2 σ'), ?_⟩;simp;refine ⟨_,fun σ'=>aH.func z8 (hpw σ'), ?_⟩;simp [w3];refine ⟨_,fun σ'=>aH.func bY (hI3 σ'), ?_⟩;simp
 have hz:(decide (0 < po) && decide (po = u) || decide (po < 0) && decide (po = v)) = (decide (po = u) || decide (po = v)):=by
  by_cases e1:po = u
  ·have:0 < po:=by omega
   rw [decide_eq_true e1,decide_eq_true this]; simp
  ·by_cases e2:po = v
   ·have h1:¬ 0 < po:=by omega
    have h2:po < 0:=by omega
    simp [h1,h2];exact fun _=>e2
   ·simp [e1,e2]
 rw [hz];refine aa _ ?_;simp [wu,ab.v,ab.cells,aS.v,aS.cells];refine ah.pure mB (hwr _) ?_;simp [hpa,w2];refine ⟨_,fun σ'=>aH.func bY (hI2 σ'), ?_⟩;simp;refine ⟨_,fun σ'=>aH.func z8 (hpw σ'), ?_⟩;simp [w3];refine ⟨_,fun σ'=>aH.func bY (hI3 σ'), ?_⟩;simp [h0p];refine ⟨_,fun σ'=>aH.func JZ (hal σ'), ?_⟩;simp
 first
  | refine ⟨_,fun σ' _=>aH.func FQ (hov2 σ'), ?_⟩
  | refine ⟨_,fun σ'=>aH.func FQ (hov2 σ'), ?_⟩
 simp;by_cases e:po = v <;> simp [e]
set_option maxHeartbeats 1000000
set_option maxHeartbeats 4000000
theorem rJ (y:ab) (hy:dw y) (w:List Int) (hwl:w.length ≤ maxLen) (p:aS) (σ:af) :
  Spec Tryz.prog F_3 [y.v, .slice 1 (w.map ii'),p.v] σ fun r σ'=>r = .ret (.bool true) ∧ σ' = σ:=by
 refine Spec.aI (S_3 (by simp) (aa _ ?_)) (by simp [y.pure,p.pure,aG,ag.pure,aC (f:=ii') (fun _=>rfl)]) rfl σ;have c1:=fun σ=>eT y hy σ;have c2:=fun σ=>jY y hy σ;have d1:=fun σ=>dE y hy w hwl σ;have d2:=fun σ=>tR y hy w hwl σ;have e1:=fun σ=>nB y hy w hwl σ;have e2:=fun σ=>yK y hy w hwl σ;have f1:=fun σ=>kp y hy w hwl p σ;have f2:=fun σ=>tz y hy w hwl p σ;obtain ⟨pa,pk,pp,po⟩:=p;obtain ⟨⟨t1,t2,t3⟩,ht⟩:∃ t,bZ aR y = t:=⟨_,rfl⟩;obtain ⟨⟨u1,u2⟩,hu⟩:∃ t,gu y w = t:=⟨_,rfl⟩;obtain ⟨⟨⟨v1,v2,v3,v4⟩,v5⟩,hv⟩:∃ t,Bb y w = t:=⟨_,rfl⟩;obtain ⟨⟨x1,x2⟩,hx⟩:∃ t,jg y w ⟨pa,pk,pp,po⟩ = t:=⟨_,rfl⟩;rw [ht] at c1 c2;rw [hu] at d1 d2;rw [hv] at e1 e2;rw [hx] at f1 f2;simp only [ab.v,ab.cells,aS.v,aS.cells,cN] at c1 c2 d1 d2 e1 e2 f1 f2;simp [C_3,ab.v,ab.cells,aS.v,aS.cells];refine ah.pure zO (c1 _) ?_;simp;refine ah.pure H4 (c2 _) ?_;simp;refine ah.pure FD (d1 _) ?_;simp;refine ah.pure QJ (d2 _) ?_;simp;refine ah.pure ON (e1 _) ?_;simp;refine ah.pure RR (e2 _) ?_;simp;refine ah.pure Kt (f1 _) ?_;simp;refine ah.pure Pl (f2 _) ?_;simp;refine ah.pure Ep (hO _) ?_;simp
end Go.AM
