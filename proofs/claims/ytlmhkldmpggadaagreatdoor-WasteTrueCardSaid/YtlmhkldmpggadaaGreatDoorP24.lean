/- Chapter 09: journeys, counts that are found, ends: of the program. Chapter 09: what journeys allow, copies that differ: of the program. Chapter 09: by how much places have too much, and too little: of the program. Chapter 09: Why, Proves: of the program. -/
import Derived.Test.YtlmhkldmpggadaaGreatDoorP23
namespace Go.AM
open Go.Proofs
set_option maxRecDepth 100000
set_option maxHeartbeats 1000000
def mT (wrong:List Nat):ag:=.slice 1 (wrong.map fun i:Nat=>ii' (i:Int))
def bb (wrong:List Nat):List Int:=wrong.map fun i:Nat=>(i:Int)
theorem mZ (wrong:List Nat):mT wrong = .slice 1 ((bb wrong).map ii'):=by unfold mT bb; rw [List.map_map]; rfl
theorem mj (wrong:List Nat):(mT wrong).pure = true:=by rw [mZ]; simp [ag.pure,aD (f:=ii') (fun _=>rfl)]
def ou (wrong:List Nat):Prop:=wrong.length ≤ maxLen
theorem qb (wrong:List Nat) (hw:ou wrong) (i:Nat) (σ:af) :
  Spec Tryz.prog EE [mT wrong,ii' i] σ fun r σ'=>r = .ret (.bool (decide (i ∈ wrong))) ∧ σ' = σ:=by
 have h:=lF (bb wrong) (i:Int) (by unfold bb; rw [List.length_map]; exact hw) σ;have e:∀ l:List Nat,(bb l).contains (i:Int) = decide (i ∈ l):=fun l=>by
  rw [Bool.eq_iff_iff];simp [bb];exact ⟨fun ⟨a,h1,h2⟩=>(show a = i by omega) ▸ h1,fun h=>⟨i,h,rfl⟩⟩
 rw [mZ];rw [e] at h; exact h
theorem mr (y:ab) (i:Nat) (hi:i < y.papers.length) (σ:af) :
  Spec Tryz.prog JM [y.v,ii' i] σ fun r σ'=>r = .ret (.bool (br y.papers[i] i)) ∧ σ' = σ:=by
 refine Spec.aF (Sd (by simp) (aa _ ?_)) (by simp [y.pure,aH,ag.pure]) rfl σ;obtain ⟨p,hp⟩:=zqq (y.papers[i]);rw [hp];simp [LM,ab.v,ab.cells,hi,hp,aj.v,aj.cells,br]
theorem qQ (c:ay) (k p:Int) (σ:af):Spec Tryz.prog EV [c.v, .pval (.agg [ii' k,ii' p])] σ fun r σ'=>r = .ret (.bool (decide (c.kind = k) && decide (c.place = p))) ∧ σ' = σ:=by
 refine Spec.aF (P7 (by simp) (aa _ ?_)) (by simp [c.pure,aH,ag.pure]) rfl σ;simp [Md,ay.v,ay.cells];rw [Bool.eq_iff_iff]; simp
theorem kX (g:FuncId) (caps:List ag) (hp:aH caps = true) (p:ay → Bool) (l:List ay) (hl:l.length ≤ maxLen) (hf:∀ x ∈ l,oO Tryz.prog (.func (.func g) [] caps) [x.v] (.bool (p x))) (σ:af) :
  Spec Tryz.prog Jk [.slice 4 (l.map ay.v), .func (.func g) [] caps] σ fun r σ'=>r = .ret (.int .i64 (gP p l 0)) ∧ σ' = σ:=by
 refine Spec.aF (OX (by simp) (aa _ ?_)) (by simp [hp,aD (f:=ay.v) (fun c=>c.pure) l]) rfl σ;simp [LU];refine AW.loop (ι:=Nat) (fun i fr σ=>fr = { v:=[(0, .slice 4 (l.map ay.v)),(1, .func (.func g) [] caps),(7, .int .i64 l.length),(8, .int .i64 i)],ds:=[] } ∧ i ≤ l.length ∧ gP p l 0 = gP p (l.drop i) i) (fun i=>l.length - i) 0 (by simp) ?_;rintro i fr σ ⟨rfl,hi,hpi⟩;refine (Nat.lt_or_ge i l.length).elim (fun hlt=>?_) (fun hge=>?_)
 ·have hd:l.drop i = l[i] :: l.drop (i + 1):=List.drop_eq_getElem_cons hlt;have hx:=hf l[i] (List.getElem_mem _);obtain ⟨x,hxe⟩:=zqq (l[i]);rw [hd,hxe] at hpi;rw [hxe] at hx;have hw:=oE hlt hl;simp only [gP,ay.v,ay.cells] at hpi hx;rcases tf (p x) with h | h
  ·rw [h] at hpi hx;refine aa _ ?_;simp [hlt,hxe,ay.v,ay.cells];refine ah.of (hx σ) ?_;simp [hw];exact ⟨i + 1,by omega,by simp,by omega,by simpa using hpi⟩
  ·rw [h] at hpi hx;refine aa _ ?_;simp [hlt,hxe,ay.v,ay.cells];refine ah.of (hx σ) ?_;simp [hpi]
 ·have:l.drop i = []:=List.drop_eq_nil_of_le hge;rw [this] at hpi;refine aa _ ?_;simp [show ¬ i < l.length by omega,hpi,gP]
theorem qw (q:ay → Bool):∀ (l:List ay) (i:Nat),(gP q l i < 0 ∧ l.find? q = none) ∨ ∃ j, ∃ h:j < l.length,gP q l i = ((i + j:Nat):Int) ∧ l.find? q = some l[j]
 | [],i=>.inl ⟨by simp [gP],rfl⟩
 | a :: r,i=>by
  have e:gP q (a :: r) i = if q a then (i:Int) else gP q r (i + 1):=rfl;by_cases h:q a = true
  ·right; refine ⟨0,by simp,by rw [e,if_pos h]; simp,by simp [h]⟩
  ·have h':q a = false:=by simpa using h
   rcases qw q r (i + 1) with ⟨h1,h2⟩ | ⟨j,hj,h1,h2⟩
   ·left; exact ⟨by rw [e,if_neg h]; exact h1,by simp [h',h2]⟩
   ·right; exact ⟨j + 1,by simpa using hj,by rw [e,if_neg h,h1]; congr 1; omega,by simp [h',h2]⟩
def yQ (o:Option ay):ag:=.agg [ii' (loC o),ii' (hiC o)]
theorem fL (l:List ay) (hl:l.length ≤ maxLen) (k p:Int) (σ:af) :
  Spec Tryz.prog Jz [.slice 4 (l.map ay.v), .agg [ii' k,ii' p]] σ fun r σ'=>r = .ret (.tup [yQ (aB l k p), .bool (aB l k p).isSome]) ∧ σ' = σ:=by
 refine Spec.aF (Pm (by simp) ?_) (by simp [aH,ag.pure,aD (f:=ay.v) (fun c=>c.pure)]) (by simp [ag.pure,aH,yQ]) σ;have hx:=kX EV [.pval (.agg [ii' k,ii' p])] rfl (fun c=>decide (c.kind = k) && decide (c.place = p)) l hl (fun c _=>oO.fn Ps fun σ=>qQ c k p σ);rcases qw (fun c=>decide (c.kind = k) && decide (c.place = p)) l 0 with ⟨h1,h2⟩ | ⟨j,hj,h1,h2⟩
 ·have hfo:aB l k p = none:=h2;rw [hfo];refine aa _ ?_;simp [HJ];refine ah.pure L6 (hx _) ?_;simp [h1,yQ,loC,hiC]
 ·have hfo:aB l k p = some l[j]:=h2;rw [hfo];obtain ⟨c,hc⟩:=zqq (l[j]);rw [h1] at hx;rw [hc];simp only [Nat.zero_add] at hx;refine aa _ ?_;simp [HJ];refine ah.pure L6 (hx _) ?_;simp [hj,hc,ay.v,ay.cells,yQ,loC,hiC,show ¬ (j:Int) < 0 by omega]
def qu:ag:=.agg [.func (.func rL) [] [], .func (.func sC) [] [], .func (.func sC) [] [], .func (.func rL) [] []]
theorem ln (a b:Int) (σ:af):Spec Tryz.prog rL [.agg [ii' a,ii' b]] σ fun r σ'=>r = .ret (ii' a) ∧ σ' = σ:=by
 refine Spec.aF (Oo (by simp) (aa _ ?_)) rfl rfl σ;simp [Lg]
theorem eP (a b:Int) (σ:af):Spec Tryz.prog sC [.agg [ii' a,ii' b]] σ fun r σ'=>r = .ret (ii' b) ∧ σ' = σ:=by
 refine Spec.aF (Pu (by simp) (aa _ ?_)) rfl rfl σ;simp [Me]
theorem vc (σ:af):Spec Tryz.prog HC [] σ fun r σ'=>r = .ret qu ∧ σ' = σ:=by
 refine Spec.aF (QS (by simp) (aa _ ?_)) rfl rfl σ;simp [Ml,qu]
theorem rA (P:Nat) (hP:P < 16) (a:Int) (ha:a < 4) (σ:af):Spec Tryz.prog zk [ii' a, .pval (ii' P)] σ fun r σ'=>r = .ret (.bool (amg (bh P) a)) ∧ σ' = σ:=by
 refine Spec.aF (Pg (by simp) (aa _ ?_)) rfl rfl σ;by_cases h:0 ≤ a
 ·obtain ⟨n,rfl⟩:∃ n:Nat,a = n:=⟨a.toNat,by omega⟩;have key:∀ P:Nat,P < 16 → ∀ n:Nat,n < 4 → (DH BinOp.and IntKind.i64 ((P:Int).fdiv (2 ^ min n IntKind.i64.bits)) 1 == 1) = P.testBit n:=by decide +kernel
  have:=key P hP n (by omega);simp [Ht,amg,bh];exact this
 ·simp [Ht,amg,h]
theorem ot {y:ab} {j:Nat} (h:j < y.papers.length):bM y j = y.papers[j].kilos:=by unfold bM; rw [List.getElem?_eq_getElem h]
theorem lf {nm:ByteArray → Bool} {y:ab} (hv:bJ nm y) (wrong:List Nat) (hw:ou wrong) (i:Nat) (hi:i < y.papers.length) (σ:af) :
  Spec Tryz.prog HG [y.v,ii' i,mT wrong] σ fun r σ'=>r = .ret (.agg [ii' (aZ y wrong y.papers[i] i).1,ii' (aZ y wrong y.papers[i] i).2]) ∧ σ' = σ:=by
 refine Spec.aF (OQ (by simp) ?_) (by simp [y.pure,aH,ag.pure,mj]) rfl σ;have hp:=hv.papers i hi;have hm:=hv.m10;obtain ⟨p,hpe⟩:=zqq (y.papers[i]);rw [hpe] at hp ⊢;obtain ⟨S,hS⟩:∃ S:Int × Int,aZ y wrong p i = S:=⟨_,rfl⟩;rw [hS];have hcn:=fun j σ=>qb wrong hw j σ
 -- the loop over the one or two papers
 obtain ⟨L,hW⟩:∃ L,mT wrong = .slice 1 L:=⟨_,rfl⟩;rw [hW] at hcn ⊢
 have hjs:∃ js:List Nat,((p.copy < 0 ∧ js = [i]) ∨ ∃ k:Nat,p.copy = k ∧ js = [min i k,max i k]) ∧ (∀ j ∈ js,j < y.papers.length) ∧ js.length ≤ 2 ∧
   S = match js.find? (fun j=>decide (j ∉ wrong)) with
    | some j=>(bM y j,bM y j)
    | none=>(0,1000000):=by
  by_cases hc:p.copy < 0
  ·refine ⟨[i], .inl ⟨hc,rfl⟩,by simpa using hi,by simp, ?_⟩;rw [← hS]; unfold aZ; rw [if_pos hc];have hk:=ot hi;rw [hpe] at hk;by_cases h1:i ∈ wrong <;> simp [h1,hk]
  ·rcases hp.copy with e | ⟨c1,c2,c3,_⟩
   ·omega
   obtain ⟨k,hk⟩:∃ k:Nat,p.copy = k:=⟨p.copy.toNat,by omega⟩;refine ⟨[min i k,max i k], .inr ⟨k,hk,rfl⟩,by simp; omega,by simp, ?_⟩;rw [← hS]; unfold aZ; rw [if_neg hc,hk,Int.toNat_natCast];by_cases h1:min i k ∈ wrong
   ·by_cases h2:max i k ∈ wrong <;> simp [h1,h2]
   ·simp [h1]
 obtain ⟨js,hcase,hjl,hj2,hSj⟩:=hjs;refine aa _ ?_;rcases hcase with ⟨hc,hj1⟩ | ⟨k,hk,hj1⟩
 case' inl=>simp [I8,ab.v,ab.cells,aj.v,aj.cells,hi,hpe,show ¬ 0 ≤ p.copy by omega]
 case' inr=>
  have hmin:(if k < i then (k:Int) else (i:Int)) = ((min i k:Nat):Int):=by split <;> omega
  have hmax:(if i < k then (k:Int) else (i:Int)) = ((max i k:Nat):Int):=by split <;> omega
  simp [I8,ab.v,ab.cells,aj.v,aj.cells,hi,hpe,hk,hmin,hmax]
 all_goals
  refine AW.loop (ι:=Nat) (fun n fr σ'=>fr = { v:=[(2, .slice 1 L),(3, .pval y.v),(6, .ptr 0 0),(29, .slice 1 (js.map fun j:Nat=>ii' (j:Int))),(30, .int .i64 js.length),(31, .int .i64 n)],ds:=[] } ∧ σ' = [.box [ii' 0,ii' 0]] ∧ n ≤ js.length ∧ ∀ j ∈ js.take n,j ∈ wrong) (fun n=>js.length - n) 0 ⟨by simp [ab.v,ab.cells,hj1],by simp,by omega,by simp⟩ ?_;rintro n fr σ' ⟨rfl,rfl,hn,hin⟩;refine (Nat.lt_or_ge n js.length).elim (fun hlt=>?_) (fun hge=>?_)
  ·obtain ⟨j,hj⟩:=zqq (js[n]);have hjy:j < y.papers.length:=hjl j (hj ▸ List.getElem_mem hlt);have h0:=hcn j;have hkj:=ot hjy;obtain ⟨q,hq⟩:=zqq (y.papers[j]);rw [hq] at hkj;have hwn:IntKind.i64.wrap ((n:Int) + 1) = ((n + 1:Nat):Int):=by rw [aq (by omega) (by omega)]; simp
   have htk:js.take (n + 1) = js.take n ++ [j]:=by rw [List.take_succ_eq_append_getElem hlt,hj]
   by_cases h1:j ∈ wrong
   ·rw [decide_eq_true h1] at h0;refine aa _ ?_;simp [ab.v,ab.cells,hlt,hj];refine ah.pure EB (h0 _) ?_;simp [hwn]
    exact ⟨n + 1,by omega,by simp,by omega,by
     rw [htk]; intro x hx;rcases List.mem_append.1 hx with h | h
     ·exact hin x h
     ·rw [List.mem_singleton.1 h]; exact h1⟩
   ·rw [decide_eq_false h1] at h0;have hfd:js.find? (fun j=>decide (j ∉ wrong)) = some j:=by
     rw [List.find?_eq_some_iff_getElem];refine ⟨by simp [h1],n,hlt,hj,fun m hm=>?_⟩;have:=hin js[m] (List.mem_take_iff_getElem.2 ⟨m,by omega,rfl⟩);simp [this]
    rw [hfd] at hSj;dsimp only at hSj;rw [hSj,hkj];refine aa _ ?_;simp [ab.v,ab.cells,hlt,hj];refine ah.pure EB (h0 _) ?_;simp [ab.v,ab.cells,aj.v,aj.cells,hlt,hj,hjy,hq]
  ·have hfd:js.find? (fun j=>decide (j ∉ wrong)) = none:=by
    rw [List.find?_eq_none];intro x hx;rw [List.take_of_length_le hge] at hin;simp [hin x hx]
   rw [hfd] at hSj;rw [hSj];refine aa _ ?_;simp [show ¬ n < js.length by omega]
theorem GF {y:ab} {wrong:List Nat} {i:Nat} (hi:i < y.papers.length):cD y wrong i = (decide ((i:Int) < y.papers[i].copy) && !mY wrong i && !mY wrong y.papers[i].copy.toNat && decide (y.papers[i].kilos ≠ bM y y.papers[i].copy.toNat)):=by
 unfold cD; rw [List.getElem?_eq_getElem hi]
theorem kG {nm:ByteArray → Bool} {y:ab} (hv:bJ nm y) (wrong:List Nat) (hw:ou wrong) (i:Nat) (hi:i < y.papers.length) (σ:af) :
  Spec Tryz.prog M5 [y.v,ii' i,mT wrong] σ fun r σ'=>r = .ret (.bool (cD y wrong i)) ∧ σ' = σ:=by
 refine Spec.aF (TZ (by simp) ?_) (by simp [y.pure,aH,ag.pure,mj]) rfl σ;have hp:=hv.papers i hi;rw [GF hi];obtain ⟨p,hpe⟩:=zqq (y.papers[i]);rw [hpe] at hp ⊢;have hcn:=fun j σ=>qb wrong hw j σ;have hh:∀ j,mY wrong j = decide (j ∈ wrong):=fun j=>by rw [Bool.eq_iff_iff,ix,decide_eq_true_eq]
 rw [hh,hh];obtain ⟨L,hW⟩:∃ L,mT wrong = .slice 1 L:=⟨_,rfl⟩;rw [hW] at hcn ⊢;obtain ⟨k,hk⟩:∃ k:Nat,p.copy.toNat = k:=⟨_,rfl⟩;have hkl:k < y.papers.length:=by
  rcases hp.copy with e | ⟨c1,c2,c3,_⟩ <;> omega
 obtain ⟨q,hq⟩:=zqq (y.papers[k]);have hkq:=ot hkl;rw [hq] at hkq;rw [hk,hkq];by_cases hc:(i:Int) < p.copy;rotate_left
 ·rw [decide_eq_false hc];refine aa _ ?_;simp [KN,ab.v,ab.cells,aj.v,aj.cells,hi,hpe,hc,hk,hkl,hq];refine ⟨.bool true, ?_⟩;simp;refine ⟨.bool true, ?_⟩;simp
 have hkI:p.copy = k:=by omega
 have hik:i < k:=by omega
 by_cases h1:p.kilos = q.kilos
 ·rw [decide_eq_false (p:=p.kilos ≠ q.kilos) (by simp [h1]),Bool.and_false];refine aa _ ?_;simp [KN,ab.v,ab.cells,aj.v,aj.cells,hi,hpe,hkI,hkl,hq,hik,h1];refine ⟨.bool true, ?_⟩;simp;refine ⟨.bool true, ?_⟩;simp
 ·rw [decide_eq_true (p:=p.kilos ≠ q.kilos) h1,Bool.and_true,hkI,decide_eq_true (p:=(i:Int) < k) (by omega),Bool.true_and];have c1:=hcn i;have c2:=hcn k;obtain ⟨a,ha⟩:=zqq (decide (i ∈ wrong));obtain ⟨b,hb⟩:=zqq (decide (k ∈ wrong));rw [ha] at c1 ⊢;rw [hb] at c2 ⊢;refine aa _ ?_;simp [KN,ab.v,ab.cells,aj.v,aj.cells,hi,hpe,hkI,hkl,hq,hik,h1];refine ⟨.bool a, ?_⟩;simp;refine ⟨fun σ'=>aE.func EB (c1 σ'), .bool b, ?_⟩;simp;cases a <;> simp;exact fun σ'=>aE.func EB (c2 σ')
theorem nB {nm:ByteArray → Bool} {y:ab} (hv:bJ nm y) (wrong:List Nat) (hw:ou wrong) (σ:af) :
  Spec Tryz.prog Nn [y.v,mT wrong] σ fun r σ'=>r = .ret (ii' (match nF y wrong with | some i=>(i:Int) | none=>-1)) ∧ σ' = σ:=by
 refine Spec.aF (Uc (by simp) ?_) (by simp [y.pure,aH,mj]) rfl σ;have hm:=hv.m10;have hd:=fun i hi σ=>kG hv wrong hw i hi σ;obtain ⟨L,hW⟩:∃ L,mT wrong = .slice 1 L:=⟨_,rfl⟩;rw [hW] at hd ⊢;simp only [ab.v,ab.cells] at hd;refine aa _ ?_;simp [QQ,ab.v,ab.cells];refine AW.loop (ι:=Nat) (fun i fr _=>fr = { v:=[(1, .slice 1 L),(2, .pval y.v),(9, .int .i64 y.papers.length),(10, .int .i64 i)],ds:=[] } ∧ i ≤ y.papers.length ∧ ∀ j,j < i → cD y wrong j = false) (fun i=>y.papers.length - i) 0 ⟨by simp [ab.v,ab.cells],by omega,by simp⟩ ?_;rintro i fr σ' ⟨rfl,hi,hp⟩;refine (Nat.lt_or_ge i y.papers.length).elim (fun hlt=>?_) (fun hge=>?_)
 ·have h0:=hd i hlt;have hwi:IntKind.i64.wrap ((i:Int) + 1) = ((i + 1:Nat):Int):=by rw [aq (by omega) (by omega)]; simp
  rcases tf (cD y wrong i) with h | h
  ·rw [h] at h0;refine aa _ ?_;simp [hlt,ab.v,ab.cells];refine ah.pure ML (h0 _) ?_;simp [hwi]
   exact ⟨i + 1,by omega,by simp,by omega,fun j hj=>by
    rcases Nat.lt_or_ge j i with h' | h'
    ·exact hp j h'
    ·obtain rfl:j = i:=by omega
     exact h⟩
  ·rw [h] at h0;rw [H7 hp hlt h];refine aa _ ?_;simp [hlt,ab.v,ab.cells];refine ah.pure ML (h0 _) ?_;simp
 ·rw [Gr fun j hj=>hp j (by omega)];refine aa _ ?_;simp [show ¬ i < y.papers.length by omega]
structure N4 (y:ab) (wrong:List Nat) (kind:Int) (P:Nat) (k:Nat) (fc fg:FuncId) (c g:Int → Int → Int) (acc:Nat → Nat → Int):Prop where
 ends:List.take 2 (List.drop (k * 2) ([.func (.func rL) [] [], .func (.func sC) [] [], .func (.func sC) [] [], .func (.func rL) [] []]:List ag)) = [.func (.func fc) [] [], .func (.func fg) [] []]
 hc:au Tryz.prog fc = true
 hg:au Tryz.prog fg = true
 cs:∀ a b σ,Spec Tryz.prog fc [.agg [ii' a,ii' b]] σ fun r σ'=>r = .ret (ii' (c a b)) ∧ σ' = σ
 gs:∀ a b σ,Spec Tryz.prog fg [.agg [ii' a,ii' b]] σ fun r σ'=>r = .ret (ii' (g a b)) ∧ σ' = σ
 zero:acc 0 0 = 0
 place:∀ a,acc (a + 1) 0 = acc a 0 + (if bh P a then c (loC (aB y.first kind a)) (hiC (aB y.first kind a)) - g (loC (aB y.last kind a)) (hiC (aB y.last kind a)) else 0)
 paper:∀ a i (h:i < y.papers.length),acc a (i + 1) = acc a i + (if y.papers[i].kind = kind ∧ br y.papers[i] i = true then (if amg (bh P) y.papers[i].dst && !amg (bh P) y.papers[i].src then c (aZ y wrong y.papers[i] i).1 (aZ y wrong y.papers[i] i).2 else 0) - (if amg (bh P) y.papers[i].src && !amg (bh P) y.papers[i].dst then g (aZ y wrong y.papers[i] i).1 (aZ y wrong y.papers[i] i).2 else 0) else 0)
 b:∀ a i,a ≤ 4 → -14000000 ≤ acc a i ∧ acc a i ≤ 14000000
 cb:∀ u v,Big u → Big v → Big (c u v)
 gb:∀ u v,Big u → Big v → Big (g u v)
theorem KW {nm:ByteArray → Bool} {y:ab} (hv:bJ nm y) (wrong:List Nat) (kind:Int) (P:Nat):N4 y wrong kind P 0 rL sC (fun a _=>a) (fun _ b=>b) (jW (bh P) y wrong kind):=
 ⟨rfl,Lx,K6,ln,eP,rfl,fun a=>(uB _ y wrong kind a).1,fun a i h=>by
  rw [(uL (bh P) wrong kind a h).1]; rfl,fun a i ha=>(EN hv _ wrong kind ha i).1,fun _ _ h _=>h,fun _ _ _ h=>h⟩
theorem IU {nm:ByteArray → Bool} {y:ab} (hv:bJ nm y) (wrong:List Nat) (kind:Int) (P:Nat):N4 y wrong kind P 1 sC rL (fun _ b=>b) (fun a _=>a) (fU (bh P) y wrong kind):=
 ⟨rfl,K6,Lx,eP,ln,rfl,fun a=>(uB _ y wrong kind a).2,fun a i h=>by
  rw [(uL (bh P) wrong kind a h).2]; rfl,fun a i ha=>(EN hv _ wrong kind ha i).2,fun _ _ _ h=>h,fun _ _ h _=>h⟩
theorem M0 {nm:ByteArray → Bool} {y:ab} (hv:bJ nm y) (wrong:List Nat) (kind:Int) (P:Nat) {k:Nat} (hk:k < 2):∃ fc fg c g,N4 y wrong kind P k fc fg c g (if k = 0 then jW (bh P) y wrong kind else fU (bh P) y wrong kind):=by
 rcases (by omega:k = 0 ∨ k = 1) with rfl | rfl
 ·exact ⟨_,_,_,_,KW hv wrong kind P⟩
 ·exact ⟨_,_,_,_,IU hv wrong kind P⟩
theorem mh {nm:ByteArray → Bool} {y:ab} (hv:bJ nm y) (wrong:List Nat) (hw:ou wrong) (kind:Int) (P:Nat) (hP:P < 2 ^ y.places.length) (σ:af) :
  Spec Tryz.prog MO [y.v,ii' kind,ii' P,mT wrong] σ fun r σ'=>r = .ret (.tup [ii' (lS y wrong kind P),ii' (fH y wrong kind P)]) ∧ σ' = σ:=by
 refine Spec.aF (SI (by simp) ?_) (by simp [y.pure,aH,ag.pure,mj]) rfl σ;have hn4:=hv.p4.2;have hm10:=hv.m10;have hP16:P < 16:=Nat.lt_of_lt_of_le hP (Nat.le_trans (Nat.pow_le_pow_right (by omega) hn4) (by decide));have hfi:y.first.length ≤ maxLen:=by have:=hv.f8; simp only [maxLen]; omega
 have hla:y.last.length ≤ maxLen:=by have:=hv.l8; simp only [maxLen]; omega
 have hov:=Ke (bh P) y wrong kind (Nat.le_refl y.papers.length);have ham:=fun (a:Int) (ha:a < 4) σ=>rA P hP16 a ha σ;have hal:=fun i hi σ=>lf hv wrong hw i hi σ;have hle:=fun i hi σ=>mr y i hi σ;have hff:=fun p σ=>fL y.first hfi kind p σ
 have hfl:=fun p σ=>fL y.last hla kind p σ;obtain ⟨L,hW⟩:∃ L,mT wrong = .slice 1 L:=⟨_,rfl⟩;rw [hW] at hal ⊢;unfold lS fH;rw [hov.1,hov.2];clear hov;simp only [ab.v,ab.cells] at hal hle;refine aa _ ?_;simp [RG,ab.v,ab.cells];refine ah.pure Rg (vc _) ?_;simp [qu];obtain ⟨osF,hosF⟩:∃ f:Nat → List Int,f = fun k=>[if 0 < k then jW (bh P) y wrong kind y.places.length y.papers.length else 0,if 1 < k then fU (bh P) y wrong kind y.places.length y.papers.length else 0]:=⟨_,rfl⟩;obtain ⟨wF,hwF⟩:∃ f:Nat → Bool,f = fun k=>if 0 < k then cz (bh P) y kind y.places.length else true:=⟨_,rfl⟩;have hos0:osF 0 = [0,0]:=by rw [hosF]; rfl
 have hwF0:wF 0 = true:=by rw [hwF]; rfl
 refine AW.loop (ι:=Nat) (fun k fr σ'=>∃ (tl:af),fr = { v:=[(1,ii' kind),(3, .slice 1 L),(4, .pval y.v),(8,ii' 0),(10, .func (.func zk) [] [.pval (ii' P)]),(11, .ptr 0 0),(12, .bool (wF k)),(24,qu),(25, .int .i64 k)],ds:=[] } ∧ σ' = .box ((osF k).map ii') :: tl ∧ k ≤ 2) (fun k=>2 - k) 0 ⟨[],by simp [ab.v,ab.cells,qu,hwF0],by rw [hos0]; rfl,by omega⟩ ?_;rintro k fr σ' ⟨tl,rfl,rfl,hk2⟩;refine (Nat.lt_or_ge k 2).elim (fun hlt=>?_) (fun hge=>?_);rotate_left
 ·obtain rfl:k = 2:=by omega
  obtain ⟨lo,hlo⟩:∃ v,jW (bh P) y wrong kind y.places.length y.papers.length = v:=⟨_,rfl⟩;obtain ⟨hi,hhi⟩:∃ v,fU (bh P) y wrong kind y.places.length y.papers.length = v:=⟨_,rfl⟩;have e1:(if 0 < lo then lo else 0) = max 0 lo:=by omega
  have e2:(if hi < 0 then hi else 0) = min 0 hi:=by omega
  have e3:osF 2 = [lo,hi]:=by rw [hosF, ← hlo, ← hhi]; rfl
  have e4:wF 2 = cz (bh P) y kind y.places.length:=by rw [hwF]; rfl
  rw [hlo,hhi,e3,e4];rcases tf (cz (bh P) y kind y.places.length) with h | h
  ·refine aa _ ?_;simp [h,e1,e2]
  ·refine aa _ ?_;simp [h,e1,e2]
 obtain ⟨fc,fg,c,g,hE⟩:=M0 hv wrong kind P hlt;obtain ⟨acc,hacc⟩:=zqq ((if k = 0 then jW (bh P) y wrong kind else fU (bh P) y wrong kind));rw [hacc] at hE;have hol:(osF k).length = 2:=by rw [hosF]; rfl
 have hok:(osF k)[k]'(by omega) = 0:=by
  simp only [hosF];rcases (by omega:k = 0 ∨ k = 1) with rfl | rfl <;> simp
 have hosn:osF (k + 1) = (osF k).set k (acc y.places.length y.papers.length):=by
  rw [hosF, ← hacc];rcases (by omega:k = 0 ∨ k = 1) with rfl | rfl <;> simp
 have hwFn:wF (k + 1) = (wF k && cz (bh P) y kind y.places.length):=by
  rw [hwF];rcases (by omega:k = 0 ∨ k = 1) with rfl | rfl <;> simp
 clear hosF hwF hacc hos0 hwF0;obtain ⟨os,hos⟩:=zqq (osF k);obtain ⟨w,hw0⟩:=zqq (wF k);simp only [hos] at hol hok hosn ⊢;simp only [hw0] at hwFn ⊢;obtain ⟨n,hn⟩:=zqq y.places.length;obtain ⟨m,hm⟩:=zqq y.papers.length;rw [hn,hm] at hosn;rw [hn] at hwFn;obtain ⟨W,hWd⟩:∃ W:Nat → Bool,W = fun a=>w && cz (bh P) y kind a:=⟨_,rfl⟩;have hW0:W 0 = w:=by rw [hWd]; simp [cz]
 have hWs:∀ a,W (a + 1) = (W a && (!bh P a || (aB y.last kind a).isSome)):=fun a=>by rw [hWd]; simp [cz,Bool.and_assoc]
 have hWn:W n = wF (k + 1):=by rw [hWd,hwFn]
 clear hWd hwFn;have hends:=hE.ends;have hk4:k * 2 + 2 ≤ 4:=by omega
 have hltI:(k:Int) < 2:=by omega
 have hwk:IntKind.i64.wrap ((k:Int) + 1) = ((k + 1:Nat):Int):=by rw [aq (by omega) (by omega)]; simp
 refine aa _ ?_;simp [qu,hltI,hends,hk4,ab.v,ab.cells,hn];refine AW.loop (ι:=Nat) (fun a fr σ'=>∃ (tl:af),fr = { v:=[(1,ii' kind),(3, .slice 1 L),(4, .pval y.v),(8,ii' 0),(10, .func (.func zk) [] [.pval (ii' P)]),(11, .ptr 0 0),(12, .bool (W a)),(13, .int .i64 k),(14, .pval (.agg [.func (.func fc) [] [], .func (.func fg) [] []])),(24,qu),(25, .int .i64 k),(32, .int .i64 n),(33, .int .i64 a)],ds:=[] } ∧ σ' = .box ((os.set k (acc a 0)).map ii') :: tl ∧ a ≤ n) (fun a=>n - a) 0 ⟨tl ++ [.dead],by simp [ab.v,ab.cells,qu,hW0],by rw [hE.zero, ← hok,List.set_getElem_self],by omega⟩ ?_;rintro a fr σ' ⟨tl',rfl,rfl,ha⟩;refine (Nat.lt_or_ge a n).elim (fun hla=>?_) (fun hga=>?_)
 ·have hwa:IntKind.i64.wrap ((a:Int) + 1) = ((a + 1:Nat):Int):=by rw [aq (by omega) (by omega)]; simp
  have hama:=ham (a:Int) (by omega);have hpl:=hE.place a;have hwh:=hWs a;have hbi:amg (bh P) (a:Int) = bh P a:=by simp [amg]
  rw [hbi] at hama;rcases tf (bh P a) with hb | hb
  ·rw [hb] at hama hpl hwh;simp at hpl hwh;refine aa _ ?_;simp [hla,ab.v,ab.cells];refine ah.of (aE.func l7 (hama _)) ?_;simp [hwa];exact ⟨a + 1,by omega,⟨hwh.symm,by simp⟩,by rw [hpl],by omega⟩
  ·rw [hb] at hama hpl hwh;obtain ⟨o1,ho1⟩:∃ o,aB y.first kind a = o:=⟨_,rfl⟩
   obtain ⟨o2,ho2⟩:∃ o,aB y.last kind a = o:=⟨_,rfl⟩;have b1:=bx hv.ok.first kind a
   have b2:=bx hv.ok.last kind a;have h1:=hff a;have h2:=hfl a;rw [ho1] at h1 b1 hpl;rw [ho2] at h2 b2 hpl hwh;simp only [yQ] at h1 h2;obtain ⟨p1,hp1⟩:∃ v,loC o1 = v:=⟨_,rfl⟩;obtain ⟨p2,hp2⟩:∃ v,hiC o1 = v:=⟨_,rfl⟩;obtain ⟨q1,hq1⟩:∃ v,loC o2 = v:=⟨_,rfl⟩;obtain ⟨q2,hq2⟩:∃ v,hiC o2 = v:=⟨_,rfl⟩;rw [hp1,hp2] at h1 b1;rw [hq1,hq2] at h2 b2;rw [hp1,hp2,hq1,hq2] at hpl;have hcb:=hE.cb p1 p2 b1.1 b1.2.1;have hgb:=hE.gb q1 q2 b2.1 b2.2.1;have hcs:=hE.cs p1 p2;have hgs:=hE.gs q1 q2;obtain ⟨u,hu⟩:∃ v,c p1 p2 = v:=⟨_,rfl⟩;obtain ⟨v,hv'⟩:=zqq (g q1 q2);rw [hu] at hcb hcs hpl;rw [hv'] at hgb hgs hpl;unfold Big at hcb hgb;have hacb:=hE.b a 0 (by omega);have e1:IntKind.i64.wrap (u - v) = u - v:=aq (by omega) (by omega);have e2:IntKind.i64.wrap (acc a 0 + (u - v)) = acc (a + 1) 0:=by rw [hpl,if_pos rfl]; exact aq (by omega) (by omega)
   obtain ⟨x,hx⟩:=zqq o2.isSome;rw [hx] at h2 hwh;obtain ⟨wa,hwa'⟩:∃ x,W a = x:=⟨_,rfl⟩;rw [hwa'] at hwh ⊢;refine aa _ ?_;simp [hla,ab.v,ab.cells];refine ah.of (aE.func l7 (hama _)) ?_;simp [hla,ab.v,ab.cells];refine ah.pure zL (h1 _) ?_;simp [hla,ab.v,ab.cells];refine ah.pure zL (h2 _) ?_;simp [hla,ab.v,ab.cells,hol,hlt,hltI];refine ⟨ii' u,fun σ'=>aE.func hE.hc (hcs σ'),ii' v,fun σ'=>aE.func hE.hg (hgs σ'), ?_⟩;simp [e1,e2,hwa];exact ⟨by omega,a + 1,by omega,⟨by rw [hwh]; simp,by simp⟩,rfl,by omega⟩
 obtain rfl:a = n:=by omega
 rw [hWn];refine aa _ ?_;simp [ab.v,ab.cells,hm];refine AW.loop (ι:=Nat) (fun i fr σ'=>∃ (tl:af),fr = { v:=[(1,ii' kind),(3, .slice 1 L),(4, .pval y.v),(8,ii' 0),(10, .func (.func zk) [] [.pval (ii' P)]),(11, .ptr 0 0),(12, .bool (wF (k + 1))),(13, .int .i64 k),(14, .pval (.agg [.func (.func fc) [] [], .func (.func fg) [] []])),(24,qu),(25, .int .i64 k),(81, .slice 5 (y.papers.map aj.v)),(82, .int .i64 m),(83, .int .i64 i)],ds:=[] } ∧ σ' = .box ((os.set k (acc a i)).map ii') :: tl ∧ i ≤ m) (fun i=>m - i) 0 ⟨tl',by simp [ab.v,ab.cells,qu],by simp,by omega⟩ ?_;rintro i fr σ' ⟨tl2,rfl,rfl,hi⟩;refine (Nat.lt_or_ge i m).elim (fun hli=>?_) (fun hgi=>?_);rotate_left
 ·obtain rfl:i = m:=by omega
  refine aa _ ?_;simp [hwk];exact ⟨k + 1,by omega,⟨rfl,by simp⟩,by rw [hosn]; simp,by omega⟩
 have hli':i < y.papers.length:=by omega
 have hwi:IntKind.i64.wrap ((i:Int) + 1) = ((i + 1:Nat):Int):=by rw [aq (by omega) (by omega)]; simp
 have hpa:=hE.paper a i hli';have hpv:=hv.papers i hli';have hlei:=hle i hli';have hali:=hal i hli';have hab:=vC hv wrong hpv.kilos i;obtain ⟨p,hp⟩:=zqq (y.papers[i]);rw [hp] at hpa hpv hlei hali hab;obtain ⟨S,hS⟩:=zqq (aZ y wrong p i);rw [hS] at hpa hali hab;obtain ⟨s1,s2⟩:=S;dsimp only at hpa hali hab;by_cases hk1:p.kind = kind;rotate_left
 ·rw [if_neg (fun h=>hk1 h.1)] at hpa;have hacc':acc a (i + 1) = acc a i:=by rw [hpa]; omega
  refine aa _ ?_;simp [hli,hli',hp,ab.v,ab.cells,aj.v,aj.cells,hk1,hwi];exact ⟨i + 1,by omega,by simp,by rw [hacc'],by omega⟩
 rcases tf (br p i) with hl1 | hl1
 ·rw [if_neg (fun h=>by rw [hl1] at h; exact absurd h.2 (by simp))] at hpa;rw [hl1] at hlei;have hacc':acc a (i + 1) = acc a i:=by rw [hpa]; omega
  refine aa _ ?_;simp [hli,hli',hp,ab.v,ab.cells,aj.v,aj.cells,hk1];refine ah.pure uW (hlei _) ?_;simp [hli,hli',hp,ab.v,ab.cells,aj.v,aj.cells,hk1,hwi];exact ⟨i + 1,by omega,by simp,by rw [hacc'],by omega⟩
 rw [if_pos ⟨hk1,hl1⟩] at hpa;rw [hl1] at hlei;have hn4':(a:Int) ≤ 4:=by omega
 have had:=ham p.dst (by have:=hpv.dst.2; omega);have has:=ham p.src (by have:=hpv.src.2; omega);have hcb:=hE.cb s1 s2 hab.1 hab.2.1;have hgb:=hE.gb s1 s2 hab.1 hab.2.1;have hcs:=hE.cs s1 s2;have hgs:=hE.gs s1 s2;obtain ⟨u,hu⟩:∃ v,c s1 s2 = v:=⟨_,rfl⟩;obtain ⟨v,hv'⟩:=zqq (g s1 s2);rw [hu] at hcb hcs hpa;rw [hv'] at hgb hgs hpa;unfold Big at hcb hgb;have hacb:=hE.b a i (by omega);have e1:IntKind.i64.wrap (acc a i + u) = acc a i + u:=aq (by omega) (by omega);have e2:IntKind.i64.wrap (acc a i - v) = acc a i - v:=aq (by omega) (by omega);obtain ⟨D,hD⟩:=zqq (amg (bh P) p.dst);obtain ⟨E,hEe⟩:=zqq (amg (bh P) p.src);rw [hD,hEe] at hpa;rw [hD] at had;rw [hEe] at has;cases D <;> cases E
 ·have hacc':acc a (i + 1) = acc a i:=by rw [hpa]; simp
  refine aa _ ?_;simp [hli,hli',hp,ab.v,ab.cells,aj.v,aj.cells,hk1];refine ah.pure uW (hlei _) ?_;simp [hli,hli',hp,ab.v,ab.cells,aj.v,aj.cells,hk1,hwi];refine ah.pure zd (hali _) ?_;simp [hli,hli',hp,ab.v,ab.cells,aj.v,aj.cells,hk1];refine ah.of (aE.func l7 (had _)) ?_;simp [hli,hli',hp,ab.v,ab.cells,aj.v,aj.cells,hk1,hol,hlt,hltI,hwi];refine ah.of (aE.func l7 (has _)) ?_;simp [hli,hli',hp,ab.v,ab.cells,aj.v,aj.cells,hk1,hol,hlt,hltI,hwi];exact ⟨i + 1,by omega,by simp,by rw [hacc'],by omega⟩
 ·have hacc':acc a (i + 1) = acc a i - v:=by rw [hpa]; simp; omega
  refine aa _ ?_;simp [hli,hli',hp,ab.v,ab.cells,aj.v,aj.cells,hk1];refine ah.pure uW (hlei _) ?_;simp [hli,hli',hp,ab.v,ab.cells,aj.v,aj.cells,hk1,hwi];refine ah.pure zd (hali _) ?_;simp [hli,hli',hp,ab.v,ab.cells,aj.v,aj.cells,hk1];refine ah.of (aE.func l7 (had _)) ?_;simp [hli,hli',hp,ab.v,ab.cells,aj.v,aj.cells,hk1,hol,hlt,hltI,hwi];refine ah.of (aE.func l7 (has _)) ?_;simp [hli,hli',hp,ab.v,ab.cells,aj.v,aj.cells,hk1];refine ah.of (aE.func l7 (had _)) ?_;simp [hli,hli',hp,ab.v,ab.cells,aj.v,aj.cells,hk1,hol,hlt,hltI,hwi];refine ⟨ii' v,fun σ'=>aE.func hE.hg (hgs σ'), ?_⟩;simp [e2];exact ⟨by omega,i + 1,by omega,by simp,by rw [hacc'],by omega⟩
 ·have hacc':acc a (i + 1) = acc a i + u:=by rw [hpa]; simp
  refine aa _ ?_;simp [hli,hli',hp,ab.v,ab.cells,aj.v,aj.cells,hk1];refine ah.pure uW (hlei _) ?_;simp [hli,hli',hp,ab.v,ab.cells,aj.v,aj.cells,hk1,hwi];refine ah.pure zd (hali _) ?_;simp [hli,hli',hp,ab.v,ab.cells,aj.v,aj.cells,hk1];refine ah.of (aE.func l7 (had _)) ?_;simp [hli,hli',hp,ab.v,ab.cells,aj.v,aj.cells,hk1];refine ah.of (aE.func l7 (has _)) ?_;simp [hli,hli',hp,ab.v,ab.cells,aj.v,aj.cells,hk1,hol,hlt,hltI,hwi];refine ⟨ii' u,fun σ'=>aE.func hE.hc (hcs σ'), ?_⟩;simp [e1];exact ⟨by omega,i + 1,by omega,by simp,by rw [hacc'],by omega⟩
 ·have hacc':acc a (i + 1) = acc a i:=by rw [hpa]; simp
  refine aa _ ?_;simp [hli,hli',hp,ab.v,ab.cells,aj.v,aj.cells,hk1];refine ah.pure uW (hlei _) ?_;simp [hli,hli',hp,ab.v,ab.cells,aj.v,aj.cells,hk1,hwi];refine ah.pure zd (hali _) ?_;simp [hli,hli',hp,ab.v,ab.cells,aj.v,aj.cells,hk1];refine ah.of (aE.func l7 (had _)) ?_;simp [hli,hli',hp,ab.v,ab.cells,aj.v,aj.cells,hk1];refine ah.of (aE.func l7 (has _)) ?_;simp [hli,hli',hp,ab.v,ab.cells,aj.v,aj.cells,hk1,hol,hlt,hltI,hwi];refine ah.of (aE.func l7 (has _)) ?_;simp [hli,hli',hp,ab.v,ab.cells,aj.v,aj.cells,hk1];refine ah.of (aE.func l7 (had _)) ?_;simp [hli,hli',hp,ab.v,ab.cells,aj.v,aj.cells,hk1,hol,hlt,hltI,hwi];exact ⟨i + 1,by omega,by simp,by rw [hacc'],by omega⟩
def bD (w:List Int):List Nat:=w.map Int.toNat
structure zA (y:ab) (w:List Int):Prop where
 valid:bJ aQ y
 asc:Bv y.papers.length 0 (bD w)
 is:bb (bD w) = w
theorem zA.v {y:ab} {w:List Int} (h:zA y w):(.slice 1 (w.map ii'):ag) = mT (bD w):=by rw [mZ,h.is]
theorem zA.fit {y:ab} {w:List Int} (h:zA y w):ou (bD w):=by
 have h1:=vx h.asc;have h2:=h.valid.m10;unfold ou; simp only [maxLen]; omega
theorem cJ (y:ab) (w:List Int):bW y w = 0 ↔ zA y w:=by
 unfold bW;by_cases h0:(cN aQ y).2.2 = 0;rotate_left
 ·rw [if_pos h0];exact ⟨fun h=>absurd h h0,fun h=>absurd ((ib aQ y).2 h.valid) h0⟩
 rw [if_neg (by simp [h0]),mq];have hv:=(ib aQ y).1 h0;have key:∀ k (h:k < w.length),vd y w (0 + k) w[k] = 0 ↔ (0 ≤ w[k] ∧ w[k] < y.papers.length) ∧ (0 < k → w.getD (k - 1) 0 < w[k]):=by
  intro k h;unfold vd;rw [Nat.zero_add];by_cases a1:inI w[k] 0 ((y.papers.length:Int) - 1) = false
  ·rw [if_pos a1];rw [bA.2] at a1;constructor
   ·intro e; exact absurd e (by decide)
   ·intro e; exact absurd ⟨e.1.1,by omega⟩ a1
  ·rw [if_neg a1];have a1':=bA.1.1 (by simpa using a1);by_cases a2:0 < k ∧ w[k] ≤ w.getD (k - 1) 0
   ·rw [if_pos a2];constructor
    ·intro e; exact absurd e (by decide)
    ·intro e; have:=e.2 a2.1; omega
   ·rw [if_neg a2]
    exact ⟨fun _=>⟨⟨a1'.1,by omega⟩,fun hk=>by
     rcases (by omega:w.getD (k - 1) 0 < w[k] ∨ w[k] ≤ w.getD (k - 1) 0) with h' | h'
     ·exact h'
     ·exact absurd ⟨hk,h'⟩ a2⟩,fun _=>rfl⟩
 constructor
 ·intro hall;have hr:∀ k (h:k < w.length),0 ≤ w[k] ∧ w[k] < y.papers.length:=fun k h=>((key k h).1 (hall k h)).1;have hs:∀ j i (hi:i < j) (hj:j < w.length),w[i] < w[j]:=by
   intro j
   induction j with
   | zero=>intro i hi; omega
   | succ j ih=>
    intro i hi hj;have h1:=((key (j + 1) hj).1 (hall _ hj)).2 (by omega);rw [Nat.add_sub_cancel,List.getD_eq_getElem?_getD,List.getElem?_eq_getElem (by omega),Option.getD_some] at h1;rcases Nat.lt_or_ge i j with h2 | h2
    ·have:=ih i h2 (by omega); omega
    ·obtain rfl:i = j:=by omega
     exact h1
  refine ⟨hv,⟨?_, ?_⟩, ?_⟩
  ·rw [List.pairwise_iff_getElem];intro i j hi hj hij;simp only [bD,List.length_map] at hi hj;simp only [bD,List.getElem_map];have:=hs j i hij hj;have:=hr i hi;omega
  ·intro x hx;simp only [bD,List.mem_map] at hx;obtain ⟨z,hz,rfl⟩:=hx;obtain ⟨k,hk,rfl⟩:=List.getElem_of_mem hz;have:=hr k hk;omega
  ·unfold bb bD;rw [List.map_map]
   conv=>rhs; rw [← List.map_id w]
   refine List.map_congr_left fun z hz=>?_;obtain ⟨k,hk,rfl⟩:=List.getElem_of_mem hz;have:=hr k hk;simp; omega
 ·intro hw k hk;have hl:(bD w).length = w.length:=by simp [bD]
  have hg:∀ i (h:i < w.length),w[i] = ((bD w)[i]'(by omega):Nat):=fun i h=>by
   have:=congrArg (fun l=>l[i]?) hw.is;simp only [bb,List.getElem?_map,List.getElem?_eq_getElem h,List.getElem?_eq_getElem (show i < (bD w).length by omega),Option.map_some,Option.some.injEq] at this;exact this.symm
  rw [key k hk];have h1:=hw.asc.2 _ (List.getElem_mem (show k < (bD w).length by omega));refine ⟨by rw [hg k hk]; omega,fun h0=>?_⟩;rw [List.getD_eq_getElem?_getD,List.getElem?_eq_getElem (by omega),Option.getD_some,hg k hk,hg (k - 1) (by omega)];have:=List.pairwise_iff_getElem.1 hw.asc.1 (k - 1) k (by omega) (by omega) (by omega);omega
def JQ:bt:=⟨0,0,0,0⟩
def Iz (y:ab) (w:List Int):bt × Int:=if bW y w ≠ 0 then (JQ,bW y w) else match yk y (bD w) with
 | some p=>(p,0)
 | none=>(JQ,4)
theorem E5 {n:Nat} (h:n ≤ 4):IntKind.i64.wrap (2 ^ min n IntKind.i64.bits) = ((2 ^ n:Nat):Int):=by
 have:∀ n:Nat,n < 5 → IntKind.i64.wrap (2 ^ min n IntKind.i64.bits) = ((2 ^ n:Nat):Int):=by decide +kernel
 exact this n (by omega)
theorem og (y:ab) (hy:dv y) (w:List Int) (hwl:w.length ≤ maxLen) (σ:af) :
  Spec Tryz.prog G5 [y.v, .slice 1 (w.map ii')] σ fun r σ'=>r = .ret (.tup [(Iz y w).1.v,ii' (Iz y w).2]) ∧ σ' = σ:=by
 refine Spec.aF (Sk (by simp) ?_) (by simp [y.pure,aH,ag.pure,aD (f:=ii') (fun _=>rfl)]) (by simp [ag.pure,aH,bt.v,bt.cells]) σ;have ho:=fun σ=>eT y hy w hwl σ;unfold Iz;by_cases h0:bW y w = 0;rotate_left
 ·rw [if_pos h0];refine aa _ ?_;simp [KP,ab.v,ab.cells];simp only [ab.v,ab.cells] at ho;refine ah.pure nN (ho _) ?_;simp [h0,JQ,bt.v,bt.cells]
 rw [if_neg (by simp [h0])];have hw:=(cJ y w).1 h0;have hv:=hw.valid;rw [h0] at ho;obtain ⟨wrong,hwr⟩:∃ x,bD w = x:=⟨_,rfl⟩;have hfit:=hw.fit;have hwv:=hw.v;rw [hwr] at hfit hwv ⊢;rw [hwv] at ho ⊢;have hto:=fun σ=>nB hv wrong hfit σ;have hover:=fun kind P hP σ=>mh hv wrong hfit kind P hP σ;have hk4:=hv.k4;have hp4:=hv.p4;obtain ⟨L,hL⟩:∃ L,mT wrong = .slice 1 L:=⟨_,rfl⟩;rw [hL] at ho hto hover ⊢;simp only [ab.v,ab.cells] at ho hto hover;unfold yk
 cases ht:nF y wrong with
 | some i=>
  rw [ht] at hto;refine aa _ ?_;simp [KP,ab.v,ab.cells];refine ah.pure nN (ho _) ?_;simp;refine ah.pure Kj (hto _) ?_;simp [bt.v,bt.cells]
 | none=>
  rw [ht] at hto;dsimp only;have hsh:=E5 hp4.2;obtain ⟨N,hN⟩:=zqq (2 ^ y.places.length);have hN16:N ≤ 16:=by rw [← hN]; exact Nat.le_trans (Nat.pow_le_pow_right (by omega) hp4.2) (by decide)
  have hN1:1 ≤ N:=by rw [← hN]; exact Nat.one_le_two_pow
  rw [hN] at hsh;rw [hN] at hover;refine aa _ ?_;simp [KP,ab.v,ab.cells];refine ah.pure nN (ho _) ?_;simp;refine ah.pure Kj (hto _) ?_;simp;refine AW.loop (ι:=Nat) (fun i fr σ'=>∃ tl,fr = { v:=[(1, .slice 1 L),(4, .ptr 0 0),(6, .pval y.v),(33, .int .i64 y.kinds.length),(34, .int .i64 i)],ds:=[] } ∧ σ' = .box [ii' 0,ii' 0,ii' 0,ii' 0] :: tl ∧ i ≤ y.kinds.length ∧ ∀ j,j < i → ie y wrong j = none) (fun i=>y.kinds.length - i) 0 ⟨[.dead],by simp [ab.v,ab.cells],by simp,by omega,by simp⟩ ?_;rintro i fr σ' ⟨tl,rfl,rfl,hi,hpi⟩;refine (Nat.lt_or_ge i y.kinds.length).elim (fun hlt=>?_) (fun hge=>?_);rotate_left
  ·rw [Fx _ _ fun j hj=>hpi j (by omega)];refine aa _ ?_;simp [show ¬ i < y.kinds.length by omega,JQ,bt.v,bt.cells]
  have hwi:IntKind.i64.wrap ((i:Int) + 1) = ((i + 1:Nat):Int):=by rw [aq (by omega) (by omega)]; simp
  refine aa _ ?_;simp [hlt]
  refine AW.loop (ι:=Nat) (fun P fr σ'=>fr = { v:=[(1, .slice 1 L),(4, .ptr 0 0),(6, .pval y.v),(9, .int .i64 i),(10, .int .i64 P),(33, .int .i64 y.kinds.length),(34, .int .i64 i)],ds:=[] } ∧ σ' = .box [ii' 0,ii' 0,ii' 0,ii' 0] :: tl ∧ 1 ≤ P ∧ P ≤ N ∧ ∀ Q,Q < P → oW y wrong i Q = none) (fun P=>N - P) 1 ⟨by simp,by simp,by omega,by omega,fun Q hQ=>by
   obtain rfl:Q = 0:=by omega
   unfold oW; rw [if_pos rfl]⟩ ?_
  rintro P fr σ' ⟨rfl,rfl,hP1,hPN,hQ⟩;refine (Nat.lt_or_ge P N).elim (fun hlP=>?_) (fun hgP=>?_);rotate_left
  ·obtain rfl:P = N:=by omega
   have hkn:ie y wrong i = none:=by
    unfold ie; rw [hN]; exact Fx _ _ fun j hj=>hQ j hj
   refine aa _ ?_;simp [ab.v,ab.cells,hsh,hwi]
   exact ⟨i + 1,by omega,by simp,by omega,fun j hj=>by
    rcases Nat.lt_or_ge j i with h | h
    ·exact hpi j h
    ·obtain rfl:j = i:=by omega
     exact hkn⟩
  have hoi:=hover (i:Int) P hlP;have hnn:=Fh (bh P) y.places.length y (i:Int) (ba y wrong (i:Int));have hnn1:0 ≤ lS y wrong (i:Int) P:=hnn.1;have hnn2:fH y wrong (i:Int) P ≤ 0:=hnn.2;have hwP:IntKind.i64.wrap ((P:Int) + 1) = ((P + 1:Nat):Int):=by rw [aq (by omega) (by omega)]; simp
  have hov:oW y wrong i P = if 0 < lS y wrong (i:Int) P then some ⟨-1,i,P,lS y wrong (i:Int) P⟩ else if fH y wrong (i:Int) P < 0 then some ⟨-1,i,P,fH y wrong (i:Int) P⟩ else none:=by
   unfold oW; rw [if_neg (by omega)]
  obtain ⟨mu,hmu⟩:∃ x,lS y wrong (i:Int) P = x:=⟨_,rfl⟩;obtain ⟨li,hli⟩:∃ x,fH y wrong (i:Int) P = x:=⟨_,rfl⟩;rw [hmu] at hoi hnn1 hov;rw [hli] at hoi hnn2 hov;have hfst:∀ p,oW y wrong i P = some p → (List.range y.kinds.length).findSome? (ie y wrong) = some p:=fun p hp=>by
   refine wR _ _ i hpi hlt p ?_;unfold ie; rw [hN];exact wR _ _ P hQ hlP p hp
  by_cases c1:0 < mu
  ·rw [if_pos c1] at hov;rw [hfst _ hov];refine aa _ ?_;simp [ab.v,ab.cells,hsh,hlP];refine ah.pure KI (hoi _) ?_;simp [show ¬ mu = 0 by omega,bt.v,bt.cells]
  rw [if_neg c1] at hov;obtain rfl:mu = 0:=by omega
  by_cases c2:li < 0
  ·rw [if_pos c2] at hov;rw [hfst _ hov];refine aa _ ?_;simp [ab.v,ab.cells,hsh,hlP];refine ah.pure KI (hoi _) ?_;simp [show ¬ li = 0 by omega,bt.v,bt.cells]
  ·rw [if_neg c2] at hov;obtain rfl:li = 0:=by omega
   refine aa _ ?_;simp [ab.v,ab.cells,hsh,hlP];refine ah.pure KI (hoi _) ?_;simp [hwP]
   exact ⟨P + 1,by omega,by simp,by omega,by omega,fun Q hq=>by
    rcases Nat.lt_or_ge Q P with h | h
    ·exact hQ Q h
    ·obtain rfl:Q = P:=by omega
     exact hov⟩
end Go.AM
