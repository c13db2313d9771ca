/- Chapter 09: journeys, counts that are found, ends: of the program. Chapter 09: what journeys allow, copies that differ: of the program. Chapter 09: by how much places have too much, and too little: of the program. Chapter 09: Why, Proves: of the program. -/
import Derived.Test.YtlmhkldmpggadaaGreatDoorP23
namespace Go.AM
open Go.Proofs
set_option maxRecDepth 100000
set_option maxHeartbeats 1000000
def lQ (wrong:List Nat):ag:=.slice 1 (wrong.map fun i:Nat=>ii' (i:Int))
def aQ (wrong:List Nat):List Int:=wrong.map fun i:Nat=>(i:Int)
theorem lR (wrong:List Nat):lQ wrong = .slice 1 ((aQ wrong).map ii'):=by unfold lQ aQ; rw [List.map_map]; rfl
theorem lf (wrong:List Nat):(lQ wrong).pure = true:=by rw [lR]; simp [ag.pure,aC (f:=ii') (fun _=>rfl)]
def mH (wrong:List Nat):Prop:=wrong.length ≤ maxLen
theorem o9 (wrong:List Nat) (hw:mH wrong) (i:Nat) (σ:af) :
  Spec Tryz.prog CT [lQ wrong,ii' i] σ fun r σ'=>r = .ret (.bool (decide (i ∈ wrong))) ∧ σ' = σ:=by
 have h:=kE (aQ wrong) (i:Int) (by unfold aQ; rw [List.length_map]; exact hw) σ;have e:∀ l:List Nat,(aQ l).contains (i:Int) = decide (i ∈ l):=fun l=>by
  rw [Bool.eq_iff_iff];simp [aQ];exact ⟨fun ⟨a,h1,h2⟩=>(show a = i by omega) ▸ h1,fun h=>⟨i,h,rfl⟩⟩
 rw [lR];rw [e] at h; exact h
theorem kW (y:ab) (i:Nat) (hi:i < y.papers.length) (σ:af) :
  Spec Tryz.prog FI [y.v,ii' i] σ fun r σ'=>r = .ret (.bool (ba y.papers[i] i)) ∧ σ' = σ:=by
 refine Spec.aI (Ns (by simp) (aa _ ?_)) (by simp [y.pure,aG,ag.pure]) rfl σ;obtain ⟨p,hp⟩:=zqq (y.papers[i]);rw [hp];simp [Je,ab.v,ab.cells,hi,hp,aj.v,aj.cells,ba]
theorem pN (c:ay) (k p:Int) (σ:af):Spec Tryz.prog Dw [c.v, .pval (.agg [ii' k,ii' p])] σ fun r σ'=>r = .ret (.bool (decide (c.kind = k) && decide (c.place = p))) ∧ σ' = σ:=by
 refine Spec.aI (ML (by simp) (aa _ ?_)) (by simp [c.pure,aG,ag.pure]) rfl σ;simp [JN,ay.v,ay.cells];rw [Bool.eq_iff_iff]; simp
theorem j0 (g:FuncId) (caps:List ag) (hp:aG caps = true) (p:ay → Bool) (l:List ay) (hl:l.length ≤ maxLen) (hf:∀ x ∈ l,mM Tryz.prog (.func (.func g) [] caps) [x.v] (.bool (p x))) (σ:af) :
  Spec Tryz.prog F0 [.slice 4 (l.map ay.v), .func (.func g) [] caps] σ fun r σ'=>r = .ret (.int .i64 (fT p l 0)) ∧ σ' = σ:=by
 refine Spec.aI (L5 (by simp) (aa _ ?_)) (by simp [hp,aC (f:=ay.v) (fun c=>c.pure) l]) rfl σ;simp [Jb];refine AW.loop (ι:=Nat) (fun i fr σ=>fr = { v:=[(0, .slice 4 (l.map ay.v)),(1, .func (.func g) [] caps),(7, .int .i64 l.length),(8, .int .i64 i)],ds:=[] } ∧ i ≤ l.length ∧ fT p l 0 = fT p (l.drop i) i) (fun i=>l.length - i) 0 (by simp) ?_;rintro i fr σ ⟨rfl,hi,hpi⟩;refine (Nat.lt_or_ge i l.length).elim (fun hlt=>?_) (fun hge=>?_)
 ·have hd:l.drop i = l[i] :: l.drop (i + 1):=List.drop_eq_getElem_cons hlt;have hx:=hf l[i] (List.getElem_mem _);obtain ⟨x,hxe⟩:=zqq (l[i]);rw [hd,hxe] at hpi;rw [hxe] at hx;have hw:=nr hlt hl;simp only [fT,ay.v,ay.cells] at hpi hx;rcases tf (p x) with h | h
  ·rw [h] at hpi hx;refine aa _ ?_;simp [hlt,hxe,ay.v,ay.cells];refine ah.of (hx σ) ?_;simp [hw];exact ⟨i + 1,by omega,by simp,by omega,by simpa using hpi⟩
  ·rw [h] at hpi hx;refine aa _ ?_;simp [hlt,hxe,ay.v,ay.cells];refine ah.of (hx σ) ?_;simp [hpi]
 ·have:l.drop i = []:=List.drop_eq_nil_of_le hge;rw [this] at hpi;refine aa _ ?_;simp [show ¬ i < l.length by omega,hpi,fT]
theorem o6 (q:ay → Bool):∀ (l:List ay) (i:Nat),(fT q l i < 0 ∧ l.find? q = none) ∨ ∃ j, ∃ h:j < l.length,fT q l i = ((i + j:Nat):Int) ∧ l.find? q = some l[j]
 | [],i=>.inl ⟨by simp [fT],rfl⟩
 | a :: r,i=>by
  have e:fT q (a :: r) i = if q a then (i:Int) else fT q r (i + 1):=rfl;by_cases h:q a = true
  ·right; refine ⟨0,by simp,by rw [e,if_pos h]; simp,by simp [h]⟩
  ·have h':q a = false:=by simpa using h
   rcases o6 q r (i + 1) with ⟨h1,h2⟩ | ⟨j,hj,h1,h2⟩
   ·left; exact ⟨by rw [e,if_neg h]; exact h1,by simp [h',h2]⟩
   ·right; exact ⟨j + 1,by simpa using hj,by rw [e,if_neg h,h1]; congr 1; omega,by simp [h',h2]⟩
def xP (o:Option ay):ag:=.agg [ii' (loC o),ii' (hiC o)]
theorem eV (l:List ay) (hl:l.length ≤ maxLen) (k p:Int) (σ:af) :
  Spec Tryz.prog Fm [.slice 4 (l.map ay.v), .agg [ii' k,ii' p]] σ fun r σ'=>r = .ret (.tup [xP (aD l k p), .bool (aD l k p).isSome]) ∧ σ' = σ:=by
 refine Spec.aI (Nv (by simp) ?_) (by simp [aG,ag.pure,aC (f:=ay.v) (fun c=>c.pure)]) (by simp [ag.pure,aG,xP]) σ;have hx:=j0 Dw [.pval (.agg [ii' k,ii' p])] rfl (fun c=>decide (c.kind = k) && decide (c.place = p)) l hl (fun c _=>mM.fn Ot fun σ=>pN c k p σ);rcases o6 (fun c=>decide (c.kind = k) && decide (c.place = p)) l 0 with ⟨h1,h2⟩ | ⟨j,hj,h1,h2⟩
 ·have hfo:aD l k p = none:=h2;rw [hfo];refine aa _ ?_;simp [Ff];refine ah.pure Jn (hx _) ?_;simp [h1,xP,loC,hiC]
 ·have hfo:aD l k p = some l[j]:=h2;rw [hfo];obtain ⟨c,hc⟩:=zqq (l[j]);rw [h1] at hx;rw [hc];simp only [Nat.zero_add] at hx;refine aa _ ?_;simp [Ff];refine ah.pure Jn (hx _) ?_;simp [hj,hc,ay.v,ay.cells,xP,loC,hiC,show ¬ (j:Int) < 0 by omega]
def o8:ag:=.agg [.func (.func ql) [] [], .func (.func rq) [] [], .func (.func rq) [] [], .func (.func ql) [] []]
theorem kx (a b:Int) (σ:af):Spec Tryz.prog ql [.agg [ii' a,ii' b]] σ fun r σ'=>r = .ret (ii' a) ∧ σ' = σ:=by
 refine Spec.aI (M9 (by simp) (aa _ ?_)) rfl rfl σ;simp [IF]
theorem km (a b:Int) (σ:af):Spec Tryz.prog rq [.agg [ii' a,ii' b]] σ fun r σ'=>r = .ret (ii' b) ∧ σ' = σ:=by
 refine Spec.aI (Nt (by simp) (aa _ ?_)) rfl rfl σ;simp [Jk]
theorem tA (σ:af):Spec Tryz.prog FG [] σ fun r σ'=>r = .ret o8 ∧ σ' = σ:=by
 refine Spec.aI (No (by simp) (aa _ ?_)) rfl rfl σ;simp [I6,o8]
theorem pj (P:Nat) (hP:P < 16) (a:Int) (ha:a < 4) (σ:af):Spec Tryz.prog xH [ii' a, .pval (ii' P)] σ fun r σ'=>r = .ret (.bool (amg (bC P) a)) ∧ σ' = σ:=by
 refine Spec.aI (OC (by simp) (aa _ ?_)) rfl rfl σ;by_cases h:0 ≤ a
 ·obtain ⟨n,rfl⟩:∃ n:Nat,a = n:=⟨a.toNat,by omega⟩;have key:∀ P:Nat,P < 16 → ∀ n:Nat,n < 4 → (BS BinOp.and IntKind.i64 ((P:Int).fdiv (2 ^ min n IntKind.i64.bits)) 1 == 1) = P.testBit n:=by decide +kernel
  have:=key P hP n (by omega);simp [GQ,amg,bC];exact this
 ·simp [GQ,amg,h]
theorem mI {y:ab} {j:Nat} (h:j < y.papers.length):bA y j = y.papers[j].kilos:=by unfold bA; rw [List.getElem?_eq_getElem h]
theorem kf {nm:ByteArray → Bool} {y:ab} (hv:bV nm y) (wrong:List Nat) (hw:mH wrong) (i:Nat) (hi:i < y.papers.length) (σ:af) :
  Spec Tryz.prog Fj [y.v,ii' i,lQ wrong] σ fun r σ'=>r = .ret (.agg [ii' (aY y wrong y.papers[i] i).1,ii' (aY y wrong y.papers[i] i).2]) ∧ σ' = σ:=by
 refine Spec.aI (MQ (by simp) ?_) (by simp [y.pure,aG,ag.pure,lf]) rfl σ;have hp:=hv.papers i hi;have hm:=hv.m10;obtain ⟨p,hpe⟩:=zqq (y.papers[i]);rw [hpe] at hp ⊢;obtain ⟨S,hS⟩:∃ S:Int × Int,aY y wrong p i = S:=⟨_,rfl⟩;rw [hS];have hcn:=fun j σ=>o9 wrong hw j σ
 -- the loop over the one or two papers
 obtain ⟨L,hW⟩:∃ L,lQ wrong = .slice 1 L:=⟨_,rfl⟩;rw [hW] at hcn ⊢
 have hjs:∃ js:List Nat,((p.copy < 0 ∧ js = [i]) ∨ ∃ k:Nat,p.copy = k ∧ js = [min i k,max i k]) ∧ (∀ j ∈ js,j < y.papers.length) ∧ js.length ≤ 2 ∧
   S = match js.find? (fun j=>decide (j ∉ wrong)) with
    | some j=>(bA y j,bA y j)
    | none=>(0,1000000):=by
  by_cases hc:p.copy < 0
  ·refine ⟨[i], .inl ⟨hc,rfl⟩,by simpa using hi,by simp, ?_⟩;rw [← hS]; unfold aY; rw [if_pos hc];have hk:=mI hi;rw [hpe] at hk;by_cases h1:i ∈ wrong <;> simp [h1,hk]
  ·rcases hp.copy with e | ⟨c1,c2,c3,_⟩
   ·omega
   obtain ⟨k,hk⟩:∃ k:Nat,p.copy = k:=⟨p.copy.toNat,by omega⟩;refine ⟨[min i k,max i k], .inr ⟨k,hk,rfl⟩,by simp; omega,by simp, ?_⟩;rw [← hS]; unfold aY; rw [if_neg hc,hk,Int.toNat_natCast];by_cases h1:min i k ∈ wrong
   ·by_cases h2:max i k ∈ wrong <;> simp [h1,h2]
   ·simp [h1]
 obtain ⟨js,hcase,hjl,hj2,hSj⟩:=hjs;refine aa _ ?_;rcases hcase with ⟨hc,hj1⟩ | ⟨k,hk,hj1⟩
 case' inl=>simp [F7,ab.v,ab.cells,aj.v,aj.cells,hi,hpe,show ¬ 0 ≤ p.copy by omega]
 case' inr=>
  have hmin:(if k < i then (k:Int) else (i:Int)) = ((min i k:Nat):Int):=by split <;> omega
  have hmax:(if i < k then (k:Int) else (i:Int)) = ((max i k:Nat):Int):=by split <;> omega
  simp [F7,ab.v,ab.cells,aj.v,aj.cells,hi,hpe,hk,hmin,hmax]
 all_goals
  refine AW.loop (ι:=Nat) (fun n fr σ'=>fr = { v:=[(2, .slice 1 L),(3, .pval y.v),(6, .ptr 0 0),(29, .slice 1 (js.map fun j:Nat=>ii' (j:Int))),(30, .int .i64 js.length),(31, .int .i64 n)],ds:=[] } ∧ σ' = [.box [ii' 0,ii' 0]] ∧ n ≤ js.length ∧ ∀ j ∈ js.take n,j ∈ wrong) (fun n=>js.length - n) 0 ⟨by simp [ab.v,ab.cells,hj1],by simp,by omega,by simp⟩ ?_;rintro n fr σ' ⟨rfl,rfl,hn,hin⟩;refine (Nat.lt_or_ge n js.length).elim (fun hlt=>?_) (fun hge=>?_)
  ·obtain ⟨j,hj⟩:=zqq (js[n]);have hjy:j < y.papers.length:=hjl j (hj ▸ List.getElem_mem hlt);have h0:=hcn j;have hkj:=mI hjy;obtain ⟨q,hq⟩:=zqq (y.papers[j]);rw [hq] at hkj;have hwn:IntKind.i64.wrap ((n:Int) + 1) = ((n + 1:Nat):Int):=by rw [aw (by omega) (by omega)]; simp
   have htk:js.take (n + 1) = js.take n ++ [j]:=by rw [List.take_succ_eq_append_getElem hlt,hj]
   by_cases h1:j ∈ wrong
   ·rw [decide_eq_true h1] at h0;refine aa _ ?_;simp [ab.v,ab.cells,hlt,hj];refine ah.pure C2 (h0 _) ?_;simp [hwn]
    exact ⟨n + 1,by omega,by simp,by omega,by
     rw [htk]; intro x hx;rcases List.mem_append.1 hx with h | h
     ·exact hin x h
     ·rw [List.mem_singleton.1 h]; exact h1⟩
   ·rw [decide_eq_false h1] at h0;have hfd:js.find? (fun j=>decide (j ∉ wrong)) = some j:=by
     rw [List.find?_eq_some_iff_getElem];refine ⟨by simp [h1],n,hlt,hj,fun m hm=>?_⟩;have:=hin js[m] (List.mem_take_iff_getElem.2 ⟨m,by omega,rfl⟩);simp [this]
    rw [hfd] at hSj;dsimp only at hSj;rw [hSj,hkj];refine aa _ ?_;simp [ab.v,ab.cells,hlt,hj];refine ah.pure C2 (h0 _) ?_;simp [ab.v,ab.cells,aj.v,aj.cells,hlt,hj,hjy,hq]
  ·have hfd:js.find? (fun j=>decide (j ∉ wrong)) = none:=by
    rw [List.find?_eq_none];intro x hx;rw [List.take_of_length_le hge] at hin;simp [hin x hx]
   rw [hfd] at hSj;rw [hSj];refine aa _ ?_;simp [show ¬ n < js.length by omega]
theorem DK {y:ab} {wrong:List Nat} {i:Nat} (hi:i < y.papers.length):bH y wrong i = (decide ((i:Int) < y.papers[i].copy) && !fq wrong i && !fq wrong y.papers[i].copy.toNat && decide (y.papers[i].kilos ≠ bA y y.papers[i].copy.toNat)):=by
 unfold bH; rw [List.getElem?_eq_getElem hi]
theorem jN {nm:ByteArray → Bool} {y:ab} (hv:bV nm y) (wrong:List Nat) (hw:mH wrong) (i:Nat) (hi:i < y.papers.length) (σ:af) :
  Spec Tryz.prog K3 [y.v,ii' i,lQ wrong] σ fun r σ'=>r = .ret (.bool (bH y wrong i)) ∧ σ' = σ:=by
 refine Spec.aI (Qw (by simp) ?_) (by simp [y.pure,aG,ag.pure,lf]) rfl σ;have hp:=hv.papers i hi;rw [DK hi];obtain ⟨p,hpe⟩:=zqq (y.papers[i]);rw [hpe] at hp ⊢;have hcn:=fun j σ=>o9 wrong hw j σ;have hh:∀ j,fq wrong j = decide (j ∈ wrong):=fun j=>by rw [Bool.eq_iff_iff,dF,decide_eq_true_eq]
 rw [hh,hh];obtain ⟨L,hW⟩:∃ L,lQ wrong = .slice 1 L:=⟨_,rfl⟩;rw [hW] at hcn ⊢;obtain ⟨k,hk⟩:∃ k:Nat,p.copy.toNat = k:=⟨_,rfl⟩;have hkl:k < y.papers.length:=by
  rcases hp.copy with e | ⟨c1,c2,c3,_⟩ <;> omega
 obtain ⟨q,hq⟩:=zqq (y.papers[k]);have hkq:=mI hkl;rw [hq] at hkq;rw [hk,hkq];by_cases hc:(i:Int) < p.copy;rotate_left
 ·rw [decide_eq_false hc];refine aa _ ?_;simp [Ik,ab.v,ab.cells,aj.v,aj.cells,hi,hpe,hc,hk,hkl,hq];refine ⟨.bool true, ?_⟩;simp;refine ⟨.bool true, ?_⟩;simp
 have hkI:p.copy = k:=by omega
 have hik:i < k:=by omega
 by_cases h1:p.kilos = q.kilos
 ·rw [decide_eq_false (p:=p.kilos ≠ q.kilos) (by simp [h1]),Bool.and_false];refine aa _ ?_;simp [Ik,ab.v,ab.cells,aj.v,aj.cells,hi,hpe,hkI,hkl,hq,hik,h1];refine ⟨.bool true, ?_⟩;simp;refine ⟨.bool true, ?_⟩;simp
 ·rw [decide_eq_true (p:=p.kilos ≠ q.kilos) h1,Bool.and_true,hkI,decide_eq_true (p:=(i:Int) < k) (by omega),Bool.true_and];have c1:=hcn i;have c2:=hcn k;obtain ⟨a,ha⟩:=zqq (decide (i ∈ wrong));obtain ⟨b,hb⟩:=zqq (decide (k ∈ wrong));rw [ha] at c1 ⊢;rw [hb] at c2 ⊢;refine aa _ ?_;simp [Ik,ab.v,ab.cells,aj.v,aj.cells,hi,hpe,hkI,hkl,hq,hik,h1];refine ⟨.bool a, ?_⟩;simp;refine ⟨fun σ'=>aH.func C2 (c1 σ'), .bool b, ?_⟩;simp;cases a <;> simp;exact fun σ'=>aH.func C2 (c2 σ')
theorem mj {nm:ByteArray → Bool} {y:ab} (hv:bV nm y) (wrong:List Nat) (hw:mH wrong) (σ:af) :
  Spec Tryz.prog J5 [y.v,lQ wrong] σ fun r σ'=>r = .ret (ii' (match mc y wrong with | some i=>(i:Int) | none=>-1)) ∧ σ' = σ:=by
 refine Spec.aI (QF (by simp) ?_) (by simp [y.pure,aG,lf]) rfl σ;have hm:=hv.m10;have hd:=fun i hi σ=>jN hv wrong hw i hi σ;obtain ⟨L,hW⟩:∃ L,lQ wrong = .slice 1 L:=⟨_,rfl⟩;rw [hW] at hd ⊢;simp only [ab.v,ab.cells] at hd;refine aa _ ?_;simp [Nl,ab.v,ab.cells];refine AW.loop (ι:=Nat) (fun i fr _=>fr = { v:=[(1, .slice 1 L),(2, .pval y.v),(9, .int .i64 y.papers.length),(10, .int .i64 i)],ds:=[] } ∧ i ≤ y.papers.length ∧ ∀ j,j < i → bH y wrong j = false) (fun i=>y.papers.length - i) 0 ⟨by simp [ab.v,ab.cells],by omega,by simp⟩ ?_;rintro i fr σ' ⟨rfl,hi,hp⟩;refine (Nat.lt_or_ge i y.papers.length).elim (fun hlt=>?_) (fun hge=>?_)
 ·have h0:=hd i hlt;have hwi:IntKind.i64.wrap ((i:Int) + 1) = ((i + 1:Nat):Int):=by rw [aw (by omega) (by omega)]; simp
  rcases tf (bH y wrong i) with h | h
  ·rw [h] at h0;refine aa _ ?_;simp [hlt,ab.v,ab.cells];refine ah.pure KN (h0 _) ?_;simp [hwi]
   exact ⟨i + 1,by omega,by simp,by omega,fun j hj=>by
    rcases Nat.lt_or_ge j i with h' | h'
    ·exact hp j h'
    ·obtain rfl:j = i:=by omega
     exact h⟩
  ·rw [h] at h0;rw [Hc hp hlt h];refine aa _ ?_;simp [hlt,ab.v,ab.cells];refine ah.pure KN (h0 _) ?_;simp
 ·rw [EH fun j hj=>hp j (by omega)];refine aa _ ?_;simp [show ¬ i < y.papers.length by omega]
structure K1 (y:ab) (wrong:List Nat) (kind:Int) (P:Nat) (k:Nat) (fc fg:FuncId) (c g:Int → Int → Int) (acc:Nat → Nat → Int):Prop where
 ends:List.take 2 (List.drop (k * 2) ([.func (.func ql) [] [], .func (.func rq) [] [], .func (.func rq) [] [], .func (.func ql) [] []]:List ag)) = [.func (.func fc) [] [], .func (.func fg) [] []]
 hc:au Tryz.prog fc = true
 hg:au Tryz.prog fg = true
 cs:∀ a b σ,Spec Tryz.prog fc [.agg [ii' a,ii' b]] σ fun r σ'=>r = .ret (ii' (c a b)) ∧ σ' = σ
 gs:∀ a b σ,Spec Tryz.prog fg [.agg [ii' a,ii' b]] σ fun r σ'=>r = .ret (ii' (g a b)) ∧ σ' = σ
 zero:acc 0 0 = 0
 place:∀ a,acc (a + 1) 0 = acc a 0 + (if bC P a then c (loC (aD y.first kind a)) (hiC (aD y.first kind a)) - g (loC (aD y.last kind a)) (hiC (aD y.last kind a)) else 0)
 paper:∀ a i (h:i < y.papers.length),acc a (i + 1) = acc a i + (if y.papers[i].kind = kind ∧ ba y.papers[i] i = true then (if amg (bC P) y.papers[i].dst && !amg (bC P) y.papers[i].src then c (aY y wrong y.papers[i] i).1 (aY y wrong y.papers[i] i).2 else 0) - (if amg (bC P) y.papers[i].src && !amg (bC P) y.papers[i].dst then g (aY y wrong y.papers[i] i).1 (aY y wrong y.papers[i] i).2 else 0) else 0)
 b:∀ a i,a ≤ 4 → -14000000 ≤ acc a i ∧ acc a i ≤ 14000000
 cb:∀ u v,Big u → Big v → Big (c u v)
 gb:∀ u v,Big u → Big v → Big (g u v)
theorem HQ {nm:ByteArray → Bool} {y:ab} (hv:bV nm y) (wrong:List Nat) (kind:Int) (P:Nat):K1 y wrong kind P 0 ql rq (fun a _=>a) (fun _ b=>b) (iR (bC P) y wrong kind):=
 ⟨rfl,JO,JA,kx,km,rfl,fun a=>(s6 _ y wrong kind a).1,fun a i h=>by
  rw [(tq (bC P) wrong kind a h).1]; rfl,fun a i ha=>(DC hv _ wrong kind ha i).1,fun _ _ h _=>h,fun _ _ _ h=>h⟩
theorem FC {nm:ByteArray → Bool} {y:ab} (hv:bV nm y) (wrong:List Nat) (kind:Int) (P:Nat):K1 y wrong kind P 1 rq ql (fun _ b=>b) (fun a _=>a) (fh (bC P) y wrong kind):=
 ⟨rfl,JA,JO,km,kx,rfl,fun a=>(s6 _ y wrong kind a).2,fun a i h=>by
  rw [(tq (bC P) wrong kind a h).2]; rfl,fun a i ha=>(DC hv _ wrong kind ha i).2,fun _ _ _ h=>h,fun _ _ h _=>h⟩
theorem JS {nm:ByteArray → Bool} {y:ab} (hv:bV nm y) (wrong:List Nat) (kind:Int) (P:Nat) {k:Nat} (hk:k < 2):∃ fc fg c g,K1 y wrong kind P k fc fg c g (if k = 0 then iR (bC P) y wrong kind else fh (bC P) y wrong kind):=by
 rcases (by omega:k = 0 ∨ k = 1) with rfl | rfl
 ·exact ⟨_,_,_,_,HQ hv wrong kind P⟩
 ·exact ⟨_,_,_,_,FC hv wrong kind P⟩
theorem ly {nm:ByteArray → Bool} {y:ab} (hv:bV nm y) (wrong:List Nat) (hw:mH wrong) (kind:Int) (P:Nat) (hP:P < 2 ^ y.places.length) (σ:af) :
  Spec Tryz.prog Kv [y.v,ii' kind,ii' P,lQ wrong] σ fun r σ'=>r = .ret (.tup [ii' (jO y wrong kind P),ii' (dY y wrong kind P)]) ∧ σ' = σ:=by
 refine Spec.aI (QD (by simp) ?_) (by simp [y.pure,aG,ag.pure,lf]) rfl σ;have hn4:=hv.p4.2;have hm10:=hv.m10;have hP16:P < 16:=Nat.lt_of_lt_of_le hP (Nat.le_trans (Nat.pow_le_pow_right (by omega) hn4) (by decide));have hfi:y.first.length ≤ maxLen:=by have:=hv.f8; simp only [maxLen]; omega
 have hla:y.last.length ≤ maxLen:=by have:=hv.l8; simp only [maxLen]; omega
 have hov:=Ir (bC P) y wrong kind (Nat.le_refl y.papers.length);have ham:=fun (a:Int) (ha:a < 4) σ=>pj P hP16 a ha σ;have hal:=fun i hi σ=>kf hv wrong hw i hi σ;have hle:=fun i hi σ=>kW y i hi σ;have hff:=fun p σ=>eV y.first hfi kind p σ
 have hfl:=fun p σ=>eV y.last hla kind p σ;obtain ⟨L,hW⟩:∃ L,lQ wrong = .slice 1 L:=⟨_,rfl⟩;rw [hW] at hal ⊢;unfold jO dY;rw [hov.1,hov.2];clear hov;simp only [ab.v,ab.cells] at hal hle;refine aa _ ?_;simp [Ni,ab.v,ab.cells];refine ah.pure LL (tA _) ?_;simp [o8];obtain ⟨osF,hosF⟩:∃ f:Nat → List Int,f = fun k=>[if 0 < k then iR (bC P) y wrong kind y.places.length y.papers.length else 0,if 1 < k then fh (bC P) y wrong kind y.places.length y.papers.length else 0]:=⟨_,rfl⟩;obtain ⟨wF,hwF⟩:∃ f:Nat → Bool,f = fun k=>if 0 < k then cL (bC P) y kind y.places.length else true:=⟨_,rfl⟩;have hos0:osF 0 = [0,0]:=by rw [hosF]; rfl
 have hwF0:wF 0 = true:=by rw [hwF]; rfl
 refine AW.loop (ι:=Nat) (fun k fr σ'=>∃ (tl:af),fr = { v:=[(1,ii' kind),(3, .slice 1 L),(4, .pval y.v),(8,ii' 0),(10, .func (.func xH) [] [.pval (ii' P)]),(11, .ptr 0 0),(12, .bool (wF k)),(24,o8),(25, .int .i64 k)],ds:=[] } ∧ σ' = .box ((osF k).map ii') :: tl ∧ k ≤ 2) (fun k=>2 - k) 0 ⟨[],by simp [ab.v,ab.cells,o8,hwF0],by rw [hos0]; rfl,by omega⟩ ?_;rintro k fr σ' ⟨tl,rfl,rfl,hk2⟩;refine (Nat.lt_or_ge k 2).elim (fun hlt=>?_) (fun hge=>?_);rotate_left
 ·obtain rfl:k = 2:=by omega
  obtain ⟨lo,hlo⟩:∃ v,iR (bC P) y wrong kind y.places.length y.papers.length = v:=⟨_,rfl⟩;obtain ⟨hi,hhi⟩:∃ v,fh (bC P) y wrong kind y.places.length y.papers.length = v:=⟨_,rfl⟩;have e1:(if 0 < lo then lo else 0) = max 0 lo:=by omega
  have e2:(if hi < 0 then hi else 0) = min 0 hi:=by omega
  have e3:osF 2 = [lo,hi]:=by rw [hosF, ← hlo, ← hhi]; rfl
  have e4:wF 2 = cL (bC P) y kind y.places.length:=by rw [hwF]; rfl
  rw [hlo,hhi,e3,e4];rcases tf (cL (bC P) y kind y.places.length) with h | h
  ·refine aa _ ?_;simp [h,e1,e2]
  ·refine aa _ ?_;simp [h,e1,e2]
 obtain ⟨fc,fg,c,g,hE⟩:=JS hv wrong kind P hlt;obtain ⟨acc,hacc⟩:=zqq ((if k = 0 then iR (bC P) y wrong kind else fh (bC P) y wrong kind));rw [hacc] at hE;have hol:(osF k).length = 2:=by rw [hosF]; rfl
 have hok:(osF k)[k]'(by omega) = 0:=by
  simp only [hosF];rcases (by omega:k = 0 ∨ k = 1) with rfl | rfl <;> simp
 have hosn:osF (k + 1) = (osF k).set k (acc y.places.length y.papers.length):=by
  rw [hosF, ← hacc];rcases (by omega:k = 0 ∨ k = 1) with rfl | rfl <;> simp
 have hwFn:wF (k + 1) = (wF k && cL (bC P) y kind y.places.length):=by
  rw [hwF];rcases (by omega:k = 0 ∨ k = 1) with rfl | rfl <;> simp
 clear hosF hwF hacc hos0 hwF0;obtain ⟨os,hos⟩:=zqq (osF k);obtain ⟨w,hw0⟩:=zqq (wF k);simp only [hos] at hol hok hosn ⊢;simp only [hw0] at hwFn ⊢;obtain ⟨n,hn⟩:=zqq y.places.length;obtain ⟨m,hm⟩:=zqq y.papers.length;rw [hn,hm] at hosn;rw [hn] at hwFn;obtain ⟨W,hWd⟩:∃ W:Nat → Bool,W = fun a=>w && cL (bC P) y kind a:=⟨_,rfl⟩;have hW0:W 0 = w:=by rw [hWd]; simp [cL]
 have hWs:∀ a,W (a + 1) = (W a && (!bC P a || (aD y.last kind a).isSome)):=fun a=>by rw [hWd]; simp [cL,Bool.and_assoc]
 have hWn:W n = wF (k + 1):=by rw [hWd,hwFn]
 clear hWd hwFn;have hends:=hE.ends;have hk4:k * 2 + 2 ≤ 4:=by omega
 have hltI:(k:Int) < 2:=by omega
 have hwk:IntKind.i64.wrap ((k:Int) + 1) = ((k + 1:Nat):Int):=by rw [aw (by omega) (by omega)]; simp
 refine aa _ ?_;simp [o8,hltI,hends,hk4,ab.v,ab.cells,hn];refine AW.loop (ι:=Nat) (fun a fr σ'=>∃ (tl:af),fr = { v:=[(1,ii' kind),(3, .slice 1 L),(4, .pval y.v),(8,ii' 0),(10, .func (.func xH) [] [.pval (ii' P)]),(11, .ptr 0 0),(12, .bool (W a)),(13, .int .i64 k),(14, .pval (.agg [.func (.func fc) [] [], .func (.func fg) [] []])),(24,o8),(25, .int .i64 k),(32, .int .i64 n),(33, .int .i64 a)],ds:=[] } ∧ σ' = .box ((os.set k (acc a 0)).map ii') :: tl ∧ a ≤ n) (fun a=>n - a) 0 ⟨tl ++ [.dead],by simp [ab.v,ab.cells,o8,hW0],by rw [hE.zero, ← hok,List.set_getElem_self],by omega⟩ ?_;rintro a fr σ' ⟨tl',rfl,rfl,ha⟩;refine (Nat.lt_or_ge a n).elim (fun hla=>?_) (fun hga=>?_)
 ·have hwa:IntKind.i64.wrap ((a:Int) + 1) = ((a + 1:Nat):Int):=by rw [aw (by omega) (by omega)]; simp
  have hama:=ham (a:Int) (by omega);have hpl:=hE.place a;have hwh:=hWs a;have hbi:amg (bC P) (a:Int) = bC P a:=by simp [amg]
  rw [hbi] at hama;rcases tf (bC P a) with hb | hb
  ·rw [hb] at hama hpl hwh;simp at hpl hwh;refine aa _ ?_;simp [hla,ab.v,ab.cells];refine ah.of (aH.func k9 (hama _)) ?_;simp [hwa];exact ⟨a + 1,by omega,⟨hwh.symm,by simp⟩,by rw [hpl],by omega⟩
  ·rw [hb] at hama hpl hwh;obtain ⟨o1,ho1⟩:∃ o,aD y.first kind a = o:=⟨_,rfl⟩
   obtain ⟨o2,ho2⟩:∃ o,aD y.last kind a = o:=⟨_,rfl⟩;have b1:=bF hv.ok.first kind a
   have b2:=bF hv.ok.last kind a;have h1:=hff a;have h2:=hfl a;rw [ho1] at h1 b1 hpl;rw [ho2] at h2 b2 hpl hwh;simp only [xP] at h1 h2;obtain ⟨p1,hp1⟩:∃ v,loC o1 = v:=⟨_,rfl⟩;obtain ⟨p2,hp2⟩:∃ v,hiC o1 = v:=⟨_,rfl⟩;obtain ⟨q1,hq1⟩:∃ v,loC o2 = v:=⟨_,rfl⟩;obtain ⟨q2,hq2⟩:∃ v,hiC o2 = v:=⟨_,rfl⟩;rw [hp1,hp2] at h1 b1;rw [hq1,hq2] at h2 b2;rw [hp1,hp2,hq1,hq2] at hpl;have hcb:=hE.cb p1 p2 b1.1 b1.2.1;have hgb:=hE.gb q1 q2 b2.1 b2.2.1;have hcs:=hE.cs p1 p2;have hgs:=hE.gs q1 q2;obtain ⟨u,hu⟩:∃ v,c p1 p2 = v:=⟨_,rfl⟩;obtain ⟨v,hv'⟩:=zqq (g q1 q2);rw [hu] at hcb hcs hpl;rw [hv'] at hgb hgs hpl;unfold Big at hcb hgb;have hacb:=hE.b a 0 (by omega);have e1:IntKind.i64.wrap (u - v) = u - v:=aw (by omega) (by omega);have e2:IntKind.i64.wrap (acc a 0 + (u - v)) = acc (a + 1) 0:=by rw [hpl,if_pos rfl]; exact aw (by omega) (by omega)
   obtain ⟨x,hx⟩:=zqq o2.isSome;rw [hx] at h2 hwh;obtain ⟨wa,hwa'⟩:∃ x,W a = x:=⟨_,rfl⟩;rw [hwa'] at hwh ⊢;refine aa _ ?_;simp [hla,ab.v,ab.cells];refine ah.of (aH.func k9 (hama _)) ?_;simp [hla,ab.v,ab.cells];refine ah.pure xN (h1 _) ?_;simp [hla,ab.v,ab.cells];refine ah.pure xN (h2 _) ?_;simp [hla,ab.v,ab.cells,hol,hlt,hltI];refine ⟨ii' u,fun σ'=>aH.func hE.hc (hcs σ'),ii' v,fun σ'=>aH.func hE.hg (hgs σ'), ?_⟩;simp [e1,e2,hwa];exact ⟨by omega,a + 1,by omega,⟨by rw [hwh]; simp,by simp⟩,rfl,by omega⟩
 obtain rfl:a = n:=by omega
 rw [hWn];refine aa _ ?_;simp [ab.v,ab.cells,hm];refine AW.loop (ι:=Nat) (fun i fr σ'=>∃ (tl:af),fr = { v:=[(1,ii' kind),(3, .slice 1 L),(4, .pval y.v),(8,ii' 0),(10, .func (.func xH) [] [.pval (ii' P)]),(11, .ptr 0 0),(12, .bool (wF (k + 1))),(13, .int .i64 k),(14, .pval (.agg [.func (.func fc) [] [], .func (.func fg) [] []])),(24,o8),(25, .int .i64 k),(81, .slice 5 (y.papers.map aj.v)),(82, .int .i64 m),(83, .int .i64 i)],ds:=[] } ∧ σ' = .box ((os.set k (acc a i)).map ii') :: tl ∧ i ≤ m) (fun i=>m - i) 0 ⟨tl',by simp [ab.v,ab.cells,o8],by simp,by omega⟩ ?_;rintro i fr σ' ⟨tl2,rfl,rfl,hi⟩;refine (Nat.lt_or_ge i m).elim (fun hli=>?_) (fun hgi=>?_);rotate_left
 ·obtain rfl:i = m:=by omega
  refine aa _ ?_;simp [hwk];exact ⟨k + 1,by omega,⟨rfl,by simp⟩,by rw [hosn]; simp,by omega⟩
 have hli':i < y.papers.length:=by omega
 have hwi:IntKind.i64.wrap ((i:Int) + 1) = ((i + 1:Nat):Int):=by rw [aw (by omega) (by omega)]; simp
 have hpa:=hE.paper a i hli';have hpv:=hv.papers i hli';have hlei:=hle i hli';have hali:=hal i hli';have hab:=qZ hv wrong hpv.kilos i;obtain ⟨p,hp⟩:=zqq (y.papers[i]);rw [hp] at hpa hpv hlei hali hab;obtain ⟨S,hS⟩:=zqq (aY y wrong p i);rw [hS] at hpa hali hab;obtain ⟨s1,s2⟩:=S;dsimp only at hpa hali hab;by_cases hk1:p.kind = kind;rotate_left
 ·rw [if_neg (fun h=>hk1 h.1)] at hpa;have hacc':acc a (i + 1) = acc a i:=by rw [hpa]; omega
  refine aa _ ?_;simp [hli,hli',hp,ab.v,ab.cells,aj.v,aj.cells,hk1,hwi];exact ⟨i + 1,by omega,by simp,by rw [hacc'],by omega⟩
 rcases tf (ba p i) with hl1 | hl1
 ·rw [if_neg (fun h=>by rw [hl1] at h; exact absurd h.2 (by simp))] at hpa;rw [hl1] at hlei;have hacc':acc a (i + 1) = acc a i:=by rw [hpa]; omega
  refine aa _ ?_;simp [hli,hli',hp,ab.v,ab.cells,aj.v,aj.cells,hk1];refine ah.pure s9 (hlei _) ?_;simp [hli,hli',hp,ab.v,ab.cells,aj.v,aj.cells,hk1,hwi];exact ⟨i + 1,by omega,by simp,by rw [hacc'],by omega⟩
 rw [if_pos ⟨hk1,hl1⟩] at hpa;rw [hl1] at hlei;have hn4':(a:Int) ≤ 4:=by omega
 have had:=ham p.dst (by have:=hpv.dst.2; omega);have has:=ham p.src (by have:=hpv.src.2; omega);have hcb:=hE.cb s1 s2 hab.1 hab.2.1;have hgb:=hE.gb s1 s2 hab.1 hab.2.1;have hcs:=hE.cs s1 s2;have hgs:=hE.gs s1 s2;obtain ⟨u,hu⟩:∃ v,c s1 s2 = v:=⟨_,rfl⟩;obtain ⟨v,hv'⟩:=zqq (g s1 s2);rw [hu] at hcb hcs hpa;rw [hv'] at hgb hgs hpa;unfold Big at hcb hgb;have hacb:=hE.b a i (by omega);have e1:IntKind.i64.wrap (acc a i + u) = acc a i + u:=aw (by omega) (by omega);have e2:IntKind.i64.wrap (acc a i - v) = acc a i - v:=aw (by omega) (by omega);obtain ⟨D,hD⟩:=zqq (amg (bC P) p.dst);obtain ⟨E,hEe⟩:=zqq (amg (bC P) p.src);rw [hD,hEe] at hpa;rw [hD] at had;rw [hEe] at has;cases D <;> cases E
 ·have hacc':acc a (i + 1) = acc a i:=by rw [hpa]; simp
  refine aa _ ?_;simp [hli,hli',hp,ab.v,ab.cells,aj.v,aj.cells,hk1];refine ah.pure s9 (hlei _) ?_;simp [hli,hli',hp,ab.v,ab.cells,aj.v,aj.cells,hk1,hwi];refine ah.pure xF (hali _) ?_;simp [hli,hli',hp,ab.v,ab.cells,aj.v,aj.cells,hk1];refine ah.of (aH.func k9 (had _)) ?_;simp [hli,hli',hp,ab.v,ab.cells,aj.v,aj.cells,hk1,hol,hlt,hltI,hwi];refine ah.of (aH.func k9 (has _)) ?_;simp [hli,hli',hp,ab.v,ab.cells,aj.v,aj.cells,hk1,hol,hlt,hltI,hwi];exact ⟨i + 1,by omega,by simp,by rw [hacc'],by omega⟩
 ·have hacc':acc a (i + 1) = acc a i - v:=by rw [hpa]; simp; omega
  refine aa _ ?_;simp [hli,hli',hp,ab.v,ab.cells,aj.v,aj.cells,hk1];refine ah.pure s9 (hlei _) ?_;simp [hli,hli',hp,ab.v,ab.cells,aj.v,aj.cells,hk1,hwi];refine ah.pure xF (hali _) ?_;simp [hli,hli',hp,ab.v,ab.cells,aj.v,aj.cells,hk1];refine ah.of (aH.func k9 (had _)) ?_;simp [hli,hli',hp,ab.v,ab.cells,aj.v,aj.cells,hk1,hol,hlt,hltI,hwi];refine ah.of (aH.func k9 (has _)) ?_;simp [hli,hli',hp,ab.v,ab.cells,aj.v,aj.cells,hk1];refine ah.of (aH.func k9 (had _)) ?_;simp [hli,hli',hp,ab.v,ab.cells,aj.v,aj.cells,hk1,hol,hlt,hltI,hwi];refine ⟨ii' v,fun σ'=>aH.func hE.hg (hgs σ'), ?_⟩;simp [e2];exact ⟨by omega,i + 1,by omega,by simp,by rw [hacc'],by omega⟩
 ·have hacc':acc a (i + 1) = acc a i + u:=by rw [hpa]; simp
  refine aa _ ?_;simp [hli,hli',hp,ab.v,ab.cells,aj.v,aj.cells,hk1];refine ah.pure s9 (hlei _) ?_;simp [hli,hli',hp,ab.v,ab.cells,aj.v,aj.cells,hk1,hwi];refine ah.pure xF (hali _) ?_;simp [hli,hli',hp,ab.v,ab.cells,aj.v,aj.cells,hk1];refine ah.of (aH.func k9 (had _)) ?_;simp [hli,hli',hp,ab.v,ab.cells,aj.v,aj.cells,hk1];refine ah.of (aH.func k9 (has _)) ?_;simp [hli,hli',hp,ab.v,ab.cells,aj.v,aj.cells,hk1,hol,hlt,hltI,hwi];refine ⟨ii' u,fun σ'=>aH.func hE.hc (hcs σ'), ?_⟩;simp [e1];exact ⟨by omega,i + 1,by omega,by simp,by rw [hacc'],by omega⟩
 ·have hacc':acc a (i + 1) = acc a i:=by rw [hpa]; simp
  refine aa _ ?_;simp [hli,hli',hp,ab.v,ab.cells,aj.v,aj.cells,hk1];refine ah.pure s9 (hlei _) ?_;simp [hli,hli',hp,ab.v,ab.cells,aj.v,aj.cells,hk1,hwi];refine ah.pure xF (hali _) ?_;simp [hli,hli',hp,ab.v,ab.cells,aj.v,aj.cells,hk1];refine ah.of (aH.func k9 (had _)) ?_;simp [hli,hli',hp,ab.v,ab.cells,aj.v,aj.cells,hk1];refine ah.of (aH.func k9 (has _)) ?_;simp [hli,hli',hp,ab.v,ab.cells,aj.v,aj.cells,hk1,hol,hlt,hltI,hwi];refine ah.of (aH.func k9 (has _)) ?_;simp [hli,hli',hp,ab.v,ab.cells,aj.v,aj.cells,hk1];refine ah.of (aH.func k9 (had _)) ?_;simp [hli,hli',hp,ab.v,ab.cells,aj.v,aj.cells,hk1,hol,hlt,hltI,hwi];exact ⟨i + 1,by omega,by simp,by rw [hacc'],by omega⟩
def b8 (w:List Int):List Nat:=w.map Int.toNat
structure yc (y:ab) (w:List Int):Prop where
 valid:bV aR y
 asc:oK y.papers.length 0 (b8 w)
 is:aQ (b8 w) = w
theorem yc.v {y:ab} {w:List Int} (h:yc y w):(.slice 1 (w.map ii'):ag) = lQ (b8 w):=by rw [lR,h.is]
theorem yc.fit {y:ab} {w:List Int} (h:yc y w):mH (b8 w):=by
 have h1:=qO h.asc;have h2:=h.valid.m10;unfold mH; simp only [maxLen]; omega
theorem cw (y:ab) (w:List Int):cd y w = 0 ↔ yc y w:=by
 unfold cd;by_cases h0:(bZ aR y).2.2 = 0;rotate_left
 ·rw [if_pos h0];exact ⟨fun h=>absurd h h0,fun h=>absurd ((iv aR y).2 h.valid) h0⟩
 rw [if_neg (by simp [h0]),lg];have hv:=(iv aR y).1 h0;have key:∀ k (h:k < w.length),tV y w (0 + k) w[k] = 0 ↔ (0 ≤ w[k] ∧ w[k] < y.papers.length) ∧ (0 < k → w.getD (k - 1) 0 < w[k]):=by
  intro k h;unfold tV;rw [Nat.zero_add];by_cases a1:inI w[k] 0 ((y.papers.length:Int) - 1) = false
  ·rw [if_pos a1];rw [bB.2] at a1;constructor
   ·intro e; exact absurd e (by decide)
   ·intro e; exact absurd ⟨e.1.1,by omega⟩ a1
  ·rw [if_neg a1];have a1':=bB.1.1 (by simpa using a1);by_cases a2:0 < k ∧ w[k] ≤ w.getD (k - 1) 0
   ·rw [if_pos a2];constructor
    ·intro e; exact absurd e (by decide)
    ·intro e; have:=e.2 a2.1; omega
   ·rw [if_neg a2]
    exact ⟨fun _=>⟨⟨a1'.1,by omega⟩,fun hk=>by
     rcases (by omega:w.getD (k - 1) 0 < w[k] ∨ w[k] ≤ w.getD (k - 1) 0) with h' | h'
     ·exact h'
     ·exact absurd ⟨hk,h'⟩ a2⟩,fun _=>rfl⟩
 constructor
 ·intro hall;have hr:∀ k (h:k < w.length),0 ≤ w[k] ∧ w[k] < y.papers.length:=fun k h=>((key k h).1 (hall k h)).1;have hs:∀ j i (hi:i < j) (hj:j < w.length),w[i] < w[j]:=by
   intro j
   induction j with
   | zero=>intro i hi; omega
   | succ j ih=>
    intro i hi hj;have h1:=((key (j + 1) hj).1 (hall _ hj)).2 (by omega);rw [Nat.add_sub_cancel,List.getD_eq_getElem?_getD,List.getElem?_eq_getElem (by omega),Option.getD_some] at h1;rcases Nat.lt_or_ge i j with h2 | h2
    ·have:=ih i h2 (by omega); omega
    ·obtain rfl:i = j:=by omega
     exact h1
  refine ⟨hv,⟨?_, ?_⟩, ?_⟩
  ·rw [List.pairwise_iff_getElem];intro i j hi hj hij;simp only [b8,List.length_map] at hi hj;simp only [b8,List.getElem_map];have:=hs j i hij hj;have:=hr i hi;omega
  ·intro x hx;simp only [b8,List.mem_map] at hx;obtain ⟨z,hz,rfl⟩:=hx;obtain ⟨k,hk,rfl⟩:=List.getElem_of_mem hz;have:=hr k hk;omega
  ·unfold aQ b8;rw [List.map_map]
   conv=>rhs; rw [← List.map_id w]
   refine List.map_congr_left fun z hz=>?_;obtain ⟨k,hk,rfl⟩:=List.getElem_of_mem hz;have:=hr k hk;simp; omega
 ·intro hw k hk;have hl:(b8 w).length = w.length:=by simp [b8]
  have hg:∀ i (h:i < w.length),w[i] = ((b8 w)[i]'(by omega):Nat):=fun i h=>by
   have:=congrArg (fun l=>l[i]?) hw.is;simp only [aQ,List.getElem?_map,List.getElem?_eq_getElem h,List.getElem?_eq_getElem (show i < (b8 w).length by omega),Option.map_some,Option.some.injEq] at this;exact this.symm
  rw [key k hk];have h1:=hw.asc.2 _ (List.getElem_mem (show k < (b8 w).length by omega));refine ⟨by rw [hg k hk]; omega,fun h0=>?_⟩;rw [List.getD_eq_getElem?_getD,List.getElem?_eq_getElem (by omega),Option.getD_some,hg k hk,hg (k - 1) (by omega)];have:=List.pairwise_iff_getElem.1 hw.asc.1 (k - 1) k (by omega) (by omega) (by omega);omega
def EI:aS:=⟨0,0,0,0⟩
def Bb (y:ab) (w:List Int):aS × Int:=if cd y w ≠ 0 then (EI,cd y w) else match vp y (b8 w) with
 | some p=>(p,0)
 | none=>(EI,4)
theorem CZ {n:Nat} (h:n ≤ 4):IntKind.i64.wrap (2 ^ min n IntKind.i64.bits) = ((2 ^ n:Nat):Int):=by
 have:∀ n:Nat,n < 5 → IntKind.i64.wrap (2 ^ min n IntKind.i64.bits) = ((2 ^ n:Nat):Int):=by decide +kernel
 exact this n (by omega)
theorem nB (y:ab) (hy:dw y) (w:List Int) (hwl:w.length ≤ maxLen) (σ:af) :
  Spec Tryz.prog Iw [y.v, .slice 1 (w.map ii')] σ fun r σ'=>r = .ret (.tup [(Bb y w).1.v,ii' (Bb y w).2]) ∧ σ' = σ:=by
 refine Spec.aI (Qc (by simp) ?_) (by simp [y.pure,aG,ag.pure,aC (f:=ii') (fun _=>rfl)]) (by simp [ag.pure,aG,aS.v,aS.cells]) σ;have ho:=fun σ=>ed y hy w hwl σ;unfold Bb;by_cases h0:cd y w = 0;rotate_left
 ·rw [if_pos h0];refine aa _ ?_;simp [HK,ab.v,ab.cells];simp only [ab.v,ab.cells] at ho;refine ah.pure mA (ho _) ?_;simp [h0,EI,aS.v,aS.cells]
 rw [if_neg (by simp [h0])];have hw:=(cw y w).1 h0;have hv:=hw.valid;rw [h0] at ho;obtain ⟨wrong,hwr⟩:∃ x,b8 w = x:=⟨_,rfl⟩;have hfit:=hw.fit;have hwv:=hw.v;rw [hwr] at hfit hwv ⊢;rw [hwv] at ho ⊢;have hto:=fun σ=>mj hv wrong hfit σ;have hover:=fun kind P hP σ=>ly hv wrong hfit kind P hP σ;have hk4:=hv.k4;have hp4:=hv.p4;obtain ⟨L,hL⟩:∃ L,lQ wrong = .slice 1 L:=⟨_,rfl⟩;rw [hL] at ho hto hover ⊢;simp only [ab.v,ab.cells] at ho hto hover;unfold vp
 cases ht:mc y wrong with
 | some i=>
  rw [ht] at hto;refine aa _ ?_;simp [HK,ab.v,ab.cells];refine ah.pure mA (ho _) ?_;simp;refine ah.pure Hs (hto _) ?_;simp [aS.v,aS.cells]
 | none=>
  rw [ht] at hto;dsimp only;have hsh:=CZ hp4.2;obtain ⟨N,hN⟩:=zqq (2 ^ y.places.length);have hN16:N ≤ 16:=by rw [← hN]; exact Nat.le_trans (Nat.pow_le_pow_right (by omega) hp4.2) (by decide)
  have hN1:1 ≤ N:=by rw [← hN]; exact Nat.one_le_two_pow
  rw [hN] at hsh;rw [hN] at hover;refine aa _ ?_;simp [HK,ab.v,ab.cells];refine ah.pure mA (ho _) ?_;simp;refine ah.pure Hs (hto _) ?_;simp;refine AW.loop (ι:=Nat) (fun i fr σ'=>∃ tl,fr = { v:=[(1, .slice 1 L),(4, .ptr 0 0),(6, .pval y.v),(33, .int .i64 y.kinds.length),(34, .int .i64 i)],ds:=[] } ∧ σ' = .box [ii' 0,ii' 0,ii' 0,ii' 0] :: tl ∧ i ≤ y.kinds.length ∧ ∀ j,j < i → gD y wrong j = none) (fun i=>y.kinds.length - i) 0 ⟨[.dead],by simp [ab.v,ab.cells],by simp,by omega,by simp⟩ ?_;rintro i fr σ' ⟨tl,rfl,rfl,hi,hpi⟩;refine (Nat.lt_or_ge i y.kinds.length).elim (fun hlt=>?_) (fun hge=>?_);rotate_left
  ·rw [Dm _ _ fun j hj=>hpi j (by omega)];refine aa _ ?_;simp [show ¬ i < y.kinds.length by omega,EI,aS.v,aS.cells]
  have hwi:IntKind.i64.wrap ((i:Int) + 1) = ((i + 1:Nat):Int):=by rw [aw (by omega) (by omega)]; simp
  refine aa _ ?_;simp [hlt]
  refine AW.loop (ι:=Nat) (fun P fr σ'=>fr = { v:=[(1, .slice 1 L),(4, .ptr 0 0),(6, .pval y.v),(9, .int .i64 i),(10, .int .i64 P),(33, .int .i64 y.kinds.length),(34, .int .i64 i)],ds:=[] } ∧ σ' = .box [ii' 0,ii' 0,ii' 0,ii' 0] :: tl ∧ 1 ≤ P ∧ P ≤ N ∧ ∀ Q,Q < P → ny y wrong i Q = none) (fun P=>N - P) 1 ⟨by simp,by simp,by omega,by omega,fun Q hQ=>by
   obtain rfl:Q = 0:=by omega
   unfold ny; rw [if_pos rfl]⟩ ?_
  rintro P fr σ' ⟨rfl,rfl,hP1,hPN,hQ⟩;refine (Nat.lt_or_ge P N).elim (fun hlP=>?_) (fun hgP=>?_);rotate_left
  ·obtain rfl:P = N:=by omega
   have hkn:gD y wrong i = none:=by
    unfold gD; rw [hN]; exact Dm _ _ fun j hj=>hQ j hj
   refine aa _ ?_;simp [ab.v,ab.cells,hsh,hwi]
   exact ⟨i + 1,by omega,by simp,by omega,fun j hj=>by
    rcases Nat.lt_or_ge j i with h | h
    ·exact hpi j h
    ·obtain rfl:j = i:=by omega
     exact hkn⟩
  have hoi:=hover (i:Int) P hlP;have hnn:=DA (bC P) y.places.length y (i:Int) (bh y wrong (i:Int));have hnn1:0 ≤ jO y wrong (i:Int) P:=hnn.1;have hnn2:dY y wrong (i:Int) P ≤ 0:=hnn.2;have hwP:IntKind.i64.wrap ((P:Int) + 1) = ((P + 1:Nat):Int):=by rw [aw (by omega) (by omega)]; simp
  have hov:ny y wrong i P = if 0 < jO y wrong (i:Int) P then some ⟨-1,i,P,jO y wrong (i:Int) P⟩ else if dY y wrong (i:Int) P < 0 then some ⟨-1,i,P,dY y wrong (i:Int) P⟩ else none:=by
   unfold ny; rw [if_neg (by omega)]
  obtain ⟨mu,hmu⟩:∃ x,jO y wrong (i:Int) P = x:=⟨_,rfl⟩;obtain ⟨li,hli⟩:∃ x,dY y wrong (i:Int) P = x:=⟨_,rfl⟩;rw [hmu] at hoi hnn1 hov;rw [hli] at hoi hnn2 hov;have hfst:∀ p,ny y wrong i P = some p → (List.range y.kinds.length).findSome? (gD y wrong) = some p:=fun p hp=>by
   refine uN _ _ i hpi hlt p ?_;unfold gD; rw [hN];exact uN _ _ P hQ hlP p hp
  by_cases c1:0 < mu
  ·rw [if_pos c1] at hov;rw [hfst _ hov];refine aa _ ?_;simp [ab.v,ab.cells,hsh,hlP];refine ah.pure Ih (hoi _) ?_;simp [show ¬ mu = 0 by omega,aS.v,aS.cells]
  rw [if_neg c1] at hov;obtain rfl:mu = 0:=by omega
  by_cases c2:li < 0
  ·rw [if_pos c2] at hov;rw [hfst _ hov];refine aa _ ?_;simp [ab.v,ab.cells,hsh,hlP];refine ah.pure Ih (hoi _) ?_;simp [show ¬ li = 0 by omega,aS.v,aS.cells]
  ·rw [if_neg c2] at hov;obtain rfl:li = 0:=by omega
   refine aa _ ?_;simp [ab.v,ab.cells,hsh,hlP];refine ah.pure Ih (hoi _) ?_;simp [hwP]
   exact ⟨P + 1,by omega,by simp,by omega,by omega,fun Q hq=>by
    rcases Nat.lt_or_ge Q P with h | h
    ·exact hQ Q h
    ·obtain rfl:Q = P:=by omega
     exact hov⟩
end Go.AM
