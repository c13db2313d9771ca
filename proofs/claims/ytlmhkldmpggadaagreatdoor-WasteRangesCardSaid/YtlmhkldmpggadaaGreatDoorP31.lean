/- Chapter 09: any row is read into a yard, or refused: of the program. Chapter 09: Read: of the program. Chapter 09: equal yards; the law's own functions. Chapter 09: what the program answers on the .. -/
import Derived.Test.YtlmhkldmpggadaaGreatDoorP30
import Derived.Test.YtlmhkldmpggadaaGreatDoorP22
import Derived.Test.YtlmhkldmpggadaaGreatDoorP20
import Derived.Test.YtlmhkldmpggadaaGreatDoorP27
namespace Go.AM
open Go.Proofs
set_option maxRecDepth 100000
set_option maxHeartbeats 1000000
theorem tR {α} {l:List α} {i:Nat} {x:α} (h:l[i]? = some x):l.set i x = l:=by
 obtain ⟨hi,e⟩:=List.getElem?_eq_some_iff.1 h;rw [← e,List.set_getElem_self hi]
theorem xe {a b:ByteArray} (h:aA a = aA b):a = b:=data_inj h
def w7 (σ:af) (b b1 b2 b3:Nat):Option ab → fq → af → Prop
 | none,r,σ'=>r = .pan lE ∧ ∃ tl,σ' = σ ++ tl
 | some y,r,σ'=>r = .ret (.tup []) ∧ ∃ q1 q2 q3 tl,σ' = (((σ.set b1 (.spare 4 q1)).set b2 (.spare 5 q2)).set b3 (.spare 4 q3)).set b (.box [.slice 1 (y.kinds.map .str), .slice 1 (y.places.map .str), .oslice 4 (y.first.map ay.v) b1 q1, .oslice 5 (y.papers.map aj.v) b2 q2, .oslice 4 (y.last.map ay.v) b3 q3]) ++ tl
theorem step_cons (w:WdW) (r:List WdW) (y:ab):fB (w :: r) y = if w = cT then some { y with kinds:=r.map ry } else if w = b6 then some { y with places:=r.map ry } else if w = cd then (iP y (w :: r)).map fun c=>{ y with first:=y.first ++ [c] } else if w = dO then (rr y (w :: r)).map fun p=>{ y with papers:=y.papers ++ [p] } else if w = dC then (iP y (w :: r)).map fun c=>{ y with last:=y.last ++ [c] } else none:=by
 unfold fB;simp only [List.head?_cons,Option.some.injEq,List.tail_cons]
theorem yM:aA eA = cT:=rfl
theorem wB:aA de = b6:=rfl
theorem yI:aA bS = cd:=rfl
theorem zy:aA bo = dO:=rfl
theorem Cf:aA dE = dC:=rfl
theorem JP {y:ab} {l:List WdW} {p:aj} (h:rr y l = some p):l.length = 6:=by
 unfold rr at h
 split at h
 ·rfl
 ·cases h
theorem vl (y:ab) (hk:y.kinds.length ≤ maxLen) (hp:y.places.length ≤ maxLen) (hf:y.first.length ≤ 100000) (hpa:y.papers.length ≤ 100000) (hl:y.last.length ≤ 100000) (b b1 b2 b3 q1 q2 q3:Nat) (σ:af) (h:qh σ b b1 b2 b3 y q1 q2 q3) (w0:ByteArray) (ws:List ByteArray) (hw:∀ w ∈ w0 :: ws,w.size ≤ 100000) :
  Spec Tryz.prog lY [.ptr b 0, .slice 1 ((w0 :: ws).map .str)] σ fun r σ'=>w7 σ b b1 b2 b3 (fB ((w0 :: ws).map aA) y) r σ':=by
 have e1:σ.set b1 (.spare 4 q1) = σ:=tR h.s1;have e2:σ.set b2 (.spare 5 q2) = σ:=tR h.s2;have e3:σ.set b3 (.spare 4 q3) = σ:=tR h.s3;have hm:(ws.map aA).map ry = ws:=pG ws;by_cases g1:w0 = eA
 ·subst g1;have hs:fB ((eA :: ws).map aA) y = some { y with kinds:=ws }:=by
   rw [List.map_cons,step_cons,if_pos yM,hm]
  rw [hs];refine (tV y b b1 b2 b3 q1 q2 q3 σ h ws).mono ?_;rintro r σ' ⟨rfl,tl,rfl⟩;exact ⟨rfl,q1,q2,q3,tl,by rw [e1,e2,e3]⟩
 by_cases g2:w0 = de
 ·subst g2;have hs:fB ((de :: ws).map aA) y = some { y with places:=ws }:=by
   rw [List.map_cons,step_cons,wB,if_neg (by decide),if_pos rfl,hm]
  rw [hs];refine (sF y b b1 b2 b3 q1 q2 q3 σ h ws).mono ?_;rintro r σ' ⟨rfl,tl,rfl⟩;exact ⟨rfl,q1,q2,q3,tl,by rw [e1,e2,e3]⟩
 by_cases g3:w0 = bS
 ·subst g3;have hs:fB ((bS :: ws).map aA) y = (iP y ((bS :: ws).map aA)).map fun c=>{ y with first:=y.first ++ [c] }:=by
   rw [List.map_cons,step_cons,yI,if_neg (by decide),if_neg (by decide),if_pos rfl]
  rw [hs]
  cases hc:iP y ((bS :: ws).map aA) with
  | none=>
   refine (p0 y hk hp b b1 b2 b3 q1 q2 q3 σ h ws hw hc).mono ?_;rintro r σ' ⟨rfl,tl,rfl⟩;exact ⟨rfl,tl,rfl⟩
  | some c=>
   refine (nY y hk hp hf b b1 b2 b3 q1 q2 q3 σ h ws hw hc).mono ?_;rintro r σ' ⟨rfl,tl,rfl⟩;have f2:(σ.set b1 (.spare 4 (q1 + 1)))[b2]? = some (.spare 5 q2):=by rw [List.getElem?_set_ne h.n12]; exact h.s2
   have f3:(σ.set b1 (.spare 4 (q1 + 1)))[b3]? = some (.spare 4 q3):=by rw [List.getElem?_set_ne h.n13]; exact h.s3
   exact ⟨rfl,q1 + 1,q2,q3,tl,by rw [tR f2,tR f3]⟩
 by_cases g4:w0 = bo
 ·subst g4;have hs:fB ((bo :: ws).map aA) y = (rr y ((bo :: ws).map aA)).map fun p=>{ y with papers:=y.papers ++ [p] }:=by
   rw [List.map_cons,step_cons,zy,if_neg (by decide),if_neg (by decide),if_neg (by decide),if_pos rfl]
  rw [hs];by_cases h6:(bo :: ws).length = 6
  ·obtain ⟨w1,w2,w3,w4,w5,rfl⟩:∃ w1 w2 w3 w4 w5,ws = [w1,w2,w3,w4,w5]:=by
    match ws,h6 with
    | [w1,w2,w3,w4,w5],_=>exact ⟨w1,w2,w3,w4,w5,rfl⟩
   have z4:=hw w4 (by simp);have z5:=hw w5 (by simp)
   cases hc:rr y ((bo :: [w1,w2,w3,w4,w5]).map aA) with
   | none=>
    refine (pS y hk hp b b1 b2 b3 q1 q2 q3 σ h w1 w2 w3 w4 w5 z4 z5 hc).mono ?_;rintro r σ' ⟨rfl,tl,rfl⟩;exact ⟨rfl,tl,rfl⟩
   | some p=>
    refine (oF y hk hp hpa b b1 b2 b3 q1 q2 q3 σ h w1 w2 w3 w4 w5 z4 z5 hc).mono ?_;rintro r σ' ⟨rfl,tl,rfl⟩;have f3:(σ.set b2 (.spare 5 (q2 + 1)))[b3]? = some (.spare 4 q3):=by rw [List.getElem?_set_ne h.n23]; exact h.s3
    exact ⟨rfl,q1,q2 + 1,q3,tl,by rw [e1,tR f3]⟩
  ·have hc:rr y ((bo :: ws).map aA) = none:=by
    cases hq:rr y ((bo :: ws).map aA) with
    | none=>rfl
    | some p=>exact absurd (by have:=JP hq; rwa [List.length_map] at this) h6
   rw [hc];refine (oC y b b1 b2 b3 q1 q2 q3 σ h ws h6).mono ?_;rintro r σ' ⟨rfl,tl,rfl⟩;exact ⟨rfl,tl,rfl⟩
 by_cases g5:w0 = dE
 ·subst g5;have hs:fB ((dE :: ws).map aA) y = (iP y ((dE :: ws).map aA)).map fun c=>{ y with last:=y.last ++ [c] }:=by
   rw [List.map_cons,step_cons,Cf,if_neg (by decide),if_neg (by decide),if_neg (by decide),if_neg (by decide),if_pos rfl]
  rw [hs]
  cases hc:iP y ((dE :: ws).map aA) with
  | none=>
   refine (qZ y hk hp b b1 b2 b3 q1 q2 q3 σ h ws hw hc).mono ?_;rintro r σ' ⟨rfl,tl,rfl⟩;exact ⟨rfl,tl,rfl⟩
  | some c=>
   refine (pT y hk hp hl b b1 b2 b3 q1 q2 q3 σ h ws hw hc).mono ?_;rintro r σ' ⟨rfl,tl,rfl⟩;exact ⟨rfl,q1,q2,q3 + 1,tl,by rw [e1,e2]⟩
 have hne:∀ x:ByteArray,w0 ≠ x → ¬ aA w0 = aA x:=fun x hx e=>hx (xe e);have hs:fB ((w0 :: ws).map aA) y = none:=by
  rw [List.map_cons,step_cons, ← yM, ← wB, ← yI, ← zy, ← Cf,if_neg (hne eA g1),if_neg (hne de g2),if_neg (hne bS g3),if_neg (hne bo g4),if_neg (hne dE g5)]
 rw [hs];refine (tP b σ w0 ws g1 g2 g3 g4 g5).mono ?_;rintro r σ' ⟨rfl,tl,rfl⟩;exact ⟨rfl,tl,rfl⟩
theorem FE {ws:List WdW} {y y':ab} (h:fB ws y = some y'):y'.kinds.length ≤ max y.kinds.length ws.length ∧ y'.places.length ≤ max y.places.length ws.length ∧ y'.first.length + y'.papers.length + y'.last.length ≤ y.first.length + y.papers.length + y.last.length + 1:=by
 unfold fB at h
 split at h
 ·cases h; dsimp only; rw [List.length_map,List.length_tail]; omega
 ·split at h
  ·cases h; dsimp only; rw [List.length_map,List.length_tail]; omega
  ·split at h
   ·obtain ⟨c,_,rfl⟩:=Option.map_eq_some_iff.1 h;simp; omega
   ·split at h
    ·obtain ⟨c,_,rfl⟩:=Option.map_eq_some_iff.1 h;simp; omega
    ·split at h
     ·obtain ⟨c,_,rfl⟩:=Option.map_eq_some_iff.1 h;simp; omega
     ·cases h
theorem Ex (a b:Nat) (σ:af):nx Tryz.prog zZ [.ptr a 0, .ptr b 0] σ .none fun m σ'=>m = .none ∧ σ' = σ:=by
 refine Pe (by simp) (aa _ ?_);simp [JT,PM.after]
def wk:List ag:=[.slice 1 [], .slice 1 [], .slice 4 [], .slice 5 [], .slice 4 []]
theorem DD (v1 v2 v3 v4 v5 z:ag) (tl:af) :
  nx Tryz.prog zZ [.ptr 0 0, .ptr 1 0] (.box [v1,v2,v3,v4,v5] :: .box [z] :: tl) (.pan lE) fun m σ'=>(∃ v,m = .recd v) ∧ σ' = .box wk :: .box [ii' 6] :: tl:=by
 refine Pe (by simp) (aa _ ?_);simp [JT,PM.after,lE,wk]
theorem pH (v1 v2 v3 v4 v5 z:ag) (tl:af) {R:PM → af → Prop} (h:∀ v,R (.recd v) (.box wk :: .box [ii' 6] :: tl)) :
  au Tryz.prog zZ = true ∧ nx Tryz.prog zZ [.ptr 0 0, .ptr 1 0] (.box [v1,v2,v3,v4,v5] :: .box [z] :: tl) (.pan lE) R:=
 ⟨Oh,(DD v1 v2 v3 v4 v5 z tl).mono (by rintro m σ' ⟨⟨v,rfl⟩,rfl⟩; exact h v)⟩
theorem Hy (σ:af) {R:PM → af → Prop} (h:R .none σ) :
  au Tryz.prog zZ = true ∧ nx Tryz.prog zZ [.ptr 0 0, .ptr 1 0] σ .none R:=
 ⟨Oh,(Ex 0 1 σ).mono (by rintro m σ' ⟨rfl,rfl⟩; exact h)⟩
def ep (s:ByteArray):ab × Int:=if 4000 < s.size then (eE,3) else match ru aQ (aA s) with
 | some y=>(y,0)
 | none=>(eE,6)
theorem Hr {s:ByteArray} (h4:¬ 4000 < s.size) (h:jA fB (fun l=>decide (l = [])) (cutAt 10 (aA s)) eE = none):ep s = (eE,6):=by
 unfold ep ru rZ; rw [if_neg h4,h]
theorem nE (s:ByteArray) (σ:af):Spec Tryz.prog KE [.str s] σ fun r σ'=>r = .ret (.tup [(ep s).1.v,ii' (ep s).2]) ∧ σ' = σ:=by
 refine Spec.aF (UN (by simp) ?_) rfl (by simp [ag.pure,aH,ab.pure]) σ;by_cases h6:4000 < s.size
 ·have hv:ep s = (eE,3):=by unfold ep; rw [if_pos h6]
  have h6I:(4000:Int) < s.size:=by omega
  rw [hv];refine aa _ ?_;simp [JY,h6I,eE,ab.v,ab.cells]
 have h6I:¬ (4000:Int) < s.size:=by omega
 have hno:=Hr h6;have hzv:eE.v = .agg [.slice 1 [], .slice 1 [], .slice 4 [], .slice 5 [], .slice 4 []]:=rfl;refine aa _ ?_;simp [JY,h6I]
 refine AW.loop (ι:=Nat) (fun m fr σ'=>∃ (x:ByteArray) (y:ab) (q1 q2 q3:Nat) (t:af),fr = { v:=[(0, .str s),(2, .ptr 0 0),(3, .ptr 1 0),(4, .ptr 5 0),(5, .str x)],ds:=[.fn (.func (.func zZ) [] [.ptr 0 0, .ptr 1 0]) []] } ∧
  σ' = .box [.slice 1 [], .slice 1 [], .slice 4 [], .slice 5 [], .slice 4 []] :: .box [ii' 0] :: .spare 4 q1 :: .spare 5 q2 :: .spare 4 q3 :: .box [.slice 1 (y.kinds.map .str), .slice 1 (y.places.map .str), .oslice 4 (y.first.map ay.v) 2 q1, .oslice 5 (y.papers.map aj.v) 3 q2, .oslice 4 (y.last.map ay.v) 4 q3] :: t ∧ x.size = m ∧ y.first.length + y.papers.length + y.last.length + x.size ≤ 4000 ∧ y.kinds.length ≤ 4001 ∧ y.places.length ≤ 4001 ∧ jA fB (fun l=>decide (l = [])) (cutAt 10 (aA x)) y = jA fB (fun l=>decide (l = [])) (cutAt 10 (aA s)) eE) (fun m=>m) s.size ⟨s,eE,0,0,0,[],rfl,rfl,rfl,by simp [eE]; omega,by simp [eE],by simp [eE],rfl⟩ ?_
 rintro m fr σ' ⟨x,y,q1,q2,q3,t,rfl,rfl,rfl,hsz,hkl,hpl,hco⟩;by_cases hx:x = .empty
 ·have hr:aA x = []:=by rw [hx]; rfl
  rw [hr] at hco;have hrp:jA fB (fun l=>decide (l = [])) (cutAt 10 (aA s)) eE = some y:=by rw [← hco]; rfl
  have hfy:dv y:=⟨by simp only [maxLen]; omega,by simp only [maxLen]; omega,by simp only [maxLen]; omega,by simp only [maxLen]; omega,by simp only [maxLen]; omega⟩;have hck:=fun σ=>iR y hfy σ;simp only [ab.v,ab.cells,df] at hck;have hxl:x.toList = []:=by rw [toList_data]; exact hr
  have hv:ep s = if decide ((cN aQ y).2.2 = 0) && decide (dS y = aA s) then (y,0) else (eE,6):=by
   unfold ep ru rZ;rw [if_neg h6,hrp];dsimp only;by_cases hh:(decide ((cN aQ y).2.2 = 0) && decide (dS y = aA s)) = true
   ·rw [if_pos hh,if_pos hh]
   ·rw [if_neg hh,if_neg hh]
  by_cases hz:(cN aQ y).2.2 = 0;rotate_left
  ·rw [if_neg (by simp [hz])] at hv;have hzB:((cN aQ y).2.2 == 0) = false:=by rw [beq_eq_false_iff_ne]; exact hz
   rw [hv];refine aa _ ?_;simp [hxl];refine ah.pure Dr (hck _) ?_;simp [hzB];refine ah.pan dT (b7 _) ?_;rintro σ' rfl;simp;refine pH _ _ _ _ _ _ _ fun v=>?_;simp [wk,hzv]
  have htx:=fun σ=>nL rk ((ib aQ y).1 hz) σ;simp only [ab.v,ab.cells] at htx;rw [hz] at hck;have hbt:bytes (dS y) = s ↔ dS y = aA s:=⟨fun h=>by rw [← h,bF],fun h=>data_inj (by rw [mM]; exact h)⟩;by_cases ht:dS y = aA s
  ·have hbe:=hbt.2 ht;rw [if_pos (by simp [hz,ht])] at hv;rw [hv];refine aa _ ?_;simp [hxl];refine ah.pure Dr (hck _) ?_;simp;refine ah.pure Oe (htx _) ?_;simp [hbe];refine ah.pure dT (aU _) ?_;simp;refine Hy _ ?_;simp [ab.v,ab.cells]
  ·have hbe:¬ bytes (dS y) = s:=fun h=>ht (hbt.1 h);rw [if_neg (by simp [ht])] at hv;rw [hv];refine aa _ ?_;simp [hxl];refine ah.pure Dr (hck _) ?_;simp;refine ah.pure Oe (htx _) ?_;simp [nmd,hbe];refine ah.pan dT (b7 _) ?_;rintro σ' rfl;simp;refine pH _ _ _ _ _ _ _ fun v=>?_;simp [wk,hzv]
 have hxl:¬ x.toList = []:=fun e=>hx (by rw [toList_data] at e; exact data_inj e);have hx6:x.size ≤ 6000:=by omega
 have hcu:=Jv x hx6;have hnlv:(⟨#[10]⟩:ByteArray) = nlB:=rfl;rw [Hx] at hcu
 cases hq:cutAt 10 (aA x) with
 | nil=>exact absurd hq (jr _ _)
 | cons r qs=>
 cases qs with
 | nil=>
  rw [hq] at hcu hco;have hxr:r = aA x:=by
   have:=mX 10 (aA x);rw [hq] at this; exact this
  have hrn:¬ r = []:=fun e=>hx (by rw [hxr] at e; exact data_inj e);have hrv:=hno (by rw [← hco]; unfold jA; rw [if_neg (by simpa using hrn)]);rw [hrv];refine aa _ ?_;simp [hxl,hnlv];refine ah.pure Nc (hcu _) ?_;simp;refine ah.pan dT (b7 _) ?_;rintro σ' rfl;simp;refine pH _ _ _ _ _ _ _ fun v=>?_;simp [wk,hzv]
 | cons q rs=>
 rw [hq] at hcu hco;dsimp only at hcu;have hj:aA x = r ++ 10 :: bB 10 (q :: rs):=by
  have:=mX 10 (aA x);rw [hq,uU 10 r (by simp)] at this; exact this.symm
 have hcb:cutAt 10 (bB 10 (q :: rs)) = q :: rs:=rz 10 (by simp) fun w hw=>BU 10 (aA x) w (by rw [hq]; simp [hw]);obtain ⟨z,hzz⟩:=zqq (bytes (bB 10 (q :: rs)));have hyr:aA z = bB 10 (q :: rs):=by rw [← hzz,bF]
 rw [hzz] at hcu;rw [← hyr] at hj hcb;have hsy:x.size = r.length + 1 + z.size:=by
  have:=congrArg List.length hj;rw [cL,List.length_append,List.length_cons,cL] at this; omega
 have hsp:=Ef (bytes r) (by rw [eo]; omega);have hsi:=Im (bytes r);rw [bF] at hsi;obtain ⟨ws,hws⟩:=zqq (ly (bytes r) spB);rw [hws] at hsp hsi;have hcl:=mB 32 r;rw [← hsi] at hcl;have hwl:ws.length ≤ 4001:=by have:=hcl.1; simp at this; omega
 have hwz:∀ n ∈ ws,n.size ≤ 100000:=fun n hn=>by
  have:=hcl.2 (aA n) (List.mem_map_of_mem hn);rw [cL] at this; omega
 have hspv:(⟨#[32]⟩:ByteArray) = spB:=rfl
 cases ws with
 | nil=>exact absurd hsi.symm (jr _ _)
 | cons w0 wr=>
 simp only [jA, ← hsi] at hco;have hrd:=fun q1 q2 q3 σ hb=>vl y (by simp only [maxLen]; omega) (by simp only [maxLen]; omega) (by omega) (by omega) (by omega) 5 2 3 4 q1 q2 q3 σ hb w0 wr hwz
 cases hst:fB ((w0 :: wr).map aA) y with
 | none=>
  rw [hst] at hco;simp only [hst] at hrd;simp only [w7,List.map_cons] at hrd;have hrv:=hno hco.symm;rw [hrv];refine aa _ ?_;simp [hxl,hnlv];refine ah.pure Nc (hcu _) ?_;simp;refine ah.pure dT (aU _) ?_;simp [hspv];refine ah.pure Mp (hsp _) ?_;simp;refine ah.pan LG (hrd _ _ _ _ ⟨rfl,rfl,rfl,rfl,by decide,by decide,by decide⟩) ?_;rintro σ' ⟨tl,rfl⟩;simp;refine pH _ _ _ _ _ _ _ fun v=>?_;simp [wk,hzv]
 | some y'=>
  rw [hst] at hco;simp only [hst] at hrd;simp only [w7,List.map_cons] at hrd;have hln:=FE hst;rw [List.length_map] at hln;refine aa _ ?_;simp [hxl,hnlv];refine ah.pure Nc (hcu _) ?_;simp;refine ah.pure dT (aU _) ?_;simp [hspv];refine ah.pure Mp (hsp _) ?_;simp;refine ah.spec LG (hrd _ _ _ _ ⟨rfl,rfl,rfl,rfl,by decide,by decide,by decide⟩) ?_;rintro r' σ' ⟨rfl,q1',q2',q3',tl,rfl⟩;refine ⟨_,rfl, ?_⟩;simp;exact ⟨z.size,by omega,y',⟨rfl,rfl,rfl,rfl,rfl⟩,rfl,by omega,by omega,by omega,by rw [hcb]; exact hco⟩
theorem ny (l:List ay) (hl:l.length ≤ maxLen) (σ:af):Spec Tryz.prog Hl [.slice 4 (l.map ay.v), .slice 4 (l.map ay.v)] σ fun r σ'=>r = .ret (.bool true) ∧ σ' = σ:=by
 refine Spec.aF (PY (by simp) (aa _ ?_)) (by simp [aH,ag.pure,aD (f:=ay.v) (fun c=>c.pure)]) rfl σ;simp [LX];refine AW.loop (ι:=Nat) (fun i fr σ=>fr = { v:=[(0, .slice 4 (l.map ay.v)),(1, .slice 4 (l.map ay.v)),(5, .bool true),(6, .int .i64 i)],ds:=[] } ∧ i ≤ l.length) (fun i=>l.length - i) 0 (by simp) ?_;rintro i fr σ ⟨rfl,hi⟩;refine (Nat.lt_or_ge i l.length).elim (fun hlt=>?_) (fun hge=>?_)
 ·obtain ⟨x,hx⟩:=zqq (l[i]);obtain ⟨a,b,c,d⟩:=x;refine aa _ ?_;simp [hlt,hx,ay.v,ay.cells];exact ⟨i + 1,by omega,aq (by omega) (by simp only [maxLen] at hl; omega),by omega⟩
 ·have hnl:¬ i < l.length:=by omega
  refine aa _ ?_;simp [hnl]
theorem qd (y:ab) (hy:dv y) (σ:af):Spec Tryz.prog Nu [y.v,y.v] σ fun r σ'=>r = .ret (.bool true) ∧ σ' = σ:=by
 refine Spec.aF (UM (by simp) (aa _ ?_)) (by simp [aH,y.pure]) rfl σ;have hw:∀ (l:List ByteArray),l.length ≤ maxLen → ∀ σ,Spec Tryz.prog Fp [.slice 1 (l.map .str), .slice 1 (l.map .str)] σ fun r σ'=>r = .ret (.bool true) ∧ σ' = σ:=fun l hl σ=>by
  have:=xz l l hl σ
  rwa [decide_eq_true rfl] at this
 have h1:=hw y.kinds hy.kinds;have h2:=hw y.places hy.places;have h3:=ny y.first hy.first
 have h4:=ny y.last hy.last;have hl:=hy.papers;obtain ⟨ks,ps,fs,l,ls⟩:=y;simp only at h1 h2 h3 h4 hl;simp [Ol,ab.v,ab.cells];refine ah.pure Lu (h1 _) ?_;simp;refine ah.pure Lu (h2 _) ?_;simp;refine ah.pure L7 (h3 _) ?_;simp;refine ah.pure L7 (h4 _) ?_;simp;refine AW.loop (ι:=Nat) (fun i fr σ=>fr = { v:=[(2, .pval (.agg [.slice 1 (ks.map .str), .slice 1 (ps.map .str), .slice 4 (fs.map ay.v), .slice 5 (l.map aj.v), .slice 4 (ls.map ay.v)])),(3, .pval (.agg [.slice 1 (ks.map .str), .slice 1 (ps.map .str), .slice 4 (fs.map ay.v), .slice 5 (l.map aj.v), .slice 4 (ls.map ay.v)])),(5, .bool true),(6, .int .i64 i)],ds:=[] } ∧ i ≤ l.length) (fun i=>l.length - i) 0 (by simp) ?_;rintro i fr σ ⟨rfl,hi⟩;refine (Nat.lt_or_ge i l.length).elim (fun hlt=>?_) (fun hge=>?_)
 ·obtain ⟨x,hx⟩:=zqq (l[i]);obtain ⟨a,b,c,d,e⟩:=x;refine aa _ ?_;simp [hlt,hx,aj.v,aj.cells];exact ⟨i + 1,by omega,aq (by omega) (by simp only [maxLen] at hl; omega),by omega⟩
 ·have hnl:¬ i < l.length:=by omega
  refine aa _ ?_;simp [hnl]
theorem bI (a b:Int) (σ:af):Spec Tryz.prog MY [ii' a,ii' b] σ fun r σ'=>r = .ret (.agg [ii' a,ii' b]) ∧ σ' = σ:=by
 refine Spec.aF (Us (by simp) (aa _ ?_)) rfl rfl σ;simp [Oi]
def oY:ByteArray:=⟨pP.toArray⟩
theorem qA (σ:af):Spec Tryz.prog ND [] σ fun r σ'=>r = .ret (.str oY) ∧ σ' = σ:=by
 refine Spec.aF (T7 (by simp) (aa _ ?_)) rfl rfl σ;simp [OH,oY,pP]
def exW (b:Bool):ab:=if b then exZ else exY
theorem ja (b:Bool) (σ:af):Spec Tryz.prog JI [.bool b] σ fun r σ'=>r = .ret (exW b).v ∧ σ' = σ:=by
 refine Spec.aF (TT (by simp) (aa _ ?_)) rfl (exW b).pure σ;cases b
 all_goals simp [OP]
 all_goals refine ah.pure p8 (bI 1000 1000 _) ?_
 all_goals simp
 all_goals refine ah.pure p8 (bI 100 100 _) ?_
 all_goals simp
 all_goals refine ah.pure p8 (bI 600 600 _) ?_
 all_goals simp
 ·simp [exW,exY,ab.v,ab.cells,ay.v,ay.cells,aj.v,aj.cells,Ch,oi,uE,CM]
 ·refine ah.pure p8 (bI 100 200 _) ?_;simp [exW,exZ,ab.v,ab.cells,ay.v,ay.cells,aj.v,aj.cells,Ch,oi,uE,CM]
theorem fk:dv exY:=⟨by decide,by decide,by decide,by decide,by decide⟩
theorem pb:dv exZ:=⟨by decide,by decide,by decide,by decide,by decide⟩
theorem Gc:By aQ:=⟨by decide +kernel,by decide +kernel,by decide +kernel,by decide +kernel⟩
theorem FV (σ:af):Spec Tryz.prog F5 [exY.v, .slice 1 [ii' 1]] σ fun r σ'=>r = .ret (.tup [.bool true,ii' 0]) ∧ σ' = σ:=by
 have h:=ed exY fk [1] (by decide) σ;rw [show gw exY [1] = (true,0) by decide +kernel] at h; exact h
theorem GX (σ:af):Spec Tryz.prog F5 [exY.v, .slice 1 [ii' 0]] σ fun r σ'=>r = .ret (.tup [.bool false,ii' 0]) ∧ σ' = σ:=by
 have h:=ed exY fk [0] (by decide) σ;rw [show gw exY [0] = (false,0) by decide +kernel] at h; exact h
theorem Nz (σ:af):Spec Tryz.prog G5 [exY.v, .slice 1 [ii' 0]] σ fun r σ'=>r = .ret (.tup [.agg [ii' (-1),ii' 0,ii' 1,ii' 100],ii' 0]) ∧ σ' = σ:=by
 have h:=og exY fk [0] (by decide) σ;have e:(fun r:bt × Int=>(r.1.paper,r.1.kind,r.1.places,r.1.over,r.2)) (Iz exY [0]) = (-1,0,1,100,0):=by decide +kernel
 simp only [Prod.mk.injEq] at e;obtain ⟨e1,e2,e3,e4,e5⟩:=e;simp only [bt.v,bt.cells,e1,e2,e3,e4,e5] at h; exact h
theorem Ct (n:Int) (hn:n = 100 ∨ n = 99) (σ:af):Spec Tryz.prog JS [exY.v, .slice 1 [ii' 0], .agg [ii' (-1),ii' 0,ii' 1,ii' n]] σ fun r σ'=>r = .ret (.tup [.bool (decide (n = 100)),ii' 0]) ∧ σ' = σ:=by
 have h:=ss exY fk [0] (by decide) ⟨-1,0,1,n⟩ σ;rcases hn with rfl | rfl
 ·rw [show rO exY [0] ⟨-1,0,1,100⟩ = (true,0) by decide +kernel] at h; exact h
 ·rw [show rO exY [0] ⟨-1,0,1,99⟩ = (false,0) by decide +kernel] at h; exact h
theorem Is (σ:af):Spec Tryz.prog IG [exZ.v] σ fun r σ'=>r = .ret (.tup [.slice 1 [ii' 0],ii' 0]) ∧ σ' = σ:=by
 have h:=lb exZ pb σ;rw [show sX exZ = ([0],0) by decide +kernel] at h; exact h
theorem ME (σ:af):Spec Tryz.prog Il [exY.v] σ fun r σ'=>r = .ret (.tup [.slice 1 [ii' 1],ii' 0]) ∧ σ' = σ:=by
 have h:=nC exY fk σ;rw [show Be exY = ([1],0) by decide +kernel] at h; exact h
theorem Q3 (σ:af):Spec Tryz.prog Ji [exZ.v] σ fun r σ'=>r = .ret (.tup [.slice 1 [ii' 0,ii' 1],ii' 0]) ∧ σ' = σ:=by
 have h:=o7 exZ pb σ;rw [show JF exZ = ([0,1],0) by decide +kernel] at h; exact h
theorem KD (σ:af):Spec Tryz.prog C7 [exZ.v, .slice 1 [ii' 0,ii' 1],ii' 0] σ fun r σ'=>r = .ret (.tup [.agg [ii' 500,ii' 600],ii' 0]) ∧ σ' = σ:=by
 have h:=dH exZ pb [0,1] (by decide) 0 σ;have e0:eJ exZ [0,1] (fa exZ 0) = 0:=by decide +kernel
 rw [e0] at h;refine h.mono ?_;rintro r σ' ⟨⟨lo,hi,rfl,_,h2⟩,rfl⟩;obtain ⟨rfl,rfl⟩:=I6 (El Gc) (h2 rfl);exact ⟨rfl,rfl⟩
theorem NM (σ:af):Spec Tryz.prog CX [exY.v, .slice 1 [ii' 1],ii' 0] σ fun r σ'=>r = .ret (.tup [.agg [ii' 300,ii' 300],ii' 0]) ∧ σ' = σ:=by
 have h:=eL exY fk [1] (by decide) 0 σ;have e0:eJ exY [1] (eU exY 0) = 0:=by decide +kernel
 rw [e0] at h;refine h.mono ?_;rintro r σ' ⟨⟨lo,hi,rfl,_,h2⟩,rfl⟩;obtain ⟨rfl,rfl⟩:=Ki (Dj Gc) (h2 rfl);exact ⟨rfl,rfl⟩
theorem NI (σ:af):Spec Tryz.prog C7 [exY.v, .slice 1 [ii' 0],ii' 0] σ fun r σ'=>r = .ret (.tup [.agg [ii' 0,ii' 0],ii' 9]) ∧ σ' = σ:=by
 have h:=dH exY fk [0] (by decide) 0 σ;have e0:eJ exY [0] (fa exY 0) = 9:=by decide +kernel
 rw [e0] at h;refine h.mono ?_;rintro r σ' ⟨⟨lo,hi,rfl,h1,_⟩,rfl⟩;obtain ⟨rfl,rfl⟩:=h1 (by decide);exact ⟨rfl,rfl⟩
theorem J4 (σ:af):Spec Tryz.prog J2 [exZ.v] σ fun r σ'=>r = .ret (.tup [.str oY,ii' 0]) ∧ σ' = σ:=by
 have h:=lX exZ pb σ;have e:mW exZ = (dS exZ,0):=by unfold mW; rw [if_neg (by simpa using (ib aQ exZ).2 (El Gc))]
 rw [e,C1] at h; exact h
theorem NL (σ:af):Spec Tryz.prog KE [.str oY] σ fun r σ'=>r = .ret (.tup [exZ.v,ii' 0]) ∧ σ' = σ:=by
 have h:=nE oY σ;have e:ep oY = (exZ,0):=by
  unfold ep;rw [if_neg (by decide +kernel),show aA oY = pP from rfl,Jc rk Gc]
 rw [e] at h; exact h
def zK:List cV → Bool
 | []=>true
 | .no :: r=>zK r
 | _=>false
theorem wz (bef:List (List Nat)) (j:Nat):∀ (l:List cV) (i:Nat),kY bef j .no l i = true
 | [],_=>rfl
 | f :: r,i=>by
  have e:cV.qf .no f = false:=by cases f <;> rfl
  simp only [kY,e,wz bef j r (i + 1)]; rfl
theorem tW:∀ {l:List cV},zK l = true → ∀ e ∈ l,e = .no
 | [],_,e,h=>by cases h
 | .no :: r,h,e,he=>by
  rcases List.mem_cons.1 he with rfl | he
  ·rfl
  ·exact tW (l:=r) h e he
 | .rd _ :: _,h,_,_=>by cases h
 | .al _ :: _,h,_,_=>by cases h
 | .wr _ _ :: _,h,_,_=>by cases h
theorem vM (bef:List (List Nat)):∀ (l p:List cV) (i:Nat),(∀ e ∈ l,e = .no) → eW bef p l i = true:=by
 intro l
 induction l with
 | nil=>intro p i _; rfl
 | cons a r ih=>
  intro p i h;have ha:=h a (by simp);subst ha;simp only [eW,wz,ih _ _ (fun e he=>h e (by simp [he]))]; rfl
def D7 (t:Nat) (σ:af) (e:Env) (σ':af) (es:List cV):Prop:=e.get t = .bool true ∧ σ' = σ ∧ zK es = true
theorem FD {sz bytes:Nat} {σ:af} {x y:ag} {K K':ag → cV → Prop} (h:∀ v f,K' v f → K v f) (hd:yf sz bytes σ x y K'):yf sz bytes σ x y K:=by
 obtain ⟨_,_,_,_,_,_,_,_,_,hk,_,hr⟩:=oH hd;exact hr K (h _ _ hk)
theorem Es {P:Program} {K K':Env → af → List cV → Prop} (h:∀ e σ es,K' e σ es → K e σ es):∀ {ops:List aL} {e:Env} {σ:af} {es:List cV},bK P ops e σ es K' → bK P ops e σ es K:=by
 intro ops
 induction ops with
 | nil=>intro e σ es hd; exact h _ _ _ hd
 | cons o r ih=>
  intro e σ es hd;obtain ⟨d,g,i⟩:=o
  cases hc:eX g e with
  | none=>simp only [bK,hc] at hd
  | some c=>
   cases i
   all_goals simp only [bK,hc] at hd ⊢
   all_goals first
    | exact ⟨hd.1,hd.2.1,ih hd.2.2⟩
    | exact ⟨hd.1,hd.2.1,hd.2.2.1,ih hd.2.2.2⟩
    | exact ⟨hd.1,ih hd.2⟩
    | exact ⟨hd.1,hd.2.1,hd.2.2.1,hd.2.2.2.1,ih hd.2.2.2.2⟩
    | (obtain ⟨v,h1,h2⟩:=hd; exact ⟨v,h1,ih h2⟩)
    | (obtain ⟨h1,h2,v,h3,h4⟩:=hd; exact ⟨h1,h2,v,h3,ih h4⟩)
    | (obtain ⟨h1,h2,h3⟩:=hd; exact ⟨h1,h2,FD (fun v f hv=>ih hv) h3⟩)
    | (obtain ⟨h1,h2,h3,h4⟩:=hd
       refine ⟨h1,h2,h3, ?_⟩
       split at h4
       ·exact ih h4
       ·exact h4)
    | (split at hd
       ·rename_i h0; rw [if_pos h0]; exact ⟨hd.1,ih hd.2⟩
       ·rename_i h0;rw [if_neg h0]
        split at hd
        ·rename_i h1; rw [if_pos h1]; exact ⟨hd.1,hd.2.1,hd.2.2.1,ih hd.2.2.2⟩
        ·rename_i h1; rw [if_neg h1]; exact ⟨hd.1,hd.2.1,hd.2.2.1,hd.2.2.2.1,ih hd.2.2.2.2⟩)
    | skip
theorem xI {P:Program} {ops:List aL} {e:Env} {σ:af} {K:Env → af → List cV → Prop} (t:Nat) (h:bK P ops e σ [] (D7 t σ)) (hk:∀ e es,e.get t = .bool true → zK es = true → K e σ es):bK P ops e σ [] K:=
 Es (fun e σ' es h=>by obtain ⟨h1,rfl,h3⟩:=h; exact hk e es h1 h3) h
theorem gM (σ:af):Spec Tryz.prog NK [] σ fun r σ'=>r = .ret (.bool true) ∧ σ' = σ:=by
 refine Spec.aF (TX (by simp) (aa _ ?_)) rfl rfl σ;have hY:=ja false;have hZ:=ja true;rw [show exW false = exY from rfl] at hY;rw [show exW true = exZ from rfl] at hZ;have c1:=FV;have c0:=GX;have w0:=Nz;have p1:=Ct 100 (.inl rfl);have p2:=Ct 99 (.inr rfl);rw [show decide ((100:Int) = 100) = true from rfl] at p1;rw [show decide ((99:Int) = 100) = false from rfl] at p2;have fe:=Is;have mu:=ME;have ma:=Q3;have ra:=KD;have go:=NM;have wr:=J4;have re:=NL;have dn:=NI;simp only [ab.v,ab.cells] at hY hZ c1 c0 w0 p1 p2 fe mu ma ra go wr re dn;simp [Pk];refine ah.pure HQ (hY _) ?_;simp;refine ah.pure HQ (hZ _) ?_;simp;refine ah.pure GL (c1 _) ?_;simp;refine ah.pure GL (c0 _) ?_;simp;refine ah.pure JR (w0 _) ?_;simp;refine ah.pure QP (p1 _) ?_;simp;refine ah.pure QP (p2 _) ?_;simp;refine ah.pure Qb (fe _) ?_;simp;refine ah.pure Qq (mu _) ?_;simp;refine ah.pure O6 (ma _) ?_;simp;refine ah.pure J0 (ra _) ?_;simp;refine ah.pure He (go _) ?_;simp;refine ah.pure Rf (wr _) ?_;simp;refine ah.pure QL (qA _) ?_;simp;refine ah.pure OY (re _) ?_;simp;refine ah.pure J0 (dn _) ?_;simp [-bK];refine xI 0 ?_ ?_
 ·have hm:∀ {l:List Int},l.length ≤ 10 → l.length ≤ maxLen:=fun h=>by simp only [maxLen]; omega
  have hs:=qd exZ pb;simp only [ab.v,ab.cells] at hs
  repeat (rw [bK]; simp [-bK])
  refine ⟨.bool true,fun σ'=>aE.func Jb (gq [0] (hm (by simp)) σ'), ?_⟩
  repeat (rw [bK]; simp [-bK])
  refine ⟨.bool true,fun σ'=>aE.func Jb (gq [1] (hm (by simp)) σ'), ?_⟩
  repeat (rw [bK]; simp [-bK])
  refine ⟨.bool true,fun σ'=>aE.func Jb (gq [0,1] (hm (by simp)) σ'), ?_⟩
  repeat (rw [bK]; simp [-bK])
  refine ⟨_,fun σ'=>aE.func p8 (bI 500 600 σ'), ?_⟩
  repeat (rw [bK]; simp [-bK])
  refine ⟨_,fun σ'=>aE.func p8 (bI 300 300 σ'), ?_⟩
  repeat (rw [bK]; simp [-bK])
  have hp1:=aD (f:=ag.str) (fun _=>rfl) exZ.kinds;have hp2:=aD (f:=ag.str) (fun _=>rfl) exZ.places;have hp3:=aD (f:=ay.v) (fun c=>c.pure) exZ.first
  have hp4:=aD (f:=aj.v) (fun c=>c.pure) exZ.papers;have hp5:=aD (f:=ay.v) (fun c=>c.pure) exZ.last;refine ⟨.str oY,fun σ'=>aE.func QL (qA σ'), ?_⟩
  repeat (rw [bK]; simp [-bK])
  refine ⟨.bool true,fun σ' _=>aE.func Oy (hs σ'), ?_⟩
  repeat (rw [bK]; simp [-bK])
  simp [D7,zK,hp1,hp2,hp3,hp4,hp5]
 ·intro e es h1 h2;have hcl:∀ bef,eW bef [] es.reverse 0 = true:=fun bef=>vM bef _ [] 0 (by intro x hx; exact tW h2 x (List.mem_reverse.1 hx));simp [hcl,h1]
theorem vG {y:ab} (hv:bJ aQ y) {i:Nat} (hi:i < y.papers.length):∃ k:Nat,k < y.kinds.length ∧ aK y i = k:=by
 have h:=(hv.papers i hi).kind;have e:aK y i = y.papers[i].kind:=by unfold aK; rw [List.getElem?_eq_getElem hi]
 exact ⟨y.papers[i].kind.toNat,by omega,by rw [e]; omega⟩
theorem Jg {y:ab} (hv:bJ aQ y) {w:List Nat} (hc:aP y w = true) {i:Nat} (hi:i < y.papers.length):∃ lo hi,jE y w i lo hi:=by
 obtain ⟨k,hk,e⟩:=vG hv hi;have hf:=((iK hv w).1 hc).2 k hk;rw [← e] at hf;exact sk (xH hv hi w (-aw) aw).1 hf
theorem Ff {y:ab} (hv:bJ aQ y) {w:List Nat} (hc:aP y w = true) {k:Nat} (hk:k < y.kinds.length):∃ lo hi,iw y w k lo hi:=by
 have hf:=((iK hv w).1 hc).2 k hk;exact sk (by rw [jq]; unfold ba; omega) hf
theorem F4 {y:ab} (hy:dv y) {w:List Int} (hwl:w.length ≤ maxLen) (h0:bW y w = 0) (hc:aP y (bD w) = true) {i:Nat} (hi:i < y.papers.length) {lo hi':Int} (hr:jE y (bD w) i lo hi') (σ:af) :
  Spec Tryz.prog C7 [y.v, .slice 1 (w.map ii'),ii' i] σ fun r σ'=>r = .ret (.tup [.agg [ii' lo,ii' hi'],ii' 0]) ∧ σ' = σ:=by
 have hv:=((cJ y w).1 h0).valid;obtain ⟨k,hk,e⟩:=vG hv hi;have h:=dH y hy w hwl (i:Int) σ;have ek:fa y (i:Int) = k:=by
  unfold fa;rw [if_pos (bA.1.2 ⟨by omega,by omega⟩),Int.toNat_natCast,e]
 have eb:eJ y w (fa y i) = 0:=by
  unfold eJ;rw [if_neg (by simp [h0]),ek,if_neg (by omega),if_pos hc]
 rw [eb] at h;refine h.mono ?_;rintro r σ' ⟨⟨a,b,rfl,_,h2⟩,rfl⟩;obtain ⟨rfl,rfl⟩:=(h2 rfl).unique hr;exact ⟨rfl,rfl⟩
theorem Bb {y:ab} (hy:dv y) {w:List Int} (hwl:w.length ≤ maxLen) (h0:bW y w = 0) (hc:aP y (bD w) = true) {k:Nat} (hk:k < y.kinds.length) {lo hi':Int} (hr:iw y (bD w) k lo hi') (σ:af) :
  Spec Tryz.prog CX [y.v, .slice 1 (w.map ii'),ii' k] σ fun r σ'=>r = .ret (.tup [.agg [ii' lo,ii' hi'],ii' 0]) ∧ σ' = σ:=by
 have h:=eL y hy w hwl (k:Int) σ;have ek:eU y (k:Int) = k:=by
  unfold eU;rw [if_pos (bA.1.2 ⟨by omega,by omega⟩)]
 have eb:eJ y w (eU y k) = 0:=by
  unfold eJ;rw [if_neg (by simp [h0]),ek,if_neg (by omega),if_pos hc]
 rw [eb] at h;refine h.mono ?_;rintro r σ' ⟨⟨a,b,rfl,_,h2⟩,rfl⟩;obtain ⟨rfl,rfl⟩:=(h2 rfl).unique hr;exact ⟨rfl,rfl⟩
end Go.AM
