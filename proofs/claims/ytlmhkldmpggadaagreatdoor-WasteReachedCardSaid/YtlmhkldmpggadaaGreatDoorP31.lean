/- Chapter 09: any row is read into a yard, or refused: of the program. Chapter 09: Read: of the program. Chapter 09: equal yards; the law's own functions. Chapter 09: what the program answers on the .. -/
import Derived.Test.YtlmhkldmpggadaaGreatDoorP30
import Derived.Test.YtlmhkldmpggadaaGreatDoorP22
import Derived.Test.YtlmhkldmpggadaaGreatDoorP20
import Derived.Test.YtlmhkldmpggadaaGreatDoorP27
namespace Go.AM
open Go.Proofs
set_option maxRecDepth 100000
set_option maxHeartbeats 1000000
theorem sk {α} {l:List α} {i:Nat} {x:α} (h:l[i]? = some x):l.set i x = l:=by
 obtain ⟨hi,e⟩:=List.getElem?_eq_some_iff.1 h;rw [← e,List.set_getElem_self hi]
theorem G9 {a b:ByteArray} (h:aM a = aM b):a = b:=data_inj h
def vc (σ:af) (b b1 b2 b3:Nat):Option ab → eE → af → Prop
 | none,r,σ'=>r = .pan kM ∧ ∃ tl,σ' = σ ++ tl
 | some y,r,σ'=>r = .ret (.tup []) ∧ ∃ q1 q2 q3 tl,σ' = (((σ.set b1 (.spare 4 q1)).set b2 (.spare 5 q2)).set b3 (.spare 4 q3)).set b (.box [.slice 1 (y.kinds.map .str), .slice 1 (y.places.map .str), .oslice 4 (y.first.map ay.v) b1 q1, .oslice 5 (y.papers.map aj.v) b2 q2, .oslice 4 (y.last.map ay.v) b3 q3]) ++ tl
theorem step_cons (w:WdW) (r:List WdW) (y:ab):eN (w :: r) y = if w = eD then some { y with kinds:=r.map zo } else if w = dC then some { y with places:=r.map zo } else if w = dD then (gY y (w :: r)).map fun c=>{ y with first:=y.first ++ [c] } else if w = ij then (qb y (w :: r)).map fun p=>{ y with papers:=y.papers ++ [p] } else if w = eJ then (gY y (w :: r)).map fun c=>{ y with last:=y.last ++ [c] } else none:=by
 unfold eN;simp only [List.head?_cons,Option.some.injEq,List.tail_cons]
theorem xV:aM kC = eD:=rfl
theorem u6:aM gC = dC:=rfl
theorem xk:aM cO = dD:=rfl
theorem xS:aM bW = ij:=rfl
theorem Bh:aM dt = eJ:=rfl
theorem Ia {y:ab} {l:List WdW} {p:aj} (h:qb y l = some p):l.length = 6:=by
 unfold qb at h
 split at h
 ·rfl
 ·cases h
theorem tH (y:ab) (hk:y.kinds.length ≤ maxLen) (hp:y.places.length ≤ maxLen) (hf:y.first.length ≤ 100000) (hpa:y.papers.length ≤ 100000) (hl:y.last.length ≤ 100000) (b b1 b2 b3 q1 q2 q3:Nat) (σ:af) (h:pf σ b b1 b2 b3 y q1 q2 q3) (w0:ByteArray) (ws:List ByteArray) (hw:∀ w ∈ w0 :: ws,w.size ≤ 100000) :
  Spec Tryz.prog lb [.ptr b 0, .slice 1 ((w0 :: ws).map .str)] σ fun r σ'=>vc σ b b1 b2 b3 (eN ((w0 :: ws).map aM) y) r σ':=by
 have e1:σ.set b1 (.spare 4 q1) = σ:=sk h.s1;have e2:σ.set b2 (.spare 5 q2) = σ:=sk h.s2;have e3:σ.set b3 (.spare 4 q3) = σ:=sk h.s3;have hm:(ws.map aM).map zo = ws:=tX ws;by_cases g1:w0 = kC
 ·subst g1;have hs:eN ((kC :: ws).map aM) y = some { y with kinds:=ws }:=by
   rw [List.map_cons,step_cons,if_pos xV,hm]
  rw [hs];refine (se y b b1 b2 b3 q1 q2 q3 σ h ws).mono ?_;rintro r σ' ⟨rfl,tl,rfl⟩;exact ⟨rfl,q1,q2,q3,tl,by rw [e1,e2,e3]⟩
 by_cases g2:w0 = gC
 ·subst g2;have hs:eN ((gC :: ws).map aM) y = some { y with places:=ws }:=by
   rw [List.map_cons,step_cons,u6,if_neg (by decide),if_pos rfl,hm]
  rw [hs];refine (qt y b b1 b2 b3 q1 q2 q3 σ h ws).mono ?_;rintro r σ' ⟨rfl,tl,rfl⟩;exact ⟨rfl,q1,q2,q3,tl,by rw [e1,e2,e3]⟩
 by_cases g3:w0 = cO
 ·subst g3;have hs:eN ((cO :: ws).map aM) y = (gY y ((cO :: ws).map aM)).map fun c=>{ y with first:=y.first ++ [c] }:=by
   rw [List.map_cons,step_cons,xk,if_neg (by decide),if_neg (by decide),if_pos rfl]
  rw [hs]
  cases hc:gY y ((cO :: ws).map aM) with
  | none=>
   refine (oI y hk hp b b1 b2 b3 q1 q2 q3 σ h ws hw hc).mono ?_;rintro r σ' ⟨rfl,tl,rfl⟩;exact ⟨rfl,tl,rfl⟩
  | some c=>
   refine (nI y hk hp hf b b1 b2 b3 q1 q2 q3 σ h ws hw hc).mono ?_;rintro r σ' ⟨rfl,tl,rfl⟩;have f2:(σ.set b1 (.spare 4 (q1 + 1)))[b2]? = some (.spare 5 q2):=by rw [List.getElem?_set_ne h.n12]; exact h.s2
   have f3:(σ.set b1 (.spare 4 (q1 + 1)))[b3]? = some (.spare 4 q3):=by rw [List.getElem?_set_ne h.n13]; exact h.s3
   exact ⟨rfl,q1 + 1,q2,q3,tl,by rw [sk f2,sk f3]⟩
 by_cases g4:w0 = bW
 ·subst g4;have hs:eN ((bW :: ws).map aM) y = (qb y ((bW :: ws).map aM)).map fun p=>{ y with papers:=y.papers ++ [p] }:=by
   rw [List.map_cons,step_cons,xS,if_neg (by decide),if_neg (by decide),if_neg (by decide),if_pos rfl]
  rw [hs];by_cases h6:(bW :: ws).length = 6
  ·obtain ⟨w1,w2,w3,w4,w5,rfl⟩:∃ w1 w2 w3 w4 w5,ws = [w1,w2,w3,w4,w5]:=by
    match ws,h6 with
    | [w1,w2,w3,w4,w5],_=>exact ⟨w1,w2,w3,w4,w5,rfl⟩
   have z4:=hw w4 (by simp);have z5:=hw w5 (by simp)
   cases hc:qb y ((bW :: [w1,w2,w3,w4,w5]).map aM) with
   | none=>
    refine (oD y hk hp b b1 b2 b3 q1 q2 q3 σ h w1 w2 w3 w4 w5 z4 z5 hc).mono ?_;rintro r σ' ⟨rfl,tl,rfl⟩;exact ⟨rfl,tl,rfl⟩
   | some p=>
    refine (nJ y hk hp hpa b b1 b2 b3 q1 q2 q3 σ h w1 w2 w3 w4 w5 z4 z5 hc).mono ?_;rintro r σ' ⟨rfl,tl,rfl⟩;have f3:(σ.set b2 (.spare 5 (q2 + 1)))[b3]? = some (.spare 4 q3):=by rw [List.getElem?_set_ne h.n23]; exact h.s3
    exact ⟨rfl,q1,q2 + 1,q3,tl,by rw [e1,sk f3]⟩
  ·have hc:qb y ((bW :: ws).map aM) = none:=by
    cases hq:qb y ((bW :: ws).map aM) with
    | none=>rfl
    | some p=>exact absurd (by have:=Ia hq; rwa [List.length_map] at this) h6
   rw [hc];refine (ni y b b1 b2 b3 q1 q2 q3 σ h ws h6).mono ?_;rintro r σ' ⟨rfl,tl,rfl⟩;exact ⟨rfl,tl,rfl⟩
 by_cases g5:w0 = dt
 ·subst g5;have hs:eN ((dt :: ws).map aM) y = (gY y ((dt :: ws).map aM)).map fun c=>{ y with last:=y.last ++ [c] }:=by
   rw [List.map_cons,step_cons,Bh,if_neg (by decide),if_neg (by decide),if_neg (by decide),if_neg (by decide),if_pos rfl]
  rw [hs]
  cases hc:gY y ((dt :: ws).map aM) with
  | none=>
   refine (pO y hk hp b b1 b2 b3 q1 q2 q3 σ h ws hw hc).mono ?_;rintro r σ' ⟨rfl,tl,rfl⟩;exact ⟨rfl,tl,rfl⟩
  | some c=>
   refine (oL y hk hp hl b b1 b2 b3 q1 q2 q3 σ h ws hw hc).mono ?_;rintro r σ' ⟨rfl,tl,rfl⟩;exact ⟨rfl,q1,q2,q3 + 1,tl,by rw [e1,e2]⟩
 have hne:∀ x:ByteArray,w0 ≠ x → ¬ aM w0 = aM x:=fun x hx e=>hx (G9 e);have hs:eN ((w0 :: ws).map aM) y = none:=by
  rw [List.map_cons,step_cons, ← xV, ← u6, ← xk, ← xS, ← Bh,if_neg (hne kC g1),if_neg (hne gC g2),if_neg (hne cO g3),if_neg (hne bW g4),if_neg (hne dt g5)]
 rw [hs];refine (rN b σ w0 ws g1 g2 g3 g4 g5).mono ?_;rintro r σ' ⟨rfl,tl,rfl⟩;exact ⟨rfl,tl,rfl⟩
theorem EW {ws:List WdW} {y y':ab} (h:eN ws y = some y'):y'.kinds.length ≤ max y.kinds.length ws.length ∧ y'.places.length ≤ max y.places.length ws.length ∧ y'.first.length + y'.papers.length + y'.last.length ≤ y.first.length + y.papers.length + y.last.length + 1:=by
 unfold eN at h
 split at h
 ·cases h; dsimp only; rw [List.length_map,List.length_tail]; omega
 ·split at h
  ·cases h; dsimp only; rw [List.length_map,List.length_tail]; omega
  ·split at h
   ·obtain ⟨c,_,rfl⟩:=Option.map_eq_some_iff.1 h;simp; omega
   ·split at h
    ·obtain ⟨c,_,rfl⟩:=Option.map_eq_some_iff.1 h;simp; omega
    ·split at h
     ·obtain ⟨c,_,rfl⟩:=Option.map_eq_some_iff.1 h;simp; omega
     ·cases h
theorem Cf (a b:Nat) (σ:af):me Tryz.prog yS [.ptr a 0, .ptr b 0] σ .none fun m σ'=>m = .none ∧ σ' = σ:=by
 refine MR (by simp) (aa _ ?_);simp [HX,PM.after]
def vN:List ag:=[.slice 1 [], .slice 1 [], .slice 4 [], .slice 5 [], .slice 4 []]
theorem BG (v1 v2 v3 v4 v5 z:ag) (tl:af) :
  me Tryz.prog yS [.ptr 0 0, .ptr 1 0] (.box [v1,v2,v3,v4,v5] :: .box [z] :: tl) (.pan kM) fun m σ'=>(∃ v,m = .recd v) ∧ σ' = .box vN :: .box [ii' 6] :: tl:=by
 refine MR (by simp) (aa _ ?_);simp [HX,PM.after,kM,vN]
theorem n7 (v1 v2 v3 v4 v5 z:ag) (tl:af) {R:PM → af → Prop} (h:∀ v,R (.recd v) (.box vN :: .box [ii' 6] :: tl)) :
  au Tryz.prog yS = true ∧ me Tryz.prog yS [.ptr 0 0, .ptr 1 0] (.box [v1,v2,v3,v4,v5] :: .box [z] :: tl) (.pan kM) R:=
 ⟨OQ,(BG v1 v2 v3 v4 v5 z tl).mono (by rintro m σ' ⟨⟨v,rfl⟩,rfl⟩; exact h v)⟩
theorem Gu (σ:af) {R:PM → af → Prop} (h:R .none σ) :
  au Tryz.prog yS = true ∧ me Tryz.prog yS [.ptr 0 0, .ptr 1 0] σ .none R:=
 ⟨OQ,(Cf 0 1 σ).mono (by rintro m σ' ⟨rfl,rfl⟩; exact h)⟩
def oY (s:ByteArray):ab × Int:=if 4000 < s.size then (j5,3) else match vL aR (aM s) with
 | some y=>(y,0)
 | none=>(j5,6)
theorem GK {s:ByteArray} (h4:¬ 4000 < s.size) (h:nn eN (fun l=>decide (l = [])) (cutAt 10 (aM s)) j5 = none):oY s = (j5,6):=by
 unfold oY vL vX; rw [if_neg h4,h]
theorem tL (s:ByteArray) (σ:af):Spec Tryz.prog HD [.str s] σ fun r σ'=>r = .ret (.tup [(oY s).1.v,ii' (oY s).2]) ∧ σ' = σ:=by
 refine Spec.aI (R9 (by simp) ?_) rfl (by simp [ag.pure,aG,ab.pure]) σ;by_cases h6:4000 < s.size
 ·have hv:oY s = (j5,3):=by unfold oY; rw [if_pos h6]
  have h6I:(4000:Int) < s.size:=by omega
  rw [hv];refine aa _ ?_;simp [HS,h6I,j5,ab.v,ab.cells]
 have h6I:¬ (4000:Int) < s.size:=by omega
 have hno:=GK h6;have hzv:j5.v = .agg [.slice 1 [], .slice 1 [], .slice 4 [], .slice 5 [], .slice 4 []]:=rfl;refine aa _ ?_;simp [HS,h6I]
 refine AW.loop (ι:=Nat) (fun m fr σ'=>∃ (x:ByteArray) (y:ab) (q1 q2 q3:Nat) (t:af),fr = { v:=[(0, .str s),(2, .ptr 0 0),(3, .ptr 1 0),(4, .ptr 5 0),(5, .str x)],ds:=[.fn (.func (.func yS) [] [.ptr 0 0, .ptr 1 0]) []] } ∧
  σ' = .box [.slice 1 [], .slice 1 [], .slice 4 [], .slice 5 [], .slice 4 []] :: .box [ii' 0] :: .spare 4 q1 :: .spare 5 q2 :: .spare 4 q3 :: .box [.slice 1 (y.kinds.map .str), .slice 1 (y.places.map .str), .oslice 4 (y.first.map ay.v) 2 q1, .oslice 5 (y.papers.map aj.v) 3 q2, .oslice 4 (y.last.map ay.v) 4 q3] :: t ∧ x.size = m ∧ y.first.length + y.papers.length + y.last.length + x.size ≤ 4000 ∧ y.kinds.length ≤ 4001 ∧ y.places.length ≤ 4001 ∧ nn eN (fun l=>decide (l = [])) (cutAt 10 (aM x)) y = nn eN (fun l=>decide (l = [])) (cutAt 10 (aM s)) j5) (fun m=>m) s.size ⟨s,j5,0,0,0,[],rfl,rfl,rfl,by simp [j5]; omega,by simp [j5],by simp [j5],rfl⟩ ?_
 rintro m fr σ' ⟨x,y,q1,q2,q3,t,rfl,rfl,rfl,hsz,hkl,hpl,hco⟩;by_cases hx:x = .empty
 ·have hr:aM x = []:=by rw [hx]; rfl
  rw [hr] at hco;have hrp:nn eN (fun l=>decide (l = [])) (cutAt 10 (aM s)) j5 = some y:=by rw [← hco]; rfl
  have hfy:dw y:=⟨by simp only [maxLen]; omega,by simp only [maxLen]; omega,by simp only [maxLen]; omega,by simp only [maxLen]; omega,by simp only [maxLen]; omega⟩;have hck:=fun σ=>eT y hfy σ;simp only [ab.v,ab.cells,cN] at hck;have hxl:x.toList = []:=by rw [toList_data]; exact hr
  have hv:oY s = if decide ((bZ aR y).2.2 = 0) && decide (gk y = aM s) then (y,0) else (j5,6):=by
   unfold oY vL vX;rw [if_neg h6,hrp];dsimp only;by_cases hh:(decide ((bZ aR y).2.2 = 0) && decide (gk y = aM s)) = true
   ·rw [if_pos hh,if_pos hh]
   ·rw [if_neg hh,if_neg hh]
  by_cases hz:(bZ aR y).2.2 = 0;rotate_left
  ·rw [if_neg (by simp [hz])] at hv;have hzB:((bZ aR y).2.2 == 0) = false:=by rw [beq_eq_false_iff_ne]; exact hz
   rw [hv];refine aa _ ?_;simp [hxl];refine ah.pure zO (hck _) ?_;simp [hzB];refine ah.pan dv (bQ _) ?_;rintro σ' rfl;simp;refine n7 _ _ _ _ _ _ _ fun v=>?_;simp [vN,hzv]
  have htx:=fun σ=>l9 Ch ((iv aR y).1 hz) σ;simp only [ab.v,ab.cells] at htx;rw [hz] at hck;have hbt:bytes (gk y) = s ↔ gk y = aM s:=⟨fun h=>by rw [← h,jy],fun h=>data_inj (by rw [uq]; exact h)⟩;by_cases ht:gk y = aM s
  ·have hbe:=hbt.2 ht;rw [if_pos (by simp [hz,ht])] at hv;rw [hv];refine aa _ ?_;simp [hxl];refine ah.pure zO (hck _) ?_;simp;refine ah.pure Kl (htx _) ?_;simp [hbe];refine ah.pure dv (aX _) ?_;simp;refine Gu _ ?_;simp [ab.v,ab.cells]
  ·have hbe:¬ bytes (gk y) = s:=fun h=>ht (hbt.1 h);rw [if_neg (by simp [ht])] at hv;rw [hv];refine aa _ ?_;simp [hxl];refine ah.pure zO (hck _) ?_;simp;refine ah.pure Kl (htx _) ?_;simp [nmd,hbe];refine ah.pan dv (bQ _) ?_;rintro σ' rfl;simp;refine n7 _ _ _ _ _ _ _ fun v=>?_;simp [vN,hzv]
 have hxl:¬ x.toList = []:=fun e=>hx (by rw [toList_data] at e; exact data_inj e);have hx6:x.size ≤ 6000:=by omega
 have hcu:=F3 x hx6;have hnlv:(⟨#[10]⟩:ByteArray) = nlB:=rfl;rw [GM] at hcu
 cases hq:cutAt 10 (aM x) with
 | nil=>exact absurd hq (lh _ _)
 | cons r qs=>
 cases qs with
 | nil=>
  rw [hq] at hcu hco;have hxr:r = aM x:=by
   have:=lU 10 (aM x);rw [hq] at this; exact this
  have hrn:¬ r = []:=fun e=>hx (by rw [hxr] at e; exact data_inj e);have hrv:=hno (by rw [← hco]; unfold nn; rw [if_neg (by simpa using hrn)]);rw [hrv];refine aa _ ?_;simp [hxl,hnlv];refine ah.pure Kd (hcu _) ?_;simp;refine ah.pan dv (bQ _) ?_;rintro σ' rfl;simp;refine n7 _ _ _ _ _ _ _ fun v=>?_;simp [vN,hzv]
 | cons q rs=>
 rw [hq] at hcu hco;dsimp only at hcu;have hj:aM x = r ++ 10 :: bD 10 (q :: rs):=by
  have:=lU 10 (aM x);rw [hq,sU 10 r (by simp)] at this; exact this.symm
 have hcb:cutAt 10 (bD 10 (q :: rs)) = q :: rs:=pC 10 (by simp) fun w hw=>zz 10 (aM x) w (by rw [hq]; simp [hw]);obtain ⟨z,hzz⟩:=zqq (bytes (bD 10 (q :: rs)));have hyr:aM z = bD 10 (q :: rs):=by rw [← hzz,jy]
 rw [hzz] at hcu;rw [← hyr] at hj hcb;have hsy:x.size = r.length + 1 + z.size:=by
  have:=congrArg List.length hj;rw [ym,List.length_append,List.length_cons,ym] at this; omega
 have hsp:=CI (bytes r) (by rw [B8]; omega);have hsi:=FO (bytes r);rw [jy] at hsi;obtain ⟨ws,hws⟩:=zqq (kF (bytes r) spB);rw [hws] at hsp hsi;have hcl:=yg 32 r;rw [← hsi] at hcl;have hwl:ws.length ≤ 4001:=by have:=hcl.1; simp at this; omega
 have hwz:∀ n ∈ ws,n.size ≤ 100000:=fun n hn=>by
  have:=hcl.2 (aM n) (List.mem_map_of_mem hn);rw [ym] at this; omega
 have hspv:(⟨#[32]⟩:ByteArray) = spB:=rfl
 cases ws with
 | nil=>exact absurd hsi.symm (lh _ _)
 | cons w0 wr=>
 simp only [nn, ← hsi] at hco;have hrd:=fun q1 q2 q3 σ hb=>tH y (by simp only [maxLen]; omega) (by simp only [maxLen]; omega) (by omega) (by omega) (by omega) 5 2 3 4 q1 q2 q3 σ hb w0 wr hwz
 cases hst:eN ((w0 :: wr).map aM) y with
 | none=>
  rw [hst] at hco;simp only [hst] at hrd;simp only [vc,List.map_cons] at hrd;have hrv:=hno hco.symm;rw [hrv];refine aa _ ?_;simp [hxl,hnlv];refine ah.pure Kd (hcu _) ?_;simp;refine ah.pure dv (aX _) ?_;simp [hspv];refine ah.pure IX (hsp _) ?_;simp;refine ah.pan Jp (hrd _ _ _ _ ⟨rfl,rfl,rfl,rfl,by decide,by decide,by decide⟩) ?_;rintro σ' ⟨tl,rfl⟩;simp;refine n7 _ _ _ _ _ _ _ fun v=>?_;simp [vN,hzv]
 | some y'=>
  rw [hst] at hco;simp only [hst] at hrd;simp only [vc,List.map_cons] at hrd;have hln:=EW hst;rw [List.length_map] at hln;refine aa _ ?_;simp [hxl,hnlv];refine ah.pure Kd (hcu _) ?_;simp;refine ah.pure dv (aX _) ?_;simp [hspv];refine ah.pure IX (hsp _) ?_;simp;refine ah.spec Jp (hrd _ _ _ _ ⟨rfl,rfl,rfl,rfl,by decide,by decide,by decide⟩) ?_;rintro r' σ' ⟨rfl,q1',q2',q3',tl,rfl⟩;refine ⟨_,rfl, ?_⟩;simp;exact ⟨z.size,by omega,y',⟨rfl,rfl,rfl,rfl,rfl⟩,rfl,by omega,by omega,by omega,by rw [hcb]; exact hco⟩
theorem mi (l:List ay) (hl:l.length ≤ maxLen) (σ:af):Spec Tryz.prog GY [.slice 4 (l.map ay.v), .slice 4 (l.map ay.v)] σ fun r σ'=>r = .ret (.bool true) ∧ σ' = σ:=by
 refine Spec.aI (Nr (by simp) (aa _ ?_)) (by simp [aG,ag.pure,aC (f:=ay.v) (fun c=>c.pure)]) rfl σ;simp [I0];refine AW.loop (ι:=Nat) (fun i fr σ=>fr = { v:=[(0, .slice 4 (l.map ay.v)),(1, .slice 4 (l.map ay.v)),(5, .bool true),(6, .int .i64 i)],ds:=[] } ∧ i ≤ l.length) (fun i=>l.length - i) 0 (by simp) ?_;rintro i fr σ ⟨rfl,hi⟩;refine (Nat.lt_or_ge i l.length).elim (fun hlt=>?_) (fun hge=>?_)
 ·obtain ⟨x,hx⟩:=zqq (l[i]);obtain ⟨a,b,c,d⟩:=x;refine aa _ ?_;simp [hlt,hx,ay.v,ay.cells];exact ⟨i + 1,by omega,aw (by omega) (by simp only [maxLen] at hl; omega),by omega⟩
 ·have hnl:¬ i < l.length:=by omega
  refine aa _ ?_;simp [hnl]
theorem wD (y:ab) (hy:dw y) (σ:af):Spec Tryz.prog Kb [y.v,y.v] σ fun r σ'=>r = .ret (.bool true) ∧ σ' = σ:=by
 refine Spec.aI (Sj (by simp) (aa _ ?_)) (by simp [aG,y.pure]) rfl σ;have hw:∀ (l:List ByteArray),l.length ≤ maxLen → ∀ σ,Spec Tryz.prog Da [.slice 1 (l.map .str), .slice 1 (l.map .str)] σ fun r σ'=>r = .ret (.bool true) ∧ σ' = σ:=fun l hl σ=>by
  have:=vA l l hl σ
  rwa [decide_eq_true rfl] at this
 have h1:=hw y.kinds hy.kinds;have h2:=hw y.places hy.places;have h3:=mi y.first hy.first
 have h4:=mi y.last hy.last;have hl:=hy.papers;obtain ⟨ks,ps,fs,l,ls⟩:=y;simp only at h1 h2 h3 h4 hl;simp [OM,ab.v,ab.cells];refine ah.pure JB (h1 _) ?_;simp;refine ah.pure JB (h2 _) ?_;simp;refine ah.pure JL (h3 _) ?_;simp;refine ah.pure JL (h4 _) ?_;simp;refine AW.loop (ι:=Nat) (fun i fr σ=>fr = { v:=[(2, .pval (.agg [.slice 1 (ks.map .str), .slice 1 (ps.map .str), .slice 4 (fs.map ay.v), .slice 5 (l.map aj.v), .slice 4 (ls.map ay.v)])),(3, .pval (.agg [.slice 1 (ks.map .str), .slice 1 (ps.map .str), .slice 4 (fs.map ay.v), .slice 5 (l.map aj.v), .slice 4 (ls.map ay.v)])),(5, .bool true),(6, .int .i64 i)],ds:=[] } ∧ i ≤ l.length) (fun i=>l.length - i) 0 (by simp) ?_;rintro i fr σ ⟨rfl,hi⟩;refine (Nat.lt_or_ge i l.length).elim (fun hlt=>?_) (fun hge=>?_)
 ·obtain ⟨x,hx⟩:=zqq (l[i]);obtain ⟨a,b,c,d,e⟩:=x;refine aa _ ?_;simp [hlt,hx,aj.v,aj.cells];exact ⟨i + 1,by omega,aw (by omega) (by simp only [maxLen] at hl; omega),by omega⟩
 ·have hnl:¬ i < l.length:=by omega
  refine aa _ ?_;simp [hnl]
theorem eh (a b:Int) (σ:af):Spec Tryz.prog Kk [ii' a,ii' b] σ fun r σ'=>r = .ret (.agg [ii' a,ii' b]) ∧ σ' = σ:=by
 refine Spec.aI (PW (by simp) (aa _ ?_)) rfl rfl σ;simp [Ox]
def ng:ByteArray:=⟨nW.toArray⟩
theorem oQ (σ:af):Spec Tryz.prog K4 [] σ fun r σ'=>r = .ret (.str ng) ∧ σ' = σ:=by
 refine Spec.aI (PE (by simp) (aa _ ?_)) rfl rfl σ;simp [O9,ng,nW]
def exW (b:Bool):ab:=if b then exZ else exY
theorem oZ (b:Bool) (σ:af):Spec Tryz.prog KE [.bool b] σ fun r σ'=>r = .ret (exW b).v ∧ σ' = σ:=by
 refine Spec.aI (RZ (by simp) (aa _ ?_)) rfl (exW b).pure σ;cases b
 all_goals simp [O1]
 all_goals refine ah.pure EE (eh 1000 1000 _) ?_
 all_goals simp
 all_goals refine ah.pure EE (eh 100 100 _) ?_
 all_goals simp
 all_goals refine ah.pure EE (eh 600 600 _) ?_
 all_goals simp
 ·simp [exW,exY,ab.v,ab.cells,ay.v,ay.cells,aj.v,aj.cells,CK,pD,vC,BC]
 ·refine ah.pure EE (eh 100 200 _) ?_;simp [exW,exZ,ab.v,ab.cells,ay.v,ay.cells,aj.v,aj.cells,CK,pD,vC,BC]
theorem lV:dw exY:=⟨by decide,by decide,by decide,by decide,by decide⟩
theorem qU:dw exZ:=⟨by decide,by decide,by decide,by decide,by decide⟩
theorem HN:Ag aR:=⟨by decide +kernel,by decide +kernel,by decide +kernel,by decide +kernel⟩
theorem EG (σ:af):Spec Tryz.prog Em [exY.v, .slice 1 [ii' 1]] σ fun r σ'=>r = .ret (.tup [.bool true,ii' 0]) ∧ σ' = σ:=by
 have h:=dE exY lV [1] (by decide) σ;rw [show gu exY [1] = (true,0) by decide +kernel] at h; exact h
theorem ED (σ:af):Spec Tryz.prog Em [exY.v, .slice 1 [ii' 0]] σ fun r σ'=>r = .ret (.tup [.bool false,ii' 0]) ∧ σ' = σ:=by
 have h:=dE exY lV [0] (by decide) σ;rw [show gu exY [0] = (false,0) by decide +kernel] at h; exact h
theorem Kr (σ:af):Spec Tryz.prog Iw [exY.v, .slice 1 [ii' 0]] σ fun r σ'=>r = .ret (.tup [.agg [ii' (-1),ii' 0,ii' 1,ii' 100],ii' 0]) ∧ σ' = σ:=by
 have h:=nB exY lV [0] (by decide) σ;have e:(fun r:aS × Int=>(r.1.paper,r.1.kind,r.1.places,r.1.over,r.2)) (Bb exY [0]) = (-1,0,1,100,0):=by decide +kernel
 simp only [Prod.mk.injEq] at e;obtain ⟨e1,e2,e3,e4,e5⟩:=e;simp only [aS.v,aS.cells,e1,e2,e3,e4,e5] at h; exact h
theorem zq (n:Int) (hn:n = 100 ∨ n = 99) (σ:af):Spec Tryz.prog Iy [exY.v, .slice 1 [ii' 0], .agg [ii' (-1),ii' 0,ii' 1,ii' n]] σ fun r σ'=>r = .ret (.tup [.bool (decide (n = 100)),ii' 0]) ∧ σ' = σ:=by
 have h:=kp exY lV [0] (by decide) ⟨-1,0,1,n⟩ σ;rcases hn with rfl | rfl
 ·rw [show jg exY [0] ⟨-1,0,1,100⟩ = (true,0) by decide +kernel] at h; exact h
 ·rw [show jg exY [0] ⟨-1,0,1,99⟩ = (false,0) by decide +kernel] at h; exact h
theorem Hd (σ:af):Spec Tryz.prog Io [exZ.v] σ fun r σ'=>r = .ret (.tup [.slice 1 [ii' 0],ii' 0]) ∧ σ' = σ:=by
 have h:=j9 exZ qU σ;rw [show dG exZ = ([0],0) by decide +kernel] at h; exact h
theorem Kw (σ:af):Spec Tryz.prog Hx [exY.v] σ fun r σ'=>r = .ret (.tup [.slice 1 [ii' 1],ii' 0]) ∧ σ' = σ:=by
 have h:=mf exY lV σ;rw [show ky exY = ([1],0) by decide +kernel] at h; exact h
theorem Mp (σ:af):Spec Tryz.prog Ht [exZ.v] σ fun r σ'=>r = .ret (.tup [.slice 1 [ii' 0,ii' 1],ii' 0]) ∧ σ' = σ:=by
 have h:=mG exZ qU σ;rw [show qV exZ = ([0,1],0) by decide +kernel] at h; exact h
theorem Hu (σ:af):Spec Tryz.prog zy [exZ.v, .slice 1 [ii' 0,ii' 1],ii' 0] σ fun r σ'=>r = .ret (.tup [.agg [ii' 500,ii' 600],ii' 0]) ∧ σ' = σ:=by
 have h:=dT exZ qU [0,1] (by decide) 0 σ;have e0:fu exZ [0,1] (dR exZ 0) = 0:=by decide +kernel
 rw [e0] at h;refine h.mono ?_;rintro r σ' ⟨⟨lo,hi,rfl,_,h2⟩,rfl⟩;obtain ⟨rfl,rfl⟩:=Fv (CO HN) (h2 rfl);exact ⟨rfl,rfl⟩
theorem Ll (σ:af):Spec Tryz.prog H3 [exY.v, .slice 1 [ii' 1],ii' 0] σ fun r σ'=>r = .ret (.tup [.agg [ii' 300,ii' 300],ii' 0]) ∧ σ' = σ:=by
 have h:=tS exY lV [1] (by decide) 0 σ;have e0:fu exY [1] (iU exY 0) = 0:=by decide +kernel
 rw [e0] at h;refine h.mono ?_;rintro r σ' ⟨⟨lo,hi,rfl,_,h2⟩,rfl⟩;obtain ⟨rfl,rfl⟩:=It (Kh HN) (h2 rfl);exact ⟨rfl,rfl⟩
theorem JX (σ:af):Spec Tryz.prog zy [exY.v, .slice 1 [ii' 0],ii' 0] σ fun r σ'=>r = .ret (.tup [.agg [ii' 0,ii' 0],ii' 9]) ∧ σ' = σ:=by
 have h:=dT exY lV [0] (by decide) 0 σ;have e0:fu exY [0] (dR exY 0) = 9:=by decide +kernel
 rw [e0] at h;refine h.mono ?_;rintro r σ' ⟨⟨lo,hi,rfl,h1,_⟩,rfl⟩;obtain ⟨rfl,rfl⟩:=h1 (by decide);exact ⟨rfl,rfl⟩
theorem HE (σ:af):Spec Tryz.prog Iq [exZ.v] σ fun r σ'=>r = .ret (.tup [.str ng,ii' 0]) ∧ σ' = σ:=by
 have h:=sn exZ qU σ;have e:vt exZ = (gk exZ,0):=by unfold vt; rw [if_neg (by simpa using (iv aR exZ).2 (CO HN))]
 rw [e,A8] at h; exact h
theorem KX (σ:af):Spec Tryz.prog HD [.str ng] σ fun r σ'=>r = .ret (.tup [exZ.v,ii' 0]) ∧ σ' = σ:=by
 have h:=tL ng σ;have e:oY ng = (exZ,0):=by
  unfold oY;rw [if_neg (by decide +kernel),show aM ng = nW from rfl,Fo Ch HN]
 rw [e] at h; exact h
def Ae:List cJ → Bool
 | []=>true
 | .no :: r=>Ae r
 | _=>false
theorem vw (bef:List (List Nat)) (j:Nat):∀ (l:List cJ) (i:Nat),ki bef j .no l i = true
 | [],_=>rfl
 | f :: r,i=>by
  have e:cJ.pg .no f = false:=by cases f <;> rfl
  simp only [ki,e,vw bef j r (i + 1)]; rfl
theorem xn:∀ {l:List cJ},Ae l = true → ∀ e ∈ l,e = .no
 | [],_,e,h=>by cases h
 | .no :: r,h,e,he=>by
  rcases List.mem_cons.1 he with rfl | he
  ·rfl
  ·exact xn (l:=r) h e he
 | .rd _ :: _,h,_,_=>by cases h
 | .al _ :: _,h,_,_=>by cases h
 | .wr _ _ :: _,h,_,_=>by cases h
theorem By (bef:List (List Nat)):∀ (l p:List cJ) (i:Nat),(∀ e ∈ l,e = .no) → eW bef p l i = true:=by
 intro l
 induction l with
 | nil=>intro p i _; rfl
 | cons a r ih=>
  intro p i h;have ha:=h a (by simp);subst ha;simp only [eW,vw,ih _ _ (fun e he=>h e (by simp [he]))]; rfl
def GX (t:Nat) (σ:af) (e:Env) (σ':af) (es:List cJ):Prop:=e.get t = .bool true ∧ σ' = σ ∧ Ae es = true
theorem DH {sz bytes:Nat} {σ:af} {x y:ag} {K K':ag → cJ → Prop} (h:∀ v f,K' v f → K v f) (hd:wM sz bytes σ x y K'):wM sz bytes σ x y K:=by
 obtain ⟨_,_,_,_,_,_,_,_,_,hk,_,hr⟩:=nq hd;exact hr K (h _ _ hk)
theorem Cx {P:Program} {K K':Env → af → List cJ → Prop} (h:∀ e σ es,K' e σ es → K e σ es):∀ {ops:List aK} {e:Env} {σ:af} {es:List cJ},cy P ops e σ es K' → cy P ops e σ es K:=by
 intro ops
 induction ops with
 | nil=>intro e σ es hd; exact h _ _ _ hd
 | cons o r ih=>
  intro e σ es hd;obtain ⟨d,g,i⟩:=o
  cases hc:eu g e with
  | none=>simp only [cy,hc] at hd
  | some c=>
   cases i
   all_goals simp only [cy,hc] at hd ⊢
   all_goals first
    | exact ⟨hd.1,hd.2.1,ih hd.2.2⟩
    | exact ⟨hd.1,hd.2.1,hd.2.2.1,ih hd.2.2.2⟩
    | exact ⟨hd.1,ih hd.2⟩
    | exact ⟨hd.1,hd.2.1,hd.2.2.1,hd.2.2.2.1,ih hd.2.2.2.2⟩
    | (obtain ⟨v,h1,h2⟩:=hd; exact ⟨v,h1,ih h2⟩)
    | (obtain ⟨h1,h2,v,h3,h4⟩:=hd; exact ⟨h1,h2,v,h3,ih h4⟩)
    | (obtain ⟨h1,h2,h3⟩:=hd; exact ⟨h1,h2,DH (fun v f hv=>ih hv) h3⟩)
    | (obtain ⟨h1,h2,h3,h4⟩:=hd
       refine ⟨h1,h2,h3, ?_⟩
       split at h4
       ·exact ih h4
       ·exact h4)
    | (split at hd
       ·rename_i h0; rw [if_pos h0]; exact ⟨hd.1,ih hd.2⟩
       ·rename_i h0;rw [if_neg h0]
        split at hd
        ·rename_i h1; rw [if_pos h1]; exact ⟨hd.1,hd.2.1,hd.2.2.1,ih hd.2.2.2⟩
        ·rename_i h1; rw [if_neg h1]; exact ⟨hd.1,hd.2.1,hd.2.2.1,hd.2.2.2.1,ih hd.2.2.2.2⟩)
    | skip
theorem Ce {P:Program} {ops:List aK} {e:Env} {σ:af} {K:Env → af → List cJ → Prop} (t:Nat) (h:cy P ops e σ [] (GX t σ)) (hk:∀ e es,e.get t = .bool true → Ae es = true → K e σ es):cy P ops e σ [] K:=
 Cx (fun e σ' es h=>by obtain ⟨h1,rfl,h3⟩:=h; exact hk e es h1 h3) h
theorem hO (σ:af):Spec Tryz.prog Ld [] σ fun r σ'=>r = .ret (.bool true) ∧ σ' = σ:=by
 refine Spec.aI (Rf (by simp) (aa _ ?_)) rfl rfl σ;have hY:=oZ false;have hZ:=oZ true;rw [show exW false = exY from rfl] at hY;rw [show exW true = exZ from rfl] at hZ;have c1:=EG;have c0:=ED;have w0:=Kr;have p1:=zq 100 (.inl rfl);have p2:=zq 99 (.inr rfl);rw [show decide ((100:Int) = 100) = true from rfl] at p1;rw [show decide ((99:Int) = 100) = false from rfl] at p2;have fe:=Hd;have mu:=Kw;have ma:=Mp;have ra:=Hu;have go:=Ll;have wr:=HE;have re:=KX;have dn:=JX;simp only [ab.v,ab.cells] at hY hZ c1 c0 w0 p1 p2 fe mu ma ra go wr re dn;simp [OZ];refine ah.pure Of (hY _) ?_;simp;refine ah.pure Of (hZ _) ?_;simp;refine ah.pure FD (c1 _) ?_;simp;refine ah.pure FD (c0 _) ?_;simp;refine ah.pure ON (w0 _) ?_;simp;refine ah.pure Kt (p1 _) ?_;simp;refine ah.pure Kt (p2 _) ?_;simp;refine ah.pure LD (fe _) ?_;simp;refine ah.pure Nx (mu _) ?_;simp;refine ah.pure Nn (ma _) ?_;simp;refine ah.pure Eu (ra _) ?_;simp;refine ah.pure Rn (go _) ?_;simp;refine ah.pure QQ (wr _) ?_;simp;refine ah.pure NQ (oQ _) ?_;simp;refine ah.pure PV (re _) ?_;simp;refine ah.pure Eu (dn _) ?_;simp [-cy];refine Ce 0 ?_ ?_
 ·have hm:∀ {l:List Int},l.length ≤ 10 → l.length ≤ maxLen:=fun h=>by simp only [maxLen]; omega
  have hs:=wD exZ qU;simp only [ab.v,ab.cells] at hs
  repeat (rw [cy]; simp [-cy])
  refine ⟨.bool true,fun σ'=>aH.func ET (eo [0] (hm (by simp)) σ'), ?_⟩
  repeat (rw [cy]; simp [-cy])
  refine ⟨.bool true,fun σ'=>aH.func ET (eo [1] (hm (by simp)) σ'), ?_⟩
  repeat (rw [cy]; simp [-cy])
  refine ⟨.bool true,fun σ'=>aH.func ET (eo [0,1] (hm (by simp)) σ'), ?_⟩
  repeat (rw [cy]; simp [-cy])
  refine ⟨_,fun σ'=>aH.func EE (eh 500 600 σ'), ?_⟩
  repeat (rw [cy]; simp [-cy])
  refine ⟨_,fun σ'=>aH.func EE (eh 300 300 σ'), ?_⟩
  repeat (rw [cy]; simp [-cy])
  have hp1:=aC (f:=ag.str) (fun _=>rfl) exZ.kinds;have hp2:=aC (f:=ag.str) (fun _=>rfl) exZ.places;have hp3:=aC (f:=ay.v) (fun c=>c.pure) exZ.first
  have hp4:=aC (f:=aj.v) (fun c=>c.pure) exZ.papers;have hp5:=aC (f:=ay.v) (fun c=>c.pure) exZ.last;refine ⟨.str ng,fun σ'=>aH.func NQ (oQ σ'), ?_⟩
  repeat (rw [cy]; simp [-cy])
  refine ⟨.bool true,fun σ' _=>aH.func Sb (hs σ'), ?_⟩
  repeat (rw [cy]; simp [-cy])
  simp [GX,Ae,hp1,hp2,hp3,hp4,hp5]
 ·intro e es h1 h2;have hcl:∀ bef,eW bef [] es.reverse 0 = true:=fun bef=>By bef _ [] 0 (by intro x hx; exact xn h2 x (List.mem_reverse.1 hx));simp [hcl,h1]
theorem n9 (l:List Nat):b8 (aQ l) = l:=by
 unfold b8 aQ;rw [List.map_map]
 conv=>rhs; rw [← List.map_id l]
 exact List.map_congr_left fun x _=>by simp
theorem Dd {y:ab} (hv:bV aR y) {l:List Nat} (ha:oK y.papers.length 0 l):yc y (aQ l):=⟨hv,by rw [n9]; exact ha,by rw [n9]⟩
theorem sQ {y:ab} (hv:bV aR y) {l:List Nat} (ha:oK y.papers.length 0 l):gu y (aQ l) = (aL y l,0):=by
 have h:=(cw y (aQ l)).2 (Dd hv ha);unfold gu;rw [if_neg (by simp [h]),n9]
theorem tp {y:ab} (hv:bV aR y):ck y = if aL y (List.range y.papers.length) then 0 else 9:=by
 have h:=(cw y []).2 ⟨hv,by simp [b8,oK],rfl⟩;unfold ck;rw [if_neg (by simp [h])]
theorem EN {y:ab} (h:(bZ aR y).2.2 ≠ 0):ck y = (bZ aR y).2.2:=by
 have h1:cd y [] = (bZ aR y).2.2:=by unfold cd; rw [if_pos h]
 unfold ck;rw [if_pos (by rw [h1]; exact h),h1]
theorem yG (m:Nat):dJ m m = List.range m:=by
 unfold dJ;rw [List.filter_eq_self];intro x hx;have:=List.mem_range.1 hx;simp; omega
theorem iw {y:ab} (hv:bV aR y) {l:List Nat} (ha:oK y.papers.length 0 l):(aQ l).length ≤ maxLen:=by
 have h1:=qO ha;have h2:=hv.m10;simp only [aQ,List.length_map,maxLen];omega
theorem yz {y:ab} (hv:bV aR y) {i:Nat} (hi:i < y.papers.length):∃ k:Nat,k < y.kinds.length ∧ aB y i = k:=by
 have h:=(hv.papers i hi).kind;have e:aB y i = y.papers[i].kind:=by unfold aB; rw [List.getElem?_eq_getElem hi]
 exact ⟨y.papers[i].kind.toNat,by omega,by rw [e]; omega⟩
theorem Fw {y:ab} (hv:bV aR y) {w:List Nat} (hc:aL y w = true) {i:Nat} (hi:i < y.papers.length):∃ lo hi,lD y w i lo hi:=by
 obtain ⟨k,hk,e⟩:=yz hv hi;have hf:=((fS hv w).1 hc).2 k hk;rw [← e] at hf;exact yO (sw hv hi w (-ar) ar).1 hf
theorem DV {y:ab} (hy:dw y) {w:List Int} (hwl:w.length ≤ maxLen) (h0:cd y w = 0) (hc:aL y (b8 w) = true) {i:Nat} (hi:i < y.papers.length) {lo hi':Int} (hr:lD y (b8 w) i lo hi') (σ:af) :
  Spec Tryz.prog zy [y.v, .slice 1 (w.map ii'),ii' i] σ fun r σ'=>r = .ret (.tup [.agg [ii' lo,ii' hi'],ii' 0]) ∧ σ' = σ:=by
 have hv:=((cw y w).1 h0).valid;obtain ⟨k,hk,e⟩:=yz hv hi;have h:=dT y hy w hwl (i:Int) σ;have ek:dR y (i:Int) = k:=by
  unfold dR;rw [if_pos (bB.1.2 ⟨by omega,by omega⟩),Int.toNat_natCast,e]
 have eb:fu y w (dR y i) = 0:=by
  unfold fu;rw [if_neg (by simp [h0]),ek,if_neg (by omega),if_pos hc]
 rw [eb] at h;refine h.mono ?_;rintro r σ' ⟨⟨a,b,rfl,_,h2⟩,rfl⟩;obtain ⟨rfl,rfl⟩:=(h2 rfl).unique hr;exact ⟨rfl,rfl⟩
theorem AS {y:ab} (hy:dw y) {w:List Int} (hwl:w.length ≤ maxLen) (h0:cd y w = 0) (hc:aL y (b8 w) = false) {i:Nat} (hi:i < y.papers.length) (σ:af) :
  Spec Tryz.prog zy [y.v, .slice 1 (w.map ii'),ii' i] σ fun r σ'=>r = .ret (.tup [.agg [ii' 0,ii' 0],ii' 9]) ∧ σ' = σ:=by
 have hv:=((cw y w).1 h0).valid;obtain ⟨k,hk,e⟩:=yz hv hi;have h:=dT y hy w hwl (i:Int) σ;have ek:dR y (i:Int) = k:=by
  unfold dR;rw [if_pos (bB.1.2 ⟨by omega,by omega⟩),Int.toNat_natCast,e]
 have eb:fu y w (dR y i) = 9:=by
  unfold fu;rw [if_neg (by simp [h0]),ek,if_neg (by omega),if_neg (by simp [hc])]
 rw [eb] at h;refine h.mono ?_;rintro r σ' ⟨⟨a,b,rfl,h1,_⟩,rfl⟩;obtain ⟨rfl,rfl⟩:=h1 (by decide);exact ⟨rfl,rfl⟩
def bG (p:Nat → Bool) (m:Nat):List Nat:=(List.range m).filter p
theorem mU (p:Nat → Bool) (m:Nat):bG p (m + 1) = bG p m ++ if p m then [m] else []:=by
 unfold bG;rw [List.range_succ,List.filter_append];congr 1;cases h:p m <;> simp [h]
theorem pE (p:Nat → Bool) (m:Nat):(aQ (bG p m)).length ≤ m:=by
 have:=List.length_filter_le p (List.range m);simp only [aQ,List.length_map,bG];simpa using this
end Go.AM
