/- Chapter 09: numbers beyond others; the first thing with an error. (Printed by mkr2.py.) Chapter 09: names, counts, papers of a yard: of the program. Chapter 09: counts, papers, Check: of the .. -/
import Derived.Test.YtlmhkldmpggadaaGreatDoorP21
import Derived.Test.YtlmhkldmpggadaaGreatDoorP15
import Derived.Test.YtlmhkldmpggadaaGreatDoorTie
import Derived.Test.YtlmhkldmpggadaaGreatDoorCards
import Derived.ProofKit
import Derived.LaidMore
import Derived.Lay
import Derived.OpenShut
import Derived.SevenTiedAt
import Derived.Shelf.Vars
namespace Go.AM
open Go.Proofs
set_option maxRecDepth 100000
set_option maxHeartbeats 1000000
theorem ah.bf {P:Program} {fv:ag} {args:List ag} {σ:af} {Q:fq → af → Prop} {K Kp:ag → af → Prop} (hs:aE P fv args σ Q) (h:∀ r σ',Q r σ' → ∃ v,r = .ret v ∧ K v σ'):@ah P fv args σ ⟨K⟩ ⟨Kp⟩:=
 hs.mono fun r σ' hq=>by obtain ⟨v,rfl,hk⟩:=h r σ' hq; exact hk
theorem oE {i:Nat} {l:Nat} (h:i < l) (hl:l ≤ maxLen):IntKind.i64.wrap ((i:Int) + 1) = ((i + 1:Nat):Int):=by
 simp only [maxLen] at hl;rw [aq (by omega) (by omega)]; simp
theorem pZ (n lo hi:Int) (σ:af):Spec Tryz.prog HU [ii' n, .pval (ii' lo), .pval (ii' hi)] σ fun r σ'=>r = .ret (.bool (GQ lo hi n)) ∧ σ' = σ:=by
 refine Spec.aF (OU (by simp) (aa _ ?_)) rfl rfl σ;simp [Lv,GQ]
theorem lj (lo hi:Int) (l:List Int) (hl:l.length ≤ maxLen) (σ:af) :
  Spec Tryz.prog Hf [ii' lo,ii' hi, .slice 1 (l.map ii')] σ fun r σ'=>r = .ret (.bool (pq lo hi l)) ∧ σ' = σ:=by
 refine Spec.aF (SX (by simp) (aa _ ?_)) (by simp [aD (f:=ii') (fun _=>rfl) l]) rfl σ;simp [Qi];refine ah.pure Rz (jD _ _ rfl (GQ lo hi) l hl (fun x _=>oO.fn P4 (fun σ=>pZ x lo hi σ)) _) ?_;simp [pq]
theorem cj (lo hi a:Int) (σ:af):Spec Tryz.prog Hf [ii' lo,ii' hi, .slice 1 [ii' a]] σ fun r σ'=>r = .ret (.bool (!inI a lo hi)) ∧ σ' = σ:=by
 have e:pq lo hi [a] = !inI a lo hi:=by
  simp only [pq,GQ,inI,List.any_cons,List.any_nil,Bool.or_false];rw [Bool.eq_iff_iff]; simp <;> omega
 have:=lj lo hi [a] (by simp [maxLen]) σ
 rwa [e] at this
theorem rM (lo hi a b:Int) (σ:af):Spec Tryz.prog Hf [ii' lo,ii' hi, .slice 1 [ii' a,ii' b]] σ fun r σ'=>r = .ret (.bool (!(inI a lo hi && inI b lo hi))) ∧ σ' = σ:=by
 have e:pq lo hi [a,b] = !(inI a lo hi && inI b lo hi):=by
  simp only [pq,GQ,inI,List.any_cons,List.any_nil,Bool.or_false];rw [Bool.eq_iff_iff]; simp <;> omega
 have:=lj lo hi [a,b] (by simp [maxLen]) σ
 rwa [e] at this
theorem nq (g:FuncId) (first caps:List ag) (l:List ByteArray) (f:Nat → ByteArray → Int) (hl:l.length ≤ maxLen) (J:Nat → af → Prop) (_hm:∀ i σ,J i σ → J i (σ ++ [.dead]))
  (hf:∀ i (h:i < l.length) σ,J i σ → aE Tryz.prog (.func (.func g) first caps) [ii' i,ag.str l[i]] σ fun r σ'=>r = .ret (ii' (f i l[i])) ∧ J (i + 1) σ') (σ:af) (h0:J 0 σ) :
  Spec Tryz.prog Fy [.slice 1 (l.map ag.str), .func (.func g) first caps] σ fun r σ'=>r = .ret (.tup [ii' (aG f l 0).1,ii' (aG f l 0).2]) ∧ ∃ i,J i σ':=by
 refine O2 (by simp) (aa _ ?_);simp [LH];refine AW.loop (ι:=Nat) (fun i fr σ'=>fr = { v:=[(1, .func (.func g) first caps),(8, .slice 1 (l.map ag.str)),(9, .int .i64 l.length),(10, .int .i64 i)],ds:=[] } ∧ J i σ' ∧ i ≤ l.length ∧ aG f l 0 = aG f (l.drop i) i) (fun i=>l.length - i) 0 ⟨by simp,h0,by omega,by simp⟩ ?_;rintro i fr σ' ⟨rfl,hJ,hi,hp⟩;refine (Nat.lt_or_ge i l.length).elim (fun hlt=>?_) (fun hge=>?_)
 ·have hd:l.drop i = l[i] :: l.drop (i + 1):=List.drop_eq_getElem_cons hlt;rw [hd] at hp;simp only [aG] at hp;have hc:=hf i hlt σ' hJ;obtain ⟨x,hx⟩:=zqq (l[i]);rw [hx] at hp hc;have hw:=oE hlt hl;simp only [ii'] at hc;by_cases he:f i x = 0
  ·rw [he] at hc;rw [if_neg (by simp [he])] at hp;refine aa _ ?_;simp [hlt,hx];refine ah.bf hc ?_;rintro r σ1 ⟨rfl,hJ1⟩;refine ⟨_,rfl, ?_⟩;simp [hw];exact ⟨i + 1,by omega,by simp,hJ1,by omega,hp⟩
  ·rw [if_pos he] at hp;refine aa _ ?_;simp [hlt,hx];refine ah.bf hc ?_;rintro r σ1 ⟨rfl,hJ1⟩;refine ⟨_,rfl, ?_⟩;simp [he,hp];exact ⟨_,hJ1⟩
 ·have hz:l.drop i = []:=List.drop_eq_nil_of_le hge;rw [hz] at hp;refine aa _ ?_;simp [show ¬ i < l.length by omega,hp,aG];exact ⟨_,hJ⟩
theorem me (g:FuncId) (first caps:List ag) (hp:aH first = true) (hp2:aH caps = true) (l:List ByteArray) (f:Nat → ByteArray → Int) (hl:l.length ≤ maxLen)
  (hf:∀ i (h:i < l.length),oO Tryz.prog (.func (.func g) first caps) [ii' i,ag.str l[i]] (ii' (f i l[i]))) (σ:af) :
  Spec Tryz.prog Fy [.slice 1 (l.map ag.str), .func (.func g) first caps] σ fun r σ'=>r = .ret (.tup [ii' (aG f l 0).1,ii' (aG f l 0).2]) ∧ σ' = σ:=
 Spec.aF ((nq g first caps l f hl (fun _ _=>True) (fun _ _ h=>h) (fun i h σ _=>(hf i h σ).mono fun r σ' hq=>⟨hq.1,trivial⟩) [] trivial).mono fun r σ' h=>h.1) (by simp [hp,hp2,aD (f:=ag.str) (fun _=>rfl) l]) (by simp [ag.pure,aH]) σ
theorem pU (g:FuncId) (first caps:List ag) (l:List Int) (f:Nat → Int → Int) (hl:l.length ≤ maxLen) (J:Nat → af → Prop) (_hm:∀ i σ,J i σ → J i (σ ++ [.dead]))
  (hf:∀ i (h:i < l.length) σ,J i σ → aE Tryz.prog (.func (.func g) first caps) [ii' i,ii' l[i]] σ fun r σ'=>r = .ret (ii' (f i l[i])) ∧ J (i + 1) σ') (σ:af) (h0:J 0 σ) :
  Spec Tryz.prog Jd [.slice 1 (l.map ii'), .func (.func g) first caps] σ fun r σ'=>r = .ret (.tup [ii' (aG f l 0).1,ii' (aG f l 0).2]) ∧ ∃ i,J i σ':=by
 refine RN (by simp) (aa _ ?_);simp [L8];refine AW.loop (ι:=Nat) (fun i fr σ'=>fr = { v:=[(1, .func (.func g) first caps),(8, .slice 1 (l.map ii')),(9, .int .i64 l.length),(10, .int .i64 i)],ds:=[] } ∧ J i σ' ∧ i ≤ l.length ∧ aG f l 0 = aG f (l.drop i) i) (fun i=>l.length - i) 0 ⟨by simp,h0,by omega,by simp⟩ ?_;rintro i fr σ' ⟨rfl,hJ,hi,hp⟩;refine (Nat.lt_or_ge i l.length).elim (fun hlt=>?_) (fun hge=>?_)
 ·have hd:l.drop i = l[i] :: l.drop (i + 1):=List.drop_eq_getElem_cons hlt;rw [hd] at hp;simp only [aG] at hp;have hc:=hf i hlt σ' hJ;obtain ⟨x,hx⟩:=zqq (l[i]);rw [hx] at hp hc;have hw:=oE hlt hl;simp only [ii'] at hc;by_cases he:f i x = 0
  ·rw [he] at hc;rw [if_neg (by simp [he])] at hp;refine aa _ ?_;simp [hlt,hx];refine ah.bf hc ?_;rintro r σ1 ⟨rfl,hJ1⟩;refine ⟨_,rfl, ?_⟩;simp [hw];exact ⟨i + 1,by omega,by simp,hJ1,by omega,hp⟩
  ·rw [if_pos he] at hp;refine aa _ ?_;simp [hlt,hx];refine ah.bf hc ?_;rintro r σ1 ⟨rfl,hJ1⟩;refine ⟨_,rfl, ?_⟩;simp [he,hp];exact ⟨_,hJ1⟩
 ·have hz:l.drop i = []:=List.drop_eq_nil_of_le hge;rw [hz] at hp;refine aa _ ?_;simp [show ¬ i < l.length by omega,hp,aG];exact ⟨_,hJ⟩
theorem j4 (g:FuncId) (first caps:List ag) (l:List ay) (f:Nat → ay → Int) (hl:l.length ≤ maxLen) (J:Nat → af → Prop) (hm:∀ i σ,J i σ → J i (σ ++ [.dead]))
  (hf:∀ i (h:i < l.length) σ,J i σ → aE Tryz.prog (.func (.func g) first caps) [ii' i,ay.v l[i]] σ fun r σ'=>r = .ret (ii' (f i l[i])) ∧ J (i + 1) σ') (σ:af) (h0:J 0 σ) :
  Spec Tryz.prog G9 [.slice 4 (l.map ay.v), .func (.func g) first caps] σ fun r σ'=>r = .ret (.tup [ii' (aG f l 0).1,ii' (aG f l 0).2]) ∧ ∃ i,J i σ':=by
 refine P8 (by simp) (aa _ ?_);simp [LB];refine AW.loop (ι:=Nat) (fun i fr σ'=>fr = { v:=[(1, .func (.func g) first caps),(8, .slice 4 (l.map ay.v)),(9, .int .i64 l.length),(10, .int .i64 i)],ds:=[] } ∧ J i σ' ∧ i ≤ l.length ∧ aG f l 0 = aG f (l.drop i) i) (fun i=>l.length - i) 0 ⟨by simp,h0,by omega,by simp⟩ ?_;rintro i fr σ' ⟨rfl,hJ,hi,hp⟩;refine (Nat.lt_or_ge i l.length).elim (fun hlt=>?_) (fun hge=>?_)
 ·have hd:l.drop i = l[i] :: l.drop (i + 1):=List.drop_eq_getElem_cons hlt;rw [hd] at hp;simp only [aG] at hp;have hc:=hf i hlt (σ' ++ [.dead]) (hm _ _ hJ);obtain ⟨x,hx⟩:=zqq (l[i]);rw [hx] at hp hc;have hw:=oE hlt hl;simp only [ay.v,ay.cells,ii'] at hc;by_cases he:f i x = 0
  ·rw [he] at hc;rw [if_neg (by simp [he])] at hp;refine aa _ ?_;simp [hlt,hx,ay.v,ay.cells];refine ah.bf hc ?_;rintro r σ1 ⟨rfl,hJ1⟩;refine ⟨_,rfl, ?_⟩;simp [hw];exact ⟨i + 1,by omega,by simp,hJ1,by omega,hp⟩
  ·rw [if_pos he] at hp;refine aa _ ?_;simp [hlt,hx,ay.v,ay.cells];refine ah.bf hc ?_;rintro r σ1 ⟨rfl,hJ1⟩;refine ⟨_,rfl, ?_⟩;simp [he,hp];exact ⟨_,hJ1⟩
 ·have hz:l.drop i = []:=List.drop_eq_nil_of_le hge;rw [hz] at hp;refine aa _ ?_;simp [show ¬ i < l.length by omega,hp,aG];exact ⟨_,hJ⟩
theorem jZ (g:FuncId) (first caps:List ag) (l:List aj) (f:Nat → aj → Int) (hl:l.length ≤ maxLen) (J:Nat → af → Prop) (hm:∀ i σ,J i σ → J i (σ ++ [.dead]))
  (hf:∀ i (h:i < l.length) σ,J i σ → aE Tryz.prog (.func (.func g) first caps) [ii' i,aj.v l[i]] σ fun r σ'=>r = .ret (ii' (f i l[i])) ∧ J (i + 1) σ') (σ:af) (h0:J 0 σ) :
  Spec Tryz.prog Km [.slice 5 (l.map aj.v), .func (.func g) first caps] σ fun r σ'=>r = .ret (.tup [ii' (aG f l 0).1,ii' (aG f l 0).2]) ∧ ∃ i,J i σ':=by
 refine T2 (by simp) (aa _ ?_);simp [RU];refine AW.loop (ι:=Nat) (fun i fr σ'=>fr = { v:=[(1, .func (.func g) first caps),(8, .slice 5 (l.map aj.v)),(9, .int .i64 l.length),(10, .int .i64 i)],ds:=[] } ∧ J i σ' ∧ i ≤ l.length ∧ aG f l 0 = aG f (l.drop i) i) (fun i=>l.length - i) 0 ⟨by simp,h0,by omega,by simp⟩ ?_;rintro i fr σ' ⟨rfl,hJ,hi,hp⟩;refine (Nat.lt_or_ge i l.length).elim (fun hlt=>?_) (fun hge=>?_)
 ·have hd:l.drop i = l[i] :: l.drop (i + 1):=List.drop_eq_getElem_cons hlt;rw [hd] at hp;simp only [aG] at hp;have hc:=hf i hlt (σ' ++ [.dead]) (hm _ _ hJ);obtain ⟨x,hx⟩:=zqq (l[i]);rw [hx] at hp hc;have hw:=oE hlt hl;simp only [aj.v,aj.cells,ii'] at hc;by_cases he:f i x = 0
  ·rw [he] at hc;rw [if_neg (by simp [he])] at hp;refine aa _ ?_;simp [hlt,hx,aj.v,aj.cells];refine ah.bf hc ?_;rintro r σ1 ⟨rfl,hJ1⟩;refine ⟨_,rfl, ?_⟩;simp [hw];exact ⟨i + 1,by omega,by simp,hJ1,by omega,hp⟩
  ·rw [if_pos he] at hp;refine aa _ ?_;simp [hlt,hx,aj.v,aj.cells];refine ah.bf hc ?_;rintro r σ1 ⟨rfl,hJ1⟩;refine ⟨_,rfl, ?_⟩;simp [he,hp];exact ⟨_,hJ1⟩
 ·have hz:l.drop i = []:=List.drop_eq_nil_of_le hge;rw [hz] at hp;refine aa _ ?_;simp [show ¬ i < l.length by omega,hp,aG];exact ⟨_,hJ⟩
theorem jO (g:FuncId) (first caps:List ag) (hp:aH first = true) (hp2:aH caps = true) (l:List aj) (f:Nat → aj → Int) (hl:l.length ≤ maxLen)
  (hf:∀ i (h:i < l.length),oO Tryz.prog (.func (.func g) first caps) [ii' i,aj.v l[i]] (ii' (f i l[i]))) (σ:af) :
  Spec Tryz.prog Km [.slice 5 (l.map aj.v), .func (.func g) first caps] σ fun r σ'=>r = .ret (.tup [ii' (aG f l 0).1,ii' (aG f l 0).2]) ∧ σ' = σ:=
 Spec.aF ((jZ g first caps l f hl (fun _ _=>True) (fun _ _ h=>h) (fun i h σ _=>(hf i h σ).mono fun r σ' hq=>⟨hq.1,trivial⟩) [] trivial).mono fun r σ' h=>h.1) (by simp [hp,hp2,aD (f:=aj.v) (fun c=>c.pure) l]) (by simp [ag.pure,aH]) σ
theorem rp (l:List ByteArray) (hl:l.length ≤ maxLen) (i:Nat) (hi:i < l.length) (s:ByteArray) (σ:af) :
  Spec Tryz.prog ES [ii' i, .str s, .pval (.slice 1 (l.map .str))] σ fun r σ'=>r = .ret (ii' (gp aQ l i s)) ∧ σ' = σ:=by
 refine Spec.aF (O7 (by simp) ?_) (by simp [aH,ag.pure,aD (f:=ag.str) (fun _=>rfl)]) rfl σ;have he:((l.take i).any fun y=>s.toList == y.toList) = (l.take i).any fun t=>decide (t = s):=by
  congr 1; funext y; rw [nmd,Bool.eq_iff_iff]; simp [eq_comm]
 have hc:=fun σ=>lL (l.take i) s (by rw [List.length_take]; omega) σ;rw [he] at hc;have hn:=xU s;have hmin:min i l.length = i:=by omega
 unfold gp;rcases tf (aQ s) with h1 | h1
 ·rw [h1] at hn;refine aa _ ?_;simp [E4,h1];refine ah.pure Ig (hn _) ?_;simp
 ·rw [h1] at hn;rcases tf ((l.take i).any fun t=>decide (t = s)) with h2 | h2
  ·rw [h2] at hc;simp only [List.map_take] at hc;refine aa _ ?_;simp [E4,h1];refine ah.pure Ig (hn _) ?_;simp;refine ⟨by omega, ?_⟩;refine ah.pure LL (hc _) ?_;simp [h2]
  ·rw [h2] at hc;simp only [List.map_take] at hc;refine aa _ ?_;simp [E4,h1];refine ah.pure Ig (hn _) ?_;simp;refine ⟨by omega, ?_⟩;refine ah.pure LL (hc _) ?_;simp [h2]
theorem lN (l:List ByteArray) (hl:l.length ≤ maxLen) (σ:af) :
  Spec Tryz.prog NR [.slice 1 (l.map .str)] σ fun r σ'=>r = .ret (.tup [ii' (aG (gp aQ l) l 0).1,ii' (aG (gp aQ l) l 0).2]) ∧ σ' = σ:=by
 refine Spec.aF (T1 (by simp) (aa _ ?_)) (by simp [aH,ag.pure,aD (f:=ag.str) (fun _=>rfl)]) (by simp [ag.pure,aH]) σ;have hf:=fun σ=>me ES [] [.pval (.slice 1 (l.map .str))] rfl (by simp [aH,ag.pure,aD (f:=ag.str) (fun _=>rfl)]) l (gp aQ l) hl (fun i h=>oO.fn RF fun σ=>rp l hl i h l[i] σ) σ;simp [Q5];refine ah.pure Oj (hf _) ?_;simp
/-! ### counts -/
def dV (a b:Int):ag:=.agg [ii' a,ii' b]
def yh (L:List ay) (a b:Int):Nat:=L.countP fun c=>decide (c.kind = a) && decide (c.place = b)
theorem IL {L:List ay} {a b:Int}:yh L a b = 0 ↔ (L.any fun c=>decide (c.kind = a) && decide (c.place = b)) = false:=by
 unfold yh;rw [List.countP_eq_zero,List.any_eq_false]
structure uH (es:List (ag × ag)) (L:List ay):Prop where
 keys:∀ e ∈ es, ∃ a b,e.1 = dV a b
 get:∀ a b,b9 (dV a b) es = if yh L a b = 0 then none else some (ii' (yh L a b))
theorem mI {a b c d:Int}:gH (dV a b) (dV c d) = (decide (a = c) && decide (b = d)):=by
 simp only [dV,gH];rw [Bool.eq_iff_iff]; simp
theorem uH.ok {es:List (ag × ag)} (h:∀ e ∈ es, ∃ a b,e.1 = dV a b) (a b:Int):gr (dV a b) es = true:=by
 induction es with
 | nil=>rfl
 | cons e r ih=>
  obtain ⟨c,d,hc⟩:=h e (by simp);simp only [gr,Bool.and_eq_true];exact ⟨by rw [hc]; rfl,ih fun x hx=>h x (by simp [hx])⟩
theorem xN {a b c d:Int} {v:ag}:∀ {es:List (ag × ag)},(∀ e ∈ es, ∃ a b,e.1 = dV a b) → b9 (dV c d) (bL (dV a b) v es) = if c = a ∧ d = b then some v else b9 (dV c d) es
 | [],_=>by
  simp only [bL,b9,mI];by_cases h:c = a ∧ d = b
  ·simp [h]
  ·rw [if_neg h,if_neg (by simpa using h)]
 | e :: r,h=>by
  obtain ⟨x,y,hx⟩:=h e (by simp);have ih:=xN (c:=c) (d:=d) (a:=a) (b:=b) (v:=v) (es:=r) fun z hz=>h z (by simp [hz]);simp only [bL,b9,hx,mI];by_cases h1:a = x ∧ b = y
  ·obtain ⟨rfl,rfl⟩:=h1;simp only [decide_true,Bool.and_self,if_true,b9,mI];by_cases h2:c = a ∧ d = b
   ·simp [h2]
   ·rw [if_neg h2,if_neg (by simpa using h2),if_neg (by simpa using h2)]
  ·rw [if_neg (by simpa using h1)];simp only [b9,hx,mI,ih];by_cases h2:c = x ∧ d = y
   ·obtain ⟨rfl,rfl⟩:=h2;simp;intro e1 e2; exact absurd ⟨e1.symm,e2.symm⟩ h1
   ·have hb:(decide (c = x) && decide (d = y)) = false:=by rw [Bool.eq_false_iff]; simpa using h2
    simp only [hb,Bool.false_eq_true,if_false]
theorem ue {a b:Int} {v:ag}:∀ {es:List (ag × ag)},(∀ e ∈ es, ∃ a b,e.1 = dV a b) → ∀ e ∈ bL (dV a b) v es, ∃ a b,e.1 = dV a b
 | [],_,e,he=>by simp [bL] at he; exact ⟨a,b,by rw [he]⟩
 | x :: r,h,e,he=>by
  simp only [bL] at he
  split at he
  ·rcases List.mem_cons.1 he with e1 | e1
   ·exact ⟨a,b,by rw [e1]⟩
   ·exact h e (by simp [e1])
  ·rcases List.mem_cons.1 he with e1 | e1
   ·exact h e (by simp [e1])
   ·exact ue (fun z hz=>h z (by simp [hz])) e e1
theorem vU {k u v:ag} (hk:gH k k = true):∀ (es:List (ag × ag)) (n:Nat),n ≤ dD k es n ∧ dD k es n - n < (bL k u es).length ∧
  (bL k u es).set (dD k es n - n) (((bL k u es).getD (dD k es n - n) (.undef, .undef)).1,v) = bL k v es
 | [],n=>by simp [dD,bL]
 | e :: r,n=>by
  obtain ⟨h1,h2,h3⟩:=vU hk r (n + 1);simp only [dD,bL];by_cases h:gH k e.1 = true
  ·rw [if_pos h,if_pos h,if_pos h]; simp
  ·rw [if_neg h,if_neg h,if_neg h];obtain ⟨m,hm⟩:=zqq (dD k r (n + 1) - (n + 1));rw [hm] at h2 h3;have e1:dD k r (n + 1) - n = m + 1:=by omega
   rw [e1];refine ⟨by omega,by simpa using h2, ?_⟩;simp only [List.set_cons_succ,List.getD_cons_succ];rw [h3]
theorem uH.next {es:List (ag × ag)} {L:List ay} (h:uH es L) (c:ay):uH (bL (dV c.kind c.place) (ii' ((yh L c.kind c.place:Int) + 1)) es) (L ++ [c]):=
 ⟨ue h.keys,fun a b=>by
  rw [xN h.keys,h.get];unfold yh;rw [List.countP_append,List.countP_singleton];by_cases e:a = c.kind ∧ b = c.place
  ·obtain ⟨rfl,rfl⟩:=e; simp
  ·rw [if_neg e];have:(decide (c.kind = a) && decide (c.place = b)) = false:=by
    rw [Bool.eq_false_iff]; simp; intro e1 e2; exact e ⟨e1.symm,e2.symm⟩
   simp [this]⟩
theorem yw (y:ab) (l:List ay) (hkl:y.kinds.length ≤ maxLen) (hpl:y.places.length ≤ maxLen) (hll:l.length ≤ maxLen) (i:Nat) (hi:i < l.length) (b:Nat) (es:List (ag × ag)) (hs:uH es (l.take i)) (σ:af) (hb:σ[b]? = some (.amap es)) :
  Spec Tryz.prog Fq [ii' i,(l[i]).v, .pval (.map b), .pval y.v] σ fun r σ'=>r = .ret (ii' (gN y l i l[i])) ∧ σ' = σ.set b (.amap (bL (dV (l[i]).kind (l[i]).place) (ii' ((yh (l.take i) (l[i]).kind (l[i]).place:Int) + 1)) es)):=by
 obtain ⟨c,hc⟩:=zqq (l[i]);rw [hc];obtain ⟨k,p,lo,hi'⟩:=c;obtain ⟨n,hn⟩:=zqq (yh (l.take i) k p);have hg:=hs.get k p;have hok:=uH.ok hs.keys k p;have htw:=fun u v=>vU (k:=dV k p) (u:=u) (v:=v) (by simp [dV,gH]) es 0;have hany:=IL (L:=l.take i) (a:=k) (b:=p);have hnl:n ≤ i:=by rw [← hn]; unfold yh; exact Nat.le_trans List.countP_le_length (by simp; omega)
 have hpk:∀ v,b9 (dV k p) (bL (dV k p) v es) = some v:=fun v=>by rw [xN hs.keys]; simp
 have hok2:∀ v,gr (dV k p) (bL (dV k p) v es) = true:=fun v=>uH.ok (ue hs.keys) k p;have hw:IntKind.i64.wrap ((n:Int) + 1) = (n:Int) + 1:=by simp only [maxLen] at hll; exact aq (by omega) (by omega)
 obtain ⟨hbl,hbe⟩:=List.getElem?_eq_some_iff.1 hb;simp only [hn] at hg hany ⊢;obtain ⟨j,hj⟩:=zqq (dD (dV k p) es 0);rw [hj] at htw;simp only [Nat.sub_zero,Nat.zero_le,true_and] at htw;have w1:IntKind.i64.wrap ((y.kinds.length:Int) - 1) = (y.kinds.length:Int) - 1:=by simp only [maxLen] at hkl; exact aq (by omega) (by omega)
 have w2:IntKind.i64.wrap ((y.places.length:Int) - 1) = (y.places.length:Int) - 1:=by simp only [maxLen] at hpl; exact aq (by omega) (by omega)
 have hb1:=fun σ=>cj 0 ((y.kinds.length:Int) - 1) k σ;have hb2:=fun σ=>cj 0 ((y.places.length:Int) - 1) p σ;have hb3:=fun σ=>rM 0 1000000 lo hi' σ;have hjl:=fun u=>(htw u u).1;have key:∀ (u v:ag) (h:j < (bL (dV k p) u es).length),(bL (dV k p) u es).set j (((bL (dV k p) u es)[j]).1,v) = bL (dV k p) v es:=fun u v h=>by
  have:=(htw u v).2; rwa [List.getD_eq_getElem?_getD,List.getElem?_eq_getElem h,Option.getD_some] at this
 have hw1:IntKind.i64.wrap 1 = 1:=rfl;have hgv:(b9 (dV k p) es = none ∧ n = 0) ∨ (b9 (dV k p) es = some (ii' n) ∧ n ≠ 0):=by
  rw [hg];by_cases h0:n = 0
  ·exact .inl ⟨if_pos h0,h0⟩
  ·exact .inr ⟨if_neg h0,h0⟩
 have hE:gN y l i ⟨k,p,lo,hi'⟩ = if (inI k 0 (y.kinds.length - 1)) = false ∨ (inI p 0 (y.places.length - 1)) = false then 4 else if n ≠ 0 then 5 else if (inI lo 0 1000000 && inI hi' 0 1000000) = false then 7 else if lo > hi' then 2 else 0:=by
  unfold gN;dsimp only;have e1:(((l.take i).any fun d=>decide (d.kind = k) && decide (d.place = p)) = true) ↔ n ≠ 0:=by
   rw [Ne,hany]; simp
  have e2:(inI lo 0 1000000 = false ∨ inI hi' 0 1000000 = false) ↔ (inI lo 0 1000000 && inI hi' 0 1000000) = false:=by
   rw [Bool.and_eq_false_iff]
  simp only [e1,e2]
 rw [hE];simp only [dV] at hok hok2 hpk key hjl hgv hj hb1 hb2 hb3 ⊢;clear hg hs hany htw hE;rcases hgv with ⟨hg,rfl⟩ | ⟨hg,hn0⟩
 ·rcases tf (inI k 0 ((y.kinds.length:Int) - 1)) with a1 | a1
  ·rw [a1] at hb1;refine uv (by simp) (aa _ ?_);simp [td,hbl,hbe,ay.v,ay.cells,ab.v,ab.cells,hg,hok,hok2,hpk,hj,key,hjl,w1,hw1];refine ah.pure cm (hb1 _) ?_;simp [hbl,hok2,hpk,w1,w2,a1]
  rw [a1] at hb1;rcases tf (inI p 0 ((y.places.length:Int) - 1)) with a2 | a2
  ·rw [a2] at hb2;refine uv (by simp) (aa _ ?_);simp [td,hbl,hbe,ay.v,ay.cells,ab.v,ab.cells,hg,hok,hok2,hpk,hj,key,hjl,w1,hw1];refine ah.pure cm (hb1 _) ?_;simp [hbl,w1,w2];refine ah.pure cm (hb2 _) ?_;simp [hbl,hok2,hpk,w1,w2,a1,a2]
  rw [a2] at hb2;rcases tf (inI lo 0 1000000 && inI hi' 0 1000000) with a3 | a3
  ·rw [a3] at hb3;rw [if_neg (by simp [a1,a2]),if_neg (by simp),if_pos a3];refine uv (by simp) (aa _ ?_);simp [td,hbl,hbe,ay.v,ay.cells,ab.v,ab.cells,hg,hok,hok2,hpk,hj,key,hjl,w1,hw1];refine ah.pure cm (hb1 _) ?_;simp [hbl,w1,w2];refine ah.pure cm (hb2 _) ?_;simp [hbl,hok2,hpk,w1,w2];refine ah.pure cm (hb3 _) ?_;simp
  ·rw [a3] at hb3;by_cases a5:hi' < lo
   ·rw [if_neg (by simp [a1,a2]),if_neg (by simp),if_neg (by simp [a3]),if_pos a5];refine uv (by simp) (aa _ ?_);simp [td,hbl,hbe,ay.v,ay.cells,ab.v,ab.cells,hg,hok,hok2,hpk,hj,key,hjl,w1,hw1];refine ah.pure cm (hb1 _) ?_;simp [hbl,w1,w2];refine ah.pure cm (hb2 _) ?_;simp [hbl,hok2,hpk,w1,w2];refine ah.pure cm (hb3 _) ?_;simp [hbl,hpk,w1,w2,a5]
   ·rw [if_neg (by simp [a1,a2]),if_neg (by simp),if_neg (by simp [a3]),if_neg a5];refine uv (by simp) (aa _ ?_);simp [td,hbl,hbe,ay.v,ay.cells,ab.v,ab.cells,hg,hok,hok2,hpk,hj,key,hjl,w1,hw1];refine ah.pure cm (hb1 _) ?_;simp [hbl,w1,w2];refine ah.pure cm (hb2 _) ?_;simp [hbl,hok2,hpk,w1,w2];refine ah.pure cm (hb3 _) ?_;simp [hbl,hpk,w1,w2,a5]
 ·have hn1:0 < n:=by omega
  rcases tf (inI k 0 ((y.kinds.length:Int) - 1)) with a1 | a1
  ·rw [a1] at hb1;refine uv (by simp) (aa _ ?_);simp [td,hbl,hbe,ay.v,ay.cells,ab.v,ab.cells,hg,hok,hok2,hpk,hj,key,hjl,w1,hw];refine ah.pure cm (hb1 _) ?_;simp [hbl,hok2,hpk,w1,w2,a1]
  rw [a1] at hb1;rcases tf (inI p 0 ((y.places.length:Int) - 1)) with a2 | a2
  ·rw [a2] at hb2;refine uv (by simp) (aa _ ?_);simp [td,hbl,hbe,ay.v,ay.cells,ab.v,ab.cells,hg,hok,hok2,hpk,hj,key,hjl,w1,hw];refine ah.pure cm (hb1 _) ?_;simp [hbl,w1,w2];refine ah.pure cm (hb2 _) ?_;simp [hbl,hok2,hpk,w1,w2,a1,a2]
  rw [a2] at hb2;rw [if_neg (by simp [a1,a2]),if_pos hn0];refine uv (by simp) (aa _ ?_);simp [td,hbl,hbe,ay.v,ay.cells,ab.v,ab.cells,hg,hok,hok2,hpk,hj,key,hjl,w1,hw];refine ah.pure cm (hb1 _) ?_;simp [hbl,w1,w2];refine ah.pure cm (hb2 _) ?_;simp [hbl,hok2,hpk,w1,w2];intro hx; omega
structure dv (y:ab):Prop where
 kinds:y.kinds.length ≤ maxLen
 places:y.places.length ≤ maxLen
 first:y.first.length ≤ maxLen
 papers:y.papers.length ≤ maxLen
 last:y.last.length ≤ maxLen
def dt (p:Int × Int):ag:=.tup [ii' p.1,ii' p.2]
theorem ll (y:ab) (hy:dv y) (l:List ay) (hl:l.length ≤ maxLen) (σ:af) :
  Spec Tryz.prog Nw [y.v, .slice 4 (l.map ay.v)] σ fun r σ'=>r = .ret (dt (aG (gN y l) l 0)) ∧ σ' = σ:=by
 refine Spec.aF (Si (by simp) (aa _ ?_)) (by simp [y.pure,aH,ag.pure,aD (f:=ay.v) (fun c=>c.pure)]) (by simp [dt,ag.pure,aH]) σ;have hf:=j4 Fq [] [.pval (.map 0), .pval y.v] l (gN y l) hl (fun i σ=>∃ es,uH es (l.take i) ∧ σ[0]? = some (.amap es))
  (fun i σ h=>by obtain ⟨es,h1,h2⟩:=h; exact ⟨es,h1,by rw [List.getElem?_append_left (List.getElem?_eq_some_iff.1 h2).1]; exact h2⟩)
  (fun i h σ hJ=>by
   obtain ⟨es,h1,h2⟩:=hJ;refine aE.func PW ((yw y l hy.kinds hy.places hl i h 0 es h1 σ h2).mono ?_);rintro r σ' ⟨rfl,rfl⟩
   exact ⟨rfl,_,(by rw [List.take_succ_eq_append_getElem h]; exact h1.next l[i]),by rw [List.getElem?_set_self (List.getElem?_eq_some_iff.1 h2).1]⟩) [.amap [], .dead] ⟨[],⟨by simp,fun a b=>by simp [b9,yh]⟩,rfl⟩
 simp only [ab.v,ab.cells] at hf ⊢;simp [QT];refine ah.spec Pl hf ?_;rintro r σ' ⟨rfl,_⟩;refine ⟨_,rfl, ?_⟩;simp [dt]
theorem tH (y:ab) (hy:dv y) (i:Nat) (_hi:i < y.papers.length) (p:aj) (σ:af) :
  Spec Tryz.prog KH [y.v,ii' i,p.v] σ fun r σ'=>r = .ret (ii' (mD y i p)) ∧ σ' = σ:=by
 refine Spec.aF (UR (by simp) ?_) (by simp [y.pure,aH,ag.pure,p.pure]) rfl σ;obtain ⟨k,s,d,n,c⟩:=p;have hk:=hy.kinds;have hp:=hy.places;have hm:=hy.papers;simp only [maxLen] at hk hp hm;have w1:IntKind.i64.wrap ((y.kinds.length:Int) - 1) = (y.kinds.length:Int) - 1:=aq (by omega) (by omega);have w2:IntKind.i64.wrap ((y.places.length:Int) - 1) = (y.places.length:Int) - 1:=aq (by omega) (by omega);have w3:IntKind.i64.wrap ((y.papers.length:Int) - 1) = (y.papers.length:Int) - 1:=aq (by omega) (by omega);have hb1:=fun σ=>cj 0 ((y.kinds.length:Int) - 1) k σ;have hb2:=fun σ=>rM (-1) ((y.places.length:Int) - 1) s d σ;have hb3:=fun σ=>cj 0 1000000 n σ;have hb4:=fun σ=>cj 0 ((y.papers.length:Int) - 1) c σ;unfold mD;dsimp only;rcases tf (inI k 0 ((y.kinds.length:Int) - 1)) with a1 | a1
 ·rw [a1] at hb1;rw [if_pos (.inl a1)];refine aa _ ?_;simp [yt,aj.v,aj.cells,ab.v,ab.cells,w1];refine ah.pure cm (hb1 _) ?_;simp [w1,w2]
 rw [a1] at hb1;rcases tf (inI s (-1) ((y.places.length:Int) - 1) && inI d (-1) ((y.places.length:Int) - 1)) with a2 | a2
 ·rw [a2] at hb2;rw [if_pos (.inr (Bool.and_eq_false_iff.1 a2))];refine aa _ ?_;simp [yt,aj.v,aj.cells,ab.v,ab.cells,w1];refine ah.pure cm (hb1 _) ?_;simp [w1,w2];refine ah.pure cm (hb2 _) ?_;simp [w1,w2]
 rw [a2] at hb2;rw [if_neg (by simp only [Bool.and_eq_true] at a2; simp [a1,a2])];by_cases a3:s = d
 ·rw [if_pos a3];refine aa _ ?_;simp [yt,aj.v,aj.cells,ab.v,ab.cells,w1];refine ah.pure cm (hb1 _) ?_;simp [w1,w2];refine ah.pure cm (hb2 _) ?_;simp [w1,w2,a3]
 rw [if_neg a3];rcases tf (inI n 0 1000000) with a4 | a4
 ·rw [a4] at hb3;rw [if_pos a4];refine aa _ ?_;simp [yt,aj.v,aj.cells,ab.v,ab.cells,w1];refine ah.pure cm (hb1 _) ?_;simp [w1,w2];refine ah.pure cm (hb2 _) ?_;simp [w1,w2,a3];refine ah.pure cm (hb3 _) ?_;simp [w1,w2,w3]
 rw [a4] at hb3;rw [if_neg (by simp [a4])];by_cases a5:c = -1
 ·rw [if_pos a5];refine aa _ ?_;simp [yt,aj.v,aj.cells,ab.v,ab.cells,w1];refine ah.pure cm (hb1 _) ?_;simp [w1,w2];refine ah.pure cm (hb2 _) ?_;simp [w1,w2,a3];refine ah.pure cm (hb3 _) ?_;simp [w1,w2,w3,a5]
 rw [if_neg a5];rcases tf (inI c 0 ((y.papers.length:Int) - 1)) with a6 | a6
 ·rw [a6] at hb4;rw [if_pos (.inl a6)];refine aa _ ?_;simp [yt,aj.v,aj.cells,ab.v,ab.cells,w1];refine ah.pure cm (hb1 _) ?_;simp [w1,w2];refine ah.pure cm (hb2 _) ?_;simp [w1,w2,a3];refine ah.pure cm (hb3 _) ?_;simp [w1,w2,w3,a5];refine ah.pure cm (hb4 _) ?_;simp [w1,w2,w3]
 rw [a6] at hb4;by_cases a7:c = i
 ·rw [if_pos (.inr a7)];refine aa _ ?_;simp [yt,aj.v,aj.cells,ab.v,ab.cells,w1];refine ah.pure cm (hb1 _) ?_;simp [w1,w2];refine ah.pure cm (hb2 _) ?_;simp [w1,w2,a3];refine ah.pure cm (hb3 _) ?_;simp [w1,w2,w3,a5];refine ah.pure cm (hb4 _) ?_;simp [w1,w2,w3,a7]
 rw [if_neg (by simp [a6,a7])];have hc:=bA.1.1 a6;obtain ⟨j,rfl⟩:∃ j:Nat,c = j:=⟨c.toNat,by omega⟩;have hj:j < y.papers.length:=by omega
 obtain ⟨q,hq⟩:=zqq (y.papers[j]);rw [Int.toNat_natCast,List.getElem?_eq_getElem hj,hq];dsimp only;obtain ⟨k',s',d',n',c'⟩:=q;dsimp only;by_cases a8:c' = i ∧ k' = k ∧ s' = s ∧ d' = d
 ·rw [if_pos a8];obtain ⟨rfl,rfl,rfl,rfl⟩:=a8;refine aa _ ?_;simp [yt,aj.v,aj.cells,ab.v,ab.cells,w1];refine ah.pure cm (hb1 _) ?_;simp [w1,w2];refine ah.pure cm (hb2 _) ?_;simp [w1,w2,a3];refine ah.pure cm (hb3 _) ?_;simp [w1,w2,w3,a5];refine ah.pure cm (hb4 _) ?_;simp [aj.v,aj.cells,w1,w2,w3,a7,hj,hq]
 ·rw [if_neg a8];refine aa _ ?_;simp [yt,aj.v,aj.cells,ab.v,ab.cells,w1];refine ah.pure cm (hb1 _) ?_;simp [w1,w2];refine ah.pure cm (hb2 _) ?_;simp [w1,w2,a3];refine ah.pure cm (hb3 _) ?_;simp [w1,w2,w3,a5];refine ah.pure cm (hb4 _) ?_;simp [aj.v,aj.cells,w1,w2,w3,a7,hj,hq];intro e1 e2 e3 e4;exact absurd ⟨e4,e1,e2,e3⟩ a8
/-! ### Check -/
theorem rE (y:ab) (hy:dv y) (σ:af):Spec Tryz.prog KT [.pval y.v] σ fun r σ'=>r = .ret (dt (aG (gp aQ y.kinds) y.kinds 0)) ∧ σ' = σ:=by
 refine Spec.aF (Sj (by simp) (aa _ ?_)) (by simp [y.pure,aH,ag.pure]) (by simp [dt,ag.pure,aH]) σ;simp [RE,ab.v,ab.cells];refine ah.pure Qz (lN _ hy.kinds _) ?_;simp [dt]
theorem rH (y:ab) (hy:dv y) (σ:af):Spec Tryz.prog Ka [.pval y.v] σ fun r σ'=>r = .ret (dt (aG (gp aQ y.places) y.places 0)) ∧ σ' = σ:=by
 refine Spec.aF (Sy (by simp) (aa _ ?_)) (by simp [y.pure,aH,ag.pure]) (by simp [dt,ag.pure,aH]) σ;simp [Rm,ab.v,ab.cells];refine ah.pure Qz (lN _ hy.places _) ?_;simp [dt]
theorem qR (y:ab) (hy:dv y) (σ:af):Spec Tryz.prog Kh [.pval y.v] σ fun r σ'=>r = .ret (dt (aG (gN y y.first) y.first 0)) ∧ σ' = σ:=by
 refine Spec.aF (Tr (by simp) (aa _ ?_)) (by simp [y.pure,aH,ag.pure]) (by simp [dt,ag.pure,aH]) σ;have hc:=ll y hy y.first hy.first
 simp only [ab.v,ab.cells] at hc;simp [Qx,ab.v,ab.cells];refine ah.pure O3 (hc _) ?_;simp [dt]
theorem rI (y:ab) (hy:dv y) (σ:af):Spec Tryz.prog JV [.pval y.v] σ fun r σ'=>r = .ret (dt (aG (gN y y.last) y.last 0)) ∧ σ' = σ:=by
 refine Spec.aF (Tu (by simp) (aa _ ?_)) (by simp [y.pure,aH,ag.pure]) (by simp [dt,ag.pure,aH]) σ;have hc:=ll y hy y.last hy.last;simp only [ab.v,ab.cells] at hc;simp [QM,ab.v,ab.cells];refine ah.pure O3 (hc _) ?_;simp [dt]
theorem qM (y:ab) (hy:dv y) (σ:af):Spec Tryz.prog Kb [.pval y.v] σ fun r σ'=>r = .ret (dt (aG (mD y) y.papers 0)) ∧ σ' = σ:=by
 refine Spec.aF (Ut (by simp) (aa _ ?_)) (by simp [y.pure,aH,ag.pure]) (by simp [dt,ag.pure,aH]) σ;have hc:=fun σ=>jO KH [y.v] [] (by simp [y.pure,aH]) rfl y.papers (mD y) hy.papers (fun i h=>oO.fn S7 fun σ=>tH y hy i h _ σ) σ;simp only [ab.v,ab.cells] at hc;simp [QW,ab.v,ab.cells];refine ah.pure Sw (hc _) ?_;simp [dt]
end Go.AM
namespace Go.Proofs.YtlmhkldmpggadaaGreatDoor
open Go.ChangeShapes Go.WideShapes Go.ChangeAt Go.RowKit Go.AM
theorem Tryz.own:ownKnob Tryz.prog.godebug = none:=by kernel_rfl
theorem Tryz.laidOut:laidOutB Tryz.prog = true:=by kernel_rfl
abbrev bT : List (String × DataW Unit) := [("math/bits.deBruijn32tab", Rows.laid_math_bits_deBruijn32tab), ("math/bits.deBruijn64tab", Rows.laid_math_bits_deBruijn64tab), ("internal/strconv.uint64pow10", Rows.laid_internal_strconv_uint64pow10), ("unicode/utf8.acceptRanges", Rows.laid_unicode_utf8_acceptRanges), ("strconv.ErrRange", Rows.laid_strconv_ErrRange), ("strconv.ErrSyntax", Rows.laid_strconv_ErrSyntax), ("unicode/utf8.first", Rows.laid_unicode_utf8_first)]
theorem Ur : Tryz.prog.globalNamed "internal/strconv.uint64pow10" = some 1 := by kernel_rfl
theorem To : Tryz.prog.globalNamed "strconv.ErrSyntax" = some 2 := by kernel_rfl
theorem Sv : Tryz.prog.globalNamed "strconv.ErrRange" = some 3 := by kernel_rfl
theorem SR:(Tryz.prog.globals[1]?).map (·.type) = some 260:=by kernel_rfl
theorem Um:(Tryz.prog.globals[2]?).map (·.type) = some 195:=by kernel_rfl
theorem Sz:(Tryz.prog.globals[3]?).map (·.type) = some 195:=by kernel_rfl
theorem Ov:Tryz.prog.underlying 260 = some (.array 20 225):=by kernel_rfl
theorem Pc:Tryz.prog.underlying 225 = some (.int .u64):=by kernel_rfl
theorem QH:Tryz.prog.cellsOf 225 = 1:=by kernel_rfl
theorem Rl : Tryz.prog.underlying 195 = some (.interface #[("Error", 115)]) := by kernel_rfl
theorem JA {H:Type} {enc:TypeId × Value → H} {P:Program} {W:World} {name:String} {g m fuel base:Nat} {e t:TypeId} {q:IntKind} {cs:Array Value} {ps:List MemPlace} {L:List (IntKind × Int)} {spare:Nat → Bool} {held:Bool}
  (hg:P.globalNamed name = some g) (hv:W.var? P name = some cs) (ht:P.underlying t = some (.array m e)) (he:P.underlying e = some (.int q)) (hce:P.cellsOf e = 1)
  (hd:DataW.trod enc P W base spare held fuel t cs.toList = some (.agg (L.map fun c=>.lit (.int c.1 c.2)),ps)):∀ j (h:j < L.length),W.cell? ⟨g,j,none⟩ = some (.int L[j].1 L[j].2):=by
 obtain ⟨xs,m1,rfl,hx,hlen,hn,hel⟩:=DataW.trod_array ht hd;simp only [Prod.mk.injEq,DataW.agg.injEq] at hx;obtain ⟨hx,_⟩:=hx;intro j hj;have hxl:L.length = xs.length:=by simpa using congrArg List.length hx
 have hjx:j < xs.length:=by omega
 have h0:=hel j (by omega);rw [hce,List.getElem?_eq_getElem hjx] at h0;obtain ⟨n,e1,e2,_⟩:=DataW.trod_int he h0;have hxj:=congrArg (fun l=>l[j]?) hx;simp only [List.getElem?_map,List.getElem?_eq_getElem hj,List.getElem?_eq_getElem hjx,Option.map_some,Option.some.injEq,e2,DataW.lit.injEq,Lit.int.injEq] at hxj;have hc:=World.var?_cell hg hv j;rw [hc];have e3:=congrArg (fun l=>l[0]?) e1;simp at e3;rw [e3,hxj.1,hxj.2]
theorem Iv {H:Type} {enc:TypeId × Value → H} {P:Program} {W:World} {name:String} {g m fuel base:Nat} {e t:TypeId} {cs:Array Value} {ps:List MemPlace} {L:List (IntKind × Int)} {spare:Nat → Bool} {held:Bool}
  (hg:P.globalNamed name = some g) (hv:W.var? P name = some cs) (ht:P.underlying t = some (.array m e)) (hct:P.cellsOf t = L.length)
  (hd:DataW.trod enc P W base spare held fuel t cs.toList = some (.agg (L.map fun c=>.lit (.int c.1 c.2)),ps)):g < W.heap.size ∧ W.cell? ⟨g,L.length,none⟩ = none:=by
 obtain ⟨xs,m1,rfl,hx,hlen,hn,hel⟩:=DataW.trod_array ht hd;have hc:=World.var?_cell hg hv L.length;refine ⟨?_, ?_⟩
 ·simp only [World.var?,hg,Option.bind_some] at hv;rcases Nat.lt_or_ge g W.heap.size with h' | h'
  ·exact h'
  ·rw [Array.getElem?_eq_none h'] at hv; simp at hv
 ·rw [hc];exact Array.getElem?_eq_none (by rw [hct] at hlen; simp at hlen; omega)
theorem vK {P:Program} {W:World} {name dn:String} {g fuel base:Nat} {t:TypeId} {m:Array (String × TypeId)} {cs:Array Value} {d:DataW Unit} {ps:List MemPlace} {spare:Nat → Bool}
  (hg:P.globalNamed name = some g) (hv:W.var? P name = some cs) (ht:P.underlying t = some (.interface m))
  (hd:DataW.trod (fun _=>()) P W base spare false fuel t cs.toList = some (.iface dn d,ps)):∃ te v,W.cell? ⟨g,0,none⟩ = some (.iface te v):=by
 have hc:=World.var?_cell hg hv 0;rw [hc]
 cases fuel with
 | zero=>simp [DataW.trod] at hd
 | succ fuel=>
  obtain ⟨cs⟩:=cs;simp only [DataW.trod,ht] at hd;rcases cs with _ | ⟨c,_ | ⟨c2,r⟩⟩
  ·simp at hd
  ·cases c <;> simp at hd;exact ⟨_,_,rfl⟩
  ·simp at hd
theorem Cl {W:World} (h:W.ShapedOpen Tryz.prog):∃ m,W.cell? ⟨0,0,none⟩ = some (.int .i64 m):=
 cell_of_shapedOpen_int (zero:=#[.int .i64 0]) (t:=3) h (of_decide_eq_true (by kernel_rfl)) (by kernel_rfl) rfl (by kernel_rfl) (by kernel_rfl) (by kernel_rfl)
theorem H6:(Rows.laid_internal_strconv_uint64pow10:DataW Unit) = .agg (xO.map fun c=>.lit (.int c.1 c.2)):=rfl
theorem ti {W:World} (h:laidMetH Tryz.prog bT W) (hs:W.ShapedOpen Tryz.prog):uP W:=by
 rw [MakeChecks.laidMetH_plain _ _ _ (by kernel_rfl)] at h;obtain ⟨ps,⟨_,_,_,_,_,_,_,_,_,_,⟨_,_,_,_,_,_,_,_,_,_,⟨g2,t2,cs2,f2,p2,q2,hg2,ht2,hv2,hd2,⟨_,_,_,_,_,_,_,_,_,_,⟨g4,t4,cs4,f4,p4,q4,hg4,ht4,hv4,hd4,⟨g5,t5,cs5,f5,p5,q5,hg5,ht5,hv5,hd5,_,_⟩,_⟩,_⟩,_⟩,_⟩,_⟩,_,_⟩:=h;obtain rfl:=Option.some.inj (Ur.symm.trans hg2);obtain rfl:=Option.some.inj (Sv.symm.trans hg4);obtain rfl:=Option.some.inj (To.symm.trans hg5);obtain rfl:=Option.some.inj (SR.symm.trans ht2);obtain rfl:=Option.some.inj (Sz.symm.trans ht4);obtain rfl:=Option.some.inj (Um.symm.trans ht5);rw [H6] at hd2;refine ⟨fun g cs hm=>?_,fun g k hm=>?_,fun g cs hm=>?_⟩
 ·simp only [ew,List.mem_cons,List.mem_nil_iff,or_false,Prod.mk.injEq] at hm;obtain ⟨rfl,rfl⟩:=hm;exact JA hg2 hv2 Ov Pc QH hd2
 ·simp only [gk,List.mem_cons,List.mem_nil_iff,or_false,Prod.mk.injEq] at hm;rcases hm with ⟨rfl,rfl⟩ | ⟨rfl,rfl⟩ | ⟨rfl,rfl⟩
  ·obtain ⟨m,hm⟩:=Cl hs;exact ⟨_,hm,m,rfl⟩
  ·obtain ⟨te,v,hc⟩:=vK hg5 hv5 Rl hd5;exact ⟨_,hc,te,v,rfl⟩
  ·obtain ⟨te,v,hc⟩:=vK hg4 hv4 Rl hd4;exact ⟨_,hc,te,v,rfl⟩
 ·simp only [ew,List.mem_cons,List.mem_nil_iff,or_false,Prod.mk.injEq] at hm;obtain ⟨rfl,rfl⟩:=hm;exact Iv hg2 hv2 Ov (by kernel_rfl) hd2
theorem vH (os:Os) (args:Array Value):laidMetH Tryz.prog bT ((World.laidAll Tryz.prog os bT).forCall (fun _ _=>0) ⟨#[],args,[]⟩).memory:=by
 rw [MakeChecks.laidMetH_plain _ _ _ (by kernel_rfl)];exact laidMet_laidAll _ (by kernel_rfl) (by kernel_rfl)
theorem mH (os:Os) (args:Array Value):((World.laidAll Tryz.prog os bT).forCall (fun _ _=>0) ⟨#[],args,[]⟩).Shaped Tryz.prog:=
 World.shaped_of_ZipB (by kernel_rfl) (by kernel_rfl)
theorem eD {H:Type} {enc:TypeId × Value → H} {a:Assume} {C:Checked} {os:Os} {f:FuncId} {fn:Func} {s:ChangeSpec} {conds:List PathCond} {apart fresh handsOn again:Bool} {X:World → Array Value → Prop}
  (hX:∀ (w w':World) (args:Array Value),w.heap = w'.heap → X w args → X w' args)
  (own:ownKnob C.prog.godebug = none) (started:os.Started) (noInit:C.prog.inits.idxOf? f = none) (hfn:C.prog.funcs[f]? = some fn)
  (witness:∃ (w:World) (tape:Tape) (i:Input),w.os = os ∧ (w.forCall tape i).Shaped C.prog ∧ i.vars = [] ∧ Input.okWide C.prog (w.forCall tape i) .any w.heap.size f i ∧
   ((s.pre enc C.prog fn conds apart (w.forCall tape i).memory i.args ∧ X (w.forCall tape i).memory i.args) ∧ sizedMet enc C.prog fn (OpenSpec.ofChange s) apart (w.forCall tape i).memory i.args) ∧ a.holds C.prog (lone (Frame.enter C.prog f i.args .normal) [] (w.forCall tape i)))
  (contract:∀ (W:World) (base:Nat) (args:Array Value) (ds gs:List (DataW H)) (before:List MemPlace),
   (∀ (j:Nat) t v,fn.params[j]? = some t → args[j]? = some v → Value.okWide C.prog W .any base t v) →
   DataW.Whole enc C.prog fn.params.toList s.vars apart W args.toList ds gs before →
   (DataW.weightsEach C.prog (fn.params.toList ++ s.plain.varTypes C.prog) (ds ++ gs)).all (· ≤ reachBytes) = true → X W args → W.ShapedOpen C.prog →
   Calls C.prog f args W fun e W'=>∃ v,e = .returned v ∧ s.post enc C.prog fn apart fresh handsOn again W args v W') :
  ReturnsInHanded a C os f .any (fun w args=>(s.pre enc C.prog fn conds apart w args ∧ X w args) ∧ sizedMet enc C.prog fn (OpenSpec.ofChange s) apart w args) (s.post enc C.prog fn apart fresh handsOn again):=by
 refine returnsInHanded_of_calls own started noInit witness ?_;intro w tape i _ hsh _ hok hpre _;obtain ⟨_,_,_,fn',hfn',_,_,_,_,hval⟩:=hok;have e:fn' = fn:=Option.some.inj (hfn'.symm.trans hfn);subst e;obtain ⟨⟨⟨ds,gs,before,hw,hc⟩,hx⟩,hz⟩:=hpre;have hw':=DataW.Whole.of_heap (w':=w.forCall tape i) (by rfl) hw;refine (contract (w.forCall tape i) w.heap.size i.args ds gs before hval hw' (hz.weights hw) (hX _ _ _ (by rfl) hx) hsh).mono fun e W' ⟨v,he,hp⟩=>?_;subst he;exact ChangeSpec.post_blind hp
theorem pI {P:Program} {f:FuncId} {fn:Func} {s:ChangeSpec} {c:OpenClaim}
  (hA:(laidOutB P && mapsRowed P && (P.stops == []) && (P.stopKnobs == []) && P.stopsHeard && P.mayEnter) = true)
  (h1:(c.inPlace == P.inPlace f) = true) (h2:(c.unfollowed == P.unfollowed f) = true) (h3:(c.recurses == P.recurses f) = true) (h4:(c.named == P.varsNamed f) = true)
  (hB:(c.wf (OpenSpec.ofChange s) && fn.params.all (P.readableRec ·) && namedTie P c.named s.vars && (c.stops == []) && (c.knobs == [])) = true)
  (hC:((c.maps == (fn.params.toList ++ s.plain.varTypes P).any (P.mapsRec ·)) && (c.ifaces == (fn.params.toList ++ s.plain.varTypes P).any (P.ifacesRec ·)) && (c.mapsOut == P.mapsAmong fn.resultTypes.toList) &&
   (c.loops == (fn.params.toList ++ s.plain.varTypes P).any (P.loopsFrom ·)) && (c.wideKeys == (fn.params.toList ++ s.plain.varTypes P ++ fn.resultTypes.toList).any (P.wideKeysFrom ·)) && s.vars.all (P.varReadable ·) &&
   fn.resultTypes.all (fun t=>P.readableRec t && decide (t < P.types.size)) && (c.ifacesOut == fn.resultTypes.toList.any (P.ifacesRec ·)) && (c.loopsOut == fn.resultTypes.toList.any (P.loopsFrom ·))) = true)
  (hD:((c.plainKeys == P.plainKeys) && c.shortTexts.isNone && (c.lifted == P.liftsFinal) && (P.make == some c.make) && (c.kinds == (if c.domain.isEmpty then [] else fn.params.toList.map fun t=>match P.underlying t with | some (.int k)=>some k | _=>none)) && (c.pinned == c.pinnedBy) &&
   (c.veiled == (fn.params.toList ++ s.plain.varTypes P ++ fn.resultTypes.toList).any (P.veiledRec ·)) && c.veiledFits P fn.params.toList (fn.params.toList ++ s.plain.varTypes P ++ fn.resultTypes.toList)) = true):joinedFacts P f fn s c = true:=by
 simp only [Bool.and_eq_true] at hA hB hC hD;obtain ⟨⟨⟨⟨⟨a1,a2⟩,a3⟩,a4⟩,a5⟩,a6⟩:=hA;obtain ⟨⟨⟨⟨b1,b2⟩,b3⟩,b4⟩,b5⟩:=hB;obtain ⟨⟨⟨⟨⟨⟨⟨⟨c1,c2⟩,c3⟩,c4⟩,c5⟩,c6⟩,c7⟩,c8⟩,c9⟩:=hC;obtain ⟨⟨⟨⟨⟨⟨⟨d1,d2⟩,d3⟩,d4⟩,d5⟩,d6⟩,d7⟩,d8⟩:=hD;simp only [joinedFacts,Bool.and_eq_true];exact ⟨⟨⟨⟨⟨⟨⟨⟨⟨⟨⟨⟨⟨⟨⟨⟨⟨⟨⟨⟨⟨⟨⟨⟨⟨⟨⟨⟨⟨⟨⟨b1,a1⟩,a2⟩,b2⟩,b3⟩,b4⟩,a3⟩,b5⟩,a4⟩,h1⟩,h2⟩,h3⟩,h4⟩,c1⟩,c2⟩,c3⟩,c4⟩,c5⟩,c6⟩,c7⟩,c8⟩,c9⟩,d1⟩,d2⟩,a5⟩,a6⟩,d3⟩,d4⟩,d5⟩,d6⟩,d7⟩,d8⟩
theorem Tryz.alone:(laidOutB Tryz.prog && mapsRowed Tryz.prog && (Tryz.prog.stops == []) && (Tryz.prog.stopKnobs == []) && Tryz.prog.stopsHeard && Tryz.prog.mayEnter) = true:=by kernel_rfl
end Go.Proofs.YtlmhkldmpggadaaGreatDoor
