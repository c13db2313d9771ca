/- A number of the range in the place of a paper's: the yard closes; another one: it does not. Plain. Chapter 09: WasteRound, by contracts. Chapter 09: WasteReached, by contracts. -/
import Derived.Test.YtlmhkldmpggadaaGreatDoorP19
import Derived.Test.YtlmhkldmpggadaaGreatDoorP31
namespace Go.AM
def oi (y:ab) (i:Nat):Int:=match y.papers[i]? with
 | none=>-1
 | some p=>p.copy
theorem jf {nm:ByteArray → Bool} {y:ab} (h:bV nm y) {j:Nat} (hj:j < y.papers.length):y.papers[j].copy = -1 ∨ ∃ c:Nat,y.papers[j].copy = c ∧ c < y.papers.length ∧ c ≠ j ∧ ∃ hc:c < y.papers.length,y.papers[c].copy = j ∧ y.papers[c].kind = y.papers[j].kind:=by
 rcases (h.papers j hj).copy with hc | ⟨c1,c2,c3,q,hq,c4,c5,_⟩
 ·exact .inl hc
 ·obtain ⟨hcl,hcq⟩:=List.getElem?_eq_some_iff.1 hq;exact .inr ⟨y.papers[j].copy.toNat,by omega,hcl,by omega,hcl,by rw [hcq]; exact c4,by rw [hcq]; exact c5⟩
theorem Au {nm:ByteArray → Bool} {y:ab} (h:bV nm y) {i:Nat} (hi:i < y.papers.length) {all but:List Nat} (h1:i ∈ all) (h2:∀ c:Nat,oi y i = c → c ∈ all) (hb:∀ j,j ∈ but ↔ j ∈ all ∧ j ≠ i)
  (hc:aL y all = true) {lo hi':Int} (hr:lD y all i lo hi') {n:Int} (hn:Big n):aL (aT y i n) but = true ↔ lo ≤ n ∧ n ≤ hi':=by
 have hz:=sD h i hn;obtain ⟨ht,hf⟩:=(fS h all).1 hc;have hoi:oi y i = y.papers[i].copy:=by unfold oi; rw [List.getElem?_eq_getElem hi]
 rw [hoi] at h2;have hkI:aB y i = y.papers[i].kind:=by unfold aB; rw [List.getElem?_eq_getElem hi]
 have hki:=(h.papers i hi).kind
 -- what is allowed for other journeys
 have hall:∀ j (hj:j < y.papers.length),j ≠ i → y.papers[j].copy ≠ i → aY (aT y i n) but y.papers[j] j = aY y all y.papers[j] j:=by
  intro j hj hji hcj;have m1:j ∈ but ↔ j ∈ all:=by rw [hb]; exact ⟨fun e=>e.1,fun e=>⟨e,hji⟩⟩
  rcases jf h hj with hc | ⟨c,hc,_,hcne,_⟩
  ·rw [ju (by omega),ju (by omega)]; simp only [m1]
  ·have hci:c ≠ i:=fun e=>hcj (by rw [hc,e]);have m2:c ∈ but ↔ c ∈ all:=by rw [hb]; exact ⟨fun e=>e.1,fun e=>⟨e,hci⟩⟩
   have k1:=sC (y:=y) (n:=n) hji;have k2:=sC (y:=y) (n:=n) hci;unfold aY;rw [if_neg (by omega:¬ y.papers[j].copy < 0),if_neg (by omega:¬ y.papers[j].copy < 0)];have e3:y.papers[j].copy.toNat = c:=by omega
   rw [e3];rcases Nat.lt_or_ge j c with hlt | hge
   ·rw [show min j c = j by omega,show max j c = c by omega]; simp only [m1,m2,k1,k2]
   ·rw [show min j c = c by omega,show max j c = j by omega]; simp only [m1,m2,k1,k2]
 have hni:i ∉ but:=fun e=>((hb i).1 e).2 rfl;have hgz:∀ j (hj:j < y.papers.length) (hj2:j < (aT y i n).papers.length),(aT y i n).papers[j] = if j = i then Ak y.papers[j] n else y.papers[j]:=fun j hj hj2=>by
  have:=jB (i:=i) (n:=n) hj;rw [List.getElem?_eq_getElem hj2] at this;exact Option.some.inj this
 have hfield:∀ j (hj:j < y.papers.length) (hj2:j < (aT y i n).papers.length),(aT y i n).papers[j].kind = y.papers[j].kind ∧ (aT y i n).papers[j].src = y.papers[j].src ∧ (aT y i n).papers[j].dst = y.papers[j].dst ∧ (aT y i n).papers[j].copy = y.papers[j].copy:=fun j hj hj2=>by
  rw [hgz j hj hj2]; split <;> exact ⟨rfl,rfl,rfl,rfl⟩
 -- no copies differ
 have hd : ∀ j,j < y.papers.length → bH (aT y i n) but j = false := by
  intro j hj;have hdj:=ht j hj;unfold bH at hdj ⊢;rw [jB hj];rw [List.getElem?_eq_getElem hj] at hdj;dsimp only at hdj ⊢;by_cases hji:j = i
  ·subst hji;rw [if_pos rfl];show (decide ((j:Int) < y.papers[j].copy) && !fq but j && !fq but y.papers[j].copy.toNat && _) = false;rcases jf h hj with hc | ⟨c,hc,_,hcne,_⟩
   ·rw [hc,decide_eq_false (by omega)]; rfl
   ·have:fq but y.papers[j].copy.toNat = true:=dF.2 ((hb _).2 ⟨h2 _ (by omega),by omega⟩);rw [this]; simp
  ·rw [if_neg hji];rcases jf h hj with hc | ⟨c,hc,_,hcne,_⟩
   ·rw [hc,decide_eq_false (by omega)]; rfl
   ·have e3:y.papers[j].copy.toNat = c:=by omega
    rw [e3] at hdj ⊢;have m1:fq but j = fq all j:=by rw [Bool.eq_iff_iff,dF,dF,hb]; exact ⟨fun e=>e.1,fun e=>⟨e,hji⟩⟩
    by_cases hci:c = i
    ·subst hci;have hjo:y.papers[c].copy = j:=by
      rcases jf h hj with e | ⟨c',e,_,_,hcl,e2,_⟩
      ·omega
      ·have:c' = c:=by omega
       subst this; exact e2
     have:fq but j = true:=dF.2 ((hb _).2 ⟨h2 j hjo,hji⟩);rw [this]; simp
    ·have m2:fq but c = fq all c:=by rw [Bool.eq_iff_iff,dF,dF,hb]; exact ⟨fun e=>e.1,fun e=>⟨e,hci⟩⟩
     rw [m1,m2,sC hci]; exact hdj
 -- other kinds
 have hother:∀ k:Int,k ≠ aB y i → bh (aT y i n) but k = bh y all k:=by
  intro k hk;refine rY _ _ 0 (lY y i n) fun j h3 h4=>⟨hfield j h4 h3,fun hkj _=>?_⟩;rw [(hfield j h4 h3).1] at hkj;have hji:j ≠ i:=fun e=>by subst e; rw [hkI] at hk; exact hk hkj.symm
  rw [Nat.zero_add,hgz j h4 h3,if_neg hji];refine hall j h4 hji fun e=>?_;rcases jf h h4 with e2 | ⟨c,e2,_,_,hcl,_,e3⟩
  ·omega
  ·have:c = i:=by omega
   subst this; rw [hkI,e3] at hk; exact hk hkj.symm
 -- this kind
 obtain ⟨hld,l1,l2,l3,_⟩:=ke h hi;have hthis:bh (aT y i n) but (aB y i) = (bh y all (aB y i)).modify (dW (aB y i) y.papers 0 (aV y i)) fun j=>⟨j.src,j.dst,n,n⟩:=by
  have e1 : bh (aT y i n) but (aB y i) = dy (fun p j => if j = aV y i then (n,n) else aY y all p j) (aB y i) y.papers 0 := by
   refine rY _ _ 0 (lY y i n) fun j h3 h4=>⟨hfield j h4 h3,fun hkj hlj=>?_⟩;rw [Nat.zero_add] at hlj ⊢;have hlj':ba y.papers[j] j = true:=by
    have:=(hfield j h4 h3).2.2.2;unfold ba at hlj ⊢;rw [this] at hlj; exact hlj
   by_cases hjl:j = aV y i
   ·rw [if_pos hjl];rcases l3 with e | ⟨e1,e2⟩
    ·have hji:j = i:=by omega
     subst hji;rw [hgz j h4 h3,if_pos rfl];rcases jf h h4 with hc | ⟨c,hc,_,hcne,_⟩
     ·rw [ju (show (Ak y.papers[j] n).copy < 0 by show y.papers[j].copy < 0; omega),if_neg hni]; rfl
     ·have hlt:j < c:=by
       unfold ba at hlj';rw [hc] at hlj';simp at hlj'; omega
      rw [jr (c:=c) (show (Ak y.papers[j] n).copy = c from hc) hlt,if_pos hni,nx h4]
    ·rw [← hjl] at e2;have e1:y.papers[j].copy = i:=by simp only [← hjl] at e1; exact e1
     have hlt:j < i:=by
      unfold ba at hlj';rw [e1] at hlj';simp at hlj'; omega
     rw [hgz j h4 h3,if_neg (by omega),jr (c:=i) e1 hlt,if_neg (by simp; exact (hb j).2 ⟨h2 j e2,by omega⟩),if_pos hni,nx hi]
   ·rw [if_neg hjl];have hji:j ≠ i:=fun e=>by
     subst e;rcases l3 with e | ⟨e1,e2⟩
     ·exact hjl e.symm
     ·have hlt2:aV y j < j:=by
       unfold ba at l1;rw [e1] at l1;simp at l1; omega
      unfold ba at hlj';rw [e2] at hlj';simp at hlj'; omega
    rw [hgz j h4 h3,if_neg hji];refine hall j h4 hji fun e=>hjl ?_;rcases l3 with e1 | ⟨e1,e2⟩
    ·-- i leads, and so does j, its copy
     rcases jf h h4 with e2 | ⟨c,e2,_,hcne,hcl,e3,_⟩
     ·omega
     ·have:c = i:=by omega
      subst this;have a1:ba y.papers[c] c = true:=by simp only [e1] at l1; exact l1
      unfold ba at a1 hlj';rw [e3] at a1;rw [e2] at hlj';simp at a1 hlj'; omega
    ·rcases jf h h4 with e3 | ⟨c,e3,_,hcne,hcl,e4,_⟩
     ·omega
     ·have:c = i:=by omega
      subst this;omega
  rw [e1];refine Am y.papers 0 (aV y i) (Nat.zero_le _) (by omega) (by simpa using l2) (by simpa using l1) fun j hj _ _=>?_;rw [Nat.zero_add]
 have hw:=sw h hi all (-ar) ar;have hget:(aU y (aB y i) y.places.length (bh y all (aB y i)) (-ar) ar)[e7 y i]? = some (cq y.places.length ((bh y all (aB y i))[dW (aB y i) y.papers 0 (aV y i)]'hw.2)):=mE hw.2;have hflow:xD (aT y i n) but (aB y i) ↔ lo ≤ n ∧ n ≤ hi':=by
  have e1:aU (aT y i n) (aB y i) (aT y i n).places.length (bh (aT y i n) but (aB y i)) (-ar) ar = gy (aU y (aB y i) y.places.length (bh y all (aB y i)) (-ar) ar) (e7 y i) n n:=by
   rw [hthis];have e2:∀ js,aU (aT y i n) (aB y i) (aT y i n).places.length js (-ar) ar = aU y (aB y i) y.places.length js (-ar) ar:=fun js=>by
    have e3:∀ m,bS (aT y i n) (aB y i) y.places.length m = bS y (aB y i) y.places.length m:=by
     intro m
     induction m with
     | zero=>rfl
     | succ m ih=>simp only [bS,ih]; rfl
    unfold aU;show bS (aT y i n) (aB y i) y.places.length y.places.length ++ _ ++ _ = _;rw [e3]; rfl
   rw [e2,xL hw.2]; rfl
  unfold xD;rw [e1];have hbd:(aU y (aB y i) y.places.length (bh y all (aB y i)) (-ar) ar)[e7 y i]'hw.1 = cq y.places.length ((bh y all (aB y i))[dW (aB y i) y.papers 0 (aV y i)]'hw.2):=by
   rw [List.getElem?_eq_getElem hw.1] at hget; exact Option.some.inj hget
  have hwide:(bh y all (aB y i))[dW (aB y i) y.papers 0 (aV y i)]'hw.2 = ⟨y.papers[aV y i].src,y.papers[aV y i].dst,0,1000000⟩:=by
   have h5:=zc (al:=aY y all) y.papers 0 (aV y i) (Nat.zero_le _) (by omega) (by simpa using l2) (by simpa using l1);have h6:(bh y all (aB y i))[dW (aB y i) y.papers 0 (aV y i)]? = some ((bh y all (aB y i))[dW (aB y i) y.papers 0 (aV y i)]'hw.2):=List.getElem?_eq_getElem hw.2;unfold bh at h6 ⊢;rw [h5] at h6;rw [← Option.some.inj h6];simp only [Nat.sub_zero];have ha : aY y all y.papers[aV y i] (aV y i) = (0,1000000) := by
    rcases l3 with e | ⟨e1,e2⟩
    ·simp only [e];rcases jf h hi with hc | ⟨c,hc,_,hcne,_⟩
     ·rw [ju (by omega),if_pos h1]
     ·have hlt:i < c:=by
       simp only [e] at l1;unfold ba at l1;rw [hc] at l1;simp at l1; omega
      rw [jr hc hlt,if_neg (by simpa using h1),if_neg (by simpa using h2 c hc)]
    ·have hlt:aV y i < i:=by
      unfold ba at l1;rw [e1] at l1;simp at l1; omega
     rw [jr (c:=i) e1 hlt,if_neg (by simpa using h2 _ e2),if_neg (by simpa using h1)]
   rw [ha]
  constructor
  ·rintro ⟨f,hf⟩;have hf':=(dU hw.1 (by rw [hbd,hwide]; exact hn.1) (by rw [hbd,hwide]; exact hn.2) f).1 hf;have:=hr.all f hf'.1;omega
  ·rintro ⟨g1,g2⟩;have hok:=ub h.ok (aB y i) (nD h all (aB y i)).1 (lo:=-ar) (hi:=ar) (by simp [ar]);obtain ⟨f,hf,e⟩:=hr.mid hok hw.1 g1 g2;exact ⟨f,(dU hw.1 (by rw [hbd,hwide]; exact hn.1) (by rw [hbd,hwide]; exact hn.2) f).2 ⟨hf,by omega,by omega⟩⟩
 rw [fS hz];constructor
 ·rintro ⟨_,g⟩;have hkn:((aB y i).toNat:Int) = aB y i:=by rw [hkI]; omega
  have:=g (aB y i).toNat (by show _ < y.kinds.length; omega);rw [hkn] at this;exact hflow.1 this
 ·intro g;refine ⟨fun j hj=>hd j (by rwa [lY] at hj),fun k hk=>?_⟩;by_cases e:(k:Int) = aB y i
  ·rw [e]; exact hflow.2 g
  ·obtain ⟨f,hf⟩:=hf k hk;refine ⟨f, ?_⟩;rw [hother k e];have e2:∀ js,aU (aT y i n) k (aT y i n).places.length js (-ar) ar = aU y k y.places.length js (-ar) ar:=fun js=>by
    have e3:∀ m,bS (aT y i n) k y.places.length m = bS y k y.places.length m:=by
     intro m
     induction m with
     | zero=>rfl
     | succ m ih=>simp only [bS,ih]; rfl
    unfold aU;show bS (aT y i n) k y.places.length y.places.length ++ _ ++ _ = _;rw [e3]; rfl
   rw [e2]; exact hf
open Go.Proofs
set_option maxRecDepth 100000
set_option maxHeartbeats 1000000
theorem HH {y:ab} (h:bV aR y):dw y:=by
 have h1:=h.k4;have h2:=h.p4;have h3:=h.m10;have h4:=h.f8;have h5:=h.l8;refine ⟨?_, ?_, ?_, ?_, ?_⟩ <;> simp only [maxLen] <;> omega
set_option maxHeartbeats 4000000
def jL (w:List Int) (i:Nat) (c:Int) (k:Nat):Bool:=((w.any fun z=>decide (z = (k:Int))) || decide (k = i)) || decide ((k:Int) = c)
def sH (w:List Int) (i:Nat) (c:Int) (k:Nat):Bool:=jL w i c k && decide (k ≠ i)
theorem Bl (n:Nat) (h:n ≤ 4294967295):IntKind.i64.wrap (n:Int) = n:=aw (by omega) (by omega)
theorem qG (y:ab) (hy:dw y) (w:List Int) (hwl:w.length ≤ maxLen) (x0 x1:Nat) (h0x:x0 ≤ 4294967295) (h1x:x1 ≤ 4294967295) (σ:af) :
  Spec Tryz.prog MY [y.v, .slice 1 (w.map ii'), .agg [.int .u32 x0, .int .u32 x1]] σ fun r σ'=>r = .ret (.bool true) ∧ σ' = σ:=by
 refine Spec.aI (QG (by simp) ?_) (by simp [y.pure,aG,ag.pure,aC (f:=ii') (fun _=>rfl)]) rfl σ;have hwr:=fun σ=>gg y hy w hwl σ;refine (Classical.em (cd y w = 0 ∧ y.papers.length ≠ 0)).elim (fun hom=>?_) (fun hom=>?_);rotate_left
 ·have hr0:=fun σ=>dT y hy w hwl 0 σ;have hbal:fu y w (dR y 0) ≠ 0:=by
   unfold fu;by_cases h0:cd y w = 0
   ·have hm0:y.papers.length = 0:=by
     rcases Nat.eq_zero_or_pos y.papers.length with h | h
     ·exact h
     ·exact absurd ⟨h0,by omega⟩ hom
    have ek:dR y 0 = -1:=by unfold dR; rw [if_neg]; rw [hm0]; decide
    rw [if_neg (by simp [h0]),ek,if_pos (by decide)]; decide
   ·rw [if_pos h0]; exact h0
  obtain ⟨bal,hbl⟩:∃ b,fu y w (dR y 0) = b:=⟨_,rfl⟩;rw [hbl] at hbal
  have hr1:∀ σ,Spec Tryz.prog zy [y.v, .slice 1 (w.map ii'),ii' 0] σ fun r σ'=>r = .ret (.tup [.agg [ii' 0,ii' 0],ii' bal]) ∧ σ' = σ:=fun σ=>(hr0 σ).mono (by
   rintro r σ' ⟨⟨lo,hi,rfl,h1,_⟩,rfl⟩;rw [hbl] at h1;obtain ⟨rfl,rfl⟩:=h1 hbal;rw [hbl]
   exact ⟨rfl,rfl⟩)
  by_cases h0:cd y w = 0
  ·have hm0:y.papers.length = 0:=by
    rcases Nat.eq_zero_or_pos y.papers.length with h | h
    ·exact h
    ·exact absurd ⟨h0,by omega⟩ hom
   rw [h0] at hwr;simp only [ab.v,ab.cells] at hwr hr1;refine aa _ ?_;simp [Hy,ab.v,ab.cells];refine ah.pure mB (hwr _) ?_;simp [hm0];refine ah.pure Eu (hr1 _) ?_;simp [hbal];refine ah.pure Ep (hO _) ?_;simp [hbal]
  ·obtain ⟨e,he⟩:=zqq (cd y w);rw [he] at hwr h0;simp only [ab.v,ab.cells] at hwr hr1;refine aa _ ?_;simp [Hy,ab.v,ab.cells];refine ah.pure mB (hwr _) ?_;simp [h0];refine ah.pure Eu (hr1 _) ?_;simp [hbal];refine ah.pure Ep (hO _) ?_;simp [hbal]
 obtain ⟨h0,hm0⟩:=hom;have hw:=(cw y w).1 h0;have hv:=hw.valid;have hm10:=hv.m10;rw [h0] at hwr;obtain ⟨m,hm⟩:=zqq y.papers.length;have hmm:0 < m:=by omega
 have hmN:¬ m = 0:=by omega
 have hmI:¬ (m:Int) = 0:=by omega
 have r0:((x0:Int).tmod m) = ((x0 % m:Nat):Int):=rfl;have l0:=Nat.mod_lt x0 hmm;obtain ⟨i,hi⟩:=zqq (x0 % m);rw [hi] at r0 l0;have cv0:=Bl x0 h0x;have cv1:=Bl x1 h1x;have hil:i < y.papers.length:=by omega
 have hiI:(i:Int) < m:=by omega
 obtain ⟨⟨pk,ps,pd,pn,pc⟩,hx⟩:∃ p,y.papers[i] = p:=⟨_,rfl⟩;have hget:y.papers[i]? = some ⟨pk,ps,pd,pn,pc⟩:=by rw [List.getElem?_eq_getElem hil,hx]
 have hha:=fun (k:Nat) σ=>ji w hwl (k:Int) σ;have hcp:pc = -1 ∨ (0 ≤ pc ∧ pc < m ∧ pc ≠ i):=by
  have:=(hv.papers i hil).copy;rw [hx] at this;rcases this with h | ⟨h1,h2,h3,_⟩
  ·exact .inl h
  ·exact .inr ⟨h1,by rw [← hm]; exact h2,h3⟩
 have hao:oK y.papers.length 0 (bG (jL w i pc) m):=by rw [hm]; exact gV _ _
 have hbo:oK y.papers.length 0 (bG (sH w i pc) m):=by rw [hm]; exact gV _ _
 have hmem:∀ (p:Nat → Bool) k,k ∈ bG p m ↔ k < m ∧ p k = true:=fun p k=>by unfold bG; rw [List.mem_filter,List.mem_range]
 have hoth:oi y i = pc:=by unfold oi; rw [hget]
 have hall1:i ∈ bG (jL w i pc) m:=(hmem _ _).2 ⟨by omega,by unfold jL; simp⟩;have hall2:∀ c:Nat,oi y i = c → c ∈ bG (jL w i pc) m:=fun c hc=>by
  rw [hoth] at hc;exact (hmem _ _).2 ⟨by omega,by unfold jL; rw [hc]; simp⟩
 have hbut:∀ j,j ∈ bG (sH w i pc) m ↔ j ∈ bG (jL w i pc) m ∧ j ≠ i:=fun j=>by
  rw [hmem,hmem]; unfold sH;rw [Bool.and_eq_true,decide_eq_true_eq,and_assoc]
 have hfa:=iw hv hao;have hoa:=(cw y _).2 (Dd hv hao);have wNa:=n9 (bG (jL w i pc) m);simp only [ab.v,ab.cells] at hwr;refine aa _ ?_;simp [Hy,ab.v,ab.cells];refine ah.pure mB (hwr _) ?_;simp [hm,hmN,cv0,r0,hget,aj.v,aj.cells,hiI];refine AW.loop (ι:=Nat) (fun k fr σ'=>∃ (q1 q2:Nat) (tl:af),fr = { v:=[(1, .slice 1 (w.map ii')),(3, .pval (.agg [.slice 1 (y.kinds.map .str), .slice 1 (y.places.map .str), .slice 4 (y.first.map ay.v), .slice 5 (y.papers.map aj.v), .slice 4 (y.last.map ay.v)])),(5, .pval (.agg [.int .u32 x0, .int .u32 x1])),(9, .int .i64 i),(10,ii' pc),(11, .oslice 1 ((aQ (bG (jL w i pc) k)).map ii') 0 q1),(12, .oslice 1 ((aQ (bG (sH w i pc) k)).map ii') 1 q2),(13, .int .i64 k)],ds:=[] } ∧ σ' = .spare 1 q1 :: .spare 1 q2 :: tl ∧ k ≤ m) (fun k=>m - k) 0 ⟨0,0,[],by simp [bG,aQ],rfl,by omega⟩ ?_;rintro k fr σ' ⟨q1,q2,tl,rfl,rfl,hk⟩;refine (Nat.lt_or_ge k m).elim (fun hlt=>?_) (fun hge=>?_)
 ·have hltI:(k:Int) < (m:Int):=by omega
  have w3:IntKind.i64.wrap ((k:Int) + 1) = ((k + 1:Nat):Int):=by rw [aw (by omega) (by omega)]; simp
  have s1:=mU (jL w i pc) k;have s2:=mU (sH w i pc) k;have n1:=pE (jL w i pc) k;have n2:=pE (sH w i pc) k;obtain ⟨X,hX⟩:=zqq (aQ (bG (jL w i pc) k));obtain ⟨Z,hZ⟩:=zqq (aQ (bG (sH w i pc) k));rw [hX] at n1 ⊢;rw [hZ] at n2 ⊢;have hak:=hha k;have hqk:jL w i pc k = (((w.any fun z=>decide (z = (k:Int))) || decide (k = i)) || decide ((k:Int) = pc)):=rfl;have hbk:sH w i pc k = (jL w i pc k && decide (k ≠ i)):=rfl;obtain ⟨b,hb⟩:=zqq ((w.any fun z=>decide (z = (k:Int))));rw [hb] at hak hqk;have hcase:(jL w i pc k = false ∧ b = false ∧ ¬ k = i ∧ ¬ (k:Int) = pc) ∨ (jL w i pc k = true ∧ k = i) ∨ (jL w i pc k = true ∧ ¬ k = i):=by
   rw [hqk];by_cases e1:k = i <;> by_cases e2:(k:Int) = pc <;> cases b <;> simp [e1,e2]
  rcases hcase with ⟨g1,rfl,g2,g3⟩ | ⟨g1,g2⟩ | ⟨g1,g2⟩
  ·rw [hbk,g1,Bool.false_and] at s2;rw [g1] at s1;rw [if_neg (by simp),List.append_nil] at s1 s2;have g2I:¬ (k:Int) = i:=by omega
   refine aa _ ?_;simp [hm,hltI];refine ah.pure tI (hak _) ?_;simp [g2I,g3,w3];exact ⟨k + 1,by omega,q1,q2,⟨⟨by rw [s1,hX],rfl⟩,⟨by rw [s2,hZ],rfl⟩,by simp⟩,⟨rfl,rfl⟩,by omega⟩
  ·have g2I:(k:Int) = i:=by omega
   rw [hbk,g1,Bool.true_and,decide_eq_false (by simp [g2])] at s2;rw [g1] at s1;rw [if_neg (by simp),List.append_nil] at s2;rw [if_pos rfl] at s1;cases b
   ·refine aa _ ?_;simp [hm,hltI];refine ah.pure tI (hak _) ?_;simp [eq_true g2I,w3,fits_int];exact ⟨by omega,k + 1,by omega,q1 + 1,q2,⟨⟨by rw [s1, ← hX]; simp [aQ],rfl⟩,⟨by rw [s2,hZ],rfl⟩,by simp⟩,⟨rfl,rfl⟩,by omega⟩
   ·refine aa _ ?_;simp [hm,hltI];refine ah.pure tI (hak _) ?_;simp [eq_true g2I,w3,fits_int];exact ⟨by omega,k + 1,by omega,q1 + 1,q2,⟨⟨by rw [s1, ← hX]; simp [aQ],rfl⟩,⟨by rw [s2,hZ],rfl⟩,by simp⟩,⟨rfl,rfl⟩,by omega⟩
  ·have g2I:¬ (k:Int) = i:=by omega
   rw [hbk,g1,Bool.true_and,decide_eq_true g2] at s2;rw [g1] at s1;rw [if_pos rfl] at s1 s2;cases b
   ·have g3:(k:Int) = pc:=by
     rw [g1] at hqk;simpa [g2] using hqk.symm
    refine aa _ ?_;simp [hm,hltI];refine ah.pure tI (hak _) ?_;simp [g2I,eq_true g3,w3,fits_int];exact ⟨by omega,by omega,k + 1,by omega,q1 + 1,q2 + 1,⟨⟨by rw [s1, ← hX]; simp [aQ],rfl⟩,⟨by rw [s2, ← hZ]; simp [aQ],rfl⟩,by simp⟩,⟨rfl,rfl⟩,by omega⟩
   ·refine aa _ ?_;simp [hm,hltI];refine ah.pure tI (hak _) ?_;simp [g2I,w3,fits_int];exact ⟨by omega,by omega,k + 1,by omega,q1 + 1,q2 + 1,⟨⟨by rw [s1, ← hX]; simp [aQ],rfl⟩,⟨by rw [s2, ← hZ]; simp [aQ],rfl⟩,by simp⟩,⟨rfl,rfl⟩,by omega⟩
 obtain rfl:k = m:=by omega
 by_cases hca:aL y (bG (jL w i pc) k) = true;rotate_left
 ·rw [Bool.not_eq_true] at hca;have d1:=fun σ=>AS hy hfa hoa (by rw [wNa]; exact hca) (i:=i) (by omega) σ;have d2:=fun σ=>dE y hy (aQ (bG (jL w i pc) k)) hfa σ;rw [sQ hv hao,hca] at d2;obtain ⟨X,hX⟩:=zqq (aQ (bG (jL w i pc) k));rw [hX] at d1 d2 ⊢;simp only [ab.v,ab.cells] at d1 d2;refine aa _ ?_;simp [hm];refine ah.pure Eu (d1 _) ?_;simp;refine ah.pure FD (d2 _) ?_;simp;refine ah.pure Ep (hO _) ?_;simp
 obtain ⟨lo,hi',hr⟩:=Fw hv hca (i:=i) (by omega);have d1:=fun σ=>DV hy hfa hoa (by rw [wNa]; exact hca) (i:=i) (by omega) (by rw [wNa]; exact hr) σ;have hlaw:=fun (n:Int) (hn:Big n)=>Au hv hil hall1 hall2 hbut hca hr hn;have hbd:0 ≤ lo ∧ lo ≤ hi' ∧ hi' ≤ 1000000:=by
  obtain ⟨s,hs⟩:=zqq (aY y (bG (jL w i pc) k) (y.papers.getD (aV y i) ⟨0,0,0,0,0⟩) (aV y i));have b:=zT hv hil hr hs;obtain ⟨hl,_⟩:=ke hv hil;have hg:y.papers.getD (aV y i) ⟨0,0,0,0,0⟩ = y.papers[aV y i]:=by rw [List.getD_eq_getElem?_getD,List.getElem?_eq_getElem hl]; rfl
  have c:=qZ hv (bG (jL w i pc) k) (hv.papers _ hl).kilos (aV y i);rw [← hg,hs] at c;unfold Big at c;omega
 have hfb:=iw hv hbo;have hput:∀ n:Int,(aT y i n).papers = y.papers.set i ⟨pk,ps,pd,n,pc⟩:=fun n=>by
  unfold aT;dsimp only;apply List.ext_getElem?;intro j;rw [List.getElem?_modify,List.getElem?_set];by_cases e:i = j
  ·subst e;rw [if_pos rfl,if_pos hil,hget]; simp [Ak]
  ·rw [if_neg e]; simp [e]
 have hcz:=fun (n:Int) (hn:Big n) σ=>dE (aT y i n) (HH (sD hv i hn)) (aQ (bG (sH w i pc) k)) hfb σ;have hbz:∀ n:Int,oK (aT y i n).papers.length 0 (bG (sH w i pc) k):=fun n=>by rw [hput,List.length_set]; exact hbo
 have hcz2:∀ (n:Int) (hn:Big n) σ,Spec Tryz.prog Em [.agg [.slice 1 (y.kinds.map .str), .slice 1 (y.places.map .str), .slice 4 (y.first.map ay.v), .slice 5 ((y.papers.map aj.v).set i (.agg [ii' pk,ii' ps,ii' pd,ii' n,ii' pc])), .slice 4 (y.last.map ay.v)], .slice 1 ((aQ (bG (sH w i pc) k)).map ii')] σ fun r σ'=>r = .ret (.tup [.bool (decide (lo ≤ n) && decide (n ≤ hi')),ii' 0]) ∧ σ' = σ:=fun n hn σ=>by
  have h1:=hcz n hn σ;rw [sQ (sD hv i hn) (hbz n)] at h1;have e1:aL (aT y i n) (bG (sH w i pc) k) = (decide (lo ≤ n) && decide (n ≤ hi')):=by
   rw [Bool.eq_iff_iff,hlaw n hn,Bool.and_eq_true,decide_eq_true_eq,decide_eq_true_eq]
  rw [e1] at h1;have e2:(aT y i n).papers.map aj.v = (y.papers.map aj.v).set i (.agg [ii' pk,ii' ps,ii' pd,ii' n,ii' pc]):=by rw [hput,List.map_set]; rfl
  simp only [ab.v,ab.cells,e2] at h1;exact h1
 obtain ⟨n4,hn4⟩:∃ n:Nat,x1 % 1000001 = n:=⟨_,rfl⟩;have hn4b:n4 ≤ 1000000:=by have:=Nat.mod_lt x1 (show 0 < 1000001 by decide); omega
 have r1:((x1:Int).tmod 1000001) = (n4:Int):=by rw [← hn4]; rfl
 have w1:IntKind.i64.wrap (lo - 1) = lo - 1:=aw (by omega) (by omega);have w2:IntKind.i64.wrap (hi' + 1) = hi' + 1:=aw (by omega) (by omega);obtain ⟨X,hX⟩:=zqq (aQ (bG (jL w i pc) k));obtain ⟨Z,hZ⟩:=zqq (aQ (bG (sH w i pc) k));rw [hX] at d1 ⊢;simp only [hZ] at hcz2;rw [hZ];simp only [ab.v,ab.cells] at d1;refine aa _ ?_;simp [hm];refine ah.pure Eu (d1 _) ?_;simp [cv1,r1,w1,w2];refine AW.loop (ι:=Nat) (fun u fr σ'=>∃ tl:af,fr = { v:=[(3, .pval (.agg [.slice 1 (y.kinds.map .str), .slice 1 (y.places.map .str), .slice 4 (y.first.map ay.v), .slice 5 (y.papers.map aj.v), .slice 4 (y.last.map ay.v)])),(9, .int .i64 i),(12, .oslice 1 (Z.map ii') 1 q2),(14, .pval (.agg [ii' lo,ii' hi'])),(18, .slice 1 [ii' lo,ii' hi',ii' (lo - 1),ii' (hi' + 1),ii' n4]),(19, .int .i64 u)],ds:=[] } ∧ σ' = .spare 1 q1 :: .spare 1 q2 :: tl ∧ u ≤ 5) (fun u=>5 - u) 0 ⟨_,by simp,rfl,by omega⟩ ?_;rintro u fr σ' ⟨tl,rfl,rfl,hu⟩;refine (Nat.lt_or_ge u 5).elim (fun hlt=>?_) (fun hge=>?_);rotate_left
 ·obtain rfl:u = 5:=by omega
  refine aa _ ?_;simp;refine ah.pure Ep (hO _) ?_;simp
 have w3:IntKind.i64.wrap ((u:Int) + 1) = ((u + 1:Nat):Int):=by rw [aw (by omega) (by omega)]; simp
 have huI:(u:Int) < 5:=by omega
 obtain ⟨n,hn⟩:∃ n:Int,[ii' lo,ii' hi',ii' (lo - 1),ii' (hi' + 1),ii' (n4:Int)][u]? = some (ii' n):=by
  match u,hlt with
  | 0,_=>exact ⟨_,rfl⟩
  | 1,_=>exact ⟨_,rfl⟩
  | 2,_=>exact ⟨_,rfl⟩
  | 3,_=>exact ⟨_,rfl⟩
  | 4,_=>exact ⟨_,rfl⟩
 obtain ⟨NS,hNS⟩:=zqq ([ii' lo,ii' hi',ii' (lo - 1),ii' (hi' + 1),ii' (n4:Int)]);have hNl:NS.length = 5:=by rw [← hNS]; rfl
 rw [hNS] at hn ⊢;by_cases hbig:0 ≤ n ∧ n ≤ 1000000;rotate_left
 ·have hnu:∀ h:u < NS.length,NS[u]'h = ii' n:=fun h=>by rw [List.getElem?_eq_getElem h] at hn; exact Option.some.inj hn
  by_cases g1:n < 0
  ·refine aa _ ?_;simp [hNl,hlt,huI,hnu,g1,w3];exact ⟨u + 1,by omega,by simp,by omega⟩
  ·have g2:1000000 < n:=by omega
   refine aa _ ?_;simp [hNl,hlt,huI,hnu,g1,g2,w3];exact ⟨u + 1,by omega,by simp,by omega⟩
 have hc:=hcz2 n hbig;have hnu:∀ h:u < NS.length,NS[u]'h = ii' n:=fun h=>by rw [List.getElem?_eq_getElem h] at hn; exact Option.some.inj hn
 have htk:∀ v:ag,List.take k ((List.map aj.v y.papers).set i v) = (List.map aj.v y.papers).set i v:=fun v=>List.take_of_length_le (by rw [List.length_set,List.length_map]; omega);refine aa _ ?_;have g1:¬ n < 0:=by omega
 have g2:¬ 1000000 < n:=by omega
 simp [hNl,hlt,huI,hnu,htk,g1,g2,hm,hiI,hget,aj.v,aj.cells,putCells];have hfp:Fits 5 (List.map aj.v y.papers):=fun v hv=>by
  obtain ⟨q,_,rfl⟩:=List.mem_map.1 hv;exact ⟨rfl,rfl⟩
 refine ⟨hfp,by omega,by omega,by omega,ah.pure FD (hc _) ?_⟩;by_cases q1':lo ≤ n <;> by_cases q2':n ≤ hi'
 all_goals simp [hNl,hlt,huI,hnu,g1,g2,q1',q2',w3]
 all_goals exact ⟨u + 1,by omega,by simp,by omega⟩
end Go.AM
