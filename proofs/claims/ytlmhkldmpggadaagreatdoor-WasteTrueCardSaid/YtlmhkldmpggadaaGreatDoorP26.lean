/- Chapter 09: Proves: of the program. Chapter 09: whether a yard closes: of the program. Chapter 09: the ends of what can go on a way: of the program. Chapter 09: balanced webs; Range, Gone: of the .. -/
import Derived.Test.YtlmhkldmpggadaaGreatDoorP24
import Derived.Test.YtlmhkldmpggadaaGreatDoorP25
import Derived.Test.YtlmhkldmpggadaaGreatDoorP20
namespace Go.AM
open Go.Proofs
set_option maxRecDepth 100000
set_option maxHeartbeats 1000000
def rO (y:ab) (w:List Int) (p:bt):Bool × Int:=if bW y w ≠ 0 then (false,bW y w) else (Fa y (bD w) p,0)
theorem ss (y:ab) (hy:dv y) (w:List Int) (hwl:w.length ≤ maxLen) (p:bt) (σ:af) :
  Spec Tryz.prog JS [y.v, .slice 1 (w.map ii'),p.v] σ fun r σ'=>r = .ret (.tup [.bool (rO y w p).1,ii' (rO y w p).2]) ∧ σ' = σ:=by
 refine Spec.aF (SD (by simp) ?_) (by simp [y.pure,p.pure,aH,ag.pure,aD (f:=ii') (fun _=>rfl)]) (by simp [ag.pure,aH]) σ;have ho:=fun σ=>eT y hy w hwl σ;unfold rO;obtain ⟨pa,pk,pp,po⟩:=p;by_cases h0:bW y w = 0;rotate_left
 ·rw [if_pos h0];simp only [ab.v,ab.cells] at ho;refine aa _ ?_;simp [CJ,ab.v,ab.cells,bt.v,bt.cells];refine ah.pure nN (ho _) ?_;simp [h0]
 rw [if_neg (by simp [h0])];have hw:=(cJ y w).1 h0;have hv:=hw.valid;rw [h0] at ho;obtain ⟨wrong,hwr⟩:∃ x,bD w = x:=⟨_,rfl⟩;have hfit:=hw.fit;have hwv:=hw.v;rw [hwr] at hfit hwv ⊢;rw [hwv] at ho ⊢;have hk4:=hv.k4;have hp4:=hv.p4;have hm10:=hv.m10;have hdif:=fun i hi σ=>kG hv wrong hfit i hi σ;have hover:=fun kind P hP σ=>mh hv wrong hfit kind P hP σ;obtain ⟨L,hL⟩:∃ L,mT wrong = .slice 1 L:=⟨_,rfl⟩;rw [hL] at ho hdif hover ⊢;simp only [ab.v,ab.cells] at ho hdif hover;have w1:IntKind.i64.wrap ((y.kinds.length:Int) - 1) = (y.kinds.length:Int) - 1:=aq (by omega) (by omega);have w3:IntKind.i64.wrap ((y.papers.length:Int) - 1) = (y.papers.length:Int) - 1:=aq (by omega) (by omega);have hsh:=E5 hp4.2;obtain ⟨N,hN⟩:=zqq (2 ^ y.places.length);have hN16:N ≤ 16:=by rw [← hN]; exact Nat.le_trans (Nat.pow_le_pow_right (by omega) hp4.2) (by decide)
 have hNI:((2:Int) ^ y.places.length) = (N:Int):=by rw [← hN]; simp
 rw [hN] at hsh hover;have wN:IntKind.i64.wrap ((N:Int) - 1) = (N:Int) - 1:=aq (by omega) (by omega);unfold Fa;dsimp only;rw [hNI];by_cases hpa:pa = -1;rotate_left
 ·rw [if_pos hpa];have hb:=fun σ=>cj 0 ((y.papers.length:Int) - 1) pa σ;by_cases h1:pk = 0 ∧ pp = 0 ∧ po = 0;rotate_left
  ·have hz:(decide (pk = 0) && decide (pp = 0) && decide (po = 0)) = false:=by
    rw [Bool.eq_false_iff]; intro h; simp at h; exact h1 ⟨h.1.1,h.1.2,h.2⟩
   have hz2:(pk == 0 && (pp == 0 && po == 0)) = false:=by
    rw [Bool.eq_false_iff]; intro h; simp at h; exact h1 ⟨h.1,h.2.1,h.2.2⟩
   rw [hz];refine aa _ ?_;simp [CJ,ab.v,ab.cells,bt.v,bt.cells];refine ah.pure nN (ho _) ?_;simp [hpa,w1,w3,hz2]
  obtain ⟨rfl,rfl,rfl⟩:=h1;rcases tf (inI pa 0 ((y.papers.length:Int) - 1)) with a1 | a1
  ·rw [a1] at hb ⊢;refine aa _ ?_;simp [CJ,ab.v,ab.cells,bt.v,bt.cells];refine ah.pure nN (ho _) ?_;simp [hpa,w1,w3];refine ah.pure cm (hb _) ?_;simp [w3]
  ·have a1':=bA.1.1 a1;obtain ⟨i,rfl⟩:∃ i:Nat,pa = i:=⟨pa.toNat,by omega⟩;have hdi:=hdif i (by omega);rw [a1] at hb ⊢;rw [Int.toNat_natCast];obtain ⟨d,hd⟩:=zqq (cD y wrong i);rw [hd] at hdi ⊢;refine aa _ ?_;simp [CJ,ab.v,ab.cells,bt.v,bt.cells];refine ah.pure nN (ho _) ?_;simp [hpa,w1,w3];refine ah.pure cm (hb _) ?_;simp [w3];refine ah.pure ML (hdi _) ?_;simp
 subst hpa;rw [if_neg (by simp)];have hb1:=fun σ=>cj 0 ((y.kinds.length:Int) - 1) pk σ;have hb2:=fun σ=>cj 1 ((N:Int) - 1) pp σ;rcases tf (inI pk 0 ((y.kinds.length:Int) - 1)) with a1 | a1
 ·rw [if_pos (.inl a1)];rw [a1] at hb1;refine aa _ ?_;simp [CJ,ab.v,ab.cells,bt.v,bt.cells];refine ah.pure nN (ho _) ?_;simp [w1,hsh,wN];refine ⟨.bool true, ?_⟩;simp;refine ⟨fun σ'=>aE.func cm (hb1 σ'), .bool true, ?_⟩;simp
 rcases tf (inI pp 1 ((N:Int) - 1)) with a2 | a2
 ·rw [if_pos (.inr a2)];rw [a1] at hb1;rw [a2] at hb2;refine aa _ ?_;simp [CJ,ab.v,ab.cells,bt.v,bt.cells];refine ah.pure nN (ho _) ?_;simp [w1,hsh,wN];refine ⟨.bool false, ?_⟩;simp;refine ⟨fun σ'=>aE.func cm (hb1 σ'), .bool true, ?_⟩;simp;exact fun σ'=>aE.func cm (hb2 σ')
 rw [if_neg (by simp [a1,a2])];have a2':=bA.1.1 a2;obtain ⟨P,rfl⟩:∃ P:Nat,pp = P:=⟨pp.toNat,by omega⟩;have hoi:=hover pk P (by omega);rw [Int.toNat_natCast];rw [a1] at hb1;rw [a2] at hb2;obtain ⟨mu,hmu⟩:∃ x,lS y wrong pk P = x:=⟨_,rfl⟩;obtain ⟨li,hli⟩:∃ x,fH y wrong pk P = x:=⟨_,rfl⟩;rw [hmu,hli] at hoi;rw [hmu,hli];refine aa _ ?_;simp [CJ,ab.v,ab.cells,bt.v,bt.cells];refine ah.pure nN (ho _) ?_;simp [w1,hsh,wN];refine ⟨.bool false, ?_⟩;simp;refine ⟨fun σ'=>aE.func cm (hb1 σ'), .bool false, ?_⟩;simp;refine ⟨fun σ'=>aE.func cm (hb2 σ'), ?_⟩;refine ah.pure KI (hoi _) ?_;simp;have hb:(po == li) = decide (po = li):=by by_cases c:po = li <;> simp [c]
 refine ⟨fun h=>⟨h,fun h0=>⟨h,h0⟩⟩,fun h=>?_,by rw [hb]⟩;rcases Int.lt_or_le 0 po with h0 | h0
 ·exact .inr (h h0)
 ·exact .inl h0
theorem Li {y:ab} (hy:oU y) (k:Int) (n:Nat):∀ m, ∀ e ∈ bR y k n m, -aw ≤ e.low ∧ e.high ≤ aw
 | 0,e,he=>by simp [bR] at he
 | m + 1,e,he=>by
  simp only [bR,List.mem_append,List.mem_cons,List.not_mem_nil,or_false] at he;rcases he with he | rfl | rfl
  ·exact Li hy k n m e he
  ·have h1:=(bx hy.first k m).1;have h2:=(bx hy.first k m).2.1;unfold Big at h1 h2;unfold aw;dsimp only;omega
  ·have h1:=(bx hy.last k m).1;have h2:=(bx hy.last k m).2.1;unfold Big at h1 h2;have h3:dh y k m = aw ∨ dh y k m = hiC (aB y.last k m):=by
    unfold dh hiC
    cases aB y.last k m with
    | none=>exact .inl rfl
    | some c=>exact .inr rfl
   unfold aw at h3 ⊢;dsimp only;omega
theorem wV {nm:ByteArray → Bool} {y:ab} (hv:bJ nm y) (wrong:List Nat) (k:Int):oS (y.places.length + 2) (aW y k y.places.length (ba y wrong k) (-aw) aw):=by
 obtain ⟨h1,h2⟩:=mR hv wrong k;have hb:∀ e ∈ aW y k y.places.length (ba y wrong k) (-aw) aw, -aw ≤ e.low ∧ e.high ≤ aw:=by
  intro e he;simp only [aW,List.mem_append,List.mem_cons,List.not_mem_nil,or_false] at he;rcases he with (he | he) | rfl
  ·exact Li hv.ok k _ _ e he
  ·obtain ⟨j,hj,rfl⟩:=List.mem_map.1 he;exact FF (h1 j hj)
  ·exact ⟨Int.le_refl _,Int.le_refl _⟩
 refine ⟨AV hv.ok k h1 (by unfold aw; omega),by have:=hv.p4.2; omega,by rw [jq]; have:=hv.p4.2; omega,fun i hi=>?_⟩;have:=hb _ (List.getElem_mem hi);have hE:aw = 1099511627776:=rfl;omega
theorem zM {nm:ByteArray → Bool} {y:ab} (hv:bJ nm y) (wrong:List Nat) (k:Int):InB (aW y k y.places.length (ba y wrong k) (-aw) aw) (rn y wrong k):=by
 have ho:=wV hv wrong k;have e:=rB y wrong k (i:=y.papers.length) (Nat.le_refl _) (-aw) aw;intro i hi;have hle:=ho.ok.le _ (List.getElem_mem hi);unfold rn;rcases Nat.lt_or_ge i (cX y wrong k y.places.length y.papers.length).length with h | h
 ·have e2:(aW y k y.places.length (ba y wrong k) (-aw) aw)[i] = (cX y wrong k y.places.length y.papers.length)[i]:=by
   simp only [← e];rw [List.getElem_append_left h]
  rw [e2] at hle ⊢;rw [List.getElem?_eq_getElem h];exact ⟨Int.le_refl _,hle⟩
 ·have e2:(aW y k y.places.length (ba y wrong k) (-aw) aw)[i] = ⟨y.places.length,y.places.length + 1, -aw,aw⟩:=by
   simp only [← e];rw [List.getElem_append_right h];simp
  rw [e2,List.getElem?_eq_none h];simp [aw]
theorem vB (σ:af) (jv:List Int) (es:List aI) (f:Nat → Int) (N:Nat) (o:Int) (tl:af):jI (σ ++ (ub jv (bu es f) N o σ.length ++ tl)) (σ.length + 3) (σ.length + 2) N es f:=by
 have g:∀ j,(σ ++ (ub jv (bu es f) N o σ.length ++ tl))[σ.length + j]? = (ub jv (bu es f) N o σ.length ++ tl)[j]?:=fun j=>by
  rw [List.getElem?_append_right (by omega)]; congr 1; omega
 refine ⟨⟨.sref 1 (σ.length + 1) 0 jv.length jv.length,ii' o, ?_⟩, ?_⟩
 ·rw [g 3];simp only [ub,bj];rfl
 ·rw [g 2]; rfl
theorem dk {nm:ByteArray → Bool} {y:ab} (hv:bJ nm y) (wrong:List Nat) (hw:ou wrong) (σ:af) :
  Spec Tryz.prog NP [y.v,mT wrong] σ fun r σ'=>r = .ret (.bool (aP y wrong)) ∧ σ' = σ:=by
 refine Spec.aF (TY (by simp) ?_) (by simp [y.pure,aH,mj]) rfl σ;have hto:=fun σ=>nB hv wrong hw σ;have hwe:=fun k σ=>n8 hv wrong hw k σ;have hk4:=hv.k4;have hci:=iK hv wrong;obtain ⟨L,hL⟩:∃ L,mT wrong = .slice 1 L:=⟨_,rfl⟩;rw [hL] at hto hwe ⊢;simp only [ab.v,ab.cells] at hto hwe
 cases ht:nF y wrong with
 | some i=>
  rw [ht] at hto;have hcf:aP y wrong = false:=by
   have hd:i < y.papers.length ∧ cD y wrong i = true:=by
    have h1:=List.find?_some ht;have h2:=List.mem_of_find?_eq_some ht;exact ⟨List.mem_range.1 h2,h1⟩
   rcases tf (aP y wrong) with h | h
   ·exact h
   ·have:=(hci.1 h).1 i hd.1;rw [hd.2] at this; cases this
  rw [hcf];refine aa _ ?_;simp [MN,ab.v,ab.cells];refine ah.pure Kj (hto _) ?_;simp
 | none=>
 rw [ht] at hto;have hdf:∀ i,i < y.papers.length → cD y wrong i = false:=fun i hi=>by
  have:=List.find?_eq_none.1 ht i (List.mem_range.2 hi);rcases tf (cD y wrong i) with h | h
  ·exact h
  ·exact absurd h this
 refine aa _ ?_;simp [MN,ab.v,ab.cells];refine ah.pure Kj (hto _) ?_;simp;refine AW.loop (ι:=Nat) (fun k fr _=>fr = { v:=[(1, .slice 1 L),(2, .pval y.v),(13, .int .i64 y.kinds.length),(14, .int .i64 k)],ds:=[] } ∧ k ≤ y.kinds.length ∧ ∀ j:Nat,j < k → qp y wrong j) (fun k=>y.kinds.length - k) 0 ⟨by simp [ab.v,ab.cells],by omega,by omega⟩ ?_;rintro k fr σ' ⟨rfl,hk,hf⟩;refine (Nat.lt_or_ge k y.kinds.length).elim (fun hlt=>?_) (fun hge=>?_);rotate_left
 ·obtain rfl:k = y.kinds.length:=by omega
  rw [hci.2 ⟨hdf,hf⟩];refine aa _ ?_;simp
 have hltI:(k:Int) < y.kinds.length:=by omega
 have hwk:IntKind.i64.wrap ((k:Int) + 1) = ((k + 1:Nat):Int):=by rw [aq (by omega) (by omega)]; simp
 refine aa _ ?_;simp [hltI,ab.v,ab.cells];refine ah.spec LD (hwe k _) ?_;rintro r σ2 ⟨rfl,tl,rfl⟩;refine ⟨_,rfl, ?_⟩;simp;refine ah.spec Mf (kF (vB _ _ _ _ _ _ _) (wV hv wrong k) (zM hv wrong k)) ?_;rintro r σ2 ⟨d,f',tl2,rfl,rfl,_,hd1,hd0⟩;refine ⟨_,rfl, ?_⟩
 cases d with
 | true=>
  simp [hwk]
  exact ⟨k + 1,by omega,by simp,by omega,fun j hj=>by
   rcases Nat.lt_or_ge j k with h | h
   ·exact hf j h
   ·obtain rfl:j = k:=by omega
    exact ⟨f',hd1 rfl⟩⟩
 | false=>
  have hcf:aP y wrong = false:=by
   rcases tf (aP y wrong) with h | h
   ·exact h
   ·exact absurd ((hci.1 h).2 k hlt) (hd0 rfl)
  simp [hcf]
def gw (y:ab) (w:List Int):Bool × Int:=if bW y w ≠ 0 then (false,bW y w) else (aP y (bD w),0)
theorem ed (y:ab) (hy:dv y) (w:List Int) (hwl:w.length ≤ maxLen) (σ:af) :
  Spec Tryz.prog F5 [y.v, .slice 1 (w.map ii')] σ fun r σ'=>r = .ret (.tup [.bool (gw y w).1,ii' (gw y w).2]) ∧ σ' = σ:=by
 refine Spec.aF (SO (by simp) ?_) (by simp [y.pure,aH,ag.pure,aD (f:=ii') (fun _=>rfl)]) (by simp [ag.pure,aH]) σ;have ho:=fun σ=>eT y hy w hwl σ;unfold gw;by_cases h0:bW y w = 0;rotate_left
 ·rw [if_pos h0];refine aa _ ?_;simp [Ny,ab.v,ab.cells];simp only [ab.v,ab.cells] at ho;refine ah.pure nN (ho _) ?_;simp [h0]
 rw [if_neg (by simp [h0])];have hw:=(cJ y w).1 h0;have hcl:=fun σ=>dk hw.valid (bD w) hw.fit σ;rw [h0] at ho;rw [← hw.v] at hcl;simp only [ab.v,ab.cells] at ho hcl;refine aa _ ?_;simp [Ny,ab.v,ab.cells];refine ah.pure nN (ho _) ?_;simp;refine ah.pure Ay (hcl _) ?_;simp
theorem jI.E9 {H:af} {W E N:Nat} {es:List aI} {f:Nat → Int} (h:jI H W E N es f):H.set E (.arr 5 (bu es f)) = H:=by
 obtain ⟨_,hE⟩:=h;refine List.ext_getElem? fun j=>?_;rw [List.getElem?_set];by_cases e:E = j
 ·subst e; rw [if_pos rfl,if_pos (List.getElem?_eq_some_iff.1 hE).1,hE]
 ·rw [if_neg e]
theorem jI.Jf {H:af} {W E N:Nat} {es:List aI} {f:Nat → Int} (h:jI H W E N es f) (X Y:List ag) (l:af):(H.set E (.arr 5 X) ++ l).set E (.arr 5 Y) = H.set E (.arr 5 Y) ++ l:=by
 rw [List.set_append_left _ _ (by rw [List.length_set]; exact (List.getElem?_eq_some_iff.1 h.way).1),List.set_set]
theorem la.Ga {N:Nat} {es:List aI} {f f':Nat → Int} {P Q:Nat → Prop} {a t:Nat} {most k:Int} {want:Nat → Int} (hP:∀ j,P j ↔ Q j) (h:la N es f P a most want k t f'):la N es f Q a most want k t f':=by
 have e:P = Q:=funext fun j=>propext (hP j);rw [← e]; exact h
theorem nR (x b:Nat) (most:Int) (σ:af) :
  Spec Tryz.prog EX [ii' x, .pval (ii' b), .pval (ii' most)] σ fun r σ'=>r = .ret (ii' (if x = b then most else 0)) ∧ σ' = σ:=by
 refine Qw (by simp) ?_;by_cases h:x = b
 ·have hI:(x:Int) = b:=by omega
  refine aa _ ?_;simp [Jx,h]
 ·have hI:¬ (x:Int) = b:=by omega
  refine aa _ ?_;simp [Jx,h,hI]
theorem nH {H:af} {W E N:Nat} {es:List aI} {f:Nat → Int} (h:jI H W E N es f) (ok:oS N es) (hb:InB es f) {i a b:Nat} (haN:a < N) (hbN:b < N) (hab:b ≠ a) (most:Int) (hm0:0 ≤ most) (hm1:most ≤ 4398046511104) :
  Spec Tryz.prog CT [ii' a,ii' b,ii' most, .pval (.ptr W 0), .pval (ii' i)] H fun r σ'=>∃ (all:Int) (f':Nat → Int) (tl:af),r = .ret (ii' all) ∧ σ' = H.set E (.arr 5 (bu es f')) ++ tl ∧
   ov es f i a b all f' ∧ 0 ≤ all ∧ all ≤ most ∧ (all = most ∨ ¬ ∃ l,dj es f' 1 (fun j=>j ≠ i) b a l):=by
 refine OV (by simp) ?_;have hsA:=h.Jf;refine aa _ ?_;simp [Mi];refine AW.loop (ι:=Int × (Nat → Int)) (fun t fr σ'=>∃ tl:af,fr = { v:=[(0,ii' a),(3, .pval (.ptr W 0)),(4, .pval (ii' i)),(6, .pval (ii' b)),(7, .pval (ii' most)),(9, .int .i64 t.1)],ds:=[] } ∧ σ' = H.set E (.arr 5 (bu es t.2)) ++ tl ∧ ov es f i a b t.1 t.2 ∧ 0 ≤ t.1 ∧ t.1 ≤ most) (fun t=>(most - t.1).toNat) (0,f) ⟨[],by simp,by rw [h.E9]; simp, .start hb i a b,by simp; omega⟩ ?_;rintro ⟨all,f1⟩ fr σ' ⟨tl,rfl,rfl,hl,h0,h1⟩;dsimp only at hl h0 h1 ⊢;by_cases hlt:all < most;rotate_left
 ·obtain rfl:all = most:=by omega
  refine aa _ ?_;simp;exact ⟨f1,⟨_,rfl⟩,hl,h0⟩
 have w1:IntKind.i64.wrap (most - all) = most - all:=aq (by omega) (by omega);have hps:=nr ((h.set f1).app tl) ok hl.inb haN (most - all) i (by omega) (g:=EX) (caps:=[.pval (ii' b), .pval (ii' most)]) (want:=fun n=>if n = b then most else 0) fun x hx tl'=>aE.func QF (first:=[]) (nR x b most _);refine aa _ ?_;simp [hlt,w1];refine ah.spec Ll hps ?_;rintro r σ' ⟨k,t,f2,tl2,rfl,rfl,hpo⟩;refine ⟨_,rfl, ?_⟩
 replace hpo:=hpo.Ga (Q:=fun j=>j ≠ i) fun j=>by omega
 rw [hsA];by_cases hk:k = 0
 ·subst hk;obtain ⟨e,hno⟩:=ov.stop (by omega) hab hbN hpo;subst e;simp;exact ⟨f2,⟨_,rfl⟩,hl,h0,h1, .inr fun l hl=>hno ⟨l,hl⟩⟩
 obtain ⟨_,hk1,hk2,hl2⟩:=hl.step hk hpo;have w2:IntKind.i64.wrap (all + k) = all + k:=aq (by omega) (by omega);simp [hk,w2];exact ⟨all + k,by omega,rfl,f2,⟨_,rfl⟩,hl2,by omega,by omega⟩
theorem vX {H:af} {W E N:Nat} {es:List aI} {f:Nat → Int} (h:jI H W E N es f) (ok:oS N es) (hc:bE N es f) {i:Nat} (hi:i < es.length) :
  Spec Tryz.prog CT [ii' es[i].src,ii' es[i].dst,ii' (f i - es[i].low), .pval (.ptr W 0), .pval (ii' i)] H fun r σ'=>∃ (all:Int) (f' F:Nat → Int) (tl:af),r = .ret (ii' all) ∧ σ' = H.set E (.arr 5 (bu es f')) ++ tl ∧
   f' i = f i ∧ IntKind.i64.wrap (f i - all) = F i ∧ (bu es f').set i (.agg [ii' es[i].src,ii' es[i].dst,ii' es[i].low,ii' es[i].high,ii' (F i)]) = bu es F ∧ bE N es F ∧ ∀ g,bE N es g → F i ≤ g i:=by
 have hsb:=ok.ok.src es[i] (List.getElem_mem hi);have hni:=ok.ok.ne es[i] (List.getElem_mem hi);have hlo:=ok.low i hi;have hbi:=hc.inb i hi;refine (nH h ok hc.inb hsb.1 hsb.2 (fun e=>hni e.symm) (i:=i) (f i - es[i].low) (by omega) (by omega)).mono ?_;rintro r σ' ⟨a1,f1,tl1,rfl,rfl,hl1,a10,a11,a12⟩;obtain ⟨c1,c2,c3⟩:=Ev ok.ok hc hi a10 a11 hl1 a12;have hf1:=hl1.out;refine ⟨a1,f1,cG f1 i (-a1),tl1,rfl,rfl,hf1, ?_, ?_,c1,fun g hg=>by rw [c2]; exact c3 g hg⟩
 ·rw [c2]; exact aq (by omega) (by omega)
 ·rw [← HI hi (-a1),c2,hf1]; rfl
theorem u7 {H:af} {W E N:Nat} {es:List aI} {f:Nat → Int} (h:jI H W E N es f) (ok:oS N es) (hc:bE N es f) {i:Nat} (hi:i < es.length) :
  Spec Tryz.prog CT [ii' es[i].dst,ii' es[i].src,ii' (es[i].high - f i), .pval (.ptr W 0), .pval (ii' i)] H fun r σ'=>∃ (all:Int) (f' F:Nat → Int) (tl:af),r = .ret (ii' all) ∧ σ' = H.set E (.arr 5 (bu es f')) ++ tl ∧
   f' i = f i ∧ IntKind.i64.wrap (f i + all) = F i ∧ (bu es f').set i (.agg [ii' es[i].src,ii' es[i].dst,ii' es[i].low,ii' es[i].high,ii' (F i)]) = bu es F ∧ bE N es F ∧ ∀ g,bE N es g → g i ≤ F i:=by
 have hsb:=ok.ok.src es[i] (List.getElem_mem hi);have hni:=ok.ok.ne es[i] (List.getElem_mem hi);have hlo:=ok.low i hi;have hbi:=hc.inb i hi;refine (nH h ok hc.inb hsb.2 hsb.1 hni (i:=i) (es[i].high - f i) (by omega) (by omega)).mono ?_;rintro r σ' ⟨a1,f1,tl1,rfl,rfl,hl1,a10,a11,a12⟩;obtain ⟨c1,c2,c3⟩:=CP ok.ok hc hi a10 a11 hl1 a12;have hf1:=hl1.out;have hb2:=c1.inb i hi;refine ⟨a1,f1,cG f1 i a1,tl1,rfl,rfl,hf1, ?_, ?_,c1,fun g hg=>by rw [c2]; exact c3 g hg⟩
 ·rw [c2]; exact aq (by omega) (by omega)
 ·rw [← HI hi a1,c2,hf1]; rfl
theorem lg {H:af} {W E N:Nat} {es:List aI} {f:Nat → Int} (h:jI H W E N es f) (ok:oS N es) (hc:bE N es f) {i:Nat} (hi:i < es.length) :
  Spec Tryz.prog M4 [.ptr W 0,ii' i] H fun r σ'=>∃ (lo hi:Int) (F:Nat → Int) (tl:af),r = .ret (.agg [ii' lo,ii' hi]) ∧ σ' = H.set E (.arr 5 (bu es F)) ++ tl ∧ ik N es i lo hi:=by
 refine Th (by simp) ?_;have hne:=h.ne;have hb:=hc.inb;have hEl:=(List.getElem?_eq_some_iff.1 h.way).1;have hsA:=h.Jf;have hsb:=ok.ok.src es[i] (List.getElem_mem hi);have hni:=ok.ok.ne es[i] (List.getElem_mem hi);have hlo:=ok.low i hi;have hbi:=hb i hi;have hiI:(i:Int) < es.length:=by omega
 have hH:∀ (f':Nat → Int) (l:af),jI (H.set E (.arr 5 (bu es f')) ++ l) W E N es f':=fun f' l=>(h.set f').app l;have hL1:=vX (hH f [.box [ii' 0,ii' 0], .box [ii' es[i].src,ii' es[i].dst,ii' es[i].low,ii' es[i].high,ii' (f i)]]) ok hc hi;have hL2:=fun (H':af) (f1:Nat → Int) (h1:jI H' W E N es f1) (hc1:bE N es f1)=>u7 h1 ok hc1 hi;have hbF:=fun (F:Nat → Int) (hcF:bE N es F)=>hcF.inb i hi;obtain ⟨⟨J,O,hW⟩,hE⟩:=id h;obtain ⟨B,hB⟩:=zqq H.length;have gW:∀ (f':Nat → Int) (l:af),(H.set E (.arr 5 (bu es f')) ++ l)[W]? = some (.box [.sref 5 E 0 es.length es.length,ii' N,J,O]):=fun f' l=>by
  rw [List.getElem?_append_left (by rw [List.length_set]; exact (List.getElem?_eq_some_iff.1 hW).1),List.getElem?_set_ne (fun e=>hne e.symm)]; exact hW
 have gE:∀ (f':Nat → Int) (l:af),(H.set E (.arr 5 (bu es f')) ++ l)[E]? = some (.arr 5 (bu es f')):=fun f' l=>(hH f' l).way;have gB:∀ (f':Nat → Int) (l:af) (j:Nat),(H.set E (.arr 5 (bu es f')) ++ l)[B + j]? = l[j]?:=fun f' l j=>by
  rw [← hB,List.getElem?_append_right (by rw [List.length_set]; omega)]; simp
 have gB0:∀ (f':Nat → Int) (l:af),(H.set E (.arr 5 (bu es f')) ++ l)[B]? = l[0]?:=fun f' l=>gB f' l 0;have sB:∀ (f':Nat → Int) (l:af) (j:Nat) (o:cq),(H.set E (.arr 5 (bu es f')) ++ l).set (B + j) o = H.set E (.arr 5 (bu es f')) ++ l.set j o:=fun f' l j o=>by
  rw [← hB,List.set_append_right _ _ (by rw [List.length_set]; omega)]; simp
 have sB0:∀ (f':Nat → Int) (l:af) (o:cq),(H.set E (.arr 5 (bu es f')) ++ l).set B o = H.set E (.arr 5 (bu es f')) ++ l.set 0 o:=fun f' l o=>sB f' l 0 o;obtain ⟨e,he⟩:=zqq (es[i]);rw [he] at hsb hni hlo hbi hL1 hL2 hbF;have w1:IntKind.i64.wrap (f i - e.low) = f i - e.low:=aq (by omega) (by omega);rw [← h.E9];refine aa _ ?_;simp [Pq,hB,hi,hiI,gW,gE,gB,gB0,sB,sB0,hsA,bj,bC,he,aI.v,aI.cells,w1];refine ah.bf (aE.func Lb (first:=[]) (caps:=[.pval (.ptr W 0), .pval (ii' i)]) (args:=[ii' e.src,ii' e.dst,ii' (f i - e.low)]) hL1) ?_;rintro r σ' ⟨a1,f1,F1,tl1,rfl,rfl,d1,d2,d3,d4,d5⟩;refine ⟨_,rfl, ?_⟩;have hb1:=hbF F1 d4;have w3:IntKind.i64.wrap (e.high - F1 i) = e.high - F1 i:=aq (by omega) (by omega);simp [hi,hiI,gW,gE,gB,gB0,sB,sB0,hsA,bj,bC,he,aI.v,aI.cells,d1,d2,d3,w3];have hL3:=hL2 (H.set E (.arr 5 (bu es F1)) ++ (.box [ii' (F1 i),ii' 0] :: .box [ii' e.src,ii' e.dst,ii' e.low,ii' e.high,ii' (F1 i)] :: tl1)) F1 (hH F1 _) d4;refine ah.bf (aE.func Lb (first:=[]) (caps:=[.pval (.ptr W 0), .pval (ii' i)]) (args:=[ii' e.dst,ii' e.src,ii' (e.high - F1 i)]) hL3) ?_;rintro r σ' ⟨a2,f2,F2,tl2,rfl,rfl,g1,g2,g3,g4,g5⟩;refine ⟨_,rfl, ?_⟩;simp [hi,hiI,gW,gE,gB,gB0,sB,sB0,hsA,bj,bC,he,aI.v,aI.cells,g1,g2,g3];exact ⟨_,_,⟨rfl,rfl⟩,⟨F2,_,rfl⟩,Ae ⟨d4,rfl,d5⟩ ⟨g4,rfl,g5⟩⟩
def eJ (y:ab) (w:List Int) (kd:Int):Int:=if bW y w ≠ 0 then bW y w else if kd < 0 then 4 else if aP y (bD w) then 0 else 9
abbrev jC (y:ab) (w:List Int) (kd:Int):List aI:=aW y kd y.places.length (ba y (bD w) kd) (-aw) aw
structure TD (y:ab) (w:List Int) (kd:Int) (p:ag) (σ σ':af):Prop where
 is:∃ (tl0 tl:af) (f:Nat → Int),σ' = (σ ++ tl0) ++ (ub (dJ y kd y.papers.length) (bu (jC y w kd) f) (y.places.length + 2) (2 * y.places.length + (ba y (bD w) kd).length:Nat) (σ ++ tl0).length ++ tl) ∧
  p = .ptr ((σ ++ tl0).length + 3) 0 ∧ bE (y.places.length + 2) (jC y w kd) f
theorem wQ (σ:af) (jv:List Int) (es:List aI) (f f':Nat → Int) (N:Nat) (o:Int) (tl:af):(σ ++ (ub jv (bu es f) N o σ.length ++ tl)).set (σ.length + 2) (.arr 5 (bu es f')) = σ ++ (ub jv (bu es f') N o σ.length ++ tl):=by
 rw [List.set_append_right _ _ (by omega)];have:σ.length + 2 - σ.length = 2:=by omega
 rw [this];simp [ub,bj]
theorem jU (y:ab) (hy:dv y) (w:List Int) (hwl:w.length ≤ maxLen) (kd:Int) {g:FuncId} {caps:List ag} (hp:∀ σ,aE Tryz.prog (.func (.func g) [] caps) [y.v] σ fun r σ'=>r = .ret (ii' kd) ∧ σ' = σ) (hkd:bW y w = 0 → kd < y.kinds.length) (σ:af) :
  Spec Tryz.prog NQ [y.v, .slice 1 (w.map ii'), .func (.func g) [] caps] σ fun r σ'=>∃ p,r = .ret (.tup [p,ii' (eJ y w kd)]) ∧ (∃ tl,σ' = σ ++ tl) ∧ (eJ y w kd = 0 → TD y w kd p σ σ') ∧ (eJ y w kd ≠ 0 → p = .nilptr):=by
 refine S9 (by simp) ?_;have ho:=fun σ=>eT y hy w hwl σ;unfold eJ;simp only [ab.v,ab.cells] at ho hp;by_cases h0:bW y w = 0;rotate_left
 ·rw [if_pos h0];refine aa _ ?_;simp [Jl,ab.v,ab.cells];refine ah.pure nN (ho _) ?_;simp [h0]
 rw [if_neg (by simp [h0])];have hw:=(cJ y w).1 h0;rw [h0] at ho;have hcl:=fun σ=>dk hw.valid (bD w) hw.fit σ;have hwe:=fun σ=>n8 hw.valid (bD w) hw.fit kd σ;rw [← hw.v] at hcl hwe;simp only [ab.v,ab.cells] at hcl hwe;obtain ⟨o,hoo⟩:∃ o:Int,((2 * y.places.length + (ba y (bD w) kd).length:Nat):Int) = o:=⟨_,rfl⟩;rw [hoo] at hwe;by_cases h1:kd < 0
 ·rw [if_pos h1];refine aa _ ?_;simp [Jl,ab.v,ab.cells];refine ah.pure nN (ho _) ?_;simp;refine ah.of (hp _) ?_;simp [h1]
 rw [if_neg h1];rcases tf (aP y (bD w)) with hc | hc
 ·rw [hc] at hcl ⊢;refine aa _ ?_;simp [Jl,ab.v,ab.cells];refine ah.pure nN (ho _) ?_;simp;refine ah.of (hp _) ?_;simp [h1];refine ah.pure Ay (hcl _) ?_;simp
 obtain ⟨K,hK⟩:∃ K:Nat,kd = K:=⟨kd.toNat,by omega⟩;have hflow:∃ g,bE (y.places.length + 2) (jC y w kd) g:=by
  have:=((iK hw.valid (bD w)).1 hc).2 K (by have:=hkd h0; omega);rw [hK]; exact this
 rw [hc] at hcl ⊢;refine aa _ ?_;simp [Jl,ab.v,ab.cells];refine ah.pure nN (ho _) ?_;simp;refine ah.of (hp _) ?_;simp [h1];refine ah.pure Ay (hcl _) ?_;simp;refine ah.spec LD (hwe _) ?_;rintro r σ2 ⟨rfl,tl,rfl⟩;have hWH:=vB (σ ++ [.dead]) (dJ y kd y.papers.length) (jC y w kd) (rn y (bD w) kd) (y.places.length + 2) o tl;have hset:=fun f'=>wQ (σ ++ [.dead]) (dJ y kd y.papers.length) (jC y w kd) (rn y (bD w) kd) f' (y.places.length + 2) o tl;have e1:(σ ++ [cq.dead]).length = σ.length + 1:=by simp
 have e2:∀ l:af,(σ ++ [cq.dead]) ++ l = σ ++ .dead :: l:=fun l=>by simp
 rw [e1,e2] at hWH;simp only [e1,e2] at hset;refine ⟨_,rfl, ?_⟩;simp;refine ah.spec Mf (kF hWH (wV hw.valid (bD w) kd) (zM hw.valid (bD w) kd)) ?_;rintro r σ2 ⟨d,f',tl2,rfl,rfl,_,hd1,hd0⟩;have hd:d = true:=by
  rcases tf d with e | e
  ·exact absurd hflow (hd0 e)
  ·exact e
 refine ⟨_,rfl, ?_⟩;simp [hset];refine ⟨[.dead],tl ++ tl2,f', ?_, ?_,hd1 hd⟩
 ·simp [hoo]
 ·simp
def fa (y:ab) (i:Int):Int:=if inI i 0 ((y.papers.length:Int) - 1) then aK y i.toNat else -1
theorem rD (y:ab) (hy:dv y) (i:Int) (σ:af) :
  Spec Tryz.prog J5 [y.v, .pval (ii' i)] σ fun r σ'=>r = .ret (ii' (fa y i)) ∧ σ' = σ:=by
 refine Spec.aF (UQ (by simp) ?_) (by simp [y.pure,aH,ag.pure]) rfl σ;have hm:=hy.papers;simp only [maxLen] at hm;have w1:IntKind.i64.wrap ((y.papers.length:Int) - 1) = (y.papers.length:Int) - 1:=aq (by omega) (by omega);have hb:=fun σ=>cj 0 ((y.papers.length:Int) - 1) i σ;unfold fa;rcases tf (inI i 0 ((y.papers.length:Int) - 1)) with h | h
 ·rw [h] at hb ⊢;refine aa _ ?_;simp [M8,ab.v,ab.cells,w1];refine ah.pure cm (hb _) ?_;simp
 ·rw [h] at hb ⊢;have hi:=bA.1.1 h;obtain ⟨k,rfl⟩:∃ k:Nat,i = k:=⟨i.toNat,by omega⟩;have hk:k < y.papers.length:=by omega
  have hkI:(k:Int) < y.papers.length:=by omega
  have hka:aK y k = y.papers[k].kind:=by unfold aK; rw [List.getElem?_eq_getElem hk]
  refine aa _ ?_;simp [M8,ab.v,ab.cells,w1];refine ah.pure cm (hb _) ?_;simp [hk,hkI,hka,aj.v,aj.cells]
theorem Ii {nm:ByteArray → Bool} {y:ab} (hv:bJ nm y) (i:Int):fa y i < y.kinds.length:=by
 unfold fa;split
 ·rename_i h;have hi:=bA.1.1 h;obtain ⟨k,rfl⟩:∃ k:Nat,i = k:=⟨i.toNat,by omega⟩;have hk:k < y.papers.length:=by omega
  have hka:aK y k = y.papers[k].kind:=by unfold aK; rw [List.getElem?_eq_getElem hk]
  have:=(hv.papers k hk).kind;rw [Int.toNat_natCast,hka]; omega
 ·omega
theorem dH (y:ab) (hy:dv y) (w:List Int) (hwl:w.length ≤ maxLen) (i:Int) (σ:af) :
  Spec Tryz.prog C7 [y.v, .slice 1 (w.map ii'),ii' i] σ fun r σ'=>(∃ lo hi:Int,r = .ret (.tup [.agg [ii' lo,ii' hi],ii' (eJ y w (fa y i))]) ∧ (eJ y w (fa y i) ≠ 0 → lo = 0 ∧ hi = 0) ∧ (eJ y w (fa y i) = 0 → jE y (bD w) i.toNat lo hi)) ∧ σ' = σ:=by
 refine Spec.frame (Spec.mono (Q:=fun r _=>∃ lo hi:Int,r = .ret (.tup [.agg [ii' lo,ii' hi],ii' (eJ y w (fa y i))]) ∧ (eJ y w (fa y i) ≠ 0 → lo = 0 ∧ hi = 0) ∧ (eJ y w (fa y i) = 0 → jE y (bD w) i.toNat lo hi)) ?_ fun r _ h=>⟨h,by obtain ⟨lo,hi,rfl,_⟩:=h; rfl⟩) (by simp [y.pure,aH,ag.pure,aD (f:=ii') (fun _=>rfl)]) σ;refine Wt (by simp) ?_;have hbal:=fun σ=>jU y hy w hwl (fa y i) (g:=J5) (caps:=[.pval (ii' i)]) (fun σ=>aE.func SU (first:=[]) (rD y hy i σ)) (fun h0=>Ii ((cJ y w).1 h0).valid i) σ;simp only [ab.v,ab.cells] at hbal;refine aa _ ?_;simp [On,ab.v,ab.cells];refine ah.spec Ru (hbal _) ?_;rintro r σ2 ⟨p,rfl,htl,q0,q1⟩;refine ⟨_,rfl, ?_⟩;by_cases hz:eJ y w (fa y i) = 0;rotate_left
 ·obtain ⟨tl,rfl⟩:=htl;have:=q1 hz;subst this;simp [hz]
 have hw:=(cJ y w).1 (by
  unfold eJ at hz;by_cases h:bW y w = 0
  ·exact h
  ·rw [if_pos h] at hz; exact absurd hz h)
 have hin:inI i 0 ((y.papers.length:Int) - 1) = true:=by
  rcases tf (inI i 0 ((y.papers.length:Int) - 1)) with h | h
  ·unfold eJ fa at hz;rw [if_neg (by simp [(cJ y w).2 hw]),h] at hz;simp at hz
  ·exact h
 have hi:=bA.1.1 hin;obtain ⟨k,rfl⟩:∃ k:Nat,i = k:=⟨i.toNat,by omega⟩;have hk:k < y.papers.length:=by omega
 have hkI:(k:Int) < y.papers.length:=by omega
 have hkk:fa y k = aK y k:=by unfold fa; rw [if_pos hin,Int.toNat_natCast]
 have hlead:=k8 hw.valid hk;have hjr:vm y (aK y k) y.papers.length k = (im y k:Nat):=by
  unfold vm im;rw [if_pos ⟨rfl,hlead.1⟩]
 obtain ⟨tl0,tl1,f,q2,q3,q4⟩:=(q0 hz).is;rw [hkk] at q2 q4 hz ⊢;obtain ⟨Hb,hHb⟩:∃ Hb:af,[cq.box [.int .i64 0, .int .i64 0]] ++ tl0 = Hb:=⟨_,rfl⟩;rw [hHb] at q2 q3;have hb0:∀ l,(Hb ++ l)[0]? = some (.box [.int .i64 0, .int .i64 0]):=fun l=>by rw [← hHb]; rfl
 have hbs:∀ l X,((Hb ++ l).set 0 X)[0]? = some X:=fun l X=>by rw [← hHb]; rfl
 clear hHb q0 q1;subst q2 q3;have hWH:=vB Hb (dJ y (aK y k) y.papers.length) (jC y w (aK y k)) f (y.places.length + 2) ((2 * y.places.length + (ba y (bD w) (aK y k)).length:Nat):Int) tl1;have hset:=fun f'=>wQ Hb (dJ y (aK y k) y.papers.length) (jC y w (aK y k)) f f' (y.places.length + 2) ((2 * y.places.length + (ba y (bD w) (aK y k)).length:Nat):Int) tl1;have hwl2:=(xH hw.valid hk (bD w) (-aw) aw).1;have hsp:=lg hWH (wV hw.valid (bD w) _) q4 hwl2;obtain ⟨o,hoo⟩:∃ o:Int,((2 * y.places.length + (ba y (bD w) (aK y k)).length:Nat):Int) = o:=⟨_,rfl⟩;simp only [hoo] at hsp hset ⊢;obtain ⟨jl,hjl⟩:=zqq (dJ y (aK y k) y.papers.length);have hjll:jl.length = y.papers.length:=by rw [← hjl]; simp [dJ]
 have hjlk:∀ h,jl[k]'h = (im y k:Nat):=fun h=>by simp only [← hjl,dJ,List.getElem_map,List.getElem_range]; exact hjr
 rw [hjl] at hsp hset ⊢;obtain ⟨n,hn⟩:=zqq Hb.length;obtain ⟨ev,hev⟩:=zqq (bu (jC y w (aK y k)) f);have gB:∀ (l:af) (j:Nat),(Hb ++ l)[n + j]? = l[j]?:=fun l j=>by rw [← hn,List.getElem?_append_right (by omega)]; congr 1; omega
 rw [hn] at hsp hset ⊢;have g3:(Hb ++ (ub jl (bu (jC y w (aK y k)) f) (y.places.length + 2) o n ++ tl1))[n + 3]? = some (.box [.sref 5 (n + 2) 0 (bu (jC y w (aK y k)) f).length (bu (jC y w (aK y k)) f).length,ii' ((y.places.length + 2:Nat):Int), .sref 1 (n + 1) 0 y.papers.length y.papers.length,ii' o]):=by rw [gB, ← hjll]; rfl
 have g1:(Hb ++ (ub jl (bu (jC y w (aK y k)) f) (y.places.length + 2) o n ++ tl1))[n + 1]? = some (.arr 1 (jl.map ii')):=by rw [gB]; rfl
 simp [hz,g3,g1,hjll,hk,hkI,hjlk];refine ah.spec Py hsp ?_;rintro r σ2 ⟨lo,hi,F,tl2,rfl,rfl,hR⟩;refine ⟨_,rfl, ?_⟩;simp [hset,hb0,hbs];exact ⟨lo,hi,⟨⟨rfl,rfl⟩,hz.symm⟩,fun h=>absurd hz h,fun _=>hR⟩
def eU (y:ab) (k:Int):Int:=if inI k 0 ((y.kinds.length:Int) - 1) then k else -1
theorem sO (y:ab) (hy:dv y) (i:Int) (σ:af) :
  Spec Tryz.prog KA [y.v, .pval (ii' i)] σ fun r σ'=>r = .ret (ii' (eU y i)) ∧ σ' = σ:=by
 refine Spec.aF (UE (by simp) ?_) (by simp [y.pure,aH,ag.pure]) rfl σ;have hm:=hy.kinds;simp only [maxLen] at hm;have w1:IntKind.i64.wrap ((y.kinds.length:Int) - 1) = (y.kinds.length:Int) - 1:=aq (by omega) (by omega);have hb:=fun σ=>cj 0 ((y.kinds.length:Int) - 1) i σ;unfold eU;rcases tf (inI i 0 ((y.kinds.length:Int) - 1)) with h | h
 ·rw [h] at hb ⊢;refine aa _ ?_;simp [Mx,ab.v,ab.cells,w1];refine ah.pure cm (hb _) ?_;simp
 ·rw [h] at hb ⊢;refine aa _ ?_;simp [Mx,ab.v,ab.cells,w1];refine ah.pure cm (hb _) ?_;simp
theorem IE (y:ab) (i:Int):eU y i < y.kinds.length:=by
 unfold eU;split
 ·rename_i h;have hi:=bA.1.1 h;omega
 ·omega
theorem eL (y:ab) (hy:dv y) (w:List Int) (hwl:w.length ≤ maxLen) (i:Int) (σ:af) :
  Spec Tryz.prog CX [y.v, .slice 1 (w.map ii'),ii' i] σ fun r σ'=>(∃ lo hi:Int,r = .ret (.tup [.agg [ii' lo,ii' hi],ii' (eJ y w (eU y i))]) ∧ (eJ y w (eU y i) ≠ 0 → lo = 0 ∧ hi = 0) ∧ (eJ y w (eU y i) = 0 → iw y (bD w) i lo hi)) ∧ σ' = σ:=by
 refine Spec.frame (Spec.mono (Q:=fun r _=>∃ lo hi:Int,r = .ret (.tup [.agg [ii' lo,ii' hi],ii' (eJ y w (eU y i))]) ∧ (eJ y w (eU y i) ≠ 0 → lo = 0 ∧ hi = 0) ∧ (eJ y w (eU y i) = 0 → iw y (bD w) i lo hi)) ?_ fun r _ h=>⟨h,by obtain ⟨lo,hi,rfl,_⟩:=h; rfl⟩) (by simp [y.pure,aH,ag.pure,aD (f:=ii') (fun _=>rfl)]) σ;refine Uk (by simp) ?_;have hbal:=fun σ=>jU y hy w hwl (eU y i) (g:=KA) (caps:=[.pval (ii' i)]) (fun σ=>aE.func TC (first:=[]) (sO y hy i σ)) (fun _=>IE y i) σ;simp only [ab.v,ab.cells] at hbal;refine aa _ ?_;simp [Qo,ab.v,ab.cells];refine ah.spec Ru (hbal _) ?_;rintro r σ2 ⟨p,rfl,htl,q0,q1⟩;refine ⟨_,rfl, ?_⟩;by_cases hz:eJ y w (eU y i) = 0;rotate_left
 ·obtain ⟨tl,rfl⟩:=htl;have:=q1 hz;subst this;simp [hz]
 have hw:=(cJ y w).1 (by
  unfold eJ at hz;by_cases h:bW y w = 0
  ·exact h
  ·rw [if_pos h] at hz; exact absurd hz h)
 have hin:inI i 0 ((y.kinds.length:Int) - 1) = true:=by
  rcases tf (inI i 0 ((y.kinds.length:Int) - 1)) with h | h
  ·unfold eJ eU at hz;rw [if_neg (by simp [(cJ y w).2 hw]),h] at hz;simp at hz
  ·exact h
 have hkk:eU y i = i:=by unfold eU; rw [if_pos hin]
 obtain ⟨tl0,tl1,f,q2,q3,q4⟩:=(q0 hz).is;rw [hkk] at q2 q4 hz ⊢;obtain ⟨Hb,hHb⟩:∃ Hb:af,[cq.box [.int .i64 0, .int .i64 0]] ++ tl0 = Hb:=⟨_,rfl⟩;rw [hHb] at q2 q3;have hb0:∀ l,(Hb ++ l)[0]? = some (.box [.int .i64 0, .int .i64 0]):=fun l=>by rw [← hHb]; rfl
 have hbs:∀ l X,((Hb ++ l).set 0 X)[0]? = some X:=fun l X=>by rw [← hHb]; rfl
 clear hHb q0 q1;subst q2 q3;have hWH:=vB Hb (dJ y i y.papers.length) (jC y w i) f (y.places.length + 2) ((2 * y.places.length + (ba y (bD w) i).length:Nat):Int) tl1;have hset:=fun f'=>wQ Hb (dJ y i y.papers.length) (jC y w i) f f' (y.places.length + 2) ((2 * y.places.length + (ba y (bD w) i).length:Nat):Int) tl1;have hsp:=lg hWH (wV hw.valid (bD w) _) q4 (i:=2 * y.places.length + (ba y (bD w) i).length) (by rw [jq]; omega);obtain ⟨on,hon⟩:∃ on:Nat,2 * y.places.length + (ba y (bD w) i).length = on:=⟨_,rfl⟩;obtain ⟨jl,hjl⟩:=zqq (dJ y i y.papers.length);simp only [hon,hjl] at hsp hset ⊢;obtain ⟨n,hn⟩:=zqq Hb.length;have gB:∀ (l:af) (j:Nat),(Hb ++ l)[n + j]? = l[j]?:=fun l j=>by rw [← hn,List.getElem?_append_right (by omega)]; congr 1; omega
 rw [hn] at hsp hset ⊢;have g3:(Hb ++ (ub jl (bu (jC y w i) f) (y.places.length + 2) on n ++ tl1))[n + 3]? = some (.box [.sref 5 (n + 2) 0 (bu (jC y w i) f).length (bu (jC y w i) f).length,ii' ((y.places.length + 2:Nat):Int), .sref 1 (n + 1) 0 jl.length jl.length,ii' on]):=by rw [gB]; rfl
 simp [hz,g3];refine ah.spec Py hsp ?_;rintro r σ2 ⟨lo,hi,F,tl2,rfl,rfl,hR⟩;refine ⟨_,rfl, ?_⟩;simp [hset,hb0,hbs];have hR':iw y (bD w) i lo hi:=by unfold iw; rw [hon]; exact hR
 exact ⟨lo,hi,⟨⟨rfl,rfl⟩,hz.symm⟩,fun h=>absurd hz h,fun _=>hR'⟩
theorem lV (y:ab) (σ:af):Spec Tryz.prog MP [y.v] σ fun r σ'=>r = .ret (.func (.func 133) [] [.pval y.v]) ∧ σ' = σ:=by
 refine Spec.aF (U6 (by simp) (aa _ ?_)) (by simp [y.pure,aH]) (by simp [ag.pure,aH,y.pure]) σ;simp [Rw,ab.v,ab.cells]
theorem yE (l:List Int):Fits 1 (l.map ii'):=fun v hv=>by
 obtain ⟨x,_,rfl⟩:=List.mem_map.1 hv;exact ⟨⟨rfl,rfl⟩,rfl⟩
def oD (b n:Nat) (y:ab):ag:=.func (.func 134) [] [.pval (.yieldf b), .pval y.v, .ptr n 0]
theorem nI (y:ab) (hm:y.papers.length ≤ 1000) (b n:Nat) (all:List (List Nat)) (J:List (List Nat) → af → Prop) (Stop:af → Prop)
  (hy:∀ done l s tl,J done s → s.length = n → (∀ x ∈ l,x < y.papers.length) → l.length ≤ y.papers.length → (∃ rest,all = done ++ l :: rest) →
   aE Tryz.prog (.yieldf b) [.slice 1 ((bb l).map ii')] (s ++ tl) fun r σ'=>∃ s' tl',σ' = s' ++ tl ++ tl' ∧ s'.length = n ∧ ((r = .ret (.bool true) ∧ J (done ++ [l]) s') ∨ (r = .ret (.bool false) ∧ Stop s'))) :
  ∀ (many:Nat) (l:List Nat) (a:Nat) (done:List (List Nat)) (s tl:af),J done s → s.length = n → (∀ x ∈ l,x < y.papers.length) → l.length + many ≤ y.papers.length → a ≤ y.papers.length → (∃ rest,all = done ++ fy l (eR y.papers.length many a) ++ rest) →
   Spec Tryz.prog HH [.slice 1 ((bb l).map ii'),ii' a,ii' many, .pval (.yieldf b), .pval y.v, .ptr n 0] (s ++ (.box [oD b n y] :: tl)) fun r σ'=>∃ s' tl',σ' = s' ++ (.box [oD b n y] :: tl') ∧ s'.length = n ∧
    ((r = .ret (.bool true) ∧ J (done ++ fy l (eR y.papers.length many a)) s') ∨ (r = .ret (.bool false) ∧ Stop s'))
 | 0,l,a,done,s,tl,hJ,hs,hl,hlm,ha,hall=>by
  refine Lw (by simp) ?_;have hyy:=hy done l s (.box [oD b n y] :: tl) hJ hs hl (by omega) (by obtain ⟨rest,hr⟩:=hall; exact ⟨rest,by rw [hr,ahead_zero]; simp⟩);refine aa _ ?_;simp [IW];refine ah.bf hyy ?_;rintro r σ' ⟨s',tl',rfl,hs',⟨rfl,hJ'⟩ | ⟨rfl,hS⟩⟩
  ·refine ⟨_,rfl, ?_⟩;simp;exact ⟨s',⟨_,rfl⟩,hs',by rw [ahead_zero]; exact hJ'⟩
  ·refine ⟨_,rfl, ?_⟩;simp;exact ⟨s',⟨_,rfl⟩,hs',hS⟩
 | many + 1,l,a,done,s,tl,hJ,hs,hl,hlm,ha,hall=>by
  have ih:=nI y hm b n all J Stop hy many;refine Lw (by simp) ?_;have gB:∀ (s' l':af),s'.length = n → (s' ++ l')[n]? = l'[0]?:=fun s' l' h=>by rw [← h,List.getElem?_append_right (by omega)]; simp
  have hne:¬ (many:Int) + 1 = 0:=by omega
  have hmo:(many:Int) + 1 ≤ y.papers.length:=by omega
  have w1:IntKind.i64.wrap ((y.papers.length:Int) - (many + 1)) = y.papers.length - (many + 1):=aq (by omega) (by omega);have w2:IntKind.i64.wrap (many:Int) = many:=aq (by omega) (by omega);have hnl:(bb l).length = l.length:=by simp [bb]
  obtain ⟨m,hmm⟩:=zqq y.papers.length;simp only [hmm] at hm hl hlm ha hmo w1 ih hall ⊢;refine aa _ ?_;simp [IW,ab.v,ab.cells,hne];refine AW.loop (ι:=Nat) (fun c fr σ'=>∃ (dn:List (List Nat)) (s' tl':af),fr = { v:=[(0, .slice 1 ((bb l).map ii')),(2,ii' ((many:Int) + 1)),(4, .pval y.v),(5, .ptr n 0),(10, .int .i64 c)],ds:=[] } ∧ σ' = s' ++ (.box [oD b n y] :: tl') ∧ J dn s' ∧ s'.length = n ∧ done ++ fy l (eR m (many + 1) a) = dn ++ fy l (eR m (many + 1) c) ∧ c ≤ m + 1) (fun c=>m + 1 - c) a ⟨done,s,tl,by simp [ab.v,ab.cells],rfl,hJ,hs,rfl,by omega⟩ ?_;rintro c fr σ' ⟨dn,s',tl',rfl,rfl,hJ',hs',hdn,hc⟩;by_cases hcm:c + (many + 1) ≤ m;rotate_left
  ·have hcI:¬ (c:Int) ≤ m - (many + 1):=by omega
   have hfin:J (done ++ fy l (eR m (many + 1) a)) s':=by
    rw [hdn,GO l (by omega),List.append_nil]; exact hJ'
   refine aa _ ?_;simp [ab.v,ab.cells,hmm,w1,hcI];exact ⟨s',⟨_,rfl⟩,hs',hfin⟩
  have hcI:(c:Int) ≤ m - (many + 1):=by omega
  have w3:IntKind.i64.wrap ((c:Int) + 1) = ((c + 1:Nat):Int):=by rw [aq (by omega) (by omega)]; simp
  have hmem:∀ x ∈ l ++ [c],x < m:=fun x hx=>by
   rcases List.mem_append.1 hx with h | h
   ·exact hl x h
   ·rw [List.mem_singleton.1 h]; omega
  refine aa _ ?_;simp [ab.v,ab.cells,hmm,w1,hcI,gB _ _ hs',oD];refine ⟨[.slice 1 [.int .i64 c]],rfl, ?_⟩;refine ah.spec QU (oa _ (yE _) (by simp [bb]; omega) _) ?_;rintro r σ' ⟨rfl,rfl⟩;refine ⟨_,rfl, ?_⟩;have hgl:∀ (x z:cq),(s' ++ x :: (tl' ++ [z]))[(s' ++ x :: tl').length]? = some z:=fun x z=>by
   rw [show s' ++ x :: (tl' ++ [z]) = (s' ++ x :: tl') ++ [z] by simp,List.getElem?_append_right (by omega)]; simp
  have hsl:∀ (x z u:cq),(s' ++ x :: (tl' ++ [z])).set ((s' ++ x :: tl').length) u = s' ++ x :: (tl' ++ [u]):=fun x z u=>by
   rw [show s' ++ x :: (tl' ++ [z]) = (s' ++ x :: tl') ++ [z] by simp,List.set_append_right _ _ (by omega)]; simp
  simp [ab.v,ab.cells,hmm,w1,w2,w3,hcI,gB _ _ hs',oD,fits_int];refine ⟨by rw [hnl]; omega,[],[], ?_⟩
  have hih:=ih (l ++ [c]) (c + 1) dn s' (tl' ++ [.spare 1 2]) hJ' hs' hmem (by simp; omega) (by omega) (by
   obtain ⟨rest,hr⟩:=hall
   exact ⟨fy l (eR m (many + 1) (c + 1)) ++ rest,by rw [hr,hdn,vR l (by omega)]; simp only [List.append_assoc]⟩)
  have hnat:(bb (l ++ [c])).map ii' = (bb l).map ii' ++ [.int .i64 c]:=by simp [bb]
  rw [hnat] at hih;simp only [oD,ab.v,ab.cells] at hih;refine ah.bf (aE.func LR (first:=[]) (caps:=_) (args:=[_,_,_]) hih) ?_;rintro r σ' ⟨s2,tl2,rfl,hs2,⟨rfl,hJ2⟩ | ⟨rfl,hS⟩⟩
  ·refine ⟨_,rfl, ?_⟩;simp;exact ⟨c + 1,by omega,w3,dn ++ fy (l ++ [c]) (eR m many (c + 1)),s2,⟨tl2,rfl⟩,hJ2,hs2,by rw [hdn,vR l (by omega),List.append_assoc],by omega⟩
  ·refine ⟨_,rfl, ?_⟩;simp;exact ⟨s2,⟨tl2,rfl⟩,hs2,hS⟩
theorem yG (ls:List (List Nat)):fy [] ls = ls:=by simp [fy]
theorem ku (y:ab) (hm:y.papers.length ≤ 1000) (b:Nat) (σ:af) (J:List (List Nat) → af → Prop) (Stop:af → Prop)
  (hy:∀ done l s tl,J done s → s.length = σ.length → (∀ x ∈ l,x < y.papers.length) → l.length ≤ y.papers.length → (∃ rest,qH y.papers.length = done ++ l :: rest) →
   aE Tryz.prog (.yieldf b) [.slice 1 ((bb l).map ii')] (s ++ tl) fun r σ'=>∃ s' tl',σ' = s' ++ tl ++ tl' ∧ s'.length = σ.length ∧ ((r = .ret (.bool true) ∧ J (done ++ [l]) s') ∨ (r = .ret (.bool false) ∧ Stop s')))
  (h0:J [] σ) :
  Spec Tryz.prog IQ [.yieldf b, .pval y.v] σ fun r σ'=>r = .ret (.tup []) ∧ ∃ s tl,σ' = s ++ tl ∧ s.length = σ.length ∧ (J (qH y.papers.length) s ∨ Stop s):=by
 refine Q2 (by simp) ?_;obtain ⟨n,hn⟩:=zqq (σ.length);have hf:=nI y hm b n (qH y.papers.length) J Stop (by rw [← hn]; exact hy);rw [hn];obtain ⟨m,hmm⟩:=zqq y.papers.length;rw [hmm] at hm;have w1:IntKind.i64.wrap ((m:Int) + 1) = (m:Int) + 1:=aq (by omega) (by omega);have gB:∀ (s' l':af),s'.length = n → (s' ++ l')[n]? = l'[0]?:=fun s' l' h=>by rw [← h,List.getElem?_append_right (by omega)]; simp
 have sB:∀ (s' l':af) (o:cq),s'.length = n → (s' ++ l').set n o = s' ++ l'.set 0 o:=fun s' l' o h=>by rw [← h,List.set_append_right _ _ (by omega)]; simp
 simp only [hmm] at hf ⊢;refine aa _ ?_;simp [Lf,ab.v,ab.cells,hmm,w1,hn,sB _ _ _ hn];refine AW.loop (ι:=Nat) (fun k fr σ'=>∃ (s' tl':af),fr = { v:=[(3, .ptr n 0),(10, .int .i64 (m + 1)),(11, .int .i64 k)],ds:=[] } ∧ σ' = s' ++ (.box [oD b n y] :: tl') ∧ J ((List.range k).flatMap fun many=>eR m many 0) s' ∧ s'.length = n ∧ k ≤ m + 1) (fun k=>m + 1 - k) 0 ⟨σ,[],by simp,by simp [oD,ab.v,ab.cells],by simpa using h0,hn,by omega⟩ ?_;rintro k fr σ' ⟨s',tl',rfl,rfl,hJ',hs',hk⟩;refine (Nat.lt_or_ge k (m + 1)).elim (fun hlt=>?_) (fun hge=>?_);rotate_left
 ·obtain rfl:k = m + 1:=by omega
  refine aa _ ?_;simp;exact ⟨s',⟨_,rfl⟩,hs', .inl hJ'⟩
 have hltI:(k:Int) < (m:Int) + 1:=by omega
 have w3:IntKind.i64.wrap ((k:Int) + 1) = ((k + 1:Nat):Int):=by rw [aq (by omega) (by omega)]; simp
 have hrest:∃ rest,qH m = ((List.range k).flatMap fun many=>eR m many 0) ++ fy [] (eR m k 0) ++ rest:=by
  refine ⟨((List.range (m - k)).map fun j=>k + 1 + j).flatMap fun many=>eR m many 0, ?_⟩;unfold qH;rw [show m + 1 = (k + 1) + (m - k) by omega,List.range_add,List.flatMap_append,List.range_succ,List.flatMap_append,yG];simp
 have hfk:=hf k [] 0 _ s' tl' hJ' hs' (by simp) (by simp; omega) (by omega) hrest;simp only [oD,ab.v,ab.cells] at hfk;refine aa _ ?_;simp [hltI,gB _ _ hs',oD,ab.v,ab.cells];refine ah.bf (aE.func LR (first:=[]) (caps:=_) (args:=[_,_,_]) hfk) ?_;rintro r σ' ⟨s2,tl2,rfl,hs2,⟨rfl,hJ2⟩ | ⟨rfl,hS⟩⟩
 ·refine ⟨_,rfl, ?_⟩;simp [w3];have hJ3:J ((List.range (k + 1)).flatMap fun many=>eR m many 0) s2:=by
   rw [List.range_succ,List.flatMap_append];rw [yG] at hJ2;simpa using hJ2
  exact ⟨k + 1,by omega,by simp,s2,⟨tl2,rfl⟩,hJ3,hs2,by omega⟩
 ·refine ⟨_,rfl, ?_⟩;simp;exact ⟨s2,⟨_,rfl⟩,hs2, .inr hS⟩
def vp (m:Nat) (but:Int):List Nat:=(List.range m).filter fun i=>decide ((i:Int) ≠ but)
theorem FT (k:Nat) (but:Int):vp (k + 1) but = vp k but ++ if (k:Int) = but then [] else [k]:=by
 unfold vp;rw [List.range_succ,List.filter_append];congr 1;by_cases h:(k:Int) = but <;> simp [h]
theorem oL (y:ab) (hm:y.papers.length ≤ 1000) (but:Int) (σ:af):Spec Tryz.prog My [y.v,ii' but] σ fun r σ'=>r = .ret (.slice 1 ((bb (vp y.papers.length but)).map ii')) ∧ σ' = σ:=by
 refine Spec.aF (S8 (by simp) ?_) (by simp [y.pure,aH]) (by simp [ag.pure,aD (f:=ii') (fun _=>rfl)]) σ;refine aa _ ?_;simp [QR,ab.v,ab.cells];refine AW.loop (ι:=Nat) (fun k fr σ'=>∃ (q:Nat) (tl:af),fr = { v:=[(1,ii' but),(4, .oslice 1 ((bb (vp k but)).map ii') 0 q),(9, .int .i64 y.papers.length),(10, .int .i64 k)],ds:=[] } ∧ σ' = .spare 1 q :: tl ∧ k ≤ y.papers.length) (fun k=>y.papers.length - k) 0 ⟨0,[],by simp [vp,bb],rfl,by omega⟩ ?_;rintro k fr σ' ⟨q,tl,rfl,rfl,hk⟩;refine (Nat.lt_or_ge k y.papers.length).elim (fun hlt=>?_) (fun hge=>?_);rotate_left
 ·obtain rfl:k = y.papers.length:=by omega
  refine aa _ ?_;simp
 have hltI:(k:Int) < y.papers.length:=by omega
 have w3:IntKind.i64.wrap ((k:Int) + 1) = ((k + 1:Nat):Int):=by rw [aq (by omega) (by omega)]; simp
 have hst:=FT k but;have hln:(bb (vp k but)).length ≤ k:=by
  have:=List.length_filter_le (fun i:Nat=>decide ((i:Int) ≠ but)) (List.range k);simp only [bb,List.length_map,vp];simpa using this
 by_cases hb:(k:Int) = but
 ·rw [if_pos hb] at hst;refine aa _ ?_;simp [hltI,eq_true hb,w3];exact ⟨k + 1,by omega,q,⟨⟨by rw [hst]; simp,rfl⟩,by simp⟩,rfl,by omega⟩
 ·rw [if_neg hb] at hst;refine aa _ ?_;simp [hltI,hb,w3,fits_int];exact ⟨by omega,k + 1,by omega,q + 1,⟨⟨by rw [hst]; simp [bb],rfl⟩,by simp⟩,rfl,by omega⟩
def iW (y:ab):Int:=if bW y [] ≠ 0 then bW y [] else if aP y (List.range y.papers.length) then 0 else 9
theorem iN (y:ab) (hy:dv y) (σ:af):Spec Tryz.prog Nb [y.v] σ fun r σ'=>r = .ret (.tup [y.v,ii' (iW y)]) ∧ σ' = σ:=by
 refine Spec.aF (SB (by simp) ?_) (by simp [y.pure,aH]) (by simp [ag.pure,aH,y.pure]) σ;have ho:=fun σ=>eT y hy [] (by simp) σ;unfold iW;simp only [ab.v,ab.cells,List.map_nil] at ho;by_cases h0:bW y [] = 0;rotate_left
 ·rw [if_pos h0];refine aa _ ?_;simp [Nd,ab.v,ab.cells];refine ah.pure nN (ho _) ?_;simp [beq_false_of_ne h0]
 rw [if_neg (by simp [h0])];have hw:=(cJ y []).1 h0;have hv:=hw.valid;have hm10:=hv.m10;have hal:=fun σ=>oL y (by omega) (-1) σ;have e1:vp y.papers.length (-1) = List.range y.papers.length:=by
  unfold vp;rw [List.filter_eq_self];intro a _; simp
 rw [e1] at hal;have hfit:ou (List.range y.papers.length):=by unfold ou; simp [maxLen]; omega
 have hcl:=fun σ=>dk hv (List.range y.papers.length) hfit σ;rw [mZ] at hcl;rw [h0] at ho;simp only [ab.v,ab.cells] at hal hcl;refine aa _ ?_;simp [Nd,ab.v,ab.cells];refine ah.pure nN (ho _) ?_;simp;refine ah.pure Ob (hal _) ?_;simp;refine ah.pure Ay (hcl _) ?_;rcases tf (aP y (List.range y.papers.length)) with hc | hc
 ·simp [hc]
 ·simp [hc]
end Go.AM
