/- Chapter 09: the web of a kind: of the program. Lists: how the reference makes them; how many there are. Plain. -/
import Derived.Test.YtlmhkldmpggadaaGreatDoorP36
import Derived.Test.YtlmhkldmpggadaaGreatDoorP31
namespace Go.AM
open Go.Proofs
set_option maxRecDepth 100000
set_option maxHeartbeats 1000000
/-! ### values -/
theorem xE {sz:Nat} {l:List ag} (h:∀ v ∈ l, ∃ cs,v = .agg cs ∧ cs.length = sz ∧ fM cs = true):Fits sz l:=by
 intro v hv;obtain ⟨cs,rfl,h1,h2⟩:=h v hv;exact ⟨h1,h2⟩
theorem tz (a b c d e:Int):Fits 5 [.agg [ii' a,ii' b,ii' c,ii' d,ii' e]]:=xE fun v hv=>by
 simp at hv; exact ⟨_,hv,rfl,rfl⟩
theorem zN (a b c d e a' b' c' d' e':Int):Fits 5 [.agg [ii' a,ii' b,ii' c,ii' d,ii' e], .agg [ii' a',ii' b',ii' c',ii' d',ii' e']]:=xE fun v hv=>by
 simp at hv;rcases hv with h | h <;> exact ⟨_,h,rfl,rfl⟩
def fh (es:List aI):List ag:=es.map fun e=>e.v e.low
def bu (es:List aI) (f:Nat → Int):List ag:=es.mapIdx fun i e=>e.v (f i)
theorem bj (es:List aI) (f:Nat → Int):(bu es f).length = es.length:=by simp [bu]
theorem ml {es:List aI} {f:Nat → Int} {i:Nat} (h:i < es.length):(bu es f)[i]? = some (es[i].v (f i)):=by simp [bu,h]
theorem tT {es:List aI} {f:Nat → Int} {i:Nat} (h:i < es.length) (d:Int):(bu es f).set i (es[i].v (f i + d)) = bu es (cG f i d):=by
 apply List.ext_getElem?;intro j;rw [List.getElem?_set];by_cases e:i = j
 ·subst e;rw [if_pos rfl,bj,if_pos h,ml h];simp [cG]
 ·rw [if_neg e];rcases Nat.lt_or_ge j es.length with hj | hj
  ·rw [ml hj,ml hj];unfold cG; rw [if_neg (fun h=>e h.symm)]
  ·rw [List.getElem?_eq_none (by rw [bj]; exact hj),List.getElem?_eq_none (by rw [bj]; exact hj)]
def rn (y:ab) (wrong:List Nat) (k:Int):Nat → Int:=fun i=>((cX y wrong k y.places.length y.papers.length)[i]?.map aI.low).getD 0
theorem DQ (y:ab) (wrong:List Nat) (k:Int):fh (cX y wrong k y.places.length y.papers.length) ++ [(⟨y.places.length,y.places.length + 1, -aw,aw⟩:aI).v 0] =
  bu (aW y k y.places.length (ba y wrong k) (-aw) aw) (rn y wrong k):=by
 rw [← rB y wrong k (Nat.le_refl _) (-aw) aw];obtain ⟨W,hW⟩:=zqq (cX y wrong k y.places.length y.papers.length);unfold rn;rw [hW];apply List.ext_getElem?;intro j;rcases Nat.lt_or_ge j W.length with h | h
 ·rw [List.getElem?_append_left (by simpa [fh] using h),ml (by simp; omega)];simp [fh,h,List.getElem_append_left h]
 ·rcases Nat.lt_or_ge W.length j with h2 | h2
  ·rw [List.getElem?_eq_none (by simp [fh]; omega),List.getElem?_eq_none (by simp [bu]; omega)]
  ·obtain rfl:j = W.length:=by omega
   rw [List.getElem?_append_right (by simp [fh]),ml (by simp)];simp [fh]
def dJ (y:ab) (k:Int) (i:Nat):List Int:=(List.range y.papers.length).map (vm y k i)
theorem Ee (y:ab) (k:Int):dJ y k 0 = List.replicate y.papers.length 0:=by
 unfold dJ;rw [List.eq_replicate_iff];refine ⟨by simp,fun b hb=>?_⟩;obtain ⟨a,_,rfl⟩:=List.mem_map.1 hb;exact Gb y k a
theorem Dk {nm:ByteArray → Bool} {y:ab} (h:bJ nm y) {k:Int} {i:Nat} (hi:i < y.papers.length) (hk:¬ (y.papers[i].kind = k ∧ br y.papers[i] i = true)):dJ y k (i + 1) = dJ y k i:=by
 unfold dJ;refine List.map_congr_left fun a ha=>?_;exact GY h hi (List.mem_range.1 ha) hk
theorem Ew {nm:ByteArray → Bool} {y:ab} (h:bJ nm y) {k:Int} {i:Nat} (hi:i < y.papers.length) (hk:y.papers[i].kind = k) (hl:br y.papers[i] i = true) {v:Int} (hv:v = ((2 * y.places.length + fN k y.papers 0 i:Nat):Int)) :
  dJ y k (i + 1) = (if 0 ≤ y.papers[i].copy then ((dJ y k i).set i v).set y.papers[i].copy.toNat v else (dJ y k i).set i v):=by
 subst hv;have hc:y.papers[i].copy = -1 ∨ 0 ≤ y.papers[i].copy:=by
  rcases (h.papers i hi).copy with e | e
  ·exact .inl e
  ·exact .inr e.1
 apply List.ext_getElem?;intro a;rcases Nat.lt_or_ge a y.papers.length with ha | ha
 ·have e1:∀ i,(dJ y k i)[a]? = some (vm y k i a):=fun i=>by simp [dJ,ha]
  rw [e1,GV h hi ha hk hl];have hl1:a < (dJ y k i).length:=by simpa [dJ] using ha
  by_cases h0:0 ≤ y.papers[i].copy
  ·rw [if_pos h0,List.getElem?_set,List.getElem?_set,e1];by_cases c1:y.papers[i].copy.toNat = a
   ·rw [if_pos c1,if_pos (Or.inr (by omega):a = i ∨ (a:Int) = y.papers[i].copy),if_pos (by rw [List.length_set,c1]; exact hl1)]
   ·rw [if_neg c1];by_cases c2:i = a
    ·rw [if_pos c2,if_pos (Or.inl c2.symm:a = i ∨ (a:Int) = y.papers[i].copy),if_pos (by omega)]
    ·rw [if_neg c2,if_neg (by omega:¬ (a = i ∨ (a:Int) = y.papers[i].copy))]
  ·rw [if_neg h0,List.getElem?_set,e1];by_cases c2:i = a
   ·rw [if_pos c2,if_pos (Or.inl c2.symm:a = i ∨ (a:Int) = y.papers[i].copy),if_pos (by omega)]
   ·rw [if_neg c2,if_neg (by omega:¬ (a = i ∨ (a:Int) = y.papers[i].copy))]
 ·have e1:∀ i,(dJ y k i).length = y.papers.length:=fun i=>by simp [dJ]
  rw [List.getElem?_eq_none (by rw [e1]; exact ha)];split
  ·rw [List.getElem?_eq_none (by simp [e1]; exact ha)]
  ·rw [List.getElem?_eq_none (by simp [e1]; exact ha)]
theorem vk (n:Nat) (a:Int) (ha:-1 ≤ a) (σ:af):Spec Tryz.prog HD [ii' a, .pval (ii' n)] σ fun r σ'=>r = .ret (ii' (fj n a:Nat)) ∧ σ' = σ:=by
 refine Spec.aF (Qh (by simp) ?_) rfl rfl σ;by_cases h:a = -1
 ·subst h;refine aa _ ?_;simp [Hq,fj]
 ·have e:((fj n a:Nat):Int) = a:=by unfold fj; rw [if_neg (by omega)]; omega
  rw [e];refine aa _ ?_;simp [Hq,h]
def ub (jv:List Int) (ev:List ag) (nodes:Nat) (o:Int) (B:Nat):af:=[.dead, .arr 1 (jv.map ii'), .arr 5 ev, .box [.sref 5 (B + 2) 0 ev.length ev.length,ii' nodes, .sref 1 (B + 1) 0 jv.length jv.length,ii' o]]
theorem DW (k:Int):∀ (l:List aj) (i a:Nat),fN k l i a ≤ l.length
 | [],_,_=>by simp [fN]
 | p :: r,i,a=>by
  have:=DW k r (i + 1) a;simp only [fN,List.length_cons];split
  ·omega
  ·split <;> omega
theorem n8 {nm:ByteArray → Bool} {y:ab} (hv:bJ nm y) (wrong:List Nat) (hw:ou wrong) (k:Int) (σ:af) :
  Spec Tryz.prog I5 [y.v,ii' k,mT wrong] σ fun r σ'=>r = .ret (.ptr (σ.length + 3) 0) ∧ ∃ tl,σ' = σ ++ (ub (dJ y k y.papers.length) (bu (aW y k y.places.length (ba y wrong k) (-aw) aw) (rn y wrong k)) (y.places.length + 2) (2 * y.places.length + (ba y wrong k).length:Nat) σ.length ++ tl):=by
 refine Ry (by simp) ?_;have hn4:=hv.p4.2;have hm10:=hv.m10;have hfi:y.first.length ≤ maxLen:=by have:=hv.f8; simp only [maxLen]; omega
 have hla:y.last.length ≤ maxLen:=by have:=hv.l8; simp only [maxLen]; omega
 have hal:=fun i hi σ=>lf hv wrong hw i hi σ;have hle:=fun i hi σ=>mr y i hi σ;have hff:=fun p σ=>fL y.first hfi k p σ
 have hfl:=fun p σ=>fL y.last hla k p σ;rw [← DQ];obtain ⟨L,hL⟩:∃ L,mT wrong = .slice 1 L:=⟨_,rfl⟩;rw [hL] at hal ⊢;simp only [ab.v,ab.cells,yQ] at hal hle hff hfl;obtain ⟨n,hn⟩:=zqq y.places.length;obtain ⟨m,hm⟩:=zqq y.papers.length;have w1:IntKind.i64.wrap ((n:Int) + 1) = (n:Int) + 1:=aq (by omega) (by omega);have w2:IntKind.i64.wrap ((n:Int) + 1 + 1) = (n:Int) + 2:=by rw [aq (by omega) (by omega)]; omega
 obtain ⟨S,hS⟩:=zqq (σ.length);refine aa _ ?_;simp [L9,ab.v,ab.cells,hn,hm,w1,w2,hS];have gS:∀ (l:af) (j:Nat),(σ ++ l)[S + j]? = l[j]?:=fun l j=>by rw [← hS,List.getElem?_append_right (by omega)]; congr 1; omega
 have sS:∀ (l:af) (j:Nat) (o:cq),(σ ++ l).set (S + j) o = σ ++ l.set j o:=fun l j o=>by rw [← hS,List.set_append_right _ _ (by omega)]; congr 2; omega
 obtain ⟨yv,hyv⟩:∃ v,(ag.agg [.slice 1 (y.kinds.map .str), .slice 1 (y.places.map .str), .slice 4 (y.first.map ay.v), .slice 5 (y.papers.map aj.v), .slice 4 (y.last.map ay.v)]) = v:=⟨_,rfl⟩;refine ⟨by omega,by omega, ?_⟩;refine AW.loop (ι:=Nat) (fun a fr σ'=>∃ (tl:af),fr = { v:=[(1,ii' k),(2, .slice 1 L),(3, .pval (.agg [.slice 1 (y.kinds.map .str), .slice 1 (y.places.map .str), .slice 4 (y.first.map ay.v), .slice 5 (y.papers.map aj.v), .slice 4 (y.last.map ay.v)])),(7, .pval (.int .i64 n)),(8, .int .i64 (n + 1)),(9, .ptr (S + 3) 0),(10, .func (.func 163) [] [.pval (.int .i64 n)]),(38, .int .i64 n),(39, .int .i64 a)],ds:=[] } ∧ σ' = σ ++ ([.dead, .arr 1 (List.replicate m (.int .i64 0)), .arr 5 (fh (cX y wrong k a 0)), .box [.sref 5 (S + 2) 0 (2 * a) (2 * a), .int .i64 (n + 2), .sref 1 (S + 1) 0 m m, .int .i64 0]] ++ tl) ∧ a ≤ n) (fun a=>n - a) 0 ⟨[],by simp,by simp [cX,bR,kJ,fh],by omega⟩ ?_;rintro a fr σ' ⟨tl,rfl,rfl,ha⟩;refine (Nat.lt_or_ge a n).elim (fun hlt=>?_) (fun hge=>?_)
 ·have hwa:IntKind.i64.wrap ((a:Int) + 1) = ((a + 1:Nat):Int):=by rw [aq (by omega) (by omega)]; simp
  have h1:=hff a;have h2:=hfl a;obtain ⟨o1,ho1⟩:∃ o,aB y.first k a = o:=⟨_,rfl⟩
  obtain ⟨o2,ho2⟩:∃ o,aB y.last k a = o:=⟨_,rfl⟩;have hst:=AX y wrong k a;have hel:(fh (cX y wrong k a 0)).length = 2 * a:=by simp [fh,cX,cM,kJ]
  obtain ⟨es,hes⟩:=zqq (fh (cX y wrong k a 0));rw [hes] at hel ⊢;rw [ho1] at h1;rw [ho2] at h2
  cases o2 with
  | none=>
   simp at h2;refine aa _ ?_;simp [hlt];refine ah.pure zL (h1 _) ?_;simp [hlt];refine ah.pure zL (h2 _) ?_;simp [hlt,gS,sS];exact ⟨zN _ _ _ _ _ _ _ _ _ _,hel,by omega,a + 1,by omega,hwa,⟨by rw [hst, ← hes]; simp [fh,aI.v,aI.cells,ho1,ho2,hn,dh,hiC,aw],by omega⟩,by omega⟩
  | some c=>
   simp at h2;refine aa _ ?_;simp [hlt];refine ah.pure zL (h1 _) ?_;simp [hlt];refine ah.pure zL (h2 _) ?_;simp [hlt,gS,sS];exact ⟨zN _ _ _ _ _ _ _ _ _ _,hel,by omega,a + 1,by omega,hwa,⟨by rw [hst, ← hes]; simp [fh,aI.v,aI.cells,ho1,ho2,hn,dh,hiC],by omega⟩,by omega⟩
 obtain rfl:a = n:=by omega
 have hel:(fh (cX y wrong k a 0)).length = 2 * a:=by simp [fh,cX,cM,kJ,hn]
 obtain ⟨A,hA⟩:=zqq (2 * a);have c0:fN k y.papers 0 0 = 0:=by cases y.papers <;> simp [fN]
 have hwl:=fun i (hi:i ≤ y.papers.length)=>Ed y wrong k hi;rw [hA] at hel ⊢;refine aa _ ?_;simp [hm];refine AW.loop (ι:=Nat) (fun i fr σ'=>∃ (tl:af),fr = { v:=[(1,ii' k),(2, .slice 1 L),(3, .pval (.agg [.slice 1 (y.kinds.map .str), .slice 1 (y.places.map .str), .slice 4 (y.first.map ay.v), .slice 5 (y.papers.map aj.v), .slice 4 (y.last.map ay.v)])),(7, .pval (.int .i64 a)),(8, .int .i64 (a + 1)),(9, .ptr (S + 3) 0),(10, .func (.func 163) [] [.pval (.int .i64 a)]),(95, .slice 5 (y.papers.map aj.v)),(96, .int .i64 m),(97, .int .i64 i)],ds:=[] } ∧ σ' = σ ++ ([.dead, .arr 1 ((dJ y k i).map ii'), .arr 5 (fh (cX y wrong k a i)), .box [.sref 5 (S + 2) 0 (A + fN k y.papers 0 i) (A + fN k y.papers 0 i), .int .i64 (a + 2), .sref 1 (S + 1) 0 m m, .int .i64 0]] ++ tl) ∧ i ≤ m) (fun i=>m - i) 0 ⟨tl,by simp,by simp [Ee,hm,c0],by omega⟩ ?_;rintro i fr σ' ⟨tl,rfl,rfl,hi⟩;refine (Nat.lt_or_ge i m).elim (fun hlt=>?_) (fun hge=>?_)
 ·have hli:i < y.papers.length:=by omega
  have hwi:IntKind.i64.wrap ((i:Int) + 1) = ((i + 1:Nat):Int):=by rw [aq (by omega) (by omega)]; simp
  have hpv:=hv.papers i hli;have hlei:=hle i hli;have hali:=hal i hli;have hpa:=Am wrong k hli y.places.length;have hw0:=hwl i (by omega);have hw1:=hwl (i + 1) (by omega);have hcl:=DW k y.papers 0 i;have hel2:(fh (cX y wrong k a i)).length = A + fN k y.papers 0 i:=by simp only [fh,List.length_map]; rw [← hA, ← hn]; exact hw0
  have hjs:=fun hk=>Dk hv (k:=k) hli hk;have hjt:=fun hk hl v hv'=>Ew hv (k:=k) hli hk hl (v:=v) hv';have hjl:(dJ y k i).length = m:=by simp [dJ,hm]
  rw [hpa] at hw1;rw [hn] at hpa;obtain ⟨p,hp⟩:=zqq (y.papers[i]);rw [hp] at hpa hpv hlei hali hw1 hjs hjt;obtain ⟨es,hes⟩:=zqq (fh (cX y wrong k a i));rw [hes] at hel2 ⊢;obtain ⟨jl,hjle⟩:=zqq (dJ y k i);rw [hjle] at hjl hjs hjt ⊢;obtain ⟨c,hc⟩:=zqq (fN k y.papers 0 i);rw [hc] at hel2 hw0 hcl ⊢;by_cases hk1:p.kind = k;rotate_left
  ·have hneg:¬ (p.kind = k ∧ br p i = true):=fun h=>hk1 h.1;rw [if_neg hneg] at hpa hw1;have hce:fN k y.papers 0 (i + 1) = c:=by simp at hw1; omega
   refine aa _ ?_;simp [hlt,hli,hp,aj.v,aj.cells,hk1,hwi];exact ⟨i + 1,by omega,by simp,by rw [hjs hneg,hpa,hce]; simp [hes],by omega⟩
  rcases tf (br p i) with hl1 | hl1
  ·have hneg:¬ (p.kind = k ∧ br p i = true):=fun h=>by rw [hl1] at h; exact absurd h.2 (by simp)
   rw [if_neg hneg] at hpa hw1;rw [hl1] at hlei;have hce:fN k y.papers 0 (i + 1) = c:=by simp at hw1; omega
   refine aa _ ?_;simp [hlt,hli,hp,aj.v,aj.cells,hk1];refine ah.pure uW (hlei _) ?_;simp [hlt,hli,hp,aj.v,aj.cells,hk1,hwi];exact ⟨i + 1,by omega,by simp,by rw [hjs hneg,hpa,hce]; simp [hes],by omega⟩
  rw [if_pos ⟨hk1,hl1⟩] at hpa hw1;have hce:fN k y.papers 0 (i + 1) = c + 1:=by simp at hw1; omega
  rw [hl1] at hlei;have hjt':=hjt hk1 hl1 ((A:Int) + c) (by rw [hn]; omega);have hnd:∀ b σ', -1 ≤ b → aE Tryz.prog (.func (.func 163) [] [.pval (.int .i64 a)]) [ii' b] σ' fun r σ''=>r = .ret (ii' (fj a b:Nat)) ∧ σ'' = σ':=by
   intro b σ' hb;exact aE.func OC (vk a b hb σ')
  have hal1:=hali;obtain ⟨s1,hs1⟩:∃ x,(aZ y wrong p i).1 = x:=⟨_,rfl⟩;obtain ⟨s2,hs2⟩:∃ x,(aZ y wrong p i).2 = x:=⟨_,rfl⟩;rw [hs1,hs2] at hal1;have hco:p.copy = -1 ∨ 0 ≤ p.copy:=by
   rcases hpv.copy with e | e
   ·exact .inl e
   ·exact .inr e.1
  have hwayeq:(fh (cX y wrong k a (i + 1))) = es ++ [.agg [ii' (fj a p.src:Nat),ii' (fj a p.dst:Nat),ii' s1,ii' s2,ii' s1]]:=by
   rw [← hn] at hpa ⊢;rw [hpa, ← hes, ← hn];simp [fh,aI.v,aI.cells,cZ,xY,hs1,hs2]
  have hnd1:=fun σ'=>hnd p.src σ' hpv.src.1;have hnd2:=fun σ'=>hnd p.dst σ' hpv.dst.1;have hltI:(i:Int) < m:=by omega
  rcases hco with hco | hco
  ·rw [if_neg (by omega)] at hjt';refine aa _ ?_;simp [hltI,hli,hp,aj.v,aj.cells,hk1];refine ah.pure uW (hlei _) ?_;simp [hlt,hltI,hli,hp,aj.v,aj.cells,hk1,hwi,gS,sS,hjl,hco];refine ah.pure zd (hal1 _) ?_;simp [hltI,hli,hp,aj.v,aj.cells,hk1,hwi,gS,sS,hco];refine ⟨_,hnd1,_,hnd2, ?_⟩;simp;exact ⟨tz _ _ _ _ _,hel2,by omega,i + 1,by omega,by simp,⟨by rw [hjt',List.map_set],hwayeq.symm,by omega⟩,by omega⟩
  rw [if_pos hco] at hjt';have hcb:p.copy.toNat < m:=by
   rcases hpv.copy with e | e
   ·omega
   ·omega
  obtain ⟨cp,hcp⟩:∃ cp:Nat,p.copy = cp:=⟨p.copy.toNat,by omega⟩;rw [hcp] at hjt' hcb;simp at hjt' hcb;have hcbI:(cp:Int) < m:=by omega
  obtain ⟨jm,hjm⟩:=zqq (jl.set i ((A:Int) + c));have hset:(List.map ii' jl).set i (.int .i64 ((A:Int) + c)) = List.map ii' jm:=by rw [← hjm,List.map_set]
  have hjml:jm.length = m:=by rw [← hjm,List.length_set]; exact hjl
  rw [hjm] at hjt';refine aa _ ?_;simp [hltI,hli,hp,aj.v,aj.cells,hk1];refine ah.pure uW (hlei _) ?_;simp [hlt,hltI,hli,hp,aj.v,aj.cells,hk1,hwi,gS,sS,hjl,hcp,hcb,hcbI,hset,hjml];refine ah.pure zd (hal1 _) ?_;simp [hltI,hli,hp,aj.v,aj.cells,hk1,hwi,gS,sS,hcp];refine ⟨_,hnd1,_,hnd2, ?_⟩;simp;exact ⟨tz _ _ _ _ _,hel2,by omega,i + 1,by omega,by simp,⟨by rw [hjt',List.map_set],hwayeq.symm,by omega⟩,by omega⟩
 obtain rfl:i = m:=by omega
 have hcm:A + fN k y.papers 0 i = 2 * a + (ba y wrong k).length:=by
  have e1:=congrArg List.length (rB y wrong k (i:=i) (by omega) 0 0);rw [jq] at e1;have e2:=hwl i (by omega);simp at e1;omega
 refine aa _ ?_;simp [gS,sS];refine ⟨tz _ _ _ _ _, ?_, ?_,tl, ?_⟩
 ·have:=hwl i (by omega);rw [hn] at this;simp [fh]; omega
 ·have:=DW k y.papers 0 i;omega
 have hcmI:(A:Int) + fN k y.papers 0 i = 2 * a + (ba y wrong k).length:=by omega
 have hel3:(fh (cX y wrong k a i)).length = A + fN k y.papers 0 i:=by have:=hwl i (by omega); rw [hn] at this; simp [fh]; omega
 rw [hcmI];simp [ub,aI.v,aI.cells,aw,hel3,dJ,hm]
theorem tE (m:Nat):∀ (d many a:Nat),m - a = d → (eR m many a).length ≤ 2 ^ d
 | d,0,a,_=>by simp only [eR,List.length_singleton]; exact Nat.one_le_two_pow
 | 0,many + 1,a,h=>by rw [K4 (by omega)]; simp
 | d + 1,many + 1,a,h=>by
  rw [BG (by omega),List.length_append,List.length_map];have h1:=tE m d many (a + 1) (by omega);have h2:=tE m d (many + 1) (a + 1) (by omega);rw [Nat.pow_succ]; omega
theorem Cq {m:Nat} (h:m ≤ 10) (many:Nat):(eR m many 0).length ≤ 1024:=
 Nat.le_trans (tE m m many 0 (by omega)) (Nat.le_trans (Nat.pow_le_pow_right (by omega) h) (by decide))
theorem J7 {y:ab} (h:y.papers.length ≤ 10) (many:Nat):(atW y many).length ≤ 1024:=Nat.le_trans (List.length_filter_le _ _) (Cq h many)
theorem BH {n k:Nat}:∀ ls:List (List Nat),(∀ l ∈ ls,l.length ≤ n) → ls.length ≤ k → ls.flatten.length ≤ k * n
 | [],_,_=>by simp
 | l :: r,h,hk=>by
  obtain ⟨j,rfl⟩:∃ j,k = j + 1:=⟨k - 1,by simp at hk; omega⟩;have:=BH (n:=n) (k:=j) r (fun x hx=>h x (by simp [hx])) (by simpa using hk);have h0:=h l (by simp);rw [List.flatten_cons,List.length_append,Nat.succ_mul]; omega
end Go.AM
