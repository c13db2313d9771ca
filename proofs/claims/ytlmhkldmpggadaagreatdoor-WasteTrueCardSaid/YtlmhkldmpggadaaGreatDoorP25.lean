/- Chapter 09: the web of a kind: of the program. Lists: how the reference makes them; how many there are. Plain. Chapter 09: what can go on ways, pushing more from a node to nodes that want it: of the program. Chapter 09: balancing a web; whether a yard closes for a kind: of the program. -/
import Derived.Test.YtlmhkldmpggadaaGreatDoorP24
import Derived.Test.YtlmhkldmpggadaaGreatDoorP21
namespace Go.AM
open Go.Proofs
set_option maxRecDepth 100000
set_option maxHeartbeats 1000000
/-! ### values -/
theorem xE {sz:Nat} {l:List ag} (h:∀ v ∈ l, ∃ cs,v = .agg cs ∧ cs.length = sz ∧ fM cs = true):Fits sz l:=by
 intro v hv;obtain ⟨cs,rfl,h1,h2⟩:=h v hv;exact ⟨h1,h2⟩
theorem tz (a b c d e:Int):Fits 5 [.agg [ii' a,ii' b,ii' c,ii' d,ii' e]]:=xE fun v hv=>by
 simp at hv; exact ⟨_,hv,rfl,rfl⟩
theorem zN (a b c d e a' b' c' d' e':Int):Fits 5 [.agg [ii' a,ii' b,ii' c,ii' d,ii' e], .agg [ii' a',ii' b',ii' c',ii' d',ii' e']]:=xE fun v hv=>by
 simp at hv;rcases hv with h | h <;> exact ⟨_,h,rfl,rfl⟩
def fh (es:List aI):List ag:=es.map fun e=>e.v e.low
def bu (es:List aI) (f:Nat → Int):List ag:=es.mapIdx fun i e=>e.v (f i)
theorem bj (es:List aI) (f:Nat → Int):(bu es f).length = es.length:=by simp [bu]
theorem eQ {es:List aI} {f:Nat → Int} {i:Nat} (h:i < es.length):(bu es f)[i]? = some (es[i].v (f i)):=by simp [bu,h]
theorem HI {es:List aI} {f:Nat → Int} {i:Nat} (h:i < es.length) (d:Int):(bu es f).set i (es[i].v (f i + d)) = bu es (cG f i d):=by
 apply List.ext_getElem?;intro j;rw [List.getElem?_set];by_cases e:i = j
 ·subst e;rw [if_pos rfl,bj,if_pos h,eQ h];simp [cG]
 ·rw [if_neg e];rcases Nat.lt_or_ge j es.length with hj | hj
  ·rw [eQ hj,eQ hj];unfold cG; rw [if_neg (fun h=>e h.symm)]
  ·rw [List.getElem?_eq_none (by rw [bj]; exact hj),List.getElem?_eq_none (by rw [bj]; exact hj)]
def rn (y:ab) (wrong:List Nat) (k:Int):Nat → Int:=fun i=>((cX y wrong k y.places.length y.papers.length)[i]?.map aI.low).getD 0
theorem DQ (y:ab) (wrong:List Nat) (k:Int):fh (cX y wrong k y.places.length y.papers.length) ++ [(⟨y.places.length,y.places.length + 1, -aw,aw⟩:aI).v 0] =
  bu (aW y k y.places.length (ba y wrong k) (-aw) aw) (rn y wrong k):=by
 rw [← rB y wrong k (Nat.le_refl _) (-aw) aw];obtain ⟨W,hW⟩:=zqq (cX y wrong k y.places.length y.papers.length);unfold rn;rw [hW];apply List.ext_getElem?;intro j;rcases Nat.lt_or_ge j W.length with h | h
 ·rw [List.getElem?_append_left (by simpa [fh] using h),eQ (by simp; omega)];simp [fh,h,List.getElem_append_left h]
 ·rcases Nat.lt_or_ge W.length j with h2 | h2
  ·rw [List.getElem?_eq_none (by simp [fh]; omega),List.getElem?_eq_none (by simp [bu]; omega)]
  ·obtain rfl:j = W.length:=by omega
   rw [List.getElem?_append_right (by simp [fh]),eQ (by simp)];simp [fh]
def dJ (y:ab) (k:Int) (i:Nat):List Int:=(List.range y.papers.length).map (vm y k i)
theorem Ee (y:ab) (k:Int):dJ y k 0 = List.replicate y.papers.length 0:=by
 unfold dJ;rw [List.eq_replicate_iff];refine ⟨by simp,fun b hb=>?_⟩;obtain ⟨a,_,rfl⟩:=List.mem_map.1 hb;exact Gb y k a
theorem Dk {nm:ByteArray → Bool} {y:ab} (h:bJ nm y) {k:Int} {i:Nat} (hi:i < y.papers.length) (hk:¬ (y.papers[i].kind = k ∧ br y.papers[i] i = true)):dJ y k (i + 1) = dJ y k i:=by
 unfold dJ;refine List.map_congr_left fun a ha=>?_;exact GY h hi (List.mem_range.1 ha) hk
theorem Ew {nm:ByteArray → Bool} {y:ab} (h:bJ nm y) {k:Int} {i:Nat} (hi:i < y.papers.length) (hk:y.papers[i].kind = k) (hl:br y.papers[i] i = true) {v:Int} (hv:v = ((2 * y.places.length + fN k y.papers 0 i:Nat):Int)) :
  dJ y k (i + 1) = (if 0 ≤ y.papers[i].copy then ((dJ y k i).set i v).set y.papers[i].copy.toNat v else (dJ y k i).set i v):=by
 subst hv;have hc:y.papers[i].copy = -1 ∨ 0 ≤ y.papers[i].copy:=by
  rcases (h.papers i hi).copy with e | e
  ·exact .inl e
  ·exact .inr e.1
 apply List.ext_getElem?;intro a;rcases Nat.lt_or_ge a y.papers.length with ha | ha
 ·have e1:∀ i,(dJ y k i)[a]? = some (vm y k i a):=fun i=>by simp [dJ,ha]
  rw [e1,GV h hi ha hk hl];have hl1:a < (dJ y k i).length:=by simpa [dJ] using ha
  by_cases h0:0 ≤ y.papers[i].copy
  ·rw [if_pos h0,List.getElem?_set,List.getElem?_set,e1];by_cases c1:y.papers[i].copy.toNat = a
   ·rw [if_pos c1,if_pos (Or.inr (by omega):a = i ∨ (a:Int) = y.papers[i].copy),if_pos (by rw [List.length_set,c1]; exact hl1)]
   ·rw [if_neg c1];by_cases c2:i = a
    ·rw [if_pos c2,if_pos (Or.inl c2.symm:a = i ∨ (a:Int) = y.papers[i].copy),if_pos (by omega)]
    ·rw [if_neg c2,if_neg (by omega:¬ (a = i ∨ (a:Int) = y.papers[i].copy))]
  ·rw [if_neg h0,List.getElem?_set,e1];by_cases c2:i = a
   ·rw [if_pos c2,if_pos (Or.inl c2.symm:a = i ∨ (a:Int) = y.papers[i].copy),if_pos (by omega)]
   ·rw [if_neg c2,if_neg (by omega:¬ (a = i ∨ (a:Int) = y.papers[i].copy))]
 ·have e1:∀ i,(dJ y k i).length = y.papers.length:=fun i=>by simp [dJ]
  rw [List.getElem?_eq_none (by rw [e1]; exact ha)];split
  ·rw [List.getElem?_eq_none (by simp [e1]; exact ha)]
  ·rw [List.getElem?_eq_none (by simp [e1]; exact ha)]
theorem vk (n:Nat) (a:Int) (ha:-1 ≤ a) (σ:af):Spec Tryz.prog HD [ii' a, .pval (ii' n)] σ fun r σ'=>r = .ret (ii' (fj n a:Nat)) ∧ σ' = σ:=by
 refine Spec.aF (Qh (by simp) ?_) rfl rfl σ;by_cases h:a = -1
 ·subst h;refine aa _ ?_;simp [Hq,fj]
 ·have e:((fj n a:Nat):Int) = a:=by unfold fj; rw [if_neg (by omega)]; omega
  rw [e];refine aa _ ?_;simp [Hq,h]
def ub (jv:List Int) (ev:List ag) (nodes:Nat) (o:Int) (B:Nat):af:=[.dead, .arr 1 (jv.map ii'), .arr 5 ev, .box [.sref 5 (B + 2) 0 ev.length ev.length,ii' nodes, .sref 1 (B + 1) 0 jv.length jv.length,ii' o]]
theorem DW (k:Int):∀ (l:List aj) (i a:Nat),fN k l i a ≤ l.length
 | [],_,_=>by simp [fN]
 | p :: r,i,a=>by
  have:=DW k r (i + 1) a;simp only [fN,List.length_cons];split
  ·omega
  ·split <;> omega
theorem n8 {nm:ByteArray → Bool} {y:ab} (hv:bJ nm y) (wrong:List Nat) (hw:ou wrong) (k:Int) (σ:af) :
  Spec Tryz.prog I5 [y.v,ii' k,mT wrong] σ fun r σ'=>r = .ret (.ptr (σ.length + 3) 0) ∧ ∃ tl,σ' = σ ++ (ub (dJ y k y.papers.length) (bu (aW y k y.places.length (ba y wrong k) (-aw) aw) (rn y wrong k)) (y.places.length + 2) (2 * y.places.length + (ba y wrong k).length:Nat) σ.length ++ tl):=by
 refine Ry (by simp) ?_;have hn4:=hv.p4.2;have hm10:=hv.m10;have hfi:y.first.length ≤ maxLen:=by have:=hv.f8; simp only [maxLen]; omega
 have hla:y.last.length ≤ maxLen:=by have:=hv.l8; simp only [maxLen]; omega
 have hal:=fun i hi σ=>lf hv wrong hw i hi σ;have hle:=fun i hi σ=>mr y i hi σ;have hff:=fun p σ=>fL y.first hfi k p σ
 have hfl:=fun p σ=>fL y.last hla k p σ;rw [← DQ];obtain ⟨L,hL⟩:∃ L,mT wrong = .slice 1 L:=⟨_,rfl⟩;rw [hL] at hal ⊢;simp only [ab.v,ab.cells,yQ] at hal hle hff hfl;obtain ⟨n,hn⟩:=zqq y.places.length;obtain ⟨m,hm⟩:=zqq y.papers.length;have w1:IntKind.i64.wrap ((n:Int) + 1) = (n:Int) + 1:=aq (by omega) (by omega);have w2:IntKind.i64.wrap ((n:Int) + 1 + 1) = (n:Int) + 2:=by rw [aq (by omega) (by omega)]; omega
 obtain ⟨S,hS⟩:=zqq (σ.length);refine aa _ ?_;simp [L9,ab.v,ab.cells,hn,hm,w1,w2,hS];have gS:∀ (l:af) (j:Nat),(σ ++ l)[S + j]? = l[j]?:=fun l j=>by rw [← hS,List.getElem?_append_right (by omega)]; congr 1; omega
 have sS:∀ (l:af) (j:Nat) (o:cq),(σ ++ l).set (S + j) o = σ ++ l.set j o:=fun l j o=>by rw [← hS,List.set_append_right _ _ (by omega)]; congr 2; omega
 obtain ⟨yv,hyv⟩:∃ v,(ag.agg [.slice 1 (y.kinds.map .str), .slice 1 (y.places.map .str), .slice 4 (y.first.map ay.v), .slice 5 (y.papers.map aj.v), .slice 4 (y.last.map ay.v)]) = v:=⟨_,rfl⟩;refine ⟨by omega,by omega, ?_⟩;refine AW.loop (ι:=Nat) (fun a fr σ'=>∃ (tl:af),fr = { v:=[(1,ii' k),(2, .slice 1 L),(3, .pval (.agg [.slice 1 (y.kinds.map .str), .slice 1 (y.places.map .str), .slice 4 (y.first.map ay.v), .slice 5 (y.papers.map aj.v), .slice 4 (y.last.map ay.v)])),(7, .pval (.int .i64 n)),(8, .int .i64 (n + 1)),(9, .ptr (S + 3) 0),(10, .func (.func 163) [] [.pval (.int .i64 n)]),(38, .int .i64 n),(39, .int .i64 a)],ds:=[] } ∧ σ' = σ ++ ([.dead, .arr 1 (List.replicate m (.int .i64 0)), .arr 5 (fh (cX y wrong k a 0)), .box [.sref 5 (S + 2) 0 (2 * a) (2 * a), .int .i64 (n + 2), .sref 1 (S + 1) 0 m m, .int .i64 0]] ++ tl) ∧ a ≤ n) (fun a=>n - a) 0 ⟨[],by simp,by simp [cX,bR,kJ,fh],by omega⟩ ?_;rintro a fr σ' ⟨tl,rfl,rfl,ha⟩;refine (Nat.lt_or_ge a n).elim (fun hlt=>?_) (fun hge=>?_)
 ·have hwa:IntKind.i64.wrap ((a:Int) + 1) = ((a + 1:Nat):Int):=by rw [aq (by omega) (by omega)]; simp
  have h1:=hff a;have h2:=hfl a;obtain ⟨o1,ho1⟩:∃ o,aB y.first k a = o:=⟨_,rfl⟩
  obtain ⟨o2,ho2⟩:∃ o,aB y.last k a = o:=⟨_,rfl⟩;have hst:=AX y wrong k a;have hel:(fh (cX y wrong k a 0)).length = 2 * a:=by simp [fh,cX,cM,kJ]
  obtain ⟨es,hes⟩:=zqq (fh (cX y wrong k a 0));rw [hes] at hel ⊢;rw [ho1] at h1;rw [ho2] at h2
  cases o2 with
  | none=>
   simp at h2;refine aa _ ?_;simp [hlt];refine ah.pure zL (h1 _) ?_;simp [hlt];refine ah.pure zL (h2 _) ?_;simp [hlt,gS,sS];exact ⟨zN _ _ _ _ _ _ _ _ _ _,hel,by omega,a + 1,by omega,hwa,⟨by rw [hst, ← hes]; simp [fh,aI.v,aI.cells,ho1,ho2,hn,dh,hiC,aw],by omega⟩,by omega⟩
  | some c=>
   simp at h2;refine aa _ ?_;simp [hlt];refine ah.pure zL (h1 _) ?_;simp [hlt];refine ah.pure zL (h2 _) ?_;simp [hlt,gS,sS];exact ⟨zN _ _ _ _ _ _ _ _ _ _,hel,by omega,a + 1,by omega,hwa,⟨by rw [hst, ← hes]; simp [fh,aI.v,aI.cells,ho1,ho2,hn,dh,hiC,aw],by omega⟩,by omega⟩
 obtain rfl:a = n:=by omega
 have hel:(fh (cX y wrong k a 0)).length = 2 * a:=by simp [fh,cX,cM,kJ,hn]
 obtain ⟨A,hA⟩:=zqq (2 * a);have c0:fN k y.papers 0 0 = 0:=by cases y.papers <;> simp [fN]
 have hwl:=fun i (hi:i ≤ y.papers.length)=>Ed y wrong k hi;rw [hA] at hel ⊢;refine aa _ ?_;simp [hm];refine AW.loop (ι:=Nat) (fun i fr σ'=>∃ (tl:af),fr = { v:=[(1,ii' k),(2, .slice 1 L),(3, .pval (.agg [.slice 1 (y.kinds.map .str), .slice 1 (y.places.map .str), .slice 4 (y.first.map ay.v), .slice 5 (y.papers.map aj.v), .slice 4 (y.last.map ay.v)])),(7, .pval (.int .i64 a)),(8, .int .i64 (a + 1)),(9, .ptr (S + 3) 0),(10, .func (.func 163) [] [.pval (.int .i64 a)]),(95, .slice 5 (y.papers.map aj.v)),(96, .int .i64 m),(97, .int .i64 i)],ds:=[] } ∧ σ' = σ ++ ([.dead, .arr 1 ((dJ y k i).map ii'), .arr 5 (fh (cX y wrong k a i)), .box [.sref 5 (S + 2) 0 (A + fN k y.papers 0 i) (A + fN k y.papers 0 i), .int .i64 (a + 2), .sref 1 (S + 1) 0 m m, .int .i64 0]] ++ tl) ∧ i ≤ m) (fun i=>m - i) 0 ⟨tl,by simp,by simp [Ee,hm,c0],by omega⟩ ?_;rintro i fr σ' ⟨tl,rfl,rfl,hi⟩;refine (Nat.lt_or_ge i m).elim (fun hlt=>?_) (fun hge=>?_)
 ·have hli:i < y.papers.length:=by omega
  have hwi:IntKind.i64.wrap ((i:Int) + 1) = ((i + 1:Nat):Int):=by rw [aq (by omega) (by omega)]; simp
  have hpv:=hv.papers i hli;have hlei:=hle i hli;have hali:=hal i hli;have hpa:=Am wrong k hli y.places.length;have hw0:=hwl i (by omega);have hw1:=hwl (i + 1) (by omega);have hcl:=DW k y.papers 0 i;have hel2:(fh (cX y wrong k a i)).length = A + fN k y.papers 0 i:=by simp only [fh,List.length_map]; rw [← hA, ← hn]; exact hw0
  have hjs:=fun hk=>Dk hv (k:=k) hli hk;have hjt:=fun hk hl v hv'=>Ew hv (k:=k) hli hk hl (v:=v) hv';have hjl:(dJ y k i).length = m:=by simp [dJ,hm]
  rw [hpa] at hw1;rw [hn] at hpa;obtain ⟨p,hp⟩:=zqq (y.papers[i]);rw [hp] at hpa hpv hlei hali hw1 hjs hjt;obtain ⟨es,hes⟩:=zqq (fh (cX y wrong k a i));rw [hes] at hel2 ⊢;obtain ⟨jl,hjle⟩:=zqq (dJ y k i);rw [hjle] at hjl hjs hjt ⊢;obtain ⟨c,hc⟩:=zqq (fN k y.papers 0 i);rw [hc] at hel2 hw0 hcl ⊢;by_cases hk1:p.kind = k;rotate_left
  ·have hneg:¬ (p.kind = k ∧ br p i = true):=fun h=>hk1 h.1;rw [if_neg hneg] at hpa hw1;have hce:fN k y.papers 0 (i + 1) = c:=by simp at hw1; omega
   refine aa _ ?_;simp [hlt,hli,hp,aj.v,aj.cells,hk1,hwi];exact ⟨i + 1,by omega,by simp,by rw [hjs hneg,hpa,hce]; simp [hes],by omega⟩
  rcases tf (br p i) with hl1 | hl1
  ·have hneg:¬ (p.kind = k ∧ br p i = true):=fun h=>by rw [hl1] at h; exact absurd h.2 (by simp)
   rw [if_neg hneg] at hpa hw1;rw [hl1] at hlei;have hce:fN k y.papers 0 (i + 1) = c:=by simp at hw1; omega
   refine aa _ ?_;simp [hlt,hli,hp,aj.v,aj.cells,hk1];refine ah.pure uW (hlei _) ?_;simp [hlt,hli,hp,aj.v,aj.cells,hk1,hwi];exact ⟨i + 1,by omega,by simp,by rw [hjs hneg,hpa,hce]; simp [hes],by omega⟩
  rw [if_pos ⟨hk1,hl1⟩] at hpa hw1;have hce:fN k y.papers 0 (i + 1) = c + 1:=by simp at hw1; omega
  rw [hl1] at hlei;have hjt':=hjt hk1 hl1 ((A:Int) + c) (by rw [hn]; omega);have hnd:∀ b σ', -1 ≤ b → aE Tryz.prog (.func (.func 163) [] [.pval (.int .i64 a)]) [ii' b] σ' fun r σ''=>r = .ret (ii' (fj a b:Nat)) ∧ σ'' = σ':=by
   intro b σ' hb;exact aE.func OC (vk a b hb σ')
  have hal1:=hali;obtain ⟨s1,hs1⟩:∃ x,(aZ y wrong p i).1 = x:=⟨_,rfl⟩;obtain ⟨s2,hs2⟩:∃ x,(aZ y wrong p i).2 = x:=⟨_,rfl⟩;rw [hs1,hs2] at hal1;have hco:p.copy = -1 ∨ 0 ≤ p.copy:=by
   rcases hpv.copy with e | e
   ·exact .inl e
   ·exact .inr e.1
  have hwayeq:(fh (cX y wrong k a (i + 1))) = es ++ [.agg [ii' (fj a p.src:Nat),ii' (fj a p.dst:Nat),ii' s1,ii' s2,ii' s1]]:=by
   rw [← hn] at hpa ⊢;rw [hpa, ← hes, ← hn];simp [fh,aI.v,aI.cells,cZ,xY,hs1,hs2]
  have hnd1:=fun σ'=>hnd p.src σ' hpv.src.1;have hnd2:=fun σ'=>hnd p.dst σ' hpv.dst.1;have hltI:(i:Int) < m:=by omega
  rcases hco with hco | hco
  ·rw [if_neg (by omega)] at hjt';refine aa _ ?_;simp [hltI,hli,hp,aj.v,aj.cells,hk1];refine ah.pure uW (hlei _) ?_;simp [hlt,hltI,hli,hp,aj.v,aj.cells,hk1,hwi,gS,sS,hjl,hco];refine ah.pure zd (hal1 _) ?_;simp [hltI,hli,hp,aj.v,aj.cells,hk1,hwi,gS,sS,hco];refine ⟨_,hnd1,_,hnd2, ?_⟩;simp;exact ⟨tz _ _ _ _ _,hel2,by omega,i + 1,by omega,by simp,⟨by rw [hjt',List.map_set],hwayeq.symm,by omega⟩,by omega⟩
  rw [if_pos hco] at hjt';have hcb:p.copy.toNat < m:=by
   rcases hpv.copy with e | e
   ·omega
   ·omega
  obtain ⟨cp,hcp⟩:∃ cp:Nat,p.copy = cp:=⟨p.copy.toNat,by omega⟩;rw [hcp] at hjt' hcb;simp at hjt' hcb;have hcbI:(cp:Int) < m:=by omega
  obtain ⟨jm,hjm⟩:=zqq (jl.set i ((A:Int) + c));have hset:(List.map ii' jl).set i (.int .i64 ((A:Int) + c)) = List.map ii' jm:=by rw [← hjm,List.map_set]
  have hjml:jm.length = m:=by rw [← hjm,List.length_set]; exact hjl
  rw [hjm] at hjt';refine aa _ ?_;simp [hltI,hli,hp,aj.v,aj.cells,hk1];refine ah.pure uW (hlei _) ?_;simp [hlt,hltI,hli,hp,aj.v,aj.cells,hk1,hwi,gS,sS,hjl,hcp,hcb,hcbI,hset,hjml];refine ah.pure zd (hal1 _) ?_;simp [hltI,hli,hp,aj.v,aj.cells,hk1,hwi,gS,sS,hcp];refine ⟨_,hnd1,_,hnd2, ?_⟩;simp;exact ⟨tz _ _ _ _ _,hel2,by omega,i + 1,by omega,by simp,⟨by rw [hjt',List.map_set],hwayeq.symm,by omega⟩,by omega⟩
 obtain rfl:i = m:=by omega
 have hcm:A + fN k y.papers 0 i = 2 * a + (ba y wrong k).length:=by
  have e1:=congrArg List.length (rB y wrong k (i:=i) (by omega) 0 0);rw [jq] at e1;have e2:=hwl i (by omega);simp at e1;omega
 refine aa _ ?_;simp [gS,sS];refine ⟨tz _ _ _ _ _, ?_, ?_,tl, ?_⟩
 ·have:=hwl i (by omega);rw [hn] at this;simp [fh]; omega
 ·have:=DW k y.papers 0 i;omega
 have hcmI:(A:Int) + fN k y.papers 0 i = 2 * a + (ba y wrong k).length:=by omega
 have hel3:(fh (cX y wrong k a i)).length = A + fN k y.papers 0 i:=by have:=hwl i (by omega); rw [hn] at this; simp [fh]; omega
 rw [hcmI];simp [ub,aI.v,aI.cells,aw,hel3,dJ,hm]
theorem tE (m:Nat):∀ (d many a:Nat),m - a = d → (eR m many a).length ≤ 2 ^ d
 | d,0,a,_=>by simp only [eR,List.length_singleton]; exact Nat.one_le_two_pow
 | 0,many + 1,a,h=>by rw [K4 (by omega)]; simp
 | d + 1,many + 1,a,h=>by
  rw [BG (by omega),List.length_append,List.length_map];have h1:=tE m d many (a + 1) (by omega);have h2:=tE m d (many + 1) (a + 1) (by omega);rw [Nat.pow_succ]; omega
theorem Cq {m:Nat} (h:m ≤ 10) (many:Nat):(eR m many 0).length ≤ 1024:=
 Nat.le_trans (tE m m many 0 (by omega)) (Nat.le_trans (Nat.pow_le_pow_right (by omega) h) (by decide))
theorem J7 {y:ab} (h:y.papers.length ≤ 10) (many:Nat):(atW y many).length ≤ 1024:=Nat.le_trans (List.length_filter_le _ _) (Cq h many)
theorem BH {n k:Nat}:∀ ls:List (List Nat),(∀ l ∈ ls,l.length ≤ n) → ls.length ≤ k → ls.flatten.length ≤ k * n
 | [],_,_=>by simp
 | l :: r,h,hk=>by
  obtain ⟨j,rfl⟩:∃ j,k = j + 1:=⟨k - 1,by simp at hk; omega⟩;have:=BH (n:=n) (k:=j) r (fun x hx=>h x (by simp [hx])) (by simpa using hk);have h0:=h l (by simp);rw [List.flatten_cons,List.length_append,Nat.succ_mul]; omega
theorem fits_int (x:Int):Fits 1 [ii' x]:=fun v hv=>by simp at hv; subst hv; exact ⟨⟨rfl,rfl⟩,rfl⟩
structure oS (N:Nat) (es:List aI):Prop where
 ok:fY N es
 nod:N ≤ 1000
 len:es.length ≤ 1000
 low:∀ i (h:i < es.length), -2199023255552 ≤ es[i].low ∧ es[i].high ≤ 2199023255552
theorem nw {e:aI} {v:Int} (h1:-2199023255552 ≤ e.low) (h2:e.high ≤ 2199023255552) (h3:e.low ≤ v) (h4:v ≤ e.high) (a:Nat) (σ:af) :
  Spec Tryz.prog HX [e.v v,ii' a] σ fun r σ'=>r = .ret (ii' (uz e v a)) ∧ σ' = σ:=by
 refine Spec.aF (Og (by simp) ?_) (by simp [aH,ag.pure,aI.v,aI.cells]) rfl σ;have w1:IntKind.i64.wrap (e.high - v) = e.high - v:=aq (by omega) (by omega);have w2:IntKind.i64.wrap (v - e.low) = v - e.low:=aq (by omega) (by omega);unfold uz;by_cases h:a = e.src
 ·refine aa _ ?_;simp [Hg,aI.v,aI.cells,h,w1]
 ·have h':¬ (a:Int) = e.src:=by omega
  refine aa _ ?_;simp [Hg,aI.v,aI.cells,h,h',w2]
structure jI (σ:af) (W E N:Nat) (es:List aI) (f:Nat → Int):Prop where
 web:∃ J O,σ[W]? = some (.box [.sref 5 E 0 es.length es.length,ii' N,J,O])
 way:σ[E]? = some (.arr 5 (bu es f))
theorem jI.ne {σ:af} {W E N:Nat} {es:List aI} {f:Nat → Int} (h:jI σ W E N es f):W ≠ E:=by
 obtain ⟨⟨J,O,h1⟩,h2⟩:=h;rintro rfl;rw [h1] at h2;cases h2
theorem jI.app {σ:af} {W E N:Nat} {es:List aI} {f:Nat → Int} (h:jI σ W E N es f) (tl:af):jI (σ ++ tl) W E N es f:=by
 obtain ⟨⟨J,O,h1⟩,h2⟩:=h;exact ⟨⟨J,O,by rw [List.getElem?_append_left (List.getElem?_eq_some_iff.1 h1).1]; exact h1⟩,by rw [List.getElem?_append_left (List.getElem?_eq_some_iff.1 h2).1]; exact h2⟩
theorem jI.set {σ:af} {W E N:Nat} {es:List aI} {f:Nat → Int} (h:jI σ W E N es f) (f':Nat → Int):jI (σ.set E (.arr 5 (bu es f'))) W E N es f':=by
 have hn:=h.ne;obtain ⟨⟨J,O,h1⟩,h2⟩:=h;exact ⟨⟨J,O,by rw [List.getElem?_set_ne (fun e=>hn e.symm)]; exact h1⟩,by rw [List.getElem?_set_self (List.getElem?_eq_some_iff.1 h2).1]⟩
theorem bC {es:List aI} {f:Nat → Int} {i:Nat} (h:i < (bu es f).length):(bu es f)[i] = (es[i]'(by rw [bj] at h; exact h)).v (f i):=by simp [bu]
theorem fm {σ:af} {W E N:Nat} {es:List aI} {f:Nat → Int} (h:jI σ W E N es f) (ok:oS N es) {i:Nat} (hi:i < es.length) (a:Nat) (ha:a ≤ 1000) :
  Spec Tryz.prog Hd [ii' i,ii' a, .pval (.ptr W 0)] σ fun r σ'=>r = .ret (ii' (jL es[i] a)) ∧ σ' = σ:=by
 refine Pt (by simp) ?_;obtain ⟨⟨J,O,h1⟩,h2⟩:=h;have hs:=ok.ok.src es[i] (List.getElem_mem hi);have hn:=ok.nod;have hiI:(i:Int) < es.length:=by omega
 have w1:IntKind.i64.wrap ((es[i].src:Int) + es[i].dst) = es[i].src + es[i].dst:=aq (by omega) (by omega);have w2:IntKind.i64.wrap ((es[i].src:Int) + es[i].dst - a) = es[i].src + es[i].dst - a:=aq (by omega) (by omega);refine aa _ ?_;simp [Lq,h1,h2,hi,hiI,bj,bC,aI.v,aI.cells,w1,w2,jL]
theorem jI.of {σ:af} {W E N:Nat} {es:List aI} {f:Nat → Int} {J O:ag} (h1:σ[W]?.getD .dead = .box [.sref 5 E 0 es.length es.length,ii' N,J,O]) (h2:σ[E]?.getD .dead = .arr 5 (bu es f)):jI σ W E N es f:=by
 refine ⟨⟨J,O, ?_⟩, ?_⟩
 ·cases h:σ[W]? with
  | none=>rw [h] at h1; cases h1
  | some o=>rw [h] at h1; exact congrArg some h1
 ·cases h:σ[E]? with
  | none=>rw [h] at h2; cases h2
  | some o=>rw [h] at h2; exact congrArg some h2
theorem fC.lt {N:Nat} {es:List aI} {f:Nat → Int} {k:Int} {i a c:Nat} (h:fC es f k i a c) (ok:fY N es):a < N ∧ c < N:=by
 obtain ⟨hi,h⟩:=h;have:=ok.src es[i] (List.getElem_mem hi);rcases h with ⟨h1,h2,_⟩ | ⟨h1,h2,_⟩ <;> omega
theorem iD.lt {N:Nat} {es:List aI} {f:Nat → Int} {P:Nat → Prop} {s:Nat} {by':Nat → Int} {L:List Nat} (h:iD es f P s by' L) (ok:fY N es) (hs:s < N):∀ x ∈ L,x < N:=by
 induction h with
 | root _=>intro x hx; rw [List.mem_singleton.1 hx]; exact hs
 | add _ _ _ h4 _ _ ih=>
  intro y hy;rcases List.mem_cons.1 hy with rfl | hy
  ·exact (h4.lt ok).2
  ·exact ih y hy
theorem gi.lt {N:Nat} {es:List aI} {f:Nat → Int} {k:Int} {P:Nat → Prop} {by':Nat → Int} {b a:Nat} {l:List Nat} (h:gi es f k P by' b a l) (ok:fY N es) (hb:b < N):∀ x ∈ l,x < N:=by
 induction h with
 | nil=>intro x hx; rw [List.mem_singleton.1 hx]; exact hb
 | cons _ h1 _ _ _ ih=>
  intro y hy;rcases List.mem_cons.1 hy with rfl | hy
  ·exact (h1.lt ok).1
  ·exact ih y hy
def byV (N:Nat) (b:Nat → Int):List ag:=(List.range N).map fun x=>ii' (b x)
theorem cu (N:Nat) (b:Nat → Int):(byV N b).length = N:=by simp [byV]
theorem bX {N:Nat} {b:Nat → Int} {x:Nat} (h:x < (byV N b).length):(byV N b)[x] = ii' (b x):=by simp [byV]
theorem sg {N:Nat} {b:Nat → Int} {x:Nat} (v:Int):(byV N b).set x (ii' v) = byV N (lK b x v):=by
 apply List.ext_getElem?;intro j;rw [List.getElem?_set];by_cases e:x = j
 ·subst e;rcases Nat.lt_or_ge x N with hx | hx
  ·rw [if_pos rfl,if_pos (by rw [cu]; exact hx)]; simp [byV,lK,hx]
  ·rw [if_pos rfl,if_neg (by rw [cu]; omega),List.getElem?_eq_none (by rw [cu]; exact hx)]
 ·rw [if_neg e];have e':¬ j = x:=fun h=>e h.symm;unfold byV lK;rcases Nat.lt_or_ge j N with hj | hj
  ·simp [hj,e']
  ·rw [List.getElem?_eq_none (by simpa using hj),List.getElem?_eq_none (by simpa using hj)]
theorem CI (N:Nat):List.replicate N (ag.int .i64 0) = byV N fun _=>0:=by
 unfold byV
 symm
 rw [List.eq_replicate_iff];exact ⟨by simp,fun b hb=>by obtain ⟨_,_,rfl⟩:=List.mem_map.1 hb; rfl⟩
theorem A1 {N:Nat} {l:List Nat} (h:l.Nodup) (hl:∀ x ∈ l,x < N):l.length ≤ N:=by
 have:=List.Nodup.length_le_of_subset (l₂:=List.range N) h fun x hx=>List.mem_range.2 (hl x hx);simpa using this
theorem nr {H:af} {W E N:Nat} {es:List aI} {f:Nat → Int} (h:jI H W E N es f) (ok:oS N es) (hb:InB es f) {s:Nat} (hs:s < N) (most but:Int) (hm:0 < most) {g:FuncId} {caps:List ag} {want:Nat → Int}
  (hw:∀ x,x < N → ∀ tl:af,aE Tryz.prog (.func (.func g) [] caps) [ii' x] (H ++ tl) fun r σ'=>r = .ret (ii' (want x)) ∧ σ' = H ++ tl) :
  Spec Tryz.prog I7 [.ptr W 0,ii' s,ii' most,ii' but, .func (.func g) [] caps] H fun r σ'=>∃ (k:Int) (to':Nat) (f':Nat → Int) (tl:af),r = .ret (.tup [ii' k,ii' to']) ∧ σ' = H.set E (.arr 5 (bu es f')) ++ tl ∧ la N es f (fun j:Nat=>(j:Int) ≠ but) s most want k to' f':=by
 refine OJ (by simp) ?_;have hne:=h.ne;have hN:=ok.nod;have hln:=ok.len;have happ:=fun tl=>h.app tl;obtain ⟨⟨J,O,hW⟩,hE⟩:=id h;have hWl:=(List.getElem?_eq_some_iff.1 hW).1;have hEl:=(List.getElem?_eq_some_iff.1 hE).1;have gW:∀ l:af,(H ++ l)[W]? = some (.box [.sref 5 E 0 es.length es.length,ii' N,J,O]):=fun l=>by rw [List.getElem?_append_left hWl]; exact hW
 have gE:∀ l:af,(H ++ l)[E]? = some (.arr 5 (bu es f)):=fun l=>by rw [List.getElem?_append_left hEl]; exact hE
 obtain ⟨B,hB⟩:=zqq H.length;have gB:∀ (l:af) (j:Nat),(H ++ l)[B + j]? = l[j]?:=fun l j=>by rw [← hB,List.getElem?_append_right (by omega)]; congr 1; omega
 have gB0:∀ (l:af),(H ++ l)[B]? = l[0]?:=fun l=>gB l 0;have sB:∀ (l:af) (j:Nat) (o:cq),(H ++ l).set (B + j) o = H ++ l.set j o:=fun l j o=>by rw [← hB,List.set_append_right _ _ (by omega)]; congr 2; omega
 have sB0:∀ (l:af) (o:cq),(H ++ l).set B o = H ++ l.set 0 o:=fun l o=>sB l 0 o;have hsI:(s:Int) < N:=by omega
 have hNb:N * 8 ≤ 140737488355328:=by omega
 have hNm:(N:Int) ≤ 140737488355328:=by omega
 obtain ⟨P,hP⟩:∃ P:Nat → Prop,P = fun j:Nat=>(j:Int) ≠ but:=⟨_,rfl⟩;rw [← hP];have hPd:∀ j,P j ↔ (j:Int) ≠ but:=fun j=>by rw [hP]
 clear hP;have hset:H.set E (.arr 5 (bu es f)) = H:=List.ext_getElem? fun j=>by
  rw [List.getElem?_set];by_cases e:E = j
  ·subst e; rw [if_pos rfl,if_pos hEl,hE]
  ·rw [if_neg e]
 have gW2:∀ (X:List ag) (l:af),(H.set E (.arr 5 X) ++ l)[W]? = some (.box [.sref 5 E 0 es.length es.length,ii' N,J,O]):=fun X l=>by
  rw [List.getElem?_append_left (by rw [List.length_set]; exact hWl),List.getElem?_set_ne (fun e=>hne e.symm)]; exact hW
 have gE2:∀ (X:List ag) (l:af),(H.set E (.arr 5 X) ++ l)[E]? = some (.arr 5 X):=fun X l=>by
  rw [List.getElem?_append_left (by rw [List.length_set]; exact hEl),List.getElem?_set_self hEl]
 have sE2:∀ (X Y:List ag) (l:af),(H.set E (.arr 5 X) ++ l).set E (.arr 5 Y) = H.set E (.arr 5 Y) ++ l:=fun X Y l=>by
  rw [List.set_append_left _ _ (by rw [List.length_set]; exact hEl),List.set_set]
 have gB2:∀ (X:List ag) (l:af),(H.set E (.arr 5 X) ++ l)[B]? = l[0]?:=fun X l=>by
  rw [← hB,List.getElem?_append_right (by rw [List.length_set]; omega)]; simp
 refine aa _ ?_;simp [LI,hW,hNm,hB,CI,cu,bX,hs];refine ⟨by omega, ?_⟩;refine AW.loop (ι:=(Nat → Int) × List Nat × List Nat) (fun t fr σ'=>∃ (q:Nat) (tl:af),fr = { v:=[(1,ii' s),(2,ii' most),(3,ii' but),(4, .func (.func g) [] caps),(5, .pval (.ptr W 0)),(12, .sref 1 B 0 N N),(13, .func (.func 182) [] [.pval (.ptr W 0)]),(14, .oslice 1 (t.2.2.map fun x=>ii' (x:Nat)) (B + 1) q)],ds:=[] } ∧ σ' = H ++ (.arr 1 (byV N t.1) :: .spare 1 q :: tl) ∧ Bfs N es f P want s t.1 t.2.1 t.2.2) (fun t=>N - t.2.1.length) (lK (fun _=>0) s (-1),[],[s]) ⟨0,[],by simp,by rw [← sg], .start hs⟩ ?_;rintro ⟨b,done,line⟩ fr σ' ⟨q,tl,rfl,rfl,hbfs⟩;dsimp only at hbfs ⊢
 cases line with
 | nil=>
  refine aa _ ?_;simp;exact ⟨0,0,by simp,f,⟨_,by rw [hset]⟩,hbfs.none hb most 0⟩
 | cons a rest=>
 have haN:a < N:=hbfs.low a (by simp);by_cases hfo:a ≠ s ∧ 0 < want a
 ·obtain ⟨has,hwp⟩:=hfo;have hasI:¬ (a:Int) = s:=by omega
  have hwa:=hw a haN;obtain ⟨wv,hwv⟩:∃ v,want a = v:=⟨_,rfl⟩;rw [hwv] at hwa hwp;refine aa _ ?_;simp [hasI];refine ah.of (hwa _) ?_;simp [hasI,hwp];refine ah.of (hwa _) ?_;simp;obtain ⟨k0,hk0⟩:=zqq ((if wv < most then wv else most));rw [hk0];obtain ⟨L0,hbk⟩:=AY k0 hbfs.tree (x:=a) (by simp);refine AW.loop (ι:=Int × Nat × List Nat × List Nat) (fun t fr σ'=>fr = { v:=[(1,ii' s),(5, .pval (.ptr W 0)),(10, .int .i64 t.1),(12, .sref 1 B 0 N N),(13, .func (.func 182) [] [.pval (.ptr W 0)]),(15,ii' a),(16,ii' t.2.1)],ds:=[] } ∧ σ' = H ++ (.arr 1 (byV N b) :: .spare 1 q :: tl) ∧ BD es f t.1 P s b a t.2.1 t.2.2.1 t.2.2.2 ∧ t.2.1 < N ∧ 0 < t.1 ∧ t.1 ≤ most ∧ t.1 ≤ wv) (fun t=>t.2.2.1.length) (k0,a,L0,[a]) ⟨by simp,rfl,hbk,haN,by simp only; split at hk0 <;> omega⟩ ?_;rintro ⟨k,x,L,l⟩ fr σ' ⟨rfl,rfl,hbw,hxN,hk1,hk2,hk3⟩;dsimp only at hbw hxN hk1 hk2 hk3 ⊢;by_cases hxs:x = s;rotate_left
  ·have hxsI:¬ (x:Int) = s:=by omega
   obtain ⟨i,p,hi,hbx,hPi,hop,hrm1,L',hL',hbw'⟩:=hbw.step ok.ok.ne hxs;have hsb:=ok.ok.src es[i] (List.getElem_mem hi);have hni:=ok.ok.ne es[i] (List.getElem_mem hi);have hlo:=ok.low i hi;have hbi:=hb i hi;have hrm:=nw hlo.1 hlo.2 hbi.1 hbi.2 p;have hcall:=fun (σ':af)=>aE.func ET (fm (h.app σ') ok hi x (by omega)) (first:=[]) (caps:=[.pval (.ptr W 0)]) (args:=[ii' i,ii' x]);obtain ⟨e,he⟩:=zqq (es[i]);rw [he] at hsb hni hlo hbi hrm hop hrm1 hbw' hcall;rw [hop] at hcall;obtain ⟨rm,hrmv⟩:∃ r,uz e (f i) p = r:=⟨_,rfl⟩;rw [hrmv] at hrm hrm1 hbw';have hiI:(i:Int) < es.length:=by omega
   have hxI:(x:Int) < N:=by omega
   have wi:IntKind.i64.wrap (i:Int) = i:=aq (by omega) (by omega);refine aa _ ?_;simp [hxsI,gB0,cu,bX,hxN,hxI,hbx,wi,gW,gE,bj,bC,hi,hiI,he,aI.v,aI.cells];have hWb:W < H.length + (tl.length + 1 + 1):=by omega
   have hEb:E < H.length + (tl.length + 1 + 1):=by omega
   refine ⟨ii' p,fun σ' h1 h2 _=>?_, ?_⟩
   ·have:=aE.func ET (fm (jI.of (h1 hWb) (h2 hEb)) ok hi x (by omega)) (first:=[]) (caps:=[.pval (.ptr W 0)]) (args:=[ii' i,ii' x]);rw [he,hop] at this;exact this
   refine ⟨ii' rm,⟨rfl,fun σ' _=>aE.func Fc (hrm σ')⟩, ?_⟩;simp;refine ah.of (hcall _) ?_;simp;have e1:(if rm < k then rm else k) = min k rm:=by split <;> omega
   exact ⟨if rm < k then rm else k,p,L',hL',⟨rfl,rfl⟩,⟨p :: l,by rw [e1]; exact hbw'⟩,hbw'.tree.lt ok.ok hs p (by simp),by split <;> omega,by split <;> omega,by split <;> omega⟩
  subst hxs;obtain ⟨pre0,hpre0⟩:=hbw.trail.last;refine aa _ ?_;simp;refine AW.loop (ι:=(Nat → Int) × List Nat × Nat × List Nat) (fun t fr σ'=>fr = { v:=[(1,ii' x),(5, .pval (.ptr W 0)),(10, .int .i64 k),(12, .sref 1 B 0 N N),(13, .func (.func 182) [] [.pval (.ptr W 0)]),(15,ii' a),(18,ii' t.2.2.1)],ds:=[] } ∧ σ' = H.set E (.arr 5 (bu es t.1)) ++ (.arr 1 (byV N b) :: .spare 1 q :: tl) ∧ l = t.2.1 ++ t.2.2.1 :: t.2.2.2 ∧ mG es f k P a t.2.2.1 (t.2.2.1 :: t.2.2.2) t.1 ∧ t.2.2.1 < N) (fun t=>t.2.1.length) (f,pre0,a,[]) ⟨by simp,by rw [hset],hpre0, .nil k P a hb,haN⟩ ?_;rintro ⟨f',pre,z,r⟩ fr σ' ⟨rfl,rfl,hel,hpu,hzN⟩;dsimp only at hel hpu hzN ⊢;by_cases hzx:z = x
  ·subst hzx;refine aa _ ?_;simp;exact ⟨k,a,⟨rfl,rfl⟩,f',⟨_,rfl⟩, .of hpu hk1 hk2 (by omega) has haN⟩
  have hzxI:¬ (z:Int) = x:=by omega
  obtain ⟨pre',p,i,hi,e1,hbz,hop,hfi,hpu'⟩:=GS (by omega) ok.ok.ne hbw.trail hel hzx hpu;have hsb:=ok.ok.src es[i] (List.getElem_mem hi);have hni:=ok.ok.ne es[i] (List.getElem_mem hi);have hlo:=ok.low i hi;have hbi:=hpu'.inb i hi;have hcall:=fun (σ':af)=>aE.func ET (fm ((h.set f').app σ') ok hi z (by omega)) (first:=[]) (caps:=[.pval (.ptr W 0)]) (args:=[ii' i,ii' z]);have hes:=fun d=>HI (es:=es) (f:=f') hi d;obtain ⟨e,he⟩:=zqq (es[i]);rw [he] at hsb hni hlo hop hpu' hcall hbi;rw [hop] at hcall;have hiI:(i:Int) < es.length:=by omega
  have hzI:(z:Int) < N:=by omega
  have wi:IntKind.i64.wrap (i:Int) = i:=aq (by omega) (by omega);have hpN:p < N:=hbw.trail.lt ok.ok haN p (by rw [hel,e1]; simp);by_cases hsp:e.src = p
  ·rw [if_pos hsp] at hpu' hbi;have hw1:IntKind.i64.wrap (f' i + k) = f' i + k:=aq (by simp [cG] at hbi; omega) (by simp [cG] at hbi; omega);refine aa _ ?_;simp [hzxI,gB2,cu,bX,hzN,hzI,hbz,wi];refine ah.of (hcall _) ?_;simp [gB2,cu,bX,hzN,hbz,wi,gW2,gE2,sE2,bj,bC,hi,hiI,he,aI.v,aI.cells,hsp,hw1];exact ⟨cG f' i k,pre',by rw [e1]; simp,p,rfl,by rw [← hes k,he,aI.v,aI.cells]; simp [hsp],z :: r,by rw [hel,e1]; simp,hpu',hpN⟩
  ·rw [if_neg hsp] at hpu' hbi;have hspI:¬ (p:Int) = e.src:=by omega
   have hsp':¬ p = e.src:=by omega
   have hw1:IntKind.i64.wrap (f' i - k) = f' i - k:=aq (by simp [cG] at hbi; omega) (by simp [cG] at hbi; omega);refine aa _ ?_;simp [hzxI,gB2,cu,bX,hzN,hzI,hbz,wi];refine ah.of (hcall _) ?_;simp [gB2,cu,bX,hzN,hbz,wi,gW2,gE2,sE2,bj,bC,hi,hiI,he,aI.v,aI.cells,hspI,hw1];exact ⟨cG f' i (-k),pre',by rw [e1]; simp,p,rfl,by rw [← hes (-k),he,aI.v,aI.cells,Int.sub_eq_add_neg],z :: r,by rw [hel,e1]; simp,hpu',hpN⟩
 have hpoor:a ≠ s → ¬ 0 < want a:=fun h1 h2=>hfo ⟨h1,h2⟩;have hwa:=hw a haN;have ha1:a ≤ 1000:=by omega
 have hltI:∀ i:Nat,i < es.length → (i:Int) < es.length:=fun i hi=>by omega
 refine (Classical.em (a = s)).elim (fun has=>?_) (fun has=>?_);have hasI:(a:Int) = s:=by omega
 refine aa _ ?_;simp [eq_true hasI,gW];rotate_left;have hwp:=hpoor has;have hasI:¬ (a:Int) = s:=by omega
 refine aa _ ?_;simp [hasI];refine ah.of (hwa _) ?_;simp [hasI,hwp,gW]
 all_goals
  refine AW.loop (ι:=Nat × (Nat → Int) × List Nat) (fun t fr σ'=>∃ (q:Nat) (tl:af),fr = { v:=[(1,ii' s),(2,ii' most),(3,ii' but),(4, .func (.func g) [] caps),(5, .pval (.ptr W 0)),(12, .sref 1 B 0 N N),(13, .func (.func 182) [] [.pval (.ptr W 0)]),(14, .oslice 1 (ii' a :: t.2.2.map fun x=>ii' (x:Nat)) (B + 1) q),(15,ii' a),(140, .sref 5 E 0 es.length es.length),(141, .int .i64 es.length),(142, .int .i64 t.1)],ds:=[] } ∧ σ' = H ++ (.arr 1 (byV N t.2.1) :: .spare 1 q :: tl) ∧ qC N es f P want s t.2.1 done a t.2.2 t.1 ∧ t.1 ≤ es.length) (fun t=>es.length - t.1) (0,b,rest) ⟨q,tl,by simp,rfl,hbfs.enter,by omega⟩ ?_;rintro ⟨i,b,rest⟩ fr σ' ⟨q,tl,rfl,rfl,hin,hil⟩;dsimp only at hin hil ⊢;refine (Nat.lt_or_ge i es.length).elim (fun hlt=>?_) (fun hge=>?_);rotate_left
  ·have hlv:=hin.leave hge hpoor;have hnl:=A1 hlv.tree.nodup hlv.low;simp at hnl;obtain rfl:i = es.length:=by omega
   refine aa _ ?_;simp [gB,sB];exact ⟨by omega,b,a :: done,by simp; omega,rest,q + 1,⟨rfl,rfl⟩,⟨rfl,rfl⟩,hlv⟩
  have hiI:=hltI i hlt;have hN0:0 < N:=by omega
  have hsb:=ok.ok.src es[i] (List.getElem_mem hlt);have hni:=ok.ok.ne es[i] (List.getElem_mem hlt);have hlo:=ok.low i hlt;have hbi:=hb i hlt;have hrm:=nw hlo.1 hlo.2 hbi.1 hbi.2 a;have hst:=@pz es f i hlt hni a;obtain ⟨e,he⟩:=zqq (es[i]);rw [he] at hsb hni hlo hbi hrm hst;have hwi:IntKind.i64.wrap ((i:Int) + 1) = ((i + 1:Nat):Int):=by rw [aq (by omega) (by omega)]; simp
  by_cases c0:(i:Int) = but
  ·have hsk:=hin.skip fun y hp=>absurd c0 ((hPd i).1 hp);refine aa _ ?_;simp [hlt,hiI,gE,bj,bC,he,aI.v,aI.cells,eq_true c0,hwi,gB0,cu,bX,hN0];exact ⟨i + 1,by omega,b,rest,q,⟨⟨rfl,rfl⟩,by simp⟩,⟨rfl,rfl⟩,hsk,by omega⟩
  have hPi:P i:=(hPd i).2 c0;by_cases c1:a = e.src ∨ a = e.dst;rotate_left
  ·have c2:¬ a = e.src:=fun h=>c1 (.inl h);have c3:¬ a = e.dst:=fun h=>c1 (.inr h);have c2I:¬ (a:Int) = e.src:=by omega
   have c3I:¬ (a:Int) = e.dst:=by omega
   have hsk:=hin.skip fun y _ hy=>absurd (hst.1 hy).1 c1;refine aa _ ?_;simp [hlt,hiI,gE,bj,bC,he,aI.v,aI.cells,c0,hwi,c2I,c3I,gB0,cu,bX,hN0];exact ⟨i + 1,by omega,b,rest,q,⟨⟨rfl,rfl⟩,by simp⟩,⟨rfl,rfl⟩,hsk,by omega⟩
  obtain ⟨y,hyw⟩:∃ y:Nat,jL e a = y:=⟨if a = e.src then e.dst else e.src,by unfold jL; split <;> omega⟩;have hyN:y < N:=by unfold jL at hyw; omega
  have hcall:=fun (σ':af)=>aE.func ET (fm (h.app σ') ok hlt a ha1) (first:=[]) (caps:=[.pval (.ptr W 0)]) (args:=[ii' i,ii' a]);rw [he,hyw] at hcall;have c1d:(decide (a = e.src) = true) ∨ (decide (a = e.src) = false ∧ decide (a = e.dst) = true):=by
   rcases Nat.decEq a e.src with c | c
   ·exact .inr ⟨decide_eq_false c,decide_eq_true (c1.resolve_left c)⟩
   ·exact .inl (decide_eq_true c)
  obtain ⟨rm,hrmv⟩:∃ r,uz e (f i) a = r:=⟨_,rfl⟩;rw [hrmv] at hrm hst;rw [hyw] at hst;by_cases c4:rm ≤ 0
  ·have hsk:=hin.skip fun z _ hz=>absurd (hst.1 hz).2.2 (by omega);refine c1.elim (fun c=>?_) (fun c=>?_)
   all_goals
    have cI:=congrArg (Nat.cast (R:=Int)) c;refine aa _ ?_;simp [hlt,hiI,gE,bj,bC,he,aI.v,aI.cells,c0,eq_true cI];refine ah.pure Fc (hrm _) ?_;simp [hlt,hiI,gE,bj,bC,he,aI.v,aI.cells,c0,hwi,eq_true cI,gB0,cu,bX,hN0,c4];exact ⟨i + 1,by omega,b,rest,q,⟨⟨rfl,rfl⟩,by simp⟩,⟨rfl,rfl⟩,hsk,by omega⟩
  have hyI:(y:Int) < N:=by omega
  have hstep:fC es f 1 i a y:=hst.2 ⟨c1,rfl,by omega⟩;by_cases c5:b y = 0
  ·have had:=hin.add hyN c5 hPi hstep;have hnl:=A1 had.all.tree.nodup had.all.low;simp at hnl;refine c1.elim (fun c=>?_) (fun c=>?_)
   all_goals
    have cI:=congrArg (Nat.cast (R:=Int)) c;refine aa _ ?_;simp [hlt,hiI,gE,bj,bC,he,aI.v,aI.cells,c0,eq_true cI];refine ah.pure Fc (hrm _) ?_;simp [hlt,hiI,gE,bj,bC,he,aI.v,aI.cells,c0,hwi,eq_true cI,gB0,cu,bX,hN0,c4];refine ah.of (hcall _) ?_;simp [hlt,hiI,gE,bj,bC,he,aI.v,aI.cells,c0,hwi,eq_true cI,gB0,cu,bX,c4,hyN,hyI,c5];refine ah.of (hcall _) ?_;simp [hlt,hiI,gE,bj,bC,he,aI.v,aI.cells,c0,hwi,eq_true cI,gB0,cu,bX,c4,hyN,hyI,c5,sB0,sg];refine ah.of (hcall _) ?_;simp [hlt,hiI,gE,bj,bC,he,aI.v,aI.cells,c0,hwi,eq_true cI,gB0,cu,bX,c4,hyN,c5,gB,sB];exact ⟨fits_int _,by omega,i + 1,by omega,lK b y ((i:Int) + 1),rest ++ [y],q + 1,⟨⟨by simp,rfl⟩,by simp⟩,⟨rfl,rfl⟩,had,by omega⟩
  ·have hsk:=hin.skip fun z _ hz=>by
    have hzy:=(hst.1 hz).2.1;have hzy':y = z:=by omega
    exact hzy' ▸ (hin.all.seen y hyN).1 c5
   refine c1.elim (fun c=>?_) (fun c=>?_)
   all_goals
    have cI:=congrArg (Nat.cast (R:=Int)) c;refine aa _ ?_;simp [hlt,hiI,gE,bj,bC,he,aI.v,aI.cells,c0,eq_true cI];refine ah.pure Fc (hrm _) ?_;simp [hlt,hiI,gE,bj,bC,he,aI.v,aI.cells,c0,hwi,eq_true cI,gB0,cu,bX,hN0,c4];refine ah.of (hcall _) ?_;simp [hlt,hiI,gE,bj,bC,he,aI.v,aI.cells,c0,hwi,eq_true cI,gB0,cu,bX,c4,hyN,hyI,c5];exact ⟨i + 1,by omega,b,rest,q,⟨⟨rfl,rfl⟩,by simp⟩,⟨rfl,rfl⟩,hsk,by omega⟩
def tu (es:List aI) (f:Nat → Int) (i:Nat):Nat → Int:=fun n=>aS n (es.take i) 0 f
theorem Lj {N:Nat} {es:List aI} (ok:oS N es) {f:Nat → Int} (hb:InB es f) {i:Nat} (h:i < es.length):-2199023255552 ≤ f i ∧ f i ≤ 2199023255552:=by
 have:=hb i h;have:=ok.low i h;omega
theorem Iw {N:Nat} {es:List aI} (ok:oS N es) {f:Nat → Int} (hb:InB es f) (i n:Nat):-4398046511104000 ≤ tu es f i n ∧ tu es f i n ≤ 4398046511104000:=by
 have h:=LP (M:=2199023255552) (by omega) n f (es.take i) 0 fun k hk=>by
  rw [Nat.zero_add]; exact Lj ok hb (by simp at hk; omega)
 have hl:(es.take i).length ≤ 1000:=Nat.le_trans (List.length_take_le' ..) ok.len;unfold tu;omega
theorem Bp (es:List aI) (f:Nat → Int):tu es f es.length = fun n=>aS n es 0 f:=by
 funext n; unfold tu; rw [List.take_length]
theorem HT {N:Nat} {es:List aI} (ok:oS N es) {f:Nat → Int} (hb:InB es f) (n:Nat):-4398046511104000 ≤ aS n es 0 f ∧ aS n es 0 f ≤ 4398046511104000:=by
 have:=Iw ok hb es.length n;rw [Bp] at this;exact this
theorem FN {es:List aI} {f:Nat → Int} {i:Nat} (h:i < es.length) (hne:es[i].src ≠ es[i].dst) :
  lK (lK (tu es f i) es[i].src (tu es f i es[i].src - f i)) es[i].dst (tu es f i es[i].dst + f i) = tu es f (i + 1):=by
 funext n;unfold lK tu;rw [H9 h];have e0:¬ es[i].dst = es[i].src:=fun e=>hne e.symm;by_cases e1:n = es[i].dst
 ·subst e1; simp [hne]
 ·have e1':¬ es[i].dst = n:=fun e=>e1 e.symm;by_cases e2:n = es[i].src
  ·subst e2; simp [hne,e0]; omega
  ·have e2':¬ es[i].src = n:=fun e=>e2 e.symm;simp [e1,e2,e1',e2']
theorem oh {σ:af} {B N:Nat} {g:Nat → Int} (h:σ[B]? = some (.arr 1 (byV N g))) {x:Nat} (hx:x < N) (_hN:N ≤ 1000) (hg:-4398046511104000 ≤ g x ∧ g x ≤ 4398046511104000) :
  Spec Tryz.prog Ft [ii' x, .pval (.sref 1 B 0 N N)] σ fun r σ'=>r = .ret (ii' (- g x)) ∧ σ' = σ:=by
 refine PT (by simp) ?_;have hxI:(x:Int) < N:=by omega
 have w1:IntKind.i64.wrap (- g x) = - g x:=aq (by omega) (by omega);refine aa _ ?_;simp [L4,h,hx,hxI,cu,bX,w1]
theorem la.all {N:Nat} {es:List aI} {f f':Nat → Int} {P:Nat → Prop} {a t:Nat} {most k:Int} {want:Nat → Int} (hP:∀ j,P j) (h:la N es f P a most want k t f'):la N es f (fun _=>True) a most want k t f':=by
 have e:P = fun _=>True:=funext fun j=>propext ⟨fun _=>trivial,fun _=>hP j⟩;rw [← e]; exact h
theorem kF {H:af} {W E N:Nat} {es:List aI} {f:Nat → Int} (h:jI H W E N es f) (ok:oS N es) (hb:InB es f) :
  Spec Tryz.prog Hs [.ptr W 0] H fun r σ'=>∃ (d:Bool) (f':Nat → Int) (tl:af),r = .ret (.bool d) ∧ σ' = H.set E (.arr 5 (bu es f')) ++ tl ∧ InB es f' ∧ (d = true → bE N es f') ∧ (d = false → ¬ ∃ g,bE N es g):=by
 refine R9 (by simp) ?_;have hne:=h.ne;have hN:=ok.nod;have hln:=ok.len;obtain ⟨⟨J,O,hW⟩,hE⟩:=id h;have hWl:=(List.getElem?_eq_some_iff.1 hW).1;have hEl:=(List.getElem?_eq_some_iff.1 hE).1;have gW:∀ l:af,(H ++ l)[W]? = some (.box [.sref 5 E 0 es.length es.length,ii' N,J,O]):=fun l=>by rw [List.getElem?_append_left hWl]; exact hW
 have gE:∀ l:af,(H ++ l)[E]? = some (.arr 5 (bu es f)):=fun l=>by rw [List.getElem?_append_left hEl]; exact hE
 obtain ⟨B,hB⟩:=zqq H.length;have gB0:∀ (l:af),(H ++ l)[B]? = l[0]?:=fun l=>by rw [← hB,List.getElem?_append_right (by omega)]; simp
 have sB0:∀ (l:af) (o:cq),(H ++ l).set B o = H ++ l.set 0 o:=fun l o=>by rw [← hB,List.set_append_right _ _ (by omega)]; simp
 have gB2:∀ (X:List ag) (l:af),(H.set E (.arr 5 X) ++ l)[B]? = l[0]?:=fun X l=>by
  rw [← hB,List.getElem?_append_right (by rw [List.length_set]; omega)]; simp
 have sB2:∀ (X:List ag) (l:af) (o:cq),(H.set E (.arr 5 X) ++ l).set B o = H.set E (.arr 5 X) ++ l.set 0 o:=fun X l o=>by
  rw [← hB,List.set_append_right _ _ (by rw [List.length_set]; omega)]; simp
 have sE2:∀ (X Y:List ag) (l:af),(H.set E (.arr 5 X) ++ l).set E (.arr 5 Y) = H.set E (.arr 5 Y) ++ l:=fun X Y l=>by
  rw [List.set_append_left _ _ (by rw [List.length_set]; exact hEl),List.set_set]
 have hset:H.set E (.arr 5 (bu es f)) = H:=List.ext_getElem? fun j=>by
  rw [List.getElem?_set];by_cases e:E = j
  ·subst e; rw [if_pos rfl,if_pos hEl,hE]
  ·rw [if_neg e]
 have hNb:N * 8 ≤ 140737488355328:=by omega
 have hNm:(N:Int) ≤ 140737488355328:=by omega
 refine aa _ ?_;simp [LJ,hW,hNm,hB,CI,gW];refine ⟨by omega, ?_⟩;refine AW.loop (ι:=Nat) (fun i fr σ'=>∃ tl:af,fr = { v:=[(0, .ptr W 0),(3, .pval (.sref 1 B 0 N N)),(17, .sref 5 E 0 es.length es.length),(18, .int .i64 es.length),(19, .int .i64 i)],ds:=[] } ∧ σ' = H ++ (.arr 1 (byV N (tu es f i)) :: tl) ∧ i ≤ es.length) (fun i=>es.length - i) 0 ⟨[.dead],by simp,by have e0:tu es f 0 = fun _=>0:=(by funext n; simp [tu,aS]); rw [e0],by omega⟩ ?_;rintro i fr σ' ⟨tl,rfl,rfl,hil⟩;refine (Nat.lt_or_ge i es.length).elim (fun hi=>?_) (fun hge=>?_)
 ·have hiI:(i:Int) < es.length:=by omega
  have hsb:=ok.ok.src es[i] (List.getElem_mem hi);have hni:=ok.ok.ne es[i] (List.getElem_mem hi);have hbi:=Lj ok hb hi;have hst:=FN (f:=f) hi hni;have hg:=fun n=>Iw ok hb i n;have hwi:IntKind.i64.wrap ((i:Int) + 1) = ((i + 1:Nat):Int):=by rw [aq (by omega) (by omega)]; simp
  obtain ⟨g,hgd⟩:=zqq (tu es f i);rw [hgd] at hst hg ⊢;obtain ⟨e,he⟩:=zqq (es[i]);rw [he] at hsb hni hst;obtain ⟨s1,s2⟩:=hsb;have s1I:(e.src:Int) < N:=by omega
  have s2I:(e.dst:Int) < N:=by omega
  have w1:IntKind.i64.wrap (g e.src - f i) = g e.src - f i:=aq (by have:=hg e.src; omega) (by have:=hg e.src; omega);have w2:IntKind.i64.wrap (g e.dst + f i) = g e.dst + f i:=aq (by have:=hg e.dst; omega) (by have:=hg e.dst; omega);have hsd:∀ X,lK g e.src X e.dst = g e.dst:=fun X=>by unfold lK; rw [if_neg (fun h=>hni h.symm)]
  refine aa _ ?_;simp [hi,hiI,gE,gB0,sB0,bj,bC,cu,bX,sg,he,aI.v,aI.cells,s1,s2,s1I,s2I,w1,w2,hsd,hwi];exact ⟨i + 1,by omega,by simp,by rw [← hst],by omega⟩
 obtain rfl:i = es.length:=by omega
 rw [Bp];refine aa _ ?_;simp;refine AW.loop (ι:=Nat) (fun n fr σ'=>∃ (f1:Nat → Int) (tl:af),fr = { v:=[(0, .ptr W 0),(3, .pval (.sref 1 B 0 N N)),(43, .int .i64 N),(44, .int .i64 n)],ds:=[] } ∧ σ' = H.set E (.arr 5 (bu es f1)) ++ (.arr 1 (byV N fun m=>aS m es 0 f1) :: tl) ∧ InB es f1 ∧ (∀ m,m < n → aS m es 0 f1 ≤ 0) ∧ n ≤ N) (fun n=>N - n) 0 ⟨f,tl,by simp,by rw [hset],hb,by omega,by omega⟩ ?_;rintro n fr σ' ⟨f1,tl,rfl,rfl,hb1,hlo1,hnN⟩;refine (Nat.lt_or_ge n N).elim (fun hn=>?_) (fun hge=>?_);rotate_left
 ·obtain rfl:n = N:=by omega
  refine aa _ ?_;simp;exact ⟨f1,⟨_,rfl⟩,hb1,KL ok.ok hb1 hlo1⟩
 have hnI:(n:Int) < N:=by omega
 have hwn:IntKind.i64.wrap ((n:Int) + 1) = ((n + 1:Nat):Int):=by rw [aq (by omega) (by omega)]; simp
 refine aa _ ?_;simp [hnI];refine AW.loop (ι:=Nat → Int) (fun f1 fr σ'=>∃ (tl:af),fr = { v:=[(0, .ptr W 0),(3, .pval (.sref 1 B 0 N N)),(6, .int .i64 n),(43, .int .i64 N),(44, .int .i64 n)],ds:=[] } ∧ σ' = H.set E (.arr 5 (bu es f1)) ++ (.arr 1 (byV N fun m=>aS m es 0 f1) :: tl) ∧ InB es f1 ∧ (∀ m,m < n → aS m es 0 f1 ≤ 0)) (fun f1=>(aS n es 0 f1).toNat) f1 ⟨tl,by simp,rfl,hb1,hlo1⟩ ?_;clear hb1 hlo1;rintro f1 fr σ' ⟨tl,rfl,rfl,hb1,hlo1⟩;have hnb:=fun m=>HT ok hb1 m;by_cases hpos:0 < aS n es 0 f1;rotate_left
 ·have hle1:∀ m,m < n + 1 → aS m es 0 f1 ≤ 0:=fun m hm=>by
   rcases Nat.lt_or_ge m n with hlt | hge
   ·exact hlo1 m hlt
   ·obtain rfl:m = n:=by omega
    omega
  refine aa _ ?_;simp [gB2,hn,hnI,cu,bX,hpos,hwn];exact ⟨n + 1,by omega,by simp,f1,⟨_,rfl⟩,hb1,hle1,by omega⟩
 have hH:=(h.set f1).app (.arr 1 (byV N fun m=>aS m es 0 f1) :: tl);have hps:=nr hH ok hb1 hn (aS n es 0 f1) (-1) hpos (g:=Ft) (caps:=[.pval (.sref 1 B 0 N N)]) (want:=fun m=>- aS m es 0 f1) fun x hx tl'=>aE.func QZ (first:=[]) (oh (σ:=(H.set E (.arr 5 (bu es f1)) ++ (.arr 1 (byV N fun m=>aS m es 0 f1) :: tl)) ++ tl') (B:=B) (g:=fun m=>aS m es 0 f1) (by rw [List.append_assoc,gB2]; rfl) hx hN (hnb x));refine aa _ ?_;simp [gB2,hn,hnI,cu,bX,hpos];refine ah.spec Ll hps ?_;rintro r σ' ⟨k,t,f2,tl2,rfl,rfl,hpo⟩;refine ⟨_,rfl, ?_⟩
 replace hpo:=hpo.all fun j=>by omega
 rw [sE2];by_cases hk:k = 0
 ·subst hk;simp;exact ⟨f2,⟨_,rfl⟩,hpo.inb,fun g hg=>JG ok.ok hb1 hn hpos hpo ⟨g,hg⟩⟩
 obtain ⟨⟨q1,q2,q3,q4,q5⟩,q6,_⟩:=hpo.yes hk;obtain ⟨r1,r2,r3,r4⟩:=Ia hk hpo (Int.le_refl _) hlo1;have q5I:(t:Int) < N:=by omega
 have hnb2:=HT ok r1;have e1:aS n es 0 f2 = aS n es 0 f1 - k:=by rw [q6 n,if_pos rfl,if_neg (Ne.symm q4)]; omega
 have e2:aS t es 0 f2 = aS t es 0 f1 + k:=by rw [q6 t,if_pos rfl,if_neg q4]; omega
 have w1:IntKind.i64.wrap (aS n es 0 f1 - k) = aS n es 0 f1 - k:=by rw [← e1]; exact aq (by have:=hnb2 n; omega) (by have:=hnb2 n; omega)
 have w2:IntKind.i64.wrap (aS t es 0 f1 + k) = aS t es 0 f1 + k:=by rw [← e2]; exact aq (by have:=hnb2 t; omega) (by have:=hnb2 t; omega)
 have hsd:∀ X,lK (fun m=>aS m es 0 f1) n X t = aS t es 0 f1:=fun X=>by unfold lK; rw [if_neg q4]
 have hfin:lK (lK (fun m=>aS m es 0 f1) n (aS n es 0 f1 - k)) t (aS t es 0 f1 + k) = fun m=>aS m es 0 f2:=by
  funext m;unfold lK;rw [q6 m];by_cases c1:m = t
  ·subst c1; rw [if_pos rfl,if_pos rfl,if_neg q4]; omega
  ·by_cases c2:m = n
   ·subst c2; rw [if_neg c1,if_pos rfl,if_pos rfl,if_neg c1]; omega
   ·rw [if_neg c1,if_neg c2,if_neg c2,if_neg c1]; dsimp only; omega
 simp [hk,gB2,sB2,hn,hnI,q5,q5I,cu,bX,sg,w1,w2,hsd,hfin];have hmx:max (aS n es 0 f2) 0 < aS n es 0 f1:=by omega
 exact ⟨f2,hmx,⟨_,rfl⟩,r1,r2⟩
end Go.AM
