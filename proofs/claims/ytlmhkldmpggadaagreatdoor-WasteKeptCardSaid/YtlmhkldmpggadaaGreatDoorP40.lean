/- Chapter 09: lists of papers, one after the other: of the program. Chapter 09: all papers but one; yards that close at all: of the program. Chapter 09: the fewest papers: of the program. Chapter .. -/
import Derived.Test.YtlmhkldmpggadaaGreatDoorP39
import Derived.Test.YtlmhkldmpggadaaGreatDoorP30
import Derived.Test.YtlmhkldmpggadaaGreatDoorP35
import Derived.Test.YtlmhkldmpggadaaGreatDoorP37
import Derived.Test.YtlmhkldmpggadaaGreatDoorP23
import Derived.Below
namespace Go.AM
open Go.Proofs
set_option maxRecDepth 100000
set_option maxHeartbeats 1000000
theorem lV (y:ab) (σ:af):Spec Tryz.prog MP [y.v] σ fun r σ'=>r = .ret (.func (.func 133) [] [.pval y.v]) ∧ σ' = σ:=by
 refine Spec.aF (U6 (by simp) (aa _ ?_)) (by simp [y.pure,aH]) (by simp [ag.pure,aH,y.pure]) σ;simp [Rw,ab.v,ab.cells]
theorem yE (l:List Int):Fits 1 (l.map ii'):=fun v hv=>by
 obtain ⟨x,_,rfl⟩:=List.mem_map.1 hv;exact ⟨⟨rfl,rfl⟩,rfl⟩
def oD (b n:Nat) (y:ab):ag:=.func (.func 134) [] [.pval (.yieldf b), .pval y.v, .ptr n 0]
theorem nI (y:ab) (hm:y.papers.length ≤ 1000) (b n:Nat) (all:List (List Nat)) (J:List (List Nat) → af → Prop) (Stop:af → Prop)
  (hy:∀ done l s tl,J done s → s.length = n → (∀ x ∈ l,x < y.papers.length) → l.length ≤ y.papers.length → (∃ rest,all = done ++ l :: rest) →
   aE Tryz.prog (.yieldf b) [.slice 1 ((bb l).map ii')] (s ++ tl) fun r σ'=>∃ s' tl',σ' = s' ++ tl ++ tl' ∧ s'.length = n ∧ ((r = .ret (.bool true) ∧ J (done ++ [l]) s') ∨ (r = .ret (.bool false) ∧ Stop s'))) :
  ∀ (many:Nat) (l:List Nat) (a:Nat) (done:List (List Nat)) (s tl:af),J done s → s.length = n → (∀ x ∈ l,x < y.papers.length) → l.length + many ≤ y.papers.length → a ≤ y.papers.length → (∃ rest,all = done ++ fy l (eR y.papers.length many a) ++ rest) →
   Spec Tryz.prog HH [.slice 1 ((bb l).map ii'),ii' a,ii' many, .pval (.yieldf b), .pval y.v, .ptr n 0] (s ++ (.box [oD b n y] :: tl)) fun r σ'=>∃ s' tl',σ' = s' ++ (.box [oD b n y] :: tl') ∧ s'.length = n ∧
    ((r = .ret (.bool true) ∧ J (done ++ fy l (eR y.papers.length many a)) s') ∨ (r = .ret (.bool false) ∧ Stop s'))
 | 0,l,a,done,s,tl,hJ,hs,hl,hlm,ha,hall=>by
  refine Lw (by simp) ?_;have hyy:=hy done l s (.box [oD b n y] :: tl) hJ hs hl (by omega) (by obtain ⟨rest,hr⟩:=hall; exact ⟨rest,by rw [hr,ahead_zero]; simp⟩);refine aa _ ?_;simp [IW];refine ah.fO hyy ?_;rintro r σ' ⟨s',tl',rfl,hs',⟨rfl,hJ'⟩ | ⟨rfl,hS⟩⟩
  ·refine ⟨_,rfl, ?_⟩;simp;exact ⟨s',⟨_,rfl⟩,hs',by rw [ahead_zero]; exact hJ'⟩
  ·refine ⟨_,rfl, ?_⟩;simp;exact ⟨s',⟨_,rfl⟩,hs',hS⟩
 | many + 1,l,a,done,s,tl,hJ,hs,hl,hlm,ha,hall=>by
  have ih:=nI y hm b n all J Stop hy many;refine Lw (by simp) ?_;have gB:∀ (s' l':af),s'.length = n → (s' ++ l')[n]? = l'[0]?:=fun s' l' h=>by rw [← h,List.getElem?_append_right (by omega)]; simp
  have hne:¬ (many:Int) + 1 = 0:=by omega
  have hmo:(many:Int) + 1 ≤ y.papers.length:=by omega
  have w1:IntKind.i64.wrap ((y.papers.length:Int) - (many + 1)) = y.papers.length - (many + 1):=aq (by omega) (by omega);have w2:IntKind.i64.wrap (many:Int) = many:=aq (by omega) (by omega);have hnl:(bb l).length = l.length:=by simp [bb]
  obtain ⟨m,hmm⟩:=zqq y.papers.length;simp only [hmm] at hm hl hlm ha hmo w1 ih hall ⊢;refine aa _ ?_;simp [IW,ab.v,ab.cells,hne];refine AW.loop (ι:=Nat) (fun c fr σ'=>∃ (dn:List (List Nat)) (s' tl':af),fr = { v:=[(0, .slice 1 ((bb l).map ii')),(2,ii' ((many:Int) + 1)),(4, .pval y.v),(5, .ptr n 0),(10, .int .i64 c)],ds:=[] } ∧ σ' = s' ++ (.box [oD b n y] :: tl') ∧ J dn s' ∧ s'.length = n ∧ done ++ fy l (eR m (many + 1) a) = dn ++ fy l (eR m (many + 1) c) ∧ c ≤ m + 1) (fun c=>m + 1 - c) a ⟨done,s,tl,by simp [ab.v,ab.cells],rfl,hJ,hs,rfl,by omega⟩ ?_;rintro c fr σ' ⟨dn,s',tl',rfl,rfl,hJ',hs',hdn,hc⟩;by_cases hcm:c + (many + 1) ≤ m;rotate_left
  ·have hcI:¬ (c:Int) ≤ m - (many + 1):=by omega
   have hfin:J (done ++ fy l (eR m (many + 1) a)) s':=by
    rw [hdn,GO l (by omega),List.append_nil]; exact hJ'
   refine aa _ ?_;simp [ab.v,ab.cells,hmm,w1,hcI];exact ⟨s',⟨_,rfl⟩,hs',hfin⟩
  have hcI:(c:Int) ≤ m - (many + 1):=by omega
  have w3:IntKind.i64.wrap ((c:Int) + 1) = ((c + 1:Nat):Int):=by rw [aq (by omega) (by omega)]; simp
  have hmem:∀ x ∈ l ++ [c],x < m:=fun x hx=>by
   rcases List.mem_append.1 hx with h | h
   ·exact hl x h
   ·rw [List.mem_singleton.1 h]; omega
  refine aa _ ?_;simp [ab.v,ab.cells,hmm,w1,hcI,gB _ _ hs',oD];refine ⟨[.slice 1 [.int .i64 c]],rfl, ?_⟩;refine ah.spec QU (oa _ (yE _) (by simp [bb]; omega) _) ?_;rintro r σ' ⟨rfl,rfl⟩;refine ⟨_,rfl, ?_⟩;have hgl:∀ (x z:cq),(s' ++ x :: (tl' ++ [z]))[(s' ++ x :: tl').length]? = some z:=fun x z=>by
   rw [show s' ++ x :: (tl' ++ [z]) = (s' ++ x :: tl') ++ [z] by simp,List.getElem?_append_right (by omega)]; simp
  have hsl:∀ (x z u:cq),(s' ++ x :: (tl' ++ [z])).set ((s' ++ x :: tl').length) u = s' ++ x :: (tl' ++ [u]):=fun x z u=>by
   rw [show s' ++ x :: (tl' ++ [z]) = (s' ++ x :: tl') ++ [z] by simp,List.set_append_right _ _ (by omega)]; simp
  simp [ab.v,ab.cells,hmm,w1,w2,w3,hcI,gB _ _ hs',oD,fits_int];refine ⟨by rw [hnl]; omega,[],[], ?_⟩
  have hih:=ih (l ++ [c]) (c + 1) dn s' (tl' ++ [.spare 1 2]) hJ' hs' hmem (by simp; omega) (by omega) (by
   obtain ⟨rest,hr⟩:=hall
   exact ⟨fy l (eR m (many + 1) (c + 1)) ++ rest,by rw [hr,hdn,vR l (by omega)]; simp only [List.append_assoc]⟩)
  have hnat:(bb (l ++ [c])).map ii' = (bb l).map ii' ++ [.int .i64 c]:=by simp [bb]
  rw [hnat] at hih;simp only [oD,ab.v,ab.cells] at hih;refine ah.fO (aE.func LR (first:=[]) (caps:=_) (args:=[_,_,_]) hih) ?_;rintro r σ' ⟨s2,tl2,rfl,hs2,⟨rfl,hJ2⟩ | ⟨rfl,hS⟩⟩
  ·refine ⟨_,rfl, ?_⟩;simp;exact ⟨c + 1,by omega,w3,dn ++ fy (l ++ [c]) (eR m many (c + 1)),s2,⟨tl2,rfl⟩,hJ2,hs2,by rw [hdn,vR l (by omega),List.append_assoc],by omega⟩
  ·refine ⟨_,rfl, ?_⟩;simp;exact ⟨s2,⟨tl2,rfl⟩,hs2,hS⟩
theorem yG (ls:List (List Nat)):fy [] ls = ls:=by simp [fy]
theorem ku (y:ab) (hm:y.papers.length ≤ 1000) (b:Nat) (σ:af) (J:List (List Nat) → af → Prop) (Stop:af → Prop)
  (hy:∀ done l s tl,J done s → s.length = σ.length → (∀ x ∈ l,x < y.papers.length) → l.length ≤ y.papers.length → (∃ rest,qH y.papers.length = done ++ l :: rest) →
   aE Tryz.prog (.yieldf b) [.slice 1 ((bb l).map ii')] (s ++ tl) fun r σ'=>∃ s' tl',σ' = s' ++ tl ++ tl' ∧ s'.length = σ.length ∧ ((r = .ret (.bool true) ∧ J (done ++ [l]) s') ∨ (r = .ret (.bool false) ∧ Stop s')))
  (h0:J [] σ) :
  Spec Tryz.prog IQ [.yieldf b, .pval y.v] σ fun r σ'=>r = .ret (.tup []) ∧ ∃ s tl,σ' = s ++ tl ∧ s.length = σ.length ∧ (J (qH y.papers.length) s ∨ Stop s):=by
 refine Q2 (by simp) ?_;obtain ⟨n,hn⟩:=zqq (σ.length);have hf:=nI y hm b n (qH y.papers.length) J Stop (by rw [← hn]; exact hy);rw [hn];obtain ⟨m,hmm⟩:=zqq y.papers.length;rw [hmm] at hm;have w1:IntKind.i64.wrap ((m:Int) + 1) = (m:Int) + 1:=aq (by omega) (by omega);have gB:∀ (s' l':af),s'.length = n → (s' ++ l')[n]? = l'[0]?:=fun s' l' h=>by rw [← h,List.getElem?_append_right (by omega)]; simp
 have sB:∀ (s' l':af) (o:cq),s'.length = n → (s' ++ l').set n o = s' ++ l'.set 0 o:=fun s' l' o h=>by rw [← h,List.set_append_right _ _ (by omega)]; simp
 simp only [hmm] at hf ⊢;refine aa _ ?_;simp [Lf,ab.v,ab.cells,hmm,w1,hn,sB _ _ _ hn];refine AW.loop (ι:=Nat) (fun k fr σ'=>∃ (s' tl':af),fr = { v:=[(3, .ptr n 0),(10, .int .i64 (m + 1)),(11, .int .i64 k)],ds:=[] } ∧ σ' = s' ++ (.box [oD b n y] :: tl') ∧ J ((List.range k).flatMap fun many=>eR m many 0) s' ∧ s'.length = n ∧ k ≤ m + 1) (fun k=>m + 1 - k) 0 ⟨σ,[],by simp,by simp [oD,ab.v,ab.cells],by simpa using h0,hn,by omega⟩ ?_;rintro k fr σ' ⟨s',tl',rfl,rfl,hJ',hs',hk⟩;refine (Nat.lt_or_ge k (m + 1)).elim (fun hlt=>?_) (fun hge=>?_);rotate_left
 ·obtain rfl:k = m + 1:=by omega
  refine aa _ ?_;simp;exact ⟨s',⟨_,rfl⟩,hs', .inl hJ'⟩
 have hltI:(k:Int) < (m:Int) + 1:=by omega
 have w3:IntKind.i64.wrap ((k:Int) + 1) = ((k + 1:Nat):Int):=by rw [aq (by omega) (by omega)]; simp
 have hrest:∃ rest,qH m = ((List.range k).flatMap fun many=>eR m many 0) ++ fy [] (eR m k 0) ++ rest:=by
  refine ⟨((List.range (m - k)).map fun j=>k + 1 + j).flatMap fun many=>eR m many 0, ?_⟩;unfold qH;rw [show m + 1 = (k + 1) + (m - k) by omega,List.range_add,List.flatMap_append,List.range_succ,List.flatMap_append,yG];simp
 have hfk:=hf k [] 0 _ s' tl' hJ' hs' (by simp) (by simp; omega) (by omega) hrest;simp only [oD,ab.v,ab.cells] at hfk;refine aa _ ?_;simp [hltI,gB _ _ hs',oD,ab.v,ab.cells];refine ah.fO (aE.func LR (first:=[]) (caps:=_) (args:=[_,_,_]) hfk) ?_;rintro r σ' ⟨s2,tl2,rfl,hs2,⟨rfl,hJ2⟩ | ⟨rfl,hS⟩⟩
 ·refine ⟨_,rfl, ?_⟩;simp [w3];have hJ3:J ((List.range (k + 1)).flatMap fun many=>eR m many 0) s2:=by
   rw [List.range_succ,List.flatMap_append];rw [yG] at hJ2;simpa using hJ2
  exact ⟨k + 1,by omega,by simp,s2,⟨tl2,rfl⟩,hJ3,hs2,by omega⟩
 ·refine ⟨_,rfl, ?_⟩;simp;exact ⟨s2,⟨_,rfl⟩,hs2, .inr hS⟩
def vp (m:Nat) (but:Int):List Nat:=(List.range m).filter fun i=>decide ((i:Int) ≠ but)
theorem FT (k:Nat) (but:Int):vp (k + 1) but = vp k but ++ if (k:Int) = but then [] else [k]:=by
 unfold vp;rw [List.range_succ,List.filter_append];congr 1;by_cases h:(k:Int) = but <;> simp [h]
theorem oL (y:ab) (hm:y.papers.length ≤ 1000) (but:Int) (σ:af):Spec Tryz.prog My [y.v,ii' but] σ fun r σ'=>r = .ret (.slice 1 ((bb (vp y.papers.length but)).map ii')) ∧ σ' = σ:=by
 refine Spec.aF (S8 (by simp) ?_) (by simp [y.pure,aH]) (by simp [ag.pure,aD (f:=ii') (fun _=>rfl)]) σ;refine aa _ ?_;simp [QR,ab.v,ab.cells];refine AW.loop (ι:=Nat) (fun k fr σ'=>∃ (q:Nat) (tl:af),fr = { v:=[(1,ii' but),(4, .oslice 1 ((bb (vp k but)).map ii') 0 q),(9, .int .i64 y.papers.length),(10, .int .i64 k)],ds:=[] } ∧ σ' = .spare 1 q :: tl ∧ k ≤ y.papers.length) (fun k=>y.papers.length - k) 0 ⟨0,[],by simp [vp,bb],rfl,by omega⟩ ?_;rintro k fr σ' ⟨q,tl,rfl,rfl,hk⟩;refine (Nat.lt_or_ge k y.papers.length).elim (fun hlt=>?_) (fun hge=>?_);rotate_left
 ·obtain rfl:k = y.papers.length:=by omega
  refine aa _ ?_;simp
 have hltI:(k:Int) < y.papers.length:=by omega
 have w3:IntKind.i64.wrap ((k:Int) + 1) = ((k + 1:Nat):Int):=by rw [aq (by omega) (by omega)]; simp
 have hst:=FT k but;have hln:(bb (vp k but)).length ≤ k:=by
  have:=List.length_filter_le (fun i:Nat=>decide ((i:Int) ≠ but)) (List.range k);simp only [bb,List.length_map,vp];simpa using this
 by_cases hb:(k:Int) = but
 ·rw [if_pos hb] at hst;refine aa _ ?_;simp [hltI,eq_true hb,w3];exact ⟨k + 1,by omega,q,⟨⟨by rw [hst]; simp,rfl⟩,by simp⟩,rfl,by omega⟩
 ·rw [if_neg hb] at hst;refine aa _ ?_;simp [hltI,hb,w3,fits_int];exact ⟨by omega,k + 1,by omega,q + 1,⟨⟨by rw [hst]; simp [bb],rfl⟩,by simp⟩,rfl,by omega⟩
def iW (y:ab):Int:=if bW y [] ≠ 0 then bW y [] else if aP y (List.range y.papers.length) then 0 else 9
theorem iN (y:ab) (hy:dv y) (σ:af):Spec Tryz.prog Nb [y.v] σ fun r σ'=>r = .ret (.tup [y.v,ii' (iW y)]) ∧ σ' = σ:=by
 refine Spec.aF (SB (by simp) ?_) (by simp [y.pure,aH]) (by simp [ag.pure,aH,y.pure]) σ;have ho:=fun σ=>eT y hy [] (by simp) σ;unfold iW;simp only [ab.v,ab.cells,List.map_nil] at ho;by_cases h0:bW y [] = 0;rotate_left
 ·rw [if_pos h0];refine aa _ ?_;simp [Nd,ab.v,ab.cells];refine ah.pure nN (ho _) ?_;simp [beq_false_of_ne h0]
 rw [if_neg (by simp [h0])];have hw:=(cJ y []).1 h0;have hv:=hw.valid;have hm10:=hv.m10;have hal:=fun σ=>oL y (by omega) (-1) σ;have e1:vp y.papers.length (-1) = List.range y.papers.length:=by
  unfold vp;rw [List.filter_eq_self];intro a _; simp
 rw [e1] at hal;have hfit:ou (List.range y.papers.length):=by unfold ou; simp [maxLen]; omega
 have hcl:=fun σ=>dk hv (List.range y.papers.length) hfit σ;rw [mZ] at hcl;rw [h0] at ho;simp only [ab.v,ab.cells] at hal hcl;refine aa _ ?_;simp [Nd,ab.v,ab.cells];refine ah.pure nN (ho _) ?_;simp;refine ah.pure Ob (hal _) ?_;simp;refine ah.pure Ay (hcl _) ?_;rcases tf (aP y (List.range y.papers.length)) with hc | hc
 ·simp [hc]
 ·simp [hc]
def sX (y:ab):List Nat × Int:=if iW y ≠ 0 then ([],iW y) else match AN y with
 | some l=>(l,0)
 | none=>([],9)
theorem xF {y:ab} (h:iW y = 0):bJ aQ y:=by
 unfold iW at h;by_cases h0:bW y [] = 0
 ·exact ((cJ y []).1 h0).valid
 ·rw [if_pos h0] at h; exact absurd h h0
theorem lb (y:ab) (hy:dv y) (σ:af):Spec Tryz.prog IG [y.v] σ fun r σ'=>r = .ret (.tup [.slice 1 ((bb (sX y).1).map ii'),ii' (sX y).2]) ∧ σ' = σ:=by
 refine Spec.aF (TK (by simp) ?_) (by simp [y.pure,aH]) (by simp [ag.pure,aH,aD (f:=ii') (fun _=>rfl)]) σ;have hen:=fun σ=>iN y hy σ;have hls:=fun σ=>lV y σ;simp only [ab.v,ab.cells] at hen hls;unfold sX;by_cases h0:iW y = 0;rotate_left
 ·rw [if_pos h0];refine aa _ ?_;simp [M1,ab.v,ab.cells];refine ah.pure Gs (hen _) ?_;simp [h0,bb]
 rw [if_neg (by simp [h0])];have hv:=xF h0;have hm10:=hv.m10;rw [h0] at hen;rw [D8];refine aa _ ?_;simp [M1,ab.v,ab.cells];refine ah.pure Gs (hen _) ?_;simp;refine ah.pure RI (hls _) ?_;simp;refine AW.jM (by simp) fun asg' body' ca cb hps=>?_;have hcl:=fun l (hl:ou l) σ=>dk hv l hl σ;simp only [mZ,ab.v,ab.cells] at hcl;obtain ⟨ya,hya⟩:∃ ya:ag,ag.agg [.slice 1 (y.kinds.map .str), .slice 1 (y.places.map .str), .slice 4 (y.first.map ay.v), .slice 5 (y.papers.map aj.v), .slice 4 (y.last.map ay.v)] = ya:=⟨_,rfl⟩;rw [hya] at hcl;simp only [hya];have hl1:=fun J Stop=>ku y (by omega) 4 [.box [.slice 1 []], .box [ii' 0], .dead, .dfr, .looprec 22 [(2, .ptr 0 0),(3, .ptr 1 0),(4, .pval ya),(16, .func (.func 133) [] [.pval ya])] [17] asg' body' 3 .ready none] J Stop;rw [show y.v = ya from hya] at hl1;change oq Tryz.prog (.func (.func 133) [] [.pval ya]) [.yieldf 4] [.box [.slice 1 []], .box [ii' 0], .dead, .dfr, .looprec 22 [(2, .ptr 0 0),(3, .ptr 1 0),(4, .pval ya),(16, .func (.func 133) [] [.pval ya])] [17] asg' body' 3 .ready none] (vZ 4 _ _)
 refine oq.func La ((hl1
  (fun done s=>s = [.box [.slice 1 []], .box [ii' 0], .dead, .dfr, .looprec 22 [(2, .ptr 0 0),(3, .ptr 1 0),(4, .pval ya),(16, .func (.func 133) [] [.pval ya])] [17] asg' body' 3 .ready none] ∧ ∀ l ∈ done,aP y l = false)
  (fun s=>∃ l,s = [.box [.slice 1 ((bb l).map ii')], .box [ii' 0], .dead, .dfr, .looprec 22 [(2, .ptr 0 0),(3, .ptr 1 0),(4, .pval ya),(16, .func (.func 133) [] [.pval ya])] [17] asg' body' 3 .done (some .ret)] ∧ (qH y.papers.length).find? (aP y) = some l) ?_ ?_).mono ?_)
 ·subst hya;rintro done l s tl ⟨rfl,hd⟩ hsl hlm hll ⟨rest,hall⟩;refine aE.round (e:=[(2, .ptr 0 0),(3, .ptr 1 0),(4, .pval (.agg [.slice 1 (y.kinds.map .str), .slice 1 (y.places.map .str), .slice 4 (y.first.map ay.v), .slice 5 (y.papers.map aj.v), .slice 4 (y.last.map ay.v)])),(16, .func (.func 133) [] [.pval (.agg [.slice 1 (y.kinds.map .str), .slice 1 (y.places.map .str), .slice 4 (y.first.map ay.v), .slice 5 (y.papers.map aj.v), .slice 4 (y.last.map ay.v)])])]) (D:=3) (pend:=none) ca cb hps (by simp) rfl ?_;have hcll:=hcl l (by unfold ou; simp only [maxLen]; omega);refine aa _ ?_;simp [jf];refine ⟨_,_,_,_,_,_,_,⟨rfl,rfl,rfl,rfl,rfl,rfl,rfl⟩, ?_⟩;refine aa _ ?_;simp;refine ah.pure Ay (hcll _) ?_;rcases tf (aP y l) with hc | hc
  ·simp [hc];exact ⟨_,_,_,_,_,_,_,_,rfl,[_,_,_,_,_],⟨[],by simp⟩,rfl, .inl ⟨rfl,rfl,fun l1 h1=>h1.elim (hd l1) fun e=>e ▸ hc⟩⟩
  ·simp [hc];have hfi:(qH y.papers.length).find? (aP y) = some l:=by
    rw [hall,List.find?_append,List.find?_eq_none.2 fun l1 h1=>by rw [hd l1 h1]; simp];simp [hc]
   exact ⟨_,_,_,_,_,_,_,_,rfl,[_,_,_,_,_],⟨[],by simp⟩,rfl, .inr ⟨rfl,l,rfl,hfi⟩⟩
 ·exact ⟨rfl,by simp⟩
 ·rintro r σ' ⟨rfl,s,tl,rfl,hs,⟨rfl,hJ⟩ | ⟨l,rfl,hS⟩⟩
  ·have hfi:(qH y.papers.length).find? (aP y) = none:=List.find?_eq_none.2 fun l hl=>by rw [hJ l hl]; simp
   rw [hfi];refine ⟨_,_,_,_,_,_,_,_,rfl,by simp, ?_⟩;simp [bb]
  ·rw [hS];refine ⟨_,_,_,_,_,_,_,_,rfl,by simp, ?_⟩;simp
def Be (y:ab):List Nat × Int:=if iW y ≠ 0 then ([],iW y) else (K9 y,0)
def nW (y:ab) (k:Nat):List Nat:=(List.range k).filter fun i=>!aP y (kp y.papers.length i)
theorem CF (y:ab) (k:Nat):nW y (k + 1) = nW y k ++ if aP y (kp y.papers.length k) then [] else [k]:=by
 unfold nW;rw [List.range_succ,List.filter_append];congr 1;cases h:aP y (kp y.papers.length k) <;> simp [h]
theorem HB (m k:Nat):vp m k = kp m k:=by
 unfold vp kp;refine List.filter_congr fun i _=>?_;by_cases h:i = k
 ·simp [h]
 ·have:¬ (i:Int) = k:=by omega
  simp [h,this]
theorem nC (y:ab) (hy:dv y) (σ:af):Spec Tryz.prog Il [y.v] σ fun r σ'=>r = .ret (.tup [.slice 1 ((bb (Be y).1).map ii'),ii' (Be y).2]) ∧ σ' = σ:=by
 refine Spec.aF (TH (by simp) ?_) (by simp [y.pure,aH]) (by simp [ag.pure,aH,aD (f:=ii') (fun _=>rfl)]) σ;have hen:=fun σ=>iN y hy σ;simp only [ab.v,ab.cells] at hen;unfold Be;by_cases h0:iW y = 0;rotate_left
 ·rw [if_pos h0];refine aa _ ?_;simp [N2,ab.v,ab.cells];refine ah.pure Gs (hen _) ?_;simp [h0,bb]
 rw [if_neg (by simp [h0])];have hv:=xF h0;have hm10:=hv.m10;rw [h0] at hen;have hal:=fun (k:Nat) σ=>oL y (by omega) k σ;have hfit:∀ k,ou (kp y.papers.length k):=fun k=>by
  have:=List.length_filter_le (fun i:Nat=>decide (i ≠ k)) (List.range y.papers.length);unfold ou kp;simp only [maxLen,List.length_range] at this ⊢;omega
 have hcl:=fun k σ=>dk hv (kp y.papers.length k) (hfit k) σ;simp only [mZ] at hcl;simp only [HB] at hal;simp only [ab.v,ab.cells] at hal hcl;refine aa _ ?_;simp [N2,ab.v,ab.cells];refine ah.pure Gs (hen _) ?_;simp;refine AW.loop (ι:=Nat) (fun k fr σ'=>∃ (q:Nat) (tl:af),fr = { v:=[(2, .oslice 1 ((bb (nW y k)).map ii') 0 q),(4, .pval y.v),(17, .int .i64 y.papers.length),(18, .int .i64 k)],ds:=[] } ∧ σ' = .spare 1 q :: tl ∧ k ≤ y.papers.length) (fun k=>y.papers.length - k) 0 ⟨0,[.dead],by simp [nW,bb,ab.v,ab.cells],rfl,by omega⟩ ?_;rintro k fr σ' ⟨q,tl,rfl,rfl,hk⟩;refine (Nat.lt_or_ge k y.papers.length).elim (fun hlt=>?_) (fun hge=>?_);rotate_left
 ·obtain rfl:k = y.papers.length:=by omega
  refine aa _ ?_;simp [nW,K9]
 have hltI:(k:Int) < y.papers.length:=by omega
 have w3:IntKind.i64.wrap ((k:Int) + 1) = ((k + 1:Nat):Int):=by rw [aq (by omega) (by omega)]; simp
 have hst:=CF y k;have hln:(bb (nW y k)).length ≤ k:=by
  have:=List.length_filter_le (fun i:Nat=>!aP y (kp y.papers.length i)) (List.range k);simp only [bb,List.length_map,nW];simpa using this
 have hclk:=hcl k;have halk:=hal k;rcases tf (aP y (kp y.papers.length k)) with hc | hc
 ·rw [hc] at hclk hst;refine aa _ ?_;simp [hltI,ab.v,ab.cells];refine ah.pure Ob (halk _) ?_;simp [ab.v,ab.cells];refine ah.pure Ay (hclk _) ?_;simp [w3,fits_int,ab.v,ab.cells];exact ⟨by omega,k + 1,by omega,q + 1,⟨⟨by rw [hst]; simp [bb],rfl⟩,by simp⟩,rfl,by omega⟩
 ·rw [hc] at hclk hst;refine aa _ ?_;simp [hltI,ab.v,ab.cells];refine ah.pure Ob (halk _) ?_;simp [ab.v,ab.cells];refine ah.pure Ay (hclk _) ?_;simp [w3,ab.v,ab.cells];exact ⟨k + 1,by omega,q,⟨⟨by rw [hst]; simp,rfl⟩,by simp⟩,rfl,by omega⟩
theorem mP (l:List Int) (hl:l.length ≤ maxLen) (n:Int) (σ:af):Spec Tryz.prog Nt [.slice 1 (l.map ii'),ii' n] σ fun r σ'=>r = .ret (.bool (l.any fun x=>decide (x = n))) ∧ σ' = σ:=by
 refine Spec.aF (Ue (by simp) (aa _ ?_)) (by simp [aH,ag.pure,aD (f:=ii') (fun _=>rfl)]) rfl σ;simp [Qe];refine AW.loop (ι:=Nat) (fun i fr σ=>fr = { v:=[(0, .slice 1 (l.map ii')),(1,ii' n),(5, .int .i64 i)],ds:=[] } ∧ i ≤ l.length ∧ (l.any fun x=>decide (x = n)) = (l.drop i).any fun x=>decide (x = n)) (fun i=>l.length - i) 0 (by simp) ?_;rintro i fr σ ⟨rfl,hi,hq⟩;refine (Nat.lt_or_ge i l.length).elim (fun hlt=>?_) (fun hge=>?_)
 ·obtain ⟨x,hx⟩:=zqq (l[i]);rw [List.drop_eq_getElem_cons hlt,List.any_cons,hx] at hq;have hw:IntKind.i64.wrap ((i:Int) + 1) = ((i + 1:Nat):Int):=by rw [aq (by omega) (by simp only [maxLen] at hl; omega)]; simp
  by_cases h:x = n
  ·rw [decide_eq_true h,Bool.true_or] at hq;rw [hq];refine aa _ ?_;simp [hlt,hx,h]
  ·rw [decide_eq_false h,Bool.false_or] at hq;rw [hq];refine aa _ ?_;simp [hlt,hx,h,hw];exact ⟨i + 1,by omega,by simp,by omega,rfl⟩
 ·have hd:l.drop i = []:=List.drop_eq_nil_of_le hge;rw [hd] at hq;rw [hq];refine aa _ ?_;simp [show ¬ i < l.length by omega]
def mQ (l:List Nat):ag:=.slice 1 ((bb l).map ii')
def uh (c:List Nat → Bool) (done sets:List (List Nat)):Prop:=∀ R,kB c (done ++ R) [] = kB c R sets
theorem uh.step {c:List Nat → Bool} {done sets:List (List Nat)} (h:uh c done sets) {l:List Nat} (hn:¬ ∃ s,sets.head? = some s ∧ s.length < l.length):uh c (done ++ [l]) (if c l then sets ++ [l] else sets):=fun R=>by
 rw [List.append_assoc,h ([l] ++ R),List.singleton_append,kB,if_neg hn]
theorem uh.stop {c:List Nat → Bool} {done sets all rest:List (List Nat)} (h:uh c done sets) {l:List Nat} (hn:∃ s,sets.head? = some s ∧ s.length < l.length) (ha:all = done ++ l :: rest):kB c all [] = sets:=by
 rw [ha,h,kB,if_pos hn]
theorem ui {α β:Type} (f:α → List β) (k:Nat) (h:∀ x,(f x).length ≤ k):∀ l:List α,(l.flatMap f).length ≤ l.length * k
 | []=>by simp
 | x :: r=>by
  have h1:=ui f k h r;have h2:=h x;rw [List.flatMap_cons,List.length_append,List.length_cons,Nat.add_mul];omega
theorem tL {nm:ByteArray → Bool} {y:ab} (hv:bJ nm y) (σ:af):Spec Tryz.prog M6 [y.v] σ fun r σ'=>r = .ret (.slice 1 (((mN y).getD []).map mQ)) ∧ σ' = σ:=by
 refine Spec.aF (Te (by simp) ?_) (by simp [y.pure,aH]) (by simp [ag.pure,aD (f:=mQ) (fun l=>by simp [mQ,ag.pure,aD (f:=ii') (fun _=>rfl)])]) σ;have hls:=fun σ=>lV y σ;have hm10:=hv.m10;have hcl:=fun l (hl:ou l) σ=>dk hv l hl σ;simp only [ab.v,ab.cells] at hls;simp only [mZ,ab.v,ab.cells] at hcl;rw [← DO];refine aa _ ?_;simp [RO,ab.v,ab.cells];refine AW.scope ?_;refine aa _ ?_;simp;refine ah.pure RI (hls _) ?_;simp;refine AW.jM (by simp) fun asg' body' ca cb hps=>?_;obtain ⟨ya,hya⟩:∃ ya:ag,ag.agg [.slice 1 (y.kinds.map .str), .slice 1 (y.places.map .str), .slice 4 (y.first.map ay.v), .slice 5 (y.papers.map aj.v), .slice 4 (y.last.map ay.v)] = ya:=⟨_,rfl⟩;rw [hya] at hcl;simp only [hya];have hl1:=fun J Stop=>ku y (by omega) 3 [.spare 1 0, .box [.oslice 1 [] 0 0], .dfr, .looprec 27 [(1, .pval ya),(2, .ptr 1 0),(5, .func (.func 133) [] [.pval ya])] [6] asg' body' 2 .ready none] J Stop;rw [show y.v = ya from hya] at hl1;change oq Tryz.prog (.func (.func 133) [] [.pval ya]) [.yieldf 3] [.spare 1 0, .box [.oslice 1 [] 0 0], .dfr, .looprec 27 [(1, .pval ya),(2, .ptr 1 0),(5, .func (.func 133) [] [.pval ya])] [6] asg' body' 2 .ready none] (vZ 3 _ _)
 refine oq.func La ((hl1
  (fun done s=>∃ (q:Nat) (sets:List (List Nat)),s = [.spare 1 q, .box [.oslice 1 (sets.map mQ) 0 q], .dfr, .looprec 27 [(1, .pval ya),(2, .ptr 1 0),(5, .func (.func 133) [] [.pval ya])] [6] asg' body' 2 .ready none] ∧ uh (aP y) done sets ∧ sets.length ≤ done.length)
  (fun s=>∃ (q:Nat) (sets:List (List Nat)),s = [.spare 1 q, .box [.oslice 1 (sets.map mQ) 0 q], .dfr, .looprec 27 [(1, .pval ya),(2, .ptr 1 0),(5, .func (.func 133) [] [.pval ya])] [6] asg' body' 2 .done (some (.exit 0))] ∧ kB (aP y) (qH y.papers.length) [] = sets) ?_ ?_).mono ?_)
 ·subst hya;rintro done l s tl ⟨q,sets,rfl,hsk,hsl2⟩ hsl hlm hll ⟨rest,hall⟩;refine aE.round (e:=[(1, .pval (.agg [.slice 1 (y.kinds.map .str), .slice 1 (y.places.map .str), .slice 4 (y.first.map ay.v), .slice 5 (y.papers.map aj.v), .slice 4 (y.last.map ay.v)])),(2, .ptr 1 0),(5, .func (.func 133) [] [.pval (.agg [.slice 1 (y.kinds.map .str), .slice 1 (y.places.map .str), .slice 4 (y.first.map ay.v), .slice 5 (y.papers.map aj.v), .slice 4 (y.last.map ay.v)])])]) (D:=2) (pend:=none) ca cb hps (by simp) rfl ?_;have hcll:=hcl l (by unfold ou; simp only [maxLen]; omega);have hroom:(sets.length + 1) * 24 ≤ 140737488355328:=by
   have h1:=ui (fun many=>eR y.papers.length many 0) 1024 (fun many=>Cq hm10 many) (List.range (y.papers.length + 1));have h2:(qH y.papers.length).length ≤ (y.papers.length + 1) * 1024:=by unfold qH; simpa using h1
   rw [hall,List.length_append] at h2;omega
  have hstep:=fun hn=>hsk.step (l:=l) hn;have hstop:=fun hn=>hsk.stop (l:=l) hn hall;have hnl:(bb l).length = l.length:=by simp [bb]
  have hfl:Fits 1 [ag.slice 1 ((bb l).map ii')]:=fun v hv=>by
   simp at hv; subst hv; exact ⟨⟨rfl,rfl⟩,rfl⟩
  cases sets with
  | nil=>
   have hst:=hstep (by simp);refine aa _ ?_;simp [jf];refine ⟨_,_,_,_,_,_,_,⟨rfl,rfl,rfl,rfl,rfl,rfl,rfl⟩, ?_⟩;refine aa _ ?_;simp;refine ah.pure Ay (hcll _) ?_;rcases tf (aP y l) with hc | hc
   ·rw [hc,if_neg (by simp)] at hst;simp [hc];exact ⟨_,_,_,_,_,_,_,_,rfl,[_,_,_,_],⟨[],by simp⟩,rfl, .inl ⟨rfl,q,[],rfl,hst,by simp⟩⟩
   ·rw [hc,if_pos rfl] at hst;simp [hc,hfl];exact ⟨_,_,_,_,_,_,_,_,rfl,[_,_,_,_],⟨[],by simp [mQ]⟩,rfl, .inl ⟨rfl,q + 1,[l],rfl,hst,by simp⟩⟩
  | cons s0 sr=>
   have hn0:(bb s0).length = s0.length:=by simp [bb]
   by_cases hlen:s0.length < l.length
   ·have hso:=hstop ⟨s0,rfl,hlen⟩;refine aa _ ?_;simp [jf];refine ⟨_,_,_,_,_,_,_,⟨rfl,rfl,rfl,rfl,rfl,rfl,rfl⟩, ?_⟩;refine aa _ ?_;simp [mQ,hn0,hnl,hlen,hso];exact ⟨_,_,_,_,_,_,_,_,rfl,[_,_,_,_],⟨[],by simp⟩,rfl, .inr ⟨rfl,q,rfl⟩⟩
   ·have hst:=hstep (by rintro ⟨s,hs,hlt⟩; simp at hs; subst hs; exact hlen hlt);refine aa _ ?_;simp [jf];refine ⟨_,_,_,_,_,_,_,⟨rfl,rfl,rfl,rfl,rfl,rfl,rfl⟩, ?_⟩;refine aa _ ?_;simp [mQ,hn0,hnl,hlen];refine ah.pure Ay (hcll _) ?_;rcases tf (aP y l) with hc | hc
    ·rw [hc,if_neg (by simp)] at hst;simp [hc];exact ⟨_,_,_,_,_,_,_,_,rfl,[_,_,_,_],⟨[],by simp [mQ]⟩,rfl, .inl ⟨rfl,q,s0 :: sr,rfl,hst,by simp at hsl2 ⊢; omega⟩⟩
    ·rw [hc,if_pos rfl] at hst;simp [hc,hfl];exact ⟨by simp at hroom; omega,_,_,_,_,_,_,_,_,rfl,[_,_,_,_],⟨[],by simp [mQ]⟩,rfl, .inl ⟨rfl,q + 1,s0 :: sr ++ [l],rfl,hst,by simp at hsl2 ⊢; omega⟩⟩
 ·exact ⟨0,[],rfl,fun R=>rfl,by simp⟩
 ·rintro r σ' ⟨rfl,s,tl,rfl,hs,⟨q,sets,rfl,hJ,_⟩ | ⟨q,sets,rfl,hS⟩⟩
  ·have hfi:=hJ [];rw [List.append_nil] at hfi;rw [hfi];refine ⟨_,_,_,_,_,_,_,_,rfl,by simp, ?_⟩;simp [kB]
  ·rw [hS];refine ⟨_,_,_,_,_,_,_,_,rfl,by simp, ?_⟩;simp
open Go.RowKit
section
variable {P:Program} {A:World} {s:St}
theorem Inv.Ql (hi:Inv A s) {w':World} (hb:Below s.w.heap.size s.w w'):Inv A { s with w:=w' } ∧ bV s { s with w:=w' }:=
 hi.grow (s':={ s with w:=w' }) rfl rfl ⟨fun _ _ _ h=>h,fun _ _ h=>h,fun blk o hs=>World.cell?_of_block (a:=⟨blk,o,none⟩) (hb.block blk (hi.scell blk o hs))⟩
  (hi.below.trans (hb.mono hi.below.size)) hb.size hb.block (fun _ _ h=>.inl h) (fun _blk _x h=>Nat.lt_of_lt_of_le (hi.scell _ _ h) hb.size)
theorem Inv.FZ (hi:Inv A s) {w':World} (hb:Below s.w.heap.size s.w w') {blk:Nat} (hblk:s.w.heap.size ≤ blk) (us:List Value) (hc:∀ j (h:j < us.length),w'.cell? ⟨blk,j,none⟩ = some us[j]) :
  ∃ s',s'.h = s.h ∧ s'.w = w' ∧ Inv A s' ∧ bV s s' ∧ ∀ j,j < us.length → s'.S blk j:=by
 let s':St:={ h:=s.h,lam:=s.lam,S:=fun g o=>s.S g o ∨ (g = blk ∧ o < us.length),w:=w' }
 have hk:bq s s':=⟨fun _ _ _ h=>h,fun _ _ h=>.inl h,fun g o hs=>World.cell?_of_block (a:=⟨g,o,none⟩) (hb.block g (hi.scell g o hs))⟩
 have hgo:=hi.grow (s':=s') rfl rfl hk (hi.below.trans (hb.mono hi.below.size)) hb.size hb.block (fun g x h=>by
   rcases h with h | ⟨h,_⟩
   ·exact .inl h
   ·exact .inr (h ▸ hblk))
  (fun g x h=>by
   rcases h with h | ⟨rfl,h⟩
   ·exact Nat.lt_of_lt_of_le (hi.scell _ _ h) hb.size
   ·exact AT (hc x h))
 exact ⟨s',rfl,rfl,hgo.1,hgo.2,fun j h=>.inr ⟨rfl,h⟩⟩
theorem HV {s:St} {blk cap:Nat} {l:List ByteArray} (hcap:l.length ≤ cap) (hS:∀ j,j < l.length → s.S blk j) (hc:∀ j (h:j < l.length),s.w.cell? ⟨blk,j,none⟩ = some (.string l[j])) :
  Rv s (.slice 1 (l.map .str)) (.slice (some ⟨blk,0,none⟩) l.length cap):=by
 refine Rv.slice 1 (l.map .str) blk 0 l.length cap (l.map Value.string) (by simp) (by simp) hcap (fun i h1 h2=>by simp only [List.getElem_map]; exact .str _) (fun i h2=>?_);have h2':i < l.length:=by simpa using h2
 refine ⟨by simp [Value.cells],fun j hj=>?_⟩;have hj0:j = 0:=by simp [Value.cells] at hj; exact hj
 subst hj0;refine ⟨by simpa using hS i h2', ?_⟩;have:=hc i h2';simpa [Value.cells] using this
theorem Spec.KC {f:FuncId} {args:List ag} {σ:af} {Q:ag → Prop}
  (h:∀ A s cargs,s.h = σ → Inv A s → gy s args cargs → Calls P f cargs s.w fun e w'=>Below s.w.heap.size s.w w' ∧ ∃ v c,e = .returned c ∧ (∀ s':St,Rv s' v c) ∧ Q v) :
  Spec P f args σ fun r σ'=>∃ v,r = .ret v ∧ Q v ∧ σ' = σ:=by
 intro A s cargs h1 h2 h3;refine (h A s cargs h1 h2 h3).mono ?_;rintro e w' ⟨hb,v,c,rfl,hr,hq⟩;obtain ⟨i',g'⟩:=h2.Ql hb;exact ⟨.ret v,_,rfl,i',g',hr _,v,rfl,hq,h1⟩
theorem Spec.sE {f:FuncId} {args:List ag} {σ:af} {v:ag}
  (h:∀ A s cargs,s.h = σ → Inv A s → gy s args cargs → Calls P f cargs s.w fun e w'=>Below s.w.heap.size s.w w' ∧ ∃ c,e = .returned c ∧ ∀ s':St,Rv s' v c) :
  Spec P f args σ fun r σ'=>r = .ret v ∧ σ' = σ:=by
 refine (Spec.KC (Q:=fun u=>u = v) fun A s cargs h1 h2 h3=>(h A s cargs h1 h2 h3).mono ?_).mono ?_
 ·rintro e w' ⟨hb,c,rfl,hr⟩;exact ⟨hb,v,c,rfl,hr,rfl⟩
 ·rintro r σ' ⟨u,rfl,rfl,rfl⟩;exact ⟨rfl,rfl⟩
theorem gy.one {s:St} {a:ag} {cs:Array Value} (h:gy s [a] cs):∃ c,cs = #[c] ∧ Rv s a c:=by
 obtain ⟨h1,h2⟩:=h;obtain ⟨l⟩:=cs
 match l,h1 with
 | [c],_=>exact ⟨c,rfl,h2 0 (by simp) (by simp)⟩
theorem gy.two {s:St} {a b:ag} {cs:Array Value} (h:gy s [a,b] cs):∃ c d,cs = #[c,d] ∧ Rv s a c ∧ Rv s b d:=by
 obtain ⟨h1,h2⟩:=h;obtain ⟨l⟩:=cs
 match l,h1 with
 | [c,d],_=>exact ⟨c,d,rfl,h2 0 (by simp) (by simp),h2 1 (by simp) (by simp)⟩
theorem Rv.lh {s:St} {x:ByteArray} {c:Value} (h:Rv s (.str x) c):c = .string x:=by cases h; rfl
theorem Rv.AK {s:St} {k:IntKind} {n:Int} {c:Value} (h:Rv s (.int k n) c):c = .int k n:=by cases h; rfl
theorem Rv.IJ {s:St} {l:List ByteArray} {c:Value} (h:Rv s (.slice 1 (l.map .str)) c):∃ a cap,c = .slice a l.length cap ∧ (l = [] ∨ ∃ blk off,a = some ⟨blk,off,none⟩ ∧ l.length ≤ cap ∧ ∀ j x,l[j]? = some x → s.S blk (off + j) ∧ s.w.cell? ⟨blk,off + j,none⟩ = some (.string x)):=by
 obtain ⟨a,cap,rfl,hh⟩:=h.dI;refine ⟨a,cap,by simp, ?_⟩;rcases hh with h0 | ⟨blk,off,us,rfl,hl,hcp,hr,hm⟩
 ·exact .inl (by simpa using h0)
 ·refine .inr ⟨blk,off,rfl,by simpa using hcp,fun j x hj=>?_⟩;obtain ⟨hj1,rfl⟩:=List.getElem?_eq_some_iff.1 hj;simp only [List.length_map] at hl;have hr1:=hr j (by simpa using hj1) (by omega);simp only [List.getElem_map] at hr1;have he:=hr1.lh;have:=(hm j (by omega)).2 0 (by rw [he]; simp [Value.cells]);simp only [Nat.mul_one,Nat.add_zero] at this;refine ⟨this.1,this.2.trans ?_⟩;simp [he,Value.cells]
end
end Go.AM
