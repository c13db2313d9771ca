/- Chapter 09: the fewest papers: of the program. Chapter 09: papers that must be wrong: of the program. Chapter 09: some papers, by bits; Has. Chapter 09: all lists of az few papers az can be; .. -/
import Derived.Test.YtlmhkldmpggadaaGreatDoorP26
import Derived.Test.YtlmhkldmpggadaaGreatDoorP23
import Derived.Test.YtlmhkldmpggadaaGreatDoorP25
import Derived.Test.YtlmhkldmpggadaaGreatDoorP15
import Derived.Below
import Derived.Shelf.Strings.Builder1
import Derived.Shelf.Strings.OnBuilder
import Derived.Shelf.Strings.Cut
import Derived.Shelf.Strings.Split
import Derived.Shelf.Strconv.Itoa3
import Derived.Shelf.Strconv.AtoiAll
import Derived.Shelf.Sort.Plain
import Derived.Shelf.Slices.In.SortNone
namespace Go.AM
open Go.Proofs
set_option maxRecDepth 100000
set_option maxHeartbeats 1000000
def sX (y:ab):List Nat × Int:=if iW y ≠ 0 then ([],iW y) else match AN y with
 | some l=>(l,0)
 | none=>([],9)
theorem xF {y:ab} (h:iW y = 0):bJ aQ y:=by
 unfold iW at h;by_cases h0:bW y [] = 0
 ·exact ((cJ y []).1 h0).valid
 ·rw [if_pos h0] at h; exact absurd h h0
theorem lb (y:ab) (hy:dv y) (σ:af):Spec Tryz.prog IG [y.v] σ fun r σ'=>r = .ret (.tup [.slice 1 ((bb (sX y).1).map ii'),ii' (sX y).2]) ∧ σ' = σ:=by
 refine Spec.aF (TK (by simp) ?_) (by simp [y.pure,aH]) (by simp [ag.pure,aH,aD (f:=ii') (fun _=>rfl)]) σ;have hen:=fun σ=>iN y hy σ;have hls:=fun σ=>lV y σ;simp only [ab.v,ab.cells] at hen hls;unfold sX;by_cases h0:iW y = 0;rotate_left
 ·rw [if_pos h0];refine aa _ ?_;simp [M1,ab.v,ab.cells];refine ah.pure Gs (hen _) ?_;simp [h0,bb]
 rw [if_neg (by simp [h0])];have hv:=xF h0;have hm10:=hv.m10;rw [h0] at hen;rw [D8];refine aa _ ?_;simp [M1,ab.v,ab.cells];refine ah.pure Gs (hen _) ?_;simp;refine ah.pure RI (hls _) ?_;simp;refine AW.jM (by simp) fun asg' body' ca cb hps=>?_;have hcl:=fun l (hl:ou l) σ=>dk hv l hl σ;simp only [mZ,ab.v,ab.cells] at hcl;obtain ⟨ya,hya⟩:∃ ya:ag,ag.agg [.slice 1 (y.kinds.map .str), .slice 1 (y.places.map .str), .slice 4 (y.first.map ay.v), .slice 5 (y.papers.map aj.v), .slice 4 (y.last.map ay.v)] = ya:=⟨_,rfl⟩;rw [hya] at hcl;simp only [hya];have hl1:=fun J Stop=>ku y (by omega) 4 [.box [.slice 1 []], .box [ii' 0], .dead, .dfr, .looprec 22 [(2, .ptr 0 0),(3, .ptr 1 0),(4, .pval ya),(16, .func (.func 133) [] [.pval ya])] [17] asg' body' 3 .ready none] J Stop;rw [show y.v = ya from hya] at hl1;change oq Tryz.prog (.func (.func 133) [] [.pval ya]) [.yieldf 4] [.box [.slice 1 []], .box [ii' 0], .dead, .dfr, .looprec 22 [(2, .ptr 0 0),(3, .ptr 1 0),(4, .pval ya),(16, .func (.func 133) [] [.pval ya])] [17] asg' body' 3 .ready none] (vZ 4 _ _)
 refine oq.func La ((hl1
  (fun done s=>s = [.box [.slice 1 []], .box [ii' 0], .dead, .dfr, .looprec 22 [(2, .ptr 0 0),(3, .ptr 1 0),(4, .pval ya),(16, .func (.func 133) [] [.pval ya])] [17] asg' body' 3 .ready none] ∧ ∀ l ∈ done,aP y l = false)
  (fun s=>∃ l,s = [.box [.slice 1 ((bb l).map ii')], .box [ii' 0], .dead, .dfr, .looprec 22 [(2, .ptr 0 0),(3, .ptr 1 0),(4, .pval ya),(16, .func (.func 133) [] [.pval ya])] [17] asg' body' 3 .done (some .ret)] ∧ (qH y.papers.length).find? (aP y) = some l) ?_ ?_).mono ?_)
 ·subst hya;rintro done l s tl ⟨rfl,hd⟩ hsl hlm hll ⟨rest,hall⟩;refine aE.round (e:=[(2, .ptr 0 0),(3, .ptr 1 0),(4, .pval (.agg [.slice 1 (y.kinds.map .str), .slice 1 (y.places.map .str), .slice 4 (y.first.map ay.v), .slice 5 (y.papers.map aj.v), .slice 4 (y.last.map ay.v)])),(16, .func (.func 133) [] [.pval (.agg [.slice 1 (y.kinds.map .str), .slice 1 (y.places.map .str), .slice 4 (y.first.map ay.v), .slice 5 (y.papers.map aj.v), .slice 4 (y.last.map ay.v)])])]) (D:=3) (pend:=none) ca cb hps (by simp) rfl ?_;have hcll:=hcl l (by unfold ou; simp only [maxLen]; omega);refine aa _ ?_;simp [jf];refine ⟨_,_,_,_,_,_,_,⟨rfl,rfl,rfl,rfl,rfl,rfl,rfl⟩, ?_⟩;refine aa _ ?_;simp;refine ah.pure Ay (hcll _) ?_;rcases tf (aP y l) with hc | hc
  ·simp [hc];exact ⟨_,_,_,_,_,_,_,_,rfl,[_,_,_,_,_],⟨[],by simp⟩,rfl, .inl ⟨rfl,rfl,fun l1 h1=>h1.elim (hd l1) fun e=>e ▸ hc⟩⟩
  ·simp [hc];have hfi:(qH y.papers.length).find? (aP y) = some l:=by
    rw [hall,List.find?_append,List.find?_eq_none.2 fun l1 h1=>by rw [hd l1 h1]; simp];simp [hc]
   exact ⟨_,_,_,_,_,_,_,_,rfl,[_,_,_,_,_],⟨[],by simp⟩,rfl, .inr ⟨rfl,l,rfl,hfi⟩⟩
 ·exact ⟨rfl,by simp⟩
 ·rintro r σ' ⟨rfl,s,tl,rfl,hs,⟨rfl,hJ⟩ | ⟨l,rfl,hS⟩⟩
  ·have hfi:(qH y.papers.length).find? (aP y) = none:=List.find?_eq_none.2 fun l hl=>by rw [hJ l hl]; simp
   rw [hfi];refine ⟨_,_,_,_,_,_,_,_,rfl,by simp, ?_⟩;simp [bb]
  ·rw [hS];refine ⟨_,_,_,_,_,_,_,_,rfl,by simp, ?_⟩;simp
def Be (y:ab):List Nat × Int:=if iW y ≠ 0 then ([],iW y) else (K9 y,0)
def nW (y:ab) (k:Nat):List Nat:=(List.range k).filter fun i=>!aP y (kp y.papers.length i)
theorem CF (y:ab) (k:Nat):nW y (k + 1) = nW y k ++ if aP y (kp y.papers.length k) then [] else [k]:=by
 unfold nW;rw [List.range_succ,List.filter_append];congr 1;cases h:aP y (kp y.papers.length k) <;> simp [h]
theorem HB (m k:Nat):vp m k = kp m k:=by
 unfold vp kp;refine List.filter_congr fun i _=>?_;by_cases h:i = k
 ·simp [h]
 ·have:¬ (i:Int) = k:=by omega
  simp [h,this]
theorem nC (y:ab) (hy:dv y) (σ:af):Spec Tryz.prog Il [y.v] σ fun r σ'=>r = .ret (.tup [.slice 1 ((bb (Be y).1).map ii'),ii' (Be y).2]) ∧ σ' = σ:=by
 refine Spec.aF (TH (by simp) ?_) (by simp [y.pure,aH]) (by simp [ag.pure,aH,aD (f:=ii') (fun _=>rfl)]) σ;have hen:=fun σ=>iN y hy σ;simp only [ab.v,ab.cells] at hen;unfold Be;by_cases h0:iW y = 0;rotate_left
 ·rw [if_pos h0];refine aa _ ?_;simp [N2,ab.v,ab.cells];refine ah.pure Gs (hen _) ?_;simp [h0,bb]
 rw [if_neg (by simp [h0])];have hv:=xF h0;have hm10:=hv.m10;rw [h0] at hen;have hal:=fun (k:Nat) σ=>oL y (by omega) k σ;have hfit:∀ k,ou (kp y.papers.length k):=fun k=>by
  have:=List.length_filter_le (fun i:Nat=>decide (i ≠ k)) (List.range y.papers.length);unfold ou kp;simp only [maxLen,List.length_range] at this ⊢;omega
 have hcl:=fun k σ=>dk hv (kp y.papers.length k) (hfit k) σ;simp only [mZ] at hcl;simp only [HB] at hal;simp only [ab.v,ab.cells] at hal hcl;refine aa _ ?_;simp [N2,ab.v,ab.cells];refine ah.pure Gs (hen _) ?_;simp;refine AW.loop (ι:=Nat) (fun k fr σ'=>∃ (q:Nat) (tl:af),fr = { v:=[(2, .oslice 1 ((bb (nW y k)).map ii') 0 q),(4, .pval y.v),(17, .int .i64 y.papers.length),(18, .int .i64 k)],ds:=[] } ∧ σ' = .spare 1 q :: tl ∧ k ≤ y.papers.length) (fun k=>y.papers.length - k) 0 ⟨0,[.dead],by simp [nW,bb,ab.v,ab.cells],rfl,by omega⟩ ?_;rintro k fr σ' ⟨q,tl,rfl,rfl,hk⟩;refine (Nat.lt_or_ge k y.papers.length).elim (fun hlt=>?_) (fun hge=>?_);rotate_left
 ·obtain rfl:k = y.papers.length:=by omega
  refine aa _ ?_;simp [nW,K9]
 have hltI:(k:Int) < y.papers.length:=by omega
 have w3:IntKind.i64.wrap ((k:Int) + 1) = ((k + 1:Nat):Int):=by rw [aq (by omega) (by omega)]; simp
 have hst:=CF y k;have hln:(bb (nW y k)).length ≤ k:=by
  have:=List.length_filter_le (fun i:Nat=>!aP y (kp y.papers.length i)) (List.range k);simp only [bb,List.length_map,nW];simpa using this
 have hclk:=hcl k;have halk:=hal k;rcases tf (aP y (kp y.papers.length k)) with hc | hc
 ·rw [hc] at hclk hst;refine aa _ ?_;simp [hltI,ab.v,ab.cells];refine ah.pure Ob (halk _) ?_;simp [ab.v,ab.cells];refine ah.pure Ay (hclk _) ?_;simp [w3,fits_int,ab.v,ab.cells];exact ⟨by omega,k + 1,by omega,q + 1,⟨⟨by rw [hst]; simp [bb],rfl⟩,by simp⟩,rfl,by omega⟩
 ·rw [hc] at hclk hst;refine aa _ ?_;simp [hltI,ab.v,ab.cells];refine ah.pure Ob (halk _) ?_;simp [ab.v,ab.cells];refine ah.pure Ay (hclk _) ?_;simp [w3,ab.v,ab.cells];exact ⟨k + 1,by omega,q,⟨⟨by rw [hst]; simp,rfl⟩,by simp⟩,rfl,by omega⟩
theorem mP (l:List Int) (hl:l.length ≤ maxLen) (n:Int) (σ:af):Spec Tryz.prog Nt [.slice 1 (l.map ii'),ii' n] σ fun r σ'=>r = .ret (.bool (l.any fun x=>decide (x = n))) ∧ σ' = σ:=by
 refine Spec.aF (Ue (by simp) (aa _ ?_)) (by simp [aH,ag.pure,aD (f:=ii') (fun _=>rfl)]) rfl σ;simp [Qe];refine AW.loop (ι:=Nat) (fun i fr σ=>fr = { v:=[(0, .slice 1 (l.map ii')),(1,ii' n),(5, .int .i64 i)],ds:=[] } ∧ i ≤ l.length ∧ (l.any fun x=>decide (x = n)) = (l.drop i).any fun x=>decide (x = n)) (fun i=>l.length - i) 0 (by simp) ?_;rintro i fr σ ⟨rfl,hi,hq⟩;refine (Nat.lt_or_ge i l.length).elim (fun hlt=>?_) (fun hge=>?_)
 ·obtain ⟨x,hx⟩:=zqq (l[i]);rw [List.drop_eq_getElem_cons hlt,List.any_cons,hx] at hq;have hw:IntKind.i64.wrap ((i:Int) + 1) = ((i + 1:Nat):Int):=by rw [aq (by omega) (by simp only [maxLen] at hl; omega)]; simp
  by_cases h:x = n
  ·rw [decide_eq_true h,Bool.true_or] at hq;rw [hq];refine aa _ ?_;simp [hlt,hx,h]
  ·rw [decide_eq_false h,Bool.false_or] at hq;rw [hq];refine aa _ ?_;simp [hlt,hx,h,hw];exact ⟨i + 1,by omega,by simp,by omega,rfl⟩
 ·have hd:l.drop i = []:=List.drop_eq_nil_of_le hge;rw [hd] at hq;rw [hq];refine aa _ ?_;simp [show ¬ i < l.length by omega]
def nP (bits:Nat) (m:Nat):List Nat:=(List.range m).filter fun i=>bits.testBit i
theorem Vz (bits m:Nat):nP bits (m + 1) = nP bits m ++ if bits.testBit m then [m] else []:=by
 unfold nP;rw [List.range_succ,List.filter_append];congr 1;cases h:bits.testBit m <;> simp [h]
theorem V2 (bits:Nat) {k:Nat} (hk:k ≤ 16):(((bits:Int).fdiv (2 ^ min k IntKind.u16.bits)).tmod 2 = 1) ↔ bits.testBit k = true:=by
 have h1:min k IntKind.u16.bits = k:=Nat.min_eq_left hk;have h2:(bits:Int).fdiv (2 ^ k) = ((bits / 2 ^ k:Nat):Int):=by
  rw [show ((2:Int) ^ k) = ((2 ^ k:Nat):Int) by simp,Int.ofNat_fdiv]
 rw [h1,h2,Nat.testBit_eq_decide_div_mod_eq,decide_eq_true_eq,Int.tmod_eq_emod_of_nonneg (Int.natCast_nonneg _)];generalize bits / 2 ^ k = z;omega
def mQ (l:List Nat):ag:=.slice 1 ((bb l).map ii')
def uh (c:List Nat → Bool) (done sets:List (List Nat)):Prop:=∀ R,kB c (done ++ R) [] = kB c R sets
theorem uh.step {c:List Nat → Bool} {done sets:List (List Nat)} (h:uh c done sets) {l:List Nat} (hn:¬ ∃ s,sets.head? = some s ∧ s.length < l.length):uh c (done ++ [l]) (if c l then sets ++ [l] else sets):=fun R=>by
 rw [List.append_assoc,h ([l] ++ R),List.singleton_append,kB,if_neg hn]
theorem uh.stop {c:List Nat → Bool} {done sets all rest:List (List Nat)} (h:uh c done sets) {l:List Nat} (hn:∃ s,sets.head? = some s ∧ s.length < l.length) (ha:all = done ++ l :: rest):kB c all [] = sets:=by
 rw [ha,h,kB,if_pos hn]
theorem ui {α β:Type} (f:α → List β) (k:Nat) (h:∀ x,(f x).length ≤ k):∀ l:List α,(l.flatMap f).length ≤ l.length * k
 | []=>by simp
 | x :: r=>by
  have h1:=ui f k h r;have h2:=h x;rw [List.flatMap_cons,List.length_append,List.length_cons,Nat.add_mul];omega
theorem tL {nm:ByteArray → Bool} {y:ab} (hv:bJ nm y) (σ:af):Spec Tryz.prog M6 [y.v] σ fun r σ'=>r = .ret (.slice 1 (((mN y).getD []).map mQ)) ∧ σ' = σ:=by
 refine Spec.aF (Te (by simp) ?_) (by simp [y.pure,aH]) (by simp [ag.pure,aD (f:=mQ) (fun l=>by simp [mQ,ag.pure,aD (f:=ii') (fun _=>rfl)])]) σ;have hls:=fun σ=>lV y σ;have hm10:=hv.m10;have hcl:=fun l (hl:ou l) σ=>dk hv l hl σ;simp only [ab.v,ab.cells] at hls;simp only [mZ,ab.v,ab.cells] at hcl;rw [← DO];refine aa _ ?_;simp [RO,ab.v,ab.cells];refine AW.scope ?_;refine aa _ ?_;simp;refine ah.pure RI (hls _) ?_;simp;refine AW.jM (by simp) fun asg' body' ca cb hps=>?_;obtain ⟨ya,hya⟩:∃ ya:ag,ag.agg [.slice 1 (y.kinds.map .str), .slice 1 (y.places.map .str), .slice 4 (y.first.map ay.v), .slice 5 (y.papers.map aj.v), .slice 4 (y.last.map ay.v)] = ya:=⟨_,rfl⟩;rw [hya] at hcl;simp only [hya];have hl1:=fun J Stop=>ku y (by omega) 3 [.spare 1 0, .box [.oslice 1 [] 0 0], .dfr, .looprec 27 [(1, .pval ya),(2, .ptr 1 0),(5, .func (.func 133) [] [.pval ya])] [6] asg' body' 2 .ready none] J Stop;rw [show y.v = ya from hya] at hl1;change oq Tryz.prog (.func (.func 133) [] [.pval ya]) [.yieldf 3] [.spare 1 0, .box [.oslice 1 [] 0 0], .dfr, .looprec 27 [(1, .pval ya),(2, .ptr 1 0),(5, .func (.func 133) [] [.pval ya])] [6] asg' body' 2 .ready none] (vZ 3 _ _)
 refine oq.func La ((hl1
  (fun done s=>∃ (q:Nat) (sets:List (List Nat)),s = [.spare 1 q, .box [.oslice 1 (sets.map mQ) 0 q], .dfr, .looprec 27 [(1, .pval ya),(2, .ptr 1 0),(5, .func (.func 133) [] [.pval ya])] [6] asg' body' 2 .ready none] ∧ uh (aP y) done sets ∧ sets.length ≤ done.length)
  (fun s=>∃ (q:Nat) (sets:List (List Nat)),s = [.spare 1 q, .box [.oslice 1 (sets.map mQ) 0 q], .dfr, .looprec 27 [(1, .pval ya),(2, .ptr 1 0),(5, .func (.func 133) [] [.pval ya])] [6] asg' body' 2 .done (some (.exit 0))] ∧ kB (aP y) (qH y.papers.length) [] = sets) ?_ ?_).mono ?_)
 ·subst hya;rintro done l s tl ⟨q,sets,rfl,hsk,hsl2⟩ hsl hlm hll ⟨rest,hall⟩;refine aE.round (e:=[(1, .pval (.agg [.slice 1 (y.kinds.map .str), .slice 1 (y.places.map .str), .slice 4 (y.first.map ay.v), .slice 5 (y.papers.map aj.v), .slice 4 (y.last.map ay.v)])),(2, .ptr 1 0),(5, .func (.func 133) [] [.pval (.agg [.slice 1 (y.kinds.map .str), .slice 1 (y.places.map .str), .slice 4 (y.first.map ay.v), .slice 5 (y.papers.map aj.v), .slice 4 (y.last.map ay.v)])])]) (D:=2) (pend:=none) ca cb hps (by simp) rfl ?_;have hcll:=hcl l (by unfold ou; simp only [maxLen]; omega);have hroom:(sets.length + 1) * 24 ≤ 140737488355328:=by
   have h1:=ui (fun many=>eR y.papers.length many 0) 1024 (fun many=>Cq hm10 many) (List.range (y.papers.length + 1));have h2:(qH y.papers.length).length ≤ (y.papers.length + 1) * 1024:=by unfold qH; simpa using h1
   rw [hall,List.length_append] at h2;omega
  have hstep:=fun hn=>hsk.step (l:=l) hn;have hstop:=fun hn=>hsk.stop (l:=l) hn hall;have hnl:(bb l).length = l.length:=by simp [bb]
  have hfl:Fits 1 [ag.slice 1 ((bb l).map ii')]:=fun v hv=>by
   simp at hv; subst hv; exact ⟨⟨rfl,rfl⟩,rfl⟩
  cases sets with
  | nil=>
   have hst:=hstep (by simp);refine aa _ ?_;simp [jf];refine ⟨_,_,_,_,_,_,_,⟨rfl,rfl,rfl,rfl,rfl,rfl,rfl⟩, ?_⟩;refine aa _ ?_;simp;refine ah.pure Ay (hcll _) ?_;rcases tf (aP y l) with hc | hc
   ·rw [hc,if_neg (by simp)] at hst;simp [hc];exact ⟨_,_,_,_,_,_,_,_,rfl,[_,_,_,_],⟨[],by simp⟩,rfl, .inl ⟨rfl,q,[],rfl,hst,by simp⟩⟩
   ·rw [hc,if_pos rfl] at hst;simp [hc,hfl];exact ⟨_,_,_,_,_,_,_,_,rfl,[_,_,_,_],⟨[],by simp [mQ]⟩,rfl, .inl ⟨rfl,q + 1,[l],rfl,hst,by simp⟩⟩
  | cons s0 sr=>
   have hn0:(bb s0).length = s0.length:=by simp [bb]
   by_cases hlen:s0.length < l.length
   ·have hso:=hstop ⟨s0,rfl,hlen⟩;refine aa _ ?_;simp [jf];refine ⟨_,_,_,_,_,_,_,⟨rfl,rfl,rfl,rfl,rfl,rfl,rfl⟩, ?_⟩;refine aa _ ?_;simp [mQ,hn0,hnl,hlen,hso];exact ⟨_,_,_,_,_,_,_,_,rfl,[_,_,_,_],⟨[],by simp⟩,rfl, .inr ⟨rfl,q,rfl⟩⟩
   ·have hst:=hstep (by rintro ⟨s,hs,hlt⟩; simp at hs; subst hs; exact hlen hlt);refine aa _ ?_;simp [jf];refine ⟨_,_,_,_,_,_,_,⟨rfl,rfl,rfl,rfl,rfl,rfl,rfl⟩, ?_⟩;refine aa _ ?_;simp [mQ,hn0,hnl,hlen];refine ah.pure Ay (hcll _) ?_;rcases tf (aP y l) with hc | hc
    ·rw [hc,if_neg (by simp)] at hst;simp [hc];exact ⟨_,_,_,_,_,_,_,_,rfl,[_,_,_,_],⟨[],by simp [mQ]⟩,rfl, .inl ⟨rfl,q,s0 :: sr,rfl,hst,by simp at hsl2 ⊢; omega⟩⟩
    ·rw [hc,if_pos rfl] at hst;simp [hc,hfl];exact ⟨by simp at hroom; omega,_,_,_,_,_,_,_,_,rfl,[_,_,_,_],⟨[],by simp [mQ]⟩,rfl, .inl ⟨rfl,q + 1,s0 :: sr ++ [l],rfl,hst,by simp at hsl2 ⊢; omega⟩⟩
 ·exact ⟨0,[],rfl,fun R=>rfl,by simp⟩
 ·rintro r σ' ⟨rfl,s,tl,rfl,hs,⟨q,sets,rfl,hJ,_⟩ | ⟨q,sets,rfl,hS⟩⟩
  ·have hfi:=hJ [];rw [List.append_nil] at hfi;rw [hfi];refine ⟨_,_,_,_,_,_,_,_,rfl,by simp, ?_⟩;simp [kB]
  ·rw [hS];refine ⟨_,_,_,_,_,_,_,_,rfl,by simp, ?_⟩;simp
open Go.RowKit
section
variable {P:Program} {A:World} {s:St}
theorem Inv.Ql (hi:Inv A s) {w':World} (hb:Below s.w.heap.size s.w w'):Inv A { s with w:=w' } ∧ bV s { s with w:=w' }:=
 hi.grow (s':={ s with w:=w' }) rfl rfl ⟨fun _ _ _ h=>h,fun _ _ h=>h,fun blk o hs=>World.cell?_of_block (a:=⟨blk,o,none⟩) (hb.block blk (hi.scell blk o hs))⟩
  (hi.below.trans (hb.mono hi.below.size)) hb.size hb.block (fun _ _ h=>.inl h) (fun _blk _x h=>Nat.lt_of_lt_of_le (hi.scell _ _ h) hb.size)
theorem Inv.FZ (hi:Inv A s) {w':World} (hb:Below s.w.heap.size s.w w') {blk:Nat} (hblk:s.w.heap.size ≤ blk) (us:List Value) (hc:∀ j (h:j < us.length),w'.cell? ⟨blk,j,none⟩ = some us[j]) :
  ∃ s',s'.h = s.h ∧ s'.w = w' ∧ Inv A s' ∧ bV s s' ∧ ∀ j,j < us.length → s'.S blk j:=by
 let s':St:={ h:=s.h,lam:=s.lam,S:=fun g o=>s.S g o ∨ (g = blk ∧ o < us.length),w:=w' }
 have hk:bq s s':=⟨fun _ _ _ h=>h,fun _ _ h=>.inl h,fun g o hs=>World.cell?_of_block (a:=⟨g,o,none⟩) (hb.block g (hi.scell g o hs))⟩
 have hgo:=hi.grow (s':=s') rfl rfl hk (hi.below.trans (hb.mono hi.below.size)) hb.size hb.block (fun g x h=>by
   rcases h with h | ⟨h,_⟩
   ·exact .inl h
   ·exact .inr (h ▸ hblk))
  (fun g x h=>by
   rcases h with h | ⟨rfl,h⟩
   ·exact Nat.lt_of_lt_of_le (hi.scell _ _ h) hb.size
   ·exact AT (hc x h))
 exact ⟨s',rfl,rfl,hgo.1,hgo.2,fun j h=>.inr ⟨rfl,h⟩⟩
theorem HV {s:St} {blk cap:Nat} {l:List ByteArray} (hcap:l.length ≤ cap) (hS:∀ j,j < l.length → s.S blk j) (hc:∀ j (h:j < l.length),s.w.cell? ⟨blk,j,none⟩ = some (.string l[j])) :
  Rv s (.slice 1 (l.map .str)) (.slice (some ⟨blk,0,none⟩) l.length cap):=by
 refine Rv.slice 1 (l.map .str) blk 0 l.length cap (l.map Value.string) (by simp) (by simp) hcap (fun i h1 h2=>by simp only [List.getElem_map]; exact .str _) (fun i h2=>?_);have h2':i < l.length:=by simpa using h2
 refine ⟨by simp [Value.cells],fun j hj=>?_⟩;have hj0:j = 0:=by simp [Value.cells] at hj; exact hj
 subst hj0;refine ⟨by simpa using hS i h2', ?_⟩;have:=hc i h2';simpa [Value.cells] using this
theorem Spec.KC {f:FuncId} {args:List ag} {σ:af} {Q:ag → Prop}
  (h:∀ A s cargs,s.h = σ → Inv A s → gy s args cargs → Calls P f cargs s.w fun e w'=>Below s.w.heap.size s.w w' ∧ ∃ v c,e = .returned c ∧ (∀ s':St,Rv s' v c) ∧ Q v) :
  Spec P f args σ fun r σ'=>∃ v,r = .ret v ∧ Q v ∧ σ' = σ:=by
 intro A s cargs h1 h2 h3;refine (h A s cargs h1 h2 h3).mono ?_;rintro e w' ⟨hb,v,c,rfl,hr,hq⟩;obtain ⟨i',g'⟩:=h2.Ql hb;exact ⟨.ret v,_,rfl,i',g',hr _,v,rfl,hq,h1⟩
theorem Spec.sE {f:FuncId} {args:List ag} {σ:af} {v:ag}
  (h:∀ A s cargs,s.h = σ → Inv A s → gy s args cargs → Calls P f cargs s.w fun e w'=>Below s.w.heap.size s.w w' ∧ ∃ c,e = .returned c ∧ ∀ s':St,Rv s' v c) :
  Spec P f args σ fun r σ'=>r = .ret v ∧ σ' = σ:=by
 refine (Spec.KC (Q:=fun u=>u = v) fun A s cargs h1 h2 h3=>(h A s cargs h1 h2 h3).mono ?_).mono ?_
 ·rintro e w' ⟨hb,c,rfl,hr⟩;exact ⟨hb,v,c,rfl,hr,rfl⟩
 ·rintro r σ' ⟨u,rfl,rfl,rfl⟩;exact ⟨rfl,rfl⟩
theorem gy.one {s:St} {a:ag} {cs:Array Value} (h:gy s [a] cs):∃ c,cs = #[c] ∧ Rv s a c:=by
 obtain ⟨h1,h2⟩:=h;obtain ⟨l⟩:=cs
 match l,h1 with
 | [c],_=>exact ⟨c,rfl,h2 0 (by simp) (by simp)⟩
theorem gy.two {s:St} {a b:ag} {cs:Array Value} (h:gy s [a,b] cs):∃ c d,cs = #[c,d] ∧ Rv s a c ∧ Rv s b d:=by
 obtain ⟨h1,h2⟩:=h;obtain ⟨l⟩:=cs
 match l,h1 with
 | [c,d],_=>exact ⟨c,d,rfl,h2 0 (by simp) (by simp),h2 1 (by simp) (by simp)⟩
theorem Rv.lh {s:St} {x:ByteArray} {c:Value} (h:Rv s (.str x) c):c = .string x:=by cases h; rfl
theorem Rv.AK {s:St} {k:IntKind} {n:Int} {c:Value} (h:Rv s (.int k n) c):c = .int k n:=by cases h; rfl
theorem Rv.IJ {s:St} {l:List ByteArray} {c:Value} (h:Rv s (.slice 1 (l.map .str)) c):∃ a cap,c = .slice a l.length cap ∧ (l = [] ∨ ∃ blk off,a = some ⟨blk,off,none⟩ ∧ l.length ≤ cap ∧ ∀ j x,l[j]? = some x → s.S blk (off + j) ∧ s.w.cell? ⟨blk,off + j,none⟩ = some (.string x)):=by
 obtain ⟨a,cap,rfl,hh⟩:=h.dI;refine ⟨a,cap,by simp, ?_⟩;rcases hh with h0 | ⟨blk,off,us,rfl,hl,hcp,hr,hm⟩
 ·exact .inl (by simpa using h0)
 ·refine .inr ⟨blk,off,rfl,by simpa using hcp,fun j x hj=>?_⟩;obtain ⟨hj1,rfl⟩:=List.getElem?_eq_some_iff.1 hj;simp only [List.length_map] at hl;have hr1:=hr j (by simpa using hj1) (by omega);simp only [List.getElem_map] at hr1;have he:=hr1.lh;have:=(hm j (by omega)).2 0 (by rw [he]; simp [Value.cells]);simp only [Nat.mul_one,Nat.add_zero] at this;refine ⟨this.1,this.2.trans ?_⟩;simp [he,Value.cells]
end
open Go.RowKit Go.Shelf Go.Proofs
section
variable {P:Program} {ρ:Ren}
theorem AB (w:World) (base:Nat) (t u ty e:TypeId) (i:TypeInfo) (ht:P.underlying t = some (.slice e)) (hu:P.underlying u = some .string) (hi:P.info? e = some i) (hz:i.zero = some (.int .u8 0))
  (hsize:i.size = 1) (hby:i.bytes = 1) (v:Value) (n:Nat) (xs:List Value) (hown:w.ownsRow base e 1 v n xs) (x:ByteArray) (hlen:n + x.size ≤ 140737488355328) (hbase:base ≤ w.heap.size) :
  ∃ v' w',(Builtin.append_ #[t,u] ty #[v, .string x]).run P w = .ok v' w' ∧ w'.ownsRow base e 1 v' (n + x.size) (xs ++ Lib.strCells x) ∧ w.grownBy w' v.ownBlock ∧
   ∀ g,v'.ownBlock = some g → v.ownBlock = some g ∨ w.heap.size ≤ g:=by
 obtain ⟨v',w',hr,h2,h3,h4⟩:=Lib.run_append_own_string (P:=P) w base t u ty e i ht hu hi hz hsize hby v n xs hown x (by unfold maxLen; omega) hlen hbase;refine ⟨v',w',hr,h2,h3,fun g hg=>?_⟩;have hxl:xs.length = n:=by simpa using hown.1
 rcases hown.2 with ⟨rfl,rfl⟩ | ⟨g0,cap,cur,rfl,_,hg0,hnc,_,hcs,htake⟩
 ·by_cases hm:x.size = 0
  ·rw [h4.2 ⟨rfl,hm⟩] at hg; simp [Value.ownBlock] at hg
  ·have hr':=run_append_nil_string (P:=P) w t u ty e i (.int .u8 0) ht hu hi hz x (by omega) (by omega) (by rw [hby]; omega);rw [hr] at hr';injection hr' with e1 e2;rw [e1] at hg;simp [Value.ownBlock] at hg
   right; omega
 ·by_cases hroom:n + x.size ≤ cap
  ·have hcs':cur.size = cap:=by simpa using hcs
   have hr':=Lib.run_append_room_string (P:=P) w t u ty e i ht hu hi hsize g0 n cap cur hg0 x hroom (by omega);rw [hr] at hr';injection hr' with e1 e2;rw [e1] at hg
   left; exact hg
  ·have holds:∀ j u,xs[j]? = some u → w.cell? ((⟨g0,0,none⟩:Addr).add j) = some u:=hown.cells (g:=g0) rfl;have hr':=Lib.run_append_grow_string (P:=P) w t u ty e i (.int .u8 0) ht hu hi hz ⟨g0,0,none⟩ n cap xs (by rw [hsize]; simpa using hxl) holds x (by omega) (by omega) (by rw [hby]; exact growslice_fits (by omega) (by omega));rw [hr] at hr';injection hr' with e1 e2;rw [e1] at hg;simp [Value.ownBlock] at hg
   right; omega
theorem pX {ops:Array Oper} {rest:List Oper} {o:Oper} {a:Act} {Q:Exit → Act → World → Prop} {w:World} (hgd:o.guard = none) (sl x:Operand) (t u:TypeId)
  (ho:o.op = .call { callee:=.builtin .append,args:=#[sl,x],argTypes:=#[t,u] }) (base:Nat) (e:TypeId) (i:TypeInfo) (ht:P.underlying t = some (.slice e)) (hu:P.underlying u = some .string) (hi:P.info? e = some i)
  (hz:i.zero = some (.int .u8 0)) (hsize:i.size = 1) (hby:i.bytes = 1) (v:Value) (n:Nat) (xs:List Value) (hs:a.eval sl = v) (hown:w.ownsRow base e 1 v n xs) (y:ByteArray) (hx:a.eval x = .string y)
  (hlen:n + y.size ≤ 140737488355328) (hbase:base ≤ w.heap.size)
  (h:∀ v' w',w'.ownsRow base e 1 v' (n + y.size) (xs ++ Lib.strCells y) → w.grownBy w' v.ownBlock → (∀ g,v'.ownBlock = some g → v.ownBlock = some g ∨ w.heap.size ≤ g) → wpList P ops Q rest (a.put o.dst v') w'):wpList P ops Q (o :: rest) a w:=by
 refine wpList_plain hgd fun K hK=>?_;obtain ⟨v',w',hr,h2,h3,h4⟩:=AB (P:=P) w base t u o.type e i ht hu hi hz hsize hby v n xs hown y hlen hbase;unfold Oper.wp execOp;simp only [ho,resolve,invoke,builtin,Sem.run_bind,Sem.run_pure,Result.andThen_ok,List.map_toArray,List.map_cons,List.map_nil,hs,hx,hr];exact hK _ _ (h v' w' h2 h3 h4)
def DC (b:Nat) (p:Value):Prop:=p = .pointer none ∨ p = .pointer (some ⟨b,0,none⟩)
def Bx (T e:TypeId) (B b:Nat) (bs:List Value) (y:ByteArray) (w:World) (v:Value) (en:Ending) (w':World):Prop:=
 en = .returned (.tuple #[.int .i64 y.size, .nilIface]) ∧ ∃ v',w'.heap[b]? = some (.cells #[.pointer (some ⟨b,0,none⟩),v'] T (0,0)) ∧
  w'.ownsRow B e 1 v' (bs ++ Lib.strCells y).length (bs ++ Lib.strCells y) ∧ v'.ownBlock ≠ some b ∧ (∀ g,v'.ownBlock = some g → v.ownBlock = some g ∨ w.heap.size ≤ g) ∧
  w'.os = w.os ∧ w'.tape = w.tape ∧ w'.output = w.output ∧ w.heap.size ≤ w'.heap.size ∧ ∀ k,k < w.heap.size → k ≠ b → v.ownBlock ≠ some k → w'.heap[k]? = w.heap[k]?
theorem AA (w:World) (g n k:Nat) (h:k ≠ g):(w.freeze ⟨g,0,none⟩ n).heap[k]? = w.heap[k]?:=by
 unfold World.freeze;split
 ·rfl
 ·simp only [Array.getElem?_modify];rw [if_neg (fun e=>h e.symm)]
theorem Ci (w:World) (a:Addr) (n:Nat):(w.freeze a n).heap.size = w.heap.size:=by
 unfold World.freeze;split
 ·rfl
 ·simp
def vD (v:Value) (w w':World):Prop:=w'.os = w.os ∧ w'.tape = w.tape ∧ w'.output = w.output ∧ w.heap.size ≤ w'.heap.size ∧ ∀ k,k < w.heap.size → v.ownBlock ≠ some k → w'.heap[k]? = w.heap[k]?
set_option maxHeartbeats 2000000 in
set_option maxRecDepth 100000 in
theorem Et (L:Lays.n169 P ρ) (X:Builder.Extra P ρ) (B b:Nat) (l:List UInt8) (w:World) {p v:Value} (hbk:w.heap[b]? = some (.cells #[p,v] (ρ.t 72) (0,0))) (hown:w.ownsRow B (ρ.t 5) 1 v l.length (Lib.byteCells l)) :
  Calls P (ρ.f 169) #[.pointer (some ⟨b,0,none⟩)] w fun e w'=>e = .returned (.string ⟨l.toArray⟩) ∧ vD v w w':=by
 have mixed:=L.mixed;have t5:=X.t5; have t72:=L.t72; have t70:=L.t70; have t37:=L.t37; have t127:=L.t127; have t9:=L.t9; have t3:=L.t3;have a5:=X.a5; have a72:=L.a72; have a70:=L.a70; have a37:=L.a37; have a127:=L.a127; have a9:=L.a9; have a3:=L.a3;have z5:=X.z5; have z72:=L.z72; have z70:=L.z70; have z37:=L.z37; have z127:=L.z127; have z9:=L.z9; have z3:=L.z3;have v5:=X.v5; have v72:=L.v72; have v70:=L.v70; have v37:=L.v37; have v127:=L.v127; have v9:=L.v9; have v3:=L.v3;have u72:=run_underlying L.t72; have u70:=run_underlying L.t70; have u37:=run_underlying L.t37; have u127:=run_underlying L.t127; have u9:=run_underlying L.t9; have u3:=run_underlying L.t3; have u5:=run_underlying X.t5;have hlt:b < w.heap.size:=(Array.getElem?_eq_some_iff.1 hbk).1;have c1:w.drew.cell? ⟨b,1,none⟩ = some v:=by
  have:w.drew.heap[b]? = some (.cells #[p,v] (ρ.t 72) (0,0)):=hbk;rw [Lib.cell_of_heap this]; rfl
 have hk0:vD v w w.drew:=⟨rfl,rfl,rfl,Nat.le_refl _,fun _ _ _=>rfl⟩;have hUS:=Any.unsafeString_none L X;by_cases h0:l = []
 ·subst h0;rcases hown.2 with ⟨rfl,_⟩ | ⟨g,cap,cur,rfl,_,hg,_,_,_,_⟩
  ·have hSD:(Builtin.unsafeSliceData_ #[(ρ.t 37)] (ρ.t 127) #[.slice none 0 0]).run P w.drew = .ok (.pointer none) w.drew:=rfl
   go_enter L.f169,Body.n169_ntmps ρ
   go_wp2
   go_region_o
   all_goals (go_wp2; go_ret; exact ⟨rfl,hk0⟩)
  ·by_cases hc0:cap = 0
   ·subst hc0;have hSD:(Builtin.unsafeSliceData_ #[(ρ.t 37)] (ρ.t 127) #[.slice (some ⟨g,0,none⟩) 0 0]).run P w.drew = .ok (.pointer (some ⟨w.drew.heap.size,0,none⟩)) (w.drew.alloc (.view ⟨g,0,none⟩ (ρ.t 5))):=
     Lib.run_unsafeSliceData_zero w.drew _ _ (ρ.t 5) L.t127 ⟨g,0,none⟩ 0 ((ρ.t 5),cur.size) (by have hg':w.drew.heap[g]? = some (.cells cur (ρ.t 5) (0,0)):=hg; simp [World.shape?,hg'])
    have c2:(w.drew.alloc (.view ⟨g,0,none⟩ (ρ.t 5))).cell? ⟨b,1,none⟩ = some (.slice (some ⟨g,0,none⟩) 0 0):=by
     have:(w.drew.alloc (.view ⟨g,0,none⟩ (ρ.t 5))).heap[b]? = _:=(Lib.alloc_old w.drew _ b hlt).trans hbk;rw [Lib.cell_of_heap this]; rfl
    have c3:(w.alloc (.view ⟨g,0,none⟩ (ρ.t 5))).drew.cell? ⟨b,1,none⟩ = some (.slice (some ⟨g,0,none⟩) 0 0):=c2;have c0:w.cell? ⟨b,1,none⟩ = some (.slice (some ⟨g,0,none⟩) 0 0):=c1;have hk1:vD (.slice (some ⟨g,0,none⟩) 0 0) w (w.drew.alloc (.view ⟨g,0,none⟩ (ρ.t 5))):=⟨rfl,rfl,rfl,by simp,fun k hk _=>Lib.alloc_old w.drew _ k hk⟩
    go_enter L.f169,Body.n169_ntmps ρ
    go_wp2
    go_region_o
    all_goals (go_wp2; go_ret; exact ⟨rfl,hk1⟩)
   ·have hSD:(Builtin.unsafeSliceData_ #[(ρ.t 37)] (ρ.t 127) #[.slice (some ⟨g,0,none⟩) 0 cap]).run P w.drew = .ok (.pointer (some ⟨g,0,none⟩)) w.drew:=
     Lib.run_unsafeSliceData_row _ _ _ _ _ _ hc0
    clear hc0
    go_enter L.f169,Body.n169_ntmps ρ
    go_wp2
    go_region_o
    all_goals (go_wp2; go_ret; exact ⟨rfl,hk0⟩)
 ·have hl0:l.length ≠ 0:=by simpa using h0
  obtain ⟨g,cap,cur,rfl,hbg,hg,hnc,hcm,hcs,htake⟩:∃ g cap cur,v = .slice (some ⟨g,0,none⟩) l.length cap ∧ B ≤ g ∧ w.heap[g]? = some (.cells cur (ρ.t 5) (0,0)) ∧ l.length ≤ cap ∧ cap ≤ maxLen ∧ cur.size = cap * 1 ∧ cur.toList.take (l.length * 1) = Lib.byteCells l:=by
   rcases hown.2 with ⟨_,hz⟩ | ⟨g,cap,cur,hv,r⟩
   ·exact absurd hz hl0
   ·exact ⟨g,cap,cur,hv,r⟩
  have hSD:(Builtin.unsafeSliceData_ #[(ρ.t 37)] (ρ.t 127) #[.slice (some ⟨g,0,none⟩) l.length cap]).run P w.drew = .ok (.pointer (some ⟨g,0,none⟩)) w.drew:=
   Lib.run_unsafeSliceData_row _ _ _ _ _ _ (by omega)
  have hUS2:(Builtin.unsafeString_ #[(ρ.t 127),(ρ.t 3)] (ρ.t 9) #[.pointer (some ⟨g,0,none⟩), .int .i64 l.length]).run P w.drew = .ok (.string ⟨l.toArray⟩) (w.drew.freeze ⟨g,0,none⟩ l.length):=by
   refine Lib.run_unsafeString_row w.drew (ρ.t 127) (ρ.t 3) (ρ.t 9) (ρ.t 5) L.t127 X.cellsByte g cur.size (by have hg':w.drew.heap[g]? = some (.cells cur (ρ.t 5) (0,0)):=hg; simp [World.shape?,hg']) l h0 (by omega) (by unfold maxLen at hcm; omega) ?_;intro j x hx;have:=hown.cells (g:=g) rfl j (.int .u8 x.toNat) (by simp [Lib.byteCells,hx]);exact this
  have hk2:vD (.slice (some ⟨g,0,none⟩) l.length cap) w (w.drew.freeze ⟨g,0,none⟩ l.length):=
   ⟨by unfold World.freeze; split <;> rfl,by unfold World.freeze; split <;> rfl,by unfold World.freeze; split <;> rfl,by rw [Ci]; exact Nat.le_refl _,fun k hk hne=>AA w.drew g _ k (fun e=>hne (by simp [Value.ownBlock,e]))⟩
  clear hUS
  go_enter L.f169,Body.n169_ntmps ρ
  go_wp2
  go_region_o
  all_goals (go_wp2; go_ret; exact ⟨rfl,hk2⟩)
/-! ### The contracts on the abstract heap -/
theorem Spec.J1 {W:FuncId} (H:∀ (B b:Nat) (bs:List Value) (y:ByteArray) (w:World) (p v:Value),DC b p → w.heap[b]? = some (.cells #[p,v] uY.1 (0,0)) → w.ownsRow B uY.2 1 v bs.length bs → v.ownBlock ≠ some b → bs.length + y.size ≤ 140737488355328 → B ≤ w.heap.size →
   Calls P W #[.pointer (some ⟨b,0,none⟩), .string y] w (Bx uY.1 uY.2 B b bs y w v))
  (b k:Nat) (bs:List UInt8) (y:ByteArray) (σ:af) (hb:σ[b]? = some (.bld k bs)) (hlen:bs.length + y.size ≤ 140737488355328) :
  Spec P W [.ptr b 0, .str y] σ fun r σ'=>r = .ret (.tup [.int .i64 y.size, .niliface]) ∧ σ' = σ.set b (.bld (k + 1) (bs ++ y.data.toList)):=by
 intro A s cargs hh hi ha;subst hh;obtain ⟨c,d,rfl,hc,hd⟩:=ha.two;obtain rfl:=hd.lh;obtain ⟨hno,blk,v,hl0,hv,⟨hB,⟨p,hp,hbk⟩,hrow,hne⟩,hnS,hgS⟩:=hi.obj b _ hb
 cases hc with
 | ptr _ _ blk' hl'=>
 have:blk' = blk:=by rw [hl0] at hl'; simpa using hl'.symm
 subst this;have hlen0:(bs.map fun b=>Value.int .u8 b.toNat).length = bs.length:=by simp
 rw [← hlen0] at hrow;refine (H A.heap.size blk' _ y s.w p v hp hbk hrow hne (by rw [hlen0]; exact hlen) hi.below.size).mono ?_;rintro e w' ⟨rfl,v',hbk',hrow',hne',hwh,q1,q2,q3,q4,q5⟩;have hblt:b < s.h.length:=(List.getElem?_eq_some_iff.1 hb).1
 let s':St:={ h:=s.h.set b (.bld (k + 1) (bs ++ y.data.toList)),lam:=bG s.lam b (k + 2) v',S:=s.S,w:=w' }
 have hk:bq s s':=⟨bp (hno _ (by omega)),fun _ _ h=>h,fun g o hs=>World.cell?_of_block (a:=⟨g,o,none⟩) (q5 g (hi.scell g o hs) (fun e=>hnS o (e ▸ hs)) (fun e=>hgS g e o hs))⟩;have hl1:s'.lam b 0 = some (.pointer (some ⟨blk',0,none⟩)):=(aJ (.inr (by omega))).trans hl0;have hl2:s'.lam b (k + 1 + 1) = some v':=aM _ _ _ _;have hown:dA s b (.bld k bs) blk':=.inl hl0;have hog:∀ g,v.ownBlock = some g → dA s b (.bld k bs) g:=fun g e=>.inr ⟨v,hv,e⟩;have hvlt:=hrow.lt;have hgo:=hi.change (s':=s') hblt rfl hk (hi.below.trans ⟨q1,q2,q3,q4,fun g hg=>q5 g (by have:=hi.below.size; omega) (by omega) (fun e=>by have:=(hvlt g e).1; omega)⟩) q4 (fun b' k hne=>aJ (.inl hne))
  (fun g hlt hno=>q5 g hlt (fun e=>hno ⟨_,hb,e ▸ hown⟩) (fun e=>hno ⟨_,hb,hog g e⟩))
  ⟨fun k' hk'=>(aJ (.inr (by omega))).trans (hno k' (by omega)),blk',v',hl1,hl2,⟨hB,⟨_, .inr rfl,hbk'⟩,by
    have e1:((bs ++ y.data.toList).map fun b=>Value.int .u8 b.toNat) = (bs.map fun b=>Value.int .u8 b.toNat) ++ Lib.strCells y:=by simp [Lib.strCells]
    have e2:(bs ++ y.data.toList).length = ((bs.map fun b=>Value.int .u8 b.toNat) ++ Lib.strCells y).length:=by rw [← e1]; simp
    rw [e1,e2]; exact hrow',hne'⟩,hnS,fun g e o hs=>by
    rcases hwh g e with h | h
    ·exact hgS g h o hs
    ·have:=hi.scell _ _ hs; omega⟩
  (fun g ho=>by
   rcases ho with e | ⟨u,e1,e2⟩
   ·rw [hl1] at e;have:blk' = g:=by simpa using e
    subst this; exact .inr ⟨_,hb,hown⟩
   ·rw [hl2] at e1;have:=Option.some.inj e1;subst this;rcases hwh g e2 with h | h
    ·exact .inr ⟨_,hb,hog g h⟩
    ·exact .inl h)
  (fun g x h=>.inl h) (fun g x h=>by have:=hi.scell _ _ h; show g < w'.heap.size; omega)
 refine ⟨_,s',rfl,hgo.1,hgo.2, ?_,rfl,rfl⟩;refine .tup _ _ rfl fun j h1 h2=>?_
 match j,h1 with
 | 0,_=>exact .int _ _
 | 1,_=>exact .niliface
theorem Spec.built (L:Lays.n169 P ρ) (X:Builder.Extra P ρ) (hT:uY = (ρ.t 72,ρ.t 5)) (b k:Nat) (bs:List UInt8) (σ:af) (hb:σ[b]? = some (.bld k bs)) :
  Spec P (ρ.f 169) [.ptr b 0] σ fun r σ'=>r = .ret (.str ⟨bs.toArray⟩) ∧ σ' = σ.set b .dead:=by
 intro A s cargs hh hi ha;subst hh;obtain ⟨c,rfl,hc⟩:=ha.one;obtain ⟨hno,blk,v,hl0,hv,⟨hB,⟨p,hp,hbk⟩,hrow,hne⟩,hnS,hgS⟩:=hi.obj b _ hb
 cases hc with
 | ptr _ _ blk' hl'=>
 have:blk' = blk:=by rw [hl0] at hl'; simpa using hl'.symm
 subst this;rw [hT] at hbk hrow;refine (Et L X A.heap.size blk' bs s.w hbk hrow).mono ?_;rintro e w' ⟨rfl,q1,q2,q3,q4,q5⟩;have hblt:b < s.h.length:=(List.getElem?_eq_some_iff.1 hb).1
 let s':St:={ h:=s.h.set b .dead,lam:=s.lam,S:=s.S,w:=w' }
 have hog:∀ g,v.ownBlock = some g → dA s b (.bld k bs) g:=fun g e=>.inr ⟨v,hv,e⟩;have hk:bq s s':=⟨fun _ _ _ h=>h,fun _ _ h=>h,fun g o hs=>World.cell?_of_block (a:=⟨g,o,none⟩) (q5 g (hi.scell g o hs) (fun e=>hgS g e o hs))⟩;have hvlt:=hrow.lt;have hgo:=hi.change (s':=s') hblt rfl hk (hi.below.trans ⟨q1,q2,q3,q4,fun g hg=>q5 g (by have:=hi.below.size; omega) (fun e=>by have:=(hvlt g e).1; omega)⟩) q4 (fun b' k hne=>rfl)
  (fun g hlt hno=>q5 g hlt (fun e=>hno ⟨_,hb,hog g e⟩)) trivial (fun g ho=>ho.elim)
  (fun g x h=>.inl h) (fun g x h=>by have:=hi.scell _ _ h; show g < w'.heap.size; omega)
 exact ⟨.ret (.str _),s',rfl,hgo.1,hgo.2,Rv.str _,rfl,rfl⟩
end
open Go.RowKit Go.Shelf Go.Proofs Go.Sort
section
variable {P:Program} {ρ:Ren}
def bytes (l:List UInt8):ByteArray:=⟨l.toArray⟩
def Ms (l:List ByteArray) (sep:ByteArray):ByteArray:=bytes (Lib.join (l.map fun x=>x.data.toList) sep.data.toList)
theorem Spec.join (L:Lays.n156 P ρ) (X:Builder.Extra P ρ) (l:List ByteArray) (sep:ByteArray) (hN:l.length ≤ 140737488355328) (hlen:(Lib.join (l.map fun x=>x.data.toList) sep.data.toList).length ≤ 140737488355328) (σ:af) :
  Spec P (ρ.f 156) [.slice 1 (l.map .str), .str sep] σ fun r σ'=>r = .ret (.str (Ms l sep)) ∧ σ' = σ:=by
 refine Spec.sE fun A s cargs h1 h2 h3=>?_;obtain ⟨c,d,rfl,hc,hd⟩:=h3.two;obtain rfl:=hd.lh;obtain ⟨a,cap,rfl,hx⟩:=hc.IJ;by_cases hl:l = []
 ·subst hl;refine (Any.strings_Join_none L X a cap sep s.w).mono ?_;rintro e w' ⟨rfl,rfl⟩;exact ⟨Below.refl _ _,_,rfl,fun s'=>.str _⟩
 ·obtain ⟨blk,off,rfl,hcap,hcell⟩:=hx.resolve_left hl;have h0:0 < l.length:=by cases l with
   | nil=>exact absurd rfl hl
   | cons=>simp
  have hb:=h2.scell _ _ (hcell 0 l[0] (List.getElem?_eq_getElem h0)).1;refine (Any.strings_Join L X blk off cap l sep s.w (fun j x hj=>(hcell j x hj).2) hb hN hcap hlen).mono ?_;rintro e w' ⟨rfl,hb'⟩;exact ⟨hb',_,rfl,fun s'=>.str _⟩
theorem DZ (w:World) (n:Nat) (os:Array Obj):Below w.heap.size w (grow (w.drewN n) os):=
 ⟨rfl,rfl,rfl,by simp [grow,World.drewN],fun k hk=>by
  have:(w.drewN n).heap = w.heap:=rfl;simp only [grow,this]
  rw [Array.getElem?_append_left hk]⟩
theorem MV {A:World} {s:St} (hi:Inv A s) {g:Nat} {name:String} {k:IntKind} {zs:List Int} (hg:P.globalNamed name = some g) (hm:(g,zs.map fun z=>(k,z)) ∈ ew) (h0:zs ≠ []):Lib.TabIs P s.w name k zs:=by
 have h1:=hi.laid.1 g _ hm;have h2:=(hi.laid.2.2 g _ hm).2;have hz:0 < zs.length:=by cases zs with
  | nil=>exact absurd rfl h0
  | cons=>simp
 have hc0:=(h1 0 (by simpa using hz)).2;unfold Lib.TabIs World.var?;rw [hg];simp only [Option.bind_some];simp only [World.cell?] at hc0 h2
 cases hh:s.w.heap[g]? with
 | none=>rw [hh] at hc0; simp at hc0
 | some o=>
  cases o with
  | cells cs el fz=>
   rw [hh] at h2;simp only [Option.some.injEq];simp at h2;apply Array.ext_getElem?;intro j;by_cases hj:j < zs.length
   ·have:=(h1 j (by simpa using hj)).2;simp only [World.cell?,hh] at this;simp at this;rw [this];simp [hj]
   ·rw [Array.getElem?_eq_none (by omega),Array.getElem?_eq_none (by simp; omega)]
  | _=>rw [hh] at hc0; simp at hc0
theorem Spec.itoa (L : LaysM.n171 P ρ) (hg : P.globalNamed "internal/strconv.uint64pow10" = some 1) (hm : (1, Lib.pow10Tab.map fun z => (IntKind.u64, z)) ∈ ew) (n : Int) (h0 : -9223372036854775808 ≤ n) (h1 : n ≤ 9223372036854775807) (σ : af) :
  Spec P (ρ.f 171) [.int .i64 n] σ fun r σ'=>r = .ret (.str (bytes (Lib.itoa n))) ∧ σ' = σ:=by
 refine Spec.sE fun A s cargs g1 g2 g3=>?_;obtain ⟨c,rfl,hc⟩:=g3.one;obtain rfl:=hc.AK;refine (Any.strconv_Itoa L n h0 h1 s.w (MV g2 hg hm (by decide))).mono ?_;rintro e w' ⟨rfl,k,os,rfl⟩;exact ⟨DZ _ _ _,_,rfl,fun s'=>.str _⟩
theorem G7 {A:World} {s:St} (hi:Inv A s) {g:Nat} (hm:(g,0) ∈ gk):∃ m,s.w.cell? ⟨g,0,none⟩ = some (.int .i64 m):=by
 obtain ⟨_,v,hv,m,rfl⟩:=hi.laid.2.1 g 0 hm;exact ⟨m,hv⟩
theorem H5 {A:World} {s:St} (hi:Inv A s) {g:Nat} (hm:(g,1) ∈ gk):∃ ev,s.w.cell? ⟨g,0,none⟩ = some ev ∧ (ev = .nilIface ∨ ∃ te pe,ev = .iface te pe):=by
 obtain ⟨_,v,hv,te,pe,rfl⟩:=hi.laid.2.1 g 1 hm;exact ⟨_,hv, .inr ⟨te,pe,rfl⟩⟩
theorem Spec.cut (L:Lays.n145 P ρ) (hm:(ρ.g 1,0) ∈ gk) (x sep:ByteArray) (hx:x.size < 4294967281) (σ:af) :
  Spec P (ρ.f 145) [.str x, .str sep] σ fun r σ'=>r = .ret (.tup [.str (bytes (Lib.cut x.data.toList sep.data.toList).1), .str (bytes (Lib.cut x.data.toList sep.data.toList).2.1), .bool (Lib.cut x.data.toList sep.data.toList).2.2]) ∧ σ' = σ:=by
 refine Spec.sE fun A s cargs g1 g2 g3=>?_;obtain ⟨c,d,rfl,hc,hd⟩:=g3.two;obtain rfl:=hc.lh;obtain rfl:=hd.lh;obtain ⟨m,hmc⟩:=G7 g2 hm;refine (Any.strings_Cut L x sep m s.w hx hmc).mono ?_;rintro e w' ⟨rfl,n,rfl⟩;refine ⟨⟨rfl,rfl,rfl,Nat.le_refl _,fun _ _=>rfl⟩,_,rfl,fun s'=>.tup _ _ rfl fun j h1 h2=>?_⟩
 match j,h1 with
 | 0,_=>exact .str _
 | 1,_=>exact .str _
 | 2,_=>exact .bool _
def ly (x sep:ByteArray):List ByteArray:=Lib.splitB sep 0 (Lib.countB x sep) x
theorem Spec.split (L:Lays.n146 P ρ) (hi9:(P.info? (ρ.t 9)).map (fun i=>(i.zero,i.size,i.bytes)) = some (some (.string ByteArray.empty),1,16)) (hm:(ρ.g 1,0) ∈ gk) (x sep:ByteArray) (hx:x.size < 4294967281) (h1:1 ≤ sep.size) (σ:af) :
  Spec P (ρ.f 146) [.str x, .str sep] σ fun r σ'=>r = .ret (.slice 1 ((ly x sep).map .str)) ∧ σ' = σ:=by
 intro A s cargs g1 g2 g3;obtain ⟨c,d,rfl,hc,hd⟩:=g3.two;obtain rfl:=hc.lh;obtain rfl:=hd.lh;obtain ⟨m,hmc⟩:=G7 g2 hm;refine (Any.strings_Split L hi9 x sep m s.w hx hmc h1).mono ?_;rintro e w' ⟨rfl,rfl⟩;have hlen:(ly x sep).length = Lib.countB x sep + 1:=Lib.splitB_all sep h1 0 _ x rfl;have hbel:Below s.w.heap.size s.w (s.w.alloc (.cells ((ly x sep).map Value.string).toArray (ρ.t 9))):=(Below.refl _ _).alloc (Nat.le_refl _) _
 obtain ⟨s',e1,e2,i',g',hS⟩:=g2.FZ hbel (blk:=s.w.heap.size) (Nat.le_refl _) ((ly x sep).map Value.string) (fun j hj=>by
  rw [World.cell?_alloc_new]
  simp)
 refine ⟨.ret (.slice 1 ((ly x sep).map .str)),s',e2,i',g', ?_,rfl,e1.trans g1⟩;show Rv s' _ _;rw [← hlen];refine HV (Nat.le_refl _) (fun j hj=>hS j (by simpa using hj)) (fun j hj=>?_);rw [e2];show (s.w.alloc _).cell? _ = _;rw [World.cell?_alloc_new];simp [ly] at hj ⊢
def wj (x:ByteArray) (te:TypeId):ag:=
 match Lib.atoiAll x.data.toList with
 | .ok v=>.tup [.int .i64 v, .niliface]
 | .range=>.tup [.int .i64 (Lib.atoiSat x.data.toList), .iface te .undef]
 | _=>.tup [.int .i64 0, .iface te .undef]
theorem CZ (w:World) (e:TypeId) (t:ByteArray):Below w.heap.size w (Lib.bytesWorld w e t):=
 Lib.below_freeze (((Below.refl _ w).drew).alloc (Nat.le_refl _) _) (p:=⟨w.heap.size,_,none⟩) (Nat.le_refl _) _
theorem Spec.atoi (L:LaysC.n172 P ρ) (h15:(ρ.g 15,1) ∈ gk) (h16:(ρ.g 16,1) ∈ gk) (x:ByteArray) (hx:x.size ≤ 281474976710656) (σ:af) :
  Spec P (ρ.f 172) [.str x] σ fun r σ'=>r = .ret (wj x (ρ.t 168)) ∧ σ' = σ:=by
 refine Spec.sE fun A s cargs g1 g2 g3=>?_;obtain ⟨c,rfl,hc⟩:=g3.one;obtain rfl:=hc.lh;unfold wj
 cases ha:Lib.atoiAll x.data.toList with
 | ok v=>
  refine (Any.strconv_Atoi_ok L x (by omega) v ha s.w).mono ?_;rintro e w' ⟨rfl,hw⟩;refine ⟨?_,_,rfl,fun s'=>.tup _ _ rfl fun j h1 h2=>?_⟩
  ·rcases hw with rfl | ⟨t,rfl⟩
   ·exact Below.refl _ _
   ·exact CZ _ _ _
  ·match j,h1 with
   | 0,_=>exact .int _ _
   | 1,_=>exact .niliface
 | range=>
  obtain ⟨ev,hv,hev⟩:=H5 g2 h16;refine (Any.strconv_Atoi_range L x hx ha ev s.w hv hev).mono ?_;rintro e w' ⟨N,rfl,_,_,hb⟩;refine ⟨hb,_,rfl,fun s'=>.tup _ _ rfl fun j h1 h2=>?_⟩
  match j,h1 with
  | 0,_=>exact .int _ _
  | 1,_=>exact .iface _ _ _ (.undef _)
 | _=>
  obtain ⟨ev,hv,hev⟩:=H5 g2 h15;refine (Any.strconv_Atoi_syntax L x hx ha ev s.w hv hev).mono ?_;rintro e w' ⟨N,rfl,_,_,hb⟩;refine ⟨hb,_,rfl,fun s'=>.tup _ _ rfl fun j h1 h2=>?_⟩
  match j,h1 with
  | 0,_=>exact .int _ _
  | 1,_=>exact .iface _ _ _ (.undef _)
end
open Go.RowKit Go.Shelf Go.Proofs Go.Sort
section
variable {P:Program} {ρ:Ren}
theorem Gu {s:St} {b n blk cap:Nat} {c:Value} (hc:Rv s (.sref 1 b 0 n n) c) (h0:0 < n) (hl:s.lam b n = some (.slice (some ⟨blk,0,none⟩) n cap)):c = .slice (some ⟨blk,0,none⟩) n cap:=by
 cases hc with
 | sref _ _ _ _ _ blk' cap' h1 h2 h3=>
  rw [hl] at h1;simp at h1;rw [h1.1,h1.2]; simp
 | sref0=>omega
 | srefE=>omega
end
end Go.AM
