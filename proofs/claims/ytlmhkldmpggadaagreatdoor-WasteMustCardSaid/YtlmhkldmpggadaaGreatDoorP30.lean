/- Chapter 09: reading words: of the program. Chapter 09: reading a row: of the program. Chapter 09: one row is read into a yard: of the program. (Draft: not all cases.) Chapter 09: a row of a last .. -/
import Derived.Test.YtlmhkldmpggadaaGreatDoorP29
import Derived.Test.YtlmhkldmpggadaaGreatDoorP22
import Derived.Test.YtlmhkldmpggadaaGreatDoorP20
namespace Go.AM
open Go.Proofs
set_option maxRecDepth 100000
set_option maxHeartbeats 1000000
def jU:ag:=.iface 30 (ii' 6)
def dV (o:Option ag):dU:=match o with
 | some v=>.ret v
 | none=>.pan jU
theorem aQ (σ:af):Spec Tryz.prog Ce [.bool true] σ fun r σ'=>r = .ret (.tup []) ∧ σ' = σ:=by
 refine H5 (by simp) (aa _ ?_);simp [FU]
theorem bB (σ:af):Spec Tryz.prog Ce [.bool false] σ fun r σ'=>r = .pan jU ∧ σ' = σ:=by
 refine H5 (by simp) (aa _ ?_);simp [FU,jU]
theorem cB (s:ByteArray) (hs:s.size ≤ 100000) (minus:Bool) (σ:af) :
  Spec Tryz.prog Eh [.str s, .bool minus] σ fun r σ'=>r = dV ((jV (aE s) minus).map ii') ∧ σ' = σ:=by
 obtain ⟨te,ha⟩:=CT s (by omega) σ;refine Ks (by simp) ?_;have htl:s.toList = [45] ↔ aE s = bJ:=by rw [toList_data]; rfl
 by_cases hm:minus = true ∧ aE s = bJ
 ·have hh:jV (aE s) minus = some (-1):=by unfold jV; rw [if_pos hm]
  rw [hh,hm.1];have h1:=htl.2 hm.2;refine aa _ ?_;simp [rA,h1,dV]
 have hms:minus = false ∨ ¬ s.toList = [45]:=by
  cases minus with
  | false=>exact .inl rfl
  | true=>exact .inr fun h=>hm ⟨rfl,htl.1 h⟩
 cases hq:Lib.atoiAll s.data.toList with
 | ok v=>
  have hv:ta s te = .tup [ii' v, .niliface]:=by unfold ta; rw [hq]
  rw [hv] at ha;have hq':Lib.atoiAll (aE s) = .ok v:=hq;have hh:jV (aE s) minus = if 0 ≤ v then some v else none:=by unfold jV; rw [if_neg hm,hq']
  rw [hh];by_cases h0:0 ≤ v
  ·rw [if_pos h0];rcases hms with e | e
   ·subst e;refine aa _ ?_;simp [rA];refine ah.pure wb ha ?_;simp [h0];refine ah.pure cY (aQ _) ?_;simp [dV]
   ·refine aa _ ?_;simp [rA,e];refine ah.pure wb ha ?_;simp [h0];refine ah.pure cY (aQ _) ?_;simp [dV]
  ·rw [if_neg h0];rcases hms with e | e
   ·subst e;refine aa _ ?_;simp [rA];refine ah.pure wb ha ?_;simp [h0];refine ah.pan cY (bB _) ?_;rintro σ' rfl;simp [dV]
   ·refine aa _ ?_;simp [rA,e];refine ah.pure wb ha ?_;simp [h0];refine ah.pan cY (bB _) ?_;rintro σ' rfl;simp [dV]
 | _=>
  obtain ⟨z,hv⟩:∃ z,ta s te = .tup [ii' z, .iface te .undef]:=by unfold ta; rw [hq]; exact ⟨_,rfl⟩
  rw [hv] at ha;have e:Lib.atoiAll (aE s) = Lib.atoiAll s.data.toList:=rfl;have hno:jV (aE s) minus = none:=by unfold jV; rw [if_neg hm,e,hq]
  rw [hno];rcases hms with e | e
  ·subst e;refine aa _ ?_;simp [rA];refine ah.pure wb ha ?_;simp;refine ah.pan cY (bB _) ?_;rintro σ' rfl;simp [dV]
  ·refine aa _ ?_;simp [rA,e];refine ah.pure wb ha ?_;simp;refine ah.pan cY (bB _) ?_;rintro σ' rfl;simp [dV]
theorem B9 (s:ByteArray):∀ (l:List ByteArray) (k:Nat),fh (fun y=>s.toList == y.toList) l k = match l.findIdx? fun x=>decide (et x = aE s) with
  | some i=>((k + i:Nat):Int)
  | none=>-1
 | [],k=>by simp [fh]
 | a :: r,k=>by
  have ih:=B9 s r (k + 1);have he:(s.toList == a.toList) = decide (et a = aE s):=by
   rw [toList_data,toList_data,Bool.eq_iff_iff];rw [beq_iff_eq,decide_eq_true_eq];exact ⟨fun h=>h.symm,fun h=>h.symm⟩
  simp only [fh,List.findIdx?_cons,he];by_cases h:et a = aE s
  ·simp [h]
  ·rw [if_neg (by simp [h])];simp only [h,decide_false];rw [ih]
   cases r.findIdx? fun x=>decide (et x = aE s) with
   | none=>rfl
   | some i=>
    have e:k + 1 + i = k + (i + 1):=by omega
    show ((k + 1 + i:Nat):Int) = ((k + (i + 1):Nat):Int)
    rw [e]
theorem bN (l:List ByteArray) (hl:l.length ≤ maxLen) (s:ByteArray) (minus:Bool) (σ:af) :
  Spec Tryz.prog Fi [.slice 1 (l.map .str), .str s, .bool minus] σ fun r σ'=>r = dV ((jn l (aE s) minus).map ii') ∧ σ' = σ:=by
 have hix:=fun σ=>gh l s hl σ
 have htl:s.toList = [45] ↔ aE s = bJ:=by rw [toList_data]; rfl
 rw [B9] at hix;refine Mw (by simp) ?_
 cases hq:l.findIdx? fun x=>decide (et x = aE s) with
 | some i=>
  have hh:jn l (aE s) minus = some (i:Int):=by unfold jn y0; rw [hq]
  rw [hq] at hix;rw [hh];refine aa _ ?_;simp [yF];refine ah.pure yU (hix _) ?_;simp;refine ah.pure cY (aQ _) ?_;simp [dV]
 | none=>
  have hh:jn l (aE s) minus = if minus = true ∧ aE s = bJ then some (-1) else none:=by unfold jn y0; rw [hq]
  rw [hq] at hix;rw [hh];by_cases hm:minus = true ∧ aE s = bJ
  ·rw [if_pos hm,hm.1];have h1:=htl.2 hm.2;refine aa _ ?_;simp [yF];refine ah.pure yU (hix _) ?_;simp [h1];refine ah.pure cY (aQ _) ?_;simp [dV]
  ·rw [if_neg hm]
   cases minus with
   | false=>
    refine aa _ ?_;simp [yF];refine ah.pure yU (hix _) ?_;simp;refine ah.pan cY (bB _) ?_;rintro σ' rfl;simp [dV]
   | true=>
    have h1:¬ s.toList = [45]:=fun h=>hm ⟨rfl,htl.1 h⟩
    refine aa _ ?_;simp [yF];refine ah.pure yU (hix _) ?_;have hbq:(s.toList == [45]) = false:=by simpa using h1
    simp [hbq];refine ah.pan cY (bB _) ?_;rintro σ' rfl;simp [dV]
set_option maxRecDepth 100000
set_option maxHeartbeats 1000000
theorem pt (y:ab) (hk:y.kinds.length ≤ maxLen) (hp:y.places.length ≤ maxLen) (X Y Z:ag) (b:Nat) (σ:af) (hb:σ[b]? = some (.box [.slice 1 (y.kinds.map .str), .slice 1 (y.places.map .str),X,Y,Z])) (w0 w1 w2 w3 w4:ByteArray) (h3:w3.size ≤ 100000) (h4:w4.size ≤ 100000) :
  Spec Tryz.prog Cg [.pval (.slice 1 [.str w0, .str w1, .str w2, .str w3, .str w4]), .pval (.ptr b 0)] σ fun r σ'=>r = dV ((gu y [aE w0,aE w1,aE w2,aE w3,aE w4]).map av.v) ∧ ∃ tl,σ' = σ ++ tl:=by
 refine HT (by simp) ?_;have i1:=fun σ=>bN y.kinds hk w1 false σ
 have i2:=fun σ=>bN y.places hp w2 false σ
 have n3:=fun σ=>cB w3 h3 false σ
 have n4:=fun σ=>cB w4 h4 false σ
 have hbl:=(List.getElem?_eq_some_iff.1 hb).1;have gb:∀ l:af,(σ ++ l)[b]? = some (.box [.slice 1 (y.kinds.map .str), .slice 1 (y.places.map .str),X,Y,Z]):=fun l=>by rw [List.getElem?_append_left hbl]; exact hb
 cases e0:jn y.kinds (aE w1) false with
 | none=>
  rw [e0] at i1;have hc:gu y [aE w0,aE w1,aE w2,aE w3,aE w4] = none:=by simp only [gu,e0]
  rw [hc];refine aa _ ?_;simp [uu];refine ah.pure cY (aQ _) ?_;simp [gb];refine ⟨[],ah.pan dT (v:=jU) (Q:=fun σ'=>σ' = _) (i1 _) ?_⟩;rintro σ' rfl;simp [dV]
 | some v0=>
 rw [e0] at i1;simp only [Option.map_some,dV] at i1
 cases e1:jn y.places (aE w2) false with
 | none=>
  rw [e1] at i2;have hc:gu y [aE w0,aE w1,aE w2,aE w3,aE w4] = none:=by simp only [gu,e0,e1]
  rw [hc];refine aa _ ?_;simp [uu];refine ah.pure cY (aQ _) ?_;simp [gb];refine ⟨[],ah.pure dT (i1 _) ?_⟩;simp [gb];refine ⟨[],ah.pan dT (v:=jU) (Q:=fun σ'=>σ' = _) (i2 _) ?_⟩;rintro σ' rfl;simp [dV]
 | some v1=>
 rw [e1] at i2;simp only [Option.map_some,dV] at i2
 cases e2:jV (aE w3) false with
 | none=>
  rw [e2] at n3;have hc:gu y [aE w0,aE w1,aE w2,aE w3,aE w4] = none:=by simp only [gu,e0,e1,e2]
  rw [hc];refine aa _ ?_;simp [uu];refine ah.pure cY (aQ _) ?_;simp [gb];refine ⟨[],ah.pure dT (i1 _) ?_⟩;simp [gb];refine ⟨[],ah.pure dT (i2 _) ?_⟩;simp [gb];refine ⟨[],ah.pan n9 (v:=jU) (Q:=fun σ'=>σ' = _) (n3 _) ?_⟩;rintro σ' rfl;simp [dV]
 | some v2=>
 rw [e2] at n3;simp only [Option.map_some,dV] at n3
 cases e3:jV (aE w4) false with
 | none=>
  rw [e3] at n4;have hc:gu y [aE w0,aE w1,aE w2,aE w3,aE w4] = none:=by simp only [gu,e0,e1,e2,e3]
  rw [hc];refine aa _ ?_;simp [uu];refine ah.pure cY (aQ _) ?_;simp [gb];refine ⟨[],ah.pure dT (i1 _) ?_⟩;simp [gb];refine ⟨[],ah.pure dT (i2 _) ?_⟩;simp [gb];refine ⟨[],ah.pure n9 (n3 _) ?_⟩;simp [gb];refine ⟨[],ah.pan n9 (v:=jU) (Q:=fun σ'=>σ' = _) (n4 _) ?_⟩;rintro σ' rfl;simp [dV]
 | some v3=>
 rw [e3] at n4;simp only [Option.map_some,dV] at n4;have hc:gu y [aE w0,aE w1,aE w2,aE w3,aE w4] = some ⟨v0,v1,v2,v3⟩:=by simp only [gu,e0,e1,e2,e3]
 rw [hc];refine aa _ ?_;simp [uu];refine ah.pure cY (aQ _) ?_;simp [gb];refine ⟨[],ah.pure dT (i1 _) ?_⟩;simp [gb];refine ⟨[],ah.pure dT (i2 _) ?_⟩;simp [gb];refine ⟨[],ah.pure n9 (n3 _) ?_⟩;simp [gb];refine ⟨[],ah.pure n9 (n4 _) ?_⟩;simp [gb];rfl
theorem EW (y:ab):∀ l:List WdW,l.length ≠ 5 → gu y l = none
 | [],_=>rfl
 | [_],_=>rfl
 | [_,_],_=>rfl
 | [_,_,_],_=>rfl
 | [_,_,_,_],_=>rfl
 | [_,_,_,_,_],h=>absurd rfl h
 | _ :: _ :: _ :: _ :: _ :: _ :: _,_=>rfl
theorem dR (y:ab) (hk:y.kinds.length ≤ maxLen) (hp:y.places.length ≤ maxLen) (X Y Z:ag) (b:Nat) (σ:af) (hb:σ[b]? = some (.box [.slice 1 (y.kinds.map .str), .slice 1 (y.places.map .str),X,Y,Z])) (ws:List ByteArray) (hw:∀ w ∈ ws,w.size ≤ 100000) :
  Spec Tryz.prog Cg [.pval (.slice 1 (ws.map .str)), .pval (.ptr b 0)] σ fun r σ'=>r = dV ((gu y (ws.map aE)).map av.v) ∧ ∃ tl,σ' = σ ++ tl:=by
 by_cases h5:ws.length = 5
 ·match ws,h5,hw with
  | [w0,w1,w2,w3,w4],_,hw=>exact pt y hk hp X Y Z b σ hb w0 w1 w2 w3 w4 (hw w3 (by simp)) (hw w4 (by simp))
 ·have hc:=EW y (ws.map aE) (by simpa using h5);rw [hc];have h5I:¬ (ws.length:Int) = 5:=by omega
  have hbq:((ws.length:Int) == 5) = false:=by simpa using h5I
  refine HT (by simp) ?_;refine aa _ ?_;simp [uu,hbq];refine ah.pan cY (bB _) ?_;rintro σ' rfl;simp [dV]
set_option maxRecDepth 100000
set_option maxHeartbeats 1000000
structure nT (σ:af) (b b1 b2 b3:Nat) (y:ab) (q1 q2 q3:Nat):Prop where
 box:σ[b]? = some (.box [.slice 1 (y.kinds.map .str), .slice 1 (y.places.map .str), .oslice 4 (y.first.map av.v) b1 q1, .oslice 5 (y.papers.map ak.v) b2 q2, .oslice 4 (y.last.map av.v) b3 q3])
 s1:σ[b1]? = some (.spare 4 q1)
 s2:σ[b2]? = some (.spare 5 q2)
 s3:σ[b3]? = some (.spare 4 q3)
 n12:b1 ≠ b2
 n13:b1 ≠ b3
 n23:b2 ≠ b3
theorem qU (y:ab) (b b1 b2 b3 q1 q2 q3:Nat) (σ:af) (h:nT σ b b1 b2 b3 y q1 q2 q3) (ws:List ByteArray) :
  Spec Tryz.prog j5 [.ptr b 0, .slice 1 ((jK :: ws).map .str)] σ fun r σ'=>r = .ret (.tup []) ∧ ∃ tl,σ' = σ.set b (.box [.slice 1 (ws.map .str), .slice 1 (y.places.map .str), .oslice 4 (y.first.map av.v) b1 q1, .oslice 5 (y.papers.map ak.v) b2 q2, .oslice 4 (y.last.map av.v) b3 q3]) ++ tl:=by
 refine nP (by simp) ?_;have hb:=h.box;have hkk:(jK.toList == [107,105,110,100,115]) = true:=by rw [toList_data]; rfl
 refine aa _ ?_;simp [ja,hb,hkk];have htk:List.take ws.length (List.map ag.str ws) = List.map ag.str ws:=List.take_of_length_le (by simp);exact ⟨by omega,[],by rw [htk]; simp⟩
theorem qq (y:ab) (b b1 b2 b3 q1 q2 q3:Nat) (σ:af) (h:nT σ b b1 b2 b3 y q1 q2 q3) (ws:List ByteArray) :
  Spec Tryz.prog j5 [.ptr b 0, .slice 1 ((fO :: ws).map .str)] σ fun r σ'=>r = .ret (.tup []) ∧ ∃ tl,σ' = σ.set b (.box [.slice 1 (y.kinds.map .str), .slice 1 (ws.map .str), .oslice 4 (y.first.map av.v) b1 q1, .oslice 5 (y.papers.map ak.v) b2 q2, .oslice 4 (y.last.map av.v) b3 q3]) ++ tl:=by
 refine nP (by simp) ?_;have hb:=h.box;have h1:(fO.toList == [107,105,110,100,115]) = false:=by rw [toList_data]; rfl
 have h2:(fO.toList == [112,108,97,99,101,115]) = true:=by rw [toList_data]; rfl
 refine aa _ ?_;simp [ja,hb,h1,h2];have htk:List.take ws.length (List.map ag.str ws) = List.map ag.str ws:=List.take_of_length_le (by simp);exact ⟨by omega,[],by rw [htk]; simp⟩
theorem ah.KN {P:Program} {fv:ag} {args:List ag} {σ:af} {v:ag} {Q:af → Prop} {K Kp:ag → af → Prop} (hs:aL P fv args σ fun r σ'=>r = .pan v ∧ Q σ') (hp:∀ σ',Q σ' → Kp v σ'):@ah P fv args σ ⟨K⟩ ⟨Kp⟩:=
 hs.mono fun r σ' hq=>by obtain ⟨rfl,hq⟩:=hq; exact hp σ' hq
theorem nH (y:ab) (hk:y.kinds.length ≤ maxLen) (hp:y.places.length ≤ maxLen) (b b1 b2 b3 q1 q2 q3:Nat) (σ:af) (h:nT σ b b1 b2 b3 y q1 q2 q3) (ws:List ByteArray) (hw:∀ w ∈ cu :: ws,w.size ≤ 100000) (hc:gu y ((cu :: ws).map aE) = none) :
  Spec Tryz.prog j5 [.ptr b 0, .slice 1 ((cu :: ws).map .str)] σ fun r σ'=>r = .pan jU ∧ ∃ tl,σ' = σ ++ tl:=by
 refine nP (by simp) ?_;have hb:=h.box;have hr:=dR y hk hp _ _ _ b σ hb (cu :: ws) hw;rw [hc] at hr;simp only [List.map_cons] at hr;have h1:(cu.toList == [107,105,110,100,115]) = false:=by rw [toList_data]; rfl
 have h2:(cu.toList == [112,108,97,99,101,115]) = false:=by rw [toList_data]; rfl
 have h3:(cu.toList == [102,105,114,115,116]) = true:=by rw [toList_data]; rfl
 refine aa _ ?_;simp [ja,hb,h1,h2,h3];refine ⟨[],ah.KN (aL.func BM (first:=[]) (caps:=[.pval (.slice 1 (.str cu :: ws.map .str)), .pval (.ptr b 0)]) (args:=[]) hr) ?_⟩;rintro σ' ⟨tl,rfl⟩;simp
theorem yG (c:av):Fits 4 [ag.agg [ii' c.kind,ii' c.place,ii' c.lo,ii' c.hi]]:=fun v hv=>by
 simp at hv; subst hv; exact ⟨rfl,rfl⟩
theorem mF (y:ab) (hk:y.kinds.length ≤ maxLen) (hp:y.places.length ≤ maxLen) (hf:y.first.length ≤ 100000) (b b1 b2 b3 q1 q2 q3:Nat) (σ:af) (h:nT σ b b1 b2 b3 y q1 q2 q3) (ws:List ByteArray) (hw:∀ w ∈ cu :: ws,w.size ≤ 100000) {c:av} (hc:gu y ((cu :: ws).map aE) = some c) :
  Spec Tryz.prog j5 [.ptr b 0, .slice 1 ((cu :: ws).map .str)] σ fun r σ'=>r = .ret (.tup []) ∧ ∃ tl,σ' = (σ.set b1 (.spare 4 (q1 + 1))).set b (.box [.slice 1 (y.kinds.map .str), .slice 1 (y.places.map .str), .oslice 4 ((y.first ++ [c]).map av.v) b1 (q1 + 1), .oslice 5 (y.papers.map ak.v) b2 q2, .oslice 4 (y.last.map av.v) b3 q3]) ++ tl:=by
 refine nP (by simp) ?_;have hb:=h.box;have hs1:=h.s1;have hbl:=(List.getElem?_eq_some_iff.1 hb).1;have hsl:=(List.getElem?_eq_some_iff.1 hs1).1;have hne:b1 ≠ b:=fun e=>by rw [e,hb] at hs1; cases hs1
 have gb:∀ l:af,(σ ++ l)[b]? = some (.box [.slice 1 (y.kinds.map .str), .slice 1 (y.places.map .str), .oslice 4 (y.first.map av.v) b1 q1, .oslice 5 (y.papers.map ak.v) b2 q2, .oslice 4 (y.last.map av.v) b3 q3]):=fun l=>by rw [List.getElem?_append_left hbl]; exact hb
 have g1:∀ l:af,(σ ++ l)[b1]? = some (.spare 4 q1):=fun l=>by rw [List.getElem?_append_left hsl]; exact hs1
 have st1:∀ (l:af) (o:bR),(σ ++ l).set b1 o = σ.set b1 o ++ l:=fun l o=>List.set_append_left _ _ hsl
 have gb2:∀ (l:af) (o:bR),(σ.set b1 o ++ l)[b]? = some (.box [.slice 1 (y.kinds.map .str), .slice 1 (y.places.map .str), .oslice 4 (y.first.map av.v) b1 q1, .oslice 5 (y.papers.map ak.v) b2 q2, .oslice 4 (y.last.map av.v) b3 q3]):=fun l o=>by
  rw [List.getElem?_append_left (by rw [List.length_set]; exact hbl),List.getElem?_set_ne hne]; exact hb
 have st2:∀ (l:af) (o x:bR),(σ.set b1 o ++ l).set b x = (σ.set b1 o).set b x ++ l:=fun l o x=>List.set_append_left _ _ (by rw [List.length_set]; exact hbl)
 have hr:=dR y hk hp _ _ _ b σ hb (cu :: ws) hw;rw [hc] at hr;simp only [List.map_cons,Option.map_some,dV] at hr;have h1:(cu.toList == [107,105,110,100,115]) = false:=by rw [toList_data]; rfl
 have h2:(cu.toList == [112,108,97,99,101,115]) = false:=by rw [toList_data]; rfl
 have h3:(cu.toList == [102,105,114,115,116]) = true:=by rw [toList_data]; rfl
 refine aa _ ?_;simp [ja,hb,h1,h2,h3];refine ⟨[],ah.eH (aL.func BM (first:=[]) (caps:=[.pval (.slice 1 (.str cu :: ws.map .str)), .pval (.ptr b 0)]) (args:=[]) hr) ?_⟩;rintro r σ' ⟨rfl,tl,rfl⟩;refine ⟨_,rfl, ?_⟩;simp [hb,gb,g1,st1,gb2,st2,av.v,av.cells,yG];omega
set_option maxRecDepth 100000
set_option maxHeartbeats 1000000
theorem oc (y:ab) (hk:y.kinds.length ≤ maxLen) (hp:y.places.length ≤ maxLen) (b b1 b2 b3 q1 q2 q3:Nat) (σ:af) (h:nT σ b b1 b2 b3 y q1 q2 q3) (ws:List ByteArray) (hw:∀ w ∈ cX :: ws,w.size ≤ 100000) (hc:gu y ((cX :: ws).map aE) = none) :
  Spec Tryz.prog j5 [.ptr b 0, .slice 1 ((cX :: ws).map .str)] σ fun r σ'=>r = .pan jU ∧ ∃ tl,σ' = σ ++ tl:=by
 refine nP (by simp) ?_;have hb:=h.box;have hr:=dR y hk hp _ _ _ b σ hb (cX :: ws) hw;rw [hc] at hr;simp only [List.map_cons] at hr;have h1:(cX.toList == [107,105,110,100,115]) = false:=by rw [toList_data]; rfl
 have h2:(cX.toList == [112,108,97,99,101,115]) = false:=by rw [toList_data]; rfl
 have h3:(cX.toList == [102,105,114,115,116]) = false:=by rw [toList_data]; rfl
 have h4:(cX.toList == [112,97,112,101,114]) = false:=by rw [toList_data]; rfl
 have h5:(cX.toList == [108,97,115,116]) = true:=by rw [toList_data]; rfl
 refine aa _ ?_;simp [ja,hb,h1,h2,h3,h4,h5];refine ⟨[],ah.KN (aL.func BM (first:=[]) (caps:=[.pval (.slice 1 (.str cX :: ws.map .str)), .pval (.ptr b 0)]) (args:=[]) hr) ?_⟩;rintro σ' ⟨tl,rfl⟩;simp
theorem nE (y:ab) (hk:y.kinds.length ≤ maxLen) (hp:y.places.length ≤ maxLen) (hf:y.last.length ≤ 100000) (b b1 b2 b3 q1 q2 q3:Nat) (σ:af) (h:nT σ b b1 b2 b3 y q1 q2 q3) (ws:List ByteArray) (hw:∀ w ∈ cX :: ws,w.size ≤ 100000) {c:av} (hc:gu y ((cX :: ws).map aE) = some c) :
  Spec Tryz.prog j5 [.ptr b 0, .slice 1 ((cX :: ws).map .str)] σ fun r σ'=>r = .ret (.tup []) ∧ ∃ tl,σ' = (σ.set b3 (.spare 4 (q3 + 1))).set b (.box [.slice 1 (y.kinds.map .str), .slice 1 (y.places.map .str), .oslice 4 (y.first.map av.v) b1 q1, .oslice 5 (y.papers.map ak.v) b2 q2, .oslice 4 ((y.last ++ [c]).map av.v) b3 (q3 + 1)]) ++ tl:=by
 refine nP (by simp) ?_;have hb:=h.box;have hs1:=h.s3;have hbl:=(List.getElem?_eq_some_iff.1 hb).1;have hsl:=(List.getElem?_eq_some_iff.1 hs1).1;have hne:b3 ≠ b:=fun e=>by rw [e,hb] at hs1; cases hs1
 have gb:∀ l:af,(σ ++ l)[b]? = some (.box [.slice 1 (y.kinds.map .str), .slice 1 (y.places.map .str), .oslice 4 (y.first.map av.v) b1 q1, .oslice 5 (y.papers.map ak.v) b2 q2, .oslice 4 (y.last.map av.v) b3 q3]):=fun l=>by rw [List.getElem?_append_left hbl]; exact hb
 have g1:∀ l:af,(σ ++ l)[b3]? = some (.spare 4 q3):=fun l=>by rw [List.getElem?_append_left hsl]; exact hs1
 have st1:∀ (l:af) (o:bR),(σ ++ l).set b3 o = σ.set b3 o ++ l:=fun l o=>List.set_append_left _ _ hsl
 have gb2:∀ (l:af) (o:bR),(σ.set b3 o ++ l)[b]? = some (.box [.slice 1 (y.kinds.map .str), .slice 1 (y.places.map .str), .oslice 4 (y.first.map av.v) b1 q1, .oslice 5 (y.papers.map ak.v) b2 q2, .oslice 4 (y.last.map av.v) b3 q3]):=fun l o=>by
  rw [List.getElem?_append_left (by rw [List.length_set]; exact hbl),List.getElem?_set_ne hne]; exact hb
 have st2:∀ (l:af) (o x:bR),(σ.set b3 o ++ l).set b x = (σ.set b3 o).set b x ++ l:=fun l o x=>List.set_append_left _ _ (by rw [List.length_set]; exact hbl)
 have hr:=dR y hk hp _ _ _ b σ hb (cX :: ws) hw;rw [hc] at hr;simp only [List.map_cons,Option.map_some,dV] at hr;have h1:(cX.toList == [107,105,110,100,115]) = false:=by rw [toList_data]; rfl
 have h2:(cX.toList == [112,108,97,99,101,115]) = false:=by rw [toList_data]; rfl
 have h3:(cX.toList == [102,105,114,115,116]) = false:=by rw [toList_data]; rfl
 have h4:(cX.toList == [112,97,112,101,114]) = false:=by rw [toList_data]; rfl
 have h5:(cX.toList == [108,97,115,116]) = true:=by rw [toList_data]; rfl
 refine aa _ ?_;simp [ja,hb,h1,h2,h3,h4,h5];refine ⟨[],ah.eH (aL.func BM (first:=[]) (caps:=[.pval (.slice 1 (.str cX :: ws.map .str)), .pval (.ptr b 0)]) (args:=[]) hr) ?_⟩;rintro r σ' ⟨rfl,tl,rfl⟩;refine ⟨_,rfl, ?_⟩;simp [hb,gb,g1,st1,gb2,st2,av.v,av.cells,yG];omega
set_option maxRecDepth 100000
set_option maxHeartbeats 1000000
theorem qS (b:Nat) (σ:af) (w:ByteArray) (ws:List ByteArray) (g1:w ≠ jK) (g2:w ≠ fO) (g3:w ≠ cu) (g4:w ≠ bF) (g5:w ≠ cX) :
  Spec Tryz.prog j5 [.ptr b 0, .slice 1 ((w :: ws).map .str)] σ fun r σ'=>r = .pan jU ∧ ∃ tl,σ' = σ ++ tl:=by
 refine nP (by simp) ?_;have key:∀ x:ByteArray,w ≠ x → (w.toList == x.data.toList) = false:=fun x hx=>by
  rw [beq_eq_false_iff_ne,toList_data];exact fun e=>hx (data_inj e)
 have h1:(w.toList == [107,105,110,100,115]) = false:=key jK g1;have h2:(w.toList == [112,108,97,99,101,115]) = false:=key fO g2;have h3:(w.toList == [102,105,114,115,116]) = false:=key cu g3;have h4:(w.toList == [112,97,112,101,114]) = false:=key bF g4;have h5:(w.toList == [108,97,115,116]) = false:=key cX g5;refine aa _ ?_;simp [ja,h1,h2,h3,h4,h5];refine ah.pan cY (bB _) ?_;rintro σ' rfl;simp
theorem mG (y:ab) (b b1 b2 b3 q1 q2 q3:Nat) (σ:af) (_h:nT σ b b1 b2 b3 y q1 q2 q3) (ws:List ByteArray) (h6:(bF :: ws).length ≠ 6) :
  Spec Tryz.prog j5 [.ptr b 0, .slice 1 ((bF :: ws).map .str)] σ fun r σ'=>r = .pan jU ∧ ∃ tl,σ' = σ ++ tl:=by
 refine nP (by simp) ?_;have h1:(bF.toList == [107,105,110,100,115]) = false:=by rw [toList_data]; rfl
 have h2:(bF.toList == [112,108,97,99,101,115]) = false:=by rw [toList_data]; rfl
 have h3:(bF.toList == [102,105,114,115,116]) = false:=by rw [toList_data]; rfl
 have h4:(bF.toList == [112,97,112,101,114]) = true:=by rw [toList_data]; rfl
 have h6':¬ ws.length = 5:=by simpa using h6
 have h6I:¬ (ws.length:Int) + 1 = 6:=by omega
 have hbq:((ws.length:Int) + 1 == 6) = false:=by simpa using h6I
 refine aa _ ?_;simp [ja,h1,h2,h3,h4,hbq];refine ah.pan cY (bB _) ?_;rintro σ' rfl;simp
set_option maxRecDepth 100000
set_option maxHeartbeats 1000000
theorem nz (y:ab) (hk:y.kinds.length ≤ maxLen) (hp:y.places.length ≤ maxLen) (b b1 b2 b3 q1 q2 q3:Nat) (σ:af) (h:nT σ b b1 b2 b3 y q1 q2 q3) (w1 w2 w3 w4 w5:ByteArray) (z4:w4.size ≤ 100000) (z5:w5.size ≤ 100000) (hc:pc y [aE bF,aE w1,aE w2,aE w3,aE w4,aE w5] = none) :
  Spec Tryz.prog j5 [.ptr b 0, .slice 1 [.str bF, .str w1, .str w2, .str w3, .str w4, .str w5]] σ fun r σ'=>r = .pan jU ∧ ∃ tl,σ' = σ ++ tl:=by
 refine nP (by simp) ?_;have hb:=h.box;have i1:=fun σ=>bN y.kinds hk w1 false σ
 have i2:=fun σ=>bN y.places hp w2 true σ
 have i3:=fun σ=>bN y.places hp w3 true σ
 have n4:=fun σ=>cB w4 z4 false σ
 have n5:=fun σ=>cB w5 z5 true σ
 have h1:(bF.toList == [107,105,110,100,115]) = false:=by rw [toList_data]; rfl
 have h2:(bF.toList == [112,108,97,99,101,115]) = false:=by rw [toList_data]; rfl
 have h3:(bF.toList == [102,105,114,115,116]) = false:=by rw [toList_data]; rfl
 have h4:(bF.toList == [112,97,112,101,114]) = true:=by rw [toList_data]; rfl
 cases e0:jn y.kinds (aE w1) false with
 | none=>
  rw [e0] at i1;refine aa _ ?_;simp [ja,hb,h1,h2,h3,h4];refine ah.pure cY (aQ _) ?_;simp [hb];refine ⟨[],ah.pan dT (v:=jU) (Q:=fun σ'=>σ' = _) (i1 _) ?_⟩;rintro σ' rfl;simp
 | some v0=>
 rw [e0] at i1;simp only [Option.map_some,dV] at i1
 cases e1:jn y.places (aE w2) true with
 | none=>
  rw [e1] at i2;refine aa _ ?_;simp [ja,hb,h1,h2,h3,h4];refine ah.pure cY (aQ _) ?_;simp [hb];refine ⟨[],ah.pure dT (i1 _) ?_⟩;simp [hb];refine ⟨[],ah.pan dT (v:=jU) (Q:=fun σ'=>σ' = _) (i2 _) ?_⟩;rintro σ' rfl;simp
 | some v1=>
 rw [e1] at i2;simp only [Option.map_some,dV] at i2
 cases e2:jn y.places (aE w3) true with
 | none=>
  rw [e2] at i3;refine aa _ ?_;simp [ja,hb,h1,h2,h3,h4];refine ah.pure cY (aQ _) ?_;simp [hb];refine ⟨[],ah.pure dT (i1 _) ?_⟩;simp [hb];refine ⟨[],ah.pure dT (i2 _) ?_⟩;simp [hb];refine ⟨[],ah.pan dT (v:=jU) (Q:=fun σ'=>σ' = _) (i3 _) ?_⟩;rintro σ' rfl;simp
 | some v2=>
 rw [e2] at i3;simp only [Option.map_some,dV] at i3
 cases e3:jV (aE w4) false with
 | none=>
  rw [e3] at n4;refine aa _ ?_;simp [ja,hb,h1,h2,h3,h4];refine ah.pure cY (aQ _) ?_;simp [hb];refine ⟨[],ah.pure dT (i1 _) ?_⟩;simp [hb];refine ⟨[],ah.pure dT (i2 _) ?_⟩;simp [hb];refine ⟨[],ah.pure dT (i3 _) ?_⟩;simp [hb];refine ⟨[],ah.pan n9 (v:=jU) (Q:=fun σ'=>σ' = _) (n4 _) ?_⟩;rintro σ' rfl;simp
 | some v3=>
 rw [e3] at n4;simp only [Option.map_some,dV] at n4
 cases e4:jV (aE w5) true with
 | none=>
  rw [e4] at n5;refine aa _ ?_;simp [ja,hb,h1,h2,h3,h4];refine ah.pure cY (aQ _) ?_;simp [hb];refine ⟨[],ah.pure dT (i1 _) ?_⟩;simp [hb];refine ⟨[],ah.pure dT (i2 _) ?_⟩;simp [hb];refine ⟨[],ah.pure dT (i3 _) ?_⟩;simp [hb];refine ⟨[],ah.pure n9 (n4 _) ?_⟩;simp [hb];refine ⟨[],ah.pan n9 (v:=jU) (Q:=fun σ'=>σ' = _) (n5 _) ?_⟩;rintro σ' rfl;simp
 | some v4=>
 rw [e4] at n5;simp only [Option.map_some,dV] at n5;have hs:pc y [aE bF,aE w1,aE w2,aE w3,aE w4,aE w5] = some ⟨v0,v1,v2,v3,v4⟩:=by simp only [pc,e0,e1,e2,e3,e4]
 rw [hs] at hc;cases hc
set_option maxRecDepth 100000
set_option maxHeartbeats 1000000
theorem EL (p:ak):Fits 5 [ag.agg [ii' p.kind,ii' p.src,ii' p.dst,ii' p.kilos,ii' p.copy]]:=fun v hv=>by
 simp at hv; subst hv; exact ⟨rfl,rfl⟩
theorem mz (y:ab) (hk:y.kinds.length ≤ maxLen) (hp:y.places.length ≤ maxLen) (hf:y.papers.length ≤ 100000) (b b1 b2 b3 q1 q2 q3:Nat) (σ:af) (h:nT σ b b1 b2 b3 y q1 q2 q3) (w1 w2 w3 w4 w5:ByteArray) (z4:w4.size ≤ 100000) (z5:w5.size ≤ 100000) {p:ak} (hc:pc y [aE bF,aE w1,aE w2,aE w3,aE w4,aE w5] = some p) :
  Spec Tryz.prog j5 [.ptr b 0, .slice 1 [.str bF, .str w1, .str w2, .str w3, .str w4, .str w5]] σ fun r σ'=>r = .ret (.tup []) ∧ ∃ tl,σ' = (σ.set b2 (.spare 5 (q2 + 1))).set b (.box [.slice 1 (y.kinds.map .str), .slice 1 (y.places.map .str), .oslice 4 (y.first.map av.v) b1 q1, .oslice 5 ((y.papers ++ [p]).map ak.v) b2 (q2 + 1), .oslice 4 (y.last.map av.v) b3 q3]) ++ tl:=by
 refine nP (by simp) ?_;have hb:=h.box;have hs1:=h.s2;have hbl:=(List.getElem?_eq_some_iff.1 hb).1;have hsl:=(List.getElem?_eq_some_iff.1 hs1).1;have hne:b2 ≠ b:=fun e=>by rw [e,hb] at hs1; cases hs1
 have gb:∀ l:af,(σ ++ l)[b]? = some (.box [.slice 1 (y.kinds.map .str), .slice 1 (y.places.map .str), .oslice 4 (y.first.map av.v) b1 q1, .oslice 5 (y.papers.map ak.v) b2 q2, .oslice 4 (y.last.map av.v) b3 q3]):=fun l=>by rw [List.getElem?_append_left hbl]; exact hb
 have g1:∀ l:af,(σ ++ l)[b2]? = some (.spare 5 q2):=fun l=>by rw [List.getElem?_append_left hsl]; exact hs1
 have st1:∀ (l:af) (o:bR),(σ ++ l).set b2 o = σ.set b2 o ++ l:=fun l o=>List.set_append_left _ _ hsl
 have gb2:∀ (l:af) (o:bR),(σ.set b2 o ++ l)[b]? = some (.box [.slice 1 (y.kinds.map .str), .slice 1 (y.places.map .str), .oslice 4 (y.first.map av.v) b1 q1, .oslice 5 (y.papers.map ak.v) b2 q2, .oslice 4 (y.last.map av.v) b3 q3]):=fun l o=>by
  rw [List.getElem?_append_left (by rw [List.length_set]; exact hbl),List.getElem?_set_ne hne]; exact hb
 have st2:∀ (l:af) (o x:bR),(σ.set b2 o ++ l).set b x = (σ.set b2 o).set b x ++ l:=fun l o x=>List.set_append_left _ _ (by rw [List.length_set]; exact hbl)
 have i1:=fun σ=>bN y.kinds hk w1 false σ
 have i2:=fun σ=>bN y.places hp w2 true σ
 have i3:=fun σ=>bN y.places hp w3 true σ
 have n4:=fun σ=>cB w4 z4 false σ
 have n5:=fun σ=>cB w5 z5 true σ
 have h1:(bF.toList == [107,105,110,100,115]) = false:=by rw [toList_data]; rfl
 have h2:(bF.toList == [112,108,97,99,101,115]) = false:=by rw [toList_data]; rfl
 have h3:(bF.toList == [102,105,114,115,116]) = false:=by rw [toList_data]; rfl
 have h4:(bF.toList == [112,97,112,101,114]) = true:=by rw [toList_data]; rfl
 simp only [pc] at hc
 cases e0:jn y.kinds (aE w1) false with
 | none=>rw [e0] at hc; simp at hc
 | some v0=>
 rw [e0] at i1 hc;simp only [Option.map_some,dV] at i1
 cases e1:jn y.places (aE w2) true with
 | none=>rw [e1] at hc; simp at hc
 | some v1=>
 rw [e1] at i2 hc;simp only [Option.map_some,dV] at i2
 cases e2:jn y.places (aE w3) true with
 | none=>rw [e2] at hc; simp at hc
 | some v2=>
 rw [e2] at i3 hc;simp only [Option.map_some,dV] at i3
 cases e3:jV (aE w4) false with
 | none=>rw [e3] at hc; simp at hc
 | some v3=>
 rw [e3] at n4 hc;simp only [Option.map_some,dV] at n4
 cases e4:jV (aE w5) true with
 | none=>rw [e4] at hc; simp at hc
 | some v4=>
 rw [e4] at n5 hc;simp only [Option.map_some,dV] at n5;simp only [Option.some.injEq] at hc;subst hc;refine aa _ ?_;simp [ja,hb,h1,h2,h3,h4];refine ah.pure cY (aQ _) ?_;simp [hb];refine ⟨[],ah.pure dT (i1 _) ?_⟩;simp [hb];refine ⟨[],ah.pure dT (i2 _) ?_⟩;simp [hb];refine ⟨[],ah.pure dT (i3 _) ?_⟩;simp [hb];refine ⟨[],ah.pure n9 (n4 _) ?_⟩;simp [hb];refine ⟨[],ah.pure n9 (n5 _) ?_⟩;have gb3:∀ o:bR,(σ.set b2 o)[b]? = some (.box [.slice 1 (y.kinds.map .str), .slice 1 (y.places.map .str), .oslice 4 (y.first.map av.v) b1 q1, .oslice 5 (y.papers.map ak.v) b2 q2, .oslice 4 (y.last.map av.v) b3 q3]):=fun o=>by
  rw [List.getElem?_set_ne hne]; exact hb
 have hfp:=EL ⟨v0,v1,v2,v3,v4⟩;simp only at hfp;simp [hb,hs1,gb3,ak.v,ak.cells,hfp];omega
set_option maxRecDepth 100000
set_option maxHeartbeats 1000000
theorem qK {α} {l:List α} {i:Nat} {x:α} (h:l[i]? = some x):l.set i x = l:=by
 obtain ⟨hi,e⟩:=List.getElem?_eq_some_iff.1 h;rw [← e,List.set_getElem_self hi]
theorem DX {a b:ByteArray} (h:aE a = aE b):a = b:=data_inj h
def uL (σ:af) (b b1 b2 b3:Nat):Option ab → dU → af → Prop
 | none,r,σ'=>r = .pan jU ∧ ∃ tl,σ' = σ ++ tl
 | some y,r,σ'=>r = .ret (.tup []) ∧ ∃ q1 q2 q3 tl,σ' = (((σ.set b1 (.spare 4 q1)).set b2 (.spare 5 q2)).set b3 (.spare 4 q3)).set b (.box [.slice 1 (y.kinds.map .str), .slice 1 (y.places.map .str), .oslice 4 (y.first.map av.v) b1 q1, .oslice 5 (y.papers.map ak.v) b2 q2, .oslice 4 (y.last.map av.v) b3 q3]) ++ tl
theorem step_cons (w:WdW) (r:List WdW) (y:ab):dW (w :: r) y = if w = dS then some { y with kinds:=r.map zH } else if w = df then some { y with places:=r.map zH } else if w = dh then (gu y (w :: r)).map fun c=>{ y with first:=y.first ++ [c] } else if w = gJ then (pc y (w :: r)).map fun p=>{ y with papers:=y.papers ++ [p] } else if w = ed then (gu y (w :: r)).map fun c=>{ y with last:=y.last ++ [c] } else none:=by
 unfold dW;simp only [List.head?_cons,Option.some.injEq,List.tail_cons]
theorem wR:aE jK = dS:=rfl
theorem tF:aE fO = df:=rfl
theorem vF:aE cu = dh:=rfl
theorem PE:aE bF = gJ:=rfl
theorem zR:aE cX = ed:=rfl
theorem Gg {y:ab} {l:List WdW} {p:ak} (h:pc y l = some p):l.length = 6:=by
 unfold pc at h
 split at h
 ·rfl
 ·cases h
theorem sA (y:ab) (hk:y.kinds.length ≤ maxLen) (hp:y.places.length ≤ maxLen) (hf:y.first.length ≤ 100000) (hpa:y.papers.length ≤ 100000) (hl:y.last.length ≤ 100000) (b b1 b2 b3 q1 q2 q3:Nat) (σ:af) (h:nT σ b b1 b2 b3 y q1 q2 q3) (w0:ByteArray) (ws:List ByteArray) (hw:∀ w ∈ w0 :: ws,w.size ≤ 100000) :
  Spec Tryz.prog j5 [.ptr b 0, .slice 1 ((w0 :: ws).map .str)] σ fun r σ'=>uL σ b b1 b2 b3 (dW ((w0 :: ws).map aE) y) r σ':=by
 have e1:σ.set b1 (.spare 4 q1) = σ:=qK h.s1;have e2:σ.set b2 (.spare 5 q2) = σ:=qK h.s2;have e3:σ.set b3 (.spare 4 q3) = σ:=qK h.s3;have hm:(ws.map aE).map zH = ws:=sR ws;by_cases g1:w0 = jK
 ·subst g1;have hs:dW ((jK :: ws).map aE) y = some { y with kinds:=ws }:=by
   rw [List.map_cons,step_cons,if_pos wR,hm]
  rw [hs];refine (qU y b b1 b2 b3 q1 q2 q3 σ h ws).mono ?_;rintro r σ' ⟨rfl,tl,rfl⟩;exact ⟨rfl,q1,q2,q3,tl,by rw [e1,e2,e3]⟩
 by_cases g2:w0 = fO
 ·subst g2;have hs:dW ((fO :: ws).map aE) y = some { y with places:=ws }:=by
   rw [List.map_cons,step_cons,tF,if_neg (by decide),if_pos rfl,hm]
  rw [hs];refine (qq y b b1 b2 b3 q1 q2 q3 σ h ws).mono ?_;rintro r σ' ⟨rfl,tl,rfl⟩;exact ⟨rfl,q1,q2,q3,tl,by rw [e1,e2,e3]⟩
 by_cases g3:w0 = cu
 ·subst g3;have hs:dW ((cu :: ws).map aE) y = (gu y ((cu :: ws).map aE)).map fun c=>{ y with first:=y.first ++ [c] }:=by
   rw [List.map_cons,step_cons,vF,if_neg (by decide),if_neg (by decide),if_pos rfl]
  rw [hs]
  cases hc:gu y ((cu :: ws).map aE) with
  | none=>
   refine (nH y hk hp b b1 b2 b3 q1 q2 q3 σ h ws hw hc).mono ?_;rintro r σ' ⟨rfl,tl,rfl⟩;exact ⟨rfl,tl,rfl⟩
  | some c=>
   refine (mF y hk hp hf b b1 b2 b3 q1 q2 q3 σ h ws hw hc).mono ?_;rintro r σ' ⟨rfl,tl,rfl⟩;have f2:(σ.set b1 (.spare 4 (q1 + 1)))[b2]? = some (.spare 5 q2):=by rw [List.getElem?_set_ne h.n12]; exact h.s2
   have f3:(σ.set b1 (.spare 4 (q1 + 1)))[b3]? = some (.spare 4 q3):=by rw [List.getElem?_set_ne h.n13]; exact h.s3
   exact ⟨rfl,q1 + 1,q2,q3,tl,by rw [qK f2,qK f3]⟩
 by_cases g4:w0 = bF
 ·subst g4;have hs:dW ((bF :: ws).map aE) y = (pc y ((bF :: ws).map aE)).map fun p=>{ y with papers:=y.papers ++ [p] }:=by
   rw [List.map_cons,step_cons,PE,if_neg (by decide),if_neg (by decide),if_neg (by decide),if_pos rfl]
  rw [hs];by_cases h6:(bF :: ws).length = 6
  ·obtain ⟨w1,w2,w3,w4,w5,rfl⟩:∃ w1 w2 w3 w4 w5,ws = [w1,w2,w3,w4,w5]:=by
    match ws,h6 with
    | [w1,w2,w3,w4,w5],_=>exact ⟨w1,w2,w3,w4,w5,rfl⟩
   have z4:=hw w4 (by simp);have z5:=hw w5 (by simp)
   cases hc:pc y ((bF :: [w1,w2,w3,w4,w5]).map aE) with
   | none=>
    refine (nz y hk hp b b1 b2 b3 q1 q2 q3 σ h w1 w2 w3 w4 w5 z4 z5 hc).mono ?_;rintro r σ' ⟨rfl,tl,rfl⟩;exact ⟨rfl,tl,rfl⟩
   | some p=>
    refine (mz y hk hp hpa b b1 b2 b3 q1 q2 q3 σ h w1 w2 w3 w4 w5 z4 z5 hc).mono ?_;rintro r σ' ⟨rfl,tl,rfl⟩;have f3:(σ.set b2 (.spare 5 (q2 + 1)))[b3]? = some (.spare 4 q3):=by rw [List.getElem?_set_ne h.n23]; exact h.s3
    exact ⟨rfl,q1,q2 + 1,q3,tl,by rw [e1,qK f3]⟩
  ·have hc:pc y ((bF :: ws).map aE) = none:=by
    cases hq:pc y ((bF :: ws).map aE) with
    | none=>rfl
    | some p=>exact absurd (by have:=Gg hq; rwa [List.length_map] at this) h6
   rw [hc];refine (mG y b b1 b2 b3 q1 q2 q3 σ h ws h6).mono ?_;rintro r σ' ⟨rfl,tl,rfl⟩;exact ⟨rfl,tl,rfl⟩
 by_cases g5:w0 = cX
 ·subst g5;have hs:dW ((cX :: ws).map aE) y = (gu y ((cX :: ws).map aE)).map fun c=>{ y with last:=y.last ++ [c] }:=by
   rw [List.map_cons,step_cons,zR,if_neg (by decide),if_neg (by decide),if_neg (by decide),if_neg (by decide),if_pos rfl]
  rw [hs]
  cases hc:gu y ((cX :: ws).map aE) with
  | none=>
   refine (oc y hk hp b b1 b2 b3 q1 q2 q3 σ h ws hw hc).mono ?_;rintro r σ' ⟨rfl,tl,rfl⟩;exact ⟨rfl,tl,rfl⟩
  | some c=>
   refine (nE y hk hp hl b b1 b2 b3 q1 q2 q3 σ h ws hw hc).mono ?_;rintro r σ' ⟨rfl,tl,rfl⟩;exact ⟨rfl,q1,q2,q3 + 1,tl,by rw [e1,e2]⟩
 have hne:∀ x:ByteArray,w0 ≠ x → ¬ aE w0 = aE x:=fun x hx e=>hx (DX e)
 have hs:dW ((w0 :: ws).map aE) y = none:=by
  rw [List.map_cons,step_cons, ← wR, ← tF, ← vF, ← PE, ← zR,if_neg (hne jK g1),if_neg (hne fO g2),if_neg (hne cu g3),if_neg (hne bF g4),if_neg (hne cX g5)]
 rw [hs];refine (qS b σ w0 ws g1 g2 g3 g4 g5).mono ?_;rintro r σ' ⟨rfl,tl,rfl⟩;exact ⟨rfl,tl,rfl⟩
set_option maxRecDepth 100000
set_option maxHeartbeats 1000000
theorem CQ {ws:List WdW} {y y':ab} (h:dW ws y = some y'):y'.kinds.length ≤ max y.kinds.length ws.length ∧ y'.places.length ≤ max y.places.length ws.length ∧ y'.first.length + y'.papers.length + y'.last.length ≤ y.first.length + y.papers.length + y.last.length + 1:=by
 unfold dW at h
 split at h
 ·cases h; dsimp only; rw [List.length_map,List.length_tail]; omega
 ·split at h
  ·cases h; dsimp only; rw [List.length_map,List.length_tail]; omega
  ·split at h
   ·obtain ⟨c,_,rfl⟩:=Option.map_eq_some_iff.1 h;simp; omega
   ·split at h
    ·obtain ⟨c,_,rfl⟩:=Option.map_eq_some_iff.1 h;simp; omega
    ·split at h
     ·obtain ⟨c,_,rfl⟩:=Option.map_eq_some_iff.1 h;simp; omega
     ·cases h
theorem Bv (a b:Nat) (σ:af):lg Tryz.prog xw [.ptr a 0, .ptr b 0] σ .none fun m σ'=>m = .none ∧ σ' = σ:=by
 refine Kq (by simp) (aa _ ?_);simp [GN,PM.after]
def uC:List ag:=[.slice 1 [], .slice 1 [], .slice 4 [], .slice 5 [], .slice 4 []]
theorem Ai (v1 v2 v3 v4 v5 z:ag) (tl:af) :
  lg Tryz.prog xw [.ptr 0 0, .ptr 1 0] (.box [v1,v2,v3,v4,v5] :: .box [z] :: tl) (.pan jU) fun m σ'=>(∃ v,m = .recd v) ∧ σ' = .box uC :: .box [ii' 6] :: tl:=by
 refine Kq (by simp) (aa _ ?_);simp [GN,PM.after,jU,uC]
theorem nx (v1 v2 v3 v4 v5 z:ag) (tl:af) {R:PM → af → Prop} (h:∀ v,R (.recd v) (.box uC :: .box [ii' 6] :: tl)) :
  ar Tryz.prog xw = true ∧ lg Tryz.prog xw [.ptr 0 0, .ptr 1 0] (.box [v1,v2,v3,v4,v5] :: .box [z] :: tl) (.pan jU) R:=
 ⟨L4,(Ai v1 v2 v3 v4 v5 z tl).mono (by rintro m σ' ⟨⟨v,rfl⟩,rfl⟩; exact h v)⟩
theorem DU (σ:af) {R:PM → af → Prop} (h:R .none σ) :
  ar Tryz.prog xw = true ∧ lg Tryz.prog xw [.ptr 0 0, .ptr 1 0] σ .none R:=
 ⟨L4,(Bv 0 1 σ).mono (by rintro m σ' ⟨rfl,rfl⟩; exact h)⟩
def gf (s:ByteArray):ab × Int:=if 4000 < s.size then (ie,3) else match tK aN (aE s) with
 | some y=>(y,0)
 | none=>(ie,6)
theorem Ft {s:ByteArray} (h4:¬ 4000 < s.size) (h:lF dW (fun l=>decide (l = [])) (cutAt 10 (aE s)) ie = none):gf s = (ie,6):=by
 unfold gf tK td; rw [if_neg h4,h]
theorem eX (s:ByteArray) (σ:af):Spec Tryz.prog Gr [.str s] σ fun r σ'=>r = .ret (.tup [(gf s).1.v,ii' (gf s).2]) ∧ σ' = σ:=by
 refine Spec.aI (Nh (by simp) ?_) rfl (by simp [ag.pure,aK,ab.pure]) σ;by_cases h6:4000 < s.size
 ·have hv:gf s = (ie,3):=by unfold gf; rw [if_pos h6]
  have h6I:(4000:Int) < s.size:=by omega
  rw [hv];refine aa _ ?_;simp [GB,h6I,ie,ab.v,ab.cells]
 have h6I:¬ (4000:Int) < s.size:=by omega
 have hno:=Ft h6;have hzv:ie.v = .agg [.slice 1 [], .slice 1 [], .slice 4 [], .slice 5 [], .slice 4 []]:=rfl;refine aa _ ?_;simp [GB,h6I]
 refine AW.loop (ι:=Nat) (fun m fr σ'=>∃ (x:ByteArray) (y:ab) (q1 q2 q3:Nat) (t:af),fr = { v:=[(0, .str s),(2, .ptr 0 0),(3, .ptr 1 0),(4, .ptr 5 0),(5, .str x)],ds:=[.fn (.func (.func xw) [] [.ptr 0 0, .ptr 1 0]) []] } ∧
  σ' = .box [.slice 1 [], .slice 1 [], .slice 4 [], .slice 5 [], .slice 4 []] :: .box [ii' 0] :: .spare 4 q1 :: .spare 5 q2 :: .spare 4 q3 :: .box [.slice 1 (y.kinds.map .str), .slice 1 (y.places.map .str), .oslice 4 (y.first.map av.v) 2 q1, .oslice 5 (y.papers.map ak.v) 3 q2, .oslice 4 (y.last.map av.v) 4 q3] :: t ∧ x.size = m ∧ y.first.length + y.papers.length + y.last.length + x.size ≤ 4000 ∧ y.kinds.length ≤ 4001 ∧ y.places.length ≤ 4001 ∧ lF dW (fun l=>decide (l = [])) (cutAt 10 (aE x)) y = lF dW (fun l=>decide (l = [])) (cutAt 10 (aE s)) ie) (fun m=>m) s.size ⟨s,ie,0,0,0,[],rfl,rfl,rfl,by simp [ie]; omega,by simp [ie],by simp [ie],rfl⟩ ?_
 rintro m fr σ' ⟨x,y,q1,q2,q3,t,rfl,rfl,rfl,hsz,hkl,hpl,hco⟩;by_cases hx:x = .empty
 ·have hr:aE x = []:=by rw [hx]; rfl
  rw [hr] at hco;have hrp:lF dW (fun l=>decide (l = [])) (cutAt 10 (aE s)) ie = some y:=by rw [← hco]; rfl
  have hfy:dz y:=⟨by simp only [maxLen]; omega,by simp only [maxLen]; omega,by simp only [maxLen]; omega,by simp only [maxLen]; omega,by simp only [maxLen]; omega⟩;have hck:=fun σ=>gn y hfy σ
  simp only [ab.v,ab.cells,cw] at hck;have hxl:x.toList = []:=by rw [toList_data]; exact hr
  have hv:gf s = if decide ((bt aN y).2.2 = 0) && decide (dj y = aE s) then (y,0) else (ie,6):=by
   unfold gf tK td;rw [if_neg h6,hrp];dsimp only;by_cases hh:(decide ((bt aN y).2.2 = 0) && decide (dj y = aE s)) = true
   ·rw [if_pos hh,if_pos hh]
   ·rw [if_neg hh,if_neg hh]
  by_cases hz:(bt aN y).2.2 = 0;rotate_left
  ·rw [if_neg (by simp [hz])] at hv;have hzB:((bt aN y).2.2 == 0) = false:=by rw [beq_eq_false_iff_ne]; exact hz
   rw [hv];refine aa _ ?_;simp [hxl];refine ah.pure AV (hck _) ?_;simp [hzB];refine ah.pan cY (bB _) ?_;rintro σ' rfl;simp;refine nx _ _ _ _ _ _ _ fun v=>?_
   simp [uC,hzv]
  have htx:=fun σ=>lh lO ((ea aN y).1 hz) σ
  simp only [ab.v,ab.cells] at htx;rw [hz] at hck;have hbt:bytes (dj y) = s ↔ dj y = aE s:=⟨fun h=>by rw [← h,gH],fun h=>data_inj (by rw [oq]; exact h)⟩;by_cases ht:dj y = aE s
  ·have hbe:=hbt.2 ht;rw [if_pos (by simp [hz,ht])] at hv;rw [hv];refine aa _ ?_;simp [hxl];refine ah.pure AV (hck _) ?_;simp;refine ah.pure I9 (htx _) ?_;simp [hbe];refine ah.pure cY (aQ _) ?_;simp;refine DU _ ?_;simp [ab.v,ab.cells]
  ·have hbe:¬ bytes (dj y) = s:=fun h=>ht (hbt.1 h)
   rw [if_neg (by simp [ht])] at hv;rw [hv];refine aa _ ?_;simp [hxl];refine ah.pure AV (hck _) ?_;simp;refine ah.pure I9 (htx _) ?_;simp [nmd,hbe];refine ah.pan cY (bB _) ?_;rintro σ' rfl;simp;refine nx _ _ _ _ _ _ _ fun v=>?_
   simp [uC,hzv]
 have hxl:¬ x.toList = []:=fun e=>hx (by rw [toList_data] at e; exact data_inj e)
 have hx6:x.size ≤ 6000:=by omega
 have hcu:=Fa x hx6;have hnlv:(⟨#[10]⟩:ByteArray) = nlB:=rfl;rw [DG] at hcu
 cases hq:cutAt 10 (aE x) with
 | nil=>exact absurd hq (j7 _ _)
 | cons r qs=>
 cases qs with
 | nil=>
  rw [hq] at hcu hco;have hxr:r = aE x:=by
   have:=k6 10 (aE x);rw [hq] at this; exact this
  have hrn:¬ r = []:=fun e=>hx (by rw [hxr] at e; exact data_inj e)
  have hrv:=hno (by rw [← hco]; unfold lF; rw [if_neg (by simpa using hrn)]);rw [hrv];refine aa _ ?_;simp [hxl,hnlv];refine ah.pure I8 (hcu _) ?_;simp;refine ah.pan cY (bB _) ?_;rintro σ' rfl;simp;refine nx _ _ _ _ _ _ _ fun v=>?_
  simp [uC,hzv]
 | cons q rs=>
 rw [hq] at hcu hco;dsimp only at hcu;have hj:aE x = r ++ 10 :: bm 10 (q :: rs):=by
  have:=k6 10 (aE x);rw [hq,rG 10 r (by simp)] at this; exact this.symm
 have hcb:cutAt 10 (bm 10 (q :: rs)) = q :: rs:=oU 10 (by simp) fun w hw=>zP 10 (aE x) w (by rw [hq]; simp [hw])
 obtain ⟨z,hzz⟩:∃ z,bytes (bm 10 (q :: rs)) = z:=⟨_,rfl⟩
 have hyr:aE z = bm 10 (q :: rs):=by rw [← hzz,gH]
 rw [hzz] at hcu;rw [← hyr] at hj hcb;have hsy:x.size = r.length + 1 + z.size:=by
  have:=congrArg List.length hj;rw [xL,List.length_append,List.length_cons,xL] at this; omega
 have hsp:=Be (bytes r) (by rw [kV]; omega);have hsi:=DK (bytes r);rw [gH] at hsi;obtain ⟨ws,hws⟩:∃ ws,jL (bytes r) spB = ws:=⟨_,rfl⟩
 rw [hws] at hsp hsi;have hcl:=vU 32 r;rw [← hsi] at hcl;have hwl:ws.length ≤ 4001:=by have:=hcl.1; simp at this; omega
 have hwz:∀ n ∈ ws,n.size ≤ 100000:=fun n hn=>by
  have:=hcl.2 (aE n) (List.mem_map_of_mem hn);rw [xL] at this; omega
 have hspv:(⟨#[32]⟩:ByteArray) = spB:=rfl
 cases ws with
 | nil=>exact absurd hsi.symm (j7 _ _)
 | cons w0 wr=>
 simp only [lF, ← hsi] at hco;have hrd:=fun q1 q2 q3 σ hb=>sA y (by simp only [maxLen]; omega) (by simp only [maxLen]; omega) (by omega) (by omega) (by omega) 5 2 3 4 q1 q2 q3 σ hb w0 wr hwz
 cases hst:dW ((w0 :: wr).map aE) y with
 | none=>
  rw [hst] at hco;simp only [hst] at hrd;simp only [uL,List.map_cons] at hrd;have hrv:=hno hco.symm;rw [hrv];refine aa _ ?_;simp [hxl,hnlv];refine ah.pure I8 (hcu _) ?_;simp;refine ah.pure cY (aQ _) ?_;simp [hspv];refine ah.pure Ig (hsp _) ?_;simp;refine ah.pan HX (hrd _ _ _ _ ⟨rfl,rfl,rfl,rfl,by decide,by decide,by decide⟩) ?_;rintro σ' ⟨tl,rfl⟩;simp;refine nx _ _ _ _ _ _ _ fun v=>?_
  simp [uC,hzv]
 | some y'=>
  rw [hst] at hco;simp only [hst] at hrd;simp only [uL,List.map_cons] at hrd;have hln:=CQ hst;rw [List.length_map] at hln;refine aa _ ?_;simp [hxl,hnlv];refine ah.pure I8 (hcu _) ?_;simp;refine ah.pure cY (aQ _) ?_;simp [hspv];refine ah.pure Ig (hsp _) ?_;simp;refine ah.spec HX (hrd _ _ _ _ ⟨rfl,rfl,rfl,rfl,by decide,by decide,by decide⟩) ?_;rintro r' σ' ⟨rfl,q1',q2',q3',tl,rfl⟩;refine ⟨_,rfl, ?_⟩;simp;exact ⟨z.size,by omega,y',⟨rfl,rfl,rfl,rfl,rfl⟩,rfl,by omega,by omega,by omega,by rw [hcb]; exact hco⟩
set_option maxRecDepth 100000
set_option maxHeartbeats 1000000
theorem ll (l:List av) (hl:l.length ≤ maxLen) (σ:af):Spec Tryz.prog Ep [.slice 4 (l.map av.v), .slice 4 (l.map av.v)] σ fun r σ'=>r = .ret (.bool true) ∧ σ' = σ:=by
 refine Spec.aI (Li (by simp) (aa _ ?_)) (by simp [aK,ag.pure,aC (f:=av.v) (fun c=>c.pure)]) rfl σ;simp [H0];refine AW.loop (ι:=Nat) (fun i fr σ=>fr = { v:=[(0, .slice 4 (l.map av.v)),(1, .slice 4 (l.map av.v)),(5, .bool true),(6, .int .i64 i)],ds:=[] } ∧ i ≤ l.length) (fun i=>l.length - i) 0 (by simp) ?_;rintro i fr σ ⟨rfl,hi⟩;refine (Nat.lt_or_ge i l.length).elim (fun hlt=>?_) (fun hge=>?_)
 ·obtain ⟨x,hx⟩:∃ x,l[i] = x:=⟨_,rfl⟩
  obtain ⟨a,b,c,d⟩:=x;refine aa _ ?_;simp [hlt,hx,av.v,av.cells];exact ⟨i + 1,by omega,aw (by omega) (by simp only [maxLen] at hl; omega),by omega⟩
 ·have hnl:¬ i < l.length:=by omega
  refine aa _ ?_;simp [hnl]
theorem nN (y:ab) (hy:dz y) (σ:af):Spec Tryz.prog IJ [y.v,y.v] σ fun r σ'=>r = .ret (.bool true) ∧ σ' = σ:=by
 refine Spec.aI (N9 (by simp) (aa _ ?_)) (by simp [aK,y.pure]) rfl σ;have hw:∀ (l:List ByteArray),l.length ≤ maxLen → ∀ σ,Spec Tryz.prog BW [.slice 1 (l.map .str), .slice 1 (l.map .str)] σ fun r σ'=>r = .ret (.bool true) ∧ σ' = σ:=fun l hl σ=>by
  have:=uc l l hl σ
  rwa [decide_eq_true rfl] at this
 have h1:=hw y.kinds hy.kinds;have h2:=hw y.places hy.places;have h3:=ll y.first hy.first
 have h4:=ll y.last hy.last;have hl:=hy.papers;obtain ⟨ks,ps,fs,l,ls⟩:=y;simp only at h1 h2 h3 h4 hl;simp [Lw,ab.v,ab.cells];refine ah.pure Hh (h1 _) ?_;simp;refine ah.pure Hh (h2 _) ?_;simp;refine ah.pure HS (h3 _) ?_;simp;refine ah.pure HS (h4 _) ?_;simp;refine AW.loop (ι:=Nat) (fun i fr σ=>fr = { v:=[(2, .pval (.agg [.slice 1 (ks.map .str), .slice 1 (ps.map .str), .slice 4 (fs.map av.v), .slice 5 (l.map ak.v), .slice 4 (ls.map av.v)])),(3, .pval (.agg [.slice 1 (ks.map .str), .slice 1 (ps.map .str), .slice 4 (fs.map av.v), .slice 5 (l.map ak.v), .slice 4 (ls.map av.v)])),(5, .bool true),(6, .int .i64 i)],ds:=[] } ∧ i ≤ l.length) (fun i=>l.length - i) 0 (by simp) ?_;rintro i fr σ ⟨rfl,hi⟩;refine (Nat.lt_or_ge i l.length).elim (fun hlt=>?_) (fun hge=>?_)
 ·obtain ⟨x,hx⟩:∃ x,l[i] = x:=⟨_,rfl⟩
  obtain ⟨a,b,c,d,e⟩:=x;refine aa _ ?_;simp [hlt,hx,ak.v,ak.cells];exact ⟨i + 1,by omega,aw (by omega) (by simp only [maxLen] at hl; omega),by omega⟩
 ·have hnl:¬ i < l.length:=by omega
  refine aa _ ?_;simp [hnl]
theorem dJ (a b:Int) (σ:af):Spec Tryz.prog IP [ii' a,ii' b] σ fun r σ'=>r = .ret (.agg [ii' a,ii' b]) ∧ σ' = σ:=by
 refine Spec.aI (Pe (by simp) (aa _ ?_)) rfl rfl σ;simp [KF]
def l6:ByteArray:=⟨nu.toArray⟩
theorem nK (σ:af):Spec Tryz.prog IK [] σ fun r σ'=>r = .ret (.str l6) ∧ σ' = σ:=by
 refine Spec.aI (NZ (by simp) (aa _ ?_)) rfl rfl σ;simp [KL,l6,nu]
def exW (b:Bool):ab:=if b then exZ else exY
theorem nS (b:Bool) (σ:af):Spec Tryz.prog IV [.bool b] σ fun r σ'=>r = .ret (exW b).v ∧ σ' = σ:=by
 refine Spec.aI (NF (by simp) (aa _ ?_)) rfl (exW b).pure σ;cases b
 all_goals simp [Lt]
 all_goals refine ah.pure C9 (dJ 1000 1000 _) ?_
 all_goals simp
 all_goals refine ah.pure C9 (dJ 100 100 _) ?_
 all_goals simp
 all_goals refine ah.pure C9 (dJ 600 600 _) ?_
 all_goals simp
 ·simp [exW,exY,ab.v,ab.cells,av.v,av.cells,ak.v,ak.cells,AU,ov,tt,BG]
 ·refine ah.pure C9 (dJ 100 200 _) ?_;simp [exW,exZ,ab.v,ab.cells,av.v,av.cells,ak.v,ak.cells,AU,ov,tt,BG]
end Go.AM
