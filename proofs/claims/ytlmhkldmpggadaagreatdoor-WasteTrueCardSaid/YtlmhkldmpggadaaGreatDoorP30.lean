/- Chapter 09: reading words: of the program. Chapter 09: reading a row: of the program. Chapter 09: one row is read into a yard: of the program. (Draft: not all cases.) Chapter 09: a row of a last .. -/
import Derived.Test.YtlmhkldmpggadaaGreatDoorP29
import Derived.Test.YtlmhkldmpggadaaGreatDoorP22
import Derived.Test.YtlmhkldmpggadaaGreatDoorP20
namespace Go.AM
open Go.Proofs
set_option maxRecDepth 100000
set_option maxHeartbeats 1000000
def lE:ag:=.iface 30 (ii' 6)
def fp (o:Option ag):fq:=match o with
 | some v=>.ret v
 | none=>.pan lE
theorem aU (σ:af):Spec Tryz.prog Fe [.bool true] σ fun r σ'=>r = .ret (.tup []) ∧ σ' = σ:=by
 refine Mc (by simp) (aa _ ?_);simp [Jh]
theorem b7 (σ:af):Spec Tryz.prog Fe [.bool false] σ fun r σ'=>r = .pan lE ∧ σ' = σ:=by
 refine Mc (by simp) (aa _ ?_);simp [Jh,lE]
theorem du (s:ByteArray) (hs:s.size ≤ 100000) (minus:Bool) (σ:af) :
  Spec Tryz.prog Io [.str s, .bool minus] σ fun r σ'=>r = fp ((lD (aA s) minus).map ii') ∧ σ' = σ:=by
 obtain ⟨te,ha⟩:=GU s (by omega) σ;refine Q6 (by simp) ?_;have htl:s.toList = [45] ↔ aA s = bU:=by rw [toList_data]; rfl
 by_cases hm:minus = true ∧ aA s = bU
 ·have hh:lD (aA s) minus = some (-1):=by unfold lD; rw [if_pos hm]
  rw [hh,hm.1];have h1:=htl.2 hm.2;refine aa _ ?_;simp [um,h1,fp]
 have hms:minus = false ∨ ¬ s.toList = [45]:=by
  cases minus with
  | false=>exact .inl rfl
  | true=>exact .inr fun h=>hm ⟨rfl,htl.1 h⟩
 cases hq:Lib.atoiAll s.data.toList with
 | ok v=>
  have hv:wj s te = .tup [ii' v, .niliface]:=by unfold wj; rw [hq]
  rw [hv] at ha;have hq':Lib.atoiAll (aA s) = .ok v:=hq;have hh:lD (aA s) minus = if 0 ≤ v then some v else none:=by unfold lD; rw [if_neg hm,hq']
  rw [hh];by_cases h0:0 ≤ v
  ·rw [if_pos h0];rcases hms with e | e
   ·subst e;refine aa _ ?_;simp [um];refine ah.pure zG ha ?_;simp [h0];refine ah.pure dT (aU _) ?_;simp [fp]
   ·refine aa _ ?_;simp [um,e];refine ah.pure zG ha ?_;simp [h0];refine ah.pure dT (aU _) ?_;simp [fp]
  ·rw [if_neg h0];rcases hms with e | e
   ·subst e;refine aa _ ?_;simp [um];refine ah.pure zG ha ?_;simp [h0];refine ah.pan dT (b7 _) ?_;rintro σ' rfl;simp [fp]
   ·refine aa _ ?_;simp [um,e];refine ah.pure zG ha ?_;simp [h0];refine ah.pan dT (b7 _) ?_;rintro σ' rfl;simp [fp]
 | _=>
  obtain ⟨z,hv⟩:∃ z,wj s te = .tup [ii' z, .iface te .undef]:=by unfold wj; rw [hq]; exact ⟨_,rfl⟩
  rw [hv] at ha;have e:Lib.atoiAll (aA s) = Lib.atoiAll s.data.toList:=rfl;have hno:lD (aA s) minus = none:=by unfold lD; rw [if_neg hm,e,hq]
  rw [hno];rcases hms with e | e
  ·subst e;refine aa _ ?_;simp [um];refine ah.pure zG ha ?_;simp;refine ah.pan dT (b7 _) ?_;rintro σ' rfl;simp [fp]
  ·refine aa _ ?_;simp [um,e];refine ah.pure zG ha ?_;simp;refine ah.pan dT (b7 _) ?_;rintro σ' rfl;simp [fp]
theorem Fu (s:ByteArray):∀ (l:List ByteArray) (k:Nat),gP (fun y=>s.toList == y.toList) l k = match l.findIdx? fun x=>decide (dQ x = aA s) with
  | some i=>((k + i:Nat):Int)
  | none=>-1
 | [],k=>by simp [gP]
 | a :: r,k=>by
  have ih:=Fu s r (k + 1);have he:(s.toList == a.toList) = decide (dQ a = aA s):=by
   rw [toList_data,toList_data,Bool.eq_iff_iff];rw [beq_iff_eq,decide_eq_true_eq];exact ⟨fun h=>h.symm,fun h=>h.symm⟩
  simp only [gP,List.findIdx?_cons,he];by_cases h:dQ a = aA s
  ·simp [h]
  ·rw [if_neg (by simp [h])];simp only [h,decide_false];rw [ih]
   cases r.findIdx? fun x=>decide (dQ x = aA s) with
   | none=>rfl
   | some i=>
    have e:k + 1 + i = k + (i + 1):=by omega
    show ((k + 1 + i:Nat):Int) = ((k + (i + 1):Nat):Int);rw [e]
theorem cH (l:List ByteArray) (hl:l.length ≤ maxLen) (s:ByteArray) (minus:Bool) (σ:af) :
  Spec Tryz.prog HW [.slice 1 (l.map .str), .str s, .bool minus] σ fun r σ'=>r = fp ((kU l (aA s) minus).map ii') ∧ σ' = σ:=by
 have hix:=fun σ=>iI l s hl σ;have htl:s.toList = [45] ↔ aA s = bU:=by rw [toList_data]; rfl
 rw [Fu] at hix;refine OK (by simp) ?_
 cases hq:l.findIdx? fun x=>decide (dQ x = aA s) with
 | some i=>
  have hh:kU l (aA s) minus = some (i:Int):=by unfold kU vh; rw [hq]
  rw [hq] at hix;rw [hh];refine aa _ ?_;simp [BA];refine ah.pure BJ (hix _) ?_;simp;refine ah.pure dT (aU _) ?_;simp [fp]
 | none=>
  have hh:kU l (aA s) minus = if minus = true ∧ aA s = bU then some (-1) else none:=by unfold kU vh; rw [hq]
  rw [hq] at hix;rw [hh];by_cases hm:minus = true ∧ aA s = bU
  ·rw [if_pos hm,hm.1];have h1:=htl.2 hm.2;refine aa _ ?_;simp [BA];refine ah.pure BJ (hix _) ?_;simp [h1];refine ah.pure dT (aU _) ?_;simp [fp]
  ·rw [if_neg hm]
   cases minus with
   | false=>
    refine aa _ ?_;simp [BA];refine ah.pure BJ (hix _) ?_;simp;refine ah.pan dT (b7 _) ?_;rintro σ' rfl;simp [fp]
   | true=>
    have h1:¬ s.toList = [45]:=fun h=>hm ⟨rfl,htl.1 h⟩;refine aa _ ?_;simp [BA];refine ah.pure BJ (hix _) ?_;have hbq:(s.toList == [45]) = false:=by simpa using h1
    simp [hbq];refine ah.pan dT (b7 _) ?_;rintro σ' rfl;simp [fp]
theorem sR (y:ab) (hk:y.kinds.length ≤ maxLen) (hp:y.places.length ≤ maxLen) (X Y Z:ag) (b:Nat) (σ:af) (hb:σ[b]? = some (.box [.slice 1 (y.kinds.map .str), .slice 1 (y.places.map .str),X,Y,Z])) (w0 w1 w2 w3 w4:ByteArray) (h3:w3.size ≤ 100000) (h4:w4.size ≤ 100000) :
  Spec Tryz.prog EP [.pval (.slice 1 [.str w0, .str w1, .str w2, .str w3, .str w4]), .pval (.ptr b 0)] σ fun r σ'=>r = fp ((iP y [aA w0,aA w1,aA w2,aA w3,aA w4]).map ay.v) ∧ ∃ tl,σ' = σ ++ tl:=by
 refine LN (by simp) ?_;have i1:=fun σ=>cH y.kinds hk w1 false σ;have i2:=fun σ=>cH y.places hp w2 false σ;have n3:=fun σ=>du w3 h3 false σ;have n4:=fun σ=>du w4 h4 false σ;have hbl:=(List.getElem?_eq_some_iff.1 hb).1;have gb:∀ l:af,(σ ++ l)[b]? = some (.box [.slice 1 (y.kinds.map .str), .slice 1 (y.places.map .str),X,Y,Z]):=fun l=>by rw [List.getElem?_append_left hbl]; exact hb
 cases e0:kU y.kinds (aA w1) false with
 | none=>
  rw [e0] at i1;have hc:iP y [aA w0,aA w1,aA w2,aA w3,aA w4] = none:=by simp only [iP,e0]
  rw [hc];refine aa _ ?_;simp [xw];refine ah.pure dT (aU _) ?_;simp [gb];refine ⟨[],ah.pan fo (v:=lE) (Q:=fun σ'=>σ' = _) (i1 _) ?_⟩;rintro σ' rfl;simp [fp]
 | some v0=>
 rw [e0] at i1;simp only [Option.map_some,fp] at i1
 cases e1:kU y.places (aA w2) false with
 | none=>
  rw [e1] at i2;have hc:iP y [aA w0,aA w1,aA w2,aA w3,aA w4] = none:=by simp only [iP,e0,e1]
  rw [hc];refine aa _ ?_;simp [xw];refine ah.pure dT (aU _) ?_;simp [gb];refine ⟨[],ah.pure fo (i1 _) ?_⟩;simp [gb];refine ⟨[],ah.pan fo (v:=lE) (Q:=fun σ'=>σ' = _) (i2 _) ?_⟩;rintro σ' rfl;simp [fp]
 | some v1=>
 rw [e1] at i2;simp only [Option.map_some,fp] at i2
 cases e2:lD (aA w3) false with
 | none=>
  rw [e2] at n3;have hc:iP y [aA w0,aA w1,aA w2,aA w3,aA w4] = none:=by simp only [iP,e0,e1,e2]
  rw [hc];refine aa _ ?_;simp [xw];refine ah.pure dT (aU _) ?_;simp [gb];refine ⟨[],ah.pure fo (i1 _) ?_⟩;simp [gb];refine ⟨[],ah.pure fo (i2 _) ?_⟩;simp [gb];refine ⟨[],ah.pan qz (v:=lE) (Q:=fun σ'=>σ' = _) (n3 _) ?_⟩;rintro σ' rfl;simp [fp]
 | some v2=>
 rw [e2] at n3;simp only [Option.map_some,fp] at n3
 cases e3:lD (aA w4) false with
 | none=>
  rw [e3] at n4;have hc:iP y [aA w0,aA w1,aA w2,aA w3,aA w4] = none:=by simp only [iP,e0,e1,e2,e3]
  rw [hc];refine aa _ ?_;simp [xw];refine ah.pure dT (aU _) ?_;simp [gb];refine ⟨[],ah.pure fo (i1 _) ?_⟩;simp [gb];refine ⟨[],ah.pure fo (i2 _) ?_⟩;simp [gb];refine ⟨[],ah.pure qz (n3 _) ?_⟩;simp [gb];refine ⟨[],ah.pan qz (v:=lE) (Q:=fun σ'=>σ' = _) (n4 _) ?_⟩;rintro σ' rfl;simp [fp]
 | some v3=>
 rw [e3] at n4;simp only [Option.map_some,fp] at n4;have hc:iP y [aA w0,aA w1,aA w2,aA w3,aA w4] = some ⟨v0,v1,v2,v3⟩:=by simp only [iP,e0,e1,e2,e3]
 rw [hc];refine aa _ ?_;simp [xw];refine ah.pure dT (aU _) ?_;simp [gb];refine ⟨[],ah.pure fo (i1 _) ?_⟩;simp [gb];refine ⟨[],ah.pure fo (i2 _) ?_⟩;simp [gb];refine ⟨[],ah.pure qz (n3 _) ?_⟩;simp [gb];refine ⟨[],ah.pure qz (n4 _) ?_⟩;simp [gb];rfl
theorem IS (y:ab):∀ l:List WdW,l.length ≠ 5 → iP y l = none
 | [],_=>rfl
 | [_],_=>rfl
 | [_,_],_=>rfl
 | [_,_,_],_=>rfl
 | [_,_,_,_],_=>rfl
 | [_,_,_,_,_],h=>absurd rfl h
 | _ :: _ :: _ :: _ :: _ :: _ :: _,_=>rfl
theorem ff (y:ab) (hk:y.kinds.length ≤ maxLen) (hp:y.places.length ≤ maxLen) (X Y Z:ag) (b:Nat) (σ:af) (hb:σ[b]? = some (.box [.slice 1 (y.kinds.map .str), .slice 1 (y.places.map .str),X,Y,Z])) (ws:List ByteArray) (hw:∀ w ∈ ws,w.size ≤ 100000) :
  Spec Tryz.prog EP [.pval (.slice 1 (ws.map .str)), .pval (.ptr b 0)] σ fun r σ'=>r = fp ((iP y (ws.map aA)).map ay.v) ∧ ∃ tl,σ' = σ ++ tl:=by
 by_cases h5:ws.length = 5
 ·match ws,h5,hw with
  | [w0,w1,w2,w3,w4],_,hw=>exact sR y hk hp X Y Z b σ hb w0 w1 w2 w3 w4 (hw w3 (by simp)) (hw w4 (by simp))
 ·have hc:=IS y (ws.map aA) (by simpa using h5);rw [hc];have h5I:¬ (ws.length:Int) = 5:=by omega
  have hbq:((ws.length:Int) == 5) = false:=by simpa using h5I
  refine LN (by simp) ?_;refine aa _ ?_;simp [xw,hbq];refine ah.pan dT (b7 _) ?_;rintro σ' rfl;simp [fp]
structure qh (σ:af) (b b1 b2 b3:Nat) (y:ab) (q1 q2 q3:Nat):Prop where
 box:σ[b]? = some (.box [.slice 1 (y.kinds.map .str), .slice 1 (y.places.map .str), .oslice 4 (y.first.map ay.v) b1 q1, .oslice 5 (y.papers.map aj.v) b2 q2, .oslice 4 (y.last.map ay.v) b3 q3])
 s1:σ[b1]? = some (.spare 4 q1)
 s2:σ[b2]? = some (.spare 5 q2)
 s3:σ[b3]? = some (.spare 4 q3)
 n12:b1 ≠ b2
 n13:b1 ≠ b3
 n23:b2 ≠ b3
theorem tV (y:ab) (b b1 b2 b3 q1 q2 q3:Nat) (σ:af) (h:qh σ b b1 b2 b3 y q1 q2 q3) (ws:List ByteArray) :
  Spec Tryz.prog lY [.ptr b 0, .slice 1 ((eA :: ws).map .str)] σ fun r σ'=>r = .ret (.tup []) ∧ ∃ tl,σ' = σ.set b (.box [.slice 1 (ws.map .str), .slice 1 (y.places.map .str), .oslice 4 (y.first.map ay.v) b1 q1, .oslice 5 (y.papers.map aj.v) b2 q2, .oslice 4 (y.last.map ay.v) b3 q3]) ++ tl:=by
 refine qg (by simp) ?_;have hb:=h.box;have hkk:(eA.toList == [107,105,110,100,115]) = true:=by rw [toList_data]; rfl
 refine aa _ ?_;simp [kK,hb,hkk];have htk:List.take ws.length (List.map ag.str ws) = List.map ag.str ws:=List.take_of_length_le (by simp);exact ⟨by omega,[],by rw [htk]; simp⟩
theorem sF (y:ab) (b b1 b2 b3 q1 q2 q3:Nat) (σ:af) (h:qh σ b b1 b2 b3 y q1 q2 q3) (ws:List ByteArray) :
  Spec Tryz.prog lY [.ptr b 0, .slice 1 ((de :: ws).map .str)] σ fun r σ'=>r = .ret (.tup []) ∧ ∃ tl,σ' = σ.set b (.box [.slice 1 (y.kinds.map .str), .slice 1 (ws.map .str), .oslice 4 (y.first.map ay.v) b1 q1, .oslice 5 (y.papers.map aj.v) b2 q2, .oslice 4 (y.last.map ay.v) b3 q3]) ++ tl:=by
 refine qg (by simp) ?_;have hb:=h.box;have h1:(de.toList == [107,105,110,100,115]) = false:=by rw [toList_data]; rfl
 have h2:(de.toList == [112,108,97,99,101,115]) = true:=by rw [toList_data]; rfl
 refine aa _ ?_;simp [kK,hb,h1,h2];have htk:List.take ws.length (List.map ag.str ws) = List.map ag.str ws:=List.take_of_length_le (by simp);exact ⟨by omega,[],by rw [htk]; simp⟩
theorem ah.OI {P:Program} {fv:ag} {args:List ag} {σ:af} {v:ag} {Q:af → Prop} {K Kp:ag → af → Prop} (hs:aE P fv args σ fun r σ'=>r = .pan v ∧ Q σ') (hp:∀ σ',Q σ' → Kp v σ'):@ah P fv args σ ⟨K⟩ ⟨Kp⟩:=
 hs.mono fun r σ' hq=>by obtain ⟨rfl,hq⟩:=hq; exact hp σ' hq
theorem p0 (y:ab) (hk:y.kinds.length ≤ maxLen) (hp:y.places.length ≤ maxLen) (b b1 b2 b3 q1 q2 q3:Nat) (σ:af) (h:qh σ b b1 b2 b3 y q1 q2 q3) (ws:List ByteArray) (hw:∀ w ∈ bS :: ws,w.size ≤ 100000) (hc:iP y ((bS :: ws).map aA) = none) :
  Spec Tryz.prog lY [.ptr b 0, .slice 1 ((bS :: ws).map .str)] σ fun r σ'=>r = .pan lE ∧ ∃ tl,σ' = σ ++ tl:=by
 refine qg (by simp) ?_;have hb:=h.box;have hr:=ff y hk hp _ _ _ b σ hb (bS :: ws) hw;rw [hc] at hr;simp only [List.map_cons] at hr;have h1:(bS.toList == [107,105,110,100,115]) = false:=by rw [toList_data]; rfl
 have h2:(bS.toList == [112,108,97,99,101,115]) = false:=by rw [toList_data]; rfl
 have h3:(bS.toList == [102,105,114,115,116]) = true:=by rw [toList_data]; rfl
 refine aa _ ?_;simp [kK,hb,h1,h2,h3];refine ⟨[],ah.OI (aE.func EO (first:=[]) (caps:=[.pval (.slice 1 (.str bS :: ws.map .str)), .pval (.ptr b 0)]) (args:=[]) hr) ?_⟩;rintro σ' ⟨tl,rfl⟩;simp
theorem CK (c:ay):Fits 4 [ag.agg [ii' c.kind,ii' c.place,ii' c.lo,ii' c.hi]]:=fun v hv=>by
 simp at hv; subst hv; exact ⟨rfl,rfl⟩
theorem nY (y:ab) (hk:y.kinds.length ≤ maxLen) (hp:y.places.length ≤ maxLen) (hf:y.first.length ≤ 100000) (b b1 b2 b3 q1 q2 q3:Nat) (σ:af) (h:qh σ b b1 b2 b3 y q1 q2 q3) (ws:List ByteArray) (hw:∀ w ∈ bS :: ws,w.size ≤ 100000) {c:ay} (hc:iP y ((bS :: ws).map aA) = some c) :
  Spec Tryz.prog lY [.ptr b 0, .slice 1 ((bS :: ws).map .str)] σ fun r σ'=>r = .ret (.tup []) ∧ ∃ tl,σ' = (σ.set b1 (.spare 4 (q1 + 1))).set b (.box [.slice 1 (y.kinds.map .str), .slice 1 (y.places.map .str), .oslice 4 ((y.first ++ [c]).map ay.v) b1 (q1 + 1), .oslice 5 (y.papers.map aj.v) b2 q2, .oslice 4 (y.last.map ay.v) b3 q3]) ++ tl:=by
 refine qg (by simp) ?_;have hb:=h.box;have hs1:=h.s1;have hbl:=(List.getElem?_eq_some_iff.1 hb).1;have hsl:=(List.getElem?_eq_some_iff.1 hs1).1;have hne:b1 ≠ b:=fun e=>by rw [e,hb] at hs1; cases hs1
 have gb:∀ l:af,(σ ++ l)[b]? = some (.box [.slice 1 (y.kinds.map .str), .slice 1 (y.places.map .str), .oslice 4 (y.first.map ay.v) b1 q1, .oslice 5 (y.papers.map aj.v) b2 q2, .oslice 4 (y.last.map ay.v) b3 q3]):=fun l=>by rw [List.getElem?_append_left hbl]; exact hb
 have g1:∀ l:af,(σ ++ l)[b1]? = some (.spare 4 q1):=fun l=>by rw [List.getElem?_append_left hsl]; exact hs1
 have st1:∀ (l:af) (o:cq),(σ ++ l).set b1 o = σ.set b1 o ++ l:=fun l o=>List.set_append_left _ _ hsl;have gb2:∀ (l:af) (o:cq),(σ.set b1 o ++ l)[b]? = some (.box [.slice 1 (y.kinds.map .str), .slice 1 (y.places.map .str), .oslice 4 (y.first.map ay.v) b1 q1, .oslice 5 (y.papers.map aj.v) b2 q2, .oslice 4 (y.last.map ay.v) b3 q3]):=fun l o=>by
  rw [List.getElem?_append_left (by rw [List.length_set]; exact hbl),List.getElem?_set_ne hne]; exact hb
 have st2:∀ (l:af) (o x:cq),(σ.set b1 o ++ l).set b x = (σ.set b1 o).set b x ++ l:=fun l o x=>List.set_append_left _ _ (by rw [List.length_set]; exact hbl);have hr:=ff y hk hp _ _ _ b σ hb (bS :: ws) hw;rw [hc] at hr;simp only [List.map_cons,Option.map_some,fp] at hr;have h1:(bS.toList == [107,105,110,100,115]) = false:=by rw [toList_data]; rfl
 have h2:(bS.toList == [112,108,97,99,101,115]) = false:=by rw [toList_data]; rfl
 have h3:(bS.toList == [102,105,114,115,116]) = true:=by rw [toList_data]; rfl
 refine aa _ ?_;simp [kK,hb,h1,h2,h3];refine ⟨[],ah.bf (aE.func EO (first:=[]) (caps:=[.pval (.slice 1 (.str bS :: ws.map .str)), .pval (.ptr b 0)]) (args:=[]) hr) ?_⟩;rintro r σ' ⟨rfl,tl,rfl⟩;refine ⟨_,rfl, ?_⟩;simp [hb,gb,g1,st1,gb2,st2,ay.v,ay.cells,CK];omega
theorem qZ (y:ab) (hk:y.kinds.length ≤ maxLen) (hp:y.places.length ≤ maxLen) (b b1 b2 b3 q1 q2 q3:Nat) (σ:af) (h:qh σ b b1 b2 b3 y q1 q2 q3) (ws:List ByteArray) (hw:∀ w ∈ dE :: ws,w.size ≤ 100000) (hc:iP y ((dE :: ws).map aA) = none) :
  Spec Tryz.prog lY [.ptr b 0, .slice 1 ((dE :: ws).map .str)] σ fun r σ'=>r = .pan lE ∧ ∃ tl,σ' = σ ++ tl:=by
 refine qg (by simp) ?_;have hb:=h.box;have hr:=ff y hk hp _ _ _ b σ hb (dE :: ws) hw;rw [hc] at hr;simp only [List.map_cons] at hr;have h1:(dE.toList == [107,105,110,100,115]) = false:=by rw [toList_data]; rfl
 have h2:(dE.toList == [112,108,97,99,101,115]) = false:=by rw [toList_data]; rfl
 have h3:(dE.toList == [102,105,114,115,116]) = false:=by rw [toList_data]; rfl
 have h4:(dE.toList == [112,97,112,101,114]) = false:=by rw [toList_data]; rfl
 have h5:(dE.toList == [108,97,115,116]) = true:=by rw [toList_data]; rfl
 refine aa _ ?_;simp [kK,hb,h1,h2,h3,h4,h5];refine ⟨[],ah.OI (aE.func EO (first:=[]) (caps:=[.pval (.slice 1 (.str dE :: ws.map .str)), .pval (.ptr b 0)]) (args:=[]) hr) ?_⟩;rintro σ' ⟨tl,rfl⟩;simp
theorem pT (y:ab) (hk:y.kinds.length ≤ maxLen) (hp:y.places.length ≤ maxLen) (hf:y.last.length ≤ 100000) (b b1 b2 b3 q1 q2 q3:Nat) (σ:af) (h:qh σ b b1 b2 b3 y q1 q2 q3) (ws:List ByteArray) (hw:∀ w ∈ dE :: ws,w.size ≤ 100000) {c:ay} (hc:iP y ((dE :: ws).map aA) = some c) :
  Spec Tryz.prog lY [.ptr b 0, .slice 1 ((dE :: ws).map .str)] σ fun r σ'=>r = .ret (.tup []) ∧ ∃ tl,σ' = (σ.set b3 (.spare 4 (q3 + 1))).set b (.box [.slice 1 (y.kinds.map .str), .slice 1 (y.places.map .str), .oslice 4 (y.first.map ay.v) b1 q1, .oslice 5 (y.papers.map aj.v) b2 q2, .oslice 4 ((y.last ++ [c]).map ay.v) b3 (q3 + 1)]) ++ tl:=by
 refine qg (by simp) ?_;have hb:=h.box;have hs1:=h.s3;have hbl:=(List.getElem?_eq_some_iff.1 hb).1;have hsl:=(List.getElem?_eq_some_iff.1 hs1).1;have hne:b3 ≠ b:=fun e=>by rw [e,hb] at hs1; cases hs1
 have gb:∀ l:af,(σ ++ l)[b]? = some (.box [.slice 1 (y.kinds.map .str), .slice 1 (y.places.map .str), .oslice 4 (y.first.map ay.v) b1 q1, .oslice 5 (y.papers.map aj.v) b2 q2, .oslice 4 (y.last.map ay.v) b3 q3]):=fun l=>by rw [List.getElem?_append_left hbl]; exact hb
 have g1:∀ l:af,(σ ++ l)[b3]? = some (.spare 4 q3):=fun l=>by rw [List.getElem?_append_left hsl]; exact hs1
 have st1:∀ (l:af) (o:cq),(σ ++ l).set b3 o = σ.set b3 o ++ l:=fun l o=>List.set_append_left _ _ hsl;have gb2:∀ (l:af) (o:cq),(σ.set b3 o ++ l)[b]? = some (.box [.slice 1 (y.kinds.map .str), .slice 1 (y.places.map .str), .oslice 4 (y.first.map ay.v) b1 q1, .oslice 5 (y.papers.map aj.v) b2 q2, .oslice 4 (y.last.map ay.v) b3 q3]):=fun l o=>by
  rw [List.getElem?_append_left (by rw [List.length_set]; exact hbl),List.getElem?_set_ne hne]; exact hb
 have st2:∀ (l:af) (o x:cq),(σ.set b3 o ++ l).set b x = (σ.set b3 o).set b x ++ l:=fun l o x=>List.set_append_left _ _ (by rw [List.length_set]; exact hbl);have hr:=ff y hk hp _ _ _ b σ hb (dE :: ws) hw;rw [hc] at hr;simp only [List.map_cons,Option.map_some,fp] at hr;have h1:(dE.toList == [107,105,110,100,115]) = false:=by rw [toList_data]; rfl
 have h2:(dE.toList == [112,108,97,99,101,115]) = false:=by rw [toList_data]; rfl
 have h3:(dE.toList == [102,105,114,115,116]) = false:=by rw [toList_data]; rfl
 have h4:(dE.toList == [112,97,112,101,114]) = false:=by rw [toList_data]; rfl
 have h5:(dE.toList == [108,97,115,116]) = true:=by rw [toList_data]; rfl
 refine aa _ ?_;simp [kK,hb,h1,h2,h3,h4,h5];refine ⟨[],ah.bf (aE.func EO (first:=[]) (caps:=[.pval (.slice 1 (.str dE :: ws.map .str)), .pval (.ptr b 0)]) (args:=[]) hr) ?_⟩;rintro r σ' ⟨rfl,tl,rfl⟩;refine ⟨_,rfl, ?_⟩;simp [hb,gb,g1,st1,gb2,st2,ay.v,ay.cells,CK];omega
theorem tP (b:Nat) (σ:af) (w:ByteArray) (ws:List ByteArray) (g1:w ≠ eA) (g2:w ≠ de) (g3:w ≠ bS) (g4:w ≠ bo) (g5:w ≠ dE) :
  Spec Tryz.prog lY [.ptr b 0, .slice 1 ((w :: ws).map .str)] σ fun r σ'=>r = .pan lE ∧ ∃ tl,σ' = σ ++ tl:=by
 refine qg (by simp) ?_;have key:∀ x:ByteArray,w ≠ x → (w.toList == x.data.toList) = false:=fun x hx=>by
  rw [beq_eq_false_iff_ne,toList_data];exact fun e=>hx (data_inj e)
 have h1:(w.toList == [107,105,110,100,115]) = false:=key eA g1;have h2:(w.toList == [112,108,97,99,101,115]) = false:=key de g2;have h3:(w.toList == [102,105,114,115,116]) = false:=key bS g3;have h4:(w.toList == [112,97,112,101,114]) = false:=key bo g4;have h5:(w.toList == [108,97,115,116]) = false:=key dE g5;refine aa _ ?_;simp [kK,h1,h2,h3,h4,h5];refine ah.pan dT (b7 _) ?_;rintro σ' rfl;simp
theorem oC (y:ab) (b b1 b2 b3 q1 q2 q3:Nat) (σ:af) (_h:qh σ b b1 b2 b3 y q1 q2 q3) (ws:List ByteArray) (h6:(bo :: ws).length ≠ 6) :
  Spec Tryz.prog lY [.ptr b 0, .slice 1 ((bo :: ws).map .str)] σ fun r σ'=>r = .pan lE ∧ ∃ tl,σ' = σ ++ tl:=by
 refine qg (by simp) ?_;have h1:(bo.toList == [107,105,110,100,115]) = false:=by rw [toList_data]; rfl
 have h2:(bo.toList == [112,108,97,99,101,115]) = false:=by rw [toList_data]; rfl
 have h3:(bo.toList == [102,105,114,115,116]) = false:=by rw [toList_data]; rfl
 have h4:(bo.toList == [112,97,112,101,114]) = true:=by rw [toList_data]; rfl
 have h6':¬ ws.length = 5:=by simpa using h6
 have h6I:¬ (ws.length:Int) + 1 = 6:=by omega
 have hbq:((ws.length:Int) + 1 == 6) = false:=by simpa using h6I
 refine aa _ ?_;simp [kK,h1,h2,h3,h4,hbq];refine ah.pan dT (b7 _) ?_;rintro σ' rfl;simp
theorem pS (y:ab) (hk:y.kinds.length ≤ maxLen) (hp:y.places.length ≤ maxLen) (b b1 b2 b3 q1 q2 q3:Nat) (σ:af) (h:qh σ b b1 b2 b3 y q1 q2 q3) (w1 w2 w3 w4 w5:ByteArray) (z4:w4.size ≤ 100000) (z5:w5.size ≤ 100000) (hc:rr y [aA bo,aA w1,aA w2,aA w3,aA w4,aA w5] = none) :
  Spec Tryz.prog lY [.ptr b 0, .slice 1 [.str bo, .str w1, .str w2, .str w3, .str w4, .str w5]] σ fun r σ'=>r = .pan lE ∧ ∃ tl,σ' = σ ++ tl:=by
 refine qg (by simp) ?_;have hb:=h.box;have i1:=fun σ=>cH y.kinds hk w1 false σ;have i2:=fun σ=>cH y.places hp w2 true σ;have i3:=fun σ=>cH y.places hp w3 true σ;have n4:=fun σ=>du w4 z4 false σ;have n5:=fun σ=>du w5 z5 true σ;have h1:(bo.toList == [107,105,110,100,115]) = false:=by rw [toList_data]; rfl
 have h2:(bo.toList == [112,108,97,99,101,115]) = false:=by rw [toList_data]; rfl
 have h3:(bo.toList == [102,105,114,115,116]) = false:=by rw [toList_data]; rfl
 have h4:(bo.toList == [112,97,112,101,114]) = true:=by rw [toList_data]; rfl
 cases e0:kU y.kinds (aA w1) false with
 | none=>
  rw [e0] at i1;refine aa _ ?_;simp [kK,hb,h1,h2,h3,h4];refine ah.pure dT (aU _) ?_;simp [hb];refine ⟨[],ah.pan fo (v:=lE) (Q:=fun σ'=>σ' = _) (i1 _) ?_⟩;rintro σ' rfl;simp
 | some v0=>
 rw [e0] at i1;simp only [Option.map_some,fp] at i1
 cases e1:kU y.places (aA w2) true with
 | none=>
  rw [e1] at i2;refine aa _ ?_;simp [kK,hb,h1,h2,h3,h4];refine ah.pure dT (aU _) ?_;simp [hb];refine ⟨[],ah.pure fo (i1 _) ?_⟩;simp [hb];refine ⟨[],ah.pan fo (v:=lE) (Q:=fun σ'=>σ' = _) (i2 _) ?_⟩;rintro σ' rfl;simp
 | some v1=>
 rw [e1] at i2;simp only [Option.map_some,fp] at i2
 cases e2:kU y.places (aA w3) true with
 | none=>
  rw [e2] at i3;refine aa _ ?_;simp [kK,hb,h1,h2,h3,h4];refine ah.pure dT (aU _) ?_;simp [hb];refine ⟨[],ah.pure fo (i1 _) ?_⟩;simp [hb];refine ⟨[],ah.pure fo (i2 _) ?_⟩;simp [hb];refine ⟨[],ah.pan fo (v:=lE) (Q:=fun σ'=>σ' = _) (i3 _) ?_⟩;rintro σ' rfl;simp
 | some v2=>
 rw [e2] at i3;simp only [Option.map_some,fp] at i3
 cases e3:lD (aA w4) false with
 | none=>
  rw [e3] at n4;refine aa _ ?_;simp [kK,hb,h1,h2,h3,h4];refine ah.pure dT (aU _) ?_;simp [hb];refine ⟨[],ah.pure fo (i1 _) ?_⟩;simp [hb];refine ⟨[],ah.pure fo (i2 _) ?_⟩;simp [hb];refine ⟨[],ah.pure fo (i3 _) ?_⟩;simp [hb];refine ⟨[],ah.pan qz (v:=lE) (Q:=fun σ'=>σ' = _) (n4 _) ?_⟩;rintro σ' rfl;simp
 | some v3=>
 rw [e3] at n4;simp only [Option.map_some,fp] at n4
 cases e4:lD (aA w5) true with
 | none=>
  rw [e4] at n5;refine aa _ ?_;simp [kK,hb,h1,h2,h3,h4];refine ah.pure dT (aU _) ?_;simp [hb];refine ⟨[],ah.pure fo (i1 _) ?_⟩;simp [hb];refine ⟨[],ah.pure fo (i2 _) ?_⟩;simp [hb];refine ⟨[],ah.pure fo (i3 _) ?_⟩;simp [hb];refine ⟨[],ah.pure qz (n4 _) ?_⟩;simp [hb];refine ⟨[],ah.pan qz (v:=lE) (Q:=fun σ'=>σ' = _) (n5 _) ?_⟩;rintro σ' rfl;simp
 | some v4=>
 rw [e4] at n5;simp only [Option.map_some,fp] at n5;have hs:rr y [aA bo,aA w1,aA w2,aA w3,aA w4,aA w5] = some ⟨v0,v1,v2,v3,v4⟩:=by simp only [rr,e0,e1,e2,e3,e4]
 rw [hs] at hc;cases hc
theorem Jw (p:aj):Fits 5 [ag.agg [ii' p.kind,ii' p.src,ii' p.dst,ii' p.kilos,ii' p.copy]]:=fun v hv=>by
 simp at hv; subst hv; exact ⟨rfl,rfl⟩
theorem oF (y:ab) (hk:y.kinds.length ≤ maxLen) (hp:y.places.length ≤ maxLen) (hf:y.papers.length ≤ 100000) (b b1 b2 b3 q1 q2 q3:Nat) (σ:af) (h:qh σ b b1 b2 b3 y q1 q2 q3) (w1 w2 w3 w4 w5:ByteArray) (z4:w4.size ≤ 100000) (z5:w5.size ≤ 100000) {p:aj} (hc:rr y [aA bo,aA w1,aA w2,aA w3,aA w4,aA w5] = some p) :
  Spec Tryz.prog lY [.ptr b 0, .slice 1 [.str bo, .str w1, .str w2, .str w3, .str w4, .str w5]] σ fun r σ'=>r = .ret (.tup []) ∧ ∃ tl,σ' = (σ.set b2 (.spare 5 (q2 + 1))).set b (.box [.slice 1 (y.kinds.map .str), .slice 1 (y.places.map .str), .oslice 4 (y.first.map ay.v) b1 q1, .oslice 5 ((y.papers ++ [p]).map aj.v) b2 (q2 + 1), .oslice 4 (y.last.map ay.v) b3 q3]) ++ tl:=by
 refine qg (by simp) ?_;have hb:=h.box;have hs1:=h.s2;have hbl:=(List.getElem?_eq_some_iff.1 hb).1;have hsl:=(List.getElem?_eq_some_iff.1 hs1).1;have hne:b2 ≠ b:=fun e=>by rw [e,hb] at hs1; cases hs1
 have gb:∀ l:af,(σ ++ l)[b]? = some (.box [.slice 1 (y.kinds.map .str), .slice 1 (y.places.map .str), .oslice 4 (y.first.map ay.v) b1 q1, .oslice 5 (y.papers.map aj.v) b2 q2, .oslice 4 (y.last.map ay.v) b3 q3]):=fun l=>by rw [List.getElem?_append_left hbl]; exact hb
 have g1:∀ l:af,(σ ++ l)[b2]? = some (.spare 5 q2):=fun l=>by rw [List.getElem?_append_left hsl]; exact hs1
 have st1:∀ (l:af) (o:cq),(σ ++ l).set b2 o = σ.set b2 o ++ l:=fun l o=>List.set_append_left _ _ hsl;have gb2:∀ (l:af) (o:cq),(σ.set b2 o ++ l)[b]? = some (.box [.slice 1 (y.kinds.map .str), .slice 1 (y.places.map .str), .oslice 4 (y.first.map ay.v) b1 q1, .oslice 5 (y.papers.map aj.v) b2 q2, .oslice 4 (y.last.map ay.v) b3 q3]):=fun l o=>by
  rw [List.getElem?_append_left (by rw [List.length_set]; exact hbl),List.getElem?_set_ne hne]; exact hb
 have st2:∀ (l:af) (o x:cq),(σ.set b2 o ++ l).set b x = (σ.set b2 o).set b x ++ l:=fun l o x=>List.set_append_left _ _ (by rw [List.length_set]; exact hbl);have i1:=fun σ=>cH y.kinds hk w1 false σ;have i2:=fun σ=>cH y.places hp w2 true σ;have i3:=fun σ=>cH y.places hp w3 true σ;have n4:=fun σ=>du w4 z4 false σ;have n5:=fun σ=>du w5 z5 true σ;have h1:(bo.toList == [107,105,110,100,115]) = false:=by rw [toList_data]; rfl
 have h2:(bo.toList == [112,108,97,99,101,115]) = false:=by rw [toList_data]; rfl
 have h3:(bo.toList == [102,105,114,115,116]) = false:=by rw [toList_data]; rfl
 have h4:(bo.toList == [112,97,112,101,114]) = true:=by rw [toList_data]; rfl
 simp only [rr] at hc
 cases e0:kU y.kinds (aA w1) false with
 | none=>rw [e0] at hc; simp at hc
 | some v0=>
 rw [e0] at i1 hc;simp only [Option.map_some,fp] at i1
 cases e1:kU y.places (aA w2) true with
 | none=>rw [e1] at hc; simp at hc
 | some v1=>
 rw [e1] at i2 hc;simp only [Option.map_some,fp] at i2
 cases e2:kU y.places (aA w3) true with
 | none=>rw [e2] at hc; simp at hc
 | some v2=>
 rw [e2] at i3 hc;simp only [Option.map_some,fp] at i3
 cases e3:lD (aA w4) false with
 | none=>rw [e3] at hc; simp at hc
 | some v3=>
 rw [e3] at n4 hc;simp only [Option.map_some,fp] at n4
 cases e4:lD (aA w5) true with
 | none=>rw [e4] at hc; simp at hc
 | some v4=>
 rw [e4] at n5 hc;simp only [Option.map_some,fp] at n5;simp only [Option.some.injEq] at hc;subst hc;refine aa _ ?_;simp [kK,hb,h1,h2,h3,h4];refine ah.pure dT (aU _) ?_;simp [hb];refine ⟨[],ah.pure fo (i1 _) ?_⟩;simp [hb];refine ⟨[],ah.pure fo (i2 _) ?_⟩;simp [hb];refine ⟨[],ah.pure fo (i3 _) ?_⟩;simp [hb];refine ⟨[],ah.pure qz (n4 _) ?_⟩;simp [hb];refine ⟨[],ah.pure qz (n5 _) ?_⟩;have gb3:∀ o:cq,(σ.set b2 o)[b]? = some (.box [.slice 1 (y.kinds.map .str), .slice 1 (y.places.map .str), .oslice 4 (y.first.map ay.v) b1 q1, .oslice 5 (y.papers.map aj.v) b2 q2, .oslice 4 (y.last.map ay.v) b3 q3]):=fun o=>by
  rw [List.getElem?_set_ne hne]; exact hb
 have hfp:=Jw ⟨v0,v1,v2,v3,v4⟩;simp only at hfp;simp [hb,hs1,gb3,aj.v,aj.cells,hfp];omega
theorem tR {α} {l:List α} {i:Nat} {x:α} (h:l[i]? = some x):l.set i x = l:=by
 obtain ⟨hi,e⟩:=List.getElem?_eq_some_iff.1 h;rw [← e,List.set_getElem_self hi]
theorem xe {a b:ByteArray} (h:aA a = aA b):a = b:=data_inj h
def w7 (σ:af) (b b1 b2 b3:Nat):Option ab → fq → af → Prop
 | none,r,σ'=>r = .pan lE ∧ ∃ tl,σ' = σ ++ tl
 | some y,r,σ'=>r = .ret (.tup []) ∧ ∃ q1 q2 q3 tl,σ' = (((σ.set b1 (.spare 4 q1)).set b2 (.spare 5 q2)).set b3 (.spare 4 q3)).set b (.box [.slice 1 (y.kinds.map .str), .slice 1 (y.places.map .str), .oslice 4 (y.first.map ay.v) b1 q1, .oslice 5 (y.papers.map aj.v) b2 q2, .oslice 4 (y.last.map ay.v) b3 q3]) ++ tl
theorem step_cons (w:WdW) (r:List WdW) (y:ab):fB (w :: r) y = if w = cT then some { y with kinds:=r.map ry } else if w = b6 then some { y with places:=r.map ry } else if w = cd then (iP y (w :: r)).map fun c=>{ y with first:=y.first ++ [c] } else if w = dO then (rr y (w :: r)).map fun p=>{ y with papers:=y.papers ++ [p] } else if w = dC then (iP y (w :: r)).map fun c=>{ y with last:=y.last ++ [c] } else none:=by
 unfold fB;simp only [List.head?_cons,Option.some.injEq,List.tail_cons]
theorem yM:aA eA = cT:=rfl
theorem wB:aA de = b6:=rfl
theorem yI:aA bS = cd:=rfl
theorem zy:aA bo = dO:=rfl
theorem Cf:aA dE = dC:=rfl
theorem JP {y:ab} {l:List WdW} {p:aj} (h:rr y l = some p):l.length = 6:=by
 unfold rr at h
 split at h
 ·rfl
 ·cases h
theorem vl (y:ab) (hk:y.kinds.length ≤ maxLen) (hp:y.places.length ≤ maxLen) (hf:y.first.length ≤ 100000) (hpa:y.papers.length ≤ 100000) (hl:y.last.length ≤ 100000) (b b1 b2 b3 q1 q2 q3:Nat) (σ:af) (h:qh σ b b1 b2 b3 y q1 q2 q3) (w0:ByteArray) (ws:List ByteArray) (hw:∀ w ∈ w0 :: ws,w.size ≤ 100000) :
  Spec Tryz.prog lY [.ptr b 0, .slice 1 ((w0 :: ws).map .str)] σ fun r σ'=>w7 σ b b1 b2 b3 (fB ((w0 :: ws).map aA) y) r σ':=by
 have e1:σ.set b1 (.spare 4 q1) = σ:=tR h.s1;have e2:σ.set b2 (.spare 5 q2) = σ:=tR h.s2;have e3:σ.set b3 (.spare 4 q3) = σ:=tR h.s3;have hm:(ws.map aA).map ry = ws:=pG ws;by_cases g1:w0 = eA
 ·subst g1;have hs:fB ((eA :: ws).map aA) y = some { y with kinds:=ws }:=by
   rw [List.map_cons,step_cons,if_pos yM,hm]
  rw [hs];refine (tV y b b1 b2 b3 q1 q2 q3 σ h ws).mono ?_;rintro r σ' ⟨rfl,tl,rfl⟩;exact ⟨rfl,q1,q2,q3,tl,by rw [e1,e2,e3]⟩
 by_cases g2:w0 = de
 ·subst g2;have hs:fB ((de :: ws).map aA) y = some { y with places:=ws }:=by
   rw [List.map_cons,step_cons,wB,if_neg (by decide),if_pos rfl,hm]
  rw [hs];refine (sF y b b1 b2 b3 q1 q2 q3 σ h ws).mono ?_;rintro r σ' ⟨rfl,tl,rfl⟩;exact ⟨rfl,q1,q2,q3,tl,by rw [e1,e2,e3]⟩
 by_cases g3:w0 = bS
 ·subst g3;have hs:fB ((bS :: ws).map aA) y = (iP y ((bS :: ws).map aA)).map fun c=>{ y with first:=y.first ++ [c] }:=by
   rw [List.map_cons,step_cons,yI,if_neg (by decide),if_neg (by decide),if_pos rfl]
  rw [hs]
  cases hc:iP y ((bS :: ws).map aA) with
  | none=>
   refine (p0 y hk hp b b1 b2 b3 q1 q2 q3 σ h ws hw hc).mono ?_;rintro r σ' ⟨rfl,tl,rfl⟩;exact ⟨rfl,tl,rfl⟩
  | some c=>
   refine (nY y hk hp hf b b1 b2 b3 q1 q2 q3 σ h ws hw hc).mono ?_;rintro r σ' ⟨rfl,tl,rfl⟩;have f2:(σ.set b1 (.spare 4 (q1 + 1)))[b2]? = some (.spare 5 q2):=by rw [List.getElem?_set_ne h.n12]; exact h.s2
   have f3:(σ.set b1 (.spare 4 (q1 + 1)))[b3]? = some (.spare 4 q3):=by rw [List.getElem?_set_ne h.n13]; exact h.s3
   exact ⟨rfl,q1 + 1,q2,q3,tl,by rw [tR f2,tR f3]⟩
 by_cases g4:w0 = bo
 ·subst g4;have hs:fB ((bo :: ws).map aA) y = (rr y ((bo :: ws).map aA)).map fun p=>{ y with papers:=y.papers ++ [p] }:=by
   rw [List.map_cons,step_cons,zy,if_neg (by decide),if_neg (by decide),if_neg (by decide),if_pos rfl]
  rw [hs];by_cases h6:(bo :: ws).length = 6
  ·obtain ⟨w1,w2,w3,w4,w5,rfl⟩:∃ w1 w2 w3 w4 w5,ws = [w1,w2,w3,w4,w5]:=by
    match ws,h6 with
    | [w1,w2,w3,w4,w5],_=>exact ⟨w1,w2,w3,w4,w5,rfl⟩
   have z4:=hw w4 (by simp);have z5:=hw w5 (by simp)
   cases hc:rr y ((bo :: [w1,w2,w3,w4,w5]).map aA) with
   | none=>
    refine (pS y hk hp b b1 b2 b3 q1 q2 q3 σ h w1 w2 w3 w4 w5 z4 z5 hc).mono ?_;rintro r σ' ⟨rfl,tl,rfl⟩;exact ⟨rfl,tl,rfl⟩
   | some p=>
    refine (oF y hk hp hpa b b1 b2 b3 q1 q2 q3 σ h w1 w2 w3 w4 w5 z4 z5 hc).mono ?_;rintro r σ' ⟨rfl,tl,rfl⟩;have f3:(σ.set b2 (.spare 5 (q2 + 1)))[b3]? = some (.spare 4 q3):=by rw [List.getElem?_set_ne h.n23]; exact h.s3
    exact ⟨rfl,q1,q2 + 1,q3,tl,by rw [e1,tR f3]⟩
  ·have hc:rr y ((bo :: ws).map aA) = none:=by
    cases hq:rr y ((bo :: ws).map aA) with
    | none=>rfl
    | some p=>exact absurd (by have:=JP hq; rwa [List.length_map] at this) h6
   rw [hc];refine (oC y b b1 b2 b3 q1 q2 q3 σ h ws h6).mono ?_;rintro r σ' ⟨rfl,tl,rfl⟩;exact ⟨rfl,tl,rfl⟩
 by_cases g5:w0 = dE
 ·subst g5;have hs:fB ((dE :: ws).map aA) y = (iP y ((dE :: ws).map aA)).map fun c=>{ y with last:=y.last ++ [c] }:=by
   rw [List.map_cons,step_cons,Cf,if_neg (by decide),if_neg (by decide),if_neg (by decide),if_neg (by decide),if_pos rfl]
  rw [hs]
  cases hc:iP y ((dE :: ws).map aA) with
  | none=>
   refine (qZ y hk hp b b1 b2 b3 q1 q2 q3 σ h ws hw hc).mono ?_;rintro r σ' ⟨rfl,tl,rfl⟩;exact ⟨rfl,tl,rfl⟩
  | some c=>
   refine (pT y hk hp hl b b1 b2 b3 q1 q2 q3 σ h ws hw hc).mono ?_;rintro r σ' ⟨rfl,tl,rfl⟩;exact ⟨rfl,q1,q2,q3 + 1,tl,by rw [e1,e2]⟩
 have hne:∀ x:ByteArray,w0 ≠ x → ¬ aA w0 = aA x:=fun x hx e=>hx (xe e);have hs:fB ((w0 :: ws).map aA) y = none:=by
  rw [List.map_cons,step_cons, ← yM, ← wB, ← yI, ← zy, ← Cf,if_neg (hne eA g1),if_neg (hne de g2),if_neg (hne bS g3),if_neg (hne bo g4),if_neg (hne dE g5)]
 rw [hs];refine (tP b σ w0 ws g1 g2 g3 g4 g5).mono ?_;rintro r σ' ⟨rfl,tl,rfl⟩;exact ⟨rfl,tl,rfl⟩
theorem FE {ws:List WdW} {y y':ab} (h:fB ws y = some y'):y'.kinds.length ≤ max y.kinds.length ws.length ∧ y'.places.length ≤ max y.places.length ws.length ∧ y'.first.length + y'.papers.length + y'.last.length ≤ y.first.length + y.papers.length + y.last.length + 1:=by
 unfold fB at h
 split at h
 ·cases h; dsimp only; rw [List.length_map,List.length_tail]; omega
 ·split at h
  ·cases h; dsimp only; rw [List.length_map,List.length_tail]; omega
  ·split at h
   ·obtain ⟨c,_,rfl⟩:=Option.map_eq_some_iff.1 h;simp; omega
   ·split at h
    ·obtain ⟨c,_,rfl⟩:=Option.map_eq_some_iff.1 h;simp; omega
    ·split at h
     ·obtain ⟨c,_,rfl⟩:=Option.map_eq_some_iff.1 h;simp; omega
     ·cases h
theorem Ex (a b:Nat) (σ:af):nx Tryz.prog zZ [.ptr a 0, .ptr b 0] σ .none fun m σ'=>m = .none ∧ σ' = σ:=by
 refine Pe (by simp) (aa _ ?_);simp [JT,PM.after]
def wk:List ag:=[.slice 1 [], .slice 1 [], .slice 4 [], .slice 5 [], .slice 4 []]
theorem DD (v1 v2 v3 v4 v5 z:ag) (tl:af) :
  nx Tryz.prog zZ [.ptr 0 0, .ptr 1 0] (.box [v1,v2,v3,v4,v5] :: .box [z] :: tl) (.pan lE) fun m σ'=>(∃ v,m = .recd v) ∧ σ' = .box wk :: .box [ii' 6] :: tl:=by
 refine Pe (by simp) (aa _ ?_);simp [JT,PM.after,lE,wk]
theorem pH (v1 v2 v3 v4 v5 z:ag) (tl:af) {R:PM → af → Prop} (h:∀ v,R (.recd v) (.box wk :: .box [ii' 6] :: tl)) :
  au Tryz.prog zZ = true ∧ nx Tryz.prog zZ [.ptr 0 0, .ptr 1 0] (.box [v1,v2,v3,v4,v5] :: .box [z] :: tl) (.pan lE) R:=
 ⟨Oh,(DD v1 v2 v3 v4 v5 z tl).mono (by rintro m σ' ⟨⟨v,rfl⟩,rfl⟩; exact h v)⟩
theorem Hy (σ:af) {R:PM → af → Prop} (h:R .none σ) :
  au Tryz.prog zZ = true ∧ nx Tryz.prog zZ [.ptr 0 0, .ptr 1 0] σ .none R:=
 ⟨Oh,(Ex 0 1 σ).mono (by rintro m σ' ⟨rfl,rfl⟩; exact h)⟩
def ep (s:ByteArray):ab × Int:=if 4000 < s.size then (eE,3) else match ru aQ (aA s) with
 | some y=>(y,0)
 | none=>(eE,6)
theorem Hr {s:ByteArray} (h4:¬ 4000 < s.size) (h:jA fB (fun l=>decide (l = [])) (cutAt 10 (aA s)) eE = none):ep s = (eE,6):=by
 unfold ep ru rZ; rw [if_neg h4,h]
theorem nE (s:ByteArray) (σ:af):Spec Tryz.prog KE [.str s] σ fun r σ'=>r = .ret (.tup [(ep s).1.v,ii' (ep s).2]) ∧ σ' = σ:=by
 refine Spec.aF (UN (by simp) ?_) rfl (by simp [ag.pure,aH,ab.pure]) σ;by_cases h6:4000 < s.size
 ·have hv:ep s = (eE,3):=by unfold ep; rw [if_pos h6]
  have h6I:(4000:Int) < s.size:=by omega
  rw [hv];refine aa _ ?_;simp [JY,h6I,eE,ab.v,ab.cells]
 have h6I:¬ (4000:Int) < s.size:=by omega
 have hno:=Hr h6;have hzv:eE.v = .agg [.slice 1 [], .slice 1 [], .slice 4 [], .slice 5 [], .slice 4 []]:=rfl;refine aa _ ?_;simp [JY,h6I]
 refine AW.loop (ι:=Nat) (fun m fr σ'=>∃ (x:ByteArray) (y:ab) (q1 q2 q3:Nat) (t:af),fr = { v:=[(0, .str s),(2, .ptr 0 0),(3, .ptr 1 0),(4, .ptr 5 0),(5, .str x)],ds:=[.fn (.func (.func zZ) [] [.ptr 0 0, .ptr 1 0]) []] } ∧
  σ' = .box [.slice 1 [], .slice 1 [], .slice 4 [], .slice 5 [], .slice 4 []] :: .box [ii' 0] :: .spare 4 q1 :: .spare 5 q2 :: .spare 4 q3 :: .box [.slice 1 (y.kinds.map .str), .slice 1 (y.places.map .str), .oslice 4 (y.first.map ay.v) 2 q1, .oslice 5 (y.papers.map aj.v) 3 q2, .oslice 4 (y.last.map ay.v) 4 q3] :: t ∧ x.size = m ∧ y.first.length + y.papers.length + y.last.length + x.size ≤ 4000 ∧ y.kinds.length ≤ 4001 ∧ y.places.length ≤ 4001 ∧ jA fB (fun l=>decide (l = [])) (cutAt 10 (aA x)) y = jA fB (fun l=>decide (l = [])) (cutAt 10 (aA s)) eE) (fun m=>m) s.size ⟨s,eE,0,0,0,[],rfl,rfl,rfl,by simp [eE]; omega,by simp [eE],by simp [eE],rfl⟩ ?_
 rintro m fr σ' ⟨x,y,q1,q2,q3,t,rfl,rfl,rfl,hsz,hkl,hpl,hco⟩;by_cases hx:x = .empty
 ·have hr:aA x = []:=by rw [hx]; rfl
  rw [hr] at hco;have hrp:jA fB (fun l=>decide (l = [])) (cutAt 10 (aA s)) eE = some y:=by rw [← hco]; rfl
  have hfy:dv y:=⟨by simp only [maxLen]; omega,by simp only [maxLen]; omega,by simp only [maxLen]; omega,by simp only [maxLen]; omega,by simp only [maxLen]; omega⟩;have hck:=fun σ=>iR y hfy σ;simp only [ab.v,ab.cells,df] at hck;have hxl:x.toList = []:=by rw [toList_data]; exact hr
  have hv:ep s = if decide ((cN aQ y).2.2 = 0) && decide (dS y = aA s) then (y,0) else (eE,6):=by
   unfold ep ru rZ;rw [if_neg h6,hrp];dsimp only;by_cases hh:(decide ((cN aQ y).2.2 = 0) && decide (dS y = aA s)) = true
   ·rw [if_pos hh,if_pos hh]
   ·rw [if_neg hh,if_neg hh]
  by_cases hz:(cN aQ y).2.2 = 0;rotate_left
  ·rw [if_neg (by simp [hz])] at hv;have hzB:((cN aQ y).2.2 == 0) = false:=by rw [beq_eq_false_iff_ne]; exact hz
   rw [hv];refine aa _ ?_;simp [hxl];refine ah.pure Dr (hck _) ?_;simp [hzB];refine ah.pan dT (b7 _) ?_;rintro σ' rfl;simp;refine pH _ _ _ _ _ _ _ fun v=>?_;simp [wk,hzv]
  have htx:=fun σ=>nL rk ((ib aQ y).1 hz) σ;simp only [ab.v,ab.cells] at htx;rw [hz] at hck;have hbt:bytes (dS y) = s ↔ dS y = aA s:=⟨fun h=>by rw [← h,bF],fun h=>data_inj (by rw [mM]; exact h)⟩;by_cases ht:dS y = aA s
  ·have hbe:=hbt.2 ht;rw [if_pos (by simp [hz,ht])] at hv;rw [hv];refine aa _ ?_;simp [hxl];refine ah.pure Dr (hck _) ?_;simp;refine ah.pure Oe (htx _) ?_;simp [hbe];refine ah.pure dT (aU _) ?_;simp;refine Hy _ ?_;simp [ab.v,ab.cells]
  ·have hbe:¬ bytes (dS y) = s:=fun h=>ht (hbt.1 h);rw [if_neg (by simp [ht])] at hv;rw [hv];refine aa _ ?_;simp [hxl];refine ah.pure Dr (hck _) ?_;simp;refine ah.pure Oe (htx _) ?_;simp [nmd,hbe];refine ah.pan dT (b7 _) ?_;rintro σ' rfl;simp;refine pH _ _ _ _ _ _ _ fun v=>?_;simp [wk,hzv]
 have hxl:¬ x.toList = []:=fun e=>hx (by rw [toList_data] at e; exact data_inj e);have hx6:x.size ≤ 6000:=by omega
 have hcu:=Jv x hx6;have hnlv:(⟨#[10]⟩:ByteArray) = nlB:=rfl;rw [Hx] at hcu
 cases hq:cutAt 10 (aA x) with
 | nil=>exact absurd hq (jr _ _)
 | cons r qs=>
 cases qs with
 | nil=>
  rw [hq] at hcu hco;have hxr:r = aA x:=by
   have:=mX 10 (aA x);rw [hq] at this; exact this
  have hrn:¬ r = []:=fun e=>hx (by rw [hxr] at e; exact data_inj e);have hrv:=hno (by rw [← hco]; unfold jA; rw [if_neg (by simpa using hrn)]);rw [hrv];refine aa _ ?_;simp [hxl,hnlv];refine ah.pure Nc (hcu _) ?_;simp;refine ah.pan dT (b7 _) ?_;rintro σ' rfl;simp;refine pH _ _ _ _ _ _ _ fun v=>?_;simp [wk,hzv]
 | cons q rs=>
 rw [hq] at hcu hco;dsimp only at hcu;have hj:aA x = r ++ 10 :: bB 10 (q :: rs):=by
  have:=mX 10 (aA x);rw [hq,uU 10 r (by simp)] at this; exact this.symm
 have hcb:cutAt 10 (bB 10 (q :: rs)) = q :: rs:=rz 10 (by simp) fun w hw=>BU 10 (aA x) w (by rw [hq]; simp [hw]);obtain ⟨z,hzz⟩:=zqq (bytes (bB 10 (q :: rs)));have hyr:aA z = bB 10 (q :: rs):=by rw [← hzz,bF]
 rw [hzz] at hcu;rw [← hyr] at hj hcb;have hsy:x.size = r.length + 1 + z.size:=by
  have:=congrArg List.length hj;rw [cL,List.length_append,List.length_cons,cL] at this; omega
 have hsp:=Ef (bytes r) (by rw [eo]; omega);have hsi:=Im (bytes r);rw [bF] at hsi;obtain ⟨ws,hws⟩:=zqq (ly (bytes r) spB);rw [hws] at hsp hsi;have hcl:=mB 32 r;rw [← hsi] at hcl;have hwl:ws.length ≤ 4001:=by have:=hcl.1; simp at this; omega
 have hwz:∀ n ∈ ws,n.size ≤ 100000:=fun n hn=>by
  have:=hcl.2 (aA n) (List.mem_map_of_mem hn);rw [cL] at this; omega
 have hspv:(⟨#[32]⟩:ByteArray) = spB:=rfl
 cases ws with
 | nil=>exact absurd hsi.symm (jr _ _)
 | cons w0 wr=>
 simp only [jA, ← hsi] at hco;have hrd:=fun q1 q2 q3 σ hb=>vl y (by simp only [maxLen]; omega) (by simp only [maxLen]; omega) (by omega) (by omega) (by omega) 5 2 3 4 q1 q2 q3 σ hb w0 wr hwz
 cases hst:fB ((w0 :: wr).map aA) y with
 | none=>
  rw [hst] at hco;simp only [hst] at hrd;simp only [w7,List.map_cons] at hrd;have hrv:=hno hco.symm;rw [hrv];refine aa _ ?_;simp [hxl,hnlv];refine ah.pure Nc (hcu _) ?_;simp;refine ah.pure dT (aU _) ?_;simp [hspv];refine ah.pure Mp (hsp _) ?_;simp;refine ah.pan LG (hrd _ _ _ _ ⟨rfl,rfl,rfl,rfl,by decide,by decide,by decide⟩) ?_;rintro σ' ⟨tl,rfl⟩;simp;refine pH _ _ _ _ _ _ _ fun v=>?_;simp [wk,hzv]
 | some y'=>
  rw [hst] at hco;simp only [hst] at hrd;simp only [w7,List.map_cons] at hrd;have hln:=FE hst;rw [List.length_map] at hln;refine aa _ ?_;simp [hxl,hnlv];refine ah.pure Nc (hcu _) ?_;simp;refine ah.pure dT (aU _) ?_;simp [hspv];refine ah.pure Mp (hsp _) ?_;simp;refine ah.spec LG (hrd _ _ _ _ ⟨rfl,rfl,rfl,rfl,by decide,by decide,by decide⟩) ?_;rintro r' σ' ⟨rfl,q1',q2',q3',tl,rfl⟩;refine ⟨_,rfl, ?_⟩;simp;exact ⟨z.size,by omega,y',⟨rfl,rfl,rfl,rfl,rfl⟩,rfl,by omega,by omega,by omega,by rw [hcb]; exact hco⟩
theorem ny (l:List ay) (hl:l.length ≤ maxLen) (σ:af):Spec Tryz.prog Hl [.slice 4 (l.map ay.v), .slice 4 (l.map ay.v)] σ fun r σ'=>r = .ret (.bool true) ∧ σ' = σ:=by
 refine Spec.aF (PY (by simp) (aa _ ?_)) (by simp [aH,ag.pure,aD (f:=ay.v) (fun c=>c.pure)]) rfl σ;simp [LX];refine AW.loop (ι:=Nat) (fun i fr σ=>fr = { v:=[(0, .slice 4 (l.map ay.v)),(1, .slice 4 (l.map ay.v)),(5, .bool true),(6, .int .i64 i)],ds:=[] } ∧ i ≤ l.length) (fun i=>l.length - i) 0 (by simp) ?_;rintro i fr σ ⟨rfl,hi⟩;refine (Nat.lt_or_ge i l.length).elim (fun hlt=>?_) (fun hge=>?_)
 ·obtain ⟨x,hx⟩:=zqq (l[i]);obtain ⟨a,b,c,d⟩:=x;refine aa _ ?_;simp [hlt,hx,ay.v,ay.cells];exact ⟨i + 1,by omega,aq (by omega) (by simp only [maxLen] at hl; omega),by omega⟩
 ·have hnl:¬ i < l.length:=by omega
  refine aa _ ?_;simp [hnl]
theorem qd (y:ab) (hy:dv y) (σ:af):Spec Tryz.prog Nu [y.v,y.v] σ fun r σ'=>r = .ret (.bool true) ∧ σ' = σ:=by
 refine Spec.aF (UM (by simp) (aa _ ?_)) (by simp [aH,y.pure]) rfl σ;have hw:∀ (l:List ByteArray),l.length ≤ maxLen → ∀ σ,Spec Tryz.prog Fp [.slice 1 (l.map .str), .slice 1 (l.map .str)] σ fun r σ'=>r = .ret (.bool true) ∧ σ' = σ:=fun l hl σ=>by
  have:=xz l l hl σ
  rwa [decide_eq_true rfl] at this
 have h1:=hw y.kinds hy.kinds;have h2:=hw y.places hy.places;have h3:=ny y.first hy.first
 have h4:=ny y.last hy.last;have hl:=hy.papers;obtain ⟨ks,ps,fs,l,ls⟩:=y;simp only at h1 h2 h3 h4 hl;simp [Ol,ab.v,ab.cells];refine ah.pure Lu (h1 _) ?_;simp;refine ah.pure Lu (h2 _) ?_;simp;refine ah.pure L7 (h3 _) ?_;simp;refine ah.pure L7 (h4 _) ?_;simp;refine AW.loop (ι:=Nat) (fun i fr σ=>fr = { v:=[(2, .pval (.agg [.slice 1 (ks.map .str), .slice 1 (ps.map .str), .slice 4 (fs.map ay.v), .slice 5 (l.map aj.v), .slice 4 (ls.map ay.v)])),(3, .pval (.agg [.slice 1 (ks.map .str), .slice 1 (ps.map .str), .slice 4 (fs.map ay.v), .slice 5 (l.map aj.v), .slice 4 (ls.map ay.v)])),(5, .bool true),(6, .int .i64 i)],ds:=[] } ∧ i ≤ l.length) (fun i=>l.length - i) 0 (by simp) ?_;rintro i fr σ ⟨rfl,hi⟩;refine (Nat.lt_or_ge i l.length).elim (fun hlt=>?_) (fun hge=>?_)
 ·obtain ⟨x,hx⟩:=zqq (l[i]);obtain ⟨a,b,c,d,e⟩:=x;refine aa _ ?_;simp [hlt,hx,aj.v,aj.cells];exact ⟨i + 1,by omega,aq (by omega) (by simp only [maxLen] at hl; omega),by omega⟩
 ·have hnl:¬ i < l.length:=by omega
  refine aa _ ?_;simp [hnl]
theorem bI (a b:Int) (σ:af):Spec Tryz.prog MY [ii' a,ii' b] σ fun r σ'=>r = .ret (.agg [ii' a,ii' b]) ∧ σ' = σ:=by
 refine Spec.aF (Us (by simp) (aa _ ?_)) rfl rfl σ;simp [Oi]
def oY:ByteArray:=⟨pP.toArray⟩
theorem qA (σ:af):Spec Tryz.prog ND [] σ fun r σ'=>r = .ret (.str oY) ∧ σ' = σ:=by
 refine Spec.aF (T7 (by simp) (aa _ ?_)) rfl rfl σ;simp [OH,oY,pP]
def exW (b:Bool):ab:=if b then exZ else exY
theorem ja (b:Bool) (σ:af):Spec Tryz.prog JI [.bool b] σ fun r σ'=>r = .ret (exW b).v ∧ σ' = σ:=by
 refine Spec.aF (TT (by simp) (aa _ ?_)) rfl (exW b).pure σ;cases b
 all_goals simp [OP]
 all_goals refine ah.pure p8 (bI 1000 1000 _) ?_
 all_goals simp
 all_goals refine ah.pure p8 (bI 100 100 _) ?_
 all_goals simp
 all_goals refine ah.pure p8 (bI 600 600 _) ?_
 all_goals simp
 ·simp [exW,exY,ab.v,ab.cells,ay.v,ay.cells,aj.v,aj.cells,Ch,oi,uE,CM]
 ·refine ah.pure p8 (bI 100 200 _) ?_;simp [exW,exZ,ab.v,ab.cells,ay.v,ay.cells,aj.v,aj.cells,Ch,oi,uE,CM]
end Go.AM
