/- The text of a yard of waste, and how it is read: by the program and by the document. Plain. The text of a yard of waste is read az it was; both readings are the same. Plain. The examples of .. -/
import Derived.Test.YtlmhkldmpggadaaGreatDoorP28
import Derived.Test.YtlmhkldmpggadaaGreatDoorP26
namespace Go.AM
abbrev WdW:=List UInt8
def dQ (b:ByteArray):WdW:=b.data.toList
def ry (w:WdW):ByteArray:=⟨w.toArray⟩
theorem vL (b:ByteArray):ry (dQ b) = b:=by simp [dQ,ry]
theorem Ib {a b:ByteArray} (h:dQ a = dQ b):a = b:=by rw [← vL a,h,vL]
theorem pG:∀ l:List ByteArray,(l.map dQ).map ry = l
 | []=>rfl
 | a :: l=>by rw [List.map_cons,List.map_cons,vL,pG l]
def cy (r:List WdW):WdW:=bB 32 r ++ [10]
def cT:WdW:=[107,105,110,100,115]
def b6:WdW:=[112,108,97,99,101,115]
def cd:WdW:=[102,105,114,115,116]
def dO:WdW:=[112,97,112,101,114]
def dC:WdW:=[108,97,115,116]
def bU:WdW:=[45]
def nameAt (l:List ByteArray) (i:Int):WdW:=dQ (l.getD i.toNat .empty)
def iA (y:ab) (a:Int):WdW:=if a = -1 then bU else nameAt y.places a
def aR (w:WdW) (y:ab) (c:ay):List WdW:=[w,nameAt y.kinds c.kind,nameAt y.places c.place,Lib.itoa c.lo,Lib.itoa c.hi]
def bZ (y:ab) (p:aj):List WdW:=[dO,nameAt y.kinds p.kind,iA y p.src,iA y p.dst,Lib.itoa p.kilos,if 0 ≤ p.copy then Lib.itoa p.copy else bU]
def ql (y:ab):List (List WdW):=(cT :: y.kinds.map dQ) :: (b6 :: y.places.map dQ) :: (y.first.map (aR cd y) ++ y.papers.map (bZ y) ++ y.last.map (aR dC y))
def dS (y:ab):WdW:=(ql y).flatMap cy
def eE:ab:=⟨[],[],[],[],[]⟩
/-! ### the program -/
def vh (l:List ByteArray) (w:WdW):Option Nat:=l.findIdx? fun s=>decide (dQ s = w)
def kU (l:List ByteArray) (w:WdW) (minus:Bool):Option Int:=match vh l w with
 | some i=>some i
 | none=>if minus = true ∧ w = bU then some (-1) else none
def lD (w:WdW) (minus:Bool):Option Int:=if minus = true ∧ w = bU then some (-1) else match Lib.atoiAll w with
 | .ok v=>if 0 ≤ v then some v else none
 | _=>none
def iP (y:ab):List WdW → Option ay
 | [_,k,p,a,b]=>match kU y.kinds k false,kU y.places p false,lD a false,lD b false with
  | some k,some p,some a,some b=>some ⟨k,p,a,b⟩
  | _,_,_,_=>none
 | _=>none
def rr (y:ab):List WdW → Option aj
 | [_,k,a,b,n,c]=>match kU y.kinds k false,kU y.places a true,kU y.places b true,lD n false,lD c true with
  | some k,some a,some b,some n,some c=>some ⟨k,a,b,n,c⟩
  | _,_,_,_,_=>none
 | _=>none
def fB (r:List WdW) (y:ab):Option ab:=
 if r.head? = some cT then some { y with kinds:=r.tail.map ry }
 else if r.head? = some b6 then some { y with places:=r.tail.map ry }
 else if r.head? = some cd then (iP y r).map fun c=>{ y with first:=y.first ++ [c] }
 else if r.head? = some dO then (rr y r).map fun p=>{ y with papers:=y.papers ++ [p] }
 else if r.head? = some dC then (iP y r).map fun c=>{ y with last:=y.last ++ [c] }
 else none
/-! ### the document -/
def iG (l:List ByteArray) (w:WdW):Int:=if w = bU then -1 else match vh l w with
 | some i=>i
 | none=>-2
def Ds (y:ab):List WdW → ay
 | [_,k,p,a,b]=>⟨iG y.kinds k,iG y.places p,j8 a,j8 b⟩
 | _=>⟨0,0,0,0⟩
def Hj (y:ab):List WdW → aj
 | [_,k,a,b,n,c]=>⟨iG y.kinds k,iG y.places a,iG y.places b,j8 n,if c = bU then -1 else j8 c⟩
 | _=>⟨0,0,0,0,0⟩
def fA (r:List WdW) (y:ab):Option ab:=
 if r.head? = some cT then some { y with kinds:=r.tail.map ry }
 else if r.head? = some b6 then some { y with places:=r.tail.map ry }
 else if r.head? = some dO ∧ r.length = 6 then some { y with papers:=y.papers ++ [Hj y r] }
 else if r.length = 5 then (if r.head? = some cd then some { y with first:=y.first ++ [Ds y r] } else some { y with last:=y.last ++ [Ds y r] })
 else none
def jA (step:List WdW → ab → Option ab) (last:WdW → Bool):List WdW → ab → Option ab
 | [],_=>none
 | [l],y=>if last l then some y else none
 | r :: q :: rs,y=>match step (cutAt 32 r) y with
  | none=>none
  | some y'=>jA step last (q :: rs) y'
def rZ (nm:ByteArray → Bool) (step:List WdW → ab → Option ab) (last:WdW → Bool) (s:WdW):Option ab:=match jA step last (cutAt 10 s) eE with
 | none=>none
 | some y=>if decide ((cN nm y).2.2 = 0) && decide (dS y = s) then some y else none
def ru (nm:ByteArray → Bool) (s:WdW):Option ab:=rZ nm fB (fun l=>decide (l = [])) s
def AE (nm:ByteArray → Bool) (s:WdW):Option ab:=rZ nm fA (fun _=>true) s
/-! ### a text is read az it was -/
structure kq (nm:ByteArray → Bool):Prop where
 byte:∀ s,nm s = true → (∀ c ∈ dQ s,48 ≤ c.toNat) ∧ dQ s ≠ [] ∧ (dQ s).length ≤ 16
theorem kq.no {nm:ByteArray → Bool} (h:kq nm) {s:ByteArray} (hs:nm s = true) {b:UInt8} (hb:b.toNat < 48):b ∉ dQ s:=fun hm=>by
 have:=(h.byte s hs).1 b hm; omega
theorem kq.minus {nm:ByteArray → Bool} (h:kq nm) {s:ByteArray} (hs:nm s = true):dQ s ≠ bU:=fun e=>by
 have:=(h.byte s hs).1 45 (by rw [e]; simp [bU]);exact absurd this (by decide)
theorem A2 {b:UInt8}:∀ {l:List WdW},(∀ w ∈ l,b ∉ w) → b ≠ 32 → b ∉ bB 32 l
 | [],_,_=>by simp [bB]
 | [p],h,_=>h p (by simp)
 | p :: q :: r,h,hb=>by
  have ih:=A2 (l:=q :: r) (fun w hw=>h w (by simp [hw])) hb;simp only [bB,List.mem_append,List.mem_cons,not_or];exact ⟨h p (by simp),hb,ih⟩
theorem zm:∀ (rs:List (List WdW)),(∀ r ∈ rs,(10:UInt8) ∉ bB 32 r) → cutAt 10 (rs.flatMap cy) = rs.map (bB 32) ++ [[]]
 | [],_=>rfl
 | r :: rs,h=>by
  have ih:=zm rs fun x hx=>h x (by simp [hx]);have e:(r :: rs).flatMap cy = bB 32 r ++ 10 :: rs.flatMap cy:=by simp [cy]
  rw [e,gR 10 _ _ (h r (by simp)),ih]; rfl
theorem ze {step:List WdW → ab → Option ab} {last:WdW → Bool} (hl:last [] = true):∀ (rs:List (List WdW)) (y:ab),(∀ r ∈ rs,cutAt 32 (bB 32 r) = r) → jA step last (rs.map (bB 32) ++ [[]]) y = rs.foldlM (fun y r=>step r y) y
 | [],y,_=>by simp [jA,hl]
 | r :: rs,y,h=>by
  have h1:=h r (by simp);have ih:=fun y=>ze (step:=step) hl rs y fun x hx=>h x (by simp [hx]);simp only [List.map_cons,List.cons_append,List.foldlM_cons]
  cases hq:rs.map (bB 32) ++ [[]] with
  | nil=>simp at hq
  | cons a t=>
   simp only [hq] at ih;simp only [jA,h1]
   cases step r y with
   | none=>rfl
   | some y'=>exact ih y'
theorem Gm {l:List ByteArray} (hn:l.Nodup) {i:Nat} (hi:i < l.length):vh l (dQ l[i]) = some i:=by
 unfold vh;rw [List.findIdx?_eq_some_iff_getElem];refine ⟨hi,by simp,fun j hj=>?_⟩;simp only [decide_eq_true_eq];intro e;have e2:=Ib e;have:=List.pairwise_iff_getElem.1 (List.nodup_iff_pairwise_ne.1 hn) j i (by omega) hi hj;exact this e2
theorem gD {l:List ByteArray} {i:Int} (h:0 ≤ i ∧ i < l.length):∃ hi:i.toNat < l.length,nameAt l i = dQ l[i.toNat]:=by
 refine ⟨by omega, ?_⟩;unfold nameAt;rw [List.getD_eq_getElem?_getD,List.getElem?_eq_getElem (by omega)]; rfl
theorem sM {nm:ByteArray → Bool} (hw:kq nm) {l:List ByteArray} (hl:(∀ s ∈ l,nm s = true) ∧ l.Nodup) {i:Int} (h:0 ≤ i ∧ i < l.length) (m:Bool):kU l (nameAt l i) m = some i ∧ iG l (nameAt l i) = i:=by
 obtain ⟨hi,e⟩:=gD h;have hf:=Gm hl.2 hi;have hm:=hw.minus (hl.1 _ (List.getElem_mem hi));rw [e];unfold kU iG;rw [hf,if_neg hm];dsimp only;exact ⟨by congr 1; omega,by omega⟩
theorem xm {n:Int} (h:0 ≤ n):Lib.itoa n ≠ bU:=fun e=>by
 have:=tt h (b:=45) (by decide);rw [e] at this;exact this (by simp [bU])
theorem sK {n:Int} (h:0 ≤ n) (h2:n ≤ 1000000) (m:Bool):lD (Lib.itoa n) m = some n ∧ j8 (Lib.itoa n) = n:=by
 refine ⟨?_,GM h (by omega)⟩;unfold lD;rw [if_neg (fun e=>xm h e.2),Gy h (by omega)];dsimp only;rw [if_pos h]
theorem yN {nm:ByteArray → Bool} (hw:kq nm) {y:ab} (hl:(∀ s ∈ y.places,nm s = true) ∧ y.places.Nodup) {l:List ByteArray} (e:y.places = l) {a:Int} (h:-1 ≤ a ∧ a < l.length):kU l (iA y a) true = some a ∧ iG l (iA y a) = a:=by
 subst e;unfold iA;by_cases h1:a = -1
 ·rw [if_pos h1,h1];have hf:vh y.places bU = none:=by
   unfold vh;rw [List.findIdx?_eq_none_iff];intro s hs;have:=hw.minus (hl.1 s hs);simpa using this
  unfold kU iG;rw [hf];simp
 ·rw [if_neg h1];exact sM hw hl (by omega) true
structure Ao (step:List WdW → ab → Option ab) (y:ab):Prop where
 kinds:∀ z:ab,step (cT :: y.kinds.map dQ) z = some { z with kinds:=y.kinds }
 places:∀ z:ab,step (b6 :: y.places.map dQ) z = some { z with places:=y.places }
 first:∀ z:ab,z.kinds = y.kinds → z.places = y.places → ∀ c ∈ y.first,step (aR cd y c) z = some { z with first:=z.first ++ [c] }
 papers:∀ z:ab,z.kinds = y.kinds → z.places = y.places → ∀ p ∈ y.papers,step (bZ y p) z = some { z with papers:=z.papers ++ [p] }
 last:∀ z:ab,z.kinds = y.kinds → z.places = y.places → ∀ c ∈ y.last,step (aR dC y c) z = some { z with last:=z.last ++ [c] }
theorem ph {step:List WdW → ab → Option ab} {α:Type} {row:α → List WdW} {upd:ab → α → ab} {y:ab} (hk:∀ z a,(upd z a).kinds = z.kinds ∧ (upd z a).places = z.places):∀ (l:List α) (z:ab),z.kinds = y.kinds → z.places = y.places →
  (∀ z:ab,z.kinds = y.kinds → z.places = y.places → ∀ a ∈ l,step (row a) z = some (upd z a)) → (l.map row).foldlM (fun y r=>step r y) z = some (l.foldl upd z)
 | [],z,_,_,_=>rfl
 | a :: l,z,h1,h2,h=>by
  rw [List.map_cons,List.foldlM_cons,h z h1 h2 a (by simp)];have:=hk z a;exact ph hk l (upd z a) (by rw [this.1,h1]) (by rw [this.2,h2]) fun z e1 e2 b hb=>h z e1 e2 b (by simp [hb])
theorem DM (l:List ay):∀ z:ab,l.foldl (fun z c=>{ z with first:=z.first ++ [c] }) z = { z with first:=z.first ++ l }:=by
 induction l with
 | nil=>intro z; simp
 | cons c l ih=>intro z; rw [List.foldl_cons,ih]; simp
theorem CA (l:List aj):∀ z:ab,l.foldl (fun z c=>{ z with papers:=z.papers ++ [c] }) z = { z with papers:=z.papers ++ l }:=by
 induction l with
 | nil=>intro z; simp
 | cons c l ih=>intro z; rw [List.foldl_cons,ih]; simp
theorem FO (l:List ay):∀ z:ab,l.foldl (fun z c=>{ z with last:=z.last ++ [c] }) z = { z with last:=z.last ++ l }:=by
 induction l with
 | nil=>intro z; simp
 | cons c l ih=>intro z; rw [List.foldl_cons,ih]; simp
theorem FM {step:List WdW → ab → Option ab} {y:ab} (h:Ao step y):(ql y).foldlM (fun y r=>step r y) eE = some y:=by
 have f1:=ph (step:=step) (row:=aR cd y) (y:=y) (upd:=fun z c=>{ z with first:=z.first ++ [c] }) (fun _ _=>⟨rfl,rfl⟩) y.first { eE with kinds:=y.kinds,places:=y.places } rfl rfl h.first
 rw [DM] at f1;have f2:=ph (step:=step) (row:=bZ y) (y:=y) (upd:=fun z c=>{ z with papers:=z.papers ++ [c] }) (fun _ _=>⟨rfl,rfl⟩) y.papers { eE with kinds:=y.kinds,places:=y.places,first:=y.first } rfl rfl h.papers;rw [CA] at f2;have f3:=ph (step:=step) (row:=aR dC y) (y:=y) (upd:=fun z c=>{ z with last:=z.last ++ [c] }) (fun _ _=>⟨rfl,rfl⟩) y.last { eE with kinds:=y.kinds,places:=y.places,first:=y.first,papers:=y.papers } rfl rfl h.last;rw [FO] at f3;simp only [eE,List.nil_append] at f1 f2 f3;unfold ql;rw [List.foldlM_cons,h.kinds];simp only [Option.bind_eq_bind,Option.bind_some];rw [List.foldlM_cons,h.places];simp only [Option.bind_eq_bind,Option.bind_some,eE];rw [List.foldlM_append,List.foldlM_append,f1];simp only [Option.bind_eq_bind,Option.bind_some];rw [f2];simp only [Option.bind_some];rw [f3]
section
variable {nm:ByteArray → Bool} (hw:kq nm) {y:ab} (h:bJ nm y)
include hw h
theorem pr {z:ab} (e1:z.kinds = y.kinds) (e2:z.places = y.places) {c:ay} (hc:zX y c) (w:WdW):iP z (aR w y c) = some c ∧ Ds z (aR w y c) = c:=by
 have k1:=sM hw h.kinds hc.kind false;have k2:=sM hw h.places hc.place false;have h3:=hc.lo;have h4:=hc.hi;unfold Big at h3 h4;have k3:=sK h3.1 h3.2 false;have k4:=sK h4.1 h4.2 false;unfold aR iP Ds;dsimp only;rw [e1,e2,k1.1,k2.1,k3.1,k4.1,k1.2,k2.2,k3.2,k4.2];exact ⟨rfl,rfl⟩
theorem yJ {z:ab} (e1:z.kinds = y.kinds) (e2:z.places = y.places) {i:Nat} {p:aj} (hp:JX y i p):rr z (bZ y p) = some p ∧ Hj z (bZ y p) = p:=by
 have k1:=sM hw h.kinds hp.kind false;have k2:=yN hw h.places rfl hp.src;have k3:=yN hw h.places rfl hp.dst;have h4:=hp.kilos;unfold Big at h4;have k4:=sK h4.1 h4.2 false;have hm:=h.m10;have k5:lD (if 0 ≤ p.copy then Lib.itoa p.copy else bU) true = some p.copy ∧ (if (if 0 ≤ p.copy then Lib.itoa p.copy else bU) = bU then -1 else j8 (if 0 ≤ p.copy then Lib.itoa p.copy else bU)) = p.copy:=by
  rcases hp.copy with hc | ⟨c1,c2,_⟩
  ·rw [if_neg (by omega),hc];unfold lD;simp
  ·rw [if_pos c1,if_neg (xm c1)];exact sK c1 (by omega) true
 unfold bZ rr Hj;dsimp only;rw [e1,e2,k1.1,k2.1,k3.1,k4.1,k5.1,k1.2,k2.2,k3.2,k4.2,k5.2];exact ⟨rfl,rfl⟩
theorem Kz:Ao fB y:=by
 refine ⟨fun z=>?_,fun z=>?_,fun z e1 e2 c hc=>?_,fun z e1 e2 p hp=>?_,fun z e1 e2 c hc=>?_⟩
 ·unfold fB;rw [if_pos (by simp),List.tail_cons,pG]
 ·unfold fB;rw [if_neg (by simp [cT,b6]),if_pos (by simp),List.tail_cons,pG]
 ·have:=(pr hw h e1 e2 (h.first.1 c hc) cd).1;unfold fB;rw [if_neg (by simp [aR,cd,cT]),if_neg (by simp [aR,cd,b6]),if_pos (by simp [aR]),this]; rfl
 ·obtain ⟨i,hi,rfl⟩:=List.getElem_of_mem hp;have:=(yJ hw h e1 e2 (h.papers i hi)).1;unfold fB;rw [if_neg (by simp [bZ,dO,cT]),if_neg (by simp [bZ,dO,b6]),if_neg (by simp [bZ,dO,cd]),if_pos (by simp [bZ]),this]; rfl
 ·have:=(pr hw h e1 e2 (h.last.1 c hc) dC).1;unfold fB;rw [if_neg (by simp [aR,dC,cT]),if_neg (by simp [aR,dC,b6]),if_neg (by simp [aR,dC,cd]),if_neg (by simp [aR,dC,dO]),if_pos (by simp [aR]),this]; rfl
theorem K3:Ao fA y:=by
 refine ⟨fun z=>?_,fun z=>?_,fun z e1 e2 c hc=>?_,fun z e1 e2 p hp=>?_,fun z e1 e2 c hc=>?_⟩
 ·unfold fA;rw [if_pos (by simp),List.tail_cons,pG]
 ·unfold fA;rw [if_neg (by simp [cT,b6]),if_pos (by simp),List.tail_cons,pG]
 ·have:=(pr hw h e1 e2 (h.first.1 c hc) cd).2;unfold fA;rw [if_neg (by simp [aR,cd,cT]),if_neg (by simp [aR,cd,b6]),if_neg (by simp [aR,cd,dO]),if_pos (by simp [aR]),if_pos (by simp [aR]),this]
 ·obtain ⟨i,hi,rfl⟩:=List.getElem_of_mem hp;have:=(yJ hw h e1 e2 (h.papers i hi)).2;unfold fA;rw [if_neg (by simp [bZ,dO,cT]),if_neg (by simp [bZ,dO,b6]),if_pos (by simp [bZ]),this]
 ·have:=(pr hw h e1 e2 (h.last.1 c hc) dC).2;unfold fA;rw [if_neg (by simp [aR,dC,cT]),if_neg (by simp [aR,dC,b6]),if_neg (by simp [aR,dC,dO]),if_pos (by simp [aR]),if_neg (by simp [aR,dC,cd]),this]
theorem nn {l:List ByteArray} (hl:∀ s ∈ l,nm s = true) {i:Int} (hi:0 ≤ i ∧ i < l.length) {b:UInt8} (hb:b.toNat < 48):b ∉ nameAt l i:=by
 have _h:=h;obtain ⟨hi',e⟩:=gD hi;rw [e]; exact hw.no (hl _ (List.getElem_mem hi')) hb
theorem AG {b:UInt8} (hb:b = 10 ∨ b = 32):∀ r ∈ ql y,r ≠ [] ∧ ∀ w ∈ r,b ∉ w:=by
 have hb48:b.toNat < 48:=by rcases hb with rfl | rfl <;> decide
 have hwd:b ∉ cT ∧ b ∉ b6 ∧ b ∉ cd ∧ b ∉ dO ∧ b ∉ dC ∧ b ∉ bU:=by rcases hb with rfl | rfl <;> decide
 have hcnt:∀ (w:WdW),b ∉ w → ∀ c,zX y c → ∀ x ∈ aR w y c,b ∉ x:=by
  intro w hbw c hc x hx;have h3:=hc.lo;have h4:=hc.hi;unfold Big at h3 h4;simp only [aR,List.mem_cons,List.not_mem_nil,or_false] at hx;rcases hx with rfl | rfl | rfl | rfl | rfl
  ·exact hbw
  ·exact nn hw h h.kinds.1 hc.kind hb48
  ·exact nn hw h h.places.1 hc.place hb48
  ·exact tt h3.1 hb48
  ·exact tt h4.1 hb48
 intro r hr;simp only [ql,List.mem_cons,List.mem_append,List.mem_map] at hr;rcases hr with rfl | rfl | (⟨c,hc,rfl⟩ | ⟨p,hp,rfl⟩) | ⟨c,hc,rfl⟩
 ·refine ⟨by simp,fun w hww=>?_⟩;rcases List.mem_cons.1 hww with rfl | hww
  ·exact hwd.1
  ·obtain ⟨s,hs,rfl⟩:=List.mem_map.1 hww;exact hw.no (h.kinds.1 s hs) hb48
 ·refine ⟨by simp,fun w hww=>?_⟩;rcases List.mem_cons.1 hww with rfl | hww
  ·exact hwd.2.1
  ·obtain ⟨s,hs,rfl⟩:=List.mem_map.1 hww;exact hw.no (h.places.1 s hs) hb48
 ·exact ⟨by simp [aR],hcnt _ hwd.2.2.1 c (h.first.1 c hc)⟩
 ·obtain ⟨i,hi,rfl⟩:=List.getElem_of_mem hp;have hv:=h.papers i hi;have h4:=hv.kilos;unfold Big at h4;have hpl:∀ a:Int, -1 ≤ a ∧ a < y.places.length → b ∉ iA y a:=fun a ha=>by
   unfold iA;split
   ·exact hwd.2.2.2.2.2
   ·exact nn hw h h.places.1 (by omega) hb48
  refine ⟨by simp [bZ],fun x hx=>?_⟩;simp only [bZ,List.mem_cons,List.not_mem_nil,or_false] at hx;rcases hx with rfl | rfl | rfl | rfl | rfl | rfl
  ·exact hwd.2.2.2.1
  ·exact nn hw h h.kinds.1 hv.kind hb48
  ·exact hpl _ hv.src
  ·exact hpl _ hv.dst
  ·exact tt h4.1 hb48
  ·split
   ·rename_i hc; exact tt hc hb48
   ·exact hwd.2.2.2.2.2
 ·exact ⟨by simp [aR],hcnt _ hwd.2.2.2.2.1 c (h.last.1 c hc)⟩
theorem E1 {step:List WdW → ab → Option ab} {last:WdW → Bool} (hl:last [] = true) (ht:Ao step y):rZ nm step last (dS y) = some y:=by
 unfold rZ dS;rw [zm (ql y) fun r hr=>A2 (AG hw h (.inl rfl) r hr).2 (by decide)];rw [ze hl (ql y) eE fun r hr=>rz 32 (AG hw h (.inr rfl) r hr).1 (AG hw h (.inr rfl) r hr).2];rw [FM ht];dsimp only;rw [decide_eq_true ((ib nm y).2 h)];simp
end
theorem BR {nm:ByteArray → Bool} {step:List WdW → ab → Option ab} {last:WdW → Bool} {s:WdW} {y:ab} (h:rZ nm step last s = some y):bJ nm y ∧ dS y = s:=by
 unfold rZ at h
 split at h
 ·cases h
 ·split at h
  ·rename_i hc;cases h;simp only [Bool.and_eq_true,decide_eq_true_eq] at hc;exact ⟨(ib nm _).1 hc.1,hc.2⟩
  ·cases h
theorem mU {nm:ByteArray → Bool} (hw:kq nm) (s:WdW) (y:ab):ru nm s = some y ↔ bJ nm y ∧ dS y = s:=
 ⟨BR,fun ⟨h,e⟩=>by rw [← e]; exact E1 hw h (by simp) (Kz hw h)⟩
theorem wo {nm:ByteArray → Bool} (hw:kq nm) (s:WdW) (y:ab):AE nm s = some y ↔ bJ nm y ∧ dS y = s:=
 ⟨BR,fun ⟨h,e⟩=>by rw [← e]; exact E1 hw h rfl (K3 hw h)⟩
theorem En {nm:ByteArray → Bool} (hw:kq nm) (s:WdW):ru nm s = AE nm s:=by
 cases h:AE nm s with
 | none=>
  cases g:ru nm s with
  | none=>rfl
  | some y=>rw [(wo hw s y).2 ((mU hw s y).1 g)] at h; cases h
 | some y=>exact (mU hw s y).2 ((wo hw s y).1 h)
def Ch:ByteArray:=⟨#[111,105,108]⟩
def oi:ByteArray:=⟨#[112,97,105,110,116]⟩
def uE:ByteArray:=⟨#[121,97,114,100]⟩
def CM:ByteArray:=⟨#[112,105,116]⟩
def exY:ab:=⟨[Ch,oi],[uE,CM],[⟨0,0,1000,1000⟩],[⟨0,0,1,600,1⟩,⟨0,0,1,500,0⟩,⟨0,0, -1,300, -1⟩],[⟨0,0,100,100⟩,⟨0,1,600,600⟩]⟩
def exZ:ab:=⟨[Ch,oi],[uE,CM],[⟨0,0,1000,1000⟩],[⟨0,0,1,600,1⟩,⟨0,0,1,500,0⟩,⟨0,0, -1,300, -1⟩],[⟨0,0,100,200⟩]⟩
def exF:ab:=⟨[Ch,oi],[uE,CM],[⟨0,0,1000,1000⟩],[⟨0,0,1,600,1⟩,⟨0,0,1,500,0⟩,⟨0,0, -1,300, -1⟩],[⟨0,0,100,100⟩,⟨0,1,700,700⟩]⟩
def fV (y:ab) (k:Int) (js:List b8):Bool:=(List.range (2 ^ y.places.length)).all fun P=>decide (P = 0) || (decide (dc (bh P) y.places.length y k js = 0) && decide (bz (bh P) y.places.length y k js = 0))
theorem kT (y:ab) (k:Int) (js:List b8):fV y k js = true ↔ qV y k js:=by
 unfold fV qV;rw [List.all_eq_true];constructor
 ·intro h P h1 h2;have:=h P (List.mem_range.2 h2);simp only [Bool.or_eq_true,Bool.and_eq_true,decide_eq_true_eq] at this;rcases this with e | e
  ·omega
  ·exact e
 ·intro h P hP;simp only [Bool.or_eq_true,Bool.and_eq_true,decide_eq_true_eq];rcases Nat.eq_zero_or_pos P with e | e
  ·exact .inl e
  ·exact .inr (h P e (List.mem_range.1 hP))
def my (y:ab) (k:Int) (js:List b8) (lo hi:Int):Bool:=(List.range (2 ^ y.places.length)).all fun P=>
 decide (dc (bh P) y.places.length y k js = 0) && decide (bz (bh P) y.places.length y k js = 0) && (!cz (bh P) y k y.places.length || decide (jG (bh P) y.places.length y k js ≤ fb (bh P) y.places.length y k + hi)) && decide (eO (bh P) y.places.length y k + lo ≤ lC (bh P) y.places.length y k js)
theorem tI (y:ab) (k:Int) (js:List b8) (lo hi:Int):my y k js lo hi = true ↔ yP y k js lo hi:=by
 unfold my yP okO;rw [List.all_eq_true];constructor
 ·intro h P hP;have:=h P (List.mem_range.2 hP);simp only [Bool.or_eq_true,Bool.and_eq_true,decide_eq_true_eq,Bool.not_eq_true'] at this;obtain ⟨⟨⟨h1,h2⟩,h3⟩,h4⟩:=this;exact ⟨⟨h1,h2⟩,fun hw=>h3.elim (fun e=>by rw [hw] at e; cases e) id,h4⟩
 ·intro h P hP;obtain ⟨⟨h1,h2⟩,h3,h4⟩:=h P (List.mem_range.1 hP);simp only [Bool.or_eq_true,Bool.and_eq_true,decide_eq_true_eq,Bool.not_eq_true'];refine ⟨⟨⟨h1,h2⟩, ?_⟩,h4⟩
  cases hw:cz (bh P) y k y.places.length with
  | false=>exact .inl rfl
  | true=>exact .inr (h3 hw)
theorem JJ:fV exZ 0 (dP exZ [0,1] 0 0 500) = true ∧ fV exZ 0 (dP exZ [0,1] 0 0 499) = false ∧ fV exZ 0 (dP exZ [0,1] 0 600 1000000) = true ∧ fV exZ 0 (dP exZ [0,1] 0 601 1000000) = false:=by decide +kernel
theorem FX:fV exY 0 (dP exY [0,1] 0 0 600) = true ∧ fV exY 0 (dP exY [0,1] 0 0 599) = false ∧ fV exY 0 (dP exY [0,1] 0 600 1000000) = true ∧ fV exY 0 (dP exY [0,1] 0 601 1000000) = false:=by decide +kernel
theorem KQ:my exY 0 (ba exY [1] 0) (-10000000) 300 = true ∧ my exY 0 (ba exY [1] 0) (-10000000) 299 = false ∧ my exY 0 (ba exY [1] 0) 300 10000000 = true ∧ my exY 0 (ba exY [1] 0) 301 10000000 = false:=by decide +kernel
theorem Js:my exY 1 (ba exY [1] 1) (-10000000) 0 = true ∧ my exY 1 (ba exY [1] 1) (-10000000) (-1) = false ∧ my exY 1 (ba exY [1] 1) 0 10000000 = true ∧ my exY 1 (ba exY [1] 1) 1 10000000 = false:=by decide +kernel
theorem I6 {nm:ByteArray → Bool} (h:bJ nm exZ) {lo hi:Int} (hr:jE exZ [0,1] 0 lo hi):lo = 500 ∧ hi = 600:=by
 have hs:aZ exZ [0,1] (exZ.papers.getD (bH exZ 0) ⟨0,0,0,0,0⟩) (bH exZ 0) = (0,1000000):=by decide +kernel
 have hi0:0 < exZ.papers.length:=by decide
 have k0:aK exZ 0 = 0:=by decide +kernel
 have b:=Cg h hi0 hr hs;dsimp only at b;have s1:=mw h hi0 hr hs (m:=500) (by decide) (by decide);have s2:=mw h hi0 hr hs (m:=499) (by decide) (by decide);have s3:=kH h hi0 hr hs (m:=600) (by decide) (by decide);have s4:=kH h hi0 hr hs (m:=601) (by decide) (by decide);rw [k0, ← kT] at s1 s2 s3 s4;obtain ⟨e1,e2,e3,e4⟩:=JJ;have t1:=s1.1 e1;have t3:=s3.1 e3;have t2:¬ lo ≤ 499:=fun e=>by have:=s2.2 e; rw [e2] at this; cases this
 have t4:¬ 601 ≤ hi:=fun e=>by have:=s4.2 e; rw [e4] at this; cases this
 omega
theorem FP {nm:ByteArray → Bool} (h:bJ nm exY) {lo hi:Int} (hr:jE exY [0,1] 0 lo hi):lo = 600 ∧ hi = 600:=by
 have hs:aZ exY [0,1] (exY.papers.getD (bH exY 0) ⟨0,0,0,0,0⟩) (bH exY 0) = (0,1000000):=by decide +kernel
 have hi0:0 < exY.papers.length:=by decide
 have k0:aK exY 0 = 0:=by decide +kernel
 have s1:=mw h hi0 hr hs (m:=600) (by decide) (by decide);have s2:=mw h hi0 hr hs (m:=599) (by decide) (by decide);have s3:=kH h hi0 hr hs (m:=600) (by decide) (by decide);have s4:=kH h hi0 hr hs (m:=601) (by decide) (by decide);rw [k0, ← kT] at s1 s2 s3 s4;obtain ⟨e1,e2,e3,e4⟩:=FX;have t1:=s1.1 e1;have t3:=s3.1 e3;have t2:¬ lo ≤ 599:=fun e=>by have:=s2.2 e; rw [e2] at this; cases this
 have t4:¬ 601 ≤ hi:=fun e=>by have:=s4.2 e; rw [e4] at this; cases this
 omega
theorem Ki {nm:ByteArray → Bool} (h:bJ nm exY) {lo hi:Int} (hr:iw exY [1] 0 lo hi):lo = 300 ∧ hi = 300:=by
 have s1:=oB h hr (m:=300) (by decide) (by decide);have s2:=oB h hr (m:=299) (by decide) (by decide);have s3:=lZ h hr (m:=300) (by decide) (by decide);have s4:=lZ h hr (m:=301) (by decide) (by decide);rw [← tI] at s1 s2 s3 s4;obtain ⟨e1,e2,e3,e4⟩:=KQ;have t1:=s1.1 e1;have t3:=s3.1 e3;have t2:¬ lo ≤ 299:=fun e=>by have:=s2.2 e; rw [e2] at this; cases this
 have t4:¬ 301 ≤ hi:=fun e=>by have:=s4.2 e; rw [e4] at this; cases this
 omega
theorem Hw {nm:ByteArray → Bool} (h:bJ nm exY) {lo hi:Int} (hr:iw exY [1] 1 lo hi):lo = 0 ∧ hi = 0:=by
 have s1:=oB h hr (m:=0) (by decide) (by decide);have s2:=oB h hr (m:=-1) (by decide) (by decide);have s3:=lZ h hr (m:=0) (by decide) (by decide);have s4:=lZ h hr (m:=1) (by decide) (by decide);rw [← tI] at s1 s2 s3 s4;obtain ⟨e1,e2,e3,e4⟩:=Js;have t1:=s1.1 e1;have t3:=s3.1 e3;have t2:¬ lo ≤ -1:=fun e=>by have:=s2.2 e; rw [e2] at this; cases this
 have t4:¬ 1 ≤ hi:=fun e=>by have:=s4.2 e; rw [e4] at this; cases this
 omega
structure By (nm:ByteArray → Bool):Prop where
 oil:nm Ch = true
 paint:nm oi = true
 yard:nm uE = true
 pit:nm CM = true
theorem By.kinds {nm:ByteArray → Bool} (h:By nm):(∀ s ∈ [Ch,oi],nm s = true) ∧ [Ch,oi].Nodup:=by
 refine ⟨fun s hs=>?_,by decide⟩;rcases List.mem_cons.1 hs with e | e
 ·rw [e]; exact h.oil
 ·rw [List.mem_singleton.1 e]; exact h.paint
theorem By.places {nm:ByteArray → Bool} (h:By nm):(∀ s ∈ [uE,CM],nm s = true) ∧ [uE,CM].Nodup:=by
 refine ⟨fun s hs=>?_,by decide⟩;rcases List.mem_cons.1 hs with e | e
 ·rw [e]; exact h.yard
 ·rw [List.mem_singleton.1 e]; exact h.pit
theorem Dj {nm:ByteArray → Bool} (h:By nm):bJ nm exY:=
 ⟨by decide,by decide,by decide,by decide,by decide,h.kinds,h.places,(gU exY exY.first).1 (by decide +kernel),(pL exY).1 (by decide +kernel),(gU exY exY.last).1 (by decide +kernel)⟩
theorem El {nm:ByteArray → Bool} (h:By nm):bJ nm exZ:=
 ⟨by decide,by decide,by decide,by decide,by decide,h.kinds,h.places,(gU exZ exZ.first).1 (by decide +kernel),(pL exZ).1 (by decide +kernel),(gU exZ exZ.last).1 (by decide +kernel)⟩
def pP:List UInt8:=[107,105,110,100,115,32,111,105,108,32,112,97,105,110,116,10,112,108,97,99,101,115,32,121,97,114,100,32,112,105,116,10,102,105,114,115,116,32,111,105,108,32,121,97,114,100,32,49,48,48,48,32,49,48,48,48,10,112,97,112,101,114,32,111,105,108,32,121,97,114,100,32,112,105,116,32,54,48,48,32,49,10,112,97,112,101,114,32,111,105,108,32,121,97,114,100,32,112,105,116,32,53,48,48,32,48,10,112,97,112,101,114,32,111,105,108,32,121,97,114,100,32,45,32,51,48,48,32,45,10,108,97,115,116,32,111,105,108,32,121,97,114,100,32,49,48,48,32,50,48,48,10]
theorem C1:dS exZ = pP:=by decide +kernel
theorem Jc {nm:ByteArray → Bool} (hw:kq nm) (h:By nm):ru nm pP = some exZ:=(mU hw pP exZ).2 ⟨El h,C1⟩
theorem lQ (A:Nat → Bool) (i:Nat) (g:Nat → Int):dL A (i + 1) g = dL A i g + if A i then g i else 0:=rfl
theorem rQ (g:b8 → Int):∀ l r,bO g (l ++ r) = bO g l + bO g r
 | [],r=>by simp [bO]
 | j :: l,r=>by simp only [List.cons_append,bO,rQ g l r]; omega
theorem Ax (al:aj → Nat → Int × Int) (k:Int):∀ (l r:List aj) (i:Nat),ee al k (l ++ r) i = ee al k l i ++ ee al k r (i + l.length)
 | [],r,i=>by simp [ee]
 | p :: l,r,i=>by
  simp only [List.cons_append,ee,Ax al k l r (i + 1),List.length_cons];rw [show i + 1 + l.length = i + (l.length + 1) by omega]
  split <;> rfl
def lW (y:ab) (wrong:List Nat) (k:Int) (i:Nat):List b8:=ee (aZ y wrong) k (y.papers.take i) 0
def xY (y:ab) (wrong:List Nat) (p:aj) (i:Nat):b8:=⟨p.src,p.dst,(aZ y wrong p i).1,(aZ y wrong p i).2⟩
theorem kJ (y:ab) (wrong:List Nat) (k:Int):lW y wrong k 0 = []:=rfl
theorem y0 (y:ab) (wrong:List Nat) (k:Int) {i:Nat} (h:y.papers.length ≤ i):lW y wrong k i = ba y wrong k:=by unfold lW ba; rw [List.take_of_length_le h]
theorem vT {y:ab} (wrong:List Nat) (k:Int) {i:Nat} (h:i < y.papers.length) :
  lW y wrong k (i + 1) = lW y wrong k i ++ if y.papers[i].kind = k ∧ br y.papers[i] i = true then [xY y wrong y.papers[i] i] else []:=by
 unfold lW;rw [List.take_succ_eq_append_getElem h,Ax];congr 1;simp only [ee,List.length_take,Nat.zero_add,Nat.min_eq_left (Nat.le_of_lt h)];rfl
theorem Jm {nm:ByteArray → Bool} {y:ab} (h:bJ nm y) (wrong:List Nat) (k:Int) (i:Nat):(∀ x ∈ lW y wrong k i,eS y.places.length x) ∧ (lW y wrong k i).length ≤ 10:=by
 have:=DK (n:=y.places.length) (al:=aZ y wrong) (k:=k) (y.papers.take i) 0 fun j hj=>by
  have hj':j < y.papers.length:=by rw [List.length_take] at hj; omega
  have hp:=h.papers j hj';rw [Nat.zero_add,List.getElem_take];exact ⟨hp.src,hp.dst,hp.ne,vC h wrong hp.kilos j⟩
 refine ⟨this.1, ?_⟩;have h2:=this.2;have:=h.m10;rw [List.length_take] at h2;unfold lW; omega
def jW (A:Nat → Bool) (y:ab) (wrong:List Nat) (k:Int) (a i:Nat):Int:=dL A a (fun p=>loC (aB y.first k p)) - dL A a (fun p=>hiC (aB y.last k p)) + bO (jLo A) (lW y wrong k i)
def fU (A:Nat → Bool) (y:ab) (wrong:List Nat) (k:Int) (a i:Nat):Int:=dL A a (fun p=>hiC (aB y.first k p)) - dL A a (fun p=>loC (aB y.last k p)) + bO (jHi A) (lW y wrong k i)
theorem uB (A:Nat → Bool) (y:ab) (wrong:List Nat) (k:Int) (a:Nat) :
  jW A y wrong k (a + 1) 0 = jW A y wrong k a 0 + (if A a then loC (aB y.first k a) - hiC (aB y.last k a) else 0) ∧
  fU A y wrong k (a + 1) 0 = fU A y wrong k a 0 + (if A a then hiC (aB y.first k a) - loC (aB y.last k a) else 0):=by
 unfold jW fU;simp only [lQ,kJ,bO];cases A a <;> simp <;> omega
theorem uL (A:Nat → Bool) {y:ab} (wrong:List Nat) (k:Int) (a:Nat) {i:Nat} (h:i < y.papers.length) :
  jW A y wrong k a (i + 1) = jW A y wrong k a i + (if y.papers[i].kind = k ∧ br y.papers[i] i = true then jLo A (xY y wrong y.papers[i] i) else 0) ∧
  fU A y wrong k a (i + 1) = fU A y wrong k a i + (if y.papers[i].kind = k ∧ br y.papers[i] i = true then jHi A (xY y wrong y.papers[i] i) else 0):=by
 unfold jW fU;rw [vT wrong k h,rQ,rQ]
 split <;> simp [bO] <;> omega
theorem Ke (A:Nat → Bool) (y:ab) (wrong:List Nat) (k:Int) {i:Nat} (h:y.papers.length ≤ i) :
  dc A y.places.length y k (ba y wrong k) = (if cz A y k y.places.length then max 0 (jW A y wrong k y.places.length i) else 0) ∧
  bz A y.places.length y k (ba y wrong k) = min 0 (fU A y wrong k y.places.length i):=by
 unfold dc bz jW fU fQ fR eO fb;rw [y0 y wrong k h];constructor
 ·split
  ·congr 1; omega
  ·rfl
 ·congr 1; omega
theorem EN {nm:ByteArray → Bool} {y:ab} (h:bJ nm y) (A:Nat → Bool) (wrong:List Nat) (k:Int) {a:Nat} (ha:a ≤ 4) (i:Nat) :
  (-14000000 ≤ jW A y wrong k a i ∧ jW A y wrong k a i ≤ 14000000) ∧ -14000000 ≤ fU A y wrong k a i ∧ fU A y wrong k a i ≤ 14000000:=by
 have hy:=h.ok;have h1:=da (A:=A) (g:=fun a=>loC (aB y.first k a)) (c:=1000000) (by omega) (fun a=>(bx hy.first k a).1) a;have h2:=da (A:=A) (g:=fun a=>hiC (aB y.first k a)) (c:=1000000) (by omega) (fun a=>(bx hy.first k a).2.1) a;have h3:=da (A:=A) (g:=fun a=>loC (aB y.last k a)) (c:=1000000) (by omega) (fun a=>(bx hy.last k a).1) a;have h4:=da (A:=A) (g:=fun a=>hiC (aB y.last k a)) (c:=1000000) (by omega) (fun a=>(bx hy.last k a).2.1) a;obtain ⟨j1,j2⟩:=Jm h wrong k i;have h5:=xV (A:=A) _ j1;unfold jW fU;have ha':(a:Int) * 1000000 ≤ 4000000:=by omega
 omega
def cX (y:ab) (wrong:List Nat) (k:Int) (a i:Nat):List aI:=bR y k y.places.length a ++ (lW y wrong k i).map (cZ y.places.length)
theorem AX (y:ab) (wrong:List Nat) (k:Int) (a:Nat):cX y wrong k (a + 1) 0 = cX y wrong k a 0 ++ [⟨y.places.length + 1,a,loC (aB y.first k a),hiC (aB y.first k a)⟩,⟨a,y.places.length + 1,loC (aB y.last k a),dh y k a⟩]:=by simp [cX,bR,kJ]
theorem Am {y:ab} (wrong:List Nat) (k:Int) {i:Nat} (h:i < y.papers.length) (a:Nat):cX y wrong k a (i + 1) = cX y wrong k a i ++ if y.papers[i].kind = k ∧ br y.papers[i] i = true then [cZ y.places.length (xY y wrong y.papers[i] i)] else []:=by
 unfold cX;rw [vT wrong k h]
 split <;> simp
theorem rB (y:ab) (wrong:List Nat) (k:Int) {i:Nat} (h:y.papers.length ≤ i) (lo hi:Int):cX y wrong k y.places.length i ++ [⟨y.places.length,y.places.length + 1,lo,hi⟩] = aW y k y.places.length (ba y wrong k) lo hi:=by
 unfold cX aW; rw [y0 y wrong k h]
theorem EA (al:aj → Nat → Int × Int) (k:Int):∀ (l:List aj) (i a:Nat),i ≤ a → a ≤ i + l.length → fN k l i a = (ee al k (l.take (a - i)) i).length
 | [],i,a,h,h2=>by simp [fN,ee]
 | p :: r,i,a,h,h2=>by
  rcases Nat.eq_or_lt_of_le h with e | e
  ·subst e; simp [fN,ee]
  ·have ih:=EA al k r (i + 1) a (by omega) (by simp at h2; omega);rw [show a - i = (a - (i + 1)) + 1 by omega,List.take_succ_cons];simp only [fN,ee,ih];rw [if_neg (by omega)]
   split <;> simp <;> omega
theorem Ed (y:ab) (wrong:List Nat) (k:Int) {i:Nat} (h:i ≤ y.papers.length):(cX y wrong k y.places.length i).length = 2 * y.places.length + fN k y.papers 0 i:=by
 unfold cX lW;rw [List.length_append,List.length_map,cM,EA (aZ y wrong) k y.papers 0 i (by omega) (by omega),Nat.sub_zero]
/-! ### searches -/
theorem wR {α:Type} (p:Nat → Option α):∀ n i,(∀ j,j < i → p j = none) → i < n → ∀ a,p i = some a → (List.range n).findSome? p = some a:=by
 intro n i h hi a ha;have e:List.range n = List.range i ++ (List.range (n - i)).map (i + ·):=by rw [← List.range_add]; congr 1; omega
 rw [e,List.findSome?_append,List.findSome?_eq_none_iff.2 fun j hj=>h j (List.mem_range.1 hj)];obtain ⟨m,hm⟩:∃ m,n - i = m + 1:=⟨n - i - 1,by omega⟩;rw [hm,List.range_succ_eq_map];simp [ha]
theorem Fx {α:Type} (p:Nat → Option α) (n:Nat) (h:∀ j,j < n → p j = none):(List.range n).findSome? p = none:=List.findSome?_eq_none_iff.2 fun j hj=>h j (List.mem_range.1 hj)
theorem H7 {y:ab} {wrong:List Nat} {i:Nat} (h:∀ j,j < i → cD y wrong j = false) (hi:i < y.papers.length) (hd:cD y wrong i = true):nF y wrong = some i:=by
 unfold nF;rw [List.find?_range_eq_some];exact ⟨hd,List.mem_range.2 hi,fun j hj=>by rw [h j hj]; rfl⟩
theorem Gr {y:ab} {wrong:List Nat} (h:∀ j,j < y.papers.length → cD y wrong j = false):nF y wrong = none:=by
 unfold nF;rw [List.find?_eq_none];intro j hj;rw [h j (List.mem_range.1 hj)]; decide
end Go.AM
