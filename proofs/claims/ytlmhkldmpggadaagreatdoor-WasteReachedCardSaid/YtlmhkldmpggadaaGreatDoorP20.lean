/- The text of a yard of waste is read az it was; both readings are the same. Plain. The examples of chapter 09. Plain. The examples of chapter 09 are in order; the text of Z. Plain. Loops over a .. -/
import Derived.Test.YtlmhkldmpggadaaGreatDoorP19
import Derived.Test.YtlmhkldmpggadaaGreatDoorP17
import Derived.Test.YtlmhkldmpggadaaGreatDoorP18
namespace Go.AM
structure CD (step:List WdW → ab → Option ab) (y:ab):Prop where
 kinds:∀ z:ab,step (eD :: y.kinds.map eP) z = some { z with kinds:=y.kinds }
 places:∀ z:ab,step (dC :: y.places.map eP) z = some { z with places:=y.places }
 first:∀ z:ab,z.kinds = y.kinds → z.places = y.places → ∀ c ∈ y.first,step (bE dD y c) z = some { z with first:=z.first ++ [c] }
 papers:∀ z:ab,z.kinds = y.kinds → z.places = y.places → ∀ p ∈ y.papers,step (cV y p) z = some { z with papers:=z.papers ++ [p] }
 last:∀ z:ab,z.kinds = y.kinds → z.places = y.places → ∀ c ∈ y.last,step (bE eJ y c) z = some { z with last:=z.last ++ [c] }
theorem om {step:List WdW → ab → Option ab} {α:Type} {row:α → List WdW} {upd:ab → α → ab} {y:ab} (hk:∀ z a,(upd z a).kinds = z.kinds ∧ (upd z a).places = z.places):∀ (l:List α) (z:ab),z.kinds = y.kinds → z.places = y.places →
  (∀ z:ab,z.kinds = y.kinds → z.places = y.places → ∀ a ∈ l,step (row a) z = some (upd z a)) → (l.map row).foldlM (fun y r=>step r y) z = some (l.foldl upd z)
 | [],z,_,_,_=>rfl
 | a :: l,z,h1,h2,h=>by
  rw [List.map_cons,List.foldlM_cons,h z h1 h2 a (by simp)];have:=hk z a;exact om hk l (upd z a) (by rw [this.1,h1]) (by rw [this.2,h2]) fun z e1 e2 b hb=>h z e1 e2 b (by simp [hb])
theorem Cd (l:List ay):∀ z:ab,l.foldl (fun z c=>{ z with first:=z.first ++ [c] }) z = { z with first:=z.first ++ l }:=by
 induction l with
 | nil=>intro z; simp
 | cons c l ih=>intro z; rw [List.foldl_cons,ih]; simp
theorem zx (l:List aj):∀ z:ab,l.foldl (fun z c=>{ z with papers:=z.papers ++ [c] }) z = { z with papers:=z.papers ++ l }:=by
 induction l with
 | nil=>intro z; simp
 | cons c l ih=>intro z; rw [List.foldl_cons,ih]; simp
theorem DJ (l:List ay):∀ z:ab,l.foldl (fun z c=>{ z with last:=z.last ++ [c] }) z = { z with last:=z.last ++ l }:=by
 induction l with
 | nil=>intro z; simp
 | cons c l ih=>intro z; rw [List.foldl_cons,ih]; simp
theorem Eg {step:List WdW → ab → Option ab} {y:ab} (h:CD step y):(qD y).foldlM (fun y r=>step r y) j5 = some y:=by
 have f1:=om (step:=step) (row:=bE dD y) (y:=y) (upd:=fun z c=>{ z with first:=z.first ++ [c] }) (fun _ _=>⟨rfl,rfl⟩) y.first { j5 with kinds:=y.kinds,places:=y.places } rfl rfl h.first
 rw [Cd] at f1;have f2:=om (step:=step) (row:=cV y) (y:=y) (upd:=fun z c=>{ z with papers:=z.papers ++ [c] }) (fun _ _=>⟨rfl,rfl⟩) y.papers { j5 with kinds:=y.kinds,places:=y.places,first:=y.first } rfl rfl h.papers;rw [zx] at f2;have f3:=om (step:=step) (row:=bE eJ y) (y:=y) (upd:=fun z c=>{ z with last:=z.last ++ [c] }) (fun _ _=>⟨rfl,rfl⟩) y.last { j5 with kinds:=y.kinds,places:=y.places,first:=y.first,papers:=y.papers } rfl rfl h.last;rw [DJ] at f3;simp only [j5,List.nil_append] at f1 f2 f3;unfold qD;rw [List.foldlM_cons,h.kinds];simp only [Option.bind_eq_bind,Option.bind_some];rw [List.foldlM_cons,h.places];simp only [Option.bind_eq_bind,Option.bind_some,j5];rw [List.foldlM_append,List.foldlM_append,f1];simp only [Option.bind_eq_bind,Option.bind_some];rw [f2];simp only [Option.bind_some];rw [f3]
section
variable {nm:ByteArray → Bool} (hw:kR nm) {y:ab} (h:bV nm y)
include hw h
theorem xa {z:ab} (e1:z.kinds = y.kinds) (e2:z.places = y.places) {c:ay} (hc:zl y c) (w:WdW):gY z (bE w y c) = some c ∧ Mr z (bE w y c) = c:=by
 have k1:=qe hw h.kinds hc.kind false;have k2:=qe hw h.places hc.place false;have h3:=hc.lo;have h4:=hc.hi;unfold Big at h3 h4;have k3:=qy h3.1 h3.2 false;have k4:=qy h4.1 h4.2 false;unfold bE gY Mr;dsimp only;rw [e1,e2,k1.1,k2.1,k3.1,k4.1,k1.2,k2.2,k3.2,k4.2];exact ⟨rfl,rfl⟩
theorem DM {z:ab} (e1:z.kinds = y.kinds) (e2:z.places = y.places) {i:Nat} {p:aj} (hp:FB y i p):qb z (cV y p) = some p ∧ Mn z (cV y p) = p:=by
 have k1:=qe hw h.kinds hp.kind false;have k2:=wW hw h.places rfl hp.src;have k3:=wW hw h.places rfl hp.dst;have h4:=hp.kilos;unfold Big at h4;have k4:=qy h4.1 h4.2 false;have hm:=h.m10;have k5:kJ (if 0 ≤ p.copy then Lib.itoa p.copy else b9) true = some p.copy ∧ (if (if 0 ≤ p.copy then Lib.itoa p.copy else b9) = b9 then -1 else Bi (if 0 ≤ p.copy then Lib.itoa p.copy else b9)) = p.copy:=by
  rcases hp.copy with hc | ⟨c1,c2,_⟩
  ·rw [if_neg (by omega),hc];unfold kJ;simp
  ·rw [if_pos c1,if_neg (vT c1)];exact qy c1 (by omega) true
 unfold cV qb Mn;dsimp only;rw [e1,e2,k1.1,k2.1,k3.1,k4.1,k5.1,k1.2,k2.2,k3.2,k4.2,k5.2];exact ⟨rfl,rfl⟩
theorem HC:CD eN y:=by
 refine ⟨fun z=>?_,fun z=>?_,fun z e1 e2 c hc=>?_,fun z e1 e2 p hp=>?_,fun z e1 e2 c hc=>?_⟩
 ·unfold eN;rw [if_pos (by simp),List.tail_cons,tX]
 ·unfold eN;rw [if_neg (by simp [eD,dC]),if_pos (by simp),List.tail_cons,tX]
 ·have:=(xa hw h e1 e2 (h.first.1 c hc) dD).1;unfold eN;rw [if_neg (by simp [bE,dD,eD]),if_neg (by simp [bE,dD,dC]),if_pos (by simp [bE]),this]; rfl
 ·obtain ⟨i,hi,rfl⟩:=List.getElem_of_mem hp;have:=(DM hw h e1 e2 (h.papers i hi)).1;unfold eN;rw [if_neg (by simp [cV,ij,eD]),if_neg (by simp [cV,ij,dC]),if_neg (by simp [cV,ij,dD]),if_pos (by simp [cV]),this]; rfl
 ·have:=(xa hw h e1 e2 (h.last.1 c hc) eJ).1;unfold eN;rw [if_neg (by simp [bE,eJ,eD]),if_neg (by simp [bE,eJ,dC]),if_neg (by simp [bE,eJ,dD]),if_neg (by simp [bE,eJ,ij]),if_pos (by simp [bE]),this]; rfl
theorem lL {l:List ByteArray} (hl:∀ s ∈ l,nm s = true) {i:Int} (hi:0 ≤ i ∧ i < l.length) {b:UInt8} (hb:b.toNat < 48):b ∉ nameAt l i:=by
 have _h:=h;obtain ⟨hi',e⟩:=pK hi;rw [e]; exact hw.no (hl _ (List.getElem_mem hi')) hb
theorem zg {b:UInt8} (hb:b = 10 ∨ b = 32):∀ r ∈ qD y,r ≠ [] ∧ ∀ w ∈ r,b ∉ w:=by
 have hb48:b.toNat < 48:=by rcases hb with rfl | rfl <;> decide
 have hwd:b ∉ eD ∧ b ∉ dC ∧ b ∉ dD ∧ b ∉ ij ∧ b ∉ eJ ∧ b ∉ b9:=by rcases hb with rfl | rfl <;> decide
 have hcnt:∀ (w:WdW),b ∉ w → ∀ c,zl y c → ∀ x ∈ bE w y c,b ∉ x:=by
  intro w hbw c hc x hx;have h3:=hc.lo;have h4:=hc.hi;unfold Big at h3 h4;simp only [bE,List.mem_cons,List.not_mem_nil,or_false] at hx;rcases hx with rfl | rfl | rfl | rfl | rfl
  ·exact hbw
  ·exact lL hw h h.kinds.1 hc.kind hb48
  ·exact lL hw h h.places.1 hc.place hb48
  ·exact rE h3.1 hb48
  ·exact rE h4.1 hb48
 intro r hr;simp only [qD,List.mem_cons,List.mem_append,List.mem_map] at hr;rcases hr with rfl | rfl | (⟨c,hc,rfl⟩ | ⟨p,hp,rfl⟩) | ⟨c,hc,rfl⟩
 ·refine ⟨by simp,fun w hww=>?_⟩;rcases List.mem_cons.1 hww with rfl | hww
  ·exact hwd.1
  ·obtain ⟨s,hs,rfl⟩:=List.mem_map.1 hww;exact hw.no (h.kinds.1 s hs) hb48
 ·refine ⟨by simp,fun w hww=>?_⟩;rcases List.mem_cons.1 hww with rfl | hww
  ·exact hwd.2.1
  ·obtain ⟨s,hs,rfl⟩:=List.mem_map.1 hww;exact hw.no (h.places.1 s hs) hb48
 ·exact ⟨by simp [bE],hcnt _ hwd.2.2.1 c (h.first.1 c hc)⟩
 ·obtain ⟨i,hi,rfl⟩:=List.getElem_of_mem hp;have hv:=h.papers i hi;have h4:=hv.kilos;unfold Big at h4;have hpl:∀ a:Int, -1 ≤ a ∧ a < y.places.length → b ∉ gv y a:=fun a ha=>by
   unfold gv;split
   ·exact hwd.2.2.2.2.2
   ·exact lL hw h h.places.1 (by omega) hb48
  refine ⟨by simp [cV],fun x hx=>?_⟩;simp only [cV,List.mem_cons,List.not_mem_nil,or_false] at hx;rcases hx with rfl | rfl | rfl | rfl | rfl | rfl
  ·exact hwd.2.2.2.1
  ·exact lL hw h h.kinds.1 hv.kind hb48
  ·exact hpl _ hv.src
  ·exact hpl _ hv.dst
  ·exact rE h4.1 hb48
  ·split
   ·rename_i hc; exact rE hc hb48
   ·exact hwd.2.2.2.2.2
 ·exact ⟨by simp [bE],hcnt _ hwd.2.2.2.2.1 c (h.last.1 c hc)⟩
theorem Hp {step:List WdW → ab → Option ab} {last:WdW → Bool} (hl:last [] = true) (ht:CD step y):vX nm step last (gk y) = some y:=by
 unfold vX gk;rw [w9 (qD y) fun r hr=>Bt (zg hw h (.inl rfl) r hr).2 (by decide)];rw [xh hl (qD y) j5 fun r hr=>pC 32 (zg hw h (.inr rfl) r hr).1 (zg hw h (.inr rfl) r hr).2];rw [Eg ht];dsimp only;rw [decide_eq_true ((iv nm y).2 h)];simp
end
theorem Ge {nm:ByteArray → Bool} {step:List WdW → ab → Option ab} {last:WdW → Bool} {s:WdW} {y:ab} (h:vX nm step last s = some y):bV nm y ∧ gk y = s:=by
 unfold vX at h
 split at h
 ·cases h
 ·split at h
  ·rename_i hc;cases h;simp only [Bool.and_eq_true,decide_eq_true_eq] at hc;exact ⟨(iv nm _).1 hc.1,hc.2⟩
  ·cases h
theorem Cq {nm:ByteArray → Bool} (hw:kR nm) (s:WdW) (y:ab):vL nm s = some y ↔ bV nm y ∧ gk y = s:=
 ⟨Ge,fun ⟨h,e⟩=>by rw [← e]; exact Hp hw h (by simp) (HC hw h)⟩
def CK:ByteArray:=⟨#[111,105,108]⟩
def pD:ByteArray:=⟨#[112,97,105,110,116]⟩
def vC:ByteArray:=⟨#[121,97,114,100]⟩
def BC:ByteArray:=⟨#[112,105,116]⟩
def exY:ab:=⟨[CK,pD],[vC,BC],[⟨0,0,1000,1000⟩],[⟨0,0,1,600,1⟩,⟨0,0,1,500,0⟩,⟨0,0, -1,300, -1⟩],[⟨0,0,100,100⟩,⟨0,1,600,600⟩]⟩
def exZ:ab:=⟨[CK,pD],[vC,BC],[⟨0,0,1000,1000⟩],[⟨0,0,1,600,1⟩,⟨0,0,1,500,0⟩,⟨0,0, -1,300, -1⟩],[⟨0,0,100,200⟩]⟩
def sc (y:ab) (k:Int) (js:List cz):Bool:=(List.range (2 ^ y.places.length)).all fun P=>decide (P = 0) || (decide (dM (bC P) y.places.length y k js = 0) && decide (bM (bC P) y.places.length y k js = 0))
theorem BL (y:ab) (k:Int) (js:List cz):sc y k js = true ↔ sx y k js:=by
 unfold sc sx;rw [List.all_eq_true];constructor
 ·intro h P h1 h2;have:=h P (List.mem_range.2 h2);simp only [Bool.or_eq_true,Bool.and_eq_true,decide_eq_true_eq] at this;rcases this with e | e
  ·omega
  ·exact e
 ·intro h P hP;simp only [Bool.or_eq_true,Bool.and_eq_true,decide_eq_true_eq];rcases Nat.eq_zero_or_pos P with e | e
  ·exact .inl e
  ·exact .inr (h P e (List.mem_range.1 hP))
def xo (y:ab) (k:Int) (js:List cz) (lo hi:Int):Bool:=(List.range (2 ^ y.places.length)).all fun P=>
 decide (dM (bC P) y.places.length y k js = 0) && decide (bM (bC P) y.places.length y k js = 0) && (!cL (bC P) y k y.places.length || decide (nK (bC P) y.places.length y k js ≤ iV (bC P) y.places.length y k + hi)) && decide (gM (bC P) y.places.length y k + lo ≤ su (bC P) y.places.length y k js)
theorem D6 (y:ab) (k:Int) (js:List cz) (lo hi:Int):xo y k js lo hi = true ↔ wV y k js lo hi:=by
 unfold xo wV okO;rw [List.all_eq_true];constructor
 ·intro h P hP;have:=h P (List.mem_range.2 hP);simp only [Bool.or_eq_true,Bool.and_eq_true,decide_eq_true_eq,Bool.not_eq_true'] at this;obtain ⟨⟨⟨h1,h2⟩,h3⟩,h4⟩:=this;exact ⟨⟨h1,h2⟩,fun hw=>h3.elim (fun e=>by rw [hw] at e; cases e) id,h4⟩
 ·intro h P hP;obtain ⟨⟨h1,h2⟩,h3,h4⟩:=h P (List.mem_range.1 hP);simp only [Bool.or_eq_true,Bool.and_eq_true,decide_eq_true_eq,Bool.not_eq_true'];refine ⟨⟨⟨h1,h2⟩, ?_⟩,h4⟩
  cases hw:cL (bC P) y k y.places.length with
  | false=>exact .inl rfl
  | true=>exact .inr (h3 hw)
theorem Gk:sc exZ 0 (fB exZ [0,1] 0 0 500) = true ∧ sc exZ 0 (fB exZ [0,1] 0 0 499) = false ∧ sc exZ 0 (fB exZ [0,1] 0 600 1000000) = true ∧ sc exZ 0 (fB exZ [0,1] 0 601 1000000) = false:=by decide +kernel
theorem H7:xo exY 0 (bh exY [1] 0) (-10000000) 300 = true ∧ xo exY 0 (bh exY [1] 0) (-10000000) 299 = false ∧ xo exY 0 (bh exY [1] 0) 300 10000000 = true ∧ xo exY 0 (bh exY [1] 0) 301 10000000 = false:=by decide +kernel
theorem Fv {nm:ByteArray → Bool} (h:bV nm exZ) {lo hi:Int} (hr:lD exZ [0,1] 0 lo hi):lo = 500 ∧ hi = 600:=by
 have hs:aY exZ [0,1] (exZ.papers.getD (aV exZ 0) ⟨0,0,0,0,0⟩) (aV exZ 0) = (0,1000000):=by decide +kernel
 have hi0:0 < exZ.papers.length:=by decide
 have k0:aB exZ 0 = 0:=by decide +kernel
 have b:=zT h hi0 hr hs;dsimp only at b;have s1:=xb h hi0 hr hs (m:=500) (by decide) (by decide);have s2:=xb h hi0 hr hs (m:=499) (by decide) (by decide);have s3:=vY h hi0 hr hs (m:=600) (by decide) (by decide);have s4:=vY h hi0 hr hs (m:=601) (by decide) (by decide);rw [k0, ← BL] at s1 s2 s3 s4;obtain ⟨e1,e2,e3,e4⟩:=Gk;have t1:=s1.1 e1;have t3:=s3.1 e3;have t2:¬ lo ≤ 499:=fun e=>by have:=s2.2 e; rw [e2] at this; cases this
 have t4:¬ 601 ≤ hi:=fun e=>by have:=s4.2 e; rw [e4] at this; cases this
 omega
theorem It {nm:ByteArray → Bool} (h:bV nm exY) {lo hi:Int} (hr:lE exY [1] 0 lo hi):lo = 300 ∧ hi = 300:=by
 have s1:=A3 h hr (m:=300) (by decide) (by decide);have s2:=A3 h hr (m:=299) (by decide) (by decide);have s3:=wU h hr (m:=300) (by decide) (by decide);have s4:=wU h hr (m:=301) (by decide) (by decide);rw [← D6] at s1 s2 s3 s4;obtain ⟨e1,e2,e3,e4⟩:=H7;have t1:=s1.1 e1;have t3:=s3.1 e3;have t2:¬ lo ≤ 299:=fun e=>by have:=s2.2 e; rw [e2] at this; cases this
 have t4:¬ 301 ≤ hi:=fun e=>by have:=s4.2 e; rw [e4] at this; cases this
 omega
structure Ag (nm:ByteArray → Bool):Prop where
 oil:nm CK = true
 paint:nm pD = true
 yard:nm vC = true
 pit:nm BC = true
theorem Ag.kinds {nm:ByteArray → Bool} (h:Ag nm):(∀ s ∈ [CK,pD],nm s = true) ∧ [CK,pD].Nodup:=by
 refine ⟨fun s hs=>?_,by decide⟩;rcases List.mem_cons.1 hs with e | e
 ·rw [e]; exact h.oil
 ·rw [List.mem_singleton.1 e]; exact h.paint
theorem Ag.places {nm:ByteArray → Bool} (h:Ag nm):(∀ s ∈ [vC,BC],nm s = true) ∧ [vC,BC].Nodup:=by
 refine ⟨fun s hs=>?_,by decide⟩;rcases List.mem_cons.1 hs with e | e
 ·rw [e]; exact h.yard
 ·rw [List.mem_singleton.1 e]; exact h.pit
theorem Kh {nm:ByteArray → Bool} (h:Ag nm):bV nm exY:=
 ⟨by decide,by decide,by decide,by decide,by decide,h.kinds,h.places,(ga exY exY.first).1 (by decide +kernel),(n0 exY).1 (by decide +kernel),(ga exY exY.last).1 (by decide +kernel)⟩
theorem CO {nm:ByteArray → Bool} (h:Ag nm):bV nm exZ:=
 ⟨by decide,by decide,by decide,by decide,by decide,h.kinds,h.places,(ga exZ exZ.first).1 (by decide +kernel),(n0 exZ).1 (by decide +kernel),(ga exZ exZ.last).1 (by decide +kernel)⟩
def nW:List UInt8:=[107,105,110,100,115,32,111,105,108,32,112,97,105,110,116,10,112,108,97,99,101,115,32,121,97,114,100,32,112,105,116,10,102,105,114,115,116,32,111,105,108,32,121,97,114,100,32,49,48,48,48,32,49,48,48,48,10,112,97,112,101,114,32,111,105,108,32,121,97,114,100,32,112,105,116,32,54,48,48,32,49,10,112,97,112,101,114,32,111,105,108,32,121,97,114,100,32,112,105,116,32,53,48,48,32,48,10,112,97,112,101,114,32,111,105,108,32,121,97,114,100,32,45,32,51,48,48,32,45,10,108,97,115,116,32,111,105,108,32,121,97,114,100,32,49,48,48,32,50,48,48,10]
theorem A8:gk exZ = nW:=by decide +kernel
theorem Fo {nm:ByteArray → Bool} (hw:kR nm) (h:Ag nm):vL nm nW = some exZ:=(Cq hw nW exZ).2 ⟨CO h,A8⟩
theorem kV (A:Nat → Bool) (i:Nat) (g:Nat → Int):dK A (i + 1) g = dK A i g + if A i then g i else 0:=rfl
theorem rI (g:cz → Int):∀ l r,cC g (l ++ r) = cC g l + cC g r
 | [],r=>by simp [cC]
 | j :: l,r=>by simp only [List.cons_append,cC,rI g l r]; omega
theorem y5 (al:aj → Nat → Int × Int) (k:Int):∀ (l r:List aj) (i:Nat),dy al k (l ++ r) i = dy al k l i ++ dy al k r (i + l.length)
 | [],r,i=>by simp [dy]
 | p :: l,r,i=>by
  simp only [List.cons_append,dy,y5 al k l r (i + 1),List.length_cons];rw [show i + 1 + l.length = i + (l.length + 1) by omega]
  split <;> rfl
def lA (y:ab) (wrong:List Nat) (k:Int) (i:Nat):List cz:=dy (aY y wrong) k (y.papers.take i) 0
def u7 (y:ab) (wrong:List Nat) (p:aj) (i:Nat):cz:=⟨p.src,p.dst,(aY y wrong p i).1,(aY y wrong p i).2⟩
theorem jS (y:ab) (wrong:List Nat) (k:Int):lA y wrong k 0 = []:=rfl
theorem xj (y:ab) (wrong:List Nat) (k:Int) {i:Nat} (h:y.papers.length ≤ i):lA y wrong k i = bh y wrong k:=by unfold lA bh; rw [List.take_of_length_le h]
theorem uB {y:ab} (wrong:List Nat) (k:Int) {i:Nat} (h:i < y.papers.length) :
  lA y wrong k (i + 1) = lA y wrong k i ++ if y.papers[i].kind = k ∧ ba y.papers[i] i = true then [u7 y wrong y.papers[i] i] else []:=by
 unfold lA;rw [List.take_succ_eq_append_getElem h,y5];congr 1;simp only [dy,List.length_take,Nat.zero_add,Nat.min_eq_left (Nat.le_of_lt h)];rfl
theorem FX {nm:ByteArray → Bool} {y:ab} (h:bV nm y) (wrong:List Nat) (k:Int) (i:Nat):(∀ x ∈ lA y wrong k i,fp y.places.length x) ∧ (lA y wrong k i).length ≤ 10:=by
 have:=Cw (n:=y.places.length) (al:=aY y wrong) (k:=k) (y.papers.take i) 0 fun j hj=>by
  have hj':j < y.papers.length:=by rw [List.length_take] at hj; omega
  have hp:=h.papers j hj';rw [Nat.zero_add,List.getElem_take];exact ⟨hp.src,hp.dst,hp.ne,qZ h wrong hp.kilos j⟩
 refine ⟨this.1, ?_⟩;have h2:=this.2;have:=h.m10;rw [List.length_take] at h2;unfold lA; omega
def iR (A:Nat → Bool) (y:ab) (wrong:List Nat) (k:Int) (a i:Nat):Int:=dK A a (fun p=>loC (aD y.first k p)) - dK A a (fun p=>hiC (aD y.last k p)) + cC (jLo A) (lA y wrong k i)
def fh (A:Nat → Bool) (y:ab) (wrong:List Nat) (k:Int) (a i:Nat):Int:=dK A a (fun p=>hiC (aD y.first k p)) - dK A a (fun p=>loC (aD y.last k p)) + cC (jHi A) (lA y wrong k i)
theorem s6 (A:Nat → Bool) (y:ab) (wrong:List Nat) (k:Int) (a:Nat) :
  iR A y wrong k (a + 1) 0 = iR A y wrong k a 0 + (if A a then loC (aD y.first k a) - hiC (aD y.last k a) else 0) ∧
  fh A y wrong k (a + 1) 0 = fh A y wrong k a 0 + (if A a then hiC (aD y.first k a) - loC (aD y.last k a) else 0):=by
 unfold iR fh;simp only [kV,jS,cC];cases A a <;> simp <;> omega
theorem tq (A:Nat → Bool) {y:ab} (wrong:List Nat) (k:Int) (a:Nat) {i:Nat} (h:i < y.papers.length) :
  iR A y wrong k a (i + 1) = iR A y wrong k a i + (if y.papers[i].kind = k ∧ ba y.papers[i] i = true then jLo A (u7 y wrong y.papers[i] i) else 0) ∧
  fh A y wrong k a (i + 1) = fh A y wrong k a i + (if y.papers[i].kind = k ∧ ba y.papers[i] i = true then jHi A (u7 y wrong y.papers[i] i) else 0):=by
 unfold iR fh;rw [uB wrong k h,rI,rI]
 split <;> simp [cC] <;> omega
theorem Ir (A:Nat → Bool) (y:ab) (wrong:List Nat) (k:Int) {i:Nat} (h:y.papers.length ≤ i) :
  dM A y.places.length y k (bh y wrong k) = (if cL A y k y.places.length then max 0 (iR A y wrong k y.places.length i) else 0) ∧
  bM A y.places.length y k (bh y wrong k) = min 0 (fh A y wrong k y.places.length i):=by
 unfold dM bM iR fh jQ jI gM iV;rw [xj y wrong k h];constructor
 ·split
  ·congr 1; omega
  ·rfl
 ·congr 1; omega
theorem DC {nm:ByteArray → Bool} {y:ab} (h:bV nm y) (A:Nat → Bool) (wrong:List Nat) (k:Int) {a:Nat} (ha:a ≤ 4) (i:Nat) :
  (-14000000 ≤ iR A y wrong k a i ∧ iR A y wrong k a i ≤ 14000000) ∧ -14000000 ≤ fh A y wrong k a i ∧ fh A y wrong k a i ≤ 14000000:=by
 have hy:=h.ok;have h1:=di (A:=A) (g:=fun a=>loC (aD y.first k a)) (c:=1000000) (by omega) (fun a=>(bF hy.first k a).1) a;have h2:=di (A:=A) (g:=fun a=>hiC (aD y.first k a)) (c:=1000000) (by omega) (fun a=>(bF hy.first k a).2.1) a;have h3:=di (A:=A) (g:=fun a=>loC (aD y.last k a)) (c:=1000000) (by omega) (fun a=>(bF hy.last k a).1) a;have h4:=di (A:=A) (g:=fun a=>hiC (aD y.last k a)) (c:=1000000) (by omega) (fun a=>(bF hy.last k a).2.1) a;obtain ⟨j1,j2⟩:=FX h wrong k i;have h5:=vG (A:=A) _ j1;unfold iR fh;have ha':(a:Int) * 1000000 ≤ 4000000:=by omega
 omega
def cM (y:ab) (wrong:List Nat) (k:Int) (a i:Nat):List aF:=bS y k y.places.length a ++ (lA y wrong k i).map (cq y.places.length)
theorem yD (y:ab) (wrong:List Nat) (k:Int) (a:Nat):cM y wrong k (a + 1) 0 = cM y wrong k a 0 ++ [⟨y.places.length + 1,a,loC (aD y.first k a),hiC (aD y.first k a)⟩,⟨a,y.places.length + 1,loC (aD y.last k a),dj y k a⟩]:=by simp [cM,bS,jS]
theorem y7 {y:ab} (wrong:List Nat) (k:Int) {i:Nat} (h:i < y.papers.length) (a:Nat):cM y wrong k a (i + 1) = cM y wrong k a i ++ if y.papers[i].kind = k ∧ ba y.papers[i] i = true then [cq y.places.length (u7 y wrong y.papers[i] i)] else []:=by
 unfold cM;rw [uB wrong k h]
 split <;> simp
theorem pU (y:ab) (wrong:List Nat) (k:Int) {i:Nat} (h:y.papers.length ≤ i) (lo hi:Int):cM y wrong k y.places.length i ++ [⟨y.places.length,y.places.length + 1,lo,hi⟩] = aU y k y.places.length (bh y wrong k) lo hi:=by
 unfold cM aU; rw [xj y wrong k h]
theorem CY (al:aj → Nat → Int × Int) (k:Int):∀ (l:List aj) (i a:Nat),i ≤ a → a ≤ i + l.length → dW k l i a = (dy al k (l.take (a - i)) i).length
 | [],i,a,h,h2=>by simp [dW,dy]
 | p :: r,i,a,h,h2=>by
  rcases Nat.eq_or_lt_of_le h with e | e
  ·subst e; simp [dW,dy]
  ·have ih:=CY al k r (i + 1) a (by omega) (by simp at h2; omega);rw [show a - i = (a - (i + 1)) + 1 by omega,List.take_succ_cons];simp only [dW,dy,ih];rw [if_neg (by omega)]
   split <;> simp <;> omega
theorem Cl (y:ab) (wrong:List Nat) (k:Int) {i:Nat} (h:i ≤ y.papers.length):(cM y wrong k y.places.length i).length = 2 * y.places.length + dW k y.papers 0 i:=by
 unfold cM lA;rw [List.length_append,List.length_map,dP,CY (aY y wrong) k y.papers 0 i (by omega) (by omega),Nat.sub_zero]
/-! ### searches -/
theorem uN {α:Type} (p:Nat → Option α):∀ n i,(∀ j,j < i → p j = none) → i < n → ∀ a,p i = some a → (List.range n).findSome? p = some a:=by
 intro n i h hi a ha;have e:List.range n = List.range i ++ (List.range (n - i)).map (i + ·):=by rw [← List.range_add]; congr 1; omega
 rw [e,List.findSome?_append,List.findSome?_eq_none_iff.2 fun j hj=>h j (List.mem_range.1 hj)];obtain ⟨m,hm⟩:∃ m,n - i = m + 1:=⟨n - i - 1,by omega⟩;rw [hm,List.range_succ_eq_map];simp [ha]
theorem Dm {α:Type} (p:Nat → Option α) (n:Nat) (h:∀ j,j < n → p j = none):(List.range n).findSome? p = none:=List.findSome?_eq_none_iff.2 fun j hj=>h j (List.mem_range.1 hj)
theorem Hc {y:ab} {wrong:List Nat} {i:Nat} (h:∀ j,j < i → bH y wrong j = false) (hi:i < y.papers.length) (hd:bH y wrong i = true):mc y wrong = some i:=by
 unfold mc;rw [List.find?_range_eq_some];exact ⟨hd,List.mem_range.2 hi,fun j hj=>by rw [h j hj]; rfl⟩
theorem EH {y:ab} {wrong:List Nat} (h:∀ j,j < y.papers.length → bH y wrong j = false):mc y wrong = none:=by
 unfold mc;rw [List.find?_eq_none];intro j hj;rw [h j (List.mem_range.1 hj)]; decide
theorem EC {m many a:Nat} (h:m < a + many + 1):cr m (many + 1) a = []:=by
 apply List.eq_nil_iff_forall_not_mem.2;intro l hl;obtain ⟨h1,h2⟩:=(fy m (many + 1) a l).1 hl
 cases l with
 | nil=>simp at h1
 | cons x r=>
  have:=qO h2;have hx:=h2.2 x (by simp);omega
theorem Be {m many a:Nat} (h:a < m):cr m (many + 1) a = ((cr m many (a + 1)).map fun l=>a :: l) ++ cr m (many + 1) (a + 1):=by
 simp only [cr];obtain ⟨d,hd⟩:∃ d,m - a = d + 1:=⟨m - a - 1,by omega⟩;rw [hd,show m - (a + 1) = d by omega,List.range'_succ,List.flatMap_cons]
theorem Ig {m many a:Nat} (h:m ≤ a):cr m (many + 1) a = []:=by simp [cr,Nat.sub_eq_zero_of_le h]
def bK (l:List Nat) (ls:List (List Nat)):List (List Nat):=ls.map fun r=>l ++ r
theorem ahead_zero (l:List Nat) (m a:Nat):bK l (cr m 0 a) = [l]:=by simp [bK,cr]
theorem vM (l:List Nat) {m many a:Nat} (h:a < m):bK l (cr m (many + 1) a) = bK (l ++ [a]) (cr m many (a + 1)) ++ bK l (cr m (many + 1) (a + 1)):=by
 rw [Be h];simp [bK,Function.comp_def]
theorem Ex (l:List Nat) {m many a:Nat} (h:m < a + many + 1):bK l (cr m (many + 1) a) = []:=by
 rw [EC h]; rfl
def qa (m:Nat):List (List Nat):=(List.range (m + 1)).flatMap fun many=>cr m many 0
theorem xC {α β:Type} (f:α → List β) (p:β → Bool):∀ l:List α,(l.flatMap f).find? p = l.findSome? fun a=>(f a).find? p
 | []=>rfl
 | a :: r=>by
  rw [List.flatMap_cons,List.find?_append,List.findSome?_cons,xC f p r];cases (f a).find? p <;> rfl
theorem Cb (y:ab):iY y = (qa y.papers.length).find? (aL y):=by
 unfold iY qa; rw [xC]
def jW (c:List Nat → Bool):List (List Nat) → List (List Nat) → List (List Nat)
 | [],sets=>sets
 | l :: r,sets=>if ∃ s,sets.head? = some s ∧ s.length < l.length then sets else jW c r (if c l then sets ++ [l] else sets)
theorem pt (c:List Nat → Bool) (n:Nat) (R:List (List Nat)):∀ (B sets:List (List Nat)),(∀ l ∈ B,l.length = n) → (∀ s ∈ sets,s.length = n) → jW c (B ++ R) sets = jW c R (sets ++ B.filter c)
 | [],sets,_,_=>by simp
 | l :: B,sets,h1,h2=>by
  have hl:=h1 l (by simp);rw [List.cons_append,jW,if_neg]
  ·have hB:∀ l ∈ B,l.length = n:=fun x hx=>h1 x (by simp [hx])
   cases hc:c l with
   | true=>
    rw [if_pos rfl,pt c n R B (sets ++ [l]) hB,List.filter_cons_of_pos (by simp [hc])]
    ·simp
    ·intro s hs;rcases List.mem_append.1 hs with h | h
     ·exact h2 s h
     ·rw [List.mem_singleton.1 h]; exact hl
   | false=>rw [if_neg (by decide),pt c n R B sets hB h2,List.filter_cons_of_neg (by simp [hc])]
  ·rintro ⟨s,hs,hlt⟩;have:=h2 s (List.mem_of_mem_head? hs);omega
theorem EO (c:List Nat → Bool) {n:Nat} {sets:List (List Nat)} (hs:∀ s ∈ sets,s.length = n) (hne:sets ≠ []):∀ R:List (List Nat),(∀ l ∈ R,n < l.length) → jW c R sets = sets
 | [],_=>rfl
 | l :: R,h=>by
  obtain ⟨s,r,rfl⟩:=List.exists_cons_of_ne_nil hne;rw [jW,if_pos ⟨s,rfl,by rw [hs s (by simp)]; exact h l (by simp)⟩]
theorem Aw (y:ab) (m:Nat) (hm:m = y.papers.length):∀ d k,k + d = m + 1 → jW (aL y) ((List.range' k d).flatMap fun many=>cr m many 0) [] = ((List.range' k d).findSome? fun many=>if atW y many = [] then none else some (atW y many)).getD []
 | 0,k,_=>rfl
 | d + 1,k,h=>by
  rw [List.range'_succ,List.flatMap_cons,List.findSome?_cons,pt (aL y) k _ _ _ (fun l hl=>((fy m k 0 l).1 hl).1) (by simp),List.nil_append];have e:(cr m k 0).filter (aL y) = atW y k:=by unfold atW; rw [hm]
  rw [e];by_cases h0:atW y k = []
  ·rw [h0,if_pos rfl]; exact Aw y m hm d (k + 1) (by omega)
  ·rw [if_neg h0];refine EO (aL y) (n:=k) (fun s hs=>?_) h0 _ fun l hl=>?_
   ·rw [← e] at hs; exact ((fy m k 0 s).1 (List.mem_filter.1 hs).1).1
   ·obtain ⟨j,hj,hl⟩:=List.mem_flatMap.1 hl;rw [List.mem_range'_1] at hj;have:=((fy m j 0 l).1 hl).1;omega
theorem CF (y:ab):jW (aL y) (qa y.papers.length) [] = (fG y).getD []:=by
 unfold qa fG;rw [List.range_eq_range',Aw y _ rfl _ 0 (by omega)]
theorem zw:∀ {a b:List Nat},a.Pairwise (· < ·) → b.Pairwise (· < ·) → (∀ x,x ∈ a ↔ x ∈ b) → a = b
 | [],[],_,_,_=>rfl
 | [],x :: b,_,_,h=>absurd ((h x).2 (by simp)) (by simp)
 | x :: a,[],_,_,h=>absurd ((h x).1 (by simp)) (by simp)
 | x :: a,z :: b,ha,hb,h=>by
  obtain ⟨a1,a2⟩:=List.pairwise_cons.1 ha;obtain ⟨b1,b2⟩:=List.pairwise_cons.1 hb;have e:x = z:=by
   rcases List.mem_cons.1 ((h x).1 (by simp)) with e | e
   ·exact e
   ·rcases List.mem_cons.1 ((h z).2 (by simp)) with e' | e'
    ·exact e'.symm
    ·have:=b1 x e; have:=a1 z e'; omega
  subst e;refine congrArg _ (zw a2 b2 fun w=>?_);constructor
  ·intro hw;rcases List.mem_cons.1 ((h w).1 (by simp [hw])) with e | e
   ·have:=a1 w hw; omega
   ·exact e
  ·intro hw;rcases List.mem_cons.1 ((h w).2 (by simp [hw])) with e | e
   ·have:=b1 w hw; omega
   ·exact e
theorem BW {y:ab} {ls:List (List Nat)} (hb:∀ l ∈ ls, ∀ i ∈ l,i < y.papers.length) {r:List Nat} (ha:r.Pairwise (· < ·)) (hr:∀ x,x ∈ r ↔ x ∈ ls.flatten):r = El y ls:=by
 refine zw ha (gV _ _).1 fun x=>?_;rw [hr,HY,List.mem_flatten];constructor
 ·rintro ⟨l,h1,h2⟩; exact ⟨hb l h1 x h2,l,h1,h2⟩
 ·rintro ⟨_,l,h1,h2⟩; exact ⟨l,h1,h2⟩
structure lJ (es:List aF) (f:Nat → Int) (k:Int) (P:Nat → Prop) (b a:Nat) (l:List Nat) (f':Nat → Int):Prop where
 inb:InB es f'
 net:∀ n,bm n es 0 f' = bm n es 0 f - (if n = a then k else 0) + (if n = b then k else 0)
 out:∀ j,f' j ≠ f j → P j ∧ ∃ h:j < es.length,es[j].src ∈ l ∧ es[j].dst ∈ l
theorem lJ.nil {es:List aF} {f:Nat → Int} (k:Int) (P:Nat → Prop) (b:Nat) (hb:InB es f):lJ es f k P b b [b] f:=
 ⟨hb,fun n=>by omega,fun j hj=>absurd rfl hj⟩
theorem lJ.cons {es:List aF} {f f':Nat → Int} {k:Int} (hk:0 ≤ k) {P:Nat → Prop} {b a c i:Nat} {l:List Nat} (hne:∀ e ∈ es,e.src ≠ e.dst) (hs:eI es f k i a c) (hp:P i) (h:lJ es f k P b c l f') (hcl:c ∈ l) (ha:a ∉ l) :
  ∃ hi:i < es.length,f' i = f i ∧ lJ es f k P b a (a :: l) (cB f' i (if es[i].src = a then k else -k)):=by
 obtain ⟨h1,h2,h3⟩:=h;obtain ⟨hi,hs⟩:=hs;have hfi:f' i = f i:=by
  by_cases e:f' i = f i
  ·exact e
  ·obtain ⟨_,_,h4,h5⟩:=h3 i e;rcases hs with ⟨e1,_,_⟩ | ⟨e1,_,_⟩
   ·rw [e1] at h4; exact absurd h4 ha
   ·rw [e1] at h5; exact absurd h5 ha
 have hni:=hne es[i] (List.getElem_mem hi);refine ⟨hi,hfi, ?_, ?_, ?_⟩
 ·intro j hj;have:=h1 j hj;unfold cB;split
  ·rename_i e; subst e;rw [hfi] at this ⊢;rcases hs with ⟨e1,e2,e3⟩ | ⟨e1,e2,e3⟩
   ·rw [if_pos e1]; omega
   ·rw [if_neg (by rw [← e1]; exact hni)]; omega
  ·exact this
 ·intro n;rcases hs with ⟨e1,e2,e3⟩ | ⟨e1,e2,e3⟩
  ·have hv:(if es[i].src = a then k else -k) = k:=if_pos e1;rw [hv,gP,h2 n,dif_pos (by omega)];simp only [Nat.sub_zero,e1,e2];rw [e1,e2] at hni;by_cases n1:n = a <;> by_cases n2:n = c
   ·omega
   ·simp [n1,Ne.symm hni]; omega
   ·simp [n2,hni,Ne.symm hni]; omega
   ·rw [if_neg (Ne.symm n2),if_neg (Ne.symm n1),if_neg n2,if_neg n1]; omega
  ·have hv:(if es[i].src = a then k else -k) = -k:=if_neg (by rw [← e1]; exact hni);rw [hv,gP,h2 n,dif_pos (by omega)];simp only [Nat.sub_zero,e1,e2];rw [e1,e2] at hni;by_cases n1:n = a <;> by_cases n2:n = c
   ·omega
   ·simp [n1,hni]; omega
   ·simp [n2,hni,Ne.symm hni]; omega
   ·rw [if_neg (Ne.symm n1),if_neg (Ne.symm n2),if_neg n2,if_neg n1]; omega
 ·intro j hj;by_cases e:j = i
  ·subst e;refine ⟨hp,hi, ?_⟩;rcases hs with ⟨e1,e2,_⟩ | ⟨e1,e2,_⟩ <;> rw [e1,e2] <;> simp [hcl]
  ·unfold cB at hj;rw [if_neg e] at hj;obtain ⟨q1,q2,q3,q4⟩:=h3 j hj;exact ⟨q1,q2,List.mem_cons_of_mem _ q3,List.mem_cons_of_mem _ q4⟩
theorem eI.mono {es:List aF} {f:Nat → Int} {k k':Int} {i a c:Nat} (h:eI es f k i a c) (hk:k' ≤ k):eI es f k' i a c:=by
 obtain ⟨hi,h⟩:=h;exact ⟨hi,h.imp (fun ⟨h1,h2,h3⟩=>⟨h1,h2,by omega⟩) (fun ⟨h1,h2,h3⟩=>⟨h1,h2,by omega⟩)⟩
theorem cP.mono {es:List aF} {f:Nat → Int} {k k':Int} {P:Nat → Prop} {b a:Nat} {l:List Nat} (h:cP es f k P b a l) (hk:k' ≤ k):cP es f k' P b a l:=by
 induction h with
 | nil=>exact .nil
 | cons h1 hp _ h3 ih=>exact .cons (h1.mono hk) hp ih h3
theorem cP.head {es:List aF} {f:Nat → Int} {k:Int} {P:Nat → Prop} {b a:Nat} {l:List Nat} (h:cP es f k P b a l):a ∈ l ∧ b ∈ l:=by
 induction h with
 | nil=>simp
 | cons _ _ _ _ ih=>exact ⟨by simp,List.mem_cons_of_mem _ ih.2⟩
inductive gH (es:List aF) (f:Nat → Int) (P:Nat → Prop) (s:Nat) (by':Nat → Int):List Nat → Prop
 | root:by' s = -1 → gH es f P s by' [s]
 | add {L:List Nat} {x p i:Nat}:gH es f P s by' L → x ∉ L → p ∈ L → eI es f 1 i p x → P i → by' x = (i:Int) + 1 → gH es f P s by' (x :: L)
theorem gH.suffix {es:List aF} {f:Nat → Int} {P:Nat → Prop} {s:Nat} {by':Nat → Int} {L:List Nat} (h:gH es f P s by' L) {x:Nat} (hx:x ∈ L):∃ L1 L2,L = L1 ++ x :: L2 ∧ gH es f P s by' (x :: L2):=by
 induction h with
 | root h0=>rw [List.mem_singleton.1 hx]; exact ⟨[],[],rfl, .root h0⟩
 | @add L y p i h1 h2 h3 h4 h5 h6 ih=>
  rcases List.mem_cons.1 hx with rfl | hx
  ·exact ⟨[],L,rfl, .add h1 h2 h3 h4 h5 h6⟩
  ·obtain ⟨L1,L2,e,h⟩:=ih hx;exact ⟨y :: L1,L2,by rw [e]; rfl,h⟩
theorem gH.start {es:List aF} {f:Nat → Int} {P:Nat → Prop} {s:Nat} {by':Nat → Int} {L:List Nat} (h:gH es f P s by' L):s ∈ L ∧ by' s = -1:=by
 induction h with
 | root h0=>exact ⟨by simp,h0⟩
 | add _ _ _ _ _ _ ih=>exact ⟨List.mem_cons_of_mem _ ih.1,ih.2⟩
theorem gH.congr {es:List aF} {f:Nat → Int} {P:Nat → Prop} {s:Nat} {by' by2:Nat → Int} {L:List Nat} (h:gH es f P s by' L) (hb:∀ x ∈ L,by2 x = by' x):gH es f P s by2 L:=by
 induction h with
 | root h0=>exact .root (by rw [hb _ (by simp),h0])
 | add h1 h2 h3 h4 h5 h6 ih=>exact .add (ih fun x hx=>hb x (List.mem_cons_of_mem _ hx)) h2 h3 h4 h5 (by rw [hb _ (by simp),h6])
theorem gH.nodup {es:List aF} {f:Nat → Int} {P:Nat → Prop} {s:Nat} {by':Nat → Int} {L:List Nat} (h:gH es f P s by' L):L.Nodup:=by
 induction h with
 | root _=>simp
 | add _ h2 _ _ _ _ ih=>exact List.nodup_cons.2 ⟨h2,ih⟩
structure Ks (es:List aF) (f:Nat → Int) (k:Int) (P:Nat → Prop) (s:Nat) (by':Nat → Int) (b x:Nat) (L l:List Nat):Prop where
 tree:gH es f P s by' (x :: L)
 line:cP es f k P b x l
 new:∀ y ∈ l,y ∉ L
theorem Ks.step {es:List aF} {f:Nat → Int} {k:Int} {P:Nat → Prop} {s:Nat} {by':Nat → Int} {b x:Nat} {L l:List Nat} (h:Ks es f k P s by' b x L l) (_hne:∀ e ∈ es,e.src ≠ e.dst) (hx:x ≠ s) :
  ∃ i p:Nat,by' x = (i:Int) + 1 ∧ P i ∧ (∃ hi:i < es.length,(es[i].src = p ∧ es[i].dst = x ∨ es[i].dst = p ∧ es[i].src = x)) ∧ p ∈ L ∧ p ∉ l ∧ p ≠ x ∧ eI es f 1 i p x ∧
   ∀ k',k' ≤ k → eI es f k' i p x → ∃ L',L'.length < L.length ∧ Ks es f k' P s by' b p L' (p :: l):=by
 obtain ⟨ht,hl,hn⟩:=h
 cases ht with
 | root=>exact absurd rfl hx
 | @add _ _ p i h1 h2 h3 h4 h5 h6=>
  obtain ⟨hi,h4'⟩:=h4;have hpl:p ∉ l:=fun hp=>hn p hp h3;refine ⟨i,p,h6,h5,⟨hi,h4'.imp (fun h=>⟨h.1,h.2.1⟩) (fun h=>⟨h.1,h.2.1⟩)⟩,h3,hpl,fun e=>h2 (e ▸ h3),⟨hi,h4'⟩,fun k' hk hs=>?_⟩;obtain ⟨L1,L2,e,h7⟩:=h1.suffix h3;have hnd:=h1.nodup;refine ⟨L2,by rw [e]; simp; omega,h7, .cons hs h5 (hl.mono hk) hpl,fun y hy hyL=>?_⟩;rcases List.mem_cons.1 hy with rfl | hy
  ·exact (List.nodup_cons.1 h7.nodup).1 hyL
  ·exact hn y hy (by rw [e]; simp [hyL])
theorem EA {es:List aF} {f:Nat → Int} {P:Nat → Prop} {L:List Nat} (hc:∀ x ∈ L, ∀ i y,P i → eI es f 1 i x y → y ∈ L) {b a:Nat} {l:List Nat} (h:cP es f 1 P b a l) (ha:a ∈ L):b ∈ L:=by
 induction h with
 | nil=>exact ha
 | cons h1 hp _ _ ih=>exact ih (hc _ ha _ _ hp h1)
structure kr (N:Nat) (es:List aF) (f:Nat → Int) (P:Nat → Prop) (a:Nat) (most:Int) (want:Nat → Int) (k:Int) (to':Nat) (f':Nat → Int):Prop where
 inb:InB es f'
 no:k = 0 → f' = f ∧ ∀ b,b < N → b ≠ a → 0 < want b → ¬ ∃ l,cP es f 1 P b a l
 yes:k ≠ 0 → (0 < k ∧ k ≤ most ∧ k ≤ want to' ∧ to' ≠ a ∧ to' < N) ∧ (∀ n,bm n es 0 f' = bm n es 0 f - (if n = a then k else 0) + (if n = to' then k else 0)) ∧ ∀ j,f' j ≠ f j → P j
theorem kr.of {N:Nat} {es:List aF} {f f':Nat → Int} {P:Nat → Prop} {a b:Nat} {most k:Int} {want:Nat → Int} {l:List Nat} (h:lJ es f k P b a l f') (hk:0 < k) (h1:k ≤ most) (h2:k ≤ want b) (h3:b ≠ a) (h4:b < N):kr N es f P a most want k b f':=
 ⟨h.inb,fun e=>by omega,fun _=>⟨⟨hk,h1,h2,h3,h4⟩,h.net,fun j hj=>(h.out j hj).1⟩⟩
variable {N:Nat} {es:List aF} (h:fm N es)
include h
theorem Gt {f f':Nat → Int} (hb:InB es f) {a:Nat} (ha:a < N) (h0:0 < bm a es 0 f) {t:Nat} {m:Int} (hp:kr N es f (fun _=>True) a m (fun n=>- bm n es 0 f) 0 t f'):¬ ∃ g,bz N es g:=by
 rintro ⟨g,hg⟩;obtain ⟨S,_,hS⟩:=xr h hb ha h0 fun ⟨b,l,⟨h1,h2⟩,h3⟩=>(hp.no rfl).2 b h1 (fun e=>by subst e; omega) (by omega) ⟨l,h3⟩;have:=(hg.cut h S).2;omega
omit h in
theorem G7 {f f':Nat → Int} {a:Nat} {t:Nat} {k m:Int} (hk:k ≠ 0) (hp:kr N es f (fun _=>True) a m (fun n=>- bm n es 0 f) k t f') (hm:m ≤ bm a es 0 f) (hl:∀ n,n < a → bm n es 0 f ≤ 0) :
  InB es f' ∧ (∀ n,n < a → bm n es 0 f' ≤ 0) ∧ 0 ≤ bm a es 0 f' ∧ bm a es 0 f' < bm a es 0 f:=by
 obtain ⟨⟨h1,h2,h3,h4,h5⟩,h6,_⟩:=hp.yes hk;refine ⟨hp.inb,fun n hn=>?_, ?_, ?_⟩
 ·have:=hl n hn;rw [h6 n,if_neg (by omega)];split
  ·rename_i e; subst e; omega
  ·omega
 ·rw [h6 a,if_pos rfl,if_neg (Ne.symm h4)]; omega
 ·rw [h6 a,if_pos rfl,if_neg (Ne.symm h4)]; omega
theorem Is {f:Nat → Int} (hb:InB es f) (hl:∀ n,n < N → bm n es 0 f ≤ 0):bz N es f:=by
 refine ⟨hb,fun a ha=>?_⟩;have h1:=Du h f;have h2:=qS (g:=fun n=>- bm n es 0 f) (N:=N) (fun n hn=>by have:=hl n hn; omega) ha;have h3:=nf (fun _=>0) (fun n=>bm n es 0 f) N;rw [fV,h1] at h3;have h4:=fQ (g:=fun n=>0 - bm n es 0 f) (h:=fun n=>- bm n es 0 f) N (fun n _=>by omega);have:=hl a ha;omega
omit h in
theorem eI.Et {f g:Nat → Int} {P:Nat → Prop} (he:∀ j,P j → g j = f j) {k:Int} {i a c:Nat} (hp:P i) (hs:eI es f k i a c):eI es g k i a c:=by
 obtain ⟨hi,hs⟩:=hs;exact ⟨hi,by rw [he i hp]; exact hs⟩
omit h in
theorem cP.Et {f g:Nat → Int} {P:Nat → Prop} (he:∀ j,P j → g j = f j) {k:Int} {b a:Nat} {l:List Nat} (hl:cP es f k P b a l):cP es g k P b a l:=by
 induction hl with
 | nil=>exact .nil
 | cons h1 hp _ h3 ih=>exact .cons (h1.Et he hp) hp ih h3
structure mQ (es:List aF) (f:Nat → Int) (i a b:Nat) (all:Int) (f':Nat → Int):Prop where
 inb:InB es f'
 net:∀ n,bm n es 0 f' = bm n es 0 f - (if n = a then all else 0) + (if n = b then all else 0)
 out:f' i = f i
omit h in
theorem mQ.start {f:Nat → Int} (hb:InB es f) (i a b:Nat):mQ es f i a b 0 f:=⟨hb,fun n=>by simp,rfl⟩
omit h in
theorem mQ.step {f f' f2:Nat → Int} {i a b:Nat} {all k most:Int} {t:Nat} (hl:mQ es f i a b all f') (hk:k ≠ 0) (hp:kr N es f' (fun j=>j ≠ i) a (most - all) (fun n=>if n = b then most else 0) k t f2) :
  t = b ∧ 0 < k ∧ all + k ≤ most ∧ mQ es f i a b (all + k) f2:=by
 obtain ⟨⟨h1,h2,h3,h4,h5⟩,h6,h7⟩:=hp.yes hk;have ht:t = b:=by
  by_cases e:t = b
  ·exact e
  ·rw [if_neg e] at h3; omega
 subst ht;refine ⟨rfl,h1,by omega,hp.inb,fun n=>?_, ?_⟩
 ·rw [h6 n,hl.net n]
  split <;> split <;> omega
 ·rw [← hl.out];exact Classical.byContradiction fun e=>h7 i e rfl
omit h in
theorem mQ.stop {f' f2:Nat → Int} {i a b:Nat} {all most:Int} {t:Nat} (hab:0 < most) (hba:b ≠ a) (hbN:b < N) (hp:kr N es f' (fun j=>j ≠ i) a (most - all) (fun n=>if n = b then most else 0) 0 t f2) :
  f2 = f' ∧ ¬ ∃ l,cP es f' 1 (fun j=>j ≠ i) b a l:=by
 obtain ⟨h1,h2⟩:=hp.no rfl;exact ⟨h1,h2 b hbN hba (by rw [if_pos rfl]; exact hab)⟩
theorem Ck {f f':Nat → Int} (hc:bz N es f) {i:Nat} (hi:i < es.length) {all:Int} (h0:0 ≤ all) (hm:all ≤ f i - es[i].low) (hl:mQ es f i es[i].src es[i].dst all f')
  (hs:all = f i - es[i].low ∨ ¬ ∃ l,cP es f' 1 (fun j=>j ≠ i) es[i].dst es[i].src l) :
  bz N es (cB f' i (-all)) ∧ cB f' i (-all) i = f i - all ∧ ∀ g,bz N es g → f i - all ≤ g i:=by
 have hv:cB f' i (-all) i = f i - all:=by unfold cB; rw [if_pos rfl,hl.out]; omega
 have hne:=h.ne es[i] (List.getElem_mem hi);have hg:bz N es (cB f' i (-all)):=by
  refine ⟨fun j hj=>?_,fun n hn=>?_⟩
  ·by_cases e:j = i
   ·subst e; rw [hv]; have:=hc.inb j hj; omega
   ·have:cB f' i (-all) j = f' j:=by unfold cB; rw [if_neg e]
    rw [this]; exact hl.inb j hj
  ·rw [gP,dif_pos (by omega),hl.net n,hc.net n hn];simp only [Nat.sub_zero];by_cases e1:n = es[i].src <;> by_cases e2:n = es[i].dst
   ·exact absurd (e1.symm.trans e2) hne
   ·rw [if_pos e1,if_neg e2,if_neg (Ne.symm e2),if_pos e1.symm]; omega
   ·rw [if_neg e1,if_pos e2,if_pos e2.symm,if_neg (Ne.symm e1)]; omega
   ·rw [if_neg e1,if_neg e2,if_neg (Ne.symm e2),if_neg (Ne.symm e1)]; omega
 refine ⟨hg,hv,fun g hg'=>?_⟩;rcases hs with e | e
 ·have:=(hg'.inb i hi).1; omega
 ·rw [← hv];refine EP h hg hg' hi fun ⟨l,hl'⟩=>e ⟨l,hl'.Et fun j hj=>?_⟩;unfold cB; rw [if_neg hj]
theorem zQ {f f':Nat → Int} (hc:bz N es f) {i:Nat} (hi:i < es.length) {all:Int} (h0:0 ≤ all) (hm:all ≤ es[i].high - f i) (hl:mQ es f i es[i].dst es[i].src all f')
  (hs:all = es[i].high - f i ∨ ¬ ∃ l,cP es f' 1 (fun j=>j ≠ i) es[i].src es[i].dst l) :
  bz N es (cB f' i all) ∧ cB f' i all i = f i + all ∧ ∀ g,bz N es g → g i ≤ f i + all:=by
 have hv:cB f' i all i = f i + all:=by unfold cB; rw [if_pos rfl,hl.out]
 have hne:=h.ne es[i] (List.getElem_mem hi);have hg:bz N es (cB f' i all):=by
  refine ⟨fun j hj=>?_,fun n hn=>?_⟩
  ·by_cases e:j = i
   ·subst e; rw [hv]; have:=hc.inb j hj; omega
   ·have:cB f' i all j = f' j:=by unfold cB; rw [if_neg e]
    rw [this]; exact hl.inb j hj
  ·rw [gP,dif_pos (by omega),hl.net n,hc.net n hn];simp only [Nat.sub_zero];by_cases e1:n = es[i].src <;> by_cases e2:n = es[i].dst
   ·exact absurd (e1.symm.trans e2) hne
   ·rw [if_pos e1,if_neg e2,if_neg (Ne.symm e2),if_pos e1.symm]; omega
   ·rw [if_neg e1,if_pos e2,if_pos e2.symm,if_neg (Ne.symm e1)]; omega
   ·rw [if_neg e1,if_neg e2,if_neg (Ne.symm e2),if_neg (Ne.symm e1)]; omega
 refine ⟨hg,hv,fun g hg'=>?_⟩;rcases hs with e | e
 ·have:=(hg'.inb i hi).2; omega
 ·rw [← hv];refine Ga h hg hg' hi fun ⟨l,hl'⟩=>e ⟨l,hl'.Et fun j hj=>?_⟩;unfold cB; rw [if_neg hj]
omit h in
theorem yA {f1 f2:Nat → Int} {i:Nat} {lo hi:Int} (h1:bz N es f1 ∧ f1 i = lo ∧ ∀ g,bz N es g → lo ≤ g i) (h2:bz N es f2 ∧ f2 i = hi ∧ ∀ g,bz N es g → g i ≤ hi):gr N es i lo hi:=
 ⟨⟨f1,h1.1,h1.2.1⟩,⟨f2,h2.1,h2.2.1⟩,fun g hg=>⟨h1.2.2 g hg,h2.2.2 g hg⟩⟩
omit h in
theorem Jd {M:Int} (hM:0 ≤ M) (n:Nat) (f:Nat → Int):∀ (es:List aF) (i:Nat),(∀ k,k < es.length → -M ≤ f (i + k) ∧ f (i + k) ≤ M) → - (2 * M * es.length) ≤ bm n es i f ∧ bm n es i f ≤ 2 * M * es.length
 | [],i,_=>by simp [bm]
 | e :: r,i,hb=>by
  have ih:=Jd hM n f r (i + 1) fun k hk=>by have:=hb (k + 1) (by simpa using hk); rw [show i + 1 + k = i + (k + 1) by omega]; exact this
  have h0:=hb 0 (by simp);rw [Nat.add_zero] at h0;simp only [bm,List.length_cons];have e1:2 * M * ((r.length + 1:Nat):Int) = 2 * M * r.length + 2 * M:=by rw [Int.natCast_add,Int.mul_add]; simp
  rw [e1]
  split <;> split <;> omega
omit h in
theorem Es {n:Nat} {j:cz} (hj:fp n j):-ar ≤ (cq n j).low ∧ (cq n j).high ≤ ar:=by
 have h1:=hj.lo;have h2:=hj.hi;unfold Big at h1 h2;unfold cq ar;dsimp only;omega
end Go.AM
