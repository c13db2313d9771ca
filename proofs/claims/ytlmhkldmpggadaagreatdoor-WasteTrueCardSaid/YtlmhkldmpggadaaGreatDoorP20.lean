/- The text of a yard of waste is read az it was; both readings are the same. Plain. The examples of chapter 09. Plain. The examples of chapter 09 are in order; the text of Z. Plain. Loops over a .. -/
import Derived.Test.YtlmhkldmpggadaaGreatDoorP19
import Derived.Test.YtlmhkldmpggadaaGreatDoorP17
import Derived.Test.YtlmhkldmpggadaaGreatDoorP18
namespace Go.AM
structure Ao (step:List WdW → ab → Option ab) (y:ab):Prop where
 kinds:∀ z:ab,step (cT :: y.kinds.map dQ) z = some { z with kinds:=y.kinds }
 places:∀ z:ab,step (b6 :: y.places.map dQ) z = some { z with places:=y.places }
 first:∀ z:ab,z.kinds = y.kinds → z.places = y.places → ∀ c ∈ y.first,step (aR cd y c) z = some { z with first:=z.first ++ [c] }
 papers:∀ z:ab,z.kinds = y.kinds → z.places = y.places → ∀ p ∈ y.papers,step (bZ y p) z = some { z with papers:=z.papers ++ [p] }
 last:∀ z:ab,z.kinds = y.kinds → z.places = y.places → ∀ c ∈ y.last,step (aR dC y c) z = some { z with last:=z.last ++ [c] }
theorem ph {step:List WdW → ab → Option ab} {α:Type} {row:α → List WdW} {upd:ab → α → ab} {y:ab} (hk:∀ z a,(upd z a).kinds = z.kinds ∧ (upd z a).places = z.places):∀ (l:List α) (z:ab),z.kinds = y.kinds → z.places = y.places →
  (∀ z:ab,z.kinds = y.kinds → z.places = y.places → ∀ a ∈ l,step (row a) z = some (upd z a)) → (l.map row).foldlM (fun y r=>step r y) z = some (l.foldl upd z)
 | [],z,_,_,_=>rfl
 | a :: l,z,h1,h2,h=>by
  rw [List.map_cons,List.foldlM_cons,h z h1 h2 a (by simp)];have:=hk z a;exact ph hk l (upd z a) (by rw [this.1,h1]) (by rw [this.2,h2]) fun z e1 e2 b hb=>h z e1 e2 b (by simp [hb])
theorem DM (l:List ay):∀ z:ab,l.foldl (fun z c=>{ z with first:=z.first ++ [c] }) z = { z with first:=z.first ++ l }:=by
 induction l with
 | nil=>intro z; simp
 | cons c l ih=>intro z; rw [List.foldl_cons,ih]; simp
theorem CA (l:List aj):∀ z:ab,l.foldl (fun z c=>{ z with papers:=z.papers ++ [c] }) z = { z with papers:=z.papers ++ l }:=by
 induction l with
 | nil=>intro z; simp
 | cons c l ih=>intro z; rw [List.foldl_cons,ih]; simp
theorem FO (l:List ay):∀ z:ab,l.foldl (fun z c=>{ z with last:=z.last ++ [c] }) z = { z with last:=z.last ++ l }:=by
 induction l with
 | nil=>intro z; simp
 | cons c l ih=>intro z; rw [List.foldl_cons,ih]; simp
theorem FM {step:List WdW → ab → Option ab} {y:ab} (h:Ao step y):(ql y).foldlM (fun y r=>step r y) eE = some y:=by
 have f1:=ph (step:=step) (row:=aR cd y) (y:=y) (upd:=fun z c=>{ z with first:=z.first ++ [c] }) (fun _ _=>⟨rfl,rfl⟩) y.first { eE with kinds:=y.kinds,places:=y.places } rfl rfl h.first
 rw [DM] at f1;have f2:=ph (step:=step) (row:=bZ y) (y:=y) (upd:=fun z c=>{ z with papers:=z.papers ++ [c] }) (fun _ _=>⟨rfl,rfl⟩) y.papers { eE with kinds:=y.kinds,places:=y.places,first:=y.first } rfl rfl h.papers;rw [CA] at f2;have f3:=ph (step:=step) (row:=aR dC y) (y:=y) (upd:=fun z c=>{ z with last:=z.last ++ [c] }) (fun _ _=>⟨rfl,rfl⟩) y.last { eE with kinds:=y.kinds,places:=y.places,first:=y.first,papers:=y.papers } rfl rfl h.last;rw [FO] at f3;simp only [eE,List.nil_append] at f1 f2 f3;unfold ql;rw [List.foldlM_cons,h.kinds];simp only [Option.bind_eq_bind,Option.bind_some];rw [List.foldlM_cons,h.places];simp only [Option.bind_eq_bind,Option.bind_some,eE];rw [List.foldlM_append,List.foldlM_append,f1];simp only [Option.bind_eq_bind,Option.bind_some];rw [f2];simp only [Option.bind_some];rw [f3]
section
variable {nm:ByteArray → Bool} (hw:kq nm) {y:ab} (h:bJ nm y)
include hw h
theorem pr {z:ab} (e1:z.kinds = y.kinds) (e2:z.places = y.places) {c:ay} (hc:zX y c) (w:WdW):iP z (aR w y c) = some c ∧ Ds z (aR w y c) = c:=by
 have k1:=sM hw h.kinds hc.kind false;have k2:=sM hw h.places hc.place false;have h3:=hc.lo;have h4:=hc.hi;unfold Big at h3 h4;have k3:=sK h3.1 h3.2 false;have k4:=sK h4.1 h4.2 false;unfold aR iP Ds;dsimp only;rw [e1,e2,k1.1,k2.1,k3.1,k4.1,k1.2,k2.2,k3.2,k4.2];exact ⟨rfl,rfl⟩
theorem yJ {z:ab} (e1:z.kinds = y.kinds) (e2:z.places = y.places) {i:Nat} {p:aj} (hp:JX y i p):rr z (bZ y p) = some p ∧ Hj z (bZ y p) = p:=by
 have k1:=sM hw h.kinds hp.kind false;have k2:=yN hw h.places rfl hp.src;have k3:=yN hw h.places rfl hp.dst;have h4:=hp.kilos;unfold Big at h4;have k4:=sK h4.1 h4.2 false;have hm:=h.m10;have k5:lD (if 0 ≤ p.copy then Lib.itoa p.copy else bU) true = some p.copy ∧ (if (if 0 ≤ p.copy then Lib.itoa p.copy else bU) = bU then -1 else j8 (if 0 ≤ p.copy then Lib.itoa p.copy else bU)) = p.copy:=by
  rcases hp.copy with hc | ⟨c1,c2,_⟩
  ·rw [if_neg (by omega),hc];unfold lD;simp
  ·rw [if_pos c1,if_neg (xm c1)];exact sK c1 (by omega) true
 unfold bZ rr Hj;dsimp only;rw [e1,e2,k1.1,k2.1,k3.1,k4.1,k5.1,k1.2,k2.2,k3.2,k4.2,k5.2];exact ⟨rfl,rfl⟩
theorem Kz:Ao fB y:=by
 refine ⟨fun z=>?_,fun z=>?_,fun z e1 e2 c hc=>?_,fun z e1 e2 p hp=>?_,fun z e1 e2 c hc=>?_⟩
 ·unfold fB;rw [if_pos (by simp),List.tail_cons,pG]
 ·unfold fB;rw [if_neg (by simp [cT,b6]),if_pos (by simp),List.tail_cons,pG]
 ·have:=(pr hw h e1 e2 (h.first.1 c hc) cd).1;unfold fB;rw [if_neg (by simp [aR,cd,cT]),if_neg (by simp [aR,cd,b6]),if_pos (by simp [aR]),this]; rfl
 ·obtain ⟨i,hi,rfl⟩:=List.getElem_of_mem hp;have:=(yJ hw h e1 e2 (h.papers i hi)).1;unfold fB;rw [if_neg (by simp [bZ,dO,cT]),if_neg (by simp [bZ,dO,b6]),if_neg (by simp [bZ,dO,cd]),if_pos (by simp [bZ]),this]; rfl
 ·have:=(pr hw h e1 e2 (h.last.1 c hc) dC).1;unfold fB;rw [if_neg (by simp [aR,dC,cT]),if_neg (by simp [aR,dC,b6]),if_neg (by simp [aR,dC,cd]),if_neg (by simp [aR,dC,dO]),if_pos (by simp [aR]),this]; rfl
theorem jk {l:List ByteArray} (hl:∀ s ∈ l,nm s = true) {i:Int} (hi:0 ≤ i ∧ i < l.length) {b:UInt8} (hb:b.toNat < 48):b ∉ nameAt l i:=by
 have _h:=h;obtain ⟨hi',e⟩:=gD hi;rw [e]; exact hw.no (hl _ (List.getElem_mem hi')) hb
theorem AG {b:UInt8} (hb:b = 10 ∨ b = 32):∀ r ∈ ql y,r ≠ [] ∧ ∀ w ∈ r,b ∉ w:=by
 have hb48:b.toNat < 48:=by rcases hb with rfl | rfl <;> decide
 have hwd:b ∉ cT ∧ b ∉ b6 ∧ b ∉ cd ∧ b ∉ dO ∧ b ∉ dC ∧ b ∉ bU:=by rcases hb with rfl | rfl <;> decide
 have hcnt:∀ (w:WdW),b ∉ w → ∀ c,zX y c → ∀ x ∈ aR w y c,b ∉ x:=by
  intro w hbw c hc x hx;have h3:=hc.lo;have h4:=hc.hi;unfold Big at h3 h4;simp only [aR,List.mem_cons,List.not_mem_nil,or_false] at hx;rcases hx with rfl | rfl | rfl | rfl | rfl
  ·exact hbw
  ·exact jk hw h h.kinds.1 hc.kind hb48
  ·exact jk hw h h.places.1 hc.place hb48
  ·exact tt h3.1 hb48
  ·exact tt h4.1 hb48
 intro r hr;simp only [ql,List.mem_cons,List.mem_append,List.mem_map] at hr;rcases hr with rfl | rfl | (⟨c,hc,rfl⟩ | ⟨p,hp,rfl⟩) | ⟨c,hc,rfl⟩
 ·refine ⟨by simp,fun w hww=>?_⟩;rcases List.mem_cons.1 hww with rfl | hww
  ·exact hwd.1
  ·obtain ⟨s,hs,rfl⟩:=List.mem_map.1 hww;exact hw.no (h.kinds.1 s hs) hb48
 ·refine ⟨by simp,fun w hww=>?_⟩;rcases List.mem_cons.1 hww with rfl | hww
  ·exact hwd.2.1
  ·obtain ⟨s,hs,rfl⟩:=List.mem_map.1 hww;exact hw.no (h.places.1 s hs) hb48
 ·exact ⟨by simp [aR],hcnt _ hwd.2.2.1 c (h.first.1 c hc)⟩
 ·obtain ⟨i,hi,rfl⟩:=List.getElem_of_mem hp;have hv:=h.papers i hi;have h4:=hv.kilos;unfold Big at h4;have hpl:∀ a:Int, -1 ≤ a ∧ a < y.places.length → b ∉ iA y a:=fun a ha=>by
   unfold iA;split
   ·exact hwd.2.2.2.2.2
   ·exact jk hw h h.places.1 (by omega) hb48
  refine ⟨by simp [bZ],fun x hx=>?_⟩;simp only [bZ,List.mem_cons,List.not_mem_nil,or_false] at hx;rcases hx with rfl | rfl | rfl | rfl | rfl | rfl
  ·exact hwd.2.2.2.1
  ·exact jk hw h h.kinds.1 hv.kind hb48
  ·exact hpl _ hv.src
  ·exact hpl _ hv.dst
  ·exact tt h4.1 hb48
  ·split
   ·rename_i hc; exact tt hc hb48
   ·exact hwd.2.2.2.2.2
 ·exact ⟨by simp [aR],hcnt _ hwd.2.2.2.2.1 c (h.last.1 c hc)⟩
theorem E1 {step:List WdW → ab → Option ab} {last:WdW → Bool} (hl:last [] = true) (ht:Ao step y):rZ nm step last (dS y) = some y:=by
 unfold rZ dS;rw [zm (ql y) fun r hr=>A2 (AG hw h (.inl rfl) r hr).2 (by decide)];rw [ze hl (ql y) eE fun r hr=>rz 32 (AG hw h (.inr rfl) r hr).1 (AG hw h (.inr rfl) r hr).2];rw [FM ht];dsimp only;rw [decide_eq_true ((ib nm y).2 h)];simp
end
theorem BR {nm:ByteArray → Bool} {step:List WdW → ab → Option ab} {last:WdW → Bool} {s:WdW} {y:ab} (h:rZ nm step last s = some y):bJ nm y ∧ dS y = s:=by
 unfold rZ at h
 split at h
 ·cases h
 ·split at h
  ·rename_i hc;cases h;simp only [Bool.and_eq_true,decide_eq_true_eq] at hc;exact ⟨(ib nm _).1 hc.1,hc.2⟩
  ·cases h
theorem mU {nm:ByteArray → Bool} (hw:kq nm) (s:WdW) (y:ab):ru nm s = some y ↔ bJ nm y ∧ dS y = s:=
 ⟨BR,fun ⟨h,e⟩=>by rw [← e]; exact E1 hw h (by simp) (Kz hw h)⟩
def Ch:ByteArray:=⟨#[111,105,108]⟩
def oi:ByteArray:=⟨#[112,97,105,110,116]⟩
def uE:ByteArray:=⟨#[121,97,114,100]⟩
def CM:ByteArray:=⟨#[112,105,116]⟩
def exY:ab:=⟨[Ch,oi],[uE,CM],[⟨0,0,1000,1000⟩],[⟨0,0,1,600,1⟩,⟨0,0,1,500,0⟩,⟨0,0, -1,300, -1⟩],[⟨0,0,100,100⟩,⟨0,1,600,600⟩]⟩
def exZ:ab:=⟨[Ch,oi],[uE,CM],[⟨0,0,1000,1000⟩],[⟨0,0,1,600,1⟩,⟨0,0,1,500,0⟩,⟨0,0, -1,300, -1⟩],[⟨0,0,100,200⟩]⟩
def fV (y:ab) (k:Int) (js:List b8):Bool:=(List.range (2 ^ y.places.length)).all fun P=>decide (P = 0) || (decide (dc (bh P) y.places.length y k js = 0) && decide (bz (bh P) y.places.length y k js = 0))
theorem kT (y:ab) (k:Int) (js:List b8):fV y k js = true ↔ qV y k js:=by
 unfold fV qV;rw [List.all_eq_true];constructor
 ·intro h P h1 h2;have:=h P (List.mem_range.2 h2);simp only [Bool.or_eq_true,Bool.and_eq_true,decide_eq_true_eq] at this;rcases this with e | e
  ·omega
  ·exact e
 ·intro h P hP;simp only [Bool.or_eq_true,Bool.and_eq_true,decide_eq_true_eq];rcases Nat.eq_zero_or_pos P with e | e
  ·exact .inl e
  ·exact .inr (h P e (List.mem_range.1 hP))
def my (y:ab) (k:Int) (js:List b8) (lo hi:Int):Bool:=(List.range (2 ^ y.places.length)).all fun P=>
 decide (dc (bh P) y.places.length y k js = 0) && decide (bz (bh P) y.places.length y k js = 0) && (!cz (bh P) y k y.places.length || decide (jG (bh P) y.places.length y k js ≤ fb (bh P) y.places.length y k + hi)) && decide (eO (bh P) y.places.length y k + lo ≤ lC (bh P) y.places.length y k js)
theorem tI (y:ab) (k:Int) (js:List b8) (lo hi:Int):my y k js lo hi = true ↔ yP y k js lo hi:=by
 unfold my yP okO;rw [List.all_eq_true];constructor
 ·intro h P hP;have:=h P (List.mem_range.2 hP);simp only [Bool.or_eq_true,Bool.and_eq_true,decide_eq_true_eq,Bool.not_eq_true'] at this;obtain ⟨⟨⟨h1,h2⟩,h3⟩,h4⟩:=this;exact ⟨⟨h1,h2⟩,fun hw=>h3.elim (fun e=>by rw [hw] at e; cases e) id,h4⟩
 ·intro h P hP;obtain ⟨⟨h1,h2⟩,h3,h4⟩:=h P (List.mem_range.1 hP);simp only [Bool.or_eq_true,Bool.and_eq_true,decide_eq_true_eq,Bool.not_eq_true'];refine ⟨⟨⟨h1,h2⟩, ?_⟩,h4⟩
  cases hw:cz (bh P) y k y.places.length with
  | false=>exact .inl rfl
  | true=>exact .inr (h3 hw)
theorem JJ:fV exZ 0 (dP exZ [0,1] 0 0 500) = true ∧ fV exZ 0 (dP exZ [0,1] 0 0 499) = false ∧ fV exZ 0 (dP exZ [0,1] 0 600 1000000) = true ∧ fV exZ 0 (dP exZ [0,1] 0 601 1000000) = false:=by decide +kernel
theorem KQ:my exY 0 (ba exY [1] 0) (-10000000) 300 = true ∧ my exY 0 (ba exY [1] 0) (-10000000) 299 = false ∧ my exY 0 (ba exY [1] 0) 300 10000000 = true ∧ my exY 0 (ba exY [1] 0) 301 10000000 = false:=by decide +kernel
theorem I6 {nm:ByteArray → Bool} (h:bJ nm exZ) {lo hi:Int} (hr:jE exZ [0,1] 0 lo hi):lo = 500 ∧ hi = 600:=by
 have hs:aZ exZ [0,1] (exZ.papers.getD (bH exZ 0) ⟨0,0,0,0,0⟩) (bH exZ 0) = (0,1000000):=by decide +kernel
 have hi0:0 < exZ.papers.length:=by decide
 have k0:aK exZ 0 = 0:=by decide +kernel
 have b:=Cg h hi0 hr hs;dsimp only at b;have s1:=mw h hi0 hr hs (m:=500) (by decide) (by decide);have s2:=mw h hi0 hr hs (m:=499) (by decide) (by decide);have s3:=kH h hi0 hr hs (m:=600) (by decide) (by decide);have s4:=kH h hi0 hr hs (m:=601) (by decide) (by decide);rw [k0, ← kT] at s1 s2 s3 s4;obtain ⟨e1,e2,e3,e4⟩:=JJ;have t1:=s1.1 e1;have t3:=s3.1 e3;have t2:¬ lo ≤ 499:=fun e=>by have:=s2.2 e; rw [e2] at this; cases this
 have t4:¬ 601 ≤ hi:=fun e=>by have:=s4.2 e; rw [e4] at this; cases this
 omega
theorem Ki {nm:ByteArray → Bool} (h:bJ nm exY) {lo hi:Int} (hr:iw exY [1] 0 lo hi):lo = 300 ∧ hi = 300:=by
 have s1:=oB h hr (m:=300) (by decide) (by decide);have s2:=oB h hr (m:=299) (by decide) (by decide);have s3:=lZ h hr (m:=300) (by decide) (by decide);have s4:=lZ h hr (m:=301) (by decide) (by decide);rw [← tI] at s1 s2 s3 s4;obtain ⟨e1,e2,e3,e4⟩:=KQ;have t1:=s1.1 e1;have t3:=s3.1 e3;have t2:¬ lo ≤ 299:=fun e=>by have:=s2.2 e; rw [e2] at this; cases this
 have t4:¬ 301 ≤ hi:=fun e=>by have:=s4.2 e; rw [e4] at this; cases this
 omega
structure By (nm:ByteArray → Bool):Prop where
 oil:nm Ch = true
 paint:nm oi = true
 yard:nm uE = true
 pit:nm CM = true
theorem By.kinds {nm:ByteArray → Bool} (h:By nm):(∀ s ∈ [Ch,oi],nm s = true) ∧ [Ch,oi].Nodup:=by
 refine ⟨fun s hs=>?_,by decide⟩;rcases List.mem_cons.1 hs with e | e
 ·rw [e]; exact h.oil
 ·rw [List.mem_singleton.1 e]; exact h.paint
theorem By.places {nm:ByteArray → Bool} (h:By nm):(∀ s ∈ [uE,CM],nm s = true) ∧ [uE,CM].Nodup:=by
 refine ⟨fun s hs=>?_,by decide⟩;rcases List.mem_cons.1 hs with e | e
 ·rw [e]; exact h.yard
 ·rw [List.mem_singleton.1 e]; exact h.pit
theorem Dj {nm:ByteArray → Bool} (h:By nm):bJ nm exY:=
 ⟨by decide,by decide,by decide,by decide,by decide,h.kinds,h.places,(gU exY exY.first).1 (by decide +kernel),(pL exY).1 (by decide +kernel),(gU exY exY.last).1 (by decide +kernel)⟩
theorem El {nm:ByteArray → Bool} (h:By nm):bJ nm exZ:=
 ⟨by decide,by decide,by decide,by decide,by decide,h.kinds,h.places,(gU exZ exZ.first).1 (by decide +kernel),(pL exZ).1 (by decide +kernel),(gU exZ exZ.last).1 (by decide +kernel)⟩
def pP:List UInt8:=[107,105,110,100,115,32,111,105,108,32,112,97,105,110,116,10,112,108,97,99,101,115,32,121,97,114,100,32,112,105,116,10,102,105,114,115,116,32,111,105,108,32,121,97,114,100,32,49,48,48,48,32,49,48,48,48,10,112,97,112,101,114,32,111,105,108,32,121,97,114,100,32,112,105,116,32,54,48,48,32,49,10,112,97,112,101,114,32,111,105,108,32,121,97,114,100,32,112,105,116,32,53,48,48,32,48,10,112,97,112,101,114,32,111,105,108,32,121,97,114,100,32,45,32,51,48,48,32,45,10,108,97,115,116,32,111,105,108,32,121,97,114,100,32,49,48,48,32,50,48,48,10]
theorem C1:dS exZ = pP:=by decide +kernel
theorem Jc {nm:ByteArray → Bool} (hw:kq nm) (h:By nm):ru nm pP = some exZ:=(mU hw pP exZ).2 ⟨El h,C1⟩
theorem lQ (A:Nat → Bool) (i:Nat) (g:Nat → Int):dL A (i + 1) g = dL A i g + if A i then g i else 0:=rfl
theorem rQ (g:b8 → Int):∀ l r,bO g (l ++ r) = bO g l + bO g r
 | [],r=>by simp [bO]
 | j :: l,r=>by simp only [List.cons_append,bO,rQ g l r]; omega
theorem Ax (al:aj → Nat → Int × Int) (k:Int):∀ (l r:List aj) (i:Nat),ee al k (l ++ r) i = ee al k l i ++ ee al k r (i + l.length)
 | [],r,i=>by simp [ee]
 | p :: l,r,i=>by
  simp only [List.cons_append,ee,Ax al k l r (i + 1),List.length_cons];rw [show i + 1 + l.length = i + (l.length + 1) by omega]
  split <;> rfl
def lW (y:ab) (wrong:List Nat) (k:Int) (i:Nat):List b8:=ee (aZ y wrong) k (y.papers.take i) 0
def xY (y:ab) (wrong:List Nat) (p:aj) (i:Nat):b8:=⟨p.src,p.dst,(aZ y wrong p i).1,(aZ y wrong p i).2⟩
theorem kJ (y:ab) (wrong:List Nat) (k:Int):lW y wrong k 0 = []:=rfl
theorem y0 (y:ab) (wrong:List Nat) (k:Int) {i:Nat} (h:y.papers.length ≤ i):lW y wrong k i = ba y wrong k:=by unfold lW ba; rw [List.take_of_length_le h]
theorem vT {y:ab} (wrong:List Nat) (k:Int) {i:Nat} (h:i < y.papers.length) :
  lW y wrong k (i + 1) = lW y wrong k i ++ if y.papers[i].kind = k ∧ br y.papers[i] i = true then [xY y wrong y.papers[i] i] else []:=by
 unfold lW;rw [List.take_succ_eq_append_getElem h,Ax];congr 1;simp only [ee,List.length_take,Nat.zero_add,Nat.min_eq_left (Nat.le_of_lt h)];rfl
theorem Jm {nm:ByteArray → Bool} {y:ab} (h:bJ nm y) (wrong:List Nat) (k:Int) (i:Nat):(∀ x ∈ lW y wrong k i,eS y.places.length x) ∧ (lW y wrong k i).length ≤ 10:=by
 have:=DK (n:=y.places.length) (al:=aZ y wrong) (k:=k) (y.papers.take i) 0 fun j hj=>by
  have hj':j < y.papers.length:=by rw [List.length_take] at hj; omega
  have hp:=h.papers j hj';rw [Nat.zero_add,List.getElem_take];exact ⟨hp.src,hp.dst,hp.ne,vC h wrong hp.kilos j⟩
 refine ⟨this.1, ?_⟩;have h2:=this.2;have:=h.m10;rw [List.length_take] at h2;unfold lW; omega
def jW (A:Nat → Bool) (y:ab) (wrong:List Nat) (k:Int) (a i:Nat):Int:=dL A a (fun p=>loC (aB y.first k p)) - dL A a (fun p=>hiC (aB y.last k p)) + bO (jLo A) (lW y wrong k i)
def fU (A:Nat → Bool) (y:ab) (wrong:List Nat) (k:Int) (a i:Nat):Int:=dL A a (fun p=>hiC (aB y.first k p)) - dL A a (fun p=>loC (aB y.last k p)) + bO (jHi A) (lW y wrong k i)
theorem uB (A:Nat → Bool) (y:ab) (wrong:List Nat) (k:Int) (a:Nat) :
  jW A y wrong k (a + 1) 0 = jW A y wrong k a 0 + (if A a then loC (aB y.first k a) - hiC (aB y.last k a) else 0) ∧
  fU A y wrong k (a + 1) 0 = fU A y wrong k a 0 + (if A a then hiC (aB y.first k a) - loC (aB y.last k a) else 0):=by
 unfold jW fU;simp only [lQ,kJ,bO];cases A a <;> simp <;> omega
theorem uL (A:Nat → Bool) {y:ab} (wrong:List Nat) (k:Int) (a:Nat) {i:Nat} (h:i < y.papers.length) :
  jW A y wrong k a (i + 1) = jW A y wrong k a i + (if y.papers[i].kind = k ∧ br y.papers[i] i = true then jLo A (xY y wrong y.papers[i] i) else 0) ∧
  fU A y wrong k a (i + 1) = fU A y wrong k a i + (if y.papers[i].kind = k ∧ br y.papers[i] i = true then jHi A (xY y wrong y.papers[i] i) else 0):=by
 unfold jW fU;rw [vT wrong k h,rQ,rQ]
 split <;> simp [bO] <;> omega
theorem Ke (A:Nat → Bool) (y:ab) (wrong:List Nat) (k:Int) {i:Nat} (h:y.papers.length ≤ i) :
  dc A y.places.length y k (ba y wrong k) = (if cz A y k y.places.length then max 0 (jW A y wrong k y.places.length i) else 0) ∧
  bz A y.places.length y k (ba y wrong k) = min 0 (fU A y wrong k y.places.length i):=by
 unfold dc bz jW fU fQ fR eO fb;rw [y0 y wrong k h];constructor
 ·split
  ·congr 1; omega
  ·rfl
 ·congr 1; omega
theorem EN {nm:ByteArray → Bool} {y:ab} (h:bJ nm y) (A:Nat → Bool) (wrong:List Nat) (k:Int) {a:Nat} (ha:a ≤ 4) (i:Nat) :
  (-14000000 ≤ jW A y wrong k a i ∧ jW A y wrong k a i ≤ 14000000) ∧ -14000000 ≤ fU A y wrong k a i ∧ fU A y wrong k a i ≤ 14000000:=by
 have hy:=h.ok;have h1:=da (A:=A) (g:=fun a=>loC (aB y.first k a)) (c:=1000000) (by omega) (fun a=>(bx hy.first k a).1) a;have h2:=da (A:=A) (g:=fun a=>hiC (aB y.first k a)) (c:=1000000) (by omega) (fun a=>(bx hy.first k a).2.1) a;have h3:=da (A:=A) (g:=fun a=>loC (aB y.last k a)) (c:=1000000) (by omega) (fun a=>(bx hy.last k a).1) a;have h4:=da (A:=A) (g:=fun a=>hiC (aB y.last k a)) (c:=1000000) (by omega) (fun a=>(bx hy.last k a).2.1) a;obtain ⟨j1,j2⟩:=Jm h wrong k i;have h5:=xV (A:=A) _ j1;unfold jW fU;have ha':(a:Int) * 1000000 ≤ 4000000:=by omega
 omega
def cX (y:ab) (wrong:List Nat) (k:Int) (a i:Nat):List aI:=bR y k y.places.length a ++ (lW y wrong k i).map (cZ y.places.length)
theorem AX (y:ab) (wrong:List Nat) (k:Int) (a:Nat):cX y wrong k (a + 1) 0 = cX y wrong k a 0 ++ [⟨y.places.length + 1,a,loC (aB y.first k a),hiC (aB y.first k a)⟩,⟨a,y.places.length + 1,loC (aB y.last k a),dh y k a⟩]:=by simp [cX,bR,kJ]
theorem Am {y:ab} (wrong:List Nat) (k:Int) {i:Nat} (h:i < y.papers.length) (a:Nat):cX y wrong k a (i + 1) = cX y wrong k a i ++ if y.papers[i].kind = k ∧ br y.papers[i] i = true then [cZ y.places.length (xY y wrong y.papers[i] i)] else []:=by
 unfold cX;rw [vT wrong k h]
 split <;> simp
theorem rB (y:ab) (wrong:List Nat) (k:Int) {i:Nat} (h:y.papers.length ≤ i) (lo hi:Int):cX y wrong k y.places.length i ++ [⟨y.places.length,y.places.length + 1,lo,hi⟩] = aW y k y.places.length (ba y wrong k) lo hi:=by
 unfold cX aW; rw [y0 y wrong k h]
theorem EA (al:aj → Nat → Int × Int) (k:Int):∀ (l:List aj) (i a:Nat),i ≤ a → a ≤ i + l.length → fN k l i a = (ee al k (l.take (a - i)) i).length
 | [],i,a,h,h2=>by simp [fN,ee]
 | p :: r,i,a,h,h2=>by
  rcases Nat.eq_or_lt_of_le h with e | e
  ·subst e; simp [fN,ee]
  ·have ih:=EA al k r (i + 1) a (by omega) (by simp at h2; omega);rw [show a - i = (a - (i + 1)) + 1 by omega,List.take_succ_cons];simp only [fN,ee,ih];rw [if_neg (by omega)]
   split <;> simp <;> omega
theorem Ed (y:ab) (wrong:List Nat) (k:Int) {i:Nat} (h:i ≤ y.papers.length):(cX y wrong k y.places.length i).length = 2 * y.places.length + fN k y.papers 0 i:=by
 unfold cX lW;rw [List.length_append,List.length_map,cM,EA (aZ y wrong) k y.papers 0 i (by omega) (by omega),Nat.sub_zero]
/-! ### searches -/
theorem wR {α:Type} (p:Nat → Option α):∀ n i,(∀ j,j < i → p j = none) → i < n → ∀ a,p i = some a → (List.range n).findSome? p = some a:=by
 intro n i h hi a ha;have e:List.range n = List.range i ++ (List.range (n - i)).map (i + ·):=by rw [← List.range_add]; congr 1; omega
 rw [e,List.findSome?_append,List.findSome?_eq_none_iff.2 fun j hj=>h j (List.mem_range.1 hj)];obtain ⟨m,hm⟩:∃ m,n - i = m + 1:=⟨n - i - 1,by omega⟩;rw [hm,List.range_succ_eq_map];simp [ha]
theorem Fx {α:Type} (p:Nat → Option α) (n:Nat) (h:∀ j,j < n → p j = none):(List.range n).findSome? p = none:=List.findSome?_eq_none_iff.2 fun j hj=>h j (List.mem_range.1 hj)
theorem H7 {y:ab} {wrong:List Nat} {i:Nat} (h:∀ j,j < i → cD y wrong j = false) (hi:i < y.papers.length) (hd:cD y wrong i = true):nF y wrong = some i:=by
 unfold nF;rw [List.find?_range_eq_some];exact ⟨hd,List.mem_range.2 hi,fun j hj=>by rw [h j hj]; rfl⟩
theorem Gr {y:ab} {wrong:List Nat} (h:∀ j,j < y.papers.length → cD y wrong j = false):nF y wrong = none:=by
 unfold nF;rw [List.find?_eq_none];intro j hj;rw [h j (List.mem_range.1 hj)]; decide
theorem FC {m many a:Nat} (h:m < a + many + 1):eR m (many + 1) a = []:=by
 apply List.eq_nil_iff_forall_not_mem.2;intro l hl;obtain ⟨h1,h2⟩:=(nf m (many + 1) a l).1 hl
 cases l with
 | nil=>simp at h1
 | cons x r=>
  have:=vx h2;have hx:=h2.2 x (by simp);omega
theorem BG {m many a:Nat} (h:a < m):eR m (many + 1) a = ((eR m many (a + 1)).map fun l=>a :: l) ++ eR m (many + 1) (a + 1):=by
 simp only [eR];obtain ⟨d,hd⟩:∃ d,m - a = d + 1:=⟨m - a - 1,by omega⟩;rw [hd,show m - (a + 1) = d by omega,List.range'_succ,List.flatMap_cons]
theorem K4 {m many a:Nat} (h:m ≤ a):eR m (many + 1) a = []:=by simp [eR,Nat.sub_eq_zero_of_le h]
def fy (l:List Nat) (ls:List (List Nat)):List (List Nat):=ls.map fun r=>l ++ r
theorem ahead_zero (l:List Nat) (m a:Nat):fy l (eR m 0 a) = [l]:=by simp [fy,eR]
theorem vR (l:List Nat) {m many a:Nat} (h:a < m):fy l (eR m (many + 1) a) = fy (l ++ [a]) (eR m many (a + 1)) ++ fy l (eR m (many + 1) (a + 1)):=by
 rw [BG h];simp [fy,Function.comp_def]
theorem GO (l:List Nat) {m many a:Nat} (h:m < a + many + 1):fy l (eR m (many + 1) a) = []:=by
 rw [FC h]; rfl
def qH (m:Nat):List (List Nat):=(List.range (m + 1)).flatMap fun many=>eR m many 0
theorem yU {α β:Type} (f:α → List β) (p:β → Bool):∀ l:List α,(l.flatMap f).find? p = l.findSome? fun a=>(f a).find? p
 | []=>rfl
 | a :: r=>by
  rw [List.flatMap_cons,List.find?_append,List.findSome?_cons,yU f p r];cases (f a).find? p <;> rfl
theorem D8 (y:ab):AN y = (qH y.papers.length).find? (aP y):=by
 unfold AN qH; rw [yU]
def kB (c:List Nat → Bool):List (List Nat) → List (List Nat) → List (List Nat)
 | [],sets=>sets
 | l :: r,sets=>if ∃ s,sets.head? = some s ∧ s.length < l.length then sets else kB c r (if c l then sets ++ [l] else sets)
theorem qT (c:List Nat → Bool) (n:Nat) (R:List (List Nat)):∀ (B sets:List (List Nat)),(∀ l ∈ B,l.length = n) → (∀ s ∈ sets,s.length = n) → kB c (B ++ R) sets = kB c R (sets ++ B.filter c)
 | [],sets,_,_=>by simp
 | l :: B,sets,h1,h2=>by
  have hl:=h1 l (by simp);rw [List.cons_append,kB,if_neg]
  ·have hB:∀ l ∈ B,l.length = n:=fun x hx=>h1 x (by simp [hx])
   cases hc:c l with
   | true=>
    rw [if_pos rfl,qT c n R B (sets ++ [l]) hB,List.filter_cons_of_pos (by simp [hc])]
    ·simp
    ·intro s hs;rcases List.mem_append.1 hs with h | h
     ·exact h2 s h
     ·rw [List.mem_singleton.1 h]; exact hl
   | false=>rw [if_neg (by decide),qT c n R B sets hB h2,List.filter_cons_of_neg (by simp [hc])]
  ·rintro ⟨s,hs,hlt⟩;have:=h2 s (List.mem_of_mem_head? hs);omega
theorem Gq (c:List Nat → Bool) {n:Nat} {sets:List (List Nat)} (hs:∀ s ∈ sets,s.length = n) (hne:sets ≠ []):∀ R:List (List Nat),(∀ l ∈ R,n < l.length) → kB c R sets = sets
 | [],_=>rfl
 | l :: R,h=>by
  obtain ⟨s,r,rfl⟩:=List.exists_cons_of_ne_nil hne;rw [kB,if_pos ⟨s,rfl,by rw [hs s (by simp)]; exact h l (by simp)⟩]
theorem A8 (y:ab) (m:Nat) (hm:m = y.papers.length):∀ d k,k + d = m + 1 → kB (aP y) ((List.range' k d).flatMap fun many=>eR m many 0) [] = ((List.range' k d).findSome? fun many=>if atW y many = [] then none else some (atW y many)).getD []
 | 0,k,_=>rfl
 | d + 1,k,h=>by
  rw [List.range'_succ,List.flatMap_cons,List.findSome?_cons,qT (aP y) k _ _ _ (fun l hl=>((nf m k 0 l).1 hl).1) (by simp),List.nil_append];have e:(eR m k 0).filter (aP y) = atW y k:=by unfold atW; rw [hm]
  rw [e];by_cases h0:atW y k = []
  ·rw [h0,if_pos rfl]; exact A8 y m hm d (k + 1) (by omega)
  ·rw [if_neg h0];refine Gq (aP y) (n:=k) (fun s hs=>?_) h0 _ fun l hl=>?_
   ·rw [← e] at hs; exact ((nf m k 0 s).1 (List.mem_filter.1 hs).1).1
   ·obtain ⟨j,hj,hl⟩:=List.mem_flatMap.1 hl;rw [List.mem_range'_1] at hj;have:=((nf m j 0 l).1 hl).1;omega
theorem DO (y:ab):kB (aP y) (qH y.papers.length) [] = (mN y).getD []:=by
 unfold qH mN;rw [List.range_eq_range',A8 y _ rfl _ 0 (by omega)]
theorem Cu:∀ {a b:List Nat},a.Pairwise (· < ·) → b.Pairwise (· < ·) → (∀ x,x ∈ a ↔ x ∈ b) → a = b
 | [],[],_,_,_=>rfl
 | [],x :: b,_,_,h=>absurd ((h x).2 (by simp)) (by simp)
 | x :: a,[],_,_,h=>absurd ((h x).1 (by simp)) (by simp)
 | x :: a,z :: b,ha,hb,h=>by
  obtain ⟨a1,a2⟩:=List.pairwise_cons.1 ha;obtain ⟨b1,b2⟩:=List.pairwise_cons.1 hb;have e:x = z:=by
   rcases List.mem_cons.1 ((h x).1 (by simp)) with e | e
   ·exact e
   ·rcases List.mem_cons.1 ((h z).2 (by simp)) with e' | e'
    ·exact e'.symm
    ·have:=b1 x e; have:=a1 z e'; omega
  subst e;refine congrArg _ (Cu a2 b2 fun w=>?_);constructor
  ·intro hw;rcases List.mem_cons.1 ((h w).1 (by simp [hw])) with e | e
   ·have:=a1 w hw; omega
   ·exact e
  ·intro hw;rcases List.mem_cons.1 ((h w).2 (by simp [hw])) with e | e
   ·have:=b1 w hw; omega
   ·exact e
theorem Di {y:ab} {ls:List (List Nat)} (hb:∀ l ∈ ls, ∀ i ∈ l,i < y.papers.length) {r:List Nat} (ha:r.Pairwise (· < ·)) (hr:∀ x,x ∈ r ↔ x ∈ ls.flatten):r = Kq y ls:=by
 refine Cu ha (za _ _).1 fun x=>?_;rw [hr,Kt,List.mem_flatten];constructor
 ·rintro ⟨l,h1,h2⟩; exact ⟨hb l h1 x h2,l,h1,h2⟩
 ·rintro ⟨_,l,h1,h2⟩; exact ⟨l,h1,h2⟩
structure mG (es:List aI) (f:Nat → Int) (k:Int) (P:Nat → Prop) (b a:Nat) (l:List Nat) (f':Nat → Int):Prop where
 inb:InB es f'
 net:∀ n,aS n es 0 f' = aS n es 0 f - (if n = a then k else 0) + (if n = b then k else 0)
 out:∀ j,f' j ≠ f j → P j ∧ ∃ h:j < es.length,es[j].src ∈ l ∧ es[j].dst ∈ l
theorem mG.nil {es:List aI} {f:Nat → Int} (k:Int) (P:Nat → Prop) (b:Nat) (hb:InB es f):mG es f k P b b [b] f:=
 ⟨hb,fun n=>by omega,fun j hj=>absurd rfl hj⟩
theorem mG.cons {es:List aI} {f f':Nat → Int} {k:Int} (hk:0 ≤ k) {P:Nat → Prop} {b a c i:Nat} {l:List Nat} (hne:∀ e ∈ es,e.src ≠ e.dst) (hs:fC es f k i a c) (hp:P i) (h:mG es f k P b c l f') (hcl:c ∈ l) (ha:a ∉ l) :
  ∃ hi:i < es.length,f' i = f i ∧ mG es f k P b a (a :: l) (cG f' i (if es[i].src = a then k else -k)):=by
 obtain ⟨h1,h2,h3⟩:=h;obtain ⟨hi,hs⟩:=hs;have hfi:f' i = f i:=by
  by_cases e:f' i = f i
  ·exact e
  ·obtain ⟨_,_,h4,h5⟩:=h3 i e;rcases hs with ⟨e1,_,_⟩ | ⟨e1,_,_⟩
   ·rw [e1] at h4; exact absurd h4 ha
   ·rw [e1] at h5; exact absurd h5 ha
 have hni:=hne es[i] (List.getElem_mem hi);refine ⟨hi,hfi, ?_, ?_, ?_⟩
 ·intro j hj;have:=h1 j hj;unfold cG;split
  ·rename_i e; subst e;rw [hfi] at this ⊢;rcases hs with ⟨e1,e2,e3⟩ | ⟨e1,e2,e3⟩
   ·rw [if_pos e1]; omega
   ·rw [if_neg (by rw [← e1]; exact hni)]; omega
  ·exact this
 ·intro n;rcases hs with ⟨e1,e2,e3⟩ | ⟨e1,e2,e3⟩
  ·have hv:(if es[i].src = a then k else -k) = k:=if_pos e1;rw [hv,iT,h2 n,dif_pos (by omega)];simp only [Nat.sub_zero,e1,e2];rw [e1,e2] at hni;by_cases n1:n = a <;> by_cases n2:n = c
   ·omega
   ·simp [n1,Ne.symm hni]; omega
   ·simp [n2,hni,Ne.symm hni]; omega
   ·rw [if_neg (Ne.symm n2),if_neg (Ne.symm n1),if_neg n2,if_neg n1]; omega
  ·have hv:(if es[i].src = a then k else -k) = -k:=if_neg (by rw [← e1]; exact hni);rw [hv,iT,h2 n,dif_pos (by omega)];simp only [Nat.sub_zero,e1,e2];rw [e1,e2] at hni;by_cases n1:n = a <;> by_cases n2:n = c
   ·omega
   ·simp [n1,hni]; omega
   ·simp [n2,hni,Ne.symm hni]; omega
   ·rw [if_neg (Ne.symm n1),if_neg (Ne.symm n2),if_neg n2,if_neg n1]; omega
 ·intro j hj;by_cases e:j = i
  ·subst e;refine ⟨hp,hi, ?_⟩;rcases hs with ⟨e1,e2,_⟩ | ⟨e1,e2,_⟩ <;> rw [e1,e2] <;> simp [hcl]
  ·unfold cG at hj;rw [if_neg e] at hj;obtain ⟨q1,q2,q3,q4⟩:=h3 j hj;exact ⟨q1,q2,List.mem_cons_of_mem _ q3,List.mem_cons_of_mem _ q4⟩
theorem fC.mono {es:List aI} {f:Nat → Int} {k k':Int} {i a c:Nat} (h:fC es f k i a c) (hk:k' ≤ k):fC es f k' i a c:=by
 obtain ⟨hi,h⟩:=h;exact ⟨hi,h.imp (fun ⟨h1,h2,h3⟩=>⟨h1,h2,by omega⟩) (fun ⟨h1,h2,h3⟩=>⟨h1,h2,by omega⟩)⟩
theorem dj.mono {es:List aI} {f:Nat → Int} {k k':Int} {P:Nat → Prop} {b a:Nat} {l:List Nat} (h:dj es f k P b a l) (hk:k' ≤ k):dj es f k' P b a l:=by
 induction h with
 | nil=>exact .nil
 | cons h1 hp _ h3 ih=>exact .cons (h1.mono hk) hp ih h3
theorem dj.head {es:List aI} {f:Nat → Int} {k:Int} {P:Nat → Prop} {b a:Nat} {l:List Nat} (h:dj es f k P b a l):a ∈ l ∧ b ∈ l:=by
 induction h with
 | nil=>simp
 | cons _ _ _ _ ih=>exact ⟨by simp,List.mem_cons_of_mem _ ih.2⟩
inductive iD (es:List aI) (f:Nat → Int) (P:Nat → Prop) (s:Nat) (by':Nat → Int):List Nat → Prop
 | root:by' s = -1 → iD es f P s by' [s]
 | add {L:List Nat} {x p i:Nat}:iD es f P s by' L → x ∉ L → p ∈ L → fC es f 1 i p x → P i → by' x = (i:Int) + 1 → iD es f P s by' (x :: L)
theorem iD.suffix {es:List aI} {f:Nat → Int} {P:Nat → Prop} {s:Nat} {by':Nat → Int} {L:List Nat} (h:iD es f P s by' L) {x:Nat} (hx:x ∈ L):∃ L1 L2,L = L1 ++ x :: L2 ∧ iD es f P s by' (x :: L2):=by
 induction h with
 | root h0=>rw [List.mem_singleton.1 hx]; exact ⟨[],[],rfl, .root h0⟩
 | @add L y p i h1 h2 h3 h4 h5 h6 ih=>
  rcases List.mem_cons.1 hx with rfl | hx
  ·exact ⟨[],L,rfl, .add h1 h2 h3 h4 h5 h6⟩
  ·obtain ⟨L1,L2,e,h⟩:=ih hx;exact ⟨y :: L1,L2,by rw [e]; rfl,h⟩
theorem iD.start {es:List aI} {f:Nat → Int} {P:Nat → Prop} {s:Nat} {by':Nat → Int} {L:List Nat} (h:iD es f P s by' L):s ∈ L ∧ by' s = -1:=by
 induction h with
 | root h0=>exact ⟨by simp,h0⟩
 | add _ _ _ _ _ _ ih=>exact ⟨List.mem_cons_of_mem _ ih.1,ih.2⟩
theorem iD.congr {es:List aI} {f:Nat → Int} {P:Nat → Prop} {s:Nat} {by' by2:Nat → Int} {L:List Nat} (h:iD es f P s by' L) (hb:∀ x ∈ L,by2 x = by' x):iD es f P s by2 L:=by
 induction h with
 | root h0=>exact .root (by rw [hb _ (by simp),h0])
 | add h1 h2 h3 h4 h5 h6 ih=>exact .add (ih fun x hx=>hb x (List.mem_cons_of_mem _ hx)) h2 h3 h4 h5 (by rw [hb _ (by simp),h6])
theorem iD.nodup {es:List aI} {f:Nat → Int} {P:Nat → Prop} {s:Nat} {by':Nat → Int} {L:List Nat} (h:iD es f P s by' L):L.Nodup:=by
 induction h with
 | root _=>simp
 | add _ h2 _ _ _ _ ih=>exact List.nodup_cons.2 ⟨h2,ih⟩
structure No (es:List aI) (f:Nat → Int) (k:Int) (P:Nat → Prop) (s:Nat) (by':Nat → Int) (b x:Nat) (L l:List Nat):Prop where
 tree:iD es f P s by' (x :: L)
 line:dj es f k P b x l
 new:∀ y ∈ l,y ∉ L
theorem No.step {es:List aI} {f:Nat → Int} {k:Int} {P:Nat → Prop} {s:Nat} {by':Nat → Int} {b x:Nat} {L l:List Nat} (h:No es f k P s by' b x L l) (_hne:∀ e ∈ es,e.src ≠ e.dst) (hx:x ≠ s) :
  ∃ i p:Nat,by' x = (i:Int) + 1 ∧ P i ∧ (∃ hi:i < es.length,(es[i].src = p ∧ es[i].dst = x ∨ es[i].dst = p ∧ es[i].src = x)) ∧ p ∈ L ∧ p ∉ l ∧ p ≠ x ∧ fC es f 1 i p x ∧
   ∀ k',k' ≤ k → fC es f k' i p x → ∃ L',L'.length < L.length ∧ No es f k' P s by' b p L' (p :: l):=by
 obtain ⟨ht,hl,hn⟩:=h
 cases ht with
 | root=>exact absurd rfl hx
 | @add _ _ p i h1 h2 h3 h4 h5 h6=>
  obtain ⟨hi,h4'⟩:=h4;have hpl:p ∉ l:=fun hp=>hn p hp h3;refine ⟨i,p,h6,h5,⟨hi,h4'.imp (fun h=>⟨h.1,h.2.1⟩) (fun h=>⟨h.1,h.2.1⟩)⟩,h3,hpl,fun e=>h2 (e ▸ h3),⟨hi,h4'⟩,fun k' hk hs=>?_⟩;obtain ⟨L1,L2,e,h7⟩:=h1.suffix h3;have hnd:=h1.nodup;refine ⟨L2,by rw [e]; simp; omega,h7, .cons hs h5 (hl.mono hk) hpl,fun y hy hyL=>?_⟩;rcases List.mem_cons.1 hy with rfl | hy
  ·exact (List.nodup_cons.1 h7.nodup).1 hyL
  ·exact hn y hy (by rw [e]; simp [hyL])
theorem GA {es:List aI} {f:Nat → Int} {P:Nat → Prop} {L:List Nat} (hc:∀ x ∈ L, ∀ i y,P i → fC es f 1 i x y → y ∈ L) {b a:Nat} {l:List Nat} (h:dj es f 1 P b a l) (ha:a ∈ L):b ∈ L:=by
 induction h with
 | nil=>exact ha
 | cons h1 hp _ _ ih=>exact ih (hc _ ha _ _ hp h1)
structure la (N:Nat) (es:List aI) (f:Nat → Int) (P:Nat → Prop) (a:Nat) (most:Int) (want:Nat → Int) (k:Int) (to':Nat) (f':Nat → Int):Prop where
 inb:InB es f'
 no:k = 0 → f' = f ∧ ∀ b,b < N → b ≠ a → 0 < want b → ¬ ∃ l,dj es f 1 P b a l
 yes:k ≠ 0 → (0 < k ∧ k ≤ most ∧ k ≤ want to' ∧ to' ≠ a ∧ to' < N) ∧ (∀ n,aS n es 0 f' = aS n es 0 f - (if n = a then k else 0) + (if n = to' then k else 0)) ∧ ∀ j,f' j ≠ f j → P j
theorem la.of {N:Nat} {es:List aI} {f f':Nat → Int} {P:Nat → Prop} {a b:Nat} {most k:Int} {want:Nat → Int} {l:List Nat} (h:mG es f k P b a l f') (hk:0 < k) (h1:k ≤ most) (h2:k ≤ want b) (h3:b ≠ a) (h4:b < N):la N es f P a most want k b f':=
 ⟨h.inb,fun e=>by omega,fun _=>⟨⟨hk,h1,h2,h3,h4⟩,h.net,fun j hj=>(h.out j hj).1⟩⟩
variable {N:Nat} {es:List aI} (h:fY N es)
include h
theorem JG {f f':Nat → Int} (hb:InB es f) {a:Nat} (ha:a < N) (h0:0 < aS a es 0 f) {t:Nat} {m:Int} (hp:la N es f (fun _=>True) a m (fun n=>- aS n es 0 f) 0 t f'):¬ ∃ g,bE N es g:=by
 rintro ⟨g,hg⟩;obtain ⟨S,_,hS⟩:=y7 h hb ha h0 fun ⟨b,l,⟨h1,h2⟩,h3⟩=>(hp.no rfl).2 b h1 (fun e=>by subst e; omega) (by omega) ⟨l,h3⟩;have:=(hg.cut h S).2;omega
omit h in
theorem Ia {f f':Nat → Int} {a:Nat} {t:Nat} {k m:Int} (hk:k ≠ 0) (hp:la N es f (fun _=>True) a m (fun n=>- aS n es 0 f) k t f') (hm:m ≤ aS a es 0 f) (hl:∀ n,n < a → aS n es 0 f ≤ 0) :
  InB es f' ∧ (∀ n,n < a → aS n es 0 f' ≤ 0) ∧ 0 ≤ aS a es 0 f' ∧ aS a es 0 f' < aS a es 0 f:=by
 obtain ⟨⟨h1,h2,h3,h4,h5⟩,h6,_⟩:=hp.yes hk;refine ⟨hp.inb,fun n hn=>?_, ?_, ?_⟩
 ·have:=hl n hn;rw [h6 n,if_neg (by omega)];split
  ·rename_i e; subst e; omega
  ·omega
 ·rw [h6 a,if_pos rfl,if_neg (Ne.symm h4)]; omega
 ·rw [h6 a,if_pos rfl,if_neg (Ne.symm h4)]; omega
theorem KL {f:Nat → Int} (hb:InB es f) (hl:∀ n,n < N → aS n es 0 f ≤ 0):bE N es f:=by
 refine ⟨hb,fun a ha=>?_⟩;have h1:=EY h f;have h2:=s9 (g:=fun n=>- aS n es 0 f) (N:=N) (fun n hn=>by have:=hl n hn; omega) ha;have h3:=jx (fun _=>0) (fun n=>aS n es 0 f) N;rw [eV,h1] at h3;have h4:=dK (g:=fun n=>0 - aS n es 0 f) (h:=fun n=>- aS n es 0 f) N (fun n _=>by omega);have:=hl a ha;omega
omit h in
theorem fC.Ga {f g:Nat → Int} {P:Nat → Prop} (he:∀ j,P j → g j = f j) {k:Int} {i a c:Nat} (hp:P i) (hs:fC es f k i a c):fC es g k i a c:=by
 obtain ⟨hi,hs⟩:=hs;exact ⟨hi,by rw [he i hp]; exact hs⟩
omit h in
theorem dj.Ga {f g:Nat → Int} {P:Nat → Prop} (he:∀ j,P j → g j = f j) {k:Int} {b a:Nat} {l:List Nat} (hl:dj es f k P b a l):dj es g k P b a l:=by
 induction hl with
 | nil=>exact .nil
 | cons h1 hp _ h3 ih=>exact .cons (h1.Ga he hp) hp ih h3
structure ov (es:List aI) (f:Nat → Int) (i a b:Nat) (all:Int) (f':Nat → Int):Prop where
 inb:InB es f'
 net:∀ n,aS n es 0 f' = aS n es 0 f - (if n = a then all else 0) + (if n = b then all else 0)
 out:f' i = f i
omit h in
theorem ov.start {f:Nat → Int} (hb:InB es f) (i a b:Nat):ov es f i a b 0 f:=⟨hb,fun n=>by simp,rfl⟩
omit h in
theorem ov.step {f f' f2:Nat → Int} {i a b:Nat} {all k most:Int} {t:Nat} (hl:ov es f i a b all f') (hk:k ≠ 0) (hp:la N es f' (fun j=>j ≠ i) a (most - all) (fun n=>if n = b then most else 0) k t f2) :
  t = b ∧ 0 < k ∧ all + k ≤ most ∧ ov es f i a b (all + k) f2:=by
 obtain ⟨⟨h1,h2,h3,h4,h5⟩,h6,h7⟩:=hp.yes hk;have ht:t = b:=by
  by_cases e:t = b
  ·exact e
  ·rw [if_neg e] at h3; omega
 subst ht;refine ⟨rfl,h1,by omega,hp.inb,fun n=>?_, ?_⟩
 ·rw [h6 n,hl.net n]
  split <;> split <;> omega
 ·rw [← hl.out];exact Classical.byContradiction fun e=>h7 i e rfl
omit h in
theorem ov.stop {f' f2:Nat → Int} {i a b:Nat} {all most:Int} {t:Nat} (hab:0 < most) (hba:b ≠ a) (hbN:b < N) (hp:la N es f' (fun j=>j ≠ i) a (most - all) (fun n=>if n = b then most else 0) 0 t f2) :
  f2 = f' ∧ ¬ ∃ l,dj es f' 1 (fun j=>j ≠ i) b a l:=by
 obtain ⟨h1,h2⟩:=hp.no rfl;exact ⟨h1,h2 b hbN hba (by rw [if_pos rfl]; exact hab)⟩
theorem Ev {f f':Nat → Int} (hc:bE N es f) {i:Nat} (hi:i < es.length) {all:Int} (h0:0 ≤ all) (hm:all ≤ f i - es[i].low) (hl:ov es f i es[i].src es[i].dst all f')
  (hs:all = f i - es[i].low ∨ ¬ ∃ l,dj es f' 1 (fun j=>j ≠ i) es[i].dst es[i].src l) :
  bE N es (cG f' i (-all)) ∧ cG f' i (-all) i = f i - all ∧ ∀ g,bE N es g → f i - all ≤ g i:=by
 have hv:cG f' i (-all) i = f i - all:=by unfold cG; rw [if_pos rfl,hl.out]; omega
 have hne:=h.ne es[i] (List.getElem_mem hi);have hg:bE N es (cG f' i (-all)):=by
  refine ⟨fun j hj=>?_,fun n hn=>?_⟩
  ·by_cases e:j = i
   ·subst e; rw [hv]; have:=hc.inb j hj; omega
   ·have:cG f' i (-all) j = f' j:=by unfold cG; rw [if_neg e]
    rw [this]; exact hl.inb j hj
  ·rw [iT,dif_pos (by omega),hl.net n,hc.net n hn];simp only [Nat.sub_zero];by_cases e1:n = es[i].src <;> by_cases e2:n = es[i].dst
   ·exact absurd (e1.symm.trans e2) hne
   ·rw [if_pos e1,if_neg e2,if_neg (Ne.symm e2),if_pos e1.symm]; omega
   ·rw [if_neg e1,if_pos e2,if_pos e2.symm,if_neg (Ne.symm e1)]; omega
   ·rw [if_neg e1,if_neg e2,if_neg (Ne.symm e2),if_neg (Ne.symm e1)]; omega
 refine ⟨hg,hv,fun g hg'=>?_⟩;rcases hs with e | e
 ·have:=(hg'.inb i hi).1; omega
 ·rw [← hv];refine GP h hg hg' hi fun ⟨l,hl'⟩=>e ⟨l,hl'.Ga fun j hj=>?_⟩;unfold cG; rw [if_neg hj]
theorem CP {f f':Nat → Int} (hc:bE N es f) {i:Nat} (hi:i < es.length) {all:Int} (h0:0 ≤ all) (hm:all ≤ es[i].high - f i) (hl:ov es f i es[i].dst es[i].src all f')
  (hs:all = es[i].high - f i ∨ ¬ ∃ l,dj es f' 1 (fun j=>j ≠ i) es[i].src es[i].dst l) :
  bE N es (cG f' i all) ∧ cG f' i all i = f i + all ∧ ∀ g,bE N es g → g i ≤ f i + all:=by
 have hv:cG f' i all i = f i + all:=by unfold cG; rw [if_pos rfl,hl.out]
 have hne:=h.ne es[i] (List.getElem_mem hi);have hg:bE N es (cG f' i all):=by
  refine ⟨fun j hj=>?_,fun n hn=>?_⟩
  ·by_cases e:j = i
   ·subst e; rw [hv]; have:=hc.inb j hj; omega
   ·have:cG f' i all j = f' j:=by unfold cG; rw [if_neg e]
    rw [this]; exact hl.inb j hj
  ·rw [iT,dif_pos (by omega),hl.net n,hc.net n hn];simp only [Nat.sub_zero];by_cases e1:n = es[i].src <;> by_cases e2:n = es[i].dst
   ·exact absurd (e1.symm.trans e2) hne
   ·rw [if_pos e1,if_neg e2,if_neg (Ne.symm e2),if_pos e1.symm]; omega
   ·rw [if_neg e1,if_pos e2,if_pos e2.symm,if_neg (Ne.symm e1)]; omega
   ·rw [if_neg e1,if_neg e2,if_neg (Ne.symm e2),if_neg (Ne.symm e1)]; omega
 refine ⟨hg,hv,fun g hg'=>?_⟩;rcases hs with e | e
 ·have:=(hg'.inb i hi).2; omega
 ·rw [← hv];refine G6 h hg hg' hi fun ⟨l,hl'⟩=>e ⟨l,hl'.Ga fun j hj=>?_⟩;unfold cG; rw [if_neg hj]
omit h in
theorem Ae {f1 f2:Nat → Int} {i:Nat} {lo hi:Int} (h1:bE N es f1 ∧ f1 i = lo ∧ ∀ g,bE N es g → lo ≤ g i) (h2:bE N es f2 ∧ f2 i = hi ∧ ∀ g,bE N es g → g i ≤ hi):ik N es i lo hi:=
 ⟨⟨f1,h1.1,h1.2.1⟩,⟨f2,h2.1,h2.2.1⟩,fun g hg=>⟨h1.2.2 g hg,h2.2.2 g hg⟩⟩
omit h in
theorem LP {M:Int} (hM:0 ≤ M) (n:Nat) (f:Nat → Int):∀ (es:List aI) (i:Nat),(∀ k,k < es.length → -M ≤ f (i + k) ∧ f (i + k) ≤ M) → - (2 * M * es.length) ≤ aS n es i f ∧ aS n es i f ≤ 2 * M * es.length
 | [],i,_=>by simp [aS]
 | e :: r,i,hb=>by
  have ih:=LP hM n f r (i + 1) fun k hk=>by have:=hb (k + 1) (by simpa using hk); rw [show i + 1 + k = i + (k + 1) by omega]; exact this
  have h0:=hb 0 (by simp);rw [Nat.add_zero] at h0;simp only [aS,List.length_cons];have e1:2 * M * ((r.length + 1:Nat):Int) = 2 * M * r.length + 2 * M:=by rw [Int.natCast_add,Int.mul_add]; simp
  rw [e1]
  split <;> split <;> omega
omit h in
theorem FF {n:Nat} {j:b8} (hj:eS n j):-aw ≤ (cZ n j).low ∧ (cZ n j).high ≤ aw:=by
 have h1:=hj.lo;have h2:=hj.hi;unfold Big at h1 h2;unfold cZ aw;dsimp only;omega
end Go.AM
