/- Pulled out of other texts (pull.py): strings and numbers, by the library. Chapter 09: lists joined; papers that may be wrong: of the program. Chapter 09: the text of a yard, row by row: of the program. The text of a yard of waste is short. Plain. -/
import Derived.Test.YtlmhkldmpggadaaGreatDoorP32
import Derived.Test.YtlmhkldmpggadaaGreatDoorP28
import Derived.Test.YtlmhkldmpggadaaGreatDoorP42
import Derived.Test.YtlmhkldmpggadaaGreatDoorP40
import Derived.Test.YtlmhkldmpggadaaGreatDoorP29
namespace Go.AM
open Go.Proofs
set_option maxRecDepth 100000
set_option maxHeartbeats 1000000
theorem data_inj {a b:ByteArray} (h:a.data.toList = b.data.toList):a = b:=by
 obtain ⟨a⟩:=a;obtain ⟨b⟩:=b;have:a = b:=Array.toList_inj.1 h;rw [this]
theorem mM (l:List UInt8):(bytes l).data.toList = l:=by simp [bytes]
abbrev Wd:=List UInt8
def aA (b:ByteArray):Wd:=b.data.toList
theorem bF (w:Wd):aA (bytes w) = w:=mM w
theorem IF:(1,Lib.pow10Tab.map fun z=>(IntKind.u64,z)) ∈ ew:=by
 have e:(Lib.pow10Tab.map fun z=>(IntKind.u64,z)) = xO:=by decide
 rw [e]; exact List.mem_cons_self
theorem pJ (n:Int) (h0:-9223372036854775808 ≤ n) (h1:n ≤ 9223372036854775807) (σ:af) :
  Spec Tryz.prog Lc [.int .i64 n] σ fun r σ'=>r = .ret (.str (bytes (Lib.itoa n))) ∧ σ' = σ:=
 Spec.itoa Tryz.JK (by kernel_rfl) IF n h0 h1 σ
def spB:ByteArray:=⟨#[32]⟩
theorem G3 (l:List ByteArray) (hN:l.length ≤ 140737488355328) (hlen:(bB 32 (l.map aA)).length ≤ 140737488355328) (σ:af) :
  Spec Tryz.prog Ma [.slice 1 (l.map .str), .str spB] σ fun r σ'=>r = .ret (.str (bytes (bB 32 (l.map aA)))) ∧ σ' = σ:=by
 have e:Lib.join (l.map fun x=>x.data.toList) spB.data.toList = bB 32 (l.map aA):=E7 32 _;have:=Spec.join Tryz.K2 Tryz.tn l spB hN (by rw [e]; exact hlen) σ;unfold Ms at this;rw [e] at this;exact this
theorem Ei (b k:Nat) (bs:List UInt8) (y:ByteArray) (σ:af) (hb:σ[b]? = some (.bld k bs)) (hlen:bs.length + y.size ≤ 140737488355328) :
  Spec Tryz.prog LF [.ptr b 0, .str y] σ fun r σ'=>r = .ret (.tup [.int .i64 y.size, .niliface]) ∧ σ' = σ.set b (.bld (k + 1) (bs ++ y.data.toList)):=yx b k bs y σ hb hlen
def nlB:ByteArray:=⟨#[10]⟩
theorem GU (x:ByteArray) (hx:x.size ≤ 281474976710656) (σ:af):∃ te,Spec Tryz.prog Lr [.str x] σ fun r σ'=>r = .ret (wj x te) ∧ σ' = σ:=
 ⟨_,Spec.atoi Tryz.HE (by decide) (by decide) x hx σ⟩
theorem Jv (x:ByteArray) (hx:x.size ≤ 6000) (σ:af):Spec Tryz.prog OF [.str x, .str nlB] σ fun r σ'=>r = .ret (.tup [.str (bytes (Lib.cut (aA x) [10]).1), .str (bytes (Lib.cut (aA x) [10]).2.1), .bool (Lib.cut (aA x) [10]).2.2]) ∧ σ' = σ:=
 Spec.cut Tryz.KR (by decide) x nlB (by omega) σ
theorem Ef (x:ByteArray) (hx:x.size ≤ 6000) (σ:af):Spec Tryz.prog Lo [.str x, .str spB] σ fun r σ'=>r = .ret (.slice 1 ((ly x spB).map .str)) ∧ σ' = σ:=
 Spec.split Tryz.KB (by kernel_rfl) (by decide) x spB (by omega) (by decide) σ
theorem Im (x:ByteArray):(ly x spB).map aA = cutAt 32 (aA x):=by
 have h:=Lib.splitB_data spB 0 (Lib.countB x spB) x;have e:(ly x spB).map aA = Lib.splitK spB.data.toList 0 (Lib.countB x spB) x.data.toList:=h;rw [e];have e2:Lib.countB x spB = Lib.count x.data.toList [32]:=rfl;rw [e2];unfold Lib.count;rw [n0 32 _ _ (by omega)];exact uS 32 _ _ (Nat.le_refl _)
theorem mB (b:UInt8):∀ l,(cutAt b l).length ≤ l.length + 1 ∧ ∀ p ∈ cutAt b l,p.length ≤ l.length
 | []=>by simp [cutAt]
 | c :: r=>by
  obtain ⟨h1,h2⟩:=mB b r;simp only [cutAt];split
  ·refine ⟨by simp; omega,fun p hp=>?_⟩;rcases List.mem_cons.1 hp with rfl | hp
   ·simp
   ·have:=h2 p hp; simp; omega
  ·cases hq:cutAt b r with
   | nil=>exact absurd hq (jr b r)
   | cons x q=>
    rw [hq] at h1 h2;refine ⟨by simp at h1 ⊢; omega,fun p hp=>?_⟩;rcases List.mem_cons.1 hp with rfl | hp
    ·have:=h2 x (by simp); simp; omega
    ·have:=h2 p (by simp [hp]); simp; omega
theorem cL (x:ByteArray):(aA x).length = x.size:=by simp [aA]
theorem eo (w:Wd):(bytes w).size = w.length:=by simp [bytes,ByteArray.size]
theorem ji (a b:ByteArray):aA (a ++ b) = aA a ++ aA b:=by simp [aA]
theorem GG (a b:Wd):bytes (a ++ b) = bytes a ++ bytes b:=data_inj (by rw [mM]; show _ = aA _; rw [ji,bF,bF])
theorem mC {a b:ByteArray} (h:aA a = aA b):a = b:=data_inj h
theorem SP (u:Nat):Lib.decDigits u = if u < 10 then [UInt8.ofNat (48 + u)] else Lib.decDigits (u / 10) ++ [UInt8.ofNat (48 + u % 10)]:=by
 conv=>lhs; rw [Lib.decDigits]
 simp only [dite_eq_ite]
theorem o6 (n:Nat):Lib.itoa (n:Int) = Lib.decDigits n:=by rw [rK (by omega)]; rfl
theorem oQ (n:Nat) (h:n ≤ 1000000000):(Lib.decDigits n).length ≤ 10:=by
 have:=oZ (n:=(n:Int)) (by omega) (k:=10) (by omega) (by omega)
 rwa [o6] at this
theorem gv (n:Nat) (hn:n ≤ 1000000000) (σ:af):Spec Tryz.prog I2 [ii' n] σ fun r σ'=>r = .ret (.str (bytes (Lib.itoa n))) ∧ σ' = σ:=by
 refine Spec.aF (PZ (by simp) (aa _ ?_)) rfl rfl σ;rw [o6];have hlen:=oQ n hn;simp [Lt,show ¬ (n:Int) < 0 by omega];refine AW.loop (ι:=Nat) (fun m fr σ=>∃ out,fr = { v:=[(0, .int .i64 m),(3, .str out)],ds:=[] } ∧ m ≤ 1000000000 ∧ Lib.decDigits m ++ aA out = Lib.decDigits n) (fun m=>m) n ⟨_,rfl,hn,by simp [aA]⟩ ?_;rintro m fr σ ⟨out,rfl,hm,hd⟩;have hol:out.size ≤ 10:=by
  have:=congrArg List.length hd;rw [List.length_append,cL] at this;omega
 obtain ⟨k,hk⟩:∃ k:Nat,48 + m % 10 = k:=⟨_,rfl⟩;have ewq:IntKind.i64.wrap (48 + (m:Int).tmod 10) = (k:Int):=by
  rw [Int.tmod_eq_emod_of_nonneg (by omega),aq (by omega) (by omega)]; omega
 have ew2:IntKind.u8.wrap (k:Int) = (k:Int):=by
  have:k < 58:=by omega
  rw [show IntKind.u8.wrap (k:Int) = (k:Int) % 256 from by simp [IntKind.wrap,IntKind.bits,IntKind.signed]];omega
 have hdm:=SP m;have hsz1:∀ c:UInt8,(⟨#[c]⟩:ByteArray).size = 1:=fun _=>rfl;have hraw1:∀ (c:UInt8) (b:ByteArray),aA ((⟨#[c]⟩:ByteArray) ++ b) = c :: aA b:=fun c b=>by rw [ji]; rfl
 rcases Nat.lt_or_ge m 10 with h10 | h10
 ·have eq:IntKind.i64.wrap ((m:Int) / 10) = 0:=by
   rw [aq (by omega) (by omega)]; omega
  rw [if_pos h10,show 48 + m = k by omega] at hdm;refine aa _ ?_;simp [ewq,ew2,eq,u8s,hsz1];refine ⟨by omega, ?_⟩;apply mC;rw [hraw1,bF, ← hd,hdm]; rfl
 ·have eq:IntKind.i64.wrap ((m:Int) / 10) = ((m / 10:Nat):Int):=by
   rw [aq (by omega) (by omega)]; omega
  obtain ⟨j,hj⟩:=zqq (m / 10);rw [if_neg (by omega),hk,hj] at hdm;rw [hj] at eq;have hj0:¬ j = 0:=by omega
  refine aa _ ?_;simp [ewq,ew2,eq,hj0,u8s,hsz1];refine ⟨by omega, ?_⟩;have hgo:Lib.decDigits j ++ aA ((⟨#[UInt8.ofNat k]⟩:ByteArray) ++ out) = Lib.decDigits n:=by rw [hraw1, ← hd,hdm]; simp
  exact ⟨j,by omega,_,⟨rfl,rfl⟩,by omega,hgo⟩
theorem Cy (s:ByteArray) (i:Nat) (h:i < s.size):s.extract i (i + 1) = bytes [s.data[i]?.getD 0]:=by
 apply mC;rw [bF];have h':i < s.data.size:=h;have h2:i < s.data.toList.length:=by simpa using h'
 have e:s.data[i]?.getD 0 = s.data.toList[i]:=by rw [Array.getElem?_eq_getElem h']; simp
 rw [e];simp only [aA,ByteArray.data_extract,Array.toList_extract];rw [List.extract_eq_take_drop];rw [List.drop_eq_getElem_cons h2];simp
theorem Aw (s:ByteArray) (i:Nat) (h:i < s.size):∃ c,s.data[i]?.getD 0 = c ∧ (aA s).drop i = c :: (aA s).drop (i + 1):=by
 have h':i < s.data.size:=h;have h2:i < (aA s).length:=by rw [cL]; exact h
 refine ⟨_,rfl, ?_⟩;rw [List.drop_eq_getElem_cons h2];have e:s.data[i]?.getD 0 = (aA s)[i]:=by rw [Array.getElem?_eq_getElem h']; simp [aA]
 rw [e]
theorem rY (s:ByteArray) (b:UInt8) (hs:s.size ≤ 6000) (σ:af) :
  Spec Tryz.prog Ih [.str s, .int .u8 b.toNat] σ fun r σ'=>r = .ret (.slice 1 ((cutAt b (aA s)).map fun w=>.str (bytes w))) ∧ σ' = σ:=by
 refine Spec.aF (Rn (by simp) (aa _ ?_)) rfl (by simp [ag.pure,aD (f:=fun w=>ag.str (bytes w)) (fun _=>rfl)]) σ;obtain ⟨R,hR⟩:=zqq (cutAt b (aA s));have hRl:R.length ≤ 6001:=by rw [← hR]; have:=(mB b (aA s)).1; rw [cL] at this; omega
 rw [hR];simp [Lh];refine AW.loop (ι:=Nat) (fun i fr σ=>∃ (O:List Wd) (p:Wd) (q:Nat),fr = { v:=[(0, .str s),(1, .int .u8 b.toNat),(5, .oslice 1 (O.map fun w=>.str (bytes w)) 0 q),(6, .str (bytes p)),(7, .int .i64 i)],ds:=[] } ∧ σ = [.spare 1 q] ∧ i ≤ s.size ∧ p.length ≤ i ∧ b ∉ p ∧ R = O ++ cutAt b (p ++ (aA s).drop i)) (fun i=>s.size - i) 0 ⟨[],[],0,by simp [bytes],rfl,by omega,by simp,by simp,by simp [hR]⟩ ?_;rintro i fr σ ⟨O,p,q,rfl,rfl,hi,hpl,hbp,hRe⟩;have fOq:∀ w:Wd,Fits 1 [.str (bytes w)]:=fun w v hv=>by simp at hv; subst hv; exact ⟨by simp [cB],by simp [ag.cells,fM,ag.gJ]⟩
 have hbz:∀ w:Wd,(bytes w).size = w.length:=eo;refine (Nat.lt_or_ge i s.size).elim (fun hlt=>?_) (fun hge=>?_)
 ·obtain ⟨c,hc,hd⟩:=Aw s i hlt;have hx:=Cy s i hlt;rw [hc] at hx;rw [hd] at hRe;have hc2:∀ h:i < s.data.size,s.data[i]'h = c:=fun h=>by rw [Array.getElem?_eq_getElem h] at hc; exact hc
  have hwi:IntKind.i64.wrap ((i:Int) + 1) = ((i + 1:Nat):Int):=by rw [aq (by omega) (by omega)]; simp
  have hwT:((i:Int) + 1).toNat = i + 1:=by omega
  rcases Decidable.em (c = b) with hcb | hcb
  ·subst hcb;rw [gR _ _ _ hbp] at hRe;have hOl:O.length ≤ 6000:=by
    have:=congrArg List.length hRe;rw [List.length_append,List.length_cons] at this; omega
   refine aa _ ?_;simp [hlt,hc2,hwi,fOq];exact ⟨by omega,i + 1,by omega,O ++ [p],[],q + 1,⟨⟨by simp,rfl⟩,rfl,by simp⟩,rfl,by omega,by simp,by simp,by rw [hRe]; simp⟩
  ·have hcI:¬ (c.toNat:Int) = (b.toNat:Int):=fun e=>hcb (UInt8.toNat_inj.1 (by omega));have hpc:bytes p ++ bytes [c] = bytes (p ++ [c]):=(GG p [c]).symm;refine aa _ ?_;simp [hlt,hc2,hcI,hwi,hwT,hx,hpc,hbz];exact ⟨⟨by omega,by omega⟩,by omega,i + 1,by omega,O,p ++ [c],q,⟨⟨rfl,rfl⟩,rfl,by simp⟩,rfl,by omega,by simp; omega,by simp [hbp,Ne.symm hcb],by rw [hRe]; simp⟩
 ·obtain rfl:i = s.size:=by omega
  rw [← cL,List.drop_length,List.append_nil,iO _ _ hbp] at hRe;refine aa _ ?_;simp [fOq];have hOl:O.length ≤ 6000:=by
   have:=congrArg List.length hRe;rw [List.length_append,List.length_singleton] at this; omega
  exact ⟨by omega,by rw [hRe]; simp⟩
theorem zR:∀ (l:List UInt8) (a:Nat),(∀ c ∈ l,sA c) → nO a l < (a + 1) * 10 ^ l.length
 | [],a,_=>by simp [nO]
 | c :: l,a,h=>by
  have h1:48 ≤ c.toNat ∧ c.toNat ≤ 57:=h c (by simp);have ih:=zR l (a * 10 + (c.toNat - 48)) fun d hd=>h d (by simp [hd]);have e:nO a (c :: l) = nO (a * 10 + (c.toNat - 48)) l:=rfl;rw [e,List.length_cons,Nat.pow_succ];have:(a * 10 + (c.toNat - 48) + 1) ≤ (a + 1) * 10:=by omega
  have:=Nat.mul_le_mul_right (10 ^ l.length) this;rw [show (a + 1) * (10 ^ l.length * 10) = (a + 1) * 10 * 10 ^ l.length by rw [Nat.mul_assoc,Nat.mul_comm 10]];omega
theorem y6 (l:List UInt8) (c:UInt8):nO 0 (l ++ [c]) = nO 0 l * 10 + (c.toNat - 48):=by
 unfold nO; rw [List.foldl_append]; rfl
theorem fI (s:ByteArray) (hs:s.size ≤ 6000) (σ:af) :
  Spec Tryz.prog HR [.str s] σ fun r σ'=>r = .ret (ii' (j8 (aA s))) ∧ σ' = σ:=by
 refine Spec.aF (Ot (by simp) ?_) rfl rfl σ;have n1:=gx s.size 1 9;obtain ⟨R,hR⟩:=zqq (j8 (aA s));rw [hR];unfold j8 at hR;rw [cL] at hR;rcases tf (tD (s.size:Int) 1 9) with h | h
 ·rw [h] at n1;rw [if_pos (.inl (by simp [tD] at h; omega))] at hR;subst hR;refine aa _ ?_;simp [Bd];refine ah.pure wX (n1 _) ?_;simp
 rw [h] at n1;have hsz:1 ≤ s.size ∧ s.size ≤ 9:=by simp [tD] at h; omega
 obtain ⟨c0,hc0,hd0⟩:=Aw s 0 (by omega);have hc0':∀ h:0 < s.data.size,s.data[0]'h = c0:=fun h=>by rw [Array.getElem?_eq_getElem h] at hc0; exact hc0
 have hhd:(aA s).head? = some c0:=by
  rw [List.drop_zero] at hd0; rw [hd0]; rfl
 rcases Decidable.em (1 < s.size ∧ c0 = 48) with hz | hz
 ·rw [if_pos (.inr ⟨hz.1,by rw [hhd,hz.2]⟩)] at hR;subst hR;have h1:=hz.1;have h48:(c0.toNat:Int) = 48:=by rw [hz.2]; rfl
  refine aa _ ?_;simp [Bd];refine ah.pure wX (n1 _) ?_;simp [show (1:Int) < s.size by omega,hc0',h48,show 0 < s.size by omega]
 rw [if_neg (by
  rintro (h1 | ⟨h1,h2⟩)
  ·exact h1 hsz
  ·rw [hhd] at h2; exact hz ⟨h1,Option.some.inj h2⟩)] at hR
 have h48:1 < s.size → ¬ (c0.toNat:Int) = 48:=fun h1 e=>hz ⟨h1,UInt8.toNat_inj.1 (by show c0.toNat = 48; omega)⟩;rcases Nat.lt_or_ge 1 s.size with h1 | h1
 ·have h48:=h48 h1;refine aa _ ?_;simp [Bd];refine ah.pure wX (n1 _) ?_;simp [show (1:Int) < s.size by omega,hc0',h48,show 0 < s.size by omega];refine AW.loop (ι:=Nat) (fun i fr σ=>∃ v:Nat,fr = { v:=[(0, .str s),(3, .int .i64 v),(4, .int .i64 i)],ds:=[] } ∧ i ≤ s.size ∧ v = nO 0 ((aA s).take i) ∧ ∀ c ∈ (aA s).take i,sA c) (fun i=>s.size - i) 0 ⟨0,rfl,by omega,rfl,by simp⟩ ?_;rintro i fr σ ⟨v,rfl,hi,hv,hdg⟩;refine (Nat.lt_or_ge i s.size).elim (fun hlt=>?_) (fun hge=>?_)
  ·obtain ⟨c,hc,hd⟩:=Aw s i hlt;have hc':∀ h:i < s.data.size,s.data[i]'h = c:=fun h=>by rw [Array.getElem?_eq_getElem h] at hc; exact hc
   have hil:i < (aA s).length:=by rw [cL]; exact hlt
   have hgi:(aA s)[i] = c:=by
    have:=List.drop_eq_getElem_cons hil;rw [hd] at this; exact ((List.cons.inj this).1).symm
   have htk:(aA s).take (i + 1) = (aA s).take i ++ [c]:=by rw [List.take_succ_eq_append_getElem hil,hgi]
   have hvb:=zR ((aA s).take i) 0 hdg;rw [← hv] at hvb;have hpw:10 ^ ((aA s).take i).length ≤ 10 ^ 8:=Nat.pow_le_pow_right (by omega) (by simp [cL]; omega);have hv8:v < 100000000:=by omega
   have hcl:c.toNat < 256:=c.toNat_lt;have hwi:IntKind.i64.wrap ((i:Int) + 1) = ((i + 1:Nat):Int):=by rw [aq (by omega) (by omega)]; simp
   rcases Decidable.em (48 ≤ c.toNat ∧ c.toNat ≤ 57) with hcd | hcd
   ·have e1:IntKind.i64.wrap (10 * (v:Int)) = 10 * (v:Int):=aq (by omega) (by omega);have e2:IntKind.i64.wrap (c.toNat:Int) = (c.toNat:Int):=aq (by omega) (by omega);have e3:IntKind.i64.wrap (10 * (v:Int) + (c.toNat:Int)) = 10 * (v:Int) + (c.toNat:Int):=aq (by omega) (by omega);have e4:IntKind.i64.wrap (10 * (v:Int) + (c.toNat:Int) - 48) = ((v * 10 + (c.toNat - 48):Nat):Int):=by rw [aq (by omega) (by omega)]; omega
    have hl1:¬ (c.toNat:Int) < 48:=by omega
    have hl2:¬ (57:Int) < c.toNat:=by omega
    obtain ⟨w,hw⟩:=zqq (v * 10 + (c.toNat - 48));rw [hw] at e4;refine aa _ ?_;simp [hlt,hc',hl1,hl2,e1,e2,e3,e4,hwi]
    exact ⟨i + 1,by omega,w,⟨rfl,by simp⟩,by omega,by rw [htk,y6, ← hv,hw],fun d hdm=>by
     rw [htk,List.mem_append,List.mem_singleton] at hdm
     exact hdm.elim (hdg d) fun e=>e ▸ hcd⟩
   ·have hbad:¬ ((aA s).all (fun c=>decide (48 ≤ c.toNat ∧ c.toNat ≤ 57)) = true):=by
     rw [List.all_eq_true];intro hh;have:=hh c (hgi ▸ List.getElem_mem hil);exact hcd (by simpa using this)
    rw [if_neg hbad] at hR;subst hR;have hcd2:(c.toNat:Int) < 48 ∨ ¬ (c.toNat:Int) < 48 ∧ (57:Int) < c.toNat:=by omega
    rcases hcd2 with hl1 | ⟨hl1,hl2⟩
    ·refine aa _ ?_;simp [hlt,hc',hl1]
    ·refine aa _ ?_;simp [hlt,hc',hl1,hl2]
  ·obtain rfl:i = s.size:=by omega
   have htk:(aA s).take s.size = aA s:=List.take_of_length_le (by rw [cL]; omega);rw [htk] at hv hdg;have hall:(aA s).all (fun c=>decide (48 ≤ c.toNat ∧ c.toNat ≤ 57)) = true:=by
    rw [List.all_eq_true];intro c hc;exact decide_eq_true (hdg c hc)
   rw [if_pos hall, ← hv] at hR;subst hR;refine aa _ ?_;simp
 ·refine aa _ ?_;simp [Bd];refine ah.pure wX (n1 _) ?_;simp [show ¬ (1:Int) < s.size by omega];refine AW.loop (ι:=Nat) (fun i fr σ=>∃ v:Nat,fr = { v:=[(0, .str s),(3, .int .i64 v),(4, .int .i64 i)],ds:=[] } ∧ i ≤ s.size ∧ v = nO 0 ((aA s).take i) ∧ ∀ c ∈ (aA s).take i,sA c) (fun i=>s.size - i) 0 ⟨0,rfl,by omega,rfl,by simp⟩ ?_;rintro i fr σ ⟨v,rfl,hi,hv,hdg⟩;refine (Nat.lt_or_ge i s.size).elim (fun hlt=>?_) (fun hge=>?_)
  ·obtain ⟨c,hc,hd⟩:=Aw s i hlt;have hc':∀ h:i < s.data.size,s.data[i]'h = c:=fun h=>by rw [Array.getElem?_eq_getElem h] at hc; exact hc
   have hil:i < (aA s).length:=by rw [cL]; exact hlt
   have hgi:(aA s)[i] = c:=by
    have:=List.drop_eq_getElem_cons hil;rw [hd] at this; exact ((List.cons.inj this).1).symm
   have htk:(aA s).take (i + 1) = (aA s).take i ++ [c]:=by rw [List.take_succ_eq_append_getElem hil,hgi]
   have hvb:=zR ((aA s).take i) 0 hdg;rw [← hv] at hvb;have hpw:10 ^ ((aA s).take i).length ≤ 10 ^ 8:=Nat.pow_le_pow_right (by omega) (by simp [cL]; omega);have hv8:v < 100000000:=by omega
   have hcl:c.toNat < 256:=c.toNat_lt;have hwi:IntKind.i64.wrap ((i:Int) + 1) = ((i + 1:Nat):Int):=by rw [aq (by omega) (by omega)]; simp
   rcases Decidable.em (48 ≤ c.toNat ∧ c.toNat ≤ 57) with hcd | hcd
   ·have e1:IntKind.i64.wrap (10 * (v:Int)) = 10 * (v:Int):=aq (by omega) (by omega);have e2:IntKind.i64.wrap (c.toNat:Int) = (c.toNat:Int):=aq (by omega) (by omega);have e3:IntKind.i64.wrap (10 * (v:Int) + (c.toNat:Int)) = 10 * (v:Int) + (c.toNat:Int):=aq (by omega) (by omega);have e4:IntKind.i64.wrap (10 * (v:Int) + (c.toNat:Int) - 48) = ((v * 10 + (c.toNat - 48):Nat):Int):=by rw [aq (by omega) (by omega)]; omega
    have hl1:¬ (c.toNat:Int) < 48:=by omega
    have hl2:¬ (57:Int) < c.toNat:=by omega
    obtain ⟨w,hw⟩:=zqq (v * 10 + (c.toNat - 48));rw [hw] at e4;refine aa _ ?_;simp [hlt,hc',hl1,hl2,e1,e2,e3,e4,hwi]
    exact ⟨i + 1,by omega,w,⟨rfl,by simp⟩,by omega,by rw [htk,y6, ← hv,hw],fun d hdm=>by
     rw [htk,List.mem_append,List.mem_singleton] at hdm
     exact hdm.elim (hdg d) fun e=>e ▸ hcd⟩
   ·have hbad:¬ ((aA s).all (fun c=>decide (48 ≤ c.toNat ∧ c.toNat ≤ 57)) = true):=by
     rw [List.all_eq_true];intro hh;have:=hh c (hgi ▸ List.getElem_mem hil);exact hcd (by simpa using this)
    rw [if_neg hbad] at hR;subst hR;have hcd2:(c.toNat:Int) < 48 ∨ ¬ (c.toNat:Int) < 48 ∧ (57:Int) < c.toNat:=by omega
    rcases hcd2 with hl1 | ⟨hl1,hl2⟩
    ·refine aa _ ?_;simp [hlt,hc',hl1]
    ·refine aa _ ?_;simp [hlt,hc',hl1,hl2]
  ·obtain rfl:i = s.size:=by omega
   have htk:(aA s).take s.size = aA s:=List.take_of_length_le (by rw [cL]; omega);rw [htk] at hv hdg;have hall:(aA s).all (fun c=>decide (48 ≤ c.toNat ∧ c.toNat ≤ 57)) = true:=by
    rw [List.all_eq_true];intro c hc;exact decide_eq_true (hdg c hc)
   rw [if_pos hall, ← hv] at hR;subst hR;refine aa _ ?_;simp
theorem F7 (n:Nat) (hn:n ≤ 100000) (σ:af) :
  Spec Tryz.prog Le [.nils 1, .int .i64 n] σ fun r σ'=>r = .ret (.sref 1 σ.length 0 0 0) ∧ σ' = σ ++ [.arr 1 []]:=
 Spec.Kv Tryz.PN ((Tryz.prog.info? 3).getD default) (.int .i64 0) (by kernel_rfl) (by kernel_rfl) (by kernel_rfl) rfl (Nat.le_of_eq (by kernel_rfl:((Tryz.prog.info? 3).getD default).bytes = 8)) n hn σ
theorem zP {ls:List (List Nat)} {i:Nat} (h:i < ls.length):(ls.take (i + 1)).flatten = (ls.take i).flatten ++ ls[i]:=by
 rw [List.take_add_one,List.flatten_append];simp [h]
theorem rU (ls:List (List Nat)) (i:Nat):(ls.take i).flatten.length ≤ ls.flatten.length:=by
 conv=>rhs; rw [← List.take_append_drop i ls,List.flatten_append,List.length_append]
 omega
def fT (ls:List (List Nat)) (i:Nat):Nat:=(ls.take i).flatten.length
def yg (ls:List (List Nat)) (i:Nat):List ag:=(bb (ls.take i).flatten).map ii'
theorem qI (ls:List (List Nat)) (h1:ls.length ≤ 100000) (h2:ls.flatten.length ≤ 100000) (σ:af) :
  Spec Tryz.prog N7 [.slice 1 (ls.map mQ)] σ fun r σ'=>r = .ret (.sref 1 σ.length 0 ls.flatten.length ls.flatten.length) ∧ σ' = σ ++ [.arr 1 ((bb ls.flatten).map ii')]:=by
 refine UT (by simp) ?_;refine aa _ ?_;simp [Qs];refine AW.loop (ι:=Nat) (fun i fr σ'=>fr = { v:=[(0, .slice 1 (ls.map mQ)),(3, .int .i64 (fT ls i)),(9, .slice 1 (ls.map mQ)),(10, .int .i64 ls.length),(11, .int .i64 i)],ds:=[] } ∧ σ' = σ ∧ i ≤ ls.length) (fun i=>ls.length - i) 0 ⟨by simp [fT],rfl,by omega⟩ ?_;rintro i fr σ' ⟨rfl,rfl,hi⟩;refine (Nat.lt_or_ge i ls.length).elim (fun hlt=>?_) (fun hge=>?_)
 ·have hltI:(i:Int) < ls.length:=by omega
  have hwi:IntKind.i64.wrap ((i:Int) + 1) = ((i + 1:Nat):Int):=by rw [aq (by omega) (by omega)]; simp
  have hft:=zP hlt;have hle:=rU ls (i + 1);obtain ⟨l,hl⟩:=zqq (ls[i]);rw [hl] at hft;have hnl:(bb l).length = l.length:=by simp [bb]
  rw [hft,List.length_append] at hle;have hw2:IntKind.i64.wrap (((ls.take i).flatten.length:Int) + l.length) = ((ls.take i).flatten.length:Int) + l.length:=aq (by omega) (by omega);have hnn:¬ (((ls.take i).flatten.length:Int) + l.length) < 0:=by omega
  have hs1:fT ls (i + 1) = fT ls i + l.length:=by unfold fT; rw [hft,List.length_append]
  change IntKind.i64.wrap ((fT ls i:Int) + l.length) = (fT ls i:Int) + l.length at hw2;change ¬ ((fT ls i:Int) + l.length) < 0 at hnn;obtain ⟨c,hc⟩:=zqq (fT ls i);rw [hc] at hw2 hnn hs1 ⊢;refine aa _ ?_;simp [hlt,hltI,hl,mQ,hnl,hw2,hnn,hwi];exact ⟨i + 1,by omega,⟨by rw [hs1]; simp,by simp⟩,by omega⟩
 obtain rfl:i = ls.length:=by omega
 obtain ⟨F,hF⟩:=zqq ls.flatten;have hsF:fT ls ls.length = F.length:=by unfold fT; rw [List.take_length,hF]
 rw [hF] at h2 ⊢;rw [hsF];refine aa _ ?_;simp;refine ah.spec Se (F7 _ h2 _) ?_;rintro r σ2 ⟨rfl,rfl⟩;refine ⟨_,rfl, ?_⟩;simp;obtain ⟨B,hB⟩:=zqq (σ'.length);have gB:∀ l:af,(σ' ++ l)[B]? = l[0]?:=fun l=>by rw [← hB,List.getElem?_append_right (by omega)]; simp
 have sB:∀ (l:af) (o:cq),(σ' ++ l).set B o = σ' ++ l.set 0 o:=fun l o=>by rw [← hB,List.set_append_right _ _ (by omega)]; simp
 rw [hB];refine AW.loop (ι:=Nat) (fun i fr σ2=>fr = { v:=[(6, .sref 1 B 0 (fT ls i) (fT ls i)),(25, .slice 1 (ls.map mQ)),(26, .int .i64 ls.length),(27, .int .i64 i)],ds:=[] } ∧ σ2 = σ' ++ [.arr 1 (yg ls i)] ∧ i ≤ ls.length) (fun i=>ls.length - i) 0 ⟨by simp [fT],by simp [yg,bb],by omega⟩ ?_;rintro i fr σ2 ⟨rfl,rfl,hi⟩;refine (Nat.lt_or_ge i ls.length).elim (fun hlt=>?_) (fun hge=>?_);rotate_left
 ·obtain rfl:i = ls.length:=by omega
  have hcF:yg ls ls.length = (bb F).map ii':=by unfold yg; rw [List.take_length,hF]
  have hsum:(ls.map List.length).sum = F.length:=by rw [← hF,List.length_flatten]
  rw [hsF,hcF];refine aa _ ?_;simp [hsum]
 have hltI:(i:Int) < ls.length:=by omega
 have hwi:IntKind.i64.wrap ((i:Int) + 1) = ((i + 1:Nat):Int):=by rw [aq (by omega) (by omega)]; simp
 have hft:=zP hlt;have hle:=rU ls (i + 1);rw [hF] at hle;obtain ⟨l,hl⟩:=zqq (ls[i]);rw [hl] at hft;have hnl:(bb l).length = l.length:=by simp [bb]
 have hs1:fT ls (i + 1) = fT ls i + l.length:=by unfold fT; rw [hft,List.length_append]
 have hT:(yg ls i).length = fT ls i:=by unfold yg bb fT; rw [List.length_map,List.length_map]
 rw [hft,List.length_append] at hle;have hle2:fT ls i + l.length ≤ 100000:=by unfold fT; omega
 have hcv:yg ls (i + 1) = yg ls i ++ (bb l).map ii':=by unfold yg; rw [hft]; simp [bb]
 obtain ⟨T,hTd⟩:=zqq (yg ls i);rw [hTd] at hcv hT ⊢;obtain ⟨c,hc⟩:=zqq (fT ls i);rw [hc] at hs1 hT hle2 ⊢;by_cases hl0:l.length = 0
 ·have hl0':l = []:=List.length_eq_zero_iff.1 hl0;subst hl0';refine aa _ ?_;simp [hlt,hltI,hl,mQ,bb,gB,sB,hwi,hT];exact ⟨fun v hv=>by simp at hv,i + 1,by omega,⟨by rw [hs1]; simp,by simp⟩,by rw [hcv]; simp [bb],by omega⟩
 ·have hcl:¬ c + l.length ≤ c:=by omega
  refine aa _ ?_;simp [hlt,hltI,hl,mQ,hnl,gB,sB,hwi,hT,yE];rw [if_neg hcl];exact ⟨by omega,i + 1,by omega,⟨by rw [hs1],by simp⟩,by rw [hcv],by omega⟩
theorem Gj (l:List Int) (hl:l.length ≤ 100000) (b:Nat) (σ:af) (hb:σ[b]? = some (o5 l)) :
  Spec Tryz.prog P0 [.sref 1 b 0 l.length l.length] σ fun r σ'=>r = .ret (.tup []) ∧ σ' = σ.set b (o5 (fP l)):=
 Spec.sortInt Tryz.J9 l (by omega) b σ hb
theorem Bo {y:ab} (hm:y.papers.length ≤ 10):((mN y).getD []).length ≤ 1024 ∧ ∀ l ∈ (mN y).getD [],l.length ≤ 10 ∧ ∀ i ∈ l,i < y.papers.length:=by
 cases h:mN y with
 | none=>simp
 | some ls=>
  obtain ⟨many,hmm,he⟩:=List.exists_of_findSome?_eq_some h
  split at he
  ·cases he
  ·cases he;refine ⟨J7 hm many,fun l hl=>?_⟩;have h1:=(List.mem_filter.1 hl).1;obtain ⟨h2,h3⟩:=(nf y.papers.length many 0 l).1 h1;have h4:=List.mem_range.1 hmm;exact ⟨by omega,fun i hi=>(h3.2 i hi).2⟩
def JF (y:ab):List Nat × Int:=if iW y ≠ 0 then ([],iW y) else (Kq y ((mN y).getD []),0)
theorem o7 (y:ab) (hy:dv y) (σ:af):Spec Tryz.prog Ji [y.v] σ fun r σ'=>r = .ret (.tup [.slice 1 ((bb (JF y).1).map ii'),ii' (JF y).2]) ∧ σ' = σ:=by
 refine Spec.aF (SM (by simp) ?_) (by simp [y.pure,aH]) (by simp [ag.pure,aH,aD (f:=ii') (fun _=>rfl)]) σ;have hen:=fun σ=>iN y hy σ;simp only [ab.v,ab.cells] at hen;unfold JF;by_cases h0:iW y = 0;rotate_left
 ·rw [if_pos h0];refine aa _ ?_;simp [Ni,ab.v,ab.cells];refine ah.pure Gs (hen _) ?_;simp [h0,bb]
 rw [if_neg (by simp [h0])];have hv:=xF h0;have hm10:=hv.m10;rw [h0] at hen;have hle:=fun σ=>tL hv σ;simp only [ab.v,ab.cells] at hle;obtain ⟨s1,s2⟩:=Bo hm10;have hun:=fun r=>Di (y:=y) (ls:=(mN y).getD []) (r:=r) (fun l hl i hi=>(s2 l hl).2 i hi);obtain ⟨ls,hls⟩:=zqq ((mN y).getD []);rw [hls] at hle s1 s2 hun ⊢;have hfl:=BH ls (fun l hl=>(s2 l hl).1) s1;obtain ⟨F,hF⟩:=zqq ls.flatten;have hcon:=fun σ=>qI ls (by omega) (by omega) σ;rw [hF] at hfl;simp only [hF] at hcon hun;have hnF:(bb F).length = F.length:=by simp [bb]
 have hsl:(fP (bb F)).length = F.length:=by rw [iM,hnF]
 refine aa _ ?_;simp [Ni,ab.v,ab.cells];refine ah.pure Gs (hen _) ?_;simp;refine ah.pure SE (hle _) ?_;simp;refine ah.spec Sm (hcon _) ?_;rintro r σ2 ⟨rfl,rfl⟩;have hso:=Gj (bb F) (by omega) 1 [.dead,o5 (bb F)] rfl;rw [hnF] at hso;have hco:=AJ 1 (fP (bb F)) (by omega) (Gf _) [.dead,o5 (fP (bb F))] (by simp) rfl;rw [hsl] at hco;refine ⟨_,rfl, ?_⟩;simp;refine ah.spec S5 hso ?_;rintro r σ2 ⟨rfl,rfl⟩;refine ⟨_,rfl, ?_⟩;simp;refine ah.spec Sl hco ?_;rintro r σ2 ⟨c,z,hon,hcl,hcz,rfl,rfl⟩;refine ⟨_,rfl, ?_⟩;simp;have hmem:∀ x,x ∈ c ↔ ∃ n:Nat,n ∈ F ∧ (n:Int) = x:=fun x=>by
  rw [hon.2,(DX (bb F)).mem_iff];simp [bb]
 have hcn:bb (c.map Int.toNat) = c:=by
  unfold bb;rw [List.map_map]
  conv=>rhs; rw [← List.map_id c]
  refine List.map_congr_left fun x hx=>?_;obtain ⟨n,_,rfl⟩:=(hmem x).1 hx;simp
 have hpw:(c.map Int.toNat).Pairwise (· < ·):=by
  rw [List.pairwise_map];refine hon.1.imp_of_mem fun {a b} ha hb hab=>?_;obtain ⟨n,_,rfl⟩:=(hmem a).1 ha;obtain ⟨k,_,rfl⟩:=(hmem b).1 hb;simp;omega
 have hr:=hun (c.map Int.toNat) hpw fun x=>by
  rw [List.mem_map];constructor
  ·rintro ⟨z,hz,rfl⟩;obtain ⟨n,hn,rfl⟩:=(hmem z).1 hz;simpa using hn
  ·intro hx;exact ⟨x,(hmem x).2 ⟨x,hx,rfl⟩,by simp⟩
 rw [← hr,hcn];simp only [o5];refine ⟨trivial,by simpa using hcz,by rw [List.map_append,List.take_left' (by simp)]⟩
theorem vA (l:List ByteArray):Fits 1 (l.map ag.str):=by
 intro v hv;obtain ⟨a,_,rfl⟩:=List.mem_map.1 hv;exact ⟨⟨rfl,rfl⟩,rfl⟩
def nlS:ByteArray:=⟨#[10]⟩
theorem nt (ws:List ByteArray) (hws:ws.length ≤ 100) (hl:(bB 32 (ws.map aA)).length ≤ 10000) (b k:Nat) (bs:List UInt8) (hbs:bs.length ≤ 100000) (σ:af) (hb:σ[b]? = some (.bld k bs)) :
  Spec Tryz.prog Jy [.slice 1 (ws.map .str), .ptr b 0] σ fun r σ'=>r = .ret (.tup []) ∧ σ' = σ.set b (.bld (k + 1) (bs ++ cy (ws.map aA))):=by
 have hj:=fun σ=>G3 ws (by omega) (by omega) σ;have hsz:(bytes (bB 32 (ws.map aA)) ++ nlS).size = (bB 32 (ws.map aA)).length + 1:=by
  rw [ByteArray.size_append];simp [bytes,nlS,ByteArray.size]
 have hdt:(bytes (bB 32 (ws.map aA)) ++ nlS).data.toList = cy (ws.map aA):=by
  simp [bytes,nlS,cy]
 have hw:=Ei b k bs (bytes (bB 32 (ws.map aA)) ++ nlS) σ hb (by omega);rw [hdt] at hw;have hbz:(bytes (bB 32 (ws.map aA))).size = (bB 32 (ws.map aA)).length:=by simp [bytes,ByteArray.size]
 refine PE (by simp) (aa _ ?_);simp [Ln];refine ah.pure Q0 (hj _) ?_;simp
 refine ⟨by have e1:(⟨#[10]⟩:ByteArray).size = 1:=rfl
            rw [hbz,e1]; omega, ?_⟩
 refine ah.spec RA hw ?_;rintro r σ' ⟨rfl,rfl⟩;refine ⟨_,rfl, ?_⟩;simp
def miS:ByteArray:=⟨#[45]⟩
def mb (y:ab) (a:Int):ByteArray:=if a = -1 then miS else y.places.getD a.toNat .empty
theorem Hv (y:ab) (a:Int):aA (mb y a) = iA y a:=by
 unfold mb iA
 split <;> rfl
theorem lu (y:ab) (a:Int) (ha:-1 ≤ a ∧ a < y.places.length) (σ:af) :
  Spec Tryz.prog Iu [ii' a, .pval y.v] σ fun r σ'=>r = .ret (.str (mb y a)) ∧ σ' = σ:=by
 refine Spec.aF (PS (by simp) ?_) (by simp [y.pure,aH,ag.pure]) rfl σ;unfold mb;by_cases h:a = -1
 ·subst h;refine aa _ ?_;simp [Jr,ab.v,ab.cells];rfl
 ·obtain ⟨k,rfl⟩:∃ k:Nat,a = k:=⟨a.toNat,by omega⟩;have hk:k < y.places.length:=by omega
  refine aa _ ?_;simp [Jr,ab.v,ab.cells,h,hk]
def Gn (w:ByteArray) (y:ab) (c:ay):List ByteArray:=[w,y.kinds.getD c.kind.toNat .empty,y.places.getD c.place.toNat .empty,bytes (Lib.itoa c.lo),bytes (Lib.itoa c.hi)]
theorem CN (w:ByteArray) (y:ab) (c:ay):(Gn w y c).map aA = aR (aA w) y c:=by
 simp only [Gn,aR,List.map_cons,List.map_nil,bF];rfl
theorem lB {α β:Type} {l:List α} {i:Nat} (f:α → List β) (h:i < l.length):(l.take (i + 1)).flatMap f = (l.take i).flatMap f ++ f l[i]:=by
 rw [List.take_succ_eq_append_getElem h,List.flatMap_append]; simp
theorem jY {α β:Type} (f:α → List β) {x:α}:∀ {l:List α},x ∈ l → (f x).length ≤ (l.flatMap f).length
 | [],h=>by simp at h
 | a :: r,h=>by
  rw [List.flatMap_cons,List.length_append];rcases List.mem_cons.1 h with rfl | h
  ·omega
  ·have:=jY f h;omega
theorem sZ (y:ab) (w:ByteArray) (cs:List ay) (hcl:cs.length ≤ 1000) (hc:∀ c ∈ cs,(0 ≤ c.kind ∧ c.kind < y.kinds.length) ∧ (0 ≤ c.place ∧ c.place < y.places.length) ∧ Big c.lo ∧ Big c.hi)
  (hlen:(cs.flatMap fun c=>cy (aR (aA w) y c)).length ≤ 5000) (b k:Nat) (bs:List UInt8) (hbs:bs.length ≤ 5000) (σ:af) (hb:σ[b]? = some (.bld k bs)) :
  Spec Tryz.prog IP [.str w, .slice 4 (cs.map ay.v), .pval (.func (.func 143) [] [.ptr b 0]), .pval y.v] σ fun r σ'=>r = .ret (.tup []) ∧ ∃ k' tl,σ' = σ.set b (.bld k' (bs ++ cs.flatMap fun c=>cy (aR (aA w) y c))) ++ tl:=by
 refine Pd (by simp) ?_;refine aa _ ?_;simp [Mj,ab.v,ab.cells]
 refine AW.loop (ι:=Nat) (fun i fr σ'=>∃ (k':Nat) (tl:af),fr = { v:=[(0, .str w),(2, .pval (.func (.func 143) [] [.ptr b 0])),(3, .pval y.v),(8, .slice 4 (cs.map ay.v)),(9, .int .i64 cs.length),(10, .int .i64 i)],ds:=[] } ∧ σ' = σ.set b (.bld k' (bs ++ (cs.take i).flatMap fun c=>cy (aR (aA w) y c))) ++ tl ∧ i ≤ cs.length) (fun i=>cs.length - i) 0 ⟨k,[],by simp [ab.v,ab.cells],by
  obtain ⟨h1,h2⟩:=List.getElem?_eq_some_iff.1 hb
  simp [← h2],by omega⟩ ?_
 rintro i fr σ' ⟨k',tl,rfl,rfl,hi⟩;refine (Nat.lt_or_ge i cs.length).elim (fun hlt=>?_) (fun hge=>?_);rotate_left
 ·obtain rfl:i = cs.length:=by omega
  rw [List.take_length];refine aa _ ?_;simp;exact ⟨k',tl,rfl⟩
 have hltI:(i:Int) < cs.length:=by omega
 have hwi:IntKind.i64.wrap ((i:Int) + 1) = ((i + 1:Nat):Int):=by rw [aq (by omega) (by omega)]; simp
 obtain ⟨c,hx⟩:=zqq (cs[i]);have hcm:c ∈ cs:=hx ▸ List.getElem_mem _;obtain ⟨⟨c1,c2⟩,⟨c3,c4⟩,c5,c6⟩:=hc c hcm;unfold Big at c5 c6;have hfl:=lB (fun c=>cy (aR (aA w) y c)) hlt;rw [hx] at hfl;have hrow:=Nat.le_trans (jY (fun c=>cy (aR (aA w) y c)) hcm) hlen;have hpre:((cs.take i).flatMap fun c=>cy (aR (aA w) y c)).length ≤ 5000:=by
  refine Nat.le_trans ?_ hlen
  conv=>rhs; rw [← List.take_append_drop i cs,List.flatMap_append,List.length_append]
  omega
 obtain ⟨S,hS⟩:=zqq (((cs.take i).flatMap fun c=>cy (aR (aA w) y c)));rw [hS] at hfl hpre ⊢;obtain ⟨hb1,_⟩:=List.getElem?_eq_some_iff.1 hb;have hgb:∀ tl:af,(σ.set b (.bld k' (bs ++ S)) ++ tl)[b]? = some (.bld k' (bs ++ S)):=fun tl=>by
  rw [List.getElem?_append_left (by rw [List.length_set]; exact hb1),List.getElem?_set_self hb1]
 have hli:=nt (Gn w y c) (by simp [Gn]) (by
  rw [CN];simp only [cy,List.length_append] at hrow
  omega) b k' (bs ++ S) (by simp; omega)
 rw [CN,List.append_assoc, ← hfl] at hli;have i1:=fun σ=>pJ c.lo (by omega) (by omega) σ;have i2:=fun σ=>pJ c.hi (by omega) (by omega) σ;obtain ⟨K,hK⟩:∃ K:Nat,c.kind = K:=⟨c.kind.toNat,by omega⟩;obtain ⟨Pn,hP⟩:∃ K:Nat,c.place = K:=⟨c.place.toNat,by omega⟩;have hK1:K < y.kinds.length:=by omega
 have hP1:Pn < y.places.length:=by omega
 have hKI:(K:Int) < y.kinds.length:=by omega
 have hPI:(Pn:Int) < y.places.length:=by omega
 have hcs:Gn w y c = [w,y.kinds[K],y.places[Pn],bytes (Lib.itoa c.lo),bytes (Lib.itoa c.hi)]:=by
  simp only [Gn,hK,hP,Int.toNat_natCast,List.getD,List.getElem?_eq_getElem hK1,List.getElem?_eq_getElem hP1,Option.getD_some]
 rw [hcs] at hli;simp only [List.map_cons,List.map_nil] at hli;have hsb:∀ (X Y:cq) (l:af),(σ.set b X ++ l).set b Y = σ.set b Y ++ l:=fun X Y l=>by
  rw [List.set_append_left _ _ (by rw [List.length_set]; exact hb1),List.set_set]
 refine aa _ ?_;simp [hlt,hltI,hx,ay.v,ay.cells,ab.v,ab.cells,hK,hP,hK1,hP1,hKI,hPI];refine ⟨[.str (bytes (Lib.itoa c.lo)), .str (bytes (Lib.itoa c.hi))],⟨ah.pure BI (i1 _) ?_,ah.pure BI (i2 _) ?_⟩, ?_⟩
 ·simp
 ·simp
 simp;refine ⟨[],ah.fO (aE.func K8 (first:=[]) (caps:=[.ptr b 0]) (args:=[_]) (hli _ (hgb _))) ?_⟩;rintro r σ' ⟨rfl,rfl⟩;refine ⟨_,rfl, ?_⟩;simp [hsb,hwi];exact ⟨i + 1,by omega,by simp,⟨k' + 1,_,rfl⟩,by omega⟩
theorem zF:∀ (l:List WdW),(bB 32 l).length ≤ (l.map List.length).sum + l.length
 | []=>by simp [bB]
 | [p]=>by simp [bB]
 | p :: q :: r=>by
  have:=zF (q :: r);simp only [bB,List.length_append,List.length_cons,List.map_cons,List.sum_cons] at this ⊢;omega
theorem si (r:List WdW):(cy r).length ≤ (r.map List.length).sum + r.length + 1:=by
 have:=zF r;simp only [cy,List.length_append,List.length_singleton]; omega
theorem pK {α:Type} (f:α → WdW) {m:Nat}:∀ (l:List α),(∀ x ∈ l,(f x).length ≤ m) → (l.flatMap f).length ≤ m * l.length
 | [],_=>by simp
 | a :: l,h=>by
  have h1:=h a (by simp);have h2:=pK f l fun x hx=>h x (by simp [hx]);simp only [List.flatMap_cons,List.length_append,List.length_cons,Nat.mul_add];omega
theorem tZ {nm:ByteArray → Bool} (hw:kq nm):∀ l:List ByteArray,(∀ s ∈ l,nm s = true) → ((l.map dQ).map List.length).sum ≤ 16 * l.length
 | [],_=>by simp
 | a :: l,h=>by
  have h1:=(hw.byte a (h a (by simp))).2.2;have h2:=tZ hw l fun s hs=>h s (by simp [hs]);simp only [List.map_cons,List.sum_cons,List.length_cons] at h2 ⊢;omega
theorem zo {nm:ByteArray → Bool} (hw:kq nm) {y:ab} (h:bJ nm y):(dS y).length ≤ 4000:=by
 have na:∀ (l:List ByteArray),(∀ s ∈ l,nm s = true) → ∀ i:Int,0 ≤ i ∧ i < l.length → (nameAt l i).length ≤ 16:=fun l hl i hi=>by
  obtain ⟨hi',e⟩:=gD hi;rw [e]; exact (hw.byte _ (hl _ (List.getElem_mem hi'))).2.2
 have hcnt:∀ (w:WdW),w.length ≤ 5 → ∀ c,zX y c → (cy (aR w y c)).length ≤ 57:=fun w hwl c hc=>by
  have h3:=hc.lo;have h4:=hc.hi;unfold Big at h3 h4;have k1:=na y.kinds h.kinds.1 _ hc.kind;have k2:=na y.places h.places.1 _ hc.place;have k3:=oZ (n:=c.lo) h3.1 (k:=7) (by omega) (by omega);have k4:=oZ (n:=c.hi) h4.1 (k:=7) (by omega) (by omega);have:=si (aR w y c);simp only [aR,List.map_cons,List.map_nil,List.sum_cons,List.sum_nil,List.length_cons,List.length_nil] at this ⊢;omega
 have hpl:∀ a:Int, -1 ≤ a ∧ a < y.places.length → (iA y a).length ≤ 16:=fun a ha=>by
  unfold iA;split
  ·simp [bU]
  ·exact na y.places h.places.1 _ (by omega)
 have hpap:∀ p ∈ y.papers,(cy (bZ y p)).length ≤ 69:=fun p hp=>by
  obtain ⟨i,hi,rfl⟩:=List.getElem_of_mem hp;have hv:=h.papers i hi;have h4:=hv.kilos;unfold Big at h4;have hm:=h.m10;have k1:=na y.kinds h.kinds.1 _ hv.kind;have k2:=hpl _ hv.src;have k3:=hpl _ hv.dst;have k4:=oZ (n:=y.papers[i].kilos) h4.1 (k:=7) (by omega) (by omega);have k5:(if 0 ≤ y.papers[i].copy then Lib.itoa y.papers[i].copy else bU).length ≤ 1:=by
   split
   ·rename_i hc
    exact oZ hc (by omega) (by
     rcases hv.copy with e | ⟨_,e,_⟩
     ·omega
     ·omega)
   ·simp [bU]
  have:=si (bZ y y.papers[i]);simp only [bZ,List.map_cons,List.map_nil,List.sum_cons,List.sum_nil,List.length_cons,List.length_nil] at this ⊢;have e:dO.length = 5:=rfl;omega
 have f1:=pK (fun c=>cy (aR cd y c)) (m:=57) y.first fun c hc=>hcnt cd (by decide) c (h.first.1 c hc)
 have f2:=pK (fun p=>cy (bZ y p)) (m:=69) y.papers hpap;have f3:=pK (fun c=>cy (aR dC y c)) (m:=57) y.last fun c hc=>hcnt dC (by decide) c (h.last.1 c hc);have f4:=si (cT :: y.kinds.map dQ);have f5:=si (b6 :: y.places.map dQ);have s4:=tZ hw y.kinds h.kinds.1;have s5:=tZ hw y.places h.places.1;have e4:cT.length = 5:=rfl;have e5:b6.length = 6:=rfl;simp only [List.map_cons,List.sum_cons,List.length_cons,List.length_map] at f4 f5;have g1:=h.k4; have g2:=h.p4; have g3:=h.m10; have g4:=h.f8; have g5:=h.l8;unfold dS ql;simp only [List.flatMap_cons,List.flatMap_append,List.flatMap_map,List.length_append];omega
end Go.AM
