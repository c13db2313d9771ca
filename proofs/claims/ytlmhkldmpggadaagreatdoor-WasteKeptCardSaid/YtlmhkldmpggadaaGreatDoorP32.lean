/- Pulled out of other texts (pull.py): names, lists of numbers and strings. Chapter 09: numbers beyond others; the first thing with an error. (Printed by mkr2.py.) -/
import Derived.Test.YtlmhkldmpggadaaGreatDoorP31
import Derived.Test.YtlmhkldmpggadaaGreatDoorP25
namespace Go.AM
open Go.Proofs
set_option maxRecDepth 100000
set_option maxHeartbeats 1000000
def tD (n lo hi:Int):Bool:=decide (lo ≤ n) && decide (n ≤ hi)
theorem gx (n lo hi:Int) (σ:af):Spec Tryz.prog IA [.int .i64 n, .int .i64 lo, .int .i64 hi] σ fun r σ'=>r = .ret (.bool (tD n lo hi)) ∧ σ' = σ:=by
 refine Spec.aF (Rt (by simp) (aa _ ?_)) rfl rfl σ;simp [Mm,tD]
def ox (s:ByteArray) (i:Nat):Nat:=(s.data[i]?.getD 0).toNat
def letterF (b:Nat):Bool:=decide (97 ≤ b) && decide (b ≤ 122)
def rJ (b:Nat):Bool:=decide (48 ≤ b) && decide (b ≤ 57)
def pY (s:ByteArray) (i:Nat):Bool:=letterF (ox s i) || (rJ (ox s i) && i != 0)
def jQ (s:ByteArray):Nat → Nat → Bool
 | _,0=>true
 | i,n + 1=>pY s i && jQ s (i + 1) n
def aQ (s:ByteArray):Bool:=decide (1 ≤ s.size) && decide (s.size ≤ 16) && jQ s 0 s.size
theorem Gk (s:ByteArray) (i:Nat) (h:i < s.size):ox s i = (s[i]'h).toNat:=by
 have h':i < s.data.size:=h;have e:s.data[i]?.getD 0 = s.data[i]'h':=by rw [Array.getElem?_eq_getElem h']; rfl
 unfold ox;rw [e];rfl
theorem tX {s:ByteArray} {i:Nat} (hlt:i < s.size) (hp:jQ s 0 s.size = jQ s i (s.size - i)) (h:pY s i = false):aQ s = false:=by
 unfold aQ;rw [hp,show s.size - i = (s.size - (i + 1)) + 1 by omega,jQ,h];simp
theorem Ho (b:ByteArray) (i:Nat) (h:i < b.data.toList.length):b.get! i = b.data.toList[i]:=by
 obtain ⟨a⟩:=b;have h':i < a.size:=by simpa using h
 show a[i]! = _;rw [getElem!_pos a i h']; simp
theorem bl (b:ByteArray):∀ (n i:Nat) (r:List UInt8),b.size - i = n → ByteArray.toList.loop b i r = r.reverse ++ (b.data.toList.drop i)
 | 0,i,r,h=>by
  unfold ByteArray.toList.loop;have:b.size ≤ i:=by omega
  rw [if_neg (by omega)];have:b.data.toList.length ≤ i:=by simpa using this
  rw [List.drop_eq_nil_of_le this]; simp
 | n + 1,i,r,h=>by
  unfold ByteArray.toList.loop;have hlt:i < b.size:=by omega
  rw [if_pos hlt,bl b n (i + 1) _ (by omega)];have h':i < b.data.toList.length:=by simpa using hlt
  rw [List.drop_eq_getElem_cons h',Ho b i h'];simp
theorem toList_data (b:ByteArray):b.toList = b.data.toList:=by
 unfold ByteArray.toList; rw [bl b _ 0 [] rfl]; simp
theorem toList_nil (s:ByteArray):s.toList = [] ↔ s.size = 0:=by
 rw [toList_data];constructor
 ·intro h;have:s.data.toList.length = 0:=by rw [h]; rfl
  simpa using this
 ·intro h;have:s.data.toList.length = 0:=by simpa using h
  exact List.eq_nil_of_length_eq_zero this
theorem qP (s:ByteArray) {i:Nat} (h:i < s.size):jQ s i (s.size - i) = (pY s i && jQ s (i + 1) (s.size - (i + 1))):=by
 rw [show s.size - i = (s.size - (i + 1)) + 1 by omega]; rfl
theorem xU (s:ByteArray) (σ:af):Spec Tryz.prog Hm [.str s] σ fun r σ'=>r = .ret (.bool (aQ s)) ∧ σ' = σ:=by
 refine Spec.aF (RR (by simp) (aa _ ?_)) rfl rfl σ;simp [Mg];refine AW.loop (ι:=Nat) (fun i fr σ=>fr = { v:=[(0, .str s),(8, .iter 0)],ds:=[] } ∧ σ = [.siter s i] ∧ i ≤ s.size ∧ jQ s 0 s.size = jQ s i (s.size - i)) (fun i=>s.size - i) 0 (by simp) ?_;rintro i fr σ ⟨rfl,rfl,hi,hp⟩;refine aa _ ?_;simp;split
 ·rename_i hlt;have hb:=Gk s i hlt;have hst:=qP s hlt;have hd:((Utf8.decode s i).1 = ox s i ∧ (Utf8.decode s i).2 = 1 ∧ ox s i < 128) ∨ (128 ≤ (Utf8.decode s i).1 ∧ 128 ≤ ox s i):=by
   by_cases ha:(s[i]'hlt).toNat < 128
   ·left; rw [Go.decode_ascii s i hlt ha,hb]; exact ⟨rfl,rfl,ha⟩
   ·right; rw [hb]; exact ⟨(Go.decode_high s i hlt (by omega)).1,by omega⟩
  generalize Utf8.decode s i = d at hd ⊢;obtain ⟨r,w⟩:=d;simp only at hd ⊢;refine ⟨fun h=>⟨h,fun h1 h2=>⟨h,h1,h2⟩⟩,fun h1 h2=>tX hlt hp ?_,fun h=>?_⟩
  ·simp [pY,letterF,rJ];omega
  ·have hok:pY s i = true:=by
    simp [pY,letterF,rJ];omega
   have hw:w = 1:=by
    rcases hd with hd | hd
    ·exact hd.2.1
    ·exfalso;have:pY s i = false:=by simp [pY,letterF,rJ]; omega
     rw [hok] at this; cases this
   subst hw;exact ⟨i + 1,by omega,rfl,by omega,by rw [hp,hst,hok]; rfl⟩
 ·rename_i hge;have:i = s.size:=by omega
  subst this;rw [Nat.sub_self] at hp;unfold aQ;rw [hp];rw [Bool.eq_iff_iff];simp [jQ];refine ⟨fun ⟨h1,h2⟩=>⟨?_,by omega⟩,fun h=>⟨fun e=>?_,by omega⟩⟩
  ·have h1':¬ s.size = 0:=fun e=>h1 ((toList_nil s).2 e);omega
  ·have:=(toList_nil s).1 e;omega
theorem qk (s:ByteArray) (σ:af):Spec Tryz.prog MB [.str s] σ fun r σ'=>r = .ret (.bool (aQ s)) ∧ σ' = σ:=by
 refine Spec.aF (UZ (by simp) (aa _ ?_)) rfl rfl σ;simp [Rx];refine ah.pure wX (gx s.size 1 16 _) ?_;simp;have hb:∀ i:Nat,((s.data[i]?.getD 0).toNat:Int) = (ox s i:Int):=fun _=>rfl;simp only [hb];have hin:tD (s.size:Int) 1 16 = true ↔ 1 ≤ s.size ∧ s.size ≤ 16:=by simp [tD]; omega
 have hin':tD (s.size:Int) 1 16 = false ↔ ¬ (1 ≤ s.size ∧ s.size ≤ 16):=by rw [← hin]; simp
 simp only [hin,hin'];refine ⟨fun h=>⟨h,by omega⟩,fun h h2=>⟨⟨h,h2⟩,by omega⟩,fun h=>?_,fun h1 h2 h3=>?_⟩
 ·by_cases hz:1 ≤ s.size ∧ s.size ≤ 16
  ·refine tX (i:=0) (by omega) rfl ?_;simp [pY,letterF];omega
  ·unfold aQ;rw [Bool.eq_false_iff];simp;intros;omega
 refine AW.loop (ι:=Nat) (fun i fr σ=>fr = { v:=[(0, .str s),(3, .int .i64 i)],ds:=[] } ∧ σ = [] ∧ 1 ≤ i ∧ i ≤ s.size ∧ jQ s 0 s.size = jQ s i (s.size - i)) (fun i=>s.size - i) 1 ⟨by simp,rfl,by omega,by omega, ?_⟩ ?_
 ·have:=qP s (i:=0) (by omega);rw [Nat.sub_zero] at this;rw [this];have:pY s 0 = true:=by simp [pY,letterF]; omega
  rw [this]; rfl
 rintro i fr σ ⟨rfl,rfl,h1i,hi,hp⟩;refine aa _ ?_;simp;simp only [hb];refine ⟨fun hlt=>⟨hlt,fun h=>⟨h,hlt⟩,hlt,fun h=>⟨h,hlt⟩,fun h h'=>tX hlt hp ?_,fun h=>?_⟩,fun hge=>?_⟩
 ·simp [pY,letterF,rJ];omega
 ·have hok:pY s i = true:=by
   simp [pY,letterF,rJ];omega
  exact ⟨i + 1,by omega,aq (by omega) (by omega),by omega,by omega,by rw [hp,qP s hlt,hok]; rfl⟩
 ·have:i = s.size:=by omega
  subst this;rw [Nat.sub_self] at hp;unfold aQ;rw [hp];simp [jQ];omega
def kA:List ByteArray → ByteArray → Nat → Int
 | [],_,_=>-1
 | a :: r,s,i=>if a.toList == s.toList then i else kA r s (i + 1)
theorem oT (l:List ByteArray) (s:ByteArray) (hl:l.length ≤ maxLen) (σ:af):Spec Tryz.prog Hn [.slice 1 (l.map .str), .str s] σ fun r σ'=>r = .ret (.int .i64 (kA l s 0)) ∧ σ' = σ:=by
 refine Spec.aF (Qy (by simp) (aa _ ?_)) ?_ rfl σ;rotate_left
 ·simp only [aH,ag.pure,Bool.and_true]; exact aD (fun _=>rfl) l
 simp [Mq];refine AW.loop (ι:=Nat) (fun i fr σ=>fr = { v:=[(0, .slice 1 (l.map .str)),(1, .str s),(5, .int .i64 i)],ds:=[] } ∧ σ = [] ∧ i ≤ l.length ∧ kA l s 0 = kA (l.drop i) s i) (fun i=>l.length - i) 0 (by simp) ?_;rintro i fr σ ⟨rfl,rfl,hi,hp⟩;refine aa _ ?_;simp;refine ⟨fun hlt=>?_,fun hge=>?_⟩
 ·have hd:l.drop i = l[i] :: l.drop (i + 1):=List.drop_eq_getElem_cons hlt;rw [hd] at hp;simp [kA] at hp;simp [hlt];refine ⟨fun he=>by rw [hp,if_pos he],fun he=>⟨i + 1,by omega,aq (by omega) (by simp only [maxLen] at hl; omega),by omega,by rw [hp,if_neg he]⟩⟩
 ·have:l.drop i = []:=List.drop_eq_nil_of_le hge;rw [hp,this]; rfl
def jb (s:Int × Int) (lo hi:Int):Int:=if !tD s.1 lo hi || !tD s.2 lo hi then 7 else if s.1 > s.2 then 2 else 0
theorem vg (a b lo hi:Int) (σ:af):Spec Tryz.prog Ic [.slice 2 [.agg [.int .i64 a, .int .i64 b]], .int .i64 lo, .int .i64 hi] σ fun r σ'=>r = .ret (.int .i64 (jb (a,b) lo hi)) ∧ σ' = σ:=by
 refine Spec.aF (Pv (by simp) (aa _ ?_)) rfl rfl σ;simp [Mk];refine AW.loop (ι:=Nat) (fun i fr σ=>fr = { v:=[(0, .slice 2 [.agg [.int .i64 a, .int .i64 b]]),(1, .int .i64 lo),(2, .int .i64 hi),(7, .bool (decide (i = 1) && decide (b < a))),(8, .int .i64 i)],ds:=[] } ∧ σ = [] ∧ i ≤ 1 ∧ (i = 1 → tD a lo hi = true ∧ tD b lo hi = true)) (fun i=>1 - i) 0 (by simp) ?_;rintro i fr σ ⟨rfl,rfl,hi',hp⟩;rcases (by omega:i = 0 ∨ i = 1) with rfl | rfl
 ·refine aa _ ?_;simp;refine ah.pure wX (gx a lo hi _) ?_;simp;refine ⟨?_, ?_⟩
  ·intro h;refine ⟨h,ah.pure wX (gx b lo hi _) ?_⟩;simp [h];exact ⟨fun hb=>by simp [jb,h,hb],fun hb=>⟨1,by omega,⟨fun _=>rfl,aq (by omega) (by omega)⟩,by omega,fun _=>hb⟩⟩
  ·intro h;simp [h,jb]
 ·refine aa _ ?_;simp [jb,hp rfl]
theorem v8 (a b lo hi:Int) (σ:af):Spec Tryz.prog G8 [.agg [.int .i64 a, .int .i64 b], .int .i64 lo, .int .i64 hi] σ fun r σ'=>r = .ret (.int .i64 (jb (a,b) lo hi)) ∧ σ' = σ:=by
 refine Spec.aF (Q9 (by simp) (aa _ ?_)) rfl rfl σ;simp [Lp];refine ah.pure RQ (vg a b lo hi _) ?_;simp
def rf (s:ByteArray) (l:List ByteArray):Int:=if aQ s then (if 0 ≤ kA l s 0 then 5 else 0) else 6
theorem wT (l:List ByteArray) (s:ByteArray) (hl:l.length ≤ maxLen) (σ:af):Spec Tryz.prog H0 [.str s, .slice 1 (l.map .str)] σ fun r σ'=>r = .ret (.int .i64 (rf s l)) ∧ σ' = σ:=by
 refine Spec.aF (Pb (by simp) (aa _ ?_)) ?_ rfl σ;rotate_left
 ·simp only [aH,ag.pure,Bool.and_true]; exact aD (fun _=>rfl) l
 simp [Mn];refine ah.pure Na (qk s _) ?_;simp;refine ⟨fun h=>by simp [rf,h],fun h=>ah.pure LZ (oT l s hl _) ?_⟩;simp [rf,h]
theorem iI (l:List ByteArray) (x:ByteArray) (hl:l.length ≤ maxLen) (σ:af) :
  Spec Tryz.prog HF [.slice 1 (l.map .str), .str x] σ fun r σ'=>r = .ret (.int .i64 (gP (fun y=>x.toList == y.toList) l 0)) ∧ σ' = σ:=by
 refine Spec.aF (Q1 (by simp) (aa _ ?_)) (by simp [aD (f:=ag.str) (fun _=>rfl) l]) rfl σ;simp [Lz];refine AW.loop (ι:=Nat) (fun i fr σ=>fr = { v:=[(0, .slice 1 (l.map ag.str)),(1, .str x),(7, .int .i64 l.length),(8, .int .i64 i)],ds:=[] } ∧ i ≤ l.length ∧ gP (fun y=>x.toList == y.toList) l 0 = gP (fun y=>x.toList == y.toList) (l.drop i) i) (fun i=>l.length - i) 0 (by simp) ?_;rintro i fr σ ⟨rfl,hi,hpi⟩;refine aa _ ?_;simp;refine ⟨fun hlt=>?_,fun hge=>?_⟩
 ·have hd:l.drop i = l[i] :: l.drop (i + 1):=List.drop_eq_getElem_cons hlt;rw [hd] at hpi;simp [gP] at hpi;simp [hlt];refine ⟨fun he=>by rw [hpi,if_pos he],fun he=>⟨i + 1,by omega,aq (by omega) (by simp only [maxLen] at hl; omega),by omega,by rw [hpi,if_neg (by simp [he])]⟩⟩
 ·have:l.drop i = []:=List.drop_eq_nil_of_le hge;rw [hpi,this]; rfl
theorem lL (l:List ByteArray) (x:ByteArray) (hl:l.length ≤ maxLen) (σ:af) :
  Spec Tryz.prog It [.slice 1 (l.map .str), .str x] σ fun r σ'=>r = .ret (.bool (l.any fun y=>x.toList == y.toList)) ∧ σ' = σ:=by
 refine Spec.aF (Qj (by simp) (aa _ ?_)) (by simp [aD (f:=ag.str) (fun _=>rfl) l]) rfl σ;simp [LQ];refine ah.pure BJ (iI l x hl _) ?_;simp [xL]
theorem nS (l:List Int) (x:Int) (hl:l.length ≤ maxLen) (σ:af) :
  Spec Tryz.prog HA [.slice 1 (l.map ii'),ii' x] σ fun r σ'=>r = .ret (.int .i64 (gP (fun y=>x == y) l 0)) ∧ σ' = σ:=by
 refine Spec.aF (P6 (by simp) (aa _ ?_)) (by simp [aD (f:=ii') (fun _=>rfl) l]) rfl σ;simp [Ls];refine AW.loop (ι:=Nat) (fun i fr σ=>fr = { v:=[(0, .slice 1 (l.map ii')),(1,ii' x),(7, .int .i64 l.length),(8, .int .i64 i)],ds:=[] } ∧ i ≤ l.length ∧ gP (fun y=>x == y) l 0 = gP (fun y=>x == y) (l.drop i) i) (fun i=>l.length - i) 0 (by simp) ?_;rintro i fr σ ⟨rfl,hi,hpi⟩;refine aa _ ?_;simp;refine ⟨fun hlt=>?_,fun hge=>?_⟩
 ·have hd:l.drop i = l[i] :: l.drop (i + 1):=List.drop_eq_getElem_cons hlt;rw [hd] at hpi;simp [gP] at hpi;simp [hlt];refine ⟨fun he=>by rw [hpi,if_pos he],fun he=>⟨i + 1,by omega,aq (by omega) (by simp only [maxLen] at hl; omega),by omega,by rw [hpi,if_neg (by simp [he])]⟩⟩
 ·have:l.drop i = []:=List.drop_eq_nil_of_le hge;rw [hpi,this]; rfl
theorem lF (l:List Int) (x:Int) (hl:l.length ≤ maxLen) (σ:af) :
  Spec Tryz.prog EE [.slice 1 (l.map ii'),ii' x] σ fun r σ'=>r = .ret (.bool (l.contains x)) ∧ σ' = σ:=by
 refine Spec.aF (Ou (by simp) (aa _ ?_)) (by simp [aD (f:=ii') (fun _=>rfl) l]) rfl σ;simp [Mt];refine ah.pure PG (nS l x hl _) ?_;simp [xL];rw [Bool.eq_iff_iff]; simp
def o5 (l:List Int):cq:=.arr 1 (l.map ii')
theorem qq (ds:List Int) (k:Nat) (x:Int) (h:k < ds.length):(ds.set k x).take (k + 1) = ds.take k ++ [x]:=by
 rw [List.take_add_one,List.take_set_of_le (Nat.le_refl k)];simp [h]
def S6 (l c:List Int):Prop:=c.Pairwise (· < ·) ∧ ∀ x,x ∈ c ↔ x ∈ l
theorem AJ (b:Nat) (l:List Int) (hn:l.length ≤ 100000) (hs:l.Pairwise (· ≤ ·)) (σ:af) (hb:b < σ.length) (hx:σ[b]? = some (o5 l)) :
  Spec Tryz.prog M7 [.sref 1 b 0 l.length l.length] σ fun r σ'=>∃ c z,S6 l c ∧ c.length ≤ l.length ∧ (c ++ z).length = l.length ∧ r = .ret (.sref 1 b 0 c.length l.length) ∧ σ' = σ.set b (o5 (c ++ z)):=by
 have hset:σ.set b (o5 l) = σ:=by
  obtain ⟨h1,h2⟩:=List.getElem?_eq_some_iff.1 hx;rw [← h2]; simp
 have hle:∀ i j (h1:i < j) (h2:j < l.length),l[i] ≤ l[j]:=fun i j h1 h2=>List.pairwise_iff_getElem.1 hs i j (by omega) h2 h1;refine Sf (by simp) (aa _ ?_);refine (Nat.lt_or_ge l.length 2).elim (fun h2=>?_) (fun h2=>?_)
 ·have h2':(l.length:Int) < 2:=by omega
  simp [MS,h2'];refine ⟨l, ?_,by omega,[],by simp,rfl,by simpa using hset.symm⟩;refine ⟨?_,fun x=>Iff.rfl⟩
  match l,h2 with
  | [],_=>simp
  | [a],_=>simp
 have h2':¬ (l.length:Int) < 2:=by omega
 simp [MS,h2'];refine AW.loop (ι:=Nat) (fun k fr σ1=>fr = { v:=[(0, .sref 1 b 0 l.length l.length),(3, .int .i64 k)],ds:=[] } ∧ σ1 = σ ∧ 1 ≤ k ∧ k ≤ l.length ∧ (l.take k).Pairwise (· < ·)) (fun k=>l.length - k) 1 ⟨by simp,rfl,by omega,by omega, ?_⟩ ?_
 ·cases l with
  | nil=>simp
  | cons a r=>simp
 rintro k fr σ1 ⟨rfl,rfl,hk1,hk,hlt⟩;refine (Nat.lt_or_ge k l.length).elim (fun hkl=>?_) (fun hge=>?_);rotate_left
 ·have hnl:¬ k < l.length:=by omega
  refine aa _ ?_;simp [hnl];exact ⟨l,⟨by rwa [List.take_of_length_le hge] at hlt,fun x=>Iff.rfl⟩,by omega,[],by simp,rfl,by simpa using hset.symm⟩
 obtain ⟨m,rfl⟩:∃ m,k = m + 1:=⟨k - 1,by omega⟩;obtain ⟨x,hxk⟩:=zqq (l[m + 1]'hkl);obtain ⟨y,hyk⟩:=zqq (l[m]'(by omega));have hw:IntKind.i64.wrap (m:Int) = m:=aq (by omega) (by omega);have q1:0 ≤ (m:Int) + 1:=by omega
 have q2:(m:Int) + 1 < l.length:=by omega
 have q3:(m:Int) < l.length:=by omega
 have q4:m < l.length:=by omega
 have hgb:σ1[b]'hb = .arr 1 (l.map ii'):=(List.getElem?_eq_some_iff.1 hx).2;refine aa _ ?_;simp [hb,hgb,hxk,hyk,hw,hkl,q1,q2,q3,q4];refine ⟨fun hxy=>⟨by omega, ?_⟩,fun hxy=>⟨m + 2,by omega,aq (by omega) (by omega),by omega,by omega, ?_⟩⟩;rotate_left
 ·rw [List.take_add_one];refine List.pairwise_append.2 ⟨hlt,by simp,fun u hu v hv=>?_⟩;have hv':v = x:=by simpa [hkl,hxk,eq_comm] using hv
  subst hv';obtain ⟨i,hi,rfl⟩:=List.mem_iff_getElem.1 hu;have hi':i < m + 1:=by simp at hi; omega
  rw [List.getElem_take];have h1:y ≤ v:=by rw [← hxk, ← hyk]; exact hle m (m + 1) (by omega) hkl
  by_cases him:i = m
  ·subst him; rw [hyk]; omega
  ·have:=hle i m (by omega) (by omega);rw [hyk] at this; omega
 obtain ⟨n2,hn2⟩:=zqq (l.length - (m + 1));have hn2':((l.length:Int) - ((m:Int) + 1)).toNat = n2:=by omega
 rw [hn2']
 refine AW.loop (ι:=Nat) (fun p fr σ2=>∃ (kk:Nat) (D:List Int),fr = { v:=[(0, .sref 1 b 0 l.length l.length),(3, .int .i64 kk),(4, .sref 1 b (m + 1) n2 l.length),(5, .int .i64 (p + 1))],ds:=[] } ∧ σ2 = σ1.set b (o5 D) ∧ p + 1 ≤ n2 ∧ D.length = l.length ∧ kk ≤ m + 1 + p ∧
  (∀ i,m + 1 + p ≤ i → D[i]? = l[i]?) ∧ (D.take kk).Pairwise (· < ·) ∧ ∀ u,u ∈ D.take kk ↔ u ∈ l.take (m + 1 + (p + 1))) (fun p=>n2 - p) 0 ⟨m + 1,l,by simp,hset.symm,by omega,rfl,by omega,fun i _=>rfl,hlt,fun u=>?_⟩ ?_
 ·rw [show m + 1 + (0 + 1) = (m + 1) + 1 from rfl,List.take_add_one (i:=m + 1),List.mem_append];have:u ∈ (l[m + 1]?).toList ↔ u = x:=by rw [List.getElem?_eq_getElem hkl,hxk]; simp
  rw [this];refine ⟨.inl,fun h=>h.elim id fun h=>?_⟩;rw [h,hxy,List.mem_iff_getElem];exact ⟨m,by simp; omega,by simpa using hyk⟩
 rintro p fr σ2 ⟨kk,D,rfl,rfl,hp,hD,hkk,hsame,hsort,hmem⟩;refine (Nat.lt_or_ge (p + 1) n2).elim (fun hpl=>?_) (fun hpg=>?_)
 ·obtain ⟨u,hu⟩:=zqq (l[m + 1 + (p + 1)]'(by omega));obtain ⟨v,hv⟩:=zqq (l[m + 1 + p]'(by omega));have hDu:D[m + 1 + (p + 1)]'(by omega) = u:=by
   have:=hsame (m + 1 + (p + 1)) (by omega);rw [List.getElem?_eq_getElem (by omega),List.getElem?_eq_getElem (by omega),hu] at this;exact Option.some.inj this
  have hDv:D[m + 1 + p]'(by omega) = v:=by
   have:=hsame (m + 1 + p) (by omega);rw [List.getElem?_eq_getElem (by omega),List.getElem?_eq_getElem (by omega),hv] at this;exact Option.some.inj this
  have r0:IntKind.i64.wrap (p:Int) = p:=aq (by omega) (by omega);have r1:0 ≤ (p:Int) + 1:=by omega
  have r2:(p:Int) + 1 < n2:=by omega
  have r3:(p:Int) < n2:=by omega
  have r4:m + 1 + p < l.length:=by omega
  have r5:m + 1 + (p + 1) < l.length:=by omega
  have r6:kk < l.length:=by omega
  have r7:(kk:Int) < l.length:=by omega
  have r8:IntKind.i64.wrap ((p:Int) + 1 + 1) = (p:Int) + 1 + 1:=aq (by omega) (by omega);have r9:IntKind.i64.wrap ((kk:Int) + 1) = (kk:Int) + 1:=aq (by omega) (by omega);have huv:v ≤ u:=by rw [← hu, ← hv]; exact hle _ _ (by omega) (by omega)
  refine aa _ ?_;simp [hb,o5,hD,hDu,hDv,r0,r1,r2,r3,r4,r5,r6,r7,r8,r9];have hmax:∀ w ∈ l.take (m + 1 + (p + 1)),w ≤ v:=fun w hw'=>by
   obtain ⟨i,hi,rfl⟩:=List.mem_iff_getElem.1 hw';have hi':i < m + 1 + (p + 1):=by simp at hi; omega
   rw [List.getElem_take];by_cases him:i = m + 1 + p
   ·subst him; rw [hv]; omega
   ·have:=hle i (m + 1 + p) (by omega) (by omega);rw [hv] at this; exact this
  have htk:∀ w,w ∈ l.take (m + 1 + (p + 1 + 1)) ↔ w ∈ l.take (m + 1 + (p + 1)) ∨ w = u:=fun w=>by
   rw [show m + 1 + (p + 1 + 1) = (m + 1 + (p + 1)) + 1 from rfl,List.take_add_one (i:=m + 1 + (p + 1)),List.mem_append];have:w ∈ (l[m + 1 + (p + 1)]?).toList ↔ w = u:=by rw [List.getElem?_eq_getElem (by omega),hu]; simp
   rw [this]
  refine ⟨fun hne=>⟨p + 1,by omega,kk + 1,⟨by simp,by simp⟩,D.set kk u,by rw [List.map_set],by omega,by simp [hD],by omega,fun i hi=>?_, ?_,fun w=>?_⟩,fun he=>⟨p + 1,by omega,kk,⟨rfl,by simp⟩,D,rfl,by omega,hD,by omega,fun i hi=>hsame i (by omega),hsort,fun w=>?_⟩⟩
  ·rw [List.getElem?_set_ne (by omega)]; exact hsame i (by omega)
  ·rw [qq D kk u (by omega)];refine List.pairwise_append.2 ⟨hsort,by simp,fun a ha c hc=>?_⟩;have hc':c = u:=by simpa using hc
   subst hc';have:=hmax a ((hmem a).1 ha);omega
  ·rw [qq D kk u (by omega),List.mem_append,hmem,htk];simp
  ·rw [hmem,htk];refine ⟨.inl,fun h=>h.elim id fun h=>?_⟩;rw [h,he,List.mem_iff_getElem];exact ⟨m + 1 + p,by simp; omega,by simpa using hv⟩
 ·have hnl:¬ (p:Int) + 1 < n2:=by omega
  have hkl':(kk:Int) ≤ l.length:=by omega
  refine aa _ ?_;simp [hb,o5,hD,hnl,hkl'];refine ⟨D.take kk,⟨hsort,fun u=>?_⟩,by simp; omega,List.replicate (l.length - kk) 0 ++ D.drop (kk + (l.length - kk)),by simp; omega,by simp; omega,by simp⟩;rw [hmem,List.take_of_length_le (by omega)]
theorem Nx (a b:ByteArray):(a.toList == b.toList) = true ↔ a = b:=by
 rw [beq_iff_eq,toList_data,toList_data];constructor
 ·intro h;obtain ⟨a⟩:=a;obtain ⟨b⟩:=b;have:a = b:=Array.toList_inj.1 h;rw [this]
 ·rintro rfl; rfl
theorem nmd (a b:ByteArray):(a.toList == b.toList) = decide (a = b):=by
 rw [Bool.eq_iff_iff,Nx,decide_eq_true_eq]
theorem zU {a b:List ByteArray} {i:Nat} (h1:i < a.length) (h2:i < b.length) (h:a.take i = b.take i):a.take (i + 1) = b.take (i + 1) ↔ a[i] = b[i]:=by
 rw [List.take_succ_eq_append_getElem h1,List.take_succ_eq_append_getElem h2,h];exact ⟨fun e=>by simpa using List.append_cancel_left e,fun e=>by rw [e]⟩
theorem xz (a b:List ByteArray) (ha:a.length ≤ maxLen) (σ:af) :
  Spec Tryz.prog Fp [.slice 1 (a.map .str), .slice 1 (b.map .str)] σ fun r σ'=>r = .ret (.bool (decide (a = b))) ∧ σ' = σ:=by
 refine Spec.aF (QK (by simp) (aa _ ?_)) (by simp [aH,ag.pure,aD (f:=ag.str) (fun _=>rfl)]) rfl σ;simp [Mr];refine AW.loop (ι:=Nat) (fun i fr σ=>∃ s:Bool,fr = { v:=[(0, .slice 1 (a.map .str)),(1, .slice 1 (b.map .str)),(5, .bool s),(6, .int .i64 i)],ds:=[] } ∧ i ≤ a.length ∧ (s = true → a.length = b.length ∧ a.take i = b.take i) ∧ (s = false → a ≠ b)) (fun i=>a.length - i) 0 ⟨_,by simp; rfl,by omega,fun h=>⟨by simp at h; omega,by simp⟩,fun h e=>by subst e; simp at h⟩ ?_;rintro i fr σ ⟨s,rfl,hi,h1,h2⟩
 cases s with
 | false=>
  have h3:=h2 rfl;refine aa _ ?_;simp [h3]
 | true=>
  obtain ⟨hl,ht⟩:=h1 rfl;refine (Nat.lt_or_ge i a.length).elim (fun hlt=>?_) (fun hge=>?_)
  ·have hlb:i < b.length:=by omega
   obtain ⟨x,hx⟩:=zqq (a[i]);obtain ⟨y,hy⟩:=zqq (b[i]);have hst:=zU hlt hlb ht;rw [hx,hy] at hst;have hw:IntKind.i64.wrap ((i:Int) + 1) = ((i + 1:Nat):Int):=by rw [aq (by omega) (by simp only [maxLen] at ha; omega)]; simp
   by_cases hxy:x = y
   ·refine aa _ ?_;simp [hlt,hlb,hx,hy,hw,hxy];exact ⟨i + 1,by omega,by simp,by omega,hl,hst.2 hxy⟩
   ·have hab:a ≠ b:=fun e=>by subst e; exact hxy (hx.symm.trans hy)
    refine aa _ ?_;simp [hlt,hlb,hx,hy,nmd,hw,hxy];exact ⟨i + 1,by omega,by simp,by omega,hab⟩
  ·have hab:a = b:=by
    rw [List.take_of_length_le hge,List.take_of_length_le (by omega)] at ht; exact ht
   refine aa _ ?_;simp [show ¬ i < b.length by omega,hab]
theorem gq (l:List Int) (hl:l.length ≤ maxLen) (σ:af):Spec Tryz.prog Mz [.slice 1 (l.map ii'), .slice 1 (l.map ii')] σ fun r σ'=>r = .ret (.bool true) ∧ σ' = σ:=by
 refine Spec.aF (T0 (by simp) (aa _ ?_)) (by simp [aD (f:=ii') (fun _=>rfl) l]) rfl σ;simp [Qt];refine AW.loop (ι:=Nat) (fun i fr σ=>fr = { v:=[(0, .slice 1 (l.map ii')),(1, .slice 1 (l.map ii')),(5, .bool true),(6, .int .i64 i)],ds:=[] } ∧ i ≤ l.length) (fun i=>l.length - i) 0 (by simp) ?_;rintro i fr σ ⟨rfl,hi⟩;refine (Nat.lt_or_ge i l.length).elim (fun hlt=>?_) (fun hge=>?_)
 ·obtain ⟨x,hx⟩:=zqq (l[i]);refine aa _ ?_;simp [hlt,hx];exact ⟨i + 1,by omega,aq (by omega) (by simp only [maxLen] at hl; omega),by omega⟩
 ·refine aa _ ?_;simp [show ¬ i < l.length by omega]
theorem ah.qe {P:Program} {f:FuncId} (hb:au P f = true) {caps args:List ag} {σ:af} {Q:fq → af → Prop} {K Kp:ag → af → Prop} (hs:Spec P f (args ++ caps) σ Q) (h:∀ r σ',Q r σ' → ∃ v,r = .ret v ∧ K v σ') :
  @ah P (.func (.func f) [] caps) args σ ⟨K⟩ ⟨Kp⟩:=
 aE.func hb (by simpa using hs.mono fun r σ' hq=>by obtain ⟨v,rfl,hk⟩:=h r σ' hq; exact hk)
theorem ah.both {P:Program} {f:FuncId} (hb:au P f = true) {args:List ag} {σ:af} {Q:fq → af → Prop} {K Kp:ag → af → Prop} (hs:Spec P f args σ Q) (h:∀ v σ',Q (.ret v) σ' → K v σ') (hp:∀ v σ',Q (.pan v) σ' → Kp v σ') :
  @ah P (.func (.func f) [] []) args σ ⟨K⟩ ⟨Kp⟩:=
 aE.func hb (by simpa using hs.mono (fun r σ' hq=>match r,hq with
  | .ret v,hq=>h v σ' hq
  | .pan v,hq=>hp v σ' hq))
theorem ah.pan {P:Program} {f:FuncId} (hb:au P f = true) {args:List ag} {σ:af} {v:ag} {Q:af → Prop} {K Kp:ag → af → Prop} (hs:Spec P f args σ fun r σ'=>r = .pan v ∧ Q σ') (hp:∀ σ',Q σ' → Kp v σ') :
  @ah P (.func (.func f) [] []) args σ ⟨K⟩ ⟨Kp⟩:=
 ah.both hb hs (fun _ _ h=>by cases h.1) (fun w σ' h=>by cases h.1; exact hp σ' h.2)
theorem oa (xs:List ag) (hf:Fits 1 xs) (hl:xs.length * 8 ≤ 140737488355328) (σ:af) :
  Spec Tryz.prog II [.slice 1 xs] σ fun r σ'=>r = .ret (.oslice 1 xs σ.length 1) ∧ σ' = σ ++ [.spare 1 1]:=by
 refine RD (by simp) (aa _ ?_);simp [LS,hf,hl]
theorem ah.fO {P:Program} {fv:ag} {args:List ag} {σ:af} {Q:fq → af → Prop} {K Kp:ag → af → Prop} (hs:aE P fv args σ Q) (h:∀ r σ',Q r σ' → ∃ v,r = .ret v ∧ K v σ'):@ah P fv args σ ⟨K⟩ ⟨Kp⟩:=
 hs.mono fun r σ' hq=>by obtain ⟨v,rfl,hk⟩:=h r σ' hq; exact hk
theorem oE {i:Nat} {l:Nat} (h:i < l) (hl:l ≤ maxLen):IntKind.i64.wrap ((i:Int) + 1) = ((i + 1:Nat):Int):=by
 simp only [maxLen] at hl;rw [aq (by omega) (by omega)]; simp
theorem pZ (n lo hi:Int) (σ:af):Spec Tryz.prog HU [ii' n, .pval (ii' lo), .pval (ii' hi)] σ fun r σ'=>r = .ret (.bool (GQ lo hi n)) ∧ σ' = σ:=by
 refine Spec.aF (OU (by simp) (aa _ ?_)) rfl rfl σ;simp [Lv,GQ]
theorem lj (lo hi:Int) (l:List Int) (hl:l.length ≤ maxLen) (σ:af) :
  Spec Tryz.prog Hf [ii' lo,ii' hi, .slice 1 (l.map ii')] σ fun r σ'=>r = .ret (.bool (pq lo hi l)) ∧ σ' = σ:=by
 refine Spec.aF (SX (by simp) (aa _ ?_)) (by simp [aD (f:=ii') (fun _=>rfl) l]) rfl σ;simp [Qi];refine ah.pure Rz (jD _ _ rfl (GQ lo hi) l hl (fun x _=>oO.fn P4 (fun σ=>pZ x lo hi σ)) _) ?_;simp [pq]
theorem cj (lo hi a:Int) (σ:af):Spec Tryz.prog Hf [ii' lo,ii' hi, .slice 1 [ii' a]] σ fun r σ'=>r = .ret (.bool (!inI a lo hi)) ∧ σ' = σ:=by
 have e:pq lo hi [a] = !inI a lo hi:=by
  simp only [pq,GQ,inI,List.any_cons,List.any_nil,Bool.or_false];rw [Bool.eq_iff_iff]; simp <;> omega
 have:=lj lo hi [a] (by simp [maxLen]) σ
 rwa [e] at this
theorem rM (lo hi a b:Int) (σ:af):Spec Tryz.prog Hf [ii' lo,ii' hi, .slice 1 [ii' a,ii' b]] σ fun r σ'=>r = .ret (.bool (!(inI a lo hi && inI b lo hi))) ∧ σ' = σ:=by
 have e:pq lo hi [a,b] = !(inI a lo hi && inI b lo hi):=by
  simp only [pq,GQ,inI,List.any_cons,List.any_nil,Bool.or_false];rw [Bool.eq_iff_iff]; simp <;> omega
 have:=lj lo hi [a,b] (by simp [maxLen]) σ
 rwa [e] at this
theorem nq (g:FuncId) (first caps:List ag) (l:List ByteArray) (f:Nat → ByteArray → Int) (hl:l.length ≤ maxLen) (J:Nat → af → Prop) (_hm:∀ i σ,J i σ → J i (σ ++ [.dead]))
  (hf:∀ i (h:i < l.length) σ,J i σ → aE Tryz.prog (.func (.func g) first caps) [ii' i,ag.str l[i]] σ fun r σ'=>r = .ret (ii' (f i l[i])) ∧ J (i + 1) σ') (σ:af) (h0:J 0 σ) :
  Spec Tryz.prog Fy [.slice 1 (l.map ag.str), .func (.func g) first caps] σ fun r σ'=>r = .ret (.tup [ii' (aG f l 0).1,ii' (aG f l 0).2]) ∧ ∃ i,J i σ':=by
 refine O2 (by simp) (aa _ ?_);simp [LH];refine AW.loop (ι:=Nat) (fun i fr σ'=>fr = { v:=[(1, .func (.func g) first caps),(8, .slice 1 (l.map ag.str)),(9, .int .i64 l.length),(10, .int .i64 i)],ds:=[] } ∧ J i σ' ∧ i ≤ l.length ∧ aG f l 0 = aG f (l.drop i) i) (fun i=>l.length - i) 0 ⟨by simp,h0,by omega,by simp⟩ ?_;rintro i fr σ' ⟨rfl,hJ,hi,hp⟩;refine (Nat.lt_or_ge i l.length).elim (fun hlt=>?_) (fun hge=>?_)
 ·have hd:l.drop i = l[i] :: l.drop (i + 1):=List.drop_eq_getElem_cons hlt;rw [hd] at hp;simp only [aG] at hp;have hc:=hf i hlt σ' hJ;obtain ⟨x,hx⟩:=zqq (l[i]);rw [hx] at hp hc;have hw:=oE hlt hl;simp only [ii'] at hc;by_cases he:f i x = 0
  ·rw [he] at hc;rw [if_neg (by simp [he])] at hp;refine aa _ ?_;simp [hlt,hx];refine ah.fO hc ?_;rintro r σ1 ⟨rfl,hJ1⟩;refine ⟨_,rfl, ?_⟩;simp [hw];exact ⟨i + 1,by omega,by simp,hJ1,by omega,hp⟩
  ·rw [if_pos he] at hp;refine aa _ ?_;simp [hlt,hx];refine ah.fO hc ?_;rintro r σ1 ⟨rfl,hJ1⟩;refine ⟨_,rfl, ?_⟩;simp [he,hp];exact ⟨_,hJ1⟩
 ·have hz:l.drop i = []:=List.drop_eq_nil_of_le hge;rw [hz] at hp;refine aa _ ?_;simp [show ¬ i < l.length by omega,hp,aG];exact ⟨_,hJ⟩
theorem me (g:FuncId) (first caps:List ag) (hp:aH first = true) (hp2:aH caps = true) (l:List ByteArray) (f:Nat → ByteArray → Int) (hl:l.length ≤ maxLen)
  (hf:∀ i (h:i < l.length),oO Tryz.prog (.func (.func g) first caps) [ii' i,ag.str l[i]] (ii' (f i l[i]))) (σ:af) :
  Spec Tryz.prog Fy [.slice 1 (l.map ag.str), .func (.func g) first caps] σ fun r σ'=>r = .ret (.tup [ii' (aG f l 0).1,ii' (aG f l 0).2]) ∧ σ' = σ:=
 Spec.aF ((nq g first caps l f hl (fun _ _=>True) (fun _ _ h=>h) (fun i h σ _=>(hf i h σ).mono fun r σ' hq=>⟨hq.1,trivial⟩) [] trivial).mono fun r σ' h=>h.1) (by simp [hp,hp2,aD (f:=ag.str) (fun _=>rfl) l]) (by simp [ag.pure,aH]) σ
theorem pU (g:FuncId) (first caps:List ag) (l:List Int) (f:Nat → Int → Int) (hl:l.length ≤ maxLen) (J:Nat → af → Prop) (_hm:∀ i σ,J i σ → J i (σ ++ [.dead]))
  (hf:∀ i (h:i < l.length) σ,J i σ → aE Tryz.prog (.func (.func g) first caps) [ii' i,ii' l[i]] σ fun r σ'=>r = .ret (ii' (f i l[i])) ∧ J (i + 1) σ') (σ:af) (h0:J 0 σ) :
  Spec Tryz.prog Jd [.slice 1 (l.map ii'), .func (.func g) first caps] σ fun r σ'=>r = .ret (.tup [ii' (aG f l 0).1,ii' (aG f l 0).2]) ∧ ∃ i,J i σ':=by
 refine RN (by simp) (aa _ ?_);simp [L8];refine AW.loop (ι:=Nat) (fun i fr σ'=>fr = { v:=[(1, .func (.func g) first caps),(8, .slice 1 (l.map ii')),(9, .int .i64 l.length),(10, .int .i64 i)],ds:=[] } ∧ J i σ' ∧ i ≤ l.length ∧ aG f l 0 = aG f (l.drop i) i) (fun i=>l.length - i) 0 ⟨by simp,h0,by omega,by simp⟩ ?_;rintro i fr σ' ⟨rfl,hJ,hi,hp⟩;refine (Nat.lt_or_ge i l.length).elim (fun hlt=>?_) (fun hge=>?_)
 ·have hd:l.drop i = l[i] :: l.drop (i + 1):=List.drop_eq_getElem_cons hlt;rw [hd] at hp;simp only [aG] at hp;have hc:=hf i hlt σ' hJ;obtain ⟨x,hx⟩:=zqq (l[i]);rw [hx] at hp hc;have hw:=oE hlt hl;simp only [ii'] at hc;by_cases he:f i x = 0
  ·rw [he] at hc;rw [if_neg (by simp [he])] at hp;refine aa _ ?_;simp [hlt,hx];refine ah.fO hc ?_;rintro r σ1 ⟨rfl,hJ1⟩;refine ⟨_,rfl, ?_⟩;simp [hw];exact ⟨i + 1,by omega,by simp,hJ1,by omega,hp⟩
  ·rw [if_pos he] at hp;refine aa _ ?_;simp [hlt,hx];refine ah.fO hc ?_;rintro r σ1 ⟨rfl,hJ1⟩;refine ⟨_,rfl, ?_⟩;simp [he,hp];exact ⟨_,hJ1⟩
 ·have hz:l.drop i = []:=List.drop_eq_nil_of_le hge;rw [hz] at hp;refine aa _ ?_;simp [show ¬ i < l.length by omega,hp,aG];exact ⟨_,hJ⟩
theorem j4 (g:FuncId) (first caps:List ag) (l:List ay) (f:Nat → ay → Int) (hl:l.length ≤ maxLen) (J:Nat → af → Prop) (hm:∀ i σ,J i σ → J i (σ ++ [.dead]))
  (hf:∀ i (h:i < l.length) σ,J i σ → aE Tryz.prog (.func (.func g) first caps) [ii' i,ay.v l[i]] σ fun r σ'=>r = .ret (ii' (f i l[i])) ∧ J (i + 1) σ') (σ:af) (h0:J 0 σ) :
  Spec Tryz.prog G9 [.slice 4 (l.map ay.v), .func (.func g) first caps] σ fun r σ'=>r = .ret (.tup [ii' (aG f l 0).1,ii' (aG f l 0).2]) ∧ ∃ i,J i σ':=by
 refine P8 (by simp) (aa _ ?_);simp [LB];refine AW.loop (ι:=Nat) (fun i fr σ'=>fr = { v:=[(1, .func (.func g) first caps),(8, .slice 4 (l.map ay.v)),(9, .int .i64 l.length),(10, .int .i64 i)],ds:=[] } ∧ J i σ' ∧ i ≤ l.length ∧ aG f l 0 = aG f (l.drop i) i) (fun i=>l.length - i) 0 ⟨by simp,h0,by omega,by simp⟩ ?_;rintro i fr σ' ⟨rfl,hJ,hi,hp⟩;refine (Nat.lt_or_ge i l.length).elim (fun hlt=>?_) (fun hge=>?_)
 ·have hd:l.drop i = l[i] :: l.drop (i + 1):=List.drop_eq_getElem_cons hlt;rw [hd] at hp;simp only [aG] at hp;have hc:=hf i hlt (σ' ++ [.dead]) (hm _ _ hJ);obtain ⟨x,hx⟩:=zqq (l[i]);rw [hx] at hp hc;have hw:=oE hlt hl;simp only [ay.v,ay.cells,ii'] at hc;by_cases he:f i x = 0
  ·rw [he] at hc;rw [if_neg (by simp [he])] at hp;refine aa _ ?_;simp [hlt,hx,ay.v,ay.cells];refine ah.fO hc ?_;rintro r σ1 ⟨rfl,hJ1⟩;refine ⟨_,rfl, ?_⟩;simp [hw];exact ⟨i + 1,by omega,by simp,hJ1,by omega,hp⟩
  ·rw [if_pos he] at hp;refine aa _ ?_;simp [hlt,hx,ay.v,ay.cells];refine ah.fO hc ?_;rintro r σ1 ⟨rfl,hJ1⟩;refine ⟨_,rfl, ?_⟩;simp [he,hp];exact ⟨_,hJ1⟩
 ·have hz:l.drop i = []:=List.drop_eq_nil_of_le hge;rw [hz] at hp;refine aa _ ?_;simp [show ¬ i < l.length by omega,hp,aG];exact ⟨_,hJ⟩
theorem jZ (g:FuncId) (first caps:List ag) (l:List aj) (f:Nat → aj → Int) (hl:l.length ≤ maxLen) (J:Nat → af → Prop) (hm:∀ i σ,J i σ → J i (σ ++ [.dead]))
  (hf:∀ i (h:i < l.length) σ,J i σ → aE Tryz.prog (.func (.func g) first caps) [ii' i,aj.v l[i]] σ fun r σ'=>r = .ret (ii' (f i l[i])) ∧ J (i + 1) σ') (σ:af) (h0:J 0 σ) :
  Spec Tryz.prog Km [.slice 5 (l.map aj.v), .func (.func g) first caps] σ fun r σ'=>r = .ret (.tup [ii' (aG f l 0).1,ii' (aG f l 0).2]) ∧ ∃ i,J i σ':=by
 refine T2 (by simp) (aa _ ?_);simp [RU];refine AW.loop (ι:=Nat) (fun i fr σ'=>fr = { v:=[(1, .func (.func g) first caps),(8, .slice 5 (l.map aj.v)),(9, .int .i64 l.length),(10, .int .i64 i)],ds:=[] } ∧ J i σ' ∧ i ≤ l.length ∧ aG f l 0 = aG f (l.drop i) i) (fun i=>l.length - i) 0 ⟨by simp,h0,by omega,by simp⟩ ?_;rintro i fr σ' ⟨rfl,hJ,hi,hp⟩;refine (Nat.lt_or_ge i l.length).elim (fun hlt=>?_) (fun hge=>?_)
 ·have hd:l.drop i = l[i] :: l.drop (i + 1):=List.drop_eq_getElem_cons hlt;rw [hd] at hp;simp only [aG] at hp;have hc:=hf i hlt (σ' ++ [.dead]) (hm _ _ hJ);obtain ⟨x,hx⟩:=zqq (l[i]);rw [hx] at hp hc;have hw:=oE hlt hl;simp only [aj.v,aj.cells,ii'] at hc;by_cases he:f i x = 0
  ·rw [he] at hc;rw [if_neg (by simp [he])] at hp;refine aa _ ?_;simp [hlt,hx,aj.v,aj.cells];refine ah.fO hc ?_;rintro r σ1 ⟨rfl,hJ1⟩;refine ⟨_,rfl, ?_⟩;simp [hw];exact ⟨i + 1,by omega,by simp,hJ1,by omega,hp⟩
  ·rw [if_pos he] at hp;refine aa _ ?_;simp [hlt,hx,aj.v,aj.cells];refine ah.fO hc ?_;rintro r σ1 ⟨rfl,hJ1⟩;refine ⟨_,rfl, ?_⟩;simp [he,hp];exact ⟨_,hJ1⟩
 ·have hz:l.drop i = []:=List.drop_eq_nil_of_le hge;rw [hz] at hp;refine aa _ ?_;simp [show ¬ i < l.length by omega,hp,aG];exact ⟨_,hJ⟩
theorem jO (g:FuncId) (first caps:List ag) (hp:aH first = true) (hp2:aH caps = true) (l:List aj) (f:Nat → aj → Int) (hl:l.length ≤ maxLen)
  (hf:∀ i (h:i < l.length),oO Tryz.prog (.func (.func g) first caps) [ii' i,aj.v l[i]] (ii' (f i l[i]))) (σ:af) :
  Spec Tryz.prog Km [.slice 5 (l.map aj.v), .func (.func g) first caps] σ fun r σ'=>r = .ret (.tup [ii' (aG f l 0).1,ii' (aG f l 0).2]) ∧ σ' = σ:=
 Spec.aF ((jZ g first caps l f hl (fun _ _=>True) (fun _ _ h=>h) (fun i h σ _=>(hf i h σ).mono fun r σ' hq=>⟨hq.1,trivial⟩) [] trivial).mono fun r σ' h=>h.1) (by simp [hp,hp2,aD (f:=aj.v) (fun c=>c.pure) l]) (by simp [ag.pure,aH]) σ
end Go.AM
