/- Pulled out of other texts (pull.py): strings and numbers, by the library. Chapter 09: lists joined; papers that may be wrong: of the program. Chapter 09: the text of a yard, row by row: of the .. -/
import Derived.Test.YtlmhkldmpggadaaGreatDoorP21
import Derived.Test.YtlmhkldmpggadaaGreatDoorP19
import Derived.Test.YtlmhkldmpggadaaGreatDoorP28
import Derived.Test.YtlmhkldmpggadaaGreatDoorP27
import Derived.Test.YtlmhkldmpggadaaGreatDoorP20
namespace Go.AM
open Go.Proofs
set_option maxRecDepth 100000
set_option maxHeartbeats 1000000
theorem data_inj {a b:ByteArray} (h:a.data.toList = b.data.toList):a = b:=by
 obtain ⟨a⟩:=a;obtain ⟨b⟩:=b;have:a = b:=Array.toList_inj.1 h;rw [this]
theorem oq (l:List UInt8):(bytes l).data.toList = l:=by simp [bytes]
abbrev Wd:=List UInt8
def aE (b:ByteArray):Wd:=b.data.toList
theorem gH (w:Wd):aE (bytes w) = w:=oq w
theorem D5:(1,Lib.pow10Tab.map fun z=>(IntKind.u64,z)) ∈ dt:=by
 have e:(Lib.pow10Tab.map fun z=>(IntKind.u64,z)) = tz:=by decide
 rw [e]; exact List.mem_cons_self
theorem nt (n:Int) (h0:-9223372036854775808 ≤ n) (h1:n ≤ 9223372036854775807) (σ:af) :
  Spec Tryz.prog HZ [.int .i64 n] σ fun r σ'=>r = .ret (.str (bytes (Lib.itoa n))) ∧ σ' = σ:=
 Spec.itoa Tryz.Fl (by kernel_rfl) D5 n h0 h1 σ
def spB:ByteArray:=⟨#[32]⟩
theorem Dm (l:List ByteArray) (hN:l.length ≤ 140737488355328) (hlen:(bm 32 (l.map aE)).length ≤ 140737488355328) (σ:af) :
  Spec Tryz.prog HA [.slice 1 (l.map .str), .str spB] σ fun r σ'=>r = .ret (.str (bytes (bm 32 (l.map aE)))) ∧ σ' = σ:=by
 have e:Lib.join (l.map fun x=>x.data.toList) spB.data.toList = bm 32 (l.map aE):=B7 32 _;have:=Spec.join Tryz.Gw Tryz.pN l spB hN (by rw [e]; exact hlen) σ;unfold Hk at this;rw [e] at this;exact this
theorem Al (b k:Nat) (bs:List UInt8) (y:ByteArray) (σ:af) (hb:σ[b]? = some (.bld k bs)) (hlen:bs.length + y.size ≤ 140737488355328) :
  Spec Tryz.prog Ie [.ptr b 0, .str y] σ fun r σ'=>r = .ret (.tup [.int .i64 y.size, .niliface]) ∧ σ' = σ.set b (.bld (k + 1) (bs ++ y.data.toList)):=vp b k bs y σ hb hlen
def nlB:ByteArray:=⟨#[10]⟩
theorem CT (x:ByteArray) (hx:x.size ≤ 281474976710656) (σ:af):∃ te,Spec Tryz.prog Ib [.str x] σ fun r σ'=>r = .ret (ta x te) ∧ σ' = σ:=
 ⟨_,Spec.atoi Tryz.E8 (by decide) (by decide) x hx σ⟩
theorem Fa (x:ByteArray) (hx:x.size ≤ 6000) (σ:af):Spec Tryz.prog LF [.str x, .str nlB] σ fun r σ'=>r = .ret (.tup [.str (bytes (Lib.cut (aE x) [10]).1), .str (bytes (Lib.cut (aE x) [10]).2.1), .bool (Lib.cut (aE x) [10]).2.2]) ∧ σ' = σ:=
 Spec.cut Tryz.GG (by decide) x nlB (by omega) σ
theorem Be (x:ByteArray) (hx:x.size ≤ 6000) (σ:af):Spec Tryz.prog H3 [.str x, .str spB] σ fun r σ'=>r = .ret (.slice 1 ((jL x spB).map .str)) ∧ σ' = σ:=
 Spec.split Tryz.G0 (by kernel_rfl) (by decide) x spB (by omega) (by decide) σ
theorem DK (x:ByteArray):(jL x spB).map aE = cutAt 32 (aE x):=by
 have h:=Lib.splitB_data spB 0 (Lib.countB x spB) x;have e:(jL x spB).map aE = Lib.splitK spB.data.toList 0 (Lib.countB x spB) x.data.toList:=h;rw [e];have e2:Lib.countB x spB = Lib.count x.data.toList [32]:=rfl;rw [e2];unfold Lib.count;rw [mh 32 _ _ (by omega)];exact rB 32 _ _ (Nat.le_refl _)
theorem vU (b:UInt8):∀ l,(cutAt b l).length ≤ l.length + 1 ∧ ∀ p ∈ cutAt b l,p.length ≤ l.length
 | []=>by simp [cutAt]
 | c :: r=>by
  obtain ⟨h1,h2⟩:=vU b r;simp only [cutAt];split
  ·refine ⟨by simp; omega,fun p hp=>?_⟩;rcases List.mem_cons.1 hp with rfl | hp
   ·simp
   ·have:=h2 p hp; simp; omega
  ·cases hq:cutAt b r with
   | nil=>exact absurd hq (j7 b r)
   | cons x q=>
    rw [hq] at h1 h2;refine ⟨by simp at h1 ⊢; omega,fun p hp=>?_⟩;rcases List.mem_cons.1 hp with rfl | hp
    ·have:=h2 x (by simp); simp; omega
    ·have:=h2 p (by simp [hp]); simp; omega
theorem xL (x:ByteArray):(aE x).length = x.size:=by simp [aE]
theorem kV (w:Wd):(bytes w).size = w.length:=by simp [bytes,ByteArray.size]
set_option maxRecDepth 100000
set_option maxHeartbeats 1000000
theorem C4 (n:Nat) (hn:n ≤ 100000) (σ:af) :
  Spec Tryz.prog Ic [.nils 1, .int .i64 n] σ fun r σ'=>r = .ret (.sref 1 σ.length 0 0 0) ∧ σ' = σ ++ [.arr 1 []]:=
 Spec.G5 Tryz.Ll ((Tryz.prog.info? 3).getD default) (.int .i64 0) (by kernel_rfl) (by kernel_rfl) (by kernel_rfl) rfl (Nat.le_of_eq (by kernel_rfl:((Tryz.prog.info? 3).getD default).bytes = 8)) n hn σ
theorem vH {ls:List (List Nat)} {i:Nat} (h:i < ls.length):(ls.take (i + 1)).flatten = (ls.take i).flatten ++ ls[i]:=by
 rw [List.take_add_one,List.flatten_append];simp [h]
theorem pw (ls:List (List Nat)) (i:Nat):(ls.take i).flatten.length ≤ ls.flatten.length:=by
 conv=>rhs; rw [← List.take_append_drop i ls,List.flatten_append,List.length_append]
 omega
def eI (ls:List (List Nat)) (i:Nat):Nat:=(ls.take i).flatten.length
def vi (ls:List (List Nat)) (i:Nat):List ag:=(aY (ls.take i).flatten).map ii'
theorem oQ (ls:List (List Nat)) (h1:ls.length ≤ 100000) (h2:ls.flatten.length ≤ 100000) (σ:af) :
  Spec Tryz.prog Jm [.slice 1 (ls.map kD)] σ fun r σ'=>r = .ret (.sref 1 σ.length 0 ls.flatten.length ls.flatten.length) ∧ σ' = σ ++ [.arr 1 ((aY ls.flatten).map ii')]:=by
 refine M8 (by simp) ?_;refine aa _ ?_;simp [KB];refine AW.loop (ι:=Nat) (fun i fr σ'=>fr = { v:=[(0, .slice 1 (ls.map kD)),(3, .int .i64 (eI ls i)),(9, .slice 1 (ls.map kD)),(10, .int .i64 ls.length),(11, .int .i64 i)],ds:=[] } ∧ σ' = σ ∧ i ≤ ls.length) (fun i=>ls.length - i) 0 ⟨by simp [eI],rfl,by omega⟩ ?_;rintro i fr σ' ⟨rfl,rfl,hi⟩;refine (Nat.lt_or_ge i ls.length).elim (fun hlt=>?_) (fun hge=>?_)
 ·have hltI:(i:Int) < ls.length:=by omega
  have hwi:IntKind.i64.wrap ((i:Int) + 1) = ((i + 1:Nat):Int):=by rw [aw (by omega) (by omega)]; simp
  have hft:=vH hlt;have hle:=pw ls (i + 1);obtain ⟨l,hl⟩:∃ l,ls[i] = l:=⟨_,rfl⟩
  rw [hl] at hft;have hnl:(aY l).length = l.length:=by simp [aY]
  rw [hft,List.length_append] at hle;have hw2:IntKind.i64.wrap (((ls.take i).flatten.length:Int) + l.length) = ((ls.take i).flatten.length:Int) + l.length:=aw (by omega) (by omega);have hnn:¬ (((ls.take i).flatten.length:Int) + l.length) < 0:=by omega
  have hs1:eI ls (i + 1) = eI ls i + l.length:=by unfold eI; rw [hft,List.length_append]
  change IntKind.i64.wrap ((eI ls i:Int) + l.length) = (eI ls i:Int) + l.length at hw2;change ¬ ((eI ls i:Int) + l.length) < 0 at hnn;obtain ⟨c,hc⟩:∃ c,eI ls i = c:=⟨_,rfl⟩
  rw [hc] at hw2 hnn hs1 ⊢;refine aa _ ?_;simp [hlt,hltI,hl,kD,hnl,hw2,hnn,hwi];exact ⟨i + 1,by omega,⟨by rw [hs1]; simp,by simp⟩,by omega⟩
 obtain rfl:i = ls.length:=by omega
 obtain ⟨F,hF⟩:∃ F,ls.flatten = F:=⟨_,rfl⟩
 have hsF:eI ls ls.length = F.length:=by unfold eI; rw [List.take_length,hF]
 rw [hF] at h2 ⊢;rw [hsF];refine aa _ ?_;simp;refine ah.spec Lc (C4 _ h2 _) ?_;rintro r σ2 ⟨rfl,rfl⟩;refine ⟨_,rfl, ?_⟩;simp;obtain ⟨B,hB⟩:∃ B,σ'.length = B:=⟨_,rfl⟩
 have gB:∀ l:af,(σ' ++ l)[B]? = l[0]?:=fun l=>by rw [← hB,List.getElem?_append_right (by omega)]; simp
 have sB:∀ (l:af) (o:bR),(σ' ++ l).set B o = σ' ++ l.set 0 o:=fun l o=>by rw [← hB,List.set_append_right _ _ (by omega)]; simp
 rw [hB];refine AW.loop (ι:=Nat) (fun i fr σ2=>fr = { v:=[(6, .sref 1 B 0 (eI ls i) (eI ls i)),(25, .slice 1 (ls.map kD)),(26, .int .i64 ls.length),(27, .int .i64 i)],ds:=[] } ∧ σ2 = σ' ++ [.arr 1 (vi ls i)] ∧ i ≤ ls.length) (fun i=>ls.length - i) 0 ⟨by simp [eI],by simp [vi,aY],by omega⟩ ?_;rintro i fr σ2 ⟨rfl,rfl,hi⟩;refine (Nat.lt_or_ge i ls.length).elim (fun hlt=>?_) (fun hge=>?_);rotate_left
 ·obtain rfl:i = ls.length:=by omega
  have hcF:vi ls ls.length = (aY F).map ii':=by unfold vi; rw [List.take_length,hF]
  have hsum:(ls.map List.length).sum = F.length:=by rw [← hF,List.length_flatten]
  rw [hsF,hcF];refine aa _ ?_;simp [hsum]
 have hltI:(i:Int) < ls.length:=by omega
 have hwi:IntKind.i64.wrap ((i:Int) + 1) = ((i + 1:Nat):Int):=by rw [aw (by omega) (by omega)]; simp
 have hft:=vH hlt;have hle:=pw ls (i + 1);rw [hF] at hle;obtain ⟨l,hl⟩:∃ l,ls[i] = l:=⟨_,rfl⟩
 rw [hl] at hft;have hnl:(aY l).length = l.length:=by simp [aY]
 have hs1:eI ls (i + 1) = eI ls i + l.length:=by unfold eI; rw [hft,List.length_append]
 have hT:(vi ls i).length = eI ls i:=by unfold vi aY eI; rw [List.length_map,List.length_map]
 rw [hft,List.length_append] at hle;have hle2:eI ls i + l.length ≤ 100000:=by unfold eI; omega
 have hcv:vi ls (i + 1) = vi ls i ++ (aY l).map ii':=by unfold vi; rw [hft]; simp [aY]
 obtain ⟨T,hTd⟩:∃ T,vi ls i = T:=⟨_,rfl⟩
 rw [hTd] at hcv hT ⊢;obtain ⟨c,hc⟩:∃ c,eI ls i = c:=⟨_,rfl⟩
 rw [hc] at hs1 hT hle2 ⊢;by_cases hl0:l.length = 0
 ·have hl0':l = []:=List.length_eq_zero_iff.1 hl0;subst hl0';refine aa _ ?_;simp [hlt,hltI,hl,kD,aY,gB,sB,hwi,hT];exact ⟨fun v hv=>by simp at hv,i + 1,by omega,⟨by rw [hs1]; simp,by simp⟩,by rw [hcv]; simp [aY],by omega⟩
 ·have hcl:¬ c + l.length ≤ c:=by omega
  refine aa _ ?_;simp [hlt,hltI,hl,kD,hnl,gB,sB,hwi,hT,wg];rw [if_neg hcl];exact ⟨by omega,i + 1,by omega,⟨by rw [hs1],by simp⟩,by rw [hcv],by omega⟩
theorem Dh (l:List Int) (hl:l.length ≤ 100000) (b:Nat) (σ:af) (hb:σ[b]? = some (mA l)) :
  Spec Tryz.prog KR [.sref 1 b 0 l.length l.length] σ fun r σ'=>r = .ret (.tup []) ∧ σ' = σ.set b (mA (eG l)):=
 Spec.sortInt Tryz.Gi l (by omega) b σ hb
theorem zW {y:ab} (hm:y.papers.length ≤ 10):((kI y).getD []).length ≤ 1024 ∧ ∀ l ∈ (kI y).getD [],l.length ≤ 10 ∧ ∀ i ∈ l,i < y.papers.length:=by
 cases h:kI y with
 | none=>simp
 | some ls=>
  obtain ⟨many,hmm,he⟩:=List.exists_of_findSome?_eq_some h
  split at he
  ·cases he
  ·cases he;refine ⟨Hc hm many,fun l hl=>?_⟩;have h1:=(List.mem_filter.1 hl).1;obtain ⟨h2,h3⟩:=(gP y.papers.length many 0 l).1 h1;have h4:=List.mem_range.1 hmm;exact ⟨by omega,fun i hi=>(h3.2 i hi).2⟩
def GK (y:ab):List Nat × Int:=if eo y ≠ 0 then ([],eo y) else (F0 y ((kI y).getD []),0)
theorem ua (y:ab) (hy:dz y) (σ:af):Spec Tryz.prog G1 [y.v] σ fun r σ'=>r = .ret (.tup [.slice 1 ((aY (GK y).1).map ii'),ii' (GK y).2]) ∧ σ' = σ:=by
 refine Spec.aI (NJ (by simp) ?_) (by simp [y.pure,aK]) (by simp [ag.pure,aK,aC (f:=ii') (fun _=>rfl)]) σ;have hen:=fun σ=>gx y hy σ
 simp only [ab.v,ab.cells] at hen;unfold GK;by_cases h0:eo y = 0;rotate_left
 ·rw [if_pos h0];refine aa _ ?_;simp [IA,ab.v,ab.cells];refine ah.pure CV (hen _) ?_;simp [h0,aY]
 rw [if_neg (by simp [h0])];have hv:=uQ h0;have hm10:=hv.m10;rw [h0] at hen;have hle:=fun σ=>qN hv σ
 simp only [ab.v,ab.cells] at hle;obtain ⟨s1,s2⟩:=zW hm10;have hun:=fun r=>AK (y:=y) (ls:=(kI y).getD []) (r:=r) (fun l hl i hi=>(s2 l hl).2 i hi)
 obtain ⟨ls,hls⟩:∃ ls,(kI y).getD [] = ls:=⟨_,rfl⟩
 rw [hls] at hle s1 s2 hun ⊢;have hfl:=yg ls (fun l hl=>(s2 l hl).1) s1;obtain ⟨F,hF⟩:∃ F,ls.flatten = F:=⟨_,rfl⟩
 have hcon:=fun σ=>oQ ls (by omega) (by omega) σ
 rw [hF] at hfl;simp only [hF] at hcon hun;have hnF:(aY F).length = F.length:=by simp [aY]
 have hsl:(eG (aY F)).length = F.length:=by rw [gw,hnF]
 refine aa _ ?_;simp [IA,ab.v,ab.cells];refine ah.pure CV (hen _) ?_;simp;refine ah.pure OF (hle _) ?_;simp;refine ah.spec Pw (hcon _) ?_;rintro r σ2 ⟨rfl,rfl⟩;have hso:=Dh (aY F) (by omega) 1 [.dead,mA (aY F)] rfl;rw [hnF] at hso;have hco:=xy 1 (eG (aY F)) (by omega) (Dy _) [.dead,mA (eG (aY F))] (by simp) rfl;rw [hsl] at hco;refine ⟨_,rfl, ?_⟩;simp;refine ah.spec OK hso ?_;rintro r σ2 ⟨rfl,rfl⟩;refine ⟨_,rfl, ?_⟩;simp;refine ah.spec O4 hco ?_;rintro r σ2 ⟨c,z,hon,hcl,hcz,rfl,rfl⟩;refine ⟨_,rfl, ?_⟩;simp;have hmem:∀ x,x ∈ c ↔ ∃ n:Nat,n ∈ F ∧ (n:Int) = x:=fun x=>by
  rw [hon.2,(AN (aY F)).mem_iff];simp [aY]
 have hcn:aY (c.map Int.toNat) = c:=by
  unfold aY;rw [List.map_map]
  conv=>rhs; rw [← List.map_id c]
  refine List.map_congr_left fun x hx=>?_
  obtain ⟨n,_,rfl⟩:=(hmem x).1 hx;simp
 have hpw:(c.map Int.toNat).Pairwise (· < ·):=by
  rw [List.pairwise_map];refine hon.1.imp_of_mem fun {a b} ha hb hab=>?_
  obtain ⟨n,_,rfl⟩:=(hmem a).1 ha;obtain ⟨k,_,rfl⟩:=(hmem b).1 hb;simp;omega
 have hr:=hun (c.map Int.toNat) hpw fun x=>by
  rw [List.mem_map];constructor
  ·rintro ⟨z,hz,rfl⟩;obtain ⟨n,hn,rfl⟩:=(hmem z).1 hz;simpa using hn
  ·intro hx;exact ⟨x,(hmem x).2 ⟨x,hx,rfl⟩,by simp⟩
 rw [← hr,hcn];simp only [mA];refine ⟨trivial,by simpa using hcz,by rw [List.map_append,List.take_left' (by simp)]⟩
set_option maxRecDepth 100000
set_option maxHeartbeats 1000000
theorem Ca (l:List ByteArray):Fits 1 (l.map ag.str):=by
 intro v hv;obtain ⟨a,_,rfl⟩:=List.mem_map.1 hv;exact ⟨⟨rfl,rfl⟩,rfl⟩
def nlS:ByteArray:=⟨#[10]⟩
theorem lj (ws:List ByteArray) (hws:ws.length ≤ 100) (hl:(bm 32 (ws.map aE)).length ≤ 10000) (b k:Nat) (bs:List UInt8) (hbs:bs.length ≤ 100000) (σ:af) (hb:σ[b]? = some (.bld k bs)) :
  Spec Tryz.prog Et [.slice 1 (ws.map .str), .ptr b 0] σ fun r σ'=>r = .ret (.tup []) ∧ σ' = σ.set b (.bld (k + 1) (bs ++ dy (ws.map aE))):=by
 have hj:=fun σ=>Dm ws (by omega) (by omega) σ
 have hsz:(bytes (bm 32 (ws.map aE)) ++ nlS).size = (bm 32 (ws.map aE)).length + 1:=by
  rw [ByteArray.size_append];simp [bytes,nlS,ByteArray.size]
 have hdt:(bytes (bm 32 (ws.map aE)) ++ nlS).data.toList = dy (ws.map aE):=by
  simp [bytes,nlS,dy]
 have hw:=Al b k bs (bytes (bm 32 (ws.map aE)) ++ nlS) σ hb (by omega);rw [hdt] at hw;have hbz:(bytes (bm 32 (ws.map aE))).size = (bm 32 (ws.map aE)).length:=by simp [bytes,ByteArray.size]
 refine MR (by simp) (aa _ ?_);simp [Ik];refine ah.pure Lf (hj _) ?_;simp
 refine ⟨by have e1:(⟨#[10]⟩:ByteArray).size = 1:=rfl
            rw [hbz,e1]; omega, ?_⟩
 refine ah.spec K6 hw ?_;rintro r σ' ⟨rfl,rfl⟩;refine ⟨_,rfl, ?_⟩;simp
def miS:ByteArray:=⟨#[45]⟩
def p6 (y:ab) (a:Int):ByteArray:=if a = -1 then miS else y.places.getD a.toNat .empty
theorem D9 (y:ab) (a:Int):aE (p6 y a) = fS y a:=by
 unfold p6 fS
 split <;> rfl
theorem jz (y:ab) (a:Int) (ha:-1 ≤ a ∧ a < y.places.length) (σ:af) :
  Spec Tryz.prog FF [ii' a, .pval y.v] σ fun r σ'=>r = .ret (.str (p6 y a)) ∧ σ' = σ:=by
 refine Spec.aI (J6 (by simp) ?_) (by simp [y.pure,aK,ag.pure]) rfl σ;unfold p6;by_cases h:a = -1
 ·subst h;refine aa _ ?_;simp [FW,ab.v,ab.cells];rfl
 ·obtain ⟨k,rfl⟩:∃ k:Nat,a = k:=⟨a.toNat,by omega⟩
  have hk:k < y.places.length:=by omega
  refine aa _ ?_;simp [FW,ab.v,ab.cells,h,hk]
def C7 (w:ByteArray) (y:ab) (c:av):List ByteArray:=[w,y.kinds.getD c.kind.toNat .empty,y.places.getD c.place.toNat .empty,bytes (Lib.itoa c.lo),bytes (Lib.itoa c.hi)]
theorem zw (w:ByteArray) (y:ab) (c:av):(C7 w y c).map aE = bn (aE w) y c:=by
 simp only [C7,bn,List.map_cons,List.map_nil,gH];rfl
theorem n6 {α β:Type} {l:List α} {i:Nat} (f:α → List β) (h:i < l.length):(l.take (i + 1)).flatMap f = (l.take i).flatMap f ++ f l[i]:=by
 rw [List.take_succ_eq_append_getElem h,List.flatMap_append]; simp
theorem kB {α β:Type} (f:α → List β) {x:α}:∀ {l:List α},x ∈ l → (f x).length ≤ (l.flatMap f).length
 | [],h=>by simp at h
 | a :: r,h=>by
  rw [List.flatMap_cons,List.length_append];rcases List.mem_cons.1 h with rfl | h
  ·omega
  ·have:=kB f h;omega
theorem pj (y:ab) (w:ByteArray) (cs:List av) (hcl:cs.length ≤ 1000) (hc:∀ c ∈ cs,(0 ≤ c.kind ∧ c.kind < y.kinds.length) ∧ (0 ≤ c.place ∧ c.place < y.places.length) ∧ Big c.lo ∧ Big c.hi)
  (hlen:(cs.flatMap fun c=>dy (bn (aE w) y c)).length ≤ 5000) (b k:Nat) (bs:List UInt8) (hbs:bs.length ≤ 5000) (σ:af) (hb:σ[b]? = some (.bld k bs)) :
  Spec Tryz.prog E9 [.str w, .slice 4 (cs.map av.v), .pval (.func (.func 143) [] [.ptr b 0]), .pval y.v] σ fun r σ'=>r = .ret (.tup []) ∧ ∃ k' tl,σ' = σ.set b (.bld k' (bs ++ cs.flatMap fun c=>dy (bn (aE w) y c))) ++ tl:=by
 refine MT (by simp) ?_;refine aa _ ?_;simp [HE,ab.v,ab.cells]
 refine AW.loop (ι:=Nat) (fun i fr σ'=>∃ (k':Nat) (tl:af),fr = { v:=[(0, .str w),(2, .pval (.func (.func 143) [] [.ptr b 0])),(3, .pval y.v),(8, .slice 4 (cs.map av.v)),(9, .int .i64 cs.length),(10, .int .i64 i)],ds:=[] } ∧ σ' = σ.set b (.bld k' (bs ++ (cs.take i).flatMap fun c=>dy (bn (aE w) y c))) ++ tl ∧ i ≤ cs.length) (fun i=>cs.length - i) 0 ⟨k,[],by simp [ab.v,ab.cells],by
  obtain ⟨h1,h2⟩:=List.getElem?_eq_some_iff.1 hb
  simp [← h2],by omega⟩ ?_
 rintro i fr σ' ⟨k',tl,rfl,rfl,hi⟩;refine (Nat.lt_or_ge i cs.length).elim (fun hlt=>?_) (fun hge=>?_);rotate_left
 ·obtain rfl:i = cs.length:=by omega
  rw [List.take_length];refine aa _ ?_;simp;exact ⟨k',tl,rfl⟩
 have hltI:(i:Int) < cs.length:=by omega
 have hwi:IntKind.i64.wrap ((i:Int) + 1) = ((i + 1:Nat):Int):=by rw [aw (by omega) (by omega)]; simp
 obtain ⟨c,hx⟩:∃ c,cs[i] = c:=⟨_,rfl⟩
 have hcm:c ∈ cs:=hx ▸ List.getElem_mem _;obtain ⟨⟨c1,c2⟩,⟨c3,c4⟩,c5,c6⟩:=hc c hcm;unfold Big at c5 c6;have hfl:=n6 (fun c=>dy (bn (aE w) y c)) hlt;rw [hx] at hfl;have hrow:=Nat.le_trans (kB (fun c=>dy (bn (aE w) y c)) hcm) hlen;have hpre:((cs.take i).flatMap fun c=>dy (bn (aE w) y c)).length ≤ 5000:=by
  refine Nat.le_trans ?_ hlen
  conv=>rhs; rw [← List.take_append_drop i cs,List.flatMap_append,List.length_append]
  omega
 obtain ⟨S,hS⟩:∃ S,((cs.take i).flatMap fun c=>dy (bn (aE w) y c)) = S:=⟨_,rfl⟩
 rw [hS] at hfl hpre ⊢;obtain ⟨hb1,_⟩:=List.getElem?_eq_some_iff.1 hb;have hgb:∀ tl:af,(σ.set b (.bld k' (bs ++ S)) ++ tl)[b]? = some (.bld k' (bs ++ S)):=fun tl=>by
  rw [List.getElem?_append_left (by rw [List.length_set]; exact hb1),List.getElem?_set_self hb1]
 have hli:=lj (C7 w y c) (by simp [C7]) (by
  rw [zw];simp only [dy,List.length_append] at hrow
  omega) b k' (bs ++ S) (by simp; omega)
 rw [zw,List.append_assoc, ← hfl] at hli;have i1:=fun σ=>nt c.lo (by omega) (by omega) σ
 have i2:=fun σ=>nt c.hi (by omega) (by omega) σ
 obtain ⟨K,hK⟩:∃ K:Nat,c.kind = K:=⟨c.kind.toNat,by omega⟩
 obtain ⟨Pn,hP⟩:∃ K:Nat,c.place = K:=⟨c.place.toNat,by omega⟩
 have hK1:K < y.kinds.length:=by omega
 have hP1:Pn < y.places.length:=by omega
 have hKI:(K:Int) < y.kinds.length:=by omega
 have hPI:(Pn:Int) < y.places.length:=by omega
 have hcs:C7 w y c = [w,y.kinds[K],y.places[Pn],bytes (Lib.itoa c.lo),bytes (Lib.itoa c.hi)]:=by
  simp only [C7,hK,hP,Int.toNat_natCast,List.getD,List.getElem?_eq_getElem hK1,List.getElem?_eq_getElem hP1,Option.getD_some]
 rw [hcs] at hli;simp only [List.map_cons,List.map_nil] at hli;have hsb:∀ (X Y:bR) (l:af),(σ.set b X ++ l).set b Y = σ.set b Y ++ l:=fun X Y l=>by
  rw [List.set_append_left _ _ (by rw [List.length_set]; exact hb1),List.set_set]
 refine aa _ ?_;simp [hlt,hltI,hx,av.v,av.cells,ab.v,ab.cells,hK,hP,hK1,hP1,hKI,hPI];refine ⟨[.str (bytes (Lib.itoa c.lo)), .str (bytes (Lib.itoa c.hi))],⟨ah.pure zS (i1 _) ?_,ah.pure zS (i2 _) ?_⟩, ?_⟩
 ·simp
 ·simp
 simp;refine ⟨[],ah.eH (aL.func HV (first:=[]) (caps:=[.ptr b 0]) (args:=[_]) (hli _ (hgb _))) ?_⟩;rintro r σ' ⟨rfl,rfl⟩;refine ⟨_,rfl, ?_⟩;simp [hsb,hwi];exact ⟨i + 1,by omega,by simp,⟨k' + 1,_,rfl⟩,by omega⟩
theorem wu:∀ (l:List WdW),(bm 32 l).length ≤ (l.map List.length).sum + l.length
 | []=>by simp [bm]
 | [p]=>by simp [bm]
 | p :: q :: r=>by
  have:=wu (q :: r);simp only [bm,List.length_append,List.length_cons,List.map_cons,List.sum_cons] at this ⊢;omega
theorem qE (r:List WdW):(dy r).length ≤ (r.map List.length).sum + r.length + 1:=by
 have:=wu r;simp only [dy,List.length_append,List.length_singleton]; omega
theorem mS {α:Type} (f:α → WdW) {m:Nat}:∀ (l:List α),(∀ x ∈ l,(f x).length ≤ m) → (l.flatMap f).length ≤ m * l.length
 | [],_=>by simp
 | a :: l,h=>by
  have h1:=h a (by simp);have h2:=mS f l fun x hx=>h x (by simp [hx])
  simp only [List.flatMap_cons,List.length_append,List.length_cons,Nat.mul_add];omega
theorem ru {nm:ByteArray → Bool} (hw:kx nm):∀ l:List ByteArray,(∀ s ∈ l,nm s = true) → ((l.map et).map List.length).sum ≤ 16 * l.length
 | [],_=>by simp
 | a :: l,h=>by
  have h1:=(hw.byte a (h a (by simp))).2.2;have h2:=ru hw l fun s hs=>h s (by simp [hs])
  simp only [List.map_cons,List.sum_cons,List.length_cons] at h2 ⊢;omega
theorem mO {nm:ByteArray → Bool} (hw:kx nm) {y:ab} (h:bS nm y):(dj y).length ≤ 4000:=by
 have na:∀ (l:List ByteArray),(∀ s ∈ l,nm s = true) → ∀ i:Int,0 ≤ i ∧ i < l.length → (nameAt l i).length ≤ 16:=fun l hl i hi=>by
  obtain ⟨hi',e⟩:=oI hi;rw [e]; exact (hw.byte _ (hl _ (List.getElem_mem hi'))).2.2
 have hcnt:∀ (w:WdW),w.length ≤ 5 → ∀ c,zD y c → (dy (bn w y c)).length ≤ 57:=fun w hwl c hc=>by
  have h3:=hc.lo;have h4:=hc.hi;unfold Big at h3 h4;have k1:=na y.kinds h.kinds.1 _ hc.kind;have k2:=na y.places h.places.1 _ hc.place;have k3:=pr (n:=c.lo) h3.1 (k:=7) (by omega) (by omega);have k4:=pr (n:=c.hi) h4.1 (k:=7) (by omega) (by omega);have:=qE (bn w y c);simp only [bn,List.map_cons,List.map_nil,List.sum_cons,List.sum_nil,List.length_cons,List.length_nil] at this ⊢;omega
 have hpl:∀ a:Int, -1 ≤ a ∧ a < y.places.length → (fS y a).length ≤ 16:=fun a ha=>by
  unfold fS;split
  ·simp [bJ]
  ·exact na y.places h.places.1 _ (by omega)
 have hpap:∀ p ∈ y.papers,(dy (cE y p)).length ≤ 69:=fun p hp=>by
  obtain ⟨i,hi,rfl⟩:=List.getElem_of_mem hp;have hv:=h.papers i hi;have h4:=hv.kilos;unfold Big at h4;have hm:=h.m10;have k1:=na y.kinds h.kinds.1 _ hv.kind;have k2:=hpl _ hv.src;have k3:=hpl _ hv.dst;have k4:=pr (n:=y.papers[i].kilos) h4.1 (k:=7) (by omega) (by omega);have k5:(if 0 ≤ y.papers[i].copy then Lib.itoa y.papers[i].copy else bJ).length ≤ 1:=by
   split
   ·rename_i hc
    exact pr hc (by omega) (by
     rcases hv.copy with e | ⟨_,e,_⟩
     ·omega
     ·omega)
   ·simp [bJ]
  have:=qE (cE y y.papers[i]);simp only [cE,List.map_cons,List.map_nil,List.sum_cons,List.sum_nil,List.length_cons,List.length_nil] at this ⊢;have e:gJ.length = 5:=rfl;omega
 have f1:=mS (fun c=>dy (bn dh y c)) (m:=57) y.first fun c hc=>hcnt dh (by decide) c (h.first.1 c hc)
 have f2:=mS (fun p=>dy (cE y p)) (m:=69) y.papers hpap;have f3:=mS (fun c=>dy (bn ed y c)) (m:=57) y.last fun c hc=>hcnt ed (by decide) c (h.last.1 c hc)
 have f4:=qE (dS :: y.kinds.map et);have f5:=qE (df :: y.places.map et);have s4:=ru hw y.kinds h.kinds.1;have s5:=ru hw y.places h.places.1;have e4:dS.length = 5:=rfl;have e5:df.length = 6:=rfl;simp only [List.map_cons,List.sum_cons,List.length_cons,List.length_map] at f4 f5;have g1:=h.k4; have g2:=h.p4; have g3:=h.m10; have g4:=h.f8; have g5:=h.l8;unfold dj qt;simp only [List.flatMap_cons,List.flatMap_append,List.flatMap_map,List.length_append];omega
set_option maxRecDepth 100000
set_option maxHeartbeats 1000000
def jK:ByteArray:=⟨#[107,105,110,100,115]⟩
def fO:ByteArray:=⟨#[112,108,97,99,101,115]⟩
def cu:ByteArray:=⟨#[102,105,114,115,116]⟩
def bF:ByteArray:=⟨#[112,97,112,101,114]⟩
def cX:ByteArray:=⟨#[108,97,115,116]⟩
def FO (p:ak):ByteArray:=if 0 ≤ p.copy then bytes (Lib.itoa p.copy) else miS
def zy (y:ab) (p:ak):List ByteArray:=[bF,y.kinds.getD p.kind.toNat .empty,p6 y p.src,p6 y p.dst,bytes (Lib.itoa p.kilos),FO p]
theorem y6 (y:ab) (p:ak):(zy y p).map aE = cE y p:=by
 have e:aE (FO p) = if 0 ≤ p.copy then Lib.itoa p.copy else bJ:=by
  unfold FO;split
  ·exact gH _
  ·rfl
 simp only [zy,cE,List.map_cons,List.map_nil,gH,D9,e];rfl
theorem il (ws:List ByteArray) (hws:ws.length ≤ 100) (hl:(dy (ws.map aE)).length ≤ 4001) (k:Nat) (bs:List UInt8) (hbs:bs.length ≤ 5000) (tl:af) :
  aL Tryz.prog (.func (.func 143) [] [.ptr 0 0]) [.slice 1 (ws.map .str)] (.bld k bs :: tl) fun r σ'=>r = .ret (.tup []) ∧ σ' = .bld (k + 1) (bs ++ dy (ws.map aE)) :: tl:=
 aL.func HV (first:=[]) (lj ws hws (by simp only [dy,List.length_append] at hl; omega) 0 k bs (by omega) _ rfl)
theorem lh {nm:ByteArray → Bool} (hn:kx nm) {y:ab} (hv:bS nm y) (σ:af):Spec Tryz.prog IZ [y.v] σ fun r σ'=>r = .ret (.str (bytes (dj y))) ∧ σ' = σ:=by
 refine Spec.aI (OH (by simp) ?_) (by simp [y.pure,aK]) rfl σ;have htl:=mO hn hv;have hk4:=hv.k4;have hp4:=hv.p4;have hm10:=hv.m10;obtain ⟨R1,hR1⟩:∃ R,dy (dS :: y.kinds.map et) = R:=⟨_,rfl⟩
 obtain ⟨R2,hR2⟩:∃ R,dy (df :: y.places.map et) = R:=⟨_,rfl⟩
 obtain ⟨R3,hR3⟩:∃ R,(y.first.flatMap fun c=>dy (bn dh y c)) = R:=⟨_,rfl⟩
 obtain ⟨R4,hR4⟩:∃ R,(y.papers.flatMap fun p=>dy (cE y p)) = R:=⟨_,rfl⟩
 obtain ⟨R5,hR5⟩:∃ R,(y.last.flatMap fun c=>dy (bn ed y c)) = R:=⟨_,rfl⟩
 have hT:dj y = R1 ++ (R2 ++ (R3 ++ (R4 ++ R5))):=by
  rw [← hR1, ← hR2, ← hR3, ← hR4, ← hR5];unfold dj qt;simp [List.flatMap_append,List.flatMap_map]
 have hlen:R1.length + (R2.length + (R3.length + (R4.length + R5.length))) ≤ 4000:=by
  rw [hT] at htl; simpa using htl
 have e1:(jK :: y.kinds).map aE = dS :: y.kinds.map et:=rfl;have e2:(fO :: y.places).map aE = df :: y.places.map et:=rfl;have c1:=fun k bs hbs tl=>il (jK :: y.kinds) (by simp; omega) (by rw [e1,hR1]; omega) k bs hbs tl
 have c2:=fun k bs hbs tl=>il (fO :: y.places) (by simp; omega) (by rw [e2,hR2]; omega) k bs hbs tl
 rw [e1,hR1] at c1;rw [e2,hR2] at c2;simp only [List.map_cons] at c1 c2;have cnt:=fun (w:ByteArray) (cs:List av) (hcl:cs.length ≤ 8) (hc:∀ c ∈ cs,zD y c) (hlen:(cs.flatMap fun c=>dy (bn (aE w) y c)).length ≤ 5000) k bs hbs tl=>
  aL.func Lb (first:=[]) (caps:=[.pval (.func (.func 143) [] [.ptr 0 0]), .pval y.v]) (args:=[.str w, .slice 4 (cs.map av.v)])
   (pj y w cs (by omega) (fun c hm=>⟨(hc c hm).kind,(hc c hm).place,(hc c hm).lo,(hc c hm).hi⟩) hlen 0 k bs hbs (.bld k bs :: tl) rfl)
 have c3:=cnt cu y.first hv.f8 hv.first.1 (by show (y.first.flatMap fun c=>dy (bn dh y c)).length ≤ 5000; rw [hR3]; omega)
 have c5:=cnt cX y.last hv.l8 hv.last.1 (by show (y.last.flatMap fun c=>dy (bn ed y c)).length ≤ 5000; rw [hR5]; omega);have hfk:=Ca y.kinds;have hfp:=Ca y.places;rw [show aE cu = dh from rfl,hR3] at c3;rw [show aE cX = ed from rfl,hR5] at c5;simp only [ab.v,ab.cells] at c3 c5;rw [hT];refine aa _ ?_;simp [Mg,ab.v,ab.cells,hfk];refine ⟨by omega,ah.eH (c1 _ _ (by simp) _) ?_⟩;rintro r σ' ⟨rfl,rfl⟩;refine ⟨_,rfl, ?_⟩;simp [hfp];refine ⟨by omega,ah.eH (c2 _ _ (by omega) _) ?_⟩;rintro r σ' ⟨rfl,rfl⟩;refine ⟨_,rfl, ?_⟩;simp;refine ah.eH (c3 _ _ (by simp; omega) _) ?_;rintro r σ' ⟨rfl,k,tl,rfl⟩;refine ⟨_,rfl, ?_⟩;simp;obtain ⟨BB,hBB⟩:∃ BB,R1 ++ (R2 ++ R3) = BB:=⟨_,rfl⟩
 have hBl:BB.length + R4.length + R5.length ≤ 4000:=by rw [← hBB]; simp; omega
 have hTT:R1 ++ (R2 ++ (R3 ++ (R4 ++ R5))) = BB ++ R4 ++ R5:=by rw [← hBB]; simp
 rw [hBB,hTT];have c4:=fun (p:ak) (hp:(dy (cE y p)).length ≤ 4001) k bs hbs tl=>il (zy y p) (by simp [zy]) (by rw [y6]; exact hp) k bs hbs tl
 simp only [y6] at c4;refine AW.loop (ι:=Nat) (fun i fr σ'=>∃ (k:Nat) (tl:af),fr = { v:=[(1, .pval y.v),(3, .ptr 0 0),(4, .pval (.func (.func 143) [] [.ptr 0 0])),(5, .func (.func 146) [] [.pval (.func (.func 143) [] [.ptr 0 0]), .pval y.v]),(6, .func (.func 148) [] [.pval y.v]),(34, .slice 5 (y.papers.map ak.v)),(35, .int .i64 y.papers.length),(36, .int .i64 i)],ds:=[] } ∧ σ' = .bld k (BB ++ (y.papers.take i).flatMap fun p=>dy (cE y p)) :: tl ∧ i ≤ y.papers.length) (fun i=>y.papers.length - i) 0 ⟨k,_,by simp [ab.v,ab.cells],by simp; rfl,by omega⟩ ?_;clear tl k;rintro i fr σ' ⟨k,tl,rfl,rfl,hi⟩;refine (Nat.lt_or_ge i y.papers.length).elim (fun hlt=>?_) (fun hge=>?_);rotate_left
 ·obtain rfl:i = y.papers.length:=by omega
  rw [List.take_length,hR4];refine aa _ ?_;simp [ab.v,ab.cells];refine ah.eH (c5 _ _ (by simp; omega) _) ?_;rintro r σ' ⟨rfl,k',tl',rfl⟩;refine ⟨_,rfl, ?_⟩;simp;refine ah.spec K1 (th 0 k' _ _ rfl) ?_;rintro r σ' ⟨rfl,rfl⟩;refine ⟨_,rfl, ?_⟩;simp [bytes]
 have hltI:(i:Int) < y.papers.length:=by omega
 have hwi:IntKind.i64.wrap ((i:Int) + 1) = ((i + 1:Nat):Int):=by rw [aw (by omega) (by omega)]; simp
 have hpv:=hv.papers i hlt;obtain ⟨p,hx⟩:∃ p,y.papers[i] = p:=⟨_,rfl⟩
 have hpm:p ∈ y.papers:=hx ▸ List.getElem_mem _;rw [hx] at hpv;have hfl:=n6 (fun p=>dy (cE y p)) hlt;rw [hx] at hfl;have hrow:=kB (fun p=>dy (cE y p)) hpm;have hpre:((y.papers.take i).flatMap fun p=>dy (cE y p)).length ≤ R4.length:=by
  rw [← hR4]
  conv=>rhs; rw [← List.take_append_drop i y.papers,List.flatMap_append,List.length_append]
  omega
 rw [hR4] at hrow;obtain ⟨S,hS⟩:∃ S,((y.papers.take i).flatMap fun p=>dy (cE y p)) = S:=⟨_,rfl⟩
 rw [hS] at hfl hpre ⊢;have hli:=fun tl=>c4 p (by omega) k (BB ++ S) (by simp; omega) tl
 rw [List.append_assoc, ← hfl] at hli;have hkb:=hpv.kilos;unfold Big at hkb;have i1:=fun σ=>nt p.kilos (by omega) (by omega) σ
 have t1:=fun σ=>aL.func HU (first:=[]) (caps:=[.pval y.v]) (args:=[ii' p.src]) (jz y p.src hpv.src σ)
 have t2:=fun σ=>aL.func HU (first:=[]) (caps:=[.pval y.v]) (args:=[ii' p.dst]) (jz y p.dst hpv.dst σ)
 simp only [ab.v,ab.cells] at t1 t2;obtain ⟨K,hK⟩:∃ K:Nat,p.kind = K:=⟨p.kind.toNat,by have:=hpv.kind; omega⟩
 have hK1:K < y.kinds.length:=by have:=hpv.kind; omega
 have hKI:(K:Int) < y.kinds.length:=by omega
 by_cases hcp:0 ≤ p.copy
 ·have hps:zy y p = [bF,y.kinds[K],p6 y p.src,p6 y p.dst,bytes (Lib.itoa p.kilos),bytes (Lib.itoa p.copy)]:=by
   simp only [zy,FO,hK,if_pos hcp,Int.toNat_natCast,List.getD,List.getElem?_eq_getElem hK1,Option.getD_some]
  rw [hps] at hli;simp only [List.map_cons,List.map_nil] at hli;have hcb:p.copy < 10:=by
   rcases hpv.copy with e | ⟨_,e,_⟩ <;> omega
  have i2:=fun σ=>nt p.copy (by omega) (by omega) σ
  refine aa _ ?_;simp [hlt,hltI,hx,ak.v,ak.cells,ab.v,ab.cells,hK,hK1,hKI,hcp];refine ah.pure zS (i2 _) ?_;simp [hlt,hltI,hx,ak.v,ak.cells,ab.v,ab.cells,hK,hK1,hKI,hcp];refine ⟨[.str (p6 y p.src), .str (p6 y p.dst), .str (bytes (Lib.itoa p.kilos))],⟨ah.of (t1 _) ?_,ah.of (t2 _) ?_,ah.pure zS (i1 _) ?_⟩, ?_⟩
  ·simp
  ·simp
  ·simp
  simp;refine ⟨[],ah.eH (hli _) ?_⟩;rintro r σ' ⟨rfl,rfl⟩;refine ⟨_,rfl, ?_⟩;simp [hwi];exact ⟨i + 1,by omega,by simp,rfl,by omega⟩
 ·have hps:zy y p = [bF,y.kinds[K],p6 y p.src,p6 y p.dst,bytes (Lib.itoa p.kilos),miS]:=by
   simp only [zy,FO,hK,if_neg hcp,Int.toNat_natCast,List.getD,List.getElem?_eq_getElem hK1,Option.getD_some]
  rw [hps] at hli;simp only [List.map_cons,List.map_nil] at hli;refine aa _ ?_;simp [hlt,hltI,hx,ak.v,ak.cells,ab.v,ab.cells,hK,hK1,hKI,hcp];refine ⟨[.str (p6 y p.src), .str (p6 y p.dst), .str (bytes (Lib.itoa p.kilos))],⟨ah.of (t1 _) ?_,ah.of (t2 _) ?_,ah.pure zS (i1 _) ?_⟩, ?_⟩
  ·simp
  ·simp
  ·simp
  simp;refine ⟨[],ah.eH (hli _) ?_⟩;rintro r σ' ⟨rfl,rfl⟩;refine ⟨_,rfl, ?_⟩;simp [hwi];exact ⟨i + 1,by omega,by simp,rfl,by omega⟩
set_option maxRecDepth 100000
set_option maxHeartbeats 1000000
theorem wB (s:ByteArray):∀ n i,iw s i n = true ↔ ∀ j,i ≤ j → j < i + n → nB s j = true
 | 0,i=>by simp [iw]; omega
 | n + 1,i=>by
  simp only [iw,Bool.and_eq_true,wB s n (i + 1)];constructor
  ·rintro ⟨h1,h2⟩ j hj hj2;rcases Nat.eq_or_lt_of_le hj with e | e
   ·exact e ▸ h1
   ·exact h2 j (by omega) (by omega)
  ·intro h;exact ⟨h i (by omega) (by omega),fun j hj hj2=>h j (by omega) (by omega)⟩
theorem lO:kx aN:=⟨fun s hs=>by
 unfold aN at hs;simp only [Bool.and_eq_true,decide_eq_true_eq] at hs;obtain ⟨⟨h1,h2⟩,h3⟩:=hs;have hl:(et s).length = s.size:=by simp [et]
 refine ⟨fun c hc=>?_,fun e=>by rw [e] at hl; simp at hl; omega,by omega⟩;obtain ⟨j,hj,rfl⟩:=List.mem_iff_getElem.1 hc;have:=(wB s s.size 0).1 h3 j (by omega) (by omega);have hj':j < s.data.size:=by simpa [et] using hj
 have e:lE s j = (et s)[j].toNat:=by
  unfold lE et;rw [Array.getElem?_eq_getElem hj'];simp
 unfold nB letterF oB at this;simp only [Bool.or_eq_true,Bool.and_eq_true,decide_eq_true_eq] at this;have h48:48 ≤ lE s j:=by omega
 exact Nat.le_trans h48 (Nat.le_of_eq e)⟩
def fq (y:ab):WdW × Int:=if (bt aN y).2.2 ≠ 0 then ([],(bt aN y).2.2) else (dj y,0)
theorem gv (y:ab) (hy:dz y) (σ:af):Spec Tryz.prog GV [y.v] σ fun r σ'=>r = .ret (.tup [.str (bytes (fq y).1),ii' (fq y).2]) ∧ σ' = σ:=by
 refine Spec.aI (ND (by simp) ?_) (by simp [y.pure,aK]) (by simp [ag.pure,aK]) σ;have hc:=fun σ=>gn y hy σ
 unfold fq;simp only [ab.v,ab.cells,cw] at hc;by_cases h0:(bt aN y).2.2 = 0;rotate_left
 ·rw [if_pos h0];refine aa _ ?_;simp [Ju,ab.v,ab.cells];refine ah.pure AV (hc _) ?_;simp [h0,bytes]
 rw [if_neg (by simp [h0])];have hv:=(ea aN y).1 h0;have ht:=fun σ=>lh lO hv σ
 simp only [ab.v,ab.cells] at ht;rw [h0] at hc;refine aa _ ?_;simp [Ju,ab.v,ab.cells];refine ah.pure AV (hc _) ?_;simp;refine ah.pure I9 (ht _) ?_;simp
end Go.AM
