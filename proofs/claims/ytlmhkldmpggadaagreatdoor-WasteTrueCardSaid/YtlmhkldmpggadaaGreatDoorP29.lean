/- Pulled out of other texts (pull.py): strings and numbers, by the library. Chapter 09: lists joined; papers that may be wrong: of the program. Chapter 09: the text of a yard, row by row: of the .. -/
import Derived.Test.YtlmhkldmpggadaaGreatDoorP21
import Derived.Test.YtlmhkldmpggadaaGreatDoorP19
import Derived.Test.YtlmhkldmpggadaaGreatDoorP28
import Derived.Test.YtlmhkldmpggadaaGreatDoorP27
import Derived.Test.YtlmhkldmpggadaaGreatDoorP20
namespace Go.AM
open Go.Proofs
set_option maxRecDepth 100000
set_option maxHeartbeats 1000000
theorem data_inj {a b:ByteArray} (h:a.data.toList = b.data.toList):a = b:=by
 obtain ⟨a⟩:=a;obtain ⟨b⟩:=b;have:a = b:=Array.toList_inj.1 h;rw [this]
theorem mM (l:List UInt8):(bytes l).data.toList = l:=by simp [bytes]
abbrev Wd:=List UInt8
def aA (b:ByteArray):Wd:=b.data.toList
theorem bF (w:Wd):aA (bytes w) = w:=mM w
theorem IF:(1,Lib.pow10Tab.map fun z=>(IntKind.u64,z)) ∈ ew:=by
 have e:(Lib.pow10Tab.map fun z=>(IntKind.u64,z)) = xO:=by decide
 rw [e]; exact List.mem_cons_self
theorem pJ (n:Int) (h0:-9223372036854775808 ≤ n) (h1:n ≤ 9223372036854775807) (σ:af) :
  Spec Tryz.prog Lc [.int .i64 n] σ fun r σ'=>r = .ret (.str (bytes (Lib.itoa n))) ∧ σ' = σ:=
 Spec.itoa Tryz.JK (by kernel_rfl) IF n h0 h1 σ
def spB:ByteArray:=⟨#[32]⟩
theorem VZ (l:List ByteArray) (hN:l.length ≤ 140737488355328) (hlen:(bB 32 (l.map aA)).length ≤ 140737488355328) (σ:af) :
  Spec Tryz.prog Ma [.slice 1 (l.map .str), .str spB] σ fun r σ'=>r = .ret (.str (bytes (bB 32 (l.map aA)))) ∧ σ' = σ:=by
 have e:Lib.join (l.map fun x=>x.data.toList) spB.data.toList = bB 32 (l.map aA):=E7 32 _;have:=Spec.join Tryz.K2 Tryz.tn l spB hN (by rw [e]; exact hlen) σ;unfold Ms at this;rw [e] at this;exact this
theorem Ei (b k:Nat) (bs:List UInt8) (y:ByteArray) (σ:af) (hb:σ[b]? = some (.bld k bs)) (hlen:bs.length + y.size ≤ 140737488355328) :
  Spec Tryz.prog LF [.ptr b 0, .str y] σ fun r σ'=>r = .ret (.tup [.int .i64 y.size, .niliface]) ∧ σ' = σ.set b (.bld (k + 1) (bs ++ y.data.toList)):=yx b k bs y σ hb hlen
def nlB:ByteArray:=⟨#[10]⟩
theorem GU (x:ByteArray) (hx:x.size ≤ 281474976710656) (σ:af):∃ te,Spec Tryz.prog Lr [.str x] σ fun r σ'=>r = .ret (wj x te) ∧ σ' = σ:=
 ⟨_,Spec.atoi Tryz.HE (by decide) (by decide) x hx σ⟩
theorem Jv (x:ByteArray) (hx:x.size ≤ 6000) (σ:af):Spec Tryz.prog OF [.str x, .str nlB] σ fun r σ'=>r = .ret (.tup [.str (bytes (Lib.cut (aA x) [10]).1), .str (bytes (Lib.cut (aA x) [10]).2.1), .bool (Lib.cut (aA x) [10]).2.2]) ∧ σ' = σ:=
 Spec.cut Tryz.KR (by decide) x nlB (by omega) σ
theorem Ef (x:ByteArray) (hx:x.size ≤ 6000) (σ:af):Spec Tryz.prog Lo [.str x, .str spB] σ fun r σ'=>r = .ret (.slice 1 ((ly x spB).map .str)) ∧ σ' = σ:=
 Spec.split Tryz.KB (by kernel_rfl) (by decide) x spB (by omega) (by decide) σ
theorem Im (x:ByteArray):(ly x spB).map aA = cutAt 32 (aA x):=by
 have h:=Lib.splitB_data spB 0 (Lib.countB x spB) x;have e:(ly x spB).map aA = Lib.splitK spB.data.toList 0 (Lib.countB x spB) x.data.toList:=h;rw [e];have e2:Lib.countB x spB = Lib.count x.data.toList [32]:=rfl;rw [e2];unfold Lib.count;rw [n0 32 _ _ (by omega)];exact uS 32 _ _ (Nat.le_refl _)
theorem mB (b:UInt8):∀ l,(cutAt b l).length ≤ l.length + 1 ∧ ∀ p ∈ cutAt b l,p.length ≤ l.length
 | []=>by simp [cutAt]
 | c :: r=>by
  obtain ⟨h1,h2⟩:=mB b r;simp only [cutAt];split
  ·refine ⟨by simp; omega,fun p hp=>?_⟩;rcases List.mem_cons.1 hp with rfl | hp
   ·simp
   ·have:=h2 p hp; simp; omega
  ·cases hq:cutAt b r with
   | nil=>exact absurd hq (jr b r)
   | cons x q=>
    rw [hq] at h1 h2;refine ⟨by simp at h1 ⊢; omega,fun p hp=>?_⟩;rcases List.mem_cons.1 hp with rfl | hp
    ·have:=h2 x (by simp); simp; omega
    ·have:=h2 p (by simp [hp]); simp; omega
theorem cL (x:ByteArray):(aA x).length = x.size:=by simp [aA]
theorem eo (w:Wd):(bytes w).size = w.length:=by simp [bytes,ByteArray.size]
theorem F7 (n:Nat) (hn:n ≤ 100000) (σ:af) :
  Spec Tryz.prog Le [.nils 1, .int .i64 n] σ fun r σ'=>r = .ret (.sref 1 σ.length 0 0 0) ∧ σ' = σ ++ [.arr 1 []]:=
 Spec.Kv Tryz.PN ((Tryz.prog.info? 3).getD default) (.int .i64 0) (by kernel_rfl) (by kernel_rfl) (by kernel_rfl) rfl (Nat.le_of_eq (by kernel_rfl:((Tryz.prog.info? 3).getD default).bytes = 8)) n hn σ
theorem zP {ls:List (List Nat)} {i:Nat} (h:i < ls.length):(ls.take (i + 1)).flatten = (ls.take i).flatten ++ ls[i]:=by
 rw [List.take_add_one,List.flatten_append];simp [h]
theorem rU (ls:List (List Nat)) (i:Nat):(ls.take i).flatten.length ≤ ls.flatten.length:=by
 conv=>rhs; rw [← List.take_append_drop i ls,List.flatten_append,List.length_append]
 omega
def fT (ls:List (List Nat)) (i:Nat):Nat:=(ls.take i).flatten.length
def yg (ls:List (List Nat)) (i:Nat):List ag:=(bb (ls.take i).flatten).map ii'
theorem qI (ls:List (List Nat)) (h1:ls.length ≤ 100000) (h2:ls.flatten.length ≤ 100000) (σ:af) :
  Spec Tryz.prog N7 [.slice 1 (ls.map mQ)] σ fun r σ'=>r = .ret (.sref 1 σ.length 0 ls.flatten.length ls.flatten.length) ∧ σ' = σ ++ [.arr 1 ((bb ls.flatten).map ii')]:=by
 refine UT (by simp) ?_;refine aa _ ?_;simp [Qs];refine AW.loop (ι:=Nat) (fun i fr σ'=>fr = { v:=[(0, .slice 1 (ls.map mQ)),(3, .int .i64 (fT ls i)),(9, .slice 1 (ls.map mQ)),(10, .int .i64 ls.length),(11, .int .i64 i)],ds:=[] } ∧ σ' = σ ∧ i ≤ ls.length) (fun i=>ls.length - i) 0 ⟨by simp [fT],rfl,by omega⟩ ?_;rintro i fr σ' ⟨rfl,rfl,hi⟩;refine (Nat.lt_or_ge i ls.length).elim (fun hlt=>?_) (fun hge=>?_)
 ·have hltI:(i:Int) < ls.length:=by omega
  have hwi:IntKind.i64.wrap ((i:Int) + 1) = ((i + 1:Nat):Int):=by rw [aq (by omega) (by omega)]; simp
  have hft:=zP hlt;have hle:=rU ls (i + 1);obtain ⟨l,hl⟩:=zqq (ls[i]);rw [hl] at hft;have hnl:(bb l).length = l.length:=by simp [bb]
  rw [hft,List.length_append] at hle;have hw2:IntKind.i64.wrap (((ls.take i).flatten.length:Int) + l.length) = ((ls.take i).flatten.length:Int) + l.length:=aq (by omega) (by omega);have hnn:¬ (((ls.take i).flatten.length:Int) + l.length) < 0:=by omega
  have hs1:fT ls (i + 1) = fT ls i + l.length:=by unfold fT; rw [hft,List.length_append]
  change IntKind.i64.wrap ((fT ls i:Int) + l.length) = (fT ls i:Int) + l.length at hw2;change ¬ ((fT ls i:Int) + l.length) < 0 at hnn;obtain ⟨c,hc⟩:=zqq (fT ls i);rw [hc] at hw2 hnn hs1 ⊢;refine aa _ ?_;simp [hlt,hltI,hl,mQ,hnl,hw2,hnn,hwi];exact ⟨i + 1,by omega,⟨by rw [hs1]; simp,by simp⟩,by omega⟩
 obtain rfl:i = ls.length:=by omega
 obtain ⟨F,hF⟩:=zqq ls.flatten;have hsF:fT ls ls.length = F.length:=by unfold fT; rw [List.take_length,hF]
 rw [hF] at h2 ⊢;rw [hsF];refine aa _ ?_;simp;refine ah.spec Se (F7 _ h2 _) ?_;rintro r σ2 ⟨rfl,rfl⟩;refine ⟨_,rfl, ?_⟩;simp;obtain ⟨B,hB⟩:=zqq (σ'.length);have gB:∀ l:af,(σ' ++ l)[B]? = l[0]?:=fun l=>by rw [← hB,List.getElem?_append_right (by omega)]; simp
 have sB:∀ (l:af) (o:cq),(σ' ++ l).set B o = σ' ++ l.set 0 o:=fun l o=>by rw [← hB,List.set_append_right _ _ (by omega)]; simp
 rw [hB];refine AW.loop (ι:=Nat) (fun i fr σ2=>fr = { v:=[(6, .sref 1 B 0 (fT ls i) (fT ls i)),(25, .slice 1 (ls.map mQ)),(26, .int .i64 ls.length),(27, .int .i64 i)],ds:=[] } ∧ σ2 = σ' ++ [.arr 1 (yg ls i)] ∧ i ≤ ls.length) (fun i=>ls.length - i) 0 ⟨by simp [fT],by simp [yg,bb],by omega⟩ ?_;rintro i fr σ2 ⟨rfl,rfl,hi⟩;refine (Nat.lt_or_ge i ls.length).elim (fun hlt=>?_) (fun hge=>?_);rotate_left
 ·obtain rfl:i = ls.length:=by omega
  have hcF:yg ls ls.length = (bb F).map ii':=by unfold yg; rw [List.take_length,hF]
  have hsum:(ls.map List.length).sum = F.length:=by rw [← hF,List.length_flatten]
  rw [hsF,hcF];refine aa _ ?_;simp [hsum]
 have hltI:(i:Int) < ls.length:=by omega
 have hwi:IntKind.i64.wrap ((i:Int) + 1) = ((i + 1:Nat):Int):=by rw [aq (by omega) (by omega)]; simp
 have hft:=zP hlt;have hle:=rU ls (i + 1);rw [hF] at hle;obtain ⟨l,hl⟩:=zqq (ls[i]);rw [hl] at hft;have hnl:(bb l).length = l.length:=by simp [bb]
 have hs1:fT ls (i + 1) = fT ls i + l.length:=by unfold fT; rw [hft,List.length_append]
 have hT:(yg ls i).length = fT ls i:=by unfold yg bb fT; rw [List.length_map,List.length_map]
 rw [hft,List.length_append] at hle;have hle2:fT ls i + l.length ≤ 100000:=by unfold fT; omega
 have hcv:yg ls (i + 1) = yg ls i ++ (bb l).map ii':=by unfold yg; rw [hft]; simp [bb]
 obtain ⟨T,hTd⟩:=zqq (yg ls i);rw [hTd] at hcv hT ⊢;obtain ⟨c,hc⟩:=zqq (fT ls i);rw [hc] at hs1 hT hle2 ⊢;by_cases hl0:l.length = 0
 ·have hl0':l = []:=List.length_eq_zero_iff.1 hl0;subst hl0';refine aa _ ?_;simp [hlt,hltI,hl,mQ,bb,gB,sB,hwi,hT];exact ⟨fun v hv=>by simp at hv,i + 1,by omega,⟨by rw [hs1]; simp,by simp⟩,by rw [hcv]; simp [bb],by omega⟩
 ·have hcl:¬ c + l.length ≤ c:=by omega
  refine aa _ ?_;simp [hlt,hltI,hl,mQ,hnl,gB,sB,hwi,hT,yE];rw [if_neg hcl];exact ⟨by omega,i + 1,by omega,⟨by rw [hs1],by simp⟩,by rw [hcv],by omega⟩
theorem Gj (l:List Int) (hl:l.length ≤ 100000) (b:Nat) (σ:af) (hb:σ[b]? = some (o5 l)) :
  Spec Tryz.prog P0 [.sref 1 b 0 l.length l.length] σ fun r σ'=>r = .ret (.tup []) ∧ σ' = σ.set b (o5 (fP l)):=
 Spec.sortInt Tryz.J9 l (by omega) b σ hb
theorem Bo {y:ab} (hm:y.papers.length ≤ 10):((mN y).getD []).length ≤ 1024 ∧ ∀ l ∈ (mN y).getD [],l.length ≤ 10 ∧ ∀ i ∈ l,i < y.papers.length:=by
 cases h:mN y with
 | none=>simp
 | some ls=>
  obtain ⟨many,hmm,he⟩:=List.exists_of_findSome?_eq_some h
  split at he
  ·cases he
  ·cases he;refine ⟨J7 hm many,fun l hl=>?_⟩;have h1:=(List.mem_filter.1 hl).1;obtain ⟨h2,h3⟩:=(nf y.papers.length many 0 l).1 h1;have h4:=List.mem_range.1 hmm;exact ⟨by omega,fun i hi=>(h3.2 i hi).2⟩
def JF (y:ab):List Nat × Int:=if iW y ≠ 0 then ([],iW y) else (Kq y ((mN y).getD []),0)
theorem o7 (y:ab) (hy:dv y) (σ:af):Spec Tryz.prog Ji [y.v] σ fun r σ'=>r = .ret (.tup [.slice 1 ((bb (JF y).1).map ii'),ii' (JF y).2]) ∧ σ' = σ:=by
 refine Spec.aF (SM (by simp) ?_) (by simp [y.pure,aH]) (by simp [ag.pure,aH,aD (f:=ii') (fun _=>rfl)]) σ;have hen:=fun σ=>iN y hy σ;simp only [ab.v,ab.cells] at hen;unfold JF;by_cases h0:iW y = 0;rotate_left
 ·rw [if_pos h0];refine aa _ ?_;simp [Wc,ab.v,ab.cells];refine ah.pure Gs (hen _) ?_;simp [h0,beq_false_of_ne h0,bb]
 rw [if_neg (by simp [h0])];have hv:=xF h0;have hm10:=hv.m10;rw [h0] at hen;have hle:=fun σ=>tL hv σ;simp only [ab.v,ab.cells] at hle;obtain ⟨s1,s2⟩:=Bo hm10;have hun:=fun r=>Di (y:=y) (ls:=(mN y).getD []) (r:=r) (fun l hl i hi=>(s2 l hl).2 i hi);obtain ⟨ls,hls⟩:=zqq ((mN y).getD []);rw [hls] at hle s1 s2 hun ⊢;have hfl:=BH ls (fun l hl=>(s2 l hl).1) s1;obtain ⟨F,hF⟩:=zqq ls.flatten;have hcon:=fun σ=>qI ls (by omega) (by omega) σ;rw [hF] at hfl;simp only [hF] at hcon hun;have hnF:(bb F).length = F.length:=by simp [bb]
 have hsl:(fP (bb F)).length = F.length:=by rw [iM,hnF]
 refine aa _ ?_;simp [Wc,ab.v,ab.cells];refine ah.pure Gs (hen _) ?_;simp;refine ah.pure SE (hle _) ?_;simp;refine ah.spec Sm (hcon _) ?_;rintro r σ2 ⟨rfl,rfl⟩;have hso:=Gj (bb F) (by omega) 1 [.dead,o5 (bb F)] rfl;rw [hnF] at hso;have hco:=AJ 1 (fP (bb F)) (by omega) (Gf _) [.dead,o5 (fP (bb F))] (by simp) rfl;rw [hsl] at hco;refine ⟨_,rfl, ?_⟩;simp;refine ah.spec S5 hso ?_;rintro r σ2 ⟨rfl,rfl⟩;refine ⟨_,rfl, ?_⟩;simp;refine ah.spec Sl hco ?_;rintro r σ2 ⟨c,z,hon,hcl,hcz,rfl,rfl⟩;refine ⟨_,rfl, ?_⟩;simp;have hmem:∀ x,x ∈ c ↔ ∃ n:Nat,n ∈ F ∧ (n:Int) = x:=fun x=>by
  rw [hon.2,(DX (bb F)).mem_iff];simp [bb]
 have hcn:bb (c.map Int.toNat) = c:=by
  unfold bb;rw [List.map_map]
  conv=>rhs; rw [← List.map_id c]
  refine List.map_congr_left fun x hx=>?_;obtain ⟨n,_,rfl⟩:=(hmem x).1 hx;simp
 have hpw:(c.map Int.toNat).Pairwise (· < ·):=by
  rw [List.pairwise_map];refine hon.1.imp_of_mem fun {a b} ha hb hab=>?_;obtain ⟨n,_,rfl⟩:=(hmem a).1 ha;obtain ⟨k,_,rfl⟩:=(hmem b).1 hb;simp;omega
 have hr:=hun (c.map Int.toNat) hpw fun x=>by
  rw [List.mem_map];constructor
  ·rintro ⟨z,hz,rfl⟩;obtain ⟨n,hn,rfl⟩:=(hmem z).1 hz;simpa using hn
  ·intro hx;exact ⟨x,(hmem x).2 ⟨x,hx,rfl⟩,by simp⟩
 rw [← hr,hcn];simp only [o5];refine ⟨trivial,by simpa using hcz,by rw [List.map_append,List.take_left' (by simp)]⟩
theorem vA (l:List ByteArray):Fits 1 (l.map ag.str):=by
 intro v hv;obtain ⟨a,_,rfl⟩:=List.mem_map.1 hv;exact ⟨⟨rfl,rfl⟩,rfl⟩
def nlS:ByteArray:=⟨#[10]⟩
theorem nt (ws:List ByteArray) (hws:ws.length ≤ 100) (hl:(bB 32 (ws.map aA)).length ≤ 10000) (b k:Nat) (bs:List UInt8) (hbs:bs.length ≤ 100000) (σ:af) (hb:σ[b]? = some (.bld k bs)) :
  Spec Tryz.prog Jy [.slice 1 (ws.map .str), .ptr b 0] σ fun r σ'=>r = .ret (.tup []) ∧ σ' = σ.set b (.bld (k + 1) (bs ++ cy (ws.map aA))):=by
 have hj:=fun σ=>VZ ws (by omega) (by omega) σ;have hsz:(bytes (bB 32 (ws.map aA)) ++ nlS).size = (bB 32 (ws.map aA)).length + 1:=by
  rw [ByteArray.size_append];simp [bytes,nlS,ByteArray.size]
 have hdt:(bytes (bB 32 (ws.map aA)) ++ nlS).data.toList = cy (ws.map aA):=by
  simp [bytes,nlS,cy]
 have hw:=Ei b k bs (bytes (bB 32 (ws.map aA)) ++ nlS) σ hb (by omega);rw [hdt] at hw;have hbz:(bytes (bB 32 (ws.map aA))).size = (bB 32 (ws.map aA)).length:=by simp [bytes,ByteArray.size]
 refine PE (by simp) (aa _ ?_);simp [Ln];refine ah.pure Q0 (hj _) ?_;simp
 refine ⟨by have e1:(⟨#[10]⟩:ByteArray).size = 1:=rfl
            rw [hbz,e1]; omega, ?_⟩
 refine ah.spec RA hw ?_;rintro r σ' ⟨rfl,rfl⟩;refine ⟨_,rfl, ?_⟩;simp
def miS:ByteArray:=⟨#[45]⟩
def mb (y:ab) (a:Int):ByteArray:=if a = -1 then miS else y.places.getD a.toNat .empty
theorem Hv (y:ab) (a:Int):aA (mb y a) = iA y a:=by
 unfold mb iA
 split <;> rfl
theorem lu (y:ab) (a:Int) (ha:-1 ≤ a ∧ a < y.places.length) (σ:af) :
  Spec Tryz.prog Iu [ii' a, .pval y.v] σ fun r σ'=>r = .ret (.str (mb y a)) ∧ σ' = σ:=by
 refine Spec.aF (PS (by simp) ?_) (by simp [y.pure,aH,ag.pure]) rfl σ;unfold mb;by_cases h:a = -1
 ·subst h;refine aa _ ?_;simp [Jr,ab.v,ab.cells];rfl
 ·obtain ⟨k,rfl⟩:∃ k:Nat,a = k:=⟨a.toNat,by omega⟩;have hk:k < y.places.length:=by omega
  refine aa _ ?_;simp [Jr,ab.v,ab.cells,h,hk]
def Gn (w:ByteArray) (y:ab) (c:ay):List ByteArray:=[w,y.kinds.getD c.kind.toNat .empty,y.places.getD c.place.toNat .empty,bytes (Lib.itoa c.lo),bytes (Lib.itoa c.hi)]
theorem CN (w:ByteArray) (y:ab) (c:ay):(Gn w y c).map aA = aR (aA w) y c:=by
 simp only [Gn,aR,List.map_cons,List.map_nil,bF];rfl
theorem lB {α β:Type} {l:List α} {i:Nat} (f:α → List β) (h:i < l.length):(l.take (i + 1)).flatMap f = (l.take i).flatMap f ++ f l[i]:=by
 rw [List.take_succ_eq_append_getElem h,List.flatMap_append]; simp
theorem jY {α β:Type} (f:α → List β) {x:α}:∀ {l:List α},x ∈ l → (f x).length ≤ (l.flatMap f).length
 | [],h=>by simp at h
 | a :: r,h=>by
  rw [List.flatMap_cons,List.length_append];rcases List.mem_cons.1 h with rfl | h
  ·omega
  ·have:=jY f h;omega
theorem sZ (y:ab) (w:ByteArray) (cs:List ay) (hcl:cs.length ≤ 1000) (hc:∀ c ∈ cs,(0 ≤ c.kind ∧ c.kind < y.kinds.length) ∧ (0 ≤ c.place ∧ c.place < y.places.length) ∧ Big c.lo ∧ Big c.hi)
  (hlen:(cs.flatMap fun c=>cy (aR (aA w) y c)).length ≤ 5000) (b k:Nat) (bs:List UInt8) (hbs:bs.length ≤ 5000) (σ:af) (hb:σ[b]? = some (.bld k bs)) :
  Spec Tryz.prog IP [.str w, .slice 4 (cs.map ay.v), .pval (.func (.func 143) [] [.ptr b 0]), .pval y.v] σ fun r σ'=>r = .ret (.tup []) ∧ ∃ k' tl,σ' = σ.set b (.bld k' (bs ++ cs.flatMap fun c=>cy (aR (aA w) y c))) ++ tl:=by
 refine Pd (by simp) ?_;refine aa _ ?_;simp [Mj,ab.v,ab.cells]
 refine AW.loop (ι:=Nat) (fun i fr σ'=>∃ (k':Nat) (tl:af),fr = { v:=[(0, .str w),(2, .pval (.func (.func 143) [] [.ptr b 0])),(3, .pval y.v),(8, .slice 4 (cs.map ay.v)),(9, .int .i64 cs.length),(10, .int .i64 i)],ds:=[] } ∧ σ' = σ.set b (.bld k' (bs ++ (cs.take i).flatMap fun c=>cy (aR (aA w) y c))) ++ tl ∧ i ≤ cs.length) (fun i=>cs.length - i) 0 ⟨k,[],by simp [ab.v,ab.cells],by
  obtain ⟨h1,h2⟩:=List.getElem?_eq_some_iff.1 hb
  simp [← h2],by omega⟩ ?_
 rintro i fr σ' ⟨k',tl,rfl,rfl,hi⟩;refine (Nat.lt_or_ge i cs.length).elim (fun hlt=>?_) (fun hge=>?_);rotate_left
 ·obtain rfl:i = cs.length:=by omega
  rw [List.take_length];refine aa _ ?_;simp;exact ⟨k',tl,rfl⟩
 have hltI:(i:Int) < cs.length:=by omega
 have hwi:IntKind.i64.wrap ((i:Int) + 1) = ((i + 1:Nat):Int):=by rw [aq (by omega) (by omega)]; simp
 obtain ⟨c,hx⟩:=zqq (cs[i]);have hcm:c ∈ cs:=hx ▸ List.getElem_mem _;obtain ⟨⟨c1,c2⟩,⟨c3,c4⟩,c5,c6⟩:=hc c hcm;unfold Big at c5 c6;have hfl:=lB (fun c=>cy (aR (aA w) y c)) hlt;rw [hx] at hfl;have hrow:=Nat.le_trans (jY (fun c=>cy (aR (aA w) y c)) hcm) hlen;have hpre:((cs.take i).flatMap fun c=>cy (aR (aA w) y c)).length ≤ 5000:=by
  refine Nat.le_trans ?_ hlen
  conv=>rhs; rw [← List.take_append_drop i cs,List.flatMap_append,List.length_append]
  omega
 obtain ⟨S,hS⟩:=zqq (((cs.take i).flatMap fun c=>cy (aR (aA w) y c)));rw [hS] at hfl hpre ⊢;obtain ⟨hb1,_⟩:=List.getElem?_eq_some_iff.1 hb;have hgb:∀ tl:af,(σ.set b (.bld k' (bs ++ S)) ++ tl)[b]? = some (.bld k' (bs ++ S)):=fun tl=>by
  rw [List.getElem?_append_left (by rw [List.length_set]; exact hb1),List.getElem?_set_self hb1]
 have hli:=nt (Gn w y c) (by simp [Gn]) (by
  rw [CN];simp only [cy,List.length_append] at hrow
  omega) b k' (bs ++ S) (by simp; omega)
 rw [CN,List.append_assoc, ← hfl] at hli;have i1:=fun σ=>pJ c.lo (by omega) (by omega) σ;have i2:=fun σ=>pJ c.hi (by omega) (by omega) σ;obtain ⟨K,hK⟩:∃ K:Nat,c.kind = K:=⟨c.kind.toNat,by omega⟩;obtain ⟨Pn,hP⟩:∃ K:Nat,c.place = K:=⟨c.place.toNat,by omega⟩;have hK1:K < y.kinds.length:=by omega
 have hP1:Pn < y.places.length:=by omega
 have hKI:(K:Int) < y.kinds.length:=by omega
 have hPI:(Pn:Int) < y.places.length:=by omega
 have hcs:Gn w y c = [w,y.kinds[K],y.places[Pn],bytes (Lib.itoa c.lo),bytes (Lib.itoa c.hi)]:=by
  simp only [Gn,hK,hP,Int.toNat_natCast,List.getD,List.getElem?_eq_getElem hK1,List.getElem?_eq_getElem hP1,Option.getD_some]
 rw [hcs] at hli;simp only [List.map_cons,List.map_nil] at hli;have hsb:∀ (X Y:cq) (l:af),(σ.set b X ++ l).set b Y = σ.set b Y ++ l:=fun X Y l=>by
  rw [List.set_append_left _ _ (by rw [List.length_set]; exact hb1),List.set_set]
 refine aa _ ?_;simp [hlt,hltI,hx,ay.v,ay.cells,ab.v,ab.cells,hK,hP,hK1,hP1,hKI,hPI];refine ⟨[.str (bytes (Lib.itoa c.lo)), .str (bytes (Lib.itoa c.hi))],⟨ah.pure BI (i1 _) ?_,ah.pure BI (i2 _) ?_⟩, ?_⟩
 ·simp
 ·simp
 simp;refine ⟨[],ah.bf (aE.func K8 (first:=[]) (caps:=[.ptr b 0]) (args:=[_]) (hli _ (hgb _))) ?_⟩;rintro r σ' ⟨rfl,rfl⟩;refine ⟨_,rfl, ?_⟩;simp [hsb,hwi];exact ⟨i + 1,by omega,by simp,⟨k' + 1,_,rfl⟩,by omega⟩
theorem zF:∀ (l:List WdW),(bB 32 l).length ≤ (l.map List.length).sum + l.length
 | []=>by simp [bB]
 | [p]=>by simp [bB]
 | p :: q :: r=>by
  have:=zF (q :: r);simp only [bB,List.length_append,List.length_cons,List.map_cons,List.sum_cons] at this ⊢;omega
theorem si (r:List WdW):(cy r).length ≤ (r.map List.length).sum + r.length + 1:=by
 have:=zF r;simp only [cy,List.length_append,List.length_singleton]; omega
theorem pK {α:Type} (f:α → WdW) {m:Nat}:∀ (l:List α),(∀ x ∈ l,(f x).length ≤ m) → (l.flatMap f).length ≤ m * l.length
 | [],_=>by simp
 | a :: l,h=>by
  have h1:=h a (by simp);have h2:=pK f l fun x hx=>h x (by simp [hx]);simp only [List.flatMap_cons,List.length_append,List.length_cons,Nat.mul_add];omega
theorem tZ {nm:ByteArray → Bool} (hw:kq nm):∀ l:List ByteArray,(∀ s ∈ l,nm s = true) → ((l.map dQ).map List.length).sum ≤ 16 * l.length
 | [],_=>by simp
 | a :: l,h=>by
  have h1:=(hw.byte a (h a (by simp))).2.2;have h2:=tZ hw l fun s hs=>h s (by simp [hs]);simp only [List.map_cons,List.sum_cons,List.length_cons] at h2 ⊢;omega
theorem zo {nm:ByteArray → Bool} (hw:kq nm) {y:ab} (h:bJ nm y):(dS y).length ≤ 4000:=by
 have na:∀ (l:List ByteArray),(∀ s ∈ l,nm s = true) → ∀ i:Int,0 ≤ i ∧ i < l.length → (nameAt l i).length ≤ 16:=fun l hl i hi=>by
  obtain ⟨hi',e⟩:=gD hi;rw [e]; exact (hw.byte _ (hl _ (List.getElem_mem hi'))).2.2
 have hcnt:∀ (w:WdW),w.length ≤ 5 → ∀ c,zX y c → (cy (aR w y c)).length ≤ 57:=fun w hwl c hc=>by
  have h3:=hc.lo;have h4:=hc.hi;unfold Big at h3 h4;have k1:=na y.kinds h.kinds.1 _ hc.kind;have k2:=na y.places h.places.1 _ hc.place;have k3:=oZ (n:=c.lo) h3.1 (k:=7) (by omega) (by omega);have k4:=oZ (n:=c.hi) h4.1 (k:=7) (by omega) (by omega);have:=si (aR w y c);simp only [aR,List.map_cons,List.map_nil,List.sum_cons,List.sum_nil,List.length_cons,List.length_nil] at this ⊢;omega
 have hpl:∀ a:Int, -1 ≤ a ∧ a < y.places.length → (iA y a).length ≤ 16:=fun a ha=>by
  unfold iA;split
  ·simp [bU]
  ·exact na y.places h.places.1 _ (by omega)
 have hpap:∀ p ∈ y.papers,(cy (bZ y p)).length ≤ 69:=fun p hp=>by
  obtain ⟨i,hi,rfl⟩:=List.getElem_of_mem hp;have hv:=h.papers i hi;have h4:=hv.kilos;unfold Big at h4;have hm:=h.m10;have k1:=na y.kinds h.kinds.1 _ hv.kind;have k2:=hpl _ hv.src;have k3:=hpl _ hv.dst;have k4:=oZ (n:=y.papers[i].kilos) h4.1 (k:=7) (by omega) (by omega);have k5:(if 0 ≤ y.papers[i].copy then Lib.itoa y.papers[i].copy else bU).length ≤ 1:=by
   split
   ·rename_i hc
    exact oZ hc (by omega) (by
     rcases hv.copy with e | ⟨_,e,_⟩
     ·omega
     ·omega)
   ·simp [bU]
  have:=si (bZ y y.papers[i]);simp only [bZ,List.map_cons,List.map_nil,List.sum_cons,List.sum_nil,List.length_cons,List.length_nil] at this ⊢;have e:dO.length = 5:=rfl;omega
 have f1:=pK (fun c=>cy (aR cd y c)) (m:=57) y.first fun c hc=>hcnt cd (by decide) c (h.first.1 c hc)
 have f2:=pK (fun p=>cy (bZ y p)) (m:=69) y.papers hpap;have f3:=pK (fun c=>cy (aR dC y c)) (m:=57) y.last fun c hc=>hcnt dC (by decide) c (h.last.1 c hc);have f4:=si (cT :: y.kinds.map dQ);have f5:=si (b6 :: y.places.map dQ);have s4:=tZ hw y.kinds h.kinds.1;have s5:=tZ hw y.places h.places.1;have e4:cT.length = 5:=rfl;have e5:b6.length = 6:=rfl;simp only [List.map_cons,List.sum_cons,List.length_cons,List.length_map] at f4 f5;have g1:=h.k4; have g2:=h.p4; have g3:=h.m10; have g4:=h.f8; have g5:=h.l8;unfold dS ql;simp only [List.flatMap_cons,List.flatMap_append,List.flatMap_map,List.length_append];omega
def eA:ByteArray:=⟨#[107,105,110,100,115]⟩
def de:ByteArray:=⟨#[112,108,97,99,101,115]⟩
def bS:ByteArray:=⟨#[102,105,114,115,116]⟩
def bo:ByteArray:=⟨#[112,97,112,101,114]⟩
def dE:ByteArray:=⟨#[108,97,115,116]⟩
def vf (p:aj):ByteArray:=if 0 ≤ p.copy then bytes (Lib.itoa p.copy) else miS
def Au (y:ab) (p:aj):List ByteArray:=[bo,y.kinds.getD p.kind.toNat .empty,mb y p.src,mb y p.dst,bytes (Lib.itoa p.kilos),vf p]
theorem xj (y:ab) (p:aj):(Au y p).map aA = bZ y p:=by
 have e:aA (vf p) = if 0 ≤ p.copy then Lib.itoa p.copy else bU:=by
  unfold vf;split
  ·exact bF _
  ·rfl
 simp only [Au,bZ,List.map_cons,List.map_nil,bF,Hv,e];rfl
theorem jJ (ws:List ByteArray) (hws:ws.length ≤ 100) (hl:(cy (ws.map aA)).length ≤ 4001) (k:Nat) (bs:List UInt8) (hbs:bs.length ≤ 5000) (tl:af) :
  aE Tryz.prog (.func (.func 143) [] [.ptr 0 0]) [.slice 1 (ws.map .str)] (.bld k bs :: tl) fun r σ'=>r = .ret (.tup []) ∧ σ' = .bld (k + 1) (bs ++ cy (ws.map aA)) :: tl:=
 aE.func K8 (first:=[]) (nt ws hws (by simp only [cy,List.length_append] at hl; omega) 0 k bs (by omega) _ rfl)
theorem nL {nm:ByteArray → Bool} (hn:kq nm) {y:ab} (hv:bJ nm y) (σ:af):Spec Tryz.prog NH [y.v] σ fun r σ'=>r = .ret (.str (bytes (dS y))) ∧ σ' = σ:=by
 refine Spec.aF (TA (by simp) ?_) (by simp [y.pure,aH]) rfl σ;have htl:=zo hn hv;have hk4:=hv.k4;have hp4:=hv.p4;have hm10:=hv.m10;obtain ⟨R1,hR1⟩:∃ R,cy (cT :: y.kinds.map dQ) = R:=⟨_,rfl⟩;obtain ⟨R2,hR2⟩:∃ R,cy (b6 :: y.places.map dQ) = R:=⟨_,rfl⟩;obtain ⟨R3,hR3⟩:∃ R,(y.first.flatMap fun c=>cy (aR cd y c)) = R:=⟨_,rfl⟩;obtain ⟨R4,hR4⟩:∃ R,(y.papers.flatMap fun p=>cy (bZ y p)) = R:=⟨_,rfl⟩;obtain ⟨R5,hR5⟩:∃ R,(y.last.flatMap fun c=>cy (aR dC y c)) = R:=⟨_,rfl⟩;have hT:dS y = R1 ++ (R2 ++ (R3 ++ (R4 ++ R5))):=by
  rw [← hR1, ← hR2, ← hR3, ← hR4, ← hR5];unfold dS ql;simp [List.flatMap_append,List.flatMap_map]
 have hlen:R1.length + (R2.length + (R3.length + (R4.length + R5.length))) ≤ 4000:=by
  rw [hT] at htl; simpa using htl
 have e1:(eA :: y.kinds).map aA = cT :: y.kinds.map dQ:=rfl;have e2:(de :: y.places).map aA = b6 :: y.places.map dQ:=rfl;have c1:=fun k bs hbs tl=>jJ (eA :: y.kinds) (by simp; omega) (by rw [e1,hR1]; omega) k bs hbs tl;have c2:=fun k bs hbs tl=>jJ (de :: y.places) (by simp; omega) (by rw [e2,hR2]; omega) k bs hbs tl;rw [e1,hR1] at c1;rw [e2,hR2] at c2;simp only [List.map_cons] at c1 c2;have cnt:=fun (w:ByteArray) (cs:List ay) (hcl:cs.length ≤ 8) (hc:∀ c ∈ cs,zX y c) (hlen:(cs.flatMap fun c=>cy (aR (aA w) y c)).length ≤ 5000) k bs hbs tl=>
  aE.func RX (first:=[]) (caps:=[.pval (.func (.func 143) [] [.ptr 0 0]), .pval y.v]) (args:=[.str w, .slice 4 (cs.map ay.v)])
   (sZ y w cs (by omega) (fun c hm=>⟨(hc c hm).kind,(hc c hm).place,(hc c hm).lo,(hc c hm).hi⟩) hlen 0 k bs hbs (.bld k bs :: tl) rfl)
 have c3:=cnt bS y.first hv.f8 hv.first.1 (by show (y.first.flatMap fun c=>cy (aR cd y c)).length ≤ 5000; rw [hR3]; omega)
 have c5:=cnt dE y.last hv.l8 hv.last.1 (by show (y.last.flatMap fun c=>cy (aR dC y c)).length ≤ 5000; rw [hR5]; omega);have hfk:=vA y.kinds;have hfp:=vA y.places;rw [show aA bS = cd from rfl,hR3] at c3;rw [show aA dE = dC from rfl,hR5] at c5;simp only [ab.v,ab.cells] at c3 c5;rw [hT];refine aa _ ?_;simp [Qn,ab.v,ab.cells,hfk];refine ⟨by omega,ah.bf (c1 _ _ (by simp) _) ?_⟩;rintro r σ' ⟨rfl,rfl⟩;refine ⟨_,rfl, ?_⟩;simp [hfp];refine ⟨by omega,ah.bf (c2 _ _ (by omega) _) ?_⟩;rintro r σ' ⟨rfl,rfl⟩;refine ⟨_,rfl, ?_⟩;simp;refine ah.bf (c3 _ _ (by simp; omega) _) ?_;rintro r σ' ⟨rfl,k,tl,rfl⟩;refine ⟨_,rfl, ?_⟩;simp;obtain ⟨BB,hBB⟩:=zqq (R1 ++ (R2 ++ R3));have hBl:BB.length + R4.length + R5.length ≤ 4000:=by rw [← hBB]; simp; omega
 have hTT:R1 ++ (R2 ++ (R3 ++ (R4 ++ R5))) = BB ++ R4 ++ R5:=by rw [← hBB]; simp
 rw [hBB,hTT];have c4:=fun (p:aj) (hp:(cy (bZ y p)).length ≤ 4001) k bs hbs tl=>jJ (Au y p) (by simp [Au]) (by rw [xj]; exact hp) k bs hbs tl;simp only [xj] at c4;refine AW.loop (ι:=Nat) (fun i fr σ'=>∃ (k:Nat) (tl:af),fr = { v:=[(1, .pval y.v),(3, .ptr 0 0),(4, .pval (.func (.func 143) [] [.ptr 0 0])),(5, .func (.func 146) [] [.pval (.func (.func 143) [] [.ptr 0 0]), .pval y.v]),(6, .func (.func 148) [] [.pval y.v]),(34, .slice 5 (y.papers.map aj.v)),(35, .int .i64 y.papers.length),(36, .int .i64 i)],ds:=[] } ∧ σ' = .bld k (BB ++ (y.papers.take i).flatMap fun p=>cy (bZ y p)) :: tl ∧ i ≤ y.papers.length) (fun i=>y.papers.length - i) 0 ⟨k,_,by simp [ab.v,ab.cells],by simp; rfl,by omega⟩ ?_;clear tl k;rintro i fr σ' ⟨k,tl,rfl,rfl,hi⟩;refine (Nat.lt_or_ge i y.papers.length).elim (fun hlt=>?_) (fun hge=>?_);rotate_left
 ·obtain rfl:i = y.papers.length:=by omega
  rw [List.take_length,hR4];refine aa _ ?_;simp [ab.v,ab.cells];refine ah.bf (c5 _ _ (by simp; omega) _) ?_;rintro r σ' ⟨rfl,k',tl',rfl⟩;refine ⟨_,rfl, ?_⟩;simp;refine ah.spec OB (xu 0 k' _ _ rfl) ?_;rintro r σ' ⟨rfl,rfl⟩;refine ⟨_,rfl, ?_⟩;simp [bytes]
 have hltI:(i:Int) < y.papers.length:=by omega
 have hwi:IntKind.i64.wrap ((i:Int) + 1) = ((i + 1:Nat):Int):=by rw [aq (by omega) (by omega)]; simp
 have hpv:=hv.papers i hlt;obtain ⟨p,hx⟩:=zqq (y.papers[i]);have hpm:p ∈ y.papers:=hx ▸ List.getElem_mem _;rw [hx] at hpv;have hfl:=lB (fun p=>cy (bZ y p)) hlt;rw [hx] at hfl;have hrow:=jY (fun p=>cy (bZ y p)) hpm;have hpre:((y.papers.take i).flatMap fun p=>cy (bZ y p)).length ≤ R4.length:=by
  rw [← hR4]
  conv=>rhs; rw [← List.take_append_drop i y.papers,List.flatMap_append,List.length_append]
  omega
 rw [hR4] at hrow;obtain ⟨S,hS⟩:=zqq (((y.papers.take i).flatMap fun p=>cy (bZ y p)));rw [hS] at hfl hpre ⊢;have hli:=fun tl=>c4 p (by omega) k (BB ++ S) (by simp; omega) tl;rw [List.append_assoc, ← hfl] at hli;have hkb:=hpv.kilos;unfold Big at hkb;have i1:=fun σ=>pJ p.kilos (by omega) (by omega) σ;have t1:=fun σ=>aE.func Mb (first:=[]) (caps:=[.pval y.v]) (args:=[ii' p.src]) (lu y p.src hpv.src σ);have t2:=fun σ=>aE.func Mb (first:=[]) (caps:=[.pval y.v]) (args:=[ii' p.dst]) (lu y p.dst hpv.dst σ);simp only [ab.v,ab.cells] at t1 t2;obtain ⟨K,hK⟩:∃ K:Nat,p.kind = K:=⟨p.kind.toNat,by have:=hpv.kind; omega⟩;have hK1:K < y.kinds.length:=by have:=hpv.kind; omega
 have hKI:(K:Int) < y.kinds.length:=by omega
 by_cases hcp:0 ≤ p.copy
 ·have hps:Au y p = [bo,y.kinds[K],mb y p.src,mb y p.dst,bytes (Lib.itoa p.kilos),bytes (Lib.itoa p.copy)]:=by
   simp only [Au,vf,hK,if_pos hcp,Int.toNat_natCast,List.getD,List.getElem?_eq_getElem hK1,Option.getD_some]
  rw [hps] at hli;simp only [List.map_cons,List.map_nil] at hli;have hcb:p.copy < 10:=by
   rcases hpv.copy with e | ⟨_,e,_⟩ <;> omega
  have i2:=fun σ=>pJ p.copy (by omega) (by omega) σ;refine aa _ ?_;simp [hlt,hltI,hx,aj.v,aj.cells,ab.v,ab.cells,hK,hK1,hKI,hcp];refine ah.pure BI (i2 _) ?_;simp [hlt,hltI,hx,aj.v,aj.cells,ab.v,ab.cells,hK,hK1,hKI,hcp];refine ⟨[.str (mb y p.src), .str (mb y p.dst), .str (bytes (Lib.itoa p.kilos))],⟨ah.of (t1 _) ?_,ah.of (t2 _) ?_,ah.pure BI (i1 _) ?_⟩, ?_⟩
  ·simp
  ·simp
  ·simp
  simp;refine ⟨[],ah.bf (hli _) ?_⟩;rintro r σ' ⟨rfl,rfl⟩;refine ⟨_,rfl, ?_⟩;simp [hwi];exact ⟨i + 1,by omega,by simp [ab.v,ab.cells],rfl,by omega⟩
 ·have hps:Au y p = [bo,y.kinds[K],mb y p.src,mb y p.dst,bytes (Lib.itoa p.kilos),miS]:=by
   simp only [Au,vf,hK,if_neg hcp,Int.toNat_natCast,List.getD,List.getElem?_eq_getElem hK1,Option.getD_some]
  rw [hps] at hli;simp only [List.map_cons,List.map_nil] at hli;refine aa _ ?_;simp [hlt,hltI,hx,aj.v,aj.cells,ab.v,ab.cells,hK,hK1,hKI,hcp];refine ⟨[.str (mb y p.src), .str (mb y p.dst), .str (bytes (Lib.itoa p.kilos))],⟨ah.of (t1 _) ?_,ah.of (t2 _) ?_,ah.pure BI (i1 _) ?_⟩, ?_⟩
  ·simp
  ·simp
  ·simp
  simp;refine ⟨[],ah.bf (hli _) ?_⟩;rintro r σ' ⟨rfl,rfl⟩;refine ⟨_,rfl, ?_⟩;simp [hwi];exact ⟨i + 1,by omega,by simp [ab.v,ab.cells],rfl,by omega⟩
theorem zb (s:ByteArray):∀ n i,jQ s i n = true ↔ ∀ j,i ≤ j → j < i + n → pY s j = true
 | 0,i=>by simp [jQ]; omega
 | n + 1,i=>by
  simp only [jQ,Bool.and_eq_true,zb s n (i + 1)];constructor
  ·rintro ⟨h1,h2⟩ j hj hj2;rcases Nat.eq_or_lt_of_le hj with e | e
   ·exact e ▸ h1
   ·exact h2 j (by omega) (by omega)
  ·intro h;exact ⟨h i (by omega) (by omega),fun j hj hj2=>h j (by omega) (by omega)⟩
theorem rk:kq aQ:=⟨fun s hs=>by
 unfold aQ at hs;simp only [Bool.and_eq_true,decide_eq_true_eq] at hs;obtain ⟨⟨h1,h2⟩,h3⟩:=hs;have hl:(dQ s).length = s.size:=by simp [dQ]
 refine ⟨fun c hc=>?_,fun e=>by rw [e] at hl; simp at hl; omega,by omega⟩;obtain ⟨j,hj,rfl⟩:=List.mem_iff_getElem.1 hc;have:=(zb s s.size 0).1 h3 j (by omega) (by omega);have hj':j < s.data.size:=by simpa [dQ] using hj
 have e:ox s j = (dQ s)[j].toNat:=by
  unfold ox dQ;rw [Array.getElem?_eq_getElem hj'];simp
 unfold pY letterF rJ at this;simp only [Bool.or_eq_true,Bool.and_eq_true,decide_eq_true_eq] at this;have h48:48 ≤ ox s j:=by omega
 exact Nat.le_trans h48 (Nat.le_of_eq e)⟩
def mW (y:ab):WdW × Int:=if (cN aQ y).2.2 ≠ 0 then ([],(cN aQ y).2.2) else (dS y,0)
theorem lX (y:ab) (hy:dv y) (σ:af):Spec Tryz.prog J2 [y.v] σ fun r σ'=>r = .ret (.tup [.str (bytes (mW y).1),ii' (mW y).2]) ∧ σ' = σ:=by
 refine Spec.aF (T6 (by simp) ?_) (by simp [y.pure,aH]) (by simp [ag.pure,aH]) σ;have hc:=fun σ=>iR y hy σ;unfold mW;simp only [ab.v,ab.cells,df] at hc;by_cases h0:(cN aQ y).2.2 = 0;rotate_left
 ·rw [if_pos h0];refine aa _ ?_;simp [Nl,ab.v,ab.cells];refine ah.pure Dr (hc _) ?_;simp [h0,bytes]
 rw [if_neg (by simp [h0])];have hv:=(ib aQ y).1 h0;have ht:=fun σ=>nL rk hv σ;simp only [ab.v,ab.cells] at ht;rw [h0] at hc;refine aa _ ?_;simp [Nl,ab.v,ab.cells];refine ah.pure Dr (hc _) ?_;simp;refine ah.pure Oe (ht _) ?_;simp
end Go.AM
