/- The document: numbers, parts and plans az they are told. The document: the text of a plan. The document: strings that are cut, numbers and words that are read. The document: parts and changes that are read. The document: changes that are read. The document: a plan that is read. -/
import Derived.Test.YthhmdhiiicipkaaGreatDoorP28
import Derived.Test.YthhmdhiiicipkaaGreatDoorP21
import Derived.Test.YthhmdhiiicipkaaGreatDoorP26
namespace Go.AM
open Go.Proofs
set_option maxRecDepth 100000
set_option maxHeartbeats 1000000
theorem gJ (a b:ByteArray):aL (a ++ b) = aL a ++ aL b:=by simp [aL]
theorem xZ (a b:Wd):bytes (a ++ b) = bytes a ++ bytes b:=data_inj (by rw [n7]; show _ = aL _; rw [gJ,fL,fL])
theorem hG {a b:ByteArray} (h:aL a = aL b):a = b:=data_inj h
theorem oQ (b:UInt8):∀ {l:List Wd} (w:Wd),l ≠ [] → bo b (l ++ [w]) = bo b l ++ b :: w
  | [],_,h=>absurd rfl h
  | [a],w,_=>rfl
  | a :: c :: r,w,_=>by
    have ih:=oQ b (l:=c :: r) w (by simp)
    rw [List.cons_append,qN b a (by simp),ih,qN b a (by simp)]; simp
theorem EC (u:Nat):Lib.decDigits u = if u < 10 then [UInt8.ofNat (48 + u)] else Lib.decDigits (u / 10) ++ [UInt8.ofNat (48 + u % 10)]:=by
  conv=>lhs; rw [Lib.decDigits]
  simp only [dite_eq_ite]
theorem uc (n:Nat):Lib.itoa (n:Int) = Lib.decDigits n:=by rw [o5 (by omega)]; rfl
theorem ze (n:Nat) (h:n ≤ 1000000000):(Lib.decDigits n).length ≤ 10:=by
  have:=lX (n:=(n:Int)) (by omega) (k:=10) (by omega) (by omega)
  rwa [uc] at this
theorem oW (n:Nat) (hn:n ≤ 1000000000) (σ:ag):Spec Tryz.prog xf [ii' n] σ fun r σ'=>r = .ret (.str (bytes (Lib.itoa n))) ∧ σ' = σ:=by
  refine Spec.aC (Cb (by simp) (aa _ ?_)) rfl rfl σ
  rw [uc]
  have hlen:=ze n hn
  simp [Af,show ¬ (n:Int) < 0 by omega]
  refine AW.loop (ι:=Nat) (fun m fr σ=>∃ out,fr = { v:=[(0, .int .i64 m),(3, .str out)],ds:=[] } ∧ m ≤ 1000000000 ∧ Lib.decDigits m ++ aL out = Lib.decDigits n) (fun m=>m) n ⟨_,rfl,hn,by simp [aL]⟩ ?_
  rintro m fr σ ⟨out,rfl,hm,hd⟩
  have hol:out.size ≤ 10:=by
    have:=congrArg List.length hd
    rw [List.length_append,wj] at this
    omega
  obtain ⟨k,hk⟩:∃ k:Nat,48 + m % 10 = k:=⟨_,rfl⟩
  have ewq:IntKind.i64.wrap (48 + (m:Int).tmod 10) = (k:Int):=by
    rw [Int.tmod_eq_emod_of_nonneg (by omega),aj (by omega) (by omega)]; omega
  have ew2:IntKind.u8.wrap (k:Int) = (k:Int):=by
    have:k < 58:=by omega
    rw [show IntKind.u8.wrap (k:Int) = (k:Int) % 256 from by simp [IntKind.wrap,IntKind.bits,IntKind.signed]]
    omega
  have hdm:=EC m
  have hsz1:∀ c:UInt8,(⟨#[c]⟩:ByteArray).size = 1:=fun _=>rfl
  have hraw1:∀ (c:UInt8) (b:ByteArray),aL ((⟨#[c]⟩:ByteArray) ++ b) = c :: aL b:=fun c b=>by rw [gJ]; rfl
  rcases Nat.lt_or_ge m 10 with h10 | h10
  · have eq:IntKind.i64.wrap ((m:Int) / 10) = 0:=by
      rw [aj (by omega) (by omega)]; omega
    rw [if_pos h10,show 48 + m = k by omega] at hdm
    refine aa _ ?_
    simp [ewq,ew2,eq,u8s,hsz1]
    refine ⟨by omega, ?_⟩
    apply hG
    rw [hraw1,fL, ← hd,hdm]; rfl
  · have eq:IntKind.i64.wrap ((m:Int) / 10) = ((m / 10:Nat):Int):=by
      rw [aj (by omega) (by omega)]; omega
    obtain ⟨j,hj⟩:∃ j,m / 10 = j:=⟨_,rfl⟩
    rw [if_neg (by omega),hk,hj] at hdm
    rw [hj] at eq
    have hj0:¬ j = 0:=by omega
    refine aa _ ?_
    simp [ewq,ew2,eq,hj0,u8s,hsz1]
    refine ⟨by omega, ?_⟩
    have hgo:Lib.decDigits j ++ aL ((⟨#[UInt8.ofNat k]⟩:ByteArray) ++ out) = Lib.decDigits n:=by rw [hraw1, ← hd,hdm]; simp
    exact ⟨j,by omega,_,⟨rfl,rfl⟩,by omega,hgo⟩
theorem hF (n:Int) (h0:0 ≤ n) (h1:n ≤ 1000000000) (σ:ag):Spec Tryz.prog xf [ii' n] σ fun r σ'=>r = .ret (.str (uE n)) ∧ σ' = σ:=by
  obtain ⟨m,rfl⟩:=Int.eq_ofNat_of_zero_le h0
  exact oW m (by omega) σ
theorem jn {n:Int} (h0:0 ≤ n) (h1:n ≤ 1000000000):(uE n).size ≤ 10:=by
  unfold uE
  rw [sh]
  exact lX h0 (by omega) (by omega)
def jh:List ByteArray:=[.empty,mh,qF,jF,qS,qL]
theorem km (σ:ag):Spec Tryz.prog zb [] σ fun r σ'=>r = .ret (.slice 1 (jh.map .str)) ∧ σ' = σ:=by
  refine Spec.aC (BP (by simp) (aa _ ?_)) rfl rfl σ
  simp [zW,jh]
  exact ⟨rfl,rfl,rfl,rfl,rfl,rfl⟩
def ij (x:HuM) (i:Nat):Wd:=bo 32 (jr ⟨x.name,x.kind,x.first,x.last,x.on.take i,x.lo,x.hi⟩)
theorem uF (x:HuM) {i:Nat} (h:i < x.on.length):ij x (i + 1) = ij x i ++ 32 :: aL x.on[i]:=by
  unfold ij jr
  rw [List.take_succ_eq_append_getElem h,List.map_append, ← oQ]
  · simp
  · simp
theorem yi {x:HuM} (h:jy x) (i:Nat):(ij x i).length ≤ 260:=by
  have hx:jy ⟨x.name,x.kind,x.first,x.last,x.on.take i,x.lo,x.hi⟩:=⟨⟨h.ok.name,h.ok.range,h.ok.frames,h.ok.span,h.ok.on.sublist (List.take_sublist _ _)⟩,fun n hn=>h.on n (List.mem_of_mem_take hn),by have:=h.len; simp; omega⟩
  have h1:=yN (jr ⟨x.name,x.kind,x.first,x.last,x.on.take i,x.lo,x.hi⟩)
  have h2:=qg hx
  have h3:=kA ⟨x.name,x.kind,x.first,x.last,x.on.take i,x.lo,x.hi⟩
  have h4:=hx.len
  unfold ij
  dsimp only at h3 h4
  omega
theorem uD (x:HuM):bytes (ij x 0) = x.name ++ spB ++ bytes (eh x.kind) ++ spB ++ uE x.first ++ spB ++ uE x.last ++ spB ++ uE x.lo ++ spB ++ uE x.hi:=by
  apply hG
  simp only [gJ,fL,uE,ij,jr,List.take_zero,List.map_nil,bo]
  simp [spB,aL]
theorem yn {k:Int} (h:1 ≤ k ∧ k ≤ 5):∃ j:Nat,k = j ∧ ∃ hj:j < jh.length,jh[j] = bytes (eh k):=by
  refine ⟨k.toNat,by omega,by simp [jh]; omega, ?_⟩
  rcases (by omega:k = 1 ∨ k = 2 ∨ k = 3 ∨ k = 4 ∨ k = 5) with rfl | rfl | rfl | rfl | rfl <;> rfl
theorem ye (k:Int):(eh k).length ≤ 6:=by
  unfold eh; repeat' split
  all_goals decide
theorem jk (x:HuM) (hx:jy x) (σ:ag):Spec Tryz.prog yx [x.v] σ fun r σ'=>r = .ret (.str (bytes (bo 32 (jr x)))) ∧ σ' = σ:=by
  refine Spec.aC (Is (by simp) ?_) (by simp [aA,x.pure]) rfl σ
  have hend:bo 32 (jr x) = ij x x.on.length:=by unfold ij; rw [List.take_length]
  rw [hend]
  obtain ⟨hk,h1,h2,h3,h4⟩:=ja hx.ok
  have d1:=hF x.first (by omega) (by omega)
  have d2:=hF x.last (by omega) (by omega)
  have d3:=hF x.lo (by omega) (by omega)
  have d4:=hF x.hi (by omega) (by omega)
  have s1:=jn (n:=x.first) (by omega) (by omega)
  have s2:=jn (n:=x.last) (by omega) (by omega)
  have s3:=jn (n:=x.lo) (by omega) (by omega)
  have s4:=jn (n:=x.hi) (by omega) (by omega)
  have s5q:x.name.size ≤ 16:=by have:=(ku hx.ok.name).2.2; rwa [wj] at this
  have s6q:(bytes (eh x.kind)).size ≤ 6:=by rw [sh]; exact ye _
  have s7q:spB.size = 1:=rfl
  have hz:=uD x
  have hlen:=yi hx
  have hsucc:=fun i=>uF x (i:=i)
  have hol:=hx.len
  have hon:=hx.on
  obtain ⟨j,hj,hjl,hjk⟩:=yn hk
  rw [hj] at s6q hz hjk
  have hki:=km
  have hsp:(⟨#[32]⟩:ByteArray) = spB:=rfl
  obtain ⟨K,hK⟩:∃ K,jh = K:=⟨_,rfl⟩
  simp only [hK] at hjl hjk hki
  have hKp:aA (K.map ab.str) = true:=ah (f:=ab.str) (fun _=>rfl) K
  refine aa _ ?_
  simp [zV,HuM.v,HuM.cells,hsp]
  refine ⟨by omega, .slice 1 (K.map .str),fun σ'=>aB.func Ac (hki σ'), ?_⟩
  simp [hj,hjl,hjk,ByteArray.size_append]
  refine ⟨by omega,by omega,_,fun σ'=>aB.func qp (d1 σ'), ?_⟩
  simp
  refine ⟨by omega,by omega,_,fun σ'=>aB.func qp (d2 σ'), ?_⟩
  simp
  refine ⟨by omega,by omega,_,fun σ'=>aB.func qp (d3 σ'), ?_⟩
  simp
  refine ⟨by omega,by omega,_,fun σ'=>aB.func qp (d4 σ'), ?_⟩
  simp
  refine ⟨by omega, ?_⟩
  refine AW.loop (ι:=Nat) (fun i fr σ=>fr = { v:=[(1, .pval (.agg [.str x.name,ii' j,ii' x.first,ii' x.last, .slice 1 (x.on.map .str),ii' x.lo,ii' x.hi])),(3, .str (bytes (ij x i))),(4, .int .i64 i)],ds:=[] } ∧ i ≤ x.on.length) (fun i=>x.on.length - i) 0 ⟨by rw [hz]; rfl,by omega⟩ ?_
  rintro i fr σ ⟨rfl,hi⟩
  have hl:=hlen i
  refine (Nat.lt_or_ge i x.on.length).elim (fun hlt=>?_) (fun hge=>?_)
  · obtain ⟨n,hn⟩:∃ n,x.on[i] = n:=⟨_,rfl⟩
    have hn':x.on[i]? = some n:=by rw [List.getElem?_eq_getElem hlt,hn]
    have hs:=hsucc i hlt
    rw [hn] at hs
    have hnz:=(ku (hon n (hn ▸ List.getElem_mem hlt))).2.2
    rw [wj] at hnz
    have hb:bytes (ij x i) ++ spB ++ n = bytes (ij x (i + 1)):=by
      apply hG
      rw [gJ,gJ,fL,fL,hs]
      simp [spB,aL]
    have hbz:(bytes (ij x i)).size = (ij x i).length:=sh _
    have hwi:IntKind.i64.wrap ((i:Int) + 1) = ((i + 1:Nat):Int):=by rw [aj (by omega) (by omega)]; simp
    refine aa _ ?_
    simp [hlt,hn,hb,hwi,ByteArray.size_append]
    refine ⟨by omega,by omega,i + 1,by omega,⟨rfl,by simp⟩,by omega⟩
  · obtain rfl:i = x.on.length:=by omega
    refine aa _ ?_
    simp
set_option maxRecDepth 100000
set_option maxHeartbeats 1000000
def sL:ByteArray:=⟨#[112,97,114,116,32]⟩
def wX:ByteArray:=⟨#[32,97,100,100,32]⟩
def sQ:ByteArray:=⟨#[32,116,97,107,101,32]⟩
def sR:ByteArray:=⟨#[32,115,119,97,112,32]⟩
theorem jD (x:HuM):jr x ≠ []:=by simp [jr]
theorem uh (S:Wd) (x:HuM):bytes S ++ sL ++ bytes (bo 32 (jr x)) ++ nlB = bytes (S ++ eO (de x)):=by
  apply hG
  simp only [gJ,fL,eO,de]
  rw [qN 32 lR (jD x)]
  simp [sL,nlB,aL,lR]
theorem xI (S:Wd) (c:ChM) (h:c.what = 1):bytes S ++ uE c.day ++ wX ++ bytes (bo 32 (jr c.part)) ++ nlB = bytes (S ++ eO (chB c)):=by
  apply hG
  simp only [gJ,fL,eO,chB,uE]
  rw [if_pos h,qN 32 _ (by simp),qN 32 _ (jD _)]
  simp [wX,nlB,aL,iL]
theorem vU (S:Wd) (c:ChM) (h:c.what = 2):bytes S ++ uE c.day ++ sQ ++ c.name ++ nlB = bytes (S ++ eO (chB c)):=by
  apply hG
  simp only [gJ,fL,eO,chB,uE]
  rw [if_neg (by omega),if_pos h,qN 32 _ (by simp),qN 32 _ (by simp)]
  simp [sQ,nlB,aL,fb,bo]
theorem vA (S:Wd) (c:ChM) (h:c.what = 3):bytes S ++ uE c.day ++ sR ++ c.name ++ spB ++ bytes (bo 32 (jr c.part)) ++ nlB = bytes (S ++ eO (chB c)):=by
  apply hG
  simp only [gJ,fL,eO,chB,uE]
  rw [if_neg (by omega),if_neg (by omega),qN 32 _ (by simp),qN 32 _ (by simp),qN 32 _ (jD _)]
  simp [sR,nlB,spB,aL,gR]
theorem lT (p:ar) (h:Told p) (σ:ag):Spec Tryz.prog Au [p.v] σ fun r σ'=>r = .ret (.str (bytes (fY p))) ∧ σ' = σ:=by
  refine Spec.aC (Fl (by simp) ?_) (by simp [aA,p.pure]) rfl σ
  obtain ⟨l,cs⟩:=p
  have h1:=h.n1
  have h2:=h.n2
  have hsl:=wP h
  have hcl:=y9 h
  have hst:=h.ship
  have hct:=h.chs
  dsimp only at h1 h2 hsl hcl hst hct
  have e1:(⟨#[112,97,114,116,32]⟩:ByteArray) = sL:=rfl
  have e2:(⟨#[10]⟩:ByteArray) = nlB:=rfl
  have e3:(⟨#[32,97,100,100,32]⟩:ByteArray) = wX:=rfl
  have e4:(⟨#[32,116,97,107,101,32]⟩:ByteArray) = sQ:=rfl
  have e5:(⟨#[32,115,119,97,112,32]⟩:ByteArray) = sR:=rfl
  have e6:(⟨#[32]⟩:ByteArray) = spB:=rfl
  have z1:sL.size = 5:=rfl
  have z2:nlB.size = 1:=rfl
  have z3:wX.size = 5:=rfl
  have z4:sQ.size = 6:=rfl
  have z5:sR.size = 6:=rfl
  have z6q:spB.size = 1:=rfl
  refine aa _ ?_
  simp [CN,ar.v,ar.cells]
  refine AW.loop (ι:=Nat) (fun i fr σ'=>fr = { v:=[(1, .pval (.agg [.slice 7 (l.map HuM.v), .slice 10 (cs.map ChM.v)])),(3, .str (bytes ((l.take i).flatMap fun x=>eO (de x)))),(4, .int .i64 i)],ds:=[] } ∧ i ≤ l.length) (fun i=>l.length - i) 0 ⟨rfl,by omega⟩ ?_
  rintro i fr σ' ⟨rfl,hi⟩
  refine (Nat.lt_or_ge i l.length).elim (fun hlt=>?_) (fun hge=>?_)
  · obtain ⟨x,hx⟩:∃ x,l[i] = x:=⟨_,rfl⟩
    have hx':l[i]? = some x:=by rw [List.getElem?_eq_getElem hlt,hx]
    have hxm:x ∈ l:=hx ▸ List.getElem_mem _
    have hte:=jk x (hst x hxm)
    have hbl:((l.take i).flatMap fun x=>eO (de x)).length ≤ 3480:=by
      have:=pE (fun x=>eO (de x)) (m:=290) (l.take i) fun y hy=>hsl y (List.mem_of_mem_take hy)
      simp only [List.length_take] at this; omega
    have hfl:=vK (fun x=>eO (de x)) hlt
    rw [hx] at hfl
    have htl:(bo 32 (jr x)).length ≤ 290:=by
      have a1:=hsl x hxm
      unfold eO de at a1
      rw [qN 32 _ (jD x)] at a1
      simp at a1; omega
    generalize ((l.take i).flatMap fun x=>eO (de x)) = S at *
    have hpc:=uh S x
    rw [← hfl] at hpc
    have b1:=sh S
    have b2:=sh (bo 32 (jr x))
    have hwi:IntKind.i64.wrap ((i:Int) + 1) = ((i + 1:Nat):Int):=by rw [aj (by omega) (by omega)]; simp
    simp only [HuM.v,HuM.cells] at hte
    refine aa _ ?_
    simp [hlt,hx,HuM.v,HuM.cells,e1]
    refine ⟨by omega, ?_⟩
    refine af.pure yL (hte _) ?_
    simp [e1,e2,hwi,hpc,ByteArray.size_append]
    exact ⟨by omega,by omega,i + 1,by omega,⟨rfl,by simp⟩,by omega⟩
  obtain rfl:i = l.length:=by omega
  rw [List.take_length]
  obtain ⟨S,hS⟩:∃ S,(l.flatMap fun x=>eO (de x)) = S:=⟨_,rfl⟩
  have hSl:S.length ≤ 3480:=by
    rw [← hS]
    have:=pE (fun x=>eO (de x)) (m:=290) l hsl
    omega
  have hT:fY ⟨l,cs⟩ = S ++ cs.flatMap fun c=>eO (chB c):=by
    rw [← hS]; unfold fY pq
    simp [List.flatMap_append,List.flatMap_map]
  rw [hS,hT]
  have hnl:¬ l.length < l.length:=by omega
  refine aa _ ?_
  simp [hnl]
  refine AW.loop (ι:=Nat) (fun i fr σ'=>fr = { v:=[(1, .pval (.agg [.slice 7 (l.map HuM.v), .slice 10 (cs.map ChM.v)])),(3, .str (bytes (S ++ (cs.take i).flatMap fun c=>eO (chB c)))),(5, .int .i64 i)],ds:=[] } ∧ i ≤ cs.length) (fun i=>cs.length - i) 0 ⟨by simp,by omega⟩ ?_
  rintro i fr σ' ⟨rfl,hi⟩
  refine (Nat.lt_or_ge i cs.length).elim (fun hlt=>?_) (fun hge=>?_)
  rotate_left
  · have htk:cs.take i = cs:=List.take_of_length_le (by omega)
    rw [htk]
    refine aa _ ?_
    simp [show ¬ i < cs.length by omega]
  obtain ⟨c,hx⟩:∃ x,cs[i] = x:=⟨_,rfl⟩
  have hx':cs[i]? = some c:=by rw [List.getElem?_eq_getElem hlt,hx]
  have hcm:c ∈ cs:=hx ▸ List.getElem_mem _
  have hct:=hct c hcm
  have hrl:=hcl c hcm
  have hbl:(S ++ (cs.take i).flatMap fun c=>eO (chB c)).length ≤ 9000:=by
    have:=pE (fun c=>eO (chB c)) (m:=290) (cs.take i) fun y hy=>hcl y (List.mem_of_mem_take hy)
    simp only [List.length_take,List.length_append] at this ⊢; omega
  have hfl:=vK (fun c=>eO (chB c)) hlt
  rw [hx] at hfl
  have hfl2:S ++ (cs.take (i + 1)).flatMap (fun c=>eO (chB c)) = (S ++ (cs.take i).flatMap fun c=>eO (chB c)) ++ eO (chB c):=by rw [hfl,List.append_assoc]
  generalize S ++ (cs.take i).flatMap (fun c=>eO (chB c)) = U at *
  have hwi:IntKind.i64.wrap ((i:Int) + 1) = ((i + 1:Nat):Int):=by rw [aj (by omega) (by omega)]; simp
  have hda:=hct.day
  have hit:=hF c.day (by omega) (by omega)
  have b0:=sh U
  have b1:=jn (n:=c.day) (by omega) (by omega)
  have b2:=sh (bo 32 (jr c.part))
  rcases hct.what with e | e | e
  · have hpt:=hct.part (by omega)
    have hte:=jk c.part hpt
    have hpc:=xI U c e
    rw [← hfl2] at hpc
    have htl:(bo 32 (jr c.part)).length ≤ 290:=by
      unfold eO chB at hrl
      rw [if_pos e,qN 32 _ (by simp),qN 32 _ (jD _)] at hrl
      simp at hrl; omega
    simp only [HuM.v,HuM.cells] at hte
    refine aa _ ?_
    simp [hlt,hx,ChM.v,ChM.cells,e]
    refine af.pure qp (hit _) ?_
    simp [hlt,hx,ChM.v,ChM.cells,e,e2,e3,e4,e5,ByteArray.size_append]
    refine ⟨by omega,by omega, ?_⟩
    refine af.pure yL (hte _) ?_
    simp [e2,e3,hwi,hpc,ByteArray.size_append]
    exact ⟨by omega,by omega,i + 1,by omega,⟨rfl,by simp⟩,by omega⟩
  · have hpc:=vU U c e
    rw [← hfl2] at hpc
    have htl:c.name.size ≤ 290:=by
      unfold eO chB at hrl
      rw [if_neg (by omega),if_pos e,qN 32 _ (by simp),qN 32 _ (by simp)] at hrl
      simp [bo,wj] at hrl; omega
    refine aa _ ?_
    simp [hlt,hx,ChM.v,ChM.cells,e]
    refine af.pure qp (hit _) ?_
    simp [hlt,hx,ChM.v,ChM.cells,e,e2,e3,e4,e5,hwi,hpc,ByteArray.size_append]
    exact ⟨by omega,by omega,by omega,by omega,i + 1,by omega,⟨rfl,by simp⟩,by omega⟩
  · have hpt:=hct.part (by omega)
    have hte:=jk c.part hpt
    have hpc:=vA U c e
    rw [← hfl2] at hpc
    have htl:(bo 32 (jr c.part)).length ≤ 290 ∧ c.name.size ≤ 290:=by
      unfold eO chB at hrl
      rw [if_neg (by omega),if_neg (by omega),qN 32 _ (by simp),qN 32 _ (by simp),qN 32 _ (jD _)] at hrl
      simp [wj] at hrl; omega
    simp only [HuM.v,HuM.cells] at hte
    refine aa _ ?_
    simp [hlt,hx,ChM.v,ChM.cells,e]
    refine af.pure qp (hit _) ?_
    simp [hlt,hx,ChM.v,ChM.cells,e,e2,e3,e4,e5,e6,ByteArray.size_append]
    refine ⟨by omega,by omega,by omega,by omega,_,fun σ' _=>aB.func yL (hte σ'), ?_⟩
    simp [hwi,hpc,ByteArray.size_append]
    exact ⟨by omega,by omega,i + 1,by omega,⟨rfl,by simp⟩,by omega⟩
theorem pY (ps:List HuM) (cs:List ChM) (hf:gO ⟨ps,cs⟩) (σ:ag) :
    Spec Tryz.prog AD [.agg [.slice 7 (ps.map HuM.v), .slice 10 (cs.map ChM.v)]] σ fun r σ'=>r = .ret (.tup [.str (ee ⟨ps,cs⟩),ii' (bT ⟨ps,cs⟩).2.2]) ∧ σ' = σ:=by
  refine Spec.aC (Hb (by simp) ?_) (by simp [aA,ab.pure,ah (f:=HuM.v) (fun p=>p.pure) ps,ah (f:=ChM.v) (fun c=>c.pure) cs]) (by simp [ab.pure,aA]) σ
  have hck:=fg ps cs hf
  have hw:ee ⟨ps,cs⟩ = if (bL ⟨ps,cs⟩).2.2 = 0 then bytes (fY ⟨ps,cs⟩) else .empty:=by unfold ee; rw [bA]
  have hp:=cF ⟨ps,cs⟩
  rw [bA,hw]
  rcases Decidable.em ((bL ⟨ps,cs⟩).2.2 = 0) with h | h
  · have htx:=lT ⟨ps,cs⟩ (oL (hp.1 h))
    simp only [ar.v,ar.cells] at htx
    rw [if_pos h]
    generalize bL ⟨ps,cs⟩ = T at *
    obtain ⟨t1,t2,t3⟩:=T
    simp only [dc] at hck h ⊢
    subst h
    refine aa _ ?_
    simp [Ax]
    refine af.pure uA (hck _) ?_
    simp
    refine af.pure Ag (htx _) ?_
    simp
  · rw [if_neg h]
    generalize bL ⟨ps,cs⟩ = T at *
    obtain ⟨t1,t2,t3⟩:=T
    simp only [dc] at hck h ⊢
    refine aa _ ?_
    simp [Ax]
    refine af.pure uA (hck _) ?_
    simp [h]
    try rfl
set_option maxRecDepth 100000
set_option maxHeartbeats 1000000
theorem tA (s:ByteArray) (i:Nat) (h:i < s.size):s.extract i (i + 1) = bytes [s.data[i]?.getD 0]:=by
  apply hG
  rw [fL]
  have h':i < s.data.size:=h
  have h2:i < s.data.toList.length:=by simpa using h'
  have e:s.data[i]?.getD 0 = s.data.toList[i]:=by rw [Array.getElem?_eq_getElem h']; simp
  rw [e]
  simp only [aL,ByteArray.data_extract,Array.toList_extract]
  rw [List.extract_eq_take_drop]
  rw [List.drop_eq_getElem_cons h2]
  simp
theorem sA (s:ByteArray) (i:Nat) (h:i < s.size):∃ c,s.data[i]?.getD 0 = c ∧ (aL s).drop i = c :: (aL s).drop (i + 1):=by
  have h':i < s.data.size:=h
  have h2:i < (aL s).length:=by rw [wj]; exact h
  refine ⟨_,rfl, ?_⟩
  rw [List.drop_eq_getElem_cons h2]
  have e:s.data[i]?.getD 0 = (aL s)[i]:=by rw [Array.getElem?_eq_getElem h']; simp [aL]
  rw [e]
theorem nC (s:ByteArray) (b:UInt8) (hs:s.size ≤ 6000) (σ:ag) :
    Spec Tryz.prog AR [.str s, .int .u8 b.toNat] σ fun r σ'=>r = .ret (.slice 1 ((cutAt b (aL s)).map fun w=>.str (bytes w))) ∧ σ' = σ:=by
  refine Spec.aC (G2 (by simp) (aa _ ?_)) rfl (by simp [ab.pure,ah (f:=fun w=>ab.str (bytes w)) (fun _=>rfl)]) σ
  obtain ⟨R,hR⟩:∃ R,cutAt b (aL s) = R:=⟨_,rfl⟩
  have hRl:R.length ≤ 6001:=by rw [← hR]; have:=(vq b (aL s)).1; rw [wj] at this; omega
  rw [hR]
  simp [CA]
  refine AW.loop (ι:=Nat) (fun i fr σ=>∃ (O:List Wd) (p:Wd) (q:Nat),fr = { v:=[(0, .str s),(1, .int .u8 b.toNat),(5, .oslice 1 (O.map fun w=>.str (bytes w)) 0 q),(6, .str (bytes p)),(7, .int .i64 i)],ds:=[] } ∧ σ = [.spare 1 q] ∧ i ≤ s.size ∧ p.length ≤ i ∧ b ∉ p ∧ R = O ++ cutAt b (p ++ (aL s).drop i)) (fun i=>s.size - i) 0 ⟨[],[],0,by simp [bytes],rfl,by omega,by simp,by simp,by simp [hR]⟩ ?_
  rintro i fr σ ⟨O,p,q,rfl,rfl,hi,hpl,hbp,hRe⟩
  have fOq:∀ w:Wd,Fits 1 [.str (bytes w)]:=fun w v hv=>by simp at hv; subst hv; exact ⟨by simp [bB],by simp [ab.cells,dR,ab.fh]⟩
  have hbz:∀ w:Wd,(bytes w).size = w.length:=sh
  refine (Nat.lt_or_ge i s.size).elim (fun hlt=>?_) (fun hge=>?_)
  · obtain ⟨c,hc,hd⟩:=sA s i hlt
    have hx:=tA s i hlt
    rw [hc] at hx
    rw [hd] at hRe
    have hc2:∀ h:i < s.data.size,s.data[i]'h = c:=fun h=>by rw [Array.getElem?_eq_getElem h] at hc; exact hc
    have hwi:IntKind.i64.wrap ((i:Int) + 1) = ((i + 1:Nat):Int):=by rw [aj (by omega) (by omega)]; simp
    have hwT:((i:Int) + 1).toNat = i + 1:=by omega
    rcases Decidable.em (c = b) with hcb | hcb
    · subst hcb
      rw [ik _ _ _ hbp] at hRe
      have hOl:O.length ≤ 6000:=by
        have:=congrArg List.length hRe
        rw [List.length_append,List.length_cons] at this; omega
      refine aa _ ?_
      simp [hlt,hc2,hwi,fOq]
      exact ⟨by omega,i + 1,by omega,O ++ [p],[],q + 1,⟨⟨by simp,rfl⟩,rfl,by simp⟩,rfl,by omega,by simp,by simp,by rw [hRe]; simp⟩
    · have hcI:¬ (c.toNat:Int) = (b.toNat:Int):=fun e=>hcb (UInt8.toNat_inj.1 (by omega))
      have hpc:bytes p ++ bytes [c] = bytes (p ++ [c]):=(xZ p [c]).symm
      refine aa _ ?_
      simp [hlt,hc2,hcI,hwi,hwT,hx,hpc,hbz]
      exact ⟨⟨by omega,by omega⟩,by omega,i + 1,by omega,O,p ++ [c],q,⟨⟨rfl,rfl⟩,rfl,by simp⟩,rfl,by omega,by simp; omega,by simp [hbp,Ne.symm hcb],by rw [hRe]; simp⟩
  · obtain rfl:i = s.size:=by omega
    rw [← wj,List.drop_length,List.append_nil,jq _ _ hbp] at hRe
    refine aa _ ?_
    simp [fOq]
    have hOl:O.length ≤ 6000:=by
      have:=congrArg List.length hRe
      rw [List.length_append,List.length_singleton] at this; omega
    exact ⟨by omega,by rw [hRe]; simp⟩
theorem tj:∀ (l:List UInt8) (a:Nat),(∀ c ∈ l,sP c) → vP a l < (a + 1) * 10 ^ l.length
  | [],a,_=>by simp [vP]
  | c :: l,a,h=>by
    have h1:48 ≤ c.toNat ∧ c.toNat ≤ 57:=h c (by simp)
    have ih:=tj l (a * 10 + (c.toNat - 48)) fun d hd=>h d (by simp [hd])
    have e:vP a (c :: l) = vP (a * 10 + (c.toNat - 48)) l:=rfl
    rw [e,List.length_cons,Nat.pow_succ]
    have:(a * 10 + (c.toNat - 48) + 1) ≤ (a + 1) * 10:=by omega
    have:=Nat.mul_le_mul_right (10 ^ l.length) this
    rw [show (a + 1) * (10 ^ l.length * 10) = (a + 1) * 10 * 10 ^ l.length by rw [Nat.mul_assoc,Nat.mul_comm 10]]
    omega
theorem sq (l:List UInt8) (c:UInt8):vP 0 (l ++ [c]) = vP 0 l * 10 + (c.toNat - 48):=by
  unfold vP; rw [List.foldl_append]; rfl
theorem ez (s:ByteArray) (hs:s.size ≤ 6000) (σ:ag) :
    Spec Tryz.prog zz [.str s] σ fun r σ'=>r = .ret (ii' (uk (aL s))) ∧ σ' = σ:=by
  refine Spec.aC (C1 (by simp) ?_) rfl rfl σ
  have n1:=aJ s.size 1 9
  obtain ⟨R,hR⟩:∃ R,uk (aL s) = R:=⟨_,rfl⟩
  rw [hR]
  unfold uk at hR
  rw [wj] at hR
  rcases tf (bu (s.size:Int) 1 9) with h | h
  · rw [h] at n1
    rw [if_pos (.inl (by simp [bu] at h; omega))] at hR
    subst hR
    refine aa _ ?_
    simp [tQ]
    refine af.pure eQ (n1 _) ?_
    simp
  rw [h] at n1
  have hsz:1 ≤ s.size ∧ s.size ≤ 9:=by simp [bu] at h; omega
  obtain ⟨c0,hc0,hd0⟩:=sA s 0 (by omega)
  have hc0':∀ h:0 < s.data.size,s.data[0]'h = c0:=fun h=>by rw [Array.getElem?_eq_getElem h] at hc0; exact hc0
  have hhd:(aL s).head? = some c0:=by
    rw [List.drop_zero] at hd0; rw [hd0]; rfl
  rcases Decidable.em (1 < s.size ∧ c0 = 48) with hz | hz
  · rw [if_pos (.inr ⟨hz.1,by rw [hhd,hz.2]⟩)] at hR
    subst hR
    have h1:=hz.1
    have h48:(c0.toNat:Int) = 48:=by rw [hz.2]; rfl
    refine aa _ ?_
    simp [tQ]
    refine af.pure eQ (n1 _) ?_
    simp [show (1:Int) < s.size by omega,hc0',h48,show 0 < s.size by omega]
  rw [if_neg (by
    rintro (h1 | ⟨h1,h2⟩)
    · exact h1 hsz
    · rw [hhd] at h2; exact hz ⟨h1,Option.some.inj h2⟩)] at hR
  have h48:1 < s.size → ¬ (c0.toNat:Int) = 48:=fun h1 e=>hz ⟨h1,UInt8.toNat_inj.1 (by show c0.toNat = 48; omega)⟩
  rcases Nat.lt_or_ge 1 s.size with h1 | h1
  · have h48:=h48 h1
    refine aa _ ?_
    simp [tQ]
    refine af.pure eQ (n1 _) ?_
    simp [show (1:Int) < s.size by omega,hc0',h48,show 0 < s.size by omega]
    refine AW.loop (ι:=Nat) (fun i fr σ=>∃ v:Nat,fr = { v:=[(0, .str s),(3, .int .i64 v),(4, .int .i64 i)],ds:=[] } ∧ i ≤ s.size ∧ v = vP 0 ((aL s).take i) ∧ ∀ c ∈ (aL s).take i,sP c) (fun i=>s.size - i) 0 ⟨0,rfl,by omega,rfl,by simp⟩ ?_
    rintro i fr σ ⟨v,rfl,hi,hv,hdg⟩
    refine (Nat.lt_or_ge i s.size).elim (fun hlt=>?_) (fun hge=>?_)
    · obtain ⟨c,hc,hd⟩:=sA s i hlt
      have hc':∀ h:i < s.data.size,s.data[i]'h = c:=fun h=>by rw [Array.getElem?_eq_getElem h] at hc; exact hc
      have hil:i < (aL s).length:=by rw [wj]; exact hlt
      have hgi:(aL s)[i] = c:=by
        have:=List.drop_eq_getElem_cons hil
        rw [hd] at this; exact ((List.cons.inj this).1).symm
      have htk:(aL s).take (i + 1) = (aL s).take i ++ [c]:=by rw [List.take_succ_eq_append_getElem hil,hgi]
      have hvb:=tj ((aL s).take i) 0 hdg
      rw [← hv] at hvb
      have hpw:10 ^ ((aL s).take i).length ≤ 10 ^ 8:=Nat.pow_le_pow_right (by omega) (by simp [wj]; omega)
      have hv8:v < 100000000:=by omega
      have hcl:c.toNat < 256:=c.toNat_lt
      have hwi:IntKind.i64.wrap ((i:Int) + 1) = ((i + 1:Nat):Int):=by rw [aj (by omega) (by omega)]; simp
      rcases Decidable.em (48 ≤ c.toNat ∧ c.toNat ≤ 57) with hcd | hcd
      · have e1:IntKind.i64.wrap (10 * (v:Int)) = 10 * (v:Int):=aj (by omega) (by omega)
        have e2:IntKind.i64.wrap (c.toNat:Int) = (c.toNat:Int):=aj (by omega) (by omega)
        have e3:IntKind.i64.wrap (10 * (v:Int) + (c.toNat:Int)) = 10 * (v:Int) + (c.toNat:Int):=aj (by omega) (by omega)
        have e4:IntKind.i64.wrap (10 * (v:Int) + (c.toNat:Int) - 48) = ((v * 10 + (c.toNat - 48):Nat):Int):=by rw [aj (by omega) (by omega)]; omega
        have hl1:¬ (c.toNat:Int) < 48:=by omega
        have hl2:¬ (57:Int) < c.toNat:=by omega
        obtain ⟨w,hw⟩:∃ w,v * 10 + (c.toNat - 48) = w:=⟨_,rfl⟩
        rw [hw] at e4
        refine aa _ ?_
        simp [hlt,hc',hl1,hl2,e1,e2,e3,e4,hwi]
        exact ⟨i + 1,by omega,w,⟨rfl,by simp⟩,by omega,by rw [htk,sq, ← hv,hw],fun d hdm=>by
          rw [htk,List.mem_append,List.mem_singleton] at hdm
          exact hdm.elim (hdg d) fun e=>e ▸ hcd⟩
      · have hbad:¬ ((aL s).all (fun c=>decide (48 ≤ c.toNat ∧ c.toNat ≤ 57)) = true):=by
          rw [List.all_eq_true]
          intro hh
          have:=hh c (hgi ▸ List.getElem_mem hil)
          exact hcd (by simpa using this)
        rw [if_neg hbad] at hR
        subst hR
        have hcd2:(c.toNat:Int) < 48 ∨ ¬ (c.toNat:Int) < 48 ∧ (57:Int) < c.toNat:=by omega
        rcases hcd2 with hl1 | ⟨hl1,hl2⟩
        · refine aa _ ?_
          simp [hlt,hc',hl1]
        · refine aa _ ?_
          simp [hlt,hc',hl1,hl2]
    · obtain rfl:i = s.size:=by omega
      have htk:(aL s).take s.size = aL s:=List.take_of_length_le (by rw [wj]; omega)
      rw [htk] at hv hdg
      have hall:(aL s).all (fun c=>decide (48 ≤ c.toNat ∧ c.toNat ≤ 57)) = true:=by
        rw [List.all_eq_true]
        intro c hc
        exact decide_eq_true (hdg c hc)
      rw [if_pos hall, ← hv] at hR
      subst hR
      refine aa _ ?_
      simp
  · refine aa _ ?_
    simp [tQ]
    refine af.pure eQ (n1 _) ?_
    simp [show ¬ (1:Int) < s.size by omega]
    refine AW.loop (ι:=Nat) (fun i fr σ=>∃ v:Nat,fr = { v:=[(0, .str s),(3, .int .i64 v),(4, .int .i64 i)],ds:=[] } ∧ i ≤ s.size ∧ v = vP 0 ((aL s).take i) ∧ ∀ c ∈ (aL s).take i,sP c) (fun i=>s.size - i) 0 ⟨0,rfl,by omega,rfl,by simp⟩ ?_
    rintro i fr σ ⟨v,rfl,hi,hv,hdg⟩
    refine (Nat.lt_or_ge i s.size).elim (fun hlt=>?_) (fun hge=>?_)
    · obtain ⟨c,hc,hd⟩:=sA s i hlt
      have hc':∀ h:i < s.data.size,s.data[i]'h = c:=fun h=>by rw [Array.getElem?_eq_getElem h] at hc; exact hc
      have hil:i < (aL s).length:=by rw [wj]; exact hlt
      have hgi:(aL s)[i] = c:=by
        have:=List.drop_eq_getElem_cons hil
        rw [hd] at this; exact ((List.cons.inj this).1).symm
      have htk:(aL s).take (i + 1) = (aL s).take i ++ [c]:=by rw [List.take_succ_eq_append_getElem hil,hgi]
      have hvb:=tj ((aL s).take i) 0 hdg
      rw [← hv] at hvb
      have hpw:10 ^ ((aL s).take i).length ≤ 10 ^ 8:=Nat.pow_le_pow_right (by omega) (by simp [wj]; omega)
      have hv8:v < 100000000:=by omega
      have hcl:c.toNat < 256:=c.toNat_lt
      have hwi:IntKind.i64.wrap ((i:Int) + 1) = ((i + 1:Nat):Int):=by rw [aj (by omega) (by omega)]; simp
      rcases Decidable.em (48 ≤ c.toNat ∧ c.toNat ≤ 57) with hcd | hcd
      · have e1:IntKind.i64.wrap (10 * (v:Int)) = 10 * (v:Int):=aj (by omega) (by omega)
        have e2:IntKind.i64.wrap (c.toNat:Int) = (c.toNat:Int):=aj (by omega) (by omega)
        have e3:IntKind.i64.wrap (10 * (v:Int) + (c.toNat:Int)) = 10 * (v:Int) + (c.toNat:Int):=aj (by omega) (by omega)
        have e4:IntKind.i64.wrap (10 * (v:Int) + (c.toNat:Int) - 48) = ((v * 10 + (c.toNat - 48):Nat):Int):=by rw [aj (by omega) (by omega)]; omega
        have hl1:¬ (c.toNat:Int) < 48:=by omega
        have hl2:¬ (57:Int) < c.toNat:=by omega
        obtain ⟨w,hw⟩:∃ w,v * 10 + (c.toNat - 48) = w:=⟨_,rfl⟩
        rw [hw] at e4
        refine aa _ ?_
        simp [hlt,hc',hl1,hl2,e1,e2,e3,e4,hwi]
        exact ⟨i + 1,by omega,w,⟨rfl,by simp⟩,by omega,by rw [htk,sq, ← hv,hw],fun d hdm=>by
          rw [htk,List.mem_append,List.mem_singleton] at hdm
          exact hdm.elim (hdg d) fun e=>e ▸ hcd⟩
      · have hbad:¬ ((aL s).all (fun c=>decide (48 ≤ c.toNat ∧ c.toNat ≤ 57)) = true):=by
          rw [List.all_eq_true]
          intro hh
          have:=hh c (hgi ▸ List.getElem_mem hil)
          exact hcd (by simpa using this)
        rw [if_neg hbad] at hR
        subst hR
        have hcd2:(c.toNat:Int) < 48 ∨ ¬ (c.toNat:Int) < 48 ∧ (57:Int) < c.toNat:=by omega
        rcases hcd2 with hl1 | ⟨hl1,hl2⟩
        · refine aa _ ?_
          simp [hlt,hc',hl1]
        · refine aa _ ?_
          simp [hlt,hc',hl1,hl2]
    · obtain rfl:i = s.size:=by omega
      have htk:(aL s).take s.size = aL s:=List.take_of_length_le (by rw [wj]; omega)
      rw [htk] at hv hdg
      have hall:(aL s).all (fun c=>decide (48 ≤ c.toNat ∧ c.toNat ≤ 57)) = true:=by
        rw [List.all_eq_true]
        intro c hc
        exact decide_eq_true (hdg c hc)
      rw [if_pos hall, ← hv] at hR
      subst hR
      refine aa _ ?_
      simp
set_option maxRecDepth 100000
set_option maxHeartbeats 1000000
theorem tC (k:ByteArray):dK jh k 0 = Gl (aL k):=by
  have e:∀ (s:ByteArray) (w:Wd),aL s = w → ((s.toList == k.toList) = true ↔ aL k = w):=fun s w hs=>by
    rw [cm]
    constructor
    · rintro rfl; exact hs
    · intro h; exact data_inj (hs.trans h.symm)
  have e0:=e .empty [] rfl
  have e1:=e mh (eh 1) rfl
  have e2:=e qF (eh 2) rfl
  have e3:=e jF (eh 3) rfl
  have e4:=e qS (eh 4) rfl
  have e5:=e qL (eh 5) rfl
  unfold Gl th
  simp only [jh,dK]
  by_cases h0:aL k = []
  · rw [if_pos (e0.2 h0),if_pos h0]; rfl
  rw [if_neg (fun h=>h0 (e0.1 h)),if_neg h0]
  by_cases h1:aL k = eh 1
  · rw [if_pos (e1.2 h1),if_pos h1]; rfl
  rw [if_neg (fun h=>h1 (e1.1 h)),if_neg h1]
  by_cases h2:aL k = eh 2
  · rw [if_pos (e2.2 h2),if_pos h2]; rfl
  rw [if_neg (fun h=>h2 (e2.1 h)),if_neg h2]
  by_cases h3:aL k = eh 3
  · rw [if_pos (e3.2 h3),if_pos h3]; rfl
  rw [if_neg (fun h=>h3 (e3.1 h)),if_neg h3]
  by_cases h4:aL k = eh 4
  · rw [if_pos (e4.2 h4),if_pos h4]; rfl
  rw [if_neg (fun h=>h4 (e4.1 h)),if_neg h4]
  by_cases h5:aL k = eh 5
  · rw [if_pos (e5.2 h5),if_pos h5]; rfl
  rw [if_neg (fun h=>h5 (e5.1 h)),if_neg h5]
theorem gI (l:List ByteArray) (hl:l.length ≤ 6001) (hz:∀ n ∈ l,n.size ≤ 6000) (σ:ag) :
    Spec Tryz.prog AN [.slice 1 (l.map .str)] σ fun r σ'=>r = .ret (xA (l.map aL)).v ∧ σ' = σ:=by
  refine Spec.aC (Ee (by simp) ?_) (by simp [aA,ab.pure,ah (f:=ab.str) (fun _=>rfl)]) (HuM.pure _) σ
  rcases Nat.lt_or_ge l.length 6 with h6 | h6
  · have hr:xA (l.map aL) = zHu:=by
      unfold xA
      split
      · rename_i e
        have:=congrArg List.length e
        simp at this; omega
      · rfl
    rw [hr]
    refine aa _ ?_
    simp [Bb,show (l.length:Int) < 6 by omega,zHu,HuM.v,HuM.cells]
  obtain ⟨n,l,rfl⟩:∃ n r,l = n :: r:=by cases l with | nil=>simp at h6 | cons a r=>exact ⟨a,r,rfl⟩
  obtain ⟨k,l,rfl⟩:∃ n r,l = n :: r:=by cases l with | nil=>simp at h6 | cons a r=>exact ⟨a,r,rfl⟩
  obtain ⟨a,l,rfl⟩:∃ n r,l = n :: r:=by cases l with | nil=>simp at h6 | cons a r=>exact ⟨a,r,rfl⟩
  obtain ⟨b,l,rfl⟩:∃ n r,l = n :: r:=by cases l with | nil=>simp at h6 | cons a r=>exact ⟨a,r,rfl⟩
  obtain ⟨c,l,rfl⟩:∃ n r,l = n :: r:=by cases l with | nil=>simp at h6 | cons a r=>exact ⟨a,r,rfl⟩
  obtain ⟨d,on,rfl⟩:∃ n r,l = n :: r:=by cases l with | nil=>simp at h6 | cons a r=>exact ⟨a,r,rfl⟩
  have hr:xA ((n :: k :: a :: b :: c :: d :: on).map aL) = ⟨n,Gl (aL k),uk (aL a),uk (aL b),on,uk (aL c),uk (aL d)⟩:=by
    simp only [List.map_cons,xA,cU,rL]
  rw [hr]
  have q1:=km
  have q2:=dH jh k (by decide)
  rw [tC] at q2
  have d1:=ez a (hz a (by simp))
  have d2:=ez b (hz b (by simp))
  have d3:=ez c (hz c (by simp))
  have d4:=ez d (hz d (by simp))
  generalize Gl (aL k) = K at *
  generalize uk (aL a) = A at *
  generalize uk (aL b) = B at *
  generalize uk (aL c) = C at *
  generalize uk (aL d) = D at *
  generalize jh = KSq at *
  have hKp:aA (KSq.map ab.str) = true:=ah (f:=ab.str) (fun _=>rfl) KSq
  have hon:on.length ≤ 5995:=by simp at hl; omega
  have hlt:¬ ((on.length:Int) + 1 + 1 + 1 + 1 + 1 + 1 < 6):=by omega
  refine aa _ ?_
  simp [Bb,hlt]
  refine ⟨by omega, .slice 1 (KSq.map .str),fun σ'=>aB.func Ac (q1 σ'),by omega, ?_⟩
  simp
  refine ⟨_,fun σ' _=>aB.func wF (q2 σ'), ?_⟩
  simp
  refine ⟨by omega,ii' A,fun σ'=>aB.func j8 (d1 σ'),by omega,ii' B,fun σ'=>aB.func j8 (d2 σ'),by omega,ii' C,fun σ'=>aB.func j8 (d3 σ'),by omega,ii' D,fun σ'=>aB.func j8 (d4 σ'), ?_⟩
  simp
  have hN:((on.length:Int) + 1 + 1 + 1 + 1 + 1 + 1).toNat = on.length + 6:=by omega
  have hx:List.drop 6 (List.take ((on.length:Int) + 1 + 1 + 1 + 1 + 1 + 1).toNat (ab.str n :: ab.str k :: ab.str a :: ab.str b :: ab.str c :: ab.str d :: List.map ab.str on)) = on.map ab.str:=by
    rw [hN,List.take_of_length_le (by simp)]; rfl
  rw [hx,hN]
  exact ⟨by omega,gX on,by omega,rfl⟩
set_option maxRecDepth 100000
set_option maxHeartbeats 1000000
theorem pS (d:ByteArray) (r:List ByteArray) (hl:r.length ≤ 6000) (hz:∀ n ∈ d :: r,n.size ≤ 6000) (σ:ag) :
    Spec Tryz.prog By [.slice 1 ((d :: r).map .str)] σ fun x σ'=>x = .ret (chR ((d :: r).map aL)).v ∧ σ' = σ:=by
  refine Spec.aC (Hd (by simp) ?_) (by simp [aA,ab.pure,ah (f:=ab.str) (fun _=>rfl)]) (ChM.pure _) σ
  have q1:=ez d (hz d (by simp))
  have eaq:(⟨#[97,100,100]⟩:ByteArray) = zE:=rfl
  have etq:(⟨#[116,97,107,101]⟩:ByteArray) = sx:=rfl
  have es:(⟨#[115,119,97,112]⟩:ByteArray) = sX:=rfl
  have raq:∀ w:ByteArray,aL w = iL ↔ w = zE:=fun w=>⟨fun h=>data_inj h,fun h=>by rw [h]; rfl⟩
  have rt:∀ w:ByteArray,aL w = fb ↔ w = sx:=fun w=>⟨fun h=>data_inj h,fun h=>by rw [h]; rfl⟩
  have rs:∀ w:ByteArray,aL w = gR ↔ w = sX:=fun w=>⟨fun h=>data_inj h,fun h=>by rw [h]; rfl⟩
  cases r with
  | nil=>
    have hr:chR ([d].map aL) = ⟨0,uk (aL d), .empty,zHu⟩:=by simp [chR]
    rw [hr]
    generalize uk (aL d) = D at *
    refine aa _ ?_
    simp [tv]
    refine af.pure j8 (q1 _) ?_
    simp [ChM.v,ChM.cells,zHu]
  | cons w r=>
  have hNe:¬ zE = sx ∧ ¬ zE = sX ∧ ¬ sx = zE ∧ ¬ sx = sX ∧ ¬ sX = zE ∧ ¬ sX = sx:=by decide
  obtain ⟨n1,n2,n3,n4q,n5,n6⟩:=hNe
  cases r with
  | nil=>
    have hr:chR ([d,w].map aL) = ⟨0,uk (aL d), .empty,zHu⟩:=by simp [chR]
    rw [hr]
    generalize uk (aL d) = D at *
    refine aa _ ?_
    simp [tv]
    refine af.pure j8 (q1 _) ?_
    simp [ChM.v,ChM.cells,zHu]
  | cons n r=>
  cases r with
  | nil=>
    rcases Decidable.em (w = zE) with hw | hw
    · subst hw
      have q2:=gI [n] (by simp) (fun x hx=>hz x (by simp at hx; simp [hx]))
      have hr:chR ([d,zE,n].map aL) = ⟨1,uk (aL d), .empty,xA [aL n]⟩:=by simp [chR,raq]
      rw [hr]
      simp only [List.map_cons,List.map_nil] at q2
      generalize xA [aL n] = T at *
      generalize uk (aL d) = D at *
      obtain ⟨t1,t2,t3,t4,t5,t6,t7⟩:=T
      simp only [HuM.v,HuM.cells] at q2
      refine aa _ ?_
      simp [tv,eaq,etq,es]
      refine af.pure j8 (q1 _) ?_
      simp [nmd]
      refine af.pure zF (q2 _) ?_
      simp [ChM.v,ChM.cells]
    rcases Decidable.em (w = sx) with hw2 | hw2
    · subst hw2
      have hr:chR ([d,sx,n].map aL) = ⟨2,uk (aL d),n,zHu⟩:=by simp [chR,raq,rt,cU,n3]
      rw [hr]
      generalize uk (aL d) = D at *
      refine aa _ ?_
      simp [tv,eaq,etq,es]
      refine af.pure j8 (q1 _) ?_
      simp [nmd,n3,ChM.v,ChM.cells,zHu]
    · have hr:chR ([d,w,n].map aL) = ⟨0,uk (aL d), .empty,zHu⟩:=by simp [chR,raq,rt,hw,hw2]
      rw [hr]
      generalize uk (aL d) = D at *
      refine aa _ ?_
      simp [tv,eaq,etq,es]
      refine af.pure j8 (q1 _) ?_
      simp [nmd,hw,hw2,ChM.v,ChM.cells,zHu]
  | cons m r=>
    have hl6:r.length ≤ 6000:=by simp at hl; omega
    have hN:((r.length:Int) + 1 + 1 + 1 + 1).toNat = r.length + 4:=by omega
    have hTk:∀ w:ab,List.take (r.length + 4) (ab.str d :: w :: ab.str n :: ab.str m :: List.map ab.str r) = ab.str d :: w :: ab.str n :: ab.str m :: List.map ab.str r:=fun w=>List.take_of_length_le (by simp)
    have h0I:(0:Int) < (r.length:Int) + 1 + 1 + 1 + 1:=by omega
    have h1I:(1:Int) < (r.length:Int) + 1 + 1 + 1 + 1:=by omega
    have h2J:(2:Int) ≤ (r.length:Int) + 1 + 1 + 1 + 1:=by omega
    have h3J:(3:Int) ≤ (r.length:Int) + 1 + 1 + 1 + 1:=by omega
    have h2I:(2:Int) < (r.length:Int) + 1 + 1 + 1 + 1:=by omega
    have h3I:(3:Int) < (r.length:Int) + 1 + 1 + 1 + 1:=by omega
    have h3E:¬ ((r.length:Int) + 1 + 1 + 1 + 1 = 3):=by omega
    rcases Decidable.em (w = zE) with hw | hw
    · subst hw
      have q2:=gI (n :: m :: r) (by simp at hl ⊢; omega) (fun x hx=>hz x (by simp at hx ⊢; rcases hx with h | h | h <;> simp [h]))
      have hr:chR ((d :: zE :: n :: m :: r).map aL) = ⟨1,uk (aL d), .empty,xA ((n :: m :: r).map aL)⟩:=by simp [chR,raq]
      rw [hr]
      generalize xA ((n :: m :: r).map aL) = T at *
      generalize uk (aL d) = D at *
      obtain ⟨t1,t2,t3,t4,t5,t6,t7⟩:=T
      simp only [HuM.v,HuM.cells,List.map_cons] at q2
      refine aa _ ?_
      simp [tv,eaq,etq,es,h0I]
      refine af.pure j8 (q1 _) ?_
      simp [nmd,h1I,h2I,h2J,h3I,h3J,h3E,hN,hTk]
      refine af.pure zF (q2 _) ?_
      simp [ChM.v,ChM.cells]
    rcases Decidable.em (w = sX) with hw2 | hw2
    · subst hw2
      have q2:=gI (m :: r) (by simp at hl ⊢; omega) (fun x hx=>hz x (by simp at hx ⊢; rcases hx with h | h <;> simp [h]))
      have hr:chR ((d :: sX :: n :: m :: r).map aL) = ⟨3,uk (aL d),n,xA ((m :: r).map aL)⟩:=by simp [chR,raq,rs,n5,cU]
      rw [hr]
      generalize xA ((m :: r).map aL) = T at *
      generalize uk (aL d) = D at *
      obtain ⟨t1,t2,t3,t4,t5,t6,t7⟩:=T
      simp only [HuM.v,HuM.cells,List.map_cons] at q2
      refine aa _ ?_
      simp [tv,eaq,etq,es,h0I]
      refine af.pure j8 (q1 _) ?_
      simp [nmd,n5,n6,h1I,h2I,h2J,h3I,h3J,h3E,hN,hTk]
      refine ⟨_,fun σ' _=>aB.func zF (q2 σ'), ?_⟩
      simp [ChM.v,ChM.cells]
    · have hr:chR ((d :: w :: n :: m :: r).map aL) = ⟨0,uk (aL d), .empty,zHu⟩:=by simp [chR,raq,rs,hw,hw2]
      rw [hr]
      generalize uk (aL d) = D at *
      refine aa _ ?_
      simp [tv,eaq,etq,es,h0I]
      refine af.pure j8 (q1 _) ?_
      simp [nmd,hw,hw2,h1I,h2I,h2J,h3I,h3J,h3E,hN,hTk,ChM.v,ChM.cells,zHu]
set_option maxRecDepth 100000
set_option maxHeartbeats 1000000
theorem qf (l:List Wd):(xA l).on.length ≤ l.length:=by
  unfold xA
  split
  · simp; omega
  · simp [zHu]
theorem AU (l:List Wd):(chR l).part.on.length ≤ l.length:=by
  unfold chR
  split
  · simp [zHu]
  · rename_i d r
    split
    · have:=qf r.tail; simp at this ⊢; omega
    split
    · simp [zHu]
    split
    · have:=qf r.tail.tail; simp at this ⊢; omega
    · simp [zHu]
theorem iX:∀ l:List Wd,(l.map bytes).map aL = l
  | []=>rfl
  | a :: l=>by rw [List.map_cons,List.map_cons,fL,iX l]
theorem rB (s:ByteArray) (σ:ag):Spec Tryz.prog BL [.str s] σ fun r σ'=>r = .ret (gH s) ∧ σ' = σ:=by
  refine Spec.aC (FC (by simp) ?_) rfl (zK s) σ
  by_cases h6:6000 < s.size
  · have hv:gH s = .tup [eU,ii' 3]:=by unfold gH; rw [if_pos h6]
    have h6I:(6000:Int) < s.size:=by omega
    rw [hv]
    refine aa _ ?_
    simp [A2,h6I,eU]
  have hv:gH s = match oF (aL s) with
    | some p=>.tup [p.v,ii' 0]
    | none=>.tup [eU,ii' 6]:=by unfold gH; rw [if_neg h6,yw]; cases oF (aL s) <;> rfl
  have h6I:¬ (6000:Int) < s.size:=by omega
  have qc:=nC s 10 (by omega)
  have hcl:=vq 10 (aL s)
  rw [wj] at hcl
  have hnx:cutAt 10 (aL s) ≠ []:=ki _ _
  have hrr:p7 (aL s) = nP (cutAt 10 (aL s)) ⟨[],[]⟩:=rfl
  generalize cutAt 10 (aL s) = R at *
  have hR0:1 ≤ R.length:=List.length_pos_iff.2 hnx
  have u10:((10:UInt8).toNat:Int) = 10:=rfl
  have u32:((32:UInt8).toNat:Int) = 32:=rfl
  rw [u10] at qc
  have e1:(⟨#[112,97,114,116]⟩:ByteArray) = kZ:=rfl
  refine aa _ ?_
  simp [A2,h6I]
  refine af.pure Bd (qc _) ?_
  simp
  refine AW.loop (ι:=Nat) (fun i fr σ=>∃ (p:ar) (q1 q2:Nat) (t:ag),fr = { v:=[(0, .str s),(2, .ptr 0 0),(4, .ptr 3 0),(5, .slice 1 (R.map fun w=>.str (bytes w))),(6, .int .i64 i)],ds:=[] } ∧
    σ = .box [.slice 7 [], .slice 10 []] :: .spare 7 q1 :: .spare 10 q2 :: .box [.oslice 7 (p.ship.map HuM.v) 1 q1, .oslice 10 (p.chs.map ChM.v) 2 q2] :: t ∧ i + 1 ≤ R.length ∧ p.ship.length ≤ i ∧ p.chs.length ≤ i ∧ (∀ y ∈ p.ship,y.on.length ≤ 10000) ∧ (∀ c ∈ p.chs,c.part.on.length ≤ 10000) ∧ nP (R.drop i) p = p7 (aL s)) (fun i=>R.length - i) 0 ⟨⟨[],[]⟩,0,0,[],by simp,by simp,by omega,by simp,by simp,by simp,by simp,by rw [List.drop_zero,hrr]⟩ ?_
  rintro i fr σ ⟨⟨l,cs⟩,q1,q2,t,rfl,rfl,hi,hl,hc,hon,hcon,hco⟩
  dsimp only at hl hc hon hcon ⊢
  refine (Nat.lt_or_ge (i + 1) R.length).elim (fun hlt=>?_) (fun hge=>?_)
  · have hd:=List.drop_eq_getElem_cons (l:=R) (i:=i) (by omega)
    have hd2:=List.drop_eq_getElem_cons (l:=R) (i:=i + 1) hlt
    rw [hd,hd2] at hco
    simp only [nP] at hco
    rw [← hd2] at hco
    have hrm:R[i]'(by omega) ∈ R:=List.getElem_mem _
    obtain ⟨r,hr⟩:∃ r,R[i]'(by omega) = r:=⟨_,rfl⟩
    rw [hr] at hrm hco
    have hr6:=hcl.2 r hrm
    have hiN:i < R.length:=by omega
    have hltI:(i:Int) + 1 < R.length:=by omega
    have hr2:∀ h:i < R.length,R[i]'h = r:=fun _=>hr
    have hr':R[i]? = some r:=by rw [List.getElem?_eq_getElem hiN,hr]
    have qwq:=nC (bytes r) 32 (by rw [sh]; omega)
    rw [fL,u32] at qwq
    have hcw:=vq 32 r
    have hnw:=ki 32 r
    generalize cutAt 32 r = ws at *
    cases ws with
    | nil=>exact absurd rfl hnw
    | cons w0 wr=>
    have hwl:wr.length ≤ 6000:=by have:=hcw.1; simp at this; omega
    have hwz:∀ n ∈ (w0 :: wr).map bytes,n.size ≤ 6000:=fun n hn=>by
      obtain ⟨w,hw,rfl⟩:=List.mem_map.1 hn
      rw [sh]
      have:=hcw.2 w hw
      omega
    have hwi:IntKind.i64.wrap ((i:Int) + 1) = ((i + 1:Nat):Int):=by rw [aj (by omega) (by omega)]; simp
    have hwi2:IntKind.i64.wrap ((i:Int) + 1) = (i:Int) + 1:=aj (by omega) (by omega)
    have hTk:List.take wr.length (wr.map fun w=>ab.str (bytes w)) = wr.map fun w=>ab.str (bytes w):=List.take_of_length_le (by simp)
    have hpi:bytes w0 = kZ ↔ w0 = lR:=⟨fun h=>by rw [← fL w0,h]; rfl,fun h=>by rw [h]; rfl⟩
    rcases Decidable.em (w0 = lR) with hw0 | hw0
    · have hrow:yg (w0 :: wr) ⟨l,cs⟩ = ⟨l ++ [xA wr],cs⟩:=by unfold yg; rw [hw0]; simp
      rw [hrow] at hco
      have q2:=gI (wr.map bytes) (by simp; omega) (fun n hn=>hwz n (by simp at hn ⊢; exact .inr hn))
      rw [iX,List.map_map] at q2
      have hto:=qf wr
      have hft:=HuM.fits [xA wr]
      have hb0:=hpi.2 hw0
      generalize xA wr = T at *
      simp only [List.map_cons,List.map_nil,HuM.v,HuM.cells] at hft q2
      refine aa _ ?_
      simp [hltI,hwi2,hiN,hr2]
      refine af.pure Bd (qwq _) ?_
      simp [e1,hb0,hTk]
      refine ⟨by omega,[], ?_⟩
      refine af.pure zF (q2 _) ?_
      simp [hft,hwi2]
      refine ⟨by omega,i + 1,by omega,by simp,⟨l ++ [T],cs⟩,⟨by simp [HuM.v,HuM.cells],rfl⟩,by omega,by simp; omega,by dsimp only; omega,fun y hy=>?_,hcon,hco⟩
      rcases List.mem_append.1 hy with h | h
      · exact hon y h
      · rw [List.mem_singleton.1 h]; omega
    · have hrow:yg (w0 :: wr) ⟨l,cs⟩ = ⟨l,cs ++ [chR (w0 :: wr)]⟩:=by unfold yg; rw [if_neg (by simpa using hw0)]
      rw [hrow] at hco
      have q2:=pS (bytes w0) (wr.map bytes) (by simp; omega) (fun n hn=>hwz n (by simpa using hn))
      rw [← List.map_cons,iX,List.map_map] at q2
      have hto:=AU (w0 :: wr)
      have hft:=ChM.fits [chR (w0 :: wr)]
      have hb0:¬ bytes w0 = kZ:=fun h=>hw0 (hpi.1 h)
      generalize chR (w0 :: wr) = T at *
      simp only [List.map_cons,List.map_nil,ChM.v,ChM.cells] at hft q2
      refine aa _ ?_
      simp [hltI,hwi2,hiN,hr2]
      refine af.pure Bd (qwq _) ?_
      simp [nmd,e1,hb0]
      refine ⟨[], ?_⟩
      refine af.pure E2 (q2 _) ?_
      simp [hft,hwi2]
      refine ⟨by omega,i + 1,by omega,by simp,⟨l,cs ++ [T]⟩,⟨rfl,by simp [ChM.v,ChM.cells]⟩,by omega,by dsimp only; omega,by simp; omega,hon,fun y hy=>?_,hco⟩
      rcases List.mem_append.1 hy with h | h
      · exact hcon y h
      · rw [List.mem_singleton.1 h]; simp at hto; omega
  · have hie:R.length = i + 1:=by omega
    have hdr:R.drop i = [R[i]'(by omega)]:=by rw [List.drop_eq_getElem_cons (by omega),List.drop_eq_nil_of_le (by omega)]
    rw [hdr] at hco
    simp only [nP] at hco
    have hltI:¬ (i:Int) + 1 < R.length:=by omega
    have hwi2:IntKind.i64.wrap ((i:Int) + 1) = (i:Int) + 1:=aj (by omega) (by omega)
    have hfr:gO ⟨l,cs⟩:=⟨⟨by simp only [maxLen]; omega,fun y hy=>by have:=hon y hy; simp only [maxLen]; omega,by simp only [maxLen]; omega,fun c hc=>by have:=hcon c hc; simp only [maxLen]; omega⟩,fun c hc=>by have:=hcon c hc; omega⟩
    have qk:=fg l cs hfr
    have hpo:=cF ⟨l,cs⟩
    rcases Decidable.em ((bL ⟨l,cs⟩).2.2 = 0) with hz | hz
    rotate_left
    · have hrv:gH s = .tup [eU,ii' 6]:=by
        have hnk:okB ⟨l,cs⟩ = false:=by unfold okB; simpa using hz
        rw [hv]; unfold oF; rw [← hco]; simp only [hnk,Bool.false_and]; rfl
      rw [hrv]
      generalize bL ⟨l,cs⟩ = T at *
      obtain ⟨t1,t2,t3⟩:=T
      simp only [dc] at qk hz
      refine aa _ ?_
      simp [hltI,hwi2]
      refine af.pure uA (qk _) ?_
      simp [hz,eU]
    have hok:=hpo.1 hz
    have htx:=lT ⟨l,cs⟩ (oL hok)
    simp only [ar.v,ar.cells] at htx
    have hbt:bytes (fY ⟨l,cs⟩) = s ↔ fY ⟨l,cs⟩ = aL s:=⟨fun h=>by rw [← h,fL],fun h=>by rw [h,cU]⟩
    rcases Decidable.em (fY ⟨l,cs⟩ = aL s) with ht | ht
    · have hrv:gH s = .tup [(⟨l,cs⟩:ar).v,ii' 0]:=by rw [hv,(ov _ _).2 ⟨hok,ht⟩]
      have hbe:=hbt.2 ht
      rw [hrv]
      rw [hbe] at htx
      clear hpo hok
      generalize bL ⟨l,cs⟩ = T at *
      obtain ⟨t1,t2,t3⟩:=T
      simp only [dc] at qk hz
      subst hz
      refine aa _ ?_
      simp [hltI,hwi2]
      refine af.pure uA (qk _) ?_
      simp
      refine af.pure Ag (htx _) ?_
      simp [ar.v,ar.cells]
    · have hbe:¬ bytes (fY ⟨l,cs⟩) = s:=fun h=>ht (hbt.1 h)
      have hrv:gH s = .tup [eU,ii' 6]:=by
        rw [hv]; unfold oF; rw [← hco]
        rw [if_neg (by simp [ht])]
      rw [hrv]
      clear hpo hok
      generalize bL ⟨l,cs⟩ = T at *
      obtain ⟨t1,t2,t3⟩:=T
      simp only [dc] at qk hz
      subst hz
      refine aa _ ?_
      simp [hltI,hwi2]
      refine af.pure uA (qk _) ?_
      simp
      refine af.pure Ag (htx _) ?_
      simp [nmd,hbe,eU]
end Go.AM
