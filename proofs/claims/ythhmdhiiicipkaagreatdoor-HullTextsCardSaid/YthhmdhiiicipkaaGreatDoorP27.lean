/- Lists and parts that are compared. The text of a plan: of the program. The text of a plan: of the program, joined. Words of a line that is read: of the program. A part that is read: of the program. A change that is read: of the program. -/
import Derived.Test.YthhmdhiiicipkaaGreatDoorP26
import Derived.Test.YthhmdhiiicipkaaGreatDoorP25
import Derived.Test.YthhmdhiiicipkaaGreatDoorP23
import Derived.Test.YthhmdhiiicipkaaGreatDoorP21
namespace Go.AM
open Go.Proofs
set_option maxRecDepth 100000
set_option maxHeartbeats 1000000
theorem nm {a b:List ByteArray} {i:Nat} (h1:i < a.length) (h2:i < b.length) (h:a.take i = b.take i):a.take (i + 1) = b.take (i + 1) ↔ a[i] = b[i]:=by
  rw [List.take_succ_eq_append_getElem h1,List.take_succ_eq_append_getElem h2,h]
  exact ⟨fun e=>by simpa using List.append_cancel_left e,fun e=>by rw [e]⟩
theorem gh (a b:List ByteArray) (ha:a.length ≤ maxLen) (σ:ag) :
    Spec Tryz.prog E7 [.slice 1 (a.map .str), .slice 1 (b.map .str)] σ fun r σ'=>r = .ret (.bool (decide (a = b))) ∧ σ' = σ:=by
  refine Spec.aC (Mq (by simp) (aa _ ?_)) (by simp [aA,ab.pure,ah (f:=ab.str) (fun _=>rfl)]) rfl σ
  simp [KL]
  refine AW.loop (ι:=Nat) (fun i fr σ=>∃ s:Bool,fr = { v:=[(0, .slice 1 (a.map .str)),(1, .slice 1 (b.map .str)),(5, .bool s),(6, .int .i64 i)],ds:=[] } ∧ i ≤ a.length ∧ (s = true → a.length = b.length ∧ a.take i = b.take i) ∧ (s = false → a ≠ b)) (fun i=>a.length - i) 0 ⟨_,by simp; rfl,by omega,fun h=>⟨by simp at h; omega,by simp⟩,fun h e=>by subst e; simp at h⟩ ?_
  rintro i fr σ ⟨s,rfl,hi,h1,h2⟩
  cases s with
  | false=>
    have h3:=h2 rfl
    refine aa _ ?_
    simp [h3]
  | true=>
    obtain ⟨hl,ht⟩:=h1 rfl
    refine (Nat.lt_or_ge i a.length).elim (fun hlt=>?_) (fun hge=>?_)
    · have hlb:i < b.length:=by omega
      obtain ⟨x,hx⟩:∃ x,a[i] = x:=⟨_,rfl⟩
      obtain ⟨y,hy⟩:∃ y,b[i] = y:=⟨_,rfl⟩
      have hst:=nm hlt hlb ht
      rw [hx,hy] at hst
      have hw:IntKind.i64.wrap ((i:Int) + 1) = ((i + 1:Nat):Int):=by rw [aj (by omega) (by simp only [maxLen] at ha; omega)]; simp
      by_cases hxy:x = y
      · refine aa _ ?_
        simp [hlt,hlb,hx,hy,hw,hxy]
        exact ⟨i + 1,by omega,by simp,by omega,hl,hst.2 hxy⟩
      · have hab:a ≠ b:=fun e=>by subst e; exact hxy (hx.symm.trans hy)
        refine aa _ ?_
        simp [hlt,hlb,hx,hy,nmd,hw,hxy]
        exact ⟨i + 1,by omega,by simp,by omega,hab⟩
    · have hab:a = b:=by
        rw [List.take_of_length_le hge,List.take_of_length_le (by omega)] at ht; exact ht
      refine aa _ ?_
      simp [show ¬ i < b.length by omega,hab]
theorem px (a b:List ByteArray) (ha:a.length ≤ maxLen) (σ:ag) :
    Spec Tryz.prog GL [.slice 1 (a.map .str), .slice 1 (b.map .str)] σ fun r σ'=>r = .ret (.bool (decide (a = b))) ∧ σ' = σ:=by
  refine Spec.aC (Lj (by simp) (aa _ ?_)) (by simp [aA,ab.pure,ah (f:=ab.str) (fun _=>rfl)]) rfl σ
  by_cases hl:a.length = b.length
  rotate_left
  · have hlI:¬ (a.length:Int) = b.length:=by omega
    have hlB:((a.length:Int) == b.length) = false:=by rw [beq_eq_false_iff_ne]; exact hlI
    have hab:a ≠ b:=fun e=>hl (by rw [e])
    simp [Ic,hlI,hab]
  have hlB:((a.length:Int) == b.length) = true:=by rw [beq_iff_eq]; omega
  simp [Ic,hl]
  refine AW.loop (ι:=Nat) (fun i fr σ=>fr = { v:=[(0, .slice 1 (a.map .str)),(1, .slice 1 (b.map .str)),(12, .int .i64 b.length),(13, .int .i64 i)],ds:=[] } ∧ i ≤ b.length ∧ a.take i = b.take i) (fun i=>b.length - i) 0 ⟨by simp,by omega,by simp⟩ ?_
  rintro i fr σ ⟨rfl,hi,ht⟩
  refine (Nat.lt_or_ge i b.length).elim (fun hlb=>?_) (fun hge=>?_)
  · have hlt:i < a.length:=by omega
    obtain ⟨x,hx⟩:∃ x,a[i] = x:=⟨_,rfl⟩
    obtain ⟨y,hy⟩:∃ y,b[i] = y:=⟨_,rfl⟩
    have hst:=nm hlt hlb ht
    rw [hx,hy] at hst
    have hw:IntKind.i64.wrap ((i:Int) + 1) = ((i + 1:Nat):Int):=by rw [aj (by omega) (by simp only [maxLen] at ha; omega)]; simp
    by_cases hxy:x = y
    · have h3:=hst.2 hxy
      refine aa _ ?_
      simp [hlt,hlb,hx,hy,hw,hxy]
      exact ⟨i + 1,by omega,by simp,by omega,h3⟩
    · have hab:a ≠ b:=fun e=>by subst e; exact hxy (hx.symm.trans hy)
      refine aa _ ?_
      simp [hlt,hlb,hx,hy,nmd,hw,hxy,hab]
  · have hab:a = b:=by
      rw [List.take_of_length_le (by omega),List.take_of_length_le (by omega)] at ht; exact ht
    refine aa _ ?_
    simp [show ¬ i < b.length by omega,hab]
theorem j5 (l:List Int) (hl:l.length ≤ maxLen) (σ:ag):Spec Tryz.prog HT [.slice 1 (l.map ii'), .slice 1 (l.map ii')] σ fun r σ'=>r = .ret (.bool true) ∧ σ' = σ:=by
  refine Spec.aC (LL (by simp) (aa _ ?_)) (by simp [ah (f:=ii') (fun _=>rfl) l]) rfl σ
  simp [IX]
  refine AW.loop (ι:=Nat) (fun i fr σ=>fr = { v:=[(0, .slice 1 (l.map ii')),(1, .slice 1 (l.map ii')),(5, .bool true),(6, .int .i64 i)],ds:=[] } ∧ i ≤ l.length) (fun i=>l.length - i) 0 (by simp) ?_
  rintro i fr σ ⟨rfl,hi⟩
  refine (Nat.lt_or_ge i l.length).elim (fun hlt=>?_) (fun hge=>?_)
  · obtain ⟨x,hx⟩:∃ x,l[i] = x:=⟨_,rfl⟩
    refine aa _ ?_
    simp [hlt,hx]
    exact ⟨i + 1,by omega,aj (by omega) (by simp only [maxLen] at hl; omega),by omega⟩
  · refine aa _ ?_
    simp [show ¬ i < l.length by omega]
def uL (a b:HuM):Bool:=decide (a.name = b.name) && decide (a.kind = b.kind) && decide (a.first = b.first) && decide (a.last = b.last) && (decide (a.lo = b.lo) && decide (a.hi = b.hi)) && decide (a.on = b.on)
theorem tS (a b:HuM):uL a b = true ↔ a = b:=by
  unfold uL
  simp only [Bool.and_eq_true,decide_eq_true_eq]
  constructor
  · rintro ⟨⟨⟨⟨⟨h1,h2⟩,h3⟩,h4⟩,h5,h6⟩,h7⟩
    cases a; cases b
    simp_all
  · rintro rfl; simp
theorem kE (a b:HuM) (ha:a.on.length ≤ maxLen) (σ:ag):Spec Tryz.prog Hs [a.v,b.v] σ fun r σ'=>r = .ret (.bool (uL a b)) ∧ σ' = σ:=by
  refine Spec.aC (Li (by simp) ?_) (by simp [aA,a.pure,b.pure]) rfl σ
  have hw:=gh a.on b.on ha
  unfold uL
  by_cases h1:a.name = b.name
  rotate_left
  · refine aa _ ?_
    simp [xV,HuM.v,HuM.cells,nmd,h1]
    done
  by_cases h2:a.kind = b.kind
  rotate_left
  · refine aa _ ?_
    simp [xV,HuM.v,HuM.cells,h1,h2]
    done
  by_cases h3:a.first = b.first
  rotate_left
  · refine aa _ ?_
    simp [xV,HuM.v,HuM.cells,h1,h2,h3]
    done
  by_cases h4:a.last = b.last
  rotate_left
  · refine aa _ ?_
    simp [xV,HuM.v,HuM.cells,h1,h2,h3,h4]
    done
  by_cases h5:a.lo = b.lo
  rotate_left
  · refine aa _ ?_
    simp [xV,HuM.v,HuM.cells,h1,h2,h3,h4,h5]
    done
  by_cases h6:a.hi = b.hi
  rotate_left
  · refine aa _ ?_
    simp [xV,HuM.v,HuM.cells,h1,h2,h3,h4,h5,h6]
    done
  refine aa _ ?_
  simp [xV,HuM.v,HuM.cells,h1,h2,h3,h4,h5,h6]
  refine af.pure pD (hw _) ?_
  simp
theorem eG (l:List HuM) (hl:l.length ≤ maxLen) (hn:∀ x ∈ l,x.on.length ≤ maxLen) (σ:ag):Spec Tryz.prog HS [.slice 7 (l.map HuM.v), .slice 7 (l.map HuM.v)] σ fun r σ'=>r = .ret (.bool true) ∧ σ' = σ:=by
  refine Spec.aC (Oe (by simp) (aa _ ?_)) (by simp [aA,ab.pure,ah (f:=HuM.v) (fun p=>p.pure) l]) rfl σ
  simp [K8]
  refine AW.loop (ι:=Nat) (fun i fr σ=>fr = { v:=[(0, .slice 7 (l.map HuM.v)),(1, .slice 7 (l.map HuM.v)),(5, .bool true),(6, .int .i64 i)],ds:=[] } ∧ i ≤ l.length) (fun i=>l.length - i) 0 (by simp) ?_
  rintro i fr σ ⟨rfl,hi⟩
  refine (Nat.lt_or_ge i l.length).elim (fun hlt=>?_) (fun hge=>?_)
  · obtain ⟨x,hx⟩:∃ x,l[i] = x:=⟨_,rfl⟩
    have he:=kE x x (hn x (hx ▸ List.getElem_mem _))
    rw [(tS x x).2 rfl] at he
    simp only [HuM.v,HuM.cells] at he
    refine aa _ ?_
    simp [hlt,hx,HuM.v,HuM.cells]
    refine ⟨.bool true,fun σ' _=>aB.func Du (he σ'), ?_⟩
    simp
    exact ⟨i + 1,by omega,aj (by omega) (by simp only [maxLen] at hl; omega),by omega⟩
  · refine aa _ ?_
    simp [show ¬ i < l.length by omega]
theorem nz (ps:List HuM) (cs:List ChM) (hl:ps.length ≤ maxLen) (hn:∀ x ∈ ps,x.on.length ≤ maxLen) (hcl:cs.length ≤ maxLen) (hc:∀ c ∈ cs,c.part.on.length ≤ maxLen) (σ:ag) :
    Spec Tryz.prog HQ [.agg [.slice 7 (ps.map HuM.v), .slice 10 (cs.map ChM.v)], .agg [.slice 7 (ps.map HuM.v), .slice 10 (cs.map ChM.v)]] σ fun r σ'=>r = .ret (.bool true) ∧ σ' = σ:=by
  refine Spec.aC (Ng (by simp) (aa _ ?_)) (by simp [aA,ab.pure,ah (f:=HuM.v) (fun p=>p.pure) ps,ah (f:=ChM.v) (fun c=>c.pure) cs]) rfl σ
  simp [IN]
  refine af.pure sU (eG ps hl hn _) ?_
  simp
  refine AW.loop (ι:=Nat) (fun i fr σ=>fr = { v:=[(2, .pval (.agg [.slice 7 (ps.map HuM.v), .slice 10 (cs.map ChM.v)])),(3, .pval (.agg [.slice 7 (ps.map HuM.v), .slice 10 (cs.map ChM.v)])),(5, .bool true),(6, .int .i64 i)],ds:=[] } ∧ i ≤ cs.length) (fun i=>cs.length - i) 0 (by simp) ?_
  rintro i fr σ ⟨rfl,hi⟩
  refine (Nat.lt_or_ge i cs.length).elim (fun hlt=>?_) (fun hge=>?_)
  · obtain ⟨c,hx⟩:∃ x,cs[i] = x:=⟨_,rfl⟩
    have he:=kE c.part c.part (hc c (hx ▸ List.getElem_mem _))
    rw [(tS c.part c.part).2 rfl] at he
    simp only [HuM.v,HuM.cells] at he
    refine aa _ ?_
    simp [hlt,hx,ChM.v,ChM.cells]
    refine af.pure Du (he _) ?_
    simp
    exact ⟨i + 1,by omega,aj (by omega) (by simp only [maxLen] at hcl; omega),by omega⟩
  · refine aa _ ?_
    simp [show ¬ i < cs.length by omega]
set_option maxRecDepth 100000
set_option maxHeartbeats 1000000
theorem Dy:(1,Lib.pow10Tab.map fun z=>(IntKind.u64,z)) ∈ dC:=by
  have e:(Lib.pow10Tab.map fun z=>(IntKind.u64,z)) = tP:=by decide
  rw [e]; exact List.mem_cons_self
theorem vb (n:Int) (h0:-9223372036854775808 ≤ n) (h1:n ≤ 9223372036854775807) (σ:ag) :
    Spec Tryz.prog Gm [.int .i64 n] σ fun r σ'=>r = .ret (.str (bytes (Lib.itoa n))) ∧ σ' = σ:=
  Spec.itoa Tryz.Cp (by kernel_rfl) Dy n h0 h1 σ
def spB:ByteArray:=⟨#[32]⟩
theorem Cc (l:List ByteArray) (hN:l.length ≤ 140737488355328) (hlen:(bo 32 (l.map aL)).length ≤ 140737488355328) (σ:ag) :
    Spec Tryz.prog F7 [.slice 1 (l.map .str), .str spB] σ fun r σ'=>r = .ret (.str (bytes (bo 32 (l.map aL)))) ∧ σ' = σ:=by
  have e:Lib.join (l.map fun x=>x.data.toList) spB.data.toList = bo 32 (l.map aL):=Be 32 _
  have:=Spec.join Tryz.Fa Tryz.ow l spB hN (by rw [e]; exact hlen) σ
  unfold Gx at this
  rw [e] at this
  exact this
theorem z8 (b k:Nat) (bs:List UInt8) (y:ByteArray) (σ:ag) (hb:σ[b]? = some (.bld k bs)) (hlen:bs.length + y.size ≤ 140737488355328) :
    Spec Tryz.prog F3 [.ptr b 0, .str y] σ fun r σ'=>r = .ret (.tup [.int .i64 y.size, .niliface]) ∧ σ' = σ.set b (.bld (k + 1) (bs ++ y.data.toList)):=uu b k bs y σ hb hlen
def mh:ByteArray:=⟨#[112,108,97,116,101]⟩
def qF:ByteArray:=⟨#[98,101,97,109]⟩
def jF:ByteArray:=⟨#[101,110,103,105,110,101]⟩
def qS:ByteArray:=⟨#[116,97,110,107]⟩
def qL:ByteArray:=⟨#[112,105,112,101]⟩
def kZ:ByteArray:=⟨#[112,97,114,116]⟩
theorem fp (σ:ag):Spec Tryz.prog C4 [] σ fun r σ'=>r = .ret (.slice 1 [.str mh, .str qF, .str jF, .str qS, .str qL]) ∧ σ' = σ:=by
  refine Spec.aC (IG (by simp) (aa _ ?_)) rfl rfl σ
  simp [Ga]
  exact ⟨rfl,rfl,rfl,rfl,rfl⟩
def iu (x:HuM):List Int:=[x.first,x.last,x.lo,x.hi]
def uE (n:Int):ByteArray:=bytes (Lib.itoa n)
def gE (x:HuM):List ByteArray:=x.name :: bytes (eh x.kind) :: (iu x).map uE ++ x.on
theorem mE (x:HuM):(gE x).map aL = jr x:=by
  simp only [gE,iu,jr,List.map_cons,List.map_nil,uE,fL,List.cons_append,List.nil_append]
theorem Fj {x:HuM} (h:jy x):∀ n ∈ iu x,0 ≤ n ∧ n ≤ 1000000:=by
  obtain ⟨_,h1,h2,h3,h4⟩:=ja h.ok
  intro n hn
  simp only [iu,List.mem_cons,List.not_mem_nil,or_false] at hn
  rcases hn with rfl | rfl | rfl | rfl <;> omega
theorem jt (x:HuM) (hx:jy x) (σ:ag):Spec Tryz.prog Dm [x.v] σ fun r σ'=>r = .ret (.slice 1 ((gE x).map .str)) ∧ σ' = σ:=by
  have hpu:=ah (f:=ab.str) (fun _=>rfl) x.on
  refine Spec.aC (Lf (by simp) ?_) (by simp [aA,x.pure]) (by simp [ab.pure,ah (f:=ab.str) (fun _=>rfl)]) σ
  have hn:=Fj hx
  have hk:=(ja hx.ok).1
  have hol:=hx.len
  obtain ⟨j,hj,hjk⟩:∃ j:Nat,j < 5 ∧ x.kind = j + 1:=⟨(x.kind - 1).toNat,by omega,by omega⟩
  have hwk:IntKind.i64.wrap (x.kind - 1) = j:=by rw [aj (by omega) (by omega)]; omega
  have hkl:∀ h:j < [ab.str mh, .str qF, .str jF, .str qS, .str qL].length,[ab.str mh, .str qF, .str jF, .str qS, .str qL][j] = .str (bytes (eh x.kind)):=fun h=>by
    rw [hjk]
    rcases (by omega:j = 0 ∨ j = 1 ∨ j = 2 ∨ j = 3 ∨ j = 4) with e | e | e | e | e <;> subst e <;> rfl
  have hkl':[ab.str mh, .str qF, .str jF, .str qS, .str qL][j]? = some (.str (bytes (eh x.kind))):=by
    rw [List.getElem?_eq_getElem (by simpa using hj),hkl]
  obtain ⟨K,hK⟩:∃ K,K = [ab.str mh, .str qF, .str jF, .str qS, .str qL]:=⟨_,rfl⟩
  have hKl:K.length = 5:=by rw [hK]; rfl
  have hKp:aA K = true:=by rw [hK]; rfl
  have hki:=fun σ=>fp σ
  rw [← hK] at hkl hkl' hki
  refine aa _ ?_
  simp [FP,HuM.v,HuM.cells]
  refine ⟨.slice 1 K,fun σ'=>aB.func AK (hki σ'), ?_⟩
  simp [hwk,hKl,hkl,hj]
  refine ⟨by omega, ?_⟩
  refine AW.loop (ι:=Nat) (fun i fr σ'=>∃ q t,fr = { v:=[(1, .pval (.agg [.str x.name,ii' x.kind,ii' x.first,ii' x.last, .slice 1 (x.on.map .str),ii' x.lo,ii' x.hi])),(3, .oslice 1 (.str x.name :: .str (bytes (eh x.kind)) :: (((iu x).take i).map uE).map .str) 0 q),(25, .slice 1 ((iu x).map ii')),(26, .int .i64 4),(27, .int .i64 i)],ds:=[] } ∧ σ' = .spare 1 q :: t ∧ i ≤ 4) (fun i=>4 - i) 0 ⟨0,[],by simp [iu],by simp,by omega⟩ ?_
  rintro i fr σ' ⟨q,t,rfl,rfl,hi⟩
  have hnl:(iu x).length = 4:=rfl
  refine (Nat.lt_or_ge i 4).elim (fun hlt=>?_) (fun hge=>?_)
  · obtain ⟨n,hnn⟩:∃ n,(iu x)[i]'(by rw [hnl]; exact hlt) = n:=⟨_,rfl⟩
    have hb:=hn n (hnn ▸ List.getElem_mem _)
    have hltI:(i:Int) < 4:=by omega
    have hit:=vb n (by omega) (by omega)
    have htk:(iu x).take (i + 1) = (iu x).take i ++ [n]:=by rw [List.take_succ_eq_append_getElem (by rw [hnl]; exact hlt),hnn]
    have hwi:IntKind.i64.wrap ((i:Int) + 1) = ((i + 1:Nat):Int):=by rw [aj (by omega) (by omega)]; simp
    have hfit:=gX [bytes (Lib.itoa n)]
    simp at hfit
    obtain ⟨NS,hNS⟩:∃ NS,NS = iu x:=⟨_,rfl⟩
    rw [← hNS] at hnl htk ⊢
    have hnn':NS[i]? = some n:=by rw [hNS,List.getElem?_eq_getElem (by rw [← hNS,hnl]; exact hlt),hnn]
    have hnn2:∀ h:i < NS.length,NS[i] = n:=fun h=>by rw [List.getElem?_eq_getElem h] at hnn'; exact Option.some.inj hnn'
    refine aa _ ?_
    simp [hltI,hlt,hnl,hnn2]
    refine af.pure A8 (hit _) ?_
    simp [hwi,hfit,hnl]
    exact ⟨by omega,i + 1,by omega,q + 1,⟨⟨by rw [← List.map_take, ← List.map_take,htk]; simp [uE],rfl⟩,by simp⟩,rfl,by omega⟩
  · obtain rfl:i = 4:=by omega
    have htk:(iu x).take 4 = iu x:=List.take_of_length_le (by rw [hnl]; omega)
    rw [htk]
    have hfo:=gX x.on
    refine aa _ ?_
    simp [hfo]
    refine ⟨by rw [hnl]; omega, ?_⟩
    simp [gE]
def nlB:ByteArray:=⟨#[10]⟩
theorem mg (ws:List ByteArray) (hws:ws.length ≤ 100) (hl:(bo 32 (ws.map aL)).length ≤ 10000) (b k:Nat) (bs:List UInt8) (hbs:bs.length ≤ 100000) (σ:ag) (hb:σ[b]? = some (.bld k bs)) :
    Spec Tryz.prog vp [.slice 1 (ws.map .str), .ptr b 0] σ fun r σ'=>r = .ret (.tup []) ∧ σ' = σ.set b (.bld (k + 1) (bs ++ eO (ws.map aL))):=by
  have hj:=fun σ=>Cc ws (by omega) (by omega) σ
  have hsz:(bytes (bo 32 (ws.map aL)) ++ nlB).size = (bo 32 (ws.map aL)).length + 1:=by
    rw [ByteArray.size_append]
    simp [bytes,nlB,ByteArray.size]
  have hdt:(bytes (bo 32 (ws.map aL)) ++ nlB).data.toList = eO (ws.map aL):=by
    simp [bytes,nlB,eO]
  have hw:=z8 b k bs (bytes (bo 32 (ws.map aL)) ++ nlB) σ hb (by omega)
  rw [hdt] at hw
  have hbz:(bytes (bo 32 (ws.map aL))).size = (bo 32 (ws.map aL)).length:=by simp [bytes,ByteArray.size]
  refine Ix (by simp) (aa _ ?_)
  simp [Gb]
  refine af.pure KP (hj _) ?_
  simp
  refine ⟨by have e1:(⟨#[10]⟩:ByteArray).size = 1:=rfl
             rw [hbz,e1]; omega, ?_⟩
  refine af.spec JR hw ?_
  rintro r σ' ⟨rfl,rfl⟩
  refine ⟨_,rfl, ?_⟩
  simp
set_option maxRecDepth 100000
set_option maxHeartbeats 1000000
theorem vK {α β:Type} {l:List α} {i:Nat} (f:α → List β) (h:i < l.length):(l.take (i + 1)).flatMap f = (l.take i).flatMap f ++ f l[i]:=by
  rw [List.take_succ_eq_append_getElem h,List.flatMap_append]; simp
theorem pE {α β:Type} (f:α → List β) {m:Nat}:∀ (l:List α),(∀ x ∈ l,(f x).length ≤ m) → (l.flatMap f).length ≤ m * l.length
  | [],_=>by simp
  | a :: l,h=>by
    have h1:=h a (by simp)
    have h2:=pE f l fun x hx=>h x (by simp [hx])
    simp only [List.flatMap_cons,List.length_append,List.length_cons,Nat.mul_add]
    omega
theorem wP {p:ar} (h:Told p):∀ x ∈ p.ship,(eO (de x)).length ≤ 290:=fun _x hx=>vM h _ (List.mem_append.2 (.inl (List.mem_map_of_mem hx)))
theorem y9 {p:ar} (h:Told p):∀ c ∈ p.chs,(eO (chB c)).length ≤ 290:=fun _c hc=>vM h _ (List.mem_append.2 (.inr (List.mem_map_of_mem hc)))
theorem join_le (r:List Wd):(bo 32 r).length ≤ (eO r).length:=by simp [eO]
def zE:ByteArray:=⟨#[97,100,100]⟩
def sx:ByteArray:=⟨#[116,97,107,101]⟩
def sX:ByteArray:=⟨#[115,119,97,112]⟩
theorem af.Bc {P:Program} {f:FuncId} (hb:ak P f = true) {caps args:List ab} {σ:ag} {Q:eP → ag → Prop} {K Kp:ab → ag → Prop} (hs:Spec P f (args ++ caps) σ Q) (h:∀ r σ',Q r σ' → ∃ v,r = .ret v ∧ K v σ') :
    @af P (.func (.func f) [] caps) args σ ⟨K⟩ ⟨Kp⟩:=
  aB.func hb (by simpa using hs.mono fun r σ' hq=>by obtain ⟨v,rfl,hk⟩:=h r σ' hq; exact hk)
theorem lQ (p:ar) (h:Told p) (σ:ag):Spec Tryz.prog Ht [p.v] σ fun r σ'=>r = .ret (.str (bytes (fY p))) ∧ σ' = σ:=by
  refine Spec.aC (NI (by simp) ?_) (by simp [aA,p.pure]) rfl σ
  obtain ⟨l,cs⟩:=p
  have h1:=h.n1
  have h2:=h.n2
  have hsl:=wP h
  have hcl:=y9 h
  have hst:=h.ship
  have hct:=h.chs
  dsimp only at h1 h2 hsl hcl hst hct
  refine aa _ ?_
  simp [JA,ar.v,ar.cells]
  refine AW.loop (ι:=Nat) (fun i fr σ'=>∃ k t,fr = { v:=[(1, .pval (.agg [.slice 7 (l.map HuM.v), .slice 10 (cs.map ChM.v)])),(3, .ptr 0 0),(4, .func (.func vp) [] [.ptr 0 0]),(13, .slice 7 (l.map HuM.v)),(14, .int .i64 l.length),(15, .int .i64 i)],ds:=[] } ∧ σ' = .bld k ((l.take i).flatMap fun x=>eO (de x)) :: t ∧ i ≤ l.length) (fun i=>l.length - i) 0 ⟨0,[],by simp,by simp,by omega⟩ ?_
  rintro i fr σ' ⟨k,t,rfl,rfl,hi⟩
  refine (Nat.lt_or_ge i l.length).elim (fun hlt=>?_) (fun hge=>?_)
  · obtain ⟨x,hx⟩:∃ x,l[i] = x:=⟨_,rfl⟩
    have hxm:x ∈ l:=hx ▸ List.getElem_mem _
    have hxt:=hst x hxm
    have hte:=jt x hxt
    have htl:(gE x).length ≤ 20:=by have:=hxt.len; simp [gE,iu]; omega
    have hbl:((l.take i).flatMap fun x=>eO (de x)).length ≤ 3480:=by
      have:=pE (fun x=>eO (de x)) (m:=290) (l.take i) fun y hy=>hsl y (List.mem_of_mem_take hy)
      simp only [List.length_take] at this; omega
    have hfl:=vK (fun x=>eO (de x)) hlt
    rw [hx] at hfl
    have hli:=fun t=>mg (kZ :: gE x) (by simp; omega) (by
      have:=join_le (de x)
      have e:(kZ :: gE x).map aL = de x:=by rw [List.map_cons,mE]; rfl
      rw [e]; have:=hsl x hxm; omega) 0 k ((l.take i).flatMap fun x=>eO (de x)) (by omega) (.bld k ((l.take i).flatMap fun x=>eO (de x)) :: t) rfl
    have e:(kZ :: gE x).map aL = de x:=by rw [List.map_cons,mE]; rfl
    simp only [e, ← hfl] at hli
    have hwi:IntKind.i64.wrap ((i:Int) + 1) = ((i + 1:Nat):Int):=by rw [aj (by omega) (by omega)]; simp
    have hpv:(⟨#[112,97,114,116]⟩:ByteArray) = kZ:=rfl
    have hfi:=gX (gE x)
    simp only [HuM.v,HuM.cells] at hte
    refine aa _ ?_
    simp [hlt,hx,HuM.v,HuM.cells]
    refine af.pure AE (hte _) ?_
    simp [hfi,hpv]
    refine ⟨by omega, ?_⟩
    refine af.Bc Bf (hli _) ?_
    rintro r σ' ⟨rfl,rfl⟩
    refine ⟨_,rfl, ?_⟩
    simp [hwi]
    exact ⟨i + 1,by omega,by simp,rfl,by omega⟩
  obtain rfl:i = l.length:=by omega
  rw [List.take_length]
  obtain ⟨S,hS⟩:∃ S,(l.flatMap fun x=>eO (de x)) = S:=⟨_,rfl⟩
  have hSl:S.length ≤ 3480:=by
    rw [← hS]
    have:=pE (fun x=>eO (de x)) (m:=290) l hsl
    omega
  have hT:fY ⟨l,cs⟩ = S ++ cs.flatMap fun c=>eO (chB c):=by
    rw [← hS]; unfold fY pq
    simp [List.flatMap_append,List.flatMap_map]
  rw [hS,hT]
  have hnl:¬ l.length < l.length:=by omega
  refine aa _ ?_
  simp [hnl]
  refine AW.loop (ι:=Nat) (fun i fr σ'=>∃ k t,fr = { v:=[(3, .ptr 0 0),(4, .func (.func vp) [] [.ptr 0 0]),(27, .slice 10 (cs.map ChM.v)),(28, .int .i64 cs.length),(29, .int .i64 i)],ds:=[] } ∧ σ' = .bld k (S ++ (cs.take i).flatMap fun c=>eO (chB c)) :: t ∧ i ≤ cs.length) (fun i=>cs.length - i) 0 ⟨k,t,by simp,by simp,by omega⟩ ?_
  rintro i fr σ' ⟨k,t,rfl,rfl,hi⟩
  refine (Nat.lt_or_ge i cs.length).elim (fun hlt=>?_) (fun hge=>?_)
  rotate_left
  · have htk:cs.take i = cs:=List.take_of_length_le (by omega)
    rw [htk]
    refine aa _ ?_
    simp [show ¬ i < cs.length by omega]
    refine af.spec KE (sF 0 k _ _ rfl) ?_
    rintro r σ' ⟨rfl,rfl⟩
    refine ⟨_,rfl, ?_⟩
    simp [bytes]
  obtain ⟨c,hx⟩:∃ x,cs[i] = x:=⟨_,rfl⟩
  have hcm:c ∈ cs:=hx ▸ List.getElem_mem _
  have hct:=hct c hcm
  have hrl:=hcl c hcm
  have hbl:(S ++ (cs.take i).flatMap fun c=>eO (chB c)).length ≤ 9000:=by
    have:=pE (fun c=>eO (chB c)) (m:=290) (cs.take i) fun y hy=>hcl y (List.mem_of_mem_take hy)
    simp only [List.length_take,List.length_append] at this ⊢; omega
  have hfl:=vK (fun c=>eO (chB c)) hlt
  rw [hx] at hfl
  have hwi:IntKind.i64.wrap ((i:Int) + 1) = ((i + 1:Nat):Int):=by rw [aj (by omega) (by omega)]; simp
  have hda:=hct.day
  have hit:=vb c.day (by omega) (by omega)
  have hli:∀ ws:List ByteArray,ws.map aL = chB c → ws.length ≤ 100 → ∀ t,Spec Tryz.prog vp [.slice 1 (ws.map .str), .ptr 0 0] (.bld k (S ++ (cs.take i).flatMap fun c=>eO (chB c)) :: t) fun r σ'=>r = .ret (.tup []) ∧ σ' = .bld (k + 1) (S ++ (cs.take (i + 1)).flatMap fun c=>eO (chB c)) :: t:=fun ws hw hwl t=>by
    have:=mg ws hwl (by rw [hw]; have:=join_le (chB c); omega) 0 k (S ++ (cs.take i).flatMap fun c=>eO (chB c)) (by omega) (.bld k (S ++ (cs.take i).flatMap fun c=>eO (chB c)) :: t) rfl
    rw [hw,List.append_assoc, ← hfl] at this
    exact this
  have hadd:(⟨#[97,100,100]⟩:ByteArray) = zE:=rfl
  have htake:(⟨#[116,97,107,101]⟩:ByteArray) = sx:=rfl
  have hswap:(⟨#[115,119,97,112]⟩:ByteArray) = sX:=rfl
  have hft:=gX (gE c.part)
  rcases hct.what with e | e | e
  · have hpt:=hct.part (by omega)
    have hte:=jt c.part hpt
    have htl:(gE c.part).length ≤ 20:=by have:=hpt.len; simp [gE,iu]; omega
    have hl2:=hli (uE c.day :: zE :: gE c.part) (by
      unfold chB; rw [if_pos e,List.map_cons,List.map_cons,mE]
      simp only [uE,fL]; rfl) (by simp; omega)
    simp only [HuM.v,HuM.cells] at hte
    refine aa _ ?_
    simp [hlt,hx,ChM.v,ChM.cells]
    refine af.pure A8 (hit _) ?_
    simp [e]
    refine af.pure AE (hte _) ?_
    simp [hft,hadd]
    refine ⟨by omega, ?_⟩
    refine af.Bc Bf (hl2 _) ?_
    rintro r σ' ⟨rfl,rfl⟩
    refine ⟨_,rfl, ?_⟩
    simp [hwi]
    exact ⟨i + 1,by omega,by simp,rfl,by omega⟩
  · have hl2:=hli [uE c.day,sx,c.name] (by
      unfold chB; rw [if_neg (by omega),if_pos e]
      simp only [List.map_cons,List.map_nil,uE,fL]; rfl) (by simp)
    refine aa _ ?_
    simp [hlt,hx,ChM.v,ChM.cells]
    refine af.pure A8 (hit _) ?_
    simp [e,htake]
    refine af.Bc Bf (hl2 _) ?_
    rintro r σ' ⟨rfl,rfl⟩
    refine ⟨_,rfl, ?_⟩
    simp [hwi]
    exact ⟨i + 1,by omega,by simp,rfl,by omega⟩
  · have hpt:=hct.part (by omega)
    have hte:=jt c.part hpt
    have htl:(gE c.part).length ≤ 20:=by have:=hpt.len; simp [gE,iu]; omega
    have hl2:=hli (uE c.day :: sX :: c.name :: gE c.part) (by
      unfold chB; rw [if_neg (by omega),if_neg (by omega),List.map_cons,List.map_cons,List.map_cons,mE]
      simp only [uE,fL]; rfl) (by simp; omega)
    simp only [HuM.v,HuM.cells] at hte
    refine aa _ ?_
    simp [hlt,hx,ChM.v,ChM.cells]
    refine af.pure A8 (hit _) ?_
    simp [e,hswap]
    refine ⟨[.slice 1 ((gE c.part).map .str)],af.pure AE (hte _) (by simp),af.pure AE (hte _) (by simp), ?_⟩
    simp [hft]
    refine ⟨by omega,[],[], ?_⟩
    refine af.Bc Bf (hl2 _) ?_
    rintro r σ' ⟨rfl,rfl⟩
    refine ⟨_,rfl, ?_⟩
    simp [hwi]
    exact ⟨i + 1,by omega,by simp,rfl,by omega⟩
def ee (p:ar):ByteArray:=if (bT p).2.2 = 0 then bytes (fY p) else .empty
theorem iB (ps:List HuM) (cs:List ChM) (hf:lJ ⟨ps,cs⟩) (σ:ag) :
    Spec Tryz.prog Ex [.agg [.slice 7 (ps.map HuM.v), .slice 10 (cs.map ChM.v)]] σ fun r σ'=>r = .ret (.tup [.str (ee ⟨ps,cs⟩),ii' (bT ⟨ps,cs⟩).2.2]) ∧ σ' = σ:=by
  refine Spec.aC (Ln (by simp) ?_) (by simp [aA,ab.pure,ah (f:=HuM.v) (fun p=>p.pure) ps,ah (f:=ChM.v) (fun c=>c.pure) cs]) (by simp [ab.pure,aA]) σ
  have hck:=et ps cs hf
  by_cases h:(bT ⟨ps,cs⟩).2.2 = 0
  · have hok:OkP ⟨ps,cs⟩:=(cF _).1 (by rw [← bA]; exact h)
    have htx:=lQ ⟨ps,cs⟩ (oL hok)
    simp only [ar.v,ar.cells] at htx
    have hw:ee ⟨ps,cs⟩ = bytes (fY ⟨ps,cs⟩):=by unfold ee; rw [if_pos h]
    rw [hw]
    refine aa _ ?_
    simp [Hw]
    refine af.pure ue (hck _) ?_
    simp [dc,h]
    refine af.pure GU (htx _) ?_
    simp [h]
  · have hw:ee ⟨ps,cs⟩ = .empty:=by unfold ee; rw [if_neg h]
    rw [hw]
    refine aa _ ?_
    simp [Hw]
    refine af.pure ue (hck _) ?_
    simp [dc,h]
    rfl
set_option maxRecDepth 100000
set_option maxHeartbeats 1000000
def rS:ab:=.iface 30 (ii' 6)
def gy:Option ab → eP
  | some v=>.ret v
  | none=>.pan rS
theorem af.both {P:Program} {f:FuncId} (hb:ak P f = true) {args:List ab} {σ:ag} {Q:eP → ag → Prop} {K Kp:ab → ag → Prop} (hs:Spec P f args σ Q) (h:∀ v σ',Q (.ret v) σ' → K v σ') (hp:∀ v σ',Q (.pan v) σ' → Kp v σ') :
    @af P (.func (.func f) [] []) args σ ⟨K⟩ ⟨Kp⟩:=
  aB.func hb (by simpa using hs.mono (fun r σ' hq=>match r,hq with
    | .ret v,hq=>h v σ' hq
    | .pan v,hq=>hp v σ' hq))
theorem af.pan {P:Program} {f:FuncId} (hb:ak P f = true) {args:List ab} {σ:ag} {v:ab} {Q:ag → Prop} {K Kp:ab → ag → Prop} (hs:Spec P f args σ fun r σ'=>r = .pan v ∧ Q σ') (hp:∀ σ',Q σ' → Kp v σ') :
    @af P (.func (.func f) [] []) args σ ⟨K⟩ ⟨Kp⟩:=
  af.both hb hs (fun _ _ h=>by cases h.1) (fun w σ' h=>by cases h.1; exact hp σ' h.2)
theorem cr (σ:ag):Spec Tryz.prog El [.bool true] σ fun r σ'=>r = .ret (.tup []) ∧ σ' = σ:=by
  refine JI (by simp) (aa _ ?_)
  simp [H7]
theorem cN (σ:ag):Spec Tryz.prog El [.bool false] σ fun r σ'=>r = .pan rS ∧ σ' = σ:=by
  refine JI (by simp) (aa _ ?_)
  simp [H7,rS]
def bM (l:List ByteArray):aQ:=.box [.slice 1 (l.map .str)]
theorem gY (b:Nat) (σ:ag) (hb:σ[b]? = some (bM [])):Spec Tryz.prog DF [.ptr b 0] σ fun r σ'=>r = .pan rS ∧ σ' = σ:=by
  simp only [bM,List.map_nil] at hb
  refine Kk (by simp) (aa _ ?_)
  simp [H2,hb]
  refine af.pan lj (cN _) ?_
  rintro σ' rfl
  simp
theorem bX (n:ByteArray) (r:List ByteArray) (hl:r.length ≤ 100000) (b:Nat) (σ:ag) (hb:σ[b]? = some (bM (n :: r))):Spec Tryz.prog DF [.ptr b 0] σ fun x σ'=>x = .ret (.str n) ∧ σ' = σ.set b (bM r):=by
  simp only [bM,List.map_cons] at hb ⊢
  have h0:(0:Int) < (r.length:Int) + 1:=by omega
  refine Kk (by simp) (aa _ ?_)
  simp [H2,hb,h0]
  refine af.pure lj (cr _) ?_
  simp [hb]
  exact ⟨by omega,by rw [List.take_of_length_le (by simp)]⟩
theorem BE (x:ByteArray) (hx:x.size ≤ 281474976710656) (σ:ag):∃ te,Spec Tryz.prog Gi [.str x] σ fun r σ'=>r = .ret (pk x te) ∧ σ' = σ:=
  ⟨_,Spec.atoi Tryz.CW (by decide) (by decide) x hx σ⟩
def jv (l:List ByteArray):Option Int:=l.head?.bind fun n=>jG (aL n)
theorem l4 {σ:ag} {b:Nat} {o:aQ} (h:σ[b]? = some o):σ.set b o = σ:=by
  obtain ⟨h1,h2⟩:=List.getElem?_eq_some_iff.1 h
  rw [← h2]; exact List.set_getElem_self h1
theorem pM (l:List ByteArray) (hl:l.length ≤ 100000) (hz:∀ n ∈ l,n.size ≤ 100000) (b:Nat) (σ:ag) (hb:σ[b]? = some (bM l)) :
    Spec Tryz.prog A5 [.ptr b 0] σ fun r σ'=>r = gy ((jv l).map ii') ∧ σ' = σ.set b (bM l.tail):=by
  cases l with
  | nil=>
    have hn:=gY b σ hb
    have hs:=l4 hb
    refine Bo (by simp) (aa _ ?_)
    simp [y7]
    refine af.pan nU hn ?_
    rintro σ' rfl
    simp [jv,gy,hs]
  | cons n r=>
    have hn:=bX n r (by simp at hl; omega) b σ hb
    obtain ⟨te,ha⟩:=BE n (by have:=hz n (by simp); omega) (σ.set b (bM r))
    cases hq:Lib.atoiAll n.data.toList with
    | ok v=>
      have hv:pk n te = .tup [ii' v, .niliface]:=by unfold pk; rw [hq]
      have hh:jv (n :: r) = some v:=by simp [jv,jG,aL,hq]
      rw [hv] at ha
      rw [hh]
      refine Bo (by simp) (aa _ ?_)
      simp [y7]
      refine af.spec nU hn ?_
      rintro x σ' ⟨rfl,rfl⟩
      refine ⟨_,rfl, ?_⟩
      simp
      refine af.pure CC ha ?_
      simp
      refine af.pure lj (cr _) ?_
      simp [gy]
    | range=>
      have hv:pk n te = .tup [ii' (Lib.atoiSat n.data.toList), .iface te .undef]:=by unfold pk; rw [hq]
      have hh:jv (n :: r) = none:=by simp [jv,jG,aL,hq]
      rw [hv] at ha
      rw [hh]
      refine Bo (by simp) (aa _ ?_)
      simp [y7]
      refine af.spec nU hn ?_
      rintro x σ' ⟨rfl,rfl⟩
      refine ⟨_,rfl, ?_⟩
      simp
      refine af.pure CC ha ?_
      simp
      refine af.pan lj (cN _) ?_
      rintro σ' rfl
      simp [gy]
    | _=>
      have hv:pk n te = .tup [ii' 0, .iface te .undef]:=by unfold pk; rw [hq]
      have hh:jv (n :: r) = none:=by simp [jv,jG,aL,hq]
      rw [hv] at ha
      rw [hh]
      refine Bo (by simp) (aa _ ?_)
      simp [y7]
      refine af.spec nU hn ?_
      rintro x σ' ⟨rfl,rfl⟩
      refine ⟨_,rfl, ?_⟩
      simp
      refine af.pure CC ha ?_
      simp
      refine af.pan lj (cN _) ?_
      rintro σ' rfl
      simp [gy]
set_option maxRecDepth 100000
set_option maxHeartbeats 1000000
theorem zZ {l:List ByteArray} {v:Int} (h:jv l = some v):∃ w r,l = w :: r ∧ jG (aL w) = some v:=by
  cases l with
  | nil=>simp [jv] at h
  | cons w r=>exact ⟨w,r,rfl,by simpa [jv] using h⟩
theorem lH {w:ByteArray} {r:List ByteArray}:jv (w :: r) = jG (aL w):=by simp [jv]
theorem af.number {l:List ByteArray} (hl:l.length ≤ 100000) (hz:∀ n ∈ l,n.size ≤ 100000) {b:Nat} {σ:ag} (hb:σ[b]? = some (bM l)) {K Kp:ab → ag → Prop}
    (hs:∀ w r v,l = w :: r → jG (aL w) = some v → K (ii' v) (σ.set b (bM r))) (hp:jv l = none → Kp rS (σ.set b (bM l.tail))) :
    @af Tryz.prog (.func (.func A5) [] []) [.ptr b 0] σ ⟨K⟩ ⟨Kp⟩:=by
  have h:=pM l hl hz b σ hb
  cases hv:jv l with
  | none=>
    rw [hv] at h
    refine af.both GC h (fun v σ' h=>nomatch h.1) fun v σ' h=>?_
    obtain ⟨h1,rfl⟩:=h
    cases h1
    exact hp hv
  | some v=>
    rw [hv] at h
    obtain ⟨w,r,e,hw⟩:=zZ hv
    refine af.both GC h (fun x σ' h=>?_) fun x σ' h=>nomatch h.1
    obtain ⟨h1,rfl⟩:=h
    cases h1
    have:=hs w r v e hw
    rw [e]; exact this
def nG:List ByteArray:=[mh,qF,jF,qS,qL]
theorem Bs (k:ByteArray):(∀ v,th (aL k) = some v → bV (fun y:ByteArray=>k.toList == y.toList) nG 0 = v - 1 ∧ 1 ≤ v ∧ v ≤ 5) ∧ (th (aL k) = none → bV (fun y:ByteArray=>k.toList == y.toList) nG 0 < 0):=by
  have e:∀ (s:ByteArray) (j:Int),aL s = eh j → ((k.toList == s.toList) = true ↔ aL k = eh j):=fun s j hs=>by
    rw [cm]
    constructor
    · rintro rfl; exact hs
    · intro h; exact data_inj (h.trans hs.symm)
  have e1:=e mh 1 rfl
  have e2:=e qF 2 rfl
  have e3:=e jF 3 rfl
  have e4:=e qS 4 rfl
  have e5:=e qL 5 rfl
  unfold th
  simp only [nG,bV]
  by_cases h1:aL k = eh 1
  · rw [if_pos (e1.2 h1),if_pos h1]
    exact ⟨fun v hv=>by cases hv; omega,fun h=>by cases h⟩
  rw [if_neg (fun h=>h1 (e1.1 h)),if_neg h1]
  by_cases h2:aL k = eh 2
  · rw [if_pos (e2.2 h2),if_pos h2]
    exact ⟨fun v hv=>by cases hv; omega,fun h=>by cases h⟩
  rw [if_neg (fun h=>h2 (e2.1 h)),if_neg h2]
  by_cases h3:aL k = eh 3
  · rw [if_pos (e3.2 h3),if_pos h3]
    exact ⟨fun v hv=>by cases hv; omega,fun h=>by cases h⟩
  rw [if_neg (fun h=>h3 (e3.1 h)),if_neg h3]
  by_cases h4:aL k = eh 4
  · rw [if_pos (e4.2 h4),if_pos h4]
    exact ⟨fun v hv=>by cases hv; omega,fun h=>by cases h⟩
  rw [if_neg (fun h=>h4 (e4.1 h)),if_neg h4]
  by_cases h5:aL k = eh 5
  · rw [if_pos (e5.2 h5),if_pos h5]
    exact ⟨fun v hv=>by cases hv; omega,fun h=>by cases h⟩
  rw [if_neg (fun h=>h5 (e5.1 h)),if_neg h5]
  exact ⟨fun v hv=>(nomatch hv),fun _=>by omega⟩
theorem wC (l:List ByteArray) (hl:l.length ≤ 10000) (hz:∀ n ∈ l,n.size ≤ 100000) (b:Nat) (σ:ag) (hb:b < σ.length) :
    Spec Tryz.prog CS [.ptr b 0] (σ.set b (bM l)) fun r σ'=>r = gy ((di (l.map aL)).map HuM.v) ∧ ∃ m tl,σ' = σ.set b (bM m) ++ tl:=by
  have g1:∀ (o X:aQ),(σ.set b o ++ [X])[b]? = some o:=fun o X=>by
    rw [List.getElem?_append_left (by simpa using hb),List.getElem?_set_self hb]
  have s1:∀ (o o' X:aQ),(σ.set b o ++ [X]).set b o' = σ.set b o' ++ [X]:=fun o o' X=>by
    rw [List.set_append_left _ _ (by simpa using hb),List.set_set]
  have g2:∀ (o X:aQ),(σ.set b o ++ [X])[σ.length]? = some X:=fun o X=>by
    rw [List.getElem?_append_right (by simp)]; simp
  have s2:∀ (o X Y:aQ),(σ.set b o ++ [X]).set σ.length Y = σ.set b o ++ [Y]:=fun o X Y=>by
    rw [List.set_append_right _ _ (by simp)]; simp
  have hne:¬ b = σ.length:=by omega
  have hne2:¬ σ.length = b:=by omega
  cases l with
  | nil=>
    refine Fe (by simp) (aa _ ?_)
    simp [Dr]
    refine af.pan nU (gY b _ (g1 _ _)) ?_
    rintro σ' rfl
    simp [di,gy]
    exact ⟨_,_,rfl⟩
  | cons n l1=>
  have hl1:l1.length ≤ 10000:=by simp at hl; omega
  cases l1 with
  | nil=>
    refine Fe (by simp) (aa _ ?_)
    simp [Dr]
    refine af.spec nU (bX n _ (by omega) b _ (g1 _ _)) ?_
    rintro r σ' ⟨rfl,rfl⟩
    refine ⟨_,rfl, ?_⟩
    simp [s1,s2]
    refine af.pure AK (fp _) ?_
    simp
    refine af.pan nU (gY b _ (g1 _ _)) ?_
    rintro σ' rfl
    simp [di,gy]
    exact ⟨_,_,rfl⟩
  | cons k l2=>
  have hl2:l2.length ≤ 10000:=by simp at hl1; omega
  have hix:=Bs k
  have hin:=fun σ=>eb nG k (by simp [nG,maxLen]) σ
  have hkl:nG.map ab.str = [.str mh, .str qF, .str jF, .str qS, .str qL]:=rfl
  rw [hkl] at hin
  have hz2:∀ n ∈ l2,n.size ≤ 100000:=fun m hm=>hz m (by simp [hm])
  cases hkd:th (aL k) with
  | none=>
    have hneg:=hix.2 hkd
    have hpn:di ((n :: k :: l2).map aL) = none:=by
      match l2 with
      | []=>rfl
      | [_]=>rfl
      | [_,_]=>rfl
      | [_,_,_]=>rfl
      | _ :: _ :: _ :: _ :: _=>simp [di,hkd]
    have hnn:¬ 0 ≤ bV (fun y:ByteArray=>k.toList == y.toList) nG 0:=by omega
    rw [hpn]
    refine Fe (by simp) (aa _ ?_)
    simp [Dr]
    refine af.spec nU (bX n _ (by simp; omega) b _ (g1 _ _)) ?_
    rintro r σ' ⟨rfl,rfl⟩
    refine ⟨_,rfl, ?_⟩
    simp [s1,s2]
    refine af.pure AK (fp _) ?_
    simp
    refine af.spec nU (bX k _ (by omega) b _ (g1 _ _)) ?_
    rintro r σ' ⟨rfl,rfl⟩
    refine ⟨_,rfl, ?_⟩
    simp [s1]
    refine af.pure Bg (hin _) ?_
    simp [hnn]
    refine af.pan lj (cN _) ?_
    rintro σ' rfl
    simp [gy]
    exact ⟨_,_,rfl⟩
  | some kd=>
  obtain ⟨hi1,hi2⟩:=hix.1 kd hkd
  have hnn:0 ≤ kd - 1:=by omega
  have hk1:1 ≤ kd:=hi2.1
  have hwk:IntKind.i64.wrap (kd - 1 + 1) = kd:=by rw [aj (by omega) (by omega)]; omega
  rw [hi1] at hin
  clear hix hi1
  refine Fe (by simp) (aa _ ?_)
  simp [Dr]
  refine af.spec nU (bX n _ (by simp; omega) b _ (g1 _ _)) ?_
  rintro r σ' ⟨rfl,rfl⟩
  refine ⟨_,rfl, ?_⟩
  simp [s1,s2]
  refine af.pure AK (fp _) ?_
  simp
  refine af.spec nU (bX k _ (by omega) b _ (g1 _ _)) ?_
  rintro r σ' ⟨rfl,rfl⟩
  refine ⟨_,rfl, ?_⟩
  simp [s1]
  refine af.pure Bg (hin _) ?_
  simp [hk1]
  refine af.pure lj (cr _) ?_
  simp [s2]
  refine af.number (by omega) hz2 (g1 _ _) (fun w1 r1 v1 e1 q1=>?_) (fun hno=>?_)
  rotate_left
  · have hpn:di (aL n :: aL k :: l2.map aL) = none:=by
      match l2,hno with
      | [],_=>rfl
      | [_],_=>rfl
      | [_,_],_=>rfl
      | [_,_,_],_=>rfl
      | _ :: _ :: _ :: _ :: _,hno=>rw [lH] at hno; simp [di,hkd,hno]
    simp [hpn,gy,s1]
    exact ⟨_,_,rfl⟩
  have hr1:r1.length ≤ 10000 ∧ ∀ n ∈ r1,n.size ≤ 100000:=⟨by rw [e1] at hl2; simp at hl2; omega,fun n hn=>hz2 n (by rw [e1]; simp [hn])⟩
  simp [s1,s2]
  refine af.number (by omega) hr1.2 (g1 _ _) (fun w2 r2 v2 e2 q2=>?_) (fun hno=>?_)
  rotate_left
  · have hpn:di (aL n :: aL k :: l2.map aL) = none:=by
      rw [e1]
      match r1,hno with
      | [],_=>rfl
      | [_],_=>rfl
      | [_,_],_=>rfl
      | _ :: _ :: _ :: _,hno=>rw [lH] at hno; simp [di,hkd,hno,q1]
    simp [hpn,gy,s1]
    exact ⟨_,_,rfl⟩
  have hr2:r2.length ≤ 10000 ∧ ∀ n ∈ r2,n.size ≤ 100000:=⟨by have:=hr1.1; rw [e2] at this; simp at this; omega,fun n hn=>hr1.2 n (by rw [e2]; simp [hn])⟩
  simp [s1,s2]
  refine af.number (by omega) hr2.2 (g1 _ _) (fun w3 r3 v3 e3 q3=>?_) (fun hno=>?_)
  rotate_left
  · have hpn:di (aL n :: aL k :: l2.map aL) = none:=by
      rw [e1,e2]
      match r2,hno with
      | [],_=>rfl
      | [_],_=>rfl
      | _ :: _ :: _,hno=>rw [lH] at hno; simp [di,hkd,hno,q1,q2]
    simp [hpn,gy,s1]
    exact ⟨_,_,rfl⟩
  have hr3:r3.length ≤ 10000 ∧ ∀ n ∈ r3,n.size ≤ 100000:=⟨by have:=hr2.1; rw [e3] at this; simp at this; omega,fun n hn=>hr2.2 n (by rw [e3]; simp [hn])⟩
  simp [s1,s2]
  refine af.number (by omega) hr3.2 (g1 _ _) (fun w4 r4 v4 e4 q4=>?_) (fun hno=>?_)
  rotate_left
  · have hpn:di (aL n :: aL k :: l2.map aL) = none:=by
      rw [e1,e2,e3]
      match r3,hno with
      | [],_=>rfl
      | _ :: _,hno=>rw [lH] at hno; simp [di,hkd,hno,q1,q2,q3]
    simp [hpn,gy,s1]
    exact ⟨_,_,rfl⟩
  have hps:di (aL n :: aL k :: l2.map aL) = some ⟨n,kd,v1,v2,r4,v3,v4⟩:=by
    rw [e1,e2,e3,e4]
    simp only [List.map_cons,di,hkd,q1,q2,q3,q4,cU,rL]
  simp [s1,g1,s2,hps,gy,bM,HuM.v,HuM.cells]
  exact ⟨by rw [aj (by omega) (by omega)],_,_,rfl⟩
theorem ir (l:List ByteArray) (hl:l.length ≤ 10000) (hz:∀ n ∈ l,n.size ≤ 100000) (b:Nat) (σ:ag) (hb:σ[b]? = some (bM l)) :
    Spec Tryz.prog CS [.ptr b 0] σ fun r σ'=>r = gy ((di (l.map aL)).map HuM.v) ∧ ∃ m tl,σ' = σ.set b (bM m) ++ tl:=by
  have h:=wC l hl hz b σ (List.getElem?_eq_some_iff.1 hb).1
  rw [l4 hb] at h
  exact h
set_option maxRecDepth 100000
set_option maxHeartbeats 1000000
theorem af.part {l:List ByteArray} (hl:l.length ≤ 10000) (hz:∀ n ∈ l,n.size ≤ 100000) {b:Nat} {σ:ag} (hb:σ[b]? = some (bM l)) {K Kp:ab → ag → Prop}
    (hs:∀ x m tl,di (l.map aL) = some x → K x.v (σ.set b (bM m) ++ tl)) (hp:∀ m tl,di (l.map aL) = none → Kp rS (σ.set b (bM m) ++ tl)) :
    @af Tryz.prog (.func (.func CS) [] []) [.ptr b 0] σ ⟨K⟩ ⟨Kp⟩:=by
  have h:=ir l hl hz b σ hb
  cases hv:di (l.map aL) with
  | none=>
    rw [hv] at h
    refine af.both ES h (fun v σ' h=>nomatch h.1) fun v σ' h=>?_
    obtain ⟨h1,m,tl,rfl⟩:=h
    cases h1
    exact hp m tl hv
  | some x=>
    rw [hv] at h
    refine af.both ES h (fun y σ' h=>?_) fun x σ' h=>nomatch h.1
    obtain ⟨h1,m,tl,rfl⟩:=h
    cases h1
    exact hs x m tl hv
theorem af.next {l:List ByteArray} (hl:l.length ≤ 10000) {b:Nat} {σ:ag} (hb:σ[b]? = some (bM l)) {K Kp:ab → ag → Prop}
    (hs:∀ w r,l = w :: r → K (.str w) (σ.set b (bM r))) (hp:l = [] → Kp rS σ) :
    @af Tryz.prog (.func (.func DF) [] []) [.ptr b 0] σ ⟨K⟩ ⟨Kp⟩:=by
  cases l with
  | nil=>exact af.pan nU (gY b σ hb) (by rintro σ' rfl; exact hp rfl)
  | cons w r=>exact af.spec nU (bX w r (by simp at hl; omega) b σ hb) (by rintro x σ' ⟨rfl,rfl⟩; exact ⟨_,rfl,hs w r rfl⟩)
theorem w6 {w s:ByteArray}:aL w = aL s ↔ w = s:=⟨fun h=>data_inj h,fun h=>by rw [h]⟩
theorem sN (l:List ByteArray) (hl:l.length ≤ 10000) (hz:∀ n ∈ l,n.size ≤ 100000) (b:Nat) (σ:ag) (hb:b < σ.length) :
    Spec Tryz.prog CM [.ptr b 0] (σ.set b (bM l)) fun r σ'=>r = gy ((chP (l.map aL)).map ChM.v) ∧ ∃ m tl,σ' = σ.set b (bM m) ++ tl:=by
  have g1:∀ (o X:aQ) (t:ag),(σ.set b o ++ X :: t)[b]? = some o:=fun o X t=>by
    rw [List.getElem?_append_left (by simpa using hb),List.getElem?_set_self hb]
  have s1:∀ (o o' X:aQ) (t:ag),(σ.set b o ++ X :: t).set b o' = σ.set b o' ++ X :: t:=fun o o' X t=>by
    rw [List.set_append_left _ _ (by simpa using hb),List.set_set]
  have g2:∀ (o X:aQ) (t:ag),(σ.set b o ++ X :: t)[σ.length]? = some X:=fun o X t=>by
    rw [List.getElem?_append_right (by simp)]; simp
  have s2:∀ (o X Y:aQ) (t:ag),(σ.set b o ++ X :: t).set σ.length Y = σ.set b o ++ Y :: t:=fun o X Y t=>by
    rw [List.set_append_right _ _ (by simp)]; simp
  have hadd:(⟨#[97,100,100]⟩:ByteArray) = zE:=rfl
  have htake:(⟨#[116,97,107,101]⟩:ByteArray) = sx:=rfl
  have hswap:(⟨#[115,119,97,112]⟩:ByteArray) = sX:=rfl
  have hA:aL zE = iL:=rfl
  have hT:aL sx = fb:=rfl
  have hS:aL sX = gR:=rfl
  have hAT:¬ sx = zE:=by decide
  have hSA:¬ sX = zE:=by decide
  have hST:¬ sX = sx:=by decide
  refine Of (by simp) (aa _ ?_)
  simp [Je]
  refine af.number (by omega) hz (g1 _ _ _) (fun w1 r1 v1 e1 q1=>?_) (fun hno=>?_)
  rotate_left
  · have hpn:chP (l.map aL) = none:=by
      match l,hno with
      | [],_=>rfl
      | [_],_=>rfl
      | _ :: _ :: _,hno=>rw [lH] at hno; simp [chP,hno]
    simp [hpn,gy,s1]
    exact ⟨_,_,rfl⟩
  have hr1:r1.length ≤ 10000 ∧ ∀ n ∈ r1,n.size ≤ 100000:=⟨by rw [e1] at hl; simp at hl; omega,fun n hn=>hz n (by rw [e1]; simp [hn])⟩
  simp [s1,s2]
  refine af.next (by omega) (g1 _ _ _) (fun w2 r2 e2=>?_) (fun hno=>?_)
  rotate_left
  · have hpn:chP (l.map aL) = none:=by rw [e1,hno]; rfl
    simp [hpn,gy]
    exact ⟨_,_,rfl⟩
  have hr2:r2.length ≤ 10000 ∧ ∀ n ∈ r2,n.size ≤ 100000:=⟨by have:=hr1.1; rw [e2] at this; simp at this; omega,fun n hn=>hr1.2 n (by rw [e2]; simp [hn])⟩
  refine (Classical.em (w2 = zE)).elim (fun h1=>?_) (fun h1=>?_)
  · have hch:chP (l.map aL) = (di (r2.map aL)).map fun x=>⟨1,v1, .empty,x⟩:=by
      rw [e1,e2,h1]; simp [chP,q1,hA]
    simp [s1,hadd,h1]
    refine af.part hr2.1 hr2.2 (g1 _ _ _) (fun x m tl hx=>?_) (fun m tl hx=>?_)
    · simp [s1,s2,hch,hx,gy,HuM.v,HuM.cells,ChM.v,ChM.cells]
      exact ⟨_,_,rfl⟩
    · simp [s1,hch,hx,gy]
      exact ⟨_,_,rfl⟩
  refine (Classical.em (w2 = sx)).elim (fun h2=>?_) (fun h2=>?_)
  · simp [s1,nmd,hadd,htake,h2,hAT]
    refine af.next (by omega) (g1 _ _ _) (fun w3 r3 e3=>?_) (fun hno=>?_)
    · refine (Classical.em (r3 = [])).elim (fun h3=>?_) (fun h3=>?_)
      · have hch:chP (l.map aL) = some ⟨2,v1,w3,zHu⟩:=by
          rw [e1,e2,e3,h2,h3]; simp [chP,q1,hT,fb,iL,cU]
        simp [s1,g1,s2,h3,bM]
        refine af.pure lj (cr _) ?_
        simp [s1,g1,s2,hch,gy,ChM.v,ChM.cells]
        exact ⟨⟨rfl,rfl,rfl,rfl,rfl,rfl,rfl⟩,[],_,rfl⟩
      · have hch:chP (l.map aL) = none:=by
          rw [e1,e2,e3,h2]
          cases r3 with
          | nil=>exact absurd rfl h3
          | cons a t=>simp [chP,q1,hT,fb,iL]
        have h3l:¬ (r3.length:Int) = 0:=by
          intro e; exact h3 (List.eq_nil_of_length_eq_zero (by omega))
        have h3b:((r3.length:Int) == 0) = false:=by rw [beq_eq_false_iff_ne]; exact h3l
        simp [s1,g1,s2,h3b,bM]
        refine af.pan lj (cN _) ?_
        rintro σ' rfl
        simp [hch,gy]
        exact ⟨r3,_,rfl⟩
    · have hch:chP (l.map aL) = none:=by
        rw [e1,e2,hno,h2]; simp [chP,q1,hT,fb,iL]
      simp [hch,gy]
      exact ⟨_,_,rfl⟩
  refine (Classical.em (w2 = sX)).elim (fun h3=>?_) (fun h3=>?_)
  · simp [s1,nmd,hadd,htake,hswap,h3,hSA,hST]
    refine af.next (by omega) (g1 _ _ _) (fun w3 r3 e3=>?_) (fun hno=>?_)
    · have hr3:r3.length ≤ 10000 ∧ ∀ n ∈ r3,n.size ≤ 100000:=⟨by have:=hr2.1; rw [e3] at this; simp at this; omega,fun n hn=>hr2.2 n (by rw [e3]; simp [hn])⟩
      have hch:chP (l.map aL) = (di (r3.map aL)).map fun x=>⟨3,v1,w3,x⟩:=by
        rw [e1,e2,e3,h3]; simp [chP,q1,hS,gR,iL,fb,cU]
      simp [s1,s2]
      refine af.part hr3.1 hr3.2 (g1 _ _ _) (fun x m tl hx=>?_) (fun m tl hx=>?_)
      · simp [s1,s2,hch,hx,gy,HuM.v,HuM.cells,ChM.v,ChM.cells]
        exact ⟨_,_,rfl⟩
      · simp [s1,hch,hx,gy]
        exact ⟨_,_,rfl⟩
    · have hch:chP (l.map aL) = none:=by
        rw [e1,e2,hno,h3]; simp [chP,q1,hS,gR,iL,fb]
      simp [hch,gy]
      exact ⟨_,_,rfl⟩
  · have hch:chP (l.map aL) = none:=by
      rw [e1,e2]
      simp only [List.map_cons,chP,q1]
      rw [← hA, ← hT, ← hS,if_neg (fun e=>h1 (w6.1 e)),if_neg (fun e=>h2 (w6.1 e)),if_neg (fun e=>h3 (w6.1 e))]
    simp [s1,nmd,hadd,htake,hswap,h1,h2,h3]
    refine af.pan lj (cN _) ?_
    rintro σ' rfl
    simp [hch,gy]
    exact ⟨_,_,rfl⟩
theorem fX (l:List ByteArray) (hl:l.length ≤ 10000) (hz:∀ n ∈ l,n.size ≤ 100000) (b:Nat) (σ:ag) (hb:σ[b]? = some (bM l)) :
    Spec Tryz.prog CM [.ptr b 0] σ fun r σ'=>r = gy ((chP (l.map aL)).map ChM.v) ∧ ∃ m tl,σ' = σ.set b (bM m) ++ tl:=by
  have h:=sN l hl hz b σ (List.getElem?_eq_some_iff.1 hb).1
  rw [l4 hb] at h
  exact h
theorem af.change {l:List ByteArray} (hl:l.length ≤ 10000) (hz:∀ n ∈ l,n.size ≤ 100000) {b:Nat} {σ:ag} (hb:σ[b]? = some (bM l)) {K Kp:ab → ag → Prop}
    (hs:∀ x m tl,chP (l.map aL) = some x → K x.v (σ.set b (bM m) ++ tl)) (hp:∀ m tl,chP (l.map aL) = none → Kp rS (σ.set b (bM m) ++ tl)) :
    @af Tryz.prog (.func (.func CM) [] []) [.ptr b 0] σ ⟨K⟩ ⟨Kp⟩:=by
  have h:=fX l hl hz b σ hb
  cases hv:chP (l.map aL) with
  | none=>
    rw [hv] at h
    refine af.both EX h (fun v σ' h=>nomatch h.1) fun v σ' h=>?_
    obtain ⟨h1,m,tl,rfl⟩:=h
    cases h1
    exact hp m tl hv
  | some x=>
    rw [hv] at h
    refine af.both EX h (fun y σ' h=>?_) fun x σ' h=>nomatch h.1
    obtain ⟨h1,m,tl,rfl⟩:=h
    cases h1
    exact hs x m tl hv
end Go.AM
