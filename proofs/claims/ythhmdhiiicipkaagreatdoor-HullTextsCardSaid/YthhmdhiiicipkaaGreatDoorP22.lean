/- Weigh: of the program. Weigh: of the document. Above: of the program. Above: of the document. -/
import Derived.Test.YthhmdhiiicipkaaGreatDoorP21
import Derived.Test.YthhmdhiiicipkaaGreatDoorP20
namespace Go.AM
open Go.Proofs
set_option maxRecDepth 100000
set_option maxHeartbeats 1000000
def wIn (a b:Int) (x:HuM):Int:=max 0 (min b x.last - max a x.first + 1)
def cG (x:HuM):Int:=x.last - x.first + 1
def wLo (a b:Int) (x:HuM):Int:=(x.lo * wIn a b x).tdiv (cG x)
def wHi (a b:Int) (x:HuM):Int:=(x.hi * wIn a b x + cG x - 1).tdiv (cG x)
def aX (a b:Int):List HuM → Int
  | []=>0
  | x :: r=>wLo a b x + aX a b r
def aT (a b:Int):List HuM → Int
  | []=>0
  | x :: r=>wHi a b x + aT a b r
structure WOk (x:HuM):Prop where
  f0:0 ≤ x.first
  fl:x.first ≤ x.last
  l1:x.last ≤ 40
  lo:0 ≤ x.lo ∧ x.lo ≤ 1000000
  hi:0 ≤ x.hi ∧ x.hi ≤ 1000000
theorem lB {a b:Int} {x:HuM} (h:WOk x):0 ≤ wIn a b x ∧ wIn a b x ≤ 41:=by
  obtain ⟨h1,h2,h3,_,_⟩:=h
  unfold wIn; omega
theorem Ay {a b:Int} {x:HuM} (h:WOk x):0 ≤ wLo a b x ∧ wLo a b x ≤ 41000000:=by
  have h1:=lB (a:=a) (b:=b) h
  obtain ⟨h4,h5⟩:=h.lo
  have hp:0 ≤ x.lo * wIn a b x:=Int.mul_nonneg h4 h1.1
  have hq:x.lo * wIn a b x ≤ 1000000 * 41:=Int.mul_le_mul h5 h1.2 h1.1 (by omega)
  have hl:1 ≤ cG x:=by have:=h.fl; unfold cG; omega
  unfold wLo
  rw [Int.tdiv_eq_ediv_of_nonneg hp]
  exact ⟨Int.ediv_nonneg hp (by omega),Int.le_trans (Int.ediv_le_self _ hp) hq⟩
theorem zh {a b:Int} {x:HuM} (h:WOk x):0 ≤ wHi a b x ∧ wHi a b x ≤ 41000041:=by
  have h1:=lB (a:=a) (b:=b) h
  obtain ⟨h4,h5⟩:=h.hi
  have hp:0 ≤ x.hi * wIn a b x:=Int.mul_nonneg h4 h1.1
  have hq:x.hi * wIn a b x ≤ 1000000 * 41:=Int.mul_le_mul h5 h1.2 h1.1 (by omega)
  have hl:1 ≤ cG x ∧ cG x ≤ 41:=by have:=h.fl; have:=h.f0; have:=h.l1; unfold cG; omega
  unfold wHi
  have hp2:0 ≤ x.hi * wIn a b x + cG x - 1:=by omega
  rw [Int.tdiv_eq_ediv_of_nonneg hp2]
  exact ⟨Int.ediv_nonneg hp2 (by omega),Int.le_trans (Int.ediv_le_self _ hp2) (by omega)⟩
theorem tp {x:HuM} (h:pL x):WOk x:=by
  have h1:=h.range
  have h2:=h.span
  have h3:=h.frames
  simp only [cP,bu,Bool.or_eq_false_iff,Bool.not_eq_false',Bool.and_eq_true,decide_eq_true_iff,beq_eq_false_iff_ne] at h1
  have h4:1 ≤ x.lo ∧ x.lo ≤ x.hi ∧ x.hi ≤ 1000000:=by
    unfold ew gi at h2
    dsimp only at h2
    by_cases hc:(!bu x.lo 1 1000000 || !bu x.hi 1 1000000) = true
    · rw [if_pos hc] at h2; exact absurd h2 (by omega)
    · rw [if_neg hc] at h2
      by_cases hg:x.lo > x.hi
      · rw [if_pos hg] at h2; exact absurd h2 (by omega)
      · simp [bu] at hc
        omega
  exact ⟨by omega,h3,by omega,by omega,by omega⟩
theorem lS (a b:Int):∀ (l r:List HuM),aX a b (l ++ r) = aX a b l + aX a b r
  | [],r=>by simp [aX]
  | x :: l,r=>by simp only [List.cons_append,aX,lS a b l r]; omega
theorem l8 (a b:Int):∀ (l r:List HuM),aT a b (l ++ r) = aT a b l + aT a b r
  | [],r=>by simp [aT]
  | x :: l,r=>by simp only [List.cons_append,aT,l8 a b l r]; omega
theorem l5 (a b:Int):∀ (l:List HuM),(∀ x ∈ l,WOk x) → (0 ≤ aX a b l ∧ aX a b l ≤ 41000041 * l.length) ∧ (0 ≤ aT a b l ∧ aT a b l ≤ 41000041 * l.length)
  | [],_=>by simp [aX,aT]
  | x :: l,h=>by
    have h1:=l5 a b l fun y hy=>h y (by simp [hy])
    have h2:=Ay (a:=a) (b:=b) (h x (by simp))
    have h3:=zh (a:=a) (b:=b) (h x (by simp))
    simp only [aX,aT,List.length_cons]
    omega
def cB (p:ar) (day a b:Int):Int:=if bJ p day ≠ 0 then bJ p day else if aH 0 40 [a,b] = true ∨ b < a then 7 else 0
def b9 (p:ar) (day a b:Int):ab:=if cB p day a b = 0 then .agg [ii' (aX a b (fH day p.ship p.ship p.chs)),ii' (aT a b (fH day p.ship p.ship p.chs))] else .agg [ii' 0,ii' 0]
theorem fq (ps:List HuM) (cs:List ChM) (hf:lJ ⟨ps,cs⟩) (day a b:Int) (σ:ag) :
    Spec Tryz.prog Cl [.agg [.slice 7 (ps.map HuM.v), .slice 10 (cs.map ChM.v)], .int .i64 day, .int .i64 a, .int .i64 b] σ fun r σ'=>r = .ret (.tup [b9 ⟨ps,cs⟩ day a b,ii' (cB ⟨ps,cs⟩ day a b)]) ∧ σ' = σ:=by
  refine Spec.aC (LD (by simp) ?_) (by simp [aA,ab.pure,ah (f:=HuM.v) (fun p=>p.pure) ps,ah (f:=ChM.v) (fun c=>c.pure) cs]) (by unfold b9; split <;> simp [ab.pure,aA]) σ
  have ho:=dG ps cs hf day
  have hby:=aE 0 40 [a,b] (by simp [maxLen])
  by_cases h1:bJ ⟨ps,cs⟩ day = 0
  rotate_left
  · have he:cB ⟨ps,cs⟩ day a b = bJ ⟨ps,cs⟩ day:=by unfold cB; rw [if_pos h1]
    have hv:b9 ⟨ps,cs⟩ day a b = .agg [ii' 0,ii' 0]:=by unfold b9; rw [he,if_neg h1]
    rw [he,hv]
    refine aa _ ?_
    simp [C7]
    refine af.spec rq (ho _) ?_
    rintro r σ' ⟨ns,rfl,hns,tl,rfl⟩
    refine ⟨_,rfl, ?_⟩
    simp [h1]
    done
  have hok:=eM h1
  have hon:OkS (fH day ps ps cs):=by
    rw [dF day cs ps 0 hok.ship hok.steps]; exact cM hok.ship hok.steps day
  rw [h1] at ho
  rcases tf (aH 0 40 [a,b]) with hb | hb
  rotate_left
  · have he:cB ⟨ps,cs⟩ day a b = 7:=by unfold cB; rw [if_neg (by simp [h1]),if_pos (.inl hb)]
    have hv:b9 ⟨ps,cs⟩ day a b = .agg [ii' 0,ii' 0]:=by unfold b9; rw [he]; rfl
    rw [he,hv]
    refine aa _ ?_
    simp [C7]
    refine af.spec rq (ho _) ?_
    rintro r σ' ⟨ns,rfl,hns,tl,rfl⟩
    refine ⟨_,rfl, ?_⟩
    simp
    refine af.aS dW (hby _) (congrArg ab.bool hb) ?_
    simp
  by_cases hab:b < a
  · have he:cB ⟨ps,cs⟩ day a b = 7:=by unfold cB; rw [if_neg (by simp [h1]),if_pos (.inr hab)]
    have hv:b9 ⟨ps,cs⟩ day a b = .agg [ii' 0,ii' 0]:=by unfold b9; rw [he]; rfl
    rw [he,hv]
    refine aa _ ?_
    simp [C7]
    refine af.spec rq (ho _) ?_
    rintro r σ' ⟨ns,rfl,hns,tl,rfl⟩
    refine ⟨_,rfl, ?_⟩
    simp
    refine af.aS dW (hby _) (congrArg ab.bool hb) ?_
    simp [hab]
  have he:cB ⟨ps,cs⟩ day a b = 0:=by unfold cB; rw [if_neg (by simp [h1]),if_neg (by simp [hb]; omega)]
  have hv:b9 ⟨ps,cs⟩ day a b = .agg [ii' (aX a b (fH day ps ps cs)),ii' (aT a b (fH day ps ps cs))]:=by unfold b9; rw [if_pos he]
  rw [he,hv]
  refine aa _ ?_
  simp [C7]
  refine af.spec rq (ho _) ?_
  rintro r σ' ⟨ns,rfl,hns,tl,rfl⟩
  refine ⟨_,rfl, ?_⟩
  simp
  refine af.aS dW (hby _) (congrArg ab.bool hb) ?_
  rw [← hns rfl] at hon ⊢
  simp [hab]
  refine AW.loop (ι:=Nat) (fun i fr σ'=>∃ t,fr = { v:=[(2, .int .i64 a),(3, .int .i64 b),(8, .ptr 0 0),(39, .slice 7 (ns.map HuM.v)),(40, .int .i64 ns.length),(41, .int .i64 i)],ds:=[] } ∧ σ' = .box [ii' (aX a b (ns.take i)),ii' (aT a b (ns.take i))] :: t ∧ i ≤ ns.length) (fun i=>ns.length - i) 0 ⟨_,by simp,by simp [aX,aT]; rfl,by simp⟩ ?_
  rintro i fr σ' ⟨t,rfl,rfl,hi⟩
  refine (Nat.lt_or_ge i ns.length).elim (fun hlt=>?_) (fun hge=>?_)
  rotate_left
  · have htk:ns.take i = ns:=List.take_of_length_le (by omega)
    rw [htk]
    refine aa _ ?_
    simp [show ¬ i < ns.length by omega]
    done
  obtain ⟨x,hx⟩:∃ x,ns[i] = x:=⟨_,rfl⟩
  have hxw:=tp (hon.part x (hx ▸ List.getElem_mem _))
  refine aa _ ?_
  simp [hlt,hx,HuM.v,HuM.cells]
  have hab0:(0 ≤ a ∧ a ≤ 40) ∧ 0 ≤ b ∧ b ≤ 40:=by
    simp [aH,n4] at hb; omega
  obtain ⟨f0,fl,l1,hlo,hhi⟩:=hxw
  have hxw2:WOk x:=⟨f0,fl,l1,hlo,hhi⟩
  have hin:=lB (a:=a) (b:=b) hxw2
  have hL:=Ay (a:=a) (b:=b) hxw2
  have hH:=zh (a:=a) (b:=b) hxw2
  have hsum:=l5 a b (ns.take i) fun y hy=>tp (hon.part y (List.mem_of_mem_take hy))
  have hnl:=hon.len
  have hti:(ns.take i).length ≤ 12:=by simp; omega
  have hwl:1 ≤ cG x ∧ cG x ≤ 41:=by unfold cG; omega
  have w1:IntKind.i64.wrap (IntKind.i64.wrap (x.last - x.first) + 1) = cG x:=by
    rw [aj (n:=x.last - x.first) (by omega) (by omega),aj (by omega) (by omega)]; rfl
  have hM:∀ M:Int,M = (if x.last < b then x.last else b) - (if a < x.first then x.first else a) → IntKind.i64.wrap (IntKind.i64.wrap M + 1) = M + 1:=fun M h=>by
    have:-100 ≤ M ∧ M ≤ 100:=by rw [h]; split <;> split <;> omega
    rw [aj (n:=M) (by omega) (by omega),aj (by omega) (by omega)]
  rw [hM _ rfl,w1]
  have hI:(if 0 < (if x.last < b then x.last else b) - (if a < x.first then x.first else a) + 1 then (if x.last < b then x.last else b) - (if a < x.first then x.first else a) + 1 else 0) = wIn a b x:=by
    unfold wIn; split <;> split <;> split <;> omega
  rw [hI]
  have p1:0 ≤ x.lo * wIn a b x ∧ x.lo * wIn a b x ≤ 1000000 * 41:=⟨Int.mul_nonneg hlo.1 hin.1,Int.mul_le_mul hlo.2 hin.2 hin.1 (by omega)⟩
  have p2:0 ≤ x.hi * wIn a b x ∧ x.hi * wIn a b x ≤ 1000000 * 41:=⟨Int.mul_nonneg hhi.1 hin.1,Int.mul_le_mul hhi.2 hin.2 hin.1 (by omega)⟩
  rw [aj (n:=x.lo * wIn a b x) (by omega) (by omega),aj (n:=x.hi * wIn a b x) (by omega) (by omega),aj (n:=x.hi * wIn a b x + cG x) (by omega) (by omega),aj (n:=x.hi * wIn a b x + cG x - 1) (by omega) (by omega)]
  rw [show (x.lo * wIn a b x).tdiv (cG x) = wLo a b x from rfl,show (x.hi * wIn a b x + cG x - 1).tdiv (cG x) = wHi a b x from rfl]
  rw [aj (n:=wLo a b x) (by omega) (by omega),aj (n:=wHi a b x) (by omega) (by omega)]
  rw [aj (n:=aX a b (ns.take i) + wLo a b x) (by omega) (by omega),aj (n:=aT a b (ns.take i) + wHi a b x) (by omega) (by omega)]
  have htk:ns.take (i + 1) = ns.take i ++ [x]:=by rw [List.take_succ_eq_append_getElem hlt,hx]
  refine ⟨by omega,i + 1,by omega,by rw [aj (by omega) (by omega)]; omega,⟨?_, ?_⟩,by omega⟩
  · rw [htk,lS]; simp [aX]
  · rw [htk,l8]; simp [aT]
set_option maxRecDepth 100000
set_option maxHeartbeats 1000000
set_option maxRecDepth 100000
set_option maxHeartbeats 1000000
def cz (p:ar) (day:Int) (name:ByteArray):Int:=if bJ p day ≠ 0 then bJ p day else if findF (fH day p.ship p.ship p.chs) name < 0 then 4 else 0
def cy (p:ar) (day:Int) (name:ByteArray):List ByteArray:=if cz p day name = 0 then ((fH day p.ship p.ship p.chs).filter (abv name (fH day p.ship p.ship p.chs))).map HuM.name else []
theorem ly {ns:List HuM} (hns:OkS ns) (name:ByteArray) (b1 b2:Nat) (σ:ag) (h1:σ[b1]? = some (.box [.func (.func CD) [] [.pval (.str name), .ptr b1 0, .ptr b2 0]])) (h2:σ[b2]? = some (.box [.slice 7 (ns.map HuM.v)])) :
    ∀ (k i:Nat) (_:i < k) (hi:i < ns.length),Spec Tryz.prog CD [(ns[i]).v, .pval (.str name), .ptr b1 0, .ptr b2 0] σ fun r σ'=>r = .ret (.bool (abv name ns ns[i])) ∧ σ' = σ
  | 0,i,h,_=>by omega
  | k + 1,i,hk,hi=>by
    have hlen:=hns.len
    have hin:∀ n ∈ (ns[i]).on,Spec Tryz.prog ED [.str n, .ptr b1 0, .ptr b2 0] σ fun r σ'=>r = .ret (.bool (abv name ns (atF ns n))) ∧ σ' = σ:=fun n hn=>by
      obtain ⟨j,hj,hfj,hjn,hat⟩:=jY hns hi hn
      have hjl:j < ns.length:=by omega
      have ih:=ly hns name b1 b2 σ h1 h2 k j (by omega) hjl
      rw [hat]
      obtain ⟨y,hy⟩:∃ y,ns[j] = y:=⟨_,rfl⟩
      have hfi:=aO ns n (by simp only [maxLen]; omega) b2 σ h2
      rw [hfj] at hfi
      rw [hy] at ih ⊢
      refine L1 (by simp) (aa _ ?_)
      simp [Kw,h1,h2]
      refine af.pure eV hfi ?_
      simp [hjl,hy,h1,h2,HuM.v,HuM.cells]
      refine af.of (aB.func He (by simpa [HuM.v,HuM.cells] using ih)) ?_
      simp
    obtain ⟨x,hx⟩:∃ x,ns[i] = x:=⟨_,rfl⟩
    have hab:=rE hns hi name
    rw [hx] at hab hin ⊢
    have hxo:=fC hns x (hx ▸ List.getElem_mem _)
    have hon:=oD x name (by simp only [maxLen]; omega) σ
    have hcf:=bw ED [.ptr b1 0, .ptr b2 0] (fun n=>abv name ns (atF ns n)) x.on (by simp only [maxLen]; omega) σ (fun n hn=>aB.func Od (by simpa using hin n hn))
    simp only [HuM.v,HuM.cells] at hon
    rcases tf (bF x name) with ho | ho
    · rw [ho,Bool.false_or] at hab
      rw [hab]
      rw [ho] at hon
      refine JK (by simp) (aa _ ?_)
      simp [G0,HuM.v,HuM.cells]
      refine af.pure HP hon ?_
      simp
      refine af.pure wK hcf ?_
      simp
    · rw [ho,Bool.true_or] at hab
      rw [hab]
      rw [ho] at hon
      refine JK (by simp) (aa _ ?_)
      simp [G0,HuM.v,HuM.cells]
      refine af.pure HP hon ?_
      simp
theorem dp (ps:List HuM) (cs:List ChM) (hf:lJ ⟨ps,cs⟩) (day:Int) (name:ByteArray) (σ:ag) :
    Spec Tryz.prog yX [.agg [.slice 7 (ps.map HuM.v), .slice 10 (cs.map ChM.v)], .int .i64 day, .str name] σ fun r σ'=>r = .ret (.tup [.slice 1 ((cy ⟨ps,cs⟩ day name).map .str),ii' (cz ⟨ps,cs⟩ day name)]) ∧ σ' = σ:=by
  refine Spec.aC (Ot (by simp) ?_) (by simp [aA,ab.pure,ah (f:=HuM.v) (fun p=>p.pure) ps,ah (f:=ChM.v) (fun c=>c.pure) cs]) (by simp [ab.pure,aA,ah (f:=ab.str) (fun _=>rfl)]) σ
  have ho:=dG ps cs hf day
  by_cases h1:bJ ⟨ps,cs⟩ day = 0
  rotate_left
  · have he:cz ⟨ps,cs⟩ day name = bJ ⟨ps,cs⟩ day:=by unfold cz; rw [if_pos h1]
    have hv:cy ⟨ps,cs⟩ day name = []:=by unfold cy; rw [he,if_neg h1]
    rw [he,hv]
    refine aa _ ?_
    simp [E3]
    refine af.spec rq (ho _) ?_
    rintro r σ' ⟨ns,rfl,hns,tl,rfl⟩
    refine ⟨_,rfl, ?_⟩
    simp [h1]
    done
  have hok:=eM h1
  have hon:OkS (fH day ps ps cs):=by
    rw [dF day cs ps 0 hok.ship hok.steps]; exact cM hok.ship hok.steps day
  rw [h1] at ho
  by_cases h2:findF (fH day ps ps cs) name < 0
  · have he:cz ⟨ps,cs⟩ day name = 4:=by unfold cz; rw [if_neg (by simp [h1]),if_pos h2]
    have hv:cy ⟨ps,cs⟩ day name = []:=by unfold cy; rw [he]; rfl
    rw [he,hv]
    refine aa _ ?_
    simp [E3]
    refine af.spec rq (ho _) ?_
    rintro r σ' ⟨ns,rfl,hns,tl,rfl⟩
    refine ⟨_,rfl, ?_⟩
    rw [← hns rfl] at hon h2
    simp
    have hnl:=hon.len
    refine af.pure eV (aO ns name (by simp only [maxLen]; omega) _ _ (by simp)) ?_
    simp [h2]
  have he:cz ⟨ps,cs⟩ day name = 0:=by unfold cz; rw [if_neg (by simp [h1]),if_neg h2]
  have hv:cy ⟨ps,cs⟩ day name = ((fH day ps ps cs).filter (abv name (fH day ps ps cs))).map HuM.name:=by unfold cy; rw [if_pos he]
  rw [he,hv]
  refine aa _ ?_
  simp [E3]
  refine af.spec rq (ho _) ?_
  rintro r σ' ⟨ns,rfl,hns,tl,rfl⟩
  refine ⟨_,rfl, ?_⟩
  rw [← hns rfl] at hon h2 ⊢
  have hnl:=hon.len
  simp
  refine af.pure eV (aO ns name (by simp only [maxLen]; omega) _ _ (by simp)) ?_
  simp [h2]
  generalize hB1:tl.length + 1 = B1
  generalize hB2:tl.length + 2 = B2
  have k1:∀ (a b c:aQ) (t:ag),(a :: (tl ++ b :: c :: t))[B1]? = some b:=fun a b c t=>by rw [← hB1]; simp
  have k2:∀ (a b c:aQ) (t:ag),(a :: (tl ++ b :: c :: t))[B2]? = some c:=fun a b c t=>by
    rw [← hB2,List.getElem?_cons_succ,List.getElem?_append_right (by omega),show tl.length + 1 - tl.length = 1 by omega]; rfl
  refine AW.loop (ι:=Nat) (fun i fr σ'=>∃ q t,fr = { v:=[(6, .oslice 1 ((((ns.take i).filter (abv name ns)).map HuM.name).map .str) 0 q),(9, .ptr B2 0),(29, .slice 7 (ns.map HuM.v)),(30, .int .i64 ns.length),(31, .int .i64 i)],ds:=[] } ∧ σ' = .spare 1 q :: (tl ++ .box [.slice 7 (ns.map HuM.v)] :: .box [.func (.func CD) [] [.pval (.str name), .ptr B2 0, .ptr B1 0]] :: t) ∧ i ≤ ns.length) (fun i=>ns.length - i) 0 ⟨0,[],by simp,by simp,by omega⟩ ?_
  rintro i fr σ' ⟨q,t,rfl,rfl,hi⟩
  refine (Nat.lt_or_ge i ns.length).elim (fun hlt=>?_) (fun hge=>?_)
  rotate_left
  · have htk:ns.take i = ns:=List.take_of_length_le (by omega)
    rw [htk]
    refine aa _ ?_
    simp [show ¬ i < ns.length by omega]
  obtain ⟨x,hx⟩:∃ x,ns[i] = x:=⟨_,rfl⟩
  have hov:=fun σ h1 h2=>ly hon name B2 B1 σ h1 h2 (i + 1) i (by omega) hlt
  rw [hx] at hov
  have hwi:IntKind.i64.wrap ((i:Int) + 1) = ((i + 1:Nat):Int):=by rw [aj (by omega) (by omega)]; simp
  have htk:(ns.take (i + 1)).filter (abv name ns) = (ns.take i).filter (abv name ns) ++ (if abv name ns x = true then [x] else []):=by
    rw [List.take_succ_eq_append_getElem hlt,hx,List.filter_append,List.filter_cons,List.filter_nil]
  have hln:((ns.take i).filter (abv name ns)).length ≤ 12:=Nat.le_trans (List.length_filter_le _ _) (by simp; omega)
  have hfit:Fits 1 [ab.str x.name]:=by intro v hv; simp at hv; subst hv; exact ⟨⟨rfl,rfl⟩,rfl⟩
  simp only [HuM.v,HuM.cells] at hov
  rcases tf (abv name ns x) with ha | ha
  · rw [ha] at hov htk
    refine aa _ ?_
    simp [hlt,hx,HuM.v,HuM.cells,k2]
    refine af.of (aB.func He (by simpa using hov _ (k2 _ _ _ _) (k1 _ _ _ _))) ?_
    simp [hwi]
    exact ⟨i + 1,by omega,q,⟨⟨by rw [htk]; simp,rfl⟩,by simp⟩,rfl,by omega⟩
  · rw [ha] at hov htk
    refine aa _ ?_
    simp [hlt,hx,HuM.v,HuM.cells,k2]
    refine af.of (aB.func He (by simpa using hov _ (k2 _ _ _ _) (k1 _ _ _ _))) ?_
    simp [hwi,hfit]
    refine ⟨by omega,i + 1,by omega,q + 1,⟨⟨by rw [htk]; simp,rfl⟩,by simp⟩,rfl,by omega⟩
set_option maxRecDepth 100000
set_option maxHeartbeats 1000000
end Go.AM
