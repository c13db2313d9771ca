/- HullShips: Name, Check, Ship, Weigh and Above return what the document says. A plan without an error; the days that the laws ask for. The document: how many plans are left at worst. The document: .. -/
import Derived.Test.YthhmdhiiicipkaaGreatDoorP26
import Derived.Test.YthhmdhiiicipkaaGreatDoorP27
import Derived.Test.YthhmdhiiicipkaaGreatDoorP22
import Derived.Test.YthhmdhiiicipkaaGreatDoorP28
import Derived.Test.YthhmdhiiicipkaaGreatDoorP25
namespace Go.AM
open Go.Proofs
set_option maxRecDepth 100000
set_option maxHeartbeats 1000000
set_option maxRecDepth 100000
set_option maxHeartbeats 1000000
theorem wU (d:Nat) (h:d ≤ 65535):(IntKind.i64.wrap (d:Int)).tmod 40001 = ((d % 40001:Nat):Int) ∧ d % 40001 ≤ 40000:=by
  refine ⟨?_,by omega⟩
  rw [aj (by omega) (by omega),Int.tmod_eq_emod_of_nonneg (by omega)]; omega
set_option maxRecDepth 100000
set_option maxHeartbeats 1000000
def uM (S:List (List HuM)) (n:ByteArray) (f:Int):Nat → Nat
  | 0=>0
  | k + 1=>max (uM S n f k) (bf S n f k)
theorem BH (S:List (List HuM)) (n:ByteArray) (f:Int):uM S n f 6 = gr S n f:=by
  simp only [uM,gr,Nat.zero_max]
  rfl
theorem uS (S:List (List HuM)) (n:ByteArray) (f k:Int):bf S n f k ≤ S.length:=List.countP_le_length
theorem qd (S:List (List HuM)) (n:ByteArray) (f:Int):∀ k,uM S n f k ≤ S.length
  | 0=>by simp [uM]
  | k + 1=>by
    have h1:=qd S n f k
    have h2:=uS S n f k
    simp only [uM]; omega
set_option maxRecDepth 100000
set_option maxHeartbeats 1000000
theorem Dk {α:Type} (all:List α):∀ (L:List Nat) (_h:∀ j ∈ L,j < all.length),(L.filterMap fun j=>all[j]?).length = L.length ∧ ∀ i (hi:i < L.length) (hg:i < (L.filterMap fun j=>all[j]?).length),all[L[i]]? = some ((L.filterMap fun j=>all[j]?)[i])
  | [],_=>⟨rfl,fun i hi=>by simp at hi⟩
  | a :: r,h=>by
    obtain ⟨h1,h2⟩:=Dk all r fun j hj=>h j (by simp [hj])
    have ha:all[a]? = some (all[a]'(h a (by simp))):=List.getElem?_eq_getElem _
    have e:((a :: r).filterMap fun j=>all[j]?) = all[a]'(h a (by simp)) :: r.filterMap fun j=>all[j]?:=by
      rw [List.filterMap_cons,ha]
    refine ⟨by rw [e]; simp [h1],fun i hi hg=>?_⟩
    cases i with
    | zero=>simp only [e,List.getElem_cons_zero]; exact ha
    | succ i=>simp only [e,List.getElem_cons_succ]; exact h2 i (by simpa using hi) (by rw [h1]; simpa using hi)
theorem left_at {ps:List ar} {day:Int} {ss:List av}:(a8 ps day ss).length = (dT ss (aN day ps)).length ∧
    ∀ i (h:i < (dT ss (aN day ps)).length) (g:(dT ss (aN day ps))[i] < ps.length) (k:i < (a8 ps day ss).length),(a8 ps day ss)[i] = cL day ps[(dT ss (aN day ps))[i]]:=by
  have h0:(dT ss (aN day ps)).filterMap (fun j=>(aN day ps)[j]?) = a8 ps day ss:=tH (bE ss) (aN day ps) (aN day ps) 0 rfl
  have hlt:∀ j ∈ dT ss (aN day ps),j < (aN day ps).length:=fun j hj=>by
    have:=mM (bE ss) (aN day ps) 0 j hj; omega
  obtain ⟨h1,h2⟩:=Dk (aN day ps) _ hlt
  rw [h0] at h1
  refine ⟨h1,fun i h g k=>?_⟩
  have h3:=h2 i h (by rw [h0]; exact k)
  simp only [h0] at h3
  have h4:∀ j (g:j < ps.length),(aN day ps)[j]? = some (cL day ps[j]):=fun j g=>by
    unfold aN
    rw [List.getElem?_map,List.getElem?_eq_getElem g]; rfl
  rw [h4 _ g] at h3
  exact (Option.some.inj h3).symm
set_option maxRecDepth 100000
set_option maxHeartbeats 1000000
set_option maxRecDepth 100000
set_option maxHeartbeats 1000000
set_option maxRecDepth 100000
set_option maxHeartbeats 1000000
theorem zH (ps:List ar) (day:Int) (ss:List av):(jb ps day ss).length ≤ 6:=by
  unfold jb
  split
  · rename_i h
    exact Nat.le_trans (mO _ _ _) (gU (cu.1 h)).2
  · simp
theorem uU (ps:List ar) (day:Int) (ss:List av):(dA ps day ss).1.length ≤ 72 ∧ (dA ps day ss).2.length ≤ 72:=by
  unfold dA
  split
  · rename_i h
    have hv:aW ps day ss = 0:=by
      rcases Decidable.em (aW ps day ss = 0) with h1 | h1
      · exact h1
      · unfold cR at h; rw [if_pos h1] at h; exact absurd h h1
    have hss:=gU (cu.1 hv)
    have hl:∀ ns ∈ a8 ps day ss,ns.length ≤ 12:=fun ns hns=>(hss.1 ns (by unfold a8 u6 at hns; exact (List.mem_filter.1 hns).1)).len
    have h6:(a8 ps day ss).length ≤ 6:=by
      have:(a8 ps day ss).length ≤ (aN day ps).length:=by unfold a8 u6; exact List.length_filter_le _ _
      exact Nat.le_trans this hss.2
    have h2:=gl (ships:=a8 ps day ss) hl
    have h1:=gS ((a8 ps day ss).flatMap fun ns=>ns.map HuM.name)
    have h3:(aF (a8 ps day ss)).length ≤ 72:=by unfold bU at h2; unfold aF; omega
    exact ⟨Nat.le_trans (List.length_filter_le _ _) h3,h3⟩
  · exact ⟨by simp,by simp⟩
set_option maxRecDepth 100000
set_option maxHeartbeats 1000000
theorem mf {t n:Nat} (ht:t ≤ 255) (h1:1 ≤ n) (h2:n ≤ 1000000):∃ j,j < n ∧ t % n = j ∧ (IntKind.i64.wrap (t:Int)).tmod (n:Int) = (j:Int):=by
  refine ⟨t % n,Nat.mod_lt _ (by omega),rfl, ?_⟩
  rw [aj (by omega) (by omega),Int.tmod_eq_emod_of_nonneg (by omega),Int.natCast_emod]
theorem so {ps:List ar} {day:Int} {ss:List av} (h:aW ps day ss = 0) (hl:a8 ps day ss ≠ []):cR ps day ss = 0 ∧ dA ps day ss = (tL (a8 ps day ss),aF (a8 ps day ss)):=by
  have h1:cR ps day ss = 0:=by unfold cR; rw [if_neg (by simp [h]),if_neg hl]
  exact ⟨h1,by unfold dA; rw [if_pos h1]⟩
theorem ry (ps:List ar) (hn:ps.length ≤ maxLen) (hf:∀ p ∈ ps,gO p) (d t:Nat) (xs:List bp) (hd:d ≤ 65535) (ht:t ≤ 255) (hxl:xs.length ≤ maxLen) (hxs:∀ x ∈ xs,x.ok) :
    Spec Tryz.prog F_7 [bx ps, .agg [.int .u16 d, .int .u8 t, .slice 4 (xs.map bp.v)]] [] fun r _=>r = .ret (.bool true):=by
  refine S_7 (by simp) ?_
  obtain ⟨hon,hdn⟩:=wU d hd
  generalize d % 40001 = on at hon hdn
  have hmx:maxLen = 9223372036854775807:=rfl
  have q1:=gk ps on [] hn hf (by simp)
  rcases Decidable.em (aW ps on [] = 0) with hv | hv
  rotate_left
  · generalize aW ps on [] = E at hv q1
    simp only [bx,br] at *
    refine aa _ ?_
    simp [C_7,hon]
    refine af.pure Ct (q1 _) ?_
    simp [hv]
    refine af.pure jB (bj _) ?_
    simp
  have hsv:=cu.1 hv
  rw [hv] at q1
  have h1:=hsv.n1
  have h6:=hsv.n6
  have hne:¬ (ps.length:Int) = 0:=by omega
  have hps:¬ ps = []:=fun e=>by rw [e] at h1; simp at h1
  obtain ⟨j,hjl,hjt,e2⟩:=mf ht h1 (by omega)
  obtain ⟨p,hpj⟩:∃ p,ps[j] = p:=⟨_,rfl⟩
  have hpm:p ∈ ps:=hpj ▸ List.getElem_mem hjl
  have hok:=hsv.ok p hpm
  have hS:=kr hok on
  obtain ⟨pp,pc⟩:=p
  have q2:=lW ps on pp pc (hf _ hpm) hok xs hxl hxs hf hsv
  have q6:=bP pp pc (hf _ hpm) hok on
  have hsd:cL on ⟨pp,pc⟩ = aM on pp pc:=rfl
  rw [← hsd] at q6
  clear hsd
  obtain ⟨hsl,hst⟩:=qq h1 hsv.ok hS xs [] (by simp) (by simp)
  generalize hY ps on (cL on ⟨pp,pc⟩) xs [] = ss at q2 hsl hst
  obtain ⟨hv2,hag⟩:=rU hsv hsl hst
  have hz2:=cu.2 hv2
  have hq:Ec ps ss:=⟨hn,fun p hp=>(hf p hp).tolJ,by omega⟩
  have q3:=iA ps on ss hq
  have q4:=lI ps on ss hq
  have hleft:=tG hpm hag
  obtain ⟨hs1,hs2⟩:=so hz2 (fun e=>by rw [e] at hleft; cases hleft)
  have hAl:=uU ps on ss
  rw [hz2] at q3
  rw [hs1,hs2] at q4
  rw [hs2] at hAl
  have q5:=nW (jb ps on ss) j (Nat.le_trans (zH _ _ _) (by omega))
  have hin:j ∈ jb ps on ss:=(wa hv2 hjl).2 (by rw [hpj]; exact hag)
  rw [decide_eq_true hin] at q5
  have hsome:∀ x ∈ cL on ⟨pp,pc⟩,x.name ∈ aF (a8 ps on ss):=fun x hx=>l6 hleft hx
  have hall:∀ n ∈ tL (a8 ps on ss),n ∈ (cL on ⟨pp,pc⟩).map HuM.name:=fun n hn=>by
    unfold tL fo at hn
    have:=(List.mem_filter.1 hn).2
    rw [List.all_eq_true] at this
    have:=this _ hleft
    rw [decide_eq_true_iff,dw] at this
    obtain ⟨y,hy,hyn⟩:=this
    exact List.mem_map.2 ⟨y,hy,hyn⟩
  obtain ⟨l1,l2⟩:=hAl
  dsimp only at l1 l2 q4
  clear hleft hs1 hs2 hin hag hst
  generalize jb ps on ss = L at q3 q5
  generalize tL (a8 ps on ss) = A at *
  generalize aF (a8 ps on ss) = B at *
  have hnl:=hS.len
  clear hS
  generalize cL on ⟨pp,pc⟩ = ns at *
  simp only [bx,br] at *
  refine aa _ ?_
  simp [C_7,hon]
  refine af.pure Ct (q1 _) ?_
  simp [hon,e2,hps,hjl,hpj,ar.v,ar.cells]
  refine ⟨_,fun σ'=>aB.func Aw (q2 σ'), ?_⟩
  simp
  refine af.pure Fh (q3 _) ?_
  simp [hon,e2,hjl,hpj,ar.v,ar.cells]
  refine af.pure HN (q4 _) ?_
  simp [hon,e2,hjl,hpj,ar.v,ar.cells]
  refine af.pure zT (q5 _) ?_
  simp [hon,e2,hjl,hpj,ar.v,ar.cells]
  refine af.pure p0 (q6 _) ?_
  simp [hon,e2,hjl,hpj,ar.v,ar.cells]
  have hAl:A.length ≤ maxLen:=by omega
  have hBl:B.length ≤ maxLen:=by omega
  refine AW.loop (ι:=Nat) (fun i fr σ=>∃ q,fr = { v:=[(10, .slice 1 (A.map .str)),(11, .slice 1 (B.map .str)),(13, .oslice 1 ((ns.map fun x=>ab.str x.name).take i) 0 q),(14, .slice 7 (ns.map HuM.v)),(15, .int .i64 i)],ds:=[] } ∧ σ = [.spare 1 q] ∧ i ≤ ns.length) (fun i=>ns.length - i) 0 ⟨_,rfl,rfl,by omega⟩ ?_
  rintro i fr σ ⟨q,rfl,rfl,hi⟩
  refine (Nat.lt_or_ge i ns.length).elim (fun hlt=>?_) (fun hge=>?_)
  · obtain ⟨x,hx⟩:∃ x,ns[i] = x:=⟨_,rfl⟩
    have hxm:=hsome x (hx ▸ List.getElem_mem _)
    have q7:=dH B x.name hBl
    have hnn:¬ dK B x.name 0 < 0:=fun h=>((oe x.name B 0).2.1 h) hxm
    generalize dK B x.name 0 = Z at q7 hnn
    have hwi:IntKind.i64.wrap ((i:Int) + 1) = ((i + 1:Nat):Int):=by rw [aj (by omega) (by omega)]; simp
    have hx':ns[i]? = some x:=by rw [List.getElem?_eq_getElem hlt,hx]
    have hM:(ns.map fun x=>ab.str x.name).take (i + 1) = (ns.map fun x=>ab.str x.name).take i ++ [.str x.name]:=by
      rw [List.take_succ_eq_append_getElem (by simpa using hlt),List.getElem_map,hx]
    have hfit:Fits 1 [.str x.name]:=fun v hv=>by simp at hv; subst hv; exact ⟨by simp [bB],by simp [ab.cells,dR,ab.fh]⟩
    refine aa _ ?_
    simp [hlt,hx,HuM.v,HuM.cells,hfit]
    refine ⟨by omega, ?_⟩
    refine af.pure wF (q7 _) ?_
    simp [hnn,hwi,hx',HuM.v,HuM.cells]
    exact ⟨i + 1,by omega,_,⟨⟨hM.symm,rfl⟩,by simp⟩,rfl,by omega⟩
  · have htk:(ns.map fun x=>ab.str x.name).take i = ns.map fun x=>ab.str x.name:=List.take_of_length_le (by simp; omega)
    rw [htk]
    have hNl:(ns.map HuM.name).length ≤ maxLen:=by simp; omega
    refine aa _ ?_
    simp [show ¬ i < ns.length by omega]
    refine AW.loop (ι:=Nat) (fun k fr σ=>fr = { v:=[(10, .slice 1 (A.map .str)),(13, .oslice 1 (ns.map fun x=>.str x.name) 0 q),(16, .int .i64 k)],ds:=[] } ∧ σ = [.spare 1 q] ∧ k ≤ A.length) (fun k=>A.length - k) 0 ⟨rfl,rfl,by omega⟩ ?_
    rintro k fr σ ⟨rfl,rfl,hk⟩
    refine (Nat.lt_or_ge k A.length).elim (fun hltk=>?_) (fun hgek=>?_)
    · obtain ⟨n,hn'⟩:∃ n,A[k] = n:=⟨_,rfl⟩
      have hm:=hall n (hn' ▸ List.getElem_mem _)
      have q8:=dH (ns.map HuM.name) n hNl
      have hnn:¬ dK (ns.map HuM.name) n 0 < 0:=fun h=>((oe n _ 0).2.1 h) hm
      rw [List.map_map] at q8
      generalize dK (ns.map HuM.name) n 0 = Z at q8 hnn
      have hwk:IntKind.i64.wrap ((k:Int) + 1) = ((k + 1:Nat):Int):=by rw [aj (by omega) (by omega)]; simp
      refine aa _ ?_
      simp [hltk,hn']
      refine af.pure wF (q8 _) ?_
      simp [hnn,hwk]
      exact ⟨k + 1,by omega,by simp,by omega⟩
    · refine aa _ ?_
      simp [show ¬ k < A.length by omega]
      refine af.pure jB (bj _) ?_
      simp
end Go.AM
