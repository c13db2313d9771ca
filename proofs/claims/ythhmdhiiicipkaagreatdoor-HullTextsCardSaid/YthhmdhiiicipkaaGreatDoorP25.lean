/- Ask: of the program, the answer. Texts, plain: lines, words, numerals. The text of a plan, and how it is read: plain. Of a plan without an error the text is read az the plan, by the program and by the document. -/
import Derived.Test.YthhmdhiiicipkaaGreatDoorP24
import Derived.Lib.Split
import Derived.Lib.AtoiAll
import Derived.Lib.ItoaNum
import Derived.Lib.Join
import Derived.Test.YthhmdhiiicipkaaGreatDoorP20
namespace Go.AM
open Go.Proofs
set_option maxRecDepth 100000
set_option maxHeartbeats 1000000
def jA (ps:List ar) (day:Int) (ss:List av):Int:=if cR ps day ss ≠ 0 then cR ps day ss else if (eB (a8 ps day ss)).left = (a8 ps day ss).length then 4 else 0
def k0 (ps:List ar) (day:Int) (ss:List av):ld:=if jA ps day ss = 0 then eB (a8 ps day ss) else ⟨.empty,0,0⟩
def dt (L:List (List HuM)):Nat → ld
  | 0=>⟨.empty,0,L.length⟩
  | p + 1=>dU L (dt L p) ((aF L).getD (p / 41) .empty) (p % 41)
def zB (L:List (List HuM)):Env:=[(6, .ptr 0 0),(7, .ptr 1 0),(8, .ptr 2 0),(11, .pval (.slice 1 (L.map bd))),(38, .func (.func sT) [] [.pval (.slice 1 (L.map bd))])]
def vX (L:List (List HuM)) (b:ld) (asg body:Code) (st:LoopState) (pd:Option Code):ag:=[.box [.str b.name], .box [ii' b.frame], .box [nn' b.left], .dead, .dead, .dfr, .looprec 68 (zB L) [39] asg body 5 st pd]
theorem q9 {ns:List HuM} (h:OkS ns) (n:ByteArray) (f:Int):∃ k:Nat,k ≤ 5 ∧ dE ns n f = k:=by
  unfold dE
  by_cases h1:findF ns n < 0
  · rw [if_pos h1]; exact ⟨0,by omega,rfl⟩
  rw [if_neg h1]
  split
  · obtain ⟨j,hj,_,_,hja⟩:=bC h1
    have h2:=(h.part ns[j] (List.getElem_mem _)).range
    rw [hja]
    simp only [cP,bu,Bool.or_eq_false_iff,Bool.not_eq_false',Bool.and_eq_true,decide_eq_true_iff,beq_eq_false_iff_ne] at h2
    exact ⟨(ns[j]).kind.toNat,by omega,by omega⟩
  · exact ⟨0,by omega,rfl⟩
def lh (l:List (List HuM)) (n:ByteArray) (f:Int):List ab:=[nn' (bf l n f 0),nn' (bf l n f 1),nn' (bf l n f 2),nn' (bf l n f 3),nn' (bf l n f 4),nn' (bf l n f 5)]
theorem tB {l:List (List HuM)} {j:Nat} (h:j < l.length) (n:ByteArray) (f k:Int):bf (l.take (j + 1)) n f k = bf (l.take j) n f k + if dE l[j] n f = k then 1 else 0:=by
  unfold bf
  rw [List.take_succ_eq_append_getElem h,List.countP_append,List.countP_cons,List.countP_nil]
  simp
theorem xS (l:List (List HuM)) (n:ByteArray) (f k:Int):bf l n f k ≤ l.length:=List.countP_le_length
theorem at7 (a b c d e f g:aQ) (tl:ag) (X:aQ) (m:Nat) (t:ag) (h:t[m]? = some X) (i:Nat) (hi:i = tl.length + m + 7):(a :: b :: c :: d :: e :: f :: g :: (tl ++ t))[i]? = some X:=by
  subst hi
  simp only [List.getElem?_cons_succ]
  rw [List.getElem?_append_right (by omega),show tl.length + m - tl.length = m by omega]; exact h
theorem D2 (a b c d e f g:aQ) (tl:ag) (X:aQ) (m:Nat) (t:ag) (i:Nat) (hi:i = tl.length + m + 7):(a :: b :: c :: d :: e :: f :: g :: (tl ++ t)).set i X = a :: b :: c :: d :: e :: f :: g :: (tl ++ t.set m X):=by
  subst hi
  simp only [List.set_cons_succ]
  rw [List.set_append_right _ _ (by omega),show tl.length + m - tl.length = m by omega]
theorem ng (L:List (List HuM)) (i:Nat):∀ k,k ≤ 41 → dt L (i * 41 + k) = wm L ((aF L).getD i .empty) (dt L (i * 41)) k
  | 0,_=>rfl
  | k + 1,h=>by
    have ih:=ng L i k (by omega)
    show dU L (dt L (i * 41 + k)) ((aF L).getD ((i * 41 + k) / 41) .empty) ((i * 41 + k) % 41) = _
    rw [ih,show (i * 41 + k) / 41 = i by omega,show (i * 41 + k) % 41 = k by omega]; rfl
theorem p9 (L:List (List HuM)):∀ (l:List ByteArray) (n:ByteArray) (b:ld),nD L (l ++ [n]) b = wm L n (nD L l b) 41
  | [],_,_=>rfl
  | a :: l,n,b=>by simp only [List.cons_append,nD]; exact p9 L l n _
theorem nT (L:List (List HuM)):∀ i,i ≤ (aF L).length → dt L (i * 41) = nD L ((aF L).take i) ⟨.empty,0,L.length⟩
  | 0,_=>by simp [nD,dt]
  | i + 1,h=>by
    have ih:=nT L i (by omega)
    have h1:=ng L i 41 (by omega)
    rw [show (i + 1) * 41 = i * 41 + 41 by omega,h1,ih,List.take_succ_eq_append_getElem (by omega),p9,List.getD_eq_getElem?_getD,List.getElem?_eq_getElem (by omega)]; rfl
theorem my (L:List (List HuM)):dt L ((aF L).length * 41) = eB L:=by
  rw [nT L _ (Nat.le_refl _),List.take_length]; rfl
theorem mR (L:List (List HuM)):∀ p,p ≤ (aF L).length * 41 →
    ((dt L p).name = .empty ∧ (dt L p).frame = 0 ∧ (dt L p).left = L.length ∨ (dt L p).name ∈ aF L ∧ 0 ≤ (dt L p).frame ∧ (dt L p).frame ≤ 40 ∧ (dt L p).left = gr L (dt L p).name (dt L p).frame ∧ (dt L p).left < L.length) ∧
    ∀ (i f:Nat) (hi:i < (aF L).length),f < 41 → i * 41 + f < p → (dt L p).left ≤ gr L (aF L)[i] f
  | 0,_=>⟨.inl ⟨rfl,rfl,rfl⟩,fun i f _ _ h=>by omega⟩
  | p + 1,h=>by
    obtain ⟨h1,h2⟩:=mR L p (by omega)
    have hi:p / 41 < (aF L).length:=by omega
    have e:dt L (p + 1) = dU L (dt L p) ((aF L)[p / 41]) (p % 41):=by
      show dU L (dt L p) ((aF L).getD (p / 41) .empty) (p % 41) = _
      rw [List.getD_eq_getElem?_getD,List.getElem?_eq_getElem hi]; rfl
    rw [e]
    unfold dU
    have hll:(dt L p).left ≤ L.length:=by
      rcases h1 with ⟨_,_,h3⟩ | ⟨_,_,_,_,h3⟩ <;> omega
    by_cases hc:gr L (aF L)[p / 41] ((p % 41:Nat):Int) < (dt L p).left
    · rw [if_pos hc]
      refine ⟨.inr ⟨List.getElem_mem _,by dsimp only; omega,by dsimp only; omega,rfl,by dsimp only; omega⟩,fun i f hif hf hlt=>?_⟩
      dsimp only
      by_cases hp:i * 41 + f < p
      · have:=h2 i f hif hf hp; omega
      · obtain rfl:i = p / 41:=by omega
        obtain rfl:f = p % 41:=by omega
        exact Nat.le_refl _
    · rw [if_neg hc]
      refine ⟨h1,fun i f hif hf hlt=>?_⟩
      by_cases hp:i * 41 + f < p
      · exact h2 i f hif hf hp
      · obtain rfl:i = p / 41:=by omega
        obtain rfl:f = p % 41:=by omega
        omega
theorem yb {L:List (List HuM)} (hlo:∀ ns ∈ L,OkS ns):(eB L).name = .empty ↔ (eB L).left = L.length:=by
  have h:=(mR L _ (Nat.le_refl _)).1
  rw [my] at h
  rcases h with ⟨h1,_,h3⟩ | ⟨h1,_,_,_,h3⟩
  · exact ⟨fun _=>h3,fun _=>h1⟩
  · refine ⟨fun e=>?_,fun e=>by omega⟩
    rw [e] at h1
    obtain ⟨ns,hns,hf⟩:=(qD L _).1 h1
    obtain ⟨y,hy,hyn⟩:=(dw ns _).1 hf
    have:=((hlo ns hns).part y hy).name
    rw [hyn] at this
    exact absurd this (by decide)
theorem jR (ps:List ar) (day:Int) (ss:List av) (hf:Ec ps ss) (σ:ag) :
    Spec Tryz.prog Dv [bx ps,ii' day,br ss] σ fun r σ'=>r = .ret (.tup [.str (k0 ps day ss).name,ii' (k0 ps day ss).frame,nn' (k0 ps day ss).left,ii' (jA ps day ss)]) ∧ σ' = σ:=by
  refine Spec.aC (Lr (by simp) ?_) (by simp [aA,cA,cQ,ab.pure]) (by simp [ab.pure,aA]) σ
  have hsv:=gV ps hf.n hf.fit day ss hf.sn
  simp only [bx,br] at hsv ⊢
  by_cases h:aW ps day ss = 0
  rotate_left
  · have he0:cR ps day ss = aW ps day ss:=by unfold cR; rw [if_pos h]
    have he:jA ps day ss = aW ps day ss:=by unfold jA; rw [he0,if_pos h]
    have hv:k0 ps day ss = ⟨.empty,0,0⟩:=by unfold k0; rw [he,if_neg h]
    rw [he,hv]
    refine aa _ ?_
    simp [EB]
    refine af.pure xR (hsv _) ?_
    simp [dm,h]
    rfl
  have hlf:=l0 ps day ss h
  have hnil:=vB h
  obtain ⟨hlo,hl6⟩:=vC (cu.1 h)
  rw [h] at hsv
  by_cases h0:a8 ps day ss = []
  · have he0:cR ps day ss = 9:=by unfold cR; rw [if_neg (by simp [h]),if_pos h0]
    have he:jA ps day ss = 9:=by unfold jA; rw [he0]; rfl
    have hv:k0 ps day ss = ⟨.empty,0,0⟩:=by unfold k0; rw [he]; rfl
    have hb:=List.eq_nil_of_length_eq_zero (hnil.2 h0)
    rw [he,hv]
    refine aa _ ?_
    simp [EB]
    refine af.pure xR (hsv _) ?_
    simp [dm,hb]
    rfl
  have he0:cR ps day ss = 0:=by unfold cR; rw [if_neg (by simp [h]),if_neg h0]
  have hE:jA ps day ss = if (eB (a8 ps day ss)).left = (a8 ps day ss).length then 4 else 0:=by unfold jA; rw [if_neg (by simp [he0])]
  have hR:k0 ps day ss = if jA ps day ss = 0 then eB (a8 ps day ss) else ⟨.empty,0,0⟩:=rfl
  have hbn:¬ (da ps day ss).length = 0:=fun e=>h0 (hnil.1 e)
  have hbI:¬ ((da ps day ss).length:Int) = 0:=by omega
  have hbE:¬ da ps day ss = []:=fun e=>hbn (by rw [e]; rfl)
  obtain ⟨L,hL⟩:∃ L,a8 ps day ss = L:=⟨_,rfl⟩
  rw [hL] at hlf hlo hl6 hE hR h0
  have hnl:(aF L).length ≤ 72:=by
    have h1:=gS (L.flatMap fun ns=>ns.map HuM.name)
    have h2:=gl (ships:=L) fun ns hn=>(hlo ns hn).len
    unfold bU at h2; unfold aF; omega
  have hlk:=fun σ=>oY L σ
  simp only [dm] at hlf hsv
  refine aa _ ?_
  simp [EB]
  refine af.pure xR (hsv _) ?_
  simp [hbn]
  refine af.pure Fm (hlf _) ?_
  simp
  refine af.pure Nu (hlk _) ?_
  simp
  refine AW.jT (by simp) fun asg' body' ca cb hps=>?_
  change po Tryz.prog (.func (.func sT) [] [.pval (.slice 1 (L.map bd))]) [.yieldf 6] (vX L (dt L 0) asg' body' .ready none) (wc 6 _ _)
  refine po.func JX ((nL L hl6 (fun ns hn=>(hlo ns hn).len) hnl 6 (vX L (dt L 0) asg' body' .ready none) (fun p s=>s = vX L (dt L p) asg' body' .ready none) ?_ rfl).mono ?_)
  · rintro i f hi s tl hf41 rfl hsl
    obtain ⟨n,hn⟩:∃ n,(aF L)[i] = n:=⟨_,rfl⟩
    have hbs:dt L (i * 41 + f + 1) = dU L (dt L (i * 41 + f)) n f:=by
      show dU L (dt L (i * 41 + f)) ((aF L).getD ((i * 41 + f) / 41) .empty) ((i * 41 + f) % 41) = _
      rw [show (i * 41 + f) / 41 = i by omega,show (i * 41 + f) % 41 = f by omega,List.getD_eq_getElem?_getD,List.getElem?_eq_getElem hi,hn]; rfl
    obtain ⟨B,hB⟩:∃ B,dt L (i * 41 + f) = B:=⟨_,rfl⟩
    rw [hB] at hbs
    simp only [hbs,hB,hn]
    clear hbs hB
    refine aB.round (e:=zB L) (D:=5) (pend:=none) ca cb hps (by simp [vX]) rfl ?_
    clear ca cb
    refine aa _ ?_
    simp [kN,jJ,vX,zB]
    refine ⟨_,_,_,_,_,_,_,⟨rfl,rfl,rfl,rfl,rfl,rfl,rfl⟩, ?_⟩
    refine aa _ ?_
    simp
    have g1:∀ (a b c d e f g X:aQ) (t:ag),(a :: b :: c :: d :: e :: f :: g :: (tl ++ X :: t))[tl.length + 7]? = some X:=fun a b c d e f g X t=>at7 a b c d e f g tl X 0 _ rfl _ (by omega)
    have g2:∀ (a b c d e f g X Y:aQ) (t:ag),(a :: b :: c :: d :: e :: f :: g :: (tl ++ X :: Y :: t))[tl.length + 8]? = some Y:=fun a b c d e f g X Y t=>at7 a b c d e f g tl Y 1 _ rfl _ (by omega)
    have s2:∀ (a b c d e f g X Y Z:aQ) (t:ag),(a :: b :: c :: d :: e :: f :: g :: (tl ++ X :: Y :: t)).set (tl.length + 8) Z = a :: b :: c :: d :: e :: f :: g :: (tl ++ X :: Z :: t):=fun a b c d e f g X Y Z t=>D2 a b c d e f g tl Z 1 _ _ (by omega)
    generalize hK1:tl.length + 7 = K1 at *
    generalize hK2:tl.length + 8 = K2 at *
    refine AW.loop (ι:=Nat) (fun j fr σ'=>∃ t,fr = { v:=[(6, .ptr 0 0),(7, .ptr 1 0),(8, .ptr 2 0),(12, .ptr K1 0),(13, .ptr K2 0),(40, .slice 1 (L.map bd)),(41, .int .i64 L.length),(42, .int .i64 j)],ds:=[] } ∧ σ' = .box [.str B.name] :: .box [ii' B.frame] :: .box [nn' B.left] :: .dead :: .dead :: .dfr :: .looprec 68 [(6, .ptr 0 0),(7, .ptr 1 0),(8, .ptr 2 0),(11, .pval (.slice 1 (L.map bd))),(38, .func (.func sT) [] [.pval (.slice 1 (L.map bd))])] [39] asg' body' 5 .busy none :: (tl ++ .box [.str n,ii' f] :: .box (lh (L.take j) n f) :: t) ∧ j ≤ L.length) (fun j=>L.length - j) 0 ⟨[],by simp,by simp [lh,bf],by omega⟩ ?_
    rintro j fr σ' ⟨t,rfl,rfl,hj⟩
    refine (Nat.lt_or_ge j L.length).elim (fun hlt=>?_) (fun hge=>?_)
    · obtain ⟨ns,hns⟩:∃ x,L[j] = x:=⟨_,rfl⟩
      have hok:=hlo ns (hns ▸ List.getElem_mem _)
      obtain ⟨k,hk5,hk⟩:=q9 hok n f
      have hwj:IntKind.i64.wrap ((j:Int) + 1) = ((j + 1:Nat):Int):=by rw [aj (by omega) (by omega)]; simp
      have hse:=mS ns hok n f
      rw [hk] at hse
      simp only [jJ] at hse
      have hcs:=fun q=>tB hlt n f q
      simp only [hns,hk] at hcs
      have hcl:=fun q=>xS (L.take j) n f q
      have htl:(L.take j).length ≤ 6:=by simp; omega
      have hw1:∀ q,IntKind.i64.wrap ((bf (L.take j) n f q:Int) + 1) = ((bf (L.take j) n f q + 1:Nat):Int):=fun q=>by
        have:=hcl q
        rw [aj (by omega) (by omega)]; simp
      have hcv:lh (L.take j) n f = [nn' (bf (L.take j) n f 0),nn' (bf (L.take j) n f 1),nn' (bf (L.take j) n f 2),nn' (bf (L.take j) n f 3),nn' (bf (L.take j) n f 4),nn' (bf (L.take j) n f 5)]:=rfl
      rw [hcv]
      rcases (by omega:k = 0 ∨ k = 1 ∨ k = 2 ∨ k = 3 ∨ k = 4 ∨ k = 5) with e | e | e | e | e | e
      all_goals
        subst e
        refine aa _ ?_
        simp [hlt,hns,bd,g1,g2]
        refine af.pure Jw (hse _ _ (at7 _ _ _ _ _ _ _ tl _ (t.length + 2) _ (by simp) _ (by omega))) ?_
        simp [g1,g2,s2,hwj,hw1]
        refine ⟨j + 1,by omega,by simp, ?_,by omega⟩
        simp [lh,hcs]
    obtain rfl:j = L.length:=by omega
    rw [List.take_length]
    have hmx:=fun σ=>pK (bf L n f 0) [bf L n f 1,bf L n f 2,bf L n f 3,bf L n f 4,bf L n f 5] (by simp) σ
    have hwo:[bf L n f 1,bf L n f 2,bf L n f 3,bf L n f 4,bf L n f 5].foldl max (bf L n f 0) = gr L n f:=rfl
    simp only [hwo,List.map_cons,List.map_nil] at hmx
    have hnl2:¬ L.length < L.length:=by omega
    by_cases hb:gr L n f < B.left
    · have hbe:dU L B n f = ⟨n,f,gr L n f⟩:=by unfold dU; rw [if_pos hb]
      have hbI:(gr L n f:Int) < B.left:=by omega
      rw [hbe]
      refine aa _ ?_
      simp [hnl2,lh,g1,g2,s2]
      refine af.pure IZ (hmx _) ?_
      simp [hb,g1]
      refine ⟨by omega,68,_,[39],asg',body',5, .busy,none,rfl,_, ?_, ?_,rfl,rfl⟩
      · exact ⟨_,rfl⟩
      · rfl
    · have hbe:dU L B n f = B:=by unfold dU; rw [if_neg hb]
      have hbI:¬ (gr L n f:Int) < B.left:=by omega
      rw [hbe]
      refine aa _ ?_
      simp [hnl2,lh,g1,g2,s2]
      refine af.pure IZ (hmx _) ?_
      simp [hb,g1]
      refine ⟨68,_,[39],asg',body',5, .busy,none,rfl,_, ?_, ?_,rfl,rfl⟩
      · exact ⟨_,rfl⟩
      · rfl
  · rintro r σ' ⟨rfl,s,tl,rfl,hsl,rfl⟩
    refine ⟨68,zB L,[39],asg',body',5, .ready,none,by simp [vX],by simp, ?_⟩
    simp [vX]
    rw [my]
    have hno:=yb hlo
    have hB:(⟨#[]⟩:ByteArray) = .empty:=rfl
    refine ⟨fun hb=>?_,fun hb=>?_⟩
    · have hbe:(eB L).name = .empty:=by rw [toList_data] at hb; exact data_inj hb
      rw [if_pos (hno.1 hbe)] at hE
      rw [hE,if_neg (by decide)] at hR
      rw [hE,hR]
      exact ⟨rfl,rfl,rfl,rfl⟩
    · have hbe:(eB L).name ≠ .empty:=fun e=>hb (by rw [e,toList_data]; rfl)
      rw [if_neg (fun e=>hbe (hno.2 e))] at hE
      rw [hE,if_pos rfl] at hR
      rw [hE,hR]
      exact ⟨rfl,rfl,rfl,rfl⟩
def cutAt (b:UInt8):List UInt8 → List (List UInt8)
  | []=>[[]]
  | c :: r=>if c = b then [] :: cutAt b r else match cutAt b r with
    | []=>[[c]]
    | p :: q=>(c :: p) :: q
theorem ki (b:UInt8):∀ l,cutAt b l ≠ []
  | []=>by simp [cutAt]
  | c :: r=>by
    simp only [cutAt]
    split
    · simp
    · split <;> simp
def bo (b:UInt8):List (List UInt8) → List UInt8
  | []=>[]
  | [p]=>p
  | p :: q :: r=>p ++ b :: bo b (q :: r)
theorem Be (b:UInt8):∀ l,Lib.join l [b] = bo b l
  | []=>rfl
  | [p]=>by simp [Lib.join,bo,List.intercalate,List.intersperse]
  | p :: q :: r=>by
    have:=Be b (q :: r)
    unfold Lib.join List.intercalate at this ⊢
    simp only [bo] at this ⊢
    rw [← this]; simp [List.intersperse]
theorem ik (b:UInt8):∀ (p r:List UInt8),b ∉ p → cutAt b (p ++ b :: r) = p :: cutAt b r
  | [],r,_=>by simp [cutAt]
  | c :: p,r,h=>by
    have hc:c ≠ b:=fun e=>h (by simp [e])
    have ih:=ik b p r fun e=>h (by simp [e])
    simp only [List.cons_append,cutAt,if_neg hc,ih]
theorem jq (b:UInt8):∀ (p:List UInt8),b ∉ p → cutAt b p = [p]
  | [],_=>rfl
  | c :: p,h=>by
    have hc:c ≠ b:=fun e=>h (by simp [e])
    have ih:=jq b p fun e=>h (by simp [e])
    simp only [cutAt,if_neg hc,ih]
theorem nJ (b:UInt8):∀ {l:List (List UInt8)},l ≠ [] → (∀ p ∈ l,b ∉ p) → cutAt b (bo b l) = l
  | [],h,_=>absurd rfl h
  | [p],_,h=>jq b p (h p (by simp))
  | p :: q :: r,_,h=>by
    simp only [bo]
    rw [ik b p _ (h p (by simp)),nJ b (by simp) fun x hx=>h x (by simp [hx])]
theorem qN (b:UInt8) (p:List UInt8) {q:List (List UInt8)} (h:q ≠ []):bo b (p :: q) = p ++ b :: bo b q:=by
  cases q with
  | nil=>exact absurd rfl h
  | cons a r=>rfl
theorem kJ (b:UInt8):∀ (l:List UInt8),bo b (cutAt b l) = l
  | []=>rfl
  | c :: r=>by
    have ih:=kJ b r
    have hne:=ki b r
    simp only [cutAt]
    split
    · rename_i h
      rw [qN b [] hne,ih,h]; rfl
    · cases hq:cutAt b r with
      | nil=>exact absurd hq hne
      | cons p q=>
        rw [hq] at ih
        cases q with
        | nil=>simp only [bo] at ih ⊢; rw [ih]
        | cons a q=>simp only [bo,List.cons_append] at ih ⊢; rw [ih]
theorem xW (b:UInt8):∀ (l:List UInt8), ∀ p ∈ cutAt b l,b ∉ p
  | [],p,h=>by simp [cutAt] at h; subst h; simp
  | c :: r,p,h=>by
    have ih:=xW b r
    have hne:=ki b r
    simp only [cutAt] at h
    split at h
    · rcases List.mem_cons.1 h with rfl | h
      · simp
      · exact ih p h
    · rename_i hc
      cases hq:cutAt b r with
      | nil=>exact absurd hq hne
      | cons x q=>
        rw [hq] at h ih
        rcases List.mem_cons.1 h with rfl | h
        · intro e
          rcases List.mem_cons.1 e with e | e
          · exact hc e.symm
          · exact ih x (by simp) e
        · exact ih p (by simp [h])
/-! ### a line of a text -/
theorem kF (b:UInt8):∀ (l:List UInt8),(b ∉ l ∧ Lib.index l [b] = -1) ∨ ∃ p r,l = p ++ b :: r ∧ b ∉ p ∧ Lib.index l [b] = p.length
  | []=>.inl ⟨by simp,by simp [Lib.index]⟩
  | c :: r=>by
    by_cases h:c = b
    · subst h
      exact .inr ⟨[],r,rfl,by simp,by simp [Lib.index,List.isPrefixOf]⟩
    · have hp:List.isPrefixOf [b] (c :: r) = false:=by
        simp [List.isPrefixOf]; exact fun e=>h e.symm
      rcases kF b r with ⟨h1,h2⟩ | ⟨p,q,h1,h2,h3⟩
      · refine .inl ⟨by simp [h1]; exact fun e=>h e.symm, ?_⟩
        simp [Lib.index,hp,h2]
      · refine .inr ⟨c :: p,q,by rw [h1]; rfl,by simp [h2]; exact fun e=>h e.symm, ?_⟩
        rw [Lib.index,hp,h3]
        have:((p.length:Int) == -1) = false:=by simp
        simp [this]
theorem Dx (b:UInt8) (l:List UInt8):Lib.cut l [b] = match cutAt b l with
    | []=>(l,[],false)
    | [_]=>(l,[],false)
    | p :: q=>(p,bo b q,true):=by
  rcases kF b l with ⟨h1,h2⟩ | ⟨p,r,h1,h2,h3⟩
  · rw [jq b l h1]
    unfold Lib.cut
    rw [h2]; simp
  · have h4:cutAt b l = p :: cutAt b r:=by rw [h1]; exact ik b p r h2
    rw [h4]
    unfold Lib.cut
    rw [h3,if_pos (by omega)]
    cases hq:cutAt b r with
    | nil=>exact absurd hq (ki b r)
    | cons a q=>
      simp only
      rw [← hq,kJ,h1]
      simp
theorem qX (b:UInt8):∀ (k:Nat) (l:List UInt8),l.count b ≤ k → Lib.splitK [b] 0 k l = cutAt b l
  | 0,l,h=>by
    have:b ∉ l:=by rw [← List.count_eq_zero]; omega
    rw [jq b l this]; rfl
  | k + 1,l,h=>by
    unfold Lib.splitK
    rcases kF b l with ⟨h1,h2⟩ | ⟨p,r,h1,h2,h3⟩
    · rw [h2,jq b l h1]; rfl
    · have h4:cutAt b l = p :: cutAt b r:=by rw [h1]; exact ik b p r h2
      rw [h3,if_neg (by simp),h4]
      have h5:l.count b = p.count b + (r.count b + 1):=by rw [h1,List.count_append,List.count_cons_self]
      have e:(((p.length:Int)).toNat + 0) = p.length:=by simp
      rw [e,show ((p.length:Int).toNat + [b].length) = p.length + 1 by simp]
      have e1:l.take p.length = p:=by rw [h1]; simp
      have e2:l.drop (p.length + 1) = r:=by rw [h1]; simp
      rw [e1,e2,qX b k r (by omega)]
theorem lA (b:UInt8):∀ (k:Nat) (l:List UInt8),l.length < k → Lib.countFrom [b] k l = l.count b
  | 0,l,h=>by omega
  | k + 1,l,h=>by
    unfold Lib.countFrom
    rcases kF b l with ⟨h1,h2⟩ | ⟨p,r,h1,h2,h3⟩
    · rw [h2]; simp; exact (List.count_eq_zero.2 h1).symm
    · rw [h3,if_neg (by simp),show ((p.length:Int).toNat + [b].length) = p.length + 1 by simp]
      have e2:l.drop (p.length + 1) = r:=by rw [h1]; simp
      have e3:l.length = p.length + (r.length + 1):=by rw [h1]; simp
      rw [e2,lA b k r (by omega),h1,List.count_append,List.count_cons_self,List.count_eq_zero.2 h2]; omega
/-! ### numerals -/
def sP (c:UInt8):Prop:=48 ≤ c.toNat ∧ c.toNat ≤ 57
def vP (a:Nat) (l:List UInt8):Nat:=l.foldl (fun a c=>a * 10 + (c.toNat - 48)) a
theorem tn {d:Nat} (h:d < 10):(UInt8.ofNat (48 + d)).toNat = 48 + d:=by
  rw [UInt8.toNat_ofNat']; omega
theorem hU (u:Nat):∀ c ∈ Lib.decDigits u,sP c:=by
  induction u using Nat.strongRecOn with
  | _ u ih=>
    intro c hc
    rw [Lib.decDigits] at hc
    split at hc
    · rw [List.mem_singleton.1 hc]
      have:=tn (d:=u) (by omega)
      unfold sP; omega
    · rcases List.mem_append.1 hc with h | h
      · exact ih (u / 10) (by omega) c h
      · rw [List.mem_singleton.1 h]
        have:=tn (d:=u % 10) (by omega)
        unfold sP; omega
theorem ny (u:Nat):vP 0 (Lib.decDigits u) = u:=by
  induction u using Nat.strongRecOn with
  | _ u ih=>
    rw [Lib.decDigits]
    split
    · rename_i h
      simp only [vP,List.foldl_cons,List.foldl_nil,tn h]; omega
    · have:=ih (u / 10) (by omega)
      unfold vP at this ⊢
      rw [List.foldl_append,this,List.foldl_cons,List.foldl_nil,tn (by omega)]; omega
theorem ot (u:Nat):Lib.decDigits u ≠ []:=by
  rw [Lib.decDigits]; split <;> simp
theorem Bk:∀ (l:List UInt8) (a:Nat),a ≤ vP a l
  | [],a=>Nat.le_refl _
  | c :: l,a=>by
    have:=Bk l (a * 10 + (c.toNat - 48))
    simp only [vP,List.foldl_cons] at this ⊢
    omega
theorem nn:∀ (l:List UInt8) (a:Nat),(∀ c ∈ l,sP c) → vP a l < 9223372036854775808 → Lib.parseUint10 a l = .ok (vP a l)
  | [],a,_,_=>rfl
  | c :: l,a,h,hv=>by
    have h1:48 ≤ c.toNat ∧ c.toNat ≤ 57:=h c (by simp)
    have h2:=Bk l (a * 10 + (c.toNat - 48))
    simp only [vP,List.foldl_cons] at hv h2
    simp only [Lib.parseUint10]
    rw [if_pos h1,if_neg (by omega),if_neg (by omega),nn l _ (fun d hd=>h d (by simp [hd])) hv]
    rfl
theorem o5 {n:Int} (h:0 ≤ n):Lib.itoa n = Lib.decDigits n.toNat:=by unfold Lib.itoa; rw [if_neg (by omega)]
theorem B8 {n:Int} (h:0 ≤ n) (h2:n ≤ 1000000000):Lib.atoiAll (Lib.itoa n) = .ok n:=by
  rw [o5 h]
  have hd:=hU n.toNat
  have hv:=ny n.toNat
  cases hl:Lib.decDigits n.toNat with
  | nil=>exact absurd hl (ot _)
  | cons c r=>
    rw [hl] at hd hv
    have hc:=hd c (by simp)
    unfold sP at hc
    unfold Lib.atoiAll
    dsimp only
    rw [if_neg (by omega)]
    unfold Lib.parseMag
    rw [if_neg (by simp),nn (c :: r) 0 hd (by omega),hv]
    simp only
    rw [if_neg (by omega),if_neg (by omega),if_neg (by omega)]
    congr 1; omega
def uk (l:List UInt8):Int:=
  if ¬ (1 ≤ l.length ∧ l.length ≤ 9) ∨ (1 < l.length ∧ l.head? = some 48) then -1 else if l.all (fun c=>decide (48 ≤ c.toNat ∧ c.toNat ≤ 57)) then (vP 0 l:Int) else -1
theorem s5 {u k:Nat} (hk:1 ≤ k) (h:u < 10 ^ k):Lib.nDigits u ≤ k:=by
  induction k generalizing u with
  | zero=>omega
  | succ k ih=>
    by_cases h10:u < 10
    · rw [Lib.nDigits_small h10]; omega
    · rw [Lib.nDigits_big h10]
      rcases Nat.eq_zero_or_pos k with h0 | h0
      · subst h0; simp at h; omega
      · have:=ih (u:=u / 10) h0 (by rw [Nat.pow_succ] at h; omega)
        omega
theorem tq (u:Nat) (h:10 ≤ u):(Lib.decDigits u).head? ≠ some 48:=by
  induction u using Nat.strongRecOn with
  | _ u ih=>
    rw [Lib.decDigits,dif_neg (by omega)]
    by_cases h1:u / 10 < 10
    · rw [Lib.decDigits,dif_pos h1]
      simp only [List.singleton_append,List.head?_cons,ne_eq,Option.some.injEq]
      intro e
      have:=congrArg UInt8.toNat e
      rw [tn h1] at this
      simp at this
      omega
    · have:=ih (u / 10) (by omega) (by omega)
      cases hl:Lib.decDigits (u / 10) with
      | nil=>exact absurd hl (ot _)
      | cons c r=>rw [hl] at this; simpa using this
theorem ke {n:Int} (h:0 ≤ n) (h2:n < 1000000000):uk (Lib.itoa n) = n:=by
  rw [o5 h]
  have hd:=hU n.toNat
  have hv:=ny n.toNat
  have hlen:=Lib.decDigits_length n.toNat
  have h1:=s5 (u:=n.toNat) (k:=9) (by decide) (by omega)
  have h3:=Lib.nDigits_pos n.toNat
  unfold uk
  rw [if_neg,if_pos,hv]
  · omega
  · rw [List.all_eq_true]; intro c hc; exact decide_eq_true (hd c hc)
  · rintro (h4 | ⟨h4,h5⟩)
    · omega
    · by_cases h10:n.toNat < 10
      · rw [Lib.nDigits_small h10] at hlen; omega
      · exact tq n.toNat (by omega) h5
theorem lX {n:Int} (h:0 ≤ n) {k:Nat} (hk:1 ≤ k) (h2:n < 10 ^ k):(Lib.itoa n).length ≤ k:=by
  rw [o5 h,Lib.decDigits_length]
  refine s5 hk ?_
  have:((n.toNat:Nat):Int) < ((10 ^ k:Nat):Int):=by
    rw [Int.toNat_of_nonneg h]; push_cast; exact h2
  exact Int.ofNat_lt.1 this
theorem py {n:Int} (h:0 ≤ n) {b:UInt8} (hb:b.toNat < 48):b ∉ Lib.itoa n:=by
  rw [o5 h]
  intro hm
  have:=hU _ b hm
  unfold sP at this; omega
abbrev Wd:=List UInt8
def aL (b:ByteArray):Wd:=b.data.toList
theorem fL (w:Wd):aL (bytes w) = w:=n7 w
theorem cU (b:ByteArray):bytes (aL b) = b:=om b
def eh (k:Int):Wd:=if k = 1 then [112,108,97,116,101] else if k = 2 then [98,101,97,109] else if k = 3 then [101,110,103,105,110,101] else if k = 4 then [116,97,110,107] else if k = 5 then [112,105,112,101] else []
def jr (x:HuM):List Wd:=aL x.name :: eh x.kind :: Lib.itoa x.first :: Lib.itoa x.last :: Lib.itoa x.lo :: Lib.itoa x.hi :: x.on.map aL
def lR:Wd:=[112,97,114,116]
def iL:Wd:=[97,100,100]
def fb:Wd:=[116,97,107,101]
def gR:Wd:=[115,119,97,112]
def chB (c:ChM):List Wd:=Lib.itoa c.day :: (if c.what = 1 then iL :: jr c.part else if c.what = 2 then [fb,aL c.name] else gR :: aL c.name :: jr c.part)
def de (x:HuM):List Wd:=lR :: jr x
def pq (p:ar):List (List Wd):=p.ship.map de ++ p.chs.map chB
def eO (r:List Wd):Wd:=bo 32 r ++ [10]
def fY (p:ar):Wd:=(pq p).flatMap eO
/-! ### reading -/
def zHu:HuM:=⟨.empty,0,0,0,[],0,0⟩
def th (w:Wd):Option Int:=if w = eh 1 then some 1 else if w = eh 2 then some 2 else if w = eh 3 then some 3 else if w = eh 4 then some 4 else if w = eh 5 then some 5 else none
def Gl (w:Wd):Int:=if w = [] then 0 else match th w with
  | some k=>k
  | none=>-1
def jG (w:Wd):Option Int:=match Lib.atoiAll w with
  | .ok v=>some v
  | _=>none
def di:List Wd → Option HuM
  | n :: k :: a :: b :: c :: d :: on=>match th k,jG a,jG b,jG c,jG d with
    | some k,some a,some b,some c,some d=>some ⟨bytes n,k,a,b,on.map bytes,c,d⟩
    | _,_,_,_,_=>none
  | _=>none
def chP : List Wd → Option ChM
  | d :: w :: r=>match jG d with
    | none=>none
    | some d=>if w = iL then (di r).map fun x=>⟨1,d, .empty,x⟩
      else if w = fb then match r with
        | [n]=>some ⟨2,d,bytes n,zHu⟩
        | _=>none
      else if w = gR then match r with
        | n :: r=>(di r).map fun x=>⟨3,d,bytes n,x⟩
        | []=>none
      else none
  | _=>none
def yq (r:List Wd) (p:ar):Option ar:=if r.head? = some lR then (di r.tail).map fun x=>⟨p.ship ++ [x],p.chs⟩ else (chP r).map fun c=>⟨p.ship,p.chs ++ [c]⟩
def rb:List Wd → ar → Option ar
  | [],_=>none
  | [l],p=>if l = [] then some p else none
  | r :: q :: rs,p=>match yq (cutAt 32 r) p with
    | none=>none
    | some p'=>rb (q :: rs) p'
def xA:List Wd → HuM
  | n :: k :: a :: b :: c :: d :: on=>⟨bytes n,Gl k,uk a,uk b,on.map bytes,uk c,uk d⟩
  | _=>zHu
def chR:List Wd → ChM
  | []=>⟨0,0, .empty,zHu⟩
  | d :: r=>if 2 < (d :: r).length ∧ r.head? = some iL then ⟨1,uk d, .empty,xA r.tail⟩
    else if (d :: r).length = 3 ∧ r.head? = some fb then ⟨2,uk d,bytes (r.tail.head?.getD []),zHu⟩
    else if 3 < (d :: r).length ∧ r.head? = some gR then ⟨3,uk d,bytes (r.tail.head?.getD []),xA r.tail.tail⟩
    else ⟨0,uk d, .empty,zHu⟩
def yg (r:List Wd) (p:ar):ar:=if r.head? = some lR then ⟨p.ship ++ [xA r.tail],p.chs⟩ else ⟨p.ship,p.chs ++ [chR r]⟩
def nP:List Wd → ar → ar
  | [],p=>p
  | [_],p=>p
  | r :: q :: rs,p=>nP (q :: rs) (yg (cutAt 32 r) p)
def sC (s:Wd):Option ar:=rb (cutAt 10 s) ⟨[],[]⟩
def p7 (s:Wd):ar:=nP (cutAt 10 s) ⟨[],[]⟩
/-! ### what is told of a part -/
structure jy (x:HuM):Prop where
  ok:pL x
  on:∀ n ∈ x.on,cg n = true
  len:x.on.length ≤ 12
theorem yG (s:ByteArray):∀ (n i:Nat),jd s i n = true → ∀ j,i ≤ j → j < i + n → mQ s j = true
  | 0,i,_,j,h1,h2=>by omega
  | n + 1,i,h,j,h1,h2=>by
    simp only [jd,Bool.and_eq_true] at h
    by_cases e:j = i
    · rw [e]; exact h.1
    · exact yG s n (i + 1) h.2 j (by omega) (by omega)
theorem ku {s:ByteArray} (h:cg s = true):(∀ c ∈ aL s,48 ≤ c.toNat) ∧ aL s ≠ [] ∧ (aL s).length ≤ 16:=by
  simp only [cg,Bool.and_eq_true,decide_eq_true_eq] at h
  obtain ⟨⟨h1,h2⟩,h3⟩:=h
  have hsz:(aL s).length = s.size:=by unfold aL; simp
  refine ⟨fun c hc=>?_,fun e=>by rw [e] at hsz; simp at hsz; omega,by omega⟩
  obtain ⟨i,hi,rfl⟩:=List.mem_iff_getElem.1 hc
  have:=yG s s.size 0 h3 i (by omega) (by omega)
  have hb:nh s i = ((aL s)[i]).toNat:=by
    have hi':i < s.data.size:=by rw [hsz] at hi; exact hi
    unfold nh aL
    rw [Array.getElem?_eq_getElem hi',Option.getD_some]; rfl
  simp only [mQ,letterF,nA,Bool.or_eq_true,Bool.and_eq_true,decide_eq_true_eq] at this
  omega
theorem rF {s:ByteArray} (h:cg s = true) {b:UInt8} (hb:b.toNat < 48):b ∉ aL s:=fun hm=>by
  have:=(ku h).1 b hm; omega
theorem Et (k:Int) {b:UInt8} (hb:b.toNat < 48):b ∉ eh k:=by
  have h97:∀ c ∈ eh k,48 ≤ c.toNat:=by
    unfold eh
    repeat' split
    all_goals decide
  exact fun hm=>by have:=h97 b hm; omega
theorem ja {x:HuM} (h:pL x):(1 ≤ x.kind ∧ x.kind ≤ 5) ∧ (0 ≤ x.first ∧ x.first ≤ 40) ∧ (0 ≤ x.last ∧ x.last ≤ 40) ∧ (1 ≤ x.lo ∧ x.lo ≤ 1000000) ∧ 1 ≤ x.hi ∧ x.hi ≤ 1000000:=by
  have h1:=h.range
  have h2:=h.span
  simp only [cP,bu,Bool.or_eq_false_iff,Bool.not_eq_false',Bool.and_eq_true,decide_eq_true_iff,beq_eq_false_iff_ne] at h1
  have h4:1 ≤ x.lo ∧ x.lo ≤ x.hi ∧ x.hi ≤ 1000000:=by
    unfold ew gi at h2
    dsimp only at h2
    by_cases hc:(!bu x.lo 1 1000000 || !bu x.hi 1 1000000) = true
    · rw [if_pos hc] at h2; exact absurd h2 (by omega)
    · rw [if_neg hc] at h2
      by_cases hg:x.lo > x.hi
      · rw [if_pos hg] at h2; exact absurd h2 (by omega)
      · simp [bu] at hc
        omega
  omega
theorem ub {x:HuM} (h:jy x) {b:UInt8} (hb:b.toNat < 48):∀ w ∈ jr x,b ∉ w:=by
  obtain ⟨_,h1,h2,h3,h4⟩:=ja h.ok
  intro w hw
  simp only [jr,List.mem_cons,List.mem_map] at hw
  rcases hw with rfl | rfl | rfl | rfl | rfl | rfl | ⟨n,hn,rfl⟩
  · exact rF h.ok.name hb
  · exact Et _ hb
  · exact py (by omega) hb
  · exact py (by omega) hb
  · exact py (by omega) hb
  · exact py (by omega) hb
  · exact rF (h.on n hn) hb
theorem rL:∀ l:List ByteArray,(l.map aL).map bytes = l
  | []=>rfl
  | a :: l=>by simp only [List.map_cons,cU,rL l]
theorem Fq {k:Int} (h:1 ≤ k ∧ k ≤ 5):th (eh k) = some k:=by
  rcases (by omega:k = 1 ∨ k = 2 ∨ k = 3 ∨ k = 4 ∨ k = 5) with rfl | rfl | rfl | rfl | rfl <;> decide
theorem jj {n:Int} (h:0 ≤ n) (h2:n ≤ 1000000000):jG (Lib.itoa n) = some n:=by unfold jG; rw [B8 h h2]
theorem vW {x:HuM} (h:jy x):di (jr x) = some x:=by
  obtain ⟨h0,h1,h2,h3,h4⟩:=ja h.ok
  unfold jr
  simp only [di,Fq h0,jj (n:=x.first) (by omega) (by omega),jj (n:=x.last) (by omega) (by omega),jj (n:=x.lo) (by omega) (by omega),jj (n:=x.hi) (by omega) (by omega),rL,cU]
theorem rI {x:HuM} (h:jy x):xA (jr x) = x:=by
  obtain ⟨h0,h1,h2,h3,h4⟩:=ja h.ok
  have hk:Gl (eh x.kind) = x.kind:=by
    rcases (by omega:x.kind = 1 ∨ x.kind = 2 ∨ x.kind = 3 ∨ x.kind = 4 ∨ x.kind = 5) with e | e | e | e | e <;> rw [e] <;> decide
  unfold jr
  simp only [xA,hk,ke (n:=x.first) (by omega) (by omega),ke (n:=x.last) (by omega) (by omega),ke (n:=x.lo) (by omega) (by omega),ke (n:=x.hi) (by omega) (by omega),rL,cU]
theorem kA (x:HuM):(jr x).length = x.on.length + 6:=by simp [jr]
/-! ### what is told of a change -/
structure qY (c:ChM):Prop where
  day:0 ≤ c.day ∧ c.day ≤ 40000
  what:c.what = 1 ∨ c.what = 2 ∨ c.what = 3
  name:c.what ≠ 1 → cg c.name = true
  none:c.what = 1 → c.name = .empty
  part:c.what ≠ 2 → jy c.part
  bare:c.what = 2 → c.part = zHu
theorem G6 {c:ChM} (h:qY c) {b:UInt8} (hb:b.toNat < 48):∀ w ∈ chB c,b ∉ w:=by
  have hw:b ∉ iL ∧ b ∉ fb ∧ b ∉ gR:=by
    refine ⟨fun hm=>?_,fun hm=>?_,fun hm=>?_⟩ <;>
    · simp [iL,fb,gR] at hm
      rcases hm with rfl | rfl | rfl | rfl <;> simp at hb
  intro w hm
  have h1:=h.what
  simp only [chB,List.mem_cons] at hm
  rcases hm with rfl | hm
  · exact py h.day.1 hb
  · split at hm
    · rcases List.mem_cons.1 hm with rfl | hm
      · exact hw.1
      · exact ub (h.part (by omega)) hb w hm
    · split at hm
      · simp only [List.mem_cons,List.not_mem_nil,or_false] at hm
        rcases hm with rfl | rfl
        · exact hw.2.1
        · exact rF (h.name (by omega)) hb
      · rcases List.mem_cons.1 hm with rfl | hm
        · exact hw.2.2
        · rcases List.mem_cons.1 hm with rfl | hm
          · exact rF (h.name (by omega)) hb
          · exact ub (h.part (by omega)) hb w hm
theorem IT {c:ChM} (h:qY c):chP (chB c) = some c:=by
  have hd:=jj h.day.1 (by have:=h.day.2; omega)
  obtain ⟨what,day,name,part⟩:=c
  unfold chB
  rcases h.what with e | e | e
  · dsimp only at e hd; subst e
    have h2:name = .empty:=h.none rfl
    subst h2
    rw [if_pos rfl]
    simp only [chP,hd,if_true]
    rw [vW (h.part (by intro e; cases e))]; rfl
  · dsimp only at e hd; subst e
    have h2:part = zHu:=h.bare rfl
    subst h2
    rw [if_neg (show ¬ (2:Int) = 1 by decide),if_pos rfl]
    simp only [chP,hd,if_neg (show ¬ fb = iL by decide),if_true,cU]
  · dsimp only at e hd; subst e
    rw [if_neg (show ¬ (3:Int) = 1 by decide),if_neg (show ¬ (3:Int) = 2 by decide)]
    simp only [chP,hd,if_neg (show ¬ gR = iL by decide),if_neg (show ¬ gR = fb by decide),if_true,cU]
    rw [vW (h.part (by intro e; cases e))]; rfl
theorem Gs {c:ChM} (h:qY c):chR (chB c) = c:=by
  have hd:=ke h.day.1 (by have:=h.day.2; omega)
  obtain ⟨what,day,name,part⟩:=c
  unfold chB
  rcases h.what with e | e | e
  · dsimp only at e hd; subst e
    have h2:name = .empty:=h.none rfl
    subst h2
    rw [if_pos rfl]
    unfold chR
    dsimp only
    rw [if_pos ⟨by simp [kA],rfl⟩]
    simp only [hd,List.tail_cons]
    rw [rI (h.part (by intro e; cases e))]
  · dsimp only at e hd; subst e
    have h2:part = zHu:=h.bare rfl
    subst h2
    rw [if_neg (show ¬ (2:Int) = 1 by decide),if_pos rfl]
    unfold chR
    dsimp only
    rw [if_neg (fun e=>absurd e.2 (by simp [fb,iL])),if_pos ⟨rfl,rfl⟩]
    simp only [hd,List.tail_cons,List.head?_cons,Option.getD_some,cU]
  · dsimp only at e hd; subst e
    rw [if_neg (show ¬ (3:Int) = 1 by decide),if_neg (show ¬ (3:Int) = 2 by decide)]
    unfold chR
    dsimp only
    rw [if_neg (fun e=>absurd e.2 (by simp [gR,iL])),if_neg (fun e=>absurd e.2 (by simp [gR,fb])),if_pos ⟨by simp [kA],rfl⟩]
    simp only [hd,List.tail_cons,List.head?_cons,Option.getD_some,cU]
    rw [rI (h.part (by intro e; cases e))]
theorem xh {c:ChM} (h:qY c):(chB c).head? ≠ some lR:=by
  intro e
  have e1:Lib.itoa c.day = lR:=by simpa [chB] using e
  have:(112:UInt8) ∈ Lib.itoa c.day:=by rw [e1]; decide
  rw [o5 h.day.1] at this
  have:=hU _ _ this
  unfold sP at this
  simp at this
/-! ### plans without an error can be told -/
theorem A6 {x:HuM} {before others:List HuM} (h:bn aP x before others = 0) (hb:∀ y ∈ before,cg y.name = true) (hl:before.length ≤ 12):jy x:=by
  obtain ⟨h1,_,h3⟩:=(o9 _ _ _).1 h
  refine ⟨h1,fun n hn=>?_, ?_⟩
  · obtain ⟨y,hy,rfl⟩:=(h3 n hn).1
    exact hb y hy
  · have hsub:x.on ⊆ before.map HuM.name:=fun n hn=>by
      obtain ⟨y,hy,rfl⟩:=(h3 n hn).1
      exact List.mem_map_of_mem hy
    have:=List.Nodup.length_le_of_subset h1.on hsub
    simp at this; omega
theorem DH {l:List HuM} (h:OkS l):∀ x ∈ l,jy x:=by
  intro x hx
  obtain ⟨a,b,rfl⟩:=List.append_of_mem hx
  have hon:=h.on a x b rfl
  refine ⟨h.part x hx,fun n hn=>?_,fC h x hx⟩
  obtain ⟨y,hy,rfl,_⟩:=hon n hn
  exact (h.part y (by simp [hy])).name
theorem Hc {l:List HuM} (hl:OkS l) {c:ChM} {last:Int} (h0:0 ≤ last) (h1:last ≤ c.day) (h2:c.day ≤ 40000) (h3:fj c = true) (h4:(aZ l c).2 = 0):qY c:=by
  have hnm:∀ y ∈ l,cg y.name = true:=fun y hy=>(hl.part y hy).name
  have hb:=h3
  simp only [fj,Bool.or_eq_true,Bool.and_eq_true,decide_eq_true_eq] at hb
  have hw:c.what = 1 ∨ c.what = 2 ∨ c.what = 3:=by
    rcases hb with (h | h) | h
    · exact .inl h.1
    · exact .inr (.inl h.1)
    · exact .inr (.inr h)
  have hname:c.what ≠ 1 → cg c.name = true:=fun hne=>by
    unfold aZ at h4
    rw [if_neg hne] at h4
    by_cases h5:findF l c.name < 0
    · rw [if_pos h5] at h4; exact absurd h4 (by decide)
    · obtain ⟨y,hy,e⟩:=(dw l c.name).1 (by omega)
      rw [← e]; exact hnm y hy
  refine ⟨⟨by omega,h2⟩,hw,hname,fun e=>?_,fun e=>?_,fun e=>?_⟩
  · rcases hb with (h | h) | h
    · exact h.2
    · omega
    · omega
  · unfold aZ at h4
    by_cases h6:c.what = 1
    · rw [if_pos h6] at h4
      by_cases h7:12 ≤ l.length
      · rw [if_pos h7] at h4; exact absurd h4 (by decide)
      · rw [if_neg h7] at h4
        exact A6 h4 hnm (by omega)
    · rw [if_neg h6] at h4
      by_cases h5:findF l c.name < 0
      · rw [if_pos h5] at h4; exact absurd h4 (by decide)
      rw [if_neg h5,if_neg e] at h4
      dsimp only at h4
      by_cases h8:bn aP c.part (l.take (findF l c.name).toNat) (kh l (findF l c.name).toNat) = 0
      · exact A6 h8 (fun y hy=>hnm y (List.mem_of_mem_take hy)) (by have:=hl.len; simp; omega)
      · rw [if_pos h8] at h4; exact absurd h4 h8
  · rcases hb with (h | h) | h
    · omega
    · have:=h.2
      simp only [iv,Bool.and_eq_true,decide_eq_true_eq] at this
      obtain ⟨⟨⟨⟨⟨⟨e1,e2⟩,e3⟩,e4⟩,e5⟩,e6⟩,e7⟩:=this
      generalize c.part = x at e1 e2 e3 e4 e5 e6 e7
      obtain ⟨n,k,a,b,on,lo,hi⟩:=x
      dsimp only at e1 e2 e3 e4 e5 e6 e7
      subst e1 e2 e3 e4 e5 e6 e7; rfl
    · omega
theorem tk:∀ {cs:List ChM} {l:List HuM} {last:Int},0 ≤ last → OkS l → Steps l cs last → ∀ c ∈ cs,qY c
  | [],_,_,_,_,_=>by simp
  | c :: r,l,last,h0,h,hs=>by
    cases hs with
    | cons h1 h2 h3 h4 h5=>
    intro d hd
    rcases List.mem_cons.1 hd with rfl | hd
    · exact Hc h h0 h1 h2 h3 h4
    · exact tk (by omega) ((fI h c).2 h4).2 h5 d hd
structure Told (p:ar):Prop where
  ship:∀ x ∈ p.ship,jy x
  chs:∀ c ∈ p.chs,qY c
  n1:p.ship.length ≤ 12
  n2:p.chs.length ≤ 8
theorem oL {p:ar} (h:OkP p):Told p:=⟨DH h.ship,tk (by omega) h.ship h.steps,h.ship.len,h.many⟩
/-! ### a text that is told is read az it was -/
theorem AV {b:UInt8}:∀ {l:List Wd},(∀ w ∈ l,b ∉ w) → b ≠ 32 → b ∉ bo 32 l
  | [],_,_=>by simp [bo]
  | [p],h,_=>h p (by simp)
  | p :: q :: r,h,hb=>by
    have ih:=AV (l:=q :: r) (fun w hw=>h w (by simp [hw])) hb
    simp only [bo,List.mem_append,List.mem_cons,not_or]
    exact ⟨h p (by simp),hb,ih⟩
theorem yW:∀ (rs:List (List Wd)),(∀ r ∈ rs,(10:UInt8) ∉ bo 32 r) → cutAt 10 (rs.flatMap eO) = rs.map (bo 32) ++ [[]]
  | [],_=>rfl
  | r :: rs,h=>by
    have ih:=yW rs fun x hx=>h x (by simp [hx])
    have e:(r :: rs).flatMap eO = bo 32 r ++ 10 :: rs.flatMap eO:=by simp [eO]
    rw [e,ik 10 _ _ (h r (by simp)),ih]; rfl
theorem sD:∀ (rs:List (List Wd)) (p:ar) (f:List Wd → ar → ar),(∀ r ∈ rs,cutAt 32 (bo 32 r) = r ∧ ∀ q,yq r q = some (f r q)) → rb (rs.map (bo 32) ++ [[]]) p = some (rs.foldl (fun q r=>f r q) p)
  | [],p,f,_=>by simp [rb]
  | r :: rs,p,f,h=>by
    obtain ⟨h1,h2⟩:=h r (by simp)
    have ih:=sD rs (f r p) f fun x hx=>h x (by simp [hx])
    simp only [List.map_cons,List.cons_append,List.foldl_cons]
    cases hq:rs.map (bo 32) ++ [[]] with
    | nil=>simp at hq
    | cons a t=>
      rw [hq] at ih
      simp only [rb,h1,h2]
      exact ih
theorem pX:∀ (rs:List (List Wd)) (p:ar) (f:List Wd → ar → ar),(∀ r ∈ rs,cutAt 32 (bo 32 r) = r ∧ ∀ q,yg r q = f r q) → nP (rs.map (bo 32) ++ [[]]) p = rs.foldl (fun q r=>f r q) p
  | [],p,f,_=>by simp [nP]
  | r :: rs,p,f,h=>by
    obtain ⟨h1,h2⟩:=h r (by simp)
    have ih:=pX rs (f r p) f fun x hx=>h x (by simp [hx])
    simp only [List.map_cons,List.cons_append,List.foldl_cons]
    cases hq:rs.map (bo 32) ++ [[]] with
    | nil=>simp at hq
    | cons a t=>
      rw [hq] at ih
      simp only [nP,h1,h2]
      exact ih
theorem EW {p:ar} (h:Told p):∀ r ∈ pq p,(10:UInt8) ∉ bo 32 r ∧ cutAt 32 (bo 32 r) = r ∧ r ≠ []:=by
  intro r hr
  have key:∀ b:UInt8,b.toNat < 48 → ∀ w ∈ r,b ∉ w:=by
    intro b hb w hw
    rcases List.mem_append.1 hr with h1 | h1
    · obtain ⟨x,hx,rfl⟩:=List.mem_map.1 h1
      rcases List.mem_cons.1 hw with rfl | hw
      · intro hm; simp [lR] at hm; rcases hm with rfl | rfl | rfl | rfl <;> simp at hb
      · exact ub (h.ship x hx) hb w hw
    · obtain ⟨c,hc,rfl⟩:=List.mem_map.1 h1
      exact G6 (h.chs c hc) hb w hw
  have hne:r ≠ []:=by
    rcases List.mem_append.1 hr with h1 | h1
    · obtain ⟨x,hx,rfl⟩:=List.mem_map.1 h1; simp [de]
    · obtain ⟨c,hc,rfl⟩:=List.mem_map.1 h1; simp [chB]
  exact ⟨AV (key 10 (by decide)) (by decide),nJ 32 hne (key 32 (by decide)),hne⟩
def lU (p:ar) (r:List Wd):ar:=if r.head? = some lR then ⟨p.ship ++ [xA r.tail],p.chs⟩ else ⟨p.ship,p.chs ++ [chR r]⟩
theorem BD {p:ar} (h:Told p):(pq p).foldl lU ⟨[],[]⟩ = p:=by
  have h1:∀ (l:List HuM) (q:ar),(∀ x ∈ l,jy x) → (l.map de).foldl lU q = ⟨q.ship ++ l,q.chs⟩:=by
    intro l
    induction l with
    | nil=>intro q _; simp
    | cons x l ih=>
      intro q hq
      simp only [List.map_cons,List.foldl_cons]
      rw [ih _ fun y hy=>hq y (by simp [hy])]
      simp only [lU,de,List.head?_cons,if_true,List.tail_cons,rI (hq x (by simp)),List.append_assoc,List.singleton_append]
  have h2:∀ (l:List ChM) (q:ar),(∀ c ∈ l,qY c) → (l.map chB).foldl lU q = ⟨q.ship,q.chs ++ l⟩:=by
    intro l
    induction l with
    | nil=>intro q _; simp
    | cons x l ih=>
      intro q hq
      simp only [List.map_cons,List.foldl_cons]
      rw [ih _ fun y hy=>hq y (by simp [hy])]
      simp only [lU,if_neg (xh (hq x (by simp))),Gs (hq x (by simp)),List.append_assoc,List.singleton_append]
  unfold pq
  rw [List.foldl_append,h1 _ _ h.ship,h2 _ _ h.chs]
  rfl
theorem zr {p:ar} (h:Told p):sC (fY p) = some p:=by
  have hr:=EW h
  unfold sC fY
  rw [yW _ fun r hr'=>(hr r hr').1,sD _ _ (fun r q=>lU q r) fun r hr'=>⟨(hr r hr').2.1,fun q=>?_⟩]
  · exact congrArg some (BD h)
  · rcases List.mem_append.1 hr' with h1 | h1
    · obtain ⟨x,hx,rfl⟩:=List.mem_map.1 h1
      simp only [yq,lU,de,List.head?_cons,if_true,List.tail_cons,rI (h.ship x hx),vW (h.ship x hx),Option.map_some]
    · obtain ⟨c,hc,rfl⟩:=List.mem_map.1 h1
      simp only [yq,lU,if_neg (xh (h.chs c hc)),Gs (h.chs c hc),IT (h.chs c hc),Option.map_some]
theorem uG {p:ar} (h:Told p):p7 (fY p) = p:=by
  have hr:=EW h
  unfold p7 fY
  rw [yW _ fun r hr'=>(hr r hr').1,pX _ _ (fun r q=>lU q r) fun r hr'=>⟨(hr r hr').2.1,fun q=>rfl⟩]
  exact BD h
def okB (p:ar):Bool:=decide ((bL p).2.2 = 0)
theorem A4 (p:ar):okB p = true ↔ OkP p:=by unfold okB; rw [decide_eq_true_eq,cF]
def qA (s:Wd):Option ar:=match sC s with
  | none=>none
  | some p=>if okB p && decide (fY p = s) then some p else none
def oF (s:Wd):Option ar:=if okB (p7 s) && decide (fY (p7 s) = s) then some (p7 s) else none
theorem mL (s:Wd) (p:ar):qA s = some p ↔ OkP p ∧ fY p = s:=by
  unfold qA
  constructor
  · intro h
    cases hq:sC s with
    | none=>rw [hq] at h; cases h
    | some q=>
      rw [hq] at h
      dsimp only at h
      split at h
      · rename_i hc
        simp only [Bool.and_eq_true,A4,decide_eq_true_eq] at hc
        obtain rfl:=Option.some.inj h
        exact hc
      · cases h
  · rintro ⟨h1,rfl⟩
    rw [zr (oL h1)]
    dsimp only
    rw [if_pos]
    rw [Bool.and_eq_true,A4,decide_eq_true_eq]
    exact ⟨h1,rfl⟩
theorem ov (s:Wd) (p:ar):oF s = some p ↔ OkP p ∧ fY p = s:=by
  unfold oF
  constructor
  · intro h
    split at h
    · rename_i hc
      simp only [Bool.and_eq_true,A4,decide_eq_true_eq] at hc
      obtain rfl:=Option.some.inj h
      exact hc
    · cases h
  · rintro ⟨h1,rfl⟩
    rw [uG (oL h1),if_pos]
    rw [Bool.and_eq_true,A4,decide_eq_true_eq]
    exact ⟨h1,rfl⟩
theorem yw (s:Wd):qA s = oF s:=by
  cases h:qA s with
  | some p=>exact ((ov s p).2 ((mL s p).1 h)).symm
  | none=>
    cases h2:oF s with
    | none=>rfl
    | some p=>rw [(mL s p).2 ((ov s p).1 h2)] at h; cases h
/-! ### how long a text is -/
theorem yN:∀ (l:List Wd),(bo 32 l).length ≤ (l.map List.length).sum + l.length
  | []=>by simp [bo]
  | [p]=>by simp [bo]
  | p :: q :: r=>by
    have:=yN (q :: r)
    simp only [bo,List.length_append,List.length_cons,List.map_cons,List.sum_cons] at this ⊢
    omega
theorem G9 (l:List ByteArray) (h:∀ n ∈ l,cg n = true):((l.map aL).map List.length).sum ≤ 16 * l.length:=by
  induction l with
  | nil=>simp
  | cons a l ih=>
    have h1:=(ku (h a (by simp))).2.2
    have h2:=ih fun n hn=>h n (by simp [hn])
    simp only [List.map_cons,List.sum_cons,List.length_cons] at h2 ⊢
    omega
theorem qg {x:HuM} (h:jy x):((jr x).map List.length).sum ≤ 232:=by
  obtain ⟨_,h1,h2,h3,h4⟩:=ja h.ok
  have hn:=(ku h.ok.name).2.2
  have ha:=lX (n:=x.first) (k:=2) (by omega) (by decide) (by omega)
  have hb:=lX (n:=x.last) (k:=2) (by omega) (by decide) (by omega)
  have hc:=lX (n:=x.lo) (k:=7) (by omega) (by decide) (by omega)
  have hd:=lX (n:=x.hi) (k:=7) (by omega) (by decide) (by omega)
  have hk:(eh x.kind).length ≤ 6:=by
    unfold eh
    repeat' split
    all_goals decide
  have hs:=G9 x.on h.on
  have hl:=h.len
  simp only [jr,List.map_cons,List.sum_cons]
  omega
theorem vM {p:ar} (h:Told p):∀ r ∈ pq p,(eO r).length ≤ 290:=by
  intro r hr
  have h0:=yN r
  have:(eO r).length = (bo 32 r).length + 1:=by simp [eO]
  rw [this]
  rcases List.mem_append.1 hr with h1 | h1
  · obtain ⟨x,hx,rfl⟩:=List.mem_map.1 h1
    have h2:=qg (h.ship x hx)
    have h3:=kA x
    have h4:=(h.ship x hx).len
    simp only [de,List.map_cons,List.sum_cons,List.length_cons] at h0 ⊢
    have h5:lR.length = 4:=rfl
    omega
  · obtain ⟨c,hc,rfl⟩:=List.mem_map.1 h1
    have ho:=h.chs c hc
    have hd:=lX (n:=c.day) (k:=5) ho.day.1 (by decide) (by have:=ho.day.2; omega)
    unfold chB at h0 ⊢
    rcases ho.what with e | e | e
    · rw [if_pos e] at h0 ⊢
      have h2:=qg (ho.part (by omega))
      have h3:=kA c.part
      have h4:=(ho.part (by omega)).len
      simp only [List.map_cons,List.sum_cons,List.length_cons,iL,List.length_nil] at h0 ⊢
      omega
    · rw [if_neg (by omega),if_pos e] at h0 ⊢
      have hn:=(ku (ho.name (by omega))).2.2
      simp only [List.map_cons,List.sum_cons,List.length_cons,fb,List.length_nil,List.map_nil,List.sum_nil] at h0 ⊢
      omega
    · rw [if_neg (by omega),if_neg (by omega)] at h0 ⊢
      have hn:=(ku (ho.name (by omega))).2.2
      have h2:=qg (ho.part (by omega))
      have h3:=kA c.part
      have h4:=(ho.part (by omega)).len
      simp only [List.map_cons,List.sum_cons,List.length_cons,gR,List.length_nil] at h0 ⊢
      omega
end Go.AM
