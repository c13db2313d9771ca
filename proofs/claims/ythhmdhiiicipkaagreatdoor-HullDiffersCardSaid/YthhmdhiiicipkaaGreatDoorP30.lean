/- HullDiffers, plain: where two ships differ. HullDiffers: by contracts. -/
import Derived.Test.YthhmdhiiicipkaaGreatDoorP27
import Derived.Test.YthhmdhiiicipkaaGreatDoorP29
import Derived.Test.YthhmdhiiicipkaaGreatDoorP25
namespace Go.AM
open Go.Proofs
set_option maxRecDepth 100000
set_option maxHeartbeats 1000000
theorem yi (a b:List HuM) (n:ByteArray):bG a b n = bG b a n:=by
  rw [Bool.eq_iff_iff]
  simp only [bG,Bool.and_eq_true,decide_eq_true_eq]
  constructor
  · rintro ⟨⟨h1,h2⟩,⟨⟨⟨⟨h3,h4⟩,h5⟩,h6⟩,h7⟩,h8⟩
    exact ⟨⟨h2,h1⟩,⟨⟨⟨⟨h3.symm,h4.symm⟩,h5.symm⟩,h6.symm⟩,h7.symm⟩,h8.symm⟩
  · rintro ⟨⟨h1,h2⟩,⟨⟨⟨⟨h3,h4⟩,h5⟩,h6⟩,h7⟩,h8⟩
    exact ⟨⟨h2,h1⟩,⟨⟨⟨⟨h3.symm,h4.symm⟩,h5.symm⟩,h6.symm⟩,h7.symm⟩,h8.symm⟩
theorem Au (a b:List HuM) (n:ByteArray):n ∈ aF [a,b] ↔ 0 ≤ findF a n ∨ 0 ≤ findF b n:=by
  rw [qD]; simp
theorem mf (a b:List HuM):Asc (cD a b):=(tc _).sublist List.filter_sublist
theorem jD (a b:List HuM) (n:ByteArray):n ∈ cD a b ↔ (0 ≤ findF a n ∨ 0 ≤ findF b n) ∧ bG a b n = false:=by
  unfold cD
  rw [List.mem_filter,Au]; simp
theorem kE (a b:List HuM):cD a b = cD b a:=
  nB (mf a b) (mf b a) fun n=>by rw [jD,jD,yi,Or.comm]
theorem AD {a:List HuM} (h:OkS a) {x:HuM} (hx:x ∈ a):0 ≤ findF a x.name ∧ atF a x.name = x:=by
  have h0:=(dw a x.name).2 ⟨x,hx,rfl⟩
  have h1:=dJ (before:=a) (n:=x.name) ⟨x,hx,rfl⟩
  exact ⟨h0,uniq h.names h1.1 hx h1.2⟩
theorem jn {a b:List HuM} (ha:OkS a) (hb:OkS b) {x:HuM} (hx:x ∈ a):x.name ∈ cD a b ↔ x ∉ b:=by
  obtain ⟨h1,h2⟩:=AD ha hx
  rw [jD]
  constructor
  · rintro ⟨_,h3⟩ hxb
    obtain ⟨h4,h5⟩:=AD hb hxb
    rw [mu h1 h4,h2,h5,(j8 x x).2 rfl] at h3
    cases h3
  · intro h
    refine ⟨.inl h1, ?_⟩
    rcases tf (bG a b x.name) with h3 | h3
    rotate_left
    · have h4:0 ≤ findF b x.name:=by
        simp only [bG,Bool.and_eq_true,decide_eq_true_eq] at h3
        exact h3.1.2
      rw [mu h1 h4,h2,j8] at h3
      have:=(dJ ((dw b x.name).1 h4)).1
      rw [← h3] at this
      exact absurd this h
    · exact h3
theorem qb {a:List HuM} (h:OkS a):a.Nodup:=List.Pairwise.of_map HuM.name (fun _ _ h e=>h (congrArg _ e)) h.names
theorem wX {a b:List HuM} (ha:OkS a) (hb:OkS b):(a.length = b.length ∧ ∀ x ∈ a,x ∈ b) ↔ cD a b = []:=by
  constructor
  · rintro ⟨h1,h2⟩
    have h3:∀ y ∈ b,y ∈ a:=fun y hy=>by
      rcases Classical.em (∃ z ∈ a,z = y) with ⟨z,hz,rfl⟩ | hn
      · exact hz
      · have:=List.Nodup.length_le_of_subset (l₁:=y :: a) (l₂:=b) (List.nodup_cons.2 ⟨fun h=>hn ⟨y,h,rfl⟩,qb ha⟩) (fun z hz=>by
          rcases List.mem_cons.1 hz with rfl | hz
          · exact hy
          · exact h2 z hz)
        simp at this; omega
    refine List.eq_nil_iff_forall_not_mem.2 fun n hn=>?_
    have hn':=hn
    rw [jD] at hn
    rcases hn.1 with h | h
    · obtain ⟨x,hx,rfl⟩:=(dw a n).1 h
      exact (jn ha hb hx).1 hn' (h2 x hx)
    · obtain ⟨x,hx,rfl⟩:=(dw b n).1 h
      rw [kE] at hn'
      exact (jn hb ha hx).1 hn' (h3 x hx)
  · intro h
    have h2:∀ x ∈ a,x ∈ b:=fun x hx=>Classical.byContradiction fun hn=>by
      have:=(jn ha hb hx).2 hn
      rw [h] at this; simp at this
    have h3:∀ x ∈ b,x ∈ a:=fun x hx=>Classical.byContradiction fun hn=>by
      have:=(jn hb ha hx).2 hn
      rw [← kE,h] at this; simp at this
    have h4:=List.Nodup.length_le_of_subset (qb ha) h2
    have h5:=List.Nodup.length_le_of_subset (qb hb) h3
    exact ⟨by omega,h2⟩
set_option maxRecDepth 100000
set_option maxHeartbeats 1000000
theorem ij (p q:ar) (d:Nat) (hd:d ≤ 40000):bN p q d = if (bL p).2.2 ≠ 0 then (bL p).2.2 else (bL q).2.2:=by
  unfold bN
  rw [dt q d hd,bA]
theorem pK (ps qs:List HuM) (cs ds:List ChM) (hf:gO ⟨ps,cs⟩) (hg:gO ⟨qs,ds⟩) (d:Nat) (hdm:d ≤ 65535) :
    Spec Tryz.prog KT [.agg [.slice 7 (ps.map HuM.v), .slice 10 (cs.map ChM.v)], .agg [.slice 7 (qs.map HuM.v), .slice 10 (ds.map ChM.v)], .int .u16 d] [] fun r _=>r = .ret (.bool true):=by
  refine Lq (by simp) (aa _ ?_)
  have hon:(IntKind.i64.wrap (d:Int)).tmod 40001 = ((d % 40001:Nat):Int):=by rw [aj (by omega) (by omega),Int.tmod_eq_emod_of_nonneg (by omega)]; omega
  have hd:d % 40001 ≤ 40000:=by omega
  generalize d % 40001 = on at hon hd
  have q1:=cT ps qs cs ds hf.tolJ hg.tolJ on
  have q2:=cT qs ps ds cs hg.tolJ hf.tolJ on
  have q3:=ez ps cs hf
  have q4:=ez qs ds hg
  have q5:=bZ ps cs hf.tolJ on
  have q6:=bZ qs ds hg.tolJ on
  rw [ij _ _ on hd] at q1 q2
  rw [dt _ on hd] at q5 q6
  simp [KG,hon]
  rcases Decidable.em ((bL ⟨ps,cs⟩).2.2 = 0 ∧ (bL ⟨qs,ds⟩).2.2 = 0) with hv | hv
  rotate_left
  · have e1:bq ⟨ps,cs⟩ ⟨qs,ds⟩ on = []:=by
      unfold bq; rw [ij _ _ on hd,if_neg]
      split <;> simp_all
    have e2:bq ⟨qs,ds⟩ ⟨ps,cs⟩ on = []:=by
      unfold bq; rw [ij _ _ on hd,if_neg]
      split <;> simp_all
    rw [e1] at q1
    rw [e2] at q2
    clear q5 q6 e1 e2
    generalize (bL ⟨ps,cs⟩).2.2 = E at *
    generalize (bL ⟨qs,ds⟩).2.2 = G at *
    have k1:¬ (if E ≠ 0 then E else G) = 0:=by split <;> simp_all
    have k2:¬ (if G ≠ 0 then G else E) = 0:=by split <;> simp_all
    generalize (if E ≠ 0 then E else G) = E1 at *
    generalize (if G ≠ 0 then G else E) = E2 at *
    rcases Decidable.em (E = 0) with hE | hE
    · have hG:¬ G = 0:=fun h=>hv ⟨hE,h⟩
      refine af.pure uy (q1 _) ?_
      simp [hon]
      refine af.pure uy (q2 _) ?_
      simp [hon]
      refine af.pure rB (q3 _) ?_
      simp [hE]
      refine af.pure rB (q4 _) ?_
      simp [hG,k1,k2]
      refine af.pure jB (bj _) ?_
      simp [k1,k2]
    · skip
      refine af.pure uy (q1 _) ?_
      simp [hon]
      refine af.pure uy (q2 _) ?_
      simp [hon]
      refine af.pure rB (q3 _) ?_
      simp [hE,k1,k2]
      refine af.pure jB (bj _) ?_
      simp [k1,k2]
  obtain ⟨hv1,hv2⟩:=hv
  have ok1:=(cF _).1 hv1
  have ok2:=(cF _).1 hv2
  have hA:=iX ⟨ps,cs⟩ on
  have hB:=iX ⟨qs,ds⟩ on
  have hl:bq ⟨ps,cs⟩ ⟨qs,ds⟩ on = cD (a7 ⟨ps,cs⟩ on) (a7 ⟨qs,ds⟩ on):=by
    have h1:=dt ⟨ps,cs⟩ on hd
    have h2:=dt ⟨qs,ds⟩ on hd
    unfold bq a7
    rw [ij _ _ on hd,h1,h2,hv1,hv2]
    simp only [ne_eq,not_true_eq_false,ite_false,ite_true]
    rw [j7 ok1,j7 ok2]
  have hm:bq ⟨qs,ds⟩ ⟨ps,cs⟩ on = cD (a7 ⟨ps,cs⟩ on) (a7 ⟨qs,ds⟩ on):=by
    have h1:=dt ⟨ps,cs⟩ on hd
    have h2:=dt ⟨qs,ds⟩ on hd
    unfold bq a7
    rw [ij _ _ on hd,h1,h2,hv1,hv2]
    simp only [ne_eq,not_true_eq_false,ite_false,ite_true]
    rw [j7 ok1,j7 ok2,kE]
  rw [hl,hv1,hv2,if_neg (by simp)] at q1
  rw [hm,hv1,hv2,if_neg (by simp)] at q2
  rw [hv1] at q5 q3
  rw [hv2] at q6 q4
  clear hl hm
  generalize a7 ⟨ps,cs⟩ on = A at *
  generalize a7 ⟨qs,ds⟩ on = B at *
  have hasc:=mf A B
  have hnone:=wX hA hB
  have hat:=fun x hx=>jn hA hB (x:=x) hx
  have hDl:(cD A B).length ≤ 24:=by
    have h1:(cD A B).length ≤ (aF [A,B]).length:=List.length_filter_le _ _
    have h2:=mw hA hB
    omega
  generalize cD A B = D at *
  have q7:=gh D D (Nat.le_trans hDl (by unfold maxLen; omega))
  have q8:=fun s=>dH D s (Nat.le_trans hDl (by unfold maxLen; omega))
  have hA12:=hA.len
  have hB12:=hB.len
  refine af.pure uy (q1 _) ?_
  simp [hon]
  refine af.pure uy (q2 _) ?_
  simp [hon]
  refine af.pure rB (q3 _) ?_
  simp
  refine af.pure rB (q4 _) ?_
  simp [hon]
  refine af.pure ll (q5 _) ?_
  simp [hon]
  refine af.pure ll (q6 _) ?_
  simp
  refine af.pure pD (q7 _) ?_
  simp
  refine AW.loop (ι:=Nat) (fun i fr σ=>∃ s:Bool,fr = { v:=[(8,ab.slice 1 (List.map ab.str D)),(12,(ab.agg [ab.slice 7 (List.map HuM.v A)]).pval),(14,(ab.agg [ab.slice 7 (List.map HuM.v B)]).pval),(16,ab.bool s),(17,ab.int IntKind.i64 i)],ds:=[] } ∧ σ = [aQ.dead,aQ.dead] ∧ i ≤ A.length ∧ (s = true ↔ A.length = B.length ∧ ∀ x ∈ A.take i,x ∈ B)) (fun i=>A.length - i) 0 ⟨_,rfl,rfl,by omega,by simp; omega⟩ ?_
  rintro i fr σ ⟨s,rfl,rfl,hi,hs⟩
  refine (Nat.lt_or_ge i A.length).elim (fun hlt=>?_) (fun hge=>?_)
  · obtain ⟨x,hx⟩:∃ x,A[i] = x:=⟨_,rfl⟩
    have hxA:x ∈ A:=hx ▸ List.getElem_mem hlt
    have hxl:x.on.length ≤ maxLen:=Nat.le_trans (fC hA x hxA) (show (12:Nat) ≤ maxLen by unfold maxLen; omega)
    have hatx:=hat x hxA
    have hwi:IntKind.i64.wrap ((i:Int) + 1) = ((i + 1:Nat):Int):=by rw [aj (by omega) (by omega)]; simp
    refine aa _ ?_
    simp [hlt]
    refine AW.loop (ι:=Nat) (fun k fr σ=>∃ f:Bool,fr = { v:=[(8,ab.slice 1 (List.map ab.str D)),(12,(ab.agg [ab.slice 7 (List.map HuM.v A)]).pval),(14,(ab.agg [ab.slice 7 (List.map HuM.v B)]).pval),(16,ab.bool s),(17,ab.int IntKind.i64 i),(18,ab.bool f),(19,ab.int IntKind.i64 k)],ds:=[] } ∧ σ = [aQ.dead,aQ.dead] ∧ k ≤ B.length ∧ (f = true ↔ x ∈ B.take k)) (fun k=>B.length - k) 0 ⟨_,rfl,rfl,by omega,by simp⟩ ?_
    rintro k fr σ ⟨f,rfl,rfl,hk,hfnd⟩
    refine (Nat.lt_or_ge k B.length).elim (fun hltk=>?_) (fun hgek=>?_)
    · obtain ⟨y,hy⟩:∃ y,B[k] = y:=⟨_,rfl⟩
      have hwk:IntKind.i64.wrap ((k:Int) + 1) = ((k + 1:Nat):Int):=by rw [aj (by omega) (by omega)]; simp
      have htk:x ∈ B.take (k + 1) ↔ x ∈ B.take k ∨ x = y:=by rw [List.take_succ_eq_append_getElem hltk,hy]; simp
      cases f with
      | true=>
        refine aa _ ?_
        simp [hltk,hwk]
        exact ⟨.bool false,trivial,rfl,k + 1,by omega, .inr ⟨⟨rfl,by simp⟩,by omega,htk.2 (.inl (hfnd.1 rfl))⟩⟩
      | false=>
        refine aa _ ?_
        have qe:=gg x y hxl
        simp only [HuM.v,HuM.cells] at qe
        simp [hltk,hwk,hlt,hx,hy,HuM.v,HuM.cells]
        refine ⟨_,fun σ' _=>aB.func Du (qe σ'), ?_⟩
        simp
        refine ⟨k + 1,by omega, ?_⟩
        rw [htk]
        have hnf:x ∉ B.take k:=fun h=>by simpa using hfnd.2 h
        rcases tf (uL x y) with he | he
        · have hne:x ≠ y:=fun h=>by rw [(j8 x y).2 h] at he; cases he
          refine .inl ⟨⟨he,by simp⟩,by omega,fun h=>h.elim hnf hne⟩
        · exact .inr ⟨⟨he,by simp⟩,by omega, .inr ((j8 x y).1 he)⟩
    · have htkB:B.take k = B:=List.take_of_length_le (by omega)
      rw [htkB] at hfnd
      have hpl:decide (0 ≤ dK D x.name 0) = !f:=by
        rw [Bool.eq_iff_iff,decide_eq_true_eq,jg,hatx,Bool.not_eq_true', ← Bool.not_eq_true,hfnd]
      have htA:∀ z,z ∈ A.take (i + 1) ↔ z ∈ A.take i ∨ z = x:=fun z=>by rw [List.take_succ_eq_append_getElem hlt,hx]; simp
      have hsn:(s && f) = true ↔ A.length = B.length ∧ ∀ z ∈ A.take (i + 1),z ∈ B:=by
        rw [Bool.and_eq_true,hs,hfnd]
        constructor
        · rintro ⟨⟨h1,h2⟩,h3⟩
          exact ⟨h1,fun z hz=>((htA z).1 hz).elim (h2 z) (fun e=>e ▸ h3)⟩
        · rintro ⟨h1,h2⟩
          exact ⟨⟨h1,fun z hz=>h2 z ((htA z).2 (.inl hz))⟩,h2 x ((htA x).2 (.inr rfl))⟩
      refine aa _ ?_
      simp [show ¬ k < B.length by omega,hlt,hx,HuM.v,HuM.cells]
      refine af.pure wF (q8 x.name _) ?_
      simp [hpl,hwi]
      refine ⟨i + 1,by omega, ?_⟩
      rcases tf (s && f) with hb | hb
      · refine .inl ⟨⟨by clear hs hfnd hpl hsn; cases s <;> cases f <;> simp_all,by simp⟩,hlt,fun hlen=>Classical.byContradiction fun hno=>?_⟩
        have:=hsn.2 ⟨hlen,fun z hz=>Classical.byContradiction fun hzb=>hno ⟨z,hz,hzb⟩⟩
        rw [hb] at this; cases this
      · exact .inr ⟨⟨by simpa using hb,by simp⟩,hlt,hsn.1 hb⟩
  · have htk:A.take i = A:=List.take_of_length_le (by omega)
    rw [htk] at hs
    refine aa _ ?_
    simp [show ¬ i < A.length by omega]
    refine AW.loop (ι:=Nat) (fun k fr σ=>fr = { v:=[(8,ab.slice 1 (List.map ab.str D)),(16,ab.bool s),(20,ab.int IntKind.i64 k)],ds:=[] } ∧ σ = [aQ.dead,aQ.dead] ∧ 1 ≤ k) (fun k=>D.length - k) 1 ⟨rfl,rfl,by omega⟩ ?_
    rintro k fr σ ⟨rfl,rfl,hk⟩
    refine (Nat.lt_or_ge k D.length).elim (fun hltk=>?_) (fun hgek=>?_)
    · have hwk:IntKind.i64.wrap ((k:Int) + 1) = ((k + 1:Nat):Int):=by rw [aj (by omega) (by omega)]; simp
      have hwm:IntKind.i64.wrap ((k:Int) - 1) = ((k - 1:Nat):Int):=by rw [aj (by omega) (by omega)]; omega
      have hlt':ltS (D[k - 1]'(by omega)) D[k]:=List.pairwise_iff_getElem.1 hasc (k - 1) k (by omega) hltk (by omega)
      have hk1:k - 1 < D.length:=by omega
      have hu:D[k - 1]? = some (D[k - 1]'hk1):=List.getElem?_eq_getElem hk1
      have hle:(Op.bytesLess D[k].toList (D[k - 1]'hk1).toList || D[k].toList == (D[k - 1]'hk1).toList) = false:=by
        rw [Bool.or_eq_false_iff]
        constructor
        · rcases tf (Op.bytesLess D[k].toList (D[k - 1]'hk1).toList) with h | h
          · exact h
          · exact absurd (fN ((yL _ _).1 h) hlt') (hZ _)
        · rcases tf (D[k].toList == (D[k - 1]'hk1).toList) with h | h
          · exact h
          · exact absurd ((cm _ _).1 h ▸ hlt') (hZ _)
      rw [Bool.or_eq_false_iff] at hle
      obtain ⟨hb1,hb2⟩:=hle
      have hb3:¬ D[k].toList = (D[k - 1]'hk1).toList:=by simpa using hb2
      refine aa _ ?_
      simp [hltk,hwk,hwm,hk1,hb1,hb3]
      exact ⟨k + 1,by omega,by simp,by omega⟩
    · have hsd:s = ((D.length:Int) == 0):=by
        rw [Bool.eq_iff_iff,hs,hnone]
        cases D <;> simp
        omega
      subst hsd
      refine aa _ ?_
      simp [show ¬ k < D.length by omega]
      refine af.pure jB (bj _) ?_
      simp
end Go.AM
