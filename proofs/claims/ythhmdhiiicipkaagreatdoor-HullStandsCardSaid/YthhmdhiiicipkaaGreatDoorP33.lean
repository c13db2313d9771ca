/- HullStands, plain: what is above a part, and taking it away. HullStands: by contracts. -/
import Derived.Test.YthhmdhiiicipkaaGreatDoorP29
namespace Go.AM
open Go.Proofs
set_option maxRecDepth 100000
set_option maxHeartbeats 1000000
def jh (A:List HuM) (name:ByteArray):List ByteArray:=(A.filter (abv name A)).map HuM.name
theorem Ag {a:List HuM} (h:OkS a):a.Nodup:=List.Pairwise.of_map HuM.name (fun _ _ h e=>h (congrArg _ e)) h.names
theorem my {A:List HuM} (h:OkS A) (name:ByteArray) {x:HuM} (hx:x ∈ A):x.name ∈ jh A name ↔ abv name A x = true:=by
  unfold jh
  rw [List.mem_map]
  constructor
  · rintro ⟨y,hy,e⟩
    rw [List.mem_filter] at hy
    rw [← uniq h.names hy.1 hx e]; exact hy.2
  · intro ha
    exact ⟨x,List.mem_filter.2 ⟨hx,ha⟩,rfl⟩
theorem qu {A:List HuM} (h:OkS A) {k:Nat} (hk:k < A.length):∀ (n i:Nat) (_:i < n) (hi:i < A.length),abv (A[k]).name A A[i] = true → k < i ∧ ∃ y ∈ A,(A[k]).name ∈ y.on
  | 0,i,hn,_,_=>by omega
  | n + 1,i,hn,hi,ha=>by
    rw [rE h hi,Bool.or_eq_true,ea,List.any_eq_true] at ha
    rcases ha with ha | ⟨m,hm,ha⟩
    · obtain ⟨j,hj,e1,e2,e3⟩:=jY h hi ha
      have hjk:A[j]'(by omega) = A[k]:=uniq h.names (List.getElem_mem _) (List.getElem_mem _) e2
      have:j = k:=by
        have hnd:=Ag h
        rw [List.Nodup,List.pairwise_iff_getElem] at hnd
        rcases Nat.lt_trichotomy j k with h1 | h1 | h1
        · exact (hnd j k (by omega) hk h1 hjk).elim
        · exact h1
        · exact (hnd k j hk (by omega) h1 hjk.symm).elim
      exact ⟨by omega,_,List.getElem_mem hi,ha⟩
    · obtain ⟨j,hj,e1,e2,e3⟩:=jY h hi hm
      rw [e3] at ha
      obtain ⟨g1,g2⟩:=qu h hk n j (by omega) (by omega) ha
      exact ⟨by omega,g2⟩
theorem tB {A:List HuM} (h:OkS A) (name:ByteArray) {i:Nat} (hi:i < A.length):abv name A A[i] = true ↔ name ∈ (A[i]).on ∨ ∃ m ∈ (A[i]).on,m ∈ jh A name:=by
  rw [rE h hi,Bool.or_eq_true,ea,List.any_eq_true]
  constructor
  · rintro (h1 | ⟨m,h1,h2⟩)
    · exact .inl h1
    · obtain ⟨j,hj,e1,e2,e3⟩:=jY h hi h1
      rw [e3] at h2
      exact .inr ⟨m,h1,by rw [← e2]; exact (my h name (List.getElem_mem _)).2 h2⟩
  · rintro (h1 | ⟨m,h1,h2⟩)
    · exact .inl h1
    · obtain ⟨j,hj,e1,e2,e3⟩:=jY h hi h1
      refine .inr ⟨m,h1, ?_⟩
      rw [e3]
      rw [← e2] at h2
      exact (my h name (List.getElem_mem _)).1 h2
theorem Ax {A:List HuM} (h:OkS A) {k:Nat} (hk:k < A.length):jh A (A[k]).name = [] ↔ gq A (A[k]).name = false:=by
  constructor
  · intro h0
    rcases tf (gq A (A[k]).name) with h1 | h1
    · exact h1
    · obtain ⟨y,hy,hs⟩:=List.any_eq_true.1 h1
      obtain ⟨i,hi,rfl⟩:=List.mem_iff_getElem.1 hy
      have:=(my h (A[k]).name (List.getElem_mem hi)).2 ((tB h _ hi).2 (.inl ((ea _ _).1 hs)))
      rw [h0] at this; simp at this
  · intro h0
    refine List.eq_nil_iff_forall_not_mem.2 fun n hn=>?_
    unfold jh at hn
    obtain ⟨y,hy,rfl⟩:=List.mem_map.1 hn
    rw [List.mem_filter] at hy
    obtain ⟨i,hi,rfl⟩:=List.mem_iff_getElem.1 hy.1
    obtain ⟨_,z,hz,hs⟩:=qu h hk (i + 1) i (by omega) hi hy.2
    have:gq A (A[k]).name = true:=List.any_eq_true.2 ⟨z,hz,(ea _ _).2 hs⟩
    rw [h0] at this; cases this
theorem Dn {A:List HuM} (h:OkS A) {k:Nat} (hk:k < A.length):(bL ⟨A,[⟨2,0,(A[k]).name,zHu⟩]⟩).2.2 = if gq A (A[k]).name = true then 9 else 0:=by
  have h1:=(mI A).2 h
  have h2:¬ findF A (A[k]).name < 0:=by have:=(dw A (A[k]).name).2 ⟨_,List.getElem_mem hk,rfl⟩; omega
  have hb:aH 0 40000 [0] = false:=by decide
  have hr:fj ⟨2,0,(A[k]).name,zHu⟩ = true:=by simp [fj,iv,zHu]
  unfold bL
  rw [if_neg (by simp [h1]),if_neg (by simp)]
  unfold fT
  rw [hb,hr,if_neg (by simp),if_neg (by simp)]
  have hc:eH A ⟨2,0,(A[k]).name,zHu⟩ = if gq A (A[k]).name = true then 9 else 0:=by
    unfold eH aZ
    rw [if_neg (by simp),if_neg h2,if_pos rfl]
    split <;> rfl
  rw [hc]
  split
  · simp
  · simp [fT]
set_option maxRecDepth 100000
set_option maxHeartbeats 1000000
theorem za (p:ar) (d:Nat) (hd:d ≤ 40000) (h:(bL p).2.2 = 0) {k:Nat} (hk:k < (a7 p d).length):cz p d ((a7 p d)[k]).name = 0 ∧ cy p d ((a7 p d)[k]).name = jh (a7 p d) ((a7 p d)[k]).name:=by
  have h0:bJ p d = 0:=by rw [dt p d hd]; exact h
  have hs:a7 p d = fH d p.ship p.ship p.chs:=by unfold a7; rw [if_pos h0]
  have h1:¬ findF (a7 p d) ((a7 p d)[k]).name < 0:=by have:=(dw (a7 p d) ((a7 p d)[k]).name).2 ⟨_,List.getElem_mem hk,rfl⟩; omega
  have e:cz p d ((a7 p d)[k]).name = 0:=by
    unfold cz
    rw [if_neg (by simp [h0]), ← hs,if_neg h1]
  refine ⟨e, ?_⟩
  unfold cy jh
  rw [if_pos e, ← hs]
theorem Ak {A:List HuM} (h:OkS A) (name:ByteArray):(jh A name).length ≤ 12:=by
  unfold jh
  rw [List.length_map]
  exact Nat.le_trans (List.length_filter_le _ _) h.len
theorem rz (ps:List HuM) (cs:List ChM) (hf:gO ⟨ps,cs⟩) (d w:Nat) (hdm:d ≤ 65535) (hw:w ≤ 255) :
    Spec Tryz.prog K7 [.agg [.slice 7 (ps.map HuM.v), .slice 10 (cs.map ChM.v)], .int .u16 d, .int .u8 w] [] fun r _=>r = .ret (.bool true):=by
  refine LI (by simp) (aa _ ?_)
  obtain ⟨hon,hd⟩:=Ee d hdm
  generalize d % 40001 = on at hon hd
  have q1:=dp ps cs hf.tolJ on
  have q2:=ez ps cs hf
  have q3:=bZ ps cs hf.tolJ on
  have hq4:=dt ⟨ps,cs⟩ on hd
  rw [hq4] at q3
  rcases Decidable.em ((bL ⟨ps,cs⟩).2.2 = 0) with hv | hv
  rotate_left
  · have he:cz ⟨ps,cs⟩ on ⟨#[107,101,101,108]⟩ = (bL ⟨ps,cs⟩).2.2:=by unfold cz; rw [hq4,if_pos hv]
    have q5:=q1 ⟨#[107,101,101,108]⟩
    rw [he] at q5
    clear he hq4 q1 q3
    generalize (bL ⟨ps,cs⟩).2.2 = E at hv q2 q5
    simp [Ew,hon]
    refine af.pure rB (q2 _) ?_
    simp [hv,hon]
    refine af.pure zi (q5 _) ?_
    simp [hv]
    refine af.pure jB (bj _) ?_
    simp [hv]
  have hok:=(cF _).1 hv
  have hA:=iX ⟨ps,cs⟩ on
  have hE:=fun k hk=>za ⟨ps,cs⟩ on hd hv (k:=k) hk
  have hpar:a7 ⟨ps,cs⟩ on = aM on ps cs:=by
    unfold a7
    rw [if_pos (by rw [hq4]; exact hv)]
    exact dF on _ _ _ hok.ship hok.steps
  have q6:=bP ps cs hf hok on
  rw [← hpar] at q6
  rw [hv] at q3 q2
  have q7:∀ k (hk:k < (a7 ⟨ps,cs⟩ on).length) σ,Spec Tryz.prog yX [.agg [.slice 7 (ps.map HuM.v), .slice 10 (cs.map ChM.v)],ii' on, .str ((a7 ⟨ps,cs⟩ on)[k]).name] σ fun r σ'=>r = .ret (.tup [.slice 1 ((jh (a7 ⟨ps,cs⟩ on) ((a7 ⟨ps,cs⟩ on)[k]).name).map .str),ii' 0]) ∧ σ' = σ:=fun k hk σ=>by
    have:=q1 ((a7 ⟨ps,cs⟩ on)[k]).name σ
    rw [(hE k hk).1,(hE k hk).2] at this
    exact this
  clear q1 hE hpar hq4
  generalize a7 ⟨ps,cs⟩ on = A at *
  have hA12:=hA.len
  rcases Nat.eq_zero_or_pos A.length with h0 | h0
  · have:A = []:=List.eq_nil_of_length_eq_zero h0
    subst this
    simp [Ew,hon]
    refine af.pure rB (q2 _) ?_
    simp [hon]
    refine af.pure ll (q3 _) ?_
    simp [hon]
    refine af.pure p0 (q6 _) ?_
    simp
    refine af.pure jB (bj _) ?_
    simp
  have hk:w % A.length < A.length:=Nat.mod_lt _ h0
  have hwk:(IntKind.i64.wrap (w:Int)).tmod (A.length:Int) = ((w % A.length:Nat):Int):=by rw [aj (by omega) (by omega),Int.tmod_eq_emod_of_nonneg (by omega),Int.natCast_emod]
  generalize w % A.length = k at hk hwk
  have hpos:=fun i hi=>qu hA hk (i + 1) i (by omega) hi
  have hstep:=fun i (hi:i < A.length)=>tB hA (A[k]).name hi
  have hmem:=fun i (hi:i < A.length)=>my hA (A[k]).name (List.getElem_mem hi)
  have hnone:=Ax hA hk
  have htake:=Dn hA hk
  have q8:=q7 k hk
  have hDl:=Ak hA (A[k]).name
  have hfit:lJ ⟨A,[⟨2,0,(A[k]).name,zHu⟩]⟩:=⟨Nat.le_trans hA12 (by unfold maxLen; omega),fun x hx=>Nat.le_trans (fC hA x hx) (show (12:Nat) ≤ maxLen by unfold maxLen; omega),by simp [maxLen],fun c hc=>by simp at hc; subst hc; simp [zHu]⟩
  have q9:=et A [⟨2,0,(A[k]).name,zHu⟩] hfit
  rw [bA] at q9
  have hall:∀ x ∈ A,x.on.length ≤ maxLen:=hfit.on
  obtain ⟨nm,hnm⟩:∃ n,(A[k]).name = n:=⟨_,rfl⟩
  have hAne:¬ A = []:=fun e=>by rw [e] at h0; simp at h0
  simp only [hnm] at hDl hnone htake q8 q9 hpos hstep hmem hfit
  generalize jh A nm = D at *
  have q10:=fun s=>dH D s (Nat.le_trans hDl (show (12:Nat) ≤ maxLen by unfold maxLen; omega))
  simp [Ew,hon]
  refine af.pure rB (q2 _) ?_
  simp [hon]
  refine af.pure ll (q3 _) ?_
  simp [hon,hwk,hk,hAne,hnm,HuM.v,HuM.cells]
  refine af.pure zi (q8 _) ?_
  simp [hon,hwk,hk,hnm,HuM.v,HuM.cells]
  refine AW.loop (ι:=Nat) (fun i fr σ=>fr = { v:=[(10,(ab.agg [ab.slice 7 (List.map HuM.v A)]).pval),(12,ab.int IntKind.i64 k),(13,ab.str nm),(14,ab.slice 1 (List.map ab.str D)),(15,ab.int IntKind.i64 i)],ds:=[] } ∧ i ≤ A.length) (fun i=>A.length - i) 0 ⟨rfl,by omega⟩ ?_
  rintro i fr σ ⟨rfl,hi⟩
  refine (Nat.lt_or_ge i A.length).elim (fun hlt=>?_) (fun hge=>?_)
  · obtain ⟨x,hx⟩:∃ x,A[i] = x:=⟨_,rfl⟩
    have hxl:x.on.length ≤ maxLen:=hall x (hx ▸ List.getElem_mem hlt)
    have hx12:x.on.length ≤ 12:=fC hA x (hx ▸ List.getElem_mem hlt)
    have hp1:=hpos i hlt
    have hp2:=hstep i hlt
    have hp3:=hmem i hlt
    rw [hx] at hp1 hp2 hp3
    have q11:=dH x.on nm hxl
    have hwi:IntKind.i64.wrap ((i:Int) + 1) = ((i + 1:Nat):Int):=by rw [aj (by omega) (by omega)]; simp
    refine aa _ ?_
    simp [hlt,hx,HuM.v,HuM.cells]
    refine af.pure wF (q10 x.name _) ?_
    simp
    have hki:0 ≤ dK D x.name 0 → k < i:=fun h=>(hp1 (hp3.1 ((jg D x.name).1 h))).1
    refine ⟨hki,fun _=>?_⟩
    refine af.pure wF (q11 _) ?_
    simp
    refine AW.loop (ι:=Nat) (fun j fr σ=>∃ b:Bool,fr = { v:=[(10,(ab.agg [ab.slice 7 (List.map HuM.v A)]).pval),(12,ab.int IntKind.i64 k),(13,ab.str nm),(14,ab.slice 1 (List.map ab.str D)),(15,ab.int IntKind.i64 i),(16,(ab.agg [ab.str x.name,ii' x.kind,ii' x.first,ii' x.last,ab.slice 1 (List.map ab.str x.on),ii' x.lo,ii' x.hi]).pval),(17,ab.bool (decide (0 ≤ dK D x.name 0))),(18,ab.bool b),(19,ab.int IntKind.i64 j)],ds:=[] } ∧ j ≤ x.on.length ∧ (b = true ↔ nm ∈ x.on ∨ ∃ m ∈ x.on.take j,m ∈ D)) (fun j=>x.on.length - j) 0 ⟨_,rfl,by omega,by rw [decide_eq_true_eq,jg]; simp⟩ ?_
    rintro j fr σ ⟨b,rfl,hj,hb⟩
    refine (Nat.lt_or_ge j x.on.length).elim (fun hltj=>?_) (fun hgej=>?_)
    · obtain ⟨m,hm⟩:∃ m,x.on[j] = m:=⟨_,rfl⟩
      have htk:∀ z,z ∈ x.on.take (j + 1) ↔ z ∈ x.on.take j ∨ z = m:=fun z=>by rw [List.take_succ_eq_append_getElem hltj,hm]; simp
      have hwj:IntKind.i64.wrap ((j:Int) + 1) = ((j + 1:Nat):Int):=by rw [aj (by omega) (by omega)]; simp
      cases b with
      | true=>
        refine aa _ ?_
        simp [hltj,hwj,hm]
        exact ⟨j + 1,by omega,by simp,by omega,(hb.1 rfl).imp id fun ⟨m',h1,h2⟩=>⟨m',(htk m').2 (.inl h1),h2⟩⟩
      | false=>
        refine aa _ ?_
        simp [hltj,hwj,hm]
        refine af.pure wF (q10 m _) ?_
        simp [hwj]
        have hbf:¬ (nm ∈ x.on ∨ ∃ m ∈ x.on.take j,m ∈ D):=fun h=>by have:=hb.2 h; cases this
        refine ⟨j + 1,by omega, ?_⟩
        rcases Decidable.em (0 ≤ dK D m 0) with h | h
        · exact .inr ⟨⟨h,by simp⟩,by omega, .inr ⟨m,(htk m).2 (.inr rfl),(jg D m).1 h⟩⟩
        · refine .inl ⟨⟨by omega,by simp⟩,by omega,fun h1=>hbf (.inl h1),fun z hz hzd=>?_⟩
          rcases (htk z).1 hz with h2 | rfl
          · exact hbf (.inr ⟨z,h2,hzd⟩)
          · exact h ((jg D z).2 hzd)
    · have htk:x.on.take j = x.on:=List.take_of_length_le (by omega)
      rw [htk] at hb
      have hbd:(decide (0 ≤ dK D x.name 0)) = b:=by
        rw [Bool.eq_iff_iff,decide_eq_true_eq,jg,hp3,hp2,hb]
      refine aa _ ?_
      simp [show ¬ j < x.on.length by omega,hbd,hwi]
      exact ⟨i + 1,by omega,by simp,by omega⟩
  · simp only [List.map_cons,List.map_nil,ChM.v,ChM.cells,zHu] at q9 htake
    rcases tf (gq A nm) with hst | hst
    · have hD:D = []:=hnone.2 hst
      subst hD
      rw [hst,if_neg (by simp)] at htake
      generalize bL _ = T at q9 htake
      obtain ⟨t1,t2,t3⟩:=T
      simp only [dc] at q9 htake
      subst htake
      refine aa _ ?_
      simp [show ¬ i < A.length by omega]
      refine af.pure ue (q9 _) ?_
      simp
      refine af.pure jB (bj _) ?_
      simp
    · have hD:¬ D = []:=fun e=>by have:=hnone.1 e; rw [hst] at this; cases this
      rw [hst,if_pos rfl] at htake
      generalize bL _ = T at q9 htake
      obtain ⟨t1,t2,t3⟩:=T
      simp only [dc] at q9 htake
      subst htake
      refine aa _ ?_
      simp [show ¬ i < A.length by omega]
      refine af.pure ue (q9 _) ?_
      simp [hD]
      refine af.pure jB (bj _) ?_
      simp [hD]
end Go.AM
