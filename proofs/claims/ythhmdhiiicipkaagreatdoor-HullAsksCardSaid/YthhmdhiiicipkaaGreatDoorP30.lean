/- HullAsks: whatever a look az Ask returns finds, of the plans that agree at most az many are left az Ask says, and fewer than there were; for any other look at a name that one of their ships has, some find leaves az many, or more. -/
import Derived.Test.YthhmdhiiicipkaaGreatDoorP29
namespace Go.AM
open Go.Proofs
set_option maxRecDepth 100000
set_option maxHeartbeats 1000000
theorem AH {ps:List ar} {day:Int} {ss:List av} (h:aW ps day ss = 0) (hl:a8 ps day ss ≠ []) (hok:∀ ns ∈ a8 ps day ss,OkS ns) :
    (jA ps day ss = 0 ∧ cg (k0 ps day ss).name = true ∧ 0 ≤ (k0 ps day ss).frame ∧ (k0 ps day ss).frame ≤ 40 ∧ (k0 ps day ss).left = (eB (a8 ps day ss)).left ∧
      (k0 ps day ss).left < (a8 ps day ss).length ∧ ∀ k:Nat,k ≤ 5 → bf (a8 ps day ss) (k0 ps day ss).name (k0 ps day ss).frame k ≤ (k0 ps day ss).left) ∨
    (jA ps day ss = 4 ∧ (eB (a8 ps day ss)).left = (a8 ps day ss).length):=by
  obtain ⟨h1,h2⟩:=so h hl
  have hE:jA ps day ss = if (eB (a8 ps day ss)).left = (a8 ps day ss).length then 4 else 0:=by unfold jA; rw [if_neg (by simp [h1])]
  rcases (w5 (a8 ps day ss)).1 with hb | ⟨b1,b2,b3,b4,b5q⟩
  · exact .inr ⟨by rw [hE,if_pos hb],hb⟩
  · have hz:jA ps day ss = 0:=by rw [hE,if_neg (by omega)]
    have hR:k0 ps day ss = eB (a8 ps day ss):=by unfold k0; rw [if_pos hz]
    rw [hR]
    exact .inl ⟨hz,nS hok b1,b2,b3,rfl,b5q,fun k hk=>by rw [b4]; exact ud _ _ _ k hk⟩
theorem yk {n:ByteArray} {f k:Int} (hn:cg n = true) (h1:0 ≤ f) (h2:f ≤ 40) (h3:0 ≤ k) (h4:k ≤ 5):jW ⟨n,f,k⟩ = 0:=by
  unfold jW
  dsimp only
  rw [if_neg (by simp [hn]),if_neg]
  simp [bu]; omega
theorem gG (l:List av):Fits 3 (l.map av.v):=by
  intro v hv
  obtain ⟨a,_,rfl⟩:=List.mem_map.1 hv
  exact ⟨rfl,rfl⟩
theorem rp (ps:List ar) (hn:ps.length ≤ maxLen) (hf:∀ p ∈ ps,gO p) (d t:Nat) (xs:List bp) (hd:d ≤ 65535) (ht:t ≤ 255) (hxl:xs.length ≤ maxLen) (hxs:∀ x ∈ xs,x.ok) (y:bp) (hy:y.ok) :
    Spec Tryz.prog F_8 [bx ps, .agg [.int .u16 d, .int .u8 t, .slice 4 (xs.map bp.v)],y.v] [] fun r _=>r = .ret (.bool true):=by
  refine S_8 (by simp) ?_
  obtain ⟨hon,hdn⟩:=wU d hd
  generalize d % 40001 = on at hon hdn
  have hmx:maxLen = 9223372036854775807:=rfl
  have q1:=gk ps on [] hn hf (by simp)
  rcases Decidable.em (aW ps on [] = 0) with hv | hv
  rotate_left
  · generalize aW ps on [] = E at hv q1
    simp only [bx,br,bp.v,bp.cells] at *
    refine aa _ ?_
    simp [C_8,hon]
    refine af.pure Ct (q1 _) ?_
    simp [hv]
    refine af.pure jB (bj _) ?_
    simp
  have hsv:=cu.1 hv
  rw [hv] at q1
  rcases Nat.lt_or_ge xs.length 12 with hx12 | hx12
  rotate_left
  · simp only [bx,br,bp.v,bp.cells] at *
    refine aa _ ?_
    simp [C_8,hon]
    refine af.pure Ct (q1 _) ?_
    simp [show (12:Int) ≤ xs.length by omega]
    refine af.pure jB (bj _) ?_
    simp
  have h1:=hsv.n1
  have h6:=hsv.n6
  have hne:¬ (ps.length:Int) = 0:=by omega
  have hps:¬ ps = []:=fun e=>by rw [e] at h1; simp at h1
  obtain ⟨j,hjl,hjt,e2⟩:=mf ht h1 (by omega)
  obtain ⟨p,hpj⟩:∃ p,ps[j] = p:=⟨_,rfl⟩
  have hpm:p ∈ ps:=hpj ▸ List.getElem_mem hjl
  have hok:=hsv.ok p hpm
  have hS:=kr hok on
  obtain ⟨pp,pc⟩:=p
  have q2:=lW ps on pp pc (hf _ hpm) hok xs hxl hxs hf hsv
  obtain ⟨hsl,hst⟩:=qq h1 hsv.ok hS xs [] (by simp) (by simp)
  have hs11:=sg (ps:=ps) (day:=on) (ns:=cL on ⟨pp,pc⟩) xs []
  simp only [List.length_nil,Nat.zero_add] at hs11
  generalize hY ps on (cL on ⟨pp,pc⟩) xs [] = ss at q2 hsl hst hs11
  obtain ⟨hv2,hag⟩:=rU hsv hsl hst
  have hz2:=cu.2 hv2
  have hQ:∀ s,Ec ps (ss ++ [s]):=fun s=>⟨hn,fun p hp=>(hf p hp).tolJ,by simp; omega⟩
  have hq:Ec ps ss:=⟨hn,fun p hp=>(hf p hp).tolJ,by omega⟩
  have q3:=iA ps on ss hq
  have q4:=jR ps on ss hq
  rw [hz2] at q3
  -- a further sight
  have q5:∀ n f k,cg n = true → 0 ≤ f → f ≤ 40 → 0 ≤ k → k ≤ 5 → ∃ M:List Nat,M.length = bf (a8 ps on ss) n f k ∧ M.length ≤ 6 ∧ ∀ σ,Spec Tryz.prog D4 [bx ps,ii' on,br (ss ++ [⟨n,f,k⟩])] σ fun r σ'=>r = .ret (.tup [.slice 1 (M.map nn'),ii' 0]) ∧ σ' = σ:=by
    intro n f k g1 g2 g3 g4 g5
    have hsm:=rT.2 ⟨hv2,by omega,yk g1 g2 g3 g4 g5⟩
    have q:=iA ps on (ss ++ [⟨n,f,k⟩]) (hQ _)
    rw [cu.2 hsm] at q
    exact ⟨_,wb hsm,zH _ _ _,q⟩
  have hleft:=tG hpm hag
  have hlne:a8 ps on ss ≠ []:=fun e=>by rw [e] at hleft; cases hleft
  have hlok:∀ ns ∈ a8 ps on ss,OkS ns:=(vC hv2).1
  have hask:=AH hz2 hlne hlok
  have hmin:=(w5 (a8 ps on ss)).2
  have hm6:=fun n f=>BH (a8 ps on ss) n f
  obtain ⟨la,lb⟩:=left_at (ps:=ps) (day:=on) (ss:=ss)
  have hAR:jb ps on ss = dT ss (aN on ps):=by unfold jb; rw [if_pos hz2]
  have hLlt:∀ j ∈ dT ss (aN on ps),j < ps.length:=fun j hj=>by
    have:=mM (bE ss) (aN on ps) 0 j hj
    simp [aN] at this; omega
  rw [hAR] at q3
  have hL6:(dT ss (aN on ps)).length ≤ 6:=hAR ▸ zH ps on ss
  obtain ⟨j0q,L',hLe⟩:∃ j0q L',dT ss (aN on ps) = j0q :: L':=by
    cases hLe:dT ss (aN on ps) with
    | nil=>rw [hLe] at la; exact absurd (List.eq_nil_of_length_eq_zero la) hlne
    | cons a r=>exact ⟨a,r,rfl⟩
  have hj0:j0q < ps.length:=hLlt j0q (by rw [hLe]; simp)
  obtain ⟨p0q,hp0⟩:∃ p0q,ps[j0q] = p0q:=⟨_,rfl⟩
  have hp0m:p0q ∈ ps:=hp0 ▸ List.getElem_mem hj0
  have hok0:=hsv.ok p0q hp0m
  have hms:cL on p0q ∈ a8 ps on ss:=by
    have hg:(dT ss (aN on ps))[0]'(by rw [hLe]; simp) = j0q:=by simp [hLe]
    have:=lb 0 (by rw [hLe]; simp) (by rw [hg]; exact hj0) (by rw [la,hLe]; simp)
    simp only [hg,hp0] at this
    rw [← this]; exact List.getElem_mem _
  obtain ⟨mp,mcq⟩:=p0q
  have q6:=bP mp mcq (hf _ hp0m) hok0 on
  have hsd:cL on ⟨mp,mcq⟩ = aM on mp mcq:=rfl
  have hml:=(kr hok0 on).len
  rw [← hsd] at q6
  clear hsd
  have hnames:∀ m ∈ cL on ⟨mp,mcq⟩,m.name ∈ aF (a8 ps on ss) ∧ cg m.name = true:=fun m hm=>
    ⟨l6 hms hm,nS hlok (l6 hms hm)⟩
  generalize cL on ⟨mp,mcq⟩ = ms at q6 hml hnames
  rw [hLe] at q3 hL6 la
  clear hAR hLlt hLe lb hag hst hms hleft
  generalize a8 ps on ss = S at *
  generalize k0 ps on ss = B at *
  obtain ⟨bnq,bfq,bl⟩:=B
  generalize jA ps on ss = E at *
  try dsimp only at hask q4
  have hx12I:¬ (12:Int) ≤ xs.length:=by omega
  have hj0I:¬ (ps.length:Int) ≤ j0q:=by omega
  have hj0N:¬ (j0q:Int) < 0:=by omega
  have hlz:¬ ((L'.length:Int) + 1 = 0):=by omega
  obtain ⟨y1,y2,y3⟩:=hy
  simp only [bx,br,bp.v,bp.cells] at *
  rcases hask with ⟨hE0,hnm,hf0,hf40,hlb,hlt,hk⟩ | ⟨hE4,hbl⟩
  · subst hE0
    have hltI:(bl:Int) < (L'.length:Int) + 1:=by rw [la] at hlt; simp at hlt; omega
    refine aa _ ?_
    simp [C_8,hon]
    refine af.pure Ct (q1 _) ?_
    simp [hon,hx12I,e2,hps,hjl,hpj,ar.v,ar.cells]
    refine ⟨_,fun σ'=>aB.func Aw (q2 σ'), ?_⟩
    simp
    refine af.pure Fh (q3 _) ?_
    simp [hon,hx12I,e2,hjl,hpj,ar.v,ar.cells]
    refine af.pure A1 (q4 _) ?_
    simp [hon,hx12I,e2,hjl,hpj,ar.v,ar.cells]
    refine AW.loop (ι:=Nat) (fun k fr σ=>fr = { v:=[(0, .slice 2 (ps.map ar.v)),(5, .pval (.agg [.int .u8 y.plan, .int .u8 y.part, .str y.name, .int .u8 y.frame])),(7,ii' on),(9, .slice 3 (ss.map av.v)),(10, .slice 1 ((j0q :: L').map nn')),(12, .str bnq),(13,ii' bfq),(14,nn' bl),(15,ii' 0),(16, .int .i64 k)],ds:=[] } ∧ k ≤ 6) (fun k=>6 - k) 0 ⟨rfl,by omega⟩ ?_
    rintro k fr σ ⟨rfl,hk6⟩
    refine (Nat.lt_or_ge k 6).elim (fun hltk=>?_) (fun hgek=>?_)
    · obtain ⟨M,hM1,hM2,hM⟩:=q5 bnq bfq k hnm hf0 hf40 (by omega) (by omega)
      have hkk:=hk k (by omega)
      rw [← hM1] at hkk
      have hMI:¬ (bl:Int) < M.length:=by omega
      have hblI:¬ (L'.length:Int) + 1 ≤ bl:=by omega
      have hwk:IntKind.i64.wrap ((k:Int) + 1) = ((k + 1:Nat):Int):=by rw [aj (by omega) (by omega)]; simp
      have hk5:(k:Int) ≤ 5:=by omega
      have hft:=gG ss
      have hft1:=gG [⟨bnq,bfq,k⟩]
      simp only [List.map_append,List.map_cons,List.map_nil,av.v,av.cells] at hM hft1
      refine aa _ ?_
      simp [hk5,hft,hft1]
      refine ⟨by omega,by omega, ?_⟩
      refine af.pure Fh (hM _) ?_
      simp [hMI,hblI,hwk]
      exact ⟨k + 1,by omega,by simp,by omega⟩
    · obtain rfl:k = 6:=by omega
      rcases Nat.eq_zero_or_pos ms.length with hm0 | hm0
      · have hme:ms = []:=List.eq_nil_of_length_eq_zero hm0
        subst hme
        refine aa _ ?_
        simp [hj0I,hj0N,hlz,hj0,hp0,ar.v,ar.cells]
        refine af.pure p0 (q6 _) ?_
        simp
        refine af.pure jB (bj _) ?_
        simp
      have hme:¬ ms = []:=fun e=>by rw [e] at hm0; simp at hm0
      have hmz:¬ (ms.length:Int) = 0:=by omega
      obtain ⟨b,hbl',hbt,e3⟩:=mf y2 hm0 (by omega)
      obtain ⟨m,hm⟩:∃ m,ms[b] = m:=⟨_,rfl⟩
      have hm':ms[b]? = some m:=by rw [List.getElem?_eq_getElem hbl',hm]
      obtain ⟨g1,g2⟩:=hnames m (hm ▸ List.getElem_mem hbl')
      refine aa _ ?_
      simp [hj0I,hj0N,hlz,hj0,hp0,ar.v,ar.cells]
      refine af.pure p0 (q6 _) ?_
      simp [hme,e3,hbl',hm,HuM.v,HuM.cells]
      obtain ⟨f,hf'⟩:∃ f,y.frame % 41 = f:=⟨_,rfl⟩
      have e4:(IntKind.i64.wrap (y.frame:Int)).tmod 41 = (f:Int):=by rw [aj (by omega) (by omega),Int.tmod_eq_emod_of_nonneg (by omega)]; omega
      have hle:=hmin m.name g1 f (by omega)
      rw [← hm6] at hle
      have hml2:=qd S m.name f
      refine AW.loop (ι:=Nat) (fun k fr σ=>fr = { v:=[(0, .slice 2 (ps.map ar.v)),(5, .pval (.agg [.int .u8 y.plan, .int .u8 y.part, .str y.name, .int .u8 y.frame])),(7,ii' on),(9, .slice 3 (ss.map av.v)),(14,nn' bl),(20, .str m.name),(21,nn' (uM S m.name f k)),(22, .int .i64 k)],ds:=[] } ∧ k ≤ 6) (fun k=>6 - k) 0 ⟨by simp [uM],by omega⟩ ?_
      rintro k fr σ ⟨rfl,hk6⟩
      refine (Nat.lt_or_ge k 6).elim (fun hltk=>?_) (fun hgek=>?_)
      · obtain ⟨M,hM1,hM2,hM⟩:=q5 m.name f k g2 (by omega) (by omega) (by omega) (by omega)
        have hmx2:uM S m.name f (k + 1) = max (uM S m.name f k) M.length:=by rw [hM1]; rfl
        have hwk:IntKind.i64.wrap ((k:Int) + 1) = ((k + 1:Nat):Int):=by rw [aj (by omega) (by omega)]; simp
        have hk5:(k:Int) ≤ 5:=by omega
        have hft:=gG ss
        have hft1:=gG [⟨m.name,f,k⟩]
        simp only [List.map_append,List.map_cons,List.map_nil,av.v,av.cells] at hM hft1
        generalize uM S m.name f k = w at hmx2
        refine aa _ ?_
        simp [hk5,e4,hft,hft1]
        refine ⟨by omega,by omega,_,fun σ' _=>aB.func Fh (hM σ'), ?_⟩
        simp [hwk]
        refine ⟨k + 1,by omega,⟨?_,by simp⟩,by omega⟩
        rw [hmx2]; omega
      · obtain rfl:k = 6:=by omega
        have hleI:(bl:Int) ≤ uM S m.name f 6:=by omega
        refine aa _ ?_
        simp [hleI]
        refine af.pure jB (bj _) ?_
        simp
        omega
  · subst hE4
    rw [la] at hbl
    simp only [List.length_cons] at hbl
    refine aa _ ?_
    simp [C_8,hon]
    refine af.pure Ct (q1 _) ?_
    simp [hon,hx12I,e2,hps,hjl,hpj,ar.v,ar.cells]
    refine ⟨_,fun σ'=>aB.func Aw (q2 σ'), ?_⟩
    simp
    refine af.pure Fh (q3 _) ?_
    simp [hon,hx12I,e2,hjl,hpj,ar.v,ar.cells]
    refine af.pure A1 (q4 _) ?_
    simp [hon,hx12I,e2,hjl,hpj,ar.v,ar.cells]
    refine AW.loop (ι:=Nat) (fun k fr σ=>fr = { v:=[(0, .slice 2 (ps.map ar.v)),(5, .pval (.agg [.int .u8 y.plan, .int .u8 y.part, .str y.name, .int .u8 y.frame])),(7,ii' on),(9, .slice 3 (ss.map av.v)),(10, .slice 1 ((j0q :: L').map nn')),(12, .str bnq),(13,ii' bfq),(14,nn' bl),(15,ii' 4),(16, .int .i64 k)],ds:=[] } ∧ k ≤ 6) (fun k=>6 - k) 0 ⟨rfl,by omega⟩ ?_
    rintro k fr σ ⟨rfl,hk6⟩
    · rcases Nat.eq_zero_or_pos ms.length with hm0 | hm0
      · have hme:ms = []:=List.eq_nil_of_length_eq_zero hm0
        subst hme
        refine aa _ ?_
        simp [hj0I,hj0N,hlz,hj0,hp0,ar.v,ar.cells]
        refine af.pure p0 (q6 _) ?_
        simp
        refine af.pure jB (bj _) ?_
        simp
      have hme:¬ ms = []:=fun e=>by rw [e] at hm0; simp at hm0
      have hmz:¬ (ms.length:Int) = 0:=by omega
      obtain ⟨b,hbl',hbt,e3⟩:=mf y2 hm0 (by omega)
      obtain ⟨m,hm⟩:∃ m,ms[b] = m:=⟨_,rfl⟩
      have hm':ms[b]? = some m:=by rw [List.getElem?_eq_getElem hbl',hm]
      obtain ⟨g1,g2⟩:=hnames m (hm ▸ List.getElem_mem hbl')
      refine aa _ ?_
      simp [hj0I,hj0N,hlz,hj0,hp0,ar.v,ar.cells]
      refine af.pure p0 (q6 _) ?_
      simp [hme,e3,hbl',hm,HuM.v,HuM.cells]
      obtain ⟨f,hf'⟩:∃ f,y.frame % 41 = f:=⟨_,rfl⟩
      have e4:(IntKind.i64.wrap (y.frame:Int)).tmod 41 = (f:Int):=by rw [aj (by omega) (by omega),Int.tmod_eq_emod_of_nonneg (by omega)]; omega
      have hle:=hmin m.name g1 f (by omega)
      rw [← hm6] at hle
      have hml2:=qd S m.name f
      refine AW.loop (ι:=Nat) (fun k fr σ=>fr = { v:=[(0, .slice 2 (ps.map ar.v)),(5, .pval (.agg [.int .u8 y.plan, .int .u8 y.part, .str y.name, .int .u8 y.frame])),(7,ii' on),(9, .slice 3 (ss.map av.v)),(14, .int .i64 ((L'.length:Int) + 1)),(20, .str m.name),(21,nn' (uM S m.name f k)),(22, .int .i64 k)],ds:=[] } ∧ k ≤ 6) (fun k=>6 - k) 0 ⟨by simp [uM],by omega⟩ ?_
      rintro k fr σ ⟨rfl,hk6⟩
      refine (Nat.lt_or_ge k 6).elim (fun hltk=>?_) (fun hgek=>?_)
      · obtain ⟨M,hM1,hM2,hM⟩:=q5 m.name f k g2 (by omega) (by omega) (by omega) (by omega)
        have hmx2:uM S m.name f (k + 1) = max (uM S m.name f k) M.length:=by rw [hM1]; rfl
        have hwk:IntKind.i64.wrap ((k:Int) + 1) = ((k + 1:Nat):Int):=by rw [aj (by omega) (by omega)]; simp
        have hk5:(k:Int) ≤ 5:=by omega
        have hft:=gG ss
        have hft1:=gG [⟨m.name,f,k⟩]
        simp only [List.map_append,List.map_cons,List.map_nil,av.v,av.cells] at hM hft1
        generalize uM S m.name f k = w at hmx2
        refine aa _ ?_
        simp [hk5,e4,hft,hft1]
        refine ⟨by omega,by omega,_,fun σ' _=>aB.func Fh (hM σ'), ?_⟩
        simp [hwk]
        refine ⟨k + 1,by omega,⟨?_,by simp⟩,by omega⟩
        rw [hmx2]; omega
      · obtain rfl:k = 6:=by omega
        have hleI:(L'.length:Int) + 1 ≤ uM S m.name f 6:=by omega
        refine aa _ ?_
        simp [hleI]
        refine af.pure jB (bj _) ?_
        simp
        omega
end Go.AM
