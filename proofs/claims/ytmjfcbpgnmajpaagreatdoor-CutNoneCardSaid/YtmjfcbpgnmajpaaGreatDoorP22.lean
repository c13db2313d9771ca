/- Bad and May: of the document. Bad and May: of the program. How many parts can be cut of a set: of the program, the walk. Next: of the document. Next: of the program. -/
import Derived.Test.YtmjfcbpgnmajpaaGreatDoorP21
import Derived.Test.YtmjfcbpgnmajpaaGreatDoorP20
namespace Go.AM
open Go.Proofs
set_option maxRecDepth 100000
set_option maxHeartbeats 1000000
def qY (t:ah) (l:List Int):Int × Int × Int:=if bz t l ≠ 0 then (0,0,bz t l) else ((bH t l 0 (aP t)).1,(bH t l 0 (aP t)).2.1,0)
def cA (t:ah) (l:List Int):Int:=if bz t l ≠ 0 then bz t l else if 0 ≤ (bH t l 0 (aP t)).1 then 9 else 0
def gN (t:ah) (l:List Int):Nat:=(bH t l 0 (aP t)).2.2
def S1 (t:ah) (l:List Int):ab:=if cA t l = 0 then .tup [s5 t,nn' (gN t l),ii' 0] else .tup [.agg [ii' 0, .slice 1 []],ii' 0,ii' (cA t l)]
theorem ib {t:ah} {l:List Int} (h:bz t l = 0):t.Fit ∧ l.all (inO t.ar.length) = true:=by
  unfold bz at h
  split at h
  · rename_i h1; exact absurd h h1
  · rename_i h1
    split at h
    · rename_i h2; exact ⟨bm (by simpa using h1),h2⟩
    · cases h
theorem og {t:ah} {l:List Int} (h:cA t l = 0):bz t l = 0:=by
  unfold cA at h
  split at h
  · rename_i h1; exact absurd h h1
  · rename_i h1; simpa using h1
theorem Tt (t:ah) (l:List Int):(S1 t l).pure = true:=by
  unfold S1
  split
  · simp [ab.pure,aM,xR]
  · rfl
theorem xy (t:ah) (l:List Int):Sub t (gN t l):=uq (Sub.all t)
theorem Tb (t:ah) (hok:t.Ok) (l:List Int) (hl:l.length ≤ maxLen) (σ:af):Spec Tryz.prog UD [t.v, .slice 1 (l.map ii')] σ fun r σ'=>r = .ret (S1 t l) ∧ σ' = σ:=by
  refine Spec.ay (VN (by simp) (dm _ ?_)) (by simp [aM,t.pure,ab.pure,av (f:=ii') (fun _=>rfl)]) (Tt t l) σ
  have ho:=fun σ=>tc t hok l hl σ
  obtain ⟨b,hb⟩:∃ b,S1 t l = b:=⟨_,rfl⟩
  have hb':=hb
  unfold S1 at hb'
  rw [hb]
  simp [U7,ah.v,ah.cells]
  refine aj.pure Kh (ho _) ?_
  refine (Classical.em (bz t l = 0)).elim (fun h=>?_) (fun h=>?_)
  rotate_left
  · have hbe:cA t l = bz t l:=by unfold cA; rw [if_pos h]
    rw [hbe,if_neg h] at hb'
    simp [h]
    rw [← hb']
  have hfi:=ib h
  simp [h]
  refine aj.pure SD (tO t hok hfi.1 _) ?_
  simp [s5]
  refine aj.pure VQ (Te t hfi.1 l hl hfi.2 _) ?_
  refine (Classical.em (0 ≤ (bH t l 0 (aP t)).1)).elim (fun h2=>?_) (fun h2=>?_)
  · have hbe:cA t l = 9:=by unfold cA; rw [if_neg (by simp [h]),if_pos h2]
    rw [hbe,if_neg (by omega)] at hb'
    simp [h2]
    rw [← hb']
  · have hbe:cA t l = 0:=by unfold cA; rw [if_neg (by simp [h]),if_neg h2]
    rw [hbe,if_pos rfl] at hb'
    simp [h2]
    rw [← hb']; rfl
def zp (t:ah) (l:List Int):ab:=.tup [.slice 1 (if cA t l = 0 then (bq t (gN t l)).map nn' else []),ii' (cA t l)]
theorem A5 (t:ah) (l:List Int):(zp t l).pure = true:=by
  unfold zp
  split
  · simp [ab.pure,aM,av (f:=nn') (fun _=>rfl)]
  · rfl
set_option maxRecDepth 100000
set_option maxHeartbeats 1000000
theorem Ee (m:Nat) (l:List Int):l.any (cO m) = !(l.all (inO m)):=by
  rw [Bool.eq_iff_iff]
  simp only [List.any_eq_true,Bool.not_eq_true',List.all_eq_false]
  constructor
  · rintro ⟨x,hx,h⟩
    refine ⟨x,hx, ?_⟩
    simp [cO] at h
    simp [inO]
    omega
  · rintro ⟨x,hx,h⟩
    refine ⟨x,hx, ?_⟩
    simp [inO] at h
    simp [cO]
    omega
theorem uF {t:ah} (hf:t.Fit) (hok:t.Ok) {n:Nat} {σ:af} (h:bX t n σ) (l:List Int) (hl:l.length ≤ maxLen) (hin:l.all (inO t.ar.length) = true) :
    Spec Tryz.prog HT [.ptr (n + 2) 0, .slice 1 (l.map ii')] σ fun r σ'=>r = .ret (.tup [ii' (bH t l 0 (aP t)).1,nn' (bH t l 0 (aP t)).2.1,nn' (bH t l 0 (aP t)).2.2]) ∧ tr t n σ σ':=by
  have h7:=hf.ship7
  obtain ⟨W,hW⟩:∃ W,bH t l 0 (aP t) = W:=⟨_,rfl⟩
  rw [hW]
  obtain ⟨m,hk,hsh⟩:=id h
  refine RN (by simp) (dm _ ?_)
  simp [LZ]
  refine aj.pure Bt (jx hf hsh) ?_
  simp
  refine AW.loop (ι:=Nat) (fun i fr σ1=>∃ s,fr = { v:=[(0, .ptr (n + 2) 0),(6,nn' s),(12, .slice 1 (l.map ii')),(13,nn' l.length),(14,nn' i)],ds:=[] } ∧ tr t n σ σ1 ∧ i ≤ l.length ∧ Sub t s ∧ bH t (l.drop i) i s = W) (fun i=>l.length - i) 0 ⟨aP t,by simp,h.yy,by omega,Sub.all t,hW⟩ ?_
  rintro i fr σ1 ⟨s,rfl,hm,hi,hs,hw⟩
  have h128:=hs.lt hf
  refine (Nat.lt_or_ge i l.length).elim (fun hlt=>?_) (fun hge=>?_)
  · have hd:l.drop i = l[i] :: l.drop (i + 1):=List.drop_eq_getElem_cons hlt
    obtain ⟨x,hx⟩:∃ x,l[i] = x:=⟨_,rfl⟩
    have hxi:=List.all_eq_true.1 hin x (hx ▸ List.getElem_mem _)
    simp only [inO,Bool.and_eq_true,decide_eq_true_eq] at hxi
    obtain ⟨k,rfl⟩:∃ n:Nat,x = n:=⟨x.toNat,by omega⟩
    have hn:k < t.ar.length:=by omega
    have hw1:IntKind.i64.wrap ((i:Int) + 1) = ((i + 1:Nat):Int):=by rw [an (by omega) (by simp only [maxLen] at hl; omega)]; simp
    rw [hd,hx,bH] at hw
    simp only [Int.toNat_natCast] at hw
    have hx1:=lT (i:=k) (by omega)
    have hx2:jt .i64 (s:Int) (2 ^ k) = ((aK s k:Nat):Int):=by
      have:=td (a:=s) (b:=2 ^ k) (by omega)
      simpa [aK] using this
    refine dm _ ?_
    simp [hlt,hx]
    refine aj.j7 (aC.j7 (first:=[]) (args:=[.ptr (n + 2) 0,nn' s,nn' k]) Fj (nN hf hok (h.j7 hm) s k hs hn)) fun σ2 hm2=>?_
    have hm3:=hm.trans h hm2
    refine (Classical.em (bD t s k = 0)).elim (fun hz=>?_) (fun hz=>?_)
    · rw [if_neg (by simpa using hz)] at hw
      simp [hlt,hx,hz,hx1,hx2,hw1]
      exact ⟨i + 1,by omega,aK s k,⟨rfl,by simp⟩,hm3,by omega,hs.rem,hw⟩
    · rw [if_pos hz] at hw
      have hzI:¬ (bD t s k:Int) = 0:=by omega
      simp [hlt,hx,hz,hx1,hx2]
      rw [← hw]
      exact ⟨⟨rfl,rfl,rfl⟩,hm3⟩
  · have hnl:¬ i < l.length:=by omega
    rw [List.drop_eq_nil_of_le hge] at hw
    refine dm _ ?_
    simp [hnl]
    rw [← hw]; exact ⟨⟨rfl,rfl,rfl⟩,hm⟩
def opened (t:ah) (σ:af) (m:List (Nat × Int)) (tl:af):af:=σ ++ .arr 1 (eh t) :: .amap (bt m) :: .box (iG t σ.length (iN t)) :: tl
theorem dC {t:ah} {σ:af} {m:List (Nat × Int)} (hm:aX t m) (tl:af):bX t σ.length (opened t σ m tl):=⟨m,hm,by simp [opened],by simp [opened],by simp [opened]⟩
theorem fK (t:ah):aX t []:=fun _ _ h=>by cases h
theorem qI {t:ah} {σ σ':af} {m:List (Nat × Int)} {tl:af} (h:tr t σ.length (opened t σ m tl) σ'):∃ m' tl',aX t m' ∧ σ' = opened t σ m' tl':=by
  obtain ⟨m',tl',h1,rfl⟩:=h
  exact ⟨m',tl ++ tl',h1,by simp [opened]⟩
theorem na (t:ah) (hok:t.Ok) (l:List Int) (hl:l.length ≤ maxLen) (σ:af):Spec Tryz.prog HF [t.v, .slice 1 (l.map ii')] σ fun r σ'=>
    (bz t l = 0 ∧ r = .ret (.tup [.ptr (σ.length + 2) 0,ii' 0]) ∧ ∃ tl,σ' = opened t σ [] tl) ∨
    (bz t l ≠ 0 ∧ (r = .ret (.tup [.ptr (σ.length + 2) 0,ii' (bz t l)]) ∨ r = .ret (.tup [.nilptr,ii' (bz t l)])) ∧ ∃ tl,σ' = σ ++ tl):=by
  refine RU (by simp) (dm _ ?_)
  obtain ⟨e,he⟩:∃ e,bz t l = e:=⟨_,rfl⟩
  have he':=he
  unfold bz at he'
  rw [he]
  simp [Lh,ah.v,ah.cells]
  refine aj.spec B7 (eu t hok σ) ?_
  rintro r σ' (⟨h1,rfl,tl,rfl⟩ | ⟨h1,rfl,tl,rfl⟩)
  · refine ⟨_,rfl, ?_⟩
    rw [if_neg (by simp [h1])] at he'
    simp
    refine (tf (l.all (inO t.ar.length))).elim (fun hb=>?_) (fun hb=>?_)
    · refine aj.aD Bx (cw t.ar.length l hl _) (congrArg ab.bool (show l.any (cO t.ar.length) = true by rw [Ee,hb]; rfl)) ?_
      rw [if_neg (by simp [hb])] at he'
      simp [← he']
    · refine aj.aD Bx (cw t.ar.length l hl _) (congrArg ab.bool (show l.any (cO t.ar.length) = false by rw [Ee,hb]; rfl)) ?_
      rw [if_pos hb] at he'
      simp [← he',opened]
  · refine ⟨_,rfl, ?_⟩
    rw [if_pos h1] at he'
    simp [h1, ← he']
theorem hU (t:ah) (hok:t.Ok) (l:List Int) (hl:l.length ≤ maxLen) (σ:af):Spec Tryz.prog BG [t.v, .slice 1 (l.map ii')] σ fun r σ'=>r = .ret (aS (qY t l)) ∧ σ' = σ:=by
  refine Spec.ay (RO (by simp) (dm _ ?_)) (by simp [aM,t.pure,ab.pure,av (f:=ii') (fun _=>rfl)]) rfl σ
  obtain ⟨b,hb⟩:∃ b,qY t l = b:=⟨_,rfl⟩
  have hb':=hb
  unfold qY at hb'
  rw [hb]
  simp [O4,ah.v,ah.cells]
  refine aj.spec H7 (na t hok l hl _) ?_
  rintro r σ' (⟨h1,rfl,tl,rfl⟩ | ⟨h1,rfl | rfl,tl,rfl⟩)
  · refine ⟨_,rfl, ?_⟩
    rw [if_neg (by simp [h1])] at hb'
    have hfi:=ib h1
    simp
    refine aj.j7 (aC.j7 (first:=[]) (args:=[.ptr 2 0, .slice 1 (l.map ii')]) Kg (uF hfi.1 hok (dC (σ:=[]) (fK t) tl) l hl hfi.2)) fun σ2 hm2=>?_
    simp [aS, ← hb']
  · refine ⟨_,rfl, ?_⟩
    rw [if_pos h1] at hb'
    simp [h1,aS, ← hb']
  · refine ⟨_,rfl, ?_⟩
    rw [if_pos h1] at hb'
    simp [h1,aS, ← hb']
theorem ua (t:ah) (hok:t.Ok) (l:List Int) (hl:l.length ≤ maxLen) (σ:af):Spec Tryz.prog IT [t.v, .slice 1 (l.map ii')] σ fun r σ'=>
    (cA t l = 0 ∧ r = .ret (.tup [.ptr (σ.length + 2) 0,nn' (gN t l),ii' 0]) ∧ ∃ m tl,aX t m ∧ σ' = opened t σ m tl) ∨
    (cA t l ≠ 0 ∧ r = .ret (.tup [.nilptr,ii' 0,ii' (cA t l)]) ∧ ∃ tl,σ' = σ ++ tl):=by
  refine SP (by simp) (dm _ ?_)
  obtain ⟨b,hb⟩:∃ b,cA t l = b:=⟨_,rfl⟩
  have hb':=hb
  unfold cA at hb'
  rw [hb]
  simp [NV,ah.v,ah.cells]
  refine aj.spec H7 (na t hok l hl _) ?_
  rintro r σ' (⟨h1,rfl,tl,rfl⟩ | ⟨h1,rfl | rfl,tl,rfl⟩)
  · refine ⟨_,rfl, ?_⟩
    rw [if_neg (by simp [h1])] at hb'
    have hfi:=ib h1
    simp
    refine aj.j7 (aC.j7 (first:=[]) (args:=[.ptr (σ.length + 2) 0, .slice 1 (l.map ii')]) Kg (uF hfi.1 hok (dC (fK t) tl) l hl hfi.2)) fun σ2 hm2=>?_
    refine (Classical.em (0 ≤ (bH t l 0 (aP t)).1)).elim (fun h2=>?_) (fun h2=>?_)
    · rw [if_pos h2] at hb'
      simp [h2]
      obtain ⟨m',tl',hk,rfl⟩:=qI hm2
      exact ⟨by omega,hb',_,rfl⟩
    · rw [if_neg h2] at hb'
      simp [h2]
      obtain ⟨m',tl',hk,rfl⟩:=qI hm2
      exact ⟨hb'.symm,rfl,m',hk,tl',rfl⟩
  · refine ⟨_,rfl, ?_⟩
    rw [if_pos h1] at hb'
    simp [h1, ← hb']
  · refine ⟨_,rfl, ?_⟩
    rw [if_pos h1] at hb'
    simp [h1, ← hb']
theorem yY (s:Nat) (σ:af):Spec Tryz.prog ET [nn' s] σ fun r σ'=>r = .ret (.bool true) ∧ σ' = σ:=by
  refine Spec.ay (PW (by simp) (dm _ ?_)) rfl rfl σ
  simp [KU]
def uH (t:ah) (tl:af) (s':af):Prop:=∃ m,aX t m ∧ s' = opened t [] m tl
theorem uH.ar {t:ah} {tl s':af} (h:uH t tl s'):bX t 0 s':=by
  obtain ⟨m,hm,rfl⟩:=h
  exact dC (σ:=[]) hm tl
theorem uH.j7 {t:ah} {tl s':af} (h:uH t tl s') {m:List (Nat × Int)} (hm:aX t m):uH t tl (s'.set (0 + 1) (.amap (bt m))):=by
  obtain ⟨m',_,rfl⟩:=h
  exact ⟨m,hm,rfl⟩
theorem oE (t:ah) (hok:t.Ok) (l:List Int) (hl:l.length ≤ maxLen) (σ:af):Spec Tryz.prog Em [t.v, .slice 1 (l.map ii')] σ fun r σ'=>r = .ret (zp t l) ∧ σ' = σ:=by
  refine Spec.ay (RV (by simp) (dm _ ?_)) (by simp [aM,t.pure,ab.pure,av (f:=ii') (fun _=>rfl)]) (A5 t l) σ
  obtain ⟨b,hb⟩:∃ b,zp t l = b:=⟨_,rfl⟩
  have hb':=hb
  unfold zp at hb'
  rw [hb]
  simp [JA,ah.v,ah.cells]
  refine aj.spec Oh (ua t hok l hl _) ?_
  rintro r σ' (⟨h1,rfl,m,tl,hm,rfl⟩ | ⟨h1,rfl,tl,rfl⟩)
  · refine ⟨_,rfl, ?_⟩
    rw [h1,if_pos rfl] at hb'
    obtain ⟨hf,hin⟩:=ib (og h1)
    simp
    refine aj.pure Bp (dR 2 (gN t l) _) ?_
    simp
    refine aj.spec Nc (oS hf hok (n:=0) (opened t [] m tl) (gN t l) (xy t l) (.func ET) [] [] (fun _=>true) (uH t tl) (fun s' h=>h.ar) (fun s' m h hm=>h.j7 hm) (fun i s' tl' _ _ h hl'=>?_) ⟨m,hm,rfl⟩) ?_
    · refine (aC.pure Ss (yY (aK (gN t l) i) (s' ++ tl')) (Q:=fun r σ'=>r = .ret (.bool true) ∧ σ' = s' ++ tl') ⟨rfl,rfl⟩).mono ?_
      rintro r σ' ⟨rfl,rfl⟩
      exact ⟨s',[],by simp,hl',rfl,h⟩
    · rintro r σ' ⟨rfl,s',tl',rfl,_,hj⟩
      refine ⟨_,rfl, ?_⟩
      have hft:(bq t (gN t l)).filter (fun _=>true) = bq t (gN t l):=List.filter_eq_self.2 fun _ _=>rfl
      simp [← hb',hft]
  · refine ⟨_,rfl, ?_⟩
    rw [if_neg h1] at hb'
    simp [h1, ← hb']
set_option maxRecDepth 100000
set_option maxHeartbeats 1000000
def iu (n k q s B:Nat):Env:=[(1, .pval (.map k)),(3, .ptr q 0),(4, .pval (nn' s)),(6, .ptr B 0),(20, .func (.func gR) [] [.pval (nn' s), .pval (.ptr (n + 2) 0)])]
def gn (n k q s B v:Nat) (asg body:Code) (st:LoopState) (pd:Option Code):af:=[.box [nn' v], .dfr, .looprec 38 (iu n k q s B) [21,22] asg body (B + 1) st pd]
theorem aj.Fv {t:ah} {n k:Nat} {fv:ab} {args:List ab} {σ X:af} {m0 M0:List (Nat × Int)} {v:ab} {K Kp:ab → af → Prop} (hs:aC Tryz.prog fv args (bd σ n k m0 M0 ++ X) fun r σ'=>r = .ret v ∧ o4 t n k (bd σ n k m0 M0 ++ X) σ') (h1:n + 1 < σ.length) (h2:k < σ.length) (hne:n + 1 ≠ k)
    (hq:∀ m M tl,aX t m → dt t M → K v (bd σ n k m M ++ (X ++ tl))):@aj Tryz.prog fv args (bd σ n k m0 M0 ++ X) ⟨K⟩ ⟨Kp⟩:=
  hs.mono (by
    rintro r σ' ⟨rfl,m,M,tl,g1,g2,rfl⟩
    have:=hq m M tl g1 g2
    rw [vl _ _ _ _ _ _ h1 h2 hne,List.append_assoc]
    exact this)
theorem By {t:ah} (hf:t.Fit) (hok:t.Ok) {n k q:Nat} (s:Nat) (hs:Sub t s)
    (ih:∀ s',pop s' < pop s → Sub t s' → ∀ σ,cu t n k q σ → Spec Tryz.prog oA [nn' s', .pval (.map k), .pval (.ptr (n + 2) 0), .ptr q 0] σ fun r σ'=>r = .ret (nn' (aR t s')) ∧ o4 t n k σ σ')
    (σ:af) (h:cu t n k q σ) :
    Spec Tryz.prog oA [nn' s, .pval (.map k), .pval (.ptr (n + 2) 0), .ptr q 0] σ fun r σ'=>r = .ret (nn' (aR t s)) ∧ o4 t n k σ σ':=by
  have h128:=hs.lt hf
  have h7:=hf.ship7
  have hnl:=h.ar.len
  have hkl:=h.EF
  have hql:=h.Nj
  have hnk:=h.lt
  obtain ⟨m0,M0,hm0,hM0,hself,hk⟩:=h.ex
  have hcases:dS s M0 = none ∨ dS s M0 = some (aR t s:Int):=by
    cases hh:dS s M0 with
    | none=>exact .inl rfl
    | some v=>right; rw [hM0 s v hh]
  have hfind:∀ {m M} X,aX t m → dt t M → (bd σ n k m M ++ X)[q]? = some (.box [bE n k q]):=fun X g1 g2=>(h.j5 g1 g2 X).find
  have hkn:∀ m M X,(bd σ n k m M ++ X)[k]? = some (.amap (bt M)):=fun m M X=>by rw [List.getElem?_append_left (by simpa using hkl)]; exact AR _ _ _ hkl
  have hks:∀ m M M' X,(bd σ n k m M ++ X).set k (.amap (bt M')) = bd σ n k m M' ++ X:=fun m M M' X=>by rw [List.set_append_left _ _ (by simpa using hkl),ry]
  have hns:∀ m M m' X,(bd σ n k m M ++ X).set (n + 1) (.amap (bt m')) = bd σ n k m' M ++ X:=fun m M m' X=>by rw [List.set_append_left _ _ (by simp; omega),np _ _ _ _ (by omega)]
  refine OF (by simp) (dm _ ?_)
  simp [FO]
  refine AW.scope ?_
  refine dm _ ?_
  refine hcases.elim (fun hn=>?_) (fun hv=>?_)
  rotate_left
  · simp [hk,hv]
    exact ⟨m0,M0,_,hm0,hM0,by rw [hself]⟩
  simp [hk,hn]
  refine aj.pure Bp (dR (n + 2) s _) ?_
  simp
  refine AW.bF (by simp) fun asg' body' ca cb hps=>?_
  simp only [List.length_append,List.length_cons,List.length_nil,List.append_assoc,List.cons_append,List.nil_append,Nat.zero_add,Nat.reduceAdd,Nat.add_assoc]
  change cR Tryz.prog (.func (.func gR) [] [.pval (nn' s), .pval (.ptr (n + 2) 0)]) [.yieldf (σ.length + 2)] (σ ++ gn n k q s σ.length 0 asg' body' .ready none) (fH (σ.length + 2) _ _)
  refine cR.func wZ ((ix hf hok _ s hs (σ.length + 2) (fun i s'=>∃ m M,aX t m ∧ dt t M ∧ s' = bd σ n k m M ++ gn n k q s σ.length (gS t s i) asg' body' .ready none)
    (fun s'=>∃ m M,aX t m ∧ dt t M ∧ s' = bd σ n k m M ++ gn n k q s σ.length (aR t s) asg' body' .done (some (.exit 0))) ?_ ?_ ?_ ?_ ?_).mono ?_)
  · rintro i s' ⟨m,M,hm,hM,rfl⟩
    exact (h.j5 hm hM _).ar
  · rintro i s' m' ⟨m,M,hm,hM,rfl⟩ hm'
    exact ⟨m',M,hm',hM,hns _ _ _ _⟩
  · rintro i s' tl hi hw ⟨m,M,hm,hM,rfl⟩ hlen
    have hpr:=fZ s h128 i (by omega) (eA hw)
    have hp7:=m7 s h128
    have hle:=jN hf (fU (i:=i) h128)
    have hun:=mH t s i
    rw [if_pos hw] at hun
    have hu7:=wQ hf hs i (by omega)
    have hu8:=wQ hf hs (i + 1) (by omega)
    have hml:=jN hf h128
    have hw1:IntKind.i64.wrap (1 + (aR t (aK s i):Int)) = ((1 + aR t (aK s i):Nat):Int):=by rw [an (by omega) (by omega)]; simp
    have hcv:IntKind.u64.wrap (s:Int) = s:=wrap_u64 (by omega)
    refine aC.round (e:=iu n k q s σ.length) (D:=σ.length + 1) (pend:=none) ca cb hps (by simp [gn]) rfl ?_
    refine dm _ ?_
    simp [cM,iu,gn]
    refine ⟨_,_,_,_,_,_,_,⟨rfl,rfl,rfl,rfl,rfl,rfl,rfl⟩, ?_⟩
    refine dm _ ?_
    simp [hfind _ hm hM,bE]
    refine aj.Fv (aC.func (first:=[]) (args:=[nn' (aK s i)]) (caps:=[.pval (.map k), .pval (.ptr (n + 2) 0), .ptr q 0]) Es (ih (aK s i) (by omega) hs.rem _ (h.j5 hm hM _))) (by omega) hkl (by omega) fun m' M' tl2 hm' hM'=>?_
    have hif:(if (gS t s i:Int) < 1 + (aR t (aK s i):Int) then 1 + (aR t (aK s i):Int) else (gS t s i:Int)) = ((gS t s (i + 1):Nat):Int):=by
      rw [hun]; split <;> omega
    simp [hw1,hcv,hif]
    refine ⟨nn' (pop s),fun σ'=>aC.func (first:=[]) (args:=[un' s]) (caps:=[]) Hn (zV s h128 σ'), ?_⟩
    refine (Classical.em (gS t s (i + 1) = pop s)).elim (fun he=>?_) (fun he=>?_)
    · have hmp:aR t s = pop s:=by omega
      simp [he]
      exact ⟨38,iu n k q s σ.length,[21,22],asg',body',σ.length + 1, .busy,none,by simp [iu],bd σ n k m' M' ++ gn n k q s σ.length (aR t s) asg' body' .done (some (.exit 0)),⟨tl2,by simp [iu,gn,hmp]⟩,by simp [gn], .inr ⟨rfl,m',hm',M',hM',by simp [iu,gn]⟩⟩
    · have heI:¬ (gS t s (i + 1):Int) = (pop s:Int):=by omega
      simp [heI]
      exact ⟨38,iu n k q s σ.length,[21,22],asg',body',σ.length + 1, .busy,none,by simp [iu],bd σ n k m' M' ++ gn n k q s σ.length (gS t s (i + 1)) asg' body' .ready none,⟨tl2,by simp [iu,gn]⟩,by simp [gn], .inl ⟨rfl,m',hm',M',hM',by simp [iu,gn]⟩⟩
  · rintro i s' hi hw ⟨m,M,hm,hM,rfl⟩
    exact ⟨m,M,hm,hM,by rw [mH,if_neg hw]⟩
  · exact ⟨m0,M0,hm0,hM0,by rw [hself]; rfl⟩
  · rintro r σ' ⟨rfl,s2,tl,rfl,_,⟨m,M,hm,hM,rfl⟩ | ⟨m,M,hm,hM,rfl⟩⟩
    · have hput:dt t (gr s (aR t s) M):=fun j v hv=>by
        rw [fb] at hv
        split at hv
        · rename_i e; cases hv; rw [e]
        · exact hM j v hv
      rw [vm hf hs]
      refine ⟨38,iu n k q s σ.length,[21,22],asg',body',σ.length + 1, .ready,none,by simp [gn],by simp, ?_⟩
      simp [gn,iu,hkn,hks]
      exact ⟨m,_,_,hm,hput,rfl⟩
    · have hput:dt t (gr s (aR t s) M):=fun j v hv=>by
        rw [fb] at hv
        split at hv
        · rename_i e; cases hv; rw [e]
        · exact hM j v hv
      refine ⟨38,iu n k q s σ.length,[21,22],asg',body',σ.length + 1, .done,some (.exit 0),by simp [gn],by simp, ?_⟩
      simp [gn,iu,hkn,hks]
      exact ⟨m,_,_,hm,hput,rfl⟩
theorem find_spec {t:ah} (hf:t.Fit) (hok:t.Ok) {n k q:Nat} (s:Nat) (hs:Sub t s) (σ:af) (h:cu t n k q σ) :
    Spec Tryz.prog oA [nn' s, .pval (.map k), .pval (.ptr (n + 2) 0), .ptr q 0] σ fun r σ'=>r = .ret (nn' (aR t s)) ∧ o4 t n k σ σ':=by
  obtain ⟨d,hd⟩:∃ d,pop s = d:=⟨_,rfl⟩
  induction d using Nat.strongRecOn generalizing s σ with
  | ind d ih=>exact By hf hok s hs (fun s' hlt hs' σ' h'=>ih (pop s') (by omega) s' hs' σ' h' rfl) σ h
set_option maxRecDepth 100000
set_option maxHeartbeats 1000000
def wG (t:ah) (n:Nat):List ab:=(List.range n).map fun s=>.bool (cT t s)
@[simp] theorem Jb (t:ah) (n:Nat):(wG t n).length = n:=by simp [wG]
@[simp] theorem Jc (t:ah) (n i:Nat) (h:i < (wG t n).length):(wG t n)[i] = .bool (cT t i):=by simp [wG]
def gQ (t:ah) (s:Nat):List Nat:=(bq t s).filter fun i=>cT t (aK s i)
def qc (t:ah) (l:List Int):ab:=.tup [.slice 1 (if cA t l = 0 then (gQ t (gN t l)).map nn' else []),ii' (cA t l)]
theorem za (t:ah) (l:List Int):(qc t l).pure = true:=by
  unfold qc
  split
  · simp [ab.pure,aM,av (f:=nn') (fun _=>rfl)]
  · rfl
set_option maxRecDepth 100000
set_option maxHeartbeats 1000000
theorem uJ (t:ah) {n:Nat} (σ:af) (_h:bX t n σ):Spec Tryz.prog IL [.ptr (n + 2) 0] σ fun r σ'=>r = .ret (bE n σ.length (σ.length + 2)) ∧ σ' = σ ++ [.amap [], .dead, .box [bE n σ.length (σ.length + 2)]]:=by
  refine Rg (by simp) (dm _ ?_)
  simp [Ke,bE]
theorem EV (t:ah) {n:Nat} (σ:af) (h:bX t n σ) (X:af):cu t n σ.length (σ.length + 2) (σ ++ [.amap [], .dead, .box [bE n σ.length (σ.length + 2)]] ++ X):=by
  have hl:=h.len
  rw [List.append_assoc]
  exact ⟨h.app,hl,⟨[],fun _ _ h=>(by cases h),by simp⟩,by simp⟩
theorem zw {t:ah} (hf:t.Fit) (hok:t.Ok) {n k q:Nat} (s:Nat) (hs:Sub t s) (σ:af) (h:cu t n k q σ) :
    Spec Tryz.prog HK [bE n k q,nn' s] σ fun r σ'=>r = .ret (.bool (cT t s)) ∧ o4 t n k σ σ':=by
  have h128:=hs.lt hf
  have hnl:=h.ar.len
  have hkl:=h.EF
  have hnk:=h.lt
  obtain ⟨m0,M0,hm0,hM0,hself,hk⟩:=h.ex
  have hcv:IntKind.u64.wrap (s:Int) = s:=wrap_u64 (by omega)
  have hfs:Spec Tryz.prog oA ([nn' s] ++ [.pval (.map k), .pval (.ptr (n + 2) 0), .ptr q 0]) (bd σ n k m0 M0 ++ []) fun r σ'=>r = .ret (nn' (aR t s)) ∧ o4 t n k (bd σ n k m0 M0 ++ []) σ':=by
    rw [List.append_nil,hself]; exact find_spec hf hok s hs σ h
  refine SN (by simp) (dm _ ?_)
  simp [NX,bE]
  have hσ:σ = bd σ n k m0 M0 ++ []:=by rw [List.append_nil,hself]
  rw [hσ]
  refine aj.Fv (aC.func (first:=[]) (args:=[nn' s]) (caps:=[.pval (.map k), .pval (.ptr (n + 2) 0), .ptr q 0]) Es hfs) (by omega) hkl (by omega) fun m' M' tl2 hm' hM'=>?_
  simp [hcv]
  refine aj.pure Hn (zV s h128 _) ?_
  simp
  rw [hself]
  refine ⟨?_,m',M',tl2,hm',hM',rfl⟩
  unfold cT
  rw [Bool.eq_iff_iff,beq_iff_eq,beq_iff_eq]
  omega
theorem xi {t:ah} (hf:t.Fit) (hok:t.Ok) {n k q:Nat} (s:Nat) (hs:Sub t s) (σ:af) (h:cu t n k q σ) :
    Spec Tryz.prog Ct [nn' s, .pval (bE n k q)] σ fun r σ'=>r = .ret (.bool (cT t s)) ∧ o4 t n k σ σ':=by
  refine PT (by simp) (dm _ ?_)
  simp [Kt,bE]
  refine aj.spec P8 (zw hf hok s hs σ h) ?_
  rintro r σ' ⟨rfl,hm⟩
  refine ⟨_,rfl, ?_⟩
  simp
  exact hm
theorem wc {t:ah} (hf:t.Fit) (hok:t.Ok) {n k q:Nat} (s:Nat) (hs:Sub t s) (σ:af) (h:cu t n k q σ) :
    Spec Tryz.prog EZ [.func (.func gR) [] [.pval (nn' s), .pval (.ptr (n + 2) 0)], .func (.func Ct) [] [.pval (bE n k q)]] σ fun r _σ'=>r = .ret (.slice 1 ((gQ t s).map nn')):=by
  have hnl:=h.ar.len
  have hkl:=h.EF
  have hnk:=h.lt
  obtain ⟨m0,M0,hm0,hM0,hself,hk⟩:=h.ex
  refine (oS hf hok (n:=n) σ s hs (.func Ct) [] [.pval (bE n k q)] (fun i=>cT t (aK s i)) (fun s'=>∃ m M,aX t m ∧ dt t M ∧ s' = bd σ n k m M) ?_ ?_ ?_ ⟨m0,M0,hm0,hM0,hself.symm⟩).mono ?_
  · rintro s' ⟨m,M,hm,hM,rfl⟩
    have:=(h.j5 hm hM []).ar
    rwa [List.append_nil] at this
  · rintro s' m' ⟨m,M,hm,hM,rfl⟩ hm'
    exact ⟨m',M,hm',hM,np _ _ _ _ (by omega)⟩
  · rintro i s' tl hi hw ⟨m,M,hm,hM,rfl⟩ hl
    refine (aC.func (first:=[]) (args:=[nn' (aK s i)]) (caps:=[.pval (bE n k q)]) Rt (xi hf hok (aK s i) hs.rem _ (h.j5 hm hM tl))).mono ?_
    rintro r σ' ⟨rfl,m',M',tl',hm',hM',rfl⟩
    exact ⟨bd σ n k m' M',tl',by rw [vl _ _ _ _ _ _ (by omega) hkl (by omega)],by simp,rfl,m',M',hm',hM',rfl⟩
  · rintro r σ' ⟨rfl,_⟩
    rfl
theorem jq (t:ah) (hok:t.Ok) (l:List Int) (hl:l.length ≤ maxLen) (σ:af):Spec Tryz.prog Ef [t.v, .slice 1 (l.map ii')] σ fun r σ'=>r = .ret (qc t l) ∧ σ' = σ:=by
  refine Spec.ay (R3 (by simp) (dm _ ?_)) (by simp [aM,t.pure,ab.pure,av (f:=ii') (fun _=>rfl)]) (za t l) σ
  obtain ⟨b,hb⟩:∃ b,qc t l = b:=⟨_,rfl⟩
  have hb':=hb
  unfold qc at hb'
  rw [hb]
  simp [Lk,ah.v,ah.cells]
  refine aj.spec Oh (ua t hok l hl _) ?_
  rintro r σ' (⟨h1,rfl,m,tl,hm,rfl⟩ | ⟨h1,rfl,tl,rfl⟩)
  · refine ⟨_,rfl, ?_⟩
    rw [h1,if_pos rfl] at hb'
    obtain ⟨hf,hin⟩:=ib (og h1)
    simp
    refine aj.spec Jw (uJ t (n:=0) (opened t [] m tl) (dC (σ:=[]) hm tl)) ?_
    rintro r σ' ⟨rfl,rfl⟩
    refine ⟨_,rfl, ?_⟩
    simp [bE]
    refine aj.pure Bp (dR 2 (gN t l) _) ?_
    simp
    have hat:=EV t (n:=0) (opened t [] m tl) (dC (σ:=[]) hm tl) [.dead]
    simp only [List.append_assoc,List.cons_append,List.nil_append] at hat
    refine aj.spec Nc (wc hf hok (gN t l) (xy t l) _ hat) ?_
    rintro r σ' rfl
    refine ⟨_,rfl, ?_⟩
    simp [← hb']
  · refine ⟨_,rfl, ?_⟩
    rw [if_neg h1] at hb'
    simp [h1, ← hb']
end Go.AM
