/- The sets that are left behind good orders, one after the other: of the program, the walk. To: of the program. Proof: of the program, where there are at most twelve sets. Proves: of the program. .. -/
import Derived.Test.YtmjfcbpgnmajpaaGreatDoorP23
namespace Go.AM
open Go.Proofs
set_option maxRecDepth 100000
set_option maxHeartbeats 1000000
theorem Bj {t:ah} {k n:Nat} {Q:List Place} {q:Place} (h:Q[n]? = some q):o8 t (k + 1) n Q = o8 t k (n + 1) (ji t Q q):=by rw [o8,h]
theorem BD {t:ah} {k n:Nat} {Q:List Place} (h:Q[n]? = none):o8 t (k + 1) n Q = Q:=by rw [o8,h]
def lB (B o:Nat) (cs:List Nat):List tJ:=cs.map fun c=>.coll (B + (c + o))
theorem jK {B o:Nat} {S:af} (hS:S.length = B + o) {K:af → Prop} (hK:∀ X,K (S ++ X)):∀ (cs:List Nat) (X:af),cs.Nodup → (∀ c ∈ cs,X[c]? = some .dfr) → dM (lB B o cs) (S ++ X) K
  | [],X,_,_=>hK X
  | c :: cs,X,hn,hc=>by
    have h1:(S ++ X)[B + (c + o)]? = some .dfr:=by
      rw [show B + (c + o) = S.length + c by omega,jI]; exact hc c (by simp)
    have h2:(S ++ X).set (B + (c + o)) .dead = S ++ X.set c .dead:=by
      rw [show B + (c + o) = S.length + c by omega,jy]
    rw [List.nodup_cons] at hn
    show (match (S ++ X).get (B + (c + o)) with
      | .dfr=>dM (lB B o cs) ((S ++ X).set (B + (c + o)) .dead) K
      | _=>False)
    unfold af.get
    rw [List.getD_eq_getElem?_getD,h1,h2]
    refine jK hS hK cs _ hn.2 fun d hd=>?_
    have hne:c ≠ d:=fun e=>hn.1 (by rw [e]; exact hd)
    rw [List.getElem?_set_ne hne]
    exact hc d (by simp [hd])
def Br (l:List Nat) (w:ab):Prop:=w = .slice 1 (l.map nn') ∨ ∃ b k,w = .oslice 1 (l.map nn') b k
theorem Br.facts {l:List Nat} {w:ab} (h:Br l w):w.strip = w ∧ w.cond = true ∧ w.fB = true ∧ w.BE = true ∧ w.cells = [w] ∧ w.gK = w ∧ w.down = .slice 1 (l.map nn') ∧ w.mj = .slice 1 (l.map nn'):=by
  rcases h with rfl | ⟨b,k,rfl⟩ <;> exact ⟨rfl,rfl,rfl,rfl,rfl,rfl,rfl,rfl⟩
def eQ (x:Place × ab):ab:=.agg [nn' x.1.1,x.2]
structure CH (Q:List Place) (P:List (Place × ab)):Prop where
  fst:P.map (·.1) = Q
  ord:∀ x ∈ P,Br x.1.2 x.2
theorem je.mono {Q:List Place} {N:List (Nat × Int)} {b b':Int} (h:je Q N b) (hb:b ≤ b'):je Q N b':=⟨h.none_,fun k v e=>by have:=h.some_ k v e; omega⟩
def bQ (B:Nat) (N:List (Nat × Int)) (p:Nat) (L:List ab) (A T:af):af:=.amap (bt N) :: .dead :: .spare 2 p :: (A ++ .box [.oslice 2 L (B + 2) p] :: .dead :: T)
def lG (b n B a:Nat) (q:Place) (w:ab):Env:=[(0, .yieldf b),(1, .pval (.ptr (n + 2) 0)),(3, .pval (.map B)),(4, .ptr (B + (a + 3)) 0),(5, .pval (.agg [nn' q.1,w])),(31, .func (.func gR) [] [.pval (nn' q.1), .pval (.ptr (n + 2) 0)])]
def jQ (b n B a D:Nat) (q:Place) (w:ab) (asg body:Code) (st:LoopState) (pd:Option Code):af:=[.dfr, .looprec 54 (lG b n B a q w) [32,33] asg body D st pd]
section
variable {s3 A T Y:af} {B D p:Nat} {N:List (Nat × Int)} {L:List ab}
theorem Ak (h:s3.length = B):(s3 ++ bQ B N p L A T).length = B + (A.length + (T.length + 5)):=by simp [bQ,h]; omega
theorem pg (h:s3.length = B) (hD:B + (A.length + (T.length + 5)) = D) {a b:bo}:(s3 ++ (bQ B N p L A T ++ a :: b :: Y))[D + 1]? = some b:=by
  rw [← List.append_assoc, ← hD, ← Ak (N:=N) (p:=p) (L:=L) h,jI]; rfl
theorem mG (h:s3.length = B) (hD:B + (A.length + (T.length + 5)) = D) {a b b':bo}:(s3 ++ (bQ B N p L A T ++ a :: b :: Y)).set (D + 1) b' = s3 ++ (bQ B N p L A T ++ a :: b' :: Y):=by
  rw [← List.append_assoc, ← hD, ← Ak (N:=N) (p:=p) (L:=L) h,jy,List.append_assoc]; rfl
theorem zE (h:s3.length = B):(s3 ++ (bQ B N p L A T ++ Y))[B]? = some (.amap (bt N)):=by subst h; simp [bQ]
theorem y8 (h:s3.length = B) {N':List (Nat × Int)}:(s3 ++ (bQ B N p L A T ++ Y)).set B (.amap (bt N')) = s3 ++ (bQ B N' p L A T ++ Y):=by subst h; simp [bQ]
theorem zC (h:s3.length = B):(s3 ++ (bQ B N p L A T ++ Y))[B + (A.length + 3)]? = some (.box [.oslice 2 L (B + 2) p]):=by subst h; simp [bQ]
theorem yj (h:s3.length = B) {L':List ab}:((s3 ++ (bQ B N p L A T ++ Y)).set (B + 2) (.spare 2 (p + 1))).set (B + (A.length + 3)) (.box [.oslice 2 L' (B + 2) (p + 1)]) = s3 ++ (bQ B N (p + 1) L' A T ++ Y):=by subst h; simp [bQ]
theorem xM (h:s3.length = B) {Z:af} {a b o y:bo}:((s3 ++ (bQ B N p L A T ++ a :: b :: (Z ++ [o]))).set (B + 2) y)[s3.length + ((bQ B N p L A T).length + (Z.length + 1 + 1))]? = some o:=by
  rw [List.getElem?_set_ne (by simp [bQ] <;> omega)]
  have e:s3 ++ (bQ B N p L A T ++ a :: b :: (Z ++ [o])) = (s3 ++ (bQ B N p L A T ++ a :: b :: Z)) ++ [o]:=by simp
  rw [e,List.getElem?_append_right (by simp <;> omega)]
  simp <;> omega
theorem DS (h:s3.length = B) {Z:af} {a b o y:bo} (hK:s3.length + ((bQ B N p L A T).length + (Z.length + 1 + 1)) < ((s3 ++ (bQ B N p L A T ++ a :: b :: (Z ++ [o]))).set (B + 2) y).length):((s3 ++ (bQ B N p L A T ++ a :: b :: (Z ++ [o]))).set (B + 2) y)[s3.length + ((bQ B N p L A T).length + (Z.length + 1 + 1))] = o:=
  Option.some.inj ((List.getElem?_eq_getElem hK).symm.trans (xM h))
theorem DJ (h:s3.length = B) {Z:af} {a b o o' y:bo}:((s3 ++ (bQ B N p L A T ++ a :: b :: (Z ++ [o]))).set (B + 2) y).set (s3.length + ((bQ B N p L A T).length + (Z.length + 1 + 1))) o' = s3 ++ .amap (bt N) :: .dead :: y :: (A ++ .box [.oslice 2 L (B + 2) p] :: .dead :: (T ++ a :: b :: (Z ++ [o']))):=by
  have e:s3 ++ (bQ B N p L A T ++ a :: b :: (Z ++ [o])) = (s3 ++ (bQ B N p L A T ++ a :: b :: Z)) ++ [o]:=by simp
  rw [List.set_comm _ _ (by simp [bQ] <;> omega),e,List.set_append_right _ _ (by simp <;> omega)]
  have e2:s3.length + ((bQ B N p L A T).length + (Z.length + 1 + 1)) - (s3 ++ (bQ B N p L A T ++ a :: b :: Z)).length = 0:=by simp <;> omega
  rw [e2]
  subst h
  simp [bQ]
theorem yU (h:s3.length = B):(s3 ++ (bQ B N p L A T ++ Y))[B + 2]? = some (.spare 2 p):=by subst h; simp [bQ]
end
theorem sM (t:ah) (Q:List Place) (q:Place):∀ i,(eo t Q q i).length ≤ Q.length + i
  | 0=>Nat.le_refl _
  | i + 1=>by
    have ih:=sM t Q q i
    rw [gv]
    split
    · unfold fw
      split
      · omega
      · rw [List.length_append]; simp; omega
    · omega
theorem kN {t:ah} (hf:t.Fit) (hok:t.Ok) {n:Nat} (σ:af) (b:Nat) (J:Nat → af → Prop) (Stop:af → Prop)
    (hJ:∀ j s',J j s' → bX t n s')
    (hm:∀ j s' m,J j s' → aX t m → J j (s'.set (n + 1) (.amap (bt m))))
    (hy:∀ j q s' tl,(hG t)[j]? = some q → J j s' → s'.length = σ.length →
      aC Tryz.prog (.yieldf b) [yR q] (s' ++ tl) fun r σ'=>∃ s'' tl',σ' = s'' ++ tl ++ tl' ∧ s''.length = σ.length ∧ ((r = .ret (.bool true) ∧ J (j + 1) s'') ∨ (r = .ret (.bool false) ∧ Stop s'')))
    (h0:J 0 σ) :
    Spec Tryz.prog qt [.yieldf b, .pval (.ptr (n + 2) 0)] σ fun r σ'=>r = .ret (.tup []) ∧ ∃ s' tl,σ' = s' ++ tl ∧ s'.length = σ.length ∧ (J (hG t).length s' ∨ Stop s'):=by
  have h7:=hf.ship7
  have hsh:=hJ 0 σ h0
  obtain ⟨m0,hm0,hsa⟩:=id hsh
  have hsa':∀ X,pF t n (σ ++ X) (bt m0):=fun X=>by
    have hl:=hsh.len
    exact ⟨by rw [List.getElem?_append_left (by omega)]; exact hsa.above,by rw [List.getElem?_append_left (by omega)]; exact hsa.known,by rw [List.getElem?_append_left (by omega)]; exact hsa.ar⟩
  refine LJ (by simp) (dm _ ?_)
  simp [Gk]
  refine aj.pure Bt (jx hf (hsa' _)) ?_
  have hk0:kj .i (nn' (aP t)) [] = true:=rfl
  have hp0:gE (nn' (aP t)) (ii' 1) [] = bt (gr (aP t) 1 []):=rfl
  simp
  refine aj.pure Bt (jx hf (hsa' _)) ?_
  simp
  refine AW.loop (ι:=Nat) (fun d fr σ1=>∃ (j:Nat) (Q:List Place) (N:List (Nat × Int)) (p:Nat) (s' tl:af) (cs:List Nat) (P:List (Place × ab)),CH (Q.drop j) P ∧ fr = { v:=[(0, .yieldf b),(1, .pval (.ptr (n + 2) 0)),(3, .pval (.map σ.length)),(4, .ptr (σ.length + (tl.length + 3)) 0)],ds:=lB σ.length 3 cs } ∧
      σ1 = s' ++ (.amap (bt N) :: .dead :: .spare 2 p :: (tl ++ [.box [.oslice 2 (P.map eQ) (σ.length + 2) p]])) ∧ s'.length = σ.length ∧ J j s' ∧ S5 t j Q none [] ∧ j ≤ Q.length ∧ o8 t (129 - j) j Q = hG t ∧ je Q N (1 + 8 * (j:Int)) ∧ cs.Nodup ∧ (∀ c ∈ cs,tl[c]? = some .dfr) ∧ d = 129 - j) (fun d=>d) 129
    ⟨0,[(aP t,[])],gr (aP t) 1 [],0,σ,[],[],[((aP t,[]), .slice 1 [])],⟨rfl,by intro x hx; simp at hx; subst hx; exact .inl rfl⟩,by simp [lB],by simp [eQ,gr,bt],rfl,h0,xA t,by simp,rfl,BR _,by simp,(fun _ h=>by cases h),rfl⟩ ?_
  rintro d fr σ1 ⟨j,Q,N,p,s',tl,cs,P,hP,rfl,rfl,hsl,hJj,hI,hjQ,hbf,hsn,hcn,hcd,rfl⟩
  have hQl:=vS hf hI
  rw [← hsl]
  refine (Nat.lt_or_ge j Q.length).elim (fun hlt=>?_) (fun hge=>?_)
  rotate_left
  · have hjq:j = Q.length:=by omega
    have hd:Q.drop j = []:=List.drop_eq_nil_of_le hge
    have hbT:hG t = Q:=by
      rw [← hbf,show 129 - j = (128 - j) + 1 by omega,BD (List.getElem?_eq_none hge)]
    have hP0:P = []:=List.map_eq_nil_iff.1 (hP.fst.trans hd)
    subst hP0
    refine dm _ ?_
    simp
    have e:s' ++ bo.amap (bt N) :: bo.dead :: bo.spare 2 p :: (tl ++ [bo.box [ab.oslice 2 [] (s'.length + 2) p]]) = (s' ++ [.amap (bt N), .dead, .spare 2 p]) ++ (tl ++ [.box [.oslice 2 [] (s'.length + 2) p]]):=by simp
    rw [e]
    refine jK (by simp) (fun X=>⟨s',⟨[.amap (bt N), .dead, .spare 2 p] ++ X,by simp⟩,rfl, .inl (by rw [hbT, ← hjq]; exact hJj)⟩) cs _ hcn fun c hc=>?_
    have:=hcd c hc
    rw [List.getElem?_append_left (List.getElem?_eq_some_iff.1 this).1]; exact this
  have hd:Q.drop j = Q[j] :: Q.drop (j + 1):=List.drop_eq_getElem_cons hlt
  obtain ⟨q,hq⟩:∃ q,Q[j] = q:=⟨_,rfl⟩
  have hq':Q[j]? = some q:=by rw [List.getElem?_eq_getElem hlt,hq]
  have hbf2:o8 t (129 - (j + 1)) (j + 1) (ji t Q q) = hG t:=by
    rw [← hbf,show 129 - j = (129 - (j + 1)) + 1 by omega,Bj hq']
  obtain ⟨hI2,hpre⟩:=uK hI hq'
  have hbq:(hG t)[j]? = some q:=by
    have h1:=(tv hf (k:=129 - (j + 1)) hI2 (by have:=hpre.length_le; omega) (by omega)).2
    rw [hbf2] at h1
    obtain ⟨r,hr⟩:=hpre.trans h1
    rw [← hr,List.getElem?_append_left hlt]; exact hq'
  have hgo:=hI.go q (List.mem_of_getElem? hq')
  have hqs:Sub t q.1:=lN hgo (Sub.all t)
  have hq2:q.2.length ≤ 7:=by
    have:=(iQ hf (bU hf) hgo).2
    have:=m7 _ (bU hf)
    omega
  have hPc:∃ w P',P = (q,w) :: P' ∧ P'.map (·.1) = Q.drop (j + 1):=by
    have h1:=hP.fst
    rw [hd,hq] at h1
    cases P with
    | nil=>cases h1
    | cons x P'=>
      rw [List.map_cons] at h1
      obtain ⟨h2,h3⟩:=List.cons.inj h1
      exact ⟨x.2,P',by rw [← h2],h3⟩
  obtain ⟨w,P',rfl,hP1⟩:=hPc
  have hPo:=hP.ord
  have hwo:Br q.2 w:=hPo (q,w) (by simp)
  have hP':∀ x ∈ P',Br x.1.2 x.2:=fun x hx=>hPo x (by simp [hx])
  have hyw:∀ s' tl,J j s' → s'.length = σ.length → aC Tryz.prog (.yieldf b) [.agg [nn' q.1, .slice 1 (q.2.map nn')]] (s' ++ tl) fun r σ'=>∃ s'' tl',σ' = s'' ++ tl ++ tl' ∧ s''.length = σ.length ∧ ((r = .ret (.bool true) ∧ J (j + 1) s'') ∨ (r = .ret (.bool false) ∧ Stop s'')):=fun s' tl h1 h2=>hy j q s' tl hbq h1 h2
  refine dm _ ?_
  obtain ⟨f1,f2,f3,f4,f5,f6,f7,f8⟩:=hwo.facts
  simp [eQ, ↓f3, ↓f7]
  refine (hyw s' _ hJj hsl).mono ?_
  rintro r σ' ⟨s'',tl',rfl,hsl2,⟨rfl,hJ'⟩ | ⟨rfl,hS⟩⟩
  rotate_left
  · have e:s'.length = s''.length:=by omega
    rw [e]
    simp
    have e2:s'' ++ bo.amap (bt N) :: bo.dead :: bo.spare 2 p :: (tl ++ bo.box [ab.oslice 2 (ab.agg [nn' q.1,w] :: List.map eQ P') (s''.length + 2) p] :: bo.dead :: tl') = (s'' ++ [.amap (bt N), .dead, .spare 2 p]) ++ (tl ++ bo.box [ab.oslice 2 (ab.agg [nn' q.1,w] :: List.map eQ P') (s''.length + 2) p] :: bo.dead :: tl'):=by simp
    rw [e2]
    refine jK (by simp) (fun X=>⟨s'',⟨[.amap (bt N), .dead, .spare 2 p] ++ X,by simp⟩,rfl, .inr hS⟩) cs _ hcn fun c hc=>?_
    have:=hcd c hc
    rw [List.getElem?_append_left (List.getElem?_eq_some_iff.1 this).1]; exact this
  have e:s'.length = s''.length:=by omega
  rw [e]
  simp
  refine aj.pure Bp (dR (n + 2) q.1 _) ?_
  simp
  refine AW.bF (by simp) fun asg' body' ca cb hps=>?_
  simp only [List.length_append,List.length_cons,List.append_assoc,List.cons_append,Nat.reduceAdd,Nat.add_assoc]
  obtain ⟨B,hB⟩:∃ B,s''.length = B:=⟨_,rfl⟩
  obtain ⟨D,hD⟩:∃ D,B + (tl.length + (tl'.length + 5)) = D:=⟨_,rfl⟩
  have hb1:B + (tl.length + (tl'.length + 6)) = D + 1:=by omega
  rw [hB,hb1,hD]
  change cR Tryz.prog (.func (.func gR) [] [.pval (nn' q.1), .pval (.ptr (n + 2) 0)]) [.yieldf (D + 1)] (s'' ++ bQ B N p (((q,w) :: P').map eQ) tl (tl' ++ jQ b n B tl.length D q w asg' body' .ready none)) (fH (D + 1) _ _)
  have hsplit:bQ B N p (((q,w) :: P').map eQ) tl (tl' ++ jQ b n B tl.length D q w asg' body' .ready none) = bQ B N p (((q,w) :: P').map eQ) tl tl' ++ jQ b n B tl.length D q w asg' body' .ready none:=by simp [bQ]
  rw [hsplit]
  refine cR.func wZ ((ix hf hok _ q.1 hqs (D + 1) (fun i s2=>∃ (s3:af) (N':List (Nat × Int)) (p':Nat) (P3:List (Place × ab)),CH ((eo t Q q i).drop j) P3 ∧ s2 = s3 ++ (bQ B N' p' (P3.map eQ) tl tl' ++ jQ b n B tl.length D q w asg' body' .ready none) ∧ s3.length = B ∧ J (j + 1) s3 ∧ je (eo t Q q i) N' (1 + 8 * (j:Int) + i)) (fun _=>False) ?_ ?_ ?_ ?_ ?_).mono ?_)
  · rintro i s2 ⟨s3,N',p',P3,hP3,rfl,hl3,hj3,_⟩
    exact (hJ _ _ hj3).app
  · rintro i s2 m ⟨s3,N',p',P3,hP3,rfl,hl3,hj3,hs3⟩ hm'
    have:=(hJ _ _ hj3).len
    exact ⟨s3.set (n + 1) (.amap (bt m)),N',p',P3,hP3,by rw [List.set_append_left _ _ (by omega)],by simpa using hl3,hm _ _ _ hj3 hm',hs3⟩
  · rintro i s2 tlx hi hw ⟨s3,N',p',P3,hP3,rfl,hl3,hj3,hs3⟩ _
    have hi7:i < 7:=by omega
    obtain ⟨g1,g2,g3⟩:=Bg hs3 (by omega) q i
    have hru:=gv t Q q i
    have hw1':IntKind.i64.wrap 1 = 1:=by decide
    rw [if_pos hw] at hru
    refine aC.round (e:=lG b n B tl.length q w) (D:=D) (pend:=none) ca cb hps (by simp [jQ,pg hl3 hD]) rfl ?_
    refine dm _ ?_
    simp [cM,lG,jQ,pg hl3 hD]
    refine ⟨_,_,_,_,_,_,_,⟨rfl,rfl,rfl,rfl,rfl,rfl,rfl⟩, ?_⟩
    refine dm _ ?_
    refine (Classical.em (dS (aK q.1 i) N' = none)).elim (fun hg=>?_) (fun hg=>?_)
    · have hcl:=fun σ=>fX (q.2.map nn') (by intro v hv; obtain ⟨x,_,rfl⟩:=List.mem_map.1 hv; exact ⟨⟨rfl,rfl⟩,rfl⟩) (by simp; omega) σ
      have hfi:Fits 1 [nn' i]:=by intro v hv; simp at hv; subst hv; exact ⟨⟨rfl,rfl⟩,rfl⟩
      have hql:(eo t Q q i).length ≤ 135:=by have:=sM t Q q i; omega
      have hjr:j ≤ (eo t Q q i).length:=by have:=(js t Q q i).length_le; omega
      have hnew:=g2 hg
      have hP3l:P3.length ≤ 135:=by
        have:=congrArg List.length hP3.fst
        simp at this; omega
      have hoff:¬ s3.length + ((bQ B (gr (aK q.1 i) 1 N') p' (P3.map eQ) tl tl').length + (tlx.length + 1 + 1)) = B + (tl.length + 3):=by simp [bQ]; omega
      have hseen:je (eo t Q q (i + 1)) (gr (aK q.1 i) 1 N') (1 + 8 * (j:Int) + ((i:Int) + 1)):=by
        have:=g1
        rw [hg] at this
        rw [hru, ← Int.add_assoc]
        exact this
      rcases hwo with hw' | ⟨wb,wk,hw'⟩
      · subst hw'
        simp [mG hl3 hD,zE hl3,y8 hl3,zC hl3,yU hl3,hg,fb,hw1']
        refine ⟨q.2.map nn',fun σ'=>aC.func (first:=[]) (args:=[.slice 1 (q.2.map nn')]) (caps:=[]) IW (hcl σ'),hfi,by simp; omega,by intro v hv; simp at hv; subst hv; exact ⟨rfl,rfl⟩,by omega,hoff, ?_⟩
        rw [yj hl3]
        exact ⟨54,lG b n B tl.length q (.slice 1 (q.2.map nn')),[32,33],asg',body',D, .busy,none,by simp [pg hl3 hD,lG],s3 ++ (bQ B (gr (aK q.1 i) 1 N') (p' + 1) ((P3 ++ [((aK q.1 i,q.2 ++ [i]),ab.oslice 1 (q.2.map nn' ++ [nn' i]) (s3.length + ((bQ B (gr (aK q.1 i) 1 N') p' (P3.map eQ) tl tl').length + (tlx.length + 1 + 1))) 2)]).map eQ) tl tl' ++ jQ b n B tl.length D q (.slice 1 (q.2.map nn')) asg' body' .ready none),⟨[.spare 1 2],by simp [mG hl3 hD,lG,jQ,eQ]⟩,by simp [bQ,jQ,hl3,hB]; omega,rfl,s3,_,p' + 1,P3 ++ [((aK q.1 i,q.2 ++ [i]),ab.oslice 1 (q.2.map nn' ++ [nn' i]) (s3.length + ((bQ B (gr (aK q.1 i) 1 N') p' (P3.map eQ) tl tl').length + (tlx.length + 1 + 1))) 2)],⟨by rw [hru,hnew,List.map_append,hP3.fst,List.drop_append_of_le_length hjr]; rfl,fun x hx=>by
          rcases List.mem_append.1 hx with hx | hx
          · exact hP3.ord x hx
          · rw [List.mem_singleton] at hx; subst hx; exact .inr ⟨_,_,by rw [List.map_append]; rfl⟩⟩,by simp [jQ,lG],hl3,hj3,hseen⟩
      · subst hw'
        simp [mG hl3 hD,zE hl3,y8 hl3,zC hl3,yU hl3,hg,fb,hw1']
        refine ⟨q.2.map nn',fun σ'=>aC.func (first:=[]) (args:=[.slice 1 (q.2.map nn')]) (caps:=[]) IW (hcl σ'),hfi,by simp; omega,by intro v hv; simp at hv; subst hv; exact ⟨rfl,rfl⟩,by omega,hoff, ?_⟩
        rw [yj hl3]
        exact ⟨54,lG b n B tl.length q (.oslice 1 (q.2.map nn') wb wk),[32,33],asg',body',D, .busy,none,by simp [pg hl3 hD,lG],s3 ++ (bQ B (gr (aK q.1 i) 1 N') (p' + 1) ((P3 ++ [((aK q.1 i,q.2 ++ [i]),ab.oslice 1 (q.2.map nn' ++ [nn' i]) (s3.length + ((bQ B (gr (aK q.1 i) 1 N') p' (P3.map eQ) tl tl').length + (tlx.length + 1 + 1))) 2)]).map eQ) tl tl' ++ jQ b n B tl.length D q (.oslice 1 (q.2.map nn') wb wk) asg' body' .ready none),⟨[.spare 1 2],by simp [mG hl3 hD,lG,jQ,eQ]⟩,by simp [bQ,jQ,hl3,hB]; omega,rfl,s3,_,p' + 1,P3 ++ [((aK q.1 i,q.2 ++ [i]),ab.oslice 1 (q.2.map nn' ++ [nn' i]) (s3.length + ((bQ B (gr (aK q.1 i) 1 N') p' (P3.map eQ) tl tl').length + (tlx.length + 1 + 1))) 2)],⟨by rw [hru,hnew,List.map_append,hP3.fst,List.drop_append_of_le_length hjr]; rfl,fun x hx=>by
          rcases List.mem_append.1 hx with hx | hx
          · exact hP3.ord x hx
          · rw [List.mem_singleton] at hx; subst hx; exact .inr ⟨_,_,by rw [List.map_append]; rfl⟩⟩,by simp [jQ,lG],hl3,hj3,hseen⟩
    · obtain ⟨v,hv⟩:∃ v,dS (aK q.1 i) N' = some v:=by
        cases h:dS (aK q.1 i) N' with
        | none=>exact absurd h hg
        | some v=>exact ⟨v,rfl⟩
      obtain ⟨q1,q2,q3⟩:=g3 v hv
      have hw1:IntKind.i64.wrap (v + 1) = v + 1:=an (by omega) (by omega)
      have hv0:¬ v = 0:=by omega
      have hv1:¬ v + 1 = 1:=by omega
      have hseen:je (eo t Q q (i + 1)) (gr (aK q.1 i) (v + 1) N') (1 + 8 * (j:Int) + ((i:Int) + 1)):=by
        have:=g1
        rw [hv] at this
        rw [hru, ← Int.add_assoc]
        exact this
      simp [mG hl3 hD,zE hl3,y8 hl3,hv,fb,hw1,hv1]
      exact ⟨54,lG b n B tl.length q w,[32,33],asg',body',D, .busy,none,by simp [pg hl3 hD,lG],s3 ++ (bQ B (gr (aK q.1 i) (v + 1) N') p' (P3.map eQ) tl tl' ++ jQ b n B tl.length D q w asg' body' .ready none),⟨[],by simp [mG hl3 hD,lG,jQ]⟩,by simp [bQ,jQ,hl3,hB]; omega,rfl,s3,_,p',P3,by rw [hru,q3]; exact hP3,by simp [jQ,lG],hl3,hj3,hseen⟩
  · rintro i s2 hi hw ⟨s3,N',p',P3,hP3,rfl,hl3,hj3,hs3⟩
    refine ⟨s3,N',p',P3,by rw [gv,if_neg hw]; exact hP3,rfl,hl3,hj3, ?_⟩
    · rw [gv,if_neg hw]; exact hs3.mono (by omega)
  · exact ⟨s'',N,p,(q,w) :: P',⟨by simp only [eo,dH]; exact hP.fst,hPo⟩,rfl,hB,hJ',by simpa [eo,dH] using hsn⟩
  · rintro r σ' ⟨rfl,s2,tlx,rfl,_,⟨s3,N',p',P3,hP3,rfl,hl3,hj3,hs3⟩ | hS⟩
    rotate_left
    · exact hS.elim
    rw [yV hf Q hqs] at hs3 hP3
    refine ⟨54,lG b n B tl.length q w,[32,33],asg',body',D, .ready,none,by simp [jQ,pg hl3 hD],by simp, ?_⟩
    simp only [jQ,List.append_assoc,List.cons_append,List.nil_append,mG hl3 hD]
    have hjR:j < (ji t Q q).length:=by have:=hpre.length_le; omega
    have hP3c:∃ x P4,P3 = x :: P4 ∧ P4.map (·.1) = (ji t Q q).drop (j + 1):=by
      have h1:=hP3.fst
      rw [List.drop_eq_getElem_cons hjR] at h1
      cases P3 with
      | nil=>cases h1
      | cons x P4=>
        rw [List.map_cons] at h1
        exact ⟨x,P4,rfl,(List.cons.inj h1).2⟩
    obtain ⟨x,P4,rfl,hP4⟩:=hP3c
    have hP4o:∀ y ∈ P4,Br y.1.2 y.2:=fun y hy=>hP3.ord y (by simp [hy])
    simp [zC hl3,yU hl3,DS hl3,DJ hl3]
    refine ⟨by omega,129 - (j + 1),by omega,j + 1,ji t Q q,N',p' + 1,s3,tl ++ .box [.oslice 2 ((x :: P4).map eQ) (B + 2) p'] :: .dead :: (tl' ++ .dfr :: .looprec 54 (lG b n B tl.length q w) [32,33] asg' body' D .exhausted none :: tlx),(tl.length + (tl'.length + 2)) :: cs,P4,⟨hP4,hP4o⟩,⟨by simp [bQ,hl3]; omega,by simp [lB]; omega⟩,by simp,hl3,hj3,hI2,by omega,hbf2,hs3.mono (by omega), ?_, ?_,rfl⟩
    · rw [List.nodup_cons]
      refine ⟨fun hc=>?_,hcn⟩
      have:=(List.getElem?_eq_some_iff.1 (hcd _ hc)).1
      omega
    · intro c hc
      rcases List.mem_cons.1 hc with rfl | hc
      · simp
      · have:=hcd c hc
        rw [List.getElem?_append_left (List.getElem?_eq_some_iff.1 this).1]; exact this
set_option maxRecDepth 100000
set_option maxHeartbeats 1000000
theorem jA (n:Nat) (σ:af):Spec Tryz.prog H8 [.ptr n 0] σ fun r σ'=>r = .ret (.func (.func qt) [] [.pval (.ptr n 0)]) ∧ σ' = σ:=by
  refine PD (by simp) (dm _ ?_)
  simp [Pc]
def toQ (t:ah) (p:Nat):Option Place:=(hG t).find? fun q=>bD t q.1 p == 0
def toL (t:ah) (p:Int):List Nat:=if bz t [p] = 0 then (match toQ t p.toNat with | some q=>q.2 ++ [p.toNat] | none=>[]) else []
def toE (t:ah) (p:Int):Int:=if bz t [p] = 0 then (match toQ t p.toNat with | some _=>0 | none=>9) else bz t [p]
def toN (p:Nat):Env:=[(3, .pval (nn' p)),(4, .ptr 0 0),(5, .ptr 1 0),(6, .pval (.ptr 4 0)),(20, .func (.func qt) [] [.pval (.ptr 4 0)])]
def toY (p D:Nat) (asg body:Code) (st:LoopState) (pd:Option Code):af:=[.dfr, .looprec 34 (toN p) [21] asg body D st pd]
def toS (t:ah) (a:ab) (e:Int) (m:List (Nat × Int)) (tl Y:af):af:=.box [a] :: .box [ii' e] :: .arr 1 (eh t) :: .amap (bt m) :: .box (iG t 2 (iN t)) :: (tl ++ .dead :: Y)
theorem C3 {t:ah} {a:ab} {e:Int} {m:List (Nat × Int)} (hm:aX t m) (tl Y:af):bX t 2 (toS t a e m tl Y):=⟨m,hm,⟨rfl,rfl,rfl⟩⟩
theorem qb (t:ah) (hok:t.Ok) (p:Int) (σ:af):Spec Tryz.prog EB [t.v,ii' p] σ fun r σ'=>r = .ret (gX (toL t p) (toE t p)) ∧ σ' = σ:=by
  refine Spec.ay (Sg (by simp) (dm _ ?_)) (by simp [aM,t.pure,ab.pure]) (mI _ _) σ
  have hen:=fun σ=>na t hok [p] (by simp [maxLen]) σ
  simp only [List.map_cons,List.map_nil] at hen
  simp [Lj,ah.v,ah.cells]
  refine aj.spec H7 (hen _) ?_
  rintro r σ' (⟨h1,rfl,tl,rfl⟩ | ⟨h1,rfl | rfl,tl,rfl⟩)
  · refine ⟨_,rfl, ?_⟩
    obtain ⟨hf,hin⟩:=ib h1
    obtain ⟨pn,rfl,hpn⟩:∃ pn:Nat,p = pn ∧ pn < t.ar.length:=by
      simp [inO] at hin
      exact ⟨p.toNat,by omega,by omega⟩
    have h7:=hf.ship7
    simp
    refine aj.pure OD (jA 4 _) ?_
    simp
    refine AW.bF (by simp) fun asg' body' ca cb hps=>?_
    simp only [List.length_append,List.length_cons,List.length_nil,List.append_assoc,List.cons_append,List.nil_append,Nat.zero_add,Nat.reduceAdd,Nat.add_assoc]
    have hol:(opened t [bo.box [ab.slice 1 []],bo.box [ab.int IntKind.i64 0]] [] tl).length = tl.length + 5:=by simp [opened]
    rw [hol]
    have hoe:opened t [bo.box [ab.slice 1 []],bo.box [ab.int IntKind.i64 0]] [] tl ++ [bo.dead,bo.dfr,bo.looprec 34 (toN pn) [21] asg' body' (tl.length + 5 + 1) .ready none] = toS t (.slice 1 []) 0 [] tl (toY pn (tl.length + 5 + 1) asg' body' .ready none):=by simp [opened,toS,toY]
    change cR Tryz.prog (.func (.func qt) [] [.pval (.ptr (2 + 2) 0)]) [.yieldf (tl.length + 5 + 2)] (opened t [bo.box [ab.slice 1 []],bo.box [ab.int IntKind.i64 0]] [] tl ++ [bo.dead,bo.dfr,bo.looprec 34 (toN pn) [21] asg' body' (tl.length + 5 + 1) .ready none]) (fH (tl.length + 5 + 2) _ _)
    rw [hoe]
    refine cR.func GU ((kN hf hok (n:=2) _ (tl.length + 5 + 2) (fun j s'=>∃ m,aX t m ∧ s' = toS t (.slice 1 []) 0 m tl (toY pn (tl.length + 5 + 1) asg' body' .ready none) ∧ ∀ q ∈ (hG t).take j,bD t q.1 pn ≠ 0)
      (fun s'=>∃ m q,aX t m ∧ toQ t pn = some q ∧ s' = toS t (.slice 1 ((q.2 ++ [pn]).map nn')) 0 m tl (toY pn (tl.length + 5 + 1) asg' body' .done (some .ret))) ?_ ?_ ?_ ?_).mono ?_)
    · rintro j s' ⟨m,hm,rfl,_⟩
      exact C3 hm _ _
    · rintro j s' m' ⟨m,hm,rfl,hn⟩ hm'
      exact ⟨m',hm',rfl,hn⟩
    · rintro j q s' tlx hq ⟨m,hm,rfl,hn⟩ hlen
      have hI:=kX hf
      have hqm:q ∈ hG t:=List.mem_of_getElem? hq
      have hgo:=hI.go q hqm
      have hqs:Sub t q.1:=lN hgo (Sub.all t)
      have hq2:q.2.length ≤ 7:=by
        have:=(iQ hf (bU hf) hgo).2
        have:=m7 _ (bU hf)
        omega
      refine aC.round (e:=toN pn) (D:=tl.length + 5 + 1) (pend:=none) ca cb hps (by simp [toS,toY]) rfl ?_
      refine dm _ ?_
      simp [cM,toN,toS,toY,yR]
      refine ⟨_,_,_,_,_,_,_,⟨rfl,rfl,rfl,rfl,rfl,rfl,rfl⟩, ?_⟩
      refine dm _ ?_
      simp
      have hcl:=fun σ=>fX (q.2.map nn') (by intro v hv; obtain ⟨x,_,rfl⟩:=List.mem_map.1 hv; exact ⟨⟨rfl,rfl⟩,rfl⟩) (by simp; omega) σ
      have hfi:Fits 1 [nn' pn]:=by intro v hv; simp at hv; subst hv; exact ⟨⟨rfl,rfl⟩,rfl⟩
      refine aj.spec Fj (nN hf hok (n:=2) ⟨m,hm,⟨rfl,rfl,rfl⟩⟩ q.1 pn hqs hpn) ?_
      rintro r σ2 ⟨rfl,m',tl2,hm',rfl⟩
      refine ⟨_,rfl, ?_⟩
      refine (Classical.em (bD t q.1 pn = 0)).elim (fun hz=>?_) (fun hz=>?_)
      · simp [hz]
        refine ⟨q.2.map nn',fun σ'=>aC.func (first:=[]) (args:=[.slice 1 (q.2.map nn')]) (caps:=[]) IW (hcl σ'),hfi,by simp; omega, ?_⟩
        have hjl:=(List.getElem?_eq_some_iff.1 hq).1
        have hje:=(List.getElem?_eq_some_iff.1 hq).2
        have htoQ:toQ t pn = some q:=by
          unfold toQ
          rw [← List.take_append_drop j (hG t),List.find?_append,List.drop_eq_getElem_cons hjl,hje]
          have:((hG t).take j).find? (fun q=>bD t q.1 pn == 0) = none:=List.find?_eq_none.2 fun x hx=>by simpa using hn x hx
          rw [this]
          simp [hz]
        exact ⟨34,toN pn,[21],asg',body',tl.length + 5 + 1, .busy,none,by simp [toN],toS t (.slice 1 ((q.2 ++ [pn]).map nn')) 0 m' tl (toY pn (tl.length + 5 + 1) asg' body' .done (some .ret)),⟨_,by simp [toS,toY,toN]; rfl⟩,by simp [toS,toY], .inr ⟨rfl,m',hm',q.1,q.2,htoQ,by simp [toS,toY,toN]⟩⟩
      · have hzI:¬ (bD t q.1 pn:Int) = 0:=by omega
        have hn2:∀ (a:Nat) (b:List Nat),(a,b) ∈ (hG t).take (j + 1) → ¬ bD t a pn = 0:=fun a b hx=>by
          rw [List.take_add_one,hq,List.mem_append] at hx
          rcases hx with hx | hx
          · exact hn (a,b) hx
          · simp at hx
            rw [show a = q.1 by rw [← hx]]; exact hz
        simp [hz]
        exact ⟨34,toN pn,[21],asg',body',tl.length + 5 + 1, .busy,none,by simp [toN],toS t (.slice 1 []) 0 m' tl (toY pn (tl.length + 5 + 1) asg' body' .ready none),⟨_,by simp [toS,toY,toN]; rfl⟩,by simp [toS,toY], .inl ⟨rfl,m',hm',by simp [toS,toY,toN],hn2⟩⟩
    · exact ⟨[],fK t,rfl,by simp⟩
    · rintro r σ' ⟨rfl,s',tlx,rfl,_,⟨m,hm,rfl,hn⟩ | ⟨m,q,hm,hq,rfl⟩⟩
      · refine ⟨34,toN pn,[21],asg',body',tl.length + 5 + 1, .ready,none,by simp [toS,toY],by simp, ?_⟩
        have hnone:toQ t pn = none:=by
          unfold toQ
          rw [List.find?_eq_none]
          intro x hx
          rw [List.take_length] at hn
          simpa using hn x hx
        simp [toS,toY,gX,toL,toE,h1,hnone]
      · refine ⟨34,toN pn,[21],asg',body',tl.length + 5 + 1, .done,some .ret,by simp [toS,toY],by simp, ?_⟩
        simp [toS,toY,toN,gX,toL,toE,h1,hq]
  · refine ⟨_,rfl, ?_⟩
    simp [h1,gX,toL,toE]
  · refine ⟨_,rfl, ?_⟩
    simp [h1,gX,toL,toE]
set_option maxRecDepth 100000
set_option maxHeartbeats 1000000
def yH (x:Int):List Int → List Int
  | []=>[x]
  | y :: r=>if x ≤ y then x :: y :: r else y :: yH x r
def yB:List Int → List Int
  | []=>[]
  | x :: r=>yH x (yB r)
theorem pe (x:Int):∀ l:List Int,(yH x l).Perm (x :: l)
  | []=>.refl _
  | y :: r=>by
    rw [yH]
    split
    · exact .refl _
    · exact ((pe x r).cons y).trans (.swap x y r)
theorem rU:∀ l:List Int,(yB l).Perm l
  | []=>.refl _
  | x :: r=>(pe x _).trans ((rU r).cons x)
theorem qD (x:Int):∀ {l:List Int},l.Pairwise (· ≤ ·) → (yH x l).Pairwise (· ≤ ·)
  | [],_=>by simp [yH]
  | y :: r,h=>by
    rw [List.pairwise_cons] at h
    rw [yH]
    split
    · rename_i hxy
      rw [List.pairwise_cons]
      refine ⟨fun z hz=>?_,List.pairwise_cons.2 h⟩
      rcases List.mem_cons.1 hz with rfl | hz
      · exact hxy
      · exact Int.le_trans hxy (h.1 z hz)
    · rename_i hxy
      rw [List.pairwise_cons]
      refine ⟨fun z hz=>?_,qD x h.2⟩
      rcases List.mem_cons.1 ((pe x r).mem_iff.1 hz) with rfl | hz
      · omega
      · exact h.1 z hz
theorem ox:∀ l:List Int,(yB l).Pairwise (· ≤ ·)
  | []=>.nil
  | x :: r=>qD x (ox r)
theorem B5 {l l':List Int} (h1:l'.Perm l) (h2:l'.Pairwise (· ≤ ·)):l' = yB l:=
  List.Perm.eq_of_pairwise (fun _a _b _ _ h h'=>Int.le_antisymm h h') h2 (ox l) (h1.trans (rU l).symm)
def eS (t:ah) (j:Nat):List Int:=((hG t).take j).map fun q=>(q.1:Int)
def tj (t:ah):Bool:=(hG t).any fun q=>q.1 == 0
def py (t:ah):Int:=if (aN t).2.2 ≠ 0 then (aN t).2.2 else if tj t then 9 else 0
def rH (t:ah):List Int:=if py t = 0 then yB (eS t (hG t).length) else []
def tg (l:List Int) (e:Int):ab:=.tup [.slice 1 (l.map ii'),ii' e]
def m9:Env:=[(2, .ptr 1 0),(3, .ptr 2 0),(15, .func (.func qt) [] [.pval (.ptr 5 0)])]
def lb (D:Nat) (asg body:Code) (st:LoopState) (pd:Option Code):af:=[.dfr, .looprec 28 m9 [16] asg body D st pd]
def kA (t:ah) (sets:List Int) (a:ab) (e:Int) (m:List (Nat × Int)) (tl Y:af):af:=.arr 1 (sets.map ii') :: .box [a] :: .box [ii' e] :: .arr 1 (eh t) :: .amap (bt m) :: .box (iG t 3 (iN t)) :: (tl ++ Y)
theorem BW {t:ah} {sets:List Int} {a:ab} {e:Int} {m:List (Nat × Int)} (hm:aX t m) (tl Y:af):bX t 3 (kA t sets a e m tl Y):=⟨m,hm,⟨rfl,rfl,rfl⟩⟩
theorem sm (t:ah) (hok:t.Ok) (h12:(aN t).2.2 = 0 → (hG t).length ≤ 12) (σ:af):Spec Tryz.prog EM [t.v] σ fun r σ'=>r = .ret (tg (rH t) (py t)) ∧ σ' = σ:=by
  refine Spec.ay (R4 (by simp) (dm _ ?_)) (by simp [aM,t.pure]) (by simp [tg,ab.pure,aM,av (f:=ii') (fun _=>rfl)]) σ
  simp [NY,ah.v,ah.cells]
  refine aj.spec B7 (eu t hok _) ?_
  rintro r σ' (⟨h1,rfl,tl,rfl⟩ | ⟨h1,rfl,tl,rfl⟩)
  · refine ⟨_,rfl, ?_⟩
    have hf:=bm h1
    have h7:=hf.ship7
    have hB:=h12 h1
    simp
    refine aj.pure OD (jA 5 _) ?_
    simp
    refine AW.bF (by simp) fun asg' body' ca cb hps=>?_
    simp only [List.length_cons,List.cons_append,Nat.reduceAdd,Nat.add_assoc]
    change cR Tryz.prog (.func (.func qt) [] [.pval (.ptr (3 + 2) 0)]) [.yieldf (tl.length + 7)] (kA t (eS t 0) (.sref 1 0 0 (eS t 0).length (eS t 0).length) 0 [] tl (lb (tl.length + 6) asg' body' .ready none)) (fH (tl.length + 7) _ _)
    refine cR.func GU ((kN hf hok (n:=3) _ (tl.length + 7) (fun j s'=>∃ m,aX t m ∧ s' = kA t (eS t j) (.sref 1 0 0 (eS t j).length (eS t j).length) 0 m tl (lb (tl.length + 6) asg' body' .ready none) ∧ ∀ q ∈ (hG t).take j,q.1 ≠ 0)
      (fun s'=>∃ m l,aX t m ∧ tj t = true ∧ s' = kA t l (.slice 1 []) 9 m tl (lb (tl.length + 6) asg' body' .done (some .ret))) ?_ ?_ ?_ ?_).mono ?_)
    · rintro j s' ⟨m,hm,rfl,_⟩
      exact BW hm _ _
    · rintro j s' m' ⟨m,hm,rfl,hn⟩ hm'
      exact ⟨m',hm',rfl,hn⟩
    · rintro j q s' tlx hq ⟨m,hm,rfl,hn⟩ hlen
      have hqm:q ∈ hG t:=List.mem_of_getElem? hq
      have hjl:=(List.getElem?_eq_some_iff.1 hq).1
      have hsj:eS t (j + 1) = eS t j ++ [(q.1:Int)]:=by
        unfold eS
        rw [List.take_add_one,hq]; simp
      have hsl:(eS t j).length ≤ 12:=by unfold eS; simp; omega
      have hfi:Fits 1 [nn' q.1]:=by intro v hv; simp at hv; subst hv; exact ⟨⟨rfl,rfl⟩,rfl⟩
      refine aC.round (e:=m9) (D:=tl.length + 6) (pend:=none) ca cb hps (by simp [kA,lb]) rfl ?_
      refine dm _ ?_
      simp [cM,m9,kA,lb,yR]
      refine ⟨_,_,_,_,_,_,_,⟨rfl,rfl,rfl,rfl,rfl,rfl,rfl⟩, ?_⟩
      refine dm _ ?_
      refine (Classical.em (q.1 = 0)).elim (fun hz=>?_) (fun hz=>?_)
      · have hemp:tj t = true:=List.any_eq_true.2 ⟨q,hqm,by simp [hz]⟩
        simp [hz]
        exact ⟨28,m9,[16],asg',body',tl.length + 6, .busy,none,by simp [m9],kA t (eS t j) (.slice 1 []) 9 m tl (lb (tl.length + 6) asg' body' .done (some .ret)),⟨_,by simp [kA,lb,m9]; rfl⟩,by simp [kA,lb], .inr ⟨rfl,m,hm,hemp,eS t j,by simp [kA,lb,m9]⟩⟩
      · have hn2:∀ (a:Nat) (b:List Nat),(a,b) ∈ (hG t).take (j + 1) → ¬ a = 0:=fun a b hx=>by
          rw [List.take_add_one,hq,List.mem_append] at hx
          rcases hx with hx | hx
          · exact hn (a,b) hx
          · simp at hx
            rw [show a = q.1 by rw [← hx]]; exact hz
        simp [hz]
        refine ⟨hfi, ?_⟩
        rw [if_neg (by omega)]
        refine ⟨by omega, ?_⟩
        exact ⟨28,m9,[16],asg',body',tl.length + 6, .busy,none,by simp [m9],kA t (eS t (j + 1)) (.sref 1 0 0 (eS t (j + 1)).length (eS t (j + 1)).length) 0 m tl (lb (tl.length + 6) asg' body' .ready none),⟨_,by simp [kA,lb,m9,hsj]; rfl⟩,by simp [kA,lb], .inl ⟨rfl,m,hm,by simp [kA,lb,m9],hn2⟩⟩
    · exact ⟨[],fK t,rfl,by simp⟩
    · rintro r σ' ⟨rfl,s',tlx,rfl,_,⟨m,hm,rfl,hn⟩ | ⟨m,l,hm,he,rfl⟩⟩
      · refine ⟨28,m9,[16],asg',body',tl.length + 6, .ready,none,by simp [kA,lb],by simp, ?_⟩
        have hne:tj t = false:=by
          unfold tj
          rw [List.any_eq_false]
          intro x hx
          rw [List.take_length] at hn
          simpa using hn x hx
        have hsl:(eS t (hG t).length).length ≤ 12:=by unfold eS; simp; omega
        simp [kA,lb,m9]
        refine aj.spec OC (ve 0 (eS t (hG t).length) hsl _ (by simp) (by simp [cU])) ?_
        rintro r σ1 ⟨rfl,l',hp,hs,rfl⟩
        have hl':=hp.length_eq
        have hle:=B5 hp hs
        refine ⟨_,rfl, ?_⟩
        simp [cU,hl',tg,rH,py,h1,hne]
        rw [← hle,List.take_of_length_le (by simp [hl'])]
      · refine ⟨28,m9,[16],asg',body',tl.length + 6, .done,some .ret,by simp [kA,lb],by simp, ?_⟩
        simp [kA,lb,m9,tg,rH,py,h1,he]
  · refine ⟨_,rfl, ?_⟩
    simp [h1,tg,rH,py]
set_option maxRecDepth 100000
set_option maxHeartbeats 1000000
def qa (t:ah) (sets:List Int) (x:Int):Bool:=(bq t x.toNat).all fun i=>sets.contains ((aK x.toNat i:Nat):Int)
def iZ (t:ah) (sets:List Int):Int:=if (aN t).2.2 ≠ 0 then (aN t).2.2 else if sets.any (cO ((aP t:Nat) + 1:Int)) then 7 else 0
def dN (t:ah) (sets:List Int):Bool:=decide (iZ t sets = 0) && sets.contains ((aP t:Nat):Int) && !sets.contains 0 && sets.all (qa t sets)
def CY (b:Bool) (e:Int):ab:=.tup [.bool b,ii' e]
def et (t:ah) (b:Bool) (e:Int) (m:List (Nat × Int)) (X:af):af:=.box [.bool b] :: .box [ii' e] :: .arr 1 (eh t) :: .amap (bt m) :: .box (iG t 2 (iN t)) :: X
def pj (sets:List Int) (x i:Nat):Env:=[(3, .pval (.slice 1 (sets.map ii'))),(4, .ptr 0 0),(5, .ptr 1 0),(6, .ptr 4 0),(37, .slice 1 (sets.map ii')),(38,nn' sets.length),(39,nn' i),(45, .func (.func gR) [] [.pval (nn' x), .pval (.ptr 4 0)])]
def kh (sets:List Int) (x i D:Nat) (asg body:Code) (st:LoopState) (pd:Option Code):af:=[.dfr, .looprec 53 (pj sets x i) [46,47] asg body D st pd]
theorem BF {t:ah} {b:Bool} {e:Int} {m:List (Nat × Int)} (hm:aX t m) (X:af):bX t 2 (et t b e m X):=⟨m,hm,⟨rfl,rfl,rfl⟩⟩
theorem BO {t:ah} {x:Nat} (h:x ≤ aP t):Sub t x:=fun i hi=>by
  have hp:0 < 2 ^ t.ar.length:=Nat.pow_pos (by omega)
  have hx:x < 2 ^ t.ar.length:=by unfold aP at h; omega
  rcases Nat.lt_or_ge i t.ar.length with g | g
  · exact g
  · rw [oH hx g] at hi; cases hi
theorem kz (t:ah) (hok:t.Ok) (sets:List Int) (hl:sets.length ≤ maxLen) (σ:af):Spec Tryz.prog D4 [t.v, .slice 1 (sets.map ii')] σ fun r σ'=>r = .ret (CY (dN t sets) (iZ t sets)) ∧ σ' = σ:=by
  refine Spec.ay (Qf (by simp) (dm _ ?_)) (by simp [aM,t.pure,ab.pure,av (f:=ii') (fun _=>rfl)]) rfl σ
  simp [OS,ah.v,ah.cells]
  refine aj.spec B7 (eu t hok _) ?_
  rintro r σ' (⟨h1,rfl,tl,rfl⟩ | ⟨h1,rfl,tl,rfl⟩)
  rotate_left
  · refine ⟨_,rfl, ?_⟩
    simp [h1,CY,dN,iZ]
  refine ⟨_,rfl, ?_⟩
  have hf:=bm h1
  have h7:=hf.ship7
  have ha:=bU hf
  have hsa:pF t 2 (.box [.bool false] :: .box [ii' 0] :: .arr 1 (eh t) :: .amap [] :: .box (iG t 2 (iN t)) :: tl) (bt []):=⟨rfl,rfl,rfl⟩
  have hw1:IntKind.i64.wrap (((aP t:Nat):Int) + 1) = ((aP t:Nat):Int) + 1:=an (by omega) (by omega)
  simp
  refine aj.pure Bt (jx hf (n:=2) hsa) ?_
  simp [hw1]
  refine (tf (sets.any (cO ((aP t:Nat) + 1:Int)))).elim (fun hb=>?_) (fun hb=>?_)
  rotate_left
  · refine aj.aD Bx (cw _ sets hl _) (congrArg ab.bool hb) ?_
    simp [CY,dN,iZ,h1,hb]
  refine aj.aD Bx (cw _ sets hl _) (congrArg ab.bool hb) ?_
  simp
  refine aj.pure Bt (jx hf (n:=2) hsa) ?_
  simp
  have hE:iZ t sets = 0:=by unfold iZ; rw [if_neg (by simp [h1]),hb,if_neg (by simp)]
  refine (tf (sets.contains ((aP t:Nat):Int))).elim (fun hc=>?_) (fun hc=>?_)
  · refine aj.aD xY (aY sets _ hl _) (congrArg ab.bool hc) ?_
    have hB:dN t sets = false:=by unfold dN; rw [hc]; simp
    simp
    rw [hB,hE]; rfl
  refine aj.aD xY (aY sets _ hl _) (congrArg ab.bool hc) ?_
  simp
  refine (tf (sets.contains 0)).elim (fun hz=>?_) (fun hz=>?_)
  rotate_left
  · refine aj.aD xY (aY sets 0 hl _) (congrArg ab.bool hz) ?_
    have hB:dN t sets = false:=by unfold dN; rw [hz]; simp
    simp
    rw [hB,hE]; rfl
  refine aj.aD xY (aY sets 0 hl _) (congrArg ab.bool hz) ?_
  simp
  have hin:∀ x ∈ sets,0 ≤ x ∧ x ≤ (aP t:Nat):=by
    intro x hx
    have:=List.any_eq_false.1 hb x hx
    simp [cO] at this
    omega
  refine AW.loop (ι:=Nat) (fun d fr σ1=>∃ (k:Nat) (m:List (Nat × Int)) (X:af) (cs:List Nat),aX t m ∧ cs.Nodup ∧ (∀ c ∈ cs,X[c]? = some .dfr) ∧ fr = { v:=[(3, .pval (.slice 1 (sets.map ii'))),(4, .ptr 0 0),(5, .ptr 1 0),(6, .ptr 4 0),(37, .slice 1 (sets.map ii')),(38,nn' sets.length),(39,nn' k)],ds:=lB 0 5 cs } ∧ σ1 = et t false 0 m X ∧ (∀ (j:Nat) (h:j < sets.length),j < k → qa t sets sets[j] = true) ∧ k ≤ sets.length ∧ d = sets.length - k) (fun d=>d) sets.length ⟨0,[],tl,[],fK t,by simp,(fun _ h=>by cases h),by simp [lB],by simp [et,bt],(fun _ _ h=>by omega),by omega,rfl⟩ ?_
  rintro d fr σ1 ⟨k,m,X,cs,hm,hcn,hcd,rfl,rfl,hheld,hk,rfl⟩
  refine (Nat.lt_or_ge k sets.length).elim (fun hlt=>?_) (fun hge=>?_)
  rotate_left
  · refine dm _ ?_
    have hnl:¬ k < sets.length:=by omega
    have hall:sets.all (qa t sets) = true:=by
      rw [List.all_eq_true]
      intro x hx
      obtain ⟨j,hj,rfl⟩:=List.getElem_of_mem hx
      exact hheld j hj (by omega)
    have hB:dN t sets = true:=by unfold dN; rw [hE,hc,hz,hall]; rfl
    simp [hnl,et]
    refine jK (B:=0) (o:=5) (S:=[.box [.bool true], .box [ii' 0], .arr 1 (eh t), .amap (bt m), .box (iG t 2 (iN t))]) (by simp) (fun X=>?_) cs X hcn hcd
    rw [hB,hE]
    simp [CY]
  obtain ⟨x,hx⟩:∃ x,sets[k] = x:=⟨_,rfl⟩
  have hxm:x ∈ sets:=by rw [← hx]; exact List.getElem_mem hlt
  obtain ⟨s,rfl⟩:∃ s:Nat,x = (s:Int):=⟨x.toNat,by have:=(hin x hxm).1; omega⟩
  have hs:Sub t s:=BO (by have:=(hin _ hxm).2; omega)
  refine dm _ ?_
  simp [hlt,hx,et]
  refine aj.pure Bp (dR (2 + 2) s _) ?_
  simp
  refine AW.bF (by simp) fun asg' body' ca cb hps=>?_
  simp only [List.length_cons,List.cons_append,Nat.reduceAdd,Nat.add_assoc]
  change cR Tryz.prog (.func (.func gR) [] [.pval (nn' s), .pval (.ptr (2 + 2) 0)]) [.yieldf (X.length + 6)] (et t false 0 m (X ++ kh sets s k (X.length + 5) asg' body' .ready none)) (fH (X.length + 6) _ _)
  have hg1:∀ m a b Y,(et t false 0 m (X ++ a :: b :: Y))[X.length + 6]? = some b:=fun m a b Y=>by simp [et]
  have hs1:∀ m a b b' Y,(et t false 0 m (X ++ a :: b :: Y)).set (X.length + 6) b' = et t false 0 m (X ++ a :: b' :: Y):=fun m a b b' Y=>by simp [et]
  have happ:∀ m Y Z,et t false 0 m (X ++ Y) ++ Z = et t false 0 m (X ++ (Y ++ Z)):=fun m Y Z=>by simp [et]
  have hXc:X.length ∉ cs:=fun h=>by have:=(List.getElem?_eq_some_iff.1 (hcd _ h)).1; omega
  have hq0:∀ m Y,(et t false 0 m Y)[0]? = some (.box [.bool false]):=fun _ _=>rfl
  have hq1:∀ m Y,(et t false 0 m Y)[1]? = some (.box [ii' 0]):=fun _ _=>rfl
  have hq2:∀ m Y,(et t false 0 m Y).set 0 (.box [.bool false]) = et t false 0 m Y:=fun _ _=>rfl
  have hq3:∀ m Y,(et t false 0 m Y).set 1 (.box [.int .i64 0]) = et t false 0 m Y:=fun _ _=>rfl
  have hlen:∀ m Y,(et t false 0 m Y).length = Y.length + 5:=fun m Y=>by simp [et]
  refine cR.func wZ ((ix hf hok _ s hs (X.length + 6) (fun i s'=>∃ m,aX t m ∧ s' = et t false 0 m (X ++ kh sets s k (X.length + 5) asg' body' .ready none) ∧ ∀ a ∈ dH t s i,sets.contains ((aK s a:Nat):Int) = true)
    (fun s'=>∃ m,aX t m ∧ qa t sets (s:Int) = false ∧ s' = et t false 0 m (X ++ kh sets s k (X.length + 5) asg' body' .done (some .ret))) ?_ ?_ ?_ ?_ ?_).mono ?_)
  · rintro i s' ⟨m,hm,rfl,_⟩
    exact BF hm _
  · rintro i s' m' ⟨m,hm,rfl,hn⟩ hm'
    exact ⟨m',hm',by simp [et],hn⟩
  · rintro i s' tl2 hi hw ⟨m2,hm2,rfl,hn⟩ _
    refine aC.round (e:=pj sets s k) (D:=X.length + 5) (pend:=none) ca cb hps (by simp [kh,happ,hg1]) rfl ?_
    refine dm _ ?_
    simp [cM,pj,kh,happ,hs1,hg1]
    refine ⟨_,_,_,_,_,_,_,⟨rfl,rfl,rfl,rfl,rfl,rfl,rfl⟩, ?_⟩
    refine dm _ ?_
    simp
    refine (tf (sets.contains ((aK s i:Nat):Int))).elim (fun hr=>?_) (fun hr=>?_)
    · refine aj.aD xY (aY sets _ hl _) (congrArg ab.bool hr) ?_
      have hno:qa t sets (s:Int) = false:=by
        unfold qa
        rw [Int.toNat_natCast, ← ir hf hs,List.all_eq_false]
        refine ⟨i, ?_,by rw [hr]; simp⟩
        obtain ⟨r,hr'⟩:=kW t s (7 - (i + 1)) (i + 1)
        rw [show i + 1 + (7 - (i + 1)) = 7 by omega,cy,if_pos hw] at hr'
        rw [← hr']; simp
      simp [hq0,hq1,hq2,hq3]
      unfold zQ
      simp [hg1]
      exact ⟨53,pj sets s k,[46,47],asg',body',X.length + 5,⟨rfl,rfl,rfl,rfl,rfl,rfl⟩,et t false 0 m2 (X ++ kh sets s k (X.length + 5) asg' body' .done (some .ret)),⟨[],by simp [hs1,happ,kh,pj]⟩,by simp [kh,hlen],m2,hm2,hno,by simp [kh,pj]⟩
    · refine aj.aD xY (aY sets _ hl _) (congrArg ab.bool hr) ?_
      have hyes:∀ a ∈ dH t s (i + 1),sets.contains ((aK s a:Nat):Int) = true:=fun a ha=>by
        rw [cy,if_pos hw,List.mem_append,List.mem_singleton] at ha
        rcases ha with ha | rfl
        · exact hn a ha
        · exact hr
      simp
      exact ⟨53,pj sets s k,[46,47],asg',body',X.length + 5, .busy,none,by simp [hg1,pj],et t false 0 m2 (X ++ kh sets s k (X.length + 5) asg' body' .ready none),⟨[],by simp [hs1,happ,kh,pj]⟩,by simp [kh,hlen], .inl ⟨rfl,m2,hm2,by simp [kh,pj],by simpa using hyes⟩⟩
  · rintro i s' hi hw ⟨m,hm,rfl,hn⟩
    exact ⟨m,hm,rfl,by rw [cy,if_neg hw,List.append_nil]; exact hn⟩
  · exact ⟨m,hm,rfl,by simp [dH]⟩
  · rintro r σ' ⟨rfl,s2,tl2,rfl,_,⟨m2,hm2,rfl,hn⟩ | ⟨m2,hm2,hno,rfl⟩⟩
    · refine ⟨53,pj sets s k,[46,47],asg',body',X.length + 5, .ready,none,by simp [kh,happ,hg1],by simp, ?_⟩
      simp only [kh,happ,hs1,List.cons_append,List.nil_append]
      have hwk:IntKind.i64.wrap ((k:Int) + 1) = (k:Int) + 1:=an (by omega) (by unfold maxLen at hl; omega)
      simp [hwk]
      refine ⟨sets.length - (k + 1),by omega,k + 1,m2,hm2,X ++ (kh sets s k (X.length + 5) asg' body' .exhausted none ++ tl2),X.length :: cs,by rw [List.nodup_cons]; exact ⟨hXc,hcn⟩, ?_,⟨by omega,by simp [lB]⟩,rfl, ?_,by omega,rfl⟩
      · intro c hc
        rcases List.mem_cons.1 hc with rfl | hc
        · simp [kh]
        · rw [List.getElem?_append_left (List.getElem?_eq_some_iff.1 (hcd _ hc)).1]; exact hcd c hc
      · intro j hj hjk
        rcases Nat.lt_or_ge j k with g | g
        · exact hheld j hj g
        · obtain rfl:j = k:=by omega
          rw [hx]
          unfold qa
          rw [Int.toNat_natCast, ← ir hf hs,List.all_eq_true]
          exact hn
    · refine ⟨53,pj sets s k,[46,47],asg',body',X.length + 5, .done,some .ret,by simp [kh,happ,hg1],by simp, ?_⟩
      simp only [kh,happ,hs1,List.cons_append,List.nil_append]
      have hB:dN t sets = false:=by
        have:sets.all (qa t sets) = false:=List.all_eq_false.2 ⟨_,hxm,by rw [hno]; simp⟩
        unfold dN; rw [this]; simp
      have hg5:∀ m a Y,(et t false 0 m (X ++ a :: Y))[X.length + 5]? = some a:=fun m a Y=>by simp [et]
      have hs5:∀ m a a' Y,(et t false 0 m (X ++ a :: Y)).set (X.length + 5) a' = et t false 0 m (X ++ a' :: Y):=fun m a a' Y=>by simp [et]
      simp [hg5,hs5]
      refine jK (B:=0) (o:=5) (S:=[.box [.bool false], .box [ii' 0], .arr 1 (eh t), .amap (bt m2), .box (iG t 2 (iN t))]) (by simp) (fun X=>?_) cs (X ++ .dead :: .looprec 53 (pj sets s k) [46,47] asg' body' (X.length + 5) .exhausted (some .ret) :: tl2) hcn fun c hc=>?_
      · rw [hB,hE]
        simp [CY]
      · rw [List.getElem?_append_left (List.getElem?_eq_some_iff.1 (hcd _ hc)).1]; exact hcd c hc
set_option maxRecDepth 100000
set_option maxHeartbeats 1000000
def xr:ByteArray:=⟨#[98,111,119]⟩
def AD:ByteArray:=⟨#[109,105,100]⟩
def rr:ByteArray:=⟨#[115,116,101,114,110]⟩
def AS (on:List ByteArray):List HuM:=[⟨xr,2,0,10,[],1,1⟩,⟨AD,1,5,30,on,1,1⟩,⟨rr,1,25,40,[],1,1⟩]
def zH:aB:=⟨[⟨xr,100,1000,1200,50,10,12⟩,⟨AD,400,500,600,100,4,5⟩,⟨rr,900,2000,2000,100,20,20⟩],200,800⟩
def BX (w:Bool):br:=⟨[⟨⟨#[97]⟩,true⟩,⟨⟨#[98]⟩,false⟩,⟨⟨#[99]⟩,false⟩,⟨⟨#[100]⟩,false⟩,⟨⟨#[101]⟩,false⟩],[⟨0,1,w⟩,⟨1,2,false⟩,⟨0,2,false⟩,⟨2,3,false⟩,⟨3,4,false⟩,⟨2,4,false⟩]⟩
def exT (a b:Bool):ah:=⟨AS (if a then [xr] else []),zH,0,60,BX false,[3,5],[⟨3,false⟩,⟨4,false⟩,⟨3,true⟩,⟨4,true⟩],[[],[3,4],if b then [2] else []]⟩
theorem di (a b:Int) (σ:af):Spec Tryz.prog CT [ii' a,ii' b] σ fun r σ'=>r = .ret (.agg [ii' a,ii' b]) ∧ σ' = σ:=by
  refine Spec.ay (Le (by simp) (dm _ ?_)) rfl rfl σ
  simp [FX]
theorem mE (a b:Int) (σ:af):Spec Tryz.prog IS [ii' a,ii' b] σ fun r σ'=>r = .ret (.agg [ii' a,ii' b]) ∧ σ' = σ:=by
  refine Spec.ay (RS (by simp) (dm _ ?_)) rfl rfl σ
  simp [Lc]
theorem vO (w:Bool) (σ:af):Spec Tryz.prog I6 [.bool w] σ fun r σ'=>r = .ret (BX w).v ∧ σ' = σ:=by
  refine Spec.ay (Pz (by simp) (dm _ ?_)) rfl (br.pure _) σ
  simp [KD,BX,br.v,br.cells,aE.v,aE.cells,aG.v,aG.cells]
theorem tW (σ:af):Spec Tryz.prog Hy [] σ fun r σ'=>r = .ret zH.v ∧ σ' = σ:=by
  refine Spec.ay (QP (by simp) (dm _ ?_)) rfl rfl σ
  simp [Lw]
  refine aj.pure ud (di 1000 1200 _) ?_
  simp
  refine aj.pure ud (di 10 12 _) ?_
  simp
  refine aj.pure ud (di 500 600 _) ?_
  simp
  refine aj.pure ud (di 4 5 _) ?_
  simp
  refine aj.pure ud (di 2000 2000 _) ?_
  simp
  refine aj.pure ud (di 20 20 _) ?_
  simp [zH,aB.v,aB.cells,aq.v,aq.cells,xr,AD,rr]
theorem gJ (n:ByteArray) (k a b:Int) (σ:af):Spec Tryz.prog HO [.str n,ii' k,ii' a,ii' b] σ fun r σ'=>r = .ret (HuM.v ⟨n,k,a,b,[],1,1⟩) ∧ σ' = σ:=by
  refine Spec.ay (Qn (by simp) (dm _ ?_)) rfl rfl σ
  simp [K7]
  refine aj.pure Lx (mE 1 1 _) ?_
  simp [HuM.v,HuM.cells]
theorem jm (a b:Bool) (σ:af):Spec Tryz.prog HN [.bool a, .bool b] σ fun r σ'=>r = .ret (exT a b).v ∧ σ' = σ:=by
  refine Spec.ay (R0 (by simp) (dm _ ?_)) rfl (ah.pure _) σ
  simp [OX]
  refine aj.pure I0 (gJ xr 2 0 10 _) ?_
  simp
  refine aj.pure I0 (gJ AD 1 5 30 _) ?_
  simp
  refine aj.pure I0 (gJ rr 1 25 40 _) ?_
  simp [HuM.v,HuM.cells]
  refine aj.pure Q3 (tW _) ?_
  simp
  refine aj.pure Lx (mE 0 60 _) ?_
  simp
  refine aj.pure QZ (vO false _) ?_
  simp [aB.v,aB.cells,br.v,br.cells]
  refine ⟨fun h=>?_,fun h=>?_⟩ <;> subst h <;> refine ⟨fun h=>?_,fun h=>?_⟩ <;> subst h <;> rfl
theorem tI (a b:Bool):(exT a b).Ok:=by
  cases a <;> cases b <;> exact ⟨by constructor <;> simp [exT,AS] <;> decide,by decide,by decide,by decide,by decide,by decide,by decide,by decide⟩
set_option maxRecDepth 100000
set_option maxHeartbeats 1000000
theorem Ix:qY (exT false false) [0,1] = (1,4,0):=by decide +kernel
theorem IV:qY (exT false true) [0,2] = (1,3,0):=by decide +kernel
theorem Ag:cA (exT false false) [] = 0 ∧ bq (exT false false) (gN (exT false false) []) = [0,1] ∧ gQ (exT false false) (gN (exT false false) []) = [0]:=by decide +kernel
theorem AG:fl (exT false false) = [0,2,1] ∧ eK (exT false false) = 0:=by decide +kernel
theorem yI:eK (exT true false) = 9 ∧ qn (exT true false) = [1] ∧ (aN (exT true false)).2.2 = 0:=by decide +kernel
theorem Lm:toL (exT false false) 2 = [0,2] ∧ toE (exT false false) 2 = 0:=by decide +kernel
theorem vZ:rH (exT false true) = [5,6,7] ∧ py (exT false true) = 0 ∧ (hG (exT false true)).length ≤ 12:=by decide +kernel
theorem nA:dN (exT false true) [7,6,5] = true ∧ iZ (exT false true) [7,6,5] = 0 ∧ dN (exT false true) [7,6] = false ∧ iZ (exT false true) [7,6] = 0:=by decide +kernel
end Go.AM
