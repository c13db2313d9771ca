/- The longest order: of the program. The sets that are left behind good orders, the nearest ones first: the plain law. The sets that are left behind good orders, one after the other: of the program. slices.Clone of ints: a contract. -/
import Derived.Test.YtmjfcbpgnmajpaaGreatDoorP22
import Derived.Test.YtmjfcbpgnmajpaaGreatDoorP20
import Derived.Test.YtmjfcbpgnmajpaaGreatDoorG05
import Derived.Test.YtmjfcbpgnmajpaaGreatDoorP14
namespace Go.AM
open Go.Proofs
set_option maxRecDepth 100000
set_option maxHeartbeats 1000000
theorem kW (t:ah) (s:Nat):∀ (d a:Nat),dH t s a <+: dH t s (a + d)
  | 0,a=>List.prefix_refl _
  | d + 1,a=>by
    rw [← Nat.add_assoc,cy]
    exact (kW t s d a).trans (List.prefix_append _ _)
def oT (t:ah) (s i:Nat):Bool:=aR t (aK s i) + 1 == aR t s
theorem xd {t:ah} (hf:t.Fit) {s i:Nat} (hs:Sub t s) (hi:i < 7) (hw:bD t s i = 0) (h0:(dH t s i).find? (oT t s) = none) (h1:oT t s i = true):p9 t s = some i:=by
  obtain ⟨r,hr⟩:=kW t s (7 - (i + 1)) (i + 1)
  rw [show i + 1 + (7 - (i + 1)) = 7 by omega,cy,if_pos hw,ir hf hs] at hr
  unfold p9
  rw [← hr]
  show ((dH t s i ++ [i]) ++ r).find? (oT t s) = some i
  rw [List.find?_append,List.find?_append,h0]
  simp [h1]
theorem Bc {t:ah} (hf:t.Fit) {s:Nat} (hs:Sub t s) (h:(dH t s 7).find? (oT t s) = none):aR t s = 0:=by
  have h128:=hs.lt hf
  rcases Nat.eq_zero_or_pos (aR t s) with e | e
  · exact e
  · obtain ⟨i,h1,_⟩:=kp hf h128 e
    rw [ir hf hs] at h
    have:p9 t s = none:=h
    rw [this] at h1; cases h1
section
variable (σ X:af) (a:Nat) (v:bo)
@[simp] theorem Py:(σ.set a v ++ X)[σ.length]? = X[0]?:=by
  have:=yF (σ.set a v) X
  rwa [List.length_set] at this
@[simp] theorem Pr (j:Nat):(σ.set a v ++ X)[σ.length + j]? = X[j]?:=by
  have:=jI (σ.set a v) X j
  rwa [List.length_set] at this
@[simp] theorem Pu (x:bo):(σ.set a v ++ X).set σ.length x = σ.set a v ++ X.set 0 x:=by
  have:=wO (σ.set a v) X x
  rwa [List.length_set] at this
@[simp] theorem EJ (x:bo) (j:Nat):(σ.set a v ++ X).set (σ.length + j) x = σ.set a v ++ X.set j x:=by
  have:=jy (σ.set a v) X x j
  rwa [List.length_set] at this
end
def bM (σ:af) (n:Nat) (m M:List (Nat × Int)) (p:Nat) (ord:List ab) (X:af):af:=
  σ.set (n + 1) (.amap (bt m)) ++ (.spare 1 p :: .box [.oslice 1 ord σ.length p] :: .amap (bt M) :: .dead :: .box [bE n (σ.length + 2) (σ.length + 2 + 2)] :: .dead :: X)
theorem uY {t:ah} {n:Nat} {σ:af} (h:bX t n σ) {m M:List (Nat × Int)} (hm:aX t m) (hM:dt t M) (p:Nat) (ord:List ab) (X:af):cu t n (σ.length + 2) (σ.length + 2 + 2) (bM σ n m M p ord X):=by
  have hl:=h.len
  refine ⟨?_,by omega,⟨M,hM,by simp [bM]⟩,by simp [bM,Nat.add_assoc]⟩
  exact (h.j7 ⟨m,[],hm,rfl⟩:bX t n _).app |> fun h=>by simpa [bM] using h
theorem Ao {n:Nat} {σ:af} (h1:n + 1 < σ.length) (m M m' M':List (Nat × Int)) (p:Nat) (ord:List ab) (X:af):bd (bM σ n m M p ord X) n (σ.length + 2) m' M' = bM σ n m' M' p ord X:=by
  unfold bd bM
  rw [List.set_append_left _ _ (by simpa using h1),List.set_set,EJ]
  rfl
theorem Bm {n:Nat} {σ:af} (h1:n + 1 < σ.length) (m M m':List (Nat × Int)) (p:Nat) (ord:List ab) (X:af):(bM σ n m M p ord X).set (n + 1) (.amap (bt m')) = bM σ n m' M p ord X:=by
  unfold bM
  rw [List.set_append_left _ _ (by simpa using h1),List.set_set]
theorem aj.bM {t:ah} {n:Nat} {fv:ab} {args:List ab} {σ X:af} {m0 M0:List (Nat × Int)} {p:Nat} {ord:List ab} {v:ab} {K Kp:ab → af → Prop} (hs:aC Tryz.prog fv args (bM σ n m0 M0 p ord X) fun r σ'=>r = .ret v ∧ o4 t n (σ.length + 2) (bM σ n m0 M0 p ord X) σ') (h1:n + 1 < σ.length)
    (hq:∀ m M tl,aX t m → dt t M → K v (Go.AM.bM σ n m M p ord (X ++ tl))):@aj Tryz.prog fv args (bM σ n m0 M0 p ord X) ⟨K⟩ ⟨Kp⟩:=
  hs.mono (by
    rintro r σ' ⟨rfl,m,M,tl,g1,g2,rfl⟩
    have:=hq m M tl g1 g2
    rw [Ao h1]
    have e:Go.AM.bM σ n m M p ord X ++ tl = Go.AM.bM σ n m M p ord (X ++ tl):=by simp [Go.AM.bM]
    rw [e]
    exact this)
def jE (n B T s:Nat):Env:=[(0, .ptr (n + 2) 0),(2, .ptr (B + 1) 0),(3, .pval (bE n (B + 2) (B + 2 + 2))),(4, .ptr (B + T) 0),(17, .func (.func gR) [] [.pval (nn' s), .pval (.ptr (n + 2) 0)])]
theorem kQ (σ:af) (n:Nat) (m M:List (Nat × Int)) (p:Nat) (ord:List ab) (X Y:af):bM σ n m M p ord X ++ Y = bM σ n m M p ord (X ++ Y):=by simp [bM]
theorem lf (σ:af) (n:Nat) (m M:List (Nat × Int)) (p:Nat) (ord:List ab) (X:af):(bM σ n m M p ord X).length = σ.length + (X.length + 6):=by simp [bM]
theorem Ds (σ:af) (n:Nat) (m M:List (Nat × Int)) (p:Nat) (ord:List ab) (A B:af) (o:bo):(bM σ n m M p ord (A ++ o :: B))[σ.length + (A.length + 6)]? = some o:=by simp [bM]
theorem aj.Gi {t:ah} {n:Nat} {fv:ab} {args:List ab} {σ A X:af} {m0 M0:List (Nat × Int)} {p:Nat} {ord:List ab} {v:ab} {K Kp:ab → af → Prop} (hs:aC Tryz.prog fv args (Go.AM.bM σ n m0 M0 p ord A ++ X) fun r σ'=>r = .ret v ∧ o4 t n (σ.length + 2) (Go.AM.bM σ n m0 M0 p ord A ++ X) σ') (h1:n + 1 < σ.length)
    (hq:∀ m M tl,aX t m → dt t M → K v (Go.AM.bM σ n m M p ord A ++ (X ++ tl))):@aj Tryz.prog fv args (Go.AM.bM σ n m0 M0 p ord A ++ X) ⟨K⟩ ⟨Kp⟩:=
  hs.mono (by
    rintro r σ' ⟨rfl,m,M,tl,g1,g2,rfl⟩
    have:=hq m M tl g1 g2
    rw [kQ,Ao h1, ← kQ,List.append_assoc]
    exact this)
def l7 (n B T D s:Nat) (asg body:Code) (st:LoopState) (pd:Option Code):af:=[.dfr, .looprec 35 (jE n B T s) [18,19] asg body D st pd]
def sf (B:Nat) (cs:List Nat):List tJ:=cs.map fun c=>.coll (B + (c + 6))
theorem xz {B:Nat} {S:af} (hS:S.length = B + 6) {K:af → Prop} (hK:∀ X,K (S ++ X)):∀ (cs:List Nat) (X:af),cs.Nodup → (∀ c ∈ cs,X[c]? = some .dfr) → dM (sf B cs) (S ++ X) K
  | [],X,_,_=>hK X
  | c :: cs,X,hn,hc=>by
    have h1:(S ++ X)[B + (c + 6)]? = some .dfr:=by
      rw [show B + (c + 6) = S.length + c by omega,jI]; exact hc c (by simp)
    have h2:(S ++ X).set (B + (c + 6)) .dead = S ++ X.set c .dead:=by
      rw [show B + (c + 6) = S.length + c by omega,jy]
    rw [List.nodup_cons] at hn
    show (match (S ++ X).get (B + (c + 6)) with
      | .dfr=>dM (sf B cs) ((S ++ X).set (B + (c + 6)) .dead) K
      | _=>False)
    unfold af.get
    rw [List.getD_eq_getElem?_getD,h1,h2]
    refine xz hS hK cs _ hn.2 fun d hd=>?_
    have hne:c ≠ d:=fun e=>hn.1 (by rw [e]; exact hd)
    rw [List.getElem?_set_ne hne]
    exact hc d (by simp [hd])
theorem oh {t:ah} (hf:t.Fit) (hok:t.Ok) {n:Nat} (σ:af) (h:bX t n σ) :
    Spec Tryz.prog Io [.ptr (n + 2) 0] σ fun r σ'=>r = .ret (.slice 1 ((cK t (aP t)).map nn')) ∧ tr t n σ σ':=by
  have h7:=hf.ship7
  have hl:=h.len
  obtain ⟨m0,hm0,hsh⟩:=id h
  refine SR (by simp) (dm _ ?_)
  simp [OE]
  refine aj.spec Jw (uJ t _ h.app) ?_
  rintro r σ' ⟨rfl,rfl⟩
  refine ⟨_,rfl, ?_⟩
  simp [bE]
  refine aj.pure Bt (jx hf (n:=n) (es:=bt m0) ⟨by rw [List.getElem?_append_left (by omega)]; exact hsh.above,by rw [List.getElem?_append_left (by omega)]; exact hsh.known,by rw [List.getElem?_append_left (by omega)]; exact hsh.ar⟩) ?_
  simp
  have hfl:=fun (s:Nat) (hs:Sub t s) m M (hm:aX t m) (hM:dt t M) p ord X=>aC.func (first:=[]) (args:=[nn' s]) (caps:=[.pval (.map (σ.length + 2)), .pval (.ptr (n + 2) 0), .ptr (σ.length + 2 + 2) 0]) Es (find_spec hf hok s hs _ (uY h hm hM p ord X))
  have hln:=lQ hf (s:=aP t) rfl (bU hf)
  have hml:=jN hf (bU hf)
  have hpl:=m7 (aP t) (bU hf)
  refine AW.loop (ι:=Nat) (fun d fr σ1=>∃ (s:Nat) (m M:List (Nat × Int)) (p:Nat) (ord:List Nat) (tl:af) (cs:List Nat),cs.Nodup ∧ (∀ c ∈ cs,tl[c]? = some .dfr) ∧ aX t m ∧ dt t M ∧ Sub t s ∧ fr = { v:=[(0, .ptr (n + 2) 0),(2, .ptr (σ.length + 1) 0),(3, .pval (bE n (σ.length + 2) (σ.length + 2 + 2))),(4, .ptr (σ.length + (tl.length + 6)) 0)],ds:=sf σ.length cs } ∧
      σ1 = bM σ n m M p (ord.map nn') (tl ++ [.box [nn' s]]) ∧ cK t (aP t) = ord ++ cK t s ∧ aR t s = d) (fun d=>d) (aR t (aP t)) ⟨aP t,m0,[],0,[],[],[],by simp,(fun _ h=>by cases h),hm0,(fun _ _ h=>(by cases h)),Sub.all t,by simp [bE,sf],by simp [bM,bE,nQ hsh.known],rfl,rfl⟩ ?_
  rintro d fr σ1 ⟨s,m,M,p,ord,tl,cs,hcn,hcd,hm,hM,hs,rfl,rfl,hlong,rfl⟩
  have h128:=hs.lt hf
  have hord:ord.length + aR t s ≤ 7:=by
    have:=congrArg List.length hlong
    rw [List.length_append,lQ hf (s:=s) rfl h128,hln] at this
    omega
  refine dm _ ?_
  simp [bM,bE]
  refine aj.bM (p:=p) (ord:=ord.map nn') (X:=tl ++ [.box [nn' s]]) (hfl s hs m M hm hM _ _ _) (by omega) fun m1 M1 tl1 hm1 hM1=>?_
  refine (Nat.eq_zero_or_pos (aR t s)).elim (fun hz=>?_) (fun hpos=>?_)
  · rw [mT hz,List.append_nil] at hlong
    simp [hz,bM,bE]
    have hcd2:∀ c ∈ cs,(tl ++ .box [nn' s] :: tl1)[c]? = some .dfr:=fun c hc=>by
      have:=hcd c hc
      rw [List.getElem?_append_left (List.getElem?_eq_some_iff.1 this).1]; exact this
    have e:σ.set (n + 1) (.amap (bt m1)) ++ .spare 1 p :: .box [.slice 1 (ord.map nn')] :: .amap (bt M1) :: .dead :: .box [.func (.func oA) [] [.pval (.map (σ.length + 2)), .pval (.ptr (n + 2) 0), .ptr (σ.length + 2 + 2) 0]] :: .dead :: (tl ++ .box [nn' s] :: tl1) =
        (σ.set (n + 1) (.amap (bt m1)) ++ [.spare 1 p, .box [.slice 1 (ord.map nn')], .amap (bt M1), .dead, .box [.func (.func oA) [] [.pval (.map (σ.length + 2)), .pval (.ptr (n + 2) 0), .ptr (σ.length + 2 + 2) 0]], .dead]) ++ (tl ++ .box [nn' s] :: tl1):=by simp
    rw [e]
    exact xz (by simp) (fun X=>by simp [hlong]; exact ⟨m1,_,hm1,rfl⟩) cs _ hcn hcd2
  have hposI:(0:Int) < (aR t s:Int):=by omega
  have hnz:¬ aR t s = 0:=by omega
  simp [hpos,bM,bE]
  refine aj.pure Bp (dR (n + 2) s _) ?_
  simp
  refine AW.bF (by simp) fun asg' body' ca cb hps=>?_
  simp only [List.length_append,List.length_cons,List.length_set,List.append_assoc,List.cons_append,Nat.reduceAdd,Nat.add_assoc]
  obtain ⟨D,hD⟩:∃ D,σ.length + (tl.length + (tl1.length + 7)) = D:=⟨_,rfl⟩
  have hDl:∀ m M p ord s',(bM σ n m M p ord (tl ++ .box [nn' s'] :: tl1)).length = D:=fun m M p ord s'=>by rw [lf]; simp; omega
  have hb:σ.length + (tl.length + (tl1.length + 8)) = D + 1:=by omega
  rw [hb,hD]
  change cR Tryz.prog (.func (.func gR) [] [.pval (nn' s), .pval (.ptr (n + 2) 0)]) [.yieldf (D + 1)] (bM σ n m1 M1 p (ord.map nn') (tl ++ .box [nn' s] :: (tl1 ++ l7 n σ.length (tl.length + 6) D s asg' body' .ready none))) (fH (D + 1) _ _)
  have hsplit:∀ m M p ord s' Y,bM σ n m M p ord (tl ++ .box [nn' s'] :: (tl1 ++ Y)) = bM σ n m M p ord (tl ++ .box [nn' s'] :: tl1) ++ Y:=fun m M p ord s' Y=>by rw [kQ]; simp
  have hg1:∀ m M p ord s' a b Y,(bM σ n m M p ord (tl ++ .box [nn' s'] :: tl1) ++ a :: b :: Y)[D + 1]? = some b:=fun m M p ord s' a b Y=>by rw [← hDl m M p ord s',jI]; rfl
  have hs1:∀ m M p ord s' a b b' Y,(bM σ n m M p ord (tl ++ .box [nn' s'] :: tl1) ++ a :: b :: Y).set (D + 1) b' = bM σ n m M p ord (tl ++ .box [nn' s'] :: tl1) ++ a :: b' :: Y:=fun m M p ord s' a b b' Y=>by rw [← hDl m M p ord s',jy]; rfl
  have hg4:∀ m M p ord s' Y,(bM σ n m M p ord (tl ++ .box [nn' s'] :: tl1) ++ Y)[σ.length + (tl.length + 6)]? = some (.box [nn' s']):=fun m M p ord s' Y=>by rw [List.getElem?_append_left (by rw [lf]; simp)]; exact Ds _ _ _ _ _ _ _ _ _
  rw [hsplit]
  refine cR.func wZ ((ix hf hok _ s hs (D + 1) (fun i s'=>∃ m M,aX t m ∧ dt t M ∧ s' = bM σ n m M p (ord.map nn') (tl ++ .box [nn' s] :: tl1) ++ l7 n σ.length (tl.length + 6) D s asg' body' .ready none ∧ (dH t s i).find? (oT t s) = none)
    (fun s'=>∃ m M i,aX t m ∧ dt t M ∧ p9 t s = some i ∧ s' = bM σ n m M (p + 1) ((ord ++ [i]).map nn') (tl ++ .box [nn' (aK s i)] :: tl1) ++ l7 n σ.length (tl.length + 6) D s asg' body' .done (some (.exit 2))) ?_ ?_ ?_ ?_ ?_).mono ?_)
  · rintro i s' ⟨m,M,hm,hM,rfl,_⟩
    exact (uY h hm hM _ _ _).ar.app
  · rintro i s' m' ⟨m,M,hm,hM,rfl,hn⟩ hm'
    refine ⟨m',M,hm',hM, ?_,hn⟩
    rw [List.set_append_left _ _ (by rw [lf]; omega),Bm (by omega)]
  · rintro i s' tl2 hi hw ⟨m2,M2,hm2,hM2,rfl,hn⟩ _
    have hpr:=fZ s h128 i (by omega) (eA hw)
    have hle:=jN hf (fU (i:=i) h128)
    have hms:=jN hf h128
    have hp7:=m7 s h128
    have hwr:IntKind.i64.wrap ((aR t s:Int) - 1) = (aR t s:Int) - 1:=an (by omega) (by omega)
    refine aC.round (e:=jE n σ.length (tl.length + 6) s) (D:=D) (pend:=none) ca cb hps (by simp [l7,hg1]) rfl ?_
    refine dm _ ?_
    simp [cM,jE,l7,hg1]
    refine ⟨_,_,_,_,_,_,_,⟨rfl,rfl,rfl,rfl,rfl,rfl,rfl⟩, ?_⟩
    refine dm _ ?_
    simp [hs1,hg4,bE]
    refine aj.Gi (p:=p) (ord:=ord.map nn') (A:=tl ++ .box [nn' s] :: tl1) (by have:=hfl (aK s i) hs.rem m2 M2 hm2 hM2 p (ord.map nn') (tl ++ .box [nn' s] :: tl1 ++ (.dfr :: .looprec 35 (jE n σ.length (tl.length + 6) s) [18,19] asg' body' D .busy none :: tl2)); rw [← kQ] at this; exact this) (by omega) fun m3 M3 tl3 hm3 hM3=>?_
    simp [hs1,hg4,bE]
    refine aj.Gi (p:=p) (ord:=ord.map nn') (A:=tl ++ .box [nn' s] :: tl1) (by have:=hfl s hs m3 M3 hm3 hM3 p (ord.map nn') (tl ++ .box [nn' s] :: tl1 ++ (.dfr :: .looprec 35 (jE n σ.length (tl.length + 6) s) [18,19] asg' body' D .busy none :: (tl2 ++ tl3))); rw [← kQ] at this; exact this) (by omega) fun m4 M4 tl4 hm4 hM4=>?_
    refine (Classical.em (aR t (aK s i) + 1 = aR t s)).elim (fun he=>?_) (fun he=>?_)
    · have heI:(aR t (aK s i):Int) = (aR t s:Int) - 1:=by omega
      have hnx:=xd hf hs (by omega) hw hn (show oT t s i = true by simp [oT,he])
      have hg:=hg1 m4 M4 (p + 1) ((ord ++ [i]).map nn') (aK s i) .dfr (.looprec 35 (jE n σ.length (tl.length + 6) s) [18,19] asg' body' D .busy none) (tl2 ++ (tl3 ++ tl4))
      have hsx:=hs1 m4 M4 (p + 1) ((ord ++ [i]).map nn') (aK s i) .dfr (.looprec 35 (jE n σ.length (tl.length + 6) s) [18,19] asg' body' D .busy none) (.looprec 35 (jE n σ.length (tl.length + 6) s) [18,19] asg' body' D .done (some (.exit 2))) (tl2 ++ (tl3 ++ tl4))
      simp [hs1,hg4,bE,hwr,heI]
      simp [bM]
      refine ⟨by intro v hv; simp at hv; subst hv; exact ⟨⟨rfl,rfl⟩,rfl⟩,by omega,35,jE n σ.length (tl.length + 6) s,[18,19],asg',body',D, .busy,none,by have h:=hg; simp [bM,jE,bE] at h; simp [jE,bE,h], ?_⟩
      exact ⟨bM σ n m4 M4 (p + 1) ((ord ++ [i]).map nn') (tl ++ .box [nn' (aK s i)] :: tl1) ++ l7 n σ.length (tl.length + 6) D s asg' body' .done (some (.exit 2)),⟨tl3 ++ tl4,by have h:=hsx; simp [bM,jE,bE] at h; simp [bM,jE,l7,bE,h]⟩,by simp [bM,l7]; omega, .inr ⟨rfl,m4,hm4,M4,hM4,i,hnx,by simp [bM,l7,jE,bE]⟩⟩
    · have heI:¬ (aR t (aK s i):Int) = (aR t s:Int) - 1:=by omega
      have hall:∀ x,x ∈ dH t s (i + 1) → oT t s x = false:=fun x hx=>by
        rw [cy,if_pos hw,List.mem_append,List.mem_singleton] at hx
        rcases hx with hx | rfl
        · simpa using List.find?_eq_none.1 hn x hx
        · simpa [oT] using he
      simp [hs1,hg4,bE,hwr,heI]
      exact ⟨35,jE n σ.length (tl.length + 6) s,[18,19],asg',body',D, .busy,none,by simp [hg1,jE,bE],bM σ n m4 M4 p (ord.map nn') (tl ++ .box [nn' s] :: tl1) ++ l7 n σ.length (tl.length + 6) D s asg' body' .ready none,⟨tl3 ++ tl4,by simp [hs1,l7,jE,bE]⟩,by simp [l7,lf], .inl ⟨rfl,m4,hm4,M4,hM4,by simp [l7,jE,bE],hall⟩⟩
  · rintro i s' hi hw ⟨m,M,hm,hM,rfl,hn⟩
    exact ⟨m,M,hm,hM,rfl,by rw [cy,if_neg hw,List.append_nil]; exact hn⟩
  · exact ⟨m1,M1,hm1,hM1,rfl,by simp [dH]⟩
  · rintro r σ' ⟨rfl,s2,tl2,rfl,_,⟨m2,M2,hm2,hM2,rfl,hn⟩ | ⟨m2,M2,i,hm2,hM2,hnx,rfl⟩⟩
    · have:=Bc hf hs hn
      omega
    · have hi:=kp hf h128 hpos
      refine ⟨35,jE n σ.length (tl.length + 6) s,[18,19],asg',body',D, .done,some (.exit 2),by simp [l7,hg1],by simp, ?_⟩
      simp only [l7,hs1,List.append_assoc,List.cons_append,List.nil_append]
      simp [hg4,bE]
      obtain ⟨i',e1,e2,e3,e4⟩:=hi
      obtain rfl:i' = i:=Option.some.inj (e1.symm.trans hnx)
      rw [mJ e1 e4] at hlong
      refine ⟨aR t (aK s i'),by omega,aK s i',m2,M2,p + 1,ord ++ [i'],tl ++ .box [nn' (aK s i')] :: (tl1 ++ .dfr :: .looprec 35 (jE n σ.length (tl.length + 6) s) [18,19] asg' body' D .exhausted (some (.exit 2)) :: tl2),(tl.length + (tl1.length + 1)) :: cs, ?_, ?_,hm2,hM2,hs.rem,⟨by rw [lf]; simp; omega,by simp [sf]; omega⟩,by simp [bM],by rw [hlong]; simp,rfl⟩
      · rw [List.nodup_cons]
        refine ⟨fun hc=>?_,hcn⟩
        have:=(List.getElem?_eq_some_iff.1 (hcd _ hc)).1
        omega
      · intro c hc
        rcases List.mem_cons.1 hc with rfl | hc
        · simp
        · have:=hcd c hc
          rw [List.getElem?_append_left (List.getElem?_eq_some_iff.1 this).1]; exact this
def fl (t:ah):List Nat:=if (aN t).2.2 = 0 ∧ t.ar.length ≤ (cK t (aP t)).length then cK t (aP t) else []
def eK (t:ah):Int:=if (aN t).2.2 ≠ 0 then (aN t).2.2 else if (cK t (aP t)).length < t.ar.length then 9 else 0
def qn (t:ah):List Nat:=if (aN t).2.2 = 0 then cK t (aP t) else []
def gX (l:List Nat) (e:Int):ab:=.tup [.slice 1 (l.map nn'),ii' e]
theorem mI (l:List Nat) (e:Int):(gX l e).pure = true:=by simp [gX,ab.pure,aM,av (f:=nn') (fun _=>rfl)]
theorem mq (t:ah) (hok:t.Ok) (σ:af):Spec Tryz.prog EL [t.v] σ fun r σ'=>r = .ret (gX (qn t) (aN t).2.2) ∧ σ' = σ:=by
  refine Spec.ay (QI (by simp) (dm _ ?_)) (by simp [aM,t.pure]) (mI _ _) σ
  simp [Nn,ah.v,ah.cells]
  refine aj.spec B7 (eu t hok _) ?_
  rintro r σ' (⟨h1,rfl,tl,rfl⟩ | ⟨h1,rfl,tl,rfl⟩)
  · refine ⟨_,rfl, ?_⟩
    have hf:=bm h1
    simp
    refine aj.spec OZ (oh hf hok (n:=0) _ (dC (σ:=[]) (fK t) tl)) ?_
    rintro r σ' ⟨rfl,_⟩
    refine ⟨_,rfl, ?_⟩
    simp [gX,qn,h1]
  · refine ⟨_,rfl, ?_⟩
    simp [h1,gX,qn]
theorem fj (t:ah) (hok:t.Ok) (σ:af):Spec Tryz.prog Db [t.v] σ fun r σ'=>r = .ret (gX (fl t) (eK t)) ∧ σ' = σ:=by
  refine Spec.ay (Re (by simp) (dm _ ?_)) (by simp [aM,t.pure]) (mI _ _) σ
  simp [LR,ah.v,ah.cells]
  refine aj.spec B7 (eu t hok _) ?_
  rintro r σ' (⟨h1,rfl,tl,rfl⟩ | ⟨h1,rfl,tl,rfl⟩)
  · refine ⟨_,rfl, ?_⟩
    have hf:=bm h1
    have hsh:=dC (σ:=[]) (fK t) tl
    simp
    refine aj.spec OZ (oh hf hok (n:=0) _ hsh) ?_
    rintro r σ' ⟨rfl,hm⟩
    refine ⟨_,rfl, ?_⟩
    have hs2:=(hsh.j7 hm)
    obtain ⟨m',_,hsh'⟩:=hs2
    have hship:=hsh'.ar
    simp at hship
    refine (Nat.lt_or_ge (cK t (aP t)).length t.ar.length).elim (fun hlt=>?_) (fun hge=>?_)
    · have hng:¬ t.ar.length ≤ (cK t (aP t)).length:=by omega
      simp [hship,hlt,gX,fl,eK,h1,hng]
    · have hng:¬ (cK t (aP t)).length < t.ar.length:=by omega
      simp [hship,hng,hge,gX,fl,eK,h1]
  · refine ⟨_,rfl, ?_⟩
    simp [h1,gX,fl,eK]
set_option maxRecDepth 100000
set_option maxHeartbeats 1000000
def lexB:List Nat → List Nat → Bool
  | a :: r,b :: s=>decide (a < b) || decide (a = b) && lexB r s
  | _,_=>false
def slB (a b:List Nat):Prop:=a.length < b.length ∨ a.length = b.length ∧ lexB a b = true
def slE (a b:List Nat):Prop:=a = b ∨ slB a b
theorem rA:∀ {a b c:List Nat},lexB a b = true → lexB b c = true → lexB a c = true
  | x :: r,y :: s,z :: u,h1,h2=>by
    simp only [lexB,Bool.or_eq_true,decide_eq_true_eq,Bool.and_eq_true] at h1 h2 ⊢
    rcases h1 with h1 | ⟨rfl,h1⟩
    · rcases h2 with h2 | ⟨rfl,h2⟩
      · left; omega
      · left; omega
    · rcases h2 with h2 | ⟨rfl,h2⟩
      · left; omega
      · exact .inr ⟨rfl,rA h1 h2⟩
  | [],_,_,h,_=>by simp [lexB] at h
  | _ :: _,[],_,h,_=>by simp [lexB] at h
  | _ :: _,_ :: _,[],_,h=>by simp [lexB] at h
theorem wK:∀ {a b:List Nat} {c d:List Nat},a.length = b.length → lexB a b = true → lexB (a ++ c) (b ++ d) = true
  | [],[],_,_,_,h=>by simp [lexB] at h
  | x :: r,y :: s,c,d,hl,h=>by
    simp only [List.cons_append,lexB,Bool.or_eq_true,decide_eq_true_eq,Bool.and_eq_true] at h ⊢
    rcases h with h | ⟨rfl,h⟩
    · exact .inl h
    · exact .inr ⟨rfl,wK (by simpa using hl) h⟩
theorem vh:∀ {a c d:List Nat},lexB (a ++ c) (a ++ d) = lexB c d
  | [],_,_=>rfl
  | x :: r,c,d=>by simp [lexB,vh (a:=r)]
theorem BQ {a b c:List Nat} (h1:slB a b) (h2:slB b c):slB a c:=by
  rcases h1 with h1 | ⟨h1,g1⟩
  · rcases h2 with h2 | ⟨h2,g2⟩
    · left; omega
    · left; omega
  · rcases h2 with h2 | ⟨h2,g2⟩
    · left; omega
    · exact .inr ⟨by omega,rA g1 g2⟩
theorem uI {a b c:List Nat} (h1:slE a b) (h2:slE b c):slE a c:=by
  rcases h1 with rfl | h1
  · exact h2
  · rcases h2 with rfl | h2
    · exact .inr h1
    · exact .inr (BQ h1 h2)
theorem xQ {a b:List Nat} {i j:Nat} (h:slB a b):slB (a ++ [i]) (b ++ [j]):=by
  rcases h with h | ⟨h,g⟩
  · left; simp; omega
  · exact .inr ⟨by simp; omega,wK h g⟩
theorem Cb {a:List Nat} {i j:Nat} (h:i < j):slB (a ++ [i]) (a ++ [j]):=.inr ⟨by simp,by rw [vh]; simp [lexB,h]⟩
theorem xc {a b:List Nat} {i:Nat} (h:slE a b):slE (a ++ [i]) (b ++ [i]):=by
  rcases h with rfl | h
  · exact .inl rfl
  · exact .inr (xQ h)
theorem Ff {a:List Nat} {i:Nat}:slB [] (a ++ [i]):=by left; simp
abbrev Place:=Nat × List Nat
def fw (q:Place) (Q:List Place) (i:Nat):List Place:=if Q.any (·.1 == aK q.1 i) then Q else Q ++ [(aK q.1 i,q.2 ++ [i])]
def ji (t:ah) (Q:List Place) (q:Place):List Place:=(bq t q.1).foldl (fw q) Q
structure S5 (t:ah) (n:Nat) (Q:List Place) (q:Option Place) (pre:List Nat):Prop where
  root:Q[0]? = some (aP t,[])
  go:∀ p ∈ Q,goT t p.2 (aP t) = some p.1
  sorted:Q.Pairwise fun a b=>slB a.2 b.2
  nodup:Q.Pairwise fun a b=>a.1 ≠ b.1
  closed:∀ (j:Nat) (x:Place),j < n → Q[j]? = some x → ∀ i ∈ bq t x.1, ∃ p ∈ Q,p.1 = aK x.1 i ∧ slE p.2 (x.2 ++ [i])
  closedq:∀ x,q = some x → Q[n]? = some x ∧ (∀ i ∈ pre,i ∈ bq t x.1 ∧ ∃ p ∈ Q,p.1 = aK x.1 i ∧ slE p.2 (x.2 ++ [i]))
  from_:∀ p ∈ Q,p.2 = [] ∨ (∃ j x i,j < n ∧ Q[j]? = some x ∧ p.2 = x.2 ++ [i]) ∨ ∃ x,q = some x ∧ ∃ i ∈ pre,p.2 = x.2 ++ [i]
theorem CN {t:ah} {n:Nat} {Q:List Place} {q:Place} {pre:List Nat} {i:Nat} (h:S5 t n Q (some q) pre) (hi:i ∈ bq t q.1) (hlt:∀ k ∈ pre,k < i):S5 t n (fw q Q i) (some q) (pre ++ [i]) ∧ Q <+: fw q Q i:=by
  have hq:=(h.closedq q rfl).1
  have hqm:q ∈ Q:=List.mem_of_getElem? hq
  have hs:∀ p ∈ Q,slB p.2 (q.2 ++ [i]):=fun p hp=>by
    rcases h.from_ p hp with e | ⟨j,x,k,h1,h2,e⟩ | ⟨x,h1,k,h2,e⟩
    · rw [e]; exact Ff
    · rw [e]
      refine xQ ?_
      have hj:=List.pairwise_iff_getElem.1 h.sorted j n (by rw [List.getElem?_eq_some_iff] at h2; exact h2.1) (by rw [List.getElem?_eq_some_iff] at hq; exact hq.1) h1
      rw [(List.getElem?_eq_some_iff.1 h2).2,(List.getElem?_eq_some_iff.1 hq).2] at hj
      exact hj
    · cases h1
      rw [e]
      exact Cb (hlt k h2)
  unfold fw
  split
  · rename_i ha
    refine ⟨⟨h.root,h.go,h.sorted,h.nodup,h.closed, ?_, ?_⟩,List.prefix_refl _⟩
    · rintro x ⟨⟩
      refine ⟨hq,fun k hk=>?_⟩
      rcases List.mem_append.1 hk with hk | hk
      · exact (h.closedq q rfl).2 k hk
      · rw [List.mem_singleton] at hk
        subst hk
        obtain ⟨p,hp,e⟩:=List.any_eq_true.1 ha
        exact ⟨hi,p,hp,by simpa using e, .inr (hs p hp)⟩
    · intro p hp
      rcases h.from_ p hp with e | e | ⟨x,h1,k,h2,e⟩
      · exact .inl e
      · exact .inr (.inl e)
      · exact .inr (.inr ⟨x,h1,k,by simp [h2],e⟩)
  · rename_i ha
    have hnew:∀ p ∈ Q,p.1 ≠ aK q.1 i:=fun p hp e=>ha (List.any_eq_true.2 ⟨p,hp,by simpa using e⟩)
    have hget:∀ {j:Nat} {x:Place},Q[j]? = some x → (Q ++ [(aK q.1 i,q.2 ++ [i])])[j]? = some x:=fun {j x} hx=>by
      rw [List.getElem?_append_left (List.getElem?_eq_some_iff.1 hx).1]; exact hx
    refine ⟨⟨hget h.root, ?_, ?_, ?_, ?_, ?_, ?_⟩,List.prefix_append _ _⟩
    · intro p hp
      rcases List.mem_append.1 hp with hp | hp
      · exact h.go p hp
      · rw [List.mem_singleton] at hp
        subst hp
        show goT t (q.2 ++ [i]) (aP t) = some (aK q.1 i)
        rw [fS,h.go q hqm]
        show goT t [i] q.1 = _
        rw [goT,if_pos (bg.1 hi)]; rfl
    · rw [List.pairwise_append]
      exact ⟨h.sorted,List.pairwise_singleton _ _,fun a ha b hb=>by rw [List.mem_singleton] at hb; subst hb; exact hs a ha⟩
    · rw [List.pairwise_append]
      exact ⟨h.nodup,List.pairwise_singleton _ _,fun a ha b hb=>by rw [List.mem_singleton] at hb; subst hb; exact hnew a ha⟩
    · intro j x hj hx k hk
      have hjl:j < Q.length:=Nat.lt_trans hj (List.getElem?_eq_some_iff.1 hq).1
      rw [List.getElem?_append_left hjl] at hx
      obtain ⟨p,hp,e⟩:=h.closed j x hj hx k hk
      exact ⟨p,by simp [hp],e⟩
    · rintro x ⟨⟩
      refine ⟨hget hq,fun k hk=>?_⟩
      rcases List.mem_append.1 hk with hk | hk
      · obtain ⟨g1,p,hp,e⟩:=(h.closedq q rfl).2 k hk
        exact ⟨g1,p,by simp [hp],e⟩
      · rw [List.mem_singleton] at hk
        subst hk
        exact ⟨hi,_,List.mem_append.2 (.inr (List.mem_singleton.2 rfl)),rfl, .inl rfl⟩
    · intro p hp
      rcases List.mem_append.1 hp with hp | hp
      · rcases h.from_ p hp with e | ⟨j,x,k,h1,h2,e⟩ | ⟨x,h1,k,h2,e⟩
        · exact .inl e
        · exact .inr (.inl ⟨j,x,k,h1,hget h2,e⟩)
        · exact .inr (.inr ⟨x,h1,k,by simp [h2],e⟩)
      · rw [List.mem_singleton] at hp
        subst hp
        exact .inr (.inr ⟨q,rfl,i,by simp,rfl⟩)
theorem xN {t:ah} {n:Nat} {q:Place}:∀ {l pre:List Nat} {Q:List Place},S5 t n Q (some q) pre → (∀ i ∈ l,i ∈ bq t q.1) → (∀ i ∈ l, ∀ k ∈ pre,k < i) → l.Pairwise (· < ·) → S5 t n (l.foldl (fw q) Q) (some q) (pre ++ l) ∧ Q <+: l.foldl (fw q) Q
  | [],pre,Q,h,_,_,_=>by rw [List.append_nil]; exact ⟨h,List.prefix_refl _⟩
  | i :: l,pre,Q,h,h1,h2,h3=>by
    obtain ⟨g1,g2⟩:=CN h (h1 i (by simp)) (h2 i (by simp))
    rw [List.pairwise_cons] at h3
    obtain ⟨g3,g4⟩:=xN (l:=l) g1 (fun k hk=>h1 k (by simp [hk])) (fun k hk j hj=>by
      rcases List.mem_append.1 hj with hj | hj
      · exact h2 k (by simp [hk]) j hj
      · rw [List.mem_singleton] at hj; subst hj; exact h3.1 k hk) h3.2
    rw [List.append_assoc] at g3
    exact ⟨g3,g2.trans g4⟩
theorem xg (t:ah) (s:Nat):(bq t s).Pairwise (· < ·):=List.Pairwise.filter _ List.pairwise_lt_range
theorem uK {t:ah} {n:Nat} {Q:List Place} {q:Place} (h:S5 t n Q none []) (hq:Q[n]? = some q):S5 t (n + 1) (ji t Q q) none [] ∧ Q <+: ji t Q q:=by
  have h0:S5 t n Q (some q) []:=⟨h.root,h.go,h.sorted,h.nodup,h.closed,fun x e=>by cases e; exact ⟨hq,fun i hi=>absurd hi (by simp)⟩,fun p hp=>by
    rcases h.from_ p hp with e | e | ⟨x,h1,_⟩
    · exact .inl e
    · exact .inr (.inl e)
    · cases h1⟩
  obtain ⟨g,g2⟩:=xN (l:=bq t q.1) h0 (fun i hi=>hi) (fun _ _ k hk=>absurd hk (by simp)) (xg t q.1)
  rw [List.nil_append] at g
  refine ⟨⟨g.root,g.go,g.sorted,g.nodup, ?_,fun x e=>(by cases e), ?_⟩,g2⟩
  · intro j x hj hx i hi
    rcases Nat.lt_or_ge j n with h1 | h1
    · exact g.closed j x h1 hx i hi
    · have:j = n:=by omega
      subst this
      have hx':=(g.closedq q rfl).1
      have:x = q:=by
        have:=hx.symm.trans hx'
        cases this; rfl
      subst this
      exact ((g.closedq x rfl).2 i hi).2
  · intro p hp
    rcases g.from_ p hp with e | ⟨j,x,k,h1,h2,e⟩ | ⟨x,h1,k,h2,e⟩
    · exact .inl e
    · exact .inr (.inl ⟨j,x,k,by omega,h2,e⟩)
    · cases h1
      exact .inr (.inl ⟨n,q,k,by omega,(g.closedq q rfl).1,e⟩)
theorem xA (t:ah):S5 t 0 [(aP t,[])] none []:=⟨rfl,fun p hp=>by rw [List.mem_singleton] at hp; subst hp; rfl,List.pairwise_singleton _ _,List.pairwise_singleton _ _,fun _ _ h=>absurd h (by omega),fun _ e=>by (cases e),fun p hp=>by rw [List.mem_singleton] at hp; subst hp; exact .inl rfl⟩
def o8 (t:ah):Nat → Nat → List Place → List Place
  | 0,_,Q=>Q
  | k + 1,n,Q=>match Q[n]? with
    | some q=>o8 t k (n + 1) (ji t Q q)
    | none=>Q
def hG (t:ah):List Place:=o8 t 129 0 [(aP t,[])]
theorem uU:∀ {l m:List Nat},l.Nodup → (∀ x ∈ l,x ∈ m) → l.length ≤ m.length
  | [],_,_,_=>by simp
  | x :: r,m,h,hs=>by
    rw [List.nodup_cons] at h
    have hx:=hs x (by simp)
    have:=uU (l:=r) (m:=m.erase x) h.2 (fun y hy=>(List.mem_erase_of_ne (fun e=>h.1 (by rw [← e]; exact hy))).2 (hs y (by simp [hy])))
    rw [List.length_erase_of_mem hx] at this
    have:=List.length_pos_of_mem hx
    rw [List.length_cons]; omega
theorem xb {l:List Nat} {n:Nat} (h:l.Nodup) (hb:∀ x ∈ l,x < n):l.length ≤ n:=by
  have:=uU (m:=List.range n) h (fun x hx=>List.mem_range.2 (hb x hx))
  simpa using this
theorem vS {t:ah} (hf:t.Fit) {n:Nat} {Q:List Place} {q:Option Place} {pre:List Nat} (h:S5 t n Q q pre):Q.length ≤ 128:=by
  have:=xb (l:=Q.map (·.1)) (n:=128) (by rw [List.Nodup,List.pairwise_map]; exact h.nodup) (fun x hx=>by
    obtain ⟨p,hp,rfl⟩:=List.mem_map.1 hx
    exact (iQ hf (bU hf) (h.go p hp)).1)
  simpa using this
theorem tv {t:ah} (hf:t.Fit):∀ {k n:Nat} {Q:List Place},S5 t n Q none [] → n ≤ Q.length → 128 < n + k → S5 t (o8 t k n Q).length (o8 t k n Q) none [] ∧ Q <+: o8 t k n Q
  | 0,n,Q,h,hn,hk=>by
    have:=vS hf h
    exfalso; omega
  | k + 1,n,Q,h,hn,hk=>by
    rw [o8]
    cases hq:Q[n]? with
    | none=>
      have:n = Q.length:=by have:=List.getElem?_eq_none_iff.1 hq; omega
      subst this
      exact ⟨h,List.prefix_refl _⟩
    | some q=>
      obtain ⟨g1,g2⟩:=uK h hq
      have:=vS hf h
      have hlt:=(List.getElem?_eq_some_iff.1 hq).1
      obtain ⟨g3,g4⟩:=tv hf (k:=k) g1 (by have:=g2.length_le; omega) (by omega)
      exact ⟨g3,g2.trans g4⟩
theorem kX {t:ah} (hf:t.Fit):S5 t (hG t).length (hG t) none []:=(tv hf (xA t) (by simp) (by omega)).1
theorem vM {t:ah} {Q:List Place} (h:S5 t Q.length Q none []):∀ (n:Nat) (l:List Nat) (s:Nat),l.length = n → goT t l (aP t) = some s → ∃ p ∈ Q,p.1 = s ∧ slE p.2 l
  | 0,l,s,hn,hl=>by
    rw [List.length_eq_zero_iff] at hn
    subst hn
    cases hl
    exact ⟨_,List.mem_of_getElem? h.root,rfl, .inl rfl⟩
  | n + 1,l,s,hn,hl=>by
    obtain ⟨r,i,rfl⟩:∃ r i,l = r ++ [i]:=⟨l.dropLast,l.getLast (by intro e; subst e; cases hn),(List.dropLast_concat_getLast _).symm⟩
    rw [fS] at hl
    obtain ⟨s',h1,h2⟩:=Option.bind_eq_some_iff.1 hl
    obtain ⟨p,hp,rfl,h3⟩:=vM h n r s' (by simpa using hn) h1
    rw [goT] at h2
    split at h2
    · rename_i h4
      cases h2
      obtain ⟨j,hj,e⟩:=List.mem_iff_getElem.1 hp
      obtain ⟨p',g1,g2,g3⟩:=h.closed j p hj (by rw [List.getElem?_eq_getElem hj,e]) i (bg.2 h4)
      exact ⟨p',g1,g2,uI g3 (xc h3)⟩
    · cases h2
set_option maxRecDepth 100000
set_option maxHeartbeats 1000000
def yR (q:Place):ab:=.agg [nn' q.1, .slice 1 (q.2.map nn')]
structure je (Q:List Place) (N:List (Nat × Int)) (bound:Int):Prop where
  none_:∀ k,dS k N = none ↔ ∀ q ∈ Q,q.1 ≠ k
  some_:∀ k v,dS k N = some v → 1 ≤ v ∧ v ≤ bound
theorem BR (a:Nat):je [(a,[])] (gr a 1 []) 1:=by
  refine ⟨fun k=>?_,fun k v h=>?_⟩
  · simp [gr,dS]
  · simp [gr,dS] at h
    omega
theorem Bg {Q:List Place} {N:List (Nat × Int)} {bound:Int} (h:je Q N bound) (hb:1 ≤ bound) (q:Place) (i:Nat) :
    je (fw q Q i) (gr (aK q.1 i) ((dS (aK q.1 i) N).getD 0 + 1) N) (bound + 1) ∧ (dS (aK q.1 i) N = none → fw q Q i = Q ++ [(aK q.1 i,q.2 ++ [i])]) ∧ (∀ v,dS (aK q.1 i) N = some v → 1 ≤ v ∧ v ≤ bound ∧ fw q Q i = Q):=by
  have h1:dS (aK q.1 i) N = none → fw q Q i = Q ++ [(aK q.1 i,q.2 ++ [i])]:=fun e=>by
    have:=(h.none_ _).1 e
    unfold fw
    rw [if_neg]
    intro ha
    obtain ⟨p,hp,e2⟩:=List.any_eq_true.1 ha
    exact this p hp (by simpa using e2)
  have h2:∀ v,dS (aK q.1 i) N = some v → 1 ≤ v ∧ v ≤ bound ∧ fw q Q i = Q:=fun v e=>by
    obtain ⟨g1,g2⟩:=h.some_ _ v e
    refine ⟨g1,g2, ?_⟩
    unfold fw
    rw [if_pos]
    apply Classical.byContradiction
    intro hn
    have:dS (aK q.1 i) N = none:=(h.none_ _).2 fun p hp e3=>hn (List.any_eq_true.2 ⟨p,hp,by simpa using e3⟩)
    rw [this] at e; cases e
  refine ⟨⟨fun k=>?_,fun k v hv=>?_⟩,h1,h2⟩
  · rw [fb]
    by_cases hk:aK q.1 i = k
    · rw [if_pos hk]
      constructor
      · intro e; cases e
      · intro hall
        exfalso
        cases hg:dS (aK q.1 i) N with
        | none=>
          rw [h1 hg] at hall
          exact hall _ (List.mem_append.2 (.inr (List.mem_singleton.2 rfl))) hk
        | some v=>
          rw [(h2 v hg).2.2] at hall
          have:=(h.none_ k).2 hall
          rw [← hk,hg] at this; cases this
    · rw [if_neg hk,h.none_]
      cases hg:dS (aK q.1 i) N with
      | none=>
        rw [h1 hg]
        constructor
        · intro hall p hp
          rcases List.mem_append.1 hp with hp | hp
          · exact hall p hp
          · rw [List.mem_singleton] at hp; subst hp; exact hk
        · intro hall p hp
          exact hall p (List.mem_append.2 (.inl hp))
      | some v=>rw [(h2 v hg).2.2]
  · rw [fb] at hv
    split at hv
    · cases hg:dS (aK q.1 i) N with
      | none=>rw [hg] at hv; simp at hv; omega
      | some w=>
        obtain ⟨g1,g2,_⟩:=h2 w hg
        rw [hg] at hv; simp at hv; omega
    · obtain ⟨g1,g2⟩:=h.some_ k v hv
      omega
def eo (t:ah) (Q:List Place) (q:Place) (i:Nat):List Place:=(dH t q.1 i).foldl (fw q) Q
theorem gv (t:ah) (Q:List Place) (q:Place) (i:Nat):eo t Q q (i + 1) = if bD t q.1 i = 0 then fw q (eo t Q q i) i else eo t Q q i:=by
  unfold eo
  rw [cy]
  split
  · rw [List.foldl_append]; rfl
  · rw [List.append_nil]
theorem yV {t:ah} (hf:t.Fit) (Q:List Place) {q:Place} (hs:Sub t q.1):eo t Q q 7 = ji t Q q:=by
  unfold eo ji; rw [ir hf hs]
theorem yC (q:Place) (Q:List Place) (i:Nat):Q <+: fw q Q i:=by
  unfold fw
  split
  · exact List.prefix_refl _
  · exact List.prefix_append _ _
theorem js (t:ah) (Q:List Place) (q:Place):∀ i,Q <+: eo t Q q i
  | 0=>List.prefix_refl _
  | i + 1=>by
    rw [gv]
    split
    · exact (js t Q q i).trans (yC _ _ _)
    · exact js t Q q i
set_option maxRecDepth 100000
theorem fX (xs:List ab) (hf:Fits 1 xs) (hl:xs.length * 8 ≤ 140737488355328) (σ:af) :
    Spec Tryz.prog Iw [.slice 1 xs] σ fun r σ'=>r = .ret (.oslice 1 xs σ.length 1) ∧ σ' = σ ++ [.spare 1 1]:=by
  refine PR (by simp) (dm _ ?_)
  simp [LY,hf,hl]
end Go.AM
