/- CutBads: what the law's call returns. Awake of chapter 06, by contracts. Awake of chapter 06, by contracts. What a shaped input looks like, type by type. The inputs of chapter 06's laws: a task, .. -/
import Derived.Test.YtmjfcbpgnmajpaaGreatDoorP22
import Derived.Test.YtmjfcbpgnmajpaaGreatDoorP19
import Derived.Test.YtmjfcbpgnmajpaaGreatDoorP24
import Derived.Test.YtmjfcbpgnmajpaaGreatDoorP13
import Derived.Test.YtmjfcbpgnmajpaaGreatDoorP16
namespace Go.AM
open Go.Proofs
set_option maxRecDepth 100000
set_option maxHeartbeats 1000000
theorem cG (l:List Int) (hl:l.length ≤ maxLen) (σ:af):Spec Tryz.prog E9 [.slice 1 (l.map ii'), .slice 1 (l.map ii')] σ fun r σ'=>r = .ret (.bool true) ∧ σ' = σ:=by
  refine Spec.ay (QF (by simp) (dm _ ?_)) (by simp [av (f:=ii') (fun _=>rfl) l]) rfl σ
  simp [Kj]
  refine AW.loop (ι:=Nat) (fun i fr σ=>fr = { v:=[(0, .slice 1 (l.map ii')),(1, .slice 1 (l.map ii')),(5, .bool true),(6, .int .i64 i)],ds:=[] } ∧ i ≤ l.length) (fun i=>l.length - i) 0 (by simp) ?_
  rintro i fr σ ⟨rfl,hi⟩
  refine (Nat.lt_or_ge i l.length).elim (fun hlt=>?_) (fun hge=>?_)
  · obtain ⟨x,hx⟩:∃ x,l[i] = x:=⟨_,rfl⟩
    refine dm _ ?_
    simp [hlt,hx]
    exact ⟨i + 1,by omega,an (by omega) (by simp only [maxLen] at hl; omega),by omega⟩
  · have hnl:¬ i < l.length:=by omega
    refine dm _ ?_
    simp [hnl]
set_option maxRecDepth 100000
set_option maxHeartbeats 1000000
abbrev Bn (l:List Int) (e:Int):ab:=.tup [.slice 1 (l.map ii'),ii' e]
theorem gI {l:List Int} (h:l.length ≤ 3):l.length ≤ maxLen:=by unfold maxLen; omega
theorem wq (σ:af):Spec Tryz.prog BG [(exT false false).v, .slice 1 [ii' 0,ii' 1]] σ fun r σ'=>r = .ret (.tup [ii' 1,ii' 4,ii' 0]) ∧ σ' = σ:=by
  have h:=hU _ (tI false false) [0,1] (gI (by decide)) σ
  rw [Ix] at h; exact h
theorem wF (σ:af):Spec Tryz.prog BG [(exT false true).v, .slice 1 [ii' 0,ii' 2]] σ fun r σ'=>r = .ret (.tup [ii' 1,ii' 3,ii' 0]) ∧ σ' = σ:=by
  have h:=hU _ (tI false true) [0,2] (gI (by decide)) σ
  rw [IV] at h; exact h
theorem zI (σ:af):Spec Tryz.prog Em [(exT false false).v, .slice 1 []] σ fun r σ'=>r = .ret (Bn [0,1] 0) ∧ σ' = σ:=by
  have h:=oE _ (tI false false) [] (gI (by decide)) σ
  unfold zp at h
  rw [Ag.1,Ag.2.1] at h; exact h
theorem yh (σ:af):Spec Tryz.prog Ef [(exT false false).v, .slice 1 []] σ fun r σ'=>r = .ret (Bn [0] 0) ∧ σ' = σ:=by
  have h:=jq _ (tI false false) [] (gI (by decide)) σ
  unfold qc at h
  rw [Ag.1,Ag.2.2] at h; exact h
theorem vQ (σ:af):Spec Tryz.prog Db [(exT false false).v] σ fun r σ'=>r = .ret (Bn [0,2,1] 0) ∧ σ' = σ:=by
  have h:=fj _ (tI false false) σ
  rw [AG.1,AG.2] at h; exact h
theorem yl (σ:af):Spec Tryz.prog EL [(exT true false).v] σ fun r σ'=>r = .ret (Bn [1] 0) ∧ σ' = σ:=by
  have h:=mq _ (tI true false) σ
  rw [yI.2.1,yI.2.2] at h; exact h
theorem BP (σ:af):Spec Tryz.prog EB [(exT false false).v,ii' 2] σ fun r σ'=>r = .ret (Bn [0,2] 0) ∧ σ' = σ:=by
  have h:=qb _ (tI false false) 2 σ
  rw [Lm.1,Lm.2] at h; exact h
theorem vz (σ:af):Spec Tryz.prog EM [(exT false true).v] σ fun r σ'=>r = .ret (Bn [5,6,7] 0) ∧ σ' = σ:=by
  have h:=sm _ (tI false true) (fun _=>vZ.2.2) σ
  rw [vZ.1,vZ.2.1] at h; exact h
theorem wR (σ:af):Spec Tryz.prog D4 [(exT false true).v, .slice 1 [ii' 7,ii' 6,ii' 5]] σ fun r σ'=>r = .ret (.tup [.bool true,ii' 0]) ∧ σ' = σ:=by
  have h:=kz _ (tI false true) [7,6,5] (gI (by decide)) σ
  rw [nA.1,nA.2.1] at h; exact h
theorem xJ (σ:af):Spec Tryz.prog D4 [(exT false true).v, .slice 1 [ii' 7,ii' 6]] σ fun r σ'=>r = .ret (.tup [.bool false,ii' 0]) ∧ σ' = σ:=by
  have h:=kz _ (tI false true) [7,6] (gI (by decide)) σ
  rw [nA.2.2.1,nA.2.2.2] at h; exact h
set_option maxRecDepth 100000
set_option maxHeartbeats 1000000
theorem fW {P:Program} {o:aJ} {r:List aJ} {fr:Fr} {σ:af} {K:Fr → af → Prop} {Kp:ab → Fr → af → Prop} (hg:o.g = none) (hq:o.i.quiet = true) (hs:gO fr.v σ o.i) (h:aU P r (fr.put o.d (jf fr.v σ o.i)) σ K Kp):aU P (o :: r) fr σ K Kp:=by
  rw [aU,hg]
  show mQ _ _ _ _ _ _
  unfold mQ
  rw [if_pos hq]
  exact ⟨hs,h⟩
theorem gg {P:Program} {o:aJ} {r:List aJ} {fr:Fr} {σ:af} {K:Fr → af → Prop} {Kp:ab → Fr → af → Prop} {gd:Nat × Bool} {g:Bool} (hg:o.g = some gd) (hc:fz fr.v gd = some g) (hq:o.i.quiet = true) (hs:g = true → gO fr.v σ o.i) (h:aU P r (fr.put o.d (.opt g (jf fr.v σ o.i))) σ K Kp):aU P (o :: r) fr σ K Kp:=by
  rw [aU,hg]
  show match fz fr.v gd with | none=>False | some g=>_
  rw [hc]
  show ite _ _ _
  rw [if_pos hq]
  exact ⟨hs,h⟩
theorem dg {P:Program} {o:aJ} {r:List aJ} {fr:Fr} {σ:af} {K:Fr → af → Prop} {Kp:ab → Fr → af → Prop} {gd:Nat × Bool} (hg:o.g = some gd) (hc:fz fr.v gd = some true) (hq:o.i.quiet = false) (h:mQ P o.i fr.v σ (fun v σ'=>aU P r (fr.put o.d v) σ' K Kp) (fun v σ'=>Kp v fr σ')):aU P (o :: r) fr σ K Kp:=by
  rw [aU,hg]
  show match fz fr.v gd with | none=>False | some g=>_
  rw [hc]
  show ite _ _ _
  rw [if_neg (by rw [hq]; simp)]
  exact ⟨fun _=>h,fun h=>by cases h⟩
theorem fG (σ:af):Spec Tryz.prog Uu [] σ fun r σ'=>r = .ret (.bool true) ∧ σ' = σ:=by
  refine Spec.ay (SM (by simp) (dm _ ?_)) rfl rfl σ
  obtain ⟨w9,hw9⟩:∃ w9, ∀ σ,Spec Tryz.prog Db [(exT true false).v] σ fun r σ'=>r = .ret (.tup [.slice 1 (List.map nn' w9),ii' 9]) ∧ σ' = σ:=⟨fl (exT true false),fun σ=>by have h:=fj _ (tI true false) σ; rw [yI.1] at h; exact h⟩
  simp [Nv]
  refine aj.pure IQ (jm false false _) ?_
  simp
  refine aj.pure IQ (jm true false _) ?_
  simp
  refine aj.pure IQ (jm false true _) ?_
  simp [ah.v,ah.cells]
  refine aj.pure wW (wq _) ?_
  simp [ah.v,ah.cells]
  refine aj.pure wW (wF _) ?_
  simp [ah.v,ah.cells]
  refine aj.pure zB (zI _) ?_
  simp [ah.v,ah.cells]
  refine aj.pure yX (yh _) ?_
  simp [ah.v,ah.cells]
  refine aj.pure zi (vQ _) ?_
  simp [ah.v,ah.cells]
  refine aj.pure zi (hw9 _) ?_
  simp [ah.v,ah.cells]
  refine aj.pure HU (yl _) ?_
  simp [ah.v,ah.cells]
  refine aj.pure Ih (BP _) ?_
  simp [ah.v,ah.cells]
  refine aj.pure Qv (vz _) ?_
  simp [ah.v,ah.cells]
  refine aj.pure K1 (wR _) ?_
  simp [ah.v,ah.cells]
  refine aj.pure K1 (xJ _) ?_
  simp [-aU]
  iterate 5 ((first | refine fW rfl rfl (by simp) ?_ | refine gg (g:=true) rfl (by simp) rfl (by simp) ?_); simp [-aU])
  rw [aU]
  simp [-aU]
  repeat ((first | refine fW rfl rfl (by simp) ?_ | refine gg (g:=true) rfl (by simp) rfl (by simp) ?_); simp [-aU])
  refine dg rfl (by simp) rfl ?_
  simp [-aU]
  refine dg rfl (by simp) rfl ?_
  simp [-aU]
  refine aj.pure zG (cG [0,1] (gI (by decide)) _) ?_
  simp [-aU]
  repeat ((first | refine fW rfl rfl (by simp) ?_ | refine gg (g:=true) rfl (by simp) rfl (by simp) ?_); simp [-aU])
  refine dg rfl (by simp) rfl ?_
  simp [-aU]
  refine dg rfl (by simp) rfl ?_
  simp [-aU]
  refine aj.pure zG (cG [0] (gI (by decide)) _) ?_
  simp [-aU]
  repeat ((first | refine fW rfl rfl (by simp) ?_ | refine gg (g:=true) rfl (by simp) rfl (by simp) ?_); simp [-aU])
  refine dg rfl (by simp) rfl ?_
  simp [-aU]
  refine dg rfl (by simp) rfl ?_
  simp [-aU]
  refine aj.pure zG (cG [0,2,1] (gI (by decide)) _) ?_
  simp [-aU]
  repeat ((first | refine fW rfl rfl (by simp) ?_ | refine gg (g:=true) rfl (by simp) rfl (by simp) ?_); simp [-aU])
  refine dg rfl (by simp) rfl ?_
  simp [-aU]
  refine dg rfl (by simp) rfl ?_
  simp [-aU]
  refine aj.pure zG (cG [1] (gI (by decide)) _) ?_
  simp [-aU]
  repeat ((first | refine fW rfl rfl (by simp) ?_ | refine gg (g:=true) rfl (by simp) rfl (by simp) ?_); simp [-aU])
  refine dg rfl (by simp) rfl ?_
  simp [-aU]
  refine dg rfl (by simp) rfl ?_
  simp [-aU]
  refine aj.pure zG (cG [0,2] (gI (by decide)) _) ?_
  simp [-aU]
  repeat ((first | refine fW rfl rfl (by simp) ?_ | refine gg (g:=true) rfl (by simp) rfl (by simp) ?_); simp [-aU])
  refine dg rfl (by simp) rfl ?_
  simp [-aU]
  refine dg rfl (by simp) rfl ?_
  simp [-aU]
  refine aj.pure zG (cG [5,6,7] (gI (by decide)) _) ?_
  simp [-aU]
  repeat ((first | refine fW rfl rfl (by simp) ?_ | refine gg (g:=true) rfl (by simp) rfl (by simp) ?_); simp [-aU])
  rw [aU]
  simp
open Go.RowKit
def nB (P:Program) (t:TypeId):Option (List TypeId):=
  match P.underlying t with
  | some (.struct fs)=>some (fs.toList.map (·.type))
  | _=>none
def sF (P:Program) (t:TypeId):Option IntKind:=
  match P.underlying t with
  | some (.int q)=>some q
  | _=>none
def DW (P:Program) (t:TypeId):Bool:=
  match P.underlying t with
  | some .string=>true
  | _=>false
def qQ (P:Program) (t:TypeId):Option (TypeId × Nat × Bool):=
  match P.underlying t with
  | some (.slice e)=>some (e,P.cellsOf e,match ee (P.underlying e) with
    | some true=>true
    | _=>false)
  | _=>none
def tC (g:TypeId → List ab → Prop):List TypeId → List ab → Prop
  | [],az=>az = []
  | t :: r,az=>∃ a b,az = a ++ b ∧ g t a ∧ tC g r b
theorem qL {g:TypeId → List ab → Prop}:∀ {fs:List Field} {az:List ab},od g fs az → tC g (fs.map (·.type)) az
  | [],_,h=>h
  | _ :: _,_,⟨a,b,h1,h2,h3⟩=>⟨a,b,h1,h2,qL h3⟩
theorem Shaped.fs {P:Program} {k:Nat} {t:TypeId} {az:List ab} {ts:List TypeId} (h:Shaped P (k + 1) t az) (hu:nB P t = some ts):tC (Shaped P k) ts az:=by
  simp only [Shaped] at h
  unfold nB at hu
  split at hu
  · rename_i fs he
    rw [he] at h
    simp only [Option.some.injEq] at hu
    subst hu
    exact qL h
  · cases hu
theorem Shaped.int {P:Program} {k:Nat} {t:TypeId} {az:List ab} {q:IntKind} (h:Shaped P (k + 1) t az) (hu:sF P t = some q):∃ n,az = [.int q n] ∧ q.min ≤ n ∧ n ≤ q.max:=by
  simp only [Shaped] at h
  unfold sF at hu
  split at hu
  · rename_i q' he
    rw [he] at h
    simp only [Option.some.injEq] at hu
    subst hu
    exact h
  · cases hu
theorem Shaped.str {P:Program} {k:Nat} {t:TypeId} {az:List ab} (h:Shaped P (k + 1) t az) (hu:DW P t = true):∃ x,az = [.str x] ∧ x.size ≤ maxLen:=by
  simp only [Shaped] at h
  unfold DW at hu
  split at hu
  · rename_i he
    rw [he] at h
    exact h
  · cases hu
theorem Shaped.sl {P:Program} {k:Nat} {t e:TypeId} {c:Nat} {g:Bool} {az:List ab} (h:Shaped P (k + 1) t az) (hu:qQ P t = some (e,c,g)) :
    ∃ xs,az = [.slice c xs] ∧ xs.length ≤ maxLen ∧ ∀ x ∈ xs, ∃ cs,Shaped P k e cs ∧ x = if g then .agg cs else cs.getD 0 .undef:=by
  simp only [Shaped] at h
  unfold qQ at hu
  split at hu
  · rename_i e' he
    rw [he] at h
    simp only [Option.some.injEq,Prod.mk.injEq] at hu
    obtain ⟨rfl,rfl,rfl⟩:=hu
    obtain ⟨xs,h1,h2,h3⟩:=h
    refine ⟨xs,h1,h2,fun x hx=>?_⟩
    obtain ⟨cs,g1,g2⟩:=h3 x hx
    refine ⟨cs,g1,g2.trans ?_⟩
    unfold jO
    split <;> rename_i hh <;> simp [hh]
  · cases hu
theorem fg {α:Type} {f:α → ab} {p:α → Prop}:∀ {xs:List ab},(∀ x ∈ xs, ∃ a,x = f a ∧ p a) → ∃ l:List α,xs = l.map f ∧ ∀ a ∈ l,p a
  | [],_=>⟨[],rfl,by simp⟩
  | x :: r,h=>by
    obtain ⟨a,rfl,ha⟩:=h x (by simp)
    obtain ⟨l,rfl,hl⟩:=fg (xs:=r) fun y hy=>h y (by simp [hy])
    exact ⟨a :: l,rfl,fun b hb=>by
      rcases List.mem_cons.1 hb with rfl | hb
      · exact ha
      · exact hl b hb⟩
open Go.Proofs Go.RowKit
set_option maxRecDepth 100000
set_option maxHeartbeats 1000000
theorem bJ {t:Nat} {us:List ab} {k:Nat} (h:Shaped Tryz.prog (k + 1) t us) (hu:sF Tryz.prog t = some .i64):∃ n,us = [ii' n]:=by
  obtain ⟨n,h1,_⟩:=h.int hu
  exact ⟨n,h1⟩
def yK (P:Program) (t:TypeId):Bool:=
  match P.underlying t with
  | some .bool=>true
  | _=>false
theorem Shaped.bool {P:Program} {k:Nat} {t:TypeId} {us:List ab} (h:Shaped P (k + 1) t us) (hu:yK P t = true):∃ b,us = [.bool b]:=by
  simp only [Shaped] at h
  unfold yK at hu
  split at hu
  · rename_i he
    rw [he] at h
    exact h
  · cases hu
theorem ty3:sF Tryz.prog 3 = some .i64:=by kernel_rfl
theorem ty4:yK Tryz.prog 4 = true:=by kernel_rfl
theorem ty9:DW Tryz.prog 9 = true:=by kernel_rfl
theorem Qr:nB Tryz.prog 38 = some [24,27,29,33,34,35,36]:=by kernel_rfl
theorem Qj:nB Tryz.prog 24 = some [22]:=by kernel_rfl
theorem QL:qQ Tryz.prog 22 = some (90,7,true):=by kernel_rfl
theorem PB:nB Tryz.prog 90 = some [9,3,3,3,88,29]:=by kernel_rfl
theorem RY:qQ Tryz.prog 88 = some (9,1,false):=by kernel_rfl
theorem Sx:nB Tryz.prog 29 = some [3,3]:=by kernel_rfl
theorem R9:nB Tryz.prog 27 = some [25,3,3]:=by kernel_rfl
theorem RZ:qQ Tryz.prog 25 = some (92,7,true):=by kernel_rfl
theorem Ra:nB Tryz.prog 92 = some [9,3,29,3,29]:=by kernel_rfl
theorem PA:nB Tryz.prog 33 = some [30,31]:=by kernel_rfl
theorem QB:qQ Tryz.prog 30 = some (215,2,true):=by kernel_rfl
theorem Jx:nB Tryz.prog 215 = some [9,4]:=by kernel_rfl
theorem Sn:qQ Tryz.prog 31 = some (217,3,true):=by kernel_rfl
theorem Jk:nB Tryz.prog 217 = some [3,3,4]:=by kernel_rfl
theorem QV:qQ Tryz.prog 34 = some (3,1,false):=by kernel_rfl
theorem Q2:qQ Tryz.prog 35 = some (146,2,true):=by kernel_rfl
theorem MI:nB Tryz.prog 146 = some [3,4]:=by kernel_rfl
theorem PL:qQ Tryz.prog 36 = some (34,1,false):=by kernel_rfl
theorem iT {k:Nat} {us:List ab} (h:Shaped Tryz.prog (k + 2) 29 us):∃ a b,us = [ii' a,ii' b]:=by
  obtain ⟨a,r,rfl,h1,b,r2,rfl,h2,rfl⟩:=h.fs Sx
  obtain ⟨x,rfl⟩:=bJ h1 ty3
  obtain ⟨y,rfl⟩:=bJ h2 ty3
  exact ⟨x,y,rfl⟩
theorem xH {k:Nat} {us:List ab} (h:Shaped Tryz.prog (k + 3) 92 us):∃ p:aq,us = p.cells:=by
  obtain ⟨a,r,rfl,h1,b,r2,rfl,h2,c,r3,rfl,h3,d,r4,rfl,h4,e,r5,rfl,h5,rfl⟩:=h.fs Ra
  obtain ⟨s,rfl,_⟩:=h1.str ty9
  obtain ⟨n1,rfl⟩:=bJ h2 ty3
  obtain ⟨n2,n3,rfl⟩:=iT h3
  obtain ⟨n4,rfl⟩:=bJ h4 ty3
  obtain ⟨n5,n6,rfl⟩:=iT h5
  exact ⟨⟨s,n1,n2,n3,n4,n5,n6⟩,rfl⟩
theorem lu {k:Nat} {us:List ab} (h:Shaped Tryz.prog (k + 2) 34 us):∃ l:List Int,us = [.slice 1 (l.map ii')] ∧ l.length ≤ maxLen:=by
  obtain ⟨xs,rfl,hl,hx⟩:=h.sl QV
  obtain ⟨l,rfl,_⟩:=fg (f:=ii') (p:=fun _=>True) (xs:=xs) fun v hv=>by
    obtain ⟨cs,g1,g2⟩:=hx v hv
    obtain ⟨n,rfl⟩:=bJ g1 ty3
    exact ⟨n,g2,trivial⟩
  exact ⟨l,rfl,by simpa using hl⟩
theorem xG {k:Nat} {us:List ab} (h:Shaped Tryz.prog (k + 2) 88 us):∃ l:List ByteArray,us = [.slice 1 (l.map .str)] ∧ l.length ≤ maxLen:=by
  obtain ⟨xs,rfl,hl,hx⟩:=h.sl RY
  obtain ⟨l,rfl,_⟩:=fg (f:=ab.str) (p:=fun _=>True) (xs:=xs) fun v hv=>by
    obtain ⟨cs,g1,g2⟩:=hx v hv
    obtain ⟨n,rfl,_⟩:=g1.str ty9
    exact ⟨n,g2,trivial⟩
  exact ⟨l,rfl,by simpa using hl⟩
theorem Bf {k:Nat} {us:List ab} (h:Shaped Tryz.prog (k + 3) 90 us):∃ p:HuM,us = p.cells ∧ p.on.length ≤ maxLen:=by
  obtain ⟨a,r,rfl,h1,b,r2,rfl,h2,c,r3,rfl,h3,d,r4,rfl,h4,e,r5,rfl,h5,f,r6,rfl,h6,rfl⟩:=h.fs PB
  obtain ⟨s,rfl,_⟩:=h1.str ty9
  obtain ⟨n1,rfl⟩:=bJ h2 ty3
  obtain ⟨n2,rfl⟩:=bJ h3 ty3
  obtain ⟨n3,rfl⟩:=bJ h4 ty3
  obtain ⟨on,rfl,ho⟩:=xG h5
  obtain ⟨n5,n6,rfl⟩:=iT h6
  exact ⟨⟨s,n1,n2,n3,on,n5,n6⟩,rfl,ho⟩
theorem yA {k:Nat} {us:List ab} (h:Shaped Tryz.prog (k + 2) 215 us):∃ p:aE,us = p.cells:=by
  obtain ⟨a,r,rfl,h1,b,r2,rfl,h2,rfl⟩:=h.fs Jx
  obtain ⟨s,rfl,_⟩:=h1.str ty9
  obtain ⟨b,rfl⟩:=h2.bool ty4
  exact ⟨⟨s,b⟩,rfl⟩
theorem wY {k:Nat} {us:List ab} (h:Shaped Tryz.prog (k + 2) 217 us):∃ p:aG,us = p.cells:=by
  obtain ⟨a,r,rfl,h1,b,r2,rfl,h2,c,r3,rfl,h3,rfl⟩:=h.fs Jk
  obtain ⟨n1,rfl⟩:=bJ h1 ty3
  obtain ⟨n2,rfl⟩:=bJ h2 ty3
  obtain ⟨b,rfl⟩:=h3.bool ty4
  exact ⟨⟨n1,n2,b⟩,rfl⟩
theorem wv {k:Nat} {us:List ab} (h:Shaped Tryz.prog (k + 2) 146 us):∃ p:a7,us = p.cells:=by
  obtain ⟨a,r,rfl,h1,b,r2,rfl,h2,rfl⟩:=h.fs MI
  obtain ⟨n1,rfl⟩:=bJ h1 ty3
  obtain ⟨b,rfl⟩:=h2.bool ty4
  exact ⟨⟨n1,b⟩,rfl⟩
theorem eN {k:Nat} {us:List ab} (h:Shaped Tryz.prog (k + 6) 38 us):∃ t:ah,us = t.cells ∧ t.Ok:=by
  obtain ⟨a,r,rfl,h1,b,r2,rfl,h2,c,r3,rfl,h3,d,r4,rfl,h4,e,r5,rfl,h5,f,r6,rfl,h6,g,r7,rfl,h7,rfl⟩:=h.fs Qr
  obtain ⟨a1,r1,rfl,g1,rfl⟩:=h1.fs Qj
  obtain ⟨xs,rfl,hxl,hx⟩:=g1.sl QL
  obtain ⟨ar,rfl,hon⟩:=fg (f:=HuM.v) (p:=fun p=>p.on.length ≤ maxLen) (xs:=xs) fun v hv=>by
    obtain ⟨cs,q1,q2⟩:=hx v hv
    obtain ⟨p,rfl,q3⟩:=Bf q1
    exact ⟨p,q2,q3⟩
  obtain ⟨b1,r8,rfl,g2,b2,r9,rfl,g3,b3,r10,rfl,g4,rfl⟩:=h2.fs R9
  obtain ⟨ys,rfl,hyl,hy⟩:=g2.sl RZ
  obtain ⟨ps,rfl,_⟩:=fg (f:=aq.v) (p:=fun _=>True) (xs:=ys) fun v hv=>by
    obtain ⟨cs,q1,q2⟩:=hy v hv
    obtain ⟨p,rfl⟩:=xH q1
    exact ⟨p,q2,trivial⟩
  obtain ⟨aft,rfl⟩:=bJ g3 ty3
  obtain ⟨fore,rfl⟩:=bJ g4 ty3
  obtain ⟨lo,hi,rfl⟩:=iT h3
  obtain ⟨d1,r11,rfl,g5,d2,r12,rfl,g6,rfl⟩:=h4.fs PA
  obtain ⟨zs,rfl,hzl,hz⟩:=g5.sl QB
  obtain ⟨tanks,rfl,_⟩:=fg (f:=aE.v) (p:=fun _=>True) (xs:=zs) fun v hv=>by
    obtain ⟨cs,q1,q2⟩:=hz v hv
    obtain ⟨p,rfl⟩:=yA q1
    exact ⟨p,q2,trivial⟩
  obtain ⟨ws,rfl,hwl,hw⟩:=g6.sl Sn
  obtain ⟨pipes,rfl,_⟩:=fg (f:=aG.v) (p:=fun _=>True) (xs:=ws) fun v hv=>by
    obtain ⟨cs,q1,q2⟩:=hw v hv
    obtain ⟨p,rfl⟩:=wY q1
    exact ⟨p,q2,trivial⟩
  obtain ⟨blanks,rfl,hbl⟩:=lu h5
  obtain ⟨ss,rfl,hsl,hs⟩:=h6.sl Q2
  obtain ⟨steps,rfl,_⟩:=fg (f:=a7.v) (p:=fun _=>True) (xs:=ss) fun v hv=>by
    obtain ⟨cs,q1,q2⟩:=hs v hv
    obtain ⟨p,rfl⟩:=wv q1
    exact ⟨p,q2,trivial⟩
  obtain ⟨ts,rfl,htl,ht⟩:=h7.sl PL
  obtain ⟨lists,rfl,hll⟩:=fg (f:=cj) (p:=fun l=>l.length ≤ maxLen) (xs:=ts) fun v hv=>by
    obtain ⟨cs,q1,q2⟩:=ht v hv
    obtain ⟨l,rfl,q3⟩:=lu q1
    exact ⟨l,q2,q3⟩
  refine ⟨⟨ar,⟨ps,aft,fore⟩,lo,hi,⟨tanks,pipes⟩,blanks,steps,lists⟩,rfl,⟨by simpa using hxl,hon⟩,by simpa using hyl,by simpa using hzl,by simpa using hwl,hbl,by simpa using hsl,by simpa using htl,hll⟩
end Go.AM
namespace Go.Proofs.YtmjfcbpgnmajpaaGreatDoor
open Go.ChangeShapes Go.WideShapes Go.ChangeAt Go.RowKit Go.AM
def isAgg (P:Program) (n:TypeId):Bool:=match ee (P.underlying n) with
  | some true=>true
  | _=>false
theorem ot (n:Nat) (us:List ab) (h:isAgg Tryz.prog n = true):jO (ee (Tryz.prog.underlying n)) us = .agg us:=by
  unfold isAgg at h
  unfold jO
  split at h
  · rename_i e; rw [e]
  · cases h
theorem uo (n:Nat) (v:ab) (h:isAgg Tryz.prog n = false):jO (ee (Tryz.prog.underlying n)) [v] = v:=by
  unfold isAgg at h
  unfold jO
  split at h
  · cases h
  · rename_i hn
    split
    · rename_i e; exact absurd e hn
    · rfl
def CD (P:Program) (k:Nat):List TypeId → Bool
  | []=>true
  | t :: r=>cN P k t && P.readableRec t && decide (t < P.types.size) && CD P k r
theorem eG {P:Program} {k:Nat}:∀ {l:List TypeId},CD P k l = true → ∀ t ∈ l,cN P k t = true ∧ P.readableRec t = true ∧ t < P.types.size
  | t :: r,h,x,hx=>by
    simp only [CD,Bool.and_eq_true,decide_eq_true_eq] at h
    rcases List.mem_cons.1 hx with rfl | hx
    · exact ⟨h.1.1.1,h.1.1.2,h.1.2⟩
    · exact eG h.2 x hx
end Go.Proofs.YtmjfcbpgnmajpaaGreatDoor
namespace Go.AM
open Go.Proofs
set_option maxRecDepth 100000
set_option maxHeartbeats 1000000
abbrev gd (l:List Int) (i:Nat):Int:=l.getD i 0
def sw (D:List Int) (i j:Nat):List Int:=(D.set i (gd D j)).set j (gd D i)
theorem Ti {l:List Int} {i:Nat} (h:i < l.length):l[i] = gd l i:=by simp [gd,h]
theorem UZ (D:List Int) (i j:Nat):(sw D i j).length = D.length:=by simp [sw]
theorem eb {D:List Int} {i j:Nat} (hi:i < D.length) (hj:j < D.length) (k:Nat):gd (sw D i j) k = if k = j then gd D i else if k = i then gd D j else gd D k:=by
  simp only [gd,sw,List.getD_eq_getElem?_getD]
  by_cases h1:k = j
  · subst h1
    rw [List.getElem?_set_self (by simpa using hj),if_pos rfl]; rfl
  · rw [List.getElem?_set_ne (fun e=>h1 e.symm),if_neg h1]
    by_cases h2:k = i
    · subst h2
      rw [List.getElem?_set_self hi,if_pos rfl]; rfl
    · rw [List.getElem?_set_ne (fun e=>h2 e.symm),if_neg h2]
theorem UC {D:List Int} {i j:Nat} (hi:i < D.length) (hj:j < D.length):(sw D i j).Perm D:=by
  have:((D.set i D[j]).set j D[i]).Perm D:=List.set_set_perm hi hj
  simpa [sw,gd,hi,hj] using this
structure Mix (a c:Nat) (l l':List Int):Prop where
  perm:l'.Perm l
  out:∀ k,k < a ∨ c ≤ k → gd l' k = gd l k
theorem Mix.len {a c:Nat} {l l':List Int} (h:Mix a c l l'):l'.length = l.length:=h.perm.length_eq
theorem Mix.refl (a c:Nat) (l:List Int):Mix a c l l:=⟨.refl _,fun _ _=>rfl⟩
theorem Mix.trans {a c:Nat} {l l' l'':List Int} (h:Mix a c l l') (h':Mix a c l' l''):Mix a c l l'':=⟨h'.perm.trans h.perm,fun k hk=>(h'.out k hk).trans (h.out k hk)⟩
theorem Mix.mono {a c a' c':Nat} {l l':List Int} (h:Mix a c l l') (h1:a' ≤ a) (h2:c ≤ c'):Mix a' c' l l':=⟨h.perm,fun k hk=>h.out k (by omega)⟩
theorem Mix.sw {a c i j:Nat} {l:List Int} (hi:a ≤ i ∧ i < c) (hj:a ≤ j ∧ j < c) (hc:c ≤ l.length):Mix a c l (sw l i j):=⟨UC (by omega) (by omega),fun k hk=>by rw [eb (by omega) (by omega),if_neg (by omega),if_neg (by omega)]⟩
theorem Ut {l l':List Int} (h:l.length = l'.length) (hg:∀ k,k < l.length → gd l k = gd l' k):l = l':=by
  apply List.ext_getElem h
  intro i h1 h2
  have:=hg i h1
  rwa [← Ti h1, ← Ti h2] at this
theorem Mix.seg {a c:Nat} {l l':List Int} (h:Mix a c l l') (hac:a ≤ c) (hc:c ≤ l.length):((l'.drop a).take (c - a)).Perm ((l.drop a).take (c - a)):=by
  have hl:=h.len
  have split:∀ m:List Int,m = m.take a ++ ((m.drop a).take (c - a) ++ m.drop c):=fun m=>by
    conv=>lhs; rw [← List.take_append_drop a m, ← List.take_append_drop (c - a) (m.drop a)]
    rw [List.drop_drop,show a + (c - a) = c by omega]
  have e1:l'.take a = l.take a:=Ut (by simp [hl]) fun k hk=>by
    have hk:k < a:=by simp at hk; omega
    have:=h.out k (.inl hk)
    simpa [gd,List.getElem?_take,hk] using this
  have e2:l'.drop c = l.drop c:=Ut (by simp [hl]) fun k hk=>by
    have:=h.out (c + k) (.inr (by omega))
    simpa [gd] using this
  have hp:=h.perm
  rw [split l',split l,e1,e2] at hp
  exact (List.perm_append_right_iff _).1 ((List.perm_append_left_iff _).1 hp)
theorem Mix.all {a c:Nat} {l l':List Int} (h:Mix a c l l') (hc:c ≤ l.length) {P:Int → Prop} (hP:∀ k,a ≤ k → k < c → P (gd l k)):∀ k,a ≤ k → k < c → P (gd l' k):=by
  intro k h1 h2
  have hl:=h.len
  have hs:=h.seg (by omega) hc
  have hm:gd l' k ∈ (l'.drop a).take (c - a):=by
    refine List.mem_take_iff_getElem.2 ⟨k - a,by simp; omega, ?_⟩
    rw [List.getElem_drop,Ti]
    congr 1; omega
  obtain ⟨j,hj,e⟩:=List.mem_take_iff_getElem.1 (hs.mem_iff.1 hm)
  simp at hj
  rw [List.getElem_drop,Ti] at e
  rw [← e]
  exact hP (a + j) (by omega) (by omega)
def Srt (a c:Nat) (l:List Int):Prop:=∀ i j,a ≤ i → i ≤ j → j < c → gd l i ≤ gd l j
theorem Srt.pairwise {l:List Int} (h:Srt 0 l.length l):l.Pairwise (· ≤ ·):=List.pairwise_iff_getElem.2 fun i j hi hj hij=>by
  rw [Ti hi,Ti hj]
  exact h i j (by omega) (by omega) hj
/-! ### Heaps -/
def u6 (f lo hi:Nat) (l:List Int):Prop:=∀ i c,lo ≤ i → c = 2 * i + 1 ∨ c = 2 * i + 2 → c < hi → gd l (f + c) ≤ gd l (f + i)
theorem TJ {f hi:Nat} {l:List Int} (h:u6 f 0 hi l):∀ n k,k ≤ n → k < hi → gd l (f + k) ≤ gd l f
  | n,0,_,_=>by simp
  | 0,k + 1,h1,_=>by omega
  | n + 1,k + 1,h1,h2=>by
    have h3:=h (k / 2) (k + 1) (by omega) (by omega) h2
    have h4:=TJ h n (k / 2) (by omega) (by omega)
    exact Int.le_trans h3 h4
structure Ta (f lo hi r:Nat) (l:List Int):Prop where
  rest:∀ i c,lo ≤ i → i ≠ r → c = 2 * i + 1 ∨ c = 2 * i + 2 → c < hi → gd l (f + c) ≤ gd l (f + i)
  up:∀ p c,lo ≤ p → r = 2 * p + 1 ∨ r = 2 * p + 2 → c = 2 * r + 1 ∨ c = 2 * r + 2 → c < hi → gd l (f + c) ≤ gd l (f + p)
theorem Ta.start {f lo hi:Nat} {l:List Int} (h:u6 f (lo + 1) hi l):Ta f lo hi lo l:=⟨fun i c h1 h2 h3 h4=>h i c (by omega) h3 h4,fun p c h1 h2=>by omega⟩
theorem Ta.done {f lo hi r:Nat} {l:List Int} (h:Ta f lo hi r l) (hr:∀ c,c = 2 * r + 1 ∨ c = 2 * r + 2 → c < hi → gd l (f + c) ≤ gd l (f + r)):u6 f lo hi l:=fun i c h1 h2 h3=>by
  by_cases hir:i = r
  · subst hir; exact hr c h2 h3
  · exact h.rest i c h1 hir h2 h3
theorem Ta.step {f lo hi r c:Nat} {l:List Int} (h:Ta f lo hi r l) (hlo:lo ≤ r) (hc:c = 2 * r + 1 ∨ c = 2 * r + 2) (hch:c < hi) (hl:f + hi ≤ l.length) (hmax:∀ d,d = 2 * r + 1 ∨ d = 2 * r + 2 → d < hi → gd l (f + d) ≤ gd l (f + c)) (hlt:gd l (f + r) < gd l (f + c)):Ta f lo hi c (sw l (f + r) (f + c)):=by
  have g:∀ k,gd (sw l (f + r) (f + c)) (f + k) = if k = c then gd l (f + r) else if k = r then gd l (f + c) else gd l (f + k):=fun k=>by
    rw [eb (by omega) (by omega)]
    by_cases h1:k = c
    · rw [if_pos (by omega),if_pos h1]
    · rw [if_neg (by omega),if_neg h1]
      by_cases h2:k = r
      · rw [if_pos (by omega),if_pos h2]
      · rw [if_neg (by omega),if_neg h2]
  constructor
  · intro i d h1 h2 h3 h4
    rw [g d,g i,if_neg h2]
    by_cases hir:i = r
    · subst hir
      rw [if_pos rfl]
      by_cases hdc:d = c
      · rw [if_pos hdc]; omega
      · rw [if_neg hdc,if_neg (by omega)]
        exact hmax d h3 h4
    · rw [if_neg hir]
      have hr:=h.rest i d h1 hir h3 h4
      have hdc:d ≠ c:=by omega
      rw [if_neg hdc]
      by_cases hdr:d = r
      · rw [if_pos hdr]
        exact h.up i c h1 (by omega) hc hch
      · rw [if_neg hdr]; exact hr
  · intro p d h1 h2 h3 h4
    have hp:p = r:=by omega
    subst hp
    rw [g d,g p,if_neg (by omega),if_neg (by omega),if_neg (by omega),if_pos rfl]
    exact h.rest c d (by omega) (by omega) h3 h4
set_option maxRecDepth 100000
set_option maxHeartbeats 1000000
abbrev nn2 (n:Nat):ab:=.int .i64 (n:Int)
theorem wN {n:Int} (h1:0 ≤ n) (h2:n ≤ 100000):IntKind.i64.wrap n = n:=an (by omega) (by omega)
theorem wE {n:Int} {m:Nat} (h:n = (m:Int)) (h2:m ≤ 100000):IntKind.i64.wrap n = (m:Int):=by rw [h]; exact wN (by omega) (by omega)
theorem ea {D:List Int} {i:Nat} (hi:i < D.length):D[i] = gd D i:=Ti hi
theorem Tp (b:Nat) (l:List Int) (hN:l.length ≤ 1000) (lo hi f:Nat) (hh:u6 f (lo + 1) hi l) (hf:f + hi ≤ l.length) (hlo:lo ≤ hi) (σ:af) (hb:b < σ.length) (hx:σ[b]? = some (cU l)) :
    Spec Tryz.prog Uj [.sref 1 b 0 l.length l.length,nn2 lo,nn2 hi,nn2 f] σ fun r σ'=>r = .ret (.tup []) ∧ ∃ l',Mix f (f + hi) l l' ∧ u6 f lo hi l' ∧ σ' = σ.set b (cU l'):=by
  refine Vw (by simp) (dm _ ?_)
  simp [UH]
  refine AW.loop (ι:=Nat) (fun r fr σ1=>fr = { v:=[(0, .sref 1 b 0 l.length l.length),(2,nn2 hi),(3,nn2 f),(8,nn2 r)],ds:=[] } ∧ lo ≤ r ∧ r ≤ hi ∧ ∃ D:List Int,Mix f (f + hi) l D ∧ Ta f lo hi r D ∧ σ1 = σ.set b (cU D)) (fun r=>hi - r) lo ⟨by simp,by omega,hlo,l, .refl _ _ _, .start hh, ?_⟩ ?_
  · obtain ⟨h1,h2⟩:=List.getElem?_eq_some_iff.1 hx
    rw [← h2]; simp
  rintro r fr σ1 ⟨rfl,hlr,hrh,D,hm,hB,rfl⟩
  have hl:=hm.len
  obtain ⟨c1,hc1⟩:∃ c1,2 * r + 1 = c1:=⟨_,rfl⟩
  obtain ⟨c2,hc2⟩:∃ c2,c1 + 1 = c2:=⟨_,rfl⟩
  obtain ⟨R,hR⟩:∃ R,f + r = R:=⟨_,rfl⟩
  obtain ⟨C1,hC1⟩:∃ C1,f + c1 = C1:=⟨_,rfl⟩
  obtain ⟨C2,hC2⟩:∃ C2,f + c2 = C2:=⟨_,rfl⟩
  have w1:IntKind.i64.wrap (2 * (r:Int)) = 2 * r:=wN (by omega) (by omega)
  have w2:IntKind.i64.wrap (2 * (r:Int) + 1) = c1:=wE (by omega) (by omega)
  have w3:IntKind.i64.wrap ((c1:Int) + 1) = c2:=wE (by omega) (by omega)
  have w4:IntKind.i64.wrap ((f:Int) + r) = R:=wE (by omega) (by omega)
  have w5:IntKind.i64.wrap ((f:Int) + c1) = C1:=wE (by omega) (by omega)
  have w6:IntKind.i64.wrap ((C1:Int) + 1) = C2:=wE (by omega) (by omega)
  have w7:IntKind.i64.wrap ((f:Int) + c2) = C2:=wE (by omega) (by omega)
  refine (Nat.lt_or_ge c1 hi).elim (fun h1=>?_) (fun h1=>?_)
  rotate_left
  · refine dm _ ?_
    simp [w1,w2,h1]
    exact ⟨D,hm,hB.done (fun c h3 h4=>by omega),rfl⟩
  have h2:¬ hi ≤ c1:=by omega
  have hRl:R < D.length:=by omega
  have hC1l:C1 < D.length:=by omega
  have hRn:R < l.length:=by omega
  have hC1n:C1 < l.length:=by omega
  obtain ⟨x,hxv⟩:∃ x,D[R] = x:=⟨_,rfl⟩
  obtain ⟨y,hyv⟩:∃ y,D[C1] = y:=⟨_,rfl⟩
  have hxg:gd D (f + r) = x:=by rw [hR, ← hxv,ea]
  have hyg:gd D (f + c1) = y:=by rw [hC1, ← hyv,ea]
  have hR1:¬ R = C1:=by omega
  have hx2:gd D R = x:=by rw [← hxv,ea]
  have hy2:gd D C1 = y:=by rw [← hyv,ea]
  have hseg:∀ c C:Nat,f + c = C → c = 2 * r + 1 ∨ c = 2 * r + 2 → c < hi → Mix f (f + hi) l (sw D R C):=fun c C e1 e2 e3=>hm.trans (.sw (by omega) (by omega) (by omega))
  refine (Nat.lt_or_ge c2 hi).elim (fun h3=>?_) (fun h3=>?_)
  · have hC2l:C2 < D.length:=by omega
    have hC2n:C2 < l.length:=by omega
    obtain ⟨z,hzv⟩:∃ z,D[C2] = z:=⟨_,rfl⟩
    have hz2:gd D C2 = z:=by rw [← hzv,ea]
    have hR2:¬ R = C2:=by omega
    refine dm _ ?_
    simp [w1,w2,w3,w4,w5,w6,w7,h2,h3,hb,cU,hl,hRn,hC1n,hC2n,hxv,hyv,hzv,hR1,hR2]
    refine ⟨.bool (decide (y < z)),fun σ'=>aC.func LI (n7 y z σ'), ?_⟩
    simp
    refine ⟨fun hyz=>⟨.bool (decide (x < z)),fun σ'=>aC.func LI (n7 x z σ'), ?_⟩,fun hyz=>⟨.bool (decide (x < y)),fun σ'=>aC.func LI (n7 x y σ'), ?_⟩⟩
    · have hmax:∀ d,d = 2 * r + 1 ∨ d = 2 * r + 2 → d < hi → gd D (f + d) ≤ gd D (f + c2):=fun d e1 e2=>by
        rcases e1 with e | e
        · rw [show f + d = C1 by omega,show f + c2 = C2 by omega,hy2,hz2]; omega
        · rw [show d = c2 by omega]; exact Int.le_refl _
      simp
      refine ⟨fun hxz=>⟨D,hm,hB.done fun c e1 e2=>?_,rfl⟩,fun hxz=>⟨c2,by omega,rfl,by omega,by omega,sw D R C2,hseg c2 C2 hC2 (by omega) h3, ?_, ?_⟩⟩
      · refine Int.le_trans (hmax c e1 e2) ?_
        rw [hC2,hR,hz2,hx2]; exact hxz
      · have:=hB.step hlr (by omega) h3 (by omega) hmax (by rw [hC2,hR,hz2,hx2]; exact hxz)
        rwa [hR,hC2] at this
      · rw [sw,hx2,hz2,List.map_set,List.map_set]
    · have hmax:∀ d,d = 2 * r + 1 ∨ d = 2 * r + 2 → d < hi → gd D (f + d) ≤ gd D (f + c1):=fun d e1 e2=>by
        rcases e1 with e | e
        · rw [show d = c1 by omega]; exact Int.le_refl _
        · rw [show f + d = C2 by omega,show f + c1 = C1 by omega,hy2,hz2]; omega
      simp
      refine ⟨fun hxz=>⟨D,hm,hB.done fun c e1 e2=>?_,rfl⟩,fun hxz=>⟨c1,by omega,rfl,by omega,by omega,sw D R C1,hseg c1 C1 hC1 (by omega) h1, ?_, ?_⟩⟩
      · refine Int.le_trans (hmax c e1 e2) ?_
        rw [hC1,hR,hy2,hx2]; exact hxz
      · have:=hB.step hlr (by omega) h1 (by omega) hmax (by rw [hC1,hR,hy2,hx2]; exact hxz)
        rwa [hR,hC1] at this
      · rw [sw,hx2,hy2,List.map_set,List.map_set]
  · have h4:¬ c2 < hi:=by omega
    refine dm _ ?_
    simp [w1,w2,w3,w4,w5,w6,w7,h2,h4,hb,cU,hl,hRn,hC1n,hxv,hyv,hR1]
    refine ⟨.bool false, ?_⟩
    simp
    refine ⟨.bool (decide (x < y)),fun σ'=>aC.func LI (n7 x y σ'), ?_⟩
    have hmax:∀ d,d = 2 * r + 1 ∨ d = 2 * r + 2 → d < hi → gd D (f + d) ≤ gd D (f + c1):=fun d e1 e2=>by
      rw [show d = c1 by omega]; exact Int.le_refl _
    simp
    refine ⟨fun hxz=>⟨D,hm,hB.done fun c e1 e2=>?_,rfl⟩,fun hxz=>⟨c1,by omega,rfl,by omega,by omega,sw D R C1,hseg c1 C1 hC1 (by omega) h1, ?_, ?_⟩⟩
    · refine Int.le_trans (hmax c e1 e2) ?_
      rw [hC1,hR,hy2,hx2]; exact hxz
    · have:=hB.step hlr (by omega) h1 (by omega) hmax (by rw [hC1,hR,hy2,hx2]; exact hxz)
      rwa [hR,hC1] at this
    · rw [sw,hx2,hy2,List.map_set,List.map_set]
set_option maxRecDepth 100000
set_option maxHeartbeats 1000000
theorem u6.none {f lo hi:Nat} {l:List Int} (h:hi ≤ 2 * lo + 1):u6 f lo hi l:=fun i c h1 h2 h3=>by omega
structure Th (a n k:Nat) (l:List Int):Prop where
  heap:u6 a 0 k l
  srt:Srt (a + k) (a + n) l
  le:∀ i j,i < k → k ≤ j → j < n → gd l (a + i) ≤ gd l (a + j)
theorem Th.swap {a n k:Nat} {l:List Int} (h:Th a n (k + 1) l) (hn:k < n) (hl:a + n ≤ l.length):u6 a 1 k (sw l a (a + k)) ∧ Srt (a + k) (a + n) (sw l a (a + k)) ∧ ∀ i j,i < k → k ≤ j → j < n → gd (sw l a (a + k)) (a + i) ≤ gd (sw l a (a + k)) (a + j):=by
  have hmax:=TJ h.heap
  have g:∀ i,gd (sw l a (a + k)) (a + i) = if i = k then gd l a else if i = 0 then gd l (a + k) else gd l (a + i):=fun i=>by
    rw [eb (by omega) (by omega)]
    by_cases h1:i = k
    · rw [if_pos (by omega),if_pos h1]
    · rw [if_neg (by omega),if_neg h1]
      by_cases h2:i = 0
      · rw [if_pos (by omega),if_pos h2]
      · rw [if_neg (by omega),if_neg h2]
  have gle:∀ j,k < j → j < n → gd l a ≤ gd l (a + j):=fun j h1 h2=>by
    have:=h.le 0 j (by omega) (by omega) h2
    simpa using this
  refine ⟨fun i c h1 h2 h3=>?_,fun i j h1 h2 h3=>?_,fun i j h1 h2 h3=>?_⟩
  · rw [g c,g i,if_neg (by omega),if_neg (by omega),if_neg (by omega),if_neg (by omega)]
    exact h.heap i c (by omega) h2 (by omega)
  · obtain ⟨i,rfl⟩:∃ i',i = a + i':=⟨i - a,by omega⟩
    obtain ⟨j,rfl⟩:∃ j',j = a + j':=⟨j - a,by omega⟩
    rw [g i,g j]
    by_cases hik:i = k
    · rw [if_pos hik]
      by_cases hjk:j = k
      · rw [if_pos hjk]; exact Int.le_refl _
      · rw [if_neg hjk,if_neg (by omega)]
        exact gle j (by omega) (by omega)
    · rw [if_neg hik,if_neg (by omega),if_neg (by omega),if_neg (by omega)]
      exact h.srt (a + i) (a + j) (by omega) (by omega) (by omega)
  · rw [g i,g j,if_neg (by omega)]
    have hi:(if i = 0 then gd l (a + k) else gd l (a + i)) ≤ gd l a:=by
      split
      · exact hmax k k (Nat.le_refl _) (by omega)
      · exact hmax i i (Nat.le_refl _) (by omega)
    by_cases hjk:j = k
    · rw [if_pos hjk]; exact hi
    · rw [if_neg hjk,if_neg (show ¬ j = 0 by omega)]
      exact Int.le_trans hi (gle j (by omega) h3)
theorem Th.VV {a n k:Nat} {l l':List Int} (h1:Srt (a + k) (a + n) l) (h2:∀ i j,i < k → k ≤ j → j < n → gd l (a + i) ≤ gd l (a + j)) (hm:Mix a (a + k) l l') (hh:u6 a 0 k l') (hl:a + n ≤ l.length) (hk:k ≤ n):Th a n k l':=by
  refine ⟨hh,fun i j e1 e2 e3=>?_,fun i j e1 e2 e3=>?_⟩
  · rw [hm.out i (by omega),hm.out j (by omega)]
    exact h1 i j e1 e2 e3
  · rw [hm.out (a + j) (by omega)]
    have:=hm.all (by omega) (P:=fun x=>x ≤ gd l (a + j)) (fun q q1 q2=>by
      have:=h2 (q - a) j (by omega) e2 e3
      rwa [show a + (q - a) = q by omega] at this)
    exact this (a + i) (by omega) (by omega)
theorem T2 (b:Nat) (l:List Int) (hN:l.length ≤ 1000) (a c:Nat) (hac:a < c) (hc:c ≤ l.length) (σ:af) (hb:b < σ.length) (hx:σ[b]? = some (cU l)) :
    Spec Tryz.prog Uf [.sref 1 b 0 l.length l.length,nn2 a,nn2 c] σ fun r σ'=>r = .ret (.tup []) ∧ ∃ l',Mix a c l l' ∧ Srt a c l' ∧ σ' = σ.set b (cU l'):=by
  refine U8 (by simp) (dm _ ?_)
  obtain ⟨n,hn⟩:∃ n,c - a = n:=⟨_,rfl⟩
  have w1:IntKind.i64.wrap ((c:Int) - a) = n:=wE (by omega) (by omega)
  have w2:IntKind.i64.wrap ((n:Int) - 1) = (n - 1:Nat):=wE (by omega) (by omega)
  have w3:IntKind.i64.wrap (((n - 1:Nat):Int).tdiv 2) = ((n - 1) / 2:Nat):=by
    rw [Int.tdiv_eq_ediv_of_nonneg (by omega)]
    exact wE (by omega) (by omega)
  have w3':IntKind.i64.wrap (((n - 1:Nat):Int) / 2) = ((n - 1:Nat):Int) / 2:=wN (by omega) (by omega)
  have hself:σ = σ.set b (cU l):=by
    obtain ⟨h1,h2⟩:=List.getElem?_eq_some_iff.1 hx
    rw [← h2]; simp
  simp [UI,w1,w2]
  refine AW.loop (ι:=Nat) (fun j fr σ1=>fr = { v:=[(0, .sref 1 b 0 l.length l.length),(6,nn2 a),(7,ii' 0),(8,nn2 n),(9,ii' ((j:Int) - 1))],ds:=[] } ∧ j ≤ n ∧ ∃ D:List Int,Mix a c l D ∧ u6 a j n D ∧ σ1 = σ.set b (cU D)) (fun j=>j) ((n - 1) / 2 + 1) ⟨by simp [w3'],by omega,l, .refl _ _ _, .none (by omega),hself⟩ ?_
  rintro j fr σ1 ⟨rfl,hj,D,hm,hh,rfl⟩
  have hl:=hm.len
  refine (Classical.em (j = 0)).elim (fun hj0=>?_) (fun hj0=>?_)
  rotate_left
  · obtain ⟨i,rfl⟩:∃ i,j = i + 1:=⟨j - 1,by omega⟩
    have w4:IntKind.i64.wrap ((i:Int) - 1) = (i:Int) - 1:=an (by omega) (by omega)
    have hsp:=Tp b D (by omega) i n a hh (by omega) (by omega) (σ.set b (cU D)) (by simpa using hb) (by simp [hb])
    rw [hl] at hsp
    refine dm _ ?_
    simp
    refine aj.spec Uq hsp ?_
    rintro r σ' ⟨rfl,D',hm',hh',rfl⟩
    refine ⟨_,rfl, ?_⟩
    simp [w4]
    exact ⟨i,by omega,rfl,by omega,D',hm.trans (hm'.mono (by omega) (by omega)),hh',by simp⟩
  subst hj0
  refine dm _ ?_
  simp [w2]
  refine AW.loop (ι:=Nat) (fun k fr σ1=>fr = { v:=[(0, .sref 1 b 0 l.length l.length),(6,nn2 a),(7,ii' 0),(10,ii' ((k:Int) - 1))],ds:=[] } ∧ k ≤ n ∧ ∃ D:List Int,Mix a c l D ∧ Th a n k D ∧ σ1 = σ.set b (cU D)) (fun k=>k) n ⟨by simp; omega,by omega,D,hm,⟨hh,fun i j h1 h2 h3=>by omega,fun i j h1 h2 h3=>by omega⟩,rfl⟩ ?_
  rintro k fr σ1 ⟨rfl,hk,D,hm,hh,rfl⟩
  have hl:=hm.len
  refine (Classical.em (k = 0)).elim (fun hk0=>?_) (fun hk0=>?_)
  · subst hk0
    refine dm _ ?_
    simp
    refine ⟨D,hm, ?_,rfl⟩
    have:=hh.srt
    rwa [Nat.add_zero,show a + n = c by omega] at this
  obtain ⟨k,rfl⟩:∃ i,k = i + 1:=⟨k - 1,by omega⟩
  have w4:IntKind.i64.wrap ((k:Int) - 1) = (k:Int) - 1:=an (by omega) (by omega)
  obtain ⟨X,hX⟩:∃ X,a + k = X:=⟨_,rfl⟩
  have w5:IntKind.i64.wrap ((a:Int) + k) = X:=wE (by omega) (by omega)
  have hal:a < D.length:=by omega
  have hXl:X < D.length:=by omega
  have han:a < l.length:=by omega
  have hXn:X < l.length:=by omega
  obtain ⟨x,hxv⟩:∃ x,D[a] = x:=⟨_,rfl⟩
  obtain ⟨y,hyv⟩:∃ y,D[X] = y:=⟨_,rfl⟩
  have hx2:gd D a = x:=by rw [← hxv,ea]
  have hy2:gd D X = y:=by rw [← hyv,ea]
  obtain ⟨s1,s2,s3⟩:=hh.swap (by omega) (by omega)
  rw [hX] at s1 s2 s3
  obtain ⟨E,hE⟩:∃ E,sw D a X = E:=⟨_,rfl⟩
  have hEl:E.length = l.length:=by rw [← hE,UZ,hl]
  have hEm:Mix a c l E:=by rw [← hE]; exact hm.trans (.sw (by omega) (by omega) (by omega))
  have hEv:((List.map ii' D).set a (ii' y)).set X (ii' x) = E.map ii':=by rw [← hE,sw,hx2,hy2,List.map_set,List.map_set]
  rw [hE] at s1 s2 s3
  have hsp:=Tp b E (by omega) 0 k a s1 (by omega) (by omega) (σ.set b (cU E)) (by simpa using hb) (by simp [hb])
  rw [hEl,show nn2 0 = ii' 0 from rfl] at hsp
  simp only [cU] at hsp
  have fin:∀ E',Mix a (a + k) E E' → u6 a 0 k E' → Th a n k E':=fun E' e1 e2=>Th.VV (l:=E) (by rw [hX]; exact s2) s3 e1 e2 (by omega) (by omega)
  refine (Classical.em (a = X)).elim (fun haX=>?_) (fun haX=>?_)
  · have hxy:x = y:=by rw [← hx2, ← hy2,haX]
    have hXa:X = a:=haX.symm
    have hEv2:(List.map ii' D).set a (ii' x) = E.map ii':=by
      have:((List.map ii' D).set a (ii' x)).set a (ii' x) = E.map ii':=by rw [← hEv,hxy,hXa]
      rwa [List.set_set] at this
    have hEa:gd E a = x:=by rw [← hE,eb hal hXl,if_pos haX,hx2]
    have hEL:a < E.length:=by omega
    have hEg:E[a] = x:=by rw [ea,hEa]
    have hEs:(List.map ii' E).set a (ii' x) = E.map ii':=by rw [← hEv2,List.set_set]
    refine dm _ ?_
    simp [w5,hb,cU,hl,han,hxv,hXa,hEv2,hEl,hEg,hEs]
    refine aj.spec Uq hsp ?_
    rintro r σ' ⟨rfl,D',hm',hh',rfl⟩
    refine ⟨_,rfl, ?_⟩
    simp [w4]
    exact ⟨k,by omega,rfl,by omega,D',hEm.trans (hm'.mono (by omega) (by omega)),fin D' hm' hh',by simp [cU]⟩
  · refine dm _ ?_
    simp [w5,hb,cU,hl,han,hXn,hxv,hyv,haX,hEv]
    refine aj.spec Uq hsp ?_
    rintro r σ' ⟨rfl,D',hm',hh',rfl⟩
    refine ⟨_,rfl, ?_⟩
    simp [w4]
    exact ⟨k,by omega,rfl,by omega,D',hEm.trans (hm'.mono (by omega) (by omega)),fin D' hm' hh',by simp [cU]⟩
set_option maxRecDepth 100000
set_option maxHeartbeats 1000000
theorem S0 {σ:af} {b:Nat} {l:List Int} (hx:σ[b]? = some (cU l)):σ = σ.set b (cU l):=by
  obtain ⟨h1,h2⟩:=List.getElem?_eq_some_iff.1 hx
  rw [← h2]; simp
theorem Tz (b:Nat) (l:List Int) (hN:l.length ≤ 1000) (a c:Nat) (hac:a < c) (hc:c ≤ l.length) (σ:af) (hb:b < σ.length) (hx:σ[b]? = some (cU l)) :
    Spec Tryz.prog T6 [.sref 1 b 0 l.length l.length,nn2 a,nn2 c] σ fun r σ'=>r = .ret (.tup []) ∧ ∃ l',Mix a c l l' ∧ σ' = σ.set b (cU l'):=by
  refine Vt (by simp) (dm _ ?_)
  have w1:IntKind.i64.wrap ((c:Int) - 1) = (c - 1:Nat):=wE (by omega) (by omega)
  simp [UM,w1]
  refine AW.loop (ι:=Nat) (fun i fr σ1=>fr = { v:=[(0, .sref 1 b 0 l.length l.length),(6,nn2 i),(7,ii' ((a:Int) + c - 1 - i))],ds:=[] } ∧ a ≤ i ∧ i ≤ c ∧ ∃ D:List Int,Mix a c l D ∧ σ1 = σ.set b (cU D)) (fun i=>c - i) a ⟨by simp; omega,by omega,by omega,l, .refl _ _ _,S0 hx⟩ ?_
  rintro i fr σ1 ⟨rfl,h1,h2,D,hm,rfl⟩
  have hl:=hm.len
  refine (Nat.lt_or_ge (2 * i + 1) (a + c)).elim (fun hlt=>?_) (fun hge=>?_)
  rotate_left
  · have hnl:¬ (i:Int) < (a:Int) + c - 1 - i:=by omega
    refine dm _ ?_
    simp [hnl]
    exact ⟨D,hm,rfl⟩
  obtain ⟨j,hj⟩:∃ j,a + c - 1 - i = j:=⟨_,rfl⟩
  have hjI:(a:Int) + c - 1 - i = j:=by omega
  have w2:IntKind.i64.wrap ((i:Int) + 1) = ((i + 1:Nat):Int):=wE (by omega) (by omega)
  have w3:IntKind.i64.wrap ((j:Int) - 1) = (j:Int) - 1:=an (by omega) (by omega)
  have hij:i < j:=by omega
  have hil:i < D.length:=by omega
  have hjl:j < D.length:=by omega
  have hin:i < l.length:=by omega
  have hjn:j < l.length:=by omega
  obtain ⟨x,hxv⟩:∃ x,D[i] = x:=⟨_,rfl⟩
  obtain ⟨y,hyv⟩:∃ y,D[j] = y:=⟨_,rfl⟩
  have hx2:gd D i = x:=by rw [← hxv,ea]
  have hy2:gd D j = y:=by rw [← hyv,ea]
  have hne:¬ i = j:=by omega
  rw [hjI]
  refine dm _ ?_
  simp [w2,w3,hb,cU,hl,hij,hin,hjn,hxv,hyv,hne]
  exact ⟨i + 1,by omega,⟨by simp,by omega⟩,by omega,by omega,sw D i j,hm.trans (.sw (by omega) (by omega) (by omega)),by rw [sw,hx2,hy2,List.map_set,List.map_set]⟩
end Go.AM
