/- CutBads: what the law's call returns. Awake of chapter 06, by contracts. Awake of chapter 06, by contracts. What a shaped input looks like, type by type. The inputs of chapter 06's laws: a task, .. -/
import Derived.Test.YtmjfcbpgnmajpaaGreatDoorP22
import Derived.Test.YtmjfcbpgnmajpaaGreatDoorP19
import Derived.Test.YtmjfcbpgnmajpaaGreatDoorP24
import Derived.Test.YtmjfcbpgnmajpaaGreatDoorP13
namespace Go.AM
open Go.Proofs
set_option maxRecDepth 100000
set_option maxHeartbeats 1000000
theorem cG (l : List Int) (hl : l.length ≤ maxLen) (σ : af) : Spec Tryz.prog E9 [.slice 1 (l.map ii'), .slice 1 (l.map ii')] σ fun r σ' => r = .ret (.bool true) ∧ σ' = σ := by
  refine Spec.ay (QF (by simp) (aa _ ?_)) (by simp [av (f := ii') (fun _ => rfl) l]) rfl σ
  simp [Kj]
  refine AW.loop (ι := Nat) (fun i fr σ => fr = { v := [(0, .slice 1 (l.map ii')),(1, .slice 1 (l.map ii')),(5, .bool true),(6, .int .i64 i)],ds := [] } ∧ i ≤ l.length) (fun i => l.length - i) 0 (by simp) ?_
  rintro i fr σ ⟨rfl,hi⟩
  refine (Nat.lt_or_ge i l.length).elim (fun hlt => ?_) (fun hge => ?_)
  · obtain ⟨x,hx⟩ : ∃ x,l[i] = x := ⟨_,rfl⟩
    refine aa _ ?_
    simp [hlt,hx]
    exact ⟨i + 1,by omega,an (by omega) (by simp only [maxLen] at hl; omega),by omega⟩
  · have hnl : ¬ i < l.length := by omega
    refine aa _ ?_
    simp [hnl]
theorem Fp (l : List Nat) (hl : l.length ≤ maxLen) (σ : af) : Spec Tryz.prog E9 [.slice 1 (l.map nn'), .slice 1 (l.map nn')] σ fun r σ' => r = .ret (.bool true) ∧ σ' = σ := by
  have := cG (l.map fun (n : Nat) => (n : Int)) (by simpa using hl) σ
  rw [List.map_map] at this
  exact this
theorem nM {t : ah} (hf : t.Fit) (s : Nat) : (bq t s).length ≤ 7 := Nat.le_trans (List.length_filter_le _ _) (by simp; exact hf.ship7)
set_option maxRecDepth 100000
set_option maxHeartbeats 1000000
abbrev Bn (l : List Int) (e : Int) : ab := .tup [.slice 1 (l.map ii'),ii' e]
theorem gI {l : List Int} (h : l.length ≤ 3) : l.length ≤ maxLen := by unfold maxLen; omega
theorem wq (σ : af) : Spec Tryz.prog BG [(exT false false).v, .slice 1 [ii' 0,ii' 1]] σ fun r σ' => r = .ret (.tup [ii' 1,ii' 4,ii' 0]) ∧ σ' = σ := by
  have h := hU _ (tI false false) [0,1] (gI (by decide)) σ
  rw [Ix] at h; exact h
theorem wF (σ : af) : Spec Tryz.prog BG [(exT false true).v, .slice 1 [ii' 0,ii' 2]] σ fun r σ' => r = .ret (.tup [ii' 1,ii' 3,ii' 0]) ∧ σ' = σ := by
  have h := hU _ (tI false true) [0,2] (gI (by decide)) σ
  rw [IV] at h; exact h
theorem zI (σ : af) : Spec Tryz.prog Em [(exT false false).v, .slice 1 []] σ fun r σ' => r = .ret (Bn [0,1] 0) ∧ σ' = σ := by
  have h := oE _ (tI false false) [] (gI (by decide)) σ
  unfold zp at h
  rw [Ag.1,Ag.2.1] at h; exact h
theorem yh (σ : af) : Spec Tryz.prog Ef [(exT false false).v, .slice 1 []] σ fun r σ' => r = .ret (Bn [0] 0) ∧ σ' = σ := by
  have h := jq _ (tI false false) [] (gI (by decide)) σ
  unfold qc at h
  rw [Ag.1,Ag.2.2] at h; exact h
theorem vQ (σ : af) : Spec Tryz.prog Db [(exT false false).v] σ fun r σ' => r = .ret (Bn [0,2,1] 0) ∧ σ' = σ := by
  have h := fj _ (tI false false) σ
  rw [AG.1,AG.2] at h; exact h
theorem yl (σ : af) : Spec Tryz.prog EL [(exT true false).v] σ fun r σ' => r = .ret (Bn [1] 0) ∧ σ' = σ := by
  have h := mq _ (tI true false) σ
  rw [yI.2.1,yI.2.2] at h; exact h
theorem BP (σ : af) : Spec Tryz.prog EB [(exT false false).v,ii' 2] σ fun r σ' => r = .ret (Bn [0,2] 0) ∧ σ' = σ := by
  have h := qb _ (tI false false) 2 σ
  rw [Lm.1,Lm.2] at h; exact h
theorem vz (σ : af) : Spec Tryz.prog EM [(exT false true).v] σ fun r σ' => r = .ret (Bn [5,6,7] 0) ∧ σ' = σ := by
  have h := sm _ (tI false true) (fun _ => vZ.2.2) σ
  rw [vZ.1,vZ.2.1] at h; exact h
theorem wR (σ : af) : Spec Tryz.prog D4 [(exT false true).v, .slice 1 [ii' 7,ii' 6,ii' 5]] σ fun r σ' => r = .ret (.tup [.bool true,ii' 0]) ∧ σ' = σ := by
  have h := kz _ (tI false true) [7,6,5] (gI (by decide)) σ
  rw [nA.1,nA.2.1] at h; exact h
theorem xJ (σ : af) : Spec Tryz.prog D4 [(exT false true).v, .slice 1 [ii' 7,ii' 6]] σ fun r σ' => r = .ret (.tup [.bool false,ii' 0]) ∧ σ' = σ := by
  have h := kz _ (tI false true) [7,6] (gI (by decide)) σ
  rw [nA.2.2.1,nA.2.2.2] at h; exact h
set_option maxRecDepth 100000
set_option maxHeartbeats 1000000
theorem fW {P : Program} {o : aJ} {r : List aJ} {fr : Fr} {σ : af} {K : Fr → af → Prop} {Kp : ab → Fr → af → Prop} (hg : o.g = none) (hq : o.i.quiet = true) (hs : gO fr.v σ o.i) (h : aU P r (fr.put o.d (jf fr.v σ o.i)) σ K Kp) : aU P (o :: r) fr σ K Kp := by
  rw [aU,hg]
  show mQ _ _ _ _ _ _
  unfold mQ
  rw [if_pos hq]
  exact ⟨hs,h⟩
theorem gg {P : Program} {o : aJ} {r : List aJ} {fr : Fr} {σ : af} {K : Fr → af → Prop} {Kp : ab → Fr → af → Prop} {gd : Nat × Bool} {g : Bool} (hg : o.g = some gd) (hc : fz fr.v gd = some g) (hq : o.i.quiet = true) (hs : g = true → gO fr.v σ o.i) (h : aU P r (fr.put o.d (.opt g (jf fr.v σ o.i))) σ K Kp) : aU P (o :: r) fr σ K Kp := by
  rw [aU,hg]
  show match fz fr.v gd with | none => False | some g => _
  rw [hc]
  show ite _ _ _
  rw [if_pos hq]
  exact ⟨hs,h⟩
theorem dg {P : Program} {o : aJ} {r : List aJ} {fr : Fr} {σ : af} {K : Fr → af → Prop} {Kp : ab → Fr → af → Prop} {gd : Nat × Bool} (hg : o.g = some gd) (hc : fz fr.v gd = some true) (hq : o.i.quiet = false) (h : mQ P o.i fr.v σ (fun v σ' => aU P r (fr.put o.d v) σ' K Kp) (fun v σ' => Kp v fr σ')) : aU P (o :: r) fr σ K Kp := by
  rw [aU,hg]
  show match fz fr.v gd with | none => False | some g => _
  rw [hc]
  show ite _ _ _
  rw [if_neg (by rw [hq]; simp)]
  exact ⟨fun _ => h,fun h => by cases h⟩
theorem fG (σ : af) : Spec Tryz.prog vI [] σ fun r σ' => r = .ret (.bool true) ∧ σ' = σ := by
  refine Spec.ay (SM (by simp) (aa _ ?_)) rfl rfl σ
  obtain ⟨w9,hw9⟩ : ∃ w9, ∀ σ,Spec Tryz.prog Db [(exT true false).v] σ fun r σ' => r = .ret (.tup [.slice 1 (List.map nn' w9),ii' 9]) ∧ σ' = σ := ⟨fl (exT true false),fun σ => by have h := fj _ (tI true false) σ; rw [yI.1] at h; exact h⟩
  simp [Nv]
  refine aj.pure IQ (jm false false _) ?_
  simp
  refine aj.pure IQ (jm true false _) ?_
  simp
  refine aj.pure IQ (jm false true _) ?_
  simp [ah.v,ah.cells]
  refine aj.pure wW (wq _) ?_
  simp [ah.v,ah.cells]
  refine aj.pure wW (wF _) ?_
  simp [ah.v,ah.cells]
  refine aj.pure zB (zI _) ?_
  simp [ah.v,ah.cells]
  refine aj.pure yX (yh _) ?_
  simp [ah.v,ah.cells]
  refine aj.pure zi (vQ _) ?_
  simp [ah.v,ah.cells]
  refine aj.pure zi (hw9 _) ?_
  simp [ah.v,ah.cells]
  refine aj.pure HU (yl _) ?_
  simp [ah.v,ah.cells]
  refine aj.pure Ih (BP _) ?_
  simp [ah.v,ah.cells]
  refine aj.pure Qv (vz _) ?_
  simp [ah.v,ah.cells]
  refine aj.pure K1 (wR _) ?_
  simp [ah.v,ah.cells]
  refine aj.pure K1 (xJ _) ?_
  simp [-aU]
  iterate 5 ((first | refine fW rfl rfl (by simp) ?_ | refine gg (g := true) rfl (by simp) rfl (by simp) ?_); simp [-aU])
  rw [aU]
  simp [-aU]
  repeat ((first | refine fW rfl rfl (by simp) ?_ | refine gg (g := true) rfl (by simp) rfl (by simp) ?_); simp [-aU])
  refine dg rfl (by simp) rfl ?_
  simp [-aU]
  refine dg rfl (by simp) rfl ?_
  simp [-aU]
  refine aj.pure zG (cG [0,1] (gI (by decide)) _) ?_
  simp [-aU]
  repeat ((first | refine fW rfl rfl (by simp) ?_ | refine gg (g := true) rfl (by simp) rfl (by simp) ?_); simp [-aU])
  refine dg rfl (by simp) rfl ?_
  simp [-aU]
  refine dg rfl (by simp) rfl ?_
  simp [-aU]
  refine aj.pure zG (cG [0] (gI (by decide)) _) ?_
  simp [-aU]
  repeat ((first | refine fW rfl rfl (by simp) ?_ | refine gg (g := true) rfl (by simp) rfl (by simp) ?_); simp [-aU])
  refine dg rfl (by simp) rfl ?_
  simp [-aU]
  refine dg rfl (by simp) rfl ?_
  simp [-aU]
  refine aj.pure zG (cG [0,2,1] (gI (by decide)) _) ?_
  simp [-aU]
  repeat ((first | refine fW rfl rfl (by simp) ?_ | refine gg (g := true) rfl (by simp) rfl (by simp) ?_); simp [-aU])
  refine dg rfl (by simp) rfl ?_
  simp [-aU]
  refine dg rfl (by simp) rfl ?_
  simp [-aU]
  refine aj.pure zG (cG [1] (gI (by decide)) _) ?_
  simp [-aU]
  repeat ((first | refine fW rfl rfl (by simp) ?_ | refine gg (g := true) rfl (by simp) rfl (by simp) ?_); simp [-aU])
  refine dg rfl (by simp) rfl ?_
  simp [-aU]
  refine dg rfl (by simp) rfl ?_
  simp [-aU]
  refine aj.pure zG (cG [0,2] (gI (by decide)) _) ?_
  simp [-aU]
  repeat ((first | refine fW rfl rfl (by simp) ?_ | refine gg (g := true) rfl (by simp) rfl (by simp) ?_); simp [-aU])
  refine dg rfl (by simp) rfl ?_
  simp [-aU]
  refine dg rfl (by simp) rfl ?_
  simp [-aU]
  refine aj.pure zG (cG [5,6,7] (gI (by decide)) _) ?_
  simp [-aU]
  repeat ((first | refine fW rfl rfl (by simp) ?_ | refine gg (g := true) rfl (by simp) rfl (by simp) ?_); simp [-aU])
  rw [aU]
  simp
open Go.RowKit
def nB (P : Program) (t : TypeId) : Option (List TypeId) :=
  match P.underlying t with
  | some (.struct fs) => some (fs.toList.map (·.type))
  | _ => none
def sF (P : Program) (t : TypeId) : Option IntKind :=
  match P.underlying t with
  | some (.int q) => some q
  | _ => none
def DW (P : Program) (t : TypeId) : Bool :=
  match P.underlying t with
  | some .string => true
  | _ => false
def qQ (P : Program) (t : TypeId) : Option (TypeId × Nat × Bool) :=
  match P.underlying t with
  | some (.slice e) => some (e,P.cellsOf e,match ee (P.underlying e) with
    | some true => true
    | _ => false)
  | _ => none
def tC (g : TypeId → List ab → Prop) : List TypeId → List ab → Prop
  | [],az => az = []
  | t :: r,az => ∃ a b,az = a ++ b ∧ g t a ∧ tC g r b
theorem qL {g : TypeId → List ab → Prop} : ∀ {fs : List Field} {az : List ab},od g fs az → tC g (fs.map (·.type)) az
  | [],_,h => h
  | _ :: _,_,⟨a,b,h1,h2,h3⟩ => ⟨a,b,h1,h2,qL h3⟩
theorem Shaped.fs {P : Program} {k : Nat} {t : TypeId} {az : List ab} {ts : List TypeId} (h : Shaped P (k + 1) t az) (hu : nB P t = some ts) : tC (Shaped P k) ts az := by
  simp only [Shaped] at h
  unfold nB at hu
  split at hu
  · rename_i fs he
    rw [he] at h
    simp only [Option.some.injEq] at hu
    subst hu
    exact qL h
  · cases hu
theorem Shaped.int {P : Program} {k : Nat} {t : TypeId} {az : List ab} {q : IntKind} (h : Shaped P (k + 1) t az) (hu : sF P t = some q) : ∃ n,az = [.int q n] ∧ q.min ≤ n ∧ n ≤ q.max := by
  simp only [Shaped] at h
  unfold sF at hu
  split at hu
  · rename_i q' he
    rw [he] at h
    simp only [Option.some.injEq] at hu
    subst hu
    exact h
  · cases hu
theorem Shaped.str {P : Program} {k : Nat} {t : TypeId} {az : List ab} (h : Shaped P (k + 1) t az) (hu : DW P t = true) : ∃ x,az = [.str x] ∧ x.size ≤ maxLen := by
  simp only [Shaped] at h
  unfold DW at hu
  split at hu
  · rename_i he
    rw [he] at h
    exact h
  · cases hu
theorem Shaped.sl {P : Program} {k : Nat} {t e : TypeId} {c : Nat} {g : Bool} {az : List ab} (h : Shaped P (k + 1) t az) (hu : qQ P t = some (e,c,g)) :
    ∃ xs,az = [.slice c xs] ∧ xs.length ≤ maxLen ∧ ∀ x ∈ xs, ∃ cs,Shaped P k e cs ∧ x = if g then .agg cs else cs.getD 0 .undef := by
  simp only [Shaped] at h
  unfold qQ at hu
  split at hu
  · rename_i e' he
    rw [he] at h
    simp only [Option.some.injEq,Prod.mk.injEq] at hu
    obtain ⟨rfl,rfl,rfl⟩ := hu
    obtain ⟨xs,h1,h2,h3⟩ := h
    refine ⟨xs,h1,h2,fun x hx => ?_⟩
    obtain ⟨cs,g1,g2⟩ := h3 x hx
    refine ⟨cs,g1,g2.trans ?_⟩
    unfold jO
    split <;> rename_i hh <;> simp [hh]
  · cases hu
theorem fg {α : Type} {f : α → ab} {p : α → Prop} : ∀ {xs : List ab},(∀ x ∈ xs, ∃ a,x = f a ∧ p a) → ∃ l : List α,xs = l.map f ∧ ∀ a ∈ l,p a
  | [],_ => ⟨[],rfl,by simp⟩
  | x :: r,h => by
    obtain ⟨a,rfl,ha⟩ := h x (by simp)
    obtain ⟨l,rfl,hl⟩ := fg (xs := r) fun y hy => h y (by simp [hy])
    exact ⟨a :: l,rfl,fun b hb => by
      rcases List.mem_cons.1 hb with rfl | hb
      · exact ha
      · exact hl b hb⟩
open Go.Proofs Go.RowKit
set_option maxRecDepth 100000
set_option maxHeartbeats 1000000
theorem bJ {t : Nat} {us : List ab} {k : Nat} (h : Shaped Tryz.prog (k + 1) t us) (hu : sF Tryz.prog t = some .i64) : ∃ n,us = [ii' n] := by
  obtain ⟨n,h1,_⟩ := h.int hu
  exact ⟨n,h1⟩
def yK (P : Program) (t : TypeId) : Bool :=
  match P.underlying t with
  | some .bool => true
  | _ => false
theorem Shaped.bool {P : Program} {k : Nat} {t : TypeId} {us : List ab} (h : Shaped P (k + 1) t us) (hu : yK P t = true) : ∃ b,us = [.bool b] := by
  simp only [Shaped] at h
  unfold yK at hu
  split at hu
  · rename_i he
    rw [he] at h
    exact h
  · cases hu
theorem ty3 : sF Tryz.prog 3 = some .i64 := by kernel_rfl
theorem ty4 : yK Tryz.prog 4 = true := by kernel_rfl
theorem ty9 : DW Tryz.prog 9 = true := by kernel_rfl
theorem Qr : nB Tryz.prog 38 = some [24,27,29,33,34,35,36] := by kernel_rfl
theorem Qj : nB Tryz.prog 24 = some [22] := by kernel_rfl
theorem QL : qQ Tryz.prog 22 = some (90,7,true) := by kernel_rfl
theorem PB : nB Tryz.prog 90 = some [9,3,3,3,88,29] := by kernel_rfl
theorem RY : qQ Tryz.prog 88 = some (9,1,false) := by kernel_rfl
theorem Sx : nB Tryz.prog 29 = some [3,3] := by kernel_rfl
theorem R9 : nB Tryz.prog 27 = some [25,3,3] := by kernel_rfl
theorem RZ : qQ Tryz.prog 25 = some (92,7,true) := by kernel_rfl
theorem Ra : nB Tryz.prog 92 = some [9,3,29,3,29] := by kernel_rfl
theorem PA : nB Tryz.prog 33 = some [30,31] := by kernel_rfl
theorem QB : qQ Tryz.prog 30 = some (215,2,true) := by kernel_rfl
theorem Jx : nB Tryz.prog 215 = some [9,4] := by kernel_rfl
theorem Sn : qQ Tryz.prog 31 = some (217,3,true) := by kernel_rfl
theorem Jk : nB Tryz.prog 217 = some [3,3,4] := by kernel_rfl
theorem QV : qQ Tryz.prog 34 = some (3,1,false) := by kernel_rfl
theorem Q2 : qQ Tryz.prog 35 = some (146,2,true) := by kernel_rfl
theorem MI : nB Tryz.prog 146 = some [3,4] := by kernel_rfl
theorem PL : qQ Tryz.prog 36 = some (34,1,false) := by kernel_rfl
theorem iT {k : Nat} {us : List ab} (h : Shaped Tryz.prog (k + 2) 29 us) : ∃ a b,us = [ii' a,ii' b] := by
  obtain ⟨a,r,rfl,h1,b,r2,rfl,h2,rfl⟩ := h.fs Sx
  obtain ⟨x,rfl⟩ := bJ h1 ty3
  obtain ⟨y,rfl⟩ := bJ h2 ty3
  exact ⟨x,y,rfl⟩
theorem xH {k : Nat} {us : List ab} (h : Shaped Tryz.prog (k + 3) 92 us) : ∃ p : aq,us = p.cells := by
  obtain ⟨a,r,rfl,h1,b,r2,rfl,h2,c,r3,rfl,h3,d,r4,rfl,h4,e,r5,rfl,h5,rfl⟩ := h.fs Ra
  obtain ⟨s,rfl,_⟩ := h1.str ty9
  obtain ⟨n1,rfl⟩ := bJ h2 ty3
  obtain ⟨n2,n3,rfl⟩ := iT h3
  obtain ⟨n4,rfl⟩ := bJ h4 ty3
  obtain ⟨n5,n6,rfl⟩ := iT h5
  exact ⟨⟨s,n1,n2,n3,n4,n5,n6⟩,rfl⟩
theorem lu {k : Nat} {us : List ab} (h : Shaped Tryz.prog (k + 2) 34 us) : ∃ l : List Int,us = [.slice 1 (l.map ii')] ∧ l.length ≤ maxLen := by
  obtain ⟨xs,rfl,hl,hx⟩ := h.sl QV
  obtain ⟨l,rfl,_⟩ := fg (f := ii') (p := fun _ => True) (xs := xs) fun v hv => by
    obtain ⟨cs,g1,g2⟩ := hx v hv
    obtain ⟨n,rfl⟩ := bJ g1 ty3
    exact ⟨n,g2,trivial⟩
  exact ⟨l,rfl,by simpa using hl⟩
theorem xG {k : Nat} {us : List ab} (h : Shaped Tryz.prog (k + 2) 88 us) : ∃ l : List ByteArray,us = [.slice 1 (l.map .str)] ∧ l.length ≤ maxLen := by
  obtain ⟨xs,rfl,hl,hx⟩ := h.sl RY
  obtain ⟨l,rfl,_⟩ := fg (f := ab.str) (p := fun _ => True) (xs := xs) fun v hv => by
    obtain ⟨cs,g1,g2⟩ := hx v hv
    obtain ⟨n,rfl,_⟩ := g1.str ty9
    exact ⟨n,g2,trivial⟩
  exact ⟨l,rfl,by simpa using hl⟩
theorem Bf {k : Nat} {us : List ab} (h : Shaped Tryz.prog (k + 3) 90 us) : ∃ p : HuM,us = p.cells ∧ p.on.length ≤ maxLen := by
  obtain ⟨a,r,rfl,h1,b,r2,rfl,h2,c,r3,rfl,h3,d,r4,rfl,h4,e,r5,rfl,h5,f,r6,rfl,h6,rfl⟩ := h.fs PB
  obtain ⟨s,rfl,_⟩ := h1.str ty9
  obtain ⟨n1,rfl⟩ := bJ h2 ty3
  obtain ⟨n2,rfl⟩ := bJ h3 ty3
  obtain ⟨n3,rfl⟩ := bJ h4 ty3
  obtain ⟨on,rfl,ho⟩ := xG h5
  obtain ⟨n5,n6,rfl⟩ := iT h6
  exact ⟨⟨s,n1,n2,n3,on,n5,n6⟩,rfl,ho⟩
theorem yA {k : Nat} {us : List ab} (h : Shaped Tryz.prog (k + 2) 215 us) : ∃ p : aE,us = p.cells := by
  obtain ⟨a,r,rfl,h1,b,r2,rfl,h2,rfl⟩ := h.fs Jx
  obtain ⟨s,rfl,_⟩ := h1.str ty9
  obtain ⟨b,rfl⟩ := h2.bool ty4
  exact ⟨⟨s,b⟩,rfl⟩
theorem wY {k : Nat} {us : List ab} (h : Shaped Tryz.prog (k + 2) 217 us) : ∃ p : aG,us = p.cells := by
  obtain ⟨a,r,rfl,h1,b,r2,rfl,h2,c,r3,rfl,h3,rfl⟩ := h.fs Jk
  obtain ⟨n1,rfl⟩ := bJ h1 ty3
  obtain ⟨n2,rfl⟩ := bJ h2 ty3
  obtain ⟨b,rfl⟩ := h3.bool ty4
  exact ⟨⟨n1,n2,b⟩,rfl⟩
theorem wv {k : Nat} {us : List ab} (h : Shaped Tryz.prog (k + 2) 146 us) : ∃ p : a7,us = p.cells := by
  obtain ⟨a,r,rfl,h1,b,r2,rfl,h2,rfl⟩ := h.fs MI
  obtain ⟨n1,rfl⟩ := bJ h1 ty3
  obtain ⟨b,rfl⟩ := h2.bool ty4
  exact ⟨⟨n1,b⟩,rfl⟩
theorem eN {k : Nat} {us : List ab} (h : Shaped Tryz.prog (k + 6) 38 us) : ∃ t : ah,us = t.cells ∧ t.Ok := by
  obtain ⟨a,r,rfl,h1,b,r2,rfl,h2,c,r3,rfl,h3,d,r4,rfl,h4,e,r5,rfl,h5,f,r6,rfl,h6,g,r7,rfl,h7,rfl⟩ := h.fs Qr
  obtain ⟨a1,r1,rfl,g1,rfl⟩ := h1.fs Qj
  obtain ⟨xs,rfl,hxl,hx⟩ := g1.sl QL
  obtain ⟨ar,rfl,hon⟩ := fg (f := HuM.v) (p := fun p => p.on.length ≤ maxLen) (xs := xs) fun v hv => by
    obtain ⟨cs,q1,q2⟩ := hx v hv
    obtain ⟨p,rfl,q3⟩ := Bf q1
    exact ⟨p,q2,q3⟩
  obtain ⟨b1,r8,rfl,g2,b2,r9,rfl,g3,b3,r10,rfl,g4,rfl⟩ := h2.fs R9
  obtain ⟨ys,rfl,hyl,hy⟩ := g2.sl RZ
  obtain ⟨ps,rfl,_⟩ := fg (f := aq.v) (p := fun _ => True) (xs := ys) fun v hv => by
    obtain ⟨cs,q1,q2⟩ := hy v hv
    obtain ⟨p,rfl⟩ := xH q1
    exact ⟨p,q2,trivial⟩
  obtain ⟨aft,rfl⟩ := bJ g3 ty3
  obtain ⟨fore,rfl⟩ := bJ g4 ty3
  obtain ⟨lo,hi,rfl⟩ := iT h3
  obtain ⟨d1,r11,rfl,g5,d2,r12,rfl,g6,rfl⟩ := h4.fs PA
  obtain ⟨zs,rfl,hzl,hz⟩ := g5.sl QB
  obtain ⟨tanks,rfl,_⟩ := fg (f := aE.v) (p := fun _ => True) (xs := zs) fun v hv => by
    obtain ⟨cs,q1,q2⟩ := hz v hv
    obtain ⟨p,rfl⟩ := yA q1
    exact ⟨p,q2,trivial⟩
  obtain ⟨ws,rfl,hwl,hw⟩ := g6.sl Sn
  obtain ⟨pipes,rfl,_⟩ := fg (f := aG.v) (p := fun _ => True) (xs := ws) fun v hv => by
    obtain ⟨cs,q1,q2⟩ := hw v hv
    obtain ⟨p,rfl⟩ := wY q1
    exact ⟨p,q2,trivial⟩
  obtain ⟨blanks,rfl,hbl⟩ := lu h5
  obtain ⟨ss,rfl,hsl,hs⟩ := h6.sl Q2
  obtain ⟨steps,rfl,_⟩ := fg (f := a7.v) (p := fun _ => True) (xs := ss) fun v hv => by
    obtain ⟨cs,q1,q2⟩ := hs v hv
    obtain ⟨p,rfl⟩ := wv q1
    exact ⟨p,q2,trivial⟩
  obtain ⟨ts,rfl,htl,ht⟩ := h7.sl PL
  obtain ⟨lists,rfl,hll⟩ := fg (f := cj) (p := fun l => l.length ≤ maxLen) (xs := ts) fun v hv => by
    obtain ⟨cs,q1,q2⟩ := ht v hv
    obtain ⟨l,rfl,q3⟩ := lu q1
    exact ⟨l,q2,q3⟩
  refine ⟨⟨ar,⟨ps,aft,fore⟩,lo,hi,⟨tanks,pipes⟩,blanks,steps,lists⟩,rfl,⟨by simpa using hxl,hon⟩,by simpa using hyl,by simpa using hzl,by simpa using hwl,hbl,by simpa using hsl,by simpa using htl,hll⟩
end Go.AM
namespace Go.Proofs.YtmjfcbpgnmajpaaGreatDoor
open Go.ChangeShapes Go.WideShapes Go.ChangeAt Go.RowKit Go.AM
def isAgg (P : Program) (n : TypeId) : Bool := match ee (P.underlying n) with
  | some true => true
  | _ => false
theorem ot (n : Nat) (us : List ab) (h : isAgg Tryz.prog n = true) : jO (ee (Tryz.prog.underlying n)) us = .agg us := by
  unfold isAgg at h
  unfold jO
  split at h
  · rename_i e; rw [e]
  · cases h
theorem uo (n : Nat) (v : ab) (h : isAgg Tryz.prog n = false) : jO (ee (Tryz.prog.underlying n)) [v] = v := by
  unfold isAgg at h
  unfold jO
  split at h
  · cases h
  · rename_i hn
    split
    · rename_i e; exact absurd e hn
    · rfl
def CD (P : Program) (k : Nat) : List TypeId → Bool
  | [] => true
  | t :: r => cN P k t && P.readableRec t && decide (t < P.types.size) && CD P k r
theorem eG {P : Program} {k : Nat} : ∀ {l : List TypeId},CD P k l = true → ∀ t ∈ l,cN P k t = true ∧ P.readableRec t = true ∧ t < P.types.size
  | t :: r,h,x,hx => by
    simp only [CD,Bool.and_eq_true,decide_eq_true_eq] at h
    rcases List.mem_cons.1 hx with rfl | hx
    · exact ⟨h.1.1.1,h.1.1.2,h.1.2⟩
    · exact eG h.2 x hx
end Go.Proofs.YtmjfcbpgnmajpaaGreatDoor
namespace Go.AM
open Go.Proofs
set_option maxRecDepth 100000
set_option maxHeartbeats 1000000
theorem AZ {t : ah} (hf : t.Fit) : ∀ {l : List Nat} {s s' : Nat},goT t l s = some s' → ∀ k,k < 7 → s'.testBit k = (s.testBit k && !l.contains k)
  | [],s,s',h,k,_ => by
    rw [goT] at h
    cases h; simp
  | i :: r,s,s',h,k,hk => by
    rw [goT] at h
    split at h
    · rename_i h1
      rw [AZ hf h k hk,Dw (by have := hf.ship7; omega) hk,List.contains_cons]
      cases s.testBit k <;> by_cases e : i = k
      · simp
      · simp
      · subst e; simp
      · have : (k == i) = false := by simp; exact fun e2 => e e2.symm
        simp [e,this]
    · cases h
theorem ru {t : ah} (hf : t.Fit) {l : List Nat} {s' : Nat} (h : goT t l (aP t) = some s') {k : Nat} (hk : k < t.ar.length) : s'.testBit k = !l.contains k := by
  rw [AZ hf h k (by have := hf.ship7; omega),aP,A0]
  simp [hk]
theorem DF {t : ah} {l : List Nat} {s s' : Nat} (h : goT t l s = some s') (n : Nat) : ∃ s'',goT t (l.take n) s = some s'' := by
  have : goT t (l.take n ++ l.drop n) s = some s' := by rw [List.take_append_drop]; exact h
  rw [fS] at this
  obtain ⟨s'',h1,_⟩ := Option.bind_eq_some_iff.1 this
  exact ⟨s'',h1⟩
theorem DV {t : ah} {l : List Nat} {s s' : Nat} (h : goT t l s = some s') {i : Nat} (hi : i < l.length) : ∃ s1,goT t (l.take i) s = some s1 ∧ l[i] < t.ar.length ∧ bD t s1 l[i] = 0 := by
  have h2 : goT t (l.take i ++ (l[i] :: l.drop (i + 1))) s = some s' := by rw [← List.drop_eq_getElem_cons hi,List.take_append_drop]; exact h
  rw [fS] at h2
  obtain ⟨s1,h3,h4⟩ := Option.bind_eq_some_iff.1 h2
  rw [goT] at h4
  split at h4
  · rename_i h5; exact ⟨s1,h3,h5⟩
  · cases h4
theorem Bu {t : ah} (hf : t.Fit) {l : List Nat} {s : Nat} (h : goT t l (aP t) = some s) : l.length ≤ 7 := by
  have := (iQ hf (bU hf) h).2
  have := m7 _ (bU hf)
  omega
theorem uO {t : ah} : ∀ {l : List Int} {k s : Nat},l.all (inO t.ar.length) = true → (bH t l k s).1 = -1 → goT t (l.map Int.toNat) s = some (bH t l k s).2.2
  | [],k,s,_,_ => rfl
  | x :: r,k,s,hin,h => by
    rw [List.all_cons,Bool.and_eq_true] at hin
    rw [bH] at h ⊢
    split at h
    · simp only at h; omega
    · rename_i h1
      have h1 : bD t s x.toNat = 0 := by simpa using h1
      rw [if_neg (by simp [h1]),List.map_cons,goT,if_pos]
      · exact uO hin.2 h
      · have := hin.1
        simp only [inO,Bool.and_eq_true,decide_eq_true_eq] at this
        exact ⟨by omega,h1⟩
theorem xn {t : ah} : ∀ {l : List Int} {k s n : Nat},l.all (inO t.ar.length) = true → (bH t l k s).1 = ((k + n : Nat) : Int) → ∃ hn : n < l.length,goT t ((l.take n).map Int.toNat) s = some (bH t l k s).2.2 ∧ bD t (bH t l k s).2.2 (l[n]).toNat = (bH t l k s).2.1
  | [],k,s,n,_,h => by simp only [bH] at h; omega
  | x :: r,k,s,n,hin,h => by
    rw [List.all_cons,Bool.and_eq_true] at hin
    rw [bH] at h ⊢
    split at h
    · rename_i h1
      simp only at h
      obtain rfl : n = 0 := by omega
      rw [if_pos h1]
      exact ⟨by simp,rfl,rfl⟩
    · rename_i h1
      have h1 : bD t s x.toNat = 0 := by simpa using h1
      rw [if_neg (by simp [h1])]
      have hk : n ≠ 0 := by
        rintro rfl
        rcases sZ (t := t) (l := r) (k := k + 1) (s := aK s x.toNat) with g | g
        · rw [g.1] at h; omega
        · omega
      obtain ⟨m,rfl⟩ : ∃ m,n = m + 1 := ⟨n - 1,by omega⟩
      obtain ⟨h2,h3,h4⟩ := xn (n := m) hin.2 (by rw [h]; congr 1; omega)
      refine ⟨by simp; omega, ?_,by simpa using h4⟩
      rw [List.take_succ_cons,List.map_cons,goT,if_pos]
      · exact h3
      · have := hin.1
        simp only [inO,Bool.and_eq_true,decide_eq_true_eq] at this
        exact ⟨by omega,h1⟩
theorem pz {t : ah} : ∀ {l : List Nat} {k s s' : Nat},goT t l s = some s' → bH t (l.map fun (n : Nat) => (n : Int)) k s = (-1,0,s')
  | [],k,s,s',h => by
    rw [goT] at h
    cases h; rfl
  | i :: r,k,s,s',h => by
    rw [goT] at h
    split at h
    · rename_i h1
      rw [List.map_cons,bH,Int.toNat_natCast,if_neg (by simp [h1.2])]
      exact pz h
    · cases h
theorem Ar {t : ah} : ∀ {l : List Nat} {s s' : Nat},goT t l s = some s' → (l.map fun (n : Nat) => (n : Int)).all (inO t.ar.length) = true
  | [],_,_,_ => rfl
  | i :: r,s,s',h => by
    rw [goT] at h
    split at h
    · rename_i h1
      rw [List.map_cons,List.all_cons,Ar h]
      simp [inO,h1.1]
    · cases h
def ovL (l : List HuM) (at_ : Nat) : Nat → List Bool
  | 0 => []
  | n + 1 => ovL l at_ n ++ [decide (at_ < n) && (match l[n]? with | some y => y.on.any (fun s => decide (findF l s = at_) || (ovL l at_ n).getD (findF l s).toNat false) | none => false)]
theorem gZ (l : List HuM) (a : Nat) : ∀ n,(ovL l a n).length = n
  | 0 => rfl
  | n + 1 => by rw [ovL,List.length_append,gZ l a n]; rfl
theorem rJ (l : List HuM) (a : Nat) : ∀ (d n : Nat),ovL l a n <+: ovL l a (n + d)
  | 0,n => List.prefix_refl _
  | d + 1,n => (rJ l a d n).trans (by rw [← Nat.add_assoc,ovL]; exact List.prefix_append _ _)
theorem oL {l : List HuM} {a k n : Nat} (h : k < n) : (ovL l a n).getD k false = (ovL l a (k + 1)).getD k false := by
  obtain ⟨r,hr⟩ := rJ l a (n - (k + 1)) (k + 1)
  rw [show k + 1 + (n - (k + 1)) = n by omega] at hr
  rw [← hr,List.getD_eq_getElem?_getD,List.getElem?_append_left (by rw [gZ]; omega),List.getD_eq_getElem?_getD]
theorem vC {l : List HuM} {a k n : Nat} (h : k < n) : (ovL l a n).getD k false = (decide (a < k) && (match l[k]? with | some y => y.on.any (fun s => decide (findF l s = a) || (ovL l a k).getD (findF l s).toNat false) | none => false)) := by
  rw [oL h,ovL,List.getD_eq_getElem?_getD,List.getElem?_append_right (by rw [gZ]; omega),gZ,Nat.sub_self]
  rfl
theorem xu {α : Type} (p : α → Bool) : ∀ (a b : List α) (i : Nat),0 ≤ bK p a i → bK p (a ++ b) i = bK p a i
  | [],b,i,h => by simp [bK] at h
  | x :: a,b,i,h => by
    rw [List.cons_append]
    simp only [bK] at h ⊢
    split
    · rfl
    · rename_i hp
      rw [if_neg hp] at h
      exact xu p a b (i + 1) h
theorem zW {α : Type} (p : α → Bool) : ∀ (l : List α) (i j : Nat),bK p l i = (j : Int) → i ≤ j ∧ ∃ h : j - i < l.length,p l[j - i] = true
  | [],i,j,h => by simp only [bK] at h; omega
  | x :: l,i,j,h => by
    simp only [bK] at h
    split at h
    · rename_i hp
      obtain rfl : i = j := by omega
      exact ⟨Nat.le_refl _,by simp,by simpa using hp⟩
    · obtain ⟨h1,h2,h3⟩ := zW p l (i + 1) j h
      have e : j - i = (j - (i + 1)) + 1 := by omega
      exact ⟨by omega,by simp; omega,by simpa [e] using h3⟩
theorem yk {mt : HuM → HuM → Bool} {all : List HuM} : ∀ {r : List HuM} {i : Nat},(ml mt all r i).2.2 = 0 → ∀ j,(h : j < r.length) → ∀ s ∈ (r[j]).on,0 ≤ findF (all.take (i + j)) s
  | [],i,_,j,h => absurd h (by simp)
  | x :: r,i,h0,j,h => by
    rw [ml] at h0
    split at h0
    · rename_i h1; exact absurd h0 h1
    rename_i h1
    have h1 : cV mt x (all.take i) (all.take i) = 0 := by simpa using h1
    cases j with
    | succ j =>
      have := yk h0 j (by simpa using h)
      rw [show i + 1 + j = i + (j + 1) by omega] at this
      simpa using this
    | zero =>
      intro s hs
      simp only [List.getElem_cons_zero] at hs
      unfold cV at h1
      split at h1
      · cases h1
      split at h1
      · cases h1
      split at h1
      · cases h1
      split at h1
      · cases h1
      split at h1
      · cases h1
      rename_i h5
      rw [Bool.not_eq_true,List.any_eq_false] at h5
      have := h5 s hs
      simp only [decide_eq_true_eq] at this
      rw [Nat.add_zero]
      omega
theorem vj {t : ah} (h : (aN t).2.2 = 0) {k : Nat} (hk : k < t.ar.length) {s : ByteArray} (hs : s ∈ (t.ar[k]).on) : ∃ j : Nat,findF t.ar s = (j : Int) ∧ j < k ∧ ∃ hj : j < t.ar.length,(t.ar[j]).name.toList = s.toList := by
  have h1 : (fY t.ar).2.2 = 0 := by
    unfold aN at h
    split at h
    · rename_i h1; exact absurd h h1
    · rename_i h1; simpa using h1
  rw [Aq,qC] at h1
  split at h1
  · cases h1
  have h2 := yk h1 k hk s hs
  rw [Nat.zero_add] at h2
  obtain ⟨j,h3,h4⟩ := oI h2
  have h5 : findF t.ar s = findF (t.ar.take k) s := by
    have := xu (fun y : HuM => y.name.toList == s.toList) (t.ar.take k) (t.ar.drop k) 0 h2
    rw [List.take_append_drop] at this
    exact this
  rw [h3] at h5
  obtain ⟨_,h6,h7⟩ := zW _ _ 0 j h5
  rw [List.length_take] at h4
  exact ⟨j,h5,by omega,by simpa using h6,by simpa using h7⟩
theorem oX {t : ah} (hf : t.Fit) {g : List Nat} {s' : Nat} (hg : goT t g (aP t) = some s') {i : Nat} (hi : i < g.length) {k : Nat} (hk : k < t.ar.length) {hgi : g[i] < t.ar.length} (ho : onF t.ar[k] (t.ar[g[i]]).name = true) : k ∈ g.take i := by
  obtain ⟨s1,h1,h2,h3⟩ := DV hg hi
  have hand : s1 &&& bN t g[i] = 0 := by
    apply Classical.byContradiction
    intro hne
    unfold bD at h3
    split at h3
    · cases h3
    · cases h3
  have hov : im t s1 g[i] t.ar.length = false := by rw [Ai hf,hand]; rfl
  have hb : (bN t g[i]).testBit k = true := by
    unfold bN
    rw [mM,jD]
    simp [hk,hgi,ho]
  have hs : s1.testBit k = false := by
    cases hc : s1.testBit k
    · rfl
    · have := (rB (t := t) (s := s1) (i := g[i]) (n := t.ar.length)).2 ⟨k,hk,hc,hb⟩
      rw [hov] at this; cases this
  rw [ru hf h1 hk] at hs
  simpa using hs
theorem ub {t : ah} (hf : t.Fit) (hc : (aN t).2.2 = 0) {g : List Nat} {s' : Nat} (hg : goT t g (aP t) = some s') {i : Nat} (hi : i < g.length) : ∀ (n k : Nat),k < n → k < t.ar.length → (ovL t.ar g[i] t.ar.length).getD k false = true → k ∈ g.take i
  | 0,k,h,_,_ => absurd h (by omega)
  | n + 1,k,h,hk,ho => by
    rw [vC hk,Bool.and_eq_true,List.getElem?_eq_getElem hk,List.any_eq_true] at ho
    obtain ⟨_,s,hs,ho⟩ := ho
    obtain ⟨j,h1,h2,h3,h4⟩ := vj hc hk hs
    have hon : onF t.ar[k] (t.ar[j]).name = true := by
      unfold onF
      rw [List.any_eq_true]
      exact ⟨s,hs,by simp [h4]⟩
    rw [Bool.or_eq_true,decide_eq_true_eq,h1] at ho
    rcases ho with e | e
    · have e : j = g[i] := by omega
      subst e
      exact oX hf hg hi hk hon
    · have e2 : (ovL t.ar g[i] t.ar.length).getD j false = true := by
        rw [oL (by omega)]
        rw [Int.toNat_natCast,oL h2] at e
        exact e
      have hj := ub hf hc hg hi n j (by omega) (by omega) e2
      obtain ⟨m,hm,hm2⟩ := List.mem_take_iff_getElem.1 hj
      have hmg : m < g.length := by omega
      have hgm : g[m] < t.ar.length := by rw [hm2]; omega
      have := oX hf hg hmg hk (hgi := hgm) (by simpa [hm2] using hon)
      exact List.mem_of_mem_take (l := g.take i) (i := m) (by rw [List.take_take]; rwa [Nat.min_eq_left (by omega)])
set_option maxRecDepth 100000
set_option maxHeartbeats 1000000
theorem TA {t : ah} (hc : (aN t).2.2 = 0) (q : Nat) (h1 : q < t.ar.length) : bz t [(q : Int)] = 0 := by
  unfold bz
  rw [if_neg (by simp [hc]),if_pos]
  simp [inO,h1]
theorem Ta (t : ah) : ∀ {k s : Nat} {b : List Nat},(SX t k s b).Pairwise fun x y => lexB x y = true
  | 0,s,b => by simp [SX]
  | k + 1,s,b => by
    rw [SX,List.pairwise_flatMap]
    refine ⟨fun i _ => Ta t,(xg t s).imp ?_⟩
    intro i j hij x hx y hy
    rw [SZ,List.mem_map] at hx hy
    obtain ⟨x',_,rfl⟩ := hx
    obtain ⟨y',_,rfl⟩ := hy
    rw [List.append_assoc,List.append_assoc,vh]
    simp [lexB,hij]
theorem S5 {t : ah} (hf : t.Fit) : ∀ {k s : Nat} {b : List Nat},(SX t k s b).length ≤ 7 ^ k
  | 0,s,b => by simp [SX]
  | k + 1,s,b => by
    rw [SX]
    have hc : (bq t s).length ≤ 7 := Nat.le_trans (List.length_filter_le _ _) (by simp; exact hf.ship7)
    have : ∀ l : List Nat,(l.flatMap fun i => SX t k (aK s i) (b ++ [i])).length ≤ l.length * 7 ^ k := by
      intro l
      induction l with
      | nil => simp
      | cons x l ih =>
        rw [List.flatMap_cons,List.length_append,List.length_cons,Nat.add_mul,Nat.one_mul]
        have := S5 hf (k := k) (s := aK s x) (b := b ++ [x])
        omega
    refine Nat.le_trans (this _) ?_
    rw [Nat.pow_succ,Nat.mul_comm]
    exact Nat.mul_le_mul_left _ hc
theorem ui {t : ah} {l : List Nat} {s p : Nat} (h : goT t l (aP t) = some s) (hl : l.getLast? = some p) : ∃ r s',l = r ++ [p] ∧ goT t r (aP t) = some s' ∧ p < t.ar.length ∧ bD t s' p = 0 := by
  obtain ⟨r,rfl⟩ := List.getLast?_eq_some_iff.1 hl
  rw [fS] at h
  obtain ⟨s',h1,h2⟩ := Option.bind_eq_some_iff.1 h
  rw [goT] at h2
  split at h2
  · rename_i h3; exact ⟨r,s',rfl,h1,h3⟩
  · cases h2
theorem H3 {t : ah} (hf : t.Fit) {p : Nat} (hp : p < t.ar.length) {q : Place} (h : toQ t p = some q) : goT t (q.2 ++ [p]) (aP t) = some (aK q.1 p) := by
  have h1 := List.mem_of_find?_eq_some h
  have h2 := List.find?_some h
  rw [fS,(kX hf).go q h1,Option.bind_some,goT,if_pos ⟨hp,by simpa using h2⟩,goT]
theorem Bv {t : ah} (hf : t.Fit) {p : Nat} {q : Place} (h : toQ t p = some q) {l : List Nat} {s : Nat} (hg : goT t l (aP t) = some s) (hl : l.getLast? = some p) : slE (q.2 ++ [p]) l := by
  obtain ⟨r,s',rfl,h1,h2,h3⟩ := ui hg hl
  obtain ⟨q',g1,rfl,g3⟩ := vM (kX hf) _ r s' rfl h1
  refine xc (uI ?_ g3)
  obtain ⟨_,xs,ys,e,hn⟩ := List.find?_eq_some_iff_append.1 h
  have hs := (kX hf).sorted
  rw [e] at g1 hs
  rcases List.mem_append.1 g1 with g | g
  · have := hn q' g
    simp [h3] at this
  · rcases List.mem_cons.1 g with rfl | g
    · exact .inl rfl
    · exact .inr ((List.pairwise_cons.1 (List.pairwise_append.1 hs).2.1).1 q' g)
theorem CO {t : ah} (hf : t.Fit) {p : Nat} (h : toQ t p = none) {l : List Nat} {s : Nat} (hg : goT t l (aP t) = some s) : l.getLast? ≠ some p := by
  intro hl
  obtain ⟨r,s',rfl,h1,h2,h3⟩ := ui hg hl
  obtain ⟨q',g1,rfl,g3⟩ := vM (kX hf) _ r s' rfl h1
  have := List.find?_eq_none.1 h q' g1
  simp [h3] at this
def S8 (p : Nat) (l : List Nat) : Bool := l.getLast? == some p
theorem TJ {t : ah} {k : Nat} {l : List Nat} (h : l ∈ SX t k (aP t) []) : l.length = k ∧ ∃ s,goT t l (aP t) = some s := by
  obtain ⟨h1,h2⟩ := S0.1 h
  exact ⟨h1,Option.isSome_iff_exists.1 h2⟩
theorem TM {t : ah} (hf : t.Fit) {p m i : Nat} (hp : p < t.ar.length) {o : List Nat} (hm : ∀ k,0 < k → k < m → (SX t k (aP t) []).any (S8 p) = false) (hi : i < (SX t m (aP t) []).length) (ho : (SX t m (aP t) [])[i] = o) (hn : ((SX t m (aP t) []).take i).any (S8 p) = false) (he : S8 p o = true) : ∃ q,toQ t p = some q ∧ q.2 ++ [p] = o := by
  obtain ⟨h1,s,h2⟩ := TJ (ho ▸ List.getElem_mem hi)
  have he' : o.getLast? = some p := by simpa [S8] using he
  cases hq : toQ t p with
  | none => exact absurd he' (CO hf hq h2)
  | some q =>
    refine ⟨q,rfl, ?_⟩
    have hg := H3 hf hp hq
    have hend : S8 p (q.2 ++ [p]) = true := by simp [S8]
    rcases Bv hf hq h2 he' with e | e
    · exact e
    exfalso
    rcases e with e | ⟨e,e2⟩
    · have : q.2 ++ [p] ∈ SX t (q.2 ++ [p]).length (aP t) [] := S0.2 ⟨rfl,by rw [hg]; rfl⟩
      have h5 := hm (q.2 ++ [p]).length (by simp) (by omega)
      rw [List.any_eq_false] at h5
      exact h5 _ this hend
    · have : q.2 ++ [p] ∈ SX t m (aP t) [] := S0.2 ⟨by omega,by rw [hg]; rfl⟩
      obtain ⟨j,hj,ej⟩ := List.mem_iff_getElem.1 this
      rcases Nat.lt_trichotomy j i with h | h | h
      · rw [List.any_eq_false] at hn
        refine hn _ ?_ hend
        rw [← ej]
        exact List.mem_take_iff_getElem.2 ⟨j,by omega,rfl⟩
      · subst h
        rw [ho] at ej
        rw [← ej,Tj] at e2; cases e2
      · have h6 := List.pairwise_iff_getElem.1 (Ta t (k := m) (s := aP t) (b := [])) i j hi hj h
        rw [ho,ej] at h6
        have := rA h6 e2
        rw [Tj] at this; cases this
theorem TR {t : ah} (hf : t.Fit) {p : Nat} (hp : p < t.ar.length) (hm : ∀ k,0 < k → k < t.ar.length + 1 → (SX t k (aP t) []).any (S8 p) = false) : toQ t p = none := by
  cases hq : toQ t p with
  | none => rfl
  | some q =>
    exfalso
    have hg := H3 hf hp hq
    have h1 := (iQ hf (bU hf) hg).2
    have h2 : pop (aP t) = t.ar.length := Ac _ hf.ship7
    have h5 := hm (q.2 ++ [p]).length (by simp) (by omega)
    rw [List.any_eq_false] at h5
    exact h5 _ (S0.2 ⟨rfl,by rw [hg]; rfl⟩) (by simp [S8])
def Tr (t : ah) (s i : Nat) : Bool := bD t s i == 0 && cT t (aK s i)
theorem Tx {t : ah} (hf : t.Fit) {s : Nat} (hs : s < 128) (hw : cT t s = true) (h0 : s ≠ 0) : ∃ i,(List.range t.ar.length).find? (Tr t s) = some i ∧ i < t.ar.length ∧ bD t s i = 0 ∧ cT t (aK s i) = true ∧ cK t s = i :: cK t (aK s i) := by
  have hm : aR t s = pop s := by simpa [cT] using hw
  have hp : pop s ≠ 0 := fun e => h0 (xO s hs e)
  obtain ⟨i,h1,h2,h3,h4⟩ := kp hf hs (by omega)
  have hpr := fZ s hs i (by have := hf.ship7; omega) (eA h3)
  refine ⟨i, ?_,h2,h3,by simp only [cT,beq_iff_eq]; omega,mJ h1 h4⟩
  rw [← h1,p9,bq,List.find?_filter]
  congr 1
  funext j
  unfold Tr
  cases hj : bD t s j == 0
  · simp
  · have hj' : bD t s j = 0 := by simpa using hj
    have hb := eA hj'
    have hj7 : j < 7 := by
      rcases Nat.lt_or_ge j 7 with h | h
      · exact h
      · rw [oH (k := 7) hs h] at hb; cases hb
    have := fZ s hs j hj7 hb
    simp only [Bool.true_and,cT]
    rw [Bool.eq_iff_iff]
    simp only [beq_iff_eq,true_and,decide_eq_true_eq]
    omega
theorem Tz {t : ah} (hf : t.Fit) {s : Nat} (hs : s < 128) : cT t s = true ↔ (cK t s).length = pop s := by
  rw [lQ hf rfl hs]
  simp [cT]
set_option maxRecDepth 100000
set_option maxHeartbeats 1000000
def vy (t : ah) (f : Nat → Nat) : Nat → Nat → List Nat → List Nat
  | 0,_,out => out
  | k + 1,s,out => if bq t s = [] then out else vy t f k (aK s ((bq t s).getD (f out.length % (bq t s).length) 0)) (out ++ [(bq t s).getD (f out.length % (bq t s).length) 0])
def qk (t : ah) (f : Nat → Nat) (most : Nat) : List Nat := vy t f most (aP t) []
theorem x8 {l : List Nat} (h : l ≠ []) (n : Nat) : l.getD (n % l.length) 0 ∈ l := by
  have h0 : 0 < l.length := List.length_pos_iff.2 h
  have := Nat.mod_lt n h0
  rw [List.getD_eq_getElem?_getD,List.getElem?_eq_getElem this]
  exact List.getElem_mem _
theorem Al {t : ah} {f : Nat → Nat} : ∀ {k s : Nat} {out : List Nat},goT t out (aP t) = some s → ∃ s',goT t (vy t f k s out) (aP t) = some s' ∧ (vy t f k s out).length ≤ out.length + k ∧ ((vy t f k s out).length = out.length + k ∨ bq t s' = [])
  | 0,s,out,h => ⟨s,h,Nat.le_refl _, .inl rfl⟩
  | k + 1,s,out,h => by
    rw [vy]
    split
    · rename_i hc
      exact ⟨s,h,by omega, .inr hc⟩
    · rename_i hc
      have hm := bg.1 (x8 hc (f out.length))
      obtain ⟨s',h1,h2,h3⟩ := Al (f := f) (k := k) (s := aK s ((bq t s).getD (f out.length % (bq t s).length) 0)) (out := out ++ [(bq t s).getD (f out.length % (bq t s).length) 0]) (by rw [fS,h,Option.bind_some,goT,if_pos hm,goT])
      simp only [List.length_append,List.length_singleton] at h2 h3
      exact ⟨s',h1,by omega,h3.imp (fun h => by omega) id⟩
theorem nV (t : ah) (f : Nat → Nat) (most : Nat) : ∃ s',goT t (qk t f most) (aP t) = some s' ∧ (qk t f most).length ≤ most := by
  obtain ⟨s',h1,h2,_⟩ := Al (t := t) (f := f) (k := most) (s := aP t) (out := []) rfl
  exact ⟨s',h1,by simpa [qk] using h2⟩
theorem dh {t : ah} (hf : t.Fit) {l : List Nat} {s : Nat} (h : goT t l (aP t) = some s) : l.length ≤ 7 := by
  have := (iQ hf (bU hf) h).2
  have := m7 _ (bU hf)
  omega
theorem rM {t : ah} (hc : (aN t).2.2 = 0) {l : List Nat} {s : Nat} (h : goT t l (aP t) = some s) : bz t (l.map fun (n : Nat) => (n : Int)) = 0 := by
  unfold bz
  rw [if_neg (by simp [hc]),if_pos (Ar h)]
theorem nU {t : ah} (hc : (aN t).2.2 = 0) {l : List Nat} {s : Nat} (h : goT t l (aP t) = some s) : qY t (l.map fun (n : Nat) => (n : Int)) = (-1,0,0) := by
  unfold qY
  rw [rM hc h,if_neg (by simp),pz h]
  rfl
theorem iU {t : ah} (hc : (aN t).2.2 = 0) {l : List Nat} {s : Nat} (h : goT t l (aP t) = some s) : cA t (l.map fun (n : Nat) => (n : Int)) = 0 ∧ gN t (l.map fun (n : Nat) => (n : Int)) = s := by
  unfold cA gN
  rw [rM hc h,if_neg (by simp),pz h]
  exact ⟨rfl,rfl⟩
theorem A7 {t : ah} (hf : t.Fit) {l : List Nat} {s : Nat} (h : goT t l (aP t) = some s) : l.length ≤ (cK t (aP t)).length := by
  rw [lQ hf rfl (bU hf)]
  have := xw hf (bU hf) h
  omega
theorem AX {t : ah} (hf : t.Fit) : ∃ s,goT t (cK t (aP t)) (aP t) = some s := by
  obtain ⟨s,h,_⟩ := xX hf (t := t) (s := aP t) rfl (bU hf)
  exact ⟨s,h⟩
theorem sI {t : ah} (hf : t.Fit) : 0 < t.ar.length := by
  have h := hf.err
  rw [← hf.hull]
  unfold eF dk at h
  split at h
  · cases h
  · rename_i h1
    simp [aW,gA] at h1
    omega
theorem uZ {t : ah} (hc : (aN t).2.2 = 0) (p : Int) (h0 : 0 ≤ p) (h1 : p < t.ar.length) : bz t [p] = 0 := by
  unfold bz
  rw [if_neg (by simp [hc]),if_pos]
  simp [inO,h0,h1]
theorem EH {t : ah} (hc : (aN t).2.2 = 0) {p : Nat} (hp : p < t.ar.length) {l : List Nat} {s i : Nat} (h : goT t l (aP t) = some s) (hi : i < l.length) (he : l[i] = p) : toE t p = 0 ∧ (toL t p).length ≤ i + 1 := by
  have hf := bm hc
  have ho := uZ hc (p : Int) (by omega) (by omega)
  obtain ⟨s1,h1⟩ := DF h (i + 1)
  have hlast : (l.take (i + 1)).getLast? = some p := by
    rw [List.getLast?_eq_getElem?,List.length_take,Nat.min_eq_left (by omega),Nat.add_sub_cancel,List.getElem?_take]
    rw [if_pos (by omega),List.getElem?_eq_getElem hi,he]
  unfold toE toL
  rw [if_pos ho,if_pos ho,Int.toNat_natCast]
  cases hq : toQ t p with
  | none => exact absurd hlast (CO hf hq h1)
  | some q =>
    refine ⟨rfl, ?_⟩
    rcases Bv hf hq h1 hlast with e | e
    · simp only
      rw [e,List.length_take]; omega
    · simp only
      rcases e with e | ⟨e,_⟩
      · rw [List.length_take] at e; omega
      · rw [List.length_take] at e; omega
theorem Lv {t : ah} (hc : (aN t).2.2 = 0) {p : Nat} (hp : p < t.ar.length) : (toE t p = 9 ∧ toL t p = []) ∨ (toE t p = 0 ∧ ∃ r s,toL t p = r ++ [p] ∧ goT t (r ++ [p]) (aP t) = some s) := by
  have hf := bm hc
  have ho := uZ hc (p : Int) (by omega) (by omega)
  unfold toE toL
  rw [if_pos ho,if_pos ho,Int.toNat_natCast]
  cases hq : toQ t p with
  | none => exact .inl ⟨rfl,rfl⟩
  | some q => exact .inr ⟨rfl,q.2,_,rfl,H3 hf hp hq⟩
end Go.AM
