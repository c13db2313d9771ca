/- An executor: it runs abstract code on known values; what it says holds of the program. -/
import Derived.Test.YtmjfcbpgnmajpaaGreatDoorA16
namespace Go.AM
open Go.RowKit

abbrev XR := Option (ARes × AHeap)

/-- A loop over a function that is under way. -/
structure Rnd where
  b : Nat
  N : Nat
  asg : AC
  body : AC

def xv : XV → XR
  | some (v, σ) => some (.ret v, σ)
  | none => none

def xI (call : AVal → List AVal → AHeap → XR) (ρ : AOpr → AVal) (σ : AHeap) : AI → XR
  | .alloc z => some (.ret (.ptr (σ.length + (mintL z σ.length).2.length) 0), σ ++ (mintL z σ.length).2 ++ [.box (mintL z σ.length).1])
  | .box n x => if cellsLenB (ρ x) n then some (.ret (.ptr σ.length 0), σ ++ [.box (ρ x).cells]) else none
  | .pbox n x => if cellsLenB (ρ x) n then some (.ret (.pval (ρ x)), σ) else none
  | .loadd k x => if loadB k σ (ρ x) then some (.ret (loadV k σ (ρ x)).deown, σ) else none
  | .mvd x => some (.ret (ρ x).deown, σ)
  | .buildm z ps => if fillB (mintL z σ.length).1.length ρ ps then some (.ret (.agg (fillV (mintL z σ.length).1 (ps.map fun p => (p.1, (ρ p.2.2).cells)))), σ ++ (mintL z σ.length).2) else none
  | .storem sz x => if storeB (σ ++ [.spare sz 0]) 1 (.oslice sz [] σ.length 0) (ρ x) then some (.ret .undef, storeV (σ ++ [.spare sz 0]) (.oslice sz [] σ.length 0) (ρ x)) else none
  | .nilS m sz => if m = 1 then some (.ret (.oslice sz [] σ.length 0), σ ++ [.spare sz 0]) else if m = 3 then some (.ret (.oslice sz [] σ.length 1), σ ++ [.spare sz 1]) else some (.ret (.sref sz σ.length 0 0 0), σ ++ [.arr sz []])
  | .lit m sz n ps => if litB sz n ρ ps then (if m = 0 then some (.ret (.slice sz (litV ρ (List.replicate n .undef) ps)), σ)
      else if m = 1 then some (.ret (.oslice sz (litV ρ (List.replicate n .undef) ps) σ.length 0), σ ++ [.spare sz 0])
      else some (.ret (.sref sz σ.length 0 n n), σ ++ [.arr sz (litV ρ (List.replicate n .undef) ps)])) else none
  | .store sz x v => if storeB σ sz (ρ v) (ρ x) then some (.ret .undef, storeV σ (ρ v) (ρ x)) else none
  | .call f dn l => call (ρ f) (deowns dn (l.map ρ)) σ
  | .append sz bytes x y => if elemsB σ sz (ρ y) && fitsB sz ((ρ y).elems σ) then xv (appendX sz bytes σ (ρ x) ((ρ y).elems σ)) else none
  | .sub m sz x lo hi mx => if bndB ρ lo && bndB ρ hi && bndB ρ mx then xv (subX m sz σ (ρ x) (bndV ρ 0 lo) (fun n => bndV ρ n hi) (mx.map fun x => intV (ρ x))) else none
  | .freeze sz x => xv (freezeX sz σ (ρ x))
  | .range x => xv (rangeX σ (ρ x))
  | .subO sz x lo => xv (subOX sz σ (ρ x) (ρ lo))
  | .isnil neg x => xv (isnilX neg σ (ρ x))
  | .snil neg x => xv (snilX neg σ (ρ x))
  | .gix g x => xv (gixX g σ (ρ x))
  | .mnew => some (.ret (.map σ.length), σ ++ [.amap []])
  | .mget ok lk z x i => xv (mgetX ok lk z σ (ρ x) (ρ i))
  | .mset lk x k v => xv (msetX lk σ (ρ x) (ρ k) (ρ v))
  | .next x => xv (nextX σ (ρ x))
  | .mksl m sz bytes z n c => if isIntB (ρ n) && isIntB (ρ c) then xv (mkslX m sz bytes σ z (intV (ρ n)) (intV (ρ c))) else none
  | .clear sz z x => xv (clearX sz σ z (ρ x))
  | .copyB sz x y => if elemsB σ sz (ρ y) && fitsB sz ((ρ y).elems σ) then xv (copyX sz σ (ρ x) ((ρ y).elems σ)) else none
  | .panic x => match ρ x with
    | .iface t v => some (.pan (.iface t v), σ)
    | _ => none
  | i => if i.plain && sideB ρ σ i then some (.ret (i.val ρ σ), σ) else none

def resK (K Kp : AVal → AHeap → Prop) : ARes → AHeap → Prop
  | .ret v, σ => K v σ
  | .pan v, σ => Kp v σ

theorem xv_some {x : XV} {r : ARes} {σ : AHeap} (h : xv x = some (r, σ)) : ∃ v, x = some (v, σ) ∧ r = .ret v := by
  cases x with
  | none => cases h
  | some p => obtain ⟨v, s⟩ := p; simp only [xv, Option.some.injEq, Prod.mk.injEq] at h; obtain ⟨rfl, rfl⟩ := h; exact ⟨v, rfl, rfl⟩

/-- What a call says holds. -/
def CallOk (P : Program) (call : AVal → List AVal → AHeap → XR) : Prop :=
  ∀ fv args σ r σ', call fv args σ = some (r, σ') → ∀ Q : ARes → AHeap → Prop, Q r σ' → CallV P fv args σ Q

theorem xI_ok {P : Program} {call : AVal → List AVal → AHeap → XR} (hc : CallOk P call) {ρ : AOpr → AVal} {σ : AHeap} {i : AI} {r : ARes} {σ' : AHeap} {K Kp : AVal → AHeap → Prop} (h : xI call ρ σ i = some (r, σ')) (hk : resK K Kp r σ') : awpI P i ρ σ K Kp := by
  cases i with
  | alloc z =>
    simp only [xI, Option.some.injEq, Prod.mk.injEq] at h
    obtain ⟨rfl, rfl⟩ := h
    exact hk
  | box n x =>
    simp only [xI] at h
    split at h
    · rename_i h1
      simp only [Option.some.injEq, Prod.mk.injEq] at h
      obtain ⟨rfl, rfl⟩ := h
      exact ⟨cellsLenB_ok h1, hk⟩
    · cases h
  | loadd k x =>
    simp only [xI] at h
    split at h
    · rename_i h1
      simp only [Option.some.injEq, Prod.mk.injEq] at h
      obtain ⟨rfl, rfl⟩ := h
      exact ⟨loadB_ok h1, hk⟩
    · cases h
  | mvd x =>
    simp only [xI, Option.some.injEq, Prod.mk.injEq] at h
    obtain ⟨rfl, rfl⟩ := h
    exact hk
  | pbox n x =>
    simp only [xI] at h
    split at h
    · rename_i h1
      simp only [Option.some.injEq, Prod.mk.injEq] at h
      obtain ⟨rfl, rfl⟩ := h
      exact ⟨cellsLenB_ok h1, hk⟩
    · cases h
  | buildm z ps =>
    simp only [xI] at h
    split at h
    · rename_i h1
      simp only [Option.some.injEq, Prod.mk.injEq] at h
      obtain ⟨rfl, rfl⟩ := h
      exact ⟨fillB_ok h1, hk⟩
    · cases h
  | storem sz x =>
    simp only [xI] at h
    split at h
    · rename_i h1
      simp only [Option.some.injEq, Prod.mk.injEq] at h
      obtain ⟨rfl, rfl⟩ := h
      exact ⟨storeB_ok h1, hk⟩
    · cases h
  | nilS m sz =>
    simp only [xI] at h
    simp only [awpI]
    by_cases h1 : m = 1
    · rw [if_pos h1] at h ⊢
      simp only [Option.some.injEq, Prod.mk.injEq] at h
      obtain ⟨rfl, rfl⟩ := h
      exact hk
    · rw [if_neg h1] at h ⊢
      by_cases h3 : m = 3
      · rw [if_pos h3] at h ⊢
        simp only [Option.some.injEq, Prod.mk.injEq] at h
        obtain ⟨rfl, rfl⟩ := h
        exact hk
      · rw [if_neg h3] at h ⊢
        simp only [Option.some.injEq, Prod.mk.injEq] at h
        obtain ⟨rfl, rfl⟩ := h
        exact hk
  | lit m sz n ps =>
    simp only [xI] at h
    simp only [awpI]
    split at h
    · rename_i h1
      refine ⟨litB_ok h1, ?_⟩
      by_cases e0 : m = 0
      · rw [if_pos e0] at h ⊢
        simp only [Option.some.injEq, Prod.mk.injEq] at h
        obtain ⟨rfl, rfl⟩ := h
        exact hk
      · rw [if_neg e0] at h ⊢
        by_cases e1 : m = 1
        · rw [if_pos e1] at h ⊢
          simp only [Option.some.injEq, Prod.mk.injEq] at h
          obtain ⟨rfl, rfl⟩ := h
          exact hk
        · rw [if_neg e1] at h ⊢
          simp only [Option.some.injEq, Prod.mk.injEq] at h
          obtain ⟨rfl, rfl⟩ := h
          exact hk
    · cases h
  | store sz x v =>
    simp only [xI] at h
    split at h
    · rename_i h1
      simp only [Option.some.injEq, Prod.mk.injEq] at h
      obtain ⟨rfl, rfl⟩ := h
      exact ⟨storeB_ok h1, hk⟩
    · cases h
  | call f dn l => exact (hc _ _ _ _ _ h (resK K Kp) hk).mono fun r σ hr => by cases r <;> exact hr
  | append sz bytes x y =>
    simp only [xI] at h
    split at h
    · rename_i h1
      simp only [Bool.and_eq_true] at h1
      obtain ⟨v, h2, rfl⟩ := xv_some h
      exact ⟨elemsB_ok h1.1, fitsB_ok h1.2, appendX_ok h2 hk⟩
    · cases h
  | sub m sz x lo hi mx =>
    simp only [xI] at h
    split at h
    · rename_i h1
      simp only [Bool.and_eq_true] at h1
      obtain ⟨v, h2, rfl⟩ := xv_some h
      exact ⟨bndB_ok h1.1.1, bndB_ok h1.1.2, bndB_ok h1.2, subX_ok h2 hk⟩
    · cases h
  | freeze sz x => obtain ⟨v, h2, rfl⟩ := xv_some h; exact freezeX_ok h2 hk
  | range x => obtain ⟨v, h2, rfl⟩ := xv_some h; exact rangeX_ok h2 hk
  | next x => obtain ⟨v, h2, rfl⟩ := xv_some h; exact nextX_ok h2 hk
  | subO sz x lo => obtain ⟨v, h2, rfl⟩ := xv_some h; exact subOX_ok h2 hk
  | isnil neg x => obtain ⟨v, h2, rfl⟩ := xv_some h; exact isnilX_ok h2 hk
  | snil neg x => obtain ⟨v, h2, rfl⟩ := xv_some h; exact snilX_ok h2 hk
  | gix g x => obtain ⟨v, h2, rfl⟩ := xv_some h; exact gixX_ok h2 hk
  | mget ok lk z x i => obtain ⟨v, h2, rfl⟩ := xv_some h; exact mgetX_ok h2 hk
  | mset lk x k v => obtain ⟨v, h2, rfl⟩ := xv_some h; exact msetX_ok h2 hk
  | mnew =>
    simp only [xI, Option.some.injEq, Prod.mk.injEq] at h
    obtain ⟨rfl, rfl⟩ := h
    exact hk
  | mksl m sz bytes z n c =>
    simp only [xI] at h
    split at h
    · rename_i h1
      simp only [Bool.and_eq_true] at h1
      obtain ⟨v, h2, rfl⟩ := xv_some h
      exact ⟨isIntB_ok h1.1, isIntB_ok h1.2, mkslX_ok h2 hk⟩
    · cases h
  | clear sz z x => obtain ⟨v, h2, rfl⟩ := xv_some h; exact clearX_ok h2 hk
  | copyB sz x y =>
    simp only [xI] at h
    split at h
    · rename_i h1
      simp only [Bool.and_eq_true] at h1
      obtain ⟨v, h2, rfl⟩ := xv_some h
      exact ⟨elemsB_ok h1.1, fitsB_ok h1.2, copyX_ok h2 hk⟩
    · cases h
  | panic x =>
    simp only [xI] at h
    simp only [awpI]
    cases hv : ρ x <;> rw [hv] at h <;> first | (cases h; done) | skip
    simp only [Option.some.injEq, Prod.mk.injEq] at h
    obtain ⟨rfl, rfl⟩ := h
    exact hk
  | _ =>
    simp only [xI] at h
    split at h
    · rename_i h1
      simp only [Bool.and_eq_true] at h1
      simp only [Option.some.injEq, Prod.mk.injEq] at h
      obtain ⟨rfl, rfl⟩ := h
      exact ⟨h1.1, sideB_ok h1.2, hk⟩
    · cases h

def xO (call : AVal → List AVal → AHeap → XR) (i : AI) (e : Env) (σ : AHeap) : XR :=
  if i.quiet then (if qsideB e σ i then some (.ret (qval e σ i), σ) else none)
  else if needsB e i.opers then xI call (opv e) σ i else none

theorem xO_ok {P : Program} {call : AVal → List AVal → AHeap → XR} (hc : CallOk P call) {i : AI} {e : Env} {σ : AHeap} {r : ARes} {σ' : AHeap} {K Kp : AVal → AHeap → Prop} (h : xO call i e σ = some (r, σ')) (hk : resK K Kp r σ') : awpO P i e σ K Kp := by
  unfold xO at h
  unfold awpO
  split at h
  · rename_i h1
    rw [if_pos h1]
    split at h
    · rename_i h2
      simp only [Option.some.injEq, Prod.mk.injEq] at h
      obtain ⟨rfl, rfl⟩ := h
      exact ⟨qsideB_ok h2, hk⟩
    · cases h
  · rename_i h1
    rw [if_neg h1]
    split at h
    · rename_i h2
      exact ⟨needsB_ok h2, xI_ok hc h hk⟩
    · cases h

/-- Does an instruction change the heap? -/
def AI.still : AI → Bool
  | .call _ _ _ | .alloc _ | .box _ _ | .nilS _ _ | .store _ _ _ | .append _ _ _ _ | .sub _ _ _ _ _ _ | .freeze _ _ | .range _ | .next _ | .mksl _ _ _ _ _ _ | .clear _ _ _ | .copyB _ _ _ | .buildm _ _ | .storem _ _ | .mnew | .mset _ _ _ _ | .subO _ _ _ => false
  | .lit m _ _ _ => m == 0
  | _ => true

/-- How deep a result is brought to its plain form. -/
def AI.deep : AI → Nat
  | .mv _ | .extract _ _ | .pick _ _ _ => 0
  | .field none _ _ | .ixV _ _ none _ _ => 0
  | .field (some _) _ _ | .ixV _ _ (some _) _ _ | .load _ _ | .build _ _ => 1
  | _ => 2

def forceSt {α : Type} (i : AI) (σ : AHeap) (K : AHeap → α) : α := if i.still then K σ else forceS σ K
theorem forceSt_eq {α : Type} (i : AI) (σ : AHeap) (K : AHeap → α) : forceSt i σ K = K σ := by unfold forceSt; split <;> simp [forceS_eq]

/-! ### The frequent instructions by short ways -/
def stepG (call : AVal → List AVal → AHeap → XR) (i : AI) (e : Env) (σ : AHeap) : XR :=
  match xO call i e σ with
  | some (.ret v, σ') => forceV i.deep v fun v => forceSt i σ' fun σ' => some (.ret v, σ')
  | some (.pan v, σ') => some (.pan v, σ')
  | none => none
theorem stepG_eq (call : AVal → List AVal → AHeap → XR) (i : AI) (e : Env) (σ : AHeap) : stepG call i e σ = xO call i e σ := by
  unfold stepG
  cases xO call i e σ with
  | none => rfl
  | some q => obtain ⟨q, s⟩ := q; cases q <;> simp [forceV_eq, forceSt_eq]

def unopt (v : AVal) : Option AVal :=
  match v with
  | .opt g v => if g then some v else none
  | v => some v
theorem unopt_eq (v : AVal) : unopt v = if v.cond then some v.strip else none := by
  cases v <;> first | rfl | (rename_i g v; cases g <;> rfl)
def opX (e : Env) (x : AOpr) : Option AVal :=
  match x with
  | .t n => unopt (e.get n)
  | .c v => some v
  | .f n => some (.func (.func n) [] [])
theorem opX_eq (e : Env) (x : AOpr) : opX e x = if opg e x then some (opv e x) else none := by
  cases x with
  | t n => exact unopt_eq _
  | _ => simp [opX, opg, opv]

def retH (v : AVal) (σ : AHeap) : XR := forceH v fun v => some (.ret v, σ)
def ret1 (v : AVal) (σ : AHeap) : XR := forceV 1 v fun v => some (.ret v, σ)
theorem retH_eq (v : AVal) (σ : AHeap) : retH v σ = some (.ret v, σ) := forceH_eq _ _
theorem ret1_eq (v : AVal) (σ : AHeap) : ret1 v σ = some (.ret v, σ) := forceV_eq _ _ _

def appS {α : Type} : AHeap → AObj → (AHeap → α) → α
  | [], o, K => K [o]
  | x :: r, o, K => appS r o fun r => K (x :: r)
theorem appS_eq {α : Type} : ∀ (l : AHeap) (o : AObj) (K : AHeap → α), appS l o K = K (l ++ [o])
  | [], _, _ => rfl
  | x :: r, o, K => by simp [appS, appS_eq r]
def setS {α : Type} : AHeap → Nat → AObj → (AHeap → α) → α
  | [], _, _, K => K []
  | _ :: r, 0, o, K => K (o :: r)
  | x :: r, n + 1, o, K => setS r n o fun r => K (x :: r)
theorem setS_eq {α : Type} : ∀ (l : AHeap) (n : Nat) (o : AObj) (K : AHeap → α), setS l n o K = K (l.set n o)
  | [], _, _, _ => rfl
  | x :: r, 0, o, K => rfl
  | x :: r, n + 1, o, K => by simp [setS, setS_eq r]

def sMv (e : Env) (x : AOpr) (σ : AHeap) : XR :=
  match opX e x with
  | some a => retH a σ
  | none => none
def sBin (e : Env) (op : BinOp) (x y : AOpr) (σ : AHeap) : XR :=
  match opX e x with
  | some a => match opX e y with
    | some b => if binB op a b then retH (binV op a b) σ else none
    | none => none
  | none => none
def sLoad (e : Env) (k : Option Nat) (x : AOpr) (σ : AHeap) : XR :=
  match opX e x with
  | some a => if loadB k σ a then ret1 (loadV k σ a) σ else none
  | none => none
def sFieldAddr (e : Env) (k : Option Nat) (off : Nat) (x : AOpr) (σ : AHeap) : XR :=
  match opX e x with
  | some a => if fieldAddrB k off a then ret1 (fieldAddrV k off a) σ else none
  | none => none
def sField (e : Env) (k : Option Nat) (off : Nat) (x : AOpr) (σ : AHeap) : XR :=
  match opX e x with
  | some a => if aggB k off a then ret1 (aggV k off a) σ else none
  | none => none
def sIxS (e : Env) (sz : Nat) (x i : AOpr) (σ : AHeap) : XR :=
  match opX e x with
  | some a => match opX e i with
    | some b => if isIntB b && ixSB sz (intV b) a then ret1 (ixSV (intV b) a) σ else none
    | none => none
  | none => none
def sIxA (e : Env) (m sz : Nat) (k : Option Nat) (x i : AOpr) (σ : AHeap) : XR :=
  match opX e x with
  | some a => match opX e i with
    | some b => if isIntB b && decide (0 ≤ intV b) && decide (intV b < m) && fieldAddrB k ((intV b).toNat * sz) a then ret1 (fieldAddrV k ((intV b).toNat * sz) a) σ else none
    | none => none
  | none => none
def sIxV (e : Env) (m sz : Nat) (k : Option Nat) (x i : AOpr) (σ : AHeap) : XR :=
  match opX e x with
  | some a => match opX e i with
    | some b => if isIntB b && decide (0 ≤ intV b) && decide (intV b < m) && aggB k ((intV b).toNat * sz) a then ret1 (aggV k ((intV b).toNat * sz) a) σ else none
    | none => none
  | none => none
def sExtract (e : Env) (x : AOpr) (i : Nat) (σ : AHeap) : XR :=
  match opX e x with
  | some (.tup vs) => if i < vs.length then retH (vs.getD i .undef) σ else none
  | _ => none
def sLen (e : Env) (x : AOpr) (σ : AHeap) : XR :=
  match opX e x with
  | some a => if lenB a then retH (lenV a) σ else none
  | none => none
def sUn (e : Env) (op : UnOp) (x : AOpr) (σ : AHeap) : XR :=
  match opX e x with
  | some a => if unB op a then retH (unV op a) σ else none
  | none => none
def sPick (e : Env) (c a b : AOpr) (σ : AHeap) : XR :=
  if qsideB e σ (.pick c a b) then retH (qval e σ (.pick c a b)) σ else none
def sPbox (e : Env) (n : Nat) (x : AOpr) (σ : AHeap) : XR :=
  match opX e x with
  | some a => if cellsLenB a n then some (.ret (.pval a), σ) else none
  | none => none
def sBox (e : Env) (n : Nat) (x : AOpr) (σ : AHeap) : XR :=
  match opX e x with
  | some a => if cellsLenB a n then appS σ (.box a.cells) fun σ' => forceNat σ.length fun l => some (.ret (.ptr l 0), σ') else none
  | none => none
def sAlloc (z : List AVal) (σ : AHeap) : XR :=
  if noMint z then appS σ (.box z) fun σ' => forceNat σ.length fun l => some (.ret (.ptr l 0), σ')
  else some (.ret (.ptr (σ.length + (mintL z σ.length).2.length) 0), σ ++ (mintL z σ.length).2 ++ [.box (mintL z σ.length).1])
def sStore (e : Env) (sz : Nat) (x v : AOpr) (σ : AHeap) : XR :=
  match opX e x with
  | some a => match opX e v with
    | some c => if storeB σ sz c a then match a with
      | .ptr b off => match σ.get b with
        | .box cs => forceL forceH (putCells cs off c.cells) fun cs => setS σ b (.box cs) fun σ' => some (.ret .undef, σ')
        | _ => none
      | _ => forceS (storeV σ c a) fun σ' => some (.ret .undef, σ')
      else none
    | none => none
  | none => none
def sCall (call : AVal → List AVal → AHeap → XR) (e : Env) (f : AOpr) (dn : List Bool) (l : List AOpr) (σ : AHeap) : XR :=
  if needsB e (f :: l) then call (opv e f) (deowns dn (l.map (opv e))) σ else none

def step (call : AVal → List AVal → AHeap → XR) (i : AI) (e : Env) (σ : AHeap) : XR :=
  match i with
  | .mv x => sMv e x σ
  | .bin op x y => sBin e op x y σ
  | .load k x => sLoad e k x σ
  | .fieldAddr k off x => sFieldAddr e k off x σ
  | .field k off x => sField e k off x σ
  | .ixS sz x i => sIxS e sz x i σ
  | .ixA m sz k x i => sIxA e m sz k x i σ
  | .ixV m sz k x i => sIxV e m sz k x i σ
  | .extract x i => sExtract e x i σ
  | .len x => sLen e x σ
  | .un op x => sUn e op x σ
  | .pick c a b => sPick e c a b σ
  | .pbox n x => sPbox e n x σ
  | .box n x => sBox e n x σ
  | .alloc z => sAlloc z σ
  | .store sz x v => sStore e sz x v σ
  | .call f dn l => sCall call e f dn l σ
  | i => stepG call i e σ

theorem noMint_mintL : ∀ {z : List AVal} (n : Nat), noMint z = true → mintL z n = (z, [])
  | [], _, _ => rfl
  | v :: r, n, h => by
    cases v <;> first | (simp [noMint] at h; done) | (simp only [noMint] at h; simp [mintL, noMint_mintL n h])

theorem step_eq {call : AVal → List AVal → AHeap → XR} {i : AI} {e : Env} {σ : AHeap} {r : ARes} {σ' : AHeap} (h : step call i e σ = some (r, σ')) : xO call i e σ = some (r, σ') := by
  cases i with
  | mv x =>
    simp only [step, sMv, opX_eq, retH_eq] at h
    simp only [xO, AI.quiet, AI.plain, if_true, qsideB, AI.opers, needsB, sideB, qval, AI.val]
    cases hx : opg e x <;> simp [hx] at h ⊢; exact h
  | bin op x y =>
    simp only [step, sBin, opX_eq, retH_eq] at h
    simp only [xO, AI.quiet, AI.plain, if_true, qsideB, AI.opers, needsB, sideB, qval, AI.val]
    cases hx : opg e x <;> cases hy : opg e y <;> simp [hx, hy] at h ⊢; exact h
  | load k x =>
    simp only [step, sLoad, opX_eq, ret1_eq] at h
    simp only [xO, AI.quiet, AI.plain, if_true, qsideB, AI.opers, needsB, sideB, qval, AI.val]
    cases hx : opg e x <;> simp [hx] at h ⊢; exact h
  | fieldAddr k off x =>
    simp only [step, sFieldAddr, opX_eq, ret1_eq] at h
    simp only [xO, AI.quiet, AI.plain, if_true, qsideB, AI.opers, needsB, sideB, qval, AI.val]
    cases hx : opg e x <;> simp [hx] at h ⊢; exact h
  | field k off x =>
    simp only [step, sField, opX_eq, ret1_eq] at h
    simp only [xO, AI.quiet, AI.plain, if_true, qsideB, AI.opers, needsB, sideB, qval, AI.val]
    cases hx : opg e x <;> simp [hx] at h ⊢; exact h
  | ixS sz x i =>
    simp only [step, sIxS, opX_eq, ret1_eq] at h
    simp only [xO, AI.quiet, AI.plain, if_true, qsideB, AI.opers, needsB, sideB, qval, AI.val]
    cases hx : opg e x <;> cases hy : opg e i <;> simp [hx, hy] at h ⊢; exact h
  | ixA m sz k x i =>
    simp only [step, sIxA, opX_eq, ret1_eq] at h
    simp only [xO, AI.quiet, AI.plain, if_true, qsideB, AI.opers, needsB, sideB, qval, AI.val]
    cases hx : opg e x <;> cases hy : opg e i <;> simp [hx, hy] at h ⊢; exact h
  | ixV m sz k x i =>
    simp only [step, sIxV, opX_eq, ret1_eq] at h
    simp only [xO, AI.quiet, AI.plain, if_true, qsideB, AI.opers, needsB, sideB, qval, AI.val]
    cases hx : opg e x <;> cases hy : opg e i <;> simp [hx, hy] at h ⊢; exact h
  | extract x i =>
    simp only [step, sExtract, opX_eq, retH_eq] at h
    simp only [xO, AI.quiet, AI.plain, if_true, qsideB, AI.opers, needsB, sideB, qval, AI.val]
    cases hx : opg e x
    · simp [hx] at h
    · cases hv : opv e x <;> simp [hx, hv] at h ⊢; exact h
  | len x =>
    simp only [step, sLen, opX_eq, retH_eq] at h
    simp only [xO, AI.quiet, AI.plain, if_true, qsideB, AI.opers, needsB, sideB, qval, AI.val]
    cases hx : opg e x <;> simp [hx] at h ⊢; exact h
  | un op x =>
    simp only [step, sUn, opX_eq, retH_eq] at h
    simp only [xO, AI.quiet, AI.plain, if_true, qsideB, AI.opers, needsB, sideB, qval, AI.val]
    cases hx : opg e x <;> simp [hx] at h ⊢; exact h
  | pick c a b =>
    simp only [step, sPick, retH_eq] at h
    simp only [xO, AI.quiet, if_true]
    exact h
  | pbox n x =>
    simp only [step, sPbox, opX_eq] at h
    simp only [xO, AI.quiet, AI.plain, AI.opers, needsB, xI]
    cases hx : opg e x <;> simp [hx] at h ⊢; exact h
  | box n x =>
    simp only [step, sBox, opX_eq, appS_eq, forceNat_eq] at h
    simp only [xO, AI.quiet, AI.plain, AI.opers, needsB, xI]
    cases hx : opg e x <;> simp [hx] at h ⊢; exact h
  | alloc z =>
    simp only [step, sAlloc, appS_eq, forceNat_eq] at h
    simp only [xO, AI.quiet, AI.plain, AI.opers, needsB, xI]
    split at h
    · rename_i hm
      rw [noMint_mintL _ hm]
      simpa using h
    · simpa using h
  | store sz x v =>
    simp only [step, sStore, opX_eq] at h
    simp only [xO, AI.quiet, AI.plain, AI.opers, needsB, xI]
    cases hx : opg e x
    · simp [hx] at h
    · cases hy : opg e v
      · simp [hx, hy] at h
      · simp only [hx, hy, if_true, Bool.and_true, Bool.false_eq_true, if_false] at h ⊢
        split at h
        · rename_i hs
          rw [if_pos hs]
          cases ha : opv e x with
          | ptr b off =>
            rw [ha] at h
            simp only at h
            cases hb : σ.get b with
            | box cs =>
              rw [hb] at h
              simp only [forceL_eq (fun v K => forceH_eq v K), setS_eq] at h
              simp only [storeV, hb]
              exact h
            | _ => rw [hb] at h; cases h
          | _ => rw [ha] at h; simp only [forceS_eq] at h; exact h
        · cases h
  | call f dn l =>
    simp only [step, sCall] at h
    simp only [xO, AI.quiet, AI.plain, AI.opers, xI]
    exact h
  | _ => simp only [step, stepG_eq] at h; exact h

structure XE where
  x : AEx
  e : Env
  ds : List ADef
  σ : AHeap

def mkOpt (q : Bool) (v : AVal) : AVal :=
  match q with
  | true => .opt true v
  | false => v

/-- Operations one after the other: none: a panic. -/
def xOps (call : AVal → List AVal → AHeap → XR) : List AOper → Env → AHeap → Option (Option AVal × Env × AHeap)
  | [], e, σ => some (none, e, σ)
  | o :: r, e, σ =>
    match o.g with
    | none => match step call o.i e σ with
      | some (.ret v, σ') => xOps call r (e.put o.d v) σ'
      | some (.pan v, σ') => some (some v, e, σ')
      | none => none
    | some gd => match gcond e gd with
      | none => none
      | some false => match o.i.quiet with
        | true => xOps call r (e.put o.d (.opt false (qval e σ o.i))) σ
        | false => xOps call r (e.put o.d (.opt false .undef)) σ
      | some true => match step call o.i e σ with
          | some (.ret v, σ') => xOps call r (e.put o.d (mkOpt o.i.quiet v)) σ'
          | some (.pan v, σ') => some (some v, e, σ')
          | none => none

theorem xO_quiet {call : AVal → List AVal → AHeap → XR} {i : AI} {e : Env} {σ : AHeap} {r : ARes} {σ' : AHeap} (hq : i.quiet = true) (h : xO call i e σ = some (r, σ')) : qsideB e σ i = true ∧ r = .ret (qval e σ i) ∧ σ' = σ := by
  unfold xO at h
  rw [if_pos hq] at h
  split at h
  · rename_i h1
    simp only [Option.some.injEq, Prod.mk.injEq] at h
    obtain ⟨rfl, rfl⟩ := h
    exact ⟨h1, rfl, rfl⟩
  · cases h

theorem xOps_ok {P : Program} {call : AVal → List AVal → AHeap → XR} (hc : CallOk P call) {ds : List ADef} {K : Fr → AHeap → Prop} {Kp : AVal → Fr → AHeap → Prop} : ∀ {ops : List AOper} {e : Env} {σ : AHeap} {p : Option AVal} {e' : Env} {σ' : AHeap},
    xOps call ops e σ = some (p, e', σ') → (match p with | none => K ⟨e', ds⟩ σ' | some v => Kp v ⟨e', ds⟩ σ') → awpOps P ops ⟨e, ds⟩ σ K Kp
  | [], e, σ, p, e', σ', h, hk => by
    simp only [xOps, Option.some.injEq, Prod.mk.injEq] at h
    obtain ⟨rfl, rfl, rfl⟩ := h
    exact hk
  | o :: r, e, σ, p, e', σ', h, hk => by
    simp only [xOps] at h
    simp only [awpOps]
    cases hg : o.g with
    | none =>
      rw [hg] at h
      simp only at h
      cases hx : step call o.i e σ with
      | none => rw [hx] at h; cases h
      | some q =>
        obtain ⟨q, σ1⟩ := q
        rw [hx] at h
        cases q with
        | ret v => exact xO_ok hc (step_eq hx) (xOps_ok hc h hk)
        | pan v =>
          simp only [Option.some.injEq, Prod.mk.injEq] at h
          obtain ⟨rfl, rfl, rfl⟩ := h
          exact xO_ok hc (step_eq hx) hk
    | some gd =>
      rw [hg] at h
      simp only at h ⊢
      cases hgc : gcond e gd with
      | none => rw [hgc] at h; cases h
      | some b =>
        rw [hgc] at h
        cases b with
        | false =>
          simp only at h ⊢
          cases hq : o.i.quiet with
          | true =>
            rw [hq] at h
            rw [if_pos rfl]
            exact ⟨fun e => (by cases e), xOps_ok hc h hk⟩
          | false =>
            rw [hq] at h
            rw [if_neg (by simp)]
            exact ⟨fun e => (by cases e), fun _ => xOps_ok hc h hk⟩
        | true =>
          simp only at h ⊢
          cases hx : step call o.i e σ with
          | none => rw [hx] at h; cases h
          | some q =>
            obtain ⟨q, σ1⟩ := q
            rw [hx] at h
            have hx' := step_eq hx
            cases hq : o.i.quiet with
            | true =>
              obtain ⟨h1, rfl, rfl⟩ := xO_quiet hq hx'
              rw [hq] at h
              rw [if_pos rfl]
              exact ⟨fun _ => qsideB_ok h1, xOps_ok hc h hk⟩
            | false =>
              rw [if_neg (by simp)]
              refine ⟨fun _ => ?_, fun e => (by cases e)⟩
              cases q with
              | ret v =>
                rw [hq] at h
                exact xO_ok hc hx' (xOps_ok hc h hk)
              | pan v =>
                simp only [Option.some.injEq, Prod.mk.injEq] at h
                obtain ⟨rfl, rfl, rfl⟩ := h
                exact xO_ok hc hx' hk

/-! ### Regions whose order is open -/
def wrX (σ : AHeap) (v x : AVal) : Option DEff := wrOf σ v x

def appDX (sz bytes : Nat) (σ : AHeap) (x y : AVal) : Option (AVal × DEff) :=
  match flatOf y with
  | none => none
  | some ys => if elemsB [] sz y && fitsB sz ys then match x with
    | .oslice sz' xs b k => if sz' == sz && decide ((xs.length + ys.length) * bytes ≤ 140737488355328) then match σ.get b with
      | .spare sz'' k' => if sz'' == sz && k' == k then some (.oslice sz (xs ++ ys) b (k + 1), .wr b (.spare sz (k + 1))) else none
      | _ => none
      else none
    | _ => none
    else none
theorem appDX_ok {sz bytes : Nat} {σ : AHeap} {x y : AVal} {v : AVal} {f : DEff} {K : AVal → DEff → Prop} (h : appDX sz bytes σ x y = some (v, f)) (hk : K v f) : appD sz bytes σ x y K := by
  unfold appDX at h
  unfold appD
  cases hf : flatOf y with
  | none => rw [hf] at h; cases h
  | some ys =>
    rw [hf] at h
    simp only at h ⊢
    split at h
    · rename_i h1
      simp only [Bool.and_eq_true] at h1
      refine ⟨elemsB_ok h1.1, fitsB_ok h1.2, ?_⟩
      cases x with
      | oslice sz' xs b k =>
        simp only at h ⊢
        split at h
        · rename_i h2
          simp only [Bool.and_eq_true, beq_iff_eq, decide_eq_true_eq] at h2
          refine ⟨h2.1, h2.2, ?_⟩
          cases hb : σ.get b <;> rw [hb] at h <;> first | (cases h; done) | skip
          simp only at h ⊢
          split at h
          · rename_i h3
            simp only [Bool.and_eq_true, beq_iff_eq] at h3
            simp only [Option.some.injEq, Prod.mk.injEq] at h
            obtain ⟨rfl, rfl⟩ := h
            exact ⟨h3.1, h3.2, hk⟩
          · cases h
        · cases h
      | _ => cases h
    · cases h

/-- A call that touches nothing. -/
def PcallOk (P : Program) (pcall : AVal → List AVal → Option AVal) : Prop :=
  ∀ fv args v, pcall fv args = some v → ∀ σ, CallV P fv args σ fun q σ' => q = .ret v ∧ σ' = σ

def isNone' {α : Type} : Option α → Bool
  | none => true
  | some _ => false

def mkOkB (bytes : Nat) (n c : AVal) : Bool := isIntB n && isIntB c && decide (0 ≤ intV n) && decide (intV n ≤ intV c) && decide (intV c * bytes ≤ 140737488355328) && decide (intV c ≤ 140737488355328)
theorem mkOkB_ok {bytes : Nat} {n c : AVal} (h : mkOkB bytes n c = true) : mkOk bytes n c := by
  simp only [mkOkB, Bool.and_eq_true, decide_eq_true_eq] at h
  exact ⟨isIntB_ok h.1.1.1.1.1, isIntB_ok h.1.1.1.1.2, h.1.1.1.2, h.1.1.2, h.1.2, h.2⟩

/-- What a call that makes memory says. -/
def AcallOk (P : Program) (acall : Nat → AVal → List AVal → Option (List AVal)) : Prop :=
  ∀ sz fv args xs, acall sz fv args = some xs → ∀ σ, CallV P fv args σ fun q σ' => q = .ret (.oslice sz xs σ.length 1) ∧ σ' = σ ++ [.spare sz 1]

def xD (pcall : AVal → List AVal → Option AVal) (acall : Nat → AVal → List AVal → Option (List AVal)) : List AOper → Env → AHeap → List DEff → Option (Env × AHeap × List DEff)
  | [], e, σ, es => some (e, σ, es)
  | o :: r, e, σ, es =>
    match dguard o.g e with
    | none => none
    | some c => match o.i with
      | .call f dn l => if c then (if needsB e (f :: l) then match pcall (opv e f) (deowns dn (l.map (opv e))) with
          | some v => forceV 2 v fun v => xD pcall acall r (e.put o.d (gopt o.g c v)) σ (rdL (opv e f :: l.map (opv e)) :: es)
          | none => none
          else none)
        else xD pcall acall r (e.put o.d (gopt o.g c .undef)) σ (rdL (opv e f :: l.map (opv e)) :: es)
      | .box n x => if isNone' o.g && needsB e [x] && cellsLenB (opv e x) n then forceS (σ ++ [.box (opv e x).cells]) fun σ' => xD pcall acall r (e.put o.d (.ptr σ.length 0)) σ' (.al (.box (opv e x).cells) :: es) else none
      | .alloc z => if isNone' o.g && noMint z then forceS (σ ++ [.box z]) fun σ' => xD pcall acall r (e.put o.d (.ptr σ.length 0)) σ' (.al (.box z) :: es) else none
      | .callA sz f dn l => if isNone' o.g && needsB e (f :: l) then match acall sz (opv e f) (deowns dn (l.map (opv e))) with
          | some xs => forceL (forceV 1) xs fun xs => forceS (σ ++ [.spare sz 1]) fun σ' => xD pcall acall r (e.put o.d (.oslice sz xs σ.length 1)) σ' (.al (.spare sz 1) :: es)
          | none => none
          else none
      | .mnew => if isNone' o.g then forceS (σ ++ [.amap []]) fun σ' => xD pcall acall r (e.put o.d (.map σ.length)) σ' (.al (.amap []) :: es) else none
      | .mksl m sz bytes z n k => if m == 2 && isNone' o.g && needsB e [n, k] && mkOkB bytes (opv e n) (opv e k) then forceS (σ ++ [.arr sz (List.replicate (intV (opv e n)).toNat z)]) fun σ' =>
          xD pcall acall r (e.put o.d (.sref sz σ.length 0 (intV (opv e n)).toNat (intV (opv e n)).toNat)) σ' (.al (.arr sz (List.replicate (intV (opv e n)).toNat z)) :: es) else none
      | .store sz x v => if isNone' o.g && needsB e [x, v] && storeB σ sz (opv e v) (opv e x) then match wrOf σ (opv e v) (opv e x) with
        | some f => forceS (f.run σ) fun σ' => xD pcall acall r (e.put o.d .undef) σ' (f :: es)
        | none => none
        else none
      | .append sz bytes x y => if isNone' o.g && needsB e [x, y] then match appDX sz bytes σ (opv e x) (opv e y) with
        | some (v, f) => forceV 2 v fun v => forceS (f.run σ) fun σ' => xD pcall acall r (e.put o.d v) σ' (f :: es)
        | none => none
        else none
      | .lit m sz n ps => if m == 0 then (if c then (if needsB e (ps.map (·.2)) && litB sz n (opv e) ps then forceV 2 (.slice sz (litV (opv e) (List.replicate n .undef) ps)) fun v => xD pcall acall r (e.put o.d (gopt o.g c v)) σ (.no :: es) else none)
        else xD pcall acall r (e.put o.d (gopt o.g c (.slice sz (litV (opv e) (List.replicate n .undef) ps)))) σ (.no :: es)) else none
      | i => match i.quiet with
        | true => if c then (match step (fun _ _ _ => none) i e σ with
            | some (.ret v, _) => xD pcall acall r (e.put o.d (gopt o.g c v)) σ (dqEff e i :: es)
            | _ => none) else xD pcall acall r (e.put o.d (gopt o.g c (qval e σ i))) σ (dqEff e i :: es)
        | false => none

theorem isNone'_ok {α : Type} {x : Option α} (h : isNone' x = true) : x = none := by cases x <;> first | rfl | cases h

theorem xD_ok {P : Program} {pcall : AVal → List AVal → Option AVal} (hc : PcallOk P pcall) {acall : Nat → AVal → List AVal → Option (List AVal)} (hac : AcallOk P acall) {K : Env → AHeap → List DEff → Prop} : ∀ {ops : List AOper} {e : Env} {σ : AHeap} {es : List DEff} {e' : Env} {σ' : AHeap} {es' : List DEff},
    xD pcall acall ops e σ es = some (e', σ', es') → K e' σ' es' → dEval P ops e σ es K
  | [], e, σ, es, e', σ', es', h, hk => by
    simp only [xD, Option.some.injEq, Prod.mk.injEq] at h
    obtain ⟨rfl, rfl, rfl⟩ := h
    exact hk
  | o :: r, e, σ, es, e', σ', es', h, hk => by
    simp only [xD] at h
    simp only [dEval]
    cases hg : dguard o.g e with
    | none => rw [hg] at h; cases h
    | some c =>
      rw [hg] at h
      simp only at h ⊢
      have quietCase : ∀ {i : AI}, (match i.quiet with
        | true => if c then (match step (fun _ _ _ => none) i e σ with
            | some (.ret v, _) => xD pcall acall r (e.put o.d (gopt o.g c v)) σ (dqEff e i :: es)
            | _ => none) else xD pcall acall r (e.put o.d (gopt o.g c (qval e σ i))) σ (dqEff e i :: es)
        | false => none) = some (e', σ', es') → i.quiet = true ∧ (c = true → qside e σ i) ∧ dEval P r (e.put o.d (gopt o.g c (qval e σ i))) σ (dqEff e i :: es) K := by
        intro i h
        cases hq : i.quiet with
        | false => rw [hq] at h; cases h
        | true =>
          rw [hq] at h
          simp only at h
          refine ⟨rfl, ?_⟩
          split at h
          · cases hx : step (fun _ _ _ => none) i e σ with
            | none => rw [hx] at h; cases h
            | some q =>
              obtain ⟨q, σ1⟩ := q
              rw [hx] at h
              obtain ⟨h1, rfl, rfl⟩ := xO_quiet hq (step_eq hx)
              exact ⟨fun _ => qsideB_ok h1, xD_ok hc hac h hk⟩
          · rename_i hcf
            exact ⟨fun e => absurd e hcf, xD_ok hc hac h hk⟩
      cases hi : o.i with
      | call f dn l =>
        rw [hi] at h
        simp only at h ⊢
        split at h
        · rename_i h1
          split at h
          · rename_i h2
            cases hp : pcall (opv e f) (deowns dn (l.map (opv e))) with
            | none => rw [hp] at h; cases h
            | some v =>
              rw [hp] at h
              simp only [forceV_eq] at h
              exact ⟨v, fun _ => ⟨needsB_ok h2, fun σ' _ => hc _ _ _ hp σ'⟩, xD_ok hc hac h hk⟩
          · cases h
        · rename_i h1
          exact ⟨.undef, fun e => absurd e h1, xD_ok hc hac h hk⟩
      | box n x =>
        rw [hi] at h
        simp only at h ⊢
        split at h
        · rename_i h1
          simp only [Bool.and_eq_true] at h1
          simp only [forceS_eq] at h
          exact ⟨isNone'_ok h1.1.1, needsB_ok h1.1.2, cellsLenB_ok h1.2, xD_ok hc hac h hk⟩
        · cases h
      | alloc z =>
        rw [hi] at h
        simp only at h ⊢
        split at h
        · rename_i h1
          simp only [Bool.and_eq_true] at h1
          simp only [forceS_eq] at h
          exact ⟨isNone'_ok h1.1, h1.2, xD_ok hc hac h hk⟩
        · cases h
      | callA sz f dn l =>
        rw [hi] at h
        simp only at h ⊢
        split at h
        · rename_i h1
          simp only [Bool.and_eq_true] at h1
          cases hx : acall sz (opv e f) (deowns dn (l.map (opv e))) with
          | none => rw [hx] at h; cases h
          | some xs =>
            rw [hx] at h
            simp only [forceL_eq (fun v K => forceV_eq 1 v K), forceS_eq] at h
            exact ⟨isNone'_ok h1.1, needsB_ok h1.2, xs, fun σ' => hac _ _ _ _ hx σ', xD_ok hc hac h hk⟩
        · cases h
      | mnew =>
        rw [hi] at h
        simp only at h ⊢
        split at h
        · rename_i h1
          simp only [forceS_eq] at h
          exact ⟨isNone'_ok h1, xD_ok hc hac h hk⟩
        · cases h
      | mksl m sz bytes z n k =>
        rw [hi] at h
        simp only at h ⊢
        split at h
        · rename_i h1
          simp only [Bool.and_eq_true, beq_iff_eq] at h1
          simp only [forceS_eq] at h
          exact ⟨h1.1.1.1, isNone'_ok h1.1.1.2, needsB_ok h1.1.2, mkOkB_ok h1.2, xD_ok hc hac h hk⟩
        · cases h
      | store sz x v =>
        rw [hi] at h
        simp only at h ⊢
        split at h
        · rename_i h1
          simp only [Bool.and_eq_true] at h1
          refine ⟨isNone'_ok h1.1.1, needsB_ok h1.1.2, storeB_ok h1.2, ?_⟩
          cases hw : wrOf σ (opv e v) (opv e x) with
          | none => rw [hw] at h; cases h
          | some f =>
            rw [hw] at h
            simp only [forceS_eq] at h
            exact xD_ok hc hac h hk
        · cases h
      | append sz bytes x y =>
        rw [hi] at h
        simp only at h ⊢
        split at h
        · rename_i h1
          simp only [Bool.and_eq_true] at h1
          refine ⟨isNone'_ok h1.1, needsB_ok h1.2, ?_⟩
          cases hw : appDX sz bytes σ (opv e x) (opv e y) with
          | none => rw [hw] at h; cases h
          | some q =>
            obtain ⟨v, f⟩ := q
            rw [hw] at h
            simp only [forceV_eq, forceS_eq] at h
            exact appDX_ok hw (xD_ok hc hac h hk)
        · cases h
      | lit m sz n ps =>
        rw [hi] at h
        simp only at h ⊢
        split at h
        · rename_i h1
          rw [if_pos (by simpa using h1)]
          split at h
          · split at h
            · rename_i h2
              simp only [Bool.and_eq_true] at h2
              simp only [forceV_eq] at h
              exact ⟨fun _ => ⟨needsB_ok h2.1, litB_ok h2.2⟩, xD_ok hc hac h hk⟩
            · cases h
          · rename_i h2
            exact ⟨fun e => absurd e h2, xD_ok hc hac h hk⟩
        · cases h
      | _ =>
        rw [hi] at h
        simp only at h ⊢
        exact quietCase h

end Go.AM
