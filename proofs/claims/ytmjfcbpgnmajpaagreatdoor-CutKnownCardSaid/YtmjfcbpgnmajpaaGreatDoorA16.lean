/- The conditions of the instructions as Booleans, and what an instruction comes to, computed. -/
import Derived.Test.YtmjfcbpgnmajpaaGreatDoorA12
namespace Go.AM
open Go.RowKit

def partB (k : Option Nat) (cs : List AVal) (off : Nat) : Bool :=
  match k with
  | none => decide (off < cs.length) && (cs.getD off .undef).scal
  | some n => decide (off + n ≤ cs.length)
theorem partB_ok {k : Option Nat} {cs : List AVal} {off : Nat} (h : partB k cs off = true) : partOk k cs off := by
  cases k <;> simpa [partB, partOk] using h

def cellsLenB (v : AVal) (n : Nat) : Bool :=
  match v with
  | .agg cs => cs.length == n
  | v => v.scal && n == 1
theorem cellsLenB_ok {v : AVal} {n : Nat} (h : cellsLenB v n = true) : cellsLen v n := by
  cases v <;> simpa [cellsLenB, cellsLen] using h

def loadB (k : Option Nat) (σ : AHeap) : AVal → Bool
  | .pval v => match k with
    | none => v.scal
    | some n => match v with
      | .agg cs => cs.length == n
      | _ => false
  | .ptr b off => match σ.get b with
    | .box cs => partB k cs off
    | _ => false
  | .eptr sz b i f n => match σ.get b with
    | .arr sz' xs => sz' == sz && xs.length == n && decide (i < n) && (xs.getD i .undef).fine && partB k (xs.getD i .undef).cells f
    | _ => false
  | _ => false
theorem loadB_ok {k : Option Nat} {σ : AHeap} {v : AVal} (h : loadB k σ v = true) : loadOk k σ v := by
  cases v with
  | pval v =>
    cases k with
    | none => exact h
    | some n => cases v <;> simp [loadB, loadOk] at h ⊢; exact h
  | ptr b off =>
    simp only [loadB, loadOk] at h ⊢
    cases hb : σ.get b <;> rw [hb] at h <;> first | (cases h; done) | exact partB_ok h
  | eptr sz b i f n =>
    simp only [loadB, loadOk] at h ⊢
    cases hb : σ.get b <;> rw [hb] at h <;> first | (cases h; done) | skip
    simp only [Bool.and_eq_true, beq_iff_eq, decide_eq_true_eq] at h
    exact ⟨h.1.1.1.1, h.1.1.1.2, h.1.1.2, h.1.2, partB_ok h.2⟩
  | _ => cases h

def fillB (n : Nat) (ρ : AOpr → AVal) : List (Nat × Nat × AOpr) → Bool
  | [] => true
  | (off, sz, x) :: r => cellsLenB (ρ x) sz && decide (off + sz ≤ n) && fillB n ρ r
theorem fillB_ok {n : Nat} {ρ : AOpr → AVal} : ∀ {l : List (Nat × Nat × AOpr)}, fillB n ρ l = true → fillOk n ρ l
  | [], _ => trivial
  | (off, sz, x) :: r, h => by
    simp only [fillB, Bool.and_eq_true, decide_eq_true_eq] at h
    exact ⟨cellsLenB_ok h.1.1, h.1.2, fillB_ok h.2⟩

def litB (sz n : Nat) (ρ : AOpr → AVal) : List (Nat × AOpr) → Bool
  | [] => true
  | (i, x) :: r => decide (i < n) && cellsLenB (ρ x) sz && litB sz n ρ r
theorem litB_ok {sz n : Nat} {ρ : AOpr → AVal} : ∀ {l : List (Nat × AOpr)}, litB sz n ρ l = true → litOk sz n ρ l
  | [], _ => trivial
  | (i, x) :: r, h => by
    simp only [litB, Bool.and_eq_true, decide_eq_true_eq] at h
    exact ⟨h.1.1, cellsLenB_ok h.1.2, litB_ok h.2⟩

def arithB (op : BinOp) (j k : IntKind) (b : Int) : Bool :=
  match op with
  | .quo | .rem => decide (j = k) && decide (b ≠ 0)
  | .shl | .shr => decide (0 ≤ b)
  | _ => decide (j = k)
theorem arithB_ok {op : BinOp} {j k : IntKind} {b : Int} (h : arithB op j k b = true) : arithOk op j k b := by
  cases op <;> simpa [arithB, arithOk] using h

def stropB (op : BinOp) (a b : ByteArray) : Bool :=
  match op with
  | .add => decide (((a.size + b.size : Nat) : Int) ≤ IntKind.i64.max)
  | .eql | .neq | .lss | .leq | .gtr | .geq => true
  | _ => false
theorem stropB_ok {op : BinOp} {a b : ByteArray} (h : stropB op a b = true) : stropOk op a b := by
  cases op <;> first | trivial | (cases h; done) | skip
  simp only [stropB, decide_eq_true_eq] at h
  exact h

def binB (op : BinOp) : AVal → AVal → Bool
  | .int j _, .int k b => arithB op j k b
  | .str a, .str b => stropB op a b
  | _, _ => false
theorem binB_ok {op : BinOp} {x y : AVal} (h : binB op x y = true) : binOk op x y := by
  cases x <;> cases y <;> first | (cases h; done) | exact arithB_ok h | exact stropB_ok h

def unB (op : UnOp) : AVal → Bool
  | .bool _ => match op with
    | .not => true
    | _ => false
  | .int _ _ => match op with
    | .neg | .xor => true
    | _ => false
  | _ => false
theorem unB_ok {op : UnOp} {x : AVal} (h : unB op x = true) : unOk op x := by
  cases x <;> first | (cases h; done) | (cases op <;> first | (cases h; done) | trivial)

def isIntB : AVal → Bool
  | .int _ _ => true
  | _ => false
theorem isIntB_ok {x : AVal} (h : isIntB x = true) : isInt x := by cases x <;> first | (cases h; done) | trivial

def elemsB (σ : AHeap) (sz : Nat) : AVal → Bool
  | .slice sz' xs => sz' == sz || xs.isEmpty
  | .oslice sz' _ _ _ => sz' == sz
  | .sref sz' b _ _ n => sz' == sz && match σ.get b with
    | .arr sz'' xs => sz'' == sz && xs.length == n
    | _ => false
  | _ => false
theorem elemsB_ok {σ : AHeap} {sz : Nat} {x : AVal} (h : elemsB σ sz x = true) : x.elemsOk σ sz := by
  cases x with
  | slice s xs => simpa [elemsB, AVal.elemsOk] using h
  | oslice s xs b k => simpa [elemsB, AVal.elemsOk] using h
  | sref s b off len n =>
    simp only [elemsB, AVal.elemsOk, Bool.and_eq_true, beq_iff_eq] at h ⊢
    refine ⟨h.1, ?_⟩
    have h2 := h.2
    cases hb : σ.get b <;> rw [hb] at h2 <;> first | (cases h2; done) | simpa using h2
  | _ => cases h

def lenB : AVal → Bool
  | .slice _ _ | .oslice _ _ _ _ | .sref _ _ _ _ _ => true
  | _ => false
theorem lenB_ok {x : AVal} (h : lenB x = true) : lenOk x := by cases x <;> first | (cases h; done) | trivial

def ixSB (sz : Nat) (n : Int) : AVal → Bool
  | .slice sz' xs => sz' == sz && decide (0 ≤ n) && decide (n < xs.length)
  | .oslice sz' xs _ _ => sz' == sz && decide (0 ≤ n) && decide (n < xs.length)
  | .sref sz' _ _ len _ => sz' == sz && decide (0 ≤ n) && decide (n < len)
  | _ => false
theorem ixSB_ok {sz : Nat} {n : Int} {x : AVal} (h : ixSB sz n x = true) : ixSOk sz n x := by
  cases x <;> first | (cases h; done) | (simp only [ixSB, Bool.and_eq_true, beq_iff_eq, decide_eq_true_eq] at h; exact ⟨h.1.1, h.1.2, h.2⟩)

def fieldAddrB (k : Option Nat) (off : Nat) : AVal → Bool
  | .pval (.agg cs) => partB k cs off
  | .ptr _ _ | .eptr _ _ _ _ _ => true
  | _ => false
theorem fieldAddrB_ok {k : Option Nat} {off : Nat} {x : AVal} (h : fieldAddrB k off x = true) : fieldAddrOk k off x := by
  cases x <;> first | (cases h; done) | trivial | (rename_i v; cases v <;> first | (cases h; done) | exact partB_ok h)

def aggB (k : Option Nat) (off : Nat) : AVal → Bool
  | .agg cs => partB k cs off
  | _ => false
theorem aggB_ok {k : Option Nat} {off : Nat} {x : AVal} (h : aggB k off x = true) : aggOk k off x := by
  cases x <;> first | (cases h; done) | exact partB_ok h

def allIntB : List AVal → Bool
  | [] => true
  | x :: r => isIntB x && allIntB r
theorem allIntB_ok : ∀ {l : List AVal}, allIntB l = true → allInt l
  | [], _ => trivial
  | x :: r, h => by simp only [allIntB, Bool.and_eq_true] at h; exact ⟨isIntB_ok h.1, allIntB_ok h.2⟩

def bndB (ρ : AOpr → AVal) : Option AOpr → Bool
  | none => true
  | some x => isIntB (ρ x)
theorem bndB_ok {ρ : AOpr → AVal} {x : Option AOpr} (h : bndB ρ x = true) : bndOk ρ x := by
  cases x <;> first | trivial | exact isIntB_ok h

def leafsB (k : AVal) : List (AVal × AVal) → Bool
  | [] => true
  | e :: r => leafOk k e.1 && leafsB k r
theorem leafsB_ok {k : AVal} : ∀ {l : List (AVal × AVal)}, leafsB k l = true → ∀ e ∈ l, leafOk k e.1 = true
  | [], _ => by simp
  | e :: r, h => by
    simp only [leafsB, Bool.and_eq_true] at h
    intro x hx
    rcases List.mem_cons.1 hx with rfl | hx
    · exact h.1
    · exact leafsB_ok h.2 x hx

def sideB (ρ : AOpr → AVal) (σ : AHeap) : AI → Bool
  | .mv _ => true
  | .build z ps => fillB z.length ρ ps
  | .lit m sz n ps => m == 0 && litB sz n ρ ps
  | .load k x => loadB k σ (ρ x)
  | .nilchk x => match ρ x with
    | .pval _ | .ptr _ _ | .eptr _ _ _ _ _ | .func (.func _) _ _ => true
    | _ => false
  | .bin op x y => binB op (ρ x) (ρ y)
  | .eqb _ x y => match ρ x, ρ y with
    | .bool _, .bool _ => true
    | _, _ => false
  | .eqa _ ks x y => match ρ x, ρ y with
    | .agg a, .agg b => cellsEqOk ks a b
    | _, _ => false
  | .un op x => unB op (ρ x)
  | .conv _ x => isIntB (ρ x)
  | .convs x => match ρ x with
    | .str _ => true
    | _ => false
  | .mkfunc _ _ _ => true
  | .fieldAddr k off x => fieldAddrB k off (ρ x)
  | .field k off x => aggB k off (ρ x)
  | .ixS sz x i => isIntB (ρ i) && ixSB sz (intV (ρ i)) (ρ x)
  | .ixA m sz k x i => isIntB (ρ i) && decide (0 ≤ intV (ρ i)) && decide (intV (ρ i) < m) && fieldAddrB k ((intV (ρ i)).toNat * sz) (ρ x)
  | .ixV m sz k x i => isIntB (ρ i) && decide (0 ≤ intV (ρ i)) && decide (intV (ρ i) < m) && aggB k ((intV (ρ i)).toNat * sz) (ρ x)
  | .ixStr x i => isIntB (ρ i) && match ρ x with
    | .str s => decide (0 ≤ intV (ρ i)) && decide (intV (ρ i) < s.size)
    | _ => false
  | .extract x i => match ρ x with
    | .tup vs => decide (i < vs.length)
    | _ => false
  | .len x => lenB (ρ x)
  | .lenStr x => match ρ x with
    | .str _ => true
    | _ => false
  | .lenA _ _ => true
  | .mx l | .mn l => !(l.map ρ).isEmpty && allIntB (l.map ρ)
  | .mkiface _ _ => true
  | .assert t x => match ρ x with
    | .iface u _ => decide (u = t)
    | _ => false
  | .subStr x lo hi => bndB ρ lo && bndB ρ hi && match ρ x with
    | .str s => decide (0 ≤ bndV ρ 0 lo) && decide (bndV ρ 0 lo ≤ bndV ρ s.size hi) && decide (bndV ρ s.size hi ≤ s.size)
    | _ => false
  | .subq sz x lo hi => bndB ρ lo && bndB ρ hi && match ρ x with
    | .slice sz' xs => (sz' == sz || xs.isEmpty) && decide (0 ≤ bndV ρ 0 lo) && decide (bndV ρ 0 lo ≤ bndV ρ xs.length hi) && decide (bndV ρ xs.length hi ≤ xs.length)
    | .oslice sz' xs _ _ => sz' == sz && decide (0 ≤ bndV ρ 0 lo) && decide (bndV ρ 0 lo ≤ bndV ρ xs.length hi) && decide (bndV ρ xs.length hi ≤ xs.length)
    | _ => false
  | .lookup _ _ x i => match ρ x with
    | .map b => match σ.get b with
      | .amap es => leafsB (ρ i) es
      | _ => false
    | _ => false
  | _ => false

theorem sideB_ok {ρ : AOpr → AVal} {σ : AHeap} {i : AI} (h : sideB ρ σ i = true) : i.side ρ σ := by
  cases i with
  | mv | mkfunc | lenA | mkiface => trivial
  | build z ps => exact fillB_ok h
  | lit m sz n ps => simp only [sideB, Bool.and_eq_true, beq_iff_eq] at h; exact ⟨h.1, litB_ok h.2⟩
  | load k x => exact loadB_ok h
  | nilchk x =>
    simp only [sideB, AI.side] at h ⊢
    cases hv : ρ x <;> rw [hv] at h <;> first | trivial | (cases h; done) | skip
    rename_i fn _ _
    cases fn <;> first | trivial | (cases h; done)
  | bin op x y => exact binB_ok h
  | eqb n x y =>
    simp only [sideB, AI.side] at h ⊢
    cases hv : ρ x <;> cases hw : ρ y <;> rw [hv, hw] at h <;> first | trivial | (cases h; done)
  | eqa n ks x y =>
    simp only [sideB, AI.side] at h ⊢
    cases hv : ρ x <;> cases hw : ρ y <;> rw [hv, hw] at h <;> first | (cases h; done) | exact h
  | un op x => exact unB_ok h
  | conv k x => exact isIntB_ok h
  | convs x =>
    simp only [sideB, AI.side] at h ⊢
    cases hv : ρ x <;> rw [hv] at h <;> first | trivial | (cases h; done)
  | fieldAddr k off x => exact fieldAddrB_ok h
  | field k off x => exact aggB_ok h
  | ixS sz x i => simp only [sideB, Bool.and_eq_true] at h; exact ⟨isIntB_ok h.1, ixSB_ok h.2⟩
  | ixA m sz k x i => simp only [sideB, Bool.and_eq_true, decide_eq_true_eq] at h; exact ⟨isIntB_ok h.1.1.1, h.1.1.2, h.1.2, fieldAddrB_ok h.2⟩
  | ixV m sz k x i => simp only [sideB, Bool.and_eq_true, decide_eq_true_eq] at h; exact ⟨isIntB_ok h.1.1.1, h.1.1.2, h.1.2, aggB_ok h.2⟩
  | ixStr x i =>
    simp only [sideB, AI.side, Bool.and_eq_true] at h ⊢
    refine ⟨isIntB_ok h.1, ?_⟩
    have h2 := h.2
    cases hv : ρ x <;> rw [hv] at h2 <;> first | (cases h2; done) | simpa using h2
  | extract x i =>
    simp only [sideB, AI.side] at h ⊢
    cases hv : ρ x <;> rw [hv] at h <;> first | (cases h; done) | simpa using h
  | len x => exact lenB_ok h
  | lenStr x =>
    simp only [sideB, AI.side] at h ⊢
    cases hv : ρ x <;> rw [hv] at h <;> first | trivial | (cases h; done)
  | mx l => simp only [sideB, Bool.and_eq_true] at h; exact ⟨by simpa using h.1, allIntB_ok h.2⟩
  | mn l => simp only [sideB, Bool.and_eq_true] at h; exact ⟨by simpa using h.1, allIntB_ok h.2⟩
  | assert t x =>
    simp only [sideB, AI.side] at h ⊢
    cases hv : ρ x <;> rw [hv] at h <;> first | (cases h; done) | simpa using h
  | subStr x lo hi =>
    simp only [sideB, AI.side, Bool.and_eq_true] at h ⊢
    refine ⟨bndB_ok h.1.1, bndB_ok h.1.2, ?_⟩
    have h2 := h.2
    cases hv : ρ x <;> rw [hv] at h2 <;> first | (cases h2; done) | skip
    simp only [Bool.and_eq_true, decide_eq_true_eq] at h2
    exact ⟨h2.1.1, h2.1.2, h2.2⟩
  | subq sz x lo hi =>
    simp only [sideB, AI.side, Bool.and_eq_true] at h ⊢
    refine ⟨bndB_ok h.1.1, bndB_ok h.1.2, ?_⟩
    have h2 := h.2
    cases hv : ρ x <;> rw [hv] at h2 <;> first | (cases h2; done) | skip
    · simp only [Bool.and_eq_true, decide_eq_true_eq, Bool.or_eq_true, beq_iff_eq, List.isEmpty_iff] at h2
      exact ⟨h2.1.1.1, h2.1.1.2, h2.1.2, h2.2⟩
    · simp only [Bool.and_eq_true, decide_eq_true_eq, beq_iff_eq] at h2
      exact ⟨h2.1.1.1, h2.1.1.2, h2.1.2, h2.2⟩
  | lookup ok z x i =>
    simp only [sideB, AI.side] at h ⊢
    cases hv : ρ x <;> rw [hv] at h <;> first | (cases h; done) | skip
    rename_i b
    simp only at h ⊢
    cases hb : σ.get b <;> rw [hb] at h <;> first | (cases h; done) | exact leafsB_ok h
  | _ => cases h

def isBoolB : AVal → Bool
  | .bool _ => true
  | _ => false

def needsB (e : Env) : List AOpr → Bool
  | [] => true
  | x :: r => opg e x && needsB e r
theorem needsB_ok {e : Env} : ∀ {l : List AOpr}, needsB e l = true → needs e l
  | [], _ => trivial
  | x :: r, h => by simp only [needsB, Bool.and_eq_true] at h; exact ⟨h.1, needsB_ok h.2⟩

def qsideB (e : Env) (σ : AHeap) : AI → Bool
  | .pick c a b => opg e c && isBoolB (opv e c) && (if boolV (opv e c) then opg e a else opg e b)
  | i => needsB e i.opers && sideB (opv e) σ i
theorem qsideB_ok {e : Env} {σ : AHeap} {i : AI} (h : qsideB e σ i = true) : qside e σ i := by
  by_cases hp : ∃ c a b, i = .pick c a b
  · obtain ⟨c, a, b, rfl⟩ := hp
    simp only [qsideB, Bool.and_eq_true] at h
    refine ⟨h.1.1, by have := h.1.2; cases hv : opv e c <;> rw [hv] at this <;> first | trivial | (cases this; done), fun e1 => by have := h.2; rw [if_pos e1] at this; exact this, fun e1 => by have := h.2; rw [if_neg (by simp [e1])] at this; exact this, ?_⟩
    split <;> trivial
  · have h1 : qsideB e σ i = (needsB e i.opers && sideB (opv e) σ i) := by cases i <;> first | rfl | exact absurd ⟨_, _, _, rfl⟩ hp
    have h2 : qside e σ i = (needs e i.opers ∧ i.side (opv e) σ) := by cases i <;> first | rfl | exact absurd ⟨_, _, _, rfl⟩ hp
    rw [h1, Bool.and_eq_true] at h
    rw [h2]
    exact ⟨needsB_ok h.1, sideB_ok h.2⟩

def setElemB (v : AVal) (f n : Nat) : Bool :=
  match v with
  | .agg cs => decide (f + n ≤ cs.length)
  | v => v.scal && f == 0 && n == 1
theorem setElemB_ok {v : AVal} {f n : Nat} (h : setElemB v f n = true) : setElemOk v f n := by
  cases v <;> simpa [setElemB, setElemOk, and_assoc] using h

def storeB (σ : AHeap) (sz : Nat) (v : AVal) : AVal → Bool
  | .ptr b off => cellsLenB v sz && allScal v.cells && match σ.get b with
    | .box cs => decide (off + sz ≤ cs.length)
    | _ => false
  | .eptr esz b i f n => cellsLenB v sz && allScal v.cells && match σ.get b with
    | .arr esz' xs => esz' == esz && xs.length == n && decide (i < n) && setElemB (xs.getD i .undef) f sz
    | _ => false
  | _ => false
theorem storeB_ok {σ : AHeap} {sz : Nat} {v x : AVal} (h : storeB σ sz v x = true) : storeOk σ sz v x := by
  cases x with
  | ptr b off =>
    simp only [storeB, storeOk, Bool.and_eq_true] at h ⊢
    refine ⟨cellsLenB_ok h.1.1, h.1.2, ?_⟩
    have h2 := h.2
    cases hb : σ.get b <;> rw [hb] at h2 <;> first | (cases h2; done) | simpa using h2
  | eptr esz b i f n =>
    simp only [storeB, storeOk, Bool.and_eq_true] at h ⊢
    refine ⟨cellsLenB_ok h.1.1, h.1.2, ?_⟩
    have h2 := h.2
    cases hb : σ.get b <;> rw [hb] at h2 <;> first | (cases h2; done) | skip
    simp only [Bool.and_eq_true, beq_iff_eq, decide_eq_true_eq] at h2
    exact ⟨h2.1.1.1, h2.1.1.2, h2.1.2, setElemB_ok h2.2⟩
  | _ => cases h

def fitsB (sz : Nat) : List AVal → Bool
  | [] => true
  | v :: r => cellsLenB v sz && allScal v.cells && fitsB sz r
theorem fitsB_ok {sz : Nat} : ∀ {l : List AVal}, fitsB sz l = true → Fits sz l
  | [], _ => fun v hv => by cases hv
  | v :: r, h => by
    simp only [fitsB, Bool.and_eq_true] at h
    intro x hx
    rcases List.mem_cons.1 hx with rfl | hx
    · exact ⟨cellsLenB_ok h.1.1, h.1.2⟩
    · exact fitsB_ok h.2 x hx

abbrev XV := Option (AVal × AHeap)

def appendX (sz bytes : Nat) (σ : AHeap) (x : AVal) (ys : List AVal) : XV :=
  match x with
  | .oslice sz' xs b k => if sz' == sz && decide ((xs.length + ys.length) * bytes ≤ 140737488355328) then match σ.get b with
    | .spare sz'' k' => if sz'' == sz && k' == k then some (.oslice sz (xs ++ ys) b (k + 1), σ.set b (.spare sz (k + 1))) else none
    | _ => none
    else none
  | .sref sz' b off len n => if sz' == sz then match σ.get b with
    | .arr sz'' xs => if sz'' == sz && xs.length == n then
        (if off + len + ys.length ≤ n then some (.sref sz b off (len + ys.length) n, σ.set b (.arr sz (xs.take (off + len) ++ ys ++ xs.drop (off + len + ys.length))))
        else if off == 0 && len == n && decide ((n + ys.length) * bytes ≤ 140737488355328) then some (.sref sz b 0 (n + ys.length) (n + ys.length), σ.set b (.arr sz (xs ++ ys))) else none)
        else none
    | _ => none
    else none
  | _ => none
theorem appendX_ok {sz bytes : Nat} {σ : AHeap} {x : AVal} {ys : List AVal} {v : AVal} {σ' : AHeap} {K : AVal → AHeap → Prop} (h : appendX sz bytes σ x ys = some (v, σ')) (hk : K v σ') : appendW sz bytes σ x ys K := by
  cases x with
  | oslice sz' xs b k =>
    simp only [appendX, appendW] at h ⊢
    split at h
    · rename_i h1
      simp only [Bool.and_eq_true, beq_iff_eq, decide_eq_true_eq] at h1
      refine ⟨h1.1, h1.2, ?_⟩
      cases hb : σ.get b <;> rw [hb] at h <;> first | (cases h; done) | skip
      simp only at h ⊢
      split at h
      · rename_i h2
        simp only [Bool.and_eq_true, beq_iff_eq] at h2
        simp only [Option.some.injEq, Prod.mk.injEq] at h
        obtain ⟨rfl, rfl⟩ := h
        exact ⟨h2.1, h2.2, hk⟩
      · cases h
    · cases h
  | sref sz' b off len n =>
    simp only [appendX, appendW] at h ⊢
    split at h
    · rename_i h1
      refine ⟨by simpa using h1, ?_⟩
      cases hb : σ.get b <;> rw [hb] at h <;> first | (cases h; done) | skip
      simp only at h ⊢
      split at h
      · rename_i h2
        simp only [Bool.and_eq_true, beq_iff_eq] at h2
        refine ⟨h2.1, h2.2, ?_⟩
        split at h
        · rename_i h3
          rw [if_pos h3]
          simp only [Option.some.injEq, Prod.mk.injEq] at h
          obtain ⟨rfl, rfl⟩ := h
          exact hk
        · rename_i h3
          rw [if_neg h3]
          split at h
          · rename_i h4
            simp only [Bool.and_eq_true, beq_iff_eq, decide_eq_true_eq] at h4
            simp only [Option.some.injEq, Prod.mk.injEq] at h
            obtain ⟨rfl, rfl⟩ := h
            exact ⟨h4.1.1, h4.1.2, h4.2, hk⟩
          · cases h
      · cases h
    · cases h
  | _ => cases h

def subB (m : Nat) (lo : Int) (hi : Int → Int) (mx : Option Int) (xs : List AVal) : Bool :=
  decide (0 ≤ lo) && decide (lo ≤ hi xs.length) && (match mx with
      | none => decide (hi xs.length ≤ xs.length) && m == 0
      | some v => decide (hi xs.length ≤ v) && decide (v ≤ xs.length) && (if m = 1 then decide (v = hi xs.length) else true) && (if m = 2 then decide (v = 0) else true))

def subGo (m sz : Nat) (σ : AHeap) (lo : Int) (hi : Int → Int) (mx : Option Int) (xs : List AVal) : XV :=
  if subB m lo hi mx xs then
    (if m = 0 then some (.slice sz ((xs.take (hi xs.length).toNat).drop lo.toNat), σ)
    else if m = 1 then some (.oslice sz ((xs.take (hi xs.length).toNat).drop lo.toNat) σ.length 0, σ ++ [.spare sz 0])
    else if m = 2 then some (.sref sz σ.length 0 0 0, σ ++ [.arr sz []]) else none)
  else none

def subX (m sz : Nat) (σ : AHeap) (x : AVal) (lo : Int) (hi : Int → Int) (mx : Option Int) : XV :=
  match x with
  | .slice sz' xs => if sz' == sz || xs.isEmpty then subGo m sz σ lo hi mx xs else none
  | .oslice sz' xs _ _ => if sz' == sz then subGo m sz σ lo hi mx xs else none
  | .sref sz' b off len n => if sz' == sz && m == 0 && mx.isNone && decide (0 ≤ lo) && decide (lo ≤ hi len) && decide (off + hi len ≤ n) then some (.sref sz b (off + lo.toNat) (hi len - lo).toNat n, σ) else none
  | _ => none
theorem subGo_ok {m sz : Nat} {σ : AHeap} {lo : Int} {hi : Int → Int} {mx : Option Int} {xs : List AVal} {v : AVal} {σ' : AHeap} {K : AVal → AHeap → Prop} : subGo m sz σ lo hi mx xs = some (v, σ') → K v σ' → 0 ≤ lo ∧ lo ≤ hi xs.length ∧ (match mx with
      | none => hi xs.length ≤ xs.length ∧ m = 0
      | some v => hi xs.length ≤ v ∧ v ≤ xs.length ∧ (m = 1 → v = hi xs.length) ∧ (m = 2 → v = 0)) ∧
    (if m = 0 then K (.slice sz ((xs.take (hi xs.length).toNat).drop lo.toNat)) σ
    else if m = 1 then K (.oslice sz ((xs.take (hi xs.length).toNat).drop lo.toNat) σ.length 0) (σ ++ [.spare sz 0])
    else m = 2 ∧ K (.sref sz σ.length 0 0 0) (σ ++ [.arr sz []])) := by
    intro h hk
    unfold subGo at h
    split at h
    · rename_i h1
      simp only [subB, Bool.and_eq_true, decide_eq_true_eq] at h1
      refine ⟨h1.1.1, h1.1.2, ?_, ?_⟩
      · have h2 := h1.2
        clear h h1 hk
        cases mx with
        | none => simpa using h2
        | some v =>
          simp only [Bool.and_eq_true, decide_eq_true_eq] at h2
          refine ⟨h2.1.1.1, h2.1.1.2, fun e => ?_, fun e => ?_⟩
          · have := h2.1.2; rw [if_pos e] at this; simpa using this
          · have := h2.2; rw [if_pos e] at this; simpa using this
      · by_cases e0 : m = 0
        · rw [if_pos e0] at h ⊢
          simp only [Option.some.injEq, Prod.mk.injEq] at h
          obtain ⟨rfl, rfl⟩ := h; exact hk
        · rw [if_neg e0] at h ⊢
          by_cases e1 : m = 1
          · rw [if_pos e1] at h ⊢
            simp only [Option.some.injEq, Prod.mk.injEq] at h
            obtain ⟨rfl, rfl⟩ := h; exact hk
          · rw [if_neg e1] at h ⊢
            split at h
            · rename_i e2
              simp only [Option.some.injEq, Prod.mk.injEq] at h
              obtain ⟨rfl, rfl⟩ := h; exact ⟨e2, hk⟩
            · cases h
    · cases h

theorem subX_ok {m sz : Nat} {σ : AHeap} {x : AVal} {lo : Int} {hi : Int → Int} {mx : Option Int} {v : AVal} {σ' : AHeap} {K : AVal → AHeap → Prop} (h : subX m sz σ x lo hi mx = some (v, σ')) (hk : K v σ') : subW m sz σ x lo hi mx K := by
  have go := fun xs h => @subGo_ok m sz σ lo hi mx xs v σ' K h hk
  cases x with
  | slice sz' xs =>
    simp only [subX, subW] at h ⊢
    split at h
    · rename_i h1
      exact ⟨by simpa using h1, go xs h⟩
    · cases h
  | oslice sz' xs b k =>
    simp only [subX, subW] at h ⊢
    split at h
    · rename_i h1
      exact ⟨by simpa using h1, go xs h⟩
    · cases h
  | sref sz' b off len n =>
    simp only [subX, subW] at h ⊢
    split at h
    · rename_i h1
      simp only [Bool.and_eq_true, beq_iff_eq, decide_eq_true_eq, Option.isNone_iff_eq_none] at h1
      simp only [Option.some.injEq, Prod.mk.injEq] at h
      obtain ⟨rfl, rfl⟩ := h
      exact ⟨h1.1.1.1.1.1, h1.1.1.1.1.2, h1.1.1.1.2, h1.1.1.2, h1.1.2, h1.2, hk⟩
    · cases h
  | _ => cases h

def mkslX (m sz bytes : Nat) (σ : AHeap) (z : AVal) (n c : Int) : XV :=
  if decide (0 ≤ n) && decide (n ≤ c) && decide (c * bytes ≤ 140737488355328) && decide (c ≤ 140737488355328) then
    (if m = 1 then (if n = 0 then some (.oslice sz [] σ.length 0, σ ++ [.spare sz 0]) else none)
    else if m = 2 then some (.sref sz σ.length 0 n.toNat n.toNat, σ ++ [.arr sz (List.replicate n.toNat z)])
    else if m = 0 then some (.slice sz (List.replicate n.toNat z), σ) else none)
  else none
theorem mkslX_ok {m sz bytes : Nat} {σ : AHeap} {z : AVal} {n c : Int} {v : AVal} {σ' : AHeap} {K : AVal → AHeap → Prop} (h : mkslX m sz bytes σ z n c = some (v, σ')) (hk : K v σ') : mkslW m sz bytes σ z n c K := by
  unfold mkslX at h
  unfold mkslW
  split at h
  · rename_i h1
    simp only [Bool.and_eq_true, decide_eq_true_eq] at h1
    refine ⟨h1.1.1.1, h1.1.1.2, h1.1.2, h1.2, ?_⟩
    by_cases e1 : m = 1
    · rw [if_pos e1] at h ⊢
      split at h
      · rename_i e
        simp only [Option.some.injEq, Prod.mk.injEq] at h
        obtain ⟨rfl, rfl⟩ := h; exact ⟨e, hk⟩
      · cases h
    · rw [if_neg e1] at h ⊢
      by_cases e2 : m = 2
      · rw [if_pos e2] at h ⊢
        simp only [Option.some.injEq, Prod.mk.injEq] at h
        obtain ⟨rfl, rfl⟩ := h; exact hk
      · rw [if_neg e2] at h ⊢
        split at h
        · rename_i e
          simp only [Option.some.injEq, Prod.mk.injEq] at h
          obtain ⟨rfl, rfl⟩ := h; exact ⟨e, hk⟩
        · cases h
  · cases h

def clearX (sz : Nat) (σ : AHeap) (z : AVal) (x : AVal) : XV :=
  match x with
  | .sref sz' b off len n => if sz' == sz && cellsLenB z sz && allScal z.cells then match σ.get b with
    | .arr sz'' xs => if sz'' == sz && xs.length == n then some (.tup [], σ.set b (.arr sz (xs.take off ++ List.replicate len z ++ xs.drop (off + len)))) else none
    | _ => none
    else none
  | _ => none
theorem clearX_ok {sz : Nat} {σ : AHeap} {z x : AVal} {v : AVal} {σ' : AHeap} {K : AVal → AHeap → Prop} (h : clearX sz σ z x = some (v, σ')) (hk : K v σ') : clearW sz σ z x K := by
  cases x with
  | sref sz' b off len n =>
    simp only [clearX, clearW] at h ⊢
    split at h
    · rename_i h1
      simp only [Bool.and_eq_true, beq_iff_eq] at h1
      refine ⟨h1.1.1, cellsLenB_ok h1.1.2, h1.2, ?_⟩
      cases hb : σ.get b <;> rw [hb] at h <;> first | (cases h; done) | skip
      simp only at h ⊢
      split at h
      · rename_i h2
        simp only [Bool.and_eq_true, beq_iff_eq] at h2
        simp only [Option.some.injEq, Prod.mk.injEq] at h
        obtain ⟨rfl, rfl⟩ := h
        exact ⟨h2.1, h2.2, hk⟩
      · cases h
    · cases h
  | _ => cases h

def copyX (sz : Nat) (σ : AHeap) (x : AVal) (ys : List AVal) : XV :=
  match x with
  | .sref sz' b off len n => if sz' == sz then match σ.get b with
    | .arr sz'' xs => if sz'' == sz && xs.length == n then some (.int .i64 (min ys.length len : Nat), σ.set b (.arr sz (xs.take off ++ ys.take len ++ xs.drop (off + min ys.length len)))) else none
    | _ => none
    else none
  | _ => none
theorem copyX_ok {sz : Nat} {σ : AHeap} {x : AVal} {ys : List AVal} {v : AVal} {σ' : AHeap} {K : AVal → AHeap → Prop} (h : copyX sz σ x ys = some (v, σ')) (hk : K v σ') : copyW sz σ x ys K := by
  cases x with
  | sref sz' b off len n =>
    simp only [copyX, copyW] at h ⊢
    split at h
    · rename_i h1
      refine ⟨by simpa using h1, ?_⟩
      cases hb : σ.get b <;> rw [hb] at h <;> first | (cases h; done) | skip
      simp only at h ⊢
      split at h
      · rename_i h2
        simp only [Bool.and_eq_true, beq_iff_eq] at h2
        simp only [Option.some.injEq, Prod.mk.injEq] at h
        obtain ⟨rfl, rfl⟩ := h
        exact ⟨h2.1, h2.2, hk⟩
      · cases h
    · cases h
  | _ => cases h

def rangeX (σ : AHeap) (x : AVal) : XV :=
  match x with
  | .str y => some (.iter σ.length, σ ++ [.siter y 0])
  | _ => none
def nextX (σ : AHeap) (x : AVal) : XV :=
  match x with
  | .iter b => match σ.get b with
    | .siter y pos => if pos < y.size then some (.tup [.bool true, .int .i64 pos, .int .i32 (Utf8.decode y pos).1], σ.set b (.siter y (pos + (Utf8.decode y pos).2))) else some (.tup [.bool false], σ)
    | _ => none
  | _ => none
def gixX (g : Nat) (σ : AHeap) (x : AVal) : XV :=
  match x with
  | .int _ n => if 0 ≤ n then match (tabOf g laidTab)[n.toNat]? with
    | some (k, v) => some (.pval (.int k v), σ)
    | none => none
    else none
  | _ => none
theorem gixX_ok {g : Nat} {σ : AHeap} {x : AVal} {v : AVal} {σ' : AHeap} {K : AVal → AHeap → Prop} (h : gixX g σ x = some (v, σ')) (hk : K v σ') : gixW g σ x K := by
  cases x with
  | int q n =>
    simp only [gixX, gixW] at h ⊢
    split at h
    · rename_i h0
      refine ⟨h0, ?_⟩
      cases ht : (tabOf g laidTab)[n.toNat]? with
      | none => rw [ht] at h; cases h
      | some p =>
        obtain ⟨k, u⟩ := p
        rw [ht] at h
        simp only [Option.some.injEq, Prod.mk.injEq] at h
        obtain ⟨rfl, rfl⟩ := h; exact hk
    · cases h
  | _ => cases h
def subOX (sz : Nat) (σ : AHeap) (x lo : AVal) : XV :=
  match x, lo with
  | .oslice sz' xs b k, .int _ n => if sz' == sz && decide (0 ≤ n) && decide (n ≤ xs.length) then match σ.get b with
    | .spare sz'' k' => if sz'' == sz && k' == k then some (.oslice sz (xs.drop n.toNat) b (k + 1), σ.set b (.spare sz (k + 1))) else none
    | _ => none
    else none
  | _, _ => none
theorem subOX_ok {sz : Nat} {σ : AHeap} {x lo : AVal} {v : AVal} {σ' : AHeap} {K : AVal → AHeap → Prop} (h : subOX sz σ x lo = some (v, σ')) (hk : K v σ') : subOW sz σ x lo K := by
  cases x <;> cases lo <;> simp only [subOX] at h <;> first | (cases h; done) | skip
  rename_i sz' xs b k q n
  split at h
  · rename_i h1
    simp only [Bool.and_eq_true, beq_iff_eq, decide_eq_true_eq] at h1
    simp only [subOW]
    refine ⟨h1.1.1, h1.1.2, h1.2, ?_⟩
    cases hb : σ.get b <;> rw [hb] at h <;> first | (cases h; done) | skip
    simp only at h ⊢
    split at h
    · rename_i h2
      simp only [Bool.and_eq_true, beq_iff_eq] at h2
      simp only [Option.some.injEq, Prod.mk.injEq] at h
      obtain ⟨rfl, rfl⟩ := h
      exact ⟨h2.1, h2.2, hk⟩
    · cases h
  · cases h
def isnilX (neg : Bool) (σ : AHeap) (x : AVal) : XV :=
  match x with
  | .niliface => some (.bool !neg, σ)
  | .iface _ _ => some (.bool neg, σ)
  | _ => none
theorem isnilX_ok {neg : Bool} {σ : AHeap} {x : AVal} {v : AVal} {σ' : AHeap} {K : AVal → AHeap → Prop} (h : isnilX neg σ x = some (v, σ')) (hk : K v σ') : isnilW neg σ x K := by
  cases x <;> simp only [isnilX] at h <;> first | (cases h; done) | skip
  all_goals
    simp only [Option.some.injEq, Prod.mk.injEq] at h
    obtain ⟨rfl, rfl⟩ := h
    exact hk
def snilX (neg : Bool) (σ : AHeap) (x : AVal) : XV :=
  match x with
  | .slice _ xs | .oslice _ xs _ _ => if xs.isEmpty then none else some (.bool neg, σ)
  | .sref _ _ _ len _ => if len == 0 then none else some (.bool neg, σ)
  | _ => none
theorem snilX_ok {neg : Bool} {σ : AHeap} {x : AVal} {v : AVal} {σ' : AHeap} {K : AVal → AHeap → Prop} (h : snilX neg σ x = some (v, σ')) (hk : K v σ') : snilW neg σ x K := by
  cases x <;> simp only [snilX] at h <;> first | (cases h; done) | skip
  all_goals
    split at h
    · cases h
    · rename_i h1
      simp only [Option.some.injEq, Prod.mk.injEq] at h
      obtain ⟨rfl, rfl⟩ := h
      exact ⟨hk, fun e => absurd e (by simpa using h1)⟩
def mgetX (ok : Bool) (lk : LK) (z : AVal) (σ : AHeap) (x k : AVal) : XV :=
  match x with
  | .map b => match σ.get b with
    | .amap es => if keysOk lk k es then some (mgetV ok z (mapGet k es), σ) else none
    | _ => none
  | _ => none
def msetX (lk : LK) (σ : AHeap) (x k v : AVal) : XV :=
  match x with
  | .map b => match σ.get b with
    | .amap es => if keysOk lk k es then some (.undef, σ.set b (.amap (mapPut k v es))) else none
    | _ => none
  | _ => none
theorem mgetX_ok {ok : Bool} {lk : LK} {z : AVal} {σ : AHeap} {x k : AVal} {v : AVal} {σ' : AHeap} {K : AVal → AHeap → Prop} (h : mgetX ok lk z σ x k = some (v, σ')) (hk : K v σ') : mgetW ok lk z σ x k K := by
  cases x with
  | map b =>
    simp only [mgetX, mgetW] at h ⊢
    cases hb : σ.get b <;> rw [hb] at h <;> first | (cases h; done) | skip
    simp only at h ⊢
    split at h
    · rename_i h1
      simp only [Option.some.injEq, Prod.mk.injEq] at h
      obtain ⟨rfl, rfl⟩ := h; exact ⟨h1, hk⟩
    · cases h
  | _ => cases h
theorem msetX_ok {lk : LK} {σ : AHeap} {x k u : AVal} {v : AVal} {σ' : AHeap} {K : AVal → AHeap → Prop} (h : msetX lk σ x k u = some (v, σ')) (hk : K v σ') : msetW lk σ x k u K := by
  cases x with
  | map b =>
    simp only [msetX, msetW] at h ⊢
    cases hb : σ.get b <;> rw [hb] at h <;> first | (cases h; done) | skip
    simp only at h ⊢
    split at h
    · rename_i h1
      simp only [Option.some.injEq, Prod.mk.injEq] at h
      obtain ⟨rfl, rfl⟩ := h; exact ⟨h1, hk⟩
    · cases h
  | _ => cases h
def freezeX (sz : Nat) (σ : AHeap) (x : AVal) : XV :=
  match x with
  | .sref sz' b off len n => if sz' == sz then match σ.get b with
    | .arr sz'' xs => if sz'' == sz && xs.length == n then some (.slice sz ((xs.drop off).take len), σ.set b .dead) else none
    | _ => none
    else none
  | _ => none
theorem rangeX_ok {σ : AHeap} {x : AVal} {v : AVal} {σ' : AHeap} {K : AVal → AHeap → Prop} (h : rangeX σ x = some (v, σ')) (hk : K v σ') : rangeW σ x K := by
  cases x with
  | str y =>
    simp only [rangeX, Option.some.injEq, Prod.mk.injEq] at h
    obtain ⟨rfl, rfl⟩ := h; exact hk
  | _ => cases h
theorem nextX_ok {σ : AHeap} {x : AVal} {v : AVal} {σ' : AHeap} {K : AVal → AHeap → Prop} (h : nextX σ x = some (v, σ')) (hk : K v σ') : nextW σ x K := by
  cases x with
  | iter b =>
    simp only [nextX, nextW] at h ⊢
    cases hb : σ.get b <;> rw [hb] at h <;> first | (cases h; done) | skip
    simp only at h ⊢
    split at h
    · rename_i h1
      rw [if_pos h1]
      simp only [Option.some.injEq, Prod.mk.injEq] at h
      obtain ⟨rfl, rfl⟩ := h; exact hk
    · rename_i h1
      rw [if_neg h1]
      simp only [Option.some.injEq, Prod.mk.injEq] at h
      obtain ⟨rfl, rfl⟩ := h; exact hk
  | _ => cases h
theorem freezeX_ok {sz : Nat} {σ : AHeap} {x : AVal} {v : AVal} {σ' : AHeap} {K : AVal → AHeap → Prop} (h : freezeX sz σ x = some (v, σ')) (hk : K v σ') : freezeW sz σ x K := by
  cases x with
  | sref sz' b off len n =>
    simp only [freezeX, freezeW] at h ⊢
    split at h
    · rename_i h1
      refine ⟨by simpa using h1, ?_⟩
      cases hb : σ.get b <;> rw [hb] at h <;> first | (cases h; done) | skip
      simp only at h ⊢
      split at h
      · rename_i h2
        simp only [Bool.and_eq_true, beq_iff_eq] at h2
        simp only [Option.some.injEq, Prod.mk.injEq] at h
        obtain ⟨rfl, rfl⟩ := h
        exact ⟨h2.1, h2.2, hk⟩
      · cases h
    · cases h
  | _ => cases h

/-! ### Values brought to their plain form: so that nothing is computed twice -/
def forceNat {α : Type} (n : Nat) (K : Nat → α) : α :=
  match n with
  | 0 => K 0
  | m + 1 => K (m + 1)
def forceInt {α : Type} (n : Int) (K : Int → α) : α :=
  match n with
  | .ofNat m => forceNat m fun m => K (.ofNat m)
  | .negSucc m => forceNat m fun m => K (.negSucc m)
def forceBool {α : Type} (b : Bool) (K : Bool → α) : α :=
  match b with
  | true => K true
  | false => K false
theorem forceNat_eq {α : Type} (n : Nat) (K : Nat → α) : forceNat n K = K n := by cases n <;> rfl
theorem forceInt_eq {α : Type} (n : Int) (K : Int → α) : forceInt n K = K n := by cases n <;> simp [forceInt, forceNat_eq]
theorem forceBool_eq {α : Type} (n : Bool) (K : Bool → α) : forceBool n K = K n := by cases n <;> rfl

/-- The outermost form. -/
def forceH {α : Type} (v : AVal) (K : AVal → α) : α :=
  match v with
  | .undef => K .undef
  | .bool b => forceBool b fun b => K (.bool b)
  | .int k n => forceInt n fun n => K (.int k n)
  | .str x => K (.str x)
  | .agg cs => K (.agg cs)
  | .tup cs => K (.tup cs)
  | .slice a b => K (.slice a b)
  | .oslice a b c d => forceNat c fun c => forceNat d fun d => K (.oslice a b c d)
  | .sref a b c d e => forceNat b fun b => forceNat c fun c => forceNat d fun d => forceNat e fun e => K (.sref a b c d e)
  | .pval v => K (.pval v)
  | .ptr a b => forceNat a fun a => forceNat b fun b => K (.ptr a b)
  | .eptr a b c d e => forceNat b fun b => forceNat c fun c => forceNat d fun d => forceNat e fun e => K (.eptr a b c d e)
  | .nilptr => K .nilptr
  | .func a b c => K (.func a b c)
  | .nilfunc => K .nilfunc
  | .iface t v => K (.iface t v)
  | .niliface => K .niliface
  | .map b => forceNat b fun b => K (.map b)
  | .nilmap => K .nilmap
  | .opt g v => K (.opt g v)
  | .mint s => K (.mint s)
  | .iter b => forceNat b fun b => K (.iter b)
  | .yieldf b => forceNat b fun b => K (.yieldf b)
theorem forceH_eq {α : Type} (v : AVal) (K : AVal → α) : forceH v K = K v := by cases v <;> simp [forceH, forceNat_eq, forceInt_eq, forceBool_eq]

def forceL {α : Type} (f : AVal → (AVal → α) → α) : List AVal → (List AVal → α) → α
  | [], K => K []
  | v :: r, K => f v fun v => forceL f r fun r => K (v :: r)
theorem forceL_eq {α : Type} {f : AVal → (AVal → α) → α} (hf : ∀ v K, f v K = K v) : ∀ (l : List AVal) (K : List AVal → α), forceL f l K = K l
  | [], _ => rfl
  | v :: r, K => by simp [forceL, hf, forceL_eq hf r]

/-- n levels deep. -/
def forceV {α : Type} : Nat → AVal → (AVal → α) → α
  | 0, v, K => forceH v K
  | n + 1, v, K =>
    match v with
    | .agg cs => forceL (forceV n) cs fun cs => K (.agg cs)
    | .tup cs => forceL (forceV n) cs fun cs => K (.tup cs)
    | .slice a b => forceL (forceV n) b fun b => K (.slice a b)
    | .oslice a b c d => forceL (forceV n) b fun b => forceNat c fun c => forceNat d fun d => K (.oslice a b c d)
    | .pval v => forceV n v fun v => K (.pval v)
    | .func a b c => forceL (forceV n) b fun b => forceL (forceV n) c fun c => K (.func a b c)
    | .iface t v => forceV n v fun v => K (.iface t v)
    | v => forceH v K
theorem forceV_eq {α : Type} : ∀ (n : Nat) (v : AVal) (K : AVal → α), forceV n v K = K v
  | 0, v, K => forceH_eq v K
  | n + 1, v, K => by cases v <;> simp [forceV, forceH_eq, forceL_eq (fun v K => forceV_eq n v K), forceNat_eq, forceV_eq n]

def forceE {α : Type} : Env → (Env → α) → α
  | [], K => K []
  | (n, v) :: r, K => forceH v fun v => forceE r fun r => K ((n, v) :: r)
theorem forceE_eq {α : Type} : ∀ (e : Env) (K : Env → α), forceE e K = K e
  | [], _ => rfl
  | (n, v) :: r, K => by simp [forceE, forceH_eq, forceE_eq r]

def forceM {α : Type} : List (AVal × AVal) → (List (AVal × AVal) → α) → α
  | [], K => K []
  | (a, b) :: r, K => forceH a fun a => forceV 1 b fun b => forceM r fun r => K ((a, b) :: r)
theorem forceM_eq {α : Type} : ∀ (e : List (AVal × AVal)) (K : List (AVal × AVal) → α), forceM e K = K e
  | [], _ => rfl
  | (a, b) :: r, K => by simp [forceM, forceH_eq, forceV_eq, forceM_eq r]

def forceO {α : Type} (o : AObj) (K : AObj → α) : α :=
  match o with
  | .dead => K .dead
  | .hole => K .hole
  | .box cs => forceL forceH cs fun cs => K (.box cs)
  | .arr sz xs => forceL (forceV 1) xs fun xs => K (.arr sz xs)
  | .spare sz k => forceNat k fun k => K (.spare sz k)
  | .amap es => forceM es fun es => K (.amap es)
  | .siter x pos => forceNat pos fun pos => K (.siter x pos)
  | .looprec a b c d e f g h => K (.looprec a b c d e f g h)
  | .dfr => K .dfr
theorem forceO_eq {α : Type} (o : AObj) (K : AObj → α) : forceO o K = K o := by
  cases o <;> simp [forceO, forceM_eq, forceNat_eq, forceL_eq (fun v K => forceH_eq v K), forceL_eq (fun v K => forceV_eq 1 v K)]

def forceS {α : Type} : AHeap → (AHeap → α) → α
  | [], K => K []
  | o :: r, K => forceO o fun o => forceS r fun r => K (o :: r)
theorem forceS_eq {α : Type} : ∀ (e : AHeap) (K : AHeap → α), forceS e K = K e
  | [], _ => rfl
  | o :: r, K => by simp [forceS, forceO_eq, forceS_eq r]

end Go.AM
