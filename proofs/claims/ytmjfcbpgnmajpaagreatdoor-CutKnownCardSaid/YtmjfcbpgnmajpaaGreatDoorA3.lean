/- When an instruction of ours stands for an operation of the program (checked by the kernel, P: any program), and that the instructions which leave the abstract heap alone compute what the operation does. -/
import Derived.Test.YtmjfcbpgnmajpaaGreatDoorA2
import Derived.Laws.Cells
import Derived.WalkKit
namespace Go.AM

mutual
def constOk : AVal → Value → Bool
  | .bool a, .bool b => a == b
  | .int j a, .int k b => decide (j = k) && a == b
  | .str a, .string b => decide (a = b)
  | .slice _ xs, .slice none l c => xs.isEmpty && l == 0 && c == 0
  | .nilptr, .pointer none => true
  | .nilfunc, .nilFunc => true
  | .niliface, .nilIface => true
  | .nilmap, .map none => true
  | .agg cs, .agg vs => constsOk cs vs.toList
  | .undef, _ => true
  | _, _ => false
def constsOk : List AVal → List Value → Bool
  | [], [] => true
  | a :: r, b :: t => constOk a b && constsOk r t
  | _, _ => false
end

theorem constsOk_len : ∀ {cs : List AVal} {vs : List Value}, constsOk cs vs = true → vs.length = cs.length
  | [], [], _ => rfl
  | a :: r, b :: t, h => by simp only [constsOk, Bool.and_eq_true] at h; simp [constsOk_len h.2]
  | [], _ :: _, h => by simp [constsOk] at h
  | _ :: _, [], h => by simp [constsOk] at h

mutual
theorem constOk_rv {s : St} : ∀ {v : AVal} {c : Value}, constOk v c = true → Rv s v c
  | .bool a, c, h => by cases c <;> simp [constOk] at h; subst h; exact .bool _
  | .int j a, c, h => by cases c <;> simp [constOk] at h; obtain ⟨rfl, rfl⟩ := h; exact .int _ _
  | .str a, c, h => by cases c <;> simp [constOk] at h; subst h; exact .str _
  | .slice sz xs, c, h => by
    cases c with
    | slice a l cap =>
      cases a <;> simp [constOk] at h
      obtain ⟨⟨rfl, rfl⟩, rfl⟩ := h; exact .slice0 _ _ _
    | _ => simp [constOk] at h
  | .nilptr, c, h => by
    cases c with
    | pointer a => cases a <;> simp [constOk] at h; exact .nilptr
    | _ => simp [constOk] at h
  | .nilfunc, c, h => by cases c <;> simp [constOk] at h; exact .nilfunc
  | .niliface, c, h => by cases c <;> simp [constOk] at h; exact .niliface
  | .nilmap, c, h => by
    cases c with
    | map a => cases a <;> simp [constOk] at h; exact .nilmap
    | _ => simp [constOk] at h
  | .agg cs, c, h => by
    cases c with
    | agg vs =>
      simp only [constOk] at h
      refine .agg cs vs (by simpa using constsOk_len h) (fun j h1 h2 => ?_)
      have := constsOk_rv (s := s) h j h1 (by simpa using h2)
      simpa using this
    | _ => simp [constOk] at h
  | .undef, c, _ => .undef c
  | .tup _, c, h => by cases c <;> simp [constOk] at h
  | .oslice _ _ _ _, c, h => by cases c <;> simp [constOk] at h
  | .sref _ _ _ _ _, c, h => by cases c <;> simp [constOk] at h
  | .pval _, c, h => by cases c <;> simp [constOk] at h
  | .ptr _ _, c, h => by cases c <;> simp [constOk] at h
  | .eptr _ _ _ _ _, c, h => by cases c <;> simp [constOk] at h
  | .func _ _ _, c, h => by cases c <;> simp [constOk] at h
  | .iface _ _, c, h => by cases c <;> simp [constOk] at h
  | .map _, c, h => by cases c <;> simp [constOk] at h
  | .opt _ _, c, h => by cases c <;> simp [constOk] at h
  | .mint _, c, h => by cases c <;> simp [constOk] at h
  | .iter _, c, h => by cases c <;> simp [constOk] at h
  | .yieldf _, c, h => by cases c <;> simp [constOk] at h
theorem constsOk_rv {s : St} : ∀ {cs : List AVal} {vs : List Value}, constsOk cs vs = true → ∀ j (h1 : j < cs.length) (h2 : j < vs.length), Rv s cs[j] vs[j]
  | [], _, _, j, h1, _ => by simp at h1
  | a :: r, [], h, _, _, _ => by simp [constsOk] at h
  | a :: r, b :: t, h, 0, _, _ => by simp only [constsOk, Bool.and_eq_true] at h; exact constOk_rv h.1
  | a :: r, b :: t, h, j + 1, h1, h2 => by
    simp only [constsOk, Bool.and_eq_true] at h
    have := constsOk_rv (s := s) h.2 j (by simpa using h1) (by simpa using h2)
    simpa using this
end

def okOpr : AOpr → Operand → Bool
  | .t n, .tmp m => n == m
  | .c v, .const u => constOk v u
  | .f n, .func m => n == m
  | _, _ => false

/-- Of a type: does it lie as an aggregate? -/
def aggT : Option TypeDesc → Option Bool
  | some (.struct _) | some (.array _ _) => some true
  | some _ => some false
  | none => none

def kOk (P : Program) (t : TypeId) (k : Option Nat) : Bool :=
  match aggT (P.underlying t), k with
  | some true, some n => P.cellsOf t == n && (P.info? t).isSome
  | some false, none => (P.info? t).isSome
  | _, _ => false

def oksOpr : List AOpr → List Operand → Bool
  | [], [] => true
  | a :: r, b :: t => okOpr a b && oksOpr r t
  | _, _ => false

def zeroOk (P : Program) (t : TypeId) (z : List AVal) : Bool :=
  match (P.info? t).bind (·.zero) with
  | some v => constsOk z v.cells.toList
  | none => false

/-- The places of a struct's or an array's parts. -/
def partPlace (P : Program) (t : TypeId) (i : Nat) : Option (Nat × Nat) :=
  match P.underlying t with
  | some (.struct fs) => (fs[i]?).map fun f => (f.offset, P.cellsOf f.type)
  | some (.array _ e) => some (i * P.cellsOf e, P.cellsOf e)
  | _ => none

def partsOk (P : Program) (t : TypeId) : List (Nat × Nat × AOpr) → List (Nat × Operand) → Bool
  | [], [] => true
  | (off, sz, x) :: r, (i, y) :: q => partPlace P t i == some (off, sz) && okOpr x y && partsOk P t r q
  | _, _ => false

def typesIn (P : Program) (t : TypeId) : Bool :=
  match P.underlying t with
  | some (.struct fs) => fs.toList.all fun f => (P.info? f.type).isSome
  | some (.array _ e) => (P.info? e).isSome
  | _ => false

/-- The fields of a struct, one behind the other. -/
def eqFieldsW (g : TypeId → Option (List LK)) : List Field → Nat → Option (List LK)
  | [], _ => some []
  | f :: r, o =>
    if f.name ≠ "_" ∧ f.offset = o then
      match g f.type with
      | some l => if l.length = 0 then none else match eqFieldsW g r (o + l.length) with
        | some l' => some (l ++ l')
        | none => none
      | none => none
    else none

/-- The types at which '==' compares cell by cell: numbers, strings, bools, and structs of them: what its cells hold. -/
def eqFlat (P : Program) : Nat → TypeId → Option (List LK)
  | 0, _ => none
  | d + 1, t =>
    match P.underlying t with
    | some .bool => if kOk P t none then some [.b] else none
    | some .string => if kOk P t none then some [.s] else none
    | some (.int _) => if kOk P t none then some [.i] else none
    | some (.struct fs) =>
      if P.stoodInHeld t then none else
      match eqFieldsW (eqFlat P d) fs.toList 0 with
      | some l => if kOk P t (some l.length) then some l else none
      | none => none
    | _ => none
def eqFields (P : Program) (d : Nat) (fs : List Field) (o : Nat) : Option (List LK) := eqFieldsW (eqFlat P d) fs o
theorem eqFields_def (P : Program) (d : Nat) (fs : List Field) (o : Nat) : eqFieldsW (eqFlat P d) fs o = eqFields P d fs o := rfl

def zeroSize (P : Program) (t : TypeId) (n : Nat) : Bool :=
  match (P.info? t).bind (·.zero) with
  | some v => v.cells.size == n
  | none => false

def litParts : List (Nat × AOpr) → List (Nat × Operand) → Bool
  | [], [] => true
  | (i, x) :: r, (j, y) :: q => i == j && okOpr x y && litParts r q
  | _, _ => false

def okBnd : Option AOpr → Option Operand → Bool
  | none, none => true
  | some x, some y => okOpr x y
  | _, _ => false

/-- The keys that are compared at once. -/
def kindLK : TypeDesc → Option LK
  | .int _ => some .i
  | .string => some .s
  | .bool => some .b
  | _ => none
def zeroV (P : Program) (t : TypeId) (z : AVal) : Bool :=
  match (P.info? t).bind (·.zero) with
  | some v => constOk z v
  | none => false

def chkI (P : Program) (i : AI) (o : Op) : Bool :=
  match i with
  | .mv x => match o with
    | .move y => okOpr x y
    | .assign y => okOpr x y
    | _ => false
  | .pick c x y => match o with
    | .pick c' x' y' => okOpr c c' && okOpr x x' && okOpr y y'
    | _ => false
  | .alloc z => match o with
    | .alloc t => zeroOk P t (z.map AVal.unmint)
    | _ => false
  | .box n x => match o with
    | .box t y => P.cellsOf t == n && okOpr x y
    | _ => false
  | .loadd k x => match o with
    | .load t y => kOk P t k && okOpr x y
    | _ => false
  | .mvd x => match o with
    | .move y => okOpr x y
    | .assign y => okOpr x y
    | _ => false
  | .pbox n x => match o with
    | .box t y => P.cellsOf t == n && okOpr x y
    | _ => false
  | .build z ps => match o with
    | .build t parts => zeroOk P t z && typesIn P t && partsOk P t ps parts.toList
    | _ => false
  | .load k x => match o with
    | .load t y => kOk P t k && okOpr x y
    | _ => false
  | .store sz x v => match o with
    | .store t y u => P.cellsOf t == sz && (P.info? t).isSome && okOpr x y && okOpr v u
    | _ => false
  | .nilchk x => match o with
    | .nilCheck y => okOpr x y
    | _ => false
  | .bin op x y => match o with
    | .binOp op' _ a b _ => decide (op = op') && okOpr x a && okOpr y b
    | _ => false
  | .un op x => match o with
    | .unOp op' _ a => decide (op = op') && okOpr x a
    | _ => false
  | .eqb neg x y => match o with
    | .binOp op t a b _ => decide (op = if neg then BinOp.neq else BinOp.eql) && (match P.underlying t with | some .bool => true | _ => false) && okOpr x a && okOpr y b
    | _ => false
  | .eqa neg ks x y => match o with
    | .binOp op t a b _ => decide (op = if neg then BinOp.neq else BinOp.eql) && decide (eqFlat P 20 t = some ks) && kOk P t (some ks.length) && !P.eqGuardType P.depth t && okOpr x a && okOpr y b
    | _ => false
  | .isnil neg x => match o with
    | .binOp op t a (.const .nilIface) _ => decide (op = if neg then BinOp.neq else BinOp.eql) && (match P.underlying t with | some (.interface _) => true | _ => false) && okOpr x a
    | _ => false
  | .conv k x => match o with
    | .convert src dst y => (P.underlying src).isSome && (match P.underlying dst with | some (.int k') => decide (k = k') | _ => false) && okOpr x y
    | _ => false
  | .convs x => match o with
    | .convert src dst y => (P.underlying src).isSome && (match P.underlying dst with | some .string => true | _ => false) && okOpr x y
    | _ => false
  | .mkfunc fn first caps => match o with
    | .makeFunc fn' a b => decide (fn = fn') && oksOpr first a.toList && oksOpr caps b.toList
    | _ => false
  | .fieldAddr k off x => match o with
    | .fieldAddr t y f => match P.underlying t with
      | some (.struct fs) => match fs[f]? with
        | some fd => fd.offset == off && kOk P fd.type k && P.cellsOf fd.type != 0 && okOpr x y
        | none => false
      | _ => false
    | _ => false
  | .field k off x => match o with
    | .field t y f => match P.underlying t with
      | some (.struct fs) => match fs[f]? with
        | some fd => fd.offset == off && kOk P fd.type k && okOpr x y
        | none => false
      | _ => false
    | _ => false
  | .ixS sz x y => match o with
    | .indexAddr t a b => match P.underlying t with
      | some (.slice e) => P.cellsOf e == sz && (P.info? e).isSome && okOpr x a && okOpr y b
      | _ => false
    | _ => false
  | .ixA m sz k x y => match o with
    | .indexAddr t a b => match P.underlying t with
      | some (.array n e) => n == m && P.cellsOf e == sz && kOk P e k && okOpr x a && okOpr y b
      | _ => false
    | _ => false
  | .ixV m sz k x y => match o with
    | .index t a b => match P.underlying t with
      | some (.array n e) => n == m && P.cellsOf e == sz && kOk P e k && okOpr x a && okOpr y b
      | _ => false
    | _ => false
  | .ixStr x y => match o with
    | .index t a b => match P.underlying t with
      | some .string => okOpr x a && okOpr y b
      | _ => false
    | _ => false
  | .extract x j => match o with
    | .extract y j' => j == j' && okOpr x y
    | _ => false
  | .len x => match o with
    | .call c => match c.callee with
      | .builtin .len => match c.args.toList, c.argTypes.toList with
        | [y], [t] => (match P.underlying t with | some (.slice _) => true | _ => false) && okOpr x y
        | _, _ => false
      | _ => false
    | _ => false
  | .lenStr x => match o with
    | .call c => match c.callee with
      | .builtin .len => match c.args.toList, c.argTypes.toList with
        | [y], [t] => (match P.underlying t with | some .string => true | _ => false) && okOpr x y
        | _, _ => false
      | _ => false
    | _ => false
  | .lenA n x => match o with
    | .call c => match c.callee with
      | .builtin .len => match c.args.toList, c.argTypes.toList with
        | [y], [t] => (match P.underlying t with | some (.array m _) => m == n | _ => false) && okOpr x y
        | _, _ => false
      | _ => false
    | _ => false
  | .mx l => match o with
    | .call c => match c.callee with
      | .builtin .max => oksOpr l c.args.toList
      | _ => false
    | _ => false
  | .mn l => match o with
    | .call c => match c.callee with
      | .builtin .min => oksOpr l c.args.toList
      | _ => false
    | _ => false
  | .mkiface t x => match o with
    | .makeInterface t' y => t == t' && (match P.underlying t with | some (.interface _) | none => false | _ => true) && okOpr x y
    | _ => false
  | .assert t x => match o with
    | .typeAssert y _ t' ok => !ok && t == t' && (match P.underlying t with | some (.interface _) | none => false | _ => true) && okOpr x y
    | _ => false
  | .buildm z ps => match o with
    | .build t parts => zeroOk P t (z.map AVal.unmint) && typesIn P t && partsOk P t ps parts.toList
    | _ => false
  | .storem _ x => match o with
    | .store t y (.const (.slice none 0 0)) => P.cellsOf t == 1 && (P.info? t).isSome && okOpr x y
    | _ => false
  | .nilS _ _ => match o with
    | .move (.const (.slice none 0 0)) => true
    | .assign (.const (.slice none 0 0)) => true
    | _ => false
  | .lit _ sz n ps => match o with
    | .buildSlice t n' parts => match P.underlying t with
      | some (.slice e) => P.cellsOf e == sz && (P.info? e).isSome && n == n' && decide (n * sz ≤ 2 ^ 24) && decide (0 < sz) && zeroSize P e sz && litParts ps parts.toList
      | _ => false
    | _ => false
  | .append sz bytes x y => match o with
    | .call c => match c.callee with
      | .builtin .append => match c.args.toList, c.argTypes.toList with
        | [x', y'], [t, tx] => match P.underlying t, P.underlying tx with
          | some (.slice e), some (.slice _) => P.cellsOf e == sz && decide (0 < sz) && (match P.info? e with | some i => i.bytes == bytes && (match i.zero with | some z => z.cells.size == sz | none => false) && i.size == sz && decide (0 < bytes) | none => false) && okOpr x x' && okOpr y y'
          | _, _ => false
        | _, _ => false
      | _ => false
    | _ => false
  | .sub _ sz x lo hi mx => match o with
    | .slice t x' lo' hi' mx' => match P.underlying t with
      | some (.slice e) => P.cellsOf e == sz && decide (0 < sz) && (P.info? e).isSome && okOpr x x' && okBnd lo lo' && okBnd hi hi' && okBnd mx mx' && (!mx.isSome || hi.isSome)
      | _ => false
    | _ => false
  | .subq sz x lo hi => match o with
    | .slice t x' lo' hi' none => match P.underlying t with
      | some (.slice e) => P.cellsOf e == sz && (P.info? e).isSome && okOpr x x' && okBnd lo lo' && okBnd hi hi'
      | _ => false
    | _ => false
  | .subStr x lo hi => match o with
    | .slice t x' lo' hi' none => match P.underlying t with
      | some .string => okOpr x x' && okBnd lo lo' && okBnd hi hi'
      | _ => false
    | _ => false
  | .range x => match o with
    | .range t y => (match P.underlying t with | some .string => true | _ => false) && okOpr x y
    | _ => false
  | .next x => match o with
    | .next y true => okOpr x y
    | _ => false
  | .freeze _ x => match o with
    | .move y => okOpr x y
    | .assign y => okOpr x y
    | _ => false
  | .mksl _ sz bytes z n c => match o with
    | .makeSlice t n' c' => match P.underlying t with
      | some (.slice e) => P.cellsOf e == sz && decide (0 < sz) && (match P.info? e with | some i => i.bytes == bytes && i.size == sz && (match i.zero with | some v => v.cells.size == sz && constOk z v | none => false) | none => false) && okOpr n n' && okOpr c c'
      | _ => false
    | _ => false
  | .clear sz z x => match o with
    | .call c => match c.callee with
      | .builtin .clear => match c.args.toList, c.argTypes.toList with
        | [x'], [t] => match P.underlying t with
          | some (.slice e) => decide (0 < sz) && (match P.info? e with | some i => i.size == sz && (match i.zero with | some v => v.cells.size == sz && constOk z v | none => false) | none => false) && okOpr x x'
          | _ => false
        | _, _ => false
      | _ => false
    | _ => false
  | .copyB sz x y => match o with
    | .call c => match c.callee with
      | .builtin .copy => match c.args.toList, c.argTypes.toList with
        | [x', y'], [t, tx] => match P.underlying t, P.underlying tx with
          | some (.slice e), some (.slice _) => P.cellsOf e == sz && decide (0 < sz) && (P.info? e).isSome && okOpr x x' && okOpr y y'
          | _, _ => false
        | _, _ => false
      | _ => false
    | _ => false
  | .subO sz x lo => match o with
    | .slice t x' (some lo') none none => match P.underlying t with
      | some (.slice e) => P.cellsOf e == sz && decide (0 < sz) && (P.info? e).isSome && okOpr x x' && okOpr lo lo'
      | _ => false
    | _ => false
  | .snil neg x => match o with
    | .binOp op t a (.const (.slice none 0 0)) _ => decide (op = if neg then BinOp.neq else BinOp.eql) && (match P.underlying t with | some (.slice _) => true | _ => false) && okOpr x a
    | _ => false
  | .gix g x => match o with
    | .indexAddr t (.global g') y => g == g' && (match P.underlying t with
      | some (.array n e) => n == (tabOf g laidTab).length && P.cellsOf e == 1 && (P.info? e).isSome
      | _ => false) && okOpr x y
    | _ => false
  | .mnew => match o with
    | .makeMap t r => (match P.underlying t with | some (.map _ _) => true | _ => false) && (match r with | none => true | some (.const (.int _ _)) => true | _ => false)
    | _ => false
  | .mget ok lk z x i => match o with
    | .lookup t x' i' ok' => match P.underlying t with
      | some (.map k e) => decide (ok = ok') && decide ((P.underlying k).bind kindLK = some lk) && zeroV P e z && okOpr x x' && okOpr i i'
      | _ => false
    | _ => false
  | .mset lk x k v => match o with
    | .insert t x' k' v' => match P.underlying t with
      | some (.map kt _) => decide ((P.underlying kt).bind kindLK = some lk) && okOpr x x' && okOpr k k' && okOpr v v'
      | _ => false
    | .mapUpdate t x' k' v' => match P.underlying t with
      | some (.map kt _) => decide ((P.underlying kt).bind kindLK = some lk) && okOpr x x' && okOpr k k' && okOpr v v'
      | _ => false
    | _ => false
  | .panic x => match o with
    | .panic y => okOpr x y
    | _ => false
  | .callA _ f _ args => match o with
    | .call c => match c.callee with
      | .value g => okOpr f g && oksOpr args c.args.toList
      | _ => false
    | _ => false
  | .call f _ args => match o with
    | .call c => match c.callee with
      | .value g => okOpr f g && oksOpr args c.args.toList
      | _ => false
    | _ => false
  | _ => false

/-- The operands of an instruction and those of the operation are at one. -/
def Agree (s : St) (ρ : AOpr → AVal) (ρ' : Operand → Value) : Prop := ∀ x y, okOpr x y = true → Rv s (ρ x) (ρ' y)

section run
variable {P : Program} {s : St} {ρ : AOpr → AVal} {ρ' : Operand → Value}

theorem aggT_true {t : TypeId} (h : aggT (P.underlying t) = some true) (w : World) : (isAgg t).run P w = .ok true w := by
  unfold isAgg
  cases hu : P.underlying t with
  | none => simp [hu, aggT] at h
  | some d => cases d <;> simp [hu, aggT] at h <;> simp [underlying, hu]
theorem aggT_false {t : TypeId} (h : aggT (P.underlying t) = some false) (w : World) : (isAgg t).run P w = .ok false w := by
  unfold isAgg
  cases hu : P.underlying t with
  | none => simp [hu, aggT] at h
  | some d => cases d <;> simp [hu, aggT] at h <;> simp [underlying, hu]

theorem run_sizeOf_some {t : TypeId} (h : (P.info? t).isSome = true) (w : World) : (sizeOf t).run P w = .ok (P.cellsOf t) w := by
  unfold sizeOf typeInfo Program.cellsOf
  obtain ⟨i, hi⟩ := Option.isSome_iff_exists.1 h
  simp [hi]

theorem run_underlying_some {t : TypeId} {d : TypeDesc} (h : P.underlying t = some d) (w : World) : (underlying t).run P w = .ok d w := by
  simp [underlying, h]

theorem scal_cells {v : AVal} {c : Value} (h : Rv s v c) (hs : v.scal = true) : c.cells = #[c] := by
  cases h <;> first | rfl | (simp [AVal.scal] at hs; done) | (rename_i h _; cases h <;> rfl)

theorem scal_one {v : AVal} {c : Value} (h : Rv s v c) (hs : v.scal = true) : c.oneCell' = true := by
  cases h <;> first | rfl | (simp [AVal.scal] at hs; done) | (rename_i h _; cases h <;> rfl)

theorem Rv.agg_inv {cs : List AVal} {c : Value} (h : Rv s (.agg cs) c) : ∃ vs : Array Value, c = .agg vs ∧ vs.size = cs.length ∧ ∀ j (h1 : j < cs.length) (h2 : j < vs.size), Rv s cs[j] vs[j] := by
  cases h with
  | agg _ vs hl h => exact ⟨vs, rfl, hl, h⟩
theorem Rv.tup_inv {cs : List AVal} {c : Value} (h : Rv s (.tup cs) c) : ∃ vs : Array Value, c = .tuple vs ∧ vs.size = cs.length ∧ ∀ j (h1 : j < cs.length) (h2 : j < vs.size), Rv s cs[j] vs[j] := by
  cases h with
  | tup _ vs hl h => exact ⟨vs, rfl, hl, h⟩

theorem addr_add (blk off n : Nat) : (⟨blk, off, none⟩ : Addr).add n = ⟨blk, off + n, none⟩ := by
  unfold Addr.add; split
  · rename_i h; subst h; rfl
  · rfl

/-- A part of an aggregate: as a value. -/
theorem partV_rv {k : Option Nat} {cs : List AVal} {off : Nat} {vs : Array Value} (hl : vs.size = cs.length) (h : ∀ j (h1 : j < cs.length) (h2 : j < vs.size), Rv s cs[j] vs[j])
    (ho : partOk k cs off) : ∃ u : Value, Rv s (partV k cs off) u ∧ (match k with | none => vs[off]? = some u | some n => u = Value.agg (vs.extract off (off + n))) := by
  cases k with
  | none =>
    obtain ⟨h1, h2⟩ := ho
    have h3 : off < vs.size := by omega
    refine ⟨vs[off], ?_, by simp [h3]⟩
    have := h off h1 h3
    simpa [partV, List.getD, List.getElem?_eq_getElem h1] using this
  | some n =>
    simp only [partOk] at ho
    refine ⟨Value.agg (vs.extract off (off + n)), Rv.agg _ _ (by simp; omega) (fun j h1 h2 => ?_), rfl⟩
    simp only [List.length_take, List.length_drop] at h1
    have := h (off + j) (by omega) (by omega)
    simpa using this

end run
end Go.AM
