/- The instructions of our walk, and what each computes on abstract values. No program is named here. -/
import Derived.Test.YtmjfcbpgnmajpaaGreatDoorA1
namespace Go.AM

inductive AOpr where
  | t (n : Nat)
  | c (v : AVal)
  | f (n : Nat)
  deriving Inhabited

/-- What a cell holds that is compared. -/
inductive LK where
  | b | i | s
  deriving DecidableEq, Inhabited

/-- An instruction. 'k': how a value lies: none: in one cell; some n: n cells (a struct, an array). -/
inductive AI where
  | mv (x : AOpr)
  | pick (c a b : AOpr)
  | alloc (z : List AVal)
  | box (n : Nat) (x : AOpr)
  | pbox (n : Nat) (x : AOpr)
  | loadd (k : Option Nat) (x : AOpr)
  | mvd (x : AOpr)
  | build (z : List AVal) (parts : List (Nat × Nat × AOpr))
  | lit (m : Nat) (sz n : Nat) (parts : List (Nat × AOpr))
  | load (k : Option Nat) (x : AOpr)
  | store (sz : Nat) (x v : AOpr)
  | nilchk (x : AOpr)
  | bin (op : BinOp) (x y : AOpr)
  | eqb (neg : Bool) (x y : AOpr)
  | eqa (neg : Bool) (ks : List LK) (x y : AOpr)
  | un (op : UnOp) (x : AOpr)
  | conv (k : IntKind) (x : AOpr)
  | convs (x : AOpr)
  | mkfunc (fn : Fn) (first caps : List AOpr)
  | fieldAddr (k : Option Nat) (off : Nat) (x : AOpr)
  | field (k : Option Nat) (off : Nat) (x : AOpr)
  | ixS (sz : Nat) (x i : AOpr)
  | ixA (len sz : Nat) (k : Option Nat) (x i : AOpr)
  | ixV (len sz : Nat) (k : Option Nat) (x i : AOpr)
  | ixStr (x i : AOpr)
  | extract (x : AOpr) (i : Nat)
  | len (x : AOpr)
  | lenStr (x : AOpr)
  | lenA (n : Nat) (x : AOpr)
  | mx (l : List AOpr)
  | mn (l : List AOpr)
  | sub (m : Nat) (sz : Nat) (x : AOpr) (lo hi mx : Option AOpr)
  | subStr (x : AOpr) (lo hi : Option AOpr)
  | subq (sz : Nat) (x : AOpr) (lo hi : Option AOpr)
  | append (sz bytes : Nat) (x y : AOpr)
  | call (f : AOpr) (dn : List Bool) (args : List AOpr)
  | panic (x : AOpr)
  | mkiface (t : TypeId) (x : AOpr)
  | assert (t : TypeId) (x : AOpr)
  | range (x : AOpr)
  | next (x : AOpr)
  | mkmap
  | lookup (ok : Bool) (z : AVal) (x i : AOpr)
  | mapset (x k v : AOpr)
  | mksl (m sz bytes : Nat) (z : AVal) (n c : AOpr)
  | clear (sz : Nat) (z : AVal) (x : AOpr)
  | copyB (sz : Nat) (x y : AOpr)
  | freeze (sz : Nat) (x : AOpr)
  | nilS (m sz : Nat)
  | buildm (z : List AVal) (ps : List (Nat × Nat × AOpr))
  | storem (sz : Nat) (x : AOpr)
  | subO (sz : Nat) (x lo : AOpr)
  | isnil (neg : Bool) (x : AOpr)
  | callA (sz : Nat) (f : AOpr) (dn : List Bool) (args : List AOpr)
  | gix (g : Nat) (x : AOpr)
  | snil (neg : Bool) (x : AOpr)
  | mnew
  | mget (ok : Bool) (lk : LK) (z : AVal) (x i : AOpr)
  | mset (lk : LK) (x k v : AOpr)
  | other
  deriving Inhabited

structure AOper where
  d : Option Nat
  g : Option (Nat × Bool)
  i : AI
  deriving Inhabited

def Env.put (e : Env) (d : Option Nat) (v : AVal) : Env :=
  match d with
  | some d => (d, v) :: e
  | none => e

/-- Of all slots those that live on. -/
def Env.only (e : Env) : List Nat → Env
  | [] => []
  | n :: r => (n, e.get n) :: Env.only e r

def AVal.strip : AVal → AVal
  | .opt _ v => v
  | v => v
def AVal.cond : AVal → Bool
  | .opt g _ => g
  | _ => true

def opv (e : Env) : AOpr → AVal
  | .t n => (e.get n).strip
  | .c v => v
  | .f n => .func (.func n) [] []
def opg (e : Env) : AOpr → Bool
  | .t n => (e.get n).cond
  | _ => true

def AI.opers : AI → List AOpr
  | .mv x | .box _ x | .pbox _ x | .loadd _ x | .mvd x | .load _ x | .nilchk x | .un _ x | .conv _ x | .convs x | .fieldAddr _ _ x | .field _ _ x | .extract x _ | .len x | .lenStr x | .panic x | .mkiface _ x | .assert _ x | .range x | .next x | .freeze _ x | .clear _ _ x | .isnil _ x | .gix _ x | .snil _ x => [x]
  | .lenA _ _ | .alloc _ | .mkmap | .mnew | .nilS _ _ | .other => []
  | .pick c _ _ => [c]
  | .build _ ps => ps.map (·.2.2)
  | .buildm _ ps => ps.map (·.2.2)
  | .storem _ x => [x]
  | .lit _ _ _ ps => ps.map (·.2)
  | .store _ x y | .bin _ x y | .eqb _ x y | .eqa _ _ x y | .ixS _ x y | .ixA _ _ _ x y | .ixV _ _ _ x y | .ixStr x y | .append _ _ x y | .lookup _ _ x y | .subO _ x y | .mget _ _ _ x y | .mksl _ _ _ _ x y | .copyB _ x y => [x, y]
  | .mkfunc _ a b => a ++ b
  | .mx l | .mn l => l
  | .sub _ _ x a b c => x :: (a.toList ++ b.toList ++ c.toList)
  | .subStr x a b | .subq _ x a b => x :: (a.toList ++ b.toList)
  | .call f _ l | .callA _ f _ l => f :: l
  | .mapset x k v | .mset _ x k v => [x, k, v]

/-- The part of an aggregate that lies from a cell on. -/
def partV (k : Option Nat) (cs : List AVal) (off : Nat) : AVal :=
  match k with
  | none => cs.getD off .undef
  | some n => .agg ((cs.drop off).take n)
def partOk (k : Option Nat) (cs : List AVal) (off : Nat) : Prop :=
  match k with
  | none => off < cs.length ∧ (cs.getD off .undef).scal = true
  | some n => off + n ≤ cs.length

def putCells (cs : List AVal) (off : Nat) : List AVal → List AVal
  | [] => cs
  | v :: r => putCells (cs.set off v) (off + 1) r

def AHeap.get (σ : AHeap) (b : Nat) : AObj := σ.getD b .dead

/-- A value whose cells are known. -/
def AVal.fine : AVal → Bool
  | .agg _ => true
  | v => v.scal

def loadV (k : Option Nat) (σ : AHeap) : AVal → AVal
  | .pval v => v
  | .ptr b off => match σ.get b with
    | .box cs => partV k cs off
    | _ => .undef
  | .eptr _ b i f _ => match σ.get b with
    | .arr _ xs => partV k (xs.getD i .undef).cells f
    | _ => .undef
  | _ => .undef
def loadOk (k : Option Nat) (σ : AHeap) : AVal → Prop
  | .pval v => match k with
    | none => v.scal = true
    | some n => match v with
      | .agg cs => cs.length = n
      | _ => False
  | .ptr b off => match σ.get b with
    | .box cs => partOk k cs off
    | _ => False
  | .eptr sz b i f n => match σ.get b with
    | .arr sz' xs => sz' = sz ∧ xs.length = n ∧ i < n ∧ (xs.getD i .undef).fine = true ∧ partOk k (xs.getD i .undef).cells f
    | _ => False
  | _ => False

/-- What can be stored: cells, none of them an aggregate. -/
def allScal : List AVal → Bool
  | [] => true
  | v :: r => v.scal && allScal r

def cellsLen (v : AVal) (n : Nat) : Prop :=
  match v with
  | .agg cs => cs.length = n
  | v => v.scal = true ∧ n = 1

def fillV (z : List AVal) : List (Nat × List AVal) → List AVal
  | [] => z
  | (off, cs) :: r => fillV (putCells z off cs) r

def fillOk (n : Nat) (ρ : AOpr → AVal) : List (Nat × Nat × AOpr) → Prop
  | [] => True
  | (off, sz, x) :: r => cellsLen (ρ x) sz ∧ off + sz ≤ n ∧ fillOk n ρ r

/-- The elements of a literal. -/
def litV (ρ : AOpr → AVal) (z : List AVal) : List (Nat × AOpr) → List AVal
  | [] => z
  | (i, x) :: r => litV ρ (z.set i (ρ x)) r
def litOk (sz n : Nat) (ρ : AOpr → AVal) : List (Nat × AOpr) → Prop
  | [] => True
  | (i, x) :: r => i < n ∧ cellsLen (ρ x) sz ∧ litOk sz n ρ r

def leafEq : AVal → AVal → Bool
  | .int _ a, .int _ b => a == b
  | .str a, .str b => a == b
  | .bool a, .bool b => a == b
  | _, _ => false
def leafOk : AVal → AVal → Bool
  | .int j _, .int k _ => j == k
  | .str _, .str _ => true
  | .bool _, .bool _ => true
  | _, _ => false
def leafIs : LK → AVal → AVal → Bool
  | .i, .int j _, .int k _ => j == k
  | .s, .str _, .str _ => true
  | .b, .bool _, .bool _ => true
  | _, _, _ => false
def cellsEq : List AVal → List AVal → Bool
  | x :: r, y :: t => leafEq x y && cellsEq r t
  | _, _ => true
def cellsEqOk : List LK → List AVal → List AVal → Bool
  | [], [], [] => true
  | k :: l, x :: r, y :: t => leafIs k x y && cellsEqOk l r t
  | _, _, _ => false

def arith (op : BinOp) (k : IntKind) (a b : Int) : AVal :=
  match op with
  | .add => .int k (k.wrap (a + b))
  | .sub => .int k (k.wrap (a - b))
  | .mul => .int k (k.wrap (a * b))
  | .quo => .int k (k.wrap (a.tdiv b))
  | .rem => .int k (a.tmod b)
  | .and => .int k (k.wrap (BitVec.ofInt k.bits a &&& BitVec.ofInt k.bits b).toNat)
  | .or => .int k (k.wrap (BitVec.ofInt k.bits a ||| BitVec.ofInt k.bits b).toNat)
  | .xor => .int k (k.wrap (BitVec.ofInt k.bits a ^^^ BitVec.ofInt k.bits b).toNat)
  | .andNot => .int k (k.wrap (BitVec.ofInt k.bits a &&& ~~~ (BitVec.ofInt k.bits b)).toNat)
  | .shl => .int k (k.wrap (a * 2 ^ min b.toNat k.bits))
  | .shr => .int k (a.fdiv (2 ^ min b.toNat k.bits))
  | .eql => .bool (a == b)
  | .neq => .bool (a != b)
  | .lss => .bool (decide (a < b))
  | .leq => .bool (decide (a ≤ b))
  | .gtr => .bool (decide (a > b))
  | .geq => .bool (decide (a ≥ b))
def arithOk (op : BinOp) (j k : IntKind) (b : Int) : Prop :=
  match op with
  | .quo | .rem => j = k ∧ b ≠ 0
  | .shl | .shr => 0 ≤ b
  | _ => j = k

def strop (op : BinOp) (a b : ByteArray) : AVal :=
  match op with
  | .add => .str (a ++ b)
  | .eql => .bool (a.toList == b.toList)
  | .neq => .bool (!(a.toList == b.toList))
  | .lss => .bool (Op.bytesLess a.toList b.toList)
  | .leq => .bool (Op.bytesLess a.toList b.toList || a.toList == b.toList)
  | .gtr => .bool (!(Op.bytesLess a.toList b.toList || a.toList == b.toList))
  | .geq => .bool (!Op.bytesLess a.toList b.toList)
  | _ => .undef
def stropOk (op : BinOp) (a b : ByteArray) : Prop :=
  match op with
  | .add => ((a.size + b.size : Nat) : Int) ≤ IntKind.i64.max
  | .eql | .neq | .lss | .leq | .gtr | .geq => True
  | _ => False

def binV (op : BinOp) : AVal → AVal → AVal
  | .int k a, .int _ b => arith op k a b
  | .str a, .str b => strop op a b
  | _, _ => .undef
def binOk (op : BinOp) : AVal → AVal → Prop
  | .int j _, .int k b => arithOk op j k b
  | .str a, .str b => stropOk op a b
  | _, _ => False

def unV (op : UnOp) : AVal → AVal
  | .bool b => match op with
    | .not => .bool (!b)
    | _ => .undef
  | .int k n => match op with
    | .neg => .int k (k.wrap (0 - n))
    | .xor => .int k (k.wrap (BitVec.ofInt k.bits (if k.signed then -1 else k.max) ^^^ BitVec.ofInt k.bits n).toNat)
    | _ => .undef
  | _ => .undef
def unOk (op : UnOp) : AVal → Prop
  | .bool _ => match op with
    | .not => True
    | _ => False
  | .int _ _ => match op with
    | .neg | .xor => True
    | _ => False
  | _ => False

def intV : AVal → Int
  | .int _ n => n
  | _ => 0
def isInt : AVal → Prop
  | .int _ _ => True
  | _ => False

/-- The elements of a slice that is known. -/
def AVal.elems (σ : AHeap) : AVal → List AVal
  | .slice _ xs => xs
  | .oslice _ xs _ _ => xs
  | .sref _ b off len _ => match σ.get b with
    | .arr _ xs => (xs.drop off).take len
    | _ => []
  | _ => []
def AVal.elemsOk (σ : AHeap) (sz : Nat) : AVal → Prop
  | .slice sz' xs => sz' = sz ∨ xs = []
  | .oslice sz' _ _ _ => sz' = sz
  | .sref sz' b _ _ n => sz' = sz ∧ match σ.get b with
    | .arr sz'' xs => sz'' = sz ∧ xs.length = n
    | _ => False
  | _ => False

def lenV : AVal → AVal
  | .slice _ xs => .int .i64 xs.length
  | .oslice _ xs _ _ => .int .i64 xs.length
  | .sref _ _ _ len _ => .int .i64 len
  | _ => .undef
def lenOk : AVal → Prop
  | .slice _ _ | .oslice _ _ _ _ | .sref _ _ _ _ _ => True
  | _ => False

def ixSV (n : Int) : AVal → AVal
  | .slice _ xs => .pval (xs.getD n.toNat .undef)
  | .oslice _ xs _ _ => .pval (xs.getD n.toNat .undef)
  | .sref sz b off _ m => .eptr sz b (off + n.toNat) 0 m
  | _ => .undef
def ixSOk (sz : Nat) (n : Int) : AVal → Prop
  | .slice sz' xs => sz' = sz ∧ 0 ≤ n ∧ n < xs.length
  | .oslice sz' xs _ _ => sz' = sz ∧ 0 ≤ n ∧ n < xs.length
  | .sref sz' _ _ len _ => sz' = sz ∧ 0 ≤ n ∧ n < len
  | _ => False

def fieldAddrV (k : Option Nat) (off : Nat) : AVal → AVal
  | .pval (.agg cs) => .pval (partV k cs off)
  | .ptr b o => .ptr b (o + off)
  | .eptr sz b i f n => .eptr sz b i (f + off) n
  | _ => .undef
def fieldAddrOk (k : Option Nat) (off : Nat) : AVal → Prop
  | .pval (.agg cs) => partOk k cs off
  | .ptr _ _ | .eptr _ _ _ _ _ => True
  | _ => False

def aggV (k : Option Nat) (off : Nat) : AVal → AVal
  | .agg cs => partV k cs off
  | _ => .undef
def aggOk (k : Option Nat) (off : Nat) : AVal → Prop
  | .agg cs => partOk k cs off
  | _ => False

def maxV (x : AVal) (y : AVal) : AVal :=
  match x, y with
  | .int k a, .int _ b => .int k (if b > a then b else a)
  | _, _ => .undef
def minV (x : AVal) (y : AVal) : AVal :=
  match x, y with
  | .int k a, .int _ b => .int k (if b < a then b else a)
  | _, _ => .undef
def allInt : List AVal → Prop
  | [] => True
  | x :: r => isInt x ∧ allInt r

/-- A bound of a part of a slice. -/
def bndV (ρ : AOpr → AVal) (d : Int) : Option AOpr → Int
  | none => d
  | some x => intV (ρ x)
def bndOk (ρ : AOpr → AVal) : Option AOpr → Prop
  | none => True
  | some x => isInt (ρ x)

/-- The instructions that leave the abstract heap as it is: their value. -/
def AI.val (ρ : AOpr → AVal) (σ : AHeap) : AI → AVal
  | .mv x => ρ x
  | .build z ps => .agg (fillV z (ps.map fun p => (p.1, (ρ p.2.2).cells)))
  | .lit _ sz n ps => .slice sz (litV ρ (List.replicate n .undef) ps)
  | .load k x => loadV k σ (ρ x)
  | .nilchk x => ρ x
  | .bin op x y => binV op (ρ x) (ρ y)
  | .eqb neg x y => match ρ x, ρ y with
    | .bool a, .bool b => .bool (neg != (a == b))
    | _, _ => .undef
  | .eqa neg _ x y => match ρ x, ρ y with
    | .agg a, .agg b => .bool (neg != cellsEq a b)
    | _, _ => .undef
  | .un op x => unV op (ρ x)
  | .conv k x => .int k (k.wrap (intV (ρ x)))
  | .convs x => ρ x
  | .mkfunc fn first caps => .func fn (first.map ρ) (caps.map ρ)
  | .fieldAddr k off x => fieldAddrV k off (ρ x)
  | .field k off x => aggV k off (ρ x)
  | .ixS _ x i => ixSV (intV (ρ i)) (ρ x)
  | .ixA _ sz k x i => fieldAddrV k ((intV (ρ i)).toNat * sz) (ρ x)
  | .ixV _ sz k x i => aggV k ((intV (ρ i)).toNat * sz) (ρ x)
  | .ixStr x i => match ρ x with
    | .str s => .int .u8 (s.data.getD (intV (ρ i)).toNat 0).toNat
    | _ => .undef
  | .extract x i => match ρ x with
    | .tup vs => vs.getD i .undef
    | _ => .undef
  | .len x => lenV (ρ x)
  | .lenStr x => match ρ x with
    | .str s => .int .i64 s.size
    | _ => .undef
  | .lenA n _ => .int .i64 n
  | .mx l => match l.map ρ with
    | [] => .undef
    | x :: r => r.foldl maxV x
  | .mn l => match l.map ρ with
    | [] => .undef
    | x :: r => r.foldl minV x
  | .mkiface t x => .iface t (ρ x)
  | .assert _ x => match ρ x with
    | .iface _ v => v
    | _ => .undef
  | .subStr x lo hi => match ρ x with
    | .str s => .str (s.extract (bndV ρ 0 lo).toNat (bndV ρ s.size hi).toNat)
    | _ => .undef
  | .subq sz x lo hi => match ρ x with
    | .slice _ xs => .slice sz ((xs.take (bndV ρ xs.length hi).toNat).drop (bndV ρ 0 lo).toNat)
    | .oslice _ xs _ _ => .slice sz ((xs.take (bndV ρ xs.length hi).toNat).drop (bndV ρ 0 lo).toNat)
    | _ => .undef
  | .lookup ok z x i => match ρ x with
    | .map b => match σ.get b with
      | .amap es => match es.find? (fun e => leafEq (ρ i) e.1) with
        | some e => if ok then .tup [e.2, .bool true] else e.2
        | none => if ok then .tup [z, .bool false] else z
      | _ => .undef
    | _ => .undef
  | _ => .undef

/-- What has to be shown for them. -/
def AI.side (ρ : AOpr → AVal) (σ : AHeap) : AI → Prop
  | .mv _ => True
  | .build z ps => fillOk z.length ρ ps
  | .lit m sz n ps => m = 0 ∧ litOk sz n ρ ps
  | .load k x => loadOk k σ (ρ x)
  | .nilchk x => match ρ x with
    | .pval _ | .ptr _ _ | .eptr _ _ _ _ _ | .func (.func _) _ _ => True
    | _ => False
  | .bin op x y => binOk op (ρ x) (ρ y)
  | .eqb _ x y => match ρ x, ρ y with
    | .bool _, .bool _ => True
    | _, _ => False
  | .eqa _ ks x y => match ρ x, ρ y with
    | .agg a, .agg b => cellsEqOk ks a b = true
    | _, _ => False
  | .un op x => unOk op (ρ x)
  | .conv _ x => isInt (ρ x)
  | .convs x => match ρ x with
    | .str _ => True
    | _ => False
  | .mkfunc _ _ _ => True
  | .fieldAddr k off x => fieldAddrOk k off (ρ x)
  | .field k off x => aggOk k off (ρ x)
  | .ixS sz x i => isInt (ρ i) ∧ ixSOk sz (intV (ρ i)) (ρ x)
  | .ixA m sz k x i => isInt (ρ i) ∧ 0 ≤ intV (ρ i) ∧ intV (ρ i) < m ∧ fieldAddrOk k ((intV (ρ i)).toNat * sz) (ρ x)
  | .ixV m sz k x i => isInt (ρ i) ∧ 0 ≤ intV (ρ i) ∧ intV (ρ i) < m ∧ aggOk k ((intV (ρ i)).toNat * sz) (ρ x)
  | .ixStr x i => isInt (ρ i) ∧ match ρ x with
    | .str s => 0 ≤ intV (ρ i) ∧ intV (ρ i) < s.size
    | _ => False
  | .extract x i => match ρ x with
    | .tup vs => i < vs.length
    | _ => False
  | .len x => lenOk (ρ x)
  | .lenStr x => match ρ x with
    | .str _ => True
    | _ => False
  | .lenA _ _ => True
  | .mx l | .mn l => l.map ρ ≠ [] ∧ allInt (l.map ρ)
  | .mkiface _ _ => True
  | .assert t x => match ρ x with
    | .iface u _ => u = t
    | _ => False
  | .subStr x lo hi => bndOk ρ lo ∧ bndOk ρ hi ∧ match ρ x with
    | .str s => 0 ≤ bndV ρ 0 lo ∧ bndV ρ 0 lo ≤ bndV ρ s.size hi ∧ bndV ρ s.size hi ≤ s.size
    | _ => False
  | .subq sz x lo hi => bndOk ρ lo ∧ bndOk ρ hi ∧ match ρ x with
    | .slice sz' xs => (sz' = sz ∨ xs = []) ∧ 0 ≤ bndV ρ 0 lo ∧ bndV ρ 0 lo ≤ bndV ρ xs.length hi ∧ bndV ρ xs.length hi ≤ xs.length
    | .oslice sz' xs _ _ => sz' = sz ∧ 0 ≤ bndV ρ 0 lo ∧ bndV ρ 0 lo ≤ bndV ρ xs.length hi ∧ bndV ρ xs.length hi ≤ xs.length
    | _ => False
  | .lookup _ _ x i => match ρ x with
    | .map b => match σ.get b with
      | .amap es => ∀ e ∈ es, leafOk (ρ i) e.1 = true
      | _ => False
    | _ => False
  | _ => False

def AI.plain : AI → Bool
  | .mv _ | .build _ _ | .load _ _ | .nilchk _ | .bin _ _ _ | .eqb _ _ _ | .eqa _ _ _ _ | .un _ _ | .conv _ _ | .convs _ | .mkfunc _ _ _ | .fieldAddr _ _ _ | .field _ _ _ | .ixS _ _ _ | .ixA _ _ _ _ _
  | .ixV _ _ _ _ _ | .ixStr _ _ | .extract _ _ | .len _ | .lenStr _ | .lenA _ _ | .mx _ | .mn _ | .mkiface _ _ | .assert _ _ | .lookup _ _ _ _ | .subStr _ _ _ | .subq _ _ _ _ => true
  | .lit m _ _ _ => m == 0
  | _ => false

/-- A cell that is to be nil, and to have its own room. -/
def AVal.unmint : AVal → AVal
  | .mint sz => .slice sz []
  | v => v
def mintL : List AVal → Nat → List AVal × List AObj
  | [], _ => ([], [])
  | .mint sz :: r, n => if sz < 1000 then (.oslice sz [] n 0 :: (mintL r (n + 1)).1, .spare sz 0 :: (mintL r (n + 1)).2)
      else (.sref (sz - 1000) n 0 0 0 :: (mintL r (n + 1)).1, .arr (sz - 1000) [] :: (mintL r (n + 1)).2)
  | v :: r, n => (v :: (mintL r n).1, (mintL r n).2)

/-- An element of which some cells are written. -/
def setElem (v : AVal) (f : Nat) (cells : List AVal) : AVal :=
  match v with
  | .agg cs => .agg (putCells cs f cells)
  | _ => cells.getD 0 .undef
def setElemOk (v : AVal) (f n : Nat) : Prop :=
  match v with
  | .agg cs => f + n ≤ cs.length
  | v => v.scal = true ∧ f = 0 ∧ n = 1

def storeOk (σ : AHeap) (sz : Nat) (v : AVal) : AVal → Prop
  | .ptr b off => cellsLen v sz ∧ allScal v.cells = true ∧ match σ.get b with
    | .box cs => off + sz ≤ cs.length
    | _ => False
  | .eptr esz b i f n => cellsLen v sz ∧ allScal v.cells = true ∧ match σ.get b with
    | .arr esz' xs => esz' = esz ∧ xs.length = n ∧ i < n ∧ setElemOk (xs.getD i .undef) f sz
    | _ => False
  | _ => False
def storeV (σ : AHeap) (v : AVal) : AVal → AHeap
  | .ptr b off => match σ.get b with
    | .box cs => σ.set b (.box (putCells cs off v.cells))
    | _ => σ
  | .eptr _ b i f _ => match σ.get b with
    | .arr esz xs => σ.set b (.arr esz (xs.set i (setElem (xs.getD i .undef) f v.cells)))
    | _ => σ
  | _ => σ

def pickV (c : Bool) (a b : AVal) : AVal :=
  match a, b with
  | .bool x, .bool y => .bool (if c = true then x else y)
  | _, _ => if c = true then a else b
def boolV : AVal → Bool
  | .bool b => b
  | _ => false
def isBool : AVal → Prop
  | .bool _ => True
  | _ => False

/-- Elements that can be written. -/
def Fits (sz : Nat) (ys : List AVal) : Prop := ∀ v ∈ ys, cellsLen v sz ∧ allScal v.cells = true

def appendW (sz bytes : Nat) (σ : AHeap) (x : AVal) (ys : List AVal) (K : AVal → AHeap → Prop) : Prop :=
  match x with
  | .oslice sz' xs b k => sz' = sz ∧ (xs.length + ys.length) * bytes ≤ 140737488355328 ∧ match σ.get b with
    | .spare sz'' k' => sz'' = sz ∧ k' = k ∧ K (.oslice sz (xs ++ ys) b (k + 1)) (σ.set b (.spare sz (k + 1)))
    | _ => False
  | .sref sz' b off len n => sz' = sz ∧ match σ.get b with
    | .arr sz'' xs => sz'' = sz ∧ xs.length = n ∧
        if off + len + ys.length ≤ n then K (.sref sz b off (len + ys.length) n) (σ.set b (.arr sz (xs.take (off + len) ++ ys ++ xs.drop (off + len + ys.length))))
        else off = 0 ∧ len = n ∧ (n + ys.length) * bytes ≤ 140737488355328 ∧ K (.sref sz b 0 (n + ys.length) (n + ys.length)) (σ.set b (.arr sz (xs ++ ys)))
    | _ => False
  | _ => False

def subW (m sz : Nat) (σ : AHeap) (x : AVal) (lo : Int) (hi : Int → Int) (mx : Option Int) (K : AVal → AHeap → Prop) : Prop :=
  let go (xs : List AVal) : Prop :=
    0 ≤ lo ∧ lo ≤ hi xs.length ∧ (match mx with
      | none => hi xs.length ≤ xs.length ∧ m = 0
      | some v => hi xs.length ≤ v ∧ v ≤ xs.length ∧ (m = 1 → v = hi xs.length) ∧ (m = 2 → v = 0)) ∧
    (if m = 0 then K (.slice sz ((xs.take (hi xs.length).toNat).drop lo.toNat)) σ
    else if m = 1 then K (.oslice sz ((xs.take (hi xs.length).toNat).drop lo.toNat) σ.length 0) (σ ++ [.spare sz 0])
    else m = 2 ∧ K (.sref sz σ.length 0 0 0) (σ ++ [.arr sz []]))
  match x with
  | .slice sz' xs => (sz' = sz ∨ xs = []) ∧ go xs
  | .oslice sz' xs _ _ => sz' = sz ∧ go xs
  | .sref sz' b off len n => sz' = sz ∧ m = 0 ∧ mx = none ∧ 0 ≤ lo ∧ lo ≤ hi len ∧ off + hi len ≤ n ∧ K (.sref sz b (off + lo.toNat) (hi len - lo).toNat n) σ
  | _ => False

def mkslW (m sz bytes : Nat) (σ : AHeap) (z : AVal) (n c : Int) (K : AVal → AHeap → Prop) : Prop :=
  0 ≤ n ∧ n ≤ c ∧ c * bytes ≤ 140737488355328 ∧ c ≤ 140737488355328 ∧
  (if m = 1 then n = 0 ∧ K (.oslice sz [] σ.length 0) (σ ++ [.spare sz 0])
  else if m = 2 then K (.sref sz σ.length 0 n.toNat n.toNat) (σ ++ [.arr sz (List.replicate n.toNat z)])
  else m = 0 ∧ K (.slice sz (List.replicate n.toNat z)) σ)

def clearW (sz : Nat) (σ : AHeap) (z : AVal) (x : AVal) (K : AVal → AHeap → Prop) : Prop :=
  match x with
  | .sref sz' b off len n => sz' = sz ∧ cellsLen z sz ∧ allScal z.cells = true ∧ match σ.get b with
    | .arr sz'' xs => sz'' = sz ∧ xs.length = n ∧ K (.tup []) (σ.set b (.arr sz (xs.take off ++ List.replicate len z ++ xs.drop (off + len))))
    | _ => False
  | _ => False

def copyW (sz : Nat) (σ : AHeap) (x : AVal) (ys : List AVal) (K : AVal → AHeap → Prop) : Prop :=
  match x with
  | .sref sz' b off len n => sz' = sz ∧ match σ.get b with
    | .arr sz'' xs => sz'' = sz ∧ xs.length = n ∧ K (.int .i64 (min ys.length len : Nat)) (σ.set b (.arr sz (xs.take off ++ ys.take len ++ xs.drop (off + min ys.length len))))
    | _ => False
  | _ => False

def rangeW (σ : AHeap) (x : AVal) (K : AVal → AHeap → Prop) : Prop :=
  match x with
  | .str y => K (.iter σ.length) (σ ++ [.siter y 0])
  | _ => False

def nextW (σ : AHeap) (x : AVal) (K : AVal → AHeap → Prop) : Prop :=
  match x with
  | .iter b => match σ.get b with
    | .siter y pos => if pos < y.size then K (.tup [.bool true, .int .i64 pos, .int .i32 (Utf8.decode y pos).1]) (σ.set b (.siter y (pos + (Utf8.decode y pos).2))) else K (.tup [.bool false]) σ
    | _ => False
  | _ => False

def freezeW (sz : Nat) (σ : AHeap) (x : AVal) (K : AVal → AHeap → Prop) : Prop :=
  match x with
  | .sref sz' b off len n => sz' = sz ∧ match σ.get b with
    | .arr sz'' xs => sz'' = sz ∧ xs.length = n ∧ K (.slice sz ((xs.drop off).take len)) (σ.set b .dead)
    | _ => False
  | _ => False

/-- The rest of a slice, which keeps its room. -/
def subOW (sz : Nat) (σ : AHeap) (x lo : AVal) (K : AVal → AHeap → Prop) : Prop :=
  match x, lo with
  | .oslice sz' xs b k, .int _ n => sz' = sz ∧ 0 ≤ n ∧ n ≤ xs.length ∧ match σ.get b with
    | .spare sz'' k' => sz'' = sz ∧ k' = k ∧ K (.oslice sz (xs.drop n.toNat) b (k + 1)) (σ.set b (.spare sz (k + 1)))
    | _ => False
  | _, _ => False

/-! A table of the program. -/
def tabOf (g : Nat) : List (Nat × List (IntKind × Int)) → List (IntKind × Int)
  | [] => []
  | (h, cs) :: r => if h = g then cs else tabOf g r
def gixW (g : Nat) (σ : AHeap) (x : AVal) (K : AVal → AHeap → Prop) : Prop :=
  match x with
  | .int _ n => 0 ≤ n ∧ match (tabOf g laidTab)[n.toNat]? with
    | some (k, v) => K (.pval (.int k v)) σ
    | none => False
  | _ => False

def isnilW (neg : Bool) (σ : AHeap) (x : AVal) (K : AVal → AHeap → Prop) : Prop :=
  match x with
  | .niliface => K (.bool !neg) σ
  | .iface _ _ => K (.bool neg) σ
  | _ => False
/-! Is a slice nil? Of an empty one nobody knows. -/
def snilW (neg : Bool) (σ : AHeap) (x : AVal) (K : AVal → AHeap → Prop) : Prop :=
  match x with
  | .slice _ xs | .oslice _ xs _ _ => K (.bool neg) σ ∧ (xs = [] → K (.bool !neg) σ)
  | .sref _ _ _ len _ => K (.bool neg) σ ∧ (len = 0 → K (.bool !neg) σ)
  | _ => False

/-! Maps whose keys are numbers, strings or Booleans. -/
def keysOk (lk : LK) (k : AVal) : List (AVal × AVal) → Bool
  | [] => true
  | e :: r => leafIs lk k e.1 && keysOk lk k r
def mapGet (k : AVal) : List (AVal × AVal) → Option AVal
  | [] => none
  | e :: r => if leafEq k e.1 then some e.2 else mapGet k r
def mapPut (k v : AVal) : List (AVal × AVal) → List (AVal × AVal)
  | [] => [(k, v)]
  | e :: r => if leafEq k e.1 then (k, v) :: r else e :: mapPut k v r
def mgetV (ok : Bool) (z : AVal) : Option AVal → AVal
  | some v => if ok then .tup [v, .bool true] else v
  | none => if ok then .tup [z, .bool false] else z
def mgetW (ok : Bool) (lk : LK) (z : AVal) (σ : AHeap) (x k : AVal) (K : AVal → AHeap → Prop) : Prop :=
  match x with
  | .map b => match σ.get b with
    | .amap es => keysOk lk k es = true ∧ K (mgetV ok z (mapGet k es)) σ
    | _ => False
  | _ => False
def msetW (lk : LK) (σ : AHeap) (x k v : AVal) (K : AVal → AHeap → Prop) : Prop :=
  match x with
  | .map b => match σ.get b with
    | .amap es => keysOk lk k es = true ∧ K .undef (σ.set b (.amap (mapPut k v es)))
    | _ => False
  | _ => False

/-- A slice handed on without its room. -/
def AVal.down : AVal → AVal
  | .oslice sz xs _ _ => .slice sz xs
  | v => v
def AVal.deown : AVal → AVal
  | .agg cs => .agg (cs.map AVal.down)
  | v => v.down
def deowns : List Bool → List AVal → List AVal
  | true :: r, v :: l => v.deown :: deowns r l
  | _ :: r, v :: l => v :: deowns r l
  | [], l => l
  | _, [] => []

end Go.AM
