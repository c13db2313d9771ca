/- The instructions of our walk, and what each computes on abstract values. No program is named here. When an instruction of ours stands for an operation of the program (checked by the kernel, P: any .. -/
import Derived.Test.YthhmdhiiicipkaaGreatDoorP1
import Derived.Laws.Cells
import Derived.WalkKit
namespace Go.AM
inductive aG where
  | t (n:Nat)
  | c (v:ab)
  | f (n:Nat)
  deriving Inhabited
inductive LK where
  | b | i | s
  deriving DecidableEq,Inhabited
inductive AI where
  | mv (x:aG)
  | pick (c a b:aG)
  | alloc (z:List ab)
  | box (n:Nat) (x:aG)
  | pbox (n:Nat) (x:aG)
  | loadd (k:Option Nat) (x:aG)
  | mvd (x:aG)
  | build (z:List ab) (parts:List (Nat × Nat × aG))
  | lit (m:Nat) (sz n:Nat) (parts:List (Nat × aG))
  | load (k:Option Nat) (x:aG)
  | store (sz:Nat) (x v:aG)
  | nilchk (x:aG)
  | bin (op:BinOp) (x y:aG)
  | eqb (neg:Bool) (x y:aG)
  | eqa (neg:Bool) (ks:List LK) (x y:aG)
  | un (op:UnOp) (x:aG)
  | conv (k:IntKind) (x:aG)
  | convs (x:aG)
  | mkfunc (fn:Fn) (first caps:List aG)
  | fieldAddr (k:Option Nat) (off:Nat) (x:aG)
  | field (k:Option Nat) (off:Nat) (x:aG)
  | ixS (sz:Nat) (x i:aG)
  | ixA (len sz:Nat) (k:Option Nat) (x i:aG)
  | ixV (len sz:Nat) (k:Option Nat) (x i:aG)
  | ixStr (x i:aG)
  | extract (x:aG) (i:Nat)
  | len (x:aG)
  | lenStr (x:aG)
  | lenA (n:Nat) (x:aG)
  | mx (l:List aG)
  | mn (l:List aG)
  | sub (m:Nat) (sz:Nat) (x:aG) (lo hi mx:Option aG)
  | subStr (x:aG) (lo hi:Option aG)
  | subq (sz:Nat) (x:aG) (lo hi:Option aG)
  | append (sz bytes:Nat) (x y:aG)
  | call (f:aG) (dn:List Bool) (args:List aG)
  | panic (x:aG)
  | mkiface (t:TypeId) (x:aG)
  | assert (t:TypeId) (x:aG)
  | range (x:aG)
  | next (x:aG)
  | mkmap
  | lookup (ok:Bool) (z:ab) (x i:aG)
  | mapset (x k v:aG)
  | mksl (m sz bytes:Nat) (z:ab) (n c:aG)
  | clear (sz:Nat) (z:ab) (x:aG)
  | copyB (sz:Nat) (x y:aG)
  | freeze (sz:Nat) (x:aG)
  | nilS (m sz:Nat)
  | buildm (z:List ab) (ps:List (Nat × Nat × aG))
  | storem (sz:Nat) (x:aG)
  | subO (sz:Nat) (x lo:aG)
  | isnil (neg:Bool) (x:aG)
  | callA (sz:Nat) (f:aG) (dn:List Bool) (args:List aG)
  | gix (g:Nat) (x:aG)
  | snil (neg:Bool) (x:aG)
  | mnew
  | mget (ok:Bool) (lk:LK) (z:ab) (x i:aG)
  | mset (lk:LK) (x k v:aG)
  | allocB
  | appS (bytes:Nat) (x y:aG)
  | b2s (x:aG)
  | subA (n sz:Nat) (x:aG)
  | other
  deriving Inhabited
structure ay where
  d:Option Nat
  g:Option (Nat × Bool)
  i:AI
  deriving Inhabited
def Env.put (e:Env) (d:Option Nat) (v:ab):Env:=
  match d with
  | some d=>(d,v) :: e
  | none=>e
def Env.only (e:Env):List Nat → Env
  | []=>[]
  | n :: r=>(n,e.get n) :: Env.only e r
def ab.strip:ab → ab
  | .opt _ v=>v
  | v=>v
def ab.cond:ab → Bool
  | .opt g _=>g
  | _=>true
def opv (e:Env):aG → ab
  | .t n=>(e.get n).strip
  | .c v=>v
  | .f n=>.func (.func n) [] []
def opg (e:Env):aG → Bool
  | .t n=>(e.get n).cond
  | _=>true
def AI.opers:AI → List aG
  | .b2s x | .subA _ _ x | .mv x | .box _ x | .pbox _ x | .loadd _ x | .mvd x | .load _ x | .nilchk x | .un _ x | .conv _ x | .convs x | .fieldAddr _ _ x | .field _ _ x | .extract x _ | .len x | .lenStr x | .panic x | .mkiface _ x | .assert _ x | .range x | .next x | .freeze _ x | .clear _ _ x | .isnil _ x | .gix _ x | .snil _ x=>[x]
  | .lenA _ _ | .allocB | .alloc _ | .mkmap | .mnew | .nilS _ _ | .other=>[]
  | .pick c _ _=>[c]
  | .build _ ps=>ps.map (·.2.2)
  | .buildm _ ps=>ps.map (·.2.2)
  | .storem _ x=>[x]
  | .lit _ _ _ ps=>ps.map (·.2)
  | .appS _ x y | .store _ x y | .bin _ x y | .eqb _ x y | .eqa _ _ x y | .ixS _ x y | .ixA _ _ _ x y | .ixV _ _ _ x y | .ixStr x y | .append _ _ x y | .lookup _ _ x y | .subO _ x y | .mget _ _ _ x y | .mksl _ _ _ _ x y | .copyB _ x y=>[x,y]
  | .mkfunc _ a b=>a ++ b
  | .mx l | .mn l=>l
  | .sub _ _ x a b c=>x :: (a.toList ++ b.toList ++ c.toList)
  | .subStr x a b | .subq _ x a b=>x :: (a.toList ++ b.toList)
  | .call f _ l | .callA _ f _ l=>f :: l
  | .mapset x k v | .mset _ x k v=>[x,k,v]
def iK (k:Option Nat) (cs:List ab) (off:Nat):ab:=
  match k with
  | none=>cs.getD off .undef
  | some n=>.agg ((cs.drop off).take n)
def fx (k:Option Nat) (cs:List ab) (off:Nat):Prop:=
  match k with
  | none=>off < cs.length ∧ (cs.getD off .undef).fh = true
  | some n=>off + n ≤ cs.length
def putCells (cs:List ab) (off:Nat):List ab → List ab
  | []=>cs
  | v :: r=>putCells (cs.set off v) (off + 1) r
def ag.get (σ:ag) (b:Nat):aQ:=σ.getD b .dead
def ab.Co:ab → Bool
  | .agg _=>true
  | v=>v.fh
def lF (k:Option Nat) (σ:ag):ab → ab
  | .pval v=>v
  | .ptr b off=>match σ.get b with
    | .box cs=>iK k cs off
    | _=>.undef
  | .eptr _ b i f _=>match σ.get b with
    | .arr _ xs=>iK k (xs.getD i .undef).cells f
    | _=>.undef
  | _=>.undef
def fW (k:Option Nat) (σ:ag):ab → Prop
  | .pval v=>match k with
    | none=>v.fh = true
    | some n=>match v with
      | .agg cs=>cs.length = n
      | _=>False
  | .ptr b off=>match σ.get b with
    | .box cs=>fx k cs off
    | _=>False
  | .eptr sz b i f n=>match σ.get b with
    | .arr sz' xs=>sz' = sz ∧ xs.length = n ∧ i < n ∧ (xs.getD i .undef).Co = true ∧ fx k (xs.getD i .undef).cells f
    | _=>False
  | _=>False
def dR:List ab → Bool
  | []=>true
  | v :: r=>v.fh && dR r
def bB (v:ab) (n:Nat):Prop:=
  match v with
  | .agg cs=>cs.length = n
  | v=>v.fh = true ∧ n = 1
def o7 (z:List ab):List (Nat × List ab) → List ab
  | []=>z
  | (off,cs) :: r=>o7 (putCells z off cs) r
def gu (n:Nat) (ρ:aG → ab):List (Nat × Nat × aG) → Prop
  | []=>True
  | (off,sz,x) :: r=>bB (ρ x) sz ∧ off + sz ≤ n ∧ gu n ρ r
def gz (ρ:aG → ab) (z:List ab):List (Nat × aG) → List ab
  | []=>z
  | (i,x) :: r=>gz ρ (z.set i (ρ x)) r
def iw (sz n:Nat) (ρ:aG → ab):List (Nat × aG) → Prop
  | []=>True
  | (i,x) :: r=>i < n ∧ bB (ρ x) sz ∧ iw sz n ρ r
def fa:ab → ab → Bool
  | .int _ a, .int _ b=>a == b
  | .str a, .str b=>a == b
  | .bool a, .bool b=>a == b
  | _,_=>false
def Hq:ab → ab → Bool
  | .int j _, .int k _=>j == k
  | .str _, .str _=>true
  | .bool _, .bool _=>true
  | _,_=>false
def fu:LK → ab → ab → Bool
  | .i, .int j _, .int k _=>j == k
  | .s, .str _, .str _=>true
  | .b, .bool _, .bool _=>true
  | _,_,_=>false
def bQ:List ab → List ab → Bool
  | x :: r,y :: t=>fa x y && bQ r t
  | _,_=>true
def bz:List LK → List ab → List ab → Bool
  | [],[],[]=>true
  | k :: l,x :: r,y :: t=>fu k x y && bz l r t
  | _,_,_=>false
def Ev (op:BinOp) (k:IntKind) (a b:Int):Int:=
  match op with
  | .and=>k.wrap (BitVec.ofInt k.bits a &&& BitVec.ofInt k.bits b).toNat
  | .or=>k.wrap (BitVec.ofInt k.bits a ||| BitVec.ofInt k.bits b).toNat
  | .xor=>k.wrap (BitVec.ofInt k.bits a ^^^ BitVec.ofInt k.bits b).toNat
  | _=>k.wrap (BitVec.ofInt k.bits a &&& ~~~ (BitVec.ofInt k.bits b)).toNat
/-! The same, where both numbers are known: else the kernel would compute with unknown bits, and end in a depth. -/
def FT (op:BinOp):Nat → IntKind → Int → Int → Int
  | 0=>Ev op
  | _ + 1=>Ev op
def Jd (op:BinOp):Nat → Nat → IntKind → Int → Int → Int
  | 0=>FT op
  | _ + 1=>FT op
def BZ (op:BinOp) (k:IntKind) (a b:Int):Int:=Jd op a.natAbs b.natAbs k a b
theorem Ey (op:BinOp) (k:IntKind) (a b:Int):BZ op k a b = Ev op k a b:=by
  unfold BZ
  cases a.natAbs <;> cases b.natAbs <;> rfl
def arith (op:BinOp) (k:IntKind) (a b:Int):ab:=
  match op with
  | .add=>.int k (k.wrap (a + b))
  | .sub=>.int k (k.wrap (a - b))
  | .mul=>.int k (k.wrap (a * b))
  | .quo=>.int k (k.wrap (a.tdiv b))
  | .rem=>.int k (a.tmod b)
  | .and=>.int k (BZ .and k a b)
  | .or=>.int k (BZ .or k a b)
  | .xor=>.int k (BZ .xor k a b)
  | .andNot=>.int k (BZ .andNot k a b)
  | .shl=>.int k (k.wrap (a * 2 ^ min b.toNat k.bits))
  | .shr=>.int k (a.fdiv (2 ^ min b.toNat k.bits))
  | .eql=>.bool (a == b)
  | .neq=>.bool (a != b)
  | .lss=>.bool (decide (a < b))
  | .leq=>.bool (decide (a ≤ b))
  | .gtr=>.bool (decide (a > b))
  | .geq=>.bool (decide (a ≥ b))
def wx (op:BinOp) (j k:IntKind) (b:Int):Prop:=
  match op with
  | .quo | .rem=>j = k ∧ b ≠ 0
  | .shl | .shr=>0 ≤ b
  | _=>j = k
def DS (op:BinOp) (a b:ByteArray):ab:=
  match op with
  | .add=>.str (a ++ b)
  | .eql=>.bool (a.toList == b.toList)
  | .neq=>.bool (!(a.toList == b.toList))
  | .lss=>.bool (Op.bytesLess a.toList b.toList)
  | .leq=>.bool (Op.bytesLess a.toList b.toList || a.toList == b.toList)
  | .gtr=>.bool (!(Op.bytesLess a.toList b.toList || a.toList == b.toList))
  | .geq=>.bool (!Op.bytesLess a.toList b.toList)
  | _=>.undef
def wi (op:BinOp) (a b:ByteArray):Prop:=
  match op with
  | .add=>((a.size + b.size:Nat):Int) ≤ IntKind.i64.max
  | .eql | .neq | .lss | .leq | .gtr | .geq=>True
  | _=>False
def Db (op:BinOp):ab → ab → ab
  | .int k a, .int _ b=>arith op k a b
  | .str a, .str b=>DS op a b
  | _,_=>.undef
def xP (op:BinOp):ab → ab → Prop
  | .int j _, .int k b=>wx op j k b
  | .str a, .str b=>wi op a b
  | _,_=>False
def unV (op:UnOp):ab → ab
  | .bool b=>match op with
    | .not=>.bool (!b)
    | _=>.undef
  | .int k n=>match op with
    | .neg=>.int k (k.wrap (0 - n))
    | .xor=>.int k (k.wrap (BitVec.ofInt k.bits (if k.signed then -1 else k.max) ^^^ BitVec.ofInt k.bits n).toNat)
    | _=>.undef
  | _=>.undef
def CX (op:UnOp):ab → Prop
  | .bool _=>match op with
    | .not=>True
    | _=>False
  | .int _ _=>match op with
    | .neg | .xor=>True
    | _=>False
  | _=>False
def ck:ab → Int
  | .int _ n=>n
  | _=>0
def isInt:ab → Prop
  | .int _ _=>True
  | _=>False
def ab.elems (σ:ag):ab → List ab
  | .slice _ xs=>xs
  | .oslice _ xs _ _=>xs
  | .sref _ b off len _=>match σ.get b with
    | .arr _ xs=>(xs.drop off).take len
    | _=>[]
  | _=>[]
def ab.ib (σ:ag) (sz:Nat):ab → Prop
  | .slice sz' xs=>sz' = sz ∨ xs = []
  | .oslice sz' _ _ _=>sz' = sz
  | .sref sz' b _ _ n=>sz' = sz ∧ match σ.get b with
    | .arr sz'' xs=>sz'' = sz ∧ xs.length = n
    | _=>False
  | _=>False
def Ha:ab → ab
  | .nils _=>.int .i64 0
  | .slice _ xs=>.int .i64 xs.length
  | .oslice _ xs _ _=>.int .i64 xs.length
  | .sref _ _ _ len _=>.int .i64 len
  | _=>.undef
def CR:ab → Prop
  | .slice _ _ | .oslice _ _ _ _ | .sref _ _ _ _ _ | .nils _=>True
  | _=>False
def G3 (n:Int):ab → ab
  | .slice _ xs=>.pval (xs.getD n.toNat .undef)
  | .oslice _ xs _ _=>.pval (xs.getD n.toNat .undef)
  | .sref sz b off _ m=>.eptr sz b (off + n.toNat) 0 m
  | _=>.undef
def DW (sz:Nat) (n:Int):ab → Prop
  | .slice sz' xs=>sz' = sz ∧ 0 ≤ n ∧ n < xs.length
  | .oslice sz' xs _ _=>sz' = sz ∧ 0 ≤ n ∧ n < xs.length
  | .sref sz' _ _ len _=>sz' = sz ∧ 0 ≤ n ∧ n < len
  | _=>False
def kC (k:Option Nat) (off:Nat):ab → ab
  | .pval (.agg cs)=>.pval (iK k cs off)
  | .ptr b o=>.ptr b (o + off)
  | .eptr sz b i f n=>.eptr sz b i (f + off) n
  | _=>.undef
def jK (k:Option Nat) (off:Nat):ab → Prop
  | .pval (.agg cs)=>fx k cs off
  | .ptr _ _ | .eptr _ _ _ _ _=>True
  | _=>False
def En (k:Option Nat) (off:Nat):ab → ab
  | .agg cs=>iK k cs off
  | _=>.undef
def Bj (k:Option Nat) (off:Nat):ab → Prop
  | .agg cs=>fx k cs off
  | _=>False
def DG (x:ab) (y:ab):ab:=
  match x,y with
  | .int k a, .int _ b=>.int k (if b > a then b else a)
  | _,_=>.undef
def DN (x:ab) (y:ab):ab:=
  match x,y with
  | .int k a, .int _ b=>.int k (if b < a then b else a)
  | _,_=>.undef
def wG:List ab → Prop
  | []=>True
  | x :: r=>isInt x ∧ wG r
def aU (ρ:aG → ab) (d:Int):Option aG → Int
  | none=>d
  | some x=>ck (ρ x)
def dV (ρ:aG → ab):Option aG → Prop
  | none=>True
  | some x=>isInt (ρ x)
/-! Bytes and strings. -/
def Gy (b:UInt8):ab:=.int .u8 b.toNat
def uB (s:ByteArray):List ab:=s.data.toList.map Gy
def u8s:List ab → List UInt8
  | []=>[]
  | .int _ n :: r=>UInt8.ofNat n.toNat :: u8s r
  | _ :: r=>0 :: u8s r
def uN:List ab → Bool
  | []=>true
  | .int .u8 _ :: r=>uN r
  | _=>false
def kj:List ab → Bool
  | []=>true
  | v :: r=>v.fh && kj r
def AI.val (ρ:aG → ab) (σ:ag):AI → ab
  | .mv x=>ρ x
  | .build z ps=>.agg (o7 z (ps.map fun p=>(p.1,(ρ p.2.2).cells)))
  | .lit _ sz n ps=>.slice sz (gz ρ (List.replicate n .undef) ps)
  | .load k x=>lF k σ (ρ x)
  | .nilchk x=>ρ x
  | .bin op x y=>Db op (ρ x) (ρ y)
  | .eqb neg x y=>match ρ x,ρ y with
    | .bool a, .bool b=>.bool (neg != (a == b))
    | _,_=>.undef
  | .eqa neg _ x y=>match ρ x,ρ y with
    | .agg a, .agg b=>.bool (neg != bQ a b)
    | _,_=>.undef
  | .un op x=>unV op (ρ x)
  | .conv k x=>.int k (k.wrap (ck (ρ x)))
  | .convs x=>ρ x
  | .b2s x=>match ρ x with
    | .slice _ xs=>.str ⟨(u8s xs).toArray⟩
    | _=>.undef
  | .mkfunc fn first caps=>.func fn (first.map ρ) (caps.map ρ)
  | .fieldAddr k off x=>kC k off (ρ x)
  | .field k off x=>En k off (ρ x)
  | .ixS _ x i=>G3 (ck (ρ i)) (ρ x)
  | .ixA _ sz k x i=>kC k ((ck (ρ i)).toNat * sz) (ρ x)
  | .ixV _ sz k x i=>En k ((ck (ρ i)).toNat * sz) (ρ x)
  | .ixStr x i=>match ρ x with
    | .str s=>.int .u8 (s.data.getD (ck (ρ i)).toNat 0).toNat
    | _=>.undef
  | .extract x i=>match ρ x with
    | .tup vs=>vs.getD i .undef
    | _=>.undef
  | .len x=>Ha (ρ x)
  | .lenStr x=>match ρ x with
    | .str s=>.int .i64 s.size
    | _=>.undef
  | .lenA n _=>.int .i64 n
  | .mx l=>match l.map ρ with
    | []=>.undef
    | x :: r=>r.foldl DG x
  | .mn l=>match l.map ρ with
    | []=>.undef
    | x :: r=>r.foldl DN x
  | .mkiface t x=>.iface t (ρ x)
  | .assert _ x=>match ρ x with
    | .iface _ v=>v
    | _=>.undef
  | .subStr x lo hi=>match ρ x with
    | .str s=>.str (s.extract (aU ρ 0 lo).toNat (aU ρ s.size hi).toNat)
    | _=>.undef
  | .subq sz x lo hi=>match ρ x with
    | .slice _ xs=>.slice sz ((xs.take (aU ρ xs.length hi).toNat).drop (aU ρ 0 lo).toNat)
    | .oslice _ xs _ _=>.slice sz ((xs.take (aU ρ xs.length hi).toNat).drop (aU ρ 0 lo).toNat)
    | _=>.undef
  | .lookup ok z x i=>match ρ x with
    | .map b=>match σ.get b with
      | .amap es=>match es.find? (fun e=>fa (ρ i) e.1) with
        | some e=>if ok then .tup [e.2, .bool true] else e.2
        | none=>if ok then .tup [z, .bool false] else z
      | _=>.undef
    | _=>.undef
  | _=>.undef
def AI.side (ρ:aG → ab) (σ:ag):AI → Prop
  | .mv _=>True
  | .build z ps=>gu z.length ρ ps
  | .lit m sz n ps=>m = 0 ∧ iw sz n ρ ps
  | .load k x=>fW k σ (ρ x)
  | .nilchk x=>match ρ x with
    | .pval _ | .ptr _ _ | .eptr _ _ _ _ _ | .func (.func _) _ _=>True
    | _=>False
  | .bin op x y=>xP op (ρ x) (ρ y)
  | .eqb _ x y=>match ρ x,ρ y with
    | .bool _, .bool _=>True
    | _,_=>False
  | .eqa _ ks x y=>match ρ x,ρ y with
    | .agg a, .agg b=>bz ks a b = true
    | _,_=>False
  | .un op x=>CX op (ρ x)
  | .conv _ x=>isInt (ρ x)
  | .convs x=>match ρ x with
    | .str _=>True
    | _=>False
  | .b2s x=>match ρ x with
    | .slice sz xs=>sz = 1 ∧ uN xs = true
    | _=>False
  | .mkfunc _ _ _=>True
  | .fieldAddr k off x=>jK k off (ρ x)
  | .field k off x=>Bj k off (ρ x)
  | .ixS sz x i=>isInt (ρ i) ∧ DW sz (ck (ρ i)) (ρ x)
  | .ixA m sz k x i=>isInt (ρ i) ∧ 0 ≤ ck (ρ i) ∧ ck (ρ i) < m ∧ jK k ((ck (ρ i)).toNat * sz) (ρ x)
  | .ixV m sz k x i=>isInt (ρ i) ∧ 0 ≤ ck (ρ i) ∧ ck (ρ i) < m ∧ Bj k ((ck (ρ i)).toNat * sz) (ρ x)
  | .ixStr x i=>isInt (ρ i) ∧ match ρ x with
    | .str s=>0 ≤ ck (ρ i) ∧ ck (ρ i) < s.size
    | _=>False
  | .extract x i=>match ρ x with
    | .tup vs=>i < vs.length
    | _=>False
  | .len x=>CR (ρ x)
  | .lenStr x=>match ρ x with
    | .str _=>True
    | _=>False
  | .lenA _ _=>True
  | .mx l | .mn l=>l.map ρ ≠ [] ∧ wG (l.map ρ)
  | .mkiface _ _=>True
  | .assert t x=>match ρ x with
    | .iface u _=>u = t
    | _=>False
  | .subStr x lo hi=>dV ρ lo ∧ dV ρ hi ∧ match ρ x with
    | .str s=>0 ≤ aU ρ 0 lo ∧ aU ρ 0 lo ≤ aU ρ s.size hi ∧ aU ρ s.size hi ≤ s.size
    | _=>False
  | .subq sz x lo hi=>dV ρ lo ∧ dV ρ hi ∧ match ρ x with
    | .slice sz' xs=>(sz' = sz ∨ xs = []) ∧ 0 ≤ aU ρ 0 lo ∧ aU ρ 0 lo ≤ aU ρ xs.length hi ∧ aU ρ xs.length hi ≤ xs.length
    | .oslice sz' xs _ _=>sz' = sz ∧ 0 ≤ aU ρ 0 lo ∧ aU ρ 0 lo ≤ aU ρ xs.length hi ∧ aU ρ xs.length hi ≤ xs.length
    | _=>False
  | .lookup _ _ x i=>match ρ x with
    | .map b=>match σ.get b with
      | .amap es=>∀ e ∈ es,Hq (ρ i) e.1 = true
      | _=>False
    | _=>False
  | _=>False
def AI.plain:AI → Bool
  | .mv _ | .build _ _ | .load _ _ | .nilchk _ | .bin _ _ _ | .eqb _ _ _ | .eqa _ _ _ _ | .un _ _ | .conv _ _ | .convs _ | .b2s _ | .mkfunc _ _ _ | .fieldAddr _ _ _ | .field _ _ _ | .ixS _ _ _ | .ixA _ _ _ _ _
  | .ixV _ _ _ _ _ | .ixStr _ _ | .extract _ _ | .len _ | .lenStr _ | .lenA _ _ | .mx _ | .mn _ | .mkiface _ _ | .assert _ _ | .lookup _ _ _ _ | .subStr _ _ _ | .subq _ _ _ _=>true
  | .lit m _ _ _=>m == 0
  | _=>false
def ab.jo:ab → ab
  | .mint sz=>.slice sz []
  | v=>v
def cK:List ab → Nat → List ab × List aQ
  | [],_=>([],[])
  | .mint sz :: r,n=>if sz < 1000 then (.oslice sz [] n 0 :: (cK r (n + 1)).1, .spare sz 0 :: (cK r (n + 1)).2)
      else (.sref (sz - 1000) n 0 0 0 :: (cK r (n + 1)).1, .arr (sz - 1000) [] :: (cK r (n + 1)).2)
  | v :: r,n=>(v :: (cK r n).1,(cK r n).2)
def mH (v:ab) (f:Nat) (cells:List ab):ab:=
  match v with
  | .agg cs=>.agg (putCells cs f cells)
  | _=>cells.getD 0 .undef
def mo (v:ab) (f n:Nat):Prop:=
  match v with
  | .agg cs=>f + n ≤ cs.length
  | v=>v.fh = true ∧ f = 0 ∧ n = 1
def ia (σ:ag) (sz:Nat) (v:ab):ab → Prop
  | .ptr b off=>bB v sz ∧ dR v.cells = true ∧ match σ.get b with
    | .box cs=>off + sz ≤ cs.length
    | _=>False
  | .eptr esz b i f n=>bB v sz ∧ dR v.cells = true ∧ match σ.get b with
    | .arr esz' xs=>esz' = esz ∧ xs.length = n ∧ i < n ∧ mo (xs.getD i .undef) f sz
    | _=>False
  | _=>False
def jZ (σ:ag) (v:ab):ab → ag
  | .ptr b off=>match σ.get b with
    | .box cs=>σ.set b (.box (putCells cs off v.cells))
    | _=>σ
  | .eptr _ b i f _=>match σ.get b with
    | .arr esz xs=>σ.set b (.arr esz (xs.set i (mH (xs.getD i .undef) f v.cells)))
    | _=>σ
  | _=>σ
def AZ (c:Bool) (a b:ab):ab:=
  match a,b with
  | .bool x, .bool y=>.bool (if c = true then x else y)
  | _,_=>if c = true then a else b
def vc:ab → Bool
  | .bool b=>b
  | _=>false
def isBool:ab → Prop
  | .bool _=>True
  | _=>False
def Fits (sz:Nat) (ys:List ab):Prop:=∀ v ∈ ys,bB v sz ∧ dR v.cells = true
def iT (sz bytes:Nat) (σ:ag) (x:ab) (ys:List ab) (K:ab → ag → Prop):Prop:=
  match x with
  | .nils sz'=>sz' = sz ∧ ys.length * bytes ≤ 140737488355328 ∧ K (.oslice sz ys σ.length 1) (σ ++ [.spare sz 1])
  | .oslice sz' xs b k=>sz' = sz ∧ (xs.length + ys.length) * bytes ≤ 140737488355328 ∧ match σ.get b with
    | .spare sz'' k'=>sz'' = sz ∧ k' = k ∧ K (.oslice sz (xs ++ ys) b (k + 1)) (σ.set b (.spare sz (k + 1)))
    | _=>False
  | .sref sz' b off len n=>sz' = sz ∧ match σ.get b with
    | .arr sz'' xs=>sz'' = sz ∧ xs.length = n ∧
        if off + len + ys.length ≤ n then K (.sref sz b off (len + ys.length) n) (σ.set b (.arr sz (xs.take (off + len) ++ ys ++ xs.drop (off + len + ys.length))))
        else off = 0 ∧ len = n ∧ (n + ys.length) * bytes ≤ 140737488355328 ∧ K (.sref sz b 0 (n + ys.length) (n + ys.length)) (σ.set b (.arr sz (xs ++ ys)))
    | _=>False
  | _=>False
def DM (m sz:Nat) (σ:ag) (x:ab) (lo:Int) (hi:Int → Int) (mx:Option Int) (K:ab → ag → Prop):Prop:=
  let go (xs:List ab):Prop:=
    0 ≤ lo ∧ lo ≤ hi xs.length ∧ (match mx with
      | none=>hi xs.length ≤ xs.length ∧ m = 0
      | some v=>hi xs.length ≤ v ∧ v ≤ xs.length ∧ (m = 1 → v = hi xs.length) ∧ (m = 2 → v = 0)) ∧
    (if m = 0 then K (.slice sz ((xs.take (hi xs.length).toNat).drop lo.toNat)) σ
    else if m = 1 then K (.oslice sz ((xs.take (hi xs.length).toNat).drop lo.toNat) σ.length 0) (σ ++ [.spare sz 0])
    else m = 2 ∧ K (.sref sz σ.length 0 0 0) (σ ++ [.arr sz []]))
  match x with
  | .slice sz' xs=>(sz' = sz ∨ xs = []) ∧ go xs
  | .oslice sz' xs _ _=>sz' = sz ∧ go xs
  | .sref sz' b off len n=>if m = 3 then (match mx with
      | some v=>0 ≤ lo ∧ lo ≤ hi len ∧ hi len ≤ v ∧ v ≤ len ∧ K .undef σ
      | none=>False)
    else sz' = sz ∧ m = 0 ∧ mx = none ∧ 0 ≤ lo ∧ lo ≤ hi len ∧ off + hi len ≤ n ∧ K (.sref sz b (off + lo.toNat) (hi len - lo).toNat n) σ
  | _=>False
def CL (m sz bytes:Nat) (σ:ag) (z:ab) (n c:Int) (K:ab → ag → Prop):Prop:=
  0 ≤ n ∧ n ≤ c ∧ c * bytes ≤ 140737488355328 ∧ c ≤ 140737488355328 ∧
  (if m = 1 then n = 0 ∧ K (.oslice sz [] σ.length 0) (σ ++ [.spare sz 0])
  else if m = 2 then K (.sref sz σ.length 0 n.toNat n.toNat) (σ ++ [.arr sz (List.replicate n.toNat z)])
  else m = 0 ∧ K (.slice sz (List.replicate n.toNat z)) σ)
def Ap (sz:Nat) (σ:ag) (z:ab) (x:ab) (K:ab → ag → Prop):Prop:=
  match x with
  | .sref sz' b off len n=>sz' = sz ∧ bB z sz ∧ dR z.cells = true ∧ match σ.get b with
    | .arr sz'' xs=>sz'' = sz ∧ xs.length = n ∧ K (.tup []) (σ.set b (.arr sz (xs.take off ++ List.replicate len z ++ xs.drop (off + len))))
    | _=>False
  | _=>False
def Dj (sz:Nat) (σ:ag) (x:ab) (ys:List ab) (K:ab → ag → Prop):Prop:=
  match x with
  | .sref sz' b off len n=>sz' = sz ∧ match σ.get b with
    | .arr sz'' xs=>sz'' = sz ∧ xs.length = n ∧ K (.int .i64 (min ys.length len:Nat)) (σ.set b (.arr sz (xs.take off ++ ys.take len ++ xs.drop (off + min ys.length len))))
    | _=>False
  | _=>False
def vS (σ:ag) (x:ab) (K:ab → ag → Prop):Prop:=
  match x with
  | .str y=>K (.iter σ.length) (σ ++ [.siter y 0])
  | _=>False
def Br (σ:ag) (x:ab) (K:ab → ag → Prop):Prop:=
  match x with
  | .iter b=>match σ.get b with
    | .siter y pos=>if pos < y.size then K (.tup [.bool true, .int .i64 pos, .int .i32 (Utf8.decode y pos).1]) (σ.set b (.siter y (pos + (Utf8.decode y pos).2))) else K (.tup [.bool false]) σ
    | _=>False
  | _=>False
def vV (sz:Nat) (σ:ag) (x:ab) (K:ab → ag → Prop):Prop:=
  match x with
  | .sref sz' b off len n=>sz' = sz ∧ match σ.get b with
    | .arr sz'' xs=>sz'' = sz ∧ xs.length = n ∧ K (.slice sz ((xs.drop off).take len)) (σ.set b .dead)
    | _=>False
  | _=>False
def Cw (bytes:Nat) (σ:ag) (x y:ab) (K:ab → ag → Prop):Prop:=
  match y with
  | .str s=>iT 1 bytes σ x (uB s) K
  | _=>False
def AS (n sz:Nat) (σ:ag) (x:ab) (K:ab → ag → Prop):Prop:=
  match x with
  | .ptr b 0=>match σ.get b with
    | .box cs=>sz = 1 ∧ cs.length = n ∧ kj cs = true ∧ K (.slice 1 cs) (σ.set b .dead)
    | _=>False
  | _=>False
def Cy (sz:Nat) (σ:ag) (x lo:ab) (K:ab → ag → Prop):Prop:=
  match x,lo with
  | .oslice sz' xs b k, .int _ n=>sz' = sz ∧ 0 ≤ n ∧ n ≤ xs.length ∧ match σ.get b with
    | .spare sz'' k'=>sz'' = sz ∧ k' = k ∧ K (.oslice sz (xs.drop n.toNat) b (k + 1)) (σ.set b (.spare sz (k + 1)))
    | _=>False
  | _,_=>False
/-! A table of the program. -/
def k5 (g:Nat):List (Nat × List (IntKind × Int)) → List (IntKind × Int)
  | []=>[]
  | (h,cs) :: r=>if h = g then cs else k5 g r
def Hy (g:Nat) (σ:ag) (x:ab) (K:ab → ag → Prop):Prop:=
  match x with
  | .int _ n=>0 ≤ n ∧ match (k5 g dC)[n.toNat]? with
    | some (k,v)=>K (.pval (.int k v)) σ
    | none=>False
  | _=>False
def Ad (neg:Bool) (σ:ag) (x:ab) (K:ab → ag → Prop):Prop:=
  match x with
  | .niliface=>K (.bool !neg) σ
  | .iface _ _=>K (.bool neg) σ
  | _=>False
/-! Is a slice nil? Of an empty one nobody knows. -/
def Bp (neg:Bool) (σ:ag) (x:ab) (K:ab → ag → Prop):Prop:=
  match x with
  | .slice _ xs | .oslice _ xs _ _=>K (.bool neg) σ ∧ (xs = [] → K (.bool !neg) σ)
  | .sref _ _ _ len _=>K (.bool neg) σ ∧ (len = 0 → K (.bool !neg) σ)
  | _=>False
/-! Maps whose keys are numbers, strings or Booleans. -/
def kT (lk:LK) (k:ab):List (ab × ab) → Bool
  | []=>true
  | e :: r=>fu lk k e.1 && kT lk k r
def eL (k:ab):List (ab × ab) → Option ab
  | []=>none
  | e :: r=>if fa k e.1 then some e.2 else eL k r
def kH (k v:ab):List (ab × ab) → List (ab × ab)
  | []=>[(k,v)]
  | e :: r=>if fa k e.1 then (k,v) :: r else e :: kH k v r
def sw (ok:Bool) (z:ab):Option ab → ab
  | some v=>if ok then .tup [v, .bool true] else v
  | none=>if ok then .tup [z, .bool false] else z
def AP (ok:Bool) (lk:LK) (z:ab) (σ:ag) (x k:ab) (K:ab → ag → Prop):Prop:=
  match x with
  | .map b=>match σ.get b with
    | .amap es=>kT lk k es = true ∧ K (sw ok z (eL k es)) σ
    | _=>False
  | _=>False
def AF (lk:LK) (σ:ag) (x k v:ab) (K:ab → ag → Prop):Prop:=
  match x with
  | .map b=>match σ.get b with
    | .amap es=>kT lk k es = true ∧ K .undef (σ.set b (.amap (kH k v es)))
    | _=>False
  | _=>False
def ab.down:ab → ab
  | .nils sz=>.slice sz []
  | .oslice sz xs _ _=>.slice sz xs
  | v=>v
def ab.pB:ab → ab
  | .agg cs=>.agg (cs.map ab.down)
  | v=>v.down
def b7:List Bool → List ab → List ab
  | true :: r,v :: l=>v.pB :: b7 r l
  | _ :: r,v :: l=>v :: b7 r l
  | [],l=>l
  | _,[]=>[]
mutual
def aV:ab → Value → Bool
  | .bool a, .bool b=>a == b
  | .int j a, .int k b=>decide (j = k) && a == b
  | .str a, .string b=>decide (a = b)
  | .slice _ xs, .slice none l c=>xs.isEmpty && l == 0 && c == 0
  | .nilptr, .pointer none=>true
  | .nilfunc, .nilFunc=>true
  | .niliface, .nilIface=>true
  | .nilmap, .map none=>true
  | .agg cs, .agg vs=>b6 cs vs.toList
  | .undef,_=>true
  | .nils _, .slice none l c=>l == 0 && c == 0
  | _,_=>false
def b6:List ab → List Value → Bool
  | [],[]=>true
  | a :: r,b :: t=>aV a b && b6 r t
  | _,_=>false
end
theorem iR:∀ {cs:List ab} {vs:List Value},b6 cs vs = true → vs.length = cs.length
  | [],[],_=>rfl
  | a :: r,b :: t,h=>by simp only [b6,Bool.and_eq_true] at h; simp [iR h.2]
  | [],_ :: _,h=>by simp [b6] at h
  | _ :: _,[],h=>by simp [b6] at h
mutual
theorem fw {s:St}:∀ {v:ab} {c:Value},aV v c = true → Rv s v c
  | .bool a,c,h=>by cases c <;> simp [aV] at h; subst h; exact .bool _
  | .int j a,c,h=>by cases c <;> simp [aV] at h; obtain ⟨rfl,rfl⟩:=h; exact .int _ _
  | .str a,c,h=>by cases c <;> simp [aV] at h; subst h; exact .str _
  | .slice sz xs,c,h=>by
    cases c with
    | slice a l cap=>
      cases a <;> simp [aV] at h
      obtain ⟨⟨rfl,rfl⟩,rfl⟩:=h; exact .slice0 _ _ _
    | _=>simp [aV] at h
  | .nilptr,c,h=>by
    cases c with
    | pointer a=>cases a <;> simp [aV] at h; exact .nilptr
    | _=>simp [aV] at h
  | .nilfunc,c,h=>by cases c <;> simp [aV] at h; exact .nilfunc
  | .niliface,c,h=>by cases c <;> simp [aV] at h; exact .niliface
  | .nilmap,c,h=>by
    cases c with
    | map a=>cases a <;> simp [aV] at h; exact .nilmap
    | _=>simp [aV] at h
  | .agg cs,c,h=>by
    cases c with
    | agg vs=>
      simp only [aV] at h
      refine .agg cs vs (by simpa using iR h) (fun j h1 h2=>?_)
      have:=jN (s:=s) h j h1 (by simpa using h2)
      simpa using this
    | _=>simp [aV] at h
  | .undef,c,_=>.undef c
  | .nils sz,c,h=>by
    cases c with
    | slice a l cap=>
      cases a <;> simp [aV] at h
      obtain ⟨rfl,rfl⟩:=h; exact .nils _
    | _=>simp [aV] at h
  | .tup _,c,h=>by cases c <;> simp [aV] at h
  | .oslice _ _ _ _,c,h=>by cases c <;> simp [aV] at h
  | .sref _ _ _ _ _,c,h=>by cases c <;> simp [aV] at h
  | .pval _,c,h=>by cases c <;> simp [aV] at h
  | .ptr _ _,c,h=>by cases c <;> simp [aV] at h
  | .eptr _ _ _ _ _,c,h=>by cases c <;> simp [aV] at h
  | .func _ _ _,c,h=>by cases c <;> simp [aV] at h
  | .iface _ _,c,h=>by cases c <;> simp [aV] at h
  | .map _,c,h=>by cases c <;> simp [aV] at h
  | .opt _ _,c,h=>by cases c <;> simp [aV] at h
  | .mint _,c,h=>by cases c <;> simp [aV] at h
  | .iter _,c,h=>by cases c <;> simp [aV] at h
  | .yieldf _,c,h=>by cases c <;> simp [aV] at h
theorem jN {s:St}:∀ {cs:List ab} {vs:List Value},b6 cs vs = true → ∀ j (h1:j < cs.length) (h2:j < vs.length),Rv s cs[j] vs[j]
  | [],_,_,j,h1,_=>by simp at h1
  | a :: r,[],h,_,_,_=>by simp [b6] at h
  | a :: r,b :: t,h,0,_,_=>by simp only [b6,Bool.and_eq_true] at h; exact fw h.1
  | a :: r,b :: t,h,j + 1,h1,h2=>by
    simp only [b6,Bool.and_eq_true] at h
    have:=jN (s:=s) h.2 j (by simpa using h1) (by simpa using h2)
    simpa using this
end
def aI:aG → Operand → Bool
  | .t n, .tmp m=>n == m
  | .c v, .const u=>aV v u
  | .f n, .func m=>n == m
  | _,_=>false
def fc:Option TypeDesc → Option Bool
  | some (.struct _) | some (.array _ _)=>some true
  | some _=>some false
  | none=>none
def kOk (P:Program) (t:TypeId) (k:Option Nat):Bool:=
  match fc (P.underlying t),k with
  | some true,some n=>P.cellsOf t == n && (P.info? t).isSome
  | some false,none=>(P.info? t).isSome
  | _,_=>false
def eY:List aG → List Operand → Bool
  | [],[]=>true
  | a :: r,b :: t=>aI a b && eY r t
  | _,_=>false
def fA (P:Program) (t:TypeId) (z:List ab):Bool:=
  match (P.info? t).bind (·.zero) with
  | some v=>b6 z v.cells.toList
  | none=>false
def mq (P:Program) (t:TypeId) (i:Nat):Option (Nat × Nat):=
  match P.underlying t with
  | some (.struct fs)=>(fs[i]?).map fun f=>(f.offset,P.cellsOf f.type)
  | some (.array _ e)=>some (i * P.cellsOf e,P.cellsOf e)
  | _=>none
def gZ (P:Program) (t:TypeId):List (Nat × Nat × aG) → List (Nat × Operand) → Bool
  | [],[]=>true
  | (off,sz,x) :: r,(i,y) :: q=>mq P t i == some (off,sz) && aI x y && gZ P t r q
  | _,_=>false
def mG (P:Program) (t:TypeId):Bool:=
  match P.underlying t with
  | some (.struct fs)=>fs.toList.all fun f=>(P.info? f.type).isSome
  | some (.array _ e)=>(P.info? e).isSome
  | _=>false
def iY (g:TypeId → Option (List LK)):List Field → Nat → Option (List LK)
  | [],_=>some []
  | f :: r,o=>
    if f.name ≠ "_" ∧ f.offset = o then
      match g f.type with
      | some l=>if l.length = 0 then none else match iY g r (o + l.length) with
        | some l'=>some (l ++ l')
        | none=>none
      | none=>none
    else none
def kU (P:Program):Nat → TypeId → Option (List LK)
  | 0,_=>none
  | d + 1,t=>
    match P.underlying t with
    | some .bool=>if kOk P t none then some [.b] else none
    | some .string=>if kOk P t none then some [.s] else none
    | some (.int _)=>if kOk P t none then some [.i] else none
    | some (.struct fs)=>
      if P.stoodInHeld t then none else
      match iY (kU P d) fs.toList 0 with
      | some l=>if kOk P t (some l.length) then some l else none
      | none=>none
    | _=>none
def eqFields (P:Program) (d:Nat) (fs:List Field) (o:Nat):Option (List LK):=iY (kU P d) fs o
theorem oH (P:Program) (d:Nat) (fs:List Field) (o:Nat):iY (kU P d) fs o = eqFields P d fs o:=rfl
def pf (P:Program) (t:TypeId) (n:Nat):Bool:=
  match (P.info? t).bind (·.zero) with
  | some v=>v.cells.size == n
  | none=>false
def ko:List (Nat × aG) → List (Nat × Operand) → Bool
  | [],[]=>true
  | (i,x) :: r,(j,y) :: q=>i == j && aI x y && ko r q
  | _,_=>false
def fk:Option aG → Option Operand → Bool
  | none,none=>true
  | some x,some y=>aI x y
  | _,_=>false
def iD:TypeDesc → Option LK
  | .int _=>some .i
  | .string=>some .s
  | .bool=>some .b
  | _=>none
def zeroV (P:Program) (t:TypeId) (z:ab):Bool:=
  match (P.info? t).bind (·.zero) with
  | some v=>aV z v
  | none=>false
def bb (P : Program) (i : AI) (o : Op) : Bool :=
  match i with
  | .mv x=>match o with
    | .move y=>aI x y
    | .assign y=>aI x y
    | _=>false
  | .pick c x y=>match o with
    | .pick c' x' y'=>aI c c' && aI x x' && aI y y'
    | _=>false
  | .alloc z=>match o with
    | .alloc t=>fA P t (z.map ab.jo)
    | _=>false
  | .box n x=>match o with
    | .box t y=>P.cellsOf t == n && aI x y
    | _=>false
  | .loadd k x=>match o with
    | .load t y=>kOk P t k && aI x y
    | _=>false
  | .mvd x=>match o with
    | .move y=>aI x y
    | .assign y=>aI x y
    | _=>false
  | .pbox n x=>match o with
    | .box t y=>P.cellsOf t == n && aI x y
    | _=>false
  | .build z ps=>match o with
    | .build t parts=>fA P t z && mG P t && gZ P t ps parts.toList
    | _=>false
  | .load k x=>match o with
    | .load t y=>kOk P t k && aI x y
    | _=>false
  | .store sz x v=>match o with
    | .store t y u=>P.cellsOf t == sz && (P.info? t).isSome && aI x y && aI v u
    | _=>false
  | .nilchk x=>match o with
    | .nilCheck y=>aI x y
    | _=>false
  | .bin op x y=>match o with
    | .binOp op' _ a b _=>decide (op = op') && aI x a && aI y b
    | _=>false
  | .un op x=>match o with
    | .unOp op' _ a=>decide (op = op') && aI x a
    | _=>false
  | .eqb neg x y=>match o with
    | .binOp op t a b _=>decide (op = if neg then BinOp.neq else BinOp.eql) && (match P.underlying t with | some .bool=>true | _=>false) && aI x a && aI y b
    | _=>false
  | .eqa neg ks x y=>match o with
    | .binOp op t a b _=>decide (op = if neg then BinOp.neq else BinOp.eql) && decide (kU P 20 t = some ks) && kOk P t (some ks.length) && !P.eqGuardType P.depth t && aI x a && aI y b
    | _=>false
  | .isnil neg x=>match o with
    | .binOp op t a (.const .nilIface) _=>decide (op = if neg then BinOp.neq else BinOp.eql) && (match P.underlying t with | some (.interface _)=>true | _=>false) && aI x a
    | _=>false
  | .conv k x=>match o with
    | .convert src dst y=>(P.underlying src).isSome && (match P.underlying dst with | some (.int k')=>decide (k = k') | _=>false) && aI x y
    | _=>false
  | .convs x=>match o with
    | .convert src dst y=>(P.underlying src).isSome && (match P.underlying dst with | some .string=>true | _=>false) && aI x y
    | _=>false
  | .mkfunc fn first caps=>match o with
    | .makeFunc fn' a b=>decide (fn = fn') && eY first a.toList && eY caps b.toList
    | _=>false
  | .fieldAddr k off x=>match o with
    | .fieldAddr t y f=>match P.underlying t with
      | some (.struct fs)=>match fs[f]? with
        | some fd=>fd.offset == off && kOk P fd.type k && P.cellsOf fd.type != 0 && aI x y
        | none=>false
      | _=>false
    | _=>false
  | .field k off x=>match o with
    | .field t y f=>match P.underlying t with
      | some (.struct fs)=>match fs[f]? with
        | some fd=>fd.offset == off && kOk P fd.type k && aI x y
        | none=>false
      | _=>false
    | _=>false
  | .ixS sz x y=>match o with
    | .indexAddr t a b=>match P.underlying t with
      | some (.slice e)=>P.cellsOf e == sz && (P.info? e).isSome && aI x a && aI y b
      | _=>false
    | _=>false
  | .ixA m sz k x y=>match o with
    | .indexAddr t a b=>match P.underlying t with
      | some (.array n e)=>n == m && P.cellsOf e == sz && kOk P e k && aI x a && aI y b
      | _=>false
    | _=>false
  | .ixV m sz k x y=>match o with
    | .index t a b=>match P.underlying t with
      | some (.array n e)=>n == m && P.cellsOf e == sz && kOk P e k && aI x a && aI y b
      | _=>false
    | _=>false
  | .ixStr x y=>match o with
    | .index t a b=>match P.underlying t with
      | some .string=>aI x a && aI y b
      | _=>false
    | _=>false
  | .extract x j=>match o with
    | .extract y j'=>j == j' && aI x y
    | _=>false
  | .len x=>match o with
    | .call c=>match c.callee with
      | .builtin .len=>match c.args.toList,c.argTypes.toList with
        | [y],[t]=>(match P.underlying t with | some (.slice _)=>true | _=>false) && aI x y
        | _,_=>false
      | _=>false
    | _=>false
  | .lenStr x=>match o with
    | .call c=>match c.callee with
      | .builtin .len=>match c.args.toList,c.argTypes.toList with
        | [y],[t]=>(match P.underlying t with | some .string=>true | _=>false) && aI x y
        | _,_=>false
      | _=>false
    | _=>false
  | .lenA n x=>match o with
    | .call c=>match c.callee with
      | .builtin .len=>match c.args.toList,c.argTypes.toList with
        | [y],[t]=>(match P.underlying t with | some (.array m _)=>m == n | _=>false) && aI x y
        | _,_=>false
      | _=>false
    | _=>false
  | .mx l=>match o with
    | .call c=>match c.callee with
      | .builtin .max=>eY l c.args.toList
      | _=>false
    | _=>false
  | .mn l=>match o with
    | .call c=>match c.callee with
      | .builtin .min=>eY l c.args.toList
      | _=>false
    | _=>false
  | .mkiface t x=>match o with
    | .makeInterface t' y=>t == t' && (match P.underlying t with | some (.interface _) | none=>false | _=>true) && aI x y
    | _=>false
  | .assert t x=>match o with
    | .typeAssert y _ t' ok=>!ok && t == t' && (match P.underlying t with | some (.interface _) | none=>false | _=>true) && aI x y
    | _=>false
  | .buildm z ps=>match o with
    | .build t parts=>fA P t (z.map ab.jo) && mG P t && gZ P t ps parts.toList
    | _=>false
  | .storem _ x=>match o with
    | .store t y (.const (.slice none 0 0))=>P.cellsOf t == 1 && (P.info? t).isSome && aI x y
    | _=>false
  | .nilS _ _=>match o with
    | .move (.const (.slice none 0 0))=>true
    | .assign (.const (.slice none 0 0))=>true
    | _=>false
  | .lit _ sz n ps=>match o with
    | .buildSlice t n' parts=>match P.underlying t with
      | some (.slice e)=>P.cellsOf e == sz && (P.info? e).isSome && n == n' && decide (n * sz ≤ 2 ^ 24) && decide (0 < sz) && pf P e sz && ko ps parts.toList
      | _=>false
    | _=>false
  | .append sz bytes x y=>match o with
    | .call c=>match c.callee with
      | .builtin .append=>match c.args.toList,c.argTypes.toList with
        | [x',y'],[t,tx]=>match P.underlying t,P.underlying tx with
          | some (.slice e),some (.slice _)=>P.cellsOf e == sz && decide (0 < sz) && (match P.info? e with | some i=>i.bytes == bytes && (match i.zero with | some z=>z.cells.size == sz | none=>false) && i.size == sz && decide (0 < bytes) | none=>false) && aI x x' && aI y y'
          | _,_=>false
        | _,_=>false
      | _=>false
    | _=>false
  | .sub _ sz x lo hi mx=>match o with
    | .slice t x' lo' hi' mx'=>match P.underlying t with
      | some (.slice e)=>P.cellsOf e == sz && decide (0 < sz) && (P.info? e).isSome && aI x x' && fk lo lo' && fk hi hi' && fk mx mx' && (!mx.isSome || hi.isSome)
      | _=>false
    | _=>false
  | .subq sz x lo hi=>match o with
    | .slice t x' lo' hi' none=>match P.underlying t with
      | some (.slice e)=>P.cellsOf e == sz && (P.info? e).isSome && aI x x' && fk lo lo' && fk hi hi'
      | _=>false
    | _=>false
  | .subStr x lo hi=>match o with
    | .slice t x' lo' hi' none=>match P.underlying t with
      | some .string=>aI x x' && fk lo lo' && fk hi hi'
      | _=>false
    | _=>false
  | .range x=>match o with
    | .range t y=>(match P.underlying t with | some .string=>true | _=>false) && aI x y
    | _=>false
  | .next x=>match o with
    | .next y true=>aI x y
    | _=>false
  | .freeze _ x=>match o with
    | .move y=>aI x y
    | .assign y=>aI x y
    | _=>false
  | .mksl _ sz bytes z n c=>match o with
    | .makeSlice t n' c'=>match P.underlying t with
      | some (.slice e)=>P.cellsOf e == sz && decide (0 < sz) && (match P.info? e with | some i=>i.bytes == bytes && i.size == sz && (match i.zero with | some v=>v.cells.size == sz && aV z v | none=>false) | none=>false) && aI n n' && aI c c'
      | _=>false
    | _=>false
  | .clear sz z x=>match o with
    | .call c=>match c.callee with
      | .builtin .clear=>match c.args.toList,c.argTypes.toList with
        | [x'],[t]=>match P.underlying t with
          | some (.slice e)=>decide (0 < sz) && (match P.info? e with | some i=>i.size == sz && (match i.zero with | some v=>v.cells.size == sz && aV z v | none=>false) | none=>false) && aI x x'
          | _=>false
        | _,_=>false
      | _=>false
    | _=>false
  | .copyB sz x y=>match o with
    | .call c=>match c.callee with
      | .builtin .copy=>match c.args.toList,c.argTypes.toList with
        | [x',y'],[t,tx]=>match P.underlying t,P.underlying tx with
          | some (.slice e),some (.slice _)=>P.cellsOf e == sz && decide (0 < sz) && (P.info? e).isSome && aI x x' && aI y y'
          | _,_=>false
        | _,_=>false
      | _=>false
    | _=>false
  | .subO sz x lo=>match o with
    | .slice t x' (some lo') none none=>match P.underlying t with
      | some (.slice e)=>P.cellsOf e == sz && decide (0 < sz) && (P.info? e).isSome && aI x x' && aI lo lo'
      | _=>false
    | _=>false
  | .snil neg x=>match o with
    | .binOp op t a (.const (.slice none 0 0)) _=>decide (op = if neg then BinOp.neq else BinOp.eql) && (match P.underlying t with | some (.slice _)=>true | _=>false) && aI x a
    | _=>false
  | .gix g x=>match o with
    | .indexAddr t (.global g') y=>g == g' && (match P.underlying t with
      | some (.array n e)=>n == (k5 g dC).length && P.cellsOf e == 1 && (P.info? e).isSome
      | _=>false) && aI x y
    | _=>false
  | .mnew=>match o with
    | .makeMap t r=>(match P.underlying t with | some (.map _ _)=>true | _=>false) && (match r with | none=>true | some (.const (.int _ _))=>true | _=>false)
    | _=>false
  | .mget ok lk z x i=>match o with
    | .lookup t x' i' ok'=>match P.underlying t with
      | some (.map k e)=>decide (ok = ok') && decide ((P.underlying k).bind iD = some lk) && zeroV P e z && aI x x' && aI i i'
      | _=>false
    | _=>false
  | .mset lk x k v=>match o with
    | .insert t x' k' v'=>match P.underlying t with
      | some (.map kt _)=>decide ((P.underlying kt).bind iD = some lk) && aI x x' && aI k k' && aI v v'
      | _=>false
    | .mapUpdate t x' k' v'=>match P.underlying t with
      | some (.map kt _)=>decide ((P.underlying kt).bind iD = some lk) && aI x x' && aI k k' && aI v v'
      | _=>false
    | _=>false
  | .panic x=>match o with
    | .panic y=>aI x y
    | _=>false
  | .allocB=>match o with
    | .alloc t=>t == rf.1 && fA P t [.nilptr, .slice 1 []]
    | _=>false
  | .appS bytes x y=>match o with
    | .call c=>match c.callee with
      | .builtin .append=>match c.args.toList,c.argTypes.toList with
        | [x',y'],[t,tx]=>match P.underlying t,P.underlying tx with
          | some (.slice e),some .string=>(match P.info? e with | some i=>i.bytes == bytes && (match i.zero with | some z=>z.cells.size == 1 | none=>false) && i.size == 1 && decide (0 < bytes) | none=>false) && aI x x' && aI y y'
          | _,_=>false
        | _,_=>false
      | _=>false
    | _=>false
  | .b2s x=>match o with
    | .convert src dst y=>(match P.underlying src with | some (.slice e)=>(match P.underlying e with | some (.int .u8)=>true | _=>false) | _=>false) && (match P.underlying dst with | some .string=>true | _=>false) && aI x y
    | _=>false
  | .subA n sz x=>match o with
    | .slice t y none none none=>match P.underlying t with
      | some (.array m e)=>n == m && P.cellsOf e == 1 && sz == 1 && (P.info? e).isSome && aI x y
      | _=>false
    | _=>false
  | .other=>match o with
    | .defer _=>false
    | _=>true
  | .callA _ f _ args=>match o with
    | .call c=>match c.callee with
      | .value g=>aI f g && eY args c.args.toList
      | _=>false
    | _=>false
  | .call f _ args=>match o with
    | .call c=>match c.callee with
      | .value g=>aI f g && eY args c.args.toList
      | _=>false
    | _=>false
  | _=>false
def fM (s:St) (ρ:aG → ab) (ρ':Operand → Value):Prop:=∀ x y,aI x y = true → Rv s (ρ x) (ρ' y)
section run
variable {P:Program} {s:St} {ρ:aG → ab} {ρ':Operand → Value}
theorem vJ {t:TypeId} (h:fc (P.underlying t) = some true) (w:World):(isAgg t).run P w = .ok true w:=by
  unfold isAgg
  cases hu:P.underlying t with
  | none=>simp [hu,fc] at h
  | some d=>cases d <;> simp [hu,fc] at h <;> simp [underlying,hu]
theorem sV {t:TypeId} (h:fc (P.underlying t) = some false) (w:World):(isAgg t).run P w = .ok false w:=by
  unfold isAgg
  cases hu:P.underlying t with
  | none=>simp [hu,fc] at h
  | some d=>cases d <;> simp [hu,fc] at h <;> simp [underlying,hu]
theorem aR {t:TypeId} (h:(P.info? t).isSome = true) (w:World):(sizeOf t).run P w = .ok (P.cellsOf t) w:=by
  unfold sizeOf typeInfo Program.cellsOf
  obtain ⟨i,hi⟩:=Option.isSome_iff_exists.1 h
  simp [hi]
theorem an {t:TypeId} {d:TypeDesc} (h:P.underlying t = some d) (w:World):(underlying t).run P w = .ok d w:=by
  simp [underlying,h]
theorem dx {v:ab} {c:Value} (h:Rv s v c) (hs:v.fh = true):c.cells = #[c]:=by
  cases h <;> first | rfl | (simp [ab.fh] at hs; done) | (rename_i h _; cases h <;> rfl)
theorem DX {v:ab} {c:Value} (h:Rv s v c) (hs:v.fh = true):c.oneCell' = true:=by
  cases h <;> first | rfl | (simp [ab.fh] at hs; done) | (rename_i h _; cases h <;> rfl)
theorem Rv.fR {cs:List ab} {c:Value} (h:Rv s (.agg cs) c):∃ vs:Array Value,c = .agg vs ∧ vs.size = cs.length ∧ ∀ j (h1:j < cs.length) (h2:j < vs.size),Rv s cs[j] vs[j]:=by
  cases h with
  | agg _ vs hl h=>exact ⟨vs,rfl,hl,h⟩
theorem addr_add (blk off n:Nat):(⟨blk,off,none⟩:Addr).add n = ⟨blk,off + n,none⟩:=by
  unfold Addr.add; split
  · rename_i h; subst h; rfl
  · rfl
theorem tF {k:Option Nat} {cs:List ab} {off:Nat} {vs:Array Value} (hl:vs.size = cs.length) (h:∀ j (h1:j < cs.length) (h2:j < vs.size),Rv s cs[j] vs[j])
    (ho:fx k cs off):∃ u:Value,Rv s (iK k cs off) u ∧ (match k with | none=>vs[off]? = some u | some n=>u = Value.agg (vs.extract off (off + n))):=by
  cases k with
  | none=>
    obtain ⟨h1,h2⟩:=ho
    have h3:off < vs.size:=by omega
    refine ⟨vs[off], ?_,by simp [h3]⟩
    have:=h off h1 h3
    simpa [iK,List.getD,List.getElem?_eq_getElem h1] using this
  | some n=>
    simp only [fx] at ho
    refine ⟨Value.agg (vs.extract off (off + n)),Rv.agg _ _ (by simp; omega) (fun j h1 h2=>?_),rfl⟩
    simp only [List.length_take,List.length_drop] at h1
    have:=h (off + j) (by omega) (by omega)
    simpa using this
end run
end Go.AM
