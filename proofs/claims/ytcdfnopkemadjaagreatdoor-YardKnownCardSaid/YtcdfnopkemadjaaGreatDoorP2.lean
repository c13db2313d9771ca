/- The instructions of our walk, and what each computes on abstract values. No program is named here. When an instruction of ours stands for an operation of the program (checked by the kernel, P: any .. -/
import Derived.Test.YtcdfnopkemadjaaGreatDoorP1
import Derived.Laws.Cells
import Derived.WalkKit
namespace Go.AM
inductive ay where
 | t (n:Nat)
 | c (v:aa)
 | f (n:Nat)
 deriving Inhabited
inductive LK where
 | b | i | s
 deriving DecidableEq,Inhabited
inductive AI where
 | mv (x:ay)
 | pick (c a b:ay)
 | alloc (z:List aa)
 | box (n:Nat) (x:ay)
 | pbox (n:Nat) (x:ay)
 | loadd (k:Option Nat) (x:ay)
 | mvd (x:ay)
 | build (z:List aa) (parts:List (Nat × Nat × ay))
 | lit (m:Nat) (sz n:Nat) (parts:List (Nat × ay))
 | load (k:Option Nat) (x:ay)
 | store (sz:Nat) (x v:ay)
 | nilchk (x:ay)
 | bin (op:BinOp) (x y:ay)
 | eqb (neg:Bool) (x y:ay)
 | eqa (neg:Bool) (ks:List LK) (x y:ay)
 | un (op:UnOp) (x:ay)
 | conv (k:IntKind) (x:ay)
 | convs (x:ay)
 | mkfunc (fn:Fn) (first caps:List ay)
 | fieldAddr (k:Option Nat) (off:Nat) (x:ay)
 | field (k:Option Nat) (off:Nat) (x:ay)
 | ixS (sz:Nat) (x i:ay)
 | ixA (len sz:Nat) (k:Option Nat) (x i:ay)
 | ixV (len sz:Nat) (k:Option Nat) (x i:ay)
 | ixStr (x i:ay)
 | extract (x:ay) (i:Nat)
 | len (x:ay)
 | lenStr (x:ay)
 | lenA (n:Nat) (x:ay)
 | mx (l:List ay)
 | mn (l:List ay)
 | sub (m:Nat) (sz:Nat) (x:ay) (lo hi mx:Option ay)
 | subStr (x:ay) (lo hi:Option ay)
 | subq (sz:Nat) (x:ay) (lo hi:Option ay)
 | append (sz bytes:Nat) (x y:ay)
 | call (f:ay) (dn:List Bool) (args:List ay)
 | panic (x:ay)
 | mkiface (t:TypeId) (x:ay)
 | assert (t:TypeId) (x:ay)
 | range (x:ay)
 | next (x:ay)
 | mkmap
 | lookup (ok:Bool) (z:aa) (x i:ay)
 | mapset (x k v:ay)
 | mksl (m sz bytes:Nat) (z:aa) (n c:ay)
 | clear (sz:Nat) (z:aa) (x:ay)
 | copyB (sz:Nat) (x y:ay)
 | freeze (sz:Nat) (x:ay)
 | nilS (m sz:Nat)
 | buildm (z:List aa) (ps:List (Nat × Nat × ay))
 | storem (sz:Nat) (x:ay)
 | subO (sz:Nat) (x lo:ay)
 | isnil (neg:Bool) (x:ay)
 | callA (sz:Nat) (f:ay) (dn:List Bool) (args:List ay)
 | gix (g:Nat) (x:ay)
 | snil (neg:Bool) (x:ay)
 | mnew
 | mget (ok:Bool) (lk:LK) (z:aa) (x i:ay)
 | mset (lk:LK) (x k v:ay)
 | mgetp (ok:Bool) (z:aa) (x i:ay)
 | msetp (x k v:ay)
 | ment (z:aa) (x k:ay)
 | estore (x s v:ay)
 | allocB
 | jB (bytes:Nat) (x y:ay)
 | b2s (x:ay)
 | subA (n sz:Nat) (x:ay)
 | other
 deriving Inhabited
structure au where
 d:Option Nat
 g:Option (Nat × Bool)
 i:AI
 deriving Inhabited
def Env.put (e:Env) (d:Option Nat) (v:aa):Env:=
 match d with
 | some d=>(d,v) :: e
 | none=>e
def Env.only (e:Env):List Nat → Env
 | []=>[]
 | n :: r=>(n,e.get n) :: Env.only e r
def aa.strip:aa → aa
 | .opt _ v=>v
 | v=>v
def aa.cond:aa → Bool
 | .opt g _=>g
 | _=>true
def opv (e:Env):ay → aa
 | .t n=>(e.get n).strip
 | .c v=>v
 | .f n=>.func (.func n) [] []
def opg (e:Env):ay → Bool
 | .t n=>(e.get n).cond
 | _=>true
def AI.opers:AI → List ay
 | .b2s x | .subA _ _ x | .mv x | .box _ x | .pbox _ x | .loadd _ x | .mvd x | .load _ x | .nilchk x | .un _ x | .conv _ x | .convs x | .fieldAddr _ _ x | .field _ _ x | .extract x _ | .len x | .lenStr x | .panic x | .mkiface _ x | .assert _ x | .range x | .next x | .freeze _ x | .clear _ _ x | .isnil _ x | .gix _ x | .snil _ x=>[x]
 | .lenA _ _ | .allocB | .alloc _ | .mkmap | .mnew | .nilS _ _ | .other=>[]
 | .pick c _ _=>[c]
 | .build _ ps=>ps.map (·.2.2)
 | .buildm _ ps=>ps.map (·.2.2)
 | .storem _ x=>[x]
 | .lit _ _ _ ps=>ps.map (·.2)
 | .jB _ x y | .store _ x y | .bin _ x y | .eqb _ x y | .eqa _ _ x y | .ixS _ x y | .ixA _ _ _ x y | .ixV _ _ _ x y | .ixStr x y | .append _ _ x y | .lookup _ _ x y | .subO _ x y | .mget _ _ _ x y | .mgetp _ _ x y | .ment _ x y | .mksl _ _ _ _ x y | .copyB _ x y=>[x,y]
 | .mkfunc _ a b=>a ++ b
 | .mx l | .mn l=>l
 | .sub _ _ x a b c=>x :: (a.toList ++ b.toList ++ c.toList)
 | .subStr x a b | .subq _ x a b=>x :: (a.toList ++ b.toList)
 | .call f _ l | .callA _ f _ l=>f :: l
 | .mapset x k v | .mset _ x k v | .msetp x k v | .estore x k v=>[x,k,v]
def eO (k:Option Nat) (cs:List aa) (off:Nat):aa:=
 match k with
 | none=>cs.getD off .undef
 | some n=>.agg ((cs.drop off).take n)
def b7 (k:Option Nat) (cs:List aa) (off:Nat):Prop:=
 match k with
 | none=>off < cs.length ∧ (cs.getD off .undef).cP = true
 | some n=>off + n ≤ cs.length
def putCells (cs:List aa) (off:Nat):List aa → List aa
 | []=>cs
 | v :: r=>putCells (cs.set off v) (off + 1) r
def ab.get (σ:ab) (b:Nat):bO:=σ.getD b .dead
def aa.uZ:aa → Bool
 | .agg _=>true
 | v=>v.cP
def fU (k:Option Nat) (σ:ab):aa → aa
 | .pval v=>v
 | .ptr b off=>match σ.get b with
  | .box cs=>eO k cs off
  | _=>.undef
 | .eptr _ b i f _=>match σ.get b with
  | .arr _ xs=>eO k (xs.getD i .undef).cells f
  | _=>.undef
 | _=>.undef
def cB (k:Option Nat) (σ:ab):aa → Prop
 | .pval v=>match k with
  | none=>v.cP = true
  | some n=>match v with
   | .agg cs=>cs.length = n
   | _=>False
 | .ptr b off=>match σ.get b with
  | .box cs=>b7 k cs off
  | _=>False
 | .eptr sz b i f n=>match σ.get b with
  | .arr sz' xs=>sz' = sz ∧ xs.length = n ∧ i < n ∧ (xs.getD i .undef).uZ = true ∧ b7 k (xs.getD i .undef).cells f
  | _=>False
 | _=>False
def b9:List aa → Bool
 | []=>true
 | v :: r=>v.cP && b9 r
def aY (v:aa) (n:Nat):Prop:=
 match v with
 | .agg cs=>cs.length = n
 | v=>v.cP = true ∧ n = 1
def ij (z:List aa):List (Nat × List aa) → List aa
 | []=>z
 | (off,cs) :: r=>ij (putCells z off cs) r
def dH (n:Nat) (ρ:ay → aa):List (Nat × Nat × ay) → Prop
 | []=>True
 | (off,sz,x) :: r=>aY (ρ x) sz ∧ off + sz ≤ n ∧ dH n ρ r
def cZ (ρ:ay → aa) (z:List aa):List (Nat × ay) → List aa
 | []=>z
 | (i,x) :: r=>cZ ρ (z.set i (ρ x)) r
def ee (sz n:Nat) (ρ:ay → aa):List (Nat × ay) → Prop
 | []=>True
 | (i,x) :: r=>i < n ∧ aY (ρ x) sz ∧ ee sz n ρ r
def dG:aa → aa → Bool
 | .int _ a, .int _ b=>a == b
 | .str a, .str b=>a == b
 | .bool a, .bool b=>a == b
 | _,_=>false
def di:LK → aa → aa → Bool
 | .i, .int j _, .int k _=>j == k
 | .s, .str _, .str _=>true
 | .b, .bool _, .bool _=>true
 | _,_,_=>false
def bw:List aa → List aa → Bool
 | x :: r,y :: t=>dG x y && bw r t
 | _,_=>true
def aR:List LK → List aa → List aa → Bool
 | [],[],[]=>true
 | k :: l,x :: r,y :: t=>di k x y && aR l r t
 | _,_,_=>false
def Hh (op:BinOp) (k:IntKind) (a b:Int):Int:=
 match op with
 | .and=>k.wrap (BitVec.ofInt k.bits a &&& BitVec.ofInt k.bits b).toNat
 | .or=>k.wrap (BitVec.ofInt k.bits a ||| BitVec.ofInt k.bits b).toNat
 | .xor=>k.wrap (BitVec.ofInt k.bits a ^^^ BitVec.ofInt k.bits b).toNat
 | _=>k.wrap (BitVec.ofInt k.bits a &&& ~~~ (BitVec.ofInt k.bits b)).toNat
/-! The same, where both numbers are known: else the kernel would compute with unknown bits, and end in a depth. -/
def Jt (op:BinOp):Nat → IntKind → Int → Int → Int
 | 0=>Hh op
 | _ + 1=>Hh op
def acQ (op:BinOp):Nat → Nat → IntKind → Int → Int → Int
 | 0=>Jt op
 | _ + 1=>Jt op
def uB (op:BinOp) (k:IntKind) (a b:Int):Int:=acQ op a.natAbs b.natAbs k a b
theorem IJ (op:BinOp) (k:IntKind) (a b:Int):uB op k a b = Hh op k a b:=by
 unfold uB;cases a.natAbs <;> cases b.natAbs <;> rfl
def arith (op:BinOp) (k:IntKind) (a b:Int):aa:=
 match op with
 | .add=>.int k (k.wrap (a + b))
 | .sub=>.int k (k.wrap (a - b))
 | .mul=>.int k (k.wrap (a * b))
 | .quo=>.int k (k.wrap (a.tdiv b))
 | .rem=>.int k (a.tmod b)
 | .and=>.int k (uB .and k a b)
 | .or=>.int k (uB .or k a b)
 | .xor=>.int k (uB .xor k a b)
 | .andNot=>.int k (uB .andNot k a b)
 | .shl=>.int k (k.wrap (a * 2 ^ min b.toNat k.bits))
 | .shr=>.int k (a.fdiv (2 ^ min b.toNat k.bits))
 | .eql=>.bool (a == b)
 | .neq=>.bool (a != b)
 | .lss=>.bool (decide (a < b))
 | .leq=>.bool (decide (a ≤ b))
 | .gtr=>.bool (decide (a > b))
 | .geq=>.bool (decide (a ≥ b))
def jE (op:BinOp) (j k:IntKind) (b:Int):Prop:=
 match op with
 | .quo | .rem=>j = k ∧ b ≠ 0
 | .shl | .shr=>0 ≤ b
 | _=>j = k
def zK (op:BinOp) (a b:ByteArray):aa:=
 match op with
 | .add=>.str (a ++ b)
 | .eql=>.bool (a.toList == b.toList)
 | .neq=>.bool (!(a.toList == b.toList))
 | .lss=>.bool (Op.bytesLess a.toList b.toList)
 | .leq=>.bool (Op.bytesLess a.toList b.toList || a.toList == b.toList)
 | .gtr=>.bool (!(Op.bytesLess a.toList b.toList || a.toList == b.toList))
 | .geq=>.bool (!Op.bytesLess a.toList b.toList)
 | _=>.undef
def kz (op:BinOp) (a b:ByteArray):Prop:=
 match op with
 | .add=>((a.size + b.size:Nat):Int) ≤ IntKind.i64.max
 | .eql | .neq | .lss | .leq | .gtr | .geq=>True
 | _=>False
def vI (op:BinOp):aa → aa → aa
 | .int k a, .int _ b=>arith op k a b
 | .str a, .str b=>zK op a b
 | _,_=>.undef
def mK (op:BinOp):aa → aa → Prop
 | .int j _, .int k b=>jE op j k b
 | .str a, .str b=>kz op a b
 | _,_=>False
def unV (op:UnOp):aa → aa
 | .bool b=>match op with
  | .not=>.bool (!b)
  | _=>.undef
 | .int k n=>match op with
  | .neg=>.int k (k.wrap (0 - n))
  | .xor=>.int k (k.wrap (BitVec.ofInt k.bits (if k.signed then -1 else k.max) ^^^ BitVec.ofInt k.bits n).toNat)
  | _=>.undef
 | _=>.undef
def uG (op:UnOp):aa → Prop
 | .bool _=>match op with
  | .not=>True
  | _=>False
 | .int _ _=>match op with
  | .neg | .xor=>True
  | _=>False
 | _=>False
def aP:aa → Int
 | .int _ n=>n
 | _=>0
def isInt:aa → Prop
 | .int _ _=>True
 | _=>False
def aa.elems (σ:ab):aa → List aa
 | .slice _ xs=>xs
 | .oslice _ xs _ _=>xs
 | .sref _ b off len _=>match σ.get b with
  | .arr _ xs=>(xs.drop off).take len
  | _=>[]
 | _=>[]
def aa.cE (σ:ab) (sz:Nat):aa → Prop
 | .slice sz' xs=>sz' = sz ∨ xs = []
 | .oslice sz' _ _ _=>sz' = sz
 | .sref sz' b _ _ n=>sz' = sz ∧ match σ.get b with
  | .arr sz'' xs=>sz'' = sz ∧ xs.length = n
  | _=>False
 | _=>False
def Ij:aa → aa
 | .nils _=>.int .i64 0
 | .slice _ xs=>.int .i64 xs.length
 | .oslice _ xs _ _=>.int .i64 xs.length
 | .sref _ _ _ len _=>.int .i64 len
 | _=>.undef
def so:aa → Prop
 | .slice _ _ | .oslice _ _ _ _ | .sref _ _ _ _ _ | .nils _=>True
 | _=>False
def G9 (n:Int):aa → aa
 | .slice _ xs=>.pval (xs.getD n.toNat .undef)
 | .oslice _ xs _ _=>.pval (xs.getD n.toNat .undef)
 | .sref sz b off _ m=>.eptr sz b (off + n.toNat) 0 m
 | _=>.undef
def sh (sz:Nat) (n:Int):aa → Prop
 | .slice sz' xs=>sz' = sz ∧ 0 ≤ n ∧ n < xs.length
 | .oslice sz' xs _ _=>sz' = sz ∧ 0 ≤ n ∧ n < xs.length
 | .sref sz' _ _ len _=>sz' = sz ∧ 0 ≤ n ∧ n < len
 | _=>False
def eo (k:Option Nat) (off:Nat):aa → aa
 | .pval (.agg cs)=>.pval (eO k cs off)
 | .ptr b o=>.ptr b (o + off)
 | .eptr sz b i f n=>.eptr sz b i (f + off) n
 | _=>.undef
def eG (k:Option Nat) (off:Nat):aa → Prop
 | .pval (.agg cs)=>b7 k cs off
 | .ptr _ _ | .eptr _ _ _ _ _=>True
 | _=>False
def wQ (k:Option Nat) (off:Nat):aa → aa
 | .agg cs=>eO k cs off
 | _=>.undef
def pa (k:Option Nat) (off:Nat):aa → Prop
 | .agg cs=>b7 k cs off
 | _=>False
def F9 (x:aa) (y:aa):aa:=
 match x,y with
 | .int k a, .int _ b=>.int k (if b > a then b else a)
 | _,_=>.undef
def w6 (x:aa) (y:aa):aa:=
 match x,y with
 | .int k a, .int _ b=>.int k (if b < a then b else a)
 | _,_=>.undef
def kL:List aa → Prop
 | []=>True
 | x :: r=>isInt x ∧ kL r
def aF (ρ:ay → aa) (d:Int):Option ay → Int
 | none=>d
 | some x=>aP (ρ x)
def b6 (ρ:ay → aa):Option ay → Prop
 | none=>True
 | some x=>isInt (ρ x)
/-! Bytes and strings. -/
def Jv (b:UInt8):aa:=.int .u8 b.toNat
def lh (s:ByteArray):List aa:=s.data.toList.map Jv
def u8s:List aa → List UInt8
 | []=>[]
 | .int _ n :: r=>UInt8.ofNat n.toNat :: u8s r
 | _ :: r=>0 :: u8s r
def mC:List aa → Bool
 | []=>true
 | .int .u8 _ :: r=>mC r
 | _=>false
def ga:List aa → Bool
 | []=>true
 | v :: r=>v.cP && ga r
/-! Maps whose keys are pairs of numbers. -/
def cS:aa → aa → Bool
 | .agg [.int .i64 _, .int .i64 _], .agg [.int .i64 _, .int .i64 _]=>true
 | _,_=>false
def fO:aa → aa → Bool
 | .agg [.int _ a, .int _ b], .agg [.int _ c, .int _ d]=>a == c && b == d
 | _,_=>false
def cX (k:aa):List (aa × aa) → Bool
 | []=>true
 | e :: r=>cS k e.1 && cX k r
def bx (k:aa):List (aa × aa) → Option aa
 | []=>none
 | e :: r=>if fO k e.1 then some e.2 else bx k r
def dy (k v:aa):List (aa × aa) → List (aa × aa)
 | []=>[(k,v)]
 | e :: r=>if fO k e.1 then (k,v) :: r else e :: dy k v r
def eb (k:aa):List (aa × aa) → Nat → Nat
 | [],n=>n
 | e :: r,n=>if fO k e.1 then n else eb k r (n + 1)
def cJ (ok:Bool) (z:aa):Option aa → aa
 | some v=>if ok then .tup [v, .bool true] else v
 | none=>if ok then .tup [z, .bool false] else z
def AI.val (ρ:ay → aa) (σ:ab):AI → aa
 | .mv x=>ρ x
 | .build z ps=>.agg (ij z (ps.map fun p=>(p.1,(ρ p.2.2).cells)))
 | .lit _ sz n ps=>.slice sz (cZ ρ (List.replicate n .undef) ps)
 | .load k x=>fU k σ (ρ x)
 | .nilchk x=>ρ x
 | .bin op x y=>vI op (ρ x) (ρ y)
 | .eqb neg x y=>match ρ x,ρ y with
  | .bool a, .bool b=>.bool (neg != (a == b))
  | _,_=>.undef
 | .eqa neg _ x y=>match ρ x,ρ y with
  | .agg a, .agg b=>.bool (neg != bw a b)
  | _,_=>.undef
 | .un op x=>unV op (ρ x)
 | .conv k x=>.int k (k.wrap (aP (ρ x)))
 | .convs x=>ρ x
 | .b2s x=>match ρ x with
  | .slice _ xs=>.str ⟨(u8s xs).toArray⟩
  | _=>.undef
 | .mkfunc fn first caps=>.func fn (first.map ρ) (caps.map ρ)
 | .fieldAddr k off x=>eo k off (ρ x)
 | .field k off x=>wQ k off (ρ x)
 | .ixS _ x i=>G9 (aP (ρ i)) (ρ x)
 | .ixA _ sz k x i=>eo k ((aP (ρ i)).toNat * sz) (ρ x)
 | .ixV _ sz k x i=>wQ k ((aP (ρ i)).toNat * sz) (ρ x)
 | .ixStr x i=>match ρ x with
  | .str s=>.int .u8 (s.data.getD (aP (ρ i)).toNat 0).toNat
  | _=>.undef
 | .extract x i=>match ρ x with
  | .tup vs=>vs.getD i .undef
  | _=>.undef
 | .len x=>Ij (ρ x)
 | .lenStr x=>match ρ x with
  | .str s=>.int .i64 s.size
  | _=>.undef
 | .lenA n _=>.int .i64 n
 | .mx l=>match l.map ρ with
  | []=>.undef
  | x :: r=>r.foldl F9 x
 | .mn l=>match l.map ρ with
  | []=>.undef
  | x :: r=>r.foldl w6 x
 | .mkiface t x=>.iface t (ρ x)
 | .assert _ x=>match ρ x with
  | .iface _ v=>v
  | _=>.undef
 | .subStr x lo hi=>match ρ x with
  | .str s=>.str (s.extract (aF ρ 0 lo).toNat (aF ρ s.size hi).toNat)
  | _=>.undef
 | .subq sz x lo hi=>match ρ x with
  | .slice _ xs=>.slice sz ((xs.take (aF ρ xs.length hi).toNat).drop (aF ρ 0 lo).toNat)
  | .oslice _ xs _ _=>.slice sz ((xs.take (aF ρ xs.length hi).toNat).drop (aF ρ 0 lo).toNat)
  | _=>.undef
 | .lookup ok z x i=>match ρ x with
  | .map b=>match σ.get b with
   | .amap es=>cJ ok z (bx (ρ i) es)
   | _=>.undef
  | _=>.undef
 | _=>.undef
def AI.side (ρ:ay → aa) (σ:ab):AI → Prop
 | .mv _=>True
 | .build z ps=>dH z.length ρ ps
 | .lit m sz n ps=>m = 0 ∧ ee sz n ρ ps
 | .load k x=>cB k σ (ρ x)
 | .nilchk x=>match ρ x with
  | .pval _ | .ptr _ _ | .eptr _ _ _ _ _ | .func (.func _) _ _=>True
  | _=>False
 | .bin op x y=>mK op (ρ x) (ρ y)
 | .eqb _ x y=>match ρ x,ρ y with
  | .bool _, .bool _=>True
  | _,_=>False
 | .eqa _ ks x y=>match ρ x,ρ y with
  | .agg a, .agg b=>aR ks a b = true
  | _,_=>False
 | .un op x=>uG op (ρ x)
 | .conv _ x=>isInt (ρ x)
 | .convs x=>match ρ x with
  | .str _=>True
  | _=>False
 | .b2s x=>match ρ x with
  | .slice sz xs=>sz = 1 ∧ mC xs = true
  | _=>False
 | .mkfunc _ _ _=>True
 | .fieldAddr k off x=>eG k off (ρ x)
 | .field k off x=>pa k off (ρ x)
 | .ixS sz x i=>isInt (ρ i) ∧ sh sz (aP (ρ i)) (ρ x)
 | .ixA m sz k x i=>isInt (ρ i) ∧ 0 ≤ aP (ρ i) ∧ aP (ρ i) < m ∧ eG k ((aP (ρ i)).toNat * sz) (ρ x)
 | .ixV m sz k x i=>isInt (ρ i) ∧ 0 ≤ aP (ρ i) ∧ aP (ρ i) < m ∧ pa k ((aP (ρ i)).toNat * sz) (ρ x)
 | .ixStr x i=>isInt (ρ i) ∧ match ρ x with
  | .str s=>0 ≤ aP (ρ i) ∧ aP (ρ i) < s.size
  | _=>False
 | .extract x i=>match ρ x with
  | .tup vs=>i < vs.length
  | _=>False
 | .len x=>so (ρ x)
 | .lenStr x=>match ρ x with
  | .str _=>True
  | _=>False
 | .lenA _ _=>True
 | .mx l | .mn l=>l.map ρ ≠ [] ∧ kL (l.map ρ)
 | .mkiface _ _=>True
 | .assert t x=>match ρ x with
  | .iface u _=>u = t
  | _=>False
 | .subStr x lo hi=>b6 ρ lo ∧ b6 ρ hi ∧ match ρ x with
  | .str s=>0 ≤ aF ρ 0 lo ∧ aF ρ 0 lo ≤ aF ρ s.size hi ∧ aF ρ s.size hi ≤ s.size
  | _=>False
 | .subq sz x lo hi=>b6 ρ lo ∧ b6 ρ hi ∧ match ρ x with
  | .slice sz' xs=>(sz' = sz ∨ xs = []) ∧ 0 ≤ aF ρ 0 lo ∧ aF ρ 0 lo ≤ aF ρ xs.length hi ∧ aF ρ xs.length hi ≤ xs.length
  | .oslice sz' xs _ _=>sz' = sz ∧ 0 ≤ aF ρ 0 lo ∧ aF ρ 0 lo ≤ aF ρ xs.length hi ∧ aF ρ xs.length hi ≤ xs.length
  | _=>False
 | .lookup _ _ x i=>match ρ x with
  | .map b=>match σ.get b with
   | .amap es=>cS (ρ i) (ρ i) = true ∧ cX (ρ i) es = true
   | _=>False
  | _=>False
 | _=>False
def AI.plain:AI → Bool
 | .mv _ | .build _ _ | .load _ _ | .nilchk _ | .bin _ _ _ | .eqb _ _ _ | .eqa _ _ _ _ | .un _ _ | .conv _ _ | .convs _ | .b2s _ | .mkfunc _ _ _ | .fieldAddr _ _ _ | .field _ _ _ | .ixS _ _ _ | .ixA _ _ _ _ _
 | .ixV _ _ _ _ _ | .ixStr _ _ | .extract _ _ | .len _ | .lenStr _ | .lenA _ _ | .mx _ | .mn _ | .mkiface _ _ | .assert _ _ | .lookup _ _ _ _ | .subStr _ _ _ | .subq _ _ _ _=>true
 | .lit m _ _ _=>m == 0
 | _=>false
def aa.fm:aa → aa
 | .mint sz=>.slice sz []
 | v=>v
def a7:List aa → Nat → List aa × List bO
 | [],_=>([],[])
 | .mint sz :: r,n=>if sz < 1000 then (.oslice sz [] n 0 :: (a7 r (n + 1)).1, .spare sz 0 :: (a7 r (n + 1)).2)
   else (.sref (sz - 1000) n 0 0 0 :: (a7 r (n + 1)).1, .arr (sz - 1000) [] :: (a7 r (n + 1)).2)
 | v :: r,n=>(v :: (a7 r n).1,(a7 r n).2)
def hF (v:aa) (f:Nat) (cells:List aa):aa:=
 match v with
 | .agg cs=>.agg (putCells cs f cells)
 | _=>cells.getD 0 .undef
def eY (v:aa) (f n:Nat):Prop:=
 match v with
 | .agg cs=>f + n ≤ cs.length
 | v=>v.cP = true ∧ f = 0 ∧ n = 1
def ck (σ:ab) (sz:Nat) (v:aa):aa → Prop
 | .ptr b off=>aY v sz ∧ b9 v.cells = true ∧ match σ.get b with
  | .box cs=>off + sz ≤ cs.length
  | _=>False
 | .eptr esz b i f n=>aY v sz ∧ b9 v.cells = true ∧ match σ.get b with
  | .arr esz' xs=>esz' = esz ∧ xs.length = n ∧ i < n ∧ eY (xs.getD i .undef) f sz
  | _=>False
 | _=>False
def cO (σ:ab) (v:aa):aa → ab
 | .ptr b off=>match σ.get b with
  | .box cs=>σ.set b (.box (putCells cs off v.cells))
  | _=>σ
 | .eptr _ b i f _=>match σ.get b with
  | .arr esz xs=>σ.set b (.arr esz (xs.set i (hF (xs.getD i .undef) f v.cells)))
  | _=>σ
 | _=>σ
def tL (c:Bool) (a b:aa):aa:=
 match a,b with
 | .bool x, .bool y=>.bool (if c = true then x else y)
 | _,_=>if c = true then a else b
def lT:aa → Bool
 | .bool b=>b
 | _=>false
def isBool:aa → Prop
 | .bool _=>True
 | _=>False
def Fits (sz:Nat) (ys:List aa):Prop:=∀ v ∈ ys,aY v sz ∧ b9 v.cells = true
def dv (sz bytes:Nat) (σ:ab) (x:aa) (ys:List aa) (K:aa → ab → Prop):Prop:=
 match x with
 | .nils sz'=>sz' = sz ∧ ys.length * bytes ≤ 140737488355328 ∧ K (.oslice sz ys σ.length 1) (σ ++ [.spare sz 1])
 | .oslice sz' xs b k=>sz' = sz ∧ (xs.length + ys.length) * bytes ≤ 140737488355328 ∧ match σ.get b with
  | .spare sz'' k'=>sz'' = sz ∧ k' = k ∧ K (.oslice sz (xs ++ ys) b (k + 1)) (σ.set b (.spare sz (k + 1)))
  | _=>False
 | .sref sz' b off len n=>sz' = sz ∧ match σ.get b with
  | .arr sz'' xs=>sz'' = sz ∧ xs.length = n ∧
    if off + len + ys.length ≤ n then K (.sref sz b off (len + ys.length) n) (σ.set b (.arr sz (xs.take (off + len) ++ ys ++ xs.drop (off + len + ys.length))))
    else off = 0 ∧ len = n ∧ (n + ys.length) * bytes ≤ 140737488355328 ∧ K (.sref sz b 0 (n + ys.length) (n + ys.length)) (σ.set b (.arr sz (xs ++ ys)))
  | _=>False
 | _=>False
def nN (m sz:Nat) (σ:ab) (x:aa) (lo:Int) (hi:Int → Int) (mx:Option Int) (K:aa → ab → Prop):Prop:=
 let go (xs:List aa):Prop:=
  0 ≤ lo ∧ lo ≤ hi xs.length ∧ (match mx with
   | none=>hi xs.length ≤ xs.length ∧ m = 0
   | some v=>hi xs.length ≤ v ∧ v ≤ xs.length ∧ (m = 1 → v = hi xs.length) ∧ (m = 2 → v = 0)) ∧
  (if m = 0 then K (.slice sz ((xs.take (hi xs.length).toNat).drop lo.toNat)) σ
  else if m = 1 then K (.oslice sz ((xs.take (hi xs.length).toNat).drop lo.toNat) σ.length 0) (σ ++ [.spare sz 0])
  else m = 2 ∧ K (.sref sz σ.length 0 0 0) (σ ++ [.arr sz []]))
 match x with
 | .slice sz' xs=>(sz' = sz ∨ xs = []) ∧ go xs
 | .oslice sz' xs _ _=>sz' = sz ∧ go xs
 | .sref sz' b off len n=>if m = 3 then (match mx with
   | some v=>0 ≤ lo ∧ lo ≤ hi len ∧ hi len ≤ v ∧ v ≤ len ∧ K .undef σ
   | none=>False)
  else sz' = sz ∧ m = 0 ∧ mx = none ∧ 0 ≤ lo ∧ lo ≤ hi len ∧ off + hi len ≤ n ∧ K (.sref sz b (off + lo.toNat) (hi len - lo).toNat n) σ
 | _=>False
def pT (m sz bytes:Nat) (σ:ab) (z:aa) (n c:Int) (K:aa → ab → Prop):Prop:=
 0 ≤ n ∧ n ≤ c ∧ c * bytes ≤ 140737488355328 ∧ c ≤ 140737488355328 ∧
 (if m = 1 then n = 0 ∧ K (.oslice sz [] σ.length 0) (σ ++ [.spare sz 0])
 else if m = 2 then K (.sref sz σ.length 0 n.toNat n.toNat) (σ ++ [.arr sz (List.replicate n.toNat z)])
 else m = 0 ∧ K (.slice sz (List.replicate n.toNat z)) σ)
def lf (sz:Nat) (σ:ab) (z:aa) (x:aa) (K:aa → ab → Prop):Prop:=
 match x with
 | .sref sz' b off len n=>sz' = sz ∧ aY z sz ∧ b9 z.cells = true ∧ match σ.get b with
  | .arr sz'' xs=>sz'' = sz ∧ xs.length = n ∧ K (.tup []) (σ.set b (.arr sz (xs.take off ++ List.replicate len z ++ xs.drop (off + len))))
  | _=>False
 | _=>False
def py (sz:Nat) (σ:ab) (x:aa) (ys:List aa) (K:aa → ab → Prop):Prop:=
 match x with
 | .sref sz' b off len n=>sz' = sz ∧ match σ.get b with
  | .arr sz'' xs=>sz'' = sz ∧ xs.length = n ∧ K (.int .i64 (min ys.length len:Nat)) (σ.set b (.arr sz (xs.take off ++ ys.take len ++ xs.drop (off + min ys.length len))))
  | _=>False
 | _=>False
def mg (σ:ab) (x:aa) (K:aa → ab → Prop):Prop:=
 match x with
 | .str y=>K (.iter σ.length) (σ ++ [.siter y 0])
 | _=>False
def np (σ:ab) (x:aa) (K:aa → ab → Prop):Prop:=
 match x with
 | .iter b=>match σ.get b with
  | .siter y pos=>if pos < y.size then K (.tup [.bool true, .int .i64 pos, .int .i32 (Utf8.decode y pos).1]) (σ.set b (.siter y (pos + (Utf8.decode y pos).2))) else K (.tup [.bool false]) σ
  | _=>False
 | _=>False
def jv (sz:Nat) (σ:ab) (x:aa) (K:aa → ab → Prop):Prop:=
 match x with
 | .sref sz' b off len n=>sz' = sz ∧ match σ.get b with
  | .arr sz'' xs=>sz'' = sz ∧ xs.length = n ∧ K (.slice sz ((xs.drop off).take len)) (σ.set b .dead)
  | _=>False
 | _=>False
def sj (bytes:Nat) (σ:ab) (x y:aa) (K:aa → ab → Prop):Prop:=
 match y with
 | .str s=>dv 1 bytes σ x (lh s) K
 | _=>False
def rH (n sz:Nat) (cs:List aa):aa:=.slice (sz % 1000) ((List.range (n - sz / 1000)).map fun i=>.agg ((cs.drop ((sz / 1000 + i) * (sz % 1000))).take (sz % 1000)))
def j8 (n sz:Nat) (σ:ab) (x:aa) (K:aa → ab → Prop):Prop:=
 match x with
 | .ptr b 0=>match σ.get b with
  | .box cs=>sz = 1 ∧ cs.length = n ∧ ga cs = true ∧ K (.slice 1 cs) (σ.set b .dead)
  | _=>False
 | .pval (.agg cs)=>2 ≤ sz % 1000 ∧ sz / 1000 < n ∧ cs.length = n * (sz % 1000) ∧ K (rH n sz cs) σ
 | _=>False
def oR (sz:Nat) (σ:ab) (x lo:aa) (K:aa → ab → Prop):Prop:=
 match x,lo with
 | .oslice sz' xs b k, .int _ n=>sz' = sz ∧ 0 ≤ n ∧ n ≤ xs.length ∧ match σ.get b with
  | .spare sz'' k'=>sz'' = sz ∧ k' = k ∧ K (.oslice sz (xs.drop n.toNat) b (k + 1)) (σ.set b (.spare sz (k + 1)))
  | _=>False
 | _,_=>False
/-! A table of the program. -/
def fx (g:Nat):List (Nat × List (IntKind × Int)) → List (IntKind × Int)
 | []=>[]
 | (h,cs) :: r=>if h = g then cs else fx g r
def yB (g:Nat) (σ:ab) (x:aa) (K:aa → ab → Prop):Prop:=
 match x with
 | .int _ n=>0 ≤ n ∧ match (fx g bP)[n.toNat]? with
  | some (k,v)=>K (.pval (.int k v)) σ
  | none=>False
 | _=>False
def oe (neg:Bool) (σ:ab) (x:aa) (K:aa → ab → Prop):Prop:=
 match x with
 | .niliface=>K (.bool !neg) σ
 | .iface _ _=>K (.bool neg) σ
 | _=>False
/-! Is a slice nil? Of an empty one nobody knows. -/
def pb (neg:Bool) (σ:ab) (x:aa) (K:aa → ab → Prop):Prop:=
 match x with
 | .slice _ xs | .oslice _ xs _ _=>K (.bool neg) σ ∧ (xs = [] → K (.bool !neg) σ)
 | .sref _ _ _ len _=>K (.bool neg) σ ∧ (len = 0 → K (.bool !neg) σ)
 | _=>False
/-! Maps whose keys are numbers, strings or Booleans. -/
def gD (lk:LK) (k:aa):List (aa × aa) → Bool
 | []=>true
 | e :: r=>di lk k e.1 && gD lk k r
def fg (k:aa):List (aa × aa) → Option aa
 | []=>none
 | e :: r=>if dG k e.1 then some e.2 else fg k r
def fG (k v:aa):List (aa × aa) → List (aa × aa)
 | []=>[(k,v)]
 | e :: r=>if dG k e.1 then (k,v) :: r else e :: fG k v r
def mB (ok:Bool) (lk:LK) (z:aa) (σ:ab) (x k:aa) (K:aa → ab → Prop):Prop:=
 match x with
 | .map b=>match σ.get b with
  | .amap es=>gD lk k es = true ∧ K (cJ ok z (fg k es)) σ
  | _=>False
 | _=>False
def nk (lk:LK) (σ:ab) (x k v:aa) (K:aa → ab → Prop):Prop:=
 match x with
 | .map b=>match σ.get b with
  | .amap es=>gD lk k es = true ∧ K .undef (σ.set b (.amap (fG k v es)))
  | _=>False
 | _=>False
def jT (ok:Bool) (z:aa) (σ:ab) (x k:aa) (K:aa → ab → Prop):Prop:=
 match x with
 | .map b=>match σ.get b with
  | .amap es=>cS k k = true ∧ cX k es = true ∧ K (cJ ok z (bx k es)) σ
  | _=>False
 | _=>False
def jJ (σ:ab) (x k v:aa) (K:aa → ab → Prop):Prop:=
 match x with
 | .map b=>match σ.get b with
  | .amap es=>cS k k = true ∧ cX k es = true ∧ K .undef (σ.set b (.amap (dy k v es)))
  | _=>False
 | _=>False
def mY (z:aa) (σ:ab) (x k:aa) (K:aa → ab → Prop):Prop:=
 match x with
 | .map b=>match σ.get b with
  | .amap es=>cS k k = true ∧ cX k es = true ∧ K (.tup [cJ false z (bx k es), .int .i64 (eb k es 0)]) (σ.set b (.amap (dy k (cJ false z (bx k es)) es)))
  | _=>False
 | _=>False
def gX (σ:ab) (x s v:aa) (K:aa → ab → Prop):Prop:=
 match x,s with
 | .map b, .int .i64 n=>match σ.get b with
  | .amap es=>0 ≤ n ∧ n < es.length ∧ K .undef (σ.set b (.amap (es.set n.toNat ((es.getD n.toNat (.undef, .undef)).1,v))))
  | _=>False
 | _,_=>False
def aa.down:aa → aa
 | .nils sz=>.slice sz []
 | .oslice sz xs _ _=>.slice sz xs
 | v=>v
def aa.gR:aa → aa
 | .agg cs=>.agg (cs.map aa.down)
 | v=>v.down
def aU:List Bool → List aa → List aa
 | true :: r,v :: l=>v.gR :: aU r l
 | _ :: r,v :: l=>v :: aU r l
 | [],l=>l
 | _,[]=>[]
mutual
def aH:aa → Value → Bool
 | .bool a, .bool b=>a == b
 | .int j a, .int k b=>decide (j = k) && a == b
 | .str a, .string b=>decide (a = b)
 | .slice _ xs, .slice none l c=>xs.isEmpty && l == 0 && c == 0
 | .nilptr, .pointer none=>true
 | .nilfunc, .nilFunc=>true
 | .niliface, .nilIface=>true
 | .nilmap, .map none=>true
 | .agg cs, .agg vs=>bg cs vs.toList
 | .undef,_=>true
 | .nils _, .slice none l c=>l == 0 && c == 0
 | _,_=>false
def bg:List aa → List Value → Bool
 | [],[]=>true
 | a :: r,b :: t=>aH a b && bg r t
 | _,_=>false
end
theorem eU:∀ {cs:List aa} {vs:List Value},bg cs vs = true → vs.length = cs.length
 | [],[],_=>rfl
 | a :: r,b :: t,h=>by simp only [bg,Bool.and_eq_true] at h; simp [eU h.2]
 | [],_ :: _,h=>by simp [bg] at h
 | _ :: _,[],h=>by simp [bg] at h
mutual
theorem b8 {s:St}:∀ {v:aa} {c:Value},aH v c = true → Rv s v c
 | .bool a,c,h=>by cases c <;> simp [aH] at h; subst h; exact .bool _
 | .int j a,c,h=>by cases c <;> simp [aH] at h; obtain ⟨rfl,rfl⟩:=h; exact .int _ _
 | .str a,c,h=>by cases c <;> simp [aH] at h; subst h; exact .str _
 | .slice sz xs,c,h=>by
  cases c with
  | slice a l cap=>
   cases a <;> simp [aH] at h;obtain ⟨⟨rfl,rfl⟩,rfl⟩:=h; exact .slice0 _ _ _
  | _=>simp [aH] at h
 | .nilptr,c,h=>by
  cases c with
  | pointer a=>cases a <;> simp [aH] at h; exact .nilptr
  | _=>simp [aH] at h
 | .nilfunc,c,h=>by cases c <;> simp [aH] at h; exact .nilfunc
 | .niliface,c,h=>by cases c <;> simp [aH] at h; exact .niliface
 | .nilmap,c,h=>by
  cases c with
  | map a=>cases a <;> simp [aH] at h; exact .nilmap
  | _=>simp [aH] at h
 | .agg cs,c,h=>by
  cases c with
  | agg vs=>
   simp only [aH] at h;refine .agg cs vs (by simpa using eU h) (fun j h1 h2=>?_);have:=fw (s:=s) h j h1 (by simpa using h2);simpa using this
  | _=>simp [aH] at h
 | .undef,c,_=>.undef c
 | .nils sz,c,h=>by
  cases c with
  | slice a l cap=>
   cases a <;> simp [aH] at h;obtain ⟨rfl,rfl⟩:=h; exact .nils _
  | _=>simp [aH] at h
 | .tup _,c,h=>by cases c <;> simp [aH] at h
 | .oslice _ _ _ _,c,h=>by cases c <;> simp [aH] at h
 | .sref _ _ _ _ _,c,h=>by cases c <;> simp [aH] at h
 | .pval _,c,h=>by cases c <;> simp [aH] at h
 | .ptr _ _,c,h=>by cases c <;> simp [aH] at h
 | .eptr _ _ _ _ _,c,h=>by cases c <;> simp [aH] at h
 | .func _ _ _,c,h=>by cases c <;> simp [aH] at h
 | .iface _ _,c,h=>by cases c <;> simp [aH] at h
 | .map _,c,h=>by cases c <;> simp [aH] at h
 | .opt _ _,c,h=>by cases c <;> simp [aH] at h
 | .mint _,c,h=>by cases c <;> simp [aH] at h
 | .iter _,c,h=>by cases c <;> simp [aH] at h
 | .yieldf _,c,h=>by cases c <;> simp [aH] at h
theorem fw {s:St}:∀ {cs:List aa} {vs:List Value},bg cs vs = true → ∀ j (h1:j < cs.length) (h2:j < vs.length),Rv s cs[j] vs[j]
 | [],_,_,j,h1,_=>by simp at h1
 | a :: r,[],h,_,_,_=>by simp [bg] at h
 | a :: r,b :: t,h,0,_,_=>by simp only [bg,Bool.and_eq_true] at h; exact b8 h.1
 | a :: r,b :: t,h,j + 1,h1,h2=>by
  simp only [bg,Bool.and_eq_true] at h;have:=fw (s:=s) h.2 j (by simpa using h1) (by simpa using h2);simpa using this
end
def aD:ay → Operand → Bool
 | .t n, .tmp m=>n == m
 | .c v, .const u=>aH v u
 | .f n, .func m=>n == m
 | _,_=>false
def ea:Option TypeDesc → Option Bool
 | some (.struct _) | some (.array _ _)=>some true
 | some _=>some false
 | none=>none
def kOk (P:Program) (t:TypeId) (k:Option Nat):Bool:=
 match ea (P.underlying t),k with
 | some true,some n=>P.cellsOf t == n && (P.info? t).isSome
 | some false,none=>(P.info? t).isSome
 | _,_=>false
def dh:List ay → List Operand → Bool
 | [],[]=>true
 | a :: r,b :: t=>aD a b && dh r t
 | _,_=>false
def dz (P:Program) (t:TypeId) (z:List aa):Bool:=
 match (P.info? t).bind (·.zero) with
 | some v=>bg z v.cells.toList
 | none=>false
def ib (P:Program) (t:TypeId) (i:Nat):Option (Nat × Nat):=
 match P.underlying t with
 | some (.struct fs)=>(fs[i]?).map fun f=>(f.offset,P.cellsOf f.type)
 | some (.array _ e)=>some (i * P.cellsOf e,P.cellsOf e)
 | _=>none
def eE (P:Program) (t:TypeId):List (Nat × Nat × ay) → List (Nat × Operand) → Bool
 | [],[]=>true
 | (off,sz,x) :: r,(i,y) :: q=>ib P t i == some (off,sz) && aD x y && eE P t r q
 | _,_=>false
def gV (P:Program) (t:TypeId):Bool:=
 match P.underlying t with
 | some (.struct fs)=>fs.toList.all fun f=>(P.info? f.type).isSome
 | some (.array _ e)=>(P.info? e).isSome
 | _=>false
def eW (g:TypeId → Option (List LK)):List Field → Nat → Option (List LK)
 | [],_=>some []
 | f :: r,o=>
  if f.name ≠ "_" ∧ f.offset = o then
   match g f.type with
   | some l=>if l.length = 0 then none else match eW g r (o + l.length) with
    | some l'=>some (l ++ l')
    | none=>none
   | none=>none
  else none
def fe (P:Program):Nat → TypeId → Option (List LK)
 | 0,_=>none
 | d + 1,t=>
  match P.underlying t with
  | some .bool=>if kOk P t none then some [.b] else none
  | some .string=>if kOk P t none then some [.s] else none
  | some (.int _)=>if kOk P t none then some [.i] else none
  | some (.struct fs)=>
   if P.stoodInHeld t then none else
   match eW (fe P d) fs.toList 0 with
   | some l=>if kOk P t (some l.length) then some l else none
   | none=>none
  | _=>none
def eqFields (P:Program) (d:Nat) (fs:List Field) (o:Nat):Option (List LK):=eW (fe P d) fs o
theorem jx (P:Program) (d:Nat) (fs:List Field) (o:Nat):eW (fe P d) fs o = eqFields P d fs o:=rfl
def jh (P:Program) (t:TypeId) (n:Nat):Bool:=
 match (P.info? t).bind (·.zero) with
 | some v=>v.cells.size == n
 | none=>false
def fX:List (Nat × ay) → List (Nat × Operand) → Bool
 | [],[]=>true
 | (i,x) :: r,(j,y) :: q=>i == j && aD x y && fX r q
 | _,_=>false
def dk:Option ay → Option Operand → Bool
 | none,none=>true
 | some x,some y=>aD x y
 | _,_=>false
def eN:TypeDesc → Option LK
 | .int _=>some .i
 | .string=>some .s
 | .bool=>some .b
 | _=>none
def df (P:Program) (t:TypeId):Bool:=match P.underlying t with
 | some (.struct fs)=>match fs.toList with
  | [f, g] => decide (f.name ≠ "_") && decide (g.name ≠ "_") && decide (f.offset = 0) && decide (g.offset = 1) && kOk P f.type none && kOk P g.type none &&
    (match P.underlying f.type with | some (.int _)=>true | _=>false) && (match P.underlying g.type with | some (.int _)=>true | _=>false) && decide (fe P 20 t = some [.i, .i]) && kOk P t (some 2)
  | _=>false
 | _=>false
def zeroV (P:Program) (t:TypeId) (z:aa):Bool:=
 match (P.info? t).bind (·.zero) with
 | some v=>aH z v
 | none=>false
def aK (P : Program) (i : AI) (o : Op) : Bool :=
 match i with
 | .mv x=>match o with
  | .move y=>aD x y
  | .assign y=>aD x y
  | _=>false
 | .pick c x y=>match o with
  | .pick c' x' y'=>aD c c' && aD x x' && aD y y'
  | _=>false
 | .alloc z=>match o with
  | .alloc t=>dz P t (z.map aa.fm)
  | _=>false
 | .box n x=>match o with
  | .box t y=>P.cellsOf t == n && aD x y
  | _=>false
 | .loadd k x=>match o with
  | .load t y=>kOk P t k && aD x y
  | _=>false
 | .mvd x=>match o with
  | .move y=>aD x y
  | .assign y=>aD x y
  | _=>false
 | .pbox n x=>match o with
  | .box t y=>P.cellsOf t == n && aD x y
  | _=>false
 | .build z ps=>match o with
  | .build t parts=>dz P t z && gV P t && eE P t ps parts.toList
  | _=>false
 | .load k x=>match o with
  | .load t y=>kOk P t k && aD x y
  | _=>false
 | .store sz x v=>match o with
  | .store t y u=>P.cellsOf t == sz && (P.info? t).isSome && aD x y && aD v u
  | _=>false
 | .nilchk x=>match o with
  | .nilCheck y=>aD x y
  | _=>false
 | .bin op x y=>match o with
  | .binOp op' _ a b _=>decide (op = op') && aD x a && aD y b
  | _=>false
 | .un op x=>match o with
  | .unOp op' _ a=>decide (op = op') && aD x a
  | _=>false
 | .eqb neg x y=>match o with
  | .binOp op t a b _=>decide (op = if neg then BinOp.neq else BinOp.eql) && (match P.underlying t with | some .bool=>true | _=>false) && aD x a && aD y b
  | _=>false
 | .eqa neg ks x y=>match o with
  | .binOp op t a b _=>decide (op = if neg then BinOp.neq else BinOp.eql) && decide (fe P 20 t = some ks) && kOk P t (some ks.length) && !P.eqGuardType P.depth t && aD x a && aD y b
  | _=>false
 | .isnil neg x=>match o with
  | .binOp op t a (.const .nilIface) _=>decide (op = if neg then BinOp.neq else BinOp.eql) && (match P.underlying t with | some (.interface _)=>true | _=>false) && aD x a
  | _=>false
 | .conv k x=>match o with
  | .convert src dst y=>(P.underlying src).isSome && (match P.underlying dst with | some (.int k')=>decide (k = k') | _=>false) && aD x y
  | _=>false
 | .convs x=>match o with
  | .convert src dst y=>(P.underlying src).isSome && (match P.underlying dst with | some .string=>true | _=>false) && aD x y
  | _=>false
 | .mkfunc fn first caps=>match o with
  | .makeFunc fn' a b=>decide (fn = fn') && dh first a.toList && dh caps b.toList
  | _=>false
 | .fieldAddr k off x=>match o with
  | .fieldAddr t y f=>match P.underlying t with
   | some (.struct fs)=>match fs[f]? with
    | some fd=>fd.offset == off && kOk P fd.type k && P.cellsOf fd.type != 0 && aD x y
    | none=>false
   | _=>false
  | _=>false
 | .field k off x=>match o with
  | .field t y f=>match P.underlying t with
   | some (.struct fs)=>match fs[f]? with
    | some fd=>fd.offset == off && kOk P fd.type k && aD x y
    | none=>false
   | _=>false
  | _=>false
 | .ixS sz x y=>match o with
  | .indexAddr t a b=>match P.underlying t with
   | some (.slice e)=>P.cellsOf e == sz && (P.info? e).isSome && aD x a && aD y b
   | _=>false
  | _=>false
 | .ixA m sz k x y=>match o with
  | .indexAddr t a b=>match P.underlying t with
   | some (.array n e)=>n == m && P.cellsOf e == sz && kOk P e k && aD x a && aD y b
   | _=>false
  | _=>false
 | .ixV m sz k x y=>match o with
  | .index t a b=>match P.underlying t with
   | some (.array n e)=>n == m && P.cellsOf e == sz && kOk P e k && aD x a && aD y b
   | _=>false
  | _=>false
 | .ixStr x y=>match o with
  | .index t a b=>match P.underlying t with
   | some .string=>aD x a && aD y b
   | _=>false
  | _=>false
 | .extract x j=>match o with
  | .extract y j'=>j == j' && aD x y
  | _=>false
 | .len x=>match o with
  | .call c=>match c.callee with
   | .builtin .len=>match c.args.toList,c.argTypes.toList with
    | [y],[t]=>(match P.underlying t with | some (.slice _)=>true | _=>false) && aD x y
    | _,_=>false
   | _=>false
  | _=>false
 | .lenStr x=>match o with
  | .call c=>match c.callee with
   | .builtin .len=>match c.args.toList,c.argTypes.toList with
    | [y],[t]=>(match P.underlying t with | some .string=>true | _=>false) && aD x y
    | _,_=>false
   | _=>false
  | _=>false
 | .lenA n x=>match o with
  | .call c=>match c.callee with
   | .builtin .len=>match c.args.toList,c.argTypes.toList with
    | [y],[t]=>(match P.underlying t with | some (.array m _)=>m == n | _=>false) && aD x y
    | _,_=>false
   | _=>false
  | _=>false
 | .mx l=>match o with
  | .call c=>match c.callee with
   | .builtin .max=>dh l c.args.toList
   | _=>false
  | _=>false
 | .mn l=>match o with
  | .call c=>match c.callee with
   | .builtin .min=>dh l c.args.toList
   | _=>false
  | _=>false
 | .mkiface t x=>match o with
  | .makeInterface t' y=>t == t' && (match P.underlying t with | some (.interface _) | none=>false | _=>true) && aD x y
  | _=>false
 | .assert t x=>match o with
  | .typeAssert y _ t' ok=>!ok && t == t' && (match P.underlying t with | some (.interface _) | none=>false | _=>true) && aD x y
  | _=>false
 | .buildm z ps=>match o with
  | .build t parts=>dz P t (z.map aa.fm) && gV P t && eE P t ps parts.toList
  | _=>false
 | .storem _ x=>match o with
  | .store t y (.const (.slice none 0 0))=>P.cellsOf t == 1 && (P.info? t).isSome && aD x y
  | _=>false
 | .nilS _ _=>match o with
  | .move (.const (.slice none 0 0))=>true
  | .assign (.const (.slice none 0 0))=>true
  | _=>false
 | .lit _ sz n ps=>match o with
  | .buildSlice t n' parts=>match P.underlying t with
   | some (.slice e)=>P.cellsOf e == sz && (P.info? e).isSome && n == n' && decide (n * sz ≤ 2 ^ 24) && decide (0 < sz) && jh P e sz && fX ps parts.toList
   | _=>false
  | _=>false
 | .append sz bytes x y=>match o with
  | .call c=>match c.callee with
   | .builtin .append=>match c.args.toList,c.argTypes.toList with
    | [x',y'],[t,tx]=>match P.underlying t,P.underlying tx with
     | some (.slice e),some (.slice _)=>P.cellsOf e == sz && decide (0 < sz) && (match P.info? e with | some i=>i.bytes == bytes && (match i.zero with | some z=>z.cells.size == sz | none=>false) && i.size == sz && decide (0 < bytes) | none=>false) && aD x x' && aD y y'
     | _,_=>false
    | _,_=>false
   | _=>false
  | _=>false
 | .sub _ sz x lo hi mx=>match o with
  | .slice t x' lo' hi' mx'=>match P.underlying t with
   | some (.slice e)=>P.cellsOf e == sz && decide (0 < sz) && (P.info? e).isSome && aD x x' && dk lo lo' && dk hi hi' && dk mx mx' && (!mx.isSome || hi.isSome)
   | _=>false
  | _=>false
 | .subq sz x lo hi=>match o with
  | .slice t x' lo' hi' none=>match P.underlying t with
   | some (.slice e)=>P.cellsOf e == sz && (P.info? e).isSome && aD x x' && dk lo lo' && dk hi hi'
   | _=>false
  | _=>false
 | .subStr x lo hi=>match o with
  | .slice t x' lo' hi' none=>match P.underlying t with
   | some .string=>aD x x' && dk lo lo' && dk hi hi'
   | _=>false
  | _=>false
 | .range x=>match o with
  | .range t y=>(match P.underlying t with | some .string=>true | _=>false) && aD x y
  | _=>false
 | .next x=>match o with
  | .next y true=>aD x y
  | _=>false
 | .freeze _ x=>match o with
  | .move y=>aD x y
  | .assign y=>aD x y
  | _=>false
 | .mksl _ sz bytes z n c=>match o with
  | .makeSlice t n' c'=>match P.underlying t with
   | some (.slice e)=>P.cellsOf e == sz && decide (0 < sz) && (match P.info? e with | some i=>i.bytes == bytes && i.size == sz && (match i.zero with | some v=>v.cells.size == sz && aH z v | none=>false) | none=>false) && aD n n' && aD c c'
   | _=>false
  | _=>false
 | .clear sz z x=>match o with
  | .call c=>match c.callee with
   | .builtin .clear=>match c.args.toList,c.argTypes.toList with
    | [x'],[t]=>match P.underlying t with
     | some (.slice e)=>decide (0 < sz) && (match P.info? e with | some i=>i.size == sz && (match i.zero with | some v=>v.cells.size == sz && aH z v | none=>false) | none=>false) && aD x x'
     | _=>false
    | _,_=>false
   | _=>false
  | _=>false
 | .copyB sz x y=>match o with
  | .call c=>match c.callee with
   | .builtin .copy=>match c.args.toList,c.argTypes.toList with
    | [x',y'],[t,tx]=>match P.underlying t,P.underlying tx with
     | some (.slice e),some (.slice _)=>P.cellsOf e == sz && decide (0 < sz) && (P.info? e).isSome && aD x x' && aD y y'
     | _,_=>false
    | _,_=>false
   | _=>false
  | _=>false
 | .subO sz x lo=>match o with
  | .slice t x' (some lo') none none=>match P.underlying t with
   | some (.slice e)=>P.cellsOf e == sz && decide (0 < sz) && (P.info? e).isSome && aD x x' && aD lo lo'
   | _=>false
  | _=>false
 | .snil neg x=>match o with
  | .binOp op t a (.const (.slice none 0 0)) _=>decide (op = if neg then BinOp.neq else BinOp.eql) && (match P.underlying t with | some (.slice _)=>true | _=>false) && aD x a
  | _=>false
 | .gix g x=>match o with
  | .indexAddr t (.global g') y=>g == g' && (match P.underlying t with
   | some (.array n e)=>n == (fx g bP).length && P.cellsOf e == 1 && (P.info? e).isSome
   | _=>false) && aD x y
  | _=>false
 | .mnew=>match o with
  | .makeMap t r=>(match P.underlying t with | some (.map _ _)=>true | _=>false) && (match r with | none=>true | some (.const (.int _ _))=>true | _=>false)
  | _=>false
 | .mget ok lk z x i=>match o with
  | .lookup t x' i' ok'=>match P.underlying t with
   | some (.map k e)=>decide (ok = ok') && decide ((P.underlying k).bind eN = some lk) && zeroV P e z && aD x x' && aD i i'
   | _=>false
  | _=>false
 | .lookup ok z x i=>match o with
  | .lookup t x' i' ok'=>match P.underlying t with
   | some (.map k e)=>decide (ok = ok') && df P k && zeroV P e z && aD x x' && aD i i'
   | _=>false
  | _=>false
 | .ment z x k=>match o with
  | .mapEntry t x' k'=>match P.underlying t with
   | some (.map kt e)=>df P kt && zeroV P e z && aD x x' && aD k k'
   | _=>false
  | _=>false
 | .estore x s v=>match o with
  | .entryStore _ x' s' v'=>aD x x' && aD s s' && aD v v'
  | _=>false
 | .mgetp ok z x i=>match o with
  | .lookup t x' i' ok'=>match P.underlying t with
   | some (.map k e)=>decide (ok = ok') && df P k && zeroV P e z && aD x x' && aD i i'
   | _=>false
  | _=>false
 | .msetp x k v=>match o with
  | .insert t x' k' v'=>match P.underlying t with
   | some (.map kt _)=>df P kt && aD x x' && aD k k' && aD v v'
   | _=>false
  | .mapUpdate t x' k' v'=>match P.underlying t with
   | some (.map kt _)=>df P kt && aD x x' && aD k k' && aD v v'
   | _=>false
  | _=>false
 | .mset lk x k v=>match o with
  | .insert t x' k' v'=>match P.underlying t with
   | some (.map kt _)=>decide ((P.underlying kt).bind eN = some lk) && aD x x' && aD k k' && aD v v'
   | _=>false
  | .mapUpdate t x' k' v'=>match P.underlying t with
   | some (.map kt _)=>decide ((P.underlying kt).bind eN = some lk) && aD x x' && aD k k' && aD v v'
   | _=>false
  | _=>false
 | .panic x=>match o with
  | .panic y=>aD x y
  | _=>false
 | .allocB=>match o with
  | .alloc t=>t == ku.1 && dz P t [.nilptr, .slice 1 []]
  | _=>false
 | .jB bytes x y=>match o with
  | .call c=>match c.callee with
   | .builtin .append=>match c.args.toList,c.argTypes.toList with
    | [x',y'],[t,tx]=>match P.underlying t,P.underlying tx with
     | some (.slice e),some .string=>(match P.info? e with | some i=>i.bytes == bytes && (match i.zero with | some z=>z.cells.size == 1 | none=>false) && i.size == 1 && decide (0 < bytes) | none=>false) && aD x x' && aD y y'
     | _,_=>false
    | _,_=>false
   | _=>false
  | _=>false
 | .b2s x=>match o with
  | .convert src dst y=>(match P.underlying src with | some (.slice e)=>(match P.underlying e with | some (.int .u8)=>true | _=>false) | _=>false) && (match P.underlying dst with | some .string=>true | _=>false) && aD x y
  | _=>false
 | .subA n sz x=>match o with
  | .slice t y none none none=>match P.underlying t with
   | some (.array m e)=>n == m && P.cellsOf e == 1 && sz == 1 && (P.info? e).isSome && aD x y
   | _=>false
  | .slice t y (some (.const (.int .i64 k))) none none=>match P.underlying t with
   | some (.array m e)=>n == m && P.cellsOf e == sz % 1000 && decide (2 ≤ sz) && decide (k = ((sz / 1000:Nat):Int)) && (P.info? e).isSome && aD x y
   | _=>false
  | _=>false
 | .other=>match o with
  | .defer _=>false
  | _=>true
 | .callA _ f _ args=>match o with
  | .call c=>match c.callee with
   | .value g=>aD f g && dh args c.args.toList
   | _=>false
  | _=>false
 | .call f _ args=>match o with
  | .call c=>match c.callee with
   | .value g=>aD f g && dh args c.args.toList
   | _=>false
  | _=>false
 | _=>false
def dP (s:St) (ρ:ay → aa) (ρ':Operand → Value):Prop:=∀ x y,aD x y = true → Rv s (ρ x) (ρ' y)
section run
variable {P:Program} {s:St} {ρ:ay → aa} {ρ':Operand → Value}
theorem nn {t:TypeId} (h:ea (P.underlying t) = some true) (w:World):(isAgg t).run P w = .ok true w:=by
 unfold isAgg
 cases hu:P.underlying t with
 | none=>simp [hu,ea] at h
 | some d=>cases d <;> simp [hu,ea] at h <;> simp [underlying,hu]
theorem lO {t:TypeId} (h:ea (P.underlying t) = some false) (w:World):(isAgg t).run P w = .ok false w:=by
 unfold isAgg
 cases hu:P.underlying t with
 | none=>simp [hu,ea] at h
 | some d=>cases d <;> simp [hu,ea] at h <;> simp [underlying,hu]
theorem aG {t:TypeId} (h:(P.info? t).isSome = true) (w:World):(sizeOf t).run P w = .ok (P.cellsOf t) w:=by
 unfold sizeOf typeInfo Program.cellsOf;obtain ⟨i,hi⟩:=Option.isSome_iff_exists.1 h;simp [hi]
theorem ah {t:TypeId} {d:TypeDesc} (h:P.underlying t = some d) (w:World):(underlying t).run P w = .ok d w:=by
 simp [underlying,h]
theorem bT {v:aa} {c:Value} (h:Rv s v c) (hs:v.cP = true):c.cells = #[c]:=by
 cases h <;> first | rfl | (simp [aa.cP] at hs; done) | (rename_i h _; cases h <;> rfl)
theorem GN {v:aa} {c:Value} (h:Rv s v c) (hs:v.cP = true):c.oneCell' = true:=by
 cases h <;> first | rfl | (simp [aa.cP] at hs; done) | (rename_i h _; cases h <;> rfl)
theorem Rv.dw {cs:List aa} {c:Value} (h:Rv s (.agg cs) c):∃ vs:Array Value,c = .agg vs ∧ vs.size = cs.length ∧ ∀ j (h1:j < cs.length) (h2:j < vs.size),Rv s cs[j] vs[j]:=by
 cases h with
 | agg _ vs hl h=>exact ⟨vs,rfl,hl,h⟩
theorem addr_add (blk off n:Nat):(⟨blk,off,none⟩:Addr).add n = ⟨blk,off + n,none⟩:=by
 unfold Addr.add; split
 ·rename_i h; subst h; rfl
 ·rfl
theorem mf {k:Option Nat} {cs:List aa} {off:Nat} {vs:Array Value} (hl:vs.size = cs.length) (h:∀ j (h1:j < cs.length) (h2:j < vs.size),Rv s cs[j] vs[j])
  (ho:b7 k cs off):∃ u:Value,Rv s (eO k cs off) u ∧ (match k with | none=>vs[off]? = some u | some n=>u = Value.agg (vs.extract off (off + n))):=by
 cases k with
 | none=>
  obtain ⟨h1,h2⟩:=ho;have h3:off < vs.size:=by omega
  refine ⟨vs[off], ?_,by simp [h3]⟩;have:=h off h1 h3;simpa [eO,List.getD,List.getElem?_eq_getElem h1] using this
 | some n=>
  simp only [b7] at ho;refine ⟨Value.agg (vs.extract off (off + n)),Rv.agg _ _ (by simp; omega) (fun j h1 h2=>?_),rfl⟩;simp only [List.length_take,List.length_drop] at h1;have:=h (off + j) (by omega) (by omega);simpa using this
end run
end Go.AM
