/- The instructions of our walk, and what each computes on abstract values. No program is named here. When an instruction of ours stands for an operation of the program (checked by the kernel, P: any .. -/
import Derived.Test.YtlmhkldmpggadaaGreatDoorP1
import Derived.Laws.Cells
import Derived.WalkKit
namespace Go.AM
inductive aO where
 | t (n:Nat)
 | c (v:ag)
 | f (n:Nat)
 deriving Inhabited
inductive LK where
 | b | i | s
 deriving DecidableEq,Inhabited
inductive AI where
 | mv (x:aO)
 | pick (c a b:aO)
 | alloc (z:List ag)
 | box (n:Nat) (x:aO)
 | pbox (n:Nat) (x:aO)
 | loadd (k:Option Nat) (x:aO)
 | mvd (x:aO)
 | build (z:List ag) (parts:List (Nat × Nat × aO))
 | lit (m:Nat) (sz n:Nat) (parts:List (Nat × aO))
 | load (k:Option Nat) (x:aO)
 | store (sz:Nat) (x v:aO)
 | nilchk (x:aO)
 | bin (op:BinOp) (x y:aO)
 | eqb (neg:Bool) (x y:aO)
 | eqa (neg:Bool) (ks:List LK) (x y:aO)
 | un (op:UnOp) (x:aO)
 | conv (k:IntKind) (x:aO)
 | convs (x:aO)
 | mkfunc (fn:Fn) (first caps:List aO)
 | fieldAddr (k:Option Nat) (off:Nat) (x:aO)
 | field (k:Option Nat) (off:Nat) (x:aO)
 | ixS (sz:Nat) (x i:aO)
 | ixA (len sz:Nat) (k:Option Nat) (x i:aO)
 | ixV (len sz:Nat) (k:Option Nat) (x i:aO)
 | ixStr (x i:aO)
 | extract (x:aO) (i:Nat)
 | len (x:aO)
 | lenStr (x:aO)
 | lenA (n:Nat) (x:aO)
 | mx (l:List aO)
 | mn (l:List aO)
 | sub (m:Nat) (sz:Nat) (x:aO) (lo hi mx:Option aO)
 | subStr (x:aO) (lo hi:Option aO)
 | subq (sz:Nat) (x:aO) (lo hi:Option aO)
 | append (sz bytes:Nat) (x y:aO)
 | call (f:aO) (dn:List Bool) (args:List aO)
 | panic (x:aO)
 | mkiface (t:TypeId) (x:aO)
 | assert (t:TypeId) (x:aO)
 | range (x:aO)
 | next (x:aO)
 | mkmap
 | lookup (ok:Bool) (z:ag) (x i:aO)
 | mapset (x k v:aO)
 | mksl (m sz bytes:Nat) (z:ag) (n c:aO)
 | clear (sz:Nat) (z:ag) (x:aO)
 | copyB (sz:Nat) (x y:aO)
 | freeze (sz:Nat) (x:aO)
 | nilS (m sz:Nat)
 | buildm (z:List ag) (ps:List (Nat × Nat × aO))
 | storem (sz:Nat) (x:aO)
 | subO (sz:Nat) (x lo:aO)
 | isnil (neg:Bool) (x:aO)
 | callA (sz:Nat) (f:aO) (dn:List Bool) (args:List aO)
 | gix (g:Nat) (x:aO)
 | snil (neg:Bool) (x:aO)
 | mnew
 | mget (ok:Bool) (lk:LK) (z:ag) (x i:aO)
 | mset (lk:LK) (x k v:aO)
 | mgetp (ok:Bool) (z:ag) (x i:aO)
 | msetp (x k v:aO)
 | ment (z:ag) (x k:aO)
 | estore (x s v:aO)
 | allocB
 | appS (bytes:Nat) (x y:aO)
 | b2s (x:aO)
 | subA (n sz:Nat) (x:aO)
 | other
 deriving Inhabited
structure aL where
 d:Option Nat
 g:Option (Nat × Bool)
 i:AI
 deriving Inhabited
def Env.put (e:Env) (d:Option Nat) (v:ag):Env:=
 match d with
 | some d=>(d,v) :: e
 | none=>e
def Env.only (e:Env):List Nat → Env
 | []=>[]
 | n :: r=>(n,e.get n) :: Env.only e r
def ag.strip:ag → ag
 | .opt _ v=>v
 | v=>v
def ag.cond:ag → Bool
 | .opt g _=>g
 | _=>true
def opv (e:Env):aO → ag
 | .t n=>(e.get n).strip
 | .c v=>v
 | .f n=>.func (.func n) [] []
def opg (e:Env):aO → Bool
 | .t n=>(e.get n).cond
 | _=>true
def AI.opers:AI → List aO
 | .b2s x | .subA _ _ x | .mv x | .box _ x | .pbox _ x | .loadd _ x | .mvd x | .load _ x | .nilchk x | .un _ x | .conv _ x | .convs x | .fieldAddr _ _ x | .field _ _ x | .extract x _ | .len x | .lenStr x | .panic x | .mkiface _ x | .assert _ x | .range x | .next x | .freeze _ x | .clear _ _ x | .isnil _ x | .gix _ x | .snil _ x=>[x]
 | .lenA _ _ | .allocB | .alloc _ | .mkmap | .mnew | .nilS _ _ | .other=>[]
 | .pick c _ _=>[c]
 | .build _ ps=>ps.map (·.2.2)
 | .buildm _ ps=>ps.map (·.2.2)
 | .storem _ x=>[x]
 | .lit _ _ _ ps=>ps.map (·.2)
 | .appS _ x y | .store _ x y | .bin _ x y | .eqb _ x y | .eqa _ _ x y | .ixS _ x y | .ixA _ _ _ x y | .ixV _ _ _ x y | .ixStr x y | .append _ _ x y | .lookup _ _ x y | .subO _ x y | .mget _ _ _ x y | .mgetp _ _ x y | .ment _ x y | .mksl _ _ _ _ x y | .copyB _ x y=>[x,y]
 | .mkfunc _ a b=>a ++ b
 | .mx l | .mn l=>l
 | .sub _ _ x a b c=>x :: (a.toList ++ b.toList ++ c.toList)
 | .subStr x a b | .subq _ x a b=>x :: (a.toList ++ b.toList)
 | .call f _ l | .callA _ f _ l=>f :: l
 | .mapset x k v | .mset _ x k v | .msetp x k v | .estore x k v=>[x,k,v]
def jR (k:Option Nat) (cs:List ag) (off:Nat):ag:=
 match k with
 | none=>cs.getD off .undef
 | some n=>.agg ((cs.drop off).take n)
def fD (k:Option Nat) (cs:List ag) (off:Nat):Prop:=
 match k with
 | none=>off < cs.length ∧ (cs.getD off .undef).gJ = true
 | some n=>off + n ≤ cs.length
def putCells (cs:List ag) (off:Nat):List ag → List ag
 | []=>cs
 | v :: r=>putCells (cs.set off v) (off + 1) r
def af.get (σ:af) (b:Nat):cq:=σ.getD b .dead
def ag.I9:ag → Bool
 | .agg _=>true
 | v=>v.gJ
def o8 (k:Option Nat) (σ:af):ag → ag
 | .pval v=>v
 | .ptr b off=>match σ.get b with
  | .box cs=>jR k cs off
  | _=>.undef
 | .eptr _ b i f _=>match σ.get b with
  | .arr _ xs=>jR k (xs.getD i .undef).cells f
  | _=>.undef
 | _=>.undef
def iC (k:Option Nat) (σ:af):ag → Prop
 | .pval v=>match k with
  | none=>v.gJ = true
  | some n=>match v with
   | .agg cs=>cs.length = n
   | _=>False
 | .ptr b off=>match σ.get b with
  | .box cs=>fD k cs off
  | _=>False
 | .eptr sz b i f n=>match σ.get b with
  | .arr sz' xs=>sz' = sz ∧ xs.length = n ∧ i < n ∧ (xs.getD i .undef).I9 = true ∧ fD k (xs.getD i .undef).cells f
  | _=>False
 | _=>False
def fM:List ag → Bool
 | []=>true
 | v :: r=>v.gJ && fM r
def cB (v:ag) (n:Nat):Prop:=
 match v with
 | .agg cs=>cs.length = n
 | v=>v.gJ = true ∧ n = 1
def tp (z:List ag):List (Nat × List ag) → List ag
 | []=>z
 | (off,cs) :: r=>tp (putCells z off cs) r
def ir (n:Nat) (ρ:aO → ag):List (Nat × Nat × aO) → Prop
 | []=>True
 | (off,sz,x) :: r=>cB (ρ x) sz ∧ off + sz ≤ n ∧ ir n ρ r
def iE (ρ:aO → ag) (z:List ag):List (Nat × aO) → List ag
 | []=>z
 | (i,x) :: r=>iE ρ (z.set i (ρ x)) r
def jy (sz n:Nat) (ρ:aO → ag):List (Nat × aO) → Prop
 | []=>True
 | (i,x) :: r=>i < n ∧ cB (ρ x) sz ∧ jy sz n ρ r
def gz:ag → ag → Bool
 | .int _ a, .int _ b=>a == b
 | .str a, .str b=>a == b
 | .bool a, .bool b=>a == b
 | _,_=>false
def ga:LK → ag → ag → Bool
 | .i, .int j _, .int k _=>j == k
 | .s, .str _, .str _=>true
 | .b, .bool _, .bool _=>true
 | _,_,_=>false
def dB:List ag → List ag → Bool
 | x :: r,y :: t=>gz x y && dB r t
 | _,_=>true
def bN:List LK → List ag → List ag → Bool
 | [],[],[]=>true
 | k :: l,x :: r,y :: t=>ga k x y && bN l r t
 | _,_,_=>false
def KZ (op:BinOp) (k:IntKind) (a b:Int):Int:=
 match op with
 | .and=>k.wrap (BitVec.ofInt k.bits a &&& BitVec.ofInt k.bits b).toNat
 | .or=>k.wrap (BitVec.ofInt k.bits a ||| BitVec.ofInt k.bits b).toNat
 | .xor=>k.wrap (BitVec.ofInt k.bits a ^^^ BitVec.ofInt k.bits b).toNat
 | _=>k.wrap (BitVec.ofInt k.bits a &&& ~~~ (BitVec.ofInt k.bits b)).toNat
/-! The same, where both numbers are known: else the kernel would compute with unknown bits, and end in a depth. -/
def K7 (op:BinOp):Nat → IntKind → Int → Int → Int
 | 0=>KZ op
 | _ + 1=>KZ op
def PV (op:BinOp):Nat → Nat → IntKind → Int → Int → Int
 | 0=>K7 op
 | _ + 1=>K7 op
def DH (op:BinOp) (k:IntKind) (a b:Int):Int:=PV op a.natAbs b.natAbs k a b
theorem Kd (op:BinOp) (k:IntKind) (a b:Int):DH op k a b = KZ op k a b:=by
 unfold DH;cases a.natAbs <;> cases b.natAbs <;> rfl
def arith (op:BinOp) (k:IntKind) (a b:Int):ag:=
 match op with
 | .add=>.int k (k.wrap (a + b))
 | .sub=>.int k (k.wrap (a - b))
 | .mul=>.int k (k.wrap (a * b))
 | .quo=>.int k (k.wrap (a.tdiv b))
 | .rem=>.int k (a.tmod b)
 | .and=>.int k (DH .and k a b)
 | .or=>.int k (DH .or k a b)
 | .xor=>.int k (DH .xor k a b)
 | .andNot=>.int k (DH .andNot k a b)
 | .shl=>.int k (k.wrap (a * 2 ^ min b.toNat k.bits))
 | .shr=>.int k (a.fdiv (2 ^ min b.toNat k.bits))
 | .eql=>.bool (a == b)
 | .neq=>.bool (a != b)
 | .lss=>.bool (decide (a < b))
 | .leq=>.bool (decide (a ≤ b))
 | .gtr=>.bool (decide (a > b))
 | .geq=>.bool (decide (a ≥ b))
def AS (op:BinOp) (j k:IntKind) (b:Int):Prop:=
 match op with
 | .quo | .rem=>j = k ∧ b ≠ 0
 | .shl | .shr=>0 ≤ b
 | _=>j = k
def HO (op:BinOp) (a b:ByteArray):ag:=
 match op with
 | .add=>.str (a ++ b)
 | .eql=>.bool (a.toList == b.toList)
 | .neq=>.bool (!(a.toList == b.toList))
 | .lss=>.bool (Op.bytesLess a.toList b.toList)
 | .leq=>.bool (Op.bytesLess a.toList b.toList || a.toList == b.toList)
 | .gtr=>.bool (!(Op.bytesLess a.toList b.toList || a.toList == b.toList))
 | .geq=>.bool (!Op.bytesLess a.toList b.toList)
 | _=>.undef
def Aa (op:BinOp) (a b:ByteArray):Prop:=
 match op with
 | .add=>((a.size + b.size:Nat):Int) ≤ IntKind.i64.max
 | .eql | .neq | .lss | .leq | .gtr | .geq=>True
 | _=>False
def IK (op:BinOp):ag → ag → ag
 | .int k a, .int _ b=>arith op k a b
 | .str a, .str b=>HO op a b
 | _,_=>.undef
def Cs (op:BinOp):ag → ag → Prop
 | .int j _, .int k b=>AS op j k b
 | .str a, .str b=>Aa op a b
 | _,_=>False
def unV (op:UnOp):ag → ag
 | .bool b=>match op with
  | .not=>.bool (!b)
  | _=>.undef
 | .int k n=>match op with
  | .neg=>.int k (k.wrap (0 - n))
  | .xor=>.int k (k.wrap (BitVec.ofInt k.bits (if k.signed then -1 else k.max) ^^^ BitVec.ofInt k.bits n).toNat)
  | _=>.undef
 | _=>.undef
def IM (op:UnOp):ag → Prop
 | .bool _=>match op with
  | .not=>True
  | _=>False
 | .int _ _=>match op with
  | .neg | .xor=>True
  | _=>False
 | _=>False
def cW:ag → Int
 | .int _ n=>n
 | _=>0
def isInt:ag → Prop
 | .int _ _=>True
 | _=>False
def ag.elems (σ:af):ag → List ag
 | .slice _ xs=>xs
 | .oslice _ xs _ _=>xs
 | .sref _ b off len _=>match σ.get b with
  | .arr _ xs=>(xs.drop off).take len
  | _=>[]
 | _=>[]
def ag.jh (σ:af) (sz:Nat):ag → Prop
 | .slice sz' xs=>sz' = sz ∨ xs = []
 | .oslice sz' _ _ _=>sz' = sz
 | .sref sz' b _ _ n=>sz' = sz ∧ match σ.get b with
  | .arr sz'' xs=>sz'' = sz ∧ xs.length = n
  | _=>False
 | _=>False
def MZ:ag → ag
 | .nils _=>.int .i64 0
 | .slice _ xs=>.int .i64 xs.length
 | .oslice _ xs _ _=>.int .i64 xs.length
 | .sref _ _ _ len _=>.int .i64 len
 | _=>.undef
def JC:ag → Prop
 | .slice _ _ | .oslice _ _ _ _ | .sref _ _ _ _ _ | .nils _=>True
 | _=>False
def NO (n:Int):ag → ag
 | .slice _ xs=>.pval (xs.getD n.toNat .undef)
 | .oslice _ xs _ _=>.pval (xs.getD n.toNat .undef)
 | .sref sz b off _ m=>.eptr sz b (off + n.toNat) 0 m
 | _=>.undef
def HL (sz:Nat) (n:Int):ag → Prop
 | .slice sz' xs=>sz' = sz ∧ 0 ≤ n ∧ n < xs.length
 | .oslice sz' xs _ _=>sz' = sz ∧ 0 ≤ n ∧ n < xs.length
 | .sref sz' _ _ len _=>sz' = sz ∧ 0 ≤ n ∧ n < len
 | _=>False
def mE (k:Option Nat) (off:Nat):ag → ag
 | .pval (.agg cs)=>.pval (jR k cs off)
 | .ptr b o=>.ptr b (o + off)
 | .eptr sz b i f n=>.eptr sz b i (f + off) n
 | _=>.undef
def k6 (k:Option Nat) (off:Nat):ag → Prop
 | .pval (.agg cs)=>fD k cs off
 | .ptr _ _ | .eptr _ _ _ _ _=>True
 | _=>False
def KJ (k:Option Nat) (off:Nat):ag → ag
 | .agg cs=>jR k cs off
 | _=>.undef
def Fb (k:Option Nat) (off:Nat):ag → Prop
 | .agg cs=>fD k cs off
 | _=>False
def H3 (x:ag) (y:ag):ag:=
 match x,y with
 | .int k a, .int _ b=>.int k (if b > a then b else a)
 | _,_=>.undef
def Ha (x:ag) (y:ag):ag:=
 match x,y with
 | .int k a, .int _ b=>.int k (if b < a then b else a)
 | _,_=>.undef
def zW:List ag → Prop
 | []=>True
 | x :: r=>isInt x ∧ zW r
def aV (ρ:aO → ag) (d:Int):Option aO → Int
 | none=>d
 | some x=>cW (ρ x)
def eN (ρ:aO → ag):Option aO → Prop
 | none=>True
 | some x=>isInt (ρ x)
/-! Bytes and strings. -/
def K5 (b:UInt8):ag:=.int .u8 b.toNat
def yp (s:ByteArray):List ag:=s.data.toList.map K5
def u8s:List ag → List UInt8
 | []=>[]
 | .int _ n :: r=>UInt8.ofNat n.toNat :: u8s r
 | _ :: r=>0 :: u8s r
def zx:List ag → Bool
 | []=>true
 | .int .u8 _ :: r=>zx r
 | _=>false
def mg:List ag → Bool
 | []=>true
 | v :: r=>v.gJ && mg r
/-! Maps whose keys are pairs of numbers. -/
def iY:ag → ag → Bool
 | .agg [.int .i64 _, .int .i64 _], .agg [.int .i64 _, .int .i64 _]=>true
 | _,_=>false
def gH:ag → ag → Bool
 | .agg [.int _ a, .int _ b], .agg [.int _ c, .int _ d]=>a == c && b == d
 | _,_=>false
def gr (k:ag):List (ag × ag) → Bool
 | []=>true
 | e :: r=>iY k e.1 && gr k r
def b9 (k:ag):List (ag × ag) → Option ag
 | []=>none
 | e :: r=>if gH k e.1 then some e.2 else b9 k r
def bL (k v:ag):List (ag × ag) → List (ag × ag)
 | []=>[(k,v)]
 | e :: r=>if gH k e.1 then (k,v) :: r else e :: bL k v r
def dD (k:ag):List (ag × ag) → Nat → Nat
 | [],n=>n
 | e :: r,n=>if gH k e.1 then n else dD k r (n + 1)
def gZ (ok:Bool) (z:ag):Option ag → ag
 | some v=>if ok then .tup [v, .bool true] else v
 | none=>if ok then .tup [z, .bool false] else z
def AI.val (ρ:aO → ag) (σ:af):AI → ag
 | .mv x=>ρ x
 | .build z ps=>.agg (tp z (ps.map fun p=>(p.1,(ρ p.2.2).cells)))
 | .lit _ sz n ps=>.slice sz (iE ρ (List.replicate n .undef) ps)
 | .load k x=>o8 k σ (ρ x)
 | .nilchk x=>ρ x
 | .bin op x y=>IK op (ρ x) (ρ y)
 | .eqb neg x y=>match ρ x,ρ y with
  | .bool a, .bool b=>.bool (neg != (a == b))
  | _,_=>.undef
 | .eqa neg _ x y=>match ρ x,ρ y with
  | .agg a, .agg b=>.bool (neg != dB a b)
  | _,_=>.undef
 | .un op x=>unV op (ρ x)
 | .conv k x=>.int k (k.wrap (cW (ρ x)))
 | .convs x=>ρ x
 | .b2s x=>match ρ x with
  | .slice _ xs=>.str ⟨(u8s xs).toArray⟩
  | _=>.undef
 | .mkfunc fn first caps=>.func fn (first.map ρ) (caps.map ρ)
 | .fieldAddr k off x=>mE k off (ρ x)
 | .field k off x=>KJ k off (ρ x)
 | .ixS _ x i=>NO (cW (ρ i)) (ρ x)
 | .ixA _ sz k x i=>mE k ((cW (ρ i)).toNat * sz) (ρ x)
 | .ixV _ sz k x i=>KJ k ((cW (ρ i)).toNat * sz) (ρ x)
 | .ixStr x i=>match ρ x with
  | .str s=>.int .u8 (s.data.getD (cW (ρ i)).toNat 0).toNat
  | _=>.undef
 | .extract x i=>match ρ x with
  | .tup vs=>vs.getD i .undef
  | _=>.undef
 | .len x=>MZ (ρ x)
 | .lenStr x=>match ρ x with
  | .str s=>.int .i64 s.size
  | _=>.undef
 | .lenA n _=>.int .i64 n
 | .mx l=>match l.map ρ with
  | []=>.undef
  | x :: r=>r.foldl H3 x
 | .mn l=>match l.map ρ with
  | []=>.undef
  | x :: r=>r.foldl Ha x
 | .mkiface t x=>.iface t (ρ x)
 | .assert _ x=>match ρ x with
  | .iface _ v=>v
  | _=>.undef
 | .subStr x lo hi=>match ρ x with
  | .str s=>.str (s.extract (aV ρ 0 lo).toNat (aV ρ s.size hi).toNat)
  | _=>.undef
 | .subq sz x lo hi=>match ρ x with
  | .slice _ xs=>.slice sz ((xs.take (aV ρ xs.length hi).toNat).drop (aV ρ 0 lo).toNat)
  | .oslice _ xs _ _=>.slice sz ((xs.take (aV ρ xs.length hi).toNat).drop (aV ρ 0 lo).toNat)
  | _=>.undef
 | .lookup ok z x i=>match ρ x with
  | .map b=>match σ.get b with
   | .amap es=>gZ ok z (b9 (ρ i) es)
   | _=>.undef
  | _=>.undef
 | _=>.undef
def AI.side (ρ:aO → ag) (σ:af):AI → Prop
 | .mv _=>True
 | .build z ps=>ir z.length ρ ps
 | .lit m sz n ps=>m = 0 ∧ jy sz n ρ ps
 | .load k x=>iC k σ (ρ x)
 | .nilchk x=>match ρ x with
  | .pval _ | .ptr _ _ | .eptr _ _ _ _ _ | .func (.func _) _ _=>True
  | _=>False
 | .bin op x y=>Cs op (ρ x) (ρ y)
 | .eqb _ x y=>match ρ x,ρ y with
  | .bool _, .bool _=>True
  | _,_=>False
 | .eqa _ ks x y=>match ρ x,ρ y with
  | .agg a, .agg b=>bN ks a b = true
  | _,_=>False
 | .un op x=>IM op (ρ x)
 | .conv _ x=>isInt (ρ x)
 | .convs x=>match ρ x with
  | .str _=>True
  | _=>False
 | .b2s x=>match ρ x with
  | .slice sz xs=>sz = 1 ∧ zx xs = true
  | _=>False
 | .mkfunc _ _ _=>True
 | .fieldAddr k off x=>k6 k off (ρ x)
 | .field k off x=>Fb k off (ρ x)
 | .ixS sz x i=>isInt (ρ i) ∧ HL sz (cW (ρ i)) (ρ x)
 | .ixA m sz k x i=>isInt (ρ i) ∧ 0 ≤ cW (ρ i) ∧ cW (ρ i) < m ∧ k6 k ((cW (ρ i)).toNat * sz) (ρ x)
 | .ixV m sz k x i=>isInt (ρ i) ∧ 0 ≤ cW (ρ i) ∧ cW (ρ i) < m ∧ Fb k ((cW (ρ i)).toNat * sz) (ρ x)
 | .ixStr x i=>isInt (ρ i) ∧ match ρ x with
  | .str s=>0 ≤ cW (ρ i) ∧ cW (ρ i) < s.size
  | _=>False
 | .extract x i=>match ρ x with
  | .tup vs=>i < vs.length
  | _=>False
 | .len x=>JC (ρ x)
 | .lenStr x=>match ρ x with
  | .str _=>True
  | _=>False
 | .lenA _ _=>True
 | .mx l | .mn l=>l.map ρ ≠ [] ∧ zW (l.map ρ)
 | .mkiface _ _=>True
 | .assert t x=>match ρ x with
  | .iface u _=>u = t
  | _=>False
 | .subStr x lo hi=>eN ρ lo ∧ eN ρ hi ∧ match ρ x with
  | .str s=>0 ≤ aV ρ 0 lo ∧ aV ρ 0 lo ≤ aV ρ s.size hi ∧ aV ρ s.size hi ≤ s.size
  | _=>False
 | .subq sz x lo hi=>eN ρ lo ∧ eN ρ hi ∧ match ρ x with
  | .slice sz' xs=>(sz' = sz ∨ xs = []) ∧ 0 ≤ aV ρ 0 lo ∧ aV ρ 0 lo ≤ aV ρ xs.length hi ∧ aV ρ xs.length hi ≤ xs.length
  | .oslice sz' xs _ _=>sz' = sz ∧ 0 ≤ aV ρ 0 lo ∧ aV ρ 0 lo ≤ aV ρ xs.length hi ∧ aV ρ xs.length hi ≤ xs.length
  | _=>False
 | .lookup _ _ x i=>match ρ x with
  | .map b=>match σ.get b with
   | .amap es=>iY (ρ i) (ρ i) = true ∧ gr (ρ i) es = true
   | _=>False
  | _=>False
 | _=>False
def AI.plain:AI → Bool
 | .mv _ | .build _ _ | .load _ _ | .nilchk _ | .bin _ _ _ | .eqb _ _ _ | .eqa _ _ _ _ | .un _ _ | .conv _ _ | .convs _ | .b2s _ | .mkfunc _ _ _ | .fieldAddr _ _ _ | .field _ _ _ | .ixS _ _ _ | .ixA _ _ _ _ _
 | .ixV _ _ _ _ _ | .ixStr _ _ | .extract _ _ | .len _ | .lenStr _ | .lenA _ _ | .mx _ | .mn _ | .mkiface _ _ | .assert _ _ | .lookup _ _ _ _ | .subStr _ _ _ | .subq _ _ _ _=>true
 | .lit m _ _ _=>m == 0
 | _=>false
def ag.kI:ag → ag
 | .mint sz=>.slice sz []
 | v=>v
def dz:List ag → Nat → List ag × List cq
 | [],_=>([],[])
 | .mint sz :: r,n=>if sz < 1000 then (.oslice sz [] n 0 :: (dz r (n + 1)).1, .spare sz 0 :: (dz r (n + 1)).2)
   else (.sref (sz - 1000) n 0 0 0 :: (dz r (n + 1)).1, .arr (sz - 1000) [] :: (dz r (n + 1)).2)
 | v :: r,n=>(v :: (dz r n).1,(dz r n).2)
def pD (v:ag) (f:Nat) (cells:List ag):ag:=
 match v with
 | .agg cs=>.agg (putCells cs f cells)
 | _=>cells.getD 0 .undef
def pO (v:ag) (f n:Nat):Prop:=
 match v with
 | .agg cs=>f + n ≤ cs.length
 | v=>v.gJ = true ∧ f = 0 ∧ n = 1
def gu (σ:af) (sz:Nat) (v:ag):ag → Prop
 | .ptr b off=>cB v sz ∧ fM v.cells = true ∧ match σ.get b with
  | .box cs=>off + sz ≤ cs.length
  | _=>False
 | .eptr esz b i f n=>cB v sz ∧ fM v.cells = true ∧ match σ.get b with
  | .arr esz' xs=>esz' = esz ∧ xs.length = n ∧ i < n ∧ pO (xs.getD i .undef) f sz
  | _=>False
 | _=>False
def jK (σ:af) (v:ag):ag → af
 | .ptr b off=>match σ.get b with
  | .box cs=>σ.set b (.box (putCells cs off v.cells))
  | _=>σ
 | .eptr _ b i f _=>match σ.get b with
  | .arr esz xs=>σ.set b (.arr esz (xs.set i (pD (xs.getD i .undef) f v.cells)))
  | _=>σ
 | _=>σ
def Fk (c:Bool) (a b:ag):ag:=
 match a,b with
 | .bool x, .bool y=>.bool (if c = true then x else y)
 | _,_=>if c = true then a else b
def yK:ag → Bool
 | .bool b=>b
 | _=>false
def isBool:ag → Prop
 | .bool _=>True
 | _=>False
def Fits (sz:Nat) (ys:List ag):Prop:=∀ v ∈ ys,cB v sz ∧ fM v.cells = true
def j0 (sz bytes:Nat) (σ:af) (x:ag) (ys:List ag) (K:ag → af → Prop):Prop:=
 match x with
 | .nils sz'=>sz' = sz ∧ ys.length * bytes ≤ 140737488355328 ∧ K (.oslice sz ys σ.length 1) (σ ++ [.spare sz 1])
 | .oslice sz' xs b k=>sz' = sz ∧ (xs.length + ys.length) * bytes ≤ 140737488355328 ∧ match σ.get b with
  | .spare sz'' k'=>sz'' = sz ∧ k' = k ∧ K (.oslice sz (xs ++ ys) b (k + 1)) (σ.set b (.spare sz (k + 1)))
  | _=>False
 | .sref sz' b off len n=>sz' = sz ∧ match σ.get b with
  | .arr sz'' xs=>sz'' = sz ∧ xs.length = n ∧
    if off + len + ys.length ≤ n then K (.sref sz b off (len + ys.length) n) (σ.set b (.arr sz (xs.take (off + len) ++ ys ++ xs.drop (off + len + ys.length))))
    else off = 0 ∧ len = n ∧ (n + ys.length) * bytes ≤ 140737488355328 ∧ K (.sref sz b 0 (n + ys.length) (n + ys.length)) (σ.set b (.arr sz (xs ++ ys)))
  | _=>False
 | _=>False
def JL (m sz:Nat) (σ:af) (x:ag) (lo:Int) (hi:Int → Int) (mx:Option Int) (K:ag → af → Prop):Prop:=
 let go (xs:List ag):Prop:=
  0 ≤ lo ∧ lo ≤ hi xs.length ∧ (match mx with
   | none=>hi xs.length ≤ xs.length ∧ m = 0
   | some v=>hi xs.length ≤ v ∧ v ≤ xs.length ∧ (m = 1 → v = hi xs.length) ∧ (m = 2 → v = 0)) ∧
  (if m = 0 then K (.slice sz ((xs.take (hi xs.length).toNat).drop lo.toNat)) σ
  else if m = 1 then K (.oslice sz ((xs.take (hi xs.length).toNat).drop lo.toNat) σ.length 0) (σ ++ [.spare sz 0])
  else m = 2 ∧ K (.sref sz σ.length 0 0 0) (σ ++ [.arr sz []]))
 match x with
 | .slice sz' xs=>(sz' = sz ∨ xs = []) ∧ go xs
 | .oslice sz' xs _ _=>sz' = sz ∧ go xs
 | .sref sz' b off len n=>if m = 3 then (match mx with
   | some v=>0 ≤ lo ∧ lo ≤ hi len ∧ hi len ≤ v ∧ v ≤ len ∧ K .undef σ
   | none=>False)
  else sz' = sz ∧ m = 0 ∧ mx = none ∧ 0 ≤ lo ∧ lo ≤ hi len ∧ off + hi len ≤ n ∧ K (.sref sz b (off + lo.toNat) (hi len - lo).toNat n) σ
 | _=>False
def H4 (m sz bytes:Nat) (σ:af) (z:ag) (n c:Int) (K:ag → af → Prop):Prop:=
 0 ≤ n ∧ n ≤ c ∧ c * bytes ≤ 140737488355328 ∧ c ≤ 140737488355328 ∧
 (if m = 1 then n = 0 ∧ K (.oslice sz [] σ.length 0) (σ ++ [.spare sz 0])
 else if m = 2 then K (.sref sz σ.length 0 n.toNat n.toNat) (σ ++ [.arr sz (List.replicate n.toNat z)])
 else m = 0 ∧ K (.slice sz (List.replicate n.toNat z)) σ)
def D9 (sz:Nat) (σ:af) (z:ag) (x:ag) (K:ag → af → Prop):Prop:=
 match x with
 | .sref sz' b off len n=>sz' = sz ∧ cB z sz ∧ fM z.cells = true ∧ match σ.get b with
  | .arr sz'' xs=>sz'' = sz ∧ xs.length = n ∧ K (.tup []) (σ.set b (.arr sz (xs.take off ++ List.replicate len z ++ xs.drop (off + len))))
  | _=>False
 | _=>False
def JO (sz:Nat) (σ:af) (x:ag) (ys:List ag) (K:ag → af → Prop):Prop:=
 match x with
 | .sref sz' b off len n=>sz' = sz ∧ match σ.get b with
  | .arr sz'' xs=>sz'' = sz ∧ xs.length = n ∧ K (.int .i64 (min ys.length len:Nat)) (σ.set b (.arr sz (xs.take off ++ ys.take len ++ xs.drop (off + min ys.length len))))
  | _=>False
 | _=>False
def zY (σ:af) (x:ag) (K:ag → af → Prop):Prop:=
 match x with
 | .str y=>K (.iter σ.length) (σ ++ [.siter y 0])
 | _=>False
def E3 (σ:af) (x:ag) (K:ag → af → Prop):Prop:=
 match x with
 | .iter b=>match σ.get b with
  | .siter y pos=>if pos < y.size then K (.tup [.bool true, .int .i64 pos, .int .i32 (Utf8.decode y pos).1]) (σ.set b (.siter y (pos + (Utf8.decode y pos).2))) else K (.tup [.bool false]) σ
  | _=>False
 | _=>False
def z7 (sz:Nat) (σ:af) (x:ag) (K:ag → af → Prop):Prop:=
 match x with
 | .sref sz' b off len n=>sz' = sz ∧ match σ.get b with
  | .arr sz'' xs=>sz'' = sz ∧ xs.length = n ∧ K (.slice sz ((xs.drop off).take len)) (σ.set b .dead)
  | _=>False
 | _=>False
def HK (bytes:Nat) (σ:af) (x y:ag) (K:ag → af → Prop):Prop:=
 match y with
 | .str s=>j0 1 bytes σ x (yp s) K
 | _=>False
def EC (n sz:Nat) (σ:af) (x:ag) (K:ag → af → Prop):Prop:=
 match x with
 | .ptr b 0=>match σ.get b with
  | .box cs=>sz = 1 ∧ cs.length = n ∧ mg cs = true ∧ K (.slice 1 cs) (σ.set b .dead)
  | _=>False
 | _=>False
def Iy (sz:Nat) (σ:af) (x lo:ag) (K:ag → af → Prop):Prop:=
 match x,lo with
 | .oslice sz' xs b k, .int _ n=>sz' = sz ∧ 0 ≤ n ∧ n ≤ xs.length ∧ match σ.get b with
  | .spare sz'' k'=>sz'' = sz ∧ k' = k ∧ K (.oslice sz (xs.drop n.toNat) b (k + 1)) (σ.set b (.spare sz (k + 1)))
  | _=>False
 | _,_=>False
/-! A table of the program. -/
def nz (g:Nat):List (Nat × List (IntKind × Int)) → List (IntKind × Int)
 | []=>[]
 | (h,cs) :: r=>if h = g then cs else nz g r
def NG (g:Nat) (σ:af) (x:ag) (K:ag → af → Prop):Prop:=
 match x with
 | .int _ n=>0 ≤ n ∧ match (nz g ew)[n.toNat]? with
  | some (k,v)=>K (.pval (.int k v)) σ
  | none=>False
 | _=>False
def Er (neg:Bool) (σ:af) (x:ag) (K:ag → af → Prop):Prop:=
 match x with
 | .niliface=>K (.bool !neg) σ
 | .iface _ _=>K (.bool neg) σ
 | _=>False
/-! Is a slice nil? Of an empty one nobody knows. -/
def Fv (neg:Bool) (σ:af) (x:ag) (K:ag → af → Prop):Prop:=
 match x with
 | .slice _ xs | .oslice _ xs _ _=>K (.bool neg) σ ∧ (xs = [] → K (.bool !neg) σ)
 | .sref _ _ _ len _=>K (.bool neg) σ ∧ (len = 0 → K (.bool !neg) σ)
 | _=>False
/-! Maps whose keys are numbers, strings or Booleans. -/
def tG (lk:LK) (k:ag):List (ag × ag) → Bool
 | []=>true
 | e :: r=>ga lk k e.1 && tG lk k r
def lJ (k:ag):List (ag × ag) → Option ag
 | []=>none
 | e :: r=>if gz k e.1 then some e.2 else lJ k r
def nj (k v:ag):List (ag × ag) → List (ag × ag)
 | []=>[(k,v)]
 | e :: r=>if gz k e.1 then (k,v) :: r else e :: nj k v r
def Fm (ok:Bool) (lk:LK) (z:ag) (σ:af) (x k:ag) (K:ag → af → Prop):Prop:=
 match x with
 | .map b=>match σ.get b with
  | .amap es=>tG lk k es = true ∧ K (gZ ok z (lJ k es)) σ
  | _=>False
 | _=>False
def EK (lk:LK) (σ:af) (x k v:ag) (K:ag → af → Prop):Prop:=
 match x with
 | .map b=>match σ.get b with
  | .amap es=>tG lk k es = true ∧ K .undef (σ.set b (.amap (nj k v es)))
  | _=>False
 | _=>False
def Ak (ok:Bool) (z:ag) (σ:af) (x k:ag) (K:ag → af → Prop):Prop:=
 match x with
 | .map b=>match σ.get b with
  | .amap es=>iY k k = true ∧ gr k es = true ∧ K (gZ ok z (b9 k es)) σ
  | _=>False
 | _=>False
def zT (σ:af) (x k v:ag) (K:ag → af → Prop):Prop:=
 match x with
 | .map b=>match σ.get b with
  | .amap es=>iY k k = true ∧ gr k es = true ∧ K .undef (σ.set b (.amap (bL k v es)))
  | _=>False
 | _=>False
def EG (z:ag) (σ:af) (x k:ag) (K:ag → af → Prop):Prop:=
 match x with
 | .map b=>match σ.get b with
  | .amap es=>iY k k = true ∧ gr k es = true ∧ K (.tup [gZ false z (b9 k es), .int .i64 (dD k es 0)]) (σ.set b (.amap (bL k (gZ false z (b9 k es)) es)))
  | _=>False
 | _=>False
def vu (σ:af) (x s v:ag) (K:ag → af → Prop):Prop:=
 match x,s with
 | .map b, .int .i64 n=>match σ.get b with
  | .amap es=>0 ≤ n ∧ n < es.length ∧ K .undef (σ.set b (.amap (es.set n.toNat ((es.getD n.toNat (.undef, .undef)).1,v))))
  | _=>False
 | _,_=>False
def ag.down:ag → ag
 | .nils sz=>.slice sz []
 | .oslice sz xs _ _=>.slice sz xs
 | v=>v
def ag.tv:ag → ag
 | .agg cs=>.agg (cs.map ag.down)
 | v=>v.down
def cS:List Bool → List ag → List ag
 | true :: r,v :: l=>v.tv :: cS r l
 | _ :: r,v :: l=>v :: cS r l
 | [],l=>l
 | _,[]=>[]
mutual
def aX:ag → Value → Bool
 | .bool a, .bool b=>a == b
 | .int j a, .int k b=>decide (j = k) && a == b
 | .str a, .string b=>decide (a = b)
 | .slice _ xs, .slice none l c=>xs.isEmpty && l == 0 && c == 0
 | .nilptr, .pointer none=>true
 | .nilfunc, .nilFunc=>true
 | .niliface, .nilIface=>true
 | .nilmap, .map none=>true
 | .agg cs, .agg vs=>cO cs vs.toList
 | .undef,_=>true
 | .nils _, .slice none l c=>l == 0 && c == 0
 | _,_=>false
def cO:List ag → List Value → Bool
 | [],[]=>true
 | a :: r,b :: t=>aX a b && cO r t
 | _,_=>false
end
theorem j5:∀ {cs:List ag} {vs:List Value},cO cs vs = true → vs.length = cs.length
 | [],[],_=>rfl
 | a :: r,b :: t,h=>by simp only [cO,Bool.and_eq_true] at h; simp [j5 h.2]
 | [],_ :: _,h=>by simp [cO] at h
 | _ :: _,[],h=>by simp [cO] at h
mutual
theorem eI {s:St}:∀ {v:ag} {c:Value},aX v c = true → Rv s v c
 | .bool a,c,h=>by cases c <;> simp [aX] at h; subst h; exact .bool _
 | .int j a,c,h=>by cases c <;> simp [aX] at h; obtain ⟨rfl,rfl⟩:=h; exact .int _ _
 | .str a,c,h=>by cases c <;> simp [aX] at h; subst h; exact .str _
 | .slice sz xs,c,h=>by
  cases c with
  | slice a l cap=>
   cases a <;> simp [aX] at h;obtain ⟨⟨rfl,rfl⟩,rfl⟩:=h; exact .slice0 _ _ _
  | _=>simp [aX] at h
 | .nilptr,c,h=>by
  cases c with
  | pointer a=>cases a <;> simp [aX] at h; exact .nilptr
  | _=>simp [aX] at h
 | .nilfunc,c,h=>by cases c <;> simp [aX] at h; exact .nilfunc
 | .niliface,c,h=>by cases c <;> simp [aX] at h; exact .niliface
 | .nilmap,c,h=>by
  cases c with
  | map a=>cases a <;> simp [aX] at h; exact .nilmap
  | _=>simp [aX] at h
 | .agg cs,c,h=>by
  cases c with
  | agg vs=>
   simp only [aX] at h;refine .agg cs vs (by simpa using j5 h) (fun j h1 h2=>?_);have:=kZ (s:=s) h j h1 (by simpa using h2);simpa using this
  | _=>simp [aX] at h
 | .undef,c,_=>.undef c
 | .nils sz,c,h=>by
  cases c with
  | slice a l cap=>
   cases a <;> simp [aX] at h;obtain ⟨rfl,rfl⟩:=h; exact .nils _
  | _=>simp [aX] at h
 | .tup _,c,h=>by cases c <;> simp [aX] at h
 | .oslice _ _ _ _,c,h=>by cases c <;> simp [aX] at h
 | .sref _ _ _ _ _,c,h=>by cases c <;> simp [aX] at h
 | .pval _,c,h=>by cases c <;> simp [aX] at h
 | .ptr _ _,c,h=>by cases c <;> simp [aX] at h
 | .eptr _ _ _ _ _,c,h=>by cases c <;> simp [aX] at h
 | .func _ _ _,c,h=>by cases c <;> simp [aX] at h
 | .iface _ _,c,h=>by cases c <;> simp [aX] at h
 | .map _,c,h=>by cases c <;> simp [aX] at h
 | .opt _ _,c,h=>by cases c <;> simp [aX] at h
 | .mint _,c,h=>by cases c <;> simp [aX] at h
 | .iter _,c,h=>by cases c <;> simp [aX] at h
 | .yieldf _,c,h=>by cases c <;> simp [aX] at h
theorem kZ {s:St}:∀ {cs:List ag} {vs:List Value},cO cs vs = true → ∀ j (h1:j < cs.length) (h2:j < vs.length),Rv s cs[j] vs[j]
 | [],_,_,j,h1,_=>by simp at h1
 | a :: r,[],h,_,_,_=>by simp [cO] at h
 | a :: r,b :: t,h,0,_,_=>by simp only [cO,Bool.and_eq_true] at h; exact eI h.1
 | a :: r,b :: t,h,j + 1,h1,h2=>by
  simp only [cO,Bool.and_eq_true] at h;have:=kZ (s:=s) h.2 j (by simpa using h1) (by simpa using h2);simpa using this
end
def aN:aO → Operand → Bool
 | .t n, .tmp m=>n == m
 | .c v, .const u=>aX v u
 | .f n, .func m=>n == m
 | _,_=>false
def fX:Option TypeDesc → Option Bool
 | some (.struct _) | some (.array _ _)=>some true
 | some _=>some false
 | none=>none
def kOk (P:Program) (t:TypeId) (k:Option Nat):Bool:=
 match fX (P.underlying t),k with
 | some true,some n=>P.cellsOf t == n && (P.info? t).isSome
 | some false,none=>(P.info? t).isSome
 | _,_=>false
def gf:List aO → List Operand → Bool
 | [],[]=>true
 | a :: r,b :: t=>aN a b && gf r t
 | _,_=>false
def gL (P:Program) (t:TypeId) (z:List ag):Bool:=
 match (P.info? t).bind (·.zero) with
 | some v=>cO z v.cells.toList
 | none=>false
def pt (P:Program) (t:TypeId) (i:Nat):Option (Nat × Nat):=
 match P.underlying t with
 | some (.struct fs)=>(fs[i]?).map fun f=>(f.offset,P.cellsOf f.type)
 | some (.array _ e)=>some (i * P.cellsOf e,P.cellsOf e)
 | _=>none
def jg (P:Program) (t:TypeId):List (Nat × Nat × aO) → List (Nat × Operand) → Bool
 | [],[]=>true
 | (off,sz,x) :: r,(i,y) :: q=>pt P t i == some (off,sz) && aN x y && jg P t r q
 | _,_=>false
def pN (P:Program) (t:TypeId):Bool:=
 match P.underlying t with
 | some (.struct fs)=>fs.toList.all fun f=>(P.info? f.type).isSome
 | some (.array _ e)=>(P.info? e).isSome
 | _=>false
def kf (g:TypeId → Option (List LK)):List Field → Nat → Option (List LK)
 | [],_=>some []
 | f :: r,o=>
  if f.name ≠ "_" ∧ f.offset = o then
   match g f.type with
   | some l=>if l.length = 0 then none else match kf g r (o + l.length) with
    | some l'=>some (l ++ l')
    | none=>none
   | none=>none
  else none
def kO (P:Program):Nat → TypeId → Option (List LK)
 | 0,_=>none
 | d + 1,t=>
  match P.underlying t with
  | some .bool=>if kOk P t none then some [.b] else none
  | some .string=>if kOk P t none then some [.s] else none
  | some (.int _)=>if kOk P t none then some [.i] else none
  | some (.struct fs)=>
   if P.stoodInHeld t then none else
   match kf (kO P d) fs.toList 0 with
   | some l=>if kOk P t (some l.length) then some l else none
   | none=>none
  | _=>none
def eqFields (P:Program) (d:Nat) (fs:List Field) (o:Nat):Option (List LK):=kf (kO P d) fs o
theorem sf (P:Program) (d:Nat) (fs:List Field) (o:Nat):kf (kO P d) fs o = eqFields P d fs o:=rfl
def s7 (P:Program) (t:TypeId) (n:Nat):Bool:=
 match (P.info? t).bind (·.zero) with
 | some v=>v.cells.size == n
 | none=>false
def mc:List (Nat × aO) → List (Nat × Operand) → Bool
 | [],[]=>true
 | (i,x) :: r,(j,y) :: q=>i == j && aN x y && mc r q
 | _,_=>false
def gn:Option aO → Option Operand → Bool
 | none,none=>true
 | some x,some y=>aN x y
 | _,_=>false
def jN:TypeDesc → Option LK
 | .int _=>some .i
 | .string=>some .s
 | .bool=>some .b
 | _=>none
def gg (P:Program) (t:TypeId):Bool:=match P.underlying t with
 | some (.struct fs)=>match fs.toList with
  | [f, g] => decide (f.name ≠ "_") && decide (g.name ≠ "_") && decide (f.offset = 0) && decide (g.offset = 1) && kOk P f.type none && kOk P g.type none &&
    (match P.underlying f.type with | some (.int _)=>true | _=>false) && (match P.underlying g.type with | some (.int _)=>true | _=>false) && decide (kO P 20 t = some [.i, .i]) && kOk P t (some 2)
  | _=>false
 | _=>false
def zeroV (P:Program) (t:TypeId) (z:ag):Bool:=
 match (P.info? t).bind (·.zero) with
 | some v=>aX z v
 | none=>false
def bm (P : Program) (i : AI) (o : Op) : Bool :=
 match i with
 | .mv x=>match o with
  | .move y=>aN x y
  | .assign y=>aN x y
  | _=>false
 | .pick c x y=>match o with
  | .pick c' x' y'=>aN c c' && aN x x' && aN y y'
  | _=>false
 | .alloc z=>match o with
  | .alloc t=>gL P t (z.map ag.kI)
  | _=>false
 | .box n x=>match o with
  | .box t y=>P.cellsOf t == n && aN x y
  | _=>false
 | .loadd k x=>match o with
  | .load t y=>kOk P t k && aN x y
  | _=>false
 | .mvd x=>match o with
  | .move y=>aN x y
  | .assign y=>aN x y
  | _=>false
 | .pbox n x=>match o with
  | .box t y=>P.cellsOf t == n && aN x y
  | _=>false
 | .build z ps=>match o with
  | .build t parts=>gL P t z && pN P t && jg P t ps parts.toList
  | _=>false
 | .load k x=>match o with
  | .load t y=>kOk P t k && aN x y
  | _=>false
 | .store sz x v=>match o with
  | .store t y u=>P.cellsOf t == sz && (P.info? t).isSome && aN x y && aN v u
  | _=>false
 | .nilchk x=>match o with
  | .nilCheck y=>aN x y
  | _=>false
 | .bin op x y=>match o with
  | .binOp op' _ a b _=>decide (op = op') && aN x a && aN y b
  | _=>false
 | .un op x=>match o with
  | .unOp op' _ a=>decide (op = op') && aN x a
  | _=>false
 | .eqb neg x y=>match o with
  | .binOp op t a b _=>decide (op = if neg then BinOp.neq else BinOp.eql) && (match P.underlying t with | some .bool=>true | _=>false) && aN x a && aN y b
  | _=>false
 | .eqa neg ks x y=>match o with
  | .binOp op t a b _=>decide (op = if neg then BinOp.neq else BinOp.eql) && decide (kO P 20 t = some ks) && kOk P t (some ks.length) && !P.eqGuardType P.depth t && aN x a && aN y b
  | _=>false
 | .isnil neg x=>match o with
  | .binOp op t a (.const .nilIface) _=>decide (op = if neg then BinOp.neq else BinOp.eql) && (match P.underlying t with | some (.interface _)=>true | _=>false) && aN x a
  | _=>false
 | .conv k x=>match o with
  | .convert src dst y=>(P.underlying src).isSome && (match P.underlying dst with | some (.int k')=>decide (k = k') | _=>false) && aN x y
  | _=>false
 | .convs x=>match o with
  | .convert src dst y=>(P.underlying src).isSome && (match P.underlying dst with | some .string=>true | _=>false) && aN x y
  | _=>false
 | .mkfunc fn first caps=>match o with
  | .makeFunc fn' a b=>decide (fn = fn') && gf first a.toList && gf caps b.toList
  | _=>false
 | .fieldAddr k off x=>match o with
  | .fieldAddr t y f=>match P.underlying t with
   | some (.struct fs)=>match fs[f]? with
    | some fd=>fd.offset == off && kOk P fd.type k && P.cellsOf fd.type != 0 && aN x y
    | none=>false
   | _=>false
  | _=>false
 | .field k off x=>match o with
  | .field t y f=>match P.underlying t with
   | some (.struct fs)=>match fs[f]? with
    | some fd=>fd.offset == off && kOk P fd.type k && aN x y
    | none=>false
   | _=>false
  | _=>false
 | .ixS sz x y=>match o with
  | .indexAddr t a b=>match P.underlying t with
   | some (.slice e)=>P.cellsOf e == sz && (P.info? e).isSome && aN x a && aN y b
   | _=>false
  | _=>false
 | .ixA m sz k x y=>match o with
  | .indexAddr t a b=>match P.underlying t with
   | some (.array n e)=>n == m && P.cellsOf e == sz && kOk P e k && aN x a && aN y b
   | _=>false
  | _=>false
 | .ixV m sz k x y=>match o with
  | .index t a b=>match P.underlying t with
   | some (.array n e)=>n == m && P.cellsOf e == sz && kOk P e k && aN x a && aN y b
   | _=>false
  | _=>false
 | .ixStr x y=>match o with
  | .index t a b=>match P.underlying t with
   | some .string=>aN x a && aN y b
   | _=>false
  | _=>false
 | .extract x j=>match o with
  | .extract y j'=>j == j' && aN x y
  | _=>false
 | .len x=>match o with
  | .call c=>match c.callee with
   | .builtin .len=>match c.args.toList,c.argTypes.toList with
    | [y],[t]=>(match P.underlying t with | some (.slice _)=>true | _=>false) && aN x y
    | _,_=>false
   | _=>false
  | _=>false
 | .lenStr x=>match o with
  | .call c=>match c.callee with
   | .builtin .len=>match c.args.toList,c.argTypes.toList with
    | [y],[t]=>(match P.underlying t with | some .string=>true | _=>false) && aN x y
    | _,_=>false
   | _=>false
  | _=>false
 | .lenA n x=>match o with
  | .call c=>match c.callee with
   | .builtin .len=>match c.args.toList,c.argTypes.toList with
    | [y],[t]=>(match P.underlying t with | some (.array m _)=>m == n | _=>false) && aN x y
    | _,_=>false
   | _=>false
  | _=>false
 | .mx l=>match o with
  | .call c=>match c.callee with
   | .builtin .max=>gf l c.args.toList
   | _=>false
  | _=>false
 | .mn l=>match o with
  | .call c=>match c.callee with
   | .builtin .min=>gf l c.args.toList
   | _=>false
  | _=>false
 | .mkiface t x=>match o with
  | .makeInterface t' y=>t == t' && (match P.underlying t with | some (.interface _) | none=>false | _=>true) && aN x y
  | _=>false
 | .assert t x=>match o with
  | .typeAssert y _ t' ok=>!ok && t == t' && (match P.underlying t with | some (.interface _) | none=>false | _=>true) && aN x y
  | _=>false
 | .buildm z ps=>match o with
  | .build t parts=>gL P t (z.map ag.kI) && pN P t && jg P t ps parts.toList
  | _=>false
 | .storem _ x=>match o with
  | .store t y (.const (.slice none 0 0))=>P.cellsOf t == 1 && (P.info? t).isSome && aN x y
  | _=>false
 | .nilS _ _=>match o with
  | .move (.const (.slice none 0 0))=>true
  | .assign (.const (.slice none 0 0))=>true
  | _=>false
 | .lit _ sz n ps=>match o with
  | .buildSlice t n' parts=>match P.underlying t with
   | some (.slice e)=>P.cellsOf e == sz && (P.info? e).isSome && n == n' && decide (n * sz ≤ 2 ^ 24) && decide (0 < sz) && s7 P e sz && mc ps parts.toList
   | _=>false
  | _=>false
 | .append sz bytes x y=>match o with
  | .call c=>match c.callee with
   | .builtin .append=>match c.args.toList,c.argTypes.toList with
    | [x',y'],[t,tx]=>match P.underlying t,P.underlying tx with
     | some (.slice e),some (.slice _)=>P.cellsOf e == sz && decide (0 < sz) && (match P.info? e with | some i=>i.bytes == bytes && (match i.zero with | some z=>z.cells.size == sz | none=>false) && i.size == sz && decide (0 < bytes) | none=>false) && aN x x' && aN y y'
     | _,_=>false
    | _,_=>false
   | _=>false
  | _=>false
 | .sub _ sz x lo hi mx=>match o with
  | .slice t x' lo' hi' mx'=>match P.underlying t with
   | some (.slice e)=>P.cellsOf e == sz && decide (0 < sz) && (P.info? e).isSome && aN x x' && gn lo lo' && gn hi hi' && gn mx mx' && (!mx.isSome || hi.isSome)
   | _=>false
  | _=>false
 | .subq sz x lo hi=>match o with
  | .slice t x' lo' hi' none=>match P.underlying t with
   | some (.slice e)=>P.cellsOf e == sz && (P.info? e).isSome && aN x x' && gn lo lo' && gn hi hi'
   | _=>false
  | _=>false
 | .subStr x lo hi=>match o with
  | .slice t x' lo' hi' none=>match P.underlying t with
   | some .string=>aN x x' && gn lo lo' && gn hi hi'
   | _=>false
  | _=>false
 | .range x=>match o with
  | .range t y=>(match P.underlying t with | some .string=>true | _=>false) && aN x y
  | _=>false
 | .next x=>match o with
  | .next y true=>aN x y
  | _=>false
 | .freeze _ x=>match o with
  | .move y=>aN x y
  | .assign y=>aN x y
  | _=>false
 | .mksl _ sz bytes z n c=>match o with
  | .makeSlice t n' c'=>match P.underlying t with
   | some (.slice e)=>P.cellsOf e == sz && decide (0 < sz) && (match P.info? e with | some i=>i.bytes == bytes && i.size == sz && (match i.zero with | some v=>v.cells.size == sz && aX z v | none=>false) | none=>false) && aN n n' && aN c c'
   | _=>false
  | _=>false
 | .clear sz z x=>match o with
  | .call c=>match c.callee with
   | .builtin .clear=>match c.args.toList,c.argTypes.toList with
    | [x'],[t]=>match P.underlying t with
     | some (.slice e)=>decide (0 < sz) && (match P.info? e with | some i=>i.size == sz && (match i.zero with | some v=>v.cells.size == sz && aX z v | none=>false) | none=>false) && aN x x'
     | _=>false
    | _,_=>false
   | _=>false
  | _=>false
 | .copyB sz x y=>match o with
  | .call c=>match c.callee with
   | .builtin .copy=>match c.args.toList,c.argTypes.toList with
    | [x',y'],[t,tx]=>match P.underlying t,P.underlying tx with
     | some (.slice e),some (.slice _)=>P.cellsOf e == sz && decide (0 < sz) && (P.info? e).isSome && aN x x' && aN y y'
     | _,_=>false
    | _,_=>false
   | _=>false
  | _=>false
 | .subO sz x lo=>match o with
  | .slice t x' (some lo') none none=>match P.underlying t with
   | some (.slice e)=>P.cellsOf e == sz && decide (0 < sz) && (P.info? e).isSome && aN x x' && aN lo lo'
   | _=>false
  | _=>false
 | .snil neg x=>match o with
  | .binOp op t a (.const (.slice none 0 0)) _=>decide (op = if neg then BinOp.neq else BinOp.eql) && (match P.underlying t with | some (.slice _)=>true | _=>false) && aN x a
  | _=>false
 | .gix g x=>match o with
  | .indexAddr t (.global g') y=>g == g' && (match P.underlying t with
   | some (.array n e)=>n == (nz g ew).length && P.cellsOf e == 1 && (P.info? e).isSome
   | _=>false) && aN x y
  | _=>false
 | .mnew=>match o with
  | .makeMap t r=>(match P.underlying t with | some (.map _ _)=>true | _=>false) && (match r with | none=>true | some (.const (.int _ _))=>true | _=>false)
  | _=>false
 | .mget ok lk z x i=>match o with
  | .lookup t x' i' ok'=>match P.underlying t with
   | some (.map k e)=>decide (ok = ok') && decide ((P.underlying k).bind jN = some lk) && zeroV P e z && aN x x' && aN i i'
   | _=>false
  | _=>false
 | .lookup ok z x i=>match o with
  | .lookup t x' i' ok'=>match P.underlying t with
   | some (.map k e)=>decide (ok = ok') && gg P k && zeroV P e z && aN x x' && aN i i'
   | _=>false
  | _=>false
 | .ment z x k=>match o with
  | .mapEntry t x' k'=>match P.underlying t with
   | some (.map kt e)=>gg P kt && zeroV P e z && aN x x' && aN k k'
   | _=>false
  | _=>false
 | .estore x s v=>match o with
  | .entryStore _ x' s' v'=>aN x x' && aN s s' && aN v v'
  | _=>false
 | .mgetp ok z x i=>match o with
  | .lookup t x' i' ok'=>match P.underlying t with
   | some (.map k e)=>decide (ok = ok') && gg P k && zeroV P e z && aN x x' && aN i i'
   | _=>false
  | _=>false
 | .msetp x k v=>match o with
  | .insert t x' k' v'=>match P.underlying t with
   | some (.map kt _)=>gg P kt && aN x x' && aN k k' && aN v v'
   | _=>false
  | .mapUpdate t x' k' v'=>match P.underlying t with
   | some (.map kt _)=>gg P kt && aN x x' && aN k k' && aN v v'
   | _=>false
  | _=>false
 | .mset lk x k v=>match o with
  | .insert t x' k' v'=>match P.underlying t with
   | some (.map kt _)=>decide ((P.underlying kt).bind jN = some lk) && aN x x' && aN k k' && aN v v'
   | _=>false
  | .mapUpdate t x' k' v'=>match P.underlying t with
   | some (.map kt _)=>decide ((P.underlying kt).bind jN = some lk) && aN x x' && aN k k' && aN v v'
   | _=>false
  | _=>false
 | .panic x=>match o with
  | .panic y=>aN x y
  | _=>false
 | .allocB=>match o with
  | .alloc t=>t == uY.1 && gL P t [.nilptr, .slice 1 []]
  | _=>false
 | .appS bytes x y=>match o with
  | .call c=>match c.callee with
   | .builtin .append=>match c.args.toList,c.argTypes.toList with
    | [x',y'],[t,tx]=>match P.underlying t,P.underlying tx with
     | some (.slice e),some .string=>(match P.info? e with | some i=>i.bytes == bytes && (match i.zero with | some z=>z.cells.size == 1 | none=>false) && i.size == 1 && decide (0 < bytes) | none=>false) && aN x x' && aN y y'
     | _,_=>false
    | _,_=>false
   | _=>false
  | _=>false
 | .b2s x=>match o with
  | .convert src dst y=>(match P.underlying src with | some (.slice e)=>(match P.underlying e with | some (.int .u8)=>true | _=>false) | _=>false) && (match P.underlying dst with | some .string=>true | _=>false) && aN x y
  | _=>false
 | .subA n sz x=>match o with
  | .slice t y none none none=>match P.underlying t with
   | some (.array m e)=>n == m && P.cellsOf e == 1 && sz == 1 && (P.info? e).isSome && aN x y
   | _=>false
  | _=>false
 | .other=>match o with
  | .defer _=>false
  | _=>true
 | .callA _ f _ args=>match o with
  | .call c=>match c.callee with
   | .value g=>aN f g && gf args c.args.toList
   | _=>false
  | _=>false
 | .call f _ args=>match o with
  | .call c=>match c.callee with
   | .value g=>aN f g && gf args c.args.toList
   | _=>false
  | _=>false
 | _=>false
def ia (s:St) (ρ:aO → ag) (ρ':Operand → Value):Prop:=∀ x y,aN x y = true → Rv s (ρ x) (ρ' y)
section run
variable {P:Program} {s:St} {ρ:aO → ag} {ρ':Operand → Value}
theorem yW {t:TypeId} (h:fX (P.underlying t) = some true) (w:World):(isAgg t).run P w = .ok true w:=by
 unfold isAgg
 cases hu:P.underlying t with
 | none=>simp [hu,fX] at h
 | some d=>cases d <;> simp [hu,fX] at h <;> simp [underlying,hu]
theorem xP {t:TypeId} (h:fX (P.underlying t) = some false) (w:World):(isAgg t).run P w = .ok false w:=by
 unfold isAgg
 cases hu:P.underlying t with
 | none=>simp [hu,fX] at h
 | some d=>cases d <;> simp [hu,fX] at h <;> simp [underlying,hu]
theorem aT {t:TypeId} (h:(P.info? t).isSome = true) (w:World):(sizeOf t).run P w = .ok (P.cellsOf t) w:=by
 unfold sizeOf typeInfo Program.cellsOf;obtain ⟨i,hi⟩:=Option.isSome_iff_exists.1 h;simp [hi]
theorem ar {t:TypeId} {d:TypeDesc} (h:P.underlying t = some d) (w:World):(underlying t).run P w = .ok d w:=by
 simp [underlying,h]
theorem eh {v:ag} {c:Value} (h:Rv s v c) (hs:v.gJ = true):c.cells = #[c]:=by
 cases h <;> first | rfl | (simp [ag.gJ] at hs; done) | (rename_i h _; cases h <;> rfl)
theorem JB {v:ag} {c:Value} (h:Rv s v c) (hs:v.gJ = true):c.oneCell' = true:=by
 cases h <;> first | rfl | (simp [ag.gJ] at hs; done) | (rename_i h _; cases h <;> rfl)
theorem Rv.ig {cs:List ag} {c:Value} (h:Rv s (.agg cs) c):∃ vs:Array Value,c = .agg vs ∧ vs.size = cs.length ∧ ∀ j (h1:j < cs.length) (h2:j < vs.size),Rv s cs[j] vs[j]:=by
 cases h with
 | agg _ vs hl h=>exact ⟨vs,rfl,hl,h⟩
theorem addr_add (blk off n:Nat):(⟨blk,off,none⟩:Addr).add n = ⟨blk,off + n,none⟩:=by
 unfold Addr.add; split
 ·rename_i h; subst h; rfl
 ·rfl
theorem vO {k:Option Nat} {cs:List ag} {off:Nat} {vs:Array Value} (hl:vs.size = cs.length) (h:∀ j (h1:j < cs.length) (h2:j < vs.size),Rv s cs[j] vs[j])
  (ho:fD k cs off):∃ u:Value,Rv s (jR k cs off) u ∧ (match k with | none=>vs[off]? = some u | some n=>u = Value.agg (vs.extract off (off + n))):=by
 cases k with
 | none=>
  obtain ⟨h1,h2⟩:=ho;have h3:off < vs.size:=by omega
  refine ⟨vs[off], ?_,by simp [h3]⟩;have:=h off h1 h3;simpa [jR,List.getD,List.getElem?_eq_getElem h1] using this
 | some n=>
  simp only [fD] at ho;refine ⟨Value.agg (vs.extract off (off + n)),Rv.agg _ _ (by simp; omega) (fun j h1 h2=>?_),rfl⟩;simp only [List.length_take,List.length_drop] at h1;have:=h (off + j) (by omega) (by omega);simpa using this
end run
end Go.AM
