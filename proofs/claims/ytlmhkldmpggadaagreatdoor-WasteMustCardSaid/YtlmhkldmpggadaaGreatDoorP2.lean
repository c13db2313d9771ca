/- The instructions of our walk, and what each computes on abstract values. No program is named here. When an instruction of ours stands for an operation of the program (checked by the kernel, P: any .. -/
import Derived.Test.YtlmhkldmpggadaaGreatDoorP1
import Derived.Laws.Cells
import Derived.WalkKit
namespace Go.AM
inductive aM where
 | t (n:Nat)
 | c (v:ag)
 | f (n:Nat)
 deriving Inhabited
inductive LK where
 | b | i | s
 deriving DecidableEq,Inhabited
inductive AI where
 | mv (x:aM)
 | pick (c a b:aM)
 | alloc (z:List ag)
 | box (n:Nat) (x:aM)
 | pbox (n:Nat) (x:aM)
 | loadd (k:Option Nat) (x:aM)
 | mvd (x:aM)
 | build (z:List ag) (parts:List (Nat × Nat × aM))
 | lit (m:Nat) (sz n:Nat) (parts:List (Nat × aM))
 | load (k:Option Nat) (x:aM)
 | store (sz:Nat) (x v:aM)
 | nilchk (x:aM)
 | bin (op:BinOp) (x y:aM)
 | eqb (neg:Bool) (x y:aM)
 | eqa (neg:Bool) (ks:List LK) (x y:aM)
 | un (op:UnOp) (x:aM)
 | conv (k:IntKind) (x:aM)
 | convs (x:aM)
 | mkfunc (fn:Fn) (first caps:List aM)
 | fieldAddr (k:Option Nat) (off:Nat) (x:aM)
 | field (k:Option Nat) (off:Nat) (x:aM)
 | ixS (sz:Nat) (x i:aM)
 | ixA (len sz:Nat) (k:Option Nat) (x i:aM)
 | ixV (len sz:Nat) (k:Option Nat) (x i:aM)
 | ixStr (x i:aM)
 | extract (x:aM) (i:Nat)
 | len (x:aM)
 | lenStr (x:aM)
 | lenA (n:Nat) (x:aM)
 | mx (l:List aM)
 | mn (l:List aM)
 | sub (m:Nat) (sz:Nat) (x:aM) (lo hi mx:Option aM)
 | subStr (x:aM) (lo hi:Option aM)
 | subq (sz:Nat) (x:aM) (lo hi:Option aM)
 | append (sz bytes:Nat) (x y:aM)
 | call (f:aM) (dn:List Bool) (args:List aM)
 | panic (x:aM)
 | mkiface (t:TypeId) (x:aM)
 | assert (t:TypeId) (x:aM)
 | range (x:aM)
 | next (x:aM)
 | mkmap
 | lookup (ok:Bool) (z:ag) (x i:aM)
 | mapset (x k v:aM)
 | mksl (m sz bytes:Nat) (z:ag) (n c:aM)
 | clear (sz:Nat) (z:ag) (x:aM)
 | copyB (sz:Nat) (x y:aM)
 | freeze (sz:Nat) (x:aM)
 | nilS (m sz:Nat)
 | buildm (z:List ag) (ps:List (Nat × Nat × aM))
 | storem (sz:Nat) (x:aM)
 | subO (sz:Nat) (x lo:aM)
 | isnil (neg:Bool) (x:aM)
 | callA (sz:Nat) (f:aM) (dn:List Bool) (args:List aM)
 | gix (g:Nat) (x:aM)
 | snil (neg:Bool) (x:aM)
 | mnew
 | mget (ok:Bool) (lk:LK) (z:ag) (x i:aM)
 | mset (lk:LK) (x k v:aM)
 | mgetp (ok:Bool) (z:ag) (x i:aM)
 | msetp (x k v:aM)
 | ment (z:ag) (x k:aM)
 | estore (x s v:aM)
 | allocB
 | appS (bytes:Nat) (x y:aM)
 | b2s (x:aM)
 | subA (n sz:Nat) (x:aM)
 | other
 deriving Inhabited
structure aD where
 d:Option Nat
 g:Option (Nat × Bool)
 i:AI
 deriving Inhabited
def Env.put (e:Env) (d:Option Nat) (v:ag):Env:=
 match d with
 | some d=>(d,v) :: e
 | none=>e
def Env.only (e:Env):List Nat → Env
 | []=>[]
 | n :: r=>(n,e.get n) :: Env.only e r
def ag.strip:ag → ag
 | .opt _ v=>v
 | v=>v
def ag.cond:ag → Bool
 | .opt g _=>g
 | _=>true
def opv (e:Env):aM → ag
 | .t n=>(e.get n).strip
 | .c v=>v
 | .f n=>.func (.func n) [] []
def opg (e:Env):aM → Bool
 | .t n=>(e.get n).cond
 | _=>true
def AI.opers:AI → List aM
 | .b2s x | .subA _ _ x | .mv x | .box _ x | .pbox _ x | .loadd _ x | .mvd x | .load _ x | .nilchk x | .un _ x | .conv _ x | .convs x | .fieldAddr _ _ x | .field _ _ x | .extract x _ | .len x | .lenStr x | .panic x | .mkiface _ x | .assert _ x | .range x | .next x | .freeze _ x | .clear _ _ x | .isnil _ x | .gix _ x | .snil _ x=>[x]
 | .lenA _ _ | .allocB | .alloc _ | .mkmap | .mnew | .nilS _ _ | .other=>[]
 | .pick c _ _=>[c]
 | .build _ ps=>ps.map (·.2.2)
 | .buildm _ ps=>ps.map (·.2.2)
 | .storem _ x=>[x]
 | .lit _ _ _ ps=>ps.map (·.2)
 | .appS _ x y | .store _ x y | .bin _ x y | .eqb _ x y | .eqa _ _ x y | .ixS _ x y | .ixA _ _ _ x y | .ixV _ _ _ x y | .ixStr x y | .append _ _ x y | .lookup _ _ x y | .subO _ x y | .mget _ _ _ x y | .mgetp _ _ x y | .ment _ x y | .mksl _ _ _ _ x y | .copyB _ x y=>[x,y]
 | .mkfunc _ a b=>a ++ b
 | .mx l | .mn l=>l
 | .sub _ _ x a b c=>x :: (a.toList ++ b.toList ++ c.toList)
 | .subStr x a b | .subq _ x a b=>x :: (a.toList ++ b.toList)
 | .call f _ l | .callA _ f _ l=>f :: l
 | .mapset x k v | .mset _ x k v | .msetp x k v | .estore x k v=>[x,k,v]
def ix (k:Option Nat) (cs:List ag) (off:Nat):ag:=
 match k with
 | none=>cs.getD off .undef
 | some n=>.agg ((cs.drop off).take n)
def dX (k:Option Nat) (cs:List ag) (off:Nat):Prop:=
 match k with
 | none=>off < cs.length ∧ (cs.getD off .undef).fH = true
 | some n=>off + n ≤ cs.length
def putCells (cs:List ag) (off:Nat):List ag → List ag
 | []=>cs
 | v :: r=>putCells (cs.set off v) (off + 1) r
def af.get (σ:af) (b:Nat):bR:=σ.getD b .dead
def ag.FR:ag → Bool
 | .agg _=>true
 | v=>v.fH
def lX (k:Option Nat) (σ:af):ag → ag
 | .pval v=>v
 | .ptr b off=>match σ.get b with
  | .box cs=>ix k cs off
  | _=>.undef
 | .eptr _ b i f _=>match σ.get b with
  | .arr _ xs=>ix k (xs.getD i .undef).cells f
  | _=>.undef
 | _=>.undef
def fT (k:Option Nat) (σ:af):ag → Prop
 | .pval v=>match k with
  | none=>v.fH = true
  | some n=>match v with
   | .agg cs=>cs.length = n
   | _=>False
 | .ptr b off=>match σ.get b with
  | .box cs=>dX k cs off
  | _=>False
 | .eptr sz b i f n=>match σ.get b with
  | .arr sz' xs=>sz' = sz ∧ xs.length = n ∧ i < n ∧ (xs.getD i .undef).FR = true ∧ dX k (xs.getD i .undef).cells f
  | _=>False
 | _=>False
def eY:List ag → Bool
 | []=>true
 | v :: r=>v.fH && eY r
def bM (v:ag) (n:Nat):Prop:=
 match v with
 | .agg cs=>cs.length = n
 | v=>v.fH = true ∧ n = 1
def pS (z:List ag):List (Nat × List ag) → List ag
 | []=>z
 | (off,cs) :: r=>pS (putCells z off cs) r
def fZ (n:Nat) (ρ:aM → ag):List (Nat × Nat × aM) → Prop
 | []=>True
 | (off,sz,x) :: r=>bM (ρ x) sz ∧ off + sz ≤ n ∧ fZ n ρ r
def ga (ρ:aM → ag) (z:List ag):List (Nat × aM) → List ag
 | []=>z
 | (i,x) :: r=>ga ρ (z.set i (ρ x)) r
def gV (sz n:Nat) (ρ:aM → ag):List (Nat × aM) → Prop
 | []=>True
 | (i,x) :: r=>i < n ∧ bM (ρ x) sz ∧ gV sz n ρ r
def fk:ag → ag → Bool
 | .int _ a, .int _ b=>a == b
 | .str a, .str b=>a == b
 | .bool a, .bool b=>a == b
 | _,_=>false
def eQ:LK → ag → ag → Bool
 | .i, .int j _, .int k _=>j == k
 | .s, .str _, .str _=>true
 | .b, .bool _, .bool _=>true
 | _,_,_=>false
def cM:List ag → List ag → Bool
 | x :: r,y :: t=>fk x y && cM r t
 | _,_=>true
def bq:List LK → List ag → List ag → Bool
 | [],[],[]=>true
 | k :: l,x :: r,y :: t=>eQ k x y && bq l r t
 | _,_,_=>false
def Gn (op:BinOp) (k:IntKind) (a b:Int):Int:=
 match op with
 | .and=>k.wrap (BitVec.ofInt k.bits a &&& BitVec.ofInt k.bits b).toNat
 | .or=>k.wrap (BitVec.ofInt k.bits a ||| BitVec.ofInt k.bits b).toNat
 | .xor=>k.wrap (BitVec.ofInt k.bits a ^^^ BitVec.ofInt k.bits b).toNat
 | _=>k.wrap (BitVec.ofInt k.bits a &&& ~~~ (BitVec.ofInt k.bits b)).toNat
/-! The same, where both numbers are known: else the kernel would compute with unknown bits, and end in a depth. -/
def HP (op:BinOp):Nat → IntKind → Int → Int → Int
 | 0=>Gn op
 | _ + 1=>Gn op
def LW (op:BinOp):Nat → Nat → IntKind → Int → Int → Int
 | 0=>HP op
 | _ + 1=>HP op
def Ag (op:BinOp) (k:IntKind) (a b:Int):Int:=LW op a.natAbs b.natAbs k a b
theorem GU (op:BinOp) (k:IntKind) (a b:Int):Ag op k a b = Gn op k a b:=by
 unfold Ag;cases a.natAbs <;> cases b.natAbs <;> rfl
def arith (op:BinOp) (k:IntKind) (a b:Int):ag:=
 match op with
 | .add=>.int k (k.wrap (a + b))
 | .sub=>.int k (k.wrap (a - b))
 | .mul=>.int k (k.wrap (a * b))
 | .quo=>.int k (k.wrap (a.tdiv b))
 | .rem=>.int k (a.tmod b)
 | .and=>.int k (Ag .and k a b)
 | .or=>.int k (Ag .or k a b)
 | .xor=>.int k (Ag .xor k a b)
 | .andNot=>.int k (Ag .andNot k a b)
 | .shl=>.int k (k.wrap (a * 2 ^ min b.toNat k.bits))
 | .shr=>.int k (a.fdiv (2 ^ min b.toNat k.bits))
 | .eql=>.bool (a == b)
 | .neq=>.bool (a != b)
 | .lss=>.bool (decide (a < b))
 | .leq=>.bool (decide (a ≤ b))
 | .gtr=>.bool (decide (a > b))
 | .geq=>.bool (decide (a ≥ b))
def xZ (op:BinOp) (j k:IntKind) (b:Int):Prop:=
 match op with
 | .quo | .rem=>j = k ∧ b ≠ 0
 | .shl | .shr=>0 ≤ b
 | _=>j = k
def Fv (op:BinOp) (a b:ByteArray):ag:=
 match op with
 | .add=>.str (a ++ b)
 | .eql=>.bool (a.toList == b.toList)
 | .neq=>.bool (!(a.toList == b.toList))
 | .lss=>.bool (Op.bytesLess a.toList b.toList)
 | .leq=>.bool (Op.bytesLess a.toList b.toList || a.toList == b.toList)
 | .gtr=>.bool (!(Op.bytesLess a.toList b.toList || a.toList == b.toList))
 | .geq=>.bool (!Op.bytesLess a.toList b.toList)
 | _=>.undef
def xD (op:BinOp) (a b:ByteArray):Prop:=
 match op with
 | .add=>((a.size + b.size:Nat):Int) ≤ IntKind.i64.max
 | .eql | .neq | .lss | .leq | .gtr | .geq=>True
 | _=>False
def Eo (op:BinOp):ag → ag → ag
 | .int k a, .int _ b=>arith op k a b
 | .str a, .str b=>Fv op a b
 | _,_=>.undef
def yr (op:BinOp):ag → ag → Prop
 | .int j _, .int k b=>xZ op j k b
 | .str a, .str b=>xD op a b
 | _,_=>False
def unV (op:UnOp):ag → ag
 | .bool b=>match op with
  | .not=>.bool (!b)
  | _=>.undef
 | .int k n=>match op with
  | .neg=>.int k (k.wrap (0 - n))
  | .xor=>.int k (k.wrap (BitVec.ofInt k.bits (if k.signed then -1 else k.max) ^^^ BitVec.ofInt k.bits n).toNat)
  | _=>.undef
 | _=>.undef
def DQ (op:UnOp):ag → Prop
 | .bool _=>match op with
  | .not=>True
  | _=>False
 | .int _ _=>match op with
  | .neg | .xor=>True
  | _=>False
 | _=>False
def cg:ag → Int
 | .int _ n=>n
 | _=>0
def isInt:ag → Prop
 | .int _ _=>True
 | _=>False
def ag.elems (σ:af):ag → List ag
 | .slice _ xs=>xs
 | .oslice _ xs _ _=>xs
 | .sref _ b off len _=>match σ.get b with
  | .arr _ xs=>(xs.drop off).take len
  | _=>[]
 | _=>[]
def ag.gQ (σ:af) (sz:Nat):ag → Prop
 | .slice sz' xs=>sz' = sz ∨ xs = []
 | .oslice sz' _ _ _=>sz' = sz
 | .sref sz' b _ _ n=>sz' = sz ∧ match σ.get b with
  | .arr sz'' xs=>sz'' = sz ∧ xs.length = n
  | _=>False
 | _=>False
def Jp:ag → ag
 | .nils _=>.int .i64 0
 | .slice _ xs=>.int .i64 xs.length
 | .oslice _ xs _ _=>.int .i64 xs.length
 | .sref _ _ _ len _=>.int .i64 len
 | _=>.undef
def D7:ag → Prop
 | .slice _ _ | .oslice _ _ _ _ | .sref _ _ _ _ _ | .nils _=>True
 | _=>False
def Iy (n:Int):ag → ag
 | .slice _ xs=>.pval (xs.getD n.toNat .undef)
 | .oslice _ xs _ _=>.pval (xs.getD n.toNat .undef)
 | .sref sz b off _ m=>.eptr sz b (off + n.toNat) 0 m
 | _=>.undef
def FA (sz:Nat) (n:Int):ag → Prop
 | .slice sz' xs=>sz' = sz ∧ 0 ≤ n ∧ n < xs.length
 | .oslice sz' xs _ _=>sz' = sz ∧ 0 ≤ n ∧ n < xs.length
 | .sref sz' _ _ len _=>sz' = sz ∧ 0 ≤ n ∧ n < len
 | _=>False
def kW (k:Option Nat) (off:Nat):ag → ag
 | .pval (.agg cs)=>.pval (ix k cs off)
 | .ptr b o=>.ptr b (o + off)
 | .eptr sz b i f n=>.eptr sz b i (f + off) n
 | _=>.undef
def jJ (k:Option Nat) (off:Nat):ag → Prop
 | .pval (.agg cs)=>dX k cs off
 | .ptr _ _ | .eptr _ _ _ _ _=>True
 | _=>False
def G4 (k:Option Nat) (off:Nat):ag → ag
 | .agg cs=>ix k cs off
 | _=>.undef
def BZ (k:Option Nat) (off:Nat):ag → Prop
 | .agg cs=>dX k cs off
 | _=>False
def DO (x:ag) (y:ag):ag:=
 match x,y with
 | .int k a, .int _ b=>.int k (if b > a then b else a)
 | _,_=>.undef
def E2 (x:ag) (y:ag):ag:=
 match x,y with
 | .int k a, .int _ b=>.int k (if b < a then b else a)
 | _,_=>.undef
def w6:List ag → Prop
 | []=>True
 | x :: r=>isInt x ∧ w6 r
def aR (ρ:aM → ag) (d:Int):Option aM → Int
 | none=>d
 | some x=>cg (ρ x)
def dI (ρ:aM → ag):Option aM → Prop
 | none=>True
 | some x=>isInt (ρ x)
/-! Bytes and strings. -/
def Hw (b:UInt8):ag:=.int .u8 b.toNat
def vf (s:ByteArray):List ag:=s.data.toList.map Hw
def u8s:List ag → List UInt8
 | []=>[]
 | .int _ n :: r=>UInt8.ofNat n.toNat :: u8s r
 | _ :: r=>0 :: u8s r
def wJ:List ag → Bool
 | []=>true
 | .int .u8 _ :: r=>wJ r
 | _=>false
def kg:List ag → Bool
 | []=>true
 | v :: r=>v.fH && kg r
/-! Maps whose keys are pairs of numbers. -/
def gA:ag → ag → Bool
 | .agg [.int .i64 _, .int .i64 _], .agg [.int .i64 _, .int .i64 _]=>true
 | _,_=>false
def fa:ag → ag → Bool
 | .agg [.int _ a, .int _ b], .agg [.int _ c, .int _ d]=>a == c && b == d
 | _,_=>false
def eZ (k:ag):List (ag × ag) → Bool
 | []=>true
 | e :: r=>gA k e.1 && eZ k r
def bC (k:ag):List (ag × ag) → Option ag
 | []=>none
 | e :: r=>if fa k e.1 then some e.2 else bC k r
def bp (k v:ag):List (ag × ag) → List (ag × ag)
 | []=>[(k,v)]
 | e :: r=>if fa k e.1 then (k,v) :: r else e :: bp k v r
def cK (k:ag):List (ag × ag) → Nat → Nat
 | [],n=>n
 | e :: r,n=>if fa k e.1 then n else cK k r (n + 1)
def fA (ok:Bool) (z:ag):Option ag → ag
 | some v=>if ok then .tup [v, .bool true] else v
 | none=>if ok then .tup [z, .bool false] else z
def AI.val (ρ:aM → ag) (σ:af):AI → ag
 | .mv x=>ρ x
 | .build z ps=>.agg (pS z (ps.map fun p=>(p.1,(ρ p.2.2).cells)))
 | .lit _ sz n ps=>.slice sz (ga ρ (List.replicate n .undef) ps)
 | .load k x=>lX k σ (ρ x)
 | .nilchk x=>ρ x
 | .bin op x y=>Eo op (ρ x) (ρ y)
 | .eqb neg x y=>match ρ x,ρ y with
  | .bool a, .bool b=>.bool (neg != (a == b))
  | _,_=>.undef
 | .eqa neg _ x y=>match ρ x,ρ y with
  | .agg a, .agg b=>.bool (neg != cM a b)
  | _,_=>.undef
 | .un op x=>unV op (ρ x)
 | .conv k x=>.int k (k.wrap (cg (ρ x)))
 | .convs x=>ρ x
 | .b2s x=>match ρ x with
  | .slice _ xs=>.str ⟨(u8s xs).toArray⟩
  | _=>.undef
 | .mkfunc fn first caps=>.func fn (first.map ρ) (caps.map ρ)
 | .fieldAddr k off x=>kW k off (ρ x)
 | .field k off x=>G4 k off (ρ x)
 | .ixS _ x i=>Iy (cg (ρ i)) (ρ x)
 | .ixA _ sz k x i=>kW k ((cg (ρ i)).toNat * sz) (ρ x)
 | .ixV _ sz k x i=>G4 k ((cg (ρ i)).toNat * sz) (ρ x)
 | .ixStr x i=>match ρ x with
  | .str s=>.int .u8 (s.data.getD (cg (ρ i)).toNat 0).toNat
  | _=>.undef
 | .extract x i=>match ρ x with
  | .tup vs=>vs.getD i .undef
  | _=>.undef
 | .len x=>Jp (ρ x)
 | .lenStr x=>match ρ x with
  | .str s=>.int .i64 s.size
  | _=>.undef
 | .lenA n _=>.int .i64 n
 | .mx l=>match l.map ρ with
  | []=>.undef
  | x :: r=>r.foldl DO x
 | .mn l=>match l.map ρ with
  | []=>.undef
  | x :: r=>r.foldl E2 x
 | .mkiface t x=>.iface t (ρ x)
 | .assert _ x=>match ρ x with
  | .iface _ v=>v
  | _=>.undef
 | .subStr x lo hi=>match ρ x with
  | .str s=>.str (s.extract (aR ρ 0 lo).toNat (aR ρ s.size hi).toNat)
  | _=>.undef
 | .subq sz x lo hi=>match ρ x with
  | .slice _ xs=>.slice sz ((xs.take (aR ρ xs.length hi).toNat).drop (aR ρ 0 lo).toNat)
  | .oslice _ xs _ _=>.slice sz ((xs.take (aR ρ xs.length hi).toNat).drop (aR ρ 0 lo).toNat)
  | _=>.undef
 | .lookup ok z x i=>match ρ x with
  | .map b=>match σ.get b with
   | .amap es=>fA ok z (bC (ρ i) es)
   | _=>.undef
  | _=>.undef
 | _=>.undef
def AI.side (ρ:aM → ag) (σ:af):AI → Prop
 | .mv _=>True
 | .build z ps=>fZ z.length ρ ps
 | .lit m sz n ps=>m = 0 ∧ gV sz n ρ ps
 | .load k x=>fT k σ (ρ x)
 | .nilchk x=>match ρ x with
  | .pval _ | .ptr _ _ | .eptr _ _ _ _ _ | .func (.func _) _ _=>True
  | _=>False
 | .bin op x y=>yr op (ρ x) (ρ y)
 | .eqb _ x y=>match ρ x,ρ y with
  | .bool _, .bool _=>True
  | _,_=>False
 | .eqa _ ks x y=>match ρ x,ρ y with
  | .agg a, .agg b=>bq ks a b = true
  | _,_=>False
 | .un op x=>DQ op (ρ x)
 | .conv _ x=>isInt (ρ x)
 | .convs x=>match ρ x with
  | .str _=>True
  | _=>False
 | .b2s x=>match ρ x with
  | .slice sz xs=>sz = 1 ∧ wJ xs = true
  | _=>False
 | .mkfunc _ _ _=>True
 | .fieldAddr k off x=>jJ k off (ρ x)
 | .field k off x=>BZ k off (ρ x)
 | .ixS sz x i=>isInt (ρ i) ∧ FA sz (cg (ρ i)) (ρ x)
 | .ixA m sz k x i=>isInt (ρ i) ∧ 0 ≤ cg (ρ i) ∧ cg (ρ i) < m ∧ jJ k ((cg (ρ i)).toNat * sz) (ρ x)
 | .ixV m sz k x i=>isInt (ρ i) ∧ 0 ≤ cg (ρ i) ∧ cg (ρ i) < m ∧ BZ k ((cg (ρ i)).toNat * sz) (ρ x)
 | .ixStr x i=>isInt (ρ i) ∧ match ρ x with
  | .str s=>0 ≤ cg (ρ i) ∧ cg (ρ i) < s.size
  | _=>False
 | .extract x i=>match ρ x with
  | .tup vs=>i < vs.length
  | _=>False
 | .len x=>D7 (ρ x)
 | .lenStr x=>match ρ x with
  | .str _=>True
  | _=>False
 | .lenA _ _=>True
 | .mx l | .mn l=>l.map ρ ≠ [] ∧ w6 (l.map ρ)
 | .mkiface _ _=>True
 | .assert t x=>match ρ x with
  | .iface u _=>u = t
  | _=>False
 | .subStr x lo hi=>dI ρ lo ∧ dI ρ hi ∧ match ρ x with
  | .str s=>0 ≤ aR ρ 0 lo ∧ aR ρ 0 lo ≤ aR ρ s.size hi ∧ aR ρ s.size hi ≤ s.size
  | _=>False
 | .subq sz x lo hi=>dI ρ lo ∧ dI ρ hi ∧ match ρ x with
  | .slice sz' xs=>(sz' = sz ∨ xs = []) ∧ 0 ≤ aR ρ 0 lo ∧ aR ρ 0 lo ≤ aR ρ xs.length hi ∧ aR ρ xs.length hi ≤ xs.length
  | .oslice sz' xs _ _=>sz' = sz ∧ 0 ≤ aR ρ 0 lo ∧ aR ρ 0 lo ≤ aR ρ xs.length hi ∧ aR ρ xs.length hi ≤ xs.length
  | _=>False
 | .lookup _ _ x i=>match ρ x with
  | .map b=>match σ.get b with
   | .amap es=>gA (ρ i) (ρ i) = true ∧ eZ (ρ i) es = true
   | _=>False
  | _=>False
 | _=>False
def AI.plain:AI → Bool
 | .mv _ | .build _ _ | .load _ _ | .nilchk _ | .bin _ _ _ | .eqb _ _ _ | .eqa _ _ _ _ | .un _ _ | .conv _ _ | .convs _ | .b2s _ | .mkfunc _ _ _ | .fieldAddr _ _ _ | .field _ _ _ | .ixS _ _ _ | .ixA _ _ _ _ _
 | .ixV _ _ _ _ _ | .ixStr _ _ | .extract _ _ | .len _ | .lenStr _ | .lenA _ _ | .mx _ | .mn _ | .mkiface _ _ | .assert _ _ | .lookup _ _ _ _ | .subStr _ _ _ | .subq _ _ _ _=>true
 | .lit m _ _ _=>m == 0
 | _=>false
def ag.iW:ag → ag
 | .mint sz=>.slice sz []
 | v=>v
def cG:List ag → Nat → List ag × List bR
 | [],_=>([],[])
 | .mint sz :: r,n=>if sz < 1000 then (.oslice sz [] n 0 :: (cG r (n + 1)).1, .spare sz 0 :: (cG r (n + 1)).2)
   else (.sref (sz - 1000) n 0 0 0 :: (cG r (n + 1)).1, .arr (sz - 1000) [] :: (cG r (n + 1)).2)
 | v :: r,n=>(v :: (cG r n).1,(cG r n).2)
def ng (v:ag) (f:Nat) (cells:List ag):ag:=
 match v with
 | .agg cs=>.agg (putCells cs f cells)
 | _=>cells.getD 0 .undef
def mM (v:ag) (f n:Nat):Prop:=
 match v with
 | .agg cs=>f + n ≤ cs.length
 | v=>v.fH = true ∧ f = 0 ∧ n = 1
def gL (σ:af) (sz:Nat) (v:ag):ag → Prop
 | .ptr b off=>bM v sz ∧ eY v.cells = true ∧ match σ.get b with
  | .box cs=>off + sz ≤ cs.length
  | _=>False
 | .eptr esz b i f n=>bM v sz ∧ eY v.cells = true ∧ match σ.get b with
  | .arr esz' xs=>esz' = esz ∧ xs.length = n ∧ i < n ∧ mM (xs.getD i .undef) f sz
  | _=>False
 | _=>False
def jN (σ:af) (v:ag):ag → af
 | .ptr b off=>match σ.get b with
  | .box cs=>σ.set b (.box (putCells cs off v.cells))
  | _=>σ
 | .eptr _ b i f _=>match σ.get b with
  | .arr esz xs=>σ.set b (.arr esz (xs.set i (ng (xs.getD i .undef) f v.cells)))
  | _=>σ
 | _=>σ
def Cl (c:Bool) (a b:ag):ag:=
 match a,b with
 | .bool x, .bool y=>.bool (if c = true then x else y)
 | _,_=>if c = true then a else b
def wT:ag → Bool
 | .bool b=>b
 | _=>false
def isBool:ag → Prop
 | .bool _=>True
 | _=>False
def Fits (sz:Nat) (ys:List ag):Prop:=∀ v ∈ ys,bM v sz ∧ eY v.cells = true
def iB (sz bytes:Nat) (σ:af) (x:ag) (ys:List ag) (K:ag → af → Prop):Prop:=
 match x with
 | .nils sz'=>sz' = sz ∧ ys.length * bytes ≤ 140737488355328 ∧ K (.oslice sz ys σ.length 1) (σ ++ [.spare sz 1])
 | .oslice sz' xs b k=>sz' = sz ∧ (xs.length + ys.length) * bytes ≤ 140737488355328 ∧ match σ.get b with
  | .spare sz'' k'=>sz'' = sz ∧ k' = k ∧ K (.oslice sz (xs ++ ys) b (k + 1)) (σ.set b (.spare sz (k + 1)))
  | _=>False
 | .sref sz' b off len n=>sz' = sz ∧ match σ.get b with
  | .arr sz'' xs=>sz'' = sz ∧ xs.length = n ∧
    if off + len + ys.length ≤ n then K (.sref sz b off (len + ys.length) n) (σ.set b (.arr sz (xs.take (off + len) ++ ys ++ xs.drop (off + len + ys.length))))
    else off = 0 ∧ len = n ∧ (n + ys.length) * bytes ≤ 140737488355328 ∧ K (.sref sz b 0 (n + ys.length) (n + ys.length)) (σ.set b (.arr sz (xs ++ ys)))
  | _=>False
 | _=>False
def E4 (m sz:Nat) (σ:af) (x:ag) (lo:Int) (hi:Int → Int) (mx:Option Int) (K:ag → af → Prop):Prop:=
 let go (xs:List ag):Prop:=
  0 ≤ lo ∧ lo ≤ hi xs.length ∧ (match mx with
   | none=>hi xs.length ≤ xs.length ∧ m = 0
   | some v=>hi xs.length ≤ v ∧ v ≤ xs.length ∧ (m = 1 → v = hi xs.length) ∧ (m = 2 → v = 0)) ∧
  (if m = 0 then K (.slice sz ((xs.take (hi xs.length).toNat).drop lo.toNat)) σ
  else if m = 1 then K (.oslice sz ((xs.take (hi xs.length).toNat).drop lo.toNat) σ.length 0) (σ ++ [.spare sz 0])
  else m = 2 ∧ K (.sref sz σ.length 0 0 0) (σ ++ [.arr sz []]))
 match x with
 | .slice sz' xs=>(sz' = sz ∨ xs = []) ∧ go xs
 | .oslice sz' xs _ _=>sz' = sz ∧ go xs
 | .sref sz' b off len n=>if m = 3 then (match mx with
   | some v=>0 ≤ lo ∧ lo ≤ hi len ∧ hi len ≤ v ∧ v ≤ len ∧ K .undef σ
   | none=>False)
  else sz' = sz ∧ m = 0 ∧ mx = none ∧ 0 ≤ lo ∧ lo ≤ hi len ∧ off + hi len ≤ n ∧ K (.sref sz b (off + lo.toNat) (hi len - lo).toNat n) σ
 | _=>False
def DW (m sz bytes:Nat) (σ:af) (z:ag) (n c:Int) (K:ag → af → Prop):Prop:=
 0 ≤ n ∧ n ≤ c ∧ c * bytes ≤ 140737488355328 ∧ c ≤ 140737488355328 ∧
 (if m = 1 then n = 0 ∧ K (.oslice sz [] σ.length 0) (σ ++ [.spare sz 0])
 else if m = 2 then K (.sref sz σ.length 0 n.toNat n.toNat) (σ ++ [.arr sz (List.replicate n.toNat z)])
 else m = 0 ∧ K (.slice sz (List.replicate n.toNat z)) σ)
def AL (sz:Nat) (σ:af) (z:ag) (x:ag) (K:ag → af → Prop):Prop:=
 match x with
 | .sref sz' b off len n=>sz' = sz ∧ bM z sz ∧ eY z.cells = true ∧ match σ.get b with
  | .arr sz'' xs=>sz'' = sz ∧ xs.length = n ∧ K (.tup []) (σ.set b (.arr sz (xs.take off ++ List.replicate len z ++ xs.drop (off + len))))
  | _=>False
 | _=>False
def Fe (sz:Nat) (σ:af) (x:ag) (ys:List ag) (K:ag → af → Prop):Prop:=
 match x with
 | .sref sz' b off len n=>sz' = sz ∧ match σ.get b with
  | .arr sz'' xs=>sz'' = sz ∧ xs.length = n ∧ K (.int .i64 (min ys.length len:Nat)) (σ.set b (.arr sz (xs.take off ++ ys.take len ++ xs.drop (off + min ys.length len))))
  | _=>False
 | _=>False
def xB (σ:af) (x:ag) (K:ag → af → Prop):Prop:=
 match x with
 | .str y=>K (.iter σ.length) (σ ++ [.siter y 0])
 | _=>False
def Cb (σ:af) (x:ag) (K:ag → af → Prop):Prop:=
 match x with
 | .iter b=>match σ.get b with
  | .siter y pos=>if pos < y.size then K (.tup [.bool true, .int .i64 pos, .int .i32 (Utf8.decode y pos).1]) (σ.set b (.siter y (pos + (Utf8.decode y pos).2))) else K (.tup [.bool false]) σ
  | _=>False
 | _=>False
def xh (sz:Nat) (σ:af) (x:ag) (K:ag → af → Prop):Prop:=
 match x with
 | .sref sz' b off len n=>sz' = sz ∧ match σ.get b with
  | .arr sz'' xs=>sz'' = sz ∧ xs.length = n ∧ K (.slice sz ((xs.drop off).take len)) (σ.set b .dead)
  | _=>False
 | _=>False
def Fs (bytes:Nat) (σ:af) (x y:ag) (K:ag → af → Prop):Prop:=
 match y with
 | .str s=>iB 1 bytes σ x (vf s) K
 | _=>False
def B6 (n sz:Nat) (σ:af) (x:ag) (K:ag → af → Prop):Prop:=
 match x with
 | .ptr b 0=>match σ.get b with
  | .box cs=>sz = 1 ∧ cs.length = n ∧ kg cs = true ∧ K (.slice 1 cs) (σ.set b .dead)
  | _=>False
 | _=>False
def FN (sz:Nat) (σ:af) (x lo:ag) (K:ag → af → Prop):Prop:=
 match x,lo with
 | .oslice sz' xs b k, .int _ n=>sz' = sz ∧ 0 ≤ n ∧ n ≤ xs.length ∧ match σ.get b with
  | .spare sz'' k'=>sz'' = sz ∧ k' = k ∧ K (.oslice sz (xs.drop n.toNat) b (k + 1)) (σ.set b (.spare sz (k + 1)))
  | _=>False
 | _,_=>False
/-! A table of the program. -/
def ly (g:Nat):List (Nat × List (IntKind × Int)) → List (IntKind × Int)
 | []=>[]
 | (h,cs) :: r=>if h = g then cs else ly g r
def JE (g:Nat) (σ:af) (x:ag) (K:ag → af → Prop):Prop:=
 match x with
 | .int _ n=>0 ≤ n ∧ match (ly g dt)[n.toNat]? with
  | some (k,v)=>K (.pval (.int k v)) σ
  | none=>False
 | _=>False
def Ac (neg:Bool) (σ:af) (x:ag) (K:ag → af → Prop):Prop:=
 match x with
 | .niliface=>K (.bool !neg) σ
 | .iface _ _=>K (.bool neg) σ
 | _=>False
/-! Is a slice nil? Of an empty one nobody knows. -/
def B5 (neg:Bool) (σ:af) (x:ag) (K:ag → af → Prop):Prop:=
 match x with
 | .slice _ xs | .oslice _ xs _ _=>K (.bool neg) σ ∧ (xs = [] → K (.bool !neg) σ)
 | .sref _ _ _ len _=>K (.bool neg) σ ∧ (len = 0 → K (.bool !neg) σ)
 | _=>False
/-! Maps whose keys are numbers, strings or Booleans. -/
def rp (lk:LK) (k:ag):List (ag × ag) → Bool
 | []=>true
 | e :: r=>eQ lk k e.1 && rp lk k r
def jZ (k:ag):List (ag × ag) → Option ag
 | []=>none
 | e :: r=>if fk k e.1 then some e.2 else jZ k r
def kL (k v:ag):List (ag × ag) → List (ag × ag)
 | []=>[(k,v)]
 | e :: r=>if fk k e.1 then (k,v) :: r else e :: kL k v r
def B0 (ok:Bool) (lk:LK) (z:ag) (σ:af) (x k:ag) (K:ag → af → Prop):Prop:=
 match x with
 | .map b=>match σ.get b with
  | .amap es=>rp lk k es = true ∧ K (fA ok z (jZ k es)) σ
  | _=>False
 | _=>False
def BJ (lk:LK) (σ:af) (x k v:ag) (K:ag → af → Prop):Prop:=
 match x with
 | .map b=>match σ.get b with
  | .amap es=>rp lk k es = true ∧ K .undef (σ.set b (.amap (kL k v es)))
  | _=>False
 | _=>False
def xJ (ok:Bool) (z:ag) (σ:af) (x k:ag) (K:ag → af → Prop):Prop:=
 match x with
 | .map b=>match σ.get b with
  | .amap es=>gA k k = true ∧ eZ k es = true ∧ K (fA ok z (bC k es)) σ
  | _=>False
 | _=>False
def xH (σ:af) (x k v:ag) (K:ag → af → Prop):Prop:=
 match x with
 | .map b=>match σ.get b with
  | .amap es=>gA k k = true ∧ eZ k es = true ∧ K .undef (σ.set b (.amap (bp k v es)))
  | _=>False
 | _=>False
def Cf (z:ag) (σ:af) (x k:ag) (K:ag → af → Prop):Prop:=
 match x with
 | .map b=>match σ.get b with
  | .amap es=>gA k k = true ∧ eZ k es = true ∧ K (.tup [fA false z (bC k es), .int .i64 (cK k es 0)]) (σ.set b (.amap (bp k (fA false z (bC k es)) es)))
  | _=>False
 | _=>False
def sM (σ:af) (x s v:ag) (K:ag → af → Prop):Prop:=
 match x,s with
 | .map b, .int .i64 n=>match σ.get b with
  | .amap es=>0 ≤ n ∧ n < es.length ∧ K .undef (σ.set b (.amap (es.set n.toNat ((es.getD n.toNat (.undef, .undef)).1,v))))
  | _=>False
 | _,_=>False
def ag.down:ag → ag
 | .nils sz=>.slice sz []
 | .oslice sz xs _ _=>.slice sz xs
 | v=>v
def ag.pX:ag → ag
 | .agg cs=>.agg (cs.map ag.down)
 | v=>v.down
def bT:List Bool → List ag → List ag
 | true :: r,v :: l=>v.pX :: bT r l
 | _ :: r,v :: l=>v :: bT r l
 | [],l=>l
 | _,[]=>[]
mutual
def aS:ag → Value → Bool
 | .bool a, .bool b=>a == b
 | .int j a, .int k b=>decide (j = k) && a == b
 | .str a, .string b=>decide (a = b)
 | .slice _ xs, .slice none l c=>xs.isEmpty && l == 0 && c == 0
 | .nilptr, .pointer none=>true
 | .nilfunc, .nilFunc=>true
 | .niliface, .nilIface=>true
 | .nilmap, .map none=>true
 | .agg cs, .agg vs=>bU cs vs.toList
 | .undef,_=>true
 | .nils _, .slice none l c=>l == 0 && c == 0
 | _,_=>false
def bU:List ag → List Value → Bool
 | [],[]=>true
 | a :: r,b :: t=>aS a b && bU r t
 | _,_=>false
end
theorem iH:∀ {cs:List ag} {vs:List Value},bU cs vs = true → vs.length = cs.length
 | [],[],_=>rfl
 | a :: r,b :: t,h=>by simp only [bU,Bool.and_eq_true] at h; simp [iH h.2]
 | [],_ :: _,h=>by simp [bU] at h
 | _ :: _,[],h=>by simp [bU] at h
mutual
theorem dC {s:St}:∀ {v:ag} {c:Value},aS v c = true → Rv s v c
 | .bool a,c,h=>by cases c <;> simp [aS] at h; subst h; exact .bool _
 | .int j a,c,h=>by cases c <;> simp [aS] at h; obtain ⟨rfl,rfl⟩:=h; exact .int _ _
 | .str a,c,h=>by cases c <;> simp [aS] at h; subst h; exact .str _
 | .slice sz xs,c,h=>by
  cases c with
  | slice a l cap=>
   cases a <;> simp [aS] at h;obtain ⟨⟨rfl,rfl⟩,rfl⟩:=h; exact .slice0 _ _ _
  | _=>simp [aS] at h
 | .nilptr,c,h=>by
  cases c with
  | pointer a=>cases a <;> simp [aS] at h; exact .nilptr
  | _=>simp [aS] at h
 | .nilfunc,c,h=>by cases c <;> simp [aS] at h; exact .nilfunc
 | .niliface,c,h=>by cases c <;> simp [aS] at h; exact .niliface
 | .nilmap,c,h=>by
  cases c with
  | map a=>cases a <;> simp [aS] at h; exact .nilmap
  | _=>simp [aS] at h
 | .agg cs,c,h=>by
  cases c with
  | agg vs=>
   simp only [aS] at h;refine .agg cs vs (by simpa using iH h) (fun j h1 h2=>?_);have:=jt (s:=s) h j h1 (by simpa using h2);simpa using this
  | _=>simp [aS] at h
 | .undef,c,_=>.undef c
 | .nils sz,c,h=>by
  cases c with
  | slice a l cap=>
   cases a <;> simp [aS] at h;obtain ⟨rfl,rfl⟩:=h; exact .nils _
  | _=>simp [aS] at h
 | .tup _,c,h=>by cases c <;> simp [aS] at h
 | .oslice _ _ _ _,c,h=>by cases c <;> simp [aS] at h
 | .sref _ _ _ _ _,c,h=>by cases c <;> simp [aS] at h
 | .pval _,c,h=>by cases c <;> simp [aS] at h
 | .ptr _ _,c,h=>by cases c <;> simp [aS] at h
 | .eptr _ _ _ _ _,c,h=>by cases c <;> simp [aS] at h
 | .func _ _ _,c,h=>by cases c <;> simp [aS] at h
 | .iface _ _,c,h=>by cases c <;> simp [aS] at h
 | .map _,c,h=>by cases c <;> simp [aS] at h
 | .opt _ _,c,h=>by cases c <;> simp [aS] at h
 | .mint _,c,h=>by cases c <;> simp [aS] at h
 | .iter _,c,h=>by cases c <;> simp [aS] at h
 | .yieldf _,c,h=>by cases c <;> simp [aS] at h
theorem jt {s:St}:∀ {cs:List ag} {vs:List Value},bU cs vs = true → ∀ j (h1:j < cs.length) (h2:j < vs.length),Rv s cs[j] vs[j]
 | [],_,_,j,h1,_=>by simp at h1
 | a :: r,[],h,_,_,_=>by simp [bU] at h
 | a :: r,b :: t,h,0,_,_=>by simp only [bU,Bool.and_eq_true] at h; exact dC h.1
 | a :: r,b :: t,h,j + 1,h1,h2=>by
  simp only [bU,Bool.and_eq_true] at h;have:=jt (s:=s) h.2 j (by simpa using h1) (by simpa using h2);simpa using this
end
def aJ:aM → Operand → Bool
 | .t n, .tmp m=>n == m
 | .c v, .const u=>aS v u
 | .f n, .func m=>n == m
 | _,_=>false
def eR:Option TypeDesc → Option Bool
 | some (.struct _) | some (.array _ _)=>some true
 | some _=>some false
 | none=>none
def kOk (P:Program) (t:TypeId) (k:Option Nat):Bool:=
 match eR (P.underlying t),k with
 | some true,some n=>P.cellsOf t == n && (P.info? t).isSome
 | some false,none=>(P.info? t).isSome
 | _,_=>false
def eL:List aM → List Operand → Bool
 | [],[]=>true
 | a :: r,b :: t=>aJ a b && eL r t
 | _,_=>false
def ff (P:Program) (t:TypeId) (z:List ag):Bool:=
 match (P.info? t).bind (·.zero) with
 | some v=>bU z v.cells.toList
 | none=>false
def mY (P:Program) (t:TypeId) (i:Nat):Option (Nat × Nat):=
 match P.underlying t with
 | some (.struct fs)=>(fs[i]?).map fun f=>(f.offset,P.cellsOf f.type)
 | some (.array _ e)=>some (i * P.cellsOf e,P.cellsOf e)
 | _=>none
def gK (P:Program) (t:TypeId):List (Nat × Nat × aM) → List (Nat × Operand) → Bool
 | [],[]=>true
 | (off,sz,x) :: r,(i,y) :: q=>mY P t i == some (off,sz) && aJ x y && gK P t r q
 | _,_=>false
def nj (P:Program) (t:TypeId):Bool:=
 match P.underlying t with
 | some (.struct fs)=>fs.toList.all fun f=>(P.info? f.type).isSome
 | some (.array _ e)=>(P.info? e).isSome
 | _=>false
def iM (g:TypeId → Option (List LK)):List Field → Nat → Option (List LK)
 | [],_=>some []
 | f :: r,o=>
  if f.name ≠ "_" ∧ f.offset = o then
   match g f.type with
   | some l=>if l.length = 0 then none else match iM g r (o + l.length) with
    | some l'=>some (l ++ l')
    | none=>none
   | none=>none
  else none
def jc (P:Program):Nat → TypeId → Option (List LK)
 | 0,_=>none
 | d + 1,t=>
  match P.underlying t with
  | some .bool=>if kOk P t none then some [.b] else none
  | some .string=>if kOk P t none then some [.s] else none
  | some (.int _)=>if kOk P t none then some [.i] else none
  | some (.struct fs)=>
   if P.stoodInHeld t then none else
   match iM (jc P d) fs.toList 0 with
   | some l=>if kOk P t (some l.length) then some l else none
   | none=>none
  | _=>none
def eqFields (P:Program) (d:Nat) (fs:List Field) (o:Nat):Option (List LK):=iM (jc P d) fs o
theorem qB (P:Program) (d:Nat) (fs:List Field) (o:Nat):iM (jc P d) fs o = eqFields P d fs o:=rfl
def qx (P:Program) (t:TypeId) (n:Nat):Bool:=
 match (P.info? t).bind (·.zero) with
 | some v=>v.cells.size == n
 | none=>false
def j8:List (Nat × aM) → List (Nat × Operand) → Bool
 | [],[]=>true
 | (i,x) :: r,(j,y) :: q=>i == j && aJ x y && j8 r q
 | _,_=>false
def eU:Option aM → Option Operand → Bool
 | none,none=>true
 | some x,some y=>aJ x y
 | _,_=>false
def ib:TypeDesc → Option LK
 | .int _=>some .i
 | .string=>some .s
 | .bool=>some .b
 | _=>none
def eM (P:Program) (t:TypeId):Bool:=match P.underlying t with
 | some (.struct fs)=>match fs.toList with
  | [f, g] => decide (f.name ≠ "_") && decide (g.name ≠ "_") && decide (f.offset = 0) && decide (g.offset = 1) && kOk P f.type none && kOk P g.type none &&
    (match P.underlying f.type with | some (.int _)=>true | _=>false) && (match P.underlying g.type with | some (.int _)=>true | _=>false) && decide (jc P 20 t = some [.i, .i]) && kOk P t (some 2)
  | _=>false
 | _=>false
def zeroV (P:Program) (t:TypeId) (z:ag):Bool:=
 match (P.info? t).bind (·.zero) with
 | some v=>aS z v
 | none=>false
def aX (P : Program) (i : AI) (o : Op) : Bool :=
 match i with
 | .mv x=>match o with
  | .move y=>aJ x y
  | .assign y=>aJ x y
  | _=>false
 | .pick c x y=>match o with
  | .pick c' x' y'=>aJ c c' && aJ x x' && aJ y y'
  | _=>false
 | .alloc z=>match o with
  | .alloc t=>ff P t (z.map ag.iW)
  | _=>false
 | .box n x=>match o with
  | .box t y=>P.cellsOf t == n && aJ x y
  | _=>false
 | .loadd k x=>match o with
  | .load t y=>kOk P t k && aJ x y
  | _=>false
 | .mvd x=>match o with
  | .move y=>aJ x y
  | .assign y=>aJ x y
  | _=>false
 | .pbox n x=>match o with
  | .box t y=>P.cellsOf t == n && aJ x y
  | _=>false
 | .build z ps=>match o with
  | .build t parts=>ff P t z && nj P t && gK P t ps parts.toList
  | _=>false
 | .load k x=>match o with
  | .load t y=>kOk P t k && aJ x y
  | _=>false
 | .store sz x v=>match o with
  | .store t y u=>P.cellsOf t == sz && (P.info? t).isSome && aJ x y && aJ v u
  | _=>false
 | .nilchk x=>match o with
  | .nilCheck y=>aJ x y
  | _=>false
 | .bin op x y=>match o with
  | .binOp op' _ a b _=>decide (op = op') && aJ x a && aJ y b
  | _=>false
 | .un op x=>match o with
  | .unOp op' _ a=>decide (op = op') && aJ x a
  | _=>false
 | .eqb neg x y=>match o with
  | .binOp op t a b _=>decide (op = if neg then BinOp.neq else BinOp.eql) && (match P.underlying t with | some .bool=>true | _=>false) && aJ x a && aJ y b
  | _=>false
 | .eqa neg ks x y=>match o with
  | .binOp op t a b _=>decide (op = if neg then BinOp.neq else BinOp.eql) && decide (jc P 20 t = some ks) && kOk P t (some ks.length) && !P.eqGuardType P.depth t && aJ x a && aJ y b
  | _=>false
 | .isnil neg x=>match o with
  | .binOp op t a (.const .nilIface) _=>decide (op = if neg then BinOp.neq else BinOp.eql) && (match P.underlying t with | some (.interface _)=>true | _=>false) && aJ x a
  | _=>false
 | .conv k x=>match o with
  | .convert src dst y=>(P.underlying src).isSome && (match P.underlying dst with | some (.int k')=>decide (k = k') | _=>false) && aJ x y
  | _=>false
 | .convs x=>match o with
  | .convert src dst y=>(P.underlying src).isSome && (match P.underlying dst with | some .string=>true | _=>false) && aJ x y
  | _=>false
 | .mkfunc fn first caps=>match o with
  | .makeFunc fn' a b=>decide (fn = fn') && eL first a.toList && eL caps b.toList
  | _=>false
 | .fieldAddr k off x=>match o with
  | .fieldAddr t y f=>match P.underlying t with
   | some (.struct fs)=>match fs[f]? with
    | some fd=>fd.offset == off && kOk P fd.type k && P.cellsOf fd.type != 0 && aJ x y
    | none=>false
   | _=>false
  | _=>false
 | .field k off x=>match o with
  | .field t y f=>match P.underlying t with
   | some (.struct fs)=>match fs[f]? with
    | some fd=>fd.offset == off && kOk P fd.type k && aJ x y
    | none=>false
   | _=>false
  | _=>false
 | .ixS sz x y=>match o with
  | .indexAddr t a b=>match P.underlying t with
   | some (.slice e)=>P.cellsOf e == sz && (P.info? e).isSome && aJ x a && aJ y b
   | _=>false
  | _=>false
 | .ixA m sz k x y=>match o with
  | .indexAddr t a b=>match P.underlying t with
   | some (.array n e)=>n == m && P.cellsOf e == sz && kOk P e k && aJ x a && aJ y b
   | _=>false
  | _=>false
 | .ixV m sz k x y=>match o with
  | .index t a b=>match P.underlying t with
   | some (.array n e)=>n == m && P.cellsOf e == sz && kOk P e k && aJ x a && aJ y b
   | _=>false
  | _=>false
 | .ixStr x y=>match o with
  | .index t a b=>match P.underlying t with
   | some .string=>aJ x a && aJ y b
   | _=>false
  | _=>false
 | .extract x j=>match o with
  | .extract y j'=>j == j' && aJ x y
  | _=>false
 | .len x=>match o with
  | .call c=>match c.callee with
   | .builtin .len=>match c.args.toList,c.argTypes.toList with
    | [y],[t]=>(match P.underlying t with | some (.slice _)=>true | _=>false) && aJ x y
    | _,_=>false
   | _=>false
  | _=>false
 | .lenStr x=>match o with
  | .call c=>match c.callee with
   | .builtin .len=>match c.args.toList,c.argTypes.toList with
    | [y],[t]=>(match P.underlying t with | some .string=>true | _=>false) && aJ x y
    | _,_=>false
   | _=>false
  | _=>false
 | .lenA n x=>match o with
  | .call c=>match c.callee with
   | .builtin .len=>match c.args.toList,c.argTypes.toList with
    | [y],[t]=>(match P.underlying t with | some (.array m _)=>m == n | _=>false) && aJ x y
    | _,_=>false
   | _=>false
  | _=>false
 | .mx l=>match o with
  | .call c=>match c.callee with
   | .builtin .max=>eL l c.args.toList
   | _=>false
  | _=>false
 | .mn l=>match o with
  | .call c=>match c.callee with
   | .builtin .min=>eL l c.args.toList
   | _=>false
  | _=>false
 | .mkiface t x=>match o with
  | .makeInterface t' y=>t == t' && (match P.underlying t with | some (.interface _) | none=>false | _=>true) && aJ x y
  | _=>false
 | .assert t x=>match o with
  | .typeAssert y _ t' ok=>!ok && t == t' && (match P.underlying t with | some (.interface _) | none=>false | _=>true) && aJ x y
  | _=>false
 | .buildm z ps=>match o with
  | .build t parts=>ff P t (z.map ag.iW) && nj P t && gK P t ps parts.toList
  | _=>false
 | .storem _ x=>match o with
  | .store t y (.const (.slice none 0 0))=>P.cellsOf t == 1 && (P.info? t).isSome && aJ x y
  | _=>false
 | .nilS _ _=>match o with
  | .move (.const (.slice none 0 0))=>true
  | .assign (.const (.slice none 0 0))=>true
  | _=>false
 | .lit _ sz n ps=>match o with
  | .buildSlice t n' parts=>match P.underlying t with
   | some (.slice e)=>P.cellsOf e == sz && (P.info? e).isSome && n == n' && decide (n * sz ≤ 2 ^ 24) && decide (0 < sz) && qx P e sz && j8 ps parts.toList
   | _=>false
  | _=>false
 | .append sz bytes x y=>match o with
  | .call c=>match c.callee with
   | .builtin .append=>match c.args.toList,c.argTypes.toList with
    | [x',y'],[t,tx]=>match P.underlying t,P.underlying tx with
     | some (.slice e),some (.slice _)=>P.cellsOf e == sz && decide (0 < sz) && (match P.info? e with | some i=>i.bytes == bytes && (match i.zero with | some z=>z.cells.size == sz | none=>false) && i.size == sz && decide (0 < bytes) | none=>false) && aJ x x' && aJ y y'
     | _,_=>false
    | _,_=>false
   | _=>false
  | _=>false
 | .sub _ sz x lo hi mx=>match o with
  | .slice t x' lo' hi' mx'=>match P.underlying t with
   | some (.slice e)=>P.cellsOf e == sz && decide (0 < sz) && (P.info? e).isSome && aJ x x' && eU lo lo' && eU hi hi' && eU mx mx' && (!mx.isSome || hi.isSome)
   | _=>false
  | _=>false
 | .subq sz x lo hi=>match o with
  | .slice t x' lo' hi' none=>match P.underlying t with
   | some (.slice e)=>P.cellsOf e == sz && (P.info? e).isSome && aJ x x' && eU lo lo' && eU hi hi'
   | _=>false
  | _=>false
 | .subStr x lo hi=>match o with
  | .slice t x' lo' hi' none=>match P.underlying t with
   | some .string=>aJ x x' && eU lo lo' && eU hi hi'
   | _=>false
  | _=>false
 | .range x=>match o with
  | .range t y=>(match P.underlying t with | some .string=>true | _=>false) && aJ x y
  | _=>false
 | .next x=>match o with
  | .next y true=>aJ x y
  | _=>false
 | .freeze _ x=>match o with
  | .move y=>aJ x y
  | .assign y=>aJ x y
  | _=>false
 | .mksl _ sz bytes z n c=>match o with
  | .makeSlice t n' c'=>match P.underlying t with
   | some (.slice e)=>P.cellsOf e == sz && decide (0 < sz) && (match P.info? e with | some i=>i.bytes == bytes && i.size == sz && (match i.zero with | some v=>v.cells.size == sz && aS z v | none=>false) | none=>false) && aJ n n' && aJ c c'
   | _=>false
  | _=>false
 | .clear sz z x=>match o with
  | .call c=>match c.callee with
   | .builtin .clear=>match c.args.toList,c.argTypes.toList with
    | [x'],[t]=>match P.underlying t with
     | some (.slice e)=>decide (0 < sz) && (match P.info? e with | some i=>i.size == sz && (match i.zero with | some v=>v.cells.size == sz && aS z v | none=>false) | none=>false) && aJ x x'
     | _=>false
    | _,_=>false
   | _=>false
  | _=>false
 | .copyB sz x y=>match o with
  | .call c=>match c.callee with
   | .builtin .copy=>match c.args.toList,c.argTypes.toList with
    | [x',y'],[t,tx]=>match P.underlying t,P.underlying tx with
     | some (.slice e),some (.slice _)=>P.cellsOf e == sz && decide (0 < sz) && (P.info? e).isSome && aJ x x' && aJ y y'
     | _,_=>false
    | _,_=>false
   | _=>false
  | _=>false
 | .subO sz x lo=>match o with
  | .slice t x' (some lo') none none=>match P.underlying t with
   | some (.slice e)=>P.cellsOf e == sz && decide (0 < sz) && (P.info? e).isSome && aJ x x' && aJ lo lo'
   | _=>false
  | _=>false
 | .snil neg x=>match o with
  | .binOp op t a (.const (.slice none 0 0)) _=>decide (op = if neg then BinOp.neq else BinOp.eql) && (match P.underlying t with | some (.slice _)=>true | _=>false) && aJ x a
  | _=>false
 | .gix g x=>match o with
  | .indexAddr t (.global g') y=>g == g' && (match P.underlying t with
   | some (.array n e)=>n == (ly g dt).length && P.cellsOf e == 1 && (P.info? e).isSome
   | _=>false) && aJ x y
  | _=>false
 | .mnew=>match o with
  | .makeMap t r=>(match P.underlying t with | some (.map _ _)=>true | _=>false) && (match r with | none=>true | some (.const (.int _ _))=>true | _=>false)
  | _=>false
 | .mget ok lk z x i=>match o with
  | .lookup t x' i' ok'=>match P.underlying t with
   | some (.map k e)=>decide (ok = ok') && decide ((P.underlying k).bind ib = some lk) && zeroV P e z && aJ x x' && aJ i i'
   | _=>false
  | _=>false
 | .lookup ok z x i=>match o with
  | .lookup t x' i' ok'=>match P.underlying t with
   | some (.map k e)=>decide (ok = ok') && eM P k && zeroV P e z && aJ x x' && aJ i i'
   | _=>false
  | _=>false
 | .ment z x k=>match o with
  | .mapEntry t x' k'=>match P.underlying t with
   | some (.map kt e)=>eM P kt && zeroV P e z && aJ x x' && aJ k k'
   | _=>false
  | _=>false
 | .estore x s v=>match o with
  | .entryStore _ x' s' v'=>aJ x x' && aJ s s' && aJ v v'
  | _=>false
 | .mgetp ok z x i=>match o with
  | .lookup t x' i' ok'=>match P.underlying t with
   | some (.map k e)=>decide (ok = ok') && eM P k && zeroV P e z && aJ x x' && aJ i i'
   | _=>false
  | _=>false
 | .msetp x k v=>match o with
  | .insert t x' k' v'=>match P.underlying t with
   | some (.map kt _)=>eM P kt && aJ x x' && aJ k k' && aJ v v'
   | _=>false
  | .mapUpdate t x' k' v'=>match P.underlying t with
   | some (.map kt _)=>eM P kt && aJ x x' && aJ k k' && aJ v v'
   | _=>false
  | _=>false
 | .mset lk x k v=>match o with
  | .insert t x' k' v'=>match P.underlying t with
   | some (.map kt _)=>decide ((P.underlying kt).bind ib = some lk) && aJ x x' && aJ k k' && aJ v v'
   | _=>false
  | .mapUpdate t x' k' v'=>match P.underlying t with
   | some (.map kt _)=>decide ((P.underlying kt).bind ib = some lk) && aJ x x' && aJ k k' && aJ v v'
   | _=>false
  | _=>false
 | .panic x=>match o with
  | .panic y=>aJ x y
  | _=>false
 | .allocB=>match o with
  | .alloc t=>t == so.1 && ff P t [.nilptr, .slice 1 []]
  | _=>false
 | .appS bytes x y=>match o with
  | .call c=>match c.callee with
   | .builtin .append=>match c.args.toList,c.argTypes.toList with
    | [x',y'],[t,tx]=>match P.underlying t,P.underlying tx with
     | some (.slice e),some .string=>(match P.info? e with | some i=>i.bytes == bytes && (match i.zero with | some z=>z.cells.size == 1 | none=>false) && i.size == 1 && decide (0 < bytes) | none=>false) && aJ x x' && aJ y y'
     | _,_=>false
    | _,_=>false
   | _=>false
  | _=>false
 | .b2s x=>match o with
  | .convert src dst y=>(match P.underlying src with | some (.slice e)=>(match P.underlying e with | some (.int .u8)=>true | _=>false) | _=>false) && (match P.underlying dst with | some .string=>true | _=>false) && aJ x y
  | _=>false
 | .subA n sz x=>match o with
  | .slice t y none none none=>match P.underlying t with
   | some (.array m e)=>n == m && P.cellsOf e == 1 && sz == 1 && (P.info? e).isSome && aJ x y
   | _=>false
  | _=>false
 | .other=>match o with
  | .defer _=>false
  | _=>true
 | .callA _ f _ args=>match o with
  | .call c=>match c.callee with
   | .value g=>aJ f g && eL args c.args.toList
   | _=>false
  | _=>false
 | .call f _ args=>match o with
  | .call c=>match c.callee with
   | .value g=>aJ f g && eL args c.args.toList
   | _=>false
  | _=>false
 | _=>false
def fy (s:St) (ρ:aM → ag) (ρ':Operand → Value):Prop:=∀ x y,aJ x y = true → Rv s (ρ x) (ρ' y)
section run
variable {P:Program} {s:St} {ρ:aM → ag} {ρ':Operand → Value}
theorem wk {t:TypeId} (h:eR (P.underlying t) = some true) (w:World):(isAgg t).run P w = .ok true w:=by
 unfold isAgg
 cases hu:P.underlying t with
 | none=>simp [hu,eR] at h
 | some d=>cases d <;> simp [hu,eR] at h <;> simp [underlying,hu]
theorem uR {t:TypeId} (h:eR (P.underlying t) = some false) (w:World):(isAgg t).run P w = .ok false w:=by
 unfold isAgg
 cases hu:P.underlying t with
 | none=>simp [hu,eR] at h
 | some d=>cases d <;> simp [hu,eR] at h <;> simp [underlying,hu]
theorem aP {t:TypeId} (h:(P.info? t).isSome = true) (w:World):(sizeOf t).run P w = .ok (P.cellsOf t) w:=by
 unfold sizeOf typeInfo Program.cellsOf;obtain ⟨i,hi⟩:=Option.isSome_iff_exists.1 h;simp [hi]
theorem aj {t:TypeId} {d:TypeDesc} (h:P.underlying t = some d) (w:World):(underlying t).run P w = .ok d w:=by
 simp [underlying,h]
theorem dk {v:ag} {c:Value} (h:Rv s v c) (hs:v.fH = true):c.cells = #[c]:=by
 cases h <;> first | rfl | (simp [ag.fH] at hs; done) | (rename_i h _; cases h <;> rfl)
theorem DZ {v:ag} {c:Value} (h:Rv s v c) (hs:v.fH = true):c.oneCell' = true:=by
 cases h <;> first | rfl | (simp [ag.fH] at hs; done) | (rename_i h _; cases h <;> rfl)
theorem Rv.fK {cs:List ag} {c:Value} (h:Rv s (.agg cs) c):∃ vs:Array Value,c = .agg vs ∧ vs.size = cs.length ∧ ∀ j (h1:j < cs.length) (h2:j < vs.size),Rv s cs[j] vs[j]:=by
 cases h with
 | agg _ vs hl h=>exact ⟨vs,rfl,hl,h⟩
theorem addr_add (blk off n:Nat):(⟨blk,off,none⟩:Addr).add n = ⟨blk,off + n,none⟩:=by
 unfold Addr.add; split
 ·rename_i h; subst h; rfl
 ·rfl
theorem tW {k:Option Nat} {cs:List ag} {off:Nat} {vs:Array Value} (hl:vs.size = cs.length) (h:∀ j (h1:j < cs.length) (h2:j < vs.size),Rv s cs[j] vs[j])
  (ho:dX k cs off):∃ u:Value,Rv s (ix k cs off) u ∧ (match k with | none=>vs[off]? = some u | some n=>u = Value.agg (vs.extract off (off + n))):=by
 cases k with
 | none=>
  obtain ⟨h1,h2⟩:=ho;have h3:off < vs.size:=by omega
  refine ⟨vs[off], ?_,by simp [h3]⟩;have:=h off h1 h3;simpa [ix,List.getD,List.getElem?_eq_getElem h1] using this
 | some n=>
  simp only [dX] at ho;refine ⟨Value.agg (vs.extract off (off + n)),Rv.agg _ _ (by simp; omega) (fun j h1 h2=>?_),rfl⟩;simp only [List.length_take,List.length_drop] at h1;have:=h (off + j) (by omega) (by omega);simpa using this
end run
end Go.AM
