/- When an instruction of ours stands for an operation of the program (checked by the kernel, P: any program), and that the instructions which leave the abstract heap alone compute what the operation .. -/
import Derived.Test.YtlmhkldmpggadaaGreatDoorP2
import Derived.Laws.Cells
import Derived.WalkKit
namespace Go.AM
mutual
def aX:ag → Value → Bool
 | .bool a, .bool b=>a == b
 | .int j a, .int k b=>decide (j = k) && a == b
 | .str a, .string b=>decide (a = b)
 | .slice _ xs, .slice none l c=>xs.isEmpty && l == 0 && c == 0
 | .nilptr, .pointer none=>true
 | .nilfunc, .nilFunc=>true
 | .niliface, .nilIface=>true
 | .nilmap, .map none=>true
 | .agg cs, .agg vs=>cO cs vs.toList
 | .undef,_=>true
 | .nils _, .slice none l c=>l == 0 && c == 0
 | _,_=>false
def cO:List ag → List Value → Bool
 | [],[]=>true
 | a :: r,b :: t=>aX a b && cO r t
 | _,_=>false
end
theorem j5:∀ {cs:List ag} {vs:List Value},cO cs vs = true → vs.length = cs.length
 | [],[],_=>rfl
 | a :: r,b :: t,h=>by simp only [cO,Bool.and_eq_true] at h; simp [j5 h.2]
 | [],_ :: _,h=>by simp [cO] at h
 | _ :: _,[],h=>by simp [cO] at h
mutual
theorem eI {s:St}:∀ {v:ag} {c:Value},aX v c = true → Rv s v c
 | .bool a,c,h=>by cases c <;> simp [aX] at h; subst h; exact .bool _
 | .int j a,c,h=>by cases c <;> simp [aX] at h; obtain ⟨rfl,rfl⟩:=h; exact .int _ _
 | .str a,c,h=>by cases c <;> simp [aX] at h; subst h; exact .str _
 | .slice sz xs,c,h=>by
  cases c with
  | slice a l cap=>
   cases a <;> simp [aX] at h;obtain ⟨⟨rfl,rfl⟩,rfl⟩:=h; exact .slice0 _ _ _
  | _=>simp [aX] at h
 | .nilptr,c,h=>by
  cases c with
  | pointer a=>cases a <;> simp [aX] at h; exact .nilptr
  | _=>simp [aX] at h
 | .nilfunc,c,h=>by cases c <;> simp [aX] at h; exact .nilfunc
 | .niliface,c,h=>by cases c <;> simp [aX] at h; exact .niliface
 | .nilmap,c,h=>by
  cases c with
  | map a=>cases a <;> simp [aX] at h; exact .nilmap
  | _=>simp [aX] at h
 | .agg cs,c,h=>by
  cases c with
  | agg vs=>
   simp only [aX] at h;refine .agg cs vs (by simpa using j5 h) (fun j h1 h2=>?_);have:=kZ (s:=s) h j h1 (by simpa using h2);simpa using this
  | _=>simp [aX] at h
 | .undef,c,_=>.undef c
 | .nils sz,c,h=>by
  cases c with
  | slice a l cap=>
   cases a <;> simp [aX] at h;obtain ⟨rfl,rfl⟩:=h; exact .nils _
  | _=>simp [aX] at h
 | .tup _,c,h=>by cases c <;> simp [aX] at h
 | .oslice _ _ _ _,c,h=>by cases c <;> simp [aX] at h
 | .sref _ _ _ _ _,c,h=>by cases c <;> simp [aX] at h
 | .pval _,c,h=>by cases c <;> simp [aX] at h
 | .ptr _ _,c,h=>by cases c <;> simp [aX] at h
 | .eptr _ _ _ _ _,c,h=>by cases c <;> simp [aX] at h
 | .func _ _ _,c,h=>by cases c <;> simp [aX] at h
 | .iface _ _,c,h=>by cases c <;> simp [aX] at h
 | .map _,c,h=>by cases c <;> simp [aX] at h
 | .opt _ _,c,h=>by cases c <;> simp [aX] at h
 | .mint _,c,h=>by cases c <;> simp [aX] at h
 | .iter _,c,h=>by cases c <;> simp [aX] at h
 | .yieldf _,c,h=>by cases c <;> simp [aX] at h
theorem kZ {s:St}:∀ {cs:List ag} {vs:List Value},cO cs vs = true → ∀ j (h1:j < cs.length) (h2:j < vs.length),Rv s cs[j] vs[j]
 | [],_,_,j,h1,_=>by simp at h1
 | a :: r,[],h,_,_,_=>by simp [cO] at h
 | a :: r,b :: t,h,0,_,_=>by simp only [cO,Bool.and_eq_true] at h; exact eI h.1
 | a :: r,b :: t,h,j + 1,h1,h2=>by
  simp only [cO,Bool.and_eq_true] at h;have:=kZ (s:=s) h.2 j (by simpa using h1) (by simpa using h2);simpa using this
end
def aN:aO → Operand → Bool
 | .t n, .tmp m=>n == m
 | .c v, .const u=>aX v u
 | .f n, .func m=>n == m
 | _,_=>false
def fX:Option TypeDesc → Option Bool
 | some (.struct _) | some (.array _ _)=>some true
 | some _=>some false
 | none=>none
def kOk (P:Program) (t:TypeId) (k:Option Nat):Bool:=
 match fX (P.underlying t),k with
 | some true,some n=>P.cellsOf t == n && (P.info? t).isSome
 | some false,none=>(P.info? t).isSome
 | _,_=>false
def gf:List aO → List Operand → Bool
 | [],[]=>true
 | a :: r,b :: t=>aN a b && gf r t
 | _,_=>false
def gL (P:Program) (t:TypeId) (z:List ag):Bool:=
 match (P.info? t).bind (·.zero) with
 | some v=>cO z v.cells.toList
 | none=>false
def pt (P:Program) (t:TypeId) (i:Nat):Option (Nat × Nat):=
 match P.underlying t with
 | some (.struct fs)=>(fs[i]?).map fun f=>(f.offset,P.cellsOf f.type)
 | some (.array _ e)=>some (i * P.cellsOf e,P.cellsOf e)
 | _=>none
def jg (P:Program) (t:TypeId):List (Nat × Nat × aO) → List (Nat × Operand) → Bool
 | [],[]=>true
 | (off,sz,x) :: r,(i,y) :: q=>pt P t i == some (off,sz) && aN x y && jg P t r q
 | _,_=>false
def pN (P:Program) (t:TypeId):Bool:=
 match P.underlying t with
 | some (.struct fs)=>fs.toList.all fun f=>(P.info? f.type).isSome
 | some (.array _ e)=>(P.info? e).isSome
 | _=>false
def kf (g:TypeId → Option (List LK)):List Field → Nat → Option (List LK)
 | [],_=>some []
 | f :: r,o=>
  if f.name ≠ "_" ∧ f.offset = o then
   match g f.type with
   | some l=>if l.length = 0 then none else match kf g r (o + l.length) with
    | some l'=>some (l ++ l')
    | none=>none
   | none=>none
  else none
def kO (P:Program):Nat → TypeId → Option (List LK)
 | 0,_=>none
 | d + 1,t=>
  match P.underlying t with
  | some .bool=>if kOk P t none then some [.b] else none
  | some .string=>if kOk P t none then some [.s] else none
  | some (.int _)=>if kOk P t none then some [.i] else none
  | some (.struct fs)=>
   if P.stoodInHeld t then none else
   match kf (kO P d) fs.toList 0 with
   | some l=>if kOk P t (some l.length) then some l else none
   | none=>none
  | _=>none
def eqFields (P:Program) (d:Nat) (fs:List Field) (o:Nat):Option (List LK):=kf (kO P d) fs o
theorem sf (P:Program) (d:Nat) (fs:List Field) (o:Nat):kf (kO P d) fs o = eqFields P d fs o:=rfl
def s7 (P:Program) (t:TypeId) (n:Nat):Bool:=
 match (P.info? t).bind (·.zero) with
 | some v=>v.cells.size == n
 | none=>false
def mc:List (Nat × aO) → List (Nat × Operand) → Bool
 | [],[]=>true
 | (i,x) :: r,(j,y) :: q=>i == j && aN x y && mc r q
 | _,_=>false
def gn:Option aO → Option Operand → Bool
 | none,none=>true
 | some x,some y=>aN x y
 | _,_=>false
def jN:TypeDesc → Option LK
 | .int _=>some .i
 | .string=>some .s
 | .bool=>some .b
 | _=>none
def gg (P:Program) (t:TypeId):Bool:=match P.underlying t with
 | some (.struct fs)=>match fs.toList with
  | [f, g] => decide (f.name ≠ "_") && decide (g.name ≠ "_") && decide (f.offset = 0) && decide (g.offset = 1) && kOk P f.type none && kOk P g.type none &&
    (match P.underlying f.type with | some (.int _)=>true | _=>false) && (match P.underlying g.type with | some (.int _)=>true | _=>false) && decide (kO P 20 t = some [.i, .i]) && kOk P t (some 2)
  | _=>false
 | _=>false
def zeroV (P:Program) (t:TypeId) (z:ag):Bool:=
 match (P.info? t).bind (·.zero) with
 | some v=>aX z v
 | none=>false
def bm (P : Program) (i : AI) (o : Op) : Bool :=
 match i with
 | .mv x=>match o with
  | .move y=>aN x y
  | .assign y=>aN x y
  | _=>false
 | .pick c x y=>match o with
  | .pick c' x' y'=>aN c c' && aN x x' && aN y y'
  | _=>false
 | .alloc z=>match o with
  | .alloc t=>gL P t (z.map ag.kI)
  | _=>false
 | .box n x=>match o with
  | .box t y=>P.cellsOf t == n && aN x y
  | _=>false
 | .loadd k x=>match o with
  | .load t y=>kOk P t k && aN x y
  | _=>false
 | .mvd x=>match o with
  | .move y=>aN x y
  | .assign y=>aN x y
  | _=>false
 | .pbox n x=>match o with
  | .box t y=>P.cellsOf t == n && aN x y
  | _=>false
 | .build z ps=>match o with
  | .build t parts=>gL P t z && pN P t && jg P t ps parts.toList
  | _=>false
 | .load k x=>match o with
  | .load t y=>kOk P t k && aN x y
  | _=>false
 | .store sz x v=>match o with
  | .store t y u=>P.cellsOf t == sz && (P.info? t).isSome && aN x y && aN v u
  | _=>false
 | .nilchk x=>match o with
  | .nilCheck y=>aN x y
  | _=>false
 | .bin op x y=>match o with
  | .binOp op' _ a b _=>decide (op = op') && aN x a && aN y b
  | _=>false
 | .un op x=>match o with
  | .unOp op' _ a=>decide (op = op') && aN x a
  | _=>false
 | .eqb neg x y=>match o with
  | .binOp op t a b _=>decide (op = if neg then BinOp.neq else BinOp.eql) && (match P.underlying t with | some .bool=>true | _=>false) && aN x a && aN y b
  | _=>false
 | .eqa neg ks x y=>match o with
  | .binOp op t a b _=>decide (op = if neg then BinOp.neq else BinOp.eql) && decide (kO P 20 t = some ks) && kOk P t (some ks.length) && !P.eqGuardType P.depth t && aN x a && aN y b
  | _=>false
 | .isnil neg x=>match o with
  | .binOp op t a (.const .nilIface) _=>decide (op = if neg then BinOp.neq else BinOp.eql) && (match P.underlying t with | some (.interface _)=>true | _=>false) && aN x a
  | _=>false
 | .conv k x=>match o with
  | .convert src dst y=>(P.underlying src).isSome && (match P.underlying dst with | some (.int k')=>decide (k = k') | _=>false) && aN x y
  | _=>false
 | .convs x=>match o with
  | .convert src dst y=>(P.underlying src).isSome && (match P.underlying dst with | some .string=>true | _=>false) && aN x y
  | _=>false
 | .mkfunc fn first caps=>match o with
  | .makeFunc fn' a b=>decide (fn = fn') && gf first a.toList && gf caps b.toList
  | _=>false
 | .fieldAddr k off x=>match o with
  | .fieldAddr t y f=>match P.underlying t with
   | some (.struct fs)=>match fs[f]? with
    | some fd=>fd.offset == off && kOk P fd.type k && P.cellsOf fd.type != 0 && aN x y
    | none=>false
   | _=>false
  | _=>false
 | .field k off x=>match o with
  | .field t y f=>match P.underlying t with
   | some (.struct fs)=>match fs[f]? with
    | some fd=>fd.offset == off && kOk P fd.type k && aN x y
    | none=>false
   | _=>false
  | _=>false
 | .ixS sz x y=>match o with
  | .indexAddr t a b=>match P.underlying t with
   | some (.slice e)=>P.cellsOf e == sz && (P.info? e).isSome && aN x a && aN y b
   | _=>false
  | _=>false
 | .ixA m sz k x y=>match o with
  | .indexAddr t a b=>match P.underlying t with
   | some (.array n e)=>n == m && P.cellsOf e == sz && kOk P e k && aN x a && aN y b
   | _=>false
  | _=>false
 | .ixV m sz k x y=>match o with
  | .index t a b=>match P.underlying t with
   | some (.array n e)=>n == m && P.cellsOf e == sz && kOk P e k && aN x a && aN y b
   | _=>false
  | _=>false
 | .ixStr x y=>match o with
  | .index t a b=>match P.underlying t with
   | some .string=>aN x a && aN y b
   | _=>false
  | _=>false
 | .extract x j=>match o with
  | .extract y j'=>j == j' && aN x y
  | _=>false
 | .len x=>match o with
  | .call c=>match c.callee with
   | .builtin .len=>match c.args.toList,c.argTypes.toList with
    | [y],[t]=>(match P.underlying t with | some (.slice _)=>true | _=>false) && aN x y
    | _,_=>false
   | _=>false
  | _=>false
 | .lenStr x=>match o with
  | .call c=>match c.callee with
   | .builtin .len=>match c.args.toList,c.argTypes.toList with
    | [y],[t]=>(match P.underlying t with | some .string=>true | _=>false) && aN x y
    | _,_=>false
   | _=>false
  | _=>false
 | .lenA n x=>match o with
  | .call c=>match c.callee with
   | .builtin .len=>match c.args.toList,c.argTypes.toList with
    | [y],[t]=>(match P.underlying t with | some (.array m _)=>m == n | _=>false) && aN x y
    | _,_=>false
   | _=>false
  | _=>false
 | .mx l=>match o with
  | .call c=>match c.callee with
   | .builtin .max=>gf l c.args.toList
   | _=>false
  | _=>false
 | .mn l=>match o with
  | .call c=>match c.callee with
   | .builtin .min=>gf l c.args.toList
   | _=>false
  | _=>false
 | .mkiface t x=>match o with
  | .makeInterface t' y=>t == t' && (match P.underlying t with | some (.interface _) | none=>false | _=>true) && aN x y
  | _=>false
 | .assert t x=>match o with
  | .typeAssert y _ t' ok=>!ok && t == t' && (match P.underlying t with | some (.interface _) | none=>false | _=>true) && aN x y
  | _=>false
 | .buildm z ps=>match o with
  | .build t parts=>gL P t (z.map ag.kI) && pN P t && jg P t ps parts.toList
  | _=>false
 | .storem _ x=>match o with
  | .store t y (.const (.slice none 0 0))=>P.cellsOf t == 1 && (P.info? t).isSome && aN x y
  | _=>false
 | .nilS _ _=>match o with
  | .move (.const (.slice none 0 0))=>true
  | .assign (.const (.slice none 0 0))=>true
  | _=>false
 | .lit _ sz n ps=>match o with
  | .buildSlice t n' parts=>match P.underlying t with
   | some (.slice e)=>P.cellsOf e == sz && (P.info? e).isSome && n == n' && decide (n * sz ≤ 2 ^ 24) && decide (0 < sz) && s7 P e sz && mc ps parts.toList
   | _=>false
  | _=>false
 | .append sz bytes x y=>match o with
  | .call c=>match c.callee with
   | .builtin .append=>match c.args.toList,c.argTypes.toList with
    | [x',y'],[t,tx]=>match P.underlying t,P.underlying tx with
     | some (.slice e),some (.slice _)=>P.cellsOf e == sz && decide (0 < sz) && (match P.info? e with | some i=>i.bytes == bytes && (match i.zero with | some z=>z.cells.size == sz | none=>false) && i.size == sz && decide (0 < bytes) | none=>false) && aN x x' && aN y y'
     | _,_=>false
    | _,_=>false
   | _=>false
  | _=>false
 | .sub _ sz x lo hi mx=>match o with
  | .slice t x' lo' hi' mx'=>match P.underlying t with
   | some (.slice e)=>P.cellsOf e == sz && decide (0 < sz) && (P.info? e).isSome && aN x x' && gn lo lo' && gn hi hi' && gn mx mx' && (!mx.isSome || hi.isSome)
   | _=>false
  | _=>false
 | .subq sz x lo hi=>match o with
  | .slice t x' lo' hi' none=>match P.underlying t with
   | some (.slice e)=>P.cellsOf e == sz && (P.info? e).isSome && aN x x' && gn lo lo' && gn hi hi'
   | _=>false
  | _=>false
 | .subStr x lo hi=>match o with
  | .slice t x' lo' hi' none=>match P.underlying t with
   | some .string=>aN x x' && gn lo lo' && gn hi hi'
   | _=>false
  | _=>false
 | .range x=>match o with
  | .range t y=>(match P.underlying t with | some .string=>true | _=>false) && aN x y
  | _=>false
 | .next x=>match o with
  | .next y true=>aN x y
  | _=>false
 | .freeze _ x=>match o with
  | .move y=>aN x y
  | .assign y=>aN x y
  | _=>false
 | .mksl _ sz bytes z n c=>match o with
  | .makeSlice t n' c'=>match P.underlying t with
   | some (.slice e)=>P.cellsOf e == sz && decide (0 < sz) && (match P.info? e with | some i=>i.bytes == bytes && i.size == sz && (match i.zero with | some v=>v.cells.size == sz && aX z v | none=>false) | none=>false) && aN n n' && aN c c'
   | _=>false
  | _=>false
 | .clear sz z x=>match o with
  | .call c=>match c.callee with
   | .builtin .clear=>match c.args.toList,c.argTypes.toList with
    | [x'],[t]=>match P.underlying t with
     | some (.slice e)=>decide (0 < sz) && (match P.info? e with | some i=>i.size == sz && (match i.zero with | some v=>v.cells.size == sz && aX z v | none=>false) | none=>false) && aN x x'
     | _=>false
    | _,_=>false
   | _=>false
  | _=>false
 | .copyB sz x y=>match o with
  | .call c=>match c.callee with
   | .builtin .copy=>match c.args.toList,c.argTypes.toList with
    | [x',y'],[t,tx]=>match P.underlying t,P.underlying tx with
     | some (.slice e),some (.slice _)=>P.cellsOf e == sz && decide (0 < sz) && (P.info? e).isSome && aN x x' && aN y y'
     | _,_=>false
    | _,_=>false
   | _=>false
  | _=>false
 | .subO sz x lo=>match o with
  | .slice t x' (some lo') none none=>match P.underlying t with
   | some (.slice e)=>P.cellsOf e == sz && decide (0 < sz) && (P.info? e).isSome && aN x x' && aN lo lo'
   | _=>false
  | _=>false
 | .snil neg x=>match o with
  | .binOp op t a (.const (.slice none 0 0)) _=>decide (op = if neg then BinOp.neq else BinOp.eql) && (match P.underlying t with | some (.slice _)=>true | _=>false) && aN x a
  | _=>false
 | .gix g x=>match o with
  | .indexAddr t (.global g') y=>g == g' && (match P.underlying t with
   | some (.array n e)=>n == (nz g ew).length && P.cellsOf e == 1 && (P.info? e).isSome
   | _=>false) && aN x y
  | _=>false
 | .mnew=>match o with
  | .makeMap t r=>(match P.underlying t with | some (.map _ _)=>true | _=>false) && (match r with | none=>true | some (.const (.int _ _))=>true | _=>false)
  | _=>false
 | .mget ok lk z x i=>match o with
  | .lookup t x' i' ok'=>match P.underlying t with
   | some (.map k e)=>decide (ok = ok') && decide ((P.underlying k).bind jN = some lk) && zeroV P e z && aN x x' && aN i i'
   | _=>false
  | _=>false
 | .lookup ok z x i=>match o with
  | .lookup t x' i' ok'=>match P.underlying t with
   | some (.map k e)=>decide (ok = ok') && gg P k && zeroV P e z && aN x x' && aN i i'
   | _=>false
  | _=>false
 | .ment z x k=>match o with
  | .mapEntry t x' k'=>match P.underlying t with
   | some (.map kt e)=>gg P kt && zeroV P e z && aN x x' && aN k k'
   | _=>false
  | _=>false
 | .estore x s v=>match o with
  | .entryStore _ x' s' v'=>aN x x' && aN s s' && aN v v'
  | _=>false
 | .mgetp ok z x i=>match o with
  | .lookup t x' i' ok'=>match P.underlying t with
   | some (.map k e)=>decide (ok = ok') && gg P k && zeroV P e z && aN x x' && aN i i'
   | _=>false
  | _=>false
 | .msetp x k v=>match o with
  | .insert t x' k' v'=>match P.underlying t with
   | some (.map kt _)=>gg P kt && aN x x' && aN k k' && aN v v'
   | _=>false
  | .mapUpdate t x' k' v'=>match P.underlying t with
   | some (.map kt _)=>gg P kt && aN x x' && aN k k' && aN v v'
   | _=>false
  | _=>false
 | .mset lk x k v=>match o with
  | .insert t x' k' v'=>match P.underlying t with
   | some (.map kt _)=>decide ((P.underlying kt).bind jN = some lk) && aN x x' && aN k k' && aN v v'
   | _=>false
  | .mapUpdate t x' k' v'=>match P.underlying t with
   | some (.map kt _)=>decide ((P.underlying kt).bind jN = some lk) && aN x x' && aN k k' && aN v v'
   | _=>false
  | _=>false
 | .panic x=>match o with
  | .panic y=>aN x y
  | _=>false
 | .allocB=>match o with
  | .alloc t=>t == uY.1 && gL P t [.nilptr, .slice 1 []]
  | _=>false
 | .appS bytes x y=>match o with
  | .call c=>match c.callee with
   | .builtin .append=>match c.args.toList,c.argTypes.toList with
    | [x',y'],[t,tx]=>match P.underlying t,P.underlying tx with
     | some (.slice e),some .string=>(match P.info? e with | some i=>i.bytes == bytes && (match i.zero with | some z=>z.cells.size == 1 | none=>false) && i.size == 1 && decide (0 < bytes) | none=>false) && aN x x' && aN y y'
     | _,_=>false
    | _,_=>false
   | _=>false
  | _=>false
 | .b2s x=>match o with
  | .convert src dst y=>(match P.underlying src with | some (.slice e)=>(match P.underlying e with | some (.int .u8)=>true | _=>false) | _=>false) && (match P.underlying dst with | some .string=>true | _=>false) && aN x y
  | _=>false
 | .subA n sz x=>match o with
  | .slice t y none none none=>match P.underlying t with
   | some (.array m e)=>n == m && P.cellsOf e == 1 && sz == 1 && (P.info? e).isSome && aN x y
   | _=>false
  | _=>false
 | .other=>match o with
  | .defer _=>false
  | _=>true
 | .callA _ f _ args=>match o with
  | .call c=>match c.callee with
   | .value g=>aN f g && gf args c.args.toList
   | _=>false
  | _=>false
 | .call f _ args=>match o with
  | .call c=>match c.callee with
   | .value g=>aN f g && gf args c.args.toList
   | _=>false
  | _=>false
 | _=>false
def ia (s:St) (ρ:aO → ag) (ρ':Operand → Value):Prop:=∀ x y,aN x y = true → Rv s (ρ x) (ρ' y)
section run
variable {P:Program} {s:St} {ρ:aO → ag} {ρ':Operand → Value}
theorem yW {t:TypeId} (h:fX (P.underlying t) = some true) (w:World):(isAgg t).run P w = .ok true w:=by
 unfold isAgg
 cases hu:P.underlying t with
 | none=>simp [hu,fX] at h
 | some d=>cases d <;> simp [hu,fX] at h <;> simp [underlying,hu]
theorem xP {t:TypeId} (h:fX (P.underlying t) = some false) (w:World):(isAgg t).run P w = .ok false w:=by
 unfold isAgg
 cases hu:P.underlying t with
 | none=>simp [hu,fX] at h
 | some d=>cases d <;> simp [hu,fX] at h <;> simp [underlying,hu]
theorem aT {t:TypeId} (h:(P.info? t).isSome = true) (w:World):(sizeOf t).run P w = .ok (P.cellsOf t) w:=by
 unfold sizeOf typeInfo Program.cellsOf;obtain ⟨i,hi⟩:=Option.isSome_iff_exists.1 h;simp [hi]
theorem ar {t:TypeId} {d:TypeDesc} (h:P.underlying t = some d) (w:World):(underlying t).run P w = .ok d w:=by
 simp [underlying,h]
theorem eh {v:ag} {c:Value} (h:Rv s v c) (hs:v.gJ = true):c.cells = #[c]:=by
 cases h <;> first | rfl | (simp [ag.gJ] at hs; done) | (rename_i h _; cases h <;> rfl)
theorem JB {v:ag} {c:Value} (h:Rv s v c) (hs:v.gJ = true):c.oneCell' = true:=by
 cases h <;> first | rfl | (simp [ag.gJ] at hs; done) | (rename_i h _; cases h <;> rfl)
theorem Rv.ig {cs:List ag} {c:Value} (h:Rv s (.agg cs) c):∃ vs:Array Value,c = .agg vs ∧ vs.size = cs.length ∧ ∀ j (h1:j < cs.length) (h2:j < vs.size),Rv s cs[j] vs[j]:=by
 cases h with
 | agg _ vs hl h=>exact ⟨vs,rfl,hl,h⟩
theorem addr_add (blk off n:Nat):(⟨blk,off,none⟩:Addr).add n = ⟨blk,off + n,none⟩:=by
 unfold Addr.add; split
 ·rename_i h; subst h; rfl
 ·rfl
theorem vO {k:Option Nat} {cs:List ag} {off:Nat} {vs:Array Value} (hl:vs.size = cs.length) (h:∀ j (h1:j < cs.length) (h2:j < vs.size),Rv s cs[j] vs[j])
  (ho:fD k cs off):∃ u:Value,Rv s (jR k cs off) u ∧ (match k with | none=>vs[off]? = some u | some n=>u = Value.agg (vs.extract off (off + n))):=by
 cases k with
 | none=>
  obtain ⟨h1,h2⟩:=ho;have h3:off < vs.size:=by omega
  refine ⟨vs[off], ?_,by simp [h3]⟩;have:=h off h1 h3;simpa [jR,List.getD,List.getElem?_eq_getElem h1] using this
 | some n=>
  simp only [fD] at ho;refine ⟨Value.agg (vs.extract off (off + n)),Rv.agg _ _ (by simp; omega) (fun j h1 h2=>?_),rfl⟩;simp only [List.length_take,List.length_drop] at h1;have:=h (off + j) (by omega) (by omega);simpa using this
end run
open Go.RowKit
section run
variable {P:Program} {s:St} {A:World} {ρ:aO → ag} {ρ':Operand → Value}
theorem Gd {a b c:Bool} (h:(a && b && c) = true):a = true ∧ b = true ∧ c = true:=by simp only [Bool.and_eq_true] at h; exact ⟨h.1.1,h.1.2,h.2⟩
theorem gG (ha:ia s ρ ρ'):∀ {l:List aO} {m:List Operand},gf l m = true → (l.map ρ).length = (m.map ρ').length ∧ ∀ j (h1:j < (l.map ρ).length) (h2:j < (m.map ρ').length),Rv s (l.map ρ)[j] (m.map ρ')[j]
 | [],[],_=>⟨rfl,fun j h1 _=>by simp at h1⟩
 | a :: r,b :: t,h=>by
  simp only [gf,Bool.and_eq_true] at h;obtain ⟨h1,h2⟩:=gG ha h.2;refine ⟨by simpa using h1,fun j g1 g2=>?_⟩
  cases j with
  | zero=>exact ha a b h.1
  | succ j=>have:=h2 j (by simpa using g1) (by simpa using g2); simpa using this
 | [],_ :: _,h=>by simp [gf] at h
 | _ :: _,[],h=>by simp [gf] at h
theorem nA {t:TypeId} {k:Option Nat} {blk off:Nat} {v:ag} {u:Value} (hk:kOk P t k = true) (hv:Rv s v u)
  (hs:match k with | none=>v.gJ = true | some n=>u.cells.size = n ∧ ∃ vs,u = .agg vs)
  (hm:∀ j (hj:j < u.cells.size),s.w.cell? ⟨blk,off + j,none⟩ = some u.cells[j]):(loadVar t ⟨blk,off,none⟩).run P s.w = .ok u s.w:=by
 unfold loadVar;unfold kOk at hk
 cases k with
 | none=>
  have h1:fX (P.underlying t) = some false:=by
   cases h:fX (P.underlying t) with
   | none=>simp [h] at hk
   | some b=>cases b <;> simp [h] at hk ⊢
  have hc:=eh hv hs;have h0:=hm 0 (by rw [hc]; simp);simp only [Nat.add_zero] at h0;have h2:u.cells[0]'(by rw [hc]; simp) = u:=by simp [hc]
  rw [h2] at h0;simp [Sem.run_bind,xP h1,h0]
 | some n=>
  obtain ⟨hn,vs,rfl⟩:=hs;have h1:fX (P.underlying t) = some true ∧ P.cellsOf t = n ∧ (P.info? t).isSome = true:=by
   cases h:fX (P.underlying t) with
   | none=>simp [h] at hk
   | some b=>cases b <;> simp [h] at hk ⊢; exact hk
  have hl:=run_loadCells_list (P:=P) s.w ⟨blk,off,none⟩ vs.toList (fun j v hj=>by
   have hj':j < vs.size:=by
    rcases Nat.lt_or_ge j vs.size with h | h
    ·exact h
    ·simp [Array.getElem?_eq_none h] at hj
   have:=hm j hj';rw [addr_add,this]
   simpa [Value.cells,Array.getElem?_eq_getElem hj'] using hj)
  simp only [Value.cells] at hn;have hlen:vs.toList.length = n:=by simpa using hn
  rw [hlen] at hl;simp [Sem.run_bind,yW h1.1,aT h1.2.2,h1.2.1,hl]
theorem BO {t:TypeId} (h:kOk P t none = true):fX (P.underlying t) = some false:=by
 unfold kOk at h
 cases h':fX (P.underlying t) with
 | none=>simp [h'] at h
 | some b=>cases b <;> simp [h'] at h ⊢
theorem xG {t:TypeId} {n:Nat} (h:kOk P t (some n) = true):fX (P.underlying t) = some true ∧ P.cellsOf t = n ∧ (P.info? t).isSome = true:=by
 unfold kOk at h
 cases h':fX (P.underlying t) with
 | none=>simp [h'] at h
 | some b=>cases b <;> simp [h'] at h ⊢; exact h
theorem xo {t:TypeId} {k:Option Nat} (h:kOk P t k = true):(P.info? t).isSome = true:=by
 cases k with
 | some n=>exact (xG h).2.2
 | none=>
  unfold kOk at h
  cases h':fX (P.underlying t) with
  | none=>simp [h'] at h
  | some b=>cases b <;> simp [h'] at h; exact h
theorem zt {t : TypeId} {k : Option Nat} (hk : kOk P t k = true) {cs : List ag} {off blk o : Nat} {vs : Array Value} (hl : vs.size = cs.length)
  (h:∀ j (h1:j < cs.length) (h2:j < vs.size),Rv s cs[j] vs[j]) (ho:fD k cs off)
  (hm:∀ j (hj:j < vs.size),s.w.cell? ⟨blk,o + j,none⟩ = some vs[j]) :
  ∃ u,(loadVar t ⟨blk,o + off,none⟩).run P s.w = .ok u s.w ∧ Rv s (jR k cs off) u:=by
 obtain ⟨u,hu,hsh⟩:=vO hl h ho;refine ⟨u,nA hk hu ?_ ?_,hu⟩
 ·cases k with
  | none=>exact ho.2
  | some n=>simp only at hsh; subst hsh; simp only [fD] at ho; refine ⟨?_,_,rfl⟩; simp [Value.cells]; omega
 ·intro j hj
  cases k with
  | none=>
   simp only at hsh;have hc:=eh hu ho.2
   have hj0 : j = 0 := by have : u.cells.size = 1 := by rw [hc]; rfl
                          omega
   subst hj0;have h2:u.cells[0]'(by rw [hc]; simp) = u:=by simp [hc]
   obtain ⟨hlt,he⟩:=Array.getElem?_eq_some_iff.1 hsh;rw [h2,Nat.add_zero,hm off hlt,he]
  | some n=>
   simp only at hsh;subst hsh;simp only [fD] at ho;simp only [Value.cells,Array.size_extract] at hj;have:=hm (off + j) (by omega);rw [Nat.add_assoc,this];simp [Value.cells]
theorem af.get_some {σ:af} {b:Nat} {o:cq} (h:σ.get b = o) (hne:o ≠ .dead):σ[b]? = some o:=by
 unfold af.get at h
 cases e:σ[b]? with
 | none=>simp [List.getD,e] at h; exact absurd h.symm hne
 | some x=>simp [List.getD,e] at h; rw [h]
theorem Rv.cells {v:ag} {c:Value} (h:Rv s v c) (hf:v.I9 = true) :
  c.cells.size = v.cells.length ∧ ∀ j (g1:j < v.cells.length) (g2:j < c.cells.size),Rv s v.cells[j] c.cells[j]:=by
 have hscal:v.gJ = true → v.cells = [v] → c.cells.size = v.cells.length ∧ ∀ j (g1:j < v.cells.length) (g2:j < c.cells.size),Rv s v.cells[j] c.cells[j]:=by
  intro hs hv;have hc:=eh h hs;have hj:c.cells.size = 1:=by rw [hc]; rfl
  refine ⟨by rw [hj,hv]; rfl,fun j g1 g2=>?_⟩;have:j = 0:=by omega
  subst this;have e1:v.cells[0] = v:=by simp [hv]
  have e2:c.cells[0] = c:=by simp [hc]
  rw [e1,e2]; exact h
 cases v with
 | agg cs=>obtain ⟨vs,rfl,h1,h2⟩:=h.ig; exact ⟨h1,h2⟩
 | _=>first | exact hscal hf rfl | (simp [ag.I9,ag.gJ] at hf)
theorem rG (hi:Inv A s) {t:TypeId} {k:Option Nat} (hk:kOk P t k = true) {v:ag} {c:Value} (hv:Rv s v c) (ho:iC k s.h v) :
  ∃ u,(Instr.loadAt t c).run P s.w = .ok u s.w ∧ Rv s (o8 k s.h v) u:=by
 unfold Instr.loadAt
 cases v with
 | pval v=>
  cases hv with
  | pval _ u blk off hv hm=>
   refine ⟨u, ?_,hv⟩;simp only [Instr.sureAddr,Sem.run_bind,Sem.run_pure,Result.andThen_ok];refine nA hk hv ?_ (fun j hj=>(hm j hj).2)
   cases k with
   | none=>exact ho
   | some n=>
    simp only [iC] at ho
    cases v with
    | agg cs=>
     obtain ⟨vs,rfl,hsz,_⟩:=hv.ig;exact ⟨by simp [Value.cells,hsz,ho],vs,rfl⟩
    | _=>exact ho.elim
 | ptr b off=>
  cases hv with
  | ptr _ _ blk hl=>
   simp only [iC] at ho
   cases hb:s.h.get b with
   | box cs=>
    rw [hb] at ho;obtain ⟨blk',vs,el,hl',_,hh,hsz,hr,_⟩:=hi.obj b _ (af.get_some hb (by simp));have:blk' = blk:=by rw [hl] at hl'; simpa using hl'.symm
    subst this
    obtain ⟨u,h1,h2⟩:=zt (P:=P) (s:=s) (blk:=blk') (o:=0) hk hsz hr ho (fun j hj=>by
     simp [World.cell?,hh,hj])
    simp only [Nat.zero_add] at h1;refine ⟨u, ?_,by simpa [o8,hb] using h2⟩;simp [Instr.sureAddr,h1]
   | _=>rw [hb] at ho; exact ho.elim
 | eptr sz b i f n=>
  cases hv with
  | eptr _ _ _ _ _ blk cap hl=>
   simp only [iC] at ho
   cases hb:s.h.get b with
   | arr sz' xs=>
    rw [hb] at ho;obtain ⟨rfl,hn,hin,hfine,hp⟩:=ho;rcases (hi.obj b _ (af.get_some hb (by simp))).2 with ⟨hx,_⟩ | ⟨blk',cap',vs,el,us,_,hl',_,hh,hsz,hc,hu,hr,hvs,_⟩
    ·subst hx; simp at hn; omega
    ·have:blk' = blk:=by rw [hn,hl] at hl'; simp at hl'; exact hl'.1.symm
     subst this;have h1:i < xs.length:=by omega
     have h2:i < us.length:=by omega
     obtain ⟨hri,hci⟩:=hr i h1 h2;have hx:xs.getD i .undef = xs[i]:=by simp [List.getD,List.getElem?_eq_getElem h1]
     rw [hx] at hp hfine;have hcells:=hri.cells hfine
     obtain ⟨u,h3,h4⟩:=zt (P:=P) (s:=s) (blk:=blk') (o:=i * sz') hk hcells.1 hcells.2 hp (fun j hj=>by
      have:=hvs i j h2 hj
      simp [World.cell?,hh,this])
     refine ⟨u, ?_,by simpa [o8,hb,List.getD,List.getElem?_eq_getElem h1] using h4⟩;simp [Instr.sureAddr,h3]
   | _=>rw [hb] at ho; exact ho.elim
 | _=>exact ho.elim
end run
open Go.RowKit
section run
variable {P:Program} {s:St} {A:World} {ρ:aO → ag} {ρ':Operand → Value}
theorem av (x:Sem Value) (c:Value) (w w':World) (h:x.run P w = .ok c w'):(do pure (Next.value (← x)):Sem Next).run P w = .ok (.value c) w':=by
 simp [h]
theorem C6 {op:BinOp} {t:TypeId} {v u:ag} {c d:Value} (hv:Rv s v c) (hu:Rv s u d) (ho:Cs op v u) (x y:Operand) :
  ∃ r,(do eqGuard op t x y c d; binOp op t c d:Sem Value).run P s.w = .ok r s.w ∧ Rv s (IK op v u) r:=by
 have hg:∀ (a b:Value),(∀ q,a ≠ .agg q) → a ≠ .nilIface → (eqGuard op t x y a b).run P s.w = .ok () s.w:=by
  intro a b h1 h2;unfold eqGuard;cases op <;> simp <;> (try (cases a <;> first | rfl | exact absurd rfl (h1 _) | exact absurd rfl h2))
 cases v with
 | int j a=>
  cases u with
  | int k b=>
   cases hv; cases hu;rw [Sem.run_bind,hg _ _ (by simp) (by simp),Result.andThen_ok];simp only [Cs] at ho;cases op <;> simp only [AS] at ho <;> (try subst ho) <;> (try (obtain ⟨rfl,h0⟩:=ho)) <;>
    simp [binOp,Op.intArith,Op.intDiv,Op.intBits,Op.shift,Op.intCmp,IK,arith,Kd,KZ, *] <;> (try (rw [if_neg (by omega)])) <;> (try simp) <;> first | exact .int _ _ | exact .bool _ | skip
  | _=>exact ho.elim
 | str a=>
  cases u with
  | str b=>
   cases hv; cases hu;rw [Sem.run_bind,hg _ _ (by simp) (by simp),Result.andThen_ok];simp only [Cs] at ho;cases op <;> simp only [Aa] at ho <;>
    simp [binOp,Op.stringOp,IK,HO] <;> first | exact .bool _ | skip
   rw [if_neg (by simpa using ho)];simp; exact .str _
  | _=>exact ho.elim
 | _=>exact ho.elim
theorem DJ {op:UnOp} {v:ag} {c:Value} (hv:Rv s v c) (ho:IM op v):∃ r,(Op.unary op c).run P s.w = .ok r s.w ∧ Rv s (unV op v) r:=by
 cases v with
 | bool b=>cases hv; cases op <;> simp only [IM] at ho <;> exact ⟨_,rfl, .bool _⟩
 | int k n=>
  cases hv;cases op <;> simp only [IM] at ho
  ·exact ⟨_,rfl, .int _ _⟩
  ·exact ⟨_,rfl, .int _ _⟩
 | _=>exact ho.elim
theorem dm {v:ag} {c:Value} (h:Rv s v c) (hi:isInt v):∃ k,c = .int k (cW v) ∧ v = .int k (cW v):=by
 cases v with
 | int k n=>cases h; exact ⟨k,rfl,rfl⟩
 | _=>exact hi.elim
theorem rP {k : Option Nat} {off : Nat} {v : ag} {c : Value} (hv : Rv s v c) (ho : k6 k off v) :
  ∃ blk o,c = .pointer (some ⟨blk,o,none⟩) ∧ Rv s (mE k off v) (.pointer (some ⟨blk,o + off,none⟩)):=by
 cases v with
 | pval v=>
  cases v with
  | agg cs=>
   cases hv with
   | pval _ u blk o hv hm=>
    obtain ⟨vs,rfl,hsz,hr⟩:=hv.ig;obtain ⟨u,hu,hsh⟩:=vO hsz hr ho;refine ⟨blk,o,rfl, .pval _ u _ _ hu (fun j hj=>?_)⟩
    cases k with
    | none=>
     simp only at hsh;have hc:=eh hu ho.2
     have hj0 : j = 0 := by have : u.cells.size = 1 := by rw [hc]; rfl
                            omega
     subst hj0;have h2:u.cells[0]'(by rw [hc]; simp) = u:=by simp [hc]
     obtain ⟨hlt,he⟩:=Array.getElem?_eq_some_iff.1 hsh;have:=hm off hlt;rw [h2,Nat.add_zero];simpa [Value.cells,he] using this
    | some n=>
     simp only at hsh;subst hsh;simp only [Value.cells,Array.size_extract] at hj;have:=hm (off + j) (by simp only [Value.cells]; omega);rw [Nat.add_assoc];simpa [Value.cells] using this
  | _=>exact ho.elim
 | ptr b o=>
  cases hv with
  | ptr _ _ blk hl=>exact ⟨blk,o,rfl, .ptr b (o + off) blk hl⟩
 | eptr sz b i f n=>
  cases hv with
  | eptr _ _ _ _ _ blk cap hl=>
   refine ⟨blk,_,rfl, ?_⟩;rw [Nat.add_assoc]; exact .eptr sz b i (f + off) n blk cap hl
 | _=>exact ho.elim
theorem kz {t:TypeId} {k:Option Nat} (hk:kOk P t k = true) {cs:List ag} {off:Nat} {vs:Array Value} (hl:vs.size = cs.length)
  (h:∀ j (h1:j < cs.length) (h2:j < vs.size),Rv s cs[j] vs[j]) (ho:fD k cs off):∃ u,(part t vs off).run P s.w = .ok u s.w ∧ Rv s (jR k cs off) u:=by
 obtain ⟨u,hu,hsh⟩:=vO hl h ho;refine ⟨u, ?_,hu⟩;unfold part
 cases k with
 | none=>simp only at hsh; simp [xP (BO hk),hsh]
 | some n=>obtain ⟨h1,h2,h3⟩:=xG hk; simp only at hsh; subst hsh; simp [yW h1,aT h3,h2]
theorem zJ {t:TypeId} {k:Option Nat} (hk:kOk P t k = true) {v:ag} {c:Value} {off:Nat} (hv:Rv s v c) (ho:Fb k off v) :
  ∃ vs u,c = .agg vs ∧ (part t vs off).run P s.w = .ok u s.w ∧ Rv s (KJ k off v) u:=by
 cases v with
 | agg cs=>
  obtain ⟨vs,rfl,hsz,hr⟩:=hv.ig;obtain ⟨u,h1,h2⟩:=kz hk hsz hr ho;exact ⟨vs,u,rfl,h1,h2⟩
 | _=>exact ho.elim
theorem Rv.dI {sz:Nat} {xs:List ag} {c:Value} (h:Rv s (.slice sz xs) c):∃ a cap,c = .slice a xs.length cap ∧ (xs = [] ∨ ∃ (blk off:Nat) (us:List Value),a = some ⟨blk,off,none⟩ ∧ us.length = xs.length ∧ xs.length ≤ cap ∧
  (∀ i (h1:i < xs.length) (h2:i < us.length),Rv s xs[i] us[i]) ∧ ∀ i (h2:i < us.length),us[i].cells.size = sz ∧ sP s blk (off + i * sz) us[i]):=by
 cases h with
 | slice0 _ a cap=>exact ⟨a,cap,rfl, .inl rfl⟩
 | slice _ _ blk off len cap us hl hn hc hr hm=>subst hn; exact ⟨_,cap,rfl, .inr ⟨blk,off,us,rfl,hl,hc,hr,hm⟩⟩
theorem Dx {v:ag} {c:Value} (hv:Rv s v c) (ho:JC v):∃ a n cap,c = .slice a n cap ∧ MZ v = .int .i64 n:=by
 cases v with
 | nils sz=>cases hv; exact ⟨_,_,_,rfl,rfl⟩
 | slice sz xs=>obtain ⟨a,cap,rfl,_⟩:=hv.dI; exact ⟨_,_,_,rfl,rfl⟩
 | oslice sz xs b k=>cases hv with | oslice _ _ _ _ _ hs hl=>obtain ⟨a,cap,rfl,_⟩:=hs.dI; exact ⟨_,_,_,rfl,rfl⟩
 | sref sz b off len n=>
  cases hv with
  | sref _ _ _ _ _ blk cap hl h1 h2=>exact ⟨_,_,_,rfl,rfl⟩
  | sref0=>exact ⟨_,_,_,rfl,rfl⟩
  | srefE=>exact ⟨_,_,_,rfl,rfl⟩
 | _=>exact ho.elim
theorem Gx {sz:Nat} {n:Int} {v:ag} {c:Value} (hv:Rv s v c) (ho:HL sz n v) :
  ∃ blk off len cap,c = .slice (some ⟨blk,off,none⟩) len cap ∧ 0 ≤ n ∧ n < len ∧ Rv s (NO n v) (.pointer (some ⟨blk,off + n.toNat * sz,none⟩)):=by
 have core:∀ {xs:List ag} {c:Value},Rv s (.slice sz xs) c → 0 ≤ n → n < xs.length → ∃ blk off len cap,c = .slice (some ⟨blk,off,none⟩) len cap ∧ 0 ≤ n ∧ n < len ∧
   Rv s (.pval (xs.getD n.toNat .undef)) (.pointer (some ⟨blk,off + n.toNat * sz,none⟩)):=by
  intro xs c hv h0 h1;obtain ⟨a,cap,rfl,h | ⟨blk,off,us,rfl,hl,hc,hr,hm⟩⟩:=hv.dI
  ·subst h; simp at h1; omega
  ·have h2:n.toNat < xs.length:=by omega
   have h3:n.toNat < us.length:=by omega
   refine ⟨blk,off,_,cap,rfl,h0,h1, .pval _ us[n.toNat] _ _ ?_ (hm _ h3).2⟩;have:=hr _ h2 h3;simpa [List.getD,List.getElem?_eq_getElem h2] using this
 cases v with
 | slice sz' xs=>obtain ⟨rfl,h0,h1⟩:=ho; exact core hv h0 h1
 | oslice sz' xs b k=>obtain ⟨rfl,h0,h1⟩:=ho; cases hv with | oslice _ _ _ _ _ hs hl=>exact core hs h0 h1
 | sref sz' b off len m=>
  obtain ⟨rfl,h0,h1⟩:=ho
  cases hv with
  | sref _ _ _ _ _ blk cap hl g1 g2=>
   refine ⟨blk,off * sz',len,cap - off,rfl,h0,h1, ?_⟩;have:=Rv.eptr (s:=s) sz' b (off + n.toNat) 0 m blk cap hl;rw [Nat.add_mul,Nat.add_zero] at this;exact this
  | sref0=>simp at h1; omega
  | srefE=>simp at h1; omega
 | _=>exact ho.elim
theorem lA (f:ag → ag → ag) (g:Value → Value → Sem Value)
  (hfg:∀ (x y:ag) (c d:Value),Rv s x c → Rv s y d → isInt x → isInt y → isInt (f x y) ∧ ∃ r,(g c d).run P s.w = .ok r s.w ∧ Rv s (f x y) r) :
  ∀ (l:List ag) (m:List Value) (x:ag) (c:Value),l.length = m.length → (∀ j (h1:j < l.length) (h2:j < m.length),Rv s l[j] m[j]) → zW l → Rv s x c → isInt x →
   ∃ r,(m.foldlM g c).run P s.w = .ok r s.w ∧ Rv s (l.foldl f x) r
 | [],[],x,c,_,_,_,hx,_=>⟨c,rfl,hx⟩
 | a :: l,b :: m,x,c,hl,h,ha,hx,hxi=>by
  obtain ⟨h1,r,h2,h3⟩:=hfg x a c b hx (h 0 (by simp) (by simp)) hxi ha.1;obtain ⟨r',h4,h5⟩:=lA f g hfg l m (f x a) r (by simpa using hl) (fun j g1 g2=>by have:=h (j + 1) (by simpa using g1) (by simpa using g2); simpa using this) ha.2 h3 h1;exact ⟨r',by simp [List.foldlM,h2,h4],h5⟩
 | [],_ :: _,_,_,hl,_,_,_,_=>by simp at hl
 | _ :: _,[],_,_,hl,_,_,_,_=>by simp at hl
theorem Dg (x y:ag) (c d:Value) (hx:Rv s x c) (hy:Rv s y d) (h1:isInt x) (h2:isInt y):isInt (H3 x y) ∧ ∃ r,(Builtin.max2 c d).run P s.w = .ok r s.w ∧ Rv s (H3 x y) r:=by
 obtain ⟨k,rfl,e1⟩:=dm hx h1;obtain ⟨j,rfl,e2⟩:=dm hy h2;rw [e1,e2];refine ⟨trivial,_,rfl, ?_⟩;simp only [H3,cW]; exact .int _ _
theorem D2 (x y:ag) (c d:Value) (hx:Rv s x c) (hy:Rv s y d) (h1:isInt x) (h2:isInt y):isInt (Ha x y) ∧ ∃ r,(Builtin.min2 c d).run P s.w = .ok r s.w ∧ Rv s (Ha x y) r:=by
 obtain ⟨k,rfl,e1⟩:=dm hx h1;obtain ⟨j,rfl,e2⟩:=dm hy h2;rw [e1,e2];refine ⟨trivial,_,rfl, ?_⟩;simp only [Ha,cW]; exact .int _ _
end run
end Go.AM
