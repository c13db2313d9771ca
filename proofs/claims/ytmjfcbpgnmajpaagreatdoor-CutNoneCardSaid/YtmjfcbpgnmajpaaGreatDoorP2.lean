/- When an instruction of ours stands for an operation of the program (checked by the kernel, P: any program), and that the instructions which leave the abstract heap alone compute what the operation .. -/
import Derived.Test.YtmjfcbpgnmajpaaGreatDoorP1
import Derived.Laws.Cells
import Derived.WalkKit
namespace Go.AM
mutual
def aZ:ab → Value → Bool
  | .bool a, .bool b=>a == b
  | .int j a, .int k b=>decide (j = k) && a == b
  | .str a, .string b=>decide (a = b)
  | .slice _ xs, .slice none l c=>xs.isEmpty && l == 0 && c == 0
  | .nilptr, .pointer none=>true
  | .nilfunc, .nilFunc=>true
  | .niliface, .nilIface=>true
  | .nilmap, .map none=>true
  | .agg cs, .agg vs=>cg cs vs.toList
  | .undef,_=>true
  | _,_=>false
def cg:List ab → List Value → Bool
  | [],[]=>true
  | a :: r,b :: t=>aZ a b && cg r t
  | _,_=>false
end
theorem pr:∀ {cs:List ab} {vs:List Value},cg cs vs = true → vs.length = cs.length
  | [],[],_=>rfl
  | a :: r,b :: t,h=>by simp only [cg,Bool.and_eq_true] at h; simp [pr h.2]
  | [],_ :: _,h=>by simp [cg] at h
  | _ :: _,[],h=>by simp [cg] at h
mutual
theorem eE {s:St}:∀ {v:ab} {c:Value},aZ v c = true → Rv s v c
  | .bool a,c,h=>by cases c <;> simp [aZ] at h; subst h; exact .bool _
  | .int j a,c,h=>by cases c <;> simp [aZ] at h; obtain ⟨rfl,rfl⟩:=h; exact .int _ _
  | .str a,c,h=>by cases c <;> simp [aZ] at h; subst h; exact .str _
  | .slice sz xs,c,h=>by
    cases c with
    | slice a l cap=>
      cases a <;> simp [aZ] at h
      obtain ⟨⟨rfl,rfl⟩,rfl⟩:=h; exact .slice0 _ _ _
    | _=>simp [aZ] at h
  | .nilptr,c,h=>by
    cases c with
    | pointer a=>cases a <;> simp [aZ] at h; exact .nilptr
    | _=>simp [aZ] at h
  | .nilfunc,c,h=>by cases c <;> simp [aZ] at h; exact .nilfunc
  | .niliface,c,h=>by cases c <;> simp [aZ] at h; exact .niliface
  | .nilmap,c,h=>by
    cases c with
    | map a=>cases a <;> simp [aZ] at h; exact .nilmap
    | _=>simp [aZ] at h
  | .agg cs,c,h=>by
    cases c with
    | agg vs=>
      simp only [aZ] at h
      refine .agg cs vs (by simpa using pr h) (fun j h1 h2=>?_)
      have:=iX (s:=s) h j h1 (by simpa using h2)
      simpa using this
    | _=>simp [aZ] at h
  | .undef,c,_=>.undef c
  | .tup _,c,h=>by cases c <;> simp [aZ] at h
  | .oslice _ _ _ _,c,h=>by cases c <;> simp [aZ] at h
  | .sref _ _ _ _ _,c,h=>by cases c <;> simp [aZ] at h
  | .pval _,c,h=>by cases c <;> simp [aZ] at h
  | .ptr _ _,c,h=>by cases c <;> simp [aZ] at h
  | .eptr _ _ _ _ _,c,h=>by cases c <;> simp [aZ] at h
  | .func _ _ _,c,h=>by cases c <;> simp [aZ] at h
  | .iface _ _,c,h=>by cases c <;> simp [aZ] at h
  | .map _,c,h=>by cases c <;> simp [aZ] at h
  | .opt _ _,c,h=>by cases c <;> simp [aZ] at h
  | .mint _,c,h=>by cases c <;> simp [aZ] at h
  | .iter _,c,h=>by cases c <;> simp [aZ] at h
  | .yieldf _,c,h=>by cases c <;> simp [aZ] at h
theorem iX {s:St}:∀ {cs:List ab} {vs:List Value},cg cs vs = true → ∀ j (h1:j < cs.length) (h2:j < vs.length),Rv s cs[j] vs[j]
  | [],_,_,j,h1,_=>by simp at h1
  | a :: r,[],h,_,_,_=>by simp [cg] at h
  | a :: r,b :: t,h,0,_,_=>by simp only [cg,Bool.and_eq_true] at h; exact eE h.1
  | a :: r,b :: t,h,j + 1,h1,h2=>by
    simp only [cg,Bool.and_eq_true] at h
    have:=iX (s:=s) h.2 j (by simpa using h1) (by simpa using h2)
    simpa using this
end
def aL:aI → Operand → Bool
  | .t n, .tmp m=>n == m
  | .c v, .const u=>aZ v u
  | .f n, .func m=>n == m
  | _,_=>false
def ee:Option TypeDesc → Option Bool
  | some (.struct _) | some (.array _ _)=>some true
  | some _=>some false
  | none=>none
def kOk (P:Program) (t:TypeId) (k:Option Nat):Bool:=
  match ee (P.underlying t),k with
  | some true,some n=>P.cellsOf t == n && (P.info? t).isSome
  | some false,none=>(P.info? t).isSome
  | _,_=>false
def ek:List aI → List Operand → Bool
  | [],[]=>true
  | a :: r,b :: t=>aL a b && ek r t
  | _,_=>false
def gH (P:Program) (t:TypeId) (z:List ab):Bool:=
  match (P.info? t).bind (·.zero) with
  | some v=>cg z v.cells.toList
  | none=>false
def lZ (P:Program) (t:TypeId) (i:Nat):Option (Nat × Nat):=
  match P.underlying t with
  | some (.struct fs)=>(fs[i]?).map fun f=>(f.offset,P.cellsOf f.type)
  | some (.array _ e)=>some (i * P.cellsOf e,P.cellsOf e)
  | _=>none
def fO (P:Program) (t:TypeId):List (Nat × Nat × aI) → List (Nat × Operand) → Bool
  | [],[]=>true
  | (off,sz,x) :: r,(i,y) :: q=>lZ P t i == some (off,sz) && aL x y && fO P t r q
  | _,_=>false
def lI (P:Program) (t:TypeId):Bool:=
  match P.underlying t with
  | some (.struct fs)=>fs.toList.all fun f=>(P.info? f.type).isSome
  | some (.array _ e)=>(P.info? e).isSome
  | _=>false
def ie (g:TypeId → Option (List LK)):List Field → Nat → Option (List LK)
  | [],_=>some []
  | f :: r,o=>
    if f.name ≠ "_" ∧ f.offset = o then
      match g f.type with
      | some l=>if l.length = 0 then none else match ie g r (o + l.length) with
        | some l'=>some (l ++ l')
        | none=>none
      | none=>none
    else none
def ke (P:Program):Nat → TypeId → Option (List LK)
  | 0,_=>none
  | d + 1,t=>
    match P.underlying t with
    | some .bool=>if kOk P t none then some [.b] else none
    | some .string=>if kOk P t none then some [.s] else none
    | some (.int _)=>if kOk P t none then some [.i] else none
    | some (.struct fs)=>
      if P.stoodInHeld t then none else
      match ie (ke P d) fs.toList 0 with
      | some l=>if kOk P t (some l.length) then some l else none
      | none=>none
    | _=>none
def eqFields (P:Program) (d:Nat) (fs:List Field) (o:Nat):Option (List LK):=ie (ke P d) fs o
theorem nR (P:Program) (d:Nat) (fs:List Field) (o:Nat):ie (ke P d) fs o = eqFields P d fs o:=rfl
def s8 (P:Program) (t:TypeId) (n:Nat):Bool:=
  match (P.info? t).bind (·.zero) with
  | some v=>v.cells.size == n
  | none=>false
def jT:List (Nat × aI) → List (Nat × Operand) → Bool
  | [],[]=>true
  | (i,x) :: r,(j,y) :: q=>i == j && aL x y && jT r q
  | _,_=>false
def ev:Option aI → Option Operand → Bool
  | none,none=>true
  | some x,some y=>aL x y
  | _,_=>false
def gy:TypeDesc → Option LK
  | .int _=>some .i
  | .string=>some .s
  | .bool=>some .b
  | _=>none
def zeroV (P:Program) (t:TypeId) (z:ab):Bool:=
  match (P.info? t).bind (·.zero) with
  | some v=>aZ z v
  | none=>false
def a8 (P : Program) (i : AI) (o : Op) : Bool :=
  match i with
  | .mv x=>match o with
    | .move y=>aL x y
    | .assign y=>aL x y
    | _=>false
  | .pick c x y=>match o with
    | .pick c' x' y'=>aL c c' && aL x x' && aL y y'
    | _=>false
  | .alloc z=>match o with
    | .alloc t=>gH P t (z.map ab.gK)
    | _=>false
  | .box n x=>match o with
    | .box t y=>P.cellsOf t == n && aL x y
    | _=>false
  | .loadd k x=>match o with
    | .load t y=>kOk P t k && aL x y
    | _=>false
  | .mvd x=>match o with
    | .move y=>aL x y
    | .assign y=>aL x y
    | _=>false
  | .pbox n x=>match o with
    | .box t y=>P.cellsOf t == n && aL x y
    | _=>false
  | .build z ps=>match o with
    | .build t parts=>gH P t z && lI P t && fO P t ps parts.toList
    | _=>false
  | .load k x=>match o with
    | .load t y=>kOk P t k && aL x y
    | _=>false
  | .store sz x v=>match o with
    | .store t y u=>P.cellsOf t == sz && (P.info? t).isSome && aL x y && aL v u
    | _=>false
  | .nilchk x=>match o with
    | .nilCheck y=>aL x y
    | _=>false
  | .bin op x y=>match o with
    | .binOp op' _ a b _=>decide (op = op') && aL x a && aL y b
    | _=>false
  | .un op x=>match o with
    | .unOp op' _ a=>decide (op = op') && aL x a
    | _=>false
  | .eqb neg x y=>match o with
    | .binOp op t a b _=>decide (op = if neg then BinOp.neq else BinOp.eql) && (match P.underlying t with | some .bool=>true | _=>false) && aL x a && aL y b
    | _=>false
  | .eqa neg ks x y=>match o with
    | .binOp op t a b _=>decide (op = if neg then BinOp.neq else BinOp.eql) && decide (ke P 20 t = some ks) && kOk P t (some ks.length) && !P.eqGuardType P.depth t && aL x a && aL y b
    | _=>false
  | .isnil neg x=>match o with
    | .binOp op t a (.const .nilIface) _=>decide (op = if neg then BinOp.neq else BinOp.eql) && (match P.underlying t with | some (.interface _)=>true | _=>false) && aL x a
    | _=>false
  | .conv k x=>match o with
    | .convert src dst y=>(P.underlying src).isSome && (match P.underlying dst with | some (.int k')=>decide (k = k') | _=>false) && aL x y
    | _=>false
  | .convs x=>match o with
    | .convert src dst y=>(P.underlying src).isSome && (match P.underlying dst with | some .string=>true | _=>false) && aL x y
    | _=>false
  | .mkfunc fn first caps=>match o with
    | .makeFunc fn' a b=>decide (fn = fn') && ek first a.toList && ek caps b.toList
    | _=>false
  | .fieldAddr k off x=>match o with
    | .fieldAddr t y f=>match P.underlying t with
      | some (.struct fs)=>match fs[f]? with
        | some fd=>fd.offset == off && kOk P fd.type k && P.cellsOf fd.type != 0 && aL x y
        | none=>false
      | _=>false
    | _=>false
  | .field k off x=>match o with
    | .field t y f=>match P.underlying t with
      | some (.struct fs)=>match fs[f]? with
        | some fd=>fd.offset == off && kOk P fd.type k && aL x y
        | none=>false
      | _=>false
    | _=>false
  | .ixS sz x y=>match o with
    | .indexAddr t a b=>match P.underlying t with
      | some (.slice e)=>P.cellsOf e == sz && (P.info? e).isSome && aL x a && aL y b
      | _=>false
    | _=>false
  | .ixA m sz k x y=>match o with
    | .indexAddr t a b=>match P.underlying t with
      | some (.array n e)=>n == m && P.cellsOf e == sz && kOk P e k && aL x a && aL y b
      | _=>false
    | _=>false
  | .ixV m sz k x y=>match o with
    | .index t a b=>match P.underlying t with
      | some (.array n e)=>n == m && P.cellsOf e == sz && kOk P e k && aL x a && aL y b
      | _=>false
    | _=>false
  | .ixStr x y=>match o with
    | .index t a b=>match P.underlying t with
      | some .string=>aL x a && aL y b
      | _=>false
    | _=>false
  | .extract x j=>match o with
    | .extract y j'=>j == j' && aL x y
    | _=>false
  | .len x=>match o with
    | .call c=>match c.callee with
      | .builtin .len=>match c.args.toList,c.argTypes.toList with
        | [y],[t]=>(match P.underlying t with | some (.slice _)=>true | _=>false) && aL x y
        | _,_=>false
      | _=>false
    | _=>false
  | .lenStr x=>match o with
    | .call c=>match c.callee with
      | .builtin .len=>match c.args.toList,c.argTypes.toList with
        | [y],[t]=>(match P.underlying t with | some .string=>true | _=>false) && aL x y
        | _,_=>false
      | _=>false
    | _=>false
  | .lenA n x=>match o with
    | .call c=>match c.callee with
      | .builtin .len=>match c.args.toList,c.argTypes.toList with
        | [y],[t]=>(match P.underlying t with | some (.array m _)=>m == n | _=>false) && aL x y
        | _,_=>false
      | _=>false
    | _=>false
  | .mx l=>match o with
    | .call c=>match c.callee with
      | .builtin .max=>ek l c.args.toList
      | _=>false
    | _=>false
  | .mn l=>match o with
    | .call c=>match c.callee with
      | .builtin .min=>ek l c.args.toList
      | _=>false
    | _=>false
  | .mkiface t x=>match o with
    | .makeInterface t' y=>t == t' && (match P.underlying t with | some (.interface _) | none=>false | _=>true) && aL x y
    | _=>false
  | .assert t x=>match o with
    | .typeAssert y _ t' ok=>!ok && t == t' && (match P.underlying t with | some (.interface _) | none=>false | _=>true) && aL x y
    | _=>false
  | .buildm z ps=>match o with
    | .build t parts=>gH P t (z.map ab.gK) && lI P t && fO P t ps parts.toList
    | _=>false
  | .storem _ x=>match o with
    | .store t y (.const (.slice none 0 0))=>P.cellsOf t == 1 && (P.info? t).isSome && aL x y
    | _=>false
  | .nilS _ _=>match o with
    | .move (.const (.slice none 0 0))=>true
    | .assign (.const (.slice none 0 0))=>true
    | _=>false
  | .lit _ sz n ps=>match o with
    | .buildSlice t n' parts=>match P.underlying t with
      | some (.slice e)=>P.cellsOf e == sz && (P.info? e).isSome && n == n' && decide (n * sz ≤ 2 ^ 24) && decide (0 < sz) && s8 P e sz && jT ps parts.toList
      | _=>false
    | _=>false
  | .append sz bytes x y=>match o with
    | .call c=>match c.callee with
      | .builtin .append=>match c.args.toList,c.argTypes.toList with
        | [x',y'],[t,tx]=>match P.underlying t,P.underlying tx with
          | some (.slice e),some (.slice _)=>P.cellsOf e == sz && decide (0 < sz) && (match P.info? e with | some i=>i.bytes == bytes && (match i.zero with | some z=>z.cells.size == sz | none=>false) && i.size == sz && decide (0 < bytes) | none=>false) && aL x x' && aL y y'
          | _,_=>false
        | _,_=>false
      | _=>false
    | _=>false
  | .sub _ sz x lo hi mx=>match o with
    | .slice t x' lo' hi' mx'=>match P.underlying t with
      | some (.slice e)=>P.cellsOf e == sz && decide (0 < sz) && (P.info? e).isSome && aL x x' && ev lo lo' && ev hi hi' && ev mx mx' && (!mx.isSome || hi.isSome)
      | _=>false
    | _=>false
  | .subq sz x lo hi=>match o with
    | .slice t x' lo' hi' none=>match P.underlying t with
      | some (.slice e)=>P.cellsOf e == sz && (P.info? e).isSome && aL x x' && ev lo lo' && ev hi hi'
      | _=>false
    | _=>false
  | .subStr x lo hi=>match o with
    | .slice t x' lo' hi' none=>match P.underlying t with
      | some .string=>aL x x' && ev lo lo' && ev hi hi'
      | _=>false
    | _=>false
  | .range x=>match o with
    | .range t y=>(match P.underlying t with | some .string=>true | _=>false) && aL x y
    | _=>false
  | .next x=>match o with
    | .next y true=>aL x y
    | _=>false
  | .freeze _ x=>match o with
    | .move y=>aL x y
    | .assign y=>aL x y
    | _=>false
  | .mksl _ sz bytes z n c=>match o with
    | .makeSlice t n' c'=>match P.underlying t with
      | some (.slice e)=>P.cellsOf e == sz && decide (0 < sz) && (match P.info? e with | some i=>i.bytes == bytes && i.size == sz && (match i.zero with | some v=>v.cells.size == sz && aZ z v | none=>false) | none=>false) && aL n n' && aL c c'
      | _=>false
    | _=>false
  | .clear sz z x=>match o with
    | .call c=>match c.callee with
      | .builtin .clear=>match c.args.toList,c.argTypes.toList with
        | [x'],[t]=>match P.underlying t with
          | some (.slice e)=>decide (0 < sz) && (match P.info? e with | some i=>i.size == sz && (match i.zero with | some v=>v.cells.size == sz && aZ z v | none=>false) | none=>false) && aL x x'
          | _=>false
        | _,_=>false
      | _=>false
    | _=>false
  | .copyB sz x y=>match o with
    | .call c=>match c.callee with
      | .builtin .copy=>match c.args.toList,c.argTypes.toList with
        | [x',y'],[t,tx]=>match P.underlying t,P.underlying tx with
          | some (.slice e),some (.slice _)=>P.cellsOf e == sz && decide (0 < sz) && (P.info? e).isSome && aL x x' && aL y y'
          | _,_=>false
        | _,_=>false
      | _=>false
    | _=>false
  | .subO sz x lo=>match o with
    | .slice t x' (some lo') none none=>match P.underlying t with
      | some (.slice e)=>P.cellsOf e == sz && decide (0 < sz) && (P.info? e).isSome && aL x x' && aL lo lo'
      | _=>false
    | _=>false
  | .snil neg x=>match o with
    | .binOp op t a (.const (.slice none 0 0)) _=>decide (op = if neg then BinOp.neq else BinOp.eql) && (match P.underlying t with | some (.slice _)=>true | _=>false) && aL x a
    | _=>false
  | .gix g x=>match o with
    | .indexAddr t (.global g') y=>g == g' && (match P.underlying t with
      | some (.array n e)=>n == (jz g eZ).length && P.cellsOf e == 1 && (P.info? e).isSome
      | _=>false) && aL x y
    | _=>false
  | .mnew=>match o with
    | .makeMap t r=>(match P.underlying t with | some (.map _ _)=>true | _=>false) && (match r with | none=>true | some (.const (.int _ _))=>true | _=>false)
    | _=>false
  | .mget ok lk z x i=>match o with
    | .lookup t x' i' ok'=>match P.underlying t with
      | some (.map k e)=>decide (ok = ok') && decide ((P.underlying k).bind gy = some lk) && zeroV P e z && aL x x' && aL i i'
      | _=>false
    | _=>false
  | .j5 lk x k v=>match o with
    | .insert t x' k' v'=>match P.underlying t with
      | some (.map kt _)=>decide ((P.underlying kt).bind gy = some lk) && aL x x' && aL k k' && aL v v'
      | _=>false
    | .mapUpdate t x' k' v'=>match P.underlying t with
      | some (.map kt _)=>decide ((P.underlying kt).bind gy = some lk) && aL x x' && aL k k' && aL v v'
      | _=>false
    | _=>false
  | .panic x=>match o with
    | .panic y=>aL x y
    | _=>false
  | .callA _ f _ args=>match o with
    | .call c=>match c.callee with
      | .value g=>aL f g && ek args c.args.toList
      | _=>false
    | _=>false
  | .call f _ args=>match o with
    | .call c=>match c.callee with
      | .value g=>aL f g && ek args c.args.toList
      | _=>false
    | _=>false
  | _=>false
def fm (s:St) (ρ:aI → ab) (ρ':Operand → Value):Prop:=∀ x y,aL x y = true → Rv s (ρ x) (ρ' y)
section run
variable {P:Program} {s:St} {ρ:aI → ab} {ρ':Operand → Value}
theorem vc {t:TypeId} (h:ee (P.underlying t) = some true) (w:World):(isAgg t).run P w = .ok true w:=by
  unfold isAgg
  cases hu:P.underlying t with
  | none=>simp [hu,ee] at h
  | some d=>cases d <;> simp [hu,ee] at h <;> simp [underlying,hu]
theorem sK {t:TypeId} (h:ee (P.underlying t) = some false) (w:World):(isAgg t).run P w = .ok false w:=by
  unfold isAgg
  cases hu:P.underlying t with
  | none=>simp [hu,ee] at h
  | some d=>cases d <;> simp [hu,ee] at h <;> simp [underlying,hu]
theorem aT {t:TypeId} (h:(P.info? t).isSome = true) (w:World):(sizeOf t).run P w = .ok (P.cellsOf t) w:=by
  unfold sizeOf typeInfo Program.cellsOf
  obtain ⟨i,hi⟩:=Option.isSome_iff_exists.1 h
  simp [hi]
theorem aw {t:TypeId} {d:TypeDesc} (h:P.underlying t = some d) (w:World):(underlying t).run P w = .ok d w:=by
  simp [underlying,h]
theorem cY {v:ab} {c:Value} (h:Rv s v c) (hs:v.fB = true):c.cells = #[c]:=by
  cases h <;> first | rfl | (simp [ab.fB] at hs; done) | (rename_i h _; cases h <;> rfl)
theorem CV {v:ab} {c:Value} (h:Rv s v c) (hs:v.fB = true):c.oneCell' = true:=by
  cases h <;> first | rfl | (simp [ab.fB] at hs; done) | (rename_i h _; cases h <;> rfl)
theorem Rv.ja {cs:List ab} {c:Value} (h:Rv s (.agg cs) c):∃ vs:Array Value,c = .agg vs ∧ vs.size = cs.length ∧ ∀ j (h1:j < cs.length) (h2:j < vs.size),Rv s cs[j] vs[j]:=by
  cases h with
  | agg _ vs hl h=>exact ⟨vs,rfl,hl,h⟩
theorem bY (blk off n:Nat):(⟨blk,off,none⟩:Addr).add n = ⟨blk,off + n,none⟩:=by
  unfold Addr.add; split
  · rename_i h; subst h; rfl
  · rfl
theorem rz {k:Option Nat} {cs:List ab} {off:Nat} {vs:Array Value} (hl:vs.size = cs.length) (h:∀ j (h1:j < cs.length) (h2:j < vs.size),Rv s cs[j] vs[j])
    (ho:eM k cs off):∃ u:Value,Rv s (gP k cs off) u ∧ (match k with | none=>vs[off]? = some u | some n=>u = Value.agg (vs.extract off (off + n))):=by
  cases k with
  | none=>
    obtain ⟨h1,h2⟩:=ho
    have h3:off < vs.size:=by omega
    refine ⟨vs[off], ?_,by simp [h3]⟩
    have:=h off h1 h3
    simpa [gP,List.getD,List.getElem?_eq_getElem h1] using this
  | some n=>
    simp only [eM] at ho
    refine ⟨Value.agg (vs.extract off (off + n)),Rv.agg _ _ (by simp; omega) (fun j h1 h2=>?_),rfl⟩
    simp only [List.length_take,List.length_drop] at h1
    have:=h (off + j) (by omega) (by omega)
    simpa using this
end run
open Go.RowKit
section run
variable {P:Program} {s:St} {A:World} {ρ:aI → ab} {ρ':Operand → Value}
theorem Ec {a b c:Bool} (h:(a && b && c) = true):a = true ∧ b = true ∧ c = true:=by simp only [Bool.and_eq_true] at h; exact ⟨h.1.1,h.1.2,h.2⟩
theorem eL (ha:fm s ρ ρ'):∀ {l:List aI} {m:List Operand},ek l m = true → (l.map ρ).length = (m.map ρ').length ∧ ∀ j (h1:j < (l.map ρ).length) (h2:j < (m.map ρ').length),Rv s (l.map ρ)[j] (m.map ρ')[j]
  | [],[],_=>⟨rfl,fun j h1 _=>by simp at h1⟩
  | a :: r,b :: t,h=>by
    simp only [ek,Bool.and_eq_true] at h
    obtain ⟨h1,h2⟩:=eL ha h.2
    refine ⟨by simpa using h1,fun j g1 g2=>?_⟩
    cases j with
    | zero=>exact ha a b h.1
    | succ j=>have:=h2 j (by simpa using g1) (by simpa using g2); simpa using this
  | [],_ :: _,h=>by simp [ek] at h
  | _ :: _,[],h=>by simp [ek] at h
theorem kx {t:TypeId} {k:Option Nat} {blk off:Nat} {v:ab} {u:Value} (hk:kOk P t k = true) (hv:Rv s v u)
    (hs:match k with | none=>v.fB = true | some n=>u.cells.size = n ∧ ∃ vs,u = .agg vs)
    (hm:∀ j (hj:j < u.cells.size),s.w.cell? ⟨blk,off + j,none⟩ = some u.cells[j]):(loadVar t ⟨blk,off,none⟩).run P s.w = .ok u s.w:=by
  unfold loadVar
  unfold kOk at hk
  cases k with
  | none=>
    have h1:ee (P.underlying t) = some false:=by
      cases h:ee (P.underlying t) with
      | none=>simp [h] at hk
      | some b=>cases b <;> simp [h] at hk ⊢
    have hc:=cY hv hs
    have h0:=hm 0 (by rw [hc]; simp)
    simp only [Nat.add_zero] at h0
    have h2:u.cells[0]'(by rw [hc]; simp) = u:=by simp [hc]
    rw [h2] at h0
    simp [Sem.run_bind,sK h1,h0]
  | some n=>
    obtain ⟨hn,vs,rfl⟩:=hs
    have h1:ee (P.underlying t) = some true ∧ P.cellsOf t = n ∧ (P.info? t).isSome = true:=by
      cases h:ee (P.underlying t) with
      | none=>simp [h] at hk
      | some b=>cases b <;> simp [h] at hk ⊢; exact hk
    have hl:=run_loadCells_list (P:=P) s.w ⟨blk,off,none⟩ vs.toList (fun j v hj=>by
      have hj':j < vs.size:=by
        rcases Nat.lt_or_ge j vs.size with h | h
        · exact h
        · simp [Array.getElem?_eq_none h] at hj
      have:=hm j hj'
      rw [bY,this]
      simpa [Value.cells,Array.getElem?_eq_getElem hj'] using hj)
    simp only [Value.cells] at hn
    have hlen:vs.toList.length = n:=by simpa using hn
    rw [hlen] at hl
    simp [Sem.run_bind,vc h1.1,aT h1.2.2,h1.2.1,hl]
theorem yc {t:TypeId} (h:kOk P t none = true):ee (P.underlying t) = some false:=by
  unfold kOk at h
  cases h':ee (P.underlying t) with
  | none=>simp [h'] at h
  | some b=>cases b <;> simp [h'] at h ⊢
theorem sW {t:TypeId} {n:Nat} (h:kOk P t (some n) = true):ee (P.underlying t) = some true ∧ P.cellsOf t = n ∧ (P.info? t).isSome = true:=by
  unfold kOk at h
  cases h':ee (P.underlying t) with
  | none=>simp [h'] at h
  | some b=>cases b <;> simp [h'] at h ⊢; exact h
theorem sO {t:TypeId} {k:Option Nat} (h:kOk P t k = true):(P.info? t).isSome = true:=by
  cases k with
  | some n=>exact (sW h).2.2
  | none=>
    unfold kOk at h
    cases h':ee (P.underlying t) with
    | none=>simp [h'] at h
    | some b=>cases b <;> simp [h'] at h; exact h
theorem uv {t : TypeId} {k : Option Nat} (hk : kOk P t k = true) {cs : List ab} {off blk o : Nat} {vs : Array Value} (hl : vs.size = cs.length)
    (h:∀ j (h1:j < cs.length) (h2:j < vs.size),Rv s cs[j] vs[j]) (ho:eM k cs off)
    (hm:∀ j (hj:j < vs.size),s.w.cell? ⟨blk,o + j,none⟩ = some vs[j]) :
    ∃ u,(loadVar t ⟨blk,o + off,none⟩).run P s.w = .ok u s.w ∧ Rv s (gP k cs off) u:=by
  obtain ⟨u,hu,hsh⟩:=rz hl h ho
  refine ⟨u,kx hk hu ?_ ?_,hu⟩
  · cases k with
    | none=>exact ho.2
    | some n=>simp only at hsh; subst hsh; simp only [eM] at ho; refine ⟨?_,_,rfl⟩; simp [Value.cells]; omega
  · intro j hj
    cases k with
    | none=>
      simp only at hsh
      have hc:=cY hu ho.2
      have hj0 : j = 0 := by have : u.cells.size = 1 := by rw [hc]; rfl
                             omega
      subst hj0
      have h2:u.cells[0]'(by rw [hc]; simp) = u:=by simp [hc]
      obtain ⟨hlt,he⟩:=Array.getElem?_eq_some_iff.1 hsh
      rw [h2,Nat.add_zero,hm off hlt,he]
    | some n=>
      simp only at hsh
      subst hsh
      simp only [eM] at ho
      simp only [Value.cells,Array.size_extract] at hj
      have:=hm (off + j) (by omega)
      rw [Nat.add_assoc,this]
      simp [Value.cells]
theorem af.get_some {σ:af} {b:Nat} {o:bo} (h:σ.get b = o) (hne:o ≠ .dead):σ[b]? = some o:=by
  unfold af.get at h
  cases e:σ[b]? with
  | none=>simp [List.getD,e] at h; exact absurd h.symm hne
  | some x=>simp [List.getD,e] at h; rw [h]
theorem Rv.cells {v:ab} {c:Value} (h:Rv s v c) (hf:v.BE = true) :
    c.cells.size = v.cells.length ∧ ∀ j (g1:j < v.cells.length) (g2:j < c.cells.size),Rv s v.cells[j] c.cells[j]:=by
  have hscal:v.fB = true → v.cells = [v] → c.cells.size = v.cells.length ∧ ∀ j (g1:j < v.cells.length) (g2:j < c.cells.size),Rv s v.cells[j] c.cells[j]:=by
    intro hs hv
    have hc:=cY h hs
    have hj:c.cells.size = 1:=by rw [hc]; rfl
    refine ⟨by rw [hj,hv]; rfl,fun j g1 g2=>?_⟩
    have:j = 0:=by omega
    subst this
    have e1:v.cells[0] = v:=by simp [hv]
    have e2:c.cells[0] = c:=by simp [hc]
    rw [e1,e2]; exact h
  cases v with
  | agg cs=>obtain ⟨vs,rfl,h1,h2⟩:=h.ja; exact ⟨h1,h2⟩
  | _=>first | exact hscal hf rfl | (simp [ab.BE,ab.fB] at hf)
theorem mR (hi:Inv A s) {t:TypeId} {k:Option Nat} (hk:kOk P t k = true) {v:ab} {c:Value} (hv:Rv s v c) (ho:fc k s.h v) :
    ∃ u,(Instr.loadAt t c).run P s.w = .ok u s.w ∧ Rv s (lq k s.h v) u:=by
  unfold Instr.loadAt
  cases v with
  | pval v=>
    cases hv with
    | pval _ u blk off hv hm=>
      refine ⟨u, ?_,hv⟩
      simp only [Instr.sureAddr,Sem.run_bind,Sem.run_pure,Result.andThen_ok]
      refine kx hk hv ?_ (fun j hj=>(hm j hj).2)
      cases k with
      | none=>exact ho
      | some n=>
        simp only [fc] at ho
        cases v with
        | agg cs=>
          obtain ⟨vs,rfl,hsz,_⟩:=hv.ja
          exact ⟨by simp [Value.cells,hsz,ho],vs,rfl⟩
        | _=>exact ho.elim
  | ptr b off=>
    cases hv with
    | ptr _ _ blk hl=>
      simp only [fc] at ho
      cases hb:s.h.get b with
      | box cs=>
        rw [hb] at ho
        obtain ⟨blk',vs,el,hl',_,hh,hsz,hr,_⟩:=hi.obj b _ (af.get_some hb (by simp))
        have:blk' = blk:=by rw [hl] at hl'; simpa using hl'.symm
        subst this
        obtain ⟨u,h1,h2⟩:=uv (P:=P) (s:=s) (blk:=blk') (o:=0) hk hsz hr ho (fun j hj=>by
          simp [World.cell?,hh,hj])
        simp only [Nat.zero_add] at h1
        refine ⟨u, ?_,by simpa [lq,hb] using h2⟩
        simp [Instr.sureAddr,h1]
      | _=>rw [hb] at ho; exact ho.elim
  | eptr sz b i f n=>
    cases hv with
    | eptr _ _ _ _ _ blk cap hl=>
      simp only [fc] at ho
      cases hb:s.h.get b with
      | arr sz' xs=>
        rw [hb] at ho
        obtain ⟨rfl,hn,hin,hfine,hp⟩:=ho
        rcases (hi.obj b _ (af.get_some hb (by simp))).2 with ⟨hx,_⟩ | ⟨blk',cap',vs,el,us,_,hl',_,hh,hsz,hc,hu,hr,hvs,_⟩
        · subst hx; simp at hn; omega
        · have:blk' = blk:=by rw [hn,hl] at hl'; simp at hl'; exact hl'.1.symm
          subst this
          have h1:i < xs.length:=by omega
          have h2:i < us.length:=by omega
          obtain ⟨hri,hci⟩:=hr i h1 h2
          have hx:xs.getD i .undef = xs[i]:=by simp [List.getD,List.getElem?_eq_getElem h1]
          rw [hx] at hp hfine
          have hcells:=hri.cells hfine
          obtain ⟨u,h3,h4⟩:=uv (P:=P) (s:=s) (blk:=blk') (o:=i * sz') hk hcells.1 hcells.2 hp (fun j hj=>by
            have:=hvs i j h2 hj
            simp [World.cell?,hh,this])
          refine ⟨u, ?_,by simpa [lq,hb,List.getD,List.getElem?_eq_getElem h1] using h4⟩
          simp [Instr.sureAddr,h3]
      | _=>rw [hb] at ho; exact ho.elim
  | _=>exact ho.elim
end run
open Go.RowKit
section run
variable {P:Program} {s:St} {A:World} {ρ:aI → ab} {ρ':Operand → Value}
theorem au (x:Sem Value) (c:Value) (w w':World) (h:x.run P w = .ok c w'):(do pure (Next.value (← x)):Sem Next).run P w = .ok (.value c) w':=by
  simp [h]
theorem xL {op:BinOp} {t:TypeId} {v u:ab} {c d:Value} (hv:Rv s v c) (hu:Rv s u d) (ho:yE op v u) (x y:Operand) :
    ∃ r,(do eqGuard op t x y c d; binOp op t c d:Sem Value).run P s.w = .ok r s.w ∧ Rv s (Cr op v u) r:=by
  have hg:∀ (a b:Value),(∀ q,a ≠ .agg q) → a ≠ .nilIface → (eqGuard op t x y a b).run P s.w = .ok () s.w:=by
    intro a b h1 h2
    unfold eqGuard
    cases op <;> simp <;> (try (cases a <;> first | rfl | exact absurd rfl (h1 _) | exact absurd rfl h2))
  cases v with
  | int j a=>
    cases u with
    | int k b=>
      cases hv; cases hu
      rw [Sem.run_bind,hg _ _ (by simp) (by simp),Result.andThen_ok]
      simp only [yE] at ho
      cases op <;> simp only [vL] at ho <;> (try subst ho) <;> (try (obtain ⟨rfl,h0⟩:=ho)) <;>
        simp [binOp,Op.intArith,Op.intDiv,Op.intBits,Op.shift,Op.intCmp,Cr,arith,rl,Fq, *] <;> (try (rw [if_neg (by omega)])) <;> (try simp) <;> first | exact .int _ _ | exact .bool _ | skip
    | _=>exact ho.elim
  | str a=>
    cases u with
    | str b=>
      cases hv; cases hu
      rw [Sem.run_bind,hg _ _ (by simp) (by simp),Result.andThen_ok]
      simp only [yE] at ho
      cases op <;> simp only [v9] at ho <;>
        simp [binOp,Op.stringOp,Cr,Ed] <;> first | exact .bool _ | skip
      rw [if_neg (by simpa using ho)]
      simp; exact .str _
    | _=>exact ho.elim
  | _=>exact ho.elim
theorem yZ {op:UnOp} {v:ab} {c:Value} (hv:Rv s v c) (ho:ED op v):∃ r,(Op.unary op c).run P s.w = .ok r s.w ∧ Rv s (unV op v) r:=by
  cases v with
  | bool b=>cases hv; cases op <;> simp only [ED] at ho <;> exact ⟨_,rfl, .bool _⟩
  | int k n=>
    cases hv
    cases op <;> simp only [ED] at ho
    · exact ⟨_,rfl, .int _ _⟩
    · exact ⟨_,rfl, .int _ _⟩
  | _=>exact ho.elim
theorem bR {v:ab} {c:Value} (h:Rv s v c) (hi:isInt v):∃ k,c = .int k (bI v) ∧ v = .int k (bI v):=by
  cases v with
  | int k n=>cases h; exact ⟨k,rfl,rfl⟩
  | _=>exact hi.elim
theorem oB {k : Option Nat} {off : Nat} {v : ab} {c : Value} (hv : Rv s v c) (ho : iR k off v) :
    ∃ blk o,c = .pointer (some ⟨blk,o,none⟩) ∧ Rv s (j6 k off v) (.pointer (some ⟨blk,o + off,none⟩)):=by
  cases v with
  | pval v=>
    cases v with
    | agg cs=>
      cases hv with
      | pval _ u blk o hv hm=>
        obtain ⟨vs,rfl,hsz,hr⟩:=hv.ja
        obtain ⟨u,hu,hsh⟩:=rz hsz hr ho
        refine ⟨blk,o,rfl, .pval _ u _ _ hu (fun j hj=>?_)⟩
        cases k with
        | none=>
          simp only at hsh
          have hc:=cY hu ho.2
          have hj0 : j = 0 := by have : u.cells.size = 1 := by rw [hc]; rfl
                                 omega
          subst hj0
          have h2:u.cells[0]'(by rw [hc]; simp) = u:=by simp [hc]
          obtain ⟨hlt,he⟩:=Array.getElem?_eq_some_iff.1 hsh
          have:=hm off hlt
          rw [h2,Nat.add_zero]
          simpa [Value.cells,he] using this
        | some n=>
          simp only at hsh
          subst hsh
          simp only [Value.cells,Array.size_extract] at hj
          have:=hm (off + j) (by simp only [Value.cells]; omega)
          rw [Nat.add_assoc]
          simpa [Value.cells] using this
    | _=>exact ho.elim
  | ptr b o=>
    cases hv with
    | ptr _ _ blk hl=>exact ⟨blk,o,rfl, .ptr b (o + off) blk hl⟩
  | eptr sz b i f n=>
    cases hv with
    | eptr _ _ _ _ _ blk cap hl=>
      refine ⟨blk,_,rfl, ?_⟩
      rw [Nat.add_assoc]; exact .eptr sz b i (f + off) n blk cap hl
  | _=>exact ho.elim
theorem mO {t:TypeId} {k:Option Nat} (hk:kOk P t k = true) {cs:List ab} {off:Nat} {vs:Array Value} (hl:vs.size = cs.length)
    (h:∀ j (h1:j < cs.length) (h2:j < vs.size),Rv s cs[j] vs[j]) (ho:eM k cs off):∃ u,(part t vs off).run P s.w = .ok u s.w ∧ Rv s (gP k cs off) u:=by
  obtain ⟨u,hu,hsh⟩:=rz hl h ho
  refine ⟨u, ?_,hu⟩
  unfold part
  cases k with
  | none=>simp only at hsh; simp [sK (yc hk),hsh]
  | some n=>obtain ⟨h1,h2,h3⟩:=sW hk; simp only at hsh; subst hsh; simp [vc h1,aT h3,h2]
theorem uW {t:TypeId} {k:Option Nat} (hk:kOk P t k = true) {v:ab} {c:Value} {off:Nat} (hv:Rv s v c) (ho:AE k off v) :
    ∃ vs u,c = .agg vs ∧ (part t vs off).run P s.w = .ok u s.w ∧ Rv s (Fi k off v) u:=by
  cases v with
  | agg cs=>
    obtain ⟨vs,rfl,hsz,hr⟩:=hv.ja
    obtain ⟨u,h1,h2⟩:=mO hk hsz hr ho
    exact ⟨vs,u,rfl,h1,h2⟩
  | _=>exact ho.elim
theorem Rv.cQ {sz:Nat} {xs:List ab} {c:Value} (h:Rv s (.slice sz xs) c):∃ a cap,c = .slice a xs.length cap ∧ (xs = [] ∨ ∃ (blk off:Nat) (us:List Value),a = some ⟨blk,off,none⟩ ∧ us.length = xs.length ∧ xs.length ≤ cap ∧
    (∀ i (h1:i < xs.length) (h2:i < us.length),Rv s xs[i] us[i]) ∧ ∀ i (h2:i < us.length),us[i].cells.size = sz ∧ oU s blk (off + i * sz) us[i]):=by
  cases h with
  | slice0 _ a cap=>exact ⟨a,cap,rfl, .inl rfl⟩
  | slice _ _ blk off len cap us hl hn hc hr hm=>subst hn; exact ⟨_,cap,rfl, .inr ⟨blk,off,us,rfl,hl,hc,hr,hm⟩⟩
theorem zf {v:ab} {c:Value} (hv:Rv s v c) (ho:DP v):∃ a n cap,c = .slice a n cap ∧ HA v = .int .i64 n:=by
  cases v with
  | slice sz xs=>obtain ⟨a,cap,rfl,_⟩:=hv.cQ; exact ⟨_,_,_,rfl,rfl⟩
  | oslice sz xs b k=>cases hv with | oslice _ _ _ _ _ hs hl=>obtain ⟨a,cap,rfl,_⟩:=hs.cQ; exact ⟨_,_,_,rfl,rfl⟩
  | sref sz b off len n=>
    cases hv with
    | sref _ _ _ _ _ blk cap hl h1 h2=>exact ⟨_,_,_,rfl,rfl⟩
    | sref0=>exact ⟨_,_,_,rfl,rfl⟩
    | srefE=>exact ⟨_,_,_,rfl,rfl⟩
  | _=>exact ho.elim
theorem Bk {sz:Nat} {n:Int} {v:ab} {c:Value} (hv:Rv s v c) (ho:Dy sz n v) :
    ∃ blk off len cap,c = .slice (some ⟨blk,off,none⟩) len cap ∧ 0 ≤ n ∧ n < len ∧ Rv s (HJ n v) (.pointer (some ⟨blk,off + n.toNat * sz,none⟩)):=by
  have core:∀ {xs:List ab} {c:Value},Rv s (.slice sz xs) c → 0 ≤ n → n < xs.length → ∃ blk off len cap,c = .slice (some ⟨blk,off,none⟩) len cap ∧ 0 ≤ n ∧ n < len ∧
      Rv s (.pval (xs.getD n.toNat .undef)) (.pointer (some ⟨blk,off + n.toNat * sz,none⟩)):=by
    intro xs c hv h0 h1
    obtain ⟨a,cap,rfl,h | ⟨blk,off,us,rfl,hl,hc,hr,hm⟩⟩:=hv.cQ
    · subst h; simp at h1; omega
    · have h2:n.toNat < xs.length:=by omega
      have h3:n.toNat < us.length:=by omega
      refine ⟨blk,off,_,cap,rfl,h0,h1, .pval _ us[n.toNat] _ _ ?_ (hm _ h3).2⟩
      have:=hr _ h2 h3
      simpa [List.getD,List.getElem?_eq_getElem h2] using this
  cases v with
  | slice sz' xs=>obtain ⟨rfl,h0,h1⟩:=ho; exact core hv h0 h1
  | oslice sz' xs b k=>obtain ⟨rfl,h0,h1⟩:=ho; cases hv with | oslice _ _ _ _ _ hs hl=>exact core hs h0 h1
  | sref sz' b off len m=>
    obtain ⟨rfl,h0,h1⟩:=ho
    cases hv with
    | sref _ _ _ _ _ blk cap hl g1 g2=>
      refine ⟨blk,off * sz',len,cap - off,rfl,h0,h1, ?_⟩
      have:=Rv.eptr (s:=s) sz' b (off + n.toNat) 0 m blk cap hl
      rw [Nat.add_mul,Nat.add_zero] at this
      exact this
    | sref0=>simp at h1; omega
    | srefE=>simp at h1; omega
  | _=>exact ho.elim
theorem jj (f:ab → ab → ab) (g:Value → Value → Sem Value)
    (hfg:∀ (x y:ab) (c d:Value),Rv s x c → Rv s y d → isInt x → isInt y → isInt (f x y) ∧ ∃ r,(g c d).run P s.w = .ok r s.w ∧ Rv s (f x y) r) :
    ∀ (l:List ab) (m:List Value) (x:ab) (c:Value),l.length = m.length → (∀ j (h1:j < l.length) (h2:j < m.length),Rv s l[j] m[j]) → vR l → Rv s x c → isInt x →
      ∃ r,(m.foldlM g c).run P s.w = .ok r s.w ∧ Rv s (l.foldl f x) r
  | [],[],x,c,_,_,_,hx,_=>⟨c,rfl,hx⟩
  | a :: l,b :: m,x,c,hl,h,ha,hx,hxi=>by
    obtain ⟨h1,r,h2,h3⟩:=hfg x a c b hx (h 0 (by simp) (by simp)) hxi ha.1
    obtain ⟨r',h4,h5⟩:=jj f g hfg l m (f x a) r (by simpa using hl) (fun j g1 g2=>by have:=h (j + 1) (by simpa using g1) (by simpa using g2); simpa using this) ha.2 h3 h1
    exact ⟨r',by simp [List.foldlM,h2,h4],h5⟩
  | [],_ :: _,_,_,hl,_,_,_,_=>by simp at hl
  | _ :: _,[],_,_,hl,_,_,_,_=>by simp at hl
theorem zy (x y:ab) (c d:Value) (hx:Rv s x c) (hy:Rv s y d) (h1:isInt x) (h2:isInt y):isInt (CB x y) ∧ ∃ r,(Builtin.max2 c d).run P s.w = .ok r s.w ∧ Rv s (CB x y) r:=by
  obtain ⟨k,rfl,e1⟩:=bR hx h1
  obtain ⟨j,rfl,e2⟩:=bR hy h2
  rw [e1,e2]
  refine ⟨trivial,_,rfl, ?_⟩
  simp only [CB,bI]; exact .int _ _
theorem zm (x y:ab) (c d:Value) (hx:Rv s x c) (hy:Rv s y d) (h1:isInt x) (h2:isInt y):isInt (CG x y) ∧ ∃ r,(Builtin.min2 c d).run P s.w = .ok r s.w ∧ Rv s (CG x y) r:=by
  obtain ⟨k,rfl,e1⟩:=bR hx h1
  obtain ⟨j,rfl,e2⟩:=bR hy h2
  rw [e1,e2]
  refine ⟨trivial,_,rfl, ?_⟩
  simp only [CG,bI]; exact .int _ _
end run
section
variable {P:Program} {s:St} {A:World} {ρ:aI → ab} {ρ':Operand → Value}
theorem ij {x:Value} {k:IntKind} {n:Int} {y:Nat} {code:BoundsCode} {w:World} (hx:x = .int k n) (h0:0 ≤ n) (h1:n ≤ y):(Instr.sliceBound x y code).run P w = .ok n.toNat w:=by
  subst hx
  simp [Instr.sliceBound,asIntOf,h0,h1]
theorem lK {x:Option aI} {y:Option Operand} (ha:fm s ρ ρ') (h:ev x y = true) (ho:df ρ x) (d:Int) :
    (x = none ∧ y = none ∧ aO ρ d x = d) ∨ ∃ x' y' k,x = some x' ∧ y = some y' ∧ ρ' y' = .int k (aO ρ d x):=by
  cases x with
  | none=>cases y <;> simp [ev] at h; exact .inl ⟨rfl,rfl,rfl⟩
  | some x'=>
    cases y with
    | none=>simp [ev] at h
    | some y'=>
      simp only [ev] at h
      obtain ⟨k,e1,_⟩:=bR (ha _ _ h) ho
      exact .inr ⟨x',y',k,rfl,rfl,e1⟩
theorem nj {lo hi mx:Option aI} {lo' hi' mx':Option Operand} (ha:fm s ρ ρ') (h1:ev lo lo' = true) (h2:ev hi hi' = true) (h3:ev mx mx' = true) (o1:df ρ lo) (o2:df ρ hi) (o3:df ρ mx)
    {len cap:Nat} {w:World} (g0:0 ≤ aO ρ 0 lo) (g1:aO ρ 0 lo ≤ aO ρ len hi) (g2:aO ρ len hi ≤ aO ρ cap mx) (g3:aO ρ cap mx ≤ cap) (hmx:mx.isSome = true → hi.isSome = true) :
    (Instr.sliceBounds true len cap (lo'.map ρ') (hi'.map ρ') (mx'.map ρ')).run P w = .ok ((aO ρ 0 lo).toNat,(aO ρ len hi).toNat,(aO ρ cap mx).toNat) w:=by
  have rlo:∀ h:Nat,aO ρ 0 lo ≤ h → ∀ code (p q:Nat) w,((match lo'.map ρ' with
      | some v=>do
        let l ← Instr.sliceBound v h code
        pure (l,p,q)
      | none=>do
        let l ← pure 0
        pure (l,p,q)):Sem (Nat × Nat × Nat)).run P w = .ok ((aO ρ 0 lo).toNat,p,q) w:=by
    intro h hle code p q w
    rcases lK ha h1 o1 0 with ⟨rfl,rfl,e1⟩ | ⟨x1,y1,k1,rfl,rfl,e1⟩
    · rfl
    · simp only [Option.map_some,Sem.run_bind]
      rw [ij e1 g0 hle]; rfl
  rcases lK ha h3 o3 (cap:Int) with ⟨rfl,rfl,e3⟩ | ⟨x3,y3,k3,rfl,rfl,e3⟩
  · rcases lK ha h2 o2 (len:Int) with ⟨rfl,rfl,e2⟩ | ⟨x2,y2,k2,rfl,rfl,e2⟩
    · have:=rlo len (by rw [e2] at g1; exact g1) .sliceB len cap w
      simp only [Instr.sliceBounds,Option.map_none,Sem.run_bind,Sem.run_pure,Result.andThen_ok,Option.isSome_none,Bool.false_eq_true,if_false,e2,e3,Int.toNat_natCast]
      exact this
    · have hb:=ij (P:=P) (w:=w) (code:=.sliceAcap) e2 (Int.le_trans g0 g1) (by rw [e3] at g2; exact g2)
      have:=rlo (aO ρ (len:Int) (some x2)).toNat (by omega) .sliceB (aO ρ (len:Int) (some x2)).toNat cap w
      simp only [Instr.sliceBounds,Option.map_none,Option.map_some,Sem.run_bind,Sem.run_pure,Result.andThen_ok,Option.isSome_none,Bool.false_eq_true,if_false,if_true,hb,e3,Int.toNat_natCast]
      exact this
  · rcases lK ha h2 o2 (len:Int) with ⟨rfl,rfl,e2⟩ | ⟨x2,y2,k2,rfl,rfl,e2⟩
    · simp at hmx
    · have hc:=ij (P:=P) (w:=w) (code:=.slice3Acap) e3 (Int.le_trans g0 (Int.le_trans g1 g2)) g3
      have hb:=ij (P:=P) (w:=w) (y:=(aO ρ (cap:Int) (some x3)).toNat) (code:=.slice3B) e2 (Int.le_trans g0 g1) (by omega)
      have:=rlo (aO ρ (len:Int) (some x2)).toNat (by omega) .slice3C (aO ρ (len:Int) (some x2)).toNat (aO ρ (cap:Int) (some x3)).toNat w
      simp only [Instr.sliceBounds,Option.map_some,Sem.run_bind,Result.andThen_ok,Option.isSome_some,if_true,hc,hb]
      exact this
theorem lU {t e:TypeId} (ht:P.underlying t = some (.slice e)) {sz:Nat} (hsz:P.cellsOf e = sz) (hinf:(P.info? e).isSome = true) {a:Option Addr} {len cap l h m:Nat} {x y z:Option Value} {w:World}
    (hb:(Instr.sliceBounds true len cap x y z).run P w = .ok (l,h,m) w):(Instr.slice t (.slice a len cap) x y z).run P w = .ok (.slice (if m = l then a else a.map (·.add (l * sz))) (h - l) (m - l)) w:=by
  simp only [Instr.slice,Sem.run_bind,aw ht,Result.andThen_ok,hb,aT hinf,hsz,Sem.run_pure]
theorem sY {sz sz':Nat} {xs:List ab} {a:Option Addr} {cap l h:Nat} (hx:Rv s (.slice sz' xs) (.slice a xs.length cap)) (hz:sz' = sz ∨ xs = []) (h1:l ≤ h) (h2:h ≤ xs.length) {mm:Nat} (h3:h ≤ mm) :
    Rv s (.slice sz ((xs.take h).drop l)) (.slice (if mm = l then a else a.map (·.add (l * sz))) (h - l) (mm - l)):=by
  have hlen:((xs.take h).drop l).length = h - l:=by simp; omega
  by_cases he:h = l
  · have:(xs.take h).drop l = []:=List.eq_nil_of_length_eq_zero (by rw [hlen]; omega)
    rw [this,show h - l = 0 by omega]; exact .slice0 _ _ _
  · obtain ⟨a',cap',e1,hs⟩:=hx.cQ
    cases e1
    rcases hs with rfl | ⟨blk,off,us,rfl,q1,q2,q3,q4⟩
    · simp at h2; omega
    · have hsz':sz' = sz:=hz.resolve_right (by intro e; subst e; simp at h2; omega)
      subst hsz'
      rw [if_neg (by omega)]
      simp only [Option.map_some,bY]
      refine .slice sz' _ blk (off + l * sz') _ _ ((us.take h).drop l) (by simp [q1]) hlen.symm (by omega) (fun i r1 r2=>?_) (fun i r2=>?_)
      · have:=q3 (l + i) (by simp at r1; omega) (by simp at r2; omega)
        simpa using this
      · have:=q4 (l + i) (by simp at r2; omega)
        simp only [List.getElem_drop,List.getElem_take]
        rw [show off + l * sz' + i * sz' = off + (l + i) * sz' by rw [Nat.add_mul]; omega]
        exact this
theorem vd {t e:TypeId} (ha:fm s ρ ρ') (ht:P.underlying t = some (.slice e)) {sz sz':Nat} (hsz:P.cellsOf e = sz) (hinf:(P.info? e).isSome = true) {xs:List ab} {c:Value} (hx:Rv s (.slice sz' xs) c) (hz:sz' = sz ∨ xs = [])
    {lo hi:Option aI} {lo' hi':Option Operand} (h1:ev lo lo' = true) (h2:ev hi hi' = true) (o1:df ρ lo) (o2:df ρ hi) (g0:0 ≤ aO ρ 0 lo) (g1:aO ρ 0 lo ≤ aO ρ xs.length hi) (g2:aO ρ xs.length hi ≤ xs.length) :
    ∃ r,(Instr.sliceAt t c (lo'.map ρ') (hi'.map ρ') none).run P s.w = .ok r s.w ∧ Rv s (.slice sz ((xs.take (aO ρ xs.length hi).toNat).drop (aO ρ 0 lo).toNat)) r:=by
  obtain ⟨a,cap,rfl,hs⟩:=hx.cQ
  have hcap:xs.length ≤ cap:=by
    rcases hs with rfl | ⟨_,_,_,_,_,hc,_⟩
    · simp
    · exact hc
  have hb:=nj (P:=P) (w:=s.w) (mx:=none) (mx':=none) (cap:=cap) (len:=xs.length) ha h1 h2 rfl o1 o2 trivial g0 g1 (by simp only [aO] at g2 ⊢; omega) (by simp only [aO]; omega) (by simp)
  have hrun:=lU (a:=a) ht hsz hinf hb
  refine ⟨_,by simpa [Instr.sliceAt,aw ht] using hrun,sY hx hz (by omega) (by omega) ?_⟩
  simp only [aO,Int.toNat_natCast]; simp only [aO] at g2; omega
theorem yg {lo hi:Option aI} {lo' hi':Option Operand} (ha:fm s ρ ρ') (h1:ev lo lo' = true) (h2:ev hi hi' = true) (o1:df ρ lo) (o2:df ρ hi)
    {len:Nat} {w:World} (g0:0 ≤ aO ρ 0 lo) (g1:aO ρ 0 lo ≤ aO ρ len hi) (g2:aO ρ len hi ≤ len) :
    (Instr.sliceBounds false len len (lo'.map ρ') (hi'.map ρ') none).run P w = .ok ((aO ρ 0 lo).toNat,(aO ρ len hi).toNat,len) w:=by
  have rlo:∀ h:Nat,aO ρ 0 lo ≤ h → ∀ code (p q:Nat) w,((match lo'.map ρ' with
      | some v=>do
        let l ← Instr.sliceBound v h code
        pure (l,p,q)
      | none=>do
        let l ← pure 0
        pure (l,p,q)):Sem (Nat × Nat × Nat)).run P w = .ok ((aO ρ 0 lo).toNat,p,q) w:=by
    intro h hle code p q w
    rcases lK ha h1 o1 0 with ⟨rfl,rfl,e1⟩ | ⟨x1,y1,k1,rfl,rfl,e1⟩
    · rfl
    · simp only [Option.map_some,Sem.run_bind]
      rw [ij e1 g0 hle]; rfl
  rcases lK ha h2 o2 (len:Int) with ⟨rfl,rfl,e2⟩ | ⟨x2,y2,k2,rfl,rfl,e2⟩
  · have:=rlo len (by rw [e2] at g1; exact g1) .sliceB len len w
    simp only [Instr.sliceBounds,Option.map_none,Sem.run_bind,Sem.run_pure,Result.andThen_ok,Option.isSome_none,Bool.false_eq_true,if_false,e2,Int.toNat_natCast]
    exact this
  · have hb:=ij (P:=P) (w:=w) (code:=.sliceAlen) e2 (Int.le_trans g0 g1) g2
    have:=rlo (aO ρ (len:Int) (some x2)).toNat (by omega) .sliceB (aO ρ (len:Int) (some x2)).toNat len w
    simp only [Instr.sliceBounds,Option.map_some,Sem.run_bind,Sem.run_pure,Result.andThen_ok,Option.isSome_none,Bool.false_eq_true,if_false,hb]
    exact this
end
end Go.AM
