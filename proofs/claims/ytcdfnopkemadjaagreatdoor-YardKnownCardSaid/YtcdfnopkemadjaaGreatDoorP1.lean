/- The tables of the program that this seat reads: the powers of ten of strconv; those of math/bits; and the variables of which only the kind of the value is known. The abstract values, the abstract .. -/
import GoSem.Claim
import Derived.CallsIn
import Derived.OrdersIn
import Derived.RangeFuncIn
import Derived.Below
namespace Go.AM
def pJ:List (IntKind × Int):=[(.u64,1),(.u64,10),(.u64,100),(.u64,1000),(.u64,10000),(.u64,100000),(.u64,1000000),(.u64,10000000),(.u64,100000000),(.u64,1000000000),(.u64,10000000000),(.u64,100000000000),(.u64,1000000000000),(.u64,10000000000000),(.u64,100000000000000),(.u64,1000000000000000),(.u64,10000000000000000),(.u64,100000000000000000),(.u64,1000000000000000000),(.u64,10000000000000000000)]
def Jw:List (IntKind × Int):=[(.u8,0),(.u8,1),(.u8,28),(.u8,2),(.u8,29),(.u8,14),(.u8,24),(.u8,3),(.u8,30),(.u8,22),(.u8,20),(.u8,15),(.u8,25),(.u8,17),(.u8,4),(.u8,8),(.u8,31),(.u8,27),(.u8,13),(.u8,23),(.u8,21),(.u8,19),(.u8,16),(.u8,7),(.u8,26),(.u8,12),(.u8,18),(.u8,6),(.u8,11),(.u8,5),(.u8,10),(.u8,9)]
def Jf:List (IntKind × Int):=[(.u8,0),(.u8,1),(.u8,56),(.u8,2),(.u8,57),(.u8,49),(.u8,28),(.u8,3),(.u8,61),(.u8,58),(.u8,42),(.u8,50),(.u8,38),(.u8,29),(.u8,17),(.u8,4),(.u8,62),(.u8,47),(.u8,59),(.u8,36),(.u8,45),(.u8,43),(.u8,51),(.u8,22),(.u8,53),(.u8,39),(.u8,33),(.u8,30),(.u8,24),(.u8,18),(.u8,12),(.u8,5),(.u8,63),(.u8,55),(.u8,48),(.u8,27),(.u8,60),(.u8,41),(.u8,37),(.u8,16),(.u8,46),(.u8,35),(.u8,44),(.u8,21),(.u8,52),(.u8,32),(.u8,23),(.u8,11),(.u8,54),(.u8,26),(.u8,40),(.u8,15),(.u8,34),(.u8,20),(.u8,31),(.u8,10),(.u8,25),(.u8,14),(.u8,19),(.u8,9),(.u8,13),(.u8,8),(.u8,7),(.u8,6)]
def bP:List (Nat × List (IntKind × Int)):=[(5,pJ),(6,Jw),(7,Jf)]
def dZ:List (Nat × Nat):=[(0,0),(1,1),(2,1)]
def Jn:Nat → Value → Prop
 | 0,v=>∃ m,v = .int .i64 m
 | _,v=>∃ t u,v = .iface t u
def ku:TypeId × TypeId:=(141,5)
open Go.RowKit
inductive aa where
 | undef
 | bool (b:Bool)
 | int (k:IntKind) (n:Int)
 | str (x:ByteArray)
 | agg (cs:List aa)
 | tup (vs:List aa)
 | slice (sz:Nat) (xs:List aa)
 | oslice (sz:Nat) (xs:List aa) (b k:Nat)
 | sref (sz b off len n:Nat)
 | pval (v:aa)
 | ptr (b off:Nat)
 | eptr (sz b i f n:Nat)
 | nilptr
 | func (fn:Fn) (first caps:List aa)
 | nilfunc
 | iface (t:TypeId) (v:aa)
 | niliface
 | map (b:Nat)
 | nilmap
 | opt (g:Bool) (v:aa)
 | mint (sz:Nat)
 | iter (b:Nat)
 | yieldf (b:Nat)
 | nils (sz:Nat)
 deriving Inhabited
def aa.cells:aa → List aa
 | .agg cs=>cs
 | v=>[v]
def aa.cP:aa → Bool
 | .undef | .agg _ | .tup _ | .opt _ _ | .mint _=>false
 | _=>true
abbrev Env:=List (Nat × aa)
def Env.get:Env → Nat → aa
 | [],_=>.undef
 | (m,v) :: r,n=>if m = n then v else Env.get r n
inductive bO where
 | dead
 | hole
 | box (cs:List aa)
 | arr (sz:Nat) (xs:List aa)
 | spare (sz k:Nat)
 | amap (es:List (aa × aa))
 | siter (x:ByteArray) (pos:Nat)
 | looprec (N:Nat) (e:Env) (ps:List Nat) (asg body:Code) (D:Nat) (st:LoopState) (pend:Option Code)
 | dfr
 | bld (k:Nat) (bs:List UInt8)
 deriving Inhabited
abbrev ab:=List bO
structure St where
 h:ab
 lam:Nat → Nat → Option Value
 S:Nat → Nat → Prop
 w:World
def jH (s:St) (blk off:Nat) (u:Value):Prop:=
 ∀ j (hj:j < u.cells.size),s.S blk (off + j) ∧ s.w.cell? ⟨blk,off + j,none⟩ = some u.cells[j]
inductive Rv (s:St):aa → Value → Prop
 | undef (c:Value):Rv s .undef c
 | bool (b:Bool):Rv s (.bool b) (.bool b)
 | int (k:IntKind) (n:Int):Rv s (.int k n) (.int k n)
 | str (x:ByteArray):Rv s (.str x) (.string x)
 | agg (cs:List aa) (vs:Array Value) (hl:vs.size = cs.length)
   (h:∀ j (h1:j < cs.length) (h2:j < vs.size),Rv s cs[j] vs[j]):Rv s (.agg cs) (.agg vs)
 | tup (cs:List aa) (vs:Array Value) (hl:vs.size = cs.length)
   (h:∀ j (h1:j < cs.length) (h2:j < vs.size),Rv s cs[j] vs[j]):Rv s (.tup cs) (.tuple vs)
 | slice0 (sz:Nat) (a:Option Addr) (cap:Nat):Rv s (.slice sz []) (.slice a 0 cap)
 | slice (sz:Nat) (xs:List aa) (blk off len cap:Nat) (us:List Value) (hl:us.length = xs.length) (hn:len = xs.length) (hc:len ≤ cap)
   (hr:∀ i (h1:i < xs.length) (h2:i < us.length),Rv s xs[i] us[i])
   (hm:∀ i (h2:i < us.length),us[i].cells.size = sz ∧ jH s blk (off + i * sz) us[i]) :
   Rv s (.slice sz xs) (.slice (some ⟨blk,off,none⟩) len cap)
 | oslice (sz:Nat) (xs:List aa) (b k:Nat) (c:Value) (hs:Rv s (.slice sz xs) c) (hl:s.lam b k = some c):Rv s (.oslice sz xs b k) c
 | sref (sz b off len n blk cap:Nat) (hl:s.lam b n = some (.slice (some ⟨blk,0,none⟩) n cap)) (h1:off + len ≤ n) (h2:n ≤ cap) :
   Rv s (.sref sz b off len n) (.slice (some ⟨blk,off * sz,none⟩) len (cap - off))
 | sref0 (sz b:Nat) (a:Option Addr) (hl:s.lam b 0 = some (.slice a 0 0)):Rv s (.sref sz b 0 0 0) (.slice a 0 0)
 | srefE (sz b off n:Nat) (a:Option Addr) (v:Value) (hl:s.lam b n = some v) (h0:0 < off) (h1:n ≤ off):Rv s (.sref sz b off 0 n) (.slice a 0 0)
 | pval (v:aa) (u:Value) (blk off:Nat) (hv:Rv s v u) (hm:jH s blk off u):Rv s (.pval v) (.pointer (some ⟨blk,off,none⟩))
 | ptr (b off blk:Nat) (hl:s.lam b 0 = some (.pointer (some ⟨blk,0,none⟩))):Rv s (.ptr b off) (.pointer (some ⟨blk,off,none⟩))
 | eptr (sz b i f n blk cap:Nat) (hl:s.lam b n = some (.slice (some ⟨blk,0,none⟩) n cap)) :
   Rv s (.eptr sz b i f n) (.pointer (some ⟨blk,i * sz + f,none⟩))
 | nilptr:Rv s .nilptr (.pointer none)
 | func (fn:Fn) (first caps:List aa) (fi ca:Array Value) (hf:fi.size = first.length) (hc:ca.size = caps.length)
   (h1:∀ j (a:j < first.length) (b:j < fi.size),Rv s first[j] fi[j])
   (h2:∀ j (a:j < caps.length) (b:j < ca.size),Rv s caps[j] ca[j]):Rv s (.func fn first caps) (.func fn fi ca)
 | nilfunc:Rv s .nilfunc .nilFunc
 | iface (t:TypeId) (v:aa) (u:Value) (h:Rv s v u):Rv s (.iface t v) (.iface t u)
 | niliface:Rv s .niliface .nilIface
 | map (b blk:Nat) (hl:s.lam b 0 = some (.map (some blk))):Rv s (.map b) (.map (some blk))
 | nilmap:Rv s .nilmap (.map none)
 | optT (v:aa) (c:Value) (h:Rv s v c):Rv s (.opt true v) c
 | optF (v:aa):Rv s (.opt false v) Go.undef
 | iter (b blk:Nat) (hl:s.lam b 0 = some (.pointer (some ⟨blk,0,none⟩))):Rv s (.iter b) (.pointer (some ⟨blk,0,none⟩))
 | yieldf (b blk:Nat) (hl:s.lam b 0 = some (.func (.yield blk) #[] #[])):Rv s (.yieldf b) (.func (.yield blk) #[] #[])
 | nils (sz:Nat):Rv s (.nils sz) (.slice none 0 0)
structure aL (s s':St):Prop where
 lam:∀ b k v,s.lam b k = some v → s'.lam b k = some v
 S:∀ blk o,s.S blk o → s'.S blk o
 cell:∀ blk o,s.S blk o → s'.w.cell? ⟨blk,o,none⟩ = s.w.cell? ⟨blk,o,none⟩
theorem aL.refl (s:St):aL s s:=⟨fun _ _ _ h=>h,fun _ _ h=>h,fun _ _ _=>rfl⟩
theorem aL.trans {a b c:St} (h:aL a b) (k:aL b c):aL a c:=
 ⟨fun x y v e=>k.lam x y v (h.lam x y v e),fun x o e=>k.S x o (h.S x o e),fun x o e=>(k.cell x o (h.S x o e)).trans (h.cell x o e)⟩
theorem jH.keeps {s s':St} (h:aL s s') {blk off:Nat} {u:Value} (hm:jH s blk off u):jH s' blk off u:=
 fun j hj=>⟨h.S _ _ (hm j hj).1,(h.cell _ _ (hm j hj).1).trans (hm j hj).2⟩
theorem Rv.keeps {s s':St} (h:aL s s') {v:aa} {c:Value} (r:Rv s v c):Rv s' v c:=by
 induction r with
 | undef c=>exact .undef c
 | bool b=>exact .bool b
 | int k n=>exact .int k n
 | str x=>exact .str x
 | agg cs vs hl _ ih=>exact .agg cs vs hl ih
 | tup cs vs hl _ ih=>exact .tup cs vs hl ih
 | slice0 sz a cap=>exact .slice0 sz a cap
 | slice sz xs blk off len cap us hl hn hc _ hm ih=>exact .slice sz xs blk off len cap us hl hn hc ih (fun i h2=>⟨(hm i h2).1,(hm i h2).2.keeps h⟩)
 | oslice sz xs b k c _ hl ih=>exact .oslice sz xs b k c ih (h.lam _ _ _ hl)
 | sref sz b off len n blk cap hl h1 h2=>exact .sref sz b off len n blk cap (h.lam _ _ _ hl) h1 h2
 | sref0 sz b a hl=>exact .sref0 sz b a (h.lam _ _ _ hl)
 | srefE sz b off n a v hl h0 h1=>exact .srefE sz b off n a v (h.lam _ _ _ hl) h0 h1
 | pval v u blk off _ hm ih=>exact .pval v u blk off ih (hm.keeps h)
 | ptr b off blk hl=>exact .ptr b off blk (h.lam _ _ _ hl)
 | eptr sz b i f n blk cap hl=>exact .eptr sz b i f n blk cap (h.lam _ _ _ hl)
 | nilptr=>exact .nilptr
 | func fn first caps fi ca hf hc _ _ ih1 ih2=>exact .func fn first caps fi ca hf hc ih1 ih2
 | nilfunc=>exact .nilfunc
 | iface t v u _ ih=>exact .iface t v u ih
 | niliface=>exact .niliface
 | map b blk hl=>exact .map b blk (h.lam _ _ _ hl)
 | nilmap=>exact .nilmap
 | optT v c _ ih=>exact .optT v c ih
 | optF v=>exact .optF v
 | iter b blk hl=>exact .iter b blk (h.lam _ _ _ hl)
 | yieldf b blk hl=>exact .yieldf b blk (h.lam _ _ _ hl)
 | nils sz=>exact .nils sz
def bu (s:St) (b:Nat):bO → Nat → Prop
 | .dead,_=>False
 | .hole,_=>False
 | .box _,blk=>s.lam b 0 = some (.pointer (some ⟨blk,0,none⟩))
 | .arr _ xs,blk=>∃ cap,0 < cap ∧ s.lam b xs.length = some (.slice (some ⟨blk,0,none⟩) xs.length cap)
 | .spare _ k,blk=>∃ off len cap,s.lam b k = some (.slice (some ⟨blk,off,none⟩) len cap) ∧ len < cap
 | .amap _,blk=>s.lam b 0 = some (.map (some blk))
 | .siter _ _,blk=>s.lam b 0 = some (.pointer (some ⟨blk,0,none⟩))
 | .looprec _ _ _ _ _ _ _ _,blk=>s.lam b 0 = some (.func (.yield blk) #[] #[])
 | .dfr,blk=>s.lam b 0 = some (.map (some blk))
 | .bld k _,blk=>s.lam b 0 = some (.pointer (some ⟨blk,0,none⟩)) ∨ ∃ v,s.lam b (k + 1) = some v ∧ v.ownBlock = some blk
def oZ (s:St) (blk:Nat):Prop:=∃ b o,s.h[b]? = some o ∧ bu s b o blk
def R3 (w:World) (B blk:Nat) (v:Value) (bs:List UInt8):Prop:=
 B ≤ blk ∧ (∃ p,(p = .pointer none ∨ p = .pointer (some ⟨blk,0,none⟩)) ∧ w.heap[blk]? = some (.cells #[p,v] ku.1 (0,0))) ∧
  w.ownsRow B ku.2 1 v bs.length (bs.map fun b=>Value.int .u8 b.toNat) ∧ v.ownBlock ≠ some blk
def fF (ms:Array MapEntry) (clock:Nat):Prop:=clock = ms.size ∧ ∀ j (h:j < ms.size),ms[j].born = j
def gf (s:St) (B:Nat) (b:Nat):bO → Prop
 | .dead=>True
 | .hole=>∀ k,s.lam b k = none
 | .box cs=>∃ (blk:Nat) (vs:Array Value) (el:TypeId),s.lam b 0 = some (.pointer (some ⟨blk,0,none⟩)) ∧ B ≤ blk ∧ s.w.heap[blk]? = some (.cells vs el (0,0)) ∧ vs.size = cs.length ∧
   (∀ j (h1:j < cs.length) (h2:j < vs.size),Rv s cs[j] vs[j]) ∧ ∀ o, ¬ s.S blk o
 | .arr sz xs=>(∀ k,xs.length < k → s.lam b k = none) ∧ ((xs = [] ∧ ∃ a,s.lam b 0 = some (.slice a 0 0)) ∨
   ∃ (blk cap:Nat) (vs:Array Value) (el:TypeId) (us:List Value),0 < cap ∧ s.lam b xs.length = some (.slice (some ⟨blk,0,none⟩) xs.length cap) ∧ B ≤ blk ∧ s.w.heap[blk]? = some (.cells vs el (0,0)) ∧
    vs.size = cap * sz ∧ xs.length ≤ cap ∧ us.length = xs.length ∧ (∀ i (h1:i < xs.length) (h2:i < us.length),Rv s xs[i] us[i] ∧ us[i].cells.size = sz) ∧
    (∀ i j (h2:i < us.length) (hj:j < us[i].cells.size),vs[i * sz + j]? = some us[i].cells[j]) ∧ (∀ o, ¬ s.S blk o) ∧ cap ≤ 9223372036854775807)
 | .spare sz k=>(∀ k',k < k' → s.lam b k' = none) ∧ ∃ (a:Option Addr) (len cap:Nat),s.lam b k = some (.slice a len cap) ∧ len ≤ cap ∧ (len < cap → ∃ (blk off:Nat) (vs:Array Value) (el:TypeId),a = some ⟨blk,off,none⟩ ∧ B ≤ blk ∧
   s.w.heap[blk]? = some (.cells vs el (0,0)) ∧ off + cap * sz ≤ vs.size ∧ ∀ o,off + len * sz ≤ o → ¬ s.S blk o)
 | .amap es=>∃ (blk:Nat) (ms:Array MapEntry) (clock:Nat),s.lam b 0 = some (.map (some blk)) ∧ B ≤ blk ∧ s.w.heap[blk]? = some (.map ms clock) ∧ ms.size = es.length ∧
   (∀ j (h1:j < es.length) (h2:j < ms.size),Rv s es[j].1 ms[j].key ∧ Rv s es[j].2 ms[j].val) ∧ (∀ o, ¬ s.S blk o) ∧ fF ms clock
 | .siter x pos=>∃ blk,s.lam b 0 = some (.pointer (some ⟨blk,0,none⟩)) ∧ B ≤ blk ∧ s.w.heap[blk]? = some (.stringIter x pos) ∧ ∀ o, ¬ s.S blk o
 | .looprec N e ps asg body D st pend=>∃ (blk:Nat) (l:Loop),s.lam b 0 = some (.func (.yield blk) #[] #[]) ∧ B ≤ blk ∧ s.w.heap[blk]? = some (.loop l) ∧
   (l.state = st ∧ l.pending = pend ∧ l.tmps.size = N ∧ l.params.toList = ps ∧ l.assign = asg ∧ l.body = body ∧ (∃ d,s.lam D 0 = some (.map (some d)) ∧ l.defers = d)) ∧
   (∀ t,Rv s (e.get t) (l.tmps.getD t Go.undef)) ∧ ∀ o, ¬ s.S blk o
 | .dfr=>∃ blk,s.lam b 0 = some (.map (some blk)) ∧ B ≤ blk ∧ s.w.heap[blk]? = some (.deferred (some [])) ∧ ∀ o, ¬ s.S blk o
 | .bld k bs=>(∀ k',k + 1 < k' → s.lam b k' = none) ∧ ∃ blk v,s.lam b 0 = some (.pointer (some ⟨blk,0,none⟩)) ∧ s.lam b (k + 1) = some v ∧ R3 s.w B blk v bs ∧ (∀ o, ¬ s.S blk o) ∧ ∀ g,v.ownBlock = some g → ∀ o, ¬ s.S g o
def LaidIn (s:St):Prop:=(∀ g cs,(g,cs) ∈ bP → ∀ j (h:j < cs.length),s.S g j ∧ s.w.cell? ⟨g,j,none⟩ = some (.int cs[j].1 cs[j].2)) ∧
 (∀ g k,(g,k) ∈ dZ → s.S g 0 ∧ ∃ v,s.w.cell? ⟨g,0,none⟩ = some v ∧ Jn k v) ∧
 ∀ g cs,(g,cs) ∈ bP → s.S g cs.length ∧ s.w.cell? ⟨g,cs.length,none⟩ = none
theorem LaidIn.keeps {s s':St} (h:aL s s') (hl:LaidIn s):LaidIn s':=
 ⟨fun g cs hm j hj=>⟨h.S _ _ (hl.1 g cs hm j hj).1,(h.cell _ _ (hl.1 g cs hm j hj).1).trans (hl.1 g cs hm j hj).2⟩,
  fun g k hm=>let ⟨v,e1,e2⟩:=(hl.2.1 g k hm).2; ⟨h.S _ _ (hl.2.1 g k hm).1,v,(h.cell _ _ (hl.2.1 g k hm).1).trans e1,e2⟩,
  fun g cs hm=>⟨h.S _ _ (hl.2.2 g cs hm).1,(h.cell _ _ (hl.2.2 g cs hm).1).trans (hl.2.2 g cs hm).2⟩⟩
structure Inv (A:World) (s:St):Prop where
 below:Below A.heap.size A s.w
 obj:∀ b o,s.h[b]? = some o → gf s A.heap.size b o
 excl:∀ b b' o o' blk,s.h[b]? = some o → s.h[b']? = some o' → bu s b o blk → bu s b' o' blk → b = b'
 fresh:∀ b k,s.h.length ≤ b → s.lam b k = none
 scell:∀ blk o,s.S blk o → blk < s.w.heap.size
 laid:LaidIn s
structure aT (s s':St):Prop where
 keeps:aL s s'
 size:s.w.heap.size ≤ s'.w.heap.size
 outside:∀ blk,blk < s.w.heap.size → ¬ oZ s blk → s'.w.heap[blk]? = s.w.heap[blk]?
 ownFrom:∀ blk,oZ s' blk → s.w.heap.size ≤ blk ∨ oZ s blk
 sFrom:∀ blk o,s'.S blk o → s.S blk o ∨ s.w.heap.size ≤ blk ∨ oZ s blk
theorem aT.refl (s:St):aT s s:=⟨.refl s,Nat.le_refl _,fun _ _ _=>rfl,fun _ h=>.inr h,fun _ _ h=>.inl h⟩
theorem aT.trans {a b c:St} (h:aT a b) (k:aT b c):aT a c where
 keeps:=h.keeps.trans k.keeps
 size:=Nat.le_trans h.size k.size
 outside:=fun blk hlt hno=>by
  refine (k.outside blk (Nat.lt_of_lt_of_le hlt h.size) ?_).trans (h.outside blk hlt hno);intro ho;rcases h.ownFrom blk ho with h1 | h1
  ·omega
  ·exact hno h1
 ownFrom:=fun blk ho=>by
  rcases k.ownFrom blk ho with h1 | h1
  ·exact .inl (Nat.le_trans h.size h1)
  ·exact h.ownFrom blk h1
 sFrom:=fun blk o hs=>by
  rcases k.sFrom blk o hs with h1 | h1 | h1
  ·exact h.sFrom blk o h1
  ·exact .inr (.inl (Nat.le_trans h.size h1))
  ·rcases h.ownFrom blk h1 with h2 | h2
   ·exact .inr (.inl h2)
   ·exact .inr (.inr h2)
open Go.RowKit
theorem bu.back {s s':St} {B b:Nat} {o:bO} {blk:Nat} (hk:aL s s') (ho:gf s B b o) (h:bu s' b o blk):bu s b o blk:=by
 cases o with
 | dead=>exact h
 | hole=>exact h
 | box cs=>
  obtain ⟨bk,vs,el,hl,_⟩:=ho;have h':s'.lam b 0 = some (.pointer (some ⟨blk,0,none⟩)):=h;rw [hk.lam _ _ _ hl] at h';show s.lam b 0 = _
  rw [hl]; exact h'
 | arr sz xs=>
  obtain ⟨cap,h0,h'⟩:=h;rcases ho.2 with ⟨hx,a,hl⟩ | ⟨bk,cp,vs,el,us,_,hl,_⟩
  ·subst hx; rw [List.length_nil,hk.lam _ _ _ hl] at h'; simp at h'; omega
  ·rw [hk.lam _ _ _ hl] at h';exact ⟨cap,h0,by rw [hl]; exact h'⟩
 | spare sz k=>
  obtain ⟨off,len,cap,h',hlt⟩:=h;obtain ⟨_,a,len',cap',hl,_⟩:=ho;rw [hk.lam _ _ _ hl] at h';exact ⟨off,len,cap,by rw [hl]; exact h',hlt⟩
 | amap es=>
  obtain ⟨bk,ms,clock,hl,_⟩:=ho;have h':s'.lam b 0 = some (.map (some blk)):=h;rw [hk.lam _ _ _ hl] at h';show s.lam b 0 = _
  rw [hl]; exact h'
 | siter x pos=>
  obtain ⟨bk,hl,_⟩:=ho;have h':s'.lam b 0 = some (.pointer (some ⟨blk,0,none⟩)):=h;rw [hk.lam _ _ _ hl] at h';show s.lam b 0 = _
  rw [hl]; exact h'
 | looprec N e ps asg body D st pend=>
  obtain ⟨bk,l,hl,_⟩:=ho;have h':s'.lam b 0 = some (.func (.yield blk) #[] #[]):=h;rw [hk.lam _ _ _ hl] at h';show s.lam b 0 = _
  rw [hl]; exact h'
 | dfr=>
  obtain ⟨bk,hl,_⟩:=ho;have h':s'.lam b 0 = some (.map (some blk)):=h;rw [hk.lam _ _ _ hl] at h';show s.lam b 0 = _
  rw [hl]; exact h'
 | bld k bs=>
  obtain ⟨_,bk,v,hl,hv,_⟩:=ho;rcases h with h | ⟨u,h1,h2⟩
  ·rw [hk.lam _ _ _ hl] at h;exact .inl (hl.trans h)
  ·rw [hk.lam _ _ _ hv] at h1;exact .inr ⟨u,hv.trans h1,h2⟩
theorem gf.keep {s s':St} {B b:Nat} {o:bO} (hk:aL s s') (hheap:∀ blk,bu s b o blk → s'.w.heap[blk]? = s.w.heap[blk]?)
  (hS:∀ blk x,bu s b o blk → s'.S blk x → s.S blk x) (hl:∀ k,s'.lam b k = s.lam b k) (h:gf s B b o):gf s' B b o:=by
 cases o with
 | dead=>trivial
 | hole=>exact fun k=>(hl k).trans (h k)
 | box cs=>
  obtain ⟨blk,vs,el,hl,hB,hh,hsz,hr,hn⟩:=h;exact ⟨blk,vs,el,hk.lam _ _ _ hl,hB,(hheap blk hl).trans hh,hsz,fun j h1 h2=>(hr j h1 h2).keeps hk,fun x hx=>hn x (hS blk x hl hx)⟩
 | arr sz xs=>
  obtain ⟨hno,h⟩:=h;refine ⟨fun k hk'=>(hl k).trans (hno k hk'), ?_⟩;rcases h with ⟨hx,a,hl⟩ | ⟨blk,cap,vs,el,us,h0,hl,hB,hh,hsz,hc,hu,hr,hv,hn⟩
  ·exact .inl ⟨hx,a,hk.lam _ _ _ hl⟩
  ·have ho:bu s b (.arr sz xs) blk:=⟨cap,h0,hl⟩;exact .inr ⟨blk,cap,vs,el,us,h0,hk.lam _ _ _ hl,hB,(hheap blk ho).trans hh,hsz,hc,hu,fun i h1 h2=>⟨(hr i h1 h2).1.keeps hk,(hr i h1 h2).2⟩,hv,fun x hx=>hn.1 x (hS blk x ho hx),hn.2⟩
 | spare sz k=>
  obtain ⟨hno,a,len,cap,hl',hle,hx⟩:=h;refine ⟨fun k' hk'=>(hl k').trans (hno k' hk'),a,len,cap,hk.lam _ _ _ hl',hle,fun hlt=>?_⟩;obtain ⟨blk,off,vs,el,ha,hB,hh,hsz,hn⟩:=hx hlt;have ho:bu s b (.spare sz k) blk:=⟨off,len,cap,ha ▸ hl',hlt⟩;exact ⟨blk,off,vs,el,ha,hB,(hheap blk ho).trans hh,hsz,fun x hx hs=>hn x hx (hS blk x ho hs)⟩
 | amap es=>
  obtain ⟨blk,ms,clock,hl,hB,hh,hsz,hr,hn,hbn⟩:=h;exact ⟨blk,ms,clock,hk.lam _ _ _ hl,hB,(hheap blk hl).trans hh,hsz,fun j h1 h2=>⟨(hr j h1 h2).1.keeps hk,(hr j h1 h2).2.keeps hk⟩,fun x hx=>hn x (hS blk x hl hx),hbn⟩
 | siter x pos=>
  obtain ⟨blk,hl,hB,hh,hn⟩:=h;exact ⟨blk,hk.lam _ _ _ hl,hB,(hheap blk hl).trans hh,fun x hx=>hn x (hS blk x hl hx)⟩
 | looprec N e ps asg body D st pend=>
  obtain ⟨blk,l,hl',hB,hh,⟨h1,h2,h3,h4,h5,h6,d,h7,h8⟩,hr,hn⟩:=h;exact ⟨blk,l,hk.lam _ _ _ hl',hB,(hheap blk hl').trans hh,⟨h1,h2,h3,h4,h5,h6,d,hk.lam _ _ _ h7,h8⟩,fun t=>(hr t).keeps hk,fun x hx=>hn x (hS blk x hl' hx)⟩
 | dfr=>
  obtain ⟨blk,hl,hB,hh,hn⟩:=h;exact ⟨blk,hk.lam _ _ _ hl,hB,(hheap blk hl).trans hh,fun x hx=>hn x (hS blk x hl hx)⟩
 | bld k bs=>
  obtain ⟨hno,blk,v,hl0,hv,⟨hB,⟨p,hp,hh⟩,hrow,hne⟩,hn,hg⟩:=h;have ho:bu s b (.bld k bs) blk:=.inl hl0;have hog:∀ g,v.ownBlock = some g → bu s b (.bld k bs) g:=fun g e=>.inr ⟨v,hv,e⟩
  refine ⟨fun k' hk'=>(hl k').trans (hno k' hk'),blk,v,hk.lam _ _ _ hl0,hk.lam _ _ _ hv,⟨hB,⟨p,hp,(hheap blk ho).trans hh⟩,⟨hrow.1, ?_⟩,hne⟩,fun x hx=>hn x (hS blk x ho hx),fun g e x hx=>hg g e x (hS g x (hog g e) hx)⟩;rcases hrow.2 with h1 | ⟨g,cap,cur,rfl,h2,h3,h4⟩
  ·exact .inl h1
  ·exact .inr ⟨g,cap,cur,rfl,h2,(hheap g (hog g rfl)).trans h3,h4⟩
theorem gf.kG {s:St} {B b:Nat} {o:bO} {blk:Nat} (h:gf s B b o) (ho:bu s b o blk):B ≤ blk ∧ blk < s.w.heap.size:=by
 have lt:∀ {o':Obj} {k:Nat},s.w.heap[k]? = some o' → k < s.w.heap.size:=fun e=>(Array.getElem?_eq_some_iff.1 e).1
 cases o with
 | dead=>exact ho.elim
 | hole=>exact ho.elim
 | box cs=>
  obtain ⟨bk,vs,el,hl,hB,hh,_⟩:=h;have:bk = blk:=by have e:s.lam b 0 = _:=ho; rw [hl] at e; simpa using e
  subst this; exact ⟨hB,lt hh⟩
 | arr sz xs=>
  obtain ⟨cap,h0,e⟩:=ho;rcases h.2 with ⟨hx,a,hl⟩ | ⟨bk,cp,vs,el,us,_,hl,hB,hh,_⟩
  ·subst hx; rw [List.length_nil,hl] at e; simp at e; omega
  ·have:bk = blk:=by rw [hl] at e; simp at e; exact e.1
   subst this; exact ⟨hB,lt hh⟩
 | spare sz k=>
  obtain ⟨off,len,cap,e,hlt⟩:=ho;obtain ⟨_,a,len',cap',hl,_,hx⟩:=h;rw [hl] at e;simp at e;obtain ⟨rfl,rfl,rfl⟩:=e;obtain ⟨bk,off',vs,el,ha,hB,hh,_⟩:=hx hlt;simp at ha;obtain ⟨rfl,rfl⟩:=ha;exact ⟨hB,lt hh⟩
 | amap es=>
  obtain ⟨bk,ms,clock,hl,hB,hh,_⟩:=h;have:bk = blk:=by have e:s.lam b 0 = _:=ho; rw [hl] at e; simpa using e
  subst this; exact ⟨hB,lt hh⟩
 | siter x pos=>
  obtain ⟨bk,hl,hB,hh,_⟩:=h;have:bk = blk:=by have e:s.lam b 0 = _:=ho; rw [hl] at e; simpa using e
  subst this; exact ⟨hB,lt hh⟩
 | looprec N e ps asg body D st pend=>
  obtain ⟨bk,l,hl,hB,hh,_⟩:=h;have:bk = blk:=by have e:s.lam b 0 = _:=ho; rw [hl] at e; simpa using e
  subst this; exact ⟨hB,lt hh⟩
 | dfr=>
  obtain ⟨bk,hl,hB,hh,_⟩:=h;have:bk = blk:=by have e:s.lam b 0 = _:=ho; rw [hl] at e; simpa using e
  subst this; exact ⟨hB,lt hh⟩
 | bld k bs=>
  obtain ⟨_,bk,v,hl,hv,⟨hB,⟨p,hp,hh⟩,hrow,_⟩,_⟩:=h;rcases ho with e | ⟨u,e1,e2⟩
  ·have:bk = blk:=by rw [hl] at e; simpa using e
   subst this; exact ⟨hB,lt hh⟩
  ·have:v = u:=by rw [hv] at e1; exact Option.some.inj e1
   subst this;rcases hrow.2 with ⟨rfl,_⟩ | ⟨g,cap,cur,rfl,h2,h3,_⟩
   ·simp [Value.ownBlock] at e2
   ·have:g = blk:=by simpa [Value.ownBlock] using e2
    subst this; exact ⟨h2,lt h3⟩
def fE (s:St) (b blk:Nat):Prop:=∃ o,s.h[b]? = some o ∧ bu s b o blk
theorem Inv.change {A:World} {s s':St} {b:Nat} {o':bO} (hi:Inv A s) (hb:b < s.h.length) (hh:s'.h = s.h.set b o') (hk:aL s s')
  (hbel:Below A.heap.size A s'.w) (hsz:s.w.heap.size ≤ s'.w.heap.size) (hlam:∀ b' k,b' ≠ b → s'.lam b' k = s.lam b' k)
  (hheap:∀ blk,blk < s.w.heap.size → ¬ fE s b blk → s'.w.heap[blk]? = s.w.heap[blk]?)
  (hobj:gf s' A.heap.size b o') (hown:∀ blk,bu s' b o' blk → s.w.heap.size ≤ blk ∨ fE s b blk)
  (hS:∀ blk x,s'.S blk x → s.S blk x ∨ s.w.heap.size ≤ blk ∨ fE s b blk) (hSc:∀ blk x,s'.S blk x → blk < s'.w.heap.size) :
  Inv A s' ∧ aT s s':=by
 have hother:∀ b' o,b' ≠ b → s'.h[b']? = some o → s.h[b']? = some o:=fun b' o hne he=>by
  rw [hh,List.getElem?_set_ne (by omega)] at he; exact he
 have hself:∀ o,s'.h[b]? = some o → o = o':=fun o he=>by
  rw [hh,List.getElem?_set_self hb] at he; exact (Option.some.inj he).symm
 have hlt:∀ b' o blk,s.h[b']? = some o → bu s b' o blk → blk < s.w.heap.size:=fun b' o blk h1 h2=>((hi.obj b' o h1).kG h2).2
 have hnot:∀ b' o blk,b' ≠ b → s.h[b']? = some o → bu s b' o blk → ¬ fE s b blk:=fun b' o blk hne h1 h2 ⟨ob,h3,h4⟩=>hne (hi.excl b' b o ob blk h1 h3 h2 h4)
 refine ⟨⟨hbel, ?_, ?_, ?_,hSc,hi.laid.keeps hk⟩,⟨hk,hsz, ?_, ?_, ?_⟩⟩
 ·intro b' o he;by_cases hne:b' = b
  ·subst hne; rw [hself o he]; exact hobj
  ·have he':=hother b' o hne he;refine (hi.obj b' o he').keep hk (fun blk ho=>hheap blk (hlt b' o blk he' ho) (hnot b' o blk hne he' ho)) (fun blk x ho hs=>?_) (fun k=>hlam b' k hne);rcases hS blk x hs with h1 | h1 | h1
   ·exact h1
   ·have:=hlt b' o blk he' ho; omega
   ·exact absurd h1 (hnot b' o blk hne he' ho)
 ·intro b1 b2 o1 o2 blk h1 h2 w1 w2;by_cases e1:b1 = b <;> by_cases e2:b2 = b
  ·rw [e1,e2]
  ·subst e1;have:=hself o1 h1; subst this;have h2':=hother b2 o2 e2 h2;have w2':=bu.back hk (hi.obj b2 o2 h2') w2;rcases hown blk w1 with h3 | h3
   ·have:=hlt b2 o2 blk h2' w2'; omega
   ·exact absurd h3 (hnot b2 o2 blk e2 h2' w2')
  ·subst e2;have:=hself o2 h2; subst this;have h1':=hother b1 o1 e1 h1;have w1':=bu.back hk (hi.obj b1 o1 h1') w1;rcases hown blk w2 with h3 | h3
   ·have:=hlt b1 o1 blk h1' w1'; omega
   ·exact absurd h3 (hnot b1 o1 blk e1 h1' w1')
  ·have h1':=hother b1 o1 e1 h1;have h2':=hother b2 o2 e2 h2;exact hi.excl b1 b2 o1 o2 blk h1' h2' (bu.back hk (hi.obj b1 o1 h1') w1) (bu.back hk (hi.obj b2 o2 h2') w2)
 ·intro b' k hle;rw [hh,List.length_set] at hle;rw [hlam b' k (by omega)];exact hi.fresh b' k hle
 ·intro blk hl hno;exact hheap blk hl fun ⟨ob,h1,h2⟩=>hno ⟨b,ob,h1,h2⟩
 ·rintro blk ⟨b',o,h1,h2⟩;by_cases hne:b' = b
  ·subst hne;have:=hself o h1; subst this;rcases hown blk h2 with h3 | ⟨ob,h3,h4⟩
   ·exact .inl h3
   ·exact .inr ⟨b',ob,h3,h4⟩
  ·have h1':=hother b' o hne h1;exact .inr ⟨b',o,h1',bu.back hk (hi.obj b' o h1') h2⟩
 ·intro blk x hs;rcases hS blk x hs with h1 | h1 | ⟨ob,h3,h4⟩
  ·exact .inl h1
  ·exact .inr (.inl h1)
  ·exact .inr (.inr ⟨b,ob,h3,h4⟩)
theorem Inv.grow {A:World} {s s':St} (hi:Inv A s) (hh:s'.h = s.h) (hl:s'.lam = s.lam) (hk:aL s s')
  (hbel:Below A.heap.size A s'.w) (hsz:s.w.heap.size ≤ s'.w.heap.size)
  (hheap:∀ blk,blk < s.w.heap.size → s'.w.heap[blk]? = s.w.heap[blk]?)
  (hS:∀ blk x,s'.S blk x → s.S blk x ∨ s.w.heap.size ≤ blk) (hSc:∀ blk x,s'.S blk x → blk < s'.w.heap.size):Inv A s' ∧ aT s s':=by
 have hlt:∀ b' o blk,s.h[b']? = some o → bu s b' o blk → blk < s.w.heap.size:=fun b' o blk h1 h2=>((hi.obj b' o h1).kG h2).2
 refine ⟨⟨hbel, ?_, ?_, ?_,hSc,hi.laid.keeps hk⟩,⟨hk,hsz,fun blk hl _=>hheap blk hl, ?_, ?_⟩⟩
 ·intro b o he;rw [hh] at he;refine (hi.obj b o he).keep hk (fun blk ho=>hheap blk (hlt b o blk he ho)) (fun blk x ho hs=>?_) (fun k=>by rw [hl]);rcases hS blk x hs with h1 | h1
  ·exact h1
  ·have:=hlt b o blk he ho; omega
 ·intro b1 b2 o1 o2 blk h1 h2 w1 w2;rw [hh] at h1 h2;exact hi.excl b1 b2 o1 o2 blk h1 h2 (bu.back hk (hi.obj b1 o1 h1) w1) (bu.back hk (hi.obj b2 o2 h2) w2)
 ·intro b k hle;rw [hh] at hle; rw [hl];exact hi.fresh b k hle
 ·rintro blk ⟨b,o,h1,h2⟩;rw [hh] at h1;exact .inr ⟨b,o,h1,bu.back hk (hi.obj b o h1) h2⟩
 ·intro blk x hs;rcases hS blk x hs with h1 | h1
  ·exact .inl h1
  ·exact .inr (.inl h1)
def St.more (s:St) (n:Nat):St:={ s with h:=s.h ++ List.replicate n .hole }
theorem Rv.more {s:St} {n:Nat} {v:aa} {c:Value} (h:Rv s v c):Rv (s.more n) v c:=
 Rv.keeps (s:=s) (s':=s.more n) ⟨fun _ _ _ e=>e,fun _ _ e=>e,fun _ _ _=>rfl⟩ h
theorem St.jq {s:St} {n b:Nat} {o:bO} (h:(s.more n).h[b]? = some o):s.h[b]? = some o ∨ o = .hole ∧ s.h.length ≤ b:=by
 simp only [St.more,List.getElem?_append] at h
 split at h
 ·exact .inl h
 ·simp [List.getElem?_replicate] at h; exact .inr ⟨h.2.symm,by omega⟩
theorem Inv.more {A:World} {s:St} (hi:Inv A s) (n:Nat):Inv A (s.more n) ∧ aT s (s.more n):=by
 have hk:aL s (s.more n):=⟨fun _ _ _ e=>e,fun _ _ e=>e,fun _ _ _=>rfl⟩;refine ⟨⟨hi.below, ?_, ?_, ?_,hi.scell,hi.laid.keeps hk⟩,⟨hk,Nat.le_refl _,fun _ _ _=>rfl, ?_,fun _ _ h=>.inl h⟩⟩
 ·intro b o he;rcases St.jq he with h | h
  ·exact (hi.obj b o h).keep hk (fun _ _=>rfl) (fun _ _ _ h=>h) (fun _=>rfl)
  ·obtain ⟨rfl,hle⟩:=h; exact fun k=>hi.fresh _ _ hle
 ·intro b1 b2 o1 o2 blk h1 h2 w1 w2;rcases St.jq h1 with e1 | e1
  ·rcases St.jq h2 with e2 | e2
   ·exact hi.excl b1 b2 o1 o2 blk e1 e2 (bu.back hk (hi.obj b1 o1 e1) w1) (bu.back hk (hi.obj b2 o2 e2) w2)
   ·obtain ⟨rfl,_⟩:=e2; exact w2.elim
  ·obtain ⟨rfl,_⟩:=e1; exact w1.elim
 ·intro b k hle;simp only [St.more,List.length_append,List.length_replicate] at hle;exact hi.fresh b k (by omega)
 ·rintro blk ⟨b,o,h1,h2⟩;rcases St.jq h1 with e1 | e1
  ·exact .inr ⟨b,o,e1,bu.back hk (hi.obj b o e1) h2⟩
  ·obtain ⟨rfl,_⟩:=e1; exact h2.elim
def aO (l:Nat → Nat → Option Value) (b k:Nat) (v:Value):Nat → Nat → Option Value:=fun b' k'=>if b' = b ∧ k' = k then some v else l b' k'
@[simp] theorem aC (l:Nat → Nat → Option Value) (b k:Nat) (v:Value):aO l b k v b k = some v:=by simp [aO]
theorem av {l:Nat → Nat → Option Value} {b k b' k':Nat} {v:Value} (h:b' ≠ b ∨ k' ≠ k):aO l b k v b' k' = l b' k':=by
 unfold aO; rw [if_neg]; rintro ⟨rfl,rfl⟩; simp at h
theorem aJ {l:Nat → Nat → Option Value} {b k:Nat} {v:Value} (h:l b k = none) (b' k':Nat) (u:Value) (hu:l b' k' = some u):aO l b k v b' k' = some u:=by
 unfold aO; split
 ·rename_i e; obtain ⟨rfl,rfl⟩:=e; rw [h] at hu; cases hu
 ·exact hu
theorem Inv.jD {A:World} {s:St} (hi:Inv A s) {b:Nat} (hb:s.h[b]? = some .hole) {cs:List aa} {vs:Array Value} (el:TypeId)
  (hsz:vs.size = cs.length) (hr:∀ j (h1:j < cs.length) (h2:j < vs.size),Rv s cs[j] vs[j]) :
  ∃ s',s'.h = s.h.set b (.box cs) ∧ s'.w = s.w.alloc (.cells vs el) ∧ Inv A s' ∧ aT s s' ∧ Rv s' (.ptr b 0) (.pointer (some ⟨s.w.heap.size,0,none⟩)) ∧ (∀ b' k,b' ≠ b → s'.lam b' k = s.lam b' k):=by
 have hblt:b < s.h.length:=(List.getElem?_eq_some_iff.1 hb).1;have hl:∀ k,s.lam b k = none:=hi.obj b _ hb
 let s':St:={ h:=s.h.set b (.box cs),lam:=aO s.lam b 0 (.pointer (some ⟨s.w.heap.size,0,none⟩)),S:=s.S,w:=s.w.alloc (.cells vs el) }
 have hk:aL s s':=⟨aJ (hl 0),fun _ _ h=>h,fun blk o hs=>World.cell?_alloc_lt _ _ (a:=⟨blk,o,none⟩) (hi.scell blk o hs)⟩;have hnew:s'.w.heap[s.w.heap.size]? = some (.cells vs el (0,0)):=by show (s.w.heap.push _)[s.w.heap.size]? = _; simp
 have hgo:=hi.change (s':=s') hblt rfl hk (hi.below.alloc hi.below.size _) (by simp [s']) (fun b' k hne=>av (.inl hne))
  (fun blk hlt _=>Below.heap_alloc _ _ _ hlt)
  ⟨s.w.heap.size,vs,el,aC _ _ _ _,hi.below.size,hnew,hsz,fun j h1 h2=>(hr j h1 h2).keeps hk,fun o hs=>by have:=hi.scell _ _ hs; omega⟩
  (fun blk ho=>by
   have e:aO s.lam b 0 (.pointer (some ⟨s.w.heap.size,0,none⟩)) b 0 = some (.pointer (some ⟨blk,0,none⟩)):=ho
   simp at e; left; omega)
  (fun blk x h=>.inl h) (fun blk x h=>by have:=hi.scell _ _ h; simp [s']; omega)
 exact ⟨s',rfl,rfl,hgo.1,hgo.2, .ptr b 0 _ (aC _ _ _ _),fun b' k hne=>av (.inl hne)⟩
end Go.AM
