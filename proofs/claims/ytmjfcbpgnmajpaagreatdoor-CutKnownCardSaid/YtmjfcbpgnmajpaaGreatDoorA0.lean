/- The abstract values, the abstract heap, how they stand for Go's values and memory, and how a state may go on. No program is named here. -/
import Derived.CallsIn
import Derived.OrdersIn
import Derived.RangeFuncIn
import Derived.Below
import Derived.Test.YtmjfcbpgnmajpaaGreatDoorL0
namespace Go.AM
open Go.RowKit

/-- A value as our walk sees it. A slice is the list of its elements; sz is how many cells an element has. -/
inductive AVal where
  | undef
  | bool (b : Bool)
  | int (k : IntKind) (n : Int)
  | str (x : ByteArray)
  | agg (cs : List AVal)
  | tup (vs : List AVal)
  | slice (sz : Nat) (xs : List AVal)
  | oslice (sz : Nat) (xs : List AVal) (b k : Nat)
  | sref (sz b off len n : Nat)
  | pval (v : AVal)
  | ptr (b off : Nat)
  | eptr (sz b i f n : Nat)
  | nilptr
  | func (fn : Fn) (first caps : List AVal)
  | nilfunc
  | iface (t : TypeId) (v : AVal)
  | niliface
  | map (b : Nat)
  | nilmap
  | opt (g : Bool) (v : AVal)
  | mint (sz : Nat)
  | iter (b : Nat)
  | yieldf (b : Nat)
  deriving Inhabited

def AVal.cells : AVal → List AVal
  | .agg cs => cs
  | v => [v]

/-- A value that lies in one cell. -/
def AVal.scal : AVal → Bool
  | .undef | .agg _ | .tup _ | .opt _ _ | .mint _ => false
  | _ => true

abbrev Env := List (Nat × AVal)

def Env.get : Env → Nat → AVal
  | [], _ => .undef
  | (m, v) :: r, n => if m = n then v else Env.get r n

/-- A block of the abstract heap. -/
inductive AObj where
  | dead
  | hole
  | box (cs : List AVal)
  | arr (sz : Nat) (xs : List AVal)
  | spare (sz k : Nat)
  | amap (es : List (AVal × AVal))
  | siter (x : ByteArray) (pos : Nat)
  | looprec (N : Nat) (e : Env) (ps : List Nat) (asg body : Code) (D : Nat) (st : LoopState) (pend : Option Code)
  | dfr
  deriving Inhabited

abbrev AHeap := List AObj

/-- A state: the abstract heap, where its blocks lie, which cells never change any more, and the world. -/
structure St where
  h : AHeap
  lam : Nat → Nat → Option Value
  S : Nat → Nat → Prop
  w : World

/-- The cells of u lie at this place, and stay. -/
def InMem (s : St) (blk off : Nat) (u : Value) : Prop :=
  ∀ j (hj : j < u.cells.size), s.S blk (off + j) ∧ s.w.cell? ⟨blk, off + j, none⟩ = some u.cells[j]

inductive Rv (s : St) : AVal → Value → Prop
  | undef (c : Value) : Rv s .undef c
  | bool (b : Bool) : Rv s (.bool b) (.bool b)
  | int (k : IntKind) (n : Int) : Rv s (.int k n) (.int k n)
  | str (x : ByteArray) : Rv s (.str x) (.string x)
  | agg (cs : List AVal) (vs : Array Value) (hl : vs.size = cs.length)
      (h : ∀ j (h1 : j < cs.length) (h2 : j < vs.size), Rv s cs[j] vs[j]) : Rv s (.agg cs) (.agg vs)
  | tup (cs : List AVal) (vs : Array Value) (hl : vs.size = cs.length)
      (h : ∀ j (h1 : j < cs.length) (h2 : j < vs.size), Rv s cs[j] vs[j]) : Rv s (.tup cs) (.tuple vs)
  | slice0 (sz : Nat) (a : Option Addr) (cap : Nat) : Rv s (.slice sz []) (.slice a 0 cap)
  | slice (sz : Nat) (xs : List AVal) (blk off len cap : Nat) (us : List Value) (hl : us.length = xs.length) (hn : len = xs.length) (hc : len ≤ cap)
      (hr : ∀ i (h1 : i < xs.length) (h2 : i < us.length), Rv s xs[i] us[i])
      (hm : ∀ i (h2 : i < us.length), us[i].cells.size = sz ∧ InMem s blk (off + i * sz) us[i]) :
      Rv s (.slice sz xs) (.slice (some ⟨blk, off, none⟩) len cap)
  | oslice (sz : Nat) (xs : List AVal) (b k : Nat) (c : Value) (hs : Rv s (.slice sz xs) c) (hl : s.lam b k = some c) : Rv s (.oslice sz xs b k) c
  | sref (sz b off len n blk cap : Nat) (hl : s.lam b n = some (.slice (some ⟨blk, 0, none⟩) n cap)) (h1 : off + len ≤ n) (h2 : n ≤ cap) :
      Rv s (.sref sz b off len n) (.slice (some ⟨blk, off * sz, none⟩) len (cap - off))
  | sref0 (sz b : Nat) (a : Option Addr) (hl : s.lam b 0 = some (.slice a 0 0)) : Rv s (.sref sz b 0 0 0) (.slice a 0 0)
  | srefE (sz b off n : Nat) (a : Option Addr) (v : Value) (hl : s.lam b n = some v) (h0 : 0 < off) (h1 : n ≤ off) : Rv s (.sref sz b off 0 n) (.slice a 0 0)
  | pval (v : AVal) (u : Value) (blk off : Nat) (hv : Rv s v u) (hm : InMem s blk off u) : Rv s (.pval v) (.pointer (some ⟨blk, off, none⟩))
  | ptr (b off blk : Nat) (hl : s.lam b 0 = some (.pointer (some ⟨blk, 0, none⟩))) : Rv s (.ptr b off) (.pointer (some ⟨blk, off, none⟩))
  | eptr (sz b i f n blk cap : Nat) (hl : s.lam b n = some (.slice (some ⟨blk, 0, none⟩) n cap)) :
      Rv s (.eptr sz b i f n) (.pointer (some ⟨blk, i * sz + f, none⟩))
  | nilptr : Rv s .nilptr (.pointer none)
  | func (fn : Fn) (first caps : List AVal) (fi ca : Array Value) (hf : fi.size = first.length) (hc : ca.size = caps.length)
      (h1 : ∀ j (a : j < first.length) (b : j < fi.size), Rv s first[j] fi[j])
      (h2 : ∀ j (a : j < caps.length) (b : j < ca.size), Rv s caps[j] ca[j]) : Rv s (.func fn first caps) (.func fn fi ca)
  | nilfunc : Rv s .nilfunc .nilFunc
  | iface (t : TypeId) (v : AVal) (u : Value) (h : Rv s v u) : Rv s (.iface t v) (.iface t u)
  | niliface : Rv s .niliface .nilIface
  | map (b blk : Nat) (hl : s.lam b 0 = some (.map (some blk))) : Rv s (.map b) (.map (some blk))
  | nilmap : Rv s .nilmap (.map none)
  | optT (v : AVal) (c : Value) (h : Rv s v c) : Rv s (.opt true v) c
  | optF (v : AVal) : Rv s (.opt false v) Go.undef
  | iter (b blk : Nat) (hl : s.lam b 0 = some (.pointer (some ⟨blk, 0, none⟩))) : Rv s (.iter b) (.pointer (some ⟨blk, 0, none⟩))
  | yieldf (b blk : Nat) (hl : s.lam b 0 = some (.func (.yield blk) #[] #[])) : Rv s (.yieldf b) (.func (.yield blk) #[] #[])

/-- What a value's meaning leans on is kept. -/
structure Keeps (s s' : St) : Prop where
  lam : ∀ b k v, s.lam b k = some v → s'.lam b k = some v
  S : ∀ blk o, s.S blk o → s'.S blk o
  cell : ∀ blk o, s.S blk o → s'.w.cell? ⟨blk, o, none⟩ = s.w.cell? ⟨blk, o, none⟩

theorem Keeps.refl (s : St) : Keeps s s := ⟨fun _ _ _ h => h, fun _ _ h => h, fun _ _ _ => rfl⟩
theorem Keeps.trans {a b c : St} (h : Keeps a b) (k : Keeps b c) : Keeps a c :=
  ⟨fun x y v e => k.lam x y v (h.lam x y v e), fun x o e => k.S x o (h.S x o e), fun x o e => (k.cell x o (h.S x o e)).trans (h.cell x o e)⟩

theorem InMem.keeps {s s' : St} (h : Keeps s s') {blk off : Nat} {u : Value} (hm : InMem s blk off u) : InMem s' blk off u :=
  fun j hj => ⟨h.S _ _ (hm j hj).1, (h.cell _ _ (hm j hj).1).trans (hm j hj).2⟩

theorem Rv.keeps {s s' : St} (h : Keeps s s') {v : AVal} {c : Value} (r : Rv s v c) : Rv s' v c := by
  induction r with
  | undef c => exact .undef c
  | bool b => exact .bool b
  | int k n => exact .int k n
  | str x => exact .str x
  | agg cs vs hl _ ih => exact .agg cs vs hl ih
  | tup cs vs hl _ ih => exact .tup cs vs hl ih
  | slice0 sz a cap => exact .slice0 sz a cap
  | slice sz xs blk off len cap us hl hn hc _ hm ih => exact .slice sz xs blk off len cap us hl hn hc ih (fun i h2 => ⟨(hm i h2).1, (hm i h2).2.keeps h⟩)
  | oslice sz xs b k c _ hl ih => exact .oslice sz xs b k c ih (h.lam _ _ _ hl)
  | sref sz b off len n blk cap hl h1 h2 => exact .sref sz b off len n blk cap (h.lam _ _ _ hl) h1 h2
  | sref0 sz b a hl => exact .sref0 sz b a (h.lam _ _ _ hl)
  | srefE sz b off n a v hl h0 h1 => exact .srefE sz b off n a v (h.lam _ _ _ hl) h0 h1
  | pval v u blk off _ hm ih => exact .pval v u blk off ih (hm.keeps h)
  | ptr b off blk hl => exact .ptr b off blk (h.lam _ _ _ hl)
  | eptr sz b i f n blk cap hl => exact .eptr sz b i f n blk cap (h.lam _ _ _ hl)
  | nilptr => exact .nilptr
  | func fn first caps fi ca hf hc _ _ ih1 ih2 => exact .func fn first caps fi ca hf hc ih1 ih2
  | nilfunc => exact .nilfunc
  | iface t v u _ ih => exact .iface t v u ih
  | niliface => exact .niliface
  | map b blk hl => exact .map b blk (h.lam _ _ _ hl)
  | nilmap => exact .nilmap
  | optT v c _ ih => exact .optT v c ih
  | optF v => exact .optF v
  | iter b blk hl => exact .iter b blk (h.lam _ _ _ hl)
  | yieldf b blk hl => exact .yieldf b blk (h.lam _ _ _ hl)

/-- Which block of the world a block of the abstract heap owns. -/
def Owns (s : St) (b : Nat) : AObj → Nat → Prop
  | .dead, _ => False
  | .hole, _ => False
  | .box _, blk => s.lam b 0 = some (.pointer (some ⟨blk, 0, none⟩))
  | .arr _ xs, blk => ∃ cap, 0 < cap ∧ s.lam b xs.length = some (.slice (some ⟨blk, 0, none⟩) xs.length cap)
  | .spare _ k, blk => ∃ off len cap, s.lam b k = some (.slice (some ⟨blk, off, none⟩) len cap) ∧ len < cap
  | .amap _, blk => s.lam b 0 = some (.map (some blk))
  | .siter _ _, blk => s.lam b 0 = some (.pointer (some ⟨blk, 0, none⟩))
  | .looprec _ _ _ _ _ _ _ _, blk => s.lam b 0 = some (.func (.yield blk) #[] #[])
  | .dfr, blk => s.lam b 0 = some (.map (some blk))

def Owned (s : St) (blk : Nat) : Prop := ∃ b o, s.h[b]? = some o ∧ Owns s b o blk

/-- What a block of the abstract heap says of the world. B: the blocks below B are not its own. -/
def ObjOk (s : St) (B : Nat) (b : Nat) : AObj → Prop
  | .dead => True
  | .hole => ∀ k, s.lam b k = none
  | .box cs => ∃ (blk : Nat) (vs : Array Value) (el : TypeId), s.lam b 0 = some (.pointer (some ⟨blk, 0, none⟩)) ∧ B ≤ blk ∧ s.w.heap[blk]? = some (.cells vs el (0, 0)) ∧ vs.size = cs.length ∧
      (∀ j (h1 : j < cs.length) (h2 : j < vs.size), Rv s cs[j] vs[j]) ∧ ∀ o, ¬ s.S blk o
  | .arr sz xs => (∀ k, xs.length < k → s.lam b k = none) ∧ ((xs = [] ∧ ∃ a, s.lam b 0 = some (.slice a 0 0)) ∨
      ∃ (blk cap : Nat) (vs : Array Value) (el : TypeId) (us : List Value), 0 < cap ∧ s.lam b xs.length = some (.slice (some ⟨blk, 0, none⟩) xs.length cap) ∧ B ≤ blk ∧ s.w.heap[blk]? = some (.cells vs el (0, 0)) ∧
        vs.size = cap * sz ∧ xs.length ≤ cap ∧ us.length = xs.length ∧ (∀ i (h1 : i < xs.length) (h2 : i < us.length), Rv s xs[i] us[i] ∧ us[i].cells.size = sz) ∧
        (∀ i j (h2 : i < us.length) (hj : j < us[i].cells.size), vs[i * sz + j]? = some us[i].cells[j]) ∧ ∀ o, ¬ s.S blk o)
  | .spare sz k => (∀ k', k < k' → s.lam b k' = none) ∧ ∃ (a : Option Addr) (len cap : Nat), s.lam b k = some (.slice a len cap) ∧ len ≤ cap ∧ (len < cap → ∃ (blk off : Nat) (vs : Array Value) (el : TypeId), a = some ⟨blk, off, none⟩ ∧ B ≤ blk ∧
      s.w.heap[blk]? = some (.cells vs el (0, 0)) ∧ off + cap * sz ≤ vs.size ∧ ∀ o, off + len * sz ≤ o → ¬ s.S blk o)
  | .amap es => ∃ (blk : Nat) (ms : Array MapEntry) (clock : Nat), s.lam b 0 = some (.map (some blk)) ∧ B ≤ blk ∧ s.w.heap[blk]? = some (.map ms clock) ∧ ms.size = es.length ∧
      (∀ j (h1 : j < es.length) (h2 : j < ms.size), Rv s es[j].1 ms[j].key ∧ Rv s es[j].2 ms[j].val) ∧ ∀ o, ¬ s.S blk o
  | .siter x pos => ∃ blk, s.lam b 0 = some (.pointer (some ⟨blk, 0, none⟩)) ∧ B ≤ blk ∧ s.w.heap[blk]? = some (.stringIter x pos) ∧ ∀ o, ¬ s.S blk o
  | .looprec N e ps asg body D st pend => ∃ (blk : Nat) (l : Loop), s.lam b 0 = some (.func (.yield blk) #[] #[]) ∧ B ≤ blk ∧ s.w.heap[blk]? = some (.loop l) ∧
      (l.state = st ∧ l.pending = pend ∧ l.tmps.size = N ∧ l.params.toList = ps ∧ l.assign = asg ∧ l.body = body ∧ (∃ d, s.lam D 0 = some (.map (some d)) ∧ l.defers = d)) ∧
      (∀ t, Rv s (e.get t) (l.tmps.getD t Go.undef)) ∧ ∀ o, ¬ s.S blk o
  | .dfr => ∃ blk, s.lam b 0 = some (.map (some blk)) ∧ B ≤ blk ∧ s.w.heap[blk]? = some (.deferred (some [])) ∧ ∀ o, ¬ s.S blk o

/-- The tables of the program stand as its text lays them, and stay. -/
def LaidIn (s : St) : Prop := ∀ g cs, (g, cs) ∈ laidTab → ∀ j (h : j < cs.length), s.S g j ∧ s.w.cell? ⟨g, j, none⟩ = some (.int cs[j].1 cs[j].2)
theorem LaidIn.keeps {s s' : St} (h : Keeps s s') (hl : LaidIn s) : LaidIn s' :=
  fun g cs hm j hj => ⟨h.S _ _ (hl g cs hm j hj).1, (h.cell _ _ (hl g cs hm j hj).1).trans (hl g cs hm j hj).2⟩

/-- The state is sound over the world A in which all began. -/
structure Inv (A : World) (s : St) : Prop where
  below : Below A.heap.size A s.w
  obj : ∀ b o, s.h[b]? = some o → ObjOk s A.heap.size b o
  excl : ∀ b b' o o' blk, s.h[b]? = some o → s.h[b']? = some o' → Owns s b o blk → Owns s b' o' blk → b = b'
  fresh : ∀ b k, s.h.length ≤ b → s.lam b k = none
  scell : ∀ blk o, s.S blk o → blk < s.w.heap.size
  laid : LaidIn s

/-- How a state goes on: nothing that it does not own is changed, and nothing is taken. -/
structure Goes (s s' : St) : Prop where
  keeps : Keeps s s'
  size : s.w.heap.size ≤ s'.w.heap.size
  outside : ∀ blk, blk < s.w.heap.size → ¬ Owned s blk → s'.w.heap[blk]? = s.w.heap[blk]?
  ownFrom : ∀ blk, Owned s' blk → s.w.heap.size ≤ blk ∨ Owned s blk
  sFrom : ∀ blk o, s'.S blk o → s.S blk o ∨ s.w.heap.size ≤ blk ∨ Owned s blk

theorem Goes.refl (s : St) : Goes s s := ⟨.refl s, Nat.le_refl _, fun _ _ _ => rfl, fun _ h => .inr h, fun _ _ h => .inl h⟩

theorem Goes.trans {a b c : St} (h : Goes a b) (k : Goes b c) : Goes a c where
  keeps := h.keeps.trans k.keeps
  size := Nat.le_trans h.size k.size
  outside := fun blk hlt hno => by
    refine (k.outside blk (Nat.lt_of_lt_of_le hlt h.size) ?_).trans (h.outside blk hlt hno)
    intro ho
    rcases h.ownFrom blk ho with h1 | h1
    · omega
    · exact hno h1
  ownFrom := fun blk ho => by
    rcases k.ownFrom blk ho with h1 | h1
    · exact .inl (Nat.le_trans h.size h1)
    · exact h.ownFrom blk h1
  sFrom := fun blk o hs => by
    rcases k.sFrom blk o hs with h1 | h1 | h1
    · exact h.sFrom blk o h1
    · exact .inr (.inl (Nat.le_trans h.size h1))
    · rcases h.ownFrom blk h1 with h2 | h2
      · exact .inr (.inl h2)
      · exact .inr (.inr h2)

end Go.AM
