/- The tables of the program that this seat reads: those of math/bits. The abstract values, the abstract heap, how they stand for Go's values and memory, and how a state may go on. No program is .. -/
import GoSem.Claim
import Derived.CallsIn
import Derived.OrdersIn
import Derived.RangeFuncIn
import Derived.Below
namespace Go.AM
def tab32 : List (IntKind × Int) := [(.u8, 0), (.u8, 1), (.u8, 28), (.u8, 2), (.u8, 29), (.u8, 14), (.u8, 24), (.u8, 3), (.u8, 30), (.u8, 22), (.u8, 20), (.u8, 15), (.u8, 25), (.u8, 17), (.u8, 4), (.u8, 8), (.u8, 31), (.u8, 27), (.u8, 13), (.u8, 23), (.u8, 21), (.u8, 19), (.u8, 16), (.u8, 7), (.u8, 26), (.u8, 12), (.u8, 18), (.u8, 6), (.u8, 11), (.u8, 5), (.u8, 10), (.u8, 9)]
def tab64 : List (IntKind × Int) := [(.u8, 0), (.u8, 1), (.u8, 56), (.u8, 2), (.u8, 57), (.u8, 49), (.u8, 28), (.u8, 3), (.u8, 61), (.u8, 58), (.u8, 42), (.u8, 50), (.u8, 38), (.u8, 29), (.u8, 17), (.u8, 4), (.u8, 62), (.u8, 47), (.u8, 59), (.u8, 36), (.u8, 45), (.u8, 43), (.u8, 51), (.u8, 22), (.u8, 53), (.u8, 39), (.u8, 33), (.u8, 30), (.u8, 24), (.u8, 18), (.u8, 12), (.u8, 5), (.u8, 63), (.u8, 55), (.u8, 48), (.u8, 27), (.u8, 60), (.u8, 41), (.u8, 37), (.u8, 16), (.u8, 46), (.u8, 35), (.u8, 44), (.u8, 21), (.u8, 52), (.u8, 32), (.u8, 23), (.u8, 11), (.u8, 54), (.u8, 26), (.u8, 40), (.u8, 15), (.u8, 34), (.u8, 20), (.u8, 31), (.u8, 10), (.u8, 25), (.u8, 14), (.u8, 19), (.u8, 9), (.u8, 13), (.u8, 8), (.u8, 7), (.u8, 6)]
def laidTab : List (Nat × List (IntKind × Int)) := [(0, tab32), (1, tab64)]
end Go.AM
namespace Go.AM
open Go.RowKit
inductive AVal where
  | undef
  | bool (b : Bool)
  | int (k : IntKind) (n : Int)
  | str (x : ByteArray)
  | agg (cs : List AVal)
  | tup (vs : List AVal)
  | slice (sz : Nat) (xs : List AVal)
  | oslice (sz : Nat) (xs : List AVal) (b k : Nat)
  | sref (sz b off len n : Nat)
  | pval (v : AVal)
  | ptr (b off : Nat)
  | eptr (sz b i f n : Nat)
  | nilptr
  | func (fn : Fn) (first caps : List AVal)
  | nilfunc
  | iface (t : TypeId) (v : AVal)
  | niliface
  | map (b : Nat)
  | nilmap
  | opt (g : Bool) (v : AVal)
  | mint (sz : Nat)
  | iter (b : Nat)
  | yieldf (b : Nat)
  deriving Inhabited
def AVal.cells : AVal → List AVal
  | .agg cs => cs
  | v => [v]
def AVal.scal : AVal → Bool
  | .undef | .agg _ | .tup _ | .opt _ _ | .mint _ => false
  | _ => true
abbrev Env := List (Nat × AVal)
def Env.get : Env → Nat → AVal
  | [], _ => .undef
  | (m, v) :: r, n => if m = n then v else Env.get r n
inductive AObj where
  | dead
  | hole
  | box (cs : List AVal)
  | arr (sz : Nat) (xs : List AVal)
  | spare (sz k : Nat)
  | amap (es : List (AVal × AVal))
  | siter (x : ByteArray) (pos : Nat)
  | looprec (N : Nat) (e : Env) (ps : List Nat) (asg body : Code) (D : Nat) (st : LoopState) (pend : Option Code)
  | dfr
  deriving Inhabited
abbrev AHeap := List AObj
structure St where
  h : AHeap
  lam : Nat → Nat → Option Value
  S : Nat → Nat → Prop
  w : World
def InMem (s : St) (blk off : Nat) (u : Value) : Prop :=
  ∀ j (hj : j < u.cells.size), s.S blk (off + j) ∧ s.w.cell? ⟨blk, off + j, none⟩ = some u.cells[j]
inductive Rv (s : St) : AVal → Value → Prop
  | undef (c : Value) : Rv s .undef c
  | bool (b : Bool) : Rv s (.bool b) (.bool b)
  | int (k : IntKind) (n : Int) : Rv s (.int k n) (.int k n)
  | str (x : ByteArray) : Rv s (.str x) (.string x)
  | agg (cs : List AVal) (vs : Array Value) (hl : vs.size = cs.length)
      (h : ∀ j (h1 : j < cs.length) (h2 : j < vs.size), Rv s cs[j] vs[j]) : Rv s (.agg cs) (.agg vs)
  | tup (cs : List AVal) (vs : Array Value) (hl : vs.size = cs.length)
      (h : ∀ j (h1 : j < cs.length) (h2 : j < vs.size), Rv s cs[j] vs[j]) : Rv s (.tup cs) (.tuple vs)
  | slice0 (sz : Nat) (a : Option Addr) (cap : Nat) : Rv s (.slice sz []) (.slice a 0 cap)
  | slice (sz : Nat) (xs : List AVal) (blk off len cap : Nat) (us : List Value) (hl : us.length = xs.length) (hn : len = xs.length) (hc : len ≤ cap)
      (hr : ∀ i (h1 : i < xs.length) (h2 : i < us.length), Rv s xs[i] us[i])
      (hm : ∀ i (h2 : i < us.length), us[i].cells.size = sz ∧ InMem s blk (off + i * sz) us[i]) :
      Rv s (.slice sz xs) (.slice (some ⟨blk, off, none⟩) len cap)
  | oslice (sz : Nat) (xs : List AVal) (b k : Nat) (c : Value) (hs : Rv s (.slice sz xs) c) (hl : s.lam b k = some c) : Rv s (.oslice sz xs b k) c
  | sref (sz b off len n blk cap : Nat) (hl : s.lam b n = some (.slice (some ⟨blk, 0, none⟩) n cap)) (h1 : off + len ≤ n) (h2 : n ≤ cap) :
      Rv s (.sref sz b off len n) (.slice (some ⟨blk, off * sz, none⟩) len (cap - off))
  | sref0 (sz b : Nat) (a : Option Addr) (hl : s.lam b 0 = some (.slice a 0 0)) : Rv s (.sref sz b 0 0 0) (.slice a 0 0)
  | srefE (sz b off n : Nat) (a : Option Addr) (v : Value) (hl : s.lam b n = some v) (h0 : 0 < off) (h1 : n ≤ off) : Rv s (.sref sz b off 0 n) (.slice a 0 0)
  | pval (v : AVal) (u : Value) (blk off : Nat) (hv : Rv s v u) (hm : InMem s blk off u) : Rv s (.pval v) (.pointer (some ⟨blk, off, none⟩))
  | ptr (b off blk : Nat) (hl : s.lam b 0 = some (.pointer (some ⟨blk, 0, none⟩))) : Rv s (.ptr b off) (.pointer (some ⟨blk, off, none⟩))
  | eptr (sz b i f n blk cap : Nat) (hl : s.lam b n = some (.slice (some ⟨blk, 0, none⟩) n cap)) :
      Rv s (.eptr sz b i f n) (.pointer (some ⟨blk, i * sz + f, none⟩))
  | nilptr : Rv s .nilptr (.pointer none)
  | func (fn : Fn) (first caps : List AVal) (fi ca : Array Value) (hf : fi.size = first.length) (hc : ca.size = caps.length)
      (h1 : ∀ j (a : j < first.length) (b : j < fi.size), Rv s first[j] fi[j])
      (h2 : ∀ j (a : j < caps.length) (b : j < ca.size), Rv s caps[j] ca[j]) : Rv s (.func fn first caps) (.func fn fi ca)
  | nilfunc : Rv s .nilfunc .nilFunc
  | iface (t : TypeId) (v : AVal) (u : Value) (h : Rv s v u) : Rv s (.iface t v) (.iface t u)
  | niliface : Rv s .niliface .nilIface
  | map (b blk : Nat) (hl : s.lam b 0 = some (.map (some blk))) : Rv s (.map b) (.map (some blk))
  | nilmap : Rv s .nilmap (.map none)
  | optT (v : AVal) (c : Value) (h : Rv s v c) : Rv s (.opt true v) c
  | optF (v : AVal) : Rv s (.opt false v) Go.undef
  | iter (b blk : Nat) (hl : s.lam b 0 = some (.pointer (some ⟨blk, 0, none⟩))) : Rv s (.iter b) (.pointer (some ⟨blk, 0, none⟩))
  | yieldf (b blk : Nat) (hl : s.lam b 0 = some (.func (.yield blk) #[] #[])) : Rv s (.yieldf b) (.func (.yield blk) #[] #[])
structure Keeps (s s' : St) : Prop where
  lam : ∀ b k v, s.lam b k = some v → s'.lam b k = some v
  S : ∀ blk o, s.S blk o → s'.S blk o
  cell : ∀ blk o, s.S blk o → s'.w.cell? ⟨blk, o, none⟩ = s.w.cell? ⟨blk, o, none⟩
theorem Keeps.refl (s : St) : Keeps s s := ⟨fun _ _ _ h => h, fun _ _ h => h, fun _ _ _ => rfl⟩
theorem Keeps.trans {a b c : St} (h : Keeps a b) (k : Keeps b c) : Keeps a c :=
  ⟨fun x y v e => k.lam x y v (h.lam x y v e), fun x o e => k.S x o (h.S x o e), fun x o e => (k.cell x o (h.S x o e)).trans (h.cell x o e)⟩
theorem InMem.keeps {s s' : St} (h : Keeps s s') {blk off : Nat} {u : Value} (hm : InMem s blk off u) : InMem s' blk off u :=
  fun j hj => ⟨h.S _ _ (hm j hj).1, (h.cell _ _ (hm j hj).1).trans (hm j hj).2⟩
theorem Rv.keeps {s s' : St} (h : Keeps s s') {v : AVal} {c : Value} (r : Rv s v c) : Rv s' v c := by
  induction r with
  | undef c => exact .undef c
  | bool b => exact .bool b
  | int k n => exact .int k n
  | str x => exact .str x
  | agg cs vs hl _ ih => exact .agg cs vs hl ih
  | tup cs vs hl _ ih => exact .tup cs vs hl ih
  | slice0 sz a cap => exact .slice0 sz a cap
  | slice sz xs blk off len cap us hl hn hc _ hm ih => exact .slice sz xs blk off len cap us hl hn hc ih (fun i h2 => ⟨(hm i h2).1, (hm i h2).2.keeps h⟩)
  | oslice sz xs b k c _ hl ih => exact .oslice sz xs b k c ih (h.lam _ _ _ hl)
  | sref sz b off len n blk cap hl h1 h2 => exact .sref sz b off len n blk cap (h.lam _ _ _ hl) h1 h2
  | sref0 sz b a hl => exact .sref0 sz b a (h.lam _ _ _ hl)
  | srefE sz b off n a v hl h0 h1 => exact .srefE sz b off n a v (h.lam _ _ _ hl) h0 h1
  | pval v u blk off _ hm ih => exact .pval v u blk off ih (hm.keeps h)
  | ptr b off blk hl => exact .ptr b off blk (h.lam _ _ _ hl)
  | eptr sz b i f n blk cap hl => exact .eptr sz b i f n blk cap (h.lam _ _ _ hl)
  | nilptr => exact .nilptr
  | func fn first caps fi ca hf hc _ _ ih1 ih2 => exact .func fn first caps fi ca hf hc ih1 ih2
  | nilfunc => exact .nilfunc
  | iface t v u _ ih => exact .iface t v u ih
  | niliface => exact .niliface
  | map b blk hl => exact .map b blk (h.lam _ _ _ hl)
  | nilmap => exact .nilmap
  | optT v c _ ih => exact .optT v c ih
  | optF v => exact .optF v
  | iter b blk hl => exact .iter b blk (h.lam _ _ _ hl)
  | yieldf b blk hl => exact .yieldf b blk (h.lam _ _ _ hl)
def Owns (s : St) (b : Nat) : AObj → Nat → Prop
  | .dead, _ => False
  | .hole, _ => False
  | .box _, blk => s.lam b 0 = some (.pointer (some ⟨blk, 0, none⟩))
  | .arr _ xs, blk => ∃ cap, 0 < cap ∧ s.lam b xs.length = some (.slice (some ⟨blk, 0, none⟩) xs.length cap)
  | .spare _ k, blk => ∃ off len cap, s.lam b k = some (.slice (some ⟨blk, off, none⟩) len cap) ∧ len < cap
  | .amap _, blk => s.lam b 0 = some (.map (some blk))
  | .siter _ _, blk => s.lam b 0 = some (.pointer (some ⟨blk, 0, none⟩))
  | .looprec _ _ _ _ _ _ _ _, blk => s.lam b 0 = some (.func (.yield blk) #[] #[])
  | .dfr, blk => s.lam b 0 = some (.map (some blk))
def Owned (s : St) (blk : Nat) : Prop := ∃ b o, s.h[b]? = some o ∧ Owns s b o blk
def ObjOk (s : St) (B : Nat) (b : Nat) : AObj → Prop
  | .dead => True
  | .hole => ∀ k, s.lam b k = none
  | .box cs => ∃ (blk : Nat) (vs : Array Value) (el : TypeId), s.lam b 0 = some (.pointer (some ⟨blk, 0, none⟩)) ∧ B ≤ blk ∧ s.w.heap[blk]? = some (.cells vs el (0, 0)) ∧ vs.size = cs.length ∧
      (∀ j (h1 : j < cs.length) (h2 : j < vs.size), Rv s cs[j] vs[j]) ∧ ∀ o, ¬ s.S blk o
  | .arr sz xs => (∀ k, xs.length < k → s.lam b k = none) ∧ ((xs = [] ∧ ∃ a, s.lam b 0 = some (.slice a 0 0)) ∨
      ∃ (blk cap : Nat) (vs : Array Value) (el : TypeId) (us : List Value), 0 < cap ∧ s.lam b xs.length = some (.slice (some ⟨blk, 0, none⟩) xs.length cap) ∧ B ≤ blk ∧ s.w.heap[blk]? = some (.cells vs el (0, 0)) ∧
        vs.size = cap * sz ∧ xs.length ≤ cap ∧ us.length = xs.length ∧ (∀ i (h1 : i < xs.length) (h2 : i < us.length), Rv s xs[i] us[i] ∧ us[i].cells.size = sz) ∧
        (∀ i j (h2 : i < us.length) (hj : j < us[i].cells.size), vs[i * sz + j]? = some us[i].cells[j]) ∧ ∀ o, ¬ s.S blk o)
  | .spare sz k => (∀ k', k < k' → s.lam b k' = none) ∧ ∃ (a : Option Addr) (len cap : Nat), s.lam b k = some (.slice a len cap) ∧ len ≤ cap ∧ (len < cap → ∃ (blk off : Nat) (vs : Array Value) (el : TypeId), a = some ⟨blk, off, none⟩ ∧ B ≤ blk ∧
      s.w.heap[blk]? = some (.cells vs el (0, 0)) ∧ off + cap * sz ≤ vs.size ∧ ∀ o, off + len * sz ≤ o → ¬ s.S blk o)
  | .amap es => ∃ (blk : Nat) (ms : Array MapEntry) (clock : Nat), s.lam b 0 = some (.map (some blk)) ∧ B ≤ blk ∧ s.w.heap[blk]? = some (.map ms clock) ∧ ms.size = es.length ∧
      (∀ j (h1 : j < es.length) (h2 : j < ms.size), Rv s es[j].1 ms[j].key ∧ Rv s es[j].2 ms[j].val) ∧ ∀ o, ¬ s.S blk o
  | .siter x pos => ∃ blk, s.lam b 0 = some (.pointer (some ⟨blk, 0, none⟩)) ∧ B ≤ blk ∧ s.w.heap[blk]? = some (.stringIter x pos) ∧ ∀ o, ¬ s.S blk o
  | .looprec N e ps asg body D st pend => ∃ (blk : Nat) (l : Loop), s.lam b 0 = some (.func (.yield blk) #[] #[]) ∧ B ≤ blk ∧ s.w.heap[blk]? = some (.loop l) ∧
      (l.state = st ∧ l.pending = pend ∧ l.tmps.size = N ∧ l.params.toList = ps ∧ l.assign = asg ∧ l.body = body ∧ (∃ d, s.lam D 0 = some (.map (some d)) ∧ l.defers = d)) ∧
      (∀ t, Rv s (e.get t) (l.tmps.getD t Go.undef)) ∧ ∀ o, ¬ s.S blk o
  | .dfr => ∃ blk, s.lam b 0 = some (.map (some blk)) ∧ B ≤ blk ∧ s.w.heap[blk]? = some (.deferred (some [])) ∧ ∀ o, ¬ s.S blk o
def LaidIn (s : St) : Prop := ∀ g cs, (g, cs) ∈ laidTab → ∀ j (h : j < cs.length), s.S g j ∧ s.w.cell? ⟨g, j, none⟩ = some (.int cs[j].1 cs[j].2)
theorem LaidIn.keeps {s s' : St} (h : Keeps s s') (hl : LaidIn s) : LaidIn s' :=
  fun g cs hm j hj => ⟨h.S _ _ (hl g cs hm j hj).1, (h.cell _ _ (hl g cs hm j hj).1).trans (hl g cs hm j hj).2⟩
structure Inv (A : World) (s : St) : Prop where
  below : Below A.heap.size A s.w
  obj : ∀ b o, s.h[b]? = some o → ObjOk s A.heap.size b o
  excl : ∀ b b' o o' blk, s.h[b]? = some o → s.h[b']? = some o' → Owns s b o blk → Owns s b' o' blk → b = b'
  fresh : ∀ b k, s.h.length ≤ b → s.lam b k = none
  scell : ∀ blk o, s.S blk o → blk < s.w.heap.size
  laid : LaidIn s
structure Goes (s s' : St) : Prop where
  keeps : Keeps s s'
  size : s.w.heap.size ≤ s'.w.heap.size
  outside : ∀ blk, blk < s.w.heap.size → ¬ Owned s blk → s'.w.heap[blk]? = s.w.heap[blk]?
  ownFrom : ∀ blk, Owned s' blk → s.w.heap.size ≤ blk ∨ Owned s blk
  sFrom : ∀ blk o, s'.S blk o → s.S blk o ∨ s.w.heap.size ≤ blk ∨ Owned s blk
theorem Goes.refl (s : St) : Goes s s := ⟨.refl s, Nat.le_refl _, fun _ _ _ => rfl, fun _ h => .inr h, fun _ _ h => .inl h⟩
theorem Goes.trans {a b c : St} (h : Goes a b) (k : Goes b c) : Goes a c where
  keeps := h.keeps.trans k.keeps
  size := Nat.le_trans h.size k.size
  outside := fun blk hlt hno => by
    refine (k.outside blk (Nat.lt_of_lt_of_le hlt h.size) ?_).trans (h.outside blk hlt hno)
    intro ho
    rcases h.ownFrom blk ho with h1 | h1
    · omega
    · exact hno h1
  ownFrom := fun blk ho => by
    rcases k.ownFrom blk ho with h1 | h1
    · exact .inl (Nat.le_trans h.size h1)
    · exact h.ownFrom blk h1
  sFrom := fun blk o hs => by
    rcases k.sFrom blk o hs with h1 | h1 | h1
    · exact h.sFrom blk o h1
    · exact .inr (.inl (Nat.le_trans h.size h1))
    · rcases h.ownFrom blk h1 with h2 | h2
      · exact .inr (.inl h2)
      · exact .inr (.inr h2)
end Go.AM
namespace Go.AM
open Go.RowKit
theorem Owns.back {s s' : St} {B b : Nat} {o : AObj} {blk : Nat} (hk : Keeps s s') (ho : ObjOk s B b o) (h : Owns s' b o blk) : Owns s b o blk := by
  cases o with
  | dead => exact h
  | hole => exact h
  | box cs =>
    obtain ⟨bk, vs, el, hl, _⟩ := ho
    have h' : s'.lam b 0 = some (.pointer (some ⟨blk, 0, none⟩)) := h
    rw [hk.lam _ _ _ hl] at h'
    show s.lam b 0 = _
    rw [hl]; exact h'
  | arr sz xs =>
    obtain ⟨cap, h0, h'⟩ := h
    rcases ho.2 with ⟨hx, a, hl⟩ | ⟨bk, cp, vs, el, us, _, hl, _⟩
    · subst hx; rw [List.length_nil, hk.lam _ _ _ hl] at h'; simp at h'; omega
    · rw [hk.lam _ _ _ hl] at h'
      exact ⟨cap, h0, by rw [hl]; exact h'⟩
  | spare sz k =>
    obtain ⟨off, len, cap, h', hlt⟩ := h
    obtain ⟨_, a, len', cap', hl, _⟩ := ho
    rw [hk.lam _ _ _ hl] at h'
    exact ⟨off, len, cap, by rw [hl]; exact h', hlt⟩
  | amap es =>
    obtain ⟨bk, ms, clock, hl, _⟩ := ho
    have h' : s'.lam b 0 = some (.map (some blk)) := h
    rw [hk.lam _ _ _ hl] at h'
    show s.lam b 0 = _
    rw [hl]; exact h'
  | siter x pos =>
    obtain ⟨bk, hl, _⟩ := ho
    have h' : s'.lam b 0 = some (.pointer (some ⟨blk, 0, none⟩)) := h
    rw [hk.lam _ _ _ hl] at h'
    show s.lam b 0 = _
    rw [hl]; exact h'
  | looprec N e ps asg body D st pend =>
    obtain ⟨bk, l, hl, _⟩ := ho
    have h' : s'.lam b 0 = some (.func (.yield blk) #[] #[]) := h
    rw [hk.lam _ _ _ hl] at h'
    show s.lam b 0 = _
    rw [hl]; exact h'
  | dfr =>
    obtain ⟨bk, hl, _⟩ := ho
    have h' : s'.lam b 0 = some (.map (some blk)) := h
    rw [hk.lam _ _ _ hl] at h'
    show s.lam b 0 = _
    rw [hl]; exact h'
theorem ObjOk.keep {s s' : St} {B b : Nat} {o : AObj} (hk : Keeps s s') (hheap : ∀ blk, Owns s b o blk → s'.w.heap[blk]? = s.w.heap[blk]?)
    (hS : ∀ blk x, Owns s b o blk → s'.S blk x → s.S blk x) (hl : ∀ k, s'.lam b k = s.lam b k) (h : ObjOk s B b o) : ObjOk s' B b o := by
  cases o with
  | dead => trivial
  | hole => exact fun k => (hl k).trans (h k)
  | box cs =>
    obtain ⟨blk, vs, el, hl, hB, hh, hsz, hr, hn⟩ := h
    exact ⟨blk, vs, el, hk.lam _ _ _ hl, hB, (hheap blk hl).trans hh, hsz, fun j h1 h2 => (hr j h1 h2).keeps hk, fun x hx => hn x (hS blk x hl hx)⟩
  | arr sz xs =>
    obtain ⟨hno, h⟩ := h
    refine ⟨fun k hk' => (hl k).trans (hno k hk'), ?_⟩
    rcases h with ⟨hx, a, hl⟩ | ⟨blk, cap, vs, el, us, h0, hl, hB, hh, hsz, hc, hu, hr, hv, hn⟩
    · exact .inl ⟨hx, a, hk.lam _ _ _ hl⟩
    · have ho : Owns s b (.arr sz xs) blk := ⟨cap, h0, hl⟩
      exact .inr ⟨blk, cap, vs, el, us, h0, hk.lam _ _ _ hl, hB, (hheap blk ho).trans hh, hsz, hc, hu, fun i h1 h2 => ⟨(hr i h1 h2).1.keeps hk, (hr i h1 h2).2⟩, hv, fun x hx => hn x (hS blk x ho hx)⟩
  | spare sz k =>
    obtain ⟨hno, a, len, cap, hl', hle, hx⟩ := h
    refine ⟨fun k' hk' => (hl k').trans (hno k' hk'), a, len, cap, hk.lam _ _ _ hl', hle, fun hlt => ?_⟩
    obtain ⟨blk, off, vs, el, ha, hB, hh, hsz, hn⟩ := hx hlt
    have ho : Owns s b (.spare sz k) blk := ⟨off, len, cap, ha ▸ hl', hlt⟩
    exact ⟨blk, off, vs, el, ha, hB, (hheap blk ho).trans hh, hsz, fun x hx hs => hn x hx (hS blk x ho hs)⟩
  | amap es =>
    obtain ⟨blk, ms, clock, hl, hB, hh, hsz, hr, hn⟩ := h
    exact ⟨blk, ms, clock, hk.lam _ _ _ hl, hB, (hheap blk hl).trans hh, hsz, fun j h1 h2 => ⟨(hr j h1 h2).1.keeps hk, (hr j h1 h2).2.keeps hk⟩, fun x hx => hn x (hS blk x hl hx)⟩
  | siter x pos =>
    obtain ⟨blk, hl, hB, hh, hn⟩ := h
    exact ⟨blk, hk.lam _ _ _ hl, hB, (hheap blk hl).trans hh, fun x hx => hn x (hS blk x hl hx)⟩
  | looprec N e ps asg body D st pend =>
    obtain ⟨blk, l, hl', hB, hh, ⟨h1, h2, h3, h4, h5, h6, d, h7, h8⟩, hr, hn⟩ := h
    exact ⟨blk, l, hk.lam _ _ _ hl', hB, (hheap blk hl').trans hh, ⟨h1, h2, h3, h4, h5, h6, d, hk.lam _ _ _ h7, h8⟩, fun t => (hr t).keeps hk, fun x hx => hn x (hS blk x hl' hx)⟩
  | dfr =>
    obtain ⟨blk, hl, hB, hh, hn⟩ := h
    exact ⟨blk, hk.lam _ _ _ hl, hB, (hheap blk hl).trans hh, fun x hx => hn x (hS blk x hl hx)⟩
theorem ObjOk.owns_lt {s : St} {B b : Nat} {o : AObj} {blk : Nat} (h : ObjOk s B b o) (ho : Owns s b o blk) : B ≤ blk ∧ blk < s.w.heap.size := by
  have lt : ∀ {o' : Obj} {k : Nat}, s.w.heap[k]? = some o' → k < s.w.heap.size := fun e => (Array.getElem?_eq_some_iff.1 e).1
  cases o with
  | dead => exact ho.elim
  | hole => exact ho.elim
  | box cs =>
    obtain ⟨bk, vs, el, hl, hB, hh, _⟩ := h
    have : bk = blk := by have e : s.lam b 0 = _ := ho; rw [hl] at e; simpa using e
    subst this; exact ⟨hB, lt hh⟩
  | arr sz xs =>
    obtain ⟨cap, h0, e⟩ := ho
    rcases h.2 with ⟨hx, a, hl⟩ | ⟨bk, cp, vs, el, us, _, hl, hB, hh, _⟩
    · subst hx; rw [List.length_nil, hl] at e; simp at e; omega
    · have : bk = blk := by rw [hl] at e; simp at e; exact e.1
      subst this; exact ⟨hB, lt hh⟩
  | spare sz k =>
    obtain ⟨off, len, cap, e, hlt⟩ := ho
    obtain ⟨_, a, len', cap', hl, _, hx⟩ := h
    rw [hl] at e
    simp at e
    obtain ⟨rfl, rfl, rfl⟩ := e
    obtain ⟨bk, off', vs, el, ha, hB, hh, _⟩ := hx hlt
    simp at ha
    obtain ⟨rfl, rfl⟩ := ha
    exact ⟨hB, lt hh⟩
  | amap es =>
    obtain ⟨bk, ms, clock, hl, hB, hh, _⟩ := h
    have : bk = blk := by have e : s.lam b 0 = _ := ho; rw [hl] at e; simpa using e
    subst this; exact ⟨hB, lt hh⟩
  | siter x pos =>
    obtain ⟨bk, hl, hB, hh, _⟩ := h
    have : bk = blk := by have e : s.lam b 0 = _ := ho; rw [hl] at e; simpa using e
    subst this; exact ⟨hB, lt hh⟩
  | looprec N e ps asg body D st pend =>
    obtain ⟨bk, l, hl, hB, hh, _⟩ := h
    have : bk = blk := by have e : s.lam b 0 = _ := ho; rw [hl] at e; simpa using e
    subst this; exact ⟨hB, lt hh⟩
  | dfr =>
    obtain ⟨bk, hl, hB, hh, _⟩ := h
    have : bk = blk := by have e : s.lam b 0 = _ := ho; rw [hl] at e; simpa using e
    subst this; exact ⟨hB, lt hh⟩
def OwnsAt (s : St) (b blk : Nat) : Prop := ∃ o, s.h[b]? = some o ∧ Owns s b o blk
theorem Inv.change {A : World} {s s' : St} {b : Nat} {o' : AObj} (hi : Inv A s) (hb : b < s.h.length) (hh : s'.h = s.h.set b o') (hk : Keeps s s')
    (hbel : Below A.heap.size A s'.w) (hsz : s.w.heap.size ≤ s'.w.heap.size) (hlam : ∀ b' k, b' ≠ b → s'.lam b' k = s.lam b' k)
    (hheap : ∀ blk, blk < s.w.heap.size → ¬ OwnsAt s b blk → s'.w.heap[blk]? = s.w.heap[blk]?)
    (hobj : ObjOk s' A.heap.size b o') (hown : ∀ blk, Owns s' b o' blk → s.w.heap.size ≤ blk ∨ OwnsAt s b blk)
    (hS : ∀ blk x, s'.S blk x → s.S blk x ∨ s.w.heap.size ≤ blk ∨ OwnsAt s b blk) (hSc : ∀ blk x, s'.S blk x → blk < s'.w.heap.size) :
    Inv A s' ∧ Goes s s' := by
  have hother : ∀ b' o, b' ≠ b → s'.h[b']? = some o → s.h[b']? = some o := fun b' o hne he => by
    rw [hh, List.getElem?_set_ne (by omega)] at he; exact he
  have hself : ∀ o, s'.h[b]? = some o → o = o' := fun o he => by
    rw [hh, List.getElem?_set_self hb] at he; exact (Option.some.inj he).symm
  have hlt : ∀ b' o blk, s.h[b']? = some o → Owns s b' o blk → blk < s.w.heap.size := fun b' o blk h1 h2 => ((hi.obj b' o h1).owns_lt h2).2
  have hnot : ∀ b' o blk, b' ≠ b → s.h[b']? = some o → Owns s b' o blk → ¬ OwnsAt s b blk := fun b' o blk hne h1 h2 ⟨ob, h3, h4⟩ => hne (hi.excl b' b o ob blk h1 h3 h2 h4)
  refine ⟨⟨hbel, ?_, ?_, ?_, hSc, hi.laid.keeps hk⟩, ⟨hk, hsz, ?_, ?_, ?_⟩⟩
  · intro b' o he
    by_cases hne : b' = b
    · subst hne; rw [hself o he]; exact hobj
    · have he' := hother b' o hne he
      refine (hi.obj b' o he').keep hk (fun blk ho => hheap blk (hlt b' o blk he' ho) (hnot b' o blk hne he' ho)) (fun blk x ho hs => ?_) (fun k => hlam b' k hne)
      rcases hS blk x hs with h1 | h1 | h1
      · exact h1
      · have := hlt b' o blk he' ho; omega
      · exact absurd h1 (hnot b' o blk hne he' ho)
  · intro b1 b2 o1 o2 blk h1 h2 w1 w2
    by_cases e1 : b1 = b <;> by_cases e2 : b2 = b
    · rw [e1, e2]
    · subst e1
      have := hself o1 h1; subst this
      have h2' := hother b2 o2 e2 h2
      have w2' := Owns.back hk (hi.obj b2 o2 h2') w2
      rcases hown blk w1 with h3 | h3
      · have := hlt b2 o2 blk h2' w2'; omega
      · exact absurd h3 (hnot b2 o2 blk e2 h2' w2')
    · subst e2
      have := hself o2 h2; subst this
      have h1' := hother b1 o1 e1 h1
      have w1' := Owns.back hk (hi.obj b1 o1 h1') w1
      rcases hown blk w2 with h3 | h3
      · have := hlt b1 o1 blk h1' w1'; omega
      · exact absurd h3 (hnot b1 o1 blk e1 h1' w1')
    · have h1' := hother b1 o1 e1 h1
      have h2' := hother b2 o2 e2 h2
      exact hi.excl b1 b2 o1 o2 blk h1' h2' (Owns.back hk (hi.obj b1 o1 h1') w1) (Owns.back hk (hi.obj b2 o2 h2') w2)
  · intro b' k hle
    rw [hh, List.length_set] at hle
    rw [hlam b' k (by omega)]
    exact hi.fresh b' k hle
  · intro blk hl hno
    exact hheap blk hl fun ⟨ob, h1, h2⟩ => hno ⟨b, ob, h1, h2⟩
  · rintro blk ⟨b', o, h1, h2⟩
    by_cases hne : b' = b
    · subst hne
      have := hself o h1; subst this
      rcases hown blk h2 with h3 | ⟨ob, h3, h4⟩
      · exact .inl h3
      · exact .inr ⟨b', ob, h3, h4⟩
    · have h1' := hother b' o hne h1
      exact .inr ⟨b', o, h1', Owns.back hk (hi.obj b' o h1') h2⟩
  · intro blk x hs
    rcases hS blk x hs with h1 | h1 | ⟨ob, h3, h4⟩
    · exact .inl h1
    · exact .inr (.inl h1)
    · exact .inr (.inr ⟨b, ob, h3, h4⟩)
theorem Inv.grow {A : World} {s s' : St} (hi : Inv A s) (hh : s'.h = s.h) (hl : s'.lam = s.lam) (hk : Keeps s s')
    (hbel : Below A.heap.size A s'.w) (hsz : s.w.heap.size ≤ s'.w.heap.size)
    (hheap : ∀ blk, blk < s.w.heap.size → s'.w.heap[blk]? = s.w.heap[blk]?)
    (hS : ∀ blk x, s'.S blk x → s.S blk x ∨ s.w.heap.size ≤ blk) (hSc : ∀ blk x, s'.S blk x → blk < s'.w.heap.size) : Inv A s' ∧ Goes s s' := by
  have hlt : ∀ b' o blk, s.h[b']? = some o → Owns s b' o blk → blk < s.w.heap.size := fun b' o blk h1 h2 => ((hi.obj b' o h1).owns_lt h2).2
  refine ⟨⟨hbel, ?_, ?_, ?_, hSc, hi.laid.keeps hk⟩, ⟨hk, hsz, fun blk hl _ => hheap blk hl, ?_, ?_⟩⟩
  · intro b o he
    rw [hh] at he
    refine (hi.obj b o he).keep hk (fun blk ho => hheap blk (hlt b o blk he ho)) (fun blk x ho hs => ?_) (fun k => by rw [hl])
    rcases hS blk x hs with h1 | h1
    · exact h1
    · have := hlt b o blk he ho; omega
  · intro b1 b2 o1 o2 blk h1 h2 w1 w2
    rw [hh] at h1 h2
    exact hi.excl b1 b2 o1 o2 blk h1 h2 (Owns.back hk (hi.obj b1 o1 h1) w1) (Owns.back hk (hi.obj b2 o2 h2) w2)
  · intro b k hle
    rw [hh] at hle; rw [hl]
    exact hi.fresh b k hle
  · rintro blk ⟨b, o, h1, h2⟩
    rw [hh] at h1
    exact .inr ⟨b, o, h1, Owns.back hk (hi.obj b o h1) h2⟩
  · intro blk x hs
    rcases hS blk x hs with h1 | h1
    · exact .inl h1
    · exact .inr (.inl h1)
def St.more (s : St) (n : Nat) : St := { s with h := s.h ++ List.replicate n .hole }
theorem Rv.more {s : St} {n : Nat} {v : AVal} {c : Value} (h : Rv s v c) : Rv (s.more n) v c :=
  Rv.keeps (s := s) (s' := s.more n) ⟨fun _ _ _ e => e, fun _ _ e => e, fun _ _ _ => rfl⟩ h
theorem St.more_get {s : St} {n b : Nat} {o : AObj} (h : (s.more n).h[b]? = some o) : s.h[b]? = some o ∨ o = .hole ∧ s.h.length ≤ b := by
  simp only [St.more, List.getElem?_append] at h
  split at h
  · exact .inl h
  · simp [List.getElem?_replicate] at h; exact .inr ⟨h.2.symm, by omega⟩
theorem Inv.more {A : World} {s : St} (hi : Inv A s) (n : Nat) : Inv A (s.more n) ∧ Goes s (s.more n) := by
  have hk : Keeps s (s.more n) := ⟨fun _ _ _ e => e, fun _ _ e => e, fun _ _ _ => rfl⟩
  refine ⟨⟨hi.below, ?_, ?_, ?_, hi.scell, hi.laid.keeps hk⟩, ⟨hk, Nat.le_refl _, fun _ _ _ => rfl, ?_, fun _ _ h => .inl h⟩⟩
  · intro b o he
    rcases St.more_get he with h | h
    · exact (hi.obj b o h).keep hk (fun _ _ => rfl) (fun _ _ _ h => h) (fun _ => rfl)
    · obtain ⟨rfl, hle⟩ := h; exact fun k => hi.fresh _ _ hle
  · intro b1 b2 o1 o2 blk h1 h2 w1 w2
    rcases St.more_get h1 with e1 | e1
    · rcases St.more_get h2 with e2 | e2
      · exact hi.excl b1 b2 o1 o2 blk e1 e2 (Owns.back hk (hi.obj b1 o1 e1) w1) (Owns.back hk (hi.obj b2 o2 e2) w2)
      · obtain ⟨rfl, _⟩ := e2; exact w2.elim
    · obtain ⟨rfl, _⟩ := e1; exact w1.elim
  · intro b k hle
    simp only [St.more, List.length_append, List.length_replicate] at hle
    exact hi.fresh b k (by omega)
  · rintro blk ⟨b, o, h1, h2⟩
    rcases St.more_get h1 with e1 | e1
    · exact .inr ⟨b, o, e1, Owns.back hk (hi.obj b o e1) h2⟩
    · obtain ⟨rfl, _⟩ := e1; exact h2.elim
def setLam (l : Nat → Nat → Option Value) (b k : Nat) (v : Value) : Nat → Nat → Option Value := fun b' k' => if b' = b ∧ k' = k then some v else l b' k'
@[simp] theorem setLam_same (l : Nat → Nat → Option Value) (b k : Nat) (v : Value) : setLam l b k v b k = some v := by simp [setLam]
theorem setLam_other {l : Nat → Nat → Option Value} {b k b' k' : Nat} {v : Value} (h : b' ≠ b ∨ k' ≠ k) : setLam l b k v b' k' = l b' k' := by
  unfold setLam; rw [if_neg]; rintro ⟨rfl, rfl⟩; simp at h
theorem setLam_keeps {l : Nat → Nat → Option Value} {b k : Nat} {v : Value} (h : l b k = none) (b' k' : Nat) (u : Value) (hu : l b' k' = some u) : setLam l b k v b' k' = some u := by
  unfold setLam; split
  · rename_i e; obtain ⟨rfl, rfl⟩ := e; rw [h] at hu; cases hu
  · exact hu
theorem Inv.fill_box {A : World} {s : St} (hi : Inv A s) {b : Nat} (hb : s.h[b]? = some .hole) {cs : List AVal} {vs : Array Value} (el : TypeId)
    (hsz : vs.size = cs.length) (hr : ∀ j (h1 : j < cs.length) (h2 : j < vs.size), Rv s cs[j] vs[j]) :
    ∃ s', s'.h = s.h.set b (.box cs) ∧ s'.w = s.w.alloc (.cells vs el) ∧ Inv A s' ∧ Goes s s' ∧ Rv s' (.ptr b 0) (.pointer (some ⟨s.w.heap.size, 0, none⟩)) ∧ (∀ b' k, b' ≠ b → s'.lam b' k = s.lam b' k) := by
  have hblt : b < s.h.length := (List.getElem?_eq_some_iff.1 hb).1
  have hl : ∀ k, s.lam b k = none := hi.obj b _ hb
  let s' : St := { h := s.h.set b (.box cs), lam := setLam s.lam b 0 (.pointer (some ⟨s.w.heap.size, 0, none⟩)), S := s.S, w := s.w.alloc (.cells vs el) }
  have hk : Keeps s s' := ⟨setLam_keeps (hl 0), fun _ _ h => h, fun blk o hs => World.cell?_alloc_lt _ _ (a := ⟨blk, o, none⟩) (hi.scell blk o hs)⟩
  have hnew : s'.w.heap[s.w.heap.size]? = some (.cells vs el (0, 0)) := by show (s.w.heap.push _)[s.w.heap.size]? = _; simp
  have hgo := hi.change (s' := s') hblt rfl hk (hi.below.alloc hi.below.size _) (by simp [s']) (fun b' k hne => setLam_other (.inl hne))
    (fun blk hlt _ => Below.heap_alloc _ _ _ hlt)
    ⟨s.w.heap.size, vs, el, setLam_same _ _ _ _, hi.below.size, hnew, hsz, fun j h1 h2 => (hr j h1 h2).keeps hk, fun o hs => by have := hi.scell _ _ hs; omega⟩
    (fun blk ho => by
      have e : setLam s.lam b 0 (.pointer (some ⟨s.w.heap.size, 0, none⟩)) b 0 = some (.pointer (some ⟨blk, 0, none⟩)) := ho
      simp at e; left; omega)
    (fun blk x h => .inl h) (fun blk x h => by have := hi.scell _ _ h; simp [s']; omega)
  exact ⟨s', rfl, rfl, hgo.1, hgo.2, .ptr b 0 _ (setLam_same _ _ _ _), fun b' k hne => setLam_other (.inl hne)⟩
end Go.AM
namespace Go.AM
inductive AOpr where
  | t (n : Nat)
  | c (v : AVal)
  | f (n : Nat)
  deriving Inhabited
inductive LK where
  | b | i | s
  deriving DecidableEq, Inhabited
inductive AI where
  | mv (x : AOpr)
  | pick (c a b : AOpr)
  | alloc (z : List AVal)
  | box (n : Nat) (x : AOpr)
  | pbox (n : Nat) (x : AOpr)
  | loadd (k : Option Nat) (x : AOpr)
  | mvd (x : AOpr)
  | build (z : List AVal) (parts : List (Nat × Nat × AOpr))
  | lit (m : Nat) (sz n : Nat) (parts : List (Nat × AOpr))
  | load (k : Option Nat) (x : AOpr)
  | store (sz : Nat) (x v : AOpr)
  | nilchk (x : AOpr)
  | bin (op : BinOp) (x y : AOpr)
  | eqb (neg : Bool) (x y : AOpr)
  | eqa (neg : Bool) (ks : List LK) (x y : AOpr)
  | un (op : UnOp) (x : AOpr)
  | conv (k : IntKind) (x : AOpr)
  | convs (x : AOpr)
  | mkfunc (fn : Fn) (first caps : List AOpr)
  | fieldAddr (k : Option Nat) (off : Nat) (x : AOpr)
  | field (k : Option Nat) (off : Nat) (x : AOpr)
  | ixS (sz : Nat) (x i : AOpr)
  | ixA (len sz : Nat) (k : Option Nat) (x i : AOpr)
  | ixV (len sz : Nat) (k : Option Nat) (x i : AOpr)
  | ixStr (x i : AOpr)
  | extract (x : AOpr) (i : Nat)
  | len (x : AOpr)
  | lenStr (x : AOpr)
  | lenA (n : Nat) (x : AOpr)
  | mx (l : List AOpr)
  | mn (l : List AOpr)
  | sub (m : Nat) (sz : Nat) (x : AOpr) (lo hi mx : Option AOpr)
  | subStr (x : AOpr) (lo hi : Option AOpr)
  | subq (sz : Nat) (x : AOpr) (lo hi : Option AOpr)
  | append (sz bytes : Nat) (x y : AOpr)
  | call (f : AOpr) (dn : List Bool) (args : List AOpr)
  | panic (x : AOpr)
  | mkiface (t : TypeId) (x : AOpr)
  | assert (t : TypeId) (x : AOpr)
  | range (x : AOpr)
  | next (x : AOpr)
  | mkmap
  | lookup (ok : Bool) (z : AVal) (x i : AOpr)
  | mapset (x k v : AOpr)
  | mksl (m sz bytes : Nat) (z : AVal) (n c : AOpr)
  | clear (sz : Nat) (z : AVal) (x : AOpr)
  | copyB (sz : Nat) (x y : AOpr)
  | freeze (sz : Nat) (x : AOpr)
  | nilS (m sz : Nat)
  | buildm (z : List AVal) (ps : List (Nat × Nat × AOpr))
  | storem (sz : Nat) (x : AOpr)
  | subO (sz : Nat) (x lo : AOpr)
  | isnil (neg : Bool) (x : AOpr)
  | callA (sz : Nat) (f : AOpr) (dn : List Bool) (args : List AOpr)
  | gix (g : Nat) (x : AOpr)
  | snil (neg : Bool) (x : AOpr)
  | mnew
  | mget (ok : Bool) (lk : LK) (z : AVal) (x i : AOpr)
  | mset (lk : LK) (x k v : AOpr)
  | other
  deriving Inhabited
structure AOper where
  d : Option Nat
  g : Option (Nat × Bool)
  i : AI
  deriving Inhabited
def Env.put (e : Env) (d : Option Nat) (v : AVal) : Env :=
  match d with
  | some d => (d, v) :: e
  | none => e
def Env.only (e : Env) : List Nat → Env
  | [] => []
  | n :: r => (n, e.get n) :: Env.only e r
def AVal.strip : AVal → AVal
  | .opt _ v => v
  | v => v
def AVal.cond : AVal → Bool
  | .opt g _ => g
  | _ => true
def opv (e : Env) : AOpr → AVal
  | .t n => (e.get n).strip
  | .c v => v
  | .f n => .func (.func n) [] []
def opg (e : Env) : AOpr → Bool
  | .t n => (e.get n).cond
  | _ => true
def AI.opers : AI → List AOpr
  | .mv x | .box _ x | .pbox _ x | .loadd _ x | .mvd x | .load _ x | .nilchk x | .un _ x | .conv _ x | .convs x | .fieldAddr _ _ x | .field _ _ x | .extract x _ | .len x | .lenStr x | .panic x | .mkiface _ x | .assert _ x | .range x | .next x | .freeze _ x | .clear _ _ x | .isnil _ x | .gix _ x | .snil _ x => [x]
  | .lenA _ _ | .alloc _ | .mkmap | .mnew | .nilS _ _ | .other => []
  | .pick c _ _ => [c]
  | .build _ ps => ps.map (·.2.2)
  | .buildm _ ps => ps.map (·.2.2)
  | .storem _ x => [x]
  | .lit _ _ _ ps => ps.map (·.2)
  | .store _ x y | .bin _ x y | .eqb _ x y | .eqa _ _ x y | .ixS _ x y | .ixA _ _ _ x y | .ixV _ _ _ x y | .ixStr x y | .append _ _ x y | .lookup _ _ x y | .subO _ x y | .mget _ _ _ x y | .mksl _ _ _ _ x y | .copyB _ x y => [x, y]
  | .mkfunc _ a b => a ++ b
  | .mx l | .mn l => l
  | .sub _ _ x a b c => x :: (a.toList ++ b.toList ++ c.toList)
  | .subStr x a b | .subq _ x a b => x :: (a.toList ++ b.toList)
  | .call f _ l | .callA _ f _ l => f :: l
  | .mapset x k v | .mset _ x k v => [x, k, v]
def partV (k : Option Nat) (cs : List AVal) (off : Nat) : AVal :=
  match k with
  | none => cs.getD off .undef
  | some n => .agg ((cs.drop off).take n)
def partOk (k : Option Nat) (cs : List AVal) (off : Nat) : Prop :=
  match k with
  | none => off < cs.length ∧ (cs.getD off .undef).scal = true
  | some n => off + n ≤ cs.length
def putCells (cs : List AVal) (off : Nat) : List AVal → List AVal
  | [] => cs
  | v :: r => putCells (cs.set off v) (off + 1) r
def AHeap.get (σ : AHeap) (b : Nat) : AObj := σ.getD b .dead
def AVal.fine : AVal → Bool
  | .agg _ => true
  | v => v.scal
def loadV (k : Option Nat) (σ : AHeap) : AVal → AVal
  | .pval v => v
  | .ptr b off => match σ.get b with
    | .box cs => partV k cs off
    | _ => .undef
  | .eptr _ b i f _ => match σ.get b with
    | .arr _ xs => partV k (xs.getD i .undef).cells f
    | _ => .undef
  | _ => .undef
def loadOk (k : Option Nat) (σ : AHeap) : AVal → Prop
  | .pval v => match k with
    | none => v.scal = true
    | some n => match v with
      | .agg cs => cs.length = n
      | _ => False
  | .ptr b off => match σ.get b with
    | .box cs => partOk k cs off
    | _ => False
  | .eptr sz b i f n => match σ.get b with
    | .arr sz' xs => sz' = sz ∧ xs.length = n ∧ i < n ∧ (xs.getD i .undef).fine = true ∧ partOk k (xs.getD i .undef).cells f
    | _ => False
  | _ => False
def allScal : List AVal → Bool
  | [] => true
  | v :: r => v.scal && allScal r
def cellsLen (v : AVal) (n : Nat) : Prop :=
  match v with
  | .agg cs => cs.length = n
  | v => v.scal = true ∧ n = 1
def fillV (z : List AVal) : List (Nat × List AVal) → List AVal
  | [] => z
  | (off, cs) :: r => fillV (putCells z off cs) r
def fillOk (n : Nat) (ρ : AOpr → AVal) : List (Nat × Nat × AOpr) → Prop
  | [] => True
  | (off, sz, x) :: r => cellsLen (ρ x) sz ∧ off + sz ≤ n ∧ fillOk n ρ r
def litV (ρ : AOpr → AVal) (z : List AVal) : List (Nat × AOpr) → List AVal
  | [] => z
  | (i, x) :: r => litV ρ (z.set i (ρ x)) r
def litOk (sz n : Nat) (ρ : AOpr → AVal) : List (Nat × AOpr) → Prop
  | [] => True
  | (i, x) :: r => i < n ∧ cellsLen (ρ x) sz ∧ litOk sz n ρ r
def leafEq : AVal → AVal → Bool
  | .int _ a, .int _ b => a == b
  | .str a, .str b => a == b
  | .bool a, .bool b => a == b
  | _, _ => false
def leafOk : AVal → AVal → Bool
  | .int j _, .int k _ => j == k
  | .str _, .str _ => true
  | .bool _, .bool _ => true
  | _, _ => false
def leafIs : LK → AVal → AVal → Bool
  | .i, .int j _, .int k _ => j == k
  | .s, .str _, .str _ => true
  | .b, .bool _, .bool _ => true
  | _, _, _ => false
def cellsEq : List AVal → List AVal → Bool
  | x :: r, y :: t => leafEq x y && cellsEq r t
  | _, _ => true
def cellsEqOk : List LK → List AVal → List AVal → Bool
  | [], [], [] => true
  | k :: l, x :: r, y :: t => leafIs k x y && cellsEqOk l r t
  | _, _, _ => false
def bitE (op : BinOp) (k : IntKind) (a b : Int) : Int :=
  match op with
  | .and => k.wrap (BitVec.ofInt k.bits a &&& BitVec.ofInt k.bits b).toNat
  | .or => k.wrap (BitVec.ofInt k.bits a ||| BitVec.ofInt k.bits b).toNat
  | .xor => k.wrap (BitVec.ofInt k.bits a ^^^ BitVec.ofInt k.bits b).toNat
  | _ => k.wrap (BitVec.ofInt k.bits a &&& ~~~ (BitVec.ofInt k.bits b)).toNat
/-! The same, where both numbers are known: else the kernel would compute with unknown bits, and end in a depth. -/
def bitS1 (op : BinOp) : Nat → IntKind → Int → Int → Int
  | 0 => bitE op
  | _ + 1 => bitE op
def bitS2 (op : BinOp) : Nat → Nat → IntKind → Int → Int → Int
  | 0 => bitS1 op
  | _ + 1 => bitS1 op
def bitV (op : BinOp) (k : IntKind) (a b : Int) : Int := bitS2 op a.natAbs b.natAbs k a b
theorem bitV_eq (op : BinOp) (k : IntKind) (a b : Int) : bitV op k a b = bitE op k a b := by
  unfold bitV
  cases a.natAbs <;> cases b.natAbs <;> rfl
def arith (op : BinOp) (k : IntKind) (a b : Int) : AVal :=
  match op with
  | .add => .int k (k.wrap (a + b))
  | .sub => .int k (k.wrap (a - b))
  | .mul => .int k (k.wrap (a * b))
  | .quo => .int k (k.wrap (a.tdiv b))
  | .rem => .int k (a.tmod b)
  | .and => .int k (bitV .and k a b)
  | .or => .int k (bitV .or k a b)
  | .xor => .int k (bitV .xor k a b)
  | .andNot => .int k (bitV .andNot k a b)
  | .shl => .int k (k.wrap (a * 2 ^ min b.toNat k.bits))
  | .shr => .int k (a.fdiv (2 ^ min b.toNat k.bits))
  | .eql => .bool (a == b)
  | .neq => .bool (a != b)
  | .lss => .bool (decide (a < b))
  | .leq => .bool (decide (a ≤ b))
  | .gtr => .bool (decide (a > b))
  | .geq => .bool (decide (a ≥ b))
def arithOk (op : BinOp) (j k : IntKind) (b : Int) : Prop :=
  match op with
  | .quo | .rem => j = k ∧ b ≠ 0
  | .shl | .shr => 0 ≤ b
  | _ => j = k
def strop (op : BinOp) (a b : ByteArray) : AVal :=
  match op with
  | .add => .str (a ++ b)
  | .eql => .bool (a.toList == b.toList)
  | .neq => .bool (!(a.toList == b.toList))
  | .lss => .bool (Op.bytesLess a.toList b.toList)
  | .leq => .bool (Op.bytesLess a.toList b.toList || a.toList == b.toList)
  | .gtr => .bool (!(Op.bytesLess a.toList b.toList || a.toList == b.toList))
  | .geq => .bool (!Op.bytesLess a.toList b.toList)
  | _ => .undef
def stropOk (op : BinOp) (a b : ByteArray) : Prop :=
  match op with
  | .add => ((a.size + b.size : Nat) : Int) ≤ IntKind.i64.max
  | .eql | .neq | .lss | .leq | .gtr | .geq => True
  | _ => False
def binV (op : BinOp) : AVal → AVal → AVal
  | .int k a, .int _ b => arith op k a b
  | .str a, .str b => strop op a b
  | _, _ => .undef
def binOk (op : BinOp) : AVal → AVal → Prop
  | .int j _, .int k b => arithOk op j k b
  | .str a, .str b => stropOk op a b
  | _, _ => False
def unV (op : UnOp) : AVal → AVal
  | .bool b => match op with
    | .not => .bool (!b)
    | _ => .undef
  | .int k n => match op with
    | .neg => .int k (k.wrap (0 - n))
    | .xor => .int k (k.wrap (BitVec.ofInt k.bits (if k.signed then -1 else k.max) ^^^ BitVec.ofInt k.bits n).toNat)
    | _ => .undef
  | _ => .undef
def unOk (op : UnOp) : AVal → Prop
  | .bool _ => match op with
    | .not => True
    | _ => False
  | .int _ _ => match op with
    | .neg | .xor => True
    | _ => False
  | _ => False
def intV : AVal → Int
  | .int _ n => n
  | _ => 0
def isInt : AVal → Prop
  | .int _ _ => True
  | _ => False
def AVal.elems (σ : AHeap) : AVal → List AVal
  | .slice _ xs => xs
  | .oslice _ xs _ _ => xs
  | .sref _ b off len _ => match σ.get b with
    | .arr _ xs => (xs.drop off).take len
    | _ => []
  | _ => []
def AVal.elemsOk (σ : AHeap) (sz : Nat) : AVal → Prop
  | .slice sz' xs => sz' = sz ∨ xs = []
  | .oslice sz' _ _ _ => sz' = sz
  | .sref sz' b _ _ n => sz' = sz ∧ match σ.get b with
    | .arr sz'' xs => sz'' = sz ∧ xs.length = n
    | _ => False
  | _ => False
def lenV : AVal → AVal
  | .slice _ xs => .int .i64 xs.length
  | .oslice _ xs _ _ => .int .i64 xs.length
  | .sref _ _ _ len _ => .int .i64 len
  | _ => .undef
def lenOk : AVal → Prop
  | .slice _ _ | .oslice _ _ _ _ | .sref _ _ _ _ _ => True
  | _ => False
def ixSV (n : Int) : AVal → AVal
  | .slice _ xs => .pval (xs.getD n.toNat .undef)
  | .oslice _ xs _ _ => .pval (xs.getD n.toNat .undef)
  | .sref sz b off _ m => .eptr sz b (off + n.toNat) 0 m
  | _ => .undef
def ixSOk (sz : Nat) (n : Int) : AVal → Prop
  | .slice sz' xs => sz' = sz ∧ 0 ≤ n ∧ n < xs.length
  | .oslice sz' xs _ _ => sz' = sz ∧ 0 ≤ n ∧ n < xs.length
  | .sref sz' _ _ len _ => sz' = sz ∧ 0 ≤ n ∧ n < len
  | _ => False
def fieldAddrV (k : Option Nat) (off : Nat) : AVal → AVal
  | .pval (.agg cs) => .pval (partV k cs off)
  | .ptr b o => .ptr b (o + off)
  | .eptr sz b i f n => .eptr sz b i (f + off) n
  | _ => .undef
def fieldAddrOk (k : Option Nat) (off : Nat) : AVal → Prop
  | .pval (.agg cs) => partOk k cs off
  | .ptr _ _ | .eptr _ _ _ _ _ => True
  | _ => False
def aggV (k : Option Nat) (off : Nat) : AVal → AVal
  | .agg cs => partV k cs off
  | _ => .undef
def aggOk (k : Option Nat) (off : Nat) : AVal → Prop
  | .agg cs => partOk k cs off
  | _ => False
def maxV (x : AVal) (y : AVal) : AVal :=
  match x, y with
  | .int k a, .int _ b => .int k (if b > a then b else a)
  | _, _ => .undef
def minV (x : AVal) (y : AVal) : AVal :=
  match x, y with
  | .int k a, .int _ b => .int k (if b < a then b else a)
  | _, _ => .undef
def allInt : List AVal → Prop
  | [] => True
  | x :: r => isInt x ∧ allInt r
def bndV (ρ : AOpr → AVal) (d : Int) : Option AOpr → Int
  | none => d
  | some x => intV (ρ x)
def bndOk (ρ : AOpr → AVal) : Option AOpr → Prop
  | none => True
  | some x => isInt (ρ x)
def AI.val (ρ : AOpr → AVal) (σ : AHeap) : AI → AVal
  | .mv x => ρ x
  | .build z ps => .agg (fillV z (ps.map fun p => (p.1, (ρ p.2.2).cells)))
  | .lit _ sz n ps => .slice sz (litV ρ (List.replicate n .undef) ps)
  | .load k x => loadV k σ (ρ x)
  | .nilchk x => ρ x
  | .bin op x y => binV op (ρ x) (ρ y)
  | .eqb neg x y => match ρ x, ρ y with
    | .bool a, .bool b => .bool (neg != (a == b))
    | _, _ => .undef
  | .eqa neg _ x y => match ρ x, ρ y with
    | .agg a, .agg b => .bool (neg != cellsEq a b)
    | _, _ => .undef
  | .un op x => unV op (ρ x)
  | .conv k x => .int k (k.wrap (intV (ρ x)))
  | .convs x => ρ x
  | .mkfunc fn first caps => .func fn (first.map ρ) (caps.map ρ)
  | .fieldAddr k off x => fieldAddrV k off (ρ x)
  | .field k off x => aggV k off (ρ x)
  | .ixS _ x i => ixSV (intV (ρ i)) (ρ x)
  | .ixA _ sz k x i => fieldAddrV k ((intV (ρ i)).toNat * sz) (ρ x)
  | .ixV _ sz k x i => aggV k ((intV (ρ i)).toNat * sz) (ρ x)
  | .ixStr x i => match ρ x with
    | .str s => .int .u8 (s.data.getD (intV (ρ i)).toNat 0).toNat
    | _ => .undef
  | .extract x i => match ρ x with
    | .tup vs => vs.getD i .undef
    | _ => .undef
  | .len x => lenV (ρ x)
  | .lenStr x => match ρ x with
    | .str s => .int .i64 s.size
    | _ => .undef
  | .lenA n _ => .int .i64 n
  | .mx l => match l.map ρ with
    | [] => .undef
    | x :: r => r.foldl maxV x
  | .mn l => match l.map ρ with
    | [] => .undef
    | x :: r => r.foldl minV x
  | .mkiface t x => .iface t (ρ x)
  | .assert _ x => match ρ x with
    | .iface _ v => v
    | _ => .undef
  | .subStr x lo hi => match ρ x with
    | .str s => .str (s.extract (bndV ρ 0 lo).toNat (bndV ρ s.size hi).toNat)
    | _ => .undef
  | .subq sz x lo hi => match ρ x with
    | .slice _ xs => .slice sz ((xs.take (bndV ρ xs.length hi).toNat).drop (bndV ρ 0 lo).toNat)
    | .oslice _ xs _ _ => .slice sz ((xs.take (bndV ρ xs.length hi).toNat).drop (bndV ρ 0 lo).toNat)
    | _ => .undef
  | .lookup ok z x i => match ρ x with
    | .map b => match σ.get b with
      | .amap es => match es.find? (fun e => leafEq (ρ i) e.1) with
        | some e => if ok then .tup [e.2, .bool true] else e.2
        | none => if ok then .tup [z, .bool false] else z
      | _ => .undef
    | _ => .undef
  | _ => .undef
def AI.side (ρ : AOpr → AVal) (σ : AHeap) : AI → Prop
  | .mv _ => True
  | .build z ps => fillOk z.length ρ ps
  | .lit m sz n ps => m = 0 ∧ litOk sz n ρ ps
  | .load k x => loadOk k σ (ρ x)
  | .nilchk x => match ρ x with
    | .pval _ | .ptr _ _ | .eptr _ _ _ _ _ | .func (.func _) _ _ => True
    | _ => False
  | .bin op x y => binOk op (ρ x) (ρ y)
  | .eqb _ x y => match ρ x, ρ y with
    | .bool _, .bool _ => True
    | _, _ => False
  | .eqa _ ks x y => match ρ x, ρ y with
    | .agg a, .agg b => cellsEqOk ks a b = true
    | _, _ => False
  | .un op x => unOk op (ρ x)
  | .conv _ x => isInt (ρ x)
  | .convs x => match ρ x with
    | .str _ => True
    | _ => False
  | .mkfunc _ _ _ => True
  | .fieldAddr k off x => fieldAddrOk k off (ρ x)
  | .field k off x => aggOk k off (ρ x)
  | .ixS sz x i => isInt (ρ i) ∧ ixSOk sz (intV (ρ i)) (ρ x)
  | .ixA m sz k x i => isInt (ρ i) ∧ 0 ≤ intV (ρ i) ∧ intV (ρ i) < m ∧ fieldAddrOk k ((intV (ρ i)).toNat * sz) (ρ x)
  | .ixV m sz k x i => isInt (ρ i) ∧ 0 ≤ intV (ρ i) ∧ intV (ρ i) < m ∧ aggOk k ((intV (ρ i)).toNat * sz) (ρ x)
  | .ixStr x i => isInt (ρ i) ∧ match ρ x with
    | .str s => 0 ≤ intV (ρ i) ∧ intV (ρ i) < s.size
    | _ => False
  | .extract x i => match ρ x with
    | .tup vs => i < vs.length
    | _ => False
  | .len x => lenOk (ρ x)
  | .lenStr x => match ρ x with
    | .str _ => True
    | _ => False
  | .lenA _ _ => True
  | .mx l | .mn l => l.map ρ ≠ [] ∧ allInt (l.map ρ)
  | .mkiface _ _ => True
  | .assert t x => match ρ x with
    | .iface u _ => u = t
    | _ => False
  | .subStr x lo hi => bndOk ρ lo ∧ bndOk ρ hi ∧ match ρ x with
    | .str s => 0 ≤ bndV ρ 0 lo ∧ bndV ρ 0 lo ≤ bndV ρ s.size hi ∧ bndV ρ s.size hi ≤ s.size
    | _ => False
  | .subq sz x lo hi => bndOk ρ lo ∧ bndOk ρ hi ∧ match ρ x with
    | .slice sz' xs => (sz' = sz ∨ xs = []) ∧ 0 ≤ bndV ρ 0 lo ∧ bndV ρ 0 lo ≤ bndV ρ xs.length hi ∧ bndV ρ xs.length hi ≤ xs.length
    | .oslice sz' xs _ _ => sz' = sz ∧ 0 ≤ bndV ρ 0 lo ∧ bndV ρ 0 lo ≤ bndV ρ xs.length hi ∧ bndV ρ xs.length hi ≤ xs.length
    | _ => False
  | .lookup _ _ x i => match ρ x with
    | .map b => match σ.get b with
      | .amap es => ∀ e ∈ es, leafOk (ρ i) e.1 = true
      | _ => False
    | _ => False
  | _ => False
def AI.plain : AI → Bool
  | .mv _ | .build _ _ | .load _ _ | .nilchk _ | .bin _ _ _ | .eqb _ _ _ | .eqa _ _ _ _ | .un _ _ | .conv _ _ | .convs _ | .mkfunc _ _ _ | .fieldAddr _ _ _ | .field _ _ _ | .ixS _ _ _ | .ixA _ _ _ _ _
  | .ixV _ _ _ _ _ | .ixStr _ _ | .extract _ _ | .len _ | .lenStr _ | .lenA _ _ | .mx _ | .mn _ | .mkiface _ _ | .assert _ _ | .lookup _ _ _ _ | .subStr _ _ _ | .subq _ _ _ _ => true
  | .lit m _ _ _ => m == 0
  | _ => false
def AVal.unmint : AVal → AVal
  | .mint sz => .slice sz []
  | v => v
def mintL : List AVal → Nat → List AVal × List AObj
  | [], _ => ([], [])
  | .mint sz :: r, n => if sz < 1000 then (.oslice sz [] n 0 :: (mintL r (n + 1)).1, .spare sz 0 :: (mintL r (n + 1)).2)
      else (.sref (sz - 1000) n 0 0 0 :: (mintL r (n + 1)).1, .arr (sz - 1000) [] :: (mintL r (n + 1)).2)
  | v :: r, n => (v :: (mintL r n).1, (mintL r n).2)
def setElem (v : AVal) (f : Nat) (cells : List AVal) : AVal :=
  match v with
  | .agg cs => .agg (putCells cs f cells)
  | _ => cells.getD 0 .undef
def setElemOk (v : AVal) (f n : Nat) : Prop :=
  match v with
  | .agg cs => f + n ≤ cs.length
  | v => v.scal = true ∧ f = 0 ∧ n = 1
def storeOk (σ : AHeap) (sz : Nat) (v : AVal) : AVal → Prop
  | .ptr b off => cellsLen v sz ∧ allScal v.cells = true ∧ match σ.get b with
    | .box cs => off + sz ≤ cs.length
    | _ => False
  | .eptr esz b i f n => cellsLen v sz ∧ allScal v.cells = true ∧ match σ.get b with
    | .arr esz' xs => esz' = esz ∧ xs.length = n ∧ i < n ∧ setElemOk (xs.getD i .undef) f sz
    | _ => False
  | _ => False
def storeV (σ : AHeap) (v : AVal) : AVal → AHeap
  | .ptr b off => match σ.get b with
    | .box cs => σ.set b (.box (putCells cs off v.cells))
    | _ => σ
  | .eptr _ b i f _ => match σ.get b with
    | .arr esz xs => σ.set b (.arr esz (xs.set i (setElem (xs.getD i .undef) f v.cells)))
    | _ => σ
  | _ => σ
def pickV (c : Bool) (a b : AVal) : AVal :=
  match a, b with
  | .bool x, .bool y => .bool (if c = true then x else y)
  | _, _ => if c = true then a else b
def boolV : AVal → Bool
  | .bool b => b
  | _ => false
def isBool : AVal → Prop
  | .bool _ => True
  | _ => False
def Fits (sz : Nat) (ys : List AVal) : Prop := ∀ v ∈ ys, cellsLen v sz ∧ allScal v.cells = true
def appendW (sz bytes : Nat) (σ : AHeap) (x : AVal) (ys : List AVal) (K : AVal → AHeap → Prop) : Prop :=
  match x with
  | .oslice sz' xs b k => sz' = sz ∧ (xs.length + ys.length) * bytes ≤ 140737488355328 ∧ match σ.get b with
    | .spare sz'' k' => sz'' = sz ∧ k' = k ∧ K (.oslice sz (xs ++ ys) b (k + 1)) (σ.set b (.spare sz (k + 1)))
    | _ => False
  | .sref sz' b off len n => sz' = sz ∧ match σ.get b with
    | .arr sz'' xs => sz'' = sz ∧ xs.length = n ∧
        if off + len + ys.length ≤ n then K (.sref sz b off (len + ys.length) n) (σ.set b (.arr sz (xs.take (off + len) ++ ys ++ xs.drop (off + len + ys.length))))
        else off = 0 ∧ len = n ∧ (n + ys.length) * bytes ≤ 140737488355328 ∧ K (.sref sz b 0 (n + ys.length) (n + ys.length)) (σ.set b (.arr sz (xs ++ ys)))
    | _ => False
  | _ => False
def subW (m sz : Nat) (σ : AHeap) (x : AVal) (lo : Int) (hi : Int → Int) (mx : Option Int) (K : AVal → AHeap → Prop) : Prop :=
  let go (xs : List AVal) : Prop :=
    0 ≤ lo ∧ lo ≤ hi xs.length ∧ (match mx with
      | none => hi xs.length ≤ xs.length ∧ m = 0
      | some v => hi xs.length ≤ v ∧ v ≤ xs.length ∧ (m = 1 → v = hi xs.length) ∧ (m = 2 → v = 0)) ∧
    (if m = 0 then K (.slice sz ((xs.take (hi xs.length).toNat).drop lo.toNat)) σ
    else if m = 1 then K (.oslice sz ((xs.take (hi xs.length).toNat).drop lo.toNat) σ.length 0) (σ ++ [.spare sz 0])
    else m = 2 ∧ K (.sref sz σ.length 0 0 0) (σ ++ [.arr sz []]))
  match x with
  | .slice sz' xs => (sz' = sz ∨ xs = []) ∧ go xs
  | .oslice sz' xs _ _ => sz' = sz ∧ go xs
  | .sref sz' b off len n => sz' = sz ∧ m = 0 ∧ mx = none ∧ 0 ≤ lo ∧ lo ≤ hi len ∧ off + hi len ≤ n ∧ K (.sref sz b (off + lo.toNat) (hi len - lo).toNat n) σ
  | _ => False
def mkslW (m sz bytes : Nat) (σ : AHeap) (z : AVal) (n c : Int) (K : AVal → AHeap → Prop) : Prop :=
  0 ≤ n ∧ n ≤ c ∧ c * bytes ≤ 140737488355328 ∧ c ≤ 140737488355328 ∧
  (if m = 1 then n = 0 ∧ K (.oslice sz [] σ.length 0) (σ ++ [.spare sz 0])
  else if m = 2 then K (.sref sz σ.length 0 n.toNat n.toNat) (σ ++ [.arr sz (List.replicate n.toNat z)])
  else m = 0 ∧ K (.slice sz (List.replicate n.toNat z)) σ)
def clearW (sz : Nat) (σ : AHeap) (z : AVal) (x : AVal) (K : AVal → AHeap → Prop) : Prop :=
  match x with
  | .sref sz' b off len n => sz' = sz ∧ cellsLen z sz ∧ allScal z.cells = true ∧ match σ.get b with
    | .arr sz'' xs => sz'' = sz ∧ xs.length = n ∧ K (.tup []) (σ.set b (.arr sz (xs.take off ++ List.replicate len z ++ xs.drop (off + len))))
    | _ => False
  | _ => False
def copyW (sz : Nat) (σ : AHeap) (x : AVal) (ys : List AVal) (K : AVal → AHeap → Prop) : Prop :=
  match x with
  | .sref sz' b off len n => sz' = sz ∧ match σ.get b with
    | .arr sz'' xs => sz'' = sz ∧ xs.length = n ∧ K (.int .i64 (min ys.length len : Nat)) (σ.set b (.arr sz (xs.take off ++ ys.take len ++ xs.drop (off + min ys.length len))))
    | _ => False
  | _ => False
def rangeW (σ : AHeap) (x : AVal) (K : AVal → AHeap → Prop) : Prop :=
  match x with
  | .str y => K (.iter σ.length) (σ ++ [.siter y 0])
  | _ => False
def nextW (σ : AHeap) (x : AVal) (K : AVal → AHeap → Prop) : Prop :=
  match x with
  | .iter b => match σ.get b with
    | .siter y pos => if pos < y.size then K (.tup [.bool true, .int .i64 pos, .int .i32 (Utf8.decode y pos).1]) (σ.set b (.siter y (pos + (Utf8.decode y pos).2))) else K (.tup [.bool false]) σ
    | _ => False
  | _ => False
def freezeW (sz : Nat) (σ : AHeap) (x : AVal) (K : AVal → AHeap → Prop) : Prop :=
  match x with
  | .sref sz' b off len n => sz' = sz ∧ match σ.get b with
    | .arr sz'' xs => sz'' = sz ∧ xs.length = n ∧ K (.slice sz ((xs.drop off).take len)) (σ.set b .dead)
    | _ => False
  | _ => False
def subOW (sz : Nat) (σ : AHeap) (x lo : AVal) (K : AVal → AHeap → Prop) : Prop :=
  match x, lo with
  | .oslice sz' xs b k, .int _ n => sz' = sz ∧ 0 ≤ n ∧ n ≤ xs.length ∧ match σ.get b with
    | .spare sz'' k' => sz'' = sz ∧ k' = k ∧ K (.oslice sz (xs.drop n.toNat) b (k + 1)) (σ.set b (.spare sz (k + 1)))
    | _ => False
  | _, _ => False
/-! A table of the program. -/
def tabOf (g : Nat) : List (Nat × List (IntKind × Int)) → List (IntKind × Int)
  | [] => []
  | (h, cs) :: r => if h = g then cs else tabOf g r
def gixW (g : Nat) (σ : AHeap) (x : AVal) (K : AVal → AHeap → Prop) : Prop :=
  match x with
  | .int _ n => 0 ≤ n ∧ match (tabOf g laidTab)[n.toNat]? with
    | some (k, v) => K (.pval (.int k v)) σ
    | none => False
  | _ => False
def isnilW (neg : Bool) (σ : AHeap) (x : AVal) (K : AVal → AHeap → Prop) : Prop :=
  match x with
  | .niliface => K (.bool !neg) σ
  | .iface _ _ => K (.bool neg) σ
  | _ => False
/-! Is a slice nil? Of an empty one nobody knows. -/
def snilW (neg : Bool) (σ : AHeap) (x : AVal) (K : AVal → AHeap → Prop) : Prop :=
  match x with
  | .slice _ xs | .oslice _ xs _ _ => K (.bool neg) σ ∧ (xs = [] → K (.bool !neg) σ)
  | .sref _ _ _ len _ => K (.bool neg) σ ∧ (len = 0 → K (.bool !neg) σ)
  | _ => False
/-! Maps whose keys are numbers, strings or Booleans. -/
def keysOk (lk : LK) (k : AVal) : List (AVal × AVal) → Bool
  | [] => true
  | e :: r => leafIs lk k e.1 && keysOk lk k r
def mapGet (k : AVal) : List (AVal × AVal) → Option AVal
  | [] => none
  | e :: r => if leafEq k e.1 then some e.2 else mapGet k r
def mapPut (k v : AVal) : List (AVal × AVal) → List (AVal × AVal)
  | [] => [(k, v)]
  | e :: r => if leafEq k e.1 then (k, v) :: r else e :: mapPut k v r
def mgetV (ok : Bool) (z : AVal) : Option AVal → AVal
  | some v => if ok then .tup [v, .bool true] else v
  | none => if ok then .tup [z, .bool false] else z
def mgetW (ok : Bool) (lk : LK) (z : AVal) (σ : AHeap) (x k : AVal) (K : AVal → AHeap → Prop) : Prop :=
  match x with
  | .map b => match σ.get b with
    | .amap es => keysOk lk k es = true ∧ K (mgetV ok z (mapGet k es)) σ
    | _ => False
  | _ => False
def msetW (lk : LK) (σ : AHeap) (x k v : AVal) (K : AVal → AHeap → Prop) : Prop :=
  match x with
  | .map b => match σ.get b with
    | .amap es => keysOk lk k es = true ∧ K .undef (σ.set b (.amap (mapPut k v es)))
    | _ => False
  | _ => False
def AVal.down : AVal → AVal
  | .oslice sz xs _ _ => .slice sz xs
  | v => v
def AVal.deown : AVal → AVal
  | .agg cs => .agg (cs.map AVal.down)
  | v => v.down
def deowns : List Bool → List AVal → List AVal
  | true :: r, v :: l => v.deown :: deowns r l
  | _ :: r, v :: l => v :: deowns r l
  | [], l => l
  | _, [] => []
end Go.AM
