/- The tables of the program that this seat reads: those of math/bits. The abstract values, the abstract heap, how they stand for Go's values and memory, and how a state may go on. No program is .. -/
import GoSem.Claim
import Derived.CallsIn
import Derived.OrdersIn
import Derived.RangeFuncIn
import Derived.Below
namespace Go.AM
def F3:List (IntKind × Int):=[(.u8,0),(.u8,1),(.u8,28),(.u8,2),(.u8,29),(.u8,14),(.u8,24),(.u8,3),(.u8,30),(.u8,22),(.u8,20),(.u8,15),(.u8,25),(.u8,17),(.u8,4),(.u8,8),(.u8,31),(.u8,27),(.u8,13),(.u8,23),(.u8,21),(.u8,19),(.u8,16),(.u8,7),(.u8,26),(.u8,12),(.u8,18),(.u8,6),(.u8,11),(.u8,5),(.u8,10),(.u8,9)]
def GM:List (IntKind × Int):=[(.u8,0),(.u8,1),(.u8,56),(.u8,2),(.u8,57),(.u8,49),(.u8,28),(.u8,3),(.u8,61),(.u8,58),(.u8,42),(.u8,50),(.u8,38),(.u8,29),(.u8,17),(.u8,4),(.u8,62),(.u8,47),(.u8,59),(.u8,36),(.u8,45),(.u8,43),(.u8,51),(.u8,22),(.u8,53),(.u8,39),(.u8,33),(.u8,30),(.u8,24),(.u8,18),(.u8,12),(.u8,5),(.u8,63),(.u8,55),(.u8,48),(.u8,27),(.u8,60),(.u8,41),(.u8,37),(.u8,16),(.u8,46),(.u8,35),(.u8,44),(.u8,21),(.u8,52),(.u8,32),(.u8,23),(.u8,11),(.u8,54),(.u8,26),(.u8,40),(.u8,15),(.u8,34),(.u8,20),(.u8,31),(.u8,10),(.u8,25),(.u8,14),(.u8,19),(.u8,9),(.u8,13),(.u8,8),(.u8,7),(.u8,6)]
def eZ:List (Nat × List (IntKind × Int)):=[(0,F3),(1,GM)]
open Go.RowKit
inductive ab where
  | undef
  | bool (b:Bool)
  | int (k:IntKind) (n:Int)
  | str (x:ByteArray)
  | agg (cs:List ab)
  | tup (vs:List ab)
  | slice (sz:Nat) (xs:List ab)
  | oslice (sz:Nat) (xs:List ab) (b k:Nat)
  | sref (sz b off len n:Nat)
  | pval (v:ab)
  | ptr (b off:Nat)
  | eptr (sz b i f n:Nat)
  | nilptr
  | func (fn:Fn) (first caps:List ab)
  | nilfunc
  | iface (t:TypeId) (v:ab)
  | niliface
  | map (b:Nat)
  | nilmap
  | opt (g:Bool) (v:ab)
  | mint (sz:Nat)
  | iter (b:Nat)
  | yieldf (b:Nat)
  deriving Inhabited
def ab.cells:ab → List ab
  | .agg cs=>cs
  | v=>[v]
def ab.fB:ab → Bool
  | .undef | .agg _ | .tup _ | .opt _ _ | .mint _=>false
  | _=>true
abbrev Env:=List (Nat × ab)
def Env.get:Env → Nat → ab
  | [],_=>.undef
  | (m,v) :: r,n=>if m = n then v else Env.get r n
inductive bo where
  | dead
  | hole
  | box (cs:List ab)
  | arr (sz:Nat) (xs:List ab)
  | spare (sz k:Nat)
  | amap (es:List (ab × ab))
  | siter (x:ByteArray) (pos:Nat)
  | looprec (N:Nat) (e:Env) (ps:List Nat) (asg body:Code) (D:Nat) (st:LoopState) (pend:Option Code)
  | dfr
  deriving Inhabited
abbrev af:=List bo
structure St where
  h:af
  lam:Nat → Nat → Option Value
  S:Nat → Nat → Prop
  w:World
def oU (s:St) (blk off:Nat) (u:Value):Prop:=
  ∀ j (hj:j < u.cells.size),s.S blk (off + j) ∧ s.w.cell? ⟨blk,off + j,none⟩ = some u.cells[j]
inductive Rv (s:St):ab → Value → Prop
  | undef (c:Value):Rv s .undef c
  | bool (b:Bool):Rv s (.bool b) (.bool b)
  | int (k:IntKind) (n:Int):Rv s (.int k n) (.int k n)
  | str (x:ByteArray):Rv s (.str x) (.string x)
  | agg (cs:List ab) (vs:Array Value) (hl:vs.size = cs.length)
      (h:∀ j (h1:j < cs.length) (h2:j < vs.size),Rv s cs[j] vs[j]):Rv s (.agg cs) (.agg vs)
  | tup (cs:List ab) (vs:Array Value) (hl:vs.size = cs.length)
      (h:∀ j (h1:j < cs.length) (h2:j < vs.size),Rv s cs[j] vs[j]):Rv s (.tup cs) (.tuple vs)
  | slice0 (sz:Nat) (a:Option Addr) (cap:Nat):Rv s (.slice sz []) (.slice a 0 cap)
  | slice (sz:Nat) (xs:List ab) (blk off len cap:Nat) (us:List Value) (hl:us.length = xs.length) (hn:len = xs.length) (hc:len ≤ cap)
      (hr:∀ i (h1:i < xs.length) (h2:i < us.length),Rv s xs[i] us[i])
      (hm:∀ i (h2:i < us.length),us[i].cells.size = sz ∧ oU s blk (off + i * sz) us[i]) :
      Rv s (.slice sz xs) (.slice (some ⟨blk,off,none⟩) len cap)
  | oslice (sz:Nat) (xs:List ab) (b k:Nat) (c:Value) (hs:Rv s (.slice sz xs) c) (hl:s.lam b k = some c):Rv s (.oslice sz xs b k) c
  | sref (sz b off len n blk cap:Nat) (hl:s.lam b n = some (.slice (some ⟨blk,0,none⟩) n cap)) (h1:off + len ≤ n) (h2:n ≤ cap) :
      Rv s (.sref sz b off len n) (.slice (some ⟨blk,off * sz,none⟩) len (cap - off))
  | sref0 (sz b:Nat) (a:Option Addr) (hl:s.lam b 0 = some (.slice a 0 0)):Rv s (.sref sz b 0 0 0) (.slice a 0 0)
  | srefE (sz b off n:Nat) (a:Option Addr) (v:Value) (hl:s.lam b n = some v) (h0:0 < off) (h1:n ≤ off):Rv s (.sref sz b off 0 n) (.slice a 0 0)
  | pval (v:ab) (u:Value) (blk off:Nat) (hv:Rv s v u) (hm:oU s blk off u):Rv s (.pval v) (.pointer (some ⟨blk,off,none⟩))
  | ptr (b off blk:Nat) (hl:s.lam b 0 = some (.pointer (some ⟨blk,0,none⟩))):Rv s (.ptr b off) (.pointer (some ⟨blk,off,none⟩))
  | eptr (sz b i f n blk cap:Nat) (hl:s.lam b n = some (.slice (some ⟨blk,0,none⟩) n cap)) :
      Rv s (.eptr sz b i f n) (.pointer (some ⟨blk,i * sz + f,none⟩))
  | nilptr:Rv s .nilptr (.pointer none)
  | func (fn:Fn) (first caps:List ab) (fi ca:Array Value) (hf:fi.size = first.length) (hc:ca.size = caps.length)
      (h1:∀ j (a:j < first.length) (b:j < fi.size),Rv s first[j] fi[j])
      (h2:∀ j (a:j < caps.length) (b:j < ca.size),Rv s caps[j] ca[j]):Rv s (.func fn first caps) (.func fn fi ca)
  | nilfunc:Rv s .nilfunc .nilFunc
  | iface (t:TypeId) (v:ab) (u:Value) (h:Rv s v u):Rv s (.iface t v) (.iface t u)
  | niliface:Rv s .niliface .nilIface
  | map (b blk:Nat) (hl:s.lam b 0 = some (.map (some blk))):Rv s (.map b) (.map (some blk))
  | nilmap:Rv s .nilmap (.map none)
  | optT (v:ab) (c:Value) (h:Rv s v c):Rv s (.opt true v) c
  | optF (v:ab):Rv s (.opt false v) Go.undef
  | iter (b blk:Nat) (hl:s.lam b 0 = some (.pointer (some ⟨blk,0,none⟩))):Rv s (.iter b) (.pointer (some ⟨blk,0,none⟩))
  | yieldf (b blk:Nat) (hl:s.lam b 0 = some (.func (.yield blk) #[] #[])):Rv s (.yieldf b) (.func (.yield blk) #[] #[])
structure bf (s s':St):Prop where
  lam:∀ b k v,s.lam b k = some v → s'.lam b k = some v
  S:∀ blk o,s.S blk o → s'.S blk o
  cell:∀ blk o,s.S blk o → s'.w.cell? ⟨blk,o,none⟩ = s.w.cell? ⟨blk,o,none⟩
theorem bf.refl (s:St):bf s s:=⟨fun _ _ _ h=>h,fun _ _ h=>h,fun _ _ _=>rfl⟩
theorem bf.trans {a b c:St} (h:bf a b) (k:bf b c):bf a c:=
  ⟨fun x y v e=>k.lam x y v (h.lam x y v e),fun x o e=>k.S x o (h.S x o e),fun x o e=>(k.cell x o (h.S x o e)).trans (h.cell x o e)⟩
theorem oU.keeps {s s':St} (h:bf s s') {blk off:Nat} {u:Value} (hm:oU s blk off u):oU s' blk off u:=
  fun j hj=>⟨h.S _ _ (hm j hj).1,(h.cell _ _ (hm j hj).1).trans (hm j hj).2⟩
theorem Rv.keeps {s s':St} (h:bf s s') {v:ab} {c:Value} (r:Rv s v c):Rv s' v c:=by
  induction r with
  | undef c=>exact .undef c
  | bool b=>exact .bool b
  | int k n=>exact .int k n
  | str x=>exact .str x
  | agg cs vs hl _ ih=>exact .agg cs vs hl ih
  | tup cs vs hl _ ih=>exact .tup cs vs hl ih
  | slice0 sz a cap=>exact .slice0 sz a cap
  | slice sz xs blk off len cap us hl hn hc _ hm ih=>exact .slice sz xs blk off len cap us hl hn hc ih (fun i h2=>⟨(hm i h2).1,(hm i h2).2.keeps h⟩)
  | oslice sz xs b k c _ hl ih=>exact .oslice sz xs b k c ih (h.lam _ _ _ hl)
  | sref sz b off len n blk cap hl h1 h2=>exact .sref sz b off len n blk cap (h.lam _ _ _ hl) h1 h2
  | sref0 sz b a hl=>exact .sref0 sz b a (h.lam _ _ _ hl)
  | srefE sz b off n a v hl h0 h1=>exact .srefE sz b off n a v (h.lam _ _ _ hl) h0 h1
  | pval v u blk off _ hm ih=>exact .pval v u blk off ih (hm.keeps h)
  | ptr b off blk hl=>exact .ptr b off blk (h.lam _ _ _ hl)
  | eptr sz b i f n blk cap hl=>exact .eptr sz b i f n blk cap (h.lam _ _ _ hl)
  | nilptr=>exact .nilptr
  | func fn first caps fi ca hf hc _ _ ih1 ih2=>exact .func fn first caps fi ca hf hc ih1 ih2
  | nilfunc=>exact .nilfunc
  | iface t v u _ ih=>exact .iface t v u ih
  | niliface=>exact .niliface
  | map b blk hl=>exact .map b blk (h.lam _ _ _ hl)
  | nilmap=>exact .nilmap
  | optT v c _ ih=>exact .optT v c ih
  | optF v=>exact .optF v
  | iter b blk hl=>exact .iter b blk (h.lam _ _ _ hl)
  | yieldf b blk hl=>exact .yieldf b blk (h.lam _ _ _ hl)
def cL (s:St) (b:Nat):bo → Nat → Prop
  | .dead,_=>False
  | .hole,_=>False
  | .box _,blk=>s.lam b 0 = some (.pointer (some ⟨blk,0,none⟩))
  | .arr _ xs,blk=>∃ cap,0 < cap ∧ s.lam b xs.length = some (.slice (some ⟨blk,0,none⟩) xs.length cap)
  | .spare _ k,blk=>∃ off len cap,s.lam b k = some (.slice (some ⟨blk,off,none⟩) len cap) ∧ len < cap
  | .amap _,blk=>s.lam b 0 = some (.map (some blk))
  | .siter _ _,blk=>s.lam b 0 = some (.pointer (some ⟨blk,0,none⟩))
  | .looprec _ _ _ _ _ _ _ _,blk=>s.lam b 0 = some (.func (.yield blk) #[] #[])
  | .dfr,blk=>s.lam b 0 = some (.map (some blk))
def xK (s:St) (blk:Nat):Prop:=∃ b o,s.h[b]? = some o ∧ cL s b o blk
def kJ (s:St) (B:Nat) (b:Nat):bo → Prop
  | .dead=>True
  | .hole=>∀ k,s.lam b k = none
  | .box cs=>∃ (blk:Nat) (vs:Array Value) (el:TypeId),s.lam b 0 = some (.pointer (some ⟨blk,0,none⟩)) ∧ B ≤ blk ∧ s.w.heap[blk]? = some (.cells vs el (0,0)) ∧ vs.size = cs.length ∧
      (∀ j (h1:j < cs.length) (h2:j < vs.size),Rv s cs[j] vs[j]) ∧ ∀ o, ¬ s.S blk o
  | .arr sz xs=>(∀ k,xs.length < k → s.lam b k = none) ∧ ((xs = [] ∧ ∃ a,s.lam b 0 = some (.slice a 0 0)) ∨
      ∃ (blk cap:Nat) (vs:Array Value) (el:TypeId) (us:List Value),0 < cap ∧ s.lam b xs.length = some (.slice (some ⟨blk,0,none⟩) xs.length cap) ∧ B ≤ blk ∧ s.w.heap[blk]? = some (.cells vs el (0,0)) ∧
        vs.size = cap * sz ∧ xs.length ≤ cap ∧ us.length = xs.length ∧ (∀ i (h1:i < xs.length) (h2:i < us.length),Rv s xs[i] us[i] ∧ us[i].cells.size = sz) ∧
        (∀ i j (h2:i < us.length) (hj:j < us[i].cells.size),vs[i * sz + j]? = some us[i].cells[j]) ∧ ∀ o, ¬ s.S blk o)
  | .spare sz k=>(∀ k',k < k' → s.lam b k' = none) ∧ ∃ (a:Option Addr) (len cap:Nat),s.lam b k = some (.slice a len cap) ∧ len ≤ cap ∧ (len < cap → ∃ (blk off:Nat) (vs:Array Value) (el:TypeId),a = some ⟨blk,off,none⟩ ∧ B ≤ blk ∧
      s.w.heap[blk]? = some (.cells vs el (0,0)) ∧ off + cap * sz ≤ vs.size ∧ ∀ o,off + len * sz ≤ o → ¬ s.S blk o)
  | .amap es=>∃ (blk:Nat) (ms:Array MapEntry) (clock:Nat),s.lam b 0 = some (.map (some blk)) ∧ B ≤ blk ∧ s.w.heap[blk]? = some (.map ms clock) ∧ ms.size = es.length ∧
      (∀ j (h1:j < es.length) (h2:j < ms.size),Rv s es[j].1 ms[j].key ∧ Rv s es[j].2 ms[j].val) ∧ ∀ o, ¬ s.S blk o
  | .siter x pos=>∃ blk,s.lam b 0 = some (.pointer (some ⟨blk,0,none⟩)) ∧ B ≤ blk ∧ s.w.heap[blk]? = some (.stringIter x pos) ∧ ∀ o, ¬ s.S blk o
  | .looprec N e ps asg body D st pend=>∃ (blk:Nat) (l:Loop),s.lam b 0 = some (.func (.yield blk) #[] #[]) ∧ B ≤ blk ∧ s.w.heap[blk]? = some (.loop l) ∧
      (l.state = st ∧ l.pending = pend ∧ l.tmps.size = N ∧ l.params.toList = ps ∧ l.assign = asg ∧ l.body = body ∧ (∃ d,s.lam D 0 = some (.map (some d)) ∧ l.defers = d)) ∧
      (∀ t,Rv s (e.get t) (l.tmps.getD t Go.undef)) ∧ ∀ o, ¬ s.S blk o
  | .dfr=>∃ blk,s.lam b 0 = some (.map (some blk)) ∧ B ≤ blk ∧ s.w.heap[blk]? = some (.deferred (some [])) ∧ ∀ o, ¬ s.S blk o
def rT (s:St):Prop:=∀ g cs,(g,cs) ∈ eZ → ∀ j (h:j < cs.length),s.S g j ∧ s.w.cell? ⟨g,j,none⟩ = some (.int cs[j].1 cs[j].2)
theorem rT.keeps {s s':St} (h:bf s s') (hl:rT s):rT s':=
  fun g cs hm j hj=>⟨h.S _ _ (hl g cs hm j hj).1,(h.cell _ _ (hl g cs hm j hj).1).trans (hl g cs hm j hj).2⟩
structure Inv (A:World) (s:St):Prop where
  below:Below A.heap.size A s.w
  obj:∀ b o,s.h[b]? = some o → kJ s A.heap.size b o
  excl:∀ b b' o o' blk,s.h[b]? = some o → s.h[b']? = some o' → cL s b o blk → cL s b' o' blk → b = b'
  fresh:∀ b k,s.h.length ≤ b → s.lam b k = none
  scell:∀ blk o,s.S blk o → blk < s.w.heap.size
  laid:rT s
structure bB (s s':St):Prop where
  keeps:bf s s'
  size:s.w.heap.size ≤ s'.w.heap.size
  outside:∀ blk,blk < s.w.heap.size → ¬ xK s blk → s'.w.heap[blk]? = s.w.heap[blk]?
  ownFrom:∀ blk,xK s' blk → s.w.heap.size ≤ blk ∨ xK s blk
  sFrom:∀ blk o,s'.S blk o → s.S blk o ∨ s.w.heap.size ≤ blk ∨ xK s blk
theorem bB.refl (s:St):bB s s:=⟨.refl s,Nat.le_refl _,fun _ _ _=>rfl,fun _ h=>.inr h,fun _ _ h=>.inl h⟩
theorem bB.trans {a b c:St} (h:bB a b) (k:bB b c):bB a c where
  keeps:=h.keeps.trans k.keeps
  size:=Nat.le_trans h.size k.size
  outside:=fun blk hlt hno=>by
    refine (k.outside blk (Nat.lt_of_lt_of_le hlt h.size) ?_).trans (h.outside blk hlt hno)
    intro ho
    rcases h.ownFrom blk ho with h1 | h1
    · omega
    · exact hno h1
  ownFrom:=fun blk ho=>by
    rcases k.ownFrom blk ho with h1 | h1
    · exact .inl (Nat.le_trans h.size h1)
    · exact h.ownFrom blk h1
  sFrom:=fun blk o hs=>by
    rcases k.sFrom blk o hs with h1 | h1 | h1
    · exact h.sFrom blk o h1
    · exact .inr (.inl (Nat.le_trans h.size h1))
    · rcases h.ownFrom blk h1 with h2 | h2
      · exact .inr (.inl h2)
      · exact .inr (.inr h2)
open Go.RowKit
theorem cL.back {s s':St} {B b:Nat} {o:bo} {blk:Nat} (hk:bf s s') (ho:kJ s B b o) (h:cL s' b o blk):cL s b o blk:=by
  cases o with
  | dead=>exact h
  | hole=>exact h
  | box cs=>
    obtain ⟨bk,vs,el,hl,_⟩:=ho
    have h':s'.lam b 0 = some (.pointer (some ⟨blk,0,none⟩)):=h
    rw [hk.lam _ _ _ hl] at h'
    show s.lam b 0 = _
    rw [hl]; exact h'
  | arr sz xs=>
    obtain ⟨cap,h0,h'⟩:=h
    rcases ho.2 with ⟨hx,a,hl⟩ | ⟨bk,cp,vs,el,us,_,hl,_⟩
    · subst hx; rw [List.length_nil,hk.lam _ _ _ hl] at h'; simp at h'; omega
    · rw [hk.lam _ _ _ hl] at h'
      exact ⟨cap,h0,by rw [hl]; exact h'⟩
  | spare sz k=>
    obtain ⟨off,len,cap,h',hlt⟩:=h
    obtain ⟨_,a,len',cap',hl,_⟩:=ho
    rw [hk.lam _ _ _ hl] at h'
    exact ⟨off,len,cap,by rw [hl]; exact h',hlt⟩
  | amap es=>
    obtain ⟨bk,ms,clock,hl,_⟩:=ho
    have h':s'.lam b 0 = some (.map (some blk)):=h
    rw [hk.lam _ _ _ hl] at h'
    show s.lam b 0 = _
    rw [hl]; exact h'
  | siter x pos=>
    obtain ⟨bk,hl,_⟩:=ho
    have h':s'.lam b 0 = some (.pointer (some ⟨blk,0,none⟩)):=h
    rw [hk.lam _ _ _ hl] at h'
    show s.lam b 0 = _
    rw [hl]; exact h'
  | looprec N e ps asg body D st pend=>
    obtain ⟨bk,l,hl,_⟩:=ho
    have h':s'.lam b 0 = some (.func (.yield blk) #[] #[]):=h
    rw [hk.lam _ _ _ hl] at h'
    show s.lam b 0 = _
    rw [hl]; exact h'
  | dfr=>
    obtain ⟨bk,hl,_⟩:=ho
    have h':s'.lam b 0 = some (.map (some blk)):=h
    rw [hk.lam _ _ _ hl] at h'
    show s.lam b 0 = _
    rw [hl]; exact h'
theorem kJ.yy {s s':St} {B b:Nat} {o:bo} (hk:bf s s') (hheap:∀ blk,cL s b o blk → s'.w.heap[blk]? = s.w.heap[blk]?)
    (hS:∀ blk x,cL s b o blk → s'.S blk x → s.S blk x) (hl:∀ k,s'.lam b k = s.lam b k) (h:kJ s B b o):kJ s' B b o:=by
  cases o with
  | dead=>trivial
  | hole=>exact fun k=>(hl k).trans (h k)
  | box cs=>
    obtain ⟨blk,vs,el,hl,hB,hh,hsz,hr,hn⟩:=h
    exact ⟨blk,vs,el,hk.lam _ _ _ hl,hB,(hheap blk hl).trans hh,hsz,fun j h1 h2=>(hr j h1 h2).keeps hk,fun x hx=>hn x (hS blk x hl hx)⟩
  | arr sz xs=>
    obtain ⟨hno,h⟩:=h
    refine ⟨fun k hk'=>(hl k).trans (hno k hk'), ?_⟩
    rcases h with ⟨hx,a,hl⟩ | ⟨blk,cap,vs,el,us,h0,hl,hB,hh,hsz,hc,hu,hr,hv,hn⟩
    · exact .inl ⟨hx,a,hk.lam _ _ _ hl⟩
    · have ho:cL s b (.arr sz xs) blk:=⟨cap,h0,hl⟩
      exact .inr ⟨blk,cap,vs,el,us,h0,hk.lam _ _ _ hl,hB,(hheap blk ho).trans hh,hsz,hc,hu,fun i h1 h2=>⟨(hr i h1 h2).1.keeps hk,(hr i h1 h2).2⟩,hv,fun x hx=>hn x (hS blk x ho hx)⟩
  | spare sz k=>
    obtain ⟨hno,a,len,cap,hl',hle,hx⟩:=h
    refine ⟨fun k' hk'=>(hl k').trans (hno k' hk'),a,len,cap,hk.lam _ _ _ hl',hle,fun hlt=>?_⟩
    obtain ⟨blk,off,vs,el,ha,hB,hh,hsz,hn⟩:=hx hlt
    have ho:cL s b (.spare sz k) blk:=⟨off,len,cap,ha ▸ hl',hlt⟩
    exact ⟨blk,off,vs,el,ha,hB,(hheap blk ho).trans hh,hsz,fun x hx hs=>hn x hx (hS blk x ho hs)⟩
  | amap es=>
    obtain ⟨blk,ms,clock,hl,hB,hh,hsz,hr,hn⟩:=h
    exact ⟨blk,ms,clock,hk.lam _ _ _ hl,hB,(hheap blk hl).trans hh,hsz,fun j h1 h2=>⟨(hr j h1 h2).1.keeps hk,(hr j h1 h2).2.keeps hk⟩,fun x hx=>hn x (hS blk x hl hx)⟩
  | siter x pos=>
    obtain ⟨blk,hl,hB,hh,hn⟩:=h
    exact ⟨blk,hk.lam _ _ _ hl,hB,(hheap blk hl).trans hh,fun x hx=>hn x (hS blk x hl hx)⟩
  | looprec N e ps asg body D st pend=>
    obtain ⟨blk,l,hl',hB,hh,⟨h1,h2,h3,h4,h5,h6,d,h7,h8⟩,hr,hn⟩:=h
    exact ⟨blk,l,hk.lam _ _ _ hl',hB,(hheap blk hl').trans hh,⟨h1,h2,h3,h4,h5,h6,d,hk.lam _ _ _ h7,h8⟩,fun t=>(hr t).keeps hk,fun x hx=>hn x (hS blk x hl' hx)⟩
  | dfr=>
    obtain ⟨blk,hl,hB,hh,hn⟩:=h
    exact ⟨blk,hk.lam _ _ _ hl,hB,(hheap blk hl).trans hh,fun x hx=>hn x (hS blk x hl hx)⟩
theorem kJ.rb {s:St} {B b:Nat} {o:bo} {blk:Nat} (h:kJ s B b o) (ho:cL s b o blk):B ≤ blk ∧ blk < s.w.heap.size:=by
  have lt:∀ {o':Obj} {k:Nat},s.w.heap[k]? = some o' → k < s.w.heap.size:=fun e=>(Array.getElem?_eq_some_iff.1 e).1
  cases o with
  | dead=>exact ho.elim
  | hole=>exact ho.elim
  | box cs=>
    obtain ⟨bk,vs,el,hl,hB,hh,_⟩:=h
    have:bk = blk:=by have e:s.lam b 0 = _:=ho; rw [hl] at e; simpa using e
    subst this; exact ⟨hB,lt hh⟩
  | arr sz xs=>
    obtain ⟨cap,h0,e⟩:=ho
    rcases h.2 with ⟨hx,a,hl⟩ | ⟨bk,cp,vs,el,us,_,hl,hB,hh,_⟩
    · subst hx; rw [List.length_nil,hl] at e; simp at e; omega
    · have:bk = blk:=by rw [hl] at e; simp at e; exact e.1
      subst this; exact ⟨hB,lt hh⟩
  | spare sz k=>
    obtain ⟨off,len,cap,e,hlt⟩:=ho
    obtain ⟨_,a,len',cap',hl,_,hx⟩:=h
    rw [hl] at e
    simp at e
    obtain ⟨rfl,rfl,rfl⟩:=e
    obtain ⟨bk,off',vs,el,ha,hB,hh,_⟩:=hx hlt
    simp at ha
    obtain ⟨rfl,rfl⟩:=ha
    exact ⟨hB,lt hh⟩
  | amap es=>
    obtain ⟨bk,ms,clock,hl,hB,hh,_⟩:=h
    have:bk = blk:=by have e:s.lam b 0 = _:=ho; rw [hl] at e; simpa using e
    subst this; exact ⟨hB,lt hh⟩
  | siter x pos=>
    obtain ⟨bk,hl,hB,hh,_⟩:=h
    have:bk = blk:=by have e:s.lam b 0 = _:=ho; rw [hl] at e; simpa using e
    subst this; exact ⟨hB,lt hh⟩
  | looprec N e ps asg body D st pend=>
    obtain ⟨bk,l,hl,hB,hh,_⟩:=h
    have:bk = blk:=by have e:s.lam b 0 = _:=ho; rw [hl] at e; simpa using e
    subst this; exact ⟨hB,lt hh⟩
  | dfr=>
    obtain ⟨bk,hl,hB,hh,_⟩:=h
    have:bk = blk:=by have e:s.lam b 0 = _:=ho; rw [hl] at e; simpa using e
    subst this; exact ⟨hB,lt hh⟩
def wa (s:St) (b blk:Nat):Prop:=∃ o,s.h[b]? = some o ∧ cL s b o blk
theorem Inv.change {A:World} {s s':St} {b:Nat} {o':bo} (hi:Inv A s) (hb:b < s.h.length) (hh:s'.h = s.h.set b o') (hk:bf s s')
    (hbel:Below A.heap.size A s'.w) (hsz:s.w.heap.size ≤ s'.w.heap.size) (hlam:∀ b' k,b' ≠ b → s'.lam b' k = s.lam b' k)
    (hheap:∀ blk,blk < s.w.heap.size → ¬ wa s b blk → s'.w.heap[blk]? = s.w.heap[blk]?)
    (hobj:kJ s' A.heap.size b o') (hown:∀ blk,cL s' b o' blk → s.w.heap.size ≤ blk ∨ wa s b blk)
    (hS:∀ blk x,s'.S blk x → s.S blk x ∨ s.w.heap.size ≤ blk ∨ wa s b blk) (hSc:∀ blk x,s'.S blk x → blk < s'.w.heap.size) :
    Inv A s' ∧ bB s s':=by
  have hother:∀ b' o,b' ≠ b → s'.h[b']? = some o → s.h[b']? = some o:=fun b' o hne he=>by
    rw [hh,List.getElem?_set_ne (by omega)] at he; exact he
  have hself:∀ o,s'.h[b]? = some o → o = o':=fun o he=>by
    rw [hh,List.getElem?_set_self hb] at he; exact (Option.some.inj he).symm
  have hlt:∀ b' o blk,s.h[b']? = some o → cL s b' o blk → blk < s.w.heap.size:=fun b' o blk h1 h2=>((hi.obj b' o h1).rb h2).2
  have hnot:∀ b' o blk,b' ≠ b → s.h[b']? = some o → cL s b' o blk → ¬ wa s b blk:=fun b' o blk hne h1 h2 ⟨ob,h3,h4⟩=>hne (hi.excl b' b o ob blk h1 h3 h2 h4)
  refine ⟨⟨hbel, ?_, ?_, ?_,hSc,hi.laid.keeps hk⟩,⟨hk,hsz, ?_, ?_, ?_⟩⟩
  · intro b' o he
    by_cases hne:b' = b
    · subst hne; rw [hself o he]; exact hobj
    · have he':=hother b' o hne he
      refine (hi.obj b' o he').yy hk (fun blk ho=>hheap blk (hlt b' o blk he' ho) (hnot b' o blk hne he' ho)) (fun blk x ho hs=>?_) (fun k=>hlam b' k hne)
      rcases hS blk x hs with h1 | h1 | h1
      · exact h1
      · have:=hlt b' o blk he' ho; omega
      · exact absurd h1 (hnot b' o blk hne he' ho)
  · intro b1 b2 o1 o2 blk h1 h2 w1 w2
    by_cases e1:b1 = b <;> by_cases e2:b2 = b
    · rw [e1,e2]
    · subst e1
      have:=hself o1 h1; subst this
      have h2':=hother b2 o2 e2 h2
      have w2':=cL.back hk (hi.obj b2 o2 h2') w2
      rcases hown blk w1 with h3 | h3
      · have:=hlt b2 o2 blk h2' w2'; omega
      · exact absurd h3 (hnot b2 o2 blk e2 h2' w2')
    · subst e2
      have:=hself o2 h2; subst this
      have h1':=hother b1 o1 e1 h1
      have w1':=cL.back hk (hi.obj b1 o1 h1') w1
      rcases hown blk w2 with h3 | h3
      · have:=hlt b1 o1 blk h1' w1'; omega
      · exact absurd h3 (hnot b1 o1 blk e1 h1' w1')
    · have h1':=hother b1 o1 e1 h1
      have h2':=hother b2 o2 e2 h2
      exact hi.excl b1 b2 o1 o2 blk h1' h2' (cL.back hk (hi.obj b1 o1 h1') w1) (cL.back hk (hi.obj b2 o2 h2') w2)
  · intro b' k hle
    rw [hh,List.length_set] at hle
    rw [hlam b' k (by omega)]
    exact hi.fresh b' k hle
  · intro blk hl hno
    exact hheap blk hl fun ⟨ob,h1,h2⟩=>hno ⟨b,ob,h1,h2⟩
  · rintro blk ⟨b',o,h1,h2⟩
    by_cases hne:b' = b
    · subst hne
      have:=hself o h1; subst this
      rcases hown blk h2 with h3 | ⟨ob,h3,h4⟩
      · exact .inl h3
      · exact .inr ⟨b',ob,h3,h4⟩
    · have h1':=hother b' o hne h1
      exact .inr ⟨b',o,h1',cL.back hk (hi.obj b' o h1') h2⟩
  · intro blk x hs
    rcases hS blk x hs with h1 | h1 | ⟨ob,h3,h4⟩
    · exact .inl h1
    · exact .inr (.inl h1)
    · exact .inr (.inr ⟨b,ob,h3,h4⟩)
theorem Inv.grow {A:World} {s s':St} (hi:Inv A s) (hh:s'.h = s.h) (hl:s'.lam = s.lam) (hk:bf s s')
    (hbel:Below A.heap.size A s'.w) (hsz:s.w.heap.size ≤ s'.w.heap.size)
    (hheap:∀ blk,blk < s.w.heap.size → s'.w.heap[blk]? = s.w.heap[blk]?)
    (hS:∀ blk x,s'.S blk x → s.S blk x ∨ s.w.heap.size ≤ blk) (hSc:∀ blk x,s'.S blk x → blk < s'.w.heap.size):Inv A s' ∧ bB s s':=by
  have hlt:∀ b' o blk,s.h[b']? = some o → cL s b' o blk → blk < s.w.heap.size:=fun b' o blk h1 h2=>((hi.obj b' o h1).rb h2).2
  refine ⟨⟨hbel, ?_, ?_, ?_,hSc,hi.laid.keeps hk⟩,⟨hk,hsz,fun blk hl _=>hheap blk hl, ?_, ?_⟩⟩
  · intro b o he
    rw [hh] at he
    refine (hi.obj b o he).yy hk (fun blk ho=>hheap blk (hlt b o blk he ho)) (fun blk x ho hs=>?_) (fun k=>by rw [hl])
    rcases hS blk x hs with h1 | h1
    · exact h1
    · have:=hlt b o blk he ho; omega
  · intro b1 b2 o1 o2 blk h1 h2 w1 w2
    rw [hh] at h1 h2
    exact hi.excl b1 b2 o1 o2 blk h1 h2 (cL.back hk (hi.obj b1 o1 h1) w1) (cL.back hk (hi.obj b2 o2 h2) w2)
  · intro b k hle
    rw [hh] at hle; rw [hl]
    exact hi.fresh b k hle
  · rintro blk ⟨b,o,h1,h2⟩
    rw [hh] at h1
    exact .inr ⟨b,o,h1,cL.back hk (hi.obj b o h1) h2⟩
  · intro blk x hs
    rcases hS blk x hs with h1 | h1
    · exact .inl h1
    · exact .inr (.inl h1)
def St.more (s:St) (n:Nat):St:={ s with h:=s.h ++ List.replicate n .hole }
theorem Rv.more {s:St} {n:Nat} {v:ab} {c:Value} (h:Rv s v c):Rv (s.more n) v c:=
  Rv.keeps (s:=s) (s':=s.more n) ⟨fun _ _ _ e=>e,fun _ _ e=>e,fun _ _ _=>rfl⟩ h
theorem St.nX {s:St} {n b:Nat} {o:bo} (h:(s.more n).h[b]? = some o):s.h[b]? = some o ∨ o = .hole ∧ s.h.length ≤ b:=by
  simp only [St.more,List.getElem?_append] at h
  split at h
  · exact .inl h
  · simp [List.getElem?_replicate] at h; exact .inr ⟨h.2.symm,by omega⟩
theorem Inv.more {A:World} {s:St} (hi:Inv A s) (n:Nat):Inv A (s.more n) ∧ bB s (s.more n):=by
  have hk:bf s (s.more n):=⟨fun _ _ _ e=>e,fun _ _ e=>e,fun _ _ _=>rfl⟩
  refine ⟨⟨hi.below, ?_, ?_, ?_,hi.scell,hi.laid.keeps hk⟩,⟨hk,Nat.le_refl _,fun _ _ _=>rfl, ?_,fun _ _ h=>.inl h⟩⟩
  · intro b o he
    rcases St.nX he with h | h
    · exact (hi.obj b o h).yy hk (fun _ _=>rfl) (fun _ _ _ h=>h) (fun _=>rfl)
    · obtain ⟨rfl,hle⟩:=h; exact fun k=>hi.fresh _ _ hle
  · intro b1 b2 o1 o2 blk h1 h2 w1 w2
    rcases St.nX h1 with e1 | e1
    · rcases St.nX h2 with e2 | e2
      · exact hi.excl b1 b2 o1 o2 blk e1 e2 (cL.back hk (hi.obj b1 o1 e1) w1) (cL.back hk (hi.obj b2 o2 e2) w2)
      · obtain ⟨rfl,_⟩:=e2; exact w2.elim
    · obtain ⟨rfl,_⟩:=e1; exact w1.elim
  · intro b k hle
    simp only [St.more,List.length_append,List.length_replicate] at hle
    exact hi.fresh b k (by omega)
  · rintro blk ⟨b,o,h1,h2⟩
    rcases St.nX h1 with e1 | e1
    · exact .inr ⟨b,o,e1,cL.back hk (hi.obj b o e1) h2⟩
    · obtain ⟨rfl,_⟩:=e1; exact h2.elim
def bb (l:Nat → Nat → Option Value) (b k:Nat) (v:Value):Nat → Nat → Option Value:=fun b' k'=>if b' = b ∧ k' = k then some v else l b' k'
@[simp] theorem aF (l:Nat → Nat → Option Value) (b k:Nat) (v:Value):bb l b k v b k = some v:=by simp [bb]
theorem aH {l:Nat → Nat → Option Value} {b k b' k':Nat} {v:Value} (h:b' ≠ b ∨ k' ≠ k):bb l b k v b' k' = l b' k':=by
  unfold bb; rw [if_neg]; rintro ⟨rfl,rfl⟩; simp at h
theorem ba {l:Nat → Nat → Option Value} {b k:Nat} {v:Value} (h:l b k = none) (b' k':Nat) (u:Value) (hu:l b' k' = some u):bb l b k v b' k' = some u:=by
  unfold bb; split
  · rename_i e; obtain ⟨rfl,rfl⟩:=e; rw [h] at hu; cases hu
  · exact hu
theorem Inv.nP {A:World} {s:St} (hi:Inv A s) {b:Nat} (hb:s.h[b]? = some .hole) {cs:List ab} {vs:Array Value} (el:TypeId)
    (hsz:vs.size = cs.length) (hr:∀ j (h1:j < cs.length) (h2:j < vs.size),Rv s cs[j] vs[j]) :
    ∃ s',s'.h = s.h.set b (.box cs) ∧ s'.w = s.w.alloc (.cells vs el) ∧ Inv A s' ∧ bB s s' ∧ Rv s' (.ptr b 0) (.pointer (some ⟨s.w.heap.size,0,none⟩)) ∧ (∀ b' k,b' ≠ b → s'.lam b' k = s.lam b' k):=by
  have hblt:b < s.h.length:=(List.getElem?_eq_some_iff.1 hb).1
  have hl:∀ k,s.lam b k = none:=hi.obj b _ hb
  let s':St:={ h:=s.h.set b (.box cs),lam:=bb s.lam b 0 (.pointer (some ⟨s.w.heap.size,0,none⟩)),S:=s.S,w:=s.w.alloc (.cells vs el) }
  have hk:bf s s':=⟨ba (hl 0),fun _ _ h=>h,fun blk o hs=>World.cell?_alloc_lt _ _ (a:=⟨blk,o,none⟩) (hi.scell blk o hs)⟩
  have hnew:s'.w.heap[s.w.heap.size]? = some (.cells vs el (0,0)):=by show (s.w.heap.push _)[s.w.heap.size]? = _; simp
  have hgo:=hi.change (s':=s') hblt rfl hk (hi.below.alloc hi.below.size _) (by simp [s']) (fun b' k hne=>aH (.inl hne))
    (fun blk hlt _=>Below.heap_alloc _ _ _ hlt)
    ⟨s.w.heap.size,vs,el,aF _ _ _ _,hi.below.size,hnew,hsz,fun j h1 h2=>(hr j h1 h2).keeps hk,fun o hs=>by have:=hi.scell _ _ hs; omega⟩
    (fun blk ho=>by
      have e:bb s.lam b 0 (.pointer (some ⟨s.w.heap.size,0,none⟩)) b 0 = some (.pointer (some ⟨blk,0,none⟩)):=ho
      simp at e; left; omega)
    (fun blk x h=>.inl h) (fun blk x h=>by have:=hi.scell _ _ h; simp [s']; omega)
  exact ⟨s',rfl,rfl,hgo.1,hgo.2, .ptr b 0 _ (aF _ _ _ _),fun b' k hne=>aH (.inl hne)⟩
inductive aI where
  | t (n:Nat)
  | c (v:ab)
  | f (n:Nat)
  deriving Inhabited
inductive LK where
  | b | i | s
  deriving DecidableEq,Inhabited
inductive AI where
  | mv (x:aI)
  | pick (c a b:aI)
  | alloc (z:List ab)
  | box (n:Nat) (x:aI)
  | pbox (n:Nat) (x:aI)
  | loadd (k:Option Nat) (x:aI)
  | mvd (x:aI)
  | build (z:List ab) (parts:List (Nat × Nat × aI))
  | lit (m:Nat) (sz n:Nat) (parts:List (Nat × aI))
  | load (k:Option Nat) (x:aI)
  | store (sz:Nat) (x v:aI)
  | nilchk (x:aI)
  | bin (op:BinOp) (x y:aI)
  | eqb (neg:Bool) (x y:aI)
  | eqa (neg:Bool) (ks:List LK) (x y:aI)
  | un (op:UnOp) (x:aI)
  | conv (k:IntKind) (x:aI)
  | convs (x:aI)
  | mkfunc (fn:Fn) (first caps:List aI)
  | fieldAddr (k:Option Nat) (off:Nat) (x:aI)
  | field (k:Option Nat) (off:Nat) (x:aI)
  | ixS (sz:Nat) (x i:aI)
  | ixA (len sz:Nat) (k:Option Nat) (x i:aI)
  | ixV (len sz:Nat) (k:Option Nat) (x i:aI)
  | ixStr (x i:aI)
  | extract (x:aI) (i:Nat)
  | len (x:aI)
  | lenStr (x:aI)
  | lenA (n:Nat) (x:aI)
  | mx (l:List aI)
  | mn (l:List aI)
  | sub (m:Nat) (sz:Nat) (x:aI) (lo hi mx:Option aI)
  | subStr (x:aI) (lo hi:Option aI)
  | subq (sz:Nat) (x:aI) (lo hi:Option aI)
  | append (sz bytes:Nat) (x y:aI)
  | call (f:aI) (dn:List Bool) (args:List aI)
  | panic (x:aI)
  | mkiface (t:TypeId) (x:aI)
  | assert (t:TypeId) (x:aI)
  | range (x:aI)
  | next (x:aI)
  | mkmap
  | lookup (ok:Bool) (z:ab) (x i:aI)
  | mapset (x k v:aI)
  | mksl (m sz bytes:Nat) (z:ab) (n c:aI)
  | clear (sz:Nat) (z:ab) (x:aI)
  | copyB (sz:Nat) (x y:aI)
  | freeze (sz:Nat) (x:aI)
  | nilS (m sz:Nat)
  | buildm (z:List ab) (ps:List (Nat × Nat × aI))
  | storem (sz:Nat) (x:aI)
  | subO (sz:Nat) (x lo:aI)
  | isnil (neg:Bool) (x:aI)
  | callA (sz:Nat) (f:aI) (dn:List Bool) (args:List aI)
  | gix (g:Nat) (x:aI)
  | snil (neg:Bool) (x:aI)
  | mnew
  | mget (ok:Bool) (lk:LK) (z:ab) (x i:aI)
  | j5 (lk:LK) (x k v:aI)
  | other
  deriving Inhabited
structure aJ where
  d:Option Nat
  g:Option (Nat × Bool)
  i:AI
  deriving Inhabited
def Env.put (e:Env) (d:Option Nat) (v:ab):Env:=
  match d with
  | some d=>(d,v) :: e
  | none=>e
def Env.only (e:Env):List Nat → Env
  | []=>[]
  | n :: r=>(n,e.get n) :: Env.only e r
def ab.strip:ab → ab
  | .opt _ v=>v
  | v=>v
def ab.cond:ab → Bool
  | .opt g _=>g
  | _=>true
def opv (e:Env):aI → ab
  | .t n=>(e.get n).strip
  | .c v=>v
  | .f n=>.func (.func n) [] []
def opg (e:Env):aI → Bool
  | .t n=>(e.get n).cond
  | _=>true
def AI.opers:AI → List aI
  | .mv x | .box _ x | .pbox _ x | .loadd _ x | .mvd x | .load _ x | .nilchk x | .un _ x | .conv _ x | .convs x | .fieldAddr _ _ x | .field _ _ x | .extract x _ | .len x | .lenStr x | .panic x | .mkiface _ x | .assert _ x | .range x | .next x | .freeze _ x | .clear _ _ x | .isnil _ x | .gix _ x | .snil _ x=>[x]
  | .lenA _ _ | .alloc _ | .mkmap | .mnew | .nilS _ _ | .other=>[]
  | .pick c _ _=>[c]
  | .build _ ps=>ps.map (·.2.2)
  | .buildm _ ps=>ps.map (·.2.2)
  | .storem _ x=>[x]
  | .lit _ _ _ ps=>ps.map (·.2)
  | .store _ x y | .bin _ x y | .eqb _ x y | .eqa _ _ x y | .ixS _ x y | .ixA _ _ _ x y | .ixV _ _ _ x y | .ixStr x y | .append _ _ x y | .lookup _ _ x y | .subO _ x y | .mget _ _ _ x y | .mksl _ _ _ _ x y | .copyB _ x y=>[x,y]
  | .mkfunc _ a b=>a ++ b
  | .mx l | .mn l=>l
  | .sub _ _ x a b c=>x :: (a.toList ++ b.toList ++ c.toList)
  | .subStr x a b | .subq _ x a b=>x :: (a.toList ++ b.toList)
  | .call f _ l | .callA _ f _ l=>f :: l
  | .mapset x k v | .j5 _ x k v=>[x,k,v]
def gP (k:Option Nat) (cs:List ab) (off:Nat):ab:=
  match k with
  | none=>cs.getD off .undef
  | some n=>.agg ((cs.drop off).take n)
def eM (k:Option Nat) (cs:List ab) (off:Nat):Prop:=
  match k with
  | none=>off < cs.length ∧ (cs.getD off .undef).fB = true
  | some n=>off + n ≤ cs.length
def cd (cs:List ab) (off:Nat):List ab → List ab
  | []=>cs
  | v :: r=>cd (cs.set off v) (off + 1) r
def af.get (σ:af) (b:Nat):bo:=σ.getD b .dead
def ab.BE:ab → Bool
  | .agg _=>true
  | v=>v.fB
def lq (k:Option Nat) (σ:af):ab → ab
  | .pval v=>v
  | .ptr b off=>match σ.get b with
    | .box cs=>gP k cs off
    | _=>.undef
  | .eptr _ b i f _=>match σ.get b with
    | .arr _ xs=>gP k (xs.getD i .undef).cells f
    | _=>.undef
  | _=>.undef
def fc (k:Option Nat) (σ:af):ab → Prop
  | .pval v=>match k with
    | none=>v.fB = true
    | some n=>match v with
      | .agg cs=>cs.length = n
      | _=>False
  | .ptr b off=>match σ.get b with
    | .box cs=>eM k cs off
    | _=>False
  | .eptr sz b i f n=>match σ.get b with
    | .arr sz' xs=>sz' = sz ∧ xs.length = n ∧ i < n ∧ (xs.getD i .undef).BE = true ∧ eM k (xs.getD i .undef).cells f
    | _=>False
  | _=>False
def eB:List ab → Bool
  | []=>true
  | v :: r=>v.fB && eB r
def bA (v:ab) (n:Nat):Prop:=
  match v with
  | .agg cs=>cs.length = n
  | v=>v.fB = true ∧ n = 1
def oQ (z:List ab):List (Nat × List ab) → List ab
  | []=>z
  | (off,cs) :: r=>oQ (cd z off cs) r
def fh (n:Nat) (ρ:aI → ab):List (Nat × Nat × aI) → Prop
  | []=>True
  | (off,sz,x) :: r=>bA (ρ x) sz ∧ off + sz ≤ n ∧ fh n ρ r
def iA (ρ:aI → ab) (z:List ab):List (Nat × aI) → List ab
  | []=>z
  | (i,x) :: r=>iA ρ (z.set i (ρ x)) r
def iS (sz n:Nat) (ρ:aI → ab):List (Nat × aI) → Prop
  | []=>True
  | (i,x) :: r=>i < n ∧ bA (ρ x) sz ∧ iS sz n ρ r
def dv:ab → ab → Bool
  | .int _ a, .int _ b=>a == b
  | .str a, .str b=>a == b
  | .bool a, .bool b=>a == b
  | _,_=>false
def IH:ab → ab → Bool
  | .int j _, .int k _=>j == k
  | .str _, .str _=>true
  | .bool _, .bool _=>true
  | _,_=>false
def dY:LK → ab → ab → Bool
  | .i, .int j _, .int k _=>j == k
  | .s, .str _, .str _=>true
  | .b, .bool _, .bool _=>true
  | _,_,_=>false
def cB:List ab → List ab → Bool
  | x :: r,y :: t=>dv x y && cB r t
  | _,_=>true
def bp:List LK → List ab → List ab → Bool
  | [],[],[]=>true
  | k :: l,x :: r,y :: t=>dY k x y && bp l r t
  | _,_,_=>false
def Fq (op:BinOp) (k:IntKind) (a b:Int):Int:=
  match op with
  | .and=>k.wrap (BitVec.ofInt k.bits a &&& BitVec.ofInt k.bits b).toNat
  | .or=>k.wrap (BitVec.ofInt k.bits a ||| BitVec.ofInt k.bits b).toNat
  | .xor=>k.wrap (BitVec.ofInt k.bits a ^^^ BitVec.ofInt k.bits b).toNat
  | _=>k.wrap (BitVec.ofInt k.bits a &&& ~~~ (BitVec.ofInt k.bits b)).toNat
/-! The same, where both numbers are known: else the kernel would compute with unknown bits, and end in a depth. -/
def F0 (op:BinOp):Nat → IntKind → Int → Int → Int
  | 0=>Fq op
  | _ + 1=>Fq op
def LO (op:BinOp):Nat → Nat → IntKind → Int → Int → Int
  | 0=>F0 op
  | _ + 1=>F0 op
def wh (op:BinOp) (k:IntKind) (a b:Int):Int:=LO op a.natAbs b.natAbs k a b
theorem rl (op:BinOp) (k:IntKind) (a b:Int):wh op k a b = Fq op k a b:=by
  unfold wh
  cases a.natAbs <;> cases b.natAbs <;> rfl
def arith (op:BinOp) (k:IntKind) (a b:Int):ab:=
  match op with
  | .add=>.int k (k.wrap (a + b))
  | .sub=>.int k (k.wrap (a - b))
  | .mul=>.int k (k.wrap (a * b))
  | .quo=>.int k (k.wrap (a.tdiv b))
  | .rem=>.int k (a.tmod b)
  | .and=>.int k (wh .and k a b)
  | .or=>.int k (wh .or k a b)
  | .xor=>.int k (wh .xor k a b)
  | .andNot=>.int k (wh .andNot k a b)
  | .shl=>.int k (k.wrap (a * 2 ^ min b.toNat k.bits))
  | .shr=>.int k (a.fdiv (2 ^ min b.toNat k.bits))
  | .eql=>.bool (a == b)
  | .neq=>.bool (a != b)
  | .lss=>.bool (decide (a < b))
  | .leq=>.bool (decide (a ≤ b))
  | .gtr=>.bool (decide (a > b))
  | .geq=>.bool (decide (a ≥ b))
def vL (op:BinOp) (j k:IntKind) (b:Int):Prop:=
  match op with
  | .quo | .rem=>j = k ∧ b ≠ 0
  | .shl | .shr=>0 ≤ b
  | _=>j = k
def Ed (op:BinOp) (a b:ByteArray):ab:=
  match op with
  | .add=>.str (a ++ b)
  | .eql=>.bool (a.toList == b.toList)
  | .neq=>.bool (!(a.toList == b.toList))
  | .lss=>.bool (Op.bytesLess a.toList b.toList)
  | .leq=>.bool (Op.bytesLess a.toList b.toList || a.toList == b.toList)
  | .gtr=>.bool (!(Op.bytesLess a.toList b.toList || a.toList == b.toList))
  | .geq=>.bool (!Op.bytesLess a.toList b.toList)
  | _=>.undef
def v9 (op:BinOp) (a b:ByteArray):Prop:=
  match op with
  | .add=>((a.size + b.size:Nat):Int) ≤ IntKind.i64.max
  | .eql | .neq | .lss | .leq | .gtr | .geq=>True
  | _=>False
def Cr (op:BinOp):ab → ab → ab
  | .int k a, .int _ b=>arith op k a b
  | .str a, .str b=>Ed op a b
  | _,_=>.undef
def yE (op:BinOp):ab → ab → Prop
  | .int j _, .int k b=>vL op j k b
  | .str a, .str b=>v9 op a b
  | _,_=>False
def unV (op:UnOp):ab → ab
  | .bool b=>match op with
    | .not=>.bool (!b)
    | _=>.undef
  | .int k n=>match op with
    | .neg=>.int k (k.wrap (0 - n))
    | .xor=>.int k (k.wrap (BitVec.ofInt k.bits (if k.signed then -1 else k.max) ^^^ BitVec.ofInt k.bits n).toNat)
    | _=>.undef
  | _=>.undef
def ED (op:UnOp):ab → Prop
  | .bool _=>match op with
    | .not=>True
    | _=>False
  | .int _ _=>match op with
    | .neg | .xor=>True
    | _=>False
  | _=>False
def bI:ab → Int
  | .int _ n=>n
  | _=>0
def isInt:ab → Prop
  | .int _ _=>True
  | _=>False
def ab.elems (σ:af):ab → List ab
  | .slice _ xs=>xs
  | .oslice _ xs _ _=>xs
  | .sref _ b off len _=>match σ.get b with
    | .arr _ xs=>(xs.drop off).take len
    | _=>[]
  | _=>[]
def ab.fT (σ:af) (sz:Nat):ab → Prop
  | .slice sz' xs=>sz' = sz ∨ xs = []
  | .oslice sz' _ _ _=>sz' = sz
  | .sref sz' b _ _ n=>sz' = sz ∧ match σ.get b with
    | .arr sz'' xs=>sz'' = sz ∧ xs.length = n
    | _=>False
  | _=>False
def HA:ab → ab
  | .slice _ xs=>.int .i64 xs.length
  | .oslice _ xs _ _=>.int .i64 xs.length
  | .sref _ _ _ len _=>.int .i64 len
  | _=>.undef
def DP:ab → Prop
  | .slice _ _ | .oslice _ _ _ _ | .sref _ _ _ _ _=>True
  | _=>False
def HJ (n:Int):ab → ab
  | .slice _ xs=>.pval (xs.getD n.toNat .undef)
  | .oslice _ xs _ _=>.pval (xs.getD n.toNat .undef)
  | .sref sz b off _ m=>.eptr sz b (off + n.toNat) 0 m
  | _=>.undef
def Dy (sz:Nat) (n:Int):ab → Prop
  | .slice sz' xs=>sz' = sz ∧ 0 ≤ n ∧ n < xs.length
  | .oslice sz' xs _ _=>sz' = sz ∧ 0 ≤ n ∧ n < xs.length
  | .sref sz' _ _ len _=>sz' = sz ∧ 0 ≤ n ∧ n < len
  | _=>False
def j6 (k:Option Nat) (off:Nat):ab → ab
  | .pval (.agg cs)=>.pval (gP k cs off)
  | .ptr b o=>.ptr b (o + off)
  | .eptr sz b i f n=>.eptr sz b i (f + off) n
  | _=>.undef
def iR (k:Option Nat) (off:Nat):ab → Prop
  | .pval (.agg cs)=>eM k cs off
  | .ptr _ _ | .eptr _ _ _ _ _=>True
  | _=>False
def Fi (k:Option Nat) (off:Nat):ab → ab
  | .agg cs=>gP k cs off
  | _=>.undef
def AE (k:Option Nat) (off:Nat):ab → Prop
  | .agg cs=>eM k cs off
  | _=>False
def CB (x:ab) (y:ab):ab:=
  match x,y with
  | .int k a, .int _ b=>.int k (if b > a then b else a)
  | _,_=>.undef
def CG (x:ab) (y:ab):ab:=
  match x,y with
  | .int k a, .int _ b=>.int k (if b < a then b else a)
  | _,_=>.undef
def vR:List ab → Prop
  | []=>True
  | x :: r=>isInt x ∧ vR r
def aO (ρ:aI → ab) (d:Int):Option aI → Int
  | none=>d
  | some x=>bI (ρ x)
def df (ρ:aI → ab):Option aI → Prop
  | none=>True
  | some x=>isInt (ρ x)
def AI.val (ρ:aI → ab) (σ:af):AI → ab
  | .mv x=>ρ x
  | .build z ps=>.agg (oQ z (ps.map fun p=>(p.1,(ρ p.2.2).cells)))
  | .lit _ sz n ps=>.slice sz (iA ρ (List.replicate n .undef) ps)
  | .load k x=>lq k σ (ρ x)
  | .nilchk x=>ρ x
  | .bin op x y=>Cr op (ρ x) (ρ y)
  | .eqb neg x y=>match ρ x,ρ y with
    | .bool a, .bool b=>.bool (neg != (a == b))
    | _,_=>.undef
  | .eqa neg _ x y=>match ρ x,ρ y with
    | .agg a, .agg b=>.bool (neg != cB a b)
    | _,_=>.undef
  | .un op x=>unV op (ρ x)
  | .conv k x=>.int k (k.wrap (bI (ρ x)))
  | .convs x=>ρ x
  | .mkfunc fn first caps=>.func fn (first.map ρ) (caps.map ρ)
  | .fieldAddr k off x=>j6 k off (ρ x)
  | .field k off x=>Fi k off (ρ x)
  | .ixS _ x i=>HJ (bI (ρ i)) (ρ x)
  | .ixA _ sz k x i=>j6 k ((bI (ρ i)).toNat * sz) (ρ x)
  | .ixV _ sz k x i=>Fi k ((bI (ρ i)).toNat * sz) (ρ x)
  | .ixStr x i=>match ρ x with
    | .str s=>.int .u8 (s.data.getD (bI (ρ i)).toNat 0).toNat
    | _=>.undef
  | .extract x i=>match ρ x with
    | .tup vs=>vs.getD i .undef
    | _=>.undef
  | .len x=>HA (ρ x)
  | .lenStr x=>match ρ x with
    | .str s=>.int .i64 s.size
    | _=>.undef
  | .lenA n _=>.int .i64 n
  | .mx l=>match l.map ρ with
    | []=>.undef
    | x :: r=>r.foldl CB x
  | .mn l=>match l.map ρ with
    | []=>.undef
    | x :: r=>r.foldl CG x
  | .mkiface t x=>.iface t (ρ x)
  | .assert _ x=>match ρ x with
    | .iface _ v=>v
    | _=>.undef
  | .subStr x lo hi=>match ρ x with
    | .str s=>.str (s.extract (aO ρ 0 lo).toNat (aO ρ s.size hi).toNat)
    | _=>.undef
  | .subq sz x lo hi=>match ρ x with
    | .slice _ xs=>.slice sz ((xs.take (aO ρ xs.length hi).toNat).drop (aO ρ 0 lo).toNat)
    | .oslice _ xs _ _=>.slice sz ((xs.take (aO ρ xs.length hi).toNat).drop (aO ρ 0 lo).toNat)
    | _=>.undef
  | .lookup ok z x i=>match ρ x with
    | .map b=>match σ.get b with
      | .amap es=>match es.find? (fun e=>dv (ρ i) e.1) with
        | some e=>if ok then .tup [e.2, .bool true] else e.2
        | none=>if ok then .tup [z, .bool false] else z
      | _=>.undef
    | _=>.undef
  | _=>.undef
def AI.side (ρ:aI → ab) (σ:af):AI → Prop
  | .mv _=>True
  | .build z ps=>fh z.length ρ ps
  | .lit m sz n ps=>m = 0 ∧ iS sz n ρ ps
  | .load k x=>fc k σ (ρ x)
  | .nilchk x=>match ρ x with
    | .pval _ | .ptr _ _ | .eptr _ _ _ _ _ | .func (.func _) _ _=>True
    | _=>False
  | .bin op x y=>yE op (ρ x) (ρ y)
  | .eqb _ x y=>match ρ x,ρ y with
    | .bool _, .bool _=>True
    | _,_=>False
  | .eqa _ ks x y=>match ρ x,ρ y with
    | .agg a, .agg b=>bp ks a b = true
    | _,_=>False
  | .un op x=>ED op (ρ x)
  | .conv _ x=>isInt (ρ x)
  | .convs x=>match ρ x with
    | .str _=>True
    | _=>False
  | .mkfunc _ _ _=>True
  | .fieldAddr k off x=>iR k off (ρ x)
  | .field k off x=>AE k off (ρ x)
  | .ixS sz x i=>isInt (ρ i) ∧ Dy sz (bI (ρ i)) (ρ x)
  | .ixA m sz k x i=>isInt (ρ i) ∧ 0 ≤ bI (ρ i) ∧ bI (ρ i) < m ∧ iR k ((bI (ρ i)).toNat * sz) (ρ x)
  | .ixV m sz k x i=>isInt (ρ i) ∧ 0 ≤ bI (ρ i) ∧ bI (ρ i) < m ∧ AE k ((bI (ρ i)).toNat * sz) (ρ x)
  | .ixStr x i=>isInt (ρ i) ∧ match ρ x with
    | .str s=>0 ≤ bI (ρ i) ∧ bI (ρ i) < s.size
    | _=>False
  | .extract x i=>match ρ x with
    | .tup vs=>i < vs.length
    | _=>False
  | .len x=>DP (ρ x)
  | .lenStr x=>match ρ x with
    | .str _=>True
    | _=>False
  | .lenA _ _=>True
  | .mx l | .mn l=>l.map ρ ≠ [] ∧ vR (l.map ρ)
  | .mkiface _ _=>True
  | .assert t x=>match ρ x with
    | .iface u _=>u = t
    | _=>False
  | .subStr x lo hi=>df ρ lo ∧ df ρ hi ∧ match ρ x with
    | .str s=>0 ≤ aO ρ 0 lo ∧ aO ρ 0 lo ≤ aO ρ s.size hi ∧ aO ρ s.size hi ≤ s.size
    | _=>False
  | .subq sz x lo hi=>df ρ lo ∧ df ρ hi ∧ match ρ x with
    | .slice sz' xs=>(sz' = sz ∨ xs = []) ∧ 0 ≤ aO ρ 0 lo ∧ aO ρ 0 lo ≤ aO ρ xs.length hi ∧ aO ρ xs.length hi ≤ xs.length
    | .oslice sz' xs _ _=>sz' = sz ∧ 0 ≤ aO ρ 0 lo ∧ aO ρ 0 lo ≤ aO ρ xs.length hi ∧ aO ρ xs.length hi ≤ xs.length
    | _=>False
  | .lookup _ _ x i=>match ρ x with
    | .map b=>match σ.get b with
      | .amap es=>∀ e ∈ es,IH (ρ i) e.1 = true
      | _=>False
    | _=>False
  | _=>False
def AI.plain:AI → Bool
  | .mv _ | .build _ _ | .load _ _ | .nilchk _ | .bin _ _ _ | .eqb _ _ _ | .eqa _ _ _ _ | .un _ _ | .conv _ _ | .convs _ | .mkfunc _ _ _ | .fieldAddr _ _ _ | .field _ _ _ | .ixS _ _ _ | .ixA _ _ _ _ _
  | .ixV _ _ _ _ _ | .ixStr _ _ | .extract _ _ | .len _ | .lenStr _ | .lenA _ _ | .mx _ | .mn _ | .mkiface _ _ | .assert _ _ | .lookup _ _ _ _ | .subStr _ _ _ | .subq _ _ _ _=>true
  | .lit m _ _ _=>m == 0
  | _=>false
def ab.gK:ab → ab
  | .mint sz=>.slice sz []
  | v=>v
def bZ:List ab → Nat → List ab × List bo
  | [],_=>([],[])
  | .mint sz :: r,n=>if sz < 1000 then (.oslice sz [] n 0 :: (bZ r (n + 1)).1, .spare sz 0 :: (bZ r (n + 1)).2)
      else (.sref (sz - 1000) n 0 0 0 :: (bZ r (n + 1)).1, .arr (sz - 1000) [] :: (bZ r (n + 1)).2)
  | v :: r,n=>(v :: (bZ r n).1,(bZ r n).2)
def lJ (v:ab) (f:Nat) (cells:List ab):ab:=
  match v with
  | .agg cs=>.agg (cd cs f cells)
  | _=>cells.getD 0 .undef
def lH (v:ab) (f n:Nat):Prop:=
  match v with
  | .agg cs=>f + n ≤ cs.length
  | v=>v.fB = true ∧ f = 0 ∧ n = 1
def fR (σ:af) (sz:Nat) (v:ab):ab → Prop
  | .ptr b off=>bA v sz ∧ eB v.cells = true ∧ match σ.get b with
    | .box cs=>off + sz ≤ cs.length
    | _=>False
  | .eptr esz b i f n=>bA v sz ∧ eB v.cells = true ∧ match σ.get b with
    | .arr esz' xs=>esz' = esz ∧ xs.length = n ∧ i < n ∧ lH (xs.getD i .undef) f sz
    | _=>False
  | _=>False
def ju (σ:af) (v:ab):ab → af
  | .ptr b off=>match σ.get b with
    | .box cs=>σ.set b (.box (cd cs off v.cells))
    | _=>σ
  | .eptr _ b i f _=>match σ.get b with
    | .arr esz xs=>σ.set b (.arr esz (xs.set i (lJ (xs.getD i .undef) f v.cells)))
    | _=>σ
  | _=>σ
def Aj (c:Bool) (a b:ab):ab:=
  match a,b with
  | .bool x, .bool y=>.bool (if c = true then x else y)
  | _,_=>if c = true then a else b
def uS:ab → Bool
  | .bool b=>b
  | _=>false
def isBool:ab → Prop
  | .bool _=>True
  | _=>False
def Fits (sz:Nat) (ys:List ab):Prop:=∀ v ∈ ys,bA v sz ∧ eB v.cells = true
def lL (sz bytes:Nat) (σ:af) (x:ab) (ys:List ab) (K:ab → af → Prop):Prop:=
  match x with
  | .oslice sz' xs b k=>sz' = sz ∧ (xs.length + ys.length) * bytes ≤ 140737488355328 ∧ match σ.get b with
    | .spare sz'' k'=>sz'' = sz ∧ k' = k ∧ K (.oslice sz (xs ++ ys) b (k + 1)) (σ.set b (.spare sz (k + 1)))
    | _=>False
  | .sref sz' b off len n=>sz' = sz ∧ match σ.get b with
    | .arr sz'' xs=>sz'' = sz ∧ xs.length = n ∧
        if off + len + ys.length ≤ n then K (.sref sz b off (len + ys.length) n) (σ.set b (.arr sz (xs.take (off + len) ++ ys ++ xs.drop (off + len + ys.length))))
        else off = 0 ∧ len = n ∧ (n + ys.length) * bytes ≤ 140737488355328 ∧ K (.sref sz b 0 (n + ys.length) (n + ys.length)) (σ.set b (.arr sz (xs ++ ys)))
    | _=>False
  | _=>False
def I2 (m sz:Nat) (σ:af) (x:ab) (lo:Int) (hi:Int → Int) (mx:Option Int) (K:ab → af → Prop):Prop:=
  let go (xs:List ab):Prop:=
    0 ≤ lo ∧ lo ≤ hi xs.length ∧ (match mx with
      | none=>hi xs.length ≤ xs.length ∧ m = 0
      | some v=>hi xs.length ≤ v ∧ v ≤ xs.length ∧ (m = 1 → v = hi xs.length) ∧ (m = 2 → v = 0)) ∧
    (if m = 0 then K (.slice sz ((xs.take (hi xs.length).toNat).drop lo.toNat)) σ
    else if m = 1 then K (.oslice sz ((xs.take (hi xs.length).toNat).drop lo.toNat) σ.length 0) (σ ++ [.spare sz 0])
    else m = 2 ∧ K (.sref sz σ.length 0 0 0) (σ ++ [.arr sz []]))
  match x with
  | .slice sz' xs=>(sz' = sz ∨ xs = []) ∧ go xs
  | .oslice sz' xs _ _=>sz' = sz ∧ go xs
  | .sref sz' b off len n=>sz' = sz ∧ m = 0 ∧ mx = none ∧ 0 ≤ lo ∧ lo ≤ hi len ∧ off + hi len ≤ n ∧ K (.sref sz b (off + lo.toNat) (hi len - lo).toNat n) σ
  | _=>False
def CE (m sz bytes:Nat) (σ:af) (z:ab) (n c:Int) (K:ab → af → Prop):Prop:=
  0 ≤ n ∧ n ≤ c ∧ c * bytes ≤ 140737488355328 ∧ c ≤ 140737488355328 ∧
  (if m = 1 then n = 0 ∧ K (.oslice sz [] σ.length 0) (σ ++ [.spare sz 0])
  else if m = 2 then K (.sref sz σ.length 0 n.toNat n.toNat) (σ ++ [.arr sz (List.replicate n.toNat z)])
  else m = 0 ∧ K (.slice sz (List.replicate n.toNat z)) σ)
def zA (sz:Nat) (σ:af) (z:ab) (x:ab) (K:ab → af → Prop):Prop:=
  match x with
  | .sref sz' b off len n=>sz' = sz ∧ bA z sz ∧ eB z.cells = true ∧ match σ.get b with
    | .arr sz'' xs=>sz'' = sz ∧ xs.length = n ∧ K (.tup []) (σ.set b (.arr sz (xs.take off ++ List.replicate len z ++ xs.drop (off + len))))
    | _=>False
  | _=>False
def Da (sz:Nat) (σ:af) (x:ab) (ys:List ab) (K:ab → af → Prop):Prop:=
  match x with
  | .sref sz' b off len n=>sz' = sz ∧ match σ.get b with
    | .arr sz'' xs=>sz'' = sz ∧ xs.length = n ∧ K (.int .i64 (min ys.length len:Nat)) (σ.set b (.arr sz (xs.take off ++ ys.take len ++ xs.drop (off + min ys.length len))))
    | _=>False
  | _=>False
def v8 (σ:af) (x:ab) (K:ab → af → Prop):Prop:=
  match x with
  | .str y=>K (.iter σ.length) (σ ++ [.siter y 0])
  | _=>False
def AP (σ:af) (x:ab) (K:ab → af → Prop):Prop:=
  match x with
  | .iter b=>match σ.get b with
    | .siter y pos=>if pos < y.size then K (.tup [.bool true, .int .i64 pos, .int .i32 (Utf8.decode y pos).1]) (σ.set b (.siter y (pos + (Utf8.decode y pos).2))) else K (.tup [.bool false]) σ
    | _=>False
  | _=>False
def vB (sz:Nat) (σ:af) (x:ab) (K:ab → af → Prop):Prop:=
  match x with
  | .sref sz' b off len n=>sz' = sz ∧ match σ.get b with
    | .arr sz'' xs=>sz'' = sz ∧ xs.length = n ∧ K (.slice sz ((xs.drop off).take len)) (σ.set b .dead)
    | _=>False
  | _=>False
def Di (sz:Nat) (σ:af) (x lo:ab) (K:ab → af → Prop):Prop:=
  match x,lo with
  | .oslice sz' xs b k, .int _ n=>sz' = sz ∧ 0 ≤ n ∧ n ≤ xs.length ∧ match σ.get b with
    | .spare sz'' k'=>sz'' = sz ∧ k' = k ∧ K (.oslice sz (xs.drop n.toNat) b (k + 1)) (σ.set b (.spare sz (k + 1)))
    | _=>False
  | _,_=>False
/-! A table of the program. -/
def jz (g:Nat):List (Nat × List (IntKind × Int)) → List (IntKind × Int)
  | []=>[]
  | (h,cs) :: r=>if h = g then cs else jz g r
def Iy (g:Nat) (σ:af) (x:ab) (K:ab → af → Prop):Prop:=
  match x with
  | .int _ n=>0 ≤ n ∧ match (jz g eZ)[n.toNat]? with
    | some (k,v)=>K (.pval (.int k v)) σ
    | none=>False
  | _=>False
def zD (neg:Bool) (σ:af) (x:ab) (K:ab → af → Prop):Prop:=
  match x with
  | .niliface=>K (.bool !neg) σ
  | .iface _ _=>K (.bool neg) σ
  | _=>False
/-! Is a slice nil? Of an empty one nobody knows. -/
def Am (neg:Bool) (σ:af) (x:ab) (K:ab → af → Prop):Prop:=
  match x with
  | .slice _ xs | .oslice _ xs _ _=>K (.bool neg) σ ∧ (xs = [] → K (.bool !neg) σ)
  | .sref _ _ _ len _=>K (.bool neg) σ ∧ (len = 0 → K (.bool !neg) σ)
  | _=>False
/-! Maps whose keys are numbers, strings or Booleans. -/
def kj (lk:LK) (k:ab):List (ab × ab) → Bool
  | []=>true
  | e :: r=>dY lk k e.1 && kj lk k r
def gz (k:ab):List (ab × ab) → Option ab
  | []=>none
  | e :: r=>if dv k e.1 then some e.2 else gz k r
def gE (k v:ab):List (ab × ab) → List (ab × ab)
  | []=>[(k,v)]
  | e :: r=>if dv k e.1 then (k,v) :: r else e :: gE k v r
def sB (ok:Bool) (z:ab):Option ab → ab
  | some v=>if ok then .tup [v, .bool true] else v
  | none=>if ok then .tup [z, .bool false] else z
def Az (ok:Bool) (lk:LK) (z:ab) (σ:af) (x k:ab) (K:ab → af → Prop):Prop:=
  match x with
  | .map b=>match σ.get b with
    | .amap es=>kj lk k es = true ∧ K (sB ok z (gz k es)) σ
    | _=>False
  | _=>False
def Ah (lk:LK) (σ:af) (x k v:ab) (K:ab → af → Prop):Prop:=
  match x with
  | .map b=>match σ.get b with
    | .amap es=>kj lk k es = true ∧ K .undef (σ.set b (.amap (gE k v es)))
    | _=>False
  | _=>False
def ab.down:ab → ab
  | .oslice sz xs _ _=>.slice sz xs
  | v=>v
def ab.mj:ab → ab
  | .agg cs=>.agg (cs.map ab.down)
  | v=>v.down
def bC:List Bool → List ab → List ab
  | true :: r,v :: l=>v.mj :: bC r l
  | _ :: r,v :: l=>v :: bC r l
  | [],l=>l
  | _,[]=>[]
end Go.AM
