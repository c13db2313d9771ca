/- A function's contract by one check; a contract in an empty heap serves in every heap. The conditions of the instructions az Booleans, and what an instruction comes to, computed. -/
import Derived.Test.YtcdfnopkemadjaaGreatDoorP14
import Derived.KernelRfl
namespace Go.AM
open Go.RowKit
def an (P:Program) (fn:Func) (N:Nat) (ac:AC) (rs:List (Nat × Option (Option Nat))):Bool:=
 decide (fn.ntmps = N) && dJ P rs fn.results.toList && match fn.body with
  | some c=>bd P N ac c
  | none=>false
theorem Spec.pG {P:Program} {f:FuncId} {fn:Func} {N:Nat} {ac:AC} {rs:List (Nat × Option (Option Nat))} {args:List aa} {σ:ab} {R:bh → ab → Prop} (hfn:P.funcs[f]? = some fn)
  (hc:an P fn N ac rs = true) (ha:args.length ≤ N) (h:AW P N none ac (o6 rs R) { v:=bF args 0,ds:=[] } σ):Spec P f args σ R:=by
 simp only [an,Bool.and_eq_true,decide_eq_true_eq] at hc;obtain ⟨⟨h1,h2⟩,h3⟩:=hc
 cases hb:fn.body with
 | none=>rw [hb] at h3; cases h3
 | some c=>rw [hb] at h3; exact Spec.Ii hfn hb h1 h3 h2 ha h
theorem ez:∀ {l:List aa},cF l = true → ∀ j (h:j < l.length),l[j].pure = true
 | v :: r,h,0,_=>by simp only [cF,Bool.and_eq_true] at h; exact h.1
 | v :: r,h,j + 1,hj=>by simp only [cF,Bool.and_eq_true] at h; simpa using ez h.2 j (by simpa using hj)
theorem Rv.lY {s s':St} (hS:∀ blk o,s.S blk o → s'.S blk o) (hc:∀ blk o,s.S blk o → s'.w.cell? ⟨blk,o,none⟩ = s.w.cell? ⟨blk,o,none⟩) {v:aa} {c:Value} (h:Rv s v c) (hp:v.pure = true):Rv s' v c:=by
 have hm:∀ {blk off:Nat} {u:Value},jH s blk off u → jH s' blk off u:=fun hm j hj=>⟨hS _ _ (hm j hj).1,(hc _ _ (hm j hj).1).trans (hm j hj).2⟩
 induction h with
 | undef c=>exact .undef c
 | bool b=>exact .bool b
 | int k n=>exact .int k n
 | str x=>exact .str x
 | agg cs vs hl _ ih=>exact .agg cs vs hl fun j h1 h2=>ih j h1 h2 (ez (by simpa [aa.pure] using hp) j h1)
 | tup cs vs hl _ ih=>exact .tup cs vs hl fun j h1 h2=>ih j h1 h2 (ez (by simpa [aa.pure] using hp) j h1)
 | slice0 sz a cap=>exact .slice0 sz a cap
 | slice sz xs blk off len cap us hl hn hcp _ hm' ih=>exact .slice sz xs blk off len cap us hl hn hcp (fun i h1 h2=>ih i h1 h2 (ez (by simpa [aa.pure] using hp) i h1)) (fun i h2=>⟨(hm' i h2).1,hm (hm' i h2).2⟩)
 | pval v u blk off _ hm' ih=>exact .pval v u blk off (ih (by simpa [aa.pure] using hp)) (hm hm')
 | nilptr=>exact .nilptr
 | func fn first caps fi ca hf hc' _ _ ih1 ih2=>
  simp only [aa.pure,Bool.and_eq_true] at hp;exact .func fn first caps fi ca hf hc' (fun j a b=>ih1 j a b (ez hp.1 j a)) (fun j a b=>ih2 j a b (ez hp.2 j a))
 | nilfunc=>exact .nilfunc
 | iface t v u _ ih=>exact .iface t v u (ih (by simpa [aa.pure] using hp))
 | niliface=>exact .niliface
 | nilmap=>exact .nilmap
 | optT v c _ ih=>exact .optT v c (ih (by simpa [aa.pure] using hp))
 | optF v=>exact .optF v
 | _=>simp [aa.pure] at hp
def bh.pure:bh → Bool
 | .ret v=>v.pure
 | .pan v=>v.pure
theorem Spec.frame {P:Program} {f:FuncId} {args:List aa} {Q:bh → Prop} (hs:Spec P f args [] fun r _=>Q r ∧ r.pure = true) (ha:cF args = true) (σ:ab) :
  Spec P f args σ fun r σ'=>Q r ∧ σ' = σ:=by
 intro A s cargs h1 h2 h3;subst h1
 -- the same state, its blocks forgotten
 let s0:St:={ h:=[],lam:=fun _ _=>none,S:=s.S,w:=s.w }
 have i0:Inv A s0:=⟨h2.below,fun b o h=>by simp [s0] at h,fun b b' o o' blk h=>by simp [s0] at h,fun _ _ _=>rfl,h2.scell,h2.laid⟩;have a0:dA s0 args cargs:=⟨h3.1,fun j g1 g2=>Rv.lY (s:=s) (s':=s0) (fun _ _ h=>h) (fun _ _ _=>rfl) (h3.2 j g1 g2) (ez ha j g1)⟩;refine (hs A s0 cargs rfl i0 a0).mono ?_;rintro e w' ⟨r,s1,rfl,i1,g1,hr,hq,hp⟩;have noown:∀ blk, ¬ oZ s0 blk:=fun blk ⟨b,o,h,_⟩=>by simp [s0] at h
 -- the caller's blocks again
 let s2:St:={ h:=s.h,lam:=s.lam,S:=s1.S,w:=s1.w }
 have hlt:∀ b o blk,s.h[b]? = some o → bu s b o blk → blk < s.w.heap.size:=fun b o blk e1 e2=>((h2.obj b o e1).kG e2).2
 have hheap:∀ blk,blk < s.w.heap.size → s1.w.heap[blk]? = s.w.heap[blk]?:=fun blk hb=>g1.outside blk hb (noown blk)
 have hS:∀ blk o,s1.S blk o → s.S blk o ∨ s.w.heap.size ≤ blk:=fun blk o h=>by
  rcases g1.sFrom blk o h with h' | h' | h'
  ·exact .inl h'
  ·exact .inr h'
  ·exact absurd h' (noown blk)
 have hk:aL s s2:=⟨fun _ _ _ h=>h,g1.keeps.S,g1.keeps.cell⟩;obtain ⟨i2,g2⟩:=h2.grow (s':=s2) rfl rfl hk i1.below g1.size hheap hS i1.scell;have hres:Ju s2 r e:=by
  cases r <;> cases e <;> first | (exact hr.elim) | skip
  ·exact Rv.lY (s:=s1) (s':=s2) (fun _ _ h=>h) (fun _ _ _=>rfl) hr hp
  ·obtain ⟨c,e1,e2⟩:=hr; exact ⟨c,e1,Rv.lY (s:=s1) (s':=s2) (fun _ _ h=>h) (fun _ _ _=>rfl) e2 hp⟩
 exact ⟨r,s2,rfl,i2,g2,hres,hq,rfl⟩
theorem Spec.x8 {P:Program} {f:FuncId} {args:List aa} {v:aa} (hs:Spec P f args [] fun r _=>r = .ret v) (ha:cF args = true) (hv:v.pure = true) (σ:ab) :
  Spec P f args σ fun r σ'=>r = .ret v ∧ σ' = σ:=
 Spec.frame (hs.mono fun r _ h=>⟨h,by subst h; exact hv⟩) ha σ
theorem bp.pure {P:Program} {f:FuncId} (hb:af P f = true) {args:List aa} {σ:ab} {v:aa} {Q:bh → ab → Prop} (hs:Spec P f args σ fun r σ'=>r = .ret v ∧ σ' = σ) (hq:Q (.ret v) σ) :
  bp P (.func (.func f) [] []) args σ Q:=
 bp.func hb (by simpa using hs.mono fun r σ' h=>by obtain ⟨rfl,rfl⟩:=h; exact hq)
theorem F5.pure {P:Program} {f:FuncId} (hb:af P f = true) {args:List aa} {σ:ab} {v:aa} {K Kp:aa → ab → Prop} (hs:Spec P f args σ fun r σ'=>r = .ret v ∧ σ' = σ) (hq:K v σ) :
  @F5 P (.func (.func f) [] []) args σ ⟨K⟩ ⟨Kp⟩:=bp.pure hb hs hq
open Go.RowKit
def na (k:Option Nat) (cs:List aa) (off:Nat):Bool:=
 match k with
 | none=>decide (off < cs.length) && (cs.getD off .undef).cP
 | some n=>decide (off + n ≤ cs.length)
theorem ji {k:Option Nat} {cs:List aa} {off:Nat} (h:na k cs off = true):b7 k cs off:=by
 cases k <;> simpa [na,b7] using h
def bC (v:aa) (n:Nat):Bool:=
 match v with
 | .agg cs=>cs.length == n
 | v=>v.cP && n == 1
theorem bt {v:aa} {n:Nat} (h:bC v n = true):aY v n:=by
 cases v <;> simpa [bC,aY] using h
def kp (k:Option Nat) (σ:ab):aa → Bool
 | .pval v=>match k with
  | none=>v.cP
  | some n=>match v with
   | .agg cs=>cs.length == n
   | _=>false
 | .ptr b off=>match σ.get b with
  | .box cs=>na k cs off
  | _=>false
 | .eptr sz b i f n=>match σ.get b with
  | .arr sz' xs=>sz' == sz && xs.length == n && decide (i < n) && (xs.getD i .undef).uZ && na k (xs.getD i .undef).cells f
  | _=>false
 | _=>false
theorem lK {k:Option Nat} {σ:ab} {v:aa} (h:kp k σ v = true):cB k σ v:=by
 cases v with
 | pval v=>
  cases k with
  | none=>exact h
  | some n=>cases v <;> simp [kp,cB] at h ⊢; exact h
 | ptr b off=>
  simp only [kp,cB] at h ⊢;cases hb:σ.get b <;> rw [hb] at h <;> first | (cases h; done) | exact ji h
 | eptr sz b i f n=>
  simp only [kp,cB] at h ⊢;cases hb:σ.get b <;> rw [hb] at h <;> first | (cases h; done) | skip
  simp only [Bool.and_eq_true,beq_iff_eq,decide_eq_true_eq] at h;exact ⟨h.1.1.1.1,h.1.1.1.2,h.1.1.2,h.1.2,ji h.2⟩
 | _=>cases h
def oE (n:Nat) (ρ:ay → aa):List (Nat × Nat × ay) → Bool
 | []=>true
 | (off,sz,x) :: r=>bC (ρ x) sz && decide (off + sz ≤ n) && oE n ρ r
theorem kT {n:Nat} {ρ:ay → aa}:∀ {l:List (Nat × Nat × ay)},oE n ρ l = true → dH n ρ l
 | [],_=>trivial
 | (off,sz,x) :: r,h=>by
  simp only [oE,Bool.and_eq_true,decide_eq_true_eq] at h;exact ⟨bt h.1.1,h.1.2,kT h.2⟩
def qq (sz n:Nat) (ρ:ay → aa):List (Nat × ay) → Bool
 | []=>true
 | (i,x) :: r=>decide (i < n) && bC (ρ x) sz && qq sz n ρ r
theorem iT {sz n:Nat} {ρ:ay → aa}:∀ {l:List (Nat × ay)},qq sz n ρ l = true → ee sz n ρ l
 | [],_=>trivial
 | (i,x) :: r,h=>by
  simp only [qq,Bool.and_eq_true,decide_eq_true_eq] at h;exact ⟨h.1.1,bt h.1.2,iT h.2⟩
def qN (op:BinOp) (j k:IntKind) (b:Int):Bool:=
 match op with
 | .quo | .rem=>decide (j = k) && decide (b ≠ 0)
 | .shl | .shr=>decide (0 ≤ b)
 | _=>decide (j = k)
theorem vz {op:BinOp} {j k:IntKind} {b:Int} (h:qN op j k b = true):jE op j k b:=by
 cases op <;> simpa [qN,jE] using h
def qW (op:BinOp) (a b:ByteArray):Bool:=
 match op with
 | .add=>decide (((a.size + b.size:Nat):Int) ≤ IntKind.i64.max)
 | .eql | .neq | .lss | .leq | .gtr | .geq=>true
 | _=>false
theorem wV {op:BinOp} {a b:ByteArray} (h:qW op a b = true):kz op a b:=by
 cases op <;> first | trivial | (cases h; done) | skip
 simp only [qW,decide_eq_true_eq] at h;exact h
def Ln (op:BinOp):aa → aa → Bool
 | .int j _, .int k b=>qN op j k b
 | .str a, .str b=>qW op a b
 | _,_=>false
theorem Il {op:BinOp} {x y:aa} (h:Ln op x y = true):mK op x y:=by
 cases x <;> cases y <;> first | (cases h; done) | exact vz h | exact wV h
def unB (op:UnOp):aa → Bool
 | .bool _=>match op with
  | .not=>true
  | _=>false
 | .int _ _=>match op with
  | .neg | .xor=>true
  | _=>false
 | _=>false
theorem KK {op:UnOp} {x:aa} (h:unB op x = true):uG op x:=by
 cases x <;> first | (cases h; done) | (cases op <;> first | (cases h; done) | trivial)
def dI:aa → Bool
 | .int _ _=>true
 | _=>false
theorem bX {x:aa} (h:dI x = true):isInt x:=by cases x <;> first | (cases h; done) | trivial
def iK (σ:ab) (sz:Nat):aa → Bool
 | .slice sz' xs=>sz' == sz || xs.isEmpty
 | .oslice sz' _ _ _=>sz' == sz
 | .sref sz' b _ _ n=>sz' == sz && match σ.get b with
  | .arr sz'' xs=>sz'' == sz && xs.length == n
  | _=>false
 | _=>false
theorem jN {σ:ab} {sz:Nat} {x:aa} (h:iK σ sz x = true):x.cE σ sz:=by
 cases x with
 | slice s xs=>simpa [iK,aa.cE] using h
 | oslice s xs b k=>simpa [iK,aa.cE] using h
 | sref s b off len n=>
  simp only [iK,aa.cE,Bool.and_eq_true,beq_iff_eq] at h ⊢;refine ⟨h.1, ?_⟩;have h2:=h.2;cases hb:σ.get b <;> rw [hb] at h2 <;> first | (cases h2; done) | simpa using h2
 | _=>cases h
def LG:aa → Bool
 | .slice _ _ | .oslice _ _ _ _ | .sref _ _ _ _ _=>true
 | _=>false
theorem IC {x:aa} (h:LG x = true):so x:=by cases x <;> first | (cases h; done) | trivial
def I8 (sz:Nat) (n:Int):aa → Bool
 | .slice sz' xs=>sz' == sz && decide (0 ≤ n) && decide (n < xs.length)
 | .oslice sz' xs _ _=>sz' == sz && decide (0 ≤ n) && decide (n < xs.length)
 | .sref sz' _ _ len _=>sz' == sz && decide (0 ≤ n) && decide (n < len)
 | _=>false
theorem HX {sz:Nat} {n:Int} {x:aa} (h:I8 sz n x = true):sh sz n x:=by
 cases x <;> first | (cases h; done) | (simp only [I8,Bool.and_eq_true,beq_iff_eq,decide_eq_true_eq] at h; exact ⟨h.1.1,h.1.2,h.2⟩)
def fa (k:Option Nat) (off:Nat):aa → Bool
 | .pval (.agg cs)=>na k cs off
 | .ptr _ _ | .eptr _ _ _ _ _=>true
 | _=>false
theorem iq {k:Option Nat} {off:Nat} {x:aa} (h:fa k off x = true):eG k off x:=by
 cases x <;> first | (cases h; done) | trivial | (rename_i v; cases v <;> first | (cases h; done) | exact ji h)
def xq (k:Option Nat) (off:Nat):aa → Bool
 | .agg cs=>na k cs off
 | _=>false
theorem sG {k:Option Nat} {off:Nat} {x:aa} (h:xq k off x = true):pa k off x:=by
 cases x <;> first | (cases h; done) | exact ji h
def kA:List aa → Bool
 | []=>true
 | x :: r=>dI x && kA r
theorem iD:∀ {l:List aa},kA l = true → kL l
 | [],_=>trivial
 | x :: r,h=>by simp only [kA,Bool.and_eq_true] at h; exact ⟨bX h.1,iD h.2⟩
def pP (ρ:ay → aa):Option ay → Bool
 | none=>true
 | some x=>dI (ρ x)
theorem gh {ρ:ay → aa} {x:Option ay} (h:pP ρ x = true):b6 ρ x:=by
 cases x <;> first | trivial | exact bX h
def bB (ρ:ay → aa) (σ:ab):AI → Bool
 | .mv _=>true
 | .build z ps=>oE z.length ρ ps
 | .lit m sz n ps=>m == 0 && qq sz n ρ ps
 | .load k x=>kp k σ (ρ x)
 | .nilchk x=>match ρ x with
  | .pval _ | .ptr _ _ | .eptr _ _ _ _ _ | .func (.func _) _ _=>true
  | _=>false
 | .bin op x y=>Ln op (ρ x) (ρ y)
 | .eqb _ x y=>match ρ x,ρ y with
  | .bool _, .bool _=>true
  | _,_=>false
 | .eqa _ ks x y=>match ρ x,ρ y with
  | .agg a, .agg b=>aR ks a b
  | _,_=>false
 | .un op x=>unB op (ρ x)
 | .conv _ x=>dI (ρ x)
 | .convs x=>match ρ x with
  | .str _=>true
  | _=>false
 | .mkfunc _ _ _=>true
 | .fieldAddr k off x=>fa k off (ρ x)
 | .field k off x=>xq k off (ρ x)
 | .ixS sz x i=>dI (ρ i) && I8 sz (aP (ρ i)) (ρ x)
 | .ixA m sz k x i=>dI (ρ i) && decide (0 ≤ aP (ρ i)) && decide (aP (ρ i) < m) && fa k ((aP (ρ i)).toNat * sz) (ρ x)
 | .ixV m sz k x i=>dI (ρ i) && decide (0 ≤ aP (ρ i)) && decide (aP (ρ i) < m) && xq k ((aP (ρ i)).toNat * sz) (ρ x)
 | .ixStr x i=>dI (ρ i) && match ρ x with
  | .str s=>decide (0 ≤ aP (ρ i)) && decide (aP (ρ i) < s.size)
  | _=>false
 | .extract x i=>match ρ x with
  | .tup vs=>decide (i < vs.length)
  | _=>false
 | .len x=>LG (ρ x)
 | .lenStr x=>match ρ x with
  | .str _=>true
  | _=>false
 | .lenA _ _=>true
 | .mx l | .mn l=>!(l.map ρ).isEmpty && kA (l.map ρ)
 | .mkiface _ _=>true
 | .assert t x=>match ρ x with
  | .iface u _=>decide (u = t)
  | _=>false
 | .subStr x lo hi=>pP ρ lo && pP ρ hi && match ρ x with
  | .str s=>decide (0 ≤ aF ρ 0 lo) && decide (aF ρ 0 lo ≤ aF ρ s.size hi) && decide (aF ρ s.size hi ≤ s.size)
  | _=>false
 | .subq sz x lo hi=>pP ρ lo && pP ρ hi && match ρ x with
  | .slice sz' xs=>(sz' == sz || xs.isEmpty) && decide (0 ≤ aF ρ 0 lo) && decide (aF ρ 0 lo ≤ aF ρ xs.length hi) && decide (aF ρ xs.length hi ≤ xs.length)
  | .oslice sz' xs _ _=>sz' == sz && decide (0 ≤ aF ρ 0 lo) && decide (aF ρ 0 lo ≤ aF ρ xs.length hi) && decide (aF ρ xs.length hi ≤ xs.length)
  | _=>false
 | .lookup _ _ x i=>match ρ x with
  | .map b=>match σ.get b with
   | .amap es=>cS (ρ i) (ρ i) && cX (ρ i) es
   | _=>false
  | _=>false
 | _=>false
theorem oX {ρ:ay → aa} {σ:ab} {i:AI} (h:bB ρ σ i = true):i.side ρ σ:=by
 cases i with
 | mv | mkfunc | lenA | mkiface=>trivial
 | build z ps=>exact kT h
 | lit m sz n ps=>simp only [bB,Bool.and_eq_true,beq_iff_eq] at h; exact ⟨h.1,iT h.2⟩
 | load k x=>exact lK h
 | nilchk x=>
  simp only [bB,AI.side] at h ⊢;cases hv:ρ x <;> rw [hv] at h <;> first | trivial | (cases h; done) | skip
  rename_i fn _ _;cases fn <;> first | trivial | (cases h; done)
 | bin op x y=>exact Il h
 | eqb n x y=>
  simp only [bB,AI.side] at h ⊢;cases hv:ρ x <;> cases hw:ρ y <;> rw [hv,hw] at h <;> first | trivial | (cases h; done)
 | eqa n ks x y=>
  simp only [bB,AI.side] at h ⊢;cases hv:ρ x <;> cases hw:ρ y <;> rw [hv,hw] at h <;> first | (cases h; done) | exact h
 | un op x=>exact KK h
 | conv k x=>exact bX h
 | convs x=>
  simp only [bB,AI.side] at h ⊢;cases hv:ρ x <;> rw [hv] at h <;> first | trivial | (cases h; done)
 | fieldAddr k off x=>exact iq h
 | field k off x=>exact sG h
 | ixS sz x i=>simp only [bB,Bool.and_eq_true] at h; exact ⟨bX h.1,HX h.2⟩
 | ixA m sz k x i=>simp only [bB,Bool.and_eq_true,decide_eq_true_eq] at h; exact ⟨bX h.1.1.1,h.1.1.2,h.1.2,iq h.2⟩
 | ixV m sz k x i=>simp only [bB,Bool.and_eq_true,decide_eq_true_eq] at h; exact ⟨bX h.1.1.1,h.1.1.2,h.1.2,sG h.2⟩
 | ixStr x i=>
  simp only [bB,AI.side,Bool.and_eq_true] at h ⊢;refine ⟨bX h.1, ?_⟩;have h2:=h.2;cases hv:ρ x <;> rw [hv] at h2 <;> first | (cases h2; done) | simpa using h2
 | extract x i=>
  simp only [bB,AI.side] at h ⊢;cases hv:ρ x <;> rw [hv] at h <;> first | (cases h; done) | simpa using h
 | len x=>exact IC h
 | lenStr x=>
  simp only [bB,AI.side] at h ⊢;cases hv:ρ x <;> rw [hv] at h <;> first | trivial | (cases h; done)
 | mx l=>simp only [bB,Bool.and_eq_true] at h; exact ⟨by simpa using h.1,iD h.2⟩
 | mn l=>simp only [bB,Bool.and_eq_true] at h; exact ⟨by simpa using h.1,iD h.2⟩
 | assert t x=>
  simp only [bB,AI.side] at h ⊢;cases hv:ρ x <;> rw [hv] at h <;> first | (cases h; done) | simpa using h
 | subStr x lo hi=>
  simp only [bB,AI.side,Bool.and_eq_true] at h ⊢;refine ⟨gh h.1.1,gh h.1.2, ?_⟩;have h2:=h.2;cases hv:ρ x <;> rw [hv] at h2 <;> first | (cases h2; done) | skip
  simp only [Bool.and_eq_true,decide_eq_true_eq] at h2;exact ⟨h2.1.1,h2.1.2,h2.2⟩
 | subq sz x lo hi=>
  simp only [bB,AI.side,Bool.and_eq_true] at h ⊢;refine ⟨gh h.1.1,gh h.1.2, ?_⟩;have h2:=h.2;cases hv:ρ x <;> rw [hv] at h2 <;> first | (cases h2; done) | skip
  ·simp only [Bool.and_eq_true,decide_eq_true_eq,Bool.or_eq_true,beq_iff_eq,List.isEmpty_iff] at h2;exact ⟨h2.1.1.1,h2.1.1.2,h2.1.2,h2.2⟩
  ·simp only [Bool.and_eq_true,decide_eq_true_eq,beq_iff_eq] at h2;exact ⟨h2.1.1.1,h2.1.1.2,h2.1.2,h2.2⟩
 | lookup ok z x i=>
  simp only [bB,AI.side] at h ⊢;cases hv:ρ x <;> rw [hv] at h <;> first | (cases h; done) | skip
  rename_i b;simp only at h ⊢;cases hb:σ.get b <;> rw [hb] at h <;> first | (cases h; done) | (simp only [Bool.and_eq_true] at h; exact h)
 | _=>cases h
def IA:aa → Bool
 | .bool _=>true
 | _=>false
def ba (e:Env):List ay → Bool
 | []=>true
 | x :: r=>opg e x && ba e r
theorem bn {e:Env}:∀ {l:List ay},ba e l = true → bG e l
 | [],_=>trivial
 | x :: r,h=>by simp only [ba,Bool.and_eq_true] at h; exact ⟨h.1,bn h.2⟩
def cj (e:Env) (σ:ab):AI → Bool
 | .pick c a b=>opg e c && IA (opv e c) && (if lT (opv e c) then opg e a else opg e b)
 | i=>ba e i.opers && bB (opv e) σ i
theorem fS {e:Env} {σ:ab} {i:AI} (h:cj e σ i = true):ed e σ i:=by
 by_cases hp:∃ c a b,i = .pick c a b
 ·obtain ⟨c,a,b,rfl⟩:=hp;simp only [cj,Bool.and_eq_true] at h;refine ⟨h.1.1,by have:=h.1.2; cases hv:opv e c <;> rw [hv] at this <;> first | trivial | (cases this; done),fun e1=>by have:=h.2; rw [if_pos e1] at this; exact this,fun e1=>by have:=h.2; rw [if_neg (by simp [e1])] at this; exact this, ?_⟩
  split <;> trivial
 ·have h1:cj e σ i = (ba e i.opers && bB (opv e) σ i):=by cases i <;> first | rfl | exact absurd ⟨_,_,_,rfl⟩ hp
  have h2:ed e σ i = (bG e i.opers ∧ i.side (opv e) σ):=by cases i <;> first | rfl | exact absurd ⟨_,_,_,rfl⟩ hp
  rw [h1,Bool.and_eq_true] at h;rw [h2];exact ⟨bn h.1,oX h.2⟩
def l9 (v:aa) (f n:Nat):Bool:=
 match v with
 | .agg cs=>decide (f + n ≤ cs.length)
 | v=>v.cP && f == 0 && n == 1
theorem o8 {v:aa} {f n:Nat} (h:l9 v f n = true):eY v f n:=by
 cases v <;> simpa [l9,eY,and_assoc] using h
def gP (σ:ab) (sz:Nat) (v:aa):aa → Bool
 | .ptr b off=>bC v sz && b9 v.cells && match σ.get b with
  | .box cs=>decide (off + sz ≤ cs.length)
  | _=>false
 | .eptr esz b i f n=>bC v sz && b9 v.cells && match σ.get b with
  | .arr esz' xs=>esz' == esz && xs.length == n && decide (i < n) && l9 (xs.getD i .undef) f sz
  | _=>false
 | _=>false
theorem ic {σ:ab} {sz:Nat} {v x:aa} (h:gP σ sz v x = true):ck σ sz v x:=by
 cases x with
 | ptr b off=>
  simp only [gP,ck,Bool.and_eq_true] at h ⊢;refine ⟨bt h.1.1,h.1.2, ?_⟩;have h2:=h.2;cases hb:σ.get b <;> rw [hb] at h2 <;> first | (cases h2; done) | simpa using h2
 | eptr esz b i f n=>
  simp only [gP,ck,Bool.and_eq_true] at h ⊢;refine ⟨bt h.1.1,h.1.2, ?_⟩;have h2:=h.2;cases hb:σ.get b <;> rw [hb] at h2 <;> first | (cases h2; done) | skip
  simp only [Bool.and_eq_true,beq_iff_eq,decide_eq_true_eq] at h2;exact ⟨h2.1.1.1,h2.1.1.2,h2.1.2,o8 h2.2⟩
 | _=>cases h
def kb (sz:Nat):List aa → Bool
 | []=>true
 | v :: r=>bC v sz && b9 v.cells && kb sz r
theorem gb {sz:Nat}:∀ {l:List aa},kb sz l = true → Fits sz l
 | [],_=>fun v hv=>by cases hv
 | v :: r,h=>by
  simp only [kb,Bool.and_eq_true] at h;intro x hx;rcases List.mem_cons.1 hx with rfl | hx
  ·exact ⟨bt h.1.1,h.1.2⟩
  ·exact gb h.2 x hx
abbrev XV:=Option (aa × ab)
def jd (sz bytes:Nat) (σ:ab) (x:aa) (ys:List aa):XV:=
 match x with
 | .oslice sz' xs b k=>if sz' == sz && decide ((xs.length + ys.length) * bytes ≤ 140737488355328) then match σ.get b with
  | .spare sz'' k'=>if sz'' == sz && k' == k then some (.oslice sz (xs ++ ys) b (k + 1),σ.set b (.spare sz (k + 1))) else none
  | _=>none
  else none
 | .sref sz' b off len n=>if sz' == sz then match σ.get b with
  | .arr sz'' xs=>if sz'' == sz && xs.length == n then
    (if off + len + ys.length ≤ n then some (.sref sz b off (len + ys.length) n,σ.set b (.arr sz (xs.take (off + len) ++ ys ++ xs.drop (off + len + ys.length))))
    else if off == 0 && len == n && decide ((n + ys.length) * bytes ≤ 140737488355328) then some (.sref sz b 0 (n + ys.length) (n + ys.length),σ.set b (.arr sz (xs ++ ys))) else none)
    else none
  | _=>none
  else none
 | _=>none
theorem lL {sz bytes:Nat} {σ:ab} {x:aa} {ys:List aa} {v:aa} {σ':ab} {K:aa → ab → Prop} (h:jd sz bytes σ x ys = some (v,σ')) (hk:K v σ'):dv sz bytes σ x ys K:=by
 cases x with
 | oslice sz' xs b k=>
  simp only [jd,dv] at h ⊢
  split at h
  ·rename_i h1;simp only [Bool.and_eq_true,beq_iff_eq,decide_eq_true_eq] at h1;refine ⟨h1.1,h1.2, ?_⟩;cases hb:σ.get b <;> rw [hb] at h <;> first | (cases h; done) | skip
   simp only at h ⊢
   split at h
   ·rename_i h2;simp only [Bool.and_eq_true,beq_iff_eq] at h2;simp only [Option.some.injEq,Prod.mk.injEq] at h;obtain ⟨rfl,rfl⟩:=h;exact ⟨h2.1,h2.2,hk⟩
   ·cases h
  ·cases h
 | sref sz' b off len n=>
  simp only [jd,dv] at h ⊢
  split at h
  ·rename_i h1;refine ⟨by simpa using h1, ?_⟩;cases hb:σ.get b <;> rw [hb] at h <;> first | (cases h; done) | skip
   simp only at h ⊢
   split at h
   ·rename_i h2;simp only [Bool.and_eq_true,beq_iff_eq] at h2;refine ⟨h2.1,h2.2, ?_⟩
    split at h
    ·rename_i h3;rw [if_pos h3];simp only [Option.some.injEq,Prod.mk.injEq] at h;obtain ⟨rfl,rfl⟩:=h;exact hk
    ·rename_i h3;rw [if_neg h3]
     split at h
     ·rename_i h4;simp only [Bool.and_eq_true,beq_iff_eq,decide_eq_true_eq] at h4;simp only [Option.some.injEq,Prod.mk.injEq] at h;obtain ⟨rfl,rfl⟩:=h;exact ⟨h4.1.1,h4.1.2,h4.2,hk⟩
     ·cases h
   ·cases h
  ·cases h
 | _=>cases h
def R8 (m:Nat) (lo:Int) (hi:Int → Int) (mx:Option Int) (xs:List aa):Bool:=
 decide (0 ≤ lo) && decide (lo ≤ hi xs.length) && (match mx with
   | none=>decide (hi xs.length ≤ xs.length) && m == 0
   | some v=>decide (hi xs.length ≤ v) && decide (v ≤ xs.length) && (if m = 1 then decide (v = hi xs.length) else true) && (if m = 2 then decide (v = 0) else true))
def sU (m sz:Nat) (σ:ab) (lo:Int) (hi:Int → Int) (mx:Option Int) (xs:List aa):XV:=
 if R8 m lo hi mx xs then
  (if m = 0 then some (.slice sz ((xs.take (hi xs.length).toNat).drop lo.toNat),σ)
  else if m = 1 then some (.oslice sz ((xs.take (hi xs.length).toNat).drop lo.toNat) σ.length 0,σ ++ [.spare sz 0])
  else if m = 2 then some (.sref sz σ.length 0 0 0,σ ++ [.arr sz []]) else none)
 else none
def GK (m sz:Nat) (σ:ab) (x:aa) (lo:Int) (hi:Int → Int) (mx:Option Int):XV:=
 match x with
 | .slice sz' xs=>if sz' == sz || xs.isEmpty then sU m sz σ lo hi mx xs else none
 | .oslice sz' xs _ _=>if sz' == sz then sU m sz σ lo hi mx xs else none
 | .sref sz' b off len n=>if sz' == sz && m == 0 && mx.isNone && decide (0 ≤ lo) && decide (lo ≤ hi len) && decide (off + hi len ≤ n) then some (.sref sz b (off + lo.toNat) (hi len - lo).toNat n,σ) else none
 | _=>none
theorem A9 {m sz:Nat} {σ:ab} {lo:Int} {hi:Int → Int} {mx:Option Int} {xs:List aa} {v:aa} {σ':ab} {K:aa → ab → Prop}:sU m sz σ lo hi mx xs = some (v,σ') → K v σ' → 0 ≤ lo ∧ lo ≤ hi xs.length ∧ (match mx with
   | none=>hi xs.length ≤ xs.length ∧ m = 0
   | some v=>hi xs.length ≤ v ∧ v ≤ xs.length ∧ (m = 1 → v = hi xs.length) ∧ (m = 2 → v = 0)) ∧
  (if m = 0 then K (.slice sz ((xs.take (hi xs.length).toNat).drop lo.toNat)) σ
  else if m = 1 then K (.oslice sz ((xs.take (hi xs.length).toNat).drop lo.toNat) σ.length 0) (σ ++ [.spare sz 0])
  else m = 2 ∧ K (.sref sz σ.length 0 0 0) (σ ++ [.arr sz []])):=by
  intro h hk;unfold sU at h
  split at h
  ·rename_i h1;simp only [R8,Bool.and_eq_true,decide_eq_true_eq] at h1;refine ⟨h1.1.1,h1.1.2, ?_, ?_⟩
   ·have h2:=h1.2;clear h h1 hk
    cases mx with
    | none=>simpa using h2
    | some v=>
     simp only [Bool.and_eq_true,decide_eq_true_eq] at h2;refine ⟨h2.1.1.1,h2.1.1.2,fun e=>?_,fun e=>?_⟩
     ·have:=h2.1.2; rw [if_pos e] at this; simpa using this
     ·have:=h2.2; rw [if_pos e] at this; simpa using this
   ·by_cases e0:m = 0
    ·rw [if_pos e0] at h ⊢;simp only [Option.some.injEq,Prod.mk.injEq] at h;obtain ⟨rfl,rfl⟩:=h; exact hk
    ·rw [if_neg e0] at h ⊢;by_cases e1:m = 1
     ·rw [if_pos e1] at h ⊢;simp only [Option.some.injEq,Prod.mk.injEq] at h;obtain ⟨rfl,rfl⟩:=h; exact hk
     ·rw [if_neg e1] at h ⊢
      split at h
      ·rename_i e2;simp only [Option.some.injEq,Prod.mk.injEq] at h;obtain ⟨rfl,rfl⟩:=h; exact ⟨e2,hk⟩
      ·cases h
  ·cases h
theorem HG {m sz:Nat} {σ:ab} {x:aa} {lo:Int} {hi:Int → Int} {mx:Option Int} {v:aa} {σ':ab} {K:aa → ab → Prop} (h:GK m sz σ x lo hi mx = some (v,σ')) (hk:K v σ'):nN m sz σ x lo hi mx K:=by
 have go:=fun xs h=>@A9 m sz σ lo hi mx xs v σ' K h hk
 cases x with
 | slice sz' xs=>
  simp only [GK,nN] at h ⊢
  split at h
  ·rename_i h1;exact ⟨by simpa using h1,go xs h⟩
  ·cases h
 | oslice sz' xs b k=>
  simp only [GK,nN] at h ⊢
  split at h
  ·rename_i h1;exact ⟨by simpa using h1,go xs h⟩
  ·cases h
 | sref sz' b off len n=>
  simp only [GK,nN] at h ⊢
  split at h
  ·rename_i h1;simp only [Bool.and_eq_true,beq_iff_eq,decide_eq_true_eq,Option.isNone_iff_eq_none] at h1;simp only [Option.some.injEq,Prod.mk.injEq] at h;obtain ⟨rfl,rfl⟩:=h;rw [if_neg (by rw [h1.1.1.1.1.2]; decide)];exact ⟨h1.1.1.1.1.1,h1.1.1.1.1.2,h1.1.1.1.2,h1.1.1.2,h1.1.2,h1.2,hk⟩
  ·cases h
 | _=>cases h
def xA (m sz bytes:Nat) (σ:ab) (z:aa) (n c:Int):XV:=
 if decide (0 ≤ n) && decide (n ≤ c) && decide (c * bytes ≤ 140737488355328) && decide (c ≤ 140737488355328) then
  (if m = 1 then (if n = 0 then some (.oslice sz [] σ.length 0,σ ++ [.spare sz 0]) else none)
  else if m = 2 then some (.sref sz σ.length 0 n.toNat n.toNat,σ ++ [.arr sz (List.replicate n.toNat z)])
  else if m = 0 then some (.slice sz (List.replicate n.toNat z),σ) else none)
 else none
theorem yO {m sz bytes:Nat} {σ:ab} {z:aa} {n c:Int} {v:aa} {σ':ab} {K:aa → ab → Prop} (h:xA m sz bytes σ z n c = some (v,σ')) (hk:K v σ'):pT m sz bytes σ z n c K:=by
 unfold xA at h;unfold pT
 split at h
 ·rename_i h1;simp only [Bool.and_eq_true,decide_eq_true_eq] at h1;refine ⟨h1.1.1.1,h1.1.1.2,h1.1.2,h1.2, ?_⟩;by_cases e1:m = 1
  ·rw [if_pos e1] at h ⊢
   split at h
   ·rename_i e;simp only [Option.some.injEq,Prod.mk.injEq] at h;obtain ⟨rfl,rfl⟩:=h; exact ⟨e,hk⟩
   ·cases h
  ·rw [if_neg e1] at h ⊢;by_cases e2:m = 2
   ·rw [if_pos e2] at h ⊢;simp only [Option.some.injEq,Prod.mk.injEq] at h;obtain ⟨rfl,rfl⟩:=h; exact hk
   ·rw [if_neg e2] at h ⊢
    split at h
    ·rename_i e;simp only [Option.some.injEq,Prod.mk.injEq] at h;obtain ⟨rfl,rfl⟩:=h; exact ⟨e,hk⟩
    ·cases h
 ·cases h
def rJ (sz:Nat) (σ:ab) (z:aa) (x:aa):XV:=
 match x with
 | .sref sz' b off len n=>if sz' == sz && bC z sz && b9 z.cells then match σ.get b with
  | .arr sz'' xs=>if sz'' == sz && xs.length == n then some (.tup [],σ.set b (.arr sz (xs.take off ++ List.replicate len z ++ xs.drop (off + len)))) else none
  | _=>none
  else none
 | _=>none
theorem wJ {sz:Nat} {σ:ab} {z x:aa} {v:aa} {σ':ab} {K:aa → ab → Prop} (h:rJ sz σ z x = some (v,σ')) (hk:K v σ'):lf sz σ z x K:=by
 cases x with
 | sref sz' b off len n=>
  simp only [rJ,lf] at h ⊢
  split at h
  ·rename_i h1;simp only [Bool.and_eq_true,beq_iff_eq] at h1;refine ⟨h1.1.1,bt h1.1.2,h1.2, ?_⟩;cases hb:σ.get b <;> rw [hb] at h <;> first | (cases h; done) | skip
   simp only at h ⊢
   split at h
   ·rename_i h2;simp only [Bool.and_eq_true,beq_iff_eq] at h2;simp only [Option.some.injEq,Prod.mk.injEq] at h;obtain ⟨rfl,rfl⟩:=h;exact ⟨h2.1,h2.2,hk⟩
   ·cases h
  ·cases h
 | _=>cases h
def yh (sz:Nat) (σ:ab) (x:aa) (ys:List aa):XV:=
 match x with
 | .sref sz' b off len n=>if sz' == sz then match σ.get b with
  | .arr sz'' xs=>if sz'' == sz && xs.length == n then some (.int .i64 (min ys.length len:Nat),σ.set b (.arr sz (xs.take off ++ ys.take len ++ xs.drop (off + min ys.length len)))) else none
  | _=>none
  else none
 | _=>none
theorem Bb {sz:Nat} {σ:ab} {x:aa} {ys:List aa} {v:aa} {σ':ab} {K:aa → ab → Prop} (h:yh sz σ x ys = some (v,σ')) (hk:K v σ'):py sz σ x ys K:=by
 cases x with
 | sref sz' b off len n=>
  simp only [yh,py] at h ⊢
  split at h
  ·rename_i h1;refine ⟨by simpa using h1, ?_⟩;cases hb:σ.get b <;> rw [hb] at h <;> first | (cases h; done) | skip
   simp only at h ⊢
   split at h
   ·rename_i h2;simp only [Bool.and_eq_true,beq_iff_eq] at h2;simp only [Option.some.injEq,Prod.mk.injEq] at h;obtain ⟨rfl,rfl⟩:=h;exact ⟨h2.1,h2.2,hk⟩
   ·cases h
  ·cases h
 | _=>cases h
def qJ (σ:ab) (x:aa):XV:=
 match x with
 | .str y=>some (.iter σ.length,σ ++ [.siter y 0])
 | _=>none
def Av (σ:ab) (x:aa):XV:=
 match x with
 | .iter b=>match σ.get b with
  | .siter y pos=>if pos < y.size then some (.tup [.bool true, .int .i64 pos, .int .i32 (Utf8.decode y pos).1],σ.set b (.siter y (pos + (Utf8.decode y pos).2))) else some (.tup [.bool false],σ)
  | _=>none
 | _=>none
def MO (g:Nat) (σ:ab) (x:aa):XV:=
 match x with
 | .int _ n=>if 0 ≤ n then match (fx g bP)[n.toNat]? with
  | some (k,v)=>some (.pval (.int k v),σ)
  | none=>none
  else none
 | _=>none
theorem Hb {g:Nat} {σ:ab} {x:aa} {v:aa} {σ':ab} {K:aa → ab → Prop} (h:MO g σ x = some (v,σ')) (hk:K v σ'):yB g σ x K:=by
 cases x with
 | int q n=>
  simp only [MO,yB] at h ⊢
  split at h
  ·rename_i h0;refine ⟨h0, ?_⟩
   cases ht:(fx g bP)[n.toNat]? with
   | none=>rw [ht] at h; cases h
   | some p=>
    obtain ⟨k,u⟩:=p;rw [ht] at h;simp only [Option.some.injEq,Prod.mk.injEq] at h;obtain ⟨rfl,rfl⟩:=h; exact hk
  ·cases h
 | _=>cases h
def zC (sz:Nat) (σ:ab) (x lo:aa):XV:=
 match x,lo with
 | .oslice sz' xs b k, .int _ n=>if sz' == sz && decide (0 ≤ n) && decide (n ≤ xs.length) then match σ.get b with
  | .spare sz'' k'=>if sz'' == sz && k' == k then some (.oslice sz (xs.drop n.toNat) b (k + 1),σ.set b (.spare sz (k + 1))) else none
  | _=>none
  else none
 | _,_=>none
theorem Gd {sz:Nat} {σ:ab} {x lo:aa} {v:aa} {σ':ab} {K:aa → ab → Prop} (h:zC sz σ x lo = some (v,σ')) (hk:K v σ'):oR sz σ x lo K:=by
 cases x <;> cases lo <;> simp only [zC] at h <;> first | (cases h; done) | skip
 rename_i sz' xs b k q n
 split at h
 ·rename_i h1;simp only [Bool.and_eq_true,beq_iff_eq,decide_eq_true_eq] at h1;simp only [oR];refine ⟨h1.1.1,h1.1.2,h1.2, ?_⟩;cases hb:σ.get b <;> rw [hb] at h <;> first | (cases h; done) | skip
  simp only at h ⊢
  split at h
  ·rename_i h2;simp only [Bool.and_eq_true,beq_iff_eq] at h2;simp only [Option.some.injEq,Prod.mk.injEq] at h;obtain ⟨rfl,rfl⟩:=h;exact ⟨h2.1,h2.2,hk⟩
  ·cases h
 ·cases h
def qz (neg:Bool) (σ:ab) (x:aa):XV:=
 match x with
 | .niliface=>some (.bool !neg,σ)
 | .iface _ _=>some (.bool neg,σ)
 | _=>none
theorem uQ {neg:Bool} {σ:ab} {x:aa} {v:aa} {σ':ab} {K:aa → ab → Prop} (h:qz neg σ x = some (v,σ')) (hk:K v σ'):oe neg σ x K:=by
 cases x <;> simp only [qz] at h <;> first | (cases h; done) | skip
 all_goals
  simp only [Option.some.injEq,Prod.mk.injEq] at h;obtain ⟨rfl,rfl⟩:=h;exact hk
def Ev (neg:Bool) (σ:ab) (x:aa):XV:=
 match x with
 | .slice _ xs | .oslice _ xs _ _=>if xs.isEmpty then none else some (.bool neg,σ)
 | .sref _ _ _ len _=>if len == 0 then none else some (.bool neg,σ)
 | _=>none
theorem AJ {neg:Bool} {σ:ab} {x:aa} {v:aa} {σ':ab} {K:aa → ab → Prop} (h:Ev neg σ x = some (v,σ')) (hk:K v σ'):pb neg σ x K:=by
 cases x <;> simp only [Ev] at h <;> first | (cases h; done) | skip
 all_goals
  split at h
  ·cases h
  ·rename_i h1;simp only [Option.some.injEq,Prod.mk.injEq] at h;obtain ⟨rfl,rfl⟩:=h;exact ⟨hk,fun e=>absurd e (by simpa using h1)⟩
def BC (ok:Bool) (lk:LK) (z:aa) (σ:ab) (x k:aa):XV:=
 match x with
 | .map b=>match σ.get b with
  | .amap es=>if gD lk k es then some (cJ ok z (fg k es),σ) else none
  | _=>none
 | _=>none
def aV {α:Type} (n:Nat) (K:Nat → α):α:=
 match n with
 | 0=>K 0
 | m + 1=>K (m + 1)
def kU {α:Type} (n:Int) (K:Int → α):α:=
 match n with
 | .ofNat m=>aV m fun m=>K (.ofNat m)
 | .negSucc m=>aV m fun m=>K (.negSucc m)
def nj {α:Type} (b:Bool) (K:Bool → α):α:=
 match b with
 | true=>K true
 | false=>K false
theorem dO {α:Type} (n:Nat) (K:Nat → α):aV n K = K n:=by cases n <;> rfl
theorem pS {α:Type} (n:Int) (K:Int → α):kU n K = K n:=by cases n <;> simp [kU,dO]
theorem nV {α:Type} (n:Bool) (K:Bool → α):nj n K = K n:=by cases n <;> rfl
def fN {α:Type} (v:aa) (K:aa → α):α:=
 match v with
 | .undef=>K .undef
 | .bool b=>nj b fun b=>K (.bool b)
 | .int k n=>kU n fun n=>K (.int k n)
 | .str x=>K (.str x)
 | .agg cs=>K (.agg cs)
 | .tup cs=>K (.tup cs)
 | .slice a b=>K (.slice a b)
 | .oslice a b c d=>aV c fun c=>aV d fun d=>K (.oslice a b c d)
 | .sref a b c d e=>aV b fun b=>aV c fun c=>aV d fun d=>aV e fun e=>K (.sref a b c d e)
 | .pval v=>K (.pval v)
 | .ptr a b=>aV a fun a=>aV b fun b=>K (.ptr a b)
 | .eptr a b c d e=>aV b fun b=>aV c fun c=>aV d fun d=>aV e fun e=>K (.eptr a b c d e)
 | .nilptr=>K .nilptr
 | .func a b c=>K (.func a b c)
 | .nilfunc=>K .nilfunc
 | .iface t v=>K (.iface t v)
 | .niliface=>K .niliface
 | .map b=>aV b fun b=>K (.map b)
 | .nilmap=>K .nilmap
 | .opt g v=>K (.opt g v)
 | .mint s=>K (.mint s)
 | .iter b=>aV b fun b=>K (.iter b)
 | .yieldf b=>aV b fun b=>K (.yieldf b)
 | .nils sz=>K (.nils sz)
theorem dM {α:Type} (v:aa) (K:aa → α):fN v K = K v:=by cases v <;> simp [fN,dO,pS,nV]
def dT {α:Type} (f:aa → (aa → α) → α):List aa → (List aa → α) → α
 | [],K=>K []
 | v :: r,K=>f v fun v=>dT f r fun r=>K (v :: r)
theorem eD {α:Type} {f:aa → (aa → α) → α} (hf:∀ v K,f v K = K v):∀ (l:List aa) (K:List aa → α),dT f l K = K l
 | [],_=>rfl
 | v :: r,K=>by simp [dT,hf,eD hf r]
def bU {α:Type}:Nat → aa → (aa → α) → α
 | 0,v,K=>fN v K
 | n + 1,v,K=>
  match v with
  | .agg cs=>dT (bU n) cs fun cs=>K (.agg cs)
  | .tup cs=>dT (bU n) cs fun cs=>K (.tup cs)
  | .slice a b=>dT (bU n) b fun b=>K (.slice a b)
  | .oslice a b c d=>dT (bU n) b fun b=>aV c fun c=>aV d fun d=>K (.oslice a b c d)
  | .pval v=>bU n v fun v=>K (.pval v)
  | .func a b c=>dT (bU n) b fun b=>dT (bU n) c fun c=>K (.func a b c)
  | .iface t v=>bU n v fun v=>K (.iface t v)
  | v=>fN v K
theorem bM {α:Type}:∀ (n:Nat) (v:aa) (K:aa → α),bU n v K = K v
 | 0,v,K=>dM v K
 | n + 1,v,K=>by cases v <;> simp [bU,dM,eD (fun v K=>bM n v K),dO,bM n]
def cu {α:Type}:Env → (Env → α) → α
 | [],K=>K []
 | (n,v) :: r,K=>fN v fun v=>cu r fun r=>K ((n,v) :: r)
theorem bN {α:Type}:∀ (e:Env) (K:Env → α),cu e K = K e
 | [],_=>rfl
 | (n,v) :: r,K=>by simp [cu,dM,bN r]
def oq {α:Type}:List (aa × aa) → (List (aa × aa) → α) → α
 | [],K=>K []
 | (a,b) :: r,K=>fN a fun a=>bU 1 b fun b=>oq r fun r=>K ((a,b) :: r)
theorem nc {α:Type}:∀ (e:List (aa × aa)) (K:List (aa × aa) → α),oq e K = K e
 | [],_=>rfl
 | (a,b) :: r,K=>by simp [oq,dM,bM,nc r]
def zq (lk:LK) (σ:ab) (x k v:aa):XV:=
 match x with
 | .map b=>match σ.get b with
  | .amap es=>if gD lk k es then oq (fG k v es) fun es'=>some (.undef,σ.set b (.amap es')) else none
  | _=>none
 | _=>none
theorem Ci {ok:Bool} {lk:LK} {z:aa} {σ:ab} {x k:aa} {v:aa} {σ':ab} {K:aa → ab → Prop} (h:BC ok lk z σ x k = some (v,σ')) (hk:K v σ'):mB ok lk z σ x k K:=by
 cases x with
 | map b=>
  simp only [BC,mB] at h ⊢;cases hb:σ.get b <;> rw [hb] at h <;> first | (cases h; done) | skip
  simp only at h ⊢
  split at h
  ·rename_i h1;simp only [Option.some.injEq,Prod.mk.injEq] at h;obtain ⟨rfl,rfl⟩:=h; exact ⟨h1,hk⟩
  ·cases h
 | _=>cases h
theorem yK {lk:LK} {σ:ab} {x k u:aa} {v:aa} {σ':ab} {K:aa → ab → Prop} (h:zq lk σ x k u = some (v,σ')) (hk:K v σ'):nk lk σ x k u K:=by
 cases x with
 | map b=>
  simp only [zq,nk] at h ⊢;cases hb:σ.get b <;> rw [hb] at h <;> first | (cases h; done) | skip
  simp only at h ⊢
  split at h
  ·rename_i h1;simp only [nc,Option.some.injEq,Prod.mk.injEq] at h;obtain ⟨rfl,rfl⟩:=h; exact ⟨h1,hk⟩
  ·cases h
 | _=>cases h
def nI (sz:Nat) (σ:ab) (x:aa):XV:=
 match x with
 | .sref sz' b off len n=>if sz' == sz then match σ.get b with
  | .arr sz'' xs=>if sz'' == sz && xs.length == n then some (.slice sz ((xs.drop off).take len),σ.set b .dead) else none
  | _=>none
  else none
 | _=>none
theorem vd {σ:ab} {x:aa} {v:aa} {σ':ab} {K:aa → ab → Prop} (h:qJ σ x = some (v,σ')) (hk:K v σ'):mg σ x K:=by
 cases x with
 | str y=>
  simp only [qJ,Option.some.injEq,Prod.mk.injEq] at h;obtain ⟨rfl,rfl⟩:=h; exact hk
 | _=>cases h
theorem Aq {σ:ab} {x:aa} {v:aa} {σ':ab} {K:aa → ab → Prop} (h:Av σ x = some (v,σ')) (hk:K v σ'):np σ x K:=by
 cases x with
 | iter b=>
  simp only [Av,np] at h ⊢;cases hb:σ.get b <;> rw [hb] at h <;> first | (cases h; done) | skip
  simp only at h ⊢
  split at h
  ·rename_i h1;rw [if_pos h1];simp only [Option.some.injEq,Prod.mk.injEq] at h;obtain ⟨rfl,rfl⟩:=h; exact hk
  ·rename_i h1;rw [if_neg h1];simp only [Option.some.injEq,Prod.mk.injEq] at h;obtain ⟨rfl,rfl⟩:=h; exact hk
 | _=>cases h
theorem r8 {sz:Nat} {σ:ab} {x:aa} {v:aa} {σ':ab} {K:aa → ab → Prop} (h:nI sz σ x = some (v,σ')) (hk:K v σ'):jv sz σ x K:=by
 cases x with
 | sref sz' b off len n=>
  simp only [nI,jv] at h ⊢
  split at h
  ·rename_i h1;refine ⟨by simpa using h1, ?_⟩;cases hb:σ.get b <;> rw [hb] at h <;> first | (cases h; done) | skip
   simp only at h ⊢
   split at h
   ·rename_i h2;simp only [Bool.and_eq_true,beq_iff_eq] at h2;simp only [Option.some.injEq,Prod.mk.injEq] at h;obtain ⟨rfl,rfl⟩:=h;exact ⟨h2.1,h2.2,hk⟩
   ·cases h
  ·cases h
 | _=>cases h
/-! ### Values brought to their plain form: so that nothing is computed twice -/
def kM {α:Type} (o:bO) (K:bO → α):α:=
 match o with
 | .dead=>K .dead
 | .hole=>K .hole
 | .box cs=>dT fN cs fun cs=>K (.box cs)
 | .arr sz xs=>if sz = 2 then K (.arr sz xs) else dT (bU 1) xs fun xs=>K (.arr sz xs)
 | .spare sz k=>aV k fun k=>K (.spare sz k)
 | .amap es=>K (.amap es)
 | .siter x pos=>aV pos fun pos=>K (.siter x pos)
 | .looprec a b c d e f g h=>K (.looprec a b c d e f g h)
 | .dfr=>K .dfr
 | .bld k bs=>K (.bld k bs)
theorem mF {α:Type} (o:bO) (K:bO → α):kM o K = K o:=by
 cases o with
 | arr sz xs=>
  simp only [kM];split
  ·rfl
  ·exact eD (fun v K=>bM 1 v K) xs _
 | _=>simp [kM,dO,eD (fun v K=>dM v K)]
def fK {α:Type}:ab → (ab → α) → α
 | [],K=>K []
 | o :: r,K=>kM o fun o=>fK r fun r=>K (o :: r)
theorem br {α:Type}:∀ (e:ab) (K:ab → α),fK e K = K e
 | [],_=>rfl
 | o :: r,K=>by simp [fK,mF,br r]
end Go.AM
