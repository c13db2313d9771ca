/- strings.Builder: what its methods do to a builder of the call's own, exactly: which blocks stay. Functions of Go's library by the library's contracts: what they do, on our heap. slices.Sort of .. -/
import Derived.Test.YtlmhkldmpggadaaGreatDoorP27
import Derived.Shelf.Strings.Builder1
import Derived.Shelf.Strings.OnBuilder
import Derived.Shelf.Strings.Cut
import Derived.Shelf.Strings.Split
import Derived.Shelf.Strconv.Itoa3
import Derived.Shelf.Strconv.AtoiAll
import Derived.Shelf.Sort.Plain
import Derived.Shelf.Slices.In.SortNone
import Derived.Shelf.Spec.SlicesGrow
import Derived.Test.YtlmhkldmpggadaaGreatDoorProg
namespace Go.AM
open Go.RowKit Go.Shelf Go.Proofs
section
variable {P:Program} {ρ:Ren}
theorem AB (w:World) (base:Nat) (t u ty e:TypeId) (i:TypeInfo) (ht:P.underlying t = some (.slice e)) (hu:P.underlying u = some .string) (hi:P.info? e = some i) (hz:i.zero = some (.int .u8 0))
  (hsize:i.size = 1) (hby:i.bytes = 1) (v:Value) (n:Nat) (xs:List Value) (hown:w.ownsRow base e 1 v n xs) (x:ByteArray) (hlen:n + x.size ≤ 140737488355328) (hbase:base ≤ w.heap.size) :
  ∃ v' w',(Builtin.append_ #[t,u] ty #[v, .string x]).run P w = .ok v' w' ∧ w'.ownsRow base e 1 v' (n + x.size) (xs ++ Lib.strCells x) ∧ w.grownBy w' v.ownBlock ∧
   ∀ g,v'.ownBlock = some g → v.ownBlock = some g ∨ w.heap.size ≤ g:=by
 obtain ⟨v',w',hr,h2,h3,h4⟩:=Lib.run_append_own_string (P:=P) w base t u ty e i ht hu hi hz hsize hby v n xs hown x (by unfold maxLen; omega) hlen hbase;refine ⟨v',w',hr,h2,h3,fun g hg=>?_⟩;have hxl:xs.length = n:=by simpa using hown.1
 rcases hown.2 with ⟨rfl,rfl⟩ | ⟨g0,cap,cur,rfl,_,hg0,hnc,_,hcs,htake⟩
 ·by_cases hm:x.size = 0
  ·rw [h4.2 ⟨rfl,hm⟩] at hg; simp [Value.ownBlock] at hg
  ·have hr':=run_append_nil_string (P:=P) w t u ty e i (.int .u8 0) ht hu hi hz x (by omega) (by omega) (by rw [hby]; omega);rw [hr] at hr';injection hr' with e1 e2;rw [e1] at hg;simp [Value.ownBlock] at hg
   right; omega
 ·by_cases hroom:n + x.size ≤ cap
  ·have hcs':cur.size = cap:=by simpa using hcs
   have hr':=Lib.run_append_room_string (P:=P) w t u ty e i ht hu hi hsize g0 n cap cur hg0 x hroom (by omega);rw [hr] at hr';injection hr' with e1 e2;rw [e1] at hg
   left; exact hg
  ·have holds:∀ j u,xs[j]? = some u → w.cell? ((⟨g0,0,none⟩:Addr).add j) = some u:=hown.cells (g:=g0) rfl;have hr':=Lib.run_append_grow_string (P:=P) w t u ty e i (.int .u8 0) ht hu hi hz ⟨g0,0,none⟩ n cap xs (by rw [hsize]; simpa using hxl) holds x (by omega) (by omega) (by rw [hby]; exact growslice_fits (by omega) (by omega));rw [hr] at hr';injection hr' with e1 e2;rw [e1] at hg;simp [Value.ownBlock] at hg
   right; omega
theorem pX {ops:Array Oper} {rest:List Oper} {o:Oper} {a:Act} {Q:Exit → Act → World → Prop} {w:World} (hgd:o.guard = none) (sl x:Operand) (t u:TypeId)
  (ho:o.op = .call { callee:=.builtin .append,args:=#[sl,x],argTypes:=#[t,u] }) (base:Nat) (e:TypeId) (i:TypeInfo) (ht:P.underlying t = some (.slice e)) (hu:P.underlying u = some .string) (hi:P.info? e = some i)
  (hz:i.zero = some (.int .u8 0)) (hsize:i.size = 1) (hby:i.bytes = 1) (v:Value) (n:Nat) (xs:List Value) (hs:a.eval sl = v) (hown:w.ownsRow base e 1 v n xs) (y:ByteArray) (hx:a.eval x = .string y)
  (hlen:n + y.size ≤ 140737488355328) (hbase:base ≤ w.heap.size)
  (h:∀ v' w',w'.ownsRow base e 1 v' (n + y.size) (xs ++ Lib.strCells y) → w.grownBy w' v.ownBlock → (∀ g,v'.ownBlock = some g → v.ownBlock = some g ∨ w.heap.size ≤ g) → wpList P ops Q rest (a.put o.dst v') w'):wpList P ops Q (o :: rest) a w:=by
 refine wpList_plain hgd fun K hK=>?_;obtain ⟨v',w',hr,h2,h3,h4⟩:=AB (P:=P) w base t u o.type e i ht hu hi hz hsize hby v n xs hown y hlen hbase;unfold Oper.wp execOp;simp only [ho,resolve,invoke,builtin,Sem.run_bind,Sem.run_pure,Result.andThen_ok,List.map_toArray,List.map_cons,List.map_nil,hs,hx,hr];exact hK _ _ (h v' w' h2 h3 h4)
def DC (b:Nat) (p:Value):Prop:=p = .pointer none ∨ p = .pointer (some ⟨b,0,none⟩)
def Bx (T e:TypeId) (B b:Nat) (bs:List Value) (y:ByteArray) (w:World) (v:Value) (en:Ending) (w':World):Prop:=
 en = .returned (.tuple #[.int .i64 y.size, .nilIface]) ∧ ∃ v',w'.heap[b]? = some (.cells #[.pointer (some ⟨b,0,none⟩),v'] T (0,0)) ∧
  w'.ownsRow B e 1 v' (bs ++ Lib.strCells y).length (bs ++ Lib.strCells y) ∧ v'.ownBlock ≠ some b ∧ (∀ g,v'.ownBlock = some g → v.ownBlock = some g ∨ w.heap.size ≤ g) ∧
  w'.os = w.os ∧ w'.tape = w.tape ∧ w'.output = w.output ∧ w.heap.size ≤ w'.heap.size ∧ ∀ k,k < w.heap.size → k ≠ b → v.ownBlock ≠ some k → w'.heap[k]? = w.heap[k]?
theorem AA (w:World) (g n k:Nat) (h:k ≠ g):(w.freeze ⟨g,0,none⟩ n).heap[k]? = w.heap[k]?:=by
 unfold World.freeze;split
 ·rfl
 ·simp only [Array.getElem?_modify];rw [if_neg (fun e=>h e.symm)]
theorem Ci (w:World) (a:Addr) (n:Nat):(w.freeze a n).heap.size = w.heap.size:=by
 unfold World.freeze;split
 ·rfl
 ·simp
def vD (v:Value) (w w':World):Prop:=w'.os = w.os ∧ w'.tape = w.tape ∧ w'.output = w.output ∧ w.heap.size ≤ w'.heap.size ∧ ∀ k,k < w.heap.size → v.ownBlock ≠ some k → w'.heap[k]? = w.heap[k]?
set_option maxHeartbeats 2000000 in
set_option maxRecDepth 100000 in
theorem Et (L:Lays.n169 P ρ) (X:Builder.Extra P ρ) (B b:Nat) (l:List UInt8) (w:World) {p v:Value} (hbk:w.heap[b]? = some (.cells #[p,v] (ρ.t 72) (0,0))) (hown:w.ownsRow B (ρ.t 5) 1 v l.length (Lib.byteCells l)) :
  Calls P (ρ.f 169) #[.pointer (some ⟨b,0,none⟩)] w fun e w'=>e = .returned (.string ⟨l.toArray⟩) ∧ vD v w w':=by
 have mixed:=L.mixed;have t5:=X.t5; have t72:=L.t72; have t70:=L.t70; have t37:=L.t37; have t127:=L.t127; have t9:=L.t9; have t3:=L.t3;have a5:=X.a5; have a72:=L.a72; have a70:=L.a70; have a37:=L.a37; have a127:=L.a127; have a9:=L.a9; have a3:=L.a3;have z5:=X.z5; have z72:=L.z72; have z70:=L.z70; have z37:=L.z37; have z127:=L.z127; have z9:=L.z9; have z3:=L.z3;have v5:=X.v5; have v72:=L.v72; have v70:=L.v70; have v37:=L.v37; have v127:=L.v127; have v9:=L.v9; have v3:=L.v3;have u72:=run_underlying L.t72; have u70:=run_underlying L.t70; have u37:=run_underlying L.t37; have u127:=run_underlying L.t127; have u9:=run_underlying L.t9; have u3:=run_underlying L.t3; have u5:=run_underlying X.t5;have hlt:b < w.heap.size:=(Array.getElem?_eq_some_iff.1 hbk).1;have c1:w.drew.cell? ⟨b,1,none⟩ = some v:=by
  have:w.drew.heap[b]? = some (.cells #[p,v] (ρ.t 72) (0,0)):=hbk;rw [Lib.cell_of_heap this]; rfl
 have hk0:vD v w w.drew:=⟨rfl,rfl,rfl,Nat.le_refl _,fun _ _ _=>rfl⟩;have hUS:=Any.unsafeString_none L X;by_cases h0:l = []
 ·subst h0;rcases hown.2 with ⟨rfl,_⟩ | ⟨g,cap,cur,rfl,_,hg,_,_,_,_⟩
  ·have hSD:(Builtin.unsafeSliceData_ #[(ρ.t 37)] (ρ.t 127) #[.slice none 0 0]).run P w.drew = .ok (.pointer none) w.drew:=rfl
   go_enter L.f169,Body.n169_ntmps ρ
   go_wp2
   go_region_o
   all_goals (go_wp2; go_ret; exact ⟨rfl,hk0⟩)
  ·by_cases hc0:cap = 0
   ·subst hc0;have hSD:(Builtin.unsafeSliceData_ #[(ρ.t 37)] (ρ.t 127) #[.slice (some ⟨g,0,none⟩) 0 0]).run P w.drew = .ok (.pointer (some ⟨w.drew.heap.size,0,none⟩)) (w.drew.alloc (.view ⟨g,0,none⟩ (ρ.t 5))):=
     Lib.run_unsafeSliceData_zero w.drew _ _ (ρ.t 5) L.t127 ⟨g,0,none⟩ 0 ((ρ.t 5),cur.size) (by have hg':w.drew.heap[g]? = some (.cells cur (ρ.t 5) (0,0)):=hg; simp [World.shape?,hg'])
    have c2:(w.drew.alloc (.view ⟨g,0,none⟩ (ρ.t 5))).cell? ⟨b,1,none⟩ = some (.slice (some ⟨g,0,none⟩) 0 0):=by
     have:(w.drew.alloc (.view ⟨g,0,none⟩ (ρ.t 5))).heap[b]? = _:=(Lib.alloc_old w.drew _ b hlt).trans hbk;rw [Lib.cell_of_heap this]; rfl
    have c3:(w.alloc (.view ⟨g,0,none⟩ (ρ.t 5))).drew.cell? ⟨b,1,none⟩ = some (.slice (some ⟨g,0,none⟩) 0 0):=c2;have c0:w.cell? ⟨b,1,none⟩ = some (.slice (some ⟨g,0,none⟩) 0 0):=c1;have hk1:vD (.slice (some ⟨g,0,none⟩) 0 0) w (w.drew.alloc (.view ⟨g,0,none⟩ (ρ.t 5))):=⟨rfl,rfl,rfl,by simp,fun k hk _=>Lib.alloc_old w.drew _ k hk⟩
    go_enter L.f169,Body.n169_ntmps ρ
    go_wp2
    go_region_o
    all_goals (go_wp2; go_ret; exact ⟨rfl,hk1⟩)
   ·have hSD:(Builtin.unsafeSliceData_ #[(ρ.t 37)] (ρ.t 127) #[.slice (some ⟨g,0,none⟩) 0 cap]).run P w.drew = .ok (.pointer (some ⟨g,0,none⟩)) w.drew:=
     Lib.run_unsafeSliceData_row _ _ _ _ _ _ hc0
    clear hc0
    go_enter L.f169,Body.n169_ntmps ρ
    go_wp2
    go_region_o
    all_goals (go_wp2; go_ret; exact ⟨rfl,hk0⟩)
 ·have hl0:l.length ≠ 0:=by simpa using h0
  obtain ⟨g,cap,cur,rfl,hbg,hg,hnc,hcm,hcs,htake⟩:∃ g cap cur,v = .slice (some ⟨g,0,none⟩) l.length cap ∧ B ≤ g ∧ w.heap[g]? = some (.cells cur (ρ.t 5) (0,0)) ∧ l.length ≤ cap ∧ cap ≤ maxLen ∧ cur.size = cap * 1 ∧ cur.toList.take (l.length * 1) = Lib.byteCells l:=by
   rcases hown.2 with ⟨_,hz⟩ | ⟨g,cap,cur,hv,r⟩
   ·exact absurd hz hl0
   ·exact ⟨g,cap,cur,hv,r⟩
  have hSD:(Builtin.unsafeSliceData_ #[(ρ.t 37)] (ρ.t 127) #[.slice (some ⟨g,0,none⟩) l.length cap]).run P w.drew = .ok (.pointer (some ⟨g,0,none⟩)) w.drew:=
   Lib.run_unsafeSliceData_row _ _ _ _ _ _ (by omega)
  have hUS2:(Builtin.unsafeString_ #[(ρ.t 127),(ρ.t 3)] (ρ.t 9) #[.pointer (some ⟨g,0,none⟩), .int .i64 l.length]).run P w.drew = .ok (.string ⟨l.toArray⟩) (w.drew.freeze ⟨g,0,none⟩ l.length):=by
   refine Lib.run_unsafeString_row w.drew (ρ.t 127) (ρ.t 3) (ρ.t 9) (ρ.t 5) L.t127 X.cellsByte g cur.size (by have hg':w.drew.heap[g]? = some (.cells cur (ρ.t 5) (0,0)):=hg; simp [World.shape?,hg']) l h0 (by omega) (by unfold maxLen at hcm; omega) ?_;intro j x hx;have:=hown.cells (g:=g) rfl j (.int .u8 x.toNat) (by simp [Lib.byteCells,hx]);exact this
  have hk2:vD (.slice (some ⟨g,0,none⟩) l.length cap) w (w.drew.freeze ⟨g,0,none⟩ l.length):=
   ⟨by unfold World.freeze; split <;> rfl,by unfold World.freeze; split <;> rfl,by unfold World.freeze; split <;> rfl,by rw [Ci]; exact Nat.le_refl _,fun k hk hne=>AA w.drew g _ k (fun e=>hne (by simp [Value.ownBlock,e]))⟩
  clear hUS
  go_enter L.f169,Body.n169_ntmps ρ
  go_wp2
  go_region_o
  all_goals (go_wp2; go_ret; exact ⟨rfl,hk2⟩)
/-! ### The contracts on the abstract heap -/
theorem Spec.J1 {W:FuncId} (H:∀ (B b:Nat) (bs:List Value) (y:ByteArray) (w:World) (p v:Value),DC b p → w.heap[b]? = some (.cells #[p,v] uY.1 (0,0)) → w.ownsRow B uY.2 1 v bs.length bs → v.ownBlock ≠ some b → bs.length + y.size ≤ 140737488355328 → B ≤ w.heap.size →
   Calls P W #[.pointer (some ⟨b,0,none⟩), .string y] w (Bx uY.1 uY.2 B b bs y w v))
  (b k:Nat) (bs:List UInt8) (y:ByteArray) (σ:af) (hb:σ[b]? = some (.bld k bs)) (hlen:bs.length + y.size ≤ 140737488355328) :
  Spec P W [.ptr b 0, .str y] σ fun r σ'=>r = .ret (.tup [.int .i64 y.size, .niliface]) ∧ σ' = σ.set b (.bld (k + 1) (bs ++ y.data.toList)):=by
 intro A s cargs hh hi ha;subst hh;obtain ⟨c,d,rfl,hc,hd⟩:=ha.two;obtain rfl:=hd.lh;obtain ⟨hno,blk,v,hl0,hv,⟨hB,⟨p,hp,hbk⟩,hrow,hne⟩,hnS,hgS⟩:=hi.obj b _ hb
 cases hc with
 | ptr _ _ blk' hl'=>
 have:blk' = blk:=by rw [hl0] at hl'; simpa using hl'.symm
 subst this;have hlen0:(bs.map fun b=>Value.int .u8 b.toNat).length = bs.length:=by simp
 rw [← hlen0] at hrow;refine (H A.heap.size blk' _ y s.w p v hp hbk hrow hne (by rw [hlen0]; exact hlen) hi.below.size).mono ?_;rintro e w' ⟨rfl,v',hbk',hrow',hne',hwh,q1,q2,q3,q4,q5⟩;have hblt:b < s.h.length:=(List.getElem?_eq_some_iff.1 hb).1
 let s':St:={ h:=s.h.set b (.bld (k + 1) (bs ++ y.data.toList)),lam:=bG s.lam b (k + 2) v',S:=s.S,w:=w' }
 have hk:bq s s':=⟨bp (hno _ (by omega)),fun _ _ h=>h,fun g o hs=>World.cell?_of_block (a:=⟨g,o,none⟩) (q5 g (hi.scell g o hs) (fun e=>hnS o (e ▸ hs)) (fun e=>hgS g e o hs))⟩;have hl1:s'.lam b 0 = some (.pointer (some ⟨blk',0,none⟩)):=(aJ (.inr (by omega))).trans hl0;have hl2:s'.lam b (k + 1 + 1) = some v':=aM _ _ _ _;have hown:dA s b (.bld k bs) blk':=.inl hl0;have hog:∀ g,v.ownBlock = some g → dA s b (.bld k bs) g:=fun g e=>.inr ⟨v,hv,e⟩;have hvlt:=hrow.lt;have hgo:=hi.change (s':=s') hblt rfl hk (hi.below.trans ⟨q1,q2,q3,q4,fun g hg=>q5 g (by have:=hi.below.size; omega) (by omega) (fun e=>by have:=(hvlt g e).1; omega)⟩) q4 (fun b' k hne=>aJ (.inl hne))
  (fun g hlt hno=>q5 g hlt (fun e=>hno ⟨_,hb,e ▸ hown⟩) (fun e=>hno ⟨_,hb,hog g e⟩))
  ⟨fun k' hk'=>(aJ (.inr (by omega))).trans (hno k' (by omega)),blk',v',hl1,hl2,⟨hB,⟨_, .inr rfl,hbk'⟩,by
    have e1:((bs ++ y.data.toList).map fun b=>Value.int .u8 b.toNat) = (bs.map fun b=>Value.int .u8 b.toNat) ++ Lib.strCells y:=by simp [Lib.strCells]
    have e2:(bs ++ y.data.toList).length = ((bs.map fun b=>Value.int .u8 b.toNat) ++ Lib.strCells y).length:=by rw [← e1]; simp
    rw [e1,e2]; exact hrow',hne'⟩,hnS,fun g e o hs=>by
    rcases hwh g e with h | h
    ·exact hgS g h o hs
    ·have:=hi.scell _ _ hs; omega⟩
  (fun g ho=>by
   rcases ho with e | ⟨u,e1,e2⟩
   ·rw [hl1] at e;have:blk' = g:=by simpa using e
    subst this; exact .inr ⟨_,hb,hown⟩
   ·rw [hl2] at e1;have:=Option.some.inj e1;subst this;rcases hwh g e2 with h | h
    ·exact .inr ⟨_,hb,hog g h⟩
    ·exact .inl h)
  (fun g x h=>.inl h) (fun g x h=>by have:=hi.scell _ _ h; show g < w'.heap.size; omega)
 refine ⟨_,s',rfl,hgo.1,hgo.2, ?_,rfl,rfl⟩;refine .tup _ _ rfl fun j h1 h2=>?_
 match j,h1 with
 | 0,_=>exact .int _ _
 | 1,_=>exact .niliface
theorem Spec.built (L:Lays.n169 P ρ) (X:Builder.Extra P ρ) (hT:uY = (ρ.t 72,ρ.t 5)) (b k:Nat) (bs:List UInt8) (σ:af) (hb:σ[b]? = some (.bld k bs)) :
  Spec P (ρ.f 169) [.ptr b 0] σ fun r σ'=>r = .ret (.str ⟨bs.toArray⟩) ∧ σ' = σ.set b .dead:=by
 intro A s cargs hh hi ha;subst hh;obtain ⟨c,rfl,hc⟩:=ha.one;obtain ⟨hno,blk,v,hl0,hv,⟨hB,⟨p,hp,hbk⟩,hrow,hne⟩,hnS,hgS⟩:=hi.obj b _ hb
 cases hc with
 | ptr _ _ blk' hl'=>
 have:blk' = blk:=by rw [hl0] at hl'; simpa using hl'.symm
 subst this;rw [hT] at hbk hrow;refine (Et L X A.heap.size blk' bs s.w hbk hrow).mono ?_;rintro e w' ⟨rfl,q1,q2,q3,q4,q5⟩;have hblt:b < s.h.length:=(List.getElem?_eq_some_iff.1 hb).1
 let s':St:={ h:=s.h.set b .dead,lam:=s.lam,S:=s.S,w:=w' }
 have hog:∀ g,v.ownBlock = some g → dA s b (.bld k bs) g:=fun g e=>.inr ⟨v,hv,e⟩;have hk:bq s s':=⟨fun _ _ _ h=>h,fun _ _ h=>h,fun g o hs=>World.cell?_of_block (a:=⟨g,o,none⟩) (q5 g (hi.scell g o hs) (fun e=>hgS g e o hs))⟩;have hvlt:=hrow.lt;have hgo:=hi.change (s':=s') hblt rfl hk (hi.below.trans ⟨q1,q2,q3,q4,fun g hg=>q5 g (by have:=hi.below.size; omega) (fun e=>by have:=(hvlt g e).1; omega)⟩) q4 (fun b' k hne=>rfl)
  (fun g hlt hno=>q5 g hlt (fun e=>hno ⟨_,hb,hog g e⟩)) trivial (fun g ho=>ho.elim)
  (fun g x h=>.inl h) (fun g x h=>by have:=hi.scell _ _ h; show g < w'.heap.size; omega)
 exact ⟨.ret (.str _),s',rfl,hgo.1,hgo.2,Rv.str _,rfl,rfl⟩
end
open Go.RowKit Go.Shelf Go.Proofs Go.Sort
section
variable {P:Program} {ρ:Ren}
def bytes (l:List UInt8):ByteArray:=⟨l.toArray⟩
def Ms (l:List ByteArray) (sep:ByteArray):ByteArray:=bytes (Lib.join (l.map fun x=>x.data.toList) sep.data.toList)
theorem Spec.join (L:Lays.n156 P ρ) (X:Builder.Extra P ρ) (l:List ByteArray) (sep:ByteArray) (hN:l.length ≤ 140737488355328) (hlen:(Lib.join (l.map fun x=>x.data.toList) sep.data.toList).length ≤ 140737488355328) (σ:af) :
  Spec P (ρ.f 156) [.slice 1 (l.map .str), .str sep] σ fun r σ'=>r = .ret (.str (Ms l sep)) ∧ σ' = σ:=by
 refine Spec.sE fun A s cargs h1 h2 h3=>?_;obtain ⟨c,d,rfl,hc,hd⟩:=h3.two;obtain rfl:=hd.lh;obtain ⟨a,cap,rfl,hx⟩:=hc.IJ;by_cases hl:l = []
 ·subst hl;refine (Any.strings_Join_none L X a cap sep s.w).mono ?_;rintro e w' ⟨rfl,rfl⟩;exact ⟨Below.refl _ _,_,rfl,fun s'=>.str _⟩
 ·obtain ⟨blk,off,rfl,hcap,hcell⟩:=hx.resolve_left hl;have h0:0 < l.length:=by cases l with
   | nil=>exact absurd rfl hl
   | cons=>simp
  have hb:=h2.scell _ _ (hcell 0 l[0] (List.getElem?_eq_getElem h0)).1;refine (Any.strings_Join L X blk off cap l sep s.w (fun j x hj=>(hcell j x hj).2) hb hN hcap hlen).mono ?_;rintro e w' ⟨rfl,hb'⟩;exact ⟨hb',_,rfl,fun s'=>.str _⟩
theorem DZ (w:World) (n:Nat) (os:Array Obj):Below w.heap.size w (grow (w.drewN n) os):=
 ⟨rfl,rfl,rfl,by simp [grow,World.drewN],fun k hk=>by
  have:(w.drewN n).heap = w.heap:=rfl;simp only [grow,this]
  rw [Array.getElem?_append_left hk]⟩
theorem MV {A:World} {s:St} (hi:Inv A s) {g:Nat} {name:String} {k:IntKind} {zs:List Int} (hg:P.globalNamed name = some g) (hm:(g,zs.map fun z=>(k,z)) ∈ ew) (h0:zs ≠ []):Lib.TabIs P s.w name k zs:=by
 have h1:=hi.laid.1 g _ hm;have h2:=(hi.laid.2.2 g _ hm).2;have hz:0 < zs.length:=by cases zs with
  | nil=>exact absurd rfl h0
  | cons=>simp
 have hc0:=(h1 0 (by simpa using hz)).2;unfold Lib.TabIs World.var?;rw [hg];simp only [Option.bind_some];simp only [World.cell?] at hc0 h2
 cases hh:s.w.heap[g]? with
 | none=>rw [hh] at hc0; simp at hc0
 | some o=>
  cases o with
  | cells cs el fz=>
   rw [hh] at h2;simp only [Option.some.injEq];simp at h2;apply Array.ext_getElem?;intro j;by_cases hj:j < zs.length
   ·have:=(h1 j (by simpa using hj)).2;simp only [World.cell?,hh] at this;simp at this;rw [this];simp [hj]
   ·rw [Array.getElem?_eq_none (by omega),Array.getElem?_eq_none (by simp; omega)]
  | _=>rw [hh] at hc0; simp at hc0
theorem Spec.itoa (L : LaysM.n171 P ρ) (hg : P.globalNamed "internal/strconv.uint64pow10" = some 1) (hm : (1, Lib.pow10Tab.map fun z => (IntKind.u64, z)) ∈ ew) (n : Int) (h0 : -9223372036854775808 ≤ n) (h1 : n ≤ 9223372036854775807) (σ : af) :
  Spec P (ρ.f 171) [.int .i64 n] σ fun r σ'=>r = .ret (.str (bytes (Lib.itoa n))) ∧ σ' = σ:=by
 refine Spec.sE fun A s cargs g1 g2 g3=>?_;obtain ⟨c,rfl,hc⟩:=g3.one;obtain rfl:=hc.AK;refine (Any.strconv_Itoa L n h0 h1 s.w (MV g2 hg hm (by decide))).mono ?_;rintro e w' ⟨rfl,k,os,rfl⟩;exact ⟨DZ _ _ _,_,rfl,fun s'=>.str _⟩
theorem G7 {A:World} {s:St} (hi:Inv A s) {g:Nat} (hm:(g,0) ∈ gk):∃ m,s.w.cell? ⟨g,0,none⟩ = some (.int .i64 m):=by
 obtain ⟨_,v,hv,m,rfl⟩:=hi.laid.2.1 g 0 hm;exact ⟨m,hv⟩
theorem H5 {A:World} {s:St} (hi:Inv A s) {g:Nat} (hm:(g,1) ∈ gk):∃ ev,s.w.cell? ⟨g,0,none⟩ = some ev ∧ (ev = .nilIface ∨ ∃ te pe,ev = .iface te pe):=by
 obtain ⟨_,v,hv,te,pe,rfl⟩:=hi.laid.2.1 g 1 hm;exact ⟨_,hv, .inr ⟨te,pe,rfl⟩⟩
theorem Spec.cut (L:Lays.n145 P ρ) (hm:(ρ.g 1,0) ∈ gk) (x sep:ByteArray) (hx:x.size < 4294967281) (σ:af) :
  Spec P (ρ.f 145) [.str x, .str sep] σ fun r σ'=>r = .ret (.tup [.str (bytes (Lib.cut x.data.toList sep.data.toList).1), .str (bytes (Lib.cut x.data.toList sep.data.toList).2.1), .bool (Lib.cut x.data.toList sep.data.toList).2.2]) ∧ σ' = σ:=by
 refine Spec.sE fun A s cargs g1 g2 g3=>?_;obtain ⟨c,d,rfl,hc,hd⟩:=g3.two;obtain rfl:=hc.lh;obtain rfl:=hd.lh;obtain ⟨m,hmc⟩:=G7 g2 hm;refine (Any.strings_Cut L x sep m s.w hx hmc).mono ?_;rintro e w' ⟨rfl,n,rfl⟩;refine ⟨⟨rfl,rfl,rfl,Nat.le_refl _,fun _ _=>rfl⟩,_,rfl,fun s'=>.tup _ _ rfl fun j h1 h2=>?_⟩
 match j,h1 with
 | 0,_=>exact .str _
 | 1,_=>exact .str _
 | 2,_=>exact .bool _
def ly (x sep:ByteArray):List ByteArray:=Lib.splitB sep 0 (Lib.countB x sep) x
theorem Spec.split (L:Lays.n146 P ρ) (hi9:(P.info? (ρ.t 9)).map (fun i=>(i.zero,i.size,i.bytes)) = some (some (.string ByteArray.empty),1,16)) (hm:(ρ.g 1,0) ∈ gk) (x sep:ByteArray) (hx:x.size < 4294967281) (h1:1 ≤ sep.size) (σ:af) :
  Spec P (ρ.f 146) [.str x, .str sep] σ fun r σ'=>r = .ret (.slice 1 ((ly x sep).map .str)) ∧ σ' = σ:=by
 intro A s cargs g1 g2 g3;obtain ⟨c,d,rfl,hc,hd⟩:=g3.two;obtain rfl:=hc.lh;obtain rfl:=hd.lh;obtain ⟨m,hmc⟩:=G7 g2 hm;refine (Any.strings_Split L hi9 x sep m s.w hx hmc h1).mono ?_;rintro e w' ⟨rfl,rfl⟩;have hlen:(ly x sep).length = Lib.countB x sep + 1:=Lib.splitB_all sep h1 0 _ x rfl;have hbel:Below s.w.heap.size s.w (s.w.alloc (.cells ((ly x sep).map Value.string).toArray (ρ.t 9))):=(Below.refl _ _).alloc (Nat.le_refl _) _
 obtain ⟨s',e1,e2,i',g',hS⟩:=g2.FZ hbel (blk:=s.w.heap.size) (Nat.le_refl _) ((ly x sep).map Value.string) (fun j hj=>by
  rw [World.cell?_alloc_new]
  simp)
 refine ⟨.ret (.slice 1 ((ly x sep).map .str)),s',e2,i',g', ?_,rfl,e1.trans g1⟩;show Rv s' _ _;rw [← hlen];refine HV (Nat.le_refl _) (fun j hj=>hS j (by simpa using hj)) (fun j hj=>?_);rw [e2];show (s.w.alloc _).cell? _ = _;rw [World.cell?_alloc_new];simp [ly] at hj ⊢
def wj (x:ByteArray) (te:TypeId):ag:=
 match Lib.atoiAll x.data.toList with
 | .ok v=>.tup [.int .i64 v, .niliface]
 | .range=>.tup [.int .i64 (Lib.atoiSat x.data.toList), .iface te .undef]
 | _=>.tup [.int .i64 0, .iface te .undef]
theorem CZ (w:World) (e:TypeId) (t:ByteArray):Below w.heap.size w (Lib.bytesWorld w e t):=
 Lib.below_freeze (((Below.refl _ w).drew).alloc (Nat.le_refl _) _) (p:=⟨w.heap.size,_,none⟩) (Nat.le_refl _) _
theorem Spec.atoi (L:LaysC.n172 P ρ) (h15:(ρ.g 15,1) ∈ gk) (h16:(ρ.g 16,1) ∈ gk) (x:ByteArray) (hx:x.size ≤ 281474976710656) (σ:af) :
  Spec P (ρ.f 172) [.str x] σ fun r σ'=>r = .ret (wj x (ρ.t 168)) ∧ σ' = σ:=by
 refine Spec.sE fun A s cargs g1 g2 g3=>?_;obtain ⟨c,rfl,hc⟩:=g3.one;obtain rfl:=hc.lh;unfold wj
 cases ha:Lib.atoiAll x.data.toList with
 | ok v=>
  refine (Any.strconv_Atoi_ok L x (by omega) v ha s.w).mono ?_;rintro e w' ⟨rfl,hw⟩;refine ⟨?_,_,rfl,fun s'=>.tup _ _ rfl fun j h1 h2=>?_⟩
  ·rcases hw with rfl | ⟨t,rfl⟩
   ·exact Below.refl _ _
   ·exact CZ _ _ _
  ·match j,h1 with
   | 0,_=>exact .int _ _
   | 1,_=>exact .niliface
 | range=>
  obtain ⟨ev,hv,hev⟩:=H5 g2 h16;refine (Any.strconv_Atoi_range L x hx ha ev s.w hv hev).mono ?_;rintro e w' ⟨N,rfl,_,_,hb⟩;refine ⟨hb,_,rfl,fun s'=>.tup _ _ rfl fun j h1 h2=>?_⟩
  match j,h1 with
  | 0,_=>exact .int _ _
  | 1,_=>exact .iface _ _ _ (.undef _)
 | _=>
  obtain ⟨ev,hv,hev⟩:=H5 g2 h15;refine (Any.strconv_Atoi_syntax L x hx ha ev s.w hv hev).mono ?_;rintro e w' ⟨N,rfl,_,_,hb⟩;refine ⟨hb,_,rfl,fun s'=>.tup _ _ rfl fun j h1 h2=>?_⟩
  match j,h1 with
  | 0,_=>exact .int _ _
  | 1,_=>exact .iface _ _ _ (.undef _)
end
open Go.RowKit Go.Shelf Go.Proofs Go.Sort
section
variable {P:Program} {ρ:Ren}
theorem Gu {s:St} {b n blk cap:Nat} {c:Value} (hc:Rv s (.sref 1 b 0 n n) c) (h0:0 < n) (hl:s.lam b n = some (.slice (some ⟨blk,0,none⟩) n cap)):c = .slice (some ⟨blk,0,none⟩) n cap:=by
 cases hc with
 | sref _ _ _ _ _ blk' cap' h1 h2 h3=>
  rw [hl] at h1;simp at h1;rw [h1.1,h1.2]; simp
 | sref0=>omega
 | srefE=>omega
end
end Go.AM
namespace Go.Proofs
open Go.Shelf
def Tryz.uG:Go.Shelf.Ren:=⟨fun | 169=>149 | n=>n,fun | 70=>190 | 9=>9 | 0=>0 | 72=>193 | 37=>191 | 127=>228 | 3=>3 | 5=>5 | n=>n,fun | n=>n⟩
theorem Tryz.Kr:Go.Proofs.Lays.n169 Tryz.prog Tryz.uG:={
 mixed:=by kernel_rfl
 f169:=Tryz.func149.trans (congrArg some (by kernel_rfl))
 t0:=Tryz.underlying0
 a0:=Tryz.isAgg0
 z0:=Tryz.sizeOf0
 v0:=Tryz.zeroValue0
 t3:=Tryz.underlying3
 a3:=Tryz.isAgg3
 z3:=Tryz.sizeOf3
 v3:=Tryz.zeroValue3
 t9:=Tryz.underlying9
 a9:=Tryz.isAgg9
 z9:=Tryz.sizeOf9
 v9:=Tryz.zeroValue9
 t37:=Tryz.underlying191
 a37:=Tryz.isAgg191
 z37:=Tryz.sizeOf191
 v37:=Tryz.zeroValue191
 t70:=Tryz.underlying190
 a70:=Tryz.isAgg190
 z70:=Tryz.sizeOf190
 v70:=Tryz.zeroValue190
 t72:=Tryz.underlying193
 a72:=Tryz.isAgg193
 z72:=Tryz.sizeOf193
 v72:=Tryz.zeroValue193
 t127:=Tryz.underlying228
 a127:=Tryz.isAgg228
 z127:=Tryz.sizeOf228
 v127:=Tryz.zeroValue228 }
theorem Tryz.rR:Builder.Extra Tryz.prog Tryz.uG:={
 sizeBuilder:=by kernel_rfl
 liesBuilder:=by kernel_rfl
 t5:=Tryz.underlying5
 a5:=Tryz.isAgg5
 z5:=Tryz.sizeOf5
 v5:=Tryz.zeroValue5
 infoByte:=by kernel_rfl
 cellsByte:=by kernel_rfl
 sizeByte:=by kernel_rfl
 neB5:=by decide }
def Tryz.uV:Go.Shelf.Ren:=⟨fun | 156=>145 | 165=>185 | 166=>144 | 169=>149 | 240=>184 | 241=>199 | 276=>198 | 277=>211 | n=>n,fun | 31=>22 | 9=>9 | 3=>3 | 4=>4 | 0=>0 | 20=>20 | 72=>193 | 76=>196 | 70=>190 | 37=>191 | 75=>195 | 127=>228 | 164=>237 | 5=>5 | 80=>115 | n=>n,fun | n=>n⟩
theorem Tryz.K2:Go.Proofs.Lays.n156 Tryz.prog Tryz.uV:={
 mixed:=by kernel_rfl
 f156:=Tryz.func145.trans (congrArg some (by kernel_rfl))
 f165:=Tryz.func185.trans (congrArg some (by kernel_rfl))
 f166:=Tryz.func144.trans (congrArg some (by kernel_rfl))
 f169:=Tryz.func149.trans (congrArg some (by kernel_rfl))
 f240:=Tryz.func184.trans (congrArg some (by kernel_rfl))
 f241:=Tryz.func199.trans (congrArg some (by kernel_rfl))
 f276:=Tryz.func198.trans (congrArg some (by kernel_rfl))
 f277:=Tryz.func211.trans (congrArg some (by kernel_rfl))
 t0:=Tryz.underlying0
 a0:=Tryz.isAgg0
 z0:=Tryz.sizeOf0
 v0:=Tryz.zeroValue0
 t3:=Tryz.underlying3
 a3:=Tryz.isAgg3
 z3:=Tryz.sizeOf3
 v3:=Tryz.zeroValue3
 t4:=Tryz.underlying4
 a4:=Tryz.isAgg4
 z4:=Tryz.sizeOf4
 v4:=Tryz.zeroValue4
 t9:=Tryz.underlying9
 a9:=Tryz.isAgg9
 z9:=Tryz.sizeOf9
 v9:=Tryz.zeroValue9
 t20:=Tryz.underlying20
 a20:=Tryz.isAgg20
 z20:=Tryz.sizeOf20
 v20:=Tryz.zeroValue20
 t31:=Tryz.underlying22
 a31:=Tryz.isAgg22
 z31:=Tryz.sizeOf22
 v31:=Tryz.zeroValue22
 t37:=Tryz.underlying191
 a37:=Tryz.isAgg191
 z37:=Tryz.sizeOf191
 v37:=Tryz.zeroValue191
 t70:=Tryz.underlying190
 a70:=Tryz.isAgg190
 z70:=Tryz.sizeOf190
 v70:=Tryz.zeroValue190
 t72:=Tryz.underlying193
 a72:=Tryz.isAgg193
 z72:=Tryz.sizeOf193
 v72:=Tryz.zeroValue193
 t75:=Tryz.underlying195
 a75:=Tryz.isAgg195
 z75:=Tryz.sizeOf195
 v75:=Tryz.zeroValue195
 t76:=Tryz.underlying196
 a76:=Tryz.isAgg196
 z76:=Tryz.sizeOf196
 v76:=Tryz.zeroValue196
 t127:=Tryz.underlying228
 a127:=Tryz.isAgg228
 z127:=Tryz.sizeOf228
 v127:=Tryz.zeroValue228
 t164:=Tryz.underlying237
 a164:=Tryz.isAgg237
 z164:=Tryz.sizeOf237
 v164:=Tryz.zeroValue237 }
theorem Tryz.tn:Builder.Extra Tryz.prog Tryz.uV:={
 sizeBuilder:=by kernel_rfl
 liesBuilder:=by kernel_rfl
 t5:=Tryz.underlying5
 a5:=Tryz.isAgg5
 z5:=Tryz.sizeOf5
 v5:=Tryz.zeroValue5
 infoByte:=by kernel_rfl
 cellsByte:=by kernel_rfl
 sizeByte:=by kernel_rfl
 neB5:=by decide }
def Tryz.Ad:Go.Shelf.Ren:=⟨fun | 171=>147 | 243=>186 | 246=>200 | 283=>212 | 284=>213 | 285=>214 | 286=>215 | 129=>181 | 317=>224 | 318=>225 | 319=>226 | 320=>227 | 337=>231 | 338=>232 | n=>n,fun | 3=>3 | 9=>9 | 2=>2 | 4=>4 | 171=>247 | 0=>0 | 53=>225 | 37=>191 | 5=>5 | 173=>249 | 212=>260 | 51=>80 | 20=>20 | 213=>261 | 46=>184 | 232=>276 | 233=>277 | n=>n,fun | 17=>1 | 18=>6 | 19=>7 | n=>n⟩
theorem Tryz.JK:Go.Proofs.LaysM.n171 Tryz.prog Tryz.Ad:={
 mixed:=by kernel_rfl
 f129:=Tryz.func181.trans (congrArg some (by kernel_rfl))
 f171:=Tryz.func147.trans (congrArg some (by kernel_rfl))
 f243:=Tryz.func186.trans (congrArg some (by kernel_rfl))
 f246:=Tryz.func200.trans (congrArg some (by kernel_rfl))
 f283:=Tryz.func212.trans (congrArg some (by kernel_rfl))
 f284:=Tryz.func213.trans (congrArg some (by kernel_rfl))
 f285:=Tryz.func214.trans (congrArg some (by kernel_rfl))
 f286:=Tryz.func215.trans (congrArg some (by kernel_rfl))
 f317:=Tryz.func224.trans (congrArg some (by kernel_rfl))
 f318:=Tryz.func225.trans (congrArg some (by kernel_rfl))
 f319:=Tryz.func226.trans (congrArg some (by kernel_rfl))
 f320:=Tryz.func227.trans (congrArg some (by kernel_rfl))
 f337:=Tryz.func231.trans (congrArg some (by kernel_rfl))
 f338:=Tryz.func232.trans (congrArg some (by kernel_rfl))
 t0:=Tryz.underlying0
 a0:=Tryz.isAgg0
 z0:=Tryz.sizeOf0
 v0:=Tryz.zeroValue0
 t2:=Tryz.underlying2
 a2:=Tryz.isAgg2
 z2:=Tryz.sizeOf2
 v2:=Tryz.zeroValue2
 t3:=Tryz.underlying3
 a3:=Tryz.isAgg3
 z3:=Tryz.sizeOf3
 v3:=Tryz.zeroValue3
 t4:=Tryz.underlying4
 a4:=Tryz.isAgg4
 z4:=Tryz.sizeOf4
 v4:=Tryz.zeroValue4
 t5:=Tryz.underlying5
 a5:=Tryz.isAgg5
 z5:=Tryz.sizeOf5
 v5:=Tryz.zeroValue5
 t9:=Tryz.underlying9
 a9:=Tryz.isAgg9
 z9:=Tryz.sizeOf9
 v9:=Tryz.zeroValue9
 t20:=Tryz.underlying20
 a20:=Tryz.isAgg20
 z20:=Tryz.sizeOf20
 v20:=Tryz.zeroValue20
 t37:=Tryz.underlying191
 a37:=Tryz.isAgg191
 z37:=Tryz.sizeOf191
 v37:=Tryz.zeroValue191
 t46:=Tryz.underlying184
 a46:=Tryz.isAgg184
 z46:=Tryz.sizeOf184
 v46:=Tryz.zeroValue184
 t51:=Tryz.underlying80
 a51:=Tryz.isAgg80
 z51:=Tryz.sizeOf80
 v51:=Tryz.zeroValue80
 t53:=Tryz.underlying225
 a53:=Tryz.isAgg225
 z53:=Tryz.sizeOf225
 v53:=Tryz.zeroValue225
 t171:=Tryz.underlying247
 a171:=Tryz.isAgg247
 z171:=Tryz.sizeOf247
 v171:=Tryz.zeroValue247
 t173:=Tryz.underlying249
 a173:=Tryz.isAgg249
 z173:=Tryz.sizeOf249
 v173:=Tryz.zeroValue249
 t212:=Tryz.underlying260
 a212:=Tryz.isAgg260
 z212:=Tryz.sizeOf260
 v212:=Tryz.zeroValue260
 t213:=Tryz.underlying261
 a213:=Tryz.isAgg261
 z213:=Tryz.sizeOf261
 t232:=Tryz.underlying276
 a232:=Tryz.isAgg276
 z232:=Tryz.sizeOf276
 v232:=Tryz.zeroValue276
 t233:=Tryz.underlying277
 a233:=Tryz.isAgg277
 z233:=Tryz.sizeOf277
 v233:=Tryz.zeroValue277
 g17:=by kernel_rfl
 g18:=by kernel_rfl
 g19:=by kernel_rfl
 i0:=by kernel_rfl
 i2:=by kernel_rfl
 i3:=by kernel_rfl
 i4:=by kernel_rfl
 i5:=by kernel_rfl
 i9:=by kernel_rfl
 i20:=by kernel_rfl
 i37:=by kernel_rfl
 i46:=by kernel_rfl
 i51:=by kernel_rfl
 i53:=by kernel_rfl
 i171:=by kernel_rfl
 i173:=by kernel_rfl
 i212:=by kernel_rfl
 i232:=by kernel_rfl
 i233:=by kernel_rfl
 m17:=by kernel_rfl
 m18:=by kernel_rfl
 m19:=by kernel_rfl }
def Tryz.AF:Go.Shelf.Ren:=⟨fun | 172=>188 | 244=>205 | 245=>206 | 247=>218 | 279=>219 | 280=>220 | 281=>221 | 282=>222 | 287=>228 | 316=>229 | 171=>147 | 205=>230 | 321=>233 | 322=>234 | 243=>186 | 246=>200 | 283=>212 | 284=>213 | 285=>214 | 286=>215 | 129=>181 | 317=>224 | 318=>225 | 319=>226 | 320=>227 | 337=>231 | 338=>232 | n=>n,fun | 9=>9 | 3=>3 | 75=>195 | 76=>196 | 4=>4 | 5=>5 | 167=>253 | 37=>191 | 0=>0 | 85=>254 | 2=>2 | 168=>256 | 53=>225 | 175=>262 | 46=>184 | 210=>266 | 127=>228 | 145=>275 | 143=>273 | 21=>21 | 171=>247 | 173=>249 | 212=>260 | 51=>80 | 20=>20 | 213=>261 | 232=>276 | 233=>277 | 80=>115 | n=>n,fun | 15=>2 | 16=>3 | 17=>1 | 18=>6 | 19=>7 | n=>n⟩
theorem Tryz.HE:Go.Proofs.LaysC.n172 Tryz.prog Tryz.AF:={
 mixed:=by kernel_rfl
 f129:=Tryz.func181.trans (congrArg some (by kernel_rfl))
 f171:=Tryz.func147.trans (congrArg some (by kernel_rfl))
 f172:=Tryz.func188.trans (congrArg some (by kernel_rfl))
 f205:=Tryz.func230.trans (congrArg some (by kernel_rfl))
 f243:=Tryz.func186.trans (congrArg some (by kernel_rfl))
 f244:=Tryz.func205.trans (congrArg some (by kernel_rfl))
 f245:=Tryz.func206.trans (congrArg some (by kernel_rfl))
 f246:=Tryz.func200.trans (congrArg some (by kernel_rfl))
 f247:=Tryz.func218.trans (congrArg some (by kernel_rfl))
 f279:=Tryz.func219.trans (congrArg some (by kernel_rfl))
 f280:=Tryz.func220.trans (congrArg some (by kernel_rfl))
 f281:=Tryz.func221.trans (congrArg some (by kernel_rfl))
 f282:=Tryz.func222.trans (congrArg some (by kernel_rfl))
 f283:=Tryz.func212.trans (congrArg some (by kernel_rfl))
 f284:=Tryz.func213.trans (congrArg some (by kernel_rfl))
 f285:=Tryz.func214.trans (congrArg some (by kernel_rfl))
 f286:=Tryz.func215.trans (congrArg some (by kernel_rfl))
 f287:=Tryz.func228.trans (congrArg some (by kernel_rfl))
 f316:=Tryz.func229.trans (congrArg some (by kernel_rfl))
 f317:=Tryz.func224.trans (congrArg some (by kernel_rfl))
 f318:=Tryz.func225.trans (congrArg some (by kernel_rfl))
 f319:=Tryz.func226.trans (congrArg some (by kernel_rfl))
 f320:=Tryz.func227.trans (congrArg some (by kernel_rfl))
 f321:=Tryz.func233.trans (congrArg some (by kernel_rfl))
 f322:=Tryz.func234.trans (congrArg some (by kernel_rfl))
 f337:=Tryz.func231.trans (congrArg some (by kernel_rfl))
 f338:=Tryz.func232.trans (congrArg some (by kernel_rfl))
 t0:=Tryz.underlying0
 a0:=Tryz.isAgg0
 z0:=Tryz.sizeOf0
 v0:=Tryz.zeroValue0
 t2:=Tryz.underlying2
 a2:=Tryz.isAgg2
 z2:=Tryz.sizeOf2
 v2:=Tryz.zeroValue2
 t3:=Tryz.underlying3
 a3:=Tryz.isAgg3
 z3:=Tryz.sizeOf3
 v3:=Tryz.zeroValue3
 t4:=Tryz.underlying4
 a4:=Tryz.isAgg4
 z4:=Tryz.sizeOf4
 v4:=Tryz.zeroValue4
 t5:=Tryz.underlying5
 a5:=Tryz.isAgg5
 z5:=Tryz.sizeOf5
 v5:=Tryz.zeroValue5
 t9:=Tryz.underlying9
 a9:=Tryz.isAgg9
 z9:=Tryz.sizeOf9
 v9:=Tryz.zeroValue9
 t20:=Tryz.underlying20
 a20:=Tryz.isAgg20
 z20:=Tryz.sizeOf20
 v20:=Tryz.zeroValue20
 t21:=Tryz.underlying21
 a21:=Tryz.isAgg21
 z21:=Tryz.sizeOf21
 v21:=Tryz.zeroValue21
 t37:=Tryz.underlying191
 a37:=Tryz.isAgg191
 z37:=Tryz.sizeOf191
 v37:=Tryz.zeroValue191
 t46:=Tryz.underlying184
 a46:=Tryz.isAgg184
 z46:=Tryz.sizeOf184
 v46:=Tryz.zeroValue184
 t51:=Tryz.underlying80
 a51:=Tryz.isAgg80
 z51:=Tryz.sizeOf80
 v51:=Tryz.zeroValue80
 t53:=Tryz.underlying225
 a53:=Tryz.isAgg225
 z53:=Tryz.sizeOf225
 v53:=Tryz.zeroValue225
 t75:=Tryz.underlying195
 a75:=Tryz.isAgg195
 z75:=Tryz.sizeOf195
 v75:=Tryz.zeroValue195
 t76:=Tryz.underlying196
 a76:=Tryz.isAgg196
 z76:=Tryz.sizeOf196
 v76:=Tryz.zeroValue196
 t85:=Tryz.underlying254
 a85:=Tryz.isAgg254
 z85:=Tryz.sizeOf254
 v85:=Tryz.zeroValue254
 t127:=Tryz.underlying228
 a127:=Tryz.isAgg228
 z127:=Tryz.sizeOf228
 v127:=Tryz.zeroValue228
 t143:=Tryz.underlying273
 a143:=Tryz.isAgg273
 z143:=Tryz.sizeOf273
 v143:=Tryz.zeroValue273
 t145:=Tryz.underlying275
 a145:=Tryz.isAgg275
 z145:=Tryz.sizeOf275
 v145:=Tryz.zeroValue275
 t167:=Tryz.underlying253
 a167:=Tryz.isAgg253
 z167:=Tryz.sizeOf253
 v167:=Tryz.zeroValue253
 t168:=Tryz.underlying256
 a168:=Tryz.isAgg256
 z168:=Tryz.sizeOf256
 v168:=Tryz.zeroValue256
 t171:=Tryz.underlying247
 a171:=Tryz.isAgg247
 z171:=Tryz.sizeOf247
 v171:=Tryz.zeroValue247
 t173:=Tryz.underlying249
 a173:=Tryz.isAgg249
 z173:=Tryz.sizeOf249
 v173:=Tryz.zeroValue249
 t175:=Tryz.underlying262
 a175:=Tryz.isAgg262
 z175:=Tryz.sizeOf262
 v175:=Tryz.zeroValue262
 t210:=Tryz.underlying266
 a210:=Tryz.isAgg266
 z210:=Tryz.sizeOf266
 v210:=Tryz.zeroValue266
 t212:=Tryz.underlying260
 a212:=Tryz.isAgg260
 z212:=Tryz.sizeOf260
 v212:=Tryz.zeroValue260
 t213:=Tryz.underlying261
 a213:=Tryz.isAgg261
 z213:=Tryz.sizeOf261
 t232:=Tryz.underlying276
 a232:=Tryz.isAgg276
 z232:=Tryz.sizeOf276
 v232:=Tryz.zeroValue276
 t233:=Tryz.underlying277
 a233:=Tryz.isAgg277
 z233:=Tryz.sizeOf277
 v233:=Tryz.zeroValue277
 g15:=by kernel_rfl
 g16:=by kernel_rfl
 g17:=by kernel_rfl
 g18:=by kernel_rfl
 g19:=by kernel_rfl
 t80:=Tryz.underlying115
 a80:=Tryz.isAgg115
 z80:=Tryz.sizeOf115
 v80:=Tryz.zeroValue115
 i0:=by kernel_rfl
 i2:=by kernel_rfl
 i3:=by kernel_rfl
 i4:=by kernel_rfl
 i5:=by kernel_rfl
 i9:=by kernel_rfl
 i20:=by kernel_rfl
 i21:=by kernel_rfl
 i37:=by kernel_rfl
 i46:=by kernel_rfl
 i51:=by kernel_rfl
 i53:=by kernel_rfl
 i75:=by kernel_rfl
 i76:=by kernel_rfl
 i80:=by kernel_rfl
 i85:=by kernel_rfl
 i127:=by kernel_rfl
 i143:=by kernel_rfl
 i145:=by kernel_rfl
 i167:=by kernel_rfl
 i168:=by kernel_rfl
 i171:=by kernel_rfl
 i173:=by kernel_rfl
 i175:=by kernel_rfl
 i210:=by kernel_rfl
 i212:=by kernel_rfl
 i232:=by kernel_rfl
 i233:=by kernel_rfl
 m15:=by kernel_rfl
 m16:=by kernel_rfl
 m17:=by kernel_rfl
 m18:=by kernel_rfl
 m19:=by kernel_rfl
 c0:=by kernel_rfl
 c2:=by kernel_rfl
 c3:=by kernel_rfl
 c4:=by kernel_rfl
 c5:=by kernel_rfl
 c9:=by kernel_rfl
 c20:=by kernel_rfl
 c21:=by kernel_rfl
 c37:=by kernel_rfl
 c46:=by kernel_rfl
 c51:=by kernel_rfl
 c53:=by kernel_rfl
 c75:=by kernel_rfl
 c76:=by kernel_rfl
 c80:=by kernel_rfl
 c85:=by kernel_rfl
 c127:=by kernel_rfl
 c143:=by kernel_rfl
 c145:=by kernel_rfl
 c167:=by kernel_rfl
 c168:=by kernel_rfl
 c171:=by kernel_rfl
 c173:=by kernel_rfl
 c175:=by kernel_rfl
 c210:=by kernel_rfl
 c212:=by kernel_rfl
 c213:=by kernel_rfl
 c232:=by kernel_rfl
 c233:=by kernel_rfl }
def Tryz.C2:Go.Shelf.Ren:=⟨fun | 145=>99 | 220=>154 | 219=>187 | 217=>201 | 225=>202 | 224=>203 | 267=>204 | 266=>216 | 314=>217 | n=>n,fun | 9=>9 | 4=>4 | 59=>141 | 3=>3 | 5=>5 | 46=>184 | 146=>251 | 51=>80 | n=>n,fun | 1=>0 | n=>n⟩
theorem Tryz.KR:Go.Proofs.Lays.n145 Tryz.prog Tryz.C2:={
 mixed:=by kernel_rfl
 f145:=Tryz.func99.trans (congrArg some (by kernel_rfl))
 f217:=Tryz.func201.trans (congrArg some (by kernel_rfl))
 f219:=Tryz.func187.trans (congrArg some (by kernel_rfl))
 f220:=Tryz.func154.trans (congrArg some (by kernel_rfl))
 f224:=Tryz.func203.trans (congrArg some (by kernel_rfl))
 f225:=Tryz.func202.trans (congrArg some (by kernel_rfl))
 f266:=Tryz.func216.trans (congrArg some (by kernel_rfl))
 f267:=Tryz.func204.trans (congrArg some (by kernel_rfl))
 f314:=Tryz.func217.trans (congrArg some (by kernel_rfl))
 t3:=Tryz.underlying3
 a3:=Tryz.isAgg3
 z3:=Tryz.sizeOf3
 v3:=Tryz.zeroValue3
 t4:=Tryz.underlying4
 a4:=Tryz.isAgg4
 z4:=Tryz.sizeOf4
 v4:=Tryz.zeroValue4
 t5:=Tryz.underlying5
 a5:=Tryz.isAgg5
 z5:=Tryz.sizeOf5
 v5:=Tryz.zeroValue5
 t9:=Tryz.underlying9
 a9:=Tryz.isAgg9
 z9:=Tryz.sizeOf9
 v9:=Tryz.zeroValue9
 t46:=Tryz.underlying184
 a46:=Tryz.isAgg184
 z46:=Tryz.sizeOf184
 v46:=Tryz.zeroValue184
 t51:=Tryz.underlying80
 a51:=Tryz.isAgg80
 z51:=Tryz.sizeOf80
 v51:=Tryz.zeroValue80
 t59:=Tryz.underlying141
 a59:=Tryz.isAgg141
 z59:=Tryz.sizeOf141
 v59:=Tryz.zeroValue141
 t146:=Tryz.underlying251
 a146:=Tryz.isAgg251
 z146:=Tryz.sizeOf251
 v146:=Tryz.zeroValue251
 g1:=by kernel_rfl }
def Tryz.Cx:Go.Shelf.Ren:=⟨fun | 189=>86 | 125=>138 | 257=>137 | 128=>180 | 129=>181 | 294=>171 | 295=>172 | 296=>173 | 297=>174 | 298=>175 | 299=>176 | 216=>177 | 300=>178 | 301=>179 | 328=>192 | 329=>193 | 330=>194 | 331=>195 | 332=>196 | 215=>197 | 343=>210 | n=>n,fun | 28=>27 | 3=>3 | 46=>184 | 0=>0 | 51=>80 | 53=>225 | 4=>4 | 183=>218 | 182=>217 | 131=>221 | 5=>5 | 9=>9 | 218=>231 | 222=>235 | 228=>244 | 229=>105 | n=>n,fun | n=>n⟩
theorem Tryz.J9:Go.Proofs.Lays.n189 Tryz.prog Tryz.Cx:={
 mixed:=by kernel_rfl
 f125:=Tryz.func138.trans (congrArg some (by kernel_rfl))
 f128:=Tryz.func180.trans (congrArg some (by kernel_rfl))
 f129:=Tryz.func181.trans (congrArg some (by kernel_rfl))
 f189:=Tryz.func86.trans (congrArg some (by kernel_rfl))
 f215:=Tryz.func197.trans (congrArg some (by kernel_rfl))
 f216:=Tryz.func177.trans (congrArg some (by kernel_rfl))
 f257:=Tryz.func137.trans (congrArg some (by kernel_rfl))
 f294:=Tryz.func171.trans (congrArg some (by kernel_rfl))
 f295:=Tryz.func172.trans (congrArg some (by kernel_rfl))
 f296:=Tryz.func173.trans (congrArg some (by kernel_rfl))
 f297:=Tryz.func174.trans (congrArg some (by kernel_rfl))
 f298:=Tryz.func175.trans (congrArg some (by kernel_rfl))
 f299:=Tryz.func176.trans (congrArg some (by kernel_rfl))
 f300:=Tryz.func178.trans (congrArg some (by kernel_rfl))
 f301:=Tryz.func179.trans (congrArg some (by kernel_rfl))
 f328:=Tryz.func192.trans (congrArg some (by kernel_rfl))
 f329:=Tryz.func193.trans (congrArg some (by kernel_rfl))
 f330:=Tryz.func194.trans (congrArg some (by kernel_rfl))
 f331:=Tryz.func195.trans (congrArg some (by kernel_rfl))
 f332:=Tryz.func196.trans (congrArg some (by kernel_rfl))
 f343:=Tryz.func210.trans (congrArg some (by kernel_rfl))
 t0:=Tryz.underlying0
 a0:=Tryz.isAgg0
 z0:=Tryz.sizeOf0
 v0:=Tryz.zeroValue0
 t3:=Tryz.underlying3
 a3:=Tryz.isAgg3
 z3:=Tryz.sizeOf3
 v3:=Tryz.zeroValue3
 t4:=Tryz.underlying4
 a4:=Tryz.isAgg4
 z4:=Tryz.sizeOf4
 v4:=Tryz.zeroValue4
 t5:=Tryz.underlying5
 a5:=Tryz.isAgg5
 z5:=Tryz.sizeOf5
 v5:=Tryz.zeroValue5
 t9:=Tryz.underlying9
 a9:=Tryz.isAgg9
 z9:=Tryz.sizeOf9
 v9:=Tryz.zeroValue9
 t28:=Tryz.underlying27
 a28:=Tryz.isAgg27
 z28:=Tryz.sizeOf27
 v28:=Tryz.zeroValue27
 t46:=Tryz.underlying184
 a46:=Tryz.isAgg184
 z46:=Tryz.sizeOf184
 v46:=Tryz.zeroValue184
 t51:=Tryz.underlying80
 a51:=Tryz.isAgg80
 z51:=Tryz.sizeOf80
 v51:=Tryz.zeroValue80
 t53:=Tryz.underlying225
 a53:=Tryz.isAgg225
 z53:=Tryz.sizeOf225
 v53:=Tryz.zeroValue225
 t131:=Tryz.underlying221
 a131:=Tryz.isAgg221
 z131:=Tryz.sizeOf221
 v131:=Tryz.zeroValue221
 t182:=Tryz.underlying217
 a182:=Tryz.isAgg217
 z182:=Tryz.sizeOf217
 v182:=Tryz.zeroValue217
 t183:=Tryz.underlying218
 a183:=Tryz.isAgg218
 z183:=Tryz.sizeOf218
 v183:=Tryz.zeroValue218
 t218:=Tryz.underlying231
 a218:=Tryz.isAgg231
 z218:=Tryz.sizeOf231
 v218:=Tryz.zeroValue231
 t222:=Tryz.underlying235
 a222:=Tryz.isAgg235
 z222:=Tryz.sizeOf235
 v222:=Tryz.zeroValue235
 t228:=Tryz.underlying244
 a228:=Tryz.isAgg244
 z228:=Tryz.sizeOf244
 v228:=Tryz.zeroValue244
 t229:=Tryz.underlying105
 a229:=Tryz.isAgg105
 z229:=Tryz.sizeOf105
 v229:=Tryz.zeroValue105 }
def Tryz.CD:Go.Shelf.Ren:=⟨fun | 146=>102 | 221=>158 | 268=>189 | 138=>190 | 143=>191 | 195=>207 | 197=>208 | 218=>209 | 219=>187 | 260=>223 | 217=>201 | 225=>202 | 224=>203 | 267=>204 | 266=>216 | 314=>217 | n=>n,fun | 9=>9 | 31=>22 | 3=>3 | 4=>4 | 0=>0 | 105=>242 | 21=>21 | 5=>5 | 46=>184 | 119=>268 | 139=>271 | 138=>270 | 146=>251 | 51=>80 | n=>n,fun | 1=>0 | 3=>4 | 4=>5 | n=>n⟩
theorem Tryz.KB:Go.Proofs.Lays.n146 Tryz.prog Tryz.CD:={
 mixed:=by kernel_rfl
 f138:=Tryz.func190.trans (congrArg some (by kernel_rfl))
 f143:=Tryz.func191.trans (congrArg some (by kernel_rfl))
 f146:=Tryz.func102.trans (congrArg some (by kernel_rfl))
 f195:=Tryz.func207.trans (congrArg some (by kernel_rfl))
 f197:=Tryz.func208.trans (congrArg some (by kernel_rfl))
 f217:=Tryz.func201.trans (congrArg some (by kernel_rfl))
 f218:=Tryz.func209.trans (congrArg some (by kernel_rfl))
 f219:=Tryz.func187.trans (congrArg some (by kernel_rfl))
 f221:=Tryz.func158.trans (congrArg some (by kernel_rfl))
 f224:=Tryz.func203.trans (congrArg some (by kernel_rfl))
 f225:=Tryz.func202.trans (congrArg some (by kernel_rfl))
 f260:=Tryz.func223.trans (congrArg some (by kernel_rfl))
 f266:=Tryz.func216.trans (congrArg some (by kernel_rfl))
 f267:=Tryz.func204.trans (congrArg some (by kernel_rfl))
 f268:=Tryz.func189.trans (congrArg some (by kernel_rfl))
 f314:=Tryz.func217.trans (congrArg some (by kernel_rfl))
 t0:=Tryz.underlying0
 a0:=Tryz.isAgg0
 z0:=Tryz.sizeOf0
 v0:=Tryz.zeroValue0
 t3:=Tryz.underlying3
 a3:=Tryz.isAgg3
 z3:=Tryz.sizeOf3
 v3:=Tryz.zeroValue3
 t4:=Tryz.underlying4
 a4:=Tryz.isAgg4
 z4:=Tryz.sizeOf4
 v4:=Tryz.zeroValue4
 t5:=Tryz.underlying5
 a5:=Tryz.isAgg5
 z5:=Tryz.sizeOf5
 v5:=Tryz.zeroValue5
 t9:=Tryz.underlying9
 a9:=Tryz.isAgg9
 z9:=Tryz.sizeOf9
 v9:=Tryz.zeroValue9
 t21:=Tryz.underlying21
 a21:=Tryz.isAgg21
 z21:=Tryz.sizeOf21
 v21:=Tryz.zeroValue21
 t31:=Tryz.underlying22
 a31:=Tryz.isAgg22
 z31:=Tryz.sizeOf22
 v31:=Tryz.zeroValue22
 t46:=Tryz.underlying184
 a46:=Tryz.isAgg184
 z46:=Tryz.sizeOf184
 v46:=Tryz.zeroValue184
 t51:=Tryz.underlying80
 a51:=Tryz.isAgg80
 z51:=Tryz.sizeOf80
 v51:=Tryz.zeroValue80
 t105:=Tryz.underlying242
 a105:=Tryz.isAgg242
 z105:=Tryz.sizeOf242
 v105:=Tryz.zeroValue242
 t119:=Tryz.underlying268
 a119:=Tryz.isAgg268
 z119:=Tryz.sizeOf268
 t138:=Tryz.underlying270
 a138:=Tryz.isAgg270
 z138:=Tryz.sizeOf270
 v138:=Tryz.zeroValue270
 t139:=Tryz.underlying271
 a139:=Tryz.isAgg271
 z139:=Tryz.sizeOf271
 v139:=Tryz.zeroValue271
 t146:=Tryz.underlying251
 a146:=Tryz.isAgg251
 z146:=Tryz.sizeOf251
 v146:=Tryz.zeroValue251
 g1:=by kernel_rfl
 g3:=by kernel_rfl
 g4:=by kernel_rfl }
def Tryz.F0:Go.Shelf.Ren:=⟨fun | 4=>136 | n=>n,fun | 22=>27 | 25=>3 | 3=>3 | 4=>4 | 9=>9 | 20=>20 | 0=>0 | n=>n,fun | n=>n⟩
theorem Tryz.PN:Go.Proofs.Lays8.n4 Tryz.prog Tryz.F0:={
 mixed:=by kernel_rfl
 f4:=⟨Tryz.f136.name,by decide,Tryz.func136.trans (congrArg some (by kernel_rfl))⟩
 t0:=Tryz.underlying0
 a0:=Tryz.isAgg0
 z0:=Tryz.sizeOf0
 v0:=Tryz.zeroValue0
 t3:=Tryz.underlying3
 a3:=Tryz.isAgg3
 z3:=Tryz.sizeOf3
 v3:=Tryz.zeroValue3
 t4:=Tryz.underlying4
 a4:=Tryz.isAgg4
 z4:=Tryz.sizeOf4
 v4:=Tryz.zeroValue4
 t9:=Tryz.underlying9
 a9:=Tryz.isAgg9
 z9:=Tryz.sizeOf9
 v9:=Tryz.zeroValue9
 t20:=Tryz.underlying20
 a20:=Tryz.isAgg20
 z20:=Tryz.sizeOf20
 v20:=Tryz.zeroValue20
 t22:=Tryz.underlying27
 a22:=Tryz.isAgg27
 z22:=Tryz.sizeOf27
 v22:=Tryz.zeroValue27 }
end Go.Proofs
