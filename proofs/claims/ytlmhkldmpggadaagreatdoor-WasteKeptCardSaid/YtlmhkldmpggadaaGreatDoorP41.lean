/- strings.Builder: what its methods do to a builder of the call's own, exactly: which blocks stay. Functions of Go's library by the library's contracts: what they do, on our heap. slices.Sort of strings, on an array of the call's own, by the library's contract. -/
import Derived.Test.YtlmhkldmpggadaaGreatDoorP40
import Derived.Shelf.Strings.Builder1
import Derived.Shelf.Strings.OnBuilder
import Derived.Shelf.Strings.Cut
import Derived.Shelf.Strings.Split
import Derived.Shelf.Strconv.Itoa3
import Derived.Shelf.Strconv.AtoiAll
import Derived.Shelf.Sort.Plain
import Derived.Shelf.Slices.In.SortNone
namespace Go.AM
open Go.RowKit Go.Shelf Go.Proofs
section
variable {P:Program} {ρ:Ren}
theorem AB (w:World) (base:Nat) (t u ty e:TypeId) (i:TypeInfo) (ht:P.underlying t = some (.slice e)) (hu:P.underlying u = some .string) (hi:P.info? e = some i) (hz:i.zero = some (.int .u8 0))
  (hsize:i.size = 1) (hby:i.bytes = 1) (v:Value) (n:Nat) (xs:List Value) (hown:w.ownsRow base e 1 v n xs) (x:ByteArray) (hlen:n + x.size ≤ 140737488355328) (hbase:base ≤ w.heap.size) :
  ∃ v' w',(Builtin.append_ #[t,u] ty #[v, .string x]).run P w = .ok v' w' ∧ w'.ownsRow base e 1 v' (n + x.size) (xs ++ Lib.strCells x) ∧ w.grownBy w' v.ownBlock ∧
   ∀ g,v'.ownBlock = some g → v.ownBlock = some g ∨ w.heap.size ≤ g:=by
 obtain ⟨v',w',hr,h2,h3,h4⟩:=Lib.run_append_own_string (P:=P) w base t u ty e i ht hu hi hz hsize hby v n xs hown x (by unfold maxLen; omega) hlen hbase;refine ⟨v',w',hr,h2,h3,fun g hg=>?_⟩;have hxl:xs.length = n:=by simpa using hown.1
 rcases hown.2 with ⟨rfl,rfl⟩ | ⟨g0,cap,cur,rfl,_,hg0,hnc,_,hcs,htake⟩
 ·by_cases hm:x.size = 0
  ·rw [h4.2 ⟨rfl,hm⟩] at hg; simp [Value.ownBlock] at hg
  ·have hr':=run_append_nil_string (P:=P) w t u ty e i (.int .u8 0) ht hu hi hz x (by omega) (by omega) (by rw [hby]; omega);rw [hr] at hr';injection hr' with e1 e2;rw [e1] at hg;simp [Value.ownBlock] at hg
   right; omega
 ·by_cases hroom:n + x.size ≤ cap
  ·have hcs':cur.size = cap:=by simpa using hcs
   have hr':=Lib.run_append_room_string (P:=P) w t u ty e i ht hu hi hsize g0 n cap cur hg0 x hroom (by omega);rw [hr] at hr';injection hr' with e1 e2;rw [e1] at hg
   left; exact hg
  ·have holds:∀ j u,xs[j]? = some u → w.cell? ((⟨g0,0,none⟩:Addr).add j) = some u:=hown.cells (g:=g0) rfl;have hr':=Lib.run_append_grow_string (P:=P) w t u ty e i (.int .u8 0) ht hu hi hz ⟨g0,0,none⟩ n cap xs (by rw [hsize]; simpa using hxl) holds x (by omega) (by omega) (by rw [hby]; exact growslice_fits (by omega) (by omega));rw [hr] at hr';injection hr' with e1 e2;rw [e1] at hg;simp [Value.ownBlock] at hg
   right; omega
theorem pX {ops:Array Oper} {rest:List Oper} {o:Oper} {a:Act} {Q:Exit → Act → World → Prop} {w:World} (hgd:o.guard = none) (sl x:Operand) (t u:TypeId)
  (ho:o.op = .call { callee:=.builtin .append,args:=#[sl,x],argTypes:=#[t,u] }) (base:Nat) (e:TypeId) (i:TypeInfo) (ht:P.underlying t = some (.slice e)) (hu:P.underlying u = some .string) (hi:P.info? e = some i)
  (hz:i.zero = some (.int .u8 0)) (hsize:i.size = 1) (hby:i.bytes = 1) (v:Value) (n:Nat) (xs:List Value) (hs:a.eval sl = v) (hown:w.ownsRow base e 1 v n xs) (y:ByteArray) (hx:a.eval x = .string y)
  (hlen:n + y.size ≤ 140737488355328) (hbase:base ≤ w.heap.size)
  (h:∀ v' w',w'.ownsRow base e 1 v' (n + y.size) (xs ++ Lib.strCells y) → w.grownBy w' v.ownBlock → (∀ g,v'.ownBlock = some g → v.ownBlock = some g ∨ w.heap.size ≤ g) → wpList P ops Q rest (a.put o.dst v') w'):wpList P ops Q (o :: rest) a w:=by
 refine wpList_plain hgd fun K hK=>?_;obtain ⟨v',w',hr,h2,h3,h4⟩:=AB (P:=P) w base t u o.type e i ht hu hi hz hsize hby v n xs hown y hlen hbase;unfold Oper.wp execOp;simp only [ho,resolve,invoke,builtin,Sem.run_bind,Sem.run_pure,Result.andThen_ok,List.map_toArray,List.map_cons,List.map_nil,hs,hx,hr];exact hK _ _ (h v' w' h2 h3 h4)
def DC (b:Nat) (p:Value):Prop:=p = .pointer none ∨ p = .pointer (some ⟨b,0,none⟩)
def Bx (T e:TypeId) (B b:Nat) (bs:List Value) (y:ByteArray) (w:World) (v:Value) (en:Ending) (w':World):Prop:=
 en = .returned (.tuple #[.int .i64 y.size, .nilIface]) ∧ ∃ v',w'.heap[b]? = some (.cells #[.pointer (some ⟨b,0,none⟩),v'] T (0,0)) ∧
  w'.ownsRow B e 1 v' (bs ++ Lib.strCells y).length (bs ++ Lib.strCells y) ∧ v'.ownBlock ≠ some b ∧ (∀ g,v'.ownBlock = some g → v.ownBlock = some g ∨ w.heap.size ≤ g) ∧
  w'.os = w.os ∧ w'.tape = w.tape ∧ w'.output = w.output ∧ w.heap.size ≤ w'.heap.size ∧ ∀ k,k < w.heap.size → k ≠ b → v.ownBlock ≠ some k → w'.heap[k]? = w.heap[k]?
theorem AA (w:World) (g n k:Nat) (h:k ≠ g):(w.freeze ⟨g,0,none⟩ n).heap[k]? = w.heap[k]?:=by
 unfold World.freeze;split
 ·rfl
 ·simp only [Array.getElem?_modify];rw [if_neg (fun e=>h e.symm)]
theorem Ci (w:World) (a:Addr) (n:Nat):(w.freeze a n).heap.size = w.heap.size:=by
 unfold World.freeze;split
 ·rfl
 ·simp
def vD (v:Value) (w w':World):Prop:=w'.os = w.os ∧ w'.tape = w.tape ∧ w'.output = w.output ∧ w.heap.size ≤ w'.heap.size ∧ ∀ k,k < w.heap.size → v.ownBlock ≠ some k → w'.heap[k]? = w.heap[k]?
set_option maxHeartbeats 2000000 in
set_option maxRecDepth 100000 in
theorem Et (L:Lays.n169 P ρ) (X:Builder.Extra P ρ) (B b:Nat) (l:List UInt8) (w:World) {p v:Value} (hbk:w.heap[b]? = some (.cells #[p,v] (ρ.t 72) (0,0))) (hown:w.ownsRow B (ρ.t 5) 1 v l.length (Lib.byteCells l)) :
  Calls P (ρ.f 169) #[.pointer (some ⟨b,0,none⟩)] w fun e w'=>e = .returned (.string ⟨l.toArray⟩) ∧ vD v w w':=by
 have mixed:=L.mixed;have t5:=X.t5; have t72:=L.t72; have t70:=L.t70; have t37:=L.t37; have t127:=L.t127; have t9:=L.t9; have t3:=L.t3;have a5:=X.a5; have a72:=L.a72; have a70:=L.a70; have a37:=L.a37; have a127:=L.a127; have a9:=L.a9; have a3:=L.a3;have z5:=X.z5; have z72:=L.z72; have z70:=L.z70; have z37:=L.z37; have z127:=L.z127; have z9:=L.z9; have z3:=L.z3;have v5:=X.v5; have v72:=L.v72; have v70:=L.v70; have v37:=L.v37; have v127:=L.v127; have v9:=L.v9; have v3:=L.v3;have u72:=run_underlying L.t72; have u70:=run_underlying L.t70; have u37:=run_underlying L.t37; have u127:=run_underlying L.t127; have u9:=run_underlying L.t9; have u3:=run_underlying L.t3; have u5:=run_underlying X.t5;have hlt:b < w.heap.size:=(Array.getElem?_eq_some_iff.1 hbk).1;have c1:w.drew.cell? ⟨b,1,none⟩ = some v:=by
  have:w.drew.heap[b]? = some (.cells #[p,v] (ρ.t 72) (0,0)):=hbk;rw [Lib.cell_of_heap this]; rfl
 have hk0:vD v w w.drew:=⟨rfl,rfl,rfl,Nat.le_refl _,fun _ _ _=>rfl⟩;have hUS:=Any.unsafeString_none L X;by_cases h0:l = []
 ·subst h0;rcases hown.2 with ⟨rfl,_⟩ | ⟨g,cap,cur,rfl,_,hg,_,_,_,_⟩
  ·have hSD:(Builtin.unsafeSliceData_ #[(ρ.t 37)] (ρ.t 127) #[.slice none 0 0]).run P w.drew = .ok (.pointer none) w.drew:=rfl
   go_enter L.f169,Body.n169_ntmps ρ
   go_wp2
   go_region_o
   all_goals (go_wp2; go_ret; exact ⟨rfl,hk0⟩)
  ·by_cases hc0:cap = 0
   ·subst hc0;have hSD:(Builtin.unsafeSliceData_ #[(ρ.t 37)] (ρ.t 127) #[.slice (some ⟨g,0,none⟩) 0 0]).run P w.drew = .ok (.pointer (some ⟨w.drew.heap.size,0,none⟩)) (w.drew.alloc (.view ⟨g,0,none⟩ (ρ.t 5))):=
     Lib.run_unsafeSliceData_zero w.drew _ _ (ρ.t 5) L.t127 ⟨g,0,none⟩ 0 ((ρ.t 5),cur.size) (by have hg':w.drew.heap[g]? = some (.cells cur (ρ.t 5) (0,0)):=hg; simp [World.shape?,hg'])
    have c2:(w.drew.alloc (.view ⟨g,0,none⟩ (ρ.t 5))).cell? ⟨b,1,none⟩ = some (.slice (some ⟨g,0,none⟩) 0 0):=by
     have:(w.drew.alloc (.view ⟨g,0,none⟩ (ρ.t 5))).heap[b]? = _:=(Lib.alloc_old w.drew _ b hlt).trans hbk;rw [Lib.cell_of_heap this]; rfl
    have c3:(w.alloc (.view ⟨g,0,none⟩ (ρ.t 5))).drew.cell? ⟨b,1,none⟩ = some (.slice (some ⟨g,0,none⟩) 0 0):=c2;have c0:w.cell? ⟨b,1,none⟩ = some (.slice (some ⟨g,0,none⟩) 0 0):=c1;have hk1:vD (.slice (some ⟨g,0,none⟩) 0 0) w (w.drew.alloc (.view ⟨g,0,none⟩ (ρ.t 5))):=⟨rfl,rfl,rfl,by simp,fun k hk _=>Lib.alloc_old w.drew _ k hk⟩
    go_enter L.f169,Body.n169_ntmps ρ
    go_wp2
    go_region_o
    all_goals (go_wp2; go_ret; exact ⟨rfl,hk1⟩)
   ·have hSD:(Builtin.unsafeSliceData_ #[(ρ.t 37)] (ρ.t 127) #[.slice (some ⟨g,0,none⟩) 0 cap]).run P w.drew = .ok (.pointer (some ⟨g,0,none⟩)) w.drew:=
     Lib.run_unsafeSliceData_row _ _ _ _ _ _ hc0
    clear hc0
    go_enter L.f169,Body.n169_ntmps ρ
    go_wp2
    go_region_o
    all_goals (go_wp2; go_ret; exact ⟨rfl,hk0⟩)
 ·have hl0:l.length ≠ 0:=by simpa using h0
  obtain ⟨g,cap,cur,rfl,hbg,hg,hnc,hcm,hcs,htake⟩:∃ g cap cur,v = .slice (some ⟨g,0,none⟩) l.length cap ∧ B ≤ g ∧ w.heap[g]? = some (.cells cur (ρ.t 5) (0,0)) ∧ l.length ≤ cap ∧ cap ≤ maxLen ∧ cur.size = cap * 1 ∧ cur.toList.take (l.length * 1) = Lib.byteCells l:=by
   rcases hown.2 with ⟨_,hz⟩ | ⟨g,cap,cur,hv,r⟩
   ·exact absurd hz hl0
   ·exact ⟨g,cap,cur,hv,r⟩
  have hSD:(Builtin.unsafeSliceData_ #[(ρ.t 37)] (ρ.t 127) #[.slice (some ⟨g,0,none⟩) l.length cap]).run P w.drew = .ok (.pointer (some ⟨g,0,none⟩)) w.drew:=
   Lib.run_unsafeSliceData_row _ _ _ _ _ _ (by omega)
  have hUS2:(Builtin.unsafeString_ #[(ρ.t 127),(ρ.t 3)] (ρ.t 9) #[.pointer (some ⟨g,0,none⟩), .int .i64 l.length]).run P w.drew = .ok (.string ⟨l.toArray⟩) (w.drew.freeze ⟨g,0,none⟩ l.length):=by
   refine Lib.run_unsafeString_row w.drew (ρ.t 127) (ρ.t 3) (ρ.t 9) (ρ.t 5) L.t127 X.cellsByte g cur.size (by have hg':w.drew.heap[g]? = some (.cells cur (ρ.t 5) (0,0)):=hg; simp [World.shape?,hg']) l h0 (by omega) (by unfold maxLen at hcm; omega) ?_;intro j x hx;have:=hown.cells (g:=g) rfl j (.int .u8 x.toNat) (by simp [Lib.byteCells,hx]);exact this
  have hk2:vD (.slice (some ⟨g,0,none⟩) l.length cap) w (w.drew.freeze ⟨g,0,none⟩ l.length):=
   ⟨by unfold World.freeze; split <;> rfl,by unfold World.freeze; split <;> rfl,by unfold World.freeze; split <;> rfl,by rw [Ci]; exact Nat.le_refl _,fun k hk hne=>AA w.drew g _ k (fun e=>hne (by simp [Value.ownBlock,e]))⟩
  clear hUS
  go_enter L.f169,Body.n169_ntmps ρ
  go_wp2
  go_region_o
  all_goals (go_wp2; go_ret; exact ⟨rfl,hk2⟩)
/-! ### The contracts on the abstract heap -/
theorem Spec.J1 {W:FuncId} (H:∀ (B b:Nat) (bs:List Value) (y:ByteArray) (w:World) (p v:Value),DC b p → w.heap[b]? = some (.cells #[p,v] uY.1 (0,0)) → w.ownsRow B uY.2 1 v bs.length bs → v.ownBlock ≠ some b → bs.length + y.size ≤ 140737488355328 → B ≤ w.heap.size →
   Calls P W #[.pointer (some ⟨b,0,none⟩), .string y] w (Bx uY.1 uY.2 B b bs y w v))
  (b k:Nat) (bs:List UInt8) (y:ByteArray) (σ:af) (hb:σ[b]? = some (.bld k bs)) (hlen:bs.length + y.size ≤ 140737488355328) :
  Spec P W [.ptr b 0, .str y] σ fun r σ'=>r = .ret (.tup [.int .i64 y.size, .niliface]) ∧ σ' = σ.set b (.bld (k + 1) (bs ++ y.data.toList)):=by
 intro A s cargs hh hi ha;subst hh;obtain ⟨c,d,rfl,hc,hd⟩:=ha.two;obtain rfl:=hd.lh;obtain ⟨hno,blk,v,hl0,hv,⟨hB,⟨p,hp,hbk⟩,hrow,hne⟩,hnS,hgS⟩:=hi.obj b _ hb
 cases hc with
 | ptr _ _ blk' hl'=>
 have:blk' = blk:=by rw [hl0] at hl'; simpa using hl'.symm
 subst this;have hlen0:(bs.map fun b=>Value.int .u8 b.toNat).length = bs.length:=by simp
 rw [← hlen0] at hrow;refine (H A.heap.size blk' _ y s.w p v hp hbk hrow hne (by rw [hlen0]; exact hlen) hi.below.size).mono ?_;rintro e w' ⟨rfl,v',hbk',hrow',hne',hwh,q1,q2,q3,q4,q5⟩;have hblt:b < s.h.length:=(List.getElem?_eq_some_iff.1 hb).1
 let s':St:={ h:=s.h.set b (.bld (k + 1) (bs ++ y.data.toList)),lam:=bG s.lam b (k + 2) v',S:=s.S,w:=w' }
 have hk:bq s s':=⟨bp (hno _ (by omega)),fun _ _ h=>h,fun g o hs=>World.cell?_of_block (a:=⟨g,o,none⟩) (q5 g (hi.scell g o hs) (fun e=>hnS o (e ▸ hs)) (fun e=>hgS g e o hs))⟩;have hl1:s'.lam b 0 = some (.pointer (some ⟨blk',0,none⟩)):=(aJ (.inr (by omega))).trans hl0;have hl2:s'.lam b (k + 1 + 1) = some v':=aM _ _ _ _;have hown:dA s b (.bld k bs) blk':=.inl hl0;have hog:∀ g,v.ownBlock = some g → dA s b (.bld k bs) g:=fun g e=>.inr ⟨v,hv,e⟩;have hvlt:=hrow.lt;have hgo:=hi.change (s':=s') hblt rfl hk (hi.below.trans ⟨q1,q2,q3,q4,fun g hg=>q5 g (by have:=hi.below.size; omega) (by omega) (fun e=>by have:=(hvlt g e).1; omega)⟩) q4 (fun b' k hne=>aJ (.inl hne))
  (fun g hlt hno=>q5 g hlt (fun e=>hno ⟨_,hb,e ▸ hown⟩) (fun e=>hno ⟨_,hb,hog g e⟩))
  ⟨fun k' hk'=>(aJ (.inr (by omega))).trans (hno k' (by omega)),blk',v',hl1,hl2,⟨hB,⟨_, .inr rfl,hbk'⟩,by
    have e1:((bs ++ y.data.toList).map fun b=>Value.int .u8 b.toNat) = (bs.map fun b=>Value.int .u8 b.toNat) ++ Lib.strCells y:=by simp [Lib.strCells]
    have e2:(bs ++ y.data.toList).length = ((bs.map fun b=>Value.int .u8 b.toNat) ++ Lib.strCells y).length:=by rw [← e1]; simp
    rw [e1,e2]; exact hrow',hne'⟩,hnS,fun g e o hs=>by
    rcases hwh g e with h | h
    ·exact hgS g h o hs
    ·have:=hi.scell _ _ hs; omega⟩
  (fun g ho=>by
   rcases ho with e | ⟨u,e1,e2⟩
   ·rw [hl1] at e;have:blk' = g:=by simpa using e
    subst this; exact .inr ⟨_,hb,hown⟩
   ·rw [hl2] at e1;have:=Option.some.inj e1;subst this;rcases hwh g e2 with h | h
    ·exact .inr ⟨_,hb,hog g h⟩
    ·exact .inl h)
  (fun g x h=>.inl h) (fun g x h=>by have:=hi.scell _ _ h; show g < w'.heap.size; omega)
 refine ⟨_,s',rfl,hgo.1,hgo.2, ?_,rfl,rfl⟩;refine .tup _ _ rfl fun j h1 h2=>?_
 match j,h1 with
 | 0,_=>exact .int _ _
 | 1,_=>exact .niliface
theorem Spec.built (L:Lays.n169 P ρ) (X:Builder.Extra P ρ) (hT:uY = (ρ.t 72,ρ.t 5)) (b k:Nat) (bs:List UInt8) (σ:af) (hb:σ[b]? = some (.bld k bs)) :
  Spec P (ρ.f 169) [.ptr b 0] σ fun r σ'=>r = .ret (.str ⟨bs.toArray⟩) ∧ σ' = σ.set b .dead:=by
 intro A s cargs hh hi ha;subst hh;obtain ⟨c,rfl,hc⟩:=ha.one;obtain ⟨hno,blk,v,hl0,hv,⟨hB,⟨p,hp,hbk⟩,hrow,hne⟩,hnS,hgS⟩:=hi.obj b _ hb
 cases hc with
 | ptr _ _ blk' hl'=>
 have:blk' = blk:=by rw [hl0] at hl'; simpa using hl'.symm
 subst this;rw [hT] at hbk hrow;refine (Et L X A.heap.size blk' bs s.w hbk hrow).mono ?_;rintro e w' ⟨rfl,q1,q2,q3,q4,q5⟩;have hblt:b < s.h.length:=(List.getElem?_eq_some_iff.1 hb).1
 let s':St:={ h:=s.h.set b .dead,lam:=s.lam,S:=s.S,w:=w' }
 have hog:∀ g,v.ownBlock = some g → dA s b (.bld k bs) g:=fun g e=>.inr ⟨v,hv,e⟩;have hk:bq s s':=⟨fun _ _ _ h=>h,fun _ _ h=>h,fun g o hs=>World.cell?_of_block (a:=⟨g,o,none⟩) (q5 g (hi.scell g o hs) (fun e=>hgS g e o hs))⟩;have hvlt:=hrow.lt;have hgo:=hi.change (s':=s') hblt rfl hk (hi.below.trans ⟨q1,q2,q3,q4,fun g hg=>q5 g (by have:=hi.below.size; omega) (fun e=>by have:=(hvlt g e).1; omega)⟩) q4 (fun b' k hne=>rfl)
  (fun g hlt hno=>q5 g hlt (fun e=>hno ⟨_,hb,hog g e⟩)) trivial (fun g ho=>ho.elim)
  (fun g x h=>.inl h) (fun g x h=>by have:=hi.scell _ _ h; show g < w'.heap.size; omega)
 exact ⟨.ret (.str _),s',rfl,hgo.1,hgo.2,Rv.str _,rfl,rfl⟩
end
open Go.RowKit Go.Shelf Go.Proofs Go.Sort
section
variable {P:Program} {ρ:Ren}
def bytes (l:List UInt8):ByteArray:=⟨l.toArray⟩
def Ms (l:List ByteArray) (sep:ByteArray):ByteArray:=bytes (Lib.join (l.map fun x=>x.data.toList) sep.data.toList)
theorem Spec.join (L:Lays.n156 P ρ) (X:Builder.Extra P ρ) (l:List ByteArray) (sep:ByteArray) (hN:l.length ≤ 140737488355328) (hlen:(Lib.join (l.map fun x=>x.data.toList) sep.data.toList).length ≤ 140737488355328) (σ:af) :
  Spec P (ρ.f 156) [.slice 1 (l.map .str), .str sep] σ fun r σ'=>r = .ret (.str (Ms l sep)) ∧ σ' = σ:=by
 refine Spec.sE fun A s cargs h1 h2 h3=>?_;obtain ⟨c,d,rfl,hc,hd⟩:=h3.two;obtain rfl:=hd.lh;obtain ⟨a,cap,rfl,hx⟩:=hc.IJ;by_cases hl:l = []
 ·subst hl;refine (Any.strings_Join_none L X a cap sep s.w).mono ?_;rintro e w' ⟨rfl,rfl⟩;exact ⟨Below.refl _ _,_,rfl,fun s'=>.str _⟩
 ·obtain ⟨blk,off,rfl,hcap,hcell⟩:=hx.resolve_left hl;have h0:0 < l.length:=by cases l with
   | nil=>exact absurd rfl hl
   | cons=>simp
  have hb:=h2.scell _ _ (hcell 0 l[0] (List.getElem?_eq_getElem h0)).1;refine (Any.strings_Join L X blk off cap l sep s.w (fun j x hj=>(hcell j x hj).2) hb hN hcap hlen).mono ?_;rintro e w' ⟨rfl,hb'⟩;exact ⟨hb',_,rfl,fun s'=>.str _⟩
theorem DZ (w:World) (n:Nat) (os:Array Obj):Below w.heap.size w (grow (w.drewN n) os):=
 ⟨rfl,rfl,rfl,by simp [grow,World.drewN],fun k hk=>by
  have:(w.drewN n).heap = w.heap:=rfl;simp only [grow,this]
  rw [Array.getElem?_append_left hk]⟩
theorem MV {A:World} {s:St} (hi:Inv A s) {g:Nat} {name:String} {k:IntKind} {zs:List Int} (hg:P.globalNamed name = some g) (hm:(g,zs.map fun z=>(k,z)) ∈ ew) (h0:zs ≠ []):Lib.TabIs P s.w name k zs:=by
 have h1:=hi.laid.1 g _ hm;have h2:=(hi.laid.2.2 g _ hm).2;have hz:0 < zs.length:=by cases zs with
  | nil=>exact absurd rfl h0
  | cons=>simp
 have hc0:=(h1 0 (by simpa using hz)).2;unfold Lib.TabIs World.var?;rw [hg];simp only [Option.bind_some];simp only [World.cell?] at hc0 h2
 cases hh:s.w.heap[g]? with
 | none=>rw [hh] at hc0; simp at hc0
 | some o=>
  cases o with
  | cells cs el fz=>
   rw [hh] at h2;simp only [Option.some.injEq];simp at h2;apply Array.ext_getElem?;intro j;by_cases hj:j < zs.length
   ·have:=(h1 j (by simpa using hj)).2;simp only [World.cell?,hh] at this;simp at this;rw [this];simp [hj]
   ·rw [Array.getElem?_eq_none (by omega),Array.getElem?_eq_none (by simp; omega)]
  | _=>rw [hh] at hc0; simp at hc0
theorem Spec.itoa (L : LaysM.n171 P ρ) (hg : P.globalNamed "internal/strconv.uint64pow10" = some 1) (hm : (1, Lib.pow10Tab.map fun z => (IntKind.u64, z)) ∈ ew) (n : Int) (h0 : -9223372036854775808 ≤ n) (h1 : n ≤ 9223372036854775807) (σ : af) :
  Spec P (ρ.f 171) [.int .i64 n] σ fun r σ'=>r = .ret (.str (bytes (Lib.itoa n))) ∧ σ' = σ:=by
 refine Spec.sE fun A s cargs g1 g2 g3=>?_;obtain ⟨c,rfl,hc⟩:=g3.one;obtain rfl:=hc.AK;refine (Any.strconv_Itoa L n h0 h1 s.w (MV g2 hg hm (by decide))).mono ?_;rintro e w' ⟨rfl,k,os,rfl⟩;exact ⟨DZ _ _ _,_,rfl,fun s'=>.str _⟩
theorem G7 {A:World} {s:St} (hi:Inv A s) {g:Nat} (hm:(g,0) ∈ gk):∃ m,s.w.cell? ⟨g,0,none⟩ = some (.int .i64 m):=by
 obtain ⟨_,v,hv,m,rfl⟩:=hi.laid.2.1 g 0 hm;exact ⟨m,hv⟩
theorem H5 {A:World} {s:St} (hi:Inv A s) {g:Nat} (hm:(g,1) ∈ gk):∃ ev,s.w.cell? ⟨g,0,none⟩ = some ev ∧ (ev = .nilIface ∨ ∃ te pe,ev = .iface te pe):=by
 obtain ⟨_,v,hv,te,pe,rfl⟩:=hi.laid.2.1 g 1 hm;exact ⟨_,hv, .inr ⟨te,pe,rfl⟩⟩
theorem Spec.cut (L:Lays.n145 P ρ) (hm:(ρ.g 1,0) ∈ gk) (x sep:ByteArray) (hx:x.size < 4294967281) (σ:af) :
  Spec P (ρ.f 145) [.str x, .str sep] σ fun r σ'=>r = .ret (.tup [.str (bytes (Lib.cut x.data.toList sep.data.toList).1), .str (bytes (Lib.cut x.data.toList sep.data.toList).2.1), .bool (Lib.cut x.data.toList sep.data.toList).2.2]) ∧ σ' = σ:=by
 refine Spec.sE fun A s cargs g1 g2 g3=>?_;obtain ⟨c,d,rfl,hc,hd⟩:=g3.two;obtain rfl:=hc.lh;obtain rfl:=hd.lh;obtain ⟨m,hmc⟩:=G7 g2 hm;refine (Any.strings_Cut L x sep m s.w hx hmc).mono ?_;rintro e w' ⟨rfl,n,rfl⟩;refine ⟨⟨rfl,rfl,rfl,Nat.le_refl _,fun _ _=>rfl⟩,_,rfl,fun s'=>.tup _ _ rfl fun j h1 h2=>?_⟩
 match j,h1 with
 | 0,_=>exact .str _
 | 1,_=>exact .str _
 | 2,_=>exact .bool _
def ly (x sep:ByteArray):List ByteArray:=Lib.splitB sep 0 (Lib.countB x sep) x
theorem Spec.split (L:Lays.n146 P ρ) (hi9:(P.info? (ρ.t 9)).map (fun i=>(i.zero,i.size,i.bytes)) = some (some (.string ByteArray.empty),1,16)) (hm:(ρ.g 1,0) ∈ gk) (x sep:ByteArray) (hx:x.size < 4294967281) (h1:1 ≤ sep.size) (σ:af) :
  Spec P (ρ.f 146) [.str x, .str sep] σ fun r σ'=>r = .ret (.slice 1 ((ly x sep).map .str)) ∧ σ' = σ:=by
 intro A s cargs g1 g2 g3;obtain ⟨c,d,rfl,hc,hd⟩:=g3.two;obtain rfl:=hc.lh;obtain rfl:=hd.lh;obtain ⟨m,hmc⟩:=G7 g2 hm;refine (Any.strings_Split L hi9 x sep m s.w hx hmc h1).mono ?_;rintro e w' ⟨rfl,rfl⟩;have hlen:(ly x sep).length = Lib.countB x sep + 1:=Lib.splitB_all sep h1 0 _ x rfl;have hbel:Below s.w.heap.size s.w (s.w.alloc (.cells ((ly x sep).map Value.string).toArray (ρ.t 9))):=(Below.refl _ _).alloc (Nat.le_refl _) _
 obtain ⟨s',e1,e2,i',g',hS⟩:=g2.FZ hbel (blk:=s.w.heap.size) (Nat.le_refl _) ((ly x sep).map Value.string) (fun j hj=>by
  rw [World.cell?_alloc_new]
  simp)
 refine ⟨.ret (.slice 1 ((ly x sep).map .str)),s',e2,i',g', ?_,rfl,e1.trans g1⟩;show Rv s' _ _;rw [← hlen];refine HV (Nat.le_refl _) (fun j hj=>hS j (by simpa using hj)) (fun j hj=>?_);rw [e2];show (s.w.alloc _).cell? _ = _;rw [World.cell?_alloc_new];simp [ly] at hj ⊢
def wj (x:ByteArray) (te:TypeId):ag:=
 match Lib.atoiAll x.data.toList with
 | .ok v=>.tup [.int .i64 v, .niliface]
 | .range=>.tup [.int .i64 (Lib.atoiSat x.data.toList), .iface te .undef]
 | _=>.tup [.int .i64 0, .iface te .undef]
theorem CZ (w:World) (e:TypeId) (t:ByteArray):Below w.heap.size w (Lib.bytesWorld w e t):=
 Lib.below_freeze (((Below.refl _ w).drew).alloc (Nat.le_refl _) _) (p:=⟨w.heap.size,_,none⟩) (Nat.le_refl _) _
theorem Spec.atoi (L:LaysC.n172 P ρ) (h15:(ρ.g 15,1) ∈ gk) (h16:(ρ.g 16,1) ∈ gk) (x:ByteArray) (hx:x.size ≤ 281474976710656) (σ:af) :
  Spec P (ρ.f 172) [.str x] σ fun r σ'=>r = .ret (wj x (ρ.t 168)) ∧ σ' = σ:=by
 refine Spec.sE fun A s cargs g1 g2 g3=>?_;obtain ⟨c,rfl,hc⟩:=g3.one;obtain rfl:=hc.lh;unfold wj
 cases ha:Lib.atoiAll x.data.toList with
 | ok v=>
  refine (Any.strconv_Atoi_ok L x (by omega) v ha s.w).mono ?_;rintro e w' ⟨rfl,hw⟩;refine ⟨?_,_,rfl,fun s'=>.tup _ _ rfl fun j h1 h2=>?_⟩
  ·rcases hw with rfl | ⟨t,rfl⟩
   ·exact Below.refl _ _
   ·exact CZ _ _ _
  ·match j,h1 with
   | 0,_=>exact .int _ _
   | 1,_=>exact .niliface
 | range=>
  obtain ⟨ev,hv,hev⟩:=H5 g2 h16;refine (Any.strconv_Atoi_range L x hx ha ev s.w hv hev).mono ?_;rintro e w' ⟨N,rfl,_,_,hb⟩;refine ⟨hb,_,rfl,fun s'=>.tup _ _ rfl fun j h1 h2=>?_⟩
  match j,h1 with
  | 0,_=>exact .int _ _
  | 1,_=>exact .iface _ _ _ (.undef _)
 | _=>
  obtain ⟨ev,hv,hev⟩:=H5 g2 h15;refine (Any.strconv_Atoi_syntax L x hx ha ev s.w hv hev).mono ?_;rintro e w' ⟨N,rfl,_,_,hb⟩;refine ⟨hb,_,rfl,fun s'=>.tup _ _ rfl fun j h1 h2=>?_⟩
  match j,h1 with
  | 0,_=>exact .int _ _
  | 1,_=>exact .iface _ _ _ (.undef _)
end
open Go.RowKit Go.Shelf Go.Proofs Go.Sort
section
variable {P:Program} {ρ:Ren}
theorem Gu {s:St} {b n blk cap:Nat} {c:Value} (hc:Rv s (.sref 1 b 0 n n) c) (h0:0 < n) (hl:s.lam b n = some (.slice (some ⟨blk,0,none⟩) n cap)):c = .slice (some ⟨blk,0,none⟩) n cap:=by
 cases hc with
 | sref _ _ _ _ _ blk' cap' h1 h2 h3=>
  rw [hl] at h1;simp at h1;rw [h1.1,h1.2]; simp
 | sref0=>omega
 | srefE=>omega
end
end Go.AM
