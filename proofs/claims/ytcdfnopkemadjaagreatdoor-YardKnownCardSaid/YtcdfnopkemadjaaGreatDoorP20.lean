/- From a contract of the library on worlds to one of ours: what only adds memory. strings.Builder: what its methods do to a builder of the call's own, exactly: which blocks stay. Functions of Go's .. -/
import Derived.Test.YtcdfnopkemadjaaGreatDoorP19
import Derived.Below
import Derived.Shelf.Strings.Builder1
import Derived.Shelf.Strings.OnBuilder
import Derived.Shelf.Strings.Cut
import Derived.Shelf.Strings.Split
import Derived.Shelf.Strconv.Itoa3
import Derived.Shelf.Strconv.AtoiAll
import Derived.Shelf.Sort.Plain
import Derived.Shelf.Slices.In.SortNone
import Derived.Shelf.Slices.Clone
import Derived.Shelf.Spec.SlicesInsert
import Derived.Shelf.Slices.SearchI
import Derived.Ground.Names2Prog
import Derived.Test.YtcdfnopkemadjaaGreatDoorProg
namespace Go.AM
open Go.RowKit
section
variable {P:Program} {A:World} {s:St}
theorem Inv.Ji (hi:Inv A s) {w':World} (hb:Below s.w.heap.size s.w w'):Inv A { s with w:=w' } ∧ aT s { s with w:=w' }:=
 hi.grow (s':={ s with w:=w' }) rfl rfl ⟨fun _ _ _ h=>h,fun _ _ h=>h,fun blk o hs=>World.cell?_of_block (a:=⟨blk,o,none⟩) (hb.block blk (hi.scell blk o hs))⟩
  (hi.below.trans (hb.mono hi.below.size)) hb.size hb.block (fun _ _ h=>.inl h) (fun blk x h=>Nat.lt_of_lt_of_le (hi.scell _ _ h) hb.size)
theorem Inv.uo (hi:Inv A s) {w':World} (hb:Below s.w.heap.size s.w w') {blk:Nat} (hblk:s.w.heap.size ≤ blk) (us:List Value) (hc:∀ j (h:j < us.length),w'.cell? ⟨blk,j,none⟩ = some us[j]) :
  ∃ s',s'.h = s.h ∧ s'.w = w' ∧ Inv A s' ∧ aT s s' ∧ ∀ j,j < us.length → s'.S blk j:=by
 let s':St:={ h:=s.h,lam:=s.lam,S:=fun g o=>s.S g o ∨ (g = blk ∧ o < us.length),w:=w' }
 have hk:aL s s':=⟨fun _ _ _ h=>h,fun _ _ h=>.inl h,fun g o hs=>World.cell?_of_block (a:=⟨g,o,none⟩) (hb.block g (hi.scell g o hs))⟩
 have hgo:=hi.grow (s':=s') rfl rfl hk (hi.below.trans (hb.mono hi.below.size)) hb.size hb.block (fun g x h=>by
   rcases h with h | ⟨h,_⟩
   ·exact .inl h
   ·exact .inr (h ▸ hblk))
  (fun g x h=>by
   rcases h with h | ⟨rfl,h⟩
   ·exact Nat.lt_of_lt_of_le (hi.scell _ _ h) hb.size
   ·exact kK (hc x h))
 exact ⟨s',rfl,rfl,hgo.1,hgo.2,fun j h=>.inr ⟨rfl,h⟩⟩
theorem C4 {s:St} {blk cap:Nat} {l:List ByteArray} (hcap:l.length ≤ cap) (hS:∀ j,j < l.length → s.S blk j) (hc:∀ j (h:j < l.length),s.w.cell? ⟨blk,j,none⟩ = some (.string l[j])) :
  Rv s (.slice 1 (l.map .str)) (.slice (some ⟨blk,0,none⟩) l.length cap):=by
 refine Rv.slice 1 (l.map .str) blk 0 l.length cap (l.map Value.string) (by simp) (by simp) hcap (fun i h1 h2=>by simp only [List.getElem_map]; exact .str _) (fun i h2=>?_);have h2':i < l.length:=by simpa using h2
 refine ⟨by simp [Value.cells],fun j hj=>?_⟩;have hj0:j = 0:=by simp [Value.cells] at hj; exact hj
 subst hj0;refine ⟨by simpa using hS i h2', ?_⟩;have:=hc i h2';simpa [Value.cells] using this
theorem Spec.HQ {f:FuncId} {args:List aa} {σ:ab} {Q:aa → Prop}
  (h:∀ A s cargs,s.h = σ → Inv A s → dA s args cargs → Calls P f cargs s.w fun e w'=>Below s.w.heap.size s.w w' ∧ ∃ v c,e = .returned c ∧ (∀ s':St,Rv s' v c) ∧ Q v) :
  Spec P f args σ fun r σ'=>∃ v,r = .ret v ∧ Q v ∧ σ' = σ:=by
 intro A s cargs h1 h2 h3;refine (h A s cargs h1 h2 h3).mono ?_;rintro e w' ⟨hb,v,c,rfl,hr,hq⟩;obtain ⟨i',g'⟩:=h2.Ji hb;exact ⟨.ret v,_,rfl,i',g',hr _,v,rfl,hq,h1⟩
theorem Spec.lM {f:FuncId} {args:List aa} {σ:ab} {v:aa}
  (h:∀ A s cargs,s.h = σ → Inv A s → dA s args cargs → Calls P f cargs s.w fun e w'=>Below s.w.heap.size s.w w' ∧ ∃ c,e = .returned c ∧ ∀ s':St,Rv s' v c) :
  Spec P f args σ fun r σ'=>r = .ret v ∧ σ' = σ:=by
 refine (Spec.HQ (Q:=fun u=>u = v) fun A s cargs h1 h2 h3=>(h A s cargs h1 h2 h3).mono ?_).mono ?_
 ·rintro e w' ⟨hb,c,rfl,hr⟩;exact ⟨hb,v,c,rfl,hr,rfl⟩
 ·rintro r σ' ⟨u,rfl,rfl,rfl⟩;exact ⟨rfl,rfl⟩
theorem dA.one {s:St} {a:aa} {cs:Array Value} (h:dA s [a] cs):∃ c,cs = #[c] ∧ Rv s a c:=by
 obtain ⟨h1,h2⟩:=h;obtain ⟨l⟩:=cs
 match l,h1 with
 | [c],_=>exact ⟨c,rfl,h2 0 (by simp) (by simp)⟩
theorem dA.two {s:St} {a b:aa} {cs:Array Value} (h:dA s [a,b] cs):∃ c d,cs = #[c,d] ∧ Rv s a c ∧ Rv s b d:=by
 obtain ⟨h1,h2⟩:=h;obtain ⟨l⟩:=cs
 match l,h1 with
 | [c,d],_=>exact ⟨c,d,rfl,h2 0 (by simp) (by simp),h2 1 (by simp) (by simp)⟩
theorem Rv.kF {s:St} {x:ByteArray} {c:Value} (h:Rv s (.str x) c):c = .string x:=by cases h; rfl
theorem Rv.gZ {s:St} {k:IntKind} {n:Int} {c:Value} (h:Rv s (.int k n) c):c = .int k n:=by cases h; rfl
end
open Go.RowKit Go.Shelf Go.Proofs
section
variable {P:Program} {ρ:Ren}
theorem ow (w:World) (base:Nat) (t u ty e:TypeId) (i:TypeInfo) (ht:P.underlying t = some (.slice e)) (hu:P.underlying u = some .string) (hi:P.info? e = some i) (hz:i.zero = some (.int .u8 0))
  (hsize:i.size = 1) (hby:i.bytes = 1) (v:Value) (n:Nat) (xs:List Value) (hown:w.ownsRow base e 1 v n xs) (x:ByteArray) (hlen:n + x.size ≤ 140737488355328) (hbase:base ≤ w.heap.size) :
  ∃ v' w',(Builtin.append_ #[t,u] ty #[v, .string x]).run P w = .ok v' w' ∧ w'.ownsRow base e 1 v' (n + x.size) (xs ++ Lib.strCells x) ∧ w.grownBy w' v.ownBlock ∧
   ∀ g,v'.ownBlock = some g → v.ownBlock = some g ∨ w.heap.size ≤ g:=by
 obtain ⟨v',w',hr,h2,h3,h4⟩:=Lib.run_append_own_string (P:=P) w base t u ty e i ht hu hi hz hsize hby v n xs hown x (by unfold maxLen; omega) hlen hbase;refine ⟨v',w',hr,h2,h3,fun g hg=>?_⟩;have hxl:xs.length = n:=by simpa using hown.1
 rcases hown.2 with ⟨rfl,rfl⟩ | ⟨g0,cap,cur,rfl,_,hg0,hnc,_,hcs,htake⟩
 ·by_cases hm:x.size = 0
  ·rw [h4.2 ⟨rfl,hm⟩] at hg; simp [Value.ownBlock] at hg
  ·have hr':=run_append_nil_string (P:=P) w t u ty e i (.int .u8 0) ht hu hi hz x (by omega) (by omega) (by rw [hby]; omega);rw [hr] at hr';injection hr' with e1 e2;rw [e1] at hg;simp [Value.ownBlock] at hg
   right; omega
 ·by_cases hroom:n + x.size ≤ cap
  ·have hcs':cur.size = cap:=by simpa using hcs
   have hr':=Lib.run_append_room_string (P:=P) w t u ty e i ht hu hi hsize g0 n cap cur hg0 x hroom (by omega);rw [hr] at hr';injection hr' with e1 e2;rw [e1] at hg
   left; exact hg
  ·have holds:∀ j u,xs[j]? = some u → w.cell? ((⟨g0,0,none⟩:Addr).add j) = some u:=hown.cells (g:=g0) rfl
   have hr':=Lib.run_append_grow_string (P:=P) w t u ty e i (.int .u8 0) ht hu hi hz ⟨g0,0,none⟩ n cap xs (by rw [hsize]; simpa using hxl) holds x (by omega) (by omega) (by rw [hby]; exact growslice_fits (by omega) (by omega));rw [hr] at hr';injection hr' with e1 e2;rw [e1] at hg;simp [Value.ownBlock] at hg
   right; omega
theorem ig {ops:Array Oper} {rest:List Oper} {o:Oper} {a:Act} {Q:Exit → Act → World → Prop} {w:World} (hgd:o.guard = none) (sl x:Operand) (t u:TypeId)
  (ho:o.op = .call { callee:=.builtin .append,args:=#[sl,x],argTypes:=#[t,u] }) (base:Nat) (e:TypeId) (i:TypeInfo) (ht:P.underlying t = some (.slice e)) (hu:P.underlying u = some .string) (hi:P.info? e = some i)
  (hz:i.zero = some (.int .u8 0)) (hsize:i.size = 1) (hby:i.bytes = 1) (v:Value) (n:Nat) (xs:List Value) (hs:a.eval sl = v) (hown:w.ownsRow base e 1 v n xs) (y:ByteArray) (hx:a.eval x = .string y)
  (hlen:n + y.size ≤ 140737488355328) (hbase:base ≤ w.heap.size)
  (h:∀ v' w',w'.ownsRow base e 1 v' (n + y.size) (xs ++ Lib.strCells y) → w.grownBy w' v.ownBlock → (∀ g,v'.ownBlock = some g → v.ownBlock = some g ∨ w.heap.size ≤ g) → wpList P ops Q rest (a.put o.dst v') w'):wpList P ops Q (o :: rest) a w:=by
 refine wpList_plain hgd fun K hK=>?_
 obtain ⟨v',w',hr,h2,h3,h4⟩:=ow (P:=P) w base t u o.type e i ht hu hi hz hsize hby v n xs hown y hlen hbase;unfold Oper.wp execOp;simp only [ho,resolve,invoke,builtin,Sem.run_bind,Sem.run_pure,Result.andThen_ok,List.map_toArray,List.map_cons,List.map_nil,hs,hx,hr];exact hK _ _ (h v' w' h2 h3 h4)
def qv (b:Nat) (p:Value):Prop:=p = .pointer none ∨ p = .pointer (some ⟨b,0,none⟩)
def oK (T e:TypeId) (B b:Nat) (bs:List Value) (y:ByteArray) (w:World) (v:Value) (en:Ending) (w':World):Prop:=
 en = .returned (.tuple #[.int .i64 y.size, .nilIface]) ∧ ∃ v',w'.heap[b]? = some (.cells #[.pointer (some ⟨b,0,none⟩),v'] T (0,0)) ∧
  w'.ownsRow B e 1 v' (bs ++ Lib.strCells y).length (bs ++ Lib.strCells y) ∧ v'.ownBlock ≠ some b ∧ (∀ g,v'.ownBlock = some g → v.ownBlock = some g ∨ w.heap.size ≤ g) ∧
  w'.os = w.os ∧ w'.tape = w.tape ∧ w'.output = w.output ∧ w.heap.size ≤ w'.heap.size ∧ ∀ k,k < w.heap.size → k ≠ b → v.ownBlock ≠ some k → w'.heap[k]? = w.heap[k]?
theorem ot (w:World) (g n k:Nat) (h:k ≠ g):(w.freeze ⟨g,0,none⟩ n).heap[k]? = w.heap[k]?:=by
 unfold World.freeze;split
 ·rfl
 ·simp only [Array.getElem?_modify];rw [if_neg (fun e=>h e.symm)]
theorem pA (w:World) (a:Addr) (n:Nat):(w.freeze a n).heap.size = w.heap.size:=by
 unfold World.freeze;split
 ·rfl
 ·simp
def kD (v:Value) (w w':World):Prop:=w'.os = w.os ∧ w'.tape = w.tape ∧ w'.output = w.output ∧ w.heap.size ≤ w'.heap.size ∧ ∀ k,k < w.heap.size → v.ownBlock ≠ some k → w'.heap[k]? = w.heap[k]?
set_option maxHeartbeats 2000000 in
set_option maxRecDepth 100000 in
theorem qY (L:Lays.n169 P ρ) (X:Builder.Extra P ρ) (B b:Nat) (l:List UInt8) (w:World) {p v:Value} (hbk:w.heap[b]? = some (.cells #[p,v] (ρ.t 72) (0,0))) (hown:w.ownsRow B (ρ.t 5) 1 v l.length (Lib.byteCells l)) :
  Calls P (ρ.f 169) #[.pointer (some ⟨b,0,none⟩)] w fun e w'=>e = .returned (.string ⟨l.toArray⟩) ∧ kD v w w':=by
 have mixed:=L.mixed;have t5:=X.t5; have t72:=L.t72; have t70:=L.t70; have t37:=L.t37; have t127:=L.t127; have t9:=L.t9; have t3:=L.t3;have a5:=X.a5; have a72:=L.a72; have a70:=L.a70; have a37:=L.a37; have a127:=L.a127; have a9:=L.a9; have a3:=L.a3;have z5:=X.z5; have z72:=L.z72; have z70:=L.z70; have z37:=L.z37; have z127:=L.z127; have z9:=L.z9; have z3:=L.z3;have v5:=X.v5; have v72:=L.v72; have v70:=L.v70; have v37:=L.v37; have v127:=L.v127; have v9:=L.v9; have v3:=L.v3;have u72:=run_underlying L.t72; have u70:=run_underlying L.t70; have u37:=run_underlying L.t37; have u127:=run_underlying L.t127; have u9:=run_underlying L.t9; have u3:=run_underlying L.t3; have u5:=run_underlying X.t5;have hlt:b < w.heap.size:=(Array.getElem?_eq_some_iff.1 hbk).1;have c1:w.drew.cell? ⟨b,1,none⟩ = some v:=by
  have:w.drew.heap[b]? = some (.cells #[p,v] (ρ.t 72) (0,0)):=hbk;rw [Lib.cell_of_heap this]; rfl
 have hk0:kD v w w.drew:=⟨rfl,rfl,rfl,Nat.le_refl _,fun _ _ _=>rfl⟩;have hUS:=Any.unsafeString_none L X;by_cases h0:l = []
 ·subst h0;rcases hown.2 with ⟨rfl,_⟩ | ⟨g,cap,cur,rfl,_,hg,_,_,_,_⟩
  ·have hSD:(Builtin.unsafeSliceData_ #[(ρ.t 37)] (ρ.t 127) #[.slice none 0 0]).run P w.drew = .ok (.pointer none) w.drew:=rfl
   go_enter L.f169,Body.n169_ntmps ρ
   go_wp2
   go_region_o
   all_goals (go_wp2; go_ret; exact ⟨rfl,hk0⟩)
  ·by_cases hc0:cap = 0
   ·subst hc0;have hSD:(Builtin.unsafeSliceData_ #[(ρ.t 37)] (ρ.t 127) #[.slice (some ⟨g,0,none⟩) 0 0]).run P w.drew = .ok (.pointer (some ⟨w.drew.heap.size,0,none⟩)) (w.drew.alloc (.view ⟨g,0,none⟩ (ρ.t 5))):=
     Lib.run_unsafeSliceData_zero w.drew _ _ (ρ.t 5) L.t127 ⟨g,0,none⟩ 0 ((ρ.t 5),cur.size) (by have hg':w.drew.heap[g]? = some (.cells cur (ρ.t 5) (0,0)):=hg; simp [World.shape?,hg'])
    have c2:(w.drew.alloc (.view ⟨g,0,none⟩ (ρ.t 5))).cell? ⟨b,1,none⟩ = some (.slice (some ⟨g,0,none⟩) 0 0):=by
     have:(w.drew.alloc (.view ⟨g,0,none⟩ (ρ.t 5))).heap[b]? = _:=(Lib.alloc_old w.drew _ b hlt).trans hbk;rw [Lib.cell_of_heap this]; rfl
    have c3:(w.alloc (.view ⟨g,0,none⟩ (ρ.t 5))).drew.cell? ⟨b,1,none⟩ = some (.slice (some ⟨g,0,none⟩) 0 0):=c2;have c0:w.cell? ⟨b,1,none⟩ = some (.slice (some ⟨g,0,none⟩) 0 0):=c1;have hk1:kD (.slice (some ⟨g,0,none⟩) 0 0) w (w.drew.alloc (.view ⟨g,0,none⟩ (ρ.t 5))):=⟨rfl,rfl,rfl,by simp,fun k hk _=>Lib.alloc_old w.drew _ k hk⟩
    go_enter L.f169,Body.n169_ntmps ρ
    go_wp2
    go_region_o
    all_goals (go_wp2; go_ret; exact ⟨rfl,hk1⟩)
   ·have hSD:(Builtin.unsafeSliceData_ #[(ρ.t 37)] (ρ.t 127) #[.slice (some ⟨g,0,none⟩) 0 cap]).run P w.drew = .ok (.pointer (some ⟨g,0,none⟩)) w.drew:=
     Lib.run_unsafeSliceData_row _ _ _ _ _ _ hc0
    clear hc0
    go_enter L.f169,Body.n169_ntmps ρ
    go_wp2
    go_region_o
    all_goals (go_wp2; go_ret; exact ⟨rfl,hk0⟩)
 ·have hl0:l.length ≠ 0:=by simpa using h0
  obtain ⟨g,cap,cur,rfl,hbg,hg,hnc,hcm,hcs,htake⟩:∃ g cap cur,v = .slice (some ⟨g,0,none⟩) l.length cap ∧ B ≤ g ∧ w.heap[g]? = some (.cells cur (ρ.t 5) (0,0)) ∧ l.length ≤ cap ∧ cap ≤ maxLen ∧ cur.size = cap * 1 ∧ cur.toList.take (l.length * 1) = Lib.byteCells l:=by
   rcases hown.2 with ⟨_,hz⟩ | ⟨g,cap,cur,hv,r⟩
   ·exact absurd hz hl0
   ·exact ⟨g,cap,cur,hv,r⟩
  have hSD:(Builtin.unsafeSliceData_ #[(ρ.t 37)] (ρ.t 127) #[.slice (some ⟨g,0,none⟩) l.length cap]).run P w.drew = .ok (.pointer (some ⟨g,0,none⟩)) w.drew:=
   Lib.run_unsafeSliceData_row _ _ _ _ _ _ (by omega)
  have hUS2:(Builtin.unsafeString_ #[(ρ.t 127),(ρ.t 3)] (ρ.t 9) #[.pointer (some ⟨g,0,none⟩), .int .i64 l.length]).run P w.drew = .ok (.string ⟨l.toArray⟩) (w.drew.freeze ⟨g,0,none⟩ l.length):=by
   refine Lib.run_unsafeString_row w.drew (ρ.t 127) (ρ.t 3) (ρ.t 9) (ρ.t 5) L.t127 X.cellsByte g cur.size (by have hg':w.drew.heap[g]? = some (.cells cur (ρ.t 5) (0,0)):=hg; simp [World.shape?,hg']) l h0 (by omega) (by unfold maxLen at hcm; omega) ?_;intro j x hx;have:=hown.cells (g:=g) rfl j (.int .u8 x.toNat) (by simp [Lib.byteCells,hx]);exact this
  have hk2:kD (.slice (some ⟨g,0,none⟩) l.length cap) w (w.drew.freeze ⟨g,0,none⟩ l.length):=
   ⟨by unfold World.freeze; split <;> rfl,by unfold World.freeze; split <;> rfl,by unfold World.freeze; split <;> rfl,by rw [pA]; exact Nat.le_refl _,fun k hk hne=>ot w.drew g _ k (fun e=>hne (by simp [Value.ownBlock,e]))⟩
  clear hUS
  go_enter L.f169,Body.n169_ntmps ρ
  go_wp2
  go_region_o
  all_goals (go_wp2; go_ret; exact ⟨rfl,hk2⟩)
/-! ### The contracts on the abstract heap -/
theorem Spec.Iv {W:FuncId} (H:∀ (B b:Nat) (bs:List Value) (y:ByteArray) (w:World) (p v:Value),qv b p → w.heap[b]? = some (.cells #[p,v] ku.1 (0,0)) → w.ownsRow B ku.2 1 v bs.length bs → v.ownBlock ≠ some b → bs.length + y.size ≤ 140737488355328 → B ≤ w.heap.size →
   Calls P W #[.pointer (some ⟨b,0,none⟩), .string y] w (oK ku.1 ku.2 B b bs y w v))
  (b k:Nat) (bs:List UInt8) (y:ByteArray) (σ:ab) (hb:σ[b]? = some (.bld k bs)) (hlen:bs.length + y.size ≤ 140737488355328) :
  Spec P W [.ptr b 0, .str y] σ fun r σ'=>r = .ret (.tup [.int .i64 y.size, .niliface]) ∧ σ' = σ.set b (.bld (k + 1) (bs ++ y.data.toList)):=by
 intro A s cargs hh hi ha;subst hh;obtain ⟨c,d,rfl,hc,hd⟩:=ha.two;obtain rfl:=hd.kF;obtain ⟨hno,blk,v,hl0,hv,⟨hB,⟨p,hp,hbk⟩,hrow,hne⟩,hnS,hgS⟩:=hi.obj b _ hb
 cases hc with
 | ptr _ _ blk' hl'=>
 have:blk' = blk:=by rw [hl0] at hl'; simpa using hl'.symm
 subst this;have hlen0:(bs.map fun b=>Value.int .u8 b.toNat).length = bs.length:=by simp
 rw [← hlen0] at hrow;refine (H A.heap.size blk' _ y s.w p v hp hbk hrow hne (by rw [hlen0]; exact hlen) hi.below.size).mono ?_;rintro e w' ⟨rfl,v',hbk',hrow',hne',hwh,q1,q2,q3,q4,q5⟩;have hblt:b < s.h.length:=(List.getElem?_eq_some_iff.1 hb).1
 let s':St:={ h:=s.h.set b (.bld (k + 1) (bs ++ y.data.toList)),lam:=aO s.lam b (k + 2) v',S:=s.S,w:=w' }
 have hk:aL s s':=⟨aJ (hno _ (by omega)),fun _ _ h=>h,fun g o hs=>World.cell?_of_block (a:=⟨g,o,none⟩) (q5 g (hi.scell g o hs) (fun e=>hnS o (e ▸ hs)) (fun e=>hgS g e o hs))⟩;have hl1:s'.lam b 0 = some (.pointer (some ⟨blk',0,none⟩)):=(av (.inr (by omega))).trans hl0;have hl2:s'.lam b (k + 1 + 1) = some v':=aC _ _ _ _;have hown:bu s b (.bld k bs) blk':=.inl hl0;have hog:∀ g,v.ownBlock = some g → bu s b (.bld k bs) g:=fun g e=>.inr ⟨v,hv,e⟩
 have hvlt:=hrow.lt;have hgo:=hi.change (s':=s') hblt rfl hk (hi.below.trans ⟨q1,q2,q3,q4,fun g hg=>q5 g (by have:=hi.below.size; omega) (by omega) (fun e=>by have:=(hvlt g e).1; omega)⟩) q4 (fun b' k hne=>av (.inl hne))
  (fun g hlt hno=>q5 g hlt (fun e=>hno ⟨_,hb,e ▸ hown⟩) (fun e=>hno ⟨_,hb,hog g e⟩))
  ⟨fun k' hk'=>(av (.inr (by omega))).trans (hno k' (by omega)),blk',v',hl1,hl2,⟨hB,⟨_, .inr rfl,hbk'⟩,by
    have e1:((bs ++ y.data.toList).map fun b=>Value.int .u8 b.toNat) = (bs.map fun b=>Value.int .u8 b.toNat) ++ Lib.strCells y:=by simp [Lib.strCells]
    have e2:(bs ++ y.data.toList).length = ((bs.map fun b=>Value.int .u8 b.toNat) ++ Lib.strCells y).length:=by rw [← e1]; simp
    rw [e1,e2]; exact hrow',hne'⟩,hnS,fun g e o hs=>by
    rcases hwh g e with h | h
    ·exact hgS g h o hs
    ·have:=hi.scell _ _ hs; omega⟩
  (fun g ho=>by
   rcases ho with e | ⟨u,e1,e2⟩
   ·rw [hl1] at e;have:blk' = g:=by simpa using e
    subst this; exact .inr ⟨_,hb,hown⟩
   ·rw [hl2] at e1;have:=Option.some.inj e1;subst this;rcases hwh g e2 with h | h
    ·exact .inr ⟨_,hb,hog g h⟩
    ·exact .inl h)
  (fun g x h=>.inl h) (fun g x h=>by have:=hi.scell _ _ h; show g < w'.heap.size; omega)
 refine ⟨_,s',rfl,hgo.1,hgo.2, ?_,rfl,rfl⟩;refine .tup _ _ rfl fun j h1 h2=>?_
 match j,h1 with
 | 0,_=>exact .int _ _
 | 1,_=>exact .niliface
theorem Spec.built (L:Lays.n169 P ρ) (X:Builder.Extra P ρ) (hT:ku = (ρ.t 72,ρ.t 5)) (b k:Nat) (bs:List UInt8) (σ:ab) (hb:σ[b]? = some (.bld k bs)) :
  Spec P (ρ.f 169) [.ptr b 0] σ fun r σ'=>r = .ret (.str ⟨bs.toArray⟩) ∧ σ' = σ.set b .dead:=by
 intro A s cargs hh hi ha;subst hh;obtain ⟨c,rfl,hc⟩:=ha.one;obtain ⟨hno,blk,v,hl0,hv,⟨hB,⟨p,hp,hbk⟩,hrow,hne⟩,hnS,hgS⟩:=hi.obj b _ hb
 cases hc with
 | ptr _ _ blk' hl'=>
 have:blk' = blk:=by rw [hl0] at hl'; simpa using hl'.symm
 subst this;rw [hT] at hbk hrow;refine (qY L X A.heap.size blk' bs s.w hbk hrow).mono ?_;rintro e w' ⟨rfl,q1,q2,q3,q4,q5⟩;have hblt:b < s.h.length:=(List.getElem?_eq_some_iff.1 hb).1
 let s':St:={ h:=s.h.set b .dead,lam:=s.lam,S:=s.S,w:=w' }
 have hog:∀ g,v.ownBlock = some g → bu s b (.bld k bs) g:=fun g e=>.inr ⟨v,hv,e⟩
 have hk:aL s s':=⟨fun _ _ _ h=>h,fun _ _ h=>h,fun g o hs=>World.cell?_of_block (a:=⟨g,o,none⟩) (q5 g (hi.scell g o hs) (fun e=>hgS g e o hs))⟩;have hvlt:=hrow.lt;have hgo:=hi.change (s':=s') hblt rfl hk (hi.below.trans ⟨q1,q2,q3,q4,fun g hg=>q5 g (by have:=hi.below.size; omega) (fun e=>by have:=(hvlt g e).1; omega)⟩) q4 (fun b' k hne=>rfl)
  (fun g hlt hno=>q5 g hlt (fun e=>hno ⟨_,hb,hog g e⟩)) trivial (fun g ho=>ho.elim)
  (fun g x h=>.inl h) (fun g x h=>by have:=hi.scell _ _ h; show g < w'.heap.size; omega)
 exact ⟨.ret (.str _),s',rfl,hgo.1,hgo.2,Rv.str _,rfl,rfl⟩
end
open Go.RowKit Go.Shelf Go.Proofs Go.Sort
section
variable {P:Program} {ρ:Ren}
def bytes (l:List UInt8):ByteArray:=⟨l.toArray⟩
theorem qK (w:World) (n:Nat) (os:Array Obj):Below w.heap.size w (grow (w.drewN n) os):=
 ⟨rfl,rfl,rfl,by simp [grow,World.drewN],fun k hk=>by
  have:(w.drewN n).heap = w.heap:=rfl;simp only [grow,this]
  rw [Array.getElem?_append_left hk]⟩
theorem JU {A:World} {s:St} (hi:Inv A s) {g:Nat} {name:String} {k:IntKind} {zs:List Int} (hg:P.globalNamed name = some g) (hm:(g,zs.map fun z=>(k,z)) ∈ bP) (h0:zs ≠ []):Lib.TabIs P s.w name k zs:=by
 have h1:=hi.laid.1 g _ hm;have h2:=(hi.laid.2.2 g _ hm).2;have hz:0 < zs.length:=by cases zs with
  | nil=>exact absurd rfl h0
  | cons=>simp
 have hc0:=(h1 0 (by simpa using hz)).2;unfold Lib.TabIs World.var?;rw [hg];simp only [Option.bind_some];simp only [World.cell?] at hc0 h2
 cases hh:s.w.heap[g]? with
 | none=>rw [hh] at hc0; simp at hc0
 | some o=>
  cases o with
  | cells cs el fz=>
   rw [hh] at h2;simp only [Option.some.injEq];simp at h2;apply Array.ext_getElem?;intro j;by_cases hj:j < zs.length
   ·have:=(h1 j (by simpa using hj)).2;simp only [World.cell?,hh] at this;simp at this;rw [this];simp [hj]
   ·rw [Array.getElem?_eq_none (by omega),Array.getElem?_eq_none (by simp; omega)]
  | _=>rw [hh] at hc0; simp at hc0
theorem Spec.itoa {g0 : Nat} (L : LaysM.n171 P ρ) (hg : P.globalNamed "internal/strconv.uint64pow10" = some g0) (hm : (g0, Lib.pow10Tab.map fun z => (IntKind.u64, z)) ∈ bP) (n : Int) (h0 : -9223372036854775808 ≤ n) (h1 : n ≤ 9223372036854775807) (σ : ab) :
  Spec P (ρ.f 171) [.int .i64 n] σ fun r σ'=>r = .ret (.str (bytes (Lib.itoa n))) ∧ σ' = σ:=by
 refine Spec.lM fun A s cargs g1 g2 g3=>?_
 obtain ⟨c,rfl,hc⟩:=g3.one;obtain rfl:=hc.gZ;refine (Any.strconv_Itoa L n h0 h1 s.w (JU g2 hg hm (by decide))).mono ?_;rintro e w' ⟨rfl,k,os,rfl⟩;exact ⟨qK _ _ _,_,rfl,fun s'=>.str _⟩
theorem JY {A:World} {s:St} (hi:Inv A s) {g:Nat} (hm:(g,0) ∈ dZ):∃ m,s.w.cell? ⟨g,0,none⟩ = some (.int .i64 m):=by
 obtain ⟨_,v,hv,m,rfl⟩:=hi.laid.2.1 g 0 hm;exact ⟨m,hv⟩
theorem DS {A:World} {s:St} (hi:Inv A s) {g:Nat} (hm:(g,1) ∈ dZ):∃ ev,s.w.cell? ⟨g,0,none⟩ = some ev ∧ (ev = .nilIface ∨ ∃ te pe,ev = .iface te pe):=by
 obtain ⟨_,v,hv,te,pe,rfl⟩:=hi.laid.2.1 g 1 hm;exact ⟨_,hv, .inr ⟨te,pe,rfl⟩⟩
def iA (x sep:ByteArray):List ByteArray:=Lib.splitB sep 0 (Lib.countB x sep) x
theorem Spec.split (L:Lays.n146 P ρ) (hi9:(P.info? (ρ.t 9)).map (fun i=>(i.zero,i.size,i.bytes)) = some (some (.string ByteArray.empty),1,16)) (hm:(ρ.g 1,0) ∈ dZ) (x sep:ByteArray) (hx:x.size < 4294967281) (h1:1 ≤ sep.size) (σ:ab) :
  Spec P (ρ.f 146) [.str x, .str sep] σ fun r σ'=>r = .ret (.slice 1 ((iA x sep).map .str)) ∧ σ' = σ:=by
 intro A s cargs g1 g2 g3;obtain ⟨c,d,rfl,hc,hd⟩:=g3.two;obtain rfl:=hc.kF;obtain rfl:=hd.kF;obtain ⟨m,hmc⟩:=JY g2 hm;refine (Any.strings_Split L hi9 x sep m s.w hx hmc h1).mono ?_;rintro e w' ⟨rfl,rfl⟩;have hlen:(iA x sep).length = Lib.countB x sep + 1:=Lib.splitB_all sep h1 0 _ x rfl;have hbel:Below s.w.heap.size s.w (s.w.alloc (.cells ((iA x sep).map Value.string).toArray (ρ.t 9))):=(Below.refl _ _).alloc (Nat.le_refl _) _
 obtain ⟨s',e1,e2,i',g',hS⟩:=g2.uo hbel (blk:=s.w.heap.size) (Nat.le_refl _) ((iA x sep).map Value.string) (fun j hj=>by
  rw [World.cell?_alloc_new]
  simp [hj])
 refine ⟨.ret (.slice 1 ((iA x sep).map .str)),s',e2,i',g', ?_,rfl,e1.trans g1⟩;show Rv s' _ _
 rw [← hlen];refine C4 (Nat.le_refl _) (fun j hj=>hS j (by simpa using hj)) (fun j hj=>?_);rw [e2];show (s.w.alloc _).cell? _ = _
 rw [World.cell?_alloc_new];simp [iA] at hj ⊢
def oz (x:ByteArray) (te:TypeId):aa:=
 match Lib.atoiAll x.data.toList with
 | .ok v=>.tup [.int .i64 v, .niliface]
 | .range=>.tup [.int .i64 (Lib.atoiSat x.data.toList), .iface te .undef]
 | _=>.tup [.int .i64 0, .iface te .undef]
theorem pY (w:World) (e:TypeId) (t:ByteArray):Below w.heap.size w (Lib.bytesWorld w e t):=
 Lib.below_freeze (((Below.refl _ w).drew).alloc (Nat.le_refl _) _) (p:=⟨w.heap.size,_,none⟩) (Nat.le_refl _) _
theorem Spec.atoi (L:LaysC.n172 P ρ) (h15:(ρ.g 15,1) ∈ dZ) (h16:(ρ.g 16,1) ∈ dZ) (x:ByteArray) (hx:x.size ≤ 281474976710656) (σ:ab) :
  Spec P (ρ.f 172) [.str x] σ fun r σ'=>r = .ret (oz x (ρ.t 168)) ∧ σ' = σ:=by
 refine Spec.lM fun A s cargs g1 g2 g3=>?_
 obtain ⟨c,rfl,hc⟩:=g3.one;obtain rfl:=hc.kF;unfold oz
 cases ha:Lib.atoiAll x.data.toList with
 | ok v=>
  refine (Any.strconv_Atoi_ok L x (by omega) v ha s.w).mono ?_;rintro e w' ⟨rfl,hw⟩;refine ⟨?_,_,rfl,fun s'=>.tup _ _ rfl fun j h1 h2=>?_⟩
  ·rcases hw with rfl | ⟨t,rfl⟩
   ·exact Below.refl _ _
   ·exact pY _ _ _
  ·match j,h1 with
   | 0,_=>exact .int _ _
   | 1,_=>exact .niliface
 | range=>
  obtain ⟨ev,hv,hev⟩:=DS g2 h16;refine (Any.strconv_Atoi_range L x hx ha ev s.w hv hev).mono ?_;rintro e w' ⟨N,rfl,_,_,hb⟩;refine ⟨hb,_,rfl,fun s'=>.tup _ _ rfl fun j h1 h2=>?_⟩
  match j,h1 with
  | 0,_=>exact .int _ _
  | 1,_=>exact .iface _ _ _ (.undef _)
 | _=>
  obtain ⟨ev,hv,hev⟩:=DS g2 h15;refine (Any.strconv_Atoi_syntax L x hx ha ev s.w hv hev).mono ?_;rintro e w' ⟨N,rfl,_,_,hb⟩;refine ⟨hb,_,rfl,fun s'=>.tup _ _ rfl fun j h1 h2=>?_⟩
  match j,h1 with
  | 0,_=>exact .int _ _
  | 1,_=>exact .iface _ _ _ (.undef _)
end
open Go.RowKit Go.Shelf Go.Proofs Go.Sort
section
variable {P:Program} {ρ:Ren}
end
end Go.AM
namespace Go.Proofs
open Go.Shelf
def Tryz.jY:Go.Shelf.Ren:=⟨fun | 169=>47 | n=>n,fun | 70=>138 | 9=>9 | 0=>0 | 72=>141 | 37=>139 | 127=>166 | 3=>3 | 5=>5 | n=>n,fun | n=>n⟩
theorem Tryz.HI:Go.Proofs.Lays.n169 Tryz.prog Tryz.jY:={
 mixed:=by kernel_rfl
 f169:=Tryz.func47.trans (congrArg some (by kernel_rfl))
 t0:=Tryz.underlying0
 a0:=Tryz.isAgg0
 z0:=Tryz.sizeOf0
 v0:=Tryz.zeroValue0
 t3:=Tryz.underlying3
 a3:=Tryz.isAgg3
 z3:=Tryz.sizeOf3
 v3:=Tryz.zeroValue3
 t9:=Tryz.underlying9
 a9:=Tryz.isAgg9
 z9:=Tryz.sizeOf9
 v9:=Tryz.zeroValue9
 t37:=Tryz.underlying139
 a37:=Tryz.isAgg139
 z37:=Tryz.sizeOf139
 v37:=Tryz.zeroValue139
 t70:=Tryz.underlying138
 a70:=Tryz.isAgg138
 z70:=Tryz.sizeOf138
 v70:=Tryz.zeroValue138
 t72:=Tryz.underlying141
 a72:=Tryz.isAgg141
 z72:=Tryz.sizeOf141
 v72:=Tryz.zeroValue141
 t127:=Tryz.underlying166
 a127:=Tryz.isAgg166
 z127:=Tryz.sizeOf166
 v127:=Tryz.zeroValue166 }
theorem Tryz.jn:Builder.Extra Tryz.prog Tryz.jY:={
 sizeBuilder:=by kernel_rfl
 liesBuilder:=by kernel_rfl
 t5:=Tryz.underlying5
 a5:=Tryz.isAgg5
 z5:=Tryz.sizeOf5
 v5:=Tryz.zeroValue5
 infoByte:=by kernel_rfl
 cellsByte:=by kernel_rfl
 sizeByte:=by kernel_rfl
 neB5:=by decide }
def Tryz.nR:Go.Shelf.Ren:=⟨fun | 171=>62 | 243=>112 | 246=>180 | 283=>258 | 284=>259 | 285=>260 | 286=>261 | 129=>310 | 317=>309 | 318=>311 | 319=>312 | 320=>313 | 337=>339 | 338=>340 | n=>n,fun | 3=>3 | 9=>9 | 2=>2 | 4=>4 | 171=>394 | 0=>0 | 53=>388 | 37=>139 | 5=>5 | 173=>397 | 212=>458 | 51=>450 | 20=>20 | 213=>459 | 46=>268 | 232=>487 | 233=>488 | n=>n,fun | 17=>5 | 18=>6 | 19=>7 | n=>n⟩
theorem Tryz.AD:Go.Proofs.LaysM.n171 Tryz.prog Tryz.nR:={
 mixed:=by kernel_rfl
 f129:=Tryz.func310.trans (congrArg some (by kernel_rfl))
 f171:=Tryz.func62.trans (congrArg some (by kernel_rfl))
 f243:=Tryz.func112.trans (congrArg some (by kernel_rfl))
 f246:=Tryz.func180.trans (congrArg some (by kernel_rfl))
 f283:=Tryz.func258.trans (congrArg some (by kernel_rfl))
 f284:=Tryz.func259.trans (congrArg some (by kernel_rfl))
 f285:=Tryz.func260.trans (congrArg some (by kernel_rfl))
 f286:=Tryz.func261.trans (congrArg some (by kernel_rfl))
 f317:=Tryz.func309.trans (congrArg some (by kernel_rfl))
 f318:=Tryz.func311.trans (congrArg some (by kernel_rfl))
 f319:=Tryz.func312.trans (congrArg some (by kernel_rfl))
 f320:=Tryz.func313.trans (congrArg some (by kernel_rfl))
 f337:=Tryz.func339.trans (congrArg some (by kernel_rfl))
 f338:=Tryz.func340.trans (congrArg some (by kernel_rfl))
 t0:=Tryz.underlying0
 a0:=Tryz.isAgg0
 z0:=Tryz.sizeOf0
 v0:=Tryz.zeroValue0
 t2:=Tryz.underlying2
 a2:=Tryz.isAgg2
 z2:=Tryz.sizeOf2
 v2:=Tryz.zeroValue2
 t3:=Tryz.underlying3
 a3:=Tryz.isAgg3
 z3:=Tryz.sizeOf3
 v3:=Tryz.zeroValue3
 t4:=Tryz.underlying4
 a4:=Tryz.isAgg4
 z4:=Tryz.sizeOf4
 v4:=Tryz.zeroValue4
 t5:=Tryz.underlying5
 a5:=Tryz.isAgg5
 z5:=Tryz.sizeOf5
 v5:=Tryz.zeroValue5
 t9:=Tryz.underlying9
 a9:=Tryz.isAgg9
 z9:=Tryz.sizeOf9
 v9:=Tryz.zeroValue9
 t20:=Tryz.underlying20
 a20:=Tryz.isAgg20
 z20:=Tryz.sizeOf20
 v20:=Tryz.zeroValue20
 t37:=Tryz.underlying139
 a37:=Tryz.isAgg139
 z37:=Tryz.sizeOf139
 v37:=Tryz.zeroValue139
 t46:=Tryz.underlying268
 a46:=Tryz.isAgg268
 z46:=Tryz.sizeOf268
 v46:=Tryz.zeroValue268
 t51:=Tryz.underlying450
 a51:=Tryz.isAgg450
 z51:=Tryz.sizeOf450
 v51:=Tryz.zeroValue450
 t53:=Tryz.underlying388
 a53:=Tryz.isAgg388
 z53:=Tryz.sizeOf388
 v53:=Tryz.zeroValue388
 t171:=Tryz.underlying394
 a171:=Tryz.isAgg394
 z171:=Tryz.sizeOf394
 v171:=Tryz.zeroValue394
 t173:=Tryz.underlying397
 a173:=Tryz.isAgg397
 z173:=Tryz.sizeOf397
 v173:=Tryz.zeroValue397
 t212:=Tryz.underlying458
 a212:=Tryz.isAgg458
 z212:=Tryz.sizeOf458
 v212:=Tryz.zeroValue458
 t213:=Tryz.underlying459
 a213:=Tryz.isAgg459
 z213:=Tryz.sizeOf459
 t232:=Tryz.underlying487
 a232:=Tryz.isAgg487
 z232:=Tryz.sizeOf487
 v232:=Tryz.zeroValue487
 t233:=Tryz.underlying488
 a233:=Tryz.isAgg488
 z233:=Tryz.sizeOf488
 v233:=Tryz.zeroValue488
 g17:=by kernel_rfl
 g18:=by kernel_rfl
 g19:=by kernel_rfl
 i0:=by kernel_rfl
 i2:=by kernel_rfl
 i3:=by kernel_rfl
 i4:=by kernel_rfl
 i5:=by kernel_rfl
 i9:=by kernel_rfl
 i20:=by kernel_rfl
 i37:=by kernel_rfl
 i46:=by kernel_rfl
 i51:=by kernel_rfl
 i53:=by kernel_rfl
 i171:=by kernel_rfl
 i173:=by kernel_rfl
 i212:=by kernel_rfl
 i232:=by kernel_rfl
 i233:=by kernel_rfl
 m17:=by kernel_rfl
 m18:=by kernel_rfl
 m19:=by kernel_rfl }
def Tryz.iR:Go.Shelf.Ren:=⟨fun | 172=>61 | 244=>110 | 245=>111 | 247=>175 | 279=>176 | 280=>177 | 281=>178 | 282=>179 | 287=>255 | 316=>256 | 171=>62 | 205=>257 | 321=>307 | 322=>308 | 243=>112 | 246=>180 | 283=>258 | 284=>259 | 285=>260 | 286=>261 | 129=>310 | 317=>309 | 318=>311 | 319=>312 | 320=>313 | 337=>339 | 338=>340 | n=>n,fun | 9=>9 | 3=>3 | 75=>143 | 76=>144 | 4=>4 | 5=>5 | 167=>294 | 37=>139 | 0=>0 | 85=>295 | 2=>2 | 168=>297 | 53=>388 | 175=>389 | 46=>268 | 210=>392 | 127=>166 | 145=>456 | 143=>454 | 21=>21 | 171=>394 | 173=>397 | 212=>458 | 51=>450 | 20=>20 | 213=>459 | 232=>487 | 233=>488 | 80=>112 | n=>n,fun | 15=>1 | 16=>2 | 17=>5 | 18=>6 | 19=>7 | n=>n⟩
theorem Tryz.AH:Go.Proofs.LaysC.n172 Tryz.prog Tryz.iR:={
 mixed:=by kernel_rfl
 f129:=Tryz.func310.trans (congrArg some (by kernel_rfl))
 f171:=Tryz.func62.trans (congrArg some (by kernel_rfl))
 f172:=Tryz.func61.trans (congrArg some (by kernel_rfl))
 f205:=Tryz.func257.trans (congrArg some (by kernel_rfl))
 f243:=Tryz.func112.trans (congrArg some (by kernel_rfl))
 f244:=Tryz.func110.trans (congrArg some (by kernel_rfl))
 f245:=Tryz.func111.trans (congrArg some (by kernel_rfl))
 f246:=Tryz.func180.trans (congrArg some (by kernel_rfl))
 f247:=Tryz.func175.trans (congrArg some (by kernel_rfl))
 f279:=Tryz.func176.trans (congrArg some (by kernel_rfl))
 f280:=Tryz.func177.trans (congrArg some (by kernel_rfl))
 f281:=Tryz.func178.trans (congrArg some (by kernel_rfl))
 f282:=Tryz.func179.trans (congrArg some (by kernel_rfl))
 f283:=Tryz.func258.trans (congrArg some (by kernel_rfl))
 f284:=Tryz.func259.trans (congrArg some (by kernel_rfl))
 f285:=Tryz.func260.trans (congrArg some (by kernel_rfl))
 f286:=Tryz.func261.trans (congrArg some (by kernel_rfl))
 f287:=Tryz.func255.trans (congrArg some (by kernel_rfl))
 f316:=Tryz.func256.trans (congrArg some (by kernel_rfl))
 f317:=Tryz.func309.trans (congrArg some (by kernel_rfl))
 f318:=Tryz.func311.trans (congrArg some (by kernel_rfl))
 f319:=Tryz.func312.trans (congrArg some (by kernel_rfl))
 f320:=Tryz.func313.trans (congrArg some (by kernel_rfl))
 f321:=Tryz.func307.trans (congrArg some (by kernel_rfl))
 f322:=Tryz.func308.trans (congrArg some (by kernel_rfl))
 f337:=Tryz.func339.trans (congrArg some (by kernel_rfl))
 f338:=Tryz.func340.trans (congrArg some (by kernel_rfl))
 t0:=Tryz.underlying0
 a0:=Tryz.isAgg0
 z0:=Tryz.sizeOf0
 v0:=Tryz.zeroValue0
 t2:=Tryz.underlying2
 a2:=Tryz.isAgg2
 z2:=Tryz.sizeOf2
 v2:=Tryz.zeroValue2
 t3:=Tryz.underlying3
 a3:=Tryz.isAgg3
 z3:=Tryz.sizeOf3
 v3:=Tryz.zeroValue3
 t4:=Tryz.underlying4
 a4:=Tryz.isAgg4
 z4:=Tryz.sizeOf4
 v4:=Tryz.zeroValue4
 t5:=Tryz.underlying5
 a5:=Tryz.isAgg5
 z5:=Tryz.sizeOf5
 v5:=Tryz.zeroValue5
 t9:=Tryz.underlying9
 a9:=Tryz.isAgg9
 z9:=Tryz.sizeOf9
 v9:=Tryz.zeroValue9
 t20:=Tryz.underlying20
 a20:=Tryz.isAgg20
 z20:=Tryz.sizeOf20
 v20:=Tryz.zeroValue20
 t21:=Tryz.underlying21
 a21:=Tryz.isAgg21
 z21:=Tryz.sizeOf21
 v21:=Tryz.zeroValue21
 t37:=Tryz.underlying139
 a37:=Tryz.isAgg139
 z37:=Tryz.sizeOf139
 v37:=Tryz.zeroValue139
 t46:=Tryz.underlying268
 a46:=Tryz.isAgg268
 z46:=Tryz.sizeOf268
 v46:=Tryz.zeroValue268
 t51:=Tryz.underlying450
 a51:=Tryz.isAgg450
 z51:=Tryz.sizeOf450
 v51:=Tryz.zeroValue450
 t53:=Tryz.underlying388
 a53:=Tryz.isAgg388
 z53:=Tryz.sizeOf388
 v53:=Tryz.zeroValue388
 t75:=Tryz.underlying143
 a75:=Tryz.isAgg143
 z75:=Tryz.sizeOf143
 v75:=Tryz.zeroValue143
 t76:=Tryz.underlying144
 a76:=Tryz.isAgg144
 z76:=Tryz.sizeOf144
 v76:=Tryz.zeroValue144
 t85:=Tryz.underlying295
 a85:=Tryz.isAgg295
 z85:=Tryz.sizeOf295
 v85:=Tryz.zeroValue295
 t127:=Tryz.underlying166
 a127:=Tryz.isAgg166
 z127:=Tryz.sizeOf166
 v127:=Tryz.zeroValue166
 t143:=Tryz.underlying454
 a143:=Tryz.isAgg454
 z143:=Tryz.sizeOf454
 v143:=Tryz.zeroValue454
 t145:=Tryz.underlying456
 a145:=Tryz.isAgg456
 z145:=Tryz.sizeOf456
 v145:=Tryz.zeroValue456
 t167:=Tryz.underlying294
 a167:=Tryz.isAgg294
 z167:=Tryz.sizeOf294
 v167:=Tryz.zeroValue294
 t168:=Tryz.underlying297
 a168:=Tryz.isAgg297
 z168:=Tryz.sizeOf297
 v168:=Tryz.zeroValue297
 t171:=Tryz.underlying394
 a171:=Tryz.isAgg394
 z171:=Tryz.sizeOf394
 v171:=Tryz.zeroValue394
 t173:=Tryz.underlying397
 a173:=Tryz.isAgg397
 z173:=Tryz.sizeOf397
 v173:=Tryz.zeroValue397
 t175:=Tryz.underlying389
 a175:=Tryz.isAgg389
 z175:=Tryz.sizeOf389
 v175:=Tryz.zeroValue389
 t210:=Tryz.underlying392
 a210:=Tryz.isAgg392
 z210:=Tryz.sizeOf392
 v210:=Tryz.zeroValue392
 t212:=Tryz.underlying458
 a212:=Tryz.isAgg458
 z212:=Tryz.sizeOf458
 v212:=Tryz.zeroValue458
 t213:=Tryz.underlying459
 a213:=Tryz.isAgg459
 z213:=Tryz.sizeOf459
 t232:=Tryz.underlying487
 a232:=Tryz.isAgg487
 z232:=Tryz.sizeOf487
 v232:=Tryz.zeroValue487
 t233:=Tryz.underlying488
 a233:=Tryz.isAgg488
 z233:=Tryz.sizeOf488
 v233:=Tryz.zeroValue488
 g15:=by kernel_rfl
 g16:=by kernel_rfl
 g17:=by kernel_rfl
 g18:=by kernel_rfl
 g19:=by kernel_rfl
 t80:=Tryz.underlying112
 a80:=Tryz.isAgg112
 z80:=Tryz.sizeOf112
 v80:=Tryz.zeroValue112
 i0:=by kernel_rfl
 i2:=by kernel_rfl
 i3:=by kernel_rfl
 i4:=by kernel_rfl
 i5:=by kernel_rfl
 i9:=by kernel_rfl
 i20:=by kernel_rfl
 i21:=by kernel_rfl
 i37:=by kernel_rfl
 i46:=by kernel_rfl
 i51:=by kernel_rfl
 i53:=by kernel_rfl
 i75:=by kernel_rfl
 i76:=by kernel_rfl
 i80:=by kernel_rfl
 i85:=by kernel_rfl
 i127:=by kernel_rfl
 i143:=by kernel_rfl
 i145:=by kernel_rfl
 i167:=by kernel_rfl
 i168:=by kernel_rfl
 i171:=by kernel_rfl
 i173:=by kernel_rfl
 i175:=by kernel_rfl
 i210:=by kernel_rfl
 i212:=by kernel_rfl
 i232:=by kernel_rfl
 i233:=by kernel_rfl
 m15:=by kernel_rfl
 m16:=by kernel_rfl
 m17:=by kernel_rfl
 m18:=by kernel_rfl
 m19:=by kernel_rfl
 c0:=by kernel_rfl
 c2:=by kernel_rfl
 c3:=by kernel_rfl
 c4:=by kernel_rfl
 c5:=by kernel_rfl
 c9:=by kernel_rfl
 c20:=by kernel_rfl
 c21:=by kernel_rfl
 c37:=by kernel_rfl
 c46:=by kernel_rfl
 c51:=by kernel_rfl
 c53:=by kernel_rfl
 c75:=by kernel_rfl
 c76:=by kernel_rfl
 c80:=by kernel_rfl
 c85:=by kernel_rfl
 c127:=by kernel_rfl
 c143:=by kernel_rfl
 c145:=by kernel_rfl
 c167:=by kernel_rfl
 c168:=by kernel_rfl
 c171:=by kernel_rfl
 c173:=by kernel_rfl
 c175:=by kernel_rfl
 c210:=by kernel_rfl
 c212:=by kernel_rfl
 c213:=by kernel_rfl
 c232:=by kernel_rfl
 c233:=by kernel_rfl }
def Tryz.oH:Go.Shelf.Ren:=⟨fun | 146=>34 | 221=>60 | 268=>107 | 138=>108 | 143=>109 | 195=>171 | 197=>172 | 218=>173 | 219=>174 | 260=>250 | 217=>251 | 225=>252 | 224=>253 | 267=>254 | 266=>305 | 314=>306 | n=>n,fun | 9=>9 | 31=>22 | 3=>3 | 4=>4 | 0=>0 | 105=>291 | 21=>21 | 5=>5 | 46=>268 | 119=>446 | 139=>449 | 138=>448 | 146=>451 | 51=>450 | n=>n,fun | 1=>0 | 3=>3 | 4=>4 | n=>n⟩
theorem Tryz.HL:Go.Proofs.Lays.n146 Tryz.prog Tryz.oH:={
 mixed:=by kernel_rfl
 f138:=Tryz.func108.trans (congrArg some (by kernel_rfl))
 f143:=Tryz.func109.trans (congrArg some (by kernel_rfl))
 f146:=Tryz.func34.trans (congrArg some (by kernel_rfl))
 f195:=Tryz.func171.trans (congrArg some (by kernel_rfl))
 f197:=Tryz.func172.trans (congrArg some (by kernel_rfl))
 f217:=Tryz.func251.trans (congrArg some (by kernel_rfl))
 f218:=Tryz.func173.trans (congrArg some (by kernel_rfl))
 f219:=Tryz.func174.trans (congrArg some (by kernel_rfl))
 f221:=Tryz.func60.trans (congrArg some (by kernel_rfl))
 f224:=Tryz.func253.trans (congrArg some (by kernel_rfl))
 f225:=Tryz.func252.trans (congrArg some (by kernel_rfl))
 f260:=Tryz.func250.trans (congrArg some (by kernel_rfl))
 f266:=Tryz.func305.trans (congrArg some (by kernel_rfl))
 f267:=Tryz.func254.trans (congrArg some (by kernel_rfl))
 f268:=Tryz.func107.trans (congrArg some (by kernel_rfl))
 f314:=Tryz.func306.trans (congrArg some (by kernel_rfl))
 t0:=Tryz.underlying0
 a0:=Tryz.isAgg0
 z0:=Tryz.sizeOf0
 v0:=Tryz.zeroValue0
 t3:=Tryz.underlying3
 a3:=Tryz.isAgg3
 z3:=Tryz.sizeOf3
 v3:=Tryz.zeroValue3
 t4:=Tryz.underlying4
 a4:=Tryz.isAgg4
 z4:=Tryz.sizeOf4
 v4:=Tryz.zeroValue4
 t5:=Tryz.underlying5
 a5:=Tryz.isAgg5
 z5:=Tryz.sizeOf5
 v5:=Tryz.zeroValue5
 t9:=Tryz.underlying9
 a9:=Tryz.isAgg9
 z9:=Tryz.sizeOf9
 v9:=Tryz.zeroValue9
 t21:=Tryz.underlying21
 a21:=Tryz.isAgg21
 z21:=Tryz.sizeOf21
 v21:=Tryz.zeroValue21
 t31:=Tryz.underlying22
 a31:=Tryz.isAgg22
 z31:=Tryz.sizeOf22
 v31:=Tryz.zeroValue22
 t46:=Tryz.underlying268
 a46:=Tryz.isAgg268
 z46:=Tryz.sizeOf268
 v46:=Tryz.zeroValue268
 t51:=Tryz.underlying450
 a51:=Tryz.isAgg450
 z51:=Tryz.sizeOf450
 v51:=Tryz.zeroValue450
 t105:=Tryz.underlying291
 a105:=Tryz.isAgg291
 z105:=Tryz.sizeOf291
 v105:=Tryz.zeroValue291
 t119:=Tryz.underlying446
 a119:=Tryz.isAgg446
 z119:=Tryz.sizeOf446
 t138:=Tryz.underlying448
 a138:=Tryz.isAgg448
 z138:=Tryz.sizeOf448
 v138:=Tryz.zeroValue448
 t139:=Tryz.underlying449
 a139:=Tryz.isAgg449
 z139:=Tryz.sizeOf449
 v139:=Tryz.zeroValue449
 t146:=Tryz.underlying451
 a146:=Tryz.isAgg451
 z146:=Tryz.sizeOf451
 v146:=Tryz.zeroValue451
 g1:=by kernel_rfl
 g3:=by kernel_rfl
 g4:=by kernel_rfl }
def Tryz.mi:Go.Shelf.Ren:=⟨fun | 15=>118 | n=>n,fun | 22=>69 | 3=>3 | 4=>4 | n=>n,fun | n=>n⟩
theorem Tryz.vP:Go.Proofs.Lays2.n15 Tryz.prog Tryz.mi:={
 mixed:=by kernel_rfl
 f15:=Tryz.func118.trans (congrArg some (by kernel_rfl))
 t3:=Tryz.underlying3
 a3:=Tryz.isAgg3
 z3:=Tryz.sizeOf3
 v3:=Tryz.zeroValue3
 t4:=Tryz.underlying4
 a4:=Tryz.isAgg4
 z4:=Tryz.sizeOf4
 v4:=Tryz.zeroValue4
 t22:=Tryz.underlying69
 a22:=Tryz.isAgg69
 z22:=Tryz.sizeOf69
 v22:=Tryz.zeroValue69
 i3:=by kernel_rfl }
def Tryz.mo:Go.Shelf.Ren:=⟨fun | 21=>117 | 27=>189 | 28=>190 | 35=>267 | 39=>314 | n=>n,fun | 22=>69 | 3=>3 | 4=>4 | 0=>0 | n=>n,fun | n=>n⟩
theorem Tryz.wa:Go.Proofs.Lays2.n21 Tryz.prog Tryz.mo:={
 mixed:=by kernel_rfl
 f21:=Tryz.func117.trans (congrArg some (by kernel_rfl))
 f27:=Tryz.func189.trans (congrArg some (by kernel_rfl))
 f28:=Tryz.func190.trans (congrArg some (by kernel_rfl))
 f35:=Tryz.func267.trans (congrArg some (by kernel_rfl))
 f39:=Tryz.func314.trans (congrArg some (by kernel_rfl))
 t0:=Tryz.underlying0
 a0:=Tryz.isAgg0
 z0:=Tryz.sizeOf0
 v0:=Tryz.zeroValue0
 t3:=Tryz.underlying3
 a3:=Tryz.isAgg3
 z3:=Tryz.sizeOf3
 v3:=Tryz.zeroValue3
 t4:=Tryz.underlying4
 a4:=Tryz.isAgg4
 z4:=Tryz.sizeOf4
 v4:=Tryz.zeroValue4
 t22:=Tryz.underlying69
 a22:=Tryz.isAgg69
 z22:=Tryz.sizeOf69
 v22:=Tryz.zeroValue69
 i3:=by kernel_rfl }
def Tryz.mA:Go.Shelf.Ren:=⟨fun | 25=>116 | 31=>187 | 32=>188 | 37=>266 | n=>n,fun | 22=>69 | 3=>3 | 4=>4 | 40=>268 | 0=>0 | n=>n,fun | n=>n⟩
theorem Tryz.wI:Go.Proofs.Lays2.n25 Tryz.prog Tryz.mA:={
 mixed:=by kernel_rfl
 f25:=Tryz.func116.trans (congrArg some (by kernel_rfl))
 f31:=Tryz.func187.trans (congrArg some (by kernel_rfl))
 f32:=Tryz.func188.trans (congrArg some (by kernel_rfl))
 f37:=Tryz.func266.trans (congrArg some (by kernel_rfl))
 t0:=Tryz.underlying0
 a0:=Tryz.isAgg0
 z0:=Tryz.sizeOf0
 v0:=Tryz.zeroValue0
 t3:=Tryz.underlying3
 a3:=Tryz.isAgg3
 z3:=Tryz.sizeOf3
 v3:=Tryz.zeroValue3
 t4:=Tryz.underlying4
 a4:=Tryz.isAgg4
 z4:=Tryz.sizeOf4
 v4:=Tryz.zeroValue4
 t22:=Tryz.underlying69
 a22:=Tryz.isAgg69
 z22:=Tryz.sizeOf69
 v22:=Tryz.zeroValue69
 t40:=Tryz.underlying268
 a40:=Tryz.isAgg268
 z40:=Tryz.sizeOf268
 v40:=Tryz.zeroValue268 }
end Go.Proofs
