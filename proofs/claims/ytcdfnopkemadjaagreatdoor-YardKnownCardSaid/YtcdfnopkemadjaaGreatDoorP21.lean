/- MADE BY PROGRAM (mks3.py): strings.Builder's copyCheck, WriteString and String at this program: which blocks they write. slices.Sort of numbers, on an array of the call's own, by the library's .. -/
import Derived.Test.YtcdfnopkemadjaaGreatDoorP20
import Derived.Test.YtcdfnopkemadjaaGreatDoorChecked
import Derived.Shelf.Spec.SlicesGrow
import Derived.Shelf.Slices.Clone
import Derived.Shelf.Spec.SlicesInsert
import Derived.Shelf.Spec.SlicesInsertGrow
import Derived.Test.YtcdfnopkemadjaaGreatDoorP19
import Derived.Shelf.Slices.SearchI
import Derived.Shelf.Slices.Empties
namespace Go.AM
open Go.RowKit Go.Shelf Go.Proofs
set_option maxHeartbeats 1000000 in
set_option maxRecDepth 100000 in
theorem qR (b:Nat) (w:World) {p v:Value} (hp:qv b p) (hbk:w.heap[b]? = some (.cells #[p,v] 141 (0,0))) :
  Calls Tryz.prog 77 #[.pointer (some ⟨b,0,none⟩)] w fun e w'=>e = .returned (.tuple #[]) ∧ w.grownBy w' (some b) ∧ w'.heap.size = w.heap.size ∧ w'.heap[b]? = some (.cells #[.pointer (some ⟨b,0,none⟩),v] 141 (0,0)):=by
 have hc:w.cell? ⟨b,0,none⟩ = some p:=by rw [Lib.cell_of_heap hbk]; rfl
 have hsize:(Tryz.prog.info? 141).map (·.size) = some 2:=by kernel_rfl
 obtain ⟨j,hj,hjs⟩:=Option.map_eq_some_iff.1 hsize;have hlies:liesAt Tryz.prog Tryz.prog.depth 141 (2 / Tryz.prog.cellsOf 141) 0 141 1 = true:=by kernel_rfl
 have mixed:Tryz.prog.follows .mixedOrders = true:=by kernel_rfl
 have t3:=Tryz.underlying3; have a3:=Tryz.isAgg3; have z3:=Tryz.sizeOf3; have v3:=Tryz.zeroValue3; have u3:=Tryz.runUnderlying3;have t4:=Tryz.underlying4; have a4:=Tryz.isAgg4; have z4:=Tryz.sizeOf4; have v4:=Tryz.zeroValue4; have u4:=Tryz.runUnderlying4;have t5:=Tryz.underlying5; have a5:=Tryz.isAgg5; have z5:=Tryz.sizeOf5; have v5:=Tryz.zeroValue5; have u5:=Tryz.runUnderlying5;have t9:=Tryz.underlying9; have a9:=Tryz.isAgg9; have z9:=Tryz.sizeOf9; have v9:=Tryz.zeroValue9; have u9:=Tryz.runUnderlying9;have t138:=Tryz.underlying138; have a138:=Tryz.isAgg138; have z138:=Tryz.sizeOf138; have v138:=Tryz.zeroValue138; have u138:=Tryz.runUnderlying138;have t139:=Tryz.underlying139; have a139:=Tryz.isAgg139; have z139:=Tryz.sizeOf139; have v139:=Tryz.zeroValue139; have u139:=Tryz.runUnderlying139;have t141:=Tryz.underlying141; have a141:=Tryz.isAgg141; have z141:=Tryz.sizeOf141; have v141:=Tryz.zeroValue141; have u141:=Tryz.runUnderlying141;have t143:=Tryz.underlying143; have a143:=Tryz.isAgg143; have z143:=Tryz.sizeOf143; have v143:=Tryz.zeroValue143; have u143:=Tryz.runUnderlying143;have t237:=Tryz.underlying237; have a237:=Tryz.isAgg237; have z237:=Tryz.sizeOf237; have v237:=Tryz.zeroValue237; have u237:=Tryz.runUnderlying237;rcases hp with rfl | rfl
 ·have hsh:w.shape? b = some (141,2):=by simp [World.shape?,hbk]
  have hfz:w.frozen? ⟨b,0,none⟩ = false:=by simp [World.frozen?,hbk]
  have key:Calls Tryz.prog 77 #[.pointer (some ⟨b,0,none⟩)] w fun e w'=>e = .returned (.tuple #[]) ∧ w' = w.setCell ⟨b,0,none⟩ (.pointer (some ⟨b,0,none⟩)):=by
   go_enter Tryz.func77,Tryz.ntmps77
   go_wp2
   rw [Lib.run_to_unsafe w ⟨b,0,none⟩ t138 t237 hj (by rw [hjs]; decide) hsh (Nat.zero_lt_succ 1)];simp only [Result.andThen];rw [Oper.upon_value]
   go_wp2
   rw [run_callFunc_extern Tryz.func137 (by kernel_rfl) (by kernel_rfl) (by kernel_rfl) (e:=Extern.AbiNoEscape.same) (by kernel_rfl)];rw [Lib.run_noEscape];simp only [Result.andThen];rw [Oper.upon_value]
   go_wp2
   rw [Lib.run_from_unsafe w ⟨b,0,none⟩ t237 t138 hj hsh hlies];simp only [Result.andThen];rw [Oper.upon_value]
   go_wp2
   go_end0
   exact ⟨rfl,rfl⟩
  refine key.mono ?_;rintro e w' ⟨rfl,rfl⟩;refine ⟨rfl,⟨rfl,rfl,rfl,by simp [World.setCell],fun k _ hk=>Below.heap_setCell _ _ _ _ (fun e=>hk (by simp [e]))⟩,by simp [World.setCell], ?_⟩;simp [World.setCell,Array.getElem?_modify,hbk]
 ·have key:Calls Tryz.prog 77 #[.pointer (some ⟨b,0,none⟩)] w fun e w'=>e = .returned (.tuple #[]) ∧ w' = w:=by
   go_enter Tryz.func77,Tryz.ntmps77
   go_wp2
   rw [Lib.run_neq_ptr_same w _ t138 hj]
   go_wp2
   go_end0
   exact ⟨rfl,rfl⟩
  refine key.mono ?_;rintro e w' ⟨rfl,rfl⟩;exact ⟨rfl,⟨rfl,rfl,rfl,Nat.le_refl _,fun _ _ _=>rfl⟩,rfl,hbk⟩
set_option maxHeartbeats 2000000 in
set_option maxRecDepth 100000 in
theorem r9 (B b:Nat) (bs:List Value) (y:ByteArray) (w:World) {p v:Value} (hp:qv b p) (hbk:w.heap[b]? = some (.cells #[p,v] 141 (0,0)))
  (hown:w.ownsRow B 5 1 v bs.length bs) (hne:v.ownBlock ≠ some b) (hlen:bs.length + y.size ≤ 140737488355328) (hBw:B ≤ w.heap.size) :
  Calls Tryz.prog 46 #[.pointer (some ⟨b,0,none⟩), .string y] w (oK 141 5 B b bs y w v):=by
 have hbyte:(Tryz.prog.info? 5).map (fun i=>(i.zero,i.size,i.bytes)) = some (some (.int .u8 0),1,1):=by kernel_rfl
 obtain ⟨i0,hi,hz0,hz1,hz2⟩:=info_parts hbyte;have hlt:b < w.heap.size:=(Array.getElem?_eq_some_iff.1 hbk).1;have mixed:Tryz.prog.follows .mixedOrders = true:=by kernel_rfl
 have t3:=Tryz.underlying3; have a3:=Tryz.isAgg3; have z3:=Tryz.sizeOf3; have v3:=Tryz.zeroValue3; have u3:=Tryz.runUnderlying3;have t4:=Tryz.underlying4; have a4:=Tryz.isAgg4; have z4:=Tryz.sizeOf4; have v4:=Tryz.zeroValue4; have u4:=Tryz.runUnderlying4;have t5:=Tryz.underlying5; have a5:=Tryz.isAgg5; have z5:=Tryz.sizeOf5; have v5:=Tryz.zeroValue5; have u5:=Tryz.runUnderlying5;have t9:=Tryz.underlying9; have a9:=Tryz.isAgg9; have z9:=Tryz.sizeOf9; have v9:=Tryz.zeroValue9; have u9:=Tryz.runUnderlying9;have t138:=Tryz.underlying138; have a138:=Tryz.isAgg138; have z138:=Tryz.sizeOf138; have v138:=Tryz.zeroValue138; have u138:=Tryz.runUnderlying138;have t139:=Tryz.underlying139; have a139:=Tryz.isAgg139; have z139:=Tryz.sizeOf139; have v139:=Tryz.zeroValue139; have u139:=Tryz.runUnderlying139;have t141:=Tryz.underlying141; have a141:=Tryz.isAgg141; have z141:=Tryz.sizeOf141; have v141:=Tryz.zeroValue141; have u141:=Tryz.runUnderlying141;have t143:=Tryz.underlying143; have a143:=Tryz.isAgg143; have z143:=Tryz.sizeOf143; have v143:=Tryz.zeroValue143; have u143:=Tryz.runUnderlying143;have t237:=Tryz.underlying237; have a237:=Tryz.isAgg237; have z237:=Tryz.sizeOf237; have v237:=Tryz.zeroValue237; have u237:=Tryz.runUnderlying237;have ecc:∀ args w,(callFunc 77 args).run Tryz.prog w = .ok (.enter 77 args) w:=enters_of Tryz.func77 (by kernel_rfl) rfl
 go_enter Tryz.func46,Tryz.ntmps46
 go_wp2_with (go_at_fn 77; refine (qR b _ hp hbk).mono ?_)
 rintro e w1 ⟨rfl,hg1,hs1,hb1⟩;have hown1:w1.ownsRow B 5 1 v bs.length bs:=hown.kept hg1 (.inr hne);have c0:w1.cell? ⟨b,0,none⟩ = some (.pointer (some ⟨b,0,none⟩)):=by rw [Lib.cell_of_heap hb1]; rfl
 have c1:w1.cell? ⟨b,1,none⟩ = some v:=by rw [Lib.cell_of_heap hb1]; rfl
 go_wp2_with (at_builtin; refine ig rfl _ _ 139 9 rfl B 5 i0 t139 t9 hi hz0 hz1 hz2 v bs.length bs rfl hown1 y rfl hlen ?c5 ?_)
 case c5=>omega
 intro v' w2 hown' hgrow hwh;have hb2:w2.heap[b]? = some (.cells #[.pointer (some ⟨b,0,none⟩),v] 141 (0,0)):=by
  rw [hgrow.block b (by omega) (fun e=>hne e.symm)];exact hb1
 have d0:w2.cell? ⟨b,0,none⟩ = some (.pointer (some ⟨b,0,none⟩)):=by rw [Lib.cell_of_heap hb2]; rfl
 have d1:w2.cell? ⟨b,1,none⟩ = some v:=by rw [Lib.cell_of_heap hb2]; rfl
 have f1:w2.frozen? ⟨b,1,none⟩ = false:=Lib.frozen_of_heap hb2 1;have hne':v'.ownBlock ≠ some b:=fun hb'=>by
  rcases hwh b hb' with h | h
  ·exact hne h
  ·omega
 obtain ⟨ao,n',cap,rfl⟩:∃ ao n' cap,v' = .slice ao n' cap:=by
  rcases hown'.2 with ⟨hv,_⟩ | ⟨g,cap,cur,hv,_⟩
  ·exact ⟨_,_,_,hv⟩
  ·exact ⟨_,_,_,hv⟩
 have hlen2:bs.length + y.size = (bs ++ Lib.strCells y).length:=by simp [Lib.strCells_length]
 rw [hlen2] at hown';have hsz:w.heap.size ≤ w2.heap.size:=by have:=hgrow.size; omega
 have hrest:∀ k,k < w.heap.size → k ≠ b → v.ownBlock ≠ some k → w2.heap[k]? = w.heap[k]?:=fun k hk h1 h2=>
  (hgrow.block k (by omega) (fun e=>h2 e.symm)).trans (hg1.block k hk (fun e=>h1 (Option.some.inj e)))
 have ho2:w2.os = w.os ∧ w2.tape = w.tape ∧ w2.output = w.output:=⟨hgrow.os.trans hg1.os,hgrow.tape.trans hg1.tape,hgrow.output.trans hg1.output⟩
 go_wp2
 go_ret2
 refine ⟨rfl,_, ?_, ?_,hne',fun g hg=>(hwh g hg).imp id (fun h=>by omega),ho2.1,ho2.2.1,ho2.2.2,by simpa [World.setCell] using hsz,fun k h1 h2 h3=>(Below.heap_setCell _ _ _ _ h2).trans (hrest k h1 h2 h3)⟩
 ·simp [World.setCell,Array.getElem?_modify,hb2]
 ·exact hown'.kept (row:=some b) ⟨rfl,rfl,rfl,by simp [World.setCell],fun k _ hk=>Below.heap_setCell _ _ _ _ (fun e=>hk (by simp [e]))⟩ (.inr hne')
theorem mu (b k:Nat) (bs:List UInt8) (y:ByteArray) (σ:ab) (hb:σ[b]? = some (.bld k bs)) (hlen:bs.length + y.size ≤ 140737488355328) :
  Spec Tryz.prog 46 [.ptr b 0, .str y] σ fun r σ'=>r = .ret (.tup [.int .i64 y.size, .niliface]) ∧ σ' = σ.set b (.bld (k + 1) (bs ++ y.data.toList)):=
 Spec.Iv (fun B b bs y w _ _ hp hbk hown hne hl hB=>r9 B b bs y w hp hbk hown hne hl hB) b k bs y σ hb hlen
theorem l5 (b k:Nat) (bs:List UInt8) (σ:ab) (hb:σ[b]? = some (.bld k bs)) :
  Spec Tryz.prog 47 [.ptr b 0] σ fun r σ'=>r = .ret (.str ⟨bs.toArray⟩) ∧ σ' = σ.set b .dead:=
 Spec.built Tryz.HI Tryz.jn rfl b k bs σ hb
open Go.RowKit Go.Shelf Go.Proofs Go.Sort
section
variable {P:Program} {ρ:Ren}
end
open Go.RowKit Go.Shelf Go.Proofs
open Go.RowKit Go.Shelf Go.Proofs
section
variable {P:Program} {ρ:Ren} {A:World} {s:St}
theorem Inv.D0 (hi:Inv A s) {b:Nat} (hb:s.h[b]? = some .hole) {w':World} (hbel:Below s.w.heap.size s.w w') {g cap:Nat} {C:Array Value} {el:TypeId} (hg:s.w.heap.size ≤ g) (hnew:w'.heap[g]? = some (.cells C el (0,0)))
  {sz:Nat} {xs:List aa} {us:List Value} (h0:0 < cap) (hcap:xs.length ≤ cap) (hC:C.size = cap * sz) (hcm:cap ≤ 9223372036854775807) (he:bV s sz xs us C) :
  ∃ s',s'.h = s.h.set b (.arr sz xs) ∧ s'.w = w' ∧ Inv A s' ∧ aT s s' ∧ Rv s' (.sref sz b 0 xs.length xs.length) (.slice (some ⟨g,0,none⟩) xs.length cap):=by
 have hblt:b < s.h.length:=(List.getElem?_eq_some_iff.1 hb).1;have hl:∀ k,s.lam b k = none:=hi.obj b _ hb
 let s':St:={ h:=s.h.set b (.arr sz xs),lam:=aO s.lam b xs.length (.slice (some ⟨g,0,none⟩) xs.length cap),S:=s.S,w:=w' }
 have hk:aL s s':=⟨aJ (hl _),fun _ _ h=>h,fun blk o hs=>World.cell?_of_block (a:=⟨blk,o,none⟩) (hbel.block blk (hi.scell blk o hs))⟩;have hgo:=hi.change (s':=s') hblt rfl hk (hi.below.trans (hbel.mono hi.below.size)) hbel.size (fun b' k hne=>av (.inl hne))
  (fun blk hlt _=>hbel.block blk hlt)
  ⟨fun k' hk'=>(av (.inr (by omega))).trans (hl k'), .inr ⟨g,cap,C,el,us,h0,aC _ _ _ _,Nat.le_trans hi.below.size hg,hnew,hC,hcap,he.len,fun i h1 h2=>⟨(he.rv i h1 h2).1.keeps hk,(he.rv i h1 h2).2⟩,he.cell,
   fun o hs=>by have:=hi.scell _ _ hs; omega,hcm⟩⟩
  (fun blk ho=>by
   obtain ⟨cap',_,e⟩:=ho;have e':aO s.lam b xs.length (.slice (some ⟨g,0,none⟩) xs.length cap) b xs.length = _:=e;simp at e'
   left; omega)
  (fun blk x h=>.inl h) (fun blk x h=>Nat.lt_of_lt_of_le (hi.scell _ _ h) hbel.size)
 refine ⟨s',rfl,rfl,hgo.1,hgo.2, ?_⟩;have:=Rv.sref (s:=s') sz b 0 xs.length xs.length g cap (aC _ _ _ _) (by omega) hcap;simpa using this
theorem Ir (hi:Inv A s) {b sz:Nat} {xs:List aa} (hb:s.h[b]? = some (.arr sz xs)) {k:Nat} (h:fE s b k):∀ o, ¬ s.S k o:=by
 obtain ⟨o,h1,cap,h0,h2⟩:∃ o,s.h[b]? = some o ∧ ∃ cap,0 < cap ∧ s.lam b xs.length = some (.slice (some ⟨k,0,none⟩) xs.length cap):=by
  obtain ⟨o,h1,h2⟩:=h;rw [hb] at h1; obtain rfl:=Option.some.inj h1;exact ⟨_,hb,h2⟩
 rcases (hi.obj b _ hb).eX with ⟨rfl,a,hl⟩ | ⟨blk,cap',vs,el,us,h0',hl,_,_,_,_,_,hnS⟩
 ·rw [List.length_nil,hl] at h2; simp at h2; omega
 ·rw [hl] at h2; simp at h2; rw [← h2.1]; exact hnS
theorem Inv.HP (hi:Inv A s) {b sz:Nat} {xs:List aa} (hb:s.h[b]? = some (.arr sz xs)) {w':World} {B cap:Nat} {zs:List Int} (hB:s.w.heap.size ≤ B ∨ fE s b B) (hbel:Below A.heap.size s.w w')
  (hoth:∀ k,k < s.w.heap.size → ¬ fE s b k → w'.heap[k]? = s.w.heap[k]?) (hBl:B < w'.heap.size) (hz:zs.length ≤ cap) (hc:∀ j (h:j < zs.length),w'.cell? ⟨B,j,none⟩ = some (.int .i64 zs[j])) :
  ∃ s',s'.h = s.h.set b .dead ∧ s'.w = w' ∧ Inv A s' ∧ aT s s' ∧ Rv s' (.slice 1 (zs.map (.int .i64))) (.slice (some ⟨B,0,none⟩) zs.length cap):=by
 have hblt:b < s.h.length:=(List.getElem?_eq_some_iff.1 hb).1
 let s':St:={ h:=s.h.set b .dead,lam:=s.lam,S:=fun g o=>s.S g o ∨ (g = B ∧ o < zs.length),w:=w' }
 have hk:aL s s':=⟨fun _ _ _ h=>h,fun _ _ h=>.inl h,fun g o hs=>World.cell?_of_block (a:=⟨g,o,none⟩) (hoth g (hi.scell g o hs) fun h=>Ir hi hb h o hs)⟩;have hgo:=hi.change (s':=s') hblt rfl hk (hi.below.trans hbel) hbel.size (fun _ _ _=>rfl) hoth trivial (fun _ h=>h.elim)
  (fun g x h=>h.imp id fun h=>by rw [h.1]; exact hB) (fun g x h=>by
   rcases h with h | ⟨h,_⟩
   ·exact Nat.lt_of_lt_of_le (hi.scell _ _ h) hbel.size
   ·rw [h]; exact hBl)
 refine ⟨s',rfl,rfl,hgo.1,hgo.2, ?_⟩;refine Rv.slice 1 (zs.map (.int .i64)) B 0 zs.length cap (zs.map (Value.int .i64)) (by simp) (by simp) hz (fun i h1 h2=>by simp only [List.getElem_map]; exact .int _ _) (fun i h2=>?_);have h2':i < zs.length:=by simpa using h2
 refine ⟨by simp [Value.cells],fun j hj=>?_⟩;have hj0:j = 0:=by simp [Value.cells] at hj; exact hj
 subst hj0;refine ⟨.inr ⟨rfl,by omega⟩, ?_⟩;have:=hc i h2';simpa [Value.cells] using this
theorem Inv.abX (hi:Inv A s) {b:Nat} (hb:b < s.h.length):Inv A { s with h:=s.h.set b .dead } ∧ aT s { s with h:=s.h.set b .dead }:=
 hi.change (s':={ s with h:=s.h.set b .dead }) hb rfl ⟨fun _ _ _ h=>h,fun _ _ h=>h,fun _ _ _=>rfl⟩ hi.below (Nat.le_refl _) (fun _ _ _=>rfl) (fun _ _ _=>rfl) trivial (fun _ h=>h.elim) (fun _ _ h=>.inl h) hi.scell
theorem a8 (g:Nat):∀ (vs:List Value) (o:Nat) (w:World),(w.setCells g o vs).os = w.os ∧ (w.setCells g o vs).tape = w.tape ∧ (w.setCells g o vs).output = w.output ∧ (w.setCells g o vs).heap.size = w.heap.size ∧ ∀ k,k ≠ g → (w.setCells g o vs).heap[k]? = w.heap[k]?
 | [],_,_=>⟨rfl,rfl,rfl,rfl,fun _ _=>rfl⟩
 | v :: r,o,w=>by
  obtain ⟨h1,h2,h3,h4,h5⟩:=a8 g r (o + 1) (w.setCell ⟨g,o,none⟩ v);simp only [World.setCells];exact ⟨h1,h2,h3,h4.trans (by simp [World.setCell]),fun k hk=>(h5 k hk).trans (Below.heap_setCell _ _ _ _ hk)⟩
theorem Spec.Md (L:Lays2.n15 P ρ) (l:List Int) (hl8:l.length * 8 ≤ 140737488355328) (σ:ab) :
  Spec P (ρ.f 15) [.slice 1 (l.map (.int .i64))] σ fun r σ'=>r = .ret (.sref 1 σ.length 0 l.length l.length) ∧ σ' = σ ++ [.arr 1 (l.map (.int .i64))]:=by
 intro A s cargs g1 g2 g3;subst g1;obtain ⟨c,rfl,hc⟩:=g3.one;obtain ⟨s1,e1,e2,i1,k1,hh⟩:=g2.one
 have hout:∀ (v':Value) (w':World),Below s.w.heap.size s.w w' → (v' = .slice none 0 0 ∧ l.length = 0 ∨ ∃ g cap cur,v' = .slice (some ⟨g,0,none⟩) l.length cap ∧ s.w.heap.size ≤ g ∧ w'.heap[g]? = some (.cells cur (ρ.t 3) (0,0)) ∧ l.length ≤ cap ∧ cap ≤ maxLen ∧ cur.size = cap * 1 ∧ cur.toList.take (l.length * 1) = l.map (Value.int .i64)) →
   ∃ s' , s'.h = s.h ++ [.arr 1 (l.map (.int .i64))] ∧ s'.w = w' ∧ Inv A s' ∧ aT s s' ∧ Rv s' (.sref 1 s.h.length 0 l.length l.length) v':=by
  intro v' w' hbel hv;have hbel1:Below s1.w.heap.size s1.w w':=by rw [e2]; exact hbel
  have zero:∀ a:Option Addr,l = [] → v' = .slice a 0 0 → ∃ s' , s'.h = s.h ++ [.arr 1 (l.map (.int .i64))] ∧ s'.w = w' ∧ Inv A s' ∧ aT s s' ∧ Rv s' (.sref 1 s.h.length 0 l.length l.length) v':=by
   intro a hl0 hv2;clear hv;subst hl0; subst hv2;obtain ⟨s2,f1,f2,i2,k2,hlm⟩:=i1.fW hh 1 a;obtain ⟨i3,k3⟩:=i2.Ji (w':=w') (by rw [f2]; exact hbel1);exact ⟨_,by show s2.h = _; rw [f1,e1,aS]; rfl,rfl,i3,(k1.trans k2).trans k3, .sref0 _ _ a hlm⟩
  rcases hv with ⟨rfl,hn⟩ | ⟨g,cap,cur,rfl,hg,hcur,hcap,hcm,hsz,htk⟩
  ·exact zero none (List.eq_nil_of_length_eq_zero hn) (by rfl)
  ·rcases Nat.eq_zero_or_pos cap with h0 | h0
   ·subst h0;have hl0:l = []:=List.eq_nil_of_length_eq_zero (by omega);exact zero (some ⟨g,0,none⟩) hl0 (by rw [hl0]; rfl)
   ·have hel:bV s1 1 (l.map (.int .i64)) (l.map (Value.int .i64)) cur:=by
     refine ⟨by simp,fun i h1 h2=>⟨by simp only [List.getElem_map]; exact .int _ _,by simp [Value.cells]⟩,fun i j h2 hj=>?_⟩;have hj0:j = 0:=by simp [Value.cells] at hj; exact hj
     subst hj0;have h3:i < l.length:=by simpa using h2
     have h4:(cur.toList.take (l.length * 1))[i]? = (l.map (Value.int .i64))[i]?:=by rw [htk]
     rw [List.getElem?_take_of_lt (by omega)] at h4;rw [Nat.mul_one,Nat.add_zero, ← Array.getElem?_toList,h4];simp [h3,Value.cells]
    obtain ⟨s2,f1,f2,i2,k2,hr⟩:=i1.D0 hh hbel1 (by rw [e2]; exact hg) hcur h0 (by simpa using hcap) hsz (by unfold maxLen at hcm; omega) hel;refine ⟨s2,by rw [f1,e1,aS],f2,i2,k1.trans k2, ?_⟩;simpa using hr
 by_cases hl0:l = []
 ·subst hl0;obtain ⟨a,cap,rfl⟩:∃ a cap,c = .slice a 0 cap:=by
   cases hc with
   | slice0 _ a cap=>exact ⟨a,cap,rfl⟩
   | slice _ _ blk off len cap us h1 h2 h3 h4 h5=>exact ⟨_,cap,by rw [h2]; rfl⟩
  cases a with
  | none=>
   refine (Any.slices_Clone_int_nil L 0 cap s.w).mono ?_;rintro e w' ⟨rfl,rfl⟩;obtain ⟨s2,f1,f2,i2,k2,hr⟩:=hout (.slice none 0 0) s.w (Below.refl _ _) (.inl ⟨rfl,rfl⟩);exact ⟨.ret _,s2,f2,i2,k2,hr,rfl,f1⟩
  | some a=>
   refine (Any.slices_Clone_int_zero L a cap s.w).mono ?_;rintro e w' ⟨v',rfl,⟨ho1,ho2⟩,_,hbel⟩;obtain ⟨s2,f1,f2,i2,k2,hr⟩:=hout v' w' hbel ho2;exact ⟨.ret _,s2,f2,i2,k2,hr,rfl,f1⟩
 ·obtain ⟨blk,off,cap,rfl,hcell⟩:∃ blk off cap,c = .slice (some ⟨blk,off,none⟩) l.length cap ∧ ∀ j,j < l.length → s.w.cell? ⟨blk,off + j,none⟩ = some (.int .i64 (l.getD j 0)):=by
   obtain ⟨xs,hxs⟩:∃ xs,xs = l.map (aa.int .i64):=⟨_,rfl⟩
   rw [← hxs] at hc
   cases hc with
   | slice0=>exact absurd (List.map_eq_nil_iff.1 hxs.symm) hl0
   | slice _ _ blk off len cap us h1 h2 h3 h4 h5=>
    subst hxs;refine ⟨blk,off,cap,by rw [h2,List.length_map],fun j hj=>?_⟩;have hj2:j < us.length:=by rw [h1,List.length_map]; exact hj
    have hv:=h4 j (by simpa using hj) hj2;simp only [List.getElem_map] at hv;have hu:=hv.gZ;have:=((h5 j hj2).2 0 (by rw [hu]; simp [Value.cells])).2;rw [Nat.mul_one,Nat.add_zero] at this;rw [this];simp [hu,Value.cells,List.getD,hj]
  refine (Any.slices_Clone_int L blk off l.length cap l s.w (Nat.le_refl _) hl8 hcell).mono ?_;rintro e w' ⟨v',rfl,⟨ho1,ho2⟩,_,hbel⟩;rw [List.take_length] at ho2;obtain ⟨s2,f1,f2,i2,k2,hr⟩:=hout v' w' hbel ho2;exact ⟨.ret _,s2,f2,i2,k2,hr,rfl,f1⟩
theorem kR {s:St} {b n blk cap:Nat} {c:Value} (hc:Rv s (.sref 1 b 0 n n) c) (h0:0 < cap) (hl:s.lam b n = some (.slice (some ⟨blk,0,none⟩) n cap)):c = .slice (some ⟨blk,0,none⟩) n cap:=by
 cases hc with
 | sref _ _ _ _ _ blk' cap' h1 h2 h3=>
  rw [hl] at h1;simp at h1;rw [h1.1,h1.2]; simp
 | sref0 _ _ a h=>
  rw [hl] at h;simp at h; omega
 | srefE _ _ _ _ a v h h0 h1=>omega
theorem ou {s:St} {b:Nat} {a:Option Addr} {c:Value} (hc:Rv s (.sref 1 b 0 0 0) c) (hl:s.lam b 0 = some (.slice a 0 0)):∃ a',c = .slice a' 0 0:=by
 cases hc with
 | sref _ _ _ _ _ blk' cap' h1 h2 h3=>
  rw [hl] at h1;simp at h1;rw [← h1.2]; exact ⟨_,rfl⟩
 | sref0 _ _ a h=>exact ⟨_,rfl⟩
 | srefE _ _ _ _ a v h h0 h1=>omega
theorem nq {w:World} {blk:Nat} {vs:Array Value} {el:TypeId} {s:St} {l:List Int} {us:List Value} (hh:w.heap[blk]? = some (.cells vs el (0,0))) (hel:bV s 1 (l.map (.int .i64)) us vs) (j:Nat) (h:j < l.length):w.cell? ⟨blk,j,none⟩ = some (.int .i64 l[j]):=by
 have h2:j < us.length:=by rw [hel.len,List.length_map]; exact h
 have hv:=(hel.rv j (by simpa using h) h2).1;simp only [List.getElem_map] at hv;have hu:=hv.gZ;have:=hel.cell j 0 h2 (by rw [hu]; simp [Value.cells]);rw [Nat.mul_one,Nat.add_zero] at this;simp only [World.cell?,hh];rw [this];simp [hu,Value.cells]
theorem oQ (l:List Int) (x:Int) (i:Nat) (hi:i ≤ l.length) (j:Nat) (h:j < (l.take i ++ x :: l.drop i).length):(l.take i ++ x :: l.drop i)[j] = if h1:j < i then l[j]'(by omega) else if h2:j = i then x else l[j - 1]'(by simp at h; omega):=by
 rw [List.getElem_append];have ht:(l.take i).length = i:=by simp; omega
 split
 ·rename_i h1;rw [dif_pos (by omega)]; simp
 ·rename_i h1;rw [dif_neg (by omega)];split
  ·rename_i h2; subst h2; simp [ht]
  ·rename_i h2;rw [List.getElem_cons,dif_neg (by omega)];simp only [List.getElem_drop,ht];congr 1; omega
theorem o4 (zs:List Int) (Z:Array Value) (j:Nat) (h:j < zs.length):((zs.map (Value.int .i64)).toArray ++ Z)[j]? = some (.int .i64 zs[j]):=by
 rw [Array.getElem?_append_left (by simpa using h)];simp [h]
theorem pO (w:World) (B:Nat) (l:List Int) (x:Int) (i:Nat) (hil:i ≤ l.length) (hs:∀ j,j < l.length + 1 → (w.cell? ⟨B,j,none⟩).isSome = true) (hf:∀ j (h:j < l.length),j < i → w.cell? ⟨B,j,none⟩ = some (.int .i64 l[j])) (j:Nat) (h:j < (l.take i ++ x :: l.drop i).length) :
  ((w.setCells B (i + 1) ((l.map (Value.int .i64)).drop i)).setCells B i [.int .i64 x]).cell? ⟨B,j,none⟩ = some (.int .i64 (l.take i ++ x :: l.drop i)[j]):=by
 have hj:j < l.length + 1:=by simp at h; omega
 rw [oQ l x i hil j h];have hdl:((l.map (Value.int .i64)).drop i).length = l.length - i:=by simp
 rcases Nat.lt_trichotomy j i with h1 | h1 | h1
 ·rw [dif_pos h1,World.cell?_setCells_out _ _ _ _ _ (fun _ _=>.inl h1),World.cell?_setCells_out _ _ _ _ _ (fun _ _=>.inl (by show j < i + 1; omega))];exact hf j (by omega) h1
 ·subst h1;rw [dif_neg (by omega),dif_pos rfl]
  have:=World.cell?_setCells_in B [.int .i64 x] j (w.setCells B (j + 1) ((l.map (Value.int .i64)).drop j)) (fun k hk=>by
   have hk0:k = 0:=by simpa using hk
   subst hk0;rw [Nat.add_zero]
   exact isSome_setCells B _ _ _ (fun q hq=>hs _ (by omega)) _ (hs _ (by omega))) 0 (by simp)
  simpa using this
 ·rw [dif_neg (by omega),dif_neg (by omega),World.cell?_setCells_out _ _ _ _ _ (fun _ _=>.inr (by show i + 1 ≤ j; omega))];have:=World.cell?_setCells_in B ((l.map (Value.int .i64)).drop i) (i + 1) w (fun q hq=>hs _ (by omega)) (j - (i + 1)) (by omega);rw [show i + 1 + (j - (i + 1)) = j by omega] at this;rw [this];simp only [List.getElem_drop,List.getElem_map];congr 3; omega
theorem KO (w:World) (B:Nat) (l:List Int) (x:Int) (i:Nat) (hil:i ≤ l.length) (hs:∀ j,j < l.length + 1 → (w.cell? ⟨B,j,none⟩).isSome = true) (hf:∀ j (h:j < l.length),j < i → w.cell? ⟨B,j,none⟩ = some (.int .i64 l[j])) (j:Nat) (h:j < (l.take i ++ x :: l.drop i).length) :
  ((w.setCells B i [.int .i64 x]).setCells B (i + 1) ((l.map (Value.int .i64)).drop i)).cell? ⟨B,j,none⟩ = some (.int .i64 (l.take i ++ x :: l.drop i)[j]):=by
 have hj:j < l.length + 1:=by simp at h; omega
 rw [oQ l x i hil j h];have hdl:((l.map (Value.int .i64)).drop i).length = l.length - i:=by simp
 rcases Nat.lt_trichotomy j i with h1 | h1 | h1
 ·rw [dif_pos h1,World.cell?_setCells_out _ _ _ _ _ (fun _ _=>.inl (by show j < i + 1; omega)),World.cell?_setCells_out _ _ _ _ _ (fun _ _=>.inl h1)];exact hf j (by omega) h1
 ·subst h1;rw [dif_neg (by omega),dif_pos rfl,World.cell?_setCells_out _ _ _ _ _ (fun _ _=>.inl (by show j < j + 1; omega))]
  have:=World.cell?_setCells_in B [.int .i64 x] j w (fun k hk=>by
   have hk0:k = 0:=by simpa using hk
   subst hk0;rw [Nat.add_zero]
   exact hs _ (by omega)) 0 (by simp)
  simpa using this
 ·rw [dif_neg (by omega),dif_neg (by omega)];have h1x:∀ q,q < 1 → ((w.cell? ⟨B,i + q,none⟩).isSome = true):=fun q hq=>hs _ (by omega)
  have:=World.cell?_setCells_in B ((l.map (Value.int .i64)).drop i) (i + 1) (w.setCells B i [.int .i64 x]) (fun q hq=>isSome_setCells B _ _ _ (fun k hk=>h1x k (by simpa using hk)) _ (hs _ (by omega))) (j - (i + 1)) (by omega);rw [show i + 1 + (j - (i + 1)) = j by omega] at this;rw [this];simp only [List.getElem_drop,List.getElem_map];congr 3; omega
theorem Spec.IX (L:Lays2.n21 P ρ) (l:List Int) (x:Int) (i:Nat) (hil:i ≤ l.length) (hl:l.length ≤ 100000) (b b2:Nat) (σ:ab) (hb:σ[b]? = some (.arr 1 (l.map (.int .i64)))) (hb2:σ[b2]? = some (.arr 1 [.int .i64 x])) (hne:b ≠ b2) :
  Spec P (ρ.f 21) [.sref 1 b 0 l.length l.length, .int .i64 i, .sref 1 b2 0 1 1] σ fun r σ'=>r = .ret (.slice 1 ((l.take i ++ x :: l.drop i).map (.int .i64))) ∧ σ' = (σ.set b .dead).set b2 .dead:=by
 intro A s cargs g1 g2 g3;subst g1;obtain ⟨c,d,e,rfl,hc,hd,he⟩:∃ c d e,cargs = #[c,d,e] ∧ Rv s (.sref 1 b 0 l.length l.length) c ∧ Rv s (.int .i64 i) d ∧ Rv s (.sref 1 b2 0 1 1) e:=by
  obtain ⟨h1,h2⟩:=g3;simp only [List.length_cons,List.length_nil] at h1;refine ⟨cargs[0],cargs[1],cargs[2], ?_,h2 0 (by simp) (by omega),h2 1 (by simp) (by omega),h2 2 (by simp) (by omega)⟩;apply Array.ext
  ·simpa using h1
  ·intro k g1 g2
   match k,g2 with
   | 0,_=>rfl
   | 1,_=>rfl
   | 2,_=>rfl
 obtain rfl:=hd.gZ;rcases (g2.obj b2 _ hb2).eX with ⟨h0,_⟩ | ⟨vb,vc,vvs,vel,vus,k0,klam,kB,kh,kvs,kcp,kel,knS⟩
 ·cases h0
 obtain rfl:e = .slice (some ⟨vb,0,none⟩) 1 vc:=kR he k0 klam;have hvc:s.w.cell? ⟨vb,0,none⟩ = some (.int .i64 x):=nq (l:=[x]) kh kel 0 (by simp);have hvs':∀ j v,[Value.int .i64 x][j]? = some v → s.w.cell? ⟨vb,0 + j,none⟩ = some v:=fun j v hj=>by
  cases j with
  | zero=>simp at hj; rw [← hj]; simpa using hvc
  | succ j=>simp at hj
 have h1v:∀ v ∈ [Value.int .i64 x],v.oneCell' = true:=fun v hv=>by simp at hv; subst hv; rfl
 have h1c:∀ v ∈ l.map (Value.int .i64),v.oneCell' = true:=fun v hv=>by obtain ⟨n,_,rfl⟩:=List.mem_map.1 hv; rfl
 have hzl:(l.take i ++ x :: l.drop i).length = l.length + 1:=by simp; omega
 -- the end
 have fin:∀ (w':World) (B cap:Nat),(s.w.heap.size ≤ B ∨ fE s b B) → Below A.heap.size s.w w' → (∀ k,k < s.w.heap.size → ¬ fE s b k → w'.heap[k]? = s.w.heap[k]?) → l.length + 1 ≤ cap →
   (∀ j (h:j < (l.take i ++ x :: l.drop i).length),w'.cell? ⟨B,j,none⟩ = some (.int .i64 (l.take i ++ x :: l.drop i)[j])) →
   bj A s (fun r σ'=>r = .ret (.slice 1 ((l.take i ++ x :: l.drop i).map (.int .i64))) ∧ σ' = (s.h.set b .dead).set b2 .dead) (.returned (.slice (some ⟨B,0,none⟩) (l.length + 1) cap)) w':=by
  intro w' B cap hB hbel hoth hcap hcell;obtain ⟨s',f1,f2,i2,k2,hr⟩:=g2.HP (cap:=cap) (zs:=l.take i ++ x :: l.drop i) hb hB hbel hoth (kK (hcell 0 (by omega))) (by omega) hcell;rw [hzl] at hr;have hb2l:b2 < s'.h.length:=by rw [f1,List.length_set]; exact (List.getElem?_eq_some_iff.1 hb2).1
  obtain ⟨i3,k3⟩:=i2.abX hb2l;exact ⟨.ret _,{ s' with h:=s'.h.set b2 .dead },f2,i3,k2.trans k3,hr.keeps k3.keeps,rfl,by show s'.h.set b2 .dead = _; rw [f1]⟩
 have hdrew:s.w.drew.heap = s.w.heap:=rfl;have hAs:A.heap.size ≤ s.w.heap.size:=g2.below.size;have hBd:Below A.heap.size s.w s.w.drew:=⟨rfl,rfl,rfl,Nat.le_refl _,fun _ _=>rfl⟩;rcases (g2.obj b _ hb).eX with ⟨h0,a,hlam⟩ | ⟨blk,cap,vs,el,us,h0,hlam,hB,hh,hvs,hcp,hel,hnS⟩
 ·have hl0:l = []:=List.map_eq_nil_iff.1 h0;subst hl0;obtain ⟨a',rfl⟩:=ou hc hlam;obtain rfl:i = 0:=by simpa using hil
  refine (Any2.slices_Insert_int_end_grow L a' 0 0 vb 0 1 vc [] [.int .i64 x] s.w (by omega) (by omega) (by omega) (by omega) rfl rfl (fun _=>rfl) (fun _ _ j v hj=>by simp at hj) hvs' h1v).mono ?_;rintro e w' ⟨rfl,rfl⟩;refine fin _ s.w.heap.size _ (.inl (Nat.le_refl _)) ?_ ?_ (grownCap_ge _ _ _ _) ?_
  ·exact hBd.alloc (by exact hAs) _
  ·exact fun k hk _=>Below.heap_alloc _ _ _ hk
  ·intro j h;have e:([] ++ [Value.int .i64 x]:List Value) = (([]:List Int).take 0 ++ x :: ([]:List Int).drop 0).map (Value.int .i64):=by simp
   rw [e];exact (World.cell?_alloc_new (w:=s.w.drew) _ _ _).trans (o4 _ _ j h)
 ·have hml:(l.map fun n=>aa.int .i64 n).length = l.length:=by simp
  rw [hml] at hlam hcp;obtain rfl:=kR hc h0 hlam;have hcs:∀ j (h:j < l.length),s.w.cell? ⟨blk,j,none⟩ = some (.int .i64 l[j]):=fun j h=>nq hh hel j h
  have hcs':∀ j v,(l.map (Value.int .i64))[j]? = some v → s.w.cell? ⟨blk,0 + j,none⟩ = some v:=fun j v hj=>by
   obtain ⟨hj1,hj2⟩:=List.getElem?_eq_some_iff.1 hj;rw [Nat.zero_add,hcs j (by simpa using hj1), ← hj2]; simp
  have hcap64:cap ≤ 9223372036854775807:=(g2.obj b _ hb).sV h0 (by rw [hml]; exact hlam);have hsp:∀ j,j < cap → (s.w.cell? ⟨blk,0 + j,none⟩).isSome = true:=fun j hj=>by
   simp only [World.cell?,hh,Nat.zero_add];rw [Array.getElem?_eq_getElem (by omega)]; rfl
  have hfz:∀ j,s.w.frozen? ⟨blk,0 + j,none⟩ = false:=fun j=>by simp [World.frozen?,hh]
  have hown:fE s b blk:=⟨_,hb,cap,h0,by rw [hml]; exact hlam⟩;have hblk:blk < s.w.heap.size:=(Array.getElem?_eq_some_iff.1 hh).1;rcases Nat.lt_or_ge cap (l.length + 1) with hroom | hroom
  ·rcases Nat.lt_or_ge i l.length with hlt | hge
   ·refine (Any2.slices_Insert_int_grow L blk 0 l.length cap i vb 0 1 vc (l.map (Value.int .i64)) [.int .i64 x] s.w hlt (by omega) hcp hroom (by omega) (by simp) rfl hcs' hvs' h1c h1v).mono ?_;rintro e w' ⟨rfl,hw⟩;obtain ⟨W0,hW0⟩:∃ W0,s.w.alloc (.cells (((l.map (Value.int .i64)).take i).toArray ++ Builtin.zeroCells (Value.int .i64 0).cells (l.length + 1 - i) ++ Builtin.zeroCells (Value.int .i64 0).cells (grownCap s.w (l.length + 1) cap (ρ.t 3) - (l.length + 1))) (ρ.t 3)) = W0:=⟨_,rfl⟩
    rw [hW0] at hw;subst hw;have hWb:Below A.heap.size s.w W0:=by rw [← hW0]; exact (Below.refl _ _).alloc hAs _
    refine fin _ s.w.heap.size _ (.inl (Nat.le_refl _)) ?_ ?_ (grownCap_ge _ _ _ _) ?_
    ·obtain ⟨k1,k2,k3,k4,k5⟩:=a8 s.w.heap.size [Value.int .i64 x] i W0.drew;obtain ⟨q1,q2,q3,q4,q5⟩:=a8 s.w.heap.size ((l.map (Value.int .i64)).drop i) (i + 1) (W0.drew.setCells s.w.heap.size i [Value.int .i64 x]).drew;refine hWb.trans ⟨q1.trans k1,q2.trans k2,q3.trans k3,Nat.le_of_eq (q4.trans k4).symm,fun k hk=>(q5 k (by omega)).trans (k5 k (by omega))⟩
    ·intro k hk _;exact ((a8 s.w.heap.size _ _ _).2.2.2.2 k (by omega)).trans (((a8 s.w.heap.size _ _ _).2.2.2.2 k (by omega)).trans (by rw [← hW0]; exact Below.heap_alloc _ _ _ hk))
    ·intro j h;have hW:∀ j,W0.cell? ⟨s.w.heap.size,j,none⟩ = (((l.map (Value.int .i64)).take i).toArray ++ Builtin.zeroCells (Value.int .i64 0).cells (l.length + 1 - i) ++ Builtin.zeroCells (Value.int .i64 0).cells (grownCap s.w (l.length + 1) cap (ρ.t 3) - (l.length + 1)))[j]?:=fun j=>by rw [← hW0]; exact World.cell?_alloc_new _ _ _ j
     rw [drew_setCells];refine KO W0.drew.drew s.w.heap.size l x i hil (fun j hj=>?_) (fun j h h1=>?_) j h
     ·refine (congrArg Option.isSome (hW j)).trans ?_;rw [Array.getElem?_eq_getElem (by simp [Builtin.zeroCells,Value.cells]; omega)]; rfl
     ·refine (hW j).trans ?_;rw [Array.append_assoc,Array.getElem?_append_left (by simp; omega)];simp [h,h1]
   ·obtain rfl:i = l.length:=by omega
    refine (Any2.slices_Insert_int_end_grow L (some ⟨blk,0,none⟩) l.length cap vb 0 1 vc (l.map (Value.int .i64)) [.int .i64 x] s.w (by omega) hcp hroom (by omega) (by simp) rfl (fun h=>by cases h) (fun a ha j v hj=>by cases ha; rw [Addr.add_lit]; exact hcs' j v hj) hvs' h1v).mono ?_;rintro e w' ⟨rfl,rfl⟩;refine fin _ s.w.heap.size _ (.inl (Nat.le_refl _)) ?_ ?_ (grownCap_ge _ _ _ _) ?_
    ·exact hBd.alloc (by exact hAs) _
    ·exact fun k hk _=>Below.heap_alloc _ _ _ hk
    ·intro j h;have e:(l.map (Value.int .i64) ++ [Value.int .i64 x]:List Value) = (l.take l.length ++ x :: l.drop l.length).map (Value.int .i64):=by simp
     rw [e];exact (World.cell?_alloc_new (w:=s.w.drew) _ _ _).trans (o4 _ _ j h)
  ·rcases Nat.lt_or_ge i l.length with hlt | hge
   ·have hvb:vb ≠ blk:=fun e=>hne (g2.excl b b2 _ _ blk hb hb2 ⟨cap,h0,by rw [hml]; exact hlam⟩ (e ▸ ⟨vc,k0,klam⟩))
    have hsa:s.w.shape? vb = some (vel,vvs.size):=by simp [World.shape?,kh]
    have hsb:s.w.shape? blk = some (el,vs.size):=by simp [World.shape?,hh]
    refine (Any2.slices_Insert_int_shift L blk 0 l.length cap i vb 0 1 vc (l.map (Value.int .i64)) [.int .i64 x] s.w hlt (by omega) hroom hcap64 hvb (by simp) rfl hcs' (fun j hj=>hsp j (by omega)) (fun j _=>hfz j) hvs' h1c h1v vel el vvs.size vs.size hsa hsb (by omega) (by simp [World.frozen?,kh]) (by simp [World.frozen?,kh])).mono ?_;rintro e w' ⟨rfl,rfl⟩;refine fin _ blk _ (.inr hown) ?_ ?_ hroom ?_
    ·obtain ⟨a1,a2,a3,a4,a5⟩:=a8 blk ((l.map (Value.int .i64)).drop i) (0 + (i + 1)) s.w.drew;obtain ⟨b1,b2,b3,b4,b5⟩:=a8 blk [Value.int .i64 x] (0 + i) (s.w.drew.setCells blk (0 + (i + 1)) ((l.map (Value.int .i64)).drop i));exact ⟨b1.trans a1,b2.trans a2,b3.trans a3,Nat.le_of_eq (b4.trans a4).symm,fun k hk=>(b5 k (by omega)).trans (a5 k (by omega))⟩
    ·intro k hk hno;have hne':k ≠ blk:=fun e=>hno (e ▸ hown)
     exact ((a8 blk _ _ _).2.2.2.2 k hne').trans ((a8 blk _ _ _).2.2.2.2 k hne')
    ·intro j h;rw [Nat.zero_add,Nat.zero_add];exact pO s.w.drew blk l x i hil (fun j hj=>by have:=hsp j (by omega); rwa [Nat.zero_add] at this) (fun j h _=>hcs j h) j h
   ·obtain rfl:i = l.length:=by omega
    refine (Any2.slices_Insert_int_end_room L blk 0 l.length cap vb 0 1 vc [.int .i64 x] s.w (by omega) hroom hcap64 rfl (fun j hj=>by rw [Nat.zero_add]; have:=hsp (l.length + j) (by omega); rwa [Nat.zero_add] at this) (fun j _=>by rw [Nat.zero_add]; have:=hfz (l.length + j); rwa [Nat.zero_add] at this) hvs' h1v).mono ?_;rintro e w' ⟨rfl,rfl⟩;refine fin _ blk _ (.inr hown) ?_ ?_ hroom ?_
    ·obtain ⟨b1,b2,b3,b4,b5⟩:=a8 blk [Value.int .i64 x] (0 + l.length) s.w;exact ⟨b1,b2,b3,Nat.le_of_eq b4.symm,fun k hk=>b5 k (by omega)⟩
    ·intro k hk hno;exact (a8 blk _ _ _).2.2.2.2 k (fun e=>hno (e ▸ hown))
    ·intro j h;rw [Nat.zero_add];have:=pO s.w blk l x l.length (Nat.le_refl _) (fun j hj=>by have:=hsp j (by omega); rwa [Nat.zero_add] at this) (fun j h _=>hcs j h) j h;rw [List.drop_eq_nil_of_le (by simp)] at this;simpa only [World.setCells] using this
end
open Go.RowKit Go.Shelf Go.Proofs
def gi:List aa → Option (List Int)
 | []=>some []
 | .int .i64 n :: r=>match gi r with
  | some l=>some (n :: l)
  | none=>none
 | _ :: _=>none
theorem gq:∀ {xs:List aa} {l:List Int},gi xs = some l → xs = l.map (.int .i64)
 | [],l,h=>by simp [gi] at h; subst h; rfl
 | v :: r,l,h=>by
  unfold gi at h
  split at h
  ·cases h; contradiction
  ·rename_i n r' e;obtain ⟨rfl,rfl⟩:=List.cons.inj e
   split at h
   ·rename_i l' hl;cases h;rw [gq hl]; rfl
   ·cases h
  ·cases h
def lU (fc:Nat) (f:Nat) (args:List aa) (σ:ab):XR:=
 if f = fc then match args with
  | [.slice 1 xs]=>match gi xs with
   | some l=>if l.length * 8 ≤ 140737488355328 then some (.ret (.sref 1 σ.length 0 l.length l.length),σ ++ [.arr 1 xs]) else none
   | none=>none
  | _=>none
 else none
theorem oM {P:Program} {ρ:Ren} (L:Lays2.n15 P ρ) {f:Nat} {args:List aa} {σ:ab} {r:bh} {σ':ab} (h:lU (ρ.f 15) f args σ = some (r,σ')):f = ρ.f 15 ∧ Spec P f args σ fun q σ''=>q = r ∧ σ'' = σ':=by
 unfold lU at h
 split at h
 ·rename_i e;subst e
  split at h
  ·rename_i xs
   split at h
   ·rename_i l hl
    split at h
    ·rename_i h8;obtain rfl:=gq hl;simp only [Option.some.injEq,Prod.mk.injEq] at h;obtain ⟨rfl,rfl⟩:=h;exact ⟨rfl,Spec.Md L l h8 σ⟩
    ·cases h
   ·cases h
  ·cases h
 ·cases h
def jM (fi:Nat) (f:Nat) (args:List aa) (σ:ab):XR:=
 if f = fi then match args with
  | [.sref 1 b 0 n n', .int .i64 i, .sref 1 b2 0 1 1]=>match σ[b]?,σ[b2]? with
   | some (.arr 1 xs),some (.arr 1 [.int .i64 x])=>match gi xs with
    | some l=>if n = l.length ∧ n' = l.length ∧ b ≠ b2 ∧ 0 ≤ i ∧ i.toNat ≤ l.length ∧ l.length ≤ 100000 then some (.ret (.slice 1 ((l.take i.toNat ++ x :: l.drop i.toNat).map (.int .i64))),(σ.set b .dead).set b2 .dead) else none
    | none=>none
   | _,_=>none
  | _=>none
 else none
theorem oc {P:Program} {ρ:Ren} (L:Lays2.n21 P ρ) {f:Nat} {args:List aa} {σ:ab} {r:bh} {σ':ab} (h:jM (ρ.f 21) f args σ = some (r,σ')):f = ρ.f 21 ∧ Spec P f args σ fun q σ''=>q = r ∧ σ'' = σ':=by
 unfold jM at h
 split at h
 ·rename_i e;subst e
  split at h
  ·rename_i b n n' i b2
   split at h
   ·rename_i xs x hb hb2
    split at h
    ·rename_i l hl
     split at h
     ·rename_i hc;obtain ⟨rfl,rfl,hne,h0,hil,hln⟩:=hc;obtain rfl:=gq hl;simp only [Option.some.injEq,Prod.mk.injEq] at h;obtain ⟨rfl,rfl⟩:=h;have:=Spec.IX L l x i.toNat hil hln b b2 σ hb hb2 hne;rw [Int.toNat_of_nonneg h0] at this;exact ⟨rfl,this⟩
     ·cases h
    ·cases h
   ·cases h
  ·cases h
 ·cases h
open Go.RowKit Go.Shelf Go.Proofs
theorem Rv.CJ {s:St} {l:List Int} {c:Value} (h:Rv s (.slice 1 (l.map (.int .i64))) c):(l = [] ∧ ∃ a cap,c = .slice a 0 cap) ∨ ∃ blk off cap,c = .slice (some ⟨blk,off,none⟩) l.length cap ∧ ∀ j,j < l.length → s.w.cell? ⟨blk,off + j,none⟩ = some (.int .i64 (l.getD j 0)):=by
 by_cases hl0:l = []
 ·subst hl0;refine .inl ⟨rfl, ?_⟩
  cases h with
  | slice0 _ a cap=>exact ⟨a,cap,rfl⟩
  | slice _ _ blk off len cap us h1 h2 h3 h4 h5=>exact ⟨_,cap,by rw [h2]; rfl⟩
 ·right;obtain ⟨xs,hxs⟩:∃ xs,xs = l.map (aa.int .i64):=⟨_,rfl⟩
  rw [← hxs] at h
  cases h with
  | slice0=>exact absurd (List.map_eq_nil_iff.1 hxs.symm) hl0
  | slice _ _ blk off len cap us h1 h2 h3 h4 h5=>
   subst hxs;refine ⟨blk,off,cap,by rw [h2,List.length_map],fun j hj=>?_⟩;have hj2:j < us.length:=by rw [h1,List.length_map]; exact hj
   have hv:=h4 j (by simpa using hj) hj2;simp only [List.getElem_map] at hv;have hu:=hv.gZ;have:=((h5 j hj2).2 0 (by rw [hu]; simp [Value.cells])).2;rw [Nat.mul_one,Nat.add_zero] at this;rw [this];simp [hu,Value.cells,List.getD,hj]
theorem Spec.Fm {P:Program} {ρ:Ren} (L:Lays2.n25 P ρ) (l:List Int) (x:Int) (hl:l.length < 4611686018427387904) (hs:l.Pairwise (· ≤ ·)) (σ:ab) :
  Spec P (ρ.f 25) [.slice 1 (l.map (.int .i64)), .int .i64 x] σ fun r σ'=>r = .ret (.tup [.int .i64 (l.countP (· < x):Nat), .bool (l.contains x)]) ∧ σ' = σ:=by
 refine Spec.lM fun A s cargs h1 h2 h3=>?_
 obtain ⟨c,d,rfl,hc,hd⟩:=h3.two;obtain rfl:=hd.gZ;have fin:∀ (s':St),Rv s' (.tup [.int .i64 (l.countP (· < x):Nat), .bool (l.contains x)]) (.tuple #[.int .i64 (l.countP (· < x):Nat), .bool (l.contains x)]):=fun s'=>by
  refine .tup _ _ rfl fun j h1 h2=>?_
  match j,h1 with
  | 0,_=>exact .int _ _
  | 1,_=>exact .bool _
 rcases hc.CJ with ⟨rfl,a,cap,rfl⟩ | ⟨blk,off,cap,rfl,hcell⟩
 ·refine (Any.slices_BinarySearch_int_empty L a cap x s.w).mono ?_;rintro e w' ⟨rfl,rfl⟩;exact ⟨Below.refl _ _,_,rfl,fin⟩
 ·refine (Any.slices_BinarySearch_int L blk off l.length cap l x s.w (Nat.le_refl _) hl hcell (by rw [List.take_length]; exact hs)).mono ?_;rintro e w' ⟨rfl,q,rfl⟩;rw [List.take_length];exact ⟨⟨rfl,rfl,rfl,Nat.le_refl _,fun _ _=>rfl⟩,_,rfl,fin⟩
end Go.AM
