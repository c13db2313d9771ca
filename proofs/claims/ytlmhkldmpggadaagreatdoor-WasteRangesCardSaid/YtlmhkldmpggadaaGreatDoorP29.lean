/- MADE BY PROGRAM (mks3.py): strings.Builder's copyCheck, WriteString and String at this program: which blocks they write. slices.Sort of numbers, on an array of the call's own, by the library's .. -/
import Derived.Test.YtlmhkldmpggadaaGreatDoorP28
import Derived.Test.YtlmhkldmpggadaaGreatDoorChecked
import Derived.Shelf.Spec.SlicesGrow
import Derived.Test.YtlmhkldmpggadaaGreatDoorP21
import Derived.Test.YtlmhkldmpggadaaGreatDoorP19
import Derived.Test.YtlmhkldmpggadaaGreatDoorP27
namespace Go.AM
open Go.RowKit Go.Shelf Go.Proofs
set_option maxHeartbeats 1000000 in
set_option maxRecDepth 100000 in
theorem Dm (b:Nat) (w:World) {p v:Value} (hp:DC b p) (hbk:w.heap[b]? = some (.cells #[p,v] 193 (0,0))) :
  Calls Tryz.prog 184 #[.pointer (some ⟨b,0,none⟩)] w fun e w'=>e = .returned (.tuple #[]) ∧ w.grownBy w' (some b) ∧ w'.heap.size = w.heap.size ∧ w'.heap[b]? = some (.cells #[.pointer (some ⟨b,0,none⟩),v] 193 (0,0)):=by
 have hc:w.cell? ⟨b,0,none⟩ = some p:=by rw [Lib.cell_of_heap hbk]; rfl
 have hsize:(Tryz.prog.info? 193).map (·.size) = some 2:=by kernel_rfl
 obtain ⟨j,hj,hjs⟩:=Option.map_eq_some_iff.1 hsize;have hlies:liesAt Tryz.prog Tryz.prog.depth 193 (2 / Tryz.prog.cellsOf 193) 0 193 1 = true:=by kernel_rfl
 have mixed:Tryz.prog.follows .mixedOrders = true:=by kernel_rfl
 have t3:=Tryz.underlying3; have a3:=Tryz.isAgg3; have z3:=Tryz.sizeOf3; have v3:=Tryz.zeroValue3; have u3:=Tryz.runUnderlying3;have t4:=Tryz.underlying4; have a4:=Tryz.isAgg4; have z4:=Tryz.sizeOf4; have v4:=Tryz.zeroValue4; have u4:=Tryz.runUnderlying4;have t5:=Tryz.underlying5; have a5:=Tryz.isAgg5; have z5:=Tryz.sizeOf5; have v5:=Tryz.zeroValue5; have u5:=Tryz.runUnderlying5;have t9:=Tryz.underlying9; have a9:=Tryz.isAgg9; have z9:=Tryz.sizeOf9; have v9:=Tryz.zeroValue9; have u9:=Tryz.runUnderlying9;have t190:=Tryz.underlying190; have a190:=Tryz.isAgg190; have z190:=Tryz.sizeOf190; have v190:=Tryz.zeroValue190; have u190:=Tryz.runUnderlying190;have t191:=Tryz.underlying191; have a191:=Tryz.isAgg191; have z191:=Tryz.sizeOf191; have v191:=Tryz.zeroValue191; have u191:=Tryz.runUnderlying191;have t193:=Tryz.underlying193; have a193:=Tryz.isAgg193; have z193:=Tryz.sizeOf193; have v193:=Tryz.zeroValue193; have u193:=Tryz.runUnderlying193;have t195:=Tryz.underlying195; have a195:=Tryz.isAgg195; have z195:=Tryz.sizeOf195; have v195:=Tryz.zeroValue195; have u195:=Tryz.runUnderlying195;have t237:=Tryz.underlying237; have a237:=Tryz.isAgg237; have z237:=Tryz.sizeOf237; have v237:=Tryz.zeroValue237; have u237:=Tryz.runUnderlying237;rcases hp with rfl | rfl
 ·have hsh:w.shape? b = some (193,2):=by simp [World.shape?,hbk]
  have hfz:w.frozen? ⟨b,0,none⟩ = false:=by simp [World.frozen?,hbk]
  have key:Calls Tryz.prog 184 #[.pointer (some ⟨b,0,none⟩)] w fun e w'=>e = .returned (.tuple #[]) ∧ w' = w.setCell ⟨b,0,none⟩ (.pointer (some ⟨b,0,none⟩)):=by
   go_enter Tryz.func184,Tryz.ntmps184
   go_wp2
   rw [Lib.run_to_unsafe w ⟨b,0,none⟩ t190 t237 hj (by rw [hjs]; decide) hsh (Nat.zero_lt_succ 1)];simp only [Result.andThen];rw [Oper.upon_value]
   go_wp2
   rw [run_callFunc_extern Tryz.func198 (by kernel_rfl) (by kernel_rfl) (by kernel_rfl) (e:=Extern.AbiNoEscape.same) (by kernel_rfl)];rw [Lib.run_noEscape];simp only [Result.andThen];rw [Oper.upon_value]
   go_wp2
   rw [Lib.run_from_unsafe w ⟨b,0,none⟩ t237 t190 hj hsh hlies];simp only [Result.andThen];rw [Oper.upon_value]
   go_wp2
   go_end0
   exact ⟨rfl,rfl⟩
  refine key.mono ?_;rintro e w' ⟨rfl,rfl⟩;refine ⟨rfl,⟨rfl,rfl,rfl,by simp [World.setCell],fun k _ hk=>Below.heap_setCell _ _ _ _ (fun e=>hk (by simp [e]))⟩,by simp [World.setCell], ?_⟩;simp [World.setCell,Array.getElem?_modify,hbk]
 ·have key:Calls Tryz.prog 184 #[.pointer (some ⟨b,0,none⟩)] w fun e w'=>e = .returned (.tuple #[]) ∧ w' = w:=by
   go_enter Tryz.func184,Tryz.ntmps184
   go_wp2
   rw [Lib.run_neq_ptr_same w _ t190 hj]
   go_wp2
   go_end0
   exact ⟨rfl,rfl⟩
  refine key.mono ?_;rintro e w' ⟨rfl,rfl⟩;exact ⟨rfl,⟨rfl,rfl,rfl,Nat.le_refl _,fun _ _ _=>rfl⟩,rfl,hbk⟩
set_option maxHeartbeats 2000000 in
set_option maxRecDepth 100000 in
theorem Dy (B b:Nat) (bs:List Value) (y:ByteArray) (w:World) {p v:Value} (hp:DC b p) (hbk:w.heap[b]? = some (.cells #[p,v] 193 (0,0)))
  (hown:w.ownsRow B 5 1 v bs.length bs) (hne:v.ownBlock ≠ some b) (hlen:bs.length + y.size ≤ 140737488355328) (hBw:B ≤ w.heap.size) :
  Calls Tryz.prog 144 #[.pointer (some ⟨b,0,none⟩), .string y] w (Bx 193 5 B b bs y w v):=by
 have hbyte:(Tryz.prog.info? 5).map (fun i=>(i.zero,i.size,i.bytes)) = some (some (.int .u8 0),1,1):=by kernel_rfl
 obtain ⟨i0,hi,hz0,hz1,hz2⟩:=info_parts hbyte;have hlt:b < w.heap.size:=(Array.getElem?_eq_some_iff.1 hbk).1;have mixed:Tryz.prog.follows .mixedOrders = true:=by kernel_rfl
 have t3:=Tryz.underlying3; have a3:=Tryz.isAgg3; have z3:=Tryz.sizeOf3; have v3:=Tryz.zeroValue3; have u3:=Tryz.runUnderlying3;have t4:=Tryz.underlying4; have a4:=Tryz.isAgg4; have z4:=Tryz.sizeOf4; have v4:=Tryz.zeroValue4; have u4:=Tryz.runUnderlying4;have t5:=Tryz.underlying5; have a5:=Tryz.isAgg5; have z5:=Tryz.sizeOf5; have v5:=Tryz.zeroValue5; have u5:=Tryz.runUnderlying5;have t9:=Tryz.underlying9; have a9:=Tryz.isAgg9; have z9:=Tryz.sizeOf9; have v9:=Tryz.zeroValue9; have u9:=Tryz.runUnderlying9;have t190:=Tryz.underlying190; have a190:=Tryz.isAgg190; have z190:=Tryz.sizeOf190; have v190:=Tryz.zeroValue190; have u190:=Tryz.runUnderlying190;have t191:=Tryz.underlying191; have a191:=Tryz.isAgg191; have z191:=Tryz.sizeOf191; have v191:=Tryz.zeroValue191; have u191:=Tryz.runUnderlying191;have t193:=Tryz.underlying193; have a193:=Tryz.isAgg193; have z193:=Tryz.sizeOf193; have v193:=Tryz.zeroValue193; have u193:=Tryz.runUnderlying193;have t195:=Tryz.underlying195; have a195:=Tryz.isAgg195; have z195:=Tryz.sizeOf195; have v195:=Tryz.zeroValue195; have u195:=Tryz.runUnderlying195;have t237:=Tryz.underlying237; have a237:=Tryz.isAgg237; have z237:=Tryz.sizeOf237; have v237:=Tryz.zeroValue237; have u237:=Tryz.runUnderlying237;have ecc:∀ args w,(callFunc 184 args).run Tryz.prog w = .ok (.enter 184 args) w:=enters_of Tryz.func184 (by kernel_rfl) rfl
 go_enter Tryz.func144,Tryz.ntmps144
 go_wp2_with (go_at_fn 184; refine (Dm b _ hp hbk).mono ?_)
 rintro e w1 ⟨rfl,hg1,hs1,hb1⟩;have hown1:w1.ownsRow B 5 1 v bs.length bs:=hown.kept hg1 (.inr hne);have c0:w1.cell? ⟨b,0,none⟩ = some (.pointer (some ⟨b,0,none⟩)):=by rw [Lib.cell_of_heap hb1]; rfl
 have c1:w1.cell? ⟨b,1,none⟩ = some v:=by rw [Lib.cell_of_heap hb1]; rfl
 go_wp2_with (at_builtin; refine pX rfl _ _ 191 9 rfl B 5 i0 t191 t9 hi hz0 hz1 hz2 v bs.length bs rfl hown1 y rfl hlen ?c5 ?_)
 case c5=>omega
 intro v' w2 hown' hgrow hwh;have hb2:w2.heap[b]? = some (.cells #[.pointer (some ⟨b,0,none⟩),v] 193 (0,0)):=by
  rw [hgrow.block b (by omega) (fun e=>hne e.symm)];exact hb1
 have d0:w2.cell? ⟨b,0,none⟩ = some (.pointer (some ⟨b,0,none⟩)):=by rw [Lib.cell_of_heap hb2]; rfl
 have d1:w2.cell? ⟨b,1,none⟩ = some v:=by rw [Lib.cell_of_heap hb2]; rfl
 have f1:w2.frozen? ⟨b,1,none⟩ = false:=Lib.frozen_of_heap hb2 1;have hne':v'.ownBlock ≠ some b:=fun hb'=>by
  rcases hwh b hb' with h | h
  ·exact hne h
  ·omega
 obtain ⟨ao,n',cap,rfl⟩:∃ ao n' cap,v' = .slice ao n' cap:=by
  rcases hown'.2 with ⟨hv,_⟩ | ⟨g,cap,cur,hv,_⟩
  ·exact ⟨_,_,_,hv⟩
  ·exact ⟨_,_,_,hv⟩
 have hlen2:bs.length + y.size = (bs ++ Lib.strCells y).length:=by simp [Lib.strCells_length]
 rw [hlen2] at hown';have hsz:w.heap.size ≤ w2.heap.size:=by have:=hgrow.size; omega
 have hrest:∀ k,k < w.heap.size → k ≠ b → v.ownBlock ≠ some k → w2.heap[k]? = w.heap[k]?:=fun k hk h1 h2=>
  (hgrow.block k (by omega) (fun e=>h2 e.symm)).trans (hg1.block k hk (fun e=>h1 (Option.some.inj e)))
 have ho2:w2.os = w.os ∧ w2.tape = w.tape ∧ w2.output = w.output:=⟨hgrow.os.trans hg1.os,hgrow.tape.trans hg1.tape,hgrow.output.trans hg1.output⟩
 go_wp2
 go_ret2
 refine ⟨rfl,_, ?_, ?_,hne',fun g hg=>(hwh g hg).imp id (fun h=>by omega),ho2.1,ho2.2.1,ho2.2.2,by simpa [World.setCell] using hsz,fun k h1 h2 h3=>(Below.heap_setCell _ _ _ _ h2).trans (hrest k h1 h2 h3)⟩
 ·simp [World.setCell,Array.getElem?_modify,hb2]
 ·exact hown'.kept (row:=some b) ⟨rfl,rfl,rfl,by simp [World.setCell],fun k _ hk=>Below.heap_setCell _ _ _ _ (fun e=>hk (by simp [e]))⟩ (.inr hne')
theorem yx (b k:Nat) (bs:List UInt8) (y:ByteArray) (σ:af) (hb:σ[b]? = some (.bld k bs)) (hlen:bs.length + y.size ≤ 140737488355328) :
  Spec Tryz.prog 144 [.ptr b 0, .str y] σ fun r σ'=>r = .ret (.tup [.int .i64 y.size, .niliface]) ∧ σ' = σ.set b (.bld (k + 1) (bs ++ y.data.toList)):=
 Spec.J1 (fun B b bs y w _ _ hp hbk hown hne hl hB=>Dy B b bs y w hp hbk hown hne hl hB) b k bs y σ hb hlen
theorem xu (b k:Nat) (bs:List UInt8) (σ:af) (hb:σ[b]? = some (.bld k bs)) :
  Spec Tryz.prog 149 [.ptr b 0] σ fun r σ'=>r = .ret (.str ⟨bs.toArray⟩) ∧ σ' = σ.set b .dead:=
 Spec.built Tryz.Kr Tryz.rR rfl b k bs σ hb
open Go.RowKit Go.Shelf Go.Proofs Go.Sort
section
variable {P:Program} {ρ:Ren}
def fP (l:List Int):List Int:=l.mergeSort fun x y=>decide (x ≤ y)
theorem iM (l:List Int):(fP l).length = l.length:=by simp [fP]
theorem Gf (l:List Int):(fP l).Pairwise (· ≤ ·):=by
 have:=List.pairwise_mergeSort (le:=fun x y:Int=>decide (x ≤ y)) (fun a b c h1 h2=>by simp at *; omega) (fun a b=>by simp; omega) l;exact this.imp fun h=>by simpa using h
theorem DX (l:List Int):(fP l).Perm l:=List.mergeSort_perm l _
theorem Spec.sortInt (L:Lays.n189 P ρ) (l:List Int) (hlm:l.length < 4611686018427387904) (b:Nat) (σ:af) (hb:σ[b]? = some (.arr 1 (l.map fun n=>.int .i64 n))) :
  Spec P (ρ.f 189) [.sref 1 b 0 l.length l.length] σ fun r σ'=>r = .ret (.tup []) ∧ σ' = σ.set b (.arr 1 ((fP l).map fun n=>.int .i64 n)):=by
 intro A s cargs g1 g2 g3;subst g1;obtain ⟨c,rfl,hc⟩:=g3.one;by_cases hl:l = []
 ·subst hl;have hc':∃ p cap,c = .slice p 0 cap:=by
   cases hc with
   | sref _ _ _ _ _ blk cap h1 h2 h3=>exact ⟨_,_,rfl⟩
   | sref0 _ _ a h=>exact ⟨_,_,rfl⟩
   | srefE _ _ _ _ a v h h0 h1=>exact ⟨_,_,rfl⟩
  obtain ⟨p,cap,rfl⟩:=hc';refine (Any.slices_Sort_int_none L p cap s.w).mono ?_;rintro e w' ⟨rfl,rfl⟩;refine ⟨.ret (.tup []),s,rfl,g2, .refl s, .tup _ _ rfl (fun j h1=>by simp at h1),rfl, ?_⟩;have e1:fP [] = []:=List.eq_nil_of_length_eq_zero (iM []);rw [e1];obtain ⟨hlt,e2⟩:=List.getElem?_eq_some_iff.1 hb;have e3:s.h.set b (.arr 1 (([]:List Int).map fun n=>.int .i64 n)) = s.h:=by rw [← e2]; exact List.set_getElem_self hlt
  exact e3.symm
 have hpos:0 < l.length:=by cases l with
  | nil=>exact absurd rfl hl
  | cons=>simp
 have hobj:=g2.obj b _ hb;rcases hobj.pM with ⟨h0,_⟩ | ⟨blk,cap,vs,el,us,h0,hlam,hB,hh,hvs,hcp,hel,hnS⟩
 ·simp at h0; exact absurd h0 hl
 have hml:(l.map fun n=>ag.int .i64 n).length = l.length:=by simp
 rw [hml] at hlam hcp;obtain ⟨hul,hrv,hcell⟩:=hel;rw [hml] at hul;have hc':c = .slice (some ⟨blk,0,none⟩) l.length cap:=Gu hc hpos hlam;subst hc';have hu:∀ i (h:i < l.length),us[i]? = some (.int .i64 l[i]):=fun i h=>by
  have h2:i < us.length:=by omega
  have:=(hrv i (by simpa using h) h2).1;simp only [List.getElem_map] at this;rw [List.getElem?_eq_getElem h2,this.AK]
 have hv:∀ i (h:i < l.length),vs[i]? = some (.int .i64 l[i]):=fun i h=>by
  have h2:i < us.length:=by omega
  have e1:us[i] = .int .i64 l[i]:=by
   have:=hu i h;rw [List.getElem?_eq_getElem h2] at this;exact Option.some.inj this
  have:=hcell i 0 h2 (by rw [e1]; simp [Value.cells]);simp only [Nat.mul_one,Nat.add_zero] at this;rw [this];simp [e1,Value.cells]
 have hH:Holds (Value.int .i64) s.w blk 0 l.toArray:=by
  intro j hj;have hj':j < l.length:=by simpa using hj
  refine ⟨?_,by simp [World.frozen?,hh]⟩;simp only [World.cell?,hh,Nat.zero_add];rw [hv j hj'];simp [hj']
 have hq:=Any.slices_Sort_int L blk 0 cap l s.w hH (Array.getElem?_eq_some_iff.1 hh).1 (by simpa using hlm);refine hq.mono ?_;rintro e w' ⟨rfl,n,os,rfl⟩;have hsb:(l.mergeSort fun x y=>decide (x ≤ y)) = fP l:=rfl;rw [hsb];generalize hw:grow (putRow (Value.int .i64) (Sort.ahead s.w n) blk 0 (fP l).toArray) os = w';have hhe:w'.heap = s.w.heap.modify blk (onCells (Go.Sort.putCells (Value.int .i64) 0 (fP l).toArray)) ++ os:=by rw [← hw]; rfl
 have hblk:blk < s.w.heap.size:=(Array.getElem?_eq_some_iff.1 hh).1;have hsz:s.w.heap.size ≤ w'.heap.size:=by rw [hhe]; simp
 have hoth:∀ k,k < s.w.heap.size → k ≠ blk → w'.heap[k]? = s.w.heap[k]?:=fun k hk hne=>by
  rw [hhe,Array.getElem?_append_left (by simpa using hk),Array.getElem?_modify,if_neg (fun e=>hne e.symm)]
 have hnew:w'.heap[blk]? = some (.cells (Go.Sort.putCells (Value.int .i64) 0 (fP l).toArray vs) el (0,0)):=by
  rw [hhe,Array.getElem?_append_left (by simpa using hblk),Array.getElem?_modify,if_pos rfl,hh];rfl
 have hos:w'.os = s.w.os ∧ w'.tape = s.w.tape ∧ w'.output = s.w.output:=by rw [← hw]; exact ⟨rfl,rfl,rfl⟩
 have hblt:b < s.h.length:=(List.getElem?_eq_some_iff.1 hb).1
 let s':St:={ h:=s.h.set b (.arr 1 ((fP l).map fun n=>.int .i64 n)),lam:=s.lam,S:=s.S,w:=w' }
 have hown:dA s b (.arr 1 (l.map fun n=>.int .i64 n)) blk:=⟨cap,h0,by rw [hml]; exact hlam⟩;have hk:bq s s':=⟨fun _ _ _ h=>h,fun _ _ h=>h,fun g o hs=>World.cell?_of_block (a:=⟨g,o,none⟩) (hoth g (g2.scell g o hs) (fun e=>hnS o (e ▸ hs)))⟩;have hsl:((fP l).map fun n=>ag.int .i64 n).length = l.length:=by simp [iM]
 have hpc:∀ i (h:i < l.length),(Go.Sort.putCells (Value.int .i64) 0 (fP l).toArray vs)[i]? = some (.int .i64 (fP l)[i]!):=fun i h=>by
  have h2:i < vs.size:=by omega
  have h3:i < (fP l).length:=by rw [iM]; exact h
  have h4:i < (fP l).length:=by rw [iM]; exact h
  simp only [Go.Sort.putCells,Array.getElem?_mapIdx,Array.getElem?_eq_getElem h2,Option.map_some,Nat.zero_le,true_and,Nat.zero_add,Nat.sub_zero,List.size_toArray,h3,if_true];rw [getElem!_pos _ i (by simpa using h3),getElem!_pos _ i h4];simp
 have hgo:=g2.change (s':=s') hblt rfl hk (g2.below.trans ⟨hos.1,hos.2.1,hos.2.2,hsz,fun k hk'=>hoth k (by omega) (by omega)⟩) hsz (fun _ _ _=>rfl)
  (fun k hlt hno=>hoth k hlt (fun e=>hno ⟨_,hb,e ▸ hown⟩))
  ⟨fun k hk'=>hobj.1 k (by rw [hsl] at hk'; rw [hml]; exact hk'), .inr ⟨blk,cap,_,el,(fP l).map (Value.int .i64),h0,by rw [hsl]; exact hlam,hB,hnew,by simp [Go.Sort.putCells,hvs],by rw [hsl]; exact hcp,by simp,fun i h1 h2=>by
    simp only [List.getElem_map];exact ⟨.int _ _,by simp [Value.cells]⟩,fun i j h2 hj=>by
    have h3:i < l.length:=by simpa [iM] using h2
    have hj0:j = 0:=by simp [Value.cells] at hj; exact hj
    subst hj0;have h4:i < (fP l).length:=by rw [iM]; exact h3
    rw [Nat.mul_one,Nat.add_zero,hpc i h3,getElem!_pos _ i h4]
    simp [Value.cells],hnS⟩⟩
  (fun k ho=>by
   obtain ⟨cap2,h1,h2⟩:=ho;rw [hsl] at h2;have h2':s.lam b l.length = some (.slice (some ⟨k,0,none⟩) l.length cap2):=h2;rw [hlam] at h2';simp at h2'
   right; rw [← h2'.1]; exact ⟨_,hb,hown⟩)
  (fun k x h=>.inl h) (fun k x h=>by have:=g2.scell _ _ h; show k < w'.heap.size; omega)
 exact ⟨.ret (.tup []),s',rfl,hgo.1,hgo.2, .tup _ _ rfl (fun j h1=>by simp at h1),rfl,rfl⟩
end
open Go.RowKit Go.Shelf Go.Proofs
theorem Spec.Kv {P:Program} {ρ:Ren} (L:Lays8.n4 P ρ) (i0:TypeInfo) (z:Value) (hi0:P.info? (ρ.t 25) = some i0) (hz0:i0.zero = some z) (hs0:i0.size = 1) (hz1:z.cells.size = 1) (hb8:i0.bytes ≤ 8) (n:Nat) (hn:n ≤ 100000) (σ:af) :
  Spec P (ρ.f 4) [.nils 1, .int .i64 n] σ fun r σ'=>r = .ret (.sref 1 σ.length 0 0 0) ∧ σ' = σ ++ [.arr 1 []]:=by
 intro A s cargs g1 g2 g3;subst g1;obtain ⟨c,d,rfl,hc,hd⟩:=g3.two;obtain rfl:=hd.AK;have hc':c = .slice none 0 0:=by cases hc; rfl
 subst hc';obtain ⟨s1,e1,e2,i1,k1,hh⟩:=g2.one;by_cases h0:n = 0
 ·subst h0;refine (Any8.slices_Grow_room L none 0 0 0 s.w (by omega) (by omega) (by omega) (by omega)).mono ?_;rintro e w' ⟨rfl,rfl⟩;obtain ⟨s2,f1,f2,i2,k2,hl⟩:=i1.lO hh 1 none;exact ⟨.ret (.sref 1 s.h.length 0 0 0),s2,by rw [f2,e2],i2,k1.trans k2, .sref0 _ _ none hl,rfl,by rw [f1,e1,bQ]⟩
 ·have hbig:(0 + n) * i0.bytes ≤ 140737488355328:=by
   have:(0 + n) * i0.bytes ≤ 100000 * 8:=Nat.mul_le_mul (by omega) hb8;omega
  refine (Any8.slices_Grow_grow L i0 z hi0 hz0 (by omega) none 0 0 n [] s.w (by omega) (by omega) hbig (by omega) (by simp) (fun _=>rfl) (fun a h=>by cases h)).mono ?_;rintro e w' ⟨rfl,rfl⟩;have hge:0 + n ≤ grownCap s.w (0 + n) 0 (ρ.t 25):=grownCap_ge s.w _ _ _;obtain ⟨G,hG⟩:=zqq (grownCap s.w (0 + n) 0 (ρ.t 25));rw [hG] at hge ⊢;obtain ⟨i2,k2⟩:=i1.drew;have hel:eC { s1 with w:=s1.w.drew } 1 [] [] (([]:List Value).toArray ++ Builtin.zeroCells z.cells (0 + n - 0) ++ Builtin.zeroCells z.cells (G - (0 + n))):=
   ⟨rfl,fun i h=>by simp at h,fun i j h=>by simp at h⟩
  obtain ⟨s2,f1,f2,i3,k3,hr⟩:=i2.ow (b:=s.h.length) (by exact hh) (ρ.t 25) G (by simp) (by
   simp [Builtin.zeroCells,hz1]; omega) hel
  refine ⟨.ret (.sref 1 s.h.length 0 0 0),s2, ?_,i3,(k1.trans k2).trans k3, ?_,rfl, ?_⟩
  ·rw [f2]; simp [e2]
  ·have hsz:s1.w.drew.heap.size = s.w.heap.size:=by rw [e2]; rfl
   simp only [List.length_nil] at hr;rw [hsz] at hr; exact hr
  ·rw [f1]; show s1.h.set _ _ = _; rw [e1,bQ]
open Go.Proofs
set_option maxRecDepth 100000
set_option maxHeartbeats 1000000
theorem data_inj {a b:ByteArray} (h:a.data.toList = b.data.toList):a = b:=by
 obtain ⟨a⟩:=a;obtain ⟨b⟩:=b;have:a = b:=Array.toList_inj.1 h;rw [this]
theorem mM (l:List UInt8):(bytes l).data.toList = l:=by simp [bytes]
abbrev Wd:=List UInt8
def aA (b:ByteArray):Wd:=b.data.toList
theorem bF (w:Wd):aA (bytes w) = w:=mM w
theorem IF:(1,Lib.pow10Tab.map fun z=>(IntKind.u64,z)) ∈ ew:=by
 have e:(Lib.pow10Tab.map fun z=>(IntKind.u64,z)) = xO:=by decide
 rw [e]; exact List.mem_cons_self
theorem pJ (n:Int) (h0:-9223372036854775808 ≤ n) (h1:n ≤ 9223372036854775807) (σ:af) :
  Spec Tryz.prog Lc [.int .i64 n] σ fun r σ'=>r = .ret (.str (bytes (Lib.itoa n))) ∧ σ' = σ:=
 Spec.itoa Tryz.JK (by kernel_rfl) IF n h0 h1 σ
def spB:ByteArray:=⟨#[32]⟩
theorem G3 (l:List ByteArray) (hN:l.length ≤ 140737488355328) (hlen:(bB 32 (l.map aA)).length ≤ 140737488355328) (σ:af) :
  Spec Tryz.prog Ma [.slice 1 (l.map .str), .str spB] σ fun r σ'=>r = .ret (.str (bytes (bB 32 (l.map aA)))) ∧ σ' = σ:=by
 have e:Lib.join (l.map fun x=>x.data.toList) spB.data.toList = bB 32 (l.map aA):=E7 32 _;have:=Spec.join Tryz.K2 Tryz.tn l spB hN (by rw [e]; exact hlen) σ;unfold Ms at this;rw [e] at this;exact this
theorem Ei (b k:Nat) (bs:List UInt8) (y:ByteArray) (σ:af) (hb:σ[b]? = some (.bld k bs)) (hlen:bs.length + y.size ≤ 140737488355328) :
  Spec Tryz.prog LF [.ptr b 0, .str y] σ fun r σ'=>r = .ret (.tup [.int .i64 y.size, .niliface]) ∧ σ' = σ.set b (.bld (k + 1) (bs ++ y.data.toList)):=yx b k bs y σ hb hlen
def nlB:ByteArray:=⟨#[10]⟩
theorem GU (x:ByteArray) (hx:x.size ≤ 281474976710656) (σ:af):∃ te,Spec Tryz.prog Lr [.str x] σ fun r σ'=>r = .ret (wj x te) ∧ σ' = σ:=
 ⟨_,Spec.atoi Tryz.HE (by decide) (by decide) x hx σ⟩
theorem Jv (x:ByteArray) (hx:x.size ≤ 6000) (σ:af):Spec Tryz.prog OF [.str x, .str nlB] σ fun r σ'=>r = .ret (.tup [.str (bytes (Lib.cut (aA x) [10]).1), .str (bytes (Lib.cut (aA x) [10]).2.1), .bool (Lib.cut (aA x) [10]).2.2]) ∧ σ' = σ:=
 Spec.cut Tryz.KR (by decide) x nlB (by omega) σ
theorem Ef (x:ByteArray) (hx:x.size ≤ 6000) (σ:af):Spec Tryz.prog Lo [.str x, .str spB] σ fun r σ'=>r = .ret (.slice 1 ((ly x spB).map .str)) ∧ σ' = σ:=
 Spec.split Tryz.KB (by kernel_rfl) (by decide) x spB (by omega) (by decide) σ
theorem Im (x:ByteArray):(ly x spB).map aA = cutAt 32 (aA x):=by
 have h:=Lib.splitB_data spB 0 (Lib.countB x spB) x;have e:(ly x spB).map aA = Lib.splitK spB.data.toList 0 (Lib.countB x spB) x.data.toList:=h;rw [e];have e2:Lib.countB x spB = Lib.count x.data.toList [32]:=rfl;rw [e2];unfold Lib.count;rw [n0 32 _ _ (by omega)];exact uS 32 _ _ (Nat.le_refl _)
theorem mB (b:UInt8):∀ l,(cutAt b l).length ≤ l.length + 1 ∧ ∀ p ∈ cutAt b l,p.length ≤ l.length
 | []=>by simp [cutAt]
 | c :: r=>by
  obtain ⟨h1,h2⟩:=mB b r;simp only [cutAt];split
  ·refine ⟨by simp; omega,fun p hp=>?_⟩;rcases List.mem_cons.1 hp with rfl | hp
   ·simp
   ·have:=h2 p hp; simp; omega
  ·cases hq:cutAt b r with
   | nil=>exact absurd hq (jr b r)
   | cons x q=>
    rw [hq] at h1 h2;refine ⟨by simp at h1 ⊢; omega,fun p hp=>?_⟩;rcases List.mem_cons.1 hp with rfl | hp
    ·have:=h2 x (by simp); simp; omega
    ·have:=h2 p (by simp [hp]); simp; omega
theorem cL (x:ByteArray):(aA x).length = x.size:=by simp [aA]
theorem eo (w:Wd):(bytes w).size = w.length:=by simp [bytes,ByteArray.size]
theorem F7 (n:Nat) (hn:n ≤ 100000) (σ:af) :
  Spec Tryz.prog Le [.nils 1, .int .i64 n] σ fun r σ'=>r = .ret (.sref 1 σ.length 0 0 0) ∧ σ' = σ ++ [.arr 1 []]:=
 Spec.Kv Tryz.PN ((Tryz.prog.info? 3).getD default) (.int .i64 0) (by kernel_rfl) (by kernel_rfl) (by kernel_rfl) rfl (Nat.le_of_eq (by kernel_rfl:((Tryz.prog.info? 3).getD default).bytes = 8)) n hn σ
theorem zP {ls:List (List Nat)} {i:Nat} (h:i < ls.length):(ls.take (i + 1)).flatten = (ls.take i).flatten ++ ls[i]:=by
 rw [List.take_add_one,List.flatten_append];simp [h]
theorem rU (ls:List (List Nat)) (i:Nat):(ls.take i).flatten.length ≤ ls.flatten.length:=by
 conv=>rhs; rw [← List.take_append_drop i ls,List.flatten_append,List.length_append]
 omega
def fT (ls:List (List Nat)) (i:Nat):Nat:=(ls.take i).flatten.length
def yg (ls:List (List Nat)) (i:Nat):List ag:=(bb (ls.take i).flatten).map ii'
theorem qI (ls:List (List Nat)) (h1:ls.length ≤ 100000) (h2:ls.flatten.length ≤ 100000) (σ:af) :
  Spec Tryz.prog N7 [.slice 1 (ls.map mQ)] σ fun r σ'=>r = .ret (.sref 1 σ.length 0 ls.flatten.length ls.flatten.length) ∧ σ' = σ ++ [.arr 1 ((bb ls.flatten).map ii')]:=by
 refine UT (by simp) ?_;refine aa _ ?_;simp [Qs];refine AW.loop (ι:=Nat) (fun i fr σ'=>fr = { v:=[(0, .slice 1 (ls.map mQ)),(3, .int .i64 (fT ls i)),(9, .slice 1 (ls.map mQ)),(10, .int .i64 ls.length),(11, .int .i64 i)],ds:=[] } ∧ σ' = σ ∧ i ≤ ls.length) (fun i=>ls.length - i) 0 ⟨by simp [fT],rfl,by omega⟩ ?_;rintro i fr σ' ⟨rfl,rfl,hi⟩;refine (Nat.lt_or_ge i ls.length).elim (fun hlt=>?_) (fun hge=>?_)
 ·have hltI:(i:Int) < ls.length:=by omega
  have hwi:IntKind.i64.wrap ((i:Int) + 1) = ((i + 1:Nat):Int):=by rw [aq (by omega) (by omega)]; simp
  have hft:=zP hlt;have hle:=rU ls (i + 1);obtain ⟨l,hl⟩:=zqq (ls[i]);rw [hl] at hft;have hnl:(bb l).length = l.length:=by simp [bb]
  rw [hft,List.length_append] at hle;have hw2:IntKind.i64.wrap (((ls.take i).flatten.length:Int) + l.length) = ((ls.take i).flatten.length:Int) + l.length:=aq (by omega) (by omega);have hnn:¬ (((ls.take i).flatten.length:Int) + l.length) < 0:=by omega
  have hs1:fT ls (i + 1) = fT ls i + l.length:=by unfold fT; rw [hft,List.length_append]
  change IntKind.i64.wrap ((fT ls i:Int) + l.length) = (fT ls i:Int) + l.length at hw2;change ¬ ((fT ls i:Int) + l.length) < 0 at hnn;obtain ⟨c,hc⟩:=zqq (fT ls i);rw [hc] at hw2 hnn hs1 ⊢;refine aa _ ?_;simp [hlt,hltI,hl,mQ,hnl,hw2,hnn,hwi];exact ⟨i + 1,by omega,⟨by rw [hs1]; simp,by simp⟩,by omega⟩
 obtain rfl:i = ls.length:=by omega
 obtain ⟨F,hF⟩:=zqq ls.flatten;have hsF:fT ls ls.length = F.length:=by unfold fT; rw [List.take_length,hF]
 rw [hF] at h2 ⊢;rw [hsF];refine aa _ ?_;simp;refine ah.spec Se (F7 _ h2 _) ?_;rintro r σ2 ⟨rfl,rfl⟩;refine ⟨_,rfl, ?_⟩;simp;obtain ⟨B,hB⟩:=zqq (σ'.length);have gB:∀ l:af,(σ' ++ l)[B]? = l[0]?:=fun l=>by rw [← hB,List.getElem?_append_right (by omega)]; simp
 have sB:∀ (l:af) (o:cq),(σ' ++ l).set B o = σ' ++ l.set 0 o:=fun l o=>by rw [← hB,List.set_append_right _ _ (by omega)]; simp
 rw [hB];refine AW.loop (ι:=Nat) (fun i fr σ2=>fr = { v:=[(6, .sref 1 B 0 (fT ls i) (fT ls i)),(25, .slice 1 (ls.map mQ)),(26, .int .i64 ls.length),(27, .int .i64 i)],ds:=[] } ∧ σ2 = σ' ++ [.arr 1 (yg ls i)] ∧ i ≤ ls.length) (fun i=>ls.length - i) 0 ⟨by simp [fT],by simp [yg,bb],by omega⟩ ?_;rintro i fr σ2 ⟨rfl,rfl,hi⟩;refine (Nat.lt_or_ge i ls.length).elim (fun hlt=>?_) (fun hge=>?_);rotate_left
 ·obtain rfl:i = ls.length:=by omega
  have hcF:yg ls ls.length = (bb F).map ii':=by unfold yg; rw [List.take_length,hF]
  have hsum:(ls.map List.length).sum = F.length:=by rw [← hF,List.length_flatten]
  rw [hsF,hcF];refine aa _ ?_;simp [hsum]
 have hltI:(i:Int) < ls.length:=by omega
 have hwi:IntKind.i64.wrap ((i:Int) + 1) = ((i + 1:Nat):Int):=by rw [aq (by omega) (by omega)]; simp
 have hft:=zP hlt;have hle:=rU ls (i + 1);rw [hF] at hle;obtain ⟨l,hl⟩:=zqq (ls[i]);rw [hl] at hft;have hnl:(bb l).length = l.length:=by simp [bb]
 have hs1:fT ls (i + 1) = fT ls i + l.length:=by unfold fT; rw [hft,List.length_append]
 have hT:(yg ls i).length = fT ls i:=by unfold yg bb fT; rw [List.length_map,List.length_map]
 rw [hft,List.length_append] at hle;have hle2:fT ls i + l.length ≤ 100000:=by unfold fT; omega
 have hcv:yg ls (i + 1) = yg ls i ++ (bb l).map ii':=by unfold yg; rw [hft]; simp [bb]
 obtain ⟨T,hTd⟩:=zqq (yg ls i);rw [hTd] at hcv hT ⊢;obtain ⟨c,hc⟩:=zqq (fT ls i);rw [hc] at hs1 hT hle2 ⊢;by_cases hl0:l.length = 0
 ·have hl0':l = []:=List.length_eq_zero_iff.1 hl0;subst hl0';refine aa _ ?_;simp [hlt,hltI,hl,mQ,bb,gB,sB,hwi,hT];exact ⟨fun v hv=>by simp at hv,i + 1,by omega,⟨by rw [hs1]; simp,by simp⟩,by rw [hcv]; simp [bb],by omega⟩
 ·have hcl:¬ c + l.length ≤ c:=by omega
  refine aa _ ?_;simp [hlt,hltI,hl,mQ,hnl,gB,sB,hwi,hT,yE];rw [if_neg hcl];exact ⟨by omega,i + 1,by omega,⟨by rw [hs1],by simp⟩,by rw [hcv],by omega⟩
theorem Gj (l:List Int) (hl:l.length ≤ 100000) (b:Nat) (σ:af) (hb:σ[b]? = some (o5 l)) :
  Spec Tryz.prog P0 [.sref 1 b 0 l.length l.length] σ fun r σ'=>r = .ret (.tup []) ∧ σ' = σ.set b (o5 (fP l)):=
 Spec.sortInt Tryz.J9 l (by omega) b σ hb
theorem Bo {y:ab} (hm:y.papers.length ≤ 10):((mN y).getD []).length ≤ 1024 ∧ ∀ l ∈ (mN y).getD [],l.length ≤ 10 ∧ ∀ i ∈ l,i < y.papers.length:=by
 cases h:mN y with
 | none=>simp
 | some ls=>
  obtain ⟨many,hmm,he⟩:=List.exists_of_findSome?_eq_some h
  split at he
  ·cases he
  ·cases he;refine ⟨J7 hm many,fun l hl=>?_⟩;have h1:=(List.mem_filter.1 hl).1;obtain ⟨h2,h3⟩:=(nf y.papers.length many 0 l).1 h1;have h4:=List.mem_range.1 hmm;exact ⟨by omega,fun i hi=>(h3.2 i hi).2⟩
def JF (y:ab):List Nat × Int:=if iW y ≠ 0 then ([],iW y) else (Kq y ((mN y).getD []),0)
theorem o7 (y:ab) (hy:dv y) (σ:af):Spec Tryz.prog Ji [y.v] σ fun r σ'=>r = .ret (.tup [.slice 1 ((bb (JF y).1).map ii'),ii' (JF y).2]) ∧ σ' = σ:=by
 refine Spec.aF (SM (by simp) ?_) (by simp [y.pure,aH]) (by simp [ag.pure,aH,aD (f:=ii') (fun _=>rfl)]) σ;have hen:=fun σ=>iN y hy σ;simp only [ab.v,ab.cells] at hen;unfold JF;by_cases h0:iW y = 0;rotate_left
 ·rw [if_pos h0];refine aa _ ?_;simp [Ni,ab.v,ab.cells];refine ah.pure Gs (hen _) ?_;simp [h0,bb]
 rw [if_neg (by simp [h0])];have hv:=xF h0;have hm10:=hv.m10;rw [h0] at hen;have hle:=fun σ=>tL hv σ;simp only [ab.v,ab.cells] at hle;obtain ⟨s1,s2⟩:=Bo hm10;have hun:=fun r=>Di (y:=y) (ls:=(mN y).getD []) (r:=r) (fun l hl i hi=>(s2 l hl).2 i hi);obtain ⟨ls,hls⟩:=zqq ((mN y).getD []);rw [hls] at hle s1 s2 hun ⊢;have hfl:=BH ls (fun l hl=>(s2 l hl).1) s1;obtain ⟨F,hF⟩:=zqq ls.flatten;have hcon:=fun σ=>qI ls (by omega) (by omega) σ;rw [hF] at hfl;simp only [hF] at hcon hun;have hnF:(bb F).length = F.length:=by simp [bb]
 have hsl:(fP (bb F)).length = F.length:=by rw [iM,hnF]
 refine aa _ ?_;simp [Ni,ab.v,ab.cells];refine ah.pure Gs (hen _) ?_;simp;refine ah.pure SE (hle _) ?_;simp;refine ah.spec Sm (hcon _) ?_;rintro r σ2 ⟨rfl,rfl⟩;have hso:=Gj (bb F) (by omega) 1 [.dead,o5 (bb F)] rfl;rw [hnF] at hso;have hco:=AJ 1 (fP (bb F)) (by omega) (Gf _) [.dead,o5 (fP (bb F))] (by simp) rfl;rw [hsl] at hco;refine ⟨_,rfl, ?_⟩;simp;refine ah.spec S5 hso ?_;rintro r σ2 ⟨rfl,rfl⟩;refine ⟨_,rfl, ?_⟩;simp;refine ah.spec Sl hco ?_;rintro r σ2 ⟨c,z,hon,hcl,hcz,rfl,rfl⟩;refine ⟨_,rfl, ?_⟩;simp;have hmem:∀ x,x ∈ c ↔ ∃ n:Nat,n ∈ F ∧ (n:Int) = x:=fun x=>by
  rw [hon.2,(DX (bb F)).mem_iff];simp [bb]
 have hcn:bb (c.map Int.toNat) = c:=by
  unfold bb;rw [List.map_map]
  conv=>rhs; rw [← List.map_id c]
  refine List.map_congr_left fun x hx=>?_;obtain ⟨n,_,rfl⟩:=(hmem x).1 hx;simp
 have hpw:(c.map Int.toNat).Pairwise (· < ·):=by
  rw [List.pairwise_map];refine hon.1.imp_of_mem fun {a b} ha hb hab=>?_;obtain ⟨n,_,rfl⟩:=(hmem a).1 ha;obtain ⟨k,_,rfl⟩:=(hmem b).1 hb;simp;omega
 have hr:=hun (c.map Int.toNat) hpw fun x=>by
  rw [List.mem_map];constructor
  ·rintro ⟨z,hz,rfl⟩;obtain ⟨n,hn,rfl⟩:=(hmem z).1 hz;simpa using hn
  ·intro hx;exact ⟨x,(hmem x).2 ⟨x,hx,rfl⟩,by simp⟩
 rw [← hr,hcn];simp only [o5];refine ⟨trivial,by simpa using hcz,by rw [List.map_append,List.take_left' (by simp)]⟩
theorem vA (l:List ByteArray):Fits 1 (l.map ag.str):=by
 intro v hv;obtain ⟨a,_,rfl⟩:=List.mem_map.1 hv;exact ⟨⟨rfl,rfl⟩,rfl⟩
def nlS:ByteArray:=⟨#[10]⟩
theorem nt (ws:List ByteArray) (hws:ws.length ≤ 100) (hl:(bB 32 (ws.map aA)).length ≤ 10000) (b k:Nat) (bs:List UInt8) (hbs:bs.length ≤ 100000) (σ:af) (hb:σ[b]? = some (.bld k bs)) :
  Spec Tryz.prog Jy [.slice 1 (ws.map .str), .ptr b 0] σ fun r σ'=>r = .ret (.tup []) ∧ σ' = σ.set b (.bld (k + 1) (bs ++ cy (ws.map aA))):=by
 have hj:=fun σ=>G3 ws (by omega) (by omega) σ;have hsz:(bytes (bB 32 (ws.map aA)) ++ nlS).size = (bB 32 (ws.map aA)).length + 1:=by
  rw [ByteArray.size_append];simp [bytes,nlS,ByteArray.size]
 have hdt:(bytes (bB 32 (ws.map aA)) ++ nlS).data.toList = cy (ws.map aA):=by
  simp [bytes,nlS,cy]
 have hw:=Ei b k bs (bytes (bB 32 (ws.map aA)) ++ nlS) σ hb (by omega);rw [hdt] at hw;have hbz:(bytes (bB 32 (ws.map aA))).size = (bB 32 (ws.map aA)).length:=by simp [bytes,ByteArray.size]
 refine PE (by simp) (aa _ ?_);simp [Ln];refine ah.pure Q0 (hj _) ?_;simp
 refine ⟨by have e1:(⟨#[10]⟩:ByteArray).size = 1:=rfl
            rw [hbz,e1]; omega, ?_⟩
 refine ah.spec RA hw ?_;rintro r σ' ⟨rfl,rfl⟩;refine ⟨_,rfl, ?_⟩;simp
def miS:ByteArray:=⟨#[45]⟩
def mb (y:ab) (a:Int):ByteArray:=if a = -1 then miS else y.places.getD a.toNat .empty
theorem Hv (y:ab) (a:Int):aA (mb y a) = iA y a:=by
 unfold mb iA
 split <;> rfl
theorem lu (y:ab) (a:Int) (ha:-1 ≤ a ∧ a < y.places.length) (σ:af) :
  Spec Tryz.prog Iu [ii' a, .pval y.v] σ fun r σ'=>r = .ret (.str (mb y a)) ∧ σ' = σ:=by
 refine Spec.aF (PS (by simp) ?_) (by simp [y.pure,aH,ag.pure]) rfl σ;unfold mb;by_cases h:a = -1
 ·subst h;refine aa _ ?_;simp [Jr,ab.v,ab.cells];rfl
 ·obtain ⟨k,rfl⟩:∃ k:Nat,a = k:=⟨a.toNat,by omega⟩;have hk:k < y.places.length:=by omega
  refine aa _ ?_;simp [Jr,ab.v,ab.cells,h,hk]
def Gn (w:ByteArray) (y:ab) (c:ay):List ByteArray:=[w,y.kinds.getD c.kind.toNat .empty,y.places.getD c.place.toNat .empty,bytes (Lib.itoa c.lo),bytes (Lib.itoa c.hi)]
theorem CN (w:ByteArray) (y:ab) (c:ay):(Gn w y c).map aA = aR (aA w) y c:=by
 simp only [Gn,aR,List.map_cons,List.map_nil,bF];rfl
theorem lB {α β:Type} {l:List α} {i:Nat} (f:α → List β) (h:i < l.length):(l.take (i + 1)).flatMap f = (l.take i).flatMap f ++ f l[i]:=by
 rw [List.take_succ_eq_append_getElem h,List.flatMap_append]; simp
theorem jY {α β:Type} (f:α → List β) {x:α}:∀ {l:List α},x ∈ l → (f x).length ≤ (l.flatMap f).length
 | [],h=>by simp at h
 | a :: r,h=>by
  rw [List.flatMap_cons,List.length_append];rcases List.mem_cons.1 h with rfl | h
  ·omega
  ·have:=jY f h;omega
theorem sZ (y:ab) (w:ByteArray) (cs:List ay) (hcl:cs.length ≤ 1000) (hc:∀ c ∈ cs,(0 ≤ c.kind ∧ c.kind < y.kinds.length) ∧ (0 ≤ c.place ∧ c.place < y.places.length) ∧ Big c.lo ∧ Big c.hi)
  (hlen:(cs.flatMap fun c=>cy (aR (aA w) y c)).length ≤ 5000) (b k:Nat) (bs:List UInt8) (hbs:bs.length ≤ 5000) (σ:af) (hb:σ[b]? = some (.bld k bs)) :
  Spec Tryz.prog IP [.str w, .slice 4 (cs.map ay.v), .pval (.func (.func 143) [] [.ptr b 0]), .pval y.v] σ fun r σ'=>r = .ret (.tup []) ∧ ∃ k' tl,σ' = σ.set b (.bld k' (bs ++ cs.flatMap fun c=>cy (aR (aA w) y c))) ++ tl:=by
 refine Pd (by simp) ?_;refine aa _ ?_;simp [Mj,ab.v,ab.cells]
 refine AW.loop (ι:=Nat) (fun i fr σ'=>∃ (k':Nat) (tl:af),fr = { v:=[(0, .str w),(2, .pval (.func (.func 143) [] [.ptr b 0])),(3, .pval y.v),(8, .slice 4 (cs.map ay.v)),(9, .int .i64 cs.length),(10, .int .i64 i)],ds:=[] } ∧ σ' = σ.set b (.bld k' (bs ++ (cs.take i).flatMap fun c=>cy (aR (aA w) y c))) ++ tl ∧ i ≤ cs.length) (fun i=>cs.length - i) 0 ⟨k,[],by simp [ab.v,ab.cells],by
  obtain ⟨h1,h2⟩:=List.getElem?_eq_some_iff.1 hb
  simp [← h2],by omega⟩ ?_
 rintro i fr σ' ⟨k',tl,rfl,rfl,hi⟩;refine (Nat.lt_or_ge i cs.length).elim (fun hlt=>?_) (fun hge=>?_);rotate_left
 ·obtain rfl:i = cs.length:=by omega
  rw [List.take_length];refine aa _ ?_;simp;exact ⟨k',tl,rfl⟩
 have hltI:(i:Int) < cs.length:=by omega
 have hwi:IntKind.i64.wrap ((i:Int) + 1) = ((i + 1:Nat):Int):=by rw [aq (by omega) (by omega)]; simp
 obtain ⟨c,hx⟩:=zqq (cs[i]);have hcm:c ∈ cs:=hx ▸ List.getElem_mem _;obtain ⟨⟨c1,c2⟩,⟨c3,c4⟩,c5,c6⟩:=hc c hcm;unfold Big at c5 c6;have hfl:=lB (fun c=>cy (aR (aA w) y c)) hlt;rw [hx] at hfl;have hrow:=Nat.le_trans (jY (fun c=>cy (aR (aA w) y c)) hcm) hlen;have hpre:((cs.take i).flatMap fun c=>cy (aR (aA w) y c)).length ≤ 5000:=by
  refine Nat.le_trans ?_ hlen
  conv=>rhs; rw [← List.take_append_drop i cs,List.flatMap_append,List.length_append]
  omega
 obtain ⟨S,hS⟩:=zqq (((cs.take i).flatMap fun c=>cy (aR (aA w) y c)));rw [hS] at hfl hpre ⊢;obtain ⟨hb1,_⟩:=List.getElem?_eq_some_iff.1 hb;have hgb:∀ tl:af,(σ.set b (.bld k' (bs ++ S)) ++ tl)[b]? = some (.bld k' (bs ++ S)):=fun tl=>by
  rw [List.getElem?_append_left (by rw [List.length_set]; exact hb1),List.getElem?_set_self hb1]
 have hli:=nt (Gn w y c) (by simp [Gn]) (by
  rw [CN];simp only [cy,List.length_append] at hrow
  omega) b k' (bs ++ S) (by simp; omega)
 rw [CN,List.append_assoc, ← hfl] at hli;have i1:=fun σ=>pJ c.lo (by omega) (by omega) σ;have i2:=fun σ=>pJ c.hi (by omega) (by omega) σ;obtain ⟨K,hK⟩:∃ K:Nat,c.kind = K:=⟨c.kind.toNat,by omega⟩;obtain ⟨Pn,hP⟩:∃ K:Nat,c.place = K:=⟨c.place.toNat,by omega⟩;have hK1:K < y.kinds.length:=by omega
 have hP1:Pn < y.places.length:=by omega
 have hKI:(K:Int) < y.kinds.length:=by omega
 have hPI:(Pn:Int) < y.places.length:=by omega
 have hcs:Gn w y c = [w,y.kinds[K],y.places[Pn],bytes (Lib.itoa c.lo),bytes (Lib.itoa c.hi)]:=by
  simp only [Gn,hK,hP,Int.toNat_natCast,List.getD,List.getElem?_eq_getElem hK1,List.getElem?_eq_getElem hP1,Option.getD_some]
 rw [hcs] at hli;simp only [List.map_cons,List.map_nil] at hli;have hsb:∀ (X Y:cq) (l:af),(σ.set b X ++ l).set b Y = σ.set b Y ++ l:=fun X Y l=>by
  rw [List.set_append_left _ _ (by rw [List.length_set]; exact hb1),List.set_set]
 refine aa _ ?_;simp [hlt,hltI,hx,ay.v,ay.cells,ab.v,ab.cells,hK,hP,hK1,hP1,hKI,hPI];refine ⟨[.str (bytes (Lib.itoa c.lo)), .str (bytes (Lib.itoa c.hi))],⟨ah.pure BI (i1 _) ?_,ah.pure BI (i2 _) ?_⟩, ?_⟩
 ·simp
 ·simp
 simp;refine ⟨[],ah.fO (aE.func K8 (first:=[]) (caps:=[.ptr b 0]) (args:=[_]) (hli _ (hgb _))) ?_⟩;rintro r σ' ⟨rfl,rfl⟩;refine ⟨_,rfl, ?_⟩;simp [hsb,hwi];exact ⟨i + 1,by omega,by simp,⟨k' + 1,_,rfl⟩,by omega⟩
end Go.AM
