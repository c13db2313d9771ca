/- From a contract of the library on worlds to one of ours: what only adds memory. strings.Builder: what its methods do to a builder of the call's own, exactly: which blocks stay. Functions of Go's .. -/
import Derived.Test.YthhmdhiiicipkaaGreatDoorP15
import Derived.Below
import Derived.Shelf.Strings.Builder1
import Derived.Shelf.Strings.OnBuilder
import Derived.Shelf.Strings.Cut
import Derived.Shelf.Strings.Split
import Derived.Shelf.Strconv.Itoa3
import Derived.Shelf.Strconv.AtoiAll
import Derived.Shelf.Sort.Plain
import Derived.Shelf.Slices.In.SortNone
import Derived.Test.YthhmdhiiicipkaaGreatDoorP18
namespace Go.AM
open Go.RowKit
section
variable {P:Program} {A:World} {s:St}
theorem Inv.K0 (hi:Inv A s) {w':World} (hb:Below s.w.heap.size s.w w'):Inv A { s with w:=w' } ∧ bK s { s with w:=w' }:=
  hi.grow (s':={ s with w:=w' }) rfl rfl ⟨fun _ _ _ h=>h,fun _ _ h=>h,fun blk o hs=>World.cell?_of_block (a:=⟨blk,o,none⟩) (hb.block blk (hi.scell blk o hs))⟩
    (hi.below.trans (hb.mono hi.below.size)) hb.size hb.block (fun _ _ h=>.inl h) (fun _blk _x h=>Nat.lt_of_lt_of_le (hi.scell _ _ h) hb.size)
theorem Inv.Bw (hi:Inv A s) {w':World} (hb:Below s.w.heap.size s.w w') {blk:Nat} (hblk:s.w.heap.size ≤ blk) (us:List Value) (hc:∀ j (h:j < us.length),w'.cell? ⟨blk,j,none⟩ = some us[j]) :
    ∃ s',s'.h = s.h ∧ s'.w = w' ∧ Inv A s' ∧ bK s s' ∧ ∀ j,j < us.length → s'.S blk j:=by
  let s':St:={ h:=s.h,lam:=s.lam,S:=fun g o=>s.S g o ∨ (g = blk ∧ o < us.length),w:=w' }
  have hk:bg s s':=⟨fun _ _ _ h=>h,fun _ _ h=>.inl h,fun g o hs=>World.cell?_of_block (a:=⟨g,o,none⟩) (hb.block g (hi.scell g o hs))⟩
  have hgo:=hi.grow (s':=s') rfl rfl hk (hi.below.trans (hb.mono hi.below.size)) hb.size hb.block (fun g x h=>by
      rcases h with h | ⟨h,_⟩
      · exact .inl h
      · exact .inr (h ▸ hblk))
    (fun g x h=>by
      rcases h with h | ⟨rfl,h⟩
      · exact Nat.lt_of_lt_of_le (hi.scell _ _ h) hb.size
      · exact wA (hc x h))
  exact ⟨s',rfl,rfl,hgo.1,hgo.2,fun j h=>.inr ⟨rfl,h⟩⟩
theorem DY {s:St} {blk cap:Nat} {l:List ByteArray} (hcap:l.length ≤ cap) (hS:∀ j,j < l.length → s.S blk j) (hc:∀ j (h:j < l.length),s.w.cell? ⟨blk,j,none⟩ = some (.string l[j])) :
    Rv s (.slice 1 (l.map .str)) (.slice (some ⟨blk,0,none⟩) l.length cap):=by
  refine Rv.slice 1 (l.map .str) blk 0 l.length cap (l.map Value.string) (by simp) (by simp) hcap (fun i h1 h2=>by simp only [List.getElem_map]; exact .str _) (fun i h2=>?_)
  have h2':i < l.length:=by simpa using h2
  refine ⟨by simp [Value.cells],fun j hj=>?_⟩
  have hj0:j = 0:=by simp [Value.cells] at hj; exact hj
  subst hj0
  refine ⟨by simpa using hS i h2', ?_⟩
  have:=hc i h2'
  simpa [Value.cells] using this
theorem Spec.Fx {f:FuncId} {args:List ab} {σ:ag} {Q:ab → Prop}
    (h:∀ A s cargs,s.h = σ → Inv A s → ft s args cargs → Calls P f cargs s.w fun e w'=>Below s.w.heap.size s.w w' ∧ ∃ v c,e = .returned c ∧ (∀ s':St,Rv s' v c) ∧ Q v) :
    Spec P f args σ fun r σ'=>∃ v,r = .ret v ∧ Q v ∧ σ' = σ:=by
  intro A s cargs h1 h2 h3
  refine (h A s cargs h1 h2 h3).mono ?_
  rintro e w' ⟨hb,v,c,rfl,hr,hq⟩
  obtain ⟨i',g'⟩:=h2.K0 hb
  exact ⟨.ret v,_,rfl,i',g',hr _,v,rfl,hq,h1⟩
theorem Spec.o6 {f:FuncId} {args:List ab} {σ:ag} {v:ab}
    (h:∀ A s cargs,s.h = σ → Inv A s → ft s args cargs → Calls P f cargs s.w fun e w'=>Below s.w.heap.size s.w w' ∧ ∃ c,e = .returned c ∧ ∀ s':St,Rv s' v c) :
    Spec P f args σ fun r σ'=>r = .ret v ∧ σ' = σ:=by
  refine (Spec.Fx (Q:=fun u=>u = v) fun A s cargs h1 h2 h3=>(h A s cargs h1 h2 h3).mono ?_).mono ?_
  · rintro e w' ⟨hb,c,rfl,hr⟩
    exact ⟨hb,v,c,rfl,hr,rfl⟩
  · rintro r σ' ⟨u,rfl,rfl,rfl⟩
    exact ⟨rfl,rfl⟩
theorem ft.one {s:St} {a:ab} {cs:Array Value} (h:ft s [a] cs):∃ c,cs = #[c] ∧ Rv s a c:=by
  obtain ⟨h1,h2⟩:=h
  obtain ⟨l⟩:=cs
  match l,h1 with
  | [c],_=>exact ⟨c,rfl,h2 0 (by simp) (by simp)⟩
theorem ft.two {s:St} {a b:ab} {cs:Array Value} (h:ft s [a,b] cs):∃ c d,cs = #[c,d] ∧ Rv s a c ∧ Rv s b d:=by
  obtain ⟨h1,h2⟩:=h
  obtain ⟨l⟩:=cs
  match l,h1 with
  | [c,d],_=>exact ⟨c,d,rfl,h2 0 (by simp) (by simp),h2 1 (by simp) (by simp)⟩
theorem Rv.iP {s:St} {x:ByteArray} {c:Value} (h:Rv s (.str x) c):c = .string x:=by cases h; rfl
theorem Rv.EY {s:St} {k:IntKind} {n:Int} {c:Value} (h:Rv s (.int k n) c):c = .int k n:=by cases h; rfl
theorem Rv.CQ {s:St} {l:List ByteArray} {c:Value} (h:Rv s (.slice 1 (l.map .str)) c):∃ a cap,c = .slice a l.length cap ∧ (l = [] ∨ ∃ blk off,a = some ⟨blk,off,none⟩ ∧ l.length ≤ cap ∧ ∀ j x,l[j]? = some x → s.S blk (off + j) ∧ s.w.cell? ⟨blk,off + j,none⟩ = some (.string x)):=by
  obtain ⟨a,cap,rfl,hh⟩:=h.cW
  refine ⟨a,cap,by simp, ?_⟩
  rcases hh with h0 | ⟨blk,off,us,rfl,hl,hcp,hr,hm⟩
  · exact .inl (by simpa using h0)
  · refine .inr ⟨blk,off,rfl,by simpa using hcp,fun j x hj=>?_⟩
    obtain ⟨hj1,rfl⟩:=List.getElem?_eq_some_iff.1 hj
    simp only [List.length_map] at hl
    have hr1:=hr j (by simpa using hj1) (by omega)
    simp only [List.getElem_map] at hr1
    have he:=hr1.iP
    have:=(hm j (by omega)).2 0 (by rw [he]; simp [Value.cells])
    simp only [Nat.mul_one,Nat.add_zero] at this
    refine ⟨this.1,this.2.trans ?_⟩
    simp [he,Value.cells]
end
open Go.RowKit Go.Shelf Go.Proofs
section
variable {P:Program} {ρ:Ren}
theorem vY (w:World) (base:Nat) (t u ty e:TypeId) (i:TypeInfo) (ht:P.underlying t = some (.slice e)) (hu:P.underlying u = some .string) (hi:P.info? e = some i) (hz:i.zero = some (.int .u8 0))
    (hsize:i.size = 1) (hby:i.bytes = 1) (v:Value) (n:Nat) (xs:List Value) (hown:w.ownsRow base e 1 v n xs) (x:ByteArray) (hlen:n + x.size ≤ 140737488355328) (hbase:base ≤ w.heap.size) :
    ∃ v' w',(Builtin.append_ #[t,u] ty #[v, .string x]).run P w = .ok v' w' ∧ w'.ownsRow base e 1 v' (n + x.size) (xs ++ Lib.strCells x) ∧ w.grownBy w' v.ownBlock ∧
      ∀ g,v'.ownBlock = some g → v.ownBlock = some g ∨ w.heap.size ≤ g:=by
  obtain ⟨v',w',hr,h2,h3,h4⟩:=Lib.run_append_own_string (P:=P) w base t u ty e i ht hu hi hz hsize hby v n xs hown x (by unfold maxLen; omega) hlen hbase
  refine ⟨v',w',hr,h2,h3,fun g hg=>?_⟩
  have hxl:xs.length = n:=by simpa using hown.1
  rcases hown.2 with ⟨rfl,rfl⟩ | ⟨g0,cap,cur,rfl,_,hg0,hnc,_,hcs,htake⟩
  · by_cases hm:x.size = 0
    · rw [h4.2 ⟨rfl,hm⟩] at hg; simp [Value.ownBlock] at hg
    · have hr':=run_append_nil_string (P:=P) w t u ty e i (.int .u8 0) ht hu hi hz x (by omega) (by omega) (by rw [hby]; omega)
      rw [hr] at hr'
      injection hr' with e1 e2
      rw [e1] at hg
      simp [Value.ownBlock] at hg
      right; omega
  · by_cases hroom:n + x.size ≤ cap
    · have hcs':cur.size = cap:=by simpa using hcs
      have hr':=Lib.run_append_room_string (P:=P) w t u ty e i ht hu hi hsize g0 n cap cur hg0 x hroom (by omega)
      rw [hr] at hr'
      injection hr' with e1 e2
      rw [e1] at hg
      left; exact hg
    · have holds:∀ j u,xs[j]? = some u → w.cell? ((⟨g0,0,none⟩:Addr).add j) = some u:=hown.cells (g:=g0) rfl
      have hr':=Lib.run_append_grow_string (P:=P) w t u ty e i (.int .u8 0) ht hu hi hz ⟨g0,0,none⟩ n cap xs (by rw [hsize]; simpa using hxl) holds x (by omega) (by omega) (by rw [hby]; exact growslice_fits (by omega) (by omega))
      rw [hr] at hr'
      injection hr' with e1 e2
      rw [e1] at hg
      simp [Value.ownBlock] at hg
      right; omega
theorem mT {ops:Array Oper} {rest:List Oper} {o:Oper} {a:Act} {Q:Exit → Act → World → Prop} {w:World} (hgd:o.guard = none) (sl x:Operand) (t u:TypeId)
    (ho:o.op = .call { callee:=.builtin .append,args:=#[sl,x],argTypes:=#[t,u] }) (base:Nat) (e:TypeId) (i:TypeInfo) (ht:P.underlying t = some (.slice e)) (hu:P.underlying u = some .string) (hi:P.info? e = some i)
    (hz:i.zero = some (.int .u8 0)) (hsize:i.size = 1) (hby:i.bytes = 1) (v:Value) (n:Nat) (xs:List Value) (hs:a.eval sl = v) (hown:w.ownsRow base e 1 v n xs) (y:ByteArray) (hx:a.eval x = .string y)
    (hlen:n + y.size ≤ 140737488355328) (hbase:base ≤ w.heap.size)
    (h:∀ v' w',w'.ownsRow base e 1 v' (n + y.size) (xs ++ Lib.strCells y) → w.grownBy w' v.ownBlock → (∀ g,v'.ownBlock = some g → v.ownBlock = some g ∨ w.heap.size ≤ g) → wpList P ops Q rest (a.put o.dst v') w'):wpList P ops Q (o :: rest) a w:=by
  refine wpList_plain hgd fun K hK=>?_
  obtain ⟨v',w',hr,h2,h3,h4⟩:=vY (P:=P) w base t u o.type e i ht hu hi hz hsize hby v n xs hown y hlen hbase
  unfold Oper.wp execOp
  simp only [ho,resolve,invoke,builtin,Sem.run_bind,Sem.run_pure,Result.andThen_ok,List.map_toArray,List.map_cons,List.map_nil,hs,hx,hr]
  exact hK _ _ (h v' w' h2 h3 h4)
def Aa (b:Nat) (p:Value):Prop:=p = .pointer none ∨ p = .pointer (some ⟨b,0,none⟩)
def xo (T e:TypeId) (B b:Nat) (bs:List Value) (y:ByteArray) (w:World) (v:Value) (en:Ending) (w':World):Prop:=
  en = .returned (.tuple #[.int .i64 y.size, .nilIface]) ∧ ∃ v',w'.heap[b]? = some (.cells #[.pointer (some ⟨b,0,none⟩),v'] T (0,0)) ∧
    w'.ownsRow B e 1 v' (bs ++ Lib.strCells y).length (bs ++ Lib.strCells y) ∧ v'.ownBlock ≠ some b ∧ (∀ g,v'.ownBlock = some g → v.ownBlock = some g ∨ w.heap.size ≤ g) ∧
    w'.os = w.os ∧ w'.tape = w.tape ∧ w'.output = w.output ∧ w.heap.size ≤ w'.heap.size ∧ ∀ k,k < w.heap.size → k ≠ b → v.ownBlock ≠ some k → w'.heap[k]? = w.heap[k]?
theorem v8 (w:World) (g n k:Nat) (h:k ≠ g):(w.freeze ⟨g,0,none⟩ n).heap[k]? = w.heap[k]?:=by
  unfold World.freeze
  split
  · rfl
  · simp only [Array.getElem?_modify]
    rw [if_neg (fun e=>h e.symm)]
theorem xY (w:World) (a:Addr) (n:Nat):(w.freeze a n).heap.size = w.heap.size:=by
  unfold World.freeze
  split
  · rfl
  · simp
def rG (v:Value) (w w':World):Prop:=w'.os = w.os ∧ w'.tape = w.tape ∧ w'.output = w.output ∧ w.heap.size ≤ w'.heap.size ∧ ∀ k,k < w.heap.size → v.ownBlock ≠ some k → w'.heap[k]? = w.heap[k]?
set_option maxHeartbeats 2000000 in
set_option maxRecDepth 100000 in
theorem zy (L:Lays.n169 P ρ) (X:Builder.Extra P ρ) (B b:Nat) (l:List UInt8) (w:World) {p v:Value} (hbk:w.heap[b]? = some (.cells #[p,v] (ρ.t 72) (0,0))) (hown:w.ownsRow B (ρ.t 5) 1 v l.length (Lib.byteCells l)) :
    Calls P (ρ.f 169) #[.pointer (some ⟨b,0,none⟩)] w fun e w'=>e = .returned (.string ⟨l.toArray⟩) ∧ rG v w w':=by
  have mixed:=L.mixed
  have t5:=X.t5; have t72:=L.t72; have t70:=L.t70; have t37:=L.t37; have t127:=L.t127; have t9:=L.t9; have t3:=L.t3
  have a5:=X.a5; have a72:=L.a72; have a70:=L.a70; have a37:=L.a37; have a127:=L.a127; have a9:=L.a9; have a3:=L.a3
  have z5:=X.z5; have z72:=L.z72; have z70:=L.z70; have z37:=L.z37; have z127:=L.z127; have z9:=L.z9; have z3:=L.z3
  have v5:=X.v5; have v72:=L.v72; have v70:=L.v70; have v37:=L.v37; have v127:=L.v127; have v9:=L.v9; have v3:=L.v3
  have u72:=run_underlying L.t72; have u70:=run_underlying L.t70; have u37:=run_underlying L.t37; have u127:=run_underlying L.t127; have u9:=run_underlying L.t9; have u3:=run_underlying L.t3; have u5:=run_underlying X.t5
  have hlt:b < w.heap.size:=(Array.getElem?_eq_some_iff.1 hbk).1
  have c1:w.drew.cell? ⟨b,1,none⟩ = some v:=by
    have:w.drew.heap[b]? = some (.cells #[p,v] (ρ.t 72) (0,0)):=hbk
    rw [Lib.cell_of_heap this]; rfl
  have hk0:rG v w w.drew:=⟨rfl,rfl,rfl,Nat.le_refl _,fun _ _ _=>rfl⟩
  have hUS:=Any.unsafeString_none L X
  by_cases h0:l = []
  · subst h0
    rcases hown.2 with ⟨rfl,_⟩ | ⟨g,cap,cur,rfl,_,hg,_,_,_,_⟩
    · have hSD:(Builtin.unsafeSliceData_ #[(ρ.t 37)] (ρ.t 127) #[.slice none 0 0]).run P w.drew = .ok (.pointer none) w.drew:=rfl
      go_enter L.f169,Body.n169_ntmps ρ
      go_wp2
      go_region_o
      all_goals (go_wp2; go_ret; exact ⟨rfl,hk0⟩)
    · by_cases hc0:cap = 0
      · subst hc0
        have hSD:(Builtin.unsafeSliceData_ #[(ρ.t 37)] (ρ.t 127) #[.slice (some ⟨g,0,none⟩) 0 0]).run P w.drew = .ok (.pointer (some ⟨w.drew.heap.size,0,none⟩)) (w.drew.alloc (.view ⟨g,0,none⟩ (ρ.t 5))):=
          Lib.run_unsafeSliceData_zero w.drew _ _ (ρ.t 5) L.t127 ⟨g,0,none⟩ 0 ((ρ.t 5),cur.size) (by have hg':w.drew.heap[g]? = some (.cells cur (ρ.t 5) (0,0)):=hg; simp [World.shape?,hg'])
        have c2:(w.drew.alloc (.view ⟨g,0,none⟩ (ρ.t 5))).cell? ⟨b,1,none⟩ = some (.slice (some ⟨g,0,none⟩) 0 0):=by
          have:(w.drew.alloc (.view ⟨g,0,none⟩ (ρ.t 5))).heap[b]? = _:=(Lib.alloc_old w.drew _ b hlt).trans hbk
          rw [Lib.cell_of_heap this]; rfl
        have c3:(w.alloc (.view ⟨g,0,none⟩ (ρ.t 5))).drew.cell? ⟨b,1,none⟩ = some (.slice (some ⟨g,0,none⟩) 0 0):=c2
        have c0:w.cell? ⟨b,1,none⟩ = some (.slice (some ⟨g,0,none⟩) 0 0):=c1
        have hk1:rG (.slice (some ⟨g,0,none⟩) 0 0) w (w.drew.alloc (.view ⟨g,0,none⟩ (ρ.t 5))):=⟨rfl,rfl,rfl,by simp,fun k hk _=>Lib.alloc_old w.drew _ k hk⟩
        go_enter L.f169,Body.n169_ntmps ρ
        go_wp2
        go_region_o
        all_goals (go_wp2; go_ret; exact ⟨rfl,hk1⟩)
      · have hSD:(Builtin.unsafeSliceData_ #[(ρ.t 37)] (ρ.t 127) #[.slice (some ⟨g,0,none⟩) 0 cap]).run P w.drew = .ok (.pointer (some ⟨g,0,none⟩)) w.drew:=
          Lib.run_unsafeSliceData_row _ _ _ _ _ _ hc0
        clear hc0
        go_enter L.f169,Body.n169_ntmps ρ
        go_wp2
        go_region_o
        all_goals (go_wp2; go_ret; exact ⟨rfl,hk0⟩)
  · have hl0:l.length ≠ 0:=by simpa using h0
    obtain ⟨g,cap,cur,rfl,hbg,hg,hnc,hcm,hcs,htake⟩:∃ g cap cur,v = .slice (some ⟨g,0,none⟩) l.length cap ∧ B ≤ g ∧ w.heap[g]? = some (.cells cur (ρ.t 5) (0,0)) ∧ l.length ≤ cap ∧ cap ≤ maxLen ∧ cur.size = cap * 1 ∧ cur.toList.take (l.length * 1) = Lib.byteCells l:=by
      rcases hown.2 with ⟨_,hz⟩ | ⟨g,cap,cur,hv,r⟩
      · exact absurd hz hl0
      · exact ⟨g,cap,cur,hv,r⟩
    have hSD:(Builtin.unsafeSliceData_ #[(ρ.t 37)] (ρ.t 127) #[.slice (some ⟨g,0,none⟩) l.length cap]).run P w.drew = .ok (.pointer (some ⟨g,0,none⟩)) w.drew:=
      Lib.run_unsafeSliceData_row _ _ _ _ _ _ (by omega)
    have hUS2:(Builtin.unsafeString_ #[(ρ.t 127),(ρ.t 3)] (ρ.t 9) #[.pointer (some ⟨g,0,none⟩), .int .i64 l.length]).run P w.drew = .ok (.string ⟨l.toArray⟩) (w.drew.freeze ⟨g,0,none⟩ l.length):=by
      refine Lib.run_unsafeString_row w.drew (ρ.t 127) (ρ.t 3) (ρ.t 9) (ρ.t 5) L.t127 X.cellsByte g cur.size (by have hg':w.drew.heap[g]? = some (.cells cur (ρ.t 5) (0,0)):=hg; simp [World.shape?,hg']) l h0 (by omega) (by unfold maxLen at hcm; omega) ?_
      intro j x hx
      have:=hown.cells (g:=g) rfl j (.int .u8 x.toNat) (by simp [Lib.byteCells,hx])
      exact this
    have hk2:rG (.slice (some ⟨g,0,none⟩) l.length cap) w (w.drew.freeze ⟨g,0,none⟩ l.length):=
      ⟨by unfold World.freeze; split <;> rfl,by unfold World.freeze; split <;> rfl,by unfold World.freeze; split <;> rfl,by rw [xY]; exact Nat.le_refl _,fun k hk hne=>v8 w.drew g _ k (fun e=>hne (by simp [Value.ownBlock,e]))⟩
    clear hUS
    go_enter L.f169,Body.n169_ntmps ρ
    go_wp2
    go_region_o
    all_goals (go_wp2; go_ret; exact ⟨rfl,hk2⟩)
/-! ### The contracts on the abstract heap -/
theorem Spec.EH {W:FuncId} (H:∀ (B b:Nat) (bs:List Value) (y:ByteArray) (w:World) (p v:Value),Aa b p → w.heap[b]? = some (.cells #[p,v] rf.1 (0,0)) → w.ownsRow B rf.2 1 v bs.length bs → v.ownBlock ≠ some b → bs.length + y.size ≤ 140737488355328 → B ≤ w.heap.size →
      Calls P W #[.pointer (some ⟨b,0,none⟩), .string y] w (xo rf.1 rf.2 B b bs y w v))
    (b k:Nat) (bs:List UInt8) (y:ByteArray) (σ:ag) (hb:σ[b]? = some (.bld k bs)) (hlen:bs.length + y.size ≤ 140737488355328) :
    Spec P W [.ptr b 0, .str y] σ fun r σ'=>r = .ret (.tup [.int .i64 y.size, .niliface]) ∧ σ' = σ.set b (.bld (k + 1) (bs ++ y.data.toList)):=by
  intro A s cargs hh hi ha
  subst hh
  obtain ⟨c,d,rfl,hc,hd⟩:=ha.two
  obtain rfl:=hd.iP
  obtain ⟨hno,blk,v,hl0,hv,⟨hB,⟨p,hp,hbk⟩,hrow,hne⟩,hnS,hgS⟩:=hi.obj b _ hb
  cases hc with
  | ptr _ _ blk' hl'=>
  have:blk' = blk:=by rw [hl0] at hl'; simpa using hl'.symm
  subst this
  have hlen0:(bs.map fun b=>Value.int .u8 b.toNat).length = bs.length:=by simp
  rw [← hlen0] at hrow
  refine (H A.heap.size blk' _ y s.w p v hp hbk hrow hne (by rw [hlen0]; exact hlen) hi.below.size).mono ?_
  rintro e w' ⟨rfl,v',hbk',hrow',hne',hwh,q1,q2,q3,q4,q5⟩
  have hblt:b < s.h.length:=(List.getElem?_eq_some_iff.1 hb).1
  let s':St:={ h:=s.h.set b (.bld (k + 1) (bs ++ y.data.toList)),lam:=bm s.lam b (k + 2) v',S:=s.S,w:=w' }
  have hk:bg s s':=⟨ba (hno _ (by omega)),fun _ _ h=>h,fun g o hs=>World.cell?_of_block (a:=⟨g,o,none⟩) (q5 g (hi.scell g o hs) (fun e=>hnS o (e ▸ hs)) (fun e=>hgS g e o hs))⟩
  have hl1:s'.lam b 0 = some (.pointer (some ⟨blk',0,none⟩)):=(aw (.inr (by omega))).trans hl0
  have hl2:s'.lam b (k + 1 + 1) = some v':=aD _ _ _ _
  have hown:cV s b (.bld k bs) blk':=.inl hl0
  have hog:∀ g,v.ownBlock = some g → cV s b (.bld k bs) g:=fun g e=>.inr ⟨v,hv,e⟩
  have hvlt:=hrow.lt
  have hgo:=hi.change (s':=s') hblt rfl hk (hi.below.trans ⟨q1,q2,q3,q4,fun g hg=>q5 g (by have:=hi.below.size; omega) (by omega) (fun e=>by have:=(hvlt g e).1; omega)⟩) q4 (fun b' k hne=>aw (.inl hne))
    (fun g hlt hno=>q5 g hlt (fun e=>hno ⟨_,hb,e ▸ hown⟩) (fun e=>hno ⟨_,hb,hog g e⟩))
    ⟨fun k' hk'=>(aw (.inr (by omega))).trans (hno k' (by omega)),blk',v',hl1,hl2,⟨hB,⟨_, .inr rfl,hbk'⟩,by
        have e1:((bs ++ y.data.toList).map fun b=>Value.int .u8 b.toNat) = (bs.map fun b=>Value.int .u8 b.toNat) ++ Lib.strCells y:=by simp [Lib.strCells]
        have e2:(bs ++ y.data.toList).length = ((bs.map fun b=>Value.int .u8 b.toNat) ++ Lib.strCells y).length:=by rw [← e1]; simp
        rw [e1,e2]; exact hrow',hne'⟩,hnS,fun g e o hs=>by
        rcases hwh g e with h | h
        · exact hgS g h o hs
        · have:=hi.scell _ _ hs; omega⟩
    (fun g ho=>by
      rcases ho with e | ⟨u,e1,e2⟩
      · rw [hl1] at e
        have:blk' = g:=by simpa using e
        subst this; exact .inr ⟨_,hb,hown⟩
      · rw [hl2] at e1
        have:=Option.some.inj e1
        subst this
        rcases hwh g e2 with h | h
        · exact .inr ⟨_,hb,hog g h⟩
        · exact .inl h)
    (fun g x h=>.inl h) (fun g x h=>by have:=hi.scell _ _ h; show g < w'.heap.size; omega)
  refine ⟨_,s',rfl,hgo.1,hgo.2, ?_,rfl,rfl⟩
  refine .tup _ _ rfl fun j h1 h2=>?_
  match j,h1 with
  | 0,_=>exact .int _ _
  | 1,_=>exact .niliface
theorem Spec.built (L:Lays.n169 P ρ) (X:Builder.Extra P ρ) (hT:rf = (ρ.t 72,ρ.t 5)) (b k:Nat) (bs:List UInt8) (σ:ag) (hb:σ[b]? = some (.bld k bs)) :
    Spec P (ρ.f 169) [.ptr b 0] σ fun r σ'=>r = .ret (.str ⟨bs.toArray⟩) ∧ σ' = σ.set b .dead:=by
  intro A s cargs hh hi ha
  subst hh
  obtain ⟨c,rfl,hc⟩:=ha.one
  obtain ⟨hno,blk,v,hl0,hv,⟨hB,⟨p,hp,hbk⟩,hrow,hne⟩,hnS,hgS⟩:=hi.obj b _ hb
  cases hc with
  | ptr _ _ blk' hl'=>
  have:blk' = blk:=by rw [hl0] at hl'; simpa using hl'.symm
  subst this
  rw [hT] at hbk hrow
  refine (zy L X A.heap.size blk' bs s.w hbk hrow).mono ?_
  rintro e w' ⟨rfl,q1,q2,q3,q4,q5⟩
  have hblt:b < s.h.length:=(List.getElem?_eq_some_iff.1 hb).1
  let s':St:={ h:=s.h.set b .dead,lam:=s.lam,S:=s.S,w:=w' }
  have hog:∀ g,v.ownBlock = some g → cV s b (.bld k bs) g:=fun g e=>.inr ⟨v,hv,e⟩
  have hk:bg s s':=⟨fun _ _ _ h=>h,fun _ _ h=>h,fun g o hs=>World.cell?_of_block (a:=⟨g,o,none⟩) (q5 g (hi.scell g o hs) (fun e=>hgS g e o hs))⟩
  have hvlt:=hrow.lt
  have hgo:=hi.change (s':=s') hblt rfl hk (hi.below.trans ⟨q1,q2,q3,q4,fun g hg=>q5 g (by have:=hi.below.size; omega) (fun e=>by have:=(hvlt g e).1; omega)⟩) q4 (fun b' k hne=>rfl)
    (fun g hlt hno=>q5 g hlt (fun e=>hno ⟨_,hb,hog g e⟩)) trivial (fun g ho=>ho.elim)
    (fun g x h=>.inl h) (fun g x h=>by have:=hi.scell _ _ h; show g < w'.heap.size; omega)
  exact ⟨.ret (.str _),s',rfl,hgo.1,hgo.2,Rv.str _,rfl,rfl⟩
end
open Go.RowKit Go.Shelf Go.Proofs Go.Sort
section
variable {P:Program} {ρ:Ren}
def bytes (l:List UInt8):ByteArray:=⟨l.toArray⟩
def Gx (l:List ByteArray) (sep:ByteArray):ByteArray:=bytes (Lib.join (l.map fun x=>x.data.toList) sep.data.toList)
theorem Spec.join (L:Lays.n156 P ρ) (X:Builder.Extra P ρ) (l:List ByteArray) (sep:ByteArray) (hN:l.length ≤ 140737488355328) (hlen:(Lib.join (l.map fun x=>x.data.toList) sep.data.toList).length ≤ 140737488355328) (σ:ag) :
    Spec P (ρ.f 156) [.slice 1 (l.map .str), .str sep] σ fun r σ'=>r = .ret (.str (Gx l sep)) ∧ σ' = σ:=by
  refine Spec.o6 fun A s cargs h1 h2 h3=>?_
  obtain ⟨c,d,rfl,hc,hd⟩:=h3.two
  obtain rfl:=hd.iP
  obtain ⟨a,cap,rfl,hx⟩:=hc.CQ
  by_cases hl:l = []
  · subst hl
    refine (Any.strings_Join_none L X a cap sep s.w).mono ?_
    rintro e w' ⟨rfl,rfl⟩
    exact ⟨Below.refl _ _,_,rfl,fun s'=>.str _⟩
  · obtain ⟨blk,off,rfl,hcap,hcell⟩:=hx.resolve_left hl
    have h0:0 < l.length:=by cases l with
      | nil=>exact absurd rfl hl
      | cons=>simp
    have hb:=h2.scell _ _ (hcell 0 l[0] (List.getElem?_eq_getElem h0)).1
    refine (Any.strings_Join L X blk off cap l sep s.w (fun j x hj=>(hcell j x hj).2) hb hN hcap hlen).mono ?_
    rintro e w' ⟨rfl,hb'⟩
    exact ⟨hb',_,rfl,fun s'=>.str _⟩
theorem Ao (w:World) (n:Nat) (os:Array Obj):Below w.heap.size w (grow (w.drewN n) os):=
  ⟨rfl,rfl,rfl,by simp [grow,World.drewN],fun k hk=>by
    have:(w.drewN n).heap = w.heap:=rfl
    simp only [grow,this]
    rw [Array.getElem?_append_left hk]⟩
theorem HW {A:World} {s:St} (hi:Inv A s) {g:Nat} {name:String} {k:IntKind} {zs:List Int} (hg:P.globalNamed name = some g) (hm:(g,zs.map fun z=>(k,z)) ∈ dC) (h0:zs ≠ []):Lib.TabIs P s.w name k zs:=by
  have h1:=hi.laid.1 g _ hm
  have h2:=(hi.laid.2.2 g _ hm).2
  have hz:0 < zs.length:=by cases zs with
    | nil=>exact absurd rfl h0
    | cons=>simp
  have hc0:=(h1 0 (by simpa using hz)).2
  unfold Lib.TabIs World.var?
  rw [hg]
  simp only [Option.bind_some]
  simp only [World.cell?] at hc0 h2
  cases hh:s.w.heap[g]? with
  | none=>rw [hh] at hc0; simp at hc0
  | some o=>
    cases o with
    | cells cs el fz=>
      rw [hh] at h2
      simp only [Option.some.injEq]
      simp at h2
      apply Array.ext_getElem?
      intro j
      by_cases hj:j < zs.length
      · have:=(h1 j (by simpa using hj)).2
        simp only [World.cell?,hh] at this
        simp at this
        rw [this]
        simp [hj]
      · rw [Array.getElem?_eq_none (by omega),Array.getElem?_eq_none (by simp; omega)]
    | _=>rw [hh] at hc0; simp at hc0
theorem Spec.itoa (L : LaysM.n171 P ρ) (hg : P.globalNamed "internal/strconv.uint64pow10" = some 1) (hm : (1, Lib.pow10Tab.map fun z => (IntKind.u64, z)) ∈ dC) (n : Int) (h0 : -9223372036854775808 ≤ n) (h1 : n ≤ 9223372036854775807) (σ : ag) :
    Spec P (ρ.f 171) [.int .i64 n] σ fun r σ'=>r = .ret (.str (bytes (Lib.itoa n))) ∧ σ' = σ:=by
  refine Spec.o6 fun A s cargs g1 g2 g3=>?_
  obtain ⟨c,rfl,hc⟩:=g3.one
  obtain rfl:=hc.EY
  refine (Any.strconv_Itoa L n h0 h1 s.w (HW g2 hg hm (by decide))).mono ?_
  rintro e w' ⟨rfl,k,os,rfl⟩
  exact ⟨Ao _ _ _,_,rfl,fun s'=>.str _⟩
theorem CO {A:World} {s:St} (hi:Inv A s) {g:Nat} (hm:(g,0) ∈ ff):∃ m,s.w.cell? ⟨g,0,none⟩ = some (.int .i64 m):=by
  obtain ⟨_,v,hv,m,rfl⟩:=hi.laid.2.1 g 0 hm
  exact ⟨m,hv⟩
theorem Ea {A:World} {s:St} (hi:Inv A s) {g:Nat} (hm:(g,1) ∈ ff):∃ ev,s.w.cell? ⟨g,0,none⟩ = some ev ∧ (ev = .nilIface ∨ ∃ te pe,ev = .iface te pe):=by
  obtain ⟨_,v,hv,te,pe,rfl⟩:=hi.laid.2.1 g 1 hm
  exact ⟨_,hv, .inr ⟨te,pe,rfl⟩⟩
theorem Spec.cut (L:Lays.n145 P ρ) (hm:(ρ.g 1,0) ∈ ff) (x sep:ByteArray) (hx:x.size < 4294967281) (σ:ag) :
    Spec P (ρ.f 145) [.str x, .str sep] σ fun r σ'=>r = .ret (.tup [.str (bytes (Lib.cut x.data.toList sep.data.toList).1), .str (bytes (Lib.cut x.data.toList sep.data.toList).2.1), .bool (Lib.cut x.data.toList sep.data.toList).2.2]) ∧ σ' = σ:=by
  refine Spec.o6 fun A s cargs g1 g2 g3=>?_
  obtain ⟨c,d,rfl,hc,hd⟩:=g3.two
  obtain rfl:=hc.iP
  obtain rfl:=hd.iP
  obtain ⟨m,hmc⟩:=CO g2 hm
  refine (Any.strings_Cut L x sep m s.w hx hmc).mono ?_
  rintro e w' ⟨rfl,n,rfl⟩
  refine ⟨⟨rfl,rfl,rfl,Nat.le_refl _,fun _ _=>rfl⟩,_,rfl,fun s'=>.tup _ _ rfl fun j h1 h2=>?_⟩
  match j,h1 with
  | 0,_=>exact .str _
  | 1,_=>exact .str _
  | 2,_=>exact .bool _
def jU (x sep:ByteArray):List ByteArray:=Lib.splitB sep 0 (Lib.countB x sep) x
theorem Spec.split (L:Lays.n146 P ρ) (hi9:(P.info? (ρ.t 9)).map (fun i=>(i.zero,i.size,i.bytes)) = some (some (.string ByteArray.empty),1,16)) (hm:(ρ.g 1,0) ∈ ff) (x sep:ByteArray) (hx:x.size < 4294967281) (h1:1 ≤ sep.size) (σ:ag) :
    Spec P (ρ.f 146) [.str x, .str sep] σ fun r σ'=>r = .ret (.slice 1 ((jU x sep).map .str)) ∧ σ' = σ:=by
  intro A s cargs g1 g2 g3
  obtain ⟨c,d,rfl,hc,hd⟩:=g3.two
  obtain rfl:=hc.iP
  obtain rfl:=hd.iP
  obtain ⟨m,hmc⟩:=CO g2 hm
  refine (Any.strings_Split L hi9 x sep m s.w hx hmc h1).mono ?_
  rintro e w' ⟨rfl,rfl⟩
  have hlen:(jU x sep).length = Lib.countB x sep + 1:=Lib.splitB_all sep h1 0 _ x rfl
  have hbel:Below s.w.heap.size s.w (s.w.alloc (.cells ((jU x sep).map Value.string).toArray (ρ.t 9))):=(Below.refl _ _).alloc (Nat.le_refl _) _
  obtain ⟨s',e1,e2,i',g',hS⟩:=g2.Bw hbel (blk:=s.w.heap.size) (Nat.le_refl _) ((jU x sep).map Value.string) (fun j hj=>by
    rw [World.cell?_alloc_new]
    simp)
  refine ⟨.ret (.slice 1 ((jU x sep).map .str)),s',e2,i',g', ?_,rfl,e1.trans g1⟩
  show Rv s' _ _
  rw [← hlen]
  refine DY (Nat.le_refl _) (fun j hj=>hS j (by simpa using hj)) (fun j hj=>?_)
  rw [e2]
  show (s.w.alloc _).cell? _ = _
  rw [World.cell?_alloc_new]
  simp [jU] at hj ⊢
def pk (x:ByteArray) (te:TypeId):ab:=
  match Lib.atoiAll x.data.toList with
  | .ok v=>.tup [.int .i64 v, .niliface]
  | .range=>.tup [.int .i64 (Lib.atoiSat x.data.toList), .iface te .undef]
  | _=>.tup [.int .i64 0, .iface te .undef]
theorem xQ (w:World) (e:TypeId) (t:ByteArray):Below w.heap.size w (Lib.bytesWorld w e t):=
  Lib.below_freeze (((Below.refl _ w).drew).alloc (Nat.le_refl _) _) (p:=⟨w.heap.size,_,none⟩) (Nat.le_refl _) _
theorem Spec.atoi (L:LaysC.n172 P ρ) (h15:(ρ.g 15,1) ∈ ff) (h16:(ρ.g 16,1) ∈ ff) (x:ByteArray) (hx:x.size ≤ 281474976710656) (σ:ag) :
    Spec P (ρ.f 172) [.str x] σ fun r σ'=>r = .ret (pk x (ρ.t 168)) ∧ σ' = σ:=by
  refine Spec.o6 fun A s cargs g1 g2 g3=>?_
  obtain ⟨c,rfl,hc⟩:=g3.one
  obtain rfl:=hc.iP
  unfold pk
  cases ha:Lib.atoiAll x.data.toList with
  | ok v=>
    refine (Any.strconv_Atoi_ok L x (by omega) v ha s.w).mono ?_
    rintro e w' ⟨rfl,hw⟩
    refine ⟨?_,_,rfl,fun s'=>.tup _ _ rfl fun j h1 h2=>?_⟩
    · rcases hw with rfl | ⟨t,rfl⟩
      · exact Below.refl _ _
      · exact xQ _ _ _
    · match j,h1 with
      | 0,_=>exact .int _ _
      | 1,_=>exact .niliface
  | range=>
    obtain ⟨ev,hv,hev⟩:=Ea g2 h16
    refine (Any.strconv_Atoi_range L x hx ha ev s.w hv hev).mono ?_
    rintro e w' ⟨N,rfl,_,_,hb⟩
    refine ⟨hb,_,rfl,fun s'=>.tup _ _ rfl fun j h1 h2=>?_⟩
    match j,h1 with
    | 0,_=>exact .int _ _
    | 1,_=>exact .iface _ _ _ (.undef _)
  | _=>
    obtain ⟨ev,hv,hev⟩:=Ea g2 h15
    refine (Any.strconv_Atoi_syntax L x hx ha ev s.w hv hev).mono ?_
    rintro e w' ⟨N,rfl,_,_,hb⟩
    refine ⟨hb,_,rfl,fun s'=>.tup _ _ rfl fun j h1 h2=>?_⟩
    match j,h1 with
    | 0,_=>exact .int _ _
    | 1,_=>exact .iface _ _ _ (.undef _)
end
open Go.RowKit Go.Shelf Go.Proofs Go.Sort
section
variable {P:Program} {ρ:Ren}
def lE (l:List ByteArray):List (List UInt8):=(l.map fun x=>x.data.toList).mergeSort fun x y=>decide (x ≤ y)
def fJ (l:List ByteArray):List ByteArray:=(lE l).map bytes
theorem vf (l:List ByteArray):(lE l).length = l.length:=by simp [lE]
theorem gQ (l:List ByteArray):(fJ l).length = l.length:=by simp [fJ,vf]
theorem Bv {s:St} {b n blk cap:Nat} {c:Value} (hc:Rv s (.sref 1 b 0 n n) c) (h0:0 < n) (hl:s.lam b n = some (.slice (some ⟨blk,0,none⟩) n cap)):c = .slice (some ⟨blk,0,none⟩) n cap:=by
  cases hc with
  | sref _ _ _ _ _ blk' cap' h1 h2 h3=>
    rw [hl] at h1
    simp at h1
    rw [h1.1,h1.2]; simp
  | sref0=>omega
  | srefE=>omega
theorem Spec.sortStr (L:Lays.n190 P ρ) (l:List ByteArray) (hlm:l.length < 4611686018427387904) (b:Nat) (σ:ag) (hb:σ[b]? = some (.arr 1 (l.map .str))) :
    Spec P (ρ.f 190) [.sref 1 b 0 l.length l.length] σ fun r σ'=>r = .ret (.tup []) ∧ σ' = σ.set b (.arr 1 ((fJ l).map .str)):=by
  intro A s cargs g1 g2 g3
  subst g1
  obtain ⟨c,rfl,hc⟩:=g3.one
  by_cases hl:l = []
  · subst hl
    have hc':∃ p cap,c = .slice p 0 cap:=by
      cases hc with
      | sref _ _ _ _ _ blk cap h1 h2 h3=>exact ⟨_,_,rfl⟩
      | sref0 _ _ a h=>exact ⟨_,_,rfl⟩
      | srefE _ _ _ _ a v h h0 h1=>exact ⟨_,_,rfl⟩
    obtain ⟨p,cap,rfl⟩:=hc'
    refine (Any.slices_Sort_string_none L p cap s.w).mono ?_
    rintro e w' ⟨rfl,rfl⟩
    refine ⟨.ret (.tup []),s,rfl,g2, .refl s, .tup _ _ rfl (fun j h1=>by simp at h1),rfl, ?_⟩
    have e1:fJ [] = []:=List.eq_nil_of_length_eq_zero (gQ [])
    rw [e1]
    obtain ⟨hlt,e2⟩:=List.getElem?_eq_some_iff.1 hb
    have e3:s.h.set b (.arr 1 (([]:List ByteArray).map .str)) = s.h:=by rw [← e2]; exact List.set_getElem_self hlt
    exact e3.symm
  have hpos:0 < l.length:=by cases l with
    | nil=>exact absurd rfl hl
    | cons=>simp
  have hobj:=g2.obj b _ hb
  rcases hobj.mF with ⟨h0,_⟩ | ⟨blk,cap,vs,el,us,h0,hlam,hB,hh,hvs,hcp,hel,hnS⟩
  · simp at h0; exact absurd h0 hl
  have hml:(l.map ab.str).length = l.length:=by simp
  rw [hml] at hlam hcp
  obtain ⟨hul,hrv,hcell⟩:=hel
  rw [hml] at hul
  have hc':c = .slice (some ⟨blk,0,none⟩) l.length cap:=Bv hc hpos hlam
  subst hc'
  have hu:∀ i (h:i < l.length),us[i]? = some (.string l[i]):=fun i h=>by
    have h2:i < us.length:=by omega
    have:=(hrv i (by simpa using h) h2).1
    simp only [List.getElem_map] at this
    rw [List.getElem?_eq_getElem h2,this.iP]
  have hv:∀ i (h:i < l.length),vs[i]? = some (.string l[i]):=fun i h=>by
    have h2:i < us.length:=by omega
    have e1:us[i] = .string l[i]:=by
      have:=hu i h
      rw [List.getElem?_eq_getElem h2] at this
      exact Option.some.inj this
    have:=hcell i 0 h2 (by rw [e1]; simp [Value.cells])
    simp only [Nat.mul_one,Nat.add_zero] at this
    rw [this]
    simp [e1,Value.cells]
  have hH:Holds encStr s.w blk 0 (l.map fun x=>x.data.toList).toArray:=by
    intro j hj
    have hj':j < l.length:=by simpa using hj
    refine ⟨?_,by simp [World.frozen?,hh]⟩
    simp only [World.cell?,hh,Nat.zero_add]
    rw [hv j hj']
    simp [encStr,hj']
  have hq:=Any.slices_Sort_string L blk 0 cap (l.map fun x=>x.data.toList) s.w hH (Array.getElem?_eq_some_iff.1 hh).1 (by simpa using hlm)
  rw [show (l.map fun x=>x.data.toList).length = l.length by simp] at hq
  refine hq.mono ?_
  rintro e w' ⟨rfl,n,os,rfl⟩
  have hsb:((l.map fun x=>x.data.toList).mergeSort fun x y=>decide (x ≤ y)) = lE l:=rfl
  rw [hsb]
  generalize hw:grow (putRow encStr (Sort.ahead s.w n) blk 0 (lE l).toArray) os = w'
  have hhe:w'.heap = s.w.heap.modify blk (onCells (Go.Sort.putCells encStr 0 (lE l).toArray)) ++ os:=by rw [← hw]; rfl
  have hblk:blk < s.w.heap.size:=(Array.getElem?_eq_some_iff.1 hh).1
  have hsz:s.w.heap.size ≤ w'.heap.size:=by rw [hhe]; simp
  have hoth:∀ k,k < s.w.heap.size → k ≠ blk → w'.heap[k]? = s.w.heap[k]?:=fun k hk hne=>by
    rw [hhe,Array.getElem?_append_left (by simpa using hk),Array.getElem?_modify,if_neg (fun e=>hne e.symm)]
  have hnew:w'.heap[blk]? = some (.cells (Go.Sort.putCells encStr 0 (lE l).toArray vs) el (0,0)):=by
    rw [hhe,Array.getElem?_append_left (by simpa using hblk),Array.getElem?_modify,if_pos rfl,hh]
    rfl
  have hos:w'.os = s.w.os ∧ w'.tape = s.w.tape ∧ w'.output = s.w.output:=by rw [← hw]; exact ⟨rfl,rfl,rfl⟩
  have hblt:b < s.h.length:=(List.getElem?_eq_some_iff.1 hb).1
  let s':St:={ h:=s.h.set b (.arr 1 ((fJ l).map .str)),lam:=s.lam,S:=s.S,w:=w' }
  have hown:cV s b (.arr 1 (l.map .str)) blk:=⟨cap,h0,by rw [hml]; exact hlam⟩
  have hk:bg s s':=⟨fun _ _ _ h=>h,fun _ _ h=>h,fun g o hs=>World.cell?_of_block (a:=⟨g,o,none⟩) (hoth g (g2.scell g o hs) (fun e=>hnS o (e ▸ hs)))⟩
  have hsl:((fJ l).map ab.str).length = l.length:=by simp [gQ]
  have hpc:∀ i (h:i < l.length),(Go.Sort.putCells encStr 0 (lE l).toArray vs)[i]? = some (.string (fJ l)[i]!):=fun i h=>by
    have h2:i < vs.size:=by omega
    have h3:i < (lE l).length:=by rw [vf]; exact h
    have h4:i < (fJ l).length:=by rw [gQ]; exact h
    simp only [Go.Sort.putCells,Array.getElem?_mapIdx,Array.getElem?_eq_getElem h2,Option.map_some,Nat.zero_le,true_and,Nat.zero_add,Nat.sub_zero,List.size_toArray,h3,if_true]
    rw [getElem!_pos _ i (by simpa using h3),getElem!_pos _ i h4]
    simp [fJ,encStr,bytes]
  have hgo:=g2.change (s':=s') hblt rfl hk (g2.below.trans ⟨hos.1,hos.2.1,hos.2.2,hsz,fun k hk'=>hoth k (by omega) (by omega)⟩) hsz (fun _ _ _=>rfl)
    (fun k hlt hno=>hoth k hlt (fun e=>hno ⟨_,hb,e ▸ hown⟩))
    ⟨fun k hk'=>hobj.1 k (by rw [hsl] at hk'; rw [hml]; exact hk'), .inr ⟨blk,cap,_,el,(fJ l).map Value.string,h0,by rw [hsl]; exact hlam,hB,hnew,by simp [Go.Sort.putCells,hvs],by rw [hsl]; exact hcp,by simp,fun i h1 h2=>by
        simp only [List.getElem_map]
        exact ⟨.str _,by simp [Value.cells]⟩,fun i j h2 hj=>by
        have h3:i < l.length:=by simpa [gQ] using h2
        have hj0:j = 0:=by simp [Value.cells] at hj; exact hj
        subst hj0
        have h4:i < (fJ l).length:=by rw [gQ]; exact h3
        rw [Nat.mul_one,Nat.add_zero,hpc i h3,getElem!_pos _ i h4]
        simp [Value.cells],hnS⟩⟩
    (fun k ho=>by
      obtain ⟨cap2,h1,h2⟩:=ho
      rw [hsl] at h2
      have h2':s.lam b l.length = some (.slice (some ⟨k,0,none⟩) l.length cap2):=h2
      rw [hlam] at h2'
      simp at h2'
      right; rw [← h2'.1]; exact ⟨_,hb,hown⟩)
    (fun k x h=>.inl h) (fun k x h=>by have:=g2.scell _ _ h; show k < w'.heap.size; omega)
  exact ⟨.ret (.tup []),s',rfl,hgo.1,hgo.2, .tup _ _ rfl (fun j h1=>by simp at h1),rfl,rfl⟩
end
open Go.Proofs
def ltS (a b:ByteArray):Prop:=a.data.toList < b.data.toList
theorem hZ (a:ByteArray):¬ ltS a a:=List.lt_irrefl _
theorem fN {a b c:ByteArray} (h:ltS a b) (k:ltS b c):ltS a c:=List.lt_trans h k
theorem data_inj {a b:ByteArray} (h:a.data.toList = b.data.toList):a = b:=by
  obtain ⟨a⟩:=a
  obtain ⟨b⟩:=b
  have:a = b:=Array.toList_inj.1 h
  rw [this]
theorem oX (a b:ByteArray):ltS a b ∨ a = b ∨ ltS b a:=by
  by_cases h1:a.data.toList < b.data.toList
  · exact .inl h1
  · by_cases h2:b.data.toList < a.data.toList
    · exact .inr (.inr h2)
    · exact .inr (.inl (data_inj (List.le_antisymm (List.not_lt.1 h2) (List.not_lt.1 h1))))
def Asc (l:List ByteArray):Prop:=l.Pairwise ltS
theorem nB:∀ {l m:List ByteArray},Asc l → Asc m → (∀ x,x ∈ l ↔ x ∈ m) → l = m
  | [],[],_,_,_=>rfl
  | [],b :: m,_,_,h=>absurd ((h b).2 (by simp)) (by simp)
  | a :: l,[],_,_,h=>absurd ((h a).1 (by simp)) (by simp)
  | a :: l,b :: m,hl,hm,h=>by
    have h1:=List.pairwise_cons.1 hl
    have h2:=List.pairwise_cons.1 hm
    have hab:a = b:=by
      rcases List.mem_cons.1 ((h a).1 (by simp)) with h3 | h3
      · exact h3
      rcases List.mem_cons.1 ((h b).2 (by simp)) with h4 | h4
      · exact h4.symm
      exact absurd (fN (h1.1 b h4) (h2.1 a h3)) (hZ a)
    subst hab
    rw [nB h1.2 h2.2 fun x=>?_]
    constructor
    · intro hx
      rcases List.mem_cons.1 ((h x).1 (by simp [hx])) with h5 | h5
      · subst h5; exact absurd (h1.1 x hx) (hZ x)
      · exact h5
    · intro hx
      rcases List.mem_cons.1 ((h x).2 (by simp [hx])) with h5 | h5
      · subst h5; exact absurd (h2.1 x hx) (hZ x)
      · exact h5
def kx:List ByteArray → List ByteArray
  | []=>[]
  | [a]=>[a]
  | a :: b :: r=>if a = b then kx (b :: r) else a :: kx (b :: r)
theorem mB:∀ (l:List ByteArray) (x:ByteArray),x ∈ kx l ↔ x ∈ l
  | [],x=>by simp [kx]
  | [a],x=>by simp [kx]
  | a :: b :: r,x=>by
    simp only [kx]
    split
    · rename_i h; subst h; rw [mB (a :: r)]; simp
    · rw [List.mem_cons,mB (b :: r),List.mem_cons (a:=x) (b:=a)]
def leS (a b:ByteArray):Prop:=a.data.toList ≤ b.data.toList
theorem pO:∀ {l:List ByteArray},l.Pairwise leS → Asc (kx l)
  | [],_=>List.Pairwise.nil
  | [a],_=>List.pairwise_singleton _ _
  | a :: b :: r,h=>by
    have h1:=List.pairwise_cons.1 h
    simp only [kx]
    split
    · exact pO h1.2
    · rename_i hne
      refine List.pairwise_cons.2 ⟨fun x hx=>?_,pO h1.2⟩
      have hx':=(mB _ _).1 hx
      have hab:=h1.1 b (by simp)
      have h2:=List.pairwise_cons.1 h1.2
      have hlt:ltS a b:=by
        rcases oX a b with h3 | h3 | h3
        · exact h3
        · exact absurd h3 hne
        · exact absurd h3 (List.not_lt.2 hab)
      rcases List.mem_cons.1 hx' with rfl | h3
      · exact hlt
      · have hbx:leS b x:=h2.1 x h3
        rcases oX a x with h4 | h4 | h4
        · exact h4
        · subst h4; exact absurd hlt (List.not_lt.2 hbx)
        · exact absurd (fN h4 hlt) (List.not_lt.2 hbx)
theorem om (x:ByteArray):bytes x.data.toList = x:=data_inj (by simp [bytes])
theorem n7 (l:List UInt8):(bytes l).data.toList = l:=by simp [bytes]
theorem vl (l:List ByteArray) (x:ByteArray):x ∈ fJ l ↔ x ∈ l:=by
  unfold fJ lE
  simp only [List.mem_map,(List.mergeSort_perm _ _).mem_iff]
  constructor
  · rintro ⟨y,⟨z,h1,rfl⟩,rfl⟩; rw [om]; exact h1
  · intro h; exact ⟨_,⟨x,h,rfl⟩,om x⟩
theorem xe (l:List ByteArray):(fJ l).Pairwise leS:=by
  unfold fJ lE
  rw [List.pairwise_map]
  have:=List.pairwise_mergeSort (le:=fun x y:List UInt8=>decide (x ≤ y)) (fun a b c h1 h2=>by
    simp only [decide_eq_true_eq] at *; exact List.le_trans h1 h2) (fun a b=>by
    simp only [Bool.or_eq_true,decide_eq_true_eq]; exact List.le_total a b) (l.map fun x=>x.data.toList)
  refine this.imp fun {a b} h=>?_
  unfold leS
  rw [n7,n7]
  simpa using h
def jx (l:List ByteArray):List ByteArray:=kx (fJ l)
theorem tU (l:List ByteArray) (x:ByteArray):x ∈ jx l ↔ x ∈ l:=by unfold jx; rw [mB,vl]
theorem tc (l:List ByteArray):Asc (jx l):=pO (xe l)
theorem xM:∀ (l:List ByteArray),(kx l).length ≤ l.length
  | []=>by simp [kx]
  | [a]=>by simp [kx]
  | a :: b :: r=>by
    have:=xM (b :: r)
    simp only [kx]
    split <;> simp only [List.length_cons] at * <;> omega
theorem gS (l:List ByteArray):(jx l).length ≤ l.length:=by
  have:=xM (fJ l)
  rw [gQ] at this
  exact this
theorem qt {l:List ByteArray} {m:List ByteArray} (ha:Asc m) (h:∀ x,x ∈ m ↔ x ∈ l):m = jx l:=
  nB ha (tc l) fun x=>by rw [h,tU]
def wT (n:ByteArray) (l:List ByteArray):Bool:=l.any fun y=>decide (n = y)
theorem lP {n:ByteArray} {l:List ByteArray}:wT n l = true ↔ n ∈ l:=by
  unfold wT
  rw [List.any_eq_true]
  exact ⟨fun ⟨y,h1,h2⟩=>by rw [of_decide_eq_true h2]; exact h1,fun h=>⟨n,h,by simp⟩⟩
def iG (name:ByteArray):List HuM → List ByteArray → List ByteArray
  | [],acc=>acc
  | x :: r,acc=>iG name r (if bF x name || x.on.any (fun n=>wT n acc) then acc ++ [x.name] else acc)
theorem og (name:ByteArray):∀ (l:List HuM) (acc:List ByteArray) (y:ByteArray),y ∈ acc → y ∈ iG name l acc
  | [],_,_,h=>h
  | x :: r,acc,y,h=>og name r _ y (by split <;> simp [h])
theorem jE (name:ByteArray):∀ (l:List HuM) (acc:List ByteArray) (y:ByteArray),y ∈ iG name l acc → y ∈ acc ∨ ∃ x ∈ l,x.name = y
  | [],_,_,h=>.inl h
  | x :: r,acc,y,h=>by
    rcases jE name r _ y h with h1 | ⟨z,h1,h2⟩
    · split at h1
      · rcases List.mem_append.1 h1 with h2 | h2
        · exact .inl h2
        · simp at h2; exact .inr ⟨x,by simp,h2.symm⟩
      · exact .inl h1
    · exact .inr ⟨z,by simp [h1],h2⟩
theorem nV (name:ByteArray):∀ (p q:List HuM) (acc:List ByteArray),iG name (p ++ q) acc = iG name q (iG name p acc)
  | [],_,_=>rfl
  | x :: p,q,acc=>by simp only [List.cons_append,iG]; exact nV name p q _
def abS (name:ByteArray) (ns:List HuM):List ByteArray:=iG name ns []
def abv (name:ByteArray) (ns:List HuM) (x:HuM):Bool:=wT x.name (abS name ns)
theorem Fg {name:ByteArray} {p q:List HuM} {x:HuM} (h:OkS (p ++ x :: q)):x.name ∈ abS name (p ++ x :: q) ↔ (name ∈ x.on ∨ ∃ n ∈ x.on,n ∈ abS name (p ++ x :: q)):=by
  have hnd:=h.names
  have hp:∀ y ∈ p,y.name ≠ x.name:=fun y hy=>rR hnd hy (by simp)
  have hq:∀ y ∈ q,y.name ≠ x.name:=fun y hy e=>by
    rw [List.map_append,List.nodup_append,List.map_cons,List.nodup_cons] at hnd
    exact hnd.2.1.1 (e ▸ List.mem_map_of_mem hy)
  have hon:∀ n ∈ x.on,(n ∈ abS name (p ++ x :: q) ↔ n ∈ iG name p []):=fun n hn=>by
    obtain ⟨y,hy,e,_⟩:=h.on p x q rfl n hn
    unfold abS
    rw [nV]
    simp only [iG]
    constructor
    · intro hm
      rcases jE _ _ _ _ hm with h1 | ⟨z,h1,h2⟩
      · split at h1
        · rcases List.mem_append.1 h1 with h2 | h2
          · exact h2
          · simp at h2; exact absurd (e.trans h2) (hp y hy)
        · exact h1
      · exact absurd (e.trans h2.symm) (rR hnd hy (by simp [h1]))
    · intro hm
      refine og _ _ _ _ ?_
      split <;> simp [hm]
  have key:x.name ∈ abS name (p ++ x :: q) ↔ (bF x name || x.on.any (fun n=>wT n (iG name p []))) = true:=by
    unfold abS
    rw [nV]
    simp only [iG]
    constructor
    · intro hm
      rcases jE _ _ _ _ hm with h1 | ⟨z,h1,h2⟩
      · split at h1
        · rename_i hc; exact hc
        · rcases jE _ _ _ _ h1 with h2 | ⟨z,h2,h3⟩
          · simp at h2
          · exact absurd h3 (hp z h2)
      · exact absurd h2 (hq z h1)
    · intro hc
      rw [if_pos hc]
      exact og _ _ _ _ (by simp)
  rw [key,Bool.or_eq_true,ea,List.any_eq_true]
  simp only [lP]
  constructor
  · rintro (h1 | ⟨n,h1,h2⟩)
    · exact .inl h1
    · exact .inr ⟨n,h1,(hon n h1).2 h2⟩
  · rintro (h1 | ⟨n,h1,h2⟩)
    · exact .inl h1
    · exact .inr ⟨n,h1,(hon n h1).1 h2⟩
theorem jY {ns:List HuM} (h:OkS ns) {i:Nat} (hi:i < ns.length) {n:ByteArray} (hn:n ∈ (ns[i]).on):∃ j, ∃ hj:j < i,findF ns n = (j:Nat) ∧ (ns[j]'(by omega)).name = n ∧ atF ns n = ns[j]'(by omega):=by
  obtain ⟨y,hy,e,_⟩:=h.on (ns.take i) ns[i] (ns.drop (i + 1)) (by rw [← List.drop_eq_getElem_cons hi,List.take_append_drop]) n hn
  have hyn:y ∈ ns:=List.mem_of_mem_take hy
  obtain ⟨j,hj,ej,hjn,hat⟩:=bC (l:=ns) (n:=n) (by have:=(dw ns n).2 ⟨y,hyn,e⟩; omega)
  have hyj:ns[j] = y:=uniq h.names (List.getElem_mem _) hyn (hjn.trans e.symm)
  obtain ⟨k,hk,hky⟩:=List.mem_take_iff_getElem.1 hy
  have hkj:k = j:=by
    have hnd:=h.names
    rw [List.Nodup,List.pairwise_iff_getElem] at hnd
    rcases Nat.lt_trichotomy k j with h1 | h1 | h1
    · exact (hnd k j (by simp; omega) (by simpa using hj) h1 (by rw [List.getElem_map,List.getElem_map,hky,hyj])).elim
    · exact h1
    · exact (hnd j k (by simpa using hj) (by simp; omega) h1 (by rw [List.getElem_map,List.getElem_map,hky,hyj])).elim
  exact ⟨j,by omega,ej,hjn,hat⟩
theorem rE {ns:List HuM} (h:OkS ns) {i:Nat} (hi:i < ns.length) (name:ByteArray):abv name ns ns[i] = (bF ns[i] name || (ns[i]).on.any fun n=>abv name ns (atF ns n)):=by
  have hs:=yH hi
  have h0:OkS (ns.take i ++ ns[i] :: ns.drop (i + 1)):=hs ▸ h
  have:=Fg (name:=name) h0
  rw [← hs] at this
  rw [Bool.eq_iff_iff]
  unfold abv
  rw [lP,this,Bool.or_eq_true,ea,List.any_eq_true]
  have e:∀ n ∈ (ns[i]).on,(atF ns n).name = n:=fun n hn=>by
    obtain ⟨j,hj,_,h1,h2⟩:=jY h hi hn
    rw [h2]; exact h1
  constructor
  · rintro (h1 | ⟨n,h1,h2⟩)
    · exact .inl h1
    · exact .inr ⟨n,h1,by rw [e n h1]; exact lP.2 h2⟩
  · rintro (h1 | ⟨n,h1,h2⟩)
    · exact .inl h1
    · exact .inr ⟨n,h1,by rw [e n h1] at h2; exact lP.1 h2⟩
set_option maxRecDepth 100000
set_option maxHeartbeats 1000000
abbrev oC (l:List ByteArray):aQ:=.arr 1 (l.map .str)
theorem nmd (a b:ByteArray):(a.toList == b.toList) = decide (a = b):=by
  rw [Bool.eq_iff_iff,cm,decide_eq_true_eq]
theorem uV (ds:List ByteArray) (k:Nat) (x:ByteArray) (h:k < ds.length):(ds.set k x).take (k + 1) = ds.take k ++ [x]:=by
  rw [List.take_add_one,List.take_set_of_le (Nat.le_refl k)]
  simp [h]
theorem zg {a b:ByteArray} (h:leS a b) (hne:a ≠ b):ltS a b:=by
  rcases oX a b with h1 | h1 | h1
  · exact h1
  · exact absurd h1 hne
  · exact absurd h1 (List.not_lt.2 h)
theorem Bn {a b c:ByteArray} (h:leS a b) (k:ltS b c):ltS a c:=by
  by_cases e:a = b
  · rw [e]; exact k
  · exact fN (zg h e) k
def KO (l c:List ByteArray):Prop:=Asc c ∧ ∀ x,x ∈ c ↔ x ∈ l
theorem uI (b:Nat) (l:List ByteArray) (hn:l.length ≤ 100) (hs:l.Pairwise leS) (σ:ag) (hb:b < σ.length) (hx:σ[b]? = some (oC l)) :
    Spec Tryz.prog Dp [.sref 1 b 0 l.length l.length] σ fun r σ'=>∃ c z,KO l c ∧ c.length ≤ l.length ∧ (c ++ z).length = l.length ∧ r = .ret (.sref 1 b 0 c.length l.length) ∧ σ' = σ.set b (oC (c ++ z)):=by
  have hset:σ.set b (oC l) = σ:=by
    obtain ⟨h1,h2⟩:=List.getElem?_eq_some_iff.1 hx
    rw [← h2]; simp
  have hle:∀ i j (h1:i < j) (h2:j < l.length),leS l[i] l[j]:=fun i j h1 h2=>List.pairwise_iff_getElem.1 hs i j (by omega) h2 h1
  refine I0 (by simp) (aa _ ?_)
  refine (Nat.lt_or_ge l.length 2).elim (fun h2=>?_) (fun h2=>?_)
  · have h2':(l.length:Int) < 2:=by omega
    simp [C3,h2']
    refine ⟨l, ?_,by omega,[],by simp,rfl,by simpa using hset.symm⟩
    refine ⟨?_,fun x=>Iff.rfl⟩
    match l,h2 with
    | [],_=>exact List.Pairwise.nil
    | [a],_=>exact List.pairwise_singleton _ _
  have h2':¬ (l.length:Int) < 2:=by omega
  simp [C3,h2']
  refine AW.loop (ι:=Nat) (fun k fr σ1=>fr = { v:=[(0, .sref 1 b 0 l.length l.length),(3, .int .i64 k)],ds:=[] } ∧ σ1 = σ ∧ 1 ≤ k ∧ k ≤ l.length ∧ (l.take k).Pairwise ltS) (fun k=>l.length - k) 1 ⟨by simp,rfl,by omega,by omega, ?_⟩ ?_
  · cases l with
    | nil=>simp
    | cons a r=>simp
  rintro k fr σ1 ⟨rfl,rfl,hk1,hk,hlt⟩
  refine (Nat.lt_or_ge k l.length).elim (fun hkl=>?_) (fun hge=>?_)
  rotate_left
  · have hnl:¬ k < l.length:=by omega
    refine aa _ ?_
    simp [hnl]
    exact ⟨l,⟨by rwa [List.take_of_length_le hge] at hlt,fun x=>Iff.rfl⟩,by omega,[],by simp,rfl,by simpa using hset.symm⟩
  obtain ⟨m,rfl⟩:∃ m,k = m + 1:=⟨k - 1,by omega⟩
  obtain ⟨x,hxk⟩:∃ x,l[m + 1]'hkl = x:=⟨_,rfl⟩
  obtain ⟨y,hyk⟩:∃ y,l[m]'(by omega) = y:=⟨_,rfl⟩
  have hw:IntKind.i64.wrap (m:Int) = m:=aj (by omega) (by omega)
  have q1:0 ≤ (m:Int) + 1:=by omega
  have q2:(m:Int) + 1 < l.length:=by omega
  have q3:(m:Int) < l.length:=by omega
  have q4:m < l.length:=by omega
  have hgb:σ1[b]'hb = .arr 1 (l.map .str):=(List.getElem?_eq_some_iff.1 hx).2
  refine aa _ ?_
  simp [hb,hgb,hxk,hyk,hw,hkl,q1,q2,q3,q4,nmd]
  refine ⟨fun hxy=>⟨by omega, ?_⟩,fun hxy=>⟨m + 2,by omega,aj (by omega) (by omega),by omega,by omega, ?_⟩⟩
  rotate_left
  · rw [List.take_add_one]
    refine List.pairwise_append.2 ⟨hlt,by simp,fun u hu v hv=>?_⟩
    have hv':v = x:=by simpa [hkl,hxk,eq_comm] using hv
    subst hv'
    obtain ⟨i,hi,rfl⟩:=List.mem_iff_getElem.1 hu
    have hi':i < m + 1:=by simp at hi; omega
    rw [List.getElem_take]
    have h1:ltS y v:=zg (by rw [← hxk, ← hyk]; exact hle m (m + 1) (by omega) hkl) (fun e=>hxy e.symm)
    by_cases him:i = m
    · subst him; rw [hyk]; exact h1
    · have:=hle i m (by omega) (by omega)
      rw [hyk] at this; exact Bn this h1
  obtain ⟨n2,hn2⟩:∃ n2,l.length - (m + 1) = n2:=⟨_,rfl⟩
  have hn2':((l.length:Int) - ((m:Int) + 1)).toNat = n2:=by omega
  rw [hn2']
  refine AW.loop (ι:=Nat) (fun p fr σ2=>∃ (kk:Nat) (D:List ByteArray),fr = { v:=[(0, .sref 1 b 0 l.length l.length),(3, .int .i64 kk),(4, .sref 1 b (m + 1) n2 l.length),(5, .int .i64 (p + 1))],ds:=[] } ∧ σ2 = σ1.set b (oC D) ∧ p + 1 ≤ n2 ∧ D.length = l.length ∧ kk ≤ m + 1 + p ∧
    (∀ i,m + 1 + p ≤ i → D[i]? = l[i]?) ∧ (D.take kk).Pairwise ltS ∧ ∀ u,u ∈ D.take kk ↔ u ∈ l.take (m + 1 + (p + 1))) (fun p=>n2 - p) 0 ⟨m + 1,l,by simp,hset.symm,by omega,rfl,by omega,fun i _=>rfl,hlt,fun u=>?_⟩ ?_
  · rw [show m + 1 + (0 + 1) = (m + 1) + 1 from rfl,List.take_add_one (i:=m + 1),List.mem_append]
    have:u ∈ (l[m + 1]?).toList ↔ u = x:=by rw [List.getElem?_eq_getElem hkl,hxk]; simp
    rw [this]
    refine ⟨.inl,fun h=>h.elim id fun h=>?_⟩
    rw [h,hxy,List.mem_iff_getElem]
    exact ⟨m,by simp; omega,by simpa using hyk⟩
  rintro p fr σ2 ⟨kk,D,rfl,rfl,hp,hD,hkk,hsame,hsort,hmem⟩
  refine (Nat.lt_or_ge (p + 1) n2).elim (fun hpl=>?_) (fun hpg=>?_)
  · obtain ⟨u,hu⟩:∃ u,l[m + 1 + (p + 1)]'(by omega) = u:=⟨_,rfl⟩
    obtain ⟨v,hv⟩:∃ v,l[m + 1 + p]'(by omega) = v:=⟨_,rfl⟩
    have hDu:D[m + 1 + (p + 1)]'(by omega) = u:=by
      have:=hsame (m + 1 + (p + 1)) (by omega)
      rw [List.getElem?_eq_getElem (by omega),List.getElem?_eq_getElem (by omega),hu] at this
      exact Option.some.inj this
    have hDv:D[m + 1 + p]'(by omega) = v:=by
      have:=hsame (m + 1 + p) (by omega)
      rw [List.getElem?_eq_getElem (by omega),List.getElem?_eq_getElem (by omega),hv] at this
      exact Option.some.inj this
    have r0:IntKind.i64.wrap (p:Int) = p:=aj (by omega) (by omega)
    have r1:0 ≤ (p:Int) + 1:=by omega
    have r2:(p:Int) + 1 < n2:=by omega
    have r3:(p:Int) < n2:=by omega
    have r4:m + 1 + p < l.length:=by omega
    have r5:m + 1 + (p + 1) < l.length:=by omega
    have r6:kk < l.length:=by omega
    have r7:(kk:Int) < l.length:=by omega
    have r8:IntKind.i64.wrap ((p:Int) + 1 + 1) = (p:Int) + 1 + 1:=aj (by omega) (by omega)
    have r9:IntKind.i64.wrap ((kk:Int) + 1) = (kk:Int) + 1:=aj (by omega) (by omega)
    have huv:leS v u:=by rw [← hu, ← hv]; exact hle _ _ (by omega) (by omega)
    refine aa _ ?_
    simp [hb,oC,hD,hDu,hDv,r0,r1,r2,r3,r4,r5,r6,r7,r8,r9,nmd]
    have hmax:∀ w ∈ l.take (m + 1 + (p + 1)),leS w v:=fun w hw'=>by
      obtain ⟨i,hi,rfl⟩:=List.mem_iff_getElem.1 hw'
      have hi':i < m + 1 + (p + 1):=by simp at hi; omega
      rw [List.getElem_take]
      by_cases him:i = m + 1 + p
      · subst him; rw [hv]; exact List.le_refl _
      · have:=hle i (m + 1 + p) (by omega) (by omega)
        rw [hv] at this; exact this
    have htk:∀ w,w ∈ l.take (m + 1 + (p + 1 + 1)) ↔ w ∈ l.take (m + 1 + (p + 1)) ∨ w = u:=fun w=>by
      rw [show m + 1 + (p + 1 + 1) = (m + 1 + (p + 1)) + 1 from rfl,List.take_add_one (i:=m + 1 + (p + 1)),List.mem_append]
      have:w ∈ (l[m + 1 + (p + 1)]?).toList ↔ w = u:=by rw [List.getElem?_eq_getElem (by omega),hu]; simp
      rw [this]
    refine ⟨fun hne=>⟨p + 1,by omega,kk + 1,⟨by simp,by simp⟩,D.set kk u,by rw [List.map_set],by omega,by simp [hD],by omega,fun i hi=>?_, ?_,fun w=>?_⟩,fun he=>⟨p + 1,by omega,kk,⟨rfl,by simp⟩,D,rfl,by omega,hD,by omega,fun i hi=>hsame i (by omega),hsort,fun w=>?_⟩⟩
    · rw [List.getElem?_set_ne (by omega)]; exact hsame i (by omega)
    · rw [uV D kk u (by omega)]
      refine List.pairwise_append.2 ⟨hsort,by simp,fun a ha c hc=>?_⟩
      have hc':c = u:=by simpa using hc
      subst hc'
      have:=hmax a ((hmem a).1 ha)
      exact Bn this (zg huv (fun e=>hne e.symm))
    · rw [uV D kk u (by omega),List.mem_append,hmem,htk]
      simp
    · rw [hmem,htk]
      refine ⟨.inl,fun h=>h.elim id fun h=>?_⟩
      rw [h,he,List.mem_iff_getElem]
      exact ⟨m + 1 + p,by simp; omega,by simpa using hv⟩
  · have hnl:¬ (p:Int) + 1 < n2:=by omega
    have hkl':(kk:Int) ≤ l.length:=by omega
    refine aa _ ?_
    simp [hb,oC,hD,hnl,hkl']
    refine ⟨D.take kk,⟨hsort,fun u=>?_⟩,by simp; omega,List.replicate (l.length - kk) ByteArray.empty ++ D.drop (kk + (l.length - kk)),by simp; omega,by simp; omega,by simp⟩
    rw [hmem,List.take_of_length_le (by omega)]
end Go.AM
