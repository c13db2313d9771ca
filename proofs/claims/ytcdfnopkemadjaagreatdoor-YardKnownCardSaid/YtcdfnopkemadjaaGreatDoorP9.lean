/- Maps whose keys are pairs of numbers: where a key stands; read, written. All instructions; a region in the order of its text; abstract code, and when it stands for the program's code. -/
import Derived.Test.YtcdfnopkemadjaaGreatDoorP8
namespace Go.AM
open Go.RowKit
section
variable {P:Program} {s:St} {A:World} {ρ:ay → aa} {ρ':Operand → Value} {K Kp:aa → ab → Prop}
theorem oB (hi:Inv A s) {t kt e:TypeId} (hu:P.underlying t = some (.map kt e)) {ok:Bool} (hk:df P kt = true) {z:aa} (hz:zeroV P e z = true)
  {xv kv:aa} {x c:Value} (hx:Rv s xv x) (hc:Rv s kv c) (h:jT ok z s.h xv kv K):ar P A s K Kp ((do pure (Next.value (← Instr.lookup t x c ok)):Sem Next).run P s.w):=by
 cases xv with
 | map b=>
  simp only [jT] at h
  cases hb:s.h.get b with
  | amap es=>
   rw [hb] at h;simp only at h;have hbs:=ab.get_some hb (by simp);obtain ⟨blk,ms,clock,hl,hB,hh,hsz,hr,hnS,hbn⟩:=hi.obj b _ hbs;obtain ⟨u,hrun,hu2⟩:=j6 (ok:=ok) hu hk hz hx hc hl hh hsz hr h.1 h.2.1;exact ar.value (aj _ _ _ _ hrun) rfl hi (.refl s) hu2 h.2.2
  | _=>rw [hb] at h; exact h.elim
 | _=>exact h.elim
theorem pF (hi:Inv A s) {t kt e:TypeId} (hu:P.underlying t = some (.map kt e)) (hk:df P kt = true)
  {xv kv vv:aa} {x c v:Value} (hx:Rv s xv x) (hc:Rv s kv c) (hv:Rv s vv v) (h:jJ s.h xv kv vv K):ar P A s K Kp ((do Instr.mapUpdate t x c v; pure Next.skip:Sem Next).run P s.w):=by
 cases xv with
 | map b=>
  simp only [jJ] at h
  cases hb:s.h.get b with
  | amap es=>
   rw [hb] at h;simp only at h;have hbs:=ab.get_some hb (by simp);obtain ⟨blk,ms,clock,hl,hB,hh,hsz,hr,hnS,hbn⟩:=hi.obj b _ hbs
   cases hx with
   | map _ blk' hl'=>
    have:blk' = blk:=by rw [hl] at hl'; simpa using hl'.symm
    subst this;have hblk:blk' < s.w.heap.size:=(Array.getElem?_eq_some_iff.1 hh).1;have hget:(getObj blk').run P s.w = .ok (.map ms clock) s.w:=by simp [getObj,Sem.run,hh]
    have hf:=h9 hk hc es ms.toList 0 (by simpa using hsz) (fun j g1 g2=>by have:=hr j g1 (by simpa using g2); simpa using this) h.2.1;have hown:bu s b (.amap es) blk':=hl
    have fin:∀ (ms':Array MapEntry) (clock':Nat) (es':List (aa × aa)),dy kv vv es = es' → ms'.size = es'.length →
      (∀ j (h1:j < es'.length) (h2:j < ms'.size),Rv s es'[j].1 ms'[j].key ∧ Rv s es'[j].2 ms'[j].val) → fF ms' clock' →
      (Instr.mapUpdate t (.map (some blk')) c v).run P s.w = .ok () (s.w.putObj blk' (.map ms' clock')) →
      ar P A s K Kp ((do Instr.mapUpdate t (.map (some blk')) c v; pure Next.skip:Sem Next).run P s.w):=by
     intro ms' clock' es' h1 h2 h3 hbn' hrun
     let s1:St:={ h:=s.h.set b (.amap es'),lam:=s.lam,S:=s.S,w:=s.w.putObj blk' (.map ms' clock') }
     have hk:aL s s1:=⟨fun _ _ _ h=>h,fun _ _ h=>h,fun g o hs=>World.cell?_of_block (a:=⟨g,o,none⟩) (World.putObj_heap_other (fun e=>hnS o (e ▸ hs)))⟩;have hgo:=hi.change (s':=s1) (List.getElem?_eq_some_iff.1 hbs).1 rfl hk (hi.below.trans ⟨rfl,rfl,rfl,by simp [s1],fun g hg=>World.putObj_heap_other (by omega)⟩) (by simp [s1]) (fun _ _ _=>rfl)
      (fun g _ hno=>World.putObj_heap_other (fun e=>hno (e ▸ ⟨_,hbs,hown⟩)))
      ⟨blk',ms',clock',hl,hB,World.putObj_heap_same hblk,h2,fun j g1 g2=>⟨(h3 j g1 g2).1.keeps hk,(h3 j g1 g2).2.keeps hk⟩,hnS,hbn'⟩
      (fun g ho=>by
       have e:s.lam b 0 = some (.map (some g)):=ho;rw [hl] at e;right;have:blk' = g:=by simpa using e
       rw [← this]; exact ⟨_,hbs,hown⟩)
      (fun _ _ h=>.inl h) (fun g x h=>by have:=hi.scell _ _ h; simp [s1]; omega)
     have hr1:((do Instr.mapUpdate t (.map (some blk')) c v; pure Next.skip:Sem Next).run P s.w) = .ok .skip s1.w:=by
      simp only [Sem.run_bind,hrun,Result.andThen_ok,Sem.run_pure]; rfl
     rw [hr1];refine ⟨.undef,s1,rfl,hgo.1,hgo.2, .undef _, ?_⟩;show K .undef (s.h.set b (.amap es'))
     rw [← h1]; exact h.2.2
    have hset:∀ o,(setObj blk' o).run P s.w = .ok () (s.w.putObj blk' o):=fun o=>by simp [setObj,Sem.run,hh,World.putObj]
    rcases hf with ⟨a,_,q,_⟩ | ⟨j,g1,g2,a,_,q1,q2,q,_⟩
    ·refine fin (ms.push { key:=c,val:=v,born:=clock }) (clock + 1) (es ++ [(kv,vv)]) (q vv) (by simp [hsz]) (fun j g1 g2=>?_) hbn.push ?_
     ·by_cases hj:j < es.length
      ·rw [List.getElem_append_left hj,Array.getElem_push_lt (by omega)];exact hr j hj (by omega)
      ·have hj':j = es.length:=by simp at g1; omega
       subst hj';simp only [List.getElem_append_right (Nat.le_refl _),Nat.sub_self,List.getElem_cons_zero];have:(ms.push { key:=c,val:=v,born:=clock })[es.length]'g2 = { key:=c,val:=v,born:=clock }:=by
        have:=Array.getElem_push_eq (xs:=ms) (x:=({ key:=c,val:=v,born:=clock }:MapEntry));simpa only [hsz] using this
       rw [this];exact ⟨hc,hv⟩
     ·unfold Instr.mapUpdate;simp only [Sem.run_bind,ah hu,Result.andThen_ok,hget,fk hk hc h.1,dX hk a,hset]
    ·have hms:j < ms.size:=by simpa using g2
     have hke:(Instr.keyThatStays ms[j].key c).run P s.w = .ok c s.w:=lq q2 hc (by have:=(hr j g1 hms).1; simpa using this) q1 s.w;refine fin (ms.modify j fun e=>{ e with key:=c,val:=v }) clock (es.set j (kv,vv)) (q vv) (by simp [hsz]) (fun i h1 h2=>?_) (hbn.modify _ fun _=>rfl) ?_
     ·simp only [List.length_set] at h1;by_cases e:j = i
      ·subst e;simp only [List.getElem_set_self,Array.getElem_modify,if_true];exact ⟨hc,hv⟩
      ·simp only [List.getElem_set_ne e,Array.getElem_modify,if_neg e];exact hr i h1 (by simpa using h2)
     ·unfold Instr.mapUpdate;simp only [Sem.run_bind,ah hu,Result.andThen_ok,hget,fk hk hc h.1,dX hk a,Nat.zero_add,Array.getElem?_eq_getElem hms,Option.map_some,Option.getD_some,hke,hset]
  | _=>rw [hb] at h; exact h.elim
 | _=>exact h.elim
theorem Inv.oi (hi:Inv A s) {b:Nat} {es es':List (aa × aa)} (hbs:s.h[b]? = some (.amap es)) {blk:Nat} {ms ms':Array MapEntry} {clock clock':Nat} (hl:s.lam b 0 = some (.map (some blk))) (hB:A.heap.size ≤ blk)
  (hh:s.w.heap[blk]? = some (.map ms clock)) (hnS:∀ o, ¬ s.S blk o) (h2:ms'.size = es'.length) (h3:∀ j (h1:j < es'.length) (h2:j < ms'.size),Rv s es'[j].1 ms'[j].key ∧ Rv s es'[j].2 ms'[j].val) (hbn':fF ms' clock') :
  ∃ s1,s1.h = s.h.set b (.amap es') ∧ s1.w = s.w.putObj blk (.map ms' clock') ∧ Inv A s1 ∧ aT s s1:=by
 have hblk:blk < s.w.heap.size:=(Array.getElem?_eq_some_iff.1 hh).1;have hown:bu s b (.amap es) blk:=hl
 let s1:St:={ h:=s.h.set b (.amap es'),lam:=s.lam,S:=s.S,w:=s.w.putObj blk (.map ms' clock') }
 have hk:aL s s1:=⟨fun _ _ _ h=>h,fun _ _ h=>h,fun g o hs=>World.cell?_of_block (a:=⟨g,o,none⟩) (World.putObj_heap_other (fun e=>hnS o (e ▸ hs)))⟩;have hgo:=hi.change (s':=s1) (List.getElem?_eq_some_iff.1 hbs).1 rfl hk (hi.below.trans ⟨rfl,rfl,rfl,by simp [s1],fun g hg=>World.putObj_heap_other (by omega)⟩) (by simp [s1]) (fun _ _ _=>rfl)
  (fun g _ hno=>World.putObj_heap_other (fun e=>hno (e ▸ ⟨_,hbs,hown⟩)))
  ⟨blk,ms',clock',hl,hB,World.putObj_heap_same hblk,h2,fun j g1 g2=>⟨(h3 j g1 g2).1.keeps hk,(h3 j g1 g2).2.keeps hk⟩,hnS,hbn'⟩
  (fun g ho=>by
   have e:s.lam b 0 = some (.map (some g)):=ho;rw [hl] at e;right;have:blk = g:=by simpa using e
   rw [← this]; exact ⟨_,hbs,hown⟩)
  (fun _ _ h=>.inl h) (fun g x h=>by have:=hi.scell _ _ h; simp [s1]; omega)
 exact ⟨s1,rfl,rfl,hgo.1,hgo.2⟩
theorem ri (hi:Inv A s) {t kt e:TypeId} (hu:P.underlying t = some (.map kt e)) (hk:df P kt = true) {z:aa} (hz:zeroV P e z = true)
  {xv kv:aa} {x c:Value} (hx:Rv s xv x) (hc:Rv s kv c) (h:mY z s.h xv kv K):ar P A s K Kp ((do pure (Next.value (← Instr.mapEntry t x c)):Sem Next).run P s.w):=by
 cases xv with
 | map b=>
  simp only [mY] at h
  cases hb:s.h.get b with
  | amap es=>
   rw [hb] at h;simp only at h;have hbs:=ab.get_some hb (by simp);obtain ⟨blk,ms,clock,hl,hB,hh,hsz,hr,hnS,hbn⟩:=hi.obj b _ hbs
   cases hx with
   | map _ blk' hl'=>
    have:blk' = blk:=by rw [hl] at hl'; simpa using hl'.symm
    subst this;have hget:(getObj blk').run P s.w = .ok (.map ms clock) s.w:=by simp [getObj,Sem.run,hh]
    obtain ⟨zv,hz1,hz2⟩:∃ zv,(zeroValue e).run P s.w = .ok zv s.w ∧ Rv s z zv:=by
     unfold zeroV at hz
     cases hi':P.info? e with
     | none=>simp [hi'] at hz
     | some i=>
      cases hzz:i.zero with
      | none=>simp [hi',hzz] at hz
      | some v=>simp only [hi',Option.bind_some,hzz] at hz; exact ⟨v,by simp [zeroValue,typeInfo,hi',hzz],b8 hz⟩
    have hset:∀ o,(setObj blk' o).run P s.w = .ok () (s.w.putObj blk' o):=fun o=>by simp [setObj,Sem.run,hh,World.putObj]
    have hf:=h9 hk hc es ms.toList 0 (by simpa using hsz) (fun j g1 g2=>by have:=hr j g1 (by simpa using g2); simpa using this) h.2.1;rcases hf with ⟨a,q0,q,qi⟩ | ⟨j,g1,g2,a,q0,q1,q2,q,qi⟩
    ·have hput:=hi.oi hbs hl hB hh hnS (ms':=ms.push { key:=c,val:=zv,born:=clock }) (clock':=clock + 1) (es':=es ++ [(kv,z)]) (by simp [hsz]) (fun j g1 g2=>by
      by_cases hj:j < es.length
      ·rw [List.getElem_append_left hj,Array.getElem_push_lt (by omega)];exact hr j hj (by omega)
      ·have hj':j = es.length:=by simp at g1; omega
       subst hj';simp only [List.getElem_append_right (Nat.le_refl _),Nat.sub_self,List.getElem_cons_zero];have:(ms.push { key:=c,val:=zv,born:=clock })[es.length]'g2 = { key:=c,val:=zv,born:=clock }:=by
        have:=Array.getElem_push_eq (xs:=ms) (x:=({ key:=c,val:=zv,born:=clock }:MapEntry));simpa only [hsz] using this
       rw [this]
       exact ⟨hc,hz2⟩) hbn.push
     obtain ⟨s1,f1,f2,i1,k1⟩:=hput;have hrun:(Instr.mapEntry t (.map (some blk')) c).run P s.w = .ok (.tuple #[zv, .int .i64 clock]) s1.w:=by
      unfold Instr.mapEntry;simp only [Sem.run_bind,ah hu,Result.andThen_ok,hget,fk hk hc h.1,dX hk a,hz1,hset,Sem.run_pure,f2];rfl
     refine ar.value (aj _ _ _ _ hrun) rfl i1 k1 (v:=.tup [cJ false z (bx kv es), .int .i64 (eb kv es 0)]) ?_ ?_
     ·rw [q0,qi,hbn.1,hsz];refine .tup _ _ rfl (fun j g1 g2=>?_)
      match j,g1 with
      | 0,_=>exact hz2.keeps k1.keeps
      | 1,_=>simp; exact .int _ _
     ·rw [f1];have:=h.2.2;rw [q0] at this ⊢;rw [q] at this;exact this
    ·have hms:j < ms.size:=by simpa using g2
     have hke:(Instr.keyThatStays ms[j].key c).run P s.w = .ok c s.w:=lq q2 hc (by have:=(hr j g1 hms).1; simpa using this) q1 s.w
     have hput:=hi.oi hbs hl hB hh hnS (ms':=ms.modify j fun e=>{ e with key:=c }) (clock':=clock) (es':=es.set j (kv,es[j].2)) (by simp [hsz]) (fun i h1 h2=>by
      simp only [List.length_set] at h1;by_cases e:j = i
      ·subst e;simp only [List.getElem_set_self,Array.getElem_modify,if_true];exact ⟨hc,(hr j g1 hms).2⟩
      ·simp only [List.getElem_set_ne e,Array.getElem_modify,if_neg e]
       exact hr i h1 (by simpa using h2)) (hbn.modify _ fun _=>rfl)
     obtain ⟨s1,f1,f2,i1,k1⟩:=hput;have hbj:=hbn.2 j hms;have hrun:(Instr.mapEntry t (.map (some blk')) c).run P s.w = .ok (.tuple #[ms[j].val, .int .i64 j]) s1.w:=by
      unfold Instr.mapEntry;simp only [Sem.run_bind,ah hu,Result.andThen_ok,hget,fk hk hc h.1,dX hk a,Nat.zero_add,Array.getElem?_eq_getElem hms,Option.map_some,Option.getD_some,hke,hset,Sem.run_pure,f2,hbj,Array.getElem_toList];rfl
     refine ar.value (aj _ _ _ _ hrun) rfl i1 k1 (v:=.tup [cJ false z (bx kv es), .int .i64 (eb kv es 0)]) ?_ ?_
     ·rw [q0,qi,Nat.zero_add];refine .tup _ _ rfl (fun i g3 g4=>?_)
      match i,g3 with
      | 0,_=>simpa [cJ] using (hr j g1 hms).2.keeps k1.keeps
      | 1,_=>exact .int _ _
     ·rw [f1];have:=h.2.2;rw [q0] at this ⊢;rw [q] at this;exact this
  | _=>rw [hb] at h; exact h.elim
 | _=>exact h.elim
theorem oa (hi:Inv A s) {t:TypeId}
  {xv sv vv:aa} {x c v:Value} (hx:Rv s xv x) (hc:Rv s sv c) (hv:Rv s vv v) (h:gX s.h xv sv vv K):ar P A s K Kp ((do Instr.entryStore t x c v; pure Next.skip:Sem Next).run P s.w):=by
 unfold gX at h
 split at h
 ·rename_i b n
  split at h
  ·rename_i es hb;have hbs:=ab.get_some hb (by simp);obtain ⟨blk,ms,clock,hl,hB,hh,hsz,hr,hnS,hbn⟩:=hi.obj b _ hbs;obtain ⟨h0,h1,h2⟩:=h;cases hc
   cases hx with
   | map _ blk' hl'=>
    have:blk' = blk:=by rw [hl] at hl'; simpa using hl'.symm
    subst this;have hget:(getObj blk').run P s.w = .ok (.map ms clock) s.w:=by simp [getObj,Sem.run,hh]
    have hset:∀ o,(setObj blk' o).run P s.w = .ok () (s.w.putObj blk' o):=fun o=>by simp [setObj,Sem.run,hh,World.putObj]
    obtain ⟨j,rfl⟩:∃ j:Nat,n = j:=⟨n.toNat,by omega⟩
    have hj:j < es.length:=by omega
    have hms:j < ms.size:=by omega
    have hfind:ms.findIdx? (fun e=>(e.born:Int) == (j:Int)) = some j:=by
     rw [Array.findIdx?_eq_some_iff_getElem];refine ⟨hms,by simp [hbn.2 j hms],fun i hi'=>?_⟩;have:=hbn.2 i (by omega);simp [this]; omega
    have hput:=hi.oi hbs hl hB hh hnS (ms':=ms.modify j fun e=>{ e with val:=v }) (clock':=clock) (es':=es.set j (es[j].1,vv)) (by simp [hsz]) (fun i h1 h2=>by
     simp only [List.length_set] at h1;by_cases e:j = i
     ·subst e;simp only [List.getElem_set_self,Array.getElem_modify,if_true];exact ⟨(hr j hj hms).1,hv⟩
     ·simp only [List.getElem_set_ne e,Array.getElem_modify,if_neg e]
      exact hr i h1 (by simpa using h2)) (hbn.modify _ fun _=>rfl)
    obtain ⟨s1,f1,f2,i1,k1⟩:=hput;have hrun:((do Instr.entryStore t (.map (some blk')) (.int .i64 (j:Int)) v; pure Next.skip:Sem Next).run P s.w) = .ok .skip s1.w:=by
     have e1:(Instr.entryStore t (.map (some blk')) (.int .i64 (j:Int)) v).run P s.w = .ok () s1.w:=by
      unfold Instr.entryStore;simp only [Sem.run_bind,Sem.run_pure,Result.andThen_ok,hget,asInt,asIntOf,hfind,hset,f2]
     simp only [Sem.run_bind,e1,Result.andThen_ok,Sem.run_pure]
    rw [hrun];refine ⟨.undef,s1,rfl,i1,k1, .undef _, ?_⟩;rw [f1];have e2:(es.getD ((j:Int)).toNat (.undef, .undef)).1 = es[j].1:=by simp [List.getD,hj]
    rw [e2] at h2;exact h2
  ·exact h.elim
 ·exact h.elim
end
open Go.RowKit
section
variable {P:Program} {s:St} {A:World} {ρ:ay → aa} {ρ':Operand → Value} {K Kp:aa → ab → Prop}
theorem Rv.down {v:aa} {c:Value} (h:Rv s v c):Rv s v.down c:=by
 cases v with
 | nils sz=>cases h; exact .slice0 _ _ _
 | oslice sz xs b k=>cases h with | oslice _ _ _ _ _ hs _=>exact hs
 | _=>exact h
theorem Rv.gR {v:aa} {c:Value} (h:Rv s v c):Rv s v.gR c:=by
 cases v with
 | agg cs=>
  obtain ⟨vs,rfl,h1,h2⟩:=h.dw;refine .agg _ _ (by simpa using h1) (fun j g1 g2=>?_);have:=(h2 j (by simpa using g1) g2).down;simpa using this
 | _=>exact h.down
theorem dA.aU:∀ {dn:List Bool} {l:List aa} {m:List Value},l.length = m.length → (∀ j (h1:j < l.length) (h2:j < m.length),Rv s l[j] m[j]) →
  (aU dn l).length = m.length ∧ ∀ j (h1:j < (aU dn l).length) (h2:j < m.length),Rv s (aU dn l)[j] m[j]
 | [],[],[],_,_=>⟨rfl,fun j h1 _=>by simp [Go.AM.aU] at h1⟩
 | _ :: _,[],[],_,_=>⟨by cases ‹Bool› <;> rfl,fun j h1 _=>by cases ‹Bool› <;> simp [Go.AM.aU] at h1⟩
 | [],v :: l,c :: m,hl,h=>⟨by simpa [Go.AM.aU] using hl,fun j h1 h2=>by simpa [Go.AM.aU] using h j (by simpa [Go.AM.aU] using h1) h2⟩
 | b :: dn,v :: l,c :: m,hl,h=>by
  obtain ⟨e1,e2⟩:=dA.aU (dn:=dn) (l:=l) (m:=m) (by simpa using hl) (fun j g1 g2=>by have:=h (j + 1) (by simpa using g1) (by simpa using g2); simpa using this);have h0:=h 0 (by simp) (by simp);simp only [List.getElem_cons_zero] at h0;cases b
  ·refine ⟨by simp [Go.AM.aU,e1],fun j g1 g2=>?_⟩
   cases j with
   | zero=>simpa [Go.AM.aU] using h0
   | succ j=>simpa [Go.AM.aU] using e2 j (by simpa [Go.AM.aU] using g1) (by simpa using g2)
  ·refine ⟨by simp [Go.AM.aU,e1],fun j g1 g2=>?_⟩
   cases j with
   | zero=>simpa [Go.AM.aU] using h0.gR
   | succ j=>simpa [Go.AM.aU] using e2 j (by simpa [Go.AM.aU] using g1) (by simpa using g2)
 | _,[],_ :: _,hl,_=>by simp at hl
 | _,_ :: _,[],hl,_=>by simp at hl
theorem rX (hcn : ∀ c,ρ' (.const c) = c) (hgl : ∀ g,ρ' (.global g) = .pointer (some ⟨g,0,none⟩)) (hi : Inv A s) {i : AI} {o : Oper} (hc : aK P i o.op = true) (ha : dP s ρ ρ') (h : bS P i ρ s.h K Kp) : ar P A s K Kp ((execOp ρ' o).run P s.w) := by
 have plain:(∀ m sz n ps,i ≠ .lit m sz n ps) → (i.plain = true ∧ i.side ρ s.h ∧ K (i.val ρ s.h) s.h) → ar P A s K Kp ((execOp ρ' o).run P s.w):=by
  rintro hne ⟨h1,h2,h3⟩;obtain ⟨c,e1,e2⟩:=AI.nt hi hc h1 hne ha h2;exact ar.value e1 rfl hi (.refl s) e2 h3
 obtain ⟨dst,op,type,pos,after,guard⟩:=o;simp only at hc
 cases i with
 | alloc z=>
  cases op <;> simp only [aK] at hc <;> first | (cases hc; done) | skip
  exact pQ hi hc h
 | box n x=>
  cases op <;> simp only [aK] at hc <;> first | (cases hc; done) | skip
  simp only [Bool.and_eq_true,beq_iff_eq] at hc;exact wM hi (ha _ _ hc.2) h.1 h.2
 | loadd k x=>
  cases op <;> simp only [aK] at hc <;> first | (cases hc; done) | skip
  simp only [Bool.and_eq_true] at hc;obtain ⟨c,e1,e2⟩:=iz hi hc.1 (ha _ _ hc.2) h.1;exact ar.value (aj _ _ _ _ e1) rfl hi (.refl s) e2.gR h.2
 | mvd x=>
  cases op <;> simp only [aK] at hc <;> first | (cases hc; done) | exact ar.value rfl rfl hi (.refl s) (ha _ _ hc).gR h
 | pbox n x=>
  cases op <;> simp only [aK] at hc <;> first | (cases hc; done) | skip
  simp only [Bool.and_eq_true,beq_iff_eq] at hc;exact rE hi (ha _ _ hc.2) h.1 h.2
 | nilS m sz=>
  cases op with
  | move y=>
   have hy:ρ' y = .slice none 0 0:=by
    simp only [aK] at hc
    split at hc
    ·rename_i e; cases e; exact hcn _
    ·rename_i e; cases e
    ·cases hc
   simp only [execOp,hy];exact kP hi h
  | assign y=>
   have hy:ρ' y = .slice none 0 0:=by
    simp only [aK] at hc
    split at hc
    ·rename_i e; cases e
    ·rename_i e; cases e; exact hcn _
    ·cases hc
   simp only [execOp,hy];exact kP hi h
  | _=>simp only [aK] at hc; cases hc
 | buildm z ps=>
  cases op <;> simp only [aK] at hc <;> first | (cases hc; done) | skip
  simp only [Bool.and_eq_true] at hc;exact nH hi ha hc.1.1 hc.1.2 hc.2 h.1 h.2
 | storem sz x=>
  cases op with
  | store t y u=>
   simp only [aK] at hc
   split at hc
   ·rename_i e;cases e;simp only [Bool.and_eq_true,beq_iff_eq] at hc;have:=n3 (P:=P) (Kp:=Kp) hi hc.1.1 hc.1.2 (ha _ _ hc.2) h;simpa [execOp,hcn] using this
   ·cases hc
  | _=>simp only [aK] at hc; cases hc
 | lit m sz n ps=>
  cases op with
  | buildSlice t n' parts=>
   have hn:n' = n:=by
    simp only [aK] at hc
    cases hu:P.underlying t with
    | none=>simp [hu] at hc
    | some d=>
     cases d <;> simp [hu] at hc;exact hc.1.1.1.1.2.symm
   subst hn;exact vu hi ha hc h.1 h.2
  | _=>simp only [aK] at hc; cases hc
 | store sz x v=>
  cases op <;> simp only [aK] at hc <;> first | (cases hc; done) | skip
  simp only [Bool.and_eq_true,beq_iff_eq] at hc;obtain ⟨⟨⟨h1,h2⟩,h3⟩,h4⟩:=hc;exact fB hi h1 h2 (ha _ _ h3) (ha _ _ h4) h.1 h.2
 | call f dn l=>
  cases op <;> simp only [aK] at hc <;> first | (cases hc; done) | skip
  rename_i c;obtain ⟨cal,args,tys⟩:=c;simp only at hc
  split at hc
  ·simp only [Bool.and_eq_true] at hc;obtain ⟨l1,r1⟩:=dC ha hc.2;obtain ⟨d1,d2⟩:=dA.aU (s:=s) (dn:=dn) l1 r1;have hlist:(args.map ρ').toList = args.toList.map ρ':=by simp
   obtain ⟨d,e1,e2⟩:=h A s _ (args.map ρ') rfl hi (ha _ _ hc.1) ⟨by rw [d1]; simp,fun j g1 g2=>by have:=d2 j g1 (by simpa using g2); simpa using this⟩;simp only [execOp,resolve];rw [e1];rcases e2 with ⟨g,az,e3,e4⟩ | ⟨lo,g,tmps,asg,body,e3,e4⟩
   ·rw [show ((Sem.pure d:Sem Deferred) >>= fun d=>invoke d.target d.args) = invoke d.target d.args from rfl,e3]; exact e4
   ·rw [show ((Sem.pure d:Sem Deferred) >>= fun d=>invoke d.target d.args) = invoke d.target d.args from rfl,e3]; exact e4
  ·cases hc
 | panic x=>
  cases op <;> simp only [aK] at hc <;> first | (cases hc; done) | skip
  have hr:=ha _ _ hc;simp only [bS] at h;simp only [execOp];generalize ρ x = v at *;rename_i y;generalize ρ' y = d at *;cases hr <;> first | (exact h.elim) | skip
  rename_i t v u hvu;have:(do pure (Next.value (← Instr.panic (.iface t u))):Sem Next).run P s.w = .halt (.panic (.iface t u)) s.w:=by simp [Instr.panic]
  rw [this];exact ⟨.iface t v,s,rfl,hi, .refl s, .iface t v u hvu,h⟩
 | append sz bytes x y=>
  cases op <;> simp only [aK] at hc <;> first | (cases hc; done) | skip
  rename_i c;obtain ⟨cal,args,tys⟩:=c;simp only at hc
  split at hc
  ·split at hc
   ·rename_i x' y' t tx hy ht;have hargs:args = #[x',y']:=by apply Array.ext'; simpa using hy
    have htys:tys = #[t,tx]:=by apply Array.ext'; simpa using ht
    subst hargs; subst htys
    split at hc
    ·rename_i e e' hu1 hu2
     cases hinf:P.info? e with
     | none=>rw [hinf] at hc; simp at hc
     | some i=>
      rw [hinf] at hc;simp only at hc
      cases hzv:i.zero with
      | none=>rw [hzv] at hc; simp at hc
      | some z=>
       rw [hzv] at hc;simp only [Bool.and_eq_true,beq_iff_eq,decide_eq_true_eq] at hc;obtain ⟨⟨⟨⟨c1,c2⟩,⟨⟨⟨c3,c4⟩,c5⟩,c6⟩⟩,c7⟩,c8⟩:=hc;simp only [execOp,resolve,invoke,builtin];have:=nQ (ty:=type) (Kp:=Kp) hi hu1 hu2 hinf hzv c5 c3 c4 c2 c6 (ha _ _ c7) (ha _ _ c8) h.1 h.2.1 h.2.2;simpa using this
    ·cases hc
   ·cases hc
  ·cases hc
 | sub m sz x lo hi_ mx=>
  cases op <;> simp only [aK] at hc <;> first | (cases hc; done) | skip
  rename_i t x' lo' hi' mx'
  cases hu:P.underlying t with
  | none=>rw [hu] at hc; simp at hc
  | some d=>
   cases d with
   | slice e=>
    rw [hu] at hc;simp only [Bool.and_eq_true,beq_iff_eq,decide_eq_true_eq] at hc;obtain ⟨⟨⟨⟨⟨⟨⟨c1,c2⟩,c3⟩,c4⟩,c5⟩,c6⟩,c7⟩,c8⟩:=hc;have:=vx (Kp:=Kp) hi ha hu c1 c3 (ha _ _ c4) c5 c6 c7 h.1 h.2.1 h.2.2.1 (fun e=>by rw [e] at c8; simpa using c8) h.2.2.2;simpa [execOp,Instr.sliceAt,ah hu] using this
   | _=>rw [hu] at hc; simp at hc
 | range x=>
  cases op <;> simp only [aK] at hc <;> first | (cases hc; done) | skip
  rename_i t y;simp only [Bool.and_eq_true] at hc
  cases hu:P.underlying t with
  | none=>rw [hu] at hc; simp at hc
  | some d=>
   cases d with
   | string=>exact pt hi hu (ha _ _ hc.2) h
   | _=>rw [hu] at hc; simp at hc
 | next x=>
  cases op <;> simp only [aK] at hc <;> first | (cases hc; done) | skip
  rename_i y b;cases b
  ·simp at hc
  ·exact r7 hi (ha _ _ hc) h
 | freeze sz x=>
  cases op with
  | move y=>
   simp only [aK] at hc;simp only [execOp];exact jz hi (ha _ _ hc) h
  | assign y=>
   simp only [aK] at hc;simp only [execOp];exact jz hi (ha _ _ hc) h
  | _=>simp only [aK] at hc; cases hc
 | mksl m sz bytes z n c=>
  cases op <;> simp only [aK] at hc <;> first | (cases hc; done) | skip
  rename_i t n' c'
  cases hu:P.underlying t with
  | none=>rw [hu] at hc; simp at hc
  | some d=>
   cases d with
   | slice e=>
    rw [hu] at hc;simp only at hc
    cases hinf:P.info? e with
    | none=>rw [hinf] at hc; simp at hc
    | some i=>
     rw [hinf] at hc;simp only at hc
     cases hzv:i.zero with
     | none=>rw [hzv] at hc; simp at hc
     | some v=>
      rw [hzv] at hc;simp only [Bool.and_eq_true,beq_iff_eq,decide_eq_true_eq] at hc;obtain ⟨⟨⟨⟨c1,c2⟩,⟨⟨c3,c4⟩,⟨c5,c6⟩⟩⟩,c7⟩,c8⟩:=hc;exact rL hi hu hinf hzv c4 c3 c5 c6 (ha _ _ c7) (ha _ _ c8) h.1 h.2.1 h.2.2
   | _=>rw [hu] at hc; simp at hc
 | clear sz z x=>
  cases op <;> simp only [aK] at hc <;> first | (cases hc; done) | skip
  rename_i c;obtain ⟨cal,args,tys⟩:=c;simp only at hc
  split at hc
  ·split at hc
   ·rename_i x' t hy ht;have hargs:args = #[x']:=by apply Array.ext'; simpa using hy
    have htys:tys = #[t]:=by apply Array.ext'; simpa using ht
    subst hargs; subst htys
    cases hu:P.underlying t with
    | none=>rw [hu] at hc; simp at hc
    | some d=>
     cases d with
     | slice e=>
      rw [hu] at hc;simp only at hc
      cases hinf:P.info? e with
      | none=>rw [hinf] at hc; simp at hc
      | some i=>
       rw [hinf] at hc;simp only at hc
       cases hzv:i.zero with
       | none=>rw [hzv] at hc; simp at hc
       | some v=>
        rw [hzv] at hc;simp only [Bool.and_eq_true,beq_iff_eq,decide_eq_true_eq] at hc;obtain ⟨⟨c1,⟨c2,⟨c3,c4⟩⟩⟩,c5⟩:=hc;simp only [execOp,resolve,invoke,builtin];have:=pq (ty:=type) (Kp:=Kp) hi hu hinf hzv c3 c4 (ha _ _ c5) h;simpa using this
     | _=>rw [hu] at hc; simp at hc
   ·cases hc
  ·cases hc
 | gix g x=>
  cases op <;> simp only [aK] at hc <;> first | (cases hc; done) | skip
  split at hc
  ·rename_i t g' y heq;cases heq;simp only [Bool.and_eq_true,beq_iff_eq] at hc;obtain ⟨⟨rfl,c2⟩,c3⟩:=hc;exact vp hgl hi c2 (ha _ _ c3) h
  ·cases hc
 | mnew=>
  cases op <;> simp only [aK] at hc <;> first | (cases hc; done) | skip
  simp only [Bool.and_eq_true] at hc;exact qo hcn hi hc.1 hc.2 h
 | mget ok lk z x i=>
  cases op <;> simp only [aK] at hc <;> first | (cases hc; done) | skip
  split at hc
  ·rename_i hu;simp only [Bool.and_eq_true,decide_eq_true_eq] at hc;obtain ⟨⟨⟨⟨rfl,c2⟩,c3⟩,c4⟩,c5⟩:=hc;exact rW hi hu c2 c3 (ha _ _ c4) (ha _ _ c5) h
  ·cases hc
 | mset lk x k v=>
  cases op <;> simp only [aK] at hc <;> first | (cases hc; done) | skip
  all_goals
   split at hc
   ·rename_i hu;simp only [Bool.and_eq_true,decide_eq_true_eq] at hc;obtain ⟨⟨⟨c2,c4⟩,c5⟩,c6⟩:=hc;exact rO hi hu c2 (ha _ _ c4) (ha _ _ c5) (ha _ _ c6) h
   ·cases hc
 | mgetp ok z x i=>
  cases op <;> simp only [aK] at hc <;> first | (cases hc; done) | skip
  split at hc
  ·rename_i hu;simp only [Bool.and_eq_true,decide_eq_true_eq] at hc;obtain ⟨⟨⟨⟨rfl,c2⟩,c3⟩,c4⟩,c5⟩:=hc;exact oB hi hu c2 c3 (ha _ _ c4) (ha _ _ c5) h
  ·cases hc
 | msetp x k v=>
  cases op <;> simp only [aK] at hc <;> first | (cases hc; done) | skip
  all_goals
   split at hc
   ·rename_i hu;simp only [Bool.and_eq_true,decide_eq_true_eq] at hc;obtain ⟨⟨⟨c2,c4⟩,c5⟩,c6⟩:=hc;exact pF hi hu c2 (ha _ _ c4) (ha _ _ c5) (ha _ _ c6) h
   ·cases hc
 | ment z x k=>
  cases op <;> simp only [aK] at hc <;> first | (cases hc; done) | skip
  split at hc
  ·rename_i hu;simp only [Bool.and_eq_true] at hc;obtain ⟨⟨⟨c2,c3⟩,c4⟩,c5⟩:=hc;exact ri hi hu c2 c3 (ha _ _ c4) (ha _ _ c5) h
  ·cases hc
 | estore x k v=>
  cases op <;> simp only [aK] at hc <;> first | (cases hc; done) | skip
  simp only [Bool.and_eq_true] at hc;obtain ⟨⟨c4,c5⟩,c6⟩:=hc;exact oa hi (ha _ _ c4) (ha _ _ c5) (ha _ _ c6) h
 | isnil neg x=>
  cases op <;> simp only [aK] at hc <;> first | (cases hc; done) | skip
  split at hc
  ·rename_i heq;cases heq;simp only [Bool.and_eq_true,decide_eq_true_eq] at hc;obtain ⟨⟨c1,c2⟩,c3⟩:=hc;exact qh hcn hi c1 c2 (ha _ _ c3) h
  ·cases hc
 | subO sz x lo=>
  cases op <;> simp only [aK] at hc <;> first | (cases hc; done) | skip
  split at hc
  ·rename_i heq
   split at hc
   ·rename_i hu;simp only [Bool.and_eq_true,beq_iff_eq,decide_eq_true_eq] at hc;obtain ⟨⟨⟨⟨c1,c2⟩,c3⟩,c4⟩,c5⟩:=hc;cases heq;exact ra hi hu c1 c2 c3 (ha _ _ c4) (ha _ _ c5) h
   ·cases hc
  ·cases hc
 | allocB=>
  cases op <;> simp only [aK] at hc <;> first | (cases hc; done) | skip
  simp only [Bool.and_eq_true,beq_iff_eq] at hc;exact og hi hc.1 hc.2 h
 | jB bytes x y=>
  cases op <;> simp only [aK] at hc <;> first | (cases hc; done) | skip
  rename_i c;obtain ⟨cal,args,tys⟩:=c;simp only at hc
  split at hc
  ·split at hc
   ·rename_i x' y' t tx hy ht;have hargs:args = #[x',y']:=by apply Array.ext'; simpa using hy
    have htys:tys = #[t,tx]:=by apply Array.ext'; simpa using ht
    subst hargs; subst htys
    split at hc
    ·rename_i e hu1 hu2;simp only [Bool.and_eq_true] at hc;obtain ⟨⟨c1,c2⟩,c3⟩:=hc
     split at c1
     ·rename_i i hinf;simp only [Bool.and_eq_true,beq_iff_eq,decide_eq_true_eq] at c1;obtain ⟨⟨⟨b1,b2⟩,b3⟩,b4⟩:=c1
      split at b2
      ·rename_i z hz;simp only [beq_iff_eq] at b2;simp only [execOp,resolve,invoke,builtin];have:=mj (tx:=tx) (ty:=type) (Kp:=Kp) hi hu1 hu2 hinf hz b3 b1 b2 b4 (ha _ _ c2) (ha _ _ c3) h;simpa using this
      ·cases b2
     ·cases c1
    ·cases hc
   ·cases hc
  ·cases hc
 | subA n sz x=>
  cases op <;> simp only [aK] at hc <;> first | (cases hc; done) | skip
  split at hc
  ·rename_i heq
   split at hc
   ·rename_i m e hu2;simp only [Bool.and_eq_true,beq_iff_eq] at hc;obtain ⟨⟨⟨⟨c1,c2⟩,c3⟩,c4⟩,c5⟩:=hc;cases heq;subst c1;have:=rI (Kp:=Kp) hi c3 hu2 c2 c4 (ha _ _ c5) h;simpa [execOp] using this
   ·cases hc
  ·rename_i heq
   split at hc
   ·rename_i m e hu2;simp only [Bool.and_eq_true,beq_iff_eq,decide_eq_true_eq] at hc;obtain ⟨⟨⟨⟨⟨c1,c2⟩,c3⟩,c3'⟩,c4⟩,c5⟩:=hc;cases heq;subst c1 c3';have:=qX (Kp:=Kp) hi hu2 c2 c3 c4 (ha _ _ c5) h;simpa [execOp,hcn] using this
   ·cases hc
  ·cases hc
 | snil neg x=>
  cases op <;> simp only [aK] at hc <;> first | (cases hc; done) | skip
  split at hc
  ·rename_i heq;cases heq;simp only [Bool.and_eq_true,decide_eq_true_eq] at hc;obtain ⟨⟨c1,c2⟩,c3⟩:=hc;exact rn hcn hi c1 c2 (ha _ _ c3) h
  ·cases hc
 | copyB sz x y=>
  cases op <;> simp only [aK] at hc <;> first | (cases hc; done) | skip
  rename_i c;obtain ⟨cal,args,tys⟩:=c;simp only at hc
  split at hc
  ·split at hc
   ·rename_i x' y' t tx hy ht;have hargs:args = #[x',y']:=by apply Array.ext'; simpa using hy
    have htys:tys = #[t,tx]:=by apply Array.ext'; simpa using ht
    subst hargs; subst htys
    split at hc
    ·rename_i e e' hu1 hu2;simp only [Bool.and_eq_true,beq_iff_eq,decide_eq_true_eq] at hc;obtain ⟨⟨⟨⟨c1,c2⟩,c3⟩,c4⟩,c5⟩:=hc;simp only [execOp,resolve,invoke,builtin];have:=qH (tx:=tx) (_e':=e') (ty:=type) (Kp:=Kp) hi hu1 c1 c3 (ha _ _ c4) (ha _ _ c5) h.1 h.2.1 h.2.2;simpa using this
    ·cases hc
   ·cases hc
  ·cases hc
 | _=>exact plain (by intros; simp) h
end
/-! ### Operations one after the other -/
def Fr.put (fr:Fr) (d:Option Nat) (v:aa):Fr:={ fr with v:=fr.v.put d v }
def bG (e:Env):List ay → Prop
 | []=>True
 | x :: r=>opg e x = true ∧ bG e r
def cH (e:Env) (g:Nat × Bool):Option Bool:=
 match e.get g.1 with
 | .bool b=>some (b == g.2)
 | .opt q (.bool b)=>some (q && (b == g.2))
 | .opt false _=>some false
 | _=>none
def AI.quiet:AI → Bool
 | .pick _ _ _=>true
 | .lit _ _ _ _=>false
 | i=>i.plain
def bZ (e:Env) (σ:ab):AI → aa
 | .pick c a b=>tL (lT (opv e c)) (opv e a) (opv e b)
 | i=>i.val (opv e) σ
def ed (e:Env) (σ:ab):AI → Prop
 | .pick c a b=>opg e c = true ∧ isBool (opv e c) ∧ (lT (opv e c) = true → opg e a = true) ∧ (lT (opv e c) = false → opg e b = true) ∧
   (match opv e a,opv e b with
    | .bool _, .bool _=>True
    | _,_=>True)
 | i=>bG e i.opers ∧ i.side (opv e) σ
def eS (P:Program) (i:AI) (e:Env) (σ:ab) (K:aa → ab → Prop) (Kp:aa → ab → Prop):Prop:=
 if i.quiet then ed e σ i ∧ K (bZ e σ i) σ else bG e i.opers ∧ bS P i (opv e) σ K Kp
def er (P : Program) : List au → Fr → ab → (Fr → ab → Prop) → (aa → Fr → ab → Prop) → Prop
 | [],fr,σ,K,_=>K fr σ
 | o :: r,fr,σ,K,Kp=>
  match o.g with
  | none=>eS P o.i fr.v σ (fun v σ'=>er P r (fr.put o.d v) σ' K Kp) (fun v σ'=>Kp v fr σ')
  | some gd=>match cH fr.v gd with
   | none=>False
   | some g=>
    if o.i.quiet then (g = true → ed fr.v σ o.i) ∧ er P r (fr.put o.d (.opt g (bZ fr.v σ o.i))) σ K Kp
    else (g = true → eS P o.i fr.v σ (fun v σ'=>er P r (fr.put o.d v) σ' K Kp) (fun v σ'=>Kp v fr σ')) ∧
     (g = false → er P r (fr.put o.d (.opt false .undef)) σ K Kp)
def n9 (N:Nat):Option Nat → Option Nat → Bool
 | some d,some d'=>d == d' && decide (d < N)
 | none,none=>true
 | _,_=>false
def my (ops:Array Oper):Option (Nat × Bool) → Option (Nat × Bool) → Bool
 | none,none=>true
 | some (t,w),some (j,w')=>w == w' && decide ((ops[j]?).bind (·.dst) = some t)
 | _,_=>false
def cz (P:Program) (N:Nat) (all:Array Oper):List au → List Oper → Bool
 | [],[]=>true
 | a :: r,o :: t=>n9 N a.d o.dst && my all a.g o.guard && aK P a.i o.op && cz P N all r t
 | _,_=>false
section
variable {P:Program} {s:St} {A:World} {N:Nat} {fr:Fr} {a:Act}
theorem lj {v:aa} {c:Value} (h:Rv s v c) (hg:v.cond = true):Rv s v.strip c:=by
 cases v with
 | opt g v=>
  simp only [aa.cond] at hg;subst hg
  cases h with
  | optT _ _ h=>exact h
 | _=>exact h
theorem bK.opr (hf:bK s N fr a) {x:ay} {y:Operand} (h:aD x y = true) (hg:opg fr.v x = true):Rv s (opv fr.v x) (a.eval y):=by
 cases x with
 | t n=>
  cases y <;> simp [aD] at h;subst h;exact lj (hf.v n) hg
 | c v=>cases y <;> simp [aD] at h; exact b8 h
 | f n=>cases y <;> simp [aD] at h; subst h; exact .func _ [] [] #[] #[] rfl rfl (fun j h1 _=>by simp at h1) (fun j h1 _=>by simp at h1)
def opn (e:Env) (x:ay):aa:=if opg e x = true then opv e x else .undef
theorem eZ {e:Env}:∀ {l:List ay},bG e l → ∀ x ∈ l,opv e x = opn e x
 | a :: l,h,x,hx=>by
  rcases List.mem_cons.1 hx with rfl | h'
  ·simp [opn,h.1]
  ·exact eZ h.2 x h'
theorem bK.agree (hf:bK s N fr a):dP s (opn fr.v) a.eval:=by
 intro x y h;unfold opn;split
 ·rename_i hg; exact hf.opr h hg
 ·exact .undef _
theorem kx (e:Env) (d:Nat) (v:aa) (t:Nat):Env.get ((d,v) :: e) t = if d = t then v else e.get t:=rfl
theorem bK.put (hf:bK s N fr a) {d d':Option Nat} (hd:n9 N d d' = true) {v:aa} {c:Value} (hv:Rv s v c):bK s N (fr.put d v) (a.put d' c):=by
 cases d with
 | none=>
  cases d' with
  | none=>exact ⟨hf.size,hf.v,hf.ds⟩
  | some _=>simp [n9] at hd
 | some n=>
  cases d' with
  | none=>simp [n9] at hd
  | some m=>
   simp only [n9,Bool.and_eq_true,beq_iff_eq,decide_eq_true_eq] at hd;obtain ⟨rfl,hlt⟩:=hd;have hs:=hf.size;refine ⟨by simpa [Act.put] using hf.size,fun t=>?_,hf.ds⟩;simp only [Fr.put,Env.put,kx,Act.put];by_cases e:n = t
   ·subst e;rw [if_pos rfl];have h2:n < a.tmps.size:=by omega
    simpa [Array.getD_eq_getD_getElem?,h2] using hv
   ·rw [if_neg e];have:=hf.v t;simpa [Array.getD_eq_getD_getElem?,Array.getElem?_setIfInBounds_ne e] using this
theorem dW {i:AI} {o:Op} (h:aK P i o = true):∀ c,o ≠ .defer c:=by
 intro c hc;subst hc;cases i <;> simp [aK] at h
theorem eV (hf:bK s N fr a) {ops:Array Oper} {o:Oper} {gd:Nat × Bool} (hg:my ops (some gd) o.guard = true) {g:Bool} (hc:cH fr.v gd = some g):Region.wanted o (yielded ops a.tmps) = g:=by
 obtain ⟨t,w⟩:=gd
 cases hgu:o.guard with
 | none=>rw [hgu] at hg; simp [my] at hg
 | some jw=>
  obtain ⟨j,w'⟩:=jw;rw [hgu] at hg;simp only [my,Bool.and_eq_true,beq_iff_eq,decide_eq_true_eq] at hg;obtain ⟨rfl,hd⟩:=hg;simp only [Region.wanted,hgu,yielded,hd,Option.bind_some];have hv:=hf.v t;simp only [cH] at hc;have key:∀ b,a.tmps.getD t Go.undef = .bool b → a.tmps[t]? = some (.bool b):=by
   intro b hb;rw [Array.getD_eq_getD_getElem?] at hb
   cases h:a.tmps[t]? with
   | none=>rw [h] at hb; simp [Go.undef] at hb
   | some x=>rw [h] at hb; simp at hb; rw [hb]
  have key2:a.tmps.getD t Go.undef = Go.undef → a.tmps[t]? = none ∨ a.tmps[t]? = some Go.undef:=by
   intro hb;rw [Array.getD_eq_getD_getElem?] at hb
   cases h:a.tmps[t]? with
   | none=>exact .inl rfl
   | some x=>rw [h] at hb; simp at hb; subst hb; exact .inr rfl
  generalize hx:fr.v.get t = x at *;generalize a.tmps.getD t Go.undef = c at *
  cases x with
  | bool b=>
   simp only [Option.some.injEq] at hc;cases hv;rw [key b rfl];subst hc;cases b <;> cases w <;> rfl
  | opt q v=>
   cases v with
   | bool b=>
    simp only [Option.some.injEq] at hc;subst hc
    cases hv with
    | optT _ _ h=>
     cases h;rw [key b rfl];cases b <;> cases w <;> rfl
    | optF=>rcases key2 rfl with h2 | h2 <;> rw [h2] <;> rfl
   | _=>
    cases q with
    | true=>simp at hc
    | false=>
     simp only [Option.some.injEq] at hc;subst hc
     cases hv with
     | optF=>rcases key2 rfl with h2 | h2 <;> rw [h2] <;> rfl
  | _=>simp at hc
theorem jA {n:Nat} {ρ ρ₂:ay → aa}:∀ {ps:List (Nat × Nat × ay)},(∀ x ∈ ps.map (·.2.2),ρ x = ρ₂ x) → (dH n ρ ps ↔ dH n ρ₂ ps)
 | [],_=>Iff.rfl
 | (o,sz,x) :: ps,h=>by
  simp only [dH,h x (by simp)];rw [jA (fun y hy=>h y (by simp at hy ⊢; exact .inr hy))]
theorem dL {sz n:Nat} {ρ ρ₂:ay → aa}:∀ {ps:List (Nat × ay)},(∀ x ∈ ps.map (·.2),ρ x = ρ₂ x) → (ee sz n ρ ps ↔ ee sz n ρ₂ ps)
 | [],_=>Iff.rfl
 | (i,x) :: ps,h=>by
  simp only [ee,h x (by simp)];rw [dL (fun y hy=>h y (by simp at hy ⊢; exact .inr hy))]
theorem eh {ρ ρ₂:ay → aa}:∀ {ps:List (Nat × ay)} {z:List aa},(∀ x ∈ ps.map (·.2),ρ x = ρ₂ x) → cZ ρ z ps = cZ ρ₂ z ps
 | [],_,_=>rfl
 | (i,x) :: ps,z,h=>by
  simp only [cZ,h x (by simp)];exact eh (fun y hy=>h y (by simp at hy ⊢; exact .inr hy))
theorem dU {ρ ρ₂:ay → aa} {l:List ay} (h:∀ x ∈ l,ρ x = ρ₂ x):l.map ρ = l.map ρ₂:=List.map_congr_left h
theorem hU {ρ ρ₂:ay → aa} {l:List ay} {o:Option ay} (hs:∀ y ∈ o.toList,y ∈ l) (h:∀ x ∈ l,ρ x = ρ₂ x):(∀ d:Int,aF ρ d o = aF ρ₂ d o) ∧ (b6 ρ o ↔ b6 ρ₂ o):=by
 cases o with
 | none=>exact ⟨fun _=>rfl,Iff.rfl⟩
 | some y=>have:=h y (hs y (by simp)); simp [aF,b6,this]
theorem AI.congr {ρ ρ₂:ay → aa} {i:AI} {σ:ab} (h:∀ x ∈ i.opers,ρ x = ρ₂ x):i.val ρ σ = i.val ρ₂ σ ∧ (i.side ρ σ ↔ i.side ρ₂ σ):=by
 cases i with
 | build z ps=>
  refine ⟨?_,jA h⟩;simp only [AI.val];congr 2;exact List.map_congr_left fun p hp=>by rw [h p.2.2 (by simp only [AI.opers,List.mem_map]; exact ⟨p,hp,rfl⟩)]
 | lit m sz n ps=>
  refine ⟨by simp only [AI.val,eh (ps:=ps) h], ?_⟩;simp only [AI.side,dL (ps:=ps) h]
 | mkfunc fn a b=>
  simp only [AI.val,AI.side,and_true];rw [dU (l:=a) (fun x hx=>h x (by simp [AI.opers,hx])),dU (l:=b) (fun x hx=>h x (by simp [AI.opers,hx]))]
 | subq sz x lo hi=>
  have b1:=hU (o:=lo) (l:=(AI.subq sz x lo hi).opers) (fun y hy=>by simp only [AI.opers,List.mem_cons,List.mem_append]; exact .inr (.inl hy)) h;have b2:=hU (o:=hi) (l:=(AI.subq sz x lo hi).opers) (fun y hy=>by simp only [AI.opers,List.mem_cons,List.mem_append]; exact .inr (.inr hy)) h;have hx:=h x (by simp [AI.opers]);simp only [AI.val,AI.side,hx,b1.1,b2.1,b1.2,b2.2,iff_self,and_self]
 | subStr x lo hi=>
  have b1:=hU (o:=lo) (l:=(AI.subStr x lo hi).opers) (fun y hy=>by simp only [AI.opers,List.mem_cons,List.mem_append]; exact .inr (.inl hy)) h;have b2:=hU (o:=hi) (l:=(AI.subStr x lo hi).opers) (fun y hy=>by simp only [AI.opers,List.mem_cons,List.mem_append]; exact .inr (.inr hy)) h;have hx:=h x (by simp [AI.opers]);simp only [AI.val,AI.side,hx,b1.1,b2.1,b1.2,b2.2,iff_self,and_self]
 | mx l=>simp only [AI.val,AI.side,dU (l:=l) h,iff_self,and_self]
 | mn l=>simp only [AI.val,AI.side,dU (l:=l) h,iff_self,and_self]
 | _=>first
  | exact ⟨rfl,Iff.rfl⟩
  | (simp only [AI.opers,List.mem_singleton,forall_eq] at h; simp only [AI.val,AI.side,h,iff_self,and_self]; done)
  | (simp only [AI.opers,List.mem_cons,List.not_mem_nil,or_false,forall_eq_or_imp,forall_eq] at h; simp only [AI.val,AI.side,h,iff_self,and_self]; done)
theorem kS {ρ ρ₂:ay → aa} {i:AI} {σ:ab} {K Kp:aa → ab → Prop} (h:∀ x ∈ i.opers,ρ x = ρ₂ x) (hw:bS P i ρ σ K Kp):bS P i ρ₂ σ K Kp:=by
 have hc:=AI.congr (σ:=σ) h
 cases i with
 | lit m sz n ps=>simp only [bS,eh (ps:=ps) h,dL (ps:=ps) h] at hw ⊢; exact hw
 | call f dn l=>
  simp only [bS] at hw ⊢;rw [h f (by simp [AI.opers]),dU (l:=l) (fun x hx=>h x (by simp [AI.opers,hx]))] at hw;exact hw
 | box n x=>simp only [bS,h x (by simp [AI.opers])] at hw ⊢; exact hw
 | pbox n x=>simp only [bS,h x (by simp [AI.opers])] at hw ⊢; exact hw
 | loadd n x=>simp only [bS,h x (by simp [AI.opers])] at hw ⊢; exact hw
 | mvd x=>simp only [bS,h x (by simp [AI.opers])] at hw ⊢; exact hw
 | store sz x v=>simp only [bS,h x (by simp [AI.opers]),h v (by simp [AI.opers])] at hw ⊢; exact hw
 | panic x=>simp only [bS,h x (by simp [AI.opers])] at hw ⊢; exact hw
 | alloc z=>exact hw
 | allocB=>exact hw
 | nilS m sz=>exact hw
 | buildm z ps=>
  have e:(ps.map fun p=>(p.1,(ρ p.2.2).cells)) = ps.map fun p=>(p.1,(ρ₂ p.2.2).cells):=List.map_congr_left fun p hp=>by rw [h p.2.2 (by simp only [AI.opers,List.mem_map]; exact ⟨p,hp,rfl⟩)]
  have e2:∀ (n:Nat) (qs:List (Nat × Nat × ay)),(∀ q ∈ qs,ρ q.2.2 = ρ₂ q.2.2) → dH n ρ qs → dH n ρ₂ qs:=by
   intro n qs
   induction qs with
   | nil=>intro _ _; trivial
   | cons q r ih=>
    obtain ⟨a,b,c⟩:=q;intro hq hf;have h0:=hq (a,b,c) (by simp);simp only at h0;simp only [dH] at hf ⊢;rw [← h0];exact ⟨hf.1,hf.2.1,ih (fun q hq'=>hq q (by simp [hq'])) hf.2.2⟩
  simp only [bS] at hw ⊢;rw [← e];exact ⟨e2 _ _ (fun q hq=>h q.2.2 (by simp only [AI.opers,List.mem_map]; exact ⟨q,hq,rfl⟩)) hw.1,hw.2⟩
 | storem sz x=>simp only [bS,h x (by simp [AI.opers])] at hw ⊢; exact hw
 | append sz bytes x y=>simp only [bS,h x (by simp [AI.opers]),h y (by simp [AI.opers])] at hw ⊢; exact hw
 | copyB sz x y=>simp only [bS,h x (by simp [AI.opers]),h y (by simp [AI.opers])] at hw ⊢; exact hw
 | mksl m sz bytes z n c=>simp only [bS,h n (by simp [AI.opers]),h c (by simp [AI.opers])] at hw ⊢; exact hw
 | freeze sz x=>simp only [bS,h x (by simp [AI.opers])] at hw ⊢; exact hw
 | mnew=>exact hw
 | subO sz x lo=>simp only [bS,h x (by simp [AI.opers]),h lo (by simp [AI.opers])] at hw ⊢; exact hw
 | isnil neg x=>simp only [bS,h x (by simp [AI.opers])] at hw ⊢; exact hw
 | snil neg x=>simp only [bS,h x (by simp [AI.opers])] at hw ⊢; exact hw
 | gix g x=>simp only [bS,h x (by simp [AI.opers])] at hw ⊢; exact hw
 | jB bytes x y=>simp only [bS,h x (by simp [AI.opers]),h y (by simp [AI.opers])] at hw ⊢; exact hw
 | subA n sz x=>simp only [bS,h x (by simp [AI.opers])] at hw ⊢; exact hw
 | mget ok lk z x i=>simp only [bS,h x (by simp [AI.opers]),h i (by simp [AI.opers])] at hw ⊢; exact hw
 | mset lk x k v=>simp only [bS,h x (by simp [AI.opers]),h k (by simp [AI.opers]),h v (by simp [AI.opers])] at hw ⊢; exact hw
 | mgetp ok z x i=>simp only [bS,h x (by simp [AI.opers]),h i (by simp [AI.opers])] at hw ⊢; exact hw
 | msetp x k v=>simp only [bS,h x (by simp [AI.opers]),h k (by simp [AI.opers]),h v (by simp [AI.opers])] at hw ⊢; exact hw
 | ment z x k=>simp only [bS,h x (by simp [AI.opers]),h k (by simp [AI.opers])] at hw ⊢; exact hw
 | estore x k v=>simp only [bS,h x (by simp [AI.opers]),h k (by simp [AI.opers]),h v (by simp [AI.opers])] at hw ⊢; exact hw
 | range x=>simp only [bS,h x (by simp [AI.opers])] at hw ⊢; exact hw
 | next x=>simp only [bS,h x (by simp [AI.opers])] at hw ⊢; exact hw
 | clear sz z x=>simp only [bS,h x (by simp [AI.opers])] at hw ⊢; exact hw
 | sub m sz x lo hi_ mx=>
  have hb:∀ (d:Int) (o:Option ay),(∀ y ∈ o.toList,ρ y = ρ₂ y) → aF ρ d o = aF ρ₂ d o ∧ (b6 ρ o ↔ b6 ρ₂ o):=fun d o ho=>by
   cases o with
   | none=>exact ⟨rfl,Iff.rfl⟩
   | some y=>have:=ho y (by simp); simp [aF,b6,this]
  have b1:=fun d=>hb d lo (fun y hy=>h y (by simp only [AI.opers,List.mem_cons,List.mem_append]; exact .inr (.inl (.inl hy))))
  have b2:=fun d=>hb d hi_ (fun y hy=>h y (by simp only [AI.opers,List.mem_cons,List.mem_append]; exact .inr (.inl (.inr hy))))
  have hx:=h x (by simp [AI.opers]);have b3:=fun d=>hb d mx (fun y hy=>h y (by simp only [AI.opers,List.mem_cons,List.mem_append]; exact .inr (.inr hy)))
  have b4:(mx.map fun x=>aP (ρ x)) = mx.map fun x=>aP (ρ₂ x):=by
   cases mx with
   | none=>rfl
   | some y=>have:=h y (by simp [AI.opers]); simp [this]
  simp only [bS,hx,(b1 0).1,b4] at hw ⊢;refine ⟨(b1 0).2.1 hw.1,(b2 0).2.1 hw.2.1,(b3 0).2.1 hw.2.2.1, ?_⟩;have e:(fun n=>aF ρ n hi_) = fun n=>aF ρ₂ n hi_:=funext fun n=>(b2 n).1
  rw [← e]; exact hw.2.2.2
 | _=>exact ⟨hw.1,hc.2.1 hw.2.1,hc.1 ▸ hw.2.2⟩
theorem eF (hi:Inv A s) (hf:bK s N fr a) {i:AI} {o:Oper} (hc:aK P i o.op = true) (hq:i.quiet = true) (hs:ed fr.v s.h i) :
  ∃ c,(execOp a.eval o).run P s.w = .ok (.value c) s.w ∧ Rv s (bZ fr.v s.h i) c:=by
 by_cases hp:∃ c x y,i = .pick c x y
 ·obtain ⟨c,x,y,rfl⟩:=hp;obtain ⟨dst,op,type,pos,after,guard⟩:=o;cases op <;> simp only [aK] at hc <;> first | (cases hc; done) | skip
  rename_i c' x' y';obtain ⟨h1,h2,h3⟩:=wo hc;obtain ⟨q1,q2,q3,q4,_⟩:=hs;have hcv:=hf.opr h1 q1;simp only [bZ];have hb:∃ b,opv fr.v c = .bool b ∧ a.eval c' = .bool b:=by
   generalize opv fr.v c = u at *;generalize a.eval c' = d at *;cases hcv <;> first | (exact q2.elim) | exact ⟨_,rfl,rfl⟩
  obtain ⟨b,e1,e2⟩:=hb;rw [e1] at q3 q4 ⊢;simp only [execOp,e2];cases b
  ·have hy:=hf.opr h3 (q4 rfl);refine ⟨a.eval y',by simp [asBool], ?_⟩;simp only [lT,tL];split
   ·rename_i p q ex ey; rw [ey] at hy; simpa using hy
   ·simpa using hy
  ·have hx:=hf.opr h2 (q3 rfl);refine ⟨a.eval x',by simp [asBool], ?_⟩;simp only [lT,tL];split
   ·rename_i p q ex ey; rw [ex] at hx; simpa using hx
   ·simpa using hx
 ·have hval:bZ fr.v s.h i = i.val (opv fr.v) s.h:=by cases i <;> first | rfl | exact absurd ⟨_,_,_,rfl⟩ hp
  have hsd:bG fr.v i.opers ∧ i.side (opv fr.v) s.h:=by cases i <;> first | exact hs | exact absurd ⟨_,_,_,rfl⟩ hp
  have hpl:i.plain = true:=by cases i <;> first | exact hq | (simp [AI.quiet] at hq; done) | exact absurd ⟨_,_,_,rfl⟩ hp
  have hcg:=AI.congr (σ:=s.h) (eZ hsd.1);rw [hval,hcg.1];exact AI.nt hi hc hpl (fun m sz n ps e=>by subst e; simp [AI.quiet] at hq) hf.agree (hcg.2.1 hsd.2)
theorem cQ (hi:Inv A s) (hf:bK s N fr a) {i:AI} {o:Oper} (hc:aK P i o.op = true) {K Kp:aa → ab → Prop} (h:eS P i fr.v s.h K Kp):ar P A s K Kp ((execOp a.eval o).run P s.w):=by
 unfold eS at h
 split at h
 ·rename_i hq;obtain ⟨c,e1,e2⟩:=eF hi hf hc hq h.1;exact ar.value e1 rfl hi (.refl s) e2 h.2
 ·exact rX (fun _=>rfl) (fun _=>rfl) hi hc hf.agree (kS (eZ h.1) h.2)
theorem fT {o:Oper} {Q:Exit → Act → World → Prop} {next:Act → World → Prop} {K Kp:aa → ab → Prop} {r:Result Next} {ro:Option Nat} (h:ar P A s K Kp r)
  (hnext:∀ v c s',Inv A s' → aT s s' → Rv s' v c → K v s'.h → next (a.put o.dst c) s'.w)
  (hpan:∀ v c s',Inv A s' → aT s s' → Rv s' v c → Kp v s'.h → Q (.panic [{ v:=c,recovered:=false }]) a s'.w):o.uponIn (Fro ro) 0 P a next Q r:=by
 have hcp:∀ (e:Ending) (w'':World),bj A s (fun r σ'=>match r with | .ret v=>K v σ' | .pan v=>Kp v σ') e w'' →
   (match e,w'' with
    | .returned v,w''=>next (a.put o.dst v) w''
    | .panicked chain,w''=>Q (.panic chain) a w''
    | .outgrown,_=>LetsOut Q):=by
  rintro e w'' ⟨r,s',rfl,h1,h2,h3,h4⟩;cases r <;> cases e <;> first | (exact h3.elim) | skip
  ·exact hnext _ _ s' h1 h2 h3 h4
  ·obtain ⟨c,rfl,h5⟩:=h3; exact hpan _ _ s' h1 h2 h5 h4
 cases r with
 | ok x w'=>
  cases x <;> simp only [ar] at h <;> first | (exact h.elim) | skip
  ·obtain ⟨v,s',rfl,h1,h2,h3,h4⟩:=h; exact hnext _ _ s' h1 h2 h3 h4
  ·obtain ⟨v,s',rfl,h1,h2,h3,h4⟩:=h; exact hnext _ _ s' h1 h2 h3 h4
  ·exact ⟨fun hd=>by simp [Fro,Fence.wide] at hd,callsIn_wide.2 (h.mono hcp)⟩
  ·exact ⟨fun hd=>by simp [Fro,Fence.wide] at hd,(h ro).mono hcp⟩
 | halt x w'=>
  cases x <;> simp only [ar] at h <;> first | (exact h.elim) | skip
  obtain ⟨v,s',rfl,h1,h2,h3,h4⟩:=h; exact hpan _ _ s' h1 h2 h3 h4
theorem mS {ops:Array Oper} {ro:Option Nat} {Q:AEx → Fr → ab → Prop} {s0:St}:∀ (aops:List au) (k:Nat) (s:St) (fr:Fr) (a:Act),cz P N ops aops (ops.toList.drop k) = true → Inv A s → aT s0 s → bK s N fr a →
  er P aops fr s.h (fun fr' σ'=>Q .normal fr' σ') (fun v fr' σ'=>Q (.panic v) fr' σ') →
  wpOpsIn (Fro ro) 0 P ops (dt A N s0 Q) (List.range' k (ops.size - k)) a s.w
 | [],k,s,fr,a,hc,hi,hg,hf,h=>by
  have hk:ops.size - k = 0:=by
   cases hd:ops.toList.drop k with
   | nil=>have:=congrArg List.length hd; simpa using this
   | cons x l=>rw [hd] at hc; simp [cz] at hc
  rw [hk];simp only [List.range'_zero,wpOpsIn];exact ⟨.normal,fr,s,rfl,hi,hg,hf,trivial,h⟩
 | ao :: aops,k,s,fr,a,hc,hi,hg,hf,h=>by
  cases hd:ops.toList.drop k with
  | nil=>rw [hd] at hc; simp [cz] at hc
  | cons o l=>
   have hlt:k < ops.size:=by
    have:=congrArg List.length hd; simp at this; omega
   have hdk:=List.drop_eq_getElem_cons (show k < ops.toList.length by simpa using hlt);rw [hd] at hdk;obtain ⟨ho,hl⟩:=List.cons.inj hdk;have hok:ops[k]? = some o:=by rw [Array.getElem?_eq_getElem hlt,ho]; simp
   rw [hd] at hc;simp only [cz,Bool.and_eq_true] at hc;obtain ⟨⟨⟨c1,c2⟩,c3⟩,c4⟩:=hc;rw [hl] at c4;have hsz:ops.size - k = (ops.size - (k + 1)) + 1:=by omega
   rw [hsz,List.range'_succ];simp only [wpOpsIn,hok];have hne:=dW c3
   -- what follows
   have hcont:∀ v c s',Inv A s' → aT s s' → Rv s' v c → er P aops (fr.put ao.d v) s'.h (fun fr' σ'=>Q .normal fr' σ') (fun v fr' σ'=>Q (.panic v) fr' σ') →
     wpOpsIn (Fro ro) 0 P ops (dt A N s0 Q) (List.range' (k + 1) (ops.size - (k + 1))) (a.put o.dst c) s'.w:=fun v c s' h1 h2 h3 h4=>
    mS aops (k + 1) s' _ _ c4 h1 (hg.trans h2) ((hf.keeps h2.keeps).put c1 h3) h4
   have hskip:er P aops (fr.put ao.d (.opt false .undef)) s.h (fun fr' σ'=>Q .normal fr' σ') (fun v fr' σ'=>Q (.panic v) fr' σ') →
     wpOpsIn (Fro ro) 0 P ops (dt A N s0 Q) (List.range' (k + 1) (ops.size - (k + 1))) (a.put o.dst Go.undef) s.w:=fun h4=>
    hcont _ _ s hi (.refl s) (.optF _) h4
   have hrun:eS P ao.i fr.v s.h (fun v σ'=>er P aops (fr.put ao.d v) σ' (fun fr' σ'=>Q .normal fr' σ') (fun v fr' σ'=>Q (.panic v) fr' σ')) (fun v σ'=>Q (.panic v) fr σ') →
     o.wpIn (Fro ro) 0 P a s.w (wpOpsIn (Fro ro) 0 P ops (dt A N s0 Q) (List.range' (k + 1) (ops.size - (k + 1)))) (dt A N s0 Q):=by
    intro h';refine ⟨fun _ _=>trivial, ?_⟩;rw [Oper.semAt_eq _ _ _ hne];exact fT (cQ hi hf c3 h') hcont (fun v c s' h1 h2 h3 h4=>⟨.panic v,fr,s',rfl,h1,hg.trans h2,hf.keeps h2.keeps,⟨c,rfl,h3⟩,h4⟩)
   simp only [er] at h
   cases hag:ao.g with
   | none=>
    rw [hag] at h c2;have hgn:o.guard = none:=by cases hgu:o.guard with
     | none=>rfl
     | some x=>rw [hgu] at c2; simp [my] at c2
    rw [if_pos (by simp [Region.wanted,hgn])];exact hrun h
   | some gd=>
    rw [hag] at h c2;simp only at h
    cases hgc:cH fr.v gd with
    | none=>rw [hgc] at h; exact h.elim
    | some g=>
     rw [hgc] at h;rw [eV hf c2 hgc];simp only at h
     cases g with
     | true=>
      rw [if_pos rfl]
      split at h
      ·rename_i hq;obtain ⟨cc,e1,e2⟩:=eF hi hf c3 hq (h.1 rfl);refine ⟨fun _ _=>trivial, ?_⟩;rw [Oper.semAt_eq _ _ _ hne,e1];exact hcont _ _ s hi (.refl s) (.optT _ _ e2) h.2
      ·exact hrun (h.1 rfl)
     | false=>
      rw [if_neg (by simp)]
      split at h
      ·exact ⟨fun _ _=>trivial,hcont _ _ s hi (.refl s) (.optF _) h.2⟩
      ·exact ⟨fun _ _=>trivial,hskip (h.2 rfl)⟩
end
end Go.AM
