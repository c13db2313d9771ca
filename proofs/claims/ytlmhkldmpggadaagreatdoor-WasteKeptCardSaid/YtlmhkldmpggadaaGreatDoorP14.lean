/- Maps whose keys are pairs of numbers: where a key stands; read, written. -/
import Derived.Test.YtlmhkldmpggadaaGreatDoorP13
namespace Go.AM
open Go.RowKit
section
variable {P:Program} {s:St} {A:World} {ρ:aO → ag} {ρ':Operand → Value} {K Kp:ag → af → Prop}
theorem B4 (hi:Inv A s) {t kt e:TypeId} (hu:P.underlying t = some (.map kt e)) {ok:Bool} (hk:gg P kt = true) {z:ag} (hz:zeroV P e z = true)
  {xv kv:ag} {x c:Value} (hx:Rv s xv x) (hc:Rv s kv c) (h:Ak ok z s.h xv kv K):aC P A s K Kp ((do pure (Next.value (← Instr.lookup t x c ok)):Sem Next).run P s.w):=by
 cases xv with
 | map b=>
  simp only [Ak] at h
  cases hb:s.h.get b with
  | amap es=>
   rw [hb] at h;simp only at h;have hbs:=af.get_some hb (by simp);obtain ⟨blk,ms,clock,hl,hB,hh,hsz,hr,hnS,hbn⟩:=hi.obj b _ hbs;obtain ⟨u,hrun,hu2⟩:=uA (ok:=ok) hu hk hz hx hc hl hh hsz hr h.1 h.2.1;exact aC.value (av _ _ _ _ hrun) rfl hi (.refl s) hu2 h.2.2
  | _=>rw [hb] at h; exact h.elim
 | _=>exact h.elim
theorem CU (hi:Inv A s) {t kt e:TypeId} (hu:P.underlying t = some (.map kt e)) (hk:gg P kt = true)
  {xv kv vv:ag} {x c v:Value} (hx:Rv s xv x) (hc:Rv s kv c) (hv:Rv s vv v) (h:zT s.h xv kv vv K):aC P A s K Kp ((do Instr.mapUpdate t x c v; pure Next.skip:Sem Next).run P s.w):=by
 cases xv with
 | map b=>
  simp only [zT] at h
  cases hb:s.h.get b with
  | amap es=>
   rw [hb] at h;simp only at h;have hbs:=af.get_some hb (by simp);obtain ⟨blk,ms,clock,hl,hB,hh,hsz,hr,hnS,hbn⟩:=hi.obj b _ hbs
   cases hx with
   | map _ blk' hl'=>
    have:blk' = blk:=by rw [hl] at hl'; simpa using hl'.symm
    subst this;have hblk:blk' < s.w.heap.size:=(Array.getElem?_eq_some_iff.1 hh).1;have hget:(getObj blk').run P s.w = .ok (.map ms clock) s.w:=by simp [getObj,Sem.run,hh]
    have hf:=o9 hk hc es ms.toList 0 (by simpa using hsz) (fun j g1 g2=>by have:=hr j g1 (by simpa using g2); simpa using this) h.2.1;have hown:dA s b (.amap es) blk':=hl
    have fin:∀ (ms':Array MapEntry) (clock':Nat) (es':List (ag × ag)),bL kv vv es = es' → ms'.size = es'.length →
      (∀ j (h1:j < es'.length) (h2:j < ms'.size),Rv s es'[j].1 ms'[j].key ∧ Rv s es'[j].2 ms'[j].val) → lz ms' clock' →
      (Instr.mapUpdate t (.map (some blk')) c v).run P s.w = .ok () (s.w.putObj blk' (.map ms' clock')) →
      aC P A s K Kp ((do Instr.mapUpdate t (.map (some blk')) c v; pure Next.skip:Sem Next).run P s.w):=by
     intro ms' clock' es' h1 h2 h3 hbn' hrun
     let s1:St:={ h:=s.h.set b (.amap es'),lam:=s.lam,S:=s.S,w:=s.w.putObj blk' (.map ms' clock') }
     have hk:bq s s1:=⟨fun _ _ _ h=>h,fun _ _ h=>h,fun g o hs=>World.cell?_of_block (a:=⟨g,o,none⟩) (World.putObj_heap_other (fun e=>hnS o (e ▸ hs)))⟩;have hgo:=hi.change (s':=s1) (List.getElem?_eq_some_iff.1 hbs).1 rfl hk (hi.below.trans ⟨rfl,rfl,rfl,by simp [s1],fun g hg=>World.putObj_heap_other (by omega)⟩) (by simp [s1]) (fun _ _ _=>rfl)
      (fun g _ hno=>World.putObj_heap_other (fun e=>hno (e ▸ ⟨_,hbs,hown⟩)))
      ⟨blk',ms',clock',hl,hB,World.putObj_heap_same hblk,h2,fun j g1 g2=>⟨(h3 j g1 g2).1.keeps hk,(h3 j g1 g2).2.keeps hk⟩,hnS,hbn'⟩
      (fun g ho=>by
       have e:s.lam b 0 = some (.map (some g)):=ho;rw [hl] at e;right;have:blk' = g:=by simpa using e
       rw [← this]; exact ⟨_,hbs,hown⟩)
      (fun _ _ h=>.inl h) (fun g x h=>by have:=hi.scell _ _ h; simp [s1]; omega)
     have hr1:((do Instr.mapUpdate t (.map (some blk')) c v; pure Next.skip:Sem Next).run P s.w) = .ok .skip s1.w:=by
      simp only [Sem.run_bind,hrun,Result.andThen_ok,Sem.run_pure]; rfl
     rw [hr1];refine ⟨.undef,s1,rfl,hgo.1,hgo.2, .undef _, ?_⟩;show K .undef (s.h.set b (.amap es'));rw [← h1]; exact h.2.2
    have hset:∀ o,(setObj blk' o).run P s.w = .ok () (s.w.putObj blk' o):=fun o=>by simp [setObj,Sem.run,hh,World.putObj]
    rcases hf with ⟨a,_,q,_⟩ | ⟨j,g1,g2,a,_,q1,q2,q,_⟩
    ·refine fin (ms.push { key:=c,val:=v,born:=clock }) (clock + 1) (es ++ [(kv,vv)]) (q vv) (by simp [hsz]) (fun j g1 g2=>?_) hbn.push ?_
     ·by_cases hj:j < es.length
      ·rw [List.getElem_append_left hj,Array.getElem_push_lt (by omega)];exact hr j hj (by omega)
      ·have hj':j = es.length:=by simp at g1; omega
       subst hj';simp only [List.getElem_append_right (Nat.le_refl _),Nat.sub_self,List.getElem_cons_zero];have:(ms.push { key:=c,val:=v,born:=clock })[es.length]'g2 = { key:=c,val:=v,born:=clock }:=by
        have:=Array.getElem_push_eq (xs:=ms) (x:=({ key:=c,val:=v,born:=clock }:MapEntry));simpa only [hsz] using this
       rw [this];exact ⟨hc,hv⟩
     ·unfold Instr.mapUpdate;simp only [Sem.run_bind,ar hu,Result.andThen_ok,hget,kx hk hc h.1,il hk a,hset]
    ·have hms:j < ms.size:=by simpa using g2
     have hke:(Instr.keyThatStays ms[j].key c).run P s.w = .ok c s.w:=xK q2 hc (by have:=(hr j g1 hms).1; simpa using this) q1 s.w;refine fin (ms.modify j fun e=>{ e with key:=c,val:=v }) clock (es.set j (kv,vv)) (q vv) (by simp [hsz]) (fun i h1 h2=>?_) (hbn.modify _ fun _=>rfl) ?_
     ·simp only [List.length_set] at h1;by_cases e:j = i
      ·subst e;simp only [List.getElem_set_self,Array.getElem_modify,if_true];exact ⟨hc,hv⟩
      ·simp only [List.getElem_set_ne e,Array.getElem_modify,if_neg e];exact hr i h1 (by simpa using h2)
     ·unfold Instr.mapUpdate;simp only [Sem.run_bind,ar hu,Result.andThen_ok,hget,kx hk hc h.1,il hk a,Nat.zero_add,Array.getElem?_eq_getElem hms,Option.map_some,Option.getD_some,hke,hset]
  | _=>rw [hb] at h; exact h.elim
 | _=>exact h.elim
theorem Inv.AQ (hi:Inv A s) {b:Nat} {es es':List (ag × ag)} (hbs:s.h[b]? = some (.amap es)) {blk:Nat} {ms ms':Array MapEntry} {clock clock':Nat} (hl:s.lam b 0 = some (.map (some blk))) (hB:A.heap.size ≤ blk)
  (hh:s.w.heap[blk]? = some (.map ms clock)) (hnS:∀ o, ¬ s.S blk o) (h2:ms'.size = es'.length) (h3:∀ j (h1:j < es'.length) (h2:j < ms'.size),Rv s es'[j].1 ms'[j].key ∧ Rv s es'[j].2 ms'[j].val) (hbn':lz ms' clock') :
  ∃ s1,s1.h = s.h.set b (.amap es') ∧ s1.w = s.w.putObj blk (.map ms' clock') ∧ Inv A s1 ∧ bV s s1:=by
 have hblk:blk < s.w.heap.size:=(Array.getElem?_eq_some_iff.1 hh).1;have hown:dA s b (.amap es) blk:=hl
 let s1:St:={ h:=s.h.set b (.amap es'),lam:=s.lam,S:=s.S,w:=s.w.putObj blk (.map ms' clock') }
 have hk:bq s s1:=⟨fun _ _ _ h=>h,fun _ _ h=>h,fun g o hs=>World.cell?_of_block (a:=⟨g,o,none⟩) (World.putObj_heap_other (fun e=>hnS o (e ▸ hs)))⟩;have hgo:=hi.change (s':=s1) (List.getElem?_eq_some_iff.1 hbs).1 rfl hk (hi.below.trans ⟨rfl,rfl,rfl,by simp [s1],fun g hg=>World.putObj_heap_other (by omega)⟩) (by simp [s1]) (fun _ _ _=>rfl)
  (fun g _ hno=>World.putObj_heap_other (fun e=>hno (e ▸ ⟨_,hbs,hown⟩)))
  ⟨blk,ms',clock',hl,hB,World.putObj_heap_same hblk,h2,fun j g1 g2=>⟨(h3 j g1 g2).1.keeps hk,(h3 j g1 g2).2.keeps hk⟩,hnS,hbn'⟩
  (fun g ho=>by
   have e:s.lam b 0 = some (.map (some g)):=ho;rw [hl] at e;right;have:blk = g:=by simpa using e
   rw [← this]; exact ⟨_,hbs,hown⟩)
  (fun _ _ h=>.inl h) (fun g x h=>by have:=hi.scell _ _ h; simp [s1]; omega)
 exact ⟨s1,rfl,rfl,hgo.1,hgo.2⟩
theorem Dh (hi:Inv A s) {t kt e:TypeId} (hu:P.underlying t = some (.map kt e)) (hk:gg P kt = true) {z:ag} (hz:zeroV P e z = true)
  {xv kv:ag} {x c:Value} (hx:Rv s xv x) (hc:Rv s kv c) (h:EG z s.h xv kv K):aC P A s K Kp ((do pure (Next.value (← Instr.mapEntry t x c)):Sem Next).run P s.w):=by
 cases xv with
 | map b=>
  simp only [EG] at h
  cases hb:s.h.get b with
  | amap es=>
   rw [hb] at h;simp only at h;have hbs:=af.get_some hb (by simp);obtain ⟨blk,ms,clock,hl,hB,hh,hsz,hr,hnS,hbn⟩:=hi.obj b _ hbs
   cases hx with
   | map _ blk' hl'=>
    have:blk' = blk:=by rw [hl] at hl'; simpa using hl'.symm
    subst this;have hget:(getObj blk').run P s.w = .ok (.map ms clock) s.w:=by simp [getObj,Sem.run,hh]
    obtain ⟨zv,hz1,hz2⟩:∃ zv,(zeroValue e).run P s.w = .ok zv s.w ∧ Rv s z zv:=by
     unfold zeroV at hz
     cases hi':P.info? e with
     | none=>simp [hi'] at hz
     | some i=>
      cases hzz:i.zero with
      | none=>simp [hi',hzz] at hz
      | some v=>simp only [hi',Option.bind_some,hzz] at hz; exact ⟨v,by simp [zeroValue,typeInfo,hi',hzz],eI hz⟩
    have hset:∀ o,(setObj blk' o).run P s.w = .ok () (s.w.putObj blk' o):=fun o=>by simp [setObj,Sem.run,hh,World.putObj]
    have hf:=o9 hk hc es ms.toList 0 (by simpa using hsz) (fun j g1 g2=>by have:=hr j g1 (by simpa using g2); simpa using this) h.2.1;rcases hf with ⟨a,q0,q,qi⟩ | ⟨j,g1,g2,a,q0,q1,q2,q,qi⟩
    ·have hput:=hi.AQ hbs hl hB hh hnS (ms':=ms.push { key:=c,val:=zv,born:=clock }) (clock':=clock + 1) (es':=es ++ [(kv,z)]) (by simp [hsz]) (fun j g1 g2=>by
      by_cases hj:j < es.length
      ·rw [List.getElem_append_left hj,Array.getElem_push_lt (by omega)];exact hr j hj (by omega)
      ·have hj':j = es.length:=by simp at g1; omega
       subst hj';simp only [List.getElem_append_right (Nat.le_refl _),Nat.sub_self,List.getElem_cons_zero];have:(ms.push { key:=c,val:=zv,born:=clock })[es.length]'g2 = { key:=c,val:=zv,born:=clock }:=by
        have:=Array.getElem_push_eq (xs:=ms) (x:=({ key:=c,val:=zv,born:=clock }:MapEntry));simpa only [hsz] using this
       rw [this]
       exact ⟨hc,hz2⟩) hbn.push
     obtain ⟨s1,f1,f2,i1,k1⟩:=hput;have hrun:(Instr.mapEntry t (.map (some blk')) c).run P s.w = .ok (.tuple #[zv, .int .i64 clock]) s1.w:=by
      unfold Instr.mapEntry;simp only [Sem.run_bind,ar hu,Result.andThen_ok,hget,kx hk hc h.1,il hk a,hz1,hset,Sem.run_pure,f2];rfl
     refine aC.value (av _ _ _ _ hrun) rfl i1 k1 (v:=.tup [gZ false z (b9 kv es), .int .i64 (dD kv es 0)]) ?_ ?_
     ·rw [q0,qi,hbn.1,hsz];refine .tup _ _ rfl (fun j g1 g2=>?_)
      match j,g1 with
      | 0,_=>exact hz2.keeps k1.keeps
      | 1,_=>simp; exact .int _ _
     ·rw [f1];have:=h.2.2;rw [q0] at this ⊢;rw [q] at this;exact this
    ·have hms:j < ms.size:=by simpa using g2
     have hke:(Instr.keyThatStays ms[j].key c).run P s.w = .ok c s.w:=xK q2 hc (by have:=(hr j g1 hms).1; simpa using this) q1 s.w
     have hput:=hi.AQ hbs hl hB hh hnS (ms':=ms.modify j fun e=>{ e with key:=c }) (clock':=clock) (es':=es.set j (kv,es[j].2)) (by simp [hsz]) (fun i h1 h2=>by
      simp only [List.length_set] at h1;by_cases e:j = i
      ·subst e;simp only [List.getElem_set_self,Array.getElem_modify,if_true];exact ⟨hc,(hr j g1 hms).2⟩
      ·simp only [List.getElem_set_ne e,Array.getElem_modify,if_neg e]
       exact hr i h1 (by simpa using h2)) (hbn.modify _ fun _=>rfl)
     obtain ⟨s1,f1,f2,i1,k1⟩:=hput;have hbj:=hbn.2 j hms;have hrun:(Instr.mapEntry t (.map (some blk')) c).run P s.w = .ok (.tuple #[ms[j].val, .int .i64 j]) s1.w:=by
      unfold Instr.mapEntry;simp only [Sem.run_bind,ar hu,Result.andThen_ok,hget,kx hk hc h.1,il hk a,Nat.zero_add,Array.getElem?_eq_getElem hms,Option.map_some,Option.getD_some,hke,hset,Sem.run_pure,f2,hbj,Array.getElem_toList];rfl
     refine aC.value (av _ _ _ _ hrun) rfl i1 k1 (v:=.tup [gZ false z (b9 kv es), .int .i64 (dD kv es 0)]) ?_ ?_
     ·rw [q0,qi,Nat.zero_add];refine .tup _ _ rfl (fun i g3 g4=>?_)
      match i,g3 with
      | 0,_=>simpa [gZ] using (hr j g1 hms).2.keeps k1.keeps
      | 1,_=>exact .int _ _
     ·rw [f1];have:=h.2.2;rw [q0] at this ⊢;rw [q] at this;exact this
  | _=>rw [hb] at h; exact h.elim
 | _=>exact h.elim
theorem Ag (hi:Inv A s) {t:TypeId}
  {xv sv vv:ag} {x c v:Value} (hx:Rv s xv x) (hc:Rv s sv c) (hv:Rv s vv v) (h:vu s.h xv sv vv K):aC P A s K Kp ((do Instr.entryStore t x c v; pure Next.skip:Sem Next).run P s.w):=by
 unfold vu at h
 split at h
 ·rename_i b n
  split at h
  ·rename_i es hb;have hbs:=af.get_some hb (by simp);obtain ⟨blk,ms,clock,hl,hB,hh,hsz,hr,hnS,hbn⟩:=hi.obj b _ hbs;obtain ⟨h0,h1,h2⟩:=h;cases hc
   cases hx with
   | map _ blk' hl'=>
    have:blk' = blk:=by rw [hl] at hl'; simpa using hl'.symm
    subst this;have hget:(getObj blk').run P s.w = .ok (.map ms clock) s.w:=by simp [getObj,Sem.run,hh]
    have hset:∀ o,(setObj blk' o).run P s.w = .ok () (s.w.putObj blk' o):=fun o=>by simp [setObj,Sem.run,hh,World.putObj]
    obtain ⟨j,rfl⟩:∃ j:Nat,n = j:=⟨n.toNat,by omega⟩;have hj:j < es.length:=by omega
    have hms:j < ms.size:=by omega
    have hfind:ms.findIdx? (fun e=>(e.born:Int) == (j:Int)) = some j:=by
     rw [Array.findIdx?_eq_some_iff_getElem];refine ⟨hms,by simp [hbn.2 j hms],fun i hi'=>?_⟩;have:=hbn.2 i (by omega);simp [this]; omega
    have hput:=hi.AQ hbs hl hB hh hnS (ms':=ms.modify j fun e=>{ e with val:=v }) (clock':=clock) (es':=es.set j (es[j].1,vv)) (by simp [hsz]) (fun i h1 h2=>by
     simp only [List.length_set] at h1;by_cases e:j = i
     ·subst e;simp only [List.getElem_set_self,Array.getElem_modify,if_true];exact ⟨(hr j hj hms).1,hv⟩
     ·simp only [List.getElem_set_ne e,Array.getElem_modify,if_neg e]
      exact hr i h1 (by simpa using h2)) (hbn.modify _ fun _=>rfl)
    obtain ⟨s1,f1,f2,i1,k1⟩:=hput;have hrun:((do Instr.entryStore t (.map (some blk')) (.int .i64 (j:Int)) v; pure Next.skip:Sem Next).run P s.w) = .ok .skip s1.w:=by
     have e1:(Instr.entryStore t (.map (some blk')) (.int .i64 (j:Int)) v).run P s.w = .ok () s1.w:=by
      unfold Instr.entryStore;simp only [Sem.run_bind,Sem.run_pure,Result.andThen_ok,hget,asInt,asIntOf,hfind,hset,f2]
     simp only [Sem.run_bind,e1,Result.andThen_ok,Sem.run_pure]
    rw [hrun];refine ⟨.undef,s1,rfl,i1,k1, .undef _, ?_⟩;rw [f1];have e2:(es.getD ((j:Int)).toNat (.undef, .undef)).1 = es[j].1:=by simp [List.getD,hj]
    rw [e2] at h2;exact h2
  ·exact h.elim
 ·exact h.elim
end
end Go.AM
