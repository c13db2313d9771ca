/- A struct, or a cell, whose nil slice has its own room; a slice in a cell is handed on for good. Maps whose keys are numbers, strings or Booleans: made, read, written. -/
import Derived.Test.YtcdfnopkemadjaaGreatDoorP7
namespace Go.AM
open Go.RowKit
section
variable {P:Program} {s:St} {A:World} {ρ:ay → aa} {ρ':Operand → Value} {K Kp:aa → ab → Prop}
theorem nH (hi:Inv A s) (ha:dP s ρ ρ') {t:TypeId} {z:List aa} {ps:List (Nat × Nat × ay)} {parts:Array (Nat × Operand)}
  (hz:dz P t (z.map aa.fm) = true) (ht:gV P t = true) (hp:eE P t ps parts.toList = true) (ho:dH (a7 z s.h.length).1.length ρ ps)
  (h:K (.agg (ij (a7 z s.h.length).1 (ps.map fun p=>(p.1,(ρ p.2.2).cells)))) (s.h ++ (a7 z s.h.length).2)) :
  ar P A s K Kp ((do pure (Next.value (← Instr.build t (parts.map fun x=>(x.1,ρ' x.2)))):Sem Next).run P s.w):=by
 unfold dz at hz
 cases hinfo:P.info? t with
 | none=>simp [hinfo] at hz
 | some i=>
  cases hzero:i.zero with
  | none=>simp [hinfo,hzero] at hz
  | some v=>
   simp only [hinfo,Option.bind_some,hzero] at hz;obtain ⟨s1,a1,a2,a3,a4,a5,a6⟩:=hi.qc hz
   have hrow:Row s1 (a7 z s.h.length).1 v.cells:=⟨by simpa using a5.symm,fun j h1 h2=>by
    have:=a6 j h1 (by simpa using h2)
    simpa using this⟩
   obtain ⟨c,e1,e2⟩:=ju (P:=P) (ha.keeps a4.keeps) ⟨v,by simp [zeroValue,typeInfo,hinfo,hzero],hrow⟩ ht hp ho;refine ar.value (aj _ _ _ _ (a2 ▸ e1)) rfl a3 a4 e2 ?_;rw [a1]; exact h
theorem n3 (hi:Inv A s) {t:TypeId} {sz:Nat} (ht:P.cellsOf t = 1) (hinf:(P.info? t).isSome = true) {a:aa} {c:Value} (hac:Rv s a c)
  (h:if sz < 1000 then ck (s.h ++ [.spare sz 0]) 1 (.oslice sz [] s.h.length 0) a ∧ K .undef (cO (s.h ++ [.spare sz 0]) (.oslice sz [] s.h.length 0) a)
   else ck (s.h ++ [.arr (sz - 1000) []]) 1 (.sref (sz - 1000) s.h.length 0 0 0) a ∧ K .undef (cO (s.h ++ [.arr (sz - 1000) []]) (.sref (sz - 1000) s.h.length 0 0 0) a)) :
  ar P A s K Kp ((do Instr.storeAt t c (.slice none 0 0); pure Next.skip:Sem Next).run P s.w):=by
 obtain ⟨s1,e1,e2,i1,g1,d1⟩:=hi.one
 split at h
 ·obtain ⟨ho,h⟩:=h;obtain ⟨s2,f1,f2,i2,g2,k2,_⟩:=i1.dE d1 sz none 0;have h2:s2.h = s.h ++ [.spare sz 0]:=by rw [f1,e1]; exact aS _ _ _
  have hw:s2.w = s.w:=f2.trans e2;rw [← h2] at ho h;rw [← hw];exact ar.from (g1.trans g2) (fB i2 ht hinf (hac.keeps (g1.trans g2).keeps) (.oslice _ _ _ _ _ (.slice0 sz _ _) k2) ho h)
 ·obtain ⟨ho,h⟩:=h;obtain ⟨s2,f1,f2,i2,g2,k2⟩:=i1.fW d1 (sz - 1000) none;have h2:s2.h = s.h ++ [.arr (sz - 1000) []]:=by rw [f1,e1]; exact aS _ _ _
  have hw:s2.w = s.w:=f2.trans e2;rw [← h2] at ho h;rw [← hw];exact ar.from (g1.trans g2) (fB i2 ht hinf (hac.keeps (g1.trans g2).keeps) (.sref0 _ _ _ k2) ho h)
theorem Inv.lu (hi:Inv A s) {b:Nat} {cs cs':List aa} (hb:s.h[b]? = some (.box cs)) (hl:cs'.length = cs.length)
  (hr:∀ (vs:Array Value),vs.size = cs.length → (∀ j (h1:j < cs.length) (h2:j < vs.size),Rv s cs[j] vs[j]) → (∃ blk el,s.lam b 0 = some (.pointer (some ⟨blk,0,none⟩)) ∧ s.w.heap[blk]? = some (.cells vs el (0,0))) → ∀ j (h1:j < cs'.length) (h2:j < vs.size),Rv s cs'[j] vs[j]) :
  ∃ s',s'.h = s.h.set b (.box cs') ∧ s'.w = s.w ∧ Inv A s' ∧ aT s s':=by
 have hblt:b < s.h.length:=(List.getElem?_eq_some_iff.1 hb).1;obtain ⟨blk,vs,el,hlam,hB,hh,hsz,hrv,hnS⟩:=hi.obj b _ hb;have hown:bu s b (.box cs) blk:=hlam
 let s':St:={ h:=s.h.set b (.box cs'),lam:=s.lam,S:=s.S,w:=s.w }
 have hk:aL s s':=⟨fun _ _ _ h=>h,fun _ _ h=>h,fun _ _ _=>rfl⟩;have hrv':=hr vs hsz hrv ⟨blk,el,hlam,hh⟩;have hgo:=hi.change (s':=s') hblt rfl hk hi.below (Nat.le_refl _) (fun _ _ _=>rfl) (fun _ _ _=>rfl)
  ⟨blk,vs,el,hlam,hB,hh,by omega,fun j h1 h2=>(hrv' j h1 h2).keeps hk,hnS⟩
  (fun g ho=>by
   have e:s.lam b 0 = some (.pointer (some ⟨g,0,none⟩)):=ho;rw [hlam] at e;have:blk = g:=by simpa using e
   right; rw [← this]; exact ⟨_,hb,hown⟩)
  (fun _ _ h=>.inl h) hi.scell
 exact ⟨s',rfl,rfl,hgo.1,hgo.2⟩
theorem Inv.pD (hi:Inv A s) {b b' off o len n sz:Nat} {cs xs:List aa} (hb:s.h[b]? = some (.box cs)) (hc:cs[off]? = some (.sref sz b' o len n)) (hb':s.h[b']? = some (.arr sz xs)) (hn:xs.length = n) :
  ∃ s',s'.h = (s.h.set b' .dead).set b (.box (cs.set off (.slice sz ((xs.drop o).take len)))) ∧ s'.w = s.w ∧ Inv A s' ∧ aT s s':=by
 obtain ⟨hoff,hc⟩:=List.getElem?_eq_some_iff.1 hc;have hne:b' ≠ b:=fun e=>by subst e; rw [hb] at hb'; cases hb'
 obtain ⟨blk,vs,el,hlam,hB,hh,hsz,hrv,hnS⟩:=hi.obj b _ hb;have h0:=hrv off hoff (by omega);rw [hc] at h0;obtain ⟨s1,e1,e2,i1,g1,r1⟩:=hi.iI hb' h0 hn;have hb1:s1.h[b]? = some (.box cs):=by rw [e1,List.getElem?_set_ne hne]; exact hb
 obtain ⟨s2,f1,f2,i2,g2⟩:=i1.lu hb1 (cs':=cs.set off (.slice sz ((xs.drop o).take len))) (by simp) fun vs2 hs2 hr2 ⟨blk2,el2,hl2,hh2⟩ j h1 h2=>by
  have hlam1:=g1.keeps.lam _ _ _ hlam;rw [hlam1] at hl2;have:blk2 = blk:=by simpa using hl2.symm
  subst this;rw [e2,hh] at hh2;have:vs2 = vs:=by simp at hh2; exact hh2.1.symm
  subst this;by_cases hj:off = j
  ·subst hj;simpa using r1
  ·rw [List.getElem_set_ne hj];exact hr2 j (by simpa using h1) h2
 exact ⟨s2,by rw [f1,e1],f2.trans e2,i2,g1.trans g2⟩
theorem Inv.qk (hi:Inv A s) {b sz:Nat} {xs xs':List aa} (hb:s.h[b]? = some (.arr sz xs)) (hl:xs'.length = xs.length)
  (hr:∀ (us:List Value),us.length = xs.length → (∀ i (h1:i < xs.length) (h2:i < us.length),Rv s xs[i] us[i] ∧ us[i].cells.size = sz) →
   (∃ blk cap vs el,s.lam b xs.length = some (.slice (some ⟨blk,0,none⟩) xs.length cap) ∧ s.w.heap[blk]? = some (.cells vs el (0,0)) ∧ ∀ i j (h2:i < us.length) (hj:j < us[i].cells.size),vs[i * sz + j]? = some us[i].cells[j]) →
   ∀ i (h1:i < xs'.length) (h2:i < us.length),Rv s xs'[i] us[i]) :
  ∃ s',s'.h = s.h.set b (.arr sz xs') ∧ s'.w = s.w ∧ Inv A s' ∧ aT s s':=by
 have hblt:b < s.h.length:=(List.getElem?_eq_some_iff.1 hb).1;have hobj:=hi.obj b _ hb
 let s':St:={ h:=s.h.set b (.arr sz xs'),lam:=s.lam,S:=s.S,w:=s.w }
 have hk:aL s s':=⟨fun _ _ _ h=>h,fun _ _ h=>h,fun _ _ _=>rfl⟩;have hgo:=hi.change (s':=s') hblt rfl hk hi.below (Nat.le_refl _) (fun _ _ _=>rfl) (fun _ _ _=>rfl)
  (by
   refine ⟨fun k hk'=>hobj.1 k (by omega), ?_⟩;rcases hobj.2 with ⟨hx,ha⟩ | ⟨blk,cap,vs,el,us,h0,hlam,hB,hh,hsz,hc,hu,hrv,hvs,hnS⟩
   ·subst hx;exact .inl ⟨List.eq_nil_of_length_eq_zero hl,ha⟩
   ·refine .inr ⟨blk,cap,vs,el,us,h0,by rw [hl]; exact hlam,hB,hh,hsz,by omega,by omega,fun i h1 h2=>⟨?_,(hrv i (by omega) h2).2⟩,hvs,hnS⟩
    exact (hr us hu hrv ⟨blk,cap,vs,el,hlam,hh,hvs⟩ i h1 h2).keeps hk)
  (fun g ho=>by
   obtain ⟨cap,h1,h2⟩:=ho;right;rw [hl] at h2
   exact ⟨_,hb,cap,h1,h2⟩)
  (fun _ _ h=>.inl h) hi.scell
 exact ⟨s',rfl,rfl,hgo.1,hgo.2⟩
theorem Inv.pg (hi:Inv A s) {b b' i off o len n esz sz:Nat} {xs ys cs:List aa} (hb:s.h[b]? = some (.arr esz xs)) (hx:xs[i]? = some (.agg cs)) (hc:cs[off]? = some (.sref sz b' o len n))
  (hb':s.h[b']? = some (.arr sz ys)) (hn:ys.length = n) (hne:b' ≠ b) :
  ∃ s',s'.h = (s.h.set b' .dead).set b (.arr esz (xs.set i (.agg (cs.set off (.slice sz ((ys.drop o).take len)))))) ∧ s'.w = s.w ∧ Inv A s' ∧ aT s s':=by
 obtain ⟨hil,hx⟩:=List.getElem?_eq_some_iff.1 hx;obtain ⟨hoff,hc⟩:=List.getElem?_eq_some_iff.1 hc;rcases (hi.obj b _ hb).2 with ⟨h0,_⟩ | ⟨blk,cap,vs,el,us,h0,hlam,hB,hh,hsz,hcp,hu,hrv,hvs,hnS⟩
 ·subst h0; simp at hil
 have hui:i < us.length:=by omega
 have r0:=hrv i hil hui;rw [hx] at r0;obtain ⟨vs0,e0,hvl,hvr⟩:=r0.1.dw;have hoff':off < vs0.size:=by omega
 have r1:=hvr off hoff hoff';rw [hc] at r1;obtain ⟨s1,e1,e2,i1,g1,r2⟩:=hi.iI hb' r1 hn;have hb1:s1.h[b]? = some (.arr esz xs):=by rw [e1,List.getElem?_set_ne hne]; exact hb
 obtain ⟨s2,f1,f2,i2,g2⟩:=i1.qk hb1 (xs':=xs.set i (.agg (cs.set off (.slice sz ((ys.drop o).take len))))) (by simp) fun us2 hu2 hr2 ⟨blk2,cap2,vs2,el2,hl2,hh2,hv2⟩ j h1 h2=>by
  have hlam1:=g1.keeps.lam _ _ _ hlam;rw [hlam1] at hl2;have:blk2 = blk:=by simp at hl2; exact hl2.1.symm
  subst this;rw [e2,hh] at hh2;have:vs2 = vs:=by simp at hh2; exact hh2.1.symm
  subst this;have h1':j < xs.length:=by simpa using h1
  by_cases hj:i = j
  ·subst hj;have r3:=hr2 i h1' h2;rw [hx] at r3;obtain ⟨vs3,e3,hvl3,hvr3⟩:=r3.1.dw;have hsame:vs3 = vs0:=by
    apply Array.ext (by omega);intro k k1 k2;have a1:=hvs i k hui (by rw [e0]; exact k2);have a2:=hv2 i k h2 (by rw [e3]; exact k1);rw [a1] at a2;have a3:=Option.some.inj a2;simp only [e0,e3,Value.cells] at a3;exact a3.symm
   simp only [List.getElem_set_self];rw [e3,hsame];refine .agg _ _ (by simp; omega) fun k k1 k2=>?_
   have k1':k < cs.length:=by simpa using k1
   by_cases hk:off = k
   ·subst hk;simp only [List.getElem_set_self];exact r2
   ·simp only [List.getElem_set_ne hk];have:=hvr3 k k1' (by omega);simpa [hsame] using this
  ·simp only [List.getElem_set_ne hj];exact (hr2 j h1' h2).1
 exact ⟨s2,by rw [f1,e1],f2.trans e2,i2,g1.trans g2⟩
theorem jg:∀ {l:List aa},ga l = true → ∀ j (h:j < l.length),l[j].cP = true
 | v :: r,h,0,_=>by simp only [ga,Bool.and_eq_true] at h; exact h.1
 | v :: r,h,j + 1,hj=>by simp only [ga,Bool.and_eq_true] at h; simpa using jg h.2 j (by simpa using hj)
theorem rI (hi:Inv A s) {t e:TypeId} {n sz:Nat} (hs1:sz = 1) (ht:P.underlying t = some (.array n e)) (he:P.cellsOf e = 1) (hinf:(P.info? e).isSome = true)
  {xv:aa} {c:Value} (hx:Rv s xv c) (h:j8 n sz s.h xv K):ar P A s K Kp ((do pure (Next.value (← Instr.sliceAt t c none none none)):Sem Next).run P s.w):=by
 unfold j8 at h
 split at h
 ·rename_i b
  cases hb:s.h.get b with
  | box cs=>
   rw [hb] at h;obtain ⟨rfl,hn,hs,hk⟩:=h;obtain ⟨s',e1,e2,i',g',r1,_⟩:=hi.lb (ab.get_some hb (by simp)) hx
   cases r1 with
   | pval _ u blk off hv hm=>
    obtain ⟨vs,rfl,hvl,hvr⟩:=hv.dw;have off0:off = 0:=by cases hx; rfl
    subst off0;have hsz:=aG (P:=P) hinf s.w;rw [he] at hsz;have hrun:(Instr.sliceAt t (.pointer (some ⟨blk,0,none⟩)) none none none).run P s.w = .ok (.slice (some ⟨blk,0,none⟩) n n) s.w:=by
     unfold Instr.sliceAt;simp only [Sem.run_bind,ah ht,Result.andThen_ok];by_cases hn0:n = 0
     ·simp [Instr.sureAddr,Instr.sliceBounds,hsz,hn0]
     ·simp [Instr.sureAddr,Instr.sliceBounds,hsz,hn0,addr_add]
    have hsc:∀ j (hj:j < vs.size),vs[j].cells = #[vs[j]]:=fun j hj=>bT (hvr j (by omega) hj) (jg hs j (by omega))
    refine ar.value (aj _ _ _ _ hrun) e2 i' g' ?_ (by rw [e1]; exact hk);have hvn:vs.size = n:=by omega
    refine Rv.slice 1 cs blk 0 n n vs.toList (by simpa using hvl) (by omega) (Nat.le_refl _) (fun i h1 h2=>by have:=hvr i h1 (by simpa using h2); simpa using this) (fun i h2=>?_);have h2':i < vs.size:=by simpa using h2
    refine ⟨by simp [hsc i h2'],fun j hj=>?_⟩;have hj0:j = 0:=by simp [hsc i h2'] at hj; exact hj
    subst hj0;have:=hm i h2';simp only [Nat.zero_add,Nat.mul_one,Nat.add_zero] at this ⊢;refine ⟨this.1,this.2.trans ?_⟩;simp [Value.cells] at *;simp [hsc i h2']
  | _=>rw [hb] at h; exact h.elim
 ·have:=h.1; omega
 ·exact h.elim
theorem qX (hi:Inv A s) {t e:TypeId} {n sz:Nat} (ht:P.underlying t = some (.array n e)) (he:P.cellsOf e = sz % 1000) (h2:2 ≤ sz) (hinf:(P.info? e).isSome = true)
  {xv:aa} {c:Value} (hx:Rv s xv c) (h:j8 n sz s.h xv K):ar P A s K Kp ((do pure (Next.value (← Instr.sliceAt t c (some (.int .i64 ((sz / 1000:Nat):Int))) none none)):Sem Next).run P s.w):=by
 unfold j8 at h
 split at h
 ·rename_i b;cases hb:s.h.get b <;> rw [hb] at h <;> first | exact h.elim | (have:=h.1; omega)
 ·rename_i cs;obtain ⟨k2,kn,kl,hk⟩:=h
  cases hx with
  | pval _ u blk off hv hm=>
   obtain ⟨vs,rfl,hvl,hvr⟩:=hv.dw;have hsz:=aG (P:=P) hinf s.w;rw [he] at hsz;generalize hq:sz / 1000 = q at *;generalize hw:sz % 1000 = w at *;have hrun:(Instr.sliceAt t (.pointer (some ⟨blk,off,none⟩)) (some (.int .i64 (q:Int))) none none).run P s.w = .ok (.slice (some ⟨blk,off + q * w,none⟩) (n - q) (n - q)) s.w:=by
    unfold Instr.sliceAt;simp only [Sem.run_bind,ah ht,Result.andThen_ok];have hne:n ≠ q:=by omega
    have hb:=ew (P:=P) (x:=.int .i64 (q:Int)) (k:=.i64) (n:=q) (y:=n) (code:=.sliceB) (w:=s.w) rfl (by omega) (by omega);simp only [Instr.sliceBounds,Instr.sureAddr,Option.isSome_none,Bool.false_eq_true,if_false,Sem.run_bind,Sem.run_pure,Result.andThen_ok,hb,Int.toNat_natCast,hsz,if_neg hne,addr_add]
   have hcell:∀ i,i < n - q → (q + i) * w + w ≤ vs.size:=fun i h=>by
    have:(q + i + 1) * w ≤ n * w:=Nat.mul_le_mul_right _ (by omega);rw [Nat.add_mul,Nat.one_mul] at this;omega
   refine ar.value (aj _ _ _ _ hrun) rfl hi (.refl _) ?_ (by simpa using hk);unfold rH;rw [hq,hw];refine Rv.slice w _ blk (off + q * w) (n - q) (n - q) ((List.range (n - q)).map fun i=>.agg (vs.extract ((q + i) * w) ((q + i) * w + w))) (by simp) (by simp) (Nat.le_refl _) (fun i h1 h2=>?_) (fun i h2=>?_)
   ·have hi':i < n - q:=by simpa using h1
    have hc':=hcell i hi';simp only [List.getElem_map,List.getElem_range];refine .agg _ _ (by simp; omega) fun j a b=>?_
    simp only [List.getElem_take,List.getElem_drop,Array.getElem_extract];exact hvr _ _ _
   ·have hi':i < n - q:=by simpa using h2
    have hc':=hcell i hi';simp only [List.getElem_map,List.getElem_range];refine ⟨by simp [Value.cells]; omega,fun j hj=>?_⟩;have hj':j < w:=by simp [Value.cells] at hj; omega
    have:=hm ((q + i) * w + j) (by simp [Value.cells]; omega);have e:off + q * w + i * w + j = off + ((q + i) * w + j):=by rw [Nat.add_mul]; omega
    rw [e];refine ⟨this.1,this.2.trans ?_⟩;simp [Value.cells]
 ·exact h.elim
theorem Inv.BM (hi:Inv A s) {b:Nat} (hb:s.h[b]? = some .hole) :
  ∃ s',s'.h = s.h.set b (.bld 0 []) ∧ s'.w = s.w.alloc (.cells #[.pointer none, .slice none 0 0] ku.1) ∧ Inv A s' ∧ aT s s' ∧ Rv s' (.ptr b 0) (.pointer (some ⟨s.w.heap.size,0,none⟩)):=by
 have hblt:b < s.h.length:=(List.getElem?_eq_some_iff.1 hb).1;have hl:∀ k,s.lam b k = none:=hi.obj b _ hb
 let s':St:={ h:=s.h.set b (.bld 0 []),lam:=aO (aO s.lam b 0 (.pointer (some ⟨s.w.heap.size,0,none⟩))) b 1 (.slice none 0 0),S:=s.S,w:=s.w.alloc (.cells #[.pointer none, .slice none 0 0] ku.1) }
 have h1:s'.lam b 0 = some (.pointer (some ⟨s.w.heap.size,0,none⟩)):=(av (.inr (by omega))).trans (aC _ _ _ _);have h2:s'.lam b 1 = some (.slice none 0 0):=aC _ _ _ _;have hk:aL s s':=⟨fun b' k u hu=>aJ ((av (.inr (by omega))).trans (hl 1)) _ _ _ (aJ (hl 0) _ _ _ hu),fun _ _ h=>h,fun blk o hs=>World.cell?_alloc_lt _ _ (a:=⟨blk,o,none⟩) (hi.scell blk o hs)⟩;have hnew:s'.w.heap[s.w.heap.size]? = some (.cells #[.pointer none, .slice none 0 0] ku.1 (0,0)):=by show (s.w.heap.push _)[s.w.heap.size]? = _; simp
 have hgo:=hi.change (s':=s') hblt rfl hk (hi.below.alloc hi.below.size _) (by simp [s']) (fun b' k hne=>(av (.inl hne)).trans (av (.inl hne)))
  (fun blk hlt _=>Below.heap_alloc _ _ _ hlt)
  ⟨fun k' hk'=>(av (.inr (by omega))).trans ((av (.inr (by omega))).trans (hl k')),s.w.heap.size, .slice none 0 0,h1,h2,⟨hi.below.size,⟨_, .inl rfl,hnew⟩,⟨rfl, .inl ⟨rfl,rfl⟩⟩,by simp [Value.ownBlock]⟩,fun o hs=>by have:=hi.scell _ _ hs; omega,fun g e=>by simp [Value.ownBlock] at e⟩
  (fun blk ho=>by
   rcases ho with e | ⟨v,e1,e2⟩
   ·rw [h1] at e; simp at e; left; omega
   ·rw [h2] at e1;have:=Option.some.inj e1;subst this
    simp [Value.ownBlock] at e2)
  (fun blk x h=>.inl h) (fun blk x h=>by have:=hi.scell _ _ h; simp [s']; omega)
 exact ⟨s',rfl,rfl,hgo.1,hgo.2, .ptr b 0 _ h1⟩
theorem og (hi:Inv A s) {t:TypeId} (ht:t = ku.1) (hz:dz P t [.nilptr, .slice 1 []] = true) (h:K (.ptr s.h.length 0) (s.h ++ [.bld 0 []])) :
  ar P A s K Kp ((do pure (Next.value (← Instr.alloc t true (.tuple #[]))):Sem Next).run P s.w):=by
 unfold dz at hz
 cases hinfo:P.info? t with
 | none=>simp [hinfo] at hz
 | some i=>
  cases hzero:i.zero with
  | none=>simp [hinfo,hzero] at hz
  | some v=>
   simp only [hinfo,Option.bind_some,hzero] at hz;have hv:v.cells = #[.pointer none, .slice none 0 0]:=by
    generalize v.cells = cs at hz ⊢;obtain ⟨l⟩:=cs
    match l,hz with
    | [a,c],hz=>
     simp only [bg,Bool.and_eq_true] at hz;obtain ⟨h1,h2,_⟩:=hz;have e1:a = .pointer none:=by
      cases a with
      | pointer p=>cases p <;> simp [aH] at h1 ⊢
      | _=>simp [aH] at h1
     have e2:c = .slice none 0 0:=by
      cases c with
      | slice p l cap=>cases p <;> simp [aH] at h2; obtain ⟨rfl,rfl⟩:=h2; rfl
      | _=>simp [aH] at h2
     rw [e1,e2]
    | [],hz=>simp [bg] at hz
    | [_],hz=>simp [bg] at hz
    | _ :: _ :: _ :: _,hz=>simp [bg] at hz
   obtain ⟨s1,e1,e2,i1,g1,d1⟩:=hi.one;obtain ⟨s2,f1,f2,i2,g2,r2⟩:=i1.BM d1;have hrun:(Instr.alloc t true (.tuple #[])).run P s.w = .ok (.pointer (some ⟨s.w.heap.size,0,none⟩)) (s.w.alloc (.cells v.cells t)):=by
    simp [Instr.alloc,zeroValue,typeInfo,hinfo,hzero,newVar,newRow]
   refine ar.value (aj _ _ _ _ hrun) (f2.trans ?_) i2 (g1.trans g2) (v:=.ptr s.h.length 0) ?_ ?_
   ·rw [e2,hv,ht]
   ·rw [e2] at r2; exact r2
   ·rw [f1,e1,aS]; exact h
end
open Go.RowKit
section
variable {P:Program} {s:St} {A:World} {ρ:ay → aa} {ρ':Operand → Value} {K Kp:aa → ab → Prop}
theorem fF.push {ms:Array MapEntry} {clock:Nat} (h:fF ms clock) {k v:Value}:fF (ms.push { key:=k,val:=v,born:=clock }) (clock + 1):=
 ⟨by simp [h.1],fun j hj=>by
  rw [Array.getElem_push];split
  ·exact h.2 j _
  ·rename_i hn; simp at hj; have:=h.1; show clock = j; omega⟩
theorem fF.modify {ms:Array MapEntry} {clock:Nat} (h:fF ms clock) (i:Nat) {f:MapEntry → MapEntry} (hf:∀ e,(f e).born = e.born):fF (ms.modify i f) clock:=
 ⟨by simp [h.1],fun j hj=>by
  have hj':j < ms.size:=by simpa using hj
  rw [Array.getElem_modify];split
  ·rename_i e; subst e; rw [hf]; exact h.2 _ _
  ·exact h.2 _ _⟩
theorem qm {d:TypeDesc} {lk:LK} (hd:eN d = some lk) {k e:aa} {kc ec:Value} (h:di lk k e = true) (hk:Rv s k kc) (he:Rv s e ec) :
  Instr.sameNow d kc ec = some (dG k e):=by
 cases lk <;> cases k <;> cases e <;> simp [di] at h <;> cases hk <;> cases he <;> cases d <;> simp [eN] at hd
 ·simp [Instr.sameNow,dG]
 ·subst h; simp [Instr.sameNow,dG]
 ·simp [Instr.sameNow,dG]
theorem vL {a b:ByteArray} (h:(a == b) = true):a = b:=by
 obtain ⟨x⟩:=a;obtain ⟨y⟩:=b;have h':(x == y) = true:=h;rw [eq_of_beq h']
theorem oJ {lk:LK} {k e:aa} {kc ec:Value} (h:di lk k e = true) (hk:Rv s k kc) (he:Rv s e ec) (hq:dG k e = true) (w:World):(Instr.keyThatStays ec kc).run P w = .ok kc w:=by
 have hb:Instr.sameBits 10000 ec kc = true:=by
  cases lk <;> cases k <;> cases e <;> simp [di] at h <;> cases hk <;> cases he <;> simp [dG] at hq
  ·subst hq; simp [Instr.sameBits]
  ·subst h; subst hq; simp [Instr.sameBits]
  ·have:=vL hq;subst this;simp only [Instr.sameBits];exact hq
 simp [Instr.keyThatStays,hb]
theorem ix {d:TypeDesc} {lk:LK} (hd:eN d = some lk) {k:aa} {kc:Value} (hk:Rv s k kc):∀ (es:List (aa × aa)) (ms:List MapEntry) (i:Nat),ms.length = es.length →
  (∀ j (h1:j < es.length) (h2:j < ms.length),Rv s es[j].1 ms[j].key ∧ Rv s es[j].2 ms[j].val) → gD lk k es = true →
  (Instr.findNow d kc ms i = some none ∧ fg k es = none ∧ ∀ v,fG k v es = es ++ [(k,v)]) ∨
  ∃ j, ∃ (h1:j < es.length) (h2:j < ms.length),Instr.findNow d kc ms i = some (some (i + j,ms[j].val)) ∧ fg k es = some es[j].2 ∧ dG k es[j].1 = true ∧ di lk k es[j].1 = true ∧ ∀ v,fG k v es = es.set j (k,v)
 | [],[],i,_,_,_=>.inl ⟨rfl,rfl,fun _=>rfl⟩
 | e :: es,m :: ms,i,hl,hr,hok=>by
  simp only [gD,Bool.and_eq_true] at hok;have h0:=hr 0 (by simp) (by simp);simp only [List.getElem_cons_zero] at h0;have hs:=qm hd hok.1 hk h0.1
  cases hq:dG k e.1 with
  | true=>
   right;refine ⟨0,by simp,by simp, ?_, ?_,by simpa using hq,by simpa using hok.1,fun v=>?_⟩
   ·simp [Instr.findNow,hs,hq]
   ·simp [fg,hq]
   ·simp [fG,hq]
  | false=>
   rcases ix hd hk es ms (i + 1) (by simpa using hl) (fun j g1 g2=>by have:=hr (j + 1) (by simpa using g1) (by simpa using g2); simpa using this) hok.2 with ⟨a,b,c⟩ | ⟨j,g1,g2,a,b,c,c',dd⟩
   ·exact .inl ⟨by simp [Instr.findNow,hs,hq,a],by simp [fg,hq,b],fun v=>by simp [fG,hq,c v]⟩
   ·refine .inr ⟨j + 1,by simpa using g1,by simpa using g2, ?_, ?_,by simpa using c,by simpa using c',fun v=>?_⟩
    ·simp only [Instr.findNow,hs,hq,a]; simp; omega
    ·simp [fg,hq,b]
    ·simp [fG,hq,dd v]
 | [],_ :: _,_,hl,_,_=>by simp at hl
 | _ :: _,[],_,hl,_,_=>by simp at hl
theorem run_checkKey {t:TypeId} {d:TypeDesc} {lk:LK} (ht:P.underlying t = some d) (hd:eN d = some lk) (b:Bool) (v:Value) (w:World):(Instr.checkKey b 10000 t v).run P w = .ok () w:=by
 show (Instr.checkKey b (9999 + 1) t v).run P w = .ok () w
 unfold Instr.checkKey;cases d <;> simp [eN] at hd <;> simp [underlying,ht]
theorem run_findKey {t:TypeId} {d:TypeDesc} (ht:P.underlying t = some d) {k:Value} {ms:List MapEntry} {r:Option (Nat × Value)} (h:Instr.findNow d k ms 0 = some r) (w:World):(Instr.findKey t k ms).run P w = .ok r w:=by
 simp [Instr.findKey,underlying,ht,h]
theorem ni {k:TypeId} {lk:LK} (h:(P.underlying k).bind eN = some lk):∃ d,P.underlying k = some d ∧ eN d = some lk:=by
 cases hu:P.underlying k with
 | none=>rw [hu] at h; simp at h
 | some d=>rw [hu] at h; exact ⟨d,rfl,h⟩
theorem rW (hi:Inv A s) {t kt e:TypeId} (hu:P.underlying t = some (.map kt e)) {ok:Bool} {lk:LK} (hk:(P.underlying kt).bind eN = some lk) {z:aa} (hz:zeroV P e z = true)
  {xv kv:aa} {x c:Value} (hx:Rv s xv x) (hc:Rv s kv c) (h:mB ok lk z s.h xv kv K):ar P A s K Kp ((do pure (Next.value (← Instr.lookup t x c ok)):Sem Next).run P s.w):=by
 cases xv with
 | map b=>
  simp only [mB] at h
  cases hb:s.h.get b with
  | amap es=>
   rw [hb] at h;simp only at h;have hbs:=ab.get_some hb (by simp);obtain ⟨blk,ms,clock,hl,hB,hh,hsz,hr,hnS,hbn⟩:=hi.obj b _ hbs
   cases hx with
   | map _ blk' hl'=>
    have:blk' = blk:=by rw [hl] at hl'; simpa using hl'.symm
    subst this;obtain ⟨d,hd1,hd2⟩:=ni hk;have hget:(getObj blk').run P s.w = .ok (.map ms clock) s.w:=by simp [getObj,Sem.run,hh]
    obtain ⟨zv,hz1,hz2⟩:∃ zv,(zeroValue e).run P s.w = .ok zv s.w ∧ Rv s z zv:=by
     unfold zeroV at hz
     cases hi':P.info? e with
     | none=>simp [hi'] at hz
     | some i=>
      cases hzz:i.zero with
      | none=>simp [hi',hzz] at hz
      | some v=>simp only [hi',Option.bind_some,hzz] at hz; exact ⟨v,by simp [zeroValue,typeInfo,hi',hzz],b8 hz⟩
    have hf:=ix hd2 hc es ms.toList 0 (by simpa using hsz) (fun j g1 g2=>by have:=hr j g1 (by simpa using g2); simpa using this) h.1
    have fin:∀ (v:aa) (u:Value) (r:Option (Nat × Value)),Instr.findNow d c ms.toList 0 = some r → (match r with | some (_,v)=>u = v | none=>u = zv) → Rv s v u →
      fg kv es = (if r.isSome then some v else none) → (r = none → v = z) → ar P A s K Kp ((do pure (Next.value (← Instr.lookup t (.map (some blk')) c ok)):Sem Next).run P s.w):=by
     intro v u r h1 h2 h3 h4 h5;have hrun:(Instr.lookup t (.map (some blk')) c ok).run P s.w = .ok (if ok then .tuple #[u, .bool r.isSome] else u) s.w:=by
      unfold Instr.lookup;simp only [Sem.run_bind,ah hu,Result.andThen_ok,hget,Sem.run_pure,run_checkKey hd1 hd2,run_findKey hd1 h1]
      cases r with
      | none=>simp only at h2; subst h2; simp [hz1]
      | some q=>obtain ⟨n,q⟩:=q; simp only at h2; subst h2; simp
     refine ar.value (aj _ _ _ _ hrun) rfl hi (.refl s) (v:=cJ ok z (fg kv es)) ?_ h.2;rw [h4];cases ok
     ·cases r with
      | none=>rw [h5 rfl] at h3; simpa [cJ] using h3
      | some q=>simpa [cJ] using h3
     ·cases r with
      | none=>
       rw [h5 rfl] at h3;simp only [Option.isSome_none,Bool.false_eq_true,if_false,cJ,if_true];refine .tup _ _ rfl (fun j g1 g2=>?_)
       match j,g1 with
       | 0,_=>exact h3
       | 1,_=>exact .bool _
      | some q=>
       simp only [Option.isSome_some,cJ,if_true];refine .tup _ _ rfl (fun j g1 g2=>?_)
       match j,g1 with
       | 0,_=>exact h3
       | 1,_=>exact .bool _
    rcases hf with ⟨a,b,_⟩ | ⟨j,g1,g2,a,b,_,_,_⟩
    ·exact fin z zv none a rfl hz2 (by simpa using b) (fun _=>rfl)
    ·exact fin es[j].2 ms.toList[j].val _ a rfl (by have:=(hr j g1 (by simpa using g2)).2; simpa using this) (by simpa using b) (fun e=>by simp at e)
  | _=>rw [hb] at h; exact h.elim
 | _=>exact h.elim
theorem rO (hi:Inv A s) {t kt e:TypeId} (hu:P.underlying t = some (.map kt e)) {lk:LK} (hk:(P.underlying kt).bind eN = some lk)
  {xv kv vv:aa} {x c v:Value} (hx:Rv s xv x) (hc:Rv s kv c) (hv:Rv s vv v) (h:nk lk s.h xv kv vv K):ar P A s K Kp ((do Instr.mapUpdate t x c v; pure Next.skip:Sem Next).run P s.w):=by
 cases xv with
 | map b=>
  simp only [nk] at h
  cases hb:s.h.get b with
  | amap es=>
   rw [hb] at h;simp only at h;have hbs:=ab.get_some hb (by simp);obtain ⟨blk,ms,clock,hl,hB,hh,hsz,hr,hnS,hbn⟩:=hi.obj b _ hbs
   cases hx with
   | map _ blk' hl'=>
    have:blk' = blk:=by rw [hl] at hl'; simpa using hl'.symm
    subst this;obtain ⟨d,hd1,hd2⟩:=ni hk;have hblk:blk' < s.w.heap.size:=(Array.getElem?_eq_some_iff.1 hh).1;have hget:(getObj blk').run P s.w = .ok (.map ms clock) s.w:=by simp [getObj,Sem.run,hh]
    have hf:=ix hd2 hc es ms.toList 0 (by simpa using hsz) (fun j g1 g2=>by have:=hr j g1 (by simpa using g2); simpa using this) h.1;have hown:bu s b (.amap es) blk':=hl
    have fin:∀ (ms':Array MapEntry) (clock':Nat) (es':List (aa × aa)),fG kv vv es = es' → ms'.size = es'.length →
      (∀ j (h1:j < es'.length) (h2:j < ms'.size),Rv s es'[j].1 ms'[j].key ∧ Rv s es'[j].2 ms'[j].val) → fF ms' clock' →
      (Instr.mapUpdate t (.map (some blk')) c v).run P s.w = .ok () (s.w.putObj blk' (.map ms' clock')) →
      ar P A s K Kp ((do Instr.mapUpdate t (.map (some blk')) c v; pure Next.skip:Sem Next).run P s.w):=by
     intro ms' clock' es' h1 h2 h3 hbn' hrun
     let s1:St:={ h:=s.h.set b (.amap es'),lam:=s.lam,S:=s.S,w:=s.w.putObj blk' (.map ms' clock') }
     have hk:aL s s1:=⟨fun _ _ _ h=>h,fun _ _ h=>h,fun g o hs=>World.cell?_of_block (a:=⟨g,o,none⟩) (World.putObj_heap_other (fun e=>hnS o (e ▸ hs)))⟩;have hgo:=hi.change (s':=s1) (List.getElem?_eq_some_iff.1 hbs).1 rfl hk (hi.below.trans ⟨rfl,rfl,rfl,by simp [s1],fun g hg=>World.putObj_heap_other (by omega)⟩) (by simp [s1]) (fun _ _ _=>rfl)
      (fun g _ hno=>World.putObj_heap_other (fun e=>hno (e ▸ ⟨_,hbs,hown⟩)))
      ⟨blk',ms',clock',hl,hB,World.putObj_heap_same hblk,h2,fun j g1 g2=>⟨(h3 j g1 g2).1.keeps hk,(h3 j g1 g2).2.keeps hk⟩,hnS,hbn'⟩
      (fun g ho=>by
       have e:s.lam b 0 = some (.map (some g)):=ho;rw [hl] at e;right;have:blk' = g:=by simpa using e
       rw [← this]; exact ⟨_,hbs,hown⟩)
      (fun _ _ h=>.inl h) (fun g x h=>by have:=hi.scell _ _ h; simp [s1]; omega)
     have hr1:((do Instr.mapUpdate t (.map (some blk')) c v; pure Next.skip:Sem Next).run P s.w) = .ok .skip s1.w:=by
      simp only [Sem.run_bind,hrun,Result.andThen_ok,Sem.run_pure]; rfl
     rw [hr1];refine ⟨.undef,s1,rfl,hgo.1,hgo.2, .undef _, ?_⟩;show K .undef (s.h.set b (.amap es'))
     rw [← h1]; exact h.2
    have hset:∀ o,(setObj blk' o).run P s.w = .ok () (s.w.putObj blk' o):=fun o=>by simp [setObj,Sem.run,hh,World.putObj]
    rcases hf with ⟨a,_,q⟩ | ⟨j,g1,g2,a,_,q1,q2,q⟩
    ·refine fin (ms.push { key:=c,val:=v,born:=clock }) (clock + 1) (es ++ [(kv,vv)]) (q vv) (by simp [hsz]) (fun j g1 g2=>?_) hbn.push ?_
     ·by_cases hj:j < es.length
      ·rw [List.getElem_append_left hj,Array.getElem_push_lt (by omega)];exact hr j hj (by omega)
      ·have hj':j = es.length:=by simp at g1; omega
       subst hj';simp only [List.getElem_append_right (Nat.le_refl _),Nat.sub_self,List.getElem_cons_zero];have:(ms.push { key:=c,val:=v,born:=clock })[es.length]'g2 = { key:=c,val:=v,born:=clock }:=by
        have:=Array.getElem_push_eq (xs:=ms) (x:=({ key:=c,val:=v,born:=clock }:MapEntry));simpa only [hsz] using this
       rw [this];exact ⟨hc,hv⟩
     ·unfold Instr.mapUpdate;simp only [Sem.run_bind,ah hu,Result.andThen_ok,hget,run_checkKey hd1 hd2,run_findKey hd1 a,hset]
    ·have hms:j < ms.size:=by simpa using g2
     have hke:(Instr.keyThatStays ms[j].key c).run P s.w = .ok c s.w:=oJ q2 hc (by have:=(hr j g1 hms).1; simpa using this) q1 s.w;refine fin (ms.modify j fun e=>{ e with key:=c,val:=v }) clock (es.set j (kv,vv)) (q vv) (by simp [hsz]) (fun i h1 h2=>?_) (hbn.modify _ fun _=>rfl) ?_
     ·simp only [List.length_set] at h1;by_cases e:j = i
      ·subst e;simp only [List.getElem_set_self,Array.getElem_modify,if_true];exact ⟨hc,hv⟩
      ·simp only [List.getElem_set_ne e,Array.getElem_modify,if_neg e];exact hr i h1 (by simpa using h2)
     ·unfold Instr.mapUpdate;simp only [Sem.run_bind,ah hu,Result.andThen_ok,hget,run_checkKey hd1 hd2,run_findKey hd1 a,Nat.zero_add,Array.getElem?_eq_getElem hms,Option.map_some,Option.getD_some,hke,hset]
  | _=>rw [hb] at h; exact h.elim
 | _=>exact h.elim
theorem ra (hi:Inv A s) {t e:TypeId} (hu:P.underlying t = some (.slice e)) {sz:Nat} (hsz:P.cellsOf e = sz) (hpos:0 < sz) (hinf:(P.info? e).isSome = true) {xv lv:aa} {c d:Value} (hx:Rv s xv c) (hl:Rv s lv d) (h:oR sz s.h xv lv K) :
  ar P A s K Kp ((do pure (Next.value (← Instr.sliceAt t c (some d) none none)):Sem Next).run P s.w):=by
 cases xv with
 | oslice sz' xs b k=>
  cases lv with
  | int q n=>
   obtain ⟨rfl,h0,h1,h⟩:=h;cases hl
   cases hb:s.h.get b with
   | spare sz'' k'=>
    rw [hb] at h;obtain ⟨rfl,rfl,h⟩:=h;have hbs:=ab.get_some hb (by simp)
    cases hx with
    | oslice _ _ _ _ _ hs hlam=>
     obtain ⟨hno,a,len,cap,hl',hle,hroom⟩:=hi.obj b _ hbs;obtain ⟨a2,cap2,rfl,hin⟩:=hs.bL;have e1:a = a2 ∧ len = xs.length ∧ cap = cap2:=by rw [hlam] at hl'; simp at hl'; exact ⟨hl'.1.symm,hl'.2.1.symm,hl'.2.2.symm⟩
     obtain ⟨rfl,rfl,rfl⟩:=e1;obtain ⟨m,rfl⟩:∃ m:Nat,n = m:=⟨n.toNat,by omega⟩
     have hm:m ≤ xs.length:=by omega
     let cn:Value:=.slice (if cap = m then a else a.map (·.add (m * sz''))) (xs.length - m) (cap - m)
     have hrun:(Instr.sliceAt t (.slice a xs.length cap) (some (.int q m)) none none).run P s.w = .ok cn s.w:=by
      have hb2:(Instr.sliceBounds true xs.length cap (some (.int q m)) none none).run P s.w = .ok (m,xs.length,cap) s.w:=by
       have hmc:(m:Int) ≤ xs.length:=by omega
       simp [Instr.sliceBounds,Instr.sliceBound,asIntOf,hm]
      have:=fQ (a:=a) hu hsz hinf hb2;simpa [Instr.sliceAt,ah hu,cn] using this
     let s':St:={ h:=s.h.set b (.spare sz'' (k' + 1)),lam:=aO s.lam b (k' + 1) cn,S:=s.S,w:=s.w }
     have hk:aL s s':=⟨aJ (hno _ (by omega)),fun _ _ h=>h,fun _ _ _=>rfl⟩;have hblt:b < s.h.length:=(List.getElem?_eq_some_iff.1 hbs).1;have hgo:=hi.change (s':=s') hblt rfl hk hi.below (Nat.le_refl _) (fun b' k hne=>av (.inl hne)) (fun _ _ _=>rfl)
      ⟨fun k2 hk2=>(av (.inr (by omega))).trans (hno k2 (by omega)),_,_,_,aC _ _ _ _,by omega,fun hlt=>by
       obtain ⟨blk,off,vs,el,rfl,hB,hh,hfit,hnS⟩:=hroom (by omega);refine ⟨blk,off + m * sz'',vs,el, ?_,hB,hh, ?_,fun o ho=>hnS o ?_⟩
       ·rw [if_neg (by omega)]; simp [addr_add]
       ·have:(cap - m) * sz'' + m * sz'' = cap * sz'':=by rw [← Nat.add_mul,Nat.sub_add_cancel (Nat.le_trans hm hle)]
        omega
       ·have:(xs.length - m) * sz'' + m * sz'' = xs.length * sz'':=by rw [← Nat.add_mul,Nat.sub_add_cancel hm]
        omega⟩
      (fun g ho=>by
       obtain ⟨off2,len2,cap2,e,hlt2⟩:=ho;have e':aO s.lam b (k' + 1) cn b (k' + 1) = _:=e;simp [cn] at e';obtain ⟨blk,off,vs,el,rfl,hB,hh,hfit,hnS⟩:=hroom (by omega);rw [if_neg (by omega)] at e';simp [addr_add] at e';right
       exact ⟨_,hbs,off,xs.length,cap,by rw [← e'.1.1]; exact hlam,by omega⟩)
      (fun _ _ h=>.inl h) (fun blk x h=>hi.scell _ _ h)
     refine ar.value (aj _ _ _ _ hrun) (s':=s') rfl hgo.1 hgo.2 (v:=.oslice sz'' (xs.drop m) b (k' + 1)) (.oslice _ _ _ _ _ ?_ (aC _ _ _ _)) (by simpa using h);have:=l0 (s:=s) (sz:=sz'') (l:=m) (h:=xs.length) (mm:=cap) hs (.inl rfl) hm (Nat.le_refl _) hle;rw [List.take_length] at this;exact this.keeps hk
   | _=>rw [hb] at h; exact h.elim
  | _=>exact h.elim
 | _=>exact h.elim
theorem qh (hcn:∀ c,ρ' (.const c) = c) (hi:Inv A s) {neg:Bool} {op:BinOp} {t:TypeId} {a:Operand} (hop:op = if neg then BinOp.neq else BinOp.eql) (ht:(match P.underlying t with | some (.interface _)=>true | _=>false) = true)
  {xv:aa} (hx:Rv s xv (ρ' a)) (h:oe neg s.h xv K):ar P A s K Kp ((do pure (Next.value (← (do eqGuard op t a (.const .nilIface) (ρ' a) (ρ' (.const .nilIface)); Go.binOp op t (ρ' a) (ρ' (.const .nilIface)):Sem Value))):Sem Next).run P s.w):=by
 rw [hcn];obtain ⟨ms,hu⟩:∃ ms,P.underlying t = some (.interface ms):=by
  cases hu:P.underlying t with
  | none=>rw [hu] at ht; cases ht
  | some d=>cases d <;> rw [hu] at ht <;> first | (cases ht; done) | exact ⟨_,rfl⟩
 generalize hd:ρ' a = d at hx;cases hx <;> first | (exact h.elim) | skip
 ·rename_i u v c hr;have heq:(Op.equal t (.iface u c) .nilIface).run P s.w = .ok false s.w:=by
   show (Op.equalIn (9999 + 1) t (.iface u c) .nilIface).run P s.w = _
   unfold Op.equalIn;simp [underlying,hu]
  subst hop;refine ar.value (aj _ (.bool neg) _ _ ?_) rfl hi (.refl s) (v:=.bool neg) (.bool _) h;cases neg <;> simp [eqGuard,Go.binOp,heq]
 ·have heq:(Op.equal t .nilIface .nilIface).run P s.w = .ok true s.w:=by
   show (Op.equalIn (9999 + 1) t .nilIface .nilIface).run P s.w = _
   unfold Op.equalIn;simp [underlying,hu]
  subst hop;refine ar.value (aj _ (.bool !neg) _ _ ?_) rfl hi (.refl s) (v:=.bool !neg) (.bool _) h;cases neg <;> simp [eqGuard,Go.binOp,heq]
theorem rn (hcn:∀ c,ρ' (.const c) = c) (hi:Inv A s) {neg:Bool} {op:BinOp} {t:TypeId} {a:Operand} (hop:op = if neg then BinOp.neq else BinOp.eql) (ht:(match P.underlying t with | some (.slice _)=>true | _=>false) = true)
  {xv:aa} (hx:Rv s xv (ρ' a)) (h:pb neg s.h xv K):ar P A s K Kp ((do pure (Next.value (← (do eqGuard op t a (.const (.slice none 0 0)) (ρ' a) (ρ' (.const (.slice none 0 0))); Go.binOp op t (ρ' a) (ρ' (.const (.slice none 0 0))):Sem Value))):Sem Next).run P s.w):=by
 rw [hcn];have hrun:∀ (ad:Option Addr) (n c:Nat),ρ' a = .slice ad n c → (do eqGuard op t a (.const (.slice none 0 0)) (ρ' a) (.slice none 0 0); Go.binOp op t (ρ' a) (.slice none 0 0):Sem Value).run P s.w = .ok (.bool (neg != ad.isNone)) s.w:=by
  intro ad n c he;rw [he]
  cases hu:P.underlying t with
  | none=>rw [hu] at ht; cases ht
  | some d=>
   cases d with
   | slice e=>
    have heq:(Op.equal t (.slice ad n c) (.slice none 0 0)).run P s.w = .ok ad.isNone s.w:=by
     show (Op.equalIn (9999 + 1) t (.slice ad n c) (.slice none 0 0)).run P s.w = _
     unfold Op.equalIn;cases ad <;> simp [underlying,hu]
    subst hop;cases neg <;> simp [eqGuard,Go.binOp,heq]
   | _=>rw [hu] at ht; cases ht
 have fin:∀ (xs:List aa) (sz:Nat),Rv s (.slice sz xs) (ρ' a) → K (.bool neg) s.h ∧ (xs = [] → K (.bool !neg) s.h) → ar P A s K Kp ((do pure (Next.value (← (do eqGuard op t a (.const (.slice none 0 0)) (ρ' a) (.slice none 0 0); Go.binOp op t (ρ' a) (.slice none 0 0):Sem Value))):Sem Next).run P s.w):=by
  intro xs sz hr hk;obtain ⟨ad,cap,he,hc⟩:=hr.bL;have:=hrun ad _ _ he;rcases hc with rfl | ⟨blk,off,us,rfl,_⟩
  ·cases ad with
   | none=>exact ar.value (aj _ _ _ _ this) rfl hi (.refl s) (v:=.bool !neg) (by simpa using Rv.bool (s:=s) _) (hk.2 rfl)
   | some ad=>exact ar.value (aj _ _ _ _ this) rfl hi (.refl s) (v:=.bool neg) (by simpa using Rv.bool (s:=s) _) hk.1
  ·exact ar.value (aj _ _ _ _ this) rfl hi (.refl s) (v:=.bool neg) (by simpa using Rv.bool (s:=s) _) hk.1
 cases xv with
 | slice sz xs=>exact fin xs sz hx h
 | oslice sz xs b k=>cases hx with | oslice _ _ _ _ _ hs hl=>exact fin xs sz hs h
 | sref sz b off len n=>
  simp only [pb] at h;generalize hd:ρ' a = d at hx
  cases hx with
  | sref _ _ _ _ _ blk cap hl h1 h2=>
   have:=hrun _ _ _ hd;rw [hd] at this;exact ar.value (aj _ _ _ _ this) rfl hi (.refl s) (v:=.bool neg) (by simpa using Rv.bool (s:=s) _) h.1
  | sref0 _ _ ad hl=>
   have:=hrun _ _ _ hd;rw [hd] at this
   cases ad with
   | none=>exact ar.value (aj _ _ _ _ this) rfl hi (.refl s) (v:=.bool !neg) (by simpa using Rv.bool (s:=s) _) (h.2 rfl)
   | some ad=>exact ar.value (aj _ _ _ _ this) rfl hi (.refl s) (v:=.bool neg) (by simpa using Rv.bool (s:=s) _) h.1
  | srefE _ _ _ _ ad v hl h0 h1=>
   have:=hrun _ _ _ hd;rw [hd] at this
   cases ad with
   | none=>exact ar.value (aj _ _ _ _ this) rfl hi (.refl s) (v:=.bool !neg) (by simpa using Rv.bool (s:=s) _) (h.2 rfl)
   | some ad=>exact ar.value (aj _ _ _ _ this) rfl hi (.refl s) (v:=.bool neg) (by simpa using Rv.bool (s:=s) _) h.1
 | _=>exact h.elim
theorem mJ {g:Nat}:∀ {l:List (Nat × List (IntKind × Int))} {n:Nat} {p:IntKind × Int},(fx g l)[n]? = some p → (g,fx g l) ∈ l
 | [],n,p,h=>by simp [fx] at h
 | (k,cs) :: r,n,p,h=>by
  simp only [fx] at h ⊢
  split at h
  ·rename_i e; subst e; simp
  ·rename_i e; rw [if_neg e]; exact List.mem_cons_of_mem _ (mJ h)
theorem vp (hgl:∀ g,ρ' (.global g) = .pointer (some ⟨g,0,none⟩)) (hi:Inv A s) {t:TypeId} {g:Nat} (hu:(match P.underlying t with | some (.array n e)=>n == (fx g bP).length && P.cellsOf e == 1 && (P.info? e).isSome | _=>false) = true)
  {xv:aa} {c:Value} (hx:Rv s xv c) (h:yB g s.h xv K):ar P A s K Kp ((do pure (Next.value (← Instr.indexAt t (ρ' (.global g)) c)):Sem Next).run P s.w):=by
 cases xv with
 | int q n=>
  cases hx;obtain ⟨h0,h⟩:=h
  cases ht:(fx g bP)[n.toNat]? with
  | none=>rw [ht] at h; exact h.elim
  | some p=>
   obtain ⟨k,u⟩:=p;rw [ht] at h;simp only at h
   cases hv:P.underlying t with
   | none=>rw [hv] at hu; cases hu
   | some d=>
    cases d with
    | array m e=>
     rw [hv] at hu;simp only [Bool.and_eq_true,beq_iff_eq] at hu;obtain ⟨⟨h1,h2⟩,h3⟩:=hu;have hlt:n.toNat < (fx g bP).length:=(List.getElem?_eq_some_iff.1 ht).1;have hl:=hi.laid.1 g _ (mJ ht) n.toNat hlt;have hget:(fx g bP)[n.toNat] = (k,u):=(List.getElem?_eq_some_iff.1 ht).2;rw [hget] at hl;have hrun:(Instr.indexAt t (ρ' (.global g)) (.int q n)).run P s.w = .ok (.pointer (some ⟨g,n.toNat,none⟩)) s.w:=by
      rw [hgl];have hm:n < (m:Int):=by rw [h1]; omega
      simp [Instr.indexAt,asIntOf,ah hv,Instr.sureAddr,h0,hm,aG h3,h2,addr_add]
     refine ar.value (aj _ _ _ _ hrun) rfl hi (.refl s) (v:=.pval (.int k u)) (.pval _ _ g n.toNat (.int k u) (fun j hj=>?_)) h;have:j = 0:=by simp [Value.cells] at hj; omega
     subst this;simpa [Value.cells] using hl
    | _=>rw [hv] at hu; cases hu
 | _=>exact h.elim
theorem Inv.nm (hi:Inv A s) {b:Nat} (d1:s.h[b]? = some .hole):∃ s',s'.h = s.h.set b (.amap []) ∧ s'.w = s.w.alloc (.map #[] 0) ∧ Inv A s' ∧ aT s s' ∧ Rv s' (.map b) (.map (some s.w.heap.size)):=by
 have hl:∀ k,s.lam b k = none:=hi.obj _ _ d1
 let s':St:={ h:=s.h.set b (.amap []),lam:=aO s.lam b 0 (.map (some s.w.heap.size)),S:=s.S,w:=s.w.alloc (.map #[] 0) }
 have hk:aL s s':=⟨aJ (hl 0),fun _ _ h=>h,fun blk o hs=>World.cell?_alloc_lt _ _ (a:=⟨blk,o,none⟩) (hi.scell blk o hs)⟩;have hnew:s'.w.heap[s.w.heap.size]? = some (.map #[] 0):=World.alloc_heap_new _ _;have hgo:=hi.change (s':=s') (List.getElem?_eq_some_iff.1 d1).1 rfl hk (hi.below.alloc hi.below.size _) (by simp [s']) (fun b' k hne=>av (.inl hne))
  (fun blk hlt _=>Below.heap_alloc _ _ _ hlt)
  ⟨s.w.heap.size, #[],0,aC _ _ _ _,hi.below.size,hnew,rfl,fun j h1=>by simp at h1,fun o hs=>(by have:=hi.scell _ _ hs; omega),rfl,fun j h=>by simp at h⟩
  (fun blk ho=>by
   have e:aO s.lam b 0 (.map (some s.w.heap.size)) b 0 = some (.map (some blk)):=ho
   simp at e; left; omega)
  (fun blk x h=>.inl h) (fun blk x h=>by have:=hi.scell _ _ h; simp [s']; omega)
 exact ⟨s',rfl,rfl,hgo.1,hgo.2, .map _ _ (aC _ _ _ _)⟩
theorem ox (hcn:∀ c,ρ' (.const c) = c) {t:TypeId} {r:Option Operand} (hu:(match P.underlying t with | some (.map _ _)=>true | _=>false) = true) (hr:(match r with | none=>true | some (.const (.int _ _))=>true | _=>false) = true) (w:World) :
  (Instr.makeMap t (r.map ρ')).run P w = .ok (.map (some w.heap.size)) (w.alloc (.map #[] 0)):=by
 cases r with
 | none=>simp [Instr.makeMap]
 | some y=>
  cases y with
  | const c=>
   cases c with
   | int q n=>
    cases hv:P.underlying t with
    | none=>rw [hv] at hu; cases hu
    | some d=>
     cases d with
     | map k e=>simp [Instr.makeMap,hcn,underlying,hv,asInt,asIntOf]
     | _=>rw [hv] at hu; cases hu
   | _=>cases hr
  | _=>cases hr
theorem HO (hcn:∀ c,ρ' (.const c) = c) (hi:Inv A s) {b:Nat} (hb:s.h[b]? = some .hole) {t:TypeId} {r:Option Operand} (hu:(match P.underlying t with | some (.map _ _)=>true | _=>false) = true) (hr:(match r with | none=>true | some (.const (.int _ _))=>true | _=>false) = true)
  (h:K (.map b) (s.h.set b (.amap []))):ar P A s K Kp ((do pure (Next.value (← Instr.makeMap t (r.map ρ'))):Sem Next).run P s.w):=by
 obtain ⟨s',e1,e2,i1,g1,r1⟩:=hi.nm hb;exact ar.value (aj _ _ _ _ (ox hcn hu hr s.w)) e2 i1 g1 r1 (by rw [e1]; exact h)
theorem qo (hcn:∀ c,ρ' (.const c) = c) (hi:Inv A s) {t:TypeId} {r:Option Operand} (hu:(match P.underlying t with | some (.map _ _)=>true | _=>false) = true) (hr:(match r with | none=>true | some (.const (.int _ _))=>true | _=>false) = true)
  (h:K (.map s.h.length) (s.h ++ [.amap []])):ar P A s K Kp ((do pure (Next.value (← Instr.makeMap t (r.map ρ'))):Sem Next).run P s.w):=by
 obtain ⟨s1,e1,e2,i1,g1,d1⟩:=hi.one;obtain ⟨s',f1,f2,i2,g2,r2⟩:=i1.nm d1;rw [e2] at r2;exact ar.value (aj _ _ _ _ (ox hcn hu hr s.w)) (by rw [f2,e2]) i2 (g1.trans g2) r2 (by rw [f1,e1,aS]; exact h)
theorem Hu (hi:Inv A s) {b:Nat} (hb:s.h[b]? = some .hole) {t e:TypeId} (ht:P.underlying t = some (.slice e)) {i:TypeInfo} (hinf:P.info? e = some i) {zv:Value} (hzv:i.zero = some zv) {sz bytes:Nat} (hsz:i.size = sz) (hby:i.bytes = bytes) (hzs:zv.cells.size = sz)
  {z:aa} (hz:aH z zv = true) {nv cv:aa} {c d:Value} (hn:Rv s nv c) (hc:Rv s cv d) (i1:isInt nv) (i2:isInt cv) (h0:0 ≤ aP nv) (h1:aP nv ≤ aP cv) (h2:aP cv * bytes ≤ 140737488355328) (h3:aP cv ≤ 140737488355328)
  (hK:K (.sref sz b 0 (aP nv).toNat (aP nv).toNat) (s.h.set b (.arr sz (List.replicate (aP nv).toNat z)))) :
  ar P A s K Kp ((do pure (Next.value (← Instr.makeSlice t c d)):Sem Next).run P s.w):=by
 subst hsz; subst hby;obtain ⟨kn,rfl,_⟩:=bq hn i1;obtain ⟨kc,rfl,_⟩:=bq hc i2;generalize aP nv = n at *;generalize aP cv = cp at *;have hrz:Rv s z zv:=b8 hz;have hrun:=run_make s.w t e i zv ht hinf hzv kn kc n cp h0 h1 (by rw [Int.mul_comm]; omega) (by omega);have hC:(madeCells zv.cells (cp.toNat * i.size)).size = cp.toNat * i.size:=by simp [madeCells]
 have he:bV s i.size (List.replicate n.toNat z) (List.replicate n.toNat zv) (madeCells zv.cells (cp.toNat * i.size)):=by
  refine ⟨by simp,fun j g1 g2=>⟨by simpa using hrz,by simpa using hzs⟩,fun p j g2 gj=>?_⟩;simp only [List.getElem_replicate] at gj ⊢;have hp:p < cp.toNat:=by simp at g2; omega
  have hlt:p * i.size + j < cp.toNat * i.size:=bY hp (by omega);have hmod:(p * i.size + j) % zv.cells.size = j:=by rw [hzs,Nat.mul_comm,Nat.mul_add_mod]; exact Nat.mod_eq_of_lt (by omega)
  simp [madeCells,hlt,hmod,gj]
 obtain ⟨s3,b1,b2,j3,g3,r3⟩:=hi.jc hb e cp.toNat (by simp; omega) hC he (by omega);rw [List.length_replicate] at r3;exact ar.value (aj _ _ _ _ hrun) b2 j3 g3 r3 (by rw [b1]; exact hK)
end
end Go.AM
