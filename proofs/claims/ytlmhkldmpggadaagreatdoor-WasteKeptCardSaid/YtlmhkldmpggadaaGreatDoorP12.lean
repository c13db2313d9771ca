/- A struct, or a cell, whose nil slice has its own room; a slice in a cell is handed on for good. -/
import Derived.Test.YtlmhkldmpggadaaGreatDoorP11
namespace Go.AM
open Go.RowKit
section
variable {P:Program} {s:St} {A:World} {ρ:aO → ag} {ρ':Operand → Value} {K Kp:ag → af → Prop}
theorem AR (hi:Inv A s) (ha:ia s ρ ρ') {t:TypeId} {z:List ag} {ps:List (Nat × Nat × aO)} {parts:Array (Nat × Operand)}
  (hz:gL P t (z.map ag.kI) = true) (ht:pN P t = true) (hp:jg P t ps parts.toList = true) (ho:ir (dz z s.h.length).1.length ρ ps)
  (h:K (.agg (tp (dz z s.h.length).1 (ps.map fun p=>(p.1,(ρ p.2.2).cells)))) (s.h ++ (dz z s.h.length).2)) :
  aC P A s K Kp ((do pure (Next.value (← Instr.build t (parts.map fun x=>(x.1,ρ' x.2)))):Sem Next).run P s.w):=by
 unfold gL at hz
 cases hinfo:P.info? t with
 | none=>simp [hinfo] at hz
 | some i=>
  cases hzero:i.zero with
  | none=>simp [hinfo,hzero] at hz
  | some v=>
   simp only [hinfo,Option.bind_some,hzero] at hz;obtain ⟨s1,a1,a2,a3,a4,a5,a6⟩:=hi.BV hz
   have hrow:Row s1 (dz z s.h.length).1 v.cells:=⟨by simpa using a5.symm,fun j h1 h2=>by
    have:=a6 j h1 (by simpa using h2)
    simpa using this⟩
   obtain ⟨c,e1,e2⟩:=su (P:=P) (ha.keeps a4.keeps) ⟨v,by simp [zeroValue,typeInfo,hinfo,hzero],hrow⟩ ht hp ho;refine aC.value (av _ _ _ _ (a2 ▸ e1)) rfl a3 a4 e2 ?_;rw [a1]; exact h
theorem AH (hi:Inv A s) {t:TypeId} {sz:Nat} (ht:P.cellsOf t = 1) (hinf:(P.info? t).isSome = true) {a:ag} {c:Value} (hac:Rv s a c)
  (h:if sz < 1000 then gu (s.h ++ [.spare sz 0]) 1 (.oslice sz [] s.h.length 0) a ∧ K .undef (jK (s.h ++ [.spare sz 0]) (.oslice sz [] s.h.length 0) a)
   else gu (s.h ++ [.arr (sz - 1000) []]) 1 (.sref (sz - 1000) s.h.length 0 0 0) a ∧ K .undef (jK (s.h ++ [.arr (sz - 1000) []]) (.sref (sz - 1000) s.h.length 0 0 0) a)) :
  aC P A s K Kp ((do Instr.storeAt t c (.slice none 0 0); pure Next.skip:Sem Next).run P s.w):=by
 obtain ⟨s1,e1,e2,i1,g1,d1⟩:=hi.one
 split at h
 ·obtain ⟨ho,h⟩:=h;obtain ⟨s2,f1,f2,i2,g2,k2,_⟩:=i1.gC d1 sz none 0;have h2:s2.h = s.h ++ [.spare sz 0]:=by rw [f1,e1]; exact bQ _ _ _
  have hw:s2.w = s.w:=f2.trans e2;rw [← h2] at ho h;rw [← hw];exact aC.from (g1.trans g2) (lq i2 ht hinf (hac.keeps (g1.trans g2).keeps) (.oslice _ _ _ _ _ (.slice0 sz _ _) k2) ho h)
 ·obtain ⟨ho,h⟩:=h;obtain ⟨s2,f1,f2,i2,g2,k2⟩:=i1.lO d1 (sz - 1000) none;have h2:s2.h = s.h ++ [.arr (sz - 1000) []]:=by rw [f1,e1]; exact bQ _ _ _
  have hw:s2.w = s.w:=f2.trans e2;rw [← h2] at ho h;rw [← hw];exact aC.from (g1.trans g2) (lq i2 ht hinf (hac.keeps (g1.trans g2).keeps) (.sref0 _ _ _ k2) ho h)
theorem Inv.wL (hi:Inv A s) {b:Nat} {cs cs':List ag} (hb:s.h[b]? = some (.box cs)) (hl:cs'.length = cs.length)
  (hr:∀ (vs:Array Value),vs.size = cs.length → (∀ j (h1:j < cs.length) (h2:j < vs.size),Rv s cs[j] vs[j]) → (∃ blk el,s.lam b 0 = some (.pointer (some ⟨blk,0,none⟩)) ∧ s.w.heap[blk]? = some (.cells vs el (0,0))) → ∀ j (h1:j < cs'.length) (h2:j < vs.size),Rv s cs'[j] vs[j]) :
  ∃ s',s'.h = s.h.set b (.box cs') ∧ s'.w = s.w ∧ Inv A s' ∧ bV s s':=by
 have hblt:b < s.h.length:=(List.getElem?_eq_some_iff.1 hb).1;obtain ⟨blk,vs,el,hlam,hB,hh,hsz,hrv,hnS⟩:=hi.obj b _ hb;have hown:dA s b (.box cs) blk:=hlam
 let s':St:={ h:=s.h.set b (.box cs'),lam:=s.lam,S:=s.S,w:=s.w }
 have hk:bq s s':=⟨fun _ _ _ h=>h,fun _ _ h=>h,fun _ _ _=>rfl⟩;have hrv':=hr vs hsz hrv ⟨blk,el,hlam,hh⟩;have hgo:=hi.change (s':=s') hblt rfl hk hi.below (Nat.le_refl _) (fun _ _ _=>rfl) (fun _ _ _=>rfl)
  ⟨blk,vs,el,hlam,hB,hh,by omega,fun j h1 h2=>(hrv' j h1 h2).keeps hk,hnS⟩
  (fun g ho=>by
   have e:s.lam b 0 = some (.pointer (some ⟨g,0,none⟩)):=ho;rw [hlam] at e;have:blk = g:=by simpa using e
   right; rw [← this]; exact ⟨_,hb,hown⟩)
  (fun _ _ h=>.inl h) hi.scell
 exact ⟨s',rfl,rfl,hgo.1,hgo.2⟩
theorem Inv.Cm (hi:Inv A s) {b b' off o len n sz:Nat} {cs xs:List ag} (hb:s.h[b]? = some (.box cs)) (hc:cs[off]? = some (.sref sz b' o len n)) (hb':s.h[b']? = some (.arr sz xs)) (hn:xs.length = n) :
  ∃ s',s'.h = (s.h.set b' .dead).set b (.box (cs.set off (.slice sz ((xs.drop o).take len)))) ∧ s'.w = s.w ∧ Inv A s' ∧ bV s s':=by
 obtain ⟨hoff,hc⟩:=List.getElem?_eq_some_iff.1 hc;have hne:b' ≠ b:=fun e=>by subst e; rw [hb] at hb'; cases hb'
 obtain ⟨blk,vs,el,hlam,hB,hh,hsz,hrv,hnS⟩:=hi.obj b _ hb;have h0:=hrv off hoff (by omega);rw [hc] at h0;obtain ⟨s1,e1,e2,i1,g1,r1⟩:=hi.qG hb' h0 hn;have hb1:s1.h[b]? = some (.box cs):=by rw [e1,List.getElem?_set_ne hne]; exact hb
 obtain ⟨s2,f1,f2,i2,g2⟩:=i1.wL hb1 (cs':=cs.set off (.slice sz ((xs.drop o).take len))) (by simp) fun vs2 hs2 hr2 ⟨blk2,el2,hl2,hh2⟩ j h1 h2=>by
  have hlam1:=g1.keeps.lam _ _ _ hlam;rw [hlam1] at hl2;have:blk2 = blk:=by simpa using hl2.symm
  subst this;rw [e2,hh] at hh2;have:vs2 = vs:=by simp at hh2; exact hh2.1.symm
  subst this;by_cases hj:off = j
  ·subst hj;simpa using r1
  ·rw [List.getElem_set_ne hj];exact hr2 j (by simpa using h1) h2
 exact ⟨s2,by rw [f1,e1],f2.trans e2,i2,g1.trans g2⟩
theorem Inv.C8 (hi:Inv A s) {b sz:Nat} {xs xs':List ag} (hb:s.h[b]? = some (.arr sz xs)) (hl:xs'.length = xs.length)
  (hr:∀ (us:List Value),us.length = xs.length → (∀ i (h1:i < xs.length) (h2:i < us.length),Rv s xs[i] us[i] ∧ us[i].cells.size = sz) →
   (∃ blk cap vs el,s.lam b xs.length = some (.slice (some ⟨blk,0,none⟩) xs.length cap) ∧ s.w.heap[blk]? = some (.cells vs el (0,0)) ∧ ∀ i j (h2:i < us.length) (hj:j < us[i].cells.size),vs[i * sz + j]? = some us[i].cells[j]) →
   ∀ i (h1:i < xs'.length) (h2:i < us.length),Rv s xs'[i] us[i]) :
  ∃ s',s'.h = s.h.set b (.arr sz xs') ∧ s'.w = s.w ∧ Inv A s' ∧ bV s s':=by
 have hblt:b < s.h.length:=(List.getElem?_eq_some_iff.1 hb).1;have hobj:=hi.obj b _ hb
 let s':St:={ h:=s.h.set b (.arr sz xs'),lam:=s.lam,S:=s.S,w:=s.w }
 have hk:bq s s':=⟨fun _ _ _ h=>h,fun _ _ h=>h,fun _ _ _=>rfl⟩;have hgo:=hi.change (s':=s') hblt rfl hk hi.below (Nat.le_refl _) (fun _ _ _=>rfl) (fun _ _ _=>rfl)
  (by
   refine ⟨fun k hk'=>hobj.1 k (by omega), ?_⟩;rcases hobj.2 with ⟨hx,ha⟩ | ⟨blk,cap,vs,el,us,h0,hlam,hB,hh,hsz,hc,hu,hrv,hvs,hnS⟩
   ·subst hx;exact .inl ⟨List.eq_nil_of_length_eq_zero hl,ha⟩
   ·refine .inr ⟨blk,cap,vs,el,us,h0,by rw [hl]; exact hlam,hB,hh,hsz,by omega,by omega,fun i h1 h2=>⟨?_,(hrv i (by omega) h2).2⟩,hvs,hnS⟩
    exact (hr us hu hrv ⟨blk,cap,vs,el,hlam,hh,hvs⟩ i h1 h2).keeps hk)
  (fun g ho=>by
   obtain ⟨cap,h1,h2⟩:=ho;right;rw [hl] at h2
   exact ⟨_,hb,cap,h1,h2⟩)
  (fun _ _ h=>.inl h) hi.scell
 exact ⟨s',rfl,rfl,hgo.1,hgo.2⟩
theorem Inv.A9 (hi:Inv A s) {b b' i off o len n esz sz:Nat} {xs ys cs:List ag} (hb:s.h[b]? = some (.arr esz xs)) (hx:xs[i]? = some (.agg cs)) (hc:cs[off]? = some (.sref sz b' o len n))
  (hb':s.h[b']? = some (.arr sz ys)) (hn:ys.length = n) (hne:b' ≠ b) :
  ∃ s',s'.h = (s.h.set b' .dead).set b (.arr esz (xs.set i (.agg (cs.set off (.slice sz ((ys.drop o).take len)))))) ∧ s'.w = s.w ∧ Inv A s' ∧ bV s s':=by
 obtain ⟨hil,hx⟩:=List.getElem?_eq_some_iff.1 hx;obtain ⟨hoff,hc⟩:=List.getElem?_eq_some_iff.1 hc;rcases (hi.obj b _ hb).2 with ⟨h0,_⟩ | ⟨blk,cap,vs,el,us,h0,hlam,hB,hh,hsz,hcp,hu,hrv,hvs,hnS⟩
 ·subst h0; simp at hil
 have hui:i < us.length:=by omega
 have r0:=hrv i hil hui;rw [hx] at r0;obtain ⟨vs0,e0,hvl,hvr⟩:=r0.1.ig;have hoff':off < vs0.size:=by omega
 have r1:=hvr off hoff hoff';rw [hc] at r1;obtain ⟨s1,e1,e2,i1,g1,r2⟩:=hi.qG hb' r1 hn;have hb1:s1.h[b]? = some (.arr esz xs):=by rw [e1,List.getElem?_set_ne hne]; exact hb
 obtain ⟨s2,f1,f2,i2,g2⟩:=i1.C8 hb1 (xs':=xs.set i (.agg (cs.set off (.slice sz ((ys.drop o).take len))))) (by simp) fun us2 hu2 hr2 ⟨blk2,cap2,vs2,el2,hl2,hh2,hv2⟩ j h1 h2=>by
  have hlam1:=g1.keeps.lam _ _ _ hlam;rw [hlam1] at hl2;have:blk2 = blk:=by simp at hl2; exact hl2.1.symm
  subst this;rw [e2,hh] at hh2;have:vs2 = vs:=by simp at hh2; exact hh2.1.symm
  subst this;have h1':j < xs.length:=by simpa using h1
  by_cases hj:i = j
  ·subst hj;have r3:=hr2 i h1' h2;rw [hx] at r3;obtain ⟨vs3,e3,hvl3,hvr3⟩:=r3.1.ig;have hsame:vs3 = vs0:=by
    apply Array.ext (by omega);intro k k1 k2;have a1:=hvs i k hui (by rw [e0]; exact k2);have a2:=hv2 i k h2 (by rw [e3]; exact k1);rw [a1] at a2;have a3:=Option.some.inj a2;simp only [e0,e3,Value.cells] at a3;exact a3.symm
   simp only [List.getElem_set_self];rw [e3,hsame];refine .agg _ _ (by simp; omega) fun k k1 k2=>?_;have k1':k < cs.length:=by simpa using k1
   by_cases hk:off = k
   ·subst hk;simp only [List.getElem_set_self];exact r2
   ·simp only [List.getElem_set_ne hk];have:=hvr3 k k1' (by omega);simpa [hsame] using this
  ·simp only [List.getElem_set_ne hj];exact (hr2 j h1' h2).1
 exact ⟨s2,by rw [f1,e1],f2.trans e2,i2,g1.trans g2⟩
theorem rN:∀ {l:List ag},mg l = true → ∀ j (h:j < l.length),l[j].gJ = true
 | v :: r,h,0,_=>by simp only [mg,Bool.and_eq_true] at h; exact h.1
 | v :: r,h,j + 1,hj=>by simp only [mg,Bool.and_eq_true] at h; simpa using rN h.2 j (by simpa using hj)
theorem DS (hi:Inv A s) {t e:TypeId} {n sz:Nat} (ht:P.underlying t = some (.array n e)) (he:P.cellsOf e = 1) (hinf:(P.info? e).isSome = true)
  {xv:ag} {c:Value} (hx:Rv s xv c) (h:EC n sz s.h xv K):aC P A s K Kp ((do pure (Next.value (← Instr.sliceAt t c none none none)):Sem Next).run P s.w):=by
 unfold EC at h
 split at h
 ·rename_i b
  cases hb:s.h.get b with
  | box cs=>
   rw [hb] at h;obtain ⟨rfl,hn,hs,hk⟩:=h;obtain ⟨s',e1,e2,i',g',r1,_⟩:=hi.wg (af.get_some hb (by simp)) hx
   cases r1 with
   | pval _ u blk off hv hm=>
    obtain ⟨vs,rfl,hvl,hvr⟩:=hv.ig;have off0:off = 0:=by cases hx; rfl
    subst off0;have hsz:=aT (P:=P) hinf s.w;rw [he] at hsz;have hrun:(Instr.sliceAt t (.pointer (some ⟨blk,0,none⟩)) none none none).run P s.w = .ok (.slice (some ⟨blk,0,none⟩) n n) s.w:=by
     unfold Instr.sliceAt;simp only [Sem.run_bind,ar ht,Result.andThen_ok];by_cases hn0:n = 0
     ·simp [Instr.sureAddr,Instr.sliceBounds,hsz,hn0]
     ·simp [Instr.sureAddr,Instr.sliceBounds,hsz,hn0,addr_add]
    have hsc:∀ j (hj:j < vs.size),vs[j].cells = #[vs[j]]:=fun j hj=>eh (hvr j (by omega) hj) (rN hs j (by omega));refine aC.value (av _ _ _ _ hrun) e2 i' g' ?_ (by rw [e1]; exact hk);have hvn:vs.size = n:=by omega
    refine Rv.slice 1 cs blk 0 n n vs.toList (by simpa using hvl) (by omega) (Nat.le_refl _) (fun i h1 h2=>by have:=hvr i h1 (by simpa using h2); simpa using this) (fun i h2=>?_);have h2':i < vs.size:=by simpa using h2
    refine ⟨by simp [hsc i h2'],fun j hj=>?_⟩;have hj0:j = 0:=by simp [hsc i h2'] at hj; exact hj
    subst hj0;have:=hm i h2';simp only [Nat.zero_add,Nat.mul_one,Nat.add_zero] at this ⊢;refine ⟨this.1,this.2.trans ?_⟩;simp [Value.cells] at *;simp [hsc i h2']
  | _=>rw [hb] at h; exact h.elim
 ·exact h.elim
theorem Inv.HN (hi:Inv A s) {b:Nat} (hb:s.h[b]? = some .hole) :
  ∃ s',s'.h = s.h.set b (.bld 0 []) ∧ s'.w = s.w.alloc (.cells #[.pointer none, .slice none 0 0] uY.1) ∧ Inv A s' ∧ bV s s' ∧ Rv s' (.ptr b 0) (.pointer (some ⟨s.w.heap.size,0,none⟩)):=by
 have hblt:b < s.h.length:=(List.getElem?_eq_some_iff.1 hb).1;have hl:∀ k,s.lam b k = none:=hi.obj b _ hb
 let s':St:={ h:=s.h.set b (.bld 0 []),lam:=bG (bG s.lam b 0 (.pointer (some ⟨s.w.heap.size,0,none⟩))) b 1 (.slice none 0 0),S:=s.S,w:=s.w.alloc (.cells #[.pointer none, .slice none 0 0] uY.1) }
 have h1:s'.lam b 0 = some (.pointer (some ⟨s.w.heap.size,0,none⟩)):=(aJ (.inr (by omega))).trans (aM _ _ _ _);have h2:s'.lam b 1 = some (.slice none 0 0):=aM _ _ _ _;have hk:bq s s':=⟨fun b' k u hu=>bp ((aJ (.inr (by omega))).trans (hl 1)) _ _ _ (bp (hl 0) _ _ _ hu),fun _ _ h=>h,fun blk o hs=>World.cell?_alloc_lt _ _ (a:=⟨blk,o,none⟩) (hi.scell blk o hs)⟩;have hnew:s'.w.heap[s.w.heap.size]? = some (.cells #[.pointer none, .slice none 0 0] uY.1 (0,0)):=by show (s.w.heap.push _)[s.w.heap.size]? = _; simp
 have hgo:=hi.change (s':=s') hblt rfl hk (hi.below.alloc hi.below.size _) (by simp [s']) (fun b' k hne=>(aJ (.inl hne)).trans (aJ (.inl hne)))
  (fun blk hlt _=>Below.heap_alloc _ _ _ hlt)
  ⟨fun k' hk'=>(aJ (.inr (by omega))).trans ((aJ (.inr (by omega))).trans (hl k')),s.w.heap.size, .slice none 0 0,h1,h2,⟨hi.below.size,⟨_, .inl rfl,hnew⟩,⟨rfl, .inl ⟨rfl,rfl⟩⟩,by simp [Value.ownBlock]⟩,fun o hs=>by have:=hi.scell _ _ hs; omega,fun g e=>by simp [Value.ownBlock] at e⟩
  (fun blk ho=>by
   rcases ho with e | ⟨v,e1,e2⟩
   ·rw [h1] at e; simp at e; left; omega
   ·rw [h2] at e1;have:=Option.some.inj e1;subst this
    simp [Value.ownBlock] at e2)
  (fun blk x h=>.inl h) (fun blk x h=>by have:=hi.scell _ _ h; simp [s']; omega)
 exact ⟨s',rfl,rfl,hgo.1,hgo.2, .ptr b 0 _ h1⟩
theorem Al (hi:Inv A s) {t:TypeId} (ht:t = uY.1) (hz:gL P t [.nilptr, .slice 1 []] = true) (h:K (.ptr s.h.length 0) (s.h ++ [.bld 0 []])) :
  aC P A s K Kp ((do pure (Next.value (← Instr.alloc t true (.tuple #[]))):Sem Next).run P s.w):=by
 unfold gL at hz
 cases hinfo:P.info? t with
 | none=>simp [hinfo] at hz
 | some i=>
  cases hzero:i.zero with
  | none=>simp [hinfo,hzero] at hz
  | some v=>
   simp only [hinfo,Option.bind_some,hzero] at hz;have hv:v.cells = #[.pointer none, .slice none 0 0]:=by
    generalize v.cells = cs at hz ⊢;obtain ⟨l⟩:=cs
    match l,hz with
    | [a,c],hz=>
     simp only [cO,Bool.and_eq_true] at hz;obtain ⟨h1,h2,_⟩:=hz;have e1:a = .pointer none:=by
      cases a with
      | pointer p=>cases p <;> simp [aX] at h1 ⊢
      | _=>simp [aX] at h1
     have e2:c = .slice none 0 0:=by
      cases c with
      | slice p l cap=>cases p <;> simp [aX] at h2; obtain ⟨rfl,rfl⟩:=h2; rfl
      | _=>simp [aX] at h2
     rw [e1,e2]
    | [],hz=>simp [cO] at hz
    | [_],hz=>simp [cO] at hz
    | _ :: _ :: _ :: _,hz=>simp [cO] at hz
   obtain ⟨s1,e1,e2,i1,g1,d1⟩:=hi.one;obtain ⟨s2,f1,f2,i2,g2,r2⟩:=i1.HN d1;have hrun:(Instr.alloc t true (.tuple #[])).run P s.w = .ok (.pointer (some ⟨s.w.heap.size,0,none⟩)) (s.w.alloc (.cells v.cells t)):=by
    simp [Instr.alloc,zeroValue,typeInfo,hinfo,hzero,newVar,newRow]
   refine aC.value (av _ _ _ _ hrun) (f2.trans ?_) i2 (g1.trans g2) (v:=.ptr s.h.length 0) ?_ ?_
   ·rw [e2,hv,ht]
   ·rw [e2] at r2; exact r2
   ·rw [f1,e1,bQ]; exact h
end
end Go.AM
