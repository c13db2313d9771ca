/- 'append', parts of slices, 'make', 'clear', 'copy', and the slice that is handed on for good. -/
import Derived.Test.YtlmhkldmpggadaaGreatDoorP9
namespace Go.AM
open Go.RowKit
section
variable {P:Program} {s:St} {A:World} {ρ:aO → ag} {ρ':Operand → Value} {K Kp:ag → af → Prop}
theorem dF {t tx ty:TypeId} {c d:Value} {w w':World} {r:Value} (h:(Builtin.append_ #[t,tx] ty #[c,d]).run P w = .ok r w') :
  (do pure (Next.value (← Builtin.append_ #[t,tx] ty #[c,d])):Sem Next).run P w = .ok (.value r) w':=av _ _ _ _ h
theorem nX {sz:Nat} {xs ys:List ag} {us ws:List Value} (hul:us.length = xs.length) (hwl:ws.length = ys.length) (h1:∀ i (h1:i < xs.length) (h2:i < us.length),Rv s xs[i] us[i] ∧ us[i].cells.size = sz)
  (h2:∀ i (h1:i < ys.length) (h2:i < ws.length),Rv s ys[i] ws[i]) (hz:∀ i (h2:i < ws.length),ws[i].cells.size = sz) (Z:Array Value) :
  eC s sz (xs ++ ys) (us ++ ws) ((aY us ++ aY ws).toArray ++ Z):=by
 have hz':∀ i (h:i < (us ++ ws).length),(us ++ ws)[i].cells.size = sz:=by
  intro i h;by_cases c:i < us.length
  ·rw [List.getElem_append_left c]; exact (h1 i (by omega) c).2
  ·rw [List.getElem_append_right (by omega)]; exact hz _ _
 have happ:∀ (a b:List Value),aY a ++ aY b = aY (a ++ b):=by
  intro a b
  induction a with
  | nil=>rfl
  | cons x a ih=>simp only [aY,List.append_assoc,ih,List.cons_append]
 refine ⟨by simp [hul,hwl],fun i g1 g2=>⟨?_,hz' i g2⟩,fun i j g2 gj=>?_⟩
 ·by_cases c:i < xs.length
  ·rw [List.getElem_append_left c,List.getElem_append_left (by omega)]; exact (h1 i c (by omega)).1
  ·rw [List.getElem_append_right (by omega),List.getElem_append_right (by omega)];simp only [hul];exact h2 _ (by simp at g1; omega) (by simp at g2; omega)
 ·rw [happ];have:=hO hz' i j g2 gj;have hlt:i * sz + j < (aY (us ++ ws)).length:=by
   rcases Nat.lt_or_ge (i * sz + j) (aY (us ++ ws)).length with h' | h'
   ·exact h'
   ·rw [List.getElem?_eq_none h'] at this; cases this
  rw [Array.getElem?_append_left (by simpa using hlt)];simpa using this
theorem qW {sz n m cap:Nat} {us ws:List Value} {z:Array Value} (h1:us.length = n) (h2:ws.length = m) (hz1:∀ i (h:i < us.length),us[i].cells.size = sz) (hz2:∀ i (h:i < ws.length),ws[i].cells.size = sz)
  (hz:z.size = sz) (hc:n + m ≤ cap):((aY us ++ aY ws).toArray ++ Builtin.zeroCells z (cap - (n + m))).size = cap * sz:=by
 simp only [Array.size_append,List.size_toArray,List.length_append,dG hz1,dG hz2,size_zeroCells,hz,h1,h2, ← Nat.add_mul];congr 1; omega
theorem yy {sz n:Nat} {us:List Value} {a:Option Addr} {cap:Nat} {w:World} (hl:us.length = n) (hz:∀ i (h2:i < us.length),us[i].cells.size = sz)
  (hm:n = 0 ∨ ∃ blk off,a = some ⟨blk,off,none⟩ ∧ ∀ i j (h2:i < us.length) (hj:j < us[i].cells.size),w.cell? ⟨blk,off + i * sz + j,none⟩ = some us[i].cells[j]) :
  (Builtin.firstCells sz n (.slice a n cap)).run P w.drew = .ok (aY us).toArray w.drew:=by
 rcases hm with h0 | ⟨blk,off,rfl,hc⟩
 ·subst h0;have:us = []:=List.eq_nil_of_length_eq_zero hl;subst this
  cases a with
  | none=>exact run_firstCells_none w.drew sz 0 0 cap
  | some ad=>exact run_firstCells_some w.drew sz 0 ad 0 cap [] (by simp) (fun j u h=>by simp at h)
 ·refine run_firstCells_some w.drew sz n _ n cap _ (by rw [dG hz,hl]) (fun q u hq=>?_);have hlt:q < us.length * sz:=by
   rw [← dG hz];rcases Nat.lt_or_ge q (aY us).length with h' | h'
   ·exact h'
   ·rw [List.getElem?_eq_none h'] at hq; cases hq
  obtain ⟨i,j,h1,h2,rfl⟩:=px hlt;have hj:j < us[i].cells.size:=by rw [hz i h1]; exact h2
  rw [hO hz i j h1 hj] at hq;rw [← Option.some.inj hq,addr_add, ← Nat.add_assoc];show w.cell? _ = _;exact hc i j h1 hj
theorem BN {sz:Nat} {xs:List ag} {c:Value} (hc:Rv s (.slice sz xs) c):∃ (a:Option Addr) (cap:Nat) (us:List Value),c = .slice a xs.length cap ∧ us.length = xs.length ∧
   (∀ i (h1:i < xs.length) (h2:i < us.length),Rv s xs[i] us[i] ∧ us[i].cells.size = sz) ∧
   (xs.length = 0 ∨ ∃ blk off,a = some ⟨blk,off,none⟩ ∧ ∀ i j (h2:i < us.length) (hj:j < us[i].cells.size),s.w.cell? ⟨blk,off + i * sz + j,none⟩ = some us[i].cells[j]):=by
 obtain ⟨a,cap,rfl,h⟩:=hc.dI;rcases h with rfl | ⟨blk,off,us,rfl,hl,hcp,hr,hm⟩
 ·exact ⟨a,cap,[],rfl,rfl,fun i h=>by simp at h, .inl rfl⟩
 ·exact ⟨_,cap,us,rfl,hl,fun i h1 h2=>⟨hr i h1 h2,(hm i h2).1⟩, .inr ⟨blk,off,rfl,fun i j h2 hj=>((hm i h2).2 j hj).2⟩⟩
theorem di.from {s1:St} (hg:bV s s1) {Q:fq → af → Prop} {e:Ending} {w:World} (h:di A s1 Q e w):di A s Q e w:=
 let ⟨r,s',a,b,c,d,q⟩:=h; ⟨r,s',a,b,hg.trans c,d,q⟩
theorem aC.from {s1:St} (hg:bV s s1) {r:Result Next} (h:aC P A s1 K Kp r):aC P A s K Kp r:=by
 cases r with
 | ok v w=>
  cases v with
  | value c=>obtain ⟨v,s',a,b,c,d,e⟩:=h; exact ⟨v,s',a,b,hg.trans c,d,e⟩
  | skip=>obtain ⟨v,s',a,b,c,d,e⟩:=h; exact ⟨v,s',a,b,hg.trans c,d,e⟩
  | enter f args=>exact Calls.mono h fun _ _ hp=>hp.from hg
  | round l f tmps asg body=>exact fun ro=>(h ro).mono fun _ _ hp=>hp.from hg
  | _=>exact h
 | halt x w=>
  cases x with
  | panic c=>obtain ⟨v,s',a,b,c,d,e⟩:=h; exact ⟨v,s',a,b,hg.trans c,d,e⟩
  | _=>exact h
theorem tk (hi:Inv A s) {t tx ty e:TypeId} {i:TypeInfo} {z:Value} {sz bytes:Nat} (ht:P.underlying t = some (.slice e)) (hinf:P.info? e = some i) (hzv:i.zero = some z)
  (hsz:i.size = sz) (hby:i.bytes = bytes) (hzs:z.cells.size = sz) (hbpos:0 < bytes) {xv:ag} {c d:Value} {ys:List ag} {ws:List Value} (hx:Rv s xv c) (hsrc:Src P i.size tx d ys.length (aY ws) s.w)
  (hwl:ws.length = ys.length) (hwr:∀ j (h1:j < ys.length) (h2:j < ws.length),Rv s ys[j] ws[j]) (hwz:∀ j (h2:j < ws.length),ws[j].cells.size = i.size)
  (hnn:∀ z,xv ≠ .nils z) (h:j0 sz bytes s.h xv ys K):aC P A s K Kp ((do pure (Next.value (← Builtin.append_ #[t,tx] ty #[c,d])):Sem Next).run P s.w):=by
 subst hsz;subst hby
 -- no room: what the run gives
 have grow:∀ (a:Option Addr) (n cap:Nat) (us:List Value),us.length = n → (∀ j (h2:j < us.length),us[j].cells.size = i.size) →
   (n = 0 ∨ ∃ blk off,a = some ⟨blk,off,none⟩ ∧ ∀ p j (h2:p < us.length) (hj:j < us[p].cells.size),s.w.cell? ⟨blk,off + p * i.size + j,none⟩ = some us[p].cells[j]) →
   cap < n + ys.length → (n + ys.length) * i.bytes ≤ 140737488355328 →
   (Builtin.append_ #[t,tx] ty #[.slice a n cap,d]).run P s.w =
    .ok (.slice (some ⟨s.w.heap.size,0,none⟩) (n + ys.length) (grownCap s.w (n + ys.length) cap e))
     (s.w.drew.alloc (.cells ((aY us ++ aY ws).toArray ++ Builtin.zeroCells z.cells (grownCap s.w (n + ys.length) cap e - (n + ys.length))) e)):=by
  intro a n cap us hul huz hm hlt hb;refine run_append_grow_src s.w t tx ty e i z ht hinf hzv a n cap (aY us) (yy hul huz hm) _ ys.length (aY ws) hsrc hlt ?_ (growslice_fits hlt hb);have:n + ys.length ≤ (n + ys.length) * i.bytes:=Nat.le_mul_of_pos_right _ hbpos;omega
 cases xv with
 | oslice sz' xs b k=>
  obtain ⟨rfl,hb,h⟩:=h
  cases hbk:s.h.get b with
  | spare sz'' k'=>
   rw [hbk] at h;obtain ⟨rfl,rfl,h⟩:=h;have hbs:=af.get_some hbk (by simp)
   cases hx with
   | oslice _ _ _ _ _ hs hl=>
    obtain ⟨a,cap,us,rfl,hul,hur,hum⟩:=BN hs;rcases Nat.lt_or_ge cap (xs.length + ys.length) with hlt | hroom
    ·-- a new block
     have hrun:=grow a xs.length cap us hul (fun j h2=>(hur j (by omega) h2).2) hum hlt hb;have hd:=hi.drew;have he:=nX (s:={ s with w:=s.w.drew }) (Z:=Builtin.zeroCells z.cells (grownCap s.w (xs.length + ys.length) cap e - (xs.length + ys.length))) hul hwl (fun j h1 h2=>⟨(hur j h1 h2).1.keeps hd.2.keeps,(hur j h1 h2).2⟩) (fun j h1 h2=>(hwr j h1 h2).keeps hd.2.keeps) hwz;have hcap:=grownCap_ge s.w (xs.length + ys.length) cap e;obtain ⟨s',e1,e2,i2,g2,r2⟩:=hd.1.Df hbs e _ (by simpa using hcap) (qW hul hwl (fun j h2=>(hur j (by omega) h2).2) hwz hzs hcap) he;refine aC.value (dF hrun) e2 i2 (hd.2.trans g2) ?_ (by rw [e1]; exact h);simpa using r2
    ·by_cases h0:ys.length = 0
     ·-- nothing comes
      have hy0:ys = []:=List.eq_nil_of_length_eq_zero h0;have hw0:ws = []:=List.eq_nil_of_length_eq_zero (by omega);subst hy0; subst hw0;have hrun:(Builtin.append_ #[t,tx] ty #[.slice a xs.length cap,d]).run P s.w = .ok (.slice a xs.length cap) s.w:=by
       have h1:=hsrc.len;have h2:=hsrc.cells;simp [aY] at h2;have h3:xs.length ≤ cap:=by simpa using hroom
       simp only [List.length_nil] at h1;rcases hsrc.kind with ⟨e',hk⟩ | hk <;> cases a <;> simp [Builtin.append_,run_underlying ht,run_underlying hk,sizeOf,typeInfo,hinf,h1,h3,h2,storeCells]
      have hblt:b < s.h.length:=(List.getElem?_eq_some_iff.1 hbs).1;obtain ⟨hno,a',len',cap',hl',hle,hxx⟩:=hi.obj b _ hbs
      let s':St:={ h:=s.h.set b (.spare i.size (k' + 1)),lam:=bG s.lam b (k' + 1) (.slice a xs.length cap),S:=s.S,w:=s.w }
      have hkp:bq s s':=⟨bp (hno _ (by omega)),fun _ _ h=>h,fun _ _ _=>rfl⟩;have e1:a' = a ∧ len' = xs.length ∧ cap' = cap:=by rw [hl] at hl'; simp at hl'; exact ⟨hl'.1.symm,hl'.2.1.symm,hl'.2.2.symm⟩
      obtain ⟨rfl,rfl,rfl⟩:=e1;have hgo:=hi.change (s':=s') hblt rfl hkp hi.below (Nat.le_refl _) (fun b' k hne=>aJ (.inl hne)) (fun _ _ _=>rfl)
       ⟨fun k2 hk2=>(aJ (.inr (by omega))).trans (hno k2 (by omega)),a',xs.length,cap',aM _ _ _ _,hle,hxx⟩
       (fun blk ho=>by
        obtain ⟨off,len,cp,e,hlt⟩:=ho;have e':bG s.lam b (k' + 1) (.slice a' xs.length cap') b (k' + 1) = _:=e;simp at e';obtain ⟨rfl,rfl,rfl⟩:=e'
        exact .inr ⟨_,hbs,off,_,_,hl',hlt⟩)
       (fun _ _ h=>.inl h) hi.scell
      refine aC.value (dF hrun) (s':=s') rfl hgo.1 hgo.2 (v:=.oslice i.size (xs ++ []) b (k' + 1)) ?_ h;rw [List.append_nil];exact .oslice _ _ _ _ _ (hs.keeps hgo.2.keeps) (aM _ _ _ _)
     ·-- there is room
      have hlt:xs.length < cap:=by omega
      obtain ⟨hno,a',len',cap',hl',hle,hxx⟩:=hi.obj b _ hbs;have e1:a' = a ∧ len' = xs.length ∧ cap' = cap:=by rw [hl] at hl'; simp at hl'; exact ⟨hl'.1.symm,hl'.2.1.symm,hl'.2.2.symm⟩
      obtain ⟨rfl,rfl,rfl⟩:=e1;obtain ⟨blk,off,vs,el,rfl,hB,hh,hfitc,hnS⟩:=hxx hlt;obtain ⟨hfit,s',f1,f2,i2,g2,r2⟩:=hi.Ej hbs hs hl hwl hwr hwz rfl hroom hlt hh;have hrun:=fW (P:=P) (ty:=ty) ht hinf (w:=s.w) blk off xs.length cap' _ ys.length (aY ws) hsrc hh hroom hfit;exact aC.value (dF hrun) f2 i2 g2 r2 (by rw [f1]; exact h)
  | _=>rw [hbk] at h; exact h.elim
 | sref sz' b off len n=>
  obtain ⟨rfl,h⟩:=h
  cases hbk:s.h.get b with
  | arr sz'' xs=>
   rw [hbk] at h;obtain ⟨rfl,hn,h⟩:=h;have hbs:=af.get_some hbk (by simp);have hself:s.h.set b (.arr i.size xs) = s.h:=by
    refine List.ext_getElem? fun j=>?_;by_cases hj:b = j
    ·subst hj; rw [List.getElem?_set_self (List.getElem?_eq_some_iff.1 hbs).1,hbs]
    ·rw [List.getElem?_set_ne hj]
   -- nothing comes
   have none_comes:∀ {a:Option Addr} {cap:Nat},Rv s (.sref i.size b off len n) (.slice a len cap) → len ≤ cap → ys.length = 0 → off + len ≤ n → K (.sref i.size b off (len + ys.length) n) (s.h.set b (.arr i.size (xs.take (off + len) ++ ys ++ xs.drop (off + len + ys.length)))) →
     aC P A s K Kp ((do pure (Next.value (← Builtin.append_ #[t,tx] ty #[.slice a len cap,d])):Sem Next).run P s.w):=by
    intro a cap hx hle h0 hle2 hK;have hy0:ys = []:=List.eq_nil_of_length_eq_zero h0;have hw0:ws = []:=List.eq_nil_of_length_eq_zero (by omega);subst hy0; subst hw0;have hrun:(Builtin.append_ #[t,tx] ty #[.slice a len cap,d]).run P s.w = .ok (.slice a len cap) s.w:=by
     have h1:=hsrc.len;have h2:=hsrc.cells;simp [aY] at h2;simp only [List.length_nil] at h1;rcases hsrc.kind with ⟨e',hk⟩ | hk <;> cases a <;> simp [Builtin.append_,run_underlying ht,run_underlying hk,sizeOf,typeInfo,hinf,h1,hle,h2,storeCells]
    refine aC.value (dF hrun) rfl hi (.refl s) hx ?_;simp only [List.length_nil,Nat.add_zero,List.append_nil,List.take_append_drop,hself] at hK;exact hK
   have zero:∀ {a:Option Addr},n = 0 → off = 0 → len = 0 → s.lam b 0 = some (.slice a 0 0) → Rv s (.sref i.size b off len n) (.slice a 0 0) →
     aC P A s K Kp ((do pure (Next.value (← Builtin.append_ #[t,tx] ty #[.slice a 0 0,d])):Sem Next).run P s.w):=by
    intro a e1 e2 e3 hl hx;subst e1; subst e2; subst e3;have hx0:xs = []:=List.eq_nil_of_length_eq_zero hn;by_cases h0:ys.length = 0
    ·rw [if_pos (by omega)] at h;exact none_comes hx (Nat.le_refl _) h0 (by omega) h
    ·rw [if_neg (by omega)] at h;obtain ⟨_,_,hb,h⟩:=h;have hrun:=grow a 0 0 [] rfl (fun j h2=>by simp at h2) (.inl rfl) (by omega) hb;have hd:=hi.drew;have he:=nX (s:={ s with w:=s.w.drew }) (sz:=i.size) (xs:=[]) (us:=[]) (Z:=Builtin.zeroCells z.cells (grownCap s.w (0 + ys.length) 0 e - (0 + ys.length))) rfl hwl (fun j h1 h2=>by simp at h1) (fun j h1 h2=>(hwr j h1 h2).keeps hd.2.keeps) hwz;have hcap2:=grownCap_ge s.w (0 + ys.length) 0 e;have hgs:=qW (us:=[]) (z:=z.cells) rfl hwl (fun j h2=>by simp at h2) hwz hzs hcap2;subst hx0;obtain ⟨s',e1,e2,i2,g2,k2⟩:=hd.1.BZ (zs:=[] ++ ys) hbs e _ (by simp; omega) (by simpa using hcap2) hgs he;refine aC.value (dF hrun) e2 i2 (hd.2.trans g2) ?_ (by rw [e1]; exact h);rw [List.length_append,List.length_nil] at k2;have:=Rv.sref (s:=s') i.size b 0 (0 + ys.length) (0 + ys.length) _ _ k2 (by omega) hcap2;simpa using this
   cases hx with
   | sref0 _ _ a hl=>exact zero rfl rfl rfl hl (.sref0 _ _ _ hl)
   | srefE _ _ _ _ a v hl h0 h1=>
    by_cases hc:off + 0 + ys.length ≤ n
    ·rw [if_pos hc] at h;exact none_comes (.srefE _ _ _ _ _ _ hl h0 h1) (Nat.le_refl _) (by omega) (by omega) h
    ·rw [if_neg hc] at h; omega
   | sref _ _ _ _ _ blk cap hl h1 h2=>
    rcases (hi.obj b _ hbs).pM with ⟨hx0,a,hl'⟩ | ⟨blk',cap',vs,el,us,h0,hl',hB,hh,hvs,hcap,hel,hnS⟩
    ·subst hx0;have hn0:n = 0:=by simpa using hn.symm
     subst hn0;rw [hl] at hl'; simp at hl';have e1:off = 0:=by omega
     have e2:len = 0:=by omega
     subst e1; subst e2;obtain ⟨_,e3⟩:=hl';subst e3;have:=zero (a:=some ⟨blk,0,none⟩) rfl rfl rfl hl (by simpa using Rv.sref (s:=s) i.size b 0 0 0 blk 0 hl (Nat.le_refl _) (Nat.le_refl _));simpa using this
    ·have e1:blk' = blk ∧ cap' = cap:=by rw [hn,hl] at hl'; simp at hl'; exact ⟨hl'.1.symm,hl'.2.symm⟩
     obtain ⟨rfl,rfl⟩:=e1;subst hn;by_cases hc:off + len + ys.length ≤ xs.length
     ·rw [if_pos hc] at h;obtain ⟨hfit,s',f1,f2,i2,g2,k2⟩:=hi.Ai hbs h0 hl' hh hvs hel hnS hB hwl hwr hwz (p:=off + len) (by omega) (by omega) hcap;have hrun:=fW (P:=P) (ty:=ty) ht hinf (w:=s.w) blk' (off * i.size) len (cap' - off) _ ys.length (aY ws) hsrc hh (by omega) (by rw [← Nat.add_mul]; exact hfit);rw [← Nat.add_mul] at hrun;refine aC.value (dF hrun) f2 i2 g2 ?_ (by rw [f1]; exact h);exact .sref _ _ _ _ _ blk' cap' (g2.keeps.lam _ _ _ hl) (by omega) h2
     ·rw [if_neg hc] at h;obtain ⟨e1,e2,hb,h⟩:=h;subst e1; subst e2;rcases Nat.lt_or_ge cap' (xs.length + ys.length) with hlt | hroom
      ·have hd:=hi.drew
       have hrun:=grow (some ⟨blk',0 * i.size,none⟩) xs.length (cap' - 0) us hel.len (fun j h2=>(hel.rv j (by have:=hel.len; omega) h2).2) (.inr ⟨blk',0 * i.size,rfl,fun p j h2 hj=>by
        have:=hel.cell p j h2 hj;simp only [World.cell?,hh,Nat.zero_mul,Nat.zero_add]
        rw [this]; rfl⟩) (by omega) hb
       have he:=nX (s:={ s with w:=s.w.drew }) (Z:=Builtin.zeroCells z.cells (grownCap s.w (xs.length + ys.length) (cap' - 0) e - (xs.length + ys.length))) hel.len hwl (fun j h1 h2=>⟨(hel.rv j h1 h2).1.keeps hd.2.keeps,(hel.rv j h1 h2).2⟩) (fun j h1 h2=>(hwr j h1 h2).keeps hd.2.keeps) hwz;have hcap2:=grownCap_ge s.w (xs.length + ys.length) (cap' - 0) e;obtain ⟨s',e1,e2,i2,g2,k2⟩:=hd.1.BZ (zs:=xs ++ ys) hbs e _ (by simp; omega) (by simpa using hcap2) (qW hel.len hwl (fun j h2=>(hel.rv j (by have:=hel.len; omega) h2).2) hwz hzs hcap2) he;refine aC.value (dF hrun) e2 i2 (hd.2.trans g2) ?_ (by rw [e1]; exact h);rw [List.length_append] at k2;have:=Rv.sref (s:=s') i.size b 0 (xs.length + ys.length) (xs.length + ys.length) _ _ k2 (by omega) hcap2;simpa using this
      ·obtain ⟨hfit,s',f1,f2,i2,g2,k2⟩:=hi.Ai hbs h0 hl' hh hvs hel hnS hB hwl hwr hwz (p:=xs.length) (Nat.le_refl _) hroom hcap;have hrun:=fW (P:=P) (ty:=ty) ht hinf (w:=s.w) blk' (0 * i.size) xs.length (cap' - 0) _ ys.length (aY ws) hsrc hh (by omega) (by rw [← Nat.add_mul,Nat.zero_add]; exact hfit);rw [← Nat.add_mul,Nat.zero_add] at hrun;have hmx:max xs.length (xs.length + ys.length) = xs.length + ys.length:=by omega
       rw [hmx] at k2;refine aC.value (dF hrun) f2 i2 g2 (.sref _ _ _ _ _ blk' cap' k2 (by omega) hroom) ?_;rw [f1,List.take_of_length_le (Nat.le_refl _),List.drop_of_length_le (by omega),List.append_nil];exact h
  | _=>rw [hbk] at h; exact h.elim
 | nils z=>exact (hnn z rfl).elim
 | _=>exact h.elim
theorem uK (hi:Inv A s) {t tx ty e:TypeId} {i:TypeInfo} {z:Value} {sz bytes:Nat} (ht:P.underlying t = some (.slice e)) (hinf:P.info? e = some i) (hzv:i.zero = some z)
  (hsz:i.size = sz) (hby:i.bytes = bytes) (hzs:z.cells.size = sz) (hbpos:0 < bytes) {xv:ag} {c d:Value} {ys:List ag} {ws:List Value} (hx:Rv s xv c) (hsrc:Src P i.size tx d ys.length (aY ws) s.w)
  (hwl:ws.length = ys.length) (hwr:∀ j (h1:j < ys.length) (h2:j < ws.length),Rv s ys[j] ws[j]) (hwz:∀ j (h2:j < ws.length),ws[j].cells.size = i.size)
  (h:j0 sz bytes s.h xv ys K):aC P A s K Kp ((do pure (Next.value (← Builtin.append_ #[t,tx] ty #[c,d])):Sem Next).run P s.w):=by
 cases xv with
 | nils sz'=>
  obtain ⟨rfl,hb,h⟩:=h;cases hx;obtain ⟨s1,e1,e2,i1,g1,d1⟩:=hi.one;obtain ⟨s2,f1,f2,i2,g2,k2,_⟩:=i1.gC d1 sz' none 0;have h2:s2.h = s.h ++ [.spare sz' 0]:=by rw [f1,e1]; exact bQ _ _ _
  have hw:s2.w = s.w:=f2.trans e2;have hg:s2.h.get s.h.length = .spare sz' 0:=by rw [h2]; simp [af.get]
  rw [← hw] at hsrc ⊢;refine aC.from (g1.trans g2) (tk i2 ht hinf hzv hsz hby hzs hbpos (xv:=.oslice sz' [] s.h.length 0) (.oslice _ _ _ _ _ (.slice0 sz' _ _) k2) hsrc hwl (fun j h1 h2=>(hwr j h1 h2).keeps (g1.trans g2).keeps) hwz (fun z e=>by cases e) ?_);refine ⟨rfl,by simpa using hb, ?_⟩;rw [hg];refine ⟨rfl,rfl, ?_⟩;have:s2.h.set s.h.length (.spare sz' 1) = s.h ++ [.spare sz' 1]:=by rw [h2]; exact bQ _ _ _
  rw [this];simpa using h
 | _=>exact tk hi ht hinf hzv hsz hby hzs hbpos hx hsrc hwl hwr hwz (fun z e=>by cases e) h
theorem AP (hi:Inv A s) {t tx ty e e':TypeId} {i:TypeInfo} {z:Value} {sz bytes:Nat} (ht:P.underlying t = some (.slice e)) (hk:P.underlying tx = some (.slice e')) (hinf:P.info? e = some i) (hzv:i.zero = some z)
  (hsz:i.size = sz) (hby:i.bytes = bytes) (hzs:z.cells.size = sz) (_hpos:0 < sz) (hbpos:0 < bytes) {xv yv:ag} {c d:Value} (hx:Rv s xv c) (hy:Rv s yv d) (ho:yv.jh s.h sz) (hf:Fits sz (yv.elems s.h))
  (h:j0 sz bytes s.h xv (yv.elems s.h) K):aC P A s K Kp ((do pure (Next.value (← Builtin.append_ #[t,tx] ty #[c,d])):Sem Next).run P s.w):=by
 subst hsz;obtain ⟨ya,ycap,ws,rfl,hwl,hwr,hwz,hwm⟩:=yY hi hy ho;exact uK hi ht hinf hzv rfl hby hzs hbpos hx (Ng (P:=P) (cap:=ycap) hk hwl hwr hwz hf hwm) hwl hwr hwz h
theorem CQ (s:ByteArray):aY (byteCells s) = byteCells s:=by
 have:∀ l:List UInt8,aY (l.map fun b=>Value.int .u8 b.toNat) = l.map fun b=>Value.int .u8 b.toNat:=by
  intro l
  induction l with
  | nil=>rfl
  | cons b l ih=>simp only [List.map_cons,aY,ih]; rfl
 exact this _
theorem ye (hi:Inv A s) {t tx ty e:TypeId} {i:TypeInfo} {z:Value} {bytes:Nat} (ht:P.underlying t = some (.slice e)) (hk:P.underlying tx = some .string) (hinf:P.info? e = some i) (hzv:i.zero = some z)
  (hsz:i.size = 1) (hby:i.bytes = bytes) (hzs:z.cells.size = 1) (hbpos:0 < bytes) {xv yv:ag} {c d:Value} (hx:Rv s xv c) (hy:Rv s yv d)
  (h:HK bytes s.h xv yv K):aC P A s K Kp ((do pure (Next.value (← Builtin.append_ #[t,tx] ty #[c,d])):Sem Next).run P s.w):=by
 cases yv with
 | str x=>
  cases hy;have hl:(byteCells x).length = (yp x).length:=by simp [byteCells,yp]
  have hg:∀ j (h1:j < (yp x).length) (h2:j < (byteCells x).length),Rv s (yp x)[j] (byteCells x)[j] ∧ (byteCells x)[j].cells.size = i.size:=by
   intro j h1 h2;rw [hsz];have e1:(yp x)[j] = .int .u8 (x.data.toList[j]'(by simpa [yp] using h1)).toNat:=by simp [yp,K5]
   have e2:(byteCells x)[j] = .int .u8 (x.data.toList[j]'(by simpa [yp] using h1)).toNat:=by simp [byteCells]
   rw [e1,e2];exact ⟨.int _ _,rfl⟩
  refine uK (ys:=yp x) (ws:=byteCells x) hi ht hinf hzv hsz hby hzs hbpos hx ?_ hl (fun j h1 h2=>(hg j h1 h2).1) (fun j h2=>(hg j (by omega) h2).2) h;rw [CQ,hsz, ← hl];have hs:(byteCells x).length = x.size:=by simp [byteCells]
  rw [hs];exact Src.ofString _ hk x
 | _=>exact h.elim
end
end Go.AM
