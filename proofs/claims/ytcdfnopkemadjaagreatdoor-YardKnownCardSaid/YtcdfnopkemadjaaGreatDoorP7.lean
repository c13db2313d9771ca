/- 'append', parts of slices, 'make', 'clear', 'copy', and the slice that is handed on for good. Parts of slices, 'make', 'clear', 'copy', and the slice that is handed on for good. -/
import Derived.Test.YtcdfnopkemadjaaGreatDoorP6
import Derived.Laws.MakeOwn
import Derived.RangeFuncRecord
namespace Go.AM
open Go.RowKit
section
variable {P:Program} {s:St} {A:World} {ρ:ay → aa} {ρ':Operand → Value} {K Kp:aa → ab → Prop}
theorem bA {t tx ty:TypeId} {c d:Value} {w w':World} {r:Value} (h:(Builtin.append_ #[t,tx] ty #[c,d]).run P w = .ok r w') :
  (do pure (Next.value (← Builtin.append_ #[t,tx] ty #[c,d])):Sem Next).run P w = .ok (.value r) w':=aj _ _ _ _ h
theorem gQ {sz:Nat} {xs ys:List aa} {us ws:List Value} (hul:us.length = xs.length) (hwl:ws.length = ys.length) (h1:∀ i (h1:i < xs.length) (h2:i < us.length),Rv s xs[i] us[i] ∧ us[i].cells.size = sz)
  (h2:∀ i (h1:i < ys.length) (h2:i < ws.length),Rv s ys[i] ws[i]) (hz:∀ i (h2:i < ws.length),ws[i].cells.size = sz) (Z:Array Value) :
  bV s sz (xs ++ ys) (us ++ ws) ((aI us ++ aI ws).toArray ++ Z):=by
 have hz':∀ i (h:i < (us ++ ws).length),(us ++ ws)[i].cells.size = sz:=by
  intro i h;by_cases c:i < us.length
  ·rw [List.getElem_append_left c]; exact (h1 i (by omega) c).2
  ·rw [List.getElem_append_right (by omega)]; exact hz _ _
 have happ:∀ (a b:List Value),aI a ++ aI b = aI (a ++ b):=by
  intro a b
  induction a with
  | nil=>rfl
  | cons x a ih=>simp only [aI,List.append_assoc,ih,List.cons_append]
 refine ⟨by simp [hul,hwl],fun i g1 g2=>⟨?_,hz' i g2⟩,fun i j g2 gj=>?_⟩
 ·by_cases c:i < xs.length
  ·rw [List.getElem_append_left c,List.getElem_append_left (by omega)]; exact (h1 i c (by omega)).1
  ·rw [List.getElem_append_right (by omega),List.getElem_append_right (by omega)];simp only [hul];exact h2 _ (by simp at g1; omega) (by simp at g2; omega)
 ·rw [happ];have:=dQ hz' i j g2 gj;have hlt:i * sz + j < (aI (us ++ ws)).length:=by
   rcases Nat.lt_or_ge (i * sz + j) (aI (us ++ ws)).length with h' | h'
   ·exact h'
   ·rw [List.getElem?_eq_none h'] at this; cases this
  rw [Array.getElem?_append_left (by simpa using hlt)];simpa using this
theorem iy {sz n m cap:Nat} {us ws:List Value} {z:Array Value} (h1:us.length = n) (h2:ws.length = m) (hz1:∀ i (h:i < us.length),us[i].cells.size = sz) (hz2:∀ i (h:i < ws.length),ws[i].cells.size = sz)
  (hz:z.size = sz) (hc:n + m ≤ cap):((aI us ++ aI ws).toArray ++ Builtin.zeroCells z (cap - (n + m))).size = cap * sz:=by
 simp only [Array.size_append,List.size_toArray,List.length_append,bD hz1,bD hz2,size_zeroCells,hz,h1,h2, ← Nat.add_mul];congr 1; omega
theorem mw {sz n:Nat} {us:List Value} {a:Option Addr} {cap:Nat} {w:World} (hl:us.length = n) (hz:∀ i (h2:i < us.length),us[i].cells.size = sz)
  (hm:n = 0 ∨ ∃ blk off,a = some ⟨blk,off,none⟩ ∧ ∀ i j (h2:i < us.length) (hj:j < us[i].cells.size),w.cell? ⟨blk,off + i * sz + j,none⟩ = some us[i].cells[j]) :
  (Builtin.firstCells sz n (.slice a n cap)).run P w.drew = .ok (aI us).toArray w.drew:=by
 rcases hm with h0 | ⟨blk,off,rfl,hc⟩
 ·subst h0;have:us = []:=List.eq_nil_of_length_eq_zero hl;subst this
  cases a with
  | none=>exact run_firstCells_none w.drew sz 0 0 cap
  | some ad=>exact run_firstCells_some w.drew sz 0 ad 0 cap [] (by simp) (fun j u h=>by simp at h)
 ·refine run_firstCells_some w.drew sz n _ n cap _ (by rw [bD hz,hl]) (fun q u hq=>?_);have hlt:q < us.length * sz:=by
   rw [← bD hz];rcases Nat.lt_or_ge q (aI us).length with h' | h'
   ·exact h'
   ·rw [List.getElem?_eq_none h'] at hq; cases hq
  obtain ⟨i,j,h1,h2,rfl⟩:=hM hlt;have hj:j < us[i].cells.size:=by rw [hz i h1]; exact h2
  rw [dQ hz i j h1 hj] at hq;rw [← Option.some.inj hq,addr_add, ← Nat.add_assoc];show w.cell? _ = _
  exact hc i j h1 hj
theorem oG {sz:Nat} {xs:List aa} {c:Value} (hc:Rv s (.slice sz xs) c):∃ (a:Option Addr) (cap:Nat) (us:List Value),c = .slice a xs.length cap ∧ us.length = xs.length ∧
   (∀ i (h1:i < xs.length) (h2:i < us.length),Rv s xs[i] us[i] ∧ us[i].cells.size = sz) ∧
   (xs.length = 0 ∨ ∃ blk off,a = some ⟨blk,off,none⟩ ∧ ∀ i j (h2:i < us.length) (hj:j < us[i].cells.size),s.w.cell? ⟨blk,off + i * sz + j,none⟩ = some us[i].cells[j]):=by
 obtain ⟨a,cap,rfl,h⟩:=hc.bL;rcases h with rfl | ⟨blk,off,us,rfl,hl,hcp,hr,hm⟩
 ·exact ⟨a,cap,[],rfl,rfl,fun i h=>by simp at h, .inl rfl⟩
 ·exact ⟨_,cap,us,rfl,hl,fun i h1 h2=>⟨hr i h1 h2,(hm i h2).1⟩, .inr ⟨blk,off,rfl,fun i j h2 hj=>((hm i h2).2 j hj).2⟩⟩
theorem bj.from {s1:St} (hg:aT s s1) {Q:bh → ab → Prop} {e:Ending} {w:World} (h:bj A s1 Q e w):bj A s Q e w:=
 let ⟨r,s',a,b,c,d,q⟩:=h; ⟨r,s',a,b,hg.trans c,d,q⟩
theorem ar.from {s1:St} (hg:aT s s1) {r:Result Next} (h:ar P A s1 K Kp r):ar P A s K Kp r:=by
 cases r with
 | ok v w=>
  cases v with
  | value c=>obtain ⟨v,s',a,b,c,d,e⟩:=h; exact ⟨v,s',a,b,hg.trans c,d,e⟩
  | skip=>obtain ⟨v,s',a,b,c,d,e⟩:=h; exact ⟨v,s',a,b,hg.trans c,d,e⟩
  | enter f args=>exact Calls.mono h fun _ _ hp=>hp.from hg
  | round l f tmps asg body=>exact fun ro=>(h ro).mono fun _ _ hp=>hp.from hg
  | _=>exact h
 | halt x w=>
  cases x with
  | panic c=>obtain ⟨v,s',a,b,c,d,e⟩:=h; exact ⟨v,s',a,b,hg.trans c,d,e⟩
  | _=>exact h
theorem iS (hi:Inv A s) {t tx ty e:TypeId} {i:TypeInfo} {z:Value} {sz bytes:Nat} (ht:P.underlying t = some (.slice e)) (hinf:P.info? e = some i) (hzv:i.zero = some z)
  (hsz:i.size = sz) (hby:i.bytes = bytes) (hzs:z.cells.size = sz) (hbpos:0 < bytes) {xv:aa} {c d:Value} {ys:List aa} {ws:List Value} (hx:Rv s xv c) (hsrc:Src P i.size tx d ys.length (aI ws) s.w)
  (hwl:ws.length = ys.length) (hwr:∀ j (h1:j < ys.length) (h2:j < ws.length),Rv s ys[j] ws[j]) (hwz:∀ j (h2:j < ws.length),ws[j].cells.size = i.size)
  (hnn:∀ z,xv ≠ .nils z) (h:dv sz bytes s.h xv ys K):ar P A s K Kp ((do pure (Next.value (← Builtin.append_ #[t,tx] ty #[c,d])):Sem Next).run P s.w):=by
 subst hsz;subst hby
 -- no room: what the run gives
 have grow:∀ (a:Option Addr) (n cap:Nat) (us:List Value),us.length = n → (∀ j (h2:j < us.length),us[j].cells.size = i.size) →
   (n = 0 ∨ ∃ blk off,a = some ⟨blk,off,none⟩ ∧ ∀ p j (h2:p < us.length) (hj:j < us[p].cells.size),s.w.cell? ⟨blk,off + p * i.size + j,none⟩ = some us[p].cells[j]) →
   cap < n + ys.length → (n + ys.length) * i.bytes ≤ 140737488355328 →
   (Builtin.append_ #[t,tx] ty #[.slice a n cap,d]).run P s.w =
    .ok (.slice (some ⟨s.w.heap.size,0,none⟩) (n + ys.length) (grownCap s.w (n + ys.length) cap e))
     (s.w.drew.alloc (.cells ((aI us ++ aI ws).toArray ++ Builtin.zeroCells z.cells (grownCap s.w (n + ys.length) cap e - (n + ys.length))) e)):=by
  intro a n cap us hul huz hm hlt hb;refine run_append_grow_src s.w t tx ty e i z ht hinf hzv a n cap (aI us) (mw hul huz hm) _ ys.length (aI ws) hsrc hlt ?_ (growslice_fits hlt hb);have:n + ys.length ≤ (n + ys.length) * i.bytes:=Nat.le_mul_of_pos_right _ hbpos;omega
 cases xv with
 | oslice sz' xs b k=>
  obtain ⟨rfl,hb,h⟩:=h
  cases hbk:s.h.get b with
  | spare sz'' k'=>
   rw [hbk] at h;obtain ⟨rfl,rfl,h⟩:=h;have hbs:=ab.get_some hbk (by simp)
   cases hx with
   | oslice _ _ _ _ _ hs hl=>
    obtain ⟨a,cap,us,rfl,hul,hur,hum⟩:=oG hs;rcases Nat.lt_or_ge cap (xs.length + ys.length) with hlt | hroom
    ·-- a new block
     have hrun:=grow a xs.length cap us hul (fun j h2=>(hur j (by omega) h2).2) hum hlt hb;have hd:=hi.drew;have he:=gQ (s:={ s with w:=s.w.drew }) (Z:=Builtin.zeroCells z.cells (grownCap s.w (xs.length + ys.length) cap e - (xs.length + ys.length))) hul hwl (fun j h1 h2=>⟨(hur j h1 h2).1.keeps hd.2.keeps,(hur j h1 h2).2⟩) (fun j h1 h2=>(hwr j h1 h2).keeps hd.2.keeps) hwz;have hcap:=grownCap_ge s.w (xs.length + ys.length) cap e;obtain ⟨s',e1,e2,i2,g2,r2⟩:=hd.1.ql hbs e _ (by simpa using hcap) (iy hul hwl (fun j h2=>(hur j (by omega) h2).2) hwz hzs hcap) he;refine ar.value (bA hrun) e2 i2 (hd.2.trans g2) ?_ (by rw [e1]; exact h);simpa using r2
    ·by_cases h0:ys.length = 0
     ·-- nothing comes
      have hy0:ys = []:=List.eq_nil_of_length_eq_zero h0;have hw0:ws = []:=List.eq_nil_of_length_eq_zero (by omega);subst hy0; subst hw0;have hrun:(Builtin.append_ #[t,tx] ty #[.slice a xs.length cap,d]).run P s.w = .ok (.slice a xs.length cap) s.w:=by
       have h1:=hsrc.len;have h2:=hsrc.cells;simp [aI] at h2;have h3:xs.length ≤ cap:=by simpa using hroom
       simp only [List.length_nil] at h1;rcases hsrc.kind with ⟨e',hk⟩ | hk <;> cases a <;> simp [Builtin.append_,run_underlying ht,run_underlying hk,sizeOf,typeInfo,hinf,h1,h3,h2,storeCells]
      have hblt:b < s.h.length:=(List.getElem?_eq_some_iff.1 hbs).1;obtain ⟨hno,a',len',cap',hl',hle,hxx⟩:=hi.obj b _ hbs
      let s':St:={ h:=s.h.set b (.spare i.size (k' + 1)),lam:=aO s.lam b (k' + 1) (.slice a xs.length cap),S:=s.S,w:=s.w }
      have hkp:aL s s':=⟨aJ (hno _ (by omega)),fun _ _ h=>h,fun _ _ _=>rfl⟩;have e1:a' = a ∧ len' = xs.length ∧ cap' = cap:=by rw [hl] at hl'; simp at hl'; exact ⟨hl'.1.symm,hl'.2.1.symm,hl'.2.2.symm⟩
      obtain ⟨rfl,rfl,rfl⟩:=e1;have hgo:=hi.change (s':=s') hblt rfl hkp hi.below (Nat.le_refl _) (fun b' k hne=>av (.inl hne)) (fun _ _ _=>rfl)
       ⟨fun k2 hk2=>(av (.inr (by omega))).trans (hno k2 (by omega)),a',xs.length,cap',aC _ _ _ _,hle,hxx⟩
       (fun blk ho=>by
        obtain ⟨off,len,cp,e,hlt⟩:=ho;have e':aO s.lam b (k' + 1) (.slice a' xs.length cap') b (k' + 1) = _:=e;simp at e';obtain ⟨rfl,rfl,rfl⟩:=e'
        exact .inr ⟨_,hbs,off,_,_,hl',hlt⟩)
       (fun _ _ h=>.inl h) hi.scell
      refine ar.value (bA hrun) (s':=s') rfl hgo.1 hgo.2 (v:=.oslice i.size (xs ++ []) b (k' + 1)) ?_ h;rw [List.append_nil];exact .oslice _ _ _ _ _ (hs.keeps hgo.2.keeps) (aC _ _ _ _)
     ·-- there is room
      have hlt:xs.length < cap:=by omega
      obtain ⟨hno,a',len',cap',hl',hle,hxx⟩:=hi.obj b _ hbs;have e1:a' = a ∧ len' = xs.length ∧ cap' = cap:=by rw [hl] at hl'; simp at hl'; exact ⟨hl'.1.symm,hl'.2.1.symm,hl'.2.2.symm⟩
      obtain ⟨rfl,rfl,rfl⟩:=e1;obtain ⟨blk,off,vs,el,rfl,hB,hh,hfitc,hnS⟩:=hxx hlt;obtain ⟨hfit,s',f1,f2,i2,g2,r2⟩:=hi.rQ hbs hs hl hwl hwr hwz rfl hroom hlt hh;have hrun:=dj (P:=P) (ty:=ty) ht hinf (w:=s.w) blk off xs.length cap' _ ys.length (aI ws) hsrc hh hroom hfit;exact ar.value (bA hrun) f2 i2 g2 r2 (by rw [f1]; exact h)
  | _=>rw [hbk] at h; exact h.elim
 | sref sz' b off len n=>
  obtain ⟨rfl,h⟩:=h
  cases hbk:s.h.get b with
  | arr sz'' xs=>
   rw [hbk] at h;obtain ⟨rfl,hn,h⟩:=h;have hbs:=ab.get_some hbk (by simp);have hself:s.h.set b (.arr i.size xs) = s.h:=by
    refine List.ext_getElem? fun j=>?_
    by_cases hj:b = j
    ·subst hj; rw [List.getElem?_set_self (List.getElem?_eq_some_iff.1 hbs).1,hbs]
    ·rw [List.getElem?_set_ne hj]
   -- nothing comes
   have none_comes:∀ {a:Option Addr} {cap:Nat},Rv s (.sref i.size b off len n) (.slice a len cap) → len ≤ cap → ys.length = 0 → off + len ≤ n → K (.sref i.size b off (len + ys.length) n) (s.h.set b (.arr i.size (xs.take (off + len) ++ ys ++ xs.drop (off + len + ys.length)))) →
     ar P A s K Kp ((do pure (Next.value (← Builtin.append_ #[t,tx] ty #[.slice a len cap,d])):Sem Next).run P s.w):=by
    intro a cap hx hle h0 hle2 hK;have hy0:ys = []:=List.eq_nil_of_length_eq_zero h0;have hw0:ws = []:=List.eq_nil_of_length_eq_zero (by omega);subst hy0; subst hw0;have hrun:(Builtin.append_ #[t,tx] ty #[.slice a len cap,d]).run P s.w = .ok (.slice a len cap) s.w:=by
     have h1:=hsrc.len;have h2:=hsrc.cells;simp [aI] at h2;simp only [List.length_nil] at h1;rcases hsrc.kind with ⟨e',hk⟩ | hk <;> cases a <;> simp [Builtin.append_,run_underlying ht,run_underlying hk,sizeOf,typeInfo,hinf,h1,hle,h2,storeCells]
    refine ar.value (bA hrun) rfl hi (.refl s) hx ?_;simp only [List.length_nil,Nat.add_zero,List.append_nil,List.take_append_drop,hself] at hK;exact hK
   have zero:∀ {a:Option Addr},n = 0 → off = 0 → len = 0 → s.lam b 0 = some (.slice a 0 0) → Rv s (.sref i.size b off len n) (.slice a 0 0) →
     ar P A s K Kp ((do pure (Next.value (← Builtin.append_ #[t,tx] ty #[.slice a 0 0,d])):Sem Next).run P s.w):=by
    intro a e1 e2 e3 hl hx;subst e1; subst e2; subst e3;have hx0:xs = []:=List.eq_nil_of_length_eq_zero hn;by_cases h0:ys.length = 0
    ·rw [if_pos (by omega)] at h;exact none_comes hx (Nat.le_refl _) h0 (by omega) h
    ·rw [if_neg (by omega)] at h;obtain ⟨_,_,hb,h⟩:=h;have hrun:=grow a 0 0 [] rfl (fun j h2=>by simp at h2) (.inl rfl) (by omega) hb;have hd:=hi.drew;have he:=gQ (s:={ s with w:=s.w.drew }) (sz:=i.size) (xs:=[]) (us:=[]) (Z:=Builtin.zeroCells z.cells (grownCap s.w (0 + ys.length) 0 e - (0 + ys.length))) rfl hwl (fun j h1 h2=>by simp at h1) (fun j h1 h2=>(hwr j h1 h2).keeps hd.2.keeps) hwz;have hcap2:=grownCap_ge s.w (0 + ys.length) 0 e;have hgs:=iy (us:=[]) (z:=z.cells) rfl hwl (fun j h2=>by simp at h2) hwz hzs hcap2;subst hx0;obtain ⟨s',e1,e2,i2,g2,k2⟩:=hd.1.o9 (zs:=[] ++ ys) hbs e _ (by simp; omega) (by simpa using hcap2) hgs he (grownCap_le_maxLen _ _ _ _ (Nat.le_trans (Nat.le_mul_of_pos_right _ hbpos) (Nat.le_trans hb (by decide))));refine ar.value (bA hrun) e2 i2 (hd.2.trans g2) ?_ (by rw [e1]; exact h);rw [List.length_append,List.length_nil] at k2;have:=Rv.sref (s:=s') i.size b 0 (0 + ys.length) (0 + ys.length) _ _ k2 (by omega) hcap2;simpa using this
   cases hx with
   | sref0 _ _ a hl=>exact zero rfl rfl rfl hl (.sref0 _ _ _ hl)
   | srefE _ _ _ _ a v hl h0 h1=>
    by_cases hc:off + 0 + ys.length ≤ n
    ·rw [if_pos hc] at h;exact none_comes (.srefE _ _ _ _ _ _ hl h0 h1) (Nat.le_refl _) (by omega) (by omega) h
    ·rw [if_neg hc] at h; omega
   | sref _ _ _ _ _ blk cap hl h1 h2=>
    rcases (hi.obj b _ hbs).eX with ⟨hx0,a,hl'⟩ | ⟨blk',cap',vs,el,us,h0,hl',hB,hh,hvs,hcap,hel,hnS⟩
    ·subst hx0;have hn0:n = 0:=by simpa using hn.symm
     subst hn0;rw [hl] at hl'; simp at hl';have e1:off = 0:=by omega
     have e2:len = 0:=by omega
     subst e1; subst e2;obtain ⟨_,e3⟩:=hl';subst e3;have:=zero (a:=some ⟨blk,0,none⟩) rfl rfl rfl hl (by simpa using Rv.sref (s:=s) i.size b 0 0 0 blk 0 hl (Nat.le_refl _) (Nat.le_refl _));simpa using this
    ·have e1:blk' = blk ∧ cap' = cap:=by rw [hn,hl] at hl'; simp at hl'; exact ⟨hl'.1.symm,hl'.2.symm⟩
     obtain ⟨rfl,rfl⟩:=e1;subst hn;by_cases hc:off + len + ys.length ≤ xs.length
     ·rw [if_pos hc] at h;obtain ⟨hfit,s',f1,f2,i2,g2,k2⟩:=hi.od hbs h0 hl' hh hvs hel hnS hB hwl hwr hwz (p:=off + len) (by omega) (by omega) hcap;have hrun:=dj (P:=P) (ty:=ty) ht hinf (w:=s.w) blk' (off * i.size) len (cap' - off) _ ys.length (aI ws) hsrc hh (by omega) (by rw [← Nat.add_mul]; exact hfit);rw [← Nat.add_mul] at hrun;refine ar.value (bA hrun) f2 i2 g2 ?_ (by rw [f1]; exact h);exact .sref _ _ _ _ _ blk' cap' (g2.keeps.lam _ _ _ hl) (by omega) h2
     ·rw [if_neg hc] at h;obtain ⟨e1,e2,hb,h⟩:=h;subst e1; subst e2;rcases Nat.lt_or_ge cap' (xs.length + ys.length) with hlt | hroom
      ·have hd:=hi.drew
       have hrun:=grow (some ⟨blk',0 * i.size,none⟩) xs.length (cap' - 0) us hel.len (fun j h2=>(hel.rv j (by have:=hel.len; omega) h2).2) (.inr ⟨blk',0 * i.size,rfl,fun p j h2 hj=>by
        have:=hel.cell p j h2 hj;simp only [World.cell?,hh,Nat.zero_mul,Nat.zero_add]
        rw [this]; rfl⟩) (by omega) hb
       have he:=gQ (s:={ s with w:=s.w.drew }) (Z:=Builtin.zeroCells z.cells (grownCap s.w (xs.length + ys.length) (cap' - 0) e - (xs.length + ys.length))) hel.len hwl (fun j h1 h2=>⟨(hel.rv j h1 h2).1.keeps hd.2.keeps,(hel.rv j h1 h2).2⟩) (fun j h1 h2=>(hwr j h1 h2).keeps hd.2.keeps) hwz;have hcap2:=grownCap_ge s.w (xs.length + ys.length) (cap' - 0) e;obtain ⟨s',e1,e2,i2,g2,k2⟩:=hd.1.o9 (zs:=xs ++ ys) hbs e _ (by simp; omega) (by simpa using hcap2) (iy hel.len hwl (fun j h2=>(hel.rv j (by have:=hel.len; omega) h2).2) hwz hzs hcap2) he (grownCap_le_maxLen _ _ _ _ (Nat.le_trans (Nat.le_mul_of_pos_right _ hbpos) (Nat.le_trans hb (by decide))));refine ar.value (bA hrun) e2 i2 (hd.2.trans g2) ?_ (by rw [e1]; exact h);rw [List.length_append] at k2;have:=Rv.sref (s:=s') i.size b 0 (xs.length + ys.length) (xs.length + ys.length) _ _ k2 (by omega) hcap2;simpa using this
      ·obtain ⟨hfit,s',f1,f2,i2,g2,k2⟩:=hi.od hbs h0 hl' hh hvs hel hnS hB hwl hwr hwz (p:=xs.length) (Nat.le_refl _) hroom hcap;have hrun:=dj (P:=P) (ty:=ty) ht hinf (w:=s.w) blk' (0 * i.size) xs.length (cap' - 0) _ ys.length (aI ws) hsrc hh (by omega) (by rw [← Nat.add_mul,Nat.zero_add]; exact hfit);rw [← Nat.add_mul,Nat.zero_add] at hrun;have hmx:max xs.length (xs.length + ys.length) = xs.length + ys.length:=by omega
       rw [hmx] at k2;refine ar.value (bA hrun) f2 i2 g2 (.sref _ _ _ _ _ blk' cap' k2 (by omega) hroom) ?_;rw [f1,List.take_of_length_le (Nat.le_refl _),List.drop_of_length_le (by omega),List.append_nil];exact h
  | _=>rw [hbk] at h; exact h.elim
 | nils z=>exact (hnn z rfl).elim
 | _=>exact h.elim
theorem km (hi:Inv A s) {t tx ty e:TypeId} {i:TypeInfo} {z:Value} {sz bytes:Nat} (ht:P.underlying t = some (.slice e)) (hinf:P.info? e = some i) (hzv:i.zero = some z)
  (hsz:i.size = sz) (hby:i.bytes = bytes) (hzs:z.cells.size = sz) (hbpos:0 < bytes) {xv:aa} {c d:Value} {ys:List aa} {ws:List Value} (hx:Rv s xv c) (hsrc:Src P i.size tx d ys.length (aI ws) s.w)
  (hwl:ws.length = ys.length) (hwr:∀ j (h1:j < ys.length) (h2:j < ws.length),Rv s ys[j] ws[j]) (hwz:∀ j (h2:j < ws.length),ws[j].cells.size = i.size)
  (h:dv sz bytes s.h xv ys K):ar P A s K Kp ((do pure (Next.value (← Builtin.append_ #[t,tx] ty #[c,d])):Sem Next).run P s.w):=by
 cases xv with
 | nils sz'=>
  obtain ⟨rfl,hb,h⟩:=h;cases hx;obtain ⟨s1,e1,e2,i1,g1,d1⟩:=hi.one;obtain ⟨s2,f1,f2,i2,g2,k2,_⟩:=i1.dE d1 sz' none 0;have h2:s2.h = s.h ++ [.spare sz' 0]:=by rw [f1,e1]; exact aS _ _ _
  have hw:s2.w = s.w:=f2.trans e2;have hg:s2.h.get s.h.length = .spare sz' 0:=by rw [h2]; simp [ab.get]
  rw [← hw] at hsrc ⊢;refine ar.from (g1.trans g2) (iS i2 ht hinf hzv hsz hby hzs hbpos (xv:=.oslice sz' [] s.h.length 0) (.oslice _ _ _ _ _ (.slice0 sz' _ _) k2) hsrc hwl (fun j h1 h2=>(hwr j h1 h2).keeps (g1.trans g2).keeps) hwz (fun z e=>by cases e) ?_)
  refine ⟨rfl,by simpa using hb, ?_⟩;rw [hg];refine ⟨rfl,rfl, ?_⟩;have:s2.h.set s.h.length (.spare sz' 1) = s.h ++ [.spare sz' 1]:=by rw [h2]; exact aS _ _ _
  rw [this];simpa using h
 | _=>exact iS hi ht hinf hzv hsz hby hzs hbpos hx hsrc hwl hwr hwz (fun z e=>by cases e) h
theorem nQ (hi:Inv A s) {t tx ty e e':TypeId} {i:TypeInfo} {z:Value} {sz bytes:Nat} (ht:P.underlying t = some (.slice e)) (hk:P.underlying tx = some (.slice e')) (hinf:P.info? e = some i) (hzv:i.zero = some z)
  (hsz:i.size = sz) (hby:i.bytes = bytes) (hzs:z.cells.size = sz) (_hpos:0 < sz) (hbpos:0 < bytes) {xv yv:aa} {c d:Value} (hx:Rv s xv c) (hy:Rv s yv d) (ho:yv.cE s.h sz) (hf:Fits sz (yv.elems s.h))
  (h:dv sz bytes s.h xv (yv.elems s.h) K):ar P A s K Kp ((do pure (Next.value (← Builtin.append_ #[t,tx] ty #[c,d])):Sem Next).run P s.w):=by
 subst hsz;obtain ⟨ya,ycap,ws,rfl,hwl,hwr,hwz,hwm⟩:=mZ hi hy ho;exact km hi ht hinf hzv rfl hby hzs hbpos hx (KU (P:=P) (cap:=ycap) hk hwl hwr hwz hf hwm) hwl hwr hwz h
theorem px (s:ByteArray):aI (byteCells s) = byteCells s:=by
 have:∀ l:List UInt8,aI (l.map fun b=>Value.int .u8 b.toNat) = l.map fun b=>Value.int .u8 b.toNat:=by
  intro l
  induction l with
  | nil=>rfl
  | cons b l ih=>simp only [List.map_cons,aI,ih]; rfl
 exact this _
theorem mj (hi:Inv A s) {t tx ty e:TypeId} {i:TypeInfo} {z:Value} {bytes:Nat} (ht:P.underlying t = some (.slice e)) (hk:P.underlying tx = some .string) (hinf:P.info? e = some i) (hzv:i.zero = some z)
  (hsz:i.size = 1) (hby:i.bytes = bytes) (hzs:z.cells.size = 1) (hbpos:0 < bytes) {xv yv:aa} {c d:Value} (hx:Rv s xv c) (hy:Rv s yv d)
  (h:sj bytes s.h xv yv K):ar P A s K Kp ((do pure (Next.value (← Builtin.append_ #[t,tx] ty #[c,d])):Sem Next).run P s.w):=by
 cases yv with
 | str x=>
  cases hy;have hl:(byteCells x).length = (lh x).length:=by simp [byteCells,lh]
  have hg:∀ j (h1:j < (lh x).length) (h2:j < (byteCells x).length),Rv s (lh x)[j] (byteCells x)[j] ∧ (byteCells x)[j].cells.size = i.size:=by
   intro j h1 h2;rw [hsz];have e1:(lh x)[j] = .int .u8 (x.data.toList[j]'(by simpa [lh] using h1)).toNat:=by simp [lh,Jv]
   have e2:(byteCells x)[j] = .int .u8 (x.data.toList[j]'(by simpa [lh] using h1)).toNat:=by simp [byteCells]
   rw [e1,e2];exact ⟨.int _ _,rfl⟩
  refine km (ys:=lh x) (ws:=byteCells x) hi ht hinf hzv hsz hby hzs hbpos hx ?_ hl (fun j h1 h2=>(hg j h1 h2).1) (fun j h2=>(hg j (by omega) h2).2) h;rw [px,hsz, ← hl];have hs:(byteCells x).length = x.size:=by simp [byteCells]
  rw [hs];exact Src.ofString _ hk x
 | _=>exact h.elim
end
open Go.RowKit
section
variable {P:Program} {s:St} {A:World} {ρ:ay → aa} {ρ':Operand → Value} {K Kp:aa → ab → Prop}
theorem jz (hi:Inv A s) {sz:Nat} {v:aa} {c:Value} (hv:Rv s v c) (h:jv sz s.h v K):ar P A s K Kp (.ok (.value c) s.w):=by
 cases v with
 | sref sz' b off len n=>
  obtain ⟨rfl,h⟩:=h
  cases hb:s.h.get b with
  | arr sz'' xs=>
   rw [hb] at h;obtain ⟨rfl,hn,h⟩:=h;obtain ⟨s',e1,e2,i2,g2,r2⟩:=hi.iI (ab.get_some hb (by simp)) hv hn;exact ar.value rfl e2 i2 g2 r2 (by rw [e1]; exact h)
  | _=>rw [hb] at h; exact h.elim
 | _=>exact h.elim
theorem vx (hi:Inv A s) (ha:dP s ρ ρ') {t e:TypeId} (ht:P.underlying t = some (.slice e)) {sz m:Nat} (hsz:P.cellsOf e = sz) (hinf:(P.info? e).isSome = true) {xv:aa} {c:Value} (hx:Rv s xv c)
  {lo hi_ mx:Option ay} {lo' hi' mx':Option Operand} (h1:dk lo lo' = true) (h2:dk hi_ hi' = true) (h3:dk mx mx' = true) (o1:b6 ρ lo) (o2:b6 ρ hi_) (o3:b6 ρ mx) (hmx:mx.isSome = true → hi_.isSome = true)
  (h:nN m sz s.h xv (aF ρ 0 lo) (fun n=>aF ρ n hi_) (mx.map fun x=>aP (ρ x)) K):ar P A s K Kp ((do pure (Next.value (← Instr.slice t c (lo'.map ρ') (hi'.map ρ') (mx'.map ρ'))):Sem Next).run P s.w):=by
 have core : ∀ {sz' : Nat} {xs : List aa} {c : Value},Rv s (.slice sz' xs) c → (sz' = sz ∨ xs = []) →
   (0 ≤ aF ρ 0 lo ∧ aF ρ 0 lo ≤ aF ρ xs.length hi_ ∧ (match mx.map fun x=>aP (ρ x) with
    | none=>aF ρ xs.length hi_ ≤ xs.length ∧ m = 0
    | some v=>aF ρ xs.length hi_ ≤ v ∧ v ≤ xs.length ∧ (m = 1 → v = aF ρ xs.length hi_) ∧ (m = 2 → v = 0)) ∧
   (if m = 0 then K (.slice sz ((xs.take (aF ρ xs.length hi_).toNat).drop (aF ρ 0 lo).toNat)) s.h
   else if m = 1 then K (.oslice sz ((xs.take (aF ρ xs.length hi_).toNat).drop (aF ρ 0 lo).toNat) s.h.length 0) (s.h ++ [.spare sz 0])
   else m = 2 ∧ K (.sref sz s.h.length 0 0 0) (s.h ++ [.arr sz []]))) →
   ar P A s K Kp ((do pure (Next.value (← Instr.slice t c (lo'.map ρ') (hi'.map ρ') (mx'.map ρ'))):Sem Next).run P s.w):=by
  intro sz' xs c hx hz hg;obtain ⟨g0,g1,g2,hK⟩:=hg;obtain ⟨a,cap,rfl,hs⟩:=hx.bL;have hcap:xs.length ≤ cap:=by
   rcases hs with rfl | ⟨_,_,_,_,_,hc,_⟩
   ·simp
   ·exact hc
  have gm:aF ρ xs.length hi_ ≤ aF ρ cap mx ∧ aF ρ cap mx ≤ cap ∧ aF ρ xs.length hi_ ≤ xs.length ∧ (m ≠ 0 → aF ρ cap mx ≤ xs.length ∧ (m = 1 → aF ρ cap mx = aF ρ xs.length hi_) ∧ (m = 2 → aF ρ cap mx = 0)):=by
   cases mx with
   | none=>simp only [Option.map_none,aF] at g2 ⊢; exact ⟨by omega,by omega,g2.1,fun h=>absurd g2.2 h⟩
   | some x=>simp only [Option.map_some] at g2; simp only [aF] at g2 ⊢; exact ⟨g2.1,by omega,by omega,fun _=>⟨g2.2.1,g2.2.2⟩⟩
  obtain ⟨gm1,gm2,gm3,gm4⟩:=gm;have hb:=gl (P:=P) (w:=s.w) ha h1 h2 h3 o1 o2 o3 g0 g1 gm1 gm2 hmx;have hrun:=fQ (a:=a) ht hsz hinf hb;generalize hl:(aF ρ 0 lo).toNat = l at *;generalize hh:(aF ρ xs.length hi_).toNat = hh' at *;generalize hm:(aF ρ cap mx).toNat = mm at *;have hlh:l ≤ hh':=by omega
  have hhx:hh' ≤ xs.length:=by omega
  have hhm:hh' ≤ mm:=by omega
  have hlen:((xs.take hh').drop l).length = hh' - l:=by simp; omega
  -- the part, az a slice
  have hpart:Rv s (.slice sz ((xs.take hh').drop l)) (.slice (if mm = l then a else a.map (·.add (l * sz))) (hh' - l) (mm - l)):=by
   by_cases he:hh' = l
   ·have:(xs.take hh').drop l = []:=List.eq_nil_of_length_eq_zero (by rw [hlen]; omega);rw [this,show hh' - l = 0 by omega]; exact .slice0 _ _ _
   ·rcases hs with rfl | ⟨blk,off,us,rfl,q1,q2,q3,q4⟩
    ·simp at hhx; omega
    ·have hsz':sz' = sz:=hz.resolve_right (by intro e; subst e; simp at hhx; omega);subst hsz';rw [if_neg (by omega)];simp only [Option.map_some,addr_add];refine .slice sz' _ blk (off + l * sz') _ _ ((us.take hh').drop l) (by simp [q1]) hlen.symm (by omega) (fun i r1 r2=>?_) (fun i r2=>?_)
     ·have:=q3 (l + i) (by simp at r1; omega) (by simp at r2; omega);simpa using this
     ·have:=q4 (l + i) (by simp at r2; omega);simp only [List.getElem_drop,List.getElem_take];rw [show off + l * sz' + i * sz' = off + (l + i) * sz' by rw [Nat.add_mul]; omega];exact this
  by_cases hm0:m = 0
  ·rw [if_pos hm0] at hK;exact ar.value (aj _ _ _ _ hrun) rfl hi (.refl s) hpart hK
  ·rw [if_neg hm0] at hK;obtain ⟨k1,k2,k3⟩:=gm4 hm0;by_cases hm1:m = 1
   ·rw [if_pos hm1] at hK;obtain ⟨s1,e1,e2,i1,g1',d1⟩:=hi.one;obtain ⟨s2,f1,f2,i2,g2',kk,_⟩:=i1.dE d1 sz (if mm = l then a else a.map (·.add (l * sz))) (hh' - l);have hmm:mm = hh':=by have:=k2 hm1; omega
    refine ar.value (aj _ _ _ _ hrun) (f2.trans e2) i2 (g1'.trans g2') (v:=.oslice sz ((xs.take hh').drop l) s.h.length 0) (.oslice _ _ _ _ _ ((hpart.keeps g1'.keeps).keeps g2'.keeps) (by rw [kk,hmm])) ?_;rw [f1,e1,aS]; exact hK
   ·rw [if_neg hm1] at hK;obtain ⟨hm2,hK⟩:=hK;have:=k3 hm2;obtain ⟨s1,e1,e2,i1,g1',d1⟩:=hi.one;obtain ⟨s2,f1,f2,i2,g2',kk⟩:=i1.fW d1 sz a;have z1:mm = 0:=by omega
    have z2:hh' = 0:=by omega
    have z3:l = 0:=by omega
    subst z1; subst z2; subst z3;simp only [if_true,Nat.sub_self] at hrun;refine ar.value (aj _ _ _ _ hrun) (f2.trans e2) i2 (g1'.trans g2') (v:=.sref sz s.h.length 0 0 0) (.sref0 _ _ _ kk) ?_;rw [f1,e1,aS]; exact hK
 cases xv with
 | slice sz' xs=>exact core hx h.1 h.2
 | oslice sz' xs b k=>
  cases hx with
  | oslice _ _ _ _ _ hs hl=>exact core hs (.inl h.1) h.2
 | sref sz' b off len n=>
  by_cases hm3:m = 3
  ·simp only [nN,if_pos hm3] at h
   cases mx with
   | none=>exact h.elim
   | some x=>
    simp only [Option.map_some] at h;obtain ⟨g0,g1,g2,g3,hK⟩:=h;have hc:∃ a cap,c = .slice a len cap ∧ len ≤ cap:=by
     cases hx with
     | sref _ _ _ _ _ blk cap hl h1 h2=>exact ⟨_,_,rfl,by omega⟩
     | sref0 _ _ a hl=>exact ⟨_,_,rfl,Nat.le_refl _⟩
     | srefE _ _ _ _ a v hl h0 h1=>exact ⟨_,_,rfl,Nat.le_refl _⟩
    obtain ⟨a,cap,rfl,hle⟩:=hc;have hb:=gl (P:=P) (w:=s.w) (mx:=some x) (cap:=cap) ha h1 h2 h3 o1 o2 o3 g0 g1 g2 (by simp only [aF]; omega) hmx;exact ar.value (aj _ _ _ _ (fQ (a:=a) ht hsz hinf hb)) rfl hi (.refl s) (.undef _) hK
  simp only [nN,if_neg hm3] at h;obtain ⟨rfl,_,hmx0,g0,g1,g2,hK⟩:=h;have hmn:mx = none:=by cases mx <;> simp at hmx0 ⊢
  subst hmn
  replace g1:aF ρ 0 lo ≤ aF ρ len hi_:=g1
  replace g2:off + aF ρ len hi_ ≤ n:=g2
  have go:∀ {a:Option Addr} {cap:Nat},(aF ρ len hi_).toNat ≤ cap → Rv s (.sref sz' b (off + (aF ρ 0 lo).toNat) (aF ρ len hi_ - aF ρ 0 lo).toNat n)
    (.slice (if cap = (aF ρ 0 lo).toNat then a else a.map (·.add ((aF ρ 0 lo).toNat * sz'))) ((aF ρ len hi_).toNat - (aF ρ 0 lo).toNat) (cap - (aF ρ 0 lo).toNat)) →
    ar P A s K Kp ((do pure (Next.value (← Instr.slice t (.slice a len cap) (lo'.map ρ') (hi'.map ρ') (mx'.map ρ'))):Sem Next).run P s.w):=by
   intro a cap hle hrv;have hb:=gl (P:=P) (w:=s.w) (mx:=none) (cap:=cap) ha h1 h2 h3 o1 o2 o3 g0 g1 (by simp only [aF] at hle ⊢; omega) (by simp only [aF]; omega) hmx;have hrun:=fQ (a:=a) ht hsz hinf hb;simp only [show aF ρ (cap:Int) none = cap from rfl,Int.toNat_natCast] at hrun;exact ar.value (aj _ _ _ _ hrun) rfl hi (.refl s) hrv hK
  generalize hl:(aF ρ 0 lo).toNat = l at *;generalize hh:(aF ρ len hi_).toNat = hh' at *;have e1:(aF ρ len hi_ - aF ρ 0 lo).toNat = hh' - l:=by omega
  have e2:l ≤ hh':=by omega
  have e3:off + hh' ≤ n:=by omega
  rw [e1] at go
  cases hx with
  | sref0 _ _ a hl0=>
   have z1:hh' = 0:=by omega
   have z2:l = 0:=by omega
   subst z1; subst z2;exact go (Nat.le_refl _) (by simpa using Rv.sref0 (s:=s) sz' b a hl0)
  | srefE _ _ _ _ a v hl0 q0 q1=>
   have z1:hh' = 0:=by omega
   have z2:l = 0:=by omega
   subst z1; subst z2;exact go (Nat.le_refl _) (by simpa using Rv.srefE (s:=s) sz' b off n a v hl0 q0 q1)
  | sref _ _ _ _ _ blk cap hl0 q1 q2=>
   refine go (by omega) ?_;by_cases hm:cap - off = l
   ·rw [if_pos hm,show hh' - l = 0 by omega,show cap - off - l = 0 by omega];rcases Nat.eq_zero_or_pos l with h0 | h0
    ·subst h0;have:=Rv.sref (s:=s) sz' b off 0 n blk cap hl0 (by omega) q2;rw [hm] at this; simpa using this
    ·exact .srefE _ _ _ _ _ _ hl0 (by omega) (by omega)
   ·rw [if_neg hm];simp only [Option.map_some,addr_add];have:=Rv.sref (s:=s) sz' b (off + l) (hh' - l) n blk cap hl0 (by omega) q2;rw [Nat.add_mul,show cap - (off + l) = cap - off - l by omega] at this;exact this
 | _=>exact h.elim
theorem mU (hi:Inv A s) {b sz off len n:Nat} {xs ys:List aa} {ws:List Value} {c:Value} (hb:s.h[b]? = some (.arr sz xs)) (hn:xs.length = n) (hx:Rv s (.sref sz b off len n) c) (hwl:ws.length = ys.length)
  (hr:∀ i (h1:i < ys.length) (h2:i < ws.length),Rv s ys[i] ws[i]) (hz:∀ i (h2:i < ws.length),ws[i].cells.size = sz) (hone:∀ u ∈ aI ws,u.oneCell' = true) (hle:ys.length ≤ len) :
  ∃ a cap s',c = .slice a len cap ∧ s'.h = s.h.set b (.arr sz (xs.take off ++ ys ++ xs.drop (off + ys.length))) ∧ Inv A s' ∧ aT s s' ∧ Rv s' (.sref sz b off len n) c ∧
   (a = none → s'.w = s.w ∧ ys.length = 0 ∧ len = 0) ∧ ∀ ad,a = some ad → (storeCells ad (aI ws)).run P s.w = .ok () s'.w:=by
 have hblt:b < s.h.length:=(List.getElem?_eq_some_iff.1 hb).1;have hself:s.h.set b (.arr sz xs) = s.h:=by
  refine List.ext_getElem? fun j=>?_
  by_cases hj:b = j
  ·subst hj; rw [List.getElem?_set_self hblt,hb]
  ·rw [List.getElem?_set_ne hj]
 have nothing:ys.length = 0 → s.h.set b (.arr sz (xs.take off ++ ys ++ xs.drop (off + ys.length))) = s.h:=by
  intro h0;have:ys = []:=List.eq_nil_of_length_eq_zero h0;subst this; simp [hself]
 have fnil:ys.length = 0 → aI ws = []:=by
  intro h0;have:ws = []:=List.eq_nil_of_length_eq_zero (by omega);subst this; rfl
 cases hx with
 | sref0 _ _ a hl=>
  refine ⟨a,0,s,rfl,(nothing (by omega)).symm,hi, .refl s, .sref0 _ _ _ hl,fun _=>⟨rfl,by omega,rfl⟩,fun ad _=>?_⟩;rw [fnil (by omega)]; rfl
 | srefE _ _ _ _ a v hl h0 h1=>
  refine ⟨a,0,s,rfl,(nothing (by omega)).symm,hi, .refl s, .srefE _ _ _ _ _ _ hl h0 h1,fun _=>⟨rfl,by omega,rfl⟩,fun ad _=>?_⟩;rw [fnil (by omega)]; rfl
 | sref _ _ _ _ _ blk cap hl h1 h2=>
  rcases (hi.obj b _ hb).eX with ⟨hx0,a,hl'⟩ | ⟨blk',cap',vs,el,us,h0,hl',hB,hh,hvs,hcap,hel,hnS⟩
  ·subst hx0;have hn0:n = 0:=by simpa using hn.symm
   subst hn0;refine ⟨_,_,s,rfl,(nothing (by omega)).symm,hi, .refl s, .sref _ _ _ _ _ blk cap hl h1 h2,(fun h=>by cases h),fun ad _=>?_⟩;rw [fnil (by omega)]; rfl
  ·have e1:blk' = blk ∧ cap' = cap:=by rw [hn,hl] at hl'; simp at hl'; exact ⟨hl'.1.symm,hl'.2.symm⟩
   obtain ⟨rfl,rfl⟩:=e1;subst hn;obtain ⟨hfit,s',f1,f2,i2,g2,k2⟩:=hi.od hb h0 hl' hh hvs hel hnS hB hwl hr hz (p:=off) (by omega) (by omega) hcap;refine ⟨_,_,s',rfl,f1,i2,g2, .sref _ _ _ _ _ blk' cap' (g2.keeps.lam _ _ _ hl) h1 h2,(fun h=>by cases h),fun ad e=>?_⟩;cases e;have hst:=run_storeCells_at P blk' (off * sz) el (aI ws) 0 vs s.w hh (by simpa using hfit) hone;simp only [Nat.add_zero] at hst;rw [hst,f2]; rfl
theorem rr {z:Value} {n:Nat}:Builtin.zeroCells z.cells n = (aI (List.replicate n z)).toArray:=by
 have key:∀ n,(aI (List.replicate n z)).length = n * z.cells.size:=fun n=>by
  rw [bD (sz:=z.cells.size) (fun i h=>by simp)]; simp
 apply Array.ext
 ·simp [Builtin.zeroCells,key]
 ·intro q h1 h2;have hq:q < n * z.cells.size:=by simpa [Builtin.zeroCells] using h1
  obtain ⟨i,j,hi,hj,rfl⟩:=hM hq;have:=dQ (us:=List.replicate n z) (sz:=z.cells.size) (fun i h=>by simp) i j (by simpa using hi) (by simpa using hj);have hmod:(i * z.cells.size + j) % z.cells.size = j:=by rw [Nat.mul_comm,Nat.mul_add_mod]; exact Nat.mod_eq_of_lt hj
  have h3:(aI (List.replicate n z))[i * z.cells.size + j]'(by simpa using h2) = z.cells[j]:=by
   have h4:i * z.cells.size + j < (aI (List.replicate n z)).length:=by simpa using h2
   rw [List.getElem?_eq_getElem h4] at this;simpa using Option.some.inj this
  simp [Builtin.zeroCells,hmod,hj,h3]
theorem pq (hi:Inv A s) {t e:TypeId} (ht:P.underlying t = some (.slice e)) {i:TypeInfo} (hinf:P.info? e = some i) {zv:Value} (hzv:i.zero = some zv) {sz:Nat} (hzs:zv.cells.size = sz) {z:aa} (hz:aH z zv = true)
  {xv:aa} {c:Value} (hx:Rv s xv c) {ty:TypeId} (h:lf sz s.h z xv K):ar P A s K Kp ((do pure (Next.value (← Builtin.clear_ #[t] ty #[c])):Sem Next).run P s.w):=by
 cases xv with
 | sref sz' b off len n=>
  obtain ⟨rfl,hcl,hsc,h⟩:=h
  cases hb:s.h.get b with
  | arr sz'' xs=>
   rw [hb] at h;obtain ⟨rfl,hn,hK⟩:=h;have hbs:=ab.get_some hb (by simp);have hrz:Rv s z zv:=b8 hz;have hone:∀ u ∈ aI (List.replicate len zv),u.oneCell' = true:=by
    intro u hu;have:∀ n,u ∈ aI (List.replicate n zv) → u ∈ zv.cells.toList:=by
     intro n
     induction n with
     | zero=>intro h; simp [aI] at h
     | succ n ih=>
      intro h;simp only [List.replicate_succ,aI,List.mem_append] at h;exact h.elim id ih
    exact hJ hrz hcl hsc u (this _ hu)
   obtain ⟨a,cap,s',rfl,f1,i2,g2,r2,q1,q2⟩:=mU (P:=P) hi hbs hn hx (ys:=List.replicate len z) (ws:=List.replicate len zv) (by simp) (fun i h1 h2=>by simpa using hrz) (fun i h2=>by simpa using hzs) hone (by simp);have hrun:(Builtin.clear_ #[t] ty #[.slice a len cap]).run P s.w = .ok (.tuple #[]) s'.w:=by
    cases a with
    | none=>
     obtain ⟨e1,_,e2⟩:=q1 rfl;simp [Builtin.clear_,run_underlying ht,e1]
    | some ad=>
     have hst:=q2 ad rfl
     cases len with
     | zero=>simp [aI,storeCells] at hst; simp [Builtin.clear_,run_underlying ht,hst]
     | succ len=>
      have:(Builtin.zeroCells zv.cells (len + 1)).toList = aI (List.replicate (len + 1) zv):=by rw [rr]
      simp [Builtin.clear_,run_underlying ht,zeroValue,typeInfo,hinf,hzv,this,hst]
   refine ar.value (aj _ _ _ _ hrun) rfl i2 g2 (v:=.tup []) (.tup [] #[] rfl (fun j h=>by simp at h)) ?_;rw [f1];simpa using hK
  | _=>rw [hb] at h; exact h.elim
 | _=>exact h.elim
theorem wc {us:List Value} {u:Value} (h:u ∈ aI us):∃ i, ∃ h:i < us.length,u ∈ us[i].cells.toList:=by
 induction us with
 | nil=>simp [aI] at h
 | cons x r ih=>
  rcases List.mem_append.1 h with h | h
  ·exact ⟨0,by simp,h⟩
  ·obtain ⟨i,h1,h2⟩:=ih h; exact ⟨i + 1,by simpa using h1,by simpa using h2⟩
theorem qH (hi:Inv A s) {t tx e _e':TypeId} (ht:P.underlying t = some (.slice e)) {sz:Nat} (hsz:P.cellsOf e = sz) (hinf:(P.info? e).isSome = true)
  {xv yv:aa} {c d:Value} (hx:Rv s xv c) (hy:Rv s yv d) (ho:yv.cE s.h sz) (hf:Fits sz (yv.elems s.h)) {ty:TypeId} (h:py sz s.h xv (yv.elems s.h) K) :
  ar P A s K Kp ((do pure (Next.value (← Builtin.copy_ #[t,tx] ty #[c,d])):Sem Next).run P s.w):=by
 obtain ⟨ya,ycap,ws,rfl,hwl,hwr,hwz,hwm⟩:=mZ hi hy ho;generalize hys:yv.elems s.h = ys at *
 cases xv with
 | sref sz' b off len n=>
  obtain ⟨rfl,h⟩:=h
  cases hb:s.h.get b with
  | arr sz'' xs=>
   rw [hb] at h;obtain ⟨rfl,hn,hK⟩:=h;have hbs:=ab.get_some hb (by simp);have hm:(ys.take len).length = min ys.length len:=by simp; omega
   have hz':∀ i (h2:i < (ws.take len).length),(ws.take len)[i].cells.size = sz'':=fun i h2=>by
    simp only [List.getElem_take]; exact hwz _ _
   obtain ⟨a,cap,s',rfl,f1,i2,g2,r2,q1,q2⟩:=mU (P:=P) hi hbs hn hx (ys:=ys.take len) (ws:=ws.take len) (by simp [hwl]) (fun i h1 h2=>by
     simp only [List.getElem_take]; exact hwr _ _ _) hz'
    (fun u hu=>by
     obtain ⟨i,h1,h2⟩:=wc hu;simp only [List.getElem_take] at h2;have h3:i < ws.length:=by simp at h1; omega
     exact p9 (hwr i (by omega) h3) (hf _ (List.getElem_mem _)) u h2) (by simp; omega)
   have hfc:(Builtin.firstCells sz'' (min ys.length len) (.slice ya ys.length ycap)).run P s.w = .ok (aI (ws.take len)).toArray s.w:=by
    rcases hwm with h0 | ⟨blk,o,rfl,hc⟩
    ·have hw0:ws = []:=List.eq_nil_of_length_eq_zero (by omega);subst hw0;rw [h0];simp only [List.take_nil,aI,Nat.zero_min]
     cases ya with
     | none=>exact run_firstCells_none s.w sz'' 0 0 ycap
     | some ad=>exact run_firstCells_some s.w sz'' 0 ad 0 ycap [] (by simp) (fun j u h=>by simp at h)
    ·refine run_firstCells_some s.w sz'' _ _ _ ycap _ (by rw [bD hz',List.length_take,hwl,Nat.min_comm]) (fun q u hq=>?_);have hlt:q < (ws.take len).length * sz'':=by
      rw [← bD hz'];rcases Nat.lt_or_ge q (aI (ws.take len)).length with h' | h'
      ·exact h'
      ·rw [List.getElem?_eq_none h'] at hq; cases hq
     obtain ⟨i,j,h1,h2,rfl⟩:=hM hlt;have hj:j < (ws.take len)[i].cells.size:=by rw [hz' i h1]; exact h2
     rw [dQ hz' i j h1 hj] at hq;rw [← Option.some.inj hq,addr_add, ← Nat.add_assoc];have h3:i < ws.length:=by simp at h1; omega
     have hj':j < ws[i].cells.size:=by rw [hwz i h3]; exact h2
     have:=hc i j h3 hj';simpa using this
   have hrun:(Builtin.copy_ #[t,tx] ty #[.slice a len cap, .slice ya ys.length ycap]).run P s.w = .ok (goInt (min ys.length len:Nat)) s'.w:=by
    have hmin:Nat.min ys.length len = min ys.length len:=rfl
    cases a with
    | none=>
     obtain ⟨e1,_,e2⟩:=q1 rfl;simp [Builtin.copy_,run_underlying ht,aG hinf,hsz,Builtin.lenOf,hmin,hfc,e1]
    | some ad=>
     have hst:=q2 ad rfl;simp [Builtin.copy_,run_underlying ht,aG hinf,hsz,Builtin.lenOf,hmin,hfc,hst]
   refine ar.value (aj _ _ _ _ hrun) rfl i2 g2 (v:=.int .i64 (min ys.length len:Nat)) (.int _ _) ?_;rw [f1,hm];exact hK
  | _=>rw [hb] at h; exact h.elim
 | _=>exact h.elim
theorem Inv.kW (hi:Inv A s) {b:Nat} (hb:s.h[b]? = some .hole) {sz:Nat} {C:Array Value} (el:TypeId) (cap:Nat) (hC:C.size = cap * sz) :
  ∃ s',s'.h = s.h.set b (.spare sz 0) ∧ s'.w = s.w.alloc (.cells C el) ∧ Inv A s' ∧ aT s s' ∧ s'.lam b 0 = some (.slice (some ⟨s.w.heap.size,0,none⟩) 0 cap):=by
 have hblt:b < s.h.length:=(List.getElem?_eq_some_iff.1 hb).1;have hl:∀ k,s.lam b k = none:=hi.obj b _ hb
 let c:Value:=.slice (some ⟨s.w.heap.size,0,none⟩) 0 cap
 let s':St:={ h:=s.h.set b (.spare sz 0),lam:=aO s.lam b 0 c,S:=s.S,w:=s.w.alloc (.cells C el) }
 have hk:aL s s':=⟨aJ (hl 0),fun _ _ h=>h,fun blk o hs=>World.cell?_alloc_lt _ _ (a:=⟨blk,o,none⟩) (hi.scell blk o hs)⟩;have hnew:s'.w.heap[s.w.heap.size]? = some (.cells C el (0,0)):=by show (s.w.heap.push _)[s.w.heap.size]? = _; simp
 have hgo:=hi.change (s':=s') hblt rfl hk (hi.below.alloc hi.below.size _) (by simp [s']) (fun b' k hne=>av (.inl hne))
  (fun blk hlt _=>Below.heap_alloc _ _ _ hlt)
  ⟨fun k' hk'=>(av (.inr (by omega))).trans (hl k'),_,0,cap,aC _ _ _ _,Nat.zero_le _,fun hlt=>⟨s.w.heap.size,0,C,el,rfl,hi.below.size,hnew,by omega,fun o _ hs=>by have:=hi.scell _ _ hs; omega⟩⟩
  (fun blk ho=>by
   obtain ⟨off,len,cap',e,hlt⟩:=ho;have e':aO s.lam b 0 c b 0 = _:=e;simp [c] at e'
   left; omega)
  (fun blk x h=>.inl h) (fun blk x h=>by have:=hi.scell _ _ h; simp [s']; omega)
 exact ⟨s',rfl,rfl,hgo.1,hgo.2,aC _ _ _ _⟩
theorem rL (hi:Inv A s) {t e:TypeId} (ht:P.underlying t = some (.slice e)) {i:TypeInfo} (hinf:P.info? e = some i) {zv:Value} (hzv:i.zero = some zv) {m sz bytes:Nat} (hsz:i.size = sz) (hby:i.bytes = bytes) (hzs:zv.cells.size = sz)
  {z:aa} (hz:aH z zv = true) {nv cv:aa} {c d:Value} (hn:Rv s nv c) (hc:Rv s cv d) (i1:isInt nv) (i2:isInt cv) (h:pT m sz bytes s.h z (aP nv) (aP cv) K) :
  ar P A s K Kp ((do pure (Next.value (← Instr.makeSlice t c d)):Sem Next).run P s.w):=by
 subst hsz; subst hby;obtain ⟨kn,rfl,_⟩:=bq hn i1;obtain ⟨kc,rfl,_⟩:=bq hc i2;generalize aP nv = n at *;generalize aP cv = cp at *;obtain ⟨h0,h1,h2,h3,hK⟩:=h;have hrz:Rv s z zv:=b8 hz;have hrun:=run_make s.w t e i zv ht hinf hzv kn kc n cp h0 h1 (by rw [Int.mul_comm]; omega) (by omega);have hC:(madeCells zv.cells (cp.toNat * i.size)).size = cp.toNat * i.size:=by simp [madeCells]
 have he:bV s i.size (List.replicate n.toNat z) (List.replicate n.toNat zv) (madeCells zv.cells (cp.toNat * i.size)):=by
  refine ⟨by simp,fun j g1 g2=>⟨by simpa using hrz,by simpa using hzs⟩,fun p j g2 gj=>?_⟩;simp only [List.getElem_replicate] at gj ⊢;have hp:p < cp.toNat:=by simp at g2; omega
  have hlt:p * i.size + j < cp.toNat * i.size:=bY hp (by omega);have hmod:(p * i.size + j) % zv.cells.size = j:=by rw [hzs,Nat.mul_comm,Nat.mul_add_mod]; exact Nat.mod_eq_of_lt (by omega)
  simp [madeCells,hlt,hmod,gj]
 by_cases m1:m = 1
 ·rw [if_pos m1] at hK;obtain ⟨hn0,hK⟩:=hK;subst hn0;obtain ⟨s1,e1,e2,j1,g1,d1⟩:=hi.one;obtain ⟨s2,f1,f2,j2,g2,k2⟩:=j1.kW d1 e cp.toNat hC;rw [e2] at k2;refine ar.value (aj _ _ _ _ hrun) (f2.trans (by rw [e2])) j2 (g1.trans g2) (v:=.oslice i.size [] s.h.length 0) (.oslice _ _ _ _ _ (.slice0 _ _ _) k2) ?_;rw [f1,e1,aS]; exact hK
 ·rw [if_neg m1] at hK;by_cases m2:m = 2
  ·rw [if_pos m2] at hK;obtain ⟨s2,a1,a2,j2,g2,d2⟩:=hi.one;have he2:bV s2 i.size (List.replicate n.toNat z) (List.replicate n.toNat zv) (madeCells zv.cells (cp.toNat * i.size)):=⟨he.len,fun i h1 h2=>⟨(he.rv i h1 h2).1.keeps g2.keeps,(he.rv i h1 h2).2⟩,he.cell⟩;obtain ⟨s3,b1,b2,j3,g3,r3⟩:=j2.jc d2 e cp.toNat (by simp; omega) hC he2 (by omega);rw [List.length_replicate,a2] at r3;refine ar.value (aj _ _ _ _ hrun) (by rw [b2,a2]) j3 (g2.trans g3) r3 ?_;rw [b1,a1,aS]; exact hK
  ·rw [if_neg m2] at hK;obtain ⟨s1,e1,e2,e3,j1,g1,r1,_⟩:=hi.zH e cp.toNat (by simp; omega) he;rw [List.length_replicate] at r1;exact ar.value (aj _ _ _ _ hrun) e3 j1 g1 r1 (by rw [e1]; exact hK.2)
/-! ### The runes of a string -/
theorem pt (hi:Inv A s) {t:TypeId} (ht:P.underlying t = some .string) {xv:aa} {c:Value} (hx:Rv s xv c) (h:mg s.h xv K):ar P A s K Kp ((do pure (Next.value (← Instr.range t c)):Sem Next).run P s.w):=by
 cases xv with
 | str y=>
  cases hx;simp only [mg] at h;obtain ⟨s1,e1,e2,i1,g1,d1⟩:=hi.one;have hl:∀ k,s1.lam s.h.length k = none:=i1.obj _ _ d1
  let s':St:={ h:=s1.h.set s.h.length (.siter y 0),lam:=aO s1.lam s.h.length 0 (.pointer (some ⟨s1.w.heap.size,0,none⟩)),S:=s1.S,w:=s1.w.alloc (.stringIter y 0) }
  have hk:aL s1 s':=⟨aJ (hl 0),fun _ _ h=>h,fun blk o hs=>World.cell?_alloc_lt _ _ (a:=⟨blk,o,none⟩) (i1.scell blk o hs)⟩;have hnew:s'.w.heap[s1.w.heap.size]? = some (.stringIter y 0):=World.alloc_heap_new _ _;have hgo:=i1.change (s':=s') (List.getElem?_eq_some_iff.1 d1).1 rfl hk (i1.below.alloc i1.below.size _) (by simp [s']) (fun b' k hne=>av (.inl hne))
   (fun blk hlt _=>Below.heap_alloc _ _ _ hlt)
   ⟨s1.w.heap.size,aC _ _ _ _,i1.below.size,hnew,fun o hs=>by have:=i1.scell _ _ hs; omega⟩
   (fun blk ho=>by
    have e:aO s1.lam s.h.length 0 (.pointer (some ⟨s1.w.heap.size,0,none⟩)) s.h.length 0 = some (.pointer (some ⟨blk,0,none⟩)):=ho
    simp at e; left; omega)
   (fun blk x h=>.inl h) (fun blk x h=>by have:=i1.scell _ _ h; simp [s']; omega)
  have hrun:(Instr.range t (.string y)).run P s.w = .ok (.pointer (some ⟨s.w.heap.size,0,none⟩)) (s.w.alloc (.stringIter y 0)):=by
   simp [Instr.range,run_underlying ht]
  refine ar.value (aj _ _ _ _ hrun) (s':=s') (by show s1.w.alloc _ = _; rw [e2]) hgo.1 (g1.trans hgo.2) (v:=.iter s.h.length) (.iter _ _ (by rw [← e2]; exact aC _ _ _ _)) ?_;show K _ (s1.h.set _ _)
  rw [e1,aS]; exact h
 | _=>exact h.elim
theorem r7 (hi:Inv A s) {xv:aa} {c:Value} (hx:Rv s xv c) {ty:TypeId} (h:np s.h xv K):ar P A s K Kp ((do pure (Next.value (← Instr.next c true ty)):Sem Next).run P s.w):=by
 cases xv with
 | iter b=>
  simp only [np] at h
  cases hb:s.h.get b with
  | siter y pos=>
   rw [hb] at h;simp only at h;have hbs:=ab.get_some hb (by simp);obtain ⟨blk,hl,hB,hh,hnS⟩:=hi.obj b _ hbs
   cases hx with
   | iter _ blk' hl'=>
    have:blk' = blk:=by rw [hl] at hl'; simpa using hl'.symm
    subst this;have hblk:blk' < s.w.heap.size:=(Array.getElem?_eq_some_iff.1 hh).1;have hget:(getObj blk').run P s.w = .ok (.stringIter y pos) s.w:=by simp [getObj,Sem.run,hh]
    by_cases hc:pos < y.size
    ·rw [if_pos hc] at h;have hown:bu s b (.siter y pos) blk':=hl
     let s1:St:={ h:=s.h.set b (.siter y (pos + (Utf8.decode y pos).2)),lam:=s.lam,S:=s.S,w:=s.w.putObj blk' (.stringIter y (pos + (Utf8.decode y pos).2)) }
     have hk:aL s s1:=⟨fun _ _ _ h=>h,fun _ _ h=>h,fun g o hs=>World.cell?_of_block (a:=⟨g,o,none⟩) (World.putObj_heap_other (fun e=>hnS o (e ▸ hs)))⟩;have hgo:=hi.change (s':=s1) (List.getElem?_eq_some_iff.1 hbs).1 rfl hk (hi.below.trans ⟨rfl,rfl,rfl,by simp [s1],fun g hg=>World.putObj_heap_other (by omega)⟩) (by simp [s1]) (fun _ _ _=>rfl)
      (fun g _ hno=>World.putObj_heap_other (fun e=>hno (e ▸ ⟨_,hbs,hown⟩)))
      ⟨blk',hl,hB,World.putObj_heap_same hblk,hnS⟩
      (fun g ho=>by
       have e:s.lam b 0 = some (.pointer (some ⟨g,0,none⟩)):=ho;rw [hl] at e;right;have:blk' = g:=by simpa using e
       rw [← this]; exact ⟨_,hbs,hown⟩)
      (fun _ _ h=>.inl h) (fun g x h=>by have:=hi.scell _ _ h; simp [s1]; omega)
     have hset:(setObj blk' (.stringIter y (pos + (Utf8.decode y pos).2))).run P s.w = .ok () s1.w:=by simp [setObj,Sem.run,hh,World.putObj,s1]
     have hrun:(Instr.next (.pointer (some ⟨blk',0,none⟩)) true ty).run P s.w = .ok (.tuple #[.bool true,goInt pos, .int .i32 (Utf8.decode y pos).1]) s1.w:=by
      simp [Instr.next,hget,hc,hset]
     refine ar.value (aj _ _ _ _ hrun) (s':=s1) rfl hgo.1 hgo.2 (.tup _ _ rfl (fun j g1 g2=>?_)) h
     match j,g1 with
     | 0,_=>exact .bool _
     | 1,_=>exact .int _ _
     | 2,_=>exact .int _ _
    ·rw [if_neg hc] at h;have hrun:(Instr.next (.pointer (some ⟨blk',0,none⟩)) true ty).run P s.w = .ok (.tuple #[.bool false]) s.w:=by
      simp [Instr.next,hget,hc]
     refine ar.value (aj _ _ _ _ hrun) rfl hi (.refl s) (.tup _ _ rfl (fun j g1 g2=>?_)) h
     match j,g1 with
     | 0,_=>exact .bool _
  | _=>rw [hb] at h; exact h.elim
 | _=>exact h.elim
end
end Go.AM
