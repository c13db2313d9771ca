/- Slices that grow: the memory behind 'append', behind a part of a slice, behind a slice that is handed on for good. 'append', parts of slices, 'make', 'clear', 'copy', and the slice that is handed on for good. -/
import Derived.Test.YthhmdhiiicipkaaGreatDoorP5
import Derived.Deep.AppendSrc
namespace Go.AM
open Go.RowKit
def aY:List Value → List Value
  | []=>[]
  | u :: r=>u.cells.toList ++ aY r
theorem cX {sz:Nat}:∀ {us:List Value},(∀ i (h:i < us.length),us[i].cells.size = sz) → (aY us).length = us.length * sz
  | [],_=>by simp [aY]
  | u :: r,h=>by
    have h0:=h 0 (by simp)
    have:=cX (us:=r) (fun i hi=>by have:=h (i + 1) (by simpa using hi); simpa using this)
    simp only [aY,List.length_append,Array.length_toList,this,List.length_cons,Nat.add_mul,Nat.one_mul]
    simp at h0; omega
theorem fO {sz:Nat}:∀ {us:List Value},(∀ i (h:i < us.length),us[i].cells.size = sz) → ∀ i j (h:i < us.length) (hj:j < us[i].cells.size),(aY us)[i * sz + j]? = some us[i].cells[j]
  | [],_,i,_,h,_=>by simp at h
  | u :: r,hs,0,j,_,hj=>by
    simp only [aY,Nat.zero_mul,Nat.zero_add]
    simp at hj
    rw [List.getElem?_append_left (by simpa using hj)]
    simp [hj]
  | u :: r,hs,i + 1,j,h,hj=>by
    have h0:=hs 0 (by simp)
    simp at h0
    have hs':∀ i (h:i < r.length),r[i].cells.size = sz:=fun i hi=>by have:=hs (i + 1) (by simpa using hi); simpa using this
    have:=fO hs' i j (by simpa using h) (by simpa using hj)
    simp only [aY]
    rw [List.getElem?_append_right (by simp [Nat.add_mul]; omega)]
    simp only [Array.length_toList,h0]
    rw [show (i + 1) * sz + j - sz = i * sz + j by rw [Nat.add_mul]; omega,this]
    simp
theorem mD {q n sz : Nat} (h : q < n * sz) : ∃ i j,i < n ∧ j < sz ∧ q = i * sz + j := by
  have hsz : 0 < sz := by rcases Nat.eq_zero_or_pos sz with h0 | h0
                          · subst h0; simp at h
                          · exact h0
  exact ⟨q / sz,q % sz,(Nat.div_lt_iff_lt_mul hsz).2 h,Nat.mod_lt _ hsz,by rw [Nat.mul_comm]; exact (Nat.div_add_mod q sz).symm⟩
section
variable {P:Program} {s:St} {A:World} {K Kp:ab → ag → Prop}
theorem vw (hi:Inv A s) {sz:Nat} {v:ab} {d:Value} (hv:Rv s v d) (ho:v.ib s.h sz) :
    ∃ (a:Option Addr) (cap:Nat) (us:List Value),d = .slice a (v.elems s.h).length cap ∧ us.length = (v.elems s.h).length ∧
      (∀ i (h1:i < (v.elems s.h).length) (h2:i < us.length),Rv s (v.elems s.h)[i] us[i]) ∧ (∀ i (h2:i < us.length),us[i].cells.size = sz) ∧
      ((v.elems s.h).length = 0 ∨ ∃ blk off,a = some ⟨blk,off,none⟩ ∧ ∀ i j (h2:i < us.length) (hj:j < us[i].cells.size),s.w.cell? ⟨blk,off + i * sz + j,none⟩ = some us[i].cells[j]):=by
  have core:∀ {sz':Nat} {xs:List ab} {d:Value},Rv s (.slice sz' xs) d → sz' = sz ∨ xs = [] → ∃ (a:Option Addr) (cap:Nat) (us:List Value),d = .slice a xs.length cap ∧ us.length = xs.length ∧
      (∀ i (h1:i < xs.length) (h2:i < us.length),Rv s xs[i] us[i]) ∧ (∀ i (h2:i < us.length),us[i].cells.size = sz) ∧
      (xs.length = 0 ∨ ∃ blk off,a = some ⟨blk,off,none⟩ ∧ ∀ i j (h2:i < us.length) (hj:j < us[i].cells.size),s.w.cell? ⟨blk,off + i * sz + j,none⟩ = some us[i].cells[j]):=by
    intro sz' xs d hv ho
    obtain ⟨a,cap,rfl,h⟩:=hv.cW
    by_cases hx:xs = []
    · subst hx; exact ⟨a,cap,[],rfl,rfl,fun i h1=>by simp at h1,fun i h1=>by simp at h1, .inl rfl⟩
    · have hz:sz' = sz:=ho.resolve_right hx
      subst hz
      rcases h with h1 | ⟨blk,off,us,rfl,hl,hc,hr,hm⟩
      · exact absurd h1 hx
      · exact ⟨_,cap,us,rfl,hl,hr,fun i h2=>(hm i h2).1, .inr ⟨blk,off,rfl,fun i j h2 hj=>((hm i h2).2 j hj).2⟩⟩
  cases v with
  | slice sz' xs=>exact core hv ho
  | oslice sz' xs b k=>
    cases hv with
    | oslice _ _ _ _ _ hs hl=>exact core hs (.inl ho)
  | sref sz' b off len n=>
    obtain ⟨rfl,ho⟩:=ho
    cases hb:s.h.get b with
    | arr sz'' xs=>
      rw [hb] at ho
      simp only at ho
      obtain ⟨rfl,hn⟩:=ho
      simp only [ab.elems,hb]
      have zero:∀ {a:Option Addr} {cap:Nat},len = 0 → ∃ (a':Option Addr) (cap':Nat) (us:List Value),Value.slice a len cap = .slice a' ((xs.drop off).take len).length cap' ∧ us.length = ((xs.drop off).take len).length ∧
          (∀ i (h1:i < ((xs.drop off).take len).length) (h2:i < us.length),Rv s ((xs.drop off).take len)[i] us[i]) ∧ (∀ i (h2:i < us.length),us[i].cells.size = sz'') ∧
          (((xs.drop off).take len).length = 0 ∨ ∃ blk off,a' = some ⟨blk,off,none⟩ ∧ ∀ i j (h2:i < us.length) (hj:j < us[i].cells.size),s.w.cell? ⟨blk,off + i * sz'' + j,none⟩ = some us[i].cells[j]):=by
        intro a cap hl
        subst hl
        exact ⟨a,cap,[],by simp,by simp,fun i h1=>by simp at h1,fun i h1=>by simp at h1, .inl (by simp)⟩
      cases hv with
      | sref0 _ _ a hl=>exact zero rfl
      | srefE=>exact zero rfl
      | sref _ _ _ _ _ blk cap hl h1 h2=>
        by_cases hlen:len = 0
        · exact zero hlen
        · rcases (hi.obj b _ (ag.get_some hb (by simp))).2 with ⟨hx,_⟩ | ⟨blk',cap',vs,el,us,_,hl',_,hh,hsz,hc,hu,hr,hvs,_⟩
          · subst hx; simp at hn; omega
          · have:blk' = blk:=by rw [hn,hl] at hl'; simp at hl'; exact hl'.1.symm
            subst this
            have hL:((xs.drop off).take len).length = len:=by simp; omega
            refine ⟨_,cap - off,(us.drop off).take len,by rw [hL],by simp; omega,fun i g1 g2=>?_,fun i g2=>?_, .inr ⟨blk',off * sz'',rfl,fun i j g2 gj=>?_⟩⟩
            · have:=(hr (off + i) (by omega) (by simp at g2; omega)).1
              simpa using this
            · have:=(hr (off + i) (by simp at g2; omega) (by simp at g2; omega)).2
              simpa using this
            · have hlt:off + i < us.length:=by simp at g2; omega
              have e:((us.drop off).take len)[i] = us[off + i]:=by simp
              have hj':j < us[off + i].cells.size:=by rw [e] at gj; exact gj
              have:=hvs (off + i) j hlt hj'
              simp only [e]
              simp only [World.cell?,hh]
              rw [← Nat.add_mul,this]
              rfl
    | _=>rw [hb] at ho; exact ho.elim
  | _=>exact ho.elim
theorem yB {sz:Nat} {v:ab} {u:Value} (hv:Rv s v u) (h:bB v sz ∧ dR v.cells = true):∀ x ∈ u.cells.toList,x.oneCell' = true:=mj hv h.1 h.2
theorem GD {sz:Nat} {ys:List ab} {us:List Value} {a:Option Addr} {cap:Nat} {tx e':TypeId} (hk:P.underlying tx = some (.slice e')) (hl:us.length = ys.length)
    (hr:∀ i (h1:i < ys.length) (h2:i < us.length),Rv s ys[i] us[i]) (hz:∀ i (h2:i < us.length),us[i].cells.size = sz) (hf:∀ v ∈ ys,bB v sz ∧ dR v.cells = true)
    (hm:ys.length = 0 ∨ ∃ blk off,a = some ⟨blk,off,none⟩ ∧ ∀ i j (h2:i < us.length) (hj:j < us[i].cells.size),s.w.cell? ⟨blk,off + i * sz + j,none⟩ = some us[i].cells[j]) :
    Src P sz tx (.slice a ys.length cap) ys.length (aY us) s.w:=by
  have hone:∀ u ∈ aY us,u.oneCell' = true:=by
    intro u hu
    have:∀ {us:List Value} {u:Value},u ∈ aY us → ∃ i, ∃ h:i < us.length,u ∈ us[i].cells.toList:=by
      intro us
      induction us with
      | nil=>intro u h; simp [aY] at h
      | cons x r ih=>
        intro u h
        rcases List.mem_append.1 h with h | h
        · exact ⟨0,by simp,h⟩
        · obtain ⟨i,h1,h2⟩:=ih h; exact ⟨i + 1,by simpa using h1,by simpa using h2⟩
    obtain ⟨i,h1,h2⟩:=this hu
    exact yB (hr i (by omega) h1) (hf _ (List.getElem_mem _)) u h2
  rcases hm with h0 | ⟨blk,off,rfl,hc⟩
  · have:us = []:=List.eq_nil_of_length_eq_zero (by omega)
    subst this
    rw [h0]
    cases a with
    | none=>exact Src.ofNil _ hk cap
    | some ad=>exact Src.ofSlice _ hk ad 0 cap [] (by simp) (fun j u h=>by simp at h) (fun u h=>by cases h)
  · refine Src.ofSlice _ hk _ _ cap _ (by rw [cX hz,hl]) (fun q u hq=>?_) hone
    have hlt:q < us.length * sz:=by
      rw [← cX hz]
      rcases Nat.lt_or_ge q (aY us).length with h' | h'
      · exact h'
      · rw [List.getElem?_eq_none h'] at hq; cases hq
    obtain ⟨i,j,h1,h2,rfl⟩:=mD hlt
    have hj:j < us[i].cells.size:=by rw [hz i h1]; exact h2
    rw [fO hz i j h1 hj] at hq
    rw [← Option.some.inj hq,addr_add, ← Nat.add_assoc]
    exact hc i j h1 hj
theorem eW {t tx ty e:TypeId} {i:TypeInfo} (ht:P.underlying t = some (.slice e)) (hinf:P.info? e = some i) {w:World} (blk off sLen sCap:Nat) (x:Value) (n:Nat) (news:List Value) (hs:Src P i.size tx x n news w)
    {vs:Array Value} {el:TypeId} (hh:w.heap[blk]? = some (.cells vs el (0,0))) (hroom:sLen + n ≤ sCap) (hfit:off + sLen * i.size + news.length ≤ vs.size) :
    (Builtin.append_ #[t,tx] ty #[.slice (some ⟨blk,off,none⟩) sLen sCap,x]).run P w = .ok (.slice (some ⟨blk,off,none⟩) (sLen + n) sCap) (w.setRow blk (wrote vs (off + sLen * i.size) news)):=by
  have hst:=run_storeCells_at P blk (off + sLen * i.size) el news 0 vs w hh (by simpa using hfit) hs.one
  simp only [Nat.add_zero] at hst
  rcases hs.kind with ⟨e',hk⟩ | hk <;> simp [Builtin.append_,run_underlying ht,run_underlying hk,sizeOf,typeInfo,hinf,hs.len,hroom,hs.cells,addr_add,hst,wrote]
theorem Inv.drew (hi:Inv A s):Inv A { s with w:=s.w.drew } ∧ bK s { s with w:=s.w.drew }:=
  hi.grow (s':={ s with w:=s.w.drew }) rfl rfl ⟨fun _ _ _ h=>h,fun _ _ h=>h,fun _ _ _=>rfl⟩ hi.below.drew (Nat.le_refl _) (fun _ _=>rfl) (fun _ _ h=>.inl h) hi.scell
theorem Inv.Ai (hi:Inv A s) {b k sz:Nat} (hb:s.h[b]? = some (.spare sz k)) {xs:List ab} {us:List Value} {C:Array Value} (el:TypeId) (cap:Nat) (hcap:xs.length ≤ cap) (hC:C.size = cap * sz) (he:dX s sz xs us C) :
    ∃ s',s'.h = s.h.set b (.spare sz (k + 1)) ∧ s'.w = s.w.alloc (.cells C el) ∧ Inv A s' ∧ bK s s' ∧ Rv s' (.oslice sz xs b (k + 1)) (.slice (some ⟨s.w.heap.size,0,none⟩) xs.length cap):=by
  have hblt:b < s.h.length:=(List.getElem?_eq_some_iff.1 hb).1
  obtain ⟨hno,_⟩:=hi.obj b _ hb
  let c:Value:=.slice (some ⟨s.w.heap.size,0,none⟩) xs.length cap
  let s':St:={ h:=s.h.set b (.spare sz (k + 1)),lam:=bm s.lam b (k + 1) c,S:=fun blk o=>s.S blk o ∨ (blk = s.w.heap.size ∧ o < xs.length * sz),w:=s.w.alloc (.cells C el) }
  have hk:bg s s':=⟨ba (hno _ (by omega)),fun _ _ h=>.inl h,fun blk o hs=>World.cell?_alloc_lt _ _ (a:=⟨blk,o,none⟩) (hi.scell blk o hs)⟩
  have hnew:s'.w.heap[s.w.heap.size]? = some (.cells C el (0,0)):=by show (s.w.heap.push _)[s.w.heap.size]? = _; simp
  have hgo:=hi.change (s':=s') hblt rfl hk (hi.below.alloc hi.below.size _) (by simp [s']) (fun b' k hne=>aw (.inl hne))
    (fun blk hlt _=>Below.heap_alloc _ _ _ hlt)
    ⟨fun k' hk'=>(aw (.inr (by omega))).trans (hno k' (by omega)),_,xs.length,cap,aD _ _ _ _,hcap,fun hlt=>⟨s.w.heap.size,0,C,el,rfl,hi.below.size,hnew,by omega,fun o ho hs=>by
      rcases hs with hs | ⟨_,hs⟩
      · have:=hi.scell _ _ hs; omega
      · omega⟩⟩
    (fun blk ho=>by
      obtain ⟨off,len,cap',e,hlt⟩:=ho
      have e':bm s.lam b (k + 1) c b (k + 1) = _:=e
      simp [c] at e'
      left; omega)
    (fun blk x h=>h.imp id fun h=>.inl (by omega)) (fun blk x h=>by
      rcases h with h | ⟨h,_⟩
      · have:=hi.scell _ _ h; simp [s']; omega
      · simp [s']; omega)
  refine ⟨s',rfl,rfl,hgo.1,hgo.2, .oslice _ _ _ _ _ ?_ (aD _ _ _ _)⟩
  refine .slice sz xs _ 0 _ cap us he.len rfl hcap (fun i h1 h2=>(he.rv i h1 h2).1.keeps hk) (fun i h2=>⟨(he.rv i (by have:=he.len; omega) h2).2,fun j hj=>?_⟩)
  have hsz:=(he.rv i (by have:=he.len; omega) h2).2
  have hlt:i * sz + j < xs.length * sz:=dI (by have:=he.len; omega) (by omega)
  rw [Nat.zero_add]
  refine ⟨.inr ⟨rfl,hlt⟩, ?_⟩
  show (s.w.alloc (.cells C el)).cell? _ = _
  rw [World.cell?_alloc_new]
  exact he.cell i j h2 hj
theorem Inv.Av (hi:Inv A s) {b k sz:Nat} (hb:s.h[b]? = some (.spare sz k)) {xs ys:List ab} {c:Value} {us:List Value} (hc:Rv s (.slice sz xs) c) (hl:s.lam b k = some c) (hul:us.length = ys.length)
    (hr:∀ i (h1:i < ys.length) (h2:i < us.length),Rv s ys[i] us[i]) (hz:∀ i (h2:i < us.length),us[i].cells.size = sz) {blk off cap:Nat} (hcv:c = .slice (some ⟨blk,off,none⟩) xs.length cap) (hroom:xs.length + ys.length ≤ cap)
    (hlt:xs.length < cap) {vs:Array Value} {el:TypeId} (hh:s.w.heap[blk]? = some (.cells vs el (0,0))) :
    off + xs.length * sz + (aY us).length ≤ vs.size ∧
    ∃ s',s'.h = s.h.set b (.spare sz (k + 1)) ∧ s'.w = s.w.setRow blk (wrote vs (off + xs.length * sz) (aY us)) ∧ Inv A s' ∧ bK s s' ∧
      Rv s' (.oslice sz (xs ++ ys) b (k + 1)) (.slice (some ⟨blk,off,none⟩) (xs.length + ys.length) cap):=by
  have hblt:b < s.h.length:=(List.getElem?_eq_some_iff.1 hb).1
  obtain ⟨hno,a,len,cap',hl',hle,hx⟩:=hi.obj b _ hb
  have e1:a = some ⟨blk,off,none⟩ ∧ len = xs.length ∧ cap' = cap:=by rw [hl,hcv] at hl'; simp at hl'; exact ⟨hl'.1.symm,hl'.2.1.symm,hl'.2.2.symm⟩
  obtain ⟨rfl,rfl,rfl⟩:=e1
  obtain ⟨blk',off',vs',el',ha,hB,hh',hfitc,hnS⟩:=hx hlt
  have e2:blk' = blk ∧ off' = off:=by simp at ha; exact ⟨ha.1.symm,ha.2.symm⟩
  obtain ⟨rfl,rfl⟩:=e2
  have e3:vs' = vs:=by rw [hh] at hh'; simp at hh'; exact hh'.1.symm
  subst e3
  have hfl:=cX hz
  have hmul:(xs.length + ys.length) * sz ≤ cap' * sz:=Nat.mul_le_mul_right _ hroom
  rw [Nat.add_mul] at hmul
  have hfit:off' + xs.length * sz + (aY us).length ≤ vs'.size:=by rw [hfl,hul]; omega
  refine ⟨hfit, ?_⟩
  have hown:cV s b (.spare sz k) blk':=⟨off',xs.length,cap',hl',hlt⟩
  have hblk:blk' < s.w.heap.size:=(Array.getElem?_eq_some_iff.1 hh).1
  let cn:Value:=.slice (some ⟨blk',off',none⟩) (xs.length + ys.length) cap'
  let s':St:={ h:=s.h.set b (.spare sz (k + 1)),lam:=bm s.lam b (k + 1) cn,S:=fun g o=>s.S g o ∨ (g = blk' ∧ off' + xs.length * sz ≤ o ∧ o < off' + xs.length * sz + (aY us).length),w:=s.w.setRow blk' (wrote vs' (off' + xs.length * sz) (aY us)) }
  have hcell:∀ o,s'.w.cell? ⟨blk',o,none⟩ = if off' + xs.length * sz ≤ o ∧ o < off' + xs.length * sz + (aY us).length then (aY us)[o - (off' + xs.length * sz)]? else s.w.cell? ⟨blk',o,none⟩:=by
    intro o
    have h1:=setRow_heap s.w blk' vs' (wrote vs' (off' + xs.length * sz) (aY us)) el (0,0) hh
    simp only [World.cell?,s',h1,hh]
    exact iV hfit o
  have hk:bg s s':=⟨ba (hno _ (by omega)),fun _ _ h=>.inl h,fun g o hs=>by
    by_cases hg:g = blk'
    · subst hg
      rw [hcell,if_neg]
      rintro ⟨h1,_⟩
      exact hnS o h1 hs
    · exact World.cell?_of_block (a:=⟨g,o,none⟩) (setRow_other _ _ _ _ hg)⟩
  have hgo:=hi.change (s':=s') hblt rfl hk (hi.below.trans ⟨rfl,rfl,rfl,by simp [s'],fun g hg=>setRow_other _ _ _ _ (by omega)⟩) (by simp [s']) (fun b' k hne=>aw (.inl hne))
    (fun g _ hno=>setRow_other _ _ _ _ (fun e=>hno (e ▸ ⟨_,hb,hown⟩)))
    ⟨fun k' hk'=>(aw (.inr (by omega))).trans (hno k' (by omega)),_,_,cap',aD _ _ _ _,hroom,fun hlt2=>⟨blk',off',_,el,rfl,hB,setRow_heap s.w blk' vs' _ el (0,0) hh,by rw [gP hfit]; exact hfitc,fun o ho hs=>by
      rw [Nat.add_mul] at ho
      rcases hs with hs | ⟨_,_,hs⟩
      · exact hnS o (by omega) hs
      · rw [hfl,hul] at hs; omega⟩⟩
    (fun g ho=>by
      obtain ⟨off2,len2,cap2,e,hlt2⟩:=ho
      have e':bm s.lam b (k + 1) cn b (k + 1) = _:=e
      simp [cn] at e'
      right
      rw [← e'.1.1]; exact ⟨_,hb,hown⟩)
    (fun g x h=>h.imp id fun h=>.inr (by rw [h.1]; exact ⟨_,hb,hown⟩)) (fun g x h=>by
      rcases h with h | ⟨h,_⟩
      · have:=hi.scell _ _ h; simp [s']; omega
      · simp [s']; omega)
  refine ⟨s',rfl,rfl,hgo.1,hgo.2, .oslice _ _ _ _ _ ?_ (aD _ _ _ _)⟩
  obtain ⟨a2,cap2,e4,h5⟩:=hc.cW
  rw [hcv] at e4
  have hux:∃ ux:List Value,ux.length = xs.length ∧ (∀ i (h1:i < xs.length) (h2:i < ux.length),Rv s xs[i] ux[i]) ∧ ∀ i (h2:i < ux.length),ux[i].cells.size = sz ∧ oU s blk' (off' + i * sz) ux[i]:=by
    rcases h5 with rfl | ⟨g,o,ux,rfl,q1,q2,q3,q4⟩
    · exact ⟨[],rfl,fun i h1=>by simp at h1,fun i h1=>by simp at h1⟩
    · simp at e4
      obtain ⟨⟨rfl,rfl⟩,_⟩:=e4
      exact ⟨ux,q1,q3,q4⟩
  obtain ⟨ux,q1,q3,q4⟩:=hux
  refine .slice sz (xs ++ ys) blk' off' _ cap' (ux ++ us) (by simp [q1,hul]) (by simp) hroom (fun i h1 h2=>?_) (fun i h2=>?_)
  · by_cases hlt3:i < xs.length
    · have hlt4:i < ux.length:=by omega
      rw [List.getElem_append_left hlt3,List.getElem_append_left hlt4]
      exact (q3 i hlt3 hlt4).keeps hk
    · have hlt4:¬ i < ux.length:=by omega
      rw [List.getElem_append_right (by omega),List.getElem_append_right (by omega)]
      simp only [q1]
      exact (hr (i - xs.length) (by simp at h1; omega) (by simp at h2; omega)).keeps hk
  · by_cases hlt4:i < ux.length
    · simp only [List.getElem_append_left hlt4]
      exact ⟨(q4 i hlt4).1,(q4 i hlt4).2.keeps hk⟩
    · simp only [List.getElem_append_right (show ux.length ≤ i by omega)]
      have hlt5:i - ux.length < us.length:=by simp at h2; omega
      refine ⟨hz _ hlt5,fun j hj=>?_⟩
      have hjz:j < sz:=by rw [hz _ hlt5] at hj; exact hj
      have hidx:(i - ux.length) * sz + j < us.length * sz:=dI hlt5 hjz
      have hpos:off' + i * sz + j = off' + xs.length * sz + ((i - ux.length) * sz + j):=by
        have:i = xs.length + (i - ux.length):=by omega
        conv=>lhs; rw [this]
        rw [Nat.add_mul]; omega
      refine ⟨.inr ⟨rfl,by omega,by rw [hfl]; omega⟩, ?_⟩
      rw [hpos,hcell,if_pos ⟨by omega,by rw [hfl]; omega⟩,show off' + xs.length * sz + ((i - ux.length) * sz + j) - (off' + xs.length * sz) = (i - ux.length) * sz + j by omega]
      exact fO hz _ j hlt5 hj
/-! ### An array of the call's own -/
theorem nZ {α:Type} {xs ys:List α} {p:Nat} (hp:p ≤ xs.length) (i:Nat):(xs.take p ++ ys ++ xs.drop (p + ys.length))[i]? = if p ≤ i ∧ i < p + ys.length then ys[i - p]? else xs[i]?:=by
  have h1:(xs.take p).length = p:=by simp; omega
  by_cases c1:i < p
  · rw [if_neg (by omega),List.append_assoc,List.getElem?_append_left (by omega),List.getElem?_take_of_lt c1]
  · by_cases c2:i < p + ys.length
    · rw [if_pos (by omega),List.append_assoc,List.getElem?_append_right (by omega),h1,List.getElem?_append_left (by omega)]
    · rw [if_neg (by omega),List.getElem?_append_right (by simp; omega)]
      simp only [List.length_append,h1,List.getElem?_drop]
      congr 1; omega
theorem js {α:Type} {xs ys:List α} {p:Nat} (hp:p ≤ xs.length):(xs.take p ++ ys ++ xs.drop (p + ys.length)).length = max xs.length (p + ys.length):=by
  simp; omega
theorem dX.putRow {sz:Nat} {xs ys:List ab} {us ws:List Value} {C:Array Value} (h:dX s sz xs us C) (hwl:ws.length = ys.length) (hr:∀ i (h1:i < ys.length) (h2:i < ws.length),Rv s ys[i] ws[i])
    (hz:∀ i (h2:i < ws.length),ws[i].cells.size = sz) {p:Nat} (hp:p ≤ xs.length) (hfit:p * sz + (aY ws).length ≤ C.size) :
    dX s sz (xs.take p ++ ys ++ xs.drop (p + ys.length)) (us.take p ++ ws ++ us.drop (p + ws.length)) (wrote C (p * sz) (aY ws)):=by
  have hul:=h.len
  have hp':p ≤ us.length:=by omega
  have hlen:(us.take p ++ ws ++ us.drop (p + ws.length)).length = (xs.take p ++ ys ++ xs.drop (p + ys.length)).length:=by rw [js hp,js hp']; omega
  refine ⟨hlen,fun i h1 h2=>?_,fun i j h2 hj=>?_⟩
  · have e1:=nZ (ys:=ys) hp i
    have e2:=nZ (ys:=ws) hp' i
    rw [List.getElem?_eq_getElem h1] at e1
    rw [List.getElem?_eq_getElem h2] at e2
    rw [js hp] at h1
    by_cases c:p ≤ i ∧ i < p + ys.length
    · rw [if_pos c,List.getElem?_eq_getElem (by omega)] at e1
      rw [if_pos (by omega),List.getElem?_eq_getElem (by omega)] at e2
      rw [Option.some.inj e1,Option.some.inj e2]
      exact ⟨hr _ _ _,hz _ _⟩
    · rw [if_neg c,List.getElem?_eq_getElem (by omega)] at e1
      rw [if_neg (by omega),List.getElem?_eq_getElem (by omega)] at e2
      rw [Option.some.inj e1,Option.some.inj e2]
      exact h.rv i (by omega) (by omega)
  · have e2:=nZ (ys:=ws) hp' i
    rw [List.getElem?_eq_getElem h2] at e2
    have hlt:=h2
    rw [js hp'] at hlt
    rw [iV hfit,cX hz]
    by_cases c:p ≤ i ∧ i < p + ws.length
    · have hlt2:i - p < ws.length:=by omega
      rw [if_pos c,List.getElem?_eq_getElem hlt2] at e2
      have e3:=Option.some.inj e2
      have hj2:j < ws[i - p].cells.size:=by rw [e3] at hj; exact hj
      have hjz:j < sz:=by rw [hz _ hlt2] at hj2; exact hj2
      have hm:=dI hlt2 hjz
      have hpos:i * sz + j = p * sz + ((i - p) * sz + j):=by
        have:i = p + (i - p):=by omega
        conv=>lhs; rw [this]
        rw [Nat.add_mul]; omega
      rw [if_pos ⟨by omega,by omega⟩,hpos,show p * sz + ((i - p) * sz + j) - p * sz = (i - p) * sz + j by omega,fO hz _ j hlt2 hj2]
      simp only [e3]
    · have hlt2:i < us.length:=by omega
      rw [if_neg c,List.getElem?_eq_getElem hlt2] at e2
      have e3:=Option.some.inj e2
      have hj2:j < us[i].cells.size:=by rw [e3] at hj; exact hj
      have hjz:j < sz:=by rw [(h.rv i (by omega) hlt2).2] at hj2; exact hj2
      rw [if_neg]
      · simp only [e3]; exact h.cell i j hlt2 hj2
      · rintro ⟨q1,q2⟩
        rcases Nat.lt_or_ge i p with h3 | h3
        · have:=dI h3 hjz; omega
        · have h4:p + ws.length ≤ i:=by omega
          have:=Nat.mul_le_mul_right sz h4
          rw [Nat.add_mul] at this; omega
theorem lz.mF {B b sz:Nat} {xs:List ab} (h:lz s B b (.arr sz xs)):(xs = [] ∧ ∃ a,s.lam b 0 = some (.slice a 0 0)) ∨
    ∃ blk cap vs el us,0 < cap ∧ s.lam b xs.length = some (.slice (some ⟨blk,0,none⟩) xs.length cap) ∧ B ≤ blk ∧ s.w.heap[blk]? = some (.cells vs el (0,0)) ∧ vs.size = cap * sz ∧ xs.length ≤ cap ∧ dX s sz xs us vs ∧ ∀ o, ¬ s.S blk o:=by
  rcases h.2 with h | ⟨blk,cap,vs,el,us,h0,hl,hB,hh,hsz,hc,hu,hr,hv,hn⟩
  · exact .inl h
  · exact .inr ⟨blk,cap,vs,el,us,h0,hl,hB,hh,hsz,hc,⟨hu,fun i h1 h2=>hr i h1 h2,hv⟩,hn⟩
theorem Inv.wL (hi:Inv A s) {b sz:Nat} {xs:List ab} (hb:s.h[b]? = some (.arr sz xs)) {blk cap:Nat} {vs:Array Value} {el:TypeId} {us:List Value} (h0:0 < cap) (hl:s.lam b xs.length = some (.slice (some ⟨blk,0,none⟩) xs.length cap))
    (hh:s.w.heap[blk]? = some (.cells vs el (0,0))) (hvs:vs.size = cap * sz) (hel:dX s sz xs us vs) (hnS:∀ o, ¬ s.S blk o) (hB:A.heap.size ≤ blk)
    {ys:List ab} {ws:List Value} (hwl:ws.length = ys.length) (hr:∀ i (h1:i < ys.length) (h2:i < ws.length),Rv s ys[i] ws[i]) (hz:∀ i (h2:i < ws.length),ws[i].cells.size = sz)
    {p:Nat} (hp:p ≤ xs.length) (hroom:p + ys.length ≤ cap) (hcap:xs.length ≤ cap) :
    p * sz + (aY ws).length ≤ vs.size ∧
    ∃ s',s'.h = s.h.set b (.arr sz (xs.take p ++ ys ++ xs.drop (p + ys.length))) ∧ s'.w = s.w.setRow blk (wrote vs (p * sz) (aY ws)) ∧ Inv A s' ∧ bK s s' ∧
      s'.lam b (max xs.length (p + ys.length)) = some (.slice (some ⟨blk,0,none⟩) (max xs.length (p + ys.length)) cap):=by
  have hblt:b < s.h.length:=(List.getElem?_eq_some_iff.1 hb).1
  have hno:=(hi.obj b _ hb).1
  have hown:cV s b (.arr sz xs) blk:=⟨cap,h0,hl⟩
  have hblk:blk < s.w.heap.size:=(Array.getElem?_eq_some_iff.1 hh).1
  have hfl:=cX hz
  have hmul:(p + ys.length) * sz ≤ cap * sz:=Nat.mul_le_mul_right _ hroom
  rw [Nat.add_mul] at hmul
  have hfit:p * sz + (aY ws).length ≤ vs.size:=by rw [hfl,hwl]; omega
  refine ⟨hfit, ?_⟩
  have hlen:=js (ys:=ys) hp
  let n':=max xs.length (p + ys.length)
  let cn:Value:=.slice (some ⟨blk,0,none⟩) n' cap
  have hset:bm s.lam b n' cn b n' = some cn:=aD _ _ _ _
  let s':St:={ h:=s.h.set b (.arr sz (xs.take p ++ ys ++ xs.drop (p + ys.length))),lam:=bm s.lam b n' cn,S:=s.S,w:=s.w.setRow blk (wrote vs (p * sz) (aY ws)) }
  have hk:bg s s':=by
    refine ⟨fun b' k v hv=>?_,fun _ _ h=>h,fun g o hs=>?_⟩
    · rcases Nat.lt_or_ge xs.length n' with h1 | h1
      · exact ba (hno n' h1) b' k v hv
      · have:n' = xs.length:=by have:xs.length ≤ n':=Nat.le_max_left _ _; omega
        show bm s.lam b n' cn b' k = some v
        unfold bm
        split
        · rename_i e; obtain ⟨rfl,rfl⟩:=e; rw [this,hl] at hv; simp only [cn,this]; exact hv
        · exact hv
    · have hg:g ≠ blk:=fun e=>hnS o (e ▸ hs)
      exact World.cell?_of_block (a:=⟨g,o,none⟩) (setRow_other _ _ _ _ hg)
  have hgo:=hi.change (s':=s') hblt rfl hk (hi.below.trans ⟨rfl,rfl,rfl,by simp [s'],fun g hg=>setRow_other _ _ _ _ (by omega)⟩) (by simp [s']) (fun b' k hne=>aw (.inl hne))
    (fun g _ hno=>setRow_other _ _ _ _ (fun e=>hno (e ▸ ⟨_,hb,hown⟩)))
    ⟨fun k' hk'=>by
        rw [hlen] at hk'
        exact (aw (.inr (by have:n' = max xs.length (p + ys.length):=rfl; omega))).trans (hno k' (by omega)),
      .inr ⟨blk,cap,_,el,us.take p ++ ws ++ us.drop (p + ws.length),h0,by rw [hlen]; exact hset,hB,setRow_heap s.w blk vs _ el (0,0) hh,by rw [gP hfit]; exact hvs,by rw [hlen]; omega,
        (hel.putRow hwl hr hz hp hfit).len,fun i h1 h2=>⟨((hel.putRow hwl hr hz hp hfit).rv i h1 h2).1.keeps hk,((hel.putRow hwl hr hz hp hfit).rv i h1 h2).2⟩,(hel.putRow hwl hr hz hp hfit).cell,hnS⟩⟩
    (fun g ho=>by
      obtain ⟨cap2,_,e⟩:=ho
      rw [hlen] at e
      have e':bm s.lam b n' cn b n' = _:=e
      simp only [aD,cn] at e'
      simp at e'
      right
      rw [← e'.1]; exact ⟨_,hb,hown⟩)
    (fun g x h=>.inl h) (fun g x h=>by have:=hi.scell _ _ h; simp [s']; omega)
  exact ⟨s',rfl,rfl,hgo.1,hgo.2,hset⟩
theorem Inv.yc (hi:Inv A s) {b sz:Nat} {xs zs:List ab} (hb:s.h[b]? = some (.arr sz xs)) {us:List Value} {C:Array Value} (el:TypeId) (cap:Nat) (hlt:xs.length < zs.length) (hcap:zs.length ≤ cap) (hC:C.size = cap * sz) (he:dX s sz zs us C) :
    ∃ s',s'.h = s.h.set b (.arr sz zs) ∧ s'.w = s.w.alloc (.cells C el) ∧ Inv A s' ∧ bK s s' ∧ s'.lam b zs.length = some (.slice (some ⟨s.w.heap.size,0,none⟩) zs.length cap):=by
  have hblt:b < s.h.length:=(List.getElem?_eq_some_iff.1 hb).1
  have hno:=(hi.obj b _ hb).1
  let c:Value:=.slice (some ⟨s.w.heap.size,0,none⟩) zs.length cap
  let s':St:={ h:=s.h.set b (.arr sz zs),lam:=bm s.lam b zs.length c,S:=s.S,w:=s.w.alloc (.cells C el) }
  have hk:bg s s':=⟨ba (hno _ hlt),fun _ _ h=>h,fun blk o hs=>World.cell?_alloc_lt _ _ (a:=⟨blk,o,none⟩) (hi.scell blk o hs)⟩
  have hnew:s'.w.heap[s.w.heap.size]? = some (.cells C el (0,0)):=by show (s.w.heap.push _)[s.w.heap.size]? = _; simp
  have hgo:=hi.change (s':=s') hblt rfl hk (hi.below.alloc hi.below.size _) (by simp [s']) (fun b' k hne=>aw (.inl hne))
    (fun blk hlt _=>Below.heap_alloc _ _ _ hlt)
    ⟨fun k' hk'=>(aw (.inr (by omega))).trans (hno k' (by omega)), .inr ⟨s.w.heap.size,cap,C,el,us,by omega,aD _ _ _ _,hi.below.size,hnew,hC,hcap,he.len,fun i h1 h2=>⟨(he.rv i h1 h2).1.keeps hk,(he.rv i h1 h2).2⟩,he.cell,fun o hs=>by have:=hi.scell _ _ hs; omega⟩⟩
    (fun blk ho=>by
      obtain ⟨cap',_,e⟩:=ho
      have e':bm s.lam b zs.length c b zs.length = _:=e
      simp [c] at e'
      left; omega)
    (fun blk x h=>.inl h) (fun blk x h=>by have:=hi.scell _ _ h; simp [s']; omega)
  exact ⟨s',rfl,rfl,hgo.1,hgo.2,aD _ _ _ _⟩
theorem Inv.nX (hi:Inv A s) {b sz:Nat} {xs:List ab} (hb:s.h[b]? = some (.arr sz xs)) {off len n:Nat} {c:Value} (hc:Rv s (.sref sz b off len n) c) (hn:xs.length = n) :
    ∃ s',s'.h = s.h.set b .dead ∧ s'.w = s.w ∧ Inv A s' ∧ bK s s' ∧ Rv s' (.slice sz ((xs.drop off).take len)) c:=by
  have hblt:b < s.h.length:=(List.getElem?_eq_some_iff.1 hb).1
  by_cases hlen:len = 0
  · subst hlen
    let s':St:={ h:=s.h.set b .dead,lam:=s.lam,S:=s.S,w:=s.w }
    have hk:bg s s':=⟨fun _ _ _ h=>h,fun _ _ h=>h,fun _ _ _=>rfl⟩
    have hgo:=hi.change (s':=s') hblt rfl hk hi.below (Nat.le_refl _) (fun _ _ _=>rfl) (fun _ _ _=>rfl) trivial (fun _ h=>h.elim) (fun _ _ h=>.inl h) hi.scell
    refine ⟨s',rfl,rfl,hgo.1,hgo.2, ?_⟩
    simp only [List.take_zero]
    cases hc <;> exact .slice0 _ _ _
  · cases hc with
    | sref0=>exact absurd rfl hlen
    | srefE=>exact absurd rfl hlen
    | sref _ _ _ _ _ blk cap hl h1 h2=>
      rcases (hi.obj b _ hb).mF with ⟨hx,_⟩ | ⟨blk',cap',vs,el,us,h0,hl',hB,hh,hvs,hcap,hel,hnS⟩
      · subst hx; simp at hn; omega
      · have e1:blk' = blk ∧ cap' = cap:=by rw [hn,hl] at hl'; simp at hl'; exact ⟨hl'.1.symm,hl'.2.symm⟩
        obtain ⟨rfl,rfl⟩:=e1
        have hown:cV s b (.arr sz xs) blk':=⟨cap',h0,hl'⟩
        have hblk:blk' < s.w.heap.size:=(Array.getElem?_eq_some_iff.1 hh).1
        let s':St:={ h:=s.h.set b .dead,lam:=s.lam,S:=fun g o=>s.S g o ∨ (g = blk' ∧ o < vs.size),w:=s.w }
        have hk:bg s s':=⟨fun _ _ _ h=>h,fun _ _ h=>.inl h,fun _ _ _=>rfl⟩
        have hgo:=hi.change (s':=s') hblt rfl hk hi.below (Nat.le_refl _) (fun _ _ _=>rfl) (fun _ _ _=>rfl) trivial (fun _ h=>h.elim)
          (fun g x h=>h.imp id fun h=>.inr (by rw [h.1]; exact ⟨_,hb,hown⟩)) (fun g x h=>by
            rcases h with h | ⟨h,_⟩
            · exact hi.scell _ _ h
            · rw [h]; exact hblk)
        refine ⟨s',rfl,rfl,hgo.1,hgo.2, ?_⟩
        have hul:=hel.len
        refine .slice sz _ blk' (off * sz) len (cap' - off) ((us.drop off).take len) (by simp; omega) (by simp; omega) (by omega) (fun i g1 g2=>?_) (fun i g2=>?_)
        · have:=(hel.rv (off + i) (by simp at g1; omega) (by simp at g2; omega)).1.keeps hk
          simpa using this
        · have hlt:off + i < us.length:=by simp at g2; omega
          have e:((us.drop off).take len)[i] = us[off + i]:=by simp
          have hz:=(hel.rv (off + i) (by omega) hlt).2
          simp only [e]
          refine ⟨hz,fun j hj=>?_⟩
          have hcl:=hel.cell (off + i) j hlt hj
          have hlt2:off * sz + i * sz + j < vs.size:=by
            rcases Nat.lt_or_ge (off * sz + i * sz + j) vs.size with h' | h'
            · exact h'
            · rw [Nat.add_mul,Array.getElem?_eq_none h'] at hcl; cases hcl
          refine ⟨.inr ⟨rfl,hlt2⟩, ?_⟩
          show World.cell? s.w _ = _
          simp only [World.cell?,hh]
          rw [← Nat.add_mul,hcl]
          rfl
theorem Inv.tI (hi:Inv A s) {b:Nat} {cs:List ab} (hb:s.h[b]? = some (.box cs)) {c:Value} (hc:Rv s (.ptr b 0) c) :
    ∃ s',s'.h = s.h.set b .dead ∧ s'.w = s.w ∧ Inv A s' ∧ bK s s' ∧ Rv s' (.pval (.agg cs)) c ∧ ∀ v,cs = [v] → v.fh = true → Rv s' (.pval v) c:=by
  have hblt:b < s.h.length:=(List.getElem?_eq_some_iff.1 hb).1
  obtain ⟨blk,vs,el,hl,hB,hh,hsz,hr,hnS⟩:=hi.obj b _ hb
  have hown:cV s b (.box cs) blk:=hl
  have hblk:blk < s.w.heap.size:=(Array.getElem?_eq_some_iff.1 hh).1
  have e1:c = .pointer (some ⟨blk,0,none⟩):=by
    cases hc with
    | ptr _ _ blk' hl'=>rw [hl] at hl'; simp at hl'; rw [hl']
  subst e1
  let s':St:={ h:=s.h.set b .dead,lam:=s.lam,S:=fun g o=>s.S g o ∨ (g = blk ∧ o < vs.size),w:=s.w }
  have hk:bg s s':=⟨fun _ _ _ h=>h,fun _ _ h=>.inl h,fun _ _ _=>rfl⟩
  have hgo:=hi.change (s':=s') hblt rfl hk hi.below (Nat.le_refl _) (fun _ _ _=>rfl) (fun _ _ _=>rfl) trivial (fun _ h=>h.elim)
    (fun g x h=>h.imp id fun h=>.inr (by rw [h.1]; exact ⟨_,hb,hown⟩)) (fun g x h=>by
      rcases h with h | ⟨h,_⟩
      · exact hi.scell _ _ h
      · rw [h]; exact hblk)
  refine ⟨s',rfl,rfl,hgo.1,hgo.2, .pval _ (.agg vs) _ _ (.agg _ _ hsz fun j h1 h2=>(hr j h1 h2).keeps hk) (fun j hj=>?_),fun v hv hs=>?_⟩
  · have hj':j < vs.size:=hj
    refine ⟨.inr ⟨rfl,by omega⟩, ?_⟩
    show World.cell? s.w _ = _
    simp only [World.cell?,hh,Nat.zero_add]
    simp [Value.cells,hj']
  · subst hv
    have h0:0 < vs.size:=by rw [hsz]; simp
    have hr0:=(hr 0 (by simp) h0).keeps hk
    simp only [List.getElem_cons_zero] at hr0
    refine .pval _ vs[0] _ _ hr0 fun j hj=>?_
    have hsc:=dx hr0 hs
    have hj0:j = 0:=by rw [hsc] at hj; simp at hj; exact hj
    subst hj0
    refine ⟨.inr ⟨rfl,by omega⟩, ?_⟩
    show World.cell? s.w _ = _
    simp only [World.cell?,hh,Nat.zero_add]
    simp [hsc,h0]
end
open Go.RowKit
section
variable {P:Program} {s:St} {A:World} {ρ:aG → ab} {ρ':Operand → Value} {K Kp:ab → ag → Prop}
theorem cS {t tx ty:TypeId} {c d:Value} {w w':World} {r:Value} (h:(Builtin.append_ #[t,tx] ty #[c,d]).run P w = .ok r w') :
    (do pure (Next.value (← Builtin.append_ #[t,tx] ty #[c,d])):Sem Next).run P w = .ok (.value r) w':=aq _ _ _ _ h
theorem me {sz:Nat} {xs ys:List ab} {us ws:List Value} (hul:us.length = xs.length) (hwl:ws.length = ys.length) (h1:∀ i (h1:i < xs.length) (h2:i < us.length),Rv s xs[i] us[i] ∧ us[i].cells.size = sz)
    (h2:∀ i (h1:i < ys.length) (h2:i < ws.length),Rv s ys[i] ws[i]) (hz:∀ i (h2:i < ws.length),ws[i].cells.size = sz) (Z:Array Value) :
    dX s sz (xs ++ ys) (us ++ ws) ((aY us ++ aY ws).toArray ++ Z):=by
  have hz':∀ i (h:i < (us ++ ws).length),(us ++ ws)[i].cells.size = sz:=by
    intro i h
    by_cases c:i < us.length
    · rw [List.getElem_append_left c]; exact (h1 i (by omega) c).2
    · rw [List.getElem_append_right (by omega)]; exact hz _ _
  have happ:∀ (a b:List Value),aY a ++ aY b = aY (a ++ b):=by
    intro a b
    induction a with
    | nil=>rfl
    | cons x a ih=>simp only [aY,List.append_assoc,ih,List.cons_append]
  refine ⟨by simp [hul,hwl],fun i g1 g2=>⟨?_,hz' i g2⟩,fun i j g2 gj=>?_⟩
  · by_cases c:i < xs.length
    · rw [List.getElem_append_left c,List.getElem_append_left (by omega)]; exact (h1 i c (by omega)).1
    · rw [List.getElem_append_right (by omega),List.getElem_append_right (by omega)]
      simp only [hul]
      exact h2 _ (by simp at g1; omega) (by simp at g2; omega)
  · rw [happ]
    have:=fO hz' i j g2 gj
    have hlt:i * sz + j < (aY (us ++ ws)).length:=by
      rcases Nat.lt_or_ge (i * sz + j) (aY (us ++ ws)).length with h' | h'
      · exact h'
      · rw [List.getElem?_eq_none h'] at this; cases this
    rw [Array.getElem?_append_left (by simpa using hlt)]
    simpa using this
theorem nY {sz n m cap:Nat} {us ws:List Value} {z:Array Value} (h1:us.length = n) (h2:ws.length = m) (hz1:∀ i (h:i < us.length),us[i].cells.size = sz) (hz2:∀ i (h:i < ws.length),ws[i].cells.size = sz)
    (hz:z.size = sz) (hc:n + m ≤ cap):((aY us ++ aY ws).toArray ++ Builtin.zeroCells z (cap - (n + m))).size = cap * sz:=by
  simp only [Array.size_append,List.size_toArray,List.length_append,cX hz1,cX hz2,size_zeroCells,hz,h1,h2, ← Nat.add_mul]
  congr 1; omega
theorem uz {sz n:Nat} {us:List Value} {a:Option Addr} {cap:Nat} {w:World} (hl:us.length = n) (hz:∀ i (h2:i < us.length),us[i].cells.size = sz)
    (hm:n = 0 ∨ ∃ blk off,a = some ⟨blk,off,none⟩ ∧ ∀ i j (h2:i < us.length) (hj:j < us[i].cells.size),w.cell? ⟨blk,off + i * sz + j,none⟩ = some us[i].cells[j]) :
    (Builtin.firstCells sz n (.slice a n cap)).run P w.drew = .ok (aY us).toArray w.drew:=by
  rcases hm with h0 | ⟨blk,off,rfl,hc⟩
  · subst h0
    have:us = []:=List.eq_nil_of_length_eq_zero hl
    subst this
    cases a with
    | none=>exact run_firstCells_none w.drew sz 0 0 cap
    | some ad=>exact run_firstCells_some w.drew sz 0 ad 0 cap [] (by simp) (fun j u h=>by simp at h)
  · refine run_firstCells_some w.drew sz n _ n cap _ (by rw [cX hz,hl]) (fun q u hq=>?_)
    have hlt:q < us.length * sz:=by
      rw [← cX hz]
      rcases Nat.lt_or_ge q (aY us).length with h' | h'
      · exact h'
      · rw [List.getElem?_eq_none h'] at hq; cases hq
    obtain ⟨i,j,h1,h2,rfl⟩:=mD hlt
    have hj:j < us[i].cells.size:=by rw [hz i h1]; exact h2
    rw [fO hz i j h1 hj] at hq
    rw [← Option.some.inj hq,addr_add, ← Nat.add_assoc]
    show w.cell? _ = _
    exact hc i j h1 hj
theorem yd {sz:Nat} {xs:List ab} {c:Value} (hc:Rv s (.slice sz xs) c):∃ (a:Option Addr) (cap:Nat) (us:List Value),c = .slice a xs.length cap ∧ us.length = xs.length ∧
      (∀ i (h1:i < xs.length) (h2:i < us.length),Rv s xs[i] us[i] ∧ us[i].cells.size = sz) ∧
      (xs.length = 0 ∨ ∃ blk off,a = some ⟨blk,off,none⟩ ∧ ∀ i j (h2:i < us.length) (hj:j < us[i].cells.size),s.w.cell? ⟨blk,off + i * sz + j,none⟩ = some us[i].cells[j]):=by
  obtain ⟨a,cap,rfl,h⟩:=hc.cW
  rcases h with rfl | ⟨blk,off,us,rfl,hl,hcp,hr,hm⟩
  · exact ⟨a,cap,[],rfl,rfl,fun i h=>by simp at h, .inl rfl⟩
  · exact ⟨_,cap,us,rfl,hl,fun i h1 h2=>⟨hr i h1 h2,(hm i h2).1⟩, .inr ⟨blk,off,rfl,fun i j h2 hj=>((hm i h2).2 j hj).2⟩⟩
theorem cx.from {s1:St} (hg:bK s s1) {Q:eP → ag → Prop} {e:Ending} {w:World} (h:cx A s1 Q e w):cx A s Q e w:=
  let ⟨r,s',a,b,c,d,q⟩:=h; ⟨r,s',a,b,hg.trans c,d,q⟩
theorem au.from {s1:St} (hg:bK s s1) {r:Result Next} (h:au P A s1 K Kp r):au P A s K Kp r:=by
  cases r with
  | ok v w=>
    cases v with
    | value c=>obtain ⟨v,s',a,b,c,d,e⟩:=h; exact ⟨v,s',a,b,hg.trans c,d,e⟩
    | skip=>obtain ⟨v,s',a,b,c,d,e⟩:=h; exact ⟨v,s',a,b,hg.trans c,d,e⟩
    | enter f args=>exact Calls.mono h fun _ _ hp=>hp.from hg
    | round l f tmps asg body=>exact fun ro=>(h ro).mono fun _ _ hp=>hp.from hg
    | _=>exact h
  | halt x w=>
    cases x with
    | panic c=>obtain ⟨v,s',a,b,c,d,e⟩:=h; exact ⟨v,s',a,b,hg.trans c,d,e⟩
    | _=>exact h
theorem oT (hi:Inv A s) {t tx ty e:TypeId} {i:TypeInfo} {z:Value} {sz bytes:Nat} (ht:P.underlying t = some (.slice e)) (hinf:P.info? e = some i) (hzv:i.zero = some z)
    (hsz:i.size = sz) (hby:i.bytes = bytes) (hzs:z.cells.size = sz) (hbpos:0 < bytes) {xv:ab} {c d:Value} {ys:List ab} {ws:List Value} (hx:Rv s xv c) (hsrc:Src P i.size tx d ys.length (aY ws) s.w)
    (hwl:ws.length = ys.length) (hwr:∀ j (h1:j < ys.length) (h2:j < ws.length),Rv s ys[j] ws[j]) (hwz:∀ j (h2:j < ws.length),ws[j].cells.size = i.size)
    (hnn:∀ z,xv ≠ .nils z) (h:iT sz bytes s.h xv ys K):au P A s K Kp ((do pure (Next.value (← Builtin.append_ #[t,tx] ty #[c,d])):Sem Next).run P s.w):=by
  subst hsz
  subst hby
  -- no room: what the run gives
  have grow:∀ (a:Option Addr) (n cap:Nat) (us:List Value),us.length = n → (∀ j (h2:j < us.length),us[j].cells.size = i.size) →
      (n = 0 ∨ ∃ blk off,a = some ⟨blk,off,none⟩ ∧ ∀ p j (h2:p < us.length) (hj:j < us[p].cells.size),s.w.cell? ⟨blk,off + p * i.size + j,none⟩ = some us[p].cells[j]) →
      cap < n + ys.length → (n + ys.length) * i.bytes ≤ 140737488355328 →
      (Builtin.append_ #[t,tx] ty #[.slice a n cap,d]).run P s.w =
        .ok (.slice (some ⟨s.w.heap.size,0,none⟩) (n + ys.length) (grownCap s.w (n + ys.length) cap e))
          (s.w.drew.alloc (.cells ((aY us ++ aY ws).toArray ++ Builtin.zeroCells z.cells (grownCap s.w (n + ys.length) cap e - (n + ys.length))) e)):=by
    intro a n cap us hul huz hm hlt hb
    refine run_append_grow_src s.w t tx ty e i z ht hinf hzv a n cap (aY us) (uz hul huz hm) _ ys.length (aY ws) hsrc hlt ?_ (growslice_fits hlt hb)
    have:n + ys.length ≤ (n + ys.length) * i.bytes:=Nat.le_mul_of_pos_right _ hbpos
    omega
  cases xv with
  | oslice sz' xs b k=>
    obtain ⟨rfl,hb,h⟩:=h
    cases hbk:s.h.get b with
    | spare sz'' k'=>
      rw [hbk] at h
      obtain ⟨rfl,rfl,h⟩:=h
      have hbs:=ag.get_some hbk (by simp)
      cases hx with
      | oslice _ _ _ _ _ hs hl=>
        obtain ⟨a,cap,us,rfl,hul,hur,hum⟩:=yd hs
        rcases Nat.lt_or_ge cap (xs.length + ys.length) with hlt | hroom
        · -- a new block
          have hrun:=grow a xs.length cap us hul (fun j h2=>(hur j (by omega) h2).2) hum hlt hb
          have hd:=hi.drew
          have he:=me (s:={ s with w:=s.w.drew }) (Z:=Builtin.zeroCells z.cells (grownCap s.w (xs.length + ys.length) cap e - (xs.length + ys.length))) hul hwl (fun j h1 h2=>⟨(hur j h1 h2).1.keeps hd.2.keeps,(hur j h1 h2).2⟩) (fun j h1 h2=>(hwr j h1 h2).keeps hd.2.keeps) hwz
          have hcap:=grownCap_ge s.w (xs.length + ys.length) cap e
          obtain ⟨s',e1,e2,i2,g2,r2⟩:=hd.1.Ai hbs e _ (by simpa using hcap) (nY hul hwl (fun j h2=>(hur j (by omega) h2).2) hwz hzs hcap) he
          refine au.value (cS hrun) e2 i2 (hd.2.trans g2) ?_ (by rw [e1]; exact h)
          simpa using r2
        · by_cases h0:ys.length = 0
          · -- nothing comes
            have hy0:ys = []:=List.eq_nil_of_length_eq_zero h0
            have hw0:ws = []:=List.eq_nil_of_length_eq_zero (by omega)
            subst hy0; subst hw0
            have hrun:(Builtin.append_ #[t,tx] ty #[.slice a xs.length cap,d]).run P s.w = .ok (.slice a xs.length cap) s.w:=by
              have h1:=hsrc.len
              have h2:=hsrc.cells
              simp [aY] at h2
              have h3:xs.length ≤ cap:=by simpa using hroom
              simp only [List.length_nil] at h1
              rcases hsrc.kind with ⟨e',hk⟩ | hk <;> cases a <;> simp [Builtin.append_,run_underlying ht,run_underlying hk,sizeOf,typeInfo,hinf,h1,h3,h2,storeCells]
            have hblt:b < s.h.length:=(List.getElem?_eq_some_iff.1 hbs).1
            obtain ⟨hno,a',len',cap',hl',hle,hxx⟩:=hi.obj b _ hbs
            let s':St:={ h:=s.h.set b (.spare i.size (k' + 1)),lam:=bm s.lam b (k' + 1) (.slice a xs.length cap),S:=s.S,w:=s.w }
            have hkp:bg s s':=⟨ba (hno _ (by omega)),fun _ _ h=>h,fun _ _ _=>rfl⟩
            have e1:a' = a ∧ len' = xs.length ∧ cap' = cap:=by rw [hl] at hl'; simp at hl'; exact ⟨hl'.1.symm,hl'.2.1.symm,hl'.2.2.symm⟩
            obtain ⟨rfl,rfl,rfl⟩:=e1
            have hgo:=hi.change (s':=s') hblt rfl hkp hi.below (Nat.le_refl _) (fun b' k hne=>aw (.inl hne)) (fun _ _ _=>rfl)
              ⟨fun k2 hk2=>(aw (.inr (by omega))).trans (hno k2 (by omega)),a',xs.length,cap',aD _ _ _ _,hle,hxx⟩
              (fun blk ho=>by
                obtain ⟨off,len,cp,e,hlt⟩:=ho
                have e':bm s.lam b (k' + 1) (.slice a' xs.length cap') b (k' + 1) = _:=e
                simp at e'
                obtain ⟨rfl,rfl,rfl⟩:=e'
                exact .inr ⟨_,hbs,off,_,_,hl',hlt⟩)
              (fun _ _ h=>.inl h) hi.scell
            refine au.value (cS hrun) (s':=s') rfl hgo.1 hgo.2 (v:=.oslice i.size (xs ++ []) b (k' + 1)) ?_ h
            rw [List.append_nil]
            exact .oslice _ _ _ _ _ (hs.keeps hgo.2.keeps) (aD _ _ _ _)
          · -- there is room
            have hlt:xs.length < cap:=by omega
            obtain ⟨hno,a',len',cap',hl',hle,hxx⟩:=hi.obj b _ hbs
            have e1:a' = a ∧ len' = xs.length ∧ cap' = cap:=by rw [hl] at hl'; simp at hl'; exact ⟨hl'.1.symm,hl'.2.1.symm,hl'.2.2.symm⟩
            obtain ⟨rfl,rfl,rfl⟩:=e1
            obtain ⟨blk,off,vs,el,rfl,hB,hh,hfitc,hnS⟩:=hxx hlt
            obtain ⟨hfit,s',f1,f2,i2,g2,r2⟩:=hi.Av hbs hs hl hwl hwr hwz rfl hroom hlt hh
            have hrun:=eW (P:=P) (ty:=ty) ht hinf (w:=s.w) blk off xs.length cap' _ ys.length (aY ws) hsrc hh hroom hfit
            exact au.value (cS hrun) f2 i2 g2 r2 (by rw [f1]; exact h)
    | _=>rw [hbk] at h; exact h.elim
  | sref sz' b off len n=>
    obtain ⟨rfl,h⟩:=h
    cases hbk:s.h.get b with
    | arr sz'' xs=>
      rw [hbk] at h
      obtain ⟨rfl,hn,h⟩:=h
      have hbs:=ag.get_some hbk (by simp)
      have hself:s.h.set b (.arr i.size xs) = s.h:=by
        refine List.ext_getElem? fun j=>?_
        by_cases hj:b = j
        · subst hj; rw [List.getElem?_set_self (List.getElem?_eq_some_iff.1 hbs).1,hbs]
        · rw [List.getElem?_set_ne hj]
      -- nothing comes
      have none_comes:∀ {a:Option Addr} {cap:Nat},Rv s (.sref i.size b off len n) (.slice a len cap) → len ≤ cap → ys.length = 0 → off + len ≤ n → K (.sref i.size b off (len + ys.length) n) (s.h.set b (.arr i.size (xs.take (off + len) ++ ys ++ xs.drop (off + len + ys.length)))) →
          au P A s K Kp ((do pure (Next.value (← Builtin.append_ #[t,tx] ty #[.slice a len cap,d])):Sem Next).run P s.w):=by
        intro a cap hx hle h0 hle2 hK
        have hy0:ys = []:=List.eq_nil_of_length_eq_zero h0
        have hw0:ws = []:=List.eq_nil_of_length_eq_zero (by omega)
        subst hy0; subst hw0
        have hrun:(Builtin.append_ #[t,tx] ty #[.slice a len cap,d]).run P s.w = .ok (.slice a len cap) s.w:=by
          have h1:=hsrc.len
          have h2:=hsrc.cells
          simp [aY] at h2
          simp only [List.length_nil] at h1
          rcases hsrc.kind with ⟨e',hk⟩ | hk <;> cases a <;> simp [Builtin.append_,run_underlying ht,run_underlying hk,sizeOf,typeInfo,hinf,h1,hle,h2,storeCells]
        refine au.value (cS hrun) rfl hi (.refl s) hx ?_
        simp only [List.length_nil,Nat.add_zero,List.append_nil,List.take_append_drop,hself] at hK
        exact hK
      have zero:∀ {a:Option Addr},n = 0 → off = 0 → len = 0 → s.lam b 0 = some (.slice a 0 0) → Rv s (.sref i.size b off len n) (.slice a 0 0) →
          au P A s K Kp ((do pure (Next.value (← Builtin.append_ #[t,tx] ty #[.slice a 0 0,d])):Sem Next).run P s.w):=by
        intro a e1 e2 e3 hl hx
        subst e1; subst e2; subst e3
        have hx0:xs = []:=List.eq_nil_of_length_eq_zero hn
        by_cases h0:ys.length = 0
        · rw [if_pos (by omega)] at h
          exact none_comes hx (Nat.le_refl _) h0 (by omega) h
        · rw [if_neg (by omega)] at h
          obtain ⟨_,_,hb,h⟩:=h
          have hrun:=grow a 0 0 [] rfl (fun j h2=>by simp at h2) (.inl rfl) (by omega) hb
          have hd:=hi.drew
          have he:=me (s:={ s with w:=s.w.drew }) (sz:=i.size) (xs:=[]) (us:=[]) (Z:=Builtin.zeroCells z.cells (grownCap s.w (0 + ys.length) 0 e - (0 + ys.length))) rfl hwl (fun j h1 h2=>by simp at h1) (fun j h1 h2=>(hwr j h1 h2).keeps hd.2.keeps) hwz
          have hcap2:=grownCap_ge s.w (0 + ys.length) 0 e
          have hgs:=nY (us:=[]) (z:=z.cells) rfl hwl (fun j h2=>by simp at h2) hwz hzs hcap2
          subst hx0
          obtain ⟨s',e1,e2,i2,g2,k2⟩:=hd.1.yc (zs:=[] ++ ys) hbs e _ (by simp; omega) (by simpa using hcap2) hgs he
          refine au.value (cS hrun) e2 i2 (hd.2.trans g2) ?_ (by rw [e1]; exact h)
          rw [List.length_append,List.length_nil] at k2
          have:=Rv.sref (s:=s') i.size b 0 (0 + ys.length) (0 + ys.length) _ _ k2 (by omega) hcap2
          simpa using this
      cases hx with
      | sref0 _ _ a hl=>exact zero rfl rfl rfl hl (.sref0 _ _ _ hl)
      | srefE _ _ _ _ a v hl h0 h1=>
        by_cases hc:off + 0 + ys.length ≤ n
        · rw [if_pos hc] at h
          exact none_comes (.srefE _ _ _ _ _ _ hl h0 h1) (Nat.le_refl _) (by omega) (by omega) h
        · rw [if_neg hc] at h; omega
      | sref _ _ _ _ _ blk cap hl h1 h2=>
        rcases (hi.obj b _ hbs).mF with ⟨hx0,a,hl'⟩ | ⟨blk',cap',vs,el,us,h0,hl',hB,hh,hvs,hcap,hel,hnS⟩
        · subst hx0
          have hn0:n = 0:=by simpa using hn.symm
          subst hn0
          rw [hl] at hl'; simp at hl'
          have e1:off = 0:=by omega
          have e2:len = 0:=by omega
          subst e1; subst e2
          obtain ⟨_,e3⟩:=hl'
          subst e3
          have:=zero (a:=some ⟨blk,0,none⟩) rfl rfl rfl hl (by simpa using Rv.sref (s:=s) i.size b 0 0 0 blk 0 hl (Nat.le_refl _) (Nat.le_refl _))
          simpa using this
        · have e1:blk' = blk ∧ cap' = cap:=by rw [hn,hl] at hl'; simp at hl'; exact ⟨hl'.1.symm,hl'.2.symm⟩
          obtain ⟨rfl,rfl⟩:=e1
          subst hn
          by_cases hc:off + len + ys.length ≤ xs.length
          · rw [if_pos hc] at h
            obtain ⟨hfit,s',f1,f2,i2,g2,k2⟩:=hi.wL hbs h0 hl' hh hvs hel hnS hB hwl hwr hwz (p:=off + len) (by omega) (by omega) hcap
            have hrun:=eW (P:=P) (ty:=ty) ht hinf (w:=s.w) blk' (off * i.size) len (cap' - off) _ ys.length (aY ws) hsrc hh (by omega) (by rw [← Nat.add_mul]; exact hfit)
            rw [← Nat.add_mul] at hrun
            refine au.value (cS hrun) f2 i2 g2 ?_ (by rw [f1]; exact h)
            exact .sref _ _ _ _ _ blk' cap' (g2.keeps.lam _ _ _ hl) (by omega) h2
          · rw [if_neg hc] at h
            obtain ⟨e1,e2,hb,h⟩:=h
            subst e1; subst e2
            rcases Nat.lt_or_ge cap' (xs.length + ys.length) with hlt | hroom
            · have hd:=hi.drew
              have hrun:=grow (some ⟨blk',0 * i.size,none⟩) xs.length (cap' - 0) us hel.len (fun j h2=>(hel.rv j (by have:=hel.len; omega) h2).2) (.inr ⟨blk',0 * i.size,rfl,fun p j h2 hj=>by
                have:=hel.cell p j h2 hj
                simp only [World.cell?,hh,Nat.zero_mul,Nat.zero_add]
                rw [this]; rfl⟩) (by omega) hb
              have he:=me (s:={ s with w:=s.w.drew }) (Z:=Builtin.zeroCells z.cells (grownCap s.w (xs.length + ys.length) (cap' - 0) e - (xs.length + ys.length))) hel.len hwl (fun j h1 h2=>⟨(hel.rv j h1 h2).1.keeps hd.2.keeps,(hel.rv j h1 h2).2⟩) (fun j h1 h2=>(hwr j h1 h2).keeps hd.2.keeps) hwz
              have hcap2:=grownCap_ge s.w (xs.length + ys.length) (cap' - 0) e
              obtain ⟨s',e1,e2,i2,g2,k2⟩:=hd.1.yc (zs:=xs ++ ys) hbs e _ (by simp; omega) (by simpa using hcap2) (nY hel.len hwl (fun j h2=>(hel.rv j (by have:=hel.len; omega) h2).2) hwz hzs hcap2) he
              refine au.value (cS hrun) e2 i2 (hd.2.trans g2) ?_ (by rw [e1]; exact h)
              rw [List.length_append] at k2
              have:=Rv.sref (s:=s') i.size b 0 (xs.length + ys.length) (xs.length + ys.length) _ _ k2 (by omega) hcap2
              simpa using this
            · obtain ⟨hfit,s',f1,f2,i2,g2,k2⟩:=hi.wL hbs h0 hl' hh hvs hel hnS hB hwl hwr hwz (p:=xs.length) (Nat.le_refl _) hroom hcap
              have hrun:=eW (P:=P) (ty:=ty) ht hinf (w:=s.w) blk' (0 * i.size) xs.length (cap' - 0) _ ys.length (aY ws) hsrc hh (by omega) (by rw [← Nat.add_mul,Nat.zero_add]; exact hfit)
              rw [← Nat.add_mul,Nat.zero_add] at hrun
              have hmx:max xs.length (xs.length + ys.length) = xs.length + ys.length:=by omega
              rw [hmx] at k2
              refine au.value (cS hrun) f2 i2 g2 (.sref _ _ _ _ _ blk' cap' k2 (by omega) hroom) ?_
              rw [f1,List.take_of_length_le (Nat.le_refl _),List.drop_of_length_le (by omega),List.append_nil]
              exact h
    | _=>rw [hbk] at h; exact h.elim
  | nils z=>exact (hnn z rfl).elim
  | _=>exact h.elim
theorem qR (hi:Inv A s) {t tx ty e:TypeId} {i:TypeInfo} {z:Value} {sz bytes:Nat} (ht:P.underlying t = some (.slice e)) (hinf:P.info? e = some i) (hzv:i.zero = some z)
    (hsz:i.size = sz) (hby:i.bytes = bytes) (hzs:z.cells.size = sz) (hbpos:0 < bytes) {xv:ab} {c d:Value} {ys:List ab} {ws:List Value} (hx:Rv s xv c) (hsrc:Src P i.size tx d ys.length (aY ws) s.w)
    (hwl:ws.length = ys.length) (hwr:∀ j (h1:j < ys.length) (h2:j < ws.length),Rv s ys[j] ws[j]) (hwz:∀ j (h2:j < ws.length),ws[j].cells.size = i.size)
    (h:iT sz bytes s.h xv ys K):au P A s K Kp ((do pure (Next.value (← Builtin.append_ #[t,tx] ty #[c,d])):Sem Next).run P s.w):=by
  cases xv with
  | nils sz'=>
    obtain ⟨rfl,hb,h⟩:=h
    cases hx
    obtain ⟨s1,e1,e2,i1,g1,d1⟩:=hi.one
    obtain ⟨s2,f1,f2,i2,g2,k2,_⟩:=i1.fE d1 sz' none 0
    have h2:s2.h = s.h ++ [.spare sz' 0]:=by rw [f1,e1]; exact bO _ _ _
    have hw:s2.w = s.w:=f2.trans e2
    have hg:s2.h.get s.h.length = .spare sz' 0:=by rw [h2]; simp [ag.get]
    rw [← hw] at hsrc ⊢
    refine au.from (g1.trans g2) (oT i2 ht hinf hzv hsz hby hzs hbpos (xv:=.oslice sz' [] s.h.length 0) (.oslice _ _ _ _ _ (.slice0 sz' _ _) k2) hsrc hwl (fun j h1 h2=>(hwr j h1 h2).keeps (g1.trans g2).keeps) hwz (fun z e=>by cases e) ?_)
    refine ⟨rfl,by simpa using hb, ?_⟩
    rw [hg]
    refine ⟨rfl,rfl, ?_⟩
    have:s2.h.set s.h.length (.spare sz' 1) = s.h ++ [.spare sz' 1]:=by rw [h2]; exact bO _ _ _
    rw [this]
    simpa using h
  | _=>exact oT hi ht hinf hzv hsz hby hzs hbpos hx hsrc hwl hwr hwz (fun z e=>by cases e) h
theorem wH (hi:Inv A s) {t tx ty e e':TypeId} {i:TypeInfo} {z:Value} {sz bytes:Nat} (ht:P.underlying t = some (.slice e)) (hk:P.underlying tx = some (.slice e')) (hinf:P.info? e = some i) (hzv:i.zero = some z)
    (hsz:i.size = sz) (hby:i.bytes = bytes) (hzs:z.cells.size = sz) (_hpos:0 < sz) (hbpos:0 < bytes) {xv yv:ab} {c d:Value} (hx:Rv s xv c) (hy:Rv s yv d) (ho:yv.ib s.h sz) (hf:Fits sz (yv.elems s.h))
    (h:iT sz bytes s.h xv (yv.elems s.h) K):au P A s K Kp ((do pure (Next.value (← Builtin.append_ #[t,tx] ty #[c,d])):Sem Next).run P s.w):=by
  subst hsz
  obtain ⟨ya,ycap,ws,rfl,hwl,hwr,hwz,hwm⟩:=vw hi hy ho
  exact qR hi ht hinf hzv rfl hby hzs hbpos hx (GD (P:=P) (cap:=ycap) hk hwl hwr hwz hf hwm) hwl hwr hwz h
theorem yU (s:ByteArray):aY (byteCells s) = byteCells s:=by
  have:∀ l:List UInt8,aY (l.map fun b=>Value.int .u8 b.toNat) = l.map fun b=>Value.int .u8 b.toNat:=by
    intro l
    induction l with
    | nil=>rfl
    | cons b l ih=>simp only [List.map_cons,aY,ih]; rfl
  exact this _
theorem uJ (hi:Inv A s) {t tx ty e:TypeId} {i:TypeInfo} {z:Value} {bytes:Nat} (ht:P.underlying t = some (.slice e)) (hk:P.underlying tx = some .string) (hinf:P.info? e = some i) (hzv:i.zero = some z)
    (hsz:i.size = 1) (hby:i.bytes = bytes) (hzs:z.cells.size = 1) (hbpos:0 < bytes) {xv yv:ab} {c d:Value} (hx:Rv s xv c) (hy:Rv s yv d)
    (h:Cw bytes s.h xv yv K):au P A s K Kp ((do pure (Next.value (← Builtin.append_ #[t,tx] ty #[c,d])):Sem Next).run P s.w):=by
  cases yv with
  | str x=>
    cases hy
    have hl:(byteCells x).length = (uB x).length:=by simp [byteCells,uB]
    have hg:∀ j (h1:j < (uB x).length) (h2:j < (byteCells x).length),Rv s (uB x)[j] (byteCells x)[j] ∧ (byteCells x)[j].cells.size = i.size:=by
      intro j h1 h2
      rw [hsz]
      have e1:(uB x)[j] = .int .u8 (x.data.toList[j]'(by simpa [uB] using h1)).toNat:=by simp [uB,Gy]
      have e2:(byteCells x)[j] = .int .u8 (x.data.toList[j]'(by simpa [uB] using h1)).toNat:=by simp [byteCells]
      rw [e1,e2]
      exact ⟨.int _ _,rfl⟩
    refine qR (ys:=uB x) (ws:=byteCells x) hi ht hinf hzv hsz hby hzs hbpos hx ?_ hl (fun j h1 h2=>(hg j h1 h2).1) (fun j h2=>(hg j (by omega) h2).2) h
    rw [yU,hsz, ← hl]
    have hs:(byteCells x).length = x.size:=by simp [byteCells]
    rw [hs]
    exact Src.ofString _ hk x
  | _=>exact h.elim
end
end Go.AM
