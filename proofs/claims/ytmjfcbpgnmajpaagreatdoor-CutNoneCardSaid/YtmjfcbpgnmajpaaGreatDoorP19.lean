/- The pieces of a tide: of the program. From where on a hull does not surely stand: of the program and of the document. Why and Show: of the program and of the document. Tasks of cuts: data, and the .. -/
import Derived.Test.YtmjfcbpgnmajpaaGreatDoorP18
import Derived.Test.YtmjfcbpgnmajpaaGreatDoorP16
namespace Go.AM
open Go.Proofs
set_option maxRecDepth 100000
set_option maxHeartbeats 1000000
def cJ (lo hi:Int):ab:=.agg [ii' lo,ii' hi]
theorem pN (h:aB) (lo hi:Int) (σ:af):Spec Tryz.prog C6 [h.v,cJ lo hi] σ fun r σ'=>r = .ret (.func (.func 193) [] [.pval (cJ lo hi), .pval h.v]) ∧ σ' = σ:=by
  refine Spec.ay (NQ (by simp) (dm _ ?_)) (by simp [h.pure]; rfl) (by simp [ab.pure,aM,h.pure,cJ]) σ
  simp [FV,aB.v,aB.cells,cJ]
theorem vn (h : aB) (hl : h.ps.length ≤ 10) (lo hi : Int) (hlh : lo ≤ hi) (b : Nat) (σ : af) (J : Int → af → Prop) (Stop : af → Prop)
    (hy:∀ d from_ to s tl,J d s → s.length = σ.length → d ≤ from_ → from_ ≤ d + 1 → lo ≤ from_ → from_ ≤ to → to ≤ hi → C5 h from_ to →
      aC Tryz.prog (.yieldf b) [cJ from_ to] (s ++ tl) fun r σ'=>∃ s' tl',σ' = s' ++ tl ++ tl' ∧ s'.length = σ.length ∧ ((r = .ret (.bool true) ∧ J to s') ∨ (r = .ret (.bool false) ∧ Stop s')))
    (h0:J (lo - 1) σ) :
    Spec Tryz.prog Ca [.yieldf b, .pval (cJ lo hi), .pval h.v] σ fun r σ'=>r = .ret (.tup []) ∧ ∃ s tl,σ' = s ++ tl ∧ s.length = σ.length ∧ (J hi s ∨ Stop s):=by
  refine Pp (by simp) (dm _ ?_)
  simp [FR,aB.v,aB.cells,cJ]
  refine AW.loop (ι:=Nat) (fun i fr σ1=>∃ l tl,fr = { v:=[(0, .yieldf b),(1, .pval (.agg [ii' lo,ii' hi])),(4, .sref 1 σ.length 0 l.length l.length),(15, .slice 7 (h.ps.map aq.v)),(16, .int .i64 h.ps.length),(17, .int .i64 i)],ds:=[] } ∧
      σ1 = σ ++ cU l :: tl ∧ i ≤ h.ps.length ∧ l.length ≤ i + 1 ∧ ∀ x,x ∈ l ↔ x = hi ∨ ∃ p ∈ h.ps.take i,p.keel = x ∧ lo < x ∧ x < hi) (fun i=>h.ps.length - i) 0 ⟨[hi],[],by simp,by simp [cU],by simp,by simp,by simp⟩ ?_
  rintro i fr σ1 ⟨l,tl,rfl,rfl,hi',hll,hm⟩
  refine (Nat.lt_or_ge i h.ps.length).elim (fun hlt=>?_) (fun hge=>?_)
  · obtain ⟨x,hx⟩:∃ x,h.ps[i] = x:=⟨_,rfl⟩
    have htk:∀ p,p ∈ h.ps.take (i + 1) ↔ p ∈ h.ps.take i ∨ p = x:=fun p=>by
      rw [List.take_add_one,List.mem_append]
      simp [hlt,hx,eq_comm]
    have hfit:Fits 1 [ii' x.keel]:=by intro v hv; simp at hv; subst hv; exact ⟨⟨rfl,rfl⟩,rfl⟩
    have hw:IntKind.i64.wrap ((i:Int) + 1) = (i:Int) + 1:=an (by omega) (by omega)
    refine dm _ ?_
    refine (Classical.em (lo < x.keel)).elim (fun h1=>?_) (fun h1=>?_)
    · refine (Classical.em (x.keel < hi)).elim (fun h2=>?_) (fun h2=>?_)
      · simp [hlt,hx,h1,h2,hw,hfit,aq.v,aq.cells,cU]
        rw [if_neg (by omega)]
        refine ⟨by omega,i + 1,by omega,l ++ [x.keel],by simp,by simp,by omega,by simp; omega,fun z=>?_⟩
        rw [List.mem_append,hm]
        constructor
        · rintro ((e | ⟨p,g1,g2⟩) | e)
          · exact .inl e
          · exact .inr ⟨p,(htk p).2 (.inl g1),g2⟩
          · simp at e
            exact .inr ⟨x,(htk x).2 (.inr rfl),e.symm,by omega,by omega⟩
        · rintro (e | ⟨p,g1,g2⟩)
          · exact .inl (.inl e)
          · rcases (htk p).1 g1 with g1 | g1
            · exact .inl (.inr ⟨p,g1,g2⟩)
            · subst g1; exact .inr (by simp [g2.1])
      · simp [hlt,hx,h1,h2,hw,aq.v,aq.cells,cU]
        refine ⟨i + 1,by omega,l,by simp,rfl,by omega,by omega,fun z=>?_⟩
        rw [hm]
        constructor
        · rintro (e | ⟨p,g1,g2⟩)
          · exact .inl e
          · exact .inr ⟨p,(htk p).2 (.inl g1),g2⟩
        · rintro (e | ⟨p,g1,g2⟩)
          · exact .inl e
          · rcases (htk p).1 g1 with g1 | g1
            · exact .inr ⟨p,g1,g2⟩
            · subst g1; omega
    · simp [hlt,hx,h1,hw,aq.v,aq.cells,cU]
      refine ⟨i + 1,by omega,l,by simp,rfl,by omega,by omega,fun z=>?_⟩
      rw [hm]
      constructor
      · rintro (e | ⟨p,g1,g2⟩)
        · exact .inl e
        · exact .inr ⟨p,(htk p).2 (.inl g1),g2⟩
      · rintro (e | ⟨p,g1,g2⟩)
        · exact .inl e
        · rcases (htk p).1 g1 with g1 | g1
          · exact .inr ⟨p,g1,g2⟩
          · subst g1; omega
  · have hnl:¬ i < h.ps.length:=by omega
    rw [List.take_of_length_le hge] at hm
    refine dm _ ?_
    simp [hnl]
    refine aj.spec OC (ve σ.length l (by omega) _ (by simp) (by simp)) ?_
    rintro r σ1 ⟨rfl,l',hp,hs,rfl⟩
    refine ⟨_,rfl, ?_⟩
    have hlen:l'.length = l.length:=hp.length_eq
    simp
    have hc:=vo σ.length l' (by omega) hs (σ ++ cU l' :: tl) (by simp) (by simp)
    rw [hlen] at hc
    refine aj.spec NL hc ?_
    rintro r σ1 ⟨c,z,⟨hc1,hc2⟩,hcl,hcz,rfl,rfl⟩
    refine ⟨_,rfl, ?_⟩
    have hm':∀ x,x ∈ c ↔ x = hi ∨ ∃ p ∈ h.ps,p.keel = x ∧ lo < x ∧ x < hi:=fun x=>by rw [hc2,hp.mem_iff,hm]
    obtain ⟨D,hD⟩:∃ D,c ++ z = D:=⟨_,rfl⟩
    rw [hD] at hcz ⊢
    have hclt:∀ i j (h1:i < j) (h2:j < c.length),c[i] < c[j]:=fun i j h1 h2=>List.pairwise_iff_getElem.1 hc1 i j (by omega) h2 h1
    simp
    refine AW.loop (ι:=Nat) (fun j fr σ2=>∃ from_ d s tl,fr = { v:=[(0, .yieldf b),(7,ii' from_),(44, .sref 1 σ.length 0 c.length l.length),(45, .int .i64 c.length),(46, .int .i64 j)],ds:=[] } ∧
      σ2 = s ++ cU D :: tl ∧ s.length = σ.length ∧ J d s ∧ j ≤ c.length ∧ (j = 0 → d = lo - 1 ∧ from_ = lo) ∧ (∀ k (hk:k < c.length),j = k + 1 → d = from_ ∧ from_ = c[k])) (fun j=>c.length - j) 0 ⟨lo,lo - 1,σ,tl,by simp,rfl,rfl,h0,by omega,fun _=>⟨rfl,rfl⟩,fun k _ e=>by omega⟩ ?_
    rintro j fr σ2 ⟨from_,d,s,tl,rfl,rfl,hsl,hJ,hj,hj0,hjs⟩
    refine (Nat.lt_or_ge j c.length).elim (fun hlt=>?_) (fun hge=>?_)
    · obtain ⟨to,hto⟩:∃ to,c[j] = to:=⟨_,rfl⟩
      have hto':(c ++ z)[j]? = some to:=by rw [List.getElem?_append_left hlt,List.getElem?_eq_getElem hlt,hto]
      rw [hD] at hto'
      have hDto:D[j]'(by omega) = to:=Option.some.inj ((List.getElem?_eq_getElem (by omega)).symm.trans hto')
      have hw:IntKind.i64.wrap ((j:Int) + 1) = ((j + 1:Nat):Int):=by rw [an (by omega) (by omega)]; simp
      have r1:j < l.length:=by omega
      have hmem:=(hm' to).1 (by rw [← hto]; exact List.getElem_mem _)
      have hb1:lo ≤ to ∧ to ≤ hi:=by
        rcases hmem with e | ⟨p,_,_,e⟩
        · omega
        · omega
      have hfl:lo ≤ from_ ∧ d ≤ from_ ∧ from_ ≤ d + 1 ∧ from_ ≤ to:=by
        rcases j with _ | k
        · obtain ⟨e1,e2⟩:=hj0 rfl
          omega
        · obtain ⟨e1,e2⟩:=hjs k (by omega) rfl
          have h1:=hclt k (k + 1) (by omega) hlt
          rw [hto] at h1
          have h2:=(hm' from_).1 (by rw [e2]; exact List.getElem_mem _)
          rcases h2 with e | ⟨p,_,_,e⟩ <;> omega
      have hev:C5 h from_ to:=fun p hp=>by
        by_cases hk:p.keel ≤ from_
        · exact .inl hk
        · right
          by_cases hk2:to ≤ p.keel
          · exact hk2
          · exfalso
            have hin:p.keel ∈ c:=(hm' _).2 (.inr ⟨p,hp,rfl,by omega,by omega⟩)
            obtain ⟨m,hm1,hm2⟩:=List.mem_iff_getElem.1 hin
            have hmj:m < j:=by
              rcases Nat.lt_or_ge m j with h' | h'
              · exact h'
              · rcases Nat.lt_or_ge j m with h'' | h''
                · have:=hclt j m h'' hm1; omega
                · have:m = j:=by omega
                  subst this; omega
            rcases j with _ | k
            · omega
            · obtain ⟨e1,e2⟩:=hjs k (by omega) rfl
              rcases Nat.lt_or_ge m k with h' | h'
              · have:=hclt m k h' (by omega); omega
              · have:m = k:=by omega
                subst this; omega
      refine dm _ ?_
      rw [← hsl]
      simp [hlt,cU,hcz,r1,hDto]
      refine (hy d from_ to s (cU D :: tl) hJ hsl hfl.2.1 hfl.2.2.1 hfl.1 hfl.2.2.2 hb1.2 hev).mono ?_
      rintro r σ' ⟨s',tl',rfl,hs',hr⟩
      rcases hr with ⟨rfl,hJ'⟩ | ⟨rfl,hS⟩
      · simp [hlt,cU,hcz,r1,hDto]
        refine ⟨j + 1,by omega,to,⟨rfl,hw⟩,to,s',⟨tl ++ tl',rfl⟩,by omega,hJ',by omega,by omega,fun k hk e=>?_⟩
        have:k = j:=by omega
        subst this
        exact ⟨rfl,hto.symm⟩
      · simp
        exact ⟨s',⟨_,rfl⟩,by omega, .inr hS⟩
    · have hnl:¬ j < c.length:=by omega
      refine dm _ ?_
      simp [hnl]
      refine ⟨s,⟨_,rfl⟩,hsl, .inl ?_⟩
      have hin:hi ∈ c:=(hm' hi).2 (.inl rfl)
      obtain ⟨m,hm1,hm2⟩:=List.mem_iff_getElem.1 hin
      rcases j with _ | k
      · omega
      · obtain ⟨e1,e2⟩:=hjs k (by omega) rfl
        have h1:=(hm' c[k]).1 (List.getElem_mem _)
        have:d = hi:=by
          rcases Nat.lt_or_ge m k with h' | h'
          · have:=hclt m k h' (by omega)
            rcases h1 with e | ⟨p,_,_,e⟩ <;> omega
          · have:m = k:=by omega
            subst this; omega
        rw [← this]; exact hJ
set_option maxRecDepth 100000
set_option maxHeartbeats 1000000
theorem sD {h:aB} (hf:nf h) {w:Int} (h0:0 ≤ w) (hw:w ≤ 1000):kB (bu h w 0) (bu h w 1) (bu h w 2) = eU h w:=by
  unfold eU; rw [tA hf h0 hw,tA hf h0 hw,tA hf h0 hw]
theorem nf.maxLen {h:aB} (hf:nf h):h.ps.length ≤ maxLen:=by have:=hf.len; simp only [Go.maxLen]; omega
def iD (h:aB) (lo hi:Int):Int × Int:=gD h lo (hi - lo + 1).toNat
theorem xq {h:aB} (hf:nf h) (w:Int) (σ:af):Spec Tryz.prog AJ [h.v,ii' w] σ fun r σ'=>r = .ret (qq (bu h w 0) (bu h w 1) (bu h w 2)) ∧ σ' = σ:=by
  have hb:Bounds h:=⟨⟨hf.aft,by have:=hf.lt; have:=hf.fore; omega⟩,⟨by have:=hf.lt; have:=hf.aft; omega,hf.fore⟩,fun p hp=>(hf.part p hp).at_⟩
  have:=nO h hf.len.2 w σ
  rw [Dz h hb w] at this
  exact this
theorem sA (h:aB) (hf:nf h) (lo hi:Int) (h0:0 ≤ lo) (h1:hi ≤ 1000) (σ:af) :
    Spec Tryz.prog CF [h.v,cJ lo hi] σ fun r σ'=>r = .ret (.tup [ii' (iD h lo hi).1,ii' (iD h lo hi).2]) ∧ σ' = σ:=by
  refine Spec.ay (M9 (by simp) (dm _ ?_)) (by simp [h.pure]; rfl) rfl σ
  simp [GV,aB.v,aB.cells,cJ]
  refine AW.loop (ι:=Nat) (fun i fr σ=>∃ w:Int,fr = { v:=[(2, .pval (.agg [.slice 7 (h.ps.map aq.v),ii' h.aft,ii' h.fore])),(3, .pval (.agg [ii' lo,ii' hi])),(6,ii' w)],ds:=[] } ∧ lo ≤ w ∧ iD h lo hi = gD h w (hi - w + 1).toNat ∧ i = (hi - w + 1).toNat) (fun i=>i) (hi - lo + 1).toNat ⟨lo,by simp,by omega,rfl,rfl⟩ ?_
  rintro i fr σ ⟨w,rfl,hlw,hfi,rfl⟩
  refine (Classical.em (w ≤ hi)).elim (fun hle=>?_) (fun hgt=>?_)
  · have hn:(hi - w + 1).toNat = (hi - (w + 1) + 1).toNat + 1:=by omega
    rw [hn] at hfi
    simp only [gD] at hfi
    have hpu:aM (h.ps.map aq.v) = true:=av (f:=aq.v) (fun _=>rfl) h.ps
    have hw:IntKind.i64.wrap (w + 1) = w + 1:=an (by omega) (by omega)
    refine dm _ ?_
    simp [hle]
    refine aj.pure J5 (xq hf w _) ?_
    simp [qq]
    refine aj.aD JP (ky _ _ _ _) (congrArg ii' (sD hf (by omega) (by omega))) ?_
    refine (Classical.em (eU h w = 0)).elim (fun hz=>?_) (fun hz=>?_)
    · rw [if_pos hz] at hfi
      simp [hz,hw]
      exact ⟨_,by omega,by omega,hfi,rfl⟩
    · rw [if_neg hz] at hfi
      simp [hz,hfi]
  · have hn:(hi - w + 1).toNat = 0:=by omega
    rw [hn] at hfi
    refine dm _ ?_
    simp [hgt,hfi,gD]
theorem pE (h:aB) (hf:nf h) (lo hi:Int) (h0:0 ≤ lo) (hlh:lo ≤ hi) (h1:hi ≤ 1000) (σ:af) :
    Spec Tryz.prog HG [h.v,cJ lo hi] σ fun r σ'=>r = .ret (.tup [ii' (iD h lo hi).1,ii' (iD h lo hi).2]) ∧ σ' = σ:=by
  refine Spec.ay (Qm (by simp) (dm _ ?_)) (by simp [h.pure]; rfl) rfl σ
  simp [LA,aB.v,aB.cells,cJ]
  refine AW.scope ?_
  refine dm _ ?_
  simp
  refine aj.pure LC (pN h lo hi _) ?_
  simp
  refine AW.bF (by simp) fun asg' body' ca cb hps=>?_
  change cR Tryz.prog (ab.func (Fn.func 193) [] [(cJ lo hi).pval,h.v.pval]) [ab.yieldf 3] [bo.box [ii' 0],bo.box [ii' 0], .dfr, .looprec 54 [(2,h.v.pval),(4,ab.ptr 0 0),(5,ab.ptr 1 0),(12,ab.func (Fn.func 193) [] [(cJ lo hi).pval,h.v.pval])] [13] asg' body' 2 .ready none] (fH 3 _ _)
  refine cR.func KW ((vn h hf.len.2 lo hi hlh 3 [bo.box [ii' 0],bo.box [ii' 0], .dfr, .looprec 54 [(2,h.v.pval),(4,ab.ptr 0 0),(5,ab.ptr 1 0),(12,ab.func (Fn.func 193) [] [(cJ lo hi).pval,h.v.pval])] [13] asg' body' 2 .ready none]
    (fun d s=>(∃ a b,s = [.box [ii' a], .box [ii' b], .dfr, .looprec 54 [(2,h.v.pval),(4,ab.ptr 0 0),(5,ab.ptr 1 0),(12,ab.func (Fn.func 193) [] [(cJ lo hi).pval,h.v.pval])] [13] asg' body' 2 .ready none]) ∧ ∀ w,lo ≤ w → w ≤ d → eU h w = 0)
    (fun s=>∃ w0,s = [.box [ii' (eU h w0)], .box [ii' w0], .dfr, .looprec 54 [(2,h.v.pval),(4,ab.ptr 0 0),(5,ab.ptr 1 0),(12,ab.func (Fn.func 193) [] [(cJ lo hi).pval,h.v.pval])] [13] asg' body' 2 .done (some .ret)] ∧ lo ≤ w0 ∧ w0 ≤ hi ∧ eU h w0 ≠ 0 ∧ ∀ w,lo ≤ w → w < w0 → eU h w = 0) ?_ ?_).mono ?_)
  · rintro d from_ to s tl ⟨⟨a,b,rfl⟩,hd⟩ hsl hdf hfd hlf hft hto hev
    refine aC.round (e:=[(2,h.v.pval),(4,ab.ptr 0 0),(5,ab.ptr 1 0),(12,ab.func (Fn.func 193) [] [(cJ lo hi).pval,h.v.pval])]) (D:=2) (pend:=none) ca cb hps (by simp) rfl ?_
    refine dm _ ?_
    simp [cM,cJ]
    refine ⟨_,_,_,_,_,_,_,⟨rfl,rfl,rfl,rfl,rfl,rfl,rfl⟩, ?_⟩
    refine dm _ ?_
    simp [aB.v,aB.cells]
    refine aj.pure A1 (dO h hf.maxLen from_ _) ?_
    simp [qq]
    refine aj.aD z8 (eY _ _ _ _) (congrArg ii' (sD hf (by omega) (by omega))) ?_
    refine (Classical.em (eU h from_ = 0)).elim (fun hz=>?_) (fun hz=>?_)
    rotate_left
    · simp [hz,aB.v,aB.cells]
      exact ⟨_,_,_,_,_,_,_,_,rfl,[_,_,_,_],⟨_,rfl⟩,rfl, .inr ⟨rfl,from_,rfl,hlf,by omega,hz,fun w g1 g2=>hd w g1 (by omega)⟩⟩
    simp [hz,aB.v,aB.cells]
    refine aj.pure A1 (dO h hf.maxLen to _) ?_
    simp [qq]
    refine aj.aD z8 (eY _ _ _ _) (congrArg ii' (sD hf (by omega) (by omega))) ?_
    refine (Classical.em (eU h to = 0)).elim (fun hz2=>?_) (fun hz2=>?_)
    · simp [hz2,aB.v,aB.cells]
      refine ⟨_,_,_,_,_,_,_,_,rfl,[_,_,_,_],⟨_,rfl⟩,rfl, .inl ⟨rfl,⟨_,_,rfl⟩,fun w g1 g2=>?_⟩⟩
      by_cases hwd:w ≤ d
      · exact hd w g1 hwd
      · exact qw hev (Int.le_refl _) (by omega) g2 (Int.le_refl _) hz hz2
    simp [hz2,aB.v,aB.cells]
    have hne:from_ ≠ to:=fun e=>hz2 (e ▸ hz)
    clear ca cb
    refine AW.loop (ι:=Nat) (fun i fr σ1=>∃ l1 l2 a b:Int,fr = { v:=[(2, .pval (.agg [.slice 7 (h.ps.map aq.v),ii' h.aft,ii' h.fore])),(4, .ptr 0 0),(5, .ptr 1 0),(7,ii' l1),(8,ii' l2)],ds:=[] } ∧
      σ1 = [.box [ii' a], .box [ii' b], .dfr, .looprec 54 [(2, .pval (.agg [.slice 7 (h.ps.map aq.v),ii' h.aft,ii' h.fore])),(4,ab.ptr 0 0),(5,ab.ptr 1 0),(12,ab.func (Fn.func 193) [] [(ab.agg [ii' lo,ii' hi]).pval, .pval (.agg [.slice 7 (h.ps.map aq.v),ii' h.aft,ii' h.fore])])] [13] asg' body' 2 .busy none] ++ (tl ++ [.box [ii' from_,ii' to]]) ∧
      from_ ≤ l1 ∧ l1 < l2 ∧ l2 ≤ to ∧ eU h l1 = 0 ∧ eU h l2 ≠ 0 ∧ i = (l2 - l1).toNat) (fun i=>i) (to - from_).toNat ⟨from_,to,_,_,by simp,rfl,by omega,by omega,by omega,hz,hz2,rfl⟩ ?_
    rintro i fr σ1 ⟨l1,l2,a,b,rfl,rfl,g1,g2,g3,g4,g5,rfl⟩
    have hw1:IntKind.i64.wrap (l2 - l1) = l2 - l1:=an (by omega) (by omega)
    refine (Classical.em (1 < l2 - l1)).elim (fun hlt=>?_) (fun hge=>?_)
    · have hw2:IntKind.i64.wrap (l1 + l2) = l1 + l2:=an (by omega) (by omega)
      have hq:(l1 + l2).tdiv 2 = (l1 + l2) / 2:=Int.tdiv_eq_ediv_of_nonneg (by omega)
      obtain ⟨mid,hmid⟩:∃ mid,(l1 + l2) / 2 = mid:=⟨_,rfl⟩
      have hw3:IntKind.i64.wrap mid = mid:=an (by omega) (by omega)
      refine dm _ ?_
      simp [hw1,hw2,hq,hmid,hw3,hlt]
      refine aj.pure A1 (dO h hf.maxLen mid _) ?_
      simp [qq]
      refine aj.aD z8 (eY _ _ _ _) (congrArg ii' (sD hf (by omega) (by omega))) ?_
      refine (Classical.em (eU h mid = 0)).elim (fun hz3=>?_) (fun hz3=>?_)
      · simp [hz3,hw2,hq,hmid,hw3]
        exact ⟨_,by omega,mid,l2,⟨rfl,rfl⟩,by omega,by omega,by omega,hz3,g5,rfl⟩
      · simp [hz3,hw2,hq,hmid,hw3]
        exact ⟨_,by omega,l1,mid,⟨rfl,rfl⟩,by omega,by omega,by omega,g4,hz3,rfl⟩
    · refine dm _ ?_
      simp [hw1,hge]
      refine aj.pure A1 (dO h hf.maxLen l2 _) ?_
      simp [qq]
      refine aj.aD z8 (eY _ _ _ _) (congrArg ii' (sD hf (by omega) (by omega))) ?_
      simp
      refine ⟨_,_,_,_,_,_,_,_,rfl,[_,_,_,_],⟨_,rfl⟩,rfl, .inr ⟨rfl,l2,rfl,by omega,by omega,g5,fun w k1 k2=>?_⟩⟩
      by_cases hwd:w ≤ d
      · exact hd w k1 hwd
      · exact qw hev (Int.le_refl _) (by omega) (by omega:w ≤ l1) (by omega) hz g4
  · exact ⟨⟨0,0,rfl⟩,fun w _ _=>by omega⟩
  · rintro r σ' ⟨rfl,s,tl,rfl,hs,hJ | hS⟩
    · obtain ⟨⟨a,b,rfl⟩,hJ⟩:=hJ
      have hfi:iD h lo hi = (0,0):=kT _ _ fun w g1 g2=>hJ w g1 (by omega)
      refine ⟨_,_,_,_,_,_,_,_,rfl,by simp, ?_⟩
      simp [hfi]
    · obtain ⟨w0,rfl,g1,g2,g3,g4⟩:=hS
      have hfi:iD h lo hi = (eU h w0,w0):=qm _ _ w0 g1 (by omega) g3 g4
      refine ⟨_,_,_,_,_,_,_,_,rfl,by simp, ?_⟩
      simp [hfi]
set_option maxRecDepth 100000
set_option maxHeartbeats 1000000
theorem kR (lo hi:Int):bc (lo,hi) 0 1000 = if aW 0 1000 [lo,hi] then 7 else if hi < lo then 2 else 0:=by
  unfold bc
  simp only [aW,rF,List.any_cons,List.any_nil,Bool.or_false,Bool.not_not]
theorem dU {lo hi:Int} (h:bc (lo,hi) 0 1000 = 0):0 ≤ lo ∧ lo ≤ hi ∧ hi ≤ 1000:=by
  rw [kR] at h
  split at h
  · cases h
  · rename_i h1
    split at h
    · cases h
    · simp [aW,gA] at h1
      omega
theorem pq (lo hi:Int) (σ:af):Spec Tryz.prog Il [cJ lo hi] σ fun r σ'=>r = .ret (ii' (bc (lo,hi) 0 1000)) ∧ σ' = σ:=by
  refine Spec.ay (RR (by simp) (dm _ ?_)) rfl rfl σ
  have hs:=kR lo hi
  simp [Ky,cJ]
  refine (tf (aW 0 1000 [lo,hi])).elim (fun h1=>?_) (fun h1=>?_)
  · refine aj.aD nS (aQ 0 1000 [lo,hi] (by simp [maxLen]) _) (congrArg ab.bool h1) ?_
    rw [h1] at hs
    refine (Classical.em (hi < lo)).elim (fun h2=>?_) (fun h2=>?_)
    · simp [hs,h2]
    · simp [hs,h2]
  · refine aj.aD nS (aQ 0 1000 [lo,hi] (by simp [maxLen]) _) (congrArg ab.bool h1) ?_
    rw [h1] at hs
    simp [hs]
theorem Tl (e lo hi:Int) (σ:af):Spec Tryz.prog DB [ii' e,cJ lo hi] σ fun r σ'=>r = .ret (ii' (if e = 0 then bc (lo,hi) 0 1000 else e)) ∧ σ' = σ:=by
  refine Spec.ay (O9 (by simp) (dm _ ?_)) rfl rfl σ
  refine (Classical.em (e = 0)).elim (fun h=>?_) (fun h=>?_)
  · simp [Ep,cJ,h]
    refine aj.pure Ad (e9 lo hi 0 1000 _) ?_
    simp
  · simp [Ep,cJ,h]
def gi (h:aB) (lo hi:Int):Int × Int × Int:=
  if eF h ≠ 0 then (0,0,eF h) else if bc (lo,hi) 0 1000 ≠ 0 then (0,0,bc (lo,hi) 0 1000) else ((iD h lo hi).1,(iD h lo hi).2,0)
theorem kV (h:aB) (hl:h.ps.length ≤ maxLen) (lo hi:Int) (σ:af):Spec Tryz.prog II [h.v,cJ lo hi] σ fun r σ'=>r = .ret (aS (gi h lo hi)) ∧ σ' = σ:=by
  refine Spec.ay (Rl (by simp) (dm _ ?_)) (by simp [h.pure]; rfl) rfl σ
  simp [LL,aB.v,aB.cells,cJ]
  refine aj.pure MG (jS h hl _) ?_
  refine (Classical.em (eF h = 0)).elim (fun he=>?_) (fun he=>?_)
  rotate_left
  · have he':¬ (dk h).2.2 = 0:=he
    simp [aS,he',gi,he]
    rfl
  have he':(dk h).2.2 = 0:=he
  simp [aS,he']
  refine aj.pure Sp (pq lo hi _) ?_
  refine (Classical.em (bc (lo,hi) 0 1000 = 0)).elim (fun hs=>?_) (fun hs=>?_)
  rotate_left
  · simp [hs,gi,he,aS]
  have hb:=dU hs
  simp [hs]
  refine aj.pure RE (pE h (rn he) lo hi hb.1 hb.2.1 hb.2.2 _) ?_
  simp [gi,he,hs,aS]
theorem nH (h:aB) (hl:h.ps.length ≤ maxLen) (lo hi:Int) (σ:af):Spec Tryz.prog Hu [h.v,cJ lo hi] σ fun r σ'=>r = .ret (aS (gi h lo hi)) ∧ σ' = σ:=by
  refine Spec.ay (SE (by simp) (dm _ ?_)) (by simp [h.pure]; rfl) rfl σ
  simp [LB,aB.v,aB.cells,cJ]
  refine aj.aD Ni (lj h hl _) (show mw (gC h) = .tup [ii' (dk h).1,ii' (dk h).2.1,ii' (eF h)] by rw [← yo]; rfl) ?_
  simp
  refine aj.pure O8 (Tl _ lo hi _) ?_
  refine (Classical.em (eF h = 0)).elim (fun he=>?_) (fun he=>?_)
  rotate_left
  · simp [he,gi,aS]
  refine (Classical.em (bc (lo,hi) 0 1000 = 0)).elim (fun hs=>?_) (fun hs=>?_)
  rotate_left
  · simp [hs,gi,he,aS]
  have hb:=dU hs
  simp [hs,he]
  refine aj.pure Jp (sA h (rn he) lo hi hb.1 hb.2.2 _) ?_
  simp [gi,he,hs,aS]
set_option maxRecDepth 100000
set_option maxHeartbeats 1000000
structure ah where
  ar:List HuM
  hull:aB
  lo:Int
  hi:Int
  net:br
  blanks:List Int
  steps:List a7
  tanks:List (List Int)
def cj (l:List Int):ab:=.slice 1 (l.map ii')
def ah.cells (t:ah):List ab:=[.slice 7 (t.ar.map HuM.v), .slice 7 (t.hull.ps.map aq.v),ii' t.hull.aft,ii' t.hull.fore,ii' t.lo,ii' t.hi, .slice 2 (t.net.tanks.map aE.v), .slice 3 (t.net.pipes.map aG.v), .slice 1 (t.blanks.map ii'), .slice 2 (t.steps.map a7.v), .slice 1 (t.tanks.map cj)]
def ah.v (t:ah):ab:=.agg t.cells
theorem zN (l:List Int):(cj l).pure = true:=by simp [cj,ab.pure,av (f:=ii') (fun _=>rfl)]
theorem ah.pure (t:ah):t.v.pure = true:=by
  simp [ah.v,ah.cells,ab.pure,aM,av (f:=ii') (fun _=>rfl),av (f:=HuM.v) (fun p=>p.pure),av (f:=aq.v) (fun _=>rfl),av (f:=aE.v) (fun p=>p.pure),av (f:=aG.v) (fun _=>rfl),av (f:=a7.v) (fun p=>p.pure),av (f:=cj) zN]
structure ah.Ok (t:ah):Prop where
  ar:DL t.ar
  hull:t.hull.ps.length ≤ maxLen
  tk:t.net.tanks.length ≤ maxLen
  pp:t.net.pipes.length ≤ maxLen
  bl:t.blanks.length ≤ maxLen
  st:t.steps.length ≤ maxLen
  tl:t.tanks.length ≤ maxLen
  tls:∀ l ∈ t.tanks,l.length ≤ maxLen
def eI:List HuM → List aq → Nat → Int × Int × Int
  | x :: r,y :: s,i=>if y.name.toList = x.name.toList then eI r s (i + 1) else (2,i,4)
  | _,_,_=>(0,0,0)
abbrev qB (m:Int) (l:List Int):Int:=dK m (fun _=>false) l l 0
def jn (m:Int):List (List Int) → Nat → Int × Int × Int
  | [],_=>(0,0,0)
  | l :: r,i=>if qB m l ≠ 0 then (5,i,qB m l) else jn m r (i + 1)
def aN (t:ah):Int × Int × Int:=
  if (fY t.ar).2.2 ≠ 0 then (1,(fY t.ar).2.1,(fY t.ar).2.2)
  else if eF t.hull ≠ 0 then (2,0,eF t.hull)
  else if t.hull.ps.length ≠ t.ar.length ∨ 7 < t.ar.length then (2,0,3)
  else if (eI t.ar t.hull.ps 0).1 ≠ 0 then eI t.ar t.hull.ps 0
  else if (gi t.hull t.lo t.hi).2.2 ≠ 0 then (3,0,(gi t.hull t.lo t.hi).2.2)
  else if (du t.net t.blanks t.steps).1 ≠ 0 then (4,0,(du t.net t.blanks t.steps).1)
  else if t.tanks.length ≠ t.ar.length then (5,0,3)
  else jn t.net.tanks.length t.tanks 0
def vN (r:Int × Nat × Nat):ab:=if r.1 = 0 then .agg [.slice 1 ((mz r.2.1).map ii'), .slice 1 ((mz r.2.2).map ii')] else .agg [.slice 1 [], .slice 1 []]
theorem lP (r:Int × Nat × Nat):kY r = .tup [vN r,ii' r.1]:=by
  unfold kY vN
  split
  · rename_i h; rw [h]
  · rfl
set_option maxRecDepth 100000
set_option maxHeartbeats 1000000
theorem oe (n m:Int) (σ:af):Spec Tryz.prog B4 [ii' n, .pval (ii' m)] σ fun r σ'=>r = .ret (.bool (cO m n)) ∧ σ' = σ:=by
  refine Spec.ay (OA (by simp) (dm _ ?_)) rfl rfl σ
  simp [Gn,cO]
theorem cw (m:Int) (l:List Int) (hl:l.length ≤ maxLen) (σ:af) :
    Spec Tryz.prog Hp [ii' m, .slice 1 (l.map ii')] σ fun r σ'=>r = .ret (.bool (l.any (cO m))) ∧ σ' = σ:=by
  refine Spec.ay (Sv (by simp) (dm _ ?_)) (by simp [av (f:=ii') (fun _=>rfl)]) rfl σ
  simp [J3]
  refine aj.pure uw (bj _ _ (by simp [aM,ab.pure]) (cO m) l hl (fun x _=>ck.fn Mw (fun σ=>oe x m σ)) _) ?_
  simp
abbrev EK:TypeId:=81
def tD (p a e:Int):ab:=.iface EK (.agg [ii' p,ii' a,ii' e])
theorem bn (p a e:Int) (σ:af):Spec Tryz.prog IJ [ii' p,ii' a,ii' e] σ fun r σ'=>r = (if e = 0 then .ret (.tup []) else .pan (tD p a e)) ∧ σ' = σ:=by
  refine R8 (by simp) (dm _ ?_)
  by_cases h:e = 0
  · simp [I4,h]
  · simp [I4,h,tD]
theorem o7 (a b c:Nat) (σ:af):gV Tryz.prog v5 [.ptr a 0, .ptr b 0, .ptr c 0] σ .none fun m σ'=>m = .none ∧ σ' = σ:=by
  refine LP (by simp) (dm _ ?_)
  simp [EY,PM.after]
theorem qS (p q e x y z:Int) (tl:af) :
    gV Tryz.prog v5 [.ptr 0 0, .ptr 1 0, .ptr 2 0] (.box [ii' x] :: .box [ii' y] :: .box [ii' z] :: tl) (.pan (tD p q e)) fun m σ'=>(∃ v,m = .recd v) ∧ ∃ tl,σ' = .box [ii' p] :: .box [ii' q] :: .box [ii' e] :: tl:=by
  refine LP (by simp) (dm _ ?_)
  simp [EY,PM.after,tD]
theorem p8 (p q e x y z:Int) (tl:af) {R:PM → af → Prop} (h:∀ v tl,R (.recd v) (.box [ii' p] :: .box [ii' q] :: .box [ii' e] :: tl)) :
    ak Tryz.prog v5 = true ∧ gV Tryz.prog v5 [.ptr 0 0, .ptr 1 0, .ptr 2 0] (.box [ii' x] :: .box [ii' y] :: .box [ii' z] :: tl) (.pan (tD p q e)) R:=
  ⟨J4,(qS p q e x y z tl).mono (by rintro m σ' ⟨⟨v,rfl⟩,tl,rfl⟩; exact h v tl)⟩
theorem tB (t:ah) (hok:t.Ok) (σ:af):Spec Tryz.prog Ir [t.v] σ fun r σ'=>r = .ret (aS (aN t)) ∧ σ' = σ:=by
  refine Spec.ay (So (by simp) (dm _ ?_)) (by simp [aM,t.pure]) rfl σ
  have hq1:=fun σ=>qP t.ar hok.ar σ
  have hq2:∀ σ,Spec Tryz.prog Fm [t.hull.v] σ fun r σ'=>r = .ret (.tup [ii' (dk t.hull).1,ii' (dk t.hull).2.1,ii' (eF t.hull)]) ∧ σ' = σ:=fun σ=>jS t.hull hok.hull σ
  have hq3:=fun σ=>kV t.hull hok.hull t.lo t.hi σ
  have hq4:=fun σ=>kr t.net t.blanks t.steps hok.tk hok.pp hok.bl σ
  rw [lP] at hq4
  obtain ⟨c,hc⟩:∃ c,aN t = c:=⟨_,rfl⟩
  have hc':=hc
  unfold aN at hc'
  rw [hc]
  simp [Is,ah.v,ah.cells]
  refine aj.pure Qp (hq1 _) ?_
  simp [aS]
  refine (Classical.em ((fY t.ar).2.2 = 0)).elim (fun h1=>?_) (fun h1=>?_)
  rotate_left
  · rw [if_pos h1] at hc'
    refine aj.sR pI (bn _ _ _ _) (if_neg h1) ?_
    simp
    refine p8 _ _ _ _ _ _ _ fun v tl=>?_
    simp
    rw [← hc']; rfl
  rw [if_neg (by simp [h1])] at hc'
  refine aj.A2 pI (bn _ _ _ _) (if_pos h1) ?_
  simp
  refine aj.pure MG (hq2 _) ?_
  simp
  refine (Classical.em (eF t.hull = 0)).elim (fun h2=>?_) (fun h2=>?_)
  rotate_left
  · rw [if_pos h2] at hc'
    refine aj.sR pI (bn _ _ _ _) (if_neg h2) ?_
    simp
    refine p8 _ _ _ _ _ _ _ fun v tl=>?_
    simp
    rw [← hc']; rfl
  rw [if_neg (by simp [h2])] at hc'
  refine aj.A2 pI (bn _ _ _ _) (if_pos h2) ?_
  simp
  refine ⟨fun h3=>?_,fun h3 h4=>?_⟩
  · rw [if_pos (by omega)] at hc'
    refine aj.sR pI (bn 2 0 3 _) (if_neg (by omega)) ?_
    simp
    refine p8 _ _ _ _ _ _ _ fun v tl=>?_
    simp
    rw [← hc']; rfl
  have hlen:t.hull.ps.length = t.ar.length:=by omega
  rw [if_neg (by omega)] at hc'
  refine AW.loop (ι:=Nat) (fun i fr σ'=>∃ x y z tl,fr = { v:=[(1, .pval (.agg [.slice 7 (t.ar.map HuM.v), .slice 7 (t.hull.ps.map aq.v),ii' t.hull.aft,ii' t.hull.fore,ii' t.lo,ii' t.hi, .slice 2 (t.net.tanks.map aE.v), .slice 3 (t.net.pipes.map aG.v), .slice 1 (t.blanks.map ii'), .slice 2 (t.steps.map a7.v), .slice 1 (t.tanks.map cj)])),(2, .ptr 0 0),(3, .ptr 1 0),(4, .ptr 2 0),(5, .int .i64 t.ar.length),(50, .slice 7 (t.ar.map HuM.v)),(51, .int .i64 t.ar.length),(52, .int .i64 i)],ds:=[.fn (.func (.func v5) [] [.ptr 0 0, .ptr 1 0, .ptr 2 0]) []] } ∧
    σ' = .box [ii' x] :: .box [ii' y] :: .box [ii' z] :: tl ∧ i ≤ t.ar.length ∧ eI t.ar t.hull.ps 0 = eI (t.ar.drop i) (t.hull.ps.drop i) i) (fun i=>t.ar.length - i) 0 ⟨_,_,_,_,by simp,rfl,by omega,rfl⟩ ?_
  rintro i fr σ' ⟨x0,y0,z0,tl,rfl,rfl,hi,hnm⟩
  refine (Nat.lt_or_ge i t.ar.length).elim (fun hlt=>?_) (fun hge=>?_)
  · have hlt2:i < t.hull.ps.length:=by omega
    have hd:t.ar.drop i = t.ar[i] :: t.ar.drop (i + 1):=List.drop_eq_getElem_cons hlt
    have hd2:t.hull.ps.drop i = t.hull.ps[i] :: t.hull.ps.drop (i + 1):=List.drop_eq_getElem_cons hlt2
    obtain ⟨x,hx⟩:∃ x,t.ar[i] = x:=⟨_,rfl⟩
    obtain ⟨y,hy⟩:∃ y,t.hull.ps[i] = y:=⟨_,rfl⟩
    rw [hd,hd2,hx,hy] at hnm
    simp only [eI] at hnm
    have hw1:IntKind.i64.wrap ((i:Int) + 1) = ((i + 1:Nat):Int):=by rw [an (by omega) (by omega)]; simp
    refine dm _ ?_
    simp [hlt,hlt2,hx,hy,HuM.v,HuM.cells,aq.v,aq.cells]
    refine ⟨fun h5=>?_,fun h5=>?_⟩
    rotate_left
    · exact ⟨i + 1,by omega,hw1,by omega,by rw [hnm,if_pos h5]⟩
    rw [if_neg h5] at hnm
    rw [hnm,if_pos (by simp)] at hc'
    refine aj.sR pI (bn 2 i 4 _) (if_neg (by omega)) ?_
    simp
    refine p8 _ _ _ _ _ _ _ fun v tl=>?_
    simp
    rw [← hc']; rfl
  have hnl:¬ i < t.ar.length:=by omega
  have hz:t.ar.drop i = []:=List.drop_eq_nil_of_le hge
  rw [hz] at hnm
  replace hnm:eI t.ar t.hull.ps 0 = (0,0,0):=hnm
  rw [hnm,if_neg (by simp)] at hc'
  refine dm _ ?_
  simp [hnl]
  refine aj.pure NS (hq3 _) ?_
  simp [aS]
  refine (Classical.em ((gi t.hull t.lo t.hi).2.2 = 0)).elim (fun h5=>?_) (fun h5=>?_)
  rotate_left
  · rw [if_pos h5] at hc'
    refine aj.sR pI (bn 3 0 _ _) (if_neg h5) ?_
    simp
    refine p8 _ _ _ _ _ _ _ fun v tl=>?_
    simp
    rw [← hc']; rfl
  rw [if_neg (by simp [h5])] at hc'
  refine aj.A2 pI (bn 3 0 _ _) (if_pos h5) ?_
  simp
  refine aj.pure JC (hq4 _) ?_
  simp
  refine (Classical.em ((du t.net t.blanks t.steps).1 = 0)).elim (fun h6=>?_) (fun h6=>?_)
  rotate_left
  · rw [if_pos h6] at hc'
    refine aj.sR pI (bn 4 0 _ _) (if_neg h6) ?_
    simp
    refine p8 _ _ _ _ _ _ _ fun v tl=>?_
    simp
    rw [← hc']; rfl
  rw [if_neg (by simp [h6])] at hc'
  refine aj.A2 pI (bn 4 0 _ _) (if_pos h6) ?_
  simp
  refine ⟨fun h7=>?_,fun h7=>?_⟩
  · rw [if_pos (by omega)] at hc'
    refine aj.sR pI (bn 5 0 3 _) (if_neg (by omega)) ?_
    simp
    refine p8 _ _ _ _ _ _ _ fun v tl=>?_
    simp
    rw [← hc']; rfl
  have hlen2:t.tanks.length = t.ar.length:=by omega
  rw [if_neg (by omega)] at hc'
  refine AW.loop (ι:=Nat) (fun i fr σ'=>∃ x y z tl,fr = { v:=[(1, .pval (.agg [.slice 7 (t.ar.map HuM.v), .slice 7 (t.hull.ps.map aq.v),ii' t.hull.aft,ii' t.hull.fore,ii' t.lo,ii' t.hi, .slice 2 (t.net.tanks.map aE.v), .slice 3 (t.net.pipes.map aG.v), .slice 1 (t.blanks.map ii'), .slice 2 (t.steps.map a7.v), .slice 1 (t.tanks.map cj)])),(2, .ptr 0 0),(3, .ptr 1 0),(4, .ptr 2 0),(100, .slice 1 (t.tanks.map cj)),(101, .int .i64 t.tanks.length),(102, .int .i64 i)],ds:=[.fn (.func (.func v5) [] [.ptr 0 0, .ptr 1 0, .ptr 2 0]) []] } ∧
    σ' = .box [ii' x] :: .box [ii' y] :: .box [ii' z] :: tl ∧ i ≤ t.tanks.length ∧ jn t.net.tanks.length (t.tanks.drop i) i = c) (fun i=>t.tanks.length - i) 0 ⟨_,_,_,_,by simp,rfl,by omega,hc'⟩ ?_
  rintro i fr σ' ⟨x1,y1,z1,tl1,rfl,rfl,hi,hls⟩
  refine (Nat.lt_or_ge i t.tanks.length).elim (fun hlt=>?_) (fun hge=>?_)
  rotate_left
  · have hnl:¬ i < t.tanks.length:=by omega
    have hz:t.tanks.drop i = []:=List.drop_eq_nil_of_le hge
    rw [hz] at hls
    refine dm _ ?_
    simp [hnl]
    refine ⟨J4,(o7 _ _ _ _).mono ?_⟩
    rintro m' σ' ⟨rfl,rfl⟩
    simp
    rw [← hls]; rfl
  have hd:t.tanks.drop i = t.tanks[i] :: t.tanks.drop (i + 1):=List.drop_eq_getElem_cons hlt
  obtain ⟨l,hl⟩:∃ l,t.tanks[i] = l:=⟨_,rfl⟩
  have hll:=hok.tls l (hl ▸ List.getElem_mem _)
  rw [hd,hl] at hls
  simp only [jn] at hls
  have hw1:IntKind.i64.wrap ((i:Int) + 1) = ((i + 1:Nat):Int):=by rw [an (by omega) (by omega)]; simp
  refine dm _ ?_
  simp [hlt,hl,cj]
  refine AW.loop (ι:=Nat) (fun k fr σ'=>∃ x y z tl,fr = { v:=[(1, .pval (.agg [.slice 7 (t.ar.map HuM.v), .slice 7 (t.hull.ps.map aq.v),ii' t.hull.aft,ii' t.hull.fore,ii' t.lo,ii' t.hi, .slice 2 (t.net.tanks.map aE.v), .slice 3 (t.net.pipes.map aG.v), .slice 1 (t.blanks.map ii'), .slice 2 (t.steps.map a7.v), .slice 1 (t.tanks.map cj)])),(2, .ptr 0 0),(3, .ptr 1 0),(4, .ptr 2 0),(8, .int .i64 i),(9, .slice 1 (l.map ii')),(100, .slice 1 (t.tanks.map cj)),(101, .int .i64 t.tanks.length),(102, .int .i64 i),(107, .slice 1 (l.map ii')),(108, .int .i64 l.length),(109, .int .i64 k)],ds:=[.fn (.func (.func v5) [] [.ptr 0 0, .ptr 1 0, .ptr 2 0]) []] } ∧
    σ' = .box [ii' x] :: .box [ii' y] :: .box [ii' z] :: tl ∧ k ≤ l.length ∧ qB t.net.tanks.length l = dK t.net.tanks.length (fun _=>false) l (l.drop k) k) (fun k=>l.length - k) 0 ⟨_,_,_,_,by simp,rfl,by omega,rfl⟩ ?_
  rintro k fr σ' ⟨x2,y2,z2,tl2,rfl,rfl,hk,hle⟩
  refine (Nat.lt_or_ge k l.length).elim (fun hkl=>?_) (fun hkg=>?_)
  rotate_left
  · have hnl:¬ k < l.length:=by omega
    have hz:l.drop k = []:=List.drop_eq_nil_of_le hkg
    rw [hz] at hle
    replace hle:qB t.net.tanks.length l = 0:=hle
    rw [if_neg (by simp [hle])] at hls
    refine dm _ ?_
    simp [hnl]
    exact ⟨i + 1,by omega,hw1,by omega,hls⟩
  have hdk:l.drop k = l[k] :: l.drop (k + 1):=List.drop_eq_getElem_cons hkl
  obtain ⟨b,hb⟩:∃ b,l[k] = b:=⟨_,rfl⟩
  rw [hdk,hb] at hle
  simp only [dK] at hle
  refine dm _ ?_
  simp [hkl,hb]
  refine (tf (cO t.net.tanks.length b)).elim (fun h8=>?_) (fun h8=>?_)
  rotate_left
  · refine aj.aD Bx (cw t.net.tanks.length [b] (by simp [maxLen]) _) (congrArg ab.bool (show [b].any (cO t.net.tanks.length) = true by simp [h8])) ?_
    rw [if_pos h8] at hle
    rw [if_pos (by rw [hle]; simp),hle] at hls
    simp
    refine aj.sR pI (bn 5 i 4 _) (if_neg (by omega)) ?_
    simp
    refine p8 _ _ _ _ _ _ _ fun v tl=>?_
    simp
    rw [← hls]; rfl
  refine aj.aD Bx (cw t.net.tanks.length [b] (by simp [maxLen]) _) (congrArg ab.bool (show [b].any (cO t.net.tanks.length) = false by simp [h8])) ?_
  rw [if_neg (by simp [h8])] at hle
  refine (Nat.eq_zero_or_pos k).elim (fun h0=>?_) (fun h0=>?_)
  · subst h0
    rw [if_neg (by simp)] at hle
    have hw0:IntKind.i64.wrap (-1) = -1:=by decide
    simp [hw0,hkl,hb]
    exact ⟨1,by omega,rfl,by omega,by simpa using hle⟩
  obtain ⟨j,rfl⟩:∃ j,k = j + 1:=⟨k - 1,by omega⟩
  have hw:IntKind.i64.wrap (((j + 1:Nat):Int) - 1) = j:=by rw [show (((j + 1:Nat):Int) - 1) = (j:Int) by omega]; exact an (by omega) (by simp only [maxLen] at hll; omega)
  have hjl:j < l.length:=by omega
  obtain ⟨d,hdj⟩:∃ d,l[j] = d:=⟨_,rfl⟩
  have hgb:l.getD (j + 1 - 1) 0 = d:=by simp [hjl,hdj]
  have hwk:IntKind.i64.wrap ((j:Int) + 1 + 1) = ((j + 2:Nat):Int):=by rw [show (j:Int) + 1 + 1 = ((j + 2:Nat):Int) by omega]; exact an (by omega) (by simp only [maxLen] at hll; omega)
  have hw2:IntKind.i64.wrap (j:Int) = j:=an (by omega) (by simp only [maxLen] at hll; omega)
  have hj0:(0:Int) < (j:Int) + 1:=by omega
  rw [hgb] at hle
  refine (Classical.em (b ≤ d)).elim (fun h10=>?_) (fun h10=>?_)
  · rw [if_pos ⟨by omega,h10⟩] at hle
    rw [if_pos (by rw [hle]; simp),hle] at hls
    simp [hjl,hdj,hkl,hb,hj0,hw2,h10]
    refine aj.sR pI (bn 5 i 2 _) (if_neg (by omega)) ?_
    simp
    refine p8 _ _ _ _ _ _ _ fun v tl=>?_
    simp
    rw [← hls]; rfl
  · simp [hjl,hdj,hkl,hb,hj0,hw2,h10]
    exact ⟨j + 2,by omega,hwk,by omega,by rw [hle,if_neg (by omega)]; simp⟩
set_option maxRecDepth 100000
set_option maxHeartbeats 1000000
abbrev nn' (n:Nat):ab:=.int .i64 (n:Int)
def onF (y:HuM) (nm:ByteArray):Bool:=y.on.any fun s=>nm.toList == s.toList
def jW (nm:ByteArray):List HuM → Nat → Nat → Nat
  | [],_,a=>a
  | y :: r,k,a=>jW nm r (k + 1) (if onF y nm then a ||| 2 ^ k else a)
def bN (t:ah) (i:Nat):Nat:=jW (t.ar.getD i ⟨.empty,0,0,0,[],0,0⟩).name t.ar 0 0
def xT (free:List Int):List (List Int) → Nat → Nat → Nat
  | [],_,a=>a
  | l :: r,i,a=>xT free r (i + 1) (if l.any (fun x=>!free.contains x) then a ||| 2 ^ i else a)
def cH (t:ah):List Int:=mz (du t.net t.blanks t.steps).2.1
def iN (t:ah):Nat:=xT (cH t) t.tanks 0 0
def eh (t:ah):List ab:=(List.range t.ar.length).map fun i=>nn' (bN t i)
def iG (t:ah) (N g:Nat):List ab:=[.slice 7 (t.ar.map HuM.v), .slice 7 (t.hull.ps.map aq.v),ii' t.hull.aft,ii' t.hull.fore,ii' t.lo,ii' t.hi, .slice 2 (t.net.tanks.map aE.v), .slice 3 (t.net.pipes.map aG.v), .slice 1 (t.blanks.map ii'), .slice 2 (t.steps.map a7.v), .slice 1 (t.tanks.map cj), .sref 1 N 0 t.ar.length t.ar.length,nn' g, .map (N + 1)]
section
variable (t:ah) (N g:Nat)
@[simp] theorem ME:(iG t N g).length = 14:=rfl
@[simp] theorem VP:(iG t N g)[1]? = some (.slice 7 (t.hull.ps.map aq.v)):=rfl
@[simp] theorem VF:(iG t N g)[11]? = some (.sref 1 N 0 t.ar.length t.ar.length):=rfl
@[simp] theorem Px:(iG t N g)[12]? = some (nn' g):=rfl
@[simp] theorem Pv:(iG t N g)[13]? = some (.map (N + 1)):=rfl
@[simp] theorem IM (g':Nat):(iG t N g).set 12 (nn' g') = iG t N g':=rfl
@[simp] theorem Jd:List.take 3 (List.drop 1 (iG t N g)) = t.hull.cells:=rfl
@[simp] theorem Jh:List.take 2 (List.drop 4 (iG t N g)) = [ii' t.lo,ii' t.hi]:=rfl
end
theorem pR {nm:ByteArray}:∀ {l:List HuM} {k a n:Nat},k + l.length ≤ n → a < 2 ^ n → jW nm l k a < 2 ^ n
  | [],_,_,_,_,h=>h
  | y :: r,k,a,n,hk,h=>by
    rw [List.length_cons] at hk
    rw [jW]
    refine pR (by omega) ?_
    split
    · exact Nat.or_lt_two_pow h (Nat.pow_lt_pow_right (by omega) (by omega))
    · exact h
theorem AO {free:List Int}:∀ {l:List (List Int)} {k a n:Nat},k + l.length ≤ n → a < 2 ^ n → xT free l k a < 2 ^ n
  | [],_,_,_,_,h=>h
  | y :: r,k,a,n,hk,h=>by
    rw [List.length_cons] at hk
    rw [xT]
    refine AO (by omega) ?_
    split
    · exact Nat.or_lt_two_pow h (Nat.pow_lt_pow_right (by omega) (by omega))
    · exact h
structure ah.Fit (t:ah):Prop where
  ship7:t.ar.length ≤ 7
  hull:t.hull.ps.length = t.ar.length
  tanks:t.tanks.length = t.ar.length
  err:eF t.hull = 0
  why:(gi t.hull t.lo t.hi).2.2 = 0
  after:(du t.net t.blanks t.steps).1 = 0
theorem pQ:∀ {S:List HuM} {H:List aq} {i:Nat},(eI S H i).1 = 0 ∨ (eI S H i).2.2 = 4
  | x :: r,y :: s,i=>by
    simp only [eI]
    split
    · exact pQ
    · exact .inr rfl
  | [],_,_=>.inl rfl
  | _ :: _,[],_=>.inl rfl
theorem bm {t:ah} (h:(aN t).2.2 = 0):t.Fit:=by
  unfold aN at h
  split at h
  · rename_i h1; exact absurd h h1
  split at h
  · rename_i h1; exact absurd h h1
  rename_i h2
  split at h
  · cases h
  rename_i h3
  split at h
  · rename_i h4
    rcases pQ (S:=t.ar) (H:=t.hull.ps) (i:=0) with e | e
    · exact absurd e h4
    · rw [e] at h; cases h
  split at h
  · rename_i h1; exact absurd h h1
  rename_i h5
  split at h
  · rename_i h1; exact absurd h h1
  rename_i h6
  split at h
  · cases h
  rename_i h7
  exact ⟨by omega,by omega,by omega,by simpa using h2,by simpa using h5,by simpa using h6⟩
set_option maxRecDepth 100000
set_option maxHeartbeats 1000000
def eT:List aq → Nat → Nat → List aq
  | [],_,_=>[]
  | p :: r,s,i=>if s.testBit i then p :: eT r s (i + 1) else eT r s (i + 1)
def bL (t:ah) (s:Nat):aB:={ t.hull with ps:=eT t.hull.ps s 0 }
def k6 (t:ah) (s:Nat):Int:=(gi (bL t s) t.lo t.hi).1
def eD (t:ah) (s:Nat):Bool:=!decide (s = 0) && !decide (k6 t s = 0)
def aK (s i:Nat):Nat:=dp s (2 ^ i)
def bD (t:ah) (s i:Nat):Nat:=if !s.testBit i then 1 else if s &&& bN t i ≠ 0 then 2 else if (iN t).testBit i then 3 else if eD t (aK s i) then 4 else 0
def pop (s:Nat):Nat:=((List.range 7).filter s.testBit).length
def aP (t:ah):Nat:=2 ^ t.ar.length - 1
theorem fU {s i:Nat} (hs:s < 128):aK s i < 128:=Nat.lt_of_le_of_lt (lR _ _) hs
theorem yp:∀ s,s < 128 → ∀ i,i < 7 → s.testBit i = true → aK s i = s - 2 ^ i ∧ 2 ^ i ≤ s:=by decide
theorem fZ:∀ s,s < 128 → ∀ i,i < 7 → s.testBit i = true → pop (aK s i) + 1 = pop s:=by decide
theorem m7:∀ s,s < 128 → pop s ≤ 7:=by decide
theorem xO:∀ s,s < 128 → pop s = 0 → s = 0:=by decide
theorem bU {t:ah} (h:t.Fit):aP t < 128:=by
  have:=dy (i:=t.ar.length)
  have:=h.ship7
  unfold aP
  have h2:2 ^ t.ar.length ≤ 2 ^ 7:=Nat.pow_le_pow_right (by omega) this
  have h3:(2:Nat) ^ 7 = 128:=rfl
  omega
theorem A0 {n i:Nat}:(2 ^ n - 1).testBit i = decide (i < n):=Nat.testBit_two_pow_sub_one n i
theorem Ac:∀ n,n ≤ 7 → pop (2 ^ n - 1) = n:=by decide
theorem eA {t:ah} {s i:Nat} (h:bD t s i = 0):s.testBit i = true:=by
  unfold bD at h
  split at h
  · cases h
  · rename_i h1; simpa using h1
def Sub (t:ah) (s:Nat):Prop:=∀ i,s.testBit i = true → i < t.ar.length
theorem Sub.lt {t:ah} (h:t.Fit) {s:Nat} (hs:Sub t s):s < 128:=by
  have:s < 2 ^ 7:=Nat.lt_pow_two_of_testBit s fun i hi=>by
    cases hb:s.testBit i
    · rfl
    · have:=hs i hb; have:=h.ship7; omega
  exact this
theorem Sub.rem {t:ah} {s i:Nat} (hs:Sub t s):Sub t (aK s i):=fun k hk=>by
  refine hs k ?_
  by_cases h64:k < 64
  · rw [aK,gh _ _ _ h64] at hk
    exact (Bool.and_eq_true_iff.1 hk).1
  · have:aK s i < 2 ^ 64:=by unfold aK dp; exact BitVec.isLt _
    rw [oH this (by omega)] at hk
    cases hk
theorem Sub.all (t:ah):Sub t (aP t):=fun i hi=>by
  rw [aP,A0] at hi
  simpa using hi
def bq (t:ah) (s:Nat):List Nat:=(List.range t.ar.length).filter fun i=>bD t s i == 0
theorem bg {t:ah} {s i:Nat}:i ∈ bq t s ↔ i < t.ar.length ∧ bD t s i = 0:=by simp [bq]
def po (f:Nat → Nat) (l:List Nat) (n:Nat):Nat:=l.foldl (fun n i=>max n (1 + f i)) n
theorem rk {f:Nat → Nat}:∀ {l:List Nat} {n m:Nat},po f l n ≤ m ↔ n ≤ m ∧ ∀ i ∈ l,1 + f i ≤ m
  | [],n,m=>by simp [po]
  | x :: l,n,m=>by
    have:=rk (f:=f) (l:=l) (n:=max n (1 + f x)) (m:=m)
    simp only [po,List.foldl_cons] at this ⊢
    rw [this]
    simp only [List.mem_cons,forall_eq_or_imp,Nat.max_le,and_assoc]
theorem s6 {f g:Nat → Nat} {l:List Nat} {n:Nat} (h:∀ i ∈ l,f i = g i):po f l n = po g l n:=by
  induction l generalizing n with
  | nil=>rfl
  | cons x l ih=>
    simp only [po,List.foldl_cons]
    rw [h x (by simp)]
    exact ih fun i hi=>h i (by simp [hi])
theorem ti {f:Nat → Nat}:∀ {l:List Nat} {n:Nat},po f l n = n ∨ ∃ i ∈ l,po f l n = 1 + f i
  | [],n=>.inl rfl
  | x :: l,n=>by
    rcases ti (f:=f) (l:=l) (n:=max n (1 + f x)) with h | ⟨i,hi,h⟩
    · simp only [po,List.foldl_cons] at h ⊢
      rw [h]
      rcases Nat.le_total n (1 + f x) with g | g
      · right; exact ⟨x,by simp,Nat.max_eq_right g⟩
      · left; exact Nat.max_eq_left g
    · exact .inr ⟨i,by simp [hi],h⟩
def me (t:ah):Nat → Nat → Nat
  | 0,_=>0
  | k + 1,s=>po (fun i=>me t k (aK s i)) (bq t s) 0
def aR (t:ah) (s:Nat):Nat:=me t (pop s) s
theorem rI {t:ah} (hf:t.Fit):∀ {k s:Nat},s < 128 → me t k s ≤ pop s
  | 0,s,_=>by simp [me]
  | k + 1,s,hs=>by
    rw [me,rk]
    refine ⟨by omega,fun i hi=>?_⟩
    obtain ⟨h1,h2⟩:=bg.1 hi
    have:=fZ s hs i (by have:=hf.ship7; omega) (eA h2)
    have:=rI hf (k:=k) (s:=aK s i) (fU hs)
    omega
theorem si {t:ah} (hf:t.Fit):∀ {k s:Nat},s < 128 → pop s ≤ k → me t k s = aR t s
  | 0,s,_,hk=>by
    have:pop s = 0:=by omega
    rw [aR,this]
  | k + 1,s,hs,hk=>by
    rw [aR]
    cases hp:pop s with
    | zero=>
      have:=rI hf (k:=k + 1) hs
      rw [hp] at this
      simpa [me] using this
    | succ j=>
      rw [me,me]
      refine s6 fun i hi=>?_
      obtain ⟨h1,h2⟩:=bg.1 hi
      have:=fZ s hs i (by have:=hf.ship7; omega) (eA h2)
      rw [si hf (fU hs) (by omega),aR]
      congr 1
      omega
theorem jJ {t:ah} (hf:t.Fit) {s:Nat} (hs:s < 128):aR t s = po (fun i=>aR t (aK s i)) (bq t s) 0:=by
  rw [← si hf hs (k:=pop s + 1) (by omega),me]
  refine s6 fun i hi=>?_
  obtain ⟨h1,h2⟩:=bg.1 hi
  have:=fZ s hs i (by have:=hf.ship7; omega) (eA h2)
  exact si hf (fU hs) (by omega)
theorem jN {t:ah} (hf:t.Fit) {s:Nat} (hs:s < 128):aR t s ≤ pop s:=rI hf hs
def cT (t:ah) (s:Nat):Bool:=aR t s == pop s
def bH (t:ah):List Int → Nat → Nat → Int × Nat × Nat
  | [],_,s=>(-1,0,s)
  | x :: r,k,s=>if bD t s x.toNat ≠ 0 then ((k:Int),bD t s x.toNat,s) else bH t r (k + 1) (aK s x.toNat)
theorem uq {t:ah}:∀ {l:List Int} {k s:Nat},Sub t s → Sub t (bH t l k s).2.2
  | [],_,_,h=>h
  | x :: r,k,s,h=>by
    rw [bH]
    split
    · exact h
    · exact uq h.rem
end Go.AM
