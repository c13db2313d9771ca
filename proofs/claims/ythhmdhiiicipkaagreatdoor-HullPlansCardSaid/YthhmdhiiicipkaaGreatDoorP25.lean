/- Names: of the document. Lists and parts that are compared. Texts, plain: lines, words, numerals. The text of a plan, and how it is read: plain. Of a plan without an error the text is read az the plan, by the program and by the document. -/
import Derived.Test.YthhmdhiiicipkaaGreatDoorP24
import Derived.Lib.Split
import Derived.Lib.AtoiAll
import Derived.Lib.ItoaNum
import Derived.Lib.Join
import Derived.Test.YthhmdhiiicipkaaGreatDoorP20
namespace Go.AM
open Go.Proofs
set_option maxRecDepth 100000
set_option maxHeartbeats 1000000
instance ltS_dec (a b:ByteArray):Decidable (ltS a b):=inferInstanceAs (Decidable (a.data.toList < b.data.toList))
theorem lsd (a b:ByteArray):Op.bytesLess a.toList b.toList = decide (ltS a b):=by
  rw [Bool.eq_iff_iff,yL,decide_eq_true_eq]
def nS (l:List HuM) (out:List ByteArray) (i:Nat) (b:ByteArray):Prop:=
  (b = .empty ∧ ∀ x ∈ l.take i,x.name ∈ out) ∨ (b ≠ .empty ∧ (∃ x ∈ l,x.name = b) ∧ b ∉ out ∧ ∀ x ∈ l.take i,x.name ∈ out ∨ b = x.name ∨ ltS b x.name)
structure pS (l:List HuM) (out:List ByteArray):Prop where
  asc:Asc out
  sub:∀ y ∈ out, ∃ x ∈ l,x.name = y
  low:∀ x ∈ l,x.name ∈ out ∨ ∀ z ∈ out,ltS z x.name
theorem pR {α:Type} {l:List α} {i:Nat} (h:i < l.length) (y:α):y ∈ l.take (i + 1) ↔ y ∈ l.take i ∨ y = l[i]:=by
  rw [List.take_succ_eq_append_getElem h,List.mem_append,List.mem_singleton]
theorem yk {l:List HuM} {out:List ByteArray} {i:Nat} {b:ByteArray} (h:nS l out i b) (hi:i < l.length) (hne:(l[i]).name ≠ .empty) (h1:(l[i]).name ∉ out) (h2:b = .empty ∨ ltS (l[i]).name b):nS l out (i + 1) (l[i]).name:=by
  refine .inr ⟨hne,⟨_,List.getElem_mem hi,rfl⟩,h1,fun x hx=>?_⟩
  rcases (pR hi x).1 hx with hx | hx
  · rcases h with ⟨_,h3⟩ | ⟨h0,_,_,h3⟩
    · exact .inl (h3 x hx)
    · have h2':=h2.resolve_left h0
      rcases h3 x hx with h4 | h4 | h4
      · exact .inl h4
      · exact .inr (.inr (h4 ▸ h2'))
      · exact .inr (.inr (fN h2' h4))
  · exact .inr (.inl (by rw [hx]))
theorem yn {l:List HuM} {out:List ByteArray} {i:Nat} {b:ByteArray} (h:nS l out i b) (hi:i < l.length) (h2:(l[i]).name ∈ out ∨ (b ≠ .empty ∧ ¬ ltS (l[i]).name b)):nS l out (i + 1) b:=by
  rcases h with ⟨h0,h3⟩ | ⟨h0,h1,h4,h3⟩
  · refine .inl ⟨h0,fun x hx=>?_⟩
    rcases (pR hi x).1 hx with hx | hx
    · exact h3 x hx
    · rw [hx]
      rcases h2 with h2 | h2
      · exact h2
      · exact absurd h0 h2.1
  · refine .inr ⟨h0,h1,h4,fun x hx=>?_⟩
    rcases (pR hi x).1 hx with hx | hx
    · exact h3 x hx
    · rw [hx]
      rcases h2 with h2 | ⟨_,h2⟩
      · exact .inl h2
      · rcases oX (l[i]).name b with h5 | h5 | h5
        · exact absurd h5 h2
        · exact .inr (.inl h5.symm)
        · exact .inr (.inr h5)
theorem zt {l:List HuM} {out:List ByteArray} (h:pS l out) (hi:nS l out l.length .empty):out = jx (l.map HuM.name):=by
  refine qt h.asc fun x=>?_
  rw [List.mem_map]
  constructor
  · intro hx; obtain ⟨y,h1,h2⟩:=h.sub x hx; exact ⟨y,h1,h2⟩
  · rintro ⟨y,hy,rfl⟩
    rcases hi with ⟨_,h3⟩ | ⟨h0,_⟩
    · exact h3 y (by rw [List.take_length]; exact hy)
    · exact absurd rfl h0
theorem xn {l:List HuM} {out:List ByteArray} {b:ByteArray} (h:pS l out) (hb:b ≠ .empty) (hi:nS l out l.length b):pS l (out ++ [b]):=by
  rcases hi with ⟨h0,_⟩ | ⟨_,⟨x,hx,rfl⟩,h4,h3⟩
  · exact absurd h0 hb
  rw [List.take_length] at h3
  have hlow:∀ z ∈ out,ltS z x.name:=(h.low x hx).resolve_left h4
  refine ⟨List.pairwise_append.2 ⟨h.asc,List.pairwise_singleton _ _,fun a ha c hc=>by rw [List.mem_singleton.1 hc]; exact hlow a ha⟩,fun y hy=>?_,fun y hy=>?_⟩
  · rcases List.mem_append.1 hy with hy | hy
    · exact h.sub y hy
    · exact ⟨x,hx,(List.mem_singleton.1 hy).symm⟩
  · rcases h3 y hy with h5 | h5 | h5
    · exact .inl (by simp [h5])
    · exact .inl (by simp [h5])
    · rcases h.low y hy with h6 | h6
      · exact .inl (by simp [h6])
      · refine .inr fun z hz=>?_
        rcases List.mem_append.1 hz with hz | hz
        · exact h6 z hz
        · rw [List.mem_singleton.1 hz]; exact h5
theorem Cn {l:List ByteArray} (h:Asc l):l.Nodup:=h.imp fun {a b} h e=>by subst e; exact hZ _ h
theorem zT {l:List HuM} {out:List ByteArray} (h:pS l out):out.length ≤ l.length:=by
  have:=List.Nodup.length_le_of_subset (l₂:=l.map HuM.name) (Cn h.asc) fun y hy=>by
    obtain ⟨x,h1,h2⟩:=h.sub y hy; exact List.mem_map.2 ⟨x,h1,h2⟩
  simpa using this
theorem ye {l:List HuM} {out:List ByteArray} (h:pS l out) {x:HuM} (hx:x ∈ l) (h0:0 < out.length):x.name ∈ out ↔ ¬ ltS (out[out.length - 1]'(by omega)) x.name:=by
  constructor
  · intro hm hlt
    obtain ⟨i,hi,e⟩:=List.mem_iff_getElem.1 hm
    rw [← e] at hlt
    rcases Nat.lt_or_ge i (out.length - 1) with h1 | h1
    · exact hZ _ (fN hlt (List.pairwise_iff_getElem.1 h.asc i (out.length - 1) hi (by omega) h1))
    · have:i = out.length - 1:=by omega
      subst this; exact hZ _ hlt
  · intro hlt
    exact (h.low x hx).resolve_right fun e=>hlt (e _ (List.getElem_mem _))
theorem emp {b:ByteArray} (h:b ≠ .empty):¬ b.toList = []:=fun e=>h (by rw [toList_data] at e; exact data_inj e)
theorem l6 (l:List HuM) (hl:l.length ≤ 100) (hne:∀ x ∈ l,x.name ≠ .empty) (σ:ag) :
    Spec Tryz.prog G8 [.slice 7 (l.map HuM.v)] σ fun r σ'=>r = .ret (.slice 1 ((jx (l.map HuM.name)).map .str)) ∧ σ' = σ:=by
  refine Spec.aC (M9 (by simp) ?_) (by simp [aA,ab.pure,ah (f:=HuM.v) (fun p=>p.pure) l]) (by simp [ab.pure,ah (f:=ab.str) (fun _=>rfl)]) σ
  refine aa _ ?_
  simp [Kc]
  refine AW.loop (ι:=Nat) (fun m fr σ'=>∃ out q t,fr = { v:=[(0, .slice 7 (l.map HuM.v)),(3, .oslice 1 (out.map .str) 0 q)],ds:=[] } ∧ σ' = .spare 1 q :: t ∧ pS l out ∧ m = out.length) (fun m=>l.length + 1 - m) 0 ⟨[],0,[],by simp,by simp,⟨List.Pairwise.nil,by simp,fun x _=>.inr (by simp)⟩,by simp⟩ ?_
  rintro m fr σ' ⟨out,q,t,rfl,rfl,ho,rfl⟩
  have hol:=zT ho
  refine aa _ ?_
  simp
  refine AW.loop (ι:=Nat) (fun i fr σ'=>∃ b t,fr = { v:=[(0, .slice 7 (l.map HuM.v)),(3, .oslice 1 (out.map .str) 0 q),(4, .str b),(5, .int .i64 i)],ds:=[] } ∧ σ' = .spare 1 q :: t ∧ nS l out i b ∧ i ≤ l.length) (fun i=>l.length - i) 0 ⟨.empty,t,by simp; rfl,rfl, .inl ⟨rfl,by simp⟩,by omega⟩ ?_
  rintro i fr σ' ⟨b,t2,rfl,rfl,hin,hi⟩
  have hem:(⟨#[]⟩:ByteArray) = .empty:=rfl
  refine (Nat.lt_or_ge i l.length).elim (fun hlt=>?_) (fun hge=>?_)
  rotate_left
  · obtain rfl:i = l.length:=by omega
    by_cases hb:b = .empty
    · subst hb
      have hend:=zt ho hin
      refine aa _ ?_
      simp [hem, ← hend]
      done
    · have hst:=xn ho hb hin
      refine aa _ ?_
      simp [hem,emp hb]
      refine ⟨gX [b],by omega,_, ?_,out ++ [b],q + 1,⟨by simp,rfl⟩,rfl,hst,rfl⟩
      simp; omega
  obtain ⟨x,hx⟩:∃ x,l[i] = x:=⟨_,rfl⟩
  have hxl:x ∈ l:=hx ▸ List.getElem_mem _
  have htake:=yk hin hlt
  have hskip:=yn hin hlt
  rw [hx] at htake hskip
  have htake:=htake (hne x hxl)
  have hwi:IntKind.i64.wrap ((i:Int) + 1) = ((i + 1:Nat):Int):=by rw [aj (by omega) (by omega)]; simp
  by_cases h0:out = []
  · subst h0
    by_cases hb:b = .empty
    · have hn:=htake (by simp) (.inl hb)
      subst hb
      refine aa _ ?_
      simp [hlt,hx,HuM.v,HuM.cells,hem,hwi]
      exact ⟨i + 1,by omega,_,⟨rfl,by simp⟩,hn,by omega⟩
    · by_cases hlb:ltS x.name b
      · have hn:=htake (by simp) (.inr hlb)
        refine aa _ ?_
        simp [hlt,hx,HuM.v,HuM.cells,lsd,hem,hwi,hlb,emp hb]
        exact ⟨i + 1,by omega,_,⟨rfl,by simp⟩,hn,by omega⟩
      · have hn:=hskip (.inr ⟨hb,hlb⟩)
        refine aa _ ?_
        simp [hlt,hx,HuM.v,HuM.cells,lsd,hem,hwi,hlb,emp hb]
        exact ⟨i + 1,by omega,_,⟨rfl,by simp⟩,hn,by omega⟩
  have hop:0 < out.length:=List.length_pos_iff.2 h0
  have hla:=ye ho hxl hop
  obtain ⟨k,hk⟩:∃ k,out.length = k + 1:=⟨out.length - 1,by omega⟩
  have hkl:k < out.length:=by omega
  obtain ⟨z,hz⟩:∃ z,out[k] = z:=⟨_,rfl⟩
  have hzz:out[out.length - 1] = z:=by rw [← hz]; congr 1; omega
  rw [hzz] at hla
  have hzo:out[k]? = some z:=by rw [List.getElem?_eq_getElem hkl,hz]
  have hw0:IntKind.i64.wrap ((out.length:Int) - 1) = k:=by rw [aj (by omega) (by omega)]; omega
  have hnz:¬ (out.length:Int) = 0:=by omega
  have hnzB:((out.length:Int) == 0) = false:=by simpa using hnz
  by_cases hm:x.name ∈ out
  · have hn:=hskip (.inl hm)
    rcases oX x.name z with h1 | h1 | h1
    · refine aa _ ?_
      simp [hlt,hx,HuM.v,HuM.cells,nmd,lsd,hem,hwi,hnzB,hw0,hz,hkl,h1]
      exact ⟨i + 1,by omega,_,⟨rfl,by simp⟩,hn,by omega⟩
    · subst h1
      refine aa _ ?_
      simp [hlt,hx,HuM.v,HuM.cells,lsd,hem,hwi,hnzB,hw0,hz,hkl]
      exact ⟨i + 1,by omega,_,⟨rfl,by simp⟩,hn,by omega⟩
    · exact absurd h1 (hla.1 hm)
  have hzx:ltS z x.name:=Decidable.of_not_not fun e=>hm (hla.2 e)
  have g1:¬ ltS x.name z:=fun e=>hZ _ (fN e hzx)
  have g2:¬ x.name = z:=fun e=>hZ z (e ▸ hzx)
  by_cases hb:b = .empty
  · have hn:=htake hm (.inl hb)
    subst hb
    refine aa _ ?_
    simp [hlt,hx,HuM.v,HuM.cells,nmd,lsd,hem,hwi,hnzB,hw0,hz,hkl,g1,g2]
    exact ⟨i + 1,by omega,_,⟨rfl,by simp⟩,hn,by omega⟩
  · by_cases hlb:ltS x.name b
    · have hn:=htake hm (.inr hlb)
      refine aa _ ?_
      simp [hlt,hx,HuM.v,HuM.cells,nmd,lsd,hem,hwi,hnzB,hw0,hz,hkl,g1,g2,hlb,emp hb]
      exact ⟨i + 1,by omega,_,⟨rfl,by simp⟩,hn,by omega⟩
    · have hn:=hskip (.inr ⟨hb,hlb⟩)
      refine aa _ ?_
      simp [hlt,hx,HuM.v,HuM.cells,nmd,lsd,hem,hwi,hnzB,hw0,hz,hkl,g1,g2,hlb,emp hb]
      exact ⟨i + 1,by omega,_,⟨rfl,by simp⟩,hn,by omega⟩
set_option maxRecDepth 100000
set_option maxHeartbeats 1000000
theorem ov {a b:List ByteArray} {i:Nat} (h1:i < a.length) (h2:i < b.length) (h:a.take i = b.take i):a.take (i + 1) = b.take (i + 1) ↔ a[i] = b[i]:=by
  rw [List.take_succ_eq_append_getElem h1,List.take_succ_eq_append_getElem h2,h]
  exact ⟨fun e=>by simpa using List.append_cancel_left e,fun e=>by rw [e]⟩
theorem gh (a b:List ByteArray) (ha:a.length ≤ maxLen) (σ:ag) :
    Spec Tryz.prog E7 [.slice 1 (a.map .str), .slice 1 (b.map .str)] σ fun r σ'=>r = .ret (.bool (decide (a = b))) ∧ σ' = σ:=by
  refine Spec.aC (Mq (by simp) (aa _ ?_)) (by simp [aA,ab.pure,ah (f:=ab.str) (fun _=>rfl)]) rfl σ
  simp [KL]
  refine AW.loop (ι:=Nat) (fun i fr σ=>∃ s:Bool,fr = { v:=[(0, .slice 1 (a.map .str)),(1, .slice 1 (b.map .str)),(5, .bool s),(6, .int .i64 i)],ds:=[] } ∧ i ≤ a.length ∧ (s = true → a.length = b.length ∧ a.take i = b.take i) ∧ (s = false → a ≠ b)) (fun i=>a.length - i) 0 ⟨_,by simp; rfl,by omega,fun h=>⟨by simp at h; omega,by simp⟩,fun h e=>by subst e; simp at h⟩ ?_
  rintro i fr σ ⟨s,rfl,hi,h1,h2⟩
  cases s with
  | false=>
    have h3:=h2 rfl
    refine aa _ ?_
    simp [h3]
  | true=>
    obtain ⟨hl,ht⟩:=h1 rfl
    refine (Nat.lt_or_ge i a.length).elim (fun hlt=>?_) (fun hge=>?_)
    · have hlb:i < b.length:=by omega
      obtain ⟨x,hx⟩:∃ x,a[i] = x:=⟨_,rfl⟩
      obtain ⟨y,hy⟩:∃ y,b[i] = y:=⟨_,rfl⟩
      have hst:=ov hlt hlb ht
      rw [hx,hy] at hst
      have hw:IntKind.i64.wrap ((i:Int) + 1) = ((i + 1:Nat):Int):=by rw [aj (by omega) (by simp only [maxLen] at ha; omega)]; simp
      by_cases hxy:x = y
      · refine aa _ ?_
        simp [hlt,hlb,hx,hy,hw,hxy]
        exact ⟨i + 1,by omega,by simp,by omega,hl,hst.2 hxy⟩
      · have hab:a ≠ b:=fun e=>by subst e; exact hxy (hx.symm.trans hy)
        refine aa _ ?_
        simp [hlt,hlb,hx,hy,nmd,hw,hxy]
        exact ⟨i + 1,by omega,by simp,by omega,hab⟩
    · have hab:a = b:=by
        rw [List.take_of_length_le hge,List.take_of_length_le (by omega)] at ht; exact ht
      refine aa _ ?_
      simp [show ¬ i < b.length by omega,hab]
theorem px (a b:List ByteArray) (ha:a.length ≤ maxLen) (σ:ag) :
    Spec Tryz.prog GL [.slice 1 (a.map .str), .slice 1 (b.map .str)] σ fun r σ'=>r = .ret (.bool (decide (a = b))) ∧ σ' = σ:=by
  refine Spec.aC (Lj (by simp) (aa _ ?_)) (by simp [aA,ab.pure,ah (f:=ab.str) (fun _=>rfl)]) rfl σ
  by_cases hl:a.length = b.length
  rotate_left
  · have hlI:¬ (a.length:Int) = b.length:=by omega
    have hlB:((a.length:Int) == b.length) = false:=by rw [beq_eq_false_iff_ne]; exact hlI
    have hab:a ≠ b:=fun e=>hl (by rw [e])
    simp [Ic,hlI,hab]
  have hlB:((a.length:Int) == b.length) = true:=by rw [beq_iff_eq]; omega
  simp [Ic,hl]
  refine AW.loop (ι:=Nat) (fun i fr σ=>fr = { v:=[(0, .slice 1 (a.map .str)),(1, .slice 1 (b.map .str)),(12, .int .i64 b.length),(13, .int .i64 i)],ds:=[] } ∧ i ≤ b.length ∧ a.take i = b.take i) (fun i=>b.length - i) 0 ⟨by simp,by omega,by simp⟩ ?_
  rintro i fr σ ⟨rfl,hi,ht⟩
  refine (Nat.lt_or_ge i b.length).elim (fun hlb=>?_) (fun hge=>?_)
  · have hlt:i < a.length:=by omega
    obtain ⟨x,hx⟩:∃ x,a[i] = x:=⟨_,rfl⟩
    obtain ⟨y,hy⟩:∃ y,b[i] = y:=⟨_,rfl⟩
    have hst:=ov hlt hlb ht
    rw [hx,hy] at hst
    have hw:IntKind.i64.wrap ((i:Int) + 1) = ((i + 1:Nat):Int):=by rw [aj (by omega) (by simp only [maxLen] at ha; omega)]; simp
    by_cases hxy:x = y
    · have h3:=hst.2 hxy
      refine aa _ ?_
      simp [hlt,hlb,hx,hy,hw,hxy]
      exact ⟨i + 1,by omega,by simp,by omega,h3⟩
    · have hab:a ≠ b:=fun e=>by subst e; exact hxy (hx.symm.trans hy)
      refine aa _ ?_
      simp [hlt,hlb,hx,hy,nmd,hw,hxy,hab]
  · have hab:a = b:=by
      rw [List.take_of_length_le (by omega),List.take_of_length_le (by omega)] at ht; exact ht
    refine aa _ ?_
    simp [show ¬ i < b.length by omega,hab]
theorem j5 (l:List Int) (hl:l.length ≤ maxLen) (σ:ag):Spec Tryz.prog HT [.slice 1 (l.map ii'), .slice 1 (l.map ii')] σ fun r σ'=>r = .ret (.bool true) ∧ σ' = σ:=by
  refine Spec.aC (LL (by simp) (aa _ ?_)) (by simp [ah (f:=ii') (fun _=>rfl) l]) rfl σ
  simp [IX]
  refine AW.loop (ι:=Nat) (fun i fr σ=>fr = { v:=[(0, .slice 1 (l.map ii')),(1, .slice 1 (l.map ii')),(5, .bool true),(6, .int .i64 i)],ds:=[] } ∧ i ≤ l.length) (fun i=>l.length - i) 0 (by simp) ?_
  rintro i fr σ ⟨rfl,hi⟩
  refine (Nat.lt_or_ge i l.length).elim (fun hlt=>?_) (fun hge=>?_)
  · obtain ⟨x,hx⟩:∃ x,l[i] = x:=⟨_,rfl⟩
    refine aa _ ?_
    simp [hlt,hx]
    exact ⟨i + 1,by omega,aj (by omega) (by simp only [maxLen] at hl; omega),by omega⟩
  · refine aa _ ?_
    simp [show ¬ i < l.length by omega]
def uL (a b:HuM):Bool:=decide (a.name = b.name) && decide (a.kind = b.kind) && decide (a.first = b.first) && decide (a.last = b.last) && (decide (a.lo = b.lo) && decide (a.hi = b.hi)) && decide (a.on = b.on)
theorem j8 (a b:HuM):uL a b = true ↔ a = b:=by
  unfold uL
  simp only [Bool.and_eq_true,decide_eq_true_eq]
  constructor
  · rintro ⟨⟨⟨⟨⟨h1,h2⟩,h3⟩,h4⟩,h5,h6⟩,h7⟩
    cases a; cases b
    simp_all
  · rintro rfl; simp
theorem gg (a b:HuM) (ha:a.on.length ≤ maxLen) (σ:ag):Spec Tryz.prog Hs [a.v,b.v] σ fun r σ'=>r = .ret (.bool (uL a b)) ∧ σ' = σ:=by
  refine Spec.aC (Li (by simp) ?_) (by simp [aA,a.pure,b.pure]) rfl σ
  have hw:=gh a.on b.on ha
  unfold uL
  by_cases h1:a.name = b.name
  rotate_left
  · refine aa _ ?_
    simp [xV,HuM.v,HuM.cells,nmd,h1]
    done
  by_cases h2:a.kind = b.kind
  rotate_left
  · refine aa _ ?_
    simp [xV,HuM.v,HuM.cells,h1,h2]
    done
  by_cases h3:a.first = b.first
  rotate_left
  · refine aa _ ?_
    simp [xV,HuM.v,HuM.cells,h1,h2,h3]
    done
  by_cases h4:a.last = b.last
  rotate_left
  · refine aa _ ?_
    simp [xV,HuM.v,HuM.cells,h1,h2,h3,h4]
    done
  by_cases h5:a.lo = b.lo
  rotate_left
  · refine aa _ ?_
    simp [xV,HuM.v,HuM.cells,h1,h2,h3,h4,h5]
    done
  by_cases h6:a.hi = b.hi
  rotate_left
  · refine aa _ ?_
    simp [xV,HuM.v,HuM.cells,h1,h2,h3,h4,h5,h6]
    done
  refine aa _ ?_
  simp [xV,HuM.v,HuM.cells,h1,h2,h3,h4,h5,h6]
  refine af.pure pD (hw _) ?_
  simp
theorem eG (l:List HuM) (hl:l.length ≤ maxLen) (hn:∀ x ∈ l,x.on.length ≤ maxLen) (σ:ag):Spec Tryz.prog HS [.slice 7 (l.map HuM.v), .slice 7 (l.map HuM.v)] σ fun r σ'=>r = .ret (.bool true) ∧ σ' = σ:=by
  refine Spec.aC (Oe (by simp) (aa _ ?_)) (by simp [aA,ab.pure,ah (f:=HuM.v) (fun p=>p.pure) l]) rfl σ
  simp [K8]
  refine AW.loop (ι:=Nat) (fun i fr σ=>fr = { v:=[(0, .slice 7 (l.map HuM.v)),(1, .slice 7 (l.map HuM.v)),(5, .bool true),(6, .int .i64 i)],ds:=[] } ∧ i ≤ l.length) (fun i=>l.length - i) 0 (by simp) ?_
  rintro i fr σ ⟨rfl,hi⟩
  refine (Nat.lt_or_ge i l.length).elim (fun hlt=>?_) (fun hge=>?_)
  · obtain ⟨x,hx⟩:∃ x,l[i] = x:=⟨_,rfl⟩
    have he:=gg x x (hn x (hx ▸ List.getElem_mem _))
    rw [(j8 x x).2 rfl] at he
    simp only [HuM.v,HuM.cells] at he
    refine aa _ ?_
    simp [hlt,hx,HuM.v,HuM.cells]
    refine ⟨.bool true,fun σ' _=>aB.func Du (he σ'), ?_⟩
    simp
    exact ⟨i + 1,by omega,aj (by omega) (by simp only [maxLen] at hl; omega),by omega⟩
  · refine aa _ ?_
    simp [show ¬ i < l.length by omega]
theorem nz (ps:List HuM) (cs:List ChM) (hl:ps.length ≤ maxLen) (hn:∀ x ∈ ps,x.on.length ≤ maxLen) (hcl:cs.length ≤ maxLen) (hc:∀ c ∈ cs,c.part.on.length ≤ maxLen) (σ:ag) :
    Spec Tryz.prog HQ [.agg [.slice 7 (ps.map HuM.v), .slice 10 (cs.map ChM.v)], .agg [.slice 7 (ps.map HuM.v), .slice 10 (cs.map ChM.v)]] σ fun r σ'=>r = .ret (.bool true) ∧ σ' = σ:=by
  refine Spec.aC (Ng (by simp) (aa _ ?_)) (by simp [aA,ab.pure,ah (f:=HuM.v) (fun p=>p.pure) ps,ah (f:=ChM.v) (fun c=>c.pure) cs]) rfl σ
  simp [IN]
  refine af.pure sU (eG ps hl hn _) ?_
  simp
  refine AW.loop (ι:=Nat) (fun i fr σ=>fr = { v:=[(2, .pval (.agg [.slice 7 (ps.map HuM.v), .slice 10 (cs.map ChM.v)])),(3, .pval (.agg [.slice 7 (ps.map HuM.v), .slice 10 (cs.map ChM.v)])),(5, .bool true),(6, .int .i64 i)],ds:=[] } ∧ i ≤ cs.length) (fun i=>cs.length - i) 0 (by simp) ?_
  rintro i fr σ ⟨rfl,hi⟩
  refine (Nat.lt_or_ge i cs.length).elim (fun hlt=>?_) (fun hge=>?_)
  · obtain ⟨c,hx⟩:∃ x,cs[i] = x:=⟨_,rfl⟩
    have he:=gg c.part c.part (hc c (hx ▸ List.getElem_mem _))
    rw [(j8 c.part c.part).2 rfl] at he
    simp only [HuM.v,HuM.cells] at he
    refine aa _ ?_
    simp [hlt,hx,ChM.v,ChM.cells]
    refine af.pure Du (he _) ?_
    simp
    exact ⟨i + 1,by omega,aj (by omega) (by simp only [maxLen] at hcl; omega),by omega⟩
  · refine aa _ ?_
    simp [show ¬ i < cs.length by omega]
def cutAt (b:UInt8):List UInt8 → List (List UInt8)
  | []=>[[]]
  | c :: r=>if c = b then [] :: cutAt b r else match cutAt b r with
    | []=>[[c]]
    | p :: q=>(c :: p) :: q
theorem ki (b:UInt8):∀ l,cutAt b l ≠ []
  | []=>by simp [cutAt]
  | c :: r=>by
    simp only [cutAt]
    split
    · simp
    · split <;> simp
def bo (b:UInt8):List (List UInt8) → List UInt8
  | []=>[]
  | [p]=>p
  | p :: q :: r=>p ++ b :: bo b (q :: r)
theorem Be (b:UInt8):∀ l,Lib.join l [b] = bo b l
  | []=>rfl
  | [p]=>by simp [Lib.join,bo,List.intercalate,List.intersperse]
  | p :: q :: r=>by
    have:=Be b (q :: r)
    unfold Lib.join List.intercalate at this ⊢
    simp only [bo] at this ⊢
    rw [← this]; simp [List.intersperse]
theorem ik (b:UInt8):∀ (p r:List UInt8),b ∉ p → cutAt b (p ++ b :: r) = p :: cutAt b r
  | [],r,_=>by simp [cutAt]
  | c :: p,r,h=>by
    have hc:c ≠ b:=fun e=>h (by simp [e])
    have ih:=ik b p r fun e=>h (by simp [e])
    simp only [List.cons_append,cutAt,if_neg hc,ih]
theorem jq (b:UInt8):∀ (p:List UInt8),b ∉ p → cutAt b p = [p]
  | [],_=>rfl
  | c :: p,h=>by
    have hc:c ≠ b:=fun e=>h (by simp [e])
    have ih:=jq b p fun e=>h (by simp [e])
    simp only [cutAt,if_neg hc,ih]
theorem nJ (b:UInt8):∀ {l:List (List UInt8)},l ≠ [] → (∀ p ∈ l,b ∉ p) → cutAt b (bo b l) = l
  | [],h,_=>absurd rfl h
  | [p],_,h=>jq b p (h p (by simp))
  | p :: q :: r,_,h=>by
    simp only [bo]
    rw [ik b p _ (h p (by simp)),nJ b (by simp) fun x hx=>h x (by simp [hx])]
theorem qN (b:UInt8) (p:List UInt8) {q:List (List UInt8)} (h:q ≠ []):bo b (p :: q) = p ++ b :: bo b q:=by
  cases q with
  | nil=>exact absurd rfl h
  | cons a r=>rfl
theorem kJ (b:UInt8):∀ (l:List UInt8),bo b (cutAt b l) = l
  | []=>rfl
  | c :: r=>by
    have ih:=kJ b r
    have hne:=ki b r
    simp only [cutAt]
    split
    · rename_i h
      rw [qN b [] hne,ih,h]; rfl
    · cases hq:cutAt b r with
      | nil=>exact absurd hq hne
      | cons p q=>
        rw [hq] at ih
        cases q with
        | nil=>simp only [bo] at ih ⊢; rw [ih]
        | cons a q=>simp only [bo,List.cons_append] at ih ⊢; rw [ih]
theorem xW (b:UInt8):∀ (l:List UInt8), ∀ p ∈ cutAt b l,b ∉ p
  | [],p,h=>by simp [cutAt] at h; subst h; simp
  | c :: r,p,h=>by
    have ih:=xW b r
    have hne:=ki b r
    simp only [cutAt] at h
    split at h
    · rcases List.mem_cons.1 h with rfl | h
      · simp
      · exact ih p h
    · rename_i hc
      cases hq:cutAt b r with
      | nil=>exact absurd hq hne
      | cons x q=>
        rw [hq] at h ih
        rcases List.mem_cons.1 h with rfl | h
        · intro e
          rcases List.mem_cons.1 e with e | e
          · exact hc e.symm
          · exact ih x (by simp) e
        · exact ih p (by simp [h])
/-! ### a line of a text -/
theorem kF (b:UInt8):∀ (l:List UInt8),(b ∉ l ∧ Lib.index l [b] = -1) ∨ ∃ p r,l = p ++ b :: r ∧ b ∉ p ∧ Lib.index l [b] = p.length
  | []=>.inl ⟨by simp,by simp [Lib.index]⟩
  | c :: r=>by
    by_cases h:c = b
    · subst h
      exact .inr ⟨[],r,rfl,by simp,by simp [Lib.index,List.isPrefixOf]⟩
    · have hp:List.isPrefixOf [b] (c :: r) = false:=by
        simp [List.isPrefixOf]; exact fun e=>h e.symm
      rcases kF b r with ⟨h1,h2⟩ | ⟨p,q,h1,h2,h3⟩
      · refine .inl ⟨by simp [h1]; exact fun e=>h e.symm, ?_⟩
        simp [Lib.index,hp,h2]
      · refine .inr ⟨c :: p,q,by rw [h1]; rfl,by simp [h2]; exact fun e=>h e.symm, ?_⟩
        rw [Lib.index,hp,h3]
        have:((p.length:Int) == -1) = false:=by simp
        simp [this]
theorem Dx (b:UInt8) (l:List UInt8):Lib.cut l [b] = match cutAt b l with
    | []=>(l,[],false)
    | [_]=>(l,[],false)
    | p :: q=>(p,bo b q,true):=by
  rcases kF b l with ⟨h1,h2⟩ | ⟨p,r,h1,h2,h3⟩
  · rw [jq b l h1]
    unfold Lib.cut
    rw [h2]; simp
  · have h4:cutAt b l = p :: cutAt b r:=by rw [h1]; exact ik b p r h2
    rw [h4]
    unfold Lib.cut
    rw [h3,if_pos (by omega)]
    cases hq:cutAt b r with
    | nil=>exact absurd hq (ki b r)
    | cons a q=>
      simp only
      rw [← hq,kJ,h1]
      simp
theorem qX (b:UInt8):∀ (k:Nat) (l:List UInt8),l.count b ≤ k → Lib.splitK [b] 0 k l = cutAt b l
  | 0,l,h=>by
    have:b ∉ l:=by rw [← List.count_eq_zero]; omega
    rw [jq b l this]; rfl
  | k + 1,l,h=>by
    unfold Lib.splitK
    rcases kF b l with ⟨h1,h2⟩ | ⟨p,r,h1,h2,h3⟩
    · rw [h2,jq b l h1]; rfl
    · have h4:cutAt b l = p :: cutAt b r:=by rw [h1]; exact ik b p r h2
      rw [h3,if_neg (by simp),h4]
      have h5:l.count b = p.count b + (r.count b + 1):=by rw [h1,List.count_append,List.count_cons_self]
      have e:(((p.length:Int)).toNat + 0) = p.length:=by simp
      rw [e,show ((p.length:Int).toNat + [b].length) = p.length + 1 by simp]
      have e1:l.take p.length = p:=by rw [h1]; simp
      have e2:l.drop (p.length + 1) = r:=by rw [h1]; simp
      rw [e1,e2,qX b k r (by omega)]
theorem lA (b:UInt8):∀ (k:Nat) (l:List UInt8),l.length < k → Lib.countFrom [b] k l = l.count b
  | 0,l,h=>by omega
  | k + 1,l,h=>by
    unfold Lib.countFrom
    rcases kF b l with ⟨h1,h2⟩ | ⟨p,r,h1,h2,h3⟩
    · rw [h2]; simp; exact (List.count_eq_zero.2 h1).symm
    · rw [h3,if_neg (by simp),show ((p.length:Int).toNat + [b].length) = p.length + 1 by simp]
      have e2:l.drop (p.length + 1) = r:=by rw [h1]; simp
      have e3:l.length = p.length + (r.length + 1):=by rw [h1]; simp
      rw [e2,lA b k r (by omega),h1,List.count_append,List.count_cons_self,List.count_eq_zero.2 h2]; omega
/-! ### numerals -/
def sP (c:UInt8):Prop:=48 ≤ c.toNat ∧ c.toNat ≤ 57
def vP (a:Nat) (l:List UInt8):Nat:=l.foldl (fun a c=>a * 10 + (c.toNat - 48)) a
theorem tn {d:Nat} (h:d < 10):(UInt8.ofNat (48 + d)).toNat = 48 + d:=by
  rw [UInt8.toNat_ofNat']; omega
theorem hU (u:Nat):∀ c ∈ Lib.decDigits u,sP c:=by
  induction u using Nat.strongRecOn with
  | _ u ih=>
    intro c hc
    rw [Lib.decDigits] at hc
    split at hc
    · rw [List.mem_singleton.1 hc]
      have:=tn (d:=u) (by omega)
      unfold sP; omega
    · rcases List.mem_append.1 hc with h | h
      · exact ih (u / 10) (by omega) c h
      · rw [List.mem_singleton.1 h]
        have:=tn (d:=u % 10) (by omega)
        unfold sP; omega
theorem ny (u:Nat):vP 0 (Lib.decDigits u) = u:=by
  induction u using Nat.strongRecOn with
  | _ u ih=>
    rw [Lib.decDigits]
    split
    · rename_i h
      simp only [vP,List.foldl_cons,List.foldl_nil,tn h]; omega
    · have:=ih (u / 10) (by omega)
      unfold vP at this ⊢
      rw [List.foldl_append,this,List.foldl_cons,List.foldl_nil,tn (by omega)]; omega
theorem ot (u:Nat):Lib.decDigits u ≠ []:=by
  rw [Lib.decDigits]; split <;> simp
theorem Bk:∀ (l:List UInt8) (a:Nat),a ≤ vP a l
  | [],a=>Nat.le_refl _
  | c :: l,a=>by
    have:=Bk l (a * 10 + (c.toNat - 48))
    simp only [vP,List.foldl_cons] at this ⊢
    omega
theorem nn:∀ (l:List UInt8) (a:Nat),(∀ c ∈ l,sP c) → vP a l < 9223372036854775808 → Lib.parseUint10 a l = .ok (vP a l)
  | [],a,_,_=>rfl
  | c :: l,a,h,hv=>by
    have h1:48 ≤ c.toNat ∧ c.toNat ≤ 57:=h c (by simp)
    have h2:=Bk l (a * 10 + (c.toNat - 48))
    simp only [vP,List.foldl_cons] at hv h2
    simp only [Lib.parseUint10]
    rw [if_pos h1,if_neg (by omega),if_neg (by omega),nn l _ (fun d hd=>h d (by simp [hd])) hv]
    rfl
theorem o5 {n:Int} (h:0 ≤ n):Lib.itoa n = Lib.decDigits n.toNat:=by unfold Lib.itoa; rw [if_neg (by omega)]
theorem B8 {n:Int} (h:0 ≤ n) (h2:n ≤ 1000000000):Lib.atoiAll (Lib.itoa n) = .ok n:=by
  rw [o5 h]
  have hd:=hU n.toNat
  have hv:=ny n.toNat
  cases hl:Lib.decDigits n.toNat with
  | nil=>exact absurd hl (ot _)
  | cons c r=>
    rw [hl] at hd hv
    have hc:=hd c (by simp)
    unfold sP at hc
    unfold Lib.atoiAll
    dsimp only
    rw [if_neg (by omega)]
    unfold Lib.parseMag
    rw [if_neg (by simp),nn (c :: r) 0 hd (by omega),hv]
    simp only
    rw [if_neg (by omega),if_neg (by omega),if_neg (by omega)]
    congr 1; omega
def uk (l:List UInt8):Int:=
  if ¬ (1 ≤ l.length ∧ l.length ≤ 9) ∨ (1 < l.length ∧ l.head? = some 48) then -1 else if l.all (fun c=>decide (48 ≤ c.toNat ∧ c.toNat ≤ 57)) then (vP 0 l:Int) else -1
theorem s5 {u k:Nat} (hk:1 ≤ k) (h:u < 10 ^ k):Lib.nDigits u ≤ k:=by
  induction k generalizing u with
  | zero=>omega
  | succ k ih=>
    by_cases h10:u < 10
    · rw [Lib.nDigits_small h10]; omega
    · rw [Lib.nDigits_big h10]
      rcases Nat.eq_zero_or_pos k with h0 | h0
      · subst h0; simp at h; omega
      · have:=ih (u:=u / 10) h0 (by rw [Nat.pow_succ] at h; omega)
        omega
theorem tq (u:Nat) (h:10 ≤ u):(Lib.decDigits u).head? ≠ some 48:=by
  induction u using Nat.strongRecOn with
  | _ u ih=>
    rw [Lib.decDigits,dif_neg (by omega)]
    by_cases h1:u / 10 < 10
    · rw [Lib.decDigits,dif_pos h1]
      simp only [List.singleton_append,List.head?_cons,ne_eq,Option.some.injEq]
      intro e
      have:=congrArg UInt8.toNat e
      rw [tn h1] at this
      simp at this
      omega
    · have:=ih (u / 10) (by omega) (by omega)
      cases hl:Lib.decDigits (u / 10) with
      | nil=>exact absurd hl (ot _)
      | cons c r=>rw [hl] at this; simpa using this
theorem ke {n:Int} (h:0 ≤ n) (h2:n < 1000000000):uk (Lib.itoa n) = n:=by
  rw [o5 h]
  have hd:=hU n.toNat
  have hv:=ny n.toNat
  have hlen:=Lib.decDigits_length n.toNat
  have h1:=s5 (u:=n.toNat) (k:=9) (by decide) (by omega)
  have h3:=Lib.nDigits_pos n.toNat
  unfold uk
  rw [if_neg,if_pos,hv]
  · omega
  · rw [List.all_eq_true]; intro c hc; exact decide_eq_true (hd c hc)
  · rintro (h4 | ⟨h4,h5⟩)
    · omega
    · by_cases h10:n.toNat < 10
      · rw [Lib.nDigits_small h10] at hlen; omega
      · exact tq n.toNat (by omega) h5
theorem lX {n:Int} (h:0 ≤ n) {k:Nat} (hk:1 ≤ k) (h2:n < 10 ^ k):(Lib.itoa n).length ≤ k:=by
  rw [o5 h,Lib.decDigits_length]
  refine s5 hk ?_
  have:((n.toNat:Nat):Int) < ((10 ^ k:Nat):Int):=by
    rw [Int.toNat_of_nonneg h]; push_cast; exact h2
  exact Int.ofNat_lt.1 this
theorem py {n:Int} (h:0 ≤ n) {b:UInt8} (hb:b.toNat < 48):b ∉ Lib.itoa n:=by
  rw [o5 h]
  intro hm
  have:=hU _ b hm
  unfold sP at this; omega
abbrev Wd:=List UInt8
def aL (b:ByteArray):Wd:=b.data.toList
theorem fL (w:Wd):aL (bytes w) = w:=n7 w
theorem cU (b:ByteArray):bytes (aL b) = b:=om b
def eh (k:Int):Wd:=if k = 1 then [112,108,97,116,101] else if k = 2 then [98,101,97,109] else if k = 3 then [101,110,103,105,110,101] else if k = 4 then [116,97,110,107] else if k = 5 then [112,105,112,101] else []
def jr (x:HuM):List Wd:=aL x.name :: eh x.kind :: Lib.itoa x.first :: Lib.itoa x.last :: Lib.itoa x.lo :: Lib.itoa x.hi :: x.on.map aL
def lR:Wd:=[112,97,114,116]
def iL:Wd:=[97,100,100]
def fb:Wd:=[116,97,107,101]
def gR:Wd:=[115,119,97,112]
def chB (c:ChM):List Wd:=Lib.itoa c.day :: (if c.what = 1 then iL :: jr c.part else if c.what = 2 then [fb,aL c.name] else gR :: aL c.name :: jr c.part)
def de (x:HuM):List Wd:=lR :: jr x
def pq (p:ar):List (List Wd):=p.ship.map de ++ p.chs.map chB
def eO (r:List Wd):Wd:=bo 32 r ++ [10]
def fY (p:ar):Wd:=(pq p).flatMap eO
/-! ### reading -/
def zHu:HuM:=⟨.empty,0,0,0,[],0,0⟩
def th (w:Wd):Option Int:=if w = eh 1 then some 1 else if w = eh 2 then some 2 else if w = eh 3 then some 3 else if w = eh 4 then some 4 else if w = eh 5 then some 5 else none
def Gl (w:Wd):Int:=if w = [] then 0 else match th w with
  | some k=>k
  | none=>-1
def jG (w:Wd):Option Int:=match Lib.atoiAll w with
  | .ok v=>some v
  | _=>none
def di:List Wd → Option HuM
  | n :: k :: a :: b :: c :: d :: on=>match th k,jG a,jG b,jG c,jG d with
    | some k,some a,some b,some c,some d=>some ⟨bytes n,k,a,b,on.map bytes,c,d⟩
    | _,_,_,_,_=>none
  | _=>none
def chP : List Wd → Option ChM
  | d :: w :: r=>match jG d with
    | none=>none
    | some d=>if w = iL then (di r).map fun x=>⟨1,d, .empty,x⟩
      else if w = fb then match r with
        | [n]=>some ⟨2,d,bytes n,zHu⟩
        | _=>none
      else if w = gR then match r with
        | n :: r=>(di r).map fun x=>⟨3,d,bytes n,x⟩
        | []=>none
      else none
  | _=>none
def yq (r:List Wd) (p:ar):Option ar:=if r.head? = some lR then (di r.tail).map fun x=>⟨p.ship ++ [x],p.chs⟩ else (chP r).map fun c=>⟨p.ship,p.chs ++ [c]⟩
def rb:List Wd → ar → Option ar
  | [],_=>none
  | [l],p=>if l = [] then some p else none
  | r :: q :: rs,p=>match yq (cutAt 32 r) p with
    | none=>none
    | some p'=>rb (q :: rs) p'
def xA:List Wd → HuM
  | n :: k :: a :: b :: c :: d :: on=>⟨bytes n,Gl k,uk a,uk b,on.map bytes,uk c,uk d⟩
  | _=>zHu
def chR:List Wd → ChM
  | []=>⟨0,0, .empty,zHu⟩
  | d :: r=>if 2 < (d :: r).length ∧ r.head? = some iL then ⟨1,uk d, .empty,xA r.tail⟩
    else if (d :: r).length = 3 ∧ r.head? = some fb then ⟨2,uk d,bytes (r.tail.head?.getD []),zHu⟩
    else if 3 < (d :: r).length ∧ r.head? = some gR then ⟨3,uk d,bytes (r.tail.head?.getD []),xA r.tail.tail⟩
    else ⟨0,uk d, .empty,zHu⟩
def sC (s:Wd):Option ar:=rb (cutAt 10 s) ⟨[],[]⟩
/-! ### what is told of a part -/
structure jy (x:HuM):Prop where
  ok:pL x
  on:∀ n ∈ x.on,cg n = true
  len:x.on.length ≤ 12
theorem yG (s:ByteArray):∀ (n i:Nat),jd s i n = true → ∀ j,i ≤ j → j < i + n → mQ s j = true
  | 0,i,_,j,h1,h2=>by omega
  | n + 1,i,h,j,h1,h2=>by
    simp only [jd,Bool.and_eq_true] at h
    by_cases e:j = i
    · rw [e]; exact h.1
    · exact yG s n (i + 1) h.2 j (by omega) (by omega)
theorem ku {s:ByteArray} (h:cg s = true):(∀ c ∈ aL s,48 ≤ c.toNat) ∧ aL s ≠ [] ∧ (aL s).length ≤ 16:=by
  simp only [cg,Bool.and_eq_true,decide_eq_true_eq] at h
  obtain ⟨⟨h1,h2⟩,h3⟩:=h
  have hsz:(aL s).length = s.size:=by unfold aL; simp
  refine ⟨fun c hc=>?_,fun e=>by rw [e] at hsz; simp at hsz; omega,by omega⟩
  obtain ⟨i,hi,rfl⟩:=List.mem_iff_getElem.1 hc
  have:=yG s s.size 0 h3 i (by omega) (by omega)
  have hb:nh s i = ((aL s)[i]).toNat:=by
    have hi':i < s.data.size:=by rw [hsz] at hi; exact hi
    unfold nh aL
    rw [Array.getElem?_eq_getElem hi',Option.getD_some]; rfl
  simp only [mQ,letterF,nA,Bool.or_eq_true,Bool.and_eq_true,decide_eq_true_eq] at this
  omega
theorem rF {s:ByteArray} (h:cg s = true) {b:UInt8} (hb:b.toNat < 48):b ∉ aL s:=fun hm=>by
  have:=(ku h).1 b hm; omega
theorem Et (k:Int) {b:UInt8} (hb:b.toNat < 48):b ∉ eh k:=by
  have h97:∀ c ∈ eh k,48 ≤ c.toNat:=by
    unfold eh
    repeat' split
    all_goals decide
  exact fun hm=>by have:=h97 b hm; omega
theorem ja {x:HuM} (h:pL x):(1 ≤ x.kind ∧ x.kind ≤ 5) ∧ (0 ≤ x.first ∧ x.first ≤ 40) ∧ (0 ≤ x.last ∧ x.last ≤ 40) ∧ (1 ≤ x.lo ∧ x.lo ≤ 1000000) ∧ 1 ≤ x.hi ∧ x.hi ≤ 1000000:=by
  have h1:=h.range
  have h2:=h.span
  simp only [cP,bu,Bool.or_eq_false_iff,Bool.not_eq_false',Bool.and_eq_true,decide_eq_true_iff,beq_eq_false_iff_ne] at h1
  have h4:1 ≤ x.lo ∧ x.lo ≤ x.hi ∧ x.hi ≤ 1000000:=by
    unfold ew gi at h2
    dsimp only at h2
    by_cases hc:(!bu x.lo 1 1000000 || !bu x.hi 1 1000000) = true
    · rw [if_pos hc] at h2; exact absurd h2 (by omega)
    · rw [if_neg hc] at h2
      by_cases hg:x.lo > x.hi
      · rw [if_pos hg] at h2; exact absurd h2 (by omega)
      · simp [bu] at hc
        omega
  omega
theorem ub {x:HuM} (h:jy x) {b:UInt8} (hb:b.toNat < 48):∀ w ∈ jr x,b ∉ w:=by
  obtain ⟨_,h1,h2,h3,h4⟩:=ja h.ok
  intro w hw
  simp only [jr,List.mem_cons,List.mem_map] at hw
  rcases hw with rfl | rfl | rfl | rfl | rfl | rfl | ⟨n,hn,rfl⟩
  · exact rF h.ok.name hb
  · exact Et _ hb
  · exact py (by omega) hb
  · exact py (by omega) hb
  · exact py (by omega) hb
  · exact py (by omega) hb
  · exact rF (h.on n hn) hb
theorem rL:∀ l:List ByteArray,(l.map aL).map bytes = l
  | []=>rfl
  | a :: l=>by simp only [List.map_cons,cU,rL l]
theorem Fq {k:Int} (h:1 ≤ k ∧ k ≤ 5):th (eh k) = some k:=by
  rcases (by omega:k = 1 ∨ k = 2 ∨ k = 3 ∨ k = 4 ∨ k = 5) with rfl | rfl | rfl | rfl | rfl <;> decide
theorem jj {n:Int} (h:0 ≤ n) (h2:n ≤ 1000000000):jG (Lib.itoa n) = some n:=by unfold jG; rw [B8 h h2]
theorem vW {x:HuM} (h:jy x):di (jr x) = some x:=by
  obtain ⟨h0,h1,h2,h3,h4⟩:=ja h.ok
  unfold jr
  simp only [di,Fq h0,jj (n:=x.first) (by omega) (by omega),jj (n:=x.last) (by omega) (by omega),jj (n:=x.lo) (by omega) (by omega),jj (n:=x.hi) (by omega) (by omega),rL,cU]
theorem rI {x:HuM} (h:jy x):xA (jr x) = x:=by
  obtain ⟨h0,h1,h2,h3,h4⟩:=ja h.ok
  have hk:Gl (eh x.kind) = x.kind:=by
    rcases (by omega:x.kind = 1 ∨ x.kind = 2 ∨ x.kind = 3 ∨ x.kind = 4 ∨ x.kind = 5) with e | e | e | e | e <;> rw [e] <;> decide
  unfold jr
  simp only [xA,hk,ke (n:=x.first) (by omega) (by omega),ke (n:=x.last) (by omega) (by omega),ke (n:=x.lo) (by omega) (by omega),ke (n:=x.hi) (by omega) (by omega),rL,cU]
theorem kA (x:HuM):(jr x).length = x.on.length + 6:=by simp [jr]
/-! ### what is told of a change -/
structure qY (c:ChM):Prop where
  day:0 ≤ c.day ∧ c.day ≤ 40000
  what:c.what = 1 ∨ c.what = 2 ∨ c.what = 3
  name:c.what ≠ 1 → cg c.name = true
  none:c.what = 1 → c.name = .empty
  part:c.what ≠ 2 → jy c.part
  bare:c.what = 2 → c.part = zHu
theorem G6 {c:ChM} (h:qY c) {b:UInt8} (hb:b.toNat < 48):∀ w ∈ chB c,b ∉ w:=by
  have hw:b ∉ iL ∧ b ∉ fb ∧ b ∉ gR:=by
    refine ⟨fun hm=>?_,fun hm=>?_,fun hm=>?_⟩ <;>
    · simp [iL,fb,gR] at hm
      rcases hm with rfl | rfl | rfl | rfl <;> simp at hb
  intro w hm
  have h1:=h.what
  simp only [chB,List.mem_cons] at hm
  rcases hm with rfl | hm
  · exact py h.day.1 hb
  · split at hm
    · rcases List.mem_cons.1 hm with rfl | hm
      · exact hw.1
      · exact ub (h.part (by omega)) hb w hm
    · split at hm
      · simp only [List.mem_cons,List.not_mem_nil,or_false] at hm
        rcases hm with rfl | rfl
        · exact hw.2.1
        · exact rF (h.name (by omega)) hb
      · rcases List.mem_cons.1 hm with rfl | hm
        · exact hw.2.2
        · rcases List.mem_cons.1 hm with rfl | hm
          · exact rF (h.name (by omega)) hb
          · exact ub (h.part (by omega)) hb w hm
theorem IT {c:ChM} (h:qY c):chP (chB c) = some c:=by
  have hd:=jj h.day.1 (by have:=h.day.2; omega)
  obtain ⟨what,day,name,part⟩:=c
  unfold chB
  rcases h.what with e | e | e
  · dsimp only at e hd; subst e
    have h2:name = .empty:=h.none rfl
    subst h2
    rw [if_pos rfl]
    simp only [chP,hd,if_true]
    rw [vW (h.part (by intro e; cases e))]; rfl
  · dsimp only at e hd; subst e
    have h2:part = zHu:=h.bare rfl
    subst h2
    rw [if_neg (show ¬ (2:Int) = 1 by decide),if_pos rfl]
    simp only [chP,hd,if_neg (show ¬ fb = iL by decide),if_true,cU]
  · dsimp only at e hd; subst e
    rw [if_neg (show ¬ (3:Int) = 1 by decide),if_neg (show ¬ (3:Int) = 2 by decide)]
    simp only [chP,hd,if_neg (show ¬ gR = iL by decide),if_neg (show ¬ gR = fb by decide),if_true,cU]
    rw [vW (h.part (by intro e; cases e))]; rfl
theorem Gs {c:ChM} (h:qY c):chR (chB c) = c:=by
  have hd:=ke h.day.1 (by have:=h.day.2; omega)
  obtain ⟨what,day,name,part⟩:=c
  unfold chB
  rcases h.what with e | e | e
  · dsimp only at e hd; subst e
    have h2:name = .empty:=h.none rfl
    subst h2
    rw [if_pos rfl]
    unfold chR
    dsimp only
    rw [if_pos ⟨by simp [kA],rfl⟩]
    simp only [hd,List.tail_cons]
    rw [rI (h.part (by intro e; cases e))]
  · dsimp only at e hd; subst e
    have h2:part = zHu:=h.bare rfl
    subst h2
    rw [if_neg (show ¬ (2:Int) = 1 by decide),if_pos rfl]
    unfold chR
    dsimp only
    rw [if_neg (fun e=>absurd e.2 (by simp [fb,iL])),if_pos ⟨rfl,rfl⟩]
    simp only [hd,List.tail_cons,List.head?_cons,Option.getD_some,cU]
  · dsimp only at e hd; subst e
    rw [if_neg (show ¬ (3:Int) = 1 by decide),if_neg (show ¬ (3:Int) = 2 by decide)]
    unfold chR
    dsimp only
    rw [if_neg (fun e=>absurd e.2 (by simp [gR,iL])),if_neg (fun e=>absurd e.2 (by simp [gR,fb])),if_pos ⟨by simp [kA],rfl⟩]
    simp only [hd,List.tail_cons,List.head?_cons,Option.getD_some,cU]
    rw [rI (h.part (by intro e; cases e))]
theorem xh {c:ChM} (h:qY c):(chB c).head? ≠ some lR:=by
  intro e
  have e1:Lib.itoa c.day = lR:=by simpa [chB] using e
  have:(112:UInt8) ∈ Lib.itoa c.day:=by rw [e1]; decide
  rw [o5 h.day.1] at this
  have:=hU _ _ this
  unfold sP at this
  simp at this
/-! ### plans without an error can be told -/
theorem A6 {x:HuM} {before others:List HuM} (h:bn aP x before others = 0) (hb:∀ y ∈ before,cg y.name = true) (hl:before.length ≤ 12):jy x:=by
  obtain ⟨h1,_,h3⟩:=(o9 _ _ _).1 h
  refine ⟨h1,fun n hn=>?_, ?_⟩
  · obtain ⟨y,hy,rfl⟩:=(h3 n hn).1
    exact hb y hy
  · have hsub:x.on ⊆ before.map HuM.name:=fun n hn=>by
      obtain ⟨y,hy,rfl⟩:=(h3 n hn).1
      exact List.mem_map_of_mem hy
    have:=List.Nodup.length_le_of_subset h1.on hsub
    simp at this; omega
theorem DH {l:List HuM} (h:OkS l):∀ x ∈ l,jy x:=by
  intro x hx
  obtain ⟨a,b,rfl⟩:=List.append_of_mem hx
  have hon:=h.on a x b rfl
  refine ⟨h.part x hx,fun n hn=>?_,fC h x hx⟩
  obtain ⟨y,hy,rfl,_⟩:=hon n hn
  exact (h.part y (by simp [hy])).name
theorem Hc {l:List HuM} (hl:OkS l) {c:ChM} {last:Int} (h0:0 ≤ last) (h1:last ≤ c.day) (h2:c.day ≤ 40000) (h3:fj c = true) (h4:(aZ l c).2 = 0):qY c:=by
  have hnm:∀ y ∈ l,cg y.name = true:=fun y hy=>(hl.part y hy).name
  have hb:=h3
  simp only [fj,Bool.or_eq_true,Bool.and_eq_true,decide_eq_true_eq] at hb
  have hw:c.what = 1 ∨ c.what = 2 ∨ c.what = 3:=by
    rcases hb with (h | h) | h
    · exact .inl h.1
    · exact .inr (.inl h.1)
    · exact .inr (.inr h)
  have hname:c.what ≠ 1 → cg c.name = true:=fun hne=>by
    unfold aZ at h4
    rw [if_neg hne] at h4
    by_cases h5:findF l c.name < 0
    · rw [if_pos h5] at h4; exact absurd h4 (by decide)
    · obtain ⟨y,hy,e⟩:=(dw l c.name).1 (by omega)
      rw [← e]; exact hnm y hy
  refine ⟨⟨by omega,h2⟩,hw,hname,fun e=>?_,fun e=>?_,fun e=>?_⟩
  · rcases hb with (h | h) | h
    · exact h.2
    · omega
    · omega
  · unfold aZ at h4
    by_cases h6:c.what = 1
    · rw [if_pos h6] at h4
      by_cases h7:12 ≤ l.length
      · rw [if_pos h7] at h4; exact absurd h4 (by decide)
      · rw [if_neg h7] at h4
        exact A6 h4 hnm (by omega)
    · rw [if_neg h6] at h4
      by_cases h5:findF l c.name < 0
      · rw [if_pos h5] at h4; exact absurd h4 (by decide)
      rw [if_neg h5,if_neg e] at h4
      dsimp only at h4
      by_cases h8:bn aP c.part (l.take (findF l c.name).toNat) (kh l (findF l c.name).toNat) = 0
      · exact A6 h8 (fun y hy=>hnm y (List.mem_of_mem_take hy)) (by have:=hl.len; simp; omega)
      · rw [if_pos h8] at h4; exact absurd h4 h8
  · rcases hb with (h | h) | h
    · omega
    · have:=h.2
      simp only [iv,Bool.and_eq_true,decide_eq_true_eq] at this
      obtain ⟨⟨⟨⟨⟨⟨e1,e2⟩,e3⟩,e4⟩,e5⟩,e6⟩,e7⟩:=this
      generalize c.part = x at e1 e2 e3 e4 e5 e6 e7
      obtain ⟨n,k,a,b,on,lo,hi⟩:=x
      dsimp only at e1 e2 e3 e4 e5 e6 e7
      subst e1 e2 e3 e4 e5 e6 e7; rfl
    · omega
theorem tk:∀ {cs:List ChM} {l:List HuM} {last:Int},0 ≤ last → OkS l → Steps l cs last → ∀ c ∈ cs,qY c
  | [],_,_,_,_,_=>by simp
  | c :: r,l,last,h0,h,hs=>by
    cases hs with
    | cons h1 h2 h3 h4 h5=>
    intro d hd
    rcases List.mem_cons.1 hd with rfl | hd
    · exact Hc h h0 h1 h2 h3 h4
    · exact tk (by omega) ((fI h c).2 h4).2 h5 d hd
structure Told (p:ar):Prop where
  ship:∀ x ∈ p.ship,jy x
  chs:∀ c ∈ p.chs,qY c
  n1:p.ship.length ≤ 12
  n2:p.chs.length ≤ 8
theorem oL {p:ar} (h:OkP p):Told p:=⟨DH h.ship,tk (by omega) h.ship h.steps,h.ship.len,h.many⟩
/-! ### a text that is told is read az it was -/
theorem AV {b:UInt8}:∀ {l:List Wd},(∀ w ∈ l,b ∉ w) → b ≠ 32 → b ∉ bo 32 l
  | [],_,_=>by simp [bo]
  | [p],h,_=>h p (by simp)
  | p :: q :: r,h,hb=>by
    have ih:=AV (l:=q :: r) (fun w hw=>h w (by simp [hw])) hb
    simp only [bo,List.mem_append,List.mem_cons,not_or]
    exact ⟨h p (by simp),hb,ih⟩
theorem yW:∀ (rs:List (List Wd)),(∀ r ∈ rs,(10:UInt8) ∉ bo 32 r) → cutAt 10 (rs.flatMap eO) = rs.map (bo 32) ++ [[]]
  | [],_=>rfl
  | r :: rs,h=>by
    have ih:=yW rs fun x hx=>h x (by simp [hx])
    have e:(r :: rs).flatMap eO = bo 32 r ++ 10 :: rs.flatMap eO:=by simp [eO]
    rw [e,ik 10 _ _ (h r (by simp)),ih]; rfl
theorem sD:∀ (rs:List (List Wd)) (p:ar) (f:List Wd → ar → ar),(∀ r ∈ rs,cutAt 32 (bo 32 r) = r ∧ ∀ q,yq r q = some (f r q)) → rb (rs.map (bo 32) ++ [[]]) p = some (rs.foldl (fun q r=>f r q) p)
  | [],p,f,_=>by simp [rb]
  | r :: rs,p,f,h=>by
    obtain ⟨h1,h2⟩:=h r (by simp)
    have ih:=sD rs (f r p) f fun x hx=>h x (by simp [hx])
    simp only [List.map_cons,List.cons_append,List.foldl_cons]
    cases hq:rs.map (bo 32) ++ [[]] with
    | nil=>simp at hq
    | cons a t=>
      rw [hq] at ih
      simp only [rb,h1,h2]
      exact ih
theorem EW {p:ar} (h:Told p):∀ r ∈ pq p,(10:UInt8) ∉ bo 32 r ∧ cutAt 32 (bo 32 r) = r ∧ r ≠ []:=by
  intro r hr
  have key:∀ b:UInt8,b.toNat < 48 → ∀ w ∈ r,b ∉ w:=by
    intro b hb w hw
    rcases List.mem_append.1 hr with h1 | h1
    · obtain ⟨x,hx,rfl⟩:=List.mem_map.1 h1
      rcases List.mem_cons.1 hw with rfl | hw
      · intro hm; simp [lR] at hm; rcases hm with rfl | rfl | rfl | rfl <;> simp at hb
      · exact ub (h.ship x hx) hb w hw
    · obtain ⟨c,hc,rfl⟩:=List.mem_map.1 h1
      exact G6 (h.chs c hc) hb w hw
  have hne:r ≠ []:=by
    rcases List.mem_append.1 hr with h1 | h1
    · obtain ⟨x,hx,rfl⟩:=List.mem_map.1 h1; simp [de]
    · obtain ⟨c,hc,rfl⟩:=List.mem_map.1 h1; simp [chB]
  exact ⟨AV (key 10 (by decide)) (by decide),nJ 32 hne (key 32 (by decide)),hne⟩
def lU (p:ar) (r:List Wd):ar:=if r.head? = some lR then ⟨p.ship ++ [xA r.tail],p.chs⟩ else ⟨p.ship,p.chs ++ [chR r]⟩
theorem BD {p:ar} (h:Told p):(pq p).foldl lU ⟨[],[]⟩ = p:=by
  have h1:∀ (l:List HuM) (q:ar),(∀ x ∈ l,jy x) → (l.map de).foldl lU q = ⟨q.ship ++ l,q.chs⟩:=by
    intro l
    induction l with
    | nil=>intro q _; simp
    | cons x l ih=>
      intro q hq
      simp only [List.map_cons,List.foldl_cons]
      rw [ih _ fun y hy=>hq y (by simp [hy])]
      simp only [lU,de,List.head?_cons,if_true,List.tail_cons,rI (hq x (by simp)),List.append_assoc,List.singleton_append]
  have h2:∀ (l:List ChM) (q:ar),(∀ c ∈ l,qY c) → (l.map chB).foldl lU q = ⟨q.ship,q.chs ++ l⟩:=by
    intro l
    induction l with
    | nil=>intro q _; simp
    | cons x l ih=>
      intro q hq
      simp only [List.map_cons,List.foldl_cons]
      rw [ih _ fun y hy=>hq y (by simp [hy])]
      simp only [lU,if_neg (xh (hq x (by simp))),Gs (hq x (by simp)),List.append_assoc,List.singleton_append]
  unfold pq
  rw [List.foldl_append,h1 _ _ h.ship,h2 _ _ h.chs]
  rfl
theorem zr {p:ar} (h:Told p):sC (fY p) = some p:=by
  have hr:=EW h
  unfold sC fY
  rw [yW _ fun r hr'=>(hr r hr').1,sD _ _ (fun r q=>lU q r) fun r hr'=>⟨(hr r hr').2.1,fun q=>?_⟩]
  · exact congrArg some (BD h)
  · rcases List.mem_append.1 hr' with h1 | h1
    · obtain ⟨x,hx,rfl⟩:=List.mem_map.1 h1
      simp only [yq,lU,de,List.head?_cons,if_true,List.tail_cons,rI (h.ship x hx),vW (h.ship x hx),Option.map_some]
    · obtain ⟨c,hc,rfl⟩:=List.mem_map.1 h1
      simp only [yq,lU,if_neg (xh (h.chs c hc)),Gs (h.chs c hc),IT (h.chs c hc),Option.map_some]
def okB (p:ar):Bool:=decide ((bL p).2.2 = 0)
theorem A4 (p:ar):okB p = true ↔ OkP p:=by unfold okB; rw [decide_eq_true_eq,cF]
def qA (s:Wd):Option ar:=match sC s with
  | none=>none
  | some p=>if okB p && decide (fY p = s) then some p else none
theorem mL (s:Wd) (p:ar):qA s = some p ↔ OkP p ∧ fY p = s:=by
  unfold qA
  constructor
  · intro h
    cases hq:sC s with
    | none=>rw [hq] at h; cases h
    | some q=>
      rw [hq] at h
      dsimp only at h
      split at h
      · rename_i hc
        simp only [Bool.and_eq_true,A4,decide_eq_true_eq] at hc
        obtain rfl:=Option.some.inj h
        exact hc
      · cases h
  · rintro ⟨h1,rfl⟩
    rw [zr (oL h1)]
    dsimp only
    rw [if_pos]
    rw [Bool.and_eq_true,A4,decide_eq_true_eq]
    exact ⟨h1,rfl⟩
/-! ### how long a text is -/
theorem yN:∀ (l:List Wd),(bo 32 l).length ≤ (l.map List.length).sum + l.length
  | []=>by simp [bo]
  | [p]=>by simp [bo]
  | p :: q :: r=>by
    have:=yN (q :: r)
    simp only [bo,List.length_append,List.length_cons,List.map_cons,List.sum_cons] at this ⊢
    omega
theorem G9 (l:List ByteArray) (h:∀ n ∈ l,cg n = true):((l.map aL).map List.length).sum ≤ 16 * l.length:=by
  induction l with
  | nil=>simp
  | cons a l ih=>
    have h1:=(ku (h a (by simp))).2.2
    have h2:=ih fun n hn=>h n (by simp [hn])
    simp only [List.map_cons,List.sum_cons,List.length_cons] at h2 ⊢
    omega
theorem qg {x:HuM} (h:jy x):((jr x).map List.length).sum ≤ 232:=by
  obtain ⟨_,h1,h2,h3,h4⟩:=ja h.ok
  have hn:=(ku h.ok.name).2.2
  have ha:=lX (n:=x.first) (k:=2) (by omega) (by decide) (by omega)
  have hb:=lX (n:=x.last) (k:=2) (by omega) (by decide) (by omega)
  have hc:=lX (n:=x.lo) (k:=7) (by omega) (by decide) (by omega)
  have hd:=lX (n:=x.hi) (k:=7) (by omega) (by decide) (by omega)
  have hk:(eh x.kind).length ≤ 6:=by
    unfold eh
    repeat' split
    all_goals decide
  have hs:=G9 x.on h.on
  have hl:=h.len
  simp only [jr,List.map_cons,List.sum_cons]
  omega
theorem vM {p:ar} (h:Told p):∀ r ∈ pq p,(eO r).length ≤ 290:=by
  intro r hr
  have h0:=yN r
  have:(eO r).length = (bo 32 r).length + 1:=by simp [eO]
  rw [this]
  rcases List.mem_append.1 hr with h1 | h1
  · obtain ⟨x,hx,rfl⟩:=List.mem_map.1 h1
    have h2:=qg (h.ship x hx)
    have h3:=kA x
    have h4:=(h.ship x hx).len
    simp only [de,List.map_cons,List.sum_cons,List.length_cons] at h0 ⊢
    have h5:lR.length = 4:=rfl
    omega
  · obtain ⟨c,hc,rfl⟩:=List.mem_map.1 h1
    have ho:=h.chs c hc
    have hd:=lX (n:=c.day) (k:=5) ho.day.1 (by decide) (by have:=ho.day.2; omega)
    unfold chB at h0 ⊢
    rcases ho.what with e | e | e
    · rw [if_pos e] at h0 ⊢
      have h2:=qg (ho.part (by omega))
      have h3:=kA c.part
      have h4:=(ho.part (by omega)).len
      simp only [List.map_cons,List.sum_cons,List.length_cons,iL,List.length_nil] at h0 ⊢
      omega
    · rw [if_neg (by omega),if_pos e] at h0 ⊢
      have hn:=(ku (ho.name (by omega))).2.2
      simp only [List.map_cons,List.sum_cons,List.length_cons,fb,List.length_nil,List.map_nil,List.sum_nil] at h0 ⊢
      omega
    · rw [if_neg (by omega),if_neg (by omega)] at h0 ⊢
      have hn:=(ku (ho.name (by omega))).2.2
      have h2:=qg (ho.part (by omega))
      have h3:=kA c.part
      have h4:=(ho.part (by omega)).len
      simp only [List.map_cons,List.sum_cons,List.length_cons,gR,List.length_nil] at h0 ⊢
      omega
theorem yg:∀ (rs:List (List Wd)),(∀ r ∈ rs,(eO r).length ≤ 290) → (rs.flatMap eO).length ≤ 290 * rs.length
  | [],_=>by simp
  | r :: rs,h=>by
    have h1:=h r (by simp)
    have h2:=yg rs fun x hx=>h x (by simp [hx])
    simp only [List.flatMap_cons,List.length_append,List.length_cons]
    omega
theorem CN {p:ar} (h:Told p):(fY p).length ≤ 5800:=by
  have h1:=yg (pq p) (vM h)
  have h2:(pq p).length = p.ship.length + p.chs.length:=by simp [pq]
  have:=h.n1
  have:=h.n2
  unfold fY
  omega
end Go.AM
