/- CutNone: what the law's call returns. -/
import Derived.Test.YtmjfcbpgnmajpaaGreatDoorP28
import Derived.Test.YtmjfcbpgnmajpaaGreatDoorUC2
namespace Go.AM
open Go.Proofs
set_option maxRecDepth 100000
set_option maxHeartbeats 1000000
theorem Tq {t:ah} (hf:t.Fit):tj t = true ↔ ¬ (cK t (aP t)).length < t.ar.length:=by
  have hpa:pop (aP t) = t.ar.length:=Ac _ hf.ship7
  constructor
  · intro h
    obtain ⟨q,hq,h0⟩:=(ew (t:=t) (s:=0)).1 h
    have hg:=(kX hf).go q hq
    have h1:=A7 hf hg
    have h2:=(iQ hf (bU hf) hg).2
    rw [h0,hpa,show pop 0 = 0 by decide] at h2
    omega
  · intro h
    obtain ⟨s,hg⟩:=AX hf
    have h2:=iQ hf (bU hf) hg
    rw [hpa] at h2
    have h3:=xO s h2.1 (by omega)
    subst h3
    obtain ⟨p,hp,e,_⟩:=vM (kX hf) _ _ 0 rfl hg
    exact ew.2 ⟨p,hp,e⟩
theorem TG {t:ah} {sets:List Int} (h:sets.all (qa t sets) = true):∀ {l:List Nat} {s s':Nat},sets.contains (s:Int) = true → goT t l s = some s' → sets.contains (s':Int) = true
  | [],s,s',hs,hg=>by
    rw [goT] at hg
    rw [← Option.some.inj hg]; exact hs
  | i :: r,s,s',hs,hg=>by
    rw [goT] at hg
    split at hg
    · rename_i hi
      have h1:=List.all_eq_true.1 h (s:Int) (by simpa using hs)
      have h2:=List.all_eq_true.1 h1 i (bg.2 hi)
      exact TG h h2 hg
    · cases hg
theorem TO {t:ah} (hf:t.Fit) {sets:List Int} (h:dN t sets = true):tj t = false:=by
  unfold dN at h
  simp only [Bool.and_eq_true] at h
  obtain ⟨⟨⟨_,h1⟩,h2⟩,h3⟩:=h
  cases he:tj t with
  | false=>rfl
  | true=>
    obtain ⟨q,hq,h0⟩:=(ew (t:=t) (s:=0)).1 he
    have hg:=(kX hf).go q hq
    rw [h0] at hg
    have:=TG h3 h1 hg
    simp at this h2
    exact absurd this h2
theorem u4 {t:ah} (hf:t.Fit) (hE:py t = 0) {x:Int}:x ∈ rH t ↔ ∃ s:Nat,hT t s = true ∧ x = (s:Int):=by
  rw [rH,if_pos hE, ← TV hf,upL,List.mem_map]
  constructor
  · rintro ⟨s,h1,h2⟩
    exact ⟨s,(List.mem_filter.1 h1).2,h2.symm⟩
  · rintro ⟨s,h1,rfl⟩
    exact ⟨s,List.mem_filter.2 ⟨List.mem_range.2 (S8 hf h1),h1⟩,rfl⟩
theorem TB {t:ah} (hc:(aN t).2.2 = 0) (he:tj t = false):py t = 0 ∧ iZ t (rH t) = 0 ∧ dN t (rH t) = true:=by
  have hf:=bm hc
  have hE:py t = 0:=by unfold py; rw [if_neg (by simp [hc]),he]; rfl
  have hpE:iZ t (rH t) = 0:=by
    have:(rH t).any (cO ((aP t:Nat) + 1:Int)) = false:=by
      rw [List.any_eq_false]
      intro x hx
      obtain ⟨s,hs,rfl⟩:=(u4 hf hE).1 hx
      have:=S8 hf hs
      have h2:aP t + 1 = 2 ^ t.ar.length:=by
        have:0 < 2 ^ t.ar.length:=Nat.pow_pos (by omega)
        unfold aP; omega
      simp [cO]
      omega
    unfold iZ
    rw [if_neg (by simp [hc]),this,if_neg (by simp)]
  refine ⟨hE,hpE, ?_⟩
  have h1:(rH t).contains ((aP t:Nat):Int) = true:=by
    simpa using (u4 hf hE).2 ⟨aP t,TX hf,rfl⟩
  have h2:(rH t).contains 0 = false:=by
    cases h:(rH t).contains 0 with
    | false=>rfl
    | true=>
      obtain ⟨s,hs,h0⟩:=(u4 hf hE (x:=0)).1 (by simpa using h)
      obtain rfl:s = 0:=by omega
      have:tj t = true:=hs
      rw [he] at this; cases this
  have h3:(rH t).all (qa t (rH t)) = true:=by
    rw [List.all_eq_true]
    intro x hx
    obtain ⟨s,hs,rfl⟩:=(u4 hf hE).1 hx
    unfold qa
    rw [List.all_eq_true]
    intro i hi
    have hi':=bg.1 hi
    simpa using (u4 hf hE).2 ⟨aK s i,Tk hf hs hi'.1 hi'.2,rfl⟩
  unfold dN
  rw [hpE,h1,h2,h3]; rfl
theorem Tr (t:ah) (hok:t.Ok) (l:List Int) (hl:l.length ≤ maxLen) (x:List Int) (hx:nt x) (haw:∀ σ,Spec Tryz.prog Uu [] σ fun r σ'=>r = .ret (.bool true) ∧ σ' = σ) :
    Spec Tryz.prog F_8 [t.v, .slice 1 (l.map ii'), .slice 1 (x.map bb')] [] fun r _=>r = .ret (.bool true):=by
  have h1:=fun σ=>fj t hok σ
  have h2:=fun σ=>S2 t hok σ
  have h3:=fun σ=>dA t hok σ
  have h4:=fun σ=>kz t hok l hl σ
  simp only [gX] at h1
  simp only [tg] at h2
  simp only [CY] at h4
  refine (Classical.em ((aN t).2.2 = 0)).elim (fun h=>?_) (fun h=>?_)
  rotate_left
  · have he:eK t = (aN t).2.2:=by unfold eK; rw [if_pos h]
    have hp:py t = (aN t).2.2:=by unfold py; rw [if_pos h]
    have hpl:rH t = []:=by unfold rH; rw [if_neg (by rw [hp]; exact h)]
    rw [he] at h1
    rw [hp,hpl] at h2
    refine S_8 (by simp) (dm _ ?_)
    simp [C_8,ah.v,ah.cells]
    refine aj.pure zi (h1 _) ?_
    simp
    refine aj.pure Qv (h2 _) ?_
    simp
    refine aj.aD ra (h3 _) (congrArg ab.bool (decide_eq_false h)) ?_
    simp [h]
    exact aj.pure ka (haw _) (by simp [h])
  have hf:=bm h
  have hpe7:iZ t l = 0 ∨ iZ t l = 7:=by
    unfold iZ
    rw [if_neg (by simp [h])]
    split
    · exact .inr rfl
    · exact .inl rfl
  obtain ⟨g,hg⟩:∃ g,iZ t l = g:=⟨_,rfl⟩
  obtain ⟨b,hb⟩:∃ b,dN t l = b:=⟨_,rfl⟩
  have hgI:¬ (g = 0) → g = 7:=fun e=>by
    rw [hg] at hpe7
    exact hpe7.resolve_left e
  have hg07:g = 0 ∨ g = 7:=(Classical.em (g = 0)).elim .inl (fun e=>.inr (hgI e))
  rw [hg,hb] at h4
  refine (tf (tj t)).elim (fun hem=>?_) (fun hem=>?_)
  · have hW:(cK t (aP t)).length < t.ar.length:=by
      have:=Tq hf
      rw [hem] at this
      exact Decidable.byContradiction fun e=>by simpa using this.2 e
    have he:eK t = 9:=by unfold eK; rw [if_neg (by simp [h]),if_pos hW]
    obtain ⟨hp,hq,hr⟩:=TB h hem
    rw [he] at h1
    rw [hp] at h2
    have h5:=fun σ=>kz t hok (rH t) (Tf t) σ
    simp only [CY,hq,hr] at h5
    have hgood:=fun σ=>fN t hok hf x hx 7 σ
    obtain ⟨gs,hgg,_⟩:=nV t (dL x) 7
    have hgl:=A7 hf hgg
    have hglt:(qk t (dL x) 7).length < t.ar.length:=by omega
    refine S_8 (by simp) (dm _ ?_)
    simp [C_8,ah.v,ah.cells]
    refine aj.pure zi (h1 _) ?_
    simp
    refine aj.pure Qv (h2 _) ?_
    simp
    refine aj.aD ra (h3 _) (congrArg ab.bool (decide_eq_true h)) ?_
    simp
    refine aj.pure K1 (h4 _) ?_
    simp
    refine ⟨fun _=>⟨hg07,fun hbt=>⟨hg07,hbt⟩⟩,fun _=>hg07,hgI,fun _=>?_⟩
    refine aj.pure K1 (h5 _) ?_
    simp
    refine ⟨.slice 1 ((qk t (dL x) 7).map nn'),fun σ'=>aC.func BI (hgood σ'), ?_⟩
    simp [hglt]
    exact ⟨.bool true,fun σ'=>aC.func ka (haw σ'),by simp⟩
  · have hW:¬ (cK t (aP t)).length < t.ar.length:=(Tq hf).1 hem
    have he:eK t = 0:=by unfold eK; rw [if_neg (by simp [h]),if_neg hW]
    have hp:py t = 9:=by unfold py; rw [if_neg (by simp [h]),hem]; rfl
    have hpl:rH t = []:=by unfold rH; rw [if_neg (by rw [hp]; decide)]
    have hbf:b = false:=by
      cases hbv:b with
      | false=>rfl
      | true=>
        rw [hbv] at hb
        have:=TO hf hb
        rw [hem] at this; cases this
    rw [he] at h1
    rw [hp,hpl] at h2
    rw [hbf] at h4
    refine S_8 (by simp) (dm _ ?_)
    simp [C_8,ah.v,ah.cells]
    refine aj.pure zi (h1 _) ?_
    simp
    refine aj.pure Qv (h2 _) ?_
    simp
    refine aj.aD ra (h3 _) (congrArg ab.bool (decide_eq_true h)) ?_
    simp
    refine aj.pure K1 (h4 _) ?_
    simp
    exact ⟨fun _=>hg07,hgI,fun _=>aj.pure ka (haw _) (by simp)⟩
end Go.AM
