/- A struct, or a cell, whose nil slice has its own room; a slice in a cell is handed on for good. -/
import Derived.Test.YtmjfcbpgnmajpaaGreatDoorA9D
namespace Go.AM
open Go.RowKit

section
variable {P : Program} {s : St} {A : World} {ρ : AOpr → AVal} {ρ' : Operand → Value} {K Kp : AVal → AHeap → Prop}

theorem CallPost.from {s1 : St} (hg : Goes s s1) {Q : ARes → AHeap → Prop} {e : Ending} {w : World} (h : CallPost A s1 Q e w) : CallPost A s Q e w :=
  let ⟨r, s', a, b, c, d, q⟩ := h; ⟨r, s', a, b, hg.trans c, d, q⟩

theorem StepOk.from {s1 : St} (hg : Goes s s1) {r : Result Next} (h : StepOk P A s1 K Kp r) : StepOk P A s K Kp r := by
  cases r with
  | ok v w =>
    cases v with
    | value c => obtain ⟨v, s', a, b, c, d, e⟩ := h; exact ⟨v, s', a, b, hg.trans c, d, e⟩
    | skip => obtain ⟨v, s', a, b, c, d, e⟩ := h; exact ⟨v, s', a, b, hg.trans c, d, e⟩
    | enter f args => exact Calls.mono h fun _ _ hp => hp.from hg
    | round l f tmps asg body => exact fun ro => (h ro).mono fun _ _ hp => hp.from hg
    | _ => exact h
  | halt x w =>
    cases x with
    | panic c => obtain ⟨v, s', a, b, c, d, e⟩ := h; exact ⟨v, s', a, b, hg.trans c, d, e⟩
    | _ => exact h

theorem buildm_sound (hi : Inv A s) (ha : Agree s ρ ρ') {t : TypeId} {z : List AVal} {ps : List (Nat × Nat × AOpr)} {parts : Array (Nat × Operand)}
    (hz : zeroOk P t (z.map AVal.unmint) = true) (ht : typesIn P t = true) (hp : partsOk P t ps parts.toList = true) (ho : fillOk (mintL z s.h.length).1.length ρ ps)
    (h : K (.agg (fillV (mintL z s.h.length).1 (ps.map fun p => (p.1, (ρ p.2.2).cells)))) (s.h ++ (mintL z s.h.length).2)) :
    StepOk P A s K Kp ((do pure (Next.value (← Instr.build t (parts.map fun x => (x.1, ρ' x.2)))) : Sem Next).run P s.w) := by
  unfold zeroOk at hz
  cases hinfo : P.info? t with
  | none => simp [hinfo] at hz
  | some i =>
    cases hzero : i.zero with
    | none => simp [hinfo, hzero] at hz
    | some v =>
      simp only [hinfo, Option.bind_some, hzero] at hz
      obtain ⟨s1, a1, a2, a3, a4, a5, a6⟩ := hi.mints hz
      have hrow : Row s1 (mintL z s.h.length).1 v.cells := ⟨by simpa using a5.symm, fun j h1 h2 => by
        have := a6 j h1 (by simpa using h2)
        simpa using this⟩
      obtain ⟨c, e1, e2⟩ := build_sound0 (P := P) (ha.keeps a4.keeps) ⟨v, by simp [zeroValue, typeInfo, hinfo, hzero], hrow⟩ ht hp ho
      refine StepOk.value (run_execOp_v _ _ _ _ (a2 ▸ e1)) rfl a3 a4 e2 ?_
      rw [a1]; exact h

theorem storem_sound (hi : Inv A s) {t : TypeId} {sz : Nat} (ht : P.cellsOf t = 1) (hinf : (P.info? t).isSome = true) {a : AVal} {c : Value} (hac : Rv s a c)
    (ho : storeOk (s.h ++ [.spare sz 0]) 1 (.oslice sz [] s.h.length 0) a) (h : K .undef (storeV (s.h ++ [.spare sz 0]) (.oslice sz [] s.h.length 0) a)) :
    StepOk P A s K Kp ((do Instr.storeAt t c (.slice none 0 0); pure Next.skip : Sem Next).run P s.w) := by
  obtain ⟨s1, e1, e2, i1, g1, d1⟩ := hi.one
  obtain ⟨s2, f1, f2, i2, g2, k2, _⟩ := i1.fill_spare d1 sz none 0
  have h2 : s2.h = s.h ++ [.spare sz 0] := by rw [f1, e1]; exact set_last _ _ _
  have hw : s2.w = s.w := f2.trans e2
  rw [← h2] at ho h
  rw [← hw]
  exact StepOk.from (g1.trans g2) (store_sound i2 ht hinf (hac.keeps (g1.trans g2).keeps) (.oslice _ _ _ _ _ (.slice0 sz _ _) k2) ho h)

/-- A cell's contents, told in other words. -/
theorem Inv.box_recast (hi : Inv A s) {b : Nat} {cs cs' : List AVal} (hb : s.h[b]? = some (.box cs)) (hl : cs'.length = cs.length)
    (hr : ∀ (vs : Array Value), vs.size = cs.length → (∀ j (h1 : j < cs.length) (h2 : j < vs.size), Rv s cs[j] vs[j]) → (∃ blk el, s.lam b 0 = some (.pointer (some ⟨blk, 0, none⟩)) ∧ s.w.heap[blk]? = some (.cells vs el (0, 0))) → ∀ j (h1 : j < cs'.length) (h2 : j < vs.size), Rv s cs'[j] vs[j]) :
    ∃ s', s'.h = s.h.set b (.box cs') ∧ s'.w = s.w ∧ Inv A s' ∧ Goes s s' := by
  have hblt : b < s.h.length := (List.getElem?_eq_some_iff.1 hb).1
  obtain ⟨blk, vs, el, hlam, hB, hh, hsz, hrv, hnS⟩ := hi.obj b _ hb
  have hown : Owns s b (.box cs) blk := hlam
  let s' : St := { h := s.h.set b (.box cs'), lam := s.lam, S := s.S, w := s.w }
  have hk : Keeps s s' := ⟨fun _ _ _ h => h, fun _ _ h => h, fun _ _ _ => rfl⟩
  have hrv' := hr vs hsz hrv ⟨blk, el, hlam, hh⟩
  have hgo := hi.change (s' := s') hblt rfl hk hi.below (Nat.le_refl _) (fun _ _ _ => rfl) (fun _ _ _ => rfl)
    ⟨blk, vs, el, hlam, hB, hh, by omega, fun j h1 h2 => (hrv' j h1 h2).keeps hk, hnS⟩
    (fun g ho => by
      have e : s.lam b 0 = some (.pointer (some ⟨g, 0, none⟩)) := ho
      rw [hlam] at e
      have : blk = g := by simpa using e
      right; rw [← this]; exact ⟨_, hb, hown⟩)
    (fun _ _ h => .inl h) hi.scell
  exact ⟨s', rfl, rfl, hgo.1, hgo.2⟩

/-- A slice that lies in a cell is handed on for good. -/
theorem Inv.cell_freeze (hi : Inv A s) {b b' off o len n sz : Nat} {cs xs : List AVal} (hb : s.h[b]? = some (.box cs)) (hc : cs[off]? = some (.sref sz b' o len n)) (hb' : s.h[b']? = some (.arr sz xs)) (hn : xs.length = n) :
    ∃ s', s'.h = (s.h.set b' .dead).set b (.box (cs.set off (.slice sz ((xs.drop o).take len)))) ∧ s'.w = s.w ∧ Inv A s' ∧ Goes s s' := by
  obtain ⟨hoff, hc⟩ := List.getElem?_eq_some_iff.1 hc
  have hne : b' ≠ b := fun e => by subst e; rw [hb] at hb'; cases hb'
  obtain ⟨blk, vs, el, hlam, hB, hh, hsz, hrv, hnS⟩ := hi.obj b _ hb
  have h0 := hrv off hoff (by omega)
  rw [hc] at h0
  obtain ⟨s1, e1, e2, i1, g1, r1⟩ := hi.arr_freeze hb' h0 hn
  have hb1 : s1.h[b]? = some (.box cs) := by rw [e1, List.getElem?_set_ne hne]; exact hb
  obtain ⟨s2, f1, f2, i2, g2⟩ := i1.box_recast hb1 (cs' := cs.set off (.slice sz ((xs.drop o).take len))) (by simp) fun vs2 hs2 hr2 ⟨blk2, el2, hl2, hh2⟩ j h1 h2 => by
    have hlam1 := g1.keeps.lam _ _ _ hlam
    rw [hlam1] at hl2
    have : blk2 = blk := by simpa using hl2.symm
    subst this
    rw [e2, hh] at hh2
    have : vs2 = vs := by simp at hh2; exact hh2.1.symm
    subst this
    by_cases hj : off = j
    · subst hj
      simpa using r1
    · rw [List.getElem_set_ne hj]
      exact hr2 j (by simpa using h1) h2
  exact ⟨s2, by rw [f1, e1], f2.trans e2, i2, g1.trans g2⟩
end
end Go.AM
