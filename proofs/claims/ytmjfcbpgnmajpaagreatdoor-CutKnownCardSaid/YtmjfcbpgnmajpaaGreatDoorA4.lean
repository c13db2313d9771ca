/- The instructions that leave the abstract heap alone: each computes what the operation does. -/
import Derived.Test.YtmjfcbpgnmajpaaGreatDoorA3
namespace Go.AM
open Go.RowKit

section run
variable {P : Program} {s : St} {A : World} {ρ : AOpr → AVal} {ρ' : Operand → Value}

theorem and3 {a b c : Bool} (h : (a && b && c) = true) : a = true ∧ b = true ∧ c = true := by simp only [Bool.and_eq_true] at h; exact ⟨h.1.1, h.1.2, h.2⟩

theorem agree_list (ha : Agree s ρ ρ') : ∀ {l : List AOpr} {m : List Operand}, oksOpr l m = true → (l.map ρ).length = (m.map ρ').length ∧ ∀ j (h1 : j < (l.map ρ).length) (h2 : j < (m.map ρ').length), Rv s (l.map ρ)[j] (m.map ρ')[j]
  | [], [], _ => ⟨rfl, fun j h1 _ => by simp at h1⟩
  | a :: r, b :: t, h => by
    simp only [oksOpr, Bool.and_eq_true] at h
    obtain ⟨h1, h2⟩ := agree_list ha h.2
    refine ⟨by simpa using h1, fun j g1 g2 => ?_⟩
    cases j with
    | zero => exact ha a b h.1
    | succ j => have := h2 j (by simpa using g1) (by simpa using g2); simpa using this
  | [], _ :: _, h => by simp [oksOpr] at h
  | _ :: _, [], h => by simp [oksOpr] at h

/-- What memory says of a value that lies in it: read as a variable. -/
theorem run_loadVar_mem {t : TypeId} {k : Option Nat} {blk off : Nat} {v : AVal} {u : Value} (hk : kOk P t k = true) (hv : Rv s v u)
    (hs : match k with | none => v.scal = true | some n => u.cells.size = n ∧ ∃ vs, u = .agg vs)
    (hm : ∀ j (hj : j < u.cells.size), s.w.cell? ⟨blk, off + j, none⟩ = some u.cells[j]) : (loadVar t ⟨blk, off, none⟩).run P s.w = .ok u s.w := by
  unfold loadVar
  unfold kOk at hk
  cases k with
  | none =>
    have h1 : aggT (P.underlying t) = some false := by
      cases h : aggT (P.underlying t) with
      | none => simp [h] at hk
      | some b => cases b <;> simp [h] at hk ⊢
    have hc := scal_cells hv hs
    have h0 := hm 0 (by rw [hc]; simp)
    simp only [Nat.add_zero] at h0
    have h2 : u.cells[0]'(by rw [hc]; simp) = u := by simp [hc]
    rw [h2] at h0
    simp [Sem.run_bind, aggT_false h1, h0]
  | some n =>
    obtain ⟨hn, vs, rfl⟩ := hs
    have h1 : aggT (P.underlying t) = some true ∧ P.cellsOf t = n ∧ (P.info? t).isSome = true := by
      cases h : aggT (P.underlying t) with
      | none => simp [h] at hk
      | some b => cases b <;> simp [h] at hk ⊢; exact hk
    have hl := run_loadCells_list (P := P) s.w ⟨blk, off, none⟩ vs.toList (fun j v hj => by
      have hj' : j < vs.size := by
        rcases Nat.lt_or_ge j vs.size with h | h
        · exact h
        · simp [Array.getElem?_eq_none h] at hj
      have := hm j hj'
      rw [addr_add, this]
      simpa [Value.cells, Array.getElem?_eq_getElem hj'] using hj)
    simp only [Value.cells] at hn
    have hlen : vs.toList.length = n := by simpa using hn
    rw [hlen] at hl
    simp [Sem.run_bind, aggT_true h1.1, run_sizeOf_some h1.2.2, h1.2.1, hl]

theorem kOk_none {t : TypeId} (h : kOk P t none = true) : aggT (P.underlying t) = some false := by
  unfold kOk at h
  cases h' : aggT (P.underlying t) with
  | none => simp [h'] at h
  | some b => cases b <;> simp [h'] at h ⊢
theorem kOk_some {t : TypeId} {n : Nat} (h : kOk P t (some n) = true) : aggT (P.underlying t) = some true ∧ P.cellsOf t = n ∧ (P.info? t).isSome = true := by
  unfold kOk at h
  cases h' : aggT (P.underlying t) with
  | none => simp [h'] at h
  | some b => cases b <;> simp [h'] at h ⊢; exact h
theorem kOk_info {t : TypeId} {k : Option Nat} (h : kOk P t k = true) : (P.info? t).isSome = true := by
  cases k with
  | some n => exact (kOk_some h).2.2
  | none =>
    unfold kOk at h
    cases h' : aggT (P.underlying t) with
    | none => simp [h'] at h
    | some b => cases b <;> simp [h'] at h; exact h

/-- A part of a row of cells, read. -/
theorem load_part {t : TypeId} {k : Option Nat} (hk : kOk P t k = true) {cs : List AVal} {off blk o : Nat} {vs : Array Value} (hl : vs.size = cs.length)
    (h : ∀ j (h1 : j < cs.length) (h2 : j < vs.size), Rv s cs[j] vs[j]) (ho : partOk k cs off)
    (hm : ∀ j (hj : j < vs.size), s.w.cell? ⟨blk, o + j, none⟩ = some vs[j]) :
    ∃ u, (loadVar t ⟨blk, o + off, none⟩).run P s.w = .ok u s.w ∧ Rv s (partV k cs off) u := by
  obtain ⟨u, hu, hsh⟩ := partV_rv hl h ho
  refine ⟨u, run_loadVar_mem hk hu ?_ ?_, hu⟩
  · cases k with
    | none => exact ho.2
    | some n => simp only at hsh; subst hsh; simp only [partOk] at ho; refine ⟨?_, _, rfl⟩; simp [Value.cells]; omega
  · intro j hj
    cases k with
    | none =>
      simp only at hsh
      have hc := scal_cells hu ho.2
      have hj0 : j = 0 := by have : u.cells.size = 1 := by rw [hc]; rfl
                             omega
      subst hj0
      have h2 : u.cells[0]'(by rw [hc]; simp) = u := by simp [hc]
      obtain ⟨hlt, he⟩ := Array.getElem?_eq_some_iff.1 hsh
      rw [h2, Nat.add_zero, hm off hlt, he]
    | some n =>
      simp only at hsh
      subst hsh
      simp only [partOk] at ho
      simp only [Value.cells, Array.size_extract] at hj
      have := hm (off + j) (by omega)
      rw [Nat.add_assoc, this]
      simp [Value.cells]

theorem AHeap.get_some {σ : AHeap} {b : Nat} {o : AObj} (h : σ.get b = o) (hne : o ≠ .dead) : σ[b]? = some o := by
  unfold AHeap.get at h
  cases e : σ[b]? with
  | none => simp [List.getD, e] at h; exact absurd h.symm hne
  | some x => simp [List.getD, e] at h; rw [h]

/-- The cells of a value whose cells are known. -/
theorem Rv.cells {v : AVal} {c : Value} (h : Rv s v c) (hf : v.fine = true) :
    c.cells.size = v.cells.length ∧ ∀ j (g1 : j < v.cells.length) (g2 : j < c.cells.size), Rv s v.cells[j] c.cells[j] := by
  have hscal : v.scal = true → v.cells = [v] → c.cells.size = v.cells.length ∧ ∀ j (g1 : j < v.cells.length) (g2 : j < c.cells.size), Rv s v.cells[j] c.cells[j] := by
    intro hs hv
    have hc := scal_cells h hs
    have hj : c.cells.size = 1 := by rw [hc]; rfl
    refine ⟨by rw [hj, hv]; rfl, fun j g1 g2 => ?_⟩
    have : j = 0 := by omega
    subst this
    have e1 : v.cells[0] = v := by simp [hv]
    have e2 : c.cells[0] = c := by simp [hc]
    rw [e1, e2]; exact h
  cases v with
  | agg cs => obtain ⟨vs, rfl, h1, h2⟩ := h.agg_inv; exact ⟨h1, h2⟩
  | _ => first | exact hscal hf rfl | (simp [AVal.fine, AVal.scal] at hf)

theorem load_sound (hi : Inv A s) {t : TypeId} {k : Option Nat} (hk : kOk P t k = true) {v : AVal} {c : Value} (hv : Rv s v c) (ho : loadOk k s.h v) :
    ∃ u, (Instr.loadAt t c).run P s.w = .ok u s.w ∧ Rv s (loadV k s.h v) u := by
  unfold Instr.loadAt
  cases v with
  | pval v =>
    cases hv with
    | pval _ u blk off hv hm =>
      refine ⟨u, ?_, hv⟩
      simp only [Instr.sureAddr, Sem.run_bind, Sem.run_pure, Result.andThen_ok]
      refine run_loadVar_mem hk hv ?_ (fun j hj => (hm j hj).2)
      cases k with
      | none => exact ho
      | some n =>
        simp only [loadOk] at ho
        cases v with
        | agg cs =>
          obtain ⟨vs, rfl, hsz, _⟩ := hv.agg_inv
          exact ⟨by simp [Value.cells, hsz, ho], vs, rfl⟩
        | _ => exact ho.elim
  | ptr b off =>
    cases hv with
    | ptr _ _ blk hl =>
      simp only [loadOk] at ho
      cases hb : s.h.get b with
      | box cs =>
        rw [hb] at ho
        obtain ⟨blk', vs, el, hl', _, hh, hsz, hr, _⟩ := hi.obj b _ (AHeap.get_some hb (by simp))
        have : blk' = blk := by rw [hl] at hl'; simpa using hl'.symm
        subst this
        obtain ⟨u, h1, h2⟩ := load_part (P := P) (s := s) (blk := blk') (o := 0) hk hsz hr ho (fun j hj => by
          simp [World.cell?, hh, hj])
        simp only [Nat.zero_add] at h1
        refine ⟨u, ?_, by simpa [loadV, hb] using h2⟩
        simp [Instr.sureAddr, h1]
      | _ => rw [hb] at ho; exact ho.elim
  | eptr sz b i f n =>
    cases hv with
    | eptr _ _ _ _ _ blk cap hl =>
      simp only [loadOk] at ho
      cases hb : s.h.get b with
      | arr sz' xs =>
        rw [hb] at ho
        obtain ⟨rfl, hn, hin, hfine, hp⟩ := ho
        rcases (hi.obj b _ (AHeap.get_some hb (by simp))).2 with ⟨hx, _⟩ | ⟨blk', cap', vs, el, us, _, hl', _, hh, hsz, hc, hu, hr, hvs, _⟩
        · subst hx; simp at hn; omega
        · have : blk' = blk := by rw [hn, hl] at hl'; simp at hl'; exact hl'.1.symm
          subst this
          have h1 : i < xs.length := by omega
          have h2 : i < us.length := by omega
          obtain ⟨hri, hci⟩ := hr i h1 h2
          have hx : xs.getD i .undef = xs[i] := by simp [List.getD, List.getElem?_eq_getElem h1]
          rw [hx] at hp hfine
          have hcells := hri.cells hfine
          obtain ⟨u, h3, h4⟩ := load_part (P := P) (s := s) (blk := blk') (o := i * sz') hk hcells.1 hcells.2 hp (fun j hj => by
            have := hvs i j h2 hj
            simp [World.cell?, hh, this])
          refine ⟨u, ?_, by simpa [loadV, hb, List.getD, List.getElem?_eq_getElem h1] using h4⟩
          simp [Instr.sureAddr, h3]
      | _ => rw [hb] at ho; exact ho.elim
  | _ => exact ho.elim

end run
end Go.AM
