/- How a state changes: one block of the abstract heap changed, new memory beside it, a block more. -/
import Derived.Test.YtmjfcbpgnmajpaaGreatDoorA0
namespace Go.AM
open Go.RowKit

theorem Owns.back {s s' : St} {B b : Nat} {o : AObj} {blk : Nat} (hk : Keeps s s') (ho : ObjOk s B b o) (h : Owns s' b o blk) : Owns s b o blk := by
  cases o with
  | dead => exact h
  | hole => exact h
  | box cs =>
    obtain ⟨bk, vs, el, hl, _⟩ := ho
    have h' : s'.lam b 0 = some (.pointer (some ⟨blk, 0, none⟩)) := h
    rw [hk.lam _ _ _ hl] at h'
    show s.lam b 0 = _
    rw [hl]; exact h'
  | arr sz xs =>
    obtain ⟨cap, h0, h'⟩ := h
    rcases ho.2 with ⟨hx, a, hl⟩ | ⟨bk, cp, vs, el, us, _, hl, _⟩
    · subst hx; rw [List.length_nil, hk.lam _ _ _ hl] at h'; simp at h'; omega
    · rw [hk.lam _ _ _ hl] at h'
      exact ⟨cap, h0, by rw [hl]; exact h'⟩
  | spare sz k =>
    obtain ⟨off, len, cap, h', hlt⟩ := h
    obtain ⟨_, a, len', cap', hl, _⟩ := ho
    rw [hk.lam _ _ _ hl] at h'
    exact ⟨off, len, cap, by rw [hl]; exact h', hlt⟩
  | amap es =>
    obtain ⟨bk, ms, clock, hl, _⟩ := ho
    have h' : s'.lam b 0 = some (.map (some blk)) := h
    rw [hk.lam _ _ _ hl] at h'
    show s.lam b 0 = _
    rw [hl]; exact h'
  | siter x pos =>
    obtain ⟨bk, hl, _⟩ := ho
    have h' : s'.lam b 0 = some (.pointer (some ⟨blk, 0, none⟩)) := h
    rw [hk.lam _ _ _ hl] at h'
    show s.lam b 0 = _
    rw [hl]; exact h'
  | looprec N e ps asg body D st pend =>
    obtain ⟨bk, l, hl, _⟩ := ho
    have h' : s'.lam b 0 = some (.func (.yield blk) #[] #[]) := h
    rw [hk.lam _ _ _ hl] at h'
    show s.lam b 0 = _
    rw [hl]; exact h'
  | dfr =>
    obtain ⟨bk, hl, _⟩ := ho
    have h' : s'.lam b 0 = some (.map (some blk)) := h
    rw [hk.lam _ _ _ hl] at h'
    show s.lam b 0 = _
    rw [hl]; exact h'

theorem Owns.forth {s s' : St} {b : Nat} {o : AObj} {blk : Nat} (hk : Keeps s s') (h : Owns s b o blk) : Owns s' b o blk := by
  cases o with
  | dead => exact h
  | hole => exact h
  | box cs => exact hk.lam _ _ _ h
  | arr sz xs => obtain ⟨cap, h0, h'⟩ := h; exact ⟨cap, h0, hk.lam _ _ _ h'⟩
  | spare sz k => obtain ⟨off, len, cap, h', hlt⟩ := h; exact ⟨off, len, cap, hk.lam _ _ _ h', hlt⟩
  | amap es => exact hk.lam _ _ _ h
  | siter x pos => exact hk.lam _ _ _ h
  | looprec => exact hk.lam _ _ _ h
  | dfr => exact hk.lam _ _ _ h

theorem ObjOk.keep {s s' : St} {B b : Nat} {o : AObj} (hk : Keeps s s') (hheap : ∀ blk, Owns s b o blk → s'.w.heap[blk]? = s.w.heap[blk]?)
    (hS : ∀ blk x, Owns s b o blk → s'.S blk x → s.S blk x) (hl : ∀ k, s'.lam b k = s.lam b k) (h : ObjOk s B b o) : ObjOk s' B b o := by
  cases o with
  | dead => trivial
  | hole => exact fun k => (hl k).trans (h k)
  | box cs =>
    obtain ⟨blk, vs, el, hl, hB, hh, hsz, hr, hn⟩ := h
    exact ⟨blk, vs, el, hk.lam _ _ _ hl, hB, (hheap blk hl).trans hh, hsz, fun j h1 h2 => (hr j h1 h2).keeps hk, fun x hx => hn x (hS blk x hl hx)⟩
  | arr sz xs =>
    obtain ⟨hno, h⟩ := h
    refine ⟨fun k hk' => (hl k).trans (hno k hk'), ?_⟩
    rcases h with ⟨hx, a, hl⟩ | ⟨blk, cap, vs, el, us, h0, hl, hB, hh, hsz, hc, hu, hr, hv, hn⟩
    · exact .inl ⟨hx, a, hk.lam _ _ _ hl⟩
    · have ho : Owns s b (.arr sz xs) blk := ⟨cap, h0, hl⟩
      exact .inr ⟨blk, cap, vs, el, us, h0, hk.lam _ _ _ hl, hB, (hheap blk ho).trans hh, hsz, hc, hu, fun i h1 h2 => ⟨(hr i h1 h2).1.keeps hk, (hr i h1 h2).2⟩, hv, fun x hx => hn x (hS blk x ho hx)⟩
  | spare sz k =>
    obtain ⟨hno, a, len, cap, hl', hle, hx⟩ := h
    refine ⟨fun k' hk' => (hl k').trans (hno k' hk'), a, len, cap, hk.lam _ _ _ hl', hle, fun hlt => ?_⟩
    obtain ⟨blk, off, vs, el, ha, hB, hh, hsz, hn⟩ := hx hlt
    have ho : Owns s b (.spare sz k) blk := ⟨off, len, cap, ha ▸ hl', hlt⟩
    exact ⟨blk, off, vs, el, ha, hB, (hheap blk ho).trans hh, hsz, fun x hx hs => hn x hx (hS blk x ho hs)⟩
  | amap es =>
    obtain ⟨blk, ms, clock, hl, hB, hh, hsz, hr, hn⟩ := h
    exact ⟨blk, ms, clock, hk.lam _ _ _ hl, hB, (hheap blk hl).trans hh, hsz, fun j h1 h2 => ⟨(hr j h1 h2).1.keeps hk, (hr j h1 h2).2.keeps hk⟩, fun x hx => hn x (hS blk x hl hx)⟩
  | siter x pos =>
    obtain ⟨blk, hl, hB, hh, hn⟩ := h
    exact ⟨blk, hk.lam _ _ _ hl, hB, (hheap blk hl).trans hh, fun x hx => hn x (hS blk x hl hx)⟩
  | looprec N e ps asg body D st pend =>
    obtain ⟨blk, l, hl', hB, hh, ⟨h1, h2, h3, h4, h5, h6, d, h7, h8⟩, hr, hn⟩ := h
    exact ⟨blk, l, hk.lam _ _ _ hl', hB, (hheap blk hl').trans hh, ⟨h1, h2, h3, h4, h5, h6, d, hk.lam _ _ _ h7, h8⟩, fun t => (hr t).keeps hk, fun x hx => hn x (hS blk x hl' hx)⟩
  | dfr =>
    obtain ⟨blk, hl, hB, hh, hn⟩ := h
    exact ⟨blk, hk.lam _ _ _ hl, hB, (hheap blk hl).trans hh, fun x hx => hn x (hS blk x hl hx)⟩

/-- An owned block lies in the world, and not below the beginning. -/
theorem ObjOk.owns_lt {s : St} {B b : Nat} {o : AObj} {blk : Nat} (h : ObjOk s B b o) (ho : Owns s b o blk) : B ≤ blk ∧ blk < s.w.heap.size := by
  have lt : ∀ {o' : Obj} {k : Nat}, s.w.heap[k]? = some o' → k < s.w.heap.size := fun e => (Array.getElem?_eq_some_iff.1 e).1
  cases o with
  | dead => exact ho.elim
  | hole => exact ho.elim
  | box cs =>
    obtain ⟨bk, vs, el, hl, hB, hh, _⟩ := h
    have : bk = blk := by have e : s.lam b 0 = _ := ho; rw [hl] at e; simpa using e
    subst this; exact ⟨hB, lt hh⟩
  | arr sz xs =>
    obtain ⟨cap, h0, e⟩ := ho
    rcases h.2 with ⟨hx, a, hl⟩ | ⟨bk, cp, vs, el, us, _, hl, hB, hh, _⟩
    · subst hx; rw [List.length_nil, hl] at e; simp at e; omega
    · have : bk = blk := by rw [hl] at e; simp at e; exact e.1
      subst this; exact ⟨hB, lt hh⟩
  | spare sz k =>
    obtain ⟨off, len, cap, e, hlt⟩ := ho
    obtain ⟨_, a, len', cap', hl, _, hx⟩ := h
    rw [hl] at e
    simp at e
    obtain ⟨rfl, rfl, rfl⟩ := e
    obtain ⟨bk, off', vs, el, ha, hB, hh, _⟩ := hx hlt
    simp at ha
    obtain ⟨rfl, rfl⟩ := ha
    exact ⟨hB, lt hh⟩
  | amap es =>
    obtain ⟨bk, ms, clock, hl, hB, hh, _⟩ := h
    have : bk = blk := by have e : s.lam b 0 = _ := ho; rw [hl] at e; simpa using e
    subst this; exact ⟨hB, lt hh⟩
  | siter x pos =>
    obtain ⟨bk, hl, hB, hh, _⟩ := h
    have : bk = blk := by have e : s.lam b 0 = _ := ho; rw [hl] at e; simpa using e
    subst this; exact ⟨hB, lt hh⟩
  | looprec N e ps asg body D st pend =>
    obtain ⟨bk, l, hl, hB, hh, _⟩ := h
    have : bk = blk := by have e : s.lam b 0 = _ := ho; rw [hl] at e; simpa using e
    subst this; exact ⟨hB, lt hh⟩
  | dfr =>
    obtain ⟨bk, hl, hB, hh, _⟩ := h
    have : bk = blk := by have e : s.lam b 0 = _ := ho; rw [hl] at e; simpa using e
    subst this; exact ⟨hB, lt hh⟩

/-- The block number b of the abstract heap owns blk. -/
def OwnsAt (s : St) (b blk : Nat) : Prop := ∃ o, s.h[b]? = some o ∧ Owns s b o blk

/-- ONE BLOCK OF THE ABSTRACT HEAP CHANGES (and with it the world's block that it owns, if any); new memory may have come. -/
theorem Inv.change {A : World} {s s' : St} {b : Nat} {o' : AObj} (hi : Inv A s) (hb : b < s.h.length) (hh : s'.h = s.h.set b o') (hk : Keeps s s')
    (hbel : Below A.heap.size A s'.w) (hsz : s.w.heap.size ≤ s'.w.heap.size) (hlam : ∀ b' k, b' ≠ b → s'.lam b' k = s.lam b' k)
    (hheap : ∀ blk, blk < s.w.heap.size → ¬ OwnsAt s b blk → s'.w.heap[blk]? = s.w.heap[blk]?)
    (hobj : ObjOk s' A.heap.size b o') (hown : ∀ blk, Owns s' b o' blk → s.w.heap.size ≤ blk ∨ OwnsAt s b blk)
    (hS : ∀ blk x, s'.S blk x → s.S blk x ∨ s.w.heap.size ≤ blk ∨ OwnsAt s b blk) (hSc : ∀ blk x, s'.S blk x → blk < s'.w.heap.size) :
    Inv A s' ∧ Goes s s' := by
  have hother : ∀ b' o, b' ≠ b → s'.h[b']? = some o → s.h[b']? = some o := fun b' o hne he => by
    rw [hh, List.getElem?_set_ne (by omega)] at he; exact he
  have hself : ∀ o, s'.h[b]? = some o → o = o' := fun o he => by
    rw [hh, List.getElem?_set_self hb] at he; exact (Option.some.inj he).symm
  have hlt : ∀ b' o blk, s.h[b']? = some o → Owns s b' o blk → blk < s.w.heap.size := fun b' o blk h1 h2 => ((hi.obj b' o h1).owns_lt h2).2
  have hnot : ∀ b' o blk, b' ≠ b → s.h[b']? = some o → Owns s b' o blk → ¬ OwnsAt s b blk := fun b' o blk hne h1 h2 ⟨ob, h3, h4⟩ => hne (hi.excl b' b o ob blk h1 h3 h2 h4)
  refine ⟨⟨hbel, ?_, ?_, ?_, hSc, hi.laid.keeps hk⟩, ⟨hk, hsz, ?_, ?_, ?_⟩⟩
  · intro b' o he
    by_cases hne : b' = b
    · subst hne; rw [hself o he]; exact hobj
    · have he' := hother b' o hne he
      refine (hi.obj b' o he').keep hk (fun blk ho => hheap blk (hlt b' o blk he' ho) (hnot b' o blk hne he' ho)) (fun blk x ho hs => ?_) (fun k => hlam b' k hne)
      rcases hS blk x hs with h1 | h1 | h1
      · exact h1
      · have := hlt b' o blk he' ho; omega
      · exact absurd h1 (hnot b' o blk hne he' ho)
  · intro b1 b2 o1 o2 blk h1 h2 w1 w2
    by_cases e1 : b1 = b <;> by_cases e2 : b2 = b
    · rw [e1, e2]
    · subst e1
      have := hself o1 h1; subst this
      have h2' := hother b2 o2 e2 h2
      have w2' := Owns.back hk (hi.obj b2 o2 h2') w2
      rcases hown blk w1 with h3 | h3
      · have := hlt b2 o2 blk h2' w2'; omega
      · exact absurd h3 (hnot b2 o2 blk e2 h2' w2')
    · subst e2
      have := hself o2 h2; subst this
      have h1' := hother b1 o1 e1 h1
      have w1' := Owns.back hk (hi.obj b1 o1 h1') w1
      rcases hown blk w2 with h3 | h3
      · have := hlt b1 o1 blk h1' w1'; omega
      · exact absurd h3 (hnot b1 o1 blk e1 h1' w1')
    · have h1' := hother b1 o1 e1 h1
      have h2' := hother b2 o2 e2 h2
      exact hi.excl b1 b2 o1 o2 blk h1' h2' (Owns.back hk (hi.obj b1 o1 h1') w1) (Owns.back hk (hi.obj b2 o2 h2') w2)
  · intro b' k hle
    rw [hh, List.length_set] at hle
    rw [hlam b' k (by omega)]
    exact hi.fresh b' k hle
  · intro blk hl hno
    exact hheap blk hl fun ⟨ob, h1, h2⟩ => hno ⟨b, ob, h1, h2⟩
  · rintro blk ⟨b', o, h1, h2⟩
    by_cases hne : b' = b
    · subst hne
      have := hself o h1; subst this
      rcases hown blk h2 with h3 | ⟨ob, h3, h4⟩
      · exact .inl h3
      · exact .inr ⟨b', ob, h3, h4⟩
    · have h1' := hother b' o hne h1
      exact .inr ⟨b', o, h1', Owns.back hk (hi.obj b' o h1') h2⟩
  · intro blk x hs
    rcases hS blk x hs with h1 | h1 | ⟨ob, h3, h4⟩
    · exact .inl h1
    · exact .inr (.inl h1)
    · exact .inr (.inr ⟨b, ob, h3, h4⟩)

/-- NEW MEMORY ALONE: the abstract heap stays. -/
theorem Inv.grow {A : World} {s s' : St} (hi : Inv A s) (hh : s'.h = s.h) (hl : s'.lam = s.lam) (hk : Keeps s s')
    (hbel : Below A.heap.size A s'.w) (hsz : s.w.heap.size ≤ s'.w.heap.size)
    (hheap : ∀ blk, blk < s.w.heap.size → s'.w.heap[blk]? = s.w.heap[blk]?)
    (hS : ∀ blk x, s'.S blk x → s.S blk x ∨ s.w.heap.size ≤ blk) (hSc : ∀ blk x, s'.S blk x → blk < s'.w.heap.size) : Inv A s' ∧ Goes s s' := by
  have hlt : ∀ b' o blk, s.h[b']? = some o → Owns s b' o blk → blk < s.w.heap.size := fun b' o blk h1 h2 => ((hi.obj b' o h1).owns_lt h2).2
  refine ⟨⟨hbel, ?_, ?_, ?_, hSc, hi.laid.keeps hk⟩, ⟨hk, hsz, fun blk hl _ => hheap blk hl, ?_, ?_⟩⟩
  · intro b o he
    rw [hh] at he
    refine (hi.obj b o he).keep hk (fun blk ho => hheap blk (hlt b o blk he ho)) (fun blk x ho hs => ?_) (fun k => by rw [hl])
    rcases hS blk x hs with h1 | h1
    · exact h1
    · have := hlt b o blk he ho; omega
  · intro b1 b2 o1 o2 blk h1 h2 w1 w2
    rw [hh] at h1 h2
    exact hi.excl b1 b2 o1 o2 blk h1 h2 (Owns.back hk (hi.obj b1 o1 h1) w1) (Owns.back hk (hi.obj b2 o2 h2) w2)
  · intro b k hle
    rw [hh] at hle; rw [hl]
    exact hi.fresh b k hle
  · rintro blk ⟨b, o, h1, h2⟩
    rw [hh] at h1
    exact .inr ⟨b, o, h1, Owns.back hk (hi.obj b o h1) h2⟩
  · intro blk x hs
    rcases hS blk x hs with h1 | h1
    · exact .inl h1
    · exact .inr (.inl h1)

/-- Blocks more, that are still to come. -/
def St.more (s : St) (n : Nat) : St := { s with h := s.h ++ List.replicate n .hole }

theorem Rv.more {s : St} {n : Nat} {v : AVal} {c : Value} (h : Rv s v c) : Rv (s.more n) v c :=
  Rv.keeps (s := s) (s' := s.more n) ⟨fun _ _ _ e => e, fun _ _ e => e, fun _ _ _ => rfl⟩ h

theorem St.more_get {s : St} {n b : Nat} {o : AObj} (h : (s.more n).h[b]? = some o) : s.h[b]? = some o ∨ o = .hole ∧ s.h.length ≤ b := by
  simp only [St.more, List.getElem?_append] at h
  split at h
  · exact .inl h
  · simp [List.getElem?_replicate] at h; exact .inr ⟨h.2.symm, by omega⟩

theorem Inv.more {A : World} {s : St} (hi : Inv A s) (n : Nat) : Inv A (s.more n) ∧ Goes s (s.more n) := by
  have hk : Keeps s (s.more n) := ⟨fun _ _ _ e => e, fun _ _ e => e, fun _ _ _ => rfl⟩
  refine ⟨⟨hi.below, ?_, ?_, ?_, hi.scell, hi.laid.keeps hk⟩, ⟨hk, Nat.le_refl _, fun _ _ _ => rfl, ?_, fun _ _ h => .inl h⟩⟩
  · intro b o he
    rcases St.more_get he with h | h
    · exact (hi.obj b o h).keep hk (fun _ _ => rfl) (fun _ _ _ h => h) (fun _ => rfl)
    · obtain ⟨rfl, hle⟩ := h; exact fun k => hi.fresh _ _ hle
  · intro b1 b2 o1 o2 blk h1 h2 w1 w2
    rcases St.more_get h1 with e1 | e1
    · rcases St.more_get h2 with e2 | e2
      · exact hi.excl b1 b2 o1 o2 blk e1 e2 (Owns.back hk (hi.obj b1 o1 e1) w1) (Owns.back hk (hi.obj b2 o2 e2) w2)
      · obtain ⟨rfl, _⟩ := e2; exact w2.elim
    · obtain ⟨rfl, _⟩ := e1; exact w1.elim
  · intro b k hle
    simp only [St.more, List.length_append, List.length_replicate] at hle
    exact hi.fresh b k (by omega)
  · rintro blk ⟨b, o, h1, h2⟩
    rcases St.more_get h1 with e1 | e1
    · exact .inr ⟨b, o, e1, Owns.back hk (hi.obj b o e1) h2⟩
    · obtain ⟨rfl, _⟩ := e1; exact h2.elim

/-- Lam with one place more. -/
def setLam (l : Nat → Nat → Option Value) (b k : Nat) (v : Value) : Nat → Nat → Option Value := fun b' k' => if b' = b ∧ k' = k then some v else l b' k'

@[simp] theorem setLam_same (l : Nat → Nat → Option Value) (b k : Nat) (v : Value) : setLam l b k v b k = some v := by simp [setLam]
theorem setLam_other {l : Nat → Nat → Option Value} {b k b' k' : Nat} {v : Value} (h : b' ≠ b ∨ k' ≠ k) : setLam l b k v b' k' = l b' k' := by
  unfold setLam; rw [if_neg]; rintro ⟨rfl, rfl⟩; simp at h
theorem setLam_keeps {l : Nat → Nat → Option Value} {b k : Nat} {v : Value} (h : l b k = none) (b' k' : Nat) (u : Value) (hu : l b' k' = some u) : setLam l b k v b' k' = some u := by
  unfold setLam; split
  · rename_i e; obtain ⟨rfl, rfl⟩ := e; rw [h] at hu; cases hu
  · exact hu

/-- A block of cells that is made: it becomes the block b of the abstract heap. -/
theorem Inv.fill_box {A : World} {s : St} (hi : Inv A s) {b : Nat} (hb : s.h[b]? = some .hole) {cs : List AVal} {vs : Array Value} (el : TypeId)
    (hsz : vs.size = cs.length) (hr : ∀ j (h1 : j < cs.length) (h2 : j < vs.size), Rv s cs[j] vs[j]) :
    ∃ s', s'.h = s.h.set b (.box cs) ∧ s'.w = s.w.alloc (.cells vs el) ∧ Inv A s' ∧ Goes s s' ∧ Rv s' (.ptr b 0) (.pointer (some ⟨s.w.heap.size, 0, none⟩)) ∧ (∀ b' k, b' ≠ b → s'.lam b' k = s.lam b' k) := by
  have hblt : b < s.h.length := (List.getElem?_eq_some_iff.1 hb).1
  have hl : ∀ k, s.lam b k = none := hi.obj b _ hb
  let s' : St := { h := s.h.set b (.box cs), lam := setLam s.lam b 0 (.pointer (some ⟨s.w.heap.size, 0, none⟩)), S := s.S, w := s.w.alloc (.cells vs el) }
  have hk : Keeps s s' := ⟨setLam_keeps (hl 0), fun _ _ h => h, fun blk o hs => World.cell?_alloc_lt _ _ (a := ⟨blk, o, none⟩) (hi.scell blk o hs)⟩
  have hnew : s'.w.heap[s.w.heap.size]? = some (.cells vs el (0, 0)) := by show (s.w.heap.push _)[s.w.heap.size]? = _; simp
  have hgo := hi.change (s' := s') hblt rfl hk (hi.below.alloc hi.below.size _) (by simp [s']) (fun b' k hne => setLam_other (.inl hne))
    (fun blk hlt _ => Below.heap_alloc _ _ _ hlt)
    ⟨s.w.heap.size, vs, el, setLam_same _ _ _ _, hi.below.size, hnew, hsz, fun j h1 h2 => (hr j h1 h2).keeps hk, fun o hs => by have := hi.scell _ _ hs; omega⟩
    (fun blk ho => by
      have e : setLam s.lam b 0 (.pointer (some ⟨s.w.heap.size, 0, none⟩)) b 0 = some (.pointer (some ⟨blk, 0, none⟩)) := ho
      simp at e; left; omega)
    (fun blk x h => .inl h) (fun blk x h => by have := hi.scell _ _ h; simp [s']; omega)
  exact ⟨s', rfl, rfl, hgo.1, hgo.2, .ptr b 0 _ (setLam_same _ _ _ _), fun b' k hne => setLam_other (.inl hne)⟩

end Go.AM
