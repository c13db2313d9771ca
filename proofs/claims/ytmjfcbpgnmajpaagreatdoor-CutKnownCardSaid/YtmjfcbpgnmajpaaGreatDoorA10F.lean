/- A region whose order Go leaves open, the theorem. -/
import Derived.Test.YtmjfcbpgnmajpaaGreatDoorA10E
namespace Go.AM
open Go.RowKit

/-- The frame after the operations of p. -/
def envP (p : Nat → Bool) : List AOper → List DR → Nat → Env → Env
  | o :: r, q :: t, k, e => envP p r t (k + 1) (if p k = true then e.put o.d q.v else e)
  | _, _, _, e => e

/-- What each operation writes: which block, and what. -/
def itsOf : List DR → Nat → List (Option (Nat × AObj))
  | [], _ => []
  | q :: r, nb => match q.e with
    | .al o => some (nb, o) :: itsOf r (nb + 1)
    | .wr b o => some (b, o) :: itsOf r nb
    | _ => none :: itsOf r nb

def nal : List DR → Nat
  | [] => 0
  | q :: r => match q.e with
    | .al _ => nal r + 1
    | _ => nal r

/-- The heap after the operations of p. -/
def heapP (p : Nat → Bool) : List (Option (Nat × AObj)) → Nat → AHeap → AHeap
  | [], _, σ => σ
  | none :: r, k, σ => heapP p r (k + 1) σ
  | some (b, o) :: r, k, σ => heapP p r (k + 1) (if p k = true then σ.set b o else σ)

theorem put_get (e : Env) (d : Option Nat) (v : AVal) (x : Nat) : (e.put d v).get x = if d = some x then v else e.get x := by
  cases d with
  | none => simp [Env.put]
  | some n =>
    simp only [Env.put, get_put, Option.some.injEq]

theorem envP_congr {p p' : Nat → Bool} {x : Nat} : ∀ {ops : List AOper} {t : List DR} {k : Nat} {e e' : Env}, (∀ j o, ops[j]? = some o → o.d = some x → p (k + j) = p' (k + j)) → e.get x = e'.get x →
    (envP p ops t k e).get x = (envP p' ops t k e').get x
  | [], _, k, e, e', _, he => by simpa [envP] using he
  | _ :: _, [], k, e, e', _, he => by simpa [envP] using he
  | o :: r, q :: t, k, e, e', h, he => by
    simp only [envP]
    refine envP_congr (fun j o' h1 h2 => ?_) ?_
    · have := h (j + 1) o' (by simpa using h1) h2
      rw [show k + 1 + j = k + (j + 1) by omega]; exact this
    · by_cases hd : o.d = some x
      · have := h 0 o (by simp) hd
        rw [Nat.add_zero] at this
        rw [this]
        split
        · simp [put_get, hd]
        · exact he
      · have f : ∀ (b : Bool) (e : Env), (if b = true then e.put o.d q.v else e).get x = e.get x := fun b e => by cases b <;> simp [put_get, hd]
        rw [f, f]; exact he

theorem envP_one {p : Nat → Bool} {x : Nat} : ∀ {ops : List AOper} {t : List DR} {k i : Nat} {e : Env} {o : AOper} {q : DR}, ops[i]? = some o → t[i]? = some q → o.d = some x → p (k + i) = true →
    (∀ j o', j ≠ i → ops[j]? = some o' → o'.d ≠ some x) → (envP p ops t k e).get x = q.v
  | [], _, _, _, _, _, _, h, _, _, _, _ => by simp at h
  | _ :: _, [], _, _, _, _, _, _, h, _, _, _ => by simp at h
  | o1 :: r, q1 :: t, k, 0, e, o, q, h1, h2, h3, h4, h5 => by
    simp at h1 h2; subst h1; subst h2
    simp only [envP]
    rw [Nat.add_zero] at h4
    rw [if_pos h4]
    have hno : ∀ j o', r[j]? = some o' → o'.d = some x → p (k + 1 + j) = false := fun j o' g1 g2 => absurd g2 (h5 (j + 1) o' (by omega) (by simpa using g1))
    have := envP_congr (p := p) (p' := fun _ => false) (ops := r) (t := t) (k := k + 1) (e := e.put o1.d q1.v) (e' := e.put o1.d q1.v) hno rfl
    rw [this]
    have none : ∀ (r : List AOper) (t : List DR) (k : Nat) (e : Env), envP (fun _ => false) r t k e = e := by
      intro r
      induction r with
      | nil => intros; simp [envP]
      | cons a r ih => intro t k e; cases t with
        | nil => simp [envP]
        | cons b t => simp only [envP, Bool.false_eq_true, if_false]; exact ih t _ e
    rw [none]; simp [put_get, h3]
  | o1 :: r, q1 :: t, k, i + 1, e, o, q, h1, h2, h3, h4, h5 => by
    simp only [envP]
    exact envP_one (i := i) (by simpa using h1) (by simpa using h2) h3 (by rw [show k + 1 + i = k + (i + 1) by omega]; exact h4)
      (fun j o' g1 g2 => h5 (j + 1) o' (by omega) (by simpa using g2))

theorem envP_none {p : Nat → Bool} : ∀ {ops : List AOper} {t : List DR} {k : Nat} {e : Env}, (∀ j, k ≤ j → p j = false) → envP p ops t k e = e
  | [], _, _, _, _ => by simp [envP]
  | _ :: _, [], _, _, _ => by simp [envP]
  | o :: r, q :: t, k, e, h => by
    simp only [envP]
    rw [h k (Nat.le_refl _)]
    simp only [Bool.false_eq_true, if_false]
    exact envP_none fun j hj => h j (by omega)

theorem heapP_len {p : Nat → Bool} : ∀ {l : List (Option (Nat × AObj))} {k : Nat} {σ : AHeap}, (heapP p l k σ).length = σ.length
  | [], _, _ => rfl
  | none :: r, k, σ => by simp only [heapP]; exact heapP_len
  | some (b, o) :: r, k, σ => by simp only [heapP]; rw [heapP_len]; split <;> simp

theorem heapP_congr {p p' : Nat → Bool} {b : Nat} : ∀ {l : List (Option (Nat × AObj))} {k : Nat} {σ σ' : AHeap}, (∀ j o, l[j]? = some (some (b, o)) → p (k + j) = p' (k + j)) → σ[b]? = σ'[b]? → σ.length = σ'.length →
    (heapP p l k σ)[b]? = (heapP p' l k σ')[b]?
  | [], _, _, _, _, h, _ => h
  | none :: r, k, σ, σ', h, he, hl => by
    simp only [heapP]
    exact heapP_congr (fun j o g => by rw [show k + 1 + j = k + (j + 1) by omega]; exact h (j + 1) o (by simpa using g)) he hl
  | some (b', o) :: r, k, σ, σ', h, he, hl => by
    simp only [heapP]
    refine heapP_congr (fun j o g => by rw [show k + 1 + j = k + (j + 1) by omega]; exact h (j + 1) o (by simpa using g)) ?_ ?_
    · by_cases hb : b' = b
      · subst hb
        have := h 0 o (by simp)
        rw [Nat.add_zero] at this
        rw [this]
        split
        · simp only [List.getElem?_set_self', he]
        · exact he
      · have f : ∀ (c : Bool) (σ : AHeap), (if c = true then σ.set b' o else σ)[b]? = σ[b]? := fun c σ => by cases c <;> simp [List.getElem?_set_ne hb]
        rw [f, f]; exact he
    · have f : ∀ (c : Bool) (σ : AHeap), (if c = true then σ.set b' o else σ).length = σ.length := fun c σ => by cases c <;> simp
      rw [f, f]; exact hl

theorem heapP_none {p : Nat → Bool} : ∀ {l : List (Option (Nat × AObj))} {k : Nat} {σ : AHeap}, (∀ j, k ≤ j → p j = false) → heapP p l k σ = σ
  | [], _, _, _ => rfl
  | none :: r, k, σ, h => by simp only [heapP]; exact heapP_none fun j hj => h j (by omega)
  | some (b, o) :: r, k, σ, h => by
    simp only [heapP]; rw [h k (Nat.le_refl _)]; simp only [Bool.false_eq_true, if_false]; exact heapP_none fun j hj => h j (by omega)

theorem heapP_last {p : Nat → Bool} {b : Nat} {o : AObj} : ∀ {l : List (Option (Nat × AObj))} {k i : Nat} {σ : AHeap}, l[i]? = some (some (b, o)) → p (k + i) = true →
    (∀ j o', i < j → l[j]? = some (some (b, o')) → p (k + j) = false) → b < σ.length → (heapP p l k σ)[b]? = some o
  | [], _, _, _, h, _, _, _ => by simp at h
  | x :: r, k, 0, σ, h1, h2, h3, h4 => by
    simp at h1; subst h1
    simp only [heapP]
    rw [Nat.add_zero] at h2
    rw [if_pos h2]
    rw [heapP_congr (p' := fun _ => false) (σ' := σ.set b o) (fun j o' g => by rw [show k + 1 + j = k + (j + 1) by omega]; exact h3 (j + 1) o' (by omega) (by simpa using g)) rfl rfl, heapP_none (fun _ _ => rfl)]
    simp [h4]
  | none :: r, k, i + 1, σ, h1, h2, h3, h4 => by
    simp only [heapP]
    exact heapP_last (i := i) (by simpa using h1) (by rw [show k + 1 + i = k + (i + 1) by omega]; exact h2)
      (fun j o' g1 g2 => by rw [show k + 1 + j = k + (j + 1) by omega]; exact h3 (j + 1) o' (by omega) (by simpa using g2)) h4
  | some (b', o1) :: r, k, i + 1, σ, h1, h2, h3, h4 => by
    simp only [heapP]
    exact heapP_last (i := i) (by simpa using h1) (by rw [show k + 1 + i = k + (i + 1) by omega]; exact h2)
      (fun j o' g1 g2 => by rw [show k + 1 + j = k + (j + 1) by omega]; exact h3 (j + 1) o' (by omega) (by simpa using g2)) (by split <;> simp [h4])

/-- One operation more. -/
theorem heapP_add {p p' : Nat → Bool} {l : List (Option (Nat × AObj))} {i : Nat} {σ : AHeap} (hp : ∀ j, p' j = (p j || j == i)) :
    (l[i]? = some none → heapP p' l 0 σ = heapP p l 0 σ) ∧
    (∀ b o, l[i]? = some (some (b, o)) → (∀ j o', i < j → l[j]? = some (some (b, o')) → p j = false) → heapP p' l 0 σ = (heapP p l 0 σ).set b o) := by
  constructor
  · intro h
    refine List.ext_getElem? fun b => heapP_congr (fun j o g => ?_) rfl rfl
    rw [Nat.zero_add, hp]
    have : j ≠ i := fun e => by subst e; rw [h] at g; cases g
    simp [this]
  · intro b o h hno
    refine List.ext_getElem? fun b' => ?_
    by_cases hb : b = b'
    · subst hb
      by_cases hlt : b < σ.length
      · rw [heapP_last h (by simp [hp]) (fun j o' g1 g2 => by rw [Nat.zero_add, hp, hno j o' g1 g2]; simp; omega) hlt, List.getElem?_set_self (by rw [heapP_len]; exact hlt)]
      · rw [List.getElem?_eq_none (by rw [heapP_len]; omega), List.getElem?_eq_none (by rw [List.length_set, heapP_len]; omega)]
    · rw [List.getElem?_set_ne hb]
      refine heapP_congr (fun j o' g => ?_) rfl rfl
      rw [Nat.zero_add, hp]
      have : j ≠ i := fun e => by subst e; rw [h] at g; simp at g; exact hb g.1
      simp [this]

section
variable {P : Program}

theorem dStep_wr_lt {o : AOper} {e : Env} {σ : AHeap} {q : DR} (h : dStep P o e σ q) {b : Nat} {o' : AObj} (hq : q.e = .wr b o') : b < σ.length := by
  obtain ⟨c, _, h⟩ := h
  have quiet : q = ⟨gopt o.g c (qval e σ o.i), dqEff e o.i⟩ → b < σ.length := fun he => by rw [he] at hq; exact absurd hq dqEff_wr
  cases hi : o.i <;> rw [hi] at h quiet <;> simp only at h <;> first | (exact quiet h.2.2) | skip
  case call f dn l => rw [h.1] at hq; exact absurd hq rdL_wr
  case box n x => rw [h.2.2.2] at hq; cases hq
  case alloc z => rw [h.2.2] at hq; cases hq
  case mnew => rw [h.2] at hq; cases hq
  case callA sz f dn l => obtain ⟨_, _, xs, _, rfl⟩ := h; cases hq
  case mksl m sz bytes z n k => rw [h.2.2.2.2] at hq; cases hq
  case append sz bytes x y =>
    obtain ⟨ys, b', o1, v, q1, q2, q3, q4, q5, rfl, _⟩ := appD_inv h.2.2
    cases hq
    exact AHeap.get_ne_dead_lt q5
  case lit m sz n ps =>
    split at h
    · rw [h.2] at hq; cases hq
    · rw [h.2.2.2.2] at hq; cases hq
  case store sz x v =>
    have h5 := h.2.2.2.2
    generalize opv e x = ax at h5
    cases ax with
    | ptr b off =>
      simp only [wrOf] at h5
      cases hg : σ.get b <;> rw [hg] at h5 <;> first | (cases h5; done) | skip
      rw [hq] at h5; cases h5; exact AHeap.get_ne_dead_lt (by rw [hg]; simp)
    | eptr sz b i f n =>
      simp only [wrOf] at h5
      cases hg : σ.get b <;> rw [hg] at h5 <;> first | (cases h5; done) | skip
      rw [hq] at h5; cases h5; exact AHeap.get_ne_dead_lt (by rw [hg]; simp)
    | _ => cases h5

theorem dRun_len : ∀ {ops : List AOper} {e : Env} {σ : AHeap} {t : List DR} {e' : Env} {σ' : AHeap}, dRun P ops e σ t e' σ' → t.length = ops.length
  | [], _, _, [], _, _, _ => rfl
  | _ :: r, _, _, _ :: t, _, _, h => by simp [dRun_len h.2]
  | [], _, _, _ :: _, _, _, h => h.elim
  | _ :: _, _, _, [], _, _, h => h.elim

theorem itsOf_len : ∀ {t : List DR} {nb : Nat}, (itsOf t nb).length = t.length
  | [], _ => rfl
  | q :: r, nb => by simp only [itsOf]; split <;> simp [itsOf_len]

/-- How a heap goes on in the text's order, with the blocks that are to come. -/
theorem run_holes {o : AOper} {e : Env} {σ : AHeap} {q : DR} {t : List DR} {_ls : List (Option (Nat × AObj))} {p : Nat → Bool} {k : Nat} (hs : dStep P o e σ q) (hp : p k = true) :
    heapP p (itsOf (q :: t) σ.length) k (σ ++ List.replicate (nal (q :: t)) .hole) = heapP p (itsOf t (q.e.run σ).length) (k + 1) (q.e.run σ ++ List.replicate (nal t) .hole) := by
  obtain ⟨v, ef⟩ := q
  cases ef with
  | no => simp only [itsOf, heapP, nal, DEff.run]
  | rd l => simp only [itsOf, heapP, nal, DEff.run]
  | al ob =>
    simp only [itsOf, heapP, nal, DEff.run, hp, if_true, List.length_append, List.length_cons, List.length_nil, Nat.zero_add, List.replicate_succ]
    congr 1
    simp
  | wr b ob =>
    have := dStep_wr_lt hs rfl
    simp only [itsOf, heapP, nal, DEff.run, hp, if_true, List.length_set]
    congr 1
    exact List.set_append_left _ _ this

theorem dRun_at : ∀ {ops : List AOper} {e : Env} {σ : AHeap} {t : List DR} {e' : Env} {σ' : AHeap} (k : Nat), dRun P ops e σ t e' σ' → ∀ {j : Nat} {o : AOper}, ops[j]? = some o →
    ∃ ej σj q, t[j]? = some q ∧ dStep P o ej σj q ∧ (∀ x, ej.get x = (envP (fun i => decide (i < k + j)) ops t k e).get x) ∧ σj.length = σ.length + nal (t.take j) ∧
      σj ++ List.replicate (nal (t.drop j)) .hole = heapP (fun i => decide (i < k + j)) (itsOf t σ.length) k (σ ++ List.replicate (nal t) .hole)
  | [], _, _, _, _, _, _, _, j, o, h => by simp at h
  | o1 :: r, e, σ, [], _, _, _, hr, _, _, _ => hr.elim
  | o1 :: r, e, σ, q1 :: t, e', σ', k, hr, 0, o, h => by
    simp at h; subst h
    refine ⟨e, σ, q1, rfl, hr.1, fun x => ?_, by simp [nal], ?_⟩
    · rw [envP_none]; intro j hj; simp; omega
    · rw [heapP_none]
      · rfl
      · intro j hj; simp; omega
  | o1 :: r, e, σ, q1 :: t, e', σ', k, hr, j + 1, o, h => by
    obtain ⟨ej, σj, q, h1, h2, h3, h4, h5⟩ := dRun_at (k + 1) hr.2 (j := j) (o := o) (by simpa using h)
    refine ⟨ej, σj, q, by simpa using h1, h2, fun x => ?_, ?_, ?_⟩
    · rw [h3 x]
      simp only [envP, show k + 1 + j = k + (j + 1) by omega]
      rw [if_pos (by simp)]
    · rw [h4]
      obtain ⟨v, ef⟩ := q1
      cases ef <;> simp [nal, DEff.run] <;> omega
    · simp only [List.drop_succ_cons]
      rw [h5, show k + 1 + j = k + (j + 1) by omega, run_holes (_ls := []) hr.1 (by simp)]

theorem dRun_end : ∀ {ops : List AOper} {e : Env} {σ : AHeap} {t : List DR} {e' : Env} {σ' : AHeap} (k : Nat) {p : Nat → Bool}, dRun P ops e σ t e' σ' → (∀ j, j < ops.length → p (k + j) = true) →
    e' = envP p ops t k e ∧ σ' = heapP p (itsOf t σ.length) k (σ ++ List.replicate (nal t) .hole)
  | [], e, σ, [], e', σ', k, p, h, _ => by obtain ⟨rfl, rfl⟩ := h; exact ⟨by simp [envP], by simp [nal, itsOf, heapP]⟩
  | o :: r, e, σ, q :: t, e', σ', k, p, h, hp => by
    obtain ⟨h1, h2⟩ := dRun_end (k + 1) (p := p) h.2 (fun j hj => by rw [show k + 1 + j = k + (j + 1) by omega]; exact hp (j + 1) (by simpa using hj))
    have hk : p k = true := by have := hp 0 (by simp); simpa using this
    refine ⟨?_, ?_⟩
    · rw [h1]; simp only [envP, hk, if_true]
    · rw [h2, run_holes (_ls := []) h.1 hk]
  | [], _, _, _ :: _, _, _, _, _, h, _ => h.elim
  | _ :: _, _, _, [], _, _, _, _, h, _ => h.elim

theorem nal_take_mono {t : List DR} {i j : Nat} (h : i ≤ j) : nal (t.take i) ≤ nal (t.take j) := by
  induction t generalizing i j with
  | nil => simp
  | cons q t ih =>
    cases i with
    | zero => simp [nal]
    | succ i =>
      cases j with
      | zero => omega
      | succ j =>
        have := ih (i := i) (j := j) (by omega)
        simp only [List.take_succ_cons, nal]
        split <;> omega

/-- What an operation writes. -/
theorem itsOf_get : ∀ {t : List DR} {nb j : Nat} {q : DR}, t[j]? = some q → (itsOf t nb)[j]? = some (match q.e with
    | .al o => some (nb + nal (t.take j), o)
    | .wr b o => some (b, o)
    | _ => none)
  | [], _, _, _, h => by simp at h
  | q1 :: t, nb, 0, q, h => by
    simp at h; subst h
    obtain ⟨v, ef⟩ := q1
    cases ef <;> simp [itsOf, nal]
  | q1 :: t, nb, j + 1, q, h => by
    have h' : t[j]? = some q := by simpa using h
    obtain ⟨v, ef⟩ := q1
    cases ef <;> simp only [itsOf, List.getElem?_cons_succ, List.take_succ_cons, nal] <;> rw [itsOf_get h']
    cases q.e <;> simp only <;> congr 3; omega

theorem nal_take_lt {t : List DR} {j : Nat} {q : DR} {o : AObj} (h : t[j]? = some q) (hq : q.e = .al o) : nal (t.take j) + 1 ≤ nal (t.take (j + 1)) ∧ nal (t.take j) < nal t := by
  induction t generalizing j with
  | nil => simp at h
  | cons q1 t ih =>
    cases j with
    | zero =>
      simp at h; subst h
      simp [nal, hq]
    | succ j =>
      have := ih (j := j) (by simpa using h)
      simp only [List.take_succ_cons, nal]
      split <;> omega

end
end Go.AM
