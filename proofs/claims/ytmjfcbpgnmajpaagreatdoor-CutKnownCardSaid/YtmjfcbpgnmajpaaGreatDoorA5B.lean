/- A part of a slice, of a string: the bounds. -/
import Derived.Test.YtmjfcbpgnmajpaaGreatDoorA5
namespace Go.AM

section
variable {P : Program} {s : St} {A : World} {ρ : AOpr → AVal} {ρ' : Operand → Value}

theorem run_bound {x : Value} {k : IntKind} {n : Int} {y : Nat} {code : BoundsCode} {w : World} (hx : x = .int k n) (h0 : 0 ≤ n) (h1 : n ≤ y) : (Instr.sliceBound x y code).run P w = .ok n.toNat w := by
  subst hx
  simp [Instr.sliceBound, asIntOf, h0, h1]

theorem bnd_val {x : Option AOpr} {y : Option Operand} (ha : Agree s ρ ρ') (h : okBnd x y = true) (ho : bndOk ρ x) (d : Int) :
    (x = none ∧ y = none ∧ bndV ρ d x = d) ∨ ∃ x' y' k, x = some x' ∧ y = some y' ∧ ρ' y' = .int k (bndV ρ d x) := by
  cases x with
  | none => cases y <;> simp [okBnd] at h; exact .inl ⟨rfl, rfl, rfl⟩
  | some x' =>
    cases y with
    | none => simp [okBnd] at h
    | some y' =>
      simp only [okBnd] at h
      obtain ⟨k, e1, _⟩ := isInt_inv (ha _ _ h) ho
      exact .inr ⟨x', y', k, rfl, rfl, e1⟩

/-- The bounds of a part. -/
theorem run_bounds {lo hi mx : Option AOpr} {lo' hi' mx' : Option Operand} (ha : Agree s ρ ρ') (h1 : okBnd lo lo' = true) (h2 : okBnd hi hi' = true) (h3 : okBnd mx mx' = true) (o1 : bndOk ρ lo) (o2 : bndOk ρ hi) (o3 : bndOk ρ mx)
    {len cap : Nat} {w : World} (g0 : 0 ≤ bndV ρ 0 lo) (g1 : bndV ρ 0 lo ≤ bndV ρ len hi) (g2 : bndV ρ len hi ≤ bndV ρ cap mx) (g3 : bndV ρ cap mx ≤ cap) (hmx : mx.isSome = true → hi.isSome = true) :
    (Instr.sliceBounds true len cap (lo'.map ρ') (hi'.map ρ') (mx'.map ρ')).run P w = .ok ((bndV ρ 0 lo).toNat, (bndV ρ len hi).toNat, (bndV ρ cap mx).toNat) w := by
  have rlo : ∀ h : Nat, bndV ρ 0 lo ≤ h → ∀ code (p q : Nat) w, ((match lo'.map ρ' with
      | some v => do
        let l ← Instr.sliceBound v h code
        pure (l, p, q)
      | none => do
        let l ← pure 0
        pure (l, p, q)) : Sem (Nat × Nat × Nat)).run P w = .ok ((bndV ρ 0 lo).toNat, p, q) w := by
    intro h hle code p q w
    rcases bnd_val ha h1 o1 0 with ⟨rfl, rfl, e1⟩ | ⟨x1, y1, k1, rfl, rfl, e1⟩
    · rfl
    · simp only [Option.map_some, Sem.run_bind]
      rw [run_bound e1 g0 hle]; rfl
  rcases bnd_val ha h3 o3 (cap : Int) with ⟨rfl, rfl, e3⟩ | ⟨x3, y3, k3, rfl, rfl, e3⟩
  · rcases bnd_val ha h2 o2 (len : Int) with ⟨rfl, rfl, e2⟩ | ⟨x2, y2, k2, rfl, rfl, e2⟩
    · have := rlo len (by rw [e2] at g1; exact g1) .sliceB len cap w
      simp only [Instr.sliceBounds, Option.map_none, Sem.run_bind, Sem.run_pure, Result.andThen_ok, Option.isSome_none, Bool.false_eq_true, if_false, e2, e3, Int.toNat_natCast]
      exact this
    · have hb := run_bound (P := P) (w := w) (code := .sliceAcap) e2 (Int.le_trans g0 g1) (by rw [e3] at g2; exact g2)
      have := rlo (bndV ρ (len : Int) (some x2)).toNat (by omega) .sliceB (bndV ρ (len : Int) (some x2)).toNat cap w
      simp only [Instr.sliceBounds, Option.map_none, Option.map_some, Sem.run_bind, Sem.run_pure, Result.andThen_ok, Option.isSome_none, Bool.false_eq_true, if_false, if_true, hb, e3, Int.toNat_natCast]
      exact this
  · rcases bnd_val ha h2 o2 (len : Int) with ⟨rfl, rfl, e2⟩ | ⟨x2, y2, k2, rfl, rfl, e2⟩
    · simp at hmx
    · have hc := run_bound (P := P) (w := w) (code := .slice3Acap) e3 (Int.le_trans g0 (Int.le_trans g1 g2)) g3
      have hb := run_bound (P := P) (w := w) (y := (bndV ρ (cap : Int) (some x3)).toNat) (code := .slice3B) e2 (Int.le_trans g0 g1) (by omega)
      have := rlo (bndV ρ (len : Int) (some x2)).toNat (by omega) .slice3C (bndV ρ (len : Int) (some x2)).toNat (bndV ρ (cap : Int) (some x3)).toNat w
      simp only [Instr.sliceBounds, Option.map_some, Sem.run_bind, Result.andThen_ok, Option.isSome_some, if_true, hc, hb]
      exact this

theorem run_slice {t e : TypeId} (ht : P.underlying t = some (.slice e)) {sz : Nat} (hsz : P.cellsOf e = sz) (hinf : (P.info? e).isSome = true) {a : Option Addr} {len cap l h m : Nat} {x y z : Option Value} {w : World}
    (hb : (Instr.sliceBounds true len cap x y z).run P w = .ok (l, h, m) w) : (Instr.slice t (.slice a len cap) x y z).run P w = .ok (.slice (if m = l then a else a.map (·.add (l * sz))) (h - l) (m - l)) w := by
  simp only [Instr.slice, Sem.run_bind, run_underlying_some ht, Result.andThen_ok, hb, run_sizeOf_some hinf, hsz, Sem.run_pure]


/-- A part of a slice that stays as it is. -/
theorem part_slice {sz sz' : Nat} {xs : List AVal} {a : Option Addr} {cap l h : Nat} (hx : Rv s (.slice sz' xs) (.slice a xs.length cap)) (hz : sz' = sz ∨ xs = []) (h1 : l ≤ h) (h2 : h ≤ xs.length) {mm : Nat} (h3 : h ≤ mm) :
    Rv s (.slice sz ((xs.take h).drop l)) (.slice (if mm = l then a else a.map (·.add (l * sz))) (h - l) (mm - l)) := by
  have hlen : ((xs.take h).drop l).length = h - l := by simp; omega
  by_cases he : h = l
  · have : (xs.take h).drop l = [] := List.eq_nil_of_length_eq_zero (by rw [hlen]; omega)
    rw [this, show h - l = 0 by omega]; exact .slice0 _ _ _
  · obtain ⟨a', cap', e1, hs⟩ := hx.slice_inv
    cases e1
    rcases hs with rfl | ⟨blk, off, us, rfl, q1, q2, q3, q4⟩
    · simp at h2; omega
    · have hsz' : sz' = sz := hz.resolve_right (by intro e; subst e; simp at h2; omega)
      subst hsz'
      rw [if_neg (by omega)]
      simp only [Option.map_some, addr_add]
      refine .slice sz' _ blk (off + l * sz') _ _ ((us.take h).drop l) (by simp [q1]) hlen.symm (by omega) (fun i r1 r2 => ?_) (fun i r2 => ?_)
      · have := q3 (l + i) (by simp at r1; omega) (by simp at r2; omega)
        simpa using this
      · have := q4 (l + i) (by simp at r2; omega)
        simp only [List.getElem_drop, List.getElem_take]
        rw [show off + l * sz' + i * sz' = off + (l + i) * sz' by rw [Nat.add_mul]; omega]
        exact this

theorem subq_core {t e : TypeId} (ha : Agree s ρ ρ') (ht : P.underlying t = some (.slice e)) {sz sz' : Nat} (hsz : P.cellsOf e = sz) (hinf : (P.info? e).isSome = true) {xs : List AVal} {c : Value} (hx : Rv s (.slice sz' xs) c) (hz : sz' = sz ∨ xs = [])
    {lo hi : Option AOpr} {lo' hi' : Option Operand} (h1 : okBnd lo lo' = true) (h2 : okBnd hi hi' = true) (o1 : bndOk ρ lo) (o2 : bndOk ρ hi) (g0 : 0 ≤ bndV ρ 0 lo) (g1 : bndV ρ 0 lo ≤ bndV ρ xs.length hi) (g2 : bndV ρ xs.length hi ≤ xs.length) :
    ∃ r, (Instr.sliceAt t c (lo'.map ρ') (hi'.map ρ') none).run P s.w = .ok r s.w ∧ Rv s (.slice sz ((xs.take (bndV ρ xs.length hi).toNat).drop (bndV ρ 0 lo).toNat)) r := by
  obtain ⟨a, cap, rfl, hs⟩ := hx.slice_inv
  have hcap : xs.length ≤ cap := by
    rcases hs with rfl | ⟨_, _, _, _, _, hc, _⟩
    · simp
    · exact hc
  have hb := run_bounds (P := P) (w := s.w) (mx := none) (mx' := none) (cap := cap) (len := xs.length) ha h1 h2 rfl o1 o2 trivial g0 g1 (by simp only [bndV] at g2 ⊢; omega) (by simp only [bndV]; omega) (by simp)
  have hrun := run_slice (a := a) ht hsz hinf hb
  refine ⟨_, by simpa [Instr.sliceAt, run_underlying_some ht] using hrun, part_slice hx hz (by omega) (by omega) ?_⟩
  simp only [bndV, Int.toNat_natCast]; simp only [bndV] at g2; omega

theorem run_boundsS {lo hi : Option AOpr} {lo' hi' : Option Operand} (ha : Agree s ρ ρ') (h1 : okBnd lo lo' = true) (h2 : okBnd hi hi' = true) (o1 : bndOk ρ lo) (o2 : bndOk ρ hi)
    {len : Nat} {w : World} (g0 : 0 ≤ bndV ρ 0 lo) (g1 : bndV ρ 0 lo ≤ bndV ρ len hi) (g2 : bndV ρ len hi ≤ len) :
    (Instr.sliceBounds false len len (lo'.map ρ') (hi'.map ρ') none).run P w = .ok ((bndV ρ 0 lo).toNat, (bndV ρ len hi).toNat, len) w := by
  have rlo : ∀ h : Nat, bndV ρ 0 lo ≤ h → ∀ code (p q : Nat) w, ((match lo'.map ρ' with
      | some v => do
        let l ← Instr.sliceBound v h code
        pure (l, p, q)
      | none => do
        let l ← pure 0
        pure (l, p, q)) : Sem (Nat × Nat × Nat)).run P w = .ok ((bndV ρ 0 lo).toNat, p, q) w := by
    intro h hle code p q w
    rcases bnd_val ha h1 o1 0 with ⟨rfl, rfl, e1⟩ | ⟨x1, y1, k1, rfl, rfl, e1⟩
    · rfl
    · simp only [Option.map_some, Sem.run_bind]
      rw [run_bound e1 g0 hle]; rfl
  rcases bnd_val ha h2 o2 (len : Int) with ⟨rfl, rfl, e2⟩ | ⟨x2, y2, k2, rfl, rfl, e2⟩
  · have := rlo len (by rw [e2] at g1; exact g1) .sliceB len len w
    simp only [Instr.sliceBounds, Option.map_none, Sem.run_bind, Sem.run_pure, Result.andThen_ok, Option.isSome_none, Bool.false_eq_true, if_false, e2, Int.toNat_natCast]
    exact this
  · have hb := run_bound (P := P) (w := w) (code := .sliceAlen) e2 (Int.le_trans g0 g1) g2
    have := rlo (bndV ρ (len : Int) (some x2)).toNat (by omega) .sliceB (bndV ρ (len : Int) (some x2)).toNat len w
    simp only [Instr.sliceBounds, Option.map_some, Sem.run_bind, Sem.run_pure, Result.andThen_ok, Option.isSome_none, Bool.false_eq_true, if_false, hb]
    exact this

end
end Go.AM
