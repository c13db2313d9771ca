/- The instructions that leave the abstract heap alone, all of them: what the operation computes is what the instruction says. -/
import Derived.Test.YtmjfcbpgnmajpaaGreatDoorA4
namespace Go.AM
open Go.RowKit

section run
variable {P : Program} {s : St} {A : World} {ρ : AOpr → AVal} {ρ' : Operand → Value}

theorem run_execOp_v (x : Sem Value) (c : Value) (w w' : World) (h : x.run P w = .ok c w') : (do pure (Next.value (← x)) : Sem Next).run P w = .ok (.value c) w' := by
  simp [h]

theorem binOp_sound {op : BinOp} {t : TypeId} {v u : AVal} {c d : Value} (hv : Rv s v c) (hu : Rv s u d) (ho : binOk op v u) (x y : Operand) :
    ∃ r, (do eqGuard op t x y c d; binOp op t c d : Sem Value).run P s.w = .ok r s.w ∧ Rv s (binV op v u) r := by
  have hg : ∀ (a b : Value), (∀ q, a ≠ .agg q) → a ≠ .nilIface → (eqGuard op t x y a b).run P s.w = .ok () s.w := by
    intro a b h1 h2
    unfold eqGuard
    cases op <;> simp <;> (try (cases a <;> first | rfl | exact absurd rfl (h1 _) | exact absurd rfl h2))
  cases v with
  | int j a =>
    cases u with
    | int k b =>
      cases hv; cases hu
      rw [Sem.run_bind, hg _ _ (by simp) (by simp), Result.andThen_ok]
      simp only [binOk] at ho
      cases op <;> simp only [arithOk] at ho <;> (try subst ho) <;> (try (obtain ⟨rfl, h0⟩ := ho)) <;>
        simp [binOp, Op.intArith, Op.intDiv, Op.intBits, Op.shift, Op.intCmp, binV, arith, *] <;> (try (rw [if_neg (by omega)])) <;> (try simp) <;> first | exact .int _ _ | exact .bool _ | skip
    | _ => exact ho.elim
  | str a =>
    cases u with
    | str b =>
      cases hv; cases hu
      rw [Sem.run_bind, hg _ _ (by simp) (by simp), Result.andThen_ok]
      simp only [binOk] at ho
      cases op <;> simp only [stropOk] at ho <;>
        simp [binOp, Op.stringOp, binV, strop] <;> first | exact .bool _ | skip
      rw [if_neg (by simpa using ho)]
      simp; exact .str _
    | _ => exact ho.elim
  | _ => exact ho.elim

theorem unOp_sound {op : UnOp} {v : AVal} {c : Value} (hv : Rv s v c) (ho : unOk op v) : ∃ r, (Op.unary op c).run P s.w = .ok r s.w ∧ Rv s (unV op v) r := by
  cases v with
  | bool b => cases hv; cases op <;> simp only [unOk] at ho <;> exact ⟨_, rfl, .bool _⟩
  | int k n =>
    cases hv
    cases op <;> simp only [unOk] at ho
    · exact ⟨_, rfl, .int _ _⟩
    · exact ⟨_, rfl, .int _ _⟩
  | _ => exact ho.elim

theorem isInt_inv {v : AVal} {c : Value} (h : Rv s v c) (hi : isInt v) : ∃ k, c = .int k (intV v) ∧ v = .int k (intV v) := by
  cases v with
  | int k n => cases h; exact ⟨k, rfl, rfl⟩
  | _ => exact hi.elim

theorem fieldAddr_pv {k : Option Nat} {off : Nat} {v : AVal} {c : Value} (hv : Rv s v c) (ho : fieldAddrOk k off v) :
    ∃ blk o, c = .pointer (some ⟨blk, o, none⟩) ∧ Rv s (fieldAddrV k off v) (.pointer (some ⟨blk, o + off, none⟩)) := by
  cases v with
  | pval v =>
    cases v with
    | agg cs =>
      cases hv with
      | pval _ u blk o hv hm =>
        obtain ⟨vs, rfl, hsz, hr⟩ := hv.agg_inv
        obtain ⟨u, hu, hsh⟩ := partV_rv hsz hr ho
        refine ⟨blk, o, rfl, .pval _ u _ _ hu (fun j hj => ?_)⟩
        cases k with
        | none =>
          simp only at hsh
          have hc := scal_cells hu ho.2
          have hj0 : j = 0 := by have : u.cells.size = 1 := by rw [hc]; rfl
                                 omega
          subst hj0
          have h2 : u.cells[0]'(by rw [hc]; simp) = u := by simp [hc]
          obtain ⟨hlt, he⟩ := Array.getElem?_eq_some_iff.1 hsh
          have := hm off hlt
          rw [h2, Nat.add_zero]
          simpa [Value.cells, he] using this
        | some n =>
          simp only at hsh
          subst hsh
          simp only [Value.cells, Array.size_extract] at hj
          have := hm (off + j) (by simp only [Value.cells]; omega)
          rw [Nat.add_assoc]
          simpa [Value.cells] using this
    | _ => exact ho.elim
  | ptr b o =>
    cases hv with
    | ptr _ _ blk hl => exact ⟨blk, o, rfl, .ptr b (o + off) blk hl⟩
  | eptr sz b i f n =>
    cases hv with
    | eptr _ _ _ _ _ blk cap hl =>
      refine ⟨blk, _, rfl, ?_⟩
      rw [Nat.add_assoc]; exact .eptr sz b i (f + off) n blk cap hl
  | _ => exact ho.elim

theorem part_sound {t : TypeId} {k : Option Nat} (hk : kOk P t k = true) {cs : List AVal} {off : Nat} {vs : Array Value} (hl : vs.size = cs.length)
    (h : ∀ j (h1 : j < cs.length) (h2 : j < vs.size), Rv s cs[j] vs[j]) (ho : partOk k cs off) : ∃ u, (part t vs off).run P s.w = .ok u s.w ∧ Rv s (partV k cs off) u := by
  obtain ⟨u, hu, hsh⟩ := partV_rv hl h ho
  refine ⟨u, ?_, hu⟩
  unfold part
  cases k with
  | none => simp only at hsh; simp [aggT_false (kOk_none hk), hsh]
  | some n => obtain ⟨h1, h2, h3⟩ := kOk_some hk; simp only at hsh; subst hsh; simp [aggT_true h1, run_sizeOf_some h3, h2]

theorem agg_sound {t : TypeId} {k : Option Nat} (hk : kOk P t k = true) {v : AVal} {c : Value} {off : Nat} (hv : Rv s v c) (ho : aggOk k off v) :
    ∃ vs u, c = .agg vs ∧ (part t vs off).run P s.w = .ok u s.w ∧ Rv s (aggV k off v) u := by
  cases v with
  | agg cs =>
    obtain ⟨vs, rfl, hsz, hr⟩ := hv.agg_inv
    obtain ⟨u, h1, h2⟩ := part_sound hk hsz hr ho
    exact ⟨vs, u, rfl, h1, h2⟩
  | _ => exact ho.elim

/-- A slice that is known, as a value. -/
theorem Rv.slice_inv {sz : Nat} {xs : List AVal} {c : Value} (h : Rv s (.slice sz xs) c) : ∃ a cap, c = .slice a xs.length cap ∧ (xs = [] ∨ ∃ (blk off : Nat) (us : List Value), a = some ⟨blk, off, none⟩ ∧ us.length = xs.length ∧ xs.length ≤ cap ∧
    (∀ i (h1 : i < xs.length) (h2 : i < us.length), Rv s xs[i] us[i]) ∧ ∀ i (h2 : i < us.length), us[i].cells.size = sz ∧ InMem s blk (off + i * sz) us[i]) := by
  cases h with
  | slice0 _ a cap => exact ⟨a, cap, rfl, .inl rfl⟩
  | slice _ _ blk off len cap us hl hn hc hr hm => subst hn; exact ⟨_, cap, rfl, .inr ⟨blk, off, us, rfl, hl, hc, hr, hm⟩⟩

theorem lenV_sound {v : AVal} {c : Value} (hv : Rv s v c) (ho : lenOk v) : ∃ a n cap, c = .slice a n cap ∧ lenV v = .int .i64 n := by
  cases v with
  | slice sz xs => obtain ⟨a, cap, rfl, _⟩ := hv.slice_inv; exact ⟨_, _, _, rfl, rfl⟩
  | oslice sz xs b k => cases hv with | oslice _ _ _ _ _ hs hl => obtain ⟨a, cap, rfl, _⟩ := hs.slice_inv; exact ⟨_, _, _, rfl, rfl⟩
  | sref sz b off len n =>
    cases hv with
    | sref _ _ _ _ _ blk cap hl h1 h2 => exact ⟨_, _, _, rfl, rfl⟩
    | sref0 => exact ⟨_, _, _, rfl, rfl⟩
    | srefE => exact ⟨_, _, _, rfl, rfl⟩
  | _ => exact ho.elim

/-- The address of an element. -/
theorem ixS_sound {sz : Nat} {n : Int} {v : AVal} {c : Value} (hv : Rv s v c) (ho : ixSOk sz n v) :
    ∃ blk off len cap, c = .slice (some ⟨blk, off, none⟩) len cap ∧ 0 ≤ n ∧ n < len ∧ Rv s (ixSV n v) (.pointer (some ⟨blk, off + n.toNat * sz, none⟩)) := by
  have core : ∀ {xs : List AVal} {c : Value}, Rv s (.slice sz xs) c → 0 ≤ n → n < xs.length → ∃ blk off len cap, c = .slice (some ⟨blk, off, none⟩) len cap ∧ 0 ≤ n ∧ n < len ∧
      Rv s (.pval (xs.getD n.toNat .undef)) (.pointer (some ⟨blk, off + n.toNat * sz, none⟩)) := by
    intro xs c hv h0 h1
    obtain ⟨a, cap, rfl, h | ⟨blk, off, us, rfl, hl, hc, hr, hm⟩⟩ := hv.slice_inv
    · subst h; simp at h1; omega
    · have h2 : n.toNat < xs.length := by omega
      have h3 : n.toNat < us.length := by omega
      refine ⟨blk, off, _, cap, rfl, h0, h1, .pval _ us[n.toNat] _ _ ?_ (hm _ h3).2⟩
      have := hr _ h2 h3
      simpa [List.getD, List.getElem?_eq_getElem h2] using this
  cases v with
  | slice sz' xs => obtain ⟨rfl, h0, h1⟩ := ho; exact core hv h0 h1
  | oslice sz' xs b k => obtain ⟨rfl, h0, h1⟩ := ho; cases hv with | oslice _ _ _ _ _ hs hl => exact core hs h0 h1
  | sref sz' b off len m =>
    obtain ⟨rfl, h0, h1⟩ := ho
    cases hv with
    | sref _ _ _ _ _ blk cap hl g1 g2 =>
      refine ⟨blk, off * sz', len, cap - off, rfl, h0, h1, ?_⟩
      have := Rv.eptr (s := s) sz' b (off + n.toNat) 0 m blk cap hl
      rw [Nat.add_mul, Nat.add_zero] at this
      exact this
    | sref0 => simp at h1; omega
    | srefE => simp at h1; omega
  | _ => exact ho.elim

theorem foldMax_sound (f : AVal → AVal → AVal) (g : Value → Value → Sem Value)
    (hfg : ∀ (x y : AVal) (c d : Value), Rv s x c → Rv s y d → isInt x → isInt y → isInt (f x y) ∧ ∃ r, (g c d).run P s.w = .ok r s.w ∧ Rv s (f x y) r) :
    ∀ (l : List AVal) (m : List Value) (x : AVal) (c : Value), l.length = m.length → (∀ j (h1 : j < l.length) (h2 : j < m.length), Rv s l[j] m[j]) → allInt l → Rv s x c → isInt x →
      ∃ r, (m.foldlM g c).run P s.w = .ok r s.w ∧ Rv s (l.foldl f x) r
  | [], [], x, c, _, _, _, hx, _ => ⟨c, rfl, hx⟩
  | a :: l, b :: m, x, c, hl, h, ha, hx, hxi => by
    obtain ⟨h1, r, h2, h3⟩ := hfg x a c b hx (h 0 (by simp) (by simp)) hxi ha.1
    obtain ⟨r', h4, h5⟩ := foldMax_sound f g hfg l m (f x a) r (by simpa using hl) (fun j g1 g2 => by have := h (j + 1) (by simpa using g1) (by simpa using g2); simpa using this) ha.2 h3 h1
    exact ⟨r', by simp [List.foldlM, h2, h4], h5⟩
  | [], _ :: _, _, _, hl, _, _, _, _ => by simp at hl
  | _ :: _, [], _, _, hl, _, _, _, _ => by simp at hl

theorem max2_sound (x y : AVal) (c d : Value) (hx : Rv s x c) (hy : Rv s y d) (h1 : isInt x) (h2 : isInt y) : isInt (maxV x y) ∧ ∃ r, (Builtin.max2 c d).run P s.w = .ok r s.w ∧ Rv s (maxV x y) r := by
  obtain ⟨k, rfl, e1⟩ := isInt_inv hx h1
  obtain ⟨j, rfl, e2⟩ := isInt_inv hy h2
  rw [e1, e2]
  refine ⟨trivial, _, rfl, ?_⟩
  simp only [maxV, intV]; exact .int _ _
theorem min2_sound (x y : AVal) (c d : Value) (hx : Rv s x c) (hy : Rv s y d) (h1 : isInt x) (h2 : isInt y) : isInt (minV x y) ∧ ∃ r, (Builtin.min2 c d).run P s.w = .ok r s.w ∧ Rv s (minV x y) r := by
  obtain ⟨k, rfl, e1⟩ := isInt_inv hx h1
  obtain ⟨j, rfl, e2⟩ := isInt_inv hy h2
  rw [e1, e2]
  refine ⟨trivial, _, rfl, ?_⟩
  simp only [minV, intV]; exact .int _ _

end run
end Go.AM
