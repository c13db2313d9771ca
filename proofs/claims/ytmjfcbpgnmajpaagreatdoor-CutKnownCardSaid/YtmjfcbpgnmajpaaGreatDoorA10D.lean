/- A region whose order Go leaves open, first half: what it comes to in the order of its text, and which parts of the abstract heap each operation touches. -/
import Derived.Test.YtmjfcbpgnmajpaaGreatDoorA10
namespace Go.AM
open Go.RowKit

mutual
/-- A value that names no block of the abstract heap. -/
def AVal.pure : AVal → Bool
  | .undef | .bool _ | .int _ _ | .str _ | .nilptr | .nilfunc | .niliface | .nilmap | .mint _ => true
  | .agg cs => pures cs
  | .tup cs => pures cs
  | .slice _ xs => pures xs
  | .pval v => v.pure
  | .func _ a b => pures a && pures b
  | .iface _ v => v.pure
  | .opt _ v => v.pure
  | _ => false
def pures : List AVal → Bool
  | [] => true
  | v :: r => v.pure && pures r
end

mutual
/-- The blocks that a value names. -/
def AVal.blks : AVal → List Nat
  | .agg cs => blksL cs
  | .tup cs => blksL cs
  | .slice _ xs => blksL xs
  | .oslice _ xs b _ => b :: blksL xs
  | .sref _ b _ _ _ => [b]
  | .pval v => v.blks
  | .ptr b _ => [b]
  | .eptr _ b _ _ _ => [b]
  | .func _ a b => blksL a ++ blksL b
  | .iface _ v => v.blks
  | .map b => [b]
  | .iter b => [b]
  | .yieldf b => [b]
  | .opt g v => if g then v.blks else []
  | _ => []
def blksL : List AVal → List Nat
  | [] => []
  | v :: r => v.blks ++ blksL r
end

mutual
theorem pure_blks : ∀ {v : AVal}, v.pure = true → v.blks = []
  | .undef, _ | .bool _, _ | .int _ _, _ | .str _, _ | .nilptr, _ | .nilfunc, _ | .niliface, _ | .nilmap, _ | .mint _, _ => rfl
  | .agg cs, h => pures_blks (l := cs) h
  | .tup cs, h => pures_blks (l := cs) h
  | .slice _ xs, h => pures_blks (l := xs) h
  | .pval v, h => pure_blks (v := v) h
  | .func _ a b, h => by
    simp only [AVal.pure, Bool.and_eq_true] at h
    simp only [AVal.blks, pures_blks h.1, pures_blks h.2, List.append_nil]
  | .iface _ v, h => pure_blks (v := v) h
  | .opt g v, h => by
    simp only [AVal.blks, pure_blks (v := v) h]; split <;> rfl
  | .oslice _ _ _ _, h | .sref _ _ _ _ _, h | .ptr _ _, h | .eptr _ _ _ _ _, h | .map _, h | .iter _, h | .yieldf _, h => by simp [AVal.pure] at h
theorem pures_blks : ∀ {l : List AVal}, pures l = true → blksL l = []
  | [], _ => rfl
  | v :: r, h => by
    simp only [pures, Bool.and_eq_true] at h
    simp only [blksL, pure_blks h.1, pures_blks h.2, List.append_nil]
end

theorem mem_blksL : ∀ {l : List AVal} {b : Nat}, b ∈ blksL l ↔ ∃ j, ∃ h : j < l.length, b ∈ l[j].blks
  | [], b => by simp [blksL]
  | v :: r, b => by
    simp only [blksL, List.mem_append, mem_blksL (l := r)]
    constructor
    · rintro (h | ⟨j, h1, h2⟩)
      · exact ⟨0, by simp, h⟩
      · exact ⟨j + 1, by simpa using h1, by simpa using h2⟩
    · rintro ⟨j, h1, h2⟩
      cases j with
      | zero => exact .inl h2
      | succ j => exact .inr ⟨j, by simpa using h1, by simpa using h2⟩

theorem Rv.blks {s : St} {v : AVal} {c : Value} (h : Rv s v c) : ∀ b ∈ v.blks, ∃ k u, s.lam b k = some u := by
  induction h with
  | agg cs vs hl _ ih => intro b hb; obtain ⟨j, h1, h2⟩ := mem_blksL.1 hb; exact ih j h1 (by omega) b h2
  | tup cs vs hl _ ih => intro b hb; obtain ⟨j, h1, h2⟩ := mem_blksL.1 hb; exact ih j h1 (by omega) b h2
  | slice sz xs blk off len cap us hl hn hc _ hm ih => intro b hb; obtain ⟨j, h1, h2⟩ := mem_blksL.1 hb; exact ih j h1 (by omega) b h2
  | oslice sz xs b k c hs hl ih =>
    intro b' hb
    rcases List.mem_cons.1 hb with rfl | hb
    · exact ⟨k, c, hl⟩
    · exact ih b' hb
  | sref sz b off len n blk cap hl h1 h2 => intro b' hb; simp [AVal.blks] at hb; subst hb; exact ⟨_, _, hl⟩
  | srefE sz b off n a v hl h0 h1 => intro b' hb; simp [AVal.blks] at hb; subst hb; exact ⟨_, _, hl⟩
  | sref0 sz b a hl => intro b' hb; simp [AVal.blks] at hb; subst hb; exact ⟨_, _, hl⟩
  | pval v u blk off _ hm ih => exact ih
  | ptr b off blk hl => intro b' hb; simp [AVal.blks] at hb; subst hb; exact ⟨_, _, hl⟩
  | eptr sz b i f n blk cap hl => intro b' hb; simp [AVal.blks] at hb; subst hb; exact ⟨_, _, hl⟩
  | func fn first caps fi ca hf hc _ _ ih1 ih2 =>
    intro b hb
    rcases List.mem_append.1 hb with h | h
    · obtain ⟨j, h1, h2⟩ := mem_blksL.1 h; exact ih1 j h1 (by omega) b h2
    · obtain ⟨j, h1, h2⟩ := mem_blksL.1 h; exact ih2 j h1 (by omega) b h2
  | iface t v u _ ih => exact ih
  | map b blk hl => intro b' hb; simp [AVal.blks] at hb; subst hb; exact ⟨_, _, hl⟩
  | optT v c _ ih => intro b hb; simp [AVal.blks] at hb; exact ih b hb
  | optF v => intro b hb; simp [AVal.blks] at hb
  | iter b blk hl => intro b' hb; simp [AVal.blks] at hb; subst hb; exact ⟨_, _, hl⟩
  | yieldf b blk hl => intro b' hb; simp [AVal.blks] at hb; subst hb; exact ⟨_, _, hl⟩
  | _ => intro b hb; simp [AVal.blks, blksL] at hb

inductive DEff where
  | no
  | rd (l : List Nat)
  | al (o : AObj)
  | wr (b : Nat) (o : AObj)

/-- What one operation came to. -/
structure DR where
  v : AVal
  e : DEff

def DEff.run (σ : AHeap) : DEff → AHeap
  | .al o => σ ++ [o]
  | .wr b o => σ.set b o
  | _ => σ

/-- Whether two effects meddle. -/
def DEff.clash : DEff → DEff → Bool
  | .wr b _, .wr c _ => b == c
  | .wr b _, .rd l => l.contains b
  | .rd l, .wr c _ => l.contains c
  | _, _ => false

/-- Every pair that clashes is ordered. bef: of each operation those that come before it in every order. -/
def clashOk (bef : List (List Nat)) (j : Nat) (e : DEff) : List DEff → Nat → Bool
  | [], _ => true
  | f :: r, i => (!e.clash f || (bef.getD j []).contains i) && clashOk bef j e r (i + 1)
def clashesOk (bef : List (List Nat)) : List DEff → List DEff → Nat → Bool
  | _, [], _ => true
  | before, e :: r, j => clashOk bef j e before 0 && clashesOk bef (before ++ [e]) r (j + 1)

def rdOf : AVal → DEff
  | .ptr b _ => .rd [b]
  | .eptr _ b _ _ _ => .rd [b]
  | .map b => .rd [b]
  | _ => .no
def rdL (l : List AVal) : DEff := if pures l = true then .no else .rd (blksL l)

def dqEff (e : Env) : AI → DEff
  | .load _ x => rdOf (opv e x)
  | .lookup _ _ x _ => rdOf (opv e x)
  | _ => .no

def wrOf (σ : AHeap) (v : AVal) : AVal → Option DEff
  | .ptr b off => match σ.get b with
    | .box cs => some (.wr b (.box (putCells cs off v.cells)))
    | _ => none
  | .eptr _ b i f _ => match σ.get b with
    | .arr esz xs => some (.wr b (.arr esz (xs.set i (setElem (xs.getD i .undef) f v.cells))))
    | _ => none
  | _ => none

def noMint : List AVal → Bool
  | [] => true
  | .mint _ :: _ => false
  | _ :: r => noMint r

/-- The elements of a slice that stays as it is. -/
def flatOf : AVal → Option (List AVal)
  | .slice _ xs => some xs
  | .oslice _ xs _ _ => some xs
  | _ => none

theorem flatOf_elems {v : AVal} {ys : List AVal} (h : flatOf v = some ys) (σ : AHeap) (sz : Nat) : v.elems σ = ys ∧ (v.elemsOk σ sz ↔ v.elemsOk [] sz) := by
  cases v <;> simp [flatOf] at h <;> subst h <;> exact ⟨rfl, Iff.rfl⟩

/-- 'append' where the order is open: onto a slice with its own room, or onto a whole array of the call's own. -/
def appD (sz bytes : Nat) (σ : AHeap) (x y : AVal) (K : AVal → DEff → Prop) : Prop :=
  match flatOf y with
  | none => False
  | some ys => y.elemsOk [] sz ∧ Fits sz ys ∧ match x with
    | .oslice sz' xs b k => sz' = sz ∧ (xs.length + ys.length) * bytes ≤ 140737488355328 ∧ match σ.get b with
      | .spare sz'' k' => sz'' = sz ∧ k' = k ∧ K (.oslice sz (xs ++ ys) b (k + 1)) (.wr b (.spare sz (k + 1)))
      | _ => False
    | .sref sz' b off len n => sz' = sz ∧ match σ.get b with
      | .arr sz'' xs => sz'' = sz ∧ xs.length = n ∧ off = 0 ∧ len = n ∧ (n + ys.length) * bytes ≤ 140737488355328 ∧ K (.sref sz b 0 (n + ys.length) (n + ys.length)) (.wr b (.arr sz (xs ++ ys)))
      | _ => False
    | _ => False

theorem appD_inv {sz bytes : Nat} {σ : AHeap} {x y : AVal} {K : AVal → DEff → Prop} (h : appD sz bytes σ x y K) : ∃ ys b o v, flatOf y = some ys ∧ y.elemsOk [] sz ∧ Fits sz ys ∧ b ∈ x.blks ∧ σ.get b ≠ .dead ∧ K v (.wr b o) ∧
    (∀ H : AHeap, H.get b = σ.get b → ∀ K' : AVal → AHeap → Prop, K' v (H.set b o) → appendW sz bytes H x ys K') ∧ (∀ K' : AVal → DEff → Prop, K' v (.wr b o) → appD sz bytes σ x y K') := by
  unfold appD at h
  cases hf : flatOf y with
  | none => rw [hf] at h; exact h.elim
  | some ys =>
    rw [hf] at h
    obtain ⟨h1, h2, h3⟩ := h
    cases x with
    | oslice sz' xs b k =>
      obtain ⟨rfl, h4, h5⟩ := h3
      cases hg : σ.get b with
      | spare sz'' k' =>
        rw [hg] at h5
        obtain ⟨rfl, rfl, h6⟩ := h5
        refine ⟨ys, b, _, _, rfl, h1, h2, by simp [AVal.blks], by rw [hg]; simp, h6, fun H hH K' hk => ?_, fun K' hk => ?_⟩
        · simp only [appendW, hH, hg]; exact ⟨trivial, h4, trivial, trivial, hk⟩
        · simp only [appD, hf, hg]; exact ⟨h1, h2, trivial, h4, trivial, trivial, hk⟩
      | _ => rw [hg] at h5; exact h5.elim
    | sref sz' b off len n =>
      obtain ⟨rfl, h5⟩ := h3
      cases hg : σ.get b with
      | arr sz'' xs =>
        rw [hg] at h5
        obtain ⟨rfl, rfl, rfl, rfl, h6, h7⟩ := h5
        refine ⟨ys, b, _, _, rfl, h1, h2, by simp [AVal.blks], by rw [hg]; simp, h7, fun H hH K' hk => ?_, fun K' hk => ?_⟩
        · simp only [appendW, hH, hg]
          refine ⟨trivial, trivial, trivial, ?_⟩
          split
          · rename_i hle
            have hy : ys = [] := List.eq_nil_of_length_eq_zero (by omega)
            subst hy
            simpa using hk
          · exact ⟨trivial, trivial, h6, hk⟩
        · simp only [appD, hf, hg]; exact ⟨h1, h2, trivial, trivial, trivial, trivial, trivial, h6, hk⟩
      | _ => rw [hg] at h5; exact h5.elim
    | _ => exact h3.elim

def gopt (g : Option (Nat × Bool)) (c : Bool) (v : AVal) : AVal :=
  match g with
  | none => v
  | some _ => .opt c v

def dguard (g : Option (Nat × Bool)) (e : Env) : Option Bool :=
  match g with
  | none => some true
  | some gd => gcond e gd

/-- The sizes of a slice that is made. -/
def mkOk (bytes : Nat) (n c : AVal) : Prop := isInt n ∧ isInt c ∧ 0 ≤ intV n ∧ intV n ≤ intV c ∧ intV c * bytes ≤ 140737488355328 ∧ intV c ≤ 140737488355328

/-- The operations one after the other; es: the effects so far, the last one first. -/
def dEval (P : Program) : List AOper → Env → AHeap → List DEff → (Env → AHeap → List DEff → Prop) → Prop
  | [], e, σ, es, K => K e σ es
  | o :: r, e, σ, es, K =>
    match dguard o.g e with
    | none => False
    | some c => match o.i with
      | .call f dn l => ∃ v, (c = true → needs e (f :: l) ∧ ∀ σ', (∀ b ∈ blksL (opv e f :: l.map (opv e)), b < σ.length → σ'.get b = σ.get b) → CallV P (opv e f) (deowns dn (l.map (opv e))) σ' fun q σ'' => q = .ret v ∧ σ'' = σ') ∧
          dEval P r (e.put o.d (gopt o.g c v)) σ (rdL (opv e f :: l.map (opv e)) :: es) K
      | .box n x => o.g = none ∧ needs e [x] ∧ cellsLen (opv e x) n ∧ dEval P r (e.put o.d (.ptr σ.length 0)) (σ ++ [.box (opv e x).cells]) (.al (.box (opv e x).cells) :: es) K
      | .alloc z => o.g = none ∧ noMint z = true ∧ dEval P r (e.put o.d (.ptr σ.length 0)) (σ ++ [.box z]) (.al (.box z) :: es) K
      | .callA sz f dn l => o.g = none ∧ needs e (f :: l) ∧ ∃ xs, (∀ σ', CallV P (opv e f) (deowns dn (l.map (opv e))) σ' fun q σ'' => q = .ret (.oslice sz xs σ'.length 1) ∧ σ'' = σ' ++ [.spare sz 1]) ∧
          dEval P r (e.put o.d (.oslice sz xs σ.length 1)) (σ ++ [.spare sz 1]) (.al (.spare sz 1) :: es) K
      | .mnew => o.g = none ∧ dEval P r (e.put o.d (.map σ.length)) (σ ++ [.amap []]) (.al (.amap []) :: es) K
      | .mksl m sz bytes z n k => m = 2 ∧ o.g = none ∧ needs e [n, k] ∧ mkOk bytes (opv e n) (opv e k) ∧
          dEval P r (e.put o.d (.sref sz σ.length 0 (intV (opv e n)).toNat (intV (opv e n)).toNat)) (σ ++ [.arr sz (List.replicate (intV (opv e n)).toNat z)]) (.al (.arr sz (List.replicate (intV (opv e n)).toNat z)) :: es) K
      | .store sz x v => o.g = none ∧ needs e [x, v] ∧ storeOk σ sz (opv e v) (opv e x) ∧ match wrOf σ (opv e v) (opv e x) with
        | some f => dEval P r (e.put o.d .undef) (f.run σ) (f :: es) K
        | none => False
      | .append sz bytes x y => o.g = none ∧ needs e [x, y] ∧ appD sz bytes σ (opv e x) (opv e y) fun v f => dEval P r (e.put o.d v) (f.run σ) (f :: es) K
      | .lit m sz n ps => if m = 0 then (c = true → needs e (ps.map (·.2)) ∧ litOk sz n (opv e) ps) ∧ dEval P r (e.put o.d (gopt o.g c (.slice sz (litV (opv e) (List.replicate n .undef) ps)))) σ (.no :: es) K
        else m = 2 ∧ o.g = none ∧ needs e (ps.map (·.2)) ∧ litOk sz n (opv e) ps ∧ dEval P r (e.put o.d (.sref sz σ.length 0 n n)) (σ ++ [.arr sz (litV (opv e) (List.replicate n .undef) ps)]) (.al (.arr sz (litV (opv e) (List.replicate n .undef) ps)) :: es) K
      | i => i.quiet = true ∧ (c = true → qside e σ i) ∧ dEval P r (e.put o.d (gopt o.g c (qval e σ i))) σ (dqEff e i :: es) K

/-- One operation, at a frame and a heap. -/
def dStep (P : Program) (o : AOper) (e : Env) (σ : AHeap) (r : DR) : Prop :=
  ∃ c, dguard o.g e = some c ∧
    match o.i with
    | .call f dn l => r.e = rdL (opv e f :: l.map (opv e)) ∧ ∃ v, r.v = gopt o.g c v ∧
        (c = true → needs e (f :: l) ∧ ∀ σ', (∀ b ∈ blksL (opv e f :: l.map (opv e)), b < σ.length → σ'.get b = σ.get b) → CallV P (opv e f) (deowns dn (l.map (opv e))) σ' fun q σ'' => q = .ret v ∧ σ'' = σ')
    | .box n x => o.g = none ∧ needs e [x] ∧ cellsLen (opv e x) n ∧ r = ⟨.ptr σ.length 0, .al (.box (opv e x).cells)⟩
    | .alloc z => o.g = none ∧ noMint z = true ∧ r = ⟨.ptr σ.length 0, .al (.box z)⟩
    | .callA sz f dn l => o.g = none ∧ needs e (f :: l) ∧ ∃ xs, (∀ σ', CallV P (opv e f) (deowns dn (l.map (opv e))) σ' fun q σ'' => q = .ret (.oslice sz xs σ'.length 1) ∧ σ'' = σ' ++ [.spare sz 1]) ∧
        r = ⟨.oslice sz xs σ.length 1, .al (.spare sz 1)⟩
    | .mnew => o.g = none ∧ r = ⟨.map σ.length, .al (.amap [])⟩
    | .mksl m sz bytes z n k => m = 2 ∧ o.g = none ∧ needs e [n, k] ∧ mkOk bytes (opv e n) (opv e k) ∧
        r = ⟨.sref sz σ.length 0 (intV (opv e n)).toNat (intV (opv e n)).toNat, .al (.arr sz (List.replicate (intV (opv e n)).toNat z))⟩
    | .store sz x v => o.g = none ∧ needs e [x, v] ∧ storeOk σ sz (opv e v) (opv e x) ∧ r.v = .undef ∧ wrOf σ (opv e v) (opv e x) = some r.e
    | .append sz bytes x y => o.g = none ∧ needs e [x, y] ∧ appD sz bytes σ (opv e x) (opv e y) fun v f => r = ⟨v, f⟩
    | .lit m sz n ps => if m = 0 then (c = true → needs e (ps.map (·.2)) ∧ litOk sz n (opv e) ps) ∧ r = ⟨gopt o.g c (.slice sz (litV (opv e) (List.replicate n .undef) ps)), .no⟩
      else m = 2 ∧ o.g = none ∧ needs e (ps.map (·.2)) ∧ litOk sz n (opv e) ps ∧ r = ⟨.sref sz σ.length 0 n n, .al (.arr sz (litV (opv e) (List.replicate n .undef) ps))⟩
    | i => i.quiet = true ∧ (c = true → qside e σ i) ∧ r = ⟨gopt o.g c (qval e σ i), dqEff e i⟩

/-- The whole in the order of the text. -/
def dRun (P : Program) : List AOper → Env → AHeap → List DR → Env → AHeap → Prop
  | [], e, σ, [], e', σ' => e' = e ∧ σ' = σ
  | o :: r, e, σ, q :: t, e', σ' => dStep P o e σ q ∧ dRun P r (e.put o.d q.v) (q.e.run σ) t e' σ'
  | _, _, _, _, _, _ => False

theorem dqEff_run {e : Env} {i : AI} {σ : AHeap} : (dqEff e i).run σ = σ := by
  have h : ∀ v, (rdOf v).run σ = σ := fun v => by cases v <;> rfl
  cases i <;> first | rfl | exact h _

theorem rdL_run {l : List AVal} {σ : AHeap} : (rdL l).run σ = σ := by unfold rdL; split <;> rfl

theorem dEval_run {P : Program} : ∀ {ops : List AOper} {e : Env} {σ : AHeap} {es : List DEff} {K : Env → AHeap → List DEff → Prop}, dEval P ops e σ es K →
    ∃ t e' σ', dRun P ops e σ t e' σ' ∧ K e' σ' ((t.map (·.e)).reverse ++ es)
  | [], e, σ, es, K, h => ⟨[], e, σ, ⟨rfl, rfl⟩, h⟩
  | o :: r, e, σ, es, K, h => by
    simp only [dEval] at h
    split at h
    · exact h.elim
    · rename_i c hc
      have next : ∀ (q : DR), dStep P o e σ q → dEval P r (e.put o.d q.v) (q.e.run σ) (q.e :: es) K → ∃ t e' σ', dRun P (o :: r) e σ t e' σ' ∧ K e' σ' ((t.map (·.e)).reverse ++ es) := by
        intro q h1 h2
        obtain ⟨t, e', σ', g1, g2⟩ := dEval_run h2
        exact ⟨q :: t, e', σ', ⟨h1, g1⟩, by simpa using g2⟩
      cases hi : o.i with
      | call f dn l =>
        rw [hi] at h
        obtain ⟨v, h1, h2⟩ := h
        exact next ⟨gopt o.g c v, rdL (opv e f :: l.map (opv e))⟩ ⟨c, hc, by rw [hi]; exact ⟨rfl, v, rfl, h1⟩⟩ (by rw [rdL_run]; exact h2)
      | box n x => rw [hi] at h; exact next ⟨_, _⟩ ⟨c, hc, by rw [hi]; exact ⟨h.1, h.2.1, h.2.2.1, rfl⟩⟩ h.2.2.2
      | alloc z => rw [hi] at h; exact next ⟨_, _⟩ ⟨c, hc, by rw [hi]; exact ⟨h.1, h.2.1, rfl⟩⟩ h.2.2
      | callA sz f dn l =>
        rw [hi] at h
        obtain ⟨h1, h2, xs, h3, h4⟩ := h
        exact next ⟨_, _⟩ ⟨c, hc, by rw [hi]; exact ⟨h1, h2, xs, h3, rfl⟩⟩ h4
      | mnew => rw [hi] at h; exact next ⟨_, _⟩ ⟨c, hc, by rw [hi]; exact ⟨h.1, rfl⟩⟩ h.2
      | mksl m sz bytes z n k => rw [hi] at h; exact next ⟨_, _⟩ ⟨c, hc, by rw [hi]; exact ⟨h.1, h.2.1, h.2.2.1, h.2.2.2.1, rfl⟩⟩ h.2.2.2.2
      | store sz x v =>
        rw [hi] at h
        obtain ⟨h1, h2, h3, h4⟩ := h
        cases hw : wrOf σ (opv e v) (opv e x) with
        | none => rw [hw] at h4; exact h4.elim
        | some f => rw [hw] at h4; exact next ⟨.undef, f⟩ ⟨c, hc, by rw [hi]; exact ⟨h1, h2, h3, rfl, hw⟩⟩ h4
      | append sz bytes x y =>
        rw [hi] at h
        obtain ⟨h1, h2, h3⟩ := h
        obtain ⟨ys, b, o', v, q1, q2, q3, q4, q5, q6, q7, q8⟩ := appD_inv h3
        exact next ⟨_, _⟩ ⟨c, hc, by rw [hi]; exact ⟨h1, h2, q8 _ rfl⟩⟩ q6
      | lit m sz n ps =>
        rw [hi] at h
        by_cases hm : m = 0
        · simp only [if_pos hm] at h
          exact next ⟨_, .no⟩ ⟨c, hc, by rw [hi]; simp only [if_pos hm]; exact ⟨h.1, rfl⟩⟩ h.2
        · simp only [if_neg hm] at h
          exact next ⟨_, _⟩ ⟨c, hc, by rw [hi]; simp only [if_neg hm]; exact ⟨h.1, h.2.1, h.2.2.1, h.2.2.2.1, rfl⟩⟩ h.2.2.2.2
      | load k x => rw [hi] at h; exact next ⟨_, dqEff e (.load k x)⟩ ⟨c, hc, by rw [hi]; exact ⟨h.1, h.2.1, rfl⟩⟩ (by rw [dqEff_run]; exact h.2.2)
      | lookup ok z x i => rw [hi] at h; exact next ⟨_, dqEff e (.lookup ok z x i)⟩ ⟨c, hc, by rw [hi]; exact ⟨h.1, h.2.1, rfl⟩⟩ (by rw [dqEff_run]; exact h.2.2)
      | _ => rw [hi] at h; exact next ⟨_, .no⟩ ⟨c, hc, by rw [hi]; exact ⟨h.1, h.2.1, rfl⟩⟩ h.2.2

end Go.AM
