/- The input: what is read is a value of ours, of the type's shape; from a contract to the statement's form. -/
import Derived.Test.YtmjfcbpgnmajpaaGreatDoorA13
import Derived.Carry
namespace Go.AM
open Go.RowKit

def St.start (W : World) : St := { h := [], lam := fun _ _ => none, S := fun b _ => b < W.heap.size, w := W }

/-- The tables of the program stand in the world as its text lays them. -/
def LaidW (W : World) : Prop := ∀ g cs, (g, cs) ∈ laidTab → ∀ j (h : j < cs.length), W.cell? ⟨g, j, none⟩ = some (.int cs[j].1 cs[j].2)
theorem LaidW.nil (h : laidTab = []) (W : World) : LaidW W := fun g cs hm => by rw [h] at hm; cases hm
theorem LaidW.start {W : World} (h : LaidW W) : LaidIn (St.start W) := fun g cs hm j hj => ⟨by
  have h1 := h g cs hm j hj
  simp only [World.cell?] at h1
  show g < W.heap.size
  rcases Nat.lt_or_ge g W.heap.size with h' | h'
  · exact h'
  · rw [Array.getElem?_eq_none h'] at h1; simp at h1, h g cs hm j hj⟩

theorem start_inv {W : World} (hL : LaidW W) : Inv W (St.start W) :=
  ⟨.refl _ _, fun b o h => by simp [St.start] at h, fun b b' o o' blk h => by simp [St.start] at h, fun _ _ _ => rfl, fun blk o h => h, hL.start⟩

def packT (b : Option Bool) (cs : List AVal) : AVal :=
  match b with
  | some true => .agg cs
  | _ => cs.getD 0 .undef

def plainFs (g : TypeId → Bool) (sz : TypeId → Nat) : List Field → Nat → Nat → Bool
  | [], o, n => o == n
  | f :: r, o, n => f.offset == o && g f.type && plainFs g sz r (o + sz f.type) n

/-- The types whose inputs we read: numbers, strings, bools, slices, structs, arrays of them. -/
def plainTy (P : Program) : Nat → TypeId → Bool
  | 0, _ => false
  | k + 1, t => match P.underlying t with
    | some .bool | some (.int _) | some .string => P.cellsOf t == 1
    | some (.slice e) => P.cellsOf t == 1 && plainTy P k e && decide (0 < P.cellsOf e)
    | some (.struct fs) => plainFs (plainTy P k) P.cellsOf fs.toList 0 (P.cellsOf t)
    | some (.array n e) => plainTy P k e && P.cellsOf t == n * P.cellsOf e
    | _ => false

def shapedFs (g : TypeId → List AVal → Prop) : List Field → List AVal → Prop
  | [], as => as = []
  | f :: r, as => ∃ a b, as = a ++ b ∧ g f.type a ∧ shapedFs g r b

def shapedN (g : List AVal → Prop) : Nat → List AVal → Prop
  | 0, as => as = []
  | n + 1, as => ∃ a b, as = a ++ b ∧ g a ∧ shapedN g n b

/-- The cells of a value of a type. -/
def Shaped (P : Program) : Nat → TypeId → List AVal → Prop
  | 0, _, _ => False
  | k + 1, t, as => match P.underlying t with
    | some .bool => ∃ b, as = [.bool b]
    | some (.int q) => ∃ n, as = [.int q n] ∧ q.min ≤ n ∧ n ≤ q.max
    | some .string => ∃ x, as = [.str x] ∧ x.size ≤ maxLen
    | some (.slice e) => ∃ xs, as = [.slice (P.cellsOf e) xs] ∧ xs.length ≤ maxLen ∧ ∀ x ∈ xs, ∃ cs, Shaped P k e cs ∧ x = packT (aggT (P.underlying e)) cs
    | some (.struct fs) => shapedFs (Shaped P k) fs.toList as
    | some (.array n e) => shapedN (Shaped P k e) n as
    | _ => False

theorem mapM_get {α β : Type} {f : α → Option β} : ∀ {l : List α} {r : List β}, l.mapM f = some r → r.length = l.length ∧ ∀ i (h1 : i < l.length) (h2 : i < r.length), f l[i] = some r[i]
  | [], r, h => by simp at h; subst h; exact ⟨rfl, fun i h1 => by simp at h1⟩
  | a :: l, r, h => by
    rw [List.mapM_cons] at h
    cases ha : f a with
    | none => simp [ha] at h
    | some b =>
      cases hl : l.mapM f with
      | none => simp [ha, hl] at h
      | some r' =>
        simp [ha, hl] at h
        subst h
        obtain ⟨h1, h2⟩ := mapM_get hl
        refine ⟨by simp [h1], fun i g1 g2 => ?_⟩
        cases i with
        | zero => simpa using ha
        | succ i => simpa using h2 i (by simpa using g1) (by simpa using g2)

/-- Cells and what they are. -/
def CellsRv (s : St) (as : List AVal) (cs : List Value) : Prop := as.length = cs.length ∧ ∀ j (h1 : j < as.length) (h2 : j < cs.length), Rv s as[j] cs[j] ∧ as[j].scal = true

theorem CellsRv.append {s : St} {a b : List AVal} {c d : List Value} (h : CellsRv s a c) (k : CellsRv s b d) : CellsRv s (a ++ b) (c ++ d) := by
  refine ⟨by simp [h.1, k.1], fun j h1 h2 => ?_⟩
  have := h.1
  by_cases hj : j < a.length
  · rw [List.getElem_append_left hj, List.getElem_append_left (by omega)]; exact h.2 j hj (by omega)
  · rw [List.getElem_append_right (by omega), List.getElem_append_right (by omega)]
    simp only [← this]
    exact k.2 _ _ _

theorem CellsRv.one {s : St} {a : AVal} {c : Value} (h : Rv s a c) (hs : a.scal = true) : CellsRv s [a] [c] :=
  ⟨rfl, fun j h1 h2 => by have : j = 0 := by simp at h1; exact h1
                          subst this; exact ⟨h, hs⟩⟩

theorem wf_int {q : IntKind} {n : Int} (h : (Lit.int q n).wf = true) : q.min ≤ n ∧ n ≤ q.max := by
  simp only [Lit.wf, Bool.and_eq_true, decide_eq_true_eq] at h; exact h

section
variable {H : Type} {enc : TypeId × Value → H} {P : Program} {W : World} {sp : Nat → Bool} {held : Bool}

/-- A cell that is read is there. -/
theorem cell_there {a : Addr} {x : Value} (h : W.cell? a = some x) : a.spot = none ∧ a.block < W.heap.size := by
  obtain ⟨b, o, spt⟩ := a
  simp only [World.cell?] at h
  cases spt with
  | none =>
    refine ⟨rfl, ?_⟩
    rcases Nat.lt_or_ge b W.heap.size with h' | h'
    · exact h'
    · rw [Array.getElem?_eq_none h'] at h; simp at h
  | some y => exfalso; split at h <;> simp at h

theorem trod_shaped : ∀ (k fuel : Nat) (t : TypeId) (cs : List Value) (d : DataW H) (ps : List MemPlace), DataW.trod enc P W 0 sp held fuel t cs = some (d, ps) → plainTy P k t = true → 
    ∃ as, Shaped P k t as ∧ CellsRv (St.start W) as cs ∧ as.length = P.cellsOf t
  | 0, _, _, _, _, _, _, hp => by simp [plainTy] at hp
  | k + 1, 0, _, _, _, _, h, _ => by simp [DataW.trod] at h
  | k + 1, fuel + 1, t, cs, d, ps, h, hp => by
    simp only [plainTy] at hp
    simp only [DataW.trod] at h
    simp only [Shaped]
    cases hu : P.underlying t with
    | none => rw [hu] at hp; simp at hp
    | some ty =>
      rw [hu] at hp h
      cases ty with
      | bool =>
        simp only [beq_iff_eq] at hp
        rcases cs with _ | ⟨v, _ | ⟨v2, r⟩⟩
        · simp at h
        · cases v <;> simp at h
          exact ⟨[.bool _], ⟨_, rfl⟩, .one (.bool _) rfl, hp.symm⟩
        · simp at h
      | int q =>
        simp only [beq_iff_eq] at hp
        rcases cs with _ | ⟨v, _ | ⟨v2, r⟩⟩
        · simp at h
        · cases v <;> simp at h
          obtain ⟨⟨rfl, hw⟩, _⟩ := h
          exact ⟨[.int _ _], ⟨_, rfl, wf_int hw⟩, .one (.int _ _) rfl, hp.symm⟩
        · simp at h
      | string =>
        simp only [beq_iff_eq] at hp
        rcases cs with _ | ⟨v, _ | ⟨v2, r⟩⟩
        · simp at h
        · cases v <;> simp at h
          exact ⟨[.str _], ⟨_, rfl, h.1⟩, .one (.str _) rfl, hp.symm⟩
        · simp at h
      | slice e =>
        simp only [Bool.and_eq_true, beq_iff_eq, decide_eq_true_eq] at hp
        obtain ⟨⟨hp1, hp2⟩, hp3⟩ := hp
        rcases cs with _ | ⟨v, _ | ⟨v2, r⟩⟩
        · simp at h
        · have hv : ∃ a len cap, v = .slice a len cap := by
            cases v with
            | slice a len cap => exact ⟨a, len, cap, rfl⟩
            | _ => simp at h
          obtain ⟨a, len, cap, rfl⟩ := hv
          cases a with
          | none =>
            have hz : len = 0 ∧ cap = 0 := by
              rcases len with _ | len
              · rcases cap with _ | cap
                · exact ⟨rfl, rfl⟩
                · simp at h
              · simp at h
            obtain ⟨rfl, rfl⟩ := hz
            exact ⟨[.slice (P.cellsOf e) []], ⟨[], rfl, by simp, fun x hx => by cases hx⟩, .one (.slice0 _ _ _) rfl, hp1.symm⟩
          | some a =>
            simp only at h
            split at h
            · rename_i hc
              cases hel : (List.range len).mapM (fun i => (W.cells? 0 (a.add (i * P.cellsOf e)) (P.cellsOf e)).bind (DataW.trod enc P W 0 sp held fuel e)) with
              | none => rw [hel] at h; simp at h
              | some elems =>
                obtain ⟨g1, g2⟩ := mapM_get hel
                have hlen : elems.length = len := by simpa using g1
                -- each element
                have each : ∀ i, i < len → ∃ x u, (∃ cs, Shaped P k e cs ∧ x = packT (aggT (P.underlying e)) cs) ∧ Rv (St.start W) x u ∧ u.cells.size = P.cellsOf e ∧ ∀ j (hj : j < u.cells.size), W.cell? ((a.add (i * P.cellsOf e)).add j) = some u.cells[j] := by
                  intro i hi
                  have := g2 i (by simpa using hi) (by omega)
                  simp only [List.getElem_range] at this
                  cases hcl : W.cells? 0 (a.add (i * P.cellsOf e)) (P.cellsOf e) with
                  | none => rw [hcl] at this; simp at this
                  | some cl =>
                    rw [hcl] at this
                    simp only [Option.bind_some] at this
                    obtain ⟨as, s1, s2, s3⟩ := trod_shaped k fuel e cl _ _ this hp2
                    simp only [World.cells?, Nat.zero_le, if_true] at hcl
                    obtain ⟨c1, c2⟩ := mapM_get hcl
                    have c1' : cl.length = P.cellsOf e := by simpa using c1
                    have ccell : ∀ j (hj : j < cl.length), W.cell? ((a.add (i * P.cellsOf e)).add j) = some cl[j] := fun j hj => by
                      have := c2 j (by simp; omega) hj
                      simpa using this
                    by_cases hag : aggT (P.underlying e) = some true
                    · refine ⟨.agg as, .agg cl.toArray, ⟨as, s1, by rw [hag]; rfl⟩, .agg _ _ (by simpa using s2.1.symm) (fun j h1 h2 => by simpa using (s2.2 j h1 (by simpa using h2)).1), by simpa [Value.cells] using c1', fun j hj => ?_⟩
                      have hj' : j < cl.length := by simpa [Value.cells] using hj
                      simpa [Value.cells] using ccell j hj'
                    · -- one cell
                      have hone : P.cellsOf e = 1 := by
                        cases k with
                        | zero => simp [plainTy] at hp2
                        | succ k =>
                          simp only [plainTy] at hp2
                          cases hue : P.underlying e with
                          | none => rw [hue] at hp2; simp at hp2
                          | some te => rw [hue] at hp2 hag; cases te <;> simp [aggT] at hp2 hag <;> first | exact hp2 | exact hp2.1 | exact hp2.1.1
                      have hcl1 : ∃ u, cl = [u] := by
                        match cl, c1' with
                        | [u], _ => exact ⟨u, rfl⟩
                        | [], h => simp at h; omega
                        | _ :: _ :: _, h => simp at h; omega
                      obtain ⟨u, rfl⟩ := hcl1
                      have has1 : ∃ x, as = [x] := by
                        have := s2.1
                        match as, this with
                        | [x], _ => exact ⟨x, rfl⟩
                        | [], h => simp at h
                        | _ :: _ :: _, h => simp at h
                      obtain ⟨x, rfl⟩ := has1
                      have h0 := s2.2 0 (by simp) (by simp)
                      simp only [List.getElem_cons_zero] at h0
                      have hcs := scal_cells h0.1 h0.2
                      refine ⟨x, u, ⟨[x], s1, ?_⟩, h0.1, by rw [hcs, hone]; rfl, fun j hj => ?_⟩
                      · unfold packT; split
                        · rename_i hh; exact absurd hh hag
                        · rfl
                      · have hj0 : j = 0 := by rw [hcs] at hj; simp at hj; exact hj
                        subst hj0
                        have := ccell 0 (by simp)
                        simp only [List.getElem_cons_zero] at this
                        rw [this]; simp [hcs]
                -- all of them
                have all : ∀ n, n ≤ len → ∃ (xs : List AVal) (us : List Value), xs.length = n ∧ us.length = n ∧ (∀ x ∈ xs, ∃ cs, Shaped P k e cs ∧ x = packT (aggT (P.underlying e)) cs) ∧
                    ∀ i (h1 : i < xs.length) (h2 : i < us.length), Rv (St.start W) xs[i] us[i] ∧ us[i].cells.size = P.cellsOf e ∧ ∀ j (hj : j < us[i].cells.size), W.cell? ((a.add (i * P.cellsOf e)).add j) = some us[i].cells[j] := by
                  intro n
                  induction n with
                  | zero => intro _; exact ⟨[], [], rfl, rfl, fun x hx => (by cases hx), fun i h1 => (by simp at h1)⟩
                  | succ n ih =>
                    intro hn
                    obtain ⟨xs, us, q1, q2, q3, q4⟩ := ih (by omega)
                    obtain ⟨x, u, r1, r2, r3, r4⟩ := each n (by omega)
                    refine ⟨xs ++ [x], us ++ [u], by simp [q1], by simp [q2], fun y hy => ?_, fun i h1 h2 => ?_⟩
                    · rcases List.mem_append.1 hy with hy | hy
                      · exact q3 y hy
                      · simp at hy; subst hy; exact r1
                    · by_cases hi : i < n
                      · simp only [List.getElem_append_left (show i < xs.length by omega), List.getElem_append_left (show i < us.length by omega)]
                        exact q4 i (by omega) (by omega)
                      · have hin : i = n := by simp at h1; omega
                        subst hin
                        have e1 : (xs ++ [x])[i] = x := by rw [List.getElem_append_right (by omega)]; simp [q1]
                        have e2 : (us ++ [u])[i] = u := by rw [List.getElem_append_right (by omega)]; simp [q2]
                        simp only [e1, e2]
                        exact ⟨r2, r3, r4⟩
                obtain ⟨xs, us, q1, q2, q3, q4⟩ := all len (Nat.le_refl _)
                refine ⟨[.slice (P.cellsOf e) xs], ⟨xs, rfl, by omega, q3⟩, .one ?_ rfl, hp1.symm⟩
                by_cases h0 : len = 0
                · have : xs = [] := List.eq_nil_of_length_eq_zero (by omega)
                  subst this; subst h0; exact .slice0 _ _ _
                · -- the address is a plain one
                  have hsp : a.spot = none := by
                    have := (q4 0 (by omega) (by omega)).2.2 0 (by have := (q4 0 (by omega) (by omega)).2.1; omega)
                    have h1 := (cell_there this).1
                    rw [Nat.zero_mul] at h1
                    simpa [Addr.add] using h1
                  obtain ⟨blk, off, spt⟩ := a
                  simp only at hsp
                  subst hsp
                  refine .slice _ xs blk off len cap us (by omega) q1.symm hc.2.1 (fun i h1 h2 => (q4 i h1 h2).1) (fun i h2 => ⟨(q4 i (by omega) h2).2.1, fun j hj => ?_⟩)
                  have := (q4 i (by omega) h2).2.2 j hj
                  rw [addr_add, addr_add] at this
                  exact ⟨(cell_there this).2, this⟩
            · cases h
        · simp at h
      | struct fs =>
        simp only at hp h
        split at h
        · rename_i hlen
          cases hm : fs.toList.mapM (fun f => DataW.trod enc P W 0 sp held fuel f.type ((cs.drop f.offset).take (P.cellsOf f.type))) with
          | none => rw [hm] at h; simp at h
          | some xs =>
            have key : ∀ (l : List Field) (xs : List (DataW H × List MemPlace)) (o : Nat), l.mapM (fun f => DataW.trod enc P W 0 sp held fuel f.type ((cs.drop f.offset).take (P.cellsOf f.type))) = some xs → plainFs (plainTy P k) P.cellsOf l o (P.cellsOf t) = true →
                o ≤ P.cellsOf t ∧ ∃ as, shapedFs (Shaped P k) l as ∧ CellsRv (St.start W) as (cs.drop o) ∧ as.length = P.cellsOf t - o := by
              intro l
              induction l with
              | nil =>
                intro xs o _ hpl
                simp only [plainFs, beq_iff_eq] at hpl
                subst hpl
                refine ⟨Nat.le_refl _, [], rfl, ⟨by simp; omega, fun j h1 => by simp at h1⟩, by simp⟩
              | cons f l ih =>
                intro xs o hm hpl
                simp only [plainFs, Bool.and_eq_true, beq_iff_eq] at hpl
                obtain ⟨⟨rfl, hpf⟩, hpl⟩ := hpl
                rw [List.mapM_cons] at hm
                cases hf : DataW.trod enc P W 0 sp held fuel f.type ((cs.drop f.offset).take (P.cellsOf f.type)) with
                | none => simp [hf] at hm
                | some d1 =>
                  cases hl : l.mapM (fun f => DataW.trod enc P W 0 sp held fuel f.type ((cs.drop f.offset).take (P.cellsOf f.type))) with
                  | none => simp [hf, hl] at hm
                  | some r =>
                    obtain ⟨o1, as2, s1, s2, s3⟩ := ih r _ hl hpl
                    obtain ⟨as1, t1, t2, t3⟩ := trod_shaped k fuel f.type _ _ _ hf hpf
                    refine ⟨by omega, as1 ++ as2, ⟨as1, as2, rfl, t1, s1⟩, ?_, by simp [t3, s3]; omega⟩
                    have hsplit : cs.drop f.offset = (cs.drop f.offset).take (P.cellsOf f.type) ++ cs.drop (f.offset + P.cellsOf f.type) := by
                      rw [← List.drop_drop, List.take_append_drop]
                    rw [hsplit]
                    exact t2.append s2
            obtain ⟨_, as, s1, s2, s3⟩ := key _ _ 0 hm hp
            exact ⟨as, s1, by simpa using s2, by simpa using s3⟩
        · cases h
      | array n e =>
        simp only [Bool.and_eq_true, beq_iff_eq] at hp
        obtain ⟨hp1, hp2⟩ := hp
        simp only at h
        split at h
        · rename_i hlen
          cases hm : (List.range n).mapM (fun i => DataW.trod enc P W 0 sp held fuel e ((cs.drop (i * P.cellsOf e)).take (P.cellsOf e))) with
          | none => rw [hm] at h; simp at h
          | some xs =>
            obtain ⟨g1, g2⟩ := mapM_get hm
            have key : ∀ m, m ≤ n → ∃ as, shapedN (Shaped P k e) m as ∧ CellsRv (St.start W) as (cs.drop ((n - m) * P.cellsOf e)) ∧ as.length = m * P.cellsOf e := by
              intro m
              induction m with
              | zero =>
                intro _
                refine ⟨[], rfl, ⟨by simp [hlen, hp2], fun j h1 => by simp at h1⟩, by simp⟩
              | succ m ih =>
                intro hm'
                obtain ⟨as2, s1, s2, s3⟩ := ih (by omega)
                have := g2 (n - (m + 1)) (by simp; omega) (by simp at g1; omega)
                simp only [List.getElem_range] at this
                obtain ⟨as1, t1, t2, t3⟩ := trod_shaped k fuel e _ _ _ this hp1
                refine ⟨as1 ++ as2, ⟨as1, as2, rfl, t1, s1⟩, ?_, by simp [t3, s3, Nat.add_mul]; omega⟩
                have hsplit : cs.drop ((n - (m + 1)) * P.cellsOf e) = (cs.drop ((n - (m + 1)) * P.cellsOf e)).take (P.cellsOf e) ++ cs.drop ((n - m) * P.cellsOf e) := by
                  have e1 : (n - m) * P.cellsOf e = (n - (m + 1)) * P.cellsOf e + P.cellsOf e := by
                    rw [show n - m = (n - (m + 1)) + 1 by omega, Nat.add_mul, Nat.one_mul]
                  rw [e1, ← List.drop_drop, List.take_append_drop]
                rw [hsplit]
                exact t2.append s2
            obtain ⟨as, s1, s2, s3⟩ := key n (Nat.le_refl _)
            exact ⟨as, s1, by simpa using s2, by rw [s3, hp2]⟩
        · cases h
      | _ => simp at hp

end
end Go.AM
