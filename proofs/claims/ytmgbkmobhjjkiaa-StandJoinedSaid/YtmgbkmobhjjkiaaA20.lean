/- What a shaped input looks like, type by type. -/
import Derived.Test.YtmgbkmobhjjkiaaA15
namespace Go.AM
open Go.RowKit

def tyFs (P : Program) (t : TypeId) : Option (List TypeId) :=
  match P.underlying t with
  | some (.struct fs) => some (fs.toList.map (·.type))
  | _ => none
def tyInt (P : Program) (t : TypeId) : Option IntKind :=
  match P.underlying t with
  | some (.int q) => some q
  | _ => none
def tyStr (P : Program) (t : TypeId) : Bool :=
  match P.underlying t with
  | some .string => true
  | _ => false
def tySl (P : Program) (t : TypeId) : Option (TypeId × Nat × Bool) :=
  match P.underlying t with
  | some (.slice e) => some (e, P.cellsOf e, match aggT (P.underlying e) with
    | some true => true
    | _ => false)
  | _ => none

def shapedTs (g : TypeId → List AVal → Prop) : List TypeId → List AVal → Prop
  | [], as => as = []
  | t :: r, as => ∃ a b, as = a ++ b ∧ g t a ∧ shapedTs g r b

theorem shapedFs_ts {g : TypeId → List AVal → Prop} : ∀ {fs : List Field} {as : List AVal}, shapedFs g fs as → shapedTs g (fs.map (·.type)) as
  | [], _, h => h
  | _ :: _, _, ⟨a, b, h1, h2, h3⟩ => ⟨a, b, h1, h2, shapedFs_ts h3⟩

theorem Shaped.fs {P : Program} {k : Nat} {t : TypeId} {as : List AVal} {ts : List TypeId} (h : Shaped P (k + 1) t as) (hu : tyFs P t = some ts) : shapedTs (Shaped P k) ts as := by
  simp only [Shaped] at h
  unfold tyFs at hu
  split at hu
  · rename_i fs he
    rw [he] at h
    simp only [Option.some.injEq] at hu
    subst hu
    exact shapedFs_ts h
  · cases hu

theorem Shaped.int {P : Program} {k : Nat} {t : TypeId} {as : List AVal} {q : IntKind} (h : Shaped P (k + 1) t as) (hu : tyInt P t = some q) : ∃ n, as = [.int q n] ∧ q.min ≤ n ∧ n ≤ q.max := by
  simp only [Shaped] at h
  unfold tyInt at hu
  split at hu
  · rename_i q' he
    rw [he] at h
    simp only [Option.some.injEq] at hu
    subst hu
    exact h
  · cases hu

theorem Shaped.str {P : Program} {k : Nat} {t : TypeId} {as : List AVal} (h : Shaped P (k + 1) t as) (hu : tyStr P t = true) : ∃ x, as = [.str x] ∧ x.size ≤ maxLen := by
  simp only [Shaped] at h
  unfold tyStr at hu
  split at hu
  · rename_i he
    rw [he] at h
    exact h
  · cases hu

theorem Shaped.sl {P : Program} {k : Nat} {t e : TypeId} {c : Nat} {g : Bool} {as : List AVal} (h : Shaped P (k + 1) t as) (hu : tySl P t = some (e, c, g)) :
    ∃ xs, as = [.slice c xs] ∧ xs.length ≤ maxLen ∧ ∀ x ∈ xs, ∃ cs, Shaped P k e cs ∧ x = if g then .agg cs else cs.getD 0 .undef := by
  simp only [Shaped] at h
  unfold tySl at hu
  split at hu
  · rename_i e' he
    rw [he] at h
    simp only [Option.some.injEq, Prod.mk.injEq] at hu
    obtain ⟨rfl, rfl, rfl⟩ := hu
    obtain ⟨xs, h1, h2, h3⟩ := h
    refine ⟨xs, h1, h2, fun x hx => ?_⟩
    obtain ⟨cs, g1, g2⟩ := h3 x hx
    refine ⟨cs, g1, g2.trans ?_⟩
    unfold packT
    split <;> rename_i hh <;> simp [hh]
  · cases hu

/-- From the shapes of elements to a list of data. -/
theorem list_of {α : Type} {f : α → AVal} {p : α → Prop} : ∀ {xs : List AVal}, (∀ x ∈ xs, ∃ a, x = f a ∧ p a) → ∃ l : List α, xs = l.map f ∧ ∀ a ∈ l, p a
  | [], _ => ⟨[], rfl, by simp⟩
  | x :: r, h => by
    obtain ⟨a, rfl, ha⟩ := h x (by simp)
    obtain ⟨l, rfl, hl⟩ := list_of (xs := r) fun y hy => h y (by simp [hy])
    exact ⟨a :: l, rfl, fun b hb => by
      rcases List.mem_cons.1 hb with rfl | hb
      · exact ha
      · exact hl b hb⟩

end Go.AM
