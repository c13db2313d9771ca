/- Known calls as oracles of the executor: a great run in parts. -/
import Derived.Test.YtmjfcbpgnmajpaaGreatDoorA18
namespace Go.AM

mutual
/-- Equal values, of those that are compared. -/
def eqV : AVal → AVal → Bool
  | .bool a, .bool b => a == b
  | .int j a, .int k b => decide (j = k) && a == b
  | .str a, .str b => a.data.toList == b.data.toList
  | .agg a, .agg b => eqL a b
  | .tup a, .tup b => eqL a b
  | .slice s a, .slice t b => s == t && eqL a b
  | .nilptr, .nilptr => true
  | .niliface, .niliface => true
  | .nilfunc, .nilfunc => true
  | .nilmap, .nilmap => true
  | .pval a, .pval b => eqV a b
  | _, _ => false
def eqL : List AVal → List AVal → Bool
  | [], [] => true
  | a :: r, b :: t => eqV a b && eqL r t
  | _, _ => false
end

mutual
theorem eqV_ok : ∀ {a b : AVal}, eqV a b = true → a = b
  | .bool a, b, h => by cases b <;> simp [eqV] at h; rw [h]
  | .int j a, b, h => by cases b <;> simp [eqV] at h; rw [h.1, h.2]
  | .str a, b, h => by
    cases b <;> simp only [eqV, Bool.false_eq_true, beq_iff_eq] at h
    rename_i b
    obtain ⟨a⟩ := a
    obtain ⟨b⟩ := b
    simp only at h
    have : a = b := Array.ext' h
    rw [this]
  | .agg a, b, h => by cases b <;> simp only [eqV, Bool.false_eq_true] at h; rw [eqL_ok h]
  | .tup a, b, h => by cases b <;> simp only [eqV, Bool.false_eq_true] at h; rw [eqL_ok h]
  | .slice s a, b, h => by
    cases b <;> simp only [eqV, Bool.false_eq_true, Bool.and_eq_true, beq_iff_eq] at h
    rw [h.1, eqL_ok h.2]
  | .nilptr, b, h => by cases b <;> simp [eqV] at h; rfl
  | .niliface, b, h => by cases b <;> simp [eqV] at h; rfl
  | .nilfunc, b, h => by cases b <;> simp [eqV] at h; rfl
  | .nilmap, b, h => by cases b <;> simp [eqV] at h; rfl
  | .pval a, b, h => by cases b <;> simp only [eqV, Bool.false_eq_true] at h; rw [eqV_ok h]
  | .undef, b, h => by cases b <;> simp [eqV] at h
  | .oslice _ _ _ _, b, h => by cases b <;> simp [eqV] at h
  | .sref _ _ _ _ _, b, h => by cases b <;> simp [eqV] at h
  | .ptr _ _, b, h => by cases b <;> simp [eqV] at h
  | .eptr _ _ _ _ _, b, h => by cases b <;> simp [eqV] at h
  | .func _ _ _, b, h => by cases b <;> simp [eqV] at h
  | .iface _ _, b, h => by cases b <;> simp [eqV] at h
  | .map _, b, h => by cases b <;> simp [eqV] at h
  | .opt _ _, b, h => by cases b <;> simp [eqV] at h
  | .mint _, b, h => by cases b <;> simp [eqV] at h
  | .iter _, b, h => by cases b <;> simp [eqV] at h
  | .yieldf _, b, h => by cases b <;> simp [eqV] at h
theorem eqL_ok : ∀ {a b : List AVal}, eqL a b = true → a = b
  | [], b, h => by cases b <;> simp [eqL] at h; rfl
  | a :: r, b, h => by
    cases b <;> simp only [eqL, Bool.false_eq_true, Bool.and_eq_true] at h
    rw [eqV_ok h.1, eqL_ok h.2]
end

/-- A call whose result is known. -/
structure OrcE where
  f : Nat
  args : List AVal
  v : AVal

def OrcEOk (P : Program) (e : OrcE) : Prop := hasBody P e.f = true ∧ pures e.args = true ∧ e.v.pure = true ∧ Spec P e.f e.args [] fun r _ => r = .ret e.v
def OrcsOk (P : Program) : List OrcE → Prop
  | [] => True
  | e :: r => OrcEOk P e ∧ OrcsOk P r

def orcOf : List OrcE → Orc
  | [], _, _ => none
  | e :: r, f, args => if e.f = f then (match eqL e.args args with
      | true => some e.v
      | false => orcOf r f args) else orcOf r f args

theorem orcOf_ok {P : Program} : ∀ {l : List OrcE}, OrcsOk P l → OrcOk P (orcOf l)
  | [], _, _, _, _, h => by cases h
  | e :: r, ⟨⟨h1, h2, h3, h4⟩, hr⟩, f, args, v, h => by
    simp only [orcOf] at h
    split at h
    · rename_i ef
      subst ef
      cases he : eqL e.args args with
      | true =>
        rw [he] at h
        simp only [Option.some.injEq] at h
        subst h
        rw [← eqL_ok he]
        exact ⟨h1, OwnRes.of h3 fun σ => Spec.pureFn h4 h2 h3 σ⟩
      | false => rw [he] at h; exact orcOf_ok hr _ _ _ h
    · exact orcOf_ok hr _ _ _ h

def isV (v : AVal) : XR → Bool
  | some (.ret w, _) => eqV w v
  | _ => false

/-- A known call, by a run. -/
theorem orcE_of_run {P : Program} {tab : List Ent} (ht : TabOk P tab) {orc : Orc} (ho : OrcOk P orc) {L n : Nat} {e : OrcE} (h : isV e.v (xFc P tab L (mkEx P tab orc L n) [] e.f e.args []) = true) (hb : hasBody P e.f = true) (h2 : pures e.args = true) (h3 : e.v.pure = true) : OrcEOk P e := by
  refine ⟨hb, h2, h3, ?_⟩
  cases hx : xFc P tab L (mkEx P tab orc L n) [] e.f e.args [] with
  | none => rw [hx] at h; cases h
  | some q =>
    obtain ⟨q, σ⟩ := q
    rw [hx] at h
    cases q with
    | ret v => rw [← eqV_ok h]; exact spec_of_run ht ho hx
    | pan v => cases h

end Go.AM
