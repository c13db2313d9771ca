/- The arguments of a law, and from the law's contract to what the statement asks of a call. -/
import Derived.Test.YtmjfcbpgnmajpaaGreatDoorA14
import Derived.ProofKit
namespace Go.AM
open Go.RowKit

def shapedArgs (P : Program) (k : Nat) : List TypeId → List AVal → Prop
  | [], [] => True
  | t :: ts, a :: as => (∃ cs, Shaped P k t cs ∧ a = packT (aggT (P.underlying t)) cs) ∧ shapedArgs P k ts as
  | _, _ => False

section
variable {H : Type} {enc : TypeId × Value → H} {P : Program} {W : World} {sp : Nat → Bool} {held : Bool}

theorem arg_shaped {k : Nat} {t : TypeId} {v : Value} {d : DataW H} {ps : List MemPlace} {base : Nat} (h : DataW.Trod enc P W 0 sp held t v d ps) (hp : plainTy P k t = true) (hv : Value.okWide P W .any base t v) :
    ∃ a, (∃ cs, Shaped P k t cs ∧ a = packT (aggT (P.underlying t)) cs) ∧ Rv (St.start W) a v := by
  obtain ⟨fuel, h⟩ := h
  obtain ⟨as, s1, s2, s3⟩ := trod_shaped k fuel t _ d ps h hp
  refine ⟨_, ⟨as, s1, rfl⟩, ?_⟩
  have one : aggT (P.underlying t) ≠ some true → P.cellsOf t = 1 → v.cells = #[v] → Rv (St.start W) (packT (aggT (P.underlying t)) as) v := by
    intro h1 h2 h3
    have hl : as.length = 1 := by omega
    match as, hl with
    | [a], _ =>
      have h0 := (s2.2 0 (by simp) (by rw [h3]; simp)).1
      unfold packT
      split
      · rename_i hh; exact absurd hh h1
      · simpa [h3] using h0
  cases k with
  | zero => simp [plainTy] at hp
  | succ k =>
    simp only [plainTy] at hp
    unfold Value.okWide Cell.okWide Cell.ok at hv
    cases hu : P.underlying t with
    | none => rw [hu] at hp; simp at hp
    | some ty =>
      rw [hu] at hp hv one
      cases ty with
      | bool => exact one (by simp [aggT]) (by simpa using hp) (by cases v <;> first | rfl | simp at hv)
      | int q => exact one (by simp [aggT]) (by simpa using hp) (by cases v <;> first | rfl | simp at hv)
      | string => exact one (by simp [aggT]) (by simpa using hp) (by cases v <;> first | rfl | simp at hv)
      | slice e => exact one (by simp [aggT]) (by simp at hp; exact hp.1.1) (by cases v <;> first | rfl | simp at hv)
      | struct fs =>
        obtain ⟨cs, rfl, hsz, _⟩ := hv
        have e1 : (Value.agg cs).cells.toList = cs.toList := rfl
        rw [e1] at s2
        exact .agg as cs (by simpa using s2.1.symm) (fun j h1 h2 => by have := (s2.2 j h1 (by simpa using h2)).1; rwa [Array.getElem_toList] at this)
      | array n e =>
        obtain ⟨cs, rfl, hsz, _⟩ := hv
        have e1 : (Value.agg cs).cells.toList = cs.toList := rfl
        rw [e1] at s2
        exact .agg as cs (by simpa using s2.1.symm) (fun j h1 h2 => by have := (s2.2 j h1 (by simpa using h2)).1; rwa [Array.getElem_toList] at this)
      | _ => simp at hp

theorem args_shaped {k base : Nat} : ∀ {ts : List TypeId} {vs : List Value} {ds : List (DataW H)} {ps : List MemPlace}, DataW.TrodAll enc P W 0 sp held ts vs ds ps → (∀ t ∈ ts, plainTy P k t = true) →
    (∀ (j : Nat) t v, ts[j]? = some t → vs[j]? = some v → Value.okWide P W .any base t v) →
    ∃ as, shapedArgs P k ts as ∧ vs.length = as.length ∧ ∀ j (h1 : j < as.length) (h2 : j < vs.length), Rv (St.start W) as[j] vs[j]
  | [], [], [], _, _, _, _ => ⟨[], trivial, rfl, fun j h1 => by simp at h1⟩
  | t :: ts, v :: vs, d :: ds, ps, h, hp, hv => by
    obtain ⟨p, q, h1, h2, _⟩ := h
    obtain ⟨a, a1, a2⟩ := arg_shaped h1 (hp t (by simp)) (hv 0 t v rfl rfl)
    obtain ⟨as, b1, b2, b3⟩ := args_shaped h2 (fun t' ht => hp t' (by simp [ht])) (fun j t' v' e1 e2 => hv (j + 1) t' v' (by simpa using e1) (by simpa using e2))
    refine ⟨a :: as, ⟨a1, b1⟩, by simp [b2], fun j g1 g2 => ?_⟩
    cases j with
    | zero => exact a2
    | succ j => simpa using b3 j (by simpa using g1) (by simpa using g2)
  | [], _ :: _, _, _, h, _, _ => by simp [DataW.TrodAll] at h
  | [], [], _ :: _, _, h, _, _ => by simp [DataW.TrodAll] at h
  | _ :: _, [], _, _, h, _, _ => by simp [DataW.TrodAll] at h
  | _ :: _, _ :: _, [], _, h, _, _ => by simp [DataW.TrodAll] at h

theorem trodAll_below {W' : World} (hl : laidOutB P = true) (hb : Below W.heap.size W W') : ∀ {ts : List TypeId} {vs : List Value} {ds : List (DataW H)} {ps : List MemPlace}, DataW.TrodAll enc P W 0 (fun _ => true) true ts vs ds ps →
    (∀ t ∈ ts, P.readableRec t = true ∧ t < P.types.size) → (∀ p ∈ ps, p.block < W.heap.size) → DataW.TrodAll enc P W' 0 (fun b => decide (b < W.heap.size)) true ts vs ds ps
  | [], [], [], _, h, _, _ => h
  | t :: ts, v :: vs, d :: ds, ps, h, ht, hlt => by
    obtain ⟨p, q, h1, h2, rfl⟩ := h
    exact ⟨p, q, Below.trod hl (ht t (by simp)).1 (ht t (by simp)).2 h1 hb (fun x hx => hlt x (by simp [hx])), trodAll_below hl hb h2 (fun t' h' => ht t' (by simp [h'])) (fun x hx => hlt x (by simp [hx])), rfl⟩
  | [], _ :: _, _, _, h, _, _ => by simp [DataW.TrodAll] at h
  | [], [], _ :: _, _, h, _, _ => by simp [DataW.TrodAll] at h
  | _ :: _, [], _, _, h, _, _ => by simp [DataW.TrodAll] at h
  | _ :: _, _ :: _, [], _, h, _, _ => by simp [DataW.TrodAll] at h

theorem trodAll_len : ∀ {ts : List TypeId} {vs : List Value} {ds : List (DataW H)} {ps : List MemPlace}, DataW.TrodAll enc P W 0 sp held ts vs ds ps → ds.length = ts.length
  | [], [], [], _, _ => rfl
  | t :: ts, v :: vs, d :: ds, ps, h => by obtain ⟨p, q, h1, h2, rfl⟩ := h; simp [trodAll_len h2]
  | [], _ :: _, _, _, h => by simp [DataW.TrodAll] at h
  | [], [], _ :: _, _, h => by simp [DataW.TrodAll] at h
  | _ :: _, [], _, _, h => by simp [DataW.TrodAll] at h
  | _ :: _, _ :: _, [], _, h => by simp [DataW.TrodAll] at h

/-- A LAW's CONTRACT GIVES WHAT ITS STATEMENT ASKS OF A CALL. -/
theorem law_calls {f : FuncId} {fn : Func} {s : ChangeSpec} {k : Nat} {tb : TypeId} {apart handsOn : Bool} (hres : fn.resultTypes = #[tb]) (hub : P.underlying tb = some .bool) (hvars : s.vars = [])
    (hsp : ∀ ds : List (DataW H), ds.length = fn.params.size → (s.fn H ds).results = [.lit (.bool true)] ∧ (s.fn H ds).args = ds ∧ (s.fn H ds).vars = []) (hl : laidOutB P = true)
    (hty : ∀ t ∈ fn.params.toList, plainTy P k t = true ∧ P.readableRec t = true ∧ t < P.types.size)
    (hspec : ∀ as, shapedArgs P k fn.params.toList as → Spec P f as [] fun r _ => r = .ret (.bool true))
    {base : Nat} {args : Array Value} {ds gs : List (DataW H)} {before : List MemPlace} (hval : ∀ (j : Nat) t v, fn.params[j]? = some t → args[j]? = some v → Value.okWide P W .any base t v)
    (hW : DataW.Whole enc P fn.params.toList s.vars apart W args.toList ds gs before) (hL : LaidW W := by exact LaidW.nil rfl _) :
    Calls P f args W fun e W' => ∃ v, e = .returned v ∧ s.post enc P fn apart true handsOn false W args v W' := by
  have hW' := hW
  obtain ⟨p, q, hA, hV, rfl, hfz, hnd⟩ := hW
  rw [hvars] at hV
  have hgs : gs = [] ∧ q = [] := by
    cases gs with
    | nil => exact ⟨rfl, hV⟩
    | cons => exact hV.elim
  obtain ⟨rfl, rfl⟩ := hgs
  obtain ⟨as, a1, a2, a3⟩ := args_shaped (k := k) (base := base) hA (fun t ht => (hty t ht).1) (fun j t v e1 e2 => hval j t v (by simpa using e1) (by simpa using e2))
  have hlt := DataW.TrodAll.lt hA
  have hdl := trodAll_len hA
  refine (hspec as a1 W (St.start W) args rfl (start_inv hL) ⟨by simpa using a2, fun j h1 h2 => by have := a3 j h1 (by simpa using h2); rwa [Array.getElem_toList] at this⟩).mono ?_
  rintro e W' ⟨r, s', rfl, hi, hg, hr, rfl⟩
  cases e <;> first | (exact hr.elim) | skip
  rename_i v
  have hv : v = .bool true := by
    have h' : Rv s' (.bool true) v := hr
    cases h'; rfl
  subst hv
  obtain ⟨r1, r2, r3⟩ := hsp (ds ++ []) (by simpa using hdl)
  have hb := hi.below
  refine ⟨.bool true, rfl, ds, [], p ++ [], [], p, [], hW', ?_, ?_, ?_, hb.frame _, fun h => by cases h⟩
  · rw [r1, hres]
    exact ⟨[], [], ⟨1, by simp [DataW.trod, hub, Value.cells]⟩, rfl, rfl⟩
  · rw [r2, List.append_nil]
    exact trodAll_below hl hb hA (fun t ht => (hty t ht).2) hlt
  · rw [hvars, r3]; exact rfl

end
end Go.AM
