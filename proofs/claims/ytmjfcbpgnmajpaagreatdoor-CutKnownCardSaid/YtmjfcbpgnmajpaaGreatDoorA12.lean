/- A function's contract by one check; a contract in an empty heap serves in every heap. -/
import Derived.Test.YtmjfcbpgnmajpaaGreatDoorA11B
import Derived.KernelRfl
namespace Go.AM
open Go.RowKit

def chkF (P : Program) (fn : Func) (N : Nat) (ac : AC) (rs : List (Nat × Option (Option Nat))) : Bool :=
  decide (fn.ntmps = N) && chkRes P rs fn.results.toList && match fn.body with
    | some c => chkC P N ac c
    | none => false

theorem Spec.of_fn {P : Program} {f : FuncId} {fn : Func} {N : Nat} {ac : AC} {rs : List (Nat × Option (Option Nat))} {args : List AVal} {σ : AHeap} {R : ARes → AHeap → Prop} (hfn : P.funcs[f]? = some fn)
    (hc : chkF P fn N ac rs = true) (ha : args.length ≤ N) (h : AW P N none ac (bodyQ rs R) { v := argEnv args 0, ds := [] } σ) : Spec P f args σ R := by
  simp only [chkF, Bool.and_eq_true, decide_eq_true_eq] at hc
  obtain ⟨⟨h1, h2⟩, h3⟩ := hc
  cases hb : fn.body with
  | none => rw [hb] at h3; cases h3
  | some c => rw [hb] at h3; exact Spec.of_body hfn hb h1 h3 h2 ha h

theorem pures_get : ∀ {l : List AVal}, pures l = true → ∀ j (h : j < l.length), l[j].pure = true
  | v :: r, h, 0, _ => by simp only [pures, Bool.and_eq_true] at h; exact h.1
  | v :: r, h, j + 1, hj => by simp only [pures, Bool.and_eq_true] at h; simpa using pures_get h.2 j (by simpa using hj)

/-- The same memory, whatever the abstract heap. -/
theorem Rv.pure_any {s s' : St} (hS : ∀ blk o, s.S blk o → s'.S blk o) (hc : ∀ blk o, s.S blk o → s'.w.cell? ⟨blk, o, none⟩ = s.w.cell? ⟨blk, o, none⟩) {v : AVal} {c : Value} (h : Rv s v c) (hp : v.pure = true) : Rv s' v c := by
  have hm : ∀ {blk off : Nat} {u : Value}, InMem s blk off u → InMem s' blk off u := fun hm j hj => ⟨hS _ _ (hm j hj).1, (hc _ _ (hm j hj).1).trans (hm j hj).2⟩
  induction h with
  | undef c => exact .undef c
  | bool b => exact .bool b
  | int k n => exact .int k n
  | str x => exact .str x
  | agg cs vs hl _ ih => exact .agg cs vs hl fun j h1 h2 => ih j h1 h2 (pures_get (by simpa [AVal.pure] using hp) j h1)
  | tup cs vs hl _ ih => exact .tup cs vs hl fun j h1 h2 => ih j h1 h2 (pures_get (by simpa [AVal.pure] using hp) j h1)
  | slice0 sz a cap => exact .slice0 sz a cap
  | slice sz xs blk off len cap us hl hn hcp _ hm' ih => exact .slice sz xs blk off len cap us hl hn hcp (fun i h1 h2 => ih i h1 h2 (pures_get (by simpa [AVal.pure] using hp) i h1)) (fun i h2 => ⟨(hm' i h2).1, hm (hm' i h2).2⟩)
  | pval v u blk off _ hm' ih => exact .pval v u blk off (ih (by simpa [AVal.pure] using hp)) (hm hm')
  | nilptr => exact .nilptr
  | func fn first caps fi ca hf hc' _ _ ih1 ih2 =>
    simp only [AVal.pure, Bool.and_eq_true] at hp
    exact .func fn first caps fi ca hf hc' (fun j a b => ih1 j a b (pures_get hp.1 j a)) (fun j a b => ih2 j a b (pures_get hp.2 j a))
  | nilfunc => exact .nilfunc
  | iface t v u _ ih => exact .iface t v u (ih (by simpa [AVal.pure] using hp))
  | niliface => exact .niliface
  | nilmap => exact .nilmap
  | optT v c _ ih => exact .optT v c (ih (by simpa [AVal.pure] using hp))
  | optF v => exact .optF v
  | _ => simp [AVal.pure] at hp

/-- The results of a call that name no block. -/
def ARes.pure : ARes → Bool
  | .ret v => v.pure
  | .pan v => v.pure

/-- A CONTRACT IN THE EMPTY HEAP SERVES IN EVERY HEAP, which stays as it is. -/
theorem Spec.frame {P : Program} {f : FuncId} {args : List AVal} {Q : ARes → Prop} (hs : Spec P f args [] fun r _ => Q r ∧ r.pure = true) (ha : pures args = true) (σ : AHeap) :
    Spec P f args σ fun r σ' => Q r ∧ σ' = σ := by
  intro A s cargs h1 h2 h3
  subst h1
  -- the same state, its blocks forgotten
  let s0 : St := { h := [], lam := fun _ _ => none, S := s.S, w := s.w }
  have i0 : Inv A s0 := ⟨h2.below, fun b o h => by simp [s0] at h, fun b b' o o' blk h => by simp [s0] at h, fun _ _ _ => rfl, h2.scell, h2.laid⟩
  have a0 : ArgsOk s0 args cargs := ⟨h3.1, fun j g1 g2 => Rv.pure_any (s := s) (s' := s0) (fun _ _ h => h) (fun _ _ _ => rfl) (h3.2 j g1 g2) (pures_get ha j g1)⟩
  refine (hs A s0 cargs rfl i0 a0).mono ?_
  rintro e w' ⟨r, s1, rfl, i1, g1, hr, hq, hp⟩
  have noown : ∀ blk, ¬ Owned s0 blk := fun blk ⟨b, o, h, _⟩ => by simp [s0] at h
  -- the caller's blocks again
  let s2 : St := { h := s.h, lam := s.lam, S := s1.S, w := s1.w }
  have hlt : ∀ b o blk, s.h[b]? = some o → Owns s b o blk → blk < s.w.heap.size := fun b o blk e1 e2 => ((h2.obj b o e1).owns_lt e2).2
  have hheap : ∀ blk, blk < s.w.heap.size → s1.w.heap[blk]? = s.w.heap[blk]? := fun blk hb => g1.outside blk hb (noown blk)
  have hS : ∀ blk o, s1.S blk o → s.S blk o ∨ s.w.heap.size ≤ blk := fun blk o h => by
    rcases g1.sFrom blk o h with h' | h' | h'
    · exact .inl h'
    · exact .inr h'
    · exact absurd h' (noown blk)
  have hk : Keeps s s2 := ⟨fun _ _ _ h => h, g1.keeps.S, g1.keeps.cell⟩
  obtain ⟨i2, g2⟩ := h2.grow (s' := s2) rfl rfl hk i1.below g1.size hheap hS i1.scell
  have hres : ResOk s2 r e := by
    cases r <;> cases e <;> first | (exact hr.elim) | skip
    · exact Rv.pure_any (s := s1) (s' := s2) (fun _ _ h => h) (fun _ _ _ => rfl) hr hp
    · obtain ⟨c, e1, e2⟩ := hr; exact ⟨c, e1, Rv.pure_any (s := s1) (s' := s2) (fun _ _ h => h) (fun _ _ _ => rfl) e2 hp⟩
  exact ⟨r, s2, rfl, i2, g2, hres, hq, rfl⟩

/-- What a pure function returns. -/
def Ret (v : AVal) (r : ARes) : Prop := r = .ret v

theorem Spec.pureFn {P : Program} {f : FuncId} {args : List AVal} {v : AVal} (hs : Spec P f args [] fun r _ => r = .ret v) (ha : pures args = true) (hv : v.pure = true) (σ : AHeap) :
    Spec P f args σ fun r σ' => r = .ret v ∧ σ' = σ :=
  Spec.frame (hs.mono fun r _ h => ⟨h, by subst h; exact hv⟩) ha σ

/-- A call of a function of the program that is known to be pure. -/
theorem CallV.pure {P : Program} {f : FuncId} (hb : hasBody P f = true) {args : List AVal} {σ : AHeap} {v : AVal} {Q : ARes → AHeap → Prop} (hs : Spec P f args σ fun r σ' => r = .ret v ∧ σ' = σ) (hq : Q (.ret v) σ) :
    CallV P (.func (.func f) [] []) args σ Q :=
  CallV.func hb (by simpa using hs.mono fun r σ' h => by obtain ⟨rfl, rfl⟩ := h; exact hq)

theorem CallK.pure {P : Program} {f : FuncId} (hb : hasBody P f = true) {args : List AVal} {σ : AHeap} {v : AVal} {K Kp : AVal → AHeap → Prop} (hs : Spec P f args σ fun r σ' => r = .ret v ∧ σ' = σ) (hq : K v σ) :
    @CallK P (.func (.func f) [] []) args σ ⟨K⟩ ⟨Kp⟩ := CallV.pure hb hs hq

end Go.AM
