/- The executor of code and of functions. -/
import Derived.Test.YtmjfcbpgnmajpaaGreatDoorA17
import Derived.Test.YtmjfcbpgnmajpaaGreatDoorA11D
namespace Go.AM
open Go.RowKit

/-- How calls are carried out: pcall: of what touches nothing; call: of any function value; fcall: of a function of the program. -/
structure Ex where
  pcall : AVal → List AVal → Option AVal
  acall : Nat → AVal → List AVal → Option (List AVal)
  call : List Rnd → AVal → List AVal → AHeap → XR
  fcall : List Rnd → Nat → List AVal → AHeap → XR

structure ExeOk (P : Program) (x : Ex) : Prop where
  pcall : PcallOk P x.pcall
  acall : AcallOk P x.acall
  call : ∀ rs, CallOk P (x.call rs)
  fcall : ∀ rs f args σ r σ', x.fcall rs f args σ = some (r, σ') → hasBody P f = true ∧ ∀ Q : ARes → AHeap → Prop, Q r σ' → Spec P f args σ Q

def xLoop (body : Env → List ADef → AHeap → Option XE) : Nat → Env → List ADef → AHeap → Option XE
  | 0, _, _, _ => none
  | n + 1, e, ds, σ => match body e ds σ with
    | none => none
    | some ⟨.normal, e', ds', σ'⟩ => xLoop body n e' ds' σ'
    | some r => some r

/-- Behind the function that was ranged over. -/
def xRange (b : Nat) (e : Env) (ds : List ADef) : XR → Option XE
  | none => none
  | some (.pan v, σ) => some ⟨.panic v, e, ds, σ⟩
  | some (.ret _, σ) => match σ.get b with
    | .looprec N e2 ps asg body D st pd => match st with
      | .busy => none
      | _ => match pd with
        | none => some ⟨.normal, e, ds, σ.set b (.looprec N e2 ps asg body D .exhausted pd)⟩
        | some .ret => some ⟨.ret, e, ds, σ.set b (.looprec N e2 ps asg body D .exhausted pd)⟩
        | some (.exit i) => some ⟨.exit i, e, ds, σ.set b (.looprec N e2 ps asg body D .exhausted pd)⟩
        | some (.goto l) => some ⟨.goto l, e, ds, σ.set b (.looprec N e2 ps asg body D .exhausted pd)⟩
        | _ => none
    | _ => none

theorem xRange_ok {b : Nat} {e : Env} {ds : List ADef} {q : ARes} {σ : AHeap} {r : XE} {Q : AEx → Fr → AHeap → Prop} (h : xRange b e ds (some (q, σ)) = some r) (hq : Q r.x ⟨r.e, r.ds⟩ r.σ) : rangeQ b Q ⟨e, ds⟩ q σ := by
  cases q with
  | pan v =>
    simp only [xRange, Option.some.injEq] at h
    subst h
    exact hq
  | ret v =>
    simp only [xRange] at h
    simp only [rangeQ]
    cases hb : σ.get b <;> rw [hb] at h <;> first | (cases h; done) | skip
    rename_i N e2 ps asg body D st pd
    refine ⟨N, e2, ps, asg, body, D, st, pd, rfl, ?_, ?_⟩
    · rintro rfl; cases h
    · cases st <;> first | (cases h; done) | skip
      all_goals
        cases pd with
        | none => simp only [Option.some.injEq] at h; subst h; exact hq
        | some c => cases c <;> first | (cases h; done) | (simp only [Option.some.injEq] at h; subst h; exact hq)

mutual
/-- Equal values, form by form. -/
def sameV : AVal → AVal → Bool
  | .bool a, .bool b => a == b
  | .int j a, .int k b => decide (j = k) && a == b
  | .str a, .str b => a.data.toList == b.data.toList
  | .agg a, .agg b => sameL a b
  | .tup a, .tup b => sameL a b
  | .slice s a, .slice t b => s == t && sameL a b
  | .oslice s a x y, .oslice t b z w => s == t && x == z && y == w && sameL a b
  | .sref a b c d e, .sref f g h i j => a == f && b == g && c == h && d == i && e == j
  | .ptr a b, .ptr c d => a == c && b == d
  | .eptr a b c d e, .eptr f g h i j => a == f && b == g && c == h && d == i && e == j
  | .map a, .map b => a == b
  | .yieldf a, .yieldf b => a == b
  | .func (.func f) a b, .func (.func g) c d => f == g && sameL a c && sameL b d
  | .nilptr, .nilptr => true
  | .niliface, .niliface => true
  | .nilfunc, .nilfunc => true
  | .nilmap, .nilmap => true
  | .pval a, .pval b => sameV a b
  | _, _ => false
def sameL : List AVal → List AVal → Bool
  | [], [] => true
  | a :: r, b :: t => sameV a b && sameL r t
  | _, _ => false
end
mutual
theorem sameV_ok : ∀ {a b : AVal}, sameV a b = true → a = b
  | .bool a, b, h => by cases b <;> simp [sameV] at h; rw [h]
  | .int j a, b, h => by cases b <;> simp [sameV] at h; rw [h.1, h.2]
  | .str a, b, h => by
    cases b <;> simp only [sameV, Bool.false_eq_true, beq_iff_eq] at h
    rename_i b
    obtain ⟨a⟩ := a
    obtain ⟨b⟩ := b
    simp only at h
    have : a = b := Array.ext' h
    rw [this]
  | .agg a, b, h => by cases b <;> simp only [sameV, Bool.false_eq_true] at h; rw [sameL_ok h]
  | .tup a, b, h => by cases b <;> simp only [sameV, Bool.false_eq_true] at h; rw [sameL_ok h]
  | .slice s a, b, h => by
    cases b <;> simp only [sameV, Bool.false_eq_true, Bool.and_eq_true, beq_iff_eq] at h
    rw [h.1, sameL_ok h.2]
  | .oslice s a x y, b, h => by
    cases b <;> simp only [sameV, Bool.false_eq_true, Bool.and_eq_true, beq_iff_eq] at h
    rw [h.1.1.1, h.1.1.2, h.1.2, sameL_ok h.2]
  | .sref _ _ _ _ _, b, h => by
    cases b <;> simp only [sameV, Bool.false_eq_true, Bool.and_eq_true, beq_iff_eq] at h
    rw [h.1.1.1.1, h.1.1.1.2, h.1.1.2, h.1.2, h.2]
  | .ptr _ _, b, h => by
    cases b <;> simp only [sameV, Bool.false_eq_true, Bool.and_eq_true, beq_iff_eq] at h
    rw [h.1, h.2]
  | .eptr _ _ _ _ _, b, h => by
    cases b <;> simp only [sameV, Bool.false_eq_true, Bool.and_eq_true, beq_iff_eq] at h
    rw [h.1.1.1.1, h.1.1.1.2, h.1.1.2, h.1.2, h.2]
  | .map _, b, h => by cases b <;> simp [sameV] at h; rw [h]
  | .yieldf _, b, h => by cases b <;> simp [sameV] at h; rw [h]
  | .func f a c, b, h => by
    cases f <;> cases b <;> try (simp [sameV] at h; done)
    rename_i g _ _
    cases g <;> simp only [sameV, Bool.false_eq_true, Bool.and_eq_true, beq_iff_eq] at h
    rw [h.1.1, sameL_ok h.1.2, sameL_ok h.2]
  | .nilptr, b, h => by cases b <;> simp [sameV] at h; rfl
  | .niliface, b, h => by cases b <;> simp [sameV] at h; rfl
  | .nilfunc, b, h => by cases b <;> simp [sameV] at h; rfl
  | .nilmap, b, h => by cases b <;> simp [sameV] at h; rfl
  | .pval a, b, h => by cases b <;> simp only [sameV, Bool.false_eq_true] at h; rw [sameV_ok h]
  | .undef, b, h => by cases b <;> simp [sameV] at h
  | .iface _ _, b, h => by cases b <;> simp [sameV] at h
  | .opt _ _, b, h => by cases b <;> simp [sameV] at h
  | .mint _, b, h => by cases b <;> simp [sameV] at h
  | .iter _, b, h => by cases b <;> simp [sameV] at h
theorem sameL_ok : ∀ {a b : List AVal}, sameL a b = true → a = b
  | [], b, h => by cases b <;> simp [sameL] at h; rfl
  | a :: r, b, h => by
    cases b <;> simp only [sameL, Bool.false_eq_true, Bool.and_eq_true] at h
    rw [sameV_ok h.1, sameL_ok h.2]
end

def sameG (e : Env) (σ : AHeap) (o : AOper) (d : Nat) : Bool := match o.g with
  | none => sameV (e.get d) (qval e σ o.i)
  | some gd => match gcond e gd with
    | some true => match e.get d with
      | .opt true v => sameV v (qval e σ o.i)
      | _ => false
    | some false => match e.get d with
      | .opt false .undef => true
      | _ => false
    | none => false
theorem sameG_ok {e : Env} {σ : AHeap} {o : AOper} {d : Nat} (h : sameG e σ o d = true) : e.get d = gqv e σ o := by
  unfold sameG at h
  unfold gqv
  cases hg : o.g with
  | none => rw [hg] at h; exact sameV_ok h
  | some gd =>
    rw [hg] at h
    simp only at h ⊢
    split at h
    · rename_i h1
      rw [h1]
      split at h
      · rename_i h2; rw [h2, sameV_ok h]
      · cases h
    · rename_i h1
      rw [h1]
      split at h
      · rename_i h2; rw [h2]
      · cases h
    · cases h
def gqsB (e : Env) (σ : AHeap) (o : AOper) : Bool := match o.g with
  | none => qsideB e σ o.i
  | some gd => match gcond e gd with
    | some true => qsideB e σ o.i
    | some false => true
    | none => false
theorem gqsB_ok {e : Env} {σ : AHeap} {o : AOper} (h : gqsB e σ o = true) : gqs e σ o := by
  unfold gqsB at h
  unfold gqs
  cases hg : o.g with
  | none => rw [hg] at h; exact qsideB_ok h
  | some gd =>
    rw [hg] at h
    simp only at h ⊢
    split at h
    · rename_i h1; rw [h1]; exact fun _ => qsideB_ok h
    · rename_i h1; rw [h1]; intro h2; cases h2
    · cases h
def qAllB (ops : List AOper) (no : List Nat) (e : Env) (σ : AHeap) : List Nat → Bool
  | [] => true
  | i :: r => (no.contains i || match ops[i]? with
      | some o => gqsB e σ o && match o.d with
        | some d => sameG e σ o d
        | none => true
      | none => true) && qAllB ops no e σ r
theorem qAllB_ok {ops : List AOper} {no : List Nat} {e : Env} {σ : AHeap} : ∀ {l : List Nat}, qAllB ops no e σ l = true → qAll ops no e σ l
  | [], _ => trivial
  | i :: r, h => by
    simp only [qAllB, Bool.and_eq_true] at h
    refine ⟨?_, qAllB_ok h.2⟩
    split
    · trivial
    · rename_i hn
      have h1 := h.1
      simp only [hn, Bool.false_or] at h1
      cases ho : ops[i]? with
      | none => trivial
      | some o =>
        rw [ho] at h1
        simp only [Bool.and_eq_true] at h1
        refine ⟨gqsB_ok h1.1, ?_⟩
        have h2 := h1.2
        cases hd : o.d with
        | none => trivial
        | some d => rw [hd] at h2; exact sameG_ok h2
def gate (e : Env) (o : AOper) : Option Bool := match o.g with
  | none => some true
  | some gd => gcond e gd
theorem gate_true {P : Program} {e : Env} {o : AOper} {σ : AHeap} {K : AVal → AHeap → Prop} (h : gate e o = some true) (hk : awpO P o.i e σ K fun _ _ => False) : gql P o e σ K := by
  unfold gate at h; unfold gql
  cases hg : o.g with
  | none => exact hk
  | some gd => rw [hg] at h; simp only at h ⊢; rw [h]; exact ⟨fun _ => hk, fun h => by cases h⟩
theorem gate_false {P : Program} {e : Env} {o : AOper} {σ : AHeap} {K : AVal → AHeap → Prop} (h : gate e o = some false) (hk : K (.opt false .undef) σ) : gql P o e σ K := by
  unfold gate at h; unfold gql
  cases hg : o.g with
  | none => rw [hg] at h; cases h
  | some gd => rw [hg] at h; simp only at h ⊢; rw [h]; exact ⟨fun h => by (cases h), fun _ => hk⟩
def xQ (call : AVal → List AVal → AHeap → XR) (ops : List AOper) (bef : List (List Nat)) (last : List Nat) : List (List Nat × Nat) → List Nat → List Nat → Env → AHeap → Option (Env × AHeap)
  | [], done, no, e, σ => forceE (qPut ops last e σ) fun e' => if qAllB ops no e' σ (done ++ last) then some (e', σ) else none
  | (qs, l) :: r, done, no, e, σ => forceE (qPut ops qs e σ) fun e' => if qAllB ops no e' σ (done ++ qs) then match ops[l]? with
      | some o => match gate e' o with
        | some true => match stepG call o.i e' σ with
          | some (.ret v, σ') => forceE (e'.put o.d v) fun e2 => xQ call ops bef last r (done ++ qs) (bef.getD l []) e2 σ'
          | _ => none
        | some false => forceE (e'.put o.d (.opt false .undef)) fun e2 => xQ call ops bef last r (done ++ qs) (bef.getD l []) e2 σ
        | none => none
      | none => none
      else none
theorem xQ_ok {P : Program} {call : AVal → List AVal → AHeap → XR} (hc : CallOk P call) {ops : List AOper} {bef : List (List Nat)} {last : List Nat} {K : Env → AHeap → Prop} : ∀ {st : List (List Nat × Nat)} {done no : List Nat} {e : Env} {σ : AHeap} {e' : Env} {σ' : AHeap},
    xQ call ops bef last st done no e σ = some (e', σ') → K e' σ' → qEval P ops bef last st done no e σ K
  | [], done, no, e, σ, e', σ', h, hk => by
    simp only [xQ, forceE_eq] at h
    split at h
    · rename_i h1
      simp only [Option.some.injEq, Prod.mk.injEq] at h
      obtain ⟨rfl, rfl⟩ := h
      exact ⟨qAllB_ok h1, hk⟩
    · cases h
  | (qs, l) :: r, done, no, e, σ, e', σ', h, hk => by
    simp only [xQ, forceE_eq] at h
    split at h
    · rename_i h1
      refine ⟨qAllB_ok h1, ?_⟩
      cases ho : ops[l]? with
      | none => rw [ho] at h; cases h
      | some o =>
        rw [ho] at h
        simp only at h ⊢
        cases hga : gate (qPut ops qs e σ) o with
        | none => rw [hga] at h; cases h
        | some g =>
          rw [hga] at h
          cases g with
          | false => exact gate_false hga (xQ_ok hc h hk)
          | true =>
            simp only [stepG_eq] at h
            cases hx : xO call o.i (qPut ops qs e σ) σ with
            | none => rw [hx] at h; cases h
            | some q =>
              obtain ⟨q, σ1⟩ := q
              rw [hx] at h
              cases q with
              | ret v =>
                simp only at h
                exact gate_true hga (xO_ok hc hx (xQ_ok hc h hk))
              | pan v => cases h
    · cases h

def xC (x : Ex) (L N : Nat) (ro : Option Nat) (rs : List Rnd) : AC → Code → Env → List ADef → AHeap → Option XE
  | .skip, _, e, ds, σ => some ⟨.normal, e, ds, σ⟩
  | .reg ops live, _, e, ds, σ => match xOps (x.call rs) ops e σ with
    | some (none, e', σ') => forceE (e'.only live) fun e' => some ⟨.normal, e', ds, σ'⟩
    | some (some v, e', σ') => some ⟨.panic v, e', ds, σ'⟩
    | none => none
  | .seq a b, c, e, ds, σ => match c with
    | .seq cx cy => match xC x L N ro rs a cx e ds σ with
      | none => none
      | some ⟨.normal, e', ds', σ'⟩ => xC x L N ro rs b cy e' ds' σ'
      | some r => some r
    | _ => none
  | .cond o a b, c, e, ds, σ => match c with
    | .cond _ cx cy => match opv e o with
      | .bool t => if opg e o then (match t with
          | true => xC x L N ro rs a cx e ds σ
          | false => xC x L N ro rs b cy e ds σ) else none
      | _ => none
    | _ => none
  | .block id a, c, e, ds, σ => match c with
    | .block _ cx => match xC x L N ro rs a cx e ds σ with
      | none => none
      | some ⟨.exit i, e', ds', σ'⟩ => if i = id then some ⟨.normal, e', ds', σ'⟩ else some ⟨.exit i, e', ds', σ'⟩
      | some r => some r
    | _ => none
  | .loop _ a, c, e, ds, σ => match c with
    | .loop cx => xLoop (fun e ds σ => xC x L N ro rs a cx e ds σ) L e ds σ
    | _ => none
  | .exit i, _, e, ds, σ => some ⟨.exit i, e, ds, σ⟩
  | .ret, _, e, ds, σ => some ⟨.ret, e, ds, σ⟩
  | .scope a, c, e, ds, σ => match c with
    | .scope cx => match xC x L N ro rs a cx e ds σ with
      | none => none
      | some ⟨.goto _, _, _, _⟩ => none
      | some r => some r
    | _ => none
  | .label _, _, e, ds, σ => some ⟨.normal, e, ds, σ⟩
  | .dreg ops live bef, _, e, ds, σ => match xD x.pcall x.acall ops e σ [] with
    | some (e', σ', es) => if clashesOk bef [] es.reverse 0 then forceE (e'.only live) fun e' => some ⟨.normal, e', ds, σ'⟩ else none
    | none => none
  | .frz t g a, c, e, ds, σ => match e.get t with
    | .ptr b 0 => match σ.get b with
      | .box cs => match g, cs with
        | true, cs => setS σ b .dead fun σ' => xC x L N ro rs a c ((t, .pval (.agg cs)) :: e) ds σ'
        | false, [v] => if v.scal then setS σ b .dead fun σ' => xC x L N ro rs a c ((t, .pval v) :: e) ds σ' else none
        | _, _ => none
      | _ => none
    | _ => none
  | .frzc t off sz a, c, e, ds, σ => match e.get t with
    | .ptr b 0 => match σ.get b with
      | .box cs => match cs[off]? with
        | some (.oslice sz' xs _ _) => if sz' == sz then forceS (σ.set b (.box (cs.set off (.slice sz xs)))) fun σ' => xC x L N ro rs a c e ds σ' else none
        | some (.sref sz' b' o len n) => match σ.get b' with
          | .arr sz'' xs => if sz' == sz && sz'' == sz && xs.length == n then forceS ((σ.set b' .dead).set b (.box (cs.set off (.slice sz ((xs.drop o).take len))))) fun σ' => xC x L N ro rs a c e ds σ' else none
          | _ => none
        | _ => none
      | _ => none
    | _ => none
  | .qreg ops live bef st last, _, e, ds, σ => match xQ (x.call rs) ops bef last st [] [] e σ with
    | some (e', σ') => forceE (e'.only live) fun e' => some ⟨.normal, e', ds, σ'⟩
    | none => none
  | .dfr d g caps live, _, e, ds, σ => if ro.isNone && needsB e caps then forceE (Env.only ((d, .undef) :: e) live) fun e' => forceL forceH (caps.map (opv e)) fun cs => some ⟨.normal, e', .fn (.func (.func g) [] cs) [] :: ds, σ⟩ else none
  | .rangeF f ps asg body, c, e, ds, σ => match c with
    | .rangeFunc _ _ casg cbody => if opg e f then match opv e f with
      | .func (.func fid) first caps => match ro with
        | none => xRange (σ.length + 1) e (.coll σ.length :: ds) (x.fcall (⟨σ.length + 1, N, asg, body⟩ :: rs) fid (first ++ [.yieldf (σ.length + 1)] ++ caps) (σ ++ [.dfr, .looprec N e ps casg cbody σ.length .ready none]))
        | some b => match σ.get b with
          | .looprec _ _ _ _ _ D _ _ => xRange σ.length e ds (x.fcall (⟨σ.length, N, asg, body⟩ :: rs) fid (first ++ [.yieldf σ.length] ++ caps) (σ ++ [.looprec N e ps casg cbody D .ready none]))
          | _ => none
      | _ => none
      else none
    | _ => none

section
variable {P : Program} {x : Ex} {L N : Nat} {ro : Option Nat} {rs : List Rnd}

theorem xLoop_ok {cx : Code} {body : Env → List ADef → AHeap → Option XE} (hb : ∀ {e ds σ r}, body e ds σ = some r → ∀ Q : AEx → Fr → AHeap → Prop, Q r.x ⟨r.e, r.ds⟩ r.σ → AWc P N ro cx Q ⟨e, ds⟩ σ) {n : Nat} {e : Env} {ds : List ADef} {σ : AHeap} {r : XE} (h : xLoop body n e ds σ = some r)
    (Q : AEx → Fr → AHeap → Prop) (hq : Q r.x ⟨r.e, r.ds⟩ r.σ) : AWc P N ro (.loop cx) Q ⟨e, ds⟩ σ := by
  refine AWc.loop (ι := Nat) (fun n fr σ => xLoop body n fr.v fr.ds σ = some r) (fun n => n) (i₀ := n) h ?_
  intro n fr σ hn
  obtain ⟨e, ds⟩ := fr
  cases n with
  | zero => simp [xLoop] at hn
  | succ n =>
    simp only [xLoop] at hn
    cases hx : body e ds σ with
    | none => rw [hx] at hn; cases hn
    | some r1 =>
      rw [hx] at hn
      refine hb hx _ ?_
      obtain ⟨x1, e1, ds1, σ1⟩ := r1
      cases x1 with
      | normal => exact ⟨n, Nat.lt_succ_self n, hn⟩
      | _ => simp only [Option.some.injEq] at hn; subst hn; exact hq

theorem xC_ok (hx : ExeOk P x) : ∀ (ac : AC) {c : Code} {e : Env} {ds : List ADef} {σ : AHeap} {r : XE}, chkC P N ac c = true → xC x L N ro rs ac c e ds σ = some r → ∀ Q : AEx → Fr → AHeap → Prop, Q r.x ⟨r.e, r.ds⟩ r.σ → AWc P N ro c Q ⟨e, ds⟩ σ
  | .skip, c, e, ds, σ, r, hc, h, Q, hq => by
    simp only [xC, Option.some.injEq] at h; subst h
    exact awpC_sound .skip (by exact hq) c hc
  | .reg ops live, c, e, ds, σ, r, hc, h, Q, hq => by
    refine awpC_sound (.reg ops live) ?_ c hc
    simp only [xC] at h
    cases ho : xOps (x.call rs) ops e σ with
    | none => rw [ho] at h; cases h
    | some q =>
      obtain ⟨p, e', σ'⟩ := q
      rw [ho] at h
      cases p with
      | none =>
        simp only [forceE_eq, Option.some.injEq] at h; subst h
        exact xOps_ok (hx.call rs) ho hq
      | some v =>
        simp only [Option.some.injEq] at h; subst h
        exact xOps_ok (hx.call rs) ho hq
  | .seq a b, c, e, ds, σ, r, hc, h, Q, hq => by
    cases c <;> simp [chkC] at hc
    rename_i cx cy
    simp only [xC] at h
    cases ha : xC x L N ro rs a cx e ds σ with
    | none => rw [ha] at h; cases h
    | some r1 =>
      rw [ha] at h
      refine AWc.seq (xC_ok hx a hc.1 ha _ ?_)
      obtain ⟨x1, e1, ds1, σ1⟩ := r1
      cases x1 with
      | normal => exact xC_ok hx b hc.2 h Q hq
      | _ => simp only [Option.some.injEq] at h; subst h; exact hq
  | .cond o a b, c, e, ds, σ, r, hc, h, Q, hq => by
    cases c <;> simp [chkC] at hc
    rename_i o' cx cy
    simp only [xC] at h
    cases hv : opv e o with
    | bool t =>
      rw [hv] at h
      simp only at h
      split at h
      · rename_i hg
        refine AWc.cond (v := opv e o) (b := t) (fun s a hf => hf.opr hc.1.1 hg) hv (fun et => ?_) (fun et => ?_)
        · subst et; exact xC_ok hx a hc.1.2 h Q hq
        · subst et; exact xC_ok hx b hc.2 h Q hq
      · cases h
    | _ => rw [hv] at h; cases h
  | .block id a, c, e, ds, σ, r, hc, h, Q, hq => by
    cases c <;> simp [chkC] at hc
    rename_i id' cx
    obtain ⟨rfl, hc⟩ := hc
    simp only [xC] at h
    cases ha : xC x L N ro rs a cx e ds σ with
    | none => rw [ha] at h; cases h
    | some r1 =>
      rw [ha] at h
      refine AWc.block (xC_ok hx a hc ha _ ?_)
      obtain ⟨x1, e1, ds1, σ1⟩ := r1
      cases x1 with
      | exit i =>
        simp only [AEx.inBlock]
        simp only at h
        split at h
        · rename_i he; rw [if_pos he]; simp only [Option.some.injEq] at h; subst h; exact hq
        · rename_i he; rw [if_neg he]; simp only [Option.some.injEq] at h; subst h; exact hq
      | _ => simp only [Option.some.injEq] at h; subst h; exact hq
  | .loop live a, c, e, ds, σ, r, hc, h, Q, hq => by
    cases c <;> simp [chkC] at hc
    rename_i cx
    simp only [xC] at h
    exact xLoop_ok (fun hb Q hq => xC_ok hx a hc hb Q hq) h Q hq
  | .exit i, c, e, ds, σ, r, hc, h, Q, hq => by
    simp only [xC, Option.some.injEq] at h; subst h
    exact awpC_sound (.exit i) (by exact hq) c hc
  | .ret, c, e, ds, σ, r, hc, h, Q, hq => by
    simp only [xC, Option.some.injEq] at h; subst h
    exact awpC_sound .ret (by exact hq) c hc
  | .scope a, c, e, ds, σ, r, hc, h, Q, hq => by
    cases c <;> simp [chkC] at hc
    rename_i cx
    simp only [xC] at h
    cases ha : xC x L N ro rs a cx e ds σ with
    | none => rw [ha] at h; cases h
    | some r1 =>
      rw [ha] at h
      refine AWc.scope (xC_ok hx a hc ha _ ?_)
      obtain ⟨x1, e1, ds1, σ1⟩ := r1
      cases x1 with
      | goto l => cases h
      | _ => simp only [Option.some.injEq] at h; subst h; exact hq
  | .label l, c, e, ds, σ, r, hc, h, Q, hq => by
    simp only [xC, Option.some.injEq] at h; subst h
    exact awpC_sound (.label l) (by exact hq) c hc
  | .dreg ops live bef, c, e, ds, σ, r, hc, h, Q, hq => by
    refine awpC_sound (.dreg ops live bef) ?_ c hc
    simp only [xC] at h
    cases ho : xD x.pcall x.acall ops e σ [] with
    | none => rw [ho] at h; cases h
    | some q =>
      obtain ⟨e', σ', es⟩ := q
      rw [ho] at h
      simp only at h
      split at h
      · rename_i h1
        simp only [forceE_eq, Option.some.injEq] at h; subst h
        exact xD_ok hx.pcall hx.acall ho ⟨h1, hq⟩
      · cases h
  | .frz t g a, c, e, ds, σ, r, hc, h, Q, hq => by
    simp only [chkC] at hc
    simp only [xC] at h
    split at h
    · rename_i b ht
      split at h
      · rename_i cs hb
        split at h
        · simp only [setS_eq] at h
          exact AWc.frz ht hb (.inl rfl) (xC_ok hx a hc h Q hq)
        · split at h
          · rename_i hs
            simp only [setS_eq] at h
            exact AWc.frz ht hb (.inr ⟨rfl, hs⟩) (xC_ok hx a hc h Q hq)
          · cases h
        · cases h
      · cases h
    · cases h
  | .frzc t off sz a, c, e, ds, σ, r, hc, h, Q, hq => by
    simp only [chkC] at hc
    simp only [xC] at h
    split at h
    · split at h
      · rename_i cs hb
        split at h
        · rename_i sz' xs b' k he
          split at h
          · rename_i h1
            simp only [beq_iff_eq] at h1
            subst h1
            simp only [forceS_eq] at h
            exact AWc.frzo hb he (xC_ok hx a hc h Q hq)
          · cases h
        · rename_i sz' b' o len n he
          split at h
          · rename_i sz'' xs hb'
            split at h
            · rename_i h1
              simp only [Bool.and_eq_true, beq_iff_eq] at h1
              obtain ⟨⟨rfl, rfl⟩, hn⟩ := h1
              simp only [forceS_eq] at h
              exact AWc.frzc hb he hb' hn (xC_ok hx a hc h Q hq)
            · cases h
          · cases h
        · cases h
      · cases h
    · cases h
  | .qreg ops live bef st last, c, e, ds, σ, r, hc, h, Q, hq => by
    simp only [xC] at h
    cases hx2 : xQ (x.call rs) ops bef last st [] [] e σ with
    | none => rw [hx2] at h; cases h
    | some q =>
      obtain ⟨e', σ'⟩ := q
      rw [hx2] at h
      simp only [forceE_eq, Option.some.injEq] at h
      subst h
      exact awpC_sound (.qreg ops live bef st last) (xQ_ok (hx.call rs) hx2 hq) c hc
  | .dfr d g caps live, c, e, ds, σ, r, hc, h, Q, hq => by
    simp only [xC] at h
    split at h
    · rename_i h1
      simp only [forceE_eq, forceL_eq (fun v K => forceH_eq v K), Option.some.injEq] at h
      subst h
      simp only [Bool.and_eq_true, Option.isNone_iff_eq_none] at h1
      exact awpC_sound (.dfr d g caps live) ⟨h1.1, needsB_ok h1.2, hq⟩ c hc
    · cases h
  | .rangeF f ps asg body, c, e, ds, σ, r, hc, h, Q, hq => by
    cases c <;> simp only [chkC] at hc <;> first | (cases hc; done) | skip
    simp only [Bool.and_eq_true, decide_eq_true_eq, List.all_eq_true] at hc
    obtain ⟨⟨⟨⟨c1, rfl⟩, c3⟩, c4⟩, c5⟩ := hc
    simp only [xC] at h
    split at h
    · rename_i hg
      cases hv : opv e f with
      | func fn first caps =>
        rw [hv] at h
        cases fn with
        | func fid =>
          simp only at h
          have hev : ∀ s (a : Act), FrOk s N ⟨e, ds⟩ a → Rv s (.func (.func fid) first caps) (a.eval _) := fun s a hf => by have := hf.opr c1 hg; simp only at this; rw [hv] at this; exact this
          cases ro with
          | none =>
            simp only at h
            refine AWc.rangeF hev ?_
            generalize hf : x.fcall _ fid _ _ = q at h
            cases q with
            | none => cases h
            | some q =>
              obtain ⟨q, σ1⟩ := q
              obtain ⟨hb, hs⟩ := hx.fcall _ _ _ _ _ _ hf
              exact CallF.func hb (hs _ (xRange_ok h hq))
          | some b =>
            simp only at h
            cases hb : σ.get b with
            | looprec N' e' ps' asg' body' D st pd =>
              rw [hb] at h
              simp only at h
              refine AWc.rangeFn hev hb ?_
              generalize hf : x.fcall _ fid _ _ = q at h
              cases q with
              | none => cases h
              | some q =>
                obtain ⟨q, σ1⟩ := q
                obtain ⟨hb, hs⟩ := hx.fcall _ _ _ _ _ _ hf
                exact CallF.func hb (hs _ (xRange_ok h hq))
            | _ => rw [hb] at h; cases h
        | _ => cases h
      | _ => rw [hv] at h; cases h
    · cases h

end

/-! ### Functions -/
structure Ent where
  f : Nat
  N : Nat
  ac : AC
  rs : List (Nat × Option (Option Nat))
  k : Nat

/-- A deferred function that does nothing where nobody panics. -/
def Inert (P : Program) (f N : Nat) : Prop := hasBody P f = true ∧ ∀ caps : List AVal, caps.length ≤ N → ∀ σ, DSpec P f caps σ .none fun m σ' => m = .none ∧ σ' = σ

def EntOk (P : Program) (t : Ent) : Prop := (t.k ≠ 1 → hasBody P t.f = true ∧ ∃ fn, P.funcs[t.f]? = some fn ∧ chkF P fn t.N t.ac t.rs = true) ∧ (t.k = 1 → Inert P t.f t.N)
def TabOk (P : Program) : List Ent → Prop
  | [] => True
  | t :: r => EntOk P t ∧ TabOk P r

def findT (f : Nat) : List Ent → Option Ent
  | [] => none
  | t :: r => if t.f = f then some t else findT f r
theorem findT_ok {P : Program} {f : Nat} {t : Ent} : ∀ {l : List Ent}, TabOk P l → findT f l = some t → t.f = f ∧ EntOk P t
  | [], _, h => by cases h
  | u :: r, hl, h => by
    simp only [findT] at h
    split at h
    · rename_i e
      simp only [Option.some.injEq] at h; subst h
      exact ⟨e, hl.1⟩
    · exact findT_ok hl.2 h

def findR (b : Nat) : List Rnd → Option Rnd
  | [] => none
  | t :: r => if t.b = b then some t else findR b r

def defF (fv : AVal) (args : List AVal) : Option (Nat × List AVal) :=
  match fv, args with
  | .func (.func f) [] caps, [] => some (f, caps)
  | _, _ => none
theorem defF_some {fv : AVal} {args : List AVal} {f : Nat} {caps : List AVal} (h : defF fv args = some (f, caps)) : fv = .func (.func f) [] caps ∧ args = [] := by
  unfold defF at h
  split at h
  · simp only [Option.some.injEq, Prod.mk.injEq] at h
    obtain ⟨rfl, rfl⟩ := h
    exact ⟨rfl, rfl⟩
  · cases h
def offX (tab : List Ent) : List ADef → AHeap → Option AHeap
  | [], σ => some σ
  | .coll b :: r, σ => match σ.get b with
    | .dfr => offX tab r (σ.set b .dead)
    | _ => none
  | .fn fv args :: r, σ => match defF fv args with
    | some (f, caps) => match findT f tab with
      | some t => if t.k == 1 && decide (caps.length ≤ t.N) then offX tab r σ else none
      | none => none
    | none => none
theorem offX_ok {P : Program} {tab : List Ent} (ht : TabOk P tab) {K : PM → AHeap → Prop} : ∀ {l : List ADef} {σ σ' : AHeap}, offX tab l σ = some σ' → K .none σ' → offD P l σ .none K
  | [], σ, σ', h, hk => by simp only [offX, Option.some.injEq] at h; subst h; exact hk
  | .coll b :: r, σ, σ', h, hk => by
    simp only [offX] at h
    simp only [offD]
    cases hb : σ.get b <;> rw [hb] at h <;> first | (cases h; done) | exact offX_ok ht h hk
  | .fn fv args :: r, σ, σ', h, hk => by
    simp only [offX] at h
    cases hd : defF fv args with
    | none => rw [hd] at h; cases h
    | some p =>
      obtain ⟨f, caps⟩ := p
      obtain ⟨rfl, rfl⟩ := defF_some hd
      rw [hd] at h
      simp only at h
      cases hf : findT f tab with
      | none => rw [hf] at h; cases h
      | some t =>
        rw [hf] at h
        simp only at h
        split at h
        · rename_i h1
          simp only [Bool.and_eq_true, decide_eq_true_eq, beq_iff_eq] at h1
          obtain ⟨e1, e2⟩ := findT_ok ht hf
          subst e1
          obtain ⟨hb, hd⟩ := e2.2 h1.1
          exact ⟨hb, (hd caps h1.2 σ).mono (by rintro m σ'' ⟨rfl, rfl⟩; exact offX_ok ht h hk)⟩
        · cases h
def offP : List ADef → AHeap → Option AHeap
  | [], σ => some σ
  | .coll b :: r, σ => match σ.get b with
    | .dfr => offP r (σ.set b .dead)
    | _ => none
  | .fn _ _ :: _, _ => none
theorem offP_ok {P : Program} {m : PM} {K : PM → AHeap → Prop} : ∀ {l : List ADef} {σ σ' : AHeap}, offP l σ = some σ' → K m σ' → offD P l σ m K
  | [], σ, σ', h, hk => by simp only [offP, Option.some.injEq] at h; subst h; exact hk
  | .coll b :: r, σ, σ', h, hk => by
    simp only [offP] at h
    simp only [offD]
    cases hb : σ.get b <;> rw [hb] at h <;> first | (cases h; done) | exact offP_ok h hk
  | .fn _ _ :: _, _, _, h, _ => by cases h

def isPtrB : AVal → Bool
  | .ptr _ _ => true
  | _ => false
def resB (e : Env) (σ : AHeap) : List (Nat × Option (Option Nat)) → Bool
  | [] => true
  | (t, none) :: r => (e.get t).cond && resB e σ r
  | (t, some k) :: r => (e.get t).cond && loadB k σ (e.get t).strip && isPtrB (e.get t).strip && resB e σ r
theorem resB_ok {e : Env} {σ : AHeap} : ∀ {l : List (Nat × Option (Option Nat))}, resB e σ l = true → resOk e σ l
  | [], _ => trivial
  | (t, none) :: r, h => by simp only [resB, Bool.and_eq_true] at h; exact ⟨h.1, resB_ok h.2⟩
  | (t, some k) :: r, h => by
    simp only [resB, Bool.and_eq_true] at h
    refine ⟨h.1.1.1, loadB_ok h.1.1.2, ?_, resB_ok h.2⟩
    have := h.1.2
    cases hv : (e.get t).strip <;> rw [hv] at this <;> first | (cases this; done) | exact ⟨_, _, rfl⟩

def finX (tab : List Ent) (rs : List (Nat × Option (Option Nat))) (r : XE) : XR :=
  match r.x with
  | .normal | .ret => match offX tab r.ds r.σ with
    | some σ => if resB r.e σ rs then forceV 3 (resTup (resV r.e σ rs)) fun v => some (.ret v, σ) else none
    | none => none
  | .panic v => match offP r.ds r.σ with
    | some σ => some (.pan v, σ)
    | none => none
  | _ => none
theorem finX_ok {P : Program} {tab : List Ent} (ht : TabOk P tab) {rs : List (Nat × Option (Option Nat))} {r : XE} {q : ARes} {σ : AHeap} {R : ARes → AHeap → Prop} (h : finX tab rs r = some (q, σ)) (hr : R q σ) : bodyQD P rs R r.x ⟨r.e, r.ds⟩ r.σ := by
  obtain ⟨x, e, ds, σ0⟩ := r
  have key : ∀ {h0 : (match offX tab ds σ0 with
    | some σ => if resB e σ rs then forceV 3 (resTup (resV e σ rs)) fun v => some (.ret v, σ) else none
    | none => none) = some (q, σ)}, offD P ds σ0 .none (endD rs R e) := by
    intro h0
    cases ho : offX tab ds σ0 with
    | none => rw [ho] at h0; cases h0
    | some σ1 =>
      rw [ho] at h0
      simp only [forceV_eq] at h0
      split at h0
      · rename_i h1
        simp only [Option.some.injEq, Prod.mk.injEq] at h0
        obtain ⟨rfl, rfl⟩ := h0
        exact offX_ok ht ho ⟨resB_ok h1, hr⟩
      · cases h0
  cases x with
  | normal => exact key (h0 := h)
  | ret => exact key (h0 := h)
  | panic v =>
    simp only [finX] at h
    simp only [bodyQD]
    cases ho : offP ds σ0 with
    | none => rw [ho] at h; cases h
    | some σ1 =>
      rw [ho] at h
      simp only [Option.some.injEq, Prod.mk.injEq] at h
      obtain ⟨rfl, rfl⟩ := h
      exact offP_ok ho hr
  | _ => cases h

/-- One round of a loop over a function. -/
def xYield (P : Program) (x : Ex) (L : Nat) (rs : List Rnd) (b : Nat) (args : List AVal) (σ : AHeap) : XR :=
  match findR b rs with
  | none => none
  | some t => match σ.get b with
    | .looprec N e ps casg cbody _ .ready _ =>
      if chkC P N t.asg casg && chkC P N t.body cbody && ps.all (fun p => decide (p < N)) && ps.length == args.length then
        forceE (putArgs e ps args) fun e0 => match xC x L N (some b) rs t.asg casg e0 [] σ with
        | some ⟨.normal, e1, ds1, σ1⟩ => match σ1.get b with
          | .looprec N1 f1 ps1 asg1 body1 D1 .ready p1 => match xC x L N (some b) rs t.body cbody e1 ds1 (σ1.set b (.looprec N1 f1 ps1 asg1 body1 D1 .busy p1)) with
            | none => none
            | some ⟨x2, _, _, σ2⟩ => match σ2.get b with
              | .looprec N2 f2 ps2 asg2 body2 D2 _ _ => match x2 with
                | .normal => some (.ret (.bool true), σ2.set b (.looprec N2 f2 ps2 asg2 body2 D2 .ready none))
                | .ret => some (.ret (.bool false), σ2.set b (.looprec N2 f2 ps2 asg2 body2 D2 .done (some .ret)))
                | .exit i => some (.ret (.bool false), σ2.set b (.looprec N2 f2 ps2 asg2 body2 D2 .done (some (.exit i))))
                | .goto l => some (.ret (.bool false), σ2.set b (.looprec N2 f2 ps2 asg2 body2 D2 .done (some (.goto l))))
                | .panic _ => none
              | _ => none
          | _ => none
        | _ => none
      else none
    | _ => none

theorem xYield_ok {P : Program} {x : Ex} (hx : ExeOk P x) {L : Nat} {rs : List Rnd} {b : Nat} {args : List AVal} {σ : AHeap} {r : ARes} {σ' : AHeap} (h : xYield P x L rs b args σ = some (r, σ')) (Q : ARes → AHeap → Prop) (hq : Q r σ') : CallV P (.yieldf b) args σ Q := by
  unfold xYield at h
  cases ht : findR b rs with
  | none => rw [ht] at h; cases h
  | some t =>
    rw [ht] at h
    simp only at h
    cases hb : σ.get b with
    | looprec N e ps casg cbody D st pd =>
      rw [hb] at h
      cases st with
      | ready =>
        simp only at h
        split at h
        · rename_i h1
          simp only [Bool.and_eq_true, beq_iff_eq, List.all_eq_true, decide_eq_true_eq] at h1
          simp only [forceE_eq] at h
          refine CallV.yield hb h1.2 h1.1.2 ?_
          cases ha : xC x L N (some b) rs t.asg casg (putArgs e ps args) [] σ with
          | none => rw [ha] at h; cases h
          | some r1 =>
            obtain ⟨x1, e1, ds1, σ1⟩ := r1
            rw [ha] at h
            refine xC_ok hx _ h1.1.1.1 ha _ ?_
            cases x1 with
            | normal =>
              simp only at h
              cases hb1 : σ1.get b with
              | looprec N1 f1 ps1 asg1 body1 D1 st1 p1 =>
                rw [hb1] at h
                cases st1 with
                | ready =>
                  simp only at h
                  refine ⟨N1, f1, ps1, asg1, body1, D1, p1, hb1, ?_⟩
                  generalize hc : xC x L N (some b) rs t.body cbody e1 ds1 _ = q at h
                  cases q with
                  | none => cases h
                  | some r2 =>
                    obtain ⟨x2, e2, ds2, σ2⟩ := r2
                    refine xC_ok hx _ h1.1.1.2 hc _ ?_
                    simp only at h
                    cases hb2 : σ2.get b with
                    | looprec N2 f2 ps2 asg2 body2 D2 st2 p2 =>
                      rw [hb2] at h
                      cases x2 with
                      | panic v => cases h
                      | _ =>
                        simp only [Option.some.injEq, Prod.mk.injEq] at h
                        obtain ⟨rfl, rfl⟩ := h
                        exact ⟨N2, f2, ps2, asg2, body2, D2, st2, p2, hb2, hq⟩
                    | _ => rw [hb2] at h; cases h
                | _ => cases h
              | _ => rw [hb1] at h; cases h
            | _ => cases h
        · cases h
      | _ => cases h
    | _ => rw [hb] at h; cases h

/-- What is known of a function ahead. -/
abbrev Orc := Nat → List AVal → Option AVal
/-- A result with its own room: its block is new. -/
def OwnRes (P : Program) (f : Nat) (args : List AVal) : AVal → Prop
  | .oslice sz xs 0 1 => ∀ σ, Spec P f args σ fun r σ' => r = .ret (.oslice sz xs σ.length 1) ∧ σ' = σ ++ [.spare sz 1]
  | v => ∀ σ, Spec P f args σ fun r σ' => r = .ret v ∧ σ' = σ
def OrcOk (P : Program) (o : Orc) : Prop := ∀ f args v, o f args = some v → hasBody P f = true ∧ OwnRes P f args v
theorem OwnRes.pure {P : Program} {f : Nat} {args : List AVal} {v : AVal} (h : OwnRes P f args v) (hp : v.pure = true) : ∀ σ, Spec P f args σ fun r σ' => r = .ret v ∧ σ' = σ := by
  cases v <;> first | exact h | (simp [AVal.pure] at hp)
theorem OwnRes.of {P : Program} {f : Nat} {args : List AVal} {v : AVal} (hp : v.pure = true) (h : ∀ σ, Spec P f args σ fun r σ' => r = .ret v ∧ σ' = σ) : OwnRes P f args v := by
  cases v <;> first | exact h | (simp [AVal.pure] at hp)
def ownOf (orc : Orc) (f : Nat) (args : List AVal) : Option (Nat × List AVal) :=
  match orc f args with
  | some (.oslice sz xs 0 1) => some (sz, xs)
  | _ => none
theorem ownOf_ok {P : Program} {orc : Orc} (ho : OrcOk P orc) {f : Nat} {args : List AVal} {sz : Nat} {xs : List AVal} (h : ownOf orc f args = some (sz, xs)) :
    hasBody P f = true ∧ ∀ σ, Spec P f args σ fun r σ' => r = .ret (.oslice sz xs σ.length 1) ∧ σ' = σ ++ [.spare sz 1] := by
  unfold ownOf at h
  split at h
  · rename_i sz' xs' hv
    simp only [Option.some.injEq, Prod.mk.injEq] at h
    obtain ⟨rfl, rfl⟩ := h
    exact ho _ _ _ hv
  · cases h
def acallOf (orc : Orc) (sz : Nat) (fv : AVal) (args : List AVal) : Option (List AVal) :=
  match fv with
  | .func (.func f) first caps => match ownOf orc f (first ++ args ++ caps) with
    | some (sz', xs) => if sz' = sz then some xs else none
    | none => none
  | _ => none
theorem acallOf_ok {P : Program} {orc : Orc} (ho : OrcOk P orc) : AcallOk P (acallOf orc) := by
  intro sz fv args xs h σ
  unfold acallOf at h
  split at h
  · rename_i f first caps
    cases hw : ownOf orc f (first ++ args ++ caps) with
    | none => rw [hw] at h; cases h
    | some p =>
      obtain ⟨sz', ys⟩ := p
      rw [hw] at h
      simp only at h
      split at h
      · rename_i e
        subst e
        simp only [Option.some.injEq] at h
        subst h
        obtain ⟨hb, hs⟩ := ownOf_ok ho hw
        exact CallV.func hb (hs σ)
      · cases h
  · cases h
/-- A call that makes memory, in the text's order. -/
def ownCall (orc : Orc) (fv : AVal) (args : List AVal) (σ : AHeap) : XR :=
  match fv with
  | .func (.func f) first caps => match ownOf orc f (first ++ args ++ caps) with
    | some (sz, xs) => some (.ret (.oslice sz xs σ.length 1), σ ++ [.spare sz 1])
    | none => none
  | _ => none
theorem ownCall_ok {P : Program} {orc : Orc} (ho : OrcOk P orc) {fv : AVal} {args : List AVal} {σ : AHeap} {r : ARes} {σ' : AHeap} (h : ownCall orc fv args σ = some (r, σ')) (Q : ARes → AHeap → Prop) (hq : Q r σ') : CallV P fv args σ Q := by
  unfold ownCall at h
  split at h
  · rename_i f first caps
    cases hw : ownOf orc f (first ++ args ++ caps) with
    | none => rw [hw] at h; cases h
    | some p =>
      obtain ⟨sz, xs⟩ := p
      rw [hw] at h
      simp only [Option.some.injEq, Prod.mk.injEq] at h
      obtain ⟨rfl, rfl⟩ := h
      obtain ⟨hb, hs⟩ := ownOf_ok ho hw
      exact (CallV.func hb (hs σ)).mono fun q σ'' e => by obtain ⟨rfl, rfl⟩ := e; exact hq
  · cases h

def xFc (P : Program) (tab : List Ent) (L : Nat) (x : Ex) (rs : List Rnd) (f : Nat) (args : List AVal) (σ : AHeap) : XR :=
  match findT f tab with
  | none => none
  | some t => match P.funcs[f]? with
    | none => none
    | some fn => match fn.body with
      | none => none
      | some c => if args.length ≤ t.N && t.k != 1 then match xC x L t.N none rs t.ac c (argEnv args 0) [] σ with
        | none => none
        | some r => finX tab t.rs r
        else none

def xPc (orc : Orc) (fc : List Rnd → Nat → List AVal → AHeap → XR) (fv : AVal) (args : List AVal) : Option AVal :=
  match fv with
  | .func (.func f) first caps =>
    if pures (first ++ args ++ caps) then match orc f (first ++ args ++ caps) with
      | some v => if v.pure then some v else none
      | none => match fc [] f (first ++ args ++ caps) [] with
        | some (.ret v, _) => if v.pure then some v else none
        | _ => none
    else none
  | _ => none

/-- Does a function return memory that is not for all? -/
def impure (tab : List Ent) : AVal → Bool
  | .func (.func f) _ _ => match findT f tab with
    | some t => t.k == 2
    | none => false
  | .yieldf _ => true
  | _ => false

def mkEx (P : Program) (tab : List Ent) (orc : Orc) (L : Nat) : Nat → Ex
  | 0 => ⟨fun _ _ => none, fun _ _ _ => none, fun _ _ _ _ => none, fun _ _ _ _ => none⟩
  | n + 1 =>
    { pcall := fun fv args => xPc orc (xFc P tab L (mkEx P tab orc L n)) fv args
      acall := acallOf orc
      call := fun rs fv args σ => match (if impure tab fv then none else xPc orc (xFc P tab L (mkEx P tab orc L n)) fv args) with
        | some v => some (.ret v, σ)
        | none => match ownCall orc fv args σ with
        | some q => some q
        | none => match fv with
          | .func (.func f) first caps => xFc P tab L (mkEx P tab orc L n) rs f (first ++ args ++ caps) σ
          | .yieldf b => xYield P (mkEx P tab orc L n) L rs b args σ
          | _ => none
      fcall := fun rs f args σ => xFc P tab L (mkEx P tab orc L n) rs f args σ }

theorem xFc_ok {P : Program} {tab : List Ent} (ht : TabOk P tab) {L : Nat} {x : Ex} (hx : ExeOk P x) {rs : List Rnd} {f : Nat} {args : List AVal} {σ : AHeap} {r : ARes} {σ' : AHeap} (h : xFc P tab L x rs f args σ = some (r, σ')) :
    hasBody P f = true ∧ ∀ Q : ARes → AHeap → Prop, Q r σ' → Spec P f args σ Q := by
  unfold xFc at h
  cases hf : findT f tab with
  | none => rw [hf] at h; cases h
  | some t =>
    rw [hf] at h
    obtain ⟨e1, hent, _⟩ := findT_ok ht hf
    subst e1
    by_cases hin : t.k = 1
    · exfalso; simp only [hin] at h; split at h <;> first | (cases h; done) | (split at h <;> simp at h)
    obtain ⟨hb, fn, e2, e3⟩ := hent hin
    simp only [chkF, Bool.and_eq_true, decide_eq_true_eq] at e3
    obtain ⟨⟨h1, h2⟩, h3⟩ := e3
    simp only [e2] at h
    cases hc : fn.body with
    | none => rw [hc] at h; cases h
    | some c =>
      rw [hc] at h h3
      simp only at h h3
      split at h
      · rename_i hl
        simp only [Bool.and_eq_true, decide_eq_true_eq] at hl
        refine ⟨hb, fun Q hq => Spec.of_codeD e2 hc h1 h2 hl.1 ?_⟩
        cases hxc : xC x L t.N none rs t.ac c (argEnv args 0) [] σ with
        | none => rw [hxc] at h; cases h
        | some r1 =>
          rw [hxc] at h
          exact xC_ok hx _ h3 hxc _ (finX_ok ht h hq)
      · cases h

theorem xPc_ok {P : Program} {orc : Orc} (ho : OrcOk P orc) {fc : List Rnd → Nat → List AVal → AHeap → XR} (hfc : ∀ rs f args σ r σ', fc rs f args σ = some (r, σ') → hasBody P f = true ∧ ∀ Q : ARes → AHeap → Prop, Q r σ' → Spec P f args σ Q) : PcallOk P (xPc orc fc) := by
  intro fv args v h σ
  unfold xPc at h
  split at h
  · rename_i f first caps
    split at h
    · rename_i hp
      cases hor : orc f (first ++ args ++ caps) with
      | some w =>
        rw [hor] at h
        simp only at h
        split at h
        · rename_i hpv
          simp only [Option.some.injEq] at h
          subst h
          obtain ⟨hb, hs⟩ := ho _ _ _ hor
          exact CallV.func hb (hs.pure hpv σ)
        · cases h
      | none =>
        rw [hor] at h
        simp only at h
        split at h
        · rename_i w σ1 hf
          split at h
          · rename_i hpv
            simp only [Option.some.injEq] at h
            subst h
            obtain ⟨hb, hs⟩ := hfc _ _ _ _ _ _ hf
            exact CallV.func hb (Spec.pureFn (hs (fun r _ => r = .ret w) rfl) hp hpv σ)
          · cases h
        · cases h
    · cases h
  · cases h

theorem mkEx_ok {P : Program} {tab : List Ent} (ht : TabOk P tab) {orc : Orc} (ho : OrcOk P orc) {L : Nat} : ∀ n, ExeOk P (mkEx P tab orc L n)
  | 0 => ⟨fun _ _ _ h => (by cases h), fun _ _ _ _ h => (by cases h), fun _ _ _ _ _ _ h => (by cases h), fun _ _ _ _ _ _ h => (by cases h)⟩
  | n + 1 => by
    have ih := mkEx_ok ht ho (L := L) n
    have hf : ∀ rs f args σ r σ', xFc P tab L (mkEx P tab orc L n) rs f args σ = some (r, σ') → hasBody P f = true ∧ ∀ Q : ARes → AHeap → Prop, Q r σ' → Spec P f args σ Q := fun rs f args σ r σ' h => xFc_ok ht ih h
    have hp := xPc_ok ho hf
    refine ⟨hp, acallOf_ok ho, fun rs fv args σ r σ' h Q hq => ?_, fun rs f args σ r σ' h => hf _ _ _ _ _ _ h⟩
    simp only [mkEx] at h
    split at h
    · rename_i v hv
      simp only [Option.some.injEq, Prod.mk.injEq] at h
      obtain ⟨rfl, rfl⟩ := h
      split at hv
      · cases hv
      exact (hp _ _ _ hv _).mono fun q σ'' e => by obtain ⟨rfl, rfl⟩ := e; exact hq
    · split at h
      · rename_i q hoc
        simp only [Option.some.injEq] at h
        subst h
        exact ownCall_ok ho hoc Q hq
      · split at h
        · obtain ⟨hb, hs⟩ := hf _ _ _ _ _ _ h
          exact CallV.func hb (hs Q hq)
        · exact xYield_ok ih h Q hq
        · cases h

/-- What the executor says of a call in the empty heap. -/
theorem run_spec {P : Program} {tab : List Ent} (ht : TabOk P tab) {orc : Orc} (ho : OrcOk P orc) {L n : Nat} {f : Nat} {args : List AVal} {v : AVal} (h : (xPc orc (xFc P tab L (mkEx P tab orc L n)) (.func (.func f) [] []) args) = some v) (_hb : hasBody P f = true) (σ : AHeap) :
    CallV P (.func (.func f) [] []) args σ fun r σ' => r = .ret v ∧ σ' = σ :=
  xPc_ok ho (fun _ _ _ _ _ _ h => xFc_ok ht (mkEx_ok ht ho n) h) _ _ _ h σ

/-- The contract, by a run. -/
theorem spec_of_run {P : Program} {tab : List Ent} (ht : TabOk P tab) {orc : Orc} (ho : OrcOk P orc) {L n : Nat} {f : Nat} {args : List AVal} {v : AVal} {σ' : AHeap} (h : xFc P tab L (mkEx P tab orc L n) [] f args [] = some (.ret v, σ')) :
    Spec P f args [] fun r _ => r = .ret v := (xFc_ok ht (mkEx_ok ht ho n) h).2 _ rfl

def noOrc : Orc := fun _ _ => none
theorem noOrc_ok {P : Program} : OrcOk P noOrc := fun _ _ _ h => by cases h

def isTrueX : XR → Bool
  | some (.ret (.bool true), _) => true
  | _ => false

/-- A function without parameters that returns true. -/
theorem true_of_run {P : Program} {tab : List Ent} (ht : TabOk P tab) {orc : Orc} (ho : OrcOk P orc) {L n : Nat} {f : Nat} {args : List AVal} (h : isTrueX (xFc P tab L (mkEx P tab orc L n) [] f args []) = true) : Spec P f args [] fun r _ => r = .ret (.bool true) := by
  cases hx : xFc P tab L (mkEx P tab orc L n) [] f args [] with
  | none => rw [hx] at h; cases h
  | some q =>
    obtain ⟨q, σ⟩ := q
    rw [hx] at h
    cases q with
    | ret v =>
      cases v <;> first | (cases h; done) | skip
      rename_i b
      cases b <;> first | (cases h; done) | skip
      exact spec_of_run ht ho hx
    | pan v => cases h

end Go.AM
