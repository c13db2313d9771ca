/- The longest order: of the program. The sets that are left behind good orders, the nearest ones first: the plain law. The sets that are left behind good orders, one after the other: of the program. slices.Clone of ints: a contract. -/
import Derived.Test.YtmjfcbpgnmajpaaGreatDoorP22
import Derived.Test.YtmjfcbpgnmajpaaGreatDoorP20
import Derived.Test.YtmjfcbpgnmajpaaGreatDoorG05
import Derived.Test.YtmjfcbpgnmajpaaGreatDoorP14
namespace Go.AM
open Go.Proofs
set_option maxRecDepth 100000
set_option maxHeartbeats 1000000
theorem canU_prefix (t : TaskM) (s : Nat) : ∀ (d a : Nat), canU t s a <+: canU t s (a + d)
  | 0, a => List.prefix_refl _
  | d + 1, a => by
    rw [← Nat.add_assoc, canU_succ]
    exact (canU_prefix t s d a).trans (List.prefix_append _ _)
def nextP (t : TaskM) (s i : Nat) : Bool := mostT t (rem1 s i) + 1 == mostT t s
theorem nextT_first {t : TaskM} (hf : t.Fit) {s i : Nat} (hs : Sub t s) (hi : i < 7) (hw : whyT t s i = 0) (h0 : (canU t s i).find? (nextP t s) = none) (h1 : nextP t s i = true) : nextT t s = some i := by
  obtain ⟨r, hr⟩ := canU_prefix t s (7 - (i + 1)) (i + 1)
  rw [show i + 1 + (7 - (i + 1)) = 7 by omega, canU_succ, if_pos hw, canU_all hf hs] at hr
  unfold nextT
  rw [← hr]
  show ((canU t s i ++ [i]) ++ r).find? (nextP t s) = some i
  rw [List.find?_append, List.find?_append, h0]
  simp [h1]
theorem next_none {t : TaskM} (hf : t.Fit) {s : Nat} (hs : Sub t s) (h : (canU t s 7).find? (nextP t s) = none) : mostT t s = 0 := by
  have h128 := hs.lt hf
  rcases Nat.eq_zero_or_pos (mostT t s) with e | e
  · exact e
  · obtain ⟨i, h1, _⟩ := nextT_some hf h128 e
    rw [canU_all hf hs] at h
    have : nextT t s = none := h
    rw [this] at h1; cases h1
section
variable (σ X : AHeap) (a : Nat) (v : AObj)
@[simp] theorem setA_g0 : (σ.set a v ++ X)[σ.length]? = X[0]? := by
  have := get_app0 (σ.set a v) X
  rwa [List.length_set] at this
@[simp] theorem setA_gn (j : Nat) : (σ.set a v ++ X)[σ.length + j]? = X[j]? := by
  have := get_appn (σ.set a v) X j
  rwa [List.length_set] at this
@[simp] theorem setA_s0 (x : AObj) : (σ.set a v ++ X).set σ.length x = σ.set a v ++ X.set 0 x := by
  have := set_app0 (σ.set a v) X x
  rwa [List.length_set] at this
@[simp] theorem setA_sn (x : AObj) (j : Nat) : (σ.set a v ++ X).set (σ.length + j) x = σ.set a v ++ X.set j x := by
  have := set_appn (σ.set a v) X x j
  rwa [List.length_set] at this
end
def expl (σ : AHeap) (n : Nat) (m M : List (Nat × Int)) (p : Nat) (ord : List AVal) (X : AHeap) : AHeap :=
  σ.set (n + 1) (.amap (mapN m)) ++ (.spare 1 p :: .box [.oslice 1 ord σ.length p] :: .amap (mapN M) :: .dead :: .box [findV n (σ.length + 2) (σ.length + 2 + 2)] :: .dead :: X)
theorem expl_most {t : TaskM} {n : Nat} {σ : AHeap} (h : ShipI t n σ) {m M : List (Nat × Int)} (hm : KnownOk t m) (hM : MostOk t M) (p : Nat) (ord : List AVal) (X : AHeap) : MostAt t n (σ.length + 2) (σ.length + 2 + 2) (expl σ n m M p ord X) := by
  have hl := h.len
  refine ⟨?_, by omega, ⟨M, hM, by simp [expl]⟩, by simp [expl, Nat.add_assoc]⟩
  exact (h.memo ⟨m, [], hm, rfl⟩ : ShipI t n _).app |> fun h => by simpa [expl] using h
theorem expl_eq {n : Nat} {σ : AHeap} (h1 : n + 1 < σ.length) (m M m' M' : List (Nat × Int)) (p : Nat) (ord : List AVal) (X : AHeap) : mset2 (expl σ n m M p ord X) n (σ.length + 2) m' M' = expl σ n m' M' p ord X := by
  unfold mset2 expl
  rw [List.set_append_left _ _ (by simpa using h1), List.set_set, setA_sn]
  rfl
theorem expl_setn {n : Nat} {σ : AHeap} (h1 : n + 1 < σ.length) (m M m' : List (Nat × Int)) (p : Nat) (ord : List AVal) (X : AHeap) : (expl σ n m M p ord X).set (n + 1) (.amap (mapN m')) = expl σ n m' M p ord X := by
  unfold expl
  rw [List.set_append_left _ _ (by simpa using h1), List.set_set]
theorem CallK.expl {t : TaskM} {n : Nat} {fv : AVal} {args : List AVal} {σ X : AHeap} {m0 M0 : List (Nat × Int)} {p : Nat} {ord : List AVal} {v : AVal} {K Kp : AVal → AHeap → Prop} (hs : CallV Tryz.prog fv args (expl σ n m0 M0 p ord X) fun r σ' => r = .ret v ∧ Memo2 t n (σ.length + 2) (expl σ n m0 M0 p ord X) σ') (h1 : n + 1 < σ.length)
    (hq : ∀ m M tl, KnownOk t m → MostOk t M → K v (Go.AM.expl σ n m M p ord (X ++ tl))) : @CallK Tryz.prog fv args (expl σ n m0 M0 p ord X) ⟨K⟩ ⟨Kp⟩ :=
  hs.mono (by
    rintro r σ' ⟨rfl, m, M, tl, g1, g2, rfl⟩
    have := hq m M tl g1 g2
    rw [expl_eq h1]
    have e : Go.AM.expl σ n m M p ord X ++ tl = Go.AM.expl σ n m M p ord (X ++ tl) := by simp [Go.AM.expl]
    rw [e]
    exact this)
def lonE (n B T s : Nat) : Env := [(0, .ptr (n + 2) 0), (2, .ptr (B + 1) 0), (3, .pval (findV n (B + 2) (B + 2 + 2))), (4, .ptr (B + T) 0), (17, .func (.func F_cut_ship_can_1) [] [.pval (nn' s), .pval (.ptr (n + 2) 0)])]
theorem expl_app (σ : AHeap) (n : Nat) (m M : List (Nat × Int)) (p : Nat) (ord : List AVal) (X Y : AHeap) : expl σ n m M p ord X ++ Y = expl σ n m M p ord (X ++ Y) := by simp [expl]
theorem expl_len (σ : AHeap) (n : Nat) (m M : List (Nat × Int)) (p : Nat) (ord : List AVal) (X : AHeap) : (expl σ n m M p ord X).length = σ.length + (X.length + 6) := by simp [expl]
theorem expl_box (σ : AHeap) (n : Nat) (m M : List (Nat × Int)) (p : Nat) (ord : List AVal) (A B : AHeap) (o : AObj) : (expl σ n m M p ord (A ++ o :: B))[σ.length + (A.length + 6)]? = some o := by simp [expl]
theorem CallK.explS {t : TaskM} {n : Nat} {fv : AVal} {args : List AVal} {σ A X : AHeap} {m0 M0 : List (Nat × Int)} {p : Nat} {ord : List AVal} {v : AVal} {K Kp : AVal → AHeap → Prop} (hs : CallV Tryz.prog fv args (Go.AM.expl σ n m0 M0 p ord A ++ X) fun r σ' => r = .ret v ∧ Memo2 t n (σ.length + 2) (Go.AM.expl σ n m0 M0 p ord A ++ X) σ') (h1 : n + 1 < σ.length)
    (hq : ∀ m M tl, KnownOk t m → MostOk t M → K v (Go.AM.expl σ n m M p ord A ++ (X ++ tl))) : @CallK Tryz.prog fv args (Go.AM.expl σ n m0 M0 p ord A ++ X) ⟨K⟩ ⟨Kp⟩ :=
  hs.mono (by
    rintro r σ' ⟨rfl, m, M, tl, g1, g2, rfl⟩
    have := hq m M tl g1 g2
    rw [expl_app, expl_eq h1, ← expl_app, List.append_assoc]
    exact this)
def lonY (n B T D s : Nat) (asg body : Code) (st : LoopState) (pd : Option Code) : AHeap := [.dfr, .looprec 35 (lonE n B T s) [18, 19] asg body D st pd]
def collsB (B : Nat) (cs : List Nat) : List ADef := cs.map fun c => .coll (B + (c + 6))
theorem off_base {B : Nat} {S : AHeap} (hS : S.length = B + 6) {K : AHeap → Prop} (hK : ∀ X, K (S ++ X)) : ∀ (cs : List Nat) (X : AHeap), cs.Nodup → (∀ c ∈ cs, X[c]? = some .dfr) → offColls (collsB B cs) (S ++ X) K
  | [], X, _, _ => hK X
  | c :: cs, X, hn, hc => by
    have h1 : (S ++ X)[B + (c + 6)]? = some .dfr := by
      rw [show B + (c + 6) = S.length + c by omega, get_appn]; exact hc c (by simp)
    have h2 : (S ++ X).set (B + (c + 6)) .dead = S ++ X.set c .dead := by
      rw [show B + (c + 6) = S.length + c by omega, set_appn]
    rw [List.nodup_cons] at hn
    show (match (S ++ X).get (B + (c + 6)) with
      | .dfr => offColls (collsB B cs) ((S ++ X).set (B + (c + 6)) .dead) K
      | _ => False)
    unfold AHeap.get
    rw [List.getD_eq_getElem?_getD, h1, h2]
    refine off_base hS hK cs _ hn.2 fun d hd => ?_
    have hne : c ≠ d := fun e => hn.1 (by rw [e]; exact hd)
    rw [List.getElem?_set_ne hne]
    exact hc d (by simp [hd])
theorem longest_spec {t : TaskM} (hf : t.Fit) (hok : t.Ok) {n : Nat} (σ : AHeap) (h : ShipI t n σ) :
    Spec Tryz.prog F_cut_ship_longest [.ptr (n + 2) 0] σ fun r σ' => r = .ret (.slice 1 ((longU t (allT t)).map nn')) ∧ Memo t n σ σ' := by
  have h7 := hf.ship7
  have hl := h.len
  obtain ⟨m0, hm0, hsh⟩ := id h
  refine spec_cut_ship_longest (by simp) (awpC_sound _ ?_)
  simp [C_cut_ship_longest]
  refine CallK.spec B_cut_ship_most (most_spec t _ h.app) ?_
  rintro r σ' ⟨rfl, rfl⟩
  refine ⟨_, rfl, ?_⟩
  simp [findV]
  refine CallK.pure B_cut_ship_all (all_spec hf (n := n) (es := mapN m0) ⟨by rw [List.getElem?_append_left (by omega)]; exact hsh.above, by rw [List.getElem?_append_left (by omega)]; exact hsh.known, by rw [List.getElem?_append_left (by omega)]; exact hsh.ship⟩) ?_
  simp
  have hfl := fun (s : Nat) (hs : Sub t s) m M (hm : KnownOk t m) (hM : MostOk t M) p ord X => CallV.func (first := []) (args := [nn' s]) (caps := [.pval (.map (σ.length + 2)), .pval (.ptr (n + 2) 0), .ptr (σ.length + 2 + 2) 0]) B_cut_ship_most_1 (find_spec hf hok s hs _ (expl_most h hm hM p ord X))
  have hln := longT_len hf (s := allT t) rfl (allT_lt hf)
  have hml := mostT_le hf (allT_lt hf)
  have hpl := pop_le (allT t) (allT_lt hf)
  refine AW.loop (ι := Nat) (fun d fr σ1 => ∃ (s : Nat) (m M : List (Nat × Int)) (p : Nat) (ord : List Nat) (tl : AHeap) (cs : List Nat), cs.Nodup ∧ (∀ c ∈ cs, tl[c]? = some .dfr) ∧ KnownOk t m ∧ MostOk t M ∧ Sub t s ∧ fr = { v := [(0, .ptr (n + 2) 0), (2, .ptr (σ.length + 1) 0), (3, .pval (findV n (σ.length + 2) (σ.length + 2 + 2))), (4, .ptr (σ.length + (tl.length + 6)) 0)], ds := collsB σ.length cs } ∧
      σ1 = expl σ n m M p (ord.map nn') (tl ++ [.box [nn' s]]) ∧ longU t (allT t) = ord ++ longU t s ∧ mostT t s = d) (fun d => d) (mostT t (allT t)) ⟨allT t, m0, [], 0, [], [], [], by simp, (fun _ h => by cases h), hm0, (fun _ _ h => (by cases h)), Sub.all t, by simp [findV, collsB], by simp [expl, findV, set_same hsh.known], rfl, rfl⟩ ?_
  rintro d fr σ1 ⟨s, m, M, p, ord, tl, cs, hcn, hcd, hm, hM, hs, rfl, rfl, hlong, rfl⟩
  have h128 := hs.lt hf
  have hord : ord.length + mostT t s ≤ 7 := by
    have := congrArg List.length hlong
    rw [List.length_append, longT_len hf (s := s) rfl h128, hln] at this
    omega
  refine awpC_sound _ ?_
  simp [expl, findV]
  refine CallK.expl (p := p) (ord := ord.map nn') (X := tl ++ [.box [nn' s]]) (hfl s hs m M hm hM _ _ _) (by omega) fun m1 M1 tl1 hm1 hM1 => ?_
  refine (Nat.eq_zero_or_pos (mostT t s)).elim (fun hz => ?_) (fun hpos => ?_)
  · rw [longT_zero hz, List.append_nil] at hlong
    simp [hz, expl, findV]
    have hcd2 : ∀ c ∈ cs, (tl ++ .box [nn' s] :: tl1)[c]? = some .dfr := fun c hc => by
      have := hcd c hc
      rw [List.getElem?_append_left (List.getElem?_eq_some_iff.1 this).1]; exact this
    have e : σ.set (n + 1) (.amap (mapN m1)) ++ .spare 1 p :: .box [.slice 1 (ord.map nn')] :: .amap (mapN M1) :: .dead :: .box [.func (.func F_cut_ship_most_1) [] [.pval (.map (σ.length + 2)), .pval (.ptr (n + 2) 0), .ptr (σ.length + 2 + 2) 0]] :: .dead :: (tl ++ .box [nn' s] :: tl1) =
        (σ.set (n + 1) (.amap (mapN m1)) ++ [.spare 1 p, .box [.slice 1 (ord.map nn')], .amap (mapN M1), .dead, .box [.func (.func F_cut_ship_most_1) [] [.pval (.map (σ.length + 2)), .pval (.ptr (n + 2) 0), .ptr (σ.length + 2 + 2) 0]], .dead]) ++ (tl ++ .box [nn' s] :: tl1) := by simp
    rw [e]
    exact off_base (by simp) (fun X => by simp [hlong]; exact ⟨m1, _, hm1, rfl⟩) cs _ hcn hcd2
  have hposI : (0 : Int) < (mostT t s : Int) := by omega
  have hnz : ¬ mostT t s = 0 := by omega
  simp [hposI, hpos, hnz, expl, findV]
  refine CallK.pure B_cut_ship_can (cut_can_spec (n + 2) s _) ?_
  simp
  refine AW.rangeF (by simp) fun asg' body' ca cb hps => ?_
  simp only [List.length_append, List.length_cons, List.length_nil, List.length_set, List.append_assoc, List.cons_append, List.nil_append, Nat.zero_add, Nat.reduceAdd, Nat.add_assoc]
  obtain ⟨D, hD⟩ : ∃ D, σ.length + (tl.length + (tl1.length + 7)) = D := ⟨_, rfl⟩
  have hDl : ∀ m M p ord s', (expl σ n m M p ord (tl ++ .box [nn' s'] :: tl1)).length = D := fun m M p ord s' => by rw [expl_len]; simp; omega
  have hb : σ.length + (tl.length + (tl1.length + 8)) = D + 1 := by omega
  rw [hb, hD]
  change CallF Tryz.prog (.func (.func F_cut_ship_can_1) [] [.pval (nn' s), .pval (.ptr (n + 2) 0)]) [.yieldf (D + 1)] (expl σ n m1 M1 p (ord.map nn') (tl ++ .box [nn' s] :: (tl1 ++ lonY n σ.length (tl.length + 6) D s asg' body' .ready none))) (rangeQ (D + 1) _ _)
  have hsplit : ∀ m M p ord s' Y, expl σ n m M p ord (tl ++ .box [nn' s'] :: (tl1 ++ Y)) = expl σ n m M p ord (tl ++ .box [nn' s'] :: tl1) ++ Y := fun m M p ord s' Y => by rw [expl_app]; simp
  have hg1 : ∀ m M p ord s' a b Y, (expl σ n m M p ord (tl ++ .box [nn' s'] :: tl1) ++ a :: b :: Y)[D + 1]? = some b := fun m M p ord s' a b Y => by rw [← hDl m M p ord s', get_appn]; rfl
  have hs1 : ∀ m M p ord s' a b b' Y, (expl σ n m M p ord (tl ++ .box [nn' s'] :: tl1) ++ a :: b :: Y).set (D + 1) b' = expl σ n m M p ord (tl ++ .box [nn' s'] :: tl1) ++ a :: b' :: Y := fun m M p ord s' a b b' Y => by rw [← hDl m M p ord s', set_appn]; rfl
  have hg4 : ∀ m M p ord s' Y, (expl σ n m M p ord (tl ++ .box [nn' s'] :: tl1) ++ Y)[σ.length + (tl.length + 6)]? = some (.box [nn' s']) := fun m M p ord s' Y => by rw [List.getElem?_append_left (by rw [expl_len]; simp)]; exact expl_box _ _ _ _ _ _ _ _ _
  rw [hsplit]
  refine CallF.func B_cut_ship_can_1 ((can_1_spec hf hok _ s hs (D + 1) (fun i s' => ∃ m M, KnownOk t m ∧ MostOk t M ∧ s' = expl σ n m M p (ord.map nn') (tl ++ .box [nn' s] :: tl1) ++ lonY n σ.length (tl.length + 6) D s asg' body' .ready none ∧ (canU t s i).find? (nextP t s) = none)
    (fun s' => ∃ m M i, KnownOk t m ∧ MostOk t M ∧ nextT t s = some i ∧ s' = expl σ n m M (p + 1) ((ord ++ [i]).map nn') (tl ++ .box [nn' (rem1 s i)] :: tl1) ++ lonY n σ.length (tl.length + 6) D s asg' body' .done (some (.exit 2))) ?_ ?_ ?_ ?_ ?_).mono ?_)
  · rintro i s' ⟨m, M, hm, hM, rfl, _⟩
    exact (expl_most h hm hM _ _ _).ship.app
  · rintro i s' m' ⟨m, M, hm, hM, rfl, hn⟩ hm'
    refine ⟨m', M, hm', hM, ?_, hn⟩
    rw [List.set_append_left _ _ (by rw [expl_len]; omega), expl_setn (by omega)]
  · rintro i s' tl2 hi hw ⟨m2, M2, hm2, hM2, rfl, hn⟩ _
    have hpr := pop_rem1 s h128 i (by omega) (why_bit hw)
    have hle := mostT_le hf (rem1_lt (i := i) h128)
    have hms := mostT_le hf h128
    have hp7 := pop_le s h128
    have hwr : IntKind.i64.wrap ((mostT t s : Int) - 1) = (mostT t s : Int) - 1 := wrap_id (by omega) (by omega)
    refine CallV.round (e := lonE n σ.length (tl.length + 6) s) (D := D) (pend := none) ca cb hps (by simp [lonY, hg1]) rfl ?_
    refine awpC_sound _ ?_
    simp [putArgs, lonE, lonY, hg1]
    refine ⟨_, _, _, _, _, _, _, ⟨rfl, rfl, rfl, rfl, rfl, rfl, rfl⟩, ?_⟩
    refine awpC_sound _ ?_
    simp [hs1, hg4, findV]
    refine CallK.explS (p := p) (ord := ord.map nn') (A := tl ++ .box [nn' s] :: tl1) (by have := hfl (rem1 s i) hs.rem m2 M2 hm2 hM2 p (ord.map nn') (tl ++ .box [nn' s] :: tl1 ++ (.dfr :: .looprec 35 (lonE n σ.length (tl.length + 6) s) [18, 19] asg' body' D .busy none :: tl2)); rw [← expl_app] at this; exact this) (by omega) fun m3 M3 tl3 hm3 hM3 => ?_
    simp [hs1, hg4, findV]
    refine CallK.explS (p := p) (ord := ord.map nn') (A := tl ++ .box [nn' s] :: tl1) (by have := hfl s hs m3 M3 hm3 hM3 p (ord.map nn') (tl ++ .box [nn' s] :: tl1 ++ (.dfr :: .looprec 35 (lonE n σ.length (tl.length + 6) s) [18, 19] asg' body' D .busy none :: (tl2 ++ tl3))); rw [← expl_app] at this; exact this) (by omega) fun m4 M4 tl4 hm4 hM4 => ?_
    refine (Classical.em (mostT t (rem1 s i) + 1 = mostT t s)).elim (fun he => ?_) (fun he => ?_)
    · have heI : (mostT t (rem1 s i) : Int) = (mostT t s : Int) - 1 := by omega
      have hnx := nextT_first hf hs (by omega) hw hn (show nextP t s i = true by simp [nextP, he])
      have hg := hg1 m4 M4 (p + 1) ((ord ++ [i]).map nn') (rem1 s i) .dfr (.looprec 35 (lonE n σ.length (tl.length + 6) s) [18, 19] asg' body' D .busy none) (tl2 ++ (tl3 ++ tl4))
      have hsx := hs1 m4 M4 (p + 1) ((ord ++ [i]).map nn') (rem1 s i) .dfr (.looprec 35 (lonE n σ.length (tl.length + 6) s) [18, 19] asg' body' D .busy none) (.looprec 35 (lonE n σ.length (tl.length + 6) s) [18, 19] asg' body' D .done (some (.exit 2))) (tl2 ++ (tl3 ++ tl4))
      simp [hs1, hg4, findV, hwr, heI]
      simp [expl]
      refine ⟨by intro v hv; simp at hv; subst hv; exact ⟨⟨rfl, rfl⟩, rfl⟩, by omega, 35, lonE n σ.length (tl.length + 6) s, [18, 19], asg', body', D, .busy, none, by have h := hg; simp [expl, lonE, findV] at h; simp [lonE, findV, h], ?_⟩
      exact ⟨expl σ n m4 M4 (p + 1) ((ord ++ [i]).map nn') (tl ++ .box [nn' (rem1 s i)] :: tl1) ++ lonY n σ.length (tl.length + 6) D s asg' body' .done (some (.exit 2)), ⟨tl3 ++ tl4, by have h := hsx; simp [expl, lonE, lonY, findV] at h; simp [expl, lonE, lonY, findV, h]⟩, by simp [expl, lonY]; omega, .inr ⟨rfl, m4, hm4, M4, hM4, i, hnx, by simp [expl, lonY, lonE, findV]⟩⟩
    · have heI : ¬ (mostT t (rem1 s i) : Int) = (mostT t s : Int) - 1 := by omega
      have hall : ∀ x, x ∈ canU t s (i + 1) → nextP t s x = false := fun x hx => by
        rw [canU_succ, if_pos hw, List.mem_append, List.mem_singleton] at hx
        rcases hx with hx | rfl
        · simpa using List.find?_eq_none.1 hn x hx
        · simpa [nextP] using he
      simp [hs1, hg4, findV, hwr, heI]
      exact ⟨35, lonE n σ.length (tl.length + 6) s, [18, 19], asg', body', D, .busy, none, by simp [hg1, lonE, findV], expl σ n m4 M4 p (ord.map nn') (tl ++ .box [nn' s] :: tl1) ++ lonY n σ.length (tl.length + 6) D s asg' body' .ready none, ⟨tl3 ++ tl4, by simp [hs1, lonY, lonE, findV]⟩, by simp [lonY, expl_len], .inl ⟨rfl, m4, hm4, M4, hM4, by simp [lonY, lonE, findV], hall⟩⟩
  · rintro i s' hi hw ⟨m, M, hm, hM, rfl, hn⟩
    exact ⟨m, M, hm, hM, rfl, by rw [canU_succ, if_neg hw, List.append_nil]; exact hn⟩
  · exact ⟨m1, M1, hm1, hM1, rfl, by simp [canU]⟩
  · rintro r σ' ⟨rfl, s2, tl2, rfl, _, ⟨m2, M2, hm2, hM2, rfl, hn⟩ | ⟨m2, M2, i, hm2, hM2, hnx, rfl⟩⟩
    · have := next_none hf hs hn
      omega
    · have hi := nextT_some hf h128 hpos
      refine ⟨35, lonE n σ.length (tl.length + 6) s, [18, 19], asg', body', D, .done, some (.exit 2), by simp [lonY, hg1], by simp, ?_⟩
      simp only [lonY, hs1, List.append_assoc, List.cons_append, List.nil_append]
      simp [hg4, findV]
      obtain ⟨i', e1, e2, e3, e4⟩ := hi
      obtain rfl : i' = i := Option.some.inj (e1.symm.trans hnx)
      rw [longT_step e1 e4] at hlong
      refine ⟨mostT t (rem1 s i'), by omega, rem1 s i', m2, M2, p + 1, ord ++ [i'], tl ++ .box [nn' (rem1 s i')] :: (tl1 ++ .dfr :: .looprec 35 (lonE n σ.length (tl.length + 6) s) [18, 19] asg' body' D .exhausted (some (.exit 2)) :: tl2), (tl.length + (tl1.length + 1)) :: cs, ?_, ?_, hm2, hM2, hs.rem, ⟨by rw [expl_len]; simp; omega, by simp [collsB]; omega⟩, by simp [expl], by rw [hlong]; simp, rfl⟩
      · rw [List.nodup_cons]
        refine ⟨fun hc => ?_, hcn⟩
        have := (List.getElem?_eq_some_iff.1 (hcd _ hc)).1
        omega
      · intro c hc
        rcases List.mem_cons.1 hc with rfl | hc
        · simp
        · have := hcd c hc
          rw [List.getElem?_append_left (List.getElem?_eq_some_iff.1 this).1]; exact this
def firstL (t : TaskM) : List Nat := if (checkT t).2.2 = 0 ∧ t.ship.length ≤ (longU t (allT t)).length then longU t (allT t) else []
def firstE (t : TaskM) : Int := if (checkT t).2.2 ≠ 0 then (checkT t).2.2 else if (longU t (allT t)).length < t.ship.length then 9 else 0
def mostL (t : TaskM) : List Nat := if (checkT t).2.2 = 0 then longU t (allT t) else []
def listV (l : List Nat) (e : Int) : AVal := .tup [.slice 1 (l.map nn'), ii' e]
theorem listV_pure (l : List Nat) (e : Int) : (listV l e).pure = true := by simp [listV, AVal.pure, pures, pures_map (f := nn') (fun _ => rfl)]
theorem cut_Most_spec (t : TaskM) (hok : t.Ok) (σ : AHeap) : Spec Tryz.prog F_cut_Most [t.v] σ fun r σ' => r = .ret (listV (mostL t) (checkT t).2.2) ∧ σ' = σ := by
  refine Spec.pureFn (spec_cut_Most (by simp) (awpC_sound _ ?_)) (by simp [pures, t.pure]) (listV_pure _ _) σ
  simp [C_cut_Most, TaskM.v, TaskM.cells]
  refine CallK.spec B_cut_open (cut_open_spec t hok _) ?_
  rintro r σ' (⟨h1, rfl, tl, rfl⟩ | ⟨h1, rfl, tl, rfl⟩)
  · refine ⟨_, rfl, ?_⟩
    have hf := check_fit h1
    simp
    refine CallK.spec B_cut_ship_longest (longest_spec hf hok (n := 0) _ (opened_ship (σ := []) (known_nil t) tl)) ?_
    rintro r σ' ⟨rfl, _⟩
    refine ⟨_, rfl, ?_⟩
    simp [listV, mostL, h1]
  · refine ⟨_, rfl, ?_⟩
    simp [h1, listV, mostL]
theorem cut_First_spec (t : TaskM) (hok : t.Ok) (σ : AHeap) : Spec Tryz.prog F_cut_First [t.v] σ fun r σ' => r = .ret (listV (firstL t) (firstE t)) ∧ σ' = σ := by
  refine Spec.pureFn (spec_cut_First (by simp) (awpC_sound _ ?_)) (by simp [pures, t.pure]) (listV_pure _ _) σ
  simp [C_cut_First, TaskM.v, TaskM.cells]
  refine CallK.spec B_cut_open (cut_open_spec t hok _) ?_
  rintro r σ' (⟨h1, rfl, tl, rfl⟩ | ⟨h1, rfl, tl, rfl⟩)
  · refine ⟨_, rfl, ?_⟩
    have hf := check_fit h1
    have hsh := opened_ship (σ := []) (known_nil t) tl
    simp
    refine CallK.spec B_cut_ship_longest (longest_spec hf hok (n := 0) _ hsh) ?_
    rintro r σ' ⟨rfl, hm⟩
    refine ⟨_, rfl, ?_⟩
    have hs2 := (hsh.memo hm)
    obtain ⟨m', _, hsh'⟩ := hs2
    have hship := hsh'.ship
    simp at hship
    refine (Nat.lt_or_ge (longU t (allT t)).length t.ship.length).elim (fun hlt => ?_) (fun hge => ?_)
    · have hng : ¬ t.ship.length ≤ (longU t (allT t)).length := by omega
      simp [hship, hlt, listV, firstL, firstE, h1, hng]
    · have hng : ¬ (longU t (allT t)).length < t.ship.length := by omega
      simp [hship, hng, hge, listV, firstL, firstE, h1]
  · refine ⟨_, rfl, ?_⟩
    simp [h1, listV, firstL, firstE]
end Go.AM
namespace Go.AM
open Go.Proofs
set_option maxRecDepth 100000
set_option maxHeartbeats 1000000
def lexB : List Nat → List Nat → Bool
  | a :: r, b :: s => decide (a < b) || decide (a = b) && lexB r s
  | _, _ => false
def slB (a b : List Nat) : Prop := a.length < b.length ∨ a.length = b.length ∧ lexB a b = true
def slE (a b : List Nat) : Prop := a = b ∨ slB a b
theorem lexB_app : ∀ {a b : List Nat} {c d : List Nat}, a.length = b.length → lexB a b = true → lexB (a ++ c) (b ++ d) = true
  | [], [], _, _, _, h => by simp [lexB] at h
  | x :: r, y :: s, c, d, hl, h => by
    simp only [List.cons_append, lexB, Bool.or_eq_true, decide_eq_true_eq, Bool.and_eq_true] at h ⊢
    rcases h with h | ⟨rfl, h⟩
    · exact .inl h
    · exact .inr ⟨rfl, lexB_app (by simpa using hl) h⟩
theorem lexB_same : ∀ {a c d : List Nat}, lexB (a ++ c) (a ++ d) = lexB c d
  | [], _, _ => rfl
  | x :: r, c, d => by simp [lexB, lexB_same (a := r)]
theorem slB_push {a b : List Nat} {i j : Nat} (h : slB a b) : slB (a ++ [i]) (b ++ [j]) := by
  rcases h with h | ⟨h, g⟩
  · left; simp; omega
  · exact .inr ⟨by simp; omega, lexB_app h g⟩
theorem slB_last {a : List Nat} {i j : Nat} (h : i < j) : slB (a ++ [i]) (a ++ [j]) := .inr ⟨by simp, by rw [lexB_same]; simp [lexB, h]⟩
theorem slB_nil {a : List Nat} {i : Nat} : slB [] (a ++ [i]) := by left; simp
abbrev Place := Nat × List Nat
def pushB (q : Place) (Q : List Place) (i : Nat) : List Place := if Q.any (·.1 == rem1 q.1 i) then Q else Q ++ [(rem1 q.1 i, q.2 ++ [i])]
def roundB (t : TaskM) (Q : List Place) (q : Place) : List Place := (canL t q.1).foldl (pushB q) Q
structure BfsI (t : TaskM) (n : Nat) (Q : List Place) (q : Option Place) (pre : List Nat) : Prop where
  root : Q[0]? = some (allT t, [])
  go : ∀ p ∈ Q, goT t p.2 (allT t) = some p.1
  sorted : Q.Pairwise fun a b => slB a.2 b.2
  nodup : Q.Pairwise fun a b => a.1 ≠ b.1
  closed : ∀ (j : Nat) (x : Place), j < n → Q[j]? = some x → ∀ i ∈ canL t x.1, ∃ p ∈ Q, p.1 = rem1 x.1 i ∧ slE p.2 (x.2 ++ [i])
  closedq : ∀ x, q = some x → Q[n]? = some x ∧ (∀ i ∈ pre, i ∈ canL t x.1 ∧ ∃ p ∈ Q, p.1 = rem1 x.1 i ∧ slE p.2 (x.2 ++ [i]))
  from_ : ∀ p ∈ Q, p.2 = [] ∨ (∃ j x i, j < n ∧ Q[j]? = some x ∧ p.2 = x.2 ++ [i]) ∨ ∃ x, q = some x ∧ ∃ i ∈ pre, p.2 = x.2 ++ [i]
theorem bfs_push {t : TaskM} {n : Nat} {Q : List Place} {q : Place} {pre : List Nat} {i : Nat} (h : BfsI t n Q (some q) pre) (hi : i ∈ canL t q.1) (hlt : ∀ k ∈ pre, k < i) : BfsI t n (pushB q Q i) (some q) (pre ++ [i]) ∧ Q <+: pushB q Q i := by
  have hq := (h.closedq q rfl).1
  have hqm : q ∈ Q := List.mem_of_getElem? hq
  have hs : ∀ p ∈ Q, slB p.2 (q.2 ++ [i]) := fun p hp => by
    rcases h.from_ p hp with e | ⟨j, x, k, h1, h2, e⟩ | ⟨x, h1, k, h2, e⟩
    · rw [e]; exact slB_nil
    · rw [e]
      refine slB_push ?_
      have hj := List.pairwise_iff_getElem.1 h.sorted j n (by rw [List.getElem?_eq_some_iff] at h2; exact h2.1) (by rw [List.getElem?_eq_some_iff] at hq; exact hq.1) h1
      rw [(List.getElem?_eq_some_iff.1 h2).2, (List.getElem?_eq_some_iff.1 hq).2] at hj
      exact hj
    · cases h1
      rw [e]
      exact slB_last (hlt k h2)
  unfold pushB
  split
  · rename_i ha
    refine ⟨⟨h.root, h.go, h.sorted, h.nodup, h.closed, ?_, ?_⟩, List.prefix_refl _⟩
    · rintro x ⟨⟩
      refine ⟨hq, fun k hk => ?_⟩
      rcases List.mem_append.1 hk with hk | hk
      · exact (h.closedq q rfl).2 k hk
      · rw [List.mem_singleton] at hk
        subst hk
        obtain ⟨p, hp, e⟩ := List.any_eq_true.1 ha
        exact ⟨hi, p, hp, by simpa using e, .inr (hs p hp)⟩
    · intro p hp
      rcases h.from_ p hp with e | e | ⟨x, h1, k, h2, e⟩
      · exact .inl e
      · exact .inr (.inl e)
      · exact .inr (.inr ⟨x, h1, k, by simp [h2], e⟩)
  · rename_i ha
    have hnew : ∀ p ∈ Q, p.1 ≠ rem1 q.1 i := fun p hp e => ha (List.any_eq_true.2 ⟨p, hp, by simpa using e⟩)
    have hget : ∀ {j : Nat} {x : Place}, Q[j]? = some x → (Q ++ [(rem1 q.1 i, q.2 ++ [i])])[j]? = some x := fun {j x} hx => by
      rw [List.getElem?_append_left (List.getElem?_eq_some_iff.1 hx).1]; exact hx
    refine ⟨⟨hget h.root, ?_, ?_, ?_, ?_, ?_, ?_⟩, List.prefix_append _ _⟩
    · intro p hp
      rcases List.mem_append.1 hp with hp | hp
      · exact h.go p hp
      · rw [List.mem_singleton] at hp
        subst hp
        show goT t (q.2 ++ [i]) (allT t) = some (rem1 q.1 i)
        rw [goT_app, h.go q hqm]
        show goT t [i] q.1 = _
        rw [goT, if_pos (canL_mem.1 hi)]; rfl
    · rw [List.pairwise_append]
      exact ⟨h.sorted, List.pairwise_singleton _ _, fun a ha b hb => by rw [List.mem_singleton] at hb; subst hb; exact hs a ha⟩
    · rw [List.pairwise_append]
      exact ⟨h.nodup, List.pairwise_singleton _ _, fun a ha b hb => by rw [List.mem_singleton] at hb; subst hb; exact hnew a ha⟩
    · intro j x hj hx k hk
      have hjl : j < Q.length := Nat.lt_trans hj (List.getElem?_eq_some_iff.1 hq).1
      rw [List.getElem?_append_left hjl] at hx
      obtain ⟨p, hp, e⟩ := h.closed j x hj hx k hk
      exact ⟨p, by simp [hp], e⟩
    · rintro x ⟨⟩
      refine ⟨hget hq, fun k hk => ?_⟩
      rcases List.mem_append.1 hk with hk | hk
      · obtain ⟨g1, p, hp, e⟩ := (h.closedq q rfl).2 k hk
        exact ⟨g1, p, by simp [hp], e⟩
      · rw [List.mem_singleton] at hk
        subst hk
        exact ⟨hi, _, List.mem_append.2 (.inr (List.mem_singleton.2 rfl)), rfl, .inl rfl⟩
    · intro p hp
      rcases List.mem_append.1 hp with hp | hp
      · rcases h.from_ p hp with e | ⟨j, x, k, h1, h2, e⟩ | ⟨x, h1, k, h2, e⟩
        · exact .inl e
        · exact .inr (.inl ⟨j, x, k, h1, hget h2, e⟩)
        · exact .inr (.inr ⟨x, h1, k, by simp [h2], e⟩)
      · rw [List.mem_singleton] at hp
        subst hp
        exact .inr (.inr ⟨q, rfl, i, by simp, rfl⟩)
theorem bfs_fold {t : TaskM} {n : Nat} {q : Place} : ∀ {l pre : List Nat} {Q : List Place}, BfsI t n Q (some q) pre → (∀ i ∈ l, i ∈ canL t q.1) → (∀ i ∈ l, ∀ k ∈ pre, k < i) → l.Pairwise (· < ·) → BfsI t n (l.foldl (pushB q) Q) (some q) (pre ++ l) ∧ Q <+: l.foldl (pushB q) Q
  | [], pre, Q, h, _, _, _ => by rw [List.append_nil]; exact ⟨h, List.prefix_refl _⟩
  | i :: l, pre, Q, h, h1, h2, h3 => by
    obtain ⟨g1, g2⟩ := bfs_push h (h1 i (by simp)) (h2 i (by simp))
    rw [List.pairwise_cons] at h3
    obtain ⟨g3, g4⟩ := bfs_fold (l := l) g1 (fun k hk => h1 k (by simp [hk])) (fun k hk j hj => by
      rcases List.mem_append.1 hj with hj | hj
      · exact h2 k (by simp [hk]) j hj
      · rw [List.mem_singleton] at hj; subst hj; exact h3.1 k hk) h3.2
    rw [List.append_assoc] at g3
    exact ⟨g3, g2.trans g4⟩
theorem canL_sorted (t : TaskM) (s : Nat) : (canL t s).Pairwise (· < ·) := List.Pairwise.filter _ List.pairwise_lt_range
theorem bfs_round {t : TaskM} {n : Nat} {Q : List Place} {q : Place} (h : BfsI t n Q none []) (hq : Q[n]? = some q) : BfsI t (n + 1) (roundB t Q q) none [] ∧ Q <+: roundB t Q q := by
  have h0 : BfsI t n Q (some q) [] := ⟨h.root, h.go, h.sorted, h.nodup, h.closed, fun x e => by cases e; exact ⟨hq, fun i hi => absurd hi (by simp)⟩, fun p hp => by
    rcases h.from_ p hp with e | e | ⟨x, h1, _⟩
    · exact .inl e
    · exact .inr (.inl e)
    · cases h1⟩
  obtain ⟨g, g2⟩ := bfs_fold (l := canL t q.1) h0 (fun i hi => hi) (fun _ _ k hk => absurd hk (by simp)) (canL_sorted t q.1)
  rw [List.nil_append] at g
  refine ⟨⟨g.root, g.go, g.sorted, g.nodup, ?_, fun x e => (by cases e), ?_⟩, g2⟩
  · intro j x hj hx i hi
    rcases Nat.lt_or_ge j n with h1 | h1
    · exact g.closed j x h1 hx i hi
    · have : j = n := by omega
      subst this
      have hx' := (g.closedq q rfl).1
      have : x = q := by
        have := hx.symm.trans hx'
        cases this; rfl
      subst this
      exact ((g.closedq x rfl).2 i hi).2
  · intro p hp
    rcases g.from_ p hp with e | ⟨j, x, k, h1, h2, e⟩ | ⟨x, h1, k, h2, e⟩
    · exact .inl e
    · exact .inr (.inl ⟨j, x, k, by omega, h2, e⟩)
    · cases h1
      exact .inr (.inl ⟨n, q, k, by omega, (g.closedq q rfl).1, e⟩)
theorem bfs_zero (t : TaskM) : BfsI t 0 [(allT t, [])] none [] := ⟨rfl, fun p hp => by rw [List.mem_singleton] at hp; subst hp; rfl, List.pairwise_singleton _ _, List.pairwise_singleton _ _, fun _ _ h => absurd h (by omega), fun _ e => by (cases e), fun p hp => by rw [List.mem_singleton] at hp; subst hp; exact .inl rfl⟩
def bfsF (t : TaskM) : Nat → Nat → List Place → List Place
  | 0, _, Q => Q
  | k + 1, n, Q => match Q[n]? with
    | some q => bfsF t k (n + 1) (roundB t Q q)
    | none => Q
def bfsT (t : TaskM) : List Place := bfsF t 129 0 [(allT t, [])]
theorem nodup_len : ∀ {l m : List Nat}, l.Nodup → (∀ x ∈ l, x ∈ m) → l.length ≤ m.length
  | [], _, _, _ => by simp
  | x :: r, m, h, hs => by
    rw [List.nodup_cons] at h
    have hx := hs x (by simp)
    have := nodup_len (l := r) (m := m.erase x) h.2 (fun y hy => (List.mem_erase_of_ne (fun e => h.1 (by rw [← e]; exact hy))).2 (hs y (by simp [hy])))
    rw [List.length_erase_of_mem hx] at this
    have := List.length_pos_of_mem hx
    rw [List.length_cons]; omega
theorem nodup_bound {l : List Nat} {n : Nat} (h : l.Nodup) (hb : ∀ x ∈ l, x < n) : l.length ≤ n := by
  have := nodup_len (m := List.range n) h (fun x hx => List.mem_range.2 (hb x hx))
  simpa using this
theorem bfs_len {t : TaskM} (hf : t.Fit) {n : Nat} {Q : List Place} {q : Option Place} {pre : List Nat} (h : BfsI t n Q q pre) : Q.length ≤ 128 := by
  have := nodup_bound (l := Q.map (·.1)) (n := 128) (by rw [List.Nodup, List.pairwise_map]; exact h.nodup) (fun x hx => by
    obtain ⟨p, hp, rfl⟩ := List.mem_map.1 hx
    exact (goT_pop hf (allT_lt hf) (h.go p hp)).1)
  simpa using this
theorem bfsF_inv {t : TaskM} (hf : t.Fit) : ∀ {k n : Nat} {Q : List Place}, BfsI t n Q none [] → n ≤ Q.length → 128 < n + k → BfsI t (bfsF t k n Q).length (bfsF t k n Q) none [] ∧ Q <+: bfsF t k n Q
  | 0, n, Q, h, hn, hk => by
    have := bfs_len hf h
    exfalso; omega
  | k + 1, n, Q, h, hn, hk => by
    rw [bfsF]
    cases hq : Q[n]? with
    | none =>
      have : n = Q.length := by have := List.getElem?_eq_none_iff.1 hq; omega
      subst this
      exact ⟨h, List.prefix_refl _⟩
    | some q =>
      obtain ⟨g1, g2⟩ := bfs_round h hq
      have := bfs_len hf h
      have hlt := (List.getElem?_eq_some_iff.1 hq).1
      obtain ⟨g3, g4⟩ := bfsF_inv hf (k := k) g1 (by have := g2.length_le; omega) (by omega)
      exact ⟨g3, g2.trans g4⟩
theorem bfsT_inv {t : TaskM} (hf : t.Fit) : BfsI t (bfsT t).length (bfsT t) none [] := (bfsF_inv hf (bfs_zero t) (by simp) (by omega)).1
end Go.AM
namespace Go.AM
open Go.Proofs
set_option maxRecDepth 100000
set_option maxHeartbeats 1000000
def placeV (q : Place) : AVal := .agg [nn' q.1, .slice 1 (q.2.map nn')]
structure SeenOk (Q : List Place) (N : List (Nat × Int)) (bound : Int) : Prop where
  none_ : ∀ k, getN k N = none ↔ ∀ q ∈ Q, q.1 ≠ k
  some_ : ∀ k v, getN k N = some v → 1 ≤ v ∧ v ≤ bound
theorem seen_zero (a : Nat) : SeenOk [(a, [])] (putN a 1 []) 1 := by
  refine ⟨fun k => ?_, fun k v h => ?_⟩
  · simp [putN, getN]
  · simp [putN, getN] at h
    omega
theorem seen_push {Q : List Place} {N : List (Nat × Int)} {bound : Int} (h : SeenOk Q N bound) (hb : 1 ≤ bound) (q : Place) (i : Nat) :
    SeenOk (pushB q Q i) (putN (rem1 q.1 i) ((getN (rem1 q.1 i) N).getD 0 + 1) N) (bound + 1) ∧ (getN (rem1 q.1 i) N = none → pushB q Q i = Q ++ [(rem1 q.1 i, q.2 ++ [i])]) ∧ (∀ v, getN (rem1 q.1 i) N = some v → 1 ≤ v ∧ v ≤ bound ∧ pushB q Q i = Q) := by
  have h1 : getN (rem1 q.1 i) N = none → pushB q Q i = Q ++ [(rem1 q.1 i, q.2 ++ [i])] := fun e => by
    have := (h.none_ _).1 e
    unfold pushB
    rw [if_neg]
    intro ha
    obtain ⟨p, hp, e2⟩ := List.any_eq_true.1 ha
    exact this p hp (by simpa using e2)
  have h2 : ∀ v, getN (rem1 q.1 i) N = some v → 1 ≤ v ∧ v ≤ bound ∧ pushB q Q i = Q := fun v e => by
    obtain ⟨g1, g2⟩ := h.some_ _ v e
    refine ⟨g1, g2, ?_⟩
    unfold pushB
    rw [if_pos]
    apply Classical.byContradiction
    intro hn
    have : getN (rem1 q.1 i) N = none := (h.none_ _).2 fun p hp e3 => hn (List.any_eq_true.2 ⟨p, hp, by simpa using e3⟩)
    rw [this] at e; cases e
  refine ⟨⟨fun k => ?_, fun k v hv => ?_⟩, h1, h2⟩
  · rw [getN_put]
    by_cases hk : rem1 q.1 i = k
    · rw [if_pos hk]
      constructor
      · intro e; cases e
      · intro hall
        exfalso
        cases hg : getN (rem1 q.1 i) N with
        | none =>
          rw [h1 hg] at hall
          exact hall _ (List.mem_append.2 (.inr (List.mem_singleton.2 rfl))) hk
        | some v =>
          rw [(h2 v hg).2.2] at hall
          have := (h.none_ k).2 hall
          rw [← hk, hg] at this; cases this
    · rw [if_neg hk, h.none_]
      cases hg : getN (rem1 q.1 i) N with
      | none =>
        rw [h1 hg]
        constructor
        · intro hall p hp
          rcases List.mem_append.1 hp with hp | hp
          · exact hall p hp
          · rw [List.mem_singleton] at hp; subst hp; exact hk
        · intro hall p hp
          exact hall p (List.mem_append.2 (.inl hp))
      | some v => rw [(h2 v hg).2.2]
  · rw [getN_put] at hv
    split at hv
    · cases hg : getN (rem1 q.1 i) N with
      | none => rw [hg] at hv; simp at hv; omega
      | some w =>
        obtain ⟨g1, g2, _⟩ := h2 w hg
        rw [hg] at hv; simp at hv; omega
    · obtain ⟨g1, g2⟩ := h.some_ k v hv
      omega
def roundU (t : TaskM) (Q : List Place) (q : Place) (i : Nat) : List Place := (canU t q.1 i).foldl (pushB q) Q
theorem roundU_succ (t : TaskM) (Q : List Place) (q : Place) (i : Nat) : roundU t Q q (i + 1) = if whyT t q.1 i = 0 then pushB q (roundU t Q q i) i else roundU t Q q i := by
  unfold roundU
  rw [canU_succ]
  split
  · rw [List.foldl_append]; rfl
  · rw [List.append_nil]
theorem roundU_all {t : TaskM} (hf : t.Fit) (Q : List Place) {q : Place} (hs : Sub t q.1) : roundU t Q q 7 = roundB t Q q := by
  unfold roundU roundB; rw [canU_all hf hs]
theorem push_prefix (q : Place) (Q : List Place) (i : Nat) : Q <+: pushB q Q i := by
  unfold pushB
  split
  · exact List.prefix_refl _
  · exact List.prefix_append _ _
theorem roundU_prefix (t : TaskM) (Q : List Place) (q : Place) : ∀ i, Q <+: roundU t Q q i
  | 0 => List.prefix_refl _
  | i + 1 => by
    rw [roundU_succ]
    split
    · exact (roundU_prefix t Q q i).trans (push_prefix _ _ _)
    · exact roundU_prefix t Q q i
end Go.AM
namespace Go.AM
open Go.Proofs
set_option maxRecDepth 100000
theorem slices_Clone_int_own (xs : List AVal) (hf : Fits 1 xs) (hl : xs.length * 8 ≤ 140737488355328) (σ : AHeap) :
    Spec Tryz.prog F_slices_Clone_int_int [.slice 1 xs] σ fun r σ' => r = .ret (.oslice 1 xs σ.length 1) ∧ σ' = σ ++ [.spare 1 1] := by
  refine spec_slices_Clone_int_int (by simp) (awpC_sound _ ?_)
  simp [C_slices_Clone_int_int, hf, hl]
end Go.AM
