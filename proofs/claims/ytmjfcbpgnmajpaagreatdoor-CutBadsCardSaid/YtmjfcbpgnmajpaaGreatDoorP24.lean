/- The sets that are left behind good orders, one after the other: of the program, the walk. To: of the program. Proof: of the program, where there are at most twelve sets. Proves: of the program. .. -/
import Derived.Test.YtmjfcbpgnmajpaaGreatDoorP23
namespace Go.AM
open Go.Proofs
set_option maxRecDepth 100000
set_option maxHeartbeats 1000000
theorem bfsF_some {t : TaskM} {k n : Nat} {Q : List Place} {q : Place} (h : Q[n]? = some q) : bfsF t (k + 1) n Q = bfsF t k (n + 1) (roundB t Q q) := by rw [bfsF, h]
theorem bfsF_none {t : TaskM} {k n : Nat} {Q : List Place} (h : Q[n]? = none) : bfsF t (k + 1) n Q = Q := by rw [bfsF, h]
def collsO (B o : Nat) (cs : List Nat) : List ADef := cs.map fun c => .coll (B + (c + o))
theorem off_baseO {B o : Nat} {S : AHeap} (hS : S.length = B + o) {K : AHeap → Prop} (hK : ∀ X, K (S ++ X)) : ∀ (cs : List Nat) (X : AHeap), cs.Nodup → (∀ c ∈ cs, X[c]? = some .dfr) → offColls (collsO B o cs) (S ++ X) K
  | [], X, _, _ => hK X
  | c :: cs, X, hn, hc => by
    have h1 : (S ++ X)[B + (c + o)]? = some .dfr := by
      rw [show B + (c + o) = S.length + c by omega, get_appn]; exact hc c (by simp)
    have h2 : (S ++ X).set (B + (c + o)) .dead = S ++ X.set c .dead := by
      rw [show B + (c + o) = S.length + c by omega, set_appn]
    rw [List.nodup_cons] at hn
    show (match (S ++ X).get (B + (c + o)) with
      | .dfr => offColls (collsO B o cs) ((S ++ X).set (B + (c + o)) .dead) K
      | _ => False)
    unfold AHeap.get
    rw [List.getD_eq_getElem?_getD, h1, h2]
    refine off_baseO hS hK cs _ hn.2 fun d hd => ?_
    have hne : c ≠ d := fun e => hn.1 (by rw [e]; exact hd)
    rw [List.getElem?_set_ne hne]
    exact hc d (by simp [hd])
def ordW (l : List Nat) (w : AVal) : Prop := w = .slice 1 (l.map nn') ∨ ∃ b k, w = .oslice 1 (l.map nn') b k
theorem ordW.facts {l : List Nat} {w : AVal} (h : ordW l w) : w.strip = w ∧ w.cond = true ∧ w.scal = true ∧ w.fine = true ∧ w.cells = [w] ∧ w.unmint = w ∧ w.down = .slice 1 (l.map nn') ∧ w.deown = .slice 1 (l.map nn') := by
  rcases h with rfl | ⟨b, k, rfl⟩ <;> exact ⟨rfl, rfl, rfl, rfl, rfl, rfl, rfl, rfl⟩
def lineV (x : Place × AVal) : AVal := .agg [nn' x.1.1, x.2]
structure LineOk (Q : List Place) (P : List (Place × AVal)) : Prop where
  fst : P.map (·.1) = Q
  ord : ∀ x ∈ P, ordW x.1.2 x.2
theorem SeenOk.mono {Q : List Place} {N : List (Nat × Int)} {b b' : Int} (h : SeenOk Q N b) (hb : b ≤ b') : SeenOk Q N b' := ⟨h.none_, fun k v e => by have := h.some_ k v e; omega⟩
def reaO (B : Nat) (N : List (Nat × Int)) (p : Nat) (L : List AVal) (A T : AHeap) : AHeap := .amap (mapN N) :: .dead :: .spare 2 p :: (A ++ .box [.oslice 2 L (B + 2) p] :: .dead :: T)
def reaE (b n B a : Nat) (q : Place) (w : AVal) : Env := [(0, .yieldf b), (1, .pval (.ptr (n + 2) 0)), (3, .pval (.map B)), (4, .ptr (B + (a + 3)) 0), (5, .pval (.agg [nn' q.1, w])), (31, .func (.func F_cut_ship_can_1) [] [.pval (nn' q.1), .pval (.ptr (n + 2) 0)])]
def reaY (b n B a D : Nat) (q : Place) (w : AVal) (asg body : Code) (st : LoopState) (pd : Option Code) : AHeap := [.dfr, .looprec 54 (reaE b n B a q w) [32, 33] asg body D st pd]
section
variable {s3 A T Y : AHeap} {B D p : Nat} {N : List (Nat × Int)} {L : List AVal}
theorem rea_len (h : s3.length = B) : (s3 ++ reaO B N p L A T).length = B + (A.length + (T.length + 5)) := by simp [reaO, h]; omega
theorem rea_g1 (h : s3.length = B) (hD : B + (A.length + (T.length + 5)) = D) {a b : AObj} : (s3 ++ (reaO B N p L A T ++ a :: b :: Y))[D + 1]? = some b := by
  rw [← List.append_assoc, ← hD, ← rea_len (N := N) (p := p) (L := L) h, get_appn]; rfl
theorem rea_s1 (h : s3.length = B) (hD : B + (A.length + (T.length + 5)) = D) {a b b' : AObj} : (s3 ++ (reaO B N p L A T ++ a :: b :: Y)).set (D + 1) b' = s3 ++ (reaO B N p L A T ++ a :: b' :: Y) := by
  rw [← List.append_assoc, ← hD, ← rea_len (N := N) (p := p) (L := L) h, set_appn, List.append_assoc]; rfl
theorem rea_gm (h : s3.length = B) : (s3 ++ (reaO B N p L A T ++ Y))[B]? = some (.amap (mapN N)) := by subst h; simp [reaO]
theorem rea_sm (h : s3.length = B) {N' : List (Nat × Int)} : (s3 ++ (reaO B N p L A T ++ Y)).set B (.amap (mapN N')) = s3 ++ (reaO B N' p L A T ++ Y) := by subst h; simp [reaO]
theorem rea_g4 (h : s3.length = B) : (s3 ++ (reaO B N p L A T ++ Y))[B + (A.length + 3)]? = some (.box [.oslice 2 L (B + 2) p]) := by subst h; simp [reaO]
theorem rea_push (h : s3.length = B) {L' : List AVal} : ((s3 ++ (reaO B N p L A T ++ Y)).set (B + 2) (.spare 2 (p + 1))).set (B + (A.length + 3)) (.box [.oslice 2 L' (B + 2) (p + 1)]) = s3 ++ (reaO B N (p + 1) L' A T ++ Y) := by subst h; simp [reaO]
theorem rea_end1 (h : s3.length = B) {Z : AHeap} {a b o y : AObj} : ((s3 ++ (reaO B N p L A T ++ a :: b :: (Z ++ [o]))).set (B + 2) y)[s3.length + ((reaO B N p L A T).length + (Z.length + 1 + 1))]? = some o := by
  rw [List.getElem?_set_ne (by simp [reaO] <;> omega)]
  have e : s3 ++ (reaO B N p L A T ++ a :: b :: (Z ++ [o])) = (s3 ++ (reaO B N p L A T ++ a :: b :: Z)) ++ [o] := by simp
  rw [e, List.getElem?_append_right (by simp <;> omega)]
  simp <;> omega
theorem rea_end3 (h : s3.length = B) {Z : AHeap} {a b o y : AObj} (hK : s3.length + ((reaO B N p L A T).length + (Z.length + 1 + 1)) < ((s3 ++ (reaO B N p L A T ++ a :: b :: (Z ++ [o]))).set (B + 2) y).length) : ((s3 ++ (reaO B N p L A T ++ a :: b :: (Z ++ [o]))).set (B + 2) y)[s3.length + ((reaO B N p L A T).length + (Z.length + 1 + 1))] = o :=
  Option.some.inj ((List.getElem?_eq_getElem hK).symm.trans (rea_end1 h))
theorem rea_end2 (h : s3.length = B) {Z : AHeap} {a b o o' y : AObj} : ((s3 ++ (reaO B N p L A T ++ a :: b :: (Z ++ [o]))).set (B + 2) y).set (s3.length + ((reaO B N p L A T).length + (Z.length + 1 + 1))) o' = s3 ++ .amap (mapN N) :: .dead :: y :: (A ++ .box [.oslice 2 L (B + 2) p] :: .dead :: (T ++ a :: b :: (Z ++ [o']))) := by
  have e : s3 ++ (reaO B N p L A T ++ a :: b :: (Z ++ [o])) = (s3 ++ (reaO B N p L A T ++ a :: b :: Z)) ++ [o] := by simp
  rw [List.set_comm _ _ (by simp [reaO] <;> omega), e, List.set_append_right _ _ (by simp <;> omega)]
  have e2 : s3.length + ((reaO B N p L A T).length + (Z.length + 1 + 1)) - (s3 ++ (reaO B N p L A T ++ a :: b :: Z)).length = 0 := by simp <;> omega
  rw [e2]
  subst h
  simp [reaO]
theorem rea_gp (h : s3.length = B) : (s3 ++ (reaO B N p L A T ++ Y))[B + 2]? = some (.spare 2 p) := by subst h; simp [reaO]
end
theorem roundU_len (t : TaskM) (Q : List Place) (q : Place) : ∀ i, (roundU t Q q i).length ≤ Q.length + i
  | 0 => Nat.le_refl _
  | i + 1 => by
    have ih := roundU_len t Q q i
    rw [roundU_succ]
    split
    · unfold pushB
      split
      · omega
      · rw [List.length_append]; simp; omega
    · omega
theorem reached_1_spec {t : TaskM} (hf : t.Fit) (hok : t.Ok) {n : Nat} (σ : AHeap) (b : Nat) (J : Nat → AHeap → Prop) (Stop : AHeap → Prop)
    (hJ : ∀ j s', J j s' → ShipI t n s')
    (hm : ∀ j s' m, J j s' → KnownOk t m → J j (s'.set (n + 1) (.amap (mapN m))))
    (hy : ∀ j q s' tl, (bfsT t)[j]? = some q → J j s' → s'.length = σ.length →
      CallV Tryz.prog (.yieldf b) [placeV q] (s' ++ tl) fun r σ' => ∃ s'' tl', σ' = s'' ++ tl ++ tl' ∧ s''.length = σ.length ∧ ((r = .ret (.bool true) ∧ J (j + 1) s'') ∨ (r = .ret (.bool false) ∧ Stop s'')))
    (h0 : J 0 σ) :
    Spec Tryz.prog F_cut_ship_reached_1 [.yieldf b, .pval (.ptr (n + 2) 0)] σ fun r σ' => r = .ret (.tup []) ∧ ∃ s' tl, σ' = s' ++ tl ∧ s'.length = σ.length ∧ (J (bfsT t).length s' ∨ Stop s') := by
  have h7 := hf.ship7
  have hsh := hJ 0 σ h0
  obtain ⟨m0, hm0, hsa⟩ := id hsh
  have hsa' : ∀ X, ShipAt t n (σ ++ X) (mapN m0) := fun X => by
    have hl := hsh.len
    exact ⟨by rw [List.getElem?_append_left (by omega)]; exact hsa.above, by rw [List.getElem?_append_left (by omega)]; exact hsa.known, by rw [List.getElem?_append_left (by omega)]; exact hsa.ship⟩
  refine spec_cut_ship_reached_1 (by simp) (awpC_sound _ ?_)
  simp [C_cut_ship_reached_1]
  refine CallK.pure B_cut_ship_all (all_spec hf (hsa' _)) ?_
  have hk0 : keysOk .i (nn' (allT t)) [] = true := rfl
  have hp0 : mapPut (nn' (allT t)) (ii' 1) [] = mapN (putN (allT t) 1 []) := rfl
  simp [hk0, hp0]
  refine CallK.pure B_cut_ship_all (all_spec hf (hsa' _)) ?_
  simp
  refine AW.loop (ι := Nat) (fun d fr σ1 => ∃ (j : Nat) (Q : List Place) (N : List (Nat × Int)) (p : Nat) (s' tl : AHeap) (cs : List Nat) (P : List (Place × AVal)), LineOk (Q.drop j) P ∧ fr = { v := [(0, .yieldf b), (1, .pval (.ptr (n + 2) 0)), (3, .pval (.map σ.length)), (4, .ptr (σ.length + (tl.length + 3)) 0)], ds := collsO σ.length 3 cs } ∧
      σ1 = s' ++ (.amap (mapN N) :: .dead :: .spare 2 p :: (tl ++ [.box [.oslice 2 (P.map lineV) (σ.length + 2) p]])) ∧ s'.length = σ.length ∧ J j s' ∧ BfsI t j Q none [] ∧ j ≤ Q.length ∧ bfsF t (129 - j) j Q = bfsT t ∧ SeenOk Q N (1 + 8 * (j : Int)) ∧ cs.Nodup ∧ (∀ c ∈ cs, tl[c]? = some .dfr) ∧ d = 129 - j) (fun d => d) 129
    ⟨0, [(allT t, [])], putN (allT t) 1 [], 0, σ, [], [], [((allT t, []), .slice 1 [])], ⟨rfl, by intro x hx; simp at hx; subst hx; exact .inl rfl⟩, by simp [collsO], by simp [lineV, putN, mapN], rfl, h0, bfs_zero t, by simp, rfl, seen_zero _, by simp, (fun _ h => by cases h), rfl⟩ ?_
  rintro d fr σ1 ⟨j, Q, N, p, s', tl, cs, P, hP, rfl, rfl, hsl, hJj, hI, hjQ, hbf, hsn, hcn, hcd, rfl⟩
  have hQl := bfs_len hf hI
  rw [← hsl]
  refine (Nat.lt_or_ge j Q.length).elim (fun hlt => ?_) (fun hge => ?_)
  rotate_left
  · have hjq : j = Q.length := by omega
    have hd : Q.drop j = [] := List.drop_eq_nil_of_le hge
    have hbT : bfsT t = Q := by
      rw [← hbf, show 129 - j = (128 - j) + 1 by omega, bfsF_none (List.getElem?_eq_none hge)]
    have hP0 : P = [] := List.map_eq_nil_iff.1 (hP.fst.trans hd)
    subst hP0
    refine awpC_sound _ ?_
    simp
    have e : s' ++ AObj.amap (mapN N) :: AObj.dead :: AObj.spare 2 p :: (tl ++ [AObj.box [AVal.oslice 2 [] (s'.length + 2) p]]) = (s' ++ [.amap (mapN N), .dead, .spare 2 p]) ++ (tl ++ [.box [.oslice 2 [] (s'.length + 2) p]]) := by simp
    rw [e]
    refine off_baseO (by simp) (fun X => ⟨s', ⟨[.amap (mapN N), .dead, .spare 2 p] ++ X, by simp⟩, rfl, .inl (by rw [hbT, ← hjq]; exact hJj)⟩) cs _ hcn fun c hc => ?_
    have := hcd c hc
    rw [List.getElem?_append_left (List.getElem?_eq_some_iff.1 this).1]; exact this
  have hd : Q.drop j = Q[j] :: Q.drop (j + 1) := List.drop_eq_getElem_cons hlt
  obtain ⟨q, hq⟩ : ∃ q, Q[j] = q := ⟨_, rfl⟩
  have hq' : Q[j]? = some q := by rw [List.getElem?_eq_getElem hlt, hq]
  have hbf2 : bfsF t (129 - (j + 1)) (j + 1) (roundB t Q q) = bfsT t := by
    rw [← hbf, show 129 - j = (129 - (j + 1)) + 1 by omega, bfsF_some hq']
  obtain ⟨hI2, hpre⟩ := bfs_round hI hq'
  have hbq : (bfsT t)[j]? = some q := by
    have h1 := (bfsF_inv hf (k := 129 - (j + 1)) hI2 (by have := hpre.length_le; omega) (by omega)).2
    rw [hbf2] at h1
    obtain ⟨r, hr⟩ := hpre.trans h1
    rw [← hr, List.getElem?_append_left hlt]; exact hq'
  have hgo := hI.go q (List.mem_of_getElem? hq')
  have hqs : Sub t q.1 := goT_sub hgo (Sub.all t)
  have hq2 : q.2.length ≤ 7 := by
    have := (goT_pop hf (allT_lt hf) hgo).2
    have := pop_le _ (allT_lt hf)
    omega
  have hPc : ∃ w P', P = (q, w) :: P' ∧ P'.map (·.1) = Q.drop (j + 1) := by
    have h1 := hP.fst
    rw [hd, hq] at h1
    cases P with
    | nil => cases h1
    | cons x P' =>
      rw [List.map_cons] at h1
      obtain ⟨h2, h3⟩ := List.cons.inj h1
      exact ⟨x.2, P', by rw [← h2], h3⟩
  obtain ⟨w, P', rfl, hP1⟩ := hPc
  have hPo := hP.ord
  have hwo : ordW q.2 w := hPo (q, w) (by simp)
  have hP' : ∀ x ∈ P', ordW x.1.2 x.2 := fun x hx => hPo x (by simp [hx])
  have hyw : ∀ s' tl, J j s' → s'.length = σ.length → CallV Tryz.prog (.yieldf b) [.agg [nn' q.1, .slice 1 (q.2.map nn')]] (s' ++ tl) fun r σ' => ∃ s'' tl', σ' = s'' ++ tl ++ tl' ∧ s''.length = σ.length ∧ ((r = .ret (.bool true) ∧ J (j + 1) s'') ∨ (r = .ret (.bool false) ∧ Stop s'')) := fun s' tl h1 h2 => hy j q s' tl hbq h1 h2
  refine awpC_sound _ ?_
  obtain ⟨f1, f2, f3, f4, f5, f6, f7, f8⟩ := hwo.facts
  simp [lineV, ↓f1, ↓f2, ↓f3, ↓f4, ↓f5, ↓f6, ↓f7, ↓f8]
  refine (hyw s' _ hJj hsl).mono ?_
  rintro r σ' ⟨s'', tl', rfl, hsl2, ⟨rfl, hJ'⟩ | ⟨rfl, hS⟩⟩
  rotate_left
  · have e : s'.length = s''.length := by omega
    rw [e]
    simp [↓f1, ↓f2, ↓f3, ↓f4, ↓f5, ↓f6, ↓f7, ↓f8]
    have e2 : s'' ++ AObj.amap (mapN N) :: AObj.dead :: AObj.spare 2 p :: (tl ++ AObj.box [AVal.oslice 2 (AVal.agg [nn' q.1, w] :: List.map lineV P') (s''.length + 2) p] :: AObj.dead :: tl') = (s'' ++ [.amap (mapN N), .dead, .spare 2 p]) ++ (tl ++ AObj.box [AVal.oslice 2 (AVal.agg [nn' q.1, w] :: List.map lineV P') (s''.length + 2) p] :: AObj.dead :: tl') := by simp
    rw [e2]
    refine off_baseO (by simp) (fun X => ⟨s'', ⟨[.amap (mapN N), .dead, .spare 2 p] ++ X, by simp⟩, rfl, .inr hS⟩) cs _ hcn fun c hc => ?_
    have := hcd c hc
    rw [List.getElem?_append_left (List.getElem?_eq_some_iff.1 this).1]; exact this
  have e : s'.length = s''.length := by omega
  rw [e]
  simp [↓f1, ↓f2, ↓f3, ↓f4, ↓f5, ↓f6, ↓f7, ↓f8]
  refine CallK.pure B_cut_ship_can (cut_can_spec (n + 2) q.1 _) ?_
  simp [↓f1, ↓f2, ↓f3, ↓f4, ↓f5, ↓f6, ↓f7, ↓f8]
  refine AW.rangeF (by simp) fun asg' body' ca cb hps => ?_
  simp only [List.length_append, List.length_cons, List.length_nil, List.length_set, List.append_assoc, List.cons_append, List.nil_append, Nat.zero_add, Nat.reduceAdd, Nat.add_assoc]
  obtain ⟨B, hB⟩ : ∃ B, s''.length = B := ⟨_, rfl⟩
  obtain ⟨D, hD⟩ : ∃ D, B + (tl.length + (tl'.length + 5)) = D := ⟨_, rfl⟩
  have hb1 : B + (tl.length + (tl'.length + 6)) = D + 1 := by omega
  rw [hB, hb1, hD]
  change CallF Tryz.prog (.func (.func F_cut_ship_can_1) [] [.pval (nn' q.1), .pval (.ptr (n + 2) 0)]) [.yieldf (D + 1)] (s'' ++ reaO B N p (((q, w) :: P').map lineV) tl (tl' ++ reaY b n B tl.length D q w asg' body' .ready none)) (rangeQ (D + 1) _ _)
  have hsplit : reaO B N p (((q, w) :: P').map lineV) tl (tl' ++ reaY b n B tl.length D q w asg' body' .ready none) = reaO B N p (((q, w) :: P').map lineV) tl tl' ++ reaY b n B tl.length D q w asg' body' .ready none := by simp [reaO]
  rw [hsplit]
  refine CallF.func B_cut_ship_can_1 ((can_1_spec hf hok _ q.1 hqs (D + 1) (fun i s2 => ∃ (s3 : AHeap) (N' : List (Nat × Int)) (p' : Nat) (P3 : List (Place × AVal)), LineOk ((roundU t Q q i).drop j) P3 ∧ s2 = s3 ++ (reaO B N' p' (P3.map lineV) tl tl' ++ reaY b n B tl.length D q w asg' body' .ready none) ∧ s3.length = B ∧ J (j + 1) s3 ∧ SeenOk (roundU t Q q i) N' (1 + 8 * (j : Int) + i)) (fun _ => False) ?_ ?_ ?_ ?_ ?_).mono ?_)
  · rintro i s2 ⟨s3, N', p', P3, hP3, rfl, hl3, hj3, _⟩
    exact (hJ _ _ hj3).app
  · rintro i s2 m ⟨s3, N', p', P3, hP3, rfl, hl3, hj3, hs3⟩ hm'
    have := (hJ _ _ hj3).len
    exact ⟨s3.set (n + 1) (.amap (mapN m)), N', p', P3, hP3, by rw [List.set_append_left _ _ (by omega)], by simpa using hl3, hm _ _ _ hj3 hm', hs3⟩
  · rintro i s2 tlx hi hw ⟨s3, N', p', P3, hP3, rfl, hl3, hj3, hs3⟩ _
    have hi7 : i < 7 := by omega
    obtain ⟨g1, g2, g3⟩ := seen_push hs3 (by omega) q i
    have hru := roundU_succ t Q q i
    have hw1' : IntKind.i64.wrap 1 = 1 := by decide
    rw [if_pos hw] at hru
    refine CallV.round (e := reaE b n B tl.length q w) (D := D) (pend := none) ca cb hps (by simp [reaY, rea_g1 hl3 hD]) rfl ?_
    refine awpC_sound _ ?_
    simp [putArgs, reaE, reaY, rea_g1 hl3 hD]
    refine ⟨_, _, _, _, _, _, _, ⟨rfl, rfl, rfl, rfl, rfl, rfl, rfl⟩, ?_⟩
    refine awpC_sound _ ?_
    refine (Classical.em (getN (rem1 q.1 i) N' = none)).elim (fun hg => ?_) (fun hg => ?_)
    · have hcl := fun σ => slices_Clone_int_own (q.2.map nn') (by intro v hv; obtain ⟨x, _, rfl⟩ := List.mem_map.1 hv; exact ⟨⟨rfl, rfl⟩, rfl⟩) (by simp; omega) σ
      have hfi : Fits 1 [nn' i] := by intro v hv; simp at hv; subst hv; exact ⟨⟨rfl, rfl⟩, rfl⟩
      have hql : (roundU t Q q i).length ≤ 135 := by have := roundU_len t Q q i; omega
      have hjr : j ≤ (roundU t Q q i).length := by have := (roundU_prefix t Q q i).length_le; omega
      have hnew := g2 hg
      have hP3l : P3.length ≤ 135 := by
        have := congrArg List.length hP3.fst
        simp at this; omega
      have hoff : ¬ s3.length + ((reaO B (putN (rem1 q.1 i) 1 N') p' (P3.map lineV) tl tl').length + (tlx.length + 1 + 1)) = B + (tl.length + 3) := by simp [reaO]; omega
      have hseen : SeenOk (roundU t Q q (i + 1)) (putN (rem1 q.1 i) 1 N') (1 + 8 * (j : Int) + ((i : Int) + 1)) := by
        have := g1
        rw [hg] at this
        rw [hru, ← Int.add_assoc]
        exact this
      rcases hwo with hw' | ⟨wb, wk, hw'⟩
      · subst hw'
        simp [rea_s1 hl3 hD, rea_gm hl3, rea_sm hl3, rea_g4 hl3, rea_gp hl3, hg, getN_put, hw1']
        refine ⟨q.2.map nn', fun σ' => CallV.func (first := []) (args := [.slice 1 (q.2.map nn')]) (caps := []) B_slices_Clone_int_int (hcl σ'), hfi, by simp; omega, by intro v hv; simp at hv; subst hv; exact ⟨rfl, rfl⟩, by omega, hoff, ?_⟩
        rw [rea_push hl3]
        exact ⟨54, reaE b n B tl.length q (.slice 1 (q.2.map nn')), [32, 33], asg', body', D, .busy, none, by simp [rea_g1 hl3 hD, reaE], s3 ++ (reaO B (putN (rem1 q.1 i) 1 N') (p' + 1) ((P3 ++ [((rem1 q.1 i, q.2 ++ [i]), AVal.oslice 1 (q.2.map nn' ++ [nn' i]) (s3.length + ((reaO B (putN (rem1 q.1 i) 1 N') p' (P3.map lineV) tl tl').length + (tlx.length + 1 + 1))) 2)]).map lineV) tl tl' ++ reaY b n B tl.length D q (.slice 1 (q.2.map nn')) asg' body' .ready none), ⟨[.spare 1 2], by simp [rea_s1 hl3 hD, reaE, reaY, lineV]⟩, by simp [reaO, reaY, hl3, hB]; omega, rfl, s3, _, p' + 1, P3 ++ [((rem1 q.1 i, q.2 ++ [i]), AVal.oslice 1 (q.2.map nn' ++ [nn' i]) (s3.length + ((reaO B (putN (rem1 q.1 i) 1 N') p' (P3.map lineV) tl tl').length + (tlx.length + 1 + 1))) 2)], ⟨by rw [hru, hnew, List.map_append, hP3.fst, List.drop_append_of_le_length hjr]; rfl, fun x hx => by
          rcases List.mem_append.1 hx with hx | hx
          · exact hP3.ord x hx
          · rw [List.mem_singleton] at hx; subst hx; exact .inr ⟨_, _, by rw [List.map_append]; rfl⟩⟩, by simp [reaY, reaE], hl3, hj3, hseen⟩
      · subst hw'
        simp [rea_s1 hl3 hD, rea_gm hl3, rea_sm hl3, rea_g4 hl3, rea_gp hl3, hg, getN_put, hw1']
        refine ⟨q.2.map nn', fun σ' => CallV.func (first := []) (args := [.slice 1 (q.2.map nn')]) (caps := []) B_slices_Clone_int_int (hcl σ'), hfi, by simp; omega, by intro v hv; simp at hv; subst hv; exact ⟨rfl, rfl⟩, by omega, hoff, ?_⟩
        rw [rea_push hl3]
        exact ⟨54, reaE b n B tl.length q (.oslice 1 (q.2.map nn') wb wk), [32, 33], asg', body', D, .busy, none, by simp [rea_g1 hl3 hD, reaE], s3 ++ (reaO B (putN (rem1 q.1 i) 1 N') (p' + 1) ((P3 ++ [((rem1 q.1 i, q.2 ++ [i]), AVal.oslice 1 (q.2.map nn' ++ [nn' i]) (s3.length + ((reaO B (putN (rem1 q.1 i) 1 N') p' (P3.map lineV) tl tl').length + (tlx.length + 1 + 1))) 2)]).map lineV) tl tl' ++ reaY b n B tl.length D q (.oslice 1 (q.2.map nn') wb wk) asg' body' .ready none), ⟨[.spare 1 2], by simp [rea_s1 hl3 hD, reaE, reaY, lineV]⟩, by simp [reaO, reaY, hl3, hB]; omega, rfl, s3, _, p' + 1, P3 ++ [((rem1 q.1 i, q.2 ++ [i]), AVal.oslice 1 (q.2.map nn' ++ [nn' i]) (s3.length + ((reaO B (putN (rem1 q.1 i) 1 N') p' (P3.map lineV) tl tl').length + (tlx.length + 1 + 1))) 2)], ⟨by rw [hru, hnew, List.map_append, hP3.fst, List.drop_append_of_le_length hjr]; rfl, fun x hx => by
          rcases List.mem_append.1 hx with hx | hx
          · exact hP3.ord x hx
          · rw [List.mem_singleton] at hx; subst hx; exact .inr ⟨_, _, by rw [List.map_append]; rfl⟩⟩, by simp [reaY, reaE], hl3, hj3, hseen⟩
    · obtain ⟨v, hv⟩ : ∃ v, getN (rem1 q.1 i) N' = some v := by
        cases h : getN (rem1 q.1 i) N' with
        | none => exact absurd h hg
        | some v => exact ⟨v, rfl⟩
      obtain ⟨q1, q2, q3⟩ := g3 v hv
      have hw1 : IntKind.i64.wrap (v + 1) = v + 1 := wrap_id (by omega) (by omega)
      have hv0 : ¬ v = 0 := by omega
      have hv1 : ¬ v + 1 = 1 := by omega
      have hseen : SeenOk (roundU t Q q (i + 1)) (putN (rem1 q.1 i) (v + 1) N') (1 + 8 * (j : Int) + ((i : Int) + 1)) := by
        have := g1
        rw [hv] at this
        rw [hru, ← Int.add_assoc]
        exact this
      simp [rea_s1 hl3 hD, rea_gm hl3, rea_sm hl3, hv, getN_put, hw1, hv1]
      exact ⟨54, reaE b n B tl.length q w, [32, 33], asg', body', D, .busy, none, by simp [rea_g1 hl3 hD, reaE], s3 ++ (reaO B (putN (rem1 q.1 i) (v + 1) N') p' (P3.map lineV) tl tl' ++ reaY b n B tl.length D q w asg' body' .ready none), ⟨[], by simp [rea_s1 hl3 hD, reaE, reaY]⟩, by simp [reaO, reaY, hl3, hB]; omega, rfl, s3, _, p', P3, by rw [hru, q3]; exact hP3, by simp [reaY, reaE], hl3, hj3, hseen⟩
  · rintro i s2 hi hw ⟨s3, N', p', P3, hP3, rfl, hl3, hj3, hs3⟩
    refine ⟨s3, N', p', P3, by rw [roundU_succ, if_neg hw]; exact hP3, rfl, hl3, hj3, ?_⟩
    · rw [roundU_succ, if_neg hw]; exact hs3.mono (by omega)
  · exact ⟨s'', N, p, (q, w) :: P', ⟨by simp only [roundU, canU]; exact hP.fst, hPo⟩, rfl, hB, hJ', by simpa [roundU, canU] using hsn⟩
  · rintro r σ' ⟨rfl, s2, tlx, rfl, _, ⟨s3, N', p', P3, hP3, rfl, hl3, hj3, hs3⟩ | hS⟩
    rotate_left
    · exact hS.elim
    rw [roundU_all hf Q hqs] at hs3 hP3
    refine ⟨54, reaE b n B tl.length q w, [32, 33], asg', body', D, .ready, none, by simp [reaY, rea_g1 hl3 hD], by simp, ?_⟩
    simp only [reaY, List.append_assoc, List.cons_append, List.nil_append, rea_s1 hl3 hD]
    have hjR : j < (roundB t Q q).length := by have := hpre.length_le; omega
    have hP3c : ∃ x P4, P3 = x :: P4 ∧ P4.map (·.1) = (roundB t Q q).drop (j + 1) := by
      have h1 := hP3.fst
      rw [List.drop_eq_getElem_cons hjR] at h1
      cases P3 with
      | nil => cases h1
      | cons x P4 =>
        rw [List.map_cons] at h1
        exact ⟨x, P4, rfl, (List.cons.inj h1).2⟩
    obtain ⟨x, P4, rfl, hP4⟩ := hP3c
    have hP4o : ∀ y ∈ P4, ordW y.1.2 y.2 := fun y hy => hP3.ord y (by simp [hy])
    simp [rea_g4 hl3, rea_gp hl3, rea_end1 hl3, rea_end3 hl3, rea_end2 hl3]
    refine ⟨by omega, 129 - (j + 1), by omega, j + 1, roundB t Q q, N', p' + 1, s3, tl ++ .box [.oslice 2 ((x :: P4).map lineV) (B + 2) p'] :: .dead :: (tl' ++ .dfr :: .looprec 54 (reaE b n B tl.length q w) [32, 33] asg' body' D .exhausted none :: tlx), (tl.length + (tl'.length + 2)) :: cs, P4, ⟨hP4, hP4o⟩, ⟨by simp [reaO, hl3]; omega, by simp [collsO]; omega⟩, by simp, hl3, hj3, hI2, by omega, hbf2, hs3.mono (by omega), ?_, ?_, rfl⟩
    · rw [List.nodup_cons]
      refine ⟨fun hc => ?_, hcn⟩
      have := (List.getElem?_eq_some_iff.1 (hcd _ hc)).1
      omega
    · intro c hc
      rcases List.mem_cons.1 hc with rfl | hc
      · simp
      · have := hcd c hc
        rw [List.getElem?_append_left (List.getElem?_eq_some_iff.1 this).1]; exact this
end Go.AM
namespace Go.AM
open Go.Proofs
set_option maxRecDepth 100000
set_option maxHeartbeats 1000000
theorem cut_reached_spec (n : Nat) (σ : AHeap) : Spec Tryz.prog F_cut_ship_reached [.ptr n 0] σ fun r σ' => r = .ret (.func (.func F_cut_ship_reached_1) [] [.pval (.ptr n 0)]) ∧ σ' = σ := by
  refine spec_cut_ship_reached (by simp) (awpC_sound _ ?_)
  simp [C_cut_ship_reached]
def toQ (t : TaskM) (p : Nat) : Option Place := (bfsT t).find? fun q => whyT t q.1 p == 0
def toL (t : TaskM) (p : Int) : List Nat := if orderE t [p] = 0 then (match toQ t p.toNat with | some q => q.2 ++ [p.toNat] | none => []) else []
def toE (t : TaskM) (p : Int) : Int := if orderE t [p] = 0 then (match toQ t p.toNat with | some _ => 0 | none => 9) else orderE t [p]
def toN (p : Nat) : Env := [(3, .pval (nn' p)), (4, .ptr 0 0), (5, .ptr 1 0), (6, .pval (.ptr 4 0)), (20, .func (.func F_cut_ship_reached_1) [] [.pval (.ptr 4 0)])]
def toY (p D : Nat) (asg body : Code) (st : LoopState) (pd : Option Code) : AHeap := [.dfr, .looprec 34 (toN p) [21] asg body D st pd]
def toS (t : TaskM) (a : AVal) (e : Int) (m : List (Nat × Int)) (tl Y : AHeap) : AHeap := .box [a] :: .box [ii' e] :: .arr 1 (aboveV t) :: .amap (mapN m) :: .box (cutC t 2 (gasT t)) :: (tl ++ .dead :: Y)
theorem toS_ship {t : TaskM} {a : AVal} {e : Int} {m : List (Nat × Int)} (hm : KnownOk t m) (tl Y : AHeap) : ShipI t 2 (toS t a e m tl Y) := ⟨m, hm, ⟨rfl, rfl, rfl⟩⟩
theorem cut_To_spec (t : TaskM) (hok : t.Ok) (p : Int) (σ : AHeap) : Spec Tryz.prog F_cut_To [t.v, ii' p] σ fun r σ' => r = .ret (listV (toL t p) (toE t p)) ∧ σ' = σ := by
  refine Spec.pureFn (spec_cut_To (by simp) (awpC_sound _ ?_)) (by simp [pures, t.pure, AVal.pure]) (listV_pure _ _) σ
  have hen := fun σ => enter_spec t hok [p] (by simp [maxLen]) σ
  simp only [List.map_cons, List.map_nil] at hen
  simp [C_cut_To, TaskM.v, TaskM.cells]
  refine CallK.spec B_cut_enter (hen _) ?_
  rintro r σ' (⟨h1, rfl, tl, rfl⟩ | ⟨h1, rfl | rfl, tl, rfl⟩)
  · refine ⟨_, rfl, ?_⟩
    obtain ⟨hf, hin⟩ := order_fit h1
    obtain ⟨pn, rfl, hpn⟩ : ∃ pn : Nat, p = pn ∧ pn < t.ship.length := by
      simp [inO] at hin
      exact ⟨p.toNat, by omega, by omega⟩
    have h7 := hf.ship7
    simp
    refine CallK.pure B_cut_ship_reached (cut_reached_spec 4 _) ?_
    simp
    refine AW.rangeF (by simp) fun asg' body' ca cb hps => ?_
    simp only [List.length_append, List.length_cons, List.length_nil, List.append_assoc, List.cons_append, List.nil_append, Nat.zero_add, Nat.reduceAdd, Nat.add_assoc]
    have hol : (opened t [AObj.box [AVal.slice 1 []], AObj.box [AVal.int IntKind.i64 0]] [] tl).length = tl.length + 5 := by simp [opened]
    rw [hol]
    have hoe : opened t [AObj.box [AVal.slice 1 []], AObj.box [AVal.int IntKind.i64 0]] [] tl ++ [AObj.dead, AObj.dfr, AObj.looprec 34 (toN pn) [21] asg' body' (tl.length + 5 + 1) .ready none] = toS t (.slice 1 []) 0 [] tl (toY pn (tl.length + 5 + 1) asg' body' .ready none) := by simp [opened, toS, toY]
    change CallF Tryz.prog (.func (.func F_cut_ship_reached_1) [] [.pval (.ptr (2 + 2) 0)]) [.yieldf (tl.length + 5 + 2)] (opened t [AObj.box [AVal.slice 1 []], AObj.box [AVal.int IntKind.i64 0]] [] tl ++ [AObj.dead, AObj.dfr, AObj.looprec 34 (toN pn) [21] asg' body' (tl.length + 5 + 1) .ready none]) (rangeQ (tl.length + 5 + 2) _ _)
    rw [hoe]
    refine CallF.func B_cut_ship_reached_1 ((reached_1_spec hf hok (n := 2) _ (tl.length + 5 + 2) (fun j s' => ∃ m, KnownOk t m ∧ s' = toS t (.slice 1 []) 0 m tl (toY pn (tl.length + 5 + 1) asg' body' .ready none) ∧ ∀ q ∈ (bfsT t).take j, whyT t q.1 pn ≠ 0)
      (fun s' => ∃ m q, KnownOk t m ∧ toQ t pn = some q ∧ s' = toS t (.slice 1 ((q.2 ++ [pn]).map nn')) 0 m tl (toY pn (tl.length + 5 + 1) asg' body' .done (some .ret))) ?_ ?_ ?_ ?_).mono ?_)
    · rintro j s' ⟨m, hm, rfl, _⟩
      exact toS_ship hm _ _
    · rintro j s' m' ⟨m, hm, rfl, hn⟩ hm'
      exact ⟨m', hm', rfl, hn⟩
    · rintro j q s' tlx hq ⟨m, hm, rfl, hn⟩ hlen
      have hI := bfsT_inv hf
      have hqm : q ∈ bfsT t := List.mem_of_getElem? hq
      have hgo := hI.go q hqm
      have hqs : Sub t q.1 := goT_sub hgo (Sub.all t)
      have hq2 : q.2.length ≤ 7 := by
        have := (goT_pop hf (allT_lt hf) hgo).2
        have := pop_le _ (allT_lt hf)
        omega
      refine CallV.round (e := toN pn) (D := tl.length + 5 + 1) (pend := none) ca cb hps (by simp [toS, toY]) rfl ?_
      refine awpC_sound _ ?_
      simp [putArgs, toN, toS, toY, placeV]
      refine ⟨_, _, _, _, _, _, _, ⟨rfl, rfl, rfl, rfl, rfl, rfl, rfl⟩, ?_⟩
      refine awpC_sound _ ?_
      simp
      have hcl := fun σ => slices_Clone_int_own (q.2.map nn') (by intro v hv; obtain ⟨x, _, rfl⟩ := List.mem_map.1 hv; exact ⟨⟨rfl, rfl⟩, rfl⟩) (by simp; omega) σ
      have hfi : Fits 1 [nn' pn] := by intro v hv; simp at hv; subst hv; exact ⟨⟨rfl, rfl⟩, rfl⟩
      refine CallK.spec B_cut_ship_why (why_spec hf hok (n := 2) ⟨m, hm, ⟨rfl, rfl, rfl⟩⟩ q.1 pn hqs hpn) ?_
      rintro r σ2 ⟨rfl, m', tl2, hm', rfl⟩
      refine ⟨_, rfl, ?_⟩
      refine (Classical.em (whyT t q.1 pn = 0)).elim (fun hz => ?_) (fun hz => ?_)
      · simp [hz]
        refine ⟨q.2.map nn', fun σ' => CallV.func (first := []) (args := [.slice 1 (q.2.map nn')]) (caps := []) B_slices_Clone_int_int (hcl σ'), hfi, by simp; omega, ?_⟩
        have hjl := (List.getElem?_eq_some_iff.1 hq).1
        have hje := (List.getElem?_eq_some_iff.1 hq).2
        have htoQ : toQ t pn = some q := by
          unfold toQ
          rw [← List.take_append_drop j (bfsT t), List.find?_append, List.drop_eq_getElem_cons hjl, hje]
          have : ((bfsT t).take j).find? (fun q => whyT t q.1 pn == 0) = none := List.find?_eq_none.2 fun x hx => by simpa using hn x hx
          rw [this]
          simp [hz]
        exact ⟨34, toN pn, [21], asg', body', tl.length + 5 + 1, .busy, none, by simp [toN], toS t (.slice 1 ((q.2 ++ [pn]).map nn')) 0 m' tl (toY pn (tl.length + 5 + 1) asg' body' .done (some .ret)), ⟨_, by simp [toS, toY, toN]; rfl⟩, by simp [toS, toY], .inr ⟨rfl, m', hm', q.1, q.2, htoQ, by simp [toS, toY, toN]⟩⟩
      · have hzI : ¬ (whyT t q.1 pn : Int) = 0 := by omega
        have hn2 : ∀ (a : Nat) (b : List Nat), (a, b) ∈ (bfsT t).take (j + 1) → ¬ whyT t a pn = 0 := fun a b hx => by
          rw [List.take_add_one, hq, List.mem_append] at hx
          rcases hx with hx | hx
          · exact hn (a, b) hx
          · simp at hx
            rw [show a = q.1 by rw [← hx]]; exact hz
        simp [hz, hzI]
        exact ⟨34, toN pn, [21], asg', body', tl.length + 5 + 1, .busy, none, by simp [toN], toS t (.slice 1 []) 0 m' tl (toY pn (tl.length + 5 + 1) asg' body' .ready none), ⟨_, by simp [toS, toY, toN]; rfl⟩, by simp [toS, toY], .inl ⟨rfl, m', hm', by simp [toS, toY, toN], hn2⟩⟩
    · exact ⟨[], known_nil t, rfl, by simp⟩
    · rintro r σ' ⟨rfl, s', tlx, rfl, _, ⟨m, hm, rfl, hn⟩ | ⟨m, q, hm, hq, rfl⟩⟩
      · refine ⟨34, toN pn, [21], asg', body', tl.length + 5 + 1, .ready, none, by simp [toS, toY], by simp, ?_⟩
        have hnone : toQ t pn = none := by
          unfold toQ
          rw [List.find?_eq_none]
          intro x hx
          rw [List.take_length] at hn
          simpa using hn x hx
        simp [toS, toY, listV, toL, toE, h1, hnone]
      · refine ⟨34, toN pn, [21], asg', body', tl.length + 5 + 1, .done, some .ret, by simp [toS, toY], by simp, ?_⟩
        simp [toS, toY, toN, listV, toL, toE, h1, hq]
  · refine ⟨_, rfl, ?_⟩
    simp [h1, listV, toL, toE]
  · refine ⟨_, rfl, ?_⟩
    simp [h1, listV, toL, toE]
end Go.AM
namespace Go.AM
open Go.Proofs
set_option maxRecDepth 100000
set_option maxHeartbeats 1000000
def insI (x : Int) : List Int → List Int
  | [] => [x]
  | y :: r => if x ≤ y then x :: y :: r else y :: insI x r
def sortI : List Int → List Int
  | [] => []
  | x :: r => insI x (sortI r)
theorem insI_perm (x : Int) : ∀ l : List Int, (insI x l).Perm (x :: l)
  | [] => .refl _
  | y :: r => by
    rw [insI]
    split
    · exact .refl _
    · exact ((insI_perm x r).cons y).trans (.swap x y r)
theorem sortI_perm : ∀ l : List Int, (sortI l).Perm l
  | [] => .refl _
  | x :: r => (insI_perm x _).trans ((sortI_perm r).cons x)
theorem insI_sorted (x : Int) : ∀ {l : List Int}, l.Pairwise (· ≤ ·) → (insI x l).Pairwise (· ≤ ·)
  | [], _ => by simp [insI]
  | y :: r, h => by
    rw [List.pairwise_cons] at h
    rw [insI]
    split
    · rename_i hxy
      rw [List.pairwise_cons]
      refine ⟨fun z hz => ?_, List.pairwise_cons.2 h⟩
      rcases List.mem_cons.1 hz with rfl | hz
      · exact hxy
      · exact Int.le_trans hxy (h.1 z hz)
    · rename_i hxy
      rw [List.pairwise_cons]
      refine ⟨fun z hz => ?_, insI_sorted x h.2⟩
      rcases List.mem_cons.1 ((insI_perm x r).mem_iff.1 hz) with rfl | hz
      · omega
      · exact h.1 z hz
theorem sortI_sorted : ∀ l : List Int, (sortI l).Pairwise (· ≤ ·)
  | [] => .nil
  | x :: r => insI_sorted x (sortI_sorted r)
theorem sortI_eq {l l' : List Int} (h1 : l'.Perm l) (h2 : l'.Pairwise (· ≤ ·)) : l' = sortI l :=
  List.Perm.eq_of_pairwise (fun a b _ _ h h' => Int.le_antisymm h h') h2 (sortI_sorted l) (h1.trans (sortI_perm l).symm)
def setsT (t : TaskM) (j : Nat) : List Int := ((bfsT t).take j).map fun q => (q.1 : Int)
def emptyT (t : TaskM) : Bool := (bfsT t).any fun q => q.1 == 0
def proofE (t : TaskM) : Int := if (checkT t).2.2 ≠ 0 then (checkT t).2.2 else if emptyT t then 9 else 0
def proofL (t : TaskM) : List Int := if proofE t = 0 then sortI (setsT t (bfsT t).length) else []
def intsV' (l : List Int) (e : Int) : AVal := .tup [.slice 1 (l.map ii'), ii' e]
def proN : Env := [(2, .ptr 1 0), (3, .ptr 2 0), (15, .func (.func F_cut_ship_reached_1) [] [.pval (.ptr 5 0)])]
def proY (D : Nat) (asg body : Code) (st : LoopState) (pd : Option Code) : AHeap := [.dfr, .looprec 28 proN [16] asg body D st pd]
def proS (t : TaskM) (sets : List Int) (a : AVal) (e : Int) (m : List (Nat × Int)) (tl Y : AHeap) : AHeap := .arr 1 (sets.map ii') :: .box [a] :: .box [ii' e] :: .arr 1 (aboveV t) :: .amap (mapN m) :: .box (cutC t 3 (gasT t)) :: (tl ++ Y)
theorem proS_ship {t : TaskM} {sets : List Int} {a : AVal} {e : Int} {m : List (Nat × Int)} (hm : KnownOk t m) (tl Y : AHeap) : ShipI t 3 (proS t sets a e m tl Y) := ⟨m, hm, ⟨rfl, rfl, rfl⟩⟩
theorem cut_Proof_spec (t : TaskM) (hok : t.Ok) (h12 : (checkT t).2.2 = 0 → (bfsT t).length ≤ 12) (σ : AHeap) : Spec Tryz.prog F_cut_Proof [t.v] σ fun r σ' => r = .ret (intsV' (proofL t) (proofE t)) ∧ σ' = σ := by
  refine Spec.pureFn (spec_cut_Proof (by simp) (awpC_sound _ ?_)) (by simp [pures, t.pure]) (by simp [intsV', AVal.pure, pures, pures_map (f := ii') (fun _ => rfl)]) σ
  simp [C_cut_Proof, TaskM.v, TaskM.cells]
  refine CallK.spec B_cut_open (cut_open_spec t hok _) ?_
  rintro r σ' (⟨h1, rfl, tl, rfl⟩ | ⟨h1, rfl, tl, rfl⟩)
  · refine ⟨_, rfl, ?_⟩
    have hf := check_fit h1
    have h7 := hf.ship7
    have hB := h12 h1
    simp
    refine CallK.pure B_cut_ship_reached (cut_reached_spec 5 _) ?_
    simp
    refine AW.rangeF (by simp) fun asg' body' ca cb hps => ?_
    simp only [List.length_append, List.length_cons, List.length_nil, List.append_assoc, List.cons_append, List.nil_append, Nat.zero_add, Nat.reduceAdd, Nat.add_assoc]
    change CallF Tryz.prog (.func (.func F_cut_ship_reached_1) [] [.pval (.ptr (3 + 2) 0)]) [.yieldf (tl.length + 7)] (proS t (setsT t 0) (.sref 1 0 0 (setsT t 0).length (setsT t 0).length) 0 [] tl (proY (tl.length + 6) asg' body' .ready none)) (rangeQ (tl.length + 7) _ _)
    refine CallF.func B_cut_ship_reached_1 ((reached_1_spec hf hok (n := 3) _ (tl.length + 7) (fun j s' => ∃ m, KnownOk t m ∧ s' = proS t (setsT t j) (.sref 1 0 0 (setsT t j).length (setsT t j).length) 0 m tl (proY (tl.length + 6) asg' body' .ready none) ∧ ∀ q ∈ (bfsT t).take j, q.1 ≠ 0)
      (fun s' => ∃ m l, KnownOk t m ∧ emptyT t = true ∧ s' = proS t l (.slice 1 []) 9 m tl (proY (tl.length + 6) asg' body' .done (some .ret))) ?_ ?_ ?_ ?_).mono ?_)
    · rintro j s' ⟨m, hm, rfl, _⟩
      exact proS_ship hm _ _
    · rintro j s' m' ⟨m, hm, rfl, hn⟩ hm'
      exact ⟨m', hm', rfl, hn⟩
    · rintro j q s' tlx hq ⟨m, hm, rfl, hn⟩ hlen
      have hqm : q ∈ bfsT t := List.mem_of_getElem? hq
      have hjl := (List.getElem?_eq_some_iff.1 hq).1
      have hsj : setsT t (j + 1) = setsT t j ++ [(q.1 : Int)] := by
        unfold setsT
        rw [List.take_add_one, hq]; simp
      have hsl : (setsT t j).length ≤ 12 := by unfold setsT; simp; omega
      have hfi : Fits 1 [nn' q.1] := by intro v hv; simp at hv; subst hv; exact ⟨⟨rfl, rfl⟩, rfl⟩
      refine CallV.round (e := proN) (D := tl.length + 6) (pend := none) ca cb hps (by simp [proS, proY]) rfl ?_
      refine awpC_sound _ ?_
      simp [putArgs, proN, proS, proY, placeV]
      refine ⟨_, _, _, _, _, _, _, ⟨rfl, rfl, rfl, rfl, rfl, rfl, rfl⟩, ?_⟩
      refine awpC_sound _ ?_
      refine (Classical.em (q.1 = 0)).elim (fun hz => ?_) (fun hz => ?_)
      · have hemp : emptyT t = true := List.any_eq_true.2 ⟨q, hqm, by simp [hz]⟩
        simp [hz]
        exact ⟨28, proN, [16], asg', body', tl.length + 6, .busy, none, by simp [proN], proS t (setsT t j) (.slice 1 []) 9 m tl (proY (tl.length + 6) asg' body' .done (some .ret)), ⟨_, by simp [proS, proY, proN]; rfl⟩, by simp [proS, proY], .inr ⟨rfl, m, hm, hemp, setsT t j, by simp [proS, proY, proN]⟩⟩
      · have hn2 : ∀ (a : Nat) (b : List Nat), (a, b) ∈ (bfsT t).take (j + 1) → ¬ a = 0 := fun a b hx => by
          rw [List.take_add_one, hq, List.mem_append] at hx
          rcases hx with hx | hx
          · exact hn (a, b) hx
          · simp at hx
            rw [show a = q.1 by rw [← hx]]; exact hz
        simp [hz]
        refine ⟨hfi, ?_⟩
        rw [if_neg (by omega)]
        refine ⟨by omega, ?_⟩
        exact ⟨28, proN, [16], asg', body', tl.length + 6, .busy, none, by simp [proN], proS t (setsT t (j + 1)) (.sref 1 0 0 (setsT t (j + 1)).length (setsT t (j + 1)).length) 0 m tl (proY (tl.length + 6) asg' body' .ready none), ⟨_, by simp [proS, proY, proN, hsj]; rfl⟩, by simp [proS, proY], .inl ⟨rfl, m, hm, by simp [proS, proY, proN], hn2⟩⟩
    · exact ⟨[], known_nil t, rfl, by simp⟩
    · rintro r σ' ⟨rfl, s', tlx, rfl, _, ⟨m, hm, rfl, hn⟩ | ⟨m, l, hm, he, rfl⟩⟩
      · refine ⟨28, proN, [16], asg', body', tl.length + 6, .ready, none, by simp [proS, proY], by simp, ?_⟩
        have hne : emptyT t = false := by
          unfold emptyT
          rw [List.any_eq_false]
          intro x hx
          rw [List.take_length] at hn
          simpa using hn x hx
        have hsl : (setsT t (bfsT t).length).length ≤ 12 := by unfold setsT; simp; omega
        simp [proS, proY, proN]
        refine CallK.spec B_slices_Sort_int_int (sort_spec 0 (setsT t (bfsT t).length) hsl _ (by simp) (by simp [intsV])) ?_
        rintro r σ1 ⟨rfl, l', hp, hs, rfl⟩
        have hl' := hp.length_eq
        have hle := sortI_eq hp hs
        refine ⟨_, rfl, ?_⟩
        simp [intsV, hl', intsV', proofL, proofE, h1, hne]
        rw [← hle, List.take_of_length_le (by simp [hl'])]
      · refine ⟨28, proN, [16], asg', body', tl.length + 6, .done, some .ret, by simp [proS, proY], by simp, ?_⟩
        simp [proS, proY, proN, intsV', proofL, proofE, h1, he]
  · refine ⟨_, rfl, ?_⟩
    simp [h1, intsV', proofL, proofE]
end Go.AM
namespace Go.AM
open Go.Proofs
set_option maxRecDepth 100000
set_option maxHeartbeats 1000000
def heldB (t : TaskM) (sets : List Int) (x : Int) : Bool := (canL t x.toNat).all fun i => sets.contains ((rem1 x.toNat i : Nat) : Int)
def provesE (t : TaskM) (sets : List Int) : Int := if (checkT t).2.2 ≠ 0 then (checkT t).2.2 else if sets.any (outM ((allT t : Nat) + 1 : Int)) then 7 else 0
def provesB (t : TaskM) (sets : List Int) : Bool := decide (provesE t sets = 0) && sets.contains ((allT t : Nat) : Int) && !sets.contains 0 && sets.all (heldB t sets)
def prvV (b : Bool) (e : Int) : AVal := .tup [.bool b, ii' e]
def prvS (t : TaskM) (b : Bool) (e : Int) (m : List (Nat × Int)) (X : AHeap) : AHeap := .box [.bool b] :: .box [ii' e] :: .arr 1 (aboveV t) :: .amap (mapN m) :: .box (cutC t 2 (gasT t)) :: X
def prvN (sets : List Int) (x i : Nat) : Env := [(3, .pval (.slice 1 (sets.map ii'))), (4, .ptr 0 0), (5, .ptr 1 0), (6, .ptr 4 0), (37, .slice 1 (sets.map ii')), (38, nn' sets.length), (39, nn' i), (45, .func (.func F_cut_ship_can_1) [] [.pval (nn' x), .pval (.ptr 4 0)])]
def prvY (sets : List Int) (x i D : Nat) (asg body : Code) (st : LoopState) (pd : Option Code) : AHeap := [.dfr, .looprec 53 (prvN sets x i) [46, 47] asg body D st pd]
theorem prvS_ship {t : TaskM} {b : Bool} {e : Int} {m : List (Nat × Int)} (hm : KnownOk t m) (X : AHeap) : ShipI t 2 (prvS t b e m X) := ⟨m, hm, ⟨rfl, rfl, rfl⟩⟩
theorem sub_of_le {t : TaskM} {x : Nat} (h : x ≤ allT t) : Sub t x := fun i hi => by
  have hp : 0 < 2 ^ t.ship.length := Nat.pow_pos (by omega)
  have hx : x < 2 ^ t.ship.length := by unfold allT at h; omega
  rcases Nat.lt_or_ge i t.ship.length with g | g
  · exact g
  · rw [bit_out hx g] at hi; cases hi
theorem cut_Proves_spec (t : TaskM) (hok : t.Ok) (sets : List Int) (hl : sets.length ≤ maxLen) (σ : AHeap) : Spec Tryz.prog F_cut_Proves [t.v, .slice 1 (sets.map ii')] σ fun r σ' => r = .ret (prvV (provesB t sets) (provesE t sets)) ∧ σ' = σ := by
  refine Spec.pureFn (spec_cut_Proves (by simp) (awpC_sound _ ?_)) (by simp [pures, t.pure, AVal.pure, pures_map (f := ii') (fun _ => rfl)]) rfl σ
  simp [C_cut_Proves, TaskM.v, TaskM.cells]
  refine CallK.spec B_cut_open (cut_open_spec t hok _) ?_
  rintro r σ' (⟨h1, rfl, tl, rfl⟩ | ⟨h1, rfl, tl, rfl⟩)
  rotate_left
  · refine ⟨_, rfl, ?_⟩
    simp [h1, prvV, provesB, provesE]
  refine ⟨_, rfl, ?_⟩
  have hf := check_fit h1
  have h7 := hf.ship7
  have ha := allT_lt hf
  have hsa : ShipAt t 2 (.box [.bool false] :: .box [ii' 0] :: .arr 1 (aboveV t) :: .amap [] :: .box (cutC t 2 (gasT t)) :: tl) (mapN []) := ⟨rfl, rfl, rfl⟩
  have hw1 : IntKind.i64.wrap (((allT t : Nat) : Int) + 1) = ((allT t : Nat) : Int) + 1 := wrap_id (by omega) (by omega)
  simp
  refine CallK.pure B_cut_ship_all (all_spec hf (n := 2) hsa) ?_
  simp [hw1]
  refine (tf (sets.any (outM ((allT t : Nat) + 1 : Int)))).elim (fun hb => ?_) (fun hb => ?_)
  rotate_left
  · refine CallK.pureE B_cut_beyond (cut_beyond_spec _ sets hl _) (congrArg AVal.bool hb) ?_
    simp [prvV, provesB, provesE, h1, hb]
  refine CallK.pureE B_cut_beyond (cut_beyond_spec _ sets hl _) (congrArg AVal.bool hb) ?_
  simp
  refine CallK.pure B_cut_ship_all (all_spec hf (n := 2) hsa) ?_
  simp
  have hE : provesE t sets = 0 := by unfold provesE; rw [if_neg (by simp [h1]), hb, if_neg (by simp)]
  refine (tf (sets.contains ((allT t : Nat) : Int))).elim (fun hc => ?_) (fun hc => ?_)
  · refine CallK.pureE B_slices_Contains_int_int (slices_Contains_int_spec sets _ hl _) (congrArg AVal.bool hc) ?_
    have hB : provesB t sets = false := by unfold provesB; rw [hc]; simp
    simp
    rw [hB, hE]; rfl
  refine CallK.pureE B_slices_Contains_int_int (slices_Contains_int_spec sets _ hl _) (congrArg AVal.bool hc) ?_
  simp
  refine (tf (sets.contains 0)).elim (fun hz => ?_) (fun hz => ?_)
  rotate_left
  · refine CallK.pureE B_slices_Contains_int_int (slices_Contains_int_spec sets 0 hl _) (congrArg AVal.bool hz) ?_
    have hB : provesB t sets = false := by unfold provesB; rw [hz]; simp
    simp
    rw [hB, hE]; rfl
  refine CallK.pureE B_slices_Contains_int_int (slices_Contains_int_spec sets 0 hl _) (congrArg AVal.bool hz) ?_
  simp
  have hin : ∀ x ∈ sets, 0 ≤ x ∧ x ≤ (allT t : Nat) := by
    intro x hx
    have := List.any_eq_false.1 hb x hx
    simp [outM] at this
    omega
  refine AW.loop (ι := Nat) (fun d fr σ1 => ∃ (k : Nat) (m : List (Nat × Int)) (X : AHeap) (cs : List Nat), KnownOk t m ∧ cs.Nodup ∧ (∀ c ∈ cs, X[c]? = some .dfr) ∧ fr = { v := [(3, .pval (.slice 1 (sets.map ii'))), (4, .ptr 0 0), (5, .ptr 1 0), (6, .ptr 4 0), (37, .slice 1 (sets.map ii')), (38, nn' sets.length), (39, nn' k)], ds := collsO 0 5 cs } ∧ σ1 = prvS t false 0 m X ∧ (∀ (j : Nat) (h : j < sets.length), j < k → heldB t sets sets[j] = true) ∧ k ≤ sets.length ∧ d = sets.length - k) (fun d => d) sets.length ⟨0, [], tl, [], known_nil t, by simp, (fun _ h => by cases h), by simp [collsO], by simp [prvS, mapN], (fun _ _ h => by omega), by omega, rfl⟩ ?_
  rintro d fr σ1 ⟨k, m, X, cs, hm, hcn, hcd, rfl, rfl, hheld, hk, rfl⟩
  refine (Nat.lt_or_ge k sets.length).elim (fun hlt => ?_) (fun hge => ?_)
  rotate_left
  · refine awpC_sound _ ?_
    have hnl : ¬ k < sets.length := by omega
    have hall : sets.all (heldB t sets) = true := by
      rw [List.all_eq_true]
      intro x hx
      obtain ⟨j, hj, rfl⟩ := List.getElem_of_mem hx
      exact hheld j hj (by omega)
    have hB : provesB t sets = true := by unfold provesB; rw [hE, hc, hz, hall]; rfl
    simp [hnl, prvS]
    refine off_baseO (B := 0) (o := 5) (S := [.box [.bool true], .box [ii' 0], .arr 1 (aboveV t), .amap (mapN m), .box (cutC t 2 (gasT t))]) (by simp) (fun X => ?_) cs X hcn hcd
    rw [hB, hE]
    simp [prvV]
  obtain ⟨x, hx⟩ : ∃ x, sets[k] = x := ⟨_, rfl⟩
  have hxm : x ∈ sets := by rw [← hx]; exact List.getElem_mem hlt
  obtain ⟨s, rfl⟩ : ∃ s : Nat, x = (s : Int) := ⟨x.toNat, by have := (hin x hxm).1; omega⟩
  have hs : Sub t s := sub_of_le (by have := (hin _ hxm).2; omega)
  refine awpC_sound _ ?_
  simp [hlt, hx, prvS]
  refine CallK.pure B_cut_ship_can (cut_can_spec (2 + 2) s _) ?_
  simp
  refine AW.rangeF (by simp) fun asg' body' ca cb hps => ?_
  simp only [List.length_append, List.length_cons, List.length_nil, List.append_assoc, List.cons_append, List.nil_append, Nat.zero_add, Nat.reduceAdd, Nat.add_assoc]
  change CallF Tryz.prog (.func (.func F_cut_ship_can_1) [] [.pval (nn' s), .pval (.ptr (2 + 2) 0)]) [.yieldf (X.length + 6)] (prvS t false 0 m (X ++ prvY sets s k (X.length + 5) asg' body' .ready none)) (rangeQ (X.length + 6) _ _)
  have hg1 : ∀ m a b Y, (prvS t false 0 m (X ++ a :: b :: Y))[X.length + 6]? = some b := fun m a b Y => by simp [prvS]
  have hs1 : ∀ m a b b' Y, (prvS t false 0 m (X ++ a :: b :: Y)).set (X.length + 6) b' = prvS t false 0 m (X ++ a :: b' :: Y) := fun m a b b' Y => by simp [prvS]
  have happ : ∀ m Y Z, prvS t false 0 m (X ++ Y) ++ Z = prvS t false 0 m (X ++ (Y ++ Z)) := fun m Y Z => by simp [prvS]
  have hXc : X.length ∉ cs := fun h => by have := (List.getElem?_eq_some_iff.1 (hcd _ h)).1; omega
  have hq0 : ∀ m Y, (prvS t false 0 m Y)[0]? = some (.box [.bool false]) := fun _ _ => rfl
  have hq1 : ∀ m Y, (prvS t false 0 m Y)[1]? = some (.box [ii' 0]) := fun _ _ => rfl
  have hq2 : ∀ m Y, (prvS t false 0 m Y).set 0 (.box [.bool false]) = prvS t false 0 m Y := fun _ _ => rfl
  have hq3 : ∀ m Y, (prvS t false 0 m Y).set 1 (.box [.int .i64 0]) = prvS t false 0 m Y := fun _ _ => rfl
  have hlen : ∀ m Y, (prvS t false 0 m Y).length = Y.length + 5 := fun m Y => by simp [prvS]
  refine CallF.func B_cut_ship_can_1 ((can_1_spec hf hok _ s hs (X.length + 6) (fun i s' => ∃ m, KnownOk t m ∧ s' = prvS t false 0 m (X ++ prvY sets s k (X.length + 5) asg' body' .ready none) ∧ ∀ a ∈ canU t s i, sets.contains ((rem1 s a : Nat) : Int) = true)
    (fun s' => ∃ m, KnownOk t m ∧ heldB t sets (s : Int) = false ∧ s' = prvS t false 0 m (X ++ prvY sets s k (X.length + 5) asg' body' .done (some .ret))) ?_ ?_ ?_ ?_ ?_).mono ?_)
  · rintro i s' ⟨m, hm, rfl, _⟩
    exact prvS_ship hm _
  · rintro i s' m' ⟨m, hm, rfl, hn⟩ hm'
    exact ⟨m', hm', by simp [prvS], hn⟩
  · rintro i s' tl2 hi hw ⟨m2, hm2, rfl, hn⟩ _
    refine CallV.round (e := prvN sets s k) (D := X.length + 5) (pend := none) ca cb hps (by simp [prvY, happ, hg1]) rfl ?_
    refine awpC_sound _ ?_
    simp [putArgs, prvN, prvY, happ, hs1, hg1]
    refine ⟨_, _, _, _, _, _, _, ⟨rfl, rfl, rfl, rfl, rfl, rfl, rfl⟩, ?_⟩
    refine awpC_sound _ ?_
    simp
    refine (tf (sets.contains ((rem1 s i : Nat) : Int))).elim (fun hr => ?_) (fun hr => ?_)
    · refine CallK.pureE B_slices_Contains_int_int (slices_Contains_int_spec sets _ hl _) (congrArg AVal.bool hr) ?_
      have hno : heldB t sets (s : Int) = false := by
        unfold heldB
        rw [Int.toNat_natCast, ← canU_all hf hs, List.all_eq_false]
        refine ⟨i, ?_, by rw [hr]; simp⟩
        obtain ⟨r, hr'⟩ := canU_prefix t s (7 - (i + 1)) (i + 1)
        rw [show i + 1 + (7 - (i + 1)) = 7 by omega, canU_succ, if_pos hw] at hr'
        rw [← hr']; simp
      simp [hq0, hq1, hq2, hq3]
      unfold roundQ
      simp [hg1]
      exact ⟨53, prvN sets s k, [46, 47], asg', body', X.length + 5, ⟨rfl, rfl, rfl, rfl, rfl, rfl⟩, prvS t false 0 m2 (X ++ prvY sets s k (X.length + 5) asg' body' .done (some .ret)), ⟨[], by simp [hs1, happ, prvY, prvN]⟩, by simp [prvY, hlen], m2, hm2, hno, by simp [prvY, prvN]⟩
    · refine CallK.pureE B_slices_Contains_int_int (slices_Contains_int_spec sets _ hl _) (congrArg AVal.bool hr) ?_
      have hyes : ∀ a ∈ canU t s (i + 1), sets.contains ((rem1 s a : Nat) : Int) = true := fun a ha => by
        rw [canU_succ, if_pos hw, List.mem_append, List.mem_singleton] at ha
        rcases ha with ha | rfl
        · exact hn a ha
        · exact hr
      simp
      exact ⟨53, prvN sets s k, [46, 47], asg', body', X.length + 5, .busy, none, by simp [hg1, prvN], prvS t false 0 m2 (X ++ prvY sets s k (X.length + 5) asg' body' .ready none), ⟨[], by simp [hs1, happ, prvY, prvN]⟩, by simp [prvY, hlen], .inl ⟨rfl, m2, hm2, by simp [prvY, prvN], by simpa using hyes⟩⟩
  · rintro i s' hi hw ⟨m, hm, rfl, hn⟩
    exact ⟨m, hm, rfl, by rw [canU_succ, if_neg hw, List.append_nil]; exact hn⟩
  · exact ⟨m, hm, rfl, by simp [canU]⟩
  · rintro r σ' ⟨rfl, s2, tl2, rfl, _, ⟨m2, hm2, rfl, hn⟩ | ⟨m2, hm2, hno, rfl⟩⟩
    · refine ⟨53, prvN sets s k, [46, 47], asg', body', X.length + 5, .ready, none, by simp [prvY, happ, hg1], by simp, ?_⟩
      simp only [prvY, happ, hs1, List.append_assoc, List.cons_append, List.nil_append]
      have hwk : IntKind.i64.wrap ((k : Int) + 1) = (k : Int) + 1 := wrap_id (by omega) (by unfold maxLen at hl; omega)
      simp [hwk]
      refine ⟨sets.length - (k + 1), by omega, k + 1, m2, hm2, X ++ (prvY sets s k (X.length + 5) asg' body' .exhausted none ++ tl2), X.length :: cs, by rw [List.nodup_cons]; exact ⟨hXc, hcn⟩, ?_, ⟨by omega, by simp [collsO]⟩, rfl, ?_, by omega, rfl⟩
      · intro c hc
        rcases List.mem_cons.1 hc with rfl | hc
        · simp [prvY]
        · rw [List.getElem?_append_left (List.getElem?_eq_some_iff.1 (hcd _ hc)).1]; exact hcd c hc
      · intro j hj hjk
        rcases Nat.lt_or_ge j k with g | g
        · exact hheld j hj g
        · obtain rfl : j = k := by omega
          rw [hx]
          unfold heldB
          rw [Int.toNat_natCast, ← canU_all hf hs, List.all_eq_true]
          exact hn
    · refine ⟨53, prvN sets s k, [46, 47], asg', body', X.length + 5, .done, some .ret, by simp [prvY, happ, hg1], by simp, ?_⟩
      simp only [prvY, happ, hs1, List.append_assoc, List.cons_append, List.nil_append]
      have hB : provesB t sets = false := by
        have : sets.all (heldB t sets) = false := List.all_eq_false.2 ⟨_, hxm, by rw [hno]; simp⟩
        unfold provesB; rw [this]; simp
      have hg5 : ∀ m a Y, (prvS t false 0 m (X ++ a :: Y))[X.length + 5]? = some a := fun m a Y => by simp [prvS]
      have hs5 : ∀ m a a' Y, (prvS t false 0 m (X ++ a :: Y)).set (X.length + 5) a' = prvS t false 0 m (X ++ a' :: Y) := fun m a a' Y => by simp [prvS]
      simp [hq0, hq1, hg5, hs5]
      refine off_baseO (B := 0) (o := 5) (S := [.box [.bool false], .box [ii' 0], .arr 1 (aboveV t), .amap (mapN m2), .box (cutC t 2 (gasT t))]) (by simp) (fun X => ?_) cs (X ++ .dead :: .looprec 53 (prvN sets s k) [46, 47] asg' body' (X.length + 5) .exhausted (some .ret) :: tl2) hcn fun c hc => ?_
      · rw [hB, hE]
        simp [prvV]
      · rw [List.getElem?_append_left (List.getElem?_eq_some_iff.1 (hcd _ hc)).1]; exact hcd c hc
end Go.AM
namespace Go.AM
open Go.Proofs
set_option maxRecDepth 100000
set_option maxHeartbeats 1000000
def exBow : ByteArray := ⟨#[98, 111, 119]⟩
def exMid : ByteArray := ⟨#[109, 105, 100]⟩
def exStern : ByteArray := ⟨#[115, 116, 101, 114, 110]⟩
def exParts (on : List ByteArray) : List HuM := [⟨exBow, 2, 0, 10, [], 1, 1⟩, ⟨exMid, 1, 5, 30, on, 1, 1⟩, ⟨exStern, 1, 25, 40, [], 1, 1⟩]
def exHull : HullM := ⟨[⟨exBow, 100, 1000, 1200, 50, 10, 12⟩, ⟨exMid, 400, 500, 600, 100, 4, 5⟩, ⟨exStern, 900, 2000, 2000, 100, 20, 20⟩], 200, 800⟩
def exNet (w : Bool) : NetM := ⟨[⟨⟨#[97]⟩, true⟩, ⟨⟨#[98]⟩, false⟩, ⟨⟨#[99]⟩, false⟩, ⟨⟨#[100]⟩, false⟩, ⟨⟨#[101]⟩, false⟩], [⟨0, 1, w⟩, ⟨1, 2, false⟩, ⟨0, 2, false⟩, ⟨2, 3, false⟩, ⟨3, 4, false⟩, ⟨2, 4, false⟩]⟩
def exT (a b : Bool) : TaskM := ⟨exParts (if a then [exBow] else []), exHull, 0, 60, exNet false, [3, 5], [⟨3, false⟩, ⟨4, false⟩, ⟨3, true⟩, ⟨4, true⟩], [[], [3, 4], if b then [2] else []]⟩
theorem l05_span_spec (a b : Int) (σ : AHeap) : Spec Tryz.prog F_l05_span [ii' a, ii' b] σ fun r σ' => r = .ret (.agg [ii' a, ii' b]) ∧ σ' = σ := by
  refine Spec.pureFn (spec_l05_span (by simp) (awpC_sound _ ?_)) rfl rfl σ
  simp [C_l05_span]
theorem l06_span_spec (a b : Int) (σ : AHeap) : Spec Tryz.prog F_l06_span [ii' a, ii' b] σ fun r σ' => r = .ret (.agg [ii' a, ii' b]) ∧ σ' = σ := by
  refine Spec.pureFn (spec_l06_span (by simp) (awpC_sound _ ?_)) rfl rfl σ
  simp [C_l06_span]
theorem l04_Net_spec (w : Bool) (σ : AHeap) : Spec Tryz.prog F_l04_Net [.bool w] σ fun r σ' => r = .ret (exNet w).v ∧ σ' = σ := by
  refine Spec.pureFn (spec_l04_Net (by simp) (awpC_sound _ ?_)) rfl (NetM.pure _) σ
  simp [C_l04_Net, exNet, NetM.v, NetM.cells, TankM.v, TankM.cells, PipeM.v, PipeM.cells]
theorem l05_Hull_spec (σ : AHeap) : Spec Tryz.prog F_l05_Hull [] σ fun r σ' => r = .ret exHull.v ∧ σ' = σ := by
  refine Spec.pureFn (spec_l05_Hull (by simp) (awpC_sound _ ?_)) rfl rfl σ
  simp [C_l05_Hull]
  refine CallK.pure B_l05_span (l05_span_spec 1000 1200 _) ?_
  simp
  refine CallK.pure B_l05_span (l05_span_spec 10 12 _) ?_
  simp
  refine CallK.pure B_l05_span (l05_span_spec 500 600 _) ?_
  simp
  refine CallK.pure B_l05_span (l05_span_spec 4 5 _) ?_
  simp
  refine CallK.pure B_l05_span (l05_span_spec 2000 2000 _) ?_
  simp
  refine CallK.pure B_l05_span (l05_span_spec 20 20 _) ?_
  simp [exHull, HullM.v, HullM.cells, PartM.v, PartM.cells, exBow, exMid, exStern]
theorem l06_Task_1_spec (n : ByteArray) (k a b : Int) (σ : AHeap) : Spec Tryz.prog F_l06_Task_1 [.str n, ii' k, ii' a, ii' b] σ fun r σ' => r = .ret (HuM.v ⟨n, k, a, b, [], 1, 1⟩) ∧ σ' = σ := by
  refine Spec.pureFn (spec_l06_Task_1 (by simp) (awpC_sound _ ?_)) rfl rfl σ
  simp [C_l06_Task_1]
  refine CallK.pure B_l06_span (l06_span_spec 1 1 _) ?_
  simp [HuM.v, HuM.cells]
theorem l06_Task_spec (a b : Bool) (σ : AHeap) : Spec Tryz.prog F_l06_Task [.bool a, .bool b] σ fun r σ' => r = .ret (exT a b).v ∧ σ' = σ := by
  refine Spec.pureFn (spec_l06_Task (by simp) (awpC_sound _ ?_)) rfl (TaskM.pure _) σ
  simp [C_l06_Task]
  refine CallK.pure B_l06_Task_1 (l06_Task_1_spec exBow 2 0 10 _) ?_
  simp
  refine CallK.pure B_l06_Task_1 (l06_Task_1_spec exMid 1 5 30 _) ?_
  simp
  refine CallK.pure B_l06_Task_1 (l06_Task_1_spec exStern 1 25 40 _) ?_
  simp [HuM.v, HuM.cells]
  refine CallK.pure B_l05_Hull (l05_Hull_spec _) ?_
  simp
  refine CallK.pure B_l06_span (l06_span_spec 0 60 _) ?_
  simp
  refine CallK.pure B_l04_Net (l04_Net_spec false _) ?_
  simp [HullM.v, HullM.cells, NetM.v, NetM.cells]
  refine ⟨fun h => ?_, fun h => ?_⟩ <;> subst h <;> refine ⟨fun h => ?_, fun h => ?_⟩ <;> subst h <;> rfl
theorem exOk (a b : Bool) : (exT a b).Ok := by
  cases a <;> cases b <;> exact ⟨by constructor <;> simp [exT, exParts] <;> decide, by decide, by decide, by decide, by decide, by decide, by decide, by decide⟩
end Go.AM
namespace Go.AM
open Go.Proofs
set_option maxRecDepth 100000
set_option maxHeartbeats 1000000
theorem exBad1 : badE (exT false false) [0, 1] = (1, 4, 0) := by decide +kernel
theorem exBad2 : badE (exT false true) [0, 2] = (1, 3, 0) := by decide +kernel
theorem exBeh : behindE (exT false false) [] = 0 ∧ canL (exT false false) (leftT (exT false false) []) = [0, 1] ∧ nextL (exT false false) (leftT (exT false false) []) = [0] := by decide +kernel
theorem exFirst : firstL (exT false false) = [0, 2, 1] ∧ firstE (exT false false) = 0 := by decide +kernel
theorem exMost : firstE (exT true false) = 9 ∧ mostL (exT true false) = [1] ∧ (checkT (exT true false)).2.2 = 0 := by decide +kernel
theorem exTo : toL (exT false false) 2 = [0, 2] ∧ toE (exT false false) 2 = 0 := by decide +kernel
theorem exProof : proofL (exT false true) = [5, 6, 7] ∧ proofE (exT false true) = 0 ∧ (bfsT (exT false true)).length ≤ 12 := by decide +kernel
theorem exProves : provesB (exT false true) [7, 6, 5] = true ∧ provesE (exT false true) [7, 6, 5] = 0 ∧ provesB (exT false true) [7, 6] = false ∧ provesE (exT false true) [7, 6] = 0 := by decide +kernel
end Go.AM
