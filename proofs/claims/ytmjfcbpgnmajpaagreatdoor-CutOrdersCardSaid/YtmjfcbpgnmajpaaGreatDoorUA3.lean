/- Most and To: of the document. -/
import Derived.Test.YtmjfcbpgnmajpaaGreatDoorUA2
import Derived.Test.YtmjfcbpgnmajpaaGreatDoorP21
namespace Go.AM
open Go.Proofs
set_option maxRecDepth 100000
set_option maxHeartbeats 1000000
theorem TF (t : ah) (hf : t.Fit) (k : Nat) (hk : k ≤ 7) (σ : af) : Spec Tryz.prog TN [s5 t,nn' (aP t),nn' k, .slice 1 []] σ fun r σ' => r = .ret (S3 (SX t k (aP t) [])) ∧ σ' = σ := Tv t hf k (aP t) [] (Sub.all t) (by simpa using hk) σ
theorem Tl (t : ah) (hok : t.Ok) (σ : af) : Spec Tryz.prog TX [t.v] σ fun r σ' => r = .ret (gX (qn t) (aN t).2.2) ∧ σ' = σ := by
  refine Spec.ay (Uo (by simp) (aa _ ?_)) (by simp [aM,t.pure]) (mI _ _) σ
  have ho := fun σ => SY t hok σ
  unfold Tp at ho
  obtain ⟨b,hb⟩ : ∃ b,gX (qn t) (aN t).2.2 = b := ⟨_,rfl⟩
  have hb' := hb
  unfold gX qn at hb'
  rw [hb]
  simp [T7,ah.v,ah.cells]
  refine (Classical.em ((aN t).2.2 = 0)).elim (fun h => ?_) (fun h => ?_)
  rotate_left
  · simp only [if_neg h] at ho hb'
    refine aj.pure TH (ho _) ?_
    simp [h]
    rw [← hb']; rfl
  simp only [if_pos h] at ho hb'
  rw [h] at hb'
  have hf := bm h
  have h7 := hf.ship7
  have hpa : pop (aP t) = t.ar.length := Ac _ h7
  have hle : aR t (aP t) ≤ t.ar.length := by rw [← hpa]; exact jN hf (bU hf)
  refine aj.pure TH (ho _) ?_
  simp [s5]
  refine AW.loop (ι := Nat) (fun m fr σ => fr = { v := [(4, .pval (.agg [nn' t.ar.length, .slice 1 (gq t (2 ^ t.ar.length))])),(5,nn' (aP t)),(7,nn' m)],ds := [] } ∧ σ = [.dead] ∧ m ≤ t.ar.length ∧ aR t (aP t) ≤ m) (fun m => m) t.ar.length ⟨by simp,rfl,by omega,hle⟩ ?_
  rintro m fr σ ⟨rfl,rfl,hm,hmm⟩
  refine (Classical.em (m = 0)).elim (fun h0 => ?_) (fun h0 => ?_)
  · subst h0
    have hz : cK t (aP t) = [] := mT (by omega)
    refine aa _ ?_
    simp [← hb',hz]
  have hpos : 0 < m := by omega
  have hw1 : IntKind.i64.wrap ((m : Int) - 1) = ((m - 1 : Nat) : Int) := by rw [an (by omega) (by omega)]; omega
  have hor := fun σ => TF t hf m (by omega) σ
  have hne := S6 hf (k := m) (b := []) (bU hf)
  refine aa _ ?_
  simp [hpos]
  refine aj.pure TW (hor _) ?_
  refine (Nat.lt_or_ge (aR t (aP t)) m).elim (fun hlt => ?_) (fun hge => ?_)
  · have he : SX t m (aP t) [] = [] := Classical.byContradiction fun e => by have := hne.1 e; omega
    simp [S3,he,hw1]
    exact ⟨m - 1,by omega,rfl,by omega,by omega⟩
  · have hh := Tm hf (k := m) (s := aP t) (b := []) (bU hf) (by omega)
    obtain ⟨r,hr⟩ : ∃ r,SX t m (aP t) [] = cK t (aP t) :: r := by
      cases ho : SX t m (aP t) [] with
      | nil => rw [ho] at hh; cases hh
      | cons x r => rw [ho] at hh; cases hh; exact ⟨r,by simp⟩
    simp [S3,hr,Tk]
    exact hb'
theorem Tw (t : ah) (hok : t.Ok) (p : Int) (σ : af) : Spec Tryz.prog TY [t.v,ii' p] σ fun r σ' => r = .ret (gX (toL t p) (toE t p)) ∧ σ' = σ := by
  refine Spec.ay (Ug (by simp) (aa _ ?_)) (by simp [aM,t.pure]) (mI _ _) σ
  have ho := fun σ => SY t hok σ
  unfold Tp at ho
  obtain ⟨b,hb⟩ : ∃ b,gX (toL t p) (toE t p) = b := ⟨_,rfl⟩
  have hb' := hb
  unfold gX toL toE at hb'
  rw [hb]
  simp [T3,ah.v,ah.cells]
  refine (Classical.em ((aN t).2.2 = 0)).elim (fun h => ?_) (fun h => ?_)
  rotate_left
  · have he : bz t [p] = (aN t).2.2 := by unfold bz; rw [if_pos h]
    rw [he,if_neg h,if_neg h] at hb'
    simp only [if_neg h] at ho
    refine aj.pure TH (ho _) ?_
    simp [h]
    rw [← hb']; rfl
  simp only [if_pos h] at ho
  have hf := bm h
  have h7 := hf.ship7
  refine aj.pure TH (ho _) ?_
  simp [s5]
  have hin := fun σ => qJ p t.ar.length σ
  refine (tf (decide (0 ≤ p) && decide (p < t.ar.length))).elim (fun hi => ?_) (fun hi => ?_)
  · have he : bz t [p] = 4 := by
      unfold bz
      rw [if_neg (by simp [h]),if_neg]
      simp only [List.all_cons,List.all_nil,Bool.and_true,inO,hi]; simp
    rw [he,if_neg (by omega),if_neg (by omega)] at hb'
    refine aj.aD Md (hin _) (congrArg ab.bool hi) ?_
    simp
    rw [← hb']; rfl
  refine aj.aD Md (hin _) (congrArg ab.bool hi) ?_
  simp only [Bool.and_eq_true,decide_eq_true_eq] at hi
  obtain ⟨q,rfl⟩ : ∃ q : Nat,p = q := ⟨p.toNat,by omega⟩
  have hq : q < t.ar.length := by omega
  have he := TA h q hq
  rw [he,if_pos rfl,if_pos rfl,Int.toNat_natCast] at hb'
  simp
  refine AW.loop (ι := Nat) (fun m fr σ => fr = { v := [(1,nn' q),(6, .pval (.agg [nn' t.ar.length, .slice 1 (gq t (2 ^ t.ar.length))])),(7,nn' (aP t)),(9,nn' m)],ds := [] } ∧ σ = [.dead] ∧ 1 ≤ m ∧ m ≤ t.ar.length + 1 ∧ ∀ k,0 < k → k < m → (SX t k (aP t) []).any (S8 q) = false) (fun m => t.ar.length + 1 - m) 1 ⟨by simp,rfl,by omega,by omega,fun k h1 h2 => by omega⟩ ?_
  rintro m fr σ ⟨rfl,rfl,hm1,hm,hall⟩
  refine (Nat.lt_or_ge t.ar.length m).elim (fun hgt => ?_) (fun hle => ?_)
  · obtain rfl : m = t.ar.length + 1 := by omega
    rw [TR hf hq hall] at hb'
    have hnn : ¬ (t.ar.length : Int) + 1 ≤ t.ar.length := by omega
    refine aa _ ?_
    simp [hnn]
    rw [← hb']; rfl
  have hw1 : IntKind.i64.wrap ((m : Int) + 1) = ((m + 1 : Nat) : Int) := by rw [an (by omega) (by omega)]; simp
  have hw2 : IntKind.i64.wrap ((m : Int) - 1) = ((m - 1 : Nat) : Int) := by rw [an (by omega) (by omega)]; omega
  have hor := fun σ => TF t hf m (by omega) σ
  obtain ⟨L,hL⟩ : ∃ L,SX t m (aP t) [] = L := ⟨_,rfl⟩
  have hLl : L.length ≤ 7 ^ 7 := by
    rw [← hL]
    exact Nat.le_trans (S5 hf) (Nat.pow_le_pow_right (by omega) (by omega))
  have h77 : (7 : Nat) ^ 7 = 823543 := by decide
  rw [hL] at hor
  refine aa _ ?_
  simp [hle]
  refine aj.pure TW (hor _) ?_
  simp [S3]
  refine AW.loop (ι := Nat) (fun i fr σ => fr = { v := [(1,nn' q),(6, .pval (.agg [nn' t.ar.length, .slice 1 (gq t (2 ^ t.ar.length))])),(7,nn' (aP t)),(9,nn' m),(10, .slice 1 (L.map Tk)),(11,nn' i)],ds := [] } ∧ σ = [.dead] ∧ i ≤ L.length ∧ (L.take i).any (S8 q) = false) (fun i => L.length - i) 0 ⟨by simp,rfl,by omega,by simp⟩ ?_
  rintro i fr σ ⟨rfl,rfl,hi,hno⟩
  refine (Nat.lt_or_ge i L.length).elim (fun hil => ?_) (fun hig => ?_)
  rotate_left
  · have hnl : ¬ i < L.length := by omega
    rw [List.take_of_length_le hig] at hno
    refine aa _ ?_
    simp [hnl,hw1]
    refine ⟨m + 1,by omega,by simp,by omega,by omega,fun k h1 h2 x hx => ?_⟩
    rcases Nat.lt_or_ge k m with h3 | h3
    · simpa using List.any_eq_false.1 (hall k h1 h3) x hx
    · obtain rfl : k = m := by omega
      rw [hL] at hx
      simpa using List.any_eq_false.1 hno x hx
  obtain ⟨o,hoo⟩ : ∃ o,L[i] = o := ⟨_,rfl⟩
  have hom : o ∈ SX t m (aP t) [] := by rw [hL, ← hoo]; exact List.getElem_mem hil
  have hol := (S0.1 hom).1
  have hml : m - 1 < o.length := by omega
  obtain ⟨z,hz⟩ : ∃ z,o[m - 1] = z := ⟨_,rfl⟩
  have hlast : o.getLast? = some z := by
    rw [List.getLast?_eq_getElem?,hol,List.getElem?_eq_getElem hml,hz]
  have hwi : IntKind.i64.wrap ((i : Int) + 1) = ((i + 1 : Nat) : Int) := by rw [an (by omega) (by omega)]; simp
  have hmz : o[m - 1]? = some z := by rw [List.getElem?_eq_getElem hml,hz]
  refine aa _ ?_
  refine (Classical.em (z = q)).elim (fun hzq => ?_) (fun hzq => ?_)
  · subst hzq
    obtain ⟨Q,g1,g2⟩ := TM hf hq hall (by rw [hL]; exact hil) (by simp only [hL]; exact hoo) (by rw [hL]; exact hno) (by simp [S8,hlast])
    rw [g1] at hb'
    simp [hil,hoo,Tk,hw2,hml,hz]
    rw [← hb', ← g2]
  · have hzI : ¬ (z : Int) = (q : Int) := by omega
    have hen : S8 q o = false := by simp [S8,hlast,hzq]
    simp [hil,hoo,Tk,hw2,hml,hz,hzq,hwi]
    refine ⟨fun e => absurd e hzI,fun _ => ⟨i + 1,by omega,by simp,by omega,fun x hx => ?_⟩⟩
    rw [List.take_add_one,List.getElem?_eq_getElem hil,hoo] at hx
    rcases List.mem_append.1 hx with hx | hx
    · simpa using List.any_eq_false.1 hno x hx
    · have : x = o := by simpa using hx
      rw [this]; exact hen
end Go.AM
