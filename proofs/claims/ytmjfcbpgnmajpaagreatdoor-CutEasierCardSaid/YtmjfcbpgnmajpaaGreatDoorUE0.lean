/- A task with a tide within the other one, and a part that touches no tanks: what was good still is. The plain law. -/
import Derived.Test.YtmjfcbpgnmajpaaGreatDoorP25
import Derived.Test.YtmjfcbpgnmajpaaGreatDoorP21
namespace Go.AM
open Go.Proofs
set_option maxRecDepth 100000
set_option maxHeartbeats 1000000
def fq (t : ah) (lo hi : Int) (j : Nat) : ah := { t with lo := lo,hi := hi,tanks := t.tanks.set j [] }
theorem pZ {lo hi lo' hi' : Int} (h : bc (lo,hi) 0 1000 = 0) (h1 : lo ≤ lo') (h2 : lo' ≤ hi') (h3 : hi' ≤ hi) : bc (lo',hi') 0 1000 = 0 := by
  obtain ⟨g1,g2,g3⟩ := dU h
  rw [kR,if_neg,if_neg (by omega)]
  simp [aW,gA]; omega
theorem yO {h : aB} {lo hi lo' hi' : Int} (hs : bc (lo,hi) 0 1000 = 0) (h1 : lo ≤ lo') (h2 : lo' ≤ hi') (h3 : hi' ≤ hi) (hw : (gi h lo hi).1 = 0) : (gi h lo' hi').1 = 0 := by
  have hs' := pZ hs h1 h2 h3
  unfold gi at hw ⊢
  rw [hs] at hw
  rw [hs']
  by_cases he : eF h = 0
  · rw [if_neg (by simp [he]),if_neg (by simp)] at hw ⊢
    simp only at hw ⊢
    unfold iD at hw ⊢
    have hall : ∀ w,lo ≤ w → w ≤ hi → eU h w = 0 := by
      rcases om h lo (hi - lo + 1).toNat with ⟨e,g⟩ | ⟨w0,g1,g2,g3,_,e⟩
      · exact fun w k1 k2 => g w k1 (by omega)
      · rw [e] at hw; exact absurd hw g3
    rw [kT _ _ (fun w k1 k2 => hall w (by omega) (by omega))]
  · rw [if_pos (by simp [he])]
theorem mS {m : Int} : ∀ {l : List (List Int)} {i : Nat},(jn m l i).2.2 = 0 ↔ ∀ x ∈ l,qB m x = 0
  | [],i => by simp [jn]
  | x :: r,i => by
    rw [jn]
    split
    · rename_i h
      constructor
      · intro h2; exact absurd h2 h
      · intro h2; exact absurd (h2 x (by simp)) h
    · rename_i h
      have h : qB m x = 0 := by simpa using h
      rw [mS]
      simp [h]
theorem AY {α : Type} {l : List α} {j : Nat} {a x : α} (h : x ∈ l.set j a) : x ∈ l ∨ x = a := List.mem_or_eq_of_mem_set h
theorem wB {t : ah} (h : (aN t).2.2 = 0) : (fY t.ar).2.2 = 0 ∧ (eI t.ar t.hull.ps 0).1 = 0 ∧ (jn t.net.tanks.length t.tanks 0).2.2 = 0 := by
  have hf := bm h
  unfold aN at h
  split at h
  · rename_i h1; exact absurd h h1
  rename_i h1
  rw [if_neg (by simp [hf.err]),if_neg (by have := hf.hull; have := hf.ship7; omega)] at h
  split at h
  · rename_i h4
    rcases pQ (S := t.ar) (H := t.hull.ps) (i := 0) with e | e
    · exact absurd e h4
    · rw [e] at h; cases h
  rename_i h4
  rw [if_neg (by simp [hf.why]),if_neg (by simp [hf.after]),if_neg (by simp [hf.tanks])] at h
  exact ⟨by simpa using h1,by simpa using h4,h⟩
theorem tF {h : aB} {lo hi : Int} (he : eF h = 0) (h2 : (gi h lo hi).2.2 = 0) : bc (lo,hi) 0 1000 = 0 := by
  unfold gi at h2
  rw [if_neg (by simp [he])] at h2
  split at h2
  · rename_i h1; exact absurd h2 h1
  · rename_i h1; simpa using h1
section
variable {t : ah} {lo hi : Int} {j : Nat} (h : (aN t).2.2 = 0) (h1 : t.lo ≤ lo) (h2 : lo ≤ hi) (h3 : hi ≤ t.hi)
include h h1 h2 h3
theorem zq : (aN (fq t lo hi j)).2.2 = 0 := by
  have hf := bm h
  obtain ⟨p1,p2,p3⟩ := wB h
  have hs := pZ (tF hf.err hf.why) h1 h2 h3
  unfold aN fq
  simp only
  rw [if_neg (by simp [p1]),if_neg (by simp [hf.err]),if_neg (by have := hf.hull; have := hf.ship7; omega),if_neg (by simp [p2]),if_neg,if_neg (by simp [hf.after]),if_neg (by simp [hf.tanks]),mS]
  · intro x hx
    rcases AY hx with hx | rfl
    · exact mS.1 p3 x hx
    · rfl
  · unfold gi
    rw [if_neg (by simp [hf.err]),if_neg (by simp [hs])]
    simp
theorem wS {s i : Nat} (hil : i < t.ar.length) (hw : bD t s i = 0) : bD (fq t lo hi j) s i = 0 := by
  have hf := bm h
  have hs := tF hf.err hf.why
  have ha : bN (fq t lo hi j) i = bN t i := rfl
  unfold bD at hw ⊢
  rw [ha]
  split at hw
  · cases hw
  rename_i b1
  split at hw
  · cases hw
  rename_i b2
  split at hw
  · cases hw
  rename_i b3
  split at hw
  · cases hw
  rename_i b4
  rw [if_neg b1,if_neg b2,if_neg,if_neg]
  · unfold eD at b4 ⊢
    rw [Bool.not_eq_true,Bool.and_eq_false_iff] at b4
    rw [Bool.not_eq_true,Bool.and_eq_false_iff]
    refine b4.imp id fun b => ?_
    have b : k6 t (aK s i) = 0 := by simpa using b
    have : k6 (fq t lo hi j) (aK s i) = 0 := yO hs h1 h2 h3 b
    simp [this]
  · intro hg
    apply b3
    unfold iN at hg ⊢
    have hfr : cH (fq t lo hi j) = cH t := rfl
    rw [hfr,oV,jD] at hg
    rw [oV,jD]
    simp only [fq,Nat.zero_testBit,Bool.false_or,Nat.zero_le,decide_true,Bool.true_and,Nat.sub_zero] at hg ⊢
    rw [List.getElem?_set] at hg
    by_cases hij : j = i
    · subst hij
      by_cases hjl : j < t.tanks.length
      · simp [hjl] at hg
      · simp [hjl] at hg
    · rw [if_neg hij] at hg
      exact hg
theorem Ab : ∀ {l : List Nat} {s s' : Nat},goT t l s = some s' → goT (fq t lo hi j) l s = some s'
  | [],s,s',hg => by rw [goT] at hg ⊢; exact hg
  | i :: r,s,s',hg => by
    rw [goT] at hg ⊢
    split at hg
    · rename_i h4
      rw [if_pos ⟨h4.1,wS h h1 h2 h3 h4.1 h4.2⟩]
      exact Ab hg
    · cases hg
theorem Ck {s i : Nat} (him : i ∈ bq t s) : i ∈ bq (fq t lo hi j) s := by
  obtain ⟨g1,g2⟩ := bg.1 him
  exact bg.2 ⟨g1,wS h h1 h2 h3 g1 g2⟩
end
theorem ES {t : ah} (h : t.Ok) (lo hi : Int) (j : Nat) : (fq t lo hi j).Ok where
  ar := h.ar
  hull := h.hull
  tk := h.tk
  pp := h.pp
  bl := h.bl
  st := h.st
  tl := by simpa [fq] using h.tl
  tls := fun l hl => by
    rcases AY hl with hl | rfl
    · exact h.tls l hl
    · simp
end Go.AM
