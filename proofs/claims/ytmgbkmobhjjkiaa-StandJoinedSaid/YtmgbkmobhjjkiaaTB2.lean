/- StandJoined: two parts at one place press like one; the plain law. -/
import Derived.Test.YtmgbkmobhjjkiaaP7
import Derived.Test.YtmgbkmobhjjkiaaPA
namespace Go.AM
open Go.Proofs

def zz : ByteArray := ⟨#[122, 122]⟩
def joinQ (p : PartM) (a b : Int) : PartM := { p with name := zz, wLo := a, wHi := a + (p.wHi - p.wLo).tdiv 2, lLo := b, lHi := b + (p.lHi - p.lLo).tdiv 2 }
def joinP (p : PartM) (a b : Int) : PartM := { p with wLo := p.wLo - a, wHi := p.wHi - (a + (p.wHi - p.wLo).tdiv 2), lLo := p.lLo - b, lHi := p.lHi - (b + (p.lHi - p.lLo).tdiv 2) }
def joinH (h : HullM) (i : Nat) (p : PartM) (a b : Int) : HullM := { h with ps := (h.ps ++ [joinQ p a b]).set i (joinP p a b) }

theorem sumI_appJ (g : PartM → Int) (q : PartM) : ∀ (l : List PartM) (k : Nat), sumI (fun p _ => g p) k (l ++ [q]) = sumI (fun p _ => g p) k l + g q
  | [], k => by simp [sumI]
  | p :: r, k => by simp only [List.cons_append, sumI]; rw [sumI_appJ g q r (k + 1)]; omega
theorem sumI_setJ (g : PartM → Int) (q : PartM) : ∀ (l : List PartM) (i k : Nat) (hi : i < l.length), sumI (fun p _ => g p) k (l.set i q) = sumI (fun p _ => g p) k l - g l[i] + g q
  | p :: r, 0, k, _ => by simp only [List.set_cons_zero, sumI, List.getElem_cons_zero]; omega
  | p :: r, i + 1, k, hi => by
    simp only [List.set_cons_succ, sumI, List.getElem_cons_succ]
    rw [sumI_setJ g q r i (k + 1) (by simpa using hi)]; omega

theorem join_term (h : HullM) (p : PartM) (a b w : Int) (j : Nat) : termZ h w j (joinQ p a b) + termZ h w j (joinP p a b) = termZ h w j p := by
  have e1 : armZ h j (joinQ p a b) = armZ h j p := rfl
  have e2 : armZ h j (joinP p a b) = armZ h j p := rfl
  have e3 : (joinQ p a b).keel = p.keel := rfl
  have e4 : (joinP p a b).keel = p.keel := rfl
  unfold termZ
  rw [e1, e2, e3, e4]
  split
  · rw [← Int.mul_add]
    congr 1
    simp only [joinQ, joinP, Int.sub_mul]
    omega
  · rw [← Int.mul_add]
    congr 1
    simp only [joinQ, joinP, Int.sub_mul]
    generalize (b + (p.lHi - p.lLo).tdiv 2) * ovZ w p.keel = x
    omega

theorem join_least {h : HullM} {i : Nat} (hi : i < h.ps.length) {p : PartM} (hp : h.ps[i] = p) (a b w : Int) (j : Nat) : leastZ (joinH h i p a b) w j = leastZ h w j := by
  unfold leastZ
  show sumI (fun p _ => termZ h w j p) 0 ((h.ps ++ [joinQ p a b]).set i (joinP p a b)) = _
  rw [sumI_setJ (termZ h w j) _ _ _ _ (by simp; omega), sumI_appJ (termZ h w j), List.getElem_append_left hi, hp]
  have := join_term h p a b w j
  omega

theorem firstN_congr {h h' : HullM} (e : ∀ w, whyZ h' w = whyZ h w) : ∀ (n : Nat) (lo : Int), firstN h' lo n = firstN h lo n
  | 0, _ => rfl
  | n + 1, lo => by simp only [firstN, e, firstN_congr e n]

theorem join_tide {h : HullM} {i : Nat} (hi : i < h.ps.length) {p : PartM} (hp : h.ps[i] = p) (a b : Int) (he : eF h = 0) (he' : eF (joinH h i p a b) = 0) : tideR (joinH h i p a b) = tideR h := by
  have hw : ∀ w, whyZ (joinH h i p a b) w = whyZ h w := fun w => by unfold whyZ; rw [join_least hi hp, join_least hi hp, join_least hi hp]
  unfold tideR firstR
  rw [firstN_congr hw, he, he']
theorem zz_name : nameF zz = true := by decide
end Go.AM
