/- Lines whose work is known, behind yard.after: whatever the first box holds. -/
import Derived.Test.YtcdfnopkemadjaaGreatDoorP26
namespace Go.AM
open Go.Proofs
set_option maxRecDepth 100000
structure LbE where
  b : List aa
  q : Nat
  t : ab
  m : Nat
  l : LnE
def LbE.at (x : LbE) : ab := .box x.b :: .spare 1 x.q :: .dead :: .box x.l.d :: x.t
def LbE.to (x : LbE) : ab := .box x.b :: .spare 1 x.q :: .dead :: .box x.l.e :: (x.t ++ dd x.m)
def LbOk (x : LbE) : Prop := af Tryz.prog pj = true ∧ Spec Tryz.prog pj [.ptr 3 0, x.l.s] x.at fun q σ => q = .ret x.l.a ∧ σ = x.to
def LbsOk : List LbE → Prop
  | [] => True
  | e :: r => LbOk e ∧ LbsOk r
theorem LbOk.of {l : List aA} (hl : aB Tryz.prog l) {x : LbE} (h : (F4 Tryz.prog fH l).eff pj [.ptr 3 0, x.l.s] x.at = some (.ret x.l.a, x.to)) : LbOk x :=
  (qf hl).2 _ _ _ _ _ h
def lbGo : List LbE → List aa → ab → XR
  | [], _, _ => none
  | e :: r, args, σ => match args, σ with
    | [.ptr 3 0, s], .box b :: .spare 1 q :: .dead :: .box d :: t => if bm e.l.s s && Nat.beq e.q q && fy e.l.d d && fy e.b b && lx e.t t then some (.ret e.l.a, e.to) else lbGo r args σ
    | _, _ => none
theorem lbGo_ok : ∀ {l : List LbE}, LbsOk l → ∀ args σ a σ', lbGo l args σ = some (a, σ') → af Tryz.prog pj = true ∧ Spec Tryz.prog pj args σ fun q σ'' => q = a ∧ σ'' = σ'
  | [], _, _, _, _, _, h => by cases h
  | e :: r, ⟨he, hr⟩, args, σ, a, σ', h => by
    unfold lbGo at h
    split at h
    · rename_i s b q d t
      split at h
      · rename_i hc
        simp only [Bool.and_eq_true] at hc
        obtain ⟨⟨⟨⟨h1, h2⟩, h3⟩, h5⟩, h4⟩ := hc
        have e1 := dp h1
        have e2 := Nat.eq_of_beq_eq_true h2
        have e3 := cU h3
        have e4 := jl h4
        have e5 := cU h5
        cases h
        have := he
        unfold LbOk LbE.at at this
        rw [e1, e2, e3, e4, e5] at this
        exact this
      · exact lbGo_ok hr _ _ _ _ h
    · cases h
def lbO (l : List aA) (t : List LbE) : Orc := ⟨(Hn l).go, fun f args σ => if f = pj then lbGo t args σ else om f args σ⟩
theorem lbO_ok {l : List aA} (h : aB Tryz.prog l) {t : List LbE} (ht : LbsOk t) : fV Tryz.prog (lbO l t) := by
  refine ⟨(kE h).1, fun f args σ a σ' hx => ?_⟩
  simp only [lbO] at hx
  split at hx
  · rename_i e; subst e; exact lbGo_ok ht _ _ _ _ hx
  · exact mD _ _ _ _ _ hx
theorem knB {l : List aA} (hl : aB Tryz.prog l) {t : List LbE} (ht : LbsOk t) {e : aA} (h : isV e.v (xFc Tryz.prog fH 5000 (gB Tryz.prog fH (lbO l t) 5000 60) [] e.f e.args []) = true) (hb : af Tryz.prog e.f = true) (h2 : cF e.args = true) (h3 : e.v.pure = true) : aq Tryz.prog e :=
  gI fY (lbO_ok hl ht) h hb h2 h3
def bxA : aa → bO
  | .tup [.agg l, _] => .box l
  | _ => .dead
def mLq : List (Nat × aa) := [(9, le0.a), (10, le1.a), (13, le2.a), (13, (le3 20).a), (13, (le4 20).a), (9, le5.a), (11, le6.a), (11, le7.a), (11, le8.a), (11, le9.a), (9, Sb.a), (13, VS.a), (9, ad2.a), (9, adv.a), (9, Vj.a), (9, aaG.a), (13, YK.a), (11, XH.a), (10, Ra.a), (13, SH.a)]
def hTn (n : Nat) : ab := (mLq.take n).flatMap fun x => dd x.1 ++ [bxA x.2]
def zBk : List aa := [jj 0, .bool false, jj 0, jj 0, .slice 1 [], .slice 2 [], .slice 3 [], .slice 1 [], .slice 5 [], .slice 4 []]
def lb0 : LbE := ⟨zBk, 0, hTn 0, 9, le0⟩
def lb1 : LbE := ⟨zBk, 0, hTn 1, 10, le1⟩
def lb2 : LbE := ⟨zBk, 0, hTn 2, 13, le2⟩
def lb3 : LbE := ⟨zBk, 1, hTn 3, 13, (le3 20)⟩
def lb4 : LbE := ⟨zBk, 2, hTn 4, 13, (le4 20)⟩
def lb5 : LbE := ⟨zBk, 3, hTn 5, 9, le5⟩
def lb6 : LbE := ⟨zBk, 3, hTn 6, 11, le6⟩
def lb7 : LbE := ⟨zBk, 4, hTn 7, 11, le7⟩
def lb8 : LbE := ⟨zBk, 5, hTn 8, 11, le8⟩
def lb9 : LbE := ⟨zBk, 6, hTn 9, 11, le9⟩
def lb10 : LbE := ⟨zBk, 7, hTn 10, 9, Sb⟩
def lb11 : LbE := ⟨zBk, 7, hTn 11, 13, VS⟩
def lb12 : LbE := ⟨zBk, 8, hTn 12, 9, ad2⟩
def lb13 : LbE := ⟨zBk, 8, hTn 13, 9, adv⟩
def lb14 : LbE := ⟨zBk, 8, hTn 14, 9, Vj⟩
def lb15 : LbE := ⟨zBk, 8, hTn 15, 9, aaG⟩
def lb16 : LbE := ⟨zBk, 8, hTn 16, 13, YK⟩
def lb17 : LbE := ⟨zBk, 9, hTn 17, 11, XH⟩
def lb18 : LbE := ⟨zBk, 9, hTn 18, 10, Ra⟩
def lb19 : LbE := ⟨zBk, 9, hTn 19, 13, SH⟩
end Go.AM
