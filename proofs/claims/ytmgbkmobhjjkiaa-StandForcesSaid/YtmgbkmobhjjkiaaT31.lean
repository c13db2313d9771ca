/- What a name is: of the program and of the document. -/
import Derived.Test.YtmgbkmobhjjkiaaT30
import Derived.Laws.RangeAny
namespace Go.AM
open Go.Proofs
set_option maxRecDepth 100000

def insF (n lo hi : Int) : Bool := decide (lo ≤ n) && decide (n ≤ hi)
theorem r01_within_spec (n lo hi : Int) (σ : AHeap) : Spec Try.prog F_r01_within [.int .i64 n, .int .i64 lo, .int .i64 hi] σ fun r σ' => r = .ret (.bool (insF n lo hi)) ∧ σ' = σ := by
  refine Spec.pureFn (spec_r01_within (by simp) (awpC_sound _ ?_)) rfl rfl σ
  simp [C_r01_within, insF]
theorem r05_in_spec (n lo hi : Int) (σ : AHeap) : Spec Try.prog F_r05_in [.int .i64 n, .int .i64 lo, .int .i64 hi] σ fun r σ' => r = .ret (.bool (insF n lo hi)) ∧ σ' = σ := by
  refine Spec.pureFn (spec_r05_in (by simp) (awpC_sound _ ?_)) rfl rfl σ
  simp [C_r05_in, insF]

def byteF (s : ByteArray) (i : Nat) : Nat := (s.data[i]?.getD 0).toNat
def letterF (b : Nat) : Bool := decide (97 ≤ b) && decide (b ≤ 122)
def digitF (b : Nat) : Bool := decide (48 ≤ b) && decide (b ≤ 57)
def okAt (s : ByteArray) (i : Nat) : Bool := letterF (byteF s i) || (digitF (byteF s i) && i != 0)
def okAll (s : ByteArray) : Nat → Nat → Bool
  | _, 0 => true
  | i, n + 1 => okAt s i && okAll s (i + 1) n
def nameF (s : ByteArray) : Bool := decide (1 ≤ s.size) && decide (s.size ≤ 16) && okAll s 0 s.size

theorem byteF_get (s : ByteArray) (i : Nat) (h : i < s.size) : byteF s i = (s[i]'h).toNat := by
  have h' : i < s.data.size := h
  have e : s.data[i]?.getD 0 = s.data[i]'h' := by rw [Array.getElem?_eq_getElem h']; rfl
  unfold byteF
  rw [e]
  rfl

theorem nameF_bad {s : ByteArray} {i : Nat} (hlt : i < s.size) (hp : okAll s 0 s.size = okAll s i (s.size - i)) (h : okAt s i = false) : nameF s = false := by
  unfold nameF
  rw [hp, show s.size - i = (s.size - (i + 1)) + 1 by omega, okAll, h]
  simp

theorem get_data (b : ByteArray) (i : Nat) (h : i < b.data.toList.length) : b.get! i = b.data.toList[i] := by
  obtain ⟨a⟩ := b
  have h' : i < a.size := by simpa using h
  show a[i]! = _
  rw [getElem!_pos a i h']; simp
theorem bl (b : ByteArray) : ∀ (n i : Nat) (r : List UInt8), b.size - i = n → ByteArray.toList.loop b i r = r.reverse ++ (b.data.toList.drop i)
  | 0, i, r, h => by
    unfold ByteArray.toList.loop
    have : b.size ≤ i := by omega
    rw [if_neg (by omega)]
    have : b.data.toList.length ≤ i := by simpa using this
    rw [List.drop_eq_nil_of_le this]; simp
  | n + 1, i, r, h => by
    unfold ByteArray.toList.loop
    have hlt : i < b.size := by omega
    rw [if_pos hlt, bl b n (i + 1) _ (by omega)]
    have h' : i < b.data.toList.length := by simpa using hlt
    rw [List.drop_eq_getElem_cons h', get_data b i h']
    simp
theorem toList_data (b : ByteArray) : b.toList = b.data.toList := by
  unfold ByteArray.toList; rw [bl b _ 0 [] rfl]; simp
theorem toList_nil (s : ByteArray) : s.toList = [] ↔ s.size = 0 := by
  rw [toList_data]
  constructor
  · intro h
    have : s.data.toList.length = 0 := by rw [h]; rfl
    simpa using this
  · intro h
    have : s.data.toList.length = 0 := by simpa using h
    exact List.eq_nil_of_length_eq_zero this

theorem okAll_step (s : ByteArray) {i : Nat} (h : i < s.size) : okAll s i (s.size - i) = (okAt s i && okAll s (i + 1) (s.size - (i + 1))) := by
  rw [show s.size - i = (s.size - (i + 1)) + 1 by omega]; rfl

theorem hull_Name_spec (s : ByteArray) (σ : AHeap) : Spec Try.prog F_hull_Name [.str s] σ fun r σ' => r = .ret (.bool (nameF s)) ∧ σ' = σ := by
  refine Spec.pureFn (spec_hull_Name (by simp) (awpC_sound _ ?_)) rfl rfl σ
  simp [C_hull_Name]
  refine AW.loop (ι := Nat) (fun i fr σ => fr = { v := [(0, .str s), (8, .iter 0)], ds := [] } ∧ σ = [.siter s i] ∧ i ≤ s.size ∧ okAll s 0 s.size = okAll s i (s.size - i)) (fun i => s.size - i) 0 (by simp) ?_
  rintro i fr σ ⟨rfl, rfl, hi, hp⟩
  refine awpC_sound _ ?_
  simp
  split
  · rename_i hlt
    have hb := byteF_get s i hlt
    have hst := okAll_step s hlt
    have hd : ((Utf8.decode s i).1 = byteF s i ∧ (Utf8.decode s i).2 = 1 ∧ byteF s i < 128) ∨ (128 ≤ (Utf8.decode s i).1 ∧ 128 ≤ byteF s i) := by
      by_cases ha : (s[i]'hlt).toNat < 128
      · left; rw [Go.decode_ascii s i hlt ha, hb]; exact ⟨rfl, rfl, ha⟩
      · right; rw [hb]; exact ⟨(Go.decode_high s i hlt (by omega)).1, by omega⟩
    generalize Utf8.decode s i = d at hd ⊢
    obtain ⟨r, w⟩ := d
    simp only at hd ⊢
    refine ⟨fun h => ⟨h, fun h1 h2 => ⟨h, h1, h2⟩⟩, fun h1 h2 => nameF_bad hlt hp ?_, fun h => ?_⟩
    · simp [okAt, letterF, digitF]
      omega
    · have hok : okAt s i = true := by
        simp [okAt, letterF, digitF]
        omega
      have hw : w = 1 := by
        rcases hd with hd | hd
        · exact hd.2.1
        · exfalso
          have : okAt s i = false := by simp [okAt, letterF, digitF]; omega
          rw [hok] at this; cases this
      subst hw
      exact ⟨i + 1, by omega, rfl, by omega, by rw [hp, hst, hok]; rfl⟩
  · rename_i hge
    have : i = s.size := by omega
    subst this
    rw [Nat.sub_self] at hp
    unfold nameF
    rw [hp]
    rw [Bool.eq_iff_iff]
    simp [okAll]
    refine ⟨fun ⟨h1, h2⟩ => ⟨?_, by omega⟩, fun h => ⟨fun e => ?_, by omega⟩⟩
    · have h1' : ¬ s.size = 0 := fun e => h1 ((toList_nil s).2 e)
      omega
    · have := (toList_nil s).1 e
      omega

theorem r01_Name_spec (s : ByteArray) (σ : AHeap) : Spec Try.prog F_r01_Name [.str s] σ fun r σ' => r = .ret (.bool (nameF s)) ∧ σ' = σ := by
  refine Spec.pureFn (spec_r01_Name (by simp) (awpC_sound _ ?_)) rfl rfl σ
  simp [C_r01_Name]
  refine CallK.pure B_r01_within (r01_within_spec s.size 1 16 _) ?_
  simp
  have hb : ∀ i : Nat, ((s.data[i]?.getD 0).toNat : Int) = (byteF s i : Int) := fun _ => rfl
  simp only [hb]
  have hin : insF (s.size : Int) 1 16 = true ↔ 1 ≤ s.size ∧ s.size ≤ 16 := by simp [insF]; omega
  have hin' : insF (s.size : Int) 1 16 = false ↔ ¬ (1 ≤ s.size ∧ s.size ≤ 16) := by rw [← hin]; simp
  simp only [hin, hin']
  refine ⟨fun h => ⟨h, by omega⟩, fun h h2 => ⟨⟨h, h2⟩, by omega⟩, fun h => ?_, fun h1 h2 h3 => ?_⟩
  · by_cases hz : 1 ≤ s.size ∧ s.size ≤ 16
    · refine nameF_bad (i := 0) (by omega) rfl ?_
      simp [okAt, letterF]
      omega
    · unfold nameF
      rw [Bool.eq_false_iff]
      simp
      intros
      omega
  refine AW.loop (ι := Nat) (fun i fr σ => fr = { v := [(0, .str s), (3, .int .i64 i)], ds := [] } ∧ σ = [] ∧ 1 ≤ i ∧ i ≤ s.size ∧ okAll s 0 s.size = okAll s i (s.size - i)) (fun i => s.size - i) 1 ⟨by simp, rfl, by omega, by omega, ?_⟩ ?_
  · have := okAll_step s (i := 0) (by omega)
    rw [Nat.sub_zero] at this
    rw [this]
    have : okAt s 0 = true := by simp [okAt, letterF]; omega
    rw [this]; rfl
  rintro i fr σ ⟨rfl, rfl, h1i, hi, hp⟩
  refine awpC_sound _ ?_
  simp
  simp only [hb]
  refine ⟨fun hlt => ⟨hlt, fun h => ⟨h, hlt⟩, hlt, fun h => ⟨h, hlt⟩, fun h h' => nameF_bad hlt hp ?_, fun h => ?_⟩, fun hge => ?_⟩
  · simp [okAt, letterF, digitF]
    omega
  · have hok : okAt s i = true := by
      simp [okAt, letterF, digitF]
      omega
    exact ⟨i + 1, by omega, wrap_id (by omega) (by omega), by omega, by omega, by rw [hp, okAll_step s hlt, hok]; rfl⟩
  · have : i = s.size := by omega
    subst this
    rw [Nat.sub_self] at hp
    unfold nameF
    rw [hp]
    simp [okAll]
    omega
end Go.AM
