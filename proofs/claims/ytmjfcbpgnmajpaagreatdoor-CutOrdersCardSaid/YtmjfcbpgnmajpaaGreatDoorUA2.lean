/- All good orders of so many cuts: of the document. -/
import Derived.Test.YtmjfcbpgnmajpaaGreatDoorUA1
import Derived.Test.YtmjfcbpgnmajpaaGreatDoorP20
namespace Go.AM
open Go.Proofs
set_option maxRecDepth 100000
set_option maxHeartbeats 1000000
def Tk (l : List Nat) : ab := .slice 1 (l.map nn')
theorem TG (l : List Nat) : (Tk l).pure = true := by simp [Tk,ab.pure,av (f := nn') (fun _ => rfl)]
def S3 (l : List (List Nat)) : ab := .slice 1 (l.map Tk)
theorem Tg (l : List (List Nat)) : (S3 l).pure = true := by simp [S3,ab.pure,av (f := Tk) TG]
def TB (t : ah) (k s : Nat) (b : List Nat) (i : Nat) : List (List Nat) := (dH t s i).flatMap fun j => SX t k (aK s j) (b ++ [j])
theorem To (t : ah) (k s : Nat) (b : List Nat) (i : Nat) : TB t k s b (i + 1) = TB t k s b i ++ (if bD t s i = 0 then SX t k (aK s i) (b ++ [i]) else []) := by
  unfold TB
  rw [cy,List.flatMap_append]
  congr 1
  split <;> simp
theorem Tu {t : ah} (hf : t.Fit) (k s : Nat) (b : List Nat) : ∀ i,(TB t k s b i).length ≤ i * 7 ^ k
  | 0 => by simp [TB,dH]
  | i + 1 => by
    rw [To,List.length_append,Nat.add_mul,Nat.one_mul]
    have := Tu hf k s b i
    have h0 := Nat.zero_le (7 ^ k)
    split
    · have := S5 hf (k := k) (s := aK s i) (b := b ++ [i]); omega
    · rw [List.length_nil]; omega
theorem TS (l : List Nat) : Fits 1 (l.map nn') := by
  intro v hv
  obtain ⟨a,_,rfl⟩ := List.mem_map.1 hv
  exact ⟨⟨rfl,rfl⟩,rfl⟩
theorem T5 (l : List (List Nat)) : Fits 1 (l.map Tk) := by
  intro v hv
  obtain ⟨a,_,rfl⟩ := List.mem_map.1 hv
  exact ⟨⟨rfl,rfl⟩,rfl⟩
theorem Tv (t : ah) (hf : t.Fit) : ∀ (k s : Nat) (b : List Nat),Sub t s → k + b.length ≤ 7 → ∀ σ : af,Spec Tryz.prog TN [s5 t,nn' s,nn' k, .slice 1 (b.map nn')] σ fun r σ' => r = .ret (S3 (SX t k s b)) ∧ σ' = σ := by
  intro k
  induction k with
  | zero =>
    intro s b hs hkb σ
    refine Spec.ay (T6 (by simp) (aa _ ?_)) (by simp [aM,xR,ab.pure,av (f := nn') (fun _ => rfl)]) (Tg _) σ
    simp [TU,s5,SX,S3,Tk]
  | succ k ih =>
    intro s b hs hkb σ
    refine Spec.ay (T6 (by simp) (aa _ ?_)) (by simp [aM,xR,ab.pure,av (f := nn') (fun _ => rfl)]) (Tg _) σ
    have h7 := hf.ship7
    have h128 := hs.lt hf
    have hsp := hs.pow
    have hspI := Sd hsp
    have hk1 : ¬ (k : Int) + 1 = 0 := by omega
    simp [TU,s5,hk1]
    refine AW.loop (ι := Nat) (fun i fr σ => ∃ q tl,fr = { v := [(1,nn' s),(2,nn' (k + 1)),(3, .slice 1 (b.map nn')),(4, .pval (.agg [nn' t.ar.length, .slice 1 (gq t (2 ^ t.ar.length))])),(9, .oslice 1 ((TB t k s b i).map Tk) 0 q),(10,nn' i)],ds := [] } ∧ σ = .spare 1 q :: tl ∧ i ≤ t.ar.length) (fun i => t.ar.length - i) 0 ⟨0,[],by simp [TB,dH],by simp,by omega⟩ ?_
    rintro i fr σ ⟨q,tl,rfl,rfl,hi⟩
    refine (Nat.lt_or_ge i t.ar.length).elim (fun hil => ?_) (fun hig => ?_)
    · have hw1 : IntKind.i64.wrap ((i : Int) + 1) = ((i + 1 : Nat) : Int) := by rw [an (by omega) (by omega)]; simp
      have hcs := To t k s b i
      have hcl := Tu hf k s b i
      refine (Classical.em (bD t s i = 0)).elim (fun hz => ?_) (fun hz => ?_)
      · rw [if_pos hz] at hcs
        have hrm := DH h128 (i := i) (by omega) (eA hz)
        have hih := fun σ => ih (aK s i) (b ++ [i]) hs.rem (by simp; omega) σ
        have hpw := fun σ => bP i (by omega) σ
        have hk2 : IntKind.i64.wrap ((k : Int) + 1 - 1) = (k : Int) := by rw [an (by omega) (by omega)]; omega
        have hk3 : IntKind.i64.wrap (k : Int) = (k : Int) := an (by omega) (by omega)
        refine aa _ ?_
        simp [hil,hsp,hspI,hz,hw1,yb]
        refine ⟨nn' (2 ^ i),fun σ' => aC.func xS (hpw σ'), ?_⟩
        have h7k : 7 ^ k ≤ 7 ^ 6 := Nat.pow_le_pow_right (by omega) (by omega)
        have h76 : (7 : Nat) ^ 6 = 117649 := by decide
        have hik : i * 7 ^ k ≤ 7 * 7 ^ 6 := Nat.mul_le_mul (by omega) h7k
        have hol := S5 hf (k := k) (s := aK s i) (b := b ++ [i])
        rw [List.map_append,List.map_cons,List.map_nil] at hih
        unfold s5 at hih
        simp [hrm,hk2,hk3]
        refine ⟨TS b,by omega,TS [i],by omega,S3 (SX t k (aK s i) (b ++ [i])),fun σ' _ => aC.func TW (hih σ'), ?_⟩
        simp [S3]
        exact ⟨T5 _,by omega,i + 1,by omega,q + 1,⟨⟨by rw [hcs,List.map_append],rfl⟩,by simp⟩,rfl,by omega⟩
      · rw [if_neg hz,List.append_nil] at hcs
        have hzI : ¬ (bD t s i : Int) = 0 := by omega
        refine aa _ ?_
        simp [hil,hsp,hspI,hz,hzI,hw1,yb]
        exact ⟨i + 1,by omega,q,⟨⟨by rw [hcs],rfl⟩,by simp⟩,rfl,by omega⟩
    · obtain rfl : i = t.ar.length := by omega
      refine aa _ ?_
      simp
      rfl
end Go.AM
