/- First: of the document. -/
import Derived.Test.YtmjfcbpgnmajpaaGreatDoorP25
import Derived.Test.YtmjfcbpgnmajpaaGreatDoorP23
namespace Go.AM
open Go.Proofs
set_option maxRecDepth 100000
set_option maxHeartbeats 1000000
theorem zn (t : ah) : cA t [] = (aN t).2.2 ∧ gN t [] = aP t := by
  refine ⟨?_,rfl⟩
  unfold cA bz
  by_cases h : (aN t).2.2 = 0
  · simp [h,bH]
  · simp [h]
def Tp (t : ah) : ab := if (aN t).2.2 = 0 then .tup [s5 t,nn' (aP t),ii' 0] else .tup [.agg [ii' 0, .slice 1 []],ii' 0,ii' (aN t).2.2]
theorem SY (t : ah) (hok : t.Ok) (σ : af) : Spec Tryz.prog TO [t.v, .slice 1 []] σ fun r σ' => r = .ret (Tp t) ∧ σ' = σ := by
  have := Tb t hok [] (by simp) σ
  unfold S1 at this
  rw [(zn t).1,(zn t).2] at this
  exact this
def Tt (t : ah) (s n j : Nat) : Int := match ((List.range n).drop j).find? (Tr t s) with
  | some x => x
  | none => -1
theorem TL (t : ah) (s n : Nat) : Tt t s n n = -1 := by rw [Tt,List.drop_eq_nil_of_le (by simp)]; rfl
theorem TI (t : ah) (s : Nat) {n j : Nat} (h : j < n) : Tt t s n j = if Tr t s j = true then (j : Int) else Tt t s n (j + 1) := by
  unfold Tt
  have hd : (List.range n).drop j = j :: (List.range n).drop (j + 1) := by
    rw [List.drop_eq_getElem_cons (by simpa using h)]; simp
  rw [hd,List.find?_cons]
  cases Tr t s j <;> simp
theorem DH {s i : Nat} (hs : s < 128) (hi : i < 7) (hb : s.testBit i = true) : IntKind.i64.wrap ((s : Int) - 2 ^ i) = ((aK s i : Nat) : Int) := by
  obtain ⟨hr1,hr2⟩ := yp s hs i hi hb
  rw [hr1,show (s : Int) - 2 ^ i = ((s - 2 ^ i : Nat) : Int) by
    have e : (2 : Int) ^ i = ((2 ^ i : Nat) : Int) := by simp
    rw [e]; omega]
  exact wrap_i64 (Nat.lt_of_le_of_lt (Nat.sub_le _ _) (by omega))
theorem Tn {s i : Nat} (hs : s < 128) (hi : i < 7) (hb : s.testBit i = true) : aK s i < s := by
  obtain ⟨hr1,hr2⟩ := yp s hs i hi hb
  have hpp : 0 < 2 ^ i := Nat.pow_pos (by omega)
  rw [hr1]; omega
theorem Sub.pow {t : ah} {s : Nat} (hs : Sub t s) : s < 2 ^ t.ar.length := Nat.lt_pow_two_of_testBit s fun j hj => by
  cases hb : s.testBit j
  · rfl
  · have := hs j hb; omega
theorem Sd {a n : Nat} (h : a < 2 ^ n) : (a : Int) < 2 ^ n := by
  have e : (2 : Int) ^ n = ((2 ^ n : Nat) : Int) := by simp
  rw [e]; omega
theorem Tf (t : ah) (hok : t.Ok) (σ : af) : Spec Tryz.prog TV [t.v] σ fun r σ' => r = .ret (gX (fl t) (eK t)) ∧ σ' = σ := by
  refine Spec.ay (Uh (by simp) (aa _ ?_)) (by simp [aM,t.pure]) (mI _ _) σ
  have ho := fun σ => SY t hok σ
  unfold Tp at ho
  obtain ⟨b,hb⟩ : ∃ b,gX (fl t) (eK t) = b := ⟨_,rfl⟩
  have hb' := hb
  unfold gX fl eK at hb'
  rw [hb]
  simp [T8,ah.v,ah.cells]
  refine (Classical.em ((aN t).2.2 = 0)).elim (fun h => ?_) (fun h => ?_)
  rotate_left
  · simp only [if_neg h] at ho
    refine aj.pure TH (ho _) ?_
    simp [h]
    rw [← hb']; simp [h]
  simp only [if_pos h] at ho
  have hf := bm h
  have h7 := hf.ship7
  have hs := Sub.all t
  have hpa : pop (aP t) = t.ar.length := Ac _ h7
  have hwl := Tz hf (s := aP t) (bU hf)
  rw [hpa] at hwl
  have hle : (cK t (aP t)).length ≤ t.ar.length := by
    rw [lQ hf rfl (bU hf), ← hpa]; exact jN hf (bU hf)
  have hsp := hs.pow
  have hspI := Sd hsp
  refine aj.pure TH (ho _) ?_
  simp [s5]
  refine aj.pure Uq (Tc t hf _) ?_
  simp [hsp,hspI,wG]
  refine (tf (cT t (aP t))).elim (fun hw => ?_) (fun hw => ?_)
  · have hn : ¬ (cK t (aP t)).length = t.ar.length := fun e => by rw [hwl.2 e] at hw; cases hw
    simp [hw, ← hb',h]
    exact ⟨fun h => by omega,by omega⟩
  have hlen := hwl.1 hw
  simp [hw]
  rw [if_pos ⟨h,by omega⟩,if_neg (by simp [h]),if_neg (by omega)] at hb'
  refine AW.loop (ι := Nat) (fun s fr σ => ∃ out k,fr = { v := [(4, .pval (.agg [nn' t.ar.length, .slice 1 (gq t (2 ^ t.ar.length))])),(5,nn' s),(7, .slice 1 (wG t (2 ^ t.ar.length))),(8, .oslice 1 (List.map nn' out) 1 k)],ds := [] } ∧ σ = [.dead, .spare 1 k] ∧ Sub t s ∧ cT t s = true ∧ out ++ cK t s = cK t (aP t)) (fun s => s) (aP t) ⟨[],0,by simp [wG],by simp,hs,hw,rfl⟩ ?_
  rintro s fr σ ⟨out,k,rfl,rfl,hs,hw,hout⟩
  have h128 := hs.lt hf
  have hsp := hs.pow
  have hspI := Sd hsp
  refine (Classical.em (s = 0)).elim (fun h0 => ?_) (fun h0 => ?_)
  · subst h0
    rw [mT (by rfl),List.append_nil] at hout
    refine aa _ ?_
    simp
    rw [← hb',hout]
  obtain ⟨nx,g1,g2,g3,g4,g5⟩ := Tx hf h128 hw h0
  have hpos : 0 < s := by omega
  have hol : out.length + 1 ≤ 7 := by
    have : (out ++ cK t s).length = t.ar.length := by rw [hout,hlen]
    rw [g5] at this
    simp at this; omega
  have hw8 : IntKind.i64.wrap ((t.ar.length : Int) - 1) = (t.ar.length : Int) - 1 := an (by omega) (by omega)
  refine aa _ ?_
  simp [hpos,hw8]
  refine AW.loop (ι := Nat) (fun j fr σ => fr = { v := [(4, .pval (.agg [nn' t.ar.length, .slice 1 (gq t (2 ^ t.ar.length))])),(5,nn' s),(7, .slice 1 (wG t (2 ^ t.ar.length))),(8, .oslice 1 (List.map nn' out) 1 k),(9,ii' (Tt t s t.ar.length j)),(10,ii' ((j : Int) - 1))],ds := [] } ∧ σ = [.dead, .spare 1 k] ∧ j ≤ t.ar.length) (fun j => j) t.ar.length ⟨by simp [TL],rfl,by omega⟩ ?_
  rintro j fr σ ⟨rfl,rfl,hj⟩
  refine (Classical.em (j = 0)).elim (fun hj0 => ?_) (fun hj0 => ?_)
  · subst hj0
    have hl0 : Tt t s t.ar.length 0 = (nx : Int) := by
      simp [Tt,g1]
    have hrm := DH h128 (i := nx) (by omega) (eA g3)
    have hrl := Tn h128 (i := nx) (by omega) (eA g3)
    refine aa _ ?_
    simp [hl0]
    refine ⟨by intro v hv; simp at hv; subst hv; exact ⟨⟨rfl,rfl⟩,rfl⟩,by omega, ?_⟩
    refine aj.pure xS (bP nx (by omega) _) ?_
    simp [hrm]
    exact ⟨aK s nx,hrl,out ++ [nx],k + 1,⟨rfl,by simp [hl0],rfl⟩,by simp,hs.rem,g4,by rw [List.append_assoc, ← hout,g5]; rfl⟩
  obtain ⟨i,rfl⟩ : ∃ i,j = i + 1 := ⟨j - 1,by omega⟩
  have hil : i < t.ar.length := by omega
  have hli := TI t s hil
  have hw1 : IntKind.i64.wrap ((i : Int) - 1) = (i : Int) - 1 := an (by omega) (by omega)
  refine (Classical.em (bD t s i = 0)).elim (fun hz => ?_) (fun hz => ?_)
  · have hrm := DH h128 (i := i) (by omega) (eA hz)
    have hrl := Tn h128 (i := i) (by omega) (eA hz)
    have hrs : aK s i < 2 ^ t.ar.length := by omega
    have hrsI := Sd hrs
    have hwb : Tr t s i = cT t (aK s i) := by unfold Tr; simp [hz]
    rw [hwb] at hli
    refine aa _ ?_
    simp [hil,hsp,hspI,hz,yb]
    refine aj.pure xS (bP i (by omega) _) ?_
    refine (tf (cT t (aK s i))).elim (fun hh => ?_) (fun hh => ?_)
    · rw [hh] at hli
      simp [hil,hsp,hspI,hz,yb,hrm,hrs,hrsI,hh]
      exact ⟨i,by omega,⟨by rw [hli,if_neg (by simp)],hw1⟩,by omega⟩
    · rw [hh] at hli
      simp [hil,hsp,hspI,hz,yb,hrm,hrs,hrsI,hh]
      exact ⟨i,by omega,⟨by rw [hli,if_pos rfl],hw1⟩,by omega⟩
  · have hzI : ¬ (bD t s i : Int) = 0 := by omega
    have hzB : ((bD t s i : Int) == 0) = false := by simpa using hzI
    have hwb : Tr t s i = false := by unfold Tr; simp [hz]
    rw [hwb] at hli
    have hw0 : (wG t (2 ^ t.ar.length))[0]? = some (.bool (cT t 0)) := by
      have : 0 < 2 ^ t.ar.length := Nat.pow_pos (by omega)
      simp [wG,this]
    have hp0 : (0 : Int) < 2 ^ t.ar.length := by omega
    refine aa _ ?_
    simp [hil,hsp,hspI,hzI,hzB,hz,yb,hw0,hp0]
    exact ⟨i,by omega,⟨by rw [hli,if_neg (by simp)],hw1⟩,by omega⟩
end Go.AM
