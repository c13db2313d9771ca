/- Chapter 09: WasteRound, by contracts. -/
import Derived.Test.YtlmhkldmpggadaaGreatDoorP30
namespace Go.AM
open Go.Proofs
set_option maxRecDepth 100000
set_option maxHeartbeats 1000000
theorem Gv {y:ab} (h:bS aN y):dz y:=by
 have h1:=h.k4;have h2:=h.p4;have h3:=h.m10;have h4:=h.f8;have h5:=h.l8;refine ⟨?_, ?_, ?_, ?_, ?_⟩ <;> simp only [maxLen] <;> omega
theorem CE {s:ByteArray} {z:ab} (h:gf s = (z,0)):bS aN z ∧ dj z = aE s:=by
 unfold gf at h
 split at h
 ·cases h
 ·split at h
  ·rename_i y hy;cases h;exact (o5 lO _ _).1 hy
  ·cases h
theorem tR {y:ab} (h:bS aN y):gf (bytes (dj y)) = (y,0):=by
 have h4:=mO lO h;unfold gf;rw [if_neg (by rw [kV]; omega),gH,(o5 lO _ _).2 ⟨h,rfl⟩]
theorem Bi {s:ByteArray} (h:(gf s).2 ≠ 0):(gf s).1 = ie:=by
 unfold gf at h ⊢;split
 ·rfl
 ·split
  ·rename_i h1 _ _ h2;rw [if_neg h1,h2] at h; exact absurd rfl h
  ·rfl
theorem sF (y:ab) (hy:dz y) (s:ByteArray) (σ:af) :
  Spec Tryz.prog Ld [y.v, .str s] σ fun r σ'=>r = .ret (.bool true) ∧ σ' = σ:=by
 refine Spec.aI (NU (by simp) ?_) (by simp [y.pure,aK,ag.pure]) rfl σ;have hwr:=fun σ=>gv y hy σ
 have hsm:=fun σ=>nN y hy σ
 have hrd:=fun σ=>eX s σ
 obtain ⟨⟨z,e⟩,hz⟩:∃ p,gf s = p:=⟨_,rfl⟩
 rw [hz] at hrd;have hn0:=fun h=>Bi (s:=s) h
 have hn1:=fun h=>CE (s:=s) (z:=z) h
 rw [hz] at hn0 hn1;dsimp only at hrd hn0 hn1;by_cases he:e = 0
 ·subst he;obtain ⟨hzv,hzt⟩:=hn1 rfl;have hwz:=fun σ=>gv z (Gv hzv) σ
  have ez:fq z = (dj z,0):=by unfold fq; rw [if_neg (by simpa using (ea aN z).2 hzv)]
  have eb:bytes (dj z) = s:=data_inj (by rw [oq,hzt]; rfl);rw [ez,eb] at hwz;by_cases h0:(bt aN y).2.2 = 0
  ·have hv:=(ea aN y).1 h0;have ey:fq y = (dj y,0):=by unfold fq; rw [if_neg (by simp [h0])]
   rw [ey] at hwr;have hr2:=fun σ=>eX (bytes (dj y)) σ
   rw [tR hv] at hr2;have hlen:=mO lO hv;have hsz:¬ (4000:Int) < ((bytes (dj y)).size:Int):=by rw [kV]; omega
   simp only [ab.v,ab.cells] at hwr hsm hrd hwz hr2;refine aa _ ?_;simp [EG,ab.v,ab.cells];refine ah.pure BF (hwr _) ?_;simp;refine ah.pure Bh (hr2 _) ?_;simp;refine ah.pure Iu (hsm _) ?_;simp [hsz];refine ah.pure Bh (hrd _) ?_;simp;refine ah.pure BF (hwz _) ?_;simp;refine ah.pure oL (bL _) ?_;simp
  ·have ey:fq y = ([],(bt aN y).2.2):=by unfold fq; rw [if_pos h0]
   rw [ey] at hwr;simp only [ab.v,ab.cells] at hwr hrd hwz;refine aa _ ?_;simp [EG,ab.v,ab.cells];refine ah.pure BF (hwr _) ?_;simp [h0];refine ah.pure Bh (hrd _) ?_;simp;refine ah.pure BF (hwz _) ?_;simp;refine ah.pure oL (bL _) ?_;simp
 ·obtain rfl:=hn0 he;by_cases h0:(bt aN y).2.2 = 0
  ·have hv:=(ea aN y).1 h0;have ey:fq y = (dj y,0):=by unfold fq; rw [if_neg (by simp [h0])]
   rw [ey] at hwr;have hr2:=fun σ=>eX (bytes (dj y)) σ
   rw [tR hv] at hr2;have hlen:=mO lO hv;have hsz:¬ (4000:Int) < ((bytes (dj y)).size:Int):=by rw [kV]; omega
   simp only [ab.v,ab.cells,ie] at hwr hsm hrd hr2;refine aa _ ?_;simp [EG,ab.v,ab.cells];refine ah.pure BF (hwr _) ?_;simp;refine ah.pure Bh (hr2 _) ?_;simp;refine ah.pure Iu (hsm _) ?_;simp [hsz];refine ah.pure Bh (hrd _) ?_;simp [he,show IntKind.i64.wrap (0:Int) = 0 from rfl];refine ah.pure oL (bL _) ?_;simp [show IntKind.i64.wrap (0:Int) = 0 from rfl]
  ·have ey:fq y = ([],(bt aN y).2.2):=by unfold fq; rw [if_pos h0]
   rw [ey] at hwr;simp only [ab.v,ab.cells,ie] at hwr hrd;refine aa _ ?_;simp [EG,ab.v,ab.cells];refine ah.pure BF (hwr _) ?_;simp [h0];refine ah.pure Bh (hrd _) ?_;simp [he,show IntKind.i64.wrap (0:Int) = 0 from rfl];refine ah.pure oL (bL _) ?_;simp [show IntKind.i64.wrap (0:Int) = 0 from rfl]
end Go.AM
