/- Good orders, and what is left behind them; what is above a part. The plain law. Any good order, by turns; what Most, First and To say of it. The plain law. -/
import Derived.Test.YtmjfcbpgnmajpaaGreatDoorP22
import Derived.Test.YtmjfcbpgnmajpaaGreatDoorP27
namespace Go.AM
open Go.Proofs
set_option maxRecDepth 100000
set_option maxHeartbeats 1000000
set_option maxRecDepth 100000
set_option maxHeartbeats 1000000
def vy (t:ah) (f:Nat → Nat):Nat → Nat → List Nat → List Nat
  | 0,_,out=>out
  | k + 1,s,out=>if bq t s = [] then out else vy t f k (aK s ((bq t s).getD (f out.length % (bq t s).length) 0)) (out ++ [(bq t s).getD (f out.length % (bq t s).length) 0])
def qk (t:ah) (f:Nat → Nat) (most:Nat):List Nat:=vy t f most (aP t) []
theorem x8 {l:List Nat} (h:l ≠ []) (n:Nat):l.getD (n % l.length) 0 ∈ l:=by
  have h0:0 < l.length:=List.length_pos_iff.2 h
  have:=Nat.mod_lt n h0
  rw [List.getD_eq_getElem?_getD,List.getElem?_eq_getElem this]
  exact List.getElem_mem _
theorem Al {t:ah} {f:Nat → Nat}:∀ {k s:Nat} {out:List Nat},goT t out (aP t) = some s → ∃ s',goT t (vy t f k s out) (aP t) = some s' ∧ (vy t f k s out).length ≤ out.length + k ∧ ((vy t f k s out).length = out.length + k ∨ bq t s' = [])
  | 0,s,out,h=>⟨s,h,Nat.le_refl _, .inl rfl⟩
  | k + 1,s,out,h=>by
    rw [vy]
    split
    · rename_i hc
      exact ⟨s,h,by omega, .inr hc⟩
    · rename_i hc
      have hm:=bg.1 (x8 hc (f out.length))
      obtain ⟨s',h1,h2,h3⟩:=Al (f:=f) (k:=k) (s:=aK s ((bq t s).getD (f out.length % (bq t s).length) 0)) (out:=out ++ [(bq t s).getD (f out.length % (bq t s).length) 0]) (by rw [fS,h,Option.bind_some,goT,if_pos hm,goT])
      simp only [List.length_append,List.length_singleton] at h2 h3
      exact ⟨s',h1,by omega,h3.imp (fun h=>by omega) id⟩
theorem nV (t:ah) (f:Nat → Nat) (most:Nat):∃ s',goT t (qk t f most) (aP t) = some s' ∧ (qk t f most).length ≤ most:=by
  obtain ⟨s',h1,h2,_⟩:=Al (t:=t) (f:=f) (k:=most) (s:=aP t) (out:=[]) rfl
  exact ⟨s',h1,by simpa [qk] using h2⟩
theorem dh {t:ah} (hf:t.Fit) {l:List Nat} {s:Nat} (h:goT t l (aP t) = some s):l.length ≤ 7:=by
  have:=(iQ hf (bU hf) h).2
  have:=m7 _ (bU hf)
  omega
theorem A7 {t:ah} (hf:t.Fit) {l:List Nat} {s:Nat} (h:goT t l (aP t) = some s):l.length ≤ (cK t (aP t)).length:=by
  rw [lQ hf rfl (bU hf)]
  have:=xw hf (bU hf) h
  omega
theorem AX {t:ah} (hf:t.Fit):∃ s,goT t (cK t (aP t)) (aP t) = some s:=by
  obtain ⟨s,h,_⟩:=xX hf (t:=t) (s:=aP t) rfl (bU hf)
  exact ⟨s,h⟩
end Go.AM
