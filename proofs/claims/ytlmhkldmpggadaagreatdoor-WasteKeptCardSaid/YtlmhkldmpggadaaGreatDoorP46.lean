/- Chapter 09: WasteFewest, by contracts. Chapter 09: what Range and Gone say of a yard that closes. Chapter 09: of the reference: powers, places among others, counts, which paper leads. Chapter 09: .. -/
import Derived.Test.YtlmhkldmpggadaaGreatDoorP40
import Derived.Test.YtlmhkldmpggadaaGreatDoorP45
import Derived.Test.YtlmhkldmpggadaaGreatDoorP30
namespace Go.AM
open Go.Proofs
set_option maxRecDepth 100000
set_option maxHeartbeats 1000000
theorem uc (l:List Nat):bD (bb l) = l:=by
 unfold bD bb;rw [List.map_map]
 conv=>rhs; rw [← List.map_id l]
 exact List.map_congr_left fun x _=>by simp
theorem KO {y:ab} (hv:bJ aQ y) {l:List Nat} (ha:Bv y.papers.length 0 l):zA y (bb l):=⟨hv,by rw [uc]; exact ha,by rw [uc]⟩
theorem CV {y:ab} (hv:bJ aQ y) {l:List Nat} (ha:Bv y.papers.length 0 l):gw y (bb l) = (aP y l,0):=by
 have h:=(cJ y (bb l)).2 (KO hv ha);unfold gw;rw [if_neg (by simp [h]),uc]
theorem Ij {y:ab} (hv:bJ aQ y) {l:List Nat} (ha:Bv y.papers.length 0 l):(bb l).length ≤ maxLen:=by
 have h1:=vx ha;have h2:=hv.m10;simp only [bb,List.length_map,maxLen];omega
theorem Ff {y:ab} (hv:bJ aQ y) {w:List Nat} (hc:aP y w = true) {k:Nat} (hk:k < y.kinds.length):∃ lo hi,iw y w k lo hi:=by
 have hf:=((iK hv w).1 hc).2 k hk;exact sk (by rw [jq]; unfold ba; omega) hf
theorem Bb {y:ab} (hy:dv y) {w:List Int} (hwl:w.length ≤ maxLen) (h0:bW y w = 0) (hc:aP y (bD w) = true) {k:Nat} (hk:k < y.kinds.length) {lo hi':Int} (hr:iw y (bD w) k lo hi') (σ:af) :
  Spec Tryz.prog CX [y.v, .slice 1 (w.map ii'),ii' k] σ fun r σ'=>r = .ret (.tup [.agg [ii' lo,ii' hi'],ii' 0]) ∧ σ' = σ:=by
 have h:=eL y hy w hwl (k:Int) σ;have ek:eU y (k:Int) = k:=by
  unfold eU;rw [if_pos (bA.1.2 ⟨by omega,by omega⟩)]
 have eb:eJ y w (eU y k) = 0:=by
  unfold eJ;rw [if_neg (by simp [h0]),ek,if_neg (by omega),if_pos hc]
 rw [eb] at h;refine h.mono ?_;rintro r σ' ⟨⟨a,b,rfl,_,h2⟩,rfl⟩;obtain ⟨rfl,rfl⟩:=(h2 rfl).unique hr;exact ⟨rfl,rfl⟩
theorem Dt {y:ab} (hy:dv y) {w:List Int} (hwl:w.length ≤ maxLen) (h0:bW y w = 0) (hc:aP y (bD w) = false) {k:Nat} (hk:k < y.kinds.length) (σ:af) :
  Spec Tryz.prog CX [y.v, .slice 1 (w.map ii'),ii' k] σ fun r σ'=>r = .ret (.tup [.agg [ii' 0,ii' 0],ii' 9]) ∧ σ' = σ:=by
 have h:=eL y hy w hwl (k:Int) σ;have ek:eU y (k:Int) = k:=by
  unfold eU;rw [if_pos (bA.1.2 ⟨by omega,by omega⟩)]
 have eb:eJ y w (eU y k) = 9:=by
  unfold eJ;rw [if_neg (by simp [h0]),ek,if_neg (by omega),if_neg (by simp [hc])]
 rw [eb] at h;refine h.mono ?_;rintro r σ' ⟨⟨a,b,rfl,h1,_⟩,rfl⟩;obtain ⟨rfl,rfl⟩:=h1 (by decide);exact ⟨rfl,rfl⟩
abbrev yvL (y:ab):ag:=.agg [.slice 1 (y.kinds.map .str), .slice 1 (y.places.map .str), .slice 4 (y.first.map ay.v), .slice 5 (y.papers.map aj.v), .slice 4 (y.last.map ay.v)]
set_option maxHeartbeats 2000000
set_option maxHeartbeats 1000000
theorem Kg (n:Nat) (h:n ≤ 255):IntKind.i64.wrap (n:Int) = n:=aq (by omega) (by omega)
end Go.AM
