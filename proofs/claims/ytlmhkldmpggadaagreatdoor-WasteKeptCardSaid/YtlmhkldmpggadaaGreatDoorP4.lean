/- A part of a slice, of a string: the bounds. -/
import Derived.Test.YtlmhkldmpggadaaGreatDoorP3
namespace Go.AM
section
variable {P:Program} {s:St} {A:World} {ρ:aO → ag} {ρ':Operand → Value}
theorem kh {x:Value} {k:IntKind} {n:Int} {y:Nat} {code:BoundsCode} {w:World} (hx:x = .int k n) (h0:0 ≤ n) (h1:n ≤ y):(Instr.sliceBound x y code).run P w = .ok n.toNat w:=by
 subst hx;simp [Instr.sliceBound,asIntOf,h0,h1]
theorem pC {x:Option aO} {y:Option Operand} (ha:ia s ρ ρ') (h:gn x y = true) (ho:eN ρ x) (d:Int) :
  (x = none ∧ y = none ∧ aV ρ d x = d) ∨ ∃ x' y' k,x = some x' ∧ y = some y' ∧ ρ' y' = .int k (aV ρ d x):=by
 cases x with
 | none=>cases y <;> simp [gn] at h; exact .inl ⟨rfl,rfl,rfl⟩
 | some x'=>
  cases y with
  | none=>simp [gn] at h
  | some y'=>
   simp only [gn] at h;obtain ⟨k,e1,_⟩:=dm (ha _ _ h) ho;exact .inr ⟨x',y',k,rfl,rfl,e1⟩
theorem ng {lo hi mx:Option aO} {lo' hi' mx':Option Operand} (ha:ia s ρ ρ') (h1:gn lo lo' = true) (h2:gn hi hi' = true) (h3:gn mx mx' = true) (o1:eN ρ lo) (o2:eN ρ hi) (o3:eN ρ mx)
  {len cap:Nat} {w:World} (g0:0 ≤ aV ρ 0 lo) (g1:aV ρ 0 lo ≤ aV ρ len hi) (g2:aV ρ len hi ≤ aV ρ cap mx) (g3:aV ρ cap mx ≤ cap) (hmx:mx.isSome = true → hi.isSome = true) :
  (Instr.sliceBounds true len cap (lo'.map ρ') (hi'.map ρ') (mx'.map ρ')).run P w = .ok ((aV ρ 0 lo).toNat,(aV ρ len hi).toNat,(aV ρ cap mx).toNat) w:=by
 have rlo:∀ h:Nat,aV ρ 0 lo ≤ h → ∀ code (p q:Nat) w,((match lo'.map ρ' with
   | some v=>do
    let l ← Instr.sliceBound v h code
    pure (l,p,q)
   | none=>do
    let l ← pure 0
    pure (l,p,q)):Sem (Nat × Nat × Nat)).run P w = .ok ((aV ρ 0 lo).toNat,p,q) w:=by
  intro h hle code p q w;rcases pC ha h1 o1 0 with ⟨rfl,rfl,e1⟩ | ⟨x1,y1,k1,rfl,rfl,e1⟩
  ·rfl
  ·simp only [Option.map_some,Sem.run_bind];rw [kh e1 g0 hle]; rfl
 rcases pC ha h3 o3 (cap:Int) with ⟨rfl,rfl,e3⟩ | ⟨x3,y3,k3,rfl,rfl,e3⟩
 ·rcases pC ha h2 o2 (len:Int) with ⟨rfl,rfl,e2⟩ | ⟨x2,y2,k2,rfl,rfl,e2⟩
  ·have:=rlo len (by rw [e2] at g1; exact g1) .sliceB len cap w;simp only [Instr.sliceBounds,Option.map_none,Sem.run_bind,Sem.run_pure,Result.andThen_ok,Option.isSome_none,Bool.false_eq_true,if_false,e2,e3,Int.toNat_natCast];exact this
  ·have hb:=kh (P:=P) (w:=w) (code:=.sliceAcap) e2 (Int.le_trans g0 g1) (by rw [e3] at g2; exact g2);have:=rlo (aV ρ (len:Int) (some x2)).toNat (by omega) .sliceB (aV ρ (len:Int) (some x2)).toNat cap w;simp only [Instr.sliceBounds,Option.map_none,Option.map_some,Sem.run_bind,Sem.run_pure,Result.andThen_ok,Option.isSome_none,Bool.false_eq_true,if_false,if_true,hb,e3,Int.toNat_natCast];exact this
 ·rcases pC ha h2 o2 (len:Int) with ⟨rfl,rfl,e2⟩ | ⟨x2,y2,k2,rfl,rfl,e2⟩
  ·simp at hmx
  ·have hc:=kh (P:=P) (w:=w) (code:=.slice3Acap) e3 (Int.le_trans g0 (Int.le_trans g1 g2)) g3;have hb:=kh (P:=P) (w:=w) (y:=(aV ρ (cap:Int) (some x3)).toNat) (code:=.slice3B) e2 (Int.le_trans g0 g1) (by omega);have:=rlo (aV ρ (len:Int) (some x2)).toNat (by omega) .slice3C (aV ρ (len:Int) (some x2)).toNat (aV ρ (cap:Int) (some x3)).toNat w;simp only [Instr.sliceBounds,Option.map_some,Sem.run_bind,Result.andThen_ok,Option.isSome_some,if_true,hc,hb];exact this
theorem mi {t e:TypeId} (ht:P.underlying t = some (.slice e)) {sz:Nat} (hsz:P.cellsOf e = sz) (hinf:(P.info? e).isSome = true) {a:Option Addr} {len cap l h m:Nat} {x y z:Option Value} {w:World}
  (hb:(Instr.sliceBounds true len cap x y z).run P w = .ok (l,h,m) w):(Instr.slice t (.slice a len cap) x y z).run P w = .ok (.slice (if m = l then a else a.map (·.add (l * sz))) (h - l) (m - l)) w:=by
 simp only [Instr.slice,Sem.run_bind,ar ht,Result.andThen_ok,hb,aT hinf,hsz,Sem.run_pure]
theorem xh {sz sz':Nat} {xs:List ag} {a:Option Addr} {cap l h:Nat} (hx:Rv s (.slice sz' xs) (.slice a xs.length cap)) (hz:sz' = sz ∨ xs = []) (h1:l ≤ h) (h2:h ≤ xs.length) {mm:Nat} (h3:h ≤ mm) :
  Rv s (.slice sz ((xs.take h).drop l)) (.slice (if mm = l then a else a.map (·.add (l * sz))) (h - l) (mm - l)):=by
 have hlen:((xs.take h).drop l).length = h - l:=by simp; omega
 by_cases he:h = l
 ·have:(xs.take h).drop l = []:=List.eq_nil_of_length_eq_zero (by rw [hlen]; omega);rw [this,show h - l = 0 by omega]; exact .slice0 _ _ _
 ·obtain ⟨a',cap',e1,hs⟩:=hx.dI;cases e1;rcases hs with rfl | ⟨blk,off,us,rfl,q1,q2,q3,q4⟩
  ·simp at h2; omega
  ·have hsz':sz' = sz:=hz.resolve_right (by intro e; subst e; simp at h2; omega);subst hsz';rw [if_neg (by omega)];simp only [Option.map_some,addr_add];refine .slice sz' _ blk (off + l * sz') _ _ ((us.take h).drop l) (by simp [q1]) hlen.symm (by omega) (fun i r1 r2=>?_) (fun i r2=>?_)
   ·have:=q3 (l + i) (by simp at r1; omega) (by simp at r2; omega);simpa using this
   ·have:=q4 (l + i) (by simp at r2; omega);simp only [List.getElem_drop,List.getElem_take];rw [show off + l * sz' + i * sz' = off + (l + i) * sz' by rw [Nat.add_mul]; omega];exact this
theorem yD {t e:TypeId} (ha:ia s ρ ρ') (ht:P.underlying t = some (.slice e)) {sz sz':Nat} (hsz:P.cellsOf e = sz) (hinf:(P.info? e).isSome = true) {xs:List ag} {c:Value} (hx:Rv s (.slice sz' xs) c) (hz:sz' = sz ∨ xs = [])
  {lo hi:Option aO} {lo' hi':Option Operand} (h1:gn lo lo' = true) (h2:gn hi hi' = true) (o1:eN ρ lo) (o2:eN ρ hi) (g0:0 ≤ aV ρ 0 lo) (g1:aV ρ 0 lo ≤ aV ρ xs.length hi) (g2:aV ρ xs.length hi ≤ xs.length) :
  ∃ r,(Instr.sliceAt t c (lo'.map ρ') (hi'.map ρ') none).run P s.w = .ok r s.w ∧ Rv s (.slice sz ((xs.take (aV ρ xs.length hi).toNat).drop (aV ρ 0 lo).toNat)) r:=by
 obtain ⟨a,cap,rfl,hs⟩:=hx.dI;have hcap:xs.length ≤ cap:=by
  rcases hs with rfl | ⟨_,_,_,_,_,hc,_⟩
  ·simp
  ·exact hc
 have hb:=ng (P:=P) (w:=s.w) (mx:=none) (mx':=none) (cap:=cap) (len:=xs.length) ha h1 h2 rfl o1 o2 trivial g0 g1 (by simp only [aV] at g2 ⊢; omega) (by simp only [aV]; omega) (by simp);have hrun:=mi (a:=a) ht hsz hinf hb;refine ⟨_,by simpa [Instr.sliceAt,ar ht] using hrun,xh hx hz (by omega) (by omega) ?_⟩;simp only [aV,Int.toNat_natCast]; simp only [aV] at g2; omega
theorem BM {lo hi:Option aO} {lo' hi':Option Operand} (ha:ia s ρ ρ') (h1:gn lo lo' = true) (h2:gn hi hi' = true) (o1:eN ρ lo) (o2:eN ρ hi)
  {len:Nat} {w:World} (g0:0 ≤ aV ρ 0 lo) (g1:aV ρ 0 lo ≤ aV ρ len hi) (g2:aV ρ len hi ≤ len) :
  (Instr.sliceBounds false len len (lo'.map ρ') (hi'.map ρ') none).run P w = .ok ((aV ρ 0 lo).toNat,(aV ρ len hi).toNat,len) w:=by
 have rlo:∀ h:Nat,aV ρ 0 lo ≤ h → ∀ code (p q:Nat) w,((match lo'.map ρ' with
   | some v=>do
    let l ← Instr.sliceBound v h code
    pure (l,p,q)
   | none=>do
    let l ← pure 0
    pure (l,p,q)):Sem (Nat × Nat × Nat)).run P w = .ok ((aV ρ 0 lo).toNat,p,q) w:=by
  intro h hle code p q w;rcases pC ha h1 o1 0 with ⟨rfl,rfl,e1⟩ | ⟨x1,y1,k1,rfl,rfl,e1⟩
  ·rfl
  ·simp only [Option.map_some,Sem.run_bind];rw [kh e1 g0 hle]; rfl
 rcases pC ha h2 o2 (len:Int) with ⟨rfl,rfl,e2⟩ | ⟨x2,y2,k2,rfl,rfl,e2⟩
 ·have:=rlo len (by rw [e2] at g1; exact g1) .sliceB len len w;simp only [Instr.sliceBounds,Option.map_none,Sem.run_bind,Sem.run_pure,Result.andThen_ok,Option.isSome_none,Bool.false_eq_true,if_false,e2,Int.toNat_natCast];exact this
 ·have hb:=kh (P:=P) (w:=w) (code:=.sliceAlen) e2 (Int.le_trans g0 g1) g2;have:=rlo (aV ρ (len:Int) (some x2)).toNat (by omega) .sliceB (aV ρ (len:Int) (some x2)).toNat len w;simp only [Instr.sliceBounds,Option.map_some,Sem.run_bind,Sem.run_pure,Result.andThen_ok,Option.isSome_none,Bool.false_eq_true,if_false,hb];exact this
end
end Go.AM
