/- Chapter 09: what Range and Gone say of a yard that closes. Chapter 09: WasteMore, by contracts. -/
import Derived.Test.YtlmhkldmpggadaaGreatDoorP32
namespace Go.AM
open Go.Proofs
set_option maxRecDepth 100000
set_option maxHeartbeats 1000000
theorem Ct {y:ab} (hv:bS aN y) {i:Nat} (hi:i < y.papers.length):∃ k:Nat,k < y.kinds.length ∧ aG y i = k:=by
 have h:=(hv.papers i hi).kind;have e:aG y i = y.papers[i].kind:=by unfold aG; rw [List.getElem?_eq_getElem hi]
 exact ⟨y.papers[i].kind.toNat,by omega,by rw [e]; omega⟩
theorem zC {y:ab} (hv:bS aN y) {w:List Nat} (hc:aF y w = true) {i:Nat} (hi:i < y.papers.length):∃ lo hi,jY y w i lo hi:=by
 obtain ⟨k,hk,e⟩:=Ct hv hi;have hf:=((dD hv w).1 hc).2 k hk;rw [← e] at hf;exact p0 (tn hv hi w (-aq) aq).1 hf
theorem BI {y:ab} (hv:bS aN y) {w:List Nat} (hc:aF y w = true) {k:Nat} (hk:k < y.kinds.length):∃ lo hi,gG y w k lo hi:=by
 have hf:=((dD hv w).1 hc).2 k hk;exact p0 (by rw [iZ]; unfold ba; omega) hf
theorem vR {y:ab} (hy:dz y) {w:List Int} (hwl:w.length ≤ maxLen) (h0:bQ y w = 0) (hc:aF y (bH w) = true) {i:Nat} (hi:i < y.papers.length) {lo hi':Int} (hr:jY y (bH w) i lo hi') (σ:af) :
  Spec Tryz.prog CY [y.v, .slice 1 (w.map ii'),ii' i] σ fun r σ'=>r = .ret (.tup [.agg [ii' lo,ii' hi'],ii' 0]) ∧ σ' = σ:=by
 have hv:=((cr y w).1 h0).valid;obtain ⟨k,hk,e⟩:=Ct hv hi;have h:=gz y hy w hwl (i:Int) σ;have ek:fw y (i:Int) = k:=by
  unfold fw;rw [if_pos (bc.1.2 ⟨by omega,by omega⟩),Int.toNat_natCast,e]
 have eb:fJ y w (fw y i) = 0:=by
  unfold fJ;rw [if_neg (by simp [h0]),ek,if_neg (by omega),if_pos hc]
 rw [eb] at h;refine h.mono ?_;rintro r σ' ⟨⟨a,b,rfl,_,h2⟩,rfl⟩;obtain ⟨rfl,rfl⟩:=(h2 rfl).unique hr;exact ⟨rfl,rfl⟩
theorem y4 {y:ab} (hy:dz y) {w:List Int} (hwl:w.length ≤ maxLen) (h0:bQ y w = 0) (hc:aF y (bH w) = true) {k:Nat} (hk:k < y.kinds.length) {lo hi':Int} (hr:gG y (bH w) k lo hi') (σ:af) :
  Spec Tryz.prog Ea [y.v, .slice 1 (w.map ii'),ii' k] σ fun r σ'=>r = .ret (.tup [.agg [ii' lo,ii' hi'],ii' 0]) ∧ σ' = σ:=by
 have h:=ld y hy w hwl (k:Int) σ;have ek:fY y (k:Int) = k:=by
  unfold fY;rw [if_pos (bc.1.2 ⟨by omega,by omega⟩)]
 have eb:fJ y w (fY y k) = 0:=by
  unfold fJ;rw [if_neg (by simp [h0]),ek,if_neg (by omega),if_pos hc]
 rw [eb] at h;refine h.mono ?_;rintro r σ' ⟨⟨a,b,rfl,_,h2⟩,rfl⟩;obtain ⟨rfl,rfl⟩:=(h2 rfl).unique hr;exact ⟨rfl,rfl⟩
set_option maxRecDepth 100000
set_option maxHeartbeats 1000000
def pM (w:List Int) (x:Nat) (i:Nat):Bool:=(w.any fun z=>decide (z = i)) || decide (i = x)
def ij (p:Nat → Bool) (m:Nat):List Nat:=(List.range m).filter p
theorem y9 (p:Nat → Bool) (m:Nat):ij p (m + 1) = ij p m ++ if p m then [m] else []:=by
 unfold ij;rw [List.range_succ,List.filter_append];congr 1;cases h:p m <;> simp [h]
theorem Bw (p:Nat → Bool) (m:Nat):(aY (ij p m)).length ≤ m:=by
 have:=List.length_filter_le p (List.range m);simp only [aY,List.length_map,ij];simpa using this
theorem D4 {y:ab} {w:List Int} (hw:tu y w) (x:Nat):∀ i ∈ bH w,i ∈ ij (pM w x) y.papers.length:=fun i hi=>by
 unfold ij pM;rw [List.mem_filter];refine ⟨List.mem_range.2 (hw.asc.2 i hi).2, ?_⟩;rw [Bool.or_eq_true,List.any_eq_true];refine .inl ⟨(i:Int), ?_,by simp⟩;rw [← hw.is];exact List.mem_map_of_mem hi
theorem xb (n:Nat) (h:n ≤ 255):IntKind.i64.wrap (n:Int) = n:=aw (by omega) (by omega)
theorem uZ (y:ab) (hy:dz y) (w:List Int) (hwl:w.length ≤ maxLen) (x0 x1 x2:Nat) (h0x:x0 ≤ 255) (h1x:x1 ≤ 255) (h2x:x2 ≤ 255) (σ:af) :
  Spec Tryz.prog LH [y.v, .slice 1 (w.map ii'), .agg [.int .u8 x0, .int .u8 x1, .int .u8 x2]] σ fun r σ'=>r = .ret (.bool true) ∧ σ' = σ:=by
 refine Spec.aI (Ps (by simp) ?_) (by simp [y.pure,aK,ag.pure,aC (f:=ii') (fun _=>rfl)]) rfl σ;have hcl:=fun σ=>bX y hy w hwl σ
 have hwr:=fun σ=>lT y hy w hwl σ
 by_cases h0:bQ y w = 0;rotate_left
 ·have e1:dE y w = (false,bQ y w):=by unfold dE; rw [if_pos h0]
  rw [e1] at hcl;obtain ⟨e,he⟩:∃ e,bQ y w = e:=⟨_,rfl⟩
  rw [he] at h0 hcl hwr;simp only [ab.v,ab.cells] at hcl hwr;refine aa _ ?_;simp [EV,ab.v,ab.cells];refine ah.pure oz (hcl _) ?_;simp;refine ah.pure AP (hwr _) ?_;simp [h0];refine ah.pure oL (bL _) ?_;simp
 have hw:=(cr y w).1 h0;have hv:=hw.valid;have e1:dE y w = (aF y (bH w),0):=by unfold dE; rw [if_neg (by simp [h0])]
 rw [e1] at hcl;rw [h0] at hwr;refine (Classical.em (aF y (bH w) = true ∧ y.papers.length ≠ 0)).elim (fun hcm=>?_) (fun hcm=>?_);rotate_left
 ·refine (tf (aF y (bH w))).elim (fun hc=>?_) (fun hc=>?_)
  ·rw [hc] at hcl;simp only [ab.v,ab.cells] at hcl hwr;refine aa _ ?_;simp [EV,ab.v,ab.cells];refine ah.pure oz (hcl _) ?_;simp;refine ah.pure AP (hwr _) ?_;simp;refine ah.pure oL (bL _) ?_;simp
  ·have hm0:y.papers.length = 0:=by
    rcases Nat.eq_zero_or_pos y.papers.length with h | h
    ·exact h
    ·exact absurd ⟨hc,by omega⟩ hcm
   rw [hc] at hcl;simp only [ab.v,ab.cells] at hcl hwr;refine aa _ ?_;simp [EV,ab.v,ab.cells];refine ah.pure oz (hcl _) ?_;simp;refine ah.pure AP (hwr _) ?_;simp [hm0];refine ah.pure oL (bL _) ?_;simp [hm0]
 obtain ⟨hc,hm0⟩:=hcm;have hm10:=hv.m10;have hk4:=hv.k4;rw [hc] at hcl;obtain ⟨m,hm⟩:∃ m,y.papers.length = m:=⟨_,rfl⟩
 obtain ⟨nk,hnk⟩:∃ nk,y.kinds.length = nk:=⟨_,rfl⟩
 have hmm:0 < m:=by omega
 have r0:((x0:Int).tmod m) = ((x0 % m:Nat):Int):=rfl;have r1:((x1:Int).tmod m) = ((x1 % m:Nat):Int):=rfl;have r2:((x2:Int).tmod nk) = ((x2 % nk:Nat):Int):=rfl;have l0:=Nat.mod_lt x0 hmm;have l1:=Nat.mod_lt x1 hmm;have l2:x2 % nk < nk:=Nat.mod_lt x2 (by omega);obtain ⟨a0,ha0⟩:∃ a,x0 % m = a:=⟨_,rfl⟩
 obtain ⟨a1,ha1⟩:∃ a,x1 % m = a:=⟨_,rfl⟩
 obtain ⟨a2,ha2⟩:∃ a,x2 % nk = a:=⟨_,rfl⟩
 rw [ha0] at r0 l0;rw [ha1] at r1 l1;rw [ha2] at r2 l2;have hsub:=D4 hw a0;rw [hm] at hsub;have hma:qH y.papers.length 0 (ij (pM w a0) m):=by rw [hm]; exact nw _ _
 have hmc:=lL hv hsub hc;obtain ⟨lo,hi,hr1⟩:=zC hv hc (i:=a1) (by omega);obtain ⟨lo2,hi2,hr2⟩:=zC hv hmc (i:=a1) (by omega);obtain ⟨go,gi,hg1⟩:=BI hv hc (k:=a2) (by omega);obtain ⟨go2,gi2,hg2⟩:=BI hv hmc (k:=a2) (by omega);obtain ⟨q1,q2⟩:=AS hv hsub hc hr1 hr2;obtain ⟨q3,q4⟩:=CI hv hsub hc hg1 hg2;have hmo:=(cr y _).2 (Cd hv hma);have hmf:=uM hv hma;have c2:=fun σ=>bX y hy (aY (ij (pM w a0) m)) hmf σ
 rw [mi hv hma,hmc] at c2;have wN:=nr (ij (pM w a0) m);have s1:=fun σ=>vR hy hwl h0 hc (i:=a1) (by omega) hr1 σ
 have s2:=fun σ=>vR hy hmf hmo (by rw [wN]; exact hmc) (i:=a1) (by omega) (by rw [wN]; exact hr2) σ
 have s3:=fun σ=>y4 hy hwl h0 hc (k:=a2) (by omega) hg1 σ
 have s4:=fun σ=>y4 hy hmf hmo (by rw [wN]; exact hmc) (k:=a2) (by omega) (by rw [wN]; exact hg2) σ
 have hha:=fun (k:Nat) σ=>xq w hwl (k:Int) σ
 have hmI:¬ (m:Int) = 0:=by omega
 have hnI:¬ (nk:Int) = 0:=by omega
 have hmN:¬ m = 0:=by omega
 have hnN:¬ nk = 0:=by omega
 simp only [ab.v,ab.cells] at hcl hwr c2 s1 s2 s3 s4;refine aa _ ?_;simp [EV,ab.v,ab.cells];refine ah.pure oz (hcl _) ?_;simp;refine ah.pure AP (hwr _) ?_;simp [hm,hmN];refine AW.loop (ι:=Nat) (fun k fr σ'=>∃ (q:Nat) (tl:af),fr = { v:=[(1, .slice 1 (w.map ii')),(3, .pval (.agg [.slice 1 (y.kinds.map .str), .slice 1 (y.places.map .str), .slice 4 (y.first.map av.v), .slice 5 (y.papers.map ak.v), .slice 4 (y.last.map av.v)])),(5, .pval (.agg [.int .u8 x0, .int .u8 x1, .int .u8 x2])),(10, .oslice 1 ((aY (ij (pM w a0) k)).map ii') 0 q),(11, .int .i64 k)],ds:=[] } ∧ σ' = .spare 1 q :: tl ∧ k ≤ m) (fun k=>m - k) 0 ⟨0,[],by simp [ij,aY],rfl,by omega⟩ ?_;rintro k fr σ' ⟨q,tl,rfl,rfl,hk⟩;have cv0:=xb x0 h0x;have cv1:=xb x1 h1x;have cv2:=xb x2 h2x;refine (Nat.lt_or_ge k m).elim (fun hlt=>?_) (fun hge=>?_)
 ·have hltI:(k:Int) < (m:Int):=by omega
  have w3:IntKind.i64.wrap ((k:Int) + 1) = ((k + 1:Nat):Int):=by rw [aw (by omega) (by omega)]; simp
  have hst:=y9 (pM w a0) k;have hln:=Bw (pM w a0) k;have hak:=hha k;have hpk:pM w a0 k = ((w.any fun z=>decide (z = (k:Int))) || decide (k = a0)):=rfl;obtain ⟨b,hb⟩:∃ b,(w.any fun z=>decide (z = (k:Int))) = b:=⟨_,rfl⟩
  rw [hb] at hak hpk;cases b
  ·refine (Classical.em (k = a0)).elim (fun hka=>?_) (fun hka=>?_)
   ·rw [hpk,decide_eq_true hka] at hst;have hkI:(k:Int) = (a0:Int):=by omega
    refine aa _ ?_;simp [hm,hltI];refine ah.pure IU (hak _) ?_;have w4:IntKind.i64.wrap ((a0:Int) + 1) = ((k + 1:Nat):Int):=by rw [← hkI]; exact w3
    simp [hm,cv0,r0,hkI,w4,fits_int,hmN];exact ⟨by omega,k + 1,by omega,q + 1,⟨⟨by rw [hst]; simp [aY,hkI],rfl⟩,by omega⟩,rfl,by omega⟩
   ·rw [hpk,decide_eq_false hka] at hst;have hkI:¬ (k:Int) = (a0:Int):=by omega
    refine aa _ ?_;simp [hm,hltI];refine ah.pure IU (hak _) ?_;simp [hm,cv0,r0,hkI,w3,fits_int,hmN];exact ⟨k + 1,by omega,q,⟨⟨by rw [hst]; simp,rfl⟩,by simp⟩,rfl,by omega⟩
  ·rw [hpk,Bool.true_or] at hst;refine aa _ ?_;simp [hm,hltI];refine ah.pure IU (hak _) ?_;simp [hm,cv0,r0,w3,fits_int,hmN];exact ⟨by omega,k + 1,by omega,q + 1,⟨⟨by rw [hst]; simp [aY],rfl⟩,by simp⟩,rfl,by omega⟩
 ·obtain rfl:k = m:=by omega
  refine aa _ ?_;simp [hm];refine ah.pure oz (c2 _) ?_;simp [hm,hnk,cv1,cv2,r1,r2,hmN,hnN];refine ah.pure Gc (s1 _) ?_;simp [hm,hnk,cv1,cv2,r1,r2];refine ah.pure Gc (s2 _) ?_;simp [hm,hnk,cv1,cv2,r1,r2];refine ah.pure IM (s3 _) ?_;simp [hm,hnk,cv1,cv2,r1,r2];refine ah.pure IM (s4 _) ?_;simp [q1,q2,q3,q4,hm,hnk,cv1,cv2,r1,r2];refine ah.pure oL (bL _) ?_;simp [q1,q2,q3,q4,hm,hnk,cv1,cv2,r1,r2]
end Go.AM
