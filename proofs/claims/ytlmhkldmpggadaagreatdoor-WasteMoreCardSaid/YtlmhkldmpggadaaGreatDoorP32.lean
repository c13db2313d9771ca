/- Chapter 09: some papers, by bits; Has. Chapter 09: WasteFewest, by contracts. -/
import Derived.Test.YtlmhkldmpggadaaGreatDoorP30
import Derived.Test.YtlmhkldmpggadaaGreatDoorP26
namespace Go.AM
open Go.Proofs
set_option maxRecDepth 100000
set_option maxHeartbeats 1000000
theorem xq (l:List Int) (hl:l.length ≤ maxLen) (n:Int) (σ:af):Spec Tryz.prog IY [.slice 1 (l.map ii'),ii' n] σ fun r σ'=>r = .ret (.bool (l.any fun x=>decide (x = n))) ∧ σ' = σ:=by
 refine Spec.aI (NQ (by simp) (aa _ ?_)) (by simp [aK,ag.pure,aC (f:=ii') (fun _=>rfl)]) rfl σ;simp [L5];refine AW.loop (ι:=Nat) (fun i fr σ=>fr = { v:=[(0, .slice 1 (l.map ii')),(1,ii' n),(5, .int .i64 i)],ds:=[] } ∧ i ≤ l.length ∧ (l.any fun x=>decide (x = n)) = (l.drop i).any fun x=>decide (x = n)) (fun i=>l.length - i) 0 (by simp) ?_;rintro i fr σ ⟨rfl,hi,hq⟩;refine (Nat.lt_or_ge i l.length).elim (fun hlt=>?_) (fun hge=>?_)
 ·obtain ⟨x,hx⟩:∃ x,l[i] = x:=⟨_,rfl⟩
  rw [List.drop_eq_getElem_cons hlt,List.any_cons,hx] at hq;have hw:IntKind.i64.wrap ((i:Int) + 1) = ((i + 1:Nat):Int):=by rw [aw (by omega) (by simp only [maxLen] at hl; omega)]; simp
  by_cases h:x = n
  ·rw [decide_eq_true h,Bool.true_or] at hq;rw [hq];refine aa _ ?_;simp [hlt,hx,h]
  ·rw [decide_eq_false h,Bool.false_or] at hq;rw [hq];refine aa _ ?_;simp [hlt,hx,h,hw];exact ⟨i + 1,by omega,by simp,by omega,rfl⟩
 ·have hd:l.drop i = []:=List.drop_eq_nil_of_le hge;rw [hd] at hq;rw [hq];refine aa _ ?_;simp [show ¬ i < l.length by omega]
def j0 (bits:Nat) (m:Nat):List Nat:=(List.range m).filter fun i=>bits.testBit i
theorem ze (bits m:Nat):j0 bits (m + 1) = j0 bits m ++ if bits.testBit m then [m] else []:=by
 unfold j0;rw [List.range_succ,List.filter_append];congr 1;cases h:bits.testBit m <;> simp [h]
theorem Ez (bits:Nat) {k:Nat} (hk:k ≤ 16):(((bits:Int).fdiv (2 ^ min k IntKind.u16.bits)).tmod 2 = 1) ↔ bits.testBit k = true:=by
 have h1:min k IntKind.u16.bits = k:=Nat.min_eq_left hk;have h2:(bits:Int).fdiv (2 ^ k) = ((bits / 2 ^ k:Nat):Int):=by
  rw [show ((2:Int) ^ k) = ((2 ^ k:Nat):Int) by simp,Int.ofNat_fdiv]
 rw [h1,h2,Nat.testBit_eq_decide_div_mod_eq,decide_eq_true_eq,Int.tmod_eq_emod_of_nonneg (Int.natCast_nonneg _)];generalize bits / 2 ^ k = z;omega
theorem vl (y:ab) (hm:y.papers.length ≤ 10) (bits:Nat) (_hb:bits ≤ 65535) (σ:af) :
  Spec Tryz.prog II [y.v, .int .u16 bits] σ fun r σ'=>r = .ret (.slice 1 ((aY (j0 bits y.papers.length)).map ii')) ∧ σ' = σ:=by
 refine Spec.aI (Na (by simp) (aa _ ?_)) (by simp [y.pure,aK,ag.pure]) (by simp [ag.pure,aC (f:=ii') (fun _=>rfl)]) σ;simp [Mj,ab.v,ab.cells];refine AW.loop (ι:=Nat) (fun k fr σ'=>∃ (q:Nat) (tl:af),fr = { v:=[(1, .int .u16 bits),(2, .pval y.v),(5, .oslice 1 ((aY (j0 bits k)).map ii') 0 q),(6, .int .i64 k)],ds:=[] } ∧ σ' = .spare 1 q :: tl ∧ k ≤ y.papers.length) (fun k=>y.papers.length - k) 0 ⟨0,[],by simp [j0,aY,ab.v,ab.cells],rfl,by omega⟩ ?_;rintro k fr σ' ⟨q,tl,rfl,rfl,hk⟩;refine (Nat.lt_or_ge k y.papers.length).elim (fun hlt=>?_) (fun hge=>?_);rotate_left
 ·obtain rfl:k = y.papers.length:=by omega
  refine aa _ ?_;simp [ab.v,ab.cells]
 have hltI:(k:Int) < y.papers.length:=by omega
 have w3:IntKind.i64.wrap ((k:Int) + 1) = ((k + 1:Nat):Int):=by rw [aw (by omega) (by omega)]; simp
 have hst:=ze bits k;have hln:(aY (j0 bits k)).length ≤ k:=by
  have:=List.length_filter_le (fun i:Nat=>bits.testBit i) (List.range k);simp only [aY,List.length_map,j0];simpa using this
 refine aa _ ?_;simp [hltI,ab.v,ab.cells,w3];rw [Ez bits (by omega)];refine ⟨fun hb=>⟨fits_int _,by omega,k + 1,by omega,q + 1,⟨⟨by rw [hst,if_pos hb]; simp [aY],rfl⟩,rfl⟩,rfl,by omega⟩,fun hb=>⟨k + 1,by omega,q,⟨⟨by rw [hst,if_neg (by simpa using hb)]; simp,rfl⟩,rfl⟩,rfl,by omega⟩⟩
set_option maxRecDepth 100000
set_option maxHeartbeats 1000000
theorem nr (l:List Nat):bH (aY l) = l:=by
 unfold bH aY;rw [List.map_map]
 conv=>rhs; rw [← List.map_id l]
 exact List.map_congr_left fun x _=>by simp
theorem Cd {y:ab} (hv:bS aN y) {l:List Nat} (ha:qH y.papers.length 0 l):tu y (aY l):=⟨hv,by rw [nr]; exact ha,by rw [nr]⟩
theorem mi {y:ab} (hv:bS aN y) {l:List Nat} (ha:qH y.papers.length 0 l):dE y (aY l) = (aF y l,0):=by
 have h:=(cr y (aY l)).2 (Cd hv ha);unfold dE;rw [if_neg (by simp [h]),nr]
theorem rS {y:ab} (hv:bS aN y):eo y = if aF y (List.range y.papers.length) then 0 else 9:=by
 have h:=(cr y []).2 ⟨hv,by simp [bH,qH],rfl⟩;unfold eo;rw [if_neg (by simp [h])]
theorem Dr {y:ab} (h:(bt aN y).2.2 ≠ 0):eo y = (bt aN y).2.2:=by
 have h1:bQ y [] = (bt aN y).2.2:=by unfold bQ; rw [if_pos h]
 unfold eo;rw [if_pos (by rw [h1]; exact h),h1]
theorem xK (m:Nat):eO m m = List.range m:=by
 unfold eO;rw [List.filter_eq_self];intro x hx;have:=List.mem_range.1 hx;simp; omega
theorem uM {y:ab} (hv:bS aN y) {l:List Nat} (ha:qH y.papers.length 0 l):(aY l).length ≤ maxLen:=by
 have h1:=pE ha;have h2:=hv.m10;simp only [aY,List.length_map,maxLen];omega
theorem rn (y:ab) (hy:dz y) (bits:Nat) (hb:bits ≤ 65535) (σ:af) :
  Spec Tryz.prog F_9 [y.v, .int .u16 bits] σ fun r σ'=>r = .ret (.bool true) ∧ σ' = σ:=by
 refine Spec.aI (S_9 (by simp) ?_) (by simp [y.pure,aK,ag.pure]) rfl σ;have hfe:=fun σ=>jq y hy σ
 have hva:=fun σ=>uA y hy σ
 by_cases h0:(bt aN y).2.2 = 0;rotate_left
 ·have e1:gN y = ([],(bt aN y).2.2):=by unfold gN; rw [Dr h0,if_pos h0]
  rw [e1] at hfe;rw [decide_eq_false h0] at hva;simp only [ab.v,ab.cells] at hfe hva;refine aa _ ?_;simp [C_9,ab.v,ab.cells];refine ah.pure Es (hfe _) ?_;simp;refine ah.pure Gj (hva _) ?_;simp [h0,aY];refine ah.pure oL (bL _) ?_;simp [h0,aY]
 have hv:=(ea aN y).1 h0;rw [decide_eq_true h0] at hva;have hso:=fun σ=>vl y hv.m10 bits hb σ
 have hao:qH y.papers.length 0 (j0 bits y.papers.length):=nw _ _;obtain ⟨o,ho⟩:∃ o,j0 bits y.papers.length = o:=⟨_,rfl⟩
 rw [ho] at hso hao;have hco:=fun σ=>bX y hy (aY o) (uM hv hao) σ
 rw [mi hv hao] at hco;have hcm:aF y o = true → aF y (List.range y.papers.length) = true:=fun h=>lL hv (fun i hi=>List.mem_range.2 (hao.2 i hi).2) h
 by_cases hall:aF y (List.range y.papers.length) = true;rotate_left
 ·have e1:gN y = ([],9):=by unfold gN; rw [rS hv,if_neg hall,if_pos (by decide)]
  have hof:aF y o = false:=by
   cases hq:aF y o with
   | false=>rfl
   | true=>exact absurd (hcm hq) hall
  rw [e1] at hfe;rw [hof] at hco;simp only [ab.v,ab.cells] at hfe hva hso hco;refine aa _ ?_;simp [C_9,ab.v,ab.cells];refine ah.pure Es (hfe _) ?_;simp;refine ah.pure Gj (hva _) ?_;simp;refine ah.pure Jr (hso _) ?_;simp;refine ah.pure oz (hco _) ?_;simp [aY];refine ah.pure oL (bL _) ?_;simp [aY]
 obtain ⟨l,hl⟩:=(A4 hv).2 (by rw [xK]; exact hall);obtain ⟨⟨hla,hlc,hlm⟩,_⟩:=rU hl;have e1:gN y = (l,0):=by unfold gN; rw [rS hv,if_pos hall,if_neg (by decide),hl]
 rw [e1] at hfe;have hcl:=fun σ=>bX y hy (aY l) (uM hv hla) σ
 rw [mi hv hla,hlc] at hcl;obtain ⟨b,hbo⟩:∃ b,aF y o = b:=⟨_,rfl⟩
 rw [hbo] at hco;have hle:b = true → ((aY l).length:Int) ≤ (aY o).length:=fun h=>by
  have:=hlm o hao (by rw [hbo]; exact h);simp only [aY,List.length_map]; omega
 simp only [ab.v,ab.cells] at hfe hva hso hco hcl;obtain ⟨li,hli⟩:∃ li,aY l = li:=⟨_,rfl⟩
 obtain ⟨oi,hoi⟩:∃ oi,aY o = oi:=⟨_,rfl⟩
 rw [hli] at hfe hcl hle;rw [hoi] at hso hco hle;cases b
 ·refine aa _ ?_;simp [C_9,ab.v,ab.cells];refine ah.pure Es (hfe _) ?_;simp;refine ah.pure Gj (hva _) ?_;simp;refine ah.pure Jr (hso _) ?_;simp;refine ah.pure oz (hco _) ?_;simp;refine ah.pure oz (hcl _) ?_;simp;refine ah.pure oL (bL _) ?_;simp
 ·have hle':=hle rfl;have hleN:li.length ≤ oi.length:=by omega
  refine aa _ ?_;simp [C_9,ab.v,ab.cells];refine ah.pure Es (hfe _) ?_;simp;refine ah.pure Gj (hva _) ?_;simp;refine ah.pure Jr (hso _) ?_;simp;refine ah.pure oz (hco _) ?_;simp;refine ah.pure oz (hcl _) ?_;simp [hle'];refine ah.pure oL (bL _) ?_;simp [hle']
end Go.AM
