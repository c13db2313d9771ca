/- HullRound: what is written is read az it was; what is read is written az it was. HullTexts: Write and Read return what the document says. -/
import Derived.Test.YthhmdhiiicipkaaGreatDoorP29
import Derived.Test.YthhmdhiiicipkaaGreatDoorP28
import Derived.Test.YthhmdhiiicipkaaGreatDoorP27
import Derived.Test.YthhmdhiiicipkaaGreatDoorP32
namespace Go.AM
open Go.Proofs
set_option maxRecDepth 100000
set_option maxHeartbeats 1000000
theorem As {p:ar} (h:OkP p):lJ p:=by
  have hm:(12:Nat) ≤ maxLen:=by unfold maxLen; omega
  have ht:=oL h
  exact ⟨Nat.le_trans ht.n1 hm,fun x hx=>Nat.le_trans (ht.ship x hx).len hm,Nat.le_trans (Nat.le_trans ht.n2 (by omega)) hm,fun c hc=>by
    have hr:=ht.chs c hc
    rcases Decidable.em (c.what = 2) with h2 | h2
    · rw [hr.bare h2]; simp [zHu]
    · exact Nat.le_trans (hr.part h2).len hm⟩
set_option maxRecDepth 100000
set_option maxHeartbeats 1000000
theorem qu (ps:List HuM) (cs:List ChM) (hf:gO ⟨ps,cs⟩) (s:ByteArray) :
    Spec Tryz.prog F_5 [.agg [.slice 7 (ps.map HuM.v), .slice 10 (cs.map ChM.v)], .str s] [] fun r _=>r = .ret (.bool true):=by
  refine S_5 (by simp) ?_
  have q1:=iB ps cs hf.tolJ
  have q2:=pY ps cs hf
  have q3:=fS s
  have q4:=rB s
  have hR:∃ (qs:List HuM) (ds:List ChM) (e:Int),lJ ⟨qs,ds⟩ ∧ gH s = .tup [.agg [.slice 7 (qs.map HuM.v), .slice 10 (ds.map ChM.v)],ii' e]:=by
    unfold gH
    split
    · exact ⟨[],[],3,⟨by simp,by simp,by simp,by simp⟩,rfl⟩
    · cases h:qA (aL s) with
      | none=>exact ⟨[],[],6,⟨by simp,by simp,by simp,by simp⟩,rfl⟩
      | some q=>exact ⟨q.ship,q.chs,0,As ((mL _ _).1 h).1,rfl⟩
  obtain ⟨qs,ds,e,hq,hR⟩:=hR
  rw [hR] at q3 q4
  obtain ⟨hl,hon,hcl,hcon⟩:=hq
  have q5:=nz qs ds hl hon hcl hcon
  clear hR
  generalize ee ⟨ps,cs⟩ = W at *
  generalize (bT ⟨ps,cs⟩).2.2 = E at *
  refine aa _ ?_
  simp [C_5]
  refine af.pure zc (q1 _) ?_
  simp
  refine af.pure EE (q2 _) ?_
  simp
  refine af.pure Ab (q3 _) ?_
  simp
  refine af.pure Hg (q4 _) ?_
  simp
  refine af.pure GM (q5 _) ?_
  simp
  refine af.pure jB (bj _) ?_
  simp
end Go.AM
