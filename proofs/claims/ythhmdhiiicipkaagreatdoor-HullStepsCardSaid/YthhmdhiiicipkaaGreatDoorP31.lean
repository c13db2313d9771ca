/- HullRound: what is written is read az it was; what is read is written az it was. -/
import Derived.Test.YthhmdhiiicipkaaGreatDoorP29
import Derived.Test.YthhmdhiiicipkaaGreatDoorP27
import Derived.Test.YthhmdhiiicipkaaGreatDoorP25
namespace Go.AM
open Go.Proofs
set_option maxRecDepth 100000
set_option maxHeartbeats 1000000
theorem Af {p:ar} (h:OkP p):lJ p:=by
  have hm:(12:Nat) ≤ maxLen:=by unfold maxLen; omega
  have ht:=oL h
  exact ⟨Nat.le_trans ht.n1 hm,fun x hx=>Nat.le_trans (ht.ship x hx).len hm,Nat.le_trans (Nat.le_trans ht.n2 (by omega)) hm,fun c hc=>by
    have hr:=ht.chs c hc
    rcases Decidable.em (c.what = 2) with h2 | h2
    · rw [hr.bare h2]; simp [zHu]
    · exact Nat.le_trans (hr.part h2).len hm⟩
theorem tW (ps:List HuM) (cs:List ChM) (hf:lJ ⟨ps,cs⟩) (s:ByteArray) :
    Spec Tryz.prog Im [.agg [.slice 7 (ps.map HuM.v), .slice 10 (cs.map ChM.v)], .str s] [] fun r _=>r = .ret (.bool true):=by
  refine NO (by simp) ?_
  have q1:=iB ps cs hf
  have q2:=fS s
  obtain ⟨hl,hon,hcl,hcon⟩:=hf
  have q4:=nz ps cs hl hon hcl hcon
  -- the text that is read
  have hR:(∃ e:Int,e ≠ 0 ∧ gH s = .tup [eU,ii' e]) ∨ ∃ q:ar,OkP q ∧ gH s = .tup [q.v,ii' 0] ∧ ee q = s:=by
    unfold gH
    split
    · exact .inl ⟨3,by omega,rfl⟩
    · cases h:qA (aL s) with
      | none=>exact .inl ⟨6,by omega,rfl⟩
      | some q=>
        obtain ⟨h1,h2⟩:=(mL _ _).1 h
        refine .inr ⟨q,h1,rfl, ?_⟩
        unfold ee
        rw [bA,(cF q).2 h1,if_pos rfl,h2,cU]
  have hW:(bT ⟨ps,cs⟩).2.2 = 0 → gH (ee ⟨ps,cs⟩) = .tup [.agg [.slice 7 (ps.map HuM.v), .slice 10 (cs.map ChM.v)],ii' 0] ∧ (ee ⟨ps,cs⟩).size ≤ 6000:=by
    intro h
    have hok:=(cF ⟨ps,cs⟩).1 (by rw [← bA]; exact h)
    have ht:=CN (oL hok)
    have hw:ee ⟨ps,cs⟩ = bytes (fY ⟨ps,cs⟩):=by unfold ee; rw [if_pos h]
    have hsz:(ee ⟨ps,cs⟩).size ≤ 6000:=by rw [hw,sh]; omega
    refine ⟨?_,hsz⟩
    have hr:aL (bytes (fY ⟨ps,cs⟩)) = fY ⟨ps,cs⟩:=fL _
    unfold gH
    rw [if_neg (by omega),hw,hr,(mL _ _).2 ⟨hok,rfl⟩]
    rfl
  rcases hR with ⟨e,he,hR⟩ | ⟨⟨qs,ds⟩,hq,hR,hwq⟩
  · rw [hR] at q2
    clear hR
    rcases Decidable.em ((bT ⟨ps,cs⟩).2.2 = 0) with hE | hE
    · obtain ⟨hv,hsz⟩:=hW hE
      have q3:=fS (ee ⟨ps,cs⟩)
      rw [hv] at q3
      rw [hE] at q1
      clear hW hv
      have hszI:((ee ⟨ps,cs⟩).size:Int) ≤ 6000:=by omega
      refine aa _ ?_
      simp [CA]
      refine af.pure zc (q1 _) ?_
      simp
      refine af.pure Ab (q3 _) ?_
      simp
      refine af.pure GM (q4 _) ?_
      simp [hszI]
      refine af.pure Ab (q2 _) ?_
      simp [he,eU,show IntKind.i64.wrap 0 = 0 from aj (by omega) (by omega)]
      refine af.pure jB (bj _) ?_
      simp
      exact aj (by omega) (by omega)
    · clear hW
      generalize (bT ⟨ps,cs⟩).2.2 = E at *
      refine aa _ ?_
      simp [CA]
      refine af.pure zc (q1 _) ?_
      simp [hE]
      refine af.pure Ab (q2 _) ?_
      simp [he,eU,show IntKind.i64.wrap 0 = 0 from aj (by omega) (by omega)]
      refine af.pure jB (bj _) ?_
      simp
      exact aj (by omega) (by omega)
  · rw [hR] at q2
    have q5:=iB qs ds (Af hq)
    rw [hwq,bA,(cF _).2 hq] at q5
    simp only [ar.v,ar.cells] at q2
    rcases Decidable.em ((bT ⟨ps,cs⟩).2.2 = 0) with hE | hE
    · obtain ⟨hv,hsz⟩:=hW hE
      have q3:=fS (ee ⟨ps,cs⟩)
      rw [hv] at q3
      rw [hE] at q1
      clear hW hv
      have hszI:((ee ⟨ps,cs⟩).size:Int) ≤ 6000:=by omega
      refine aa _ ?_
      simp [CA]
      refine af.pure zc (q1 _) ?_
      simp
      refine af.pure Ab (q3 _) ?_
      simp
      refine af.pure GM (q4 _) ?_
      simp [hszI]
      refine af.pure Ab (q2 _) ?_
      simp
      refine af.pure zc (q5 _) ?_
      simp
      refine af.pure jB (bj _) ?_
      simp
    · clear hW
      generalize (bT ⟨ps,cs⟩).2.2 = E at *
      refine aa _ ?_
      simp [CA]
      refine af.pure zc (q1 _) ?_
      simp [hE]
      refine af.pure Ab (q2 _) ?_
      simp
      refine af.pure zc (q5 _) ?_
      simp
      refine af.pure jB (bj _) ?_
      simp
end Go.AM
