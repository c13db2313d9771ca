/- CutEasier: what the law's call returns. -/
import Derived.Test.YtmjfcbpgnmajpaaGreatDoorUC4
import Derived.Test.YtmjfcbpgnmajpaaGreatDoorUE0
import Derived.Test.YtmjfcbpgnmajpaaGreatDoorUG0
namespace Go.AM
open Go.Proofs
set_option maxRecDepth 100000
set_option maxHeartbeats 1000000
theorem Bl (l : List (List Int)) : Fits 1 (l.map cj) := by
  intro v hv
  obtain ⟨a,_,rfl⟩ := List.mem_map.1 hv
  exact ⟨⟨rfl,rfl⟩,rfl⟩
theorem sk (t : ah) (hok : t.Ok) (x : List Int) (hx : nt x) (a b w : Int) (ha : 0 ≤ a ∧ a ≤ 65535) (hb : 0 ≤ b ∧ b ≤ 65535) (hw : 0 ≤ w ∧ w ≤ 255) (haw : ∀ σ,Spec Tryz.prog vI [] σ fun r σ' => r = .ret (.bool true) ∧ σ' = σ) :
    Spec Tryz.prog Me [t.v, .slice 1 (x.map bb'), .agg [hh' a,hh' b,bb' w]] [] fun r _ => r = .ret (.bool true) := by
  have h2 := fun σ => dA t hok σ
  obtain ⟨a,rfl⟩ : ∃ n : Nat,a = (n : Int) := ⟨a.toNat,by omega⟩
  obtain ⟨b,rfl⟩ : ∃ n : Nat,b = (n : Int) := ⟨b.toNat,by omega⟩
  obtain ⟨w,rfl⟩ : ∃ n : Nat,w = (n : Int) := ⟨w.toNat,by omega⟩
  have ea : IntKind.i64.wrap (a : Int) = (a : Int) := an (by omega) (by omega)
  have eb : IntKind.i64.wrap (b : Int) = (b : Int) := an (by omega) (by omega)
  have ew : IntKind.i64.wrap (w : Int) = (w : Int) := an (by omega) (by omega)
  by_cases h : (aN t).2.2 = 0
  rotate_left
  · refine Po (by simp) (aa _ ?_)
    simp [IP,ah.v,ah.cells]
    refine aj.aD ra (h2 _) (congrArg ab.bool (decide_eq_false h)) ?_
    simp
    exact aj.pure ka (haw _) (by simp)
  have hf := bm h
  have hpos := sI hf
  have h7 := hf.ship7
  have hsp := dU (tF hf.err hf.why)
  obtain ⟨T,hT⟩ : ∃ T : Nat,t.hi - t.lo = (T : Int) := ⟨(t.hi - t.lo).toNat,by omega⟩
  obtain ⟨lo,hlo⟩ : ∃ lo : Int,t.lo + ((a % (T + 1) : Nat) : Int) = lo := ⟨_,rfl⟩
  have hal := Nat.mod_lt a (show 0 < T + 1 by omega)
  obtain ⟨T2,hT2⟩ : ∃ T2 : Nat,t.hi - lo = (T2 : Int) := ⟨(t.hi - lo).toNat,by omega⟩
  obtain ⟨hi,hhi⟩ : ∃ hi : Int,lo + ((b % (T2 + 1) : Nat) : Int) = hi := ⟨_,rfl⟩
  have hbl := Nat.mod_lt b (show 0 < T2 + 1 by omega)
  have p1 : IntKind.i64.wrap (t.hi - t.lo) = (T : Int) := by rw [hT]; exact an (by omega) (by omega)
  have p2 : IntKind.i64.wrap ((T : Int) + 1) = (T : Int) + 1 := an (by omega) (by omega)
  obtain ⟨p3,p4,p5,p6⟩ := lA a (m := T + 1) (by omega)
  have p7 : IntKind.i64.wrap ((a % (T + 1) : Nat) : Int) = ((a % (T + 1) : Nat) : Int) := an (by omega) (by omega)
  have p8 : IntKind.i64.wrap lo = lo := an (by omega) (by omega)
  have q1 : IntKind.i64.wrap (t.hi - lo) = (T2 : Int) := by rw [hT2]; exact an (by omega) (by omega)
  have q2 : IntKind.i64.wrap ((T2 : Int) + 1) = (T2 : Int) + 1 := an (by omega) (by omega)
  obtain ⟨q3,q4,q5,q6⟩ := lA b (m := T2 + 1) (by omega)
  have q7 : IntKind.i64.wrap ((b % (T2 + 1) : Nat) : Int) = ((b % (T2 + 1) : Nat) : Int) := an (by omega) (by omega)
  have q8 : IntKind.i64.wrap hi = hi := an (by omega) (by omega)
  have htl : t.tanks.length = t.ar.length := hf.tanks
  obtain ⟨j,hj⟩ : ∃ j,w % t.tanks.length = j := ⟨_,rfl⟩
  have hjl : j < t.tanks.length := by rw [← hj]; exact Nat.mod_lt _ (by omega)
  obtain ⟨r3,r4,r5,r6⟩ := lA w (m := t.tanks.length) (by omega)
  obtain ⟨m,hm⟩ : ∃ m,w % (t.ar.length + 1) = m := ⟨_,rfl⟩
  obtain ⟨u3,u4,u5,u6⟩ := lA w (m := t.ar.length + 1) (by omega)
  rw [hm] at u6
  rw [hj] at r3
  have us : IntKind.i64.wrap ((t.ar.length : Int) + 1) = (t.ar.length : Int) + 1 := an (by omega) (by omega)
  simp only [Int.natCast_add,Int.natCast_one] at p6 q6 u6
  have hlo' : t.lo + (a : Int) % ((T : Int) + 1) = lo := by rw [← hlo]; simp
  have hhi' : lo + (b : Int) % ((T2 : Int) + 1) = hi := by rw [← hhi]; simp
  have htn : ¬ t.tanks = [] := fun e => by rw [e] at htl; simp at htl; omega
  have hcS : ¬ (t.ar.length : Int) + 1 = 0 := by omega
  have his : ∀ l,cj l = .slice 1 (l.map ii') := fun _ => rfl
  have hset : List.take t.tanks.length ((List.map cj t.tanks).set j (.slice 1 [])) = (List.map cj t.tanks).set j (.slice 1 []) := List.take_of_length_le (by simp)
  have hv : (fq t lo hi j).v = .agg [.slice 7 (t.ar.map HuM.v), .slice 7 (t.hull.ps.map aq.v),ii' t.hull.aft,ii' t.hull.fore,ii' lo,ii' hi, .slice 2 (t.net.tanks.map aE.v), .slice 3 (t.net.pipes.map aG.v), .slice 1 (t.blanks.map ii'), .slice 2 (t.steps.map a7.v), .slice 1 ((t.tanks.map cj).set j (.slice 1 []))] := by
    simp only [ah.v,ah.cells,fq,List.map_set,his,List.map_nil]
  have hgood := fun σ => fN t hok hf x hx m σ
  obtain ⟨s,hgg,_⟩ := nV t (dL x) m
  obtain ⟨g,hgd⟩ : ∃ g,qk t (dL x) m = g := ⟨_,rfl⟩
  rw [hgd] at hgood hgg
  have hg7 := dh hf hgg
  have hk1 : t.lo ≤ lo := by omega
  have hk2 : lo ≤ hi := by omega
  have hk3 : hi ≤ t.hi := by omega
  have hce := zq (j := j) h hk1 hk2 hk3
  have hge := Ab (j := j) h hk1 hk2 hk3 hgg
  have hoke := ES hok lo hi j
  have hbad := fun σ => jZ (fq t lo hi j) hoke g (by simp only [maxLen]; omega) σ
  rw [nU hce hge] at hbad
  simp only [aS] at hbad
  have hmay1 := fun σ => j4 hok h hgg σ
  have hmay2 := fun σ => j4 hoke hce hge σ
  rw [hv] at hbad hmay2
  have hcl7 : (bq t s).length ≤ 7 := nM hf s
  have hcl8 : (bq (fq t lo hi j) s).length ≤ 7 := nM (bm hce) s
  refine Po (by simp) (aa _ ?_)
  simp [IP,ah.v,ah.cells]
  refine aj.aD ra (h2 _) (congrArg ab.bool (decide_eq_true h)) ?_
  have hcT : ¬ (T : Int) + 1 = 0 := by omega
  have hcT2 : ¬ (T2 : Int) + 1 = 0 := by omega
  simp [ea,eb,ew,p1,p2,p6,p7,hlo',p8,hcT,q1,q2,q6,q7,hhi',q8,hcT2,htn,r3,r4,r5,hjl,us,u6,hcS,his,hset]
  refine ⟨Bl _,by omega, .slice 1 (g.map nn'),fun σ' _ => aC.func BI (hgood σ'), ?_⟩
  simp [hset]
  refine aj.pure wW (hbad _) ?_
  simp [hset]
  refine aj.pure zB (hmay1 _) ?_
  simp [hset]
  refine aj.pure zB (hmay2 _) ?_
  simp
  refine AW.loop (ι := Nat) (fun i fr σ => fr = { v := [(12, .slice 1 ((bq t s).map nn')),(14, .slice 1 ((bq (fq t lo hi j) s).map nn')),(16,nn' i)],ds := [] } ∧ i ≤ (bq t s).length) (fun i => (bq t s).length - i) 0 ⟨by simp,by omega⟩ ?_
  rintro i fr σ ⟨rfl,hi'⟩
  refine (Nat.lt_or_ge i (bq t s).length).elim (fun hlt => ?_) (fun hge => ?_)
  · obtain ⟨c,hc⟩ : ∃ c,(bq t s)[i] = c := ⟨_,rfl⟩
    have hcm : c ∈ bq t s := by rw [← hc]; exact List.getElem_mem hlt
    have hcc : (bq (fq t lo hi j) s).contains c = true := List.contains_iff_mem.2 (Ck h hk1 hk2 hk3 hcm)
    have hhas := fun σ => nd (bq (fq t lo hi j) s) (by simp only [maxLen]; omega) c σ
    have hw1 : IntKind.i64.wrap ((i : Int) + 1) = ((i + 1 : Nat) : Int) := by rw [an (by omega) (by omega)]; simp
    refine aa _ ?_
    simp [hlt,hc]
    refine aj.aD jc (hhas _) (congrArg ab.bool hcc) ?_
    simp [hw1]
    exact ⟨i + 1,by omega,by simp,by omega⟩
  · have hnl : ¬ i < (bq t s).length := by omega
    refine aa _ ?_
    simp [hnl]
    exact aj.pure ka (haw _) (by simp)
end Go.AM
