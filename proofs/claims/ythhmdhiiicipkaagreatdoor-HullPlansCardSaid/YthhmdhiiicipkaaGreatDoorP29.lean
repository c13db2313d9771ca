/- Weigh: over all frames the sum of the weights; two stretches and both az one. Plain. A plan without an error; the days that the laws ask for. HullWeighs: what parts weigh over frames. -/
import Derived.Test.YthhmdhiiicipkaaGreatDoorP22
import Derived.Test.YthhmdhiiicipkaaGreatDoorP28
import Derived.Test.YthhmdhiiicipkaaGreatDoorP24
namespace Go.AM
open Go.Proofs
def gG:List HuM → Int
  | []=>0
  | x :: r=>x.lo + gG r
def gJ:List HuM → Int
  | []=>0
  | x :: r=>x.hi + gJ r
theorem AU {x:HuM} (h:WOk x):wIn 0 40 x = cG x:=by
  obtain ⟨h1,h2,h3,_,_⟩:=h
  unfold wIn cG; omega
theorem lD {x:HuM} (h:WOk x):1 ≤ cG x:=by have:=h.fl; unfold cG; omega
theorem sa {a b:Int} {x:HuM} (h:WOk x):wLo a b x = x.lo * wIn a b x / cG x:=by
  have h1:=lB (a:=a) (b:=b) h
  exact Int.tdiv_eq_ediv_of_nonneg (Int.mul_nonneg h.lo.1 h1.1)
theorem nC {a b:Int} {x:HuM} (h:WOk x):wHi a b x = (x.hi * wIn a b x + (cG x - 1)) / cG x:=by
  have h1:=lB (a:=a) (b:=b) h
  have h2:=lD h
  have hp:0 ≤ x.hi * wIn a b x:=Int.mul_nonneg h.hi.1 h1.1
  unfold wHi
  rw [Int.tdiv_eq_ediv_of_nonneg (by omega),show x.hi * wIn a b x + cG x - 1 = x.hi * wIn a b x + (cG x - 1) by omega]
theorem od {n d q:Int} (hd:0 < d):q ≤ n / d ↔ q * d ≤ n:=Int.le_ediv_iff_mul_le hd
theorem sH {n d q:Int} (hd:0 < d):(n + (d - 1)) / d ≤ q ↔ n ≤ q * d:=by
  constructor
  · intro h
    have h1:¬ (q + 1 ≤ (n + (d - 1)) / d):=by omega
    rw [od hd,Int.add_mul] at h1
    omega
  · intro h
    have h1:¬ (q + 1 ≤ (n + (d - 1)) / d):=by
      rw [od hd,Int.add_mul]; omega
    omega
theorem vo:∀ {l:List HuM},(∀ x ∈ l,WOk x) → aX 0 40 l = gG l ∧ aT 0 40 l = gJ l
  | [],_=>⟨rfl,rfl⟩
  | x :: l,h=>by
    have ih:=vo (l:=l) fun y hy=>h y (by simp [hy])
    have hx:=h x (by simp)
    have hl:=lD hx
    have e1:wLo 0 40 x = x.lo:=by
      rw [sa hx,AU hx]; exact Int.mul_ediv_cancel _ (by omega)
    have e2:wHi 0 40 x = x.hi:=by
      rw [nC hx,AU hx,Int.mul_comm,Int.add_comm,Int.add_mul_ediv_left _ _ (by omega),Int.ediv_eq_zero_of_lt (by omega) (by omega)]; omega
    simp only [aX,aT,gG,gJ,ih.1,ih.2,e1,e2,and_self]
theorem Bd {a b c:Int} {x:HuM} (h:WOk x) (h1:a ≤ b) (h2:b < c):wIn a b x + wIn (b + 1) c x = wIn a c x:=by
  obtain ⟨f0,fl,l1,_,_⟩:=h
  unfold wIn; omega
theorem p7 {a b c:Int} (h1:a ≤ b) (h2:b < c):∀ {l:List HuM},(∀ x ∈ l,WOk x) →
    aX a b l + aX (b + 1) c l ≤ aX a c l ∧ aT a c l ≤ aT a b l + aT (b + 1) c l
  | [],_=>by simp [aX,aT]
  | x :: l,h=>by
    have ih:=p7 h1 h2 (l:=l) fun y hy=>h y (by simp [hy])
    have hx:=h x (by simp)
    have hl:=lD hx
    have ha:=Bd hx h1 h2
    have e1:wLo a b x + wLo (b + 1) c x ≤ wLo a c x:=by
      rw [sa hx (a:=a) (b:=c),od (by omega), ← ha,Int.add_mul,Int.mul_add]
      have g1:=(od (n:=x.lo * wIn a b x) (q:=wLo a b x) (by omega:0 < cG x)).1 (by rw [sa hx]; exact Int.le_refl _)
      have g2:=(od (n:=x.lo * wIn (b + 1) c x) (q:=wLo (b + 1) c x) (by omega:0 < cG x)).1 (by rw [sa hx]; exact Int.le_refl _)
      omega
    have e2:wHi a c x ≤ wHi a b x + wHi (b + 1) c x:=by
      rw [nC hx (a:=a) (b:=c),sH (by omega), ← ha,Int.add_mul,Int.mul_add]
      have g1:=(sH (n:=x.hi * wIn a b x) (q:=wHi a b x) (by omega:0 < cG x)).1 (by rw [nC hx]; exact Int.le_refl _)
      have g2:=(sH (n:=x.hi * wIn (b + 1) c x) (q:=wHi (b + 1) c x) (by omega:0 < cG x)).1 (by rw [nC hx]; exact Int.le_refl _)
      omega
    simp only [aX,aT]
    omega
theorem tC {a b:Int}:∀ {l:List HuM},(∀ x ∈ l,WOk x ∧ x.lo ≤ x.hi) → aX a b l ≤ aT a b l
  | [],_=>by simp [aX,aT]
  | x :: l,h=>by
    have ih:=tC (a:=a) (b:=b) (l:=l) fun y hy=>h y (by simp [hy])
    obtain ⟨hx,hle⟩:=h x (by simp)
    have hl:=lD hx
    have hin:=lB (a:=a) (b:=b) hx
    have e:wLo a b x ≤ wHi a b x:=by
      rw [nC hx,od (by omega)]
      have g1:=(od (n:=x.lo * wIn a b x) (q:=wLo a b x) (by omega:0 < cG x)).1 (by rw [sa hx]; exact Int.le_refl _)
      have g2:x.lo * wIn a b x ≤ x.hi * wIn a b x:=Int.mul_le_mul_of_nonneg_right hle hin.1
      omega
    simp only [aX,aT]
    omega
theorem Ac {a b c:Int} (h1:a ≤ b) (h2:b < c) {l:List HuM} (h:∀ x ∈ l,WOk x):aX a b l ≤ aX a c l ∧ aT a b l ≤ aT a c l:=by
  have h3:=(p7 h1 h2 h).1
  have h4:=(l5 (b + 1) c l h).1.1
  refine ⟨by omega, ?_⟩
  clear h3 h4
  induction l with
  | nil=>simp [aT]
  | cons x l ih=>
    have ih':=ih fun y hy=>h y (by simp [hy])
    have hx:=h x (by simp)
    have hl:=lD hx
    have ha:=Bd hx h1 h2
    have hin:=lB (a:=b + 1) (b:=c) hx
    have e:wHi a b x ≤ wHi a c x:=by
      rw [nC hx (a:=a) (b:=b),sH (by omega)]
      have g1:=(sH (n:=x.hi * wIn a c x) (q:=wHi a c x) (by omega:0 < cG x)).1 (by rw [nC hx]; exact Int.le_refl _)
      have g2:x.hi * wIn a b x ≤ x.hi * wIn a c x:=Int.mul_le_mul_of_nonneg_left (by omega) hx.hi.1
      omega
    simp only [aT]
    omega
theorem AN:∀ {l:List HuM},(∀ x ∈ l,WOk x) → (0 ≤ gG l ∧ gG l ≤ 1000000 * l.length) ∧ (0 ≤ gJ l ∧ gJ l ≤ 1000000 * l.length)
  | [],_=>by simp [gG,gJ]
  | x :: l,h=>by
    have ih:=AN (l:=l) fun y hy=>h y (by simp [hy])
    have hx:=h x (by simp)
    have:=hx.lo
    have:=hx.hi
    simp only [gG,gJ,List.length_cons]
    omega
set_option maxRecDepth 100000
set_option maxHeartbeats 1000000
theorem ez (ps:List HuM) (cs:List ChM) (hf:gO ⟨ps,cs⟩) (σ:ag) :
    Spec Tryz.prog GH [.agg [.slice 7 (ps.map HuM.v), .slice 10 (cs.map ChM.v)]] σ fun r σ'=>r = .ret (.bool (decide ((bL ⟨ps,cs⟩).2.2 = 0))) ∧ σ' = σ:=by
  refine Spec.aC (MX (by simp) (aa _ ?_)) (by simp [ab.pure,aA,ah (f:=HuM.v) (fun p=>p.pure) ps,ah (f:=ChM.v) (fun c=>c.pure) cs]) rfl σ
  have q:=fg ps cs hf
  generalize bL ⟨ps,cs⟩ = A at q ⊢
  obtain ⟨a1,a2,a3⟩:=A
  simp only [dc] at q ⊢
  simp [KF]
  refine af.pure uA (q _) ?_
  simp
  rw [Bool.eq_iff_iff]; simp
theorem dt (p:ar) (d:Nat) (hd:d ≤ 40000):bJ p d = (bL p).2.2:=by
  have hb:aH 0 40000 [(d:Int)] = false:=by simp [aH,n4]; omega
  unfold bJ
  rw [bA,hb]
  split
  · rfl
  · rename_i h
    rw [if_neg (by simp)]
    exact (Decidable.not_not.1 h).symm
theorem Ee (d:Nat) (h:d ≤ 65535):(IntKind.i64.wrap (d:Int)).tmod 40001 = ((d % 40001:Nat):Int) ∧ d % 40001 ≤ 40000:=by
  refine ⟨?_,by omega⟩
  rw [aj (by omega) (by omega),Int.tmod_eq_emod_of_nonneg (by omega)]; omega
set_option maxRecDepth 100000
set_option maxHeartbeats 1000000
theorem uS (p:ar) (d:Nat) (hd:d ≤ 40000) (h:(bL p).2.2 = 0) (a b:Int) (h1:0 ≤ a) (h2:a ≤ b) (h3:b ≤ 40):cB p d a b = 0:=by
  have hb:aH 0 40 [a,b] = false:=by simp [aH,n4]; omega
  unfold cB
  rw [dt p d hd,h,hb,if_neg (by simp),if_neg (by simp; omega)]
theorem Ca (p:ar) (d:Nat) (hd:d ≤ 40000) (h:(bL p).2.2 = 0) (a b:Int) (h1:0 ≤ a) (h2:a ≤ b) (h3:b ≤ 40) :
    b9 p d a b = .agg [ii' (aX a b (aM d p.ship p.chs)),ii' (aT a b (aM d p.ship p.chs))]:=by
  unfold b9
  have hok:=(cF p).1 h
  rw [if_pos (uS p d hd h a b h1 h2 h3),dF d _ _ _ hok.ship hok.steps]
theorem As {l:List HuM} {i:Nat} (h:i < l.length):gG (l.take (i + 1)) = gG (l.take i) + (l[i]).lo:=by
  induction l generalizing i with
  | nil=>simp at h
  | cons a r ih=>
    cases i with
    | zero=>simp [gG]
    | succ i=>simp only [List.take_succ_cons,gG,ih (i:=i) (by simpa using h),List.getElem_cons_succ]; omega
theorem zz {l:List HuM} {i:Nat} (h:i < l.length):gJ (l.take (i + 1)) = gJ (l.take i) + (l[i]).hi:=by
  induction l generalizing i with
  | nil=>simp at h
  | cons a r ih=>
    cases i with
    | zero=>simp [gJ]
    | succ i=>simp only [List.take_succ_cons,gJ,ih (i:=i) (by simpa using h),List.getElem_cons_succ]; omega
theorem Ff {x:HuM} (h:pL x):x.lo ≤ x.hi:=by
  have h2:=h.span
  unfold ew gi at h2
  dsimp only at h2
  split at h2
  · exact absurd h2 (by omega)
  · split at h2
    · exact absurd h2 (by omega)
    · omega
theorem ru (ps:List HuM) (cs:List ChM) (hf:gO ⟨ps,cs⟩) (d x y z:Nat) (hdm:d ≤ 65535) (hx:x ≤ 255) (hy:y ≤ 255) (hz:z ≤ 255) :
    Spec Tryz.prog F_9 [.agg [.slice 7 (ps.map HuM.v), .slice 10 (cs.map ChM.v)], .int .u16 d, .agg [.int .u8 x, .int .u8 y, .int .u8 z]] [] fun r _=>r = .ret (.bool true):=by
  refine S_9 (by simp) (aa _ ?_)
  have hon:(IntKind.i64.wrap (d:Int)).tmod 40001 = ((d % 40001:Nat):Int):=by rw [aj (by omega) (by omega),Int.tmod_eq_emod_of_nonneg (by omega)]; omega
  have hd:d % 40001 ≤ 40000:=by omega
  generalize d % 40001 = on at hon hd
  have q1:=fun a b=>fq ps cs hf.tolJ on a b
  have q2:=ez ps cs hf
  simp [C_9,hon]
  rcases Decidable.em ((bL ⟨ps,cs⟩).2.2 = 0) with hv | hv
  rotate_left
  · have he:cB ⟨ps,cs⟩ on 0 40 = (bL ⟨ps,cs⟩).2.2:=by unfold cB; rw [dt _ on hd,if_pos hv]
    have hw:b9 ⟨ps,cs⟩ on 0 40 = .agg [ii' 0,ii' 0]:=by unfold b9; rw [he,if_neg hv]
    have q3:=q1 0 40
    rw [he,hw] at q3
    generalize (bL ⟨ps,cs⟩).2.2 = E at hv q2 q3
    refine af.pure yl (q3 _) ?_
    simp
    refine af.pure rB (q2 _) ?_
    simp [hv]
    refine ⟨_,fun σ'=>aB.func oE (bt 0 0 σ'), ?_⟩
    simp [bz]
    refine ⟨_,fun σ'=>aB.func jB (bj σ'), ?_⟩
    simp
  have hok:=(cF _).1 hv
  have hS:OkS (aM on ps cs):=cM hok.ship hok.steps on
  have hW:∀ x ∈ aM on ps cs,WOk x:=fun x hx=>tp (hS.part x hx)
  have q4:∀ (a b:Int),0 ≤ a → a ≤ b → b ≤ 40 → ∀ σ,Spec Tryz.prog Cl [.agg [.slice 7 (ps.map HuM.v), .slice 10 (cs.map ChM.v)],ii' on,ii' a,ii' b] σ fun r σ'=>r = .ret (.tup [.agg [ii' (aX a b (aM on ps cs)),ii' (aT a b (aM on ps cs))],ii' 0]) ∧ σ' = σ:=fun a b h1 h2 h3 σ=>by
    have:=q1 a b σ
    rw [uS _ on hd hv a b h1 h2 h3,Ca _ on hd hv a b h1 h2 h3] at this
    exact this
  have q5:=bP ps cs hf hok on
  refine af.pure yl (q4 0 40 (by omega) (by omega) (by omega) _) ?_
  simp
  refine af.pure rB (q2 _) ?_
  simp [hv]
  refine af.pure oE (bt 0 0 _) ?_
  simp [hon]
  refine af.pure p0 (q5 _) ?_
  simp
  have hl12:=hS.len
  have hb0:∀ i,(0 ≤ gG ((aM on ps cs).take i) ∧ gG ((aM on ps cs).take i) ≤ 1000000 * 12) ∧ (0 ≤ gJ ((aM on ps cs).take i) ∧ gJ ((aM on ps cs).take i) ≤ 1000000 * 12):=fun i=>by
    have h1:=AN (l:=(aM on ps cs).take i) fun x hx=>hW x (List.mem_of_mem_take hx)
    have h2:((aM on ps cs).take i).length ≤ 12:=by simp; omega
    omega
  obtain ⟨wa,wb⟩:=vo hW
  have w2:=fun a b c h1 h2=>p7 (a:=a) (b:=b) (c:=c) h1 h2 hW
  have w3:=fun a b=>tC (a:=a) (b:=b) (l:=aM on ps cs) fun x hx=>⟨hW x hx,by have:=Ff (hS.part x hx); exact this⟩
  have w4:=fun a b c h1 h2=>Ac (a:=a) (b:=b) (c:=c) h1 h2 hW
  have w5:=fun a b=>l5 a b (aM on ps cs) hW
  rw [wa,wb]
  generalize aM on ps cs = L at *
  refine AW.loop (ι:=Nat) (fun i fr σ=>fr = { v:=[(3,(ab.agg [ab.slice 7 (List.map HuM.v ps),ab.slice 10 (List.map ChM.v cs)]).pval),(5,(ab.agg [ab.int IntKind.u8 x,ab.int IntKind.u8 y,ab.int IntKind.u8 z]).pval),(7,ab.int IntKind.i64 ((IntKind.i64.wrap d).tmod 40001)),(8,(ab.agg [ii' (gG L),ii' (gJ L)]).pval),(9,ii' 0),(10,ab.ptr 1 0),(11,ab.slice 7 (List.map HuM.v L)),(12,ab.int IntKind.i64 i)],ds:=[] } ∧ σ = [aQ.dead,aQ.box [ii' (gG (L.take i)),ii' (gJ (L.take i))]] ∧ i ≤ L.length) (fun i=>L.length - i) 0 (by simp [gG,gJ]) ?_
  rintro i fr σ ⟨rfl,rfl,hi⟩
  refine (Nat.lt_or_ge i L.length).elim (fun hlt=>?_) (fun hge=>?_)
  · have hl1:=As hlt
    have hl2:=zz hlt
    have hb1:=hb0 (i + 1)
    have hwi:IntKind.i64.wrap ((i:Int) + 1) = ((i + 1:Nat):Int):=by rw [aj (by omega) (by omega)]; simp
    have hwl:IntKind.i64.wrap (gG (L.take i) + (L[i]).lo) = gG (L.take (i + 1)):=by rw [← hl1,aj (by omega) (by omega)]
    have hwh:IntKind.i64.wrap (gJ (L.take i) + (L[i]).hi) = gJ (L.take (i + 1)):=by rw [← hl2,aj (by omega) (by omega)]
    refine aa _ ?_
    simp [hlt,HuM.v,HuM.cells,hwl,hwh,hwi]
    refine ⟨_,fun σ'=>aB.func oE (bt _ _ σ'), ?_⟩
    simp [putCells]
    exact ⟨i + 1,by omega,by simp,by simp,by omega⟩
  · have htk:L.take i = L:=List.take_of_length_le (by omega)
    rw [htk]
    have m1:(IntKind.i64.wrap (x:Int)).tmod 40 = ((x % 40:Nat):Int):=by rw [aj (by omega) (by omega),Int.tmod_eq_emod_of_nonneg (by omega)]; omega
    have hF:x % 40 ≤ 39:=by omega
    generalize x % 40 = F at m1 hF
    obtain ⟨G,hG⟩:∃ G:Nat,F + G = 40:=⟨40 - F,by omega⟩
    have m2:IntKind.i64.wrap (40 - (F:Int)) = (G:Int):=by rw [aj (by omega) (by omega)]; omega
    have m3:(IntKind.i64.wrap (y:Int)).tmod (G:Int) = ((y % G:Nat):Int):=by rw [aj (by omega) (by omega),Int.tmod_eq_emod_of_nonneg (by omega),Int.natCast_emod]
    have hA:y % G < G:=Nat.mod_lt _ (by omega)
    generalize y % G = A at m3 hA
    obtain ⟨T,hT⟩:∃ T:Nat,F + A = T:=⟨_,rfl⟩
    have m4:IntKind.i64.wrap ((F:Int) + (A:Int)) = (T:Int):=by rw [aj (by omega) (by omega)]; omega
    obtain ⟨G2,hG2⟩:∃ G:Nat,T + G = 40:=⟨40 - T,by omega⟩
    have m5:IntKind.i64.wrap (40 - (T:Int)) = (G2:Int):=by rw [aj (by omega) (by omega)]; omega
    have m6:(IntKind.i64.wrap (z:Int)).tmod (G2:Int) = ((z % G2:Nat):Int):=by rw [aj (by omega) (by omega),Int.tmod_eq_emod_of_nonneg (by omega),Int.natCast_emod]
    have hB:z % G2 < G2:=Nat.mod_lt _ (by omega)
    generalize z % G2 = B at m6 hB
    have m7:IntKind.i64.wrap ((T:Int) + 1) = (T:Int) + 1:=aj (by omega) (by omega)
    obtain ⟨E,hE⟩:∃ E:Nat,T + 1 + B = E:=⟨_,rfl⟩
    have m8:IntKind.i64.wrap ((T:Int) + 1 + (B:Int)) = (E:Int):=by rw [aj (by omega) (by omega)]; omega
    have hG0:¬ (G:Int) = 0:=by omega
    have hG20:¬ (G2:Int) = 0:=by omega
    have f0:=w2 F T E (by omega) (by omega)
    have f1:=w3 F T
    have f2:=w4 F T E (by omega) (by omega)
    have f3:=w5 F T
    have f4:=w5 (T + 1) E
    have n1:IntKind.i64.wrap (aX F T L + aX (T + 1) E L) = aX F T L + aX (T + 1) E L:=aj (by omega) (by omega)
    have n2:IntKind.i64.wrap (aT F T L + aT (T + 1) E L) = aT F T L + aT (T + 1) E L:=aj (by omega) (by omega)
    have p1:=q4 F T (by omega) (by omega) (by omega)
    have p2:=q4 (T + 1) E (by omega) (by omega) (by omega)
    have p3:=q4 F E (by omega) (by omega) (by omega)
    obtain ⟨a1,ha1⟩:∃ a,aX F T L = a:=⟨_,rfl⟩
    obtain ⟨a2,ha2⟩:∃ a,aT F T L = a:=⟨_,rfl⟩
    obtain ⟨b1,hb1⟩:∃ a,aX (T + 1) E L = a:=⟨_,rfl⟩
    obtain ⟨b2,hb2⟩:∃ a,aT (T + 1) E L = a:=⟨_,rfl⟩
    obtain ⟨c1,hc1⟩:∃ a,aX F E L = a:=⟨_,rfl⟩
    obtain ⟨c2,hc2⟩:∃ a,aT F E L = a:=⟨_,rfl⟩
    simp only [ha1,ha2] at p1 f1
    simp only [hb1,hb2] at p2
    simp only [hc1,hc2] at p3
    simp only [ha1,ha2,hb1,hb2,hc1,hc2] at f0 f2 n1 n2
    clear w2 w3 w4 w5 q4 hb0 f3 f4 ha1 ha2 hb1 hb2 hc1 hc2 wa wb
    obtain ⟨g1,g2⟩:=f0
    obtain ⟨g4,g5⟩:=f2
    refine aa _ ?_
    simp [show ¬ i < L.length by omega,m1,m2,m3,m4,m5,m6,m7,m8,show ¬ G = 0 by omega,show ¬ G2 = 0 by omega,hon]
    refine af.pure yl (p1 _) ?_
    simp [m1,m2,m3,m4,m5,m6,m7,m8,hon]
    refine af.pure yl (p2 _) ?_
    simp [m1,m2,m3,m4,m5,m6,m7,m8,hon]
    refine af.pure yl (p3 _) ?_
    simp [-eX]
    repeat (rw [eX]; simp [-eX,n1,n2,g1,g2,f1,g4,g5])
    refine af.pure jB (bj _) ?_
    repeat (rw [eX]; simp [-eX])
end Go.AM
