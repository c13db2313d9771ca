/- Chapter 09: the reference's All and Lists. Chapter 09: of the reference: what journeys allow; which papers differ. A yard of waste of one kind alone. Plain. A number of the range in the place of a paper's: the yard closes; another one: it does not. Plain. -/
import Derived.Test.YtlmhkldmpggadaaGreatDoorP46
import Derived.Test.YtlmhkldmpggadaaGreatDoorP37
import Derived.Test.YtlmhkldmpggadaaGreatDoorP27
namespace Go.AM
open Go.Proofs
set_option maxRecDepth 100000
set_option maxHeartbeats 1000000
set_option maxHeartbeats 4000000
theorem Da (l:List Nat) (i:Nat):((bb l).any fun x=>decide (x = (i:Int))) = decide (i ∈ l):=by
 rw [Bool.eq_iff_iff,List.any_eq_true,decide_eq_true_eq];constructor
 ·rintro ⟨x,hx,e⟩;obtain ⟨j,hj,rfl⟩:=List.mem_map.1 hx;have:j = i:=by have:=of_decide_eq_true e; omega
  exact this ▸ hj
 ·intro h;exact ⟨(i:Int),List.mem_map_of_mem h,by simp⟩
def bw (k:Int) (l:List aj) (j:Nat):Nat:=(l.take j).countP fun p=>decide (p.kind = k)
def db (k:Int) (all:List aj) (p:aj):aj:=if 0 ≤ p.copy then { p with copy:=(bw k all p.copy.toNat:Nat) } else p
def bP (y:ab) (k:Int):ab:={ y with first:=y.first.filter (fun c=>decide (c.kind = k)),papers:=(y.papers.filter fun p=>decide (p.kind = k)).map (db k y.papers),last:=y.last.filter fun c=>decide (c.kind = k) }
theorem G4 {k:Int} {l:List aj} {a b:Nat} (h:a ≤ b):bw k l a ≤ bw k l b:=by
 unfold bw;have e:l.take b = l.take a ++ (l.take b).drop a:=by
  conv=>lhs; rw [← List.take_append_drop a (l.take b)]
  rw [List.take_take,Nat.min_eq_left h]
 rw [e,List.countP_append]; omega
theorem tC {k:Int} {l:List aj} {a:Nat} (h:a < l.length):bw k l (a + 1) = bw k l a + if l[a].kind = k then 1 else 0:=by
 unfold bw;rw [List.take_succ_eq_append_getElem h,List.countP_append,List.countP_singleton];by_cases e:l[a].kind = k <;> simp [e]
theorem j9 {k:Int} {l:List aj} {a b:Nat} (ha:a < l.length) (hk:l[a].kind = k) (h:a < b):bw k l a < bw k l b:=by
 have h1:=tC (k:=k) ha;rw [if_pos hk] at h1;have h2:=G4 (k:=k) (l:=l) (a:=a + 1) (b:=b) h;omega
theorem CW {k:Int} {l:List aj} {a b:Nat} (ha:a < l.length) (hb:b < l.length) (hka:l[a].kind = k) (hkb:l[b].kind = k) (h:bw k l a = bw k l b):a = b:=by
 rcases Nat.lt_trichotomy a b with h1 | h1 | h1
 ·have:=j9 ha hka h1; omega
 ·exact h1
 ·have:=j9 hb hkb h1; omega
theorem Bg {k:Int} {l:List aj} {a:Nat} (ha:a < l.length) (hk:l[a].kind = k):(l.filter fun p=>decide (p.kind = k))[bw k l a]? = some l[a]:=by
 have e:l = l.take a ++ l[a] :: l.drop (a + 1):=by rw [← List.drop_eq_getElem_cons ha,List.take_append_drop]
 have h1:(l.filter fun p=>decide (p.kind = k)) = (l.take a).filter (fun p=>decide (p.kind = k)) ++ l[a] :: (l.drop (a + 1)).filter fun p=>decide (p.kind = k):=by
  conv=>lhs; rw [e]
  rw [List.filter_append,List.filter_cons_of_pos (by simpa using hk)]
 rw [h1];unfold bw;rw [List.countP_eq_length_filter,List.getElem?_append_right (Nat.le_refl _)];simp
theorem oV {y:ab} {k:Int} {a:Nat} (ha:a < y.papers.length) (hk:y.papers[a].kind = k):(bP y k).papers[bw k y.papers a]? = some (db k y.papers y.papers[a]):=by
 unfold bP;dsimp only;rw [List.getElem?_map,Bg ha hk]; rfl
theorem Ba {y:ab} {k:Int} {c:Nat} (hc:c < (bP y k).papers.length):∃ a, ∃ ha:a < y.papers.length,y.papers[a].kind = k ∧ bw k y.papers a = c ∧ (bP y k).papers[c] = db k y.papers y.papers[a]:=by
 have key:∀ (n:Nat),n ≤ y.papers.length → c < bw k y.papers n → ∃ a, ∃ ha:a < y.papers.length,y.papers[a].kind = k ∧ bw k y.papers a = c:=by
  intro n
  induction n with
  | zero=>intro _ h; simp [bw] at h
  | succ n ih=>
   intro hn h;rw [tC (by omega)] at h;rcases Nat.lt_or_ge c (bw k y.papers n) with h1 | h1
   ·exact ih (by omega) h1
   ·split at h
    ·rename_i hk; exact ⟨n,by omega,hk,by omega⟩
    ·omega
 have hl:(bP y k).papers.length = bw k y.papers y.papers.length:=by
  unfold bP bw;dsimp only;rw [List.length_map,List.take_length,List.countP_eq_length_filter]
 obtain ⟨a,ha,hk,hr⟩:=key _ (Nat.le_refl _) (by omega);refine ⟨a,ha,hk,hr, ?_⟩;have:=oV (y:=y) (k:=k) ha hk;rw [hr,List.getElem?_eq_getElem hc] at this;exact Option.some.inj this
def dp (y:ab) (k:Int) (wrong:List Nat):List Nat:=((List.range y.papers.length).filter fun j=>decide ((y.papers.getD j ⟨0,0,0,0,0⟩).kind = k) && mY wrong j).map (bw k y.papers)
theorem uw {y:ab} {k:Int} {wrong:List Nat} {a:Nat} (ha:a < y.papers.length) (hk:y.papers[a].kind = k):bw k y.papers a ∈ dp y k wrong ↔ a ∈ wrong:=by
 unfold dp;rw [List.mem_map];constructor
 ·rintro ⟨j,hj,e⟩;obtain ⟨h1,h2⟩:=List.mem_filter.1 hj;rw [List.mem_range] at h1;rw [List.getD_eq_getElem?_getD,List.getElem?_eq_getElem h1] at h2;simp only [Option.getD_some,Bool.and_eq_true,decide_eq_true_eq] at h2;have:=CW h1 ha h2.1 hk e;rw [← this]; exact ix.1 h2.2
 ·intro hw;refine ⟨a,List.mem_filter.2 ⟨List.mem_range.2 ha, ?_⟩,rfl⟩;rw [List.getD_eq_getElem?_getD,List.getElem?_eq_getElem ha];simp only [Option.getD_some,Bool.and_eq_true,decide_eq_true_eq];exact ⟨hk,ix.2 hw⟩
theorem gY (k:Int) (all:List aj) (p:aj):(db k all p).kind = p.kind ∧ (db k all p).src = p.src ∧ (db k all p).dst = p.dst ∧ (db k all p).kilos = p.kilos:=by
 unfold db; split <;> exact ⟨rfl,rfl,rfl,rfl⟩
theorem EF {k:Int} {all:List aj} {p:aj}:(p.copy < 0 → (db k all p).copy = p.copy) ∧ (∀ c:Nat,p.copy = c → (db k all p).copy = (bw k all c:Nat)):=by
 unfold db;constructor
 ·intro h; rw [if_neg (by omega)]
 ·intro c h;rw [if_pos (by omega)];have:p.copy.toNat = c:=by omega
  rw [this]
theorem uD (l:List ay) (k a:Int):aB (l.filter fun c=>decide (c.kind = k)) k a = aB l k a:=by
 unfold aB;rw [List.find?_filter];congr 1;funext c;cases decide (c.kind = k) <;> simp
theorem uT {l:List ay} {k k' a:Int} (h:k' ≠ k):aB (l.filter fun c=>decide (c.kind = k)) k' a = none:=by
 unfold aB;rw [List.find?_eq_none];intro c hc;have:=(List.mem_filter.1 hc).2;simp only [decide_eq_true_eq] at this;simp [this,Ne.symm h]
theorem CL {al:aj → Nat → Int × Int} {k:Int}:∀ (l:List aj) (i:Nat),(∀ p ∈ l,p.kind ≠ k) → ee al k l i = []
 | [],_,_=>rfl
 | p :: r,i,h=>by
  simp only [ee];rw [if_neg (fun e=>h p (by simp) e.1),CL r (i + 1) fun q hq=>h q (by simp [hq])]
theorem qJ {al be:aj → Nat → Int × Int} {k:Int} (re:aj → aj):∀ (l:List aj) (i c:Nat),
  (∀ j (h:j < l.length),l[j].kind = k → (re l[j]).kind = k ∧ (re l[j]).src = l[j].src ∧ (re l[j]).dst = l[j].dst ∧ br (re l[j]) (c + bw k l j) = br l[j] (i + j) ∧ (br l[j] (i + j) = true → be (re l[j]) (c + bw k l j) = al l[j] (i + j))) →
  ee be k ((l.filter fun p=>decide (p.kind = k)).map re) c = ee al k l i
 | [],_,_,_=>rfl
 | p :: r,i,c,h=>by
  have hr:∀ j,bw k (p :: r) (j + 1) = (if p.kind = k then 1 else 0) + bw k r j:=fun j=>by
   unfold bw;rw [List.take_succ_cons,List.countP_cons];by_cases e:p.kind = k <;> simp [e]; omega
  by_cases hk:p.kind = k
  ·have ih:=qJ (al:=al) (be:=be) re r (i + 1) (c + 1) fun j hj hkj=>by
    have:=h (j + 1) (by simpa using hj) (by simpa using hkj);rw [hr,if_pos hk,show i + (j + 1) = i + 1 + j by omega,show c + (1 + bw k r j) = c + 1 + bw k r j by omega] at this;simpa using this
   have h0:=h 0 (by simp) (by simpa using hk);have e0:bw k (p :: r) 0 = 0:=rfl;simp only [e0,List.getElem_cons_zero,Nat.add_zero] at h0;obtain ⟨a1,a2,a3,a4,a5⟩:=h0;rw [List.filter_cons_of_pos (by simpa using hk),List.map_cons];simp only [ee,ih];by_cases hl:br p i = true
   ·rw [if_pos ⟨a1,by rw [a4]; exact hl⟩,if_pos ⟨hk,hl⟩,a2,a3,a5 hl]
   ·rw [if_neg (fun e=>hl (by rw [← a4]; exact e.2)),if_neg (fun e=>hl e.2)]
  ·have ih:=qJ (al:=al) (be:=be) re r (i + 1) c fun j hj hkj=>by
    have:=h (j + 1) (by simpa using hj) (by simpa using hkj);rw [hr,if_neg hk,Nat.zero_add,show i + (j + 1) = i + 1 + j by omega] at this;simpa using this
   rw [List.filter_cons_of_neg (by simpa using hk),ih];simp only [ee];rw [if_neg (fun e=>hk e.1)]
theorem sc {nm:ByteArray → Bool} {y:ab} (h:bJ nm y) {j:Nat} (hj:j < y.papers.length):y.papers[j].copy = -1 ∨ ∃ c:Nat,y.papers[j].copy = c ∧ c < y.papers.length ∧ c ≠ j ∧ ∃ hc:c < y.papers.length,y.papers[c].copy = j ∧ y.papers[c].kind = y.papers[j].kind:=by
 rcases (h.papers j hj).copy with hc | ⟨c1,c2,c3,q,hq,c4,c5,_⟩
 ·exact .inl hc
 ·obtain ⟨hcl,hcq⟩:=List.getElem?_eq_some_iff.1 hq;exact .inr ⟨y.papers[j].copy.toNat,by omega,hcl,by omega,hcl,by rw [hcq]; exact c4,by rw [hcq]; exact c5⟩
end Go.AM
