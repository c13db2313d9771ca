/- Chapter 09: the reference's All and Lists. Chapter 09: of the reference: what journeys allow; which papers differ. A number of the range in the place of a paper's: the yard closes; another one: it .. -/
import Derived.Test.YtlmhkldmpggadaaGreatDoorP31
import Derived.Test.YtlmhkldmpggadaaGreatDoorP25
import Derived.Test.YtlmhkldmpggadaaGreatDoorP19
namespace Go.AM
open Go.Proofs
set_option maxRecDepth 100000
set_option maxHeartbeats 1000000
set_option maxHeartbeats 4000000
theorem Da (l:List Nat) (i:Nat):((bb l).any fun x=>decide (x = (i:Int))) = decide (i ∈ l):=by
 rw [Bool.eq_iff_iff,List.any_eq_true,decide_eq_true_eq];constructor
 ·rintro ⟨x,hx,e⟩;obtain ⟨j,hj,rfl⟩:=List.mem_map.1 hx;have:j = i:=by have:=of_decide_eq_true e; omega
  exact this ▸ hj
 ·intro h;exact ⟨(i:Int),List.mem_map_of_mem h,by simp⟩
theorem sc {nm:ByteArray → Bool} {y:ab} (h:bJ nm y) {j:Nat} (hj:j < y.papers.length):y.papers[j].copy = -1 ∨ ∃ c:Nat,y.papers[j].copy = c ∧ c < y.papers.length ∧ c ≠ j ∧ ∃ hc:c < y.papers.length,y.papers[c].copy = j ∧ y.papers[c].kind = y.papers[j].kind:=by
 rcases (h.papers j hj).copy with hc | ⟨c1,c2,c3,q,hq,c4,c5,_⟩
 ·exact .inl hc
 ·obtain ⟨hcl,hcq⟩:=List.getElem?_eq_some_iff.1 hq;exact .inr ⟨y.papers[j].copy.toNat,by omega,hcl,by omega,hcl,by rw [hcq]; exact c4,by rw [hcq]; exact c5⟩
abbrev bc:=Int → Int → Int
def cg (h:bc) (k p v:Int):bc:=fun k' p'=>if k' = k ∧ p' = p then v else h k' p'
theorem qc (h:bc) (k p v:Int):cg h k p v k p = v:=by simp [cg]
theorem jd (h:bc) {k p k' p':Int} (v:Int) (hn:¬ (k' = k ∧ p' = p)):cg h k p v k' p' = h k' p':=by unfold cg; rw [if_neg hn]
def Vl (t:Nat → Nat):List ay → Nat → bc → bc
 | [],_,h=>h
 | c :: r,i,h=>Vl t r (i + 1) (cg h c.kind c.place (c.lo + (t i:Int) % (c.hi - c.lo + 1)))
theorem VC (t:Nat → Nat) {k a:Int}:∀ (l:List ay) (i:Nat) (h:bc),aB l k a = none → Vl t l i h k a = h k a
 | [],_,_,_=>rfl
 | c :: l,i,h,hn=>by
  rw [wm] at hn;by_cases e:c.kind = k ∧ c.place = a
  ·rw [if_pos e] at hn; cases hn
  ·rw [if_neg e] at hn;simp only [Vl];rw [VC t l (i + 1) _ hn,jd];exact fun e2=>e ⟨e2.1.symm,e2.2.symm⟩
theorem an (x:Nat) {d:Int} (h:0 ≤ d):0 ≤ (x:Int) % (d + 1) ∧ (x:Int) % (d + 1) ≤ d:=by
 have h1:=Int.emod_nonneg (x:Int) (show d + 1 ≠ 0 by omega);have h2:=Int.emod_lt_of_pos (x:Int) (show 0 < d + 1 by omega);omega
theorem Vv (t:Nat → Nat) {k a:Int}:∀ (l:List ay) (i:Nat) (h:bc),(∀ c ∈ l,Ey c) → (l.Pairwise fun c d=>¬ (c.kind = d.kind ∧ c.place = d.place)) → h k a = 0 → loC (aB l k a) ≤ Vl t l i h k a ∧ Vl t l i h k a ≤ hiC (aB l k a)
 | [],i,h,_,_,h0=>by simp [Vl,aB,loC,hiC,h0]
 | c :: l,i,h,hc,hu,h0=>by
  obtain ⟨h1,h2⟩:=List.pairwise_cons.1 hu;simp only [Vl];rw [wm];by_cases e:c.kind = k ∧ c.place = a
  ·rw [if_pos e];have hn:=De h1;rw [e.1,e.2] at hn;rw [VC t l (i + 1) _ hn,e.1,e.2,qc];have hle:=(hc c (by simp)).le;have:=an (t i) (d:=c.hi - c.lo) (by omega);simp only [loC,hiC];omega
  ·rw [if_neg e];refine Vv t l (i + 1) _ (fun d hd=>hc d (by simp [hd])) h2 ?_;rw [jd _ _ fun e2=>e ⟨e2.1.symm,e2.2.symm⟩,h0]
def cP (t:Nat → Nat) (p:aj) (i:Nat) (s:bc × List Int):bc × List Int:=
 if br p i = true then
  let v:=(t (3 * i + 1):Int) % ((if p.src ≠ -1 then min 1000000 (s.1 p.kind p.src) else 5000) + 1)
  let h1:=if p.src ≠ -1 then cg s.1 p.kind p.src (s.1 p.kind p.src - v) else s.1
  (if p.dst ≠ -1 then cg h1 p.kind p.dst (h1 p.kind p.dst + v) else h1,s.2 ++ [v])
 else (s.1,s.2 ++ [s.2.getD p.copy.toNat 0])
def VB (t:Nat → Nat):List aj → Nat → bc × List Int → bc × List Int
 | [],_,s=>s
 | p :: r,i,s=>VB t r (i + 1) (cP t p i s)
def ak (w:List Int) (k a:Int):List aj → Nat → Int
 | [],_=>0
 | p :: r,i=>(if p.kind = k ∧ br p i = true then (if p.dst = a then w.getD i 0 else 0) - (if p.src = a then w.getD i 0 else 0) else 0) + ak w k a r (i + 1)
theorem Vh (w:List Int) (k a:Int):∀ (l r:List aj) (i:Nat),ak w k a (l ++ r) i = ak w k a l i + ak w k a r (i + l.length)
 | [],r,i=>by simp [ak]
 | p :: l,r,i=>by simp only [List.cons_append,ak,Vh w k a l,List.length_cons]; rw [show i + 1 + l.length = i + (l.length + 1) by omega]; omega
theorem Ve {w w':List Int} (k a:Int):∀ (l:List aj) (i:Nat),(∀ j,i ≤ j → j < i + l.length → w.getD j 0 = w'.getD j 0) → ak w k a l i = ak w' k a l i
 | [],_,_=>rfl
 | p :: l,i,h=>by
  simp only [ak];rw [Ve k a l (i + 1) fun j h1 h2=>h j (by omega) (by simp only [List.length_cons]; omega),h i (Nat.le_refl _) (by simp)]
structure VH (y:ab) (h0:bc) (i:Nat) (s:bc × List Int):Prop where
 len:s.2.length = i
 val:∀ j,j < i → 0 ≤ s.2.getD j 0 ∧ s.2.getD j 0 ≤ 1000000
 pair:∀ j,(hj:j < i) → (hm:j < y.papers.length) → br y.papers[j] j = false → s.2.getD j 0 = s.2.getD y.papers[j].copy.toNat 0
 nn:∀ k a,0 ≤ s.1 k a
 bal:∀ k a,0 ≤ a → s.1 k a = h0 k a + ak s.2 k a (y.papers.take i) 0
theorem Vo {nm:ByteArray → Bool} {y:ab} (h:bJ nm y) (t:Nat → Nat) {h0:bc} {i:Nat} (hi:i < y.papers.length) {s:bc × List Int} (hw:VH y h0 i s):VH y h0 (i + 1) (cP t y.papers[i] i s):=by
 obtain ⟨a1,a2,a3,a4,a5⟩:=hw;have hp:=h.papers i hi;have hne:=hp.ne;have htk:y.papers.take (i + 1) = y.papers.take i ++ [y.papers[i]]:=List.take_succ_eq_append_getElem hi;have hl:(y.papers.take i).length = i:=by simp; omega
 have hg:∀ (v:Int) (j:Nat),j < i → (s.2 ++ [v]).getD j 0 = s.2.getD j 0:=fun v j hj=>by
  rw [List.getD_eq_getElem?_getD,List.getD_eq_getElem?_getD,List.getElem?_append_left (by omega)]
 have hgi:∀ v:Int,(s.2 ++ [v]).getD i 0 = v:=fun v=>by
  rw [List.getD_eq_getElem?_getD,List.getElem?_append_right (by omega),a1]; simp
 have hcame:∀ (v k a:Int),ak (s.2 ++ [v]) k a (y.papers.take (i + 1)) 0 = ak s.2 k a (y.papers.take i) 0 + (if y.papers[i].kind = k ∧ br y.papers[i] i = true then (if y.papers[i].dst = a then v else 0) - (if y.papers[i].src = a then v else 0) else 0):=fun v k a=>by
  rw [htk,Vh,hl,Nat.zero_add];simp only [ak];rw [hgi,Ve k a (w:=s.2 ++ [v]) (w':=s.2) (y.papers.take i) 0 fun j _ hj=>hg v j (by omega)];omega
 have hpairs:∀ v:Int,(br y.papers[i] i = false → v = s.2.getD y.papers[i].copy.toNat 0) → ∀ j,(hj:j < i + 1) → (hm:j < y.papers.length) → br y.papers[j] j = false → (s.2 ++ [v]).getD j 0 = (s.2 ++ [v]).getD y.papers[j].copy.toNat 0:=by
  intro v hv j hj hm hl';have hcl:y.papers[j].copy.toNat < j:=by
   unfold br at hl';rcases sc h hm with hc | ⟨c,hc,_,hcne,_⟩
   ·rw [hc] at hl'; simp at hl'
   ·rw [hc] at hl'; simp at hl'; omega
  rcases Nat.lt_or_ge j i with hlt | hge
  ·rw [hg v j hlt,hg v _ (by omega)]; exact a3 j hlt hm hl'
  ·obtain rfl:j = i:=by omega
   rw [hgi,hg v _ hcl]; exact hv hl'
 unfold cP;by_cases hlead:br y.papers[i] i = true;rotate_left
 ·rw [if_neg hlead];have hl2:br y.papers[i] i = false:=by simpa using hlead
  have hcl:y.papers[i].copy.toNat < i:=by
   unfold br at hl2;rcases sc h hi with hc | ⟨c,hc,_,hcne,_⟩
   ·rw [hc] at hl2; simp at hl2
   ·rw [hc] at hl2; simp at hl2; omega
  refine ⟨by simp [a1],fun j hj=>?_,hpairs _ fun _=>rfl,a4,fun k a ha=>?_⟩
  ·rcases Nat.lt_or_ge j i with hlt | hge
   ·dsimp only; rw [hg _ j hlt]; exact a2 j hlt
   ·obtain rfl:j = i:=by omega
    dsimp only; rw [hgi]; exact a2 _ hcl
  ·dsimp only;rw [hcame,if_neg (fun e=>hlead e.2),a5 k a ha]; omega
 rw [if_pos hlead];dsimp only;have hmost:0 ≤ (if y.papers[i].src ≠ -1 then min 1000000 (s.1 y.papers[i].kind y.papers[i].src) else (5000:Int)) ∧ (if y.papers[i].src ≠ -1 then min 1000000 (s.1 y.papers[i].kind y.papers[i].src) else (5000:Int)) ≤ 1000000:=by
  have:=a4 y.papers[i].kind y.papers[i].src
  split <;> omega
 have hv:=an (t (3 * i + 1)) hmost.1;have hvs:y.papers[i].src ≠ -1 → (t (3 * i + 1):Int) % ((if y.papers[i].src ≠ -1 then min 1000000 (s.1 y.papers[i].kind y.papers[i].src) else (5000:Int)) + 1) ≤ s.1 y.papers[i].kind y.papers[i].src:=fun e=>by
  have h2:=hv.2;rw [if_pos e] at h2 ⊢; omega
 generalize (t (3 * i + 1):Int) % ((if y.papers[i].src ≠ -1 then min 1000000 (s.1 y.papers[i].kind y.papers[i].src) else (5000:Int)) + 1) = v at hv hvs;have hv6:0 ≤ v ∧ v ≤ 1000000:=by omega
 have hval:∀ k a,(if y.papers[i].dst ≠ -1 then cg (if y.papers[i].src ≠ -1 then cg s.1 y.papers[i].kind y.papers[i].src (s.1 y.papers[i].kind y.papers[i].src - v) else s.1) y.papers[i].kind y.papers[i].dst ((if y.papers[i].src ≠ -1 then cg s.1 y.papers[i].kind y.papers[i].src (s.1 y.papers[i].kind y.papers[i].src - v) else s.1) y.papers[i].kind y.papers[i].dst + v) else (if y.papers[i].src ≠ -1 then cg s.1 y.papers[i].kind y.papers[i].src (s.1 y.papers[i].kind y.papers[i].src - v) else s.1)) k a
   = s.1 k a + (if k = y.papers[i].kind ∧ a = y.papers[i].dst ∧ y.papers[i].dst ≠ -1 then v else 0) - (if k = y.papers[i].kind ∧ a = y.papers[i].src ∧ y.papers[i].src ≠ -1 then v else 0):=by
  intro k a;have hin:∀ k a,(if y.papers[i].src ≠ -1 then cg s.1 y.papers[i].kind y.papers[i].src (s.1 y.papers[i].kind y.papers[i].src - v) else s.1) k a = s.1 k a - (if k = y.papers[i].kind ∧ a = y.papers[i].src ∧ y.papers[i].src ≠ -1 then v else 0):=by
   intro k a;by_cases e:y.papers[i].src ≠ -1
   ·rw [if_pos e];by_cases e2:k = y.papers[i].kind ∧ a = y.papers[i].src
    ·rw [e2.1,e2.2,qc,if_pos ⟨rfl,rfl,e⟩]
    ·rw [jd _ _ e2,if_neg (fun x=>e2 ⟨x.1,x.2.1⟩)]; omega
   ·rw [if_neg e,if_neg (fun x=>e x.2.2)]; omega
  by_cases e:y.papers[i].dst ≠ -1
  ·rw [if_pos e];by_cases e2:k = y.papers[i].kind ∧ a = y.papers[i].dst
   ·rw [e2.1,e2.2,qc,hin,if_pos (show y.papers[i].kind = y.papers[i].kind ∧ y.papers[i].dst = y.papers[i].dst ∧ y.papers[i].dst ≠ -1 from ⟨rfl,rfl,e⟩)]; omega
   ·rw [jd _ _ e2,hin,if_neg (show ¬ (k = y.papers[i].kind ∧ a = y.papers[i].dst ∧ y.papers[i].dst ≠ -1) from fun x=>e2 ⟨x.1,x.2.1⟩)]; omega
  ·rw [if_neg e,hin,if_neg (show ¬ (k = y.papers[i].kind ∧ a = y.papers[i].dst ∧ y.papers[i].dst ≠ -1) from fun x=>e x.2.2)]; omega
 refine ⟨by simp [a1],fun j hj=>?_,hpairs v fun e=>absurd hlead (by rw [e]; simp),fun k a=>?_,fun k a ha=>?_⟩
 ·rcases Nat.lt_or_ge j i with hlt | hge
  ·dsimp only; rw [hg _ j hlt]; exact a2 j hlt
  ·obtain rfl:j = i:=by omega
   dsimp only; rw [hgi]; exact hv6
 ·dsimp only;rw [hval];have h1:=a4 k a;by_cases e:k = y.papers[i].kind ∧ a = y.papers[i].src ∧ y.papers[i].src ≠ -1
  ·rw [if_pos e];have:=hvs e.2.2;rw [← e.1, ← e.2.1] at this
   split <;> omega
  ·rw [if_neg e]; split <;> omega
 ·dsimp only;rw [hval,hcame,a5 k a ha];by_cases e:k = y.papers[i].kind
  ·subst e;simp only [true_and,hlead,and_true,if_true];have e1:(a = y.papers[i].dst ∧ y.papers[i].dst ≠ -1) ↔ y.papers[i].dst = a:=⟨fun x=>x.1.symm,fun x=>⟨x.symm,by omega⟩⟩;have e2:(a = y.papers[i].src ∧ y.papers[i].src ≠ -1) ↔ y.papers[i].src = a:=⟨fun x=>x.1.symm,fun x=>⟨x.symm,by omega⟩⟩;simp only [e1,e2]; omega
  ·rw [if_neg (fun x=>e x.1),if_neg (fun x=>e x.1),if_neg (fun x=>e x.1.symm)]; omega
theorem VI {nm:ByteArray → Bool} {y:ab} (h:bJ nm y) (t:Nat → Nat) {h0:bc}:∀ (d i:Nat) (s:bc × List Int),i + d = y.papers.length → VH y h0 i s → VH y h0 y.papers.length (VB t (y.papers.drop i) i s)
 | 0,i,s,hd,hw=>by
  rw [List.drop_eq_nil_of_le (by omega)];have:i = y.papers.length:=by omega
  subst this; exact hw
 | d + 1,i,s,hd,hw=>by
  rw [List.drop_eq_getElem_cons (by omega)];exact VI h t d (i + 1) _ (by omega) (Vo h t (by omega) hw)
structure V7 (z:ab) (wrong:List Nat) (h0 hF:bc) (w:List Int):Prop where
 first:∀ k a:Int,loC (aB z.first k a) ≤ h0 k a ∧ h0 k a ≤ hiC (aB z.first k a)
 last:∀ (k:Int) (a:Nat),loC (aB z.last k a) ≤ hF k a ∧ hF k a ≤ dh z k a
 allow:∀ i (h:i < z.papers.length),br z.papers[i] i = true → (aZ z wrong z.papers[i] i).1 ≤ w.getD i 0 ∧ w.getD i 0 ≤ (aZ z wrong z.papers[i] i).2
 bal:∀ k a,0 ≤ a → hF k a = h0 k a + ak w k a z.papers 0
def eM (w:List Int) (k:Int):List aj → Nat → List Int
 | [],_=>[]
 | p :: r,i=>if p.kind = k ∧ br p i = true then w.getD i 0 :: eM w k r (i + 1) else eM w k r (i + 1)
theorem Vx (w:List Int) (al:aj → Nat → Int × Int) (k:Int):∀ (l:List aj) (i:Nat),(eM w k l i).length = (ee al k l i).length
 | [],_=>rfl
 | p :: r,i=>by simp only [eM,ee]; split <;> simp [Vx w al k r (i + 1)]
theorem V0 (w:List Int) {k:Int}:∀ (l:List aj) (i a:Nat) (h1:i ≤ a) (h2:a < i + l.length),(l[a - i]'(by omega)).kind = k → br (l[a - i]'(by omega)) a = true → (eM w k l i)[fN k l i a]? = some (w.getD a 0)
 | [],i,a,h1,h2,_,_=>by simp at h2; omega
 | p :: r,i,a,h1,h2,hk,hl=>by
  rcases Nat.eq_or_lt_of_le h1 with e | hlt
  ·subst e;simp only [Nat.sub_self,List.getElem_cons_zero] at hk hl;simp only [eM,fN];rw [if_pos ⟨hk,hl⟩,if_pos (Nat.le_refl _)]; rfl
  ·have e:a - i = (a - (i + 1)) + 1:=by omega
   simp only [e,List.getElem_cons_succ] at hk hl;have ih:=V0 w r (i + 1) a hlt (by simp only [List.length_cons] at h2; omega) hk hl;simp only [eM,fN];rw [if_neg (by omega:¬ a ≤ i)];split
   ·rw [Nat.add_comm 1,List.getElem?_cons_succ]; exact ih
   ·rw [Nat.zero_add]; exact ih
theorem U8 {n:Nat} {w:List Int} {al:aj → Nat → Int × Int} {k a:Int} {x:Nat} {f:Nat → Int}:∀ (l:List aj) (i b:Nat),(∀ p ∈ l,(fj n p.src = x ↔ p.src = a) ∧ (fj n p.dst = x ↔ p.dst = a)) → (∀ c (h:c < (eM w k l i).length),f (b + c) = (eM w k l i)[c]) → aS x ((ee al k l i).map (cZ n)) b f = ak w k a l i
 | [],_,_,_,_=>rfl
 | p :: r,i,b,hx,hf=>by
  obtain ⟨e1,e2⟩:=hx p (by simp);simp only [ee,ak,eM] at hf ⊢;by_cases hc:p.kind = k ∧ br p i = true
  ·simp only [if_pos hc] at hf ⊢;have h0:=hf 0 (by simp);have ih:=U8 (al:=al) (a:=a) r (i + 1) (b + 1) (fun q hq=>hx q (by simp [hq])) fun c hc'=>by
    have:=hf (c + 1) (by simpa using hc');rw [show b + (c + 1) = b + 1 + c by omega] at this;simpa using this
   simp only [Nat.add_zero,List.getElem_cons_zero] at h0;simp only [List.map_cons,aS,ih,h0,cZ,e1,e2]
  ·simp only [if_neg hc] at hf ⊢;have ih:=U8 (al:=al) (a:=a) r (i + 1) b (fun q hq=>hx q (by simp [hq])) hf;rw [ih]; omega
theorem VF (y:ab) (k:Int) (n:Nat) (f:Nat → Int) {x:Nat} (hx:x < n + 1):∀ m,m ≤ n → aS x (bR y k n m) 0 f = if x < m then f (2 * x) - f (2 * x + 1) else 0
 | 0,_=>rfl
 | m + 1,h=>by
  simp only [bR,mJ,VF y k n f hx m (by omega),cM,aS,Nat.zero_add];rw [if_neg (by omega:¬ n + 1 = x),if_neg (by omega:¬ n + 1 = x)];by_cases e:m = x
  ·subst e;rw [if_neg (by omega),if_pos rfl,if_pos rfl,if_pos (by omega)]; omega
  ·rw [if_neg e,if_neg e];by_cases e2:x < m
   ·rw [if_pos e2,if_pos (by omega)]; omega
   ·rw [if_neg e2,if_neg (by omega)]; omega
theorem Vc {w:List Int} (hw:∀ j,0 ≤ w.getD j 0 ∧ w.getD j 0 ≤ 1000000) (k a:Int):∀ (l:List aj) (i:Nat), - (l.length * 1000000:Int) ≤ ak w k a l i ∧ ak w k a l i ≤ l.length * 1000000
 | [],_=>by simp [ak]
 | p :: r,i=>by
  have ih:=Vc hw k a r (i + 1);have:=hw i;simp only [ak,List.length_cons];split
  ·split <;> split <;> omega
  ·omega
def AL (n:Nat) (h0 hF:bc) (w:List Int) (k:Int) (l:List aj):Nat → Int:=fun i=>
 if i < 2 * n then (if i % 2 = 0 then h0 k (i / 2:Nat) else hF k (i / 2:Nat)) else match (eM w k l 0)[i - 2 * n]? with
  | some v=>v
  | none=>ak w k (-1) l 0
theorem VL {nm:ByteArray → Bool} {z:ab} (h:bJ nm z) {wrong:List Nat} {h0 hF:bc} {w:List Int} (hw:∀ j,0 ≤ w.getD j 0 ∧ w.getD j 0 ≤ 1000000) (ht:V7 z wrong h0 hF w) (k:Int) :
  bE (z.places.length + 2) (aW z k z.places.length (ba z wrong k) (-aw) aw) (AL z.places.length h0 hF w k z.papers):=by
 obtain ⟨n,hn⟩:=zqq z.places.length;rw [hn];obtain ⟨f,hf⟩:=zqq (AL n h0 hF w k z.papers);rw [hf];have hj:=(mR h wrong k).1;rw [hn] at hj;have hvl:=Vx w (aZ z wrong) k z.papers 0;have hjl:(ba z wrong k).length = (eM w k z.papers 0).length:=hvl.symm;have f0:∀ a,a < n → f (2 * a) = h0 k a ∧ f (2 * a + 1) = hF k a:=fun a ha=>by
  rw [← hf]; unfold AL;rw [if_pos (by omega),if_pos (by omega),if_pos (by omega),if_neg (by omega)];rw [show 2 * a / 2 = a by omega,show (2 * a + 1) / 2 = a by omega]; exact ⟨rfl,rfl⟩
 have fJ:∀ c (hc:c < (eM w k z.papers 0).length),f (2 * n + c) = (eM w k z.papers 0)[c]:=fun c hc=>by
  rw [← hf]; unfold AL;rw [if_neg (by omega),show 2 * n + c - 2 * n = c by omega,List.getElem?_eq_getElem hc]
 have fO:f (2 * n + (ba z wrong k).length) = ak w k (-1) z.papers 0:=by
  rw [← hf]; unfold AL;rw [if_neg (by omega),hjl,show 2 * n + (eM w k z.papers 0).length - 2 * n = (eM w k z.papers 0).length by omega,List.getElem?_eq_none (Nat.le_refl _)]
 have hcb:=Vc hw k (-1) z.papers 0;have hm:=h.m10;have hsd:∀ p ∈ z.papers,(-1 ≤ p.src ∧ p.src < n) ∧ -1 ≤ p.dst ∧ p.dst < n:=fun p hp=>by
  obtain ⟨i,hi,rfl⟩:=List.getElem_of_mem hp;have:=h.papers i hi;rw [← hn];exact ⟨this.src,this.dst⟩
 have hok:=AV h.ok k (n:=n) hj (lo:=-aw) (hi:=aw) (by simp [aw]);have hnet:∀ x,x < n + 1 → aS x (aW z k n (ba z wrong k) (-aw) aw) 0 f = 0:=by
  intro x hx;unfold aW;rw [mJ,mJ,VF z k n f hx n (Nat.le_refl _)];simp only [List.length_append,List.length_map,cM,Nat.zero_add,aS];rw [if_neg (by omega:¬ n + 1 = x),fO];rcases Nat.lt_or_ge x n with hlt | hge
  ·have e:=U8 (n:=n) (w:=w) (al:=aZ z wrong) (k:=k) (a:=(x:Int)) (x:=x) (f:=f) z.papers 0 (2 * n) (fun p hp=>by
    have:=hsd p hp;unfold fj;constructor
    ·split <;> omega
    ·split <;> omega) fJ
   unfold ba;rw [e,if_pos hlt,if_neg (by omega:¬ n = x),(f0 x hlt).1,(f0 x hlt).2,ht.bal k x (by omega)]; omega
  ·obtain rfl:x = n:=by omega
   have e:=U8 (n:=x) (w:=w) (al:=aZ z wrong) (k:=k) (a:=-1) (x:=x) (f:=f) z.papers 0 (2 * x) (fun p hp=>by
    have:=hsd p hp;unfold fj;constructor
    ·split <;> omega
    ·split <;> omega) fJ
   unfold ba;rw [e,if_neg (by omega),if_pos rfl]; omega
 refine ⟨?_,fun x hx=>?_⟩
 ·have hInB : ∀ i (hi : i < (aW z k n (ba z wrong k) (-aw) aw).length),(aW z k n (ba z wrong k) (-aw) aw)[i].low ≤ f i ∧ f i ≤ (aW z k n (ba z wrong k) (-aw) aw)[i].high := by
   intro i hi;have hi2:=hi;rw [jq] at hi2;have key:∀ e,(aW z k n (ba z wrong k) (-aw) aw)[i]? = some e → e.low ≤ f i ∧ f i ≤ e.high → (aW z k n (ba z wrong k) (-aw) aw)[i].low ≤ f i ∧ f i ≤ (aW z k n (ba z wrong k) (-aw) aw)[i].high:=fun e he hb=>by
    rw [List.getElem?_eq_getElem hi] at he;rw [Option.some.inj he]; exact hb
   rcases Nat.lt_or_ge i (2 * n) with g1 | g1
   ·have hp:∀ j e,j < 2 * n → (bR z k n n)[j]? = some e → (aW z k n (ba z wrong k) (-aw) aw)[j]? = some e:=fun j e hj2 he=>by
     unfold aW;rw [List.append_assoc,List.getElem?_append_left (by rw [cM]; omega)]; exact he
    obtain ⟨p1,p2⟩:=EH z k n n (i / 2) (by omega);obtain ⟨q1,q2⟩:=f0 (i / 2) (by omega);rcases Nat.mod_two_eq_zero_or_one i with g2 | g2
    ·have e:2 * (i / 2) = i:=by omega
     rw [e] at p1 q1;refine key _ (hp i _ g1 p1) ?_;rw [q1]; exact ht.first k _
    ·have e:2 * (i / 2) + 1 = i:=by omega
     rw [e] at p2 q2;refine key _ (hp i _ g1 p2) ?_;rw [q2]; exact ht.last k _
   ·rcases Nat.lt_or_ge i (2 * n + (ba z wrong k).length) with g2 | g2
    ·have hc : i - 2 * n < (ba z wrong k).length := by omega
     have e:2 * n + (i - 2 * n) = i:=by omega
     have hw2:=rT (y:=z) (k:=k) (n:=n) (js:=ba z wrong k) (lo:=-aw) (hi:=aw) hc;rw [e] at hw2;refine key _ hw2 ?_;have hfv:=fJ (i - 2 * n) (by rw [← hjl]; exact hc);rw [e] at hfv;rw [hfv];have hpair:∀ (l:List aj) (b c:Nat) (h1:c < (ee (aZ z wrong) k l b).length) (h2:c < (eM w k l b).length),(∀ j (hj:j < l.length),br l[j] (b + j) = true → (aZ z wrong l[j] (b + j)).1 ≤ w.getD (b + j) 0 ∧ w.getD (b + j) 0 ≤ (aZ z wrong l[j] (b + j)).2) → (ee (aZ z wrong) k l b)[c].lo ≤ (eM w k l b)[c] ∧ (eM w k l b)[c] ≤ (ee (aZ z wrong) k l b)[c].hi:=by
      intro l
      induction l with
      | nil=>intro b c h1; simp [ee] at h1
      | cons p r ih=>
       intro b c h1 h2 hh;have hh':∀ j (hj:j < r.length),br r[j] (b + 1 + j) = true → (aZ z wrong r[j] (b + 1 + j)).1 ≤ w.getD (b + 1 + j) 0 ∧ w.getD (b + 1 + j) 0 ≤ (aZ z wrong r[j] (b + 1 + j)).2:=fun j hj hl=>by
        have:=hh (j + 1) (by simpa using hj);rw [show b + (j + 1) = b + 1 + j by omega] at this;simp only [List.getElem_cons_succ] at this;exact this hl
       have h0:=hh 0 (by simp);simp only [List.getElem_cons_zero,Nat.add_zero] at h0;simp only [ee,eM] at h1 h2 ⊢;by_cases hc:p.kind = k ∧ br p b = true
       ·simp only [if_pos hc] at h1 h2 ⊢
        cases c with
        | zero=>simp only [List.getElem_cons_zero]; exact h0 hc.2
        | succ c=>
         simp only [List.getElem_cons_succ];exact ih (b + 1) c (by simpa using h1) (by simpa using h2) hh'
       ·simp only [if_neg hc] at h1 h2 ⊢;exact ih (b + 1) c h1 h2 hh'
     exact hpair z.papers 0 (i - 2 * n) hc (by rw [← hjl]; exact hc) fun j hj hl=>by
      rw [Nat.zero_add] at hl ⊢;exact ht.allow j hj hl
    ·have e:i = 2 * n + (ba z wrong k).length:=by omega
     have hlast:(aW z k n (ba z wrong k) (-aw) aw)[i]? = some ⟨n,n + 1, -aw,aw⟩:=by
      unfold aW;rw [List.getElem?_append_right (by simp [cM]; omega)];simp [cM,e]
     refine key _ hlast ?_;rw [e,fO];unfold aw;dsimp only;omega
  exact hInB
 ·rcases Nat.lt_or_ge x (n + 1) with hlt | hge
  ·exact hnet x hlt
  ·obtain rfl:x = n + 1:=by omega
   have hs:=EY hok f;simp only [dW] at hs;rw [dK (h:=fun _=>0) n fun m hm=>hnet m (by omega),eV,hnet n (by omega)] at hs;omega
theorem V1 {nm:ByteArray → Bool} {z:ab} (h:bJ nm z) {h0 hF:bc} {w:List Int} {i:Nat} (hi:i < z.papers.length):AL z.places.length h0 hF w (aK z i) z.papers (im z i) = w.getD (bH z i) 0:=by
 obtain ⟨hl,l1,l2,_⟩:=k8 h hi;have:=V0 w z.papers 0 (bH z i) (Nat.zero_le _) (by omega) (by simpa using l2) (by simpa using l1);unfold AL im;rw [if_neg (by omega),show 2 * z.places.length + fN (aK z i) z.papers 0 (bH z i) - 2 * z.places.length = fN (aK z i) z.papers 0 (bH z i) by omega,this]
theorem VX {z:ab} {h0 hF:bc} {w:List Int} (wrong:List Nat) (k:Int):AL z.places.length h0 hF w k z.papers (2 * z.places.length + (ba z wrong k).length) = ak w k (-1) z.papers 0:=by
 have hjl:(ba z wrong k).length = (eM w k z.papers 0).length:=(Vx w (aZ z wrong) k z.papers 0).symm;unfold AL;rw [if_neg (by omega),hjl,show 2 * z.places.length + (eM w k z.papers 0).length - 2 * z.places.length = (eM w k z.papers 0).length by omega,List.getElem?_eq_none (Nat.le_refl _)]
end Go.AM
