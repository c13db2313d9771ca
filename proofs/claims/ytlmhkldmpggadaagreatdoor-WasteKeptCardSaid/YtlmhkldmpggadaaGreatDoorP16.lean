/- A region whose order Go leaves open, first half: what it comes to in the order of its text, and which parts of the abstract heap each operation touches. -/
import Derived.Test.YtlmhkldmpggadaaGreatDoorP15
namespace Go.AM
open Go.RowKit
mutual
def ag.pure:ag → Bool
 | .undef | .bool _ | .int _ _ | .str _ | .nilptr | .nilfunc | .niliface | .nilmap | .mint _=>true
 | .agg cs=>aH cs
 | .tup cs=>aH cs
 | .slice _ xs=>aH xs
 | .pval v=>v.pure
 | .func _ a b=>aH a && aH b
 | .iface _ v=>v.pure
 | .opt _ v=>v.pure
 | _=>false
def aH:List ag → Bool
 | []=>true
 | v :: r=>v.pure && aH r
end
mutual
def ag.eY:ag → List Nat
 | .agg cs=>iB cs
 | .tup cs=>iB cs
 | .slice _ xs=>iB xs
 | .oslice _ xs b _=>b :: iB xs
 | .sref _ b _ _ _=>[b]
 | .pval v=>v.eY
 | .ptr b _=>[b]
 | .eptr _ b _ _ _=>[b]
 | .func _ a b=>iB a ++ iB b
 | .iface _ v=>v.eY
 | .map b=>[b]
 | .iter b=>[b]
 | .yieldf b=>[b]
 | .opt g v=>if g then v.eY else []
 | _=>[]
def iB:List ag → List Nat
 | []=>[]
 | v :: r=>v.eY ++ iB r
end
mutual
theorem pB:∀ {v:ag},v.pure = true → v.eY = []
 | .undef,_ | .bool _,_ | .int _ _,_ | .str _,_ | .nilptr,_ | .nilfunc,_ | .niliface,_ | .nilmap,_ | .mint _,_=>rfl
 | .agg cs,h=>gI (l:=cs) h
 | .tup cs,h=>gI (l:=cs) h
 | .slice _ xs,h=>gI (l:=xs) h
 | .pval v,h=>pB (v:=v) h
 | .func _ a b,h=>by
  simp only [ag.pure,Bool.and_eq_true] at h;simp only [ag.eY,gI h.1,gI h.2,List.append_nil]
 | .iface _ v,h=>pB (v:=v) h
 | .opt g v,h=>by
  simp only [ag.eY,pB (v:=v) h]; split <;> rfl
 | .oslice _ _ _ _,h | .sref _ _ _ _ _,h | .ptr _ _,h | .eptr _ _ _ _ _,h | .map _,h | .iter _,h | .yieldf _,h | .nils _,h=>by simp [ag.pure] at h
theorem gI:∀ {l:List ag},aH l = true → iB l = []
 | [],_=>rfl
 | v :: r,h=>by
  simp only [aH,Bool.and_eq_true] at h;simp only [iB,pB h.1,gI h.2,List.append_nil]
end
theorem hU:∀ {l:List ag} {b:Nat},b ∈ iB l ↔ ∃ j, ∃ h:j < l.length,b ∈ l[j].eY
 | [],b=>by simp [iB]
 | v :: r,b=>by
  simp only [iB,List.mem_append,hU (l:=r)];constructor
  ·rintro (h | ⟨j,h1,h2⟩)
   ·exact ⟨0,by simp,h⟩
   ·exact ⟨j + 1,by simpa using h1,by simpa using h2⟩
  ·rintro ⟨j,h1,h2⟩
   cases j with
   | zero=>exact .inl h2
   | succ j=>exact .inr ⟨j,by simpa using h1,by simpa using h2⟩
theorem Rv.eY {s:St} {v:ag} {c:Value} (h:Rv s v c):∀ b ∈ v.eY, ∃ k u,s.lam b k = some u:=by
 induction h with
 | agg cs vs hl _ ih=>intro b hb; obtain ⟨j,h1,h2⟩:=hU.1 hb; exact ih j h1 (by omega) b h2
 | tup cs vs hl _ ih=>intro b hb; obtain ⟨j,h1,h2⟩:=hU.1 hb; exact ih j h1 (by omega) b h2
 | slice sz xs blk off len cap us hl hn hc _ hm ih=>intro b hb; obtain ⟨j,h1,h2⟩:=hU.1 hb; exact ih j h1 (by omega) b h2
 | oslice sz xs b k c hs hl ih=>
  intro b' hb;rcases List.mem_cons.1 hb with rfl | hb
  ·exact ⟨k,c,hl⟩
  ·exact ih b' hb
 | sref sz b off len n blk cap hl h1 h2=>intro b' hb; simp [ag.eY] at hb; subst hb; exact ⟨_,_,hl⟩
 | srefE sz b off n a v hl h0 h1=>intro b' hb; simp [ag.eY] at hb; subst hb; exact ⟨_,_,hl⟩
 | sref0 sz b a hl=>intro b' hb; simp [ag.eY] at hb; subst hb; exact ⟨_,_,hl⟩
 | pval v u blk off _ hm ih=>exact ih
 | ptr b off blk hl=>intro b' hb; simp [ag.eY] at hb; subst hb; exact ⟨_,_,hl⟩
 | eptr sz b i f n blk cap hl=>intro b' hb; simp [ag.eY] at hb; subst hb; exact ⟨_,_,hl⟩
 | func fn first caps fi ca hf hc _ _ ih1 ih2=>
  intro b hb;rcases List.mem_append.1 hb with h | h
  ·obtain ⟨j,h1,h2⟩:=hU.1 h; exact ih1 j h1 (by omega) b h2
  ·obtain ⟨j,h1,h2⟩:=hU.1 h; exact ih2 j h1 (by omega) b h2
 | iface t v u _ ih=>exact ih
 | map b blk hl=>intro b' hb; simp [ag.eY] at hb; subst hb; exact ⟨_,_,hl⟩
 | optT v c _ ih=>intro b hb; simp [ag.eY] at hb; exact ih b hb
 | optF v=>intro b hb; simp [ag.eY] at hb
 | iter b blk hl=>intro b' hb; simp [ag.eY] at hb; subst hb; exact ⟨_,_,hl⟩
 | yieldf b blk hl=>intro b' hb; simp [ag.eY] at hb; subst hb; exact ⟨_,_,hl⟩
 | _=>intro b hb; simp [ag.eY,iB] at hb
inductive cV where
 | no
 | rd (l:List Nat)
 | al (o:cq)
 | wr (b:Nat) (o:cq)
structure DR where
 v:ag
 e:cV
def cV.run (σ:af):cV → af
 | .al o=>σ ++ [o]
 | .wr b o=>σ.set b o
 | _=>σ
def cV.qf:cV → cV → Bool
 | .wr b _, .wr c _=>b == c
 | .wr b _, .rd l=>l.contains b
 | .rd l, .wr c _=>l.contains c
 | _,_=>false
def kY (bef:List (List Nat)) (j:Nat) (e:cV):List cV → Nat → Bool
 | [],_=>true
 | f :: r,i=>(!e.qf f || (bef.getD j []).contains i) && kY bef j e r (i + 1)
def eW (bef:List (List Nat)):List cV → List cV → Nat → Bool
 | _,[],_=>true
 | before,e :: r,j=>kY bef j e before 0 && eW bef (before ++ [e]) r (j + 1)
def pW:ag → cV
 | .ptr b _=>.rd [b]
 | .eptr _ b _ _ _=>.rd [b]
 | .map b=>.rd [b]
 | _=>.no
def rh (σ:af) (l:List ag):List Nat:=iB l ++ (iB l).flatMap fun b=>match σ.get b with
 | .box cs=>iB cs
 | _=>[]
def rdL (σ:af) (l:List ag):cV:=if aH l = true then .no else .rd (rh σ l)
def jV (e:Env):AI → cV
 | .load _ x=>pW (opv e x)
 | .lookup _ _ x _=>pW (opv e x)
 | _=>.no
def u0 (σ:af) (v:ag):ag → Option cV
 | .ptr b off=>match σ.get b with
  | .box cs=>some (.wr b (.box (putCells cs off v.cells)))
  | _=>none
 | .eptr _ b i f _=>match σ.get b with
  | .arr esz xs=>some (.wr b (.arr esz (xs.set i (pD (xs.getD i .undef) f v.cells))))
  | _=>none
 | _=>none
def nV:List ag → Bool
 | []=>true
 | .mint _ :: _=>false
 | _ :: r=>nV r
def tS:ag → Option (List ag)
 | .slice _ xs=>some xs
 | .oslice _ xs _ _=>some xs
 | _=>none
theorem z8 {v:ag} {ys:List ag} (h:tS v = some ys) (σ:af) (sz:Nat):v.elems σ = ys ∧ (v.jh σ sz ↔ v.jh [] sz):=by
 cases v <;> simp [tS] at h <;> subst h <;> exact ⟨rfl,Iff.rfl⟩
def yf (sz bytes:Nat) (σ:af) (x y:ag) (K:ag → cV → Prop):Prop:=
 match tS y with
 | none=>False
 | some ys=>y.jh [] sz ∧ Fits sz ys ∧ match x with
  | .oslice sz' xs b k=>sz' = sz ∧ (xs.length + ys.length) * bytes ≤ 140737488355328 ∧ match σ.get b with
   | .spare sz'' k'=>sz'' = sz ∧ k' = k ∧ K (.oslice sz (xs ++ ys) b (k + 1)) (.wr b (.spare sz (k + 1)))
   | _=>False
  | .sref sz' b off len n=>sz' = sz ∧ match σ.get b with
   | .arr sz'' xs=>sz'' = sz ∧ xs.length = n ∧ off = 0 ∧ len = n ∧ (n + ys.length) * bytes ≤ 140737488355328 ∧ K (.sref sz b 0 (n + ys.length) (n + ys.length)) (.wr b (.arr sz (xs ++ ys)))
   | _=>False
  | _=>False
theorem oH {sz bytes:Nat} {σ:af} {x y:ag} {K:ag → cV → Prop} (h:yf sz bytes σ x y K):∃ ys b o v,tS y = some ys ∧ y.jh [] sz ∧ Fits sz ys ∧ b ∈ x.eY ∧ σ.get b ≠ .dead ∧ K v (.wr b o) ∧
  (∀ H:af,H.get b = σ.get b → ∀ K':ag → af → Prop,K' v (H.set b o) → j0 sz bytes H x ys K') ∧ (∀ K':ag → cV → Prop,K' v (.wr b o) → yf sz bytes σ x y K'):=by
 unfold yf at h
 cases hf:tS y with
 | none=>rw [hf] at h; exact h.elim
 | some ys=>
  rw [hf] at h;obtain ⟨h1,h2,h3⟩:=h
  cases x with
  | oslice sz' xs b k=>
   obtain ⟨rfl,h4,h5⟩:=h3
   cases hg:σ.get b with
   | spare sz'' k'=>
    rw [hg] at h5;obtain ⟨rfl,rfl,h6⟩:=h5;refine ⟨ys,b,_,_,rfl,h1,h2,by simp [ag.eY],by rw [hg]; simp,h6,fun H hH K' hk=>?_,fun K' hk=>?_⟩
    ·simp only [j0,hH,hg]; exact ⟨trivial,h4,trivial,trivial,hk⟩
    ·simp only [yf,hf,hg]; exact ⟨h1,h2,trivial,h4,trivial,trivial,hk⟩
   | _=>rw [hg] at h5; exact h5.elim
  | sref sz' b off len n=>
   obtain ⟨rfl,h5⟩:=h3
   cases hg:σ.get b with
   | arr sz'' xs=>
    rw [hg] at h5;obtain ⟨rfl,rfl,rfl,rfl,h6,h7⟩:=h5;refine ⟨ys,b,_,_,rfl,h1,h2,by simp [ag.eY],by rw [hg]; simp,h7,fun H hH K' hk=>?_,fun K' hk=>?_⟩
    ·simp only [j0,hH,hg];refine ⟨trivial,trivial,trivial, ?_⟩;split
     ·rename_i hle;have hy:ys = []:=List.eq_nil_of_length_eq_zero (by omega);subst hy;simpa using hk
     ·exact ⟨trivial,trivial,h6,hk⟩
    ·simp only [yf,hf,hg]; exact ⟨h1,h2,trivial,trivial,trivial,trivial,trivial,h6,hk⟩
   | _=>rw [hg] at h5; exact h5.elim
  | _=>exact h3.elim
def pV (g:Option (Nat × Bool)) (c:Bool) (v:ag):ag:=
 match g with
 | none=>v
 | some _=>.opt c v
def eX (g:Option (Nat × Bool)) (e:Env):Option Bool:=
 match g with
 | none=>some true
 | some gd=>iv e gd
def Of (bytes:Nat) (n c:ag):Prop:=isInt n ∧ isInt c ∧ 0 ≤ cW n ∧ cW n ≤ cW c ∧ cW c * bytes ≤ 140737488355328 ∧ cW c ≤ 140737488355328
def bK (P : Program) : List aL → Env → af → List cV → (Env → af → List cV → Prop) → Prop
 | [],e,σ,es,K=>K e σ es
 | o :: r,e,σ,es,K=>
  match eX o.g e with
  | none=>False
  | some c=>match o.i with
   | .call f dn l=>∃ v,(c = true → ea e (f :: l) ∧ ∀ σ',(∀ b ∈ rh σ (opv e f :: l.map (opv e)),b < σ.length → σ'.get b = σ.get b) → aE P (opv e f) (cS dn (l.map (opv e))) σ' fun q σ''=>q = .ret v ∧ σ'' = σ') ∧
     bK P r (e.put o.d (pV o.g c v)) σ (rdL σ (opv e f :: l.map (opv e)) :: es) K
   | .box n x=>o.g = none ∧ ea e [x] ∧ cB (opv e x) n ∧ bK P r (e.put o.d (.ptr σ.length 0)) (σ ++ [.box (opv e x).cells]) (.al (.box (opv e x).cells) :: es) K
   | .alloc z=>o.g = none ∧ nV z = true ∧ bK P r (e.put o.d (.ptr σ.length 0)) (σ ++ [.box z]) (.al (.box z) :: es) K
   | .callA sz f dn l=>o.g = none ∧ ea e (f :: l) ∧ ∃ xs,(∀ σ',aE P (opv e f) (cS dn (l.map (opv e))) σ' fun q σ''=>q = .ret (.oslice sz xs σ'.length 1) ∧ σ'' = σ' ++ [.spare sz 1]) ∧
     bK P r (e.put o.d (.oslice sz xs σ.length 1)) (σ ++ [.spare sz 1]) (.al (.spare sz 1) :: es) K
   | .mnew=>o.g = none ∧ bK P r (e.put o.d (.map σ.length)) (σ ++ [.amap []]) (.al (.amap []) :: es) K
   | .mksl m sz bytes z n k=>m = 2 ∧ o.g = none ∧ ea e [n,k] ∧ Of bytes (opv e n) (opv e k) ∧
     bK P r (e.put o.d (.sref sz σ.length 0 (cW (opv e n)).toNat (cW (opv e n)).toNat)) (σ ++ [.arr sz (List.replicate (cW (opv e n)).toNat z)]) (.al (.arr sz (List.replicate (cW (opv e n)).toNat z)) :: es) K
   | .store sz x v=>o.g = none ∧ ea e [x,v] ∧ gu σ sz (opv e v) (opv e x) ∧ match u0 σ (opv e v) (opv e x) with
    | some f=>bK P r (e.put o.d .undef) (f.run σ) (f :: es) K
    | none=>False
   | .append sz bytes x y=>o.g = none ∧ ea e [x,y] ∧ yf sz bytes σ (opv e x) (opv e y) fun v f=>bK P r (e.put o.d v) (f.run σ) (f :: es) K
   | .lit m sz n ps=>if m = 0 then (c = true → ea e (ps.map (·.2)) ∧ jy sz n (opv e) ps) ∧ bK P r (e.put o.d (pV o.g c (.slice sz (iE (opv e) (List.replicate n .undef) ps)))) σ (.no :: es) K
    else if m = 1 then o.g = none ∧ ea e (ps.map (·.2)) ∧ jy sz n (opv e) ps ∧ bK P r (e.put o.d (.oslice sz (iE (opv e) (List.replicate n .undef) ps) σ.length 0)) (σ ++ [.spare sz 0]) (.al (.spare sz 0) :: es) K
    else m = 2 ∧ o.g = none ∧ ea e (ps.map (·.2)) ∧ jy sz n (opv e) ps ∧ bK P r (e.put o.d (.sref sz σ.length 0 n n)) (σ ++ [.arr sz (iE (opv e) (List.replicate n .undef) ps)]) (.al (.arr sz (iE (opv e) (List.replicate n .undef) ps)) :: es) K
   | i=>i.quiet = true ∧ (c = true → kP e σ i) ∧ bK P r (e.put o.d (pV o.g c (mf e σ i))) σ (jV e i :: es) K
def we (P:Program) (o:aL) (e:Env) (σ:af) (r:DR):Prop:=
 ∃ c,eX o.g e = some c ∧
  match o.i with
  | .call f dn l=>r.e = rdL σ (opv e f :: l.map (opv e)) ∧ ∃ v,r.v = pV o.g c v ∧
    (c = true → ea e (f :: l) ∧ ∀ σ',(∀ b ∈ rh σ (opv e f :: l.map (opv e)),b < σ.length → σ'.get b = σ.get b) → aE P (opv e f) (cS dn (l.map (opv e))) σ' fun q σ''=>q = .ret v ∧ σ'' = σ')
  | .box n x=>o.g = none ∧ ea e [x] ∧ cB (opv e x) n ∧ r = ⟨.ptr σ.length 0, .al (.box (opv e x).cells)⟩
  | .alloc z=>o.g = none ∧ nV z = true ∧ r = ⟨.ptr σ.length 0, .al (.box z)⟩
  | .callA sz f dn l=>o.g = none ∧ ea e (f :: l) ∧ ∃ xs,(∀ σ',aE P (opv e f) (cS dn (l.map (opv e))) σ' fun q σ''=>q = .ret (.oslice sz xs σ'.length 1) ∧ σ'' = σ' ++ [.spare sz 1]) ∧
    r = ⟨.oslice sz xs σ.length 1, .al (.spare sz 1)⟩
  | .mnew=>o.g = none ∧ r = ⟨.map σ.length, .al (.amap [])⟩
  | .mksl m sz bytes z n k=>m = 2 ∧ o.g = none ∧ ea e [n,k] ∧ Of bytes (opv e n) (opv e k) ∧
    r = ⟨.sref sz σ.length 0 (cW (opv e n)).toNat (cW (opv e n)).toNat, .al (.arr sz (List.replicate (cW (opv e n)).toNat z))⟩
  | .store sz x v=>o.g = none ∧ ea e [x,v] ∧ gu σ sz (opv e v) (opv e x) ∧ r.v = .undef ∧ u0 σ (opv e v) (opv e x) = some r.e
  | .append sz bytes x y=>o.g = none ∧ ea e [x,y] ∧ yf sz bytes σ (opv e x) (opv e y) fun v f=>r = ⟨v,f⟩
  | .lit m sz n ps=>if m = 0 then (c = true → ea e (ps.map (·.2)) ∧ jy sz n (opv e) ps) ∧ r = ⟨pV o.g c (.slice sz (iE (opv e) (List.replicate n .undef) ps)), .no⟩
   else if m = 1 then o.g = none ∧ ea e (ps.map (·.2)) ∧ jy sz n (opv e) ps ∧ r = ⟨.oslice sz (iE (opv e) (List.replicate n .undef) ps) σ.length 0, .al (.spare sz 0)⟩
   else m = 2 ∧ o.g = none ∧ ea e (ps.map (·.2)) ∧ jy sz n (opv e) ps ∧ r = ⟨.sref sz σ.length 0 n n, .al (.arr sz (iE (opv e) (List.replicate n .undef) ps))⟩
  | i=>i.quiet = true ∧ (c = true → kP e σ i) ∧ r = ⟨pV o.g c (mf e σ i),jV e i⟩
def C5 (P:Program):List aL → Env → af → List DR → Env → af → Prop
 | [],e,σ,[],e',σ'=>e' = e ∧ σ' = σ
 | o :: r,e,σ,q :: t,e',σ'=>we P o e σ q ∧ C5 P r (e.put o.d q.v) (q.e.run σ) t e' σ'
 | _,_,_,_,_,_=>False
theorem yX {e:Env} {i:AI} {σ:af}:(jV e i).run σ = σ:=by
 have h:∀ v,(pW v).run σ = σ:=fun v=>by cases v <;> rfl
 cases i <;> first | rfl | exact h _
theorem Kf {l:List ag} {σ τ:af}:(rdL τ l).run σ = σ:=by unfold rdL; split <;> rfl
theorem zq {P:Program}:∀ {ops:List aL} {e:Env} {σ:af} {es:List cV} {K:Env → af → List cV → Prop},bK P ops e σ es K →
  ∃ t e' σ',C5 P ops e σ t e' σ' ∧ K e' σ' ((t.map (·.e)).reverse ++ es)
 | [],e,σ,es,K,h=>⟨[],e,σ,⟨rfl,rfl⟩,h⟩
 | o :: r,e,σ,es,K,h=>by
  simp only [bK] at h
  split at h
  ·exact h.elim
  ·rename_i c hc;have next:∀ (q:DR),we P o e σ q → bK P r (e.put o.d q.v) (q.e.run σ) (q.e :: es) K → ∃ t e' σ',C5 P (o :: r) e σ t e' σ' ∧ K e' σ' ((t.map (·.e)).reverse ++ es):=by
    intro q h1 h2;obtain ⟨t,e',σ',g1,g2⟩:=zq h2;exact ⟨q :: t,e',σ',⟨h1,g1⟩,by simpa using g2⟩
   cases hi:o.i with
   | call f dn l=>
    rw [hi] at h;obtain ⟨v,h1,h2⟩:=h;exact next ⟨pV o.g c v,rdL σ (opv e f :: l.map (opv e))⟩ ⟨c,hc,by rw [hi]; exact ⟨rfl,v,rfl,h1⟩⟩ (by rw [Kf]; exact h2)
   | box n x=>rw [hi] at h; exact next ⟨_,_⟩ ⟨c,hc,by rw [hi]; exact ⟨h.1,h.2.1,h.2.2.1,rfl⟩⟩ h.2.2.2
   | alloc z=>rw [hi] at h; exact next ⟨_,_⟩ ⟨c,hc,by rw [hi]; exact ⟨h.1,h.2.1,rfl⟩⟩ h.2.2
   | callA sz f dn l=>
    rw [hi] at h;obtain ⟨h1,h2,xs,h3,h4⟩:=h;exact next ⟨_,_⟩ ⟨c,hc,by rw [hi]; exact ⟨h1,h2,xs,h3,rfl⟩⟩ h4
   | mnew=>rw [hi] at h; exact next ⟨_,_⟩ ⟨c,hc,by rw [hi]; exact ⟨h.1,rfl⟩⟩ h.2
   | mksl m sz bytes z n k=>rw [hi] at h; exact next ⟨_,_⟩ ⟨c,hc,by rw [hi]; exact ⟨h.1,h.2.1,h.2.2.1,h.2.2.2.1,rfl⟩⟩ h.2.2.2.2
   | store sz x v=>
    rw [hi] at h;obtain ⟨h1,h2,h3,h4⟩:=h
    cases hw:u0 σ (opv e v) (opv e x) with
    | none=>rw [hw] at h4; exact h4.elim
    | some f=>rw [hw] at h4; exact next ⟨.undef,f⟩ ⟨c,hc,by rw [hi]; exact ⟨h1,h2,h3,rfl,hw⟩⟩ h4
   | append sz bytes x y=>
    rw [hi] at h;obtain ⟨h1,h2,h3⟩:=h;obtain ⟨ys,b,o',v,q1,q2,q3,q4,q5,q6,q7,q8⟩:=oH h3;exact next ⟨_,_⟩ ⟨c,hc,by rw [hi]; exact ⟨h1,h2,q8 _ rfl⟩⟩ q6
   | lit m sz n ps=>
    rw [hi] at h;by_cases hm:m = 0
    ·simp only [if_pos hm] at h;exact next ⟨_, .no⟩ ⟨c,hc,by rw [hi]; simp only [if_pos hm]; exact ⟨h.1,rfl⟩⟩ h.2
    ·by_cases hm1:m = 1
     ·simp only [if_neg hm,if_pos hm1] at h;exact next ⟨_,_⟩ ⟨c,hc,by rw [hi]; simp only [if_neg hm,if_pos hm1]; exact ⟨h.1,h.2.1,h.2.2.1,rfl⟩⟩ h.2.2.2
     ·simp only [if_neg hm,if_neg hm1] at h;exact next ⟨_,_⟩ ⟨c,hc,by rw [hi]; simp only [if_neg hm,if_neg hm1]; exact ⟨h.1,h.2.1,h.2.2.1,h.2.2.2.1,rfl⟩⟩ h.2.2.2.2
   | load k x=>rw [hi] at h; exact next ⟨_,jV e (.load k x)⟩ ⟨c,hc,by rw [hi]; exact ⟨h.1,h.2.1,rfl⟩⟩ (by rw [yX]; exact h.2.2)
   | lookup ok z x i=>rw [hi] at h; exact next ⟨_,jV e (.lookup ok z x i)⟩ ⟨c,hc,by rw [hi]; exact ⟨h.1,h.2.1,rfl⟩⟩ (by rw [yX]; exact h.2.2)
   | _=>rw [hi] at h; exact next ⟨_, .no⟩ ⟨c,hc,by rw [hi]; exact ⟨h.1,h.2.1,rfl⟩⟩ h.2.2
end Go.AM
