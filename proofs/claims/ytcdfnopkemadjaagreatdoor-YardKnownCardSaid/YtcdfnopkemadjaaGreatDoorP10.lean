/- A region whose order Go leaves open, first half: what it comes to in the order of its text, and which parts of the abstract heap each operation touches. A region whose order Go leaves open, second .. -/
import Derived.Test.YtcdfnopkemadjaaGreatDoorP9
namespace Go.AM
open Go.RowKit
mutual
def aa.pure:aa → Bool
 | .undef | .bool _ | .int _ _ | .str _ | .nilptr | .nilfunc | .niliface | .nilmap | .mint _=>true
 | .agg cs=>cF cs
 | .tup cs=>cF cs
 | .slice _ xs=>cF xs
 | .pval v=>v.pure
 | .func _ a b=>cF a && cF b
 | .iface _ v=>v.pure
 | .opt _ v=>v.pure
 | _=>false
def cF:List aa → Bool
 | []=>true
 | v :: r=>v.pure && cF r
end
mutual
def aa.cw:aa → List Nat
 | .agg cs=>dY cs
 | .tup cs=>dY cs
 | .slice _ xs=>dY xs
 | .oslice _ xs b _=>b :: dY xs
 | .sref _ b _ _ _=>[b]
 | .pval v=>v.cw
 | .ptr b _=>[b]
 | .eptr _ b _ _ _=>[b]
 | .func _ a b=>dY a ++ dY b
 | .iface _ v=>v.cw
 | .map b=>[b]
 | .iter b=>[b]
 | .yieldf b=>[b]
 | .opt g v=>if g then v.cw else []
 | _=>[]
def dY:List aa → List Nat
 | []=>[]
 | v :: r=>v.cw ++ dY r
end
mutual
theorem ia:∀ {v:aa},v.pure = true → v.cw = []
 | .undef,_ | .bool _,_ | .int _ _,_ | .str _,_ | .nilptr,_ | .nilfunc,_ | .niliface,_ | .nilmap,_ | .mint _,_=>rfl
 | .agg cs,h=>dF (l:=cs) h
 | .tup cs,h=>dF (l:=cs) h
 | .slice _ xs,h=>dF (l:=xs) h
 | .pval v,h=>ia (v:=v) h
 | .func _ a b,h=>by
  simp only [aa.pure,Bool.and_eq_true] at h;simp only [aa.cw,dF h.1,dF h.2,List.append_nil]
 | .iface _ v,h=>ia (v:=v) h
 | .opt g v,h=>by
  simp only [aa.cw,ia (v:=v) h]; split <;> rfl
 | .oslice _ _ _ _,h | .sref _ _ _ _ _,h | .ptr _ _,h | .eptr _ _ _ _ _,h | .map _,h | .iter _,h | .yieldf _,h | .nils _,h=>by simp [aa.pure] at h
theorem dF:∀ {l:List aa},cF l = true → dY l = []
 | [],_=>rfl
 | v :: r,h=>by
  simp only [cF,Bool.and_eq_true] at h;simp only [dY,ia h.1,dF h.2,List.append_nil]
end
theorem dN:∀ {l:List aa} {b:Nat},b ∈ dY l ↔ ∃ j, ∃ h:j < l.length,b ∈ l[j].cw
 | [],b=>by simp [dY]
 | v :: r,b=>by
  simp only [dY,List.mem_append,dN (l:=r)];constructor
  ·rintro (h | ⟨j,h1,h2⟩)
   ·exact ⟨0,by simp,h⟩
   ·exact ⟨j + 1,by simpa using h1,by simpa using h2⟩
  ·rintro ⟨j,h1,h2⟩
   cases j with
   | zero=>exact .inl h2
   | succ j=>exact .inr ⟨j,by simpa using h1,by simpa using h2⟩
theorem Rv.cw {s:St} {v:aa} {c:Value} (h:Rv s v c):∀ b ∈ v.cw, ∃ k u,s.lam b k = some u:=by
 induction h with
 | agg cs vs hl _ ih=>intro b hb; obtain ⟨j,h1,h2⟩:=dN.1 hb; exact ih j h1 (by omega) b h2
 | tup cs vs hl _ ih=>intro b hb; obtain ⟨j,h1,h2⟩:=dN.1 hb; exact ih j h1 (by omega) b h2
 | slice sz xs blk off len cap us hl hn hc _ hm ih=>intro b hb; obtain ⟨j,h1,h2⟩:=dN.1 hb; exact ih j h1 (by omega) b h2
 | oslice sz xs b k c hs hl ih=>
  intro b' hb;rcases List.mem_cons.1 hb with rfl | hb
  ·exact ⟨k,c,hl⟩
  ·exact ih b' hb
 | sref sz b off len n blk cap hl h1 h2=>intro b' hb; simp [aa.cw] at hb; subst hb; exact ⟨_,_,hl⟩
 | srefE sz b off n a v hl h0 h1=>intro b' hb; simp [aa.cw] at hb; subst hb; exact ⟨_,_,hl⟩
 | sref0 sz b a hl=>intro b' hb; simp [aa.cw] at hb; subst hb; exact ⟨_,_,hl⟩
 | pval v u blk off _ hm ih=>exact ih
 | ptr b off blk hl=>intro b' hb; simp [aa.cw] at hb; subst hb; exact ⟨_,_,hl⟩
 | eptr sz b i f n blk cap hl=>intro b' hb; simp [aa.cw] at hb; subst hb; exact ⟨_,_,hl⟩
 | func fn first caps fi ca hf hc _ _ ih1 ih2=>
  intro b hb;rcases List.mem_append.1 hb with h | h
  ·obtain ⟨j,h1,h2⟩:=dN.1 h; exact ih1 j h1 (by omega) b h2
  ·obtain ⟨j,h1,h2⟩:=dN.1 h; exact ih2 j h1 (by omega) b h2
 | iface t v u _ ih=>exact ih
 | map b blk hl=>intro b' hb; simp [aa.cw] at hb; subst hb; exact ⟨_,_,hl⟩
 | optT v c _ ih=>intro b hb; simp [aa.cw] at hb; exact ih b hb
 | optF v=>intro b hb; simp [aa.cw] at hb
 | iter b blk hl=>intro b' hb; simp [aa.cw] at hb; subst hb; exact ⟨_,_,hl⟩
 | yieldf b blk hl=>intro b' hb; simp [aa.cw] at hb; subst hb; exact ⟨_,_,hl⟩
 | _=>intro b hb; simp [aa.cw,dY] at hb
inductive bl where
 | no
 | rd (l:List Nat)
 | al (o:bO)
 | wr (b:Nat) (o:bO)
structure DR where
 v:aa
 e:bl
def bl.run (σ:ab):bl → ab
 | .al o=>σ ++ [o]
 | .wr b o=>σ.set b o
 | _=>σ
def bl.jC:bl → bl → Bool
 | .wr b _, .wr c _=>b == c
 | .wr b _, .rd l=>l.contains b
 | .rd l, .wr c _=>l.contains c
 | _,_=>false
def hZ (bef:List (List Nat)) (j:Nat) (e:bl):List bl → Nat → Bool
 | [],_=>true
 | f :: r,i=>(!e.jC f || (bef.getD j []).contains i) && hZ bef j e r (i + 1)
def eA (bef:List (List Nat)):List bl → List bl → Nat → Bool
 | _,[],_=>true
 | before,e :: r,j=>hZ bef j e before 0 && eA bef (before ++ [e]) r (j + 1)
def ie:aa → bl
 | .ptr b _=>.rd [b]
 | .eptr _ b _ _ _=>.rd [b]
 | .map b=>.rd [b]
 | _=>.no
def iO (σ:ab) (l:List aa):List Nat:=dY l ++ (dY l).flatMap fun b=>match σ.get b with
 | .box cs=>dY cs
 | _=>[]
def rdL (σ:ab) (l:List aa):bl:=if cF l = true then .no else .rd (iO σ l)
def du (e:Env):AI → bl
 | .load _ x=>ie (opv e x)
 | .lookup _ _ x _=>ie (opv e x)
 | _=>.no
def jf (σ:ab) (v:aa):aa → Option bl
 | .ptr b off=>match σ.get b with
  | .box cs=>some (.wr b (.box (putCells cs off v.cells)))
  | _=>none
 | .eptr _ b i f _=>match σ.get b with
  | .arr esz xs=>some (.wr b (.arr esz (xs.set i (hF (xs.getD i .undef) f v.cells))))
  | _=>none
 | _=>none
def eB:List aa → Bool
 | []=>true
 | .mint _ :: _=>false
 | _ :: r=>eB r
def gU:aa → Option (List aa)
 | .slice _ xs=>some xs
 | .oslice _ xs _ _=>some xs
 | _=>none
theorem nK {v:aa} {ys:List aa} (h:gU v = some ys) (σ:ab) (sz:Nat):v.elems σ = ys ∧ (v.cE σ sz ↔ v.cE [] sz):=by
 cases v <;> simp [gU] at h <;> subst h <;> exact ⟨rfl,Iff.rfl⟩
def mr (sz bytes:Nat) (σ:ab) (x y:aa) (K:aa → bl → Prop):Prop:=
 match gU y with
 | none=>False
 | some ys=>y.cE [] sz ∧ Fits sz ys ∧ match x with
  | .oslice sz' xs b k=>sz' = sz ∧ (xs.length + ys.length) * bytes ≤ 140737488355328 ∧ match σ.get b with
   | .spare sz'' k'=>sz'' = sz ∧ k' = k ∧ K (.oslice sz (xs ++ ys) b (k + 1)) (.wr b (.spare sz (k + 1)))
   | _=>False
  | .sref sz' b off len n=>sz' = sz ∧ match σ.get b with
   | .arr sz'' xs=>sz'' = sz ∧ xs.length = n ∧ off = 0 ∧ len = n ∧ (n + ys.length) * bytes ≤ 140737488355328 ∧ K (.sref sz b 0 (n + ys.length) (n + ys.length)) (.wr b (.arr sz (xs ++ ys)))
   | _=>False
  | _=>False
theorem iW {sz bytes:Nat} {σ:ab} {x y:aa} {K:aa → bl → Prop} (h:mr sz bytes σ x y K):∃ ys b o v,gU y = some ys ∧ y.cE [] sz ∧ Fits sz ys ∧ b ∈ x.cw ∧ σ.get b ≠ .dead ∧ K v (.wr b o) ∧
  (∀ H:ab,H.get b = σ.get b → ∀ K':aa → ab → Prop,K' v (H.set b o) → dv sz bytes H x ys K') ∧ (∀ K':aa → bl → Prop,K' v (.wr b o) → mr sz bytes σ x y K'):=by
 unfold mr at h
 cases hf:gU y with
 | none=>rw [hf] at h; exact h.elim
 | some ys=>
  rw [hf] at h;obtain ⟨h1,h2,h3⟩:=h
  cases x with
  | oslice sz' xs b k=>
   obtain ⟨rfl,h4,h5⟩:=h3
   cases hg:σ.get b with
   | spare sz'' k'=>
    rw [hg] at h5;obtain ⟨rfl,rfl,h6⟩:=h5;refine ⟨ys,b,_,_,rfl,h1,h2,by simp [aa.cw],by rw [hg]; simp,h6,fun H hH K' hk=>?_,fun K' hk=>?_⟩
    ·simp only [dv,hH,hg]; exact ⟨trivial,h4,trivial,trivial,hk⟩
    ·simp only [mr,hf,hg]; exact ⟨h1,h2,trivial,h4,trivial,trivial,hk⟩
   | _=>rw [hg] at h5; exact h5.elim
  | sref sz' b off len n=>
   obtain ⟨rfl,h5⟩:=h3
   cases hg:σ.get b with
   | arr sz'' xs=>
    rw [hg] at h5;obtain ⟨rfl,rfl,rfl,rfl,h6,h7⟩:=h5;refine ⟨ys,b,_,_,rfl,h1,h2,by simp [aa.cw],by rw [hg]; simp,h7,fun H hH K' hk=>?_,fun K' hk=>?_⟩
    ·simp only [dv,hH,hg];refine ⟨trivial,trivial,trivial, ?_⟩;split
     ·rename_i hle;have hy:ys = []:=List.eq_nil_of_length_eq_zero (by omega);subst hy;simpa using hk
     ·exact ⟨trivial,trivial,h6,hk⟩
    ·simp only [mr,hf,hg]; exact ⟨h1,h2,trivial,trivial,trivial,trivial,trivial,h6,hk⟩
   | _=>rw [hg] at h5; exact h5.elim
  | _=>exact h3.elim
def eJ (g:Option (Nat × Bool)) (c:Bool) (v:aa):aa:=
 match g with
 | none=>v
 | some _=>.opt c v
def cm (g:Option (Nat × Bool)) (e:Env):Option Bool:=
 match g with
 | none=>some true
 | some gd=>cH e gd
def H2 (bytes:Nat) (n c:aa):Prop:=isInt n ∧ isInt c ∧ 0 ≤ aP n ∧ aP n ≤ aP c ∧ aP c * bytes ≤ 140737488355328 ∧ aP c ≤ 140737488355328
def dm (P : Program) : List au → Env → ab → List bl → (Env → ab → List bl → Prop) → Prop
 | [],e,σ,es,K=>K e σ es
 | o :: r,e,σ,es,K=>
  match cm o.g e with
  | none=>False
  | some c=>match o.i with
   | .call f dn l=>∃ v,(c = true → bG e (f :: l) ∧ ∀ σ',(∀ b ∈ iO σ (opv e f :: l.map (opv e)),b < σ.length → σ'.get b = σ.get b) → bp P (opv e f) (aU dn (l.map (opv e))) σ' fun q σ''=>q = .ret v ∧ σ'' = σ') ∧
     dm P r (e.put o.d (eJ o.g c v)) σ (rdL σ (opv e f :: l.map (opv e)) :: es) K
   | .box n x=>o.g = none ∧ bG e [x] ∧ aY (opv e x) n ∧ dm P r (e.put o.d (.ptr σ.length 0)) (σ ++ [.box (opv e x).cells]) (.al (.box (opv e x).cells) :: es) K
   | .alloc z=>o.g = none ∧ eB z = true ∧ dm P r (e.put o.d (.ptr σ.length 0)) (σ ++ [.box z]) (.al (.box z) :: es) K
   | .callA sz f dn l=>o.g = none ∧ bG e (f :: l) ∧ ∃ xs,(∀ σ',bp P (opv e f) (aU dn (l.map (opv e))) σ' fun q σ''=>q = .ret (.oslice sz xs σ'.length 1) ∧ σ'' = σ' ++ [.spare sz 1]) ∧
     dm P r (e.put o.d (.oslice sz xs σ.length 1)) (σ ++ [.spare sz 1]) (.al (.spare sz 1) :: es) K
   | .mnew=>o.g = none ∧ dm P r (e.put o.d (.map σ.length)) (σ ++ [.amap []]) (.al (.amap []) :: es) K
   | .mksl m sz bytes z n k=>m = 2 ∧ o.g = none ∧ bG e [n,k] ∧ H2 bytes (opv e n) (opv e k) ∧
     dm P r (e.put o.d (.sref sz σ.length 0 (aP (opv e n)).toNat (aP (opv e n)).toNat)) (σ ++ [.arr sz (List.replicate (aP (opv e n)).toNat z)]) (.al (.arr sz (List.replicate (aP (opv e n)).toNat z)) :: es) K
   | .store sz x v=>o.g = none ∧ bG e [x,v] ∧ ck σ sz (opv e v) (opv e x) ∧ match jf σ (opv e v) (opv e x) with
    | some f=>dm P r (e.put o.d .undef) (f.run σ) (f :: es) K
    | none=>False
   | .append sz bytes x y=>o.g = none ∧ bG e [x,y] ∧ mr sz bytes σ (opv e x) (opv e y) fun v f=>dm P r (e.put o.d v) (f.run σ) (f :: es) K
   | .lit m sz n ps=>if m = 0 then (c = true → bG e (ps.map (·.2)) ∧ ee sz n (opv e) ps) ∧ dm P r (e.put o.d (eJ o.g c (.slice sz (cZ (opv e) (List.replicate n .undef) ps)))) σ (.no :: es) K
    else if m = 1 then o.g = none ∧ bG e (ps.map (·.2)) ∧ ee sz n (opv e) ps ∧ dm P r (e.put o.d (.oslice sz (cZ (opv e) (List.replicate n .undef) ps) σ.length 0)) (σ ++ [.spare sz 0]) (.al (.spare sz 0) :: es) K
    else m = 2 ∧ o.g = none ∧ bG e (ps.map (·.2)) ∧ ee sz n (opv e) ps ∧ dm P r (e.put o.d (.sref sz σ.length 0 n n)) (σ ++ [.arr sz (cZ (opv e) (List.replicate n .undef) ps)]) (.al (.arr sz (cZ (opv e) (List.replicate n .undef) ps)) :: es) K
   | i=>i.quiet = true ∧ (c = true → ed e σ i) ∧ dm P r (e.put o.d (eJ o.g c (bZ e σ i))) σ (du e i :: es) K
def lS (P:Program) (o:au) (e:Env) (σ:ab) (r:DR):Prop:=
 ∃ c,cm o.g e = some c ∧
  match o.i with
  | .call f dn l=>r.e = rdL σ (opv e f :: l.map (opv e)) ∧ ∃ v,r.v = eJ o.g c v ∧
    (c = true → bG e (f :: l) ∧ ∀ σ',(∀ b ∈ iO σ (opv e f :: l.map (opv e)),b < σ.length → σ'.get b = σ.get b) → bp P (opv e f) (aU dn (l.map (opv e))) σ' fun q σ''=>q = .ret v ∧ σ'' = σ')
  | .box n x=>o.g = none ∧ bG e [x] ∧ aY (opv e x) n ∧ r = ⟨.ptr σ.length 0, .al (.box (opv e x).cells)⟩
  | .alloc z=>o.g = none ∧ eB z = true ∧ r = ⟨.ptr σ.length 0, .al (.box z)⟩
  | .callA sz f dn l=>o.g = none ∧ bG e (f :: l) ∧ ∃ xs,(∀ σ',bp P (opv e f) (aU dn (l.map (opv e))) σ' fun q σ''=>q = .ret (.oslice sz xs σ'.length 1) ∧ σ'' = σ' ++ [.spare sz 1]) ∧
    r = ⟨.oslice sz xs σ.length 1, .al (.spare sz 1)⟩
  | .mnew=>o.g = none ∧ r = ⟨.map σ.length, .al (.amap [])⟩
  | .mksl m sz bytes z n k=>m = 2 ∧ o.g = none ∧ bG e [n,k] ∧ H2 bytes (opv e n) (opv e k) ∧
    r = ⟨.sref sz σ.length 0 (aP (opv e n)).toNat (aP (opv e n)).toNat, .al (.arr sz (List.replicate (aP (opv e n)).toNat z))⟩
  | .store sz x v=>o.g = none ∧ bG e [x,v] ∧ ck σ sz (opv e v) (opv e x) ∧ r.v = .undef ∧ jf σ (opv e v) (opv e x) = some r.e
  | .append sz bytes x y=>o.g = none ∧ bG e [x,y] ∧ mr sz bytes σ (opv e x) (opv e y) fun v f=>r = ⟨v,f⟩
  | .lit m sz n ps=>if m = 0 then (c = true → bG e (ps.map (·.2)) ∧ ee sz n (opv e) ps) ∧ r = ⟨eJ o.g c (.slice sz (cZ (opv e) (List.replicate n .undef) ps)), .no⟩
   else if m = 1 then o.g = none ∧ bG e (ps.map (·.2)) ∧ ee sz n (opv e) ps ∧ r = ⟨.oslice sz (cZ (opv e) (List.replicate n .undef) ps) σ.length 0, .al (.spare sz 0)⟩
   else m = 2 ∧ o.g = none ∧ bG e (ps.map (·.2)) ∧ ee sz n (opv e) ps ∧ r = ⟨.sref sz σ.length 0 n n, .al (.arr sz (cZ (opv e) (List.replicate n .undef) ps))⟩
  | i=>i.quiet = true ∧ (c = true → ed e σ i) ∧ r = ⟨eJ o.g c (bZ e σ i),du e i⟩
def pE (P:Program):List au → Env → ab → List DR → Env → ab → Prop
 | [],e,σ,[],e',σ'=>e' = e ∧ σ' = σ
 | o :: r,e,σ,q :: t,e',σ'=>lS P o e σ q ∧ pE P r (e.put o.d q.v) (q.e.run σ) t e' σ'
 | _,_,_,_,_,_=>False
theorem nz {e:Env} {i:AI} {σ:ab}:(du e i).run σ = σ:=by
 have h:∀ v,(ie v).run σ = σ:=fun v=>by cases v <;> rfl
 cases i <;> first | rfl | exact h _
theorem G4 {l:List aa} {σ τ:ab}:(rdL τ l).run σ = σ:=by unfold rdL; split <;> rfl
theorem mL {P:Program}:∀ {ops:List au} {e:Env} {σ:ab} {es:List bl} {K:Env → ab → List bl → Prop},dm P ops e σ es K →
  ∃ t e' σ',pE P ops e σ t e' σ' ∧ K e' σ' ((t.map (·.e)).reverse ++ es)
 | [],e,σ,es,K,h=>⟨[],e,σ,⟨rfl,rfl⟩,h⟩
 | o :: r,e,σ,es,K,h=>by
  simp only [dm] at h
  split at h
  ·exact h.elim
  ·rename_i c hc;have next:∀ (q:DR),lS P o e σ q → dm P r (e.put o.d q.v) (q.e.run σ) (q.e :: es) K → ∃ t e' σ',pE P (o :: r) e σ t e' σ' ∧ K e' σ' ((t.map (·.e)).reverse ++ es):=by
    intro q h1 h2;obtain ⟨t,e',σ',g1,g2⟩:=mL h2;exact ⟨q :: t,e',σ',⟨h1,g1⟩,by simpa using g2⟩
   cases hi:o.i with
   | call f dn l=>
    rw [hi] at h;obtain ⟨v,h1,h2⟩:=h;exact next ⟨eJ o.g c v,rdL σ (opv e f :: l.map (opv e))⟩ ⟨c,hc,by rw [hi]; exact ⟨rfl,v,rfl,h1⟩⟩ (by rw [G4]; exact h2)
   | box n x=>rw [hi] at h; exact next ⟨_,_⟩ ⟨c,hc,by rw [hi]; exact ⟨h.1,h.2.1,h.2.2.1,rfl⟩⟩ h.2.2.2
   | alloc z=>rw [hi] at h; exact next ⟨_,_⟩ ⟨c,hc,by rw [hi]; exact ⟨h.1,h.2.1,rfl⟩⟩ h.2.2
   | callA sz f dn l=>
    rw [hi] at h;obtain ⟨h1,h2,xs,h3,h4⟩:=h;exact next ⟨_,_⟩ ⟨c,hc,by rw [hi]; exact ⟨h1,h2,xs,h3,rfl⟩⟩ h4
   | mnew=>rw [hi] at h; exact next ⟨_,_⟩ ⟨c,hc,by rw [hi]; exact ⟨h.1,rfl⟩⟩ h.2
   | mksl m sz bytes z n k=>rw [hi] at h; exact next ⟨_,_⟩ ⟨c,hc,by rw [hi]; exact ⟨h.1,h.2.1,h.2.2.1,h.2.2.2.1,rfl⟩⟩ h.2.2.2.2
   | store sz x v=>
    rw [hi] at h;obtain ⟨h1,h2,h3,h4⟩:=h
    cases hw:jf σ (opv e v) (opv e x) with
    | none=>rw [hw] at h4; exact h4.elim
    | some f=>rw [hw] at h4; exact next ⟨.undef,f⟩ ⟨c,hc,by rw [hi]; exact ⟨h1,h2,h3,rfl,hw⟩⟩ h4
   | append sz bytes x y=>
    rw [hi] at h;obtain ⟨h1,h2,h3⟩:=h;obtain ⟨ys,b,o',v,q1,q2,q3,q4,q5,q6,q7,q8⟩:=iW h3;exact next ⟨_,_⟩ ⟨c,hc,by rw [hi]; exact ⟨h1,h2,q8 _ rfl⟩⟩ q6
   | lit m sz n ps=>
    rw [hi] at h;by_cases hm:m = 0
    ·simp only [if_pos hm] at h;exact next ⟨_, .no⟩ ⟨c,hc,by rw [hi]; simp only [if_pos hm]; exact ⟨h.1,rfl⟩⟩ h.2
    ·by_cases hm1:m = 1
     ·simp only [if_neg hm,if_pos hm1] at h;exact next ⟨_,_⟩ ⟨c,hc,by rw [hi]; simp only [if_neg hm,if_pos hm1]; exact ⟨h.1,h.2.1,h.2.2.1,rfl⟩⟩ h.2.2.2
     ·simp only [if_neg hm,if_neg hm1] at h;exact next ⟨_,_⟩ ⟨c,hc,by rw [hi]; simp only [if_neg hm,if_neg hm1]; exact ⟨h.1,h.2.1,h.2.2.1,h.2.2.2.1,rfl⟩⟩ h.2.2.2.2
   | load k x=>rw [hi] at h; exact next ⟨_,du e (.load k x)⟩ ⟨c,hc,by rw [hi]; exact ⟨h.1,h.2.1,rfl⟩⟩ (by rw [nz]; exact h.2.2)
   | lookup ok z x i=>rw [hi] at h; exact next ⟨_,du e (.lookup ok z x i)⟩ ⟨c,hc,by rw [hi]; exact ⟨h.1,h.2.1,rfl⟩⟩ (by rw [nz]; exact h.2.2)
   | _=>rw [hi] at h; exact next ⟨_, .no⟩ ⟨c,hc,by rw [hi]; exact ⟨h.1,h.2.1,rfl⟩⟩ h.2.2
open Go.RowKit
def oT:List ay → List Nat
 | []=>[]
 | .t n :: r=>n :: oT r
 | _ :: r=>oT r
def AI.bH:AI → List ay
 | .pick c a b=>[c,a,b]
 | i=>i.opers
def bb (o:au):List Nat:=oT o.i.bH ++ (match o.g with
 | some gd=>[gd.1]
 | none=>[])
theorem hY:∀ {l:List ay} {n:Nat},ay.t n ∈ l → n ∈ oT l
 | .t m :: r,n,h=>by
  rcases List.mem_cons.1 h with h | h
  ·cases h; exact List.mem_cons_self
  ·exact List.mem_cons_of_mem _ (hY h)
 | .c v :: r,n,h=>by
  rcases List.mem_cons.1 h with h | h
  ·cases h
  ·exact hY (l:=r) h
 | .f m :: r,n,h=>by
  rcases List.mem_cons.1 h with h | h
  ·cases h
  ·exact hY (l:=r) h
def bl.reads:bl → Nat → Prop
 | .rd l,b=>b ∈ l
 | _,_=>False
def bl.jG (n:Nat) (H:ab):bl → ab
 | .al o=>H.set n o
 | .wr b o=>H.set b o
 | _=>H
theorem j5 {e:Env} {i:AI} {n:Nat} {σ:ab}:(du e i).jG n σ = σ:=by
 have h:∀ v,(ie v).jG n σ = σ:=fun v=>by cases v <;> rfl
 cases i <;> first | rfl | exact h _
theorem nh {l:List aa} {n:Nat} {σ τ:ab}:(rdL τ l).jG n σ = σ:=by unfold rdL; split <;> rfl
theorem lC {e:Env} {i:AI} {b:Nat} {o:bO}:du e i ≠ .wr b o:=by
 have h:∀ v,ie v ≠ .wr b o:=fun v=>by cases v <;> simp [ie]
 cases i <;> first | exact h _ | simp [du]
theorem rK {l:List aa} {b:Nat} {o:bO} {τ:ab}:rdL τ l ≠ .wr b o:=by unfold rdL; split <;> simp
section
variable {P:Program} {s:St} {A:World} {N:Nat} {fr:Fr} {a:Act}
theorem lJ {e e':Env} {l:List ay} (h:∀ n ∈ oT l,e'.get n = e.get n):∀ x ∈ l,opv e' x = opv e x ∧ opg e' x = opg e x:=by
 intro x hx
 cases x with
 | t n=>have:=h n (hY hx); simp [opv,opg,this]
 | c v=>exact ⟨rfl,rfl⟩
 | f n=>exact ⟨rfl,rfl⟩
theorem cd {e e':Env}:∀ {l:List ay},(∀ x ∈ l,opv e' x = opv e x ∧ opg e' x = opg e x) → bG e l → bG e' l
 | [],_,h=>h
 | x :: r,hs,h=>⟨(hs x (by simp)).2.trans h.1,cd (fun y hy=>hs y (by simp [hy])) h.2⟩
theorem ab.bf {σ:ab} {b:Nat} (h:σ.get b ≠ .dead):b < σ.length:=by
 rcases Nat.lt_or_ge b σ.length with h' | h'
 ·exact h'
 ·exact absurd (by simp [ab.get,List.getD,List.getElem?_eq_none h']) h
theorem qd {k:Option Nat} {σ H:ab} {v:aa} (ho:cB k σ v) (h:∀ b,(ie v).reads b → b < σ.length → H.get b = σ.get b):cB k H v ∧ fU k H v = fU k σ v:=by
 cases v with
 | ptr b off=>
  have hb:b < σ.length:=by
   apply ab.bf; intro e; simp only [cB,e] at ho
  have:=h b (by simp [ie,bl.reads]) hb;simp only [cB,fU,this] at ho ⊢; exact ⟨ho,trivial⟩
 | eptr sz b i f n=>
  have hb:b < σ.length:=by
   apply ab.bf; intro e; simp only [cB,e] at ho
  have:=h b (by simp [ie,bl.reads]) hb;simp only [cB,fU,this] at ho ⊢; exact ⟨ho,trivial⟩
 | pval v=>exact ⟨ho,rfl⟩
 | _=>exact ho.elim
theorem l6 {ok:Bool} {z:aa} {ρ:ay → aa} {x i:ay} {σ H:ab} (ho:(AI.lookup ok z x i).side ρ σ) (h:∀ b,(ie (ρ x)).reads b → b < σ.length → H.get b = σ.get b) :
  (AI.lookup ok z x i).side ρ H ∧ (AI.lookup ok z x i).val ρ H = (AI.lookup ok z x i).val ρ σ:=by
 simp only [AI.side,AI.val] at ho ⊢
 cases hx:ρ x with
 | map b=>
  rw [hx] at ho h;have hb:b < σ.length:=by
   apply ab.bf; intro e; simp only [e] at ho
  have:=h b (by simp [ie,bl.reads]) hb;simp only [this] at ho ⊢; exact ⟨ho,trivial⟩
 | _=>rw [hx] at ho; exact ho.elim
theorem gH {e e':Env} {σ H:ab} {i:AI} {o:Op} (hc:aK P i o = true) (hq:i.quiet = true) (hop:∀ x ∈ i.bH,opv e' x = opv e x ∧ opg e' x = opg e x) (hs:ed e σ i)
  (hH:∀ b,(du e i).reads b → b < σ.length → H.get b = σ.get b):ed e' H i ∧ bZ e' H i = bZ e σ i:=by
 by_cases hp:∃ c x y,i = .pick c x y
 ·obtain ⟨c,x,y,rfl⟩:=hp;simp only [AI.bH,List.mem_cons,List.not_mem_nil,or_false,forall_eq_or_imp,forall_eq] at hop;obtain ⟨⟨h1,h2⟩,⟨h3,h4⟩,⟨h5,h6⟩⟩:=hop;simp only [ed,bZ,h1,h2,h3,h4,h5,h6] at hs ⊢;exact ⟨hs,trivial⟩
 ·have hd:i.bH = i.opers:=by cases i <;> first | rfl | exact absurd ⟨_,_,_,rfl⟩ hp
  rw [hd] at hop;have hval:∀ e σ,bZ e σ i = i.val (opv e) σ:=fun e σ=>by cases i <;> first | rfl | exact absurd ⟨_,_,_,rfl⟩ hp
  have hsd:∀ e σ,ed e σ i ↔ (bG e i.opers ∧ i.side (opv e) σ):=fun e σ=>by cases i <;> first | exact Iff.rfl | exact absurd ⟨_,_,_,rfl⟩ hp
  rw [hsd] at hs ⊢;rw [hval,hval];have hcg:=AI.congr (σ:=H) (i:=i) (ρ:=opv e') (ρ₂:=opv e) (fun x hx=>(hop x hx).1);rw [hcg.1,hcg.2];refine ⟨⟨cd hop hs.1, ?_⟩, ?_⟩
  ·cases i with
   | load k x=>exact (qd hs.2 hH).1
   | lookup ok z x i=>exact (l6 hs.2 hH).1
   | _=>first | exact hs.2 | (simp [AI.quiet,AI.plain] at hq)
  ·cases i with
   | load k x=>exact (qd hs.2 hH).2
   | lookup ok z x i=>exact (l6 hs.2 hH).2
   | _=>rfl
theorem J0 {K Kp:aa → ab → Prop} (hi:Inv A s) {b:Nat} (hb:s.h[b]? = some .hole) {t:TypeId} {v:aa} {c:Value} {n:Nat} (hv:Rv s v c) (hn:aY v n) (h:K (.ptr b 0) (s.h.set b (.box v.cells))) :
  ar P A s K Kp ((do pure (Next.value (← Instr.box t c)):Sem Next).run P s.w):=by
 obtain ⟨c1,c2,c3⟩:=bQ hv hn;obtain ⟨s3,f1,f2,i3,g3,r3,_⟩:=hi.jD hb (cs:=v.cells) (vs:=c.cells) t (by omega) (fun j h1 h2=>c3 j h1 h2);have hrun:(Instr.box t c).run P s.w = .ok (.pointer (some ⟨s.w.heap.size,0,none⟩)) (s.w.alloc (.cells c.cells t)):=by
  simp [Instr.box,newVar,newRow]
 exact ar.value (aj _ _ _ _ hrun) f2 i3 g3 r3 (by rw [f1]; exact h)
theorem il:∀ {z:List aa},eB z = true → z.map aa.fm = z
 | [],_=>rfl
 | v :: r,h=>by
  have h2:eB r = true ∧ v.fm = v:=by cases v <;> first | exact ⟨h,rfl⟩ | (simp [eB] at h)
  rw [List.map_cons,h2.2,il h2.1]
theorem Gt {K Kp:aa → ab → Prop} (hi:Inv A s) {b:Nat} (hb:s.h[b]? = some .hole) {t:TypeId} {z:List aa} (hz:dz P t (z.map aa.fm) = true) (hm:eB z = true)
  (h:K (.ptr b 0) (s.h.set b (.box z))):ar P A s K Kp ((do pure (Next.value (← Instr.alloc t true (.tuple #[]))):Sem Next).run P s.w):=by
 rw [il hm] at hz;unfold dz at hz
 cases hinfo:P.info? t with
 | none=>simp [hinfo] at hz
 | some i=>
  cases hzero:i.zero with
  | none=>simp [hinfo,hzero] at hz
  | some v=>
   simp only [hinfo,Option.bind_some,hzero] at hz
   obtain ⟨s3,f1,f2,i3,g3,r3,_⟩:=hi.jD hb (cs:=z) (vs:=v.cells) t (by simpa using eU hz) (fun j h1 h2=>by
    have:=fw (s:=s) hz j h1 (by simpa using h2)
    simpa using this)
   have hrun:(Instr.alloc t true (.tuple #[])).run P s.w = .ok (.pointer (some ⟨s.w.heap.size,0,none⟩)) (s.w.alloc (.cells v.cells t)):=by
    simp [Instr.alloc,zeroValue,typeInfo,hinfo,hzero,newVar,newRow]
   exact ar.value (aj _ _ _ _ hrun) f2 i3 g3 r3 (by rw [f1]; exact h)
theorem Lf {ρ:ay → aa} {ρ':Operand → Value} {K Kp:aa → ab → Prop} (hi:Inv A s) {b:Nat} (hb:s.h[b]? = some .hole) {m sz n:Nat} {ps:List (Nat × ay)} {t:TypeId} {parts:Array (Nat × Operand)} (ha:dP s ρ ρ') (hc:aK P (.lit m sz n ps) (.buildSlice t n parts) = true)
  (ho:ee sz n ρ ps) (h:K (.sref sz b 0 n n) (s.h.set b (.arr sz (cZ ρ (List.replicate n .undef) ps)))) :
  ar P A s K Kp ((do pure (Next.value (← Instr.buildSlice t n (parts.map fun x=>(x.1,ρ' x.2)))):Sem Next).run P s.w):=by
 simp only [aK] at hc
 cases hu:P.underlying t with
 | none=>simp [hu] at hc
 | some d=>
  cases d with
  | slice e=>
   simp only [hu,Bool.and_eq_true,beq_iff_eq,decide_eq_true_eq] at hc;obtain ⟨⟨⟨⟨⟨⟨rfl,hinf⟩,_⟩,hbig⟩,hpos⟩,hzs⟩,hp⟩:=hc;obtain ⟨i,hinfo⟩:=Option.isSome_iff_exists.1 hinf;unfold jh at hzs
   cases hzero:i.zero with
   | none=>simp [hinfo,hzero] at hzs
   | some zv=>
    simp only [hinfo,Option.bind_some,hzero,beq_iff_eq] at hzs;generalize hsz:P.cellsOf e = sz at *;have hz0:bV s sz (List.replicate n .undef) (List.replicate n zv) ((Array.range (n * sz)).map (zv.cells[· % zv.cells.size]!)):=by
     refine ⟨by simp,fun i h1 h2=>⟨by simpa using Rv.undef _,by simp [hzs]⟩,fun i j h2 hj=>?_⟩;simp only [List.getElem_replicate] at hj ⊢;have hin:i < n:=by simpa using h2
     have:i * sz + j < n * sz:=bY hin (by omega);have hmod:(i * sz + j) % zv.cells.size = j:=by rw [hzs,Nat.mul_comm,Nat.mul_add_mod]; exact Nat.mod_eq_of_lt (by omega)
     simp [this,hmod,hj]
    obtain ⟨us',C',f1,f2,f3,f4⟩:=jr (s:=s) (ρ:=ρ) (ρ':=ρ') (n:=n) rfl (ps:=ps) (qs:=parts.toList) ha hp ho (by simp) (by simp) hz0;have hlist:(parts.map fun x=>(x.1,ρ' x.2)).toList = parts.toList.map fun x=>(x.1,ρ' x.2):=by simp
    have hrun:(Instr.buildSlice t n (parts.map fun x=>(x.1,ρ' x.2))).run P s.w = .ok (.slice (some ⟨s.w.heap.size,0,none⟩) n n) (s.w.alloc (.cells C' e)):=by
     unfold Instr.buildSlice;simp only [Sem.run_bind,ah hu,Result.andThen_ok,aG hinf,hsz];rw [if_neg (by omega)];by_cases hn0:n * sz = 0
     ·have hn:n = 0:=by rcases Nat.mul_eq_zero.1 hn0 with h | h <;> omega
      subst hn;have hmap:∀ g:Nat → Value,(Array.range (0 * sz)).map g = #[]:=fun g=>by apply Array.ext'; simp
      rw [hmap] at f1;rw [if_pos hn0,Sem.run_bind,Sem.run_pure,Result.andThen_ok,hmap,hlist,f1];simp [newRow]
     ·rw [if_neg hn0];simp [zeroValue,typeInfo,hinfo,hzero,f1,newRow]
    generalize hxs:cZ ρ (List.replicate n .undef) ps = xs at *;have hlen:xs.length = n:=f4;obtain ⟨s3,b1,b2,i3,g3,r3⟩:=hi.jc hb e n (by omega) f2 f3 (Nat.le_trans (Nat.le_mul_of_pos_right n hpos) (Nat.le_trans hbig (by decide)));rw [hlen] at r3;exact ar.value (aj _ _ _ _ hrun) b2 i3 g3 r3 (by rw [b1]; exact h)
  | _=>simp [hu] at hc
theorem H4 {ρ:ay → aa} {ρ':Operand → Value} {K Kp:aa → ab → Prop} (hi:Inv A s) {b:Nat} (hb:s.h[b]? = some .hole) {m sz n:Nat} {ps:List (Nat × ay)} {t:TypeId} {parts:Array (Nat × Operand)} (ha:dP s ρ ρ') (hc:aK P (.lit m sz n ps) (.buildSlice t n parts) = true)
  (ho:ee sz n ρ ps) (h:K (.oslice sz (cZ ρ (List.replicate n .undef) ps) b 0) (s.h.set b (.spare sz 0))) :
  ar P A s K Kp ((do pure (Next.value (← Instr.buildSlice t n (parts.map fun x=>(x.1,ρ' x.2)))):Sem Next).run P s.w):=by
 simp only [aK] at hc
 cases hu:P.underlying t with
 | none=>simp [hu] at hc
 | some d=>
  cases d with
  | slice e=>
   simp only [hu,Bool.and_eq_true,beq_iff_eq,decide_eq_true_eq] at hc;obtain ⟨⟨⟨⟨⟨⟨rfl,hinf⟩,_⟩,hbig⟩,hpos⟩,hzs⟩,hp⟩:=hc;obtain ⟨i,hinfo⟩:=Option.isSome_iff_exists.1 hinf;unfold jh at hzs
   cases hzero:i.zero with
   | none=>simp [hinfo,hzero] at hzs
   | some zv=>
    simp only [hinfo,Option.bind_some,hzero,beq_iff_eq] at hzs;generalize hsz:P.cellsOf e = sz at *;have hz0:bV s sz (List.replicate n .undef) (List.replicate n zv) ((Array.range (n * sz)).map (zv.cells[· % zv.cells.size]!)):=by
     refine ⟨by simp,fun i h1 h2=>⟨by simpa using Rv.undef _,by simp [hzs]⟩,fun i j h2 hj=>?_⟩;simp only [List.getElem_replicate] at hj ⊢;have hin:i < n:=by simpa using h2
     have:i * sz + j < n * sz:=bY hin (by omega);have hmod:(i * sz + j) % zv.cells.size = j:=by rw [hzs,Nat.mul_comm,Nat.mul_add_mod]; exact Nat.mod_eq_of_lt (by omega)
     simp [this,hmod,hj]
    obtain ⟨us',C',f1,f2,f3,f4⟩:=jr (s:=s) (ρ:=ρ) (ρ':=ρ') (n:=n) rfl (ps:=ps) (qs:=parts.toList) ha hp ho (by simp) (by simp) hz0;have hlist:(parts.map fun x=>(x.1,ρ' x.2)).toList = parts.toList.map fun x=>(x.1,ρ' x.2):=by simp
    have hrun:(Instr.buildSlice t n (parts.map fun x=>(x.1,ρ' x.2))).run P s.w = .ok (.slice (some ⟨s.w.heap.size,0,none⟩) n n) (s.w.alloc (.cells C' e)):=by
     unfold Instr.buildSlice;simp only [Sem.run_bind,ah hu,Result.andThen_ok,aG hinf,hsz];rw [if_neg (by omega)];by_cases hn0:n * sz = 0
     ·have hn:n = 0:=by rcases Nat.mul_eq_zero.1 hn0 with h | h <;> omega
      subst hn;have hmap:∀ g:Nat → Value,(Array.range (0 * sz)).map g = #[]:=fun g=>by apply Array.ext'; simp
      rw [hmap] at f1;rw [if_pos hn0,Sem.run_bind,Sem.run_pure,Result.andThen_ok,hmap,hlist,f1];simp [newRow]
     ·rw [if_neg hn0];simp [zeroValue,typeInfo,hinfo,hzero,f1,newRow]
    generalize hxs:cZ ρ (List.replicate n .undef) ps = xs at *;have hlen:xs.length = n:=f4;obtain ⟨s1,e1,e2,e3,i1,g1,r1,_⟩:=hi.zH e n (by omega) f3;rw [hlen] at r1;obtain ⟨s3,b1,b2,i3,g3,k3,_⟩:=i1.dE (b:=b) (by rw [e1]; exact hb) sz (some ⟨s.w.heap.size,0,none⟩) n;refine ar.value (aj _ _ _ _ hrun) (b2.trans e3) i3 (g1.trans g3) (v:=.oslice sz xs b 0) (.oslice _ _ _ _ _ (r1.keeps g3.keeps) k3) ?_;rw [b1,e1]; exact h
  | _=>simp [hu] at hc
theorem ud:∀ {l:List ay} {m:List Operand},dh l m = true → ∀ x ∈ l, ∃ y,aD x y = true
 | [],[],_,x,hx=>by cases hx
 | a :: r,b :: t,h,x,hx=>by
  simp only [dh,Bool.and_eq_true] at h;rcases List.mem_cons.1 hx with rfl | hx
  ·exact ⟨b,h.1⟩
  ·exact ud h.2 x hx
 | [],_ :: _,h,_,_=>by simp [dh] at h
 | _ :: _,[],h,_,_=>by simp [dh] at h
theorem bK.named (hf:bK s N fr a) {x:ay} (hy:∃ y,aD x y = true) (hg:opg fr.v x = true):∀ b ∈ (opv fr.v x).cw, ∃ k u,s.lam b k = some u:=
 let ⟨_,h⟩:=hy; (hf.opr h hg).cw
theorem nA {e:Env}:∀ {l:List ay},bG e l → ∀ x ∈ l,opg e x = true
 | a :: r,h,x,hx=>by
  rcases List.mem_cons.1 hx with rfl | hx
  ·exact h.1
  ·exact nA h.2 x hx
theorem mN {v:aa} {b:Nat} (h:(ie v).reads b):b ∈ v.cw:=by
 cases v <;> simp [ie,bl.reads] at h <;> simp [aa.cw,h]
theorem Inv.JN (hi:Inv A s) {n:Nat} (hb:s.h[n]? = some .hole) (hl:s.h.length = n + 1):∃ s',s'.h = s.h.take n ∧ s'.h.length = n ∧ s'.w = s.w ∧ Inv A s' ∧ aT s s':=by
 let s':St:={ s with h:=s.h.take n }
 have hlen:s'.h.length = n:=by simp [s',hl]
 have hget:∀ b o,s'.h[b]? = some o → s.h[b]? = some o:=fun b o h=>by
  have hlt:b < n:=by
   rcases Nat.lt_or_ge b n with h' | h'
   ·exact h'
   ·rw [List.getElem?_eq_none (by rw [hlen]; exact h')] at h; cases h
  simpa [s',List.getElem?_take,hlt] using h
 have hk:aL s s':=⟨fun _ _ _ h=>h,fun _ _ h=>h,fun _ _ _=>rfl⟩;have hown:∀ b o blk,bu s' b o blk → bu s b o blk:=fun b o blk h=>by cases o <;> exact h
 refine ⟨s',rfl,hlen,rfl,⟨hi.below,fun b o h=>(hi.obj b o (hget b o h)).keep hk (fun _ _=>rfl) (fun _ _ _ h=>h) (fun _=>rfl),fun b b' o o' blk h1 h2 w1 w2=>hi.excl b b' o o' blk (hget _ _ h1) (hget _ _ h2) (hown _ _ _ w1) (hown _ _ _ w2),fun b k h=>?_,hi.scell,hi.laid⟩,
  ⟨hk,Nat.le_refl _,fun _ _ _=>rfl,fun blk ⟨b,o,h1,h2⟩=>.inr ⟨b,o,hget _ _ h1,hown _ _ _ h2⟩,fun _ _ h=>.inl h⟩⟩
 rw [hlen] at h;rcases Nat.lt_or_ge b (n + 1) with h' | h'
 ·have:b = n:=by omega
  subst this;exact hi.obj b _ hb k
 ·exact hi.fresh b k (by omega)
theorem po {ops:Array Oper} {ro:Option Nat} {i:Nat} {o:Oper} {ao:au} (ho:ops[i]? = some o) (hcG:my ops ao.g o.guard = true) (hcI:aK P ao.i o.op = true)
  (hi:Inv A s) (hf:bK s N fr a) {e:Env} {σ:ab} {q:DR} (hst:lS P ao e σ q) (hop:∀ x ∈ bb ao,fr.v.get x = e.get x)
  (hrd:∀ b,q.e.reads b → b < σ.length → (∃ k u,s.lam b k = some u) → s.h.get b = σ.get b)
  (hwr:∀ b o',q.e = .wr b o' → b < σ.length → (∃ k u,s.lam b k = some u) → s.h.get b = σ.get b)
  (hal:∀ o',q.e = .al o' → s.h[σ.length]? = some .hole) (hlast:∀ sz f dn l,ao.i = .callA sz f dn l → s.h.length = σ.length + 1) {K:Act → World → Prop} {Q:Exit → Act → World → Prop}
  (hK:∀ c s',Inv A s' → aT s s' → s'.h = q.e.jG σ.length s.h → Rv s' q.v c → (∀ b o',q.e = .wr b o' → b < σ.length ∧ ∃ k u,s.lam b k = some u) → K (a.put o.dst c) s'.w) :
  wpOpIn (Fro ro) 0 P ops Q i K a s.w:=by
 obtain ⟨c,hgc,h⟩:=hst;have hne:=dW hcI;have hops:=lJ (l:=ao.i.bH) (e:=e) (e':=fr.v) (fun n hn=>hop n (by unfold bb; exact List.mem_append_left _ hn))
 -- the guard
 have hw:(Region.wanted o (yielded ops a.tmps)) = c:=by
  cases hag:ao.g with
  | none=>
   rw [hag] at hcG hgc;have hgn:o.guard = none:=by cases hgu:o.guard with
    | none=>rfl
    | some x=>rw [hgu] at hcG; simp [my] at hcG
   simp only [cm,Option.some.injEq] at hgc;simp [Region.wanted,hgn,hgc]
  | some gd=>
   rw [hag] at hcG hgc;refine eV hf hcG (g:=c) ?_;have:=hop gd.1 (by simp [bb,hag]);simp only [cm,cH] at hgc ⊢;rw [this]; exact hgc
 unfold wpOpIn;rw [ho];simp only [hw]
 -- what runs
 have run:c = true → (∀ K':aa → ab → Prop,(∀ v,K' v (q.e.jG σ.length s.h) → True) → True):=fun _ _ _=>trivial
 have go:∀ (v:aa),q.v = eJ ao.g true v → (∀ b o',q.e = .wr b o' → b < σ.length ∧ ∃ k u,s.lam b k = some u) →
   ar P A s (fun v' σ'=>v' = v ∧ σ' = q.e.jG σ.length s.h) (fun _ _=>False) ((execOp a.eval o).run P s.w) → o.wpIn (Fro ro) 0 P a s.w K Q:=by
  intro v hqv hlam hso;refine ⟨fun _ _=>trivial, ?_⟩;rw [Oper.semAt_eq _ _ _ hne];refine fT hso (fun v' cc s' h1 h2 h3 h4=>hK cc s' h1 h2 h4.2 ?_ hlam) (fun _ _ _ _ _ _ h4=>h4.elim);rw [hqv];have:=h3; rw [h4.1] at this;unfold eJ; split
  ·exact this
  ·exact .optT _ _ this
 have quiet:ao.i.quiet = true → (c = true → ed e σ ao.i) → q = ⟨eJ ao.g c (bZ e σ ao.i),du e ao.i⟩ → (if c = true then o.wpIn (Fro ro) 0 P a s.w K Q else (∀ f,o.about P s.w a.eval = some f → (Fro ro).fn f) ∧ K (a.put o.dst undef) s.w):=by
  intro hq hs hqe
  cases c with
  | false=>
   simp only [Bool.false_eq_true,if_false];refine ⟨fun _ _=>trivial,hK _ s hi (.refl s) ?_ ?_ ?_⟩
   ·rw [hqe]; exact j5.symm
   ·rw [hqe];unfold eJ; split
    ·rename_i hg; rw [hg] at hgc; simp [cm] at hgc
    ·exact .optF _
   ·rw [hqe]; intro b o' hh; exact absurd hh lC
  | true=>
   simp only [if_true];have hs:=hs rfl
   -- what it reads is there
   have hH:∀ b,(du e ao.i).reads b → b < σ.length → s.h.get b = σ.get b:=by
    intro b hb hlt;refine hrd b (by rw [hqe]; exact hb) hlt ?_
    cases hai:ao.i with
    | load k x=>
     rw [hai] at hb hs hops hcI;have hx:=hops x (by simp [AI.bH,AI.opers]);have hy:∃ y,aD x y = true:=by
      generalize o.op = op at hcI;cases op <;> simp [aK] at hcI;exact ⟨_,hcI.2⟩
     have hg:opg fr.v x = true:=hx.2.trans hs.1.1;refine hf.named hy hg b ?_;rw [hx.1]; exact mN hb
    | lookup ok z x i=>
     rw [hai] at hb hs hops hcI;have hx:=hops x (by simp [AI.bH,AI.opers]);have hy:∃ y,aD x y = true:=by
      generalize o.op = op at hcI;cases op <;> simp only [aK] at hcI <;> first | (cases hcI; done) | skip
      split at hcI
      ·simp only [Bool.and_eq_true] at hcI; exact ⟨_,hcI.1.2⟩
      ·cases hcI
     have hg:opg fr.v x = true:=hx.2.trans hs.1.1;refine hf.named hy hg b ?_;rw [hx.1]; exact mN hb
    | _=>rw [hai] at hb; exact hb.elim
   have hqc:=gH hcI hq hops hs hH;obtain ⟨cc,e1,e2⟩:=eF hi hf hcI hq hqc.1;refine go (bZ e σ ao.i) (by rw [hqe]) (by rw [hqe]; intro b o' hh; exact absurd hh lC) (ar.value e1 rfl hi (.refl s) e2 ⟨hqc.2, ?_⟩);rw [hqe]; exact j5.symm
 cases hai:ao.i with
 | call f dn l=>
  rw [hai] at h;obtain ⟨h1,v,h2,h3⟩:=h
  cases c with
  | false=>
   simp only [Bool.false_eq_true,if_false];refine ⟨fun _ _=>trivial,hK _ s hi (.refl s) ?_ ?_ ?_⟩
   ·rw [h1]; exact nh.symm
   ·rw [h2];unfold eJ; split
    ·rename_i hg; rw [hg] at hgc; simp [cm] at hgc
    ·exact .optF _
   ·rw [h1]; intro b o' hh; exact absurd hh rK
  | true=>
   simp only [if_true];obtain ⟨hn,hcall⟩:=h3 rfl;have hops':∀ x ∈ (f :: l),opv fr.v x = opv e x ∧ opg fr.v x = opg e x:=fun x hx=>hops x (by rw [hai]; exact hx)
   have hn':=cd hops' hn;have hy:∀ x ∈ (f :: l), ∃ y,aD x y = true:=by
    rw [hai] at hcI;generalize o.op = op at hcI;cases op <;> simp only [aK] at hcI <;> first | (cases hcI; done) | skip
    rename_i cc;obtain ⟨cal,args,tys⟩:=cc;simp only at hcI
    split at hcI
    ·simp only [Bool.and_eq_true] at hcI;intro x hx;rcases List.mem_cons.1 hx with rfl | hx
     ·exact ⟨_,hcI.1⟩
     ·exact ud hcI.2 x hx
    ·cases hcI
   have hmap:(opv fr.v f :: l.map (opv fr.v)) = (opv e f :: l.map (opv e)):=by
    rw [(hops' f (by simp)).1]; congr 1;exact List.map_congr_left fun x hx=>(hops' x (by simp [hx])).1
   have hmap1:opv fr.v f = opv e f:=(List.cons.inj hmap).1;have hmap2:l.map (opv fr.v) = l.map (opv e):=(List.cons.inj hmap).2;have hbl:∀ b ∈ iO σ (opv e f :: l.map (opv e)),b < σ.length → s.h.get b = σ.get b:=by
    by_cases hp:cF (opv e f :: l.map (opv e)) = true
    ·intro b hb; rw [iO,dF hp] at hb; cases hb
    have hsub:∀ b,b ∈ iO σ (opv e f :: l.map (opv e)) → q.e.reads b:=fun b hb=>by rw [h1,rdL,if_neg hp]; exact hb
    have hnam:∀ b ∈ dY (opv e f :: l.map (opv e)), ∃ k u,s.lam b k = some u:=by
     intro b hb;rw [← hmap] at hb;have:∃ x ∈ (f :: l),b ∈ (opv fr.v x).cw:=by
      obtain ⟨j,g1,g2⟩:=dN.1 hb
      cases j with
      | zero=>exact ⟨f,by simp,g2⟩
      | succ j=>exact ⟨l[j]'(by simpa using g1),by simp,by simpa using g2⟩
     obtain ⟨x,hx,hxb⟩:=this;exact hf.named (hy x hx) (nA hn' x hx) b hxb
    have h1st:∀ b ∈ dY (opv e f :: l.map (opv e)),b < σ.length → s.h.get b = σ.get b:=fun b hb hlt=>
     hrd b (hsub b (List.mem_append.2 (.inl hb))) hlt (hnam b hb)
    intro b hb hlt;rcases List.mem_append.1 hb with hb1 | hb1
    ·exact h1st b hb1 hlt
    ·obtain ⟨b0,hb0,hb2⟩:=List.mem_flatMap.1 hb1
     cases hg:σ.get b0 with
     | box cs=>
      rw [hg] at hb2;have hlt0:b0 < σ.length:=ab.bf (by rw [hg]; simp);have hs0:=h1st b0 hb0 hlt0;rw [hg] at hs0;obtain ⟨blk,vs,el,g1,g2,g3,g4,g5,g6⟩:=hi.obj b0 _ (ab.get_some hs0 (by simp));obtain ⟨jj,k1,k2⟩:=dN.1 hb2;exact hrd b (hsub b hb) hlt ((g5 jj k1 (by omega)).cw b k2)
     | _=>rw [hg] at hb2; cases hb2
   refine go v (by rw [h2]) (by rw [h1]; intro b o' hh; exact absurd hh rK) (cQ hi hf hcI ?_);rw [hai];refine ⟨hn', ?_⟩;show bp P (opv fr.v f) (aU dn (l.map (opv fr.v))) s.h _
   rw [hmap1,hmap2];refine (hcall s.h hbl).mono ?_;rintro r σ' ⟨rfl,rfl⟩;exact ⟨rfl,by rw [h1]; exact nh.symm⟩
 | box n x=>
  rw [hai] at h hops;obtain ⟨h1,h2,h3,rfl⟩:=h;rw [h1] at hgc; simp only [cm,Option.some.injEq] at hgc; subst hgc;simp only [if_true];have hx:=hops x (by simp [AI.bH,AI.opers]);refine go (.ptr σ.length 0) (by rw [h1]; rfl) (by intro b o' hh; cases hh) ?_;obtain ⟨dst,op,type,pos,after,guard⟩:=o;rw [hai] at hcI;simp only at hcI;cases op <;> simp only [aK] at hcI <;> first | (cases hcI; done) | skip
  simp only [Bool.and_eq_true,beq_iff_eq] at hcI;have hv:=hf.opr hcI.2 (hx.2.trans h2.1);rw [hx.1] at hv;exact J0 hi (hal _ rfl) hv h3 ⟨rfl,rfl⟩
 | alloc z=>
  rw [hai] at h;obtain ⟨h1,h2,rfl⟩:=h;rw [h1] at hgc; simp only [cm,Option.some.injEq] at hgc; subst hgc;simp only [if_true];refine go (.ptr σ.length 0) (by rw [h1]; rfl) (by intro b o' hh; cases hh) ?_;obtain ⟨dst,op,type,pos,after,guard⟩:=o;rw [hai] at hcI;simp only at hcI;cases op <;> simp only [aK] at hcI <;> first | (cases hcI; done) | skip
  exact Gt hi (hal _ rfl) hcI h2 ⟨rfl,rfl⟩
 | callA sz f dn l=>
  rw [hai] at h hops;obtain ⟨h1,h2,xs,h3,rfl⟩:=h;rw [h1] at hgc; simp only [cm,Option.some.injEq] at hgc; subst hgc;simp only [if_true];have hops':∀ x ∈ (f :: l),opv fr.v x = opv e x ∧ opg fr.v x = opg e x:=fun x hx=>hops x hx
  have hn':=cd hops' h2;have hmap1:opv fr.v f = opv e f:=(hops' f (by simp)).1;have hmap2:l.map (opv fr.v) = l.map (opv e):=List.map_congr_left fun x hx=>(hops' x (by simp [hx])).1
  have hb:=hal _ rfl;obtain ⟨s1,e1,e1',e2,i1,g1⟩:=hi.JN hb (hlast _ _ _ _ hai);have hcI':aK P (.call f dn l) o.op = true:=by rw [hai] at hcI; exact hcI
  refine go (.oslice sz xs σ.length 1) (by rw [h1]; rfl) (by intro b o' hh; cases hh) ?_;rw [← e2];refine ar.from g1 (cQ i1 (hf.keeps g1.keeps) hcI' ⟨hn', ?_⟩)
  show bp P (opv fr.v f) (aU dn (l.map (opv fr.v))) s1.h _
  rw [hmap1,hmap2];refine (h3 s1.h).mono ?_;rintro r σ' ⟨rfl,rfl⟩;rw [e1'];refine ⟨rfl, ?_⟩;show s1.h ++ [.spare sz 1] = s.h.set σ.length (.spare sz 1)
  rw [e1];have hlen:=hlast _ _ _ _ hai;apply List.ext_getElem?;intro j;rcases Nat.lt_trichotomy j σ.length with hj | hj | hj
  ·rw [List.getElem?_append_left (by simp; omega),List.getElem?_set_ne (by omega),List.getElem?_take,if_pos hj]
  ·subst hj;rw [List.getElem?_append_right (by simp; omega),List.getElem?_set_self (by omega)];simp [hlen]
  ·rw [List.getElem?_eq_none (by simp; omega),List.getElem?_eq_none (by simp; omega)]
 | mnew=>
  rw [hai] at h;obtain ⟨h1,rfl⟩:=h;rw [h1] at hgc; simp only [cm,Option.some.injEq] at hgc; subst hgc;simp only [if_true];refine go (.map σ.length) (by rw [h1]; rfl) (by intro b o' hh; cases hh) ?_;obtain ⟨dst,op,type,pos,after,guard⟩:=o;rw [hai] at hcI;simp only at hcI;cases op <;> simp only [aK] at hcI <;> first | (cases hcI; done) | skip
  simp only [Bool.and_eq_true] at hcI;exact HO (fun _=>rfl) hi (hal _ rfl) hcI.1 hcI.2 ⟨rfl,rfl⟩
 | mksl m sz bytes z n k=>
  rw [hai] at h hops;obtain ⟨rfl,h2,h3,h4,rfl⟩:=h;rw [h2] at hgc; simp only [cm,Option.some.injEq] at hgc; subst hgc;simp only [if_true];have hn:=hops n (by simp [AI.bH,AI.opers]);have hk:=hops k (by simp [AI.bH,AI.opers]);refine go (.sref sz σ.length 0 (aP (opv e n)).toNat (aP (opv e n)).toNat) (by rw [h2]; rfl) (by intro b o' hh; cases hh) ?_;obtain ⟨dst,op,type,pos,after,guard⟩:=o;rw [hai] at hcI;simp only at hcI;cases op <;> simp only [aK] at hcI <;> first | (cases hcI; done) | skip
  rename_i t n' c'
  cases hu:P.underlying t with
  | none=>rw [hu] at hcI; simp at hcI
  | some d=>
   cases d with
   | slice e'=>
    rw [hu] at hcI;simp only at hcI
    cases hinf:P.info? e' with
    | none=>rw [hinf] at hcI; simp at hcI
    | some i=>
     rw [hinf] at hcI;simp only at hcI
     cases hzv:i.zero with
     | none=>rw [hzv] at hcI; simp at hcI
     | some v=>
      rw [hzv] at hcI;simp only [Bool.and_eq_true,beq_iff_eq,decide_eq_true_eq] at hcI;obtain ⟨⟨⟨⟨c1,c2⟩,⟨⟨c3,c4⟩,⟨c5,c6⟩⟩⟩,c7⟩,c8⟩:=hcI;have hvn:=hf.opr c7 (hn.2.trans h3.1);have hvk:=hf.opr c8 (hk.2.trans h3.2.1);rw [hn.1] at hvn;rw [hk.1] at hvk;exact Hu hi (hal _ rfl) hu hinf hzv c4 c3 c5 c6 hvn hvk h4.1 h4.2.1 h4.2.2.1 h4.2.2.2.1 h4.2.2.2.2.1 h4.2.2.2.2.2 ⟨rfl,rfl⟩
   | _=>rw [hu] at hcI; simp at hcI
 | store sz x v=>
  rw [hai] at h hops;obtain ⟨h1,h2,h3,h4,h5⟩:=h;rw [h1] at hgc; simp only [cm,Option.some.injEq] at hgc; subst hgc;simp only [if_true];have hx:=hops x (by simp [AI.bH,AI.opers]);have hv:=hops v (by simp [AI.bH,AI.opers]);obtain ⟨dst,op,type,pos,after,guard⟩:=o;have hcI':=hcI;rw [hai] at hcI;simp only at hcI;cases op <;> simp only [aK] at hcI <;> first | (cases hcI; done) | skip
  simp only [Bool.and_eq_true,beq_iff_eq] at hcI;obtain ⟨⟨⟨c1,c2⟩,c3⟩,c4⟩:=hcI;have rx:=hf.opr c3 (hx.2.trans h2.1);have rv:=hf.opr c4 (hv.2.trans h2.2.1);rw [hx.1] at rx;rw [hv.1] at rv
  -- the block that is written
  have hblk:∃ b o',q.e = .wr b o' ∧ b ∈ (opv e x).cw ∧ σ.get b ≠ .dead:=by
   generalize opv e x = ax at h5
   cases ax with
   | ptr b off=>
    simp only [jf] at h5;cases hg:σ.get b <;> rw [hg] at h5 <;> first | (cases h5; done) | skip
    exact ⟨b,_,(Option.some.inj h5).symm,by simp [aa.cw],by rw [hg]; simp⟩
   | eptr sz b i f n=>
    simp only [jf] at h5;cases hg:σ.get b <;> rw [hg] at h5 <;> first | (cases h5; done) | skip
    exact ⟨b,_,(Option.some.inj h5).symm,by simp [aa.cw],by rw [hg]; simp⟩
   | _=>cases h5
  obtain ⟨b,o',hq,hb,hnd⟩:=hblk;have hlt:=ab.bf hnd;have hlam:=rx.cw b hb;have hget:=hwr b o' hq hlt hlam;have hso:ck s.h sz (opv e v) (opv e x) ∧ cO s.h (opv e v) (opv e x) = q.e.jG σ.length s.h:=by
   revert h3 h5 hb;generalize opv e x = ax;intro h3 h5 hb
   cases ax with
   | ptr b' off=>
    simp [aa.cw] at hb; subst hb;simp only [ck,cO,jf,hget] at h3 h5 ⊢;refine ⟨h3, ?_⟩;cases hg:σ.get b <;> rw [hg] at h5 <;> first | (cases h5; done) | skip
    rw [← Option.some.inj h5]; rfl
   | eptr sz' b' i' f n=>
    simp [aa.cw] at hb; subst hb;simp only [ck,cO,jf,hget] at h3 h5 ⊢;refine ⟨h3, ?_⟩;cases hg:σ.get b <;> rw [hg] at h5 <;> first | (cases h5; done) | skip
    rw [← Option.some.inj h5]; rfl
   | _=>cases h5
  refine go .undef (by rw [h4,h1]; rfl) (by intro b1 o1 hh; rw [hq] at hh; cases hh; exact ⟨hlt,hlam⟩) ?_;exact fB hi c1 c2 rx rv hso.1 ⟨rfl,hso.2⟩
 | append sz bytes x y=>
  rw [hai] at h hops;obtain ⟨h1,h2,h3⟩:=h;rw [h1] at hgc; simp only [cm,Option.some.injEq] at hgc; subst hgc;simp only [if_true];have hx:=hops x (by simp [AI.bH,AI.opers]);have hy:=hops y (by simp [AI.bH,AI.opers]);obtain ⟨ys,b,o',v,q1,q2,q3,q4,q5,rfl,q7,_⟩:=iW h3;have hlt:b < σ.length:=ab.bf q5;have hoy:∃ z,aD x z = true:=by
   have hcI':=hcI;rw [hai] at hcI';generalize o.op = op at hcI';cases op <;> simp only [aK] at hcI' <;> first | (cases hcI'; done) | skip
   split at hcI'
   ·split at hcI'
    ·split at hcI'
     ·simp only [Bool.and_eq_true] at hcI';exact ⟨_,hcI'.1.2⟩
     ·cases hcI'
    ·cases hcI'
   ·cases hcI'
  have hlam:=hf.named hoy (hx.2.trans h2.1) b (by rw [hx.1]; exact q4);have hget:=hwr b _ rfl hlt hlam;refine go v (by rw [h1]; rfl) (by intro b1 o1 hh; cases hh; exact ⟨hlt,hlam⟩) (cQ hi hf hcI ?_);rw [hai];obtain ⟨f1,f2⟩:=nK q1 s.h sz;refine ⟨cd (fun z hz=>hops z (by simpa [AI.bH,AI.opers] using hz)) h2, ?_⟩;simp only [bS,hx.1,hy.1,f1];exact ⟨f2.2 q2,q3,q7 s.h hget _ ⟨rfl,rfl⟩⟩
 | lit m sz n ps=>
  rw [hai] at h hops;by_cases hm:m = 0;rotate_left
  ·by_cases hm1:m = 1
   ·simp only [if_neg hm,if_pos hm1] at h;obtain ⟨h2,h3,h4,rfl⟩:=h;rw [h2] at hgc; simp only [cm,Option.some.injEq] at hgc; subst hgc;simp only [if_true];refine go (.oslice sz (cZ (opv e) (List.replicate n .undef) ps) σ.length 0) (by rw [h2]; rfl) (by intro b o' hh; cases hh) ?_;have hps:∀ x ∈ ps.map (·.2),opn fr.v x = opv e x:=fun x hx=>(eZ (cd (fun x hx=>hops x (by simpa [AI.bH,AI.opers] using hx)) h3) x hx).symm.trans (hops x (by simpa [AI.bH,AI.opers] using hx)).1
    obtain ⟨dst,op,type,pos,after,guard⟩:=o;rw [hai] at hcI;simp only at hcI
    cases op with
    | buildSlice t n' parts=>
     have hn:n' = n:=by
      simp only [aK] at hcI
      cases hu:P.underlying t with
      | none=>simp [hu] at hcI
      | some d=>
       cases d <;> simp [hu] at hcI;exact hcI.1.1.1.1.2.symm
     subst hn;refine H4 hi (hal _ rfl) hf.agree hcI ((dL hps).2 h4) ⟨by rw [eh hps],rfl⟩
    | _=>simp only [aK] at hcI; cases hcI
   ·simp only [if_neg hm,if_neg hm1] at h;obtain ⟨h1,h2,h3,h4,rfl⟩:=h;rw [h2] at hgc; simp only [cm,Option.some.injEq] at hgc; subst hgc;simp only [if_true];refine go (.sref sz σ.length 0 n n) (by rw [h2]; rfl) (by intro b o' hh; cases hh) ?_;have hps:∀ x ∈ ps.map (·.2),opn fr.v x = opv e x:=fun x hx=>(eZ (cd (fun x hx=>hops x (by simpa [AI.bH,AI.opers] using hx)) h3) x hx).symm.trans (hops x (by simpa [AI.bH,AI.opers] using hx)).1
    obtain ⟨dst,op,type,pos,after,guard⟩:=o;rw [hai] at hcI;simp only at hcI
    cases op with
    | buildSlice t n' parts=>
     have hn:n' = n:=by
      simp only [aK] at hcI
      cases hu:P.underlying t with
      | none=>simp [hu] at hcI
      | some d=>
       cases d <;> simp [hu] at hcI;exact hcI.1.1.1.1.2.symm
     subst hn;refine Lf hi (hal _ rfl) hf.agree hcI ((dL hps).2 h4) ⟨rfl, ?_⟩;rw [eh hps]; rfl
    | _=>simp only [aK] at hcI; cases hcI
  subst hm;simp only [if_true] at h;obtain ⟨h34,rfl⟩:=h
  cases c with
  | false=>
   simp only [Bool.false_eq_true,if_false];refine ⟨fun _ _=>trivial,hK _ s hi (.refl s) rfl ?_ (by intro b o' hh; cases hh)⟩;unfold eJ; split
   ·rename_i hg; rw [hg] at hgc; simp [cm] at hgc
   ·exact .optF _
  | true=>
  obtain ⟨h3,h4⟩:=h34 rfl;simp only [if_true];have hps:∀ x ∈ ps.map (·.2),opv e x = opv fr.v x:=fun x hx=>(hops x (by simpa [AI.bH,AI.opers] using hx)).1.symm
  refine go (.slice sz (cZ (opv e) (List.replicate n .undef) ps)) rfl (by intro b o' hh; cases hh) (cQ hi hf hcI ?_);rw [hai];refine ⟨cd (fun x hx=>hops x (by simpa [AI.bH,AI.opers] using hx)) h3,(dL hps).1 h4, ?_⟩;simp only [if_true];exact ⟨by rw [eh hps],rfl⟩
 | load k x=>rw [hai] at h; exact quiet (by rw [hai]; rfl) (by rw [hai]; exact h.2.1) (by rw [hai]; exact h.2.2)
 | lookup ok z x i=>rw [hai] at h; exact quiet (by rw [hai]; rfl) (by rw [hai]; exact h.2.1) (by rw [hai]; exact h.2.2)
 | _=>rw [hai] at h; exact quiet (by rw [hai]; exact h.1) (by rw [hai]; exact h.2.1) (by rw [hai]; exact h.2.2)
end
end Go.AM
