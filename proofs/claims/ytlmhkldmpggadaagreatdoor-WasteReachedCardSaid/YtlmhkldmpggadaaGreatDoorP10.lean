/- A region whose order Go leaves open, first half: what it comes to in the order of its text, and which parts of the abstract heap each operation touches. A region whose order Go leaves open, second .. -/
import Derived.Test.YtlmhkldmpggadaaGreatDoorP9
namespace Go.AM
open Go.RowKit
mutual
def ag.pure:ag → Bool
 | .undef | .bool _ | .int _ _ | .str _ | .nilptr | .nilfunc | .niliface | .nilmap | .mint _=>true
 | .agg cs=>aG cs
 | .tup cs=>aG cs
 | .slice _ xs=>aG xs
 | .pval v=>v.pure
 | .func _ a b=>aG a && aG b
 | .iface _ v=>v.pure
 | .opt _ v=>v.pure
 | _=>false
def aG:List ag → Bool
 | []=>true
 | v :: r=>v.pure && aG r
end
mutual
def ag.et:ag → List Nat
 | .agg cs=>gG cs
 | .tup cs=>gG cs
 | .slice _ xs=>gG xs
 | .oslice _ xs b _=>b :: gG xs
 | .sref _ b _ _ _=>[b]
 | .pval v=>v.et
 | .ptr b _=>[b]
 | .eptr _ b _ _ _=>[b]
 | .func _ a b=>gG a ++ gG b
 | .iface _ v=>v.et
 | .map b=>[b]
 | .iter b=>[b]
 | .yieldf b=>[b]
 | .opt g v=>if g then v.et else []
 | _=>[]
def gG:List ag → List Nat
 | []=>[]
 | v :: r=>v.et ++ gG r
end
mutual
theorem oA:∀ {v:ag},v.pure = true → v.et = []
 | .undef,_ | .bool _,_ | .int _ _,_ | .str _,_ | .nilptr,_ | .nilfunc,_ | .niliface,_ | .nilmap,_ | .mint _,_=>rfl
 | .agg cs,h=>fN (l:=cs) h
 | .tup cs,h=>fN (l:=cs) h
 | .slice _ xs,h=>fN (l:=xs) h
 | .pval v,h=>oA (v:=v) h
 | .func _ a b,h=>by
  simp only [ag.pure,Bool.and_eq_true] at h;simp only [ag.et,fN h.1,fN h.2,List.append_nil]
 | .iface _ v,h=>oA (v:=v) h
 | .opt g v,h=>by
  simp only [ag.et,oA (v:=v) h]; split <;> rfl
 | .oslice _ _ _ _,h | .sref _ _ _ _ _,h | .ptr _ _,h | .eptr _ _ _ _ _,h | .map _,h | .iter _,h | .yieldf _,h | .nils _,h=>by simp [ag.pure] at h
theorem fN:∀ {l:List ag},aG l = true → gG l = []
 | [],_=>rfl
 | v :: r,h=>by
  simp only [aG,Bool.and_eq_true] at h;simp only [gG,oA h.1,fN h.2,List.append_nil]
end
theorem gf:∀ {l:List ag} {b:Nat},b ∈ gG l ↔ ∃ j, ∃ h:j < l.length,b ∈ l[j].et
 | [],b=>by simp [gG]
 | v :: r,b=>by
  simp only [gG,List.mem_append,gf (l:=r)];constructor
  ·rintro (h | ⟨j,h1,h2⟩)
   ·exact ⟨0,by simp,h⟩
   ·exact ⟨j + 1,by simpa using h1,by simpa using h2⟩
  ·rintro ⟨j,h1,h2⟩
   cases j with
   | zero=>exact .inl h2
   | succ j=>exact .inr ⟨j,by simpa using h1,by simpa using h2⟩
theorem Rv.et {s:St} {v:ag} {c:Value} (h:Rv s v c):∀ b ∈ v.et, ∃ k u,s.lam b k = some u:=by
 induction h with
 | agg cs vs hl _ ih=>intro b hb; obtain ⟨j,h1,h2⟩:=gf.1 hb; exact ih j h1 (by omega) b h2
 | tup cs vs hl _ ih=>intro b hb; obtain ⟨j,h1,h2⟩:=gf.1 hb; exact ih j h1 (by omega) b h2
 | slice sz xs blk off len cap us hl hn hc _ hm ih=>intro b hb; obtain ⟨j,h1,h2⟩:=gf.1 hb; exact ih j h1 (by omega) b h2
 | oslice sz xs b k c hs hl ih=>
  intro b' hb;rcases List.mem_cons.1 hb with rfl | hb
  ·exact ⟨k,c,hl⟩
  ·exact ih b' hb
 | sref sz b off len n blk cap hl h1 h2=>intro b' hb; simp [ag.et] at hb; subst hb; exact ⟨_,_,hl⟩
 | srefE sz b off n a v hl h0 h1=>intro b' hb; simp [ag.et] at hb; subst hb; exact ⟨_,_,hl⟩
 | sref0 sz b a hl=>intro b' hb; simp [ag.et] at hb; subst hb; exact ⟨_,_,hl⟩
 | pval v u blk off _ hm ih=>exact ih
 | ptr b off blk hl=>intro b' hb; simp [ag.et] at hb; subst hb; exact ⟨_,_,hl⟩
 | eptr sz b i f n blk cap hl=>intro b' hb; simp [ag.et] at hb; subst hb; exact ⟨_,_,hl⟩
 | func fn first caps fi ca hf hc _ _ ih1 ih2=>
  intro b hb;rcases List.mem_append.1 hb with h | h
  ·obtain ⟨j,h1,h2⟩:=gf.1 h; exact ih1 j h1 (by omega) b h2
  ·obtain ⟨j,h1,h2⟩:=gf.1 h; exact ih2 j h1 (by omega) b h2
 | iface t v u _ ih=>exact ih
 | map b blk hl=>intro b' hb; simp [ag.et] at hb; subst hb; exact ⟨_,_,hl⟩
 | optT v c _ ih=>intro b hb; simp [ag.et] at hb; exact ih b hb
 | optF v=>intro b hb; simp [ag.et] at hb
 | iter b blk hl=>intro b' hb; simp [ag.et] at hb; subst hb; exact ⟨_,_,hl⟩
 | yieldf b blk hl=>intro b' hb; simp [ag.et] at hb; subst hb; exact ⟨_,_,hl⟩
 | _=>intro b hb; simp [ag.et,gG] at hb
inductive cJ where
 | no
 | rd (l:List Nat)
 | al (o:cm)
 | wr (b:Nat) (o:cm)
structure DR where
 v:ag
 e:cJ
def cJ.run (σ:af):cJ → af
 | .al o=>σ ++ [o]
 | .wr b o=>σ.set b o
 | _=>σ
def cJ.pg:cJ → cJ → Bool
 | .wr b _, .wr c _=>b == c
 | .wr b _, .rd l=>l.contains b
 | .rd l, .wr c _=>l.contains c
 | _,_=>false
def ki (bef:List (List Nat)) (j:Nat) (e:cJ):List cJ → Nat → Bool
 | [],_=>true
 | f :: r,i=>(!e.pg f || (bef.getD j []).contains i) && ki bef j e r (i + 1)
def eW (bef:List (List Nat)):List cJ → List cJ → Nat → Bool
 | _,[],_=>true
 | before,e :: r,j=>ki bef j e before 0 && eW bef (before ++ [e]) r (j + 1)
def oF:ag → cJ
 | .ptr b _=>.rd [b]
 | .eptr _ b _ _ _=>.rd [b]
 | .map b=>.rd [b]
 | _=>.no
def pM (σ:af) (l:List ag):List Nat:=gG l ++ (gG l).flatMap fun b=>match σ.get b with
 | .box cs=>gG cs
 | _=>[]
def rdL (σ:af) (l:List ag):cJ:=if aG l = true then .no else .rd (pM σ l)
def iS (e:Env):AI → cJ
 | .load _ x=>oF (opv e x)
 | .lookup _ _ x _=>oF (opv e x)
 | _=>.no
def tw (σ:af) (v:ag):ag → Option cJ
 | .ptr b off=>match σ.get b with
  | .box cs=>some (.wr b (.box (putCells cs off v.cells)))
  | _=>none
 | .eptr _ b i f _=>match σ.get b with
  | .arr esz xs=>some (.wr b (.arr esz (xs.set i (oc (xs.getD i .undef) f v.cells))))
  | _=>none
 | _=>none
def nP:List ag → Bool
 | []=>true
 | .mint _ :: _=>false
 | _ :: r=>nP r
def sj:ag → Option (List ag)
 | .slice _ xs=>some xs
 | .oslice _ xs _ _=>some xs
 | _=>none
theorem yW {v:ag} {ys:List ag} (h:sj v = some ys) (σ:af) (sz:Nat):v.elems σ = ys ∧ (v.ir σ sz ↔ v.ir [] sz):=by
 cases v <;> simp [sj] at h <;> subst h <;> exact ⟨rfl,Iff.rfl⟩
def wM (sz bytes:Nat) (σ:af) (x y:ag) (K:ag → cJ → Prop):Prop:=
 match sj y with
 | none=>False
 | some ys=>y.ir [] sz ∧ Fits sz ys ∧ match x with
  | .oslice sz' xs b k=>sz' = sz ∧ (xs.length + ys.length) * bytes ≤ 140737488355328 ∧ match σ.get b with
   | .spare sz'' k'=>sz'' = sz ∧ k' = k ∧ K (.oslice sz (xs ++ ys) b (k + 1)) (.wr b (.spare sz (k + 1)))
   | _=>False
  | .sref sz' b off len n=>sz' = sz ∧ match σ.get b with
   | .arr sz'' xs=>sz'' = sz ∧ xs.length = n ∧ off = 0 ∧ len = n ∧ (n + ys.length) * bytes ≤ 140737488355328 ∧ K (.sref sz b 0 (n + ys.length) (n + ys.length)) (.wr b (.arr sz (xs ++ ys)))
   | _=>False
  | _=>False
theorem nq {sz bytes:Nat} {σ:af} {x y:ag} {K:ag → cJ → Prop} (h:wM sz bytes σ x y K):∃ ys b o v,sj y = some ys ∧ y.ir [] sz ∧ Fits sz ys ∧ b ∈ x.et ∧ σ.get b ≠ .dead ∧ K v (.wr b o) ∧
  (∀ H:af,H.get b = σ.get b → ∀ K':ag → af → Prop,K' v (H.set b o) → ja sz bytes H x ys K') ∧ (∀ K':ag → cJ → Prop,K' v (.wr b o) → wM sz bytes σ x y K'):=by
 unfold wM at h
 cases hf:sj y with
 | none=>rw [hf] at h; exact h.elim
 | some ys=>
  rw [hf] at h;obtain ⟨h1,h2,h3⟩:=h
  cases x with
  | oslice sz' xs b k=>
   obtain ⟨rfl,h4,h5⟩:=h3
   cases hg:σ.get b with
   | spare sz'' k'=>
    rw [hg] at h5;obtain ⟨rfl,rfl,h6⟩:=h5;refine ⟨ys,b,_,_,rfl,h1,h2,by simp [ag.et],by rw [hg]; simp,h6,fun H hH K' hk=>?_,fun K' hk=>?_⟩
    ·simp only [ja,hH,hg]; exact ⟨trivial,h4,trivial,trivial,hk⟩
    ·simp only [wM,hf,hg]; exact ⟨h1,h2,trivial,h4,trivial,trivial,hk⟩
   | _=>rw [hg] at h5; exact h5.elim
  | sref sz' b off len n=>
   obtain ⟨rfl,h5⟩:=h3
   cases hg:σ.get b with
   | arr sz'' xs=>
    rw [hg] at h5;obtain ⟨rfl,rfl,rfl,rfl,h6,h7⟩:=h5;refine ⟨ys,b,_,_,rfl,h1,h2,by simp [ag.et],by rw [hg]; simp,h7,fun H hH K' hk=>?_,fun K' hk=>?_⟩
    ·simp only [ja,hH,hg];refine ⟨trivial,trivial,trivial, ?_⟩;split
     ·rename_i hle;have hy:ys = []:=List.eq_nil_of_length_eq_zero (by omega);subst hy;simpa using hk
     ·exact ⟨trivial,trivial,h6,hk⟩
    ·simp only [wM,hf,hg]; exact ⟨h1,h2,trivial,trivial,trivial,trivial,trivial,h6,hk⟩
   | _=>rw [hg] at h5; exact h5.elim
  | _=>exact h3.elim
def oM (g:Option (Nat × Bool)) (c:Bool) (v:ag):ag:=
 match g with
 | none=>v
 | some _=>.opt c v
def eu (g:Option (Nat × Bool)) (e:Env):Option Bool:=
 match g with
 | none=>some true
 | some gd=>gI e gd
def Lm (bytes:Nat) (n c:ag):Prop:=isInt n ∧ isInt c ∧ 0 ≤ cK n ∧ cK n ≤ cK c ∧ cK c * bytes ≤ 140737488355328 ∧ cK c ≤ 140737488355328
def cy (P : Program) : List aK → Env → af → List cJ → (Env → af → List cJ → Prop) → Prop
 | [],e,σ,es,K=>K e σ es
 | o :: r,e,σ,es,K=>
  match eu o.g e with
  | none=>False
  | some c=>match o.i with
   | .call f dn l=>∃ v,(c = true → dB e (f :: l) ∧ ∀ σ',(∀ b ∈ pM σ (opv e f :: l.map (opv e)),b < σ.length → σ'.get b = σ.get b) → aH P (opv e f) (cF dn (l.map (opv e))) σ' fun q σ''=>q = .ret v ∧ σ'' = σ') ∧
     cy P r (e.put o.d (oM o.g c v)) σ (rdL σ (opv e f :: l.map (opv e)) :: es) K
   | .box n x=>o.g = none ∧ dB e [x] ∧ b6 (opv e x) n ∧ cy P r (e.put o.d (.ptr σ.length 0)) (σ ++ [.box (opv e x).cells]) (.al (.box (opv e x).cells) :: es) K
   | .alloc z=>o.g = none ∧ nP z = true ∧ cy P r (e.put o.d (.ptr σ.length 0)) (σ ++ [.box z]) (.al (.box z) :: es) K
   | .callA sz f dn l=>o.g = none ∧ dB e (f :: l) ∧ ∃ xs,(∀ σ',aH P (opv e f) (cF dn (l.map (opv e))) σ' fun q σ''=>q = .ret (.oslice sz xs σ'.length 1) ∧ σ'' = σ' ++ [.spare sz 1]) ∧
     cy P r (e.put o.d (.oslice sz xs σ.length 1)) (σ ++ [.spare sz 1]) (.al (.spare sz 1) :: es) K
   | .mnew=>o.g = none ∧ cy P r (e.put o.d (.map σ.length)) (σ ++ [.amap []]) (.al (.amap []) :: es) K
   | .mksl m sz bytes z n k=>m = 2 ∧ o.g = none ∧ dB e [n,k] ∧ Lm bytes (opv e n) (opv e k) ∧
     cy P r (e.put o.d (.sref sz σ.length 0 (cK (opv e n)).toNat (cK (opv e n)).toNat)) (σ ++ [.arr sz (List.replicate (cK (opv e n)).toNat z)]) (.al (.arr sz (List.replicate (cK (opv e n)).toNat z)) :: es) K
   | .store sz x v=>o.g = none ∧ dB e [x,v] ∧ fA σ sz (opv e v) (opv e x) ∧ match tw σ (opv e v) (opv e x) with
    | some f=>cy P r (e.put o.d .undef) (f.run σ) (f :: es) K
    | none=>False
   | .append sz bytes x y=>o.g = none ∧ dB e [x,y] ∧ wM sz bytes σ (opv e x) (opv e y) fun v f=>cy P r (e.put o.d v) (f.run σ) (f :: es) K
   | .lit m sz n ps=>if m = 0 then (c = true → dB e (ps.map (·.2)) ∧ iB sz n (opv e) ps) ∧ cy P r (e.put o.d (oM o.g c (.slice sz (gJ (opv e) (List.replicate n .undef) ps)))) σ (.no :: es) K
    else if m = 1 then o.g = none ∧ dB e (ps.map (·.2)) ∧ iB sz n (opv e) ps ∧ cy P r (e.put o.d (.oslice sz (gJ (opv e) (List.replicate n .undef) ps) σ.length 0)) (σ ++ [.spare sz 0]) (.al (.spare sz 0) :: es) K
    else m = 2 ∧ o.g = none ∧ dB e (ps.map (·.2)) ∧ iB sz n (opv e) ps ∧ cy P r (e.put o.d (.sref sz σ.length 0 n n)) (σ ++ [.arr sz (gJ (opv e) (List.replicate n .undef) ps)]) (.al (.arr sz (gJ (opv e) (List.replicate n .undef) ps)) :: es) K
   | i=>i.quiet = true ∧ (c = true → jP e σ i) ∧ cy P r (e.put o.d (oM o.g c (lx e σ i))) σ (iS e i :: es) K
def uz (P:Program) (o:aK) (e:Env) (σ:af) (r:DR):Prop:=
 ∃ c,eu o.g e = some c ∧
  match o.i with
  | .call f dn l=>r.e = rdL σ (opv e f :: l.map (opv e)) ∧ ∃ v,r.v = oM o.g c v ∧
    (c = true → dB e (f :: l) ∧ ∀ σ',(∀ b ∈ pM σ (opv e f :: l.map (opv e)),b < σ.length → σ'.get b = σ.get b) → aH P (opv e f) (cF dn (l.map (opv e))) σ' fun q σ''=>q = .ret v ∧ σ'' = σ')
  | .box n x=>o.g = none ∧ dB e [x] ∧ b6 (opv e x) n ∧ r = ⟨.ptr σ.length 0, .al (.box (opv e x).cells)⟩
  | .alloc z=>o.g = none ∧ nP z = true ∧ r = ⟨.ptr σ.length 0, .al (.box z)⟩
  | .callA sz f dn l=>o.g = none ∧ dB e (f :: l) ∧ ∃ xs,(∀ σ',aH P (opv e f) (cF dn (l.map (opv e))) σ' fun q σ''=>q = .ret (.oslice sz xs σ'.length 1) ∧ σ'' = σ' ++ [.spare sz 1]) ∧
    r = ⟨.oslice sz xs σ.length 1, .al (.spare sz 1)⟩
  | .mnew=>o.g = none ∧ r = ⟨.map σ.length, .al (.amap [])⟩
  | .mksl m sz bytes z n k=>m = 2 ∧ o.g = none ∧ dB e [n,k] ∧ Lm bytes (opv e n) (opv e k) ∧
    r = ⟨.sref sz σ.length 0 (cK (opv e n)).toNat (cK (opv e n)).toNat, .al (.arr sz (List.replicate (cK (opv e n)).toNat z))⟩
  | .store sz x v=>o.g = none ∧ dB e [x,v] ∧ fA σ sz (opv e v) (opv e x) ∧ r.v = .undef ∧ tw σ (opv e v) (opv e x) = some r.e
  | .append sz bytes x y=>o.g = none ∧ dB e [x,y] ∧ wM sz bytes σ (opv e x) (opv e y) fun v f=>r = ⟨v,f⟩
  | .lit m sz n ps=>if m = 0 then (c = true → dB e (ps.map (·.2)) ∧ iB sz n (opv e) ps) ∧ r = ⟨oM o.g c (.slice sz (gJ (opv e) (List.replicate n .undef) ps)), .no⟩
   else if m = 1 then o.g = none ∧ dB e (ps.map (·.2)) ∧ iB sz n (opv e) ps ∧ r = ⟨.oslice sz (gJ (opv e) (List.replicate n .undef) ps) σ.length 0, .al (.spare sz 0)⟩
   else m = 2 ∧ o.g = none ∧ dB e (ps.map (·.2)) ∧ iB sz n (opv e) ps ∧ r = ⟨.sref sz σ.length 0 n n, .al (.arr sz (gJ (opv e) (List.replicate n .undef) ps))⟩
  | i=>i.quiet = true ∧ (c = true → jP e σ i) ∧ r = ⟨oM o.g c (lx e σ i),iS e i⟩
def Bk (P:Program):List aK → Env → af → List DR → Env → af → Prop
 | [],e,σ,[],e',σ'=>e' = e ∧ σ' = σ
 | o :: r,e,σ,q :: t,e',σ'=>uz P o e σ q ∧ Bk P r (e.put o.d q.v) (q.e.run σ) t e' σ'
 | _,_,_,_,_,_=>False
theorem xE {e:Env} {i:AI} {σ:af}:(iS e i).run σ = σ:=by
 have h:∀ v,(oF v).run σ = σ:=fun v=>by cases v <;> rfl
 cases i <;> first | rfl | exact h _
theorem H6 {l:List ag} {σ τ:af}:(rdL τ l).run σ = σ:=by unfold rdL; split <;> rfl
theorem xi {P:Program}:∀ {ops:List aK} {e:Env} {σ:af} {es:List cJ} {K:Env → af → List cJ → Prop},cy P ops e σ es K →
  ∃ t e' σ',Bk P ops e σ t e' σ' ∧ K e' σ' ((t.map (·.e)).reverse ++ es)
 | [],e,σ,es,K,h=>⟨[],e,σ,⟨rfl,rfl⟩,h⟩
 | o :: r,e,σ,es,K,h=>by
  simp only [cy] at h
  split at h
  ·exact h.elim
  ·rename_i c hc;have next:∀ (q:DR),uz P o e σ q → cy P r (e.put o.d q.v) (q.e.run σ) (q.e :: es) K → ∃ t e' σ',Bk P (o :: r) e σ t e' σ' ∧ K e' σ' ((t.map (·.e)).reverse ++ es):=by
    intro q h1 h2;obtain ⟨t,e',σ',g1,g2⟩:=xi h2;exact ⟨q :: t,e',σ',⟨h1,g1⟩,by simpa using g2⟩
   cases hi:o.i with
   | call f dn l=>
    rw [hi] at h;obtain ⟨v,h1,h2⟩:=h;exact next ⟨oM o.g c v,rdL σ (opv e f :: l.map (opv e))⟩ ⟨c,hc,by rw [hi]; exact ⟨rfl,v,rfl,h1⟩⟩ (by rw [H6]; exact h2)
   | box n x=>rw [hi] at h; exact next ⟨_,_⟩ ⟨c,hc,by rw [hi]; exact ⟨h.1,h.2.1,h.2.2.1,rfl⟩⟩ h.2.2.2
   | alloc z=>rw [hi] at h; exact next ⟨_,_⟩ ⟨c,hc,by rw [hi]; exact ⟨h.1,h.2.1,rfl⟩⟩ h.2.2
   | callA sz f dn l=>
    rw [hi] at h;obtain ⟨h1,h2,xs,h3,h4⟩:=h;exact next ⟨_,_⟩ ⟨c,hc,by rw [hi]; exact ⟨h1,h2,xs,h3,rfl⟩⟩ h4
   | mnew=>rw [hi] at h; exact next ⟨_,_⟩ ⟨c,hc,by rw [hi]; exact ⟨h.1,rfl⟩⟩ h.2
   | mksl m sz bytes z n k=>rw [hi] at h; exact next ⟨_,_⟩ ⟨c,hc,by rw [hi]; exact ⟨h.1,h.2.1,h.2.2.1,h.2.2.2.1,rfl⟩⟩ h.2.2.2.2
   | store sz x v=>
    rw [hi] at h;obtain ⟨h1,h2,h3,h4⟩:=h
    cases hw:tw σ (opv e v) (opv e x) with
    | none=>rw [hw] at h4; exact h4.elim
    | some f=>rw [hw] at h4; exact next ⟨.undef,f⟩ ⟨c,hc,by rw [hi]; exact ⟨h1,h2,h3,rfl,hw⟩⟩ h4
   | append sz bytes x y=>
    rw [hi] at h;obtain ⟨h1,h2,h3⟩:=h;obtain ⟨ys,b,o',v,q1,q2,q3,q4,q5,q6,q7,q8⟩:=nq h3;exact next ⟨_,_⟩ ⟨c,hc,by rw [hi]; exact ⟨h1,h2,q8 _ rfl⟩⟩ q6
   | lit m sz n ps=>
    rw [hi] at h;by_cases hm:m = 0
    ·simp only [if_pos hm] at h;exact next ⟨_, .no⟩ ⟨c,hc,by rw [hi]; simp only [if_pos hm]; exact ⟨h.1,rfl⟩⟩ h.2
    ·by_cases hm1:m = 1
     ·simp only [if_neg hm,if_pos hm1] at h;exact next ⟨_,_⟩ ⟨c,hc,by rw [hi]; simp only [if_neg hm,if_pos hm1]; exact ⟨h.1,h.2.1,h.2.2.1,rfl⟩⟩ h.2.2.2
     ·simp only [if_neg hm,if_neg hm1] at h;exact next ⟨_,_⟩ ⟨c,hc,by rw [hi]; simp only [if_neg hm,if_neg hm1]; exact ⟨h.1,h.2.1,h.2.2.1,h.2.2.2.1,rfl⟩⟩ h.2.2.2.2
   | load k x=>rw [hi] at h; exact next ⟨_,iS e (.load k x)⟩ ⟨c,hc,by rw [hi]; exact ⟨h.1,h.2.1,rfl⟩⟩ (by rw [xE]; exact h.2.2)
   | lookup ok z x i=>rw [hi] at h; exact next ⟨_,iS e (.lookup ok z x i)⟩ ⟨c,hc,by rw [hi]; exact ⟨h.1,h.2.1,rfl⟩⟩ (by rw [xE]; exact h.2.2)
   | _=>rw [hi] at h; exact next ⟨_, .no⟩ ⟨c,hc,by rw [hi]; exact ⟨h.1,h.2.1,rfl⟩⟩ h.2.2
open Go.RowKit
def Ar:List aP → List Nat
 | []=>[]
 | .t n :: r=>n :: Ar r
 | _ :: r=>Ar r
def AI.dh:AI → List aP
 | .pick c a b=>[c,a,b]
 | i=>i.opers
def b7 (o:aK):List Nat:=Ar o.i.dh ++ (match o.g with
 | some gd=>[gd.1]
 | none=>[])
theorem nX:∀ {l:List aP} {n:Nat},aP.t n ∈ l → n ∈ Ar l
 | .t m :: r,n,h=>by
  rcases List.mem_cons.1 h with h | h
  ·cases h; exact List.mem_cons_self
  ·exact List.mem_cons_of_mem _ (nX h)
 | .c v :: r,n,h=>by
  rcases List.mem_cons.1 h with h | h
  ·cases h
  ·exact nX (l:=r) h
 | .f m :: r,n,h=>by
  rcases List.mem_cons.1 h with h | h
  ·cases h
  ·exact nX (l:=r) h
def cJ.reads:cJ → Nat → Prop
 | .rd l,b=>b ∈ l
 | _,_=>False
def cJ.rj (n:Nat) (H:af):cJ → af
 | .al o=>H.set n o
 | .wr b o=>H.set b o
 | _=>H
theorem sP {e:Env} {i:AI} {n:Nat} {σ:af}:(iS e i).rj n σ = σ:=by
 have h:∀ v,(oF v).rj n σ = σ:=fun v=>by cases v <;> rfl
 cases i <;> first | rfl | exact h _
theorem xl {l:List ag} {n:Nat} {σ τ:af}:(rdL τ l).rj n σ = σ:=by unfold rdL; split <;> rfl
theorem vJ {e:Env} {i:AI} {b:Nat} {o:cm}:iS e i ≠ .wr b o:=by
 have h:∀ v,oF v ≠ .wr b o:=fun v=>by cases v <;> simp [oF]
 cases i <;> first | exact h _ | simp [iS]
theorem BZ {l:List ag} {b:Nat} {o:cm} {τ:af}:rdL τ l ≠ .wr b o:=by unfold rdL; split <;> simp
section
variable {P:Program} {s:St} {A:World} {N:Nat} {fr:Fr} {a:Act}
theorem wx {e e':Env} {l:List aP} (h:∀ n ∈ Ar l,e'.get n = e.get n):∀ x ∈ l,opv e' x = opv e x ∧ opg e' x = opg e x:=by
 intro x hx
 cases x with
 | t n=>have:=h n (nX hx); simp [opv,opg,this]
 | c v=>exact ⟨rfl,rfl⟩
 | f n=>exact ⟨rfl,rfl⟩
theorem ea {e e':Env}:∀ {l:List aP},(∀ x ∈ l,opv e' x = opv e x ∧ opg e' x = opg e x) → dB e l → dB e' l
 | [],_,h=>h
 | x :: r,hs,h=>⟨(hs x (by simp)).2.trans h.1,ea (fun y hy=>hs y (by simp [hy])) h.2⟩
theorem af.cE {σ:af} {b:Nat} (h:σ.get b ≠ .dead):b < σ.length:=by
 rcases Nat.lt_or_ge b σ.length with h' | h'
 ·exact h'
 ·exact absurd (by simp [af.get,List.getD,List.getElem?_eq_none h']) h
theorem zI {k:Option Nat} {σ H:af} {v:ag} (ho:gi k σ v) (h:∀ b,(oF v).reads b → b < σ.length → H.get b = σ.get b):gi k H v ∧ nA k H v = nA k σ v:=by
 cases v with
 | ptr b off=>
  have hb:b < σ.length:=by
   apply af.cE; intro e; simp only [gi,e] at ho
  have:=h b (by simp [oF,cJ.reads]) hb;simp only [gi,nA,this] at ho ⊢; exact ⟨ho,trivial⟩
 | eptr sz b i f n=>
  have hb:b < σ.length:=by
   apply af.cE; intro e; simp only [gi,e] at ho
  have:=h b (by simp [oF,cJ.reads]) hb;simp only [gi,nA,this] at ho ⊢; exact ⟨ho,trivial⟩
 | pval v=>exact ⟨ho,rfl⟩
 | _=>exact ho.elim
theorem vd {ok:Bool} {z:ag} {ρ:aP → ag} {x i:aP} {σ H:af} (ho:(AI.lookup ok z x i).side ρ σ) (h:∀ b,(oF (ρ x)).reads b → b < σ.length → H.get b = σ.get b) :
  (AI.lookup ok z x i).side ρ H ∧ (AI.lookup ok z x i).val ρ H = (AI.lookup ok z x i).val ρ σ:=by
 simp only [AI.side,AI.val] at ho ⊢
 cases hx:ρ x with
 | map b=>
  rw [hx] at ho h;have hb:b < σ.length:=by
   apply af.cE; intro e; simp only [e] at ho
  have:=h b (by simp [oF,cJ.reads]) hb;simp only [this] at ho ⊢; exact ⟨ho,trivial⟩
 | _=>rw [hx] at ho; exact ho.elim
theorem mF {e e':Env} {σ H:af} {i:AI} {o:Op} (hc:bp P i o = true) (hq:i.quiet = true) (hop:∀ x ∈ i.dh,opv e' x = opv e x ∧ opg e' x = opg e x) (hs:jP e σ i)
  (hH:∀ b,(iS e i).reads b → b < σ.length → H.get b = σ.get b):jP e' H i ∧ lx e' H i = lx e σ i:=by
 by_cases hp:∃ c x y,i = .pick c x y
 ·obtain ⟨c,x,y,rfl⟩:=hp;simp only [AI.dh,List.mem_cons,List.not_mem_nil,or_false,forall_eq_or_imp,forall_eq] at hop;obtain ⟨⟨h1,h2⟩,⟨h3,h4⟩,⟨h5,h6⟩⟩:=hop;simp only [jP,lx,h1,h2,h3,h4,h5,h6] at hs ⊢;exact ⟨hs,trivial⟩
 ·have hd:i.dh = i.opers:=by cases i <;> first | rfl | exact absurd ⟨_,_,_,rfl⟩ hp
  rw [hd] at hop;have hval:∀ e σ,lx e σ i = i.val (opv e) σ:=fun e σ=>by cases i <;> first | rfl | exact absurd ⟨_,_,_,rfl⟩ hp
  have hsd:∀ e σ,jP e σ i ↔ (dB e i.opers ∧ i.side (opv e) σ):=fun e σ=>by cases i <;> first | exact Iff.rfl | exact absurd ⟨_,_,_,rfl⟩ hp
  rw [hsd] at hs ⊢;rw [hval,hval];have hcg:=AI.congr (σ:=H) (i:=i) (ρ:=opv e') (ρ₂:=opv e) (fun x hx=>(hop x hx).1);rw [hcg.1,hcg.2];refine ⟨⟨ea hop hs.1, ?_⟩, ?_⟩
  ·cases i with
   | load k x=>exact (zI hs.2 hH).1
   | lookup ok z x i=>exact (vd hs.2 hH).1
   | _=>first | exact hs.2 | (simp [AI.quiet,AI.plain] at hq)
  ·cases i with
   | load k x=>exact (zI hs.2 hH).2
   | lookup ok z x i=>exact (vd hs.2 hH).2
   | _=>rfl
theorem Km {K Kp:ag → af → Prop} (hi:Inv A s) {b:Nat} (hb:s.h[b]? = some .hole) {t:TypeId} {v:ag} {c:Value} {n:Nat} (hv:Rv s v c) (hn:b6 v n) (h:K (.ptr b 0) (s.h.set b (.box v.cells))) :
  aA P A s K Kp ((do pure (Next.value (← Instr.box t c)):Sem Next).run P s.w):=by
 obtain ⟨c1,c2,c3⟩:=dA hv hn;obtain ⟨s3,f1,f2,i3,g3,r3,_⟩:=hi.qN hb (cs:=v.cells) (vs:=c.cells) t (by omega) (fun j h1 h2=>c3 j h1 h2);have hrun:(Instr.box t c).run P s.w = .ok (.pointer (some ⟨s.w.heap.size,0,none⟩)) (s.w.alloc (.cells c.cells t)):=by
  simp [Instr.box,newVar,newRow]
 exact aA.value (av _ _ _ _ hrun) f2 i3 g3 r3 (by rw [f1]; exact h)
theorem oR:∀ {z:List ag},nP z = true → z.map ag.jR = z
 | [],_=>rfl
 | v :: r,h=>by
  have h2:nP r = true ∧ v.jR = v:=by cases v <;> first | exact ⟨h,rfl⟩ | (simp [nP] at h)
  rw [List.map_cons,h2.2,oR h2.1]
theorem FR {K Kp:ag → af → Prop} (hi:Inv A s) {b:Nat} (hb:s.h[b]? = some .hole) {t:TypeId} {z:List ag} (hz:fJ P t (z.map ag.jR) = true) (hm:nP z = true)
  (h:K (.ptr b 0) (s.h.set b (.box z))):aA P A s K Kp ((do pure (Next.value (← Instr.alloc t true (.tuple #[]))):Sem Next).run P s.w):=by
 rw [oR hm] at hz;unfold fJ at hz
 cases hinfo:P.info? t with
 | none=>simp [hinfo] at hz
 | some i=>
  cases hzero:i.zero with
  | none=>simp [hinfo,hzero] at hz
  | some v=>
   simp only [hinfo,Option.bind_some,hzero] at hz
   obtain ⟨s3,f1,f2,i3,g3,r3,_⟩:=hi.qN hb (cs:=z) (vs:=v.cells) t (by simpa using je hz) (fun j h1 h2=>by
    have:=ku (s:=s) hz j h1 (by simpa using h2)
    simpa using this)
   have hrun:(Instr.alloc t true (.tuple #[])).run P s.w = .ok (.pointer (some ⟨s.w.heap.size,0,none⟩)) (s.w.alloc (.cells v.cells t)):=by
    simp [Instr.alloc,zeroValue,typeInfo,hinfo,hzero,newVar,newRow]
   exact aA.value (av _ _ _ _ hrun) f2 i3 g3 r3 (by rw [f1]; exact h)
theorem Ki {ρ:aP → ag} {ρ':Operand → Value} {K Kp:ag → af → Prop} (hi:Inv A s) {b:Nat} (hb:s.h[b]? = some .hole) {m sz n:Nat} {ps:List (Nat × aP)} {t:TypeId} {parts:Array (Nat × Operand)} (ha:fW s ρ ρ') (hc:bp P (.lit m sz n ps) (.buildSlice t n parts) = true)
  (ho:iB sz n ρ ps) (h:K (.sref sz b 0 n n) (s.h.set b (.arr sz (gJ ρ (List.replicate n .undef) ps)))) :
  aA P A s K Kp ((do pure (Next.value (← Instr.buildSlice t n (parts.map fun x=>(x.1,ρ' x.2)))):Sem Next).run P s.w):=by
 simp only [bp] at hc
 cases hu:P.underlying t with
 | none=>simp [hu] at hc
 | some d=>
  cases d with
  | slice e=>
   simp only [hu,Bool.and_eq_true,beq_iff_eq,decide_eq_true_eq] at hc;obtain ⟨⟨⟨⟨⟨⟨rfl,hinf⟩,_⟩,hbig⟩,hpos⟩,hzs⟩,hp⟩:=hc;obtain ⟨i,hinfo⟩:=Option.isSome_iff_exists.1 hinf;unfold rA at hzs
   cases hzero:i.zero with
   | none=>simp [hinfo,hzero] at hzs
   | some zv=>
    simp only [hinfo,Option.bind_some,hzero,beq_iff_eq] at hzs;generalize hsz:P.cellsOf e = sz at *;have hz0:dX s sz (List.replicate n .undef) (List.replicate n zv) ((Array.range (n * sz)).map (zv.cells[· % zv.cells.size]!)):=by
     refine ⟨by simp,fun i h1 h2=>⟨by simpa using Rv.undef _,by simp [hzs]⟩,fun i j h2 hj=>?_⟩;simp only [List.getElem_replicate] at hj ⊢;have hin:i < n:=by simpa using h2
     have:i * sz + j < n * sz:=dS hin (by omega);have hmod:(i * sz + j) % zv.cells.size = j:=by rw [hzs,Nat.mul_comm,Nat.mul_add_mod]; exact Nat.mod_eq_of_lt (by omega)
     simp [this,hmod,hj]
    obtain ⟨us',C',f1,f2,f3,f4⟩:=rC (s:=s) (ρ:=ρ) (ρ':=ρ') (n:=n) rfl (ps:=ps) (qs:=parts.toList) ha hp ho (by simp) (by simp) hz0;have hlist:(parts.map fun x=>(x.1,ρ' x.2)).toList = parts.toList.map fun x=>(x.1,ρ' x.2):=by simp
    have hrun:(Instr.buildSlice t n (parts.map fun x=>(x.1,ρ' x.2))).run P s.w = .ok (.slice (some ⟨s.w.heap.size,0,none⟩) n n) (s.w.alloc (.cells C' e)):=by
     unfold Instr.buildSlice;simp only [Sem.run_bind,aq hu,Result.andThen_ok,aW hinf,hsz];rw [if_neg (by omega)];by_cases hn0:n * sz = 0
     ·have hn:n = 0:=by rcases Nat.mul_eq_zero.1 hn0 with h | h <;> omega
      subst hn;have hmap:∀ g:Nat → Value,(Array.range (0 * sz)).map g = #[]:=fun g=>by apply Array.ext'; simp
      rw [hmap] at f1;rw [if_pos hn0,Sem.run_bind,Sem.run_pure,Result.andThen_ok,hmap,hlist,f1];simp [newRow]
     ·rw [if_neg hn0];simp [zeroValue,typeInfo,hinfo,hzero,f1,newRow]
    generalize hxs:gJ ρ (List.replicate n .undef) ps = xs at *;have hlen:xs.length = n:=f4;obtain ⟨s3,b1,b2,i3,g3,r3⟩:=hi.mT hb e n (by omega) f2 f3;rw [hlen] at r3;exact aA.value (av _ _ _ _ hrun) b2 i3 g3 r3 (by rw [b1]; exact h)
  | _=>simp [hu] at hc
theorem Hq {ρ:aP → ag} {ρ':Operand → Value} {K Kp:ag → af → Prop} (hi:Inv A s) {b:Nat} (hb:s.h[b]? = some .hole) {m sz n:Nat} {ps:List (Nat × aP)} {t:TypeId} {parts:Array (Nat × Operand)} (ha:fW s ρ ρ') (hc:bp P (.lit m sz n ps) (.buildSlice t n parts) = true)
  (ho:iB sz n ρ ps) (h:K (.oslice sz (gJ ρ (List.replicate n .undef) ps) b 0) (s.h.set b (.spare sz 0))) :
  aA P A s K Kp ((do pure (Next.value (← Instr.buildSlice t n (parts.map fun x=>(x.1,ρ' x.2)))):Sem Next).run P s.w):=by
 simp only [bp] at hc
 cases hu:P.underlying t with
 | none=>simp [hu] at hc
 | some d=>
  cases d with
  | slice e=>
   simp only [hu,Bool.and_eq_true,beq_iff_eq,decide_eq_true_eq] at hc;obtain ⟨⟨⟨⟨⟨⟨rfl,hinf⟩,_⟩,hbig⟩,hpos⟩,hzs⟩,hp⟩:=hc;obtain ⟨i,hinfo⟩:=Option.isSome_iff_exists.1 hinf;unfold rA at hzs
   cases hzero:i.zero with
   | none=>simp [hinfo,hzero] at hzs
   | some zv=>
    simp only [hinfo,Option.bind_some,hzero,beq_iff_eq] at hzs;generalize hsz:P.cellsOf e = sz at *;have hz0:dX s sz (List.replicate n .undef) (List.replicate n zv) ((Array.range (n * sz)).map (zv.cells[· % zv.cells.size]!)):=by
     refine ⟨by simp,fun i h1 h2=>⟨by simpa using Rv.undef _,by simp [hzs]⟩,fun i j h2 hj=>?_⟩;simp only [List.getElem_replicate] at hj ⊢;have hin:i < n:=by simpa using h2
     have:i * sz + j < n * sz:=dS hin (by omega);have hmod:(i * sz + j) % zv.cells.size = j:=by rw [hzs,Nat.mul_comm,Nat.mul_add_mod]; exact Nat.mod_eq_of_lt (by omega)
     simp [this,hmod,hj]
    obtain ⟨us',C',f1,f2,f3,f4⟩:=rC (s:=s) (ρ:=ρ) (ρ':=ρ') (n:=n) rfl (ps:=ps) (qs:=parts.toList) ha hp ho (by simp) (by simp) hz0;have hlist:(parts.map fun x=>(x.1,ρ' x.2)).toList = parts.toList.map fun x=>(x.1,ρ' x.2):=by simp
    have hrun:(Instr.buildSlice t n (parts.map fun x=>(x.1,ρ' x.2))).run P s.w = .ok (.slice (some ⟨s.w.heap.size,0,none⟩) n n) (s.w.alloc (.cells C' e)):=by
     unfold Instr.buildSlice;simp only [Sem.run_bind,aq hu,Result.andThen_ok,aW hinf,hsz];rw [if_neg (by omega)];by_cases hn0:n * sz = 0
     ·have hn:n = 0:=by rcases Nat.mul_eq_zero.1 hn0 with h | h <;> omega
      subst hn;have hmap:∀ g:Nat → Value,(Array.range (0 * sz)).map g = #[]:=fun g=>by apply Array.ext'; simp
      rw [hmap] at f1;rw [if_pos hn0,Sem.run_bind,Sem.run_pure,Result.andThen_ok,hmap,hlist,f1];simp [newRow]
     ·rw [if_neg hn0];simp [zeroValue,typeInfo,hinfo,hzero,f1,newRow]
    generalize hxs:gJ ρ (List.replicate n .undef) ps = xs at *;have hlen:xs.length = n:=f4;obtain ⟨s1,e1,e2,e3,i1,g1,r1,_⟩:=hi.E4 e n (by omega) f3;rw [hlen] at r1;obtain ⟨s3,b1,b2,i3,g3,k3,_⟩:=i1.fO (b:=b) (by rw [e1]; exact hb) sz (some ⟨s.w.heap.size,0,none⟩) n;refine aA.value (av _ _ _ _ hrun) (b2.trans e3) i3 (g1.trans g3) (v:=.oslice sz xs b 0) (.oslice _ _ _ _ _ (r1.keeps g3.keeps) k3) ?_;rw [b1,e1]; exact h
  | _=>simp [hu] at hc
theorem C8:∀ {l:List aP} {m:List Operand},fj l m = true → ∀ x ∈ l, ∃ y,aO x y = true
 | [],[],_,x,hx=>by cases hx
 | a :: r,b :: t,h,x,hx=>by
  simp only [fj,Bool.and_eq_true] at h;rcases List.mem_cons.1 hx with rfl | hx
  ·exact ⟨b,h.1⟩
  ·exact C8 h.2 x hx
 | [],_ :: _,h,_,_=>by simp [fj] at h
 | _ :: _,[],h,_,_=>by simp [fj] at h
theorem dN.named (hf:dN s N fr a) {x:aP} (hy:∃ y,aO x y = true) (hg:opg fr.v x = true):∀ b ∈ (opv fr.v x).et, ∃ k u,s.lam b k = some u:=
 let ⟨_,h⟩:=hy; (hf.opr h hg).et
theorem xY {e:Env}:∀ {l:List aP},dB e l → ∀ x ∈ l,opg e x = true
 | a :: r,h,x,hx=>by
  rcases List.mem_cons.1 hx with rfl | hx
  ·exact h.1
  ·exact xY h.2 x hx
theorem xB {v:ag} {b:Nat} (h:(oF v).reads b):b ∈ v.et:=by
 cases v <;> simp [oF,cJ.reads] at h <;> simp [ag.et,h]
theorem Inv.Li (hi:Inv A s) {n:Nat} (hb:s.h[n]? = some .hole) (hl:s.h.length = n + 1):∃ s',s'.h = s.h.take n ∧ s'.h.length = n ∧ s'.w = s.w ∧ Inv A s' ∧ bP s s':=by
 let s':St:={ s with h:=s.h.take n }
 have hlen:s'.h.length = n:=by simp [s',hl]
 have hget:∀ b o,s'.h[b]? = some o → s.h[b]? = some o:=fun b o h=>by
  have hlt:b < n:=by
   rcases Nat.lt_or_ge b n with h' | h'
   ·exact h'
   ·rw [List.getElem?_eq_none (by rw [hlen]; exact h')] at h; cases h
  simpa [s',List.getElem?_take,hlt] using h
 have hk:br s s':=⟨fun _ _ _ h=>h,fun _ _ h=>h,fun _ _ _=>rfl⟩;have hown:∀ b o blk,cY s' b o blk → cY s b o blk:=fun b o blk h=>by cases o <;> exact h
 refine ⟨s',rfl,hlen,rfl,⟨hi.below,fun b o h=>(hi.obj b o (hget b o h)).H9 hk (fun _ _=>rfl) (fun _ _ _ h=>h) (fun _=>rfl),fun b b' o o' blk h1 h2 w1 w2=>hi.excl b b' o o' blk (hget _ _ h1) (hget _ _ h2) (hown _ _ _ w1) (hown _ _ _ w2),fun b k h=>?_,hi.scell,hi.laid⟩,
  ⟨hk,Nat.le_refl _,fun _ _ _=>rfl,fun blk ⟨b,o,h1,h2⟩=>.inr ⟨b,o,hget _ _ h1,hown _ _ _ h2⟩,fun _ _ h=>.inl h⟩⟩
 rw [hlen] at h;rcases Nat.lt_or_ge b (n + 1) with h' | h'
 ·have:b = n:=by omega
  subst this;exact hi.obj b _ hb k
 ·exact hi.fresh b k (by omega)
theorem A0 {ops:Array Oper} {ro:Option Nat} {i:Nat} {o:Oper} {ao:aK} (ho:ops[i]? = some o) (hcG:wJ ops ao.g o.guard = true) (hcI:bp P ao.i o.op = true)
  (hi:Inv A s) (hf:dN s N fr a) {e:Env} {σ:af} {q:DR} (hst:uz P ao e σ q) (hop:∀ x ∈ b7 ao,fr.v.get x = e.get x)
  (hrd:∀ b,q.e.reads b → b < σ.length → (∃ k u,s.lam b k = some u) → s.h.get b = σ.get b)
  (hwr:∀ b o',q.e = .wr b o' → b < σ.length → (∃ k u,s.lam b k = some u) → s.h.get b = σ.get b)
  (hal:∀ o',q.e = .al o' → s.h[σ.length]? = some .hole) (hlast:∀ sz f dn l,ao.i = .callA sz f dn l → s.h.length = σ.length + 1) {K:Act → World → Prop} {Q:Exit → Act → World → Prop}
  (hK:∀ c s',Inv A s' → bP s s' → s'.h = q.e.rj σ.length s.h → Rv s' q.v c → (∀ b o',q.e = .wr b o' → b < σ.length ∧ ∃ k u,s.lam b k = some u) → K (a.put o.dst c) s'.w) :
  wpOpIn (Fro ro) 0 P ops Q i K a s.w:=by
 obtain ⟨c,hgc,h⟩:=hst;have hne:=gz hcI;have hops:=wx (l:=ao.i.dh) (e:=e) (e':=fr.v) (fun n hn=>hop n (by unfold b7; exact List.mem_append_left _ hn))
 -- the guard
 have hw:(Region.wanted o (yielded ops a.tmps)) = c:=by
  cases hag:ao.g with
  | none=>
   rw [hag] at hcG hgc;have hgn:o.guard = none:=by cases hgu:o.guard with
    | none=>rfl
    | some x=>rw [hgu] at hcG; simp [wJ] at hcG
   simp only [eu,Option.some.injEq] at hgc;simp [Region.wanted,hgn,hgc]
  | some gd=>
   rw [hag] at hcG hgc;refine iZ hf hcG (g:=c) ?_;have:=hop gd.1 (by simp [b7,hag]);simp only [eu,gI] at hgc ⊢;rw [this]; exact hgc
 unfold wpOpIn;rw [ho];simp only [hw]
 -- what runs
 have run:c = true → (∀ K':ag → af → Prop,(∀ v,K' v (q.e.rj σ.length s.h) → True) → True):=fun _ _ _=>trivial
 have go:∀ (v:ag),q.v = oM ao.g true v → (∀ b o',q.e = .wr b o' → b < σ.length ∧ ∃ k u,s.lam b k = some u) →
   aA P A s (fun v' σ'=>v' = v ∧ σ' = q.e.rj σ.length s.h) (fun _ _=>False) ((execOp a.eval o).run P s.w) → o.wpIn (Fro ro) 0 P a s.w K Q:=by
  intro v hqv hlam hso;refine ⟨fun _ _=>trivial, ?_⟩;rw [Oper.semAt_eq _ _ _ hne];refine lz hso (fun v' cc s' h1 h2 h3 h4=>hK cc s' h1 h2 h4.2 ?_ hlam) (fun _ _ _ _ _ _ h4=>h4.elim);rw [hqv];have:=h3; rw [h4.1] at this;unfold oM; split
  ·exact this
  ·exact .optT _ _ this
 have quiet:ao.i.quiet = true → (c = true → jP e σ ao.i) → q = ⟨oM ao.g c (lx e σ ao.i),iS e ao.i⟩ → (if c = true then o.wpIn (Fro ro) 0 P a s.w K Q else (∀ f,o.about P s.w a.eval = some f → (Fro ro).fn f) ∧ K (a.put o.dst undef) s.w):=by
  intro hq hs hqe
  cases c with
  | false=>
   simp only [Bool.false_eq_true,if_false];refine ⟨fun _ _=>trivial,hK _ s hi (.refl s) ?_ ?_ ?_⟩
   ·rw [hqe]; exact sP.symm
   ·rw [hqe];unfold oM; split
    ·rename_i hg; rw [hg] at hgc; simp [eu] at hgc
    ·exact .optF _
   ·rw [hqe]; intro b o' hh; exact absurd hh vJ
  | true=>
   simp only [if_true];have hs:=hs rfl
   -- what it reads is there
   have hH:∀ b,(iS e ao.i).reads b → b < σ.length → s.h.get b = σ.get b:=by
    intro b hb hlt;refine hrd b (by rw [hqe]; exact hb) hlt ?_
    cases hai:ao.i with
    | load k x=>
     rw [hai] at hb hs hops hcI;have hx:=hops x (by simp [AI.dh,AI.opers]);have hy:∃ y,aO x y = true:=by
      generalize o.op = op at hcI;cases op <;> simp [bp] at hcI;exact ⟨_,hcI.2⟩
     have hg:opg fr.v x = true:=hx.2.trans hs.1.1;refine hf.named hy hg b ?_;rw [hx.1]; exact xB hb
    | lookup ok z x i=>
     rw [hai] at hb hs hops hcI;have hx:=hops x (by simp [AI.dh,AI.opers]);have hy:∃ y,aO x y = true:=by
      generalize o.op = op at hcI;cases op <;> simp only [bp] at hcI <;> first | (cases hcI; done) | skip
      split at hcI
      ·simp only [Bool.and_eq_true] at hcI; exact ⟨_,hcI.1.2⟩
      ·cases hcI
     have hg:opg fr.v x = true:=hx.2.trans hs.1.1;refine hf.named hy hg b ?_;rw [hx.1]; exact xB hb
    | _=>rw [hai] at hb; exact hb.elim
   have hqc:=mF hcI hq hops hs hH;obtain ⟨cc,e1,e2⟩:=iy hi hf hcI hq hqc.1;refine go (lx e σ ao.i) (by rw [hqe]) (by rw [hqe]; intro b o' hh; exact absurd hh vJ) (aA.value e1 rfl hi (.refl s) e2 ⟨hqc.2, ?_⟩);rw [hqe]; exact sP.symm
 cases hai:ao.i with
 | call f dn l=>
  rw [hai] at h;obtain ⟨h1,v,h2,h3⟩:=h
  cases c with
  | false=>
   simp only [Bool.false_eq_true,if_false];refine ⟨fun _ _=>trivial,hK _ s hi (.refl s) ?_ ?_ ?_⟩
   ·rw [h1]; exact xl.symm
   ·rw [h2];unfold oM; split
    ·rename_i hg; rw [hg] at hgc; simp [eu] at hgc
    ·exact .optF _
   ·rw [h1]; intro b o' hh; exact absurd hh BZ
  | true=>
   simp only [if_true];obtain ⟨hn,hcall⟩:=h3 rfl;have hops':∀ x ∈ (f :: l),opv fr.v x = opv e x ∧ opg fr.v x = opg e x:=fun x hx=>hops x (by rw [hai]; exact hx);have hn':=ea hops' hn;have hy:∀ x ∈ (f :: l), ∃ y,aO x y = true:=by
    rw [hai] at hcI;generalize o.op = op at hcI;cases op <;> simp only [bp] at hcI <;> first | (cases hcI; done) | skip
    rename_i cc;obtain ⟨cal,args,tys⟩:=cc;simp only at hcI
    split at hcI
    ·simp only [Bool.and_eq_true] at hcI;intro x hx;rcases List.mem_cons.1 hx with rfl | hx
     ·exact ⟨_,hcI.1⟩
     ·exact C8 hcI.2 x hx
    ·cases hcI
   have hmap:(opv fr.v f :: l.map (opv fr.v)) = (opv e f :: l.map (opv e)):=by
    rw [(hops' f (by simp)).1]; congr 1;exact List.map_congr_left fun x hx=>(hops' x (by simp [hx])).1
   have hmap1:opv fr.v f = opv e f:=(List.cons.inj hmap).1;have hmap2:l.map (opv fr.v) = l.map (opv e):=(List.cons.inj hmap).2;have hbl:∀ b ∈ pM σ (opv e f :: l.map (opv e)),b < σ.length → s.h.get b = σ.get b:=by
    by_cases hp:aG (opv e f :: l.map (opv e)) = true
    ·intro b hb; rw [pM,fN hp] at hb; cases hb
    have hsub:∀ b,b ∈ pM σ (opv e f :: l.map (opv e)) → q.e.reads b:=fun b hb=>by rw [h1,rdL,if_neg hp]; exact hb
    have hnam:∀ b ∈ gG (opv e f :: l.map (opv e)), ∃ k u,s.lam b k = some u:=by
     intro b hb;rw [← hmap] at hb;have:∃ x ∈ (f :: l),b ∈ (opv fr.v x).et:=by
      obtain ⟨j,g1,g2⟩:=gf.1 hb
      cases j with
      | zero=>exact ⟨f,by simp,g2⟩
      | succ j=>exact ⟨l[j]'(by simpa using g1),by simp,by simpa using g2⟩
     obtain ⟨x,hx,hxb⟩:=this;exact hf.named (hy x hx) (xY hn' x hx) b hxb
    have h1st:∀ b ∈ gG (opv e f :: l.map (opv e)),b < σ.length → s.h.get b = σ.get b:=fun b hb hlt=>
     hrd b (hsub b (List.mem_append.2 (.inl hb))) hlt (hnam b hb)
    intro b hb hlt;rcases List.mem_append.1 hb with hb1 | hb1
    ·exact h1st b hb1 hlt
    ·obtain ⟨b0,hb0,hb2⟩:=List.mem_flatMap.1 hb1
     cases hg:σ.get b0 with
     | box cs=>
      rw [hg] at hb2;have hlt0:b0 < σ.length:=af.cE (by rw [hg]; simp);have hs0:=h1st b0 hb0 hlt0;rw [hg] at hs0;obtain ⟨blk,vs,el,g1,g2,g3,g4,g5,g6⟩:=hi.obj b0 _ (af.get_some hs0 (by simp));obtain ⟨jj,k1,k2⟩:=gf.1 hb2;exact hrd b (hsub b hb) hlt ((g5 jj k1 (by omega)).et b k2)
     | _=>rw [hg] at hb2; cases hb2
   refine go v (by rw [h2]) (by rw [h1]; intro b o' hh; exact absurd hh BZ) (eM hi hf hcI ?_);rw [hai];refine ⟨hn', ?_⟩;show aH P (opv fr.v f) (cF dn (l.map (opv fr.v))) s.h _;rw [hmap1,hmap2];refine (hcall s.h hbl).mono ?_;rintro r σ' ⟨rfl,rfl⟩;exact ⟨rfl,by rw [h1]; exact xl.symm⟩
 | box n x=>
  rw [hai] at h hops;obtain ⟨h1,h2,h3,rfl⟩:=h;rw [h1] at hgc; simp only [eu,Option.some.injEq] at hgc; subst hgc;simp only [if_true];have hx:=hops x (by simp [AI.dh,AI.opers]);refine go (.ptr σ.length 0) (by rw [h1]; rfl) (by intro b o' hh; cases hh) ?_;obtain ⟨dst,op,type,pos,after,guard⟩:=o;rw [hai] at hcI;simp only at hcI;cases op <;> simp only [bp] at hcI <;> first | (cases hcI; done) | skip
  simp only [Bool.and_eq_true,beq_iff_eq] at hcI;have hv:=hf.opr hcI.2 (hx.2.trans h2.1);rw [hx.1] at hv;exact Km hi (hal _ rfl) hv h3 ⟨rfl,rfl⟩
 | alloc z=>
  rw [hai] at h;obtain ⟨h1,h2,rfl⟩:=h;rw [h1] at hgc; simp only [eu,Option.some.injEq] at hgc; subst hgc;simp only [if_true];refine go (.ptr σ.length 0) (by rw [h1]; rfl) (by intro b o' hh; cases hh) ?_;obtain ⟨dst,op,type,pos,after,guard⟩:=o;rw [hai] at hcI;simp only at hcI;cases op <;> simp only [bp] at hcI <;> first | (cases hcI; done) | skip
  exact FR hi (hal _ rfl) hcI h2 ⟨rfl,rfl⟩
 | callA sz f dn l=>
  rw [hai] at h hops;obtain ⟨h1,h2,xs,h3,rfl⟩:=h;rw [h1] at hgc; simp only [eu,Option.some.injEq] at hgc; subst hgc;simp only [if_true];have hops':∀ x ∈ (f :: l),opv fr.v x = opv e x ∧ opg fr.v x = opg e x:=fun x hx=>hops x hx;have hn':=ea hops' h2;have hmap1:opv fr.v f = opv e f:=(hops' f (by simp)).1;have hmap2:l.map (opv fr.v) = l.map (opv e):=List.map_congr_left fun x hx=>(hops' x (by simp [hx])).1;have hb:=hal _ rfl;obtain ⟨s1,e1,e1',e2,i1,g1⟩:=hi.Li hb (hlast _ _ _ _ hai);have hcI':bp P (.call f dn l) o.op = true:=by rw [hai] at hcI; exact hcI
  refine go (.oslice sz xs σ.length 1) (by rw [h1]; rfl) (by intro b o' hh; cases hh) ?_;rw [← e2];refine aA.from g1 (eM i1 (hf.keeps g1.keeps) hcI' ⟨hn', ?_⟩);show aH P (opv fr.v f) (cF dn (l.map (opv fr.v))) s1.h _;rw [hmap1,hmap2];refine (h3 s1.h).mono ?_;rintro r σ' ⟨rfl,rfl⟩;rw [e1'];refine ⟨rfl, ?_⟩;show s1.h ++ [.spare sz 1] = s.h.set σ.length (.spare sz 1);rw [e1];have hlen:=hlast _ _ _ _ hai;apply List.ext_getElem?;intro j;rcases Nat.lt_trichotomy j σ.length with hj | hj | hj
  ·rw [List.getElem?_append_left (by simp; omega),List.getElem?_set_ne (by omega),List.getElem?_take,if_pos hj]
  ·subst hj;rw [List.getElem?_append_right (by simp; omega),List.getElem?_set_self (by omega)];simp [hlen]
  ·rw [List.getElem?_eq_none (by simp; omega),List.getElem?_eq_none (by simp; omega)]
 | mnew=>
  rw [hai] at h;obtain ⟨h1,rfl⟩:=h;rw [h1] at hgc; simp only [eu,Option.some.injEq] at hgc; subst hgc;simp only [if_true];refine go (.map σ.length) (by rw [h1]; rfl) (by intro b o' hh; cases hh) ?_;obtain ⟨dst,op,type,pos,after,guard⟩:=o;rw [hai] at hcI;simp only at hcI;cases op <;> simp only [bp] at hcI <;> first | (cases hcI; done) | skip
  simp only [Bool.and_eq_true] at hcI;exact HF (fun _=>rfl) hi (hal _ rfl) hcI.1 hcI.2 ⟨rfl,rfl⟩
 | mksl m sz bytes z n k=>
  rw [hai] at h hops;obtain ⟨rfl,h2,h3,h4,rfl⟩:=h;rw [h2] at hgc; simp only [eu,Option.some.injEq] at hgc; subst hgc;simp only [if_true];have hn:=hops n (by simp [AI.dh,AI.opers]);have hk:=hops k (by simp [AI.dh,AI.opers]);refine go (.sref sz σ.length 0 (cK (opv e n)).toNat (cK (opv e n)).toNat) (by rw [h2]; rfl) (by intro b o' hh; cases hh) ?_;obtain ⟨dst,op,type,pos,after,guard⟩:=o;rw [hai] at hcI;simp only at hcI;cases op <;> simp only [bp] at hcI <;> first | (cases hcI; done) | skip
  rename_i t n' c'
  cases hu:P.underlying t with
  | none=>rw [hu] at hcI; simp at hcI
  | some d=>
   cases d with
   | slice e'=>
    rw [hu] at hcI;simp only at hcI
    cases hinf:P.info? e' with
    | none=>rw [hinf] at hcI; simp at hcI
    | some i=>
     rw [hinf] at hcI;simp only at hcI
     cases hzv:i.zero with
     | none=>rw [hzv] at hcI; simp at hcI
     | some v=>
      rw [hzv] at hcI;simp only [Bool.and_eq_true,beq_iff_eq,decide_eq_true_eq] at hcI;obtain ⟨⟨⟨⟨c1,c2⟩,⟨⟨c3,c4⟩,⟨c5,c6⟩⟩⟩,c7⟩,c8⟩:=hcI;have hvn:=hf.opr c7 (hn.2.trans h3.1);have hvk:=hf.opr c8 (hk.2.trans h3.2.1);rw [hn.1] at hvn;rw [hk.1] at hvk;exact Hz hi (hal _ rfl) hu hinf hzv c4 c3 c5 c6 hvn hvk h4.1 h4.2.1 h4.2.2.1 h4.2.2.2.1 h4.2.2.2.2.1 h4.2.2.2.2.2 ⟨rfl,rfl⟩
   | _=>rw [hu] at hcI; simp at hcI
 | store sz x v=>
  rw [hai] at h hops;obtain ⟨h1,h2,h3,h4,h5⟩:=h;rw [h1] at hgc; simp only [eu,Option.some.injEq] at hgc; subst hgc;simp only [if_true];have hx:=hops x (by simp [AI.dh,AI.opers]);have hv:=hops v (by simp [AI.dh,AI.opers]);obtain ⟨dst,op,type,pos,after,guard⟩:=o;have hcI':=hcI;rw [hai] at hcI;simp only at hcI;cases op <;> simp only [bp] at hcI <;> first | (cases hcI; done) | skip
  simp only [Bool.and_eq_true,beq_iff_eq] at hcI;obtain ⟨⟨⟨c1,c2⟩,c3⟩,c4⟩:=hcI;have rx:=hf.opr c3 (hx.2.trans h2.1);have rv:=hf.opr c4 (hv.2.trans h2.2.1);rw [hx.1] at rx;rw [hv.1] at rv
  -- the block that is written
  have hblk:∃ b o',q.e = .wr b o' ∧ b ∈ (opv e x).et ∧ σ.get b ≠ .dead:=by
   generalize opv e x = ax at h5
   cases ax with
   | ptr b off=>
    simp only [tw] at h5;cases hg:σ.get b <;> rw [hg] at h5 <;> first | (cases h5; done) | skip
    exact ⟨b,_,(Option.some.inj h5).symm,by simp [ag.et],by rw [hg]; simp⟩
   | eptr sz b i f n=>
    simp only [tw] at h5;cases hg:σ.get b <;> rw [hg] at h5 <;> first | (cases h5; done) | skip
    exact ⟨b,_,(Option.some.inj h5).symm,by simp [ag.et],by rw [hg]; simp⟩
   | _=>cases h5
  obtain ⟨b,o',hq,hb,hnd⟩:=hblk;have hlt:=af.cE hnd;have hlam:=rx.et b hb;have hget:=hwr b o' hq hlt hlam;have hso:fA s.h sz (opv e v) (opv e x) ∧ iH s.h (opv e v) (opv e x) = q.e.rj σ.length s.h:=by
   revert h3 h5 hb;generalize opv e x = ax;intro h3 h5 hb
   cases ax with
   | ptr b' off=>
    simp [ag.et] at hb; subst hb;simp only [fA,iH,tw,hget] at h3 h5 ⊢;refine ⟨h3, ?_⟩;cases hg:σ.get b <;> rw [hg] at h5 <;> first | (cases h5; done) | skip
    rw [← Option.some.inj h5]; rfl
   | eptr sz' b' i' f n=>
    simp [ag.et] at hb; subst hb;simp only [fA,iH,tw,hget] at h3 h5 ⊢;refine ⟨h3, ?_⟩;cases hg:σ.get b <;> rw [hg] at h5 <;> first | (cases h5; done) | skip
    rw [← Option.some.inj h5]; rfl
   | _=>cases h5
  refine go .undef (by rw [h4,h1]; rfl) (by intro b1 o1 hh; rw [hq] at hh; cases hh; exact ⟨hlt,hlam⟩) ?_;exact kq hi c1 c2 rx rv hso.1 ⟨rfl,hso.2⟩
 | append sz bytes x y=>
  rw [hai] at h hops;obtain ⟨h1,h2,h3⟩:=h;rw [h1] at hgc; simp only [eu,Option.some.injEq] at hgc; subst hgc;simp only [if_true];have hx:=hops x (by simp [AI.dh,AI.opers]);have hy:=hops y (by simp [AI.dh,AI.opers]);obtain ⟨ys,b,o',v,q1,q2,q3,q4,q5,rfl,q7,_⟩:=nq h3;have hlt:b < σ.length:=af.cE q5;have hoy:∃ z,aO x z = true:=by
   have hcI':=hcI;rw [hai] at hcI';generalize o.op = op at hcI';cases op <;> simp only [bp] at hcI' <;> first | (cases hcI'; done) | skip
   split at hcI'
   ·split at hcI'
    ·split at hcI'
     ·simp only [Bool.and_eq_true] at hcI';exact ⟨_,hcI'.1.2⟩
     ·cases hcI'
    ·cases hcI'
   ·cases hcI'
  have hlam:=hf.named hoy (hx.2.trans h2.1) b (by rw [hx.1]; exact q4);have hget:=hwr b _ rfl hlt hlam;refine go v (by rw [h1]; rfl) (by intro b1 o1 hh; cases hh; exact ⟨hlt,hlam⟩) (eM hi hf hcI ?_);rw [hai];obtain ⟨f1,f2⟩:=yW q1 s.h sz;refine ⟨ea (fun z hz=>hops z (by simpa [AI.dh,AI.opers] using hz)) h2, ?_⟩;simp only [ep,hx.1,hy.1,f1];exact ⟨f2.2 q2,q3,q7 s.h hget _ ⟨rfl,rfl⟩⟩
 | lit m sz n ps=>
  rw [hai] at h hops;by_cases hm:m = 0;rotate_left
  ·by_cases hm1:m = 1
   ·simp only [if_neg hm,if_pos hm1] at h;obtain ⟨h2,h3,h4,rfl⟩:=h;rw [h2] at hgc; simp only [eu,Option.some.injEq] at hgc; subst hgc;simp only [if_true];refine go (.oslice sz (gJ (opv e) (List.replicate n .undef) ps) σ.length 0) (by rw [h2]; rfl) (by intro b o' hh; cases hh) ?_;have hps:∀ x ∈ ps.map (·.2),opn fr.v x = opv e x:=fun x hx=>(jA (ea (fun x hx=>hops x (by simpa [AI.dh,AI.opers] using hx)) h3) x hx).symm.trans (hops x (by simpa [AI.dh,AI.opers] using hx)).1;obtain ⟨dst,op,type,pos,after,guard⟩:=o;rw [hai] at hcI;simp only at hcI
    cases op with
    | buildSlice t n' parts=>
     have hn:n' = n:=by
      simp only [bp] at hcI
      cases hu:P.underlying t with
      | none=>simp [hu] at hcI
      | some d=>
       cases d <;> simp [hu] at hcI;exact hcI.1.1.1.1.2.symm
     subst hn;refine Hq hi (hal _ rfl) hf.agree hcI ((fY hps).2 h4) ⟨by rw [ie hps],rfl⟩
    | _=>simp only [bp] at hcI; cases hcI
   ·simp only [if_neg hm,if_neg hm1] at h;obtain ⟨h1,h2,h3,h4,rfl⟩:=h;rw [h2] at hgc; simp only [eu,Option.some.injEq] at hgc; subst hgc;simp only [if_true];refine go (.sref sz σ.length 0 n n) (by rw [h2]; rfl) (by intro b o' hh; cases hh) ?_;have hps:∀ x ∈ ps.map (·.2),opn fr.v x = opv e x:=fun x hx=>(jA (ea (fun x hx=>hops x (by simpa [AI.dh,AI.opers] using hx)) h3) x hx).symm.trans (hops x (by simpa [AI.dh,AI.opers] using hx)).1;obtain ⟨dst,op,type,pos,after,guard⟩:=o;rw [hai] at hcI;simp only at hcI
    cases op with
    | buildSlice t n' parts=>
     have hn:n' = n:=by
      simp only [bp] at hcI
      cases hu:P.underlying t with
      | none=>simp [hu] at hcI
      | some d=>
       cases d <;> simp [hu] at hcI;exact hcI.1.1.1.1.2.symm
     subst hn;refine Ki hi (hal _ rfl) hf.agree hcI ((fY hps).2 h4) ⟨rfl, ?_⟩;rw [ie hps]; rfl
    | _=>simp only [bp] at hcI; cases hcI
  subst hm;simp only [if_true] at h;obtain ⟨h34,rfl⟩:=h
  cases c with
  | false=>
   simp only [Bool.false_eq_true,if_false];refine ⟨fun _ _=>trivial,hK _ s hi (.refl s) rfl ?_ (by intro b o' hh; cases hh)⟩;unfold oM; split
   ·rename_i hg; rw [hg] at hgc; simp [eu] at hgc
   ·exact .optF _
  | true=>
  obtain ⟨h3,h4⟩:=h34 rfl;simp only [if_true];have hps:∀ x ∈ ps.map (·.2),opv e x = opv fr.v x:=fun x hx=>(hops x (by simpa [AI.dh,AI.opers] using hx)).1.symm;refine go (.slice sz (gJ (opv e) (List.replicate n .undef) ps)) rfl (by intro b o' hh; cases hh) (eM hi hf hcI ?_);rw [hai];refine ⟨ea (fun x hx=>hops x (by simpa [AI.dh,AI.opers] using hx)) h3,(fY hps).1 h4, ?_⟩;simp only [if_true];exact ⟨by rw [ie hps],rfl⟩
 | load k x=>rw [hai] at h; exact quiet (by rw [hai]; rfl) (by rw [hai]; exact h.2.1) (by rw [hai]; exact h.2.2)
 | lookup ok z x i=>rw [hai] at h; exact quiet (by rw [hai]; rfl) (by rw [hai]; exact h.2.1) (by rw [hai]; exact h.2.2)
 | _=>rw [hai] at h; exact quiet (by rw [hai]; exact h.1) (by rw [hai]; exact h.2.1) (by rw [hai]; exact h.2.2)
end
end Go.AM
