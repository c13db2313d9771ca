/- A region whose order Go leaves open, first half: what it comes to in the order of its text, and which parts of the abstract heap each operation touches. A region whose order Go leaves open, second .. -/
import Derived.Test.YthhmdhiiicipkaaGreatDoorP9
namespace Go.AM
open Go.RowKit
mutual
def ab.pure:ab → Bool
  | .undef | .bool _ | .int _ _ | .str _ | .nilptr | .nilfunc | .niliface | .nilmap | .mint _=>true
  | .agg cs=>aA cs
  | .tup cs=>aA cs
  | .slice _ xs=>aA xs
  | .pval v=>v.pure
  | .func _ a b=>aA a && aA b
  | .iface _ v=>v.pure
  | .opt _ v=>v.pure
  | _=>false
def aA:List ab → Bool
  | []=>true
  | v :: r=>v.pure && aA r
end
mutual
def ab.ep:ab → List Nat
  | .agg cs=>gC cs
  | .tup cs=>gC cs
  | .slice _ xs=>gC xs
  | .oslice _ xs b _=>b :: gC xs
  | .sref _ b _ _ _=>[b]
  | .pval v=>v.ep
  | .ptr b _=>[b]
  | .eptr _ b _ _ _=>[b]
  | .func _ a b=>gC a ++ gC b
  | .iface _ v=>v.ep
  | .map b=>[b]
  | .iter b=>[b]
  | .yieldf b=>[b]
  | .opt g v=>if g then v.ep else []
  | _=>[]
def gC:List ab → List Nat
  | []=>[]
  | v :: r=>v.ep ++ gC r
end
mutual
theorem mA:∀ {v:ab},v.pure = true → v.ep = []
  | .undef,_ | .bool _,_ | .int _ _,_ | .str _,_ | .nilptr,_ | .nilfunc,_ | .niliface,_ | .nilmap,_ | .mint _,_=>rfl
  | .agg cs,h=>fD (l:=cs) h
  | .tup cs,h=>fD (l:=cs) h
  | .slice _ xs,h=>fD (l:=xs) h
  | .pval v,h=>mA (v:=v) h
  | .func _ a b,h=>by
    simp only [ab.pure,Bool.and_eq_true] at h
    simp only [ab.ep,fD h.1,fD h.2,List.append_nil]
  | .iface _ v,h=>mA (v:=v) h
  | .opt g v,h=>by
    simp only [ab.ep,mA (v:=v) h]; split <;> rfl
  | .oslice _ _ _ _,h | .sref _ _ _ _ _,h | .ptr _ _,h | .eptr _ _ _ _ _,h | .map _,h | .iter _,h | .yieldf _,h | .nils _,h=>by simp [ab.pure] at h
theorem fD:∀ {l:List ab},aA l = true → gC l = []
  | [],_=>rfl
  | v :: r,h=>by
    simp only [aA,Bool.and_eq_true] at h
    simp only [gC,mA h.1,fD h.2,List.append_nil]
end
theorem gM:∀ {l:List ab} {b:Nat},b ∈ gC l ↔ ∃ j, ∃ h:j < l.length,b ∈ l[j].ep
  | [],b=>by simp [gC]
  | v :: r,b=>by
    simp only [gC,List.mem_append,gM (l:=r)]
    constructor
    · rintro (h | ⟨j,h1,h2⟩)
      · exact ⟨0,by simp,h⟩
      · exact ⟨j + 1,by simpa using h1,by simpa using h2⟩
    · rintro ⟨j,h1,h2⟩
      cases j with
      | zero=>exact .inl h2
      | succ j=>exact .inr ⟨j,by simpa using h1,by simpa using h2⟩
theorem Rv.ep {s:St} {v:ab} {c:Value} (h:Rv s v c):∀ b ∈ v.ep, ∃ k u,s.lam b k = some u:=by
  induction h with
  | agg cs vs hl _ ih=>intro b hb; obtain ⟨j,h1,h2⟩:=gM.1 hb; exact ih j h1 (by omega) b h2
  | tup cs vs hl _ ih=>intro b hb; obtain ⟨j,h1,h2⟩:=gM.1 hb; exact ih j h1 (by omega) b h2
  | slice sz xs blk off len cap us hl hn hc _ hm ih=>intro b hb; obtain ⟨j,h1,h2⟩:=gM.1 hb; exact ih j h1 (by omega) b h2
  | oslice sz xs b k c hs hl ih=>
    intro b' hb
    rcases List.mem_cons.1 hb with rfl | hb
    · exact ⟨k,c,hl⟩
    · exact ih b' hb
  | sref sz b off len n blk cap hl h1 h2=>intro b' hb; simp [ab.ep] at hb; subst hb; exact ⟨_,_,hl⟩
  | srefE sz b off n a v hl h0 h1=>intro b' hb; simp [ab.ep] at hb; subst hb; exact ⟨_,_,hl⟩
  | sref0 sz b a hl=>intro b' hb; simp [ab.ep] at hb; subst hb; exact ⟨_,_,hl⟩
  | pval v u blk off _ hm ih=>exact ih
  | ptr b off blk hl=>intro b' hb; simp [ab.ep] at hb; subst hb; exact ⟨_,_,hl⟩
  | eptr sz b i f n blk cap hl=>intro b' hb; simp [ab.ep] at hb; subst hb; exact ⟨_,_,hl⟩
  | func fn first caps fi ca hf hc _ _ ih1 ih2=>
    intro b hb
    rcases List.mem_append.1 hb with h | h
    · obtain ⟨j,h1,h2⟩:=gM.1 h; exact ih1 j h1 (by omega) b h2
    · obtain ⟨j,h1,h2⟩:=gM.1 h; exact ih2 j h1 (by omega) b h2
  | iface t v u _ ih=>exact ih
  | map b blk hl=>intro b' hb; simp [ab.ep] at hb; subst hb; exact ⟨_,_,hl⟩
  | optT v c _ ih=>intro b hb; simp [ab.ep] at hb; exact ih b hb
  | optF v=>intro b hb; simp [ab.ep] at hb
  | iter b blk hl=>intro b' hb; simp [ab.ep] at hb; subst hb; exact ⟨_,_,hl⟩
  | yieldf b blk hl=>intro b' hb; simp [ab.ep] at hb; subst hb; exact ⟨_,_,hl⟩
  | _=>intro b hb; simp [ab.ep,gC] at hb
inductive cj where
  | no
  | rd (l:List Nat)
  | al (o:aQ)
  | wr (b:Nat) (o:aQ)
structure DR where
  v:ab
  e:cj
def cj.run (σ:ag):cj → ag
  | .al o=>σ ++ [o]
  | .wr b o=>σ.set b o
  | _=>σ
def cj.nr:cj → cj → Bool
  | .wr b _, .wr c _=>b == c
  | .wr b _, .rd l=>l.contains b
  | .rd l, .wr c _=>l.contains c
  | _,_=>false
def jP (bef:List (List Nat)) (j:Nat) (e:cj):List cj → Nat → Bool
  | [],_=>true
  | f :: r,i=>(!e.nr f || (bef.getD j []).contains i) && jP bef j e r (i + 1)
def dY (bef:List (List Nat)):List cj → List cj → Nat → Bool
  | _,[],_=>true
  | before,e :: r,j=>jP bef j e before 0 && dY bef (before ++ [e]) r (j + 1)
def oI:ab → cj
  | .ptr b _=>.rd [b]
  | .eptr _ b _ _ _=>.rd [b]
  | .map b=>.rd [b]
  | _=>.no
def rdL (l:List ab):cj:=if aA l = true then .no else .rd (gC l)
def iN (e:Env):AI → cj
  | .load _ x=>oI (opv e x)
  | .lookup _ _ x _=>oI (opv e x)
  | _=>.no
def rl (σ:ag) (v:ab):ab → Option cj
  | .ptr b off=>match σ.get b with
    | .box cs=>some (.wr b (.box (putCells cs off v.cells)))
    | _=>none
  | .eptr _ b i f _=>match σ.get b with
    | .arr esz xs=>some (.wr b (.arr esz (xs.set i (mH (xs.getD i .undef) f v.cells))))
    | _=>none
  | _=>none
def lq:List ab → Bool
  | []=>true
  | .mint _ :: _=>false
  | _ :: r=>lq r
def p8:ab → Option (List ab)
  | .slice _ xs=>some xs
  | .oslice _ xs _ _=>some xs
  | _=>none
theorem w7 {v:ab} {ys:List ab} (h:p8 v = some ys) (σ:ag) (sz:Nat):v.elems σ = ys ∧ (v.ib σ sz ↔ v.ib [] sz):=by
  cases v <;> simp [p8] at h <;> subst h <;> exact ⟨rfl,Iff.rfl⟩
def uH (sz bytes:Nat) (σ:ag) (x y:ab) (K:ab → cj → Prop):Prop:=
  match p8 y with
  | none=>False
  | some ys=>y.ib [] sz ∧ Fits sz ys ∧ match x with
    | .oslice sz' xs b k=>sz' = sz ∧ (xs.length + ys.length) * bytes ≤ 140737488355328 ∧ match σ.get b with
      | .spare sz'' k'=>sz'' = sz ∧ k' = k ∧ K (.oslice sz (xs ++ ys) b (k + 1)) (.wr b (.spare sz (k + 1)))
      | _=>False
    | .sref sz' b off len n=>sz' = sz ∧ match σ.get b with
      | .arr sz'' xs=>sz'' = sz ∧ xs.length = n ∧ off = 0 ∧ len = n ∧ (n + ys.length) * bytes ≤ 140737488355328 ∧ K (.sref sz b 0 (n + ys.length) (n + ys.length)) (.wr b (.arr sz (xs ++ ys)))
      | _=>False
    | _=>False
theorem ln {sz bytes:Nat} {σ:ag} {x y:ab} {K:ab → cj → Prop} (h:uH sz bytes σ x y K):∃ ys b o v,p8 y = some ys ∧ y.ib [] sz ∧ Fits sz ys ∧ b ∈ x.ep ∧ σ.get b ≠ .dead ∧ K v (.wr b o) ∧
    (∀ H:ag,H.get b = σ.get b → ∀ K':ab → ag → Prop,K' v (H.set b o) → iT sz bytes H x ys K') ∧ (∀ K':ab → cj → Prop,K' v (.wr b o) → uH sz bytes σ x y K'):=by
  unfold uH at h
  cases hf:p8 y with
  | none=>rw [hf] at h; exact h.elim
  | some ys=>
    rw [hf] at h
    obtain ⟨h1,h2,h3⟩:=h
    cases x with
    | oslice sz' xs b k=>
      obtain ⟨rfl,h4,h5⟩:=h3
      cases hg:σ.get b with
      | spare sz'' k'=>
        rw [hg] at h5
        obtain ⟨rfl,rfl,h6⟩:=h5
        refine ⟨ys,b,_,_,rfl,h1,h2,by simp [ab.ep],by rw [hg]; simp,h6,fun H hH K' hk=>?_,fun K' hk=>?_⟩
        · simp only [iT,hH,hg]; exact ⟨trivial,h4,trivial,trivial,hk⟩
        · simp only [uH,hf,hg]; exact ⟨h1,h2,trivial,h4,trivial,trivial,hk⟩
      | _=>rw [hg] at h5; exact h5.elim
    | sref sz' b off len n=>
      obtain ⟨rfl,h5⟩:=h3
      cases hg:σ.get b with
      | arr sz'' xs=>
        rw [hg] at h5
        obtain ⟨rfl,rfl,rfl,rfl,h6,h7⟩:=h5
        refine ⟨ys,b,_,_,rfl,h1,h2,by simp [ab.ep],by rw [hg]; simp,h7,fun H hH K' hk=>?_,fun K' hk=>?_⟩
        · simp only [iT,hH,hg]
          refine ⟨trivial,trivial,trivial, ?_⟩
          split
          · rename_i hle
            have hy:ys = []:=List.eq_nil_of_length_eq_zero (by omega)
            subst hy
            simpa using hk
          · exact ⟨trivial,trivial,h6,hk⟩
        · simp only [uH,hf,hg]; exact ⟨h1,h2,trivial,trivial,trivial,trivial,trivial,h6,hk⟩
      | _=>rw [hg] at h5; exact h5.elim
    | _=>exact h3.elim
def mU (g:Option (Nat × Bool)) (c:Bool) (v:ab):ab:=
  match g with
  | none=>v
  | some _=>.opt c v
def eg (g:Option (Nat × Bool)) (e:Env):Option Bool:=
  match g with
  | none=>some true
  | some gd=>gp e gd
def H8 (bytes:Nat) (n c:ab):Prop:=isInt n ∧ isInt c ∧ 0 ≤ ck n ∧ ck n ≤ ck c ∧ ck c * bytes ≤ 140737488355328 ∧ ck c ≤ 140737488355328
def bc (P : Program) : List ay → Env → ag → List cj → (Env → ag → List cj → Prop) → Prop
  | [],e,σ,es,K=>K e σ es
  | o :: r,e,σ,es,K=>
    match eg o.g e with
    | none=>False
    | some c=>match o.i with
      | .call f dn l=>∃ v,(c = true → du e (f :: l) ∧ ∀ σ',(∀ b ∈ gC (opv e f :: l.map (opv e)),b < σ.length → σ'.get b = σ.get b) → aB P (opv e f) (b7 dn (l.map (opv e))) σ' fun q σ''=>q = .ret v ∧ σ'' = σ') ∧
          bc P r (e.put o.d (mU o.g c v)) σ (rdL (opv e f :: l.map (opv e)) :: es) K
      | .box n x=>o.g = none ∧ du e [x] ∧ bB (opv e x) n ∧ bc P r (e.put o.d (.ptr σ.length 0)) (σ ++ [.box (opv e x).cells]) (.al (.box (opv e x).cells) :: es) K
      | .alloc z=>o.g = none ∧ lq z = true ∧ bc P r (e.put o.d (.ptr σ.length 0)) (σ ++ [.box z]) (.al (.box z) :: es) K
      | .callA sz f dn l=>o.g = none ∧ du e (f :: l) ∧ ∃ xs,(∀ σ',aB P (opv e f) (b7 dn (l.map (opv e))) σ' fun q σ''=>q = .ret (.oslice sz xs σ'.length 1) ∧ σ'' = σ' ++ [.spare sz 1]) ∧
          bc P r (e.put o.d (.oslice sz xs σ.length 1)) (σ ++ [.spare sz 1]) (.al (.spare sz 1) :: es) K
      | .mnew=>o.g = none ∧ bc P r (e.put o.d (.map σ.length)) (σ ++ [.amap []]) (.al (.amap []) :: es) K
      | .mksl m sz bytes z n k=>m = 2 ∧ o.g = none ∧ du e [n,k] ∧ H8 bytes (opv e n) (opv e k) ∧
          bc P r (e.put o.d (.sref sz σ.length 0 (ck (opv e n)).toNat (ck (opv e n)).toNat)) (σ ++ [.arr sz (List.replicate (ck (opv e n)).toNat z)]) (.al (.arr sz (List.replicate (ck (opv e n)).toNat z)) :: es) K
      | .store sz x v=>o.g = none ∧ du e [x,v] ∧ ia σ sz (opv e v) (opv e x) ∧ match rl σ (opv e v) (opv e x) with
        | some f=>bc P r (e.put o.d .undef) (f.run σ) (f :: es) K
        | none=>False
      | .append sz bytes x y=>o.g = none ∧ du e [x,y] ∧ uH sz bytes σ (opv e x) (opv e y) fun v f=>bc P r (e.put o.d v) (f.run σ) (f :: es) K
      | .lit m sz n ps=>if m = 0 then (c = true → du e (ps.map (·.2)) ∧ iw sz n (opv e) ps) ∧ bc P r (e.put o.d (mU o.g c (.slice sz (gz (opv e) (List.replicate n .undef) ps)))) σ (.no :: es) K
        else if m = 1 then o.g = none ∧ du e (ps.map (·.2)) ∧ iw sz n (opv e) ps ∧ bc P r (e.put o.d (.oslice sz (gz (opv e) (List.replicate n .undef) ps) σ.length 0)) (σ ++ [.spare sz 0]) (.al (.spare sz 0) :: es) K
        else m = 2 ∧ o.g = none ∧ du e (ps.map (·.2)) ∧ iw sz n (opv e) ps ∧ bc P r (e.put o.d (.sref sz σ.length 0 n n)) (σ ++ [.arr sz (gz (opv e) (List.replicate n .undef) ps)]) (.al (.arr sz (gz (opv e) (List.replicate n .undef) ps)) :: es) K
      | i=>i.quiet = true ∧ (c = true → ju e σ i) ∧ bc P r (e.put o.d (mU o.g c (kz e σ i))) σ (iN e i :: es) K
def ti (P:Program) (o:ay) (e:Env) (σ:ag) (r:DR):Prop:=
  ∃ c,eg o.g e = some c ∧
    match o.i with
    | .call f dn l=>r.e = rdL (opv e f :: l.map (opv e)) ∧ ∃ v,r.v = mU o.g c v ∧
        (c = true → du e (f :: l) ∧ ∀ σ',(∀ b ∈ gC (opv e f :: l.map (opv e)),b < σ.length → σ'.get b = σ.get b) → aB P (opv e f) (b7 dn (l.map (opv e))) σ' fun q σ''=>q = .ret v ∧ σ'' = σ')
    | .box n x=>o.g = none ∧ du e [x] ∧ bB (opv e x) n ∧ r = ⟨.ptr σ.length 0, .al (.box (opv e x).cells)⟩
    | .alloc z=>o.g = none ∧ lq z = true ∧ r = ⟨.ptr σ.length 0, .al (.box z)⟩
    | .callA sz f dn l=>o.g = none ∧ du e (f :: l) ∧ ∃ xs,(∀ σ',aB P (opv e f) (b7 dn (l.map (opv e))) σ' fun q σ''=>q = .ret (.oslice sz xs σ'.length 1) ∧ σ'' = σ' ++ [.spare sz 1]) ∧
        r = ⟨.oslice sz xs σ.length 1, .al (.spare sz 1)⟩
    | .mnew=>o.g = none ∧ r = ⟨.map σ.length, .al (.amap [])⟩
    | .mksl m sz bytes z n k=>m = 2 ∧ o.g = none ∧ du e [n,k] ∧ H8 bytes (opv e n) (opv e k) ∧
        r = ⟨.sref sz σ.length 0 (ck (opv e n)).toNat (ck (opv e n)).toNat, .al (.arr sz (List.replicate (ck (opv e n)).toNat z))⟩
    | .store sz x v=>o.g = none ∧ du e [x,v] ∧ ia σ sz (opv e v) (opv e x) ∧ r.v = .undef ∧ rl σ (opv e v) (opv e x) = some r.e
    | .append sz bytes x y=>o.g = none ∧ du e [x,y] ∧ uH sz bytes σ (opv e x) (opv e y) fun v f=>r = ⟨v,f⟩
    | .lit m sz n ps=>if m = 0 then (c = true → du e (ps.map (·.2)) ∧ iw sz n (opv e) ps) ∧ r = ⟨mU o.g c (.slice sz (gz (opv e) (List.replicate n .undef) ps)), .no⟩
      else if m = 1 then o.g = none ∧ du e (ps.map (·.2)) ∧ iw sz n (opv e) ps ∧ r = ⟨.oslice sz (gz (opv e) (List.replicate n .undef) ps) σ.length 0, .al (.spare sz 0)⟩
      else m = 2 ∧ o.g = none ∧ du e (ps.map (·.2)) ∧ iw sz n (opv e) ps ∧ r = ⟨.sref sz σ.length 0 n n, .al (.arr sz (gz (opv e) (List.replicate n .undef) ps))⟩
    | i=>i.quiet = true ∧ (c = true → ju e σ i) ∧ r = ⟨mU o.g c (kz e σ i),iN e i⟩
def yP (P:Program):List ay → Env → ag → List DR → Env → ag → Prop
  | [],e,σ,[],e',σ'=>e' = e ∧ σ' = σ
  | o :: r,e,σ,q :: t,e',σ'=>ti P o e σ q ∧ yP P r (e.put o.d q.v) (q.e.run σ) t e' σ'
  | _,_,_,_,_,_=>False
theorem vk {e:Env} {i:AI} {σ:ag}:(iN e i).run σ = σ:=by
  have h:∀ v,(oI v).run σ = σ:=fun v=>by cases v <;> rfl
  cases i <;> first | rfl | exact h _
theorem E6 {l:List ab} {σ:ag}:(rdL l).run σ = σ:=by unfold rdL; split <;> rfl
theorem vx {P:Program}:∀ {ops:List ay} {e:Env} {σ:ag} {es:List cj} {K:Env → ag → List cj → Prop},bc P ops e σ es K →
    ∃ t e' σ',yP P ops e σ t e' σ' ∧ K e' σ' ((t.map (·.e)).reverse ++ es)
  | [],e,σ,es,K,h=>⟨[],e,σ,⟨rfl,rfl⟩,h⟩
  | o :: r,e,σ,es,K,h=>by
    simp only [bc] at h
    split at h
    · exact h.elim
    · rename_i c hc
      have next:∀ (q:DR),ti P o e σ q → bc P r (e.put o.d q.v) (q.e.run σ) (q.e :: es) K → ∃ t e' σ',yP P (o :: r) e σ t e' σ' ∧ K e' σ' ((t.map (·.e)).reverse ++ es):=by
        intro q h1 h2
        obtain ⟨t,e',σ',g1,g2⟩:=vx h2
        exact ⟨q :: t,e',σ',⟨h1,g1⟩,by simpa using g2⟩
      cases hi:o.i with
      | call f dn l=>
        rw [hi] at h
        obtain ⟨v,h1,h2⟩:=h
        exact next ⟨mU o.g c v,rdL (opv e f :: l.map (opv e))⟩ ⟨c,hc,by rw [hi]; exact ⟨rfl,v,rfl,h1⟩⟩ (by rw [E6]; exact h2)
      | box n x=>rw [hi] at h; exact next ⟨_,_⟩ ⟨c,hc,by rw [hi]; exact ⟨h.1,h.2.1,h.2.2.1,rfl⟩⟩ h.2.2.2
      | alloc z=>rw [hi] at h; exact next ⟨_,_⟩ ⟨c,hc,by rw [hi]; exact ⟨h.1,h.2.1,rfl⟩⟩ h.2.2
      | callA sz f dn l=>
        rw [hi] at h
        obtain ⟨h1,h2,xs,h3,h4⟩:=h
        exact next ⟨_,_⟩ ⟨c,hc,by rw [hi]; exact ⟨h1,h2,xs,h3,rfl⟩⟩ h4
      | mnew=>rw [hi] at h; exact next ⟨_,_⟩ ⟨c,hc,by rw [hi]; exact ⟨h.1,rfl⟩⟩ h.2
      | mksl m sz bytes z n k=>rw [hi] at h; exact next ⟨_,_⟩ ⟨c,hc,by rw [hi]; exact ⟨h.1,h.2.1,h.2.2.1,h.2.2.2.1,rfl⟩⟩ h.2.2.2.2
      | store sz x v=>
        rw [hi] at h
        obtain ⟨h1,h2,h3,h4⟩:=h
        cases hw:rl σ (opv e v) (opv e x) with
        | none=>rw [hw] at h4; exact h4.elim
        | some f=>rw [hw] at h4; exact next ⟨.undef,f⟩ ⟨c,hc,by rw [hi]; exact ⟨h1,h2,h3,rfl,hw⟩⟩ h4
      | append sz bytes x y=>
        rw [hi] at h
        obtain ⟨h1,h2,h3⟩:=h
        obtain ⟨ys,b,o',v,q1,q2,q3,q4,q5,q6,q7,q8⟩:=ln h3
        exact next ⟨_,_⟩ ⟨c,hc,by rw [hi]; exact ⟨h1,h2,q8 _ rfl⟩⟩ q6
      | lit m sz n ps=>
        rw [hi] at h
        by_cases hm:m = 0
        · simp only [if_pos hm] at h
          exact next ⟨_, .no⟩ ⟨c,hc,by rw [hi]; simp only [if_pos hm]; exact ⟨h.1,rfl⟩⟩ h.2
        · by_cases hm1:m = 1
          · simp only [if_neg hm,if_pos hm1] at h
            exact next ⟨_,_⟩ ⟨c,hc,by rw [hi]; simp only [if_neg hm,if_pos hm1]; exact ⟨h.1,h.2.1,h.2.2.1,rfl⟩⟩ h.2.2.2
          · simp only [if_neg hm,if_neg hm1] at h
            exact next ⟨_,_⟩ ⟨c,hc,by rw [hi]; simp only [if_neg hm,if_neg hm1]; exact ⟨h.1,h.2.1,h.2.2.1,h.2.2.2.1,rfl⟩⟩ h.2.2.2.2
      | load k x=>rw [hi] at h; exact next ⟨_,iN e (.load k x)⟩ ⟨c,hc,by rw [hi]; exact ⟨h.1,h.2.1,rfl⟩⟩ (by rw [vk]; exact h.2.2)
      | lookup ok z x i=>rw [hi] at h; exact next ⟨_,iN e (.lookup ok z x i)⟩ ⟨c,hc,by rw [hi]; exact ⟨h.1,h.2.1,rfl⟩⟩ (by rw [vk]; exact h.2.2)
      | _=>rw [hi] at h; exact next ⟨_, .no⟩ ⟨c,hc,by rw [hi]; exact ⟨h.1,h.2.1,rfl⟩⟩ h.2.2
open Go.RowKit
def xm:List aG → List Nat
  | []=>[]
  | .t n :: r=>n :: xm r
  | _ :: r=>xm r
def AI.dk:AI → List aG
  | .pick c a b=>[c,a,b]
  | i=>i.opers
def bR (o:ay):List Nat:=xm o.i.dk ++ (match o.g with
  | some gd=>[gd.1]
  | none=>[])
theorem mP:∀ {l:List aG} {n:Nat},aG.t n ∈ l → n ∈ xm l
  | .t m :: r,n,h=>by
    rcases List.mem_cons.1 h with h | h
    · cases h; exact List.mem_cons_self
    · exact List.mem_cons_of_mem _ (mP h)
  | .c v :: r,n,h=>by
    rcases List.mem_cons.1 h with h | h
    · cases h
    · exact mP (l:=r) h
  | .f m :: r,n,h=>by
    rcases List.mem_cons.1 h with h | h
    · cases h
    · exact mP (l:=r) h
def cj.reads:cj → Nat → Prop
  | .rd l,b=>b ∈ l
  | _,_=>False
def cj.oy (n:Nat) (H:ag):cj → ag
  | .al o=>H.set n o
  | .wr b o=>H.set b o
  | _=>H
theorem qT {e:Env} {i:AI} {n:Nat} {σ:ag}:(iN e i).oy n σ = σ:=by
  have h:∀ v,(oI v).oy n σ = σ:=fun v=>by cases v <;> rfl
  cases i <;> first | rfl | exact h _
theorem vI {l:List ab} {n:Nat} {σ:ag}:(rdL l).oy n σ = σ:=by unfold rdL; split <;> rfl
theorem sr {e:Env} {i:AI} {b:Nat} {o:aQ}:iN e i ≠ .wr b o:=by
  have h:∀ v,oI v ≠ .wr b o:=fun v=>by cases v <;> simp [oI]
  cases i <;> first | exact h _ | simp [iN]
theorem zl {l:List ab} {b:Nat} {o:aQ}:rdL l ≠ .wr b o:=by unfold rdL; split <;> simp
section
variable {P:Program} {s:St} {A:World} {N:Nat} {fr:Fr} {a:Act}
theorem rP {e e':Env} {l:List aG} (h:∀ n ∈ xm l,e'.get n = e.get n):∀ x ∈ l,opv e' x = opv e x ∧ opg e' x = opg e x:=by
  intro x hx
  cases x with
  | t n=>have:=h n (mP hx); simp [opv,opg,this]
  | c v=>exact ⟨rfl,rfl⟩
  | f n=>exact ⟨rfl,rfl⟩
theorem dP {e e':Env}:∀ {l:List aG},(∀ x ∈ l,opv e' x = opv e x ∧ opg e' x = opg e x) → du e l → du e' l
  | [],_,h=>h
  | x :: r,hs,h=>⟨(hs x (by simp)).2.trans h.1,dP (fun y hy=>hs y (by simp [hy])) h.2⟩
theorem ag.cZ {σ:ag} {b:Nat} (h:σ.get b ≠ .dead):b < σ.length:=by
  rcases Nat.lt_or_ge b σ.length with h' | h'
  · exact h'
  · exact absurd (by simp [ag.get,List.getD,List.getElem?_eq_none h']) h
theorem yz {k:Option Nat} {σ H:ag} {v:ab} (ho:fW k σ v) (h:∀ b,(oI v).reads b → b < σ.length → H.get b = σ.get b):fW k H v ∧ lF k H v = lF k σ v:=by
  cases v with
  | ptr b off=>
    have hb:b < σ.length:=by
      apply ag.cZ; intro e; simp only [fW,e] at ho
    have:=h b (by simp [oI,cj.reads]) hb
    simp only [fW,lF,this] at ho ⊢; exact ⟨ho,trivial⟩
  | eptr sz b i f n=>
    have hb:b < σ.length:=by
      apply ag.cZ; intro e; simp only [fW,e] at ho
    have:=h b (by simp [oI,cj.reads]) hb
    simp only [fW,lF,this] at ho ⊢; exact ⟨ho,trivial⟩
  | pval v=>exact ⟨ho,rfl⟩
  | _=>exact ho.elim
theorem lG {e e':Env} {σ H:ag} {i:AI} {o:Op} (hc:bb P i o = true) (hq:i.quiet = true) (hop:∀ x ∈ i.dk,opv e' x = opv e x ∧ opg e' x = opg e x) (hs:ju e σ i)
    (hH:∀ b,(iN e i).reads b → b < σ.length → H.get b = σ.get b):ju e' H i ∧ kz e' H i = kz e σ i:=by
  by_cases hp:∃ c x y,i = .pick c x y
  · obtain ⟨c,x,y,rfl⟩:=hp
    simp only [AI.dk,List.mem_cons,List.not_mem_nil,or_false,forall_eq_or_imp,forall_eq] at hop
    obtain ⟨⟨h1,h2⟩,⟨h3,h4⟩,⟨h5,h6⟩⟩:=hop
    simp only [ju,kz,h1,h2,h3,h4,h5,h6] at hs ⊢
    exact ⟨hs,trivial⟩
  · have hd:i.dk = i.opers:=by cases i <;> first | rfl | exact absurd ⟨_,_,_,rfl⟩ hp
    rw [hd] at hop
    have hval:∀ e σ,kz e σ i = i.val (opv e) σ:=fun e σ=>by cases i <;> first | rfl | exact absurd ⟨_,_,_,rfl⟩ hp
    have hsd:∀ e σ,ju e σ i ↔ (du e i.opers ∧ i.side (opv e) σ):=fun e σ=>by cases i <;> first | exact Iff.rfl | exact absurd ⟨_,_,_,rfl⟩ hp
    rw [hsd] at hs ⊢
    rw [hval,hval]
    have hcg:=AI.congr (σ:=H) (i:=i) (ρ:=opv e') (ρ₂:=opv e) (fun x hx=>(hop x hx).1)
    rw [hcg.1,hcg.2]
    refine ⟨⟨dP hop hs.1, ?_⟩, ?_⟩
    · cases i with
      | load k x=>exact (yz hs.2 hH).1
      | lookup ok z x i=>cases o <;> simp [bb] at hc
      | _=>first | exact hs.2 | (simp [AI.quiet,AI.plain] at hq)
    · cases i with
      | load k x=>exact (yz hs.2 hH).2
      | lookup ok z x i=>cases o <;> simp [bb] at hc
      | _=>rfl
theorem GR {K Kp:ab → ag → Prop} (hi:Inv A s) {b:Nat} (hb:s.h[b]? = some .hole) {t:TypeId} {v:ab} {c:Value} {n:Nat} (hv:Rv s v c) (hn:bB v n) (h:K (.ptr b 0) (s.h.set b (.box v.cells))) :
    au P A s K Kp ((do pure (Next.value (← Instr.box t c)):Sem Next).run P s.w):=by
  obtain ⟨c1,c2,c3⟩:=dv hv hn
  obtain ⟨s3,f1,f2,i3,g3,r3,_⟩:=hi.pj hb (cs:=v.cells) (vs:=c.cells) t (by omega) (fun j h1 h2=>c3 j h1 h2)
  have hrun:(Instr.box t c).run P s.w = .ok (.pointer (some ⟨s.w.heap.size,0,none⟩)) (s.w.alloc (.cells c.cells t)):=by
    simp [Instr.box,newVar,newRow]
  exact au.value (aq _ _ _ _ hrun) f2 i3 g3 r3 (by rw [f1]; exact h)
theorem nk:∀ {z:List ab},lq z = true → z.map ab.jo = z
  | [],_=>rfl
  | v :: r,h=>by
    have h2:lq r = true ∧ v.jo = v:=by cases v <;> first | exact ⟨h,rfl⟩ | (simp [lq] at h)
    rw [List.map_cons,h2.2,nk h2.1]
theorem DK {K Kp:ab → ag → Prop} (hi:Inv A s) {b:Nat} (hb:s.h[b]? = some .hole) {t:TypeId} {z:List ab} (hz:fA P t (z.map ab.jo) = true) (hm:lq z = true)
    (h:K (.ptr b 0) (s.h.set b (.box z))):au P A s K Kp ((do pure (Next.value (← Instr.alloc t true (.tuple #[]))):Sem Next).run P s.w):=by
  rw [nk hm] at hz
  unfold fA at hz
  cases hinfo:P.info? t with
  | none=>simp [hinfo] at hz
  | some i=>
    cases hzero:i.zero with
    | none=>simp [hinfo,hzero] at hz
    | some v=>
      simp only [hinfo,Option.bind_some,hzero] at hz
      obtain ⟨s3,f1,f2,i3,g3,r3,_⟩:=hi.pj hb (cs:=z) (vs:=v.cells) t (by simpa using iR hz) (fun j h1 h2=>by
        have:=jN (s:=s) hz j h1 (by simpa using h2)
        simpa using this)
      have hrun:(Instr.alloc t true (.tuple #[])).run P s.w = .ok (.pointer (some ⟨s.w.heap.size,0,none⟩)) (s.w.alloc (.cells v.cells t)):=by
        simp [Instr.alloc,zeroValue,typeInfo,hinfo,hzero,newVar,newRow]
      exact au.value (aq _ _ _ _ hrun) f2 i3 g3 r3 (by rw [f1]; exact h)
theorem H6 {ρ:aG → ab} {ρ':Operand → Value} {K Kp:ab → ag → Prop} (hi:Inv A s) {b:Nat} (hb:s.h[b]? = some .hole) {m sz n:Nat} {ps:List (Nat × aG)} {t:TypeId} {parts:Array (Nat × Operand)} (ha:fM s ρ ρ') (hc:bb P (.lit m sz n ps) (.buildSlice t n parts) = true)
    (ho:iw sz n ρ ps) (h:K (.sref sz b 0 n n) (s.h.set b (.arr sz (gz ρ (List.replicate n .undef) ps)))) :
    au P A s K Kp ((do pure (Next.value (← Instr.buildSlice t n (parts.map fun x=>(x.1,ρ' x.2)))):Sem Next).run P s.w):=by
  simp only [bb] at hc
  cases hu:P.underlying t with
  | none=>simp [hu] at hc
  | some d=>
    cases d with
    | slice e=>
      simp only [hu,Bool.and_eq_true,beq_iff_eq,decide_eq_true_eq] at hc
      obtain ⟨⟨⟨⟨⟨⟨rfl,hinf⟩,_⟩,hbig⟩,hpos⟩,hzs⟩,hp⟩:=hc
      obtain ⟨i,hinfo⟩:=Option.isSome_iff_exists.1 hinf
      unfold pf at hzs
      cases hzero:i.zero with
      | none=>simp [hinfo,hzero] at hzs
      | some zv=>
        simp only [hinfo,Option.bind_some,hzero,beq_iff_eq] at hzs
        generalize hsz:P.cellsOf e = sz at *
        have hz0:dX s sz (List.replicate n .undef) (List.replicate n zv) ((Array.range (n * sz)).map (zv.cells[· % zv.cells.size]!)):=by
          refine ⟨by simp,fun i h1 h2=>⟨by simpa using Rv.undef _,by simp [hzs]⟩,fun i j h2 hj=>?_⟩
          simp only [List.getElem_replicate] at hj ⊢
          have hin:i < n:=by simpa using h2
          have:i * sz + j < n * sz:=dI hin (by omega)
          have hmod:(i * sz + j) % zv.cells.size = j:=by rw [hzs,Nat.mul_comm,Nat.mul_add_mod]; exact Nat.mod_eq_of_lt (by omega)
          simp [this,hmod,hj]
        obtain ⟨us',C',f1,f2,f3,f4⟩:=pA (s:=s) (ρ:=ρ) (ρ':=ρ') (n:=n) rfl (ps:=ps) (qs:=parts.toList) ha hp ho (by simp) (by simp) hz0
        have hlist:(parts.map fun x=>(x.1,ρ' x.2)).toList = parts.toList.map fun x=>(x.1,ρ' x.2):=by simp
        have hrun:(Instr.buildSlice t n (parts.map fun x=>(x.1,ρ' x.2))).run P s.w = .ok (.slice (some ⟨s.w.heap.size,0,none⟩) n n) (s.w.alloc (.cells C' e)):=by
          unfold Instr.buildSlice
          simp only [Sem.run_bind,an hu,Result.andThen_ok,aR hinf,hsz]
          rw [if_neg (by omega)]
          by_cases hn0:n * sz = 0
          · have hn:n = 0:=by rcases Nat.mul_eq_zero.1 hn0 with h | h <;> omega
            subst hn
            have hmap:∀ g:Nat → Value,(Array.range (0 * sz)).map g = #[]:=fun g=>by apply Array.ext'; simp
            rw [hmap] at f1
            rw [if_pos hn0,Sem.run_bind,Sem.run_pure,Result.andThen_ok,hmap,hlist,f1]
            simp [newRow]
          · rw [if_neg hn0]
            simp [zeroValue,typeInfo,hinfo,hzero,f1,newRow]
        generalize hxs:gz ρ (List.replicate n .undef) ps = xs at *
        have hlen:xs.length = n:=f4
        obtain ⟨s3,b1,b2,i3,g3,r3⟩:=hi.oV hb e n (by omega) f2 f3
        rw [hlen] at r3
        exact au.value (aq _ _ _ _ hrun) b2 i3 g3 r3 (by rw [b1]; exact h)
    | _=>simp [hu] at hc
theorem Fz {ρ:aG → ab} {ρ':Operand → Value} {K Kp:ab → ag → Prop} (hi:Inv A s) {b:Nat} (hb:s.h[b]? = some .hole) {m sz n:Nat} {ps:List (Nat × aG)} {t:TypeId} {parts:Array (Nat × Operand)} (ha:fM s ρ ρ') (hc:bb P (.lit m sz n ps) (.buildSlice t n parts) = true)
    (ho:iw sz n ρ ps) (h:K (.oslice sz (gz ρ (List.replicate n .undef) ps) b 0) (s.h.set b (.spare sz 0))) :
    au P A s K Kp ((do pure (Next.value (← Instr.buildSlice t n (parts.map fun x=>(x.1,ρ' x.2)))):Sem Next).run P s.w):=by
  simp only [bb] at hc
  cases hu:P.underlying t with
  | none=>simp [hu] at hc
  | some d=>
    cases d with
    | slice e=>
      simp only [hu,Bool.and_eq_true,beq_iff_eq,decide_eq_true_eq] at hc
      obtain ⟨⟨⟨⟨⟨⟨rfl,hinf⟩,_⟩,hbig⟩,hpos⟩,hzs⟩,hp⟩:=hc
      obtain ⟨i,hinfo⟩:=Option.isSome_iff_exists.1 hinf
      unfold pf at hzs
      cases hzero:i.zero with
      | none=>simp [hinfo,hzero] at hzs
      | some zv=>
        simp only [hinfo,Option.bind_some,hzero,beq_iff_eq] at hzs
        generalize hsz:P.cellsOf e = sz at *
        have hz0:dX s sz (List.replicate n .undef) (List.replicate n zv) ((Array.range (n * sz)).map (zv.cells[· % zv.cells.size]!)):=by
          refine ⟨by simp,fun i h1 h2=>⟨by simpa using Rv.undef _,by simp [hzs]⟩,fun i j h2 hj=>?_⟩
          simp only [List.getElem_replicate] at hj ⊢
          have hin:i < n:=by simpa using h2
          have:i * sz + j < n * sz:=dI hin (by omega)
          have hmod:(i * sz + j) % zv.cells.size = j:=by rw [hzs,Nat.mul_comm,Nat.mul_add_mod]; exact Nat.mod_eq_of_lt (by omega)
          simp [this,hmod,hj]
        obtain ⟨us',C',f1,f2,f3,f4⟩:=pA (s:=s) (ρ:=ρ) (ρ':=ρ') (n:=n) rfl (ps:=ps) (qs:=parts.toList) ha hp ho (by simp) (by simp) hz0
        have hlist:(parts.map fun x=>(x.1,ρ' x.2)).toList = parts.toList.map fun x=>(x.1,ρ' x.2):=by simp
        have hrun:(Instr.buildSlice t n (parts.map fun x=>(x.1,ρ' x.2))).run P s.w = .ok (.slice (some ⟨s.w.heap.size,0,none⟩) n n) (s.w.alloc (.cells C' e)):=by
          unfold Instr.buildSlice
          simp only [Sem.run_bind,an hu,Result.andThen_ok,aR hinf,hsz]
          rw [if_neg (by omega)]
          by_cases hn0:n * sz = 0
          · have hn:n = 0:=by rcases Nat.mul_eq_zero.1 hn0 with h | h <;> omega
            subst hn
            have hmap:∀ g:Nat → Value,(Array.range (0 * sz)).map g = #[]:=fun g=>by apply Array.ext'; simp
            rw [hmap] at f1
            rw [if_pos hn0,Sem.run_bind,Sem.run_pure,Result.andThen_ok,hmap,hlist,f1]
            simp [newRow]
          · rw [if_neg hn0]
            simp [zeroValue,typeInfo,hinfo,hzero,f1,newRow]
        generalize hxs:gz ρ (List.replicate n .undef) ps = xs at *
        have hlen:xs.length = n:=f4
        obtain ⟨s1,e1,e2,e3,i1,g1,r1,_⟩:=hi.DT e n (by omega) f3
        rw [hlen] at r1
        obtain ⟨s3,b1,b2,i3,g3,k3,_⟩:=i1.fE (b:=b) (by rw [e1]; exact hb) sz (some ⟨s.w.heap.size,0,none⟩) n
        refine au.value (aq _ _ _ _ hrun) (b2.trans e3) i3 (g1.trans g3) (v:=.oslice sz xs b 0) (.oslice _ _ _ _ _ (r1.keeps g3.keeps) k3) ?_
        rw [b1,e1]; exact h
    | _=>simp [hu] at hc
theorem AB:∀ {l:List aG} {m:List Operand},eY l m = true → ∀ x ∈ l, ∃ y,aI x y = true
  | [],[],_,x,hx=>by cases hx
  | a :: r,b :: t,h,x,hx=>by
    simp only [eY,Bool.and_eq_true] at h
    rcases List.mem_cons.1 hx with rfl | hx
    · exact ⟨b,h.1⟩
    · exact AB h.2 x hx
  | [],_ :: _,h,_,_=>by simp [eY] at h
  | _ :: _,[],h,_,_=>by simp [eY] at h
theorem dB.named (hf:dB s N fr a) {x:aG} (hy:∃ y,aI x y = true) (hg:opg fr.v x = true):∀ b ∈ (opv fr.v x).ep, ∃ k u,s.lam b k = some u:=
  let ⟨_,h⟩:=hy; (hf.opr h hg).ep
theorem u7 {e:Env}:∀ {l:List aG},du e l → ∀ x ∈ l,opg e x = true
  | a :: r,h,x,hx=>by
    rcases List.mem_cons.1 hx with rfl | hx
    · exact h.1
    · exact u7 h.2 x hx
theorem BU {v:ab} {b:Nat} (h:(oI v).reads b):b ∈ v.ep:=by
  cases v <;> simp [oI,cj.reads] at h <;> simp [ab.ep,h]
theorem Inv.Hn (hi:Inv A s) {n:Nat} (hb:s.h[n]? = some .hole) (hl:s.h.length = n + 1):∃ s',s'.h = s.h.take n ∧ s'.h.length = n ∧ s'.w = s.w ∧ Inv A s' ∧ bK s s':=by
  let s':St:={ s with h:=s.h.take n }
  have hlen:s'.h.length = n:=by simp [s',hl]
  have hget:∀ b o,s'.h[b]? = some o → s.h[b]? = some o:=fun b o h=>by
    have hlt:b < n:=by
      rcases Nat.lt_or_ge b n with h' | h'
      · exact h'
      · rw [List.getElem?_eq_none (by rw [hlen]; exact h')] at h; cases h
    simpa [s',List.getElem?_take,hlt] using h
  have hk:bg s s':=⟨fun _ _ _ h=>h,fun _ _ h=>h,fun _ _ _=>rfl⟩
  have hown:∀ b o blk,cV s' b o blk → cV s b o blk:=fun b o blk h=>by cases o <;> exact h
  refine ⟨s',rfl,hlen,rfl,⟨hi.below,fun b o h=>(hi.obj b o (hget b o h)).xG hk (fun _ _=>rfl) (fun _ _ _ h=>h) (fun _=>rfl),fun b b' o o' blk h1 h2 w1 w2=>hi.excl b b' o o' blk (hget _ _ h1) (hget _ _ h2) (hown _ _ _ w1) (hown _ _ _ w2),fun b k h=>?_,hi.scell,hi.laid⟩,
    ⟨hk,Nat.le_refl _,fun _ _ _=>rfl,fun blk ⟨b,o,h1,h2⟩=>.inr ⟨b,o,hget _ _ h1,hown _ _ _ h2⟩,fun _ _ h=>.inl h⟩⟩
  rw [hlen] at h
  rcases Nat.lt_or_ge b (n + 1) with h' | h'
  · have:b = n:=by omega
    subst this
    exact hi.obj b _ hb k
  · exact hi.fresh b k (by omega)
theorem yD {ops:Array Oper} {ro:Option Nat} {i:Nat} {o:Oper} {ao:ay} (ho:ops[i]? = some o) (hcG:um ops ao.g o.guard = true) (hcI:bb P ao.i o.op = true)
    (hi:Inv A s) (hf:dB s N fr a) {e:Env} {σ:ag} {q:DR} (hst:ti P ao e σ q) (hop:∀ x ∈ bR ao,fr.v.get x = e.get x)
    (hrd:∀ b,q.e.reads b → b < σ.length → (∃ k u,s.lam b k = some u) → s.h.get b = σ.get b)
    (hwr:∀ b o',q.e = .wr b o' → b < σ.length → (∃ k u,s.lam b k = some u) → s.h.get b = σ.get b)
    (hal:∀ o',q.e = .al o' → s.h[σ.length]? = some .hole) (hlast:∀ sz f dn l,ao.i = .callA sz f dn l → s.h.length = σ.length + 1) {K:Act → World → Prop} {Q:Exit → Act → World → Prop}
    (hK:∀ c s',Inv A s' → bK s s' → s'.h = q.e.oy σ.length s.h → Rv s' q.v c → (∀ b o',q.e = .wr b o' → b < σ.length ∧ ∃ k u,s.lam b k = some u) → K (a.put o.dst c) s'.w) :
    wpOpIn (Fro ro) 0 P ops Q i K a s.w:=by
  obtain ⟨c,hgc,h⟩:=hst
  have hne:=fV hcI
  have hops:=rP (l:=ao.i.dk) (e:=e) (e':=fr.v) (fun n hn=>hop n (by unfold bR; exact List.mem_append_left _ hn))
  -- the guard
  have hw:(Region.wanted o (yielded ops a.tmps)) = c:=by
    cases hag:ao.g with
    | none=>
      rw [hag] at hcG hgc
      have hgn:o.guard = none:=by cases hgu:o.guard with
        | none=>rfl
        | some x=>rw [hgu] at hcG; simp [um] at hcG
      simp only [eg,Option.some.injEq] at hgc
      simp [Region.wanted,hgn,hgc]
    | some gd=>
      rw [hag] at hcG hgc
      refine iS hf hcG (g:=c) ?_
      have:=hop gd.1 (by simp [bR,hag])
      simp only [eg,gp] at hgc ⊢
      rw [this]; exact hgc
  unfold wpOpIn
  rw [ho]
  simp only [hw]
  -- what runs
  have run:c = true → (∀ K':ab → ag → Prop,(∀ v,K' v (q.e.oy σ.length s.h) → True) → True):=fun _ _ _=>trivial
  have go:∀ (v:ab),q.v = mU ao.g true v → (∀ b o',q.e = .wr b o' → b < σ.length ∧ ∃ k u,s.lam b k = some u) →
      au P A s (fun v' σ'=>v' = v ∧ σ' = q.e.oy σ.length s.h) (fun _ _=>False) ((execOp a.eval o).run P s.w) → o.wpIn (Fro ro) 0 P a s.w K Q:=by
    intro v hqv hlam hso
    refine ⟨fun _ _=>trivial, ?_⟩
    rw [Oper.semAt_eq _ _ _ hne]
    refine kg hso (fun v' cc s' h1 h2 h3 h4=>hK cc s' h1 h2 h4.2 ?_ hlam) (fun _ _ _ _ _ _ h4=>h4.elim)
    rw [hqv]
    have:=h3; rw [h4.1] at this
    unfold mU; split
    · exact this
    · exact .optT _ _ this
  have quiet:ao.i.quiet = true → (c = true → ju e σ ao.i) → q = ⟨mU ao.g c (kz e σ ao.i),iN e ao.i⟩ → (if c = true then o.wpIn (Fro ro) 0 P a s.w K Q else (∀ f,o.about P s.w a.eval = some f → (Fro ro).fn f) ∧ K (a.put o.dst undef) s.w):=by
    intro hq hs hqe
    cases c with
    | false=>
      simp only [Bool.false_eq_true,if_false]
      refine ⟨fun _ _=>trivial,hK _ s hi (.refl s) ?_ ?_ ?_⟩
      · rw [hqe]; exact qT.symm
      · rw [hqe]
        unfold mU; split
        · rename_i hg; rw [hg] at hgc; simp [eg] at hgc
        · exact .optF _
      · rw [hqe]; intro b o' hh; exact absurd hh sr
    | true=>
      simp only [if_true]
      have hs:=hs rfl
      -- what it reads is there
      have hH:∀ b,(iN e ao.i).reads b → b < σ.length → s.h.get b = σ.get b:=by
        intro b hb hlt
        refine hrd b (by rw [hqe]; exact hb) hlt ?_
        cases hai:ao.i with
        | load k x=>
          rw [hai] at hb hs hops hcI
          have hx:=hops x (by simp [AI.dk,AI.opers])
          have hy:∃ y,aI x y = true:=by
            generalize o.op = op at hcI
            cases op <;> simp [bb] at hcI
            exact ⟨_,hcI.2⟩
          have hg:opg fr.v x = true:=hx.2.trans hs.1.1
          refine hf.named hy hg b ?_
          rw [hx.1]; exact BU hb
        | lookup ok z x i=>rw [hai] at hcI; generalize o.op = op at hcI; cases op <;> simp [bb] at hcI
        | _=>rw [hai] at hb; exact hb.elim
      have hqc:=lG hcI hq hops hs hH
      obtain ⟨cc,e1,e2⟩:=im hi hf hcI hq hqc.1
      refine go (kz e σ ao.i) (by rw [hqe]) (by rw [hqe]; intro b o' hh; exact absurd hh sr) (au.value e1 rfl hi (.refl s) e2 ⟨hqc.2, ?_⟩)
      rw [hqe]; exact qT.symm
  cases hai:ao.i with
  | call f dn l=>
    rw [hai] at h
    obtain ⟨h1,v,h2,h3⟩:=h
    cases c with
    | false=>
      simp only [Bool.false_eq_true,if_false]
      refine ⟨fun _ _=>trivial,hK _ s hi (.refl s) ?_ ?_ ?_⟩
      · rw [h1]; exact vI.symm
      · rw [h2]
        unfold mU; split
        · rename_i hg; rw [hg] at hgc; simp [eg] at hgc
        · exact .optF _
      · rw [h1]; intro b o' hh; exact absurd hh zl
    | true=>
      simp only [if_true]
      obtain ⟨hn,hcall⟩:=h3 rfl
      have hops':∀ x ∈ (f :: l),opv fr.v x = opv e x ∧ opg fr.v x = opg e x:=fun x hx=>hops x (by rw [hai]; exact hx)
      have hn':=dP hops' hn
      have hy:∀ x ∈ (f :: l), ∃ y,aI x y = true:=by
        rw [hai] at hcI
        generalize o.op = op at hcI
        cases op <;> simp only [bb] at hcI <;> first | (cases hcI; done) | skip
        rename_i cc
        obtain ⟨cal,args,tys⟩:=cc
        simp only at hcI
        split at hcI
        · simp only [Bool.and_eq_true] at hcI
          intro x hx
          rcases List.mem_cons.1 hx with rfl | hx
          · exact ⟨_,hcI.1⟩
          · exact AB hcI.2 x hx
        · cases hcI
      have hmap:(opv fr.v f :: l.map (opv fr.v)) = (opv e f :: l.map (opv e)):=by
        rw [(hops' f (by simp)).1]; congr 1
        exact List.map_congr_left fun x hx=>(hops' x (by simp [hx])).1
      have hmap1:opv fr.v f = opv e f:=(List.cons.inj hmap).1
      have hmap2:l.map (opv fr.v) = l.map (opv e):=(List.cons.inj hmap).2
      have hbl:∀ b ∈ gC (opv e f :: l.map (opv e)),b < σ.length → s.h.get b = σ.get b:=by
        intro b hb hlt
        by_cases hp:aA (opv e f :: l.map (opv e)) = true
        · rw [fD hp] at hb; cases hb
        · refine hrd b (by rw [h1,rdL,if_neg hp]; exact hb) hlt ?_
          rw [← hmap] at hb
          have:∃ x ∈ (f :: l),b ∈ (opv fr.v x).ep:=by
            obtain ⟨j,g1,g2⟩:=gM.1 hb
            cases j with
            | zero=>exact ⟨f,by simp,g2⟩
            | succ j=>exact ⟨l[j]'(by simpa using g1),by simp,by simpa using g2⟩
          obtain ⟨x,hx,hxb⟩:=this
          exact hf.named (hy x hx) (u7 hn' x hx) b hxb
      refine go v (by rw [h2]) (by rw [h1]; intro b o' hh; exact absurd hh zl) (eu hi hf hcI ?_)
      rw [hai]
      refine ⟨hn', ?_⟩
      show aB P (opv fr.v f) (b7 dn (l.map (opv fr.v))) s.h _
      rw [hmap1,hmap2]
      refine (hcall s.h hbl).mono ?_
      rintro r σ' ⟨rfl,rfl⟩
      exact ⟨rfl,by rw [h1]; exact vI.symm⟩
  | box n x=>
    rw [hai] at h hops
    obtain ⟨h1,h2,h3,rfl⟩:=h
    rw [h1] at hgc; simp only [eg,Option.some.injEq] at hgc; subst hgc
    simp only [if_true]
    have hx:=hops x (by simp [AI.dk,AI.opers])
    refine go (.ptr σ.length 0) (by rw [h1]; rfl) (by intro b o' hh; cases hh) ?_
    obtain ⟨dst,op,type,pos,after,guard⟩:=o
    rw [hai] at hcI
    simp only at hcI
    cases op <;> simp only [bb] at hcI <;> first | (cases hcI; done) | skip
    simp only [Bool.and_eq_true,beq_iff_eq] at hcI
    have hv:=hf.opr hcI.2 (hx.2.trans h2.1)
    rw [hx.1] at hv
    exact GR hi (hal _ rfl) hv h3 ⟨rfl,rfl⟩
  | alloc z=>
    rw [hai] at h
    obtain ⟨h1,h2,rfl⟩:=h
    rw [h1] at hgc; simp only [eg,Option.some.injEq] at hgc; subst hgc
    simp only [if_true]
    refine go (.ptr σ.length 0) (by rw [h1]; rfl) (by intro b o' hh; cases hh) ?_
    obtain ⟨dst,op,type,pos,after,guard⟩:=o
    rw [hai] at hcI
    simp only at hcI
    cases op <;> simp only [bb] at hcI <;> first | (cases hcI; done) | skip
    exact DK hi (hal _ rfl) hcI h2 ⟨rfl,rfl⟩
  | callA sz f dn l=>
    rw [hai] at h hops
    obtain ⟨h1,h2,xs,h3,rfl⟩:=h
    rw [h1] at hgc; simp only [eg,Option.some.injEq] at hgc; subst hgc
    simp only [if_true]
    have hops':∀ x ∈ (f :: l),opv fr.v x = opv e x ∧ opg fr.v x = opg e x:=fun x hx=>hops x hx
    have hn':=dP hops' h2
    have hmap1:opv fr.v f = opv e f:=(hops' f (by simp)).1
    have hmap2:l.map (opv fr.v) = l.map (opv e):=List.map_congr_left fun x hx=>(hops' x (by simp [hx])).1
    have hb:=hal _ rfl
    obtain ⟨s1,e1,e1',e2,i1,g1⟩:=hi.Hn hb (hlast _ _ _ _ hai)
    have hcI':bb P (.call f dn l) o.op = true:=by rw [hai] at hcI; exact hcI
    refine go (.oslice sz xs σ.length 1) (by rw [h1]; rfl) (by intro b o' hh; cases hh) ?_
    rw [← e2]
    refine au.from g1 (eu i1 (hf.keeps g1.keeps) hcI' ⟨hn', ?_⟩)
    show aB P (opv fr.v f) (b7 dn (l.map (opv fr.v))) s1.h _
    rw [hmap1,hmap2]
    refine (h3 s1.h).mono ?_
    rintro r σ' ⟨rfl,rfl⟩
    rw [e1']
    refine ⟨rfl, ?_⟩
    show s1.h ++ [.spare sz 1] = s.h.set σ.length (.spare sz 1)
    rw [e1]
    have hlen:=hlast _ _ _ _ hai
    apply List.ext_getElem?
    intro j
    rcases Nat.lt_trichotomy j σ.length with hj | hj | hj
    · rw [List.getElem?_append_left (by simp; omega),List.getElem?_set_ne (by omega),List.getElem?_take,if_pos hj]
    · subst hj
      rw [List.getElem?_append_right (by simp; omega),List.getElem?_set_self (by omega)]
      simp [hlen]
    · rw [List.getElem?_eq_none (by simp; omega),List.getElem?_eq_none (by simp; omega)]
  | mnew=>
    rw [hai] at h
    obtain ⟨h1,rfl⟩:=h
    rw [h1] at hgc; simp only [eg,Option.some.injEq] at hgc; subst hgc
    simp only [if_true]
    refine go (.map σ.length) (by rw [h1]; rfl) (by intro b o' hh; cases hh) ?_
    obtain ⟨dst,op,type,pos,after,guard⟩:=o
    rw [hai] at hcI
    simp only at hcI
    cases op <;> simp only [bb] at hcI <;> first | (cases hcI; done) | skip
    simp only [Bool.and_eq_true] at hcI
    exact EA (fun _=>rfl) hi (hal _ rfl) hcI.1 hcI.2 ⟨rfl,rfl⟩
  | mksl m sz bytes z n k=>
    rw [hai] at h hops
    obtain ⟨rfl,h2,h3,h4,rfl⟩:=h
    rw [h2] at hgc; simp only [eg,Option.some.injEq] at hgc; subst hgc
    simp only [if_true]
    have hn:=hops n (by simp [AI.dk,AI.opers])
    have hk:=hops k (by simp [AI.dk,AI.opers])
    refine go (.sref sz σ.length 0 (ck (opv e n)).toNat (ck (opv e n)).toNat) (by rw [h2]; rfl) (by intro b o' hh; cases hh) ?_
    obtain ⟨dst,op,type,pos,after,guard⟩:=o
    rw [hai] at hcI
    simp only at hcI
    cases op <;> simp only [bb] at hcI <;> first | (cases hcI; done) | skip
    rename_i t n' c'
    cases hu:P.underlying t with
    | none=>rw [hu] at hcI; simp at hcI
    | some d=>
      cases d with
      | slice e'=>
        rw [hu] at hcI
        simp only at hcI
        cases hinf:P.info? e' with
        | none=>rw [hinf] at hcI; simp at hcI
        | some i=>
          rw [hinf] at hcI
          simp only at hcI
          cases hzv:i.zero with
          | none=>rw [hzv] at hcI; simp at hcI
          | some v=>
            rw [hzv] at hcI
            simp only [Bool.and_eq_true,beq_iff_eq,decide_eq_true_eq] at hcI
            obtain ⟨⟨⟨⟨c1,c2⟩,⟨⟨c3,c4⟩,⟨c5,c6⟩⟩⟩,c7⟩,c8⟩:=hcI
            have hvn:=hf.opr c7 (hn.2.trans h3.1)
            have hvk:=hf.opr c8 (hk.2.trans h3.2.1)
            rw [hn.1] at hvn
            rw [hk.1] at hvk
            exact EJ hi (hal _ rfl) hu hinf hzv c4 c3 c5 c6 hvn hvk h4.1 h4.2.1 h4.2.2.1 h4.2.2.2.1 h4.2.2.2.2.1 h4.2.2.2.2.2 ⟨rfl,rfl⟩
      | _=>rw [hu] at hcI; simp at hcI
  | store sz x v=>
    rw [hai] at h hops
    obtain ⟨h1,h2,h3,h4,h5⟩:=h
    rw [h1] at hgc; simp only [eg,Option.some.injEq] at hgc; subst hgc
    simp only [if_true]
    have hx:=hops x (by simp [AI.dk,AI.opers])
    have hv:=hops v (by simp [AI.dk,AI.opers])
    obtain ⟨dst,op,type,pos,after,guard⟩:=o
    have hcI':=hcI
    rw [hai] at hcI
    simp only at hcI
    cases op <;> simp only [bb] at hcI <;> first | (cases hcI; done) | skip
    simp only [Bool.and_eq_true,beq_iff_eq] at hcI
    obtain ⟨⟨⟨c1,c2⟩,c3⟩,c4⟩:=hcI
    have rx:=hf.opr c3 (hx.2.trans h2.1)
    have rv:=hf.opr c4 (hv.2.trans h2.2.1)
    rw [hx.1] at rx
    rw [hv.1] at rv
    -- the block that is written
    have hblk:∃ b o',q.e = .wr b o' ∧ b ∈ (opv e x).ep ∧ σ.get b ≠ .dead:=by
      generalize opv e x = ax at h5
      cases ax with
      | ptr b off=>
        simp only [rl] at h5
        cases hg:σ.get b <;> rw [hg] at h5 <;> first | (cases h5; done) | skip
        exact ⟨b,_,(Option.some.inj h5).symm,by simp [ab.ep],by rw [hg]; simp⟩
      | eptr sz b i f n=>
        simp only [rl] at h5
        cases hg:σ.get b <;> rw [hg] at h5 <;> first | (cases h5; done) | skip
        exact ⟨b,_,(Option.some.inj h5).symm,by simp [ab.ep],by rw [hg]; simp⟩
      | _=>cases h5
    obtain ⟨b,o',hq,hb,hnd⟩:=hblk
    have hlt:=ag.cZ hnd
    have hlam:=rx.ep b hb
    have hget:=hwr b o' hq hlt hlam
    have hso:ia s.h sz (opv e v) (opv e x) ∧ jZ s.h (opv e v) (opv e x) = q.e.oy σ.length s.h:=by
      revert h3 h5 hb
      generalize opv e x = ax
      intro h3 h5 hb
      cases ax with
      | ptr b' off=>
        simp [ab.ep] at hb; subst hb
        simp only [ia,jZ,rl,hget] at h3 h5 ⊢
        refine ⟨h3, ?_⟩
        cases hg:σ.get b <;> rw [hg] at h5 <;> first | (cases h5; done) | skip
        rw [← Option.some.inj h5]; rfl
      | eptr sz' b' i' f n=>
        simp [ab.ep] at hb; subst hb
        simp only [ia,jZ,rl,hget] at h3 h5 ⊢
        refine ⟨h3, ?_⟩
        cases hg:σ.get b <;> rw [hg] at h5 <;> first | (cases h5; done) | skip
        rw [← Option.some.inj h5]; rfl
      | _=>cases h5
    refine go .undef (by rw [h4,h1]; rfl) (by intro b1 o1 hh; rw [hq] at hh; cases hh; exact ⟨hlt,hlam⟩) ?_
    exact lM hi c1 c2 rx rv hso.1 ⟨rfl,hso.2⟩
  | append sz bytes x y=>
    rw [hai] at h hops
    obtain ⟨h1,h2,h3⟩:=h
    rw [h1] at hgc; simp only [eg,Option.some.injEq] at hgc; subst hgc
    simp only [if_true]
    have hx:=hops x (by simp [AI.dk,AI.opers])
    have hy:=hops y (by simp [AI.dk,AI.opers])
    obtain ⟨ys,b,o',v,q1,q2,q3,q4,q5,rfl,q7,_⟩:=ln h3
    have hlt:b < σ.length:=ag.cZ q5
    have hoy:∃ z,aI x z = true:=by
      have hcI':=hcI
      rw [hai] at hcI'
      generalize o.op = op at hcI'
      cases op <;> simp only [bb] at hcI' <;> first | (cases hcI'; done) | skip
      split at hcI'
      · split at hcI'
        · split at hcI'
          · simp only [Bool.and_eq_true] at hcI'
            exact ⟨_,hcI'.1.2⟩
          · cases hcI'
        · cases hcI'
      · cases hcI'
    have hlam:=hf.named hoy (hx.2.trans h2.1) b (by rw [hx.1]; exact q4)
    have hget:=hwr b _ rfl hlt hlam
    refine go v (by rw [h1]; rfl) (by intro b1 o1 hh; cases hh; exact ⟨hlt,hlam⟩) (eu hi hf hcI ?_)
    rw [hai]
    obtain ⟨f1,f2⟩:=w7 q1 s.h sz
    refine ⟨dP (fun z hz=>hops z (by simpa [AI.dk,AI.opers] using hz)) h2, ?_⟩
    simp only [fe,hx.1,hy.1,f1]
    exact ⟨f2.2 q2,q3,q7 s.h hget _ ⟨rfl,rfl⟩⟩
  | lit m sz n ps=>
    rw [hai] at h hops
    by_cases hm:m = 0
    rotate_left
    · by_cases hm1:m = 1
      · simp only [if_neg hm,if_pos hm1] at h
        obtain ⟨h2,h3,h4,rfl⟩:=h
        rw [h2] at hgc; simp only [eg,Option.some.injEq] at hgc; subst hgc
        simp only [if_true]
        refine go (.oslice sz (gz (opv e) (List.replicate n .undef) ps) σ.length 0) (by rw [h2]; rfl) (by intro b o' hh; cases hh) ?_
        have hps:∀ x ∈ ps.map (·.2),opn fr.v x = opv e x:=fun x hx=>(iZ (dP (fun x hx=>hops x (by simpa [AI.dk,AI.opers] using hx)) h3) x hx).symm.trans (hops x (by simpa [AI.dk,AI.opers] using hx)).1
        obtain ⟨dst,op,type,pos,after,guard⟩:=o
        rw [hai] at hcI
        simp only at hcI
        cases op with
        | buildSlice t n' parts=>
          have hn:n' = n:=by
            simp only [bb] at hcI
            cases hu:P.underlying t with
            | none=>simp [hu] at hcI
            | some d=>
              cases d <;> simp [hu] at hcI
              exact hcI.1.1.1.1.2.symm
          subst hn
          refine Fz hi (hal _ rfl) hf.agree hcI ((fK hps).2 h4) ⟨by rw [gN hps],rfl⟩
        | _=>simp only [bb] at hcI; cases hcI
      · simp only [if_neg hm,if_neg hm1] at h
        obtain ⟨h1,h2,h3,h4,rfl⟩:=h
        rw [h2] at hgc; simp only [eg,Option.some.injEq] at hgc; subst hgc
        simp only [if_true]
        refine go (.sref sz σ.length 0 n n) (by rw [h2]; rfl) (by intro b o' hh; cases hh) ?_
        have hps:∀ x ∈ ps.map (·.2),opn fr.v x = opv e x:=fun x hx=>(iZ (dP (fun x hx=>hops x (by simpa [AI.dk,AI.opers] using hx)) h3) x hx).symm.trans (hops x (by simpa [AI.dk,AI.opers] using hx)).1
        obtain ⟨dst,op,type,pos,after,guard⟩:=o
        rw [hai] at hcI
        simp only at hcI
        cases op with
        | buildSlice t n' parts=>
          have hn:n' = n:=by
            simp only [bb] at hcI
            cases hu:P.underlying t with
            | none=>simp [hu] at hcI
            | some d=>
              cases d <;> simp [hu] at hcI
              exact hcI.1.1.1.1.2.symm
          subst hn
          refine H6 hi (hal _ rfl) hf.agree hcI ((fK hps).2 h4) ⟨rfl, ?_⟩
          rw [gN hps]; rfl
        | _=>simp only [bb] at hcI; cases hcI
    subst hm
    simp only [if_true] at h
    obtain ⟨h34,rfl⟩:=h
    cases c with
    | false=>
      simp only [Bool.false_eq_true,if_false]
      refine ⟨fun _ _=>trivial,hK _ s hi (.refl s) rfl ?_ (by intro b o' hh; cases hh)⟩
      unfold mU; split
      · rename_i hg; rw [hg] at hgc; simp [eg] at hgc
      · exact .optF _
    | true=>
    obtain ⟨h3,h4⟩:=h34 rfl
    simp only [if_true]
    have hps:∀ x ∈ ps.map (·.2),opv e x = opv fr.v x:=fun x hx=>(hops x (by simpa [AI.dk,AI.opers] using hx)).1.symm
    refine go (.slice sz (gz (opv e) (List.replicate n .undef) ps)) rfl (by intro b o' hh; cases hh) (eu hi hf hcI ?_)
    rw [hai]
    refine ⟨dP (fun x hx=>hops x (by simpa [AI.dk,AI.opers] using hx)) h3,(fK hps).1 h4, ?_⟩
    simp only [if_true]
    exact ⟨by rw [gN hps],rfl⟩
  | load k x=>rw [hai] at h; exact quiet (by rw [hai]; rfl) (by rw [hai]; exact h.2.1) (by rw [hai]; exact h.2.2)
  | lookup ok z x i=>rw [hai] at h; exact quiet (by rw [hai]; rfl) (by rw [hai]; exact h.2.1) (by rw [hai]; exact h.2.2)
  | _=>rw [hai] at h; exact quiet (by rw [hai]; exact h.1) (by rw [hai]; exact h.2.1) (by rw [hai]; exact h.2.2)
end
end Go.AM
