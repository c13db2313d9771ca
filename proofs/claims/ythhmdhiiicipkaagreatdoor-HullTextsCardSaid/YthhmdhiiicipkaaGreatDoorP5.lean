/- The instructions that change the abstract heap; a call; each computes what the operation does. A store; and all instructions in one theorem. -/
import Derived.Test.YthhmdhiiicipkaaGreatDoorP4
import Derived.Laws.CopyRow
namespace Go.AM
open Go.RowKit
class Cont (α:Type) where
  run:α
def af (P:Program) (fv:ab) (args:List ab) (σ:ag) [K:Cont (ab → ag → Prop)] [Kp:Cont (ab → ag → Prop)]:Prop:=
  aB P fv args σ fun r σ'=>match r with
    | .ret v=>K.run v σ'
    | .pan v=>Kp.run v σ'
def fe (P:Program) (i:AI) (ρ:aG → ab) (σ:ag) (K:ab → ag → Prop) (Kp:ab → ag → Prop):Prop:=
  match i with
  | .alloc z=>K (.ptr (σ.length + (cK z σ.length).2.length) 0) (σ ++ (cK z σ.length).2 ++ [.box (cK z σ.length).1])
  | .box n x=>bB (ρ x) n ∧ K (.ptr σ.length 0) (σ ++ [.box (ρ x).cells])
  | .pbox n x=>bB (ρ x) n ∧ K (.pval (ρ x)) σ
  | .loadd k x=>fW k σ (ρ x) ∧ K (lF k σ (ρ x)).pB σ
  | .mvd x=>K (ρ x).pB σ
  | .nilS m sz=>if m = 1 then K (.oslice sz [] σ.length 0) (σ ++ [.spare sz 0]) else if m = 3 then K (.oslice sz [] σ.length 1) (σ ++ [.spare sz 1]) else K (.sref sz σ.length 0 0 0) (σ ++ [.arr sz []])
  | .lit m sz n ps=>iw sz n ρ ps ∧ (if m = 0 then K (.slice sz (gz ρ (List.replicate n .undef) ps)) σ
      else if m = 1 then K (.oslice sz (gz ρ (List.replicate n .undef) ps) σ.length 0) (σ ++ [.spare sz 0])
      else K (.sref sz σ.length 0 n n) (σ ++ [.arr sz (gz ρ (List.replicate n .undef) ps)]))
  | .store sz x v=>ia σ sz (ρ v) (ρ x) ∧ K .undef (jZ σ (ρ v) (ρ x))
  | .buildm z ps=>gu (cK z σ.length).1.length ρ ps ∧ K (.agg (o7 (cK z σ.length).1 (ps.map fun p=>(p.1,(ρ p.2.2).cells)))) (σ ++ (cK z σ.length).2)
  | .storem sz x=>ia (σ ++ [.spare sz 0]) 1 (.oslice sz [] σ.length 0) (ρ x) ∧ K .undef (jZ (σ ++ [.spare sz 0]) (.oslice sz [] σ.length 0) (ρ x))
  | .call f dn l=>@af P (ρ f) (b7 dn (l.map ρ)) σ ⟨K⟩ ⟨Kp⟩
  | .append sz bytes x y=>(ρ y).ib σ sz ∧ Fits sz ((ρ y).elems σ) ∧ iT sz bytes σ (ρ x) ((ρ y).elems σ) K
  | .sub m sz x lo hi mx=>dV ρ lo ∧ dV ρ hi ∧ dV ρ mx ∧ DM m sz σ (ρ x) (aU ρ 0 lo) (fun n=>aU ρ n hi) (mx.map fun x=>ck (ρ x)) K
  | .freeze sz x=>vV sz σ (ρ x) K
  | .range x=>vS σ (ρ x) K
  | .next x=>Br σ (ρ x) K
  | .mksl m sz bytes z n c=>isInt (ρ n) ∧ isInt (ρ c) ∧ CL m sz bytes σ z (ck (ρ n)) (ck (ρ c)) K
  | .clear sz z x=>Ap sz σ z (ρ x) K
  | .copyB sz x y=>(ρ y).ib σ sz ∧ Fits sz ((ρ y).elems σ) ∧ Dj sz σ (ρ x) ((ρ y).elems σ) K
  | .isnil neg x=>Ad neg σ (ρ x) K
  | .subO sz x lo=>Cy sz σ (ρ x) (ρ lo) K
  | .snil neg x=>Bp neg σ (ρ x) K
  | .gix g x=>Hy g σ (ρ x) K
  | .allocB=>K (.ptr σ.length 0) (σ ++ [.bld 0 []])
  | .appS bytes x y=>Cw bytes σ (ρ x) (ρ y) K
  | .subA n sz x=>AS n sz σ (ρ x) K
  | .mnew=>K (.map σ.length) (σ ++ [.amap []])
  | .mget ok lk z x i=>AP ok lk z σ (ρ x) (ρ i) K
  | .mset lk x k v=>AF lk σ (ρ x) (ρ k) (ρ v) K
  | .panic x=>match ρ x with
    | .iface t v=>Kp (.iface t v) σ
    | _=>False
  | i=>i.plain = true ∧ i.side ρ σ ∧ K (i.val ρ σ) σ
def au (P:Program) (A:World) (s:St) (K:ab → ag → Prop) (Kp:ab → ag → Prop):Result Next → Prop
  | .ok (.value c) w'=>∃ v s',s'.w = w' ∧ Inv A s' ∧ bK s s' ∧ Rv s' v c ∧ K v s'.h
  | .ok .skip w'=>∃ v s',s'.w = w' ∧ Inv A s' ∧ bK s s' ∧ Rv s' v Go.undef ∧ K v s'.h
  | .ok (.enter f args) w'=>Calls P f args w' (cx A s fun r σ'=>match r with
    | .ret v=>K v σ'
    | .pan v=>Kp v σ')
  | .ok (.round l f tmps asg body) w'=>∀ ro,RoundIn (Fro ro) 0 P l f tmps asg body w' (cx A s fun r σ'=>match r with
    | .ret v=>K v σ'
    | .pan v=>Kp v σ')
  | .halt (.panic c) w'=>∃ v s',s'.w = w' ∧ Inv A s' ∧ bK s s' ∧ Rv s' v c ∧ Kp v s'.h
  | _=>False
section
variable {P:Program} {s:St} {A:World} {ρ:aG → ab} {ρ':Operand → Value} {K Kp:ab → ag → Prop}
theorem fM.keeps {s':St} (h:bg s s') (ha:fM s ρ ρ'):fM s' ρ ρ':=fun x y e=>(ha x y e).keeps h
theorem au.value {c:Value} {w':World} {r:Result Next} {v:ab} {s':St} (hr:r = .ok (.value c) w') (hw:s'.w = w') (hi:Inv A s') (hg:bK s s') (hv:Rv s' v c) (hk:K v s'.h):au P A s K Kp r:=by
  subst hr; exact ⟨v,s',hw,hi,hg,hv,hk⟩
theorem Inv.fE (hi:Inv A s) {b:Nat} (hb:s.h[b]? = some .hole) (sz:Nat) (a:Option Addr) (n:Nat) :
    ∃ s',s'.h = s.h.set b (.spare sz 0) ∧ s'.w = s.w ∧ Inv A s' ∧ bK s s' ∧ s'.lam b 0 = some (.slice a n n) ∧ ∀ b' k,b' ≠ b → s'.lam b' k = s.lam b' k:=by
  have hblt:b < s.h.length:=(List.getElem?_eq_some_iff.1 hb).1
  have hl:∀ k,s.lam b k = none:=hi.obj b _ hb
  let s':St:={ h:=s.h.set b (.spare sz 0),lam:=bm s.lam b 0 (.slice a n n),S:=s.S,w:=s.w }
  have hk:bg s s':=⟨ba (hl 0),fun _ _ h=>h,fun _ _ _=>rfl⟩
  have hgo:=hi.change (s':=s') hblt rfl hk hi.below (Nat.le_refl _) (fun b' k hne=>aw (.inl hne)) (fun _ _ _=>rfl)
    ⟨fun k' hk'=>(aw (.inr (by omega))).trans (hl k'),a,n,n,aD _ _ _ _,Nat.le_refl _,fun h=>absurd h (Nat.lt_irrefl _)⟩
    (fun blk ho=>by
      obtain ⟨off,len,cap,e,hlt⟩:=ho
      have e':bm s.lam b 0 (.slice a n n) b 0 = _:=e
      simp at e'
      omega)
    (fun _ _ h=>.inl h) (fun blk x h=>hi.scell _ _ h)
  exact ⟨s',rfl,rfl,hgo.1,hgo.2,aD _ _ _ _,fun b' k hne=>aw (.inl hne)⟩
theorem bO (l:ag) (o o':aQ):(l ++ [o]).set l.length o' = l ++ [o']:=by simp
theorem Inv.one (hi:Inv A s):∃ s',s'.h = s.h ++ [.hole] ∧ s'.w = s.w ∧ Inv A s' ∧ bK s s' ∧ s'.h[s.h.length]? = some .hole:=
  ⟨s.more 1,rfl,rfl,(hi.more 1).1,(hi.more 1).2,by simp [St.more]⟩
theorem Inv.qw (hi:Inv A s) {b:Nat} (hb:s.h[b]? = some .hole) (sz:Nat) (a:Option Addr) :
    ∃ s',s'.h = s.h.set b (.arr sz []) ∧ s'.w = s.w ∧ Inv A s' ∧ bK s s' ∧ s'.lam b 0 = some (.slice a 0 0):=by
  have hblt:b < s.h.length:=(List.getElem?_eq_some_iff.1 hb).1
  have hl:∀ k,s.lam b k = none:=hi.obj b _ hb
  let s':St:={ h:=s.h.set b (.arr sz []),lam:=bm s.lam b 0 (.slice a 0 0),S:=s.S,w:=s.w }
  have hk:bg s s':=⟨ba (hl 0),fun _ _ h=>h,fun _ _ _=>rfl⟩
  have hgo:=hi.change (s':=s') hblt rfl hk hi.below (Nat.le_refl _) (fun b' k hne=>aw (.inl hne)) (fun _ _ _=>rfl)
    ⟨fun k' hk'=>(aw (.inr (by simp at hk'; omega))).trans (hl k'), .inl ⟨rfl,a,aD _ _ _ _⟩⟩
    (fun blk ho=>by
      obtain ⟨cap,h0,e⟩:=ho
      have e':bm s.lam b 0 (.slice a 0 0) b 0 = _:=e
      simp at e'; omega)
    (fun _ _ h=>.inl h) (fun blk x h=>hi.scell _ _ h)
  exact ⟨s',rfl,rfl,hgo.1,hgo.2,aD _ _ _ _⟩
theorem Inv.yT:∀ {z:List ab} {vs:List Value} {s:St},Inv A s → b6 (z.map ab.jo) vs = true →
    ∃ s',s'.h = s.h ++ (cK z s.h.length).2 ∧ s'.w = s.w ∧ Inv A s' ∧ bK s s' ∧ (cK z s.h.length).1.length = vs.length ∧
      ∀ j (h1:j < (cK z s.h.length).1.length) (h2:j < vs.length),Rv s' (cK z s.h.length).1[j] vs[j]
  | [],[],s,hi,_=>⟨s,by simp [cK],rfl,hi, .refl s,rfl,fun j h1 _=>by simp [cK] at h1⟩
  | v :: r,c :: t,s,hi,h=>by
    simp only [List.map_cons,b6,Bool.and_eq_true] at h
    by_cases hm:∃ sz,v = .mint sz
    · obtain ⟨sz,rfl⟩:=hm
      have hc:c = .slice none 0 0:=by
        have h1:=h.1
        simp only [ab.jo] at h1
        cases c with
        | slice a l cap=>cases a <;> simp [aV] at h1; obtain ⟨rfl,rfl⟩:=h1; rfl
        | _=>simp [aV] at h1
      subst hc
      obtain ⟨s1,e1,e2,i1,g1,d1⟩:=hi.one
      by_cases hs:sz < 1000
      rotate_left
      · obtain ⟨s2,f1,f2,i2,g2,k2⟩:=i1.qw d1 (sz - 1000) none
        have h2:s2.h = s.h ++ [.arr (sz - 1000) []]:=by rw [f1,e1]; exact bO _ _ _
        have hlen:s2.h.length = s.h.length + 1:=by rw [h2]; simp
        obtain ⟨s3,a1,a2,a3,a4,a5,a6⟩:=Inv.yT (z:=r) (vs:=t) i2 h.2
        rw [hlen] at a1 a5 a6
        simp only [cK,if_neg hs]
        refine ⟨s3, ?_,a2.trans (f2.trans e2),a3,g1.trans (g2.trans a4),by simp [a5],fun j h1' h2'=>?_⟩
        · rw [a1,h2]; simp
        · cases j with
          | zero=>exact (Rv.sref0 (s:=s3) (sz - 1000) s.h.length none (a4.keeps.lam _ _ _ k2))
          | succ j=>simpa using a6 j (by simpa using h1') (by simpa using h2')
      obtain ⟨s2,f1,f2,i2,g2,k2,_⟩:=i1.fE d1 sz none 0
      have h2:s2.h = s.h ++ [.spare sz 0]:=by rw [f1,e1]; exact bO _ _ _
      have hlen:s2.h.length = s.h.length + 1:=by rw [h2]; simp
      obtain ⟨s3,a1,a2,a3,a4,a5,a6⟩:=Inv.yT (z:=r) (vs:=t) i2 h.2
      rw [hlen] at a1 a5 a6
      simp only [cK,if_pos hs]
      refine ⟨s3, ?_,a2.trans (f2.trans e2),a3,g1.trans (g2.trans a4),by simp [a5],fun j h1' h2'=>?_⟩
      · rw [a1,h2]; simp
      · cases j with
        | zero=>exact (Rv.oslice (s:=s3) sz [] s.h.length 0 _ (.slice0 sz _ _) (a4.keeps.lam _ _ _ k2))
        | succ j=>simpa using a6 j (by simpa using h1') (by simpa using h2')
    · have hv:(cK (v :: r) s.h.length) = (v :: (cK r s.h.length).1,(cK r s.h.length).2):=by
        cases v <;> first | rfl | exact absurd ⟨_,rfl⟩ hm
      have hu:v.jo = v:=by cases v <;> first | rfl | exact absurd ⟨_,rfl⟩ hm
      rw [hu] at h
      obtain ⟨s3,a1,a2,a3,a4,a5,a6⟩:=Inv.yT (z:=r) (vs:=t) hi h.2
      rw [hv]
      refine ⟨s3,a1,a2,a3,a4,by simp [a5],fun j h1' h2'=>?_⟩
      cases j with
      | zero=>exact (fw h.1)
      | succ j=>simpa using a6 j (by simpa using h1') (by simpa using h2')
  | [],_ :: _,_,_,h=>by simp [b6] at h
  | _ :: _,[],_,_,h=>by simp [b6] at h
theorem xL (hi:Inv A s) {t:TypeId} {z:List ab} (hz:fA P t (z.map ab.jo) = true)
    (h:K (.ptr (s.h.length + (cK z s.h.length).2.length) 0) (s.h ++ (cK z s.h.length).2 ++ [.box (cK z s.h.length).1])) :
    au P A s K Kp ((do pure (Next.value (← Instr.alloc t true (.tuple #[]))):Sem Next).run P s.w):=by
  unfold fA at hz
  cases hinfo:P.info? t with
  | none=>simp [hinfo] at hz
  | some i=>
    cases hzero:i.zero with
    | none=>simp [hinfo,hzero] at hz
    | some v=>
      simp only [hinfo,Option.bind_some,hzero] at hz
      obtain ⟨s1,a1,a2,a3,a4,a5,a6⟩:=hi.yT hz
      obtain ⟨s2,e1,e2,i2,g2,d2⟩:=a3.one
      have hb2:s1.h.length = s.h.length + (cK z s.h.length).2.length:=by rw [a1]; simp
      obtain ⟨s3,f1,f2,i3,g3,r3,_⟩:=i2.pj d2 (cs:=(cK z s.h.length).1) (vs:=v.cells) t (by simpa using a5.symm) (fun j h1 h2=>by
        have:=a6 j h1 (by simpa using h2)
        exact (by simpa using this:Rv s1 _ _).keeps g2.keeps)
      have hrun:(Instr.alloc t true (.tuple #[])).run P s.w = .ok (.pointer (some ⟨s.w.heap.size,0,none⟩)) (s.w.alloc (.cells v.cells t)):=by
        simp [Instr.alloc,zeroValue,typeInfo,hinfo,hzero,newVar,newRow]
      refine au.value (aq _ _ _ _ hrun) (f2.trans ?_) i3 (a4.trans (g2.trans g3)) (v:=.ptr s1.h.length 0) ?_ ?_
      · rw [e2,a2]
      · rw [e2,a2] at r3; exact r3
      · rw [f1,e1,bO,a1]; rw [a1] at *; simpa [hb2] using h
theorem Bx (hi:Inv A s) {t:TypeId} {v:ab} {c:Value} {n:Nat} (hv:Rv s v c) (hn:bB v n) (h:K (.ptr s.h.length 0) (s.h ++ [.box v.cells])) :
    au P A s K Kp ((do pure (Next.value (← Instr.box t c)):Sem Next).run P s.w):=by
  obtain ⟨c1,c2,c3⟩:=dv hv hn
  obtain ⟨s2,e1,e2,i2,g2,d2⟩:=hi.one
  obtain ⟨s3,f1,f2,i3,g3,r3,_⟩:=i2.pj d2 (cs:=v.cells) (vs:=c.cells) t (by omega) (fun j h1 h2=>(c3 j h1 h2).keeps g2.keeps)
  have hrun:(Instr.box t c).run P s.w = .ok (.pointer (some ⟨s.w.heap.size,0,none⟩)) (s.w.alloc (.cells c.cells t)):=by
    simp [Instr.box,newVar,newRow]
  refine au.value (aq _ _ _ _ hrun) (f2.trans (by rw [e2])) i3 (g2.trans g3) (v:=.ptr s.h.length 0) (by rw [e2] at r3; exact r3) ?_
  rw [f1,e1,bO]; exact h
theorem Inv.yo (hi:Inv A s) {b:Nat} (hb:s.h[b]? = some .hole) (sz:Nat) (a:Option Addr) (n:Nat) :
    ∃ s',s'.h = s.h.set b (.spare sz 1) ∧ s'.w = s.w ∧ Inv A s' ∧ bK s s' ∧ s'.lam b 1 = some (.slice a n n):=by
  have hblt:b < s.h.length:=(List.getElem?_eq_some_iff.1 hb).1
  have hl:∀ k,s.lam b k = none:=hi.obj b _ hb
  let s':St:={ h:=s.h.set b (.spare sz 1),lam:=bm s.lam b 1 (.slice a n n),S:=s.S,w:=s.w }
  have hk:bg s s':=⟨ba (hl 1),fun _ _ h=>h,fun _ _ _=>rfl⟩
  have hgo:=hi.change (s':=s') hblt rfl hk hi.below (Nat.le_refl _) (fun b' k hne=>aw (.inl hne)) (fun _ _ _=>rfl)
    ⟨fun k' hk'=>(aw (.inr (by omega))).trans (hl k'),a,n,n,aD _ _ _ _,Nat.le_refl _,fun h=>absurd h (Nat.lt_irrefl _)⟩
    (fun blk ho=>by
      obtain ⟨off,len,cap,e,hlt⟩:=ho
      have e':bm s.lam b 1 (.slice a n n) b 1 = _:=e
      simp at e'
      omega)
    (fun _ _ h=>.inl h) (fun blk x h=>hi.scell _ _ h)
  exact ⟨s',rfl,rfl,hgo.1,hgo.2,aD _ _ _ _⟩
theorem su (hi:Inv A s) {m sz:Nat} (h:if m = 1 then K (.oslice sz [] s.h.length 0) (s.h ++ [.spare sz 0]) else if m = 3 then K (.oslice sz [] s.h.length 1) (s.h ++ [.spare sz 1]) else K (.sref sz s.h.length 0 0 0) (s.h ++ [.arr sz []])) :
    au P A s K Kp (.ok (.value (.slice none 0 0)) s.w):=by
  obtain ⟨s1,e1,e2,i1,g1,d1⟩:=hi.one
  split at h
  · obtain ⟨s2,f1,f2,i2,g2,k2,_⟩:=i1.fE d1 sz none 0
    refine au.value rfl (f2.trans e2) i2 (g1.trans g2) (v:=.oslice sz [] s.h.length 0) (.oslice _ _ _ _ _ (.slice0 sz _ _) k2) ?_
    rw [f1,e1,bO]; exact h
  · split at h
    · obtain ⟨s2,f1,f2,i2,g2,k2⟩:=i1.yo d1 sz none 0
      refine au.value rfl (f2.trans e2) i2 (g1.trans g2) (v:=.oslice sz [] s.h.length 1) (.oslice _ _ _ _ _ (.slice0 sz _ _) k2) ?_
      rw [f1,e1,bO]; exact h
    · obtain ⟨s2,f1,f2,i2,g2,k2⟩:=i1.qw d1 sz none
      refine au.value rfl (f2.trans e2) i2 (g1.trans g2) (v:=.sref sz s.h.length 0 0 0) (.sref0 _ _ _ k2) ?_
      rw [f1,e1,bO]; exact h
/-! ### Rows of elements -/
theorem AL (off:Nat):∀ (m:List Value) (k:Nat) (C:Array Value),((m.zipIdx k).foldl (fun cs (x:Value × Nat)=>cs.setIfInBounds (off + x.2) x.1) C).size = C.size ∧
    ∀ p,((m.zipIdx k).foldl (fun cs (x:Value × Nat)=>cs.setIfInBounds (off + x.2) x.1) C)[p]? = if off + k ≤ p ∧ p < off + k + m.length ∧ p < C.size then m[p - (off + k)]? else C[p]?
  | [], k, C => ⟨rfl, fun p => by rw [if_neg]; · rfl
                                  · simp; omega⟩
  | a :: m,k,C=>by
    simp only [List.zipIdx_cons,List.foldl_cons]
    obtain ⟨h1,h2⟩:=AL off m (k + 1) (C.setIfInBounds (off + k) a)
    refine ⟨by rw [h1]; simp,fun p=>?_⟩
    rw [h2 p]
    simp only [Array.size_setIfInBounds,List.length_cons,Array.getElem?_setIfInBounds]
    by_cases e:off + k = p
    · subst e
      rw [if_neg (by omega)]
      by_cases hlt:off + k < C.size
      · rw [if_pos rfl,if_pos hlt,if_pos (by omega)]; simp
      · rw [if_pos rfl,if_neg hlt,if_neg (by omega)]; rw [Array.getElem?_eq_none (by omega)]
    · rw [if_neg e]
      by_cases c:off + (k + 1) ≤ p ∧ p < off + (k + 1) + m.length ∧ p < C.size
      · rw [if_pos c,if_pos (by omega),show p - (off + k) = (p - (off + (k + 1))) + 1 by omega]; simp
      · rw [if_neg c,if_neg (by omega)]
structure dX (s:St) (sz:Nat) (xs:List ab) (us:List Value) (C:Array Value):Prop where
  len:us.length = xs.length
  rv:∀ i (h1:i < xs.length) (h2:i < us.length),Rv s xs[i] us[i] ∧ us[i].cells.size = sz
  cell:∀ i j (h2:i < us.length) (hj:j < us[i].cells.size),C[i * sz + j]? = some us[i].cells[j]
theorem dI {i n j sz:Nat} (h:i < n) (hj:j < sz):i * sz + j < n * sz:=by
  have:(i + 1) * sz ≤ n * sz:=Nat.mul_le_mul_right _ h
  rw [Nat.add_mul] at this; omega
theorem idx_eq {i i' j j' sz:Nat} (hj:j < sz) (hj':j' < sz) (h:i * sz + j = i' * sz + j'):i = i' ∧ j = j':=by
  have h1:(i * sz + j) / sz = i:=by rw [Nat.mul_comm,Nat.mul_add_div (by omega)]; simp [Nat.div_eq_of_lt hj]
  have h2:(i' * sz + j') / sz = i':=by rw [Nat.mul_comm,Nat.mul_add_div (by omega)]; simp [Nat.div_eq_of_lt hj']
  have:i = i':=by rw [← h1, ← h2,h]
  subst this; exact ⟨rfl,by omega⟩
theorem dX.set {sz:Nat} {xs:List ab} {us:List Value} {C:Array Value} (h:dX s sz xs us C) (hC:C.size = xs.length * sz) {v:ab} {c:Value} (hv:Rv s v c) (hc:c.cells.size = sz) {i:Nat} (hi:i < xs.length) :
    dX s sz (xs.set i v) (us.set i c) (c.cells.zipIdx.foldl (fun cs (x:Value × Nat)=>cs.setIfInBounds (i * sz + x.2) x.1) C) ∧
      (c.cells.zipIdx.foldl (fun cs (x:Value × Nat)=>cs.setIfInBounds (i * sz + x.2) x.1) C).size = C.size:=by
  have hfs:=AL (i * sz) c.cells.toList 0 C
  have heq:c.cells.zipIdx.foldl (fun cs (x:Value × Nat)=>cs.setIfInBounds (i * sz + x.2) x.1) C = (c.cells.toList.zipIdx 0).foldl (fun cs (x:Value × Nat)=>cs.setIfInBounds (i * sz + x.2) x.1) C:=by
    rw [← Array.foldl_toList,Array.toList_zipIdx]
  rw [heq]
  refine ⟨⟨by simp [h.len],fun k h1 h2=>?_,fun k j h2 hj=>?_⟩,hfs.1⟩
  · simp only [List.length_set] at h1 h2
    by_cases e:i = k
    · subst e; simp only [List.getElem_set_self]; exact ⟨hv,hc⟩
    · simp only [List.getElem_set_ne e]; exact h.rv k h1 h2
  · rw [hfs.2]
    simp only [List.length_set] at h2
    by_cases e:i = k
    · subst e
      simp only [List.getElem_set_self] at hj ⊢
      have:i * sz + j < xs.length * sz:=dI hi (by omega)
      rw [if_pos ⟨by omega,by simp; omega,by omega⟩]
      simp [hj]
    · simp only [List.getElem_set_ne e] at hj ⊢
      have h3:=(h.rv k (by have:=h.len; omega) h2).2
      rw [if_neg]
      · exact h.cell k j h2 hj
      · rintro ⟨q1,q2,_⟩
        have q2':k * sz + j < i * sz + sz:=by simpa [hc] using q2
        obtain ⟨j',hj'⟩:∃ j',k * sz + j = i * sz + j':=⟨k * sz + j - i * sz,by omega⟩
        exact e (idx_eq (by omega) (by omega) hj').1.symm
theorem pA {sz n:Nat} (hn:n * sz = n * sz):∀ {ps:List (Nat × aG)} {qs:List (Nat × Operand)} {xs:List ab} {us:List Value} {C:Array Value},fM s ρ ρ' → ko ps qs = true → iw sz n ρ ps → xs.length = n → C.size = n * sz → dX s sz xs us C →
    ∃ us' C',Instr.fill (fun i=>some (i * sz,sz)) C (qs.map fun x=>(x.1,ρ' x.2)) = some C' ∧ C'.size = n * sz ∧ dX s sz (gz ρ xs ps) us' C' ∧ (gz ρ xs ps).length = n
  | [],[],xs,us,C,_,_,_,hl,hC,h=>⟨us,C,rfl,hC,h,hl⟩
  | (i,x) :: ps,(j,y) :: qs,xs,us,C,ha,hp,ho,hl,hC,h=>by
    simp only [ko,Bool.and_eq_true,beq_iff_eq] at hp
    obtain ⟨⟨rfl,hx⟩,hp⟩:=hp
    obtain ⟨o1,o2,o3⟩:=ho
    have hr:=ha x y hx
    obtain ⟨c1,c2,c3⟩:=dv hr o2
    obtain ⟨e1,e2⟩:=h.set (by rw [hC,hl]) hr c1 (i:=i) (by omega)
    obtain ⟨us',C',f1,f2,f3,f4⟩:=pA hn (ps:=ps) (qs:=qs) ha hp o3 (by simpa using hl) (by rw [e2]; exact hC) e1
    refine ⟨us',C', ?_,f2,f3,f4⟩
    simp only [List.map_cons,Instr.fill]
    rw [if_neg]
    · exact f1
    · simp only [c1,Bool.or_eq_true,decide_eq_true_eq,not_or,Nat.not_lt,ne_eq,not_true_eq_false,not_false_eq_true,true_and,hC]
      have:(i + 1) * sz ≤ n * sz:=Nat.mul_le_mul_right _ o1
      rw [Nat.add_mul] at this; omega
  | [],_ :: _,_,_,_,_,hp,_,_,_,_=>by simp [ko] at hp
  | _ :: _,[],_,_,_,_,hp,_,_,_,_=>by simp [ko] at hp
theorem dX.row {sz:Nat} {xs:List ab} {us:List Value} {C:Array Value} (h:dX s sz xs us C) {i j:Nat} (hi:i < us.length) (hj:j < us[i].cells.size):i * sz + j < C.size:=by
  have:=h.cell i j hi hj
  rcases Nat.lt_or_ge (i * sz + j) C.size with h1 | h1
  · exact h1
  · rw [Array.getElem?_eq_none h1] at this; cases this
theorem Inv.DT (hi:Inv A s) {sz:Nat} {xs:List ab} {us:List Value} {C:Array Value} (el:TypeId) (cap:Nat) (hcap:xs.length ≤ cap) (he:dX s sz xs us C) :
    ∃ s',s'.h = s.h ∧ s'.lam = s.lam ∧ s'.w = s.w.alloc (.cells C el) ∧ Inv A s' ∧ bK s s' ∧ Rv s' (.slice sz xs) (.slice (some ⟨s.w.heap.size,0,none⟩) xs.length cap) ∧
      ∀ blk o,s'.S blk o ↔ s.S blk o ∨ (blk = s.w.heap.size ∧ o < xs.length * sz):=by
  let s':St:={ h:=s.h,lam:=s.lam,S:=fun blk o=>s.S blk o ∨ (blk = s.w.heap.size ∧ o < xs.length * sz),w:=s.w.alloc (.cells C el) }
  have hk:bg s s':=⟨fun _ _ _ h=>h,fun _ _ h=>.inl h,fun blk o hs=>World.cell?_alloc_lt _ _ (a:=⟨blk,o,none⟩) (hi.scell blk o hs)⟩
  have hgo:=hi.grow (s':=s') rfl rfl hk (hi.below.alloc hi.below.size _) (by simp [s']) (fun blk hlt=>Below.heap_alloc _ _ _ hlt)
    (fun blk x h=>h.imp id fun h=>by omega) (fun blk x h=>by
      rcases h with h | ⟨h,_⟩
      · have:=hi.scell _ _ h; simp [s']; omega
      · simp [s']; omega)
  refine ⟨s',rfl,rfl,rfl,hgo.1,hgo.2, .slice sz xs _ 0 _ cap us he.len rfl hcap (fun i h1 h2=>(he.rv i h1 h2).1.keeps hk) (fun i h2=>⟨(he.rv i (by have:=he.len; omega) h2).2,fun j hj=>?_⟩),fun _ _=>Iff.rfl⟩
  have hsz:=(he.rv i (by have:=he.len; omega) h2).2
  have hlt:i * sz + j < xs.length * sz:=dI (by have:=he.len; omega) (by omega)
  rw [Nat.zero_add]
  refine ⟨.inr ⟨rfl,hlt⟩, ?_⟩
  show (s.w.alloc (.cells C el)).cell? _ = _
  rw [World.cell?_alloc_new]
  exact he.cell i j h2 hj
theorem Aq (hi:Inv A s) {t:TypeId} {v:ab} {c:Value} {n:Nat} (hv:Rv s v c) (hn:bB v n) (h:K (.pval v) s.h) :
    au P A s K Kp ((do pure (Next.value (← Instr.box t c)):Sem Next).run P s.w):=by
  obtain ⟨c1,c2,c3⟩:=dv hv hn
  have he:dX s n [v] [c] c.cells:=⟨rfl,fun i h1 h2=>by
    have:i = 0:=by simp at h1; exact h1
    subst this; exact ⟨hv,c1⟩,fun i j h2 hj=>by
    have:i = 0:=by simp at h2; exact h2
    subst this
    simp at hj ⊢⟩
  obtain ⟨s2,e1,e2,e3,i2,g2,r2,hS⟩:=hi.DT (sz:=n) (xs:=[v]) (us:=[c]) (C:=c.cells) t 1 (by simp) he
  have hrun:(Instr.box t c).run P s.w = .ok (.pointer (some ⟨s.w.heap.size,0,none⟩)) (s.w.alloc (.cells c.cells t)):=by
    simp [Instr.box,newVar,newRow]
  refine au.value (aq _ _ _ _ hrun) e3 i2 g2 (v:=.pval v) (.pval _ c _ _ (hv.keeps g2.keeps) fun j hj=>⟨(hS _ _).2 (.inr ⟨rfl,by simp; omega⟩), ?_⟩) (by rw [e1]; exact h)
  rw [e3,Nat.zero_add,World.cell?_alloc_new]
  simp [hj]
theorem Inv.oV (hi:Inv A s) {b:Nat} (hb:s.h[b]? = some .hole) {sz:Nat} {xs:List ab} {us:List Value} {C:Array Value} (el:TypeId) (cap:Nat) (hcap:xs.length ≤ cap)
    (hC:C.size = cap * sz) (he:dX s sz xs us C) :
    ∃ s',s'.h = s.h.set b (.arr sz xs) ∧ s'.w = s.w.alloc (.cells C el) ∧ Inv A s' ∧ bK s s' ∧ Rv s' (.sref sz b 0 xs.length xs.length) (.slice (some ⟨s.w.heap.size,0,none⟩) xs.length cap):=by
  have hblt:b < s.h.length:=(List.getElem?_eq_some_iff.1 hb).1
  have hl:∀ k,s.lam b k = none:=hi.obj b _ hb
  let s':St:={ h:=s.h.set b (.arr sz xs),lam:=bm s.lam b xs.length (.slice (some ⟨s.w.heap.size,0,none⟩) xs.length cap),S:=s.S,w:=s.w.alloc (.cells C el) }
  have hk:bg s s':=⟨ba (hl _),fun _ _ h=>h,fun blk o hs=>World.cell?_alloc_lt _ _ (a:=⟨blk,o,none⟩) (hi.scell blk o hs)⟩
  have hnew:s'.w.heap[s.w.heap.size]? = some (.cells C el (0,0)):=by show (s.w.heap.push _)[s.w.heap.size]? = _; simp
  have hgo:=hi.change (s':=s') hblt rfl hk (hi.below.alloc hi.below.size _) (by simp [s']) (fun b' k hne=>aw (.inl hne))
    (fun blk hlt _=>Below.heap_alloc _ _ _ hlt)
    (by
      refine ⟨fun k' hk'=>(aw (.inr (by omega))).trans (hl k'), ?_⟩
      rcases Nat.eq_zero_or_pos cap with h0 | h0
      · have hx:xs = []:=List.eq_nil_of_length_eq_zero (by omega)
        subst hx; subst h0
        exact .inl ⟨rfl,_,aD _ _ _ _⟩
      · exact .inr ⟨s.w.heap.size,cap,C,el,us,h0,aD _ _ _ _,hi.below.size,hnew,hC,hcap,he.len,fun i h1 h2=>⟨(he.rv i h1 h2).1.keeps hk,(he.rv i h1 h2).2⟩,he.cell,fun o hs=>by have:=hi.scell _ _ hs; omega⟩)
    (fun blk ho=>by
      obtain ⟨cap',_,e⟩:=ho
      have e':bm s.lam b xs.length (.slice (some ⟨s.w.heap.size,0,none⟩) xs.length cap) b xs.length = _:=e
      simp at e'
      left; omega)
    (fun blk x h=>.inl h) (fun blk x h=>by have:=hi.scell _ _ h; simp [s']; omega)
  refine ⟨s',rfl,rfl,hgo.1,hgo.2, ?_⟩
  have:=Rv.sref (s:=s') sz b 0 xs.length xs.length s.w.heap.size cap (aD _ _ _ _) (by omega) hcap
  simpa using this
theorem B0 (hi:Inv A s) {m sz n:Nat} {ps:List (Nat × aG)} {t:TypeId} {parts:Array (Nat × Operand)} (ha:fM s ρ ρ') (hc:bb P (.lit m sz n ps) (.buildSlice t n parts) = true)
    (ho:iw sz n ρ ps) (h:if m = 0 then K (.slice sz (gz ρ (List.replicate n .undef) ps)) s.h
      else if m = 1 then K (.oslice sz (gz ρ (List.replicate n .undef) ps) s.h.length 0) (s.h ++ [.spare sz 0])
      else K (.sref sz s.h.length 0 n n) (s.h ++ [.arr sz (gz ρ (List.replicate n .undef) ps)])) :
    au P A s K Kp ((do pure (Next.value (← Instr.buildSlice t n (parts.map fun x=>(x.1,ρ' x.2)))):Sem Next).run P s.w):=by
  simp only [bb] at hc
  cases hu:P.underlying t with
  | none=>simp [hu] at hc
  | some d=>
    cases d with
    | slice e=>
      simp only [hu,Bool.and_eq_true,beq_iff_eq,decide_eq_true_eq] at hc
      obtain ⟨⟨⟨⟨⟨⟨rfl,hinf⟩,_⟩,hbig⟩,hpos⟩,hzs⟩,hp⟩:=hc
      obtain ⟨i,hinfo⟩:=Option.isSome_iff_exists.1 hinf
      unfold pf at hzs
      cases hzero:i.zero with
      | none=>simp [hinfo,hzero] at hzs
      | some zv=>
        simp only [hinfo,Option.bind_some,hzero,beq_iff_eq] at hzs
        generalize hsz:P.cellsOf e = sz at *
        -- the zero elements
        have hz0:dX s sz (List.replicate n .undef) (List.replicate n zv) ((Array.range (n * sz)).map (zv.cells[· % zv.cells.size]!)):=by
          refine ⟨by simp,fun i h1 h2=>⟨by simpa using Rv.undef _,by simp [hzs]⟩,fun i j h2 hj=>?_⟩
          simp only [List.getElem_replicate] at hj ⊢
          have hin:i < n:=by simpa using h2
          have:i * sz + j < n * sz:=dI hin (by omega)
          have hmod:(i * sz + j) % zv.cells.size = j:=by rw [hzs,Nat.mul_comm,Nat.mul_add_mod]; exact Nat.mod_eq_of_lt (by omega)
          simp [this,hmod,hj]
        obtain ⟨us',C',f1,f2,f3,f4⟩:=pA (s:=s) (ρ:=ρ) (ρ':=ρ') (n:=n) rfl (ps:=ps) (qs:=parts.toList) ha hp ho (by simp) (by simp) hz0
        have hlist:(parts.map fun x=>(x.1,ρ' x.2)).toList = parts.toList.map fun x=>(x.1,ρ' x.2):=by simp
        have hrun:(Instr.buildSlice t n (parts.map fun x=>(x.1,ρ' x.2))).run P s.w = .ok (.slice (some ⟨s.w.heap.size,0,none⟩) n n) (s.w.alloc (.cells C' e)):=by
          unfold Instr.buildSlice
          simp only [Sem.run_bind,an hu,Result.andThen_ok,aR hinf,hsz]
          rw [if_neg (by omega)]
          by_cases hn0:n * sz = 0
          · have hn:n = 0:=by rcases Nat.mul_eq_zero.1 hn0 with h | h <;> omega
            subst hn
            have hmap:∀ g:Nat → Value,(Array.range (0 * sz)).map g = #[]:=fun g=>by apply Array.ext'; simp
            rw [hmap] at f1
            rw [if_pos hn0,Sem.run_bind,Sem.run_pure,Result.andThen_ok,hmap,hlist,f1]
            simp [newRow]
          · rw [if_neg hn0]
            simp [zeroValue,typeInfo,hinfo,hzero,f1,newRow]
        generalize hxs:gz ρ (List.replicate n .undef) ps = xs at *
        have hlen:xs.length = n:=f4
        split at h
        · obtain ⟨s1,e1,e2,e3,i1,g1,r1,_⟩:=hi.DT e n (by omega) f3
          rw [hlen] at r1
          exact au.value (aq _ _ _ _ hrun) e3 i1 g1 r1 (by rw [e1]; exact h)
        · split at h
          · obtain ⟨s1,e1,e2,e3,i1,g1,r1,_⟩:=hi.DT e n (by omega) f3
            rw [hlen] at r1
            obtain ⟨s2,a1,a2,i2,g2,d2⟩:=i1.one
            obtain ⟨s3,b1,b2,i3,g3,k3,_⟩:=i2.fE d2 sz (some ⟨s.w.heap.size,0,none⟩) n
            refine au.value (aq _ _ _ _ hrun) (b2.trans (a2.trans e3)) i3 (g1.trans (g2.trans g3)) (v:=.oslice sz xs s.h.length 0) (.oslice _ _ _ _ _ (r1.keeps (g2.trans g3).keeps) (by rw [← e1]; exact k3)) ?_
            rw [b1,a1,bO,e1]; exact h
          · obtain ⟨s2,a1,a2,i2,g2,d2⟩:=hi.one
            have f3':dX s2 sz xs us' C':=⟨f3.len,fun i h1 h2=>⟨(f3.rv i h1 h2).1.keeps g2.keeps,(f3.rv i h1 h2).2⟩,f3.cell⟩
            obtain ⟨s3,b1,b2,i3,g3,r3⟩:=i2.oV d2 e n (by omega) f2 f3'
            rw [hlen,a2] at r3
            refine au.value (aq _ _ _ _ hrun) (by rw [b2,a2]) i3 (g2.trans g3) r3 ?_
            rw [b1,a1,bO]; exact h
    | _=>simp [hu] at hc
end
open Go.RowKit
section
variable {P:Program} {s:St} {A:World} {ρ:aG → ab} {ρ':Operand → Value} {K Kp:ab → ag → Prop}
theorem kD:∀ (l:List ab) (cs:List ab) (off p:Nat),(putCells cs off l)[p]? = if off ≤ p ∧ p < off + l.length ∧ p < cs.length then l[p - off]? else cs[p]?
  | [],cs,off,p=>by rw [if_neg (by simp; omega)]; rfl
  | a :: l,cs,off,p=>by
    rw [putCells,kD l]
    simp only [List.length_set,List.length_cons,List.getElem?_set]
    by_cases e:off = p
    · subst e
      rw [if_neg (by omega)]
      by_cases hlt:off < cs.length
      · rw [if_pos rfl,if_pos hlt,if_pos (by omega)]; simp
      · rw [if_pos rfl,if_neg hlt,if_neg (by omega),List.getElem?_eq_none (by omega)]
    · rw [if_neg e]
      by_cases c:off + 1 ≤ p ∧ p < off + 1 + l.length ∧ p < cs.length
      · rw [if_pos c,if_pos (by omega),show p - off = (p - (off + 1)) + 1 by omega]; simp
      · rw [if_neg c,if_neg (by omega)]
def wrote (C:Array Value) (off:Nat) (l:List Value):Array Value:=(C.toList.take off ++ l ++ C.toList.drop (off + l.length)).toArray
theorem gP {C:Array Value} {off:Nat} {l:List Value} (h:off + l.length ≤ C.size):(wrote C off l).size = C.size:=by simp [wrote]; omega
theorem iV {C:Array Value} {off:Nat} {l:List Value} (h:off + l.length ≤ C.size) (p:Nat):(wrote C off l)[p]? = if off ≤ p ∧ p < off + l.length then l[p - off]? else C[p]?:=by
  simp only [wrote,List.getElem?_toArray]
  have h1:(C.toList.take off).length = off:=by simp; omega
  by_cases c1:p < off
  · rw [if_neg (by omega),List.append_assoc,List.getElem?_append_left (by omega),List.getElem?_take_of_lt c1]; simp
  · by_cases c2:p < off + l.length
    · rw [if_pos (by omega),List.append_assoc,List.getElem?_append_right (by omega),h1,List.getElem?_append_left (by omega)]
    · rw [if_neg (by omega),List.getElem?_append_right (by simp; omega)]
      simp only [List.length_append,h1,List.getElem?_drop]
      rw [show off + l.length + (p - (off + l.length)) = p by omega]; simp
theorem lK:∀ {l:List ab},dR l = true → ∀ v ∈ l,v.fh = true
  | a :: l,h,v,hv=>by
    simp only [dR,Bool.and_eq_true] at h
    rcases List.mem_cons.1 hv with rfl | h'
    · exact h.1
    · exact lK h.2 v h'
theorem mj {v:ab} {c:Value} (hv:Rv s v c) {n:Nat} (hn:bB v n) (ha:dR v.cells = true):∀ x ∈ c.cells.toList,x.oneCell' = true:=by
  obtain ⟨h1,h2,h3⟩:=dv hv hn
  intro x hx
  obtain ⟨j,hj,rfl⟩:=List.getElem_of_mem hx
  have g2:j < c.cells.size:=by simpa using hj
  have:=h3 j (by omega) g2
  simpa using DX this (lK ha _ (List.getElem_mem _))
theorem Inv.write (hi:Inv A s) {b blk:Nat} {o o':aQ} (hb:s.h[b]? = some o) (hown:cV s b o blk) (w':World) (hos:w'.os = s.w.os) (ht:w'.tape = s.w.tape) (hout:w'.output = s.w.output)
    (hsz:w'.heap.size = s.w.heap.size) (hother:∀ k,k ≠ blk → w'.heap[k]? = s.w.heap[k]?) (hnS:∀ x, ¬ s.S blk x)
    (hobj:bg s { s with h:=s.h.set b o',w:=w' } → lz { s with h:=s.h.set b o',w:=w' } A.heap.size b o') (hown':∀ k,cV { s with h:=s.h.set b o',w:=w' } b o' k → k = blk) :
    Inv A { s with h:=s.h.set b o',w:=w' } ∧ bK s { s with h:=s.h.set b o',w:=w' }:=by
  have hlt:=(hi.obj b o hb).rM hown
  have hk:bg s { s with h:=s.h.set b o',w:=w' }:=⟨fun _ _ _ h=>h,fun _ _ h=>h,fun k x hs=>World.cell?_of_block (a:=⟨k,x,none⟩) (hother k (fun e=>hnS x (e ▸ hs)))⟩
  refine hi.change (s':={ s with h:=s.h.set b o',w:=w' }) (List.getElem?_eq_some_iff.1 hb).1 rfl hk ?_ (Nat.le_of_eq hsz.symm) (fun _ _ _=>rfl) ?_ (hobj hk) (fun k h=>.inr ⟨o,hb,by rw [hown' k h]; exact hown⟩) (fun _ _ h=>.inl h)
    (fun k x h=>by have:=hi.scell _ _ h; simp only; omega)
  · exact hi.below.trans ⟨hos,ht,hout,Nat.le_of_eq hsz.symm,fun k hk'=>hother k (by omega)⟩
  · intro k _ hno
    exact hother k fun e=>hno ⟨o,hb,e ▸ hown⟩
theorem lM (hi : Inv A s) {t : TypeId} {sz : Nat} (ht : P.cellsOf t = sz) (hinf : (P.info? t).isSome = true) {a v : ab} {c d : Value} (hac : Rv s a c) (hv : Rv s v d) (ho : ia s.h sz v a) (h : K .undef (jZ s.h v a)) :
    au P A s K Kp ((do Instr.storeAt t c d; pure Next.skip:Sem Next).run P s.w):=by
  have hrun:∀ {blk off:Nat} {vs:Array Value} {el:TypeId},c = .pointer (some ⟨blk,off,none⟩) → s.w.heap[blk]? = some (.cells vs el (0,0)) → off + d.cells.size ≤ vs.size → d.cells.size = sz → (∀ x ∈ d.cells.toList,x.oneCell' = true) →
      (do Instr.storeAt t c d; pure Next.skip:Sem Next).run P s.w = .ok .skip (s.w.setRow blk (wrote vs off d.cells.toList)):=by
    intro blk off vs el hc hh hfit hdsz hone
    subst hc
    have:=run_storeCells_at P blk off el d.cells.toList 0 vs s.w hh (by simpa using hfit) hone
    simp only [Nat.add_zero] at this
    simp [Instr.storeAt,Instr.sureAddr,storeVar,aR hinf,ht,hdsz,this,wrote]
  cases a with
  | ptr b off=>
    obtain ⟨o1,o2,o3⟩:=ho
    obtain ⟨d1,d2,d3⟩:=dv hv o1
    cases hb:s.h.get b with
    | box cs=>
      rw [hb] at o3
      simp only [jZ,hb] at h
      have hbs:=ag.get_some hb (by simp)
      obtain ⟨blk,vs,el,hl,hB,hh,hvs,hr,hnS⟩:=hi.obj b _ hbs
      cases hac with
      | ptr _ _ blk' hl'=>
        have:blk' = blk:=by rw [hl] at hl'; simpa using hl'.symm
        subst this
        rw [hrun rfl hh (by omega) d1 (mj hv o1 o2)]
        have hfit:off + d.cells.toList.length ≤ vs.size:=by simp; omega
        have hw:=hi.write (o':=.box (putCells cs off v.cells)) hbs hl (s.w.setRow blk' (wrote vs off d.cells.toList)) rfl rfl rfl (by simp) (fun k hk=>setRow_other _ _ _ _ hk) hnS
          (fun hk=>⟨blk',_,el,hl,hB,setRow_heap s.w blk' vs _ el (0,0) hh,by rw [gP hfit,eN,hvs],fun j h1 h2=>by
            have e1:=kD v.cells cs off j
            have e2:=iV hfit j
            rw [List.getElem?_eq_getElem h1] at e1
            rw [Array.getElem?_eq_getElem h2] at e2
            rw [eN] at h1
            simp only [Array.length_toList] at e2
            by_cases cc:off ≤ j ∧ j < off + d.cells.size
            · rw [if_pos ⟨cc.1,by omega,h1⟩,List.getElem?_eq_getElem (by omega)] at e1
              rw [if_pos cc,List.getElem?_eq_getElem (by simp; omega)] at e2
              rw [Option.some.inj e1,Option.some.inj e2]
              have:=(d3 (j - off) (by omega) (by omega)).keeps hk
              simpa using this
            · rw [if_neg (by omega),List.getElem?_eq_getElem h1] at e1
              rw [if_neg cc,Array.getElem?_eq_getElem (by omega)] at e2
              rw [Option.some.inj e1,Option.some.inj e2]
              exact (hr j h1 (by omega)).keeps hk,hnS⟩)
          (fun k hk=>by have e:s.lam b 0 = _:=hk; rw [hl] at e; simpa using e.symm)
        exact ⟨.undef,_,rfl,hw.1,hw.2, .undef _,h⟩
    | _=>rw [hb] at o3; exact o3.elim
  | eptr esz b i f n=>
    obtain ⟨o1,o2,o3⟩:=ho
    obtain ⟨d1,d2,d3⟩:=dv hv o1
    cases hb:s.h.get b with
    | arr esz' xs=>
      rw [hb] at o3
      simp only [jZ,hb] at h
      obtain ⟨rfl,hn,hin,hset⟩:=o3
      have hbs:=ag.get_some hb (by simp)
      obtain ⟨hlater,hob⟩:=hi.obj b _ hbs
      rcases hob with ⟨hx,_⟩ | ⟨blk,cap,vs,el,us,h0c,hl,hB,hh,hvs,hcap,hus,hr,hcell,hnS⟩
      · subst hx; simp at hn; omega
      · cases hac with
        | eptr _ _ _ _ _ blk' cap' hl'=>
          have:blk' = blk:=by rw [hn,hl'] at hl; simp at hl; exact hl.1
          subst this
          have h1:i < xs.length:=by omega
          have h2:i < us.length:=by omega
          obtain ⟨hri,hci⟩:=hr i h1 h2
          have hx:xs.getD i .undef = xs[i]:=by simp [List.getD,List.getElem?_eq_getElem h1]
          rw [hx] at hset h
          -- the element that is written
          have helem : ∃ u,Rv s (mH xs[i] f v.cells) u ∧ u.cells.size = esz' ∧ f + d.cells.size ≤ esz' ∧ ∀ j (hj : j < u.cells.size),some u.cells[j] = if f ≤ j ∧ j < f + d.cells.size then d.cells[j - f]? else us[i].cells[j]? := by
            cases hxi:xs[i] with
            | agg cs=>
              rw [hxi] at hri hset
              obtain ⟨ws,hw,hws,hwr⟩:=hri.fR
              simp only [mo] at hset
              have hw2:us[i].cells = ws:=by rw [hw]; rfl
              rw [hw2] at hci
              have hfit:f + d.cells.toList.length ≤ ws.size:=by simp; omega
              refine ⟨.agg (wrote ws f d.cells.toList), ?_,by show (wrote ws f d.cells.toList).size = esz'; rw [gP hfit]; exact hci,by omega,fun j hj=>?_⟩
              · refine .agg _ _ (by rw [gP hfit,eN,hws]) (fun j g1 g2=>?_)
                have e1:=kD v.cells cs f j
                have e2:=iV hfit j
                rw [List.getElem?_eq_getElem g1] at e1
                rw [Array.getElem?_eq_getElem g2] at e2
                rw [eN] at g1
                simp only [Array.length_toList] at e2
                by_cases cc:f ≤ j ∧ j < f + d.cells.size
                · rw [if_pos ⟨cc.1,by omega,g1⟩,List.getElem?_eq_getElem (by omega)] at e1
                  rw [if_pos cc,List.getElem?_eq_getElem (by simp; omega)] at e2
                  rw [Option.some.inj e1,Option.some.inj e2]
                  have:=d3 (j - f) (by omega) (by omega)
                  simpa using this
                · rw [if_neg (by omega),List.getElem?_eq_getElem g1] at e1
                  rw [if_neg cc,Array.getElem?_eq_getElem (by omega)] at e2
                  rw [Option.some.inj e1,Option.some.inj e2]
                  exact hwr j g1 (by omega)
              · have hj':j < (wrote ws f d.cells.toList).size:=hj
                have e2:=iV hfit j
                rw [Array.getElem?_eq_getElem hj'] at e2
                show some ((wrote ws f d.cells.toList)[j]'hj') = _
                rw [e2,hw2]
                simp
            | _=>
              rw [hxi] at hri hset
              simp only [mo] at hset
              obtain ⟨q1,q2,q3⟩:=hset
              first
                | (exfalso; simp [ab.fh] at q1; done)
                | (subst q2
                   have hc1:=dx hri q1
                   have hz1:us[i].cells.size = 1:=by rw [hc1]; rfl
                   have hdone:v.fh = true ∧ v.cells = [v] ∧ d.cells = #[d] ∨ ∃ q,v = .agg [q]:=by
                     cases v with
                     | agg cs=>right; simp only [bB] at o1; rw [q3] at o1; match cs,o1 with | [q],_=>exact ⟨q,rfl⟩
                     | _=>left; exact ⟨o1.1,rfl,dx hv o1.1⟩
                   have hone:v.cells.getD 0 .undef = v.cells[0]'(by omega):=by simp [List.getD,List.getElem?_eq_getElem (show 0 < v.cells.length by omega)]
                   have hd0:0 < d.cells.size:=by omega
                   have hsc:=lK o2 (v.cells[0]'(by omega)) (List.getElem_mem _)
                   have hr0:=d3 0 (by omega) hd0
                   have hcc:=dx hr0 hsc
                   refine ⟨d.cells[0],by simp only [mH,hone]; exact hr0,by rw [hcc]; simp; omega,by omega,fun j hj=>?_⟩
                   have hj0:j = 0:=by rw [hcc] at hj; simp at hj; exact hj
                   subst hj0
                   rw [if_pos (by omega)]
                   simp [hcc,hd0])
          obtain ⟨u,hu,husz,hffit,hucell⟩:=helem
          have hbnd:i * esz' + esz' ≤ vs.size:=by
            rw [hvs]
            have:(i + 1) * esz' ≤ cap * esz':=Nat.mul_le_mul_right _ (by omega)
            rw [Nat.add_mul] at this; omega
          have hfit:i * esz' + f + d.cells.toList.length ≤ vs.size:=by simp; omega
          rw [hrun rfl hh (by simpa using hfit) d1 (mj hv o1 o2)]
          have hw := hi.write (o' := .arr esz' (xs.set i (mH xs[i] f v.cells))) hbs ⟨cap,h0c,hl⟩ (s.w.setRow blk' (wrote vs (i * esz' + f) d.cells.toList)) rfl rfl rfl (by simp) (fun k hk => setRow_other _ _ _ _ hk) hnS
            (fun hk => ⟨fun k' hk' => hlater k' (by rw [List.length_set] at hk'; exact hk'), .inr ⟨blk',cap,_,el,us.set i u,h0c,by rw [List.length_set]; exact hl,hB,setRow_heap s.w blk' vs _ el (0,0) hh,by rw [gP hfit]; exact hvs,by simpa using hcap,by simpa using hus,fun k g1 g2 => by
                simp only [List.length_set] at g1 g2
                by_cases e:i = k
                · subst e; simp only [List.getElem_set_self]; exact ⟨hu.keeps hk,husz⟩
                · simp only [List.getElem_set_ne e]; exact ⟨(hr k g1 g2).1.keeps hk,(hr k g1 g2).2⟩,
              fun k j g2 gj=>by
                simp only [List.length_set] at g2
                rw [iV hfit]
                simp only [Array.length_toList]
                by_cases e:i = k
                · subst e
                  simp only [List.getElem_set_self] at gj ⊢
                  rw [hucell j gj]
                  by_cases cc:f ≤ j ∧ j < f + d.cells.size
                  · rw [if_pos ⟨by omega,by omega⟩,if_pos cc,show i * esz' + j - (i * esz' + f) = j - f by omega]; simp
                  · rw [if_neg (by omega),if_neg cc,hcell i j g2 (by omega),Array.getElem?_eq_getElem (by omega)]
                · simp only [List.getElem_set_ne e] at gj ⊢
                  have hk2:=(hr k (by omega) g2).2
                  rw [if_neg]
                  · exact hcell k j g2 gj
                  · rintro ⟨q1,q2⟩
                    obtain ⟨j',hj'⟩:∃ j',k * esz' + j = i * esz' + j':=⟨k * esz' + j - i * esz',by omega⟩
                    exact e (idx_eq (by omega) (by omega) hj').1.symm,hnS⟩⟩)
            (fun k hk=>by
              obtain ⟨cap2,_,e⟩:=hk
              rw [List.length_set] at e
              have e':s.lam b xs.length = _:=e
              rw [hl] at e'; simp at e'; exact e'.1.symm)
          exact ⟨.undef,_,rfl,hw.1,hw.2, .undef _,h⟩
    | _=>rw [hb] at o3; exact o3.elim
  | _=>exact ho.elim
end
end Go.AM
