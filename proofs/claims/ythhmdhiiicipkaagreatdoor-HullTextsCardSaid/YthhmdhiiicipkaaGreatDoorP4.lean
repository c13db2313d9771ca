/- Literals of structs, arrays and slices; and all plain instructions in one theorem. What a call does, in our terms ('Spec', 'CallV'); what a piece of code does ('AWc'). -/
import Derived.Test.YthhmdhiiicipkaaGreatDoorP3
import Derived.Laws.BytesString
import Derived.Laws.StructEq
namespace Go.AM
open Go.RowKit
section run
variable {P:Program} {s:St} {A:World} {ρ:aG → ab} {ρ':Operand → Value}
def Row (s:St) (cs:List ab) (vs:Array Value):Prop:=vs.size = cs.length ∧ ∀ j (h1:j < cs.length) (h2:j < vs.size),Rv s cs[j] vs[j]
theorem Row.set {cs:List ab} {vs:Array Value} (h:Row s cs vs) {v:ab} {u:Value} (hv:Rv s v u) (i:Nat):Row s (cs.set i v) (vs.setIfInBounds i u):=by
  refine ⟨by simpa using h.1,fun j h1 h2=>?_⟩
  simp only [List.length_set] at h1
  simp only [Array.size_setIfInBounds] at h2
  by_cases e:i = j
  · subst e; simpa using hv
  · simp only [List.getElem_set_ne e,Array.getElem_setIfInBounds_ne h2 e]; exact h.2 j h1 h2
theorem Row.put:∀ {l:List ab} {m:List Value} (off:Nat) {cs:List ab} {vs:Array Value},Row s cs vs → l.length = m.length → (∀ j (h1:j < l.length) (h2:j < m.length),Rv s l[j] m[j]) → ∀ k,
    Row s (putCells cs off l) ((m.zipIdx k).foldl (fun cs (x:Value × Nat)=>cs.setIfInBounds (off - k + x.2) x.1) vs) ∨ off < k
  | [],[],off,cs,vs,h,_,_,k=>.inl h
  | a :: l,b :: m,off,cs,vs,h,hl,hr,k=>by
    by_cases hk:off < k
    · exact .inr hk
    · left
      simp only [List.zipIdx_cons,List.foldl_cons,putCells]
      rw [show off - k + k = off by omega]
      have h1:=h.set (hr 0 (by simp) (by simp)) off
      rcases Row.put (off + 1) h1 (by simpa using hl) (fun j g1 g2=>by have:=hr (j + 1) (by simpa using g1) (by simpa using g2); simpa using this) (k + 1) with h2 | h2
      · rw [show off + 1 - (k + 1) = off - k by omega] at h2; exact h2
      · omega
  | [],_ :: _,_,_,_,_,hl,_,_=>by simp at hl
  | _ :: _,[],_,_,_,_,hl,_,_=>by simp at hl
theorem eN:∀ (l:List ab) (cs:List ab) (off:Nat),(putCells cs off l).length = cs.length
  | [],_,_=>rfl
  | a :: l,cs,off=>by simp only [putCells]; rw [eN l]; simp
theorem dv {v:ab} {c:Value} {n:Nat} (h:Rv s v c) (hn:bB v n):c.cells.size = n ∧ v.cells.length = n ∧ ∀ j (g1:j < v.cells.length) (g2:j < c.cells.size),Rv s v.cells[j] c.cells[j]:=by
  have hf:v.Co = true ∧ v.cells.length = n:=by
    cases v with
    | agg cs=>exact ⟨rfl,hn⟩
    | _=>exact ⟨hn.1,hn.2.symm⟩
  obtain ⟨h1,h2⟩:=h.cells hf.1
  exact ⟨by omega,hf.2,h2⟩
theorem Row.part {cs:List ab} {vs:Array Value} (h:Row s cs vs) {v:ab} {c:Value} {n:Nat} (hv:Rv s v c) (hn:bB v n) (off:Nat) :
    Row s (putCells cs off v.cells) (c.cells.zipIdx.foldl (fun cs (x:Value × Nat)=>cs.setIfInBounds (off + x.2) x.1) vs):=by
  obtain ⟨h1,h2,h3⟩:=dv hv hn
  have:=Row.put (s:=s) (l:=v.cells) (m:=c.cells.toList) off h (by simp; omega) (fun j g1 g2=>by have:=h3 j g1 (by simpa using g2); simpa using this) 0
  rcases this with h4 | h4
  · rw [← Array.foldl_toList,Array.toList_zipIdx]
    simpa using h4
  · omega
theorem nQ {place:Nat → Option (Nat × Nat)}:∀ {ps:List (Nat × Nat × aG)} {qs:List (Nat × Value)} {cs:List ab} {vs:Array Value},Row s cs vs → ps.length = qs.length →
    (∀ j (h1:j < ps.length) (h2:j < qs.length),place qs[j].1 = some (ps[j].1,ps[j].2.1) ∧ Rv s (ρ ps[j].2.2) qs[j].2) → gu cs.length ρ ps →
    ∃ ws,Instr.fill place vs qs = some ws ∧ Row s (o7 cs (ps.map fun p=>(p.1,(ρ p.2.2).cells))) ws
  | [],[],cs,vs,h,_,_,_=>⟨vs,rfl,h⟩
  | (off,sz,x) :: ps,(i,c) :: qs,cs,vs,h,hl,hr,ho=>by
    obtain ⟨h1,h2⟩:=hr 0 (by simp) (by simp)
    simp only [List.getElem_cons_zero] at h1 h2
    obtain ⟨o1,o2,o3⟩:=ho
    obtain ⟨g1,g2,g3⟩:=dv h2 o1
    have hrow:=h.part h2 o1 off
    obtain ⟨ws,e1,e2⟩:=nQ (place:=place) (ps:=ps) (qs:=qs) hrow (by simpa using hl)
      (fun j k1 k2=>by have:=hr (j + 1) (by simpa using k1) (by simpa using k2); simpa using this) (by rw [eN]; exact o3)
    refine ⟨ws, ?_,by simpa [o7] using e2⟩
    simp only [Instr.fill,h1]
    rw [if_neg]
    · exact e1
    · simp [g1,h.1]; omega
  | [],_ :: _,_,_,_,hl,_,_=>by simp at hl
  | _ :: _,[],_,_,_,hl,_,_=>by simp at hl
theorem nj {α β:Type} {f:α → Sem β} {g:α → β}:∀ (l:List α) (w:World),(∀ a ∈ l, ∀ w,(f a).run P w = .ok (g a) w) → (l.mapM f).run P w = .ok (l.map g) w
  | [],w,_=>rfl
  | a :: l,w,h=>by
    rw [List.mapM_cons]
    simp [h a (by simp),nj l w (fun b hb=>h b (by simp [hb]))]
theorem tR {α β:Type} {f:α → Sem β} {g:α → β} (l:Array α) (w:World) (h:∀ a ∈ l, ∀ w,(f a).run P w = .ok (g a) w):(l.mapM f).run P w = .ok (l.map g) w:=by
  rw [Array.mapM_eq_mapM_toList]
  rw [Sem.run_map,nj (P:=P) l.toList w (fun a ha=>h a (by simpa using ha))]
  simp only [Result.andThen_ok]
  congr 1
  apply Array.ext'
  simp
theorem pr (ha:fM s ρ ρ') {t:TypeId}:∀ {ps:List (Nat × Nat × aG)} {qs:List (Nat × Operand)},gZ P t ps qs = true → ps.length = qs.length ∧
    ∀ j (h1:j < ps.length) (h2:j < (qs.map fun x=>(x.1,ρ' x.2)).length),mq P t (qs.map fun x=>(x.1,ρ' x.2))[j].1 = some (ps[j].1,ps[j].2.1) ∧ Rv s (ρ ps[j].2.2) (qs.map fun x=>(x.1,ρ' x.2))[j].2
  | [],[],_=>⟨rfl,fun j h1 _=>by simp at h1⟩
  | (off,sz,x) :: ps,(i,y) :: qs,h=>by
    simp only [gZ,Bool.and_eq_true,beq_iff_eq] at h
    obtain ⟨e1,e2⟩:=pr ha (ps:=ps) (qs:=qs) h.2
    refine ⟨by simpa using e1,fun j h1 h2=>?_⟩
    cases j with
    | zero=>exact ⟨h.1.1,ha x y h.1.2⟩
    | succ j=>have:=e2 j (by simpa using h1) (by simpa using h2); simpa using this
  | [],_ :: _,h=>by simp [gZ] at h
  | _ :: _,[],h=>by simp [gZ] at h
theorem y6 {t:TypeId} {z:List ab} (h:fA P t z = true) (w:World):∃ v,(zeroValue t).run P w = .ok v w ∧ Row s z v.cells:=by
  unfold fA at h
  cases hi:P.info? t with
  | none=>simp [hi] at h
  | some i=>
    cases hz:i.zero with
    | none=>simp [hi,hz] at h
    | some v=>
      simp only [hi,Option.bind_some,hz] at h
      refine ⟨v,by simp [zeroValue,typeInfo,hi,hz],by simpa using iR h,fun j h1 h2=>?_⟩
      have:=jN (s:=s) h j h1 (by simpa using h2)
      simpa using this
theorem oS (ha:fM s ρ ρ') {t:TypeId} {z:List ab} {ps:List (Nat × Nat × aG)} {parts:Array (Nat × Operand)}
    (hz:∃ v,(zeroValue t).run P s.w = .ok v s.w ∧ Row s z v.cells) (ht:mG P t = true) (hp:gZ P t ps parts.toList = true) (ho:gu z.length ρ ps) :
    ∃ c,(Instr.build t (parts.map fun x=>(x.1,ρ' x.2))).run P s.w = .ok c s.w ∧ Rv s (.agg (o7 z (ps.map fun p=>(p.1,(ρ p.2.2).cells)))) c:=by
  obtain ⟨zv,hz1,hz2⟩:=hz
  obtain ⟨hl,hpl⟩:=pr ha hp
  have hlist:(parts.map fun x=>(x.1,ρ' x.2)).toList = parts.toList.map fun x=>(x.1,ρ' x.2):=by simp
  unfold Instr.build
  unfold mG at ht
  cases hu:P.underlying t with
  | none=>simp [hu] at ht
  | some d=>
    cases d with
    | struct fs=>
      simp only [hu,List.all_eq_true] at ht
      have hm:(fs.mapM fun f=>(do pure (f.offset, ← sizeOf f.type):Sem (Nat × Nat))).run P s.w = .ok (fs.map fun f=>(f.offset,P.cellsOf f.type)) s.w:=
        tR fs s.w fun f hf w=>by simp [aR (ht f (by simpa using hf))]
      obtain ⟨ws,e1,e2⟩:=nQ (s:=s) (ρ:=ρ) (place:=fun i=>(fs.map fun f=>(f.offset,P.cellsOf f.type))[i]?) hz2 (qs:=parts.toList.map fun x=>(x.1,ρ' x.2)) (by simpa using hl) (fun j h1 h2=>by
        have:=hpl j h1 h2
        refine ⟨?_,this.2⟩
        have h3:=this.1
        simp only [mq,hu] at h3
        simpa using h3) ho
      refine ⟨.agg ws, ?_, .agg _ _ e2.1 e2.2⟩
      simp only [Sem.run_bind,hz1,Result.andThen_ok,an hu,hm]
      rw [hlist]
      simp only [e1]
      rfl
    | array n e=>
      simp only [hu] at ht
      obtain ⟨ws,e1,e2⟩:=nQ (s:=s) (ρ:=ρ) (place:=fun i=>some (i * P.cellsOf e,P.cellsOf e)) hz2 (qs:=parts.toList.map fun x=>(x.1,ρ' x.2)) (by simpa using hl) (fun j h1 h2=>by
        have:=hpl j h1 h2
        refine ⟨?_,this.2⟩
        have h3:=this.1
        simp only [mq,hu] at h3
        exact h3) ho
      refine ⟨.agg ws, ?_, .agg _ _ e2.1 e2.2⟩
      simp only [Sem.run_bind,hz1,Result.andThen_ok,an hu,aR ht]
      rw [hlist]
      simp only [e1]
      rfl
    | _=>simp [hu] at ht
theorem yr (ha:fM s ρ ρ') {t:TypeId} {z:List ab} {ps:List (Nat × Nat × aG)} {parts:Array (Nat × Operand)}
    (hz:fA P t z = true) (ht:mG P t = true) (hp:gZ P t ps parts.toList = true) (ho:gu z.length ρ ps) :
    ∃ c,(Instr.build t (parts.map fun x=>(x.1,ρ' x.2))).run P s.w = .ok c s.w ∧ Rv s (.agg (o7 z (ps.map fun p=>(p.1,(ρ p.2.2).cells)))) c:=
  oS ha (y6 (s:=s) hz s.w) ht hp ho
theorem mi:∀ (a b c d:List ab),a.length = b.length → bQ (a ++ c) (b ++ d) = (bQ a b && bQ c d)
  | [],[],c,d,_=>by simp [bQ]
  | x :: a,y :: b,c,d,h=>by simp only [List.cons_append,bQ]; rw [mi a b c d (by simpa using h),Bool.and_assoc]
  | [],_ :: _,_,_,h=>by simp at h
  | _ :: _,[],_,_,h=>by simp at h
theorem jX:∀ {l:List LK} {a b:List ab},bz l a b = true → a.length = l.length ∧ b.length = l.length
  | [],[],[],_=>⟨rfl,rfl⟩
  | k :: l,x :: a,y :: b,h=>by simp only [bz,Bool.and_eq_true] at h; have:=jX h.2; simp [this.1,this.2]
  | [],_ :: _,_,h=>by simp [bz] at h
  | [],[],_ :: _,h=>by simp [bz] at h
  | _ :: _,[],_,h=>by simp [bz] at h
  | _ :: _,_ :: _,[],h=>by simp [bz] at h
theorem k6:∀ {l l':List LK} {a b:List ab},bz (l ++ l') a b = true →
    bz l (a.take l.length) (b.take l.length) = true ∧ bz l' (a.drop l.length) (b.drop l.length) = true
  | [],l',a,b,h=>by simpa [bz] using h
  | k :: l,l',x :: a,y :: b,h=>by
    simp only [List.cons_append,bz,Bool.and_eq_true] at h
    obtain ⟨h1,h2⟩:=k6 h.2
    simp only [List.length_cons,List.take_succ_cons,List.drop_succ_cons,bz,Bool.and_eq_true]
    exact ⟨⟨h.1,h1⟩,h2⟩
  | _ :: _,_,[],_,h=>by simp [bz] at h
  | _ :: _,_,_ :: _,[],h=>by simp [bz] at h
theorem qG {k:LK} {a b:ab} (h:fu k a b = true):a.fh = true ∧ b.fh = true:=by
  cases k <;> cases a <;> cases b <;> simp [fu] at h <;> exact ⟨rfl,rfl⟩
theorem jH {v:ab} (hv:v.fh = true):v.cells = [v]:=by cases v <;> simp [ab.fh] at hv <;> rfl
def CZ (l:List LK) (k:Option Nat) (a b:ab):Prop:=
  match k with
  | none=>∃ q,l = [q] ∧ fu q a b = true
  | some _=>∃ az bs,a = .agg az ∧ b = .agg bs ∧ bz l az bs = true
def Cu (P:Program) (s:St) (d:Nat) (t:TypeId) (l:List LK):Prop:=
  ∃ k,kOk P t k = true ∧ l.length = k.getD 1 ∧ (k = none → ∃ q,l = [q]) ∧
    ∀ j,d ≤ j → ∀ (a b:ab) (x y:Value),Rv s a x → Rv s b y → CZ l k a b → (Op.equalIn j t x y).run P s.w = .ok (bQ a.cells b.cells) s.w
theorem vN (d:Nat) (ih:∀ t l,kU P d t = some l → Cu P s d t l):∀ fs o l,eqFields P d fs o = some l → ∀ j,d ≤ j → ∀ (az bs:List ab) (xs ys:Array Value),Row s az xs → Row s bs ys →
    bz l (az.drop o) (bs.drop o) = true → (Op.eqFields j xs ys fs).run P s.w = .ok (bQ (az.drop o) (bs.drop o)) s.w:=by
  intro fs
  induction fs with
  | nil=>
    intro o l h j hj az bs xs ys _ _ hok
    simp only [eqFields,iY,Option.some.injEq] at h
    subst h
    obtain ⟨h1,h2⟩:=jX hok
    have h1':az.drop o = []:=List.length_eq_zero_iff.1 h1
    have h2':bs.drop o = []:=List.length_eq_zero_iff.1 h2
    rw [h1',h2']
    simp [Op.eqFields,bQ]
  | cons f fs ihf=>
    intro o l h j hj az bs xs ys ha hb hok
    simp only [eqFields,iY] at h
    simp only [oH] at h
    split at h
    case isFalse=>cases h
    rename_i hc
    obtain ⟨hn,ho⟩:=hc
    cases hf:kU P d f.type with
    | none=>simp [hf] at h
    | some l1=>
      simp only [hf] at h
      split at h
      case isTrue=>cases h
      rename_i hpos
      cases hf2:eqFields P d fs (o + l1.length) with
      | none=>simp [hf2] at h
      | some l2=>
        simp only [hf2,Option.some.injEq] at h
        subst h
        obtain ⟨k,hk,hnk,hkn,heq⟩:=ih f.type l1 hf
        obtain ⟨hok1,hok2⟩:=k6 hok
        obtain ⟨hlen1,hlen2⟩:=jX hok
        simp only [List.length_drop,List.length_append] at hlen1 hlen2
        rw [List.drop_drop,List.drop_drop] at hok2
        have hpair:fx k az o ∧ fx k bs o ∧ CZ l1 k (iK k az o) (iK k bs o) ∧ (iK k az o).cells = (az.drop o).take l1.length ∧ (iK k bs o).cells = (bs.drop o).take l1.length:=by
          cases k with
          | none=>
            obtain ⟨q,rfl⟩:=hkn rfl
            simp only [List.length_singleton] at hlen1 hlen2 hok1 ⊢
            have h1:o < az.length:=by omega
            have h2:o < bs.length:=by omega
            have e1:az.getD o .undef = az[o]:=by simp [List.getD,List.getElem?_eq_getElem h1]
            have e2:bs.getD o .undef = bs[o]:=by simp [List.getD,List.getElem?_eq_getElem h2]
            have t1:(az.drop o).take 1 = [az[o]]:=by rw [List.drop_eq_getElem_cons h1]; rfl
            have t2:(bs.drop o).take 1 = [bs[o]]:=by rw [List.drop_eq_getElem_cons h2]; rfl
            rw [t1,t2] at hok1
            simp only [bz,Bool.and_true] at hok1
            obtain ⟨s1,s2⟩:=qG hok1
            refine ⟨⟨h1,by rw [e1]; exact s1⟩,⟨h2,by rw [e2]; exact s2⟩,⟨q,rfl, ?_⟩, ?_, ?_⟩
            · simp only [iK,e1,e2]; exact hok1
            · simp only [iK,e1,jH s1,t1]
            · simp only [iK,e2,jH s2,t2]
          | some m=>
            simp only [Option.getD_some] at hnk
            subst hnk
            exact ⟨by simp only [fx]; omega,by simp only [fx]; omega,⟨_,_,rfl,rfl,hok1⟩,rfl,rfl⟩
        obtain ⟨p1,p2,p3,p4,p5⟩:=hpair
        obtain ⟨u,u1,u2⟩:=n9 hk ha.1 ha.2 p1
        obtain ⟨v,v1,v2⟩:=n9 hk hb.1 hb.2 p2
        have e:=heq j hj _ _ u v u2 v2 p3
        have hr:=ihf (o + l1.length) l2 hf2 j hj az bs xs ys ha hb hok2
        rw [p4,p5] at e
        have hsplit:bQ (az.drop o) (bs.drop o) = (bQ ((az.drop o).take l1.length) ((bs.drop o).take l1.length) && bQ (az.drop (o + l1.length)) (bs.drop (o + l1.length))):=by
          rw [← mi _ _ _ _ (by simp; omega)]
          rw [← List.drop_drop, ← List.drop_drop,List.take_append_drop,List.take_append_drop]
        rw [hsplit]
        simp only [Op.eqFields]
        rw [if_pos hn]
        simp only [Sem.run_bind,ho,u1,v1,Result.andThen_ok,e]
        cases hb2:bQ ((az.drop o).take l1.length) ((bs.drop o).take l1.length) with
        | true=>simpa using hr
        | false=>simp
theorem tY:∀ (d:Nat) (t:TypeId) (l:List LK),kU P d t = some l → Cu P s d t l
  | 0,t,l,h=>by simp [kU] at h
  | d + 1,t,l,h=>by
    have ih:=tY d
    simp only [kU] at h
    simp only [oH] at h
    cases hu:P.underlying t with
    | none=>simp [hu] at h
    | some ty=>
      have leaf:∀ q,(∀ j, ∀ (a b:ab) (x y:Value),Rv s a x → Rv s b y → fu q a b = true → (Op.equalIn (j + 1) t x y).run P s.w = .ok (fa a b) s.w) → (if kOk P t none then some [q] else none) = some l →
          Cu P s (d + 1) t l:=by
        intro q hrun hn
        split at hn
        · rename_i hk
          simp only [Option.some.injEq] at hn
          subst hn
          refine ⟨none,hk,rfl,fun _=>⟨q,rfl⟩,fun j hj a b x y ha hb hp=>?_⟩
          obtain ⟨q',hq,hp'⟩:=hp
          have:q' = q:=by simpa using hq.symm
          subst this
          obtain ⟨j',rfl⟩:∃ j',j = j' + 1:=⟨j - 1,by omega⟩
          rw [hrun j' a b x y ha hb hp']
          obtain ⟨s1,s2⟩:=qG hp'
          rw [jH s1,jH s2]
          simp [bQ]
        · cases hn
      cases ty with
      | bool=>
        simp only [hu] at h
        refine leaf .b (fun j a b x y ha hb hp=>?_) h
        cases a <;> cases b <;> simp [fu] at hp
        cases ha; cases hb; exact run_equalIn_bool s.w j t _ _ hu
      | string=>
        simp only [hu] at h
        refine leaf .s (fun j a b x y ha hb hp=>?_) h
        cases a <;> cases b <;> simp [fu] at hp
        cases ha; cases hb
        rw [run_equalIn_string s.w j t _ _ hu]
        simp [fa,beq_toListBytes]
      | int k=>
        simp only [hu] at h
        refine leaf .i (fun j a b x y ha hb hp=>?_) h
        cases a <;> cases b <;> simp [fu] at hp
        subst hp
        cases ha; cases hb; exact run_equalIn_int s.w j t _ _ _ _ hu
      | struct fs=>
        simp only [hu] at h
        split at h
        · cases h
        · rename_i hst
          cases hf:eqFields P d fs.toList 0 with
          | none=>simp [hf] at h
          | some m=>
            simp only [hf] at h
            split at h
            · rename_i hk
              simp only [Option.some.injEq] at h
              subst h
              refine ⟨some m.length,hk,rfl,fun e=>by simp at e,fun j hj a b x y ha hb hp=>?_⟩
              obtain ⟨az,bs,rfl,rfl,hok⟩:=hp
              obtain ⟨xs,rfl,hx⟩:=ha.fR
              obtain ⟨ys,rfl,hy⟩:=hb.fR
              obtain ⟨j',rfl⟩:∃ j',j = j' + 1:=⟨j - 1,by omega⟩
              have hfo:P.fieldsOf t = fs:=by simp [Program.fieldsOf,hu]
              rw [run_equalIn_struct s.w j' t xs ys (by rw [hfo]; exact hu) (by simpa using hst),hfo]
              have:=vN d ih fs.toList 0 m hf j' (by omega) az bs xs ys hx hy (by simpa using hok)
              simpa [ab.cells] using this
            · cases h
      | _=>simp [hu] at h
theorem xi:∀ {xs:List ab} {us:List Value},us.length = xs.length → (∀ i (h1:i < xs.length) (h2:i < us.length),Rv s xs[i] us[i]) → uN xs = true → ∃ ns:List Int,us = ns.map (Value.int .u8) ∧ u8s xs = ns.map fun n=>UInt8.ofNat n.toNat
  | [],[],_,_,_=>⟨[],rfl,rfl⟩
  | v :: xs,u :: us,hl,hr,ha=>by
    have h0:=hr 0 (by simp) (by simp)
    simp only [List.getElem_cons_zero] at h0
    cases v with
    | int k n=>
      cases k <;> simp [uN] at ha
      cases h0
      obtain ⟨ns,e1,e2⟩:=xi (xs:=xs) (us:=us) (by simpa using hl) (fun i g1 g2=>by have:=hr (i + 1) (by simpa using g1) (by simpa using g2); simpa using this) ha
      exact ⟨n :: ns,by rw [e1]; rfl,by simp [u8s,e2]⟩
    | _=>simp [uN] at ha
  | [],_ :: _,hl,_,_=>by simp at hl
  | _ :: _,[],hl,_,_=>by simp at hl
theorem foldl_push (ns:List Int):∀ b:ByteArray,ns.foldl (fun r n=>r.push (UInt8.ofNat n.toNat)) b = ⟨b.data ++ (ns.map fun n=>UInt8.ofNat n.toNat).toArray⟩:=by
  induction ns with
  | nil=>intro b; simp
  | cons n ns ih=>intro b; simp only [List.foldl_cons,ih,List.map_cons]; simp [ByteArray.push]
theorem BB {src dst:TypeId} (h1:(match P.underlying src with | some (.slice e)=>(match P.underlying e with | some (.int .u8)=>true | _=>false) | _=>false) = true)
    (h2:(match P.underlying dst with | some .string=>true | _=>false) = true) {x:aG} {d:Value} (hx:Rv s (ρ x) d) (hs:(AI.b2s x).side ρ s.h) :
    ∃ c,(convert src dst d).run P s.w = .ok c s.w ∧ Rv s ((AI.b2s x).val ρ s.h) c:=by
  simp only [AI.side,AI.val] at hs ⊢
  generalize ρ x = v at *
  split at h1
  · rename_i e hu
    split at h1
    · rename_i he
      split at h2
      · rename_i hd
        cases v with
        | slice sz xs=>
          obtain ⟨rfl,hal⟩:=hs
          obtain ⟨a,cap,rfl,hh⟩:=hx.cW
          rcases hh with rfl | ⟨blk,off,us,rfl,hl,hcp,hr,hm⟩
          · refine ⟨.string .empty, ?_, .str _⟩
            cases a with
            | none=>simp [convert,an hu,an hd,an he,Conv.bytesToString]
            | some ad=>
              have:=run_bytesToString (P:=P) s.w ad 0 cap [] (by simp [loadCells,loadCellsFrom])
              simp [convert,an hu,an hd,an he,this]
          · obtain ⟨ns,e1,e2⟩:=xi hl hr hal
            have hload:=run_loadCells_list (P:=P) s.w ⟨blk,off,none⟩ us (fun j v hj=>by
              obtain ⟨hj1,hj2⟩:=List.getElem?_eq_some_iff.1 hj
              have hm1:=hm j hj1
              have hc:us[j].cells = #[us[j]]:=by
                have:us[j] = .int .u8 (ns[j]'(by rw [e1] at hj1; simpa using hj1)):=by simp [e1]
                rw [this]; rfl
              have:=(hm1.2 0 (by rw [hc]; simp)).2
              rw [addr_add]
              simp only [Nat.mul_one,Nat.add_zero] at this
              rw [this, ← hj2]
              simp [hc])
            rw [hl] at hload
            refine ⟨_, ?_, .str _⟩
            rw [e1] at hload
            have:=run_bytesToString (P:=P) s.w ⟨blk,off,none⟩ xs.length cap ns (by simpa using hload)
            rw [foldl_push] at this
            simp [convert,an hu,an hd,an he,this,e2]
        | _=>exact hs.elim
      · cases h2
    · cases h1
  · cases h1
theorem AI.vu (hi:Inv A s) {i:AI} {o:Oper} (hc:bb P i o.op = true) (hp:i.plain = true) (hne:∀ m sz n ps,i ≠ .lit m sz n ps) (ha:fM s ρ ρ') (hs:i.side ρ s.h) :
    ∃ c,(execOp ρ' o).run P s.w = .ok (.value c) s.w ∧ Rv s (i.val ρ s.h) c:=by
  obtain ⟨dst,op,type,pos,after,guard⟩:=o
  simp only at hc
  cases i with
  | mv x=>
    cases op <;> simp only [bb] at hc <;> first | (cases hc; done) | exact ⟨_,rfl,ha _ _ hc⟩
  | build z ps=>
    cases op <;> simp only [bb] at hc <;> first | (cases hc; done) | skip
    obtain ⟨h1,h2,h3⟩:=Ce hc
    obtain ⟨c,e1,e2⟩:=yr ha h1 h2 h3 hs
    exact ⟨c,aq _ _ _ _ e1,e2⟩
  | load k x=>
    cases op <;> simp only [bb] at hc <;> first | (cases hc; done) | skip
    simp only [Bool.and_eq_true] at hc
    obtain ⟨c,e1,e2⟩:=oi hi hc.1 (ha _ _ hc.2) hs
    exact ⟨c,aq _ _ _ _ e1,e2⟩
  | nilchk x=>
    cases op <;> simp only [bb] at hc <;> first | (cases hc; done) | skip
    have hr:=ha _ _ hc
    simp only [AI.side,AI.val,execOp] at hs ⊢
    generalize ρ x = v at *
    rename_i y
    generalize ρ' y = d at *
    cases hr <;> first | (exact hs.elim) | skip
    · exact ⟨_,rfl, .pval _ _ _ _ ‹_› ‹_›⟩
    · exact ⟨_,rfl, .ptr _ _ _ ‹_›⟩
    · exact ⟨_,rfl, .eptr _ _ _ _ _ _ _ ‹_›⟩
    · rename_i fn first caps fi ca hf hc1 h1 h2
      cases fn <;> first | (exact hs.elim) | skip
      exact ⟨_,rfl, .func _ _ _ _ _ ‹_› ‹_› ‹_› ‹_›⟩
  | bin op' x y=>
    cases op <;> simp only [bb] at hc <;> first | (cases hc; done) | skip
    simp only [Bool.and_eq_true,decide_eq_true_eq] at hc
    obtain ⟨⟨rfl,h1⟩,h2⟩:=hc
    obtain ⟨c,e1,e2⟩:=xD (ha _ _ h1) (ha _ _ h2) hs _ _
    exact ⟨c,aq _ _ _ _ e1,e2⟩
  | eqb neg x y=>
    cases op <;> simp only [bb] at hc <;> first | (cases hc; done) | skip
    rename_i op t x' y' ty
    simp only [Bool.and_eq_true,decide_eq_true_eq] at hc
    obtain ⟨⟨⟨hop,ht⟩,h1⟩,h2⟩:=hc
    have hu:P.underlying t = some .bool:=by
      cases hu:P.underlying t with
      | none=>simp [hu] at ht
      | some d=>cases d <;> simp [hu] at ht; rfl
    have g1:=ha _ _ h1
    have g2:=ha _ _ h2
    simp only [AI.side,AI.val,execOp] at hs ⊢
    generalize ρ x = v at *
    generalize ρ y = u at *
    generalize ρ' x' = c at *
    generalize ρ' y' = d at *
    cases g1 <;> first | (exact hs.elim) | skip
    cases g2 <;> first | (exact hs.elim) | skip
    cases neg
    · simp only [Bool.false_eq_true,if_false] at hop; subst hop
      exact ⟨_,aq _ _ _ _ (by simp [eqGuard,Go.binOp,run_equal_bool s.w t _ _ hu]; rfl),by simpa using Rv.bool _⟩
    · simp only [if_true] at hop; subst hop
      exact ⟨_,aq _ _ _ _ (by simp [eqGuard,Go.binOp,run_equal_bool s.w t _ _ hu]; rfl),by simpa using Rv.bool _⟩
  | eqa neg ks x y=>
    cases op <;> simp only [bb] at hc <;> first | (cases hc; done) | skip
    rename_i op t x' y' ty
    simp only [Bool.and_eq_true,decide_eq_true_eq,Bool.not_eq_true'] at hc
    obtain ⟨⟨⟨⟨⟨hop,hf⟩,hk⟩,hgd⟩,h1⟩,h2⟩:=hc
    have g1:=ha _ _ h1
    have g2:=ha _ _ h2
    obtain ⟨k,hk',hlen,hkn,hrun⟩:=tY (s:=s) 20 t ks hf
    simp only [AI.side,AI.val,execOp] at hs ⊢
    generalize ρ x = v at *
    generalize ρ y = u at *
    generalize ρ' x' = c at *
    generalize ρ' y' = d at *
    cases g1 <;> first | (exact hs.elim) | skip
    cases g2 <;> first | (exact hs.elim) | skip
    rename_i az xs hl1 hr1 bs ys hl2 hr2
    have hks:k = some ks.length:=by
      cases k with
      | none=>have e1:=xz hk'; have e2:=(tg hk).1; rw [e1] at e2; cases e2
      | some m=>simpa using hlen.symm
    subst hks
    have hr:=hrun 10000 (by omega) _ _ _ _ (Rv.agg az xs hl1 hr1) (Rv.agg bs ys hl2 hr2) ⟨az,bs,rfl,rfl,hs⟩
    have hgrd:=run_eqGuard_agg (P:=P) s.w op t x' y' xs ys hgd
    cases neg
    · simp only [Bool.false_eq_true,if_false] at hop; subst hop
      exact ⟨.bool (bQ az bs),aq _ _ _ _ (by rw [Sem.run_bind,hgrd,Result.andThen_ok,run_eql_struct,hr]; rfl),by simpa using Rv.bool _⟩
    · simp only [if_true] at hop; subst hop
      exact ⟨.bool (!bQ az bs),aq _ _ _ _ (by rw [Sem.run_bind,hgrd,Result.andThen_ok,run_neq_struct,hr]; rfl),by simpa using Rv.bool _⟩
  | un op' x=>
    cases op <;> simp only [bb] at hc <;> first | (cases hc; done) | skip
    simp only [Bool.and_eq_true,decide_eq_true_eq] at hc
    obtain ⟨rfl,h1⟩:=hc
    obtain ⟨c,e1,e2⟩:=zm (ha _ _ h1) hs
    exact ⟨c,aq _ _ _ _ e1,e2⟩
  | conv k x=>
    cases op <;> simp only [bb] at hc <;> first | (cases hc; done) | skip
    rename_i src dst y
    obtain ⟨h1,h2,h3⟩:=Ce hc
    obtain ⟨ts,hts⟩:=Option.isSome_iff_exists.1 h1
    have hu:P.underlying dst = some (.int k):=by
      cases hu:P.underlying dst with
      | none=>simp [hu] at h2
      | some d=>cases d <;> simp [hu] at h2; subst h2; rfl
    obtain ⟨j,e1,e2⟩:=cE (ha _ _ h3) hs
    refine ⟨_,aq _ _ _ _ ?_, .int _ _⟩
    rw [e1]
    simp only [convert,Sem.run_bind,an hts,an hu,Result.andThen_ok]
    cases ts <;> rfl
  | b2s x=>
    cases op <;> simp only [bb] at hc <;> first | (cases hc; done) | skip
    obtain ⟨h1,h2,h3⟩:=Ce hc
    obtain ⟨c,e1,e2⟩:=BB h1 h2 (ha _ _ h3) hs
    exact ⟨c,aq _ _ _ _ e1,e2⟩
  | convs x=>
    cases op <;> simp only [bb] at hc <;> first | (cases hc; done) | skip
    rename_i src dst y
    obtain ⟨h1,h2,h3⟩:=Ce hc
    obtain ⟨ts,hts⟩:=Option.isSome_iff_exists.1 h1
    have hu:P.underlying dst = some .string:=by
      cases hu:P.underlying dst with
      | none=>simp [hu] at h2
      | some d=>cases d <;> simp [hu] at h2; rfl
    have hr:=ha _ _ h3
    simp only [AI.side,AI.val] at hs ⊢
    simp only [execOp]
    generalize ρ x = v at *
    generalize ρ' y = d at *
    cases hr <;> first | (exact hs.elim) | skip
    refine ⟨_,aq _ _ _ _ ?_, .str _⟩
    simp only [convert,Sem.run_bind,an hts,an hu,Result.andThen_ok]
    cases ts <;> rfl
  | mkfunc fn first caps=>
    cases op <;> simp only [bb] at hc <;> first | (cases hc; done) | skip
    rename_i fn' a b
    simp only [Bool.and_eq_true,decide_eq_true_eq] at hc
    obtain ⟨⟨rfl,h1⟩,h2⟩:=hc
    obtain ⟨l1,r1⟩:=fF ha h1
    obtain ⟨l2,r2⟩:=fF ha h2
    refine ⟨.func fn (a.map ρ') (b.map ρ'),rfl, .func _ _ _ _ _ (by simpa using l1.symm) (by simpa using l2.symm) (fun j g1 g2=>?_) (fun j g1 g2=>?_)⟩
    · have:=r1 j g1 (by simpa using g2); simpa using this
    · have:=r2 j g1 (by simpa using g2); simpa using this
  | fieldAddr k off x=>
    cases op <;> simp only [bb] at hc <;> first | (cases hc; done) | skip
    rename_i t y f
    cases hu:P.underlying t with
    | none=>simp [hu] at hc
    | some d=>
      cases d with
      | struct fs=>
        simp only [hu] at hc
        cases hf:fs[f]? with
        | none=>simp [hf] at hc
        | some fd=>
          simp only [hf,Bool.and_eq_true,beq_iff_eq,bne_iff_ne] at hc
          obtain ⟨⟨⟨rfl,hk⟩,hz⟩,hx⟩:=hc
          obtain ⟨blk,o,e1,e2⟩:=oB (ha _ _ hx) hs
          refine ⟨_,aq _ _ _ _ ?_,e2⟩
          rw [e1]
          simp [Instr.fieldAt,an hu,hf,Instr.sureAddr,fieldPlace,aR (tM hk),hz,addr_add]
      | _=>simp [hu] at hc
  | field k off x=>
    cases op <;> simp only [bb] at hc <;> first | (cases hc; done) | skip
    rename_i t y f
    cases hu:P.underlying t with
    | none=>simp [hu] at hc
    | some d=>
      cases d with
      | struct fs=>
        simp only [hu] at hc
        cases hf:fs[f]? with
        | none=>simp [hf] at hc
        | some fd=>
          simp only [hf,Bool.and_eq_true,beq_iff_eq] at hc
          obtain ⟨⟨rfl,hk⟩,hx⟩:=hc
          obtain ⟨vs,u,e1,e2,e3⟩:=vh hk (ha _ _ hx) hs
          refine ⟨u,aq _ _ _ _ ?_,e3⟩
          rw [e1]
          simp [Instr.field,an hu,hf,asAgg,e2]
      | _=>simp [hu] at hc
  | ixS sz x i=>
    cases op <;> simp only [bb] at hc <;> first | (cases hc; done) | skip
    rename_i t y q
    cases hu:P.underlying t with
    | none=>simp [hu] at hc
    | some d=>
      cases d with
      | slice e=>
        simp only [hu,Bool.and_eq_true,beq_iff_eq] at hc
        obtain ⟨⟨⟨rfl,hi1⟩,hx⟩,hq⟩:=hc
        obtain ⟨j,e1,e2⟩:=cE (ha _ _ hq) hs.1
        obtain ⟨blk,off,len,cap,e3,e4,e5,e6⟩:=BN (ha _ _ hx) hs.2
        refine ⟨_,aq _ _ _ _ ?_,e6⟩
        rw [e1,e3]
        simp [Instr.indexAt,asIntOf,an hu,e4,e5,aR hi1,addr_add]
      | _=>simp [hu] at hc
  | ixA m sz k x i=>
    cases op <;> simp only [bb] at hc <;> first | (cases hc; done) | skip
    rename_i t y q
    cases hu:P.underlying t with
    | none=>simp [hu] at hc
    | some d=>
      cases d with
      | array n e=>
        simp only [hu,Bool.and_eq_true,beq_iff_eq] at hc
        obtain ⟨⟨⟨⟨rfl,rfl⟩,hk⟩,hx⟩,hq⟩:=hc
        obtain ⟨g1,g2,g3,g4⟩:=hs
        obtain ⟨j,e1,e2⟩:=cE (ha _ _ hq) g1
        obtain ⟨blk,o,e3,e4⟩:=oB (ha _ _ hx) g4
        refine ⟨_,aq _ _ _ _ ?_,e4⟩
        rw [e1,e3]
        simp [Instr.indexAt,asIntOf,an hu,Instr.sureAddr,g2,g3,aR (tM hk),addr_add]
      | _=>simp [hu] at hc
  | ixV m sz k x i=>
    cases op <;> simp only [bb] at hc <;> first | (cases hc; done) | skip
    rename_i t y q
    cases hu:P.underlying t with
    | none=>simp [hu] at hc
    | some d=>
      cases d with
      | array n e=>
        simp only [hu,Bool.and_eq_true,beq_iff_eq] at hc
        obtain ⟨⟨⟨⟨rfl,rfl⟩,hk⟩,hx⟩,hq⟩:=hc
        obtain ⟨g1,g2,g3,g4⟩:=hs
        obtain ⟨j,e1,e2⟩:=cE (ha _ _ hq) g1
        obtain ⟨vs,u,e3,e4,e5⟩:=vh hk (ha _ _ hx) g4
        refine ⟨u,aq _ _ _ _ ?_,e5⟩
        rw [e1,e3]
        simp [Instr.index,asIntOf,an hu,g2,g3,aR (tM hk),e4]
      | _=>simp [hu] at hc
  | ixStr x i=>
    cases op <;> simp only [bb] at hc <;> first | (cases hc; done) | skip
    rename_i t y q
    cases hu:P.underlying t with
    | none=>simp [hu] at hc
    | some d=>
      cases d with
      | string=>
        simp only [hu,Bool.and_eq_true] at hc
        obtain ⟨hx,hq⟩:=hc
        obtain ⟨j,e1,e2⟩:=cE (ha _ _ hq) hs.1
        have hr:=ha _ _ hx
        have hs2:=hs.2
        simp only [AI.val] at hs2 ⊢
        simp only [execOp,e1]
        generalize ck (ρ i) = n at *
        generalize ρ x = v at *
        generalize ρ' y = d at *
        cases hr <;> first | (exact hs2.elim) | skip
        rename_i str
        obtain ⟨h0,h1⟩:=hs2
        have hlt:n.toNat < str.size:=by omega
        refine ⟨_,aq _ _ _ _ ?_, .int _ _⟩
        simp only [Instr.index,asIntOf,Sem.run_bind,Sem.run_pure,Result.andThen_ok,an hu]
        rw [if_pos h0]
        have e3:str[n.toNat]? = some str[n.toNat]:=by simp [getElem?_pos,hlt]
        have e4:str.data.getD n.toNat 0 = str[n.toNat]:=by
          rw [Array.getD_eq_getD_getElem?]
          have:n.toNat < str.data.size:=hlt
          rw [Array.getElem?_eq_getElem this]
          rfl
        rw [e3]
        simp only [Sem.run_pure,e4]
      | _=>simp [hu] at hc
  | extract x j=>
    cases op <;> simp only [bb] at hc <;> first | (cases hc; done) | skip
    rename_i y j'
    simp only [Bool.and_eq_true,beq_iff_eq] at hc
    obtain ⟨rfl,hx⟩:=hc
    have hr:=ha _ _ hx
    simp only [AI.side,AI.val] at hs ⊢
    simp only [execOp]
    generalize ρ x = v at *
    generalize ρ' y = d at *
    cases hr <;> first | (exact hs.elim) | skip
    rename_i cs vs hl h
    simp only at hs ⊢
    have h2:j < vs.size:=by omega
    refine ⟨vs[j],aq _ _ _ _ (by simp [Instr.extract,h2]), ?_⟩
    have:=h j hs h2
    simpa [List.getD,List.getElem?_eq_getElem hs] using this
  | len x=>
    cases op <;> simp only [bb] at hc <;> first | (cases hc; done) | skip
    rename_i c
    obtain ⟨cal,args,tys⟩:=c
    simp only at hc
    split at hc
    · split at hc
      · rename_i y t hy ht
        simp only [Bool.and_eq_true] at hc
        have hr:=ha _ _ hc.2
        have hargs:args = #[y]:=by apply Array.ext'; simpa using hy
        have htys:tys = #[t]:=by apply Array.ext'; simpa using ht
        subst hargs; subst htys
        simp only [AI.side,AI.val] at hs ⊢
        simp only [execOp,resolve,invoke,builtin,Builtin.len_]
        obtain ⟨a,n,cap,e1,e2⟩:=zG hr hs
        cases hu:P.underlying t with
        | none=>simp [hu] at hc
        | some d=>
          cases d with
          | slice e=>
            refine ⟨.int .i64 n, ?_,by rw [e2]; exact .int _ _⟩
            simp [e1,an hu,goInt]
          | _=>simp [hu] at hc
      · cases hc
    · cases hc
  | lenStr x=>
    cases op <;> simp only [bb] at hc <;> first | (cases hc; done) | skip
    rename_i c
    obtain ⟨cal,args,tys⟩:=c
    simp only at hc
    split at hc
    · split at hc
      · rename_i y t hy ht
        simp only [Bool.and_eq_true] at hc
        have hr:=ha _ _ hc.2
        have hargs:args = #[y]:=by apply Array.ext'; simpa using hy
        have htys:tys = #[t]:=by apply Array.ext'; simpa using ht
        subst hargs; subst htys
        simp only [AI.side,AI.val] at hs ⊢
        simp only [execOp,resolve,invoke,builtin,Builtin.len_]
        have hval:∃ str,ρ' y = .string str ∧ ρ x = .str str:=by
          generalize ρ x = v at *
          generalize ρ' y = d at *
          cases hr <;> first | (exact hs.elim) | exact ⟨_,rfl,rfl⟩
        obtain ⟨str,e1,e2⟩:=hval
        cases hu:P.underlying t with
        | none=>simp [hu] at hc
        | some d=>
          cases d with
          | string=>
            refine ⟨.int .i64 str.size, ?_,by rw [e2]; exact .int _ _⟩
            simp [e1,an hu,goInt]
          | _=>simp [hu] at hc
      · cases hc
    · cases hc
  | lenA n x=>
    cases op <;> simp only [bb] at hc <;> first | (cases hc; done) | skip
    rename_i c
    obtain ⟨cal,args,tys⟩:=c
    simp only at hc
    split at hc
    · split at hc
      · rename_i y t hy ht
        simp only [Bool.and_eq_true] at hc
        have hargs:args = #[y]:=by apply Array.ext'; simpa using hy
        have htys:tys = #[t]:=by apply Array.ext'; simpa using ht
        subst hargs; subst htys
        cases hu:P.underlying t with
        | none=>simp [hu] at hc
        | some d=>
          cases d with
          | array m e=>
            simp only [hu,beq_iff_eq] at hc
            obtain ⟨rfl,hx⟩:=hc
            refine ⟨.int .i64 m, ?_, .int _ _⟩
            simp only [execOp,resolve,invoke,builtin,Builtin.len_]
            simp [an hu,goInt]
          | _=>simp [hu] at hc
      · cases hc
    · cases hc
  | mx l=>
    cases op <;> simp only [bb] at hc <;> first | (cases hc; done) | skip
    rename_i c
    obtain ⟨cal,args,tys⟩:=c
    simp only at hc
    split at hc
    · obtain ⟨l1,r1⟩:=fF ha hc
      obtain ⟨hne,hint⟩:=hs
      simp only [execOp,resolve,invoke,builtin,Builtin.max_,AI.val]
      have hl:(args.map ρ').toList = args.toList.map ρ':=by simp
      simp only [pure_bind,hl]
      generalize l.map ρ = L at *
      generalize args.toList.map ρ' = M at *
      cases L with
      | nil=>exact absurd rfl hne
      | cons v L=>
        cases M with
        | nil=>simp at l1
        | cons c M=>
          obtain ⟨r,e1,e2⟩:=jV (P:=P) _ _ zR L M v c (by simpa using l1) (fun j g1 g2=>by have:=r1 (j + 1) (by simpa using g1) (by simpa using g2); simpa using this) hint.2 (r1 0 (by simp) (by simp)) hint.1
          exact ⟨r,by simp [e1],e2⟩
    · cases hc
  | mn l=>
    cases op <;> simp only [bb] at hc <;> first | (cases hc; done) | skip
    rename_i c
    obtain ⟨cal,args,tys⟩:=c
    simp only at hc
    split at hc
    · obtain ⟨l1,r1⟩:=fF ha hc
      obtain ⟨hne,hint⟩:=hs
      simp only [execOp,resolve,invoke,builtin,Builtin.min_,AI.val]
      have hl:(args.map ρ').toList = args.toList.map ρ':=by simp
      simp only [pure_bind,hl]
      generalize l.map ρ = L at *
      generalize args.toList.map ρ' = M at *
      cases L with
      | nil=>exact absurd rfl hne
      | cons v L=>
        cases M with
        | nil=>simp at l1
        | cons c M=>
          obtain ⟨r,e1,e2⟩:=jV (P:=P) _ _ zd L M v c (by simpa using l1) (fun j g1 g2=>by have:=r1 (j + 1) (by simpa using g1) (by simpa using g2); simpa using this) hint.2 (r1 0 (by simp) (by simp)) hint.1
          exact ⟨r,by simp [e1],e2⟩
    · cases hc
  | mkiface t x=>
    cases op <;> simp only [bb] at hc <;> first | (cases hc; done) | skip
    obtain ⟨h1,h2,h3⟩:=Ce hc
    simp only [beq_iff_eq] at h1
    subst h1
    refine ⟨_,aq _ _ _ _ ?_, .iface t _ _ (ha _ _ h3)⟩
    cases hu:P.underlying t with
    | none=>simp [hu] at h2
    | some d=>cases d <;> first | (simp [hu] at h2; done) | simp [Instr.makeInterface,an hu]
  | assert t x=>
    cases op <;> simp only [bb] at hc <;> first | (cases hc; done) | skip
    rename_i y xt t' ok
    simp only [Bool.and_eq_true,beq_iff_eq,Bool.not_eq_true'] at hc
    obtain ⟨⟨⟨rfl,rfl⟩,h2⟩,h3⟩:=hc
    have hr:=ha _ _ h3
    simp only [AI.side,AI.val] at hs ⊢
    simp only [execOp]
    generalize ρ x = v at *
    generalize ρ' y = d at *
    cases hr <;> first | (exact hs.elim) | skip
    rename_i t' v u h
    simp only at hs
    subst hs
    refine ⟨u,aq _ _ _ _ ?_,h⟩
    cases hu:P.underlying t' with
    | none=>simp [hu] at h2
    | some d=>cases d <;> first | (simp [hu] at h2; done) | simp [Instr.typeAssert,an hu]
  | subq sz x lo hi_=>
    cases op <;> simp only [bb] at hc <;> first | (cases hc; done) | skip
    rename_i t x' lo' hi' mx'
    cases mx' with
    | some _=>simp at hc
    | none=>
      simp only at hc
      cases hu:P.underlying t with
      | none=>rw [hu] at hc; simp at hc
      | some d=>
        cases d with
        | slice e=>
          rw [hu] at hc
          simp only [Bool.and_eq_true,beq_iff_eq] at hc
          obtain ⟨⟨⟨⟨c1,c2⟩,c3⟩,c4⟩,c5⟩:=hc
          have hr:=ha _ _ c3
          simp only [AI.side,AI.val] at hs ⊢
          obtain ⟨o1,o2,hs⟩:=hs
          simp only [execOp]
          cases hx:ρ x with
          | slice sz' xs=>
            rw [hx] at hr hs
            obtain ⟨r,e1,e2⟩:=vr ha hu c1 c2 hr hs.1 c4 c5 o1 o2 hs.2.1 hs.2.2.1 hs.2.2.2
            exact ⟨r,aq _ _ _ _ e1,e2⟩
          | oslice sz' xs b k=>
            rw [hx] at hr hs
            cases hr with
            | oslice _ _ _ _ _ hss hl=>
              obtain ⟨r,e1,e2⟩:=vr ha hu c1 c2 hss (.inl hs.1) c4 c5 o1 o2 hs.2.1 hs.2.2.1 hs.2.2.2
              exact ⟨r,aq _ _ _ _ e1,e2⟩
          | _=>rw [hx] at hs; exact hs.elim
        | _=>rw [hu] at hc; simp at hc
  | subStr x lo hi_=>
    cases op <;> simp only [bb] at hc <;> first | (cases hc; done) | skip
    rename_i t x' lo' hi' mx'
    cases mx' with
    | some _=>simp at hc
    | none=>
      simp only at hc
      cases hu:P.underlying t with
      | none=>rw [hu] at hc; simp at hc
      | some d=>
        cases d with
        | string=>
          rw [hu] at hc
          simp only [Bool.and_eq_true] at hc
          obtain ⟨⟨c3,c4⟩,c5⟩:=hc
          have hr:=ha _ _ c3
          simp only [AI.side,AI.val] at hs ⊢
          obtain ⟨o1,o2,hs⟩:=hs
          simp only [execOp]
          cases hx:ρ x with
          | str st=>
            rw [hx] at hr hs
            generalize ρ' x' = d at hr
            cases hr
            have hb:=x8 (P:=P) (w:=s.w) ha c4 c5 o1 o2 hs.1 hs.2.1 hs.2.2
            refine ⟨_,aq _ _ _ _ ?_, .str _⟩
            simp only [Instr.sliceAt,Instr.slice,Sem.run_bind,an hu,Result.andThen_ok,Option.map_none,Option.isSome_none,Bool.false_eq_true,if_false,hb,Sem.run_pure]
          | _=>rw [hx] at hs; exact hs.elim
        | _=>rw [hu] at hc; simp at hc
  | lookup ok z x i=>simp [bb] at hc
  | lit m sz z ps=>exact absurd rfl (hne m sz z ps)
  | _=>simp [AI.plain] at hp
end run
open Go.RowKit
inductive yQ where
  | coll (b:Nat)
  | fn (f:ab) (args:List ab)
structure Fr where
  v:Env
  ds:List yQ
inductive AEx where
  | normal
  | exit (id:Nat)
  | goto (l:Nat)
  | ret
  | panic (v:ab)
inductive eP where
  | ret (v:ab)
  | pan (v:ab)
def ft (s:St) (vs:List ab) (cs:Array Value):Prop:=cs.size = vs.length ∧ ∀ j (h1:j < vs.length) (h2:j < cs.size),Rv s vs[j] cs[j]
def F6 (s:St):eP → Ending → Prop
  | .ret v, .returned c=>Rv s v c
  | .pan v, .panicked ch=>∃ c,ch = [{ v:=c,recovered:=false }] ∧ Rv s v c
  | _,_=>False
def cx (A:World) (s:St) (Q:eP → ag → Prop) (e:Ending) (w':World):Prop:=
  ∃ r s',s'.w = w' ∧ Inv A s' ∧ bK s s' ∧ F6 s' r e ∧ Q r s'.h
def Spec (P:Program) (f:FuncId) (args:List ab) (σ:ag) (Q:eP → ag → Prop):Prop:=
  ∀ A s cargs,s.h = σ → Inv A s → ft s args cargs → Calls P f cargs s.w (cx A s Q)
def Fro (ro:Option Nat):Fence:={ Fence.wide with round:=ro }
def aB (P:Program) (fv:ab) (args:List ab) (σ:ag) (Q:eP → ag → Prop):Prop:=
  ∀ A s cf cargs,s.h = σ → Inv A s → Rv s fv cf → ft s args cargs →
    ∃ d,Deferred.ofValue cf cargs = .pure d ∧
      ((∃ f az,(invoke d.target d.args).run P s.w = .ok (.enter f az) s.w ∧ Calls P f az s.w (cx A s Q)) ∨
       (∃ l f tmps asg body,(invoke d.target d.args).run P s.w = .ok (.round l f tmps asg body) s.w ∧ ∀ ro,RoundIn (Fro ro) 0 P l f tmps asg body s.w (cx A s Q)))
theorem cx.mono {A:World} {s:St} {Q Q':eP → ag → Prop} (h:∀ r σ,Q r σ → Q' r σ) {e:Ending} {w:World} (hp:cx A s Q e w):cx A s Q' e w:=
  let ⟨r,s',a,b,c,d,q⟩:=hp; ⟨r,s',a,b,c,d,h _ _ q⟩
theorem Spec.mono {P:Program} {f:FuncId} {args:List ab} {σ:ag} {Q Q':eP → ag → Prop} (hs:Spec P f args σ Q) (h:∀ r σ,Q r σ → Q' r σ):Spec P f args σ Q':=
  fun A s cargs h1 h2 h3=>(hs A s cargs h1 h2 h3).mono fun _ _ hp=>hp.mono h
theorem aB.mono {P:Program} {fv:ab} {args:List ab} {σ:ag} {Q Q':eP → ag → Prop} (hs:aB P fv args σ Q) (h:∀ r σ,Q r σ → Q' r σ):aB P fv args σ Q':=
  fun A s cf cargs h1 h2 h3 h4=>
    let ⟨d,e,g⟩:=hs A s cf cargs h1 h2 h3 h4
    ⟨d,e,g.elim (fun ⟨f,az,a,b⟩=>.inl ⟨f,az,a,b.mono fun _ _ hp=>hp.mono h⟩) (fun ⟨l,f,t,x,y,a,b⟩=>.inr ⟨l,f,t,x,y,a,fun ro=>(b ro).mono fun _ _ hp=>hp.mono h⟩)⟩
def ak (P:Program) (f:FuncId):Bool:=
  match P.funcs[f]? with
  | some fn => fn.name != "runtime.NumGoroutine" && fn.body.isSome
  | none=>false
theorem pt {P:Program} {f:FuncId} (h:ak P f = true) (args:Array Value) (w:World):(callFunc f args).run P w = .ok (.enter f args) w:=by
  unfold ak at h
  unfold callFunc
  cases hf:P.funcs[f]? with
  | none=>simp [hf] at h
  | some fn=>
    simp only [hf,Bool.and_eq_true,bne_iff_ne] at h
    have h2:fn.body ≠ none:=by cases hb:fn.body <;> simp [hb] at h ⊢
    simp [hf,h.1,h2]
def po (P:Program) (fv:ab) (args:List ab) (σ:ag) (Q:eP → ag → Prop):Prop:=
  ∀ A s cf cargs,s.h = σ → Inv A s → Rv s fv cf → ft s args cargs →
    ∃ d,Deferred.ofValue cf cargs = .pure d ∧ ∃ f az,(invoke d.target d.args).run P s.w = .ok (.enter f az) s.w ∧ Calls P f az s.w (cx A s Q)
theorem po.Ki {P:Program} {fv:ab} {args:List ab} {σ:ag} {Q:eP → ag → Prop} (h:po P fv args σ Q):aB P fv args σ Q:=
  fun A s cf cargs h1 h2 h3 h4=>let ⟨d,e,g⟩:=h A s cf cargs h1 h2 h3 h4; ⟨d,e, .inl g⟩
theorem po.func {P:Program} {f:FuncId} (hb:ak P f = true) {first caps args:List ab} {σ:ag} {Q:eP → ag → Prop} (hs:Spec P f (first ++ args ++ caps) σ Q) :
    po P (.func (.func f) first caps) args σ Q:=by
  intro A s cf cargs h1 h2 h3 h4
  cases h3 with
  | func _ _ _ fi ca hf hc r1 r2=>
    refine ⟨{ target:=.fn (.func f) ca,args:=fi ++ cargs },rfl,⟨f,fi ++ cargs ++ ca, ?_,hs A s _ h1 h2 ⟨?_, ?_⟩⟩⟩
    · simp only [invoke]; exact pt hb _ _
    · simp [hf,hc,h4.1]
    · intro j g1 g2
      simp only [List.getElem_append,Array.getElem_append]
      obtain ⟨q1,q2⟩:=h4
      by_cases e1:j < first.length + args.length
      · have e1':j < (first ++ args).length:=by simpa using e1
        have e1'':j < (fi ++ cargs).size:=by simp; omega
        simp only [e1',e1'',dif_pos]
        by_cases e2:j < first.length
        · have:j < fi.size:=by omega
          simp only [e2,this,dif_pos]
          exact r1 j _ _
        · have:¬ j < fi.size:=by omega
          simp only [e2,this,dif_neg,not_false_eq_true]
          have:=q2 (j - first.length) (by omega) (by omega)
          simpa [hf] using this
      · have e1':¬ j < (first ++ args).length:=by simpa using e1
        have e1'':¬ j < (fi ++ cargs).size:=by simp; omega
        simp only [e1',e1'',dif_neg,not_false_eq_true]
        have:=r2 (j - (first ++ args).length) (by simp at g1 e1' ⊢; omega) (by simp at g2 e1'' ⊢; omega)
        simpa [hf,q1] using this
theorem aB.func {P:Program} {f:FuncId} (hb:ak P f = true) {first caps args:List ab} {σ:ag} {Q:eP → ag → Prop} (hs:Spec P f (first ++ args ++ caps) σ Q) :
    aB P (.func (.func f) first caps) args σ Q:=(po.func hb hs).Ki
/-! ### Frames -/
def J3 (s:St):yQ → Deferred → Prop
  | .coll b,d=>∃ blk,s.lam b 0 = some (.map (some blk)) ∧ d = { target:=.collected blk,args:=#[] }
  | .fn f args,d=>∃ cf cargs,Rv s f cf ∧ ft s args cargs ∧ Deferred.ofValue cf cargs = .pure d
def iH (s:St):List yQ → List Deferred → Prop
  | [],[]=>True
  | a :: r,d :: t=>J3 s a d ∧ iH s r t
  | _,_=>False
structure dB (s:St) (N:Nat) (fr:Fr) (a:Act):Prop where
  size:a.tmps.size = N
  v:∀ t,Rv s (fr.v.get t) (a.tmps.getD t Go.undef)
  ds:iH s fr.ds a.defers
theorem iH.keeps {s s':St} (h:bg s s'):∀ {l:List yQ} {m:List Deferred},iH s l m → iH s' l m
  | [],[],_=>trivial
  | a :: l,d :: m,⟨h1,h2⟩=>by
    refine ⟨?_,iH.keeps h h2⟩
    cases a with
    | coll b=>obtain ⟨blk,e1,e2⟩:=h1; exact ⟨blk,h.lam _ _ _ e1,e2⟩
    | fn f args=>obtain ⟨cf,ca,e1,e2,e3⟩:=h1; exact ⟨cf,ca,e1.keeps h,⟨e2.1,fun j g1 g2=>(e2.2 j g1 g2).keeps h⟩,e3⟩
  | [],_ :: _,h=>h.elim
  | _ :: _,[],h=>h.elim
theorem dB.keeps {s s':St} {N:Nat} {fr:Fr} {a:Act} (h:bg s s') (hf:dB s N fr a):dB s' N fr a:=⟨hf.size,fun t=>(hf.v t).keeps h,hf.ds.keeps h⟩
def NU (s:St):AEx → Exit → Prop
  | .normal, .normal=>True
  | .exit i, .exit j=>i = j
  | .goto i, .goto j=>i = j
  | .ret, .ret=>True
  | .panic v, .panic ch=>∃ c,ch = [{ v:=c,recovered:=false }] ∧ Rv s v c
  | _,_=>False
def fG (A:World) (N:Nat) (s:St) (Q:AEx → Fr → ag → Prop) (e:Exit) (a':Act) (w':World):Prop:=
  ∃ x fr' s',s'.w = w' ∧ Inv A s' ∧ bK s s' ∧ dB s' N fr' a' ∧ NU s' x e ∧ Q x fr' s'.h
def CK (s:St):Option Nat → Option Nat → Prop
  | none,r=>r = none
  | some b,r=>∃ blk,s.lam b 0 = some (.func (.yield blk) #[] #[]) ∧ r = some blk
theorem CK.keeps {s s':St} {ro r:Option Nat} (h:CK s ro r) (hk:bg s s'):CK s' ro r:=by
  cases ro with
  | none=>exact h
  | some b=>obtain ⟨blk,e1,e2⟩:=h; exact ⟨blk,hk.lam _ _ _ e1,e2⟩
def AWc (P:Program) (N:Nat) (ro:Option Nat) (c:Code) (Q:AEx → Fr → ag → Prop) (fr:Fr) (σ:ag):Prop:=
  ∀ A s a r,s.h = σ → Inv A s → dB s N fr a → CK s ro r → c.wpIn (Fro r) 0 P (fG A N s Q) a s.w
section rules
variable {P:Program} {N:Nat} {ro:Option Nat} {Q Q':AEx → Fr → ag → Prop} {fr:Fr} {σ:ag}
theorem fG.mono {A:World} {s:St} (h:∀ x fr σ,Q x fr σ → Q' x fr σ) {e:Exit} {a:Act} {w:World} (hp:fG A N s Q e a w):fG A N s Q' e a w:=
  let ⟨x,f,s',a1,a2,a3,a4,a5,q⟩:=hp; ⟨x,f,s',a1,a2,a3,a4,a5,h _ _ _ q⟩
theorem fG.from {A:World} {s s1:St} (hg:bK s s1) {e:Exit} {a:Act} {w:World} (hp:fG A N s1 Q e a w):fG A N s Q e a w:=
  let ⟨x,f,s',a1,a2,a3,a4,a5,q⟩:=hp; ⟨x,f,s',a1,a2,hg.trans a3,a4,a5,q⟩
theorem AWc.mono {c:Code} (h:AWc P N ro c Q fr σ) (hq:∀ x fr σ,Q x fr σ → Q' x fr σ):AWc P N ro c Q' fr σ:=
  fun A s a r h1 h2 h3 h4=>wpIn_mono (h A s a r h1 h2 h3 h4) fun _ _ _ hp=>hp.mono hq
theorem AWc.skip (h:Q .normal fr σ):AWc P N ro .skip Q fr σ:=
  fun _ s _ _ h1 h2 h3 _=>wpIn_skip ⟨.normal,fr,s,rfl,h2, .refl s,h3,trivial,h1 ▸ h⟩
theorem AWc.label {l:Nat} (h:Q .normal fr σ):AWc P N ro (.label l) Q fr σ:=
  fun _ s _ _ h1 h2 h3 _=>wpIn_label ⟨.normal,fr,s,rfl,h2, .refl s,h3,trivial,h1 ▸ h⟩
theorem AWc.exit {id:Nat} (h:Q (.exit id) fr σ):AWc P N ro (.exit id) Q fr σ:=
  fun _ s _ _ h1 h2 h3 _=>wpIn_exit ⟨.exit id,fr,s,rfl,h2, .refl s,h3,rfl,h1 ▸ h⟩
theorem AWc.goto {l:Nat} (h:Q (.goto l) fr σ):AWc P N ro (.goto l) Q fr σ:=
  fun _ s _ _ h1 h2 h3 _=>wpIn_goto ⟨.goto l,fr,s,rfl,h2, .refl s,h3,rfl,h1 ▸ h⟩
theorem AWc.ret (h:Q .ret fr σ):AWc P N ro .ret Q fr σ:=
  fun _ s _ _ h1 h2 h3 _=>wpIn_ret ⟨.ret,fr,s,rfl,h2, .refl s,h3,trivial,h1 ▸ h⟩
def AEx.then (next:Fr → ag → Prop) (Q:AEx → Fr → ag → Prop):AEx → Fr → ag → Prop
  | .normal,fr,σ=>next fr σ
  | x,fr,σ=>Q x fr σ
theorem AWc.seq {x y:Code} (h:AWc P N ro x (AEx.then (AWc P N ro y Q) Q) fr σ):AWc P N ro (.seq x y) Q fr σ:=by
  intro A s a r h1 h2 h3 h4
  refine wpIn_seq (wpIn_mono (h A s a r h1 h2 h3 h4) ?_)
  rintro e a' w' ⟨ex,fr',s',rfl,hi,hg,hf,he,hq⟩
  cases ex <;> cases e <;> first | (exact he.elim) | skip
  · exact wpIn_mono (hq A s' a' r rfl hi hf (h4.keeps hg.keeps)) fun _ _ _ hp=>hp.from hg
  all_goals exact ⟨_,fr',s',rfl,hi,hg,hf,he,hq⟩
theorem AWc.cond {o:Operand} {x y:Code} {v:ab} {b:Bool} (hv:∀ s (a:Act),dB s N fr a → Rv s v (a.eval o)) (hb:v = .bool b)
    (ht:b = true → AWc P N ro x Q fr σ) (hf:b = false → AWc P N ro y Q fr σ):AWc P N ro (.cond o x y) Q fr σ:=by
  intro A s a r h1 h2 h3 h4
  subst hb
  have he:a.eval o = .bool b:=by
    have:=hv s a h3
    generalize a.eval o = d at *
    cases this; rfl
  cases b
  · exact wpIn_cond_false he (hf rfl A s a r h1 h2 h3 h4)
  · exact wpIn_cond_true he (ht rfl A s a r h1 h2 h3 h4)
def AEx.inBlock (id:Nat) (Q:AEx → Fr → ag → Prop):AEx → Fr → ag → Prop
  | .exit i,fr,σ=>if i = id then Q .normal fr σ else Q (.exit i) fr σ
  | x,fr,σ=>Q x fr σ
theorem AWc.block {id:Nat} {c:Code} (h:AWc P N ro c (AEx.inBlock id Q) fr σ):AWc P N ro (.block id c) Q fr σ:=by
  intro A s a r h1 h2 h3 h4
  refine wpIn_block (wpIn_mono (h A s a r h1 h2 h3 h4) ?_)
  rintro e a' w' ⟨ex,fr',s',rfl,hi,hg,hf,he,hq⟩
  cases ex <;> cases e <;> first | (exact he.elim) | skip
  case exit.exit i j=>
    have hij:i = j:=he
    subst hij
    simp only [AEx.inBlock] at hq
    by_cases e:i = id
    · simp only [Exit.inBlock,e,if_true] at hq ⊢; exact ⟨.normal,fr',s',rfl,hi,hg,hf,trivial,hq⟩
    · simp only [Exit.inBlock,e,if_false] at hq ⊢; exact ⟨.exit i,fr',s',rfl,hi,hg,hf,rfl,hq⟩
  all_goals exact ⟨_,fr',s',rfl,hi,hg,hf,he,hq⟩
theorem oG {p:Nat → Prop} (h:∃ n,p n):∃ n,p n ∧ ∀ m,p m → n ≤ m:=by
  obtain ⟨n,hn⟩:=h
  induction n using Nat.strongRecOn with
  | _ n ih=>
    by_cases hx:∃ m,m < n ∧ p m
    · obtain ⟨m,h1,h2⟩:=hx; exact ih m h1 h2
    · exact ⟨n,hn,fun m hm=>by
        rcases Nat.lt_or_ge m n with h1 | h1
        · exact absurd ⟨m,h1,hm⟩ hx
        · exact h1⟩
open Classical in
theorem AWc.loop {c:Code} {ι:Type} (I:ι → Fr → ag → Prop) (m:ι → Nat) {i₀:ι} (h0:I i₀ fr σ)
    (hr:∀ i fr σ,I i fr σ → AWc P N ro c (AEx.then (fun fr' σ'=>∃ j,m j < m i ∧ I j fr' σ') Q) fr σ):AWc P N ro (.loop c) Q fr σ:=by
  intro A s a r h1 h2 h3 h4
  -- the relation, on what is concrete
  let Rel:Nat → Act → World → Prop:=fun n a w=>∃ i f s',m i = n ∧ s'.w = w ∧ Inv A s' ∧ bK s s' ∧ dB s' N f a ∧ I i f s'.h
  let μ:Act → World → Nat:=fun a w=>if h:∃ n,Rel n a w then Classical.choose (oG h) else 0
  refine wpIn_loop (fun a w=>∃ n,Rel n a w) μ ⟨m i₀,i₀,fr,s,rfl,rfl,h2, .refl s,h3,h1 ▸ h0⟩ ?_
  intro a w hrel
  have hmin:Rel (Classical.choose (oG hrel)) a w:=(Classical.choose_spec (oG hrel)).1
  obtain ⟨i,f,s',hm,rfl,hi,hg,hf,hI⟩:=hmin
  refine wpIn_mono (hr i f s'.h hI A s' a r rfl hi hf (h4.keeps hg.keeps)) ?_
  rintro e a' w' ⟨ex,fr',s2,rfl,hi2,hg2,hf2,he,hq⟩
  cases ex <;> cases e <;> first | (exact he.elim) | skip
  case normal.normal=>
    obtain ⟨j,hlt,hj⟩:=hq
    have hrel':∃ n,Rel n a' s2.w:=⟨m j,j,fr',s2,rfl,rfl,hi2,hg.trans hg2,hf2,hj⟩
    refine ⟨hrel', ?_⟩
    have e1:μ a s'.w = m i:=by simp only [μ]; rw [dif_pos hrel]; exact hm.symm
    have e2:μ a' s2.w ≤ m j:=by simp only [μ]; rw [dif_pos hrel']; exact (Classical.choose_spec (oG hrel')).2 _ ⟨j,fr',s2,rfl,rfl,hi2,hg.trans hg2,hf2,hj⟩
    omega
  all_goals exact ⟨_,fr',s2,rfl,hi2,hg.trans hg2,hf2,he,hq⟩
end rules
end Go.AM
