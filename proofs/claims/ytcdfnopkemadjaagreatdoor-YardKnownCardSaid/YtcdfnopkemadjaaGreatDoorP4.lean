/- Literals of structs, arrays and slices; and all plain instructions in one theorem. -/
import Derived.Test.YtcdfnopkemadjaaGreatDoorP3
import Derived.Laws.BytesString
import Derived.Laws.StructEq
namespace Go.AM
open Go.RowKit
section run
variable {P:Program} {s:St} {A:World} {ρ:ay → aa} {ρ':Operand → Value}
def Row (s:St) (cs:List aa) (vs:Array Value):Prop:=vs.size = cs.length ∧ ∀ j (h1:j < cs.length) (h2:j < vs.size),Rv s cs[j] vs[j]
theorem Row.set {cs:List aa} {vs:Array Value} (h:Row s cs vs) {v:aa} {u:Value} (hv:Rv s v u) (i:Nat):Row s (cs.set i v) (vs.setIfInBounds i u):=by
 refine ⟨by simpa using h.1,fun j h1 h2=>?_⟩;simp only [List.length_set] at h1;simp only [Array.size_setIfInBounds] at h2;by_cases e:i = j
 ·subst e; simpa using hv
 ·simp only [List.getElem_set_ne e,Array.getElem_setIfInBounds_ne h2 e]; exact h.2 j h1 h2
theorem Row.put:∀ {l:List aa} {m:List Value} (off:Nat) {cs:List aa} {vs:Array Value},Row s cs vs → l.length = m.length → (∀ j (h1:j < l.length) (h2:j < m.length),Rv s l[j] m[j]) → ∀ k,
  Row s (putCells cs off l) ((m.zipIdx k).foldl (fun cs (x:Value × Nat)=>cs.setIfInBounds (off - k + x.2) x.1) vs) ∨ off < k
 | [],[],off,cs,vs,h,_,_,k=>.inl h
 | a :: l,b :: m,off,cs,vs,h,hl,hr,k=>by
  by_cases hk:off < k
  ·exact .inr hk
  ·left;simp only [List.zipIdx_cons,List.foldl_cons,putCells]
   rw [show off - k + k = off by omega];have h1:=h.set (hr 0 (by simp) (by simp)) off;rcases Row.put (off + 1) h1 (by simpa using hl) (fun j g1 g2=>by have:=hr (j + 1) (by simpa using g1) (by simpa using g2); simpa using this) (k + 1) with h2 | h2
   ·rw [show off + 1 - (k + 1) = off - k by omega] at h2; exact h2
   ·omega
 | [],_ :: _,_,_,_,_,hl,_,_=>by simp at hl
 | _ :: _,[],_,_,_,_,hl,_,_=>by simp at hl
theorem cY:∀ (l:List aa) (cs:List aa) (off:Nat),(putCells cs off l).length = cs.length
 | [],_,_=>rfl
 | a :: l,cs,off=>by simp only [putCells]; rw [cY l]; simp
theorem bQ {v:aa} {c:Value} {n:Nat} (h:Rv s v c) (hn:aY v n):c.cells.size = n ∧ v.cells.length = n ∧ ∀ j (g1:j < v.cells.length) (g2:j < c.cells.size),Rv s v.cells[j] c.cells[j]:=by
 have hf:v.uZ = true ∧ v.cells.length = n:=by
  cases v with
  | agg cs=>exact ⟨rfl,hn⟩
  | _=>exact ⟨hn.1,hn.2.symm⟩
 obtain ⟨h1,h2⟩:=h.cells hf.1;exact ⟨by omega,hf.2,h2⟩
theorem Row.part {cs:List aa} {vs:Array Value} (h:Row s cs vs) {v:aa} {c:Value} {n:Nat} (hv:Rv s v c) (hn:aY v n) (off:Nat) :
  Row s (putCells cs off v.cells) (c.cells.zipIdx.foldl (fun cs (x:Value × Nat)=>cs.setIfInBounds (off + x.2) x.1) vs):=by
 obtain ⟨h1,h2,h3⟩:=bQ hv hn;have:=Row.put (s:=s) (l:=v.cells) (m:=c.cells.toList) off h (by simp; omega) (fun j g1 g2=>by have:=h3 j g1 (by simpa using g2); simpa using this) 0;rcases this with h4 | h4
 ·rw [← Array.foldl_toList,Array.toList_zipIdx];simpa using h4
 ·omega
theorem iG {place:Nat → Option (Nat × Nat)}:∀ {ps:List (Nat × Nat × ay)} {qs:List (Nat × Value)} {cs:List aa} {vs:Array Value},Row s cs vs → ps.length = qs.length →
  (∀ j (h1:j < ps.length) (h2:j < qs.length),place qs[j].1 = some (ps[j].1,ps[j].2.1) ∧ Rv s (ρ ps[j].2.2) qs[j].2) → dH cs.length ρ ps →
  ∃ ws,Instr.fill place vs qs = some ws ∧ Row s (ij cs (ps.map fun p=>(p.1,(ρ p.2.2).cells))) ws
 | [],[],cs,vs,h,_,_,_=>⟨vs,rfl,h⟩
 | (off,sz,x) :: ps,(i,c) :: qs,cs,vs,h,hl,hr,ho=>by
  obtain ⟨h1,h2⟩:=hr 0 (by simp) (by simp);simp only [List.getElem_cons_zero] at h1 h2;obtain ⟨o1,o2,o3⟩:=ho;obtain ⟨g1,g2,g3⟩:=bQ h2 o1;have hrow:=h.part h2 o1 off;obtain ⟨ws,e1,e2⟩:=iG (place:=place) (ps:=ps) (qs:=qs) hrow (by simpa using hl)
   (fun j k1 k2=>by have:=hr (j + 1) (by simpa using k1) (by simpa using k2); simpa using this) (by rw [cY]; exact o3)
  refine ⟨ws, ?_,by simpa [ij] using e2⟩;simp only [Instr.fill,h1];rw [if_neg]
  ·exact e1
  ·simp [g1,h.1]; omega
 | [],_ :: _,_,_,_,hl,_,_=>by simp at hl
 | _ :: _,[],_,_,_,hl,_,_=>by simp at hl
theorem iu {α β:Type} {f:α → Sem β} {g:α → β}:∀ (l:List α) (w:World),(∀ a ∈ l, ∀ w,(f a).run P w = .ok (g a) w) → (l.mapM f).run P w = .ok (l.map g) w
 | [],w,_=>rfl
 | a :: l,w,h=>by
  rw [List.mapM_cons];simp [h a (by simp),iu l w (fun b hb=>h b (by simp [hb]))]
theorem lG {α β:Type} {f:α → Sem β} {g:α → β} (l:Array α) (w:World) (h:∀ a ∈ l, ∀ w,(f a).run P w = .ok (g a) w):(l.mapM f).run P w = .ok (l.map g) w:=by
 rw [Array.mapM_eq_mapM_toList];rw [Sem.run_map,iu (P:=P) l.toList w (fun a ha=>h a (by simpa using ha))];simp only [Result.andThen_ok];congr 1;apply Array.ext';simp
theorem js (ha:dP s ρ ρ') {t:TypeId}:∀ {ps:List (Nat × Nat × ay)} {qs:List (Nat × Operand)},eE P t ps qs = true → ps.length = qs.length ∧
  ∀ j (h1:j < ps.length) (h2:j < (qs.map fun x=>(x.1,ρ' x.2)).length),ib P t (qs.map fun x=>(x.1,ρ' x.2))[j].1 = some (ps[j].1,ps[j].2.1) ∧ Rv s (ρ ps[j].2.2) (qs.map fun x=>(x.1,ρ' x.2))[j].2
 | [],[],_=>⟨rfl,fun j h1 _=>by simp at h1⟩
 | (off,sz,x) :: ps,(i,y) :: qs,h=>by
  simp only [eE,Bool.and_eq_true,beq_iff_eq] at h;obtain ⟨e1,e2⟩:=js ha (ps:=ps) (qs:=qs) h.2;refine ⟨by simpa using e1,fun j h1 h2=>?_⟩
  cases j with
  | zero=>exact ⟨h.1.1,ha x y h.1.2⟩
  | succ j=>have:=e2 j (by simpa using h1) (by simpa using h2); simpa using this
 | [],_ :: _,h=>by simp [eE] at h
 | _ :: _,[],h=>by simp [eE] at h
theorem qg {t:TypeId} {z:List aa} (h:dz P t z = true) (w:World):∃ v,(zeroValue t).run P w = .ok v w ∧ Row s z v.cells:=by
 unfold dz at h
 cases hi:P.info? t with
 | none=>simp [hi] at h
 | some i=>
  cases hz:i.zero with
  | none=>simp [hi,hz] at h
  | some v=>
   simp only [hi,Option.bind_some,hz] at h;refine ⟨v,by simp [zeroValue,typeInfo,hi,hz],by simpa using eU h,fun j h1 h2=>?_⟩;have:=fw (s:=s) h j h1 (by simpa using h2);simpa using this
theorem ju (ha:dP s ρ ρ') {t:TypeId} {z:List aa} {ps:List (Nat × Nat × ay)} {parts:Array (Nat × Operand)}
  (hz:∃ v,(zeroValue t).run P s.w = .ok v s.w ∧ Row s z v.cells) (ht:gV P t = true) (hp:eE P t ps parts.toList = true) (ho:dH z.length ρ ps) :
  ∃ c,(Instr.build t (parts.map fun x=>(x.1,ρ' x.2))).run P s.w = .ok c s.w ∧ Rv s (.agg (ij z (ps.map fun p=>(p.1,(ρ p.2.2).cells)))) c:=by
 obtain ⟨zv,hz1,hz2⟩:=hz;obtain ⟨hl,hpl⟩:=js ha hp;have hlist:(parts.map fun x=>(x.1,ρ' x.2)).toList = parts.toList.map fun x=>(x.1,ρ' x.2):=by simp
 unfold Instr.build;unfold gV at ht
 cases hu:P.underlying t with
 | none=>simp [hu] at ht
 | some d=>
  cases d with
  | struct fs=>
   simp only [hu,List.all_eq_true] at ht;have hm:(fs.mapM fun f=>(do pure (f.offset, ← sizeOf f.type):Sem (Nat × Nat))).run P s.w = .ok (fs.map fun f=>(f.offset,P.cellsOf f.type)) s.w:=
    lG fs s.w fun f hf w=>by simp [aG (ht f (by simpa using hf))]
   obtain ⟨ws,e1,e2⟩:=iG (s:=s) (ρ:=ρ) (place:=fun i=>(fs.map fun f=>(f.offset,P.cellsOf f.type))[i]?) hz2 (qs:=parts.toList.map fun x=>(x.1,ρ' x.2)) (by simpa using hl) (fun j h1 h2=>by
    have:=hpl j h1 h2;refine ⟨?_,this.2⟩;have h3:=this.1;simp only [ib,hu] at h3
    simpa using h3) ho
   refine ⟨.agg ws, ?_, .agg _ _ e2.1 e2.2⟩;simp only [Sem.run_bind,hz1,Result.andThen_ok,ah hu,hm];rw [hlist];simp only [e1];rfl
  | array n e=>
   simp only [hu] at ht
   obtain ⟨ws,e1,e2⟩:=iG (s:=s) (ρ:=ρ) (place:=fun i=>some (i * P.cellsOf e,P.cellsOf e)) hz2 (qs:=parts.toList.map fun x=>(x.1,ρ' x.2)) (by simpa using hl) (fun j h1 h2=>by
    have:=hpl j h1 h2;refine ⟨?_,this.2⟩;have h3:=this.1;simp only [ib,hu] at h3
    exact h3) ho
   refine ⟨.agg ws, ?_, .agg _ _ e2.1 e2.2⟩;simp only [Sem.run_bind,hz1,Result.andThen_ok,ah hu,aG ht];rw [hlist];simp only [e1];rfl
  | _=>simp [hu] at ht
theorem pU (ha:dP s ρ ρ') {t:TypeId} {z:List aa} {ps:List (Nat × Nat × ay)} {parts:Array (Nat × Operand)}
  (hz:dz P t z = true) (ht:gV P t = true) (hp:eE P t ps parts.toList = true) (ho:dH z.length ρ ps) :
  ∃ c,(Instr.build t (parts.map fun x=>(x.1,ρ' x.2))).run P s.w = .ok c s.w ∧ Rv s (.agg (ij z (ps.map fun p=>(p.1,(ρ p.2.2).cells)))) c:=
 ju ha (qg (s:=s) hz s.w) ht hp ho
theorem gN:∀ (a b c d:List aa),a.length = b.length → bw (a ++ c) (b ++ d) = (bw a b && bw c d)
 | [],[],c,d,_=>by simp [bw]
 | x :: a,y :: b,c,d,h=>by simp only [List.cons_append,bw]; rw [gN a b c d (by simpa using h),Bool.and_assoc]
 | [],_ :: _,_,_,h=>by simp at h
 | _ :: _,[],_,_,h=>by simp at h
theorem fI:∀ {l:List LK} {a b:List aa},aR l a b = true → a.length = l.length ∧ b.length = l.length
 | [],[],[],_=>⟨rfl,rfl⟩
 | k :: l,x :: a,y :: b,h=>by simp only [aR,Bool.and_eq_true] at h; have:=fI h.2; simp [this.1,this.2]
 | [],_ :: _,_,h=>by simp [aR] at h
 | [],[],_ :: _,h=>by simp [aR] at h
 | _ :: _,[],_,h=>by simp [aR] at h
 | _ :: _,_ :: _,[],h=>by simp [aR] at h
theorem gy:∀ {l l':List LK} {a b:List aa},aR (l ++ l') a b = true →
  aR l (a.take l.length) (b.take l.length) = true ∧ aR l' (a.drop l.length) (b.drop l.length) = true
 | [],l',a,b,h=>by simpa [aR] using h
 | k :: l,l',x :: a,y :: b,h=>by
  simp only [List.cons_append,aR,Bool.and_eq_true] at h;obtain ⟨h1,h2⟩:=gy h.2;simp only [List.length_cons,List.take_succ_cons,List.drop_succ_cons,aR,Bool.and_eq_true];exact ⟨⟨h.1,h1⟩,h2⟩
 | _ :: _,_,[],_,h=>by simp [aR] at h
 | _ :: _,_,_ :: _,[],h=>by simp [aR] at h
theorem kj {k:LK} {a b:aa} (h:di k a b = true):a.cP = true ∧ b.cP = true:=by
 cases k <;> cases a <;> cases b <;> simp [di] at h <;> exact ⟨rfl,rfl⟩
theorem fD {v:aa} (hv:v.cP = true):v.cells = [v]:=by cases v <;> simp [aa.cP] at hv <;> rfl
def za (l:List LK) (k:Option Nat) (a b:aa):Prop:=
 match k with
 | none=>∃ q,l = [q] ∧ di q a b = true
 | some _=>∃ az bs,a = .agg az ∧ b = .agg bs ∧ aR l az bs = true
def Fq (P:Program) (s:St) (d:Nat) (t:TypeId) (l:List LK):Prop:=
 ∃ k,kOk P t k = true ∧ l.length = k.getD 1 ∧ (k = none → ∃ q,l = [q]) ∧
  ∀ j,d ≤ j → ∀ (a b:aa) (x y:Value),Rv s a x → Rv s b y → za l k a b → (Op.equalIn j t x y).run P s.w = .ok (bw a.cells b.cells) s.w
theorem nX (d:Nat) (ih:∀ t l,fe P d t = some l → Fq P s d t l):∀ fs o l,eqFields P d fs o = some l → ∀ j,d ≤ j → ∀ (az bs:List aa) (xs ys:Array Value),Row s az xs → Row s bs ys →
  aR l (az.drop o) (bs.drop o) = true → (Op.eqFields j xs ys fs).run P s.w = .ok (bw (az.drop o) (bs.drop o)) s.w:=by
 intro fs
 induction fs with
 | nil=>
  intro o l h j hj az bs xs ys _ _ hok;simp only [eqFields,eW,Option.some.injEq] at h;subst h;obtain ⟨h1,h2⟩:=fI hok;have h1':az.drop o = []:=List.length_eq_zero_iff.1 h1;have h2':bs.drop o = []:=List.length_eq_zero_iff.1 h2;rw [h1',h2'];simp [Op.eqFields,bw]
 | cons f fs ihf=>
  intro o l h j hj az bs xs ys ha hb hok;simp only [eqFields,eW] at h;simp only [jx] at h
  split at h
  case isFalse=>cases h
  rename_i hc;obtain ⟨hn,ho⟩:=hc
  cases hf:fe P d f.type with
  | none=>simp [hf] at h
  | some l1=>
   simp only [hf] at h
   split at h
   case isTrue=>cases h
   rename_i hpos
   cases hf2:eqFields P d fs (o + l1.length) with
   | none=>simp [hf2] at h
   | some l2=>
    simp only [hf2,Option.some.injEq] at h;subst h;obtain ⟨k,hk,hnk,hkn,heq⟩:=ih f.type l1 hf;obtain ⟨hok1,hok2⟩:=gy hok;obtain ⟨hlen1,hlen2⟩:=fI hok;simp only [List.length_drop,List.length_append] at hlen1 hlen2;rw [List.drop_drop,List.drop_drop] at hok2;have hpair:b7 k az o ∧ b7 k bs o ∧ za l1 k (eO k az o) (eO k bs o) ∧ (eO k az o).cells = (az.drop o).take l1.length ∧ (eO k bs o).cells = (bs.drop o).take l1.length:=by
     cases k with
     | none=>
      obtain ⟨q,rfl⟩:=hkn rfl;simp only [List.length_singleton] at hlen1 hlen2 hok1 ⊢;have h1:o < az.length:=by omega
      have h2:o < bs.length:=by omega
      have e1:az.getD o .undef = az[o]:=by simp [List.getD,List.getElem?_eq_getElem h1]
      have e2:bs.getD o .undef = bs[o]:=by simp [List.getD,List.getElem?_eq_getElem h2]
      have t1:(az.drop o).take 1 = [az[o]]:=by rw [List.drop_eq_getElem_cons h1]; rfl
      have t2:(bs.drop o).take 1 = [bs[o]]:=by rw [List.drop_eq_getElem_cons h2]; rfl
      rw [t1,t2] at hok1;simp only [aR,Bool.and_true] at hok1;obtain ⟨s1,s2⟩:=kj hok1;refine ⟨⟨h1,by rw [e1]; exact s1⟩,⟨h2,by rw [e2]; exact s2⟩,⟨q,rfl, ?_⟩, ?_, ?_⟩
      ·simp only [eO,e1,e2]; exact hok1
      ·simp only [eO,e1,fD s1,t1]
      ·simp only [eO,e2,fD s2,t2]
     | some m=>
      simp only [Option.getD_some] at hnk;subst hnk;exact ⟨by simp only [b7]; omega,by simp only [b7]; omega,⟨_,_,rfl,rfl,hok1⟩,rfl,rfl⟩
    obtain ⟨p1,p2,p3,p4,p5⟩:=hpair;obtain ⟨u,u1,u2⟩:=fh hk ha.1 ha.2 p1;obtain ⟨v,v1,v2⟩:=fh hk hb.1 hb.2 p2;have e:=heq j hj _ _ u v u2 v2 p3;have hr:=ihf (o + l1.length) l2 hf2 j hj az bs xs ys ha hb hok2;rw [p4,p5] at e;have hsplit:bw (az.drop o) (bs.drop o) = (bw ((az.drop o).take l1.length) ((bs.drop o).take l1.length) && bw (az.drop (o + l1.length)) (bs.drop (o + l1.length))):=by
     rw [← gN _ _ _ _ (by simp; omega)];rw [← List.drop_drop, ← List.drop_drop,List.take_append_drop,List.take_append_drop]
    rw [hsplit];simp only [Op.eqFields];rw [if_pos hn];simp only [Sem.run_bind,ho,u1,v1,Result.andThen_ok,e]
    cases hb2:bw ((az.drop o).take l1.length) ((bs.drop o).take l1.length) with
    | true=>simpa using hr
    | false=>simp
theorem iC:∀ (d:Nat) (t:TypeId) (l:List LK),fe P d t = some l → Fq P s d t l
 | 0,t,l,h=>by simp [fe] at h
 | d + 1,t,l,h=>by
  have ih:=iC d;simp only [fe] at h;simp only [jx] at h
  cases hu:P.underlying t with
  | none=>simp [hu] at h
  | some ty=>
   have leaf:∀ q,(∀ j, ∀ (a b:aa) (x y:Value),Rv s a x → Rv s b y → di q a b = true → (Op.equalIn (j + 1) t x y).run P s.w = .ok (dG a b) s.w) → (if kOk P t none then some [q] else none) = some l →
     Fq P s (d + 1) t l:=by
    intro q hrun hn
    split at hn
    ·rename_i hk;simp only [Option.some.injEq] at hn;subst hn;refine ⟨none,hk,rfl,fun _=>⟨q,rfl⟩,fun j hj a b x y ha hb hp=>?_⟩;obtain ⟨q',hq,hp'⟩:=hp;have:q' = q:=by simpa using hq.symm
     subst this;obtain ⟨j',rfl⟩:∃ j',j = j' + 1:=⟨j - 1,by omega⟩
     rw [hrun j' a b x y ha hb hp'];obtain ⟨s1,s2⟩:=kj hp';rw [fD s1,fD s2];simp [bw]
    ·cases hn
   cases ty with
   | bool=>
    simp only [hu] at h;refine leaf .b (fun j a b x y ha hb hp=>?_) h;cases a <;> cases b <;> simp [di] at hp;cases ha; cases hb; exact run_equalIn_bool s.w j t _ _ hu
   | string=>
    simp only [hu] at h;refine leaf .s (fun j a b x y ha hb hp=>?_) h;cases a <;> cases b <;> simp [di] at hp;cases ha; cases hb;rw [run_equalIn_string s.w j t _ _ hu];simp [dG,beq_toListBytes]
   | int k=>
    simp only [hu] at h;refine leaf .i (fun j a b x y ha hb hp=>?_) h;cases a <;> cases b <;> simp [di] at hp;subst hp;cases ha; cases hb; exact run_equalIn_int s.w j t _ _ _ _ hu
   | struct fs=>
    simp only [hu] at h
    split at h
    ·cases h
    ·rename_i hst
     cases hf:eqFields P d fs.toList 0 with
     | none=>simp [hf] at h
     | some m=>
      simp only [hf] at h
      split at h
      ·rename_i hk;simp only [Option.some.injEq] at h;subst h;refine ⟨some m.length,hk,rfl,fun e=>by simp at e,fun j hj a b x y ha hb hp=>?_⟩;obtain ⟨az,bs,rfl,rfl,hok⟩:=hp;obtain ⟨xs,rfl,hx⟩:=ha.dw;obtain ⟨ys,rfl,hy⟩:=hb.dw;obtain ⟨j',rfl⟩:∃ j',j = j' + 1:=⟨j - 1,by omega⟩
       have hfo:P.fieldsOf t = fs:=by simp [Program.fieldsOf,hu]
       rw [run_equalIn_struct s.w j' t xs ys (by rw [hfo]; exact hu) (by simpa using hst),hfo];have:=nX d ih fs.toList 0 m hf j' (by omega) az bs xs ys hx hy (by simpa using hok);simpa [aa.cells] using this
      ·cases h
   | _=>simp [hu] at h
theorem pX:∀ {xs:List aa} {us:List Value},us.length = xs.length → (∀ i (h1:i < xs.length) (h2:i < us.length),Rv s xs[i] us[i]) → mC xs = true → ∃ ns:List Int,us = ns.map (Value.int .u8) ∧ u8s xs = ns.map fun n=>UInt8.ofNat n.toNat
 | [],[],_,_,_=>⟨[],rfl,rfl⟩
 | v :: xs,u :: us,hl,hr,ha=>by
  have h0:=hr 0 (by simp) (by simp);simp only [List.getElem_cons_zero] at h0
  cases v with
  | int k n=>
   cases k <;> simp [mC] at ha;cases h0;obtain ⟨ns,e1,e2⟩:=pX (xs:=xs) (us:=us) (by simpa using hl) (fun i g1 g2=>by have:=hr (i + 1) (by simpa using g1) (by simpa using g2); simpa using this) ha;exact ⟨n :: ns,by rw [e1]; rfl,by simp [u8s,e2]⟩
  | _=>simp [mC] at ha
 | [],_ :: _,hl,_,_=>by simp at hl
 | _ :: _,[],hl,_,_=>by simp at hl
theorem foldl_push (ns:List Int):∀ b:ByteArray,ns.foldl (fun r n=>r.push (UInt8.ofNat n.toNat)) b = ⟨b.data ++ (ns.map fun n=>UInt8.ofNat n.toNat).toArray⟩:=by
 induction ns with
 | nil=>intro b; simp
 | cons n ns ih=>intro b; simp only [List.foldl_cons,ih,List.map_cons]; simp [ByteArray.push]
theorem vG {src dst:TypeId} (h1:(match P.underlying src with | some (.slice e)=>(match P.underlying e with | some (.int .u8)=>true | _=>false) | _=>false) = true)
  (h2:(match P.underlying dst with | some .string=>true | _=>false) = true) {x:ay} {d:Value} (hx:Rv s (ρ x) d) (hs:(AI.b2s x).side ρ s.h) :
  ∃ c,(convert src dst d).run P s.w = .ok c s.w ∧ Rv s ((AI.b2s x).val ρ s.h) c:=by
 simp only [AI.side,AI.val] at hs ⊢;generalize ρ x = v at *
 split at h1
 ·rename_i e hu
  split at h1
  ·rename_i he
   split at h2
   ·rename_i hd
    cases v with
    | slice sz xs=>
     obtain ⟨rfl,hal⟩:=hs;obtain ⟨a,cap,rfl,hh⟩:=hx.bL;rcases hh with rfl | ⟨blk,off,us,rfl,hl,hcp,hr,hm⟩
     ·refine ⟨.string .empty, ?_, .str _⟩
      cases a with
      | none=>simp [convert,ah hu,ah hd,ah he,Conv.bytesToString]
      | some ad=>
       have:=run_bytesToString (P:=P) s.w ad 0 cap [] (by simp [loadCells,loadCellsFrom]);simp [convert,ah hu,ah hd,ah he,this]
     ·obtain ⟨ns,e1,e2⟩:=pX hl hr hal
      have hload:=run_loadCells_list (P:=P) s.w ⟨blk,off,none⟩ us (fun j v hj=>by
       obtain ⟨hj1,hj2⟩:=List.getElem?_eq_some_iff.1 hj;have hm1:=hm j hj1;have hc:us[j].cells = #[us[j]]:=by
        have:us[j] = .int .u8 (ns[j]'(by rw [e1] at hj1; simpa using hj1)):=by simp [e1]
        rw [this]; rfl
       have:=(hm1.2 0 (by rw [hc]; simp)).2;rw [addr_add];simp only [Nat.mul_one,Nat.add_zero] at this;rw [this, ← hj2]
       simp [hc])
      rw [hl] at hload;refine ⟨_, ?_, .str _⟩;rw [e1] at hload;have:=run_bytesToString (P:=P) s.w ⟨blk,off,none⟩ xs.length cap ns (by simpa using hload);rw [foldl_push] at this;simp [convert,ah hu,ah hd,ah he,this,e2]
    | _=>exact hs.elim
   ·cases h2
  ·cases h1
 ·cases h1
end run
/-! Maps whose keys are pairs of numbers: where a key stands. -/
theorem iB {k e:aa} (h:cS k e = true):∃ a b c d,k = .agg [.int .i64 a, .int .i64 b] ∧ e = .agg [.int .i64 c, .int .i64 d]:=by
 unfold cS at h
 split at h
 ·exact ⟨_,_,_,_,rfl,rfl⟩
 ·cases h
section
variable {P:Program} {s:St}
theorem rR {t:TypeId} (h:df P t = true) {k e:aa} {kc ec:Value} (hk:Rv s k kc) (he:Rv s e ec) (hp:cS k e = true):(Op.equal t kc ec).run P s.w = .ok (fO k e) s.w:=by
 have hq:fe P 20 t = some [.i, .i]:=by
  unfold df at h
  split at h
  ·split at h
   ·simp only [Bool.and_eq_true,decide_eq_true_eq] at h; exact h.1.2
   ·cases h
  ·cases h
 obtain ⟨a,b,c,d,rfl,rfl⟩:=iB hp;obtain ⟨q,hk',hlen,hkn,hrun⟩:=iC (s:=s) 20 t _ hq;have hks:q = some 2:=by
  cases q with
  | none=>obtain ⟨r,hr⟩:=hkn rfl; simp at hr
  | some m=>simpa using hlen.symm
 subst hks;have:=hrun 10000 (by omega) _ _ kc ec hk he ⟨_,_,rfl,rfl,by simp [aR,di]⟩;unfold Op.equal;rw [show Op.maxDepth = 10000 from rfl,this];simp [aa.cells,bw,dG,fO]
theorem h9 {t:TypeId} (h:df P t = true) {k:aa} {kc:Value} (hk:Rv s k kc):∀ (es:List (aa × aa)) (ms:List MapEntry) (i:Nat),ms.length = es.length →
  (∀ j (h1:j < es.length) (h2:j < ms.length),Rv s es[j].1 ms[j].key ∧ Rv s es[j].2 ms[j].val) → cX k es = true →
  ((Instr.findAsking t kc ms i).run P s.w = .ok none s.w ∧ bx k es = none ∧ (∀ v,dy k v es = es ++ [(k,v)]) ∧ ∀ n,eb k es n = n + es.length) ∨
  ∃ j, ∃ (h1:j < es.length) (h2:j < ms.length),(Instr.findAsking t kc ms i).run P s.w = .ok (some (i + j,ms[j].val)) s.w ∧ bx k es = some es[j].2 ∧ fO k es[j].1 = true ∧ cS k es[j].1 = true ∧ (∀ v,dy k v es = es.set j (k,v)) ∧ ∀ n,eb k es n = n + j
 | [],[],i,_,_,_=>.inl ⟨by simp [Instr.findAsking],rfl,fun _=>rfl,fun _=>rfl⟩
 | e :: es,m :: ms,i,hl,hr,hok=>by
  simp only [cX,Bool.and_eq_true] at hok;have h0:=hr 0 (by simp) (by simp);simp only [List.getElem_cons_zero] at h0;have hs:=rR h hk h0.1 hok.1
  cases hq:fO k e.1 with
  | true=>
   right;rw [hq] at hs
   refine ⟨0,by simp,by simp, ?_, ?_,by simpa using hq,by simpa using hok.1,fun v=>?_,fun n=>by simp [eb,hq]⟩
   ·simp only [Instr.findAsking,Sem.run_bind,hs,Result.andThen_ok]; simp
   ·simp [bx,hq]
   ·simp [dy,hq]
  | false=>
   rw [hq] at hs;rcases h9 h hk es ms (i + 1) (by simpa using hl) (fun j g1 g2=>by have:=hr (j + 1) (by simpa using g1) (by simpa using g2); simpa using this) hok.2 with ⟨a,b,c,cx⟩ | ⟨j,g1,g2,a,b,c,c',dd,dx⟩
   ·refine .inl ⟨?_,by simp [bx,hq,b],fun v=>by simp [dy,hq,c v],fun n=>by simp [eb,hq,cx (n + 1)]; omega⟩;simp only [Instr.findAsking,Sem.run_bind,hs,Result.andThen_ok]; simpa using a
   ·refine .inr ⟨j + 1,by simpa using g1,by simpa using g2, ?_, ?_,by simpa using c,by simpa using c',fun v=>?_,fun n=>by simp [eb,hq,dx (n + 1)]; omega⟩
    ·simp only [Instr.findAsking,Sem.run_bind,hs,Result.andThen_ok];simp only [Bool.false_eq_true,if_false,List.getElem_cons_succ];rw [a]; congr 3; omega
    ·simp [bx,hq,b]
    ·simp [dy,hq,dd v]
 | [],_ :: _,_,hl,_,_=>by simp at hl
 | _ :: _,[],_,hl,_,_=>by simp at hl
theorem dX {t:TypeId} (h:df P t = true) {kc:Value} {ms:List MapEntry} {r:Option (Nat × Value)} {w:World} (hr:(Instr.findAsking t kc ms).run P w = .ok r w):(Instr.findKey t kc ms).run P w = .ok r w:=by
 unfold df at h
 cases hu:P.underlying t with
 | none=>rw [hu] at h; cases h
 | some d=>
  rw [hu] at h
  cases d with
  | struct fs=>
   unfold Instr.findKey;simp only [Sem.run_bind,ah hu,Result.andThen_ok]
   cases ms with
   | nil=>
    have:(Instr.findAsking t kc []).run P w = .ok none w:=by simp [Instr.findAsking]
    rw [this] at hr;simp only [Instr.findNow,Sem.run_pure];exact hr
   | cons m ms=>
    have e:Instr.findNow (.struct fs) kc (m :: ms) 0 = none:=by
     simp only [Instr.findNow];have:Instr.sameNow (.struct fs) kc m.key = none:=by cases kc <;> cases m.key <;> rfl
     rw [this]
    rw [e]; exact hr
  | _=>cases h
theorem lq {k e:aa} {kc ec:Value} (h:cS k e = true) (hk:Rv s k kc) (he:Rv s e ec) (hq:fO k e = true) (w:World):(Instr.keyThatStays ec kc).run P w = .ok kc w:=by
 obtain ⟨a,b,c,d,rfl,rfl⟩:=iB h;simp only [fO,Bool.and_eq_true,beq_iff_eq] at hq;obtain ⟨rfl,rfl⟩:=hq;have key:∀ {x:aa} {xc:Value},Rv s x xc → x = .agg [.int .i64 a, .int .i64 b] → xc = .agg #[.int .i64 a, .int .i64 b]:=by
  intro x xc hx e;subst e
  cases hx with
  | agg _ xs hl hr=>
   have h2:xs.size = 2:=by simpa using hl
   have r0:=hr 0 (by simp) (by omega);have r1:=hr 1 (by simp) (by omega);simp only [List.getElem_cons_zero,List.getElem_cons_succ] at r0 r1;have e0:xs[0] = .int .i64 a:=by generalize xs[0] = z at r0; cases r0; rfl
   have e1:xs[1] = .int .i64 b:=by generalize xs[1] = z at r1; cases r1; rfl
   congr 1;apply Array.ext
   ·simp [h2]
   ·intro i h3 h4;rcases (by omega:i = 0 ∨ i = 1) with rfl | rfl
    ·simpa using e0
    ·simpa using e1
 rw [key hk rfl,key he rfl];have hb:Instr.sameBits 10000 (.agg #[.int .i64 a, .int .i64 b]) (.agg #[.int .i64 a, .int .i64 b]) = true:=by
  show Instr.sameBits (9999 + 1) _ _ = true
  simp [Instr.sameBits]
 simp [Instr.keyThatStays,hb]
theorem fk {t : TypeId} (h : df P t = true) {k : aa} {kc : Value} (hk : Rv s k kc) (hp : cS k k = true) (b : Bool) : (Instr.checkKey b 10000 t kc).run P s.w = .ok () s.w := by
 obtain ⟨x,y,_,_,rfl,_⟩:=iB hp;unfold df at h
 cases hu:P.underlying t with
 | none=>rw [hu] at h; cases h
 | some d=>
  rw [hu] at h
  cases d with
  | struct fs=>
   dsimp only at h;obtain ⟨fl⟩:=fs;dsimp only at h
   match fl,h with
   | [f,g],h=>
    simp only [Bool.and_eq_true,decide_eq_true_eq] at h;obtain ⟨⟨⟨⟨⟨⟨⟨⟨⟨n1,n2⟩,o1⟩,o2⟩,k1⟩,k2⟩,t1⟩,t2⟩,_⟩,_⟩:=h;have leaf:∀ (u:TypeId) (v:Value),(match P.underlying u with | some (.int _)=>true | _=>false) = true → (Instr.checkKey b 9999 u v).run P s.w = .ok () s.w:=by
     intro u v hu2
     cases hq:P.underlying u with
     | none=>simp [hq] at hu2
     | some d=>
      cases d with
      | int q=>
       show (Instr.checkKey b (9998 + 1) u v).run P s.w = _
       unfold Instr.checkKey;simp [underlying,hq]
      | _=>simp [hq] at hu2
    cases hk with
    | agg _ xs hl hr=>
     have hrow:Row s [.int .i64 x, .int .i64 y] xs:=⟨hl,hr⟩;obtain ⟨u,u1,_⟩:=fh (off:=0) k1 hrow.1 hrow.2 (by simp [b7,aa.cP]);obtain ⟨v,v1,_⟩:=fh (off:=1) k2 hrow.1 hrow.2 (by simp [b7,aa.cP]);show (Instr.checkKey b (9999 + 1) t (.agg xs)).run P s.w = _
     unfold Instr.checkKey;simp only [Sem.run_bind,ah hu,Result.andThen_ok];rw [← Array.forIn_toList];simp only [List.forIn_cons,List.forIn_nil,if_pos n1,if_pos n2,Sem.run_bind,o1,o2,u1,v1,Result.andThen_ok,leaf _ _ t1,leaf _ _ t2,Sem.run_pure]
  | _=>cases h
theorem j6 {t kt e:TypeId} (hu:P.underlying t = some (.map kt e)) {ok:Bool} (hk:df P kt = true) {z:aa} (hz:zeroV P e z = true)
  {b:Nat} {kv:aa} {x c:Value} (hx:Rv s (.map b) x) (hc:Rv s kv c) {blk:Nat} {ms:Array MapEntry} {clock:Nat} {es:List (aa × aa)} (hl:s.lam b 0 = some (.map (some blk))) (hh:s.w.heap[blk]? = some (.map ms clock))
  (hsz:ms.size = es.length) (hr:∀ j (h1:j < es.length) (h2:j < ms.size),Rv s es[j].1 ms[j].key ∧ Rv s es[j].2 ms[j].val) (h1:cS kv kv = true) (h2:cX kv es = true) :
  ∃ u,(Instr.lookup t x c ok).run P s.w = .ok u s.w ∧ Rv s (cJ ok z (bx kv es)) u:=by
 cases hx with
 | map _ blk' hl'=>
  have:blk' = blk:=by rw [hl] at hl'; simpa using hl'.symm
  subst this;have hget:(getObj blk').run P s.w = .ok (.map ms clock) s.w:=by simp [getObj,Sem.run,hh]
  obtain ⟨zv,hz1,hz2⟩:∃ zv,(zeroValue e).run P s.w = .ok zv s.w ∧ Rv s z zv:=by
   unfold zeroV at hz
   cases hi':P.info? e with
   | none=>simp [hi'] at hz
   | some i=>
    cases hzz:i.zero with
    | none=>simp [hi',hzz] at hz
    | some v=>simp only [hi',Option.bind_some,hzz] at hz; exact ⟨v,by simp [zeroValue,typeInfo,hi',hzz],b8 hz⟩
  have hf:=h9 hk hc es ms.toList 0 (by simpa using hsz) (fun j g1 g2=>by have:=hr j g1 (by simpa using g2); simpa using this) h2
  have fin:∀ (v:aa) (u:Value) (r:Option (Nat × Value)),(Instr.findAsking kt c ms.toList 0).run P s.w = .ok r s.w → (match r with | some (_,v)=>u = v | none=>u = zv) → Rv s v u →
    bx kv es = (if r.isSome then some v else none) → (r = none → v = z) → ∃ u,(Instr.lookup t (.map (some blk')) c ok).run P s.w = .ok u s.w ∧ Rv s (cJ ok z (bx kv es)) u:=by
   intro v u r a1 a2 a3 a4 a5;have hrun:(Instr.lookup t (.map (some blk')) c ok).run P s.w = .ok (if ok then .tuple #[u, .bool r.isSome] else u) s.w:=by
    unfold Instr.lookup;simp only [Sem.run_bind,ah hu,Result.andThen_ok,hget,Sem.run_pure,fk hk hc h1,dX hk a1]
    cases r with
    | none=>simp only at a2; subst a2; simp [hz1]
    | some q=>obtain ⟨n,q⟩:=q; simp only at a2; subst a2; simp
   refine ⟨_,hrun, ?_⟩;rw [a4];cases ok
   ·cases r with
    | none=>rw [a5 rfl] at a3; simpa [cJ] using a3
    | some q=>simpa [cJ] using a3
   ·cases r with
    | none=>
     rw [a5 rfl] at a3;simp only [Option.isSome_none,Bool.false_eq_true,if_false,cJ,if_true];refine .tup _ _ rfl (fun j g1 g2=>?_)
     match j,g1 with
     | 0,_=>exact a3
     | 1,_=>exact .bool _
    | some q=>
     simp only [Option.isSome_some,cJ,if_true];refine .tup _ _ rfl (fun j g1 g2=>?_)
     match j,g1 with
     | 0,_=>exact a3
     | 1,_=>exact .bool _
  rcases hf with ⟨a,b,_,_⟩ | ⟨j,g1,g2,a,b,_,_,_,_⟩
  ·exact fin z zv none a rfl hz2 (by simpa using b) (fun _=>rfl)
  ·exact fin es[j].2 ms.toList[j].val _ a rfl (by have:=(hr j g1 (by simpa using g2)).2; simpa using this) (by simpa using b) (fun e=>by simp at e)
end
section run
variable {P:Program} {s:St} {A:World} {ρ:ay → aa} {ρ':Operand → Value}
theorem AI.nt (hi:Inv A s) {i:AI} {o:Oper} (hc:aK P i o.op = true) (hp:i.plain = true) (hne:∀ m sz n ps,i ≠ .lit m sz n ps) (ha:dP s ρ ρ') (hs:i.side ρ s.h) :
  ∃ c,(execOp ρ' o).run P s.w = .ok (.value c) s.w ∧ Rv s (i.val ρ s.h) c:=by
 obtain ⟨dst,op,type,pos,after,guard⟩:=o;simp only at hc
 cases i with
 | mv x=>
  cases op <;> simp only [aK] at hc <;> first | (cases hc; done) | exact ⟨_,rfl,ha _ _ hc⟩
 | build z ps=>
  cases op <;> simp only [aK] at hc <;> first | (cases hc; done) | skip
  obtain ⟨h1,h2,h3⟩:=wo hc;obtain ⟨c,e1,e2⟩:=pU ha h1 h2 h3 hs;exact ⟨c,aj _ _ _ _ e1,e2⟩
 | load k x=>
  cases op <;> simp only [aK] at hc <;> first | (cases hc; done) | skip
  simp only [Bool.and_eq_true] at hc;obtain ⟨c,e1,e2⟩:=iz hi hc.1 (ha _ _ hc.2) hs;exact ⟨c,aj _ _ _ _ e1,e2⟩
 | nilchk x=>
  cases op <;> simp only [aK] at hc <;> first | (cases hc; done) | skip
  have hr:=ha _ _ hc;simp only [AI.side,AI.val,execOp] at hs ⊢;generalize ρ x = v at *;rename_i y;generalize ρ' y = d at *;cases hr <;> first | (exact hs.elim) | skip
  ·exact ⟨_,rfl, .pval _ _ _ _ ‹_› ‹_›⟩
  ·exact ⟨_,rfl, .ptr _ _ _ ‹_›⟩
  ·exact ⟨_,rfl, .eptr _ _ _ _ _ _ _ ‹_›⟩
  ·rename_i fn first caps fi ca hf hc1 h1 h2
   cases fn <;> first | (exact hs.elim) | skip
   exact ⟨_,rfl, .func _ _ _ _ _ ‹_› ‹_› ‹_› ‹_›⟩
 | bin op' x y=>
  cases op <;> simp only [aK] at hc <;> first | (cases hc; done) | skip
  simp only [Bool.and_eq_true,decide_eq_true_eq] at hc;obtain ⟨⟨rfl,h1⟩,h2⟩:=hc;obtain ⟨c,e1,e2⟩:=p8 (ha _ _ h1) (ha _ _ h2) hs _ _;exact ⟨c,aj _ _ _ _ e1,e2⟩
 | eqb neg x y=>
  cases op <;> simp only [aK] at hc <;> first | (cases hc; done) | skip
  rename_i op t x' y' ty;simp only [Bool.and_eq_true,decide_eq_true_eq] at hc;obtain ⟨⟨⟨hop,ht⟩,h1⟩,h2⟩:=hc;have hu:P.underlying t = some .bool:=by
   cases hu:P.underlying t with
   | none=>simp [hu] at ht
   | some d=>cases d <;> simp [hu] at ht; rfl
  have g1:=ha _ _ h1;have g2:=ha _ _ h2;simp only [AI.side,AI.val,execOp] at hs ⊢;generalize ρ x = v at *;generalize ρ y = u at *;generalize ρ' x' = c at *;generalize ρ' y' = d at *;cases g1 <;> first | (exact hs.elim) | skip
  cases g2 <;> first | (exact hs.elim) | skip
  cases neg
  ·simp only [Bool.false_eq_true,if_false] at hop; subst hop;exact ⟨_,aj _ _ _ _ (by simp [eqGuard,Go.binOp,run_equal_bool s.w t _ _ hu]; rfl),by simpa using Rv.bool _⟩
  ·simp only [if_true] at hop; subst hop;exact ⟨_,aj _ _ _ _ (by simp [eqGuard,Go.binOp,run_equal_bool s.w t _ _ hu]; rfl),by simpa using Rv.bool _⟩
 | eqa neg ks x y=>
  cases op <;> simp only [aK] at hc <;> first | (cases hc; done) | skip
  rename_i op t x' y' ty;simp only [Bool.and_eq_true,decide_eq_true_eq,Bool.not_eq_true'] at hc;obtain ⟨⟨⟨⟨⟨hop,hf⟩,hk⟩,hgd⟩,h1⟩,h2⟩:=hc;have g1:=ha _ _ h1;have g2:=ha _ _ h2;obtain ⟨k,hk',hlen,hkn,hrun⟩:=iC (s:=s) 20 t ks hf;simp only [AI.side,AI.val,execOp] at hs ⊢;generalize ρ x = v at *;generalize ρ y = u at *;generalize ρ' x' = c at *;generalize ρ' y' = d at *;cases g1 <;> first | (exact hs.elim) | skip
  cases g2 <;> first | (exact hs.elim) | skip
  rename_i az xs hl1 hr1 bs ys hl2 hr2;have hks:k = some ks.length:=by
   cases k with
   | none=>have e1:=qb hk'; have e2:=(k9 hk).1; rw [e1] at e2; cases e2
   | some m=>simpa using hlen.symm
  subst hks;have hr:=hrun 10000 (by omega) _ _ _ _ (Rv.agg az xs hl1 hr1) (Rv.agg bs ys hl2 hr2) ⟨az,bs,rfl,rfl,hs⟩;have hgrd:=run_eqGuard_agg (P:=P) s.w op t x' y' xs ys hgd;cases neg
  ·simp only [Bool.false_eq_true,if_false] at hop; subst hop;exact ⟨.bool (bw az bs),aj _ _ _ _ (by rw [Sem.run_bind,hgrd,Result.andThen_ok,run_eql_struct,hr]; rfl),by simpa using Rv.bool _⟩
  ·simp only [if_true] at hop; subst hop;exact ⟨.bool (!bw az bs),aj _ _ _ _ (by rw [Sem.run_bind,hgrd,Result.andThen_ok,run_neq_struct,hr]; rfl),by simpa using Rv.bool _⟩
 | un op' x=>
  cases op <;> simp only [aK] at hc <;> first | (cases hc; done) | skip
  simp only [Bool.and_eq_true,decide_eq_true_eq] at hc;obtain ⟨rfl,h1⟩:=hc;obtain ⟨c,e1,e2⟩:=rp (ha _ _ h1) hs;exact ⟨c,aj _ _ _ _ e1,e2⟩
 | conv k x=>
  cases op <;> simp only [aK] at hc <;> first | (cases hc; done) | skip
  rename_i src dst y;obtain ⟨h1,h2,h3⟩:=wo hc;obtain ⟨ts,hts⟩:=Option.isSome_iff_exists.1 h1;have hu:P.underlying dst = some (.int k):=by
   cases hu:P.underlying dst with
   | none=>simp [hu] at h2
   | some d=>cases d <;> simp [hu] at h2; subst h2; rfl
  obtain ⟨j,e1,e2⟩:=bq (ha _ _ h3) hs;refine ⟨_,aj _ _ _ _ ?_, .int _ _⟩;rw [e1];simp only [convert,Sem.run_bind,ah hts,ah hu,Result.andThen_ok];cases ts <;> rfl
 | b2s x=>
  cases op <;> simp only [aK] at hc <;> first | (cases hc; done) | skip
  obtain ⟨h1,h2,h3⟩:=wo hc;obtain ⟨c,e1,e2⟩:=vG h1 h2 (ha _ _ h3) hs;exact ⟨c,aj _ _ _ _ e1,e2⟩
 | convs x=>
  cases op <;> simp only [aK] at hc <;> first | (cases hc; done) | skip
  rename_i src dst y;obtain ⟨h1,h2,h3⟩:=wo hc;obtain ⟨ts,hts⟩:=Option.isSome_iff_exists.1 h1;have hu:P.underlying dst = some .string:=by
   cases hu:P.underlying dst with
   | none=>simp [hu] at h2
   | some d=>cases d <;> simp [hu] at h2; rfl
  have hr:=ha _ _ h3;simp only [AI.side,AI.val] at hs ⊢;simp only [execOp];generalize ρ x = v at *;generalize ρ' y = d at *;cases hr <;> first | (exact hs.elim) | skip
  refine ⟨_,aj _ _ _ _ ?_, .str _⟩;simp only [convert,Sem.run_bind,ah hts,ah hu,Result.andThen_ok];cases ts <;> rfl
 | mkfunc fn first caps=>
  cases op <;> simp only [aK] at hc <;> first | (cases hc; done) | skip
  rename_i fn' a b;simp only [Bool.and_eq_true,decide_eq_true_eq] at hc;obtain ⟨⟨rfl,h1⟩,h2⟩:=hc;obtain ⟨l1,r1⟩:=dC ha h1;obtain ⟨l2,r2⟩:=dC ha h2;refine ⟨.func fn (a.map ρ') (b.map ρ'),rfl, .func _ _ _ _ _ (by simpa using l1.symm) (by simpa using l2.symm) (fun j g1 g2=>?_) (fun j g1 g2=>?_)⟩
  ·have:=r1 j g1 (by simpa using g2); simpa using this
  ·have:=r2 j g1 (by simpa using g2); simpa using this
 | fieldAddr k off x=>
  cases op <;> simp only [aK] at hc <;> first | (cases hc; done) | skip
  rename_i t y f
  cases hu:P.underlying t with
  | none=>simp [hu] at hc
  | some d=>
   cases d with
   | struct fs=>
    simp only [hu] at hc
    cases hf:fs[f]? with
    | none=>simp [hf] at hc
    | some fd=>
     simp only [hf,Bool.and_eq_true,beq_iff_eq,bne_iff_ne] at hc;obtain ⟨⟨⟨rfl,hk⟩,hz⟩,hx⟩:=hc;obtain ⟨blk,o,e1,e2⟩:=iY (ha _ _ hx) hs;refine ⟨_,aj _ _ _ _ ?_,e2⟩;rw [e1];simp [Instr.fieldAt,ah hu,hf,Instr.sureAddr,fieldPlace,aG (kV hk),hz,addr_add]
   | _=>simp [hu] at hc
 | field k off x=>
  cases op <;> simp only [aK] at hc <;> first | (cases hc; done) | skip
  rename_i t y f
  cases hu:P.underlying t with
  | none=>simp [hu] at hc
  | some d=>
   cases d with
   | struct fs=>
    simp only [hu] at hc
    cases hf:fs[f]? with
    | none=>simp [hf] at hc
    | some fd=>
     simp only [hf,Bool.and_eq_true,beq_iff_eq] at hc;obtain ⟨⟨rfl,hk⟩,hx⟩:=hc;obtain ⟨vs,u,e1,e2,e3⟩:=mE hk (ha _ _ hx) hs;refine ⟨u,aj _ _ _ _ ?_,e3⟩;rw [e1];simp [Instr.field,ah hu,hf,asAgg,e2]
   | _=>simp [hu] at hc
 | ixS sz x i=>
  cases op <;> simp only [aK] at hc <;> first | (cases hc; done) | skip
  rename_i t y q
  cases hu:P.underlying t with
  | none=>simp [hu] at hc
  | some d=>
   cases d with
   | slice e=>
    simp only [hu,Bool.and_eq_true,beq_iff_eq] at hc;obtain ⟨⟨⟨rfl,hi1⟩,hx⟩,hq⟩:=hc;obtain ⟨j,e1,e2⟩:=bq (ha _ _ hq) hs.1;obtain ⟨blk,off,len,cap,e3,e4,e5,e6⟩:=uD (ha _ _ hx) hs.2;refine ⟨_,aj _ _ _ _ ?_,e6⟩;rw [e1,e3];simp [Instr.indexAt,asIntOf,ah hu,e4,e5,aG hi1,addr_add]
   | _=>simp [hu] at hc
 | ixA m sz k x i=>
  cases op <;> simp only [aK] at hc <;> first | (cases hc; done) | skip
  rename_i t y q
  cases hu:P.underlying t with
  | none=>simp [hu] at hc
  | some d=>
   cases d with
   | array n e=>
    simp only [hu,Bool.and_eq_true,beq_iff_eq] at hc;obtain ⟨⟨⟨⟨rfl,rfl⟩,hk⟩,hx⟩,hq⟩:=hc;obtain ⟨g1,g2,g3,g4⟩:=hs;obtain ⟨j,e1,e2⟩:=bq (ha _ _ hq) g1;obtain ⟨blk,o,e3,e4⟩:=iY (ha _ _ hx) g4;refine ⟨_,aj _ _ _ _ ?_,e4⟩;rw [e1,e3];simp [Instr.indexAt,asIntOf,ah hu,Instr.sureAddr,g2,g3,aG (kV hk),addr_add]
   | _=>simp [hu] at hc
 | ixV m sz k x i=>
  cases op <;> simp only [aK] at hc <;> first | (cases hc; done) | skip
  rename_i t y q
  cases hu:P.underlying t with
  | none=>simp [hu] at hc
  | some d=>
   cases d with
   | array n e=>
    simp only [hu,Bool.and_eq_true,beq_iff_eq] at hc;obtain ⟨⟨⟨⟨rfl,rfl⟩,hk⟩,hx⟩,hq⟩:=hc;obtain ⟨g1,g2,g3,g4⟩:=hs;obtain ⟨j,e1,e2⟩:=bq (ha _ _ hq) g1;obtain ⟨vs,u,e3,e4,e5⟩:=mE hk (ha _ _ hx) g4;refine ⟨u,aj _ _ _ _ ?_,e5⟩;rw [e1,e3];simp [Instr.index,asIntOf,ah hu,g2,g3,aG (kV hk),e4]
   | _=>simp [hu] at hc
 | ixStr x i=>
  cases op <;> simp only [aK] at hc <;> first | (cases hc; done) | skip
  rename_i t y q
  cases hu:P.underlying t with
  | none=>simp [hu] at hc
  | some d=>
   cases d with
   | string=>
    simp only [hu,Bool.and_eq_true] at hc;obtain ⟨hx,hq⟩:=hc;obtain ⟨j,e1,e2⟩:=bq (ha _ _ hq) hs.1;have hr:=ha _ _ hx;have hs2:=hs.2;simp only [AI.val] at hs2 ⊢;simp only [execOp,e1];generalize aP (ρ i) = n at *;generalize ρ x = v at *;generalize ρ' y = d at *;cases hr <;> first | (exact hs2.elim) | skip
    rename_i str;obtain ⟨h0,h1⟩:=hs2;have hlt:n.toNat < str.size:=by omega
    refine ⟨_,aj _ _ _ _ ?_, .int _ _⟩;simp only [Instr.index,asIntOf,Sem.run_bind,Sem.run_pure,Result.andThen_ok,ah hu];rw [if_pos h0];have e3:str[n.toNat]? = some str[n.toNat]:=by simp [getElem?_pos,hlt]
    have e4:str.data.getD n.toNat 0 = str[n.toNat]:=by
     rw [Array.getD_eq_getD_getElem?];have:n.toNat < str.data.size:=hlt;rw [Array.getElem?_eq_getElem this];rfl
    rw [e3];simp only [Sem.run_pure,e4]
   | _=>simp [hu] at hc
 | extract x j=>
  cases op <;> simp only [aK] at hc <;> first | (cases hc; done) | skip
  rename_i y j';simp only [Bool.and_eq_true,beq_iff_eq] at hc;obtain ⟨rfl,hx⟩:=hc;have hr:=ha _ _ hx;simp only [AI.side,AI.val] at hs ⊢;simp only [execOp];generalize ρ x = v at *;generalize ρ' y = d at *;cases hr <;> first | (exact hs.elim) | skip
  rename_i cs vs hl h;simp only at hs ⊢;have h2:j < vs.size:=by omega
  refine ⟨vs[j],aj _ _ _ _ (by simp [Instr.extract,h2]), ?_⟩;have:=h j hs h2;simpa [List.getD,List.getElem?_eq_getElem hs] using this
 | len x=>
  cases op <;> simp only [aK] at hc <;> first | (cases hc; done) | skip
  rename_i c;obtain ⟨cal,args,tys⟩:=c;simp only at hc
  split at hc
  ·split at hc
   ·rename_i y t hy ht;simp only [Bool.and_eq_true] at hc;have hr:=ha _ _ hc.2;have hargs:args = #[y]:=by apply Array.ext'; simpa using hy
    have htys:tys = #[t]:=by apply Array.ext'; simpa using ht
    subst hargs; subst htys;simp only [AI.side,AI.val] at hs ⊢;simp only [execOp,resolve,invoke,builtin,Builtin.len_];obtain ⟨a,n,cap,e1,e2⟩:=qQ hr hs
    cases hu:P.underlying t with
    | none=>simp [hu] at hc
    | some d=>
     cases d with
     | slice e=>
      refine ⟨.int .i64 n, ?_,by rw [e2]; exact .int _ _⟩;simp [e1,ah hu,goInt]
     | _=>simp [hu] at hc
   ·cases hc
  ·cases hc
 | lenStr x=>
  cases op <;> simp only [aK] at hc <;> first | (cases hc; done) | skip
  rename_i c;obtain ⟨cal,args,tys⟩:=c;simp only at hc
  split at hc
  ·split at hc
   ·rename_i y t hy ht;simp only [Bool.and_eq_true] at hc;have hr:=ha _ _ hc.2;have hargs:args = #[y]:=by apply Array.ext'; simpa using hy
    have htys:tys = #[t]:=by apply Array.ext'; simpa using ht
    subst hargs; subst htys;simp only [AI.side,AI.val] at hs ⊢;simp only [execOp,resolve,invoke,builtin,Builtin.len_];have hval:∃ str,ρ' y = .string str ∧ ρ x = .str str:=by
     generalize ρ x = v at *;generalize ρ' y = d at *;cases hr <;> first | (exact hs.elim) | exact ⟨_,rfl,rfl⟩
    obtain ⟨str,e1,e2⟩:=hval
    cases hu:P.underlying t with
    | none=>simp [hu] at hc
    | some d=>
     cases d with
     | string=>
      refine ⟨.int .i64 str.size, ?_,by rw [e2]; exact .int _ _⟩;simp [e1,ah hu,goInt]
     | _=>simp [hu] at hc
   ·cases hc
  ·cases hc
 | lenA n x=>
  cases op <;> simp only [aK] at hc <;> first | (cases hc; done) | skip
  rename_i c;obtain ⟨cal,args,tys⟩:=c;simp only at hc
  split at hc
  ·split at hc
   ·rename_i y t hy ht;simp only [Bool.and_eq_true] at hc;have hargs:args = #[y]:=by apply Array.ext'; simpa using hy
    have htys:tys = #[t]:=by apply Array.ext'; simpa using ht
    subst hargs; subst htys
    cases hu:P.underlying t with
    | none=>simp [hu] at hc
    | some d=>
     cases d with
     | array m e=>
      simp only [hu,beq_iff_eq] at hc;obtain ⟨rfl,hx⟩:=hc;refine ⟨.int .i64 m, ?_, .int _ _⟩;simp only [execOp,resolve,invoke,builtin,Builtin.len_];simp [ah hu,goInt]
     | _=>simp [hu] at hc
   ·cases hc
  ·cases hc
 | mx l=>
  cases op <;> simp only [aK] at hc <;> first | (cases hc; done) | skip
  rename_i c;obtain ⟨cal,args,tys⟩:=c;simp only at hc
  split at hc
  ·obtain ⟨l1,r1⟩:=dC ha hc;obtain ⟨hne,hint⟩:=hs;simp only [execOp,resolve,invoke,builtin,Builtin.max_,AI.val];have hl:(args.map ρ').toList = args.toList.map ρ':=by simp
   simp only [pure_bind,hl];generalize l.map ρ = L at *;generalize args.toList.map ρ' = M at *
   cases L with
   | nil=>exact absurd rfl hne
   | cons v L=>
    cases M with
    | nil=>simp at l1
    | cons c M=>
     obtain ⟨r,e1,e2⟩:=fM (P:=P) _ _ qV L M v c (by simpa using l1) (fun j g1 g2=>by have:=r1 (j + 1) (by simpa using g1) (by simpa using g2); simpa using this) hint.2 (r1 0 (by simp) (by simp)) hint.1;exact ⟨r,by simp [e1],e2⟩
  ·cases hc
 | mn l=>
  cases op <;> simp only [aK] at hc <;> first | (cases hc; done) | skip
  rename_i c;obtain ⟨cal,args,tys⟩:=c;simp only at hc
  split at hc
  ·obtain ⟨l1,r1⟩:=dC ha hc;obtain ⟨hne,hint⟩:=hs;simp only [execOp,resolve,invoke,builtin,Builtin.min_,AI.val];have hl:(args.map ρ').toList = args.toList.map ρ':=by simp
   simp only [pure_bind,hl];generalize l.map ρ = L at *;generalize args.toList.map ρ' = M at *
   cases L with
   | nil=>exact absurd rfl hne
   | cons v L=>
    cases M with
    | nil=>simp at l1
    | cons c M=>
     obtain ⟨r,e1,e2⟩:=fM (P:=P) _ _ qD L M v c (by simpa using l1) (fun j g1 g2=>by have:=r1 (j + 1) (by simpa using g1) (by simpa using g2); simpa using this) hint.2 (r1 0 (by simp) (by simp)) hint.1;exact ⟨r,by simp [e1],e2⟩
  ·cases hc
 | mkiface t x=>
  cases op <;> simp only [aK] at hc <;> first | (cases hc; done) | skip
  obtain ⟨h1,h2,h3⟩:=wo hc;simp only [beq_iff_eq] at h1;subst h1;refine ⟨_,aj _ _ _ _ ?_, .iface t _ _ (ha _ _ h3)⟩
  cases hu:P.underlying t with
  | none=>simp [hu] at h2
  | some d=>cases d <;> first | (simp [hu] at h2; done) | simp [Instr.makeInterface,ah hu]
 | assert t x=>
  cases op <;> simp only [aK] at hc <;> first | (cases hc; done) | skip
  rename_i y xt t' ok;simp only [Bool.and_eq_true,beq_iff_eq,Bool.not_eq_true'] at hc;obtain ⟨⟨⟨rfl,rfl⟩,h2⟩,h3⟩:=hc;have hr:=ha _ _ h3;simp only [AI.side,AI.val] at hs ⊢;simp only [execOp];generalize ρ x = v at *;generalize ρ' y = d at *;cases hr <;> first | (exact hs.elim) | skip
  rename_i t' v u h;simp only at hs;subst hs;refine ⟨u,aj _ _ _ _ ?_,h⟩
  cases hu:P.underlying t' with
  | none=>simp [hu] at h2
  | some d=>cases d <;> first | (simp [hu] at h2; done) | simp [Instr.typeAssert,ah hu]
 | subq sz x lo hi_=>
  cases op <;> simp only [aK] at hc <;> first | (cases hc; done) | skip
  rename_i t x' lo' hi' mx'
  cases mx' with
  | some _=>simp at hc
  | none=>
   simp only at hc
   cases hu:P.underlying t with
   | none=>rw [hu] at hc; simp at hc
   | some d=>
    cases d with
    | slice e=>
     rw [hu] at hc;simp only [Bool.and_eq_true,beq_iff_eq] at hc;obtain ⟨⟨⟨⟨c1,c2⟩,c3⟩,c4⟩,c5⟩:=hc;have hr:=ha _ _ c3;simp only [AI.side,AI.val] at hs ⊢;obtain ⟨o1,o2,hs⟩:=hs;simp only [execOp]
     cases hx:ρ x with
     | slice sz' xs=>
      rw [hx] at hr hs;obtain ⟨r,e1,e2⟩:=ny ha hu c1 c2 hr hs.1 c4 c5 o1 o2 hs.2.1 hs.2.2.1 hs.2.2.2;exact ⟨r,aj _ _ _ _ e1,e2⟩
     | oslice sz' xs b k=>
      rw [hx] at hr hs
      cases hr with
      | oslice _ _ _ _ _ hss hl=>
       obtain ⟨r,e1,e2⟩:=ny ha hu c1 c2 hss (.inl hs.1) c4 c5 o1 o2 hs.2.1 hs.2.2.1 hs.2.2.2;exact ⟨r,aj _ _ _ _ e1,e2⟩
     | _=>rw [hx] at hs; exact hs.elim
    | _=>rw [hu] at hc; simp at hc
 | subStr x lo hi_=>
  cases op <;> simp only [aK] at hc <;> first | (cases hc; done) | skip
  rename_i t x' lo' hi' mx'
  cases mx' with
  | some _=>simp at hc
  | none=>
   simp only at hc
   cases hu:P.underlying t with
   | none=>rw [hu] at hc; simp at hc
   | some d=>
    cases d with
    | string=>
     rw [hu] at hc;simp only [Bool.and_eq_true] at hc;obtain ⟨⟨c3,c4⟩,c5⟩:=hc;have hr:=ha _ _ c3;simp only [AI.side,AI.val] at hs ⊢;obtain ⟨o1,o2,hs⟩:=hs;simp only [execOp]
     cases hx:ρ x with
     | str st=>
      rw [hx] at hr hs;generalize ρ' x' = d at hr;cases hr;have hb:=oV (P:=P) (w:=s.w) ha c4 c5 o1 o2 hs.1 hs.2.1 hs.2.2;refine ⟨_,aj _ _ _ _ ?_, .str _⟩;simp only [Instr.sliceAt,Instr.slice,Sem.run_bind,ah hu,Result.andThen_ok,Option.map_none,Option.isSome_none,Bool.false_eq_true,if_false,hb,Sem.run_pure]
     | _=>rw [hx] at hs; exact hs.elim
    | _=>rw [hu] at hc; simp at hc
 | lookup ok z x i=>
  cases op <;> simp only [aK] at hc <;> first | (cases hc; done) | skip
  rename_i t x' i' ok'
  cases hu:P.underlying t with
  | none=>rw [hu] at hc; simp at hc
  | some d=>
   cases d with
   | map kt e=>
    rw [hu] at hc;simp only [Bool.and_eq_true,decide_eq_true_eq] at hc;obtain ⟨⟨⟨⟨rfl,hk⟩,hz⟩,c4⟩,c5⟩:=hc;have hxr:=ha _ _ c4;have hcr:=ha _ _ c5;simp only [AI.side,AI.val] at hs ⊢;simp only [execOp]
    cases hx:ρ x with
    | map b=>
     rw [hx] at hxr hs;simp only at hs ⊢
     cases hb:s.h.get b with
     | amap es=>
      rw [hb] at hs;simp only at hs ⊢;obtain ⟨blk,ms,clock,hl,hB,hh,hsz,hr,hnS,hbn⟩:=hi.obj b _ (ab.get_some hb (by simp));obtain ⟨u,hrun,hu2⟩:=j6 (ok:=ok) hu hk hz hxr hcr hl hh hsz hr hs.1 hs.2;exact ⟨_,aj _ _ _ _ hrun,hu2⟩
     | _=>rw [hb] at hs; exact hs.elim
    | _=>rw [hx] at hs; exact hs.elim
   | _=>rw [hu] at hc; simp at hc
 | lit m sz z ps=>exact absurd rfl (hne m sz z ps)
 | _=>simp [AI.plain] at hp
end run
end Go.AM
