/- What a call does, in our terms ('Spec', 'CallV'); what a piece of code does ('AWc'). -/
import Derived.Test.YtlmhkldmpggadaaGreatDoorP5
namespace Go.AM
open Go.RowKit
inductive Bi where
 | coll (b:Nat)
 | fn (f:ag) (args:List ag)
structure Fr where
 v:Env
 ds:List Bi
inductive AEx where
 | normal
 | exit (id:Nat)
 | goto (l:Nat)
 | ret
 | panic (v:ag)
inductive fq where
 | ret (v:ag)
 | pan (v:ag)
def gy (s:St) (vs:List ag) (cs:Array Value):Prop:=cs.size = vs.length ∧ ∀ j (h1:j < vs.length) (h2:j < cs.size),Rv s vs[j] cs[j]
def L3 (s:St):fq → Ending → Prop
 | .ret v, .returned c=>Rv s v c
 | .pan v, .panicked ch=>∃ c,ch = [{ v:=c,recovered:=false }] ∧ Rv s v c
 | _,_=>False
def di (A:World) (s:St) (Q:fq → af → Prop) (e:Ending) (w':World):Prop:=
 ∃ r s',s'.w = w' ∧ Inv A s' ∧ bV s s' ∧ L3 s' r e ∧ Q r s'.h
def Spec (P:Program) (f:FuncId) (args:List ag) (σ:af) (Q:fq → af → Prop):Prop:=
 ∀ A s cargs,s.h = σ → Inv A s → gy s args cargs → Calls P f cargs s.w (di A s Q)
def Fro (ro:Option Nat):Fence:={ Fence.wide with round:=ro }
def aE (P:Program) (fv:ag) (args:List ag) (σ:af) (Q:fq → af → Prop):Prop:=
 ∀ A s cf cargs,s.h = σ → Inv A s → Rv s fv cf → gy s args cargs →
  ∃ d,Deferred.ofValue cf cargs = .pure d ∧
   ((∃ f az,(invoke d.target d.args).run P s.w = .ok (.enter f az) s.w ∧ Calls P f az s.w (di A s Q)) ∨
    (∃ l f tmps asg body,(invoke d.target d.args).run P s.w = .ok (.round l f tmps asg body) s.w ∧ ∀ ro,RoundIn (Fro ro) 0 P l f tmps asg body s.w (di A s Q)))
theorem di.mono {A:World} {s:St} {Q Q':fq → af → Prop} (h:∀ r σ,Q r σ → Q' r σ) {e:Ending} {w:World} (hp:di A s Q e w):di A s Q' e w:=
 let ⟨r,s',a,b,c,d,q⟩:=hp; ⟨r,s',a,b,c,d,h _ _ q⟩
theorem Spec.mono {P:Program} {f:FuncId} {args:List ag} {σ:af} {Q Q':fq → af → Prop} (hs:Spec P f args σ Q) (h:∀ r σ,Q r σ → Q' r σ):Spec P f args σ Q':=
 fun A s cargs h1 h2 h3=>(hs A s cargs h1 h2 h3).mono fun _ _ hp=>hp.mono h
theorem aE.mono {P:Program} {fv:ag} {args:List ag} {σ:af} {Q Q':fq → af → Prop} (hs:aE P fv args σ Q) (h:∀ r σ,Q r σ → Q' r σ):aE P fv args σ Q':=
 fun A s cf cargs h1 h2 h3 h4=>
  let ⟨d,e,g⟩:=hs A s cf cargs h1 h2 h3 h4
  ⟨d,e,g.elim (fun ⟨f,az,a,b⟩=>.inl ⟨f,az,a,b.mono fun _ _ hp=>hp.mono h⟩) (fun ⟨l,f,t,x,y,a,b⟩=>.inr ⟨l,f,t,x,y,a,fun ro=>(b ro).mono fun _ _ hp=>hp.mono h⟩)⟩
def au (P:Program) (f:FuncId):Bool:=
 match P.funcs[f]? with
 | some fn => fn.name != "runtime.NumGoroutine" && fn.body.isSome
 | none=>false
theorem sW {P:Program} {f:FuncId} (h:au P f = true) (args:Array Value) (w:World):(callFunc f args).run P w = .ok (.enter f args) w:=by
 unfold au at h;unfold callFunc
 cases hf:P.funcs[f]? with
 | none=>simp [hf] at h
 | some fn=>
  simp only [hf,Bool.and_eq_true,bne_iff_ne] at h;have h2:fn.body ≠ none:=by cases hb:fn.body <;> simp [hb] at h ⊢
  simp [hf,h.1,h2]
def oq (P:Program) (fv:ag) (args:List ag) (σ:af) (Q:fq → af → Prop):Prop:=
 ∀ A s cf cargs,s.h = σ → Inv A s → Rv s fv cf → gy s args cargs →
  ∃ d,Deferred.ofValue cf cargs = .pure d ∧ ∃ f az,(invoke d.target d.args).run P s.w = .ok (.enter f az) s.w ∧ Calls P f az s.w (di A s Q)
theorem oq.Qm {P:Program} {fv:ag} {args:List ag} {σ:af} {Q:fq → af → Prop} (h:oq P fv args σ Q):aE P fv args σ Q:=
 fun A s cf cargs h1 h2 h3 h4=>let ⟨d,e,g⟩:=h A s cf cargs h1 h2 h3 h4; ⟨d,e, .inl g⟩
theorem oq.func {P:Program} {f:FuncId} (hb:au P f = true) {first caps args:List ag} {σ:af} {Q:fq → af → Prop} (hs:Spec P f (first ++ args ++ caps) σ Q) :
  oq P (.func (.func f) first caps) args σ Q:=by
 intro A s cf cargs h1 h2 h3 h4
 cases h3 with
 | func _ _ _ fi ca hf hc r1 r2=>
  refine ⟨{ target:=.fn (.func f) ca,args:=fi ++ cargs },rfl,⟨f,fi ++ cargs ++ ca, ?_,hs A s _ h1 h2 ⟨?_, ?_⟩⟩⟩
  ·simp only [invoke]; exact sW hb _ _
  ·simp [hf,hc,h4.1]
  ·intro j g1 g2;simp only [List.getElem_append,Array.getElem_append];obtain ⟨q1,q2⟩:=h4;by_cases e1:j < first.length + args.length
   ·have e1':j < (first ++ args).length:=by simpa using e1
    have e1'':j < (fi ++ cargs).size:=by simp; omega
    simp only [e1',e1'',dif_pos];by_cases e2:j < first.length
    ·have:j < fi.size:=by omega
     simp only [e2,this,dif_pos];exact r1 j _ _
    ·have:¬ j < fi.size:=by omega
     simp only [e2,this,dif_neg,not_false_eq_true];have:=q2 (j - first.length) (by omega) (by omega);simpa [hf] using this
   ·have e1':¬ j < (first ++ args).length:=by simpa using e1
    have e1'':¬ j < (fi ++ cargs).size:=by simp; omega
    simp only [e1',e1'',dif_neg,not_false_eq_true];have:=r2 (j - (first ++ args).length) (by simp at g1 e1' ⊢; omega) (by simp at g2 e1'' ⊢; omega);simpa [hf,q1] using this
theorem aE.func {P:Program} {f:FuncId} (hb:au P f = true) {first caps args:List ag} {σ:af} {Q:fq → af → Prop} (hs:Spec P f (first ++ args ++ caps) σ Q) :
  aE P (.func (.func f) first caps) args σ Q:=(oq.func hb hs).Qm
/-! ### Frames -/
def Qu (s:St):Bi → Deferred → Prop
 | .coll b,d=>∃ blk,s.lam b 0 = some (.map (some blk)) ∧ d = { target:=.collected blk,args:=#[] }
 | .fn f args,d=>∃ cf cargs,Rv s f cf ∧ gy s args cargs ∧ Deferred.ofValue cf cargs = .pure d
def jH (s:St):List Bi → List Deferred → Prop
 | [],[]=>True
 | a :: r,d :: t=>Qu s a d ∧ jH s r t
 | _,_=>False
structure er (s:St) (N:Nat) (fr:Fr) (a:Act):Prop where
 size:a.tmps.size = N
 v:∀ t,Rv s (fr.v.get t) (a.tmps.getD t Go.undef)
 ds:jH s fr.ds a.defers
theorem jH.keeps {s s':St} (h:bq s s'):∀ {l:List Bi} {m:List Deferred},jH s l m → jH s' l m
 | [],[],_=>trivial
 | a :: l,d :: m,⟨h1,h2⟩=>by
  refine ⟨?_,jH.keeps h h2⟩
  cases a with
  | coll b=>obtain ⟨blk,e1,e2⟩:=h1; exact ⟨blk,h.lam _ _ _ e1,e2⟩
  | fn f args=>obtain ⟨cf,ca,e1,e2,e3⟩:=h1; exact ⟨cf,ca,e1.keeps h,⟨e2.1,fun j g1 g2=>(e2.2 j g1 g2).keeps h⟩,e3⟩
 | [],_ :: _,h=>h.elim
 | _ :: _,[],h=>h.elim
theorem er.keeps {s s':St} {N:Nat} {fr:Fr} {a:Act} (h:bq s s') (hf:er s N fr a):er s' N fr a:=⟨hf.size,fun t=>(hf.v t).keeps h,hf.ds.keeps h⟩
def Tv (s:St):AEx → Exit → Prop
 | .normal, .normal=>True
 | .exit i, .exit j=>i = j
 | .goto i, .goto j=>i = j
 | .ret, .ret=>True
 | .panic v, .panic ch=>∃ c,ch = [{ v:=c,recovered:=false }] ∧ Rv s v c
 | _,_=>False
def gO (A:World) (N:Nat) (s:St) (Q:AEx → Fr → af → Prop) (e:Exit) (a':Act) (w':World):Prop:=
 ∃ x fr' s',s'.w = w' ∧ Inv A s' ∧ bV s s' ∧ er s' N fr' a' ∧ Tv s' x e ∧ Q x fr' s'.h
def IV (s:St):Option Nat → Option Nat → Prop
 | none,r=>r = none
 | some b,r=>∃ blk,s.lam b 0 = some (.func (.yield blk) #[] #[]) ∧ r = some blk
theorem IV.keeps {s s':St} {ro r:Option Nat} (h:IV s ro r) (hk:bq s s'):IV s' ro r:=by
 cases ro with
 | none=>exact h
 | some b=>obtain ⟨blk,e1,e2⟩:=h; exact ⟨blk,hk.lam _ _ _ e1,e2⟩
def AWc (P:Program) (N:Nat) (ro:Option Nat) (c:Code) (Q:AEx → Fr → af → Prop) (fr:Fr) (σ:af):Prop:=
 ∀ A s a r,s.h = σ → Inv A s → er s N fr a → IV s ro r → c.wpIn (Fro r) 0 P (gO A N s Q) a s.w
section rules
variable {P:Program} {N:Nat} {ro:Option Nat} {Q Q':AEx → Fr → af → Prop} {fr:Fr} {σ:af}
theorem gO.mono {A:World} {s:St} (h:∀ x fr σ,Q x fr σ → Q' x fr σ) {e:Exit} {a:Act} {w:World} (hp:gO A N s Q e a w):gO A N s Q' e a w:=
 let ⟨x,f,s',a1,a2,a3,a4,a5,q⟩:=hp; ⟨x,f,s',a1,a2,a3,a4,a5,h _ _ _ q⟩
theorem gO.from {A:World} {s s1:St} (hg:bV s s1) {e:Exit} {a:Act} {w:World} (hp:gO A N s1 Q e a w):gO A N s Q e a w:=
 let ⟨x,f,s',a1,a2,a3,a4,a5,q⟩:=hp; ⟨x,f,s',a1,a2,hg.trans a3,a4,a5,q⟩
theorem AWc.mono {c:Code} (h:AWc P N ro c Q fr σ) (hq:∀ x fr σ,Q x fr σ → Q' x fr σ):AWc P N ro c Q' fr σ:=
 fun A s a r h1 h2 h3 h4=>wpIn_mono (h A s a r h1 h2 h3 h4) fun _ _ _ hp=>hp.mono hq
theorem AWc.skip (h:Q .normal fr σ):AWc P N ro .skip Q fr σ:=
 fun _ s _ _ h1 h2 h3 _=>wpIn_skip ⟨.normal,fr,s,rfl,h2, .refl s,h3,trivial,h1 ▸ h⟩
theorem AWc.label {l:Nat} (h:Q .normal fr σ):AWc P N ro (.label l) Q fr σ:=
 fun _ s _ _ h1 h2 h3 _=>wpIn_label ⟨.normal,fr,s,rfl,h2, .refl s,h3,trivial,h1 ▸ h⟩
theorem AWc.exit {id:Nat} (h:Q (.exit id) fr σ):AWc P N ro (.exit id) Q fr σ:=
 fun _ s _ _ h1 h2 h3 _=>wpIn_exit ⟨.exit id,fr,s,rfl,h2, .refl s,h3,rfl,h1 ▸ h⟩
theorem AWc.goto {l:Nat} (h:Q (.goto l) fr σ):AWc P N ro (.goto l) Q fr σ:=
 fun _ s _ _ h1 h2 h3 _=>wpIn_goto ⟨.goto l,fr,s,rfl,h2, .refl s,h3,rfl,h1 ▸ h⟩
theorem AWc.ret (h:Q .ret fr σ):AWc P N ro .ret Q fr σ:=
 fun _ s _ _ h1 h2 h3 _=>wpIn_ret ⟨.ret,fr,s,rfl,h2, .refl s,h3,trivial,h1 ▸ h⟩
def AEx.then (next:Fr → af → Prop) (Q:AEx → Fr → af → Prop):AEx → Fr → af → Prop
 | .normal,fr,σ=>next fr σ
 | x,fr,σ=>Q x fr σ
theorem AWc.seq {x y:Code} (h:AWc P N ro x (AEx.then (AWc P N ro y Q) Q) fr σ):AWc P N ro (.seq x y) Q fr σ:=by
 intro A s a r h1 h2 h3 h4;refine wpIn_seq (wpIn_mono (h A s a r h1 h2 h3 h4) ?_);rintro e a' w' ⟨ex,fr',s',rfl,hi,hg,hf,he,hq⟩;cases ex <;> cases e <;> first | (exact he.elim) | skip
 ·exact wpIn_mono (hq A s' a' r rfl hi hf (h4.keeps hg.keeps)) fun _ _ _ hp=>hp.from hg
 all_goals exact ⟨_,fr',s',rfl,hi,hg,hf,he,hq⟩
theorem AWc.cond {o:Operand} {x y:Code} {v:ag} {b:Bool} (hv:∀ s (a:Act),er s N fr a → Rv s v (a.eval o)) (hb:v = .bool b)
  (ht:b = true → AWc P N ro x Q fr σ) (hf:b = false → AWc P N ro y Q fr σ):AWc P N ro (.cond o x y) Q fr σ:=by
 intro A s a r h1 h2 h3 h4;subst hb;have he:a.eval o = .bool b:=by
  have:=hv s a h3;generalize a.eval o = d at *;cases this; rfl
 cases b
 ·exact wpIn_cond_false he (hf rfl A s a r h1 h2 h3 h4)
 ·exact wpIn_cond_true he (ht rfl A s a r h1 h2 h3 h4)
def AEx.inBlock (id:Nat) (Q:AEx → Fr → af → Prop):AEx → Fr → af → Prop
 | .exit i,fr,σ=>if i = id then Q .normal fr σ else Q (.exit i) fr σ
 | x,fr,σ=>Q x fr σ
theorem AWc.block {id:Nat} {c:Code} (h:AWc P N ro c (AEx.inBlock id Q) fr σ):AWc P N ro (.block id c) Q fr σ:=by
 intro A s a r h1 h2 h3 h4;refine wpIn_block (wpIn_mono (h A s a r h1 h2 h3 h4) ?_);rintro e a' w' ⟨ex,fr',s',rfl,hi,hg,hf,he,hq⟩;cases ex <;> cases e <;> first | (exact he.elim) | skip
 case exit.exit i j=>
  have hij:i = j:=he;subst hij;simp only [AEx.inBlock] at hq;by_cases e:i = id
  ·simp only [Exit.inBlock,e,if_true] at hq ⊢; exact ⟨.normal,fr',s',rfl,hi,hg,hf,trivial,hq⟩
  ·simp only [Exit.inBlock,e,if_false] at hq ⊢; exact ⟨.exit i,fr',s',rfl,hi,hg,hf,rfl,hq⟩
 all_goals exact ⟨_,fr',s',rfl,hi,hg,hf,he,hq⟩
theorem sQ {p:Nat → Prop} (h:∃ n,p n):∃ n,p n ∧ ∀ m,p m → n ≤ m:=by
 obtain ⟨n,hn⟩:=h
 induction n using Nat.strongRecOn with
 | _ n ih=>
  by_cases hx:∃ m,m < n ∧ p m
  ·obtain ⟨m,h1,h2⟩:=hx; exact ih m h1 h2
  ·exact ⟨n,hn,fun m hm=>by
    rcases Nat.lt_or_ge m n with h1 | h1
    ·exact absurd ⟨m,h1,hm⟩ hx
    ·exact h1⟩
open Classical in
theorem AWc.loop {c:Code} {ι:Type} (I:ι → Fr → af → Prop) (m:ι → Nat) {i₀:ι} (h0:I i₀ fr σ)
  (hr:∀ i fr σ,I i fr σ → AWc P N ro c (AEx.then (fun fr' σ'=>∃ j,m j < m i ∧ I j fr' σ') Q) fr σ):AWc P N ro (.loop c) Q fr σ:=by
 intro A s a r h1 h2 h3 h4
 -- the relation, on what is concrete
 let Rel:Nat → Act → World → Prop:=fun n a w=>∃ i f s',m i = n ∧ s'.w = w ∧ Inv A s' ∧ bV s s' ∧ er s' N f a ∧ I i f s'.h
 let μ:Act → World → Nat:=fun a w=>if h:∃ n,Rel n a w then Classical.choose (sQ h) else 0
 refine wpIn_loop (fun a w=>∃ n,Rel n a w) μ ⟨m i₀,i₀,fr,s,rfl,rfl,h2, .refl s,h3,h1 ▸ h0⟩ ?_;intro a w hrel;have hmin:Rel (Classical.choose (sQ hrel)) a w:=(Classical.choose_spec (sQ hrel)).1;obtain ⟨i,f,s',hm,rfl,hi,hg,hf,hI⟩:=hmin;refine wpIn_mono (hr i f s'.h hI A s' a r rfl hi hf (h4.keeps hg.keeps)) ?_;rintro e a' w' ⟨ex,fr',s2,rfl,hi2,hg2,hf2,he,hq⟩;cases ex <;> cases e <;> first | (exact he.elim) | skip
 case normal.normal=>
  obtain ⟨j,hlt,hj⟩:=hq;have hrel':∃ n,Rel n a' s2.w:=⟨m j,j,fr',s2,rfl,rfl,hi2,hg.trans hg2,hf2,hj⟩;refine ⟨hrel', ?_⟩;have e1:μ a s'.w = m i:=by simp only [μ]; rw [dif_pos hrel]; exact hm.symm
  have e2:μ a' s2.w ≤ m j:=by simp only [μ]; rw [dif_pos hrel']; exact (Classical.choose_spec (sQ hrel')).2 _ ⟨j,fr',s2,rfl,rfl,hi2,hg.trans hg2,hf2,hj⟩
  omega
 all_goals exact ⟨_,fr',s2,rfl,hi2,hg.trans hg2,hf2,he,hq⟩
end rules
end Go.AM
