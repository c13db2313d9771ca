/- What a call does, in our terms ('Spec', 'CallV'); what a piece of code does ('AWc'). The instructions that change the abstract heap; a call; each computes what the operation does. -/
import Derived.Test.YtcdfnopkemadjaaGreatDoorP4
import Derived.Laws.CopyRow
namespace Go.AM
open Go.RowKit
inductive fp where
 | coll (b:Nat)
 | fn (f:aa) (args:List aa)
structure Fr where
 v:Env
 ds:List fp
inductive AEx where
 | normal
 | exit (id:Nat)
 | goto (l:Nat)
 | ret
 | panic (v:aa)
inductive bh where
 | ret (v:aa)
 | pan (v:aa)
def dA (s:St) (vs:List aa) (cs:Array Value):Prop:=cs.size = vs.length ∧ ∀ j (h1:j < vs.length) (h2:j < cs.size),Rv s vs[j] cs[j]
def Ju (s:St):bh → Ending → Prop
 | .ret v, .returned c=>Rv s v c
 | .pan v, .panicked ch=>∃ c,ch = [{ v:=c,recovered:=false }] ∧ Rv s v c
 | _,_=>False
def bj (A:World) (s:St) (Q:bh → ab → Prop) (e:Ending) (w':World):Prop:=
 ∃ r s',s'.w = w' ∧ Inv A s' ∧ aT s s' ∧ Ju s' r e ∧ Q r s'.h
def Spec (P:Program) (f:FuncId) (args:List aa) (σ:ab) (Q:bh → ab → Prop):Prop:=
 ∀ A s cargs,s.h = σ → Inv A s → dA s args cargs → Calls P f cargs s.w (bj A s Q)
def Fro (ro:Option Nat):Fence:={ Fence.wide with round:=ro }
def bp (P:Program) (fv:aa) (args:List aa) (σ:ab) (Q:bh → ab → Prop):Prop:=
 ∀ A s cf cargs,s.h = σ → Inv A s → Rv s fv cf → dA s args cargs →
  ∃ d,Deferred.ofValue cf cargs = .pure d ∧
   ((∃ f az,(invoke d.target d.args).run P s.w = .ok (.enter f az) s.w ∧ Calls P f az s.w (bj A s Q)) ∨
    (∃ l f tmps asg body,(invoke d.target d.args).run P s.w = .ok (.round l f tmps asg body) s.w ∧ ∀ ro,RoundIn (Fro ro) 0 P l f tmps asg body s.w (bj A s Q)))
theorem bj.mono {A:World} {s:St} {Q Q':bh → ab → Prop} (h:∀ r σ,Q r σ → Q' r σ) {e:Ending} {w:World} (hp:bj A s Q e w):bj A s Q' e w:=
 let ⟨r,s',a,b,c,d,q⟩:=hp; ⟨r,s',a,b,c,d,h _ _ q⟩
theorem Spec.mono {P:Program} {f:FuncId} {args:List aa} {σ:ab} {Q Q':bh → ab → Prop} (hs:Spec P f args σ Q) (h:∀ r σ,Q r σ → Q' r σ):Spec P f args σ Q':=
 fun A s cargs h1 h2 h3=>(hs A s cargs h1 h2 h3).mono fun _ _ hp=>hp.mono h
theorem bp.mono {P:Program} {fv:aa} {args:List aa} {σ:ab} {Q Q':bh → ab → Prop} (hs:bp P fv args σ Q) (h:∀ r σ,Q r σ → Q' r σ):bp P fv args σ Q':=
 fun A s cf cargs h1 h2 h3 h4=>
  let ⟨d,e,g⟩:=hs A s cf cargs h1 h2 h3 h4
  ⟨d,e,g.elim (fun ⟨f,az,a,b⟩=>.inl ⟨f,az,a,b.mono fun _ _ hp=>hp.mono h⟩) (fun ⟨l,f,t,x,y,a,b⟩=>.inr ⟨l,f,t,x,y,a,fun ro=>(b ro).mono fun _ _ hp=>hp.mono h⟩)⟩
def af (P:Program) (f:FuncId):Bool:=
 match P.funcs[f]? with
 | some fn => fn.name != "runtime.NumGoroutine" && fn.body.isSome
 | none=>false
theorem iZ {P:Program} {f:FuncId} (h:af P f = true) (args:Array Value) (w:World):(callFunc f args).run P w = .ok (.enter f args) w:=by
 unfold af at h;unfold callFunc
 cases hf:P.funcs[f]? with
 | none=>simp [hf] at h
 | some fn=>
  simp only [hf,Bool.and_eq_true,bne_iff_ne] at h;have h2:fn.body ≠ none:=by cases hb:fn.body <;> simp [hb] at h ⊢
  simp [hf,h.1,h2]
def ir (P:Program) (fv:aa) (args:List aa) (σ:ab) (Q:bh → ab → Prop):Prop:=
 ∀ A s cf cargs,s.h = σ → Inv A s → Rv s fv cf → dA s args cargs →
  ∃ d,Deferred.ofValue cf cargs = .pure d ∧ ∃ f az,(invoke d.target d.args).run P s.w = .ok (.enter f az) s.w ∧ Calls P f az s.w (bj A s Q)
theorem ir.OM {P:Program} {fv:aa} {args:List aa} {σ:ab} {Q:bh → ab → Prop} (h:ir P fv args σ Q):bp P fv args σ Q:=
 fun A s cf cargs h1 h2 h3 h4=>let ⟨d,e,g⟩:=h A s cf cargs h1 h2 h3 h4; ⟨d,e, .inl g⟩
theorem ir.func {P:Program} {f:FuncId} (hb:af P f = true) {first caps args:List aa} {σ:ab} {Q:bh → ab → Prop} (hs:Spec P f (first ++ args ++ caps) σ Q) :
  ir P (.func (.func f) first caps) args σ Q:=by
 intro A s cf cargs h1 h2 h3 h4
 cases h3 with
 | func _ _ _ fi ca hf hc r1 r2=>
  refine ⟨{ target:=.fn (.func f) ca,args:=fi ++ cargs },rfl,⟨f,fi ++ cargs ++ ca, ?_,hs A s _ h1 h2 ⟨?_, ?_⟩⟩⟩
  ·simp only [invoke]; exact iZ hb _ _
  ·simp [hf,hc,h4.1]
  ·intro j g1 g2;simp only [List.getElem_append,Array.getElem_append];obtain ⟨q1,q2⟩:=h4;by_cases e1:j < first.length + args.length
   ·have e1':j < (first ++ args).length:=by simpa using e1
    have e1'':j < (fi ++ cargs).size:=by simp; omega
    simp only [e1',e1'',dif_pos];by_cases e2:j < first.length
    ·have:j < fi.size:=by omega
     simp only [e2,this,dif_pos];exact r1 j _ _
    ·have:¬ j < fi.size:=by omega
     simp only [e2,this,dif_neg,not_false_eq_true];have:=q2 (j - first.length) (by omega) (by omega);simpa [hf] using this
   ·have e1':¬ j < (first ++ args).length:=by simpa using e1
    have e1'':¬ j < (fi ++ cargs).size:=by simp; omega
    simp only [e1',e1'',dif_neg,not_false_eq_true];have:=r2 (j - (first ++ args).length) (by simp at g1 e1' ⊢; omega) (by simp at g2 e1'' ⊢; omega);simpa [hf,q1] using this
theorem bp.func {P:Program} {f:FuncId} (hb:af P f = true) {first caps args:List aa} {σ:ab} {Q:bh → ab → Prop} (hs:Spec P f (first ++ args ++ caps) σ Q) :
  bp P (.func (.func f) first caps) args σ Q:=(ir.func hb hs).OM
/-! ### Frames -/
def U7 (s:St):fp → Deferred → Prop
 | .coll b,d=>∃ blk,s.lam b 0 = some (.map (some blk)) ∧ d = { target:=.collected blk,args:=#[] }
 | .fn f args,d=>∃ cf cargs,Rv s f cf ∧ dA s args cargs ∧ Deferred.ofValue cf cargs = .pure d
def eM (s:St):List fp → List Deferred → Prop
 | [],[]=>True
 | a :: r,d :: t=>U7 s a d ∧ eM s r t
 | _,_=>False
structure bK (s:St) (N:Nat) (fr:Fr) (a:Act):Prop where
 size:a.tmps.size = N
 v:∀ t,Rv s (fr.v.get t) (a.tmps.getD t Go.undef)
 ds:eM s fr.ds a.defers
theorem eM.keeps {s s':St} (h:aL s s'):∀ {l:List fp} {m:List Deferred},eM s l m → eM s' l m
 | [],[],_=>trivial
 | a :: l,d :: m,⟨h1,h2⟩=>by
  refine ⟨?_,eM.keeps h h2⟩
  cases a with
  | coll b=>obtain ⟨blk,e1,e2⟩:=h1; exact ⟨blk,h.lam _ _ _ e1,e2⟩
  | fn f args=>obtain ⟨cf,ca,e1,e2,e3⟩:=h1; exact ⟨cf,ca,e1.keeps h,⟨e2.1,fun j g1 g2=>(e2.2 j g1 g2).keeps h⟩,e3⟩
 | [],_ :: _,h=>h.elim
 | _ :: _,[],h=>h.elim
theorem bK.keeps {s s':St} {N:Nat} {fr:Fr} {a:Act} (h:aL s s') (hf:bK s N fr a):bK s' N fr a:=⟨hf.size,fun t=>(hf.v t).keeps h,hf.ds.keeps h⟩
def aht (s:St):AEx → Exit → Prop
 | .normal, .normal=>True
 | .exit i, .exit j=>i = j
 | .goto i, .goto j=>i = j
 | .ret, .ret=>True
 | .panic v, .panic ch=>∃ c,ch = [{ v:=c,recovered:=false }] ∧ Rv s v c
 | _,_=>False
def dt (A:World) (N:Nat) (s:St) (Q:AEx → Fr → ab → Prop) (e:Exit) (a':Act) (w':World):Prop:=
 ∃ x fr' s',s'.w = w' ∧ Inv A s' ∧ aT s s' ∧ bK s' N fr' a' ∧ aht s' x e ∧ Q x fr' s'.h
def wK (s:St):Option Nat → Option Nat → Prop
 | none,r=>r = none
 | some b,r=>∃ blk,s.lam b 0 = some (.func (.yield blk) #[] #[]) ∧ r = some blk
theorem wK.keeps {s s':St} {ro r:Option Nat} (h:wK s ro r) (hk:aL s s'):wK s' ro r:=by
 cases ro with
 | none=>exact h
 | some b=>obtain ⟨blk,e1,e2⟩:=h; exact ⟨blk,hk.lam _ _ _ e1,e2⟩
def AWc (P:Program) (N:Nat) (ro:Option Nat) (c:Code) (Q:AEx → Fr → ab → Prop) (fr:Fr) (σ:ab):Prop:=
 ∀ A s a r,s.h = σ → Inv A s → bK s N fr a → wK s ro r → c.wpIn (Fro r) 0 P (dt A N s Q) a s.w
section rules
variable {P:Program} {N:Nat} {ro:Option Nat} {Q Q':AEx → Fr → ab → Prop} {fr:Fr} {σ:ab}
theorem dt.mono {A:World} {s:St} (h:∀ x fr σ,Q x fr σ → Q' x fr σ) {e:Exit} {a:Act} {w:World} (hp:dt A N s Q e a w):dt A N s Q' e a w:=
 let ⟨x,f,s',a1,a2,a3,a4,a5,q⟩:=hp; ⟨x,f,s',a1,a2,a3,a4,a5,h _ _ _ q⟩
theorem dt.from {A:World} {s s1:St} (hg:aT s s1) {e:Exit} {a:Act} {w:World} (hp:dt A N s1 Q e a w):dt A N s Q e a w:=
 let ⟨x,f,s',a1,a2,a3,a4,a5,q⟩:=hp; ⟨x,f,s',a1,a2,hg.trans a3,a4,a5,q⟩
theorem AWc.mono {c:Code} (h:AWc P N ro c Q fr σ) (hq:∀ x fr σ,Q x fr σ → Q' x fr σ):AWc P N ro c Q' fr σ:=
 fun A s a r h1 h2 h3 h4=>wpIn_mono (h A s a r h1 h2 h3 h4) fun _ _ _ hp=>hp.mono hq
theorem AWc.skip (h:Q .normal fr σ):AWc P N ro .skip Q fr σ:=
 fun _ s _ _ h1 h2 h3 _=>wpIn_skip ⟨.normal,fr,s,rfl,h2, .refl s,h3,trivial,h1 ▸ h⟩
theorem AWc.label {l:Nat} (h:Q .normal fr σ):AWc P N ro (.label l) Q fr σ:=
 fun _ s _ _ h1 h2 h3 _=>wpIn_label ⟨.normal,fr,s,rfl,h2, .refl s,h3,trivial,h1 ▸ h⟩
theorem AWc.exit {id:Nat} (h:Q (.exit id) fr σ):AWc P N ro (.exit id) Q fr σ:=
 fun _ s _ _ h1 h2 h3 _=>wpIn_exit ⟨.exit id,fr,s,rfl,h2, .refl s,h3,rfl,h1 ▸ h⟩
theorem AWc.goto {l:Nat} (h:Q (.goto l) fr σ):AWc P N ro (.goto l) Q fr σ:=
 fun _ s _ _ h1 h2 h3 _=>wpIn_goto ⟨.goto l,fr,s,rfl,h2, .refl s,h3,rfl,h1 ▸ h⟩
theorem AWc.ret (h:Q .ret fr σ):AWc P N ro .ret Q fr σ:=
 fun _ s _ _ h1 h2 h3 _=>wpIn_ret ⟨.ret,fr,s,rfl,h2, .refl s,h3,trivial,h1 ▸ h⟩
def AEx.then (next:Fr → ab → Prop) (Q:AEx → Fr → ab → Prop):AEx → Fr → ab → Prop
 | .normal,fr,σ=>next fr σ
 | x,fr,σ=>Q x fr σ
theorem AWc.seq {x y:Code} (h:AWc P N ro x (AEx.then (AWc P N ro y Q) Q) fr σ):AWc P N ro (.seq x y) Q fr σ:=by
 intro A s a r h1 h2 h3 h4;refine wpIn_seq (wpIn_mono (h A s a r h1 h2 h3 h4) ?_);rintro e a' w' ⟨ex,fr',s',rfl,hi,hg,hf,he,hq⟩;cases ex <;> cases e <;> first | (exact he.elim) | skip
 ·exact wpIn_mono (hq A s' a' r rfl hi hf (h4.keeps hg.keeps)) fun _ _ _ hp=>hp.from hg
 all_goals exact ⟨_,fr',s',rfl,hi,hg,hf,he,hq⟩
theorem AWc.cond {o:Operand} {x y:Code} {v:aa} {b:Bool} (hv:∀ s (a:Act),bK s N fr a → Rv s v (a.eval o)) (hb:v = .bool b)
  (ht:b = true → AWc P N ro x Q fr σ) (hf:b = false → AWc P N ro y Q fr σ):AWc P N ro (.cond o x y) Q fr σ:=by
 intro A s a r h1 h2 h3 h4;subst hb;have he:a.eval o = .bool b:=by
  have:=hv s a h3;generalize a.eval o = d at *;cases this; rfl
 cases b
 ·exact wpIn_cond_false he (hf rfl A s a r h1 h2 h3 h4)
 ·exact wpIn_cond_true he (ht rfl A s a r h1 h2 h3 h4)
def AEx.inBlock (id:Nat) (Q:AEx → Fr → ab → Prop):AEx → Fr → ab → Prop
 | .exit i,fr,σ=>if i = id then Q .normal fr σ else Q (.exit i) fr σ
 | x,fr,σ=>Q x fr σ
theorem AWc.block {id:Nat} {c:Code} (h:AWc P N ro c (AEx.inBlock id Q) fr σ):AWc P N ro (.block id c) Q fr σ:=by
 intro A s a r h1 h2 h3 h4;refine wpIn_block (wpIn_mono (h A s a r h1 h2 h3 h4) ?_);rintro e a' w' ⟨ex,fr',s',rfl,hi,hg,hf,he,hq⟩;cases ex <;> cases e <;> first | (exact he.elim) | skip
 case exit.exit i j=>
  have hij:i = j:=he;subst hij;simp only [AEx.inBlock] at hq;by_cases e:i = id
  ·simp only [Exit.inBlock,e,if_true] at hq ⊢; exact ⟨.normal,fr',s',rfl,hi,hg,hf,trivial,hq⟩
  ·simp only [Exit.inBlock,e,if_false] at hq ⊢; exact ⟨.exit i,fr',s',rfl,hi,hg,hf,rfl,hq⟩
 all_goals exact ⟨_,fr',s',rfl,hi,hg,hf,he,hq⟩
theorem ja {p:Nat → Prop} (h:∃ n,p n):∃ n,p n ∧ ∀ m,p m → n ≤ m:=by
 obtain ⟨n,hn⟩:=h
 induction n using Nat.strongRecOn with
 | _ n ih=>
  by_cases hx:∃ m,m < n ∧ p m
  ·obtain ⟨m,h1,h2⟩:=hx; exact ih m h1 h2
  ·exact ⟨n,hn,fun m hm=>by
    rcases Nat.lt_or_ge m n with h1 | h1
    ·exact absurd ⟨m,h1,hm⟩ hx
    ·exact h1⟩
open Classical in
theorem AWc.loop {c:Code} {ι:Type} (I:ι → Fr → ab → Prop) (m:ι → Nat) {i₀:ι} (h0:I i₀ fr σ)
  (hr:∀ i fr σ,I i fr σ → AWc P N ro c (AEx.then (fun fr' σ'=>∃ j,m j < m i ∧ I j fr' σ') Q) fr σ):AWc P N ro (.loop c) Q fr σ:=by
 intro A s a r h1 h2 h3 h4
 -- the relation, on what is concrete
 let Rel:Nat → Act → World → Prop:=fun n a w=>∃ i f s',m i = n ∧ s'.w = w ∧ Inv A s' ∧ aT s s' ∧ bK s' N f a ∧ I i f s'.h
 let μ:Act → World → Nat:=fun a w=>if h:∃ n,Rel n a w then Classical.choose (ja h) else 0
 refine wpIn_loop (fun a w=>∃ n,Rel n a w) μ ⟨m i₀,i₀,fr,s,rfl,rfl,h2, .refl s,h3,h1 ▸ h0⟩ ?_;intro a w hrel;have hmin:Rel (Classical.choose (ja hrel)) a w:=(Classical.choose_spec (ja hrel)).1;obtain ⟨i,f,s',hm,rfl,hi,hg,hf,hI⟩:=hmin;refine wpIn_mono (hr i f s'.h hI A s' a r rfl hi hf (h4.keeps hg.keeps)) ?_;rintro e a' w' ⟨ex,fr',s2,rfl,hi2,hg2,hf2,he,hq⟩;cases ex <;> cases e <;> first | (exact he.elim) | skip
 case normal.normal=>
  obtain ⟨j,hlt,hj⟩:=hq;have hrel':∃ n,Rel n a' s2.w:=⟨m j,j,fr',s2,rfl,rfl,hi2,hg.trans hg2,hf2,hj⟩
  refine ⟨hrel', ?_⟩;have e1:μ a s'.w = m i:=by simp only [μ]; rw [dif_pos hrel]; exact hm.symm
  have e2:μ a' s2.w ≤ m j:=by simp only [μ]; rw [dif_pos hrel']; exact (Classical.choose_spec (ja hrel')).2 _ ⟨j,fr',s2,rfl,rfl,hi2,hg.trans hg2,hf2,hj⟩
  omega
 all_goals exact ⟨_,fr',s2,rfl,hi2,hg.trans hg2,hf2,he,hq⟩
end rules
open Go.RowKit
class Cont (α:Type) where
 run:α
def F5 (P:Program) (fv:aa) (args:List aa) (σ:ab) [K:Cont (aa → ab → Prop)] [Kp:Cont (aa → ab → Prop)]:Prop:=
 bp P fv args σ fun r σ'=>match r with
  | .ret v=>K.run v σ'
  | .pan v=>Kp.run v σ'
def bS (P:Program) (i:AI) (ρ:ay → aa) (σ:ab) (K:aa → ab → Prop) (Kp:aa → ab → Prop):Prop:=
 match i with
 | .alloc z=>K (.ptr (σ.length + (a7 z σ.length).2.length) 0) (σ ++ (a7 z σ.length).2 ++ [.box (a7 z σ.length).1])
 | .box n x=>aY (ρ x) n ∧ K (.ptr σ.length 0) (σ ++ [.box (ρ x).cells])
 | .pbox n x=>aY (ρ x) n ∧ K (.pval (ρ x)) σ
 | .loadd k x=>cB k σ (ρ x) ∧ K (fU k σ (ρ x)).gR σ
 | .mvd x=>K (ρ x).gR σ
 | .nilS m sz=>if m = 1 then K (.oslice sz [] σ.length 0) (σ ++ [.spare sz 0]) else if m = 3 then K (.oslice sz [] σ.length 1) (σ ++ [.spare sz 1]) else K (.sref sz σ.length 0 0 0) (σ ++ [.arr sz []])
 | .lit m sz n ps=>ee sz n ρ ps ∧ (if m = 0 then K (.slice sz (cZ ρ (List.replicate n .undef) ps)) σ
   else if m = 1 then K (.oslice sz (cZ ρ (List.replicate n .undef) ps) σ.length 0) (σ ++ [.spare sz 0])
   else K (.sref sz σ.length 0 n n) (σ ++ [.arr sz (cZ ρ (List.replicate n .undef) ps)]))
 | .store sz x v=>ck σ sz (ρ v) (ρ x) ∧ K .undef (cO σ (ρ v) (ρ x))
 | .buildm z ps=>dH (a7 z σ.length).1.length ρ ps ∧ K (.agg (ij (a7 z σ.length).1 (ps.map fun p=>(p.1,(ρ p.2.2).cells)))) (σ ++ (a7 z σ.length).2)
 | .storem sz x=>if sz < 1000 then ck (σ ++ [.spare sz 0]) 1 (.oslice sz [] σ.length 0) (ρ x) ∧ K .undef (cO (σ ++ [.spare sz 0]) (.oslice sz [] σ.length 0) (ρ x))
  else ck (σ ++ [.arr (sz - 1000) []]) 1 (.sref (sz - 1000) σ.length 0 0 0) (ρ x) ∧ K .undef (cO (σ ++ [.arr (sz - 1000) []]) (.sref (sz - 1000) σ.length 0 0 0) (ρ x))
 | .call f dn l=>@F5 P (ρ f) (aU dn (l.map ρ)) σ ⟨K⟩ ⟨Kp⟩
 | .append sz bytes x y=>(ρ y).cE σ sz ∧ Fits sz ((ρ y).elems σ) ∧ dv sz bytes σ (ρ x) ((ρ y).elems σ) K
 | .sub m sz x lo hi mx=>b6 ρ lo ∧ b6 ρ hi ∧ b6 ρ mx ∧ nN m sz σ (ρ x) (aF ρ 0 lo) (fun n=>aF ρ n hi) (mx.map fun x=>aP (ρ x)) K
 | .freeze sz x=>jv sz σ (ρ x) K
 | .range x=>mg σ (ρ x) K
 | .next x=>np σ (ρ x) K
 | .mksl m sz bytes z n c=>isInt (ρ n) ∧ isInt (ρ c) ∧ pT m sz bytes σ z (aP (ρ n)) (aP (ρ c)) K
 | .clear sz z x=>lf sz σ z (ρ x) K
 | .copyB sz x y=>(ρ y).cE σ sz ∧ Fits sz ((ρ y).elems σ) ∧ py sz σ (ρ x) ((ρ y).elems σ) K
 | .isnil neg x=>oe neg σ (ρ x) K
 | .subO sz x lo=>oR sz σ (ρ x) (ρ lo) K
 | .snil neg x=>pb neg σ (ρ x) K
 | .gix g x=>yB g σ (ρ x) K
 | .allocB=>K (.ptr σ.length 0) (σ ++ [.bld 0 []])
 | .jB bytes x y=>sj bytes σ (ρ x) (ρ y) K
 | .subA n sz x=>j8 n sz σ (ρ x) K
 | .mnew=>K (.map σ.length) (σ ++ [.amap []])
 | .mget ok lk z x i=>mB ok lk z σ (ρ x) (ρ i) K
 | .mset lk x k v=>nk lk σ (ρ x) (ρ k) (ρ v) K
 | .mgetp ok z x i=>jT ok z σ (ρ x) (ρ i) K
 | .msetp x k v=>jJ σ (ρ x) (ρ k) (ρ v) K
 | .ment z x k=>mY z σ (ρ x) (ρ k) K
 | .estore x s v=>gX σ (ρ x) (ρ s) (ρ v) K
 | .panic x=>match ρ x with
  | .iface t v=>Kp (.iface t v) σ
  | _=>False
 | i=>i.plain = true ∧ i.side ρ σ ∧ K (i.val ρ σ) σ
def ar (P:Program) (A:World) (s:St) (K:aa → ab → Prop) (Kp:aa → ab → Prop):Result Next → Prop
 | .ok (.value c) w'=>∃ v s',s'.w = w' ∧ Inv A s' ∧ aT s s' ∧ Rv s' v c ∧ K v s'.h
 | .ok .skip w'=>∃ v s',s'.w = w' ∧ Inv A s' ∧ aT s s' ∧ Rv s' v Go.undef ∧ K v s'.h
 | .ok (.enter f args) w'=>Calls P f args w' (bj A s fun r σ'=>match r with
  | .ret v=>K v σ'
  | .pan v=>Kp v σ')
 | .ok (.round l f tmps asg body) w'=>∀ ro,RoundIn (Fro ro) 0 P l f tmps asg body w' (bj A s fun r σ'=>match r with
  | .ret v=>K v σ'
  | .pan v=>Kp v σ')
 | .halt (.panic c) w'=>∃ v s',s'.w = w' ∧ Inv A s' ∧ aT s s' ∧ Rv s' v c ∧ Kp v s'.h
 | _=>False
section
variable {P:Program} {s:St} {A:World} {ρ:ay → aa} {ρ':Operand → Value} {K Kp:aa → ab → Prop}
theorem dP.keeps {s':St} (h:aL s s') (ha:dP s ρ ρ'):dP s' ρ ρ':=fun x y e=>(ha x y e).keeps h
theorem ar.value {c:Value} {w':World} {r:Result Next} {v:aa} {s':St} (hr:r = .ok (.value c) w') (hw:s'.w = w') (hi:Inv A s') (hg:aT s s') (hv:Rv s' v c) (hk:K v s'.h):ar P A s K Kp r:=by
 subst hr; exact ⟨v,s',hw,hi,hg,hv,hk⟩
theorem Inv.dE (hi:Inv A s) {b:Nat} (hb:s.h[b]? = some .hole) (sz:Nat) (a:Option Addr) (n:Nat) :
  ∃ s',s'.h = s.h.set b (.spare sz 0) ∧ s'.w = s.w ∧ Inv A s' ∧ aT s s' ∧ s'.lam b 0 = some (.slice a n n) ∧ ∀ b' k,b' ≠ b → s'.lam b' k = s.lam b' k:=by
 have hblt:b < s.h.length:=(List.getElem?_eq_some_iff.1 hb).1;have hl:∀ k,s.lam b k = none:=hi.obj b _ hb
 let s':St:={ h:=s.h.set b (.spare sz 0),lam:=aO s.lam b 0 (.slice a n n),S:=s.S,w:=s.w }
 have hk:aL s s':=⟨aJ (hl 0),fun _ _ h=>h,fun _ _ _=>rfl⟩;have hgo:=hi.change (s':=s') hblt rfl hk hi.below (Nat.le_refl _) (fun b' k hne=>av (.inl hne)) (fun _ _ _=>rfl)
  ⟨fun k' hk'=>(av (.inr (by omega))).trans (hl k'),a,n,n,aC _ _ _ _,Nat.le_refl _,fun h=>absurd h (Nat.lt_irrefl _)⟩
  (fun blk ho=>by
   obtain ⟨off,len,cap,e,hlt⟩:=ho;have e':aO s.lam b 0 (.slice a n n) b 0 = _:=e;simp at e'
   omega)
  (fun _ _ h=>.inl h) (fun blk x h=>hi.scell _ _ h)
 exact ⟨s',rfl,rfl,hgo.1,hgo.2,aC _ _ _ _,fun b' k hne=>av (.inl hne)⟩
theorem aS (l:ab) (o o':bO):(l ++ [o]).set l.length o' = l ++ [o']:=by simp
theorem Inv.one (hi:Inv A s):∃ s',s'.h = s.h ++ [.hole] ∧ s'.w = s.w ∧ Inv A s' ∧ aT s s' ∧ s'.h[s.h.length]? = some .hole:=
 ⟨s.more 1,rfl,rfl,(hi.more 1).1,(hi.more 1).2,by simp [St.more]⟩
theorem Inv.fW (hi:Inv A s) {b:Nat} (hb:s.h[b]? = some .hole) (sz:Nat) (a:Option Addr) :
  ∃ s',s'.h = s.h.set b (.arr sz []) ∧ s'.w = s.w ∧ Inv A s' ∧ aT s s' ∧ s'.lam b 0 = some (.slice a 0 0):=by
 have hblt:b < s.h.length:=(List.getElem?_eq_some_iff.1 hb).1;have hl:∀ k,s.lam b k = none:=hi.obj b _ hb
 let s':St:={ h:=s.h.set b (.arr sz []),lam:=aO s.lam b 0 (.slice a 0 0),S:=s.S,w:=s.w }
 have hk:aL s s':=⟨aJ (hl 0),fun _ _ h=>h,fun _ _ _=>rfl⟩;have hgo:=hi.change (s':=s') hblt rfl hk hi.below (Nat.le_refl _) (fun b' k hne=>av (.inl hne)) (fun _ _ _=>rfl)
  ⟨fun k' hk'=>(av (.inr (by simp at hk'; omega))).trans (hl k'), .inl ⟨rfl,a,aC _ _ _ _⟩⟩
  (fun blk ho=>by
   obtain ⟨cap,h0,e⟩:=ho;have e':aO s.lam b 0 (.slice a 0 0) b 0 = _:=e
   simp at e'; omega)
  (fun _ _ h=>.inl h) (fun blk x h=>hi.scell _ _ h)
 exact ⟨s',rfl,rfl,hgo.1,hgo.2,aC _ _ _ _⟩
theorem Inv.qc:∀ {z:List aa} {vs:List Value} {s:St},Inv A s → bg (z.map aa.fm) vs = true →
  ∃ s',s'.h = s.h ++ (a7 z s.h.length).2 ∧ s'.w = s.w ∧ Inv A s' ∧ aT s s' ∧ (a7 z s.h.length).1.length = vs.length ∧
   ∀ j (h1:j < (a7 z s.h.length).1.length) (h2:j < vs.length),Rv s' (a7 z s.h.length).1[j] vs[j]
 | [],[],s,hi,_=>⟨s,by simp [a7],rfl,hi, .refl s,rfl,fun j h1 _=>by simp [a7] at h1⟩
 | v :: r,c :: t,s,hi,h=>by
  simp only [List.map_cons,bg,Bool.and_eq_true] at h;by_cases hm:∃ sz,v = .mint sz
  ·obtain ⟨sz,rfl⟩:=hm;have hc:c = .slice none 0 0:=by
    have h1:=h.1;simp only [aa.fm] at h1
    cases c with
    | slice a l cap=>cases a <;> simp [aH] at h1; obtain ⟨rfl,rfl⟩:=h1; rfl
    | _=>simp [aH] at h1
   subst hc;obtain ⟨s1,e1,e2,i1,g1,d1⟩:=hi.one;by_cases hs:sz < 1000;rotate_left
   ·obtain ⟨s2,f1,f2,i2,g2,k2⟩:=i1.fW d1 (sz - 1000) none;have h2:s2.h = s.h ++ [.arr (sz - 1000) []]:=by rw [f1,e1]; exact aS _ _ _
    have hlen:s2.h.length = s.h.length + 1:=by rw [h2]; simp
    obtain ⟨s3,a1,a2,a3,a4,a5,a6⟩:=Inv.qc (z:=r) (vs:=t) i2 h.2;rw [hlen] at a1 a5 a6;simp only [a7,if_neg hs];refine ⟨s3, ?_,a2.trans (f2.trans e2),a3,g1.trans (g2.trans a4),by simp [a5],fun j h1' h2'=>?_⟩
    ·rw [a1,h2]; simp
    ·cases j with
     | zero=>exact (Rv.sref0 (s:=s3) (sz - 1000) s.h.length none (a4.keeps.lam _ _ _ k2))
     | succ j=>simpa using a6 j (by simpa using h1') (by simpa using h2')
   obtain ⟨s2,f1,f2,i2,g2,k2,_⟩:=i1.dE d1 sz none 0;have h2:s2.h = s.h ++ [.spare sz 0]:=by rw [f1,e1]; exact aS _ _ _
   have hlen:s2.h.length = s.h.length + 1:=by rw [h2]; simp
   obtain ⟨s3,a1,a2,a3,a4,a5,a6⟩:=Inv.qc (z:=r) (vs:=t) i2 h.2;rw [hlen] at a1 a5 a6;simp only [a7,if_pos hs];refine ⟨s3, ?_,a2.trans (f2.trans e2),a3,g1.trans (g2.trans a4),by simp [a5],fun j h1' h2'=>?_⟩
   ·rw [a1,h2]; simp
   ·cases j with
    | zero=>exact (Rv.oslice (s:=s3) sz [] s.h.length 0 _ (.slice0 sz _ _) (a4.keeps.lam _ _ _ k2))
    | succ j=>simpa using a6 j (by simpa using h1') (by simpa using h2')
  ·have hv:(a7 (v :: r) s.h.length) = (v :: (a7 r s.h.length).1,(a7 r s.h.length).2):=by
    cases v <;> first | rfl | exact absurd ⟨_,rfl⟩ hm
   have hu:v.fm = v:=by cases v <;> first | rfl | exact absurd ⟨_,rfl⟩ hm
   rw [hu] at h;obtain ⟨s3,a1,a2,a3,a4,a5,a6⟩:=Inv.qc (z:=r) (vs:=t) hi h.2;rw [hv];refine ⟨s3,a1,a2,a3,a4,by simp [a5],fun j h1' h2'=>?_⟩
   cases j with
   | zero=>exact (b8 h.1)
   | succ j=>simpa using a6 j (by simpa using h1') (by simpa using h2')
 | [],_ :: _,_,_,h=>by simp [bg] at h
 | _ :: _,[],_,_,h=>by simp [bg] at h
theorem pQ (hi:Inv A s) {t:TypeId} {z:List aa} (hz:dz P t (z.map aa.fm) = true)
  (h:K (.ptr (s.h.length + (a7 z s.h.length).2.length) 0) (s.h ++ (a7 z s.h.length).2 ++ [.box (a7 z s.h.length).1])) :
  ar P A s K Kp ((do pure (Next.value (← Instr.alloc t true (.tuple #[]))):Sem Next).run P s.w):=by
 unfold dz at hz
 cases hinfo:P.info? t with
 | none=>simp [hinfo] at hz
 | some i=>
  cases hzero:i.zero with
  | none=>simp [hinfo,hzero] at hz
  | some v=>
   simp only [hinfo,Option.bind_some,hzero] at hz;obtain ⟨s1,a1,a2,a3,a4,a5,a6⟩:=hi.qc hz;obtain ⟨s2,e1,e2,i2,g2,d2⟩:=a3.one;have hb2:s1.h.length = s.h.length + (a7 z s.h.length).2.length:=by rw [a1]; simp
   obtain ⟨s3,f1,f2,i3,g3,r3,_⟩:=i2.jD d2 (cs:=(a7 z s.h.length).1) (vs:=v.cells) t (by simpa using a5.symm) (fun j h1 h2=>by
    have:=a6 j h1 (by simpa using h2)
    exact (by simpa using this:Rv s1 _ _).keeps g2.keeps)
   have hrun:(Instr.alloc t true (.tuple #[])).run P s.w = .ok (.pointer (some ⟨s.w.heap.size,0,none⟩)) (s.w.alloc (.cells v.cells t)):=by
    simp [Instr.alloc,zeroValue,typeInfo,hinfo,hzero,newVar,newRow]
   refine ar.value (aj _ _ _ _ hrun) (f2.trans ?_) i3 (a4.trans (g2.trans g3)) (v:=.ptr s1.h.length 0) ?_ ?_
   ·rw [e2,a2]
   ·rw [e2,a2] at r3; exact r3
   ·rw [f1,e1,aS,a1]; rw [a1] at *; simpa [hb2] using h
theorem wM (hi:Inv A s) {t:TypeId} {v:aa} {c:Value} {n:Nat} (hv:Rv s v c) (hn:aY v n) (h:K (.ptr s.h.length 0) (s.h ++ [.box v.cells])) :
  ar P A s K Kp ((do pure (Next.value (← Instr.box t c)):Sem Next).run P s.w):=by
 obtain ⟨c1,c2,c3⟩:=bQ hv hn;obtain ⟨s2,e1,e2,i2,g2,d2⟩:=hi.one;obtain ⟨s3,f1,f2,i3,g3,r3,_⟩:=i2.jD d2 (cs:=v.cells) (vs:=c.cells) t (by omega) (fun j h1 h2=>(c3 j h1 h2).keeps g2.keeps);have hrun:(Instr.box t c).run P s.w = .ok (.pointer (some ⟨s.w.heap.size,0,none⟩)) (s.w.alloc (.cells c.cells t)):=by
  simp [Instr.box,newVar,newRow]
 refine ar.value (aj _ _ _ _ hrun) (f2.trans (by rw [e2])) i3 (g2.trans g3) (v:=.ptr s.h.length 0) (by rw [e2] at r3; exact r3) ?_;rw [f1,e1,aS]; exact h
theorem Inv.pC (hi:Inv A s) {b:Nat} (hb:s.h[b]? = some .hole) (sz:Nat) (a:Option Addr) (n:Nat) :
  ∃ s',s'.h = s.h.set b (.spare sz 1) ∧ s'.w = s.w ∧ Inv A s' ∧ aT s s' ∧ s'.lam b 1 = some (.slice a n n):=by
 have hblt:b < s.h.length:=(List.getElem?_eq_some_iff.1 hb).1;have hl:∀ k,s.lam b k = none:=hi.obj b _ hb
 let s':St:={ h:=s.h.set b (.spare sz 1),lam:=aO s.lam b 1 (.slice a n n),S:=s.S,w:=s.w }
 have hk:aL s s':=⟨aJ (hl 1),fun _ _ h=>h,fun _ _ _=>rfl⟩;have hgo:=hi.change (s':=s') hblt rfl hk hi.below (Nat.le_refl _) (fun b' k hne=>av (.inl hne)) (fun _ _ _=>rfl)
  ⟨fun k' hk'=>(av (.inr (by omega))).trans (hl k'),a,n,n,aC _ _ _ _,Nat.le_refl _,fun h=>absurd h (Nat.lt_irrefl _)⟩
  (fun blk ho=>by
   obtain ⟨off,len,cap,e,hlt⟩:=ho;have e':aO s.lam b 1 (.slice a n n) b 1 = _:=e;simp at e'
   omega)
  (fun _ _ h=>.inl h) (fun blk x h=>hi.scell _ _ h)
 exact ⟨s',rfl,rfl,hgo.1,hgo.2,aC _ _ _ _⟩
theorem kP (hi:Inv A s) {m sz:Nat} (h:if m = 1 then K (.oslice sz [] s.h.length 0) (s.h ++ [.spare sz 0]) else if m = 3 then K (.oslice sz [] s.h.length 1) (s.h ++ [.spare sz 1]) else K (.sref sz s.h.length 0 0 0) (s.h ++ [.arr sz []])) :
  ar P A s K Kp (.ok (.value (.slice none 0 0)) s.w):=by
 obtain ⟨s1,e1,e2,i1,g1,d1⟩:=hi.one
 split at h
 ·obtain ⟨s2,f1,f2,i2,g2,k2,_⟩:=i1.dE d1 sz none 0;refine ar.value rfl (f2.trans e2) i2 (g1.trans g2) (v:=.oslice sz [] s.h.length 0) (.oslice _ _ _ _ _ (.slice0 sz _ _) k2) ?_;rw [f1,e1,aS]; exact h
 ·split at h
  ·obtain ⟨s2,f1,f2,i2,g2,k2⟩:=i1.pC d1 sz none 0;refine ar.value rfl (f2.trans e2) i2 (g1.trans g2) (v:=.oslice sz [] s.h.length 1) (.oslice _ _ _ _ _ (.slice0 sz _ _) k2) ?_;rw [f1,e1,aS]; exact h
  ·obtain ⟨s2,f1,f2,i2,g2,k2⟩:=i1.fW d1 sz none;refine ar.value rfl (f2.trans e2) i2 (g1.trans g2) (v:=.sref sz s.h.length 0 0 0) (.sref0 _ _ _ k2) ?_;rw [f1,e1,aS]; exact h
/-! ### Rows of elements -/
theorem tq (off:Nat):∀ (m:List Value) (k:Nat) (C:Array Value),((m.zipIdx k).foldl (fun cs (x:Value × Nat)=>cs.setIfInBounds (off + x.2) x.1) C).size = C.size ∧
  ∀ p,((m.zipIdx k).foldl (fun cs (x:Value × Nat)=>cs.setIfInBounds (off + x.2) x.1) C)[p]? = if off + k ≤ p ∧ p < off + k + m.length ∧ p < C.size then m[p - (off + k)]? else C[p]?
 | [], k, C => ⟨rfl, fun p => by rw [if_neg]; · rfl
                                 ·simp; omega⟩
 | a :: m,k,C=>by
  simp only [List.zipIdx_cons,List.foldl_cons];obtain ⟨h1,h2⟩:=tq off m (k + 1) (C.setIfInBounds (off + k) a);refine ⟨by rw [h1]; simp,fun p=>?_⟩;rw [h2 p];simp only [Array.size_setIfInBounds,List.length_cons,Array.getElem?_setIfInBounds];by_cases e:off + k = p
  ·subst e;rw [if_neg (by omega)];by_cases hlt:off + k < C.size
   ·rw [if_pos rfl,if_pos hlt,if_pos (by omega)]; simp
   ·rw [if_pos rfl,if_neg hlt,if_neg (by omega)]; rw [Array.getElem?_eq_none (by omega)]
  ·rw [if_neg e];by_cases c:off + (k + 1) ≤ p ∧ p < off + (k + 1) + m.length ∧ p < C.size
   ·rw [if_pos c,if_pos (by omega),show p - (off + k) = (p - (off + (k + 1))) + 1 by omega]; simp
   ·rw [if_neg c,if_neg (by omega)]
structure bV (s:St) (sz:Nat) (xs:List aa) (us:List Value) (C:Array Value):Prop where
 len:us.length = xs.length
 rv:∀ i (h1:i < xs.length) (h2:i < us.length),Rv s xs[i] us[i] ∧ us[i].cells.size = sz
 cell:∀ i j (h2:i < us.length) (hj:j < us[i].cells.size),C[i * sz + j]? = some us[i].cells[j]
theorem bY {i n j sz:Nat} (h:i < n) (hj:j < sz):i * sz + j < n * sz:=by
 have:(i + 1) * sz ≤ n * sz:=Nat.mul_le_mul_right _ h;rw [Nat.add_mul] at this; omega
theorem idx_eq {i i' j j' sz:Nat} (hj:j < sz) (hj':j' < sz) (h:i * sz + j = i' * sz + j'):i = i' ∧ j = j':=by
 have h1:(i * sz + j) / sz = i:=by rw [Nat.mul_comm,Nat.mul_add_div (by omega)]; simp [Nat.div_eq_of_lt hj]
 have h2:(i' * sz + j') / sz = i':=by rw [Nat.mul_comm,Nat.mul_add_div (by omega)]; simp [Nat.div_eq_of_lt hj']
 have:i = i':=by rw [← h1, ← h2,h]
 subst this; exact ⟨rfl,by omega⟩
theorem bV.set {sz:Nat} {xs:List aa} {us:List Value} {C:Array Value} (h:bV s sz xs us C) (hC:C.size = xs.length * sz) {v:aa} {c:Value} (hv:Rv s v c) (hc:c.cells.size = sz) {i:Nat} (hi:i < xs.length) :
  bV s sz (xs.set i v) (us.set i c) (c.cells.zipIdx.foldl (fun cs (x:Value × Nat)=>cs.setIfInBounds (i * sz + x.2) x.1) C) ∧
   (c.cells.zipIdx.foldl (fun cs (x:Value × Nat)=>cs.setIfInBounds (i * sz + x.2) x.1) C).size = C.size:=by
 have hfs:=tq (i * sz) c.cells.toList 0 C;have heq:c.cells.zipIdx.foldl (fun cs (x:Value × Nat)=>cs.setIfInBounds (i * sz + x.2) x.1) C = (c.cells.toList.zipIdx 0).foldl (fun cs (x:Value × Nat)=>cs.setIfInBounds (i * sz + x.2) x.1) C:=by
  rw [← Array.foldl_toList,Array.toList_zipIdx]
 rw [heq];refine ⟨⟨by simp [h.len],fun k h1 h2=>?_,fun k j h2 hj=>?_⟩,hfs.1⟩
 ·simp only [List.length_set] at h1 h2;by_cases e:i = k
  ·subst e; simp only [List.getElem_set_self]; exact ⟨hv,hc⟩
  ·simp only [List.getElem_set_ne e]; exact h.rv k h1 h2
 ·rw [hfs.2];simp only [List.length_set] at h2;by_cases e:i = k
  ·subst e;simp only [List.getElem_set_self] at hj ⊢;have:i * sz + j < xs.length * sz:=bY hi (by omega);rw [if_pos ⟨by omega,by simp; omega,by omega⟩];simp [hj]
  ·simp only [List.getElem_set_ne e] at hj ⊢;have h3:=(h.rv k (by have:=h.len; omega) h2).2;rw [if_neg]
   ·exact h.cell k j h2 hj
   ·rintro ⟨q1,q2,_⟩;have q2':k * sz + j < i * sz + sz:=by simpa [hc] using q2
    obtain ⟨j',hj'⟩:∃ j',k * sz + j = i * sz + j':=⟨k * sz + j - i * sz,by omega⟩
    exact e (idx_eq (by omega) (by omega) hj').1.symm
theorem jr {sz n:Nat} (hn:n * sz = n * sz):∀ {ps:List (Nat × ay)} {qs:List (Nat × Operand)} {xs:List aa} {us:List Value} {C:Array Value},dP s ρ ρ' → fX ps qs = true → ee sz n ρ ps → xs.length = n → C.size = n * sz → bV s sz xs us C →
  ∃ us' C',Instr.fill (fun i=>some (i * sz,sz)) C (qs.map fun x=>(x.1,ρ' x.2)) = some C' ∧ C'.size = n * sz ∧ bV s sz (cZ ρ xs ps) us' C' ∧ (cZ ρ xs ps).length = n
 | [],[],xs,us,C,_,_,_,hl,hC,h=>⟨us,C,rfl,hC,h,hl⟩
 | (i,x) :: ps,(j,y) :: qs,xs,us,C,ha,hp,ho,hl,hC,h=>by
  simp only [fX,Bool.and_eq_true,beq_iff_eq] at hp;obtain ⟨⟨rfl,hx⟩,hp⟩:=hp;obtain ⟨o1,o2,o3⟩:=ho;have hr:=ha x y hx;obtain ⟨c1,c2,c3⟩:=bQ hr o2;obtain ⟨e1,e2⟩:=h.set (by rw [hC,hl]) hr c1 (i:=i) (by omega);obtain ⟨us',C',f1,f2,f3,f4⟩:=jr hn (ps:=ps) (qs:=qs) ha hp o3 (by simpa using hl) (by rw [e2]; exact hC) e1;refine ⟨us',C', ?_,f2,f3,f4⟩;simp only [List.map_cons,Instr.fill];rw [if_neg]
  ·exact f1
  ·simp only [c1,Bool.or_eq_true,decide_eq_true_eq,not_or,Nat.not_lt,ne_eq,not_true_eq_false,not_false_eq_true,true_and,hC];have:(i + 1) * sz ≤ n * sz:=Nat.mul_le_mul_right _ o1;rw [Nat.add_mul] at this; omega
 | [],_ :: _,_,_,_,_,hp,_,_,_,_=>by simp [fX] at hp
 | _ :: _,[],_,_,_,_,hp,_,_,_,_=>by simp [fX] at hp
theorem bV.row {sz:Nat} {xs:List aa} {us:List Value} {C:Array Value} (h:bV s sz xs us C) {i j:Nat} (hi:i < us.length) (hj:j < us[i].cells.size):i * sz + j < C.size:=by
 have:=h.cell i j hi hj;rcases Nat.lt_or_ge (i * sz + j) C.size with h1 | h1
 ·exact h1
 ·rw [Array.getElem?_eq_none h1] at this; cases this
theorem Inv.zH (hi:Inv A s) {sz:Nat} {xs:List aa} {us:List Value} {C:Array Value} (el:TypeId) (cap:Nat) (hcap:xs.length ≤ cap) (he:bV s sz xs us C) :
  ∃ s',s'.h = s.h ∧ s'.lam = s.lam ∧ s'.w = s.w.alloc (.cells C el) ∧ Inv A s' ∧ aT s s' ∧ Rv s' (.slice sz xs) (.slice (some ⟨s.w.heap.size,0,none⟩) xs.length cap) ∧
   ∀ blk o,s'.S blk o ↔ s.S blk o ∨ (blk = s.w.heap.size ∧ o < xs.length * sz):=by
 let s':St:={ h:=s.h,lam:=s.lam,S:=fun blk o=>s.S blk o ∨ (blk = s.w.heap.size ∧ o < xs.length * sz),w:=s.w.alloc (.cells C el) }
 have hk:aL s s':=⟨fun _ _ _ h=>h,fun _ _ h=>.inl h,fun blk o hs=>World.cell?_alloc_lt _ _ (a:=⟨blk,o,none⟩) (hi.scell blk o hs)⟩;have hgo:=hi.grow (s':=s') rfl rfl hk (hi.below.alloc hi.below.size _) (by simp [s']) (fun blk hlt=>Below.heap_alloc _ _ _ hlt)
  (fun blk x h=>h.imp id fun h=>by omega) (fun blk x h=>by
   rcases h with h | ⟨h,_⟩
   ·have:=hi.scell _ _ h; simp [s']; omega
   ·simp [s']; omega)
 refine ⟨s',rfl,rfl,rfl,hgo.1,hgo.2, .slice sz xs _ 0 _ cap us he.len rfl hcap (fun i h1 h2=>(he.rv i h1 h2).1.keeps hk) (fun i h2=>⟨(he.rv i (by have:=he.len; omega) h2).2,fun j hj=>?_⟩),fun _ _=>Iff.rfl⟩;have hsz:=(he.rv i (by have:=he.len; omega) h2).2;have hlt:i * sz + j < xs.length * sz:=bY (by have:=he.len; omega) (by omega);rw [Nat.zero_add];refine ⟨.inr ⟨rfl,hlt⟩, ?_⟩;show (s.w.alloc (.cells C el)).cell? _ = _
 rw [World.cell?_alloc_new];exact he.cell i j h2 hj
theorem rE (hi:Inv A s) {t:TypeId} {v:aa} {c:Value} {n:Nat} (hv:Rv s v c) (hn:aY v n) (h:K (.pval v) s.h) :
  ar P A s K Kp ((do pure (Next.value (← Instr.box t c)):Sem Next).run P s.w):=by
 obtain ⟨c1,c2,c3⟩:=bQ hv hn
 have he:bV s n [v] [c] c.cells:=⟨rfl,fun i h1 h2=>by
  have:i = 0:=by simp at h1; exact h1
  subst this; exact ⟨hv,c1⟩,fun i j h2 hj=>by
  have:i = 0:=by simp at h2; exact h2
  subst this
  simp at hj ⊢⟩
 obtain ⟨s2,e1,e2,e3,i2,g2,r2,hS⟩:=hi.zH (sz:=n) (xs:=[v]) (us:=[c]) (C:=c.cells) t 1 (by simp) he;have hrun:(Instr.box t c).run P s.w = .ok (.pointer (some ⟨s.w.heap.size,0,none⟩)) (s.w.alloc (.cells c.cells t)):=by
  simp [Instr.box,newVar,newRow]
 refine ar.value (aj _ _ _ _ hrun) e3 i2 g2 (v:=.pval v) (.pval _ c _ _ (hv.keeps g2.keeps) fun j hj=>⟨(hS _ _).2 (.inr ⟨rfl,by simp; omega⟩), ?_⟩) (by rw [e1]; exact h);rw [e3,Nat.zero_add,World.cell?_alloc_new];simp [hj]
theorem Inv.jc (hi:Inv A s) {b:Nat} (hb:s.h[b]? = some .hole) {sz:Nat} {xs:List aa} {us:List Value} {C:Array Value} (el:TypeId) (cap:Nat) (hcap:xs.length ≤ cap)
  (hC:C.size = cap * sz) (he:bV s sz xs us C) (hcm:cap ≤ 9223372036854775807) :
  ∃ s',s'.h = s.h.set b (.arr sz xs) ∧ s'.w = s.w.alloc (.cells C el) ∧ Inv A s' ∧ aT s s' ∧ Rv s' (.sref sz b 0 xs.length xs.length) (.slice (some ⟨s.w.heap.size,0,none⟩) xs.length cap):=by
 have hblt:b < s.h.length:=(List.getElem?_eq_some_iff.1 hb).1;have hl:∀ k,s.lam b k = none:=hi.obj b _ hb
 let s':St:={ h:=s.h.set b (.arr sz xs),lam:=aO s.lam b xs.length (.slice (some ⟨s.w.heap.size,0,none⟩) xs.length cap),S:=s.S,w:=s.w.alloc (.cells C el) }
 have hk:aL s s':=⟨aJ (hl _),fun _ _ h=>h,fun blk o hs=>World.cell?_alloc_lt _ _ (a:=⟨blk,o,none⟩) (hi.scell blk o hs)⟩;have hnew:s'.w.heap[s.w.heap.size]? = some (.cells C el (0,0)):=by show (s.w.heap.push _)[s.w.heap.size]? = _; simp
 have hgo:=hi.change (s':=s') hblt rfl hk (hi.below.alloc hi.below.size _) (by simp [s']) (fun b' k hne=>av (.inl hne))
  (fun blk hlt _=>Below.heap_alloc _ _ _ hlt)
  (by
   refine ⟨fun k' hk'=>(av (.inr (by omega))).trans (hl k'), ?_⟩;rcases Nat.eq_zero_or_pos cap with h0 | h0
   ·have hx:xs = []:=List.eq_nil_of_length_eq_zero (by omega);subst hx; subst h0;exact .inl ⟨rfl,_,aC _ _ _ _⟩
   ·exact .inr ⟨s.w.heap.size,cap,C,el,us,h0,aC _ _ _ _,hi.below.size,hnew,hC,hcap,he.len,fun i h1 h2=>⟨(he.rv i h1 h2).1.keeps hk,(he.rv i h1 h2).2⟩,he.cell,fun o hs=>by have:=hi.scell _ _ hs; omega,hcm⟩)
  (fun blk ho=>by
   obtain ⟨cap',_,e⟩:=ho;have e':aO s.lam b xs.length (.slice (some ⟨s.w.heap.size,0,none⟩) xs.length cap) b xs.length = _:=e;simp at e'
   left; omega)
  (fun blk x h=>.inl h) (fun blk x h=>by have:=hi.scell _ _ h; simp [s']; omega)
 refine ⟨s',rfl,rfl,hgo.1,hgo.2, ?_⟩;have:=Rv.sref (s:=s') sz b 0 xs.length xs.length s.w.heap.size cap (aC _ _ _ _) (by omega) hcap;simpa using this
theorem vu (hi:Inv A s) {m sz n:Nat} {ps:List (Nat × ay)} {t:TypeId} {parts:Array (Nat × Operand)} (ha:dP s ρ ρ') (hc:aK P (.lit m sz n ps) (.buildSlice t n parts) = true)
  (ho:ee sz n ρ ps) (h:if m = 0 then K (.slice sz (cZ ρ (List.replicate n .undef) ps)) s.h
   else if m = 1 then K (.oslice sz (cZ ρ (List.replicate n .undef) ps) s.h.length 0) (s.h ++ [.spare sz 0])
   else K (.sref sz s.h.length 0 n n) (s.h ++ [.arr sz (cZ ρ (List.replicate n .undef) ps)])) :
  ar P A s K Kp ((do pure (Next.value (← Instr.buildSlice t n (parts.map fun x=>(x.1,ρ' x.2)))):Sem Next).run P s.w):=by
 simp only [aK] at hc
 cases hu:P.underlying t with
 | none=>simp [hu] at hc
 | some d=>
  cases d with
  | slice e=>
   simp only [hu,Bool.and_eq_true,beq_iff_eq,decide_eq_true_eq] at hc;obtain ⟨⟨⟨⟨⟨⟨rfl,hinf⟩,_⟩,hbig⟩,hpos⟩,hzs⟩,hp⟩:=hc;obtain ⟨i,hinfo⟩:=Option.isSome_iff_exists.1 hinf;unfold jh at hzs
   cases hzero:i.zero with
   | none=>simp [hinfo,hzero] at hzs
   | some zv=>
    simp only [hinfo,Option.bind_some,hzero,beq_iff_eq] at hzs;generalize hsz:P.cellsOf e = sz at *
    -- the zero elements
    have hz0:bV s sz (List.replicate n .undef) (List.replicate n zv) ((Array.range (n * sz)).map (zv.cells[· % zv.cells.size]!)):=by
     refine ⟨by simp,fun i h1 h2=>⟨by simpa using Rv.undef _,by simp [hzs]⟩,fun i j h2 hj=>?_⟩;simp only [List.getElem_replicate] at hj ⊢;have hin:i < n:=by simpa using h2
     have:i * sz + j < n * sz:=bY hin (by omega);have hmod:(i * sz + j) % zv.cells.size = j:=by rw [hzs,Nat.mul_comm,Nat.mul_add_mod]; exact Nat.mod_eq_of_lt (by omega)
     simp [this,hmod,hj]
    obtain ⟨us',C',f1,f2,f3,f4⟩:=jr (s:=s) (ρ:=ρ) (ρ':=ρ') (n:=n) rfl (ps:=ps) (qs:=parts.toList) ha hp ho (by simp) (by simp) hz0;have hlist:(parts.map fun x=>(x.1,ρ' x.2)).toList = parts.toList.map fun x=>(x.1,ρ' x.2):=by simp
    have hrun:(Instr.buildSlice t n (parts.map fun x=>(x.1,ρ' x.2))).run P s.w = .ok (.slice (some ⟨s.w.heap.size,0,none⟩) n n) (s.w.alloc (.cells C' e)):=by
     unfold Instr.buildSlice;simp only [Sem.run_bind,ah hu,Result.andThen_ok,aG hinf,hsz];rw [if_neg (by omega)];by_cases hn0:n * sz = 0
     ·have hn:n = 0:=by rcases Nat.mul_eq_zero.1 hn0 with h | h <;> omega
      subst hn;have hmap:∀ g:Nat → Value,(Array.range (0 * sz)).map g = #[]:=fun g=>by apply Array.ext'; simp
      rw [hmap] at f1;rw [if_pos hn0,Sem.run_bind,Sem.run_pure,Result.andThen_ok,hmap,hlist,f1];simp [newRow]
     ·rw [if_neg hn0];simp [zeroValue,typeInfo,hinfo,hzero,f1,newRow]
    generalize hxs:cZ ρ (List.replicate n .undef) ps = xs at *;have hlen:xs.length = n:=f4
    split at h
    ·obtain ⟨s1,e1,e2,e3,i1,g1,r1,_⟩:=hi.zH e n (by omega) f3;rw [hlen] at r1;exact ar.value (aj _ _ _ _ hrun) e3 i1 g1 r1 (by rw [e1]; exact h)
    ·split at h
     ·obtain ⟨s1,e1,e2,e3,i1,g1,r1,_⟩:=hi.zH e n (by omega) f3;rw [hlen] at r1;obtain ⟨s2,a1,a2,i2,g2,d2⟩:=i1.one;obtain ⟨s3,b1,b2,i3,g3,k3,_⟩:=i2.dE d2 sz (some ⟨s.w.heap.size,0,none⟩) n;refine ar.value (aj _ _ _ _ hrun) (b2.trans (a2.trans e3)) i3 (g1.trans (g2.trans g3)) (v:=.oslice sz xs s.h.length 0) (.oslice _ _ _ _ _ (r1.keeps (g2.trans g3).keeps) (by rw [← e1]; exact k3)) ?_;rw [b1,a1,aS,e1]; exact h
     ·obtain ⟨s2,a1,a2,i2,g2,d2⟩:=hi.one;have f3':bV s2 sz xs us' C':=⟨f3.len,fun i h1 h2=>⟨(f3.rv i h1 h2).1.keeps g2.keeps,(f3.rv i h1 h2).2⟩,f3.cell⟩;obtain ⟨s3,b1,b2,i3,g3,r3⟩:=i2.jc d2 e n (by omega) f2 f3' (Nat.le_trans (Nat.le_mul_of_pos_right n hpos) (Nat.le_trans hbig (by decide)));rw [hlen,a2] at r3;refine ar.value (aj _ _ _ _ hrun) (by rw [b2,a2]) i3 (g2.trans g3) r3 ?_;rw [b1,a1,aS]; exact h
  | _=>simp [hu] at hc
end
end Go.AM
