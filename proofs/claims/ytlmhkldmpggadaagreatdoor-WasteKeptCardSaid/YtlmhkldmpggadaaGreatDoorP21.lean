/- Abstract code: when it stands for the program's code, and what it does; a function's contract out of its body's walk. -/
import Derived.Test.YtlmhkldmpggadaaGreatDoorP20
import Derived.RangeFuncRecord
namespace Go.AM
open Go.RowKit
inductive AC where
 | skip
 | reg (ops:List aL) (live:List Nat)
 | seq (a b:AC)
 | cond (x:aO) (a b:AC)
 | block (id:Nat) (a:AC)
 | loop (live:List Nat) (a:AC)
 | exit (id:Nat)
 | ret
 | scope (a:AC)
 | label (l:Nat)
 | dreg (ops:List aL) (live:List Nat) (bef:List (List Nat))
 | jM (f:aO) (ps:List Nat) (asg body:AC)
 | frz (t:Nat) (g:Bool) (a:AC)
 | DL (t off sz:Nat) (a:AC)
 | dfr (d g:Nat) (caps:List aO) (live:List Nat)
 | qreg (ops:List aL) (live:List Nat) (bef:List (List Nat)) (st:List (List Nat × Nat)) (last:List Nat)
 | creg (ops:List aL) (live:List Nat) (bef:List (List Nat)) (st:List (List Nat × Nat)) (last:List Nat)
 deriving Inhabited
def xD (N d g:Nat) (caps:List aO):List Oper → Bool
 | [o1,o2]=>decide (o1.dst = some d) && decide (d < N) && o1.guard.isNone && (match o1.op with
   | .makeFunc fn fi cs=>(match fn with
    | .func g'=>g == g'
    | _=>false) && fi.isEmpty && gf caps cs.toList
   | _=>false) && o2.dst.isNone && o2.guard.isNone && (match o2.op with
   | .defer c=>(match c.callee with
    | .value (.tmp d')=>d == d'
    | _=>false) && c.args.isEmpty
   | _=>false)
 | _=>false
def dR (P:Program) (N:Nat):AC → Code → Bool
 | .skip, .skip=>true
 | .reg ops _, .region _ os false=>e9 P N os ops os.toList
 | .seq a b, .seq x y=>dR P N a x && dR P N b y
 | .cond o a b, .cond o' x y=>aN o o' && dR P N a x && dR P N b y
 | .block i a, .block j x=>i == j && dR P N a x
 | .loop _ a, .loop x=>dR P N a x
 | .exit i, .exit j=>i == j
 | .ret, .ret=>true
 | .scope a, .scope x=>dR P N a x
 | .label i, .label j=>i == j
 | .dreg ops _ bef, .region _ os true=>Ju P N os ops bef
 | .frz _ _ a,c=>dR P N a c
 | .DL _ _ _ a,c=>dR P N a c
 | .dfr d g caps _, .region _ os false=>xD N d g caps os.toList
 | .qreg ops _ bef st last, .region _ os true=>N5 P N os ops bef st last
 | .creg ops _ bef st last, .region _ os true=>IH P N os ops bef st last
 | .jM f ps asg body, .rangeFunc g ps' asg' body'=>aN f g && decide (ps = ps'.toList) && ps.all (fun p=>decide (p < N)) && dR P N asg asg' && dR P N body body'
 | _,_=>false
def AW (P:Program) (N:Nat) (ro:Option Nat) (ac:AC) (Q:AEx → Fr → af → Prop) (fr:Fr) (σ:af):Prop:=
 ∀ c,dR P N ac c = true → AWc P N ro c Q fr σ
def AWK (P:Program) (N:Nat) (ro:Option Nat) (ac:AC) [Q:Cont (AEx → Fr → af → Prop)] (fr:Fr) (σ:af):Prop:=AW P N ro ac Q.run fr σ
def Fr.only (fr:Fr) (l:List Nat):Fr:={ fr with v:=fr.v.only l }
def DG (t:Nat) (g:Bool) (fr:Fr) (σ:af) (K:ag → af → Prop):Prop:=
 match fr.v.get t with
 | .ptr b 0=>match σ.get b with
  | .box cs=>match g,cs with
   | true,cs=>K (.pval (.agg cs)) (σ.set b .dead)
   | false,[v]=>v.gJ = true ∧ K (.pval v) (σ.set b .dead)
   | _,_=>False
  | _=>False
 | _=>False
def Ac (t off sz:Nat) (fr:Fr) (σ:af) (K:af → Prop):Prop:=
 match fr.v.get t with
 | .ptr b 0=>match σ.get b with
  | .box cs=>match cs[off]? with
   | some (.oslice sz' xs _ _)=>sz' = sz ∧ K (σ.set b (.box (cs.set off (.slice sz xs))))
   | some (.sref sz' b' o len n)=>sz' = sz ∧ match σ.get b' with
    | .arr sz'' xs=>sz'' = sz ∧ xs.length = n ∧ K ((σ.set b' .dead).set b (.box (cs.set off (.slice sz ((xs.drop o).take len)))))
    | _=>False
   | _=>False
  | _=>False
 | .eptr esz b i 0 n=>match σ.get b with
  | .arr esz' xs=>match xs[i]? with
   | some (.agg cs)=>match cs[off]? with
    | some (.sref sz' b' o len m)=>esz' = esz ∧ xs.length = n ∧ sz' = sz ∧ b' ≠ b ∧ match σ.get b' with
     | .arr sz'' ys=>sz'' = sz ∧ ys.length = m ∧ K ((σ.set b' .dead).set b (.arr esz (xs.set i (.agg (cs.set off (.slice sz ((ys.drop o).take len)))))))
     | _=>False
    | some (.slice _ _)=>K σ
    | _=>False
   | _=>False
  | _=>False
 | _=>False
def vj (P:Program) (N:Nat) (ro:Option Nat):AC → (AEx → Fr → af → Prop) → Fr → af → Prop
 | .skip,Q,fr,σ=>Q .normal fr σ
 | .reg ops live,Q,fr,σ=>ky P ops fr σ (fun fr' σ'=>Q .normal (fr'.only live) σ') (fun v fr' σ'=>Q (.panic v) fr' σ')
 | .seq a b,Q,fr,σ=>vj P N ro a (AEx.then (vj P N ro b Q) Q) fr σ
 | .cond x a b,Q,fr,σ=>match opv fr.v x with
  | .bool t=>opg fr.v x = true ∧ (t = true → vj P N ro a Q fr σ) ∧ (t = false → vj P N ro b Q fr σ)
  | _=>False
 | .block id a,Q,fr,σ=>vj P N ro a (AEx.inBlock id Q) fr σ
 | .loop live a,Q,fr,σ=>@AWK P N ro (.loop live a) ⟨Q⟩ fr σ
 | .exit id,Q,fr,σ=>Q (.exit id) fr σ
 | .ret,Q,fr,σ=>Q .ret fr σ
 | .scope a,Q,fr,σ=>@AWK P N ro (.scope a) ⟨Q⟩ fr σ
 | .label _,Q,fr,σ=>Q .normal fr σ
 | .dreg ops live bef,Q,fr,σ=>bK P ops fr.v σ [] fun e σ' es=>eW bef [] es.reverse 0 = true ∧ Q .normal (Fr.only { fr with v:=e } live) σ'
 | .jM f ps asg body,Q,fr,σ=>@AWK P N ro (.jM f ps asg body) ⟨Q⟩ fr σ
 | .frz t g a,Q,fr,σ=>DG t g fr σ fun v σ'=>vj P N ro a Q { fr with v:=(t,v) :: fr.v } σ'
 | .DL t off sz a,Q,fr,σ=>Ac t off sz fr σ fun σ'=>vj P N ro a Q fr σ'
 | .qreg ops live bef st last,Q,fr,σ=>uC P ops bef last st [] [] fr.v σ fun e σ'=>Q .normal (Fr.only { fr with v:=e } live) σ'
 | .creg ops live bef st last,Q,fr,σ=>uI P ops bef last st [] [] fr.v σ (fun e σ'=>Q .normal (Fr.only { fr with v:=e } live) σ') (fun v σ'=>Q (.panic v) { fr with v:=iH ops fr.v } σ')
 | .dfr d g caps live,Q,fr,σ=>ro = none ∧ ea fr.v caps ∧ Q .normal (Fr.only { v:=(d, .undef) :: fr.v,ds:=.fn (.func (.func g) [] (caps.map (opv fr.v))) [] :: fr.ds } live) σ
section
variable {P:Program} {N:Nat} {ro:Option Nat} {Q Q':AEx → Fr → af → Prop} {fr:Fr} {σ:af}
theorem Bw:∀ (l:List Nat) (e:Env) (t:Nat),(e.only l).get t = if t ∈ l then e.get t else .undef
 | [],_,_=>rfl
 | n :: l,e,t=>by
  simp only [Env.only,Env.get,List.mem_cons];by_cases h:n = t
  ·subst h; simp
  ·rw [if_neg h,Bw l e t];by_cases h2:t ∈ l
   ·rw [if_pos h2,if_pos (.inr h2)]
   ·rw [if_neg h2,if_neg]; rintro (h3 | h3)
    ·exact h h3.symm
    ·exact h2 h3
theorem er.only {s:St} {a:Act} (h:er s N fr a) (l:List Nat):er s N (fr.only l) a:=
 ⟨h.size,fun t=>by
  simp only [Fr.only,Bw];split
  ·exact h.v t
  ·exact .undef _,h.ds⟩
theorem AW.mono {ac:AC} (h:AW P N ro ac Q fr σ) (hq:∀ x fr σ,Q x fr σ → Q' x fr σ):AW P N ro ac Q' fr σ:=fun c hc=>(h c hc).mono hq
theorem Dl {F:Fence} {n:Nat} {a:Act} {w:World} {c:Code} {R:Exit → Act → World → Prop} (h:c.wpIn F n P (Exit.noGoto R) a w):(Code.scope c).wpIn F n P R a w:=by
 intro b k cs hro hb hr;have st:step P (lone (b.atR a (.code (.scope c) :: k)) cs w) = .next (lone (b.atR a (.code c :: .inScope c :: k)) cs w):=step_lone_go (by simp [stepG,stepG.exec,Frame.atR]);have h0:(lone (b.atR a (.code (.scope c) :: k)) cs w).fenced P F:=fenced_calm hb hr rfl;obtain ⟨e,a₁,w₁,hq,harr⟩:=h b (.inScope c :: k) cs hro hb hr
 cases e with
 | normal=>
  have st2:step P (lone (b.atR a₁ (.inScope c :: k)) cs w₁) = .next (lone (b.atR a₁ k) cs w₁):=step_lone_go (by simp [stepG,stepG.exec,Frame.atR]);exact ⟨.normal,a₁,w₁,hq, .head h0 st (StepsIn.trans harr (.one (fenced_calm hb hr rfl) st2))⟩
 | exit id=>
  have hx:exitTo id (.inScope c :: k) = exitTo id k:=by simp [exitTo]
  exact ⟨.exit id,a₁,w₁,hq,fun k' hk=>.head h0 st (harr.1 k' (by rw [hx]; exact hk)),fun hr' hk=>let ⟨k₁,h1,h2⟩:=harr.2 hr' (by rw [hx]; exact hk); ⟨k₁,h1, .head h0 st h2⟩⟩
 | goto l=>exact hq.elim
 | ret=>exact ⟨_,a₁,w₁,hq, .of_steps (.one h0 st) harr⟩
 | panic ch=>exact ⟨_,a₁,w₁,hq, .of_steps (.one h0 st) harr⟩
 | outgrown=>exact ⟨_,a₁,w₁,hq, .of_steps (.one h0 st) harr⟩
def AEx.noGoto (Q:AEx → Fr → af → Prop):AEx → Fr → af → Prop
 | .goto _,_,_=>False
 | x,fr,σ=>Q x fr σ
theorem AWc.scope {c:Code} (h:AWc P N ro c (AEx.noGoto Q) fr σ):AWc P N ro (.scope c) Q fr σ:=by
 intro A s a r h1 h2 h3 h4;refine Dl (wpIn_mono (h A s a r h1 h2 h3 h4) ?_);rintro e a' w' ⟨ex,fr',s',rfl,hi,hg,hf,he,hq⟩;cases ex <;> cases e <;> first | (exact he.elim) | (exact hq.elim) | exact ⟨_,fr',s',rfl,hi,hg,hf,he,hq⟩
theorem AWc.frz {c:Code} {t b:Nat} {cs:List ag} {v:ag} (ht:fr.v.get t = .ptr b 0) (hb:σ.get b = .box cs) (hv:v = .agg cs ∨ cs = [v] ∧ v.gJ = true) (h:AWc P N ro c Q { fr with v:=(t, .pval v) :: fr.v } (σ.set b .dead)):AWc P N ro c Q fr σ:=by
 intro A s a r h1 h2 h3 h4;subst h1;have hrt:=h3.v t;rw [ht] at hrt;obtain ⟨s',e1,e2,i',g',r1,r2⟩:=h2.wg (af.get_some hb (by simp)) hrt;have hf':er s' N { fr with v:=(t, .pval v) :: fr.v } a:=by
  refine ⟨h3.size,fun x=>?_,h3.ds.keeps g'.keeps⟩;simp only [vI];split
  ·rename_i e; subst e;rcases hv with rfl | ⟨e,hs⟩
   ·exact r1
   ·exact r2 v e hs
  ·exact (h3.v x).keeps g'.keeps
 have:=h A s' a r e1 i' hf' (h4.keeps g'.keeps);rw [e2] at this;exact wpIn_mono this fun _ _ _ hp=>hp.from g'
theorem AWc.DL {c:Code} {b b' off o len n sz:Nat} {cs xs:List ag} (hb:σ.get b = .box cs) (hc:cs[off]? = some (.sref sz b' o len n)) (hb':σ.get b' = .arr sz xs) (hn:xs.length = n)
  (h:AWc P N ro c Q fr ((σ.set b' .dead).set b (.box (cs.set off (.slice sz ((xs.drop o).take len)))))):AWc P N ro c Q fr σ:=by
 intro A s a r h1 h2 h3 h4;subst h1;obtain ⟨s',e1,e2,i',g'⟩:=h2.Cm (af.get_some hb (by simp)) hc (af.get_some hb' (by simp)) hn;have:=h A s' a r e1 i' (h3.keeps g'.keeps) (h4.keeps g'.keeps);rw [e2] at this;exact wpIn_mono this fun _ _ _ hp=>hp.from g'
theorem AWc.UD {c:Code} {b b' off k sz:Nat} {cs xs:List ag} (hb:σ.get b = .box cs) (hc:cs[off]? = some (.oslice sz xs b' k))
  (h:AWc P N ro c Q fr (σ.set b (.box (cs.set off (.slice sz xs))))):AWc P N ro c Q fr σ:=by
 intro A s a r h1 h2 h3 h4;subst h1
 obtain ⟨s',e1,e2,i',g'⟩:=h2.wL (cs':=cs.set off (.slice sz xs)) (af.get_some hb (by simp)) (by simp) (fun vs _ hr _ j g1 g2=>by
  simp only [List.length_set] at g1;have hr:=hr j g1 g2;by_cases hj:off = j
  ·subst hj;have:cs[off] = .oslice sz xs b' k:=(List.getElem?_eq_some_iff.1 hc).2;rw [this] at hr;simp only [List.getElem_set_self];generalize vs[off] = c at hr ⊢
   cases hr with | oslice _ _ _ _ _ hs _=>exact hs
  ·simp only [List.getElem_set_ne hj]; exact hr)
 have:=h A s' a r e1 i' (h3.keeps g'.keeps) (h4.keeps g'.keeps);rw [e2] at this;exact wpIn_mono this fun _ _ _ hp=>hp.from g'
theorem AWc.Uw {c:Code} {b b' i off o len n esz sz:Nat} {xs ys cs:List ag} (hb:σ.get b = .arr esz xs) (hx:xs[i]? = some (.agg cs)) (hc:cs[off]? = some (.sref sz b' o len n)) (hb':σ.get b' = .arr sz ys) (hn:ys.length = n) (hne:b' ≠ b)
  (h:AWc P N ro c Q fr ((σ.set b' .dead).set b (.arr esz (xs.set i (.agg (cs.set off (.slice sz ((ys.drop o).take len)))))))):AWc P N ro c Q fr σ:=by
 intro A s a r h1 h2 h3 h4;subst h1;obtain ⟨s',e1,e2,i',g'⟩:=h2.A9 (af.get_some hb (by simp)) hx hc (af.get_some hb' (by simp)) hn hne;have:=h A s' a r e1 i' (h3.keeps g'.keeps) (h4.keeps g'.keeps);rw [e2] at this;exact wpIn_mono this fun _ _ _ hp=>hp.from g'
theorem aa : ∀ (ac : AC) {Q : AEx → Fr → af → Prop} {fr : Fr} {σ : af},vj P N ro ac Q fr σ → AW P N ro ac Q fr σ
 | .skip,Q,fr,σ,h=>fun c hc=>by cases c <;> simp [dR] at hc; exact AWc.skip h
 | .reg ops live,Q,fr,σ,h=>fun c hc=>by
  cases c with
  | region id os dr=>
   cases dr with
   | true=>simp [dR] at hc
   | false=>
    simp only [dR] at hc;intro A s a r h1 h2 h3 h4;subst h1;have:=zn (P:=P) (N:=N) (ops:=os) (ro:=r) (Q:=fun x fr' σ'=>match x with | .normal=>Q .normal (fr'.only live) σ' | x=>Q x fr' σ') (s0:=s) ops 0 s fr a (by simpa using hc) h2 (.refl s) h3 h;rw [Nat.sub_zero, ← List.range_eq_range'] at this;refine wpIn_mono (wpIn_region this) ?_;rintro e a' w' ⟨ex,fr',s',rfl,hi,hg,hf,he,hq⟩
    cases ex with
    | normal=>exact ⟨.normal,fr'.only live,s',rfl,hi,hg,hf.only live,he,hq⟩
    | _=>exact ⟨_,fr',s',rfl,hi,hg,hf,he,hq⟩
  | _=>simp [dR] at hc
 | .seq a b,Q,fr,σ,h=>fun c hc=>by
  cases c <;> simp [dR] at hc
  exact AWc.seq ((aa a h _ hc.1).mono fun x fr' σ' hq=>by
   cases x with
   | normal=>exact aa b hq _ hc.2
   | _=>exact hq)
 | .cond x a b,Q,fr,σ,h=>fun c hc=>by
  cases c <;> simp [dR] at hc;simp only [vj] at h
  cases hv:opv fr.v x with
  | bool t=>
   rw [hv] at h;exact AWc.cond (v:=opv fr.v x) (b:=t) (fun s a hf=>hf.opr hc.1.1 h.1) hv (fun e=>aa a (h.2.1 e) _ hc.1.2) (fun e=>aa b (h.2.2 e) _ hc.2)
  | _=>rw [hv] at h; exact h.elim
 | .block id a,Q,fr,σ,h=>fun c hc=>by
  cases c <;> simp [dR] at hc;obtain ⟨rfl,hc⟩:=hc;exact AWc.block (aa a h _ hc)
 | .loop live a,Q,fr,σ,h=>h
 | .exit id,Q,fr,σ,h=>fun c hc=>by cases c <;> simp [dR] at hc; subst hc; exact AWc.exit h
 | .ret,Q,fr,σ,h=>fun c hc=>by cases c <;> simp [dR] at hc; exact AWc.ret h
 | .scope a,Q,fr,σ,h=>h
 | .label l,Q,fr,σ,h=>fun c hc=>by cases c <;> simp [dR] at hc; exact AWc.label h
 | .dreg ops live bef,Q,fr,σ,h=>fun c hc=>by
  cases c with
  | region id os dr=>
   cases dr with
   | false=>simp [dR] at hc
   | true=>
    simp only [dR] at hc;have:=DN (id:=id) (ro:=ro) (Q:=fun x fr' σ'=>match x with | .normal=>Q .normal (fr'.only live) σ' | x=>Q x fr' σ') hc h;intro A s a r h1 h2 h3 h4;refine wpIn_mono (this A s a r h1 h2 h3 h4) ?_;rintro e a' w' ⟨ex,fr',s',rfl,hi,hg,hf,he,hq⟩
    cases ex with
    | normal=>exact ⟨.normal,fr'.only live,s',rfl,hi,hg,hf.only live,he,hq⟩
    | _=>exact ⟨_,fr',s',rfl,hi,hg,hf,he,hq⟩
  | _=>simp [dR] at hc
 | .jM f ps asg body,Q,fr,σ,h=>h
 | .frz t g a,Q,fr,σ,h=>fun c hc=>by
  simp only [dR] at hc;simp only [vj,DG] at h
  split at h
  ·rename_i b ht
   split at h
   ·rename_i cs hb
    split at h
    ·exact AWc.frz ht hb (.inl rfl) (aa a h c hc)
    ·exact AWc.frz ht hb (.inr ⟨rfl,h.1⟩) (aa a h.2 c hc)
    ·exact h.elim
   ·exact h.elim
  ·exact h.elim
 | .DL t off sz a,Q,fr,σ,h=>fun c hc=>by
  simp only [dR] at hc;simp only [vj,Ac] at h
  split at h
  ·split at h
   ·rename_i cs hb
    split at h
    ·rename_i sz' xs b' k he;obtain ⟨rfl,h⟩:=h;exact AWc.UD hb he (aa a h c hc)
    ·rename_i sz' b' o len n he;obtain ⟨rfl,h⟩:=h
     split at h
     ·rename_i sz'' xs hb';obtain ⟨rfl,hn,h⟩:=h;exact AWc.DL hb he hb' hn (aa a h c hc)
     ·exact h.elim
    ·exact h.elim
   ·exact h.elim
  ·split at h
   ·rename_i esz' xs hb
    split at h
    ·rename_i cs hx
     split at h
     ·rename_i sz' b' o len m he;obtain ⟨rfl,_,rfl,hne,h⟩:=h
      split at h
      ·rename_i sz'' ys hb';obtain ⟨rfl,hn,h⟩:=h;exact AWc.Uw hb hx he hb' hn hne (aa a h c hc)
      ·exact h.elim
     ·exact aa a h c hc
     ·exact h.elim
    ·exact h.elim
   ·exact h.elim
  ·exact h.elim
 | .qreg ops live bef st last,Q,fr,σ,h=>fun c hc=>by
  cases c with
  | region id os dr=>
   cases dr with
   | false=>simp [dR] at hc
   | true=>
    simp only [dR] at hc;have:=D5 (id:=id) (ro:=ro) (Q:=fun x fr' σ'=>match x with | .normal=>Q .normal (fr'.only live) σ' | x=>Q x fr' σ') hc h;intro A s a r h1 h2 h3 h4;refine wpIn_mono (this A s a r h1 h2 h3 h4) ?_;rintro e a' w' ⟨ex,fr',s',rfl,hi,hg,hf,he,hq⟩
    cases ex with
    | normal=>exact ⟨.normal,fr'.only live,s',rfl,hi,hg,hf.only live,he,hq⟩
    | _=>exact ⟨_,fr',s',rfl,hi,hg,hf,he,hq⟩
  | _=>simp [dR] at hc
 | .creg ops live bef st last,Q,fr,σ,h=>fun c hc=>by
  cases c with
  | region id os dr=>
   cases dr with
   | false=>simp [dR] at hc
   | true=>
    simp only [dR] at hc;have:=Em (id:=id) (ro:=ro) (Q:=fun x fr' σ'=>match x with | .normal=>Q .normal (fr'.only live) σ' | x=>Q x fr' σ') hc h;intro A s a r h1 h2 h3 h4;refine wpIn_mono (this A s a r h1 h2 h3 h4) ?_;rintro e a' w' ⟨ex,fr',s',rfl,hi,hg,hf,he,hq⟩
    cases ex with
    | normal=>exact ⟨.normal,fr'.only live,s',rfl,hi,hg,hf.only live,he,hq⟩
    | _=>exact ⟨_,fr',s',rfl,hi,hg,hf,he,hq⟩
  | _=>simp [dR] at hc
 | .dfr d g caps live,Q,fr,σ,h=>fun c hc=>by
  cases c with
  | region id os dr=>
   cases dr with
   | true=>simp [dR] at hc
   | false=>
    simp only [dR] at hc;intro A s a r h1 h2 h3 h4;subst h1
    cases hos:os.toList with
    | nil=>rw [hos] at hc; simp [xD] at hc
    | cons o1 l=>
     cases l with
     | nil=>rw [hos] at hc; simp [xD] at hc
     | cons o2 l=>
      cases l with
      | cons _ _=>rw [hos] at hc; simp [xD] at hc
      | nil=>
       rw [hos] at hc;have hos':os = #[o1,o2]:=by apply Array.ext'; simpa using hos
       subst hos';obtain ⟨d1,op1,ty1,pos1,af1,g1⟩:=o1;obtain ⟨d2,op2,ty2,pos2,af2,g2⟩:=o2;simp only [xD,Bool.and_eq_true,decide_eq_true_eq] at hc;obtain ⟨⟨⟨⟨⟨⟨c1,c2⟩,c3⟩,c4⟩,c5⟩,c6⟩,c7⟩:=hc;subst c1;have c3':g1 = none:=by simpa using c3
       have c5':d2 = none:=by simpa using c5
       have c6':g2 = none:=by simpa using c6
       subst c3' c5' c6'
       split at c4
       ·rename_i fn fi cs;simp only [Bool.and_eq_true] at c4;obtain ⟨⟨c4a,c4b⟩,c4⟩:=c4;have c4b':fi = #[]:=by simpa using c4b
        subst c4b'
        cases fn with
        | func g'=>
        simp only [beq_iff_eq] at c4a;subst c4a
        split at c7
        ·rename_i cl;obtain ⟨cal,cargs,ctys⟩:=cl;simp only [Bool.and_eq_true] at c7;obtain ⟨c7,c8⟩:=c7
         split at c7
         ·rename_i d';simp only [beq_iff_eq] at c7;subst c7;have c8':cargs = #[]:=by simpa using c8
          subst c8';obtain ⟨hro,hn,hq⟩:=h;have hag:=gG (h3.agree) c4;have hcap:∀ j (h1:j < (caps.map (opv fr.v)).length) (h2:j < (cs.map a.eval).size),Rv s (caps.map (opv fr.v))[j] (cs.map a.eval)[j]:=fun j h1 h2=>by
           have e:caps.map (opv fr.v) = caps.map (opn fr.v):=List.map_congr_left (fun x hx=>ke hn x hx);have:=hag.2 j (by simpa using h1) (by simpa using h2);simp only [e];simpa using this
          have hlen:(cs.map a.eval).size = (caps.map (opv fr.v)).length:=by have:=hag.1; simp at this ⊢; omega
          refine wpIn_region ?_;have hsz:#[({ dst:=some d,op:=Op.makeFunc (.func g) #[] cs,type:=ty1,pos:=pos1,after:=af1,guard:=none }:Oper),{ dst:=none,op:=Op.defer { callee:=.value (.tmp d),args:=#[],argTypes:=ctys },type:=ty2,pos:=pos2,after:=af2,guard:=none }].size = 2:=rfl;rw [hsz];simp only [List.range,List.range.loop];simp only [wpOpsIn,List.getElem?_toArray,List.getElem?_cons_zero,List.getElem?_cons_succ,Region.wanted];have hlt:d < a.tmps.size:=by rw [h3.size]; exact c2
          refine ⟨fun _ _=>trivial, ?_⟩;rw [Oper.semAt_eq _ _ _ (by simp)];show Oper.uponIn _ _ _ _ _ _ _ (.ok (.value (.func (.func g) (#[].map a.eval) (cs.map a.eval))) s.w);rw [Oper.uponIn_value];have hev:(a.put (some d) (.func (.func g) (#[].map a.eval) (cs.map a.eval))).eval (.tmp d) = .func (.func g) (#[].map a.eval) (cs.map a.eval):=by
           simp [Act.eval,Act.put,hlt]
          generalize ha1:a.put (some d) (.func (.func g) (#[].map a.eval) (cs.map a.eval)) = a1 at hev ⊢;rw [if_pos trivial];refine ⟨fun _ _=>trivial, ?_⟩;have hr0:r = none:=by rw [hro] at h4; exact h4
          subst hr0
          have hD:(Oper.semAt (Fro none).round a1.eval { dst:=none,op:=Op.defer { callee:=Callee.value (Operand.tmp d),args:=#[],argTypes:=ctys },type:=ty2,pos:=pos2,after:=af2,guard:=none }).run P s.w =
            .ok (.defer { target:=.fn (.func g) (cs.map a.eval),args:=(#[].map a.eval) ++ #[] }) s.w:=by
           show (Oper.semAt none _ _).run P s.w = _;rw [Oper.semAt_none];simp [execOp,resolve,hev,Deferred.ofValue]
          rw [hD,Oper.uponIn_defer];have f1:=h3.put (d:=some d) (d':=some d) (by simp [Af,c2]) (v:=.undef) (.undef (.func (.func g) (#[].map a.eval) (cs.map a.eval)));rw [ha1] at f1;refine ⟨.normal,Fr.only { v:=(d, .undef) :: fr.v,ds:=.fn (.func (.func g) [] (caps.map (opv fr.v))) [] :: fr.ds } live,s,rfl,h2, .refl s,er.only ?_ live,trivial,hq⟩;refine ⟨f1.size,f1.v,⟨.func (.func g) (#[].map a.eval) (cs.map a.eval), #[], .func _ _ _ _ _ (by simp) hlen (fun j h1=>by simp at h1) hcap,⟨rfl,fun j h1=>by simp at h1⟩,rfl⟩,f1.ds⟩
         ·cases c7
        ·cases c7
        | _=>cases c4a
       ·cases c4
  | _=>simp [dR] at hc
theorem AW.scope {a:AC} (h:AW P N ro a (AEx.noGoto Q) fr σ):AW P N ro (.scope a) Q fr σ:=fun c hc=>by
 cases c <;> simp [dR] at hc;exact AWc.scope (h _ hc)
theorem AW.loop {live:List Nat} {a:AC} {ι:Type} (I:ι → Fr → af → Prop) (m:ι → Nat) (i₀:ι) (h0:I i₀ (fr.only live) σ)
  (hr:∀ i fr σ,I i fr σ → AW P N ro a (AEx.then (fun fr' σ'=>∃ j,m j < m i ∧ I j (fr'.only live) σ') Q) fr σ):AW P N ro (.loop live a) Q fr σ:=fun c hc=>by
 cases c <;> simp [dR] at hc;rename_i c;have key:AWc P N ro (.loop c) Q (fr.only live) σ:=AWc.loop I m h0 fun i fr σ hI=>by
  intro A s ac r h1 h2 h3 h4;refine wpIn_mono (hr i fr σ hI c hc A s ac r h1 h2 h3 h4) ?_;rintro e a' w' ⟨ex,fr',s',rfl,hi,hg,hf,he,hq⟩
  cases ex with
  | normal=>
   obtain ⟨j,hlt,hj⟩:=hq;exact ⟨.normal,fr'.only live,s',rfl,hi,hg,hf.only live,he,j,hlt,hj⟩
  | _=>exact ⟨_,fr',s',rfl,hi,hg,hf,he,hq⟩
 intro A s ac r h1 h2 h3 h4;exact key A s ac r h1 h2 (h3.only live) h4
/-! ### A function -/
def lT (e:Env) (σ:af):List (Nat × Option (Option Nat)) → List ag
 | []=>[]
 | (t,none) :: r=>(e.get t).strip :: lT e σ r
 | (t,some k) :: r=>o8 k σ (e.get t).strip :: lT e σ r
def uR (e:Env) (σ:af):List (Nat × Option (Option Nat)) → Prop
 | []=>True
 | (t,none) :: r=>(e.get t).cond = true ∧ uR e σ r
 | (t,some k) :: r=>(e.get t).cond = true ∧ iC k σ (e.get t).strip ∧ (∃ b o,(e.get t).strip = .ptr b o) ∧ uR e σ r
def q9:List ag → ag
 | [v]=>v
 | l=>.tup l
def gQ (P:Program):List (Nat × Option (Option Nat)) → List ResultVar → Bool
 | [],[]=>true
 | (t,none) :: r, .tmp t' :: q=>t == t' && gQ P r q
 | (t,some k) :: r, .cell t' ty :: q=>t == t' && kOk P ty k && gQ P r q
 | _,_=>false
def fE:List ag → Nat → Env
 | [],_=>[]
 | v :: r,n=>(n,v) :: fE r (n + 1)
def kQ:List Bi → af → (af → Prop) → Prop
 | [],σ,K=>K σ
 | .coll b :: r,σ,K=>match σ.get b with
  | .dfr=>kQ r (σ.set b .dead) K
  | _=>False
 | .fn _ _ :: _,_,_=>False
def Cb (rs:List (Nat × Option (Option Nat))) (R:fq → af → Prop):AEx → Fr → af → Prop
 | .normal,fr,σ | .ret,fr,σ=>kQ fr.ds σ fun σ=>uR fr.v σ rs ∧ R (.ret (q9 (lT fr.v σ rs))) σ
 | .panic v,fr,σ=>kQ fr.ds σ fun σ=>R (.pan v) σ
 | _,_,_=>False
theorem mK:∀ (l:List ag) (n t:Nat),(fE l n).get t = if n ≤ t then l.getD (t - n) .undef else .undef
 | [],n,t=>by simp [fE,Env.get]
 | v :: l,n,t=>by
  simp only [fE,Env.get];by_cases h:n = t
  ·subst h; simp
  ·rw [if_neg h,mK l (n + 1) t];by_cases h2:n ≤ t
   ·rw [if_pos h2,if_pos (by omega),show t - n = (t - (n + 1)) + 1 by omega]; simp
   ·rw [if_neg h2,if_neg (by omega)]
def AO (tmps:Array Value):ResultVar → Sem Value
 | .tmp t=>pure (tmps.getD t Go.undef)
 | .cell q t=>do loadVar t (← asAddr (tmps.getD q Go.undef))
theorem wC (fn:Func) (tmps:Array Value):results fn tmps = (do
  let vs ← fn.results.mapM (AO tmps)
  pure (if h:vs.size = 1 then vs[0] else .tuple vs)):=by
 unfold results;congr 2
theorem mO {A:World} {s:St} {a:Act} (hi:Inv A s) (hf:er s N fr a):∀ {rs:List (Nat × Option (Option Nat))} {vs:List ResultVar},gQ P rs vs = true → uR fr.v s.h rs →
  ∃ cs:List Value,(vs.mapM (AO a.tmps)).run P s.w = .ok cs s.w ∧
   cs.length = (lT fr.v s.h rs).length ∧ ∀ j (h1:j < (lT fr.v s.h rs).length) (h2:j < cs.length),Rv s (lT fr.v s.h rs)[j] cs[j]
 | [],[],_,_=>⟨[],rfl,rfl,fun j h1 _=>by simp [lT] at h1⟩
 | (t,none) :: rs, .tmp t' :: vs,hc,hr=>by
  simp only [gQ,Bool.and_eq_true,beq_iff_eq] at hc;obtain ⟨rfl,hc⟩:=hc;obtain ⟨cs,e1,e2,e3⟩:=mO hi hf hc hr.2;have h0:=xB (hf.v t) hr.1;refine ⟨a.tmps.getD t Go.undef :: cs,by rw [List.mapM_cons]; simp [AO,e1],by simp [lT,e2],fun j h1 h2=>?_⟩
  cases j with
  | zero=>simpa [lT] using h0
  | succ j=>simpa [lT] using e3 j (by simpa [lT] using h1) (by simpa using h2)
 | (t,some k) :: rs, .cell t' ty :: vs,hc,hr=>by
  simp only [gQ,Bool.and_eq_true,beq_iff_eq] at hc;obtain ⟨⟨rfl,hk⟩,hc⟩:=hc;obtain ⟨g1,g2,⟨b,o,g3⟩,g4⟩:=hr;obtain ⟨cs,e1,e2,e3⟩:=mO hi hf hc g4;have h0:=xB (hf.v t) g1;obtain ⟨u,u1,u2⟩:=rG hi hk h0 g2;have hp:∃ ad,a.tmps.getD t Go.undef = .pointer (some ad):=by
   rw [g3] at h0;generalize a.tmps.getD t Go.undef = d at *;cases h0; exact ⟨_,rfl⟩
  obtain ⟨ad,had⟩:=hp;have u1':(loadVar ty ad).run P s.w = .ok u s.w:=by rw [had] at u1; simpa [Instr.loadAt,Instr.sureAddr] using u1
  refine ⟨u :: cs,by rw [List.mapM_cons]; simp only [AO,had]; simp [asAddr,u1',e1],by simp [lT,e2],fun j h1 h2=>?_⟩
  cases j with
  | zero=>simpa [lT] using u2
  | succ j=>simpa [lT] using e3 j (by simpa [lT] using h1) (by simpa using h2)
 | [],_ :: _,hc,_=>by simp [gQ] at hc
 | (_,none) :: _,[],hc,_=>by simp [gQ] at hc
 | (_,some _) :: _,[],hc,_=>by simp [gQ] at hc
 | (_,none) :: _, .cell _ _ :: _,hc,_=>by simp [gQ] at hc
 | (_,some _) :: _, .tmp _ :: _,hc,_=>by simp [gQ] at hc
theorem qm {A:World} {s:St} {a:Act} (hi:Inv A s) (hf:er s N fr a) {fn:Func} {rs:List (Nat × Option (Option Nat))} (hc:gQ P rs fn.results.toList = true) (hr:uR fr.v s.h rs) :
  ∃ c,(results fn a.tmps).run P s.w = .ok c s.w ∧ Rv s (q9 (lT fr.v s.h rs)) c:=by
 obtain ⟨cs,e1,e2,e3⟩:=mO hi hf hc hr;rw [wC,Array.mapM_eq_mapM_toList];simp only [Sem.run_bind,Sem.run_map,e1,Result.andThen_ok];generalize hl:lT fr.v s.h rs = l at *;by_cases h1:cs.length = 1
 ·match l,cs,h1 with
  | [v],[c],_=>
   refine ⟨c,by simp, ?_⟩;simpa [q9] using e3 0 (by simp) (by simp)
  | [],[c],_=>simp at e2
  | _ :: _ :: _,[c],_=>simp at e2
 ·refine ⟨.tuple cs.toArray,by simp [h1], ?_⟩;have:q9 l = .tup l:=by
   match l with
   | []=>rfl
   | [v]=>simp at e2; exact absurd e2 h1
   | _ :: _ :: _=>rfl
  rw [this];exact .tup _ _ (by simpa using e2) (fun j g1 g2=>by have:=e3 j g1 (by simpa using g2); simpa using this)
theorem jP {A:World} {fn:Func} {tmps:Array Value} {u:FrameMode} {R:Ending → World → Prop} {K:af → Prop} (hu:u ≠ .run):∀ {ds:List Bi} {dl:List Deferred} {s:St},Inv A s → jH s ds dl → kQ ds s.h K →
  (∀ s',Inv A s' → bV s s' → K s'.h → LeavesIn Fence.wide 0 P fn tmps R [] u s'.w) → LeavesInM Fence.wide 0 P fn tmps R dl u s.w
 | [],[],s,hi,_,h,hend=>hend s hi (.refl s) h
 | .coll b :: ds,d :: dl,s,hi,hd,h,hend=>by
  obtain ⟨⟨blk,e1,rfl⟩,hd2⟩:=hd;simp only [kQ] at h
  cases hb:s.h.get b with
  | dfr=>
   rw [hb] at h;simp only at h;have hbs:=af.get_some hb (by simp);obtain ⟨blk',e2,hB,hh,hnS⟩:=hi.obj b _ hbs;have:blk' = blk:=by rw [e1] at e2; simpa using e2.symm
   subst this;have hown:dA s b .dfr blk':=e1;have hblk:blk' < s.w.heap.size:=(Array.getElem?_eq_some_iff.1 hh).1
   let s1:St:={ h:=s.h.set b .dead,lam:=s.lam,S:=s.S,w:=s.w.putObj blk' (.deferred none) }
   have hk:bq s s1:=⟨fun _ _ _ h=>h,fun _ _ h=>h,fun g o hs=>World.cell?_of_block (a:=⟨g,o,none⟩) (World.putObj_heap_other (fun e=>hnS o (e ▸ hs)))⟩;have hgo:=hi.change (s':=s1) (List.getElem?_eq_some_iff.1 hbs).1 rfl hk (hi.below.trans ⟨rfl,rfl,rfl,by simp [s1],fun g hg=>World.putObj_heap_other (by omega)⟩) (by simp [s1]) (fun _ _ _=>rfl)
    (fun g _ hno=>World.putObj_heap_other (fun e=>hno (e ▸ ⟨_,hbs,hown⟩))) trivial (fun _ h=>h.elim) (fun _ _ h=>.inl h) (fun g x h=>by have:=hi.scell _ _ h; simp [s1]; omega)
   exact ⟨hu, .inl ⟨blk',s1.w,rfl,run_takeDeferred hh,jP hu hgo.1 (hd2.keeps hgo.2.keeps) h (fun s' i' g' k'=>hend s' i' (hgo.2.trans g') k')⟩⟩
  | _=>rw [hb] at h; exact h.elim
 | .fn _ _ :: _,_,_,_,_,h,_=>h.elim
 | [],_ :: _,_,_,hd,_,_=>hd.elim
 | .coll _ :: _,[],_,_,hd,_,_=>hd.elim
theorem Spec.Kk {f:FuncId} {fn:Func} {c:Code} {args:List ag} {rs:List (Nat × Option (Option Nat))} {R:fq → af → Prop} (hfn:P.funcs[f]? = some fn) (hb:fn.body = some c)
  (hn:fn.ntmps = N) (hrs:gQ P rs fn.results.toList = true) (ha:args.length ≤ N)
  (h:AWc P N none c (Cb rs R) { v:=fE args 0,ds:=[] } σ):Spec P f args σ R:=by
 intro A s cargs h1 h2 h3;refine callsIn_wide.1 (callsIn_of_wp_marks (n:=0) (F:=Fence.wide) hfn hb trivial ?_);have hfr:er s N { v:=fE args 0,ds:=[] } { tmps:=cargs ++ Array.replicate (fn.ntmps - cargs.size) Go.undef,defers:=[] }:=by
  have:=h3.1;refine ⟨by simp; omega,fun t=>?_,trivial⟩;rw [mK];simp only [Nat.zero_le,if_true,Nat.sub_zero];by_cases ht:t < args.length
  ·have h4:t < cargs.size:=by omega
   have:=h3.2 t ht h4;simpa [List.getD,List.getElem?_eq_getElem ht,Array.getD_eq_getD_getElem?,Array.getElem?_append,h4] using this
  ·have:args.getD t .undef = .undef:=by simp [List.getD,List.getElem?_eq_none (by omega:args.length ≤ t)]
   rw [this]; exact .undef _
 refine wpIn_mono (h A s _ none h1 h2 hfr rfl) ?_;rintro e a' w' ⟨ex,fr',s',rfl,hi,hg,hf,he,hq⟩;have hret:kQ fr'.ds s'.h (fun σ=>uR fr'.v σ rs ∧ R (.ret (q9 (lT fr'.v σ rs))) σ) → LeavesInM Fence.wide 0 P fn a'.tmps (di A s R) a'.defers .returning s'.w:=fun hq=>
  jP (by simp) hi hf.ds hq fun s2 i2 g2 hk=>by
   obtain ⟨v,e1,e2⟩:=qm i2 (hf.keeps g2.keeps) hrs hk.1;exact ⟨v,e1, .ret _,s2,rfl,i2,hg.trans g2,e2,hk.2⟩
 cases ex <;> cases e <;> first | (exact he.elim) | (exact hq.elim) | skip
 ·exact hret hq
 ·exact hret hq
 ·obtain ⟨c,rfl,hrc⟩:=he;exact jP (by simp) hi hf.ds hq fun s2 i2 g2 hk=>⟨.pan _,s2,rfl,i2,hg.trans g2,⟨c,rfl,hrc.keeps g2.keeps⟩,hk⟩
theorem Spec.KK {f:FuncId} {fn:Func} {c:Code} {ac:AC} {args:List ag} {rs:List (Nat × Option (Option Nat))} {R:fq → af → Prop} (hfn:P.funcs[f]? = some fn) (hb:fn.body = some c)
  (hn:fn.ntmps = N) (hc:dR P N ac c = true) (hrs:gQ P rs fn.results.toList = true) (ha:args.length ≤ N)
  (h:AW P N none ac (Cb rs R) { v:=fE args 0,ds:=[] } σ):Spec P f args σ R:=Spec.Kk hfn hb hn hrs ha (h c hc)
end
end Go.AM
