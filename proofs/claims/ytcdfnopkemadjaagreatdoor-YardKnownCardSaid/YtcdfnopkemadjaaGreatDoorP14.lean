/- Abstract code: when it stands for the program's code, and what it does; a function's contract out of its body's walk. A range over a function: the loop's record, a round, the statement. -/
import Derived.Test.YtcdfnopkemadjaaGreatDoorP13
import Derived.RangeFuncRecord
namespace Go.AM
open Go.RowKit
inductive AC where
 | skip
 | reg (ops:List au) (live:List Nat)
 | seq (a b:AC)
 | cond (x:ay) (a b:AC)
 | block (id:Nat) (a:AC)
 | loop (live:List Nat) (a:AC)
 | exit (id:Nat)
 | ret
 | scope (a:AC)
 | label (l:Nat)
 | dreg (ops:List au) (live:List Nat) (bef:List (List Nat))
 | cg (f:ay) (ps:List Nat) (asg body:AC)
 | frz (t:Nat) (g:Bool) (a:AC)
 | gG (t off sz:Nat) (a:AC)
 | dfr (d g:Nat) (caps:List ay) (live:List Nat)
 | qreg (ops:List au) (live:List Nat) (bef:List (List Nat)) (st:List (List Nat × Nat)) (last:List Nat)
 | creg (ops:List au) (live:List Nat) (bef:List (List Nat)) (st:List (List Nat × Nat)) (last:List Nat)
 | oreg (ops:List au) (live:List Nat) (i j:Nat) (a b:Ord)
 deriving Inhabited
def kQ (N d g:Nat) (caps:List ay):List Oper → Bool
 | [o1,o2]=>decide (o1.dst = some d) && decide (d < N) && o1.guard.isNone && (match o1.op with
   | .makeFunc fn fi cs=>(match fn with
    | .func g'=>g == g'
    | _=>false) && fi.isEmpty && dh caps cs.toList
   | _=>false) && o2.dst.isNone && o2.guard.isNone && (match o2.op with
   | .defer c=>(match c.callee with
    | .value (.tmp d')=>d == d'
    | _=>false) && c.args.isEmpty
   | _=>false)
 | _=>false
def bd (P:Program) (N:Nat):AC → Code → Bool
 | .skip, .skip=>true
 | .reg ops _, .region _ os false=>cz P N os ops os.toList
 | .seq a b, .seq x y=>bd P N a x && bd P N b y
 | .cond o a b, .cond o' x y=>aD o o' && bd P N a x && bd P N b y
 | .block i a, .block j x=>i == j && bd P N a x
 | .loop _ a, .loop x=>bd P N a x
 | .exit i, .exit j=>i == j
 | .ret, .ret=>true
 | .scope a, .scope x=>bd P N a x
 | .label i, .label j=>i == j
 | .dreg ops _ bef, .region _ os true=>xK P N os ops bef
 | .frz _ _ a,c=>bd P N a c
 | .gG _ _ _ a,c=>bd P N a c
 | .dfr d g caps _, .region _ os false=>kQ N d g caps os.toList
 | .qreg ops _ bef st last, .region _ os true=>Lh P N os ops bef st last
 | .creg ops _ bef st last, .region _ os true=>Ah P N os ops bef st last
 | .oreg ops _ i j a b, .region _ os true=>Na P N os ops i j a b
 | .cg f ps asg body, .rangeFunc g ps' asg' body'=>aD f g && decide (ps = ps'.toList) && ps.all (fun p=>decide (p < N)) && bd P N asg asg' && bd P N body body'
 | _,_=>false
def AW (P:Program) (N:Nat) (ro:Option Nat) (ac:AC) (Q:AEx → Fr → ab → Prop) (fr:Fr) (σ:ab):Prop:=
 ∀ c,bd P N ac c = true → AWc P N ro c Q fr σ
def AWK (P:Program) (N:Nat) (ro:Option Nat) (ac:AC) [Q:Cont (AEx → Fr → ab → Prop)] (fr:Fr) (σ:ab):Prop:=AW P N ro ac Q.run fr σ
def Fr.only (fr:Fr) (l:List Nat):Fr:={ fr with v:=fr.v.only l }
def qn (t:Nat) (g:Bool) (fr:Fr) (σ:ab) (K:aa → ab → Prop):Prop:=
 match fr.v.get t with
 | .ptr b 0=>match σ.get b with
  | .box cs=>match g,cs with
   | true,cs=>K (.pval (.agg cs)) (σ.set b .dead)
   | false,[v]=>v.cP = true ∧ K (.pval v) (σ.set b .dead)
   | _,_=>False
  | _=>False
 | _=>False
def nW (t off sz:Nat) (fr:Fr) (σ:ab) (K:ab → Prop):Prop:=
 match fr.v.get t with
 | .ptr b 0=>match σ.get b with
  | .box cs=>match cs[off]? with
   | some (.oslice sz' xs _ _)=>sz' = sz ∧ K (σ.set b (.box (cs.set off (.slice sz xs))))
   | some (.sref sz' b' o len n)=>sz' = sz ∧ match σ.get b' with
    | .arr sz'' xs=>sz'' = sz ∧ xs.length = n ∧ K ((σ.set b' .dead).set b (.box (cs.set off (.slice sz ((xs.drop o).take len)))))
    | _=>False
   | _=>False
  | _=>False
 | .eptr esz b i 0 n=>match σ.get b with
  | .arr esz' xs=>match xs[i]? with
   | some (.agg cs)=>match cs[off]? with
    | some (.sref sz' b' o len m)=>esz' = esz ∧ xs.length = n ∧ sz' = sz ∧ b' ≠ b ∧ match σ.get b' with
     | .arr sz'' ys=>sz'' = sz ∧ ys.length = m ∧ K ((σ.set b' .dead).set b (.arr esz (xs.set i (.agg (cs.set off (.slice sz ((ys.drop o).take len)))))))
     | _=>False
    | some (.slice _ _)=>K σ
    | _=>False
   | _=>False
  | _=>False
 | _=>False
def kr (P:Program) (N:Nat) (ro:Option Nat):AC → (AEx → Fr → ab → Prop) → Fr → ab → Prop
 | .skip,Q,fr,σ=>Q .normal fr σ
 | .reg ops live,Q,fr,σ=>er P ops fr σ (fun fr' σ'=>Q .normal (fr'.only live) σ') (fun v fr' σ'=>Q (.panic v) fr' σ')
 | .seq a b,Q,fr,σ=>kr P N ro a (AEx.then (kr P N ro b Q) Q) fr σ
 | .cond x a b,Q,fr,σ=>match opv fr.v x with
  | .bool t=>opg fr.v x = true ∧ (t = true → kr P N ro a Q fr σ) ∧ (t = false → kr P N ro b Q fr σ)
  | _=>False
 | .block id a,Q,fr,σ=>kr P N ro a (AEx.inBlock id Q) fr σ
 | .loop live a,Q,fr,σ=>@AWK P N ro (.loop live a) ⟨Q⟩ fr σ
 | .exit id,Q,fr,σ=>Q (.exit id) fr σ
 | .ret,Q,fr,σ=>Q .ret fr σ
 | .scope a,Q,fr,σ=>@AWK P N ro (.scope a) ⟨Q⟩ fr σ
 | .label _,Q,fr,σ=>Q .normal fr σ
 | .dreg ops live bef,Q,fr,σ=>dm P ops fr.v σ [] fun e σ' es=>eA bef [] es.reverse 0 = true ∧ Q .normal (Fr.only { fr with v:=e } live) σ'
 | .cg f ps asg body,Q,fr,σ=>@AWK P N ro (.cg f ps asg body) ⟨Q⟩ fr σ
 | .frz t g a,Q,fr,σ=>qn t g fr σ fun v σ'=>kr P N ro a Q { fr with v:=(t,v) :: fr.v } σ'
 | .gG t off sz a,Q,fr,σ=>nW t off sz fr σ fun σ'=>kr P N ro a Q fr σ'
 | .qreg ops live bef st last,Q,fr,σ=>jF P ops bef last st [] [] fr.v σ fun e σ'=>Q .normal (Fr.only { fr with v:=e } live) σ'
 | .creg ops live bef st last,Q,fr,σ=>gz P ops bef last st [] [] fr.v σ (fun e σ'=>Q .normal (Fr.only { fr with v:=e } live) σ') (fun v σ'=>Q (.panic v) { fr with v:=de ops fr.v } σ')
 | .oreg ops live i j a b,Q,fr,σ=>Cm P ops a b fr.v σ (fun e σ'=>Q .normal (Fr.only { fr with v:=e } live) σ') (fun v σ'=>Q (.panic v) { fr with v:=de ops fr.v } σ')
 | .dfr d g caps live,Q,fr,σ=>ro = none ∧ bG fr.v caps ∧ Q .normal (Fr.only { v:=(d, .undef) :: fr.v,ds:=.fn (.func (.func g) [] (caps.map (opv fr.v))) [] :: fr.ds } live) σ
section
variable {P:Program} {N:Nat} {ro:Option Nat} {Q Q':AEx → Fr → ab → Prop} {fr:Fr} {σ:ab}
theorem pf:∀ (l:List Nat) (e:Env) (t:Nat),(e.only l).get t = if t ∈ l then e.get t else .undef
 | [],_,_=>rfl
 | n :: l,e,t=>by
  simp only [Env.only,Env.get,List.mem_cons];by_cases h:n = t
  ·subst h; simp
  ·rw [if_neg h,pf l e t];by_cases h2:t ∈ l
   ·rw [if_pos h2,if_pos (.inr h2)]
   ·rw [if_neg h2,if_neg]; rintro (h3 | h3)
    ·exact h h3.symm
    ·exact h2 h3
theorem bK.only {s:St} {a:Act} (h:bK s N fr a) (l:List Nat):bK s N (fr.only l) a:=
 ⟨h.size,fun t=>by
  simp only [Fr.only,pf];split
  ·exact h.v t
  ·exact .undef _,h.ds⟩
theorem AW.mono {ac:AC} (h:AW P N ro ac Q fr σ) (hq:∀ x fr σ,Q x fr σ → Q' x fr σ):AW P N ro ac Q' fr σ:=fun c hc=>(h c hc).mono hq
theorem qp {F:Fence} {n:Nat} {a:Act} {w:World} {c:Code} {R:Exit → Act → World → Prop} (h:c.wpIn F n P (Exit.noGoto R) a w):(Code.scope c).wpIn F n P R a w:=by
 intro b k cs hro hb hr;have st:step P (lone (b.atR a (.code (.scope c) :: k)) cs w) = .next (lone (b.atR a (.code c :: .inScope c :: k)) cs w):=step_lone_go (by simp [stepG,stepG.exec,Frame.atR]);have h0:(lone (b.atR a (.code (.scope c) :: k)) cs w).fenced P F:=fenced_calm hb hr rfl;obtain ⟨e,a₁,w₁,hq,harr⟩:=h b (.inScope c :: k) cs hro hb hr
 cases e with
 | normal=>
  have st2:step P (lone (b.atR a₁ (.inScope c :: k)) cs w₁) = .next (lone (b.atR a₁ k) cs w₁):=step_lone_go (by simp [stepG,stepG.exec,Frame.atR]);exact ⟨.normal,a₁,w₁,hq, .head h0 st (StepsIn.trans harr (.one (fenced_calm hb hr rfl) st2))⟩
 | exit id=>
  have hx:exitTo id (.inScope c :: k) = exitTo id k:=by simp [exitTo]
  exact ⟨.exit id,a₁,w₁,hq,fun k' hk=>.head h0 st (harr.1 k' (by rw [hx]; exact hk)),fun hr' hk=>let ⟨k₁,h1,h2⟩:=harr.2 hr' (by rw [hx]; exact hk); ⟨k₁,h1, .head h0 st h2⟩⟩
 | goto l=>exact hq.elim
 | ret=>exact ⟨_,a₁,w₁,hq, .of_steps (.one h0 st) harr⟩
 | panic ch=>exact ⟨_,a₁,w₁,hq, .of_steps (.one h0 st) harr⟩
 | outgrown=>exact ⟨_,a₁,w₁,hq, .of_steps (.one h0 st) harr⟩
def AEx.noGoto (Q:AEx → Fr → ab → Prop):AEx → Fr → ab → Prop
 | .goto _,_,_=>False
 | x,fr,σ=>Q x fr σ
theorem AWc.scope {c:Code} (h:AWc P N ro c (AEx.noGoto Q) fr σ):AWc P N ro (.scope c) Q fr σ:=by
 intro A s a r h1 h2 h3 h4;refine qp (wpIn_mono (h A s a r h1 h2 h3 h4) ?_);rintro e a' w' ⟨ex,fr',s',rfl,hi,hg,hf,he,hq⟩;cases ex <;> cases e <;> first | (exact he.elim) | (exact hq.elim) | exact ⟨_,fr',s',rfl,hi,hg,hf,he,hq⟩
theorem AWc.frz {c:Code} {t b:Nat} {cs:List aa} {v:aa} (ht:fr.v.get t = .ptr b 0) (hb:σ.get b = .box cs) (hv:v = .agg cs ∨ cs = [v] ∧ v.cP = true) (h:AWc P N ro c Q { fr with v:=(t, .pval v) :: fr.v } (σ.set b .dead)):AWc P N ro c Q fr σ:=by
 intro A s a r h1 h2 h3 h4;subst h1;have hrt:=h3.v t;rw [ht] at hrt;obtain ⟨s',e1,e2,i',g',r1,r2⟩:=h2.lb (ab.get_some hb (by simp)) hrt;have hf':bK s' N { fr with v:=(t, .pval v) :: fr.v } a:=by
  refine ⟨h3.size,fun x=>?_,h3.ds.keeps g'.keeps⟩;simp only [kx];split
  ·rename_i e; subst e;rcases hv with rfl | ⟨e,hs⟩
   ·exact r1
   ·exact r2 v e hs
  ·exact (h3.v x).keeps g'.keeps
 have:=h A s' a r e1 i' hf' (h4.keeps g'.keeps);rw [e2] at this;exact wpIn_mono this fun _ _ _ hp=>hp.from g'
theorem AWc.gG {c:Code} {b b' off o len n sz:Nat} {cs xs:List aa} (hb:σ.get b = .box cs) (hc:cs[off]? = some (.sref sz b' o len n)) (hb':σ.get b' = .arr sz xs) (hn:xs.length = n)
  (h:AWc P N ro c Q fr ((σ.set b' .dead).set b (.box (cs.set off (.slice sz ((xs.drop o).take len)))))):AWc P N ro c Q fr σ:=by
 intro A s a r h1 h2 h3 h4;subst h1;obtain ⟨s',e1,e2,i',g'⟩:=h2.pD (ab.get_some hb (by simp)) hc (ab.get_some hb' (by simp)) hn;have:=h A s' a r e1 i' (h3.keeps g'.keeps) (h4.keeps g'.keeps);rw [e2] at this;exact wpIn_mono this fun _ _ _ hp=>hp.from g'
theorem AWc.X4 {c:Code} {b b' off k sz:Nat} {cs xs:List aa} (hb:σ.get b = .box cs) (hc:cs[off]? = some (.oslice sz xs b' k))
  (h:AWc P N ro c Q fr (σ.set b (.box (cs.set off (.slice sz xs))))):AWc P N ro c Q fr σ:=by
 intro A s a r h1 h2 h3 h4;subst h1
 obtain ⟨s',e1,e2,i',g'⟩:=h2.lu (cs':=cs.set off (.slice sz xs)) (ab.get_some hb (by simp)) (by simp) (fun vs _ hr _ j g1 g2=>by
  simp only [List.length_set] at g1;have hr:=hr j g1 g2;by_cases hj:off = j
  ·subst hj;have:cs[off] = .oslice sz xs b' k:=(List.getElem?_eq_some_iff.1 hc).2;rw [this] at hr;simp only [List.getElem_set_self];generalize vs[off] = c at hr ⊢
   cases hr with | oslice _ _ _ _ _ hs _=>exact hs
  ·simp only [List.getElem_set_ne hj]; exact hr)
 have:=h A s' a r e1 i' (h3.keeps g'.keeps) (h4.keeps g'.keeps);rw [e2] at this;exact wpIn_mono this fun _ _ _ hp=>hp.from g'
theorem AWc.agO {c:Code} {b b' i off o len n esz sz:Nat} {xs ys cs:List aa} (hb:σ.get b = .arr esz xs) (hx:xs[i]? = some (.agg cs)) (hc:cs[off]? = some (.sref sz b' o len n)) (hb':σ.get b' = .arr sz ys) (hn:ys.length = n) (hne:b' ≠ b)
  (h:AWc P N ro c Q fr ((σ.set b' .dead).set b (.arr esz (xs.set i (.agg (cs.set off (.slice sz ((ys.drop o).take len)))))))):AWc P N ro c Q fr σ:=by
 intro A s a r h1 h2 h3 h4;subst h1;obtain ⟨s',e1,e2,i',g'⟩:=h2.pg (ab.get_some hb (by simp)) hx hc (ab.get_some hb' (by simp)) hn hne;have:=h A s' a r e1 i' (h3.keeps g'.keeps) (h4.keeps g'.keeps);rw [e2] at this;exact wpIn_mono this fun _ _ _ hp=>hp.from g'
theorem aE : ∀ (ac : AC) {Q : AEx → Fr → ab → Prop} {fr : Fr} {σ : ab},kr P N ro ac Q fr σ → AW P N ro ac Q fr σ
 | .skip,Q,fr,σ,h=>fun c hc=>by cases c <;> simp [bd] at hc; exact AWc.skip h
 | .reg ops live,Q,fr,σ,h=>fun c hc=>by
  cases c with
  | region id os dr=>
   cases dr with
   | true=>simp [bd] at hc
   | false=>
    simp only [bd] at hc;intro A s a r h1 h2 h3 h4;subst h1;have:=mS (P:=P) (N:=N) (ops:=os) (ro:=r) (Q:=fun x fr' σ'=>match x with | .normal=>Q .normal (fr'.only live) σ' | x=>Q x fr' σ') (s0:=s) ops 0 s fr a (by simpa using hc) h2 (.refl s) h3 h;rw [Nat.sub_zero, ← List.range_eq_range'] at this;refine wpIn_mono (wpIn_region this) ?_;rintro e a' w' ⟨ex,fr',s',rfl,hi,hg,hf,he,hq⟩
    cases ex with
    | normal=>exact ⟨.normal,fr'.only live,s',rfl,hi,hg,hf.only live,he,hq⟩
    | _=>exact ⟨_,fr',s',rfl,hi,hg,hf,he,hq⟩
  | _=>simp [bd] at hc
 | .seq a b,Q,fr,σ,h=>fun c hc=>by
  cases c <;> simp [bd] at hc
  exact AWc.seq ((aE a h _ hc.1).mono fun x fr' σ' hq=>by
   cases x with
   | normal=>exact aE b hq _ hc.2
   | _=>exact hq)
 | .cond x a b,Q,fr,σ,h=>fun c hc=>by
  cases c <;> simp [bd] at hc;simp only [kr] at h
  cases hv:opv fr.v x with
  | bool t=>
   rw [hv] at h;exact AWc.cond (v:=opv fr.v x) (b:=t) (fun s a hf=>hf.opr hc.1.1 h.1) hv (fun e=>aE a (h.2.1 e) _ hc.1.2) (fun e=>aE b (h.2.2 e) _ hc.2)
  | _=>rw [hv] at h; exact h.elim
 | .block id a,Q,fr,σ,h=>fun c hc=>by
  cases c <;> simp [bd] at hc;obtain ⟨rfl,hc⟩:=hc;exact AWc.block (aE a h _ hc)
 | .loop live a,Q,fr,σ,h=>h
 | .exit id,Q,fr,σ,h=>fun c hc=>by cases c <;> simp [bd] at hc; subst hc; exact AWc.exit h
 | .ret,Q,fr,σ,h=>fun c hc=>by cases c <;> simp [bd] at hc; exact AWc.ret h
 | .scope a,Q,fr,σ,h=>h
 | .label l,Q,fr,σ,h=>fun c hc=>by cases c <;> simp [bd] at hc; exact AWc.label h
 | .dreg ops live bef,Q,fr,σ,h=>fun c hc=>by
  cases c with
  | region id os dr=>
   cases dr with
   | false=>simp [bd] at hc
   | true=>
    simp only [bd] at hc;have:=qS (id:=id) (ro:=ro) (Q:=fun x fr' σ'=>match x with | .normal=>Q .normal (fr'.only live) σ' | x=>Q x fr' σ') hc h;intro A s a r h1 h2 h3 h4;refine wpIn_mono (this A s a r h1 h2 h3 h4) ?_;rintro e a' w' ⟨ex,fr',s',rfl,hi,hg,hf,he,hq⟩
    cases ex with
    | normal=>exact ⟨.normal,fr'.only live,s',rfl,hi,hg,hf.only live,he,hq⟩
    | _=>exact ⟨_,fr',s',rfl,hi,hg,hf,he,hq⟩
  | _=>simp [bd] at hc
 | .cg f ps asg body,Q,fr,σ,h=>h
 | .frz t g a,Q,fr,σ,h=>fun c hc=>by
  simp only [bd] at hc;simp only [kr,qn] at h
  split at h
  ·rename_i b ht
   split at h
   ·rename_i cs hb
    split at h
    ·exact AWc.frz ht hb (.inl rfl) (aE a h c hc)
    ·exact AWc.frz ht hb (.inr ⟨rfl,h.1⟩) (aE a h.2 c hc)
    ·exact h.elim
   ·exact h.elim
  ·exact h.elim
 | .gG t off sz a,Q,fr,σ,h=>fun c hc=>by
  simp only [bd] at hc;simp only [kr,nW] at h
  split at h
  ·split at h
   ·rename_i cs hb
    split at h
    ·rename_i sz' xs b' k he;obtain ⟨rfl,h⟩:=h;exact AWc.X4 hb he (aE a h c hc)
    ·rename_i sz' b' o len n he;obtain ⟨rfl,h⟩:=h
     split at h
     ·rename_i sz'' xs hb';obtain ⟨rfl,hn,h⟩:=h;exact AWc.gG hb he hb' hn (aE a h c hc)
     ·exact h.elim
    ·exact h.elim
   ·exact h.elim
  ·split at h
   ·rename_i esz' xs hb
    split at h
    ·rename_i cs hx
     split at h
     ·rename_i sz' b' o len m he;obtain ⟨rfl,_,rfl,hne,h⟩:=h
      split at h
      ·rename_i sz'' ys hb';obtain ⟨rfl,hn,h⟩:=h;exact AWc.agO hb hx he hb' hn hne (aE a h c hc)
      ·exact h.elim
     ·exact aE a h c hc
     ·exact h.elim
    ·exact h.elim
   ·exact h.elim
  ·exact h.elim
 | .qreg ops live bef st last,Q,fr,σ,h=>fun c hc=>by
  cases c with
  | region id os dr=>
   cases dr with
   | false=>simp [bd] at hc
   | true=>
    simp only [bd] at hc;have:=rB (id:=id) (ro:=ro) (Q:=fun x fr' σ'=>match x with | .normal=>Q .normal (fr'.only live) σ' | x=>Q x fr' σ') hc h;intro A s a r h1 h2 h3 h4;refine wpIn_mono (this A s a r h1 h2 h3 h4) ?_;rintro e a' w' ⟨ex,fr',s',rfl,hi,hg,hf,he,hq⟩
    cases ex with
    | normal=>exact ⟨.normal,fr'.only live,s',rfl,hi,hg,hf.only live,he,hq⟩
    | _=>exact ⟨_,fr',s',rfl,hi,hg,hf,he,hq⟩
  | _=>simp [bd] at hc
 | .creg ops live bef st last,Q,fr,σ,h=>fun c hc=>by
  cases c with
  | region id os dr=>
   cases dr with
   | false=>simp [bd] at hc
   | true=>
    simp only [bd] at hc;have:=qG (id:=id) (ro:=ro) (Q:=fun x fr' σ'=>match x with | .normal=>Q .normal (fr'.only live) σ' | x=>Q x fr' σ') hc h;intro A s a r h1 h2 h3 h4;refine wpIn_mono (this A s a r h1 h2 h3 h4) ?_;rintro e a' w' ⟨ex,fr',s',rfl,hi,hg,hf,he,hq⟩
    cases ex with
    | normal=>exact ⟨.normal,fr'.only live,s',rfl,hi,hg,hf.only live,he,hq⟩
    | _=>exact ⟨_,fr',s',rfl,hi,hg,hf,he,hq⟩
  | _=>simp [bd] at hc
 | .oreg ops live i j a b,Q,fr,σ,h=>fun c hc=>by
  cases c with
  | region id os dr=>
   cases dr with
   | false=>simp [bd] at hc
   | true=>
    simp only [bd] at hc;have:=re (id:=id) (ro:=ro) (Q:=fun x fr' σ'=>match x with | .normal=>Q .normal (fr'.only live) σ' | x=>Q x fr' σ') hc h;intro A s a r h1 h2 h3 h4;refine wpIn_mono (this A s a r h1 h2 h3 h4) ?_;rintro e a' w' ⟨ex,fr',s',rfl,hi,hg,hf,he,hq⟩
    cases ex with
    | normal=>exact ⟨.normal,fr'.only live,s',rfl,hi,hg,hf.only live,he,hq⟩
    | _=>exact ⟨_,fr',s',rfl,hi,hg,hf,he,hq⟩
  | _=>simp [bd] at hc
 | .dfr d g caps live,Q,fr,σ,h=>fun c hc=>by
  cases c with
  | region id os dr=>
   cases dr with
   | true=>simp [bd] at hc
   | false=>
    simp only [bd] at hc;intro A s a r h1 h2 h3 h4;subst h1
    cases hos:os.toList with
    | nil=>rw [hos] at hc; simp [kQ] at hc
    | cons o1 l=>
     cases l with
     | nil=>rw [hos] at hc; simp [kQ] at hc
     | cons o2 l=>
      cases l with
      | cons _ _=>rw [hos] at hc; simp [kQ] at hc
      | nil=>
       rw [hos] at hc;have hos':os = #[o1,o2]:=by apply Array.ext'; simpa using hos
       subst hos';obtain ⟨d1,op1,ty1,pos1,af1,g1⟩:=o1;obtain ⟨d2,op2,ty2,pos2,af2,g2⟩:=o2;simp only [kQ,Bool.and_eq_true,decide_eq_true_eq] at hc;obtain ⟨⟨⟨⟨⟨⟨c1,c2⟩,c3⟩,c4⟩,c5⟩,c6⟩,c7⟩:=hc;subst c1;have c3':g1 = none:=by simpa using c3
       have c5':d2 = none:=by simpa using c5
       have c6':g2 = none:=by simpa using c6
       subst c3' c5' c6'
       split at c4
       ·rename_i fn fi cs;simp only [Bool.and_eq_true] at c4;obtain ⟨⟨c4a,c4b⟩,c4⟩:=c4;have c4b':fi = #[]:=by simpa using c4b
        subst c4b'
        cases fn with
        | func g'=>
        simp only [beq_iff_eq] at c4a;subst c4a
        split at c7
        ·rename_i cl;obtain ⟨cal,cargs,ctys⟩:=cl;simp only [Bool.and_eq_true] at c7;obtain ⟨c7,c8⟩:=c7
         split at c7
         ·rename_i d';simp only [beq_iff_eq] at c7;subst c7;have c8':cargs = #[]:=by simpa using c8
          subst c8';obtain ⟨hro,hn,hq⟩:=h;have hag:=dC (h3.agree) c4;have hcap:∀ j (h1:j < (caps.map (opv fr.v)).length) (h2:j < (cs.map a.eval).size),Rv s (caps.map (opv fr.v))[j] (cs.map a.eval)[j]:=fun j h1 h2=>by
           have e:caps.map (opv fr.v) = caps.map (opn fr.v):=List.map_congr_left (fun x hx=>eZ hn x hx);have:=hag.2 j (by simpa using h1) (by simpa using h2);simp only [e];simpa using this
          have hlen:(cs.map a.eval).size = (caps.map (opv fr.v)).length:=by have:=hag.1; simp at this ⊢; omega
          refine wpIn_region ?_;have hsz:#[({ dst:=some d,op:=Op.makeFunc (.func g) #[] cs,type:=ty1,pos:=pos1,after:=af1,guard:=none }:Oper),{ dst:=none,op:=Op.defer { callee:=.value (.tmp d),args:=#[],argTypes:=ctys },type:=ty2,pos:=pos2,after:=af2,guard:=none }].size = 2:=rfl;rw [hsz];simp only [List.range,List.range.loop];simp only [wpOpsIn,List.getElem?_toArray,List.getElem?_cons_zero,List.getElem?_cons_succ,Region.wanted];have hlt:d < a.tmps.size:=by rw [h3.size]; exact c2
          refine ⟨fun _ _=>trivial, ?_⟩;rw [Oper.semAt_eq _ _ _ (by simp)];show Oper.uponIn _ _ _ _ _ _ _ (.ok (.value (.func (.func g) (#[].map a.eval) (cs.map a.eval))) s.w)
          rw [Oper.uponIn_value];have hev:(a.put (some d) (.func (.func g) (#[].map a.eval) (cs.map a.eval))).eval (.tmp d) = .func (.func g) (#[].map a.eval) (cs.map a.eval):=by
           simp [Act.eval,Act.put,hlt]
          generalize ha1:a.put (some d) (.func (.func g) (#[].map a.eval) (cs.map a.eval)) = a1 at hev ⊢;rw [if_pos trivial];refine ⟨fun _ _=>trivial, ?_⟩;have hr0:r = none:=by rw [hro] at h4; exact h4
          subst hr0
          have hD:(Oper.semAt (Fro none).round a1.eval { dst:=none,op:=Op.defer { callee:=Callee.value (Operand.tmp d),args:=#[],argTypes:=ctys },type:=ty2,pos:=pos2,after:=af2,guard:=none }).run P s.w =
            .ok (.defer { target:=.fn (.func g) (cs.map a.eval),args:=(#[].map a.eval) ++ #[] }) s.w:=by
           show (Oper.semAt none _ _).run P s.w = _
           rw [Oper.semAt_none];simp [execOp,resolve,hev,Deferred.ofValue]
          rw [hD,Oper.uponIn_defer];have f1:=h3.put (d:=some d) (d':=some d) (by simp [n9,c2]) (v:=.undef) (.undef (.func (.func g) (#[].map a.eval) (cs.map a.eval)));rw [ha1] at f1;refine ⟨.normal,Fr.only { v:=(d, .undef) :: fr.v,ds:=.fn (.func (.func g) [] (caps.map (opv fr.v))) [] :: fr.ds } live,s,rfl,h2, .refl s,bK.only ?_ live,trivial,hq⟩;refine ⟨f1.size,f1.v,⟨.func (.func g) (#[].map a.eval) (cs.map a.eval), #[], .func _ _ _ _ _ (by simp) hlen (fun j h1=>by simp at h1) hcap,⟨rfl,fun j h1=>by simp at h1⟩,rfl⟩,f1.ds⟩
         ·cases c7
        ·cases c7
        | _=>cases c4a
       ·cases c4
  | _=>simp [bd] at hc
theorem AW.scope {a:AC} (h:AW P N ro a (AEx.noGoto Q) fr σ):AW P N ro (.scope a) Q fr σ:=fun c hc=>by
 cases c <;> simp [bd] at hc;exact AWc.scope (h _ hc)
theorem AW.loop {live:List Nat} {a:AC} {ι:Type} (I:ι → Fr → ab → Prop) (m:ι → Nat) (i₀:ι) (h0:I i₀ (fr.only live) σ)
  (hr:∀ i fr σ,I i fr σ → AW P N ro a (AEx.then (fun fr' σ'=>∃ j,m j < m i ∧ I j (fr'.only live) σ') Q) fr σ):AW P N ro (.loop live a) Q fr σ:=fun c hc=>by
 cases c <;> simp [bd] at hc;rename_i c;have key:AWc P N ro (.loop c) Q (fr.only live) σ:=AWc.loop I m h0 fun i fr σ hI=>by
  intro A s ac r h1 h2 h3 h4;refine wpIn_mono (hr i fr σ hI c hc A s ac r h1 h2 h3 h4) ?_;rintro e a' w' ⟨ex,fr',s',rfl,hi,hg,hf,he,hq⟩
  cases ex with
  | normal=>
   obtain ⟨j,hlt,hj⟩:=hq;exact ⟨.normal,fr'.only live,s',rfl,hi,hg,hf.only live,he,j,hlt,hj⟩
  | _=>exact ⟨_,fr',s',rfl,hi,hg,hf,he,hq⟩
 intro A s ac r h1 h2 h3 h4;exact key A s ac r h1 h2 (h3.only live) h4
/-! ### A function -/
def fj (e:Env) (σ:ab):List (Nat × Option (Option Nat)) → List aa
 | []=>[]
 | (t,none) :: r=>(e.get t).strip :: fj e σ r
 | (t,some k) :: r=>fU k σ (e.get t).strip :: fj e σ r
def jo (e:Env) (σ:ab):List (Nat × Option (Option Nat)) → Prop
 | []=>True
 | (t,none) :: r=>(e.get t).cond = true ∧ jo e σ r
 | (t,some k) :: r=>(e.get t).cond = true ∧ cB k σ (e.get t).strip ∧ (∃ b o,(e.get t).strip = .ptr b o) ∧ jo e σ r
def fJ:List aa → aa
 | [v]=>v
 | l=>.tup l
def dJ (P:Program):List (Nat × Option (Option Nat)) → List ResultVar → Bool
 | [],[]=>true
 | (t,none) :: r, .tmp t' :: q=>t == t' && dJ P r q
 | (t,some k) :: r, .cell t' ty :: q=>t == t' && kOk P ty k && dJ P r q
 | _,_=>false
def bF:List aa → Nat → Env
 | [],_=>[]
 | v :: r,n=>(n,v) :: bF r (n + 1)
def e9:List fp → ab → (ab → Prop) → Prop
 | [],σ,K=>K σ
 | .coll b :: r,σ,K=>match σ.get b with
  | .dfr=>e9 r (σ.set b .dead) K
  | _=>False
 | .fn _ _ :: _,_,_=>False
def o6 (rs:List (Nat × Option (Option Nat))) (R:bh → ab → Prop):AEx → Fr → ab → Prop
 | .normal,fr,σ | .ret,fr,σ=>e9 fr.ds σ fun σ=>jo fr.v σ rs ∧ R (.ret (fJ (fj fr.v σ rs))) σ
 | .panic v,fr,σ=>e9 fr.ds σ fun σ=>R (.pan v) σ
 | _,_,_=>False
theorem gv:∀ (l:List aa) (n t:Nat),(bF l n).get t = if n ≤ t then l.getD (t - n) .undef else .undef
 | [],n,t=>by simp [bF,Env.get]
 | v :: l,n,t=>by
  simp only [bF,Env.get];by_cases h:n = t
  ·subst h; simp
  ·rw [if_neg h,gv l (n + 1) t];by_cases h2:n ≤ t
   ·rw [if_pos h2,if_pos (by omega),show t - n = (t - (n + 1)) + 1 by omega]; simp
   ·rw [if_neg h2,if_neg (by omega)]
def n5 (tmps:Array Value):ResultVar → Sem Value
 | .tmp t=>pure (tmps.getD t Go.undef)
 | .cell q t=>do loadVar t (← asAddr (tmps.getD q Go.undef))
theorem lI (fn:Func) (tmps:Array Value):results fn tmps = (do
  let vs ← fn.results.mapM (n5 tmps)
  pure (if h:vs.size = 1 then vs[0] else .tuple vs)):=by
 unfold results;congr 2
theorem gp {A:World} {s:St} {a:Act} (hi:Inv A s) (hf:bK s N fr a):∀ {rs:List (Nat × Option (Option Nat))} {vs:List ResultVar},dJ P rs vs = true → jo fr.v s.h rs →
  ∃ cs:List Value,(vs.mapM (n5 a.tmps)).run P s.w = .ok cs s.w ∧
   cs.length = (fj fr.v s.h rs).length ∧ ∀ j (h1:j < (fj fr.v s.h rs).length) (h2:j < cs.length),Rv s (fj fr.v s.h rs)[j] cs[j]
 | [],[],_,_=>⟨[],rfl,rfl,fun j h1 _=>by simp [fj] at h1⟩
 | (t,none) :: rs, .tmp t' :: vs,hc,hr=>by
  simp only [dJ,Bool.and_eq_true,beq_iff_eq] at hc;obtain ⟨rfl,hc⟩:=hc;obtain ⟨cs,e1,e2,e3⟩:=gp hi hf hc hr.2;have h0:=lj (hf.v t) hr.1;refine ⟨a.tmps.getD t Go.undef :: cs,by rw [List.mapM_cons]; simp [n5,e1],by simp [fj,e2],fun j h1 h2=>?_⟩
  cases j with
  | zero=>simpa [fj] using h0
  | succ j=>simpa [fj] using e3 j (by simpa [fj] using h1) (by simpa using h2)
 | (t,some k) :: rs, .cell t' ty :: vs,hc,hr=>by
  simp only [dJ,Bool.and_eq_true,beq_iff_eq] at hc;obtain ⟨⟨rfl,hk⟩,hc⟩:=hc;obtain ⟨g1,g2,⟨b,o,g3⟩,g4⟩:=hr;obtain ⟨cs,e1,e2,e3⟩:=gp hi hf hc g4;have h0:=lj (hf.v t) g1;obtain ⟨u,u1,u2⟩:=iz hi hk h0 g2;have hp:∃ ad,a.tmps.getD t Go.undef = .pointer (some ad):=by
   rw [g3] at h0;generalize a.tmps.getD t Go.undef = d at *;cases h0; exact ⟨_,rfl⟩
  obtain ⟨ad,had⟩:=hp;have u1':(loadVar ty ad).run P s.w = .ok u s.w:=by rw [had] at u1; simpa [Instr.loadAt,Instr.sureAddr] using u1
  refine ⟨u :: cs,by rw [List.mapM_cons]; simp only [n5,had]; simp [asAddr,u1',e1],by simp [fj,e2],fun j h1 h2=>?_⟩
  cases j with
  | zero=>simpa [fj] using u2
  | succ j=>simpa [fj] using e3 j (by simpa [fj] using h1) (by simpa using h2)
 | [],_ :: _,hc,_=>by simp [dJ] at hc
 | (_,none) :: _,[],hc,_=>by simp [dJ] at hc
 | (_,some _) :: _,[],hc,_=>by simp [dJ] at hc
 | (_,none) :: _, .cell _ _ :: _,hc,_=>by simp [dJ] at hc
 | (_,some _) :: _, .tmp _ :: _,hc,_=>by simp [dJ] at hc
theorem im {A:World} {s:St} {a:Act} (hi:Inv A s) (hf:bK s N fr a) {fn:Func} {rs:List (Nat × Option (Option Nat))} (hc:dJ P rs fn.results.toList = true) (hr:jo fr.v s.h rs) :
  ∃ c,(results fn a.tmps).run P s.w = .ok c s.w ∧ Rv s (fJ (fj fr.v s.h rs)) c:=by
 obtain ⟨cs,e1,e2,e3⟩:=gp hi hf hc hr;rw [lI,Array.mapM_eq_mapM_toList];simp only [Sem.run_bind,Sem.run_map,e1,Result.andThen_ok];generalize hl:fj fr.v s.h rs = l at *;by_cases h1:cs.length = 1
 ·match l,cs,h1 with
  | [v],[c],_=>
   refine ⟨c,by simp, ?_⟩;simpa [fJ] using e3 0 (by simp) (by simp)
  | [],[c],_=>simp at e2
  | _ :: _ :: _,[c],_=>simp at e2
 ·refine ⟨.tuple cs.toArray,by simp [h1], ?_⟩;have:fJ l = .tup l:=by
   match l with
   | []=>rfl
   | [v]=>simp at e2; exact absurd e2 h1
   | _ :: _ :: _=>rfl
  rw [this];exact .tup _ _ (by simpa using e2) (fun j g1 g2=>by have:=e3 j g1 (by simpa using g2); simpa using this)
theorem eL {A:World} {fn:Func} {tmps:Array Value} {u:FrameMode} {R:Ending → World → Prop} {K:ab → Prop} (hu:u ≠ .run):∀ {ds:List fp} {dl:List Deferred} {s:St},Inv A s → eM s ds dl → e9 ds s.h K →
  (∀ s',Inv A s' → aT s s' → K s'.h → LeavesIn Fence.wide 0 P fn tmps R [] u s'.w) → LeavesInM Fence.wide 0 P fn tmps R dl u s.w
 | [],[],s,hi,_,h,hend=>hend s hi (.refl s) h
 | .coll b :: ds,d :: dl,s,hi,hd,h,hend=>by
  obtain ⟨⟨blk,e1,rfl⟩,hd2⟩:=hd;simp only [e9] at h
  cases hb:s.h.get b with
  | dfr=>
   rw [hb] at h;simp only at h;have hbs:=ab.get_some hb (by simp);obtain ⟨blk',e2,hB,hh,hnS⟩:=hi.obj b _ hbs;have:blk' = blk:=by rw [e1] at e2; simpa using e2.symm
   subst this;have hown:bu s b .dfr blk':=e1;have hblk:blk' < s.w.heap.size:=(Array.getElem?_eq_some_iff.1 hh).1
   let s1:St:={ h:=s.h.set b .dead,lam:=s.lam,S:=s.S,w:=s.w.putObj blk' (.deferred none) }
   have hk:aL s s1:=⟨fun _ _ _ h=>h,fun _ _ h=>h,fun g o hs=>World.cell?_of_block (a:=⟨g,o,none⟩) (World.putObj_heap_other (fun e=>hnS o (e ▸ hs)))⟩;have hgo:=hi.change (s':=s1) (List.getElem?_eq_some_iff.1 hbs).1 rfl hk (hi.below.trans ⟨rfl,rfl,rfl,by simp [s1],fun g hg=>World.putObj_heap_other (by omega)⟩) (by simp [s1]) (fun _ _ _=>rfl)
    (fun g _ hno=>World.putObj_heap_other (fun e=>hno (e ▸ ⟨_,hbs,hown⟩))) trivial (fun _ h=>h.elim) (fun _ _ h=>.inl h) (fun g x h=>by have:=hi.scell _ _ h; simp [s1]; omega)
   exact ⟨hu, .inl ⟨blk',s1.w,rfl,run_takeDeferred hh,eL hu hgo.1 (hd2.keeps hgo.2.keeps) h (fun s' i' g' k'=>hend s' i' (hgo.2.trans g') k')⟩⟩
  | _=>rw [hb] at h; exact h.elim
 | .fn _ _ :: _,_,_,_,_,h,_=>h.elim
 | [],_ :: _,_,_,hd,_,_=>hd.elim
 | .coll _ :: _,[],_,_,hd,_,_=>hd.elim
theorem Spec.Io {f:FuncId} {fn:Func} {c:Code} {args:List aa} {rs:List (Nat × Option (Option Nat))} {R:bh → ab → Prop} (hfn:P.funcs[f]? = some fn) (hb:fn.body = some c)
  (hn:fn.ntmps = N) (hrs:dJ P rs fn.results.toList = true) (ha:args.length ≤ N)
  (h:AWc P N none c (o6 rs R) { v:=bF args 0,ds:=[] } σ):Spec P f args σ R:=by
 intro A s cargs h1 h2 h3;refine callsIn_wide.1 (callsIn_of_wp_marks (n:=0) (F:=Fence.wide) hfn hb trivial ?_);have hfr:bK s N { v:=bF args 0,ds:=[] } { tmps:=cargs ++ Array.replicate (fn.ntmps - cargs.size) Go.undef,defers:=[] }:=by
  have:=h3.1;refine ⟨by simp; omega,fun t=>?_,trivial⟩;rw [gv];simp only [Nat.zero_le,if_true,Nat.sub_zero];by_cases ht:t < args.length
  ·have h4:t < cargs.size:=by omega
   have:=h3.2 t ht h4;simpa [List.getD,List.getElem?_eq_getElem ht,Array.getD_eq_getD_getElem?,Array.getElem?_append,h4] using this
  ·have:args.getD t .undef = .undef:=by simp [List.getD,List.getElem?_eq_none (by omega:args.length ≤ t)]
   rw [this]; exact .undef _
 refine wpIn_mono (h A s _ none h1 h2 hfr rfl) ?_;rintro e a' w' ⟨ex,fr',s',rfl,hi,hg,hf,he,hq⟩;have hret:e9 fr'.ds s'.h (fun σ=>jo fr'.v σ rs ∧ R (.ret (fJ (fj fr'.v σ rs))) σ) → LeavesInM Fence.wide 0 P fn a'.tmps (bj A s R) a'.defers .returning s'.w:=fun hq=>
  eL (by simp) hi hf.ds hq fun s2 i2 g2 hk=>by
   obtain ⟨v,e1,e2⟩:=im i2 (hf.keeps g2.keeps) hrs hk.1;exact ⟨v,e1, .ret _,s2,rfl,i2,hg.trans g2,e2,hk.2⟩
 cases ex <;> cases e <;> first | (exact he.elim) | (exact hq.elim) | skip
 ·exact hret hq
 ·exact hret hq
 ·obtain ⟨c,rfl,hrc⟩:=he;exact eL (by simp) hi hf.ds hq fun s2 i2 g2 hk=>⟨.pan _,s2,rfl,i2,hg.trans g2,⟨c,rfl,hrc.keeps g2.keeps⟩,hk⟩
theorem Spec.Ii {f:FuncId} {fn:Func} {c:Code} {ac:AC} {args:List aa} {rs:List (Nat × Option (Option Nat))} {R:bh → ab → Prop} (hfn:P.funcs[f]? = some fn) (hb:fn.body = some c)
  (hn:fn.ntmps = N) (hc:bd P N ac c = true) (hrs:dJ P rs fn.results.toList = true) (ha:args.length ≤ N)
  (h:AW P N none ac (o6 rs R) { v:=bF args 0,ds:=[] } σ):Spec P f args σ R:=Spec.Io hfn hb hn hrs ha (h c hc)
end
open Go.RowKit
section
variable {P:Program} {N:Nat} {ro:Option Nat} {Q Q':AEx → Fr → ab → Prop} {fr:Fr} {σ:ab} {A:World} {s:St}
theorem Inv.iV (hi:Inv A s) {b N D:Nat} {e:Env} {ps:List Nat} {asg body:Code} {st:LoopState} {pd:Option Code} (hb:s.h[b]? = some (.looprec N e ps asg body D st pd)) :
  ∃ blk l,s.lam b 0 = some (.func (.yield blk) #[] #[]) ∧ s.w.heap[blk]? = some (.loop l) ∧ (l.state = st ∧ l.pending = pd ∧ l.tmps.size = N ∧ l.params.toList = ps ∧ l.assign = asg ∧ l.body = body ∧ (∃ d,s.lam D 0 = some (.map (some d)) ∧ l.defers = d)) ∧
   (∀ t,Rv s (e.get t) (l.tmps.getD t Go.undef)) ∧ ∀ st' pd', ∃ s',s'.h = s.h.set b (.looprec N e ps asg body D st' pd') ∧ s'.w = s.w.putObj blk (.loop { l with state:=st',pending:=pd' }) ∧ s'.lam = s.lam ∧ Inv A s' ∧ aT s s':=by
 obtain ⟨blk,l,hl,hB,hh,hx,hr,hnS⟩:=hi.obj b _ hb;refine ⟨blk,l,hl,hh,hx,hr,fun st' pd'=>?_⟩;have hblk:blk < s.w.heap.size:=(Array.getElem?_eq_some_iff.1 hh).1;have hown:bu s b (.looprec N e ps asg body D st pd) blk:=hl
 let s1:St:={ h:=s.h.set b (.looprec N e ps asg body D st' pd'),lam:=s.lam,S:=s.S,w:=s.w.putObj blk (.loop { l with state:=st',pending:=pd' }) }
 have hk:aL s s1:=⟨fun _ _ _ h=>h,fun _ _ h=>h,fun g o hs=>World.cell?_of_block (a:=⟨g,o,none⟩) (World.putObj_heap_other (fun e=>hnS o (e ▸ hs)))⟩;have hgo:=hi.change (s':=s1) (List.getElem?_eq_some_iff.1 hb).1 rfl hk (hi.below.trans ⟨rfl,rfl,rfl,by simp [s1],fun g hg=>World.putObj_heap_other (by omega)⟩) (by simp [s1]) (fun _ _ _=>rfl)
  (fun g _ hno=>World.putObj_heap_other (fun e=>hno (e ▸ ⟨_,hb,hown⟩)))
  ⟨blk,_,hl,hB,World.putObj_heap_same hblk,⟨rfl,rfl,hx.2.2.1,hx.2.2.2.1,hx.2.2.2.2.1,hx.2.2.2.2.2.1,hx.2.2.2.2.2.2⟩,fun t=>(hr t).keeps hk,hnS⟩
  (fun g ho=>by
   have e:s.lam b 0 = some (.func (.yield g) #[] #[]):=ho;rw [hl] at e;right;have:blk = g:=by simpa using e
   rw [← this]; exact ⟨_,hb,hown⟩)
  (fun _ _ h=>.inl h) (fun g x h=>by have:=hi.scell _ _ h; simp [s1]; omega)
 exact ⟨s1,rfl,rfl,rfl,hgo.1,hgo.2⟩
def fq (e:Env):List Nat → List aa → Env
 | p :: ps,a :: az=>fq ((p,a) :: e) ps az
 | _,_=>e
theorem mb:∀ {ps:List Nat} {args:List aa} {cs:List Value} {e:Env} {tmps:Array Value},ps.length = args.length → args.length = cs.length → (∀ p ∈ ps,p < tmps.size) → (∀ t,Rv s (e.get t) (tmps.getD t Go.undef)) →
  (∀ j (h1:j < args.length) (h2:j < cs.length),Rv s args[j] cs[j]) →
  let tm:=(ps.zip cs).foldl (fun (tmps:Array Value) (x:Nat × Value)=>tmps.setIfInBounds x.1 x.2) tmps
  tm.size = tmps.size ∧ ∀ t,Rv s ((fq e ps args).get t) (tm.getD t Go.undef)
 | [],[],[],e,tmps,_,_,_,hr,_=>⟨rfl,hr⟩
 | p :: ps,a :: az,c :: cs,e,tmps,h1,h2,hp,hr,ha=>by
  have h0:=ha 0 (by simp) (by simp);have hplt:=hp p (by simp);have:=mb (ps:=ps) (args:=az) (cs:=cs) (e:=(p,a) :: e) (tmps:=tmps.setIfInBounds p c) (by simpa using h1) (by simpa using h2) (fun q hq=>by simpa using hp q (by simp [hq]))
   (fun t=>by
    simp only [kx];by_cases e1:p = t
    ·subst e1;rw [if_pos rfl];simpa [Array.getD_eq_getD_getElem?,hplt] using h0
    ·rw [if_neg e1];have:=hr t
     simpa [Array.getD_eq_getD_getElem?,Array.getElem?_setIfInBounds_ne e1] using this)
   (fun j g1 g2=>by have:=ha (j + 1) (by simpa using g1) (by simpa using g2); simpa using this)
  simp only [List.zip_cons_cons,List.foldl_cons,fq];exact ⟨by simpa using this.1,this.2⟩
 | [],_ :: _,_,_,_,h,_,_,_,_=>by simp at h
 | _ :: _,[],_,_,_,h,_,_,_,_=>by simp at h
 | [],[],_ :: _,_,_,_,h,_,_,_=>by simp at h
 | _ :: _,_ :: _,[],_,_,_,h,_,_,_=>by simp at h
def y9 (b:Nat) (Q:bh → ab → Prop):AEx → Fr → ab → Prop
 | .normal,_,σ=>∃ N e ps asg body D st pd,σ.get b = .looprec N e ps asg body D st pd ∧ Q (.ret (.bool true)) (σ.set b (.looprec N e ps asg body D .ready none))
 | .ret,_,σ=>∃ N e ps asg body D st pd,σ.get b = .looprec N e ps asg body D st pd ∧ Q (.ret (.bool false)) (σ.set b (.looprec N e ps asg body D .done (some .ret)))
 | .exit i,_,σ=>∃ N e ps asg body D st pd,σ.get b = .looprec N e ps asg body D st pd ∧ Q (.ret (.bool false)) (σ.set b (.looprec N e ps asg body D .done (some (.exit i))))
 | .goto l,_,σ=>∃ N e ps asg body D st pd,σ.get b = .looprec N e ps asg body D st pd ∧ Q (.ret (.bool false)) (σ.set b (.looprec N e ps asg body D .done (some (.goto l))))
 | .panic _,_,_=>False
theorem bp.yield {b N D:Nat} {e:Env} {ps:List Nat} {asg body:Code} {pend:Option Code} {args:List aa} {Q:bh → ab → Prop} (hb:σ.get b = .looprec N e ps asg body D .ready pend) (hl:ps.length = args.length) (hps:∀ p ∈ ps,p < N)
  (h:AWc P N (some b) asg (AEx.then (fun fr1 σ1=>∃ N1 e1 ps1 asg1 body1 D1 pend1,σ1.get b = .looprec N1 e1 ps1 asg1 body1 D1 .ready pend1 ∧ AWc P N (some b) body (y9 b Q) fr1 (σ1.set b (.looprec N1 e1 ps1 asg1 body1 D1 .busy pend1))) (fun _ _ _=>False)) { v:=fq e ps args,ds:=[] } σ) :
  bp P (.yieldf b) args σ Q:=by
 intro A s cf cargs h1 h2 h3 h4;subst h1;obtain ⟨blk,l,hlam,hh,hx,hr,_⟩:=h2.iV (ab.get_some hb (by simp));obtain ⟨x1,x2,x3,x4,x5,x6,x7⟩:=hx
 cases h3 with
 | yieldf _ blk' hl'=>
  have:blk' = blk:=by rw [hlam] at hl'; simpa using hl'.symm
  subst this;have hpsz:l.params.size = ps.length:=by rw [← x4]; simp
  refine ⟨{ target:=.fn (.yield blk') #[],args:=#[] ++ cargs },rfl, .inr ⟨blk',l.fn,(l.params.zip cargs).foldl (fun (tmps:Array Value) (x:Nat × Value)=>tmps.setIfInBounds x.1 x.2) l.tmps,l.assign,l.body, ?_,fun ro=>?_⟩⟩
  ·simp only [invoke];rw [show (#[] ++ cargs:Array Value) = cargs by simp];have:=run_yield (P:=P) (args:=cargs) hh (by rw [hpsz,hl,h4.1]);simpa using this
  ·subst x5; subst x6;have hpa:=mb (s:=s) (ps:=ps) (args:=args) (cs:=cargs.toList) (e:=e) (tmps:=l.tmps) hl (by simpa using h4.1.symm) (fun p hp=>by rw [x3]; exact hps p hp) hr (fun j g1 g2=>by have:=h4.2 j g1 (by simpa using g2); simpa using this);have hfold:(l.params.zip cargs).foldl (fun (tmps:Array Value) (x:Nat × Value)=>tmps.setIfInBounds x.1 x.2) l.tmps = (ps.zip cargs.toList).foldl (fun (tmps:Array Value) (x:Nat × Value)=>tmps.setIfInBounds x.1 x.2) l.tmps:=by
    rw [← Array.foldl_toList,Array.toList_zip,x4]
   refine roundIn_of_wpIn trivial ?_;have hfr:bK s N { v:=fq e ps args,ds:=[] } { tmps:=(l.params.zip cargs).foldl (fun (tmps:Array Value) (x:Nat × Value)=>tmps.setIfInBounds x.1 x.2) l.tmps,defers:=[] }:=by
    refine ⟨?_,fun t=>?_,trivial⟩
    ·simp only; rw [hfold,hpa.1,x3]
    ·simp only; rw [hfold]; exact hpa.2 t
   have hro:wK s (some b) (some blk'):=⟨blk',hlam,rfl⟩;refine wpIn_mono (h A s _ (some blk') rfl h2 hfr hro) ?_;rintro ex a1 w1 ⟨ae,fr1,s1,rfl,i1,g1,f1,he,hq⟩
   cases ae with
   | normal=>
    cases ex <;> first | (exact he.elim) | skip
    obtain ⟨N1,e1',ps1,asg1,body1,D1,pend1,hb1,hbody⟩:=hq;obtain ⟨blk2,l2,hlam2,hh2,hx2,_,hput⟩:=i1.iV (ab.get_some hb1 (by simp));have:blk2 = blk':=by have:=g1.keeps.lam _ _ _ hlam; rw [this] at hlam2; simpa using hlam2.symm
    subst this;obtain ⟨s2,e2,w2,l2',i2,g2⟩:=hput .busy l2.pending;refine ⟨s2.w,by rw [w2]; exact run_beginRound hh2 hx2.1, ?_⟩;have hbd:=hbody A s2 a1 (some blk2) (by rw [e2,hx2.2.1]) i2 (f1.keeps g2.keeps) ((hro.keeps g1.keeps).keeps g2.keeps);refine wpIn_mono hbd ?_;rintro ex3 a3 w3 ⟨ae3,fr3,s3,rfl,i3,g3,f3,he3,hq3⟩
    have hend:∀ (jump:Option Code),(∃ N e ps asg body D st pd,s3.h.get b = .looprec N e ps asg body D st pd ∧ Q (.ret (.bool jump.isNone)) (s3.h.set b (.looprec N e ps asg body D (if jump.isNone then .ready else .done) jump))) →
      ∃ v w',(Instr.endRound blk2 jump).run P s3.w = .ok v w' ∧ bj A s Q (.returned v) w':=by
     rintro jump ⟨N3,e3',ps3,asg3,body3,D3,st,pd,hb3,hQ⟩;obtain ⟨blk3,l3,hlam3,hh3,hx3,_,hput3⟩:=i3.iV (ab.get_some hb3 (by simp));have:blk3 = blk2:=by have:=((g1.trans g2).trans g3).keeps.lam _ _ _ hlam; rw [this] at hlam3; simpa using hlam3.symm
     subst this;obtain ⟨s4,e4,w4,_,i4,g4⟩:=hput3 (if jump.isNone then .ready else .done) jump;exact ⟨_,s4.w,by rw [w4]; exact run_endRound jump hh3, .ret (.bool jump.isNone),s4,rfl,i4,((g1.trans g2).trans g3).trans g4, .bool _,by rw [e4]; exact hQ⟩
    cases ae3 with
    | normal=>cases ex3 <;> first | (exact he3.elim) | exact hend none hq3
    | ret=>cases ex3 <;> first | (exact he3.elim) | exact hend (some .ret) hq3
    | exit i=>
     cases ex3 <;> first | (exact he3.elim) | skip
     have:i = _:=he3;subst this; exact hend (some (.exit i)) hq3
    | goto l=>
     cases ex3 <;> first | (exact he3.elim) | skip
     have:l = _:=he3;subst this; exact hend (some (.goto l)) hq3
    | panic v=>exact hq3.elim
   | _=>exact hq.elim
/-! ### The statement -/
theorem Inv.Dp (hi:Inv A s) {b:Nat} (hb:s.h[b]? = some .hole) :
  ∃ s',s'.h = s.h.set b .dfr ∧ s'.w = s.w.alloc (.deferred (some [])) ∧ Inv A s' ∧ aT s s' ∧ s'.lam b 0 = some (.map (some s.w.heap.size)):=by
 have hblt:b < s.h.length:=(List.getElem?_eq_some_iff.1 hb).1;have hl:∀ k,s.lam b k = none:=hi.obj b _ hb
 let s':St:={ h:=s.h.set b .dfr,lam:=aO s.lam b 0 (.map (some s.w.heap.size)),S:=s.S,w:=s.w.alloc (.deferred (some [])) }
 have hk:aL s s':=⟨aJ (hl 0),fun _ _ h=>h,fun blk o hs=>World.cell?_alloc_lt _ _ (a:=⟨blk,o,none⟩) (hi.scell blk o hs)⟩;have hnew:s'.w.heap[s.w.heap.size]? = some (.deferred (some [])):=World.alloc_heap_new _ _;have hgo:=hi.change (s':=s') hblt rfl hk (hi.below.alloc hi.below.size _) (by simp [s']) (fun b' k hne=>av (.inl hne))
  (fun blk hlt _=>Below.heap_alloc _ _ _ hlt)
  ⟨s.w.heap.size,aC _ _ _ _,hi.below.size,hnew,fun o hs=>by have:=hi.scell _ _ hs; omega⟩
  (fun blk ho=>by
   have e:aO s.lam b 0 (.map (some s.w.heap.size)) b 0 = some (.map (some blk)):=ho
   simp at e; left; omega)
  (fun blk x h=>.inl h) (fun blk x h=>by have:=hi.scell _ _ h; simp [s']; omega)
 exact ⟨s',rfl,rfl,hgo.1,hgo.2,aC _ _ _ _⟩
theorem Inv.mR (hi:Inv A s) {b:Nat} (hb:s.h[b]? = some .hole) {N D d:Nat} {e:Env} {ps:List Nat} (l:Loop) (h1:l.tmps.size = N) (h2:l.params.toList = ps) (h3:s.lam D 0 = some (.map (some d))) (h4:l.defers = d)
  (hr:∀ t,Rv s (e.get t) (l.tmps.getD t Go.undef)) :
  ∃ s',s'.h = s.h.set b (.looprec N e ps l.assign l.body D l.state l.pending) ∧ s'.w = s.w.alloc (.loop l) ∧ Inv A s' ∧ aT s s' ∧ s'.lam b 0 = some (.func (.yield s.w.heap.size) #[] #[]):=by
 have hblt:b < s.h.length:=(List.getElem?_eq_some_iff.1 hb).1;have hl:∀ k,s.lam b k = none:=hi.obj b _ hb
 let s':St:={ h:=s.h.set b (.looprec N e ps l.assign l.body D l.state l.pending),lam:=aO s.lam b 0 (.func (.yield s.w.heap.size) #[] #[]),S:=s.S,w:=s.w.alloc (.loop l) }
 have hk:aL s s':=⟨aJ (hl 0),fun _ _ h=>h,fun blk o hs=>World.cell?_alloc_lt _ _ (a:=⟨blk,o,none⟩) (hi.scell blk o hs)⟩;have hnew:s'.w.heap[s.w.heap.size]? = some (.loop l):=World.alloc_heap_new _ _;have hgo:=hi.change (s':=s') hblt rfl hk (hi.below.alloc hi.below.size _) (by simp [s']) (fun b' k hne=>av (.inl hne))
  (fun blk hlt _=>Below.heap_alloc _ _ _ hlt)
  ⟨s.w.heap.size,l,aC _ _ _ _,hi.below.size,hnew,⟨rfl,rfl,h1,h2,rfl,rfl,d,hk.lam _ _ _ h3,h4⟩,fun t=>(hr t).keeps hk,fun o hs=>by have:=hi.scell _ _ hs; omega⟩
  (fun blk ho=>by
   have e:aO s.lam b 0 (.func (.yield s.w.heap.size) #[] #[]) b 0 = some (.func (.yield blk) #[] #[]):=ho
   simp at e; left; omega)
  (fun blk x h=>.inl h) (fun blk x h=>by have:=hi.scell _ _ h; simp [s']; omega)
 exact ⟨s',rfl,rfl,hgo.1,hgo.2,aC _ _ _ _⟩
def jS (b:Nat) (Q:AEx → Fr → ab → Prop) (fr:Fr) (r:bh) (σ:ab):Prop:=
 match r with
 | .ret _=>∃ N e ps asg body D st pd,σ.get b = .looprec N e ps asg body D st pd ∧ st ≠ .busy ∧ match pd with
  | none=>Q .normal fr (σ.set b (.looprec N e ps asg body D .exhausted pd))
  | some .ret=>Q .ret fr (σ.set b (.looprec N e ps asg body D .exhausted pd))
  | some (.exit i)=>Q (.exit i) fr (σ.set b (.looprec N e ps asg body D .exhausted pd))
  | some (.goto l)=>Q (.goto l) fr (σ.set b (.looprec N e ps asg body D .exhausted pd))
  | _=>False
 | .pan v=>Q (.panic v) fr σ
theorem j0 {b:Nat} {fr':Fr} {s0 s1:St} {a':Act} {l:Nat} {r:Option Nat} (hg0:aT s0 s1) (hf:bK s1 N fr' a') (hlam:s1.lam b 0 = some (.func (.yield l) #[] #[])) {en:Ending} {w:World}
  (hp:bj A s1 (jS b Q fr') en w):rangePost (Fro r) 0 P l (dt A N s0 Q) a' en w:=by
 obtain ⟨res,s2,rfl,i2,g2,hres,hq⟩:=hp
 cases res with
 | ret v=>
  cases en <;> first | (exact hres.elim) | skip
  obtain ⟨N1,e1',ps1,asg1,body1,D1,st,pd,hb,hst,hq⟩:=hq;obtain ⟨blk,lp,hl,hh,hx,_,hput⟩:=i2.iV (ab.get_some hb (by simp));have:blk = l:=by have:=g2.keeps.lam _ _ _ hlam; rw [this] at hl; simpa using hl.symm
  subst this;obtain ⟨s3,e3,w3,_,i3,g3⟩:=hput .exhausted pd;have hrun:=run_endLoop (P:=P) hh (by rw [hx.1]; exact hst);have hw:s2.w.putObj blk (.loop { lp with state:=.exhausted }) = s3.w:=by rw [w3, ← hx.2.1]
  rw [hw,hx.2.1] at hrun;have hf3:=(hf.keeps g2.keeps).keeps g3.keeps;have hg3:=(hg0.trans g2).trans g3;refine ⟨pd,s3.w,hrun, ?_⟩
  cases pd with
  | none=>exact ⟨.normal,fr',s3,rfl,i3,hg3,hf3,trivial,by rw [e3]; exact hq⟩
  | some c=>
   cases c <;> simp only at hq <;> first | (exact hq.elim) | skip
   ·exact wpIn_exit ⟨.exit _,fr',s3,rfl,i3,hg3,hf3,rfl,by rw [e3]; exact hq⟩
   ·exact wpIn_goto ⟨.goto _,fr',s3,rfl,i3,hg3,hf3,rfl,by rw [e3]; exact hq⟩
   ·exact wpIn_ret ⟨.ret,fr',s3,rfl,i3,hg3,hf3,trivial,by rw [e3]; exact hq⟩
 | pan v=>
  cases en <;> first | (exact hres.elim) | skip
  exact ⟨.panic v,fr',s2,rfl,i2,hg0.trans g2,hf.keeps g2.keeps,hres,hq⟩
theorem fA {g:Operand} {a:Act} {l:Nat} {d:Deferred} {w:World} (h:Deferred.ofValue (a.eval g) #[.func (.yield l) #[] #[]] = .pure d):(resolve a.eval (rangeCall g l) 0).run P w = .ok d w:=by
 have:resolve a.eval (rangeCall g l) 0 = Deferred.ofValue (a.eval g) #[.func (.yield l) #[] #[]]:=by
  simp [resolve,Act.eval]
 rw [this,h]; rfl
theorem AWc.cg {g:Operand} {ps:Array Tmp} {asg body:Code} {fv:aa} (hev:∀ s (a:Act),bK s N fr a → Rv s fv (a.eval g))
  (h:ir P fv [.yieldf (σ.length + 1)] (σ ++ [.dfr, .looprec N fr.v ps.toList asg body σ.length .ready none]) (jS (σ.length + 1) Q { fr with ds:=.coll σ.length :: fr.ds })) :
  AWc P N none (.rangeFunc g ps asg body) Q fr σ:=by
 intro A s a r h1 h2 h3 hro;have hro:r = none:=hro;subst hro;subst h1;refine wpIn_rangeFunc fun fn _=>?_
 -- the two blocks
 obtain ⟨s1,e1,w1,i1,g1,d1⟩:=h2.one;obtain ⟨s2,e2,w2,i2,g2,k2⟩:=i1.Dp d1;obtain ⟨s3,e3,w3,i3,g3,d3⟩:=i2.one;have len2:s2.h.length = s.h.length + 1:=by rw [e2,List.length_set,e1]; simp
 rw [len2] at d3;have f3:=((h3.keeps g1.keeps).keeps g2.keeps).keeps g3.keeps;obtain ⟨s4,e4,w4,i4,g4,k4⟩:=i3.mR d3 (N:=N) (D:=s.h.length) (d:=s1.w.heap.size) (e:=fr.v) (ps:=ps.toList)
  { state:=.ready,pending:=none,fn:=fn,tmps:=a.tmps,params:=ps,assign:=asg,body:=body,defers:=s.w.heap.size } f3.size rfl (g3.keeps.lam _ _ _ k2) (by rw [w1]) f3.v
 have hg:=((g1.trans g2).trans g3).trans g4;have hh:s4.h = s.h ++ [.dfr, .looprec N fr.v ps.toList asg body s.h.length .ready none]:=by
  rw [e4,e3,e2,e1,aS];rw [show s.h ++ [.dfr] ++ [.hole] = (s.h ++ [.dfr]) ++ [.hole] from rfl,show s.h.length + 1 = (s.h ++ [bO.dfr]).length by simp,aS];simp
 have hw:s4.w = (s.w.alloc (.deferred (some []))).alloc (.loop { state:=.ready,pending:=none,fn:=fn,tmps:=a.tmps,params:=ps,assign:=asg,body:=body,defers:=s.w.heap.size }):=by rw [w4,w3,w2,w1]
 have hsz3:s3.w.heap.size = s.w.heap.size + 1:=by rw [w3,w2,w1]; simp
 rw [hsz3] at k4
 obtain ⟨d,q1,f,az,q2,q3⟩:=h A s4 (a.eval g) #[.func (.yield (s.w.heap.size + 1)) #[] #[]] hh i4 (hev _ _ (f3.keeps g4.keeps)) ⟨rfl,fun j g1 g2=>by
  have:j = 0:=by simp at g1; exact g1
  subst this
  exact .yieldf _ _ k4⟩
 refine ⟨s.w.heap.size + 1,[{ target:=.collected s.w.heap.size,args:=#[] }],s4.w,d,s4.w,f,az,s4.w, ?_,fA q1,fun _ _=>trivial,q2,fun hd=>by simp [Fro,Fence.wide] at hd,callsIn_wide.2 (q3.mono fun en w hp=>?_)⟩
 ·rw [hw]; exact run_enterLoop_outer fn a.tmps ps asg body
 ·refine j0 (Q:=Q) (r:=none) hg ?_ k4 hp;have f4:=f3.keeps g4.keeps;refine ⟨f4.size,f4.v, ?_⟩;exact ⟨⟨s.w.heap.size,by have:=(g3.trans g4).keeps.lam _ _ _ k2; rw [w1] at this; exact this,rfl⟩,f4.ds⟩
theorem AWc.He {b N' D:Nat} {e':Env} {ps':List Nat} {asg' body':Code} {st:LoopState} {pd:Option Code} {g:Operand} {ps:Array Tmp} {asg body:Code} {fv:aa} (hev:∀ s (a:Act),bK s N fr a → Rv s fv (a.eval g))
  (hb:σ.get b = .looprec N' e' ps' asg' body' D st pd)
  (h:ir P fv [.yieldf σ.length] (σ ++ [.looprec N fr.v ps.toList asg body D .ready none]) (jS σ.length Q fr)) :
  AWc P N (some b) (.rangeFunc g ps asg body) Q fr σ:=by
 intro A s a r h1 h2 h3 hro;obtain ⟨blk,hbl,rfl⟩:=hro;subst h1;obtain ⟨blk',lo,hl',hhl,hx,_,_⟩:=h2.iV (ab.get_some hb (by simp));have:blk' = blk:=by rw [hbl] at hl'; simpa using hl'.symm
 subst this;obtain ⟨dd,hD,hdd⟩:=hx.2.2.2.2.2.2;refine wpIn_rangeFunc fun fn _=>?_
 obtain ⟨s3,e3,w3,i3,g3,d3⟩:=h2.one;have f3:=h3.keeps g3.keeps;obtain ⟨s4,e4,w4,i4,g4,k4⟩:=i3.mR d3 (N:=N) (D:=D) (d:=dd) (e:=fr.v) (ps:=ps.toList)
  { state:=.ready,pending:=none,fn:=fn,tmps:=a.tmps,params:=ps,assign:=asg,body:=body,defers:=lo.defers } f3.size rfl (g3.keeps.lam _ _ _ hD) hdd f3.v
 have hg:=g3.trans g4;have hh:s4.h = s.h ++ [.looprec N fr.v ps.toList asg body D .ready none]:=by rw [e4,e3,aS]
 have hw:s4.w = s.w.alloc (.loop { state:=.ready,pending:=none,fn:=fn,tmps:=a.tmps,params:=ps,assign:=asg,body:=body,defers:=lo.defers }):=by rw [w4,w3]
 rw [w3] at k4
 obtain ⟨d,q1,f,az,q2,q3⟩:=h A s4 (a.eval g) #[.func (.yield s.w.heap.size) #[] #[]] hh i4 (hev _ _ (f3.keeps g4.keeps)) ⟨rfl,fun j g1 g2=>by
  have:j = 0:=by simp at g1; exact g1
  subst this
  exact .yieldf _ _ k4⟩
 refine ⟨s.w.heap.size,[],s4.w,d,s4.w,f,az,s4.w, ?_,fA q1,fun _ _=>trivial,q2,fun hd=>by simp [Fro,Fence.wide] at hd,callsIn_wide.2 (q3.mono fun en w hp=>?_)⟩
 ·rw [hw];unfold Instr.enterLoop;simp only [Fro,Sem.run_bind,run_getLoop hhl,run_newObj_alloc,Result.andThen,Sem.run_pure]
 ·exact j0 (Q:=Q) (r:=some blk') hg (f3.keeps g4.keeps) k4 hp
theorem AW.cg {f:ay} {ps:List Nat} {asg body:AC} (hg:opg fr.v f = true)
  (h:∀ asg' body',bd P N asg asg' = true → bd P N body body' = true → (∀ p ∈ ps,p < N) →
   ir P (opv fr.v f) [.yieldf (σ.length + 1)] (σ ++ [.dfr, .looprec N fr.v ps asg' body' σ.length .ready none]) (jS (σ.length + 1) Q { fr with ds:=.coll σ.length :: fr.ds })) :
  AW P N none (.cg f ps asg body) Q fr σ:=fun c hc=>by
 cases c <;> simp only [bd] at hc <;> first | (cases hc; done) | skip
 simp only [Bool.and_eq_true,decide_eq_true_eq,List.all_eq_true] at hc;obtain ⟨⟨⟨⟨c1,rfl⟩,c3⟩,c4⟩,c5⟩:=hc;exact AWc.cg (fun s a hf=>hf.opr c1 hg) (h _ _ c4 c5 c3)
theorem bp.round {b N D:Nat} {e:Env} {ps:List Nat} {asg body:AC} {asg' body':Code} {pend:Option Code} {args:List aa} {Q:bh → ab → Prop} (ca:bd P N asg asg' = true) (cb:bd P N body body' = true) (hps:∀ p ∈ ps,p < N)
  (hb:σ.get b = .looprec N e ps asg' body' D .ready pend) (hl:ps.length = args.length)
  (h:AW P N (some b) asg (AEx.then (fun fr1 σ1=>∃ N1 e1 ps1 asg1 body1 D1 pend1,σ1.get b = .looprec N1 e1 ps1 asg1 body1 D1 .ready pend1 ∧ AW P N (some b) body (y9 b Q) fr1 (σ1.set b (.looprec N1 e1 ps1 asg1 body1 D1 .busy pend1))) (fun _ _ _=>False)) { v:=fq e ps args,ds:=[] } σ) :
  bp P (.yieldf b) args σ Q:=
 bp.yield hb hl hps ((h _ ca).mono fun x fr1 σ1 hq=>by
  cases x with
  | normal=>obtain ⟨a1,a2,a3,a4,a5,a6,p,q1,q2⟩:=hq; exact ⟨a1,a2,a3,a4,a5,a6,p,q1,q2 _ cb⟩
  | _=>exact hq)
end
end Go.AM
