/- A range over a function: the loop's record, a round, the statement. A function's contract by one check; a contract in an empty heap serves in every heap. The words that a walk's simp opens. -/
import Derived.Test.YtlmhkldmpggadaaGreatDoorP21
import Derived.KernelRfl
namespace Go.AM
open Go.RowKit
section
variable {P:Program} {N:Nat} {ro:Option Nat} {Q Q':AEx → Fr → af → Prop} {fr:Fr} {σ:af} {A:World} {s:St}
theorem Inv.vE (hi:Inv A s) {b N D:Nat} {e:Env} {ps:List Nat} {asg body:Code} {st:LoopState} {pd:Option Code} (hb:s.h[b]? = some (.looprec N e ps asg body D st pd)) :
  ∃ blk l,s.lam b 0 = some (.func (.yield blk) #[] #[]) ∧ s.w.heap[blk]? = some (.loop l) ∧ (l.state = st ∧ l.pending = pd ∧ l.tmps.size = N ∧ l.params.toList = ps ∧ l.assign = asg ∧ l.body = body ∧ (∃ d,s.lam D 0 = some (.map (some d)) ∧ l.defers = d)) ∧
   (∀ t,Rv s (e.get t) (l.tmps.getD t Go.undef)) ∧ ∀ st' pd', ∃ s',s'.h = s.h.set b (.looprec N e ps asg body D st' pd') ∧ s'.w = s.w.putObj blk (.loop { l with state:=st',pending:=pd' }) ∧ s'.lam = s.lam ∧ Inv A s' ∧ bV s s':=by
 obtain ⟨blk,l,hl,hB,hh,hx,hr,hnS⟩:=hi.obj b _ hb;refine ⟨blk,l,hl,hh,hx,hr,fun st' pd'=>?_⟩;have hblk:blk < s.w.heap.size:=(Array.getElem?_eq_some_iff.1 hh).1;have hown:dA s b (.looprec N e ps asg body D st pd) blk:=hl
 let s1:St:={ h:=s.h.set b (.looprec N e ps asg body D st' pd'),lam:=s.lam,S:=s.S,w:=s.w.putObj blk (.loop { l with state:=st',pending:=pd' }) }
 have hk:bq s s1:=⟨fun _ _ _ h=>h,fun _ _ h=>h,fun g o hs=>World.cell?_of_block (a:=⟨g,o,none⟩) (World.putObj_heap_other (fun e=>hnS o (e ▸ hs)))⟩;have hgo:=hi.change (s':=s1) (List.getElem?_eq_some_iff.1 hb).1 rfl hk (hi.below.trans ⟨rfl,rfl,rfl,by simp [s1],fun g hg=>World.putObj_heap_other (by omega)⟩) (by simp [s1]) (fun _ _ _=>rfl)
  (fun g _ hno=>World.putObj_heap_other (fun e=>hno (e ▸ ⟨_,hb,hown⟩)))
  ⟨blk,_,hl,hB,World.putObj_heap_same hblk,⟨rfl,rfl,hx.2.2.1,hx.2.2.2.1,hx.2.2.2.2.1,hx.2.2.2.2.2.1,hx.2.2.2.2.2.2⟩,fun t=>(hr t).keeps hk,hnS⟩
  (fun g ho=>by
   have e:s.lam b 0 = some (.func (.yield g) #[] #[]):=ho;rw [hl] at e;right;have:blk = g:=by simpa using e
   rw [← this]; exact ⟨_,hb,hown⟩)
  (fun _ _ h=>.inl h) (fun g x h=>by have:=hi.scell _ _ h; simp [s1]; omega)
 exact ⟨s1,rfl,rfl,rfl,hgo.1,hgo.2⟩
def jf (e:Env):List Nat → List ag → Env
 | p :: ps,a :: az=>jf ((p,a) :: e) ps az
 | _,_=>e
theorem xW:∀ {ps:List Nat} {args:List ag} {cs:List Value} {e:Env} {tmps:Array Value},ps.length = args.length → args.length = cs.length → (∀ p ∈ ps,p < tmps.size) → (∀ t,Rv s (e.get t) (tmps.getD t Go.undef)) →
  (∀ j (h1:j < args.length) (h2:j < cs.length),Rv s args[j] cs[j]) →
  let tm:=(ps.zip cs).foldl (fun (tmps:Array Value) (x:Nat × Value)=>tmps.setIfInBounds x.1 x.2) tmps
  tm.size = tmps.size ∧ ∀ t,Rv s ((jf e ps args).get t) (tm.getD t Go.undef)
 | [],[],[],e,tmps,_,_,_,hr,_=>⟨rfl,hr⟩
 | p :: ps,a :: az,c :: cs,e,tmps,h1,h2,hp,hr,ha=>by
  have h0:=ha 0 (by simp) (by simp);have hplt:=hp p (by simp);have:=xW (ps:=ps) (args:=az) (cs:=cs) (e:=(p,a) :: e) (tmps:=tmps.setIfInBounds p c) (by simpa using h1) (by simpa using h2) (fun q hq=>by simpa using hp q (by simp [hq]))
   (fun t=>by
    simp only [vI];by_cases e1:p = t
    ·subst e1;rw [if_pos rfl];simpa [Array.getD_eq_getD_getElem?,hplt] using h0
    ·rw [if_neg e1];have:=hr t
     simpa [Array.getD_eq_getD_getElem?,Array.getElem?_setIfInBounds_ne e1] using this)
   (fun j g1 g2=>by have:=ha (j + 1) (by simpa using g1) (by simpa using g2); simpa using this)
  simp only [List.zip_cons_cons,List.foldl_cons,jf];exact ⟨by simpa using this.1,this.2⟩
 | [],_ :: _,_,_,_,h,_,_,_,_=>by simp at h
 | _ :: _,[],_,_,_,h,_,_,_,_=>by simp at h
 | [],[],_ :: _,_,_,_,h,_,_,_=>by simp at h
 | _ :: _,_ :: _,[],_,_,_,h,_,_,_=>by simp at h
def Hi (b:Nat) (Q:fq → af → Prop):AEx → Fr → af → Prop
 | .normal,_,σ=>∃ N e ps asg body D st pd,σ.get b = .looprec N e ps asg body D st pd ∧ Q (.ret (.bool true)) (σ.set b (.looprec N e ps asg body D .ready none))
 | .ret,_,σ=>∃ N e ps asg body D st pd,σ.get b = .looprec N e ps asg body D st pd ∧ Q (.ret (.bool false)) (σ.set b (.looprec N e ps asg body D .done (some .ret)))
 | .exit i,_,σ=>∃ N e ps asg body D st pd,σ.get b = .looprec N e ps asg body D st pd ∧ Q (.ret (.bool false)) (σ.set b (.looprec N e ps asg body D .done (some (.exit i))))
 | .goto l,_,σ=>∃ N e ps asg body D st pd,σ.get b = .looprec N e ps asg body D st pd ∧ Q (.ret (.bool false)) (σ.set b (.looprec N e ps asg body D .done (some (.goto l))))
 | .panic _,_,_=>False
theorem aE.yield {b N D:Nat} {e:Env} {ps:List Nat} {asg body:Code} {pend:Option Code} {args:List ag} {Q:fq → af → Prop} (hb:σ.get b = .looprec N e ps asg body D .ready pend) (hl:ps.length = args.length) (hps:∀ p ∈ ps,p < N)
  (h:AWc P N (some b) asg (AEx.then (fun fr1 σ1=>∃ N1 e1 ps1 asg1 body1 D1 pend1,σ1.get b = .looprec N1 e1 ps1 asg1 body1 D1 .ready pend1 ∧ AWc P N (some b) body (Hi b Q) fr1 (σ1.set b (.looprec N1 e1 ps1 asg1 body1 D1 .busy pend1))) (fun _ _ _=>False)) { v:=jf e ps args,ds:=[] } σ) :
  aE P (.yieldf b) args σ Q:=by
 intro A s cf cargs h1 h2 h3 h4;subst h1;obtain ⟨blk,l,hlam,hh,hx,hr,_⟩:=h2.vE (af.get_some hb (by simp));obtain ⟨x1,x2,x3,x4,x5,x6,x7⟩:=hx
 cases h3 with
 | yieldf _ blk' hl'=>
  have:blk' = blk:=by rw [hlam] at hl'; simpa using hl'.symm
  subst this;have hpsz:l.params.size = ps.length:=by rw [← x4]; simp
  refine ⟨{ target:=.fn (.yield blk') #[],args:=#[] ++ cargs },rfl, .inr ⟨blk',l.fn,(l.params.zip cargs).foldl (fun (tmps:Array Value) (x:Nat × Value)=>tmps.setIfInBounds x.1 x.2) l.tmps,l.assign,l.body, ?_,fun ro=>?_⟩⟩
  ·simp only [invoke];rw [show (#[] ++ cargs:Array Value) = cargs by simp];have:=run_yield (P:=P) (args:=cargs) hh (by rw [hpsz,hl,h4.1]);simpa using this
  ·subst x5; subst x6;have hpa:=xW (s:=s) (ps:=ps) (args:=args) (cs:=cargs.toList) (e:=e) (tmps:=l.tmps) hl (by simpa using h4.1.symm) (fun p hp=>by rw [x3]; exact hps p hp) hr (fun j g1 g2=>by have:=h4.2 j g1 (by simpa using g2); simpa using this);have hfold:(l.params.zip cargs).foldl (fun (tmps:Array Value) (x:Nat × Value)=>tmps.setIfInBounds x.1 x.2) l.tmps = (ps.zip cargs.toList).foldl (fun (tmps:Array Value) (x:Nat × Value)=>tmps.setIfInBounds x.1 x.2) l.tmps:=by
    rw [← Array.foldl_toList,Array.toList_zip,x4]
   refine roundIn_of_wpIn trivial ?_;have hfr:er s N { v:=jf e ps args,ds:=[] } { tmps:=(l.params.zip cargs).foldl (fun (tmps:Array Value) (x:Nat × Value)=>tmps.setIfInBounds x.1 x.2) l.tmps,defers:=[] }:=by
    refine ⟨?_,fun t=>?_,trivial⟩
    ·simp only; rw [hfold,hpa.1,x3]
    ·simp only; rw [hfold]; exact hpa.2 t
   have hro:IV s (some b) (some blk'):=⟨blk',hlam,rfl⟩;refine wpIn_mono (h A s _ (some blk') rfl h2 hfr hro) ?_;rintro ex a1 w1 ⟨ae,fr1,s1,rfl,i1,g1,f1,he,hq⟩
   cases ae with
   | normal=>
    cases ex <;> first | (exact he.elim) | skip
    obtain ⟨N1,e1',ps1,asg1,body1,D1,pend1,hb1,hbody⟩:=hq;obtain ⟨blk2,l2,hlam2,hh2,hx2,_,hput⟩:=i1.vE (af.get_some hb1 (by simp));have:blk2 = blk':=by have:=g1.keeps.lam _ _ _ hlam; rw [this] at hlam2; simpa using hlam2.symm
    subst this;obtain ⟨s2,e2,w2,l2',i2,g2⟩:=hput .busy l2.pending;refine ⟨s2.w,by rw [w2]; exact run_beginRound hh2 hx2.1, ?_⟩;have hbd:=hbody A s2 a1 (some blk2) (by rw [e2,hx2.2.1]) i2 (f1.keeps g2.keeps) ((hro.keeps g1.keeps).keeps g2.keeps);refine wpIn_mono hbd ?_;rintro ex3 a3 w3 ⟨ae3,fr3,s3,rfl,i3,g3,f3,he3,hq3⟩
    have hend:∀ (jump:Option Code),(∃ N e ps asg body D st pd,s3.h.get b = .looprec N e ps asg body D st pd ∧ Q (.ret (.bool jump.isNone)) (s3.h.set b (.looprec N e ps asg body D (if jump.isNone then .ready else .done) jump))) →
      ∃ v w',(Instr.endRound blk2 jump).run P s3.w = .ok v w' ∧ di A s Q (.returned v) w':=by
     rintro jump ⟨N3,e3',ps3,asg3,body3,D3,st,pd,hb3,hQ⟩;obtain ⟨blk3,l3,hlam3,hh3,hx3,_,hput3⟩:=i3.vE (af.get_some hb3 (by simp));have:blk3 = blk2:=by have:=((g1.trans g2).trans g3).keeps.lam _ _ _ hlam; rw [this] at hlam3; simpa using hlam3.symm
     subst this;obtain ⟨s4,e4,w4,_,i4,g4⟩:=hput3 (if jump.isNone then .ready else .done) jump;exact ⟨_,s4.w,by rw [w4]; exact run_endRound jump hh3, .ret (.bool jump.isNone),s4,rfl,i4,((g1.trans g2).trans g3).trans g4, .bool _,by rw [e4]; exact hQ⟩
    cases ae3 with
    | normal=>cases ex3 <;> first | (exact he3.elim) | exact hend none hq3
    | ret=>cases ex3 <;> first | (exact he3.elim) | exact hend (some .ret) hq3
    | exit i=>
     cases ex3 <;> first | (exact he3.elim) | skip
     have:i = _:=he3;subst this; exact hend (some (.exit i)) hq3
    | goto l=>
     cases ex3 <;> first | (exact he3.elim) | skip
     have:l = _:=he3;subst this; exact hend (some (.goto l)) hq3
    | panic v=>exact hq3.elim
   | _=>exact hq.elim
/-! ### The statement -/
theorem Inv.HS (hi:Inv A s) {b:Nat} (hb:s.h[b]? = some .hole) :
  ∃ s',s'.h = s.h.set b .dfr ∧ s'.w = s.w.alloc (.deferred (some [])) ∧ Inv A s' ∧ bV s s' ∧ s'.lam b 0 = some (.map (some s.w.heap.size)):=by
 have hblt:b < s.h.length:=(List.getElem?_eq_some_iff.1 hb).1;have hl:∀ k,s.lam b k = none:=hi.obj b _ hb
 let s':St:={ h:=s.h.set b .dfr,lam:=bG s.lam b 0 (.map (some s.w.heap.size)),S:=s.S,w:=s.w.alloc (.deferred (some [])) }
 have hk:bq s s':=⟨bp (hl 0),fun _ _ h=>h,fun blk o hs=>World.cell?_alloc_lt _ _ (a:=⟨blk,o,none⟩) (hi.scell blk o hs)⟩;have hnew:s'.w.heap[s.w.heap.size]? = some (.deferred (some [])):=World.alloc_heap_new _ _;have hgo:=hi.change (s':=s') hblt rfl hk (hi.below.alloc hi.below.size _) (by simp [s']) (fun b' k hne=>aJ (.inl hne))
  (fun blk hlt _=>Below.heap_alloc _ _ _ hlt)
  ⟨s.w.heap.size,aM _ _ _ _,hi.below.size,hnew,fun o hs=>by have:=hi.scell _ _ hs; omega⟩
  (fun blk ho=>by
   have e:bG s.lam b 0 (.map (some s.w.heap.size)) b 0 = some (.map (some blk)):=ho
   simp at e; left; omega)
  (fun blk x h=>.inl h) (fun blk x h=>by have:=hi.scell _ _ h; simp [s']; omega)
 exact ⟨s',rfl,rfl,hgo.1,hgo.2,aM _ _ _ _⟩
theorem Inv.GW (hi:Inv A s) {b:Nat} (hb:s.h[b]? = some .hole) {N D d:Nat} {e:Env} {ps:List Nat} (l:Loop) (h1:l.tmps.size = N) (h2:l.params.toList = ps) (h3:s.lam D 0 = some (.map (some d))) (h4:l.defers = d)
  (hr:∀ t,Rv s (e.get t) (l.tmps.getD t Go.undef)) :
  ∃ s',s'.h = s.h.set b (.looprec N e ps l.assign l.body D l.state l.pending) ∧ s'.w = s.w.alloc (.loop l) ∧ Inv A s' ∧ bV s s' ∧ s'.lam b 0 = some (.func (.yield s.w.heap.size) #[] #[]):=by
 have hblt:b < s.h.length:=(List.getElem?_eq_some_iff.1 hb).1;have hl:∀ k,s.lam b k = none:=hi.obj b _ hb
 let s':St:={ h:=s.h.set b (.looprec N e ps l.assign l.body D l.state l.pending),lam:=bG s.lam b 0 (.func (.yield s.w.heap.size) #[] #[]),S:=s.S,w:=s.w.alloc (.loop l) }
 have hk:bq s s':=⟨bp (hl 0),fun _ _ h=>h,fun blk o hs=>World.cell?_alloc_lt _ _ (a:=⟨blk,o,none⟩) (hi.scell blk o hs)⟩;have hnew:s'.w.heap[s.w.heap.size]? = some (.loop l):=World.alloc_heap_new _ _;have hgo:=hi.change (s':=s') hblt rfl hk (hi.below.alloc hi.below.size _) (by simp [s']) (fun b' k hne=>aJ (.inl hne))
  (fun blk hlt _=>Below.heap_alloc _ _ _ hlt)
  ⟨s.w.heap.size,l,aM _ _ _ _,hi.below.size,hnew,⟨rfl,rfl,h1,h2,rfl,rfl,d,hk.lam _ _ _ h3,h4⟩,fun t=>(hr t).keeps hk,fun o hs=>by have:=hi.scell _ _ hs; omega⟩
  (fun blk ho=>by
   have e:bG s.lam b 0 (.func (.yield s.w.heap.size) #[] #[]) b 0 = some (.func (.yield blk) #[] #[]):=ho
   simp at e; left; omega)
  (fun blk x h=>.inl h) (fun blk x h=>by have:=hi.scell _ _ h; simp [s']; omega)
 exact ⟨s',rfl,rfl,hgo.1,hgo.2,aM _ _ _ _⟩
def vZ (b:Nat) (Q:AEx → Fr → af → Prop) (fr:Fr) (r:fq) (σ:af):Prop:=
 match r with
 | .ret _=>∃ N e ps asg body D st pd,σ.get b = .looprec N e ps asg body D st pd ∧ st ≠ .busy ∧ match pd with
  | none=>Q .normal fr (σ.set b (.looprec N e ps asg body D .exhausted pd))
  | some .ret=>Q .ret fr (σ.set b (.looprec N e ps asg body D .exhausted pd))
  | some (.exit i)=>Q (.exit i) fr (σ.set b (.looprec N e ps asg body D .exhausted pd))
  | some (.goto l)=>Q (.goto l) fr (σ.set b (.looprec N e ps asg body D .exhausted pd))
  | _=>False
 | .pan v=>Q (.panic v) fr σ
theorem CS {b:Nat} {fr':Fr} {s0 s1:St} {a':Act} {l:Nat} {r:Option Nat} (hg0:bV s0 s1) (hf:er s1 N fr' a') (hlam:s1.lam b 0 = some (.func (.yield l) #[] #[])) {en:Ending} {w:World}
  (hp:di A s1 (vZ b Q fr') en w):rangePost (Fro r) 0 P l (gO A N s0 Q) a' en w:=by
 obtain ⟨res,s2,rfl,i2,g2,hres,hq⟩:=hp
 cases res with
 | ret v=>
  cases en <;> first | (exact hres.elim) | skip
  obtain ⟨N1,e1',ps1,asg1,body1,D1,st,pd,hb,hst,hq⟩:=hq;obtain ⟨blk,lp,hl,hh,hx,_,hput⟩:=i2.vE (af.get_some hb (by simp));have:blk = l:=by have:=g2.keeps.lam _ _ _ hlam; rw [this] at hl; simpa using hl.symm
  subst this;obtain ⟨s3,e3,w3,_,i3,g3⟩:=hput .exhausted pd;have hrun:=run_endLoop (P:=P) hh (by rw [hx.1]; exact hst);have hw:s2.w.putObj blk (.loop { lp with state:=.exhausted }) = s3.w:=by rw [w3, ← hx.2.1]
  rw [hw,hx.2.1] at hrun;have hf3:=(hf.keeps g2.keeps).keeps g3.keeps;have hg3:=(hg0.trans g2).trans g3;refine ⟨pd,s3.w,hrun, ?_⟩
  cases pd with
  | none=>exact ⟨.normal,fr',s3,rfl,i3,hg3,hf3,trivial,by rw [e3]; exact hq⟩
  | some c=>
   cases c <;> simp only at hq <;> first | (exact hq.elim) | skip
   ·exact wpIn_exit ⟨.exit _,fr',s3,rfl,i3,hg3,hf3,rfl,by rw [e3]; exact hq⟩
   ·exact wpIn_goto ⟨.goto _,fr',s3,rfl,i3,hg3,hf3,rfl,by rw [e3]; exact hq⟩
   ·exact wpIn_ret ⟨.ret,fr',s3,rfl,i3,hg3,hf3,trivial,by rw [e3]; exact hq⟩
 | pan v=>
  cases en <;> first | (exact hres.elim) | skip
  exact ⟨.panic v,fr',s2,rfl,i2,hg0.trans g2,hf.keeps g2.keeps,hres,hq⟩
theorem rS {g:Operand} {a:Act} {l:Nat} {d:Deferred} {w:World} (h:Deferred.ofValue (a.eval g) #[.func (.yield l) #[] #[]] = .pure d):(resolve a.eval (rangeCall g l) 0).run P w = .ok d w:=by
 have:resolve a.eval (rangeCall g l) 0 = Deferred.ofValue (a.eval g) #[.func (.yield l) #[] #[]]:=by
  simp [resolve,Act.eval]
 rw [this,h]; rfl
theorem AWc.jM {g:Operand} {ps:Array Tmp} {asg body:Code} {fv:ag} (hev:∀ s (a:Act),er s N fr a → Rv s fv (a.eval g))
  (h:oq P fv [.yieldf (σ.length + 1)] (σ ++ [.dfr, .looprec N fr.v ps.toList asg body σ.length .ready none]) (vZ (σ.length + 1) Q { fr with ds:=.coll σ.length :: fr.ds })) :
  AWc P N none (.rangeFunc g ps asg body) Q fr σ:=by
 intro A s a r h1 h2 h3 hro;have hro:r = none:=hro;subst hro;subst h1;refine wpIn_rangeFunc fun fn _=>?_
 -- the two blocks
 obtain ⟨s1,e1,w1,i1,g1,d1⟩:=h2.one;obtain ⟨s2,e2,w2,i2,g2,k2⟩:=i1.HS d1;obtain ⟨s3,e3,w3,i3,g3,d3⟩:=i2.one;have len2:s2.h.length = s.h.length + 1:=by rw [e2,List.length_set,e1]; simp
 rw [len2] at d3;have f3:=((h3.keeps g1.keeps).keeps g2.keeps).keeps g3.keeps;obtain ⟨s4,e4,w4,i4,g4,k4⟩:=i3.GW d3 (N:=N) (D:=s.h.length) (d:=s1.w.heap.size) (e:=fr.v) (ps:=ps.toList)
  { state:=.ready,pending:=none,fn:=fn,tmps:=a.tmps,params:=ps,assign:=asg,body:=body,defers:=s.w.heap.size } f3.size rfl (g3.keeps.lam _ _ _ k2) (by rw [w1]) f3.v
 have hg:=((g1.trans g2).trans g3).trans g4;have hh:s4.h = s.h ++ [.dfr, .looprec N fr.v ps.toList asg body s.h.length .ready none]:=by
  rw [e4,e3,e2,e1,bQ];rw [show s.h ++ [.dfr] ++ [.hole] = (s.h ++ [.dfr]) ++ [.hole] from rfl,show s.h.length + 1 = (s.h ++ [cq.dfr]).length by simp,bQ];simp
 have hw:s4.w = (s.w.alloc (.deferred (some []))).alloc (.loop { state:=.ready,pending:=none,fn:=fn,tmps:=a.tmps,params:=ps,assign:=asg,body:=body,defers:=s.w.heap.size }):=by rw [w4,w3,w2,w1]
 have hsz3:s3.w.heap.size = s.w.heap.size + 1:=by rw [w3,w2,w1]; simp
 rw [hsz3] at k4
 obtain ⟨d,q1,f,az,q2,q3⟩:=h A s4 (a.eval g) #[.func (.yield (s.w.heap.size + 1)) #[] #[]] hh i4 (hev _ _ (f3.keeps g4.keeps)) ⟨rfl,fun j g1 g2=>by
  have:j = 0:=by simp at g1; exact g1
  subst this
  exact .yieldf _ _ k4⟩
 refine ⟨s.w.heap.size + 1,[{ target:=.collected s.w.heap.size,args:=#[] }],s4.w,d,s4.w,f,az,s4.w, ?_,rS q1,fun _ _=>trivial,q2,fun hd=>by simp [Fro,Fence.wide] at hd,callsIn_wide.2 (q3.mono fun en w hp=>?_)⟩
 ·rw [hw]; exact run_enterLoop_outer fn a.tmps ps asg body
 ·refine CS (Q:=Q) (r:=none) hg ?_ k4 hp;have f4:=f3.keeps g4.keeps;refine ⟨f4.size,f4.v, ?_⟩;exact ⟨⟨s.w.heap.size,by have:=(g3.trans g4).keeps.lam _ _ _ k2; rw [w1] at this; exact this,rfl⟩,f4.ds⟩
theorem AW.jM {f:aO} {ps:List Nat} {asg body:AC} (hg:opg fr.v f = true)
  (h:∀ asg' body',dR P N asg asg' = true → dR P N body body' = true → (∀ p ∈ ps,p < N) →
   oq P (opv fr.v f) [.yieldf (σ.length + 1)] (σ ++ [.dfr, .looprec N fr.v ps asg' body' σ.length .ready none]) (vZ (σ.length + 1) Q { fr with ds:=.coll σ.length :: fr.ds })) :
  AW P N none (.jM f ps asg body) Q fr σ:=fun c hc=>by
 cases c <;> simp only [dR] at hc <;> first | (cases hc; done) | skip
 simp only [Bool.and_eq_true,decide_eq_true_eq,List.all_eq_true] at hc;obtain ⟨⟨⟨⟨c1,rfl⟩,c3⟩,c4⟩,c5⟩:=hc;exact AWc.jM (fun s a hf=>hf.opr c1 hg) (h _ _ c4 c5 c3)
theorem aE.round {b N D:Nat} {e:Env} {ps:List Nat} {asg body:AC} {asg' body':Code} {pend:Option Code} {args:List ag} {Q:fq → af → Prop} (ca:dR P N asg asg' = true) (cb:dR P N body body' = true) (hps:∀ p ∈ ps,p < N)
  (hb:σ.get b = .looprec N e ps asg' body' D .ready pend) (hl:ps.length = args.length)
  (h:AW P N (some b) asg (AEx.then (fun fr1 σ1=>∃ N1 e1 ps1 asg1 body1 D1 pend1,σ1.get b = .looprec N1 e1 ps1 asg1 body1 D1 .ready pend1 ∧ AW P N (some b) body (Hi b Q) fr1 (σ1.set b (.looprec N1 e1 ps1 asg1 body1 D1 .busy pend1))) (fun _ _ _=>False)) { v:=jf e ps args,ds:=[] } σ) :
  aE P (.yieldf b) args σ Q:=
 aE.yield hb hl hps ((h _ ca).mono fun x fr1 σ1 hq=>by
  cases x with
  | normal=>obtain ⟨a1,a2,a3,a4,a5,a6,p,q1,q2⟩:=hq; exact ⟨a1,a2,a3,a4,a5,a6,p,q1,q2 _ cb⟩
  | _=>exact hq)
end
open Go.RowKit
def x9 (P:Program) (fn:Func) (N:Nat) (ac:AC) (rs:List (Nat × Option (Option Nat))):Bool:=
 decide (fn.ntmps = N) && gQ P rs fn.results.toList && match fn.body with
  | some c=>dR P N ac c
  | none=>false
theorem Spec.wS {P:Program} {f:FuncId} {fn:Func} {N:Nat} {ac:AC} {rs:List (Nat × Option (Option Nat))} {args:List ag} {σ:af} {R:fq → af → Prop} (hfn:P.funcs[f]? = some fn)
  (hc:x9 P fn N ac rs = true) (ha:args.length ≤ N) (h:AW P N none ac (Cb rs R) { v:=fE args 0,ds:=[] } σ):Spec P f args σ R:=by
 simp only [x9,Bool.and_eq_true,decide_eq_true_eq] at hc;obtain ⟨⟨h1,h2⟩,h3⟩:=hc
 cases hb:fn.body with
 | none=>rw [hb] at h3; cases h3
 | some c=>rw [hb] at h3; exact Spec.KK hfn hb h1 h3 h2 ha h
theorem iL:∀ {l:List ag},aH l = true → ∀ j (h:j < l.length),l[j].pure = true
 | v :: r,h,0,_=>by simp only [aH,Bool.and_eq_true] at h; exact h.1
 | v :: r,h,j + 1,hj=>by simp only [aH,Bool.and_eq_true] at h; simpa using iL h.2 j (by simpa using hj)
theorem Rv.xJ {s s':St} (hS:∀ blk o,s.S blk o → s'.S blk o) (hc:∀ blk o,s.S blk o → s'.w.cell? ⟨blk,o,none⟩ = s.w.cell? ⟨blk,o,none⟩) {v:ag} {c:Value} (h:Rv s v c) (hp:v.pure = true):Rv s' v c:=by
 have hm:∀ {blk off:Nat} {u:Value},sP s blk off u → sP s' blk off u:=fun hm j hj=>⟨hS _ _ (hm j hj).1,(hc _ _ (hm j hj).1).trans (hm j hj).2⟩
 induction h with
 | undef c=>exact .undef c
 | bool b=>exact .bool b
 | int k n=>exact .int k n
 | str x=>exact .str x
 | agg cs vs hl _ ih=>exact .agg cs vs hl fun j h1 h2=>ih j h1 h2 (iL (by simpa [ag.pure] using hp) j h1)
 | tup cs vs hl _ ih=>exact .tup cs vs hl fun j h1 h2=>ih j h1 h2 (iL (by simpa [ag.pure] using hp) j h1)
 | slice0 sz a cap=>exact .slice0 sz a cap
 | slice sz xs blk off len cap us hl hn hcp _ hm' ih=>exact .slice sz xs blk off len cap us hl hn hcp (fun i h1 h2=>ih i h1 h2 (iL (by simpa [ag.pure] using hp) i h1)) (fun i h2=>⟨(hm' i h2).1,hm (hm' i h2).2⟩)
 | pval v u blk off _ hm' ih=>exact .pval v u blk off (ih (by simpa [ag.pure] using hp)) (hm hm')
 | nilptr=>exact .nilptr
 | func fn first caps fi ca hf hc' _ _ ih1 ih2=>
  simp only [ag.pure,Bool.and_eq_true] at hp;exact .func fn first caps fi ca hf hc' (fun j a b=>ih1 j a b (iL hp.1 j a)) (fun j a b=>ih2 j a b (iL hp.2 j a))
 | nilfunc=>exact .nilfunc
 | iface t v u _ ih=>exact .iface t v u (ih (by simpa [ag.pure] using hp))
 | niliface=>exact .niliface
 | nilmap=>exact .nilmap
 | optT v c _ ih=>exact .optT v c (ih (by simpa [ag.pure] using hp))
 | optF v=>exact .optF v
 | _=>simp [ag.pure] at hp
def fq.pure:fq → Bool
 | .ret v=>v.pure
 | .pan v=>v.pure
theorem Spec.frame {P:Program} {f:FuncId} {args:List ag} {Q:fq → Prop} (hs:Spec P f args [] fun r _=>Q r ∧ r.pure = true) (ha:aH args = true) (σ:af) :
  Spec P f args σ fun r σ'=>Q r ∧ σ' = σ:=by
 intro A s cargs h1 h2 h3;subst h1
 -- the same state, its blocks forgotten
 let s0:St:={ h:=[],lam:=fun _ _=>none,S:=s.S,w:=s.w }
 have i0:Inv A s0:=⟨h2.below,fun b o h=>by simp [s0] at h,fun b b' o o' blk h=>by simp [s0] at h,fun _ _ _=>rfl,h2.scell,h2.laid⟩;have a0:gy s0 args cargs:=⟨h3.1,fun j g1 g2=>Rv.xJ (s:=s) (s':=s0) (fun _ _ h=>h) (fun _ _ _=>rfl) (h3.2 j g1 g2) (iL ha j g1)⟩;refine (hs A s0 cargs rfl i0 a0).mono ?_;rintro e w' ⟨r,s1,rfl,i1,g1,hr,hq,hp⟩;have noown:∀ blk, ¬ BC s0 blk:=fun blk ⟨b,o,h,_⟩=>by simp [s0] at h
 -- the caller's blocks again
 let s2:St:={ h:=s.h,lam:=s.lam,S:=s1.S,w:=s1.w }
 have hlt:∀ b o blk,s.h[b]? = some o → dA s b o blk → blk < s.w.heap.size:=fun b o blk e1 e2=>((h2.obj b o e1).vw e2).2;have hheap:∀ blk,blk < s.w.heap.size → s1.w.heap[blk]? = s.w.heap[blk]?:=fun blk hb=>g1.outside blk hb (noown blk);have hS:∀ blk o,s1.S blk o → s.S blk o ∨ s.w.heap.size ≤ blk:=fun blk o h=>by
  rcases g1.sFrom blk o h with h' | h' | h'
  ·exact .inl h'
  ·exact .inr h'
  ·exact absurd h' (noown blk)
 have hk:bq s s2:=⟨fun _ _ _ h=>h,g1.keeps.S,g1.keeps.cell⟩;obtain ⟨i2,g2⟩:=h2.grow (s':=s2) rfl rfl hk i1.below g1.size hheap hS i1.scell;have hres:L3 s2 r e:=by
  cases r <;> cases e <;> first | (exact hr.elim) | skip
  ·exact Rv.xJ (s:=s1) (s':=s2) (fun _ _ h=>h) (fun _ _ _=>rfl) hr hp
  ·obtain ⟨c,e1,e2⟩:=hr; exact ⟨c,e1,Rv.xJ (s:=s1) (s':=s2) (fun _ _ h=>h) (fun _ _ _=>rfl) e2 hp⟩
 exact ⟨r,s2,rfl,i2,g2,hres,hq,rfl⟩
theorem Spec.aF {P:Program} {f:FuncId} {args:List ag} {v:ag} (hs:Spec P f args [] fun r _=>r = .ret v) (ha:aH args = true) (hv:v.pure = true) (σ:af) :
  Spec P f args σ fun r σ'=>r = .ret v ∧ σ' = σ:=
 Spec.frame (hs.mono fun r _ h=>⟨h,by subst h; exact hv⟩) ha σ
theorem aE.pure {P:Program} {f:FuncId} (hb:au P f = true) {args:List ag} {σ:af} {v:ag} {Q:fq → af → Prop} (hs:Spec P f args σ fun r σ'=>r = .ret v ∧ σ' = σ) (hq:Q (.ret v) σ) :
  aE P (.func (.func f) [] []) args σ Q:=
 aE.func hb (by simpa using hs.mono fun r σ' h=>by obtain ⟨rfl,rfl⟩:=h; exact hq)
theorem ah.pure {P:Program} {f:FuncId} (hb:au P f = true) {args:List ag} {σ:af} {v:ag} {K Kp:ag → af → Prop} (hs:Spec P f args σ fun r σ'=>r = .ret v ∧ σ' = σ) (hq:K v σ) :
  @ah P (.func (.func f) [] []) args σ ⟨K⟩ ⟨Kp⟩:=aE.pure hb hs hq
attribute [simp ↓] vj DG Ac ky p9 eZ
attribute [simp] HK EC u8s zx mg Iy Er Fv NG Fm EK gZ lJ nj tG Ak zT EG vu dD b9 bL gr iY gH nz Of kP mf ea opv opg Env.get Env.put Env.only Fr.put Fr.only AEx.then AEx.inBlock AEx.noGoto Cb kQ lT uR q9 fE iv AI.val AI.side AI.quiet AI.plain AI.opers
 ag.strip ag.cond dz jR fD o8 iC af.get cB tp ir iE jy putCells fM ag.gJ ag.I9 ag.cells gu jK pD pO IK Cs arith AS
 HO Aa unV IM cW isInt MZ JC NO HL mE k6 KJ Fb H3 Ha zW dB bN gz ga Fk yK isBool cS ag.tv ag.down ag.kI aH ag.pure ag.elems ag.jh aV eN j0 JL H4 D9 JO z7 zY E3 yf tS bK eX pV jV pW rdL rh u0 nV cV.run cV.qf kY eW ag.eY iB uC yi GH gqv gqs gql uI wU FU ccs cql iH
end Go.AM
