/- Deferred calls of literal functions, and what recovers. -/
import Derived.Test.YtcdfnopkemadjaaGreatDoorP15
import Derived.RecoverIn
namespace Go.AM
open Go.RowKit
inductive PM where
 | none
 | pan (v:aa)
 | recd (v:aa)
def cT (s:St):PM → FrameMode → Prop
 | .none,u=>u = .returning
 | .pan v,u=>∃ c,u = .panicking [{ v:=c,recovered:=false }] ∧ Rv s v c
 | .recd _,u=>∃ c,u = .panicking [{ v:=c,recovered:=true }]
def PM.settle:PM → PM
 | .recd _=>.none
 | m=>m
def PM.val:PM → aa
 | .pan v=>v
 | _=>.niliface
def PM.after:PM → PM
 | .pan v=>.recd v
 | m=>m
theorem cT.run {s:St} {m:PM} {u:FrameMode} (h:cT s m u):u ≠ .run:=by
 cases m with
 | none=>have h:u = .returning:=h; subst h; simp
 | pan v=>obtain ⟨c,rfl,_⟩:=h; simp
 | recd v=>obtain ⟨c,rfl⟩:=h; simp
theorem cT.settled {s:St} {m:PM} {u:FrameMode} (h:cT s m u):cT s m.settle (Go.settle u):=by
 cases m with
 | none=>have h:u = .returning:=h; subst h; rfl
 | pan v=>obtain ⟨c,rfl,hr⟩:=h; exact ⟨c,rfl,hr⟩
 | recd v=>obtain ⟨c,rfl⟩:=h; rfl
def eH (P:Program) (f:FuncId) (args:List aa) (σ:ab) (m:PM) (Q:PM → ab → Prop):Prop:=
 ∀ A s cargs u,s.h = σ → Inv A s → dA s args cargs → cT s m u → CallsDIn Fence.wide 0 P f cargs u s.w fun e u' w'=>
  ∃ v m' s',e = .returned v ∧ s'.w = w' ∧ Inv A s' ∧ aT s s' ∧ cT s' m' u' ∧ Q m' s'.h
theorem eH.mono {P:Program} {f:FuncId} {args:List aa} {σ:ab} {m:PM} {Q Q':PM → ab → Prop} (h:eH P f args σ m Q) (hq:∀ m σ,Q m σ → Q' m σ):eH P f args σ m Q':=
 fun A s cargs u h1 h2 h3 h4=>(h A s cargs u h1 h2 h3 h4).mono fun _ _ _ ⟨v,m',s',a,b,c,d,e,q⟩=>⟨v,m',s',a,b,c,d,e,hq _ _ q⟩
def jO (P:Program):List fp → ab → PM → (PM → ab → Prop) → Prop
 | [],σ,m,K=>K m σ
 | .coll b :: r,σ,m,K=>match σ.get b with
  | .dfr=>jO P r (σ.set b .dead) m K
  | _=>False
 | .fn (.func (.func f) [] caps) [] :: r,σ,m,K=>af P f = true ∧ eH P f caps σ m fun m' σ'=>jO P r σ' m'.settle K
 | .fn _ _ :: _,_,_,_=>False
def Cq (rs:List (Nat × Option (Option Nat))) (R:bh → ab → Prop) (e:Env):PM → ab → Prop
 | .none,σ=>jo e σ rs ∧ R (.ret (fJ (fj e σ rs))) σ
 | .pan v,σ=>R (.pan v) σ
 | .recd _,_=>False
def ln (P:Program) (rs:List (Nat × Option (Option Nat))) (R:bh → ab → Prop):AEx → Fr → ab → Prop
 | .normal,fr,σ | .ret,fr,σ=>jO P fr.ds σ .none (Cq rs R fr.v)
 | .panic v,fr,σ=>jO P fr.ds σ (.pan v) (Cq rs R fr.v)
 | _,_,_=>False
section
variable {P:Program} {N:Nat} {σ:ab}
theorem cT.keeps {s s':St} (h:aL s s') {m:PM} {u:FrameMode} (hm:cT s m u):cT s' m u:=by
 cases m with
 | none=>exact hm
 | pan v=>obtain ⟨c,e,hr⟩:=hm; exact ⟨c,e,hr.keeps h⟩
 | recd v=>exact hm
theorem eI {A:World} {fn:Func} {tmps:Array Value} {R:Ending → World → Prop} {K:PM → ab → Prop}:∀ {ds:List fp} {dl:List Deferred} {s:St} {m:PM} {u:FrameMode},Inv A s → eM s ds dl → cT s m u → jO P ds s.h m K →
  (∀ s' m' u',Inv A s' → aT s s' → cT s' m' u' → K m' s'.h → LeavesIn Fence.wide 0 P fn tmps R [] u' s'.w) → LeavesInM Fence.wide 0 P fn tmps R dl u s.w
 | [],[],s,m,u,hi,_,hm,h,hend=>hend s m u hi (.refl s) hm h
 | .coll b :: ds,d :: dl,s,m,u,hi,hd,hm,h,hend=>by
  obtain ⟨⟨blk,e1,rfl⟩,hd2⟩:=hd;simp only [jO] at h
  cases hb:s.h.get b with
  | dfr=>
   rw [hb] at h;simp only at h;have hbs:=ab.get_some hb (by simp);obtain ⟨blk',e2,hB,hh,hnS⟩:=hi.obj b _ hbs;have:blk' = blk:=by rw [e1] at e2; simpa using e2.symm
   subst this;have hown:bu s b .dfr blk':=e1;have hblk:blk' < s.w.heap.size:=(Array.getElem?_eq_some_iff.1 hh).1
   let s1:St:={ h:=s.h.set b .dead,lam:=s.lam,S:=s.S,w:=s.w.putObj blk' (.deferred none) }
   have hk:aL s s1:=⟨fun _ _ _ h=>h,fun _ _ h=>h,fun g o hs=>World.cell?_of_block (a:=⟨g,o,none⟩) (World.putObj_heap_other (fun e=>hnS o (e ▸ hs)))⟩;have hgo:=hi.change (s':=s1) (List.getElem?_eq_some_iff.1 hbs).1 rfl hk (hi.below.trans ⟨rfl,rfl,rfl,by simp [s1],fun g hg=>World.putObj_heap_other (by omega)⟩) (by simp [s1]) (fun _ _ _=>rfl)
    (fun g _ hno=>World.putObj_heap_other (fun e=>hno (e ▸ ⟨_,hbs,hown⟩))) trivial (fun _ h=>h.elim) (fun _ _ h=>.inl h) (fun g x h=>by have:=hi.scell _ _ h; simp [s1]; omega)
   exact ⟨hm.run, .inl ⟨blk',s1.w,rfl,run_takeDeferred hh,eI hgo.1 (hd2.keeps hgo.2.keeps) (hm.keeps hgo.2.keeps) h (fun s' m' u' i' g' q' k'=>hend s' m' u' i' (hgo.2.trans g') q' k')⟩⟩
  | _=>rw [hb] at h; exact h.elim
 | .fn fv args :: ds,d :: dl,s,m,u,hi,hd,hm,h,hend=>by
  unfold jO at h
  split at h
  ·rename_i heq; cases heq
  ·rename_i heq; cases heq
  ·rename_i f caps r heq;cases heq;obtain ⟨hb,h⟩:=h;obtain ⟨⟨cf,cargs,r1,r2,r3⟩,hd2⟩:=hd
   cases r1 with
   | func _ _ _ fi ca hf hc q1 q2=>
    have hfi:fi = #[]:=Array.eq_empty_of_size_eq_zero (by simpa using hf);have hca:cargs = #[]:=Array.eq_empty_of_size_eq_zero (by simpa using r2.1);subst hfi hca;have hdd:d = { target:=.fn (.func f) ca,args:=#[] ++ #[] }:=by
     have:Deferred.ofValue (.func (.func f) #[] ca) #[] = .pure { target:=.fn (.func f) ca,args:=#[] ++ #[] }:=rfl;rw [this] at r3;injection r3 with r3;exact r3.symm
    subst hdd;refine ⟨hm.run, .inr ⟨fun hd=>by simp [Fence.wide] at hd, .func f,ca,f, #[] ++ #[] ++ ca,rfl, ?_,fun _ _=>trivial, ?_⟩⟩
    ·simp only [invoke]; exact iZ hb _ _
    ·refine (h A s _ u rfl hi ⟨by simpa using hc,fun j g1 g2=>by have:=q2 j g1 (by simpa using g2); simpa using this⟩ hm).mono ?_;rintro e u' w' ⟨v,m',s',rfl,rfl,i',g',hm',hk⟩;exact eI i' (hd2.keeps g'.keeps) hm'.settled hk (fun s2 m2 u2 a b c d=>hend s2 m2 u2 a (g'.trans b) c d)
  ·exact h.elim
 | [],_ :: _,_,_,_,_,hd,_,_,_=>hd.elim
 | _ :: _,[],_,_,_,_,hd,_,_,_=>hd.elim
theorem Spec.oL {f:FuncId} {fn:Func} {c:Code} {args:List aa} {rs:List (Nat × Option (Option Nat))} {R:bh → ab → Prop} (hfn:P.funcs[f]? = some fn) (hb:fn.body = some c)
  (hn:fn.ntmps = N) (hrs:dJ P rs fn.results.toList = true) (ha:args.length ≤ N)
  (h:AWc P N none c (ln P rs R) { v:=bF args 0,ds:=[] } σ):Spec P f args σ R:=by
 intro A s cargs h1 h2 h3;refine callsIn_wide.1 (callsIn_of_wp_marks (n:=0) (F:=Fence.wide) hfn hb trivial ?_);have hfr:bK s N { v:=bF args 0,ds:=[] } { tmps:=cargs ++ Array.replicate (fn.ntmps - cargs.size) Go.undef,defers:=[] }:=by
  have:=h3.1;refine ⟨by simp; omega,fun t=>?_,trivial⟩;rw [gv];simp only [Nat.zero_le,if_true,Nat.sub_zero];by_cases ht:t < args.length
  ·have h4:t < cargs.size:=by omega
   have:=h3.2 t ht h4;simpa [List.getD,List.getElem?_eq_getElem ht,Array.getD_eq_getD_getElem?,Array.getElem?_append,h4] using this
  ·have:args.getD t .undef = .undef:=by simp [List.getD,List.getElem?_eq_none (by omega:args.length ≤ t)]
   rw [this]; exact .undef _
 refine wpIn_mono (h A s _ none h1 h2 hfr rfl) ?_;rintro e a' w' ⟨ex,fr',s',rfl,hi,hg,hf,he,hq⟩;have hend:∀ s2 m2 u2,Inv A s2 → aT s' s2 → cT s2 m2 u2 → Cq rs R fr'.v m2 s2.h → LeavesIn Fence.wide 0 P fn a'.tmps (bj A s R) [] u2 s2.w:=by
  intro s2 m2 u2 i2 g2 hm hk
  cases m2 with
  | none=>
   have hm:u2 = .returning:=hm;subst hm;obtain ⟨v,e1,e2⟩:=im i2 (hf.keeps g2.keeps) hrs hk.1;exact ⟨v,e1, .ret _,s2,rfl,i2,hg.trans g2,e2,hk.2⟩
  | pan v=>
   obtain ⟨c,rfl,hr⟩:=hm;exact ⟨.pan _,s2,rfl,i2,hg.trans g2,⟨c,rfl,hr⟩,hk⟩
  | recd v=>exact hk.elim
 cases ex <;> cases e <;> first | (exact he.elim) | (exact hq.elim) | skip
 ·exact eI hi hf.ds (m:=.none) rfl hq hend
 ·exact eI hi hf.ds (m:=.none) rfl hq hend
 ·obtain ⟨c,rfl,hrc⟩:=he;exact eI hi hf.ds (m:=.pan _) ⟨c,rfl,hrc⟩ hq hend
/-! ### A literal function that recovers -/
def kZ (t d:Nat) (N:Nat):List Oper → Bool
 | [o0,o1]=>decide (o0.dst = some t) && decide (t < N) && o0.guard.isNone && (match o0.op with
   | .call c=>(match c.callee with | .builtin .recover=>true | _=>false) && c.args.isEmpty
   | _=>false) && decide (o1.dst = some d) && decide (d < N) && o1.guard.isNone && (match o1.op with
   | .assign (.tmp t')=>t == t'
   | _=>false)
 | _=>false
def lQ (P:Program) (fn:Func) (N t d:Nat) (rest:AC):Bool:=
 decide (fn.ntmps = N) && fn.results.isEmpty && match fn.body with
  | some (.seq (.region _ os false) y)=>kZ t d N os.toList && bd P N rest y
  | _=>false
def jU (K:ab → Prop):AEx → Fr → ab → Prop
 | .normal,fr,σ | .ret,fr,σ=>fr.ds = [] ∧ K σ
 | _,_,_=>False
def FD (fn:Func):Option Code:=match fn.body with
 | some (.seq (.region _ _ false) y)=>some y
 | _=>none
theorem eH.FY {f:FuncId} {fn:Func} {t d:Nat} {rest:AC} {args:List aa} {m:PM} {Q:PM → ab → Prop} (hfn:P.funcs[f]? = some fn) (hc:lQ P fn N t d rest = true) (ha:args.length ≤ N)
  (h0:∀ y,FD fn = some y → bd P N rest y = true → AWc P N none y (jU (Q m.after)) { v:=(d,m.val) :: (t, .undef) :: bF args 0,ds:=[] } σ):eH P f args σ m Q:=by
 intro A s cargs u h1 h2 h3 hm;subst h1;simp only [lQ,Bool.and_eq_true,decide_eq_true_eq] at hc;obtain ⟨⟨hN,hres⟩,hbody⟩:=hc
 split at hbody
 ·rename_i id os y hb;simp only [Bool.and_eq_true] at hbody;obtain ⟨hrec,hcy⟩:=hbody;have h:=h0 y (by simp [FD,hb]);have hres':fn.results = #[]:=by simpa using hres
  have hfr:bK s N { v:=bF args 0,ds:=[] } { tmps:=cargs ++ Array.replicate (fn.ntmps - cargs.size) Go.undef,defers:=[] }:=by
   have:=h3.1;refine ⟨by simp; omega,fun t=>?_,trivial⟩;rw [gv];simp only [Nat.zero_le,if_true,Nat.sub_zero];by_cases ht:t < args.length
   ·have h4:t < cargs.size:=by omega
    have:=h3.2 t ht h4;simpa [List.getD,List.getElem?_eq_getElem ht,Array.getD_eq_getD_getElem?,Array.getElem?_append,h4] using this
   ·have:args.getD t .undef = .undef:=by simp [List.getD,List.getElem?_eq_none (by omega:args.length ≤ t)]
    rw [this]; exact .undef _
  cases hos:os.toList with
  | nil=>rw [hos] at hrec; simp [kZ] at hrec
  | cons o0 l=>
   cases l with
   | nil=>rw [hos] at hrec; simp [kZ] at hrec
   | cons o1 l=>
    cases l with
    | cons _ _=>rw [hos] at hrec; simp [kZ] at hrec
    | nil=>
     rw [hos] at hrec;have hos':os = #[o0,o1]:=by apply Array.ext'; simpa using hos
     subst hos';obtain ⟨d0,op0,ty0,pos0,af0,g0⟩:=o0;obtain ⟨d1,op1,ty1,pos1,af1,g1⟩:=o1;simp only [kZ,Bool.and_eq_true,decide_eq_true_eq] at hrec;obtain ⟨⟨⟨⟨⟨⟨⟨c1,c2⟩,c3⟩,c4⟩,c5⟩,c6⟩,c7⟩,c8⟩:=hrec;subst c1 c5;have c3':g0 = none:=by simpa using c3
     have c7':g1 = none:=by simpa using c7
     subst c3' c7'
     split at c4
     ·rename_i cl;obtain ⟨cal,ca,ct⟩:=cl;simp only [Bool.and_eq_true] at c4;obtain ⟨c4,c4'⟩:=c4
      split at c4
      ·have c4'':ca = #[]:=by simpa using c4'
       subst c4''
       split at c8
       ·rename_i t';simp only [beq_iff_eq] at c8;subst c8;refine callsDIn_of_wpSIn hfn hb trivial (fun c₀ cs hmode=>?_);refine wpSIn_seq (wpSIn_region ?_);generalize hact:({ tmps:=cargs ++ Array.replicate (fn.ntmps - cargs.size) Go.undef,defers:=[] }:Act) = a at hfr ⊢
        -- what comes behind 'recover'
        have hnext:∀ (c:Value) (cs':List Frame) (u':FrameMode),Rv s m.val c → cs' = { c₀ with mode:=u' } :: cs → cT s m.after u' →
          wpOpsSIn Fence.wide 0 P #[{ dst:=some t,op:=Op.call { callee:=.builtin .recover,args:=#[],argTypes:=ct },type:=ty0,pos:=pos0,after:=af0,guard:=none },{ dst:=some d,op:=Op.assign (.tmp t),type:=ty1,pos:=pos1,after:=af1,guard:=none }]
           (Exit.thenS (y.wpSIn Fence.wide 0 P (bodyPostS P fn c₀ cs fun e u' w'=>∃ v m' s',e = .returned v ∧ s'.w = w' ∧ Inv A s' ∧ aT s s' ∧ cT s' m' u' ∧ Q m' s'.h)) (bodyPostS P fn c₀ cs fun e u' w'=>∃ v m' s',e = .returned v ∧ s'.w = w' ∧ Inv A s' ∧ aT s s' ∧ cT s' m' u' ∧ Q m' s'.h))
           [1] (a.put (some t) c) cs' s.w:=by
         intro c cs' u' hc hcs hm';subst hcs;have f1:=hfr.put (d:=some t) (d':=some t) (by simp [n9,c2]) (v:=.undef) (.undef c);have hev:(a.put (some t) c).eval (.tmp t) = c:=by
          have:t < a.tmps.size:=by rw [hfr.size]; exact c2
          simp [Act.eval,Act.put,this]
         have f2:=f1.put (d:=some d) (d':=some d) (by simp [n9,c6]) hc;simp only [wpOpsSIn,List.getElem?_toArray,List.getElem?_cons_zero,List.getElem?_cons_succ];refine ⟨fun _ _=>trivial, ?_⟩;rw [if_pos (by simp [Region.wanted])];simp only [execOp,hev,Sem.run_pure];show y.wpSIn Fence.wide 0 P _ _ _ _
         refine wpSIn_of_wpIn rfl (wpIn_mono (h hcy A s _ none rfl h2 f2 rfl) ?_);rintro e a' w' ⟨ex,fr',s',rfl,hi,hg,hf,he,hq⟩;have fin:fr'.ds = [] ∧ Q m.after s'.h → a'.defers = [] ∧ ∃ u'',({ c₀ with mode:=u' } :: cs:List Frame) = { c₀ with mode:=u'' } :: cs ∧ ∃ v,(results fn a'.tmps).run P s'.w = .ok v s'.w ∧ ∃ v' m' s'',Ending.returned v = .returned v' ∧ s''.w = s'.w ∧ Inv A s'' ∧ aT s s'' ∧ cT s'' m' u'' ∧ Q m' s''.h:=by
          rintro ⟨q1,q2⟩;have hd:=hf.ds;rw [q1] at hd
          refine ⟨by cases hdd:a'.defers with
           | nil=>rfl
           | cons _ _=>rw [hdd] at hd; exact hd.elim,u',rfl, .tuple #[], ?_,_,m.after,s',rfl,rfl,hi,hg,hm'.keeps hg.keeps,q2⟩
          rw [lI,hres']; simp
         cases ex <;> cases e <;> first | (exact he.elim) | (exact hq.elim) | exact fin hq
        show wpOpsSIn Fence.wide 0 P _ _ [0,1] a (c₀ :: cs) s.w
        rw [wpOpsSIn];simp only [List.getElem?_toArray,List.getElem?_cons_zero];refine ⟨fun _ _=>trivial, ?_⟩;rw [if_pos (by simp [Region.wanted])];have hrun:(execOp a.eval { dst:=some t,op:=Op.call { callee:=.builtin .recover,args:=#[],argTypes:=ct },type:=ty0,pos:=pos0,after:=af0,guard:=none }).run P s.w = .ok .recover s.w:=by
         simp [execOp,resolve,invoke,builtin]
        rw [hrun];simp only
        cases m with
        | none=>
         have hm:u = .returning:=hm;subst hm;have hr:recoverD (c₀ :: cs) = none:=by simp [recoverD,hmode]
         rw [hr];exact hnext .nilIface (c₀ :: cs) .returning .niliface (by rw [← hmode]) rfl
        | pan v=>
         obtain ⟨c,rfl,hr⟩:=hm;have hr':recoverD (c₀ :: cs) = some (c,{ c₀ with mode:=.panicking [{ v:=c,recovered:=true }] } :: cs):=by simp [recoverD,hmode]
         rw [hr'];exact hnext c _ _ hr rfl ⟨c,rfl⟩
        | recd v=>
         obtain ⟨c,rfl⟩:=hm;have hr:recoverD (c₀ :: cs) = none:=by simp [recoverD,hmode]
         rw [hr];exact hnext .nilIface (c₀ :: cs) _ .niliface (by rw [← hmode]) ⟨c,rfl⟩
       ·cases c8
      ·cases c4
     ·cases c4
 ·cases hbody
theorem eH.pG {f:FuncId} {fn:Func} {t d:Nat} {rest:AC} {args:List aa} {m:PM} {Q:PM → ab → Prop} (hfn:P.funcs[f]? = some fn) (hc:lQ P fn N t d rest = true) (ha:args.length ≤ N)
  (h:AW P N none rest (jU (Q m.after)) { v:=(d,m.val) :: (t, .undef) :: bF args 0,ds:=[] } σ):eH P f args σ m Q:=
 eH.FY hfn hc ha fun y _ hcy=>h y hcy
end
attribute [simp] ln jO Cq jU PM.settle PM.val PM.after
end Go.AM
