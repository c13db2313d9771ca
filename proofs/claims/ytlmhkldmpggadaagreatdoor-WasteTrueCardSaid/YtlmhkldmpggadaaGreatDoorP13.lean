/- A region whose order Go leaves open: calls that write, ordered among themselves, which may panic; calls that touch nothing, at any time. -/
import Derived.Test.YtlmhkldmpggadaaGreatDoorP12
namespace Go.AM
open Go.RowKit
def AI.MM:AI → Bool
 | .panic _=>false
 | _=>true
def vY (o:aL):Bool:=o.i.quiet || (o.i.MM && o.g.isNone)
def ccs (P:Program) (e:Env) (σ:af) (o:aL):Prop:=
 if o.i.quiet then gqs e σ o ∧ (match o.d with
  | some d=>e.get d = gqv e σ o
  | none=>True)
 else p9 P o.i e σ (fun v σ'=>σ' = σ ∧ match o.d with
  | some d=>e.get d = v
  | none=>True) fun _ _=>False
def wU (ops:List aL):List Nat → List ag → Env → af → Env
 | [],_,e,_=>e
 | i :: r,vs,e,σ=>match ops[i]? with
  | some o=>if o.i.quiet then wU ops r vs (e.put o.d (gqv e σ o)) σ else wU ops r vs.tail (e.put o.d (vs.headD .undef)) σ
  | none=>wU ops r vs e σ
def FU (P:Program) (ops:List aL) (no:List Nat) (e:Env) (σ:af):List Nat → Prop
 | []=>True
 | i :: r=>(if no.contains i then True else match ops[i]? with
  | some o=>ccs P e σ o
  | none=>True) ∧ FU P ops no e σ r
def cql (P:Program) (o:aL) (e:Env) (σ:af) (K Kp:ag → af → Prop):Prop:=match o.g with
 | none=>p9 P o.i e σ K Kp
 | some gd=>match iv e gd with
  | none=>False
  | some g=>(g = true → p9 P o.i e σ K Kp) ∧ (g = false → K (.opt false .undef) σ)
def uI (P:Program) (ops:List aL) (bef:List (List Nat)) (last:List Nat):List (List Nat × Nat) → List Nat → List Nat → Env → af → (Env → af → Prop) → (ag → af → Prop) → Prop
 | [],done,no,e,σ,K,_=>∃ vs,FU P ops no (wU ops last vs e σ) σ (done ++ last) ∧ K (wU ops last vs e σ) σ
 | (qs,l) :: r,done,no,e,σ,K,Kp=>∃ vs,FU P ops no (wU ops qs vs e σ) σ (done ++ qs) ∧ match ops[l]? with
  | some o=>cql P o (wU ops qs vs e σ) σ (fun v σ'=>uI P ops bef last r (done ++ qs) (bef.getD l []) ((wU ops qs vs e σ).put o.d v) σ' K Kp) Kp
  | none=>False
def s8 (ops:List aL) (bef:List (List Nat)) (last:List Nat):List (List Nat × Nat) → Option Nat → Bool
 | [],p=>last.all fun i=>(match ops[i]? with | some o=>vY o | none=>false) && (match p with | some l=>(bef.getD i []).contains l | none=>true)
 | (qs,l) :: r,p=>(qs.all fun i=>(match ops[i]? with | some o=>vY o | none=>false) && (match p with | some l=>(bef.getD i []).contains l | none=>true)) &&
   (match ops[l]? with | some o=>!o.i.quiet | none=>false) && (match p with | some l'=>(bef.getD l []).contains l' | none=>true) && s8 ops bef last r (some l)
def nodupB:List Nat → Bool
 | []=>true
 | i :: r=>!r.contains i && nodupB r
theorem uJ:∀ {l:List Nat},nodupB l = true → l.Nodup
 | [],_=>.nil
 | i :: r,h=>by
  simp only [nodupB,Bool.and_eq_true,Bool.not_eq_true',List.contains_eq_mem,decide_eq_false_iff_not] at h;exact List.nodup_cons.2 ⟨h.1,uJ h.2⟩
def lR:List (List Nat × Nat) → Option Nat
 | []=>none
 | [(_,l)]=>some l
 | _ :: r=>lR r
theorem Dz {qs qs':List Nat} {l:Nat}:∀ {r:List (List Nat × Nat)},lR ((qs,l) :: r) = lR ((qs',l) :: r)
 | []=>rfl
 | _ :: _=>rfl
theorem DA {q:List Nat × Nat}:∀ {r:List (List Nat × Nat)},r ≠ [] → lR (q :: r) = lR r
 | [],h=>absurd rfl h
 | _ :: _,_=>rfl
def tM (bef:List (List Nat)) (last:List Nat) (L:Option Nat) (j:Nat) (rs:List Nat):List aL → Nat → Bool
 | [],_=>true
 | o :: r,i=>(match o.d with
  | some d=>!rs.contains d || (bef.getD j []).contains i || (match L with
   | some l=>last.contains i && ((bef.getD l []).contains j || j == l)
   | none=>false)
  | none=>true) && tM bef last L j rs r (i + 1)
def A5 (bef:List (List Nat)) (last:List Nat) (L:Option Nat) (all:List aL):List aL → Nat → Bool
 | [],_=>true
 | o :: r,j=>tM bef last L j (cC o) all 0 && A5 bef last L all r (j + 1)
theorem uM {bef:List (List Nat)} {last:List Nat} {L:Option Nat} {j:Nat} {rs:List Nat}:∀ {l:List aL} {k i:Nat} {o:aL} {d:Nat},tM bef last L j rs l k = true → l[i]? = some o → o.d = some d → d ∈ rs →
  (k + i) ∈ bef.getD j [] ∨ ∃ l,L = some l ∧ (k + i) ∈ last ∧ (j ∈ bef.getD l [] ∨ j = l)
 | [],_,_,_,_,_,h,_,_=>by simp at h
 | a :: r,k,0,o,d,hb,h,hd,hm=>by
  simp at h; subst h;simp only [tM,hd,Bool.and_eq_true,Bool.or_eq_true,Bool.not_eq_true',List.contains_eq_mem,decide_eq_false_iff_not,decide_eq_true_eq] at hb;rcases hb.1 with (h | h) | h
  ·exact absurd hm h
  ·exact .inl h
  ·cases L with
   | none=>simp at h
   | some l=>
    simp only [Bool.and_eq_true,Bool.or_eq_true,decide_eq_true_eq,beq_iff_eq] at h;exact .inr ⟨l,rfl,h.1,h.2⟩
 | a :: r,k,i + 1,o,d,hb,h,hd,hm=>by
  simp only [tM,Bool.and_eq_true] at hb;have:=uM hb.2 (i:=i) (by simpa using h) hd hm;rw [show k + (i + 1) = k + 1 + i by omega]; exact this
theorem xM {bef:List (List Nat)} {last:List Nat} {L:Option Nat} {all:List aL}:∀ {l:List aL} {k j:Nat} {o:aL},A5 bef last L all l k = true → l[j]? = some o → tM bef last L (k + j) (cC o) all 0 = true
 | [],_,_,_,_,h=>by simp at h
 | a :: r,k,0,o,hb,h=>by simp at h; subst h; simp only [A5,Bool.and_eq_true] at hb; exact hb.1
 | a :: r,k,j + 1,o,hb,h=>by
  simp only [A5,Bool.and_eq_true] at hb;have:=xM hb.2 (j:=j) (o:=o) (by simpa using h);rw [show k + (j + 1) = k + 1 + j by omega]; exact this
def IH (P:Program) (N:Nat) (os:Array Oper) (ops:List aL) (bef:List (List Nat)) (st:List (List Nat × Nat)) (last:List Nat):Bool:=
 e9 P N os ops os.toList && P.follows .mixedOrders && xa bef os.toList 0 && A5 bef last (lR st) ops ops 0 && uQ ops && s8 ops bef last st none && (List.range ops.length).all (fun i=>(cE last st).contains i) && nodupB (cE last st)
def iH:List aL → Env → Env
 | [],e=>e
 | o :: r,e=>match o.d with
  | some d=>(d, .undef) :: iH r e
  | none=>iH r e
theorem yL {x:Nat} {e:Env}:∀ {l:List aL},(∀ o ∈ l,o.d ≠ some x) → (iH l e).get x = e.get x
 | [],_=>rfl
 | o :: r,h=>by
  simp only [iH];have hr:=yL (x:=x) (e:=e) (l:=r) fun o' ho=>h o' (by simp [ho])
  cases hd:o.d with
  | none=>exact hr
  | some d=>
   simp only [Env.get];rw [if_neg (fun e=>h o (by simp) (by rw [hd,e])),hr]
theorem om {x:Nat} {e:Env}:∀ {l:List aL},(∃ o ∈ l,o.d = some x) → (iH l e).get x = .undef
 | [],h=>by obtain ⟨o,ho,_⟩:=h; cases ho
 | o :: r,h=>by
  simp only [iH]
  cases hd:o.d with
  | none=>
   obtain ⟨o',ho,hx⟩:=h;rcases List.mem_cons.1 ho with e | ho
   ·subst e; rw [hd] at hx; cases hx
   ·exact om ⟨o',ho,hx⟩
  | some d=>
   simp only [Env.get];by_cases hdx:d = x
   ·rw [if_pos hdx]
   ·rw [if_neg hdx];obtain ⟨o',ho,hx⟩:=h;rcases List.mem_cons.1 ho with e | ho
    ·subst e; rw [hd] at hx; exact absurd (Option.some.inj hx) hdx
    ·exact om ⟨o',ho,hx⟩
theorem kC {ops:List aL} {x:Nat}:∀ {l:List Nat} {vs:List ag} {e:Env} {σ:af},(∀ i ∈ l, ∀ o,ops[i]? = some o → o.d ≠ some x) → (wU ops l vs e σ).get x = e.get x
 | [],_,_,_,_=>rfl
 | i :: r,vs,e,σ,h=>by
  simp only [wU]
  cases ho:ops[i]? with
  | none=>exact kC fun j hj=>h j (by simp [hj])
  | some o=>
   simp only;split
   ·rw [kC fun j hj=>h j (by simp [hj]),dN,if_neg (h i (by simp) o ho)]
   ·rw [kC fun j hj=>h j (by simp [hj]),dN,if_neg (h i (by simp) o ho)]
theorem wA {P:Program} {ops:List aL} {no:List Nat} {e:Env} {σ:af}:∀ {l:List Nat},FU P ops no e σ l → ∀ {i:Nat} {o:aL},i ∈ l → i ∉ no → ops[i]? = some o → ccs P e σ o
 | [],_,_,_,hi,_,_=>by cases hi
 | j :: r,h,i,o,hi,hn,ho=>by
  simp only [FU] at h;obtain ⟨h1,h2⟩:=h;rcases List.mem_cons.1 hi with e | hi
  ·subst e;have hc:no.contains i = false:=by simpa using hn
   rw [hc] at h1;simpa only [Bool.false_eq_true,if_false,ho] using h1
  ·exact wA h2 hi hn ho
theorem xd {last:List Nat} {i:Nat} (h:i ∈ last):∀ {r:List (List Nat × Nat)},i ∈ cE last r
 | []=>h
 | (qs,l) :: r=>by simp only [cE,List.mem_append,List.mem_cons]; exact .inr (.inr (xd h))
section
variable {P:Program} {N:Nat} {A:World}
def COk (ops:List aL) (bef:List (List Nat)) (last:List Nat):Option (Nat × List (List Nat × Nat)) → Prop
 | none=>True
 | some (l,r)=>(∃ o,ops[l]? = some o ∧ o.i.quiet = false) ∧ s8 ops bef last r (some l) = true
def RP (P:Program) (ops:List aL) (bef:List (List Nat)) (last:List Nat) (K:Env → af → Prop) (Kp:ag → af → Prop) (E:Env) (σ:af) (done:List Nat):Option (Nat × List (List Nat × Nat)) → Prop
 | none=>K E σ
 | some (l,r)=>∃ o,ops[l]? = some o ∧ cql P o E σ (fun v σ'=>uI P ops bef last r done (bef.getD l []) (E.put o.d v) σ' K Kp) Kp
structure FW (P:Program) (A:World) (N:Nat) (L0:Option Nat) (s0:St) (ops:List aL) (bef:List (List Nat)) (last:List Nat) (fr0:Fr) (K:Env → af → Prop) (Kp:ag → af → Prop) (p:Nat → Bool) (s:St) (a:Act) (E:Env) (done:List Nat) (rm:Option (Nat × List (List Nat × Nat))):Prop where
 inv:Inv A s
 goes:bV s0 s
 size:a.tmps.size = N
 ds:jH s fr0.ds a.defers
 v:∀ x,(∀ (i:Nat) (o:aL),ops[i]? = some o → o.d = some x → p i = true ∨ i ∈ bY last rm) → Rv s (E.get x) (a.tmps.getD x Go.undef)
 lp:rm = none → ∀ l,L0 = some l → p l = true
 lr:∀ q,rm = some q → L0 = lR (([],q.1) :: q.2)
 closed:∀ j,p j = true → ∀ i ∈ bef.getD j [],p i = true
 quiets:∀ i,i ∈ done → p i = false → ∀ o,ops[i]? = some o → ccs P E s.h o
 base:∀ x,(∀ (i:Nat) (o:aL),ops[i]? = some o → o.d ≠ some x) → E.get x = fr0.v.get x
 nd:∀ i,i ∈ done → i ∉ bY last rm
 dq:∀ i,i ∈ done → ∃ o,ops[i]? = some o ∧ vY o = true
 todo:∀ i,i ∈ bY last rm → p i = false
 cover:∀ i,i < ops.length → i ∈ done ∨ i ∈ bY last rm ∨ p i = true
 ok:COk ops bef last rm
 cont:RP P ops bef last K Kp E s.h done rm
theorem zg {ops:List aL} {bef:List (List Nat)} {last:List Nat} {l:Nat}:∀ {r:List (List Nat × Nat)},s8 ops bef last r (some l) = true → ∀ i,i ∈ cE last r → ∃ l',l' ∈ l :: cE last r ∧ l' ∈ bef.getD i []
 | [],h,i,hi=>by
  simp only [s8,List.all_eq_true,Bool.and_eq_true] at h;have:=(h i hi).2;exact ⟨l,by simp,by simpa using this⟩
 | (qs,l2) :: r,h,i,hi=>by
  simp only [s8,Bool.and_eq_true,List.all_eq_true] at h;obtain ⟨⟨⟨h1,h2⟩,h3⟩,h4⟩:=h;simp only [cE,List.mem_append,List.mem_cons] at hi;rcases hi with hi | hi | hi
  ·exact ⟨l,by simp,by simpa using (h1 i hi).2⟩
  ·subst hi; exact ⟨l,by simp,by simpa using h3⟩
  ·obtain ⟨l',a,b⟩:=zg h4 i hi;refine ⟨l', ?_,b⟩;simp only [cE,List.mem_cons,List.mem_append] at a ⊢;exact .inr (.inr a)
theorem EZ {ops:List aL} {bef:List (List Nat)} {qs:List Nat} {p:Option Nat} (h:(qs.all fun i=>(match ops[i]? with | some o=>vY o | none=>false) && (match p with | some l=>(bef.getD i []).contains l | none=>true)) = true) :
  ∀ i ∈ qs, ∃ o,ops[i]? = some o ∧ vY o = true:=by
 intro i hi;have:=List.all_eq_true.1 h i hi;simp only [Bool.and_eq_true] at this
 cases ho:ops[i]? with
 | none=>rw [ho] at this; simp at this
 | some o=>rw [ho] at this; exact ⟨o,rfl,this.1⟩
theorem FW.enter {L0:Option Nat} {s0:St} {ops:List aL} {bef:List (List Nat)} {last:List Nat} {fr0:Fr} {K:Env → af → Prop} {Kp:ag → af → Prop} {p:Nat → Bool} {s:St} {a:Act} {E0:Env} {done no:List Nat} {r:List (List Nat × Nat)} {pv:Option Nat}
  (hi:Inv A s) (hg:bV s0 s) (hs:a.tmps.size = N) (hd:jH s fr0.ds a.defers) (hv:∀ x,(∀ (i:Nat) (o:aL),ops[i]? = some o → o.d = some x → p i = true ∨ i ∈ cE last r) → Rv s (E0.get x) (a.tmps.getD x Go.undef)) (hl0:r = [] → ∀ l,L0 = some l → p l = true) (hl1:r ≠ [] → L0 = lR r)
  (hc:∀ j,p j = true → ∀ i ∈ bef.getD j [],p i = true) (hno:∀ i ∈ no,p i = true) (hdq:∀ i,i ∈ done → ∃ o,ops[i]? = some o ∧ vY o = true) (hbase:∀ x,(∀ (i:Nat) (o:aL),ops[i]? = some o → o.d ≠ some x) → E0.get x = fr0.v.get x) (hnd:∀ i,i ∈ done → i ∉ cE last r) (hnu:(cE last r).Nodup) (htodo:∀ i,i ∈ cE last r → p i = false)
  (hcov:∀ i,i < ops.length → i ∈ done ∨ i ∈ cE last r ∨ p i = true) (hok:s8 ops bef last r pv = true) (he:uI P ops bef last r done no E0 s.h K Kp) :
  ∃ E done' rm,FW P A N L0 s0 ops bef last fr0 K Kp p s a E done' rm ∧ ∀ q,rm = some q → (cE last q.2).Nodup:=by
 cases r with
 | nil=>
  obtain ⟨vs,h1,h2⟩:=he;simp only [s8] at hok;have hq:=EZ hok;refine ⟨_,done ++ last,none,⟨hi,hg,hs,hd,fun x hx=>?_,fun _=>hl0 rfl,fun q hq=>(by cases hq),hc,fun i h3 h4 o ho=>wA h1 h3 (fun hn=>by rw [hno i hn] at h4; cases h4) ho,fun x hx=>(kC fun i _ o ho=>hx i o ho).trans (hbase x hx),fun i _=>by simp [bY],fun i h3=>?_,fun i h3=>by simp [bY] at h3,fun i h3=>?_,trivial,h2⟩,fun q hq=>by cases hq⟩
  ·rw [kC (fun i hi o ho hd=>by
    rcases hx i o ho hd with h | h
    ·rw [htodo i (by simpa [cE] using hi)] at h; cases h
    ·simp [bY] at h)]
   exact hv x fun i o ho hd=>.inl ((hx i o ho hd).resolve_right (by simp [bY]))
  ·rcases List.mem_append.1 h3 with h3 | h3
   ·exact hdq i h3
   ·exact hq i h3
  ·rcases hcov i h3 with h | h | h
   ·exact .inl (by simp [h])
   ·exact .inl (by simp [cE] at h; simp [h])
   ·exact .inr (.inr h)
 | cons st r=>
  obtain ⟨qs,l⟩:=st;obtain ⟨vs,h1,h2⟩:=he;simp only [s8,Bool.and_eq_true] at hok;have hnu2:(l :: cE last r).Nodup:=by simp only [cE] at hnu; exact (List.nodup_append.1 hnu).2.1
  have hnd2:∀ i,i ∈ qs → i ∉ l :: cE last r:=fun i h3 h4=>by simp only [cE] at hnu; exact (List.nodup_append.1 hnu).2.2 i h3 i h4 rfl
  obtain ⟨⟨⟨k1,k2⟩,k3⟩,k4⟩:=hok;have hq:=EZ k1
  cases hl:ops[l]? with
  | none=>rw [hl] at h2; exact h2.elim
  | some o=>
   rw [hl] at h2 k2;simp only [Bool.not_eq_true'] at k2;refine ⟨_,done ++ qs,some (l,r),⟨hi,hg,hs,hd,fun x hx=>?_,fun h=>(by cases h),fun q hq=>(by cases hq; exact (hl1 (by simp)).trans Dz),hc,fun i h3 h4 o ho=>wA h1 h3 (fun hn=>by rw [hno i hn] at h4; cases h4) ho,fun x hx=>(kC fun i _ o ho=>hx i o ho).trans (hbase x hx),fun i h3=>?_,fun i h3=>?_,fun i h3=>?_,fun i h3=>?_,⟨⟨o,hl,k2⟩,k4⟩,⟨o,hl,h2⟩⟩,fun q hq=>by cases hq; exact (List.nodup_cons.1 hnu2).2⟩
   ·rw [kC (fun i hi o ho hd=>by
     rcases hx i o ho hd with h | h
     ·rw [htodo i (by simp [cE,hi])] at h; cases h
     ·exact hnd2 i hi (by simpa [bY] using h))]
    exact hv x fun i o ho hd=>(hx i o ho hd).imp id fun h=>by
     simp only [bY] at h;simp only [cE,List.mem_append]; exact .inr h
   ·rcases List.mem_append.1 h3 with h3 | h3
    ·intro h4; exact hnd i h3 (by simp only [bY] at h4; simp only [cE,List.mem_append]; exact .inr h4)
    ·exact hnd2 i h3
   ·rcases List.mem_append.1 h3 with h3 | h3
    ·exact hdq i h3
    ·exact hq i h3
   ·exact htodo i (by simp only [bY,List.mem_cons] at h3; simp only [cE,List.mem_append,List.mem_cons]; exact .inr h3)
   ·rcases hcov i h3 with h | h | h
    ·exact .inl (by simp [h])
    ·simp only [cE,List.mem_append,List.mem_cons] at h;rcases h with h | h
     ·exact .inl (by simp [h])
     ·exact .inr (.inl (by simpa [bY] using h))
    ·exact .inr (.inr h)
theorem Em {id:Nat} {os:Array Oper} {ops:List aL} {bef:List (List Nat)} {st:List (List Nat × Nat)} {last:List Nat} {ro:Option Nat} {Q:AEx → Fr → af → Prop} {fr:Fr} {σ:af} (hc:IH P N os ops bef st last = true)
  (h:uI P ops bef last st [] [] fr.v σ (fun e σ'=>Q .normal { fr with v:=e } σ') (fun v σ'=>Q (.panic v) { fr with v:=iH ops fr.v } σ')):AWc P N ro (.region id os true) Q fr σ:=by
 simp only [IH,Bool.and_eq_true] at hc;obtain ⟨⟨⟨⟨⟨⟨⟨hc1,hmix⟩,hbef⟩,hrd⟩,hdst⟩,hst⟩,hall⟩,hnu⟩:=hc;intro A s a r h1 h2 h3 h4;subst h1;have hlen:ops.length = os.size:=by simpa using mF hc1
 let sd:St:={ s with w:={ s.w with drawn:=s.w.drawn + 1 } }
 have kd:bq s sd:=⟨fun _ _ _ h=>h,fun _ _ h=>h,fun _ _ _=>rfl⟩;have gd:=h2.grow (s':=sd) rfl rfl kd ⟨h2.below.os,h2.below.tape,h2.below.output,h2.below.size,h2.below.block⟩ (Nat.le_refl _) (fun _ _=>rfl) (fun _ _ h=>.inl h) h2.scell
 have key : ∀ (fuel : Nat) (listed : Array Bool) (s2 : St) (a2 : Act) (E : Env) (done : List Nat) (rm : Option (Nat × List (List Nat × Nat))),listed.size = os.size → cnt listed.toList ≤ fuel → (∀ q,rm = some q → (cE last q.2).Nodup) →
   FW P A N (lR st) s ops bef last fr (fun e σ'=>Q .normal { fr with v:=e } σ') (fun v σ'=>Q (.panic v) { fr with v:=iH ops fr.v } σ') (fun j=>listed.getD j false) s2 a2 E done rm → wpAnyIn (Fro r) 0 P .any os (gO A N s Q) fuel listed a2 s2.w:=by
  have hready:∀ (listed:Array Bool),listed.size = os.size → Region.ready .any os listed = [] → ∀ j,j < os.size → listed.getD j false = true:=by
   intro listed hsz hr j
   induction j using Nat.strongRecOn with
   | _ j ih=>
    intro hj
    cases hl:listed.getD j false with
    | true=>rfl
    | false=>
     have hj':j < listed.size:=by omega
     have:j ∈ Region.ready .any os listed:=by
      refine mem_ready.2 ⟨by simpa [Array.getD_eq_getD_getElem?,hj'] using hl,os[j],by simp [hj],fun e he hb=>?_⟩;have hb1:=ft hbef (j:=j) (o:=os[j]) (by simp [hj]);simp only [nh,Nat.zero_add,Bool.and_eq_true,List.all_eq_true] at hb1;have:=hb1.1 e (by simpa using he);simp only [hb,Bool.not_true,Bool.false_or,decide_eq_true_eq] at this;exact ih e.on this (by omega)
     rw [hr] at this; cases this
  have hdone:∀ (listed:Array Bool) (s2:St) (a2:Act) (E:Env) (done:List Nat) (rm:Option (Nat × List (List Nat × Nat))),listed.size = os.size →
    FW P A N (lR st) s ops bef last fr (fun e σ'=>Q .normal { fr with v:=e } σ') (fun v σ'=>Q (.panic v) { fr with v:=iH ops fr.v } σ') (fun j=>listed.getD j false) s2 a2 E done rm → Region.ready .any os listed = [] → gO A N s Q .normal a2 s2.w:=by
   intro listed s2 a2 E done rm hsz hd hr;have hall:=hready listed hsz hr;have hlt:∀ i o,ops[i]? = some o → i < os.size:=fun i o h=>by
    rcases Nat.lt_or_ge i os.size with h' | h'
    ·exact h'
    ·rw [List.getElem?_eq_none (by omega)] at h; cases h
   cases rm with
   | none=>exact ⟨.normal,{ fr with v:=E },s2,rfl,hd.inv,hd.goes,⟨hd.size,fun t=>hd.v t fun i o ho _=>.inl (hall i (hlt i o ho)),hd.ds⟩,trivial,hd.cont⟩
   | some q=>
    obtain ⟨l,r'⟩:=q;obtain ⟨⟨o,ho,_⟩,_⟩:=hd.ok;have h1:=hd.todo l (by simp [bY]);have h2:=hall l (hlt l o ho);rw [h2] at h1; cases h1
  intro fuel
  induction fuel with
  | zero=>
   intro listed s2 a2 E done rm hsz hcnt hrmn hd;have hr:Region.ready .any os listed = []:=by
    cases hr:Region.ready .any os listed with
    | nil=>rfl
    | cons i l=>
     have hi:i ∈ Region.ready .any os listed:=by rw [hr]; simp
     obtain ⟨g1,o,g2,_⟩:=mem_ready.1 hi;have hilt:i < os.size:=by
      rcases Nat.lt_or_ge i os.size with h' | h'
      ·exact h'
      ·rw [Array.getElem?_eq_none h'] at g2; cases g2
     have hi':i < listed.size:=by omega
     have:=sL (l:=listed.toList) (i:=i) (by omega);simp [hi'] at this g1;rw [g1] at this; simp at this
   exact ⟨hr,hdone listed s2 a2 E done rm hsz hd hr⟩
  | succ fuel ih=>
   intro listed s2 a2 E done rm hsz hcnt hrmn hd;refine ⟨hdone listed s2 a2 E done rm hsz hd,fun i hi=>?_⟩;obtain ⟨g1,o,g2,g3⟩:=mem_ready.1 hi;have hilt:i < os.size:=by
    rcases Nat.lt_or_ge i os.size with h' | h'
    ·exact h'
    ·rw [Array.getElem?_eq_none h'] at g2; cases g2
   have hi':i < listed.size:=by omega
   have hpi:listed.getD i false = false:=by simp [hi'] at g1 ⊢; exact g1
   have hb1:=ft hbef (j:=i) (o:=o) (by simpa using g2);simp only [nh,Nat.zero_add,Bool.and_eq_true,List.all_eq_true,List.any_eq_true,decide_eq_true_eq,Bool.or_eq_true,beq_iff_eq,List.contains_eq_mem] at hb1;have hbi:∀ x ∈ bef.getD i [],listed.getD x false = true:=by
    intro x hx;obtain ⟨q1,e,q2,q3,q4⟩:=hb1.2 x hx;have hon:=g3 e (by simpa using q2) q3;rcases q4 with q4 | q4
    ·rw [← q4]; exact hon
    ·exact hd.closed e.on hon x q4
   obtain ⟨ao,k1,k2,k3,k4⟩:=mS hc1 (j:=i) (o:=o) (by simpa using g2);have hrdi:=xM hrd (j:=i) (o:=ao) k1;rw [Nat.zero_add] at hrdi;have hp':∀ j,(listed.setIfInBounds i true).getD j false = (listed.getD j false || j == i):=by
    intro j;by_cases hji:j = i
    ·subst hji; simp [hi']
    ·rw [getD_set_ne false (fun h=>hji h.symm)]; simp [hji]
   have hcnt':cnt (listed.setIfInBounds i true).toList ≤ fuel:=by
    have:=vt (l:=listed.toList) (i:=i) (by simp [hi'] at hpi ⊢; exact hpi);simp only [Array.toList_setIfInBounds]; omega
   have hclosed':∀ j,(listed.setIfInBounds i true).getD j false = true → ∀ x ∈ bef.getD j [],(listed.setIfInBounds i true).getD x false = true:=by
    intro j hj x hx;rw [hp'] at hj ⊢;simp only [Bool.or_eq_true,beq_iff_eq] at hj ⊢;rcases hj with hj | hj
    ·exact .inl (hd.closed j hj x hx)
    ·subst hj; exact .inl (hbi x hx)
   -- the frame, of what this operation reads
   have hfr:er s2 N { fr with v:=E.only (cC ao) } a2:=⟨hd.size,fun t=>by
    show Rv s2 ((E.only (cC ao)).get t) _;rw [iZ];split
    ·rename_i hm;refine hd.v t fun j oj hj hdj=>?_;have:=uM hrdi hj hdj hm;rw [Nat.zero_add] at this;rcases this with h | ⟨l,h1,h2,h3⟩
     ·exact .inl (hbi j h)
     ·right;have hpl:listed.getD l false = false:=by
       cases hl:listed.getD l false with
       | false=>rfl
       | true=>
        rcases h3 with h3 | h3
        ·have:=hd.closed l hl i h3;rw [hpi] at this; cases this
        ·subst h3; rw [hpi] at hl; cases hl
      cases rm with
      | none=>
       have:=hd.lp rfl l h1;rw [hpl] at this; cases this
      | some q=>
       obtain ⟨l',r'⟩:=q;simp only [bY,List.mem_cons];right;exact xd h2
    ·exact .undef _,hd.ds⟩
   have hsame:∀ x ∈ ao.i.dM,opv (E.only (cC ao)) x = opv E x ∧ opg (E.only (cC ao)) x = opg E x:=wH (fun n hn=>by
    rw [iZ,if_pos (by unfold cC; exact List.mem_append_left _ hn)])
   have hne:=iz k4
   -- whose turn it is
   have hguard:∀ {g},ao.g = g → g = none → (Region.wanted o (yielded os a2.tmps)) = true:=by
    intro g hg hg';subst hg';rw [hg] at k3;have hgn:o.guard = none:=by cases hgu:o.guard with
     | none=>rfl
     | some x=>rw [hgu] at k3; simp [yl] at k3
    simp [Region.wanted,hgn]
   have hgd:∀ {gd g},ao.g = some gd → iv E gd = some g → Region.wanted o (yielded os a2.tmps) = g:=by
    intro gd g hag hE;refine j7 hfr (by rw [hag] at k3; exact k3) ?_;simp only [iv] at hE ⊢;rw [iZ,if_pos (by simp [cC,hag])];exact hE
   have hltops:i < ops.length:=by omega
   have hput:∀ (s':St),bq s2 s' → ∀ (c:Value) (x:Nat),Rv s' .undef c → ao.d ≠ some x → Rv s2 (E.get x) (a2.tmps.getD x Go.undef) → Rv s' (E.get x) ((a2.put o.dst c).tmps.getD x Go.undef):=by
    intro s' hk c x hc hdx hv
    have f0:er s' N { v:=[(x,E.get x)],ds:=fr.ds } a2:=⟨hd.size,fun t=>by
     simp only [Env.get];split
     ·rename_i e; subst e; exact hv.keeps hk
     ·exact .undef _,hd.ds.keeps hk⟩
    have:=(f0.put k2 hc).v x;simp only [Fr.put,dN,if_neg hdx,Env.get,if_true] at this;exact this
   have hwait:∀ {l:Nat} {r':List (List Nat × Nat)},rm = some (l,r') → i ∈ cE last r' → False:=by
    intro l r' hrm hm;subst hrm;obtain ⟨l',m1,m2⟩:=zg hd.ok.2 i hm;have:=hd.todo l' m1;rw [hbi l' m2] at this; cases this
   have hnot:∀ j,j ∈ bY last rm → j ∈ done → j = i → False:=fun j hj hjd _=>hd.nd j hjd hj;have hop:ao.i.quiet = false → ∀ x ∈ ao.i.opers,opv (E.only (cC ao)) x = opv E x ∧ opg (E.only (cC ao)) x = opg E x:=by
    intro hq x hx;refine hsame x ?_;generalize ao.i = ai at *;cases ai <;> first | exact hx | (simp [AI.quiet] at hq)
   rcases hd.cover i hltops with hin | hin | hin
   ·-- one that may be done at any time
    obtain ⟨o',e1,e2⟩:=hd.dq i hin;rw [k1] at e1; cases e1;have hcc:=hd.quiets i hin hpi ao k1;have hK:∀ v c s',Inv A s' → bV s2 s' → s'.h = s2.h → Rv s' v c → (∀ d,ao.d = some d → E.get d = v) → wpAnyIn (Fro r) 0 P .any os (gO A N s Q) fuel (listed.setIfInBounds i true) (a2.put o.dst c) s'.w:=by
     intro v c s' i' g' hh rv hvd;have f1:=(hfr.keeps g'.keeps).put k2 rv;refine ih _ s' _ E done rm (by simpa using hsz) hcnt' hrmn ⟨i',hd.goes.trans g',f1.size,f1.ds,fun x hx=>?_,fun hj l' hl'=>?_,hd.lr,hclosed',fun j hj hpj oj hoj=>?_,hd.base,hd.nd,hd.dq,fun j hj=>?_,fun j hj=>?_,hd.ok, ?_⟩
     ·by_cases hdx:ao.d = some x
      ·have:=f1.v x;simp only [Fr.put,dN,hdx,if_true] at this;rw [hvd x hdx]; exact this
      ·refine hput s' g'.keeps c x (.undef _) hdx (hd.v x fun j oj hj hdj=>?_);refine (hx j oj hj hdj).imp (fun h=>?_) (fun h=>h);rw [hp'] at h;simp only [Bool.or_eq_true,beq_iff_eq] at h;rcases h with h | h
       ·exact h
       ·subst h; rw [k1] at hj; cases hj; exact absurd hdj hdx
     ·rw [hp',hd.lp hj l' hl']; rfl
     ·rw [hp'] at hpj;simp only [Bool.or_eq_false_iff] at hpj;rw [hh];exact hd.quiets j hj hpj.1 oj hoj
     ·rw [hp',hd.todo j hj];simp only [Bool.false_or,beq_eq_false_iff_ne];intro e;subst e;exact hnot j hj hin rfl
     ·rcases hd.cover j hj with h | h | h
      ·exact .inl h
      ·exact .inr (.inl h)
      ·exact .inr (.inr (by rw [hp',h]; rfl))
     ·rw [hh]; exact hd.cont
    by_cases hqt:ao.i.quiet = true
    ·simp only [ccs,if_pos hqt] at hcc;obtain ⟨q1,q2'⟩:=hcc;have q2:∀ d,ao.d = some d → E.get d = gqv E s2.h ao:=fun d hd'=>by rw [hd'] at q2'; exact q2'
     have hgo:kP E s2.h ao.i → Region.wanted o (yielded os a2.tmps) = true → (∀ c,Rv s2 (mf E s2.h ao.i) c → Rv s2 (gqv E s2.h ao) c) → wpOpIn (Fro r) 0 P os (gO A N s Q) i (fun a w=>wpAnyIn (Fro r) 0 P .any os (gO A N s Q) fuel (listed.setIfInBounds i true) a w) a2 s2.w:=by
      intro q1 hw hrv;have hqc:=nU k4 hqt hsame q1 (H:=s2.h) (fun _ _ _=>rfl);obtain ⟨c,c1,c2⟩:=jB hd.inv hfr k4 hqt hqc.1;unfold wpOpIn;rw [g2];simp only [hw,if_true];refine ⟨fun _ _=>trivial, ?_⟩;rw [Oper.semAt_eq _ _ _ hne,c1];rw [hqc.2] at c2;exact hK _ c s2 hd.inv (.refl s2) rfl (hrv c c2) q2
     cases hag:ao.g with
     | none=>
      simp only [gqs,hag] at q1;exact hgo q1 (hguard hag rfl) fun c hc=>by simp only [gqv,hag]; exact hc
     | some gd=>
      simp only [gqs,hag] at q1
      cases hE:iv E gd with
      | none=>rw [hE] at q1; exact q1.elim
      | some g=>
       rw [hE] at q1;have hw:=hgd hag hE
       cases g with
       | true=>exact hgo (q1 rfl) hw fun c hc=>by simp only [gqv,hag,hE]; exact .optT _ _ hc
       | false=>
        unfold wpOpIn;rw [g2];simp only [hw,Bool.false_eq_true,if_false];exact ⟨fun _ _=>trivial,hK _ _ s2 hd.inv (.refl s2) rfl (by simp only [gqv,hag,hE]; exact .optF _) q2⟩
    ·have hqf:ao.i.quiet = false:=by simpa using hqt
     simp only [ccs,hqf,Bool.false_eq_true,if_false] at hcc;have hag:ao.g = none:=by
      simp only [vY,hqf,Bool.false_or,Bool.and_eq_true,Option.isNone_iff_eq_none] at e2;exact e2.2
     have hstep:=fF hd.inv hfr k4 (uf hqf (hop hqf) hcc);unfold wpOpIn;rw [g2];simp only [hguard hag rfl,if_true];refine ⟨fun _ _=>trivial, ?_⟩;rw [Oper.semAt_eq _ _ _ hne];exact l6 hstep (fun v c s' i' g' rv hq=>hK v c s' i' g' hq.1 rv (fun d hd'=>by have:=hq.2; rw [hd'] at this; exact this)) (fun _ _ _ _ _ _ h=>h.elim)
   ·-- a call
    cases rm with
    | none=>simp [bY] at hin
    | some q=>
     obtain ⟨l,r'⟩:=q;simp only [bY,List.mem_cons] at hin;rcases hin with hin | hin;rotate_left
     ·exact (hwait rfl hin).elim
     subst hin;have hok:=hd.ok;have hcont:=hd.cont;have htd:=hd.todo;obtain ⟨⟨o',e1,e2⟩,hst'⟩:=hok;rw [k1] at e1; cases e1;obtain ⟨o',e1,haw⟩:=hcont;rw [k1] at e1; cases e1;have hK : ∀ v c s',Inv A s' → bV s2 s' → Rv s' v c → uI P ops bef last r' done (bef.getD i []) (E.put ao.d v) s'.h (fun e σ' => Q .normal { fr with v := e } σ') (fun v σ' => Q (.panic v) { fr with v := iH ops fr.v } σ') → wpAnyIn (Fro r) 0 P .any os (gO A N s Q) fuel (listed.setIfInBounds i true) (a2.put o.dst c) s'.w := by
      intro v c s' i' g' rv hq;have f1:=(hfr.keeps g'.keeps).put k2 rv;obtain ⟨E',done',rm',hinv,hrm'⟩:=FW.enter (P:=P) (A:=A) (N:=N) (L0:=lR st) (s0:=s) (bef:=bef) (fr0:=fr) (K:=fun e σ'=>Q .normal { fr with v:=e } σ') (Kp:=fun v σ'=>Q (.panic v) { fr with v:=iH ops fr.v } σ') (p:=fun j=>(listed.setIfInBounds i true).getD j false) (a:=a2.put o.dst c) (pv:=some i)
       i' (hd.goes.trans g') f1.size f1.ds (fun x hx=>by
        by_cases hdx:ao.d = some x
        ·have:=f1.v x;simp only [Fr.put,dN,hdx,if_true] at this;rw [dN,if_pos hdx]; exact this
        ·rw [dN,if_neg hdx];refine hput s' g'.keeps c x (.undef _) hdx (hd.v x fun j oj hj hdj=>?_);rcases hx j oj hj hdj with h | h
         ·have h:(listed.setIfInBounds i true).getD j false = true:=h;rw [hp'] at h;simp only [Bool.or_eq_true,beq_iff_eq] at h;rcases h with h | h
          ·exact .inl h
          ·subst h; rw [k1] at hj; cases hj; exact absurd hdj hdx
         ·exact .inr (by simp only [bY,List.mem_cons]; exact .inr h))
       (fun hr' l' hl'=>by
        subst hr';have:=hd.lr _ rfl;rw [this] at hl';simp only [lR,Option.some.injEq] at hl';subst hl';show (listed.setIfInBounds i true).getD i false = true
        rw [hp']; simp)
       (fun hr'=>(hd.lr _ rfl).trans (DA hr'))
       hclosed' (fun j hj=>by show (listed.setIfInBounds i true).getD j false = true; rw [hp',hbi j hj]; rfl) hd.dq (fun x hx=>by rw [dN,if_neg (hx i ao k1)]; exact hd.base x hx) (fun j hj hj2=>hd.nd j hj (by simp [bY,hj2])) (hrmn _ rfl) (fun j hj=>by
        show (listed.setIfInBounds i true).getD j false = false;rw [hp',htd j (by simp [bY,hj])];simp only [Bool.false_or,beq_eq_false_iff_ne];intro e;subst e
        exact hwait rfl hj)
       (fun j hj=>by
        rcases hd.cover j hj with h | h | h
        ·exact .inl h
        ·simp only [bY,List.mem_cons] at h;rcases h with h | h
         ·exact .inr (.inr (by show (listed.setIfInBounds i true).getD j false = true; rw [hp',h]; simp))
         ·exact .inr (.inl h)
        ·exact .inr (.inr (by show (listed.setIfInBounds i true).getD j false = true; rw [hp',h]; rfl))) hst' hq
      exact ih _ s' _ E' done' rm' (by simpa using hsz) hcnt' hrm' hinv
     have hgo:p9 P ao.i E s2.h (fun v σ'=>uI P ops bef last r' done (bef.getD i []) (E.put ao.d v) σ' (fun e σ'=>Q .normal { fr with v:=e } σ') (fun v σ'=>Q (.panic v) { fr with v:=iH ops fr.v } σ')) (fun v σ'=>Q (.panic v) { fr with v:=iH ops fr.v } σ') → Region.wanted o (yielded os a2.tmps) = true →
       wpOpIn (Fro r) 0 P os (gO A N s Q) i (fun a w=>wpAnyIn (Fro r) 0 P .any os (gO A N s Q) fuel (listed.setIfInBounds i true) a w) a2 s2.w:=by
      intro haw hw;have hstep:=fF hd.inv hfr k4 (uf e2 (hop e2) haw);unfold wpOpIn;rw [g2];simp only [hw,if_true];refine ⟨fun _ _=>trivial, ?_⟩;rw [Oper.semAt_eq _ _ _ hne]
      exact l6 hstep (fun v c s' i' g' rv hq=>hK v c s' i' g' rv hq) (fun v c s' i' g' rv hq=>
       ⟨.panic v,{ fr with v:=iH ops fr.v },s',rfl,i',hd.goes.trans g',⟨hd.size,fun x=>by
        show Rv s' ((iH ops fr.v).get x) _;by_cases hx:∃ o ∈ ops,o.d = some x
        ·rw [om hx]; exact .undef _
        ·have hx2:∀ (i:Nat) (o:aL),ops[i]? = some o → o.d ≠ some x:=fun i o ho hox=>hx ⟨o,List.mem_of_getElem? ho,hox⟩;rw [yL fun o ho hox=>hx ⟨o,ho,hox⟩, ← hd.base x hx2]
         exact (hd.v x fun (i:Nat) (o:aL) ho hox=>absurd hox (hx2 i o ho)).keeps g'.keeps,hd.ds.keeps g'.keeps⟩,⟨c,rfl,rv⟩,hq⟩)
     cases hag:ao.g with
     | none=>simp only [cql,hag] at haw; exact hgo haw (hguard hag rfl)
     | some gd=>
      simp only [cql,hag] at haw
      cases hE:iv E gd with
      | none=>rw [hE] at haw; exact haw.elim
      | some g=>
       rw [hE] at haw;have hw:=hgd hag hE
       cases g with
       | true=>exact hgo (haw.1 rfl) hw
       | false=>
        unfold wpOpIn;rw [g2];simp only [hw,Bool.false_eq_true,if_false];exact ⟨fun _ _=>trivial,hK _ _ s2 hd.inv (.refl s2) (.optF _) (haw.2 rfl)⟩
   ·rw [hpi] at hin; cases hin
 refine wpIn_region_any hmix ?_;have hf0:∀ j,(Array.replicate os.size false).getD j false = false:=fun j=>by
  simp [Array.getD_eq_getD_getElem?,Array.getElem?_replicate]; split <;> rfl
 obtain ⟨E',done',rm',hinv,hrm'⟩:=FW.enter (P:=P) (A:=A) (N:=N) (L0:=lR st) (s0:=s) (bef:=bef) (fr0:=fr) (K:=fun e σ'=>Q .normal { fr with v:=e } σ') (Kp:=fun v σ'=>Q (.panic v) { fr with v:=iH ops fr.v } σ') (p:=fun j=>(Array.replicate os.size false).getD j false) (s:=sd) (a:=a) (pv:=none) (no:=[]) (done:=[])
  gd.1 gd.2 h3.size (h3.ds.keeps gd.2.keeps) (fun x _=>(h3.v x).keeps gd.2.keeps) (fun hr' l' hl'=>by rw [hr'] at hl'; cases hl') (fun _=>rfl) (fun j hj=>by rw [hf0] at hj; cases hj) (fun i hi=>by cases hi) (fun i hi=>by cases hi) (fun _ _=>rfl) (fun i hi=>by cases hi) (uJ hnu) (fun i _=>hf0 i)
  (fun i hi=>.inr (.inl (by have:=List.all_eq_true.1 hall i (by simpa using hi); simpa using this))) hst h
 refine key os.size (Array.replicate os.size false) sd a E' done' rm' (by simp) ?_ hrm' hinv;have:∀ n,cnt (List.replicate n false) = n:=fun n=>by
  induction n with
  | zero=>rfl
  | succ n ih=>simp only [List.replicate_succ,cnt,ih]; simp; omega
 simp [this]
end
end Go.AM
