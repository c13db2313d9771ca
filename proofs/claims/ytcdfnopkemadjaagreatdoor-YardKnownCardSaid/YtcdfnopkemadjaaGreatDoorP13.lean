/- A region whose order Go leaves open: calls that write, ordered among themselves, which may panic; calls that touch nothing, at any time. A region whose order is open, by two orders of two of its operations. -/
import Derived.Test.YtcdfnopkemadjaaGreatDoorP12
namespace Go.AM
open Go.RowKit
def AI.KB:AI → Bool
 | .panic _=>false
 | .mvd _=>false
 | _=>true
def iX (o:au):Bool:=o.i.quiet || (o.i.KB && o.g.isNone)
def ccs (P:Program) (e:Env) (σ:ab) (o:au):Prop:=
 if o.i.quiet then gqs e σ o ∧ (match o.d with
  | some d=>e.get d = gqv e σ o
  | none=>True)
 else eS P o.i e σ (fun v σ'=>σ' = σ ∧ match o.d with
  | some d=>e.get d = v
  | none=>True) fun _ _=>False
def iw (ops:List au):List Nat → List aa → Env → ab → Env
 | [],_,e,_=>e
 | i :: r,vs,e,σ=>match ops[i]? with
  | some o=>if o.i.quiet then iw ops r vs (e.put o.d (gqv e σ o)) σ else iw ops r vs.tail (e.put o.d (vs.headD .undef)) σ
  | none=>iw ops r vs e σ
def r6 (P:Program) (ops:List au) (no:List Nat) (e:Env) (σ:ab):List Nat → Prop
 | []=>True
 | i :: r=>(if no.contains i then True else match ops[i]? with
  | some o=>ccs P e σ o
  | none=>True) ∧ r6 P ops no e σ r
def cql (P:Program) (o:au) (e:Env) (σ:ab) (K Kp:aa → ab → Prop):Prop:=match o.g with
 | none=>eS P o.i e σ K Kp
 | some gd=>match cH e gd with
  | none=>False
  | some g=>(g = true → eS P o.i e σ K Kp) ∧ (g = false → K (.opt false .undef) σ)
def gz (P:Program) (ops:List au) (bef:List (List Nat)) (last:List Nat):List (List Nat × Nat) → List Nat → List Nat → Env → ab → (Env → ab → Prop) → (aa → ab → Prop) → Prop
 | [],done,no,e,σ,K,_=>∃ vs,r6 P ops no (iw ops last vs e σ) σ (done ++ last) ∧ K (iw ops last vs e σ) σ
 | (qs,l) :: r,done,no,e,σ,K,Kp=>∃ vs,r6 P ops no (iw ops qs vs e σ) σ (done ++ qs) ∧ match ops[l]? with
  | some o=>cql P o (iw ops qs vs e σ) σ (fun v σ'=>gz P ops bef last r (done ++ qs) (bef.getD l []) ((iw ops qs vs e σ).put o.d v) σ' K Kp) Kp
  | none=>False
def iQ (ops:List au) (bef:List (List Nat)) (last:List Nat):List (List Nat × Nat) → Option Nat → Bool
 | [],p=>last.all fun i=>(match ops[i]? with | some o=>iX o | none=>false) && (match p with | some l=>(bef.getD i []).contains l | none=>true)
 | (qs,l) :: r,p=>(qs.all fun i=>(match ops[i]? with | some o=>iX o | none=>false) && (match p with | some l=>(bef.getD i []).contains l | none=>true)) &&
   (match ops[l]? with | some o=>!o.i.quiet | none=>false) && (match p with | some l'=>(bef.getD l []).contains l' | none=>true) && iQ ops bef last r (some l)
def nodupB:List Nat → Bool
 | []=>true
 | i :: r=>!r.contains i && nodupB r
theorem kf:∀ {l:List Nat},nodupB l = true → l.Nodup
 | [],_=>.nil
 | i :: r,h=>by
  simp only [nodupB,Bool.and_eq_true,Bool.not_eq_true',List.contains_eq_mem,decide_eq_false_iff_not] at h;exact List.nodup_cons.2 ⟨h.1,kf h.2⟩
def fR:List (List Nat × Nat) → Option Nat
 | []=>none
 | [(_,l)]=>some l
 | _ :: r=>fR r
theorem rb {qs qs':List Nat} {l:Nat}:∀ {r:List (List Nat × Nat)},fR ((qs,l) :: r) = fR ((qs',l) :: r)
 | []=>rfl
 | _ :: _=>rfl
theorem qw {q:List Nat × Nat}:∀ {r:List (List Nat × Nat)},r ≠ [] → fR (q :: r) = fR r
 | [],h=>absurd rfl h
 | _ :: _,_=>rfl
def jV (bef:List (List Nat)) (last:List Nat) (L:Option Nat) (j:Nat) (rs:List Nat):List au → Nat → Bool
 | [],_=>true
 | o :: r,i=>(match o.d with
  | some d=>!rs.contains d || (bef.getD j []).contains i || !iX o || (match L with
   | some l=>last.contains i && ((bef.getD l []).contains j || j == l)
   | none=>false)
  | none=>true) && jV bef last L j rs r (i + 1)
def pK (bef:List (List Nat)) (last:List Nat) (L:Option Nat) (all:List au):List au → Nat → Bool
 | [],_=>true
 | o :: r,j=>jV bef last L j (bb o) all 0 && pK bef last L all r (j + 1)
theorem j9 {bef:List (List Nat)} {last:List Nat} {L:Option Nat} {j:Nat} {rs:List Nat}:∀ {l:List au} {k i:Nat} {o:au} {d:Nat},jV bef last L j rs l k = true → l[i]? = some o → o.d = some d → d ∈ rs →
  (k + i) ∈ bef.getD j [] ∨ iX o = false ∨ ∃ l,L = some l ∧ (k + i) ∈ last ∧ (j ∈ bef.getD l [] ∨ j = l)
 | [],_,_,_,_,_,h,_,_=>by simp at h
 | a :: r,k,0,o,d,hb,h,hd,hm=>by
  simp at h; subst h;simp only [jV,hd,Bool.and_eq_true,Bool.or_eq_true,Bool.not_eq_true',List.contains_eq_mem,decide_eq_false_iff_not,decide_eq_true_eq] at hb;rcases hb.1 with ((h | h) | h) | h
  ·exact absurd hm h
  ·exact .inl h
  ·exact .inr (.inl h)
  ·cases L with
   | none=>simp at h
   | some l=>
    simp only [Bool.and_eq_true,Bool.or_eq_true,decide_eq_true_eq,beq_iff_eq] at h;exact .inr (.inr ⟨l,rfl,h.1,h.2⟩)
 | a :: r,k,i + 1,o,d,hb,h,hd,hm=>by
  simp only [jV,Bool.and_eq_true] at hb;have:=j9 hb.2 (i:=i) (by simpa using h) hd hm;rw [show k + (i + 1) = k + 1 + i by omega]; exact this
theorem lz {bef:List (List Nat)} {last:List Nat} {L:Option Nat} {all:List au}:∀ {l:List au} {k j:Nat} {o:au},pK bef last L all l k = true → l[j]? = some o → jV bef last L (k + j) (bb o) all 0 = true
 | [],_,_,_,_,h=>by simp at h
 | a :: r,k,0,o,hb,h=>by simp at h; subst h; simp only [pK,Bool.and_eq_true] at hb; exact hb.1
 | a :: r,k,j + 1,o,hb,h=>by
  simp only [pK,Bool.and_eq_true] at hb;have:=lz hb.2 (j:=j) (o:=o) (by simpa using h);rw [show k + (j + 1) = k + 1 + j by omega]; exact this
def kC (rk:List Nat) (n:Nat) (bef:List (List Nat)) (o:Oper) (j:Nat):Bool:=
 o.after.toList.all (fun e=>!Region.binds .any e || (decide (rk.getD e.on e.on < rk.getD j j) && decide (e.on < n))) &&
 (bef.getD j []).all fun i=>o.after.toList.any fun e=>Region.binds .any e && (e.on == i || (bef.getD e.on []).contains i)
def lX (rk:List Nat) (n:Nat) (bef:List (List Nat)):List Oper → Nat → Bool
 | [],_=>true
 | o :: r,j=>kC rk n bef o j && lX rk n bef r (j + 1)
theorem gO {rk:List Nat} {n:Nat} {bef:List (List Nat)}:∀ {l:List Oper} {k j:Nat} {o:Oper},lX rk n bef l k = true → l[j]? = some o → kC rk n bef o (k + j) = true
 | [],_,_,_,_,h=>by simp at h
 | a :: r,k,0,o,hb,h=>by simp at h; subst h; simp only [lX,Bool.and_eq_true] at hb; exact hb.1
 | a :: r,k,j + 1,o,hb,h=>by
  simp only [lX,Bool.and_eq_true] at hb;have:=gO hb.2 (j:=j) (o:=o) (by simpa using h);rw [show k + (j + 1) = k + 1 + j by omega];exact this
def iE (rk:List Nat) (P:Program) (N:Nat) (os:Array Oper) (ops:List au) (bef:List (List Nat)) (st:List (List Nat × Nat)) (last:List Nat):Bool:=
 cz P N os ops os.toList && P.follows .mixedOrders && lX rk os.size bef os.toList 0 && pK bef last (fR st) ops ops 0 && ko ops && iQ ops bef last st none && (List.range ops.length).all (fun i=>(bc last st).contains i) && nodupB (bc last st)
def Ah (P:Program) (N:Nat) (os:Array Oper) (ops:List au) (bef:List (List Nat)) (st:List (List Nat × Nat)) (last:List Nat):Bool:=iE [] P N os ops bef st last
def de:List au → Env → Env
 | [],e=>e
 | o :: r,e=>match o.d with
  | some d=>(d, .undef) :: de r e
  | none=>de r e
theorem nf {x:Nat} {e:Env}:∀ {l:List au},(∀ o ∈ l,o.d ≠ some x) → (de l e).get x = e.get x
 | [],_=>rfl
 | o :: r,h=>by
  simp only [de];have hr:=nf (x:=x) (e:=e) (l:=r) fun o' ho=>h o' (by simp [ho])
  cases hd:o.d with
  | none=>exact hr
  | some d=>
   simp only [Env.get];rw [if_neg (fun e=>h o (by simp) (by rw [hd,e])),hr]
theorem gK {x:Nat} {e:Env}:∀ {l:List au},(∃ o ∈ l,o.d = some x) → (de l e).get x = .undef
 | [],h=>by obtain ⟨o,ho,_⟩:=h; cases ho
 | o :: r,h=>by
  simp only [de]
  cases hd:o.d with
  | none=>
   obtain ⟨o',ho,hx⟩:=h;rcases List.mem_cons.1 ho with e | ho
   ·subst e; rw [hd] at hx; cases hx
   ·exact gK ⟨o',ho,hx⟩
  | some d=>
   simp only [Env.get];by_cases hdx:d = x
   ·rw [if_pos hdx]
   ·rw [if_neg hdx];obtain ⟨o',ho,hx⟩:=h;rcases List.mem_cons.1 ho with e | ho
    ·subst e; rw [hd] at hx; exact absurd (Option.some.inj hx) hdx
    ·exact gK ⟨o',ho,hx⟩
theorem ff {ops:List au} {x:Nat}:∀ {l:List Nat} {vs:List aa} {e:Env} {σ:ab},(∀ i ∈ l, ∀ o,ops[i]? = some o → o.d ≠ some x) → (iw ops l vs e σ).get x = e.get x
 | [],_,_,_,_=>rfl
 | i :: r,vs,e,σ,h=>by
  simp only [iw]
  cases ho:ops[i]? with
  | none=>exact ff fun j hj=>h j (by simp [hj])
  | some o=>
   simp only;split
   ·rw [ff fun j hj=>h j (by simp [hj]),bI,if_neg (h i (by simp) o ho)]
   ·rw [ff fun j hj=>h j (by simp [hj]),bI,if_neg (h i (by simp) o ho)]
theorem kY {P:Program} {ops:List au} {no:List Nat} {e:Env} {σ:ab}:∀ {l:List Nat},r6 P ops no e σ l → ∀ {i:Nat} {o:au},i ∈ l → i ∉ no → ops[i]? = some o → ccs P e σ o
 | [],_,_,_,hi,_,_=>by cases hi
 | j :: r,h,i,o,hi,hn,ho=>by
  simp only [r6] at h;obtain ⟨h1,h2⟩:=h;rcases List.mem_cons.1 hi with e | hi
  ·subst e;have hc:no.contains i = false:=by simpa using hn
   rw [hc] at h1;simpa only [Bool.false_eq_true,if_false,ho] using h1
  ·exact kY h2 hi hn ho
theorem k7 {last:List Nat} {i:Nat} (h:i ∈ last):∀ {r:List (List Nat × Nat)},i ∈ bc last r
 | []=>h
 | (qs,l) :: r=>by simp only [bc,List.mem_append,List.mem_cons]; exact .inr (.inr (k7 h))
section
variable {P:Program} {N:Nat} {A:World}
def COk (ops:List au) (bef:List (List Nat)) (last:List Nat):Option (Nat × List (List Nat × Nat)) → Prop
 | none=>True
 | some (l,r)=>(∃ o,ops[l]? = some o ∧ o.i.quiet = false) ∧ iQ ops bef last r (some l) = true
def Zf (P:Program) (ops:List au) (bef:List (List Nat)) (last:List Nat) (K:Env → ab → Prop) (Kp:aa → ab → Prop) (E:Env) (σ:ab) (done:List Nat):Option (Nat × List (List Nat × Nat)) → Prop
 | none=>K E σ
 | some (l,r)=>∃ o,ops[l]? = some o ∧ cql P o E σ (fun v σ'=>gz P ops bef last r done (bef.getD l []) (E.put o.d v) σ' K Kp) Kp
structure v7 (P:Program) (A:World) (N:Nat) (L0:Option Nat) (s0:St) (ops:List au) (bef:List (List Nat)) (last:List Nat) (fr0:Fr) (K:Env → ab → Prop) (Kp:aa → ab → Prop) (p:Nat → Bool) (s:St) (a:Act) (E:Env) (done:List Nat) (rm:Option (Nat × List (List Nat × Nat))):Prop where
 inv:Inv A s
 goes:aT s0 s
 size:a.tmps.size = N
 ds:eM s fr0.ds a.defers
 v:∀ x,(∀ (i:Nat) (o:au),ops[i]? = some o → o.d = some x → p i = true ∨ i ∈ aW last rm) → Rv s (E.get x) (a.tmps.getD x Go.undef)
 lp:rm = none → ∀ l,L0 = some l → p l = true
 lr:∀ q,rm = some q → L0 = fR (([],q.1) :: q.2)
 closed:∀ j,p j = true → ∀ i ∈ bef.getD j [],p i = true
 quiets:∀ i,i ∈ done → p i = false → ∀ o,ops[i]? = some o → ccs P E s.h o
 base:∀ x,(∀ (i:Nat) (o:au),ops[i]? = some o → o.d ≠ some x) → E.get x = fr0.v.get x
 nd:∀ i,i ∈ done → i ∉ aW last rm
 dq:∀ i,i ∈ done → ∃ o,ops[i]? = some o ∧ iX o = true
 todo:∀ i,i ∈ aW last rm → p i = false
 cover:∀ i,i < ops.length → i ∈ done ∨ i ∈ aW last rm ∨ p i = true
 ok:COk ops bef last rm
 cont:Zf P ops bef last K Kp E s.h done rm
theorem mW {ops:List au} {bef:List (List Nat)} {last:List Nat} {l:Nat}:∀ {r:List (List Nat × Nat)},iQ ops bef last r (some l) = true → ∀ i,i ∈ bc last r → ∃ l',l' ∈ l :: bc last r ∧ l' ∈ bef.getD i []
 | [],h,i,hi=>by
  simp only [iQ,List.all_eq_true,Bool.and_eq_true] at h;have:=(h i hi).2;exact ⟨l,by simp,by simpa using this⟩
 | (qs,l2) :: r,h,i,hi=>by
  simp only [iQ,Bool.and_eq_true,List.all_eq_true] at h;obtain ⟨⟨⟨h1,h2⟩,h3⟩,h4⟩:=h;simp only [bc,List.mem_append,List.mem_cons] at hi;rcases hi with hi | hi | hi
  ·exact ⟨l,by simp,by simpa using (h1 i hi).2⟩
  ·subst hi; exact ⟨l,by simp,by simpa using h3⟩
  ·obtain ⟨l',a,b⟩:=mW h4 i hi;refine ⟨l', ?_,b⟩;simp only [bc,List.mem_cons,List.mem_append] at a ⊢;exact .inr (.inr a)
theorem tO {ops:List au} {bef:List (List Nat)} {qs:List Nat} {p:Option Nat} (h:(qs.all fun i=>(match ops[i]? with | some o=>iX o | none=>false) && (match p with | some l=>(bef.getD i []).contains l | none=>true)) = true) :
  ∀ i ∈ qs, ∃ o,ops[i]? = some o ∧ iX o = true:=by
 intro i hi;have:=List.all_eq_true.1 h i hi;simp only [Bool.and_eq_true] at this
 cases ho:ops[i]? with
 | none=>rw [ho] at this; simp at this
 | some o=>rw [ho] at this; exact ⟨o,rfl,this.1⟩
theorem v7.enter {L0:Option Nat} {s0:St} {ops:List au} {bef:List (List Nat)} {last:List Nat} {fr0:Fr} {K:Env → ab → Prop} {Kp:aa → ab → Prop} {p:Nat → Bool} {s:St} {a:Act} {E0:Env} {done no:List Nat} {r:List (List Nat × Nat)} {pv:Option Nat}
  (hi:Inv A s) (hg:aT s0 s) (hs:a.tmps.size = N) (hd:eM s fr0.ds a.defers) (hv:∀ x,(∀ (i:Nat) (o:au),ops[i]? = some o → o.d = some x → p i = true ∨ i ∈ bc last r) → Rv s (E0.get x) (a.tmps.getD x Go.undef)) (hl0:r = [] → ∀ l,L0 = some l → p l = true) (hl1:r ≠ [] → L0 = fR r)
  (hc:∀ j,p j = true → ∀ i ∈ bef.getD j [],p i = true) (hno:∀ i ∈ no,p i = true) (hdq:∀ i,i ∈ done → ∃ o,ops[i]? = some o ∧ iX o = true) (hbase:∀ x,(∀ (i:Nat) (o:au),ops[i]? = some o → o.d ≠ some x) → E0.get x = fr0.v.get x) (hnd:∀ i,i ∈ done → i ∉ bc last r) (hnu:(bc last r).Nodup) (htodo:∀ i,i ∈ bc last r → p i = false)
  (hcov:∀ i,i < ops.length → i ∈ done ∨ i ∈ bc last r ∨ p i = true) (hok:iQ ops bef last r pv = true) (he:gz P ops bef last r done no E0 s.h K Kp) :
  ∃ E done' rm,v7 P A N L0 s0 ops bef last fr0 K Kp p s a E done' rm ∧ ∀ q,rm = some q → (bc last q.2).Nodup:=by
 cases r with
 | nil=>
  obtain ⟨vs,h1,h2⟩:=he;simp only [iQ] at hok;have hq:=tO hok;refine ⟨_,done ++ last,none,⟨hi,hg,hs,hd,fun x hx=>?_,fun _=>hl0 rfl,fun q hq=>(by cases hq),hc,fun i h3 h4 o ho=>kY h1 h3 (fun hn=>by rw [hno i hn] at h4; cases h4) ho,fun x hx=>(ff fun i _ o ho=>hx i o ho).trans (hbase x hx),fun i _=>by simp [aW],fun i h3=>?_,fun i h3=>by simp [aW] at h3,fun i h3=>?_,trivial,h2⟩,fun q hq=>by cases hq⟩
  ·rw [ff (fun i hi o ho hd=>by
    rcases hx i o ho hd with h | h
    ·rw [htodo i (by simpa [bc] using hi)] at h; cases h
    ·simp [aW] at h)]
   exact hv x fun i o ho hd=>.inl ((hx i o ho hd).resolve_right (by simp [aW]))
  ·rcases List.mem_append.1 h3 with h3 | h3
   ·exact hdq i h3
   ·exact hq i h3
  ·rcases hcov i h3 with h | h | h
   ·exact .inl (by simp [h])
   ·exact .inl (by simp [bc] at h; simp [h])
   ·exact .inr (.inr h)
 | cons st r=>
  obtain ⟨qs,l⟩:=st;obtain ⟨vs,h1,h2⟩:=he;simp only [iQ,Bool.and_eq_true] at hok;have hnu2:(l :: bc last r).Nodup:=by simp only [bc] at hnu; exact (List.nodup_append.1 hnu).2.1
  have hnd2:∀ i,i ∈ qs → i ∉ l :: bc last r:=fun i h3 h4=>by simp only [bc] at hnu; exact (List.nodup_append.1 hnu).2.2 i h3 i h4 rfl
  obtain ⟨⟨⟨k1,k2⟩,k3⟩,k4⟩:=hok;have hq:=tO k1
  cases hl:ops[l]? with
  | none=>rw [hl] at h2; exact h2.elim
  | some o=>
   rw [hl] at h2 k2;simp only [Bool.not_eq_true'] at k2;refine ⟨_,done ++ qs,some (l,r),⟨hi,hg,hs,hd,fun x hx=>?_,fun h=>(by cases h),fun q hq=>(by cases hq; exact (hl1 (by simp)).trans rb),hc,fun i h3 h4 o ho=>kY h1 h3 (fun hn=>by rw [hno i hn] at h4; cases h4) ho,fun x hx=>(ff fun i _ o ho=>hx i o ho).trans (hbase x hx),fun i h3=>?_,fun i h3=>?_,fun i h3=>?_,fun i h3=>?_,⟨⟨o,hl,k2⟩,k4⟩,⟨o,hl,h2⟩⟩,fun q hq=>by cases hq; exact (List.nodup_cons.1 hnu2).2⟩
   ·rw [ff (fun i hi o ho hd=>by
     rcases hx i o ho hd with h | h
     ·rw [htodo i (by simp [bc,hi])] at h; cases h
     ·exact hnd2 i hi (by simpa [aW] using h))]
    exact hv x fun i o ho hd=>(hx i o ho hd).imp id fun h=>by
     simp only [aW] at h;simp only [bc,List.mem_append]; exact .inr h
   ·rcases List.mem_append.1 h3 with h3 | h3
    ·intro h4; exact hnd i h3 (by simp only [aW] at h4; simp only [bc,List.mem_append]; exact .inr h4)
    ·exact hnd2 i h3
   ·rcases List.mem_append.1 h3 with h3 | h3
    ·exact hdq i h3
    ·exact hq i h3
   ·exact htodo i (by simp only [aW,List.mem_cons] at h3; simp only [bc,List.mem_append,List.mem_cons]; exact .inr h3)
   ·rcases hcov i h3 with h | h | h
    ·exact .inl (by simp [h])
    ·simp only [bc,List.mem_append,List.mem_cons] at h;rcases h with h | h
     ·exact .inl (by simp [h])
     ·exact .inr (.inl (by simpa [aW] using h))
    ·exact .inr (.inr h)
def AWA (P:Program) (N:Nat) (ro:Option Nat) (os:Array Oper) (Q:AEx → Fr → ab → Prop) (fr:Fr) (σ:ab):Prop:=
 ∀ A s a r,s.h = σ → Inv A s → bK s N fr a → wK s ro r → wpAnyIn (Fro r) 0 P .any os (dt A N s Q) os.size (Array.replicate os.size false) a { s.w with drawn:=s.w.drawn + 1 }
theorem ma {rk:List Nat} {os:Array Oper} {ops:List au} {bef:List (List Nat)} {st:List (List Nat × Nat)} {last:List Nat} {ro:Option Nat} {Q:AEx → Fr → ab → Prop} {fr:Fr} {σ:ab} (hc:iE rk P N os ops bef st last = true)
  (h:gz P ops bef last st [] [] fr.v σ (fun e σ'=>Q .normal { fr with v:=e } σ') (fun v σ'=>Q (.panic v) { fr with v:=de ops fr.v } σ')):AWA P N ro os Q fr σ:=by
 simp only [iE,Bool.and_eq_true] at hc;obtain ⟨⟨⟨⟨⟨⟨⟨hc1,hmix⟩,hbef⟩,hrd⟩,hdst⟩,hst⟩,hall⟩,hnu⟩:=hc;intro A s a r h1 h2 h3 h4;subst h1;have hlen:ops.length = os.size:=by simpa using gu hc1
 let sd:St:={ s with w:={ s.w with drawn:=s.w.drawn + 1 } }
 have kd:aL s sd:=⟨fun _ _ _ h=>h,fun _ _ h=>h,fun _ _ _=>rfl⟩;have gd:=h2.grow (s':=sd) rfl rfl kd ⟨h2.below.os,h2.below.tape,h2.below.output,h2.below.size,h2.below.block⟩ (Nat.le_refl _) (fun _ _=>rfl) (fun _ _ h=>.inl h) h2.scell
 have key : ∀ (fuel : Nat) (listed : Array Bool) (s2 : St) (a2 : Act) (E : Env) (done : List Nat) (rm : Option (Nat × List (List Nat × Nat))),listed.size = os.size → cnt listed.toList ≤ fuel → (∀ q,rm = some q → (bc last q.2).Nodup) →
   v7 P A N (fR st) s ops bef last fr (fun e σ'=>Q .normal { fr with v:=e } σ') (fun v σ'=>Q (.panic v) { fr with v:=de ops fr.v } σ') (fun j=>listed.getD j false) s2 a2 E done rm → wpAnyIn (Fro r) 0 P .any os (dt A N s Q) fuel listed a2 s2.w:=by
  have hready:∀ (listed:Array Bool),listed.size = os.size → Region.ready .any os listed = [] → ∀ j,j < os.size → listed.getD j false = true:=by
   intro listed hsz hr j hj;generalize hn:rk.getD j j = n
   induction n using Nat.strongRecOn generalizing j with
   | _ n ih=>
    cases hl:listed.getD j false with
    | true=>rfl
    | false=>
     have hj':j < listed.size:=by omega
     have:j ∈ Region.ready .any os listed:=by
      refine mem_ready.2 ⟨by simpa [Array.getD_eq_getD_getElem?,hj'] using hl,os[j],by simp [hj],fun e he hb=>?_⟩;have hb1:=gO hbef (j:=j) (o:=os[j]) (by simp [hj]);simp only [kC,Nat.zero_add,Bool.and_eq_true,List.all_eq_true] at hb1;have:=hb1.1 e (by simpa using he);simp only [hb,Bool.not_true,Bool.false_or,Bool.and_eq_true,decide_eq_true_eq] at this;exact ih _ (by rw [← hn]; exact this.1) e.on this.2 rfl
     rw [hr] at this; cases this
  have hdone:∀ (listed:Array Bool) (s2:St) (a2:Act) (E:Env) (done:List Nat) (rm:Option (Nat × List (List Nat × Nat))),listed.size = os.size →
    v7 P A N (fR st) s ops bef last fr (fun e σ'=>Q .normal { fr with v:=e } σ') (fun v σ'=>Q (.panic v) { fr with v:=de ops fr.v } σ') (fun j=>listed.getD j false) s2 a2 E done rm → Region.ready .any os listed = [] → dt A N s Q .normal a2 s2.w:=by
   intro listed s2 a2 E done rm hsz hd hr;have hall:=hready listed hsz hr;have hlt:∀ i o,ops[i]? = some o → i < os.size:=fun i o h=>by
    rcases Nat.lt_or_ge i os.size with h' | h'
    ·exact h'
    ·rw [List.getElem?_eq_none (by omega)] at h; cases h
   cases rm with
   | none=>exact ⟨.normal,{ fr with v:=E },s2,rfl,hd.inv,hd.goes,⟨hd.size,fun t=>hd.v t fun i o ho _=>.inl (hall i (hlt i o ho)),hd.ds⟩,trivial,hd.cont⟩
   | some q=>
    obtain ⟨l,r'⟩:=q;obtain ⟨⟨o,ho,_⟩,_⟩:=hd.ok;have h1:=hd.todo l (by simp [aW]);have h2:=hall l (hlt l o ho);rw [h2] at h1; cases h1
  intro fuel
  induction fuel with
  | zero=>
   intro listed s2 a2 E done rm hsz hcnt hrmn hd;have hr:Region.ready .any os listed = []:=by
    cases hr:Region.ready .any os listed with
    | nil=>rfl
    | cons i l=>
     have hi:i ∈ Region.ready .any os listed:=by rw [hr]; simp
     obtain ⟨g1,o,g2,_⟩:=mem_ready.1 hi;have hilt:i < os.size:=by
      rcases Nat.lt_or_ge i os.size with h' | h'
      ·exact h'
      ·rw [Array.getElem?_eq_none h'] at g2; cases g2
     have hi':i < listed.size:=by omega
     have:=je (l:=listed.toList) (i:=i) (by omega);simp [hi'] at this g1;rw [g1] at this; simp at this
   exact ⟨hr,hdone listed s2 a2 E done rm hsz hd hr⟩
  | succ fuel ih=>
   intro listed s2 a2 E done rm hsz hcnt hrmn hd;refine ⟨hdone listed s2 a2 E done rm hsz hd,fun i hi=>?_⟩;obtain ⟨g1,o,g2,g3⟩:=mem_ready.1 hi;have hilt:i < os.size:=by
    rcases Nat.lt_or_ge i os.size with h' | h'
    ·exact h'
    ·rw [Array.getElem?_eq_none h'] at g2; cases g2
   have hi':i < listed.size:=by omega
   have hpi:listed.getD i false = false:=by simp [hi'] at g1 ⊢; exact g1
   have hb1:=gO hbef (j:=i) (o:=o) (by simpa using g2);simp only [kC,Nat.zero_add,Bool.and_eq_true,List.all_eq_true,List.any_eq_true,decide_eq_true_eq,Bool.or_eq_true,beq_iff_eq,List.contains_eq_mem] at hb1;have hbi:∀ x ∈ bef.getD i [],listed.getD x false = true:=by
    intro x hx;obtain ⟨e,q2,q3,q4⟩:=hb1.2 x hx;have hon:=g3 e (by simpa using q2) q3;rcases q4 with q4 | q4
    ·rw [← q4]; exact hon
    ·exact hd.closed e.on hon x q4
   obtain ⟨ao,k1,k2,k3,k4⟩:=gg hc1 (j:=i) (o:=o) (by simpa using g2);have hrdi:=lz hrd (j:=i) (o:=ao) k1;rw [Nat.zero_add] at hrdi;have hp':∀ j,(listed.setIfInBounds i true).getD j false = (listed.getD j false || j == i):=by
    intro j;by_cases hji:j = i
    ·subst hji; simp [hi']
    ·rw [getD_set_ne false (fun h=>hji h.symm)]; simp [hji]
   have hcnt':cnt (listed.setIfInBounds i true).toList ≤ fuel:=by
    have:=kH (l:=listed.toList) (i:=i) (by simp [hi'] at hpi ⊢; exact hpi);simp only [Array.toList_setIfInBounds]; omega
   have hclosed':∀ j,(listed.setIfInBounds i true).getD j false = true → ∀ x ∈ bef.getD j [],(listed.setIfInBounds i true).getD x false = true:=by
    intro j hj x hx;rw [hp'] at hj ⊢;simp only [Bool.or_eq_true,beq_iff_eq] at hj ⊢;rcases hj with hj | hj
    ·exact .inl (hd.closed j hj x hx)
    ·subst hj; exact .inl (hbi x hx)
   -- the frame, of what this operation reads
   have hfr:bK s2 N { fr with v:=E.only (bb ao) } a2:=⟨hd.size,fun t=>by
    show Rv s2 ((E.only (bb ao)).get t) _
    rw [ek];split
    ·rename_i hm;refine hd.v t fun j oj hj hdj=>?_
     have:=j9 hrdi hj hdj hm;rw [Nat.zero_add] at this;rcases this with h | hnc | ⟨l,h1,h2,h3⟩
     ·exact .inl (hbi j h)
     ·rcases hd.cover j (List.getElem?_eq_some_iff.1 hj).1 with h | h | h
      ·obtain ⟨o',ho',hc'⟩:=hd.dq j h;rw [hj] at ho';cases ho';rw [hnc] at hc'; cases hc'
      ·exact .inr h
      ·exact .inl h
     ·right;have hpl:listed.getD l false = false:=by
       cases hl:listed.getD l false with
       | false=>rfl
       | true=>
        rcases h3 with h3 | h3
        ·have:=hd.closed l hl i h3;rw [hpi] at this; cases this
        ·subst h3; rw [hpi] at hl; cases hl
      cases rm with
      | none=>
       have:=hd.lp rfl l h1;rw [hpl] at this; cases this
      | some q=>
       obtain ⟨l',r'⟩:=q;simp only [aW,List.mem_cons];right;exact k7 h2
    ·exact .undef _,hd.ds⟩
   have hsame:∀ x ∈ ao.i.bH,opv (E.only (bb ao)) x = opv E x ∧ opg (E.only (bb ao)) x = opg E x:=lJ (fun n hn=>by
    rw [ek,if_pos (by unfold bb; exact List.mem_append_left _ hn)])
   have hne:=dW k4
   -- whose turn it is
   have hguard:∀ {g},ao.g = g → g = none → (Region.wanted o (yielded os a2.tmps)) = true:=by
    intro g hg hg';subst hg';rw [hg] at k3;have hgn:o.guard = none:=by cases hgu:o.guard with
     | none=>rfl
     | some x=>rw [hgu] at k3; simp [my] at k3
    simp [Region.wanted,hgn]
   have hgd:∀ {gd g},ao.g = some gd → cH E gd = some g → Region.wanted o (yielded os a2.tmps) = g:=by
    intro gd g hag hE;refine eV hfr (by rw [hag] at k3; exact k3) ?_;simp only [cH] at hE ⊢;rw [ek,if_pos (by simp [bb,hag])];exact hE
   have hltops:i < ops.length:=by omega
   have hput:∀ (s':St),aL s2 s' → ∀ (c:Value) (x:Nat),Rv s' .undef c → ao.d ≠ some x → Rv s2 (E.get x) (a2.tmps.getD x Go.undef) → Rv s' (E.get x) ((a2.put o.dst c).tmps.getD x Go.undef):=by
    intro s' hk c x hc hdx hv
    have f0:bK s' N { v:=[(x,E.get x)],ds:=fr.ds } a2:=⟨hd.size,fun t=>by
     simp only [Env.get];split
     ·rename_i e; subst e; exact hv.keeps hk
     ·exact .undef _,hd.ds.keeps hk⟩
    have:=(f0.put k2 hc).v x;simp only [Fr.put,bI,if_neg hdx,Env.get,if_true] at this;exact this
   have hwait:∀ {l:Nat} {r':List (List Nat × Nat)},rm = some (l,r') → i ∈ bc last r' → False:=by
    intro l r' hrm hm;subst hrm;obtain ⟨l',m1,m2⟩:=mW hd.ok.2 i hm;have:=hd.todo l' m1;rw [hbi l' m2] at this; cases this
   have hnot:∀ j,j ∈ aW last rm → j ∈ done → j = i → False:=fun j hj hjd _=>hd.nd j hjd hj
   have hop:ao.i.quiet = false → ∀ x ∈ ao.i.opers,opv (E.only (bb ao)) x = opv E x ∧ opg (E.only (bb ao)) x = opg E x:=by
    intro hq x hx;refine hsame x ?_;generalize ao.i = ai at *;cases ai <;> first | exact hx | (simp [AI.quiet] at hq)
   rcases hd.cover i hltops with hin | hin | hin
   ·-- one that may be done at any time
    obtain ⟨o',e1,e2⟩:=hd.dq i hin;rw [k1] at e1; cases e1;have hcc:=hd.quiets i hin hpi ao k1;have hK:∀ v c s',Inv A s' → aT s2 s' → s'.h = s2.h → Rv s' v c → (∀ d,ao.d = some d → E.get d = v) → wpAnyIn (Fro r) 0 P .any os (dt A N s Q) fuel (listed.setIfInBounds i true) (a2.put o.dst c) s'.w:=by
     intro v c s' i' g' hh rv hvd;have f1:=(hfr.keeps g'.keeps).put k2 rv;refine ih _ s' _ E done rm (by simpa using hsz) hcnt' hrmn ⟨i',hd.goes.trans g',f1.size,f1.ds,fun x hx=>?_,fun hj l' hl'=>?_,hd.lr,hclosed',fun j hj hpj oj hoj=>?_,hd.base,hd.nd,hd.dq,fun j hj=>?_,fun j hj=>?_,hd.ok, ?_⟩
     ·by_cases hdx:ao.d = some x
      ·have:=f1.v x;simp only [Fr.put,bI,hdx,if_true] at this;rw [hvd x hdx]; exact this
      ·refine hput s' g'.keeps c x (.undef _) hdx (hd.v x fun j oj hj hdj=>?_);refine (hx j oj hj hdj).imp (fun h=>?_) (fun h=>h);rw [hp'] at h;simp only [Bool.or_eq_true,beq_iff_eq] at h;rcases h with h | h
       ·exact h
       ·subst h; rw [k1] at hj; cases hj; exact absurd hdj hdx
     ·rw [hp',hd.lp hj l' hl']; rfl
     ·rw [hp'] at hpj;simp only [Bool.or_eq_false_iff] at hpj;rw [hh];exact hd.quiets j hj hpj.1 oj hoj
     ·rw [hp',hd.todo j hj];simp only [Bool.false_or,beq_eq_false_iff_ne];intro e;subst e;exact hnot j hj hin rfl
     ·rcases hd.cover j hj with h | h | h
      ·exact .inl h
      ·exact .inr (.inl h)
      ·exact .inr (.inr (by rw [hp',h]; rfl))
     ·rw [hh]; exact hd.cont
    by_cases hqt:ao.i.quiet = true
    ·simp only [ccs,if_pos hqt] at hcc;obtain ⟨q1,q2'⟩:=hcc;have q2:∀ d,ao.d = some d → E.get d = gqv E s2.h ao:=fun d hd'=>by rw [hd'] at q2'; exact q2'
     have hgo:ed E s2.h ao.i → Region.wanted o (yielded os a2.tmps) = true → (∀ c,Rv s2 (bZ E s2.h ao.i) c → Rv s2 (gqv E s2.h ao) c) → wpOpIn (Fro r) 0 P os (dt A N s Q) i (fun a w=>wpAnyIn (Fro r) 0 P .any os (dt A N s Q) fuel (listed.setIfInBounds i true) a w) a2 s2.w:=by
      intro q1 hw hrv;have hqc:=gH k4 hqt hsame q1 (H:=s2.h) (fun _ _ _=>rfl);obtain ⟨c,c1,c2⟩:=eF hd.inv hfr k4 hqt hqc.1;unfold wpOpIn;rw [g2];simp only [hw,if_true];refine ⟨fun _ _=>trivial, ?_⟩;rw [Oper.semAt_eq _ _ _ hne,c1];rw [hqc.2] at c2;exact hK _ c s2 hd.inv (.refl s2) rfl (hrv c c2) q2
     cases hag:ao.g with
     | none=>
      simp only [gqs,hag] at q1;exact hgo q1 (hguard hag rfl) fun c hc=>by simp only [gqv,hag]; exact hc
     | some gd=>
      simp only [gqs,hag] at q1
      cases hE:cH E gd with
      | none=>rw [hE] at q1; exact q1.elim
      | some g=>
       rw [hE] at q1;have hw:=hgd hag hE
       cases g with
       | true=>exact hgo (q1 rfl) hw fun c hc=>by simp only [gqv,hag,hE]; exact .optT _ _ hc
       | false=>
        unfold wpOpIn;rw [g2];simp only [hw,Bool.false_eq_true,if_false];exact ⟨fun _ _=>trivial,hK _ _ s2 hd.inv (.refl s2) rfl (by simp only [gqv,hag,hE]; exact .optF _) q2⟩
    ·have hqf:ao.i.quiet = false:=by simpa using hqt
     simp only [ccs,hqf,Bool.false_eq_true,if_false] at hcc;have hag:ao.g = none:=by
      simp only [iX,hqf,Bool.false_or,Bool.and_eq_true,Option.isNone_iff_eq_none] at e2;exact e2.2
     have hstep:=cQ hd.inv hfr k4 (jP hqf (hop hqf) hcc);unfold wpOpIn;rw [g2];simp only [hguard hag rfl,if_true];refine ⟨fun _ _=>trivial, ?_⟩;rw [Oper.semAt_eq _ _ _ hne];exact fT hstep (fun v c s' i' g' rv hq=>hK v c s' i' g' hq.1 rv (fun d hd'=>by have:=hq.2; rw [hd'] at this; exact this)) (fun _ _ _ _ _ _ h=>h.elim)
   ·-- a call
    cases rm with
    | none=>simp [aW] at hin
    | some q=>
     obtain ⟨l,r'⟩:=q;simp only [aW,List.mem_cons] at hin;rcases hin with hin | hin;rotate_left
     ·exact (hwait rfl hin).elim
     subst hin;have hok:=hd.ok;have hcont:=hd.cont;have htd:=hd.todo;obtain ⟨⟨o',e1,e2⟩,hst'⟩:=hok;rw [k1] at e1; cases e1;obtain ⟨o',e1,haw⟩:=hcont;rw [k1] at e1; cases e1;have hK : ∀ v c s',Inv A s' → aT s2 s' → Rv s' v c → gz P ops bef last r' done (bef.getD i []) (E.put ao.d v) s'.h (fun e σ' => Q .normal { fr with v := e } σ') (fun v σ' => Q (.panic v) { fr with v := de ops fr.v } σ') → wpAnyIn (Fro r) 0 P .any os (dt A N s Q) fuel (listed.setIfInBounds i true) (a2.put o.dst c) s'.w := by
      intro v c s' i' g' rv hq;have f1:=(hfr.keeps g'.keeps).put k2 rv;obtain ⟨E',done',rm',hinv,hrm'⟩:=v7.enter (P:=P) (A:=A) (N:=N) (L0:=fR st) (s0:=s) (bef:=bef) (fr0:=fr) (K:=fun e σ'=>Q .normal { fr with v:=e } σ') (Kp:=fun v σ'=>Q (.panic v) { fr with v:=de ops fr.v } σ') (p:=fun j=>(listed.setIfInBounds i true).getD j false) (a:=a2.put o.dst c) (pv:=some i)
       i' (hd.goes.trans g') f1.size f1.ds (fun x hx=>by
        by_cases hdx:ao.d = some x
        ·have:=f1.v x;simp only [Fr.put,bI,hdx,if_true] at this;rw [bI,if_pos hdx]; exact this
        ·rw [bI,if_neg hdx];refine hput s' g'.keeps c x (.undef _) hdx (hd.v x fun j oj hj hdj=>?_);rcases hx j oj hj hdj with h | h
         ·have h:(listed.setIfInBounds i true).getD j false = true:=h;rw [hp'] at h;simp only [Bool.or_eq_true,beq_iff_eq] at h;rcases h with h | h
          ·exact .inl h
          ·subst h; rw [k1] at hj; cases hj; exact absurd hdj hdx
         ·exact .inr (by simp only [aW,List.mem_cons]; exact .inr h))
       (fun hr' l' hl'=>by
        subst hr';have:=hd.lr _ rfl;rw [this] at hl';simp only [fR,Option.some.injEq] at hl';subst hl';show (listed.setIfInBounds i true).getD i false = true
        rw [hp']; simp)
       (fun hr'=>(hd.lr _ rfl).trans (qw hr'))
       hclosed' (fun j hj=>by show (listed.setIfInBounds i true).getD j false = true; rw [hp',hbi j hj]; rfl) hd.dq (fun x hx=>by rw [bI,if_neg (hx i ao k1)]; exact hd.base x hx) (fun j hj hj2=>hd.nd j hj (by simp [aW,hj2])) (hrmn _ rfl) (fun j hj=>by
        show (listed.setIfInBounds i true).getD j false = false
        rw [hp',htd j (by simp [aW,hj])];simp only [Bool.false_or,beq_eq_false_iff_ne];intro e;subst e
        exact hwait rfl hj)
       (fun j hj=>by
        rcases hd.cover j hj with h | h | h
        ·exact .inl h
        ·simp only [aW,List.mem_cons] at h;rcases h with h | h
         ·exact .inr (.inr (by show (listed.setIfInBounds i true).getD j false = true; rw [hp',h]; simp))
         ·exact .inr (.inl h)
        ·exact .inr (.inr (by show (listed.setIfInBounds i true).getD j false = true; rw [hp',h]; rfl))) hst' hq
      exact ih _ s' _ E' done' rm' (by simpa using hsz) hcnt' hrm' hinv
     have hgo:eS P ao.i E s2.h (fun v σ'=>gz P ops bef last r' done (bef.getD i []) (E.put ao.d v) σ' (fun e σ'=>Q .normal { fr with v:=e } σ') (fun v σ'=>Q (.panic v) { fr with v:=de ops fr.v } σ')) (fun v σ'=>Q (.panic v) { fr with v:=de ops fr.v } σ') → Region.wanted o (yielded os a2.tmps) = true →
       wpOpIn (Fro r) 0 P os (dt A N s Q) i (fun a w=>wpAnyIn (Fro r) 0 P .any os (dt A N s Q) fuel (listed.setIfInBounds i true) a w) a2 s2.w:=by
      intro haw hw;have hstep:=cQ hd.inv hfr k4 (jP e2 (hop e2) haw);unfold wpOpIn;rw [g2];simp only [hw,if_true];refine ⟨fun _ _=>trivial, ?_⟩;rw [Oper.semAt_eq _ _ _ hne]
      exact fT hstep (fun v c s' i' g' rv hq=>hK v c s' i' g' rv hq) (fun v c s' i' g' rv hq=>
       ⟨.panic v,{ fr with v:=de ops fr.v },s',rfl,i',hd.goes.trans g',⟨hd.size,fun x=>by
        show Rv s' ((de ops fr.v).get x) _
        by_cases hx:∃ o ∈ ops,o.d = some x
        ·rw [gK hx]; exact .undef _
        ·have hx2:∀ (i:Nat) (o:au),ops[i]? = some o → o.d ≠ some x:=fun i o ho hox=>hx ⟨o,List.mem_of_getElem? ho,hox⟩
         rw [nf fun o ho hox=>hx ⟨o,ho,hox⟩, ← hd.base x hx2]
         exact (hd.v x fun (i:Nat) (o:au) ho hox=>absurd hox (hx2 i o ho)).keeps g'.keeps,hd.ds.keeps g'.keeps⟩,⟨c,rfl,rv⟩,hq⟩)
     cases hag:ao.g with
     | none=>simp only [cql,hag] at haw; exact hgo haw (hguard hag rfl)
     | some gd=>
      simp only [cql,hag] at haw
      cases hE:cH E gd with
      | none=>rw [hE] at haw; exact haw.elim
      | some g=>
       rw [hE] at haw;have hw:=hgd hag hE
       cases g with
       | true=>exact hgo (haw.1 rfl) hw
       | false=>
        unfold wpOpIn;rw [g2];simp only [hw,Bool.false_eq_true,if_false];exact ⟨fun _ _=>trivial,hK _ _ s2 hd.inv (.refl s2) (.optF _) (haw.2 rfl)⟩
   ·rw [hpi] at hin; cases hin
 have hf0:∀ j,(Array.replicate os.size false).getD j false = false:=fun j=>by
  simp [Array.getD_eq_getD_getElem?,Array.getElem?_replicate]; split <;> rfl
 obtain ⟨E',done',rm',hinv,hrm'⟩:=v7.enter (P:=P) (A:=A) (N:=N) (L0:=fR st) (s0:=s) (bef:=bef) (fr0:=fr) (K:=fun e σ'=>Q .normal { fr with v:=e } σ') (Kp:=fun v σ'=>Q (.panic v) { fr with v:=de ops fr.v } σ') (p:=fun j=>(Array.replicate os.size false).getD j false) (s:=sd) (a:=a) (pv:=none) (no:=[]) (done:=[])
  gd.1 gd.2 h3.size (h3.ds.keeps gd.2.keeps) (fun x _=>(h3.v x).keeps gd.2.keeps) (fun hr' l' hl'=>by rw [hr'] at hl'; cases hl') (fun _=>rfl) (fun j hj=>by rw [hf0] at hj; cases hj) (fun i hi=>by cases hi) (fun i hi=>by cases hi) (fun _ _=>rfl) (fun i hi=>by cases hi) (kf hnu) (fun i _=>hf0 i)
  (fun i hi=>.inr (.inl (by have:=List.all_eq_true.1 hall i (by simpa using hi); simpa using this))) hst h
 refine key os.size (Array.replicate os.size false) sd a E' done' rm' (by simp) ?_ hrm' hinv;have:∀ n,cnt (List.replicate n false) = n:=fun n=>by
  induction n with
  | zero=>rfl
  | succ n ih=>simp only [List.replicate_succ,cnt,ih]; simp; omega
 simp [this]
theorem qG {id:Nat} {os:Array Oper} {ops:List au} {bef:List (List Nat)} {st:List (List Nat × Nat)} {last:List Nat} {ro:Option Nat} {Q:AEx → Fr → ab → Prop} {fr:Fr} {σ:ab} (hc:Ah P N os ops bef st last = true)
  (h:gz P ops bef last st [] [] fr.v σ (fun e σ'=>Q .normal { fr with v:=e } σ') (fun v σ'=>Q (.panic v) { fr with v:=de ops fr.v } σ')):AWc P N ro (.region id os true) Q fr σ:=by
 have hm:P.follows .mixedOrders = true:=by
  simp only [Ah,iE,Bool.and_eq_true] at hc;exact hc.1.1.1.1.1.1.2
 exact fun A s a r h1 h2 h3 h4=>wpIn_region_any hm (ma hc h A s a r h1 h2 h3 h4)
end
open Go.RowKit
def dV (os:Array Oper) (k m:Nat):Array Oper:=os.modify k fun o=>{ o with after:=o.after.push ⟨m, .phase⟩ }
def nJ:Op → Bool
 | .move _ | .assign _ | .load _ _ | .nilCheck _ | .fieldAddr _ _ _ | .indexAddr _ _ _=>true
 | _=>false
def zn (i j:Nat) (o:Oper):Bool:=nJ o.op || o.after.toList.any fun e=>Region.binds .any e && (e.on == i || e.on == j)
def flatAll (i j:Nat):List Oper → Nat → Bool
 | [],_=>true
 | o :: r,k=>(k == i || k == j || zn i j o) && flatAll i j r (k + 1)
theorem jt {i j:Nat}:∀ {l:List Oper} {k x:Nat} {o:Oper},flatAll i j l k = true → l[x]? = some o → k + x ≠ i → k + x ≠ j → zn i j o = true
 | [],_,_,_,_,h,_,_=>by simp at h
 | a :: r,k,0,o,hb,h,h1,h2=>by
  simp at h; subst h;simp only [flatAll,Bool.and_eq_true,Bool.or_eq_true,beq_iff_eq] at hb;rcases hb.1 with (h | h) | h
  ·exact absurd h h1
  ·exact absurd h h2
  ·exact h
 | a :: r,k,x + 1,o,hb,h,h1,h2=>by
  simp only [flatAll,Bool.and_eq_true] at hb;exact jt hb.2 (x:=x) (by simpa using h) (by omega) (by omega)
section
variable {P:Program} {F:Fence} {n:Nat} {os:Array Oper} {Q:Exit → Act → World → Prop} {i j:Nat}
theorem hG (os:Array Oper) (k m x:Nat):(dV os k m)[x]? = if k = x then os[x]?.map (fun o=>{ o with after:=o.after.push ⟨m, .phase⟩ }) else os[x]?:=by
 unfold dV;rw [Array.getElem?_modify]
theorem qL (os:Array Oper) (k m:Nat):(dV os k m).size = os.size:=by simp [dV]
theorem mq (os:Array Oper) (k m:Nat) (tmps:Array Value):yielded (dV os k m) tmps = yielded os tmps:=by
 funext x;have h:((dV os k m)[x]?).bind (·.dst) = (os[x]?).bind (·.dst):=by
  rw [hG];by_cases e:k = x
  ·rw [if_pos e]; cases os[x]? <;> rfl
  ·rw [if_neg e]
 unfold yielded;rw [h]
theorem gL (k m x:Nat) (K:Act → World → Prop) (a:Act) (w:World):wpOpIn F n P (dV os k m) Q x K a w ↔ wpOpIn F n P os Q x K a w:=by
 unfold wpOpIn;rw [hG,mq];by_cases e:k = x
 ·rw [if_pos e]; cases os[x]? <;> exact Iff.rfl
 ·rw [if_neg e]
theorem mh {k m x:Nat} {listed:Array Bool} (h:x ∈ Region.ready .any (dV os k m) listed):x ∈ Region.ready .any os listed:=by
 obtain ⟨h1,o,h2,h3⟩:=mem_ready.1 h;rw [hG] at h2
 split at h2
 ·rename_i e
  cases ho:os[x]? with
  | none=>rw [ho] at h2; cases h2
  | some o'=>
   rw [ho] at h2;simp only [Option.map_some,Option.some.injEq] at h2;subst h2;exact mem_ready.2 ⟨h1,o',ho,fun e he hb=>h3 e (by simp [he]) hb⟩
 ·exact mem_ready.2 ⟨h1,o,h2,h3⟩
theorem bz {k m x:Nat} {listed:Array Bool} (h:x ∈ Region.ready .any os listed) (hx:k = x → listed.getD m false = true):x ∈ Region.ready .any (dV os k m) listed:=by
 obtain ⟨h1,o,h2,h3⟩:=mem_ready.1 h;refine mem_ready.2 ⟨h1, ?_⟩;rw [hG];split
 ·rename_i e;refine ⟨_,by rw [h2]; rfl,fun e' he hb=>?_⟩;simp only [Array.mem_push] at he;rcases he with he | he
  ·exact h3 e' he hb
  ·rw [he]; exact hx e
 ·exact ⟨o,h2,h3⟩
theorem nr {k m:Nat} {listed:Array Bool} (h:Region.ready .any os listed = []):Region.ready .any (dV os k m) listed = []:=by
 cases hr:Region.ready .any (dV os k m) listed with
 | nil=>rfl
 | cons x l=>have:x ∈ Region.ready .any os listed:=mh (by rw [hr]; simp); rw [h] at this; cases this
theorem IN {listed:Array Bool} {x m:Nat} (h:listed.getD m false = true):(listed.setIfInBounds x true).getD m false = true:=by
 by_cases e:x = m
 ·subst e;simp only [Array.getD_eq_getD_getElem?,Array.getElem?_setIfInBounds] at h ⊢;by_cases hs:x < listed.size
  ·simp [hs]
  ·simp [hs] at h
 ·simp only [Array.getD_eq_getD_getElem?,Array.getElem?_setIfInBounds,e,if_false] at h ⊢;exact h
theorem pr {listed:Array Bool} {x:Nat} (h:listed.getD x true = false):(listed.setIfInBounds x true).getD x false = true:=by
 simp only [Array.getD_eq_getD_getElem?] at h ⊢;by_cases hs:x < listed.size
 ·simp [hs]
 ·simp [hs] at h
theorem gE {k m:Nat}:∀ (fuel:Nat) (listed:Array Bool) (a:Act) (w:World),listed.getD m false = true → wpAnyIn F n P .any (dV os k m) Q fuel listed a w → wpAnyIn F n P .any os Q fuel listed a w
 | 0,listed,a,w,hl,h=>by
  refine ⟨?_,h.2⟩
  cases hr:Region.ready .any os listed with
  | nil=>rfl
  | cons x l=>
   have:x ∈ Region.ready .any (dV os k m) listed:=bz (by rw [hr]; simp) fun _=>hl
   rw [h.1] at this; cases this
 | fuel + 1,listed,a,w,hl,h=>by
  refine ⟨fun hr=>h.1 (nr hr),fun x hx=>?_⟩;have:=(gL k m x _ a w).1 (h.2 x (bz hx fun _=>hl));exact wpOpIn_mono (fun a w hk=>gE fuel _ a w (IN hl) hk) this
theorem wh {o:Oper} (hf:nJ o.op = true) {r:Option Nat} {ρ:Operand → Value} {w w':World} {x:Next} (h:(o.semAt r ρ).run P w = .ok x w'):(∃ v,x = .value v) ∨ x = .skip:=by
 have hne:∀ c,o.op ≠ .defer c:=fun c e=>by rw [e] at hf; cases hf
 rw [Oper.semAt_eq _ _ _ hne] at h;have key:∀ {m:Sem Value},(do pure (Next.value (← m)):Sem Next).run P w = .ok x w' → (∃ v,x = .value v) ∨ x = .skip:=by
  intro m h;simp only [Sem.run_bind,Sem.run_pure] at h
  cases hm:m.run P w with
  | ok v w1=>rw [hm] at h; simp only [Result.andThen_ok,Result.ok.injEq] at h; exact .inl ⟨v,h.1.symm⟩
  | halt y w1=>rw [hm] at h; cases h
 have key2:∀ {m:Sem Unit},(do m; pure Next.skip:Sem Next).run P w = .ok x w' → (∃ v,x = .value v) ∨ x = .skip:=by
  intro m h;simp only [Sem.run_bind,Sem.run_pure] at h
  cases hm:m.run P w with
  | ok v w1=>rw [hm] at h; simp only [Result.andThen_ok,Result.ok.injEq] at h; exact .inr h.1.symm
  | halt y w1=>rw [hm] at h; cases h
 cases ho:o.op <;> rw [ho] at hf <;> first | (cases hf; done) | skip
 all_goals
  simp only [execOp,ho] at h
  first
   | exact key h
   | exact key2 h
   | (simp at h; exact .inl ⟨_,h.1.symm⟩)
   | skip
 all_goals
  repeat' (split at h)
  all_goals first
   | (cases h; done)
   | (simp at h; done)
   | (simp at h; exact .inl ⟨_,h.1.symm⟩)
   | (simp at h
      revert h;generalize Sem.run P _ w = q;intro h
      cases q with
      | ok a w1=>
       simp only [Result.andThen_ok] at h
       split at h <;> first
        | (cases h; done)
        | (simp at h; exact .inl ⟨_,h.1.symm⟩)
      | halt a w1=>cases h)
theorem Cc {x:Nat} {o:Oper} (ho:os[x]? = some o) (hf:nJ o.op = true) {K K':Act → World → Prop} {a:Act} {w:World} (h:wpOpIn F n P os Q x K a w) (h':wpOpIn F n P os Q x K' a w):wpOpIn F n P os Q x (fun a w=>K a w ∧ K' a w) a w:=by
 unfold wpOpIn at *;rw [ho] at *;simp only at *;split
 ·rename_i hw;rw [if_pos hw] at h h';unfold Oper.wpIn at *;refine ⟨h.1, ?_⟩;have h1:=h.2;have h2:=h'.2
  cases hr:(o.semAt F.round a.eval).run P w with
  | ok y w'=>
   rw [hr] at h1 h2;rcases wh hf hr with ⟨v,rfl⟩ | rfl
   ·exact ⟨h1,h2⟩
   ·exact ⟨h1,h2⟩
  | halt y w'=>
   rw [hr] at h1;cases y <;> simp only [Oper.uponIn] at h1 ⊢ <;> exact h1
 ·rename_i hw;rw [if_neg hw] at h h';exact ⟨h.1,h.2,h'.2⟩
theorem nw (hij:i ≠ j) (hf:flatAll i j os.toList 0 = true):∀ (fuel:Nat) (listed:Array Bool) (a:Act) (w:World),listed.getD i false = false → listed.getD j false = false →
  wpAnyIn F n P .any (dV os j i) Q fuel listed a w → wpAnyIn F n P .any (dV os i j) Q fuel listed a w → wpAnyIn F n P .any os Q fuel listed a w
 | 0,listed,a,w,hi,hj,h1,h2=>by
  refine ⟨?_,h1.2⟩
  cases hr:Region.ready .any os listed with
  | nil=>rfl
  | cons x l=>
   have hx:x ∈ Region.ready .any os listed:=by rw [hr]; simp
   by_cases e:x = j
   ·have:x ∈ Region.ready .any (dV os i j) listed:=bz hx fun h=>absurd (h.trans e) hij
    rw [h2.1] at this; cases this
   ·have:x ∈ Region.ready .any (dV os j i) listed:=bz hx fun h=>absurd h.symm e
    rw [h1.1] at this; cases this
 | fuel + 1,listed,a,w,hi,hj,h1,h2=>by
  refine ⟨fun hr=>h1.1 (nr hr),fun x hx=>?_⟩;obtain ⟨g1,o,g2,g3⟩:=mem_ready.1 hx;by_cases ei:x = i
  ·subst ei;have:=(gL j x x _ a w).1 (h1.2 x (bz hx fun h=>absurd h.symm hij));exact wpOpIn_mono (fun a w hk=>gE fuel _ a w (pr g1) hk) this
  ·by_cases ej:x = j
   ·subst ej;have:=(gL i x x _ a w).1 (h2.2 x (bz hx fun h=>absurd h hij));exact wpOpIn_mono (fun a w hk=>gE fuel _ a w (pr g1) hk) this
   ·have k1:=(gL j i x _ a w).1 (h1.2 x (bz hx fun h=>absurd h.symm ej));have k2:=(gL i j x _ a w).1 (h2.2 x (bz hx fun h=>absurd h.symm ei));have hfl:=jt hf (x:=x) (o:=o) (by simpa using g2) (by omega) (by omega);have hfo:nJ o.op = true:=by
     unfold zn at hfl;simp only [Bool.or_eq_true] at hfl;rcases hfl with h | h
     ·exact h
     ·simp only [List.any_eq_true,Bool.and_eq_true,Bool.or_eq_true,beq_iff_eq] at h;obtain ⟨e,he,hb,he2⟩:=h;have:=g3 e (by simpa using he) hb;rcases he2 with he2 | he2
      ·rw [he2,hi] at this; cases this
      ·rw [he2,hj] at this; cases this
    refine wpOpIn_mono (fun a w hk=>?_) (Cc g2 hfo k1 k2);refine nw hij hf fuel _ a w ?_ ?_ hk.1 hk.2
    ·simp only [Array.getD_eq_getD_getElem?,Array.getElem?_setIfInBounds,ei,if_false] at hi ⊢; exact hi
    ·simp only [Array.getD_eq_getD_getElem?,Array.getElem?_setIfInBounds,ej,if_false] at hj ⊢; exact hj
end
structure Ord where
 rk:List Nat
 bef:List (List Nat)
 st:List (List Nat × Nat)
 last:List Nat
def Na (P:Program) (N:Nat) (os:Array Oper) (ops:List au) (i j:Nat) (a b:Ord):Bool:=
 decide (i ≠ j) && flatAll i j os.toList 0 && iE a.rk P N (dV os j i) ops a.bef a.st a.last && iE b.rk P N (dV os i j) ops b.bef b.st b.last
def Cm (P:Program) (ops:List au) (a b:Ord) (e:Env) (σ:ab) (K:Env → ab → Prop) (Kp:aa → ab → Prop):Prop:=
 gz P ops a.bef a.last a.st [] [] e σ K Kp ∧ gz P ops b.bef b.last b.st [] [] e σ K Kp
theorem re {P:Program} {N:Nat} {id:Nat} {os:Array Oper} {ops:List au} {i j:Nat} {a b:Ord} {ro:Option Nat} {Q:AEx → Fr → ab → Prop} {fr:Fr} {σ:ab} (hc:Na P N os ops i j a b = true)
  (h:Cm P ops a b fr.v σ (fun e σ'=>Q .normal { fr with v:=e } σ') (fun v σ'=>Q (.panic v) { fr with v:=de ops fr.v } σ')):AWc P N ro (.region id os true) Q fr σ:=by
 simp only [Na,Bool.and_eq_true,decide_eq_true_eq] at hc;obtain ⟨⟨⟨hij,hf⟩,ha⟩,hb⟩:=hc;have hm:P.follows .mixedOrders = true:=by
  simp only [iE,Bool.and_eq_true] at ha;exact ha.1.1.1.1.1.1.2
 intro A s ac r h1 h2 h3 h4;refine wpIn_region_any hm ?_;have w1:=ma ha h.1 A s ac r h1 h2 h3 h4;have w2:=ma hb h.2 A s ac r h1 h2 h3 h4;rw [qL] at w1 w2;have hf0:∀ x,(Array.replicate os.size false).getD x false = false:=fun x=>by
  simp [Array.getD_eq_getD_getElem?,Array.getElem?_replicate]; split <;> rfl
 exact nw hij hf _ _ _ _ (hf0 i) (hf0 j) w1 w2
end Go.AM
