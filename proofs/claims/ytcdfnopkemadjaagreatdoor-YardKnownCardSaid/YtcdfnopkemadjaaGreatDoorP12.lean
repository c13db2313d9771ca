/- A region whose order Go leaves open, with calls that write: these are ordered among themselves. -/
import Derived.Test.YtcdfnopkemadjaaGreatDoorP11
namespace Go.AM
open Go.RowKit
def gqv (e:Env) (σ:ab) (o:au):aa:=match o.g with
 | none=>bZ e σ o.i
 | some gd=>match cH e gd with
  | some true=>.opt true (bZ e σ o.i)
  | some false=>.opt false .undef
  | none=>.undef
def gqs (e:Env) (σ:ab) (o:au):Prop:=match o.g with
 | none=>ed e σ o.i
 | some gd=>match cH e gd with
  | some g=>g = true → ed e σ o.i
  | none=>False
def gql (P:Program) (o:au) (e:Env) (σ:ab) (K:aa → ab → Prop):Prop:=match o.g with
 | none=>eS P o.i e σ K fun _ _=>False
 | some gd=>match cH e gd with
  | none=>False
  | some g=>(g = true → eS P o.i e σ K fun _ _=>False) ∧ (g = false → K (.opt false .undef) σ)
def jm (ops:List au):List Nat → Env → ab → Env
 | [],e,_=>e
 | i :: r,e,σ=>match ops[i]? with
  | some o=>jm ops r (e.put o.d (gqv e σ o)) σ
  | none=>jm ops r e σ
def rN (ops:List au) (no:List Nat) (e:Env) (σ:ab):List Nat → Prop
 | []=>True
 | i :: r=>(if no.contains i then True else match ops[i]? with
     | some o=>gqs e σ o ∧ match o.d with
      | some d=>e.get d = gqv e σ o
      | none=>True
     | none=>True) ∧ rN ops no e σ r
def jF (P:Program) (ops:List au) (bef:List (List Nat)) (last:List Nat):List (List Nat × Nat) → List Nat → List Nat → Env → ab → (Env → ab → Prop) → Prop
 | [],done,no,e,σ,K=>rN ops no (jm ops last e σ) σ (done ++ last) ∧ K (jm ops last e σ) σ
 | (qs,l) :: r,done,no,e,σ,K=>rN ops no (jm ops qs e σ) σ (done ++ qs) ∧ match ops[l]? with
  | some o=>gql P o (jm ops qs e σ) σ (fun v σ'=>jF P ops bef last r (done ++ qs) (bef.getD l []) ((jm ops qs e σ).put o.d v) σ' K)
  | none=>False
def nZ (ops:List au) (bef:List (List Nat)) (last:List Nat):List (List Nat × Nat) → Option Nat → Bool
 | [],p=>last.all fun i=>(match ops[i]? with | some o=>o.i.quiet | none=>false) && (match p with | some l=>(bef.getD i []).contains l | none=>true)
 | (qs,l) :: r,p=>(qs.all fun i=>(match ops[i]? with | some o=>o.i.quiet | none=>false) && (match p with | some l=>(bef.getD i []).contains l | none=>true)) &&
   (match ops[l]? with | some o=>!o.i.quiet | none=>false) && (match p with | some l'=>(bef.getD l []).contains l' | none=>true) && nZ ops bef last r (some l)
def bc (last:List Nat):List (List Nat × Nat) → List Nat
 | []=>last
 | (qs,l) :: r=>qs ++ l :: bc last r
def mP (bef:List Nat) (rs:List Nat):List au → Nat → Bool
 | [],_=>true
 | o :: r,i=>(match o.d with | some d=>!rs.contains d || bef.contains i | none=>true) && mP bef rs r (i + 1)
def zd (bef:List (List Nat)) (all:List au):List au → Nat → Bool
 | [],_=>true
 | o :: r,j=>mP (bef.getD j []) (bb o) all 0 && zd bef all r (j + 1)
def Lh (P:Program) (N:Nat) (os:Array Oper) (ops:List au) (bef:List (List Nat)) (st:List (List Nat × Nat)) (last:List Nat):Bool:=
 cz P N os ops os.toList && P.follows .mixedOrders && mT bef os.toList 0 && zd bef ops ops 0 && ko ops && nZ ops bef last st none && (List.range ops.length).all (fun i=>(bc last st).contains i)
theorem mc {bef rs:List Nat}:∀ {l:List au} {k i:Nat} {o:au} {d:Nat},mP bef rs l k = true → l[i]? = some o → o.d = some d → d ∈ rs → (k + i) ∈ bef
 | [],_,_,_,_,_,h,_,_=>by simp at h
 | a :: r,k,0,o,d,hb,h,hd,hm=>by
  simp at h; subst h;simp only [mP,hd,Bool.and_eq_true,Bool.or_eq_true,Bool.not_eq_true',List.contains_eq_mem,decide_eq_false_iff_not,decide_eq_true_eq] at hb;rcases hb.1 with h | h
  ·exact absurd hm h
  ·exact h
 | a :: r,k,i + 1,o,d,hb,h,hd,hm=>by
  simp only [mP,Bool.and_eq_true] at hb;have:=mc hb.2 (i:=i) (by simpa using h) hd hm;rw [show k + (i + 1) = k + 1 + i by omega]; exact this
theorem nB {bef:List (List Nat)} {all:List au}:∀ {l:List au} {k j:Nat} {o:au},zd bef all l k = true → l[j]? = some o → mP (bef.getD (k + j) []) (bb o) all 0 = true
 | [],_,_,_,_,h=>by simp at h
 | a :: r,k,0,o,hb,h=>by simp at h; subst h; simp only [zd,Bool.and_eq_true] at hb; exact hb.1
 | a :: r,k,j + 1,o,hb,h=>by
  simp only [zd,Bool.and_eq_true] at hb;have:=nB hb.2 (j:=j) (o:=o) (by simpa using h);rw [show k + (j + 1) = k + 1 + j by omega]; exact this
theorem iP {ops:List au} {x:Nat}:∀ {l:List Nat} {e:Env} {σ:ab},(∀ i ∈ l, ∀ o,ops[i]? = some o → o.d ≠ some x) → (jm ops l e σ).get x = e.get x
 | [],_,_,_=>rfl
 | i :: r,e,σ,h=>by
  simp only [jm]
  cases ho:ops[i]? with
  | none=>exact iP fun j hj=>h j (by simp [hj])
  | some o=>
   simp only;rw [iP fun j hj=>h j (by simp [hj]),bI,if_neg (h i (by simp) o ho)]
theorem lF {ops:List au} {no:List Nat} {e:Env} {σ:ab}:∀ {l:List Nat},rN ops no e σ l → ∀ {i:Nat} {o:au},i ∈ l → i ∉ no → ops[i]? = some o → gqs e σ o ∧ ∀ d,o.d = some d → e.get d = gqv e σ o
 | [],_,_,_,hi,_,_=>by cases hi
 | j :: r,h,i,o,hi,hn,ho=>by
  simp only [rN] at h;obtain ⟨h1,h2⟩:=h;rcases List.mem_cons.1 hi with e | hi
  ·subst e;have hc:no.contains i = false:=by simpa using hn
   rw [hc] at h1;simp only [Bool.false_eq_true,if_false,ho] at h1;refine ⟨h1.1,fun d hd=>?_⟩;have:=h1.2; rw [hd] at this; exact this
  ·exact lF h2 hi hn ho
theorem ek:∀ (l:List Nat) (e:Env) (t:Nat),(e.only l).get t = if t ∈ l then e.get t else .undef
 | [],_,_=>rfl
 | n :: l,e,t=>by
  simp only [Env.only,Env.get,List.mem_cons];by_cases h:n = t
  ·subst h; simp
  ·rw [if_neg h,ek l e t];by_cases h2:t ∈ l
   ·rw [if_pos h2,if_pos (.inr h2)]
   ·rw [if_neg h2,if_neg]; rintro (h3 | h3)
    ·exact h h3.symm
    ·exact h2 h3
section
variable {P:Program} {N:Nat} {A:World}
theorem jP {i:AI} {e e':Env} {σ:ab} {K Kp:aa → ab → Prop} (hq:i.quiet = false) (hs:∀ x ∈ i.opers,opv e' x = opv e x ∧ opg e' x = opg e x) (h:eS P i e σ K Kp):eS P i e' σ K Kp:=by
 unfold eS at h ⊢;rw [if_neg (by simp [hq])] at h ⊢;exact ⟨cd hs h.1,kS (fun x hx=>(hs x hx).1.symm) h.2⟩
def aW (last:List Nat):Option (Nat × List (List Nat × Nat)) → List Nat
 | none=>[]
 | some (l,r)=>l :: bc last r
def QOk (ops:List au) (bef:List (List Nat)) (last:List Nat):Option (Nat × List (List Nat × Nat)) → Prop
 | none=>True
 | some (l,r)=>(∃ o,ops[l]? = some o ∧ o.i.quiet = false) ∧ nZ ops bef last r (some l) = true
def aeB (P:Program) (ops:List au) (bef:List (List Nat)) (last:List Nat) (K:Env → ab → Prop) (E:Env) (σ:ab) (done:List Nat):Option (Nat × List (List Nat × Nat)) → Prop
 | none=>K E σ
 | some (l,r)=>∃ o,ops[l]? = some o ∧ gql P o E σ (fun v σ'=>jF P ops bef last r done (bef.getD l []) (E.put o.d v) σ' K)
structure uX (P:Program) (A:World) (N:Nat) (s0:St) (ops:List au) (bef:List (List Nat)) (last:List Nat) (fr0:Fr) (K:Env → ab → Prop) (p:Nat → Bool) (s:St) (a:Act) (E:Env) (done:List Nat) (rm:Option (Nat × List (List Nat × Nat))):Prop where
 inv:Inv A s
 goes:aT s0 s
 size:a.tmps.size = N
 ds:eM s fr0.ds a.defers
 v:∀ x,(∀ i o,ops[i]? = some o → o.d = some x → p i = true) → Rv s (E.get x) (a.tmps.getD x Go.undef)
 closed:∀ j,p j = true → ∀ i ∈ bef.getD j [],p i = true
 quiets:∀ i,i ∈ done → p i = false → ∀ o,ops[i]? = some o → gqs E s.h o ∧ ∀ d,o.d = some d → E.get d = gqv E s.h o
 dq:∀ i,i ∈ done → ∃ o,ops[i]? = some o ∧ o.i.quiet = true
 todo:∀ i,i ∈ aW last rm → p i = false
 cover:∀ i,i < ops.length → i ∈ done ∨ i ∈ aW last rm ∨ p i = true
 ok:QOk ops bef last rm
 cont:aeB P ops bef last K E s.h done rm
theorem oO {ops:List au} {bef:List (List Nat)} {last:List Nat} {l:Nat}:∀ {r:List (List Nat × Nat)},nZ ops bef last r (some l) = true → ∀ i,i ∈ bc last r → ∃ l',l' ∈ l :: bc last r ∧ l' ∈ bef.getD i []
 | [],h,i,hi=>by
  simp only [nZ,List.all_eq_true,Bool.and_eq_true] at h;have:=(h i hi).2;exact ⟨l,by simp,by simpa using this⟩
 | (qs,l2) :: r,h,i,hi=>by
  simp only [nZ,Bool.and_eq_true,List.all_eq_true] at h;obtain ⟨⟨⟨h1,h2⟩,h3⟩,h4⟩:=h;simp only [bc,List.mem_append,List.mem_cons] at hi;rcases hi with hi | hi | hi
  ·exact ⟨l,by simp,by simpa using (h1 i hi).2⟩
  ·subst hi; exact ⟨l,by simp,by simpa using h3⟩
  ·obtain ⟨l',a,b⟩:=oO h4 i hi;refine ⟨l', ?_,b⟩;simp only [bc,List.mem_cons,List.mem_append] at a ⊢;exact .inr (.inr a)
theorem oS {ops:List au} {bef:List (List Nat)} {qs:List Nat} {p:Option Nat} (h:(qs.all fun i=>(match ops[i]? with | some o=>o.i.quiet | none=>false) && (match p with | some l=>(bef.getD i []).contains l | none=>true)) = true) :
  ∀ i ∈ qs, ∃ o,ops[i]? = some o ∧ o.i.quiet = true:=by
 intro i hi;have:=List.all_eq_true.1 h i hi;simp only [Bool.and_eq_true] at this
 cases ho:ops[i]? with
 | none=>rw [ho] at this; simp at this
 | some o=>rw [ho] at this; exact ⟨o,rfl,this.1⟩
theorem uX.enter {s0:St} {ops:List au} {bef:List (List Nat)} {last:List Nat} {fr0:Fr} {K:Env → ab → Prop} {p:Nat → Bool} {s:St} {a:Act} {E0:Env} {done no:List Nat} {r:List (List Nat × Nat)} {pv:Option Nat}
  (hi:Inv A s) (hg:aT s0 s) (hs:a.tmps.size = N) (hd:eM s fr0.ds a.defers) (hv:∀ x,(∀ i o,ops[i]? = some o → o.d = some x → p i = true) → Rv s (E0.get x) (a.tmps.getD x Go.undef))
  (hc:∀ j,p j = true → ∀ i ∈ bef.getD j [],p i = true) (hno:∀ i ∈ no,p i = true) (hdq:∀ i,i ∈ done → ∃ o,ops[i]? = some o ∧ o.i.quiet = true) (htodo:∀ i,i ∈ bc last r → p i = false)
  (hcov:∀ i,i < ops.length → i ∈ done ∨ i ∈ bc last r ∨ p i = true) (hok:nZ ops bef last r pv = true) (he:jF P ops bef last r done no E0 s.h K) :
  ∃ E done' rm,uX P A N s0 ops bef last fr0 K p s a E done' rm:=by
 cases r with
 | nil=>
  obtain ⟨h1,h2⟩:=he;simp only [nZ] at hok;have hq:=oS hok;refine ⟨_,done ++ last,none,hi,hg,hs,hd,fun x hx=>?_,hc,fun i h3 h4 o ho=>lF h1 h3 (fun hn=>by rw [hno i hn] at h4; cases h4) ho,fun i h3=>?_,fun i h3=>by simp [aW] at h3,fun i h3=>?_,trivial,h2⟩
  ·rw [iP (fun i hi o ho hd=>by have:=hx i o ho hd; rw [htodo i (by simpa [bc] using hi)] at this; cases this)]; exact hv x hx
  ·rcases List.mem_append.1 h3 with h3 | h3
   ·exact hdq i h3
   ·exact hq i h3
  ·rcases hcov i h3 with h | h | h
   ·exact .inl (by simp [h])
   ·exact .inl (by simp [bc] at h; simp [h])
   ·exact .inr (.inr h)
 | cons st r=>
  obtain ⟨qs,l⟩:=st;obtain ⟨h1,h2⟩:=he;simp only [nZ,Bool.and_eq_true] at hok;obtain ⟨⟨⟨k1,k2⟩,k3⟩,k4⟩:=hok;have hq:=oS k1
  cases hl:ops[l]? with
  | none=>rw [hl] at h2; exact h2.elim
  | some o=>
   rw [hl] at h2 k2;simp only [Bool.not_eq_true'] at k2;refine ⟨_,done ++ qs,some (l,r),hi,hg,hs,hd,fun x hx=>?_,hc,fun i h3 h4 o ho=>lF h1 h3 (fun hn=>by rw [hno i hn] at h4; cases h4) ho,fun i h3=>?_,fun i h3=>?_,fun i h3=>?_,⟨⟨o,hl,k2⟩,k4⟩,⟨o,hl,h2⟩⟩
   ·rw [iP (fun i hi o ho hd=>by have:=hx i o ho hd; rw [htodo i (by simp [bc,hi])] at this; cases this)]; exact hv x hx
   ·rcases List.mem_append.1 h3 with h3 | h3
    ·exact hdq i h3
    ·exact hq i h3
   ·exact htodo i (by simp only [aW,List.mem_cons] at h3; simp only [bc,List.mem_append,List.mem_cons]; exact .inr h3)
   ·rcases hcov i h3 with h | h | h
    ·exact .inl (by simp [h])
    ·simp only [bc,List.mem_append,List.mem_cons] at h;rcases h with h | h
     ·exact .inl (by simp [h])
     ·exact .inr (.inl (by simpa [aW] using h))
    ·exact .inr (.inr h)
theorem rB {id:Nat} {os:Array Oper} {ops:List au} {bef:List (List Nat)} {st:List (List Nat × Nat)} {last:List Nat} {ro:Option Nat} {Q:AEx → Fr → ab → Prop} {fr:Fr} {σ:ab} (hc:Lh P N os ops bef st last = true)
  (h:jF P ops bef last st [] [] fr.v σ fun e σ'=>Q .normal { fr with v:=e } σ'):AWc P N ro (.region id os true) Q fr σ:=by
 simp only [Lh,Bool.and_eq_true] at hc;obtain ⟨⟨⟨⟨⟨⟨hc1,hmix⟩,hbef⟩,hrd⟩,hdst⟩,hst⟩,hall⟩:=hc;intro A s a r h1 h2 h3 h4;subst h1;have hlen:ops.length = os.size:=by simpa using gu hc1
 let sd:St:={ s with w:={ s.w with drawn:=s.w.drawn + 1 } }
 have kd:aL s sd:=⟨fun _ _ _ h=>h,fun _ _ h=>h,fun _ _ _=>rfl⟩;have gd:=h2.grow (s':=sd) rfl rfl kd ⟨h2.below.os,h2.below.tape,h2.below.output,h2.below.size,h2.below.block⟩ (Nat.le_refl _) (fun _ _=>rfl) (fun _ _ h=>.inl h) h2.scell
 have key : ∀ (fuel : Nat) (listed : Array Bool) (s2 : St) (a2 : Act) (E : Env) (done : List Nat) (rm : Option (Nat × List (List Nat × Nat))),listed.size = os.size → cnt listed.toList ≤ fuel →
   uX P A N s ops bef last fr (fun e σ'=>Q .normal { fr with v:=e } σ') (fun j=>listed.getD j false) s2 a2 E done rm → wpAnyIn (Fro r) 0 P .any os (dt A N s Q) fuel listed a2 s2.w:=by
  have hready:∀ (listed:Array Bool),listed.size = os.size → Region.ready .any os listed = [] → ∀ j,j < os.size → listed.getD j false = true:=by
   intro listed hsz hr j
   induction j using Nat.strongRecOn with
   | _ j ih=>
    intro hj
    cases hl:listed.getD j false with
    | true=>rfl
    | false=>
     have hj':j < listed.size:=by omega
     have:j ∈ Region.ready .any os listed:=by
      refine mem_ready.2 ⟨by simpa [Array.getD_eq_getD_getElem?,hj'] using hl,os[j],by simp [hj],fun e he hb=>?_⟩;have hb1:=eg hbef (j:=j) (o:=os[j]) (by simp [hj]);simp only [iJ,Nat.zero_add,Bool.and_eq_true,List.all_eq_true] at hb1;have:=hb1.1 e (by simpa using he);simp only [hb,Bool.not_true,Bool.false_or,decide_eq_true_eq] at this;exact ih e.on this (by omega)
     rw [hr] at this; cases this
  have hdone:∀ (listed:Array Bool) (s2:St) (a2:Act) (E:Env) (done:List Nat) (rm:Option (Nat × List (List Nat × Nat))),listed.size = os.size →
    uX P A N s ops bef last fr (fun e σ'=>Q .normal { fr with v:=e } σ') (fun j=>listed.getD j false) s2 a2 E done rm → Region.ready .any os listed = [] → dt A N s Q .normal a2 s2.w:=by
   intro listed s2 a2 E done rm hsz hd hr;have hall:=hready listed hsz hr;have hlt:∀ i o,ops[i]? = some o → i < os.size:=fun i o h=>by
    rcases Nat.lt_or_ge i os.size with h' | h'
    ·exact h'
    ·rw [List.getElem?_eq_none (by omega)] at h; cases h
   cases rm with
   | none=>exact ⟨.normal,{ fr with v:=E },s2,rfl,hd.inv,hd.goes,⟨hd.size,fun t=>hd.v t fun i o ho _=>hall i (hlt i o ho),hd.ds⟩,trivial,hd.cont⟩
   | some q=>
    obtain ⟨l,r'⟩:=q;obtain ⟨⟨o,ho,_⟩,_⟩:=hd.ok;have h1:=hd.todo l (by simp [aW]);have h2:=hall l (hlt l o ho);rw [h2] at h1; cases h1
  intro fuel
  induction fuel with
  | zero=>
   intro listed s2 a2 E done rm hsz hcnt hd;have hr:Region.ready .any os listed = []:=by
    cases hr:Region.ready .any os listed with
    | nil=>rfl
    | cons i l=>
     have hi:i ∈ Region.ready .any os listed:=by rw [hr]; simp
     obtain ⟨g1,o,g2,_⟩:=mem_ready.1 hi;have hilt:i < os.size:=by
      rcases Nat.lt_or_ge i os.size with h' | h'
      ·exact h'
      ·rw [Array.getElem?_eq_none h'] at g2; cases g2
     have hi':i < listed.size:=by omega
     have:=je (l:=listed.toList) (i:=i) (by omega);simp [hi'] at this g1;rw [g1] at this; simp at this
   exact ⟨hr,hdone listed s2 a2 E done rm hsz hd hr⟩
  | succ fuel ih=>
   intro listed s2 a2 E done rm hsz hcnt hd;refine ⟨hdone listed s2 a2 E done rm hsz hd,fun i hi=>?_⟩;obtain ⟨g1,o,g2,g3⟩:=mem_ready.1 hi;have hilt:i < os.size:=by
    rcases Nat.lt_or_ge i os.size with h' | h'
    ·exact h'
    ·rw [Array.getElem?_eq_none h'] at g2; cases g2
   have hi':i < listed.size:=by omega
   have hpi:listed.getD i false = false:=by simp [hi'] at g1 ⊢; exact g1
   have hb1:=eg hbef (j:=i) (o:=o) (by simpa using g2);simp only [iJ,Nat.zero_add,Bool.and_eq_true,List.all_eq_true,List.any_eq_true,decide_eq_true_eq,Bool.or_eq_true,beq_iff_eq,List.contains_eq_mem] at hb1;have hbi:∀ x ∈ bef.getD i [],listed.getD x false = true:=by
    intro x hx;obtain ⟨q1,e,q2,q3,q4⟩:=hb1.2 x hx;have hon:=g3 e (by simpa using q2) q3;rcases q4 with q4 | q4
    ·rw [← q4]; exact hon
    ·exact hd.closed e.on hon x q4
   obtain ⟨ao,k1,k2,k3,k4⟩:=gg hc1 (j:=i) (o:=o) (by simpa using g2);have hrdi:=nB hrd (j:=i) (o:=ao) k1;rw [Nat.zero_add] at hrdi;have hp':∀ j,(listed.setIfInBounds i true).getD j false = (listed.getD j false || j == i):=by
    intro j;by_cases hji:j = i
    ·subst hji; simp [hi']
    ·rw [getD_set_ne false (fun h=>hji h.symm)]; simp [hji]
   have hcnt':cnt (listed.setIfInBounds i true).toList ≤ fuel:=by
    have:=kH (l:=listed.toList) (i:=i) (by simp [hi'] at hpi ⊢; exact hpi);simp only [Array.toList_setIfInBounds]; omega
   have hclosed':∀ j,(listed.setIfInBounds i true).getD j false = true → ∀ x ∈ bef.getD j [],(listed.setIfInBounds i true).getD x false = true:=by
    intro j hj x hx;rw [hp'] at hj ⊢;simp only [Bool.or_eq_true,beq_iff_eq] at hj ⊢;rcases hj with hj | hj
    ·exact .inl (hd.closed j hj x hx)
    ·subst hj; exact .inl (hbi x hx)
   -- the frame, of what this operation reads
   have hfr:bK s2 N { fr with v:=E.only (bb ao) } a2:=⟨hd.size,fun t=>by
    show Rv s2 ((E.only (bb ao)).get t) _
    rw [ek];split
    ·rename_i hm;refine hd.v t fun j oj hj hdj=>?_
     have:=mc hrdi hj hdj hm;rw [Nat.zero_add] at this;exact hbi j this
    ·exact .undef _,hd.ds⟩
   have hsame:∀ x ∈ ao.i.bH,opv (E.only (bb ao)) x = opv E x ∧ opg (E.only (bb ao)) x = opg E x:=lJ (fun n hn=>by
    rw [ek,if_pos (by unfold bb; exact List.mem_append_left _ hn)])
   have hne:=dW k4
   -- whose turn it is
   have hguard:∀ {g},ao.g = g → g = none → (Region.wanted o (yielded os a2.tmps)) = true:=by
    intro g hg hg';subst hg';rw [hg] at k3;have hgn:o.guard = none:=by cases hgu:o.guard with
     | none=>rfl
     | some x=>rw [hgu] at k3; simp [my] at k3
    simp [Region.wanted,hgn]
   have hgd:∀ {gd g},ao.g = some gd → cH E gd = some g → Region.wanted o (yielded os a2.tmps) = g:=by
    intro gd g hag hE;refine eV hfr (by rw [hag] at k3; exact k3) ?_;simp only [cH] at hE ⊢;rw [ek,if_pos (by simp [bb,hag])];exact hE
   have hltops:i < ops.length:=by omega
   have hput:∀ (s':St),aL s2 s' → ∀ (c:Value) (x:Nat),Rv s' .undef c → ao.d ≠ some x → Rv s2 (E.get x) (a2.tmps.getD x Go.undef) → Rv s' (E.get x) ((a2.put o.dst c).tmps.getD x Go.undef):=by
    intro s' hk c x hc hdx hv
    have f0:bK s' N { v:=[(x,E.get x)],ds:=fr.ds } a2:=⟨hd.size,fun t=>by
     simp only [Env.get];split
     ·rename_i e; subst e; exact hv.keeps hk
     ·exact .undef _,hd.ds.keeps hk⟩
    have:=(f0.put k2 hc).v x;simp only [Fr.put,bI,if_neg hdx,Env.get,if_true] at this;exact this
   have hwait:∀ {l:Nat} {r':List (List Nat × Nat)},rm = some (l,r') → i ∈ bc last r' → False:=by
    intro l r' hrm hm;subst hrm;obtain ⟨l',m1,m2⟩:=oO hd.ok.2 i hm;have:=hd.todo l' m1;rw [hbi l' m2] at this; cases this
   have hnot:∀ j,j ∈ aW last rm → j ∈ done → j = i → False:=by
    intro j hj hjd e;subst e
    cases rm with
    | none=>simp [aW] at hj
    | some q=>
     obtain ⟨l,r'⟩:=q;simp only [aW,List.mem_cons] at hj;rcases hj with hj | hj
     ·obtain ⟨⟨o1,e1,e2⟩,_⟩:=hd.ok;obtain ⟨o2,f1,f2⟩:=hd.dq j hjd;subst hj;rw [e1] at f1; cases f1; rw [e2] at f2; cases f2
     ·exact hwait rfl hj
   rcases hd.cover i hltops with hin | hin | hin
   ·-- a quiet one
    obtain ⟨o',e1,e2⟩:=hd.dq i hin;rw [k1] at e1; cases e1;obtain ⟨q1,q2⟩:=hd.quiets i hin hpi ao k1;have hK:∀ c,Rv s2 (gqv E s2.h ao) c → wpAnyIn (Fro r) 0 P .any os (dt A N s Q) fuel (listed.setIfInBounds i true) (a2.put o.dst c) s2.w:=by
     intro c c2;refine ih _ s2 _ E done rm (by simpa using hsz) hcnt' ⟨hd.inv,hd.goes, ?_, ?_,fun x hx=>?_,hclosed',fun j hj hpj oj hoj=>?_,hd.dq,fun j hj=>?_,fun j hj=>?_,hd.ok,hd.cont⟩
     ·exact (hfr.put k2 c2).size
     ·exact (hfr.put k2 c2).ds
     ·by_cases hdx:ao.d = some x
      ·have:=(hfr.put k2 c2).v x;simp only [Fr.put,bI,hdx,if_true] at this;rw [q2 x hdx]; exact this
      ·refine hput s2 (.refl _) c x (.undef _) hdx (hd.v x fun j oj hj hdj=>?_);have:=hx j oj hj hdj;rw [hp'] at this;simp only [Bool.or_eq_true,beq_iff_eq] at this;rcases this with h | h
       ·exact h
       ·subst h; rw [k1] at hj; cases hj; exact absurd hdj hdx
     ·rw [hp'] at hpj;simp only [Bool.or_eq_false_iff] at hpj;exact hd.quiets j hj hpj.1 oj hoj
     ·rw [hp',hd.todo j hj];simp only [Bool.false_or,beq_eq_false_iff_ne];intro e;subst e;exact hnot j hj hin rfl
     ·rcases hd.cover j hj with h | h | h
      ·exact .inl h
      ·exact .inr (.inl h)
      ·exact .inr (.inr (by rw [hp',h]; rfl))
    have hgo:ed E s2.h ao.i → Region.wanted o (yielded os a2.tmps) = true → (∀ c,Rv s2 (bZ E s2.h ao.i) c → Rv s2 (gqv E s2.h ao) c) → wpOpIn (Fro r) 0 P os (dt A N s Q) i (fun a w=>wpAnyIn (Fro r) 0 P .any os (dt A N s Q) fuel (listed.setIfInBounds i true) a w) a2 s2.w:=by
     intro q1 hw hrv;have hqc:=gH k4 e2 hsame q1 (H:=s2.h) (fun _ _ _=>rfl);obtain ⟨c,c1,c2⟩:=eF hd.inv hfr k4 e2 hqc.1;unfold wpOpIn;rw [g2];simp only [hw,if_true];refine ⟨fun _ _=>trivial, ?_⟩;rw [Oper.semAt_eq _ _ _ hne,c1];rw [hqc.2] at c2;exact hK c (hrv c c2)
    cases hag:ao.g with
    | none=>
     simp only [gqs,hag] at q1;exact hgo q1 (hguard hag rfl) fun c hc=>by simp only [gqv,hag]; exact hc
    | some gd=>
     simp only [gqs,hag] at q1
     cases hE:cH E gd with
     | none=>rw [hE] at q1; exact q1.elim
     | some g=>
      rw [hE] at q1;have hw:=hgd hag hE
      cases g with
      | true=>exact hgo (q1 rfl) hw fun c hc=>by simp only [gqv,hag,hE]; exact .optT _ _ hc
      | false=>
       unfold wpOpIn;rw [g2];simp only [hw,Bool.false_eq_true,if_false];exact ⟨fun _ _=>trivial,hK _ (by simp only [gqv,hag,hE]; exact .optF _)⟩
   ·-- a call
    cases rm with
    | none=>simp [aW] at hin
    | some q=>
     obtain ⟨l,r'⟩:=q;simp only [aW,List.mem_cons] at hin;rcases hin with hin | hin;rotate_left
     ·exact (hwait rfl hin).elim
     subst hin;have hok:=hd.ok;have hcont:=hd.cont;have htd:=hd.todo;obtain ⟨⟨o',e1,e2⟩,hst'⟩:=hok;rw [k1] at e1; cases e1;obtain ⟨o',e1,haw⟩:=hcont;rw [k1] at e1; cases e1;have hop:∀ x ∈ ao.i.opers,opv (E.only (bb ao)) x = opv E x ∧ opg (E.only (bb ao)) x = opg E x:=by
      intro x hx;refine hsame x ?_;generalize ao.i = ai at *;cases ai <;> first | exact hx | (simp [AI.quiet] at e2)
     have hK : ∀ v c s',Inv A s' → aT s2 s' → Rv s' v c → jF P ops bef last r' done (bef.getD i []) (E.put ao.d v) s'.h (fun e σ' => Q .normal { fr with v := e } σ') → wpAnyIn (Fro r) 0 P .any os (dt A N s Q) fuel (listed.setIfInBounds i true) (a2.put o.dst c) s'.w := by
      intro v c s' i' g' rv hq;have f1:=(hfr.keeps g'.keeps).put k2 rv;obtain ⟨E',done',rm',hinv⟩:=uX.enter (P:=P) (A:=A) (N:=N) (s0:=s) (bef:=bef) (fr0:=fr) (K:=fun e σ'=>Q .normal { fr with v:=e } σ') (p:=fun j=>(listed.setIfInBounds i true).getD j false) (a:=a2.put o.dst c) (pv:=some i)
       i' (hd.goes.trans g') f1.size f1.ds (fun x hx=>by
        by_cases hdx:ao.d = some x
        ·have:=f1.v x;simp only [Fr.put,bI,hdx,if_true] at this;rw [bI,if_pos hdx]; exact this
        ·rw [bI,if_neg hdx];refine hput s' g'.keeps c x (.undef _) hdx (hd.v x fun j oj hj hdj=>?_);have:=hx j oj hj hdj;rw [hp'] at this;simp only [Bool.or_eq_true,beq_iff_eq] at this;rcases this with h | h
         ·exact h
         ·subst h; rw [k1] at hj; cases hj; exact absurd hdj hdx)
       hclosed' (fun j hj=>by show (listed.setIfInBounds i true).getD j false = true; rw [hp',hbi j hj]; rfl) hd.dq (fun j hj=>by
        show (listed.setIfInBounds i true).getD j false = false
        rw [hp',htd j (by simp [aW,hj])];simp only [Bool.false_or,beq_eq_false_iff_ne];intro e;subst e
        exact hwait rfl hj)
       (fun j hj=>by
        rcases hd.cover j hj with h | h | h
        ·exact .inl h
        ·simp only [aW,List.mem_cons] at h;rcases h with h | h
         ·exact .inr (.inr (by show (listed.setIfInBounds i true).getD j false = true; rw [hp',h]; simp))
         ·exact .inr (.inl h)
        ·exact .inr (.inr (by show (listed.setIfInBounds i true).getD j false = true; rw [hp',h]; rfl))) hst' hq
      exact ih _ s' _ E' done' rm' (by simpa using hsz) hcnt' hinv
     have hgo:eS P ao.i E s2.h (fun v σ'=>jF P ops bef last r' done (bef.getD i []) (E.put ao.d v) σ' (fun e σ'=>Q .normal { fr with v:=e } σ')) (fun _ _=>False) → Region.wanted o (yielded os a2.tmps) = true →
       wpOpIn (Fro r) 0 P os (dt A N s Q) i (fun a w=>wpAnyIn (Fro r) 0 P .any os (dt A N s Q) fuel (listed.setIfInBounds i true) a w) a2 s2.w:=by
      intro haw hw;have hstep:=cQ hd.inv hfr k4 (jP e2 hop haw);unfold wpOpIn;rw [g2];simp only [hw,if_true];refine ⟨fun _ _=>trivial, ?_⟩;rw [Oper.semAt_eq _ _ _ hne];exact fT hstep (fun v c s' i' g' rv hq=>hK v c s' i' g' rv hq) (fun _ _ _ _ _ _ h=>h.elim)
     cases hag:ao.g with
     | none=>simp only [gql,hag] at haw; exact hgo haw (hguard hag rfl)
     | some gd=>
      simp only [gql,hag] at haw
      cases hE:cH E gd with
      | none=>rw [hE] at haw; exact haw.elim
      | some g=>
       rw [hE] at haw;have hw:=hgd hag hE
       cases g with
       | true=>exact hgo (haw.1 rfl) hw
       | false=>
        unfold wpOpIn;rw [g2];simp only [hw,Bool.false_eq_true,if_false];exact ⟨fun _ _=>trivial,hK _ _ s2 hd.inv (.refl s2) (.optF _) (haw.2 rfl)⟩
   ·rw [hpi] at hin; cases hin
 refine wpIn_region_any hmix ?_;have hf0:∀ j,(Array.replicate os.size false).getD j false = false:=fun j=>by
  simp [Array.getD_eq_getD_getElem?,Array.getElem?_replicate]; split <;> rfl
 obtain ⟨E',done',rm',hinv⟩:=uX.enter (P:=P) (A:=A) (N:=N) (s0:=s) (bef:=bef) (fr0:=fr) (K:=fun e σ'=>Q .normal { fr with v:=e } σ') (p:=fun j=>(Array.replicate os.size false).getD j false) (s:=sd) (a:=a) (pv:=none) (no:=[]) (done:=[])
  gd.1 gd.2 h3.size (h3.ds.keeps gd.2.keeps) (fun x _=>(h3.v x).keeps gd.2.keeps) (fun j hj=>by rw [hf0] at hj; cases hj) (fun i hi=>by cases hi) (fun i hi=>by cases hi) (fun i _=>hf0 i)
  (fun i hi=>.inr (.inl (by have:=List.all_eq_true.1 hall i (by simpa using hi); simpa using this))) hst h
 refine key os.size (Array.replicate os.size false) sd a E' done' rm' (by simp) ?_ hinv;have:∀ n,cnt (List.replicate n false) = n:=fun n=>by
  induction n with
  | zero=>rfl
  | succ n ih=>simp only [List.replicate_succ,cnt,ih]; simp; omega
 simp [this]
end
end Go.AM
