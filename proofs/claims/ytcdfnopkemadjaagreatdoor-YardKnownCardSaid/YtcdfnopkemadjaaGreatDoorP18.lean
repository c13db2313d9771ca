/- The executor of code and of functions. -/
import Derived.Test.YtcdfnopkemadjaaGreatDoorP16
import Derived.Test.YtcdfnopkemadjaaGreatDoorP17
namespace Go.AM
open Go.RowKit
structure Ex where
 pcall:aa → List aa → Option aa
 acall:Nat → aa → List aa → Option (List aa)
 call:List Rnd → aa → List aa → ab → XR
 fcall:List Rnd → Nat → List aa → ab → XR
structure nx (P:Program) (x:Ex):Prop where
 pcall:gr P x.pcall
 acall:oh P x.acall
 call:∀ rs,gJ P (x.call rs)
 fcall:∀ rs f args σ r σ',x.fcall rs f args σ = some (r,σ') → af P f = true ∧ ∀ Q:bh → ab → Prop,Q r σ' → Spec P f args σ Q
def mM (body:Env → List fp → ab → Option XE):Nat → Env → List fp → ab → Option XE
 | 0,_,_,_=>none
 | n + 1,e,ds,σ=>match body e ds σ with
  | none=>none
  | some ⟨.normal,e',ds',σ'⟩=>mM body n e' ds' σ'
  | some r=>some r
def l7 (b:Nat) (e:Env) (ds:List fp):XR → Option XE
 | none=>none
 | some (.pan v,σ)=>some ⟨.panic v,e,ds,σ⟩
 | some (.ret _,σ)=>match σ.get b with
  | .looprec N e2 ps asg body D st pd=>match st with
   | .busy=>none
   | _=>match pd with
    | none=>some ⟨.normal,e,ds,σ.set b (.looprec N e2 ps asg body D .exhausted pd)⟩
    | some .ret=>some ⟨.ret,e,ds,σ.set b (.looprec N e2 ps asg body D .exhausted pd)⟩
    | some (.exit i)=>some ⟨.exit i,e,ds,σ.set b (.looprec N e2 ps asg body D .exhausted pd)⟩
    | some (.goto l)=>some ⟨.goto l,e,ds,σ.set b (.looprec N e2 ps asg body D .exhausted pd)⟩
    | _=>none
  | _=>none
theorem mX {b:Nat} {e:Env} {ds:List fp} {q:bh} {σ:ab} {r:XE} {Q:AEx → Fr → ab → Prop} (h:l7 b e ds (some (q,σ)) = some r) (hq:Q r.x ⟨r.e,r.ds⟩ r.σ):jS b Q ⟨e,ds⟩ q σ:=by
 cases q with
 | pan v=>
  simp only [l7,Option.some.injEq] at h;subst h;exact hq
 | ret v=>
  simp only [l7] at h;simp only [jS];cases hb:σ.get b <;> rw [hb] at h <;> first | (cases h; done) | skip
  rename_i N e2 ps asg body D st pd;refine ⟨N,e2,ps,asg,body,D,st,pd,rfl, ?_, ?_⟩
  ·rintro rfl; cases h
  ·cases st <;> first | (cases h; done) | skip
   all_goals
    cases pd with
    | none=>simp only [Option.some.injEq] at h; subst h; exact hq
    | some c=>cases c <;> first | (cases h; done) | (simp only [Option.some.injEq] at h; subst h; exact hq)
mutual
def bm:aa → aa → Bool
 | .bool a, .bool b=>a == b
 | .int j a, .int k b=>decide (j = k) && a == b
 | .str a, .str b=>a.data.toList == b.data.toList
 | .agg a, .agg b=>fy a b
 | .tup a, .tup b=>fy a b
 | .slice s a, .slice t b=>s == t && fy a b
 | .oslice s a x y, .oslice t b z w=>s == t && x == z && y == w && fy a b
 | .sref a b c d e, .sref f g h i j=>a == f && b == g && c == h && d == i && e == j
 | .ptr a b, .ptr c d=>a == c && b == d
 | .eptr a b c d e, .eptr f g h i j=>a == f && b == g && c == h && d == i && e == j
 | .map a, .map b=>a == b
 | .yieldf a, .yieldf b=>a == b
 | .undef, .undef=>true
 | .iface t a, .iface u b=>decide (t = u) && bm a b
 | .iter a, .iter b=>a == b
 | .func (.func f) a b, .func (.func g) c d=>f == g && fy a c && fy b d
 | .nilptr, .nilptr=>true
 | .niliface, .niliface=>true
 | .nilfunc, .nilfunc=>true
 | .nilmap, .nilmap=>true
 | .pval a, .pval b=>bm a b
 | _,_=>false
def fy:List aa → List aa → Bool
 | [],[]=>true
 | a :: r,b :: t=>bm a b && fy r t
 | _,_=>false
end
mutual
theorem dp:∀ {a b:aa},bm a b = true → a = b
 | .bool a,b,h=>by cases b <;> simp [bm] at h; rw [h]
 | .int j a,b,h=>by cases b <;> simp [bm] at h; rw [h.1,h.2]
 | .str a,b,h=>by
  cases b <;> simp only [bm,Bool.false_eq_true,beq_iff_eq] at h;rename_i b;obtain ⟨a⟩:=a;obtain ⟨b⟩:=b;simp only at h;have:a = b:=Array.ext' h;rw [this]
 | .agg a,b,h=>by cases b <;> simp only [bm,Bool.false_eq_true] at h; rw [cU h]
 | .tup a,b,h=>by cases b <;> simp only [bm,Bool.false_eq_true] at h; rw [cU h]
 | .slice s a,b,h=>by
  cases b <;> simp only [bm,Bool.false_eq_true,Bool.and_eq_true,beq_iff_eq] at h;rw [h.1,cU h.2]
 | .oslice s a x y,b,h=>by
  cases b <;> simp only [bm,Bool.false_eq_true,Bool.and_eq_true,beq_iff_eq] at h;rw [h.1.1.1,h.1.1.2,h.1.2,cU h.2]
 | .sref _ _ _ _ _,b,h=>by
  cases b <;> simp only [bm,Bool.false_eq_true,Bool.and_eq_true,beq_iff_eq] at h;rw [h.1.1.1.1,h.1.1.1.2,h.1.1.2,h.1.2,h.2]
 | .ptr _ _,b,h=>by
  cases b <;> simp only [bm,Bool.false_eq_true,Bool.and_eq_true,beq_iff_eq] at h;rw [h.1,h.2]
 | .eptr _ _ _ _ _,b,h=>by
  cases b <;> simp only [bm,Bool.false_eq_true,Bool.and_eq_true,beq_iff_eq] at h;rw [h.1.1.1.1,h.1.1.1.2,h.1.1.2,h.1.2,h.2]
 | .map _,b,h=>by cases b <;> simp [bm] at h; rw [h]
 | .yieldf _,b,h=>by cases b <;> simp [bm] at h; rw [h]
 | .func f a c,b,h=>by
  cases f <;> cases b <;> try (simp [bm] at h; done)
  rename_i g _ _;cases g <;> simp only [bm,Bool.false_eq_true,Bool.and_eq_true,beq_iff_eq] at h;rw [h.1.1,cU h.1.2,cU h.2]
 | .nilptr,b,h=>by cases b <;> simp [bm] at h; rfl
 | .niliface,b,h=>by cases b <;> simp [bm] at h; rfl
 | .nilfunc,b,h=>by cases b <;> simp [bm] at h; rfl
 | .nilmap,b,h=>by cases b <;> simp [bm] at h; rfl
 | .pval a,b,h=>by cases b <;> simp only [bm,Bool.false_eq_true] at h; rw [dp h]
 | .undef,b,h=>by cases b <;> simp [bm] at h; rfl
 | .iface _ _,b,h=>by
  cases b <;> simp only [bm,Bool.false_eq_true,Bool.and_eq_true,decide_eq_true_eq] at h;rw [h.1,dp h.2]
 | .opt _ _,b,h=>by cases b <;> simp [bm] at h
 | .mint _,b,h=>by cases b <;> simp [bm] at h
 | .iter _,b,h=>by cases b <;> simp [bm] at h; rw [h]
theorem cU:∀ {a b:List aa},fy a b = true → a = b
 | [],b,h=>by cases b <;> simp [fy] at h; rfl
 | a :: r,b,h=>by
  cases b <;> simp only [fy,Bool.false_eq_true,Bool.and_eq_true] at h;rw [dp h.1,cU h.2]
end
def pR:List (aa × aa) → List (aa × aa) → Bool
 | [],[]=>true
 | a :: r,b :: t=>bm a.1 b.1 && bm a.2 b.2 && pR r t
 | _,_=>false
theorem oU:∀ {a b:List (aa × aa)},pR a b = true → a = b
 | [],b,h=>by cases b <;> simp [pR] at h; rfl
 | (x,y) :: r,b,h=>by
  cases b <;> simp only [pR,Bool.false_eq_true,Bool.and_eq_true] at h;rename_i q t;obtain ⟨u,v⟩:=q;rw [dp h.1.1,dp h.1.2,oU h.2]
def x0:bO → bO → Bool
 | .dead, .dead=>true
 | .dfr, .dfr=>true
 | .box a, .box b=>fy a b
 | .arr s a, .arr t b=>s == t && fy a b
 | .spare a b, .spare c d=>a == c && b == d
 | .amap a, .amap b=>pR a b
 | .siter x p, .siter y q=>x.data.toList == y.data.toList && p == q
 | _,_=>false
theorem D9 {a b:bO} (h:x0 a b = true):a = b:=by
 cases a <;> cases b <;> simp only [x0,Bool.false_eq_true,Bool.and_eq_true,beq_iff_eq] at h
 ·rfl
 ·rw [cU h]
 ·rw [h.1,cU h.2]
 ·rw [h.1,h.2]
 ·rw [oU h]
 ·rename_i x p y q;obtain ⟨x⟩:=x;obtain ⟨y⟩:=y;have:x = y:=Array.ext' h.1;rw [this,h.2]
 ·rfl
def lx:ab → ab → Bool
 | [],[]=>true
 | a :: r,b :: t=>x0 a b && lx r t
 | _,_=>false
theorem jl:∀ {a b:ab},lx a b = true → a = b
 | [],b,h=>by cases b <;> simp [lx] at h; rfl
 | a :: r,b,h=>by
  cases b <;> simp only [lx,Bool.false_eq_true,Bool.and_eq_true] at h;rw [D9 h.1,jl h.2]
def oF:Env → Env → Bool
 | [],[]=>true
 | a :: r,b :: t=>a.1 == b.1 && bm a.2 b.2 && oF r t
 | _,_=>false
theorem pI:∀ {a b:Env},oF a b = true → a = b
 | [],b,h=>by cases b <;> simp [oF] at h; rfl
 | (n,v) :: r,b,h=>by
  cases b <;> simp only [oF,Bool.false_eq_true,Bool.and_eq_true,beq_iff_eq] at h;rename_i q t;obtain ⟨m,w⟩:=q;obtain ⟨⟨h1,h2⟩,h3⟩:=h;simp only at h1 h2;rw [h1,dp h2,pI h3]
def tz (e:Env) (σ:ab) (o:au) (d:Nat):Bool:=match o.g with
 | none=>bm (e.get d) (bZ e σ o.i)
 | some gd=>match cH e gd with
  | some true=>match e.get d with
   | .opt true v=>bm v (bZ e σ o.i)
   | _=>false
  | some false=>match e.get d with
   | .opt false .undef=>true
   | _=>false
  | none=>false
theorem o5 {e:Env} {σ:ab} {o:au} {d:Nat} (h:tz e σ o d = true):e.get d = gqv e σ o:=by
 unfold tz at h;unfold gqv
 cases hg:o.g with
 | none=>rw [hg] at h; exact dp h
 | some gd=>
  rw [hg] at h;simp only at h ⊢
  split at h
  ·rename_i h1;rw [h1]
   split at h
   ·rename_i h2; rw [h2,dp h]
   ·cases h
  ·rename_i h1;rw [h1]
   split at h
   ·rename_i h2; rw [h2]
   ·cases h
  ·cases h
def IM (e:Env) (σ:ab) (o:au):Bool:=match o.g with
 | none=>cj e σ o.i
 | some gd=>match cH e gd with
  | some true=>cj e σ o.i
  | some false=>true
  | none=>false
theorem tp {e:Env} {σ:ab} {o:au} (h:IM e σ o = true):gqs e σ o:=by
 unfold IM at h;unfold gqs
 cases hg:o.g with
 | none=>rw [hg] at h; exact fS h
 | some gd=>
  rw [hg] at h;simp only at h ⊢
  split at h
  ·rename_i h1; rw [h1]; exact fun _=>fS h
  ·rename_i h1; rw [h1]; intro h2; cases h2
  ·cases h
def pn (ops:List au) (no:List Nat) (e:Env) (σ:ab):List Nat → Bool
 | []=>true
 | i :: r=>(no.contains i || match ops[i]? with
     | some o=>IM e σ o && match o.d with
      | some d=>tz e σ o d
      | none=>true
     | none=>true) && pn ops no e σ r
theorem lR {ops:List au} {no:List Nat} {e:Env} {σ:ab}:∀ {l:List Nat},pn ops no e σ l = true → rN ops no e σ l
 | [],_=>trivial
 | i :: r,h=>by
  simp only [pn,Bool.and_eq_true] at h;refine ⟨?_,lR h.2⟩;split
  ·trivial
  ·rename_i hn;have h1:=h.1;simp only [hn,Bool.false_or] at h1
   cases ho:ops[i]? with
   | none=>trivial
   | some o=>
    rw [ho] at h1;simp only [Bool.and_eq_true] at h1;refine ⟨tp h1.1, ?_⟩;have h2:=h1.2
    cases hd:o.d with
    | none=>trivial
    | some d=>rw [hd] at h2; exact o5 h2
def gate (e:Env) (o:au):Option Bool:=match o.g with
 | none=>some true
 | some gd=>cH e gd
theorem vD {P:Program} {e:Env} {o:au} {σ:ab} {K:aa → ab → Prop} (h:gate e o = some true) (hk:eS P o.i e σ K fun _ _=>False):gql P o e σ K:=by
 unfold gate at h; unfold gql
 cases hg:o.g with
 | none=>exact hk
 | some gd=>rw [hg] at h; simp only at h ⊢; rw [h]; exact ⟨fun _=>hk,fun h=>by cases h⟩
theorem qB {P:Program} {e:Env} {o:au} {σ:ab} {K:aa → ab → Prop} (h:gate e o = some false) (hk:K (.opt false .undef) σ):gql P o e σ K:=by
 unfold gate at h; unfold gql
 cases hg:o.g with
 | none=>rw [hg] at h; cases h
 | some gd=>rw [hg] at h; simp only at h ⊢; rw [h]; exact ⟨fun h=>by (cases h),fun _=>hk⟩
def xQ (call:aa → List aa → ab → XR) (ops:List au) (bef:List (List Nat)) (last:List Nat):List (List Nat × Nat) → List Nat → List Nat → Env → ab → Option (Env × ab)
 | [],done,no,e,σ=>cu (jm ops last e σ) fun e'=>if pn ops no e' σ (done ++ last) then some (e',σ) else none
 | (qs,l) :: r,done,no,e,σ=>cu (jm ops qs e σ) fun e'=>if pn ops no e' σ (done ++ qs) then match ops[l]? with
   | some o=>match gate e' o with
    | some true=>match stepG call o.i e' σ with
     | some (.ret v,σ')=>cu (e'.put o.d v) fun e2=>xQ call ops bef last r (done ++ qs) (bef.getD l []) e2 σ'
     | _=>none
    | some false=>cu (e'.put o.d (.opt false .undef)) fun e2=>xQ call ops bef last r (done ++ qs) (bef.getD l []) e2 σ
    | none=>none
   | none=>none
   else none
theorem xN {P : Program} {call : aa → List aa → ab → XR} (hc : gJ P call) {ops : List au} {bef : List (List Nat)} {last : List Nat} {K : Env → ab → Prop} : ∀ {st : List (List Nat × Nat)} {done no : List Nat} {e : Env} {σ : ab} {e' : Env} {σ' : ab},
  xQ call ops bef last st done no e σ = some (e',σ') → K e' σ' → jF P ops bef last st done no e σ K
 | [],done,no,e,σ,e',σ',h,hk=>by
  simp only [xQ,bN] at h
  split at h
  ·rename_i h1;simp only [Option.some.injEq,Prod.mk.injEq] at h;obtain ⟨rfl,rfl⟩:=h;exact ⟨lR h1,hk⟩
  ·cases h
 | (qs,l) :: r,done,no,e,σ,e',σ',h,hk=>by
  simp only [xQ,bN] at h
  split at h
  ·rename_i h1;refine ⟨lR h1, ?_⟩
   cases ho:ops[l]? with
   | none=>rw [ho] at h; cases h
   | some o=>
    rw [ho] at h;simp only at h ⊢
    cases hga:gate (jm ops qs e σ) o with
    | none=>rw [hga] at h; cases h
    | some g=>
     rw [hga] at h
     cases g with
     | false=>exact qB hga (xN hc h hk)
     | true=>
      simp only [lD] at h
      cases hx:xO call o.i (jm ops qs e σ) σ with
      | none=>rw [hx] at h; cases h
      | some q=>
       obtain ⟨q,σ1⟩:=q;rw [hx] at h
       cases q with
       | ret v=>
        simp only at h;exact vD hga (l4 hc hx (xN hc h hk))
       | pan v=>cases h
  ·cases h
/-! ### Regions whose order is open, with calls that write and may panic -/
def ta (pc:aa → List aa → Option aa) (e:Env) (i:AI):Option aa:=
 if ba e i.opers then (match i with
  | .lit m sz n ps=>if m == 0 && qq sz n (opv e) ps then some (.slice sz (cZ (opv e) (List.replicate n .undef) ps)) else none
  | .call f dn l=>pc (opv e f) (aU dn (l.map (opv e)))
  | _=>none) else none
theorem C1 {P:Program} {pc:aa → List aa → Option aa} (hp:gr P pc) {e:Env} {i:AI} {v:aa} (h:ta pc e i = some v) (σ:ab) (Q:aa → ab → Prop) (hQ:Q v σ):eS P i e σ Q fun _ _=>False:=by
 unfold ta at h
 split at h
 ·rename_i hn;unfold eS
  split at h
  ·rename_i m sz n ps;rw [if_neg (by simp [AI.quiet])];refine ⟨bn hn, ?_⟩
   split at h
   ·rename_i h1;simp only [Bool.and_eq_true,beq_iff_eq] at h1;obtain ⟨rfl,h2⟩:=h1;cases h;simp only [bS];exact ⟨iT h2,by simpa using hQ⟩
   ·cases h
  ·rename_i f dn l;rw [if_neg (by simp [AI.quiet,AI.plain])];refine ⟨bn hn, ?_⟩;exact (hp _ _ _ h σ).mono fun r σ' hr=>by obtain ⟨rfl,rfl⟩:=hr; exact hQ
  ·cases h
 ·cases h
def pZ (call:aa → List aa → ab → XR) (pc:aa → List aa → Option aa) (e:Env) (σ:ab) (i:AI):Option aa:=
 match ta pc e i with
 | some v=>some v
 | none=>match i with
  | .call f dn l=>if ba e (AI.call f dn l).opers then (match call (opv e f) (aU dn (l.map (opv e))) σ with
   | some (.ret v,σ')=>if lx σ' σ then some v else none
   | _=>none) else none
  | _=>none
theorem BX {P:Program} {call:aa → List aa → ab → XR} (hc:gJ P call) {pc:aa → List aa → Option aa} (hp:gr P pc) {e:Env} {σ:ab} {i:AI} {v:aa} (h:pZ call pc e σ i = some v) (Q:aa → ab → Prop) (hQ:Q v σ):eS P i e σ Q fun _ _=>False:=by
 unfold pZ at h
 cases hv:ta pc e i with
 | some w=>rw [hv] at h; cases h; exact C1 hp hv σ Q hQ
 | none=>
  rw [hv] at h;simp only at h
  split at h
  ·rename_i f dn l
   split at h
   ·rename_i hn
    split at h
    ·rename_i w σ' hcl
     split at h
     ·rename_i hs;cases h;have:=jl hs;subst this;unfold eS;rw [if_neg (by simp [AI.quiet,AI.plain])];refine ⟨bn hn, ?_⟩;exact (hc _ _ _ _ _ hcl (fun r s=>r = .ret v ∧ s = σ') ⟨rfl,rfl⟩).mono fun r s hr=>by obtain ⟨rfl,rfl⟩:=hr; exact hQ
     ·cases h
    ·cases h
   ·cases h
  ·cases h
def cVs (call:aa → List aa → ab → XR) (pc:aa → List aa → Option aa) (ops:List au):List Nat → Env → ab → Option (List aa)
 | [],_,_=>some []
 | i :: r,e,σ=>match ops[i]? with
  | some o=>if o.i.quiet then cVs call pc ops r (e.put o.d (gqv e σ o)) σ else match pZ call pc e σ o.i with
   | some v=>match cVs call pc ops r (e.put o.d v) σ with
    | some l=>some (v :: l)
    | none=>none
   | none=>none
  | none=>cVs call pc ops r e σ
def pH (call:aa → List aa → ab → XR) (pc:aa → List aa → Option aa) (ops:List au) (no:List Nat) (e:Env) (σ:ab):List Nat → Bool
 | []=>true
 | i :: r => (no.contains i || match ops[i]? with
     | some o=>if o.i.quiet then IM e σ o && (match o.d with
       | some d=>tz e σ o d
       | none=>true) else match pZ call pc e σ o.i with
        | some v=>(match o.d with
         | some d=>bm (e.get d) v
         | none=>true)
        | none=>false
     | none=>true) && pH call pc ops no e σ r
theorem kX {P:Program} {call:aa → List aa → ab → XR} (hc:gJ P call) {pc:aa → List aa → Option aa} (hp:gr P pc) {ops:List au} {no:List Nat} {e:Env} {σ:ab}:∀ {l:List Nat},pH call pc ops no e σ l = true → r6 P ops no e σ l
 | [],_=>trivial
 | i :: r,h=>by
  simp only [pH,Bool.and_eq_true] at h;refine ⟨?_,kX hc hp h.2⟩;split
  ·trivial
  ·rename_i hn;have h1:=h.1;simp only [hn,Bool.false_or] at h1
   cases ho:ops[i]? with
   | none=>trivial
   | some o=>
    rw [ho] at h1;simp only at h1 ⊢;unfold ccs
    split at h1
    ·rename_i hq;rw [if_pos hq];simp only [Bool.and_eq_true] at h1;refine ⟨tp h1.1, ?_⟩;have h2:=h1.2
     cases hd:o.d with
     | none=>trivial
     | some d=>rw [hd] at h2; exact o5 h2
    ·rename_i hq;rw [if_neg hq]
     cases hcw:pZ call pc e σ o.i with
     | none=>rw [hcw] at h1; cases h1
     | some v=>
      rw [hcw] at h1;simp only at h1;refine BX hc hp hcw _ ⟨rfl, ?_⟩
      cases hd:o.d with
      | none=>trivial
      | some d=>rw [hd] at h1; exact dp h1
def xR (call:aa → List aa → ab → XR) (pc:aa → List aa → Option aa) (ops:List au) (bef:List (List Nat)) (last:List Nat):List (List Nat × Nat) → List Nat → List Nat → Env → ab → Option (Option aa × Env × ab)
 | [],done,no,e,σ=>match cVs call pc ops last e σ with
  | some vs=>cu (iw ops last vs e σ) fun e'=>if pH call pc ops no e' σ (done ++ last) then some (none,e',σ) else none
  | none=>none
 | (qs,l) :: r,done,no,e,σ=>match cVs call pc ops qs e σ with
  | some vs=>cu (iw ops qs vs e σ) fun e'=>if pH call pc ops no e' σ (done ++ qs) then match ops[l]? with
   | some o=>match gate e' o with
    | some true=>match stepG call o.i e' σ with
     | some (.ret v,σ')=>cu (e'.put o.d v) fun e2=>xR call pc ops bef last r (done ++ qs) (bef.getD l []) e2 σ'
     | some (.pan v,σ')=>some (some v,e',σ')
     | none=>none
    | some false=>cu (e'.put o.d (.opt false .undef)) fun e2=>xR call pc ops bef last r (done ++ qs) (bef.getD l []) e2 σ
    | none=>none
   | none=>none
   else none
  | none=>none
theorem lZ {P:Program} {e:Env} {o:au} {σ:ab} {K Kp:aa → ab → Prop} (h:gate e o = some true) (hk:eS P o.i e σ K Kp):cql P o e σ K Kp:=by
 unfold gate at h; unfold cql
 cases hg:o.g with
 | none=>exact hk
 | some gd=>rw [hg] at h; simp only at h ⊢; rw [h]; exact ⟨fun _=>hk,fun h=>by cases h⟩
theorem pL {P:Program} {e:Env} {o:au} {σ:ab} {K Kp:aa → ab → Prop} (h:gate e o = some false) (hk:K (.opt false .undef) σ):cql P o e σ K Kp:=by
 unfold gate at h; unfold cql
 cases hg:o.g with
 | none=>rw [hg] at h; cases h
 | some gd=>rw [hg] at h; simp only at h ⊢; rw [h]; exact ⟨fun h=>by (cases h),fun _=>hk⟩
def ahi (K:Env → ab → Prop) (Kp:aa → ab → Prop):Option aa → Env → ab → Prop
 | none,e,σ=>K e σ
 | some v,_,σ=>Kp v σ
theorem pV {P : Program} {call : aa → List aa → ab → XR} (hc : gJ P call) {pc : aa → List aa → Option aa} (hp : gr P pc) {ops : List au} {bef : List (List Nat)} {last : List Nat} {K : Env → ab → Prop} {Kp : aa → ab → Prop} : ∀ {st : List (List Nat × Nat)} {done no : List Nat} {e : Env} {σ : ab} {p : Option aa} {e' : Env} {σ' : ab},
  xR call pc ops bef last st done no e σ = some (p,e',σ') → ahi K Kp p e' σ' → gz P ops bef last st done no e σ K Kp
 | [],done,no,e,σ,p,e',σ',h,hk=>by
  simp only [xR] at h
  cases hv:cVs call pc ops last e σ with
  | none=>rw [hv] at h; cases h
  | some vs=>
   rw [hv] at h;simp only [bN] at h
   split at h
   ·rename_i h1;simp only [Option.some.injEq,Prod.mk.injEq] at h;obtain ⟨rfl,rfl,rfl⟩:=h;exact ⟨vs,kX hc hp h1,hk⟩
   ·cases h
 | (qs,l) :: r,done,no,e,σ,p,e',σ',h,hk=>by
  simp only [xR] at h
  cases hv:cVs call pc ops qs e σ with
  | none=>rw [hv] at h; cases h
  | some vs=>
   rw [hv] at h;simp only [bN] at h
   split at h
   ·rename_i h1;refine ⟨vs,kX hc hp h1, ?_⟩
    cases ho:ops[l]? with
    | none=>rw [ho] at h; cases h
    | some o=>
     rw [ho] at h;simp only at h ⊢
     cases hga:gate (iw ops qs vs e σ) o with
     | none=>rw [hga] at h; cases h
     | some g=>
      rw [hga] at h
      cases g with
      | false=>exact pL hga (pV hc hp h hk)
      | true=>
       simp only [lD] at h
       cases hx:xO call o.i (iw ops qs vs e σ) σ with
       | none=>rw [hx] at h; cases h
       | some q=>
        obtain ⟨q,σ1⟩:=q;rw [hx] at h
        cases q with
        | ret v=>exact lZ hga (l4 hc hx (pV hc hp h hk))
        | pan v=>
         simp only [Option.some.injEq,Prod.mk.injEq] at h;obtain ⟨rfl,rfl,rfl⟩:=h;exact lZ hga (l4 hc hx hk)
   ·cases h
def xC (x : Ex) (L N : Nat) (ro : Option Nat) (rs : List Rnd) : AC → Code → Env → List fp → ab → Option XE
 | .skip,_,e,ds,σ=>some ⟨.normal,e,ds,σ⟩
 | .reg ops live,_,e,ds,σ=>match nM (x.call rs) ops e σ with
  | some (none,e',σ')=>cu (e'.only live) fun e'=>some ⟨.normal,e',ds,σ'⟩
  | some (some v,e',σ')=>some ⟨.panic v,e',ds,σ'⟩
  | none=>none
 | .seq a b,c,e,ds,σ=>match c with
  | .seq cx cy=>match xC x L N ro rs a cx e ds σ with
   | none=>none
   | some ⟨.normal,e',ds',σ'⟩=>xC x L N ro rs b cy e' ds' σ'
   | some r=>some r
  | _=>none
 | .cond o a b,c,e,ds,σ=>match c with
  | .cond _ cx cy=>match opv e o with
   | .bool t=>if opg e o then (match t with
     | true=>xC x L N ro rs a cx e ds σ
     | false=>xC x L N ro rs b cy e ds σ) else none
   | _=>none
  | _=>none
 | .block id a,c,e,ds,σ=>match c with
  | .block _ cx=>match xC x L N ro rs a cx e ds σ with
   | none=>none
   | some ⟨.exit i,e',ds',σ'⟩=>if i = id then some ⟨.normal,e',ds',σ'⟩ else some ⟨.exit i,e',ds',σ'⟩
   | some r=>some r
  | _=>none
 | .loop _ a,c,e,ds,σ=>match c with
  | .loop cx=>mM (fun e ds σ=>xC x L N ro rs a cx e ds σ) L e ds σ
  | _=>none
 | .exit i,_,e,ds,σ=>some ⟨.exit i,e,ds,σ⟩
 | .ret,_,e,ds,σ=>some ⟨.ret,e,ds,σ⟩
 | .scope a,c,e,ds,σ=>match c with
  | .scope cx=>match xC x L N ro rs a cx e ds σ with
   | none=>none
   | some ⟨.goto _,_,_,_⟩=>none
   | some r=>some r
  | _=>none
 | .label _,_,e,ds,σ=>some ⟨.normal,e,ds,σ⟩
 | .dreg ops live bef,_,e,ds,σ=>match xD x.pcall x.acall ops e σ [] with
  | some (e',σ',es)=>if eA bef [] es.reverse 0 then cu (e'.only live) fun e'=>some ⟨.normal,e',ds,σ'⟩ else none
  | none=>none
 | .frz t g a,c,e,ds,σ=>match e.get t with
  | .ptr b 0=>match σ.get b with
   | .box cs=>match g,cs with
    | true,cs=>vC σ b .dead fun σ'=>xC x L N ro rs a c ((t, .pval (.agg cs)) :: e) ds σ'
    | false,[v]=>if v.cP then vC σ b .dead fun σ'=>xC x L N ro rs a c ((t, .pval v) :: e) ds σ' else none
    | _,_=>none
   | _=>none
  | _=>none
 | .gG t off sz a,c,e,ds,σ=>match e.get t with
  | .ptr b 0=>match σ.get b with
   | .box cs=>match cs[off]? with
    | some (.oslice sz' xs _ _)=>if sz' == sz then fK (σ.set b (.box (cs.set off (.slice sz xs)))) fun σ'=>xC x L N ro rs a c e ds σ' else none
    | some (.sref sz' b' o len n)=>match σ.get b' with
     | .arr sz'' xs=>if sz' == sz && sz'' == sz && xs.length == n then fK ((σ.set b' .dead).set b (.box (cs.set off (.slice sz ((xs.drop o).take len))))) fun σ'=>xC x L N ro rs a c e ds σ' else none
     | _=>none
    | _=>none
   | _=>none
  | _=>none
 | .creg ops live bef st last,_,e,ds,σ=>match xR (x.call rs) x.pcall ops bef last st [] [] e σ with
  | some (none,e',σ')=>cu (e'.only live) fun e'=>some ⟨.normal,e',ds,σ'⟩
  | some (some v,_,σ')=>some ⟨.panic v,de ops e,ds,σ'⟩
  | none=>none
 | .oreg ops live _ _ a b,_,e,ds,σ=>match xR (x.call rs) x.pcall ops a.bef a.last a.st [] [] e σ with
  | some (none,e1,σ1)=>match xR (x.call rs) x.pcall ops b.bef b.last b.st [] [] e σ with
   | some (none,e2,σ2)=>cu (e1.only live) fun e3=>if oF e3 (e2.only live) && lx σ1 σ2 then some ⟨.normal,e3,ds,σ1⟩ else none
   | _=>none
  | _=>none
 | .qreg ops live bef st last,_,e,ds,σ=>match xQ (x.call rs) ops bef last st [] [] e σ with
  | some (e',σ')=>cu (e'.only live) fun e'=>some ⟨.normal,e',ds,σ'⟩
  | none=>none
 | .dfr d g caps live,_,e,ds,σ=>if ro.isNone && ba e caps then cu (Env.only ((d, .undef) :: e) live) fun e'=>dT fN (caps.map (opv e)) fun cs=>some ⟨.normal,e', .fn (.func (.func g) [] cs) [] :: ds,σ⟩ else none
 | .cg f ps asg body,c,e,ds,σ=>match c with
  | .rangeFunc _ _ casg cbody=>if opg e f then match opv e f with
   | .func (.func fid) first caps=>match ro with
    | none=>l7 (σ.length + 1) e (.coll σ.length :: ds) (x.fcall (⟨σ.length + 1,N,asg,body⟩ :: rs) fid (first ++ [.yieldf (σ.length + 1)] ++ caps) (σ ++ [.dfr, .looprec N e ps casg cbody σ.length .ready none]))
    | some b=>match σ.get b with
     | .looprec _ _ _ _ _ D _ _=>l7 σ.length e ds (x.fcall (⟨σ.length,N,asg,body⟩ :: rs) fid (first ++ [.yieldf σ.length] ++ caps) (σ ++ [.looprec N e ps casg cbody D .ready none]))
     | _=>none
   | _=>none
   else none
  | _=>none
section
variable {P:Program} {x:Ex} {L N:Nat} {ro:Option Nat} {rs:List Rnd}
theorem AL {cx:Code} {body:Env → List fp → ab → Option XE} (hb:∀ {e ds σ r},body e ds σ = some r → ∀ Q:AEx → Fr → ab → Prop,Q r.x ⟨r.e,r.ds⟩ r.σ → AWc P N ro cx Q ⟨e,ds⟩ σ) {n:Nat} {e:Env} {ds:List fp} {σ:ab} {r:XE} (h:mM body n e ds σ = some r)
  (Q:AEx → Fr → ab → Prop) (hq:Q r.x ⟨r.e,r.ds⟩ r.σ):AWc P N ro (.loop cx) Q ⟨e,ds⟩ σ:=by
 refine AWc.loop (ι:=Nat) (fun n fr σ=>mM body n fr.v fr.ds σ = some r) (fun n=>n) (i₀:=n) h ?_;intro n fr σ hn;obtain ⟨e,ds⟩:=fr
 cases n with
 | zero=>simp [mM] at hn
 | succ n=>
  simp only [mM] at hn
  cases hx:body e ds σ with
  | none=>rw [hx] at hn; cases hn
  | some r1=>
   rw [hx] at hn;refine hb hx _ ?_;obtain ⟨x1,e1,ds1,σ1⟩:=r1
   cases x1 with
   | normal=>exact ⟨n,Nat.lt_succ_self n,hn⟩
   | _=>simp only [Option.some.injEq] at hn; subst hn; exact hq
theorem eP (hx:nx P x):∀ (ac:AC) {c:Code} {e:Env} {ds:List fp} {σ:ab} {r:XE},bd P N ac c = true → xC x L N ro rs ac c e ds σ = some r → ∀ Q:AEx → Fr → ab → Prop,Q r.x ⟨r.e,r.ds⟩ r.σ → AWc P N ro c Q ⟨e,ds⟩ σ
 | .skip,c,e,ds,σ,r,hc,h,Q,hq=>by
  simp only [xC,Option.some.injEq] at h; subst h;exact aE .skip (by exact hq) c hc
 | .reg ops live,c,e,ds,σ,r,hc,h,Q,hq=>by
  refine aE (.reg ops live) ?_ c hc;simp only [xC] at h
  cases ho:nM (x.call rs) ops e σ with
  | none=>rw [ho] at h; cases h
  | some q=>
   obtain ⟨p,e',σ'⟩:=q;rw [ho] at h
   cases p with
   | none=>
    simp only [bN,Option.some.injEq] at h; subst h;exact gk (hx.call rs) ho hq
   | some v=>
    simp only [Option.some.injEq] at h; subst h;exact gk (hx.call rs) ho hq
 | .seq a b,c,e,ds,σ,r,hc,h,Q,hq=>by
  cases c <;> simp [bd] at hc;rename_i cx cy;simp only [xC] at h
  cases ha:xC x L N ro rs a cx e ds σ with
  | none=>rw [ha] at h; cases h
  | some r1=>
   rw [ha] at h;refine AWc.seq (eP hx a hc.1 ha _ ?_);obtain ⟨x1,e1,ds1,σ1⟩:=r1
   cases x1 with
   | normal=>exact eP hx b hc.2 h Q hq
   | _=>simp only [Option.some.injEq] at h; subst h; exact hq
 | .cond o a b,c,e,ds,σ,r,hc,h,Q,hq=>by
  cases c <;> simp [bd] at hc;rename_i o' cx cy;simp only [xC] at h
  cases hv:opv e o with
  | bool t=>
   rw [hv] at h;simp only at h
   split at h
   ·rename_i hg;refine AWc.cond (v:=opv e o) (b:=t) (fun s a hf=>hf.opr hc.1.1 hg) hv (fun et=>?_) (fun et=>?_)
    ·subst et; exact eP hx a hc.1.2 h Q hq
    ·subst et; exact eP hx b hc.2 h Q hq
   ·cases h
  | _=>rw [hv] at h; cases h
 | .block id a,c,e,ds,σ,r,hc,h,Q,hq=>by
  cases c <;> simp [bd] at hc;rename_i id' cx;obtain ⟨rfl,hc⟩:=hc;simp only [xC] at h
  cases ha:xC x L N ro rs a cx e ds σ with
  | none=>rw [ha] at h; cases h
  | some r1=>
   rw [ha] at h;refine AWc.block (eP hx a hc ha _ ?_);obtain ⟨x1,e1,ds1,σ1⟩:=r1
   cases x1 with
   | exit i=>
    simp only [AEx.inBlock];simp only at h
    split at h
    ·rename_i he; rw [if_pos he]; simp only [Option.some.injEq] at h; subst h; exact hq
    ·rename_i he; rw [if_neg he]; simp only [Option.some.injEq] at h; subst h; exact hq
   | _=>simp only [Option.some.injEq] at h; subst h; exact hq
 | .loop live a,c,e,ds,σ,r,hc,h,Q,hq=>by
  cases c <;> simp [bd] at hc;rename_i cx;simp only [xC] at h;exact AL (fun hb Q hq=>eP hx a hc hb Q hq) h Q hq
 | .exit i,c,e,ds,σ,r,hc,h,Q,hq=>by
  simp only [xC,Option.some.injEq] at h; subst h;exact aE (.exit i) (by exact hq) c hc
 | .ret,c,e,ds,σ,r,hc,h,Q,hq=>by
  simp only [xC,Option.some.injEq] at h; subst h;exact aE .ret (by exact hq) c hc
 | .scope a,c,e,ds,σ,r,hc,h,Q,hq=>by
  cases c <;> simp [bd] at hc;rename_i cx;simp only [xC] at h
  cases ha:xC x L N ro rs a cx e ds σ with
  | none=>rw [ha] at h; cases h
  | some r1=>
   rw [ha] at h;refine AWc.scope (eP hx a hc ha _ ?_);obtain ⟨x1,e1,ds1,σ1⟩:=r1
   cases x1 with
   | goto l=>cases h
   | _=>simp only [Option.some.injEq] at h; subst h; exact hq
 | .label l,c,e,ds,σ,r,hc,h,Q,hq=>by
  simp only [xC,Option.some.injEq] at h; subst h;exact aE (.label l) (by exact hq) c hc
 | .dreg ops live bef,c,e,ds,σ,r,hc,h,Q,hq=>by
  refine aE (.dreg ops live bef) ?_ c hc;simp only [xC] at h
  cases ho:xD x.pcall x.acall ops e σ [] with
  | none=>rw [ho] at h; cases h
  | some q=>
   obtain ⟨e',σ',es⟩:=q;rw [ho] at h;simp only at h
   split at h
   ·rename_i h1;simp only [bN,Option.some.injEq] at h; subst h;exact fC hx.pcall hx.acall ho ⟨h1,hq⟩
   ·cases h
 | .frz t g a,c,e,ds,σ,r,hc,h,Q,hq=>by
  simp only [bd] at hc;simp only [xC] at h
  split at h
  ·rename_i b ht
   split at h
   ·rename_i cs hb
    split at h
    ·simp only [kI] at h;exact AWc.frz ht hb (.inl rfl) (eP hx a hc h Q hq)
    ·split at h
     ·rename_i hs;simp only [kI] at h;exact AWc.frz ht hb (.inr ⟨rfl,hs⟩) (eP hx a hc h Q hq)
     ·cases h
    ·cases h
   ·cases h
  ·cases h
 | .gG t off sz a,c,e,ds,σ,r,hc,h,Q,hq=>by
  simp only [bd] at hc;simp only [xC] at h
  split at h
  ·split at h
   ·rename_i cs hb
    split at h
    ·rename_i sz' xs b' k he
     split at h
     ·rename_i h1;simp only [beq_iff_eq] at h1;subst h1;simp only [br] at h;exact AWc.X4 hb he (eP hx a hc h Q hq)
     ·cases h
    ·rename_i sz' b' o len n he
     split at h
     ·rename_i sz'' xs hb'
      split at h
      ·rename_i h1;simp only [Bool.and_eq_true,beq_iff_eq] at h1;obtain ⟨⟨rfl,rfl⟩,hn⟩:=h1;simp only [br] at h;exact AWc.gG hb he hb' hn (eP hx a hc h Q hq)
      ·cases h
     ·cases h
    ·cases h
   ·cases h
  ·cases h
 | .creg ops live bef st last,c,e,ds,σ,r,hc,h,Q,hq=>by
  simp only [xC] at h
  cases hx2:xR (x.call rs) x.pcall ops bef last st [] [] e σ with
  | none=>rw [hx2] at h; cases h
  | some q=>
   obtain ⟨p,e',σ'⟩:=q;rw [hx2] at h;refine aE (.creg ops live bef st last) (pV (hx.call rs) hx.pcall hx2 ?_) c hc
   cases p with
   | none=>
    simp only [bN,Option.some.injEq] at h;subst h;exact hq
   | some v=>
    simp only [Option.some.injEq] at h;subst h;exact hq
 | .oreg ops live i j a b,c,e,ds,σ,r,hc,h,Q,hq=>by
  simp only [xC] at h
  split at h
  ·rename_i e1 σ1 h1
   split at h
   ·rename_i e2 σ2 h2;simp only [bN] at h
    split at h
    ·rename_i h3;simp only [Bool.and_eq_true] at h3;have q1:=pI h3.1;have q2:=jl h3.2;simp only [Option.some.injEq] at h;subst h;subst q2;refine aE (.oreg ops live i j a b) ⟨pV (hx.call rs) hx.pcall h1 ?_,pV (hx.call rs) hx.pcall h2 ?_⟩ c hc
     ·exact hq
     ·show Q .normal (Fr.only { v:=e2,ds:=ds } live) σ1
      have:Fr.only { v:=e2,ds:=ds } live = ⟨e1.only live,ds⟩:=by simp only [Fr.only]; rw [← q1]
      rw [this];exact hq
    ·cases h
   ·cases h
  ·cases h
 | .qreg ops live bef st last,c,e,ds,σ,r,hc,h,Q,hq=>by
  simp only [xC] at h
  cases hx2:xQ (x.call rs) ops bef last st [] [] e σ with
  | none=>rw [hx2] at h; cases h
  | some q=>
   obtain ⟨e',σ'⟩:=q;rw [hx2] at h;simp only [bN,Option.some.injEq] at h;subst h;exact aE (.qreg ops live bef st last) (xN (hx.call rs) hx2 hq) c hc
 | .dfr d g caps live,c,e,ds,σ,r,hc,h,Q,hq=>by
  simp only [xC] at h
  split at h
  ·rename_i h1;simp only [bN,eD (fun v K=>dM v K),Option.some.injEq] at h;subst h;simp only [Bool.and_eq_true,Option.isNone_iff_eq_none] at h1;exact aE (.dfr d g caps live) ⟨h1.1,bn h1.2,hq⟩ c hc
  ·cases h
 | .cg f ps asg body,c,e,ds,σ,r,hc,h,Q,hq=>by
  cases c <;> simp only [bd] at hc <;> first | (cases hc; done) | skip
  simp only [Bool.and_eq_true,decide_eq_true_eq,List.all_eq_true] at hc;obtain ⟨⟨⟨⟨c1,rfl⟩,c3⟩,c4⟩,c5⟩:=hc;simp only [xC] at h
  split at h
  ·rename_i hg
   cases hv:opv e f with
   | func fn first caps=>
    rw [hv] at h
    cases fn with
    | func fid=>
     simp only at h;have hev:∀ s (a:Act),bK s N ⟨e,ds⟩ a → Rv s (.func (.func fid) first caps) (a.eval _):=fun s a hf=>by have:=hf.opr c1 hg; simp only at this; rw [hv] at this; exact this
     cases ro with
     | none=>
      simp only at h;refine AWc.cg hev ?_;generalize hf:x.fcall _ fid _ _ = q at h
      cases q with
      | none=>cases h
      | some q=>
       obtain ⟨q,σ1⟩:=q;obtain ⟨hb,hs⟩:=hx.fcall _ _ _ _ _ _ hf;exact ir.func hb (hs _ (mX h hq))
     | some b=>
      simp only at h
      cases hb:σ.get b with
      | looprec N' e' ps' asg' body' D st pd=>
       rw [hb] at h;simp only at h;refine AWc.He hev hb ?_;generalize hf:x.fcall _ fid _ _ = q at h
       cases q with
       | none=>cases h
       | some q=>
        obtain ⟨q,σ1⟩:=q;obtain ⟨hb,hs⟩:=hx.fcall _ _ _ _ _ _ hf;exact ir.func hb (hs _ (mX h hq))
      | _=>rw [hb] at h; cases h
    | _=>cases h
   | _=>rw [hv] at h; cases h
  ·cases h
end
/-! ### Functions -/
structure Ent where
 f:Nat
 N:Nat
 ac:AC
 rs:List (Nat × Option (Option Nat))
 k:Nat
def tD (P:Program) (f N:Nat):Prop:=af P f = true ∧ ∀ caps:List aa,caps.length ≤ N → ∀ σ,eH P f caps σ .none fun m σ'=>m = .none ∧ σ' = σ
def ag (P:Program) (t:Ent):Prop:=(t.k ≠ 1 → af P t.f = true ∧ ∃ fn,P.funcs[t.f]? = some fn ∧ an P fn t.N t.ac t.rs = true) ∧ (t.k = 1 → tD P t.f t.N)
def fZ (P:Program):List Ent → Prop
 | []=>True
 | t :: r=>ag P t ∧ fZ P r
def kg (f:Nat):List Ent → Option Ent
 | []=>none
 | t :: r=>if t.f = f then some t else kg f r
theorem lN {P:Program} {f:Nat} {t:Ent}:∀ {l:List Ent},fZ P l → kg f l = some t → t.f = f ∧ ag P t
 | [],_,h=>by cases h
 | u :: r,hl,h=>by
  simp only [kg] at h
  split at h
  ·rename_i e;simp only [Option.some.injEq] at h; subst h;exact ⟨e,hl.1⟩
  ·exact lN hl.2 h
def xm (b:Nat):List Rnd → Option Rnd
 | []=>none
 | t :: r=>if t.b = b then some t else xm b r
def HZ (fv:aa) (args:List aa):Option (Nat × List aa):=
 match fv,args with
 | .func (.func f) [] caps,[]=>some (f,caps)
 | _,_=>none
theorem vJ {fv:aa} {args:List aa} {f:Nat} {caps:List aa} (h:HZ fv args = some (f,caps)):fv = .func (.func f) [] caps ∧ args = []:=by
 unfold HZ at h
 split at h
 ·simp only [Option.some.injEq,Prod.mk.injEq] at h;obtain ⟨rfl,rfl⟩:=h;exact ⟨rfl,rfl⟩
 ·cases h
def nC (tab:List Ent):List fp → ab → Option ab
 | [],σ=>some σ
 | .coll b :: r,σ=>match σ.get b with
  | .dfr=>nC tab r (σ.set b .dead)
  | _=>none
 | .fn fv args :: r,σ=>match HZ fv args with
  | some (f,caps)=>match kg f tab with
   | some t=>if t.k == 1 && decide (caps.length ≤ t.N) then nC tab r σ else none
   | none=>none
  | none=>none
theorem nL {P:Program} {tab:List Ent} (ht:fZ P tab) {K:PM → ab → Prop}:∀ {l:List fp} {σ σ':ab},nC tab l σ = some σ' → K .none σ' → jO P l σ .none K
 | [],σ,σ',h,hk=>by simp only [nC,Option.some.injEq] at h; subst h; exact hk
 | .coll b :: r,σ,σ',h,hk=>by
  simp only [nC] at h;simp only [jO];cases hb:σ.get b <;> rw [hb] at h <;> first | (cases h; done) | exact nL ht h hk
 | .fn fv args :: r,σ,σ',h,hk=>by
  simp only [nC] at h
  cases hd:HZ fv args with
  | none=>rw [hd] at h; cases h
  | some p=>
   obtain ⟨f,caps⟩:=p;obtain ⟨rfl,rfl⟩:=vJ hd;rw [hd] at h;simp only at h
   cases hf:kg f tab with
   | none=>rw [hf] at h; cases h
   | some t=>
    rw [hf] at h;simp only at h
    split at h
    ·rename_i h1;simp only [Bool.and_eq_true,decide_eq_true_eq,beq_iff_eq] at h1;obtain ⟨e1,e2⟩:=lN ht hf;subst e1;obtain ⟨hb,hd⟩:=e2.2 h1.1;exact ⟨hb,(hd caps h1.2 σ).mono (by rintro m σ'' ⟨rfl,rfl⟩; exact nL ht h hk)⟩
    ·cases h
def uq:List fp → ab → Option ab
 | [],σ=>some σ
 | .coll b :: r,σ=>match σ.get b with
  | .dfr=>uq r (σ.set b .dead)
  | _=>none
 | .fn _ _ :: _,_=>none
theorem tA {P:Program} {m:PM} {K:PM → ab → Prop}:∀ {l:List fp} {σ σ':ab},uq l σ = some σ' → K m σ' → jO P l σ m K
 | [],σ,σ',h,hk=>by simp only [uq,Option.some.injEq] at h; subst h; exact hk
 | .coll b :: r,σ,σ',h,hk=>by
  simp only [uq] at h;simp only [jO];cases hb:σ.get b <;> rw [hb] at h <;> first | (cases h; done) | exact tA h hk
 | .fn _ _ :: _,_,_,h,_=>by cases h
def L1:aa → Bool
 | .ptr _ _=>true
 | _=>false
def pM (e:Env) (σ:ab):List (Nat × Option (Option Nat)) → Bool
 | []=>true
 | (t,none) :: r=>(e.get t).cond && pM e σ r
 | (t,some k) :: r=>(e.get t).cond && kp k σ (e.get t).strip && L1 (e.get t).strip && pM e σ r
theorem ky {e:Env} {σ:ab}:∀ {l:List (Nat × Option (Option Nat))},pM e σ l = true → jo e σ l
 | [],_=>trivial
 | (t,none) :: r,h=>by simp only [pM,Bool.and_eq_true] at h; exact ⟨h.1,ky h.2⟩
 | (t,some k) :: r,h=>by
  simp only [pM,Bool.and_eq_true] at h;refine ⟨h.1.1.1,lK h.1.1.2, ?_,ky h.2⟩;have:=h.1.2;cases hv:(e.get t).strip <;> rw [hv] at this <;> first | (cases this; done) | exact ⟨_,_,rfl⟩
def I0 (tab:List Ent) (rs:List (Nat × Option (Option Nat))) (r:XE):XR:=
 match r.x with
 | .normal | .ret=>match nC tab r.ds r.σ with
  | some σ=>if pM r.e σ rs then bU 3 (fJ (fj r.e σ rs)) fun v=>some (.ret v,σ) else none
  | none=>none
 | .panic v=>match uq r.ds r.σ with
  | some σ=>some (.pan v,σ)
  | none=>none
 | _=>none
theorem sF {P:Program} {tab:List Ent} (ht:fZ P tab) {rs:List (Nat × Option (Option Nat))} {r:XE} {q:bh} {σ:ab} {R:bh → ab → Prop} (h:I0 tab rs r = some (q,σ)) (hr:R q σ):ln P rs R r.x ⟨r.e,r.ds⟩ r.σ:=by
 obtain ⟨x,e,ds,σ0⟩:=r
 have key:∀ {h0:(match nC tab ds σ0 with
  | some σ=>if pM e σ rs then bU 3 (fJ (fj e σ rs)) fun v=>some (.ret v,σ) else none
  | none=>none) = some (q,σ)},jO P ds σ0 .none (Cq rs R e):=by
  intro h0
  cases ho:nC tab ds σ0 with
  | none=>rw [ho] at h0; cases h0
  | some σ1=>
   rw [ho] at h0;simp only [bM] at h0
   split at h0
   ·rename_i h1;simp only [Option.some.injEq,Prod.mk.injEq] at h0;obtain ⟨rfl,rfl⟩:=h0;exact nL ht ho ⟨ky h1,hr⟩
   ·cases h0
 cases x with
 | normal=>exact key (h0:=h)
 | ret=>exact key (h0:=h)
 | panic v=>
  simp only [I0] at h;simp only [ln]
  cases ho:uq ds σ0 with
  | none=>rw [ho] at h; cases h
  | some σ1=>
   rw [ho] at h;simp only [Option.some.injEq,Prod.mk.injEq] at h;obtain ⟨rfl,rfl⟩:=h;exact tA ho hr
 | _=>cases h
def rU (P : Program) (x : Ex) (L : Nat) (rs : List Rnd) (b : Nat) (args : List aa) (σ : ab) : XR :=
 match xm b rs with
 | none=>none
 | some t => match σ.get b with
  | .looprec N e ps casg cbody _ .ready _=>
   if bd P N t.asg casg && bd P N t.body cbody && ps.all (fun p=>decide (p < N)) && ps.length == args.length then
    cu (fq e ps args) fun e0=>match xC x L N (some b) rs t.asg casg e0 [] σ with
    | some ⟨.normal,e1,ds1,σ1⟩=>match σ1.get b with
     | .looprec N1 f1 ps1 asg1 body1 D1 .ready p1=>match xC x L N (some b) rs t.body cbody e1 ds1 (σ1.set b (.looprec N1 f1 ps1 asg1 body1 D1 .busy p1)) with
      | none=>none
      | some ⟨x2,_,_,σ2⟩=>match σ2.get b with
       | .looprec N2 f2 ps2 asg2 body2 D2 _ _=>match x2 with
        | .normal=>some (.ret (.bool true),σ2.set b (.looprec N2 f2 ps2 asg2 body2 D2 .ready none))
        | .ret=>some (.ret (.bool false),σ2.set b (.looprec N2 f2 ps2 asg2 body2 D2 .done (some .ret)))
        | .exit i=>some (.ret (.bool false),σ2.set b (.looprec N2 f2 ps2 asg2 body2 D2 .done (some (.exit i))))
        | .goto l=>some (.ret (.bool false),σ2.set b (.looprec N2 f2 ps2 asg2 body2 D2 .done (some (.goto l))))
        | .panic _=>none
       | _=>none
     | _=>none
    | _=>none
   else none
  | _=>none
theorem uP {P : Program} {x : Ex} (hx : nx P x) {L : Nat} {rs : List Rnd} {b : Nat} {args : List aa} {σ : ab} {r : bh} {σ' : ab} (h : rU P x L rs b args σ = some (r,σ')) (Q : bh → ab → Prop) (hq : Q r σ') : bp P (.yieldf b) args σ Q := by
 unfold rU at h
 cases ht:xm b rs with
 | none=>rw [ht] at h; cases h
 | some t=>
  rw [ht] at h;simp only at h
  cases hb:σ.get b with
  | looprec N e ps casg cbody D st pd=>
   rw [hb] at h
   cases st with
   | ready=>
    simp only at h
    split at h
    ·rename_i h1;simp only [Bool.and_eq_true,beq_iff_eq,List.all_eq_true,decide_eq_true_eq] at h1;simp only [bN] at h;refine bp.yield hb h1.2 h1.1.2 ?_
     cases ha:xC x L N (some b) rs t.asg casg (fq e ps args) [] σ with
     | none=>rw [ha] at h; cases h
     | some r1=>
      obtain ⟨x1,e1,ds1,σ1⟩:=r1;rw [ha] at h;refine eP hx _ h1.1.1.1 ha _ ?_
      cases x1 with
      | normal=>
       simp only at h
       cases hb1:σ1.get b with
       | looprec N1 f1 ps1 asg1 body1 D1 st1 p1=>
        rw [hb1] at h
        cases st1 with
        | ready=>
         simp only at h;refine ⟨N1,f1,ps1,asg1,body1,D1,p1,hb1, ?_⟩;generalize hc:xC x L N (some b) rs t.body cbody e1 ds1 _ = q at h
         cases q with
         | none=>cases h
         | some r2=>
          obtain ⟨x2,e2,ds2,σ2⟩:=r2;refine eP hx _ h1.1.1.2 hc _ ?_;simp only at h
          cases hb2:σ2.get b with
          | looprec N2 f2 ps2 asg2 body2 D2 st2 p2=>
           rw [hb2] at h
           cases x2 with
           | panic v=>cases h
           | _=>
            simp only [Option.some.injEq,Prod.mk.injEq] at h;obtain ⟨rfl,rfl⟩:=h;exact ⟨N2,f2,ps2,asg2,body2,D2,st2,p2,hb2,hq⟩
          | _=>rw [hb2] at h; cases h
        | _=>cases h
       | _=>rw [hb1] at h; cases h
      | _=>cases h
    ·cases h
   | _=>cases h
  | _=>rw [hb] at h; cases h
structure Orc where
 go:Nat → List aa → Option aa
 eff:Nat → List aa → ab → XR
instance:CoeFun Orc fun _=>Nat → List aa → Option aa:=⟨Orc.go⟩
def cM (P:Program) (f:Nat) (args:List aa):aa → Prop
 | .oslice sz xs 0 1=>∀ σ,Spec P f args σ fun r σ'=>r = .ret (.oslice sz xs σ.length 1) ∧ σ' = σ ++ [.spare sz 1]
 | v=>∀ σ,Spec P f args σ fun r σ'=>r = .ret v ∧ σ' = σ
def fV (P:Program) (o:Orc):Prop:=(∀ f args v,o f args = some v → af P f = true ∧ cM P f args v) ∧
 ∀ f args σ r σ',o.eff f args σ = some (r,σ') → af P f = true ∧ Spec P f args σ fun q σ''=>q = r ∧ σ'' = σ'
theorem cM.pure {P:Program} {f:Nat} {args:List aa} {v:aa} (h:cM P f args v) (hp:v.pure = true):∀ σ,Spec P f args σ fun r σ'=>r = .ret v ∧ σ' = σ:=by
 cases v <;> first | exact h | (simp [aa.pure] at hp)
theorem cM.of {P:Program} {f:Nat} {args:List aa} {v:aa} (hp:v.pure = true) (h:∀ σ,Spec P f args σ fun r σ'=>r = .ret v ∧ σ' = σ):cM P f args v:=by
 cases v <;> first | exact h | (simp [aa.pure] at hp)
def mQ (orc:Orc) (f:Nat) (args:List aa):Option (Nat × List aa):=
 match orc f args with
 | some (.oslice sz xs 0 1)=>some (sz,xs)
 | _=>none
theorem ph {P:Program} {orc:Orc} (ho:fV P orc) {f:Nat} {args:List aa} {sz:Nat} {xs:List aa} (h:mQ orc f args = some (sz,xs)) :
  af P f = true ∧ ∀ σ,Spec P f args σ fun r σ'=>r = .ret (.oslice sz xs σ.length 1) ∧ σ' = σ ++ [.spare sz 1]:=by
 unfold mQ at h
 split at h
 ·rename_i sz' xs' hv;simp only [Option.some.injEq,Prod.mk.injEq] at h;obtain ⟨rfl,rfl⟩:=h;exact ho.1 _ _ _ hv
 ·cases h
def nF (orc:Orc) (sz:Nat) (fv:aa) (args:List aa):Option (List aa):=
 match fv with
 | .func (.func f) first caps=>match mQ orc f (first ++ args ++ caps) with
  | some (sz',xs)=>if sz' = sz then some xs else none
  | none=>none
 | _=>none
theorem rA {P:Program} {orc:Orc} (ho:fV P orc):oh P (nF orc):=by
 intro sz fv args xs h σ;unfold nF at h
 split at h
 ·rename_i f first caps
  cases hw:mQ orc f (first ++ args ++ caps) with
  | none=>rw [hw] at h; cases h
  | some p=>
   obtain ⟨sz',ys⟩:=p;rw [hw] at h;simp only at h
   split at h
   ·rename_i e;subst e;simp only [Option.some.injEq] at h;subst h;obtain ⟨hb,hs⟩:=ph ho hw;exact bp.func hb (hs σ)
   ·cases h
 ·cases h
def nY (orc:Orc) (fv:aa) (args:List aa) (σ:ab):XR:=
 match fv with
 | .func (.func f) first caps=>match mQ orc f (first ++ args ++ caps) with
  | some (sz,xs)=>some (.ret (.oslice sz xs σ.length 1),σ ++ [.spare sz 1])
  | none=>none
 | _=>none
theorem rD {P:Program} {orc:Orc} (ho:fV P orc) {fv:aa} {args:List aa} {σ:ab} {r:bh} {σ':ab} (h:nY orc fv args σ = some (r,σ')) (Q:bh → ab → Prop) (hq:Q r σ'):bp P fv args σ Q:=by
 unfold nY at h
 split at h
 ·rename_i f first caps
  cases hw:mQ orc f (first ++ args ++ caps) with
  | none=>rw [hw] at h; cases h
  | some p=>
   obtain ⟨sz,xs⟩:=p;rw [hw] at h;simp only [Option.some.injEq,Prod.mk.injEq] at h;obtain ⟨rfl,rfl⟩:=h;obtain ⟨hb,hs⟩:=ph ho hw;exact (bp.func hb (hs σ)).mono fun q σ'' e=>by obtain ⟨rfl,rfl⟩:=e; exact hq
 ·cases h
def xFc (P:Program) (tab:List Ent) (L:Nat) (x:Ex) (rs:List Rnd) (f:Nat) (args:List aa) (σ:ab):XR:=
 match kg f tab with
 | none=>none
 | some t=>match P.funcs[f]? with
  | none=>none
  | some fn=>match fn.body with
   | none=>none
   | some c=>if args.length ≤ t.N && t.k != 1 then match xC x L t.N none rs t.ac c (bF args 0) [] σ with
    | none=>none
    | some r=>I0 tab t.rs r
    else none
def xPc (orc:Orc) (fc:List Rnd → Nat → List aa → ab → XR) (fv:aa) (args:List aa):Option aa:=
 match fv with
 | .func (.func f) first caps=>
  if cF (first ++ args ++ caps) then match orc f (first ++ args ++ caps) with
   | some v=>if v.pure then some v else none
   | none=>match fc [] f (first ++ args ++ caps) [] with
    | some (.ret v,_)=>if v.pure then some v else none
    | _=>none
  else none
 | _=>none
def impure (tab:List Ent):aa → Bool
 | .func (.func f) _ _=>match kg f tab with
  | some t=>t.k == 2
  | none=>false
 | .yieldf _=>true
 | _=>false
def gB (P : Program) (tab : List Ent) (orc : Orc) (L : Nat) : Nat → Ex
 | 0=>⟨fun _ _=>none,fun _ _ _=>none,fun _ _ _ _=>none,fun _ _ _ _=>none⟩
 | n + 1 => ⟨fun fv args => xPc orc (xFc P tab L (gB P tab orc L n)) fv args,nF orc,
     (fun rs fv args σ=>match (if impure tab fv then none else xPc orc (xFc P tab L (gB P tab orc L n)) fv args) with
      | some v=>some (.ret v,σ)
      | none=>match nY orc fv args σ with
      | some q=>some q
      | none=>match fv with
       | .func (.func f) first caps=>match orc.eff f (first ++ args ++ caps) σ with
        | some q=>some q
        | none=>xFc P tab L (gB P tab orc L n) rs f (first ++ args ++ caps) σ
       | .yieldf b=>rU P (gB P tab orc L n) L rs b args σ
       | _=>none),
     fun rs f args σ=>xFc P tab L (gB P tab orc L n) rs f args σ⟩
theorem xH {P:Program} {tab:List Ent} (ht:fZ P tab) {L:Nat} {x:Ex} (hx:nx P x) {rs:List Rnd} {f:Nat} {args:List aa} {σ:ab} {r:bh} {σ':ab} (h:xFc P tab L x rs f args σ = some (r,σ')) :
  af P f = true ∧ ∀ Q:bh → ab → Prop,Q r σ' → Spec P f args σ Q:=by
 unfold xFc at h
 cases hf:kg f tab with
 | none=>rw [hf] at h; cases h
 | some t=>
  rw [hf] at h;obtain ⟨e1,hent,_⟩:=lN ht hf;subst e1;by_cases hin:t.k = 1
  ·exfalso; simp only [hin] at h; split at h <;> first | (cases h; done) | (split at h <;> simp at h)
  obtain ⟨hb,fn,e2,e3⟩:=hent hin;simp only [an,Bool.and_eq_true,decide_eq_true_eq] at e3;obtain ⟨⟨h1,h2⟩,h3⟩:=e3;simp only [e2] at h
  cases hc:fn.body with
  | none=>rw [hc] at h; cases h
  | some c=>
   rw [hc] at h h3;simp only at h h3
   split at h
   ·rename_i hl;simp only [Bool.and_eq_true,decide_eq_true_eq] at hl;refine ⟨hb,fun Q hq=>Spec.oL e2 hc h1 h2 hl.1 ?_⟩
    cases hxc:xC x L t.N none rs t.ac c (bF args 0) [] σ with
    | none=>rw [hxc] at h; cases h
    | some r1=>
     rw [hxc] at h;exact eP hx _ h3 hxc _ (sF ht h hq)
   ·cases h
theorem KM {P:Program} {orc:Orc} (ho:fV P orc) {fc:List Rnd → Nat → List aa → ab → XR} (hfc:∀ rs f args σ r σ',fc rs f args σ = some (r,σ') → af P f = true ∧ ∀ Q:bh → ab → Prop,Q r σ' → Spec P f args σ Q):gr P (xPc orc fc):=by
 intro fv args v h σ;unfold xPc at h
 split at h
 ·rename_i f first caps
  split at h
  ·rename_i hp
   cases hor:orc.go f (first ++ args ++ caps) with
   | some w=>
    rw [hor] at h;simp only at h
    split at h
    ·rename_i hpv;simp only [Option.some.injEq] at h;subst h;obtain ⟨hb,hs⟩:=ho.1 _ _ _ hor;exact bp.func hb (hs.pure hpv σ)
    ·cases h
   | none=>
    rw [hor] at h;simp only at h
    split at h
    ·rename_i w σ1 hf
     split at h
     ·rename_i hpv;simp only [Option.some.injEq] at h;subst h;obtain ⟨hb,hs⟩:=hfc _ _ _ _ _ _ hf;exact bp.func hb (Spec.x8 (hs (fun r _=>r = .ret w) rfl) hp hpv σ)
     ·cases h
    ·cases h
  ·cases h
 ·cases h
theorem nS {P:Program} {tab:List Ent} (ht:fZ P tab) {orc:Orc} (ho:fV P orc) {L:Nat}:∀ n,nx P (gB P tab orc L n)
 | 0=>⟨fun _ _ _ h=>(by cases h),fun _ _ _ _ h=>(by cases h),fun _ _ _ _ _ _ h=>(by cases h),fun _ _ _ _ _ _ h=>(by cases h)⟩
 | n + 1 => by
  have ih:=nS ht ho (L:=L) n;have hf:∀ rs f args σ r σ',xFc P tab L (gB P tab orc L n) rs f args σ = some (r,σ') → af P f = true ∧ ∀ Q:bh → ab → Prop,Q r σ' → Spec P f args σ Q:=fun rs f args σ r σ' h=>xH ht ih h
  have hp:=KM ho hf;refine ⟨hp,rA ho,fun rs fv args σ r σ' h Q hq=>?_,fun rs f args σ r σ' h=>hf _ _ _ _ _ _ h⟩;simp only [gB] at h
  split at h
  ·rename_i v hv;simp only [Option.some.injEq,Prod.mk.injEq] at h;obtain ⟨rfl,rfl⟩:=h
   split at hv
   ·cases hv
   exact (hp _ _ _ hv _).mono fun q σ'' e=>by obtain ⟨rfl,rfl⟩:=e; exact hq
  ·split at h
   ·rename_i q hoc;simp only [Option.some.injEq] at h;subst h;exact rD ho hoc Q hq
   ·split at h
    ·split at h
     ·rename_i q he;simp only [Option.some.injEq] at h;subst h;obtain ⟨hb,hs⟩:=ho.2 _ _ _ _ _ he;exact (bp.func hb hs).mono fun q σ'' e=>by obtain ⟨rfl,rfl⟩:=e; exact hq
     ·obtain ⟨hb,hs⟩:=hf _ _ _ _ _ _ h;exact bp.func hb (hs Q hq)
    ·exact uP ih h Q hq
    ·cases h
theorem jX {P:Program} {tab:List Ent} (ht:fZ P tab) {orc:Orc} (ho:fV P orc) {L n:Nat} {f:Nat} {args:List aa} {v:aa} {σ':ab} (h:xFc P tab L (gB P tab orc L n) [] f args [] = some (.ret v,σ')) :
  Spec P f args [] fun r _=>r = .ret v:=(xH ht (nS ht ho n) h).2 _ rfl
def GX:XR → Bool
 | some (.ret (.bool true),_)=>true
 | _=>false
theorem pw {P:Program} {tab:List Ent} (ht:fZ P tab) {orc:Orc} (ho:fV P orc) {L n:Nat} {f:Nat} {args:List aa} (h:GX (xFc P tab L (gB P tab orc L n) [] f args []) = true):Spec P f args [] fun r _=>r = .ret (.bool true):=by
 cases hx:xFc P tab L (gB P tab orc L n) [] f args [] with
 | none=>rw [hx] at h; cases h
 | some q=>
  obtain ⟨q,σ⟩:=q;rw [hx] at h
  cases q with
  | ret v=>
   cases v <;> first | (cases h; done) | skip
   rename_i b;cases b <;> first | (cases h; done) | skip
   exact jX ht ho hx
  | pan v=>cases h
end Go.AM
