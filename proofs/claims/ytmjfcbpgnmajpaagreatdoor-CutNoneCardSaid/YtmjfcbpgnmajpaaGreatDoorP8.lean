/- All instructions; a region in the order of its text; abstract code, and when it stands for the program's code. A region whose order Go leaves open, first half: what it comes to in the order of its text, and which parts of the abstract heap each operation touches. -/
import Derived.Test.YtmjfcbpgnmajpaaGreatDoorP6
import Derived.Test.YtmjfcbpgnmajpaaGreatDoorP7
namespace Go.AM
open Go.RowKit
section
variable {P:Program} {s:St} {A:World} {ρ:aI → ab} {ρ':Operand → Value} {K Kp:ab → af → Prop}
theorem Rv.down {v:ab} {c:Value} (h:Rv s v c):Rv s v.down c:=by
  cases v with
  | oslice sz xs b k=>cases h with | oslice _ _ _ _ _ hs _=>exact hs
  | _=>exact h
theorem Rv.mj {v:ab} {c:Value} (h:Rv s v c):Rv s v.mj c:=by
  cases v with
  | agg cs=>
    obtain ⟨vs,rfl,h1,h2⟩:=h.ja
    refine .agg _ _ (by simpa using h1) (fun j g1 g2=>?_)
    have:=(h2 j (by simpa using g1) g2).down
    simpa using this
  | _=>exact h.down
theorem km.bC:∀ {dn:List Bool} {l:List ab} {m:List Value},l.length = m.length → (∀ j (h1:j < l.length) (h2:j < m.length),Rv s l[j] m[j]) →
    (bC dn l).length = m.length ∧ ∀ j (h1:j < (bC dn l).length) (h2:j < m.length),Rv s (bC dn l)[j] m[j]
  | [],[],[],_,_=>⟨rfl,fun j h1 _=>by simp [Go.AM.bC] at h1⟩
  | _ :: _,[],[],_,_=>⟨by cases ‹Bool› <;> rfl,fun j h1 _=>by cases ‹Bool› <;> simp [Go.AM.bC] at h1⟩
  | [],v :: l,c :: m,hl,h=>⟨by simpa [Go.AM.bC] using hl,fun j h1 h2=>by simpa [Go.AM.bC] using h j (by simpa [Go.AM.bC] using h1) h2⟩
  | b :: dn,v :: l,c :: m,hl,h=>by
    obtain ⟨e1,e2⟩:=km.bC (dn:=dn) (l:=l) (m:=m) (by simpa using hl) (fun j g1 g2=>by have:=h (j + 1) (by simpa using g1) (by simpa using g2); simpa using this)
    have h0:=h 0 (by simp) (by simp)
    simp only [List.getElem_cons_zero] at h0
    cases b
    · refine ⟨by simp [Go.AM.bC,e1],fun j g1 g2=>?_⟩
      cases j with
      | zero=>simpa [Go.AM.bC] using h0
      | succ j=>simpa [Go.AM.bC] using e2 j (by simpa [Go.AM.bC] using g1) (by simpa using g2)
    · refine ⟨by simp [Go.AM.bC,e1],fun j g1 g2=>?_⟩
      cases j with
      | zero=>simpa [Go.AM.bC] using h0.mj
      | succ j=>simpa [Go.AM.bC] using e2 j (by simpa [Go.AM.bC] using g1) (by simpa using g2)
  | _,[],_ :: _,hl,_=>by simp at hl
  | _,_ :: _,[],hl,_=>by simp at hl
theorem yG (hcn : ∀ c,ρ' (.const c) = c) (hgl : ∀ g,ρ' (.global g) = .pointer (some ⟨g,0,none⟩)) (hi : Inv A s) {i : AI} {o : Oper} (hc : a8 P i o.op = true) (ha : fm s ρ ρ') (h : eH P i ρ s.h K Kp) : aA P A s K Kp ((execOp ρ' o).run P s.w) := by
  have plain:(∀ m sz n ps,i ≠ .lit m sz n ps) → (i.plain = true ∧ i.side ρ s.h ∧ K (i.val ρ s.h) s.h) → aA P A s K Kp ((execOp ρ' o).run P s.w):=by
    rintro hne ⟨h1,h2,h3⟩
    obtain ⟨c,e1,e2⟩:=AI.uC hi hc h1 hne ha h2
    exact aA.value e1 rfl hi (.refl s) e2 h3
  obtain ⟨dst,op,type,pos,after,guard⟩:=o
  simp only at hc
  cases i with
  | alloc z=>
    cases op <;> simp only [a8] at hc <;> first | (cases hc; done) | skip
    exact ye hi hc h
  | box n x=>
    cases op <;> simp only [a8] at hc <;> first | (cases hc; done) | skip
    simp only [Bool.and_eq_true,beq_iff_eq] at hc
    exact Bq hi (ha _ _ hc.2) h.1 h.2
  | loadd k x=>
    cases op <;> simp only [a8] at hc <;> first | (cases hc; done) | skip
    simp only [Bool.and_eq_true] at hc
    obtain ⟨c,e1,e2⟩:=mR hi hc.1 (ha _ _ hc.2) h.1
    exact aA.value (au _ _ _ _ e1) rfl hi (.refl s) e2.mj h.2
  | mvd x=>
    cases op <;> simp only [a8] at hc <;> first | (cases hc; done) | exact aA.value rfl rfl hi (.refl s) (ha _ _ hc).mj h
  | pbox n x=>
    cases op <;> simp only [a8] at hc <;> first | (cases hc; done) | skip
    simp only [Bool.and_eq_true,beq_iff_eq] at hc
    exact zK hi (ha _ _ hc.2) h.1 h.2
  | nilS m sz=>
    cases op with
    | move y=>
      have hy:ρ' y = .slice none 0 0:=by
        simp only [a8] at hc
        split at hc
        · rename_i e; cases e; exact hcn _
        · rename_i e; cases e
        · cases hc
      simp only [execOp,hy]
      exact tn hi h
    | assign y=>
      have hy:ρ' y = .slice none 0 0:=by
        simp only [a8] at hc
        split at hc
        · rename_i e; cases e
        · rename_i e; cases e; exact hcn _
        · cases hc
      simp only [execOp,hy]
      exact tn hi h
    | _=>simp only [a8] at hc; cases hc
  | buildm z ps=>
    cases op <;> simp only [a8] at hc <;> first | (cases hc; done) | skip
    simp only [Bool.and_eq_true] at hc
    exact v3 hi ha hc.1.1 hc.1.2 hc.2 h.1 h.2
  | storem sz x=>
    cases op with
    | store t y u=>
      simp only [a8] at hc
      split at hc
      · rename_i e
        cases e
        simp only [Bool.and_eq_true,beq_iff_eq] at hc
        have:=vA (P:=P) (Kp:=Kp) hi hc.1.1 hc.1.2 (ha _ _ hc.2) h.1 h.2
        simpa [execOp,hcn] using this
      · cases hc
    | _=>simp only [a8] at hc; cases hc
  | lit m sz n ps=>
    cases op with
    | buildSlice t n' parts=>
      have hn:n' = n:=by
        simp only [a8] at hc
        cases hu:P.underlying t with
        | none=>simp [hu] at hc
        | some d=>
          cases d <;> simp [hu] at hc
          exact hc.1.1.1.1.2.symm
      subst hn
      exact Bz hi ha hc h.1 h.2
    | _=>simp only [a8] at hc; cases hc
  | store sz x v=>
    cases op <;> simp only [a8] at hc <;> first | (cases hc; done) | skip
    simp only [Bool.and_eq_true,beq_iff_eq] at hc
    obtain ⟨⟨⟨h1,h2⟩,h3⟩,h4⟩:=hc
    exact ln hi h1 h2 (ha _ _ h3) (ha _ _ h4) h.1 h.2
  | call f dn l=>
    cases op <;> simp only [a8] at hc <;> first | (cases hc; done) | skip
    rename_i c
    obtain ⟨cal,args,tys⟩:=c
    simp only at hc
    split at hc
    · simp only [Bool.and_eq_true] at hc
      obtain ⟨l1,r1⟩:=eL ha hc.2
      obtain ⟨d1,d2⟩:=km.bC (s:=s) (dn:=dn) l1 r1
      have hlist:(args.map ρ').toList = args.toList.map ρ':=by simp
      obtain ⟨d,e1,e2⟩:=h A s _ (args.map ρ') rfl hi (ha _ _ hc.1) ⟨by rw [d1]; simp,fun j g1 g2=>by have:=d2 j g1 (by simpa using g2); simpa using this⟩
      simp only [execOp,resolve]
      rw [e1]
      rcases e2 with ⟨g,az,e3,e4⟩ | ⟨lo,g,tmps,asg,body,e3,e4⟩
      · rw [show ((Sem.pure d:Sem Deferred) >>= fun d=>invoke d.target d.args) = invoke d.target d.args from rfl,e3]; exact e4
      · rw [show ((Sem.pure d:Sem Deferred) >>= fun d=>invoke d.target d.args) = invoke d.target d.args from rfl,e3]; exact e4
    · cases hc
  | panic x=>
    cases op <;> simp only [a8] at hc <;> first | (cases hc; done) | skip
    have hr:=ha _ _ hc
    simp only [eH] at h
    simp only [execOp]
    generalize ρ x = v at *
    rename_i y
    generalize ρ' y = d at *
    cases hr <;> first | (exact h.elim) | skip
    rename_i t v u hvu
    have:(do pure (Next.value (← Instr.panic (.iface t u))):Sem Next).run P s.w = .halt (.panic (.iface t u)) s.w:=by simp [Instr.panic]
    rw [this]
    exact ⟨.iface t v,s,rfl,hi, .refl s, .iface t v u hvu,h⟩
  | append sz bytes x y=>
    cases op <;> simp only [a8] at hc <;> first | (cases hc; done) | skip
    rename_i c
    obtain ⟨cal,args,tys⟩:=c
    simp only at hc
    split at hc
    · split at hc
      · rename_i x' y' t tx hy ht
        have hargs:args = #[x',y']:=by apply Array.ext'; simpa using hy
        have htys:tys = #[t,tx]:=by apply Array.ext'; simpa using ht
        subst hargs; subst htys
        split at hc
        · rename_i e e' hu1 hu2
          cases hinf:P.info? e with
          | none=>rw [hinf] at hc; simp at hc
          | some i=>
            rw [hinf] at hc
            simp only at hc
            cases hzv:i.zero with
            | none=>rw [hzv] at hc; simp at hc
            | some z=>
              rw [hzv] at hc
              simp only [Bool.and_eq_true,beq_iff_eq,decide_eq_true_eq] at hc
              obtain ⟨⟨⟨⟨c1,c2⟩,⟨⟨⟨c3,c4⟩,c5⟩,c6⟩⟩,c7⟩,c8⟩:=hc
              simp only [execOp,resolve,invoke,builtin]
              have:=vD (ty:=type) (Kp:=Kp) hi hu1 hu2 hinf hzv c5 c3 c4 c2 c6 (ha _ _ c7) (ha _ _ c8) h.1 h.2.1 h.2.2
              simpa using this
        · cases hc
      · cases hc
    · cases hc
  | sub m sz x lo hi_ mx=>
    cases op <;> simp only [a8] at hc <;> first | (cases hc; done) | skip
    rename_i t x' lo' hi' mx'
    cases hu:P.underlying t with
    | none=>rw [hu] at hc; simp at hc
    | some d=>
      cases d with
      | slice e=>
        rw [hu] at hc
        simp only [Bool.and_eq_true,beq_iff_eq,decide_eq_true_eq] at hc
        obtain ⟨⟨⟨⟨⟨⟨⟨c1,c2⟩,c3⟩,c4⟩,c5⟩,c6⟩,c7⟩,c8⟩:=hc
        have:=A9 (Kp:=Kp) hi ha hu c1 c3 (ha _ _ c4) c5 c6 c7 h.1 h.2.1 h.2.2.1 (fun e=>by rw [e] at c8; simpa using c8) h.2.2.2
        simpa [execOp,Instr.sliceAt,aw hu] using this
      | _=>rw [hu] at hc; simp at hc
  | range x=>
    cases op <;> simp only [a8] at hc <;> first | (cases hc; done) | skip
    rename_i t y
    simp only [Bool.and_eq_true] at hc
    cases hu:P.underlying t with
    | none=>rw [hu] at hc; simp at hc
    | some d=>
      cases d with
      | string=>exact wV hi hu (ha _ _ hc.2) h
      | _=>rw [hu] at hc; simp at hc
  | next x=>
    cases op <;> simp only [a8] at hc <;> first | (cases hc; done) | skip
    rename_i y b
    cases b
    · simp at hc
    · exact y6 hi (ha _ _ hc) h
  | freeze sz x=>
    cases op with
    | move y=>
      simp only [a8] at hc
      simp only [execOp]
      exact nW hi (ha _ _ hc) h
    | assign y=>
      simp only [a8] at hc
      simp only [execOp]
      exact nW hi (ha _ _ hc) h
    | _=>simp only [a8] at hc; cases hc
  | mksl m sz bytes z n c=>
    cases op <;> simp only [a8] at hc <;> first | (cases hc; done) | skip
    rename_i t n' c'
    cases hu:P.underlying t with
    | none=>rw [hu] at hc; simp at hc
    | some d=>
      cases d with
      | slice e=>
        rw [hu] at hc
        simp only at hc
        cases hinf:P.info? e with
        | none=>rw [hinf] at hc; simp at hc
        | some i=>
          rw [hinf] at hc
          simp only at hc
          cases hzv:i.zero with
          | none=>rw [hzv] at hc; simp at hc
          | some v=>
            rw [hzv] at hc
            simp only [Bool.and_eq_true,beq_iff_eq,decide_eq_true_eq] at hc
            obtain ⟨⟨⟨⟨c1,c2⟩,⟨⟨c3,c4⟩,⟨c5,c6⟩⟩⟩,c7⟩,c8⟩:=hc
            exact zL hi hu hinf hzv c4 c3 c5 c6 (ha _ _ c7) (ha _ _ c8) h.1 h.2.1 h.2.2
      | _=>rw [hu] at hc; simp at hc
  | clear sz z x=>
    cases op <;> simp only [a8] at hc <;> first | (cases hc; done) | skip
    rename_i c
    obtain ⟨cal,args,tys⟩:=c
    simp only at hc
    split at hc
    · split at hc
      · rename_i x' t hy ht
        have hargs:args = #[x']:=by apply Array.ext'; simpa using hy
        have htys:tys = #[t]:=by apply Array.ext'; simpa using ht
        subst hargs; subst htys
        cases hu:P.underlying t with
        | none=>rw [hu] at hc; simp at hc
        | some d=>
          cases d with
          | slice e=>
            rw [hu] at hc
            simp only at hc
            cases hinf:P.info? e with
            | none=>rw [hinf] at hc; simp at hc
            | some i=>
              rw [hinf] at hc
              simp only at hc
              cases hzv:i.zero with
              | none=>rw [hzv] at hc; simp at hc
              | some v=>
                rw [hzv] at hc
                simp only [Bool.and_eq_true,beq_iff_eq,decide_eq_true_eq] at hc
                obtain ⟨⟨c1,⟨c2,⟨c3,c4⟩⟩⟩,c5⟩:=hc
                simp only [execOp,resolve,invoke,builtin]
                have:=yD (ty:=type) (Kp:=Kp) hi hu hinf hzv c3 c4 (ha _ _ c5) h
                simpa using this
          | _=>rw [hu] at hc; simp at hc
      · cases hc
    · cases hc
  | gix g x=>
    cases op <;> simp only [a8] at hc <;> first | (cases hc; done) | skip
    split at hc
    · rename_i t g' y heq
      cases heq
      simp only [Bool.and_eq_true,beq_iff_eq] at hc
      obtain ⟨⟨rfl,c2⟩,c3⟩:=hc
      exact A6 hgl hi c2 (ha _ _ c3) h
    · cases hc
  | mnew=>
    cases op <;> simp only [a8] at hc <;> first | (cases hc; done) | skip
    simp only [Bool.and_eq_true] at hc
    exact zO hcn hi hc.1 hc.2 h
  | mget ok lk z x i=>
    cases op <;> simp only [a8] at hc <;> first | (cases hc; done) | skip
    split at hc
    · rename_i hu
      simp only [Bool.and_eq_true,decide_eq_true_eq] at hc
      obtain ⟨⟨⟨⟨rfl,c2⟩,c3⟩,c4⟩,c5⟩:=hc
      exact zr hi hu c2 c3 (ha _ _ c4) (ha _ _ c5) h
    · cases hc
  | j5 lk x k v=>
    cases op <;> simp only [a8] at hc <;> first | (cases hc; done) | skip
    all_goals
      split at hc
      · rename_i hu
        simp only [Bool.and_eq_true,decide_eq_true_eq] at hc
        obtain ⟨⟨⟨c2,c4⟩,c5⟩,c6⟩:=hc
        exact y7 hi hu c2 (ha _ _ c4) (ha _ _ c5) (ha _ _ c6) h
      · cases hc
  | isnil neg x=>
    cases op <;> simp only [a8] at hc <;> first | (cases hc; done) | skip
    split at hc
    · rename_i heq
      cases heq
      simp only [Bool.and_eq_true,decide_eq_true_eq] at hc
      obtain ⟨⟨c1,c2⟩,c3⟩:=hc
      exact wH hcn hi c1 c2 (ha _ _ c3) h
    · cases hc
  | subO sz x lo=>
    cases op <;> simp only [a8] at hc <;> first | (cases hc; done) | skip
    split at hc
    · rename_i heq
      split at hc
      · rename_i hu
        simp only [Bool.and_eq_true,beq_iff_eq,decide_eq_true_eq] at hc
        obtain ⟨⟨⟨⟨c1,c2⟩,c3⟩,c4⟩,c5⟩:=hc
        cases heq
        exact zz hi hu c1 c2 c3 (ha _ _ c4) (ha _ _ c5) h
      · cases hc
    · cases hc
  | snil neg x=>
    cases op <;> simp only [a8] at hc <;> first | (cases hc; done) | skip
    split at hc
    · rename_i heq
      cases heq
      simp only [Bool.and_eq_true,decide_eq_true_eq] at hc
      obtain ⟨⟨c1,c2⟩,c3⟩:=hc
      exact yW hcn hi c1 c2 (ha _ _ c3) h
    · cases hc
  | copyB sz x y=>
    cases op <;> simp only [a8] at hc <;> first | (cases hc; done) | skip
    rename_i c
    obtain ⟨cal,args,tys⟩:=c
    simp only at hc
    split at hc
    · split at hc
      · rename_i x' y' t tx hy ht
        have hargs:args = #[x',y']:=by apply Array.ext'; simpa using hy
        have htys:tys = #[t,tx]:=by apply Array.ext'; simpa using ht
        subst hargs; subst htys
        split at hc
        · rename_i e e' hu1 hu2
          simp only [Bool.and_eq_true,beq_iff_eq,decide_eq_true_eq] at hc
          obtain ⟨⟨⟨⟨c1,c2⟩,c3⟩,c4⟩,c5⟩:=hc
          simp only [execOp,resolve,invoke,builtin]
          have:=yQ (tx:=tx) (_e':=e') (ty:=type) (Kp:=Kp) hi hu1 c1 c3 (ha _ _ c4) (ha _ _ c5) h.1 h.2.1 h.2.2
          simpa using this
        · cases hc
      · cases hc
    · cases hc
  | _=>exact plain (by intros; simp) h
end
/-! ### Operations one after the other -/
def Fr.put (fr:Fr) (d:Option Nat) (v:ab):Fr:={ fr with v:=fr.v.put d v }
def cS (e:Env):List aI → Prop
  | []=>True
  | x :: r=>opg e x = true ∧ cS e r
def fz (e:Env) (g:Nat × Bool):Option Bool:=
  match e.get g.1 with
  | .bool b=>some (b == g.2)
  | .opt q (.bool b)=>some (q && (b == g.2))
  | _=>none
def AI.quiet:AI → Bool
  | .pick _ _ _=>true
  | .lit _ _ _ _=>false
  | i=>i.plain
def jf (e:Env) (σ:af):AI → ab
  | .pick c a b=>Aj (uS (opv e c)) (opv e a) (opv e b)
  | i=>i.val (opv e) σ
def gO (e:Env) (σ:af):AI → Prop
  | .pick c a b=>opg e c = true ∧ isBool (opv e c) ∧ (uS (opv e c) = true → opg e a = true) ∧ (uS (opv e c) = false → opg e b = true) ∧
      (match opv e a,opv e b with
        | .bool _, .bool _=>True
        | _,_=>True)
  | i=>cS e i.opers ∧ i.side (opv e) σ
def mQ (P:Program) (i:AI) (e:Env) (σ:af) (K:ab → af → Prop) (Kp:ab → af → Prop):Prop:=
  if i.quiet then gO e σ i ∧ K (jf e σ i) σ else cS e i.opers ∧ eH P i (opv e) σ K Kp
def aU (P : Program) : List aJ → Fr → af → (Fr → af → Prop) → (ab → Fr → af → Prop) → Prop
  | [],fr,σ,K,_=>K fr σ
  | o :: r,fr,σ,K,Kp=>
    match o.g with
    | none=>mQ P o.i fr.v σ (fun v σ'=>aU P r (fr.put o.d v) σ' K Kp) (fun v σ'=>Kp v fr σ')
    | some gd=>match fz fr.v gd with
      | none=>False
      | some g=>
        if o.i.quiet then (g = true → gO fr.v σ o.i) ∧ aU P r (fr.put o.d (.opt g (jf fr.v σ o.i))) σ K Kp
        else (g = true → mQ P o.i fr.v σ (fun v σ'=>aU P r (fr.put o.d v) σ' K Kp) (fun v σ'=>Kp v fr σ')) ∧
          (g = false → aU P r (fr.put o.d (.opt false .undef)) σ K Kp)
def TA (N:Nat):Option Nat → Option Nat → Bool
  | some d,some d'=>d == d' && decide (d < N)
  | none,none=>true
  | _,_=>false
def we (ops:Array Oper):Option (Nat × Bool) → Option (Nat × Bool) → Bool
  | none,none=>true
  | some (t,w),some (j,w')=>w == w' && decide ((ops[j]?).bind (·.dst) = some t)
  | _,_=>false
def dE (P:Program) (N:Nat) (all:Array Oper):List aJ → List Oper → Bool
  | [],[]=>true
  | a :: r,o :: t=>TA N a.d o.dst && we all a.g o.guard && a8 P a.i o.op && dE P N all r t
  | _,_=>false
section
variable {P:Program} {s:St} {A:World} {N:Nat} {fr:Fr} {a:Act}
theorem th {v:ab} {c:Value} (h:Rv s v c) (hg:v.cond = true):Rv s v.strip c:=by
  cases v with
  | opt g v=>
    simp only [ab.cond] at hg
    subst hg
    cases h with
    | optT _ _ h=>exact h
  | _=>exact h
theorem cW.opr (hf:cW s N fr a) {x:aI} {y:Operand} (h:aL x y = true) (hg:opg fr.v x = true):Rv s (opv fr.v x) (a.eval y):=by
  cases x with
  | t n=>
    cases y <;> simp [aL] at h
    subst h
    exact th (hf.v n) hg
  | c v=>cases y <;> simp [aL] at h; exact eE h
  | f n=>cases y <;> simp [aL] at h; subst h; exact .func _ [] [] #[] #[] rfl rfl (fun j h1 _=>by simp at h1) (fun j h1 _=>by simp at h1)
def opn (e:Env) (x:aI):ab:=if opg e x = true then opv e x else .undef
theorem jV {e:Env}:∀ {l:List aI},cS e l → ∀ x ∈ l,opv e x = opn e x
  | a :: l,h,x,hx=>by
    rcases List.mem_cons.1 hx with rfl | h'
    · simp [opn,h.1]
    · exact jV h.2 x h'
theorem cW.z6 (hf:cW s N fr a):fm s (opn fr.v) a.eval:=by
  intro x y h
  unfold opn
  split
  · rename_i hg; exact hf.opr h hg
  · exact .undef _
theorem rh (e:Env) (d:Nat) (v:ab) (t:Nat):Env.get ((d,v) :: e) t = if d = t then v else e.get t:=rfl
theorem cW.put (hf:cW s N fr a) {d d':Option Nat} (hd:TA N d d' = true) {v:ab} {c:Value} (hv:Rv s v c):cW s N (fr.put d v) (a.put d' c):=by
  cases d with
  | none=>
    cases d' with
    | none=>exact ⟨hf.size,hf.v,hf.ds⟩
    | some _=>simp [TA] at hd
  | some n=>
    cases d' with
    | none=>simp [TA] at hd
    | some m=>
      simp only [TA,Bool.and_eq_true,beq_iff_eq,decide_eq_true_eq] at hd
      obtain ⟨rfl,hlt⟩:=hd
      have hs:=hf.size
      refine ⟨by simpa [Act.put] using hf.size,fun t=>?_,hf.ds⟩
      simp only [Fr.put,Env.put,rh,Act.put]
      by_cases e:n = t
      · subst e
        rw [if_pos rfl]
        have h2:n < a.tmps.size:=by omega
        simpa [Array.getD_eq_getD_getElem?,h2] using hv
      · rw [if_neg e]
        have:=hf.v t
        simpa [Array.getD_eq_getD_getElem?,Array.getElem?_setIfInBounds_ne e] using this
theorem iI {i:AI} {o:Op} (h:a8 P i o = true):∀ c,o ≠ .defer c:=by
  intro c hc
  subst hc
  cases i <;> simp [a8] at h
theorem ko (hf:cW s N fr a) {ops:Array Oper} {o:Oper} {gd:Nat × Bool} (hg:we ops (some gd) o.guard = true) {g:Bool} (hc:fz fr.v gd = some g):Region.wanted o (yielded ops a.tmps) = g:=by
  obtain ⟨t,w⟩:=gd
  cases hgu:o.guard with
  | none=>rw [hgu] at hg; simp [we] at hg
  | some jw=>
    obtain ⟨j,w'⟩:=jw
    rw [hgu] at hg
    simp only [we,Bool.and_eq_true,beq_iff_eq,decide_eq_true_eq] at hg
    obtain ⟨rfl,hd⟩:=hg
    simp only [Region.wanted,hgu,yielded,hd,Option.bind_some]
    have hv:=hf.v t
    simp only [fz] at hc
    have key:∀ b,a.tmps.getD t Go.undef = .bool b → a.tmps[t]? = some (.bool b):=by
      intro b hb
      rw [Array.getD_eq_getD_getElem?] at hb
      cases h:a.tmps[t]? with
      | none=>rw [h] at hb; simp [Go.undef] at hb
      | some x=>rw [h] at hb; simp at hb; rw [hb]
    have key2:a.tmps.getD t Go.undef = Go.undef → a.tmps[t]? = none ∨ a.tmps[t]? = some Go.undef:=by
      intro hb
      rw [Array.getD_eq_getD_getElem?] at hb
      cases h:a.tmps[t]? with
      | none=>exact .inl rfl
      | some x=>rw [h] at hb; simp at hb; subst hb; exact .inr rfl
    generalize hx:fr.v.get t = x at *
    generalize a.tmps.getD t Go.undef = c at *
    cases x with
    | bool b=>
      simp only [Option.some.injEq] at hc
      cases hv
      rw [key b rfl]
      subst hc
      cases b <;> cases w <;> rfl
    | opt q v=>
      cases v with
      | bool b=>
        simp only [Option.some.injEq] at hc
        subst hc
        cases hv with
        | optT _ _ h=>
          cases h
          rw [key b rfl]
          cases b <;> cases w <;> rfl
        | optF=>rcases key2 rfl with h2 | h2 <;> rw [h2] <;> rfl
      | _=>simp at hc
    | _=>simp at hc
theorem oK {n:Nat} {ρ ρ₂:aI → ab}:∀ {ps:List (Nat × Nat × aI)},(∀ x ∈ ps.map (·.2.2),ρ x = ρ₂ x) → (fh n ρ ps ↔ fh n ρ₂ ps)
  | [],_=>Iff.rfl
  | (o,sz,x) :: ps,h=>by
    simp only [fh,h x (by simp)]
    rw [oK (fun y hy=>h y (by simp at hy ⊢; exact .inr hy))]
theorem gu {sz n:Nat} {ρ ρ₂:aI → ab}:∀ {ps:List (Nat × aI)},(∀ x ∈ ps.map (·.2),ρ x = ρ₂ x) → (iS sz n ρ ps ↔ iS sz n ρ₂ ps)
  | [],_=>Iff.rfl
  | (i,x) :: ps,h=>by
    simp only [iS,h x (by simp)]
    rw [gu (fun y hy=>h y (by simp at hy ⊢; exact .inr hy))]
theorem iJ {ρ ρ₂:aI → ab}:∀ {ps:List (Nat × aI)} {z:List ab},(∀ x ∈ ps.map (·.2),ρ x = ρ₂ x) → iA ρ z ps = iA ρ₂ z ps
  | [],_,_=>rfl
  | (i,x) :: ps,z,h=>by
    simp only [iA,h x (by simp)]
    exact iJ (fun y hy=>h y (by simp at hy ⊢; exact .inr hy))
theorem fk {ρ ρ₂:aI → ab} {l:List aI} (h:∀ x ∈ l,ρ x = ρ₂ x):l.map ρ = l.map ρ₂:=List.map_congr_left h
theorem l4 {ρ ρ₂:aI → ab} {l:List aI} {o:Option aI} (hs:∀ y ∈ o.toList,y ∈ l) (h:∀ x ∈ l,ρ x = ρ₂ x):(∀ d:Int,aO ρ d o = aO ρ₂ d o) ∧ (df ρ o ↔ df ρ₂ o):=by
  cases o with
  | none=>exact ⟨fun _=>rfl,Iff.rfl⟩
  | some y=>have:=h y (hs y (by simp)); simp [aO,df,this]
theorem AI.congr {ρ ρ₂:aI → ab} {i:AI} {σ:af} (h:∀ x ∈ i.opers,ρ x = ρ₂ x):i.val ρ σ = i.val ρ₂ σ ∧ (i.side ρ σ ↔ i.side ρ₂ σ):=by
  cases i with
  | build z ps=>
    refine ⟨?_,oK h⟩
    simp only [AI.val]
    congr 2
    exact List.map_congr_left fun p hp=>by rw [h p.2.2 (by simp only [AI.opers,List.mem_map]; exact ⟨p,hp,rfl⟩)]
  | lit m sz n ps=>
    refine ⟨by simp only [AI.val,iJ (ps:=ps) h], ?_⟩
    simp only [AI.side,gu (ps:=ps) h]
  | mkfunc fn a b=>
    simp only [AI.val,AI.side,and_true]
    rw [fk (l:=a) (fun x hx=>h x (by simp [AI.opers,hx])),fk (l:=b) (fun x hx=>h x (by simp [AI.opers,hx]))]
  | subq sz x lo hi=>
    have b1:=l4 (o:=lo) (l:=(AI.subq sz x lo hi).opers) (fun y hy=>by simp only [AI.opers,List.mem_cons,List.mem_append]; exact .inr (.inl hy)) h
    have b2:=l4 (o:=hi) (l:=(AI.subq sz x lo hi).opers) (fun y hy=>by simp only [AI.opers,List.mem_cons,List.mem_append]; exact .inr (.inr hy)) h
    have hx:=h x (by simp [AI.opers])
    simp only [AI.val,AI.side,hx,b1.1,b2.1,b1.2,b2.2,iff_self,and_self]
  | subStr x lo hi=>
    have b1:=l4 (o:=lo) (l:=(AI.subStr x lo hi).opers) (fun y hy=>by simp only [AI.opers,List.mem_cons,List.mem_append]; exact .inr (.inl hy)) h
    have b2:=l4 (o:=hi) (l:=(AI.subStr x lo hi).opers) (fun y hy=>by simp only [AI.opers,List.mem_cons,List.mem_append]; exact .inr (.inr hy)) h
    have hx:=h x (by simp [AI.opers])
    simp only [AI.val,AI.side,hx,b1.1,b2.1,b1.2,b2.2,iff_self,and_self]
  | mx l=>simp only [AI.val,AI.side,fk (l:=l) h,iff_self,and_self]
  | mn l=>simp only [AI.val,AI.side,fk (l:=l) h,iff_self,and_self]
  | _=>first
    | exact ⟨rfl,Iff.rfl⟩
    | (simp only [AI.opers,List.mem_singleton,forall_eq] at h; simp only [AI.val,AI.side,h,iff_self,and_self]; done)
    | (simp only [AI.opers,List.mem_cons,List.not_mem_nil,or_false,forall_eq_or_imp,forall_eq] at h; simp only [AI.val,AI.side,h,iff_self,and_self]; done)
theorem sP {ρ ρ₂:aI → ab} {i:AI} {σ:af} {K Kp:ab → af → Prop} (h:∀ x ∈ i.opers,ρ x = ρ₂ x) (hw:eH P i ρ σ K Kp):eH P i ρ₂ σ K Kp:=by
  have hc:=AI.congr (σ:=σ) h
  cases i with
  | lit m sz n ps=>simp only [eH,iJ (ps:=ps) h,gu (ps:=ps) h] at hw ⊢; exact hw
  | call f dn l=>
    simp only [eH] at hw ⊢
    rw [h f (by simp [AI.opers]),fk (l:=l) (fun x hx=>h x (by simp [AI.opers,hx]))] at hw
    exact hw
  | box n x=>simp only [eH,h x (by simp [AI.opers])] at hw ⊢; exact hw
  | pbox n x=>simp only [eH,h x (by simp [AI.opers])] at hw ⊢; exact hw
  | loadd n x=>simp only [eH,h x (by simp [AI.opers])] at hw ⊢; exact hw
  | mvd x=>simp only [eH,h x (by simp [AI.opers])] at hw ⊢; exact hw
  | store sz x v=>simp only [eH,h x (by simp [AI.opers]),h v (by simp [AI.opers])] at hw ⊢; exact hw
  | panic x=>simp only [eH,h x (by simp [AI.opers])] at hw ⊢; exact hw
  | alloc z=>exact hw
  | nilS m sz=>exact hw
  | buildm z ps=>
    have e:(ps.map fun p=>(p.1,(ρ p.2.2).cells)) = ps.map fun p=>(p.1,(ρ₂ p.2.2).cells):=List.map_congr_left fun p hp=>by rw [h p.2.2 (by simp only [AI.opers,List.mem_map]; exact ⟨p,hp,rfl⟩)]
    have e2:∀ (n:Nat) (qs:List (Nat × Nat × aI)),(∀ q ∈ qs,ρ q.2.2 = ρ₂ q.2.2) → fh n ρ qs → fh n ρ₂ qs:=by
      intro n qs
      induction qs with
      | nil=>intro _ _; trivial
      | cons q r ih=>
        obtain ⟨a,b,c⟩:=q
        intro hq hf
        have h0:=hq (a,b,c) (by simp)
        simp only at h0
        simp only [fh] at hf ⊢
        rw [← h0]
        exact ⟨hf.1,hf.2.1,ih (fun q hq'=>hq q (by simp [hq'])) hf.2.2⟩
    simp only [eH] at hw ⊢
    rw [← e]
    exact ⟨e2 _ _ (fun q hq=>h q.2.2 (by simp only [AI.opers,List.mem_map]; exact ⟨q,hq,rfl⟩)) hw.1,hw.2⟩
  | storem sz x=>simp only [eH,h x (by simp [AI.opers])] at hw ⊢; exact hw
  | append sz bytes x y=>simp only [eH,h x (by simp [AI.opers]),h y (by simp [AI.opers])] at hw ⊢; exact hw
  | copyB sz x y=>simp only [eH,h x (by simp [AI.opers]),h y (by simp [AI.opers])] at hw ⊢; exact hw
  | mksl m sz bytes z n c=>simp only [eH,h n (by simp [AI.opers]),h c (by simp [AI.opers])] at hw ⊢; exact hw
  | freeze sz x=>simp only [eH,h x (by simp [AI.opers])] at hw ⊢; exact hw
  | mnew=>exact hw
  | subO sz x lo=>simp only [eH,h x (by simp [AI.opers]),h lo (by simp [AI.opers])] at hw ⊢; exact hw
  | isnil neg x=>simp only [eH,h x (by simp [AI.opers])] at hw ⊢; exact hw
  | snil neg x=>simp only [eH,h x (by simp [AI.opers])] at hw ⊢; exact hw
  | gix g x=>simp only [eH,h x (by simp [AI.opers])] at hw ⊢; exact hw
  | mget ok lk z x i=>simp only [eH,h x (by simp [AI.opers]),h i (by simp [AI.opers])] at hw ⊢; exact hw
  | j5 lk x k v=>simp only [eH,h x (by simp [AI.opers]),h k (by simp [AI.opers]),h v (by simp [AI.opers])] at hw ⊢; exact hw
  | range x=>simp only [eH,h x (by simp [AI.opers])] at hw ⊢; exact hw
  | next x=>simp only [eH,h x (by simp [AI.opers])] at hw ⊢; exact hw
  | clear sz z x=>simp only [eH,h x (by simp [AI.opers])] at hw ⊢; exact hw
  | sub m sz x lo hi_ mx=>
    have hb:∀ (d:Int) (o:Option aI),(∀ y ∈ o.toList,ρ y = ρ₂ y) → aO ρ d o = aO ρ₂ d o ∧ (df ρ o ↔ df ρ₂ o):=fun d o ho=>by
      cases o with
      | none=>exact ⟨rfl,Iff.rfl⟩
      | some y=>have:=ho y (by simp); simp [aO,df,this]
    have b1:=fun d=>hb d lo (fun y hy=>h y (by simp only [AI.opers,List.mem_cons,List.mem_append]; exact .inr (.inl (.inl hy))))
    have b2:=fun d=>hb d hi_ (fun y hy=>h y (by simp only [AI.opers,List.mem_cons,List.mem_append]; exact .inr (.inl (.inr hy))))
    have hx:=h x (by simp [AI.opers])
    have b3:=fun d=>hb d mx (fun y hy=>h y (by simp only [AI.opers,List.mem_cons,List.mem_append]; exact .inr (.inr hy)))
    have b4:(mx.map fun x=>bI (ρ x)) = mx.map fun x=>bI (ρ₂ x):=by
      cases mx with
      | none=>rfl
      | some y=>have:=h y (by simp [AI.opers]); simp [this]
    simp only [eH,hx,(b1 0).1,b4] at hw ⊢
    refine ⟨(b1 0).2.1 hw.1,(b2 0).2.1 hw.2.1,(b3 0).2.1 hw.2.2.1, ?_⟩
    have e:(fun n=>aO ρ n hi_) = fun n=>aO ρ₂ n hi_:=funext fun n=>(b2 n).1
    rw [← e]; exact hw.2.2.2
  | _=>exact ⟨hw.1,hc.2.1 hw.2.1,hc.1 ▸ hw.2.2⟩
theorem iY (hi:Inv A s) (hf:cW s N fr a) {i:AI} {o:Oper} (hc:a8 P i o.op = true) (hq:i.quiet = true) (hs:gO fr.v s.h i) :
    ∃ c,(execOp a.eval o).run P s.w = .ok (.value c) s.w ∧ Rv s (jf fr.v s.h i) c:=by
  by_cases hp:∃ c x y,i = .pick c x y
  · obtain ⟨c,x,y,rfl⟩:=hp
    obtain ⟨dst,op,type,pos,after,guard⟩:=o
    cases op <;> simp only [a8] at hc <;> first | (cases hc; done) | skip
    rename_i c' x' y'
    obtain ⟨h1,h2,h3⟩:=Ec hc
    obtain ⟨q1,q2,q3,q4,_⟩:=hs
    have hcv:=hf.opr h1 q1
    simp only [jf]
    have hb:∃ b,opv fr.v c = .bool b ∧ a.eval c' = .bool b:=by
      generalize opv fr.v c = u at *
      generalize a.eval c' = d at *
      cases hcv <;> first | (exact q2.elim) | exact ⟨_,rfl,rfl⟩
    obtain ⟨b,e1,e2⟩:=hb
    rw [e1] at q3 q4 ⊢
    simp only [execOp,e2]
    cases b
    · have hy:=hf.opr h3 (q4 rfl)
      refine ⟨a.eval y',by simp [asBool], ?_⟩
      simp only [uS,Aj]
      split
      · rename_i p q ex ey; rw [ey] at hy; simpa using hy
      · simpa using hy
    · have hx:=hf.opr h2 (q3 rfl)
      refine ⟨a.eval x',by simp [asBool], ?_⟩
      simp only [uS,Aj]
      split
      · rename_i p q ex ey; rw [ex] at hx; simpa using hx
      · simpa using hx
  · have hval:jf fr.v s.h i = i.val (opv fr.v) s.h:=by cases i <;> first | rfl | exact absurd ⟨_,_,_,rfl⟩ hp
    have hsd:cS fr.v i.opers ∧ i.side (opv fr.v) s.h:=by cases i <;> first | exact hs | exact absurd ⟨_,_,_,rfl⟩ hp
    have hpl:i.plain = true:=by cases i <;> first | exact hq | (simp [AI.quiet] at hq; done) | exact absurd ⟨_,_,_,rfl⟩ hp
    have hcg:=AI.congr (σ:=s.h) (jV hsd.1)
    rw [hval,hcg.1]
    exact AI.uC hi hc hpl (fun m sz n ps e=>by subst e; simp [AI.quiet] at hq) hf.z6 (hcg.2.1 hsd.2)
theorem fI (hi:Inv A s) (hf:cW s N fr a) {i:AI} {o:Oper} (hc:a8 P i o.op = true) {K Kp:ab → af → Prop} (h:mQ P i fr.v s.h K Kp):aA P A s K Kp ((execOp a.eval o).run P s.w):=by
  unfold mQ at h
  split at h
  · rename_i hq
    obtain ⟨c,e1,e2⟩:=iY hi hf hc hq h.1
    exact aA.value e1 rfl hi (.refl s) e2 h.2
  · exact yG (fun _=>rfl) (fun _=>rfl) hi hc hf.z6 (sP (jV h.1) h.2)
theorem pa {o:Oper} {Q:Exit → Act → World → Prop} {next:Act → World → Prop} {K Kp:ab → af → Prop} {r:Result Next} {ro:Option Nat} (h:aA P A s K Kp r)
    (hnext:∀ v c s',Inv A s' → bB s s' → Rv s' v c → K v s'.h → next (a.put o.dst c) s'.w)
    (hpan:∀ v c s',Inv A s' → bB s s' → Rv s' v c → Kp v s'.h → Q (.panic [{ v:=c,recovered:=false }]) a s'.w):o.uponIn (Fro ro) 0 P a next Q r:=by
  have hcp:∀ (e:Ending) (w'':World),bO A s (fun r σ'=>match r with | .ret v=>K v σ' | .pan v=>Kp v σ') e w'' →
      (match e,w'' with
        | .returned v,w''=>next (a.put o.dst v) w''
        | .panicked chain,w''=>Q (.panic chain) a w''
        | .outgrown,_=>LetsOut Q):=by
    rintro e w'' ⟨r,s',rfl,h1,h2,h3,h4⟩
    cases r <;> cases e <;> first | (exact h3.elim) | skip
    · exact hnext _ _ s' h1 h2 h3 h4
    · obtain ⟨c,rfl,h5⟩:=h3; exact hpan _ _ s' h1 h2 h5 h4
  cases r with
  | ok x w'=>
    cases x <;> simp only [aA] at h <;> first | (exact h.elim) | skip
    · obtain ⟨v,s',rfl,h1,h2,h3,h4⟩:=h; exact hnext _ _ s' h1 h2 h3 h4
    · obtain ⟨v,s',rfl,h1,h2,h3,h4⟩:=h; exact hnext _ _ s' h1 h2 h3 h4
    · exact ⟨fun hd=>by simp [Fro,Fence.wide] at hd,callsIn_wide.2 (h.mono hcp)⟩
    · exact ⟨fun hd=>by simp [Fro,Fence.wide] at hd,(h ro).mono hcp⟩
  | halt x w'=>
    cases x <;> simp only [aA] at h <;> first | (exact h.elim) | skip
    obtain ⟨v,s',rfl,h1,h2,h3,h4⟩:=h; exact hpan _ _ s' h1 h2 h3 h4
theorem uA {ops:Array Oper} {ro:Option Nat} {Q:AEx → Fr → af → Prop} {s0:St}:∀ (aops:List aJ) (k:Nat) (s:St) (fr:Fr) (a:Act),dE P N ops aops (ops.toList.drop k) = true → Inv A s → bB s0 s → cW s N fr a →
    aU P aops fr s.h (fun fr' σ'=>Q .normal fr' σ') (fun v fr' σ'=>Q (.panic v) fr' σ') →
    wpOpsIn (Fro ro) 0 P ops (iv A N s0 Q) (List.range' k (ops.size - k)) a s.w
  | [],k,s,fr,a,hc,hi,hg,hf,h=>by
    have hk:ops.size - k = 0:=by
      cases hd:ops.toList.drop k with
      | nil=>have:=congrArg List.length hd; simpa using this
      | cons x l=>rw [hd] at hc; simp [dE] at hc
    rw [hk]
    simp only [List.range'_zero,wpOpsIn]
    exact ⟨.normal,fr,s,rfl,hi,hg,hf,trivial,h⟩
  | ao :: aops,k,s,fr,a,hc,hi,hg,hf,h=>by
    cases hd:ops.toList.drop k with
    | nil=>rw [hd] at hc; simp [dE] at hc
    | cons o l=>
      have hlt:k < ops.size:=by
        have:=congrArg List.length hd; simp at this; omega
      have hdk:=List.drop_eq_getElem_cons (show k < ops.toList.length by simpa using hlt)
      rw [hd] at hdk
      obtain ⟨ho,hl⟩:=List.cons.inj hdk
      have hok:ops[k]? = some o:=by rw [Array.getElem?_eq_getElem hlt,ho]; simp
      rw [hd] at hc
      simp only [dE,Bool.and_eq_true] at hc
      obtain ⟨⟨⟨c1,c2⟩,c3⟩,c4⟩:=hc
      rw [hl] at c4
      have hsz:ops.size - k = (ops.size - (k + 1)) + 1:=by omega
      rw [hsz,List.range'_succ]
      simp only [wpOpsIn,hok]
      have hne:=iI c3
      -- what follows
      have hcont:∀ v c s',Inv A s' → bB s s' → Rv s' v c → aU P aops (fr.put ao.d v) s'.h (fun fr' σ'=>Q .normal fr' σ') (fun v fr' σ'=>Q (.panic v) fr' σ') →
          wpOpsIn (Fro ro) 0 P ops (iv A N s0 Q) (List.range' (k + 1) (ops.size - (k + 1))) (a.put o.dst c) s'.w:=fun v c s' h1 h2 h3 h4=>
        uA aops (k + 1) s' _ _ c4 h1 (hg.trans h2) ((hf.keeps h2.keeps).put c1 h3) h4
      have hskip:aU P aops (fr.put ao.d (.opt false .undef)) s.h (fun fr' σ'=>Q .normal fr' σ') (fun v fr' σ'=>Q (.panic v) fr' σ') →
          wpOpsIn (Fro ro) 0 P ops (iv A N s0 Q) (List.range' (k + 1) (ops.size - (k + 1))) (a.put o.dst Go.undef) s.w:=fun h4=>
        hcont _ _ s hi (.refl s) (.optF _) h4
      have hrun:mQ P ao.i fr.v s.h (fun v σ'=>aU P aops (fr.put ao.d v) σ' (fun fr' σ'=>Q .normal fr' σ') (fun v fr' σ'=>Q (.panic v) fr' σ')) (fun v σ'=>Q (.panic v) fr σ') →
          o.wpIn (Fro ro) 0 P a s.w (wpOpsIn (Fro ro) 0 P ops (iv A N s0 Q) (List.range' (k + 1) (ops.size - (k + 1)))) (iv A N s0 Q):=by
        intro h'
        refine ⟨fun _ _=>trivial, ?_⟩
        rw [Oper.semAt_eq _ _ _ hne]
        exact pa (fI hi hf c3 h') hcont (fun v c s' h1 h2 h3 h4=>⟨.panic v,fr,s',rfl,h1,hg.trans h2,hf.keeps h2.keeps,⟨c,rfl,h3⟩,h4⟩)
      simp only [aU] at h
      cases hag:ao.g with
      | none=>
        rw [hag] at h c2
        have hgn:o.guard = none:=by cases hgu:o.guard with
          | none=>rfl
          | some x=>rw [hgu] at c2; simp [we] at c2
        rw [if_pos (by simp [Region.wanted,hgn])]
        exact hrun h
      | some gd=>
        rw [hag] at h c2
        simp only at h
        cases hgc:fz fr.v gd with
        | none=>rw [hgc] at h; exact h.elim
        | some g=>
          rw [hgc] at h
          rw [ko hf c2 hgc]
          simp only at h
          cases g with
          | true=>
            rw [if_pos rfl]
            split at h
            · rename_i hq
              obtain ⟨cc,e1,e2⟩:=iY hi hf c3 hq (h.1 rfl)
              refine ⟨fun _ _=>trivial, ?_⟩
              rw [Oper.semAt_eq _ _ _ hne,e1]
              exact hcont _ _ s hi (.refl s) (.optT _ _ e2) h.2
            · exact hrun (h.1 rfl)
          | false=>
            rw [if_neg (by simp)]
            split at h
            · exact ⟨fun _ _=>trivial,hcont _ _ s hi (.refl s) (.optF _) h.2⟩
            · exact ⟨fun _ _=>trivial,hskip (h.2 rfl)⟩
end
open Go.RowKit
mutual
def ab.pure:ab → Bool
  | .undef | .bool _ | .int _ _ | .str _ | .nilptr | .nilfunc | .niliface | .nilmap | .mint _=>true
  | .agg cs=>aM cs
  | .tup cs=>aM cs
  | .slice _ xs=>aM xs
  | .pval v=>v.pure
  | .func _ a b=>aM a && aM b
  | .iface _ v=>v.pure
  | .opt _ v=>v.pure
  | _=>false
def aM:List ab → Bool
  | []=>true
  | v :: r=>v.pure && aM r
end
mutual
def ab.dz:ab → List Nat
  | .agg cs=>ft cs
  | .tup cs=>ft cs
  | .slice _ xs=>ft xs
  | .oslice _ xs b _=>b :: ft xs
  | .sref _ b _ _ _=>[b]
  | .pval v=>v.dz
  | .ptr b _=>[b]
  | .eptr _ b _ _ _=>[b]
  | .func _ a b=>ft a ++ ft b
  | .iface _ v=>v.dz
  | .map b=>[b]
  | .iter b=>[b]
  | .yieldf b=>[b]
  | .opt g v=>if g then v.dz else []
  | _=>[]
def ft:List ab → List Nat
  | []=>[]
  | v :: r=>v.dz ++ ft r
end
mutual
theorem lO:∀ {v:ab},v.pure = true → v.dz = []
  | .undef,_ | .bool _,_ | .int _ _,_ | .str _,_ | .nilptr,_ | .nilfunc,_ | .niliface,_ | .nilmap,_ | .mint _,_=>rfl
  | .agg cs,h=>eC (l:=cs) h
  | .tup cs,h=>eC (l:=cs) h
  | .slice _ xs,h=>eC (l:=xs) h
  | .pval v,h=>lO (v:=v) h
  | .func _ a b,h=>by
    simp only [ab.pure,Bool.and_eq_true] at h
    simp only [ab.dz,eC h.1,eC h.2,List.append_nil]
  | .iface _ v,h=>lO (v:=v) h
  | .opt g v,h=>by
    simp only [ab.dz,lO (v:=v) h]; split <;> rfl
  | .oslice _ _ _ _,h | .sref _ _ _ _ _,h | .ptr _ _,h | .eptr _ _ _ _ _,h | .map _,h | .iter _,h | .yieldf _,h=>by simp [ab.pure] at h
theorem eC:∀ {l:List ab},aM l = true → ft l = []
  | [],_=>rfl
  | v :: r,h=>by
    simp only [aM,Bool.and_eq_true] at h
    simp only [ft,lO h.1,eC h.2,List.append_nil]
end
theorem fC:∀ {l:List ab} {b:Nat},b ∈ ft l ↔ ∃ j, ∃ h:j < l.length,b ∈ l[j].dz
  | [],b=>by simp [ft]
  | v :: r,b=>by
    simp only [ft,List.mem_append,fC (l:=r)]
    constructor
    · rintro (h | ⟨j,h1,h2⟩)
      · exact ⟨0,by simp,h⟩
      · exact ⟨j + 1,by simpa using h1,by simpa using h2⟩
    · rintro ⟨j,h1,h2⟩
      cases j with
      | zero=>exact .inl h2
      | succ j=>exact .inr ⟨j,by simpa using h1,by simpa using h2⟩
theorem Rv.dz {s:St} {v:ab} {c:Value} (h:Rv s v c):∀ b ∈ v.dz, ∃ k u,s.lam b k = some u:=by
  induction h with
  | agg cs vs hl _ ih=>intro b hb; obtain ⟨j,h1,h2⟩:=fC.1 hb; exact ih j h1 (by omega) b h2
  | tup cs vs hl _ ih=>intro b hb; obtain ⟨j,h1,h2⟩:=fC.1 hb; exact ih j h1 (by omega) b h2
  | slice sz xs blk off len cap us hl hn hc _ hm ih=>intro b hb; obtain ⟨j,h1,h2⟩:=fC.1 hb; exact ih j h1 (by omega) b h2
  | oslice sz xs b k c hs hl ih=>
    intro b' hb
    rcases List.mem_cons.1 hb with rfl | hb
    · exact ⟨k,c,hl⟩
    · exact ih b' hb
  | sref sz b off len n blk cap hl h1 h2=>intro b' hb; simp [ab.dz] at hb; subst hb; exact ⟨_,_,hl⟩
  | srefE sz b off n a v hl h0 h1=>intro b' hb; simp [ab.dz] at hb; subst hb; exact ⟨_,_,hl⟩
  | sref0 sz b a hl=>intro b' hb; simp [ab.dz] at hb; subst hb; exact ⟨_,_,hl⟩
  | pval v u blk off _ hm ih=>exact ih
  | ptr b off blk hl=>intro b' hb; simp [ab.dz] at hb; subst hb; exact ⟨_,_,hl⟩
  | eptr sz b i f n blk cap hl=>intro b' hb; simp [ab.dz] at hb; subst hb; exact ⟨_,_,hl⟩
  | func fn first caps fi ca hf hc _ _ ih1 ih2=>
    intro b hb
    rcases List.mem_append.1 hb with h | h
    · obtain ⟨j,h1,h2⟩:=fC.1 h; exact ih1 j h1 (by omega) b h2
    · obtain ⟨j,h1,h2⟩:=fC.1 h; exact ih2 j h1 (by omega) b h2
  | iface t v u _ ih=>exact ih
  | map b blk hl=>intro b' hb; simp [ab.dz] at hb; subst hb; exact ⟨_,_,hl⟩
  | optT v c _ ih=>intro b hb; simp [ab.dz] at hb; exact ih b hb
  | optF v=>intro b hb; simp [ab.dz] at hb
  | iter b blk hl=>intro b' hb; simp [ab.dz] at hb; subst hb; exact ⟨_,_,hl⟩
  | yieldf b blk hl=>intro b' hb; simp [ab.dz] at hb; subst hb; exact ⟨_,_,hl⟩
  | _=>intro b hb; simp [ab.dz,ft] at hb
inductive cq where
  | no
  | rd (l:List Nat)
  | al (o:bo)
  | wr (b:Nat) (o:bo)
structure DR where
  v:ab
  e:cq
def cq.run (σ:af):cq → af
  | .al o=>σ ++ [o]
  | .wr b o=>σ.set b o
  | _=>σ
def cq.oR:cq → cq → Bool
  | .wr b _, .wr c _=>b == c
  | .wr b _, .rd l=>l.contains b
  | .rd l, .wr c _=>l.contains c
  | _,_=>false
def l0 (bef:List (List Nat)) (j:Nat) (e:cq):List cq → Nat → Bool
  | [],_=>true
  | f :: r,i=>(!e.oR f || (bef.getD j []).contains i) && l0 bef j e r (i + 1)
def ig (bef:List (List Nat)):List cq → List cq → Nat → Bool
  | _,[],_=>true
  | before,e :: r,j=>l0 bef j e before 0 && ig bef (before ++ [e]) r (j + 1)
def oY:ab → cq
  | .ptr b _=>.rd [b]
  | .eptr _ b _ _ _=>.rd [b]
  | .map b=>.rd [b]
  | _=>.no
def rdL (l:List ab):cq:=if aM l = true then .no else .rd (ft l)
def gU (e:Env):AI → cq
  | .load _ x=>oY (opv e x)
  | .lookup _ _ x _=>oY (opv e x)
  | _=>.no
def qU (σ:af) (v:ab):ab → Option cq
  | .ptr b off=>match σ.get b with
    | .box cs=>some (.wr b (.box (cd cs off v.cells)))
    | _=>none
  | .eptr _ b i f _=>match σ.get b with
    | .arr esz xs=>some (.wr b (.arr esz (xs.set i (lJ (xs.getD i .undef) f v.cells))))
    | _=>none
  | _=>none
def SZ:List ab → Bool
  | []=>true
  | .mint _ :: _=>false
  | _ :: r=>SZ r
def pL:ab → Option (List ab)
  | .slice _ xs=>some xs
  | .oslice _ xs _ _=>some xs
  | _=>none
theorem vF {v:ab} {ys:List ab} (h:pL v = some ys) (σ:af) (sz:Nat):v.elems σ = ys ∧ (v.fT σ sz ↔ v.fT [] sz):=by
  cases v <;> simp [pL] at h <;> subst h <;> exact ⟨rfl,Iff.rfl⟩
def wz (sz bytes:Nat) (σ:af) (x y:ab) (K:ab → cq → Prop):Prop:=
  match pL y with
  | none=>False
  | some ys=>y.fT [] sz ∧ Fits sz ys ∧ match x with
    | .oslice sz' xs b k=>sz' = sz ∧ (xs.length + ys.length) * bytes ≤ 140737488355328 ∧ match σ.get b with
      | .spare sz'' k'=>sz'' = sz ∧ k' = k ∧ K (.oslice sz (xs ++ ys) b (k + 1)) (.wr b (.spare sz (k + 1)))
      | _=>False
    | .sref sz' b off len n=>sz' = sz ∧ match σ.get b with
      | .arr sz'' xs=>sz'' = sz ∧ xs.length = n ∧ off = 0 ∧ len = n ∧ (n + ys.length) * bytes ≤ 140737488355328 ∧ K (.sref sz b 0 (n + ys.length) (n + ys.length)) (.wr b (.arr sz (xs ++ ys)))
      | _=>False
    | _=>False
theorem nF {sz bytes:Nat} {σ:af} {x y:ab} {K:ab → cq → Prop} (h:wz sz bytes σ x y K):∃ ys b o v,pL y = some ys ∧ y.fT [] sz ∧ Fits sz ys ∧ b ∈ x.dz ∧ σ.get b ≠ .dead ∧ K v (.wr b o) ∧
    (∀ H:af,H.get b = σ.get b → ∀ K':ab → af → Prop,K' v (H.set b o) → lL sz bytes H x ys K') ∧ (∀ K':ab → cq → Prop,K' v (.wr b o) → wz sz bytes σ x y K'):=by
  unfold wz at h
  cases hf:pL y with
  | none=>rw [hf] at h; exact h.elim
  | some ys=>
    rw [hf] at h
    obtain ⟨h1,h2,h3⟩:=h
    cases x with
    | oslice sz' xs b k=>
      obtain ⟨rfl,h4,h5⟩:=h3
      cases hg:σ.get b with
      | spare sz'' k'=>
        rw [hg] at h5
        obtain ⟨rfl,rfl,h6⟩:=h5
        refine ⟨ys,b,_,_,rfl,h1,h2,by simp [ab.dz],by rw [hg]; simp,h6,fun H hH K' hk=>?_,fun K' hk=>?_⟩
        · simp only [lL,hH,hg]; exact ⟨trivial,h4,trivial,trivial,hk⟩
        · simp only [wz,hf,hg]; exact ⟨h1,h2,trivial,h4,trivial,trivial,hk⟩
      | _=>rw [hg] at h5; exact h5.elim
    | sref sz' b off len n=>
      obtain ⟨rfl,h5⟩:=h3
      cases hg:σ.get b with
      | arr sz'' xs=>
        rw [hg] at h5
        obtain ⟨rfl,rfl,rfl,rfl,h6,h7⟩:=h5
        refine ⟨ys,b,_,_,rfl,h1,h2,by simp [ab.dz],by rw [hg]; simp,h7,fun H hH K' hk=>?_,fun K' hk=>?_⟩
        · simp only [lL,hH,hg]
          refine ⟨trivial,trivial,trivial, ?_⟩
          split
          · rename_i hle
            have hy:ys = []:=List.eq_nil_of_length_eq_zero (by omega)
            subst hy
            simpa using hk
          · exact ⟨trivial,trivial,h6,hk⟩
        · simp only [wz,hf,hg]; exact ⟨h1,h2,trivial,trivial,trivial,trivial,trivial,h6,hk⟩
      | _=>rw [hg] at h5; exact h5.elim
    | _=>exact h3.elim
def l8 (g:Option (Nat × Bool)) (c:Bool) (v:ab):ab:=
  match g with
  | none=>v
  | some _=>.opt c v
def ed (g:Option (Nat × Bool)) (e:Env):Option Bool:=
  match g with
  | none=>some true
  | some gd=>fz e gd
def I1 (bytes:Nat) (n c:ab):Prop:=isInt n ∧ isInt c ∧ 0 ≤ bI n ∧ bI n ≤ bI c ∧ bI c * bytes ≤ 140737488355328 ∧ bI c ≤ 140737488355328
def gk (P : Program) : List aJ → Env → af → List cq → (Env → af → List cq → Prop) → Prop
  | [],e,σ,es,K=>K e σ es
  | o :: r,e,σ,es,K=>
    match ed o.g e with
    | none=>False
    | some c=>match o.i with
      | .call f dn l=>∃ v,(c = true → cS e (f :: l) ∧ ∀ σ',(∀ b ∈ ft (opv e f :: l.map (opv e)),b < σ.length → σ'.get b = σ.get b) → aC P (opv e f) (bC dn (l.map (opv e))) σ' fun q σ''=>q = .ret v ∧ σ'' = σ') ∧
          gk P r (e.put o.d (l8 o.g c v)) σ (rdL (opv e f :: l.map (opv e)) :: es) K
      | .box n x=>o.g = none ∧ cS e [x] ∧ bA (opv e x) n ∧ gk P r (e.put o.d (.ptr σ.length 0)) (σ ++ [.box (opv e x).cells]) (.al (.box (opv e x).cells) :: es) K
      | .alloc z=>o.g = none ∧ SZ z = true ∧ gk P r (e.put o.d (.ptr σ.length 0)) (σ ++ [.box z]) (.al (.box z) :: es) K
      | .callA sz f dn l=>o.g = none ∧ cS e (f :: l) ∧ ∃ xs,(∀ σ',aC P (opv e f) (bC dn (l.map (opv e))) σ' fun q σ''=>q = .ret (.oslice sz xs σ'.length 1) ∧ σ'' = σ' ++ [.spare sz 1]) ∧
          gk P r (e.put o.d (.oslice sz xs σ.length 1)) (σ ++ [.spare sz 1]) (.al (.spare sz 1) :: es) K
      | .mnew=>o.g = none ∧ gk P r (e.put o.d (.map σ.length)) (σ ++ [.amap []]) (.al (.amap []) :: es) K
      | .mksl m sz bytes z n k=>m = 2 ∧ o.g = none ∧ cS e [n,k] ∧ I1 bytes (opv e n) (opv e k) ∧
          gk P r (e.put o.d (.sref sz σ.length 0 (bI (opv e n)).toNat (bI (opv e n)).toNat)) (σ ++ [.arr sz (List.replicate (bI (opv e n)).toNat z)]) (.al (.arr sz (List.replicate (bI (opv e n)).toNat z)) :: es) K
      | .store sz x v=>o.g = none ∧ cS e [x,v] ∧ fR σ sz (opv e v) (opv e x) ∧ match qU σ (opv e v) (opv e x) with
        | some f=>gk P r (e.put o.d .undef) (f.run σ) (f :: es) K
        | none=>False
      | .append sz bytes x y=>o.g = none ∧ cS e [x,y] ∧ wz sz bytes σ (opv e x) (opv e y) fun v f=>gk P r (e.put o.d v) (f.run σ) (f :: es) K
      | .lit m sz n ps=>if m = 0 then (c = true → cS e (ps.map (·.2)) ∧ iS sz n (opv e) ps) ∧ gk P r (e.put o.d (l8 o.g c (.slice sz (iA (opv e) (List.replicate n .undef) ps)))) σ (.no :: es) K
        else if m = 1 then o.g = none ∧ cS e (ps.map (·.2)) ∧ iS sz n (opv e) ps ∧ gk P r (e.put o.d (.oslice sz (iA (opv e) (List.replicate n .undef) ps) σ.length 0)) (σ ++ [.spare sz 0]) (.al (.spare sz 0) :: es) K
        else m = 2 ∧ o.g = none ∧ cS e (ps.map (·.2)) ∧ iS sz n (opv e) ps ∧ gk P r (e.put o.d (.sref sz σ.length 0 n n)) (σ ++ [.arr sz (iA (opv e) (List.replicate n .undef) ps)]) (.al (.arr sz (iA (opv e) (List.replicate n .undef) ps)) :: es) K
      | i=>i.quiet = true ∧ (c = true → gO e σ i) ∧ gk P r (e.put o.d (l8 o.g c (jf e σ i))) σ (gU e i :: es) K
def sX (P:Program) (o:aJ) (e:Env) (σ:af) (r:DR):Prop:=
  ∃ c,ed o.g e = some c ∧
    match o.i with
    | .call f dn l=>r.e = rdL (opv e f :: l.map (opv e)) ∧ ∃ v,r.v = l8 o.g c v ∧
        (c = true → cS e (f :: l) ∧ ∀ σ',(∀ b ∈ ft (opv e f :: l.map (opv e)),b < σ.length → σ'.get b = σ.get b) → aC P (opv e f) (bC dn (l.map (opv e))) σ' fun q σ''=>q = .ret v ∧ σ'' = σ')
    | .box n x=>o.g = none ∧ cS e [x] ∧ bA (opv e x) n ∧ r = ⟨.ptr σ.length 0, .al (.box (opv e x).cells)⟩
    | .alloc z=>o.g = none ∧ SZ z = true ∧ r = ⟨.ptr σ.length 0, .al (.box z)⟩
    | .callA sz f dn l=>o.g = none ∧ cS e (f :: l) ∧ ∃ xs,(∀ σ',aC P (opv e f) (bC dn (l.map (opv e))) σ' fun q σ''=>q = .ret (.oslice sz xs σ'.length 1) ∧ σ'' = σ' ++ [.spare sz 1]) ∧
        r = ⟨.oslice sz xs σ.length 1, .al (.spare sz 1)⟩
    | .mnew=>o.g = none ∧ r = ⟨.map σ.length, .al (.amap [])⟩
    | .mksl m sz bytes z n k=>m = 2 ∧ o.g = none ∧ cS e [n,k] ∧ I1 bytes (opv e n) (opv e k) ∧
        r = ⟨.sref sz σ.length 0 (bI (opv e n)).toNat (bI (opv e n)).toNat, .al (.arr sz (List.replicate (bI (opv e n)).toNat z))⟩
    | .store sz x v=>o.g = none ∧ cS e [x,v] ∧ fR σ sz (opv e v) (opv e x) ∧ r.v = .undef ∧ qU σ (opv e v) (opv e x) = some r.e
    | .append sz bytes x y=>o.g = none ∧ cS e [x,y] ∧ wz sz bytes σ (opv e x) (opv e y) fun v f=>r = ⟨v,f⟩
    | .lit m sz n ps=>if m = 0 then (c = true → cS e (ps.map (·.2)) ∧ iS sz n (opv e) ps) ∧ r = ⟨l8 o.g c (.slice sz (iA (opv e) (List.replicate n .undef) ps)), .no⟩
      else if m = 1 then o.g = none ∧ cS e (ps.map (·.2)) ∧ iS sz n (opv e) ps ∧ r = ⟨.oslice sz (iA (opv e) (List.replicate n .undef) ps) σ.length 0, .al (.spare sz 0)⟩
      else m = 2 ∧ o.g = none ∧ cS e (ps.map (·.2)) ∧ iS sz n (opv e) ps ∧ r = ⟨.sref sz σ.length 0 n n, .al (.arr sz (iA (opv e) (List.replicate n .undef) ps))⟩
    | i=>i.quiet = true ∧ (c = true → gO e σ i) ∧ r = ⟨l8 o.g c (jf e σ i),gU e i⟩
def xI (P:Program):List aJ → Env → af → List DR → Env → af → Prop
  | [],e,σ,[],e',σ'=>e' = e ∧ σ' = σ
  | o :: r,e,σ,q :: t,e',σ'=>sX P o e σ q ∧ xI P r (e.put o.d q.v) (q.e.run σ) t e' σ'
  | _,_,_,_,_,_=>False
theorem uM {e:Env} {i:AI} {σ:af}:(gU e i).run σ = σ:=by
  have h:∀ v,(oY v).run σ = σ:=fun v=>by cases v <;> rfl
  cases i <;> first | rfl | exact h _
theorem EI {l:List ab} {σ:af}:(rdL l).run σ = σ:=by unfold rdL; split <;> rfl
theorem uc {P:Program}:∀ {ops:List aJ} {e:Env} {σ:af} {es:List cq} {K:Env → af → List cq → Prop},gk P ops e σ es K →
    ∃ t e' σ',xI P ops e σ t e' σ' ∧ K e' σ' ((t.map (·.e)).reverse ++ es)
  | [],e,σ,es,K,h=>⟨[],e,σ,⟨rfl,rfl⟩,h⟩
  | o :: r,e,σ,es,K,h=>by
    simp only [gk] at h
    split at h
    · exact h.elim
    · rename_i c hc
      have next:∀ (q:DR),sX P o e σ q → gk P r (e.put o.d q.v) (q.e.run σ) (q.e :: es) K → ∃ t e' σ',xI P (o :: r) e σ t e' σ' ∧ K e' σ' ((t.map (·.e)).reverse ++ es):=by
        intro q h1 h2
        obtain ⟨t,e',σ',g1,g2⟩:=uc h2
        exact ⟨q :: t,e',σ',⟨h1,g1⟩,by simpa using g2⟩
      cases hi:o.i with
      | call f dn l=>
        rw [hi] at h
        obtain ⟨v,h1,h2⟩:=h
        exact next ⟨l8 o.g c v,rdL (opv e f :: l.map (opv e))⟩ ⟨c,hc,by rw [hi]; exact ⟨rfl,v,rfl,h1⟩⟩ (by rw [EI]; exact h2)
      | box n x=>rw [hi] at h; exact next ⟨_,_⟩ ⟨c,hc,by rw [hi]; exact ⟨h.1,h.2.1,h.2.2.1,rfl⟩⟩ h.2.2.2
      | alloc z=>rw [hi] at h; exact next ⟨_,_⟩ ⟨c,hc,by rw [hi]; exact ⟨h.1,h.2.1,rfl⟩⟩ h.2.2
      | callA sz f dn l=>
        rw [hi] at h
        obtain ⟨h1,h2,xs,h3,h4⟩:=h
        exact next ⟨_,_⟩ ⟨c,hc,by rw [hi]; exact ⟨h1,h2,xs,h3,rfl⟩⟩ h4
      | mnew=>rw [hi] at h; exact next ⟨_,_⟩ ⟨c,hc,by rw [hi]; exact ⟨h.1,rfl⟩⟩ h.2
      | mksl m sz bytes z n k=>rw [hi] at h; exact next ⟨_,_⟩ ⟨c,hc,by rw [hi]; exact ⟨h.1,h.2.1,h.2.2.1,h.2.2.2.1,rfl⟩⟩ h.2.2.2.2
      | store sz x v=>
        rw [hi] at h
        obtain ⟨h1,h2,h3,h4⟩:=h
        cases hw:qU σ (opv e v) (opv e x) with
        | none=>rw [hw] at h4; exact h4.elim
        | some f=>rw [hw] at h4; exact next ⟨.undef,f⟩ ⟨c,hc,by rw [hi]; exact ⟨h1,h2,h3,rfl,hw⟩⟩ h4
      | append sz bytes x y=>
        rw [hi] at h
        obtain ⟨h1,h2,h3⟩:=h
        obtain ⟨ys,b,o',v,q1,q2,q3,q4,q5,q6,q7,q8⟩:=nF h3
        exact next ⟨_,_⟩ ⟨c,hc,by rw [hi]; exact ⟨h1,h2,q8 _ rfl⟩⟩ q6
      | lit m sz n ps=>
        rw [hi] at h
        by_cases hm:m = 0
        · simp only [if_pos hm] at h
          exact next ⟨_, .no⟩ ⟨c,hc,by rw [hi]; simp only [if_pos hm]; exact ⟨h.1,rfl⟩⟩ h.2
        · by_cases hm1:m = 1
          · simp only [if_neg hm,if_pos hm1] at h
            exact next ⟨_,_⟩ ⟨c,hc,by rw [hi]; simp only [if_neg hm,if_pos hm1]; exact ⟨h.1,h.2.1,h.2.2.1,rfl⟩⟩ h.2.2.2
          · simp only [if_neg hm,if_neg hm1] at h
            exact next ⟨_,_⟩ ⟨c,hc,by rw [hi]; simp only [if_neg hm,if_neg hm1]; exact ⟨h.1,h.2.1,h.2.2.1,h.2.2.2.1,rfl⟩⟩ h.2.2.2.2
      | load k x=>rw [hi] at h; exact next ⟨_,gU e (.load k x)⟩ ⟨c,hc,by rw [hi]; exact ⟨h.1,h.2.1,rfl⟩⟩ (by rw [uM]; exact h.2.2)
      | lookup ok z x i=>rw [hi] at h; exact next ⟨_,gU e (.lookup ok z x i)⟩ ⟨c,hc,by rw [hi]; exact ⟨h.1,h.2.1,rfl⟩⟩ (by rw [uM]; exact h.2.2)
      | _=>rw [hi] at h; exact next ⟨_, .no⟩ ⟨c,hc,by rw [hi]; exact ⟨h.1,h.2.1,rfl⟩⟩ h.2.2
end Go.AM
