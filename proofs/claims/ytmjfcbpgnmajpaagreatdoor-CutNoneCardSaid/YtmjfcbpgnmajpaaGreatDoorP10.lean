/- A region whose order Go leaves open: static check and theorem. -/
import Derived.Test.YtmjfcbpgnmajpaaGreatDoorP9
namespace Go.AM
open Go.RowKit
def nc (bef:List (List Nat)) (o:Oper) (j:Nat):Bool:=
  o.after.toList.all (fun e=>!Region.binds .any e || decide (e.on < j)) &&
  (bef.getD j []).all fun i=>decide (i < j) && o.after.toList.any fun e=>Region.binds .any e && (e.on == i || (bef.getD e.on []).contains i)
def vf (bef:List (List Nat)):List Oper → Nat → Bool
  | [],_=>true
  | o :: r,j=>nc bef o j && vf bef r (j + 1)
def pK (bef:List (List Nat)) (j:Nat) (rs:List Nat):List aJ → Nat → Bool
  | [],_=>true
  | o :: r,i=>(match o.d with
    | some d=>!rs.contains d || (bef.getD j []).contains i || (bef.getD i []).contains j
    | none=>true) && pK bef j rs r (i + 1)
def xf (bef:List (List Nat)) (all:List aJ):List aJ → Nat → Bool
  | [],_=>true
  | o :: r,j=>pK bef j (db o) all 0 && xf bef all r (j + 1)
def Aa (d:Option Nat):List aJ → Bool
  | []=>false
  | o :: r=>(match d with
    | some _=>o.d == d
    | none=>false) || Aa d r
def sv:List aJ → Bool
  | []=>true
  | o :: r=>!Aa o.d r && sv r
def Iv:AI → Bool
  | .box _ _ | .alloc _ | .mnew | .mksl _ _ _ _ _ _ | .callA _ _ _ _=>true
  | .lit m _ _ _=>m != 0
  | _=>false
def Hz:AI → Bool
  | .callA _ _ _ _=>true
  | _=>false
def Fh:List aJ → Bool
  | []=>true
  | o :: r=>!Iv o.i && Fh r
def x9:List aJ → Bool
  | []=>true
  | o :: r=>(!Hz o.i || Fh r) && x9 r
theorem DG {P:Program} {o:aJ} {e:Env} {σ:af} {q:DR} (h:sX P o e σ q) {ob:bo} (hq:q.e = .al ob):Iv o.i = true:=by
  obtain ⟨c,_,h⟩:=h
  have dq:∀ i ob,gU e i ≠ .al ob:=fun i ob he=>by
    have hr:∀ v,oY v ≠ .al ob:=fun v=>by cases v <;> simp [oY]
    cases i <;> first | (simp [gU] at he; done) | exact hr _ he
  have quiet:q = ⟨l8 o.g c (jf e σ o.i),gU e o.i⟩ → Iv o.i = true:=fun he=>by rw [he] at hq; exact absurd hq (dq _ _)
  cases hi:o.i <;> rw [hi] at h quiet <;> simp only at h <;> first | rfl | (exact quiet h.2.2) | skip
  case call f dn l=>rw [h.1] at hq; unfold rdL at hq; split at hq <;> cases hq
  case append sz bytes x y=>
    obtain ⟨ys,b',o1,v,q1,q2,q3,q4,q5,rfl,_⟩:=nF h.2.2
    cases hq
  case lit m sz n ps=>
    split at h
    · rw [h.2] at hq; cases hq
    · rename_i hm; simp [Iv,hm]
  case store sz x v=>
    have h5:=h.2.2.2.2
    generalize opv e x = ax at h5
    cases ax with
    | ptr b off=>simp only [qU] at h5; cases hg:σ.get b <;> rw [hg] at h5 <;> first | (cases h5; done) | (rw [hq] at h5; cases h5)
    | eptr sz b i f n=>simp only [qU] at h5; cases hg:σ.get b <;> rw [hg] at h5 <;> first | (cases h5; done) | (rw [hq] at h5; cases h5)
    | _=>cases h5
theorem TL {P:Program}:∀ {ops:List aJ} {e:Env} {σ:af} {t:List DR} {e':Env} {σ':af},xI P ops e σ t e' σ' → Fh ops = true → nal t = 0
  | [],_,_,[],_,_,_,_=>rfl
  | o :: r,e,σ,q :: t,e',σ',h,hn=>by
    simp only [Fh,Bool.and_eq_true,Bool.not_eq_true'] at hn
    have ih:=TL h.2 hn.2
    obtain ⟨v,ef⟩:=q
    cases ef with
    | al ob=>have:=DG h.1 (q:=⟨v, .al ob⟩) rfl; rw [hn.1] at this; cases this
    | _=>exact ih
  | [],_,_,_ :: _,_,_,h,_=>h.elim
  | _ :: _,_,_,[],_,_,h,_=>h.elim
theorem rR {P:Program}:∀ {ops:List aJ} {e:Env} {σ:af} {t:List DR} {e':Env} {σ':af},xI P ops e σ t e' σ' → x9 ops = true → ∀ {j:Nat} {o:aJ} {q:DR} {ob:bo},ops[j]? = some o → t[j]? = some q → q.e = .al ob → Hz o.i = true → nal t = nal (t.take j) + 1
  | o1 :: r,e,σ,q1 :: t,e',σ',h,hc,0,o,q,ob,h1,h2,h3,h4=>by
    simp at h1 h2
    subst h1 h2
    simp only [x9,h4,Bool.not_true,Bool.false_or,Bool.and_eq_true] at hc
    have:=TL h.2 hc.1
    simp [nal,h3,this]
  | o1 :: r,e,σ,q1 :: t,e',σ',h,hc,j + 1,o,q,ob,h1,h2,h3,h4=>by
    simp only [x9,Bool.and_eq_true] at hc
    have ih:=rR h.2 hc.2 (j:=j) (by simpa using h1) (by simpa using h2) h3 h4
    simp only [List.take_succ_cons,nal]
    split <;> omega
  | [],_,_,_,_,_,_,_,_,_,_,_,h1,_,_,_=>by simp at h1
  | _ :: _,_,_,[],_,_,h,_,_,_,_,_,_,_,_,_=>h.elim
def C8 (P:Program) (N:Nat) (os:Array Oper) (ops:List aJ) (bef:List (List Nat)):Bool:=
  dE P N os ops os.toList && P.follows .mixedOrders && vf bef os.toList 0 && xf bef ops ops 0 && sv ops && x9 ops
theorem fE {bef:List (List Nat)}:∀ {l:List Oper} {k j:Nat} {o:Oper},vf bef l k = true → l[j]? = some o → nc bef o (k + j) = true
  | [],_,_,_,_,h=>by simp at h
  | a :: r,k,0,o,hb,h=>by simp at h; subst h; simp only [vf,Bool.and_eq_true] at hb; exact hb.1
  | a :: r,k,j + 1,o,hb,h=>by
    simp only [vf,Bool.and_eq_true] at hb
    have:=fE hb.2 (j:=j) (o:=o) (by simpa using h)
    rw [show k + (j + 1) = k + 1 + j by omega]; exact this
theorem qf {bef:List (List Nat)} {j:Nat} {rs:List Nat}:∀ {l:List aJ} {k i:Nat} {o:aJ} {d:Nat},pK bef j rs l k = true → l[i]? = some o → o.d = some d → d ∈ rs → (k + i) ∈ bef.getD j [] ∨ j ∈ bef.getD (k + i) []
  | [],_,_,_,_,_,h,_,_=>by simp at h
  | a :: r,k,0,o,d,hb,h,hd,hm=>by
    simp at h; subst h
    simp only [pK,hd,Bool.and_eq_true,Bool.or_eq_true,Bool.not_eq_true',List.contains_eq_mem,decide_eq_false_iff_not,decide_eq_true_eq] at hb
    rcases hb.1 with (h | h) | h
    · exact absurd hm h
    · exact .inl h
    · exact .inr h
  | a :: r,k,i + 1,o,d,hb,h,hd,hm=>by
    simp only [pK,Bool.and_eq_true] at hb
    have:=qf hb.2 (i:=i) (by simpa using h) hd hm
    rw [show k + (i + 1) = k + 1 + i by omega]; exact this
theorem s9 {bef:List (List Nat)} {all:List aJ}:∀ {l:List aJ} {k j:Nat} {o:aJ},xf bef all l k = true → l[j]? = some o → pK bef (k + j) (db o) all 0 = true
  | [],_,_,_,_,h=>by simp at h
  | a :: r,k,0,o,hb,h=>by simp at h; subst h; simp only [xf,Bool.and_eq_true] at hb; exact hb.1
  | a :: r,k,j + 1,o,hb,h=>by
    simp only [xf,Bool.and_eq_true] at hb
    have:=s9 hb.2 (j:=j) (o:=o) (by simpa using h)
    rw [show k + (j + 1) = k + 1 + j by omega]; exact this
theorem mW {d:Nat}:∀ {l:List aJ} {j:Nat} {o:aJ},Aa (some d) l = false → l[j]? = some o → o.d ≠ some d
  | [],_,_,_,h=>by simp at h
  | a :: r,0,o,hb,h=>by simp at h; subst h; simp only [Aa,Bool.or_eq_false_iff,beq_eq_false_iff_ne] at hb; exact hb.1
  | a :: r,j + 1,o,hb,h=>by simp only [Aa,Bool.or_eq_false_iff] at hb; exact mW hb.2 (j:=j) (by simpa using h)
theorem tp:∀ {l:List aJ} {i j:Nat} {o o':aJ} {d:Nat},sv l = true → l[i]? = some o → l[j]? = some o' → o.d = some d → o'.d = some d → i = j
  | [],_,_,_,_,_,_,h,_,_,_=>by simp at h
  | a :: r,0,0,_,_,_,_,_,_,_,_=>rfl
  | a :: r,0,j + 1,o,o',d,hb,h1,h2,d1,d2=>by
    simp at h1; subst h1
    simp only [sv,Bool.and_eq_true,Bool.not_eq_true',d1] at hb
    exact absurd d2 (mW hb.1 (j:=j) (by simpa using h2))
  | a :: r,i + 1,0,o,o',d,hb,h1,h2,d1,d2=>by
    simp at h2; subst h2
    simp only [sv,Bool.and_eq_true,Bool.not_eq_true',d2] at hb
    exact absurd d1 (mW hb.1 (j:=i) (by simpa using h1))
  | a :: r,i + 1,j + 1,o,o',d,hb,h1,h2,d1,d2=>by
    simp only [sv,Bool.and_eq_true] at hb
    rw [tp hb.2 (i:=i) (j:=j) (by simpa using h1) (by simpa using h2) d1 d2]
theorem nD {bef:List (List Nat)} {j:Nat} {e:cq}:∀ {l:List cq} {k i:Nat} {f:cq},l0 bef j e l k = true → l[i]? = some f → e.oR f = true → (k + i) ∈ bef.getD j []
  | [],_,_,_,_,h,_=>by simp at h
  | a :: r,k,0,f,hb,h,hc=>by
    simp at h; subst h
    simp only [l0,Bool.and_eq_true,Bool.or_eq_true,Bool.not_eq_true',hc,List.contains_eq_mem,decide_eq_true_eq] at hb
    simpa using hb.1
  | a :: r,k,i + 1,f,hb,h,hc=>by
    simp only [l0,Bool.and_eq_true] at hb
    have:=nD hb.2 (i:=i) (by simpa using h) hc
    rw [show k + (i + 1) = k + 1 + i by omega]; exact this
theorem kU {bef:List (List Nat)}:∀ {b l:List cq} {i j:Nat} {f e:cq},ig bef b l b.length = true → i < j → (b ++ l)[i]? = some f → (b ++ l)[j]? = some e → b.length ≤ j → e.oR f = true → i ∈ bef.getD j []
  | b,[],i,j,f,e,_,_,_,h,hl,_=>by simp at h; rw [List.getElem?_eq_none (by omega)] at h; cases h
  | b,x :: r,i,j,f,e,hb,hij,hf,he,hl,hc=>by
    simp only [ig,Bool.and_eq_true] at hb
    by_cases hj:j = b.length
    · subst hj
      rw [List.getElem?_append_right (Nat.le_refl _)] at he
      simp at he; subst he
      rw [List.getElem?_append_left hij] at hf
      have:=nD hb.1 hf hc
      simpa using this
    · have h2:=hb.2
      rw [show b.length + 1 = (b ++ [x]).length by simp] at h2
      exact kU (b:=b ++ [x]) h2 hij (by simpa using hf) (by simpa using he) (by simp; omega) hc
theorem m8 {P:Program} {N:Nat} {os:Array Oper}:∀ {ops:List aJ} {l:List Oper} {j:Nat} {o:Oper},dE P N os ops l = true → l[j]? = some o →
    ∃ ao,ops[j]? = some ao ∧ TA N ao.d o.dst = true ∧ we os ao.g o.guard = true ∧ a8 P ao.i o.op = true
  | [],[],_,_,_,h=>by simp at h
  | a :: r,b :: t,0,o,hc,h=>by
    simp at h; subst h
    simp only [dE,Bool.and_eq_true] at hc
    exact ⟨a,by simp,hc.1.1.1,hc.1.1.2,hc.1.2⟩
  | a :: r,b :: t,j + 1,o,hc,h=>by
    simp only [dE,Bool.and_eq_true] at hc
    obtain ⟨ao,h1,h2⟩:=m8 hc.2 (j:=j) (o:=o) (by simpa using h)
    exact ⟨ao,by simpa using h1,h2⟩
  | [],_ :: _,_,_,h,_=>by simp [dE] at h
  | _ :: _,[],_,_,h,_=>by simp [dE] at h
theorem ny {P:Program} {N:Nat} {os:Array Oper}:∀ {ops:List aJ} {l:List Oper},dE P N os ops l = true → ops.length = l.length
  | [],[],_=>rfl
  | a :: r,b :: t,hc=>by simp only [dE,Bool.and_eq_true] at hc; simp [ny hc.2]
  | [],_ :: _,h=>by simp [dE] at h
  | _ :: _,[],h=>by simp [dE] at h
def cnt:List Bool → Nat
  | []=>0
  | b :: r=>(if b = true then 0 else 1) + cnt r
theorem vU:∀ {l:List Bool} {i:Nat},l[i]? = some false → cnt (l.set i true) + 1 = cnt l
  | [],_,h=>by simp at h
  | b :: r,0,h=>by simp at h; subst h; simp [cnt]; omega
  | b :: r,i + 1,h=>by have:=vU (l:=r) (i:=i) (by simpa using h); simp only [List.set_cons_succ,cnt]; omega
theorem rC:∀ {l:List Bool} {i:Nat},cnt l = 0 → l[i]? ≠ some false
  | [],_,_=>by simp
  | b :: r,0,h=>by intro e; simp at e; subst e; simp [cnt] at h
  | b :: r,i + 1,h=>by
    simp only [cnt] at h
    have:=rC (l:=r) (i:=i) (by omega)
    simpa using this
section
variable {P:Program} {A:World} {N:Nat}
theorem cW.env {s:St} {fr:Fr} {a:Act} {e:Env} (hf:cW s N fr a) (h:∀ x,e.get x = fr.v.get x):cW s N { fr with v:=e } a:=
  ⟨hf.size,fun t=>by show Rv s (e.get t) _; rw [h]; exact hf.v t,hf.ds⟩
structure E4 (A:World) (N:Nat) (s0:St) (ops:List aJ) (bef:List (List Nat)) (fr0:Fr) (t:List DR) (p:Nat → Bool) (s:St) (a:Act):Prop where
  inv:Inv A s
  goes:bB s0 s
  fr:cW s N { fr0 with v:=gx p ops t 0 fr0.v } a
  heap:s.h = cr p (dV t s0.h.length) 0 (s0.h ++ List.replicate (nal t) .hole)
  unal:∀ j j' b o o' q,t[j]? = some q → q.e = .al o' → (dV t s0.h.length)[j]? = some (some (b,o')) → p j = false → p j' = true → (dV t s0.h.length)[j']? ≠ some (some (b,o))
  closed:∀ j,p j = true → ∀ i ∈ bef.getD j [],p i = true
theorem E4.hole {s0:St} {ops:List aJ} {bef:List (List Nat)} {fr0:Fr} {t:List DR} {p:Nat → Bool} {s:St} {a:Act} (h:E4 A N s0 ops bef fr0 t p s a) {j:Nat} {q:DR} {o:bo}
    (hj:t[j]? = some q) (hq:q.e = .al o) (hp:p j = false):s.h[s0.h.length + nal (t.take j)]? = some .hole:=by
  have hit:=jC (nb:=s0.h.length) hj
  rw [hq] at hit
  simp only at hit
  rw [h.heap,dB (p':=fun _=>false) (σ':=s0.h ++ List.replicate (nal t) bo.hole) ?_ rfl rfl,fL (fun _ _=>rfl)]
  · have:=(lg hj hq).2
    rw [List.getElem?_append_right (by omega),List.getElem?_replicate,if_pos (by omega)]
  · intro j' o' g
    rw [Nat.zero_add]
    cases hp':p j' with
    | false=>rfl
    | true=>exact absurd g (h.unal j j' _ o' o q hj hq hit hp hp')
theorem zd {id:Nat} {os:Array Oper} {ops:List aJ} {bef:List (List Nat)} {ro:Option Nat} {Q:AEx → Fr → af → Prop} {fr:Fr} {σ:af} (hc:C8 P N os ops bef = true)
    (h:gk P ops fr.v σ [] fun e σ' es=>ig bef [] es.reverse 0 = true ∧ Q .normal { fr with v:=e } σ'):AWc P N ro (.region id os true) Q fr σ:=by
  simp only [C8,Bool.and_eq_true] at hc
  obtain ⟨⟨⟨⟨⟨hc1,hmix⟩,hbef⟩,htmp⟩,hdst⟩,hcal⟩:=hc
  obtain ⟨t,e',σ',hrun,hcl,hQ⟩:=uc h
  simp only [List.append_nil,List.reverse_reverse] at hcl
  intro A s a r h1 h2 h3 h4
  subst h1
  have hlen:ops.length = os.size:=by simpa using ny hc1
  have htl:t.length = os.size:=(yi hrun).trans hlen
  -- the world with one draw more, and the blocks that are to come
  let sd:St:={ s with w:={ s.w with drawn:=s.w.drawn + 1 } }
  have kd:bf s sd:=⟨fun _ _ _ h=>h,fun _ _ h=>h,fun _ _ _=>rfl⟩
  have gd:=h2.grow (s':=sd) rfl rfl kd ⟨h2.below.os,h2.below.tape,h2.below.output,h2.below.size,h2.below.block⟩ (Nat.le_refl _) (fun _ _=>rfl) (fun _ _ h=>.inl h) h2.scell
  have gm:=gd.1.more (nal t)
  let s1:=sd.more (nal t)
  -- two that meddle are ordered
  have hclash:∀ i j qi qj,i < j → t[i]? = some qi → t[j]? = some qj → qj.e.oR qi.e = true → i ∈ bef.getD j []:=fun i j qi qj hij hi hj hcc=>
    kU (b:=[]) (l:=t.map (·.e)) hcl hij (by simp [hi]) (by simp [hj]) (by simp) hcc
  have key : ∀ (fuel : Nat) (listed : Array Bool) (s2 : St) (a2 : Act),listed.size = os.size → cnt listed.toList ≤ fuel → E4 A N s ops bef fr t (fun j => listed.getD j false) s2 a2 →
      wpAnyIn (Fro r) 0 P .any os (iv A N s Q) fuel listed a2 s2.w:=by
    -- when nothing is ready all is done
    have hready:∀ (listed:Array Bool),listed.size = os.size → Region.ready .any os listed = [] → ∀ j,j < os.size → listed.getD j false = true:=by
      intro listed hsz hr j
      induction j using Nat.strongRecOn with
      | _ j ih=>
        intro hj
        cases hl:listed.getD j false with
        | true=>rfl
        | false=>
          have hj':j < listed.size:=by omega
          have:j ∈ Region.ready .any os listed:=by
            refine mem_ready.2 ⟨by simpa [Array.getD_eq_getD_getElem?,hj'] using hl,os[j],by simp [hj],fun e he hb=>?_⟩
            have hb1:=fE hbef (j:=j) (o:=os[j]) (by simp [hj])
            simp only [nc,Nat.zero_add,Bool.and_eq_true,List.all_eq_true] at hb1
            have:=hb1.1 e (by simpa using he)
            simp only [hb,Bool.not_true,Bool.false_or,decide_eq_true_eq] at this
            exact ih e.on this (by omega)
          rw [hr] at this; cases this
    have hdone:∀ (listed:Array Bool) (s2:St) (a2:Act),listed.size = os.size → E4 A N s ops bef fr t (fun j=>listed.getD j false) s2 a2 → Region.ready .any os listed = [] → iv A N s Q .normal a2 s2.w:=by
      intro listed s2 a2 hsz hd hr
      have hall:=hready listed hsz hr
      obtain ⟨g1,g2⟩:=TK 0 (p:=fun j=>listed.getD j false) hrun (fun j hj=>by rw [Nat.zero_add]; exact hall j (by omega))
      have hfr:=hd.fr
      rw [← g1] at hfr
      exact ⟨.normal,{ fr with v:=e' },s2,rfl,hd.inv,hd.goes,hfr,trivial,by rw [hd.heap, ← g2]; exact hQ⟩
    intro fuel
    induction fuel with
    | zero=>
      intro listed s2 a2 hsz hcnt hd
      have hr:Region.ready .any os listed = []:=by
        cases hr:Region.ready .any os listed with
        | nil=>rfl
        | cons i l=>
          have hi:i ∈ Region.ready .any os listed:=by rw [hr]; simp
          obtain ⟨g1,o,g2,_⟩:=mem_ready.1 hi
          have hilt:i < os.size:=by
            rcases Nat.lt_or_ge i os.size with h' | h'
            · exact h'
            · rw [Array.getElem?_eq_none h'] at g2; cases g2
          have:=rC (l:=listed.toList) (i:=i) (by omega)
          have hi':i < listed.size:=by omega
          simp [hi'] at this g1
          rw [g1] at this; simp at this
      exact ⟨hr,hdone listed s2 a2 hsz hd hr⟩
    | succ fuel ih=>
      intro listed s2 a2 hsz hcnt hd
      refine ⟨hdone listed s2 a2 hsz hd,fun i hi=>?_⟩
      obtain ⟨g1,o,g2,g3⟩:=mem_ready.1 hi
      have hilt:i < os.size:=by
        rcases Nat.lt_or_ge i os.size with h' | h'
        · exact h'
        · rw [Array.getElem?_eq_none h'] at g2; cases g2
      have hi':i < listed.size:=by omega
      have hpi:listed.getD i false = false:=by simp [hi'] at g1 ⊢; exact g1
      -- those that come before are done
      have hb1:=fE hbef (j:=i) (o:=o) (by simpa using g2)
      simp only [nc,Nat.zero_add,Bool.and_eq_true,List.all_eq_true,List.any_eq_true,decide_eq_true_eq,Bool.or_eq_true,beq_iff_eq,List.contains_eq_mem] at hb1
      have hbi:∀ x ∈ bef.getD i [],x < i ∧ listed.getD x false = true:=by
        intro x hx
        obtain ⟨q1,e,q2,q3,q4⟩:=hb1.2 x hx
        refine ⟨q1, ?_⟩
        have hon:=g3 e (by simpa using q2) q3
        rcases q4 with q4 | q4
        · rw [← q4]; exact hon
        · exact hd.closed e.on hon x q4
      obtain ⟨ao,k1,k2,k3,k4⟩:=m8 hc1 (j:=i) (o:=o) (by simpa using g2)
      obtain ⟨ei,σi,q,r1,r2,r3,r4,r5⟩:=zZ 0 hrun k1
      simp only [Nat.zero_add] at r3 r5
      have htm:=s9 htmp (j:=i) (o:=ao) k1
      rw [Nat.zero_add] at htm
      have hits:=jC (nb:=s.h.length) r1
      -- who touches a block is done just if it comes first in the text
      have htouch:∀ b,(q.e.reads b ∨ ∃ o',q.e = .wr b o') → b < σi.length → (∃ k u,s2.lam b k = some u) → ∀ j o',(dV t s.h.length)[j]? = some (some (b,o')) → listed.getD j false = decide (j < i):=by
        intro b hq hlt hlam j o' hj
        have hjl:j < t.length:=by
          rcases Nat.lt_or_ge j t.length with h' | h'
          · exact h'
          · rw [List.getElem?_eq_none (by rw [uN]; exact h')] at hj; cases hj
        obtain ⟨qj,hqj⟩:∃ qj,t[j]? = some qj:=⟨t[j],by simp [hjl]⟩
        have hit:=jC (nb:=s.h.length) hqj
        rw [hj] at hit
        rcases Nat.lt_trichotomy j i with hji | hji | hji
        · simp only [hji,decide_true]
          cases hqe:qj.e with
          | no=>rw [hqe] at hit; simp at hit
          | rd l=>rw [hqe] at hit; simp at hit
          | al ob=>
            rw [hqe] at hit; simp at hit
            cases hpj:listed.getD j false with
            | true=>rfl
            | false=>
              have:=hd.hole hqj hqe hpj
              rw [← hit.1] at this
              obtain ⟨k,u,hku⟩:=hlam
              have:=hd.inv.obj b _ this k
              rw [hku] at this; cases this
          | wr b' ob=>
            rw [hqe] at hit; simp at hit
            refine (hbi j (hclash j i qj q hji hqj r1 ?_)).2
            rw [hqe]
            rcases hq with hq | ⟨o2,hq⟩
            · cases hqq:q.e with
              | rd l=>rw [hqq] at hq; simp only [cq.oR,List.contains_eq_mem,decide_eq_true_eq]; rw [← hit.1]; exact hq
              | _=>rw [hqq] at hq; exact hq.elim
            · rw [hq]; simp [cq.oR,hit.1]
        · subst hji; simp [hpi]
        · have:¬ j < i:=by omega
          simp only [this,decide_false]
          cases hqe:qj.e with
          | no=>rw [hqe] at hit; simp at hit
          | rd l=>rw [hqe] at hit; simp at hit
          | al ob=>
            rw [hqe] at hit; simp at hit
            have:=jk (t:=t) (Nat.le_of_lt hji)
            omega
          | wr b' ob=>
            rw [hqe] at hit; simp at hit
            have hm:=hclash i j q qj hji r1 hqj (by
              rw [hqe]
              rcases hq with hq | ⟨o2,hq⟩
              · cases hqq:q.e with
                | rd l=>rw [hqq] at hq; simp only [cq.oR,List.contains_eq_mem,decide_eq_true_eq]; rw [← hit.1]; exact hq
                | _=>rw [hqq] at hq; exact hq.elim
              · rw [hq]; simp [cq.oR,hit.1])
            cases hpj:listed.getD j false with
            | false=>rfl
            | true=>have:=hd.closed j hpj i hm; rw [hpi] at this; cases this
      have hsame:∀ b,(q.e.reads b ∨ ∃ o',q.e = .wr b o') → b < σi.length → (∃ k u,s2.lam b k = some u) → s2.h.get b = σi.get b:=by
        intro b hq hlt hlam
        have e1:s2.h[b]? = (σi ++ List.replicate (nal (t.drop i)) .hole)[b]?:=by
          rw [hd.heap,r5]
          exact dB (fun j o' hj=>by rw [Nat.zero_add]; exact htouch b hq hlt hlam j o' hj) rfl rfl
        rw [List.getElem?_append_left hlt] at e1
        simp only [af.get,List.getD,e1]
      refine xx (fr:={ fr with v:=gx (fun j=>listed.getD j false) ops t 0 fr.v }) g2 k3 k4 hd.inv hd.fr r2 (fun x hx=>?_) (fun b hb=>hsame b (.inl hb)) (fun b o' hb=>hsame b (.inr ⟨o',hb⟩)) (fun o' hal=>?_) (fun sz f dn l hai=>?_) ?_
      · rw [r3 x]
        refine ki (fun j oj hj hdj=>?_) rfl
        have:=qf htm hj hdj hx
        rw [Nat.zero_add] at this ⊢
        rcases this with this | this
        · have:=hbi j this
          rw [this.2]; simp [this.1]
        · have hij:i < j:=by
            have hjlt:j < os.size:=by
              rcases Nat.lt_or_ge j os.size with h' | h'
              · exact h'
              · rw [List.getElem?_eq_none (by omega)] at hj; cases hj
            have hb2:=fE hbef (j:=j) (o:=os[j]) (by simp [hjlt])
            simp only [nc,Nat.zero_add,Bool.and_eq_true,List.all_eq_true,decide_eq_true_eq] at hb2
            exact (hb2.2 i this).1
          have hpj:listed.getD j false = false:=by
            cases h':listed.getD j false with
            | false=>rfl
            | true=>have:=hd.closed j h' i this; rw [hpi] at this; cases this
          rw [hpj]; simp; omega
      · rw [r4]; exact hd.hole r1 hal hpi
      · have hqe:∃ ob,q.e = .al ob:=by
          obtain ⟨c,_,hst⟩:=r2
          rw [hai] at hst
          obtain ⟨_,_,xs,_,rfl⟩:=hst
          exact ⟨_,rfl⟩
        obtain ⟨ob,hqe⟩:=hqe
        have hl:=rR hrun hcal k1 r1 hqe (by rw [hai]; rfl)
        rw [hd.heap,ik,r4]
        simp only [List.length_append,List.length_replicate]
        omega
      · intro c s3 i3 g3' hh hv hwr
        have hp':∀ j,(listed.setIfInBounds i true).getD j false = (listed.getD j false || j == i):=by
          intro j
          by_cases hji:j = i
          · subst hji; simp [hi']
          · rw [getD_set_ne false (fun h=>hji h.symm)]; simp [hji]
        have hcnt':cnt (listed.setIfInBounds i true).toList ≤ fuel:=by
          have:=vU (l:=listed.toList) (i:=i) (by simp [hi'] at hpi ⊢; exact hpi)
          simp only [Array.toList_setIfInBounds]; omega
        refine ih _ s3 _ (by simpa using hsz) hcnt' ⟨i3,hd.goes.trans g3', ?_, ?_, ?_, ?_⟩
        · have hfr:=(hd.fr.keeps g3'.keeps).put k2 hv
          refine hfr.env (e:=gx (fun j=>(listed.setIfInBounds i true).getD j false) ops t 0 fr.v) fun x=>?_
          simp only [Fr.put,fQ]
          by_cases hx:ao.d = some x
          · rw [if_pos hx]
            refine wX k1 r1 hx (by rw [Nat.zero_add,hp']; simp) (fun j o' hne hj hdj=>hne (tp hdst hj k1 hdj hx))
          · rw [if_neg hx]
            refine ki (fun j oj hj hdj=>?_) rfl
            rw [Nat.zero_add,hp']
            have:j ≠ i:=fun e=>by subst e; rw [k1] at hj; cases hj; exact hx hdj
            simp [this]
        · rw [hh,hd.heap]
          have hadd:=BV (p:=fun j=>listed.getD j false) (p':=fun j=>(listed.setIfInBounds i true).getD j false) (l:=dV t s.h.length) (i:=i) (σ:=s.h ++ List.replicate (nal t) .hole) hp'
          cases hqe:q.e with
          | no=>rw [hqe] at hits; rw [hadd.1 hits]; rfl
          | rd l=>rw [hqe] at hits; rw [hadd.1 hits]; rfl
          | al ob=>
            rw [hqe] at hits
            simp only [cq.nJ]
            rw [r4,hadd.2 _ _ hits]
            intro j o' hij hj
            cases hpj:listed.getD j false with
            | false=>rfl
            | true=>exact absurd hj (hd.unal i j _ o' ob q r1 hqe hits hpi hpj)
          | wr b ob=>
            rw [hqe] at hits
            simp only [cq.nJ]
            rw [hadd.2 _ _ hits]
            intro j o' hij hj
            obtain ⟨w1,w2⟩:=hwr b ob hqe
            have:=htouch b (.inr ⟨ob,hqe⟩) w1 w2 j o' hj
            rw [this]; simp; omega
        · intro j j' b oo o' qj h1 h2 h3' h4 h5 h6
          rw [hp'] at h4 h5
          simp only [Bool.or_eq_false_iff,beq_eq_false_iff_ne,Bool.or_eq_true,beq_iff_eq] at h4 h5
          rcases h5 with h5 | h5
          · exact hd.unal j j' b oo o' qj h1 h2 h3' h4.1 h5 h6
          · subst h5
            have hjb:=jC (nb:=s.h.length) h1
            rw [h2] at hjb
            simp only at hjb
            rw [h3'] at hjb
            simp only [Option.some.injEq,Prod.mk.injEq,and_true] at hjb
            cases hqe:q.e with
            | no=>rw [hqe] at hits; rw [h6] at hits; simp at hits
            | rd l=>rw [hqe] at hits; rw [h6] at hits; simp at hits
            | al ob=>
              rw [hqe] at hits; rw [h6] at hits; simp only [Option.some.injEq,Prod.mk.injEq] at hits
              have hne:=h4.2
              rcases Nat.lt_or_ge j j' with hlt | hge
              · have a1:=(lg h1 h2).1
                have a2:=jk (t:=t) (show j + 1 ≤ j' by omega)
                omega
              · have a1:=(lg r1 hqe).1
                have a2:=jk (t:=t) (show j' + 1 ≤ j by omega)
                omega
            | wr b' ob=>
              rw [hqe] at hits; rw [h6] at hits; simp only [Option.some.injEq,Prod.mk.injEq] at hits
              obtain ⟨w1,k,u,hku⟩:=hwr b' ob hqe
              have hol:=hd.hole h1 h2 h4.1
              rw [← hjb,hits.1] at hol
              have:=hd.inv.obj b' _ hol k
              rw [hku] at this; cases this
        · intro j hj x hx
          rw [hp'] at hj ⊢
          simp only [Bool.or_eq_true,beq_iff_eq] at hj ⊢
          rcases hj with hj | hj
          · exact .inl (hd.closed j hj x hx)
          · subst hj; exact .inl (hbi x hx).2
  refine wpIn_region_any hmix ?_
  refine key os.size (Array.replicate os.size false) s1 a (by simp) ?_ ⟨gm.1,gd.2.trans gm.2, ?_, ?_, ?_, ?_⟩
  · have:∀ n,cnt (List.replicate n false) = n:=fun n=>by
      induction n with
      | zero=>rfl
      | succ n ih=>simp only [List.replicate_succ,cnt,ih]; simp; omega
    simp [this]
  · have:=(h3.keeps (gd.2.trans gm.2).keeps)
    rw [pD]
    · exact this
    · intro j _; simp [Array.getD_eq_getD_getElem?,Array.getElem?_replicate]; split <;> rfl
  · rw [fL]
    · rfl
    · intro j _; simp [Array.getD_eq_getD_getElem?,Array.getElem?_replicate]; split <;> rfl
  · intro j j' b o o' q _ _ _ _ h5
    simp [Array.getD_eq_getD_getElem?,Array.getElem?_replicate] at h5
    split at h5 <;> simp at h5
  · intro j hj
    simp [Array.getD_eq_getD_getElem?,Array.getElem?_replicate] at hj
    split at hj <;> simp at hj
end
end Go.AM
