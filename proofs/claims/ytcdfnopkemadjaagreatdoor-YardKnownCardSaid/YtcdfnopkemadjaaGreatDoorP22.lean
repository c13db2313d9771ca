/- Functions that recover in a deferred call, run by the executor. The library's calls, and copies of slices, az oracles of the executor. The examples of chapter 13: values. The examples of chapter 13: known calls. The examples of chapter 13: known calls. -/
import Derived.Test.YtcdfnopkemadjaaGreatDoorP19
import Derived.Test.YtcdfnopkemadjaaGreatDoorP21
import Derived.Test.YtcdfnopkemadjaaGreatDoorG05
namespace Go.AM
open Go.RowKit
structure Rcv where
 f:Nat
 N:Nat
 C:AC
 R:List (Nat × Option (Option Nat))
 g:Nat
 M:Nat
 D:AC
 t:Nat
 d:Nat
def tK (P:Program) (r:Rcv):Prop:=af P r.f = true ∧ af P r.g = true ∧ (∃ fn,P.funcs[r.f]? = some fn ∧ an P fn r.N r.C r.R = true) ∧ ∃ fn,P.funcs[r.g]? = some fn ∧ lQ P fn r.M r.t r.d r.D = true
def codeOf (P:Program) (f:Nat):Option Code:=match P.funcs[f]? with
 | some fn=>fn.body
 | none=>none
def nU (P:Program) (f:Nat):Option Code:=match P.funcs[f]? with
 | some fn=>FD fn
 | none=>none
def rZ (P:Program) (tab:List Ent) (x:Ex) (L:Nat) (r:Rcv) (y:Code) (q:XE):XR:=
 match q.x with
 | .panic v=>match q.ds with
  | [.fn (.func (.func g) [] caps) []]=>if g = r.g && caps.length ≤ r.M then match xC x L r.M none [] r.D y ((r.d,v) :: (r.t, .undef) :: bF caps 0) [] q.σ with
   | some ⟨.normal,_,[],σ⟩=>if pM q.e σ r.R then bU 3 (fJ (fj q.e σ r.R)) fun v=>some (.ret v,σ) else none
   | _=>none
   else none
  | _=>none
 | _=>I0 tab r.R q
def GU (P:Program) (tab:List Ent) (x:Ex) (L:Nat) (r:Rcv) (args:List aa) (σ:ab):XR:=
 match codeOf P r.f with
 | some c=>match nU P r.g with
  | some y=>if args.length ≤ r.N then match xC x L r.N none [] r.C c (bF args 0) [] σ with
   | some q=>rZ P tab x L r y q
   | none=>none
   else none
  | none=>none
 | none=>none
theorem uv {P : Program} {tab : List Ent} (ht : fZ P tab) {x : Ex} (hx : nx P x) {L : Nat} {r : Rcv} (hr : tK P r) {y : Code} (hy : nU P r.g = some y) {q : XE} {a : bh} {σ : ab} {R : bh → ab → Prop} (h : rZ P tab x L r y q = some (a,σ)) (hR : R a σ) :
  ln P r.R R q.x ⟨q.e,q.ds⟩ q.σ:=by
 obtain ⟨ex,e,ds,σ0⟩:=q
 cases ex with
 | panic v=>
  simp only [rZ] at h
  split at h
  ·rename_i g caps
   split at h
   ·rename_i hg;simp only [Bool.and_eq_true,decide_eq_true_eq] at hg;obtain ⟨rfl,hl⟩:=hg;obtain ⟨_,hb,_,fn,hfn,hchk⟩:=hr
    split at h
    ·rename_i e2 σ2 hxc
     split at h
     ·rename_i hres;simp only [bM,Option.some.injEq,Prod.mk.injEq] at h;obtain ⟨rfl,rfl⟩:=h;refine ⟨hb,eH.FY hfn hchk hl fun y' hy' hcy=>?_⟩;have:y' = y:=by
       simp only [nU,hfn,hy',Option.some.injEq] at hy;exact hy
      subst this;refine eP hx r.D hcy hxc _ ?_;exact ⟨rfl,ky hres,hR⟩
     ·cases h
    ·cases h
   ·cases h
  ·cases h
 | _=>exact sF ht h hR
theorem G5 {P:Program} {tab:List Ent} (ht:fZ P tab) {x:Ex} (hx:nx P x) {L:Nat} {r:Rcv} (hr:tK P r) {args:List aa} {σ:ab} {a:bh} {σ':ab} (h:GU P tab x L r args σ = some (a,σ')) :
  af P r.f = true ∧ Spec P r.f args σ fun q σ''=>q = a ∧ σ'' = σ':=by
 refine ⟨hr.1, ?_⟩;have hr':=hr;obtain ⟨hb,_,⟨fn,hfn,hchk⟩,_⟩:=hr';simp only [GU,codeOf,hfn] at h;simp only [an,Bool.and_eq_true,decide_eq_true_eq] at hchk;obtain ⟨⟨h1,h2⟩,h3⟩:=hchk
 cases hc:fn.body with
 | none=>rw [hc] at h; cases h
 | some c=>
  rw [hc] at h h3;simp only at h h3
  cases hy:nU P r.g with
  | none=>rw [hy] at h; cases h
  | some y=>
   rw [hy] at h;simp only at h
   split at h
   ·rename_i hl;refine Spec.oL hfn hc h1 h2 hl ?_
    cases hxc:xC x L r.N none [] r.C c (bF args 0) [] σ with
    | none=>rw [hxc] at h; cases h
    | some q=>
     rw [hxc] at h;exact eP hx _ h3 hxc _ (uv ht hx hr hy h ⟨rfl,rfl⟩)
   ·cases h
def zy (n:Nat) (σ:ab):ab:=((List.range (σ.length - n)).map (· + n)).foldl (fun h b=>h.set b .dead) σ
theorem lW {A:World}:∀ (L:List Nat) (s:St),Inv A s → Inv A { s with h:=L.foldl (fun h b=>h.set b .dead) s.h } ∧ aT s { s with h:=L.foldl (fun h b=>h.set b .dead) s.h }
 | [],s,hi=>⟨hi, .refl s⟩
 | b :: L,s,hi=>by
  by_cases hb:b < s.h.length
  ·obtain ⟨i1,g1⟩:=hi.abX hb;obtain ⟨i2,g2⟩:=lW L _ i1;exact ⟨i2,g1.trans g2⟩
  ·have e:s.h.set b .dead = s.h:=List.set_eq_of_length_le (by omega);have:=lW L s hi;simp only [List.foldl_cons];rw [e];exact this
theorem Spec.Kn {P:Program} {f:Nat} {args:List aa} {σ σ':ab} {a:bh} (n:Nat) (h:Spec P f args σ fun q σ''=>q = a ∧ σ'' = σ'):Spec P f args σ fun q σ''=>q = a ∧ σ'' = zy n σ':=by
 intro A s cargs h1 h2 h3;refine (h A s cargs h1 h2 h3).mono ?_;rintro e w' ⟨r,s',hw,hi,hg,hr,rfl,hh⟩;obtain ⟨i2,g2⟩:=lW ((List.range (s'.h.length - n)).map (· + n)) s' hi;refine ⟨r,{ s' with h:=((List.range (s'.h.length - n)).map (· + n)).foldl (fun h b=>h.set b .dead) s'.h },hw,i2,hg.trans g2, ?_,rfl, ?_⟩
 ·cases r <;> cases e <;> first | exact hr.elim | skip
  ·exact Rv.keeps g2.keeps hr
  ·obtain ⟨c,e1,e2⟩:=hr;exact ⟨c,e1,e2.keeps g2.keeps⟩
 ·unfold zy;rw [← hh]
def rq (P:Program) (tab:List Ent) (L n:Nat) (o:Orc) (r:Rcv):Orc:=
 ⟨o.go,fun f args σ=>if f = r.f then (match GU P tab (gB P tab o L n) L r args σ with
  | some (a,σ')=>fK (zy σ.length σ') fun σ''=>some (a,σ'')
  | none=>none) else o.eff f args σ⟩
theorem vq {P:Program} {tab:List Ent} (ht:fZ P tab) {L n:Nat} {o:Orc} (ho:fV P o) {r:Rcv} (hr:tK P r):fV P (rq P tab L n o r):=by
 refine ⟨ho.1,fun f args σ a σ' h=>?_⟩;simp only [rq] at h
 split at h
 ·rename_i e;subst e
  cases hx:GU P tab (gB P tab o L n) L r args σ with
  | none=>rw [hx] at h; cases h
  | some q=>
   obtain ⟨q,σ1⟩:=q;rw [hx] at h;simp only [br,Option.some.injEq,Prod.mk.injEq] at h;obtain ⟨rfl,rfl⟩:=h;obtain ⟨hb,hs⟩:=G5 ht (nS ht ho n) hr hx;exact ⟨hb,hs.Kn _⟩
 ·exact ho.2 _ _ _ _ _ h
open Go.Proofs Go.RowKit Go.Shelf
set_option maxRecDepth 100000
def knM:Nat:=63657374260452691079312460151997786529474488711837888726072049721129349711783673974473712
theorem ep (xs:List aa) (hf:Fits 1 xs) (hl:xs.length * 16 ≤ 140737488355328) (σ:ab) :
  Spec Tryz.prog tW [.slice 1 xs] σ fun r σ'=>r = .ret (.oslice 1 xs σ.length 1) ∧ σ' = σ ++ [.spare 1 1]:=by
 refine No (by simp) (aE _ ?_);simp [tP,hf,hl]
theorem cR (xs:List aa) (hf:Fits 7 xs) (hl:xs.length * 80 ≤ 140737488355328) (σ:ab) :
  Spec Tryz.prog sb [.slice 7 xs] σ fun r σ'=>r = .ret (.oslice 7 xs σ.length 1) ∧ σ' = σ ++ [.spare 7 1]:=by
 refine Yo (by simp) (aE _ ?_);simp [ub,hf,hl]
theorem bW (xs:List aa) (hf:Fits 3 xs) (hl:xs.length * 24 ≤ 140737488355328) (σ:ab) :
  Spec Tryz.prog s5 [.slice 3 xs] σ fun r σ'=>r = .ret (.oslice 3 xs σ.length 1) ∧ σ' = σ ++ [.spare 3 1]:=by
 refine adA (by simp) (aE _ ?_);simp [sX,hf,hl]
theorem cW (xs:List aa) (hf:Fits 2 xs) (hl:xs.length * 16 ≤ 140737488355328) (σ:ab) :
  Spec Tryz.prog tg [.slice 2 xs] σ fun r σ'=>r = .ret (.oslice 2 xs σ.length 1) ∧ σ' = σ ++ [.spare 2 1]:=by
 refine SI (by simp) (aE _ ?_);simp [ui,hf,hl]
theorem cC (xs:List aa) (hf:Fits 4 xs) (hl:xs.length * 32 ≤ 140737488355328) (σ:ab) :
  Spec Tryz.prog sB [.slice 4 xs] σ fun r σ'=>r = .ret (.oslice 4 xs σ.length 1) ∧ σ' = σ ++ [.spare 4 1]:=by
 refine Yw (by simp) (aE _ ?_);simp [tR,hf,hl]
theorem dD (xs:List aa) (hf:Fits 2 xs) (hl:xs.length * 16 ≤ 140737488355328) (σ:ab) :
  Spec Tryz.prog Hk [.slice 2 xs] σ fun r σ'=>r = .ret (.oslice 2 xs σ.length 1) ∧ σ' = σ ++ [.spare 2 1]:=by
 refine afZ (by simp) (aE _ ?_);simp [Hm,hf,hl]
theorem cD (xs:List aa) (hf:Fits 5 xs) (hl:xs.length * 40 ≤ 140737488355328) (σ:ab) :
  Spec Tryz.prog th [.slice 5 xs] σ fun r σ'=>r = .ret (.sref 5 σ.length 0 xs.length xs.length) ∧ σ' = σ ++ [.arr 5 xs]:=by
 refine aa6 (by simp) (aE _ ?_);rcases xs with _ | ⟨x,xs⟩
 ·simp [oW,hf]
 ·simp [oW,hf,hl];simpa using hl
theorem cr (xs:List aa) (hf:Fits 3 xs) (hl:xs.length * 24 ≤ 140737488355328) (σ:ab) :
  Spec Tryz.prog tC [.slice 3 xs] σ fun r σ'=>r = .ret (.sref 3 σ.length 0 xs.length xs.length) ∧ σ' = σ ++ [.arr 3 xs]:=by
 refine YT (by simp) (aE _ ?_);rcases xs with _ | ⟨x,xs⟩
 ·simp [pW,hf]
 ·simp [pW,hf,hl];simpa using hl
def o7 (n b:Nat) (args:List aa):Option aa:=match args with
 | [.slice s xs]=>if s == n && kb n xs && decide (xs.length * b ≤ 140737488355328) then some (.oslice n xs 0 1) else none
 | _=>none
theorem gY {f n b:Nat} (hb:af Tryz.prog f = true) (hs:∀ xs,Fits n xs → xs.length * b ≤ 140737488355328 → ∀ σ,Spec Tryz.prog f [.slice n xs] σ fun r σ'=>r = .ret (.oslice n xs σ.length 1) ∧ σ' = σ ++ [.spare n 1]) {args:List aa} {v:aa} (h:o7 n b args = some v):af Tryz.prog f = true ∧ cM Tryz.prog f args v:=by
 unfold o7 at h
 split at h
 ·split at h
  ·rename_i h1;simp only [Bool.and_eq_true,beq_iff_eq,decide_eq_true_eq] at h1;obtain ⟨⟨rfl,h2⟩,h3⟩:=h1;cases h;exact ⟨hb,hs _ (gb h2) h3⟩
  ·cases h
 ·cases h
def Hq (n b:Nat) (args:List aa) (σ:ab):XR:=match args with
 | [.slice s xs]=>if s == n && kb n xs && decide (xs.length * b ≤ 140737488355328) then some (.ret (.sref n σ.length 0 xs.length xs.length),σ ++ [.arr n xs]) else none
 | _=>none
theorem tw {f n b:Nat} (hb:af Tryz.prog f = true) (hs:∀ xs,Fits n xs → xs.length * b ≤ 140737488355328 → ∀ σ,Spec Tryz.prog f [.slice n xs] σ fun r σ'=>r = .ret (.sref n σ.length 0 xs.length xs.length) ∧ σ' = σ ++ [.arr n xs]) {args:List aa} {σ σ':ab} {r:bh} (h:Hq n b args σ = some (r,σ')):af Tryz.prog f = true ∧ Spec Tryz.prog f args σ fun q σ''=>q = r ∧ σ'' = σ':=by
 unfold Hq at h
 split at h
 ·split at h
  ·rename_i h1;simp only [Bool.and_eq_true,beq_iff_eq,decide_eq_true_eq] at h1;obtain ⟨⟨rfl,h2⟩,h3⟩:=h1;cases h;exact ⟨hb,hs _ (gb h2) h3 σ⟩
  ·cases h
 ·cases h
def Hp:List Int → Bool
 | []=>true
 | x :: r=>r.all (fun y=>decide (x ≤ y)) && Hp r
theorem tl:∀ {l:List Int},Hp l = true → l.Pairwise (· ≤ ·)
 | [],_=>.nil
 | x :: r,h=>by
  simp only [Hp,Bool.and_eq_true,List.all_eq_true,decide_eq_true_eq] at h;exact .cons h.1 (tl h.2)
def rz (args:List aa):Option aa:=match args with
 | [.str x, .str s]=>if decide (1 ≤ s.size) && decide (x.size < 4294967281) then some (.slice 1 ((iA x s).map .str)) else none
 | _=>none
def GO (args:List aa):Option aa:=match args with
 | [.str x]=>if decide (x.size ≤ 281474976710656) then some (oz x (Tryz.iR.t 168)) else none
 | _=>none
def E7 (args:List aa):Option aa:=match args with
 | [.int .i64 n]=>if decide (-9223372036854775808 ≤ n) && decide (n ≤ 9223372036854775807) then some (.str (bytes (Lib.itoa n))) else none
 | _=>none
def nO (args:List aa):Option aa:=match args with
 | [.slice 1 xs, .int .i64 x]=>match gi xs with
  | some l=>if Hp l && decide (l.length < 4611686018427387904) then some (.tup [.int .i64 (l.countP (· < x):Nat), .bool (l.contains x)]) else none
  | none=>none
 | _=>none
theorem kO:∀ l:List ByteArray,cF (l.map aa.str) = true
 | []=>rfl
 | _ :: r=>by simp [cF,aa.pure,kO r]
theorem rS (x:ByteArray) (t:TypeId):(oz x t).pure = true:=by unfold oz; split <;> rfl
theorem uO {args:List aa} {v:aa} (h:rz args = some v):af Tryz.prog Iy = true ∧ cM Tryz.prog Iy args v:=by
 unfold rz at h
 split at h
 ·split at h
  ·rename_i x s h1;simp only [Bool.and_eq_true,decide_eq_true_eq] at h1;cases h;exact ⟨ahr,cM.of (kO _) fun σ=>Spec.split Tryz.HL (by kernel_rfl) (by decide) x s h1.2 h1.1 σ⟩
  ·cases h
 ·cases h
theorem xB {args:List aa} {v:aa} (h:GO args = some v):af Tryz.prog Ig = true ∧ cM Tryz.prog Ig args v:=by
 unfold GO at h
 split at h
 ·split at h
  ·rename_i x h1;simp only [decide_eq_true_eq] at h1;cases h;exact ⟨af6,cM.of (rS _ _) fun σ=>Spec.atoi Tryz.AH (by decide) (by decide) x h1 σ⟩
  ·cases h
 ·cases h
theorem CL {args:List aa} {v:aa} (h:E7 args = some v):af Tryz.prog IZ = true ∧ cM Tryz.prog IZ args v:=by
 unfold E7 at h
 split at h
 ·split at h
  ·rename_i n h1;simp only [Bool.and_eq_true,decide_eq_true_eq] at h1;cases h;exact ⟨afF,cM.of rfl fun σ=>Spec.itoa (g0:=5) Tryz.AD (by kernel_rfl) (by decide) n h1.1 h1.2 σ⟩
  ·cases h
 ·cases h
theorem rT {args:List aa} {v:aa} (h:nO args = some v):af Tryz.prog tV = true ∧ cM Tryz.prog tV args v:=by
 unfold nO at h
 split at h
 ·split at h
  ·rename_i xs x _ l hl
   split at h
   ·rename_i h1;simp only [Bool.and_eq_true,decide_eq_true_eq] at h1;cases h;obtain rfl:=gq hl;exact ⟨WD,cM.of rfl fun σ=>Spec.Fm Tryz.wI l x h1.2 (tl h1.1) σ⟩
   ·cases h
  ·cases h
 ·cases h
def oY (f:Nat) (args:List aa):Option aa:=
 if f = Iy then rz args else
 if f = Ig then GO args else
 if f = IZ then E7 args else
 if f = tV then nO args else
 if f = tW then o7 1 16 args else
 if f = sb then o7 7 80 args else
 if f = s5 then o7 3 24 args else
 if f = tg then o7 2 16 args else
 if f = sB then o7 4 32 args else
 if f = Hk then o7 2 16 args else
 none
theorem Ae (f:Nat) (args:List aa) (v:aa) (h:oY f args = some v):af Tryz.prog f = true ∧ cM Tryz.prog f args v:=by
 unfold oY at h
 split at h
 ·rename_i e; subst e; exact uO h
 split at h
 ·rename_i e; subst e; exact xB h
 split at h
 ·rename_i e; subst e; exact CL h
 split at h
 ·rename_i e; subst e; exact rT h
 split at h
 ·rename_i e; subst e; exact gY Jy ep h
 split at h
 ·rename_i e; subst e; exact gY Jx cR h
 split at h
 ·rename_i e; subst e; exact gY Jr bW h
 split at h
 ·rename_i e; subst e; exact gY Jm cW h
 split at h
 ·rename_i e; subst e; exact gY Jd cC h
 split at h
 ·rename_i e; subst e; exact gY Pm dD h
 cases h
def wrC (args:List aa) (σ:ab):XR:=match args with
 | [.ptr b 0, .str y]=>match σ[b]? with
  | some (.bld k bs)=>if bs.length + y.size ≤ 140737488355328 then some (.ret (.tup [.int .i64 y.size, .niliface]),σ.set b (.bld (k + 1) (bs ++ y.data.toList))) else none
  | _=>none
 | _=>none
def stC (args:List aa) (σ:ab):XR:=match args with
 | [.ptr b 0]=>match σ[b]? with
  | some (.bld _ bs)=>some (.ret (.str ⟨bs.toArray⟩),σ.set b .dead)
  | _=>none
 | _=>none
def om (f:Nat) (args:List aa) (σ:ab):XR:=
 if f = Dn then lU Dn f args σ else
 if f = E9 then jM E9 f args σ else
 if f = th then Hq 5 40 args σ else
 if f = tC then Hq 3 24 args σ else
 if f = XZ then wrC args σ else
 if f = Q3 then stC args σ else none
theorem mD (f:Nat) (args:List aa) (σ:ab) (r:bh) (σ':ab) (h:om f args σ = some (r,σ')):af Tryz.prog f = true ∧ Spec Tryz.prog f args σ fun q σ''=>q = r ∧ σ'' = σ':=by
 unfold om at h
 split at h
 ·rename_i e; subst e; exact ⟨WR,(oM Tryz.vP h).2⟩
 split at h
 ·rename_i e; subst e; exact ⟨TB,(oc Tryz.wa h).2⟩
 split at h
 ·rename_i e; subst e; exact tw JA cD h
 split at h
 ·rename_i e; subst e; exact tw Jp cr h
 split at h
 ·rename_i e;subst e;unfold wrC at h
  split at h
  ·split at h
   ·rename_i b y _ k bs hb
    split at h
    ·rename_i hl;cases h;exact ⟨af3,mu b k bs y σ hb hl⟩
    ·cases h
   ·cases h
  ·cases h
 split at h
 ·rename_i e;subst e;unfold stC at h
  split at h
  ·split at h
   ·rename_i b _ k bs hb;cases h;exact ⟨agc,l5 b k bs σ hb⟩
   ·cases h
  ·cases h
 cases h
def Hn (l:List aA):Orc:=⟨fun f args=>if Nat.testBit knM f then (match oY f args with
 | some v=>some v
 | none=>mH l f args) else none,om⟩
theorem kE {l:List aA} (h:aB Tryz.prog l):fV Tryz.prog (Hn l):=by
 refine ⟨fun f args v hv=>?_,mD⟩
 change (if Nat.testBit knM f then (match oY f args with
  | some v=>some v
  | none=>mH l f args) else none) = some v at hv
 split at hv
 case isFalse=>cases hv
 cases hc:oY f args with
 | some w=>rw [hc] at hv; cases hv; exact Ae _ _ _ hc
 | none=>rw [hc] at hv; exact me h _ _ _ hv
theorem kn {l:List aA} (hl:aB Tryz.prog l) {e:aA} (h:isV e.v (xFc Tryz.prog fH 5000 (gB Tryz.prog fH (Hn l) 5000 60) [] e.f e.args []) = true) (hb:af Tryz.prog e.f = true) (h2:cF e.args = true) (h3:e.v.pure = true):aq Tryz.prog e:=
 gI fY (kE hl) h hb h2 h3
def Rk:Rcv:=⟨pj,129,I7,IB,Kg,15,IH,5,4⟩
theorem HK:tK Tryz.prog Rk:=⟨Zu,RZ,⟨_,Tryz.func11,X5⟩,_,Tryz.func33,eQ⟩
def F4 (P:Program) (tab:List Ent) (l:List aA):Orc:=rq P tab 5000 60 (Hn l) Rk
theorem qf {l:List aA} (h:aB Tryz.prog l):fV Tryz.prog (F4 Tryz.prog fH l):=vq fY (kE h) HK
theorem knL {l:List aA} (hl:aB Tryz.prog l) {e:aA} (h:isV e.v (xFc Tryz.prog fH 5000 (gB Tryz.prog fH (F4 Tryz.prog fH l) 5000 60) [] e.f e.args []) = true) (hb:af Tryz.prog e.f = true) (h2:cF e.args = true) (h3:e.v.pure = true):aq Tryz.prog e:=
 gI fY (qf hl) h hb h2 h3
open Go.Proofs
set_option maxRecDepth 100000
def jj (n:Int):aa:=.int .i64 n
def zv0:aa:=.slice 1 [(.str ⟨#[111,105,108]⟩),(.str ⟨#[112,97,105,110,116]⟩)]
def zv1:aa:=.slice 1 [(.str ⟨#[121,97,114,100]⟩),(.str ⟨#[112,105,116]⟩)]
def zv2:aa:=.slice 4 [(.agg [jj 0,jj 0,jj 1000,jj 1000])]
def zv3:aa:=.slice 5 [(.agg [jj 0,jj 0,jj 1,jj 600,jj 1]),(.agg [jj 0,jj 0,jj 1,jj 500,jj 0]),(.agg [jj 0,jj 0,jj (-1),jj 300,jj (-1)])]
def zv4:aa:=.agg [zv0,zv1,zv2,zv3,(.slice 4 [(.agg [jj 0,jj 0,jj 100,jj 100]),(.agg [jj 0,jj 1,jj 600,jj 600])])]
def zv5:aa:=.slice 5 [(.agg [jj 3,jj 500,jj 520,jj (-10),jj 20]),(.agg [jj 17,jj 560,jj 590,jj (-10),jj 20])]
def zv6:aa:=.agg [jj 20,jj 25,jj 6000,jj 12000,jj 50,zv5]
def zv7:aa:=.slice 2 [(.agg [(.str ⟨#[111,108,100]⟩),jj 5]),(.agg [(.str ⟨#[110,101,119]⟩),jj 2])]
def zv8:aa:=.agg [jj 0,jj 40,jj 1,jj 3,jj (-6),jj (-4),jj 10,(.slice 2 [(.agg [jj 10,jj 19])]),zv7]
def zv9:aa:=.slice 2 [(.agg [(.str ⟨#[97]⟩),(.bool true)]),(.agg [(.str ⟨#[98]⟩),(.bool false)]),(.agg [(.str ⟨#[99]⟩),(.bool false)]),(.agg [(.str ⟨#[100]⟩),(.bool false)]),(.agg [(.str ⟨#[101]⟩),(.bool false)])]
def bR:aa:=.slice 3 [(.agg [jj 0,jj 1,(.bool false)]),(.agg [jj 1,jj 2,(.bool false)]),(.agg [jj 0,jj 2,(.bool false)]),(.agg [jj 2,jj 3,(.bool false)]),(.agg [jj 3,jj 4,(.bool false)]),(.agg [jj 2,jj 4,(.bool false)])]
def cK:aa:=.agg [(.str ⟨#[98,111,119]⟩),jj 100,jj 1000,jj 1200,jj 50,jj 10,jj 12]
def cq:aa:=.agg [(.str ⟨#[109,105,100]⟩),jj 400,jj 500,jj 600,jj 100,jj 4,jj 5]
def cA:aa:=.agg [(.str ⟨#[115,116,101,114,110]⟩),jj 900,jj 2000,jj 2000,jj 100,jj 20,jj 20]
def Lx:aa:=.agg [(.slice 7 [cK,cq,cA]),jj 200,jj 800]
def cV:aa:=.slice 4 [(.agg [(.str ⟨#[99,114,101,119]⟩),jj 1,jj 300,jj 400]),(.agg [(.str ⟨#[98,97,110,107]⟩),jj 2,jj 600,jj 800]),(.agg [(.str ⟨#[121,97,114,100]⟩),jj 2,jj 300,jj 300]),(.agg [(.str ⟨#[102,108,97,103]⟩),jj 3,jj 100,jj 100])]
def aX:aa:=.slice 7 [(.agg [(.str ⟨#[98,111,119]⟩),jj 2,jj 0,jj 10,(.slice 1 []),jj 1000,jj 1200]),(.agg [(.str ⟨#[109,105,100]⟩),jj 1,jj 5,jj 30,(.slice 1 []),jj 500,jj 600]),(.agg [(.str ⟨#[115,116,101,114,110]⟩),jj 1,jj 25,jj 40,(.slice 1 []),jj 2000,jj 2000])]
def da:aa:=.slice 1 [(.slice 1 []),(.slice 1 [jj 3,jj 4]),(.slice 1 [])]
def ME:aa:=.agg [aX,(.slice 10 []),jj 20,jj 25,jj 6000,jj 12000,jj 50,zv5,jj 300,jj 310,jj 5,jj 0,jj 40,jj 1,jj 3,jj (-6),jj (-4),jj 10,(.slice 2 [(.agg [jj 10,jj 19])]),zv7,zv9,bR,(.slice 7 [cK,cq,cA]),jj 200,jj 800,jj 0,jj 60,da,zv0,zv1,zv2,(.slice 5 []),(.slice 4 []),jj 1000,jj 1200,cV]
def vE:aa:=.str ⟨#[51,32,98,108,97,110,107,32,53]⟩
def Pf:aa:=.agg [aX,(.slice 7 [cK,cq,cA]),jj 200,jj 800,jj 0,jj 60,zv9,bR,(.slice 1 []),(.slice 2 []),da]
def fo:aa:=.slice 2 [(.agg [jj 3,(.bool false)]),(.agg [jj 4,(.bool false)]),(.agg [jj 3,(.bool true)]),(.agg [jj 4,(.bool true)])]
def xP:aa:=.agg [aX,(.slice 7 [cK,cq,cA]),jj 200,jj 800,jj 0,jj 60,zv9,bR,(.slice 1 [jj 3,jj 5]),fo,da]
def ad6:aa:=.agg [(.slice 7 [cq,cA]),jj 200,jj 800]
def ab9:aa:=.agg [(.slice 7 [cA]),jj 200,jj 800]
def Pl:aa:=.agg [(.slice 7 [cq]),jj 200,jj 800]
def Pr:aa:=.agg [(.slice 7 [cK,cq]),jj 200,jj 800]
set_option maxRecDepth 100000
def oL0:List aA:=[]
theorem aZ:aB Tryz.prog oL0:=trivial
def ob0:aA:=⟨TK,[(.bool false)],zv4⟩
theorem Le:aq Tryz.prog ob0:=kn aZ (by kernel_rfl) (by kernel_rfl) (by kernel_rfl) (by kernel_rfl)
def oL1:List aA:=ob0 :: oL0
theorem Ge:aB Tryz.prog oL1:=⟨Le,aZ⟩
def ob1:aA:=⟨aaJ,[],zv6⟩
theorem JJ:aq Tryz.prog ob1:=kn Ge (by kernel_rfl) (by kernel_rfl) (by kernel_rfl) (by kernel_rfl)
def oL2:List aA:=ob1 :: oL1
theorem Gp:aB Tryz.prog oL2:=⟨JJ,Ge⟩
def ob2:aA:=⟨PF,[],(.agg [jj 300,jj 310,jj 5])⟩
theorem Kj:aq Tryz.prog ob2:=kn Gp (by kernel_rfl) (by kernel_rfl) (by kernel_rfl) (by kernel_rfl)
def oL3:List aA:=ob2 :: oL2
theorem Cf:aB Tryz.prog oL3:=⟨Kj,Gp⟩
def ob3:aA:=⟨abG,[],zv8⟩
theorem MC:aq Tryz.prog ob3:=kn Cf (by kernel_rfl) (by kernel_rfl) (by kernel_rfl) (by kernel_rfl)
def oL4:List aA:=ob3 :: oL3
theorem Ad:aB Tryz.prog oL4:=⟨MC,Cf⟩
def ob4:aA:=⟨SK,[(.bool false)],(.agg [zv9,bR])⟩
theorem JF:aq Tryz.prog ob4:=kn Ad (by kernel_rfl) (by kernel_rfl) (by kernel_rfl) (by kernel_rfl)
def oL5:List aA:=ob4 :: oL4
theorem Gg:aB Tryz.prog oL5:=⟨JF,Ad⟩
def ob5:aA:=⟨aca,[],Lx⟩
theorem MJ:aq Tryz.prog ob5:=kn Gg (by kernel_rfl) (by kernel_rfl) (by kernel_rfl) (by kernel_rfl)
def oL6:List aA:=ob5 :: oL5
theorem E6:aB Tryz.prog oL6:=⟨MJ,Gg⟩
set_option maxRecDepth 100000
def ob6:aA:=⟨Wb,[],(.agg [jj 1000,jj 1200,cV])⟩
theorem L6:aq Tryz.prog ob6:=kn E6 (by kernel_rfl) (by kernel_rfl) (by kernel_rfl) (by kernel_rfl)
def oL7:List aA:=ob6 :: oL6
theorem yY:aB Tryz.prog oL7:=⟨L6,E6⟩
def ob7:aA:=⟨F_6,[],ME⟩
theorem JC:aq Tryz.prog ob7:=kn yY (by kernel_rfl) (by kernel_rfl) (by kernel_rfl) (by kernel_rfl)
def oL8:List aA:=ob7 :: oL7
theorem E3:aB Tryz.prog oL8:=⟨JC,yY⟩
def ob8:aA:=⟨F_4,[],(.slice 1 [(.str ⟨#[51,32,99,117,116,32,98,111,119,32,50,48]⟩),(.str ⟨#[51,32,114,117,110,32,49,32,48]⟩),(.str ⟨#[51,32,114,117,110,32,48,32,48]⟩),vE,(.str ⟨#[51,32,98,108,97,110,107,32,51]⟩),vE,(.str ⟨#[52,32,98,108,111,119,32,100]⟩),(.str ⟨#[52,32,98,108,111,119,32,101]⟩),(.str ⟨#[52,32,111,102,102,32,100]⟩),(.str ⟨#[52,32,111,102,102,32,101]⟩),(.str ⟨#[52,32,98,108,97,110,107,32,49]⟩),(.str ⟨#[53,32,114,101,97,100,32,50,48,32,110,101,119,32,54]⟩),(.str ⟨#[53,32,116,111,114,99,104,32,50,48]⟩),(.str ⟨#[53,32,116,111,114,99,104,32,50,49]⟩),(.str ⟨#[53,32,99,117,116,32,98,111,119,32,50,49]⟩),(.str ⟨#[53,32,99,117,116,32,109,97,115,116,32,50,48]⟩),(.str ⟨#[53,32,99,117,116,32,98,111,119,32,50,48]⟩),(.str ⟨#[53,32,99,117,116,32,109,105,100,32,50,48]⟩),(.str ⟨#[53,32,109,97,121]⟩),(.str ⟨#[53,32,99,117,116,32,115,116,101,114,110,32,50,48]⟩),(.str ⟨#[52,32,109,97,121]⟩),(.str ⟨#[53,32,99,117,116,32,109,105,100]⟩),(.str ⟨#[53,32,104,101,97,112,115]⟩),(.str ⟨#[54,32,112,97,112,101,114,32,111,105,108,32,121,97,114,100,32,112,105,116,32,54,48,48,32,45]⟩),(.str ⟨#[54,32,112,97,112,101,114,32,111,105,108,32,121,97,114,100,32,112,105,116,32,53,48,48,32,48]⟩),(.str ⟨#[54,32,112,97,112,101,114,32,111,105,108,32,121,97,114,100,32,45,32,51,48,48,32,45]⟩),(.str ⟨#[54,32,102,111,117,110,100,32,111,105,108,32,121,97,114,100,32,49,48,48,32,49,48,48]⟩),(.str ⟨#[54,32,102,111,117,110,100,32,111,105,108,32,112,105,116,32,54,48,48,32,54,48,48]⟩),(.str ⟨#[54,32,102,97,108,115,101]⟩),(.str ⟨#[54,32,112,97,121,115]⟩)])⟩
theorem Ka:aq Tryz.prog ob8:=kn E3 (by kernel_rfl) (by kernel_rfl) (by kernel_rfl) (by kernel_rfl)
def oL9:List aA:=ob8 :: oL8
theorem ye:aB Tryz.prog oL9:=⟨Ka,E3⟩
def ob9:aA:=⟨aaY,[(.agg [aX,(.slice 10 [])])],(.tup [jj 0,jj 0,jj 0])⟩
theorem Ko:aq Tryz.prog ob9:=kn ye (by kernel_rfl) (by kernel_rfl) (by kernel_rfl) (by kernel_rfl)
def Z4:List aA:=ob9 :: oL9
theorem ua:aB Tryz.prog Z4:=⟨Ko,ye⟩
def ad8:aA:=⟨ZX,[zv6,(.agg [jj 300,jj 310,jj 5])],(.tup [jj 0,jj 0,jj 0])⟩
theorem HB:aq Tryz.prog ad8:=kn ua (by kernel_rfl) (by kernel_rfl) (by kernel_rfl) (by kernel_rfl)
def Qq:List aA:=ad8 :: Z4
theorem sH:aB Tryz.prog Qq:=⟨HB,ua⟩
def adV:aA:=⟨Q8,[zv8],(.tup [jj 0,jj 0,jj 0])⟩
theorem H0:aq Tryz.prog adV:=kn sH (by kernel_rfl) (by kernel_rfl) (by kernel_rfl) (by kernel_rfl)
def UE:List aA:=adV :: Qq
theorem tY:aB Tryz.prog UE:=⟨H0,sH⟩
end Go.AM
