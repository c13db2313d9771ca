/- The examples of chapter 13: the lines, and what comes of them. Lines whose work is known, az oracles: whatever answers stand in the list already. The examples of chapter 13: the desk behind each line. -/
import Derived.Test.YtcdfnopkemadjaaGreatDoorTY14
namespace Go.AM
open Go.Proofs
set_option maxRecDepth 100000
def ng:aa:=ME
def n6:aa:=(.slice 1 [(.str ⟨#[51,32,99,117,116,32,98,111,119,32,50,48]⟩),(.str ⟨#[51,32,114,117,110,32,49,32,48]⟩),(.str ⟨#[51,32,114,117,110,32,48,32,48]⟩),vE,(.str ⟨#[51,32,98,108,97,110,107,32,51]⟩),vE,(.str ⟨#[52,32,98,108,111,119,32,100]⟩),(.str ⟨#[52,32,98,108,111,119,32,101]⟩),(.str ⟨#[52,32,111,102,102,32,100]⟩),(.str ⟨#[52,32,111,102,102,32,101]⟩),(.str ⟨#[52,32,98,108,97,110,107,32,49]⟩),(.str ⟨#[53,32,114,101,97,100,32,50,48,32,110,101,119,32,54]⟩),(.str ⟨#[53,32,116,111,114,99,104,32,50,48]⟩),(.str ⟨#[53,32,116,111,114,99,104,32,50,49]⟩),(.str ⟨#[53,32,99,117,116,32,98,111,119,32,50,49]⟩),(.str ⟨#[53,32,99,117,116,32,109,97,115,116,32,50,48]⟩),(.str ⟨#[53,32,99,117,116,32,98,111,119,32,50,48]⟩),(.str ⟨#[53,32,99,117,116,32,109,105,100,32,50,48]⟩),(.str ⟨#[53,32,109,97,121]⟩),(.str ⟨#[53,32,99,117,116,32,115,116,101,114,110,32,50,48]⟩),(.str ⟨#[52,32,109,97,121]⟩),(.str ⟨#[53,32,99,117,116,32,109,105,100]⟩),(.str ⟨#[53,32,104,101,97,112,115]⟩),(.str ⟨#[54,32,112,97,112,101,114,32,111,105,108,32,121,97,114,100,32,112,105,116,32,54,48,48,32,45]⟩),(.str ⟨#[54,32,112,97,112,101,114,32,111,105,108,32,121,97,114,100,32,112,105,116,32,53,48,48,32,48]⟩),(.str ⟨#[54,32,112,97,112,101,114,32,111,105,108,32,121,97,114,100,32,45,32,51,48,48,32,45]⟩),(.str ⟨#[54,32,102,111,117,110,100,32,111,105,108,32,121,97,114,100,32,49,48,48,32,49,48,48]⟩),(.str ⟨#[54,32,102,111,117,110,100,32,111,105,108,32,112,105,116,32,54,48,48,32,54,48,48]⟩),(.str ⟨#[54,32,102,97,108,115,101]⟩),(.str ⟨#[54,32,112,97,121,115]⟩)])
def HR:aa:=(.slice 2 [(.agg [jj 8,(.slice 1 [])]),(.agg [jj 9,(.slice 1 [])]),(.agg [jj 0,(.slice 1 [jj 7200,jj 12000])]),(.agg [jj 0,(.slice 1 [jj 5])]),(.agg [jj 0,(.slice 1 [jj 3,jj 5])]),(.agg [jj 5,(.slice 1 [])]),(.agg [jj 0,(.slice 1 [jj 3])]),(.agg [jj 0,(.slice 1 [jj 3,jj 4])]),(.agg [jj 0,(.slice 1 [jj 3,jj 4])]),(.agg [jj 0,(.slice 1 [jj 3,jj 4])]),(.agg [jj 2,(.slice 1 [])]),(.agg [jj 0,(.slice 1 [jj 4,jj 8])]),(.agg [jj 0,(.slice 1 [jj 20])]),(.agg [jj 0,(.slice 1 [jj (-1)])]),(.agg [jj 9,(.slice 1 [])]),(.agg [jj 4,(.slice 1 [])]),(.agg [jj 0,(.slice 1 [jj 1000,jj 1200])]),(.agg [jj 9,(.slice 1 [])]),(.agg [jj 0,(.slice 1 [jj 2])]),(.agg [jj 0,(.slice 1 [jj 2000,jj 2000])]),(.agg [jj 7,(.slice 1 [])]),(.agg [jj 6,(.slice 1 [])]),(.agg [jj 0,(.slice 1 [jj 2000,jj 2000,jj 1000,jj 1200,jj 0,jj 0,jj 0,jj 0,jj 0,jj 0,jj 500,jj 600])]),(.agg [jj 0,(.slice 1 [jj 0])]),(.agg [jj 0,(.slice 1 [jj 1])]),(.agg [jj 0,(.slice 1 [jj 2])]),(.agg [jj 0,(.slice 1 [])]),(.agg [jj 0,(.slice 1 [])]),(.agg [jj 0,(.slice 1 [jj 1])]),(.agg [jj 0,(.slice 1 [jj 300,jj 400,jj 400,jj 654,jj 163,jj 300,jj 0,jj 0])])])
def qT (n:Nat):aa → aa
 | .slice s l=>.slice s (l.take n)
 | v=>v
def aM (n:Nat):aA:=⟨F_5,[ng,qT n n6], .tup [qT n HR,jj 0]⟩
def aN (n:Nat):aA:=⟨F_7,[qT n HR,qT n HR], .bool true⟩
set_option maxRecDepth 100000
def dd (m:Nat):ab:=List.replicate m .dead
structure LnE where
 m:Nat
 d:List aa
 s:aa
 z:Option (List aa)
 a:aa
 e:List aa
 k:Nat
def LnE.at (e:LnE) (zs:List aa):ab:=.dead :: .box e.d :: .arr 2 zs :: dd e.m
def LnE.to (e:LnE) (zs:List aa):ab:=.dead :: .box e.e :: .arr 2 zs :: dd e.k
def aw (e:LnE):Prop:=∀ zs,(e.z = none ∨ e.z = some zs) → af Tryz.prog pj = true ∧ Spec Tryz.prog pj [.ptr 1 0,e.s] (e.at zs) fun q σ=>q = .ret e.a ∧ σ = e.to zs
def ki:List LnE → Prop
 | []=>True
 | e :: r=>aw e ∧ ki r
theorem aw.of {l:List aA} (hl:aB Tryz.prog l) {e:LnE} (h:∀ zs,(e.z = none ∨ e.z = some zs) → (F4 Tryz.prog fH l).eff pj [.ptr 1 0,e.s] (e.at zs) = some (.ret e.a,e.to zs)):aw e:=
 fun zs hz=>(qf hl).2 _ _ _ _ _ (h zs hz)
def zOk (z:Option (List aa)) (zs:List aa):Bool:=match z with
 | none=>true
 | some y=>fy y zs
def Ia:List LnE → List aa → ab → XR
 | [],_,_=>none
 | e :: r,args,σ=>match args,σ with
  | [.ptr 1 0,s], .dead :: .box d :: .arr 2 zs :: t=>if bm e.s s && fy e.d d && lx (dd e.m) t && zOk e.z zs then some (.ret e.a,e.to zs) else Ia r args σ
  | _,_=>none
theorem sD:∀ {l:List LnE},ki l → ∀ args σ a σ',Ia l args σ = some (a,σ') → af Tryz.prog pj = true ∧ Spec Tryz.prog pj args σ fun q σ''=>q = a ∧ σ'' = σ'
 | [],_,_,_,_,_,h=>by cases h
 | e :: r,⟨he,hr⟩,args,σ,a,σ',h=>by
  unfold Ia at h
  split at h
  ·rename_i s d zs t
   split at h
   ·rename_i hc;simp only [Bool.and_eq_true] at hc;obtain ⟨⟨⟨h1,h2⟩,h3⟩,h4⟩:=hc;have e1:=dp h1;have e2:=cU h2;have e3:=jl h3;cases h;have hz:e.z = none ∨ e.z = some zs:=by
     unfold zOk at h4
     split at h4
     ·rename_i hz; exact .inl hz
     ·rename_i y hz; rw [hz,cU h4]; exact .inr rfl
    have:=he zs hz;unfold LnE.at at this;rw [e1,e2,e3] at this;exact this
   ·exact sD hr _ _ _ _ h
  ·cases h
def lnO (l:List aA) (t:List LnE):Orc:=⟨(Hn l).go,fun f args σ=>if f = pj then Ia t args σ else om f args σ⟩
theorem L9 {l:List aA} (h:aB Tryz.prog l) {t:List LnE} (ht:ki t):fV Tryz.prog (lnO l t):=by
 refine ⟨(kE h).1,fun f args σ a σ' hx=>?_⟩;simp only [lnO] at hx
 split at hx
 ·rename_i e; subst e; exact sD ht _ _ _ _ hx
 ·exact mD _ _ _ _ _ hx
theorem knK {l:List aA} (hl:aB Tryz.prog l) {t:List LnE} (ht:ki t) {e:aA} (h:isV e.v (xFc Tryz.prog fH 5000 (gB Tryz.prog fH (lnO l t) 5000 60) [] e.f e.args []) = true) (hb:af Tryz.prog e.f = true) (h2:cF e.args = true) (h3:e.v.pure = true):aq Tryz.prog e:=
 gI fY (L9 hl ht) h hb h2 h3
theorem aQ:∀ {a b:List LnE},ki a → ki b → ki (a ++ b)
 | [],_,_,h=>h
 | _ :: _,_,h,k=>⟨h.1,aQ h.2 k⟩
set_option maxRecDepth 100000
def dk0:List aa:=[aX,(.slice 10 []),jj 20,jj 25,jj 6000,jj 12000,jj 50,zv5,jj 300,jj 310,jj 5,jj 0,jj 40,jj 1,jj 3,jj (-6),jj (-4),jj 10,(.slice 2 [(.agg [jj 10,jj 19])]),zv7,zv9,bR,(.slice 7 [cK,cq,cA]),jj 200,jj 800,jj 0,jj 60,da,zv0,zv1,zv2,(.slice 5 []),(.slice 4 []),jj 1000,jj 1200,cV,jj 0,(.bool false),jj 0,jj 0,(.slice 1 []),(.slice 2 []),(.slice 3 []),(.slice 1 []),(.slice 5 []),(.slice 4 []),aX]
def dk1:List aa:=[aX,(.slice 10 []),jj 20,jj 25,jj 6000,jj 12000,jj 50,zv5,jj 300,jj 310,jj 5,jj 0,jj 40,jj 1,jj 3,jj (-6),jj (-4),jj 10,(.slice 2 [(.agg [jj 10,jj 19])]),zv7,zv9,bR,(.slice 7 [cK,cq,cA]),jj 200,jj 800,jj 0,jj 60,da,zv0,zv1,zv2,(.slice 5 []),(.slice 4 []),jj 1000,jj 1200,cV,jj 0,(.bool false),jj 0,jj 0,(.slice 1 []),(.slice 2 []),(.slice 3 []),(.slice 1 []),(.slice 5 []),(.slice 4 []),aX]
def dk2:List aa:=[aX,(.slice 10 []),jj 20,jj 25,jj 6000,jj 12000,jj 50,zv5,jj 300,jj 310,jj 5,jj 0,jj 40,jj 1,jj 3,jj (-6),jj (-4),jj 10,(.slice 2 [(.agg [jj 10,jj 19])]),zv7,zv9,bR,(.slice 7 [cK,cq,cA]),jj 200,jj 800,jj 0,jj 60,da,zv0,zv1,zv2,(.slice 5 []),(.slice 4 []),jj 1000,jj 1200,cV,jj 0,(.bool false),jj 0,jj 0,(.slice 1 []),(.slice 2 []),(.slice 3 []),(.slice 1 []),(.slice 5 []),(.slice 4 []),aX]
def dk3:List aa:=[aX,(.slice 10 []),jj 20,jj 25,jj 6000,jj 12000,jj 50,zv5,jj 300,jj 310,jj 5,jj 0,jj 40,jj 1,jj 3,jj (-6),jj (-4),jj 10,(.slice 2 [(.agg [jj 10,jj 19])]),zv7,zv9,bR,(.slice 7 [cK,cq,cA]),jj 200,jj 800,jj 0,jj 60,da,zv0,zv1,zv2,(.slice 5 []),(.slice 4 []),jj 1000,jj 1200,cV,jj 3,(.bool true),jj 0,jj 0,(.slice 1 []),(.slice 2 []),(.slice 3 []),(.slice 1 []),(.slice 5 []),(.slice 4 []),aX]
def dk4:List aa:=[aX,(.slice 10 []),jj 20,jj 25,jj 6000,jj 12000,jj 50,zv5,jj 300,jj 310,jj 5,jj 0,jj 40,jj 1,jj 3,jj (-6),jj (-4),jj 10,(.slice 2 [(.agg [jj 10,jj 19])]),zv7,zv9,bR,(.slice 7 [cK,cq,cA]),jj 200,jj 800,jj 0,jj 60,da,zv0,zv1,zv2,(.slice 5 []),(.slice 4 []),jj 1000,jj 1200,cV,jj 3,(.bool true),jj 0,jj 0,(.slice 1 [jj 5]),(.slice 2 []),(.slice 3 []),(.slice 1 []),(.slice 5 []),(.slice 4 []),aX]
def dk5:List aa:=[aX,(.slice 10 []),jj 20,jj 25,jj 6000,jj 12000,jj 50,zv5,jj 300,jj 310,jj 5,jj 0,jj 40,jj 1,jj 3,jj (-6),jj (-4),jj 10,(.slice 2 [(.agg [jj 10,jj 19])]),zv7,zv9,bR,(.slice 7 [cK,cq,cA]),jj 200,jj 800,jj 0,jj 60,da,zv0,zv1,zv2,(.slice 5 []),(.slice 4 []),jj 1000,jj 1200,cV,jj 3,(.bool true),jj 0,jj 0,(.slice 1 [jj 3,jj 5]),(.slice 2 []),(.slice 3 []),(.slice 1 []),(.slice 5 []),(.slice 4 []),aX]
def dk6:List aa:=[aX,(.slice 10 []),jj 20,jj 25,jj 6000,jj 12000,jj 50,zv5,jj 300,jj 310,jj 5,jj 0,jj 40,jj 1,jj 3,jj (-6),jj (-4),jj 10,(.slice 2 [(.agg [jj 10,jj 19])]),zv7,zv9,bR,(.slice 7 [cK,cq,cA]),jj 200,jj 800,jj 0,jj 60,da,zv0,zv1,zv2,(.slice 5 []),(.slice 4 []),jj 1000,jj 1200,cV,jj 3,(.bool true),jj 0,jj 0,(.slice 1 [jj 3,jj 5]),(.slice 2 []),(.slice 3 []),(.slice 1 []),(.slice 5 []),(.slice 4 []),aX]
def dk7:List aa:=[aX,(.slice 10 []),jj 20,jj 25,jj 6000,jj 12000,jj 50,zv5,jj 300,jj 310,jj 5,jj 0,jj 40,jj 1,jj 3,jj (-6),jj (-4),jj 10,(.slice 2 [(.agg [jj 10,jj 19])]),zv7,zv9,bR,(.slice 7 [cK,cq,cA]),jj 200,jj 800,jj 0,jj 60,da,zv0,zv1,zv2,(.slice 5 []),(.slice 4 []),jj 1000,jj 1200,cV,jj 4,(.bool true),jj 0,jj 0,(.slice 1 [jj 3,jj 5]),(.slice 2 [(.agg [jj 3,(.bool false)])]),(.slice 3 []),(.slice 1 []),(.slice 5 []),(.slice 4 []),aX]
def dk8:List aa:=[aX,(.slice 10 []),jj 20,jj 25,jj 6000,jj 12000,jj 50,zv5,jj 300,jj 310,jj 5,jj 0,jj 40,jj 1,jj 3,jj (-6),jj (-4),jj 10,(.slice 2 [(.agg [jj 10,jj 19])]),zv7,zv9,bR,(.slice 7 [cK,cq,cA]),jj 200,jj 800,jj 0,jj 60,da,zv0,zv1,zv2,(.slice 5 []),(.slice 4 []),jj 1000,jj 1200,cV,jj 4,(.bool true),jj 0,jj 0,(.slice 1 [jj 3,jj 5]),(.slice 2 [(.agg [jj 3,(.bool false)]),(.agg [jj 4,(.bool false)])]),(.slice 3 []),(.slice 1 []),(.slice 5 []),(.slice 4 []),aX]
def dk9:List aa:=[aX,(.slice 10 []),jj 20,jj 25,jj 6000,jj 12000,jj 50,zv5,jj 300,jj 310,jj 5,jj 0,jj 40,jj 1,jj 3,jj (-6),jj (-4),jj 10,(.slice 2 [(.agg [jj 10,jj 19])]),zv7,zv9,bR,(.slice 7 [cK,cq,cA]),jj 200,jj 800,jj 0,jj 60,da,zv0,zv1,zv2,(.slice 5 []),(.slice 4 []),jj 1000,jj 1200,cV,jj 4,(.bool true),jj 0,jj 0,(.slice 1 [jj 3,jj 5]),(.slice 2 [(.agg [jj 3,(.bool false)]),(.agg [jj 4,(.bool false)]),(.agg [jj 3,(.bool true)])]),(.slice 3 []),(.slice 1 []),(.slice 5 []),(.slice 4 []),aX]
def Yf:List aa:=[aX,(.slice 10 []),jj 20,jj 25,jj 6000,jj 12000,jj 50,zv5,jj 300,jj 310,jj 5,jj 0,jj 40,jj 1,jj 3,jj (-6),jj (-4),jj 10,(.slice 2 [(.agg [jj 10,jj 19])]),zv7,zv9,bR,(.slice 7 [cK,cq,cA]),jj 200,jj 800,jj 0,jj 60,da,zv0,zv1,zv2,(.slice 5 []),(.slice 4 []),jj 1000,jj 1200,cV,jj 4,(.bool true),jj 0,jj 0,(.slice 1 [jj 3,jj 5]),fo,(.slice 3 []),(.slice 1 []),(.slice 5 []),(.slice 4 []),aX]
def P5:List aa:=[aX,(.slice 10 []),jj 20,jj 25,jj 6000,jj 12000,jj 50,zv5,jj 300,jj 310,jj 5,jj 0,jj 40,jj 1,jj 3,jj (-6),jj (-4),jj 10,(.slice 2 [(.agg [jj 10,jj 19])]),zv7,zv9,bR,(.slice 7 [cK,cq,cA]),jj 200,jj 800,jj 0,jj 60,da,zv0,zv1,zv2,(.slice 5 []),(.slice 4 []),jj 1000,jj 1200,cV,jj 4,(.bool true),jj 0,jj 0,(.slice 1 [jj 3,jj 5]),fo,(.slice 3 []),(.slice 1 []),(.slice 5 []),(.slice 4 []),aX]
def adg:List aa:=[aX,(.slice 10 []),jj 20,jj 25,jj 6000,jj 12000,jj 50,zv5,jj 300,jj 310,jj 5,jj 0,jj 40,jj 1,jj 3,jj (-6),jj (-4),jj 10,(.slice 2 [(.agg [jj 10,jj 19])]),zv7,zv9,bR,(.slice 7 [cK,cq,cA]),jj 200,jj 800,jj 0,jj 60,da,zv0,zv1,zv2,(.slice 5 []),(.slice 4 []),jj 1000,jj 1200,cV,jj 5,(.bool true),jj 0,jj 0,(.slice 1 [jj 3,jj 5]),fo,(.slice 3 [(.agg [jj 20,jj 1,jj 6])]),(.slice 1 []),(.slice 5 []),(.slice 4 []),aX]
def adN:List aa:=[aX,(.slice 10 []),jj 20,jj 25,jj 6000,jj 12000,jj 50,zv5,jj 300,jj 310,jj 5,jj 0,jj 40,jj 1,jj 3,jj (-6),jj (-4),jj 10,(.slice 2 [(.agg [jj 10,jj 19])]),zv7,zv9,bR,(.slice 7 [cK,cq,cA]),jj 200,jj 800,jj 0,jj 60,da,zv0,zv1,zv2,(.slice 5 []),(.slice 4 []),jj 1000,jj 1200,cV,jj 5,(.bool true),jj 0,jj 0,(.slice 1 [jj 3,jj 5]),fo,(.slice 3 [(.agg [jj 20,jj 1,jj 6])]),(.slice 1 []),(.slice 5 []),(.slice 4 []),aX]
def ado:List aa:=[aX,(.slice 10 []),jj 20,jj 25,jj 6000,jj 12000,jj 50,zv5,jj 300,jj 310,jj 5,jj 0,jj 40,jj 1,jj 3,jj (-6),jj (-4),jj 10,(.slice 2 [(.agg [jj 10,jj 19])]),zv7,zv9,bR,(.slice 7 [cK,cq,cA]),jj 200,jj 800,jj 0,jj 60,da,zv0,zv1,zv2,(.slice 5 []),(.slice 4 []),jj 1000,jj 1200,cV,jj 5,(.bool true),jj 0,jj 0,(.slice 1 [jj 3,jj 5]),fo,(.slice 3 [(.agg [jj 20,jj 1,jj 6])]),(.slice 1 []),(.slice 5 []),(.slice 4 []),aX]
def Va:List aa:=[aX,(.slice 10 []),jj 20,jj 25,jj 6000,jj 12000,jj 50,zv5,jj 300,jj 310,jj 5,jj 0,jj 40,jj 1,jj 3,jj (-6),jj (-4),jj 10,(.slice 2 [(.agg [jj 10,jj 19])]),zv7,zv9,bR,(.slice 7 [cK,cq,cA]),jj 200,jj 800,jj 0,jj 60,da,zv0,zv1,zv2,(.slice 5 []),(.slice 4 []),jj 1000,jj 1200,cV,jj 5,(.bool true),jj 0,jj 0,(.slice 1 [jj 3,jj 5]),fo,(.slice 3 [(.agg [jj 20,jj 1,jj 6])]),(.slice 1 []),(.slice 5 []),(.slice 4 []),aX]
def Ue:List aa:=[aX,(.slice 10 []),jj 20,jj 25,jj 6000,jj 12000,jj 50,zv5,jj 300,jj 310,jj 5,jj 0,jj 40,jj 1,jj 3,jj (-6),jj (-4),jj 10,(.slice 2 [(.agg [jj 10,jj 19])]),zv7,zv9,bR,(.slice 7 [cK,cq,cA]),jj 200,jj 800,jj 0,jj 60,da,zv0,zv1,zv2,(.slice 5 []),(.slice 4 []),jj 1000,jj 1200,cV,jj 5,(.bool true),jj 0,jj 0,(.slice 1 [jj 3,jj 5]),fo,(.slice 3 [(.agg [jj 20,jj 1,jj 6])]),(.slice 1 []),(.slice 5 []),(.slice 4 []),aX]
def aae:List aa:=[aX,(.slice 10 []),jj 20,jj 25,jj 6000,jj 12000,jj 50,zv5,jj 300,jj 310,jj 5,jj 0,jj 40,jj 1,jj 3,jj (-6),jj (-4),jj 10,(.slice 2 [(.agg [jj 10,jj 19])]),zv7,zv9,bR,(.slice 7 [cK,cq,cA]),jj 200,jj 800,jj 0,jj 60,da,zv0,zv1,zv2,(.slice 5 []),(.slice 4 []),jj 1000,jj 1200,cV,jj 5,(.bool true),jj 0,jj 0,(.slice 1 [jj 3,jj 5]),fo,(.slice 3 [(.agg [jj 20,jj 1,jj 6])]),(.slice 1 [jj 0]),(.slice 5 []),(.slice 4 []),aX]
def ad9:List aa:=[aX,(.slice 10 []),jj 20,jj 25,jj 6000,jj 12000,jj 50,zv5,jj 300,jj 310,jj 5,jj 0,jj 40,jj 1,jj 3,jj (-6),jj (-4),jj 10,(.slice 2 [(.agg [jj 10,jj 19])]),zv7,zv9,bR,(.slice 7 [cK,cq,cA]),jj 200,jj 800,jj 0,jj 60,da,zv0,zv1,zv2,(.slice 5 []),(.slice 4 []),jj 1000,jj 1200,cV,jj 5,(.bool true),jj 0,jj 0,(.slice 1 [jj 3,jj 5]),fo,(.slice 3 [(.agg [jj 20,jj 1,jj 6])]),(.slice 1 [jj 0]),(.slice 5 []),(.slice 4 []),aX]
def WO:List aa:=[aX,(.slice 10 []),jj 20,jj 25,jj 6000,jj 12000,jj 50,zv5,jj 300,jj 310,jj 5,jj 0,jj 40,jj 1,jj 3,jj (-6),jj (-4),jj 10,(.slice 2 [(.agg [jj 10,jj 19])]),zv7,zv9,bR,(.slice 7 [cK,cq,cA]),jj 200,jj 800,jj 0,jj 60,da,zv0,zv1,zv2,(.slice 5 []),(.slice 4 []),jj 1000,jj 1200,cV,jj 5,(.bool true),jj 0,jj 0,(.slice 1 [jj 3,jj 5]),fo,(.slice 3 [(.agg [jj 20,jj 1,jj 6])]),(.slice 1 [jj 0]),(.slice 5 []),(.slice 4 []),aX]
def Tq:List aa:=[aX,(.slice 10 []),jj 20,jj 25,jj 6000,jj 12000,jj 50,zv5,jj 300,jj 310,jj 5,jj 0,jj 40,jj 1,jj 3,jj (-6),jj (-4),jj 10,(.slice 2 [(.agg [jj 10,jj 19])]),zv7,zv9,bR,(.slice 7 [cK,cq,cA]),jj 200,jj 800,jj 0,jj 60,da,zv0,zv1,zv2,(.slice 5 []),(.slice 4 []),jj 1000,jj 1200,cV,jj 5,(.bool true),jj 0,jj 0,(.slice 1 [jj 3,jj 5]),fo,(.slice 3 [(.agg [jj 20,jj 1,jj 6])]),(.slice 1 [jj 0,jj 2]),(.slice 5 []),(.slice 4 []),aX]
def WH:List aa:=[aX,(.slice 10 []),jj 20,jj 25,jj 6000,jj 12000,jj 50,zv5,jj 300,jj 310,jj 5,jj 0,jj 40,jj 1,jj 3,jj (-6),jj (-4),jj 10,(.slice 2 [(.agg [jj 10,jj 19])]),zv7,zv9,bR,(.slice 7 [cK,cq,cA]),jj 200,jj 800,jj 0,jj 60,da,zv0,zv1,zv2,(.slice 5 []),(.slice 4 []),jj 1000,jj 1200,cV,jj 5,(.bool true),jj 0,jj 0,(.slice 1 [jj 3,jj 5]),fo,(.slice 3 [(.agg [jj 20,jj 1,jj 6])]),(.slice 1 [jj 0,jj 2]),(.slice 5 []),(.slice 4 []),aX]
def aeA:List aa:=[aX,(.slice 10 []),jj 20,jj 25,jj 6000,jj 12000,jj 50,zv5,jj 300,jj 310,jj 5,jj 0,jj 40,jj 1,jj 3,jj (-6),jj (-4),jj 10,(.slice 2 [(.agg [jj 10,jj 19])]),zv7,zv9,bR,(.slice 7 [cK,cq,cA]),jj 200,jj 800,jj 0,jj 60,da,zv0,zv1,zv2,(.slice 5 []),(.slice 4 []),jj 1000,jj 1200,cV,jj 5,(.bool true),jj 0,jj 0,(.slice 1 [jj 3,jj 5]),fo,(.slice 3 [(.agg [jj 20,jj 1,jj 6])]),(.slice 1 [jj 0,jj 2]),(.slice 5 []),(.slice 4 []),aX]
def Qs:List aa:=[aX,(.slice 10 []),jj 20,jj 25,jj 6000,jj 12000,jj 50,zv5,jj 300,jj 310,jj 5,jj 0,jj 40,jj 1,jj 3,jj (-6),jj (-4),jj 10,(.slice 2 [(.agg [jj 10,jj 19])]),zv7,zv9,bR,(.slice 7 [cK,cq,cA]),jj 200,jj 800,jj 0,jj 60,da,zv0,zv1,zv2,(.slice 5 []),(.slice 4 []),jj 1000,jj 1200,cV,jj 5,(.bool true),jj 0,jj 0,(.slice 1 [jj 3,jj 5]),fo,(.slice 3 [(.agg [jj 20,jj 1,jj 6])]),(.slice 1 [jj 0,jj 2]),(.slice 5 []),(.slice 4 []),aX]
def UD:List aa:=[aX,(.slice 10 []),jj 20,jj 25,jj 6000,jj 12000,jj 50,zv5,jj 300,jj 310,jj 5,jj 0,jj 40,jj 1,jj 3,jj (-6),jj (-4),jj 10,(.slice 2 [(.agg [jj 10,jj 19])]),zv7,zv9,bR,(.slice 7 [cK,cq,cA]),jj 200,jj 800,jj 0,jj 60,da,zv0,zv1,zv2,(.slice 5 []),(.slice 4 []),jj 1000,jj 1200,cV,jj 6,(.bool true),jj 0,jj 0,(.slice 1 [jj 3,jj 5]),fo,(.slice 3 [(.agg [jj 20,jj 1,jj 6])]),(.slice 1 [jj 0,jj 2]),(.slice 5 [(.agg [jj 0,jj 0,jj 1,jj 600,jj (-1)])]),(.slice 4 []),aX]
def Wk:List aa:=[aX,(.slice 10 []),jj 20,jj 25,jj 6000,jj 12000,jj 50,zv5,jj 300,jj 310,jj 5,jj 0,jj 40,jj 1,jj 3,jj (-6),jj (-4),jj 10,(.slice 2 [(.agg [jj 10,jj 19])]),zv7,zv9,bR,(.slice 7 [cK,cq,cA]),jj 200,jj 800,jj 0,jj 60,da,zv0,zv1,zv2,(.slice 5 []),(.slice 4 []),jj 1000,jj 1200,cV,jj 6,(.bool true),jj 0,jj 0,(.slice 1 [jj 3,jj 5]),fo,(.slice 3 [(.agg [jj 20,jj 1,jj 6])]),(.slice 1 [jj 0,jj 2]),(.slice 5 [(.agg [jj 0,jj 0,jj 1,jj 600,jj 1]),(.agg [jj 0,jj 0,jj 1,jj 500,jj 0])]),(.slice 4 []),aX]
def aaH:List aa:=[aX,(.slice 10 []),jj 20,jj 25,jj 6000,jj 12000,jj 50,zv5,jj 300,jj 310,jj 5,jj 0,jj 40,jj 1,jj 3,jj (-6),jj (-4),jj 10,(.slice 2 [(.agg [jj 10,jj 19])]),zv7,zv9,bR,(.slice 7 [cK,cq,cA]),jj 200,jj 800,jj 0,jj 60,da,zv0,zv1,zv2,(.slice 5 []),(.slice 4 []),jj 1000,jj 1200,cV,jj 6,(.bool true),jj 0,jj 0,(.slice 1 [jj 3,jj 5]),fo,(.slice 3 [(.agg [jj 20,jj 1,jj 6])]),(.slice 1 [jj 0,jj 2]),zv3,(.slice 4 []),aX]
def Ve:List aa:=[aX,(.slice 10 []),jj 20,jj 25,jj 6000,jj 12000,jj 50,zv5,jj 300,jj 310,jj 5,jj 0,jj 40,jj 1,jj 3,jj (-6),jj (-4),jj 10,(.slice 2 [(.agg [jj 10,jj 19])]),zv7,zv9,bR,(.slice 7 [cK,cq,cA]),jj 200,jj 800,jj 0,jj 60,da,zv0,zv1,zv2,(.slice 5 []),(.slice 4 []),jj 1000,jj 1200,cV,jj 6,(.bool true),jj 0,jj 0,(.slice 1 [jj 3,jj 5]),fo,(.slice 3 [(.agg [jj 20,jj 1,jj 6])]),(.slice 1 [jj 0,jj 2]),zv3,(.slice 4 [(.agg [jj 0,jj 0,jj 100,jj 100])]),aX]
def WN:List aa:=[aX,(.slice 10 []),jj 20,jj 25,jj 6000,jj 12000,jj 50,zv5,jj 300,jj 310,jj 5,jj 0,jj 40,jj 1,jj 3,jj (-6),jj (-4),jj 10,(.slice 2 [(.agg [jj 10,jj 19])]),zv7,zv9,bR,(.slice 7 [cK,cq,cA]),jj 200,jj 800,jj 0,jj 60,da,zv0,zv1,zv2,(.slice 5 []),(.slice 4 []),jj 1000,jj 1200,cV,jj 6,(.bool true),jj 0,jj 0,(.slice 1 [jj 3,jj 5]),fo,(.slice 3 [(.agg [jj 20,jj 1,jj 6])]),(.slice 1 [jj 0,jj 2]),zv3,(.slice 4 [(.agg [jj 0,jj 0,jj 100,jj 100]),(.agg [jj 0,jj 1,jj 600,jj 600])]),aX]
def NG:List aa:=[aX,(.slice 10 []),jj 20,jj 25,jj 6000,jj 12000,jj 50,zv5,jj 300,jj 310,jj 5,jj 0,jj 40,jj 1,jj 3,jj (-6),jj (-4),jj 10,(.slice 2 [(.agg [jj 10,jj 19])]),zv7,zv9,bR,(.slice 7 [cK,cq,cA]),jj 200,jj 800,jj 0,jj 60,da,zv0,zv1,zv2,(.slice 5 []),(.slice 4 []),jj 1000,jj 1200,cV,jj 6,(.bool true),jj 0,jj 0,(.slice 1 [jj 3,jj 5]),fo,(.slice 3 [(.agg [jj 20,jj 1,jj 6])]),(.slice 1 [jj 0,jj 2]),zv3,(.slice 4 [(.agg [jj 0,jj 0,jj 100,jj 100]),(.agg [jj 0,jj 1,jj 600,jj 600])]),aX]
def aiw:List aa:=[aX,(.slice 10 []),jj 20,jj 25,jj 6000,jj 12000,jj 50,zv5,jj 300,jj 310,jj 5,jj 0,jj 40,jj 1,jj 3,jj (-6),jj (-4),jj 10,(.slice 2 [(.agg [jj 10,jj 19])]),zv7,zv9,bR,(.slice 7 [cK,cq,cA]),jj 200,jj 800,jj 0,jj 60,da,zv0,zv1,zv2,(.slice 5 []),(.slice 4 []),jj 1000,jj 1200,cV,jj 6,(.bool true),jj 0,jj 0,(.slice 1 [jj 3,jj 5]),fo,(.slice 3 [(.agg [jj 20,jj 1,jj 6])]),(.slice 1 [jj 0,jj 2]),zv3,(.slice 4 [(.agg [jj 0,jj 0,jj 100,jj 100]),(.agg [jj 0,jj 1,jj 600,jj 600])]),aX]
def ags:List aa:=match HR with
 | .slice _ l=>l
 | _=>[]
def zj (n i:Nat):List aa:=ags.take i ++ List.replicate (n - i) (.agg [jj 0, .slice 1 []])
def le0:LnE:=⟨0,dk0,(.str ⟨#[51,32,99,117,116,32,98,111,119,32,50,48]⟩),none,(.tup [(.agg [jj 8,(.slice 1 [])]),(.bool false)]),dk1,9⟩
def le1:LnE:=⟨9,dk1,(.str ⟨#[51,32,114,117,110,32,49,32,48]⟩),none,(.tup [(.agg [jj 9,(.slice 1 [])]),(.bool false)]),dk2,19⟩
def le2:LnE:=⟨19,dk2,(.str ⟨#[51,32,114,117,110,32,48,32,48]⟩),none,(.tup [(.agg [jj 0,(.slice 1 [jj 7200,jj 12000])]),(.bool true)]),dk3,32⟩
def le3 (n:Nat):LnE:=⟨32,dk3,vE,some (zj n 3),(.tup [(.agg [jj 0,(.slice 1 [jj 5])]),(.bool true)]),dk4,45⟩
def le4 (n:Nat):LnE:=⟨45,dk4,(.str ⟨#[51,32,98,108,97,110,107,32,51]⟩),some (zj n 4),(.tup [(.agg [jj 0,(.slice 1 [jj 3,jj 5])]),(.bool true)]),dk5,58⟩
def le5:LnE:=⟨58,dk5,vE,none,(.tup [(.agg [jj 5,(.slice 1 [])]),(.bool false)]),dk6,67⟩
def le6:LnE:=⟨67,dk6,(.str ⟨#[52,32,98,108,111,119,32,100]⟩),none,(.tup [(.agg [jj 0,(.slice 1 [jj 3])]),(.bool true)]),dk7,78⟩
def le7:LnE:=⟨78,dk7,(.str ⟨#[52,32,98,108,111,119,32,101]⟩),none,(.tup [(.agg [jj 0,(.slice 1 [jj 3,jj 4])]),(.bool true)]),dk8,89⟩
def le8:LnE:=⟨89,dk8,(.str ⟨#[52,32,111,102,102,32,100]⟩),none,(.tup [(.agg [jj 0,(.slice 1 [jj 3,jj 4])]),(.bool true)]),dk9,100⟩
def le9:LnE:=⟨100,dk9,(.str ⟨#[52,32,111,102,102,32,101]⟩),none,(.tup [(.agg [jj 0,(.slice 1 [jj 3,jj 4])]),(.bool true)]),Yf,111⟩
def Sb:LnE:=⟨111,Yf,(.str ⟨#[52,32,98,108,97,110,107,32,49]⟩),none,(.tup [(.agg [jj 2,(.slice 1 [])]),(.bool false)]),P5,120⟩
def VS:LnE:=⟨120,P5,(.str ⟨#[53,32,114,101,97,100,32,50,48,32,110,101,119,32,54]⟩),none,(.tup [(.agg [jj 0,(.slice 1 [jj 4,jj 8])]),(.bool true)]),adg,133⟩
def ad2:LnE:=⟨133,adg,(.str ⟨#[53,32,116,111,114,99,104,32,50,48]⟩),none,(.tup [(.agg [jj 0,(.slice 1 [jj 20])]),(.bool false)]),adN,142⟩
def adv:LnE:=⟨142,adN,(.str ⟨#[53,32,116,111,114,99,104,32,50,49]⟩),none,(.tup [(.agg [jj 0,(.slice 1 [jj (-1)])]),(.bool false)]),ado,151⟩
def Vj:LnE:=⟨151,ado,(.str ⟨#[53,32,99,117,116,32,98,111,119,32,50,49]⟩),none,(.tup [(.agg [jj 9,(.slice 1 [])]),(.bool false)]),Va,160⟩
def aaG:LnE:=⟨160,Va,(.str ⟨#[53,32,99,117,116,32,109,97,115,116,32,50,48]⟩),none,(.tup [(.agg [jj 4,(.slice 1 [])]),(.bool false)]),Ue,169⟩
def YK:LnE:=⟨169,Ue,(.str ⟨#[53,32,99,117,116,32,98,111,119,32,50,48]⟩),none,(.tup [(.agg [jj 0,(.slice 1 [jj 1000,jj 1200])]),(.bool true)]),aae,182⟩
def XH:LnE:=⟨182,aae,(.str ⟨#[53,32,99,117,116,32,109,105,100,32,50,48]⟩),none,(.tup [(.agg [jj 9,(.slice 1 [])]),(.bool false)]),ad9,193⟩
def Ra:LnE:=⟨193,ad9,(.str ⟨#[53,32,109,97,121]⟩),none,(.tup [(.agg [jj 0,(.slice 1 [jj 2])]),(.bool false)]),WO,203⟩
def SH:LnE:=⟨203,WO,(.str ⟨#[53,32,99,117,116,32,115,116,101,114,110,32,50,48]⟩),none,(.tup [(.agg [jj 0,(.slice 1 [jj 2000,jj 2000])]),(.bool true)]),Tq,216⟩
def aaO:LnE:=⟨216,Tq,(.str ⟨#[52,32,109,97,121]⟩),none,(.tup [(.agg [jj 7,(.slice 1 [])]),(.bool false)]),WH,225⟩
def Sp:LnE:=⟨225,WH,(.str ⟨#[53,32,99,117,116,32,109,105,100]⟩),none,(.tup [(.agg [jj 6,(.slice 1 [])]),(.bool false)]),aeA,231⟩
def QW:LnE:=⟨231,aeA,(.str ⟨#[53,32,104,101,97,112,115]⟩),none,(.tup [(.agg [jj 0,(.slice 1 [jj 2000,jj 2000,jj 1000,jj 1200,jj 0,jj 0,jj 0,jj 0,jj 0,jj 0,jj 500,jj 600])]),(.bool false)]),Qs,253⟩
def jy (n:Nat):LnE:=⟨253,Qs,(.str ⟨#[54,32,112,97,112,101,114,32,111,105,108,32,121,97,114,100,32,112,105,116,32,54,48,48,32,45]⟩),some (zj n 23),(.tup [(.agg [jj 0,(.slice 1 [jj 0])]),(.bool true)]),UD,266⟩
def kq (n:Nat):LnE:=⟨266,UD,(.str ⟨#[54,32,112,97,112,101,114,32,111,105,108,32,121,97,114,100,32,112,105,116,32,53,48,48,32,48]⟩),some (zj n 24),(.tup [(.agg [jj 0,(.slice 1 [jj 1])]),(.bool true)]),Wk,279⟩
def mz (n:Nat):LnE:=⟨279,Wk,(.str ⟨#[54,32,112,97,112,101,114,32,111,105,108,32,121,97,114,100,32,45,32,51,48,48,32,45]⟩),some (zj n 25),(.tup [(.agg [jj 0,(.slice 1 [jj 2])]),(.bool true)]),aaH,292⟩
def aeE:LnE:=⟨292,aaH,(.str ⟨#[54,32,102,111,117,110,100,32,111,105,108,32,121,97,114,100,32,49,48,48,32,49,48,48]⟩),none,(.tup [(.agg [jj 0,(.slice 1 [])]),(.bool true)]),Ve,305⟩
def Wh:LnE:=⟨305,Ve,(.str ⟨#[54,32,102,111,117,110,100,32,111,105,108,32,112,105,116,32,54,48,48,32,54,48,48]⟩),none,(.tup [(.agg [jj 0,(.slice 1 [])]),(.bool true)]),WN,318⟩
def ZB:LnE:=⟨318,WN,(.str ⟨#[54,32,102,97,108,115,101]⟩),none,(.tup [(.agg [jj 0,(.slice 1 [jj 1])]),(.bool false)]),NG,329⟩
def XU:LnE:=⟨329,NG,(.str ⟨#[54,32,112,97,121,115]⟩),none,(.tup [(.agg [jj 0,(.slice 1 [jj 300,jj 400,jj 400,jj 654,jj 163,jj 300,jj 0,jj 0])]),(.bool false)]),aiw,343⟩
end Go.AM
