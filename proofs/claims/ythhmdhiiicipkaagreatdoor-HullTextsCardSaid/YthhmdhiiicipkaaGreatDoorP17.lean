/- Small functions of chapter 05: beyond, Name, Range and their like. What a name is: of the program and of the document. The check of a hull: of the program and of the document. Is a name taken: of .. -/
import Derived.Test.YthhmdhiiicipkaaGreatDoorG05
import Derived.Test.YthhmdhiiicipkaaGreatDoorP15
import Derived.Laws.RangeAny
namespace Go.AM
open Go.Proofs
set_option maxRecDepth 100000
abbrev ii' (n:Int):ab:=.int .i64 n
theorem aj {n:Int} (h:-9223372036854775808 ≤ n) (h2:n ≤ 9223372036854775807):IntKind.i64.wrap n = n:=by rw [IntKind.wrap_i64]; omega
theorem ah {α:Type} {f:α → ab} (h:∀ a,(f a).pure = true):∀ l:List α,aA (l.map f) = true
  | []=>rfl
  | a :: l=>by simp only [List.map_cons,aA,h a,ah h l,Bool.and_self]
theorem af.of {P:Program} {fv:ab} {args:List ab} {σ:ag} {v:ab} {K Kp:ab → ag → Prop} (hs:aB P fv args σ fun r σ'=>r = .ret v ∧ σ' = σ) (hq:K v σ):@af P fv args σ ⟨K⟩ ⟨Kp⟩:=
  hs.mono (by rintro r σ' ⟨rfl,rfl⟩; exact hq)
theorem af.aS {P:Program} {f:FuncId} (hb:ak P f = true) {args:List ab} {σ:ag} {v v':ab} {K Kp:ab → ag → Prop} (hs:Spec P f args σ fun r σ'=>r = .ret v ∧ σ' = σ) (e:v = v') (hq:K v' σ) :
    @af P (.func (.func f) [] []) args σ ⟨K⟩ ⟨Kp⟩:=by subst e; exact af.pure hb hs hq
theorem tf (b:Bool):b = false ∨ b = true:=by cases b <;> simp
@[simp] theorem Ik {α:Type} (σ l:List α):(σ ++ l)[σ.length]? = l[0]?:=by simp [List.getElem?_append_right]
@[simp] theorem I6 {α:Type} (σ l:List α) (n:Nat):(σ ++ l)[σ.length + n]? = l[n]?:=by rw [List.getElem?_append_right (by omega)]; congr 1; omega
@[simp] theorem KB {α:Type} (σ l:List α) (x:α):(σ ++ l).set σ.length x = σ ++ l.set 0 x:=by rw [List.set_append_right _ _ (by omega)]; simp
@[simp] theorem Jh {α:Type} (σ l:List α) (x:α) (n:Nat):(σ ++ l).set (σ.length + n) x = σ ++ l.set n x:=by rw [List.set_append_right _ _ (by omega)]; congr 2; omega
def jL (P:Program) (fv:ab) (args:List ab) (v:ab):Prop:=∀ σ,aB P fv args σ fun r σ'=>r = .ret v ∧ σ' = σ
theorem jL.fn {P:Program} {f:FuncId} (hb:ak P f = true) {first caps args:List ab} {v:ab} (hs:∀ σ,Spec P f (first ++ args ++ caps) σ fun r σ'=>r = .ret v ∧ σ' = σ):jL P (.func (.func f) first caps) args v:=
  fun σ=>aB.func hb (hs σ)
/-! ### beyond -/
def n4 (lo hi n:Int):Bool:=decide (n < lo) || decide (hi < n)
def aH (lo hi:Int) (l:List Int):Bool:=l.any (n4 lo hi)
def bV {α:Type} (p:α → Bool):List α → Nat → Int
  | [],_=>-1
  | a :: r,i=>if p a then i else bV p r (i + 1)
theorem wB {α:Type} (p:α → Bool):∀ (l:List α) (i:Nat),0 ≤ bV p l i ↔ l.any p = true
  | [],i=>by simp [bV]
  | a :: r,i=>by
    have ih:=wB p r (i + 1)
    have e:bV p (a :: r) i = if p a then (i:Int) else bV p r (i + 1):=rfl
    rw [e,List.any_cons]
    by_cases h:p a = true
    · rw [if_pos h,h]; simp
    · rw [if_neg h]
      have h':p a = false:=by simpa using h
      rw [h',ih]; simp
theorem iy {α:Type} (p:α → Bool) (l:List α) (i:Nat):decide (0 ≤ bV p l i) = l.any p:=by
  rw [Bool.eq_iff_iff,decide_eq_true_iff]; exact wB p l i
theorem jC (g:FuncId) (caps:List ab) (hp:aA caps = true) (p:Int → Bool) (l:List Int) (hl:l.length ≤ maxLen) (hf:∀ x ∈ l,jL Tryz.prog (.func (.func g) [] caps) [ii' x] (.bool (p x))) (σ:ag) :
    Spec Tryz.prog DJ [.slice 1 (l.map ii'), .func (.func g) [] caps] σ fun r σ'=>r = .ret (.int .i64 (bV p l 0)) ∧ σ' = σ:=by
  refine Spec.aC (Ii (by simp) (aa _ ?_)) (by simp [hp,ah (f:=ii') (fun _=>rfl) l]) rfl σ
  simp [FW]
  refine AW.loop (ι:=Nat) (fun i fr σ=>fr = { v:=[(0, .slice 1 (l.map ii')),(1, .func (.func g) [] caps),(7, .int .i64 l.length),(8, .int .i64 i)],ds:=[] } ∧ i ≤ l.length ∧ bV p l 0 = bV p (l.drop i) i) (fun i=>l.length - i) 0 (by simp) ?_
  rintro i fr σ ⟨rfl,hi,hpi⟩
  refine aa _ ?_
  simp
  refine ⟨fun hlt=>?_,fun hge=>?_⟩
  · have hd:l.drop i = l[i] :: l.drop (i + 1):=List.drop_eq_getElem_cons hlt
    rw [hd] at hpi
    simp [bV] at hpi
    simp [hlt]
    refine af.of (hf l[i] (List.getElem_mem _) σ) ?_
    simp
    refine ⟨fun he=>by rw [hpi,if_pos he],fun he=>⟨i + 1,by omega,aj (by omega) (by simp only [maxLen] at hl; omega),by omega,by rw [hpi,if_neg (by simp [he])]⟩⟩
  · have:l.drop i = []:=List.drop_eq_nil_of_le hge
    rw [hpi,this]; rfl
theorem iI (g:FuncId) (caps:List ab) (hp:aA caps = true) (p:Int → Bool) (l:List Int) (hl:l.length ≤ maxLen) (hf:∀ x ∈ l,jL Tryz.prog (.func (.func g) [] caps) [ii' x] (.bool (p x))) (σ:ag) :
    Spec Tryz.prog DO [.slice 1 (l.map ii'), .func (.func g) [] caps] σ fun r σ'=>r = .ret (.bool (l.any p)) ∧ σ' = σ:=by
  refine Spec.aC (Ld (by simp) (aa _ ?_)) (by simp [hp,ah (f:=ii') (fun _=>rfl) l]) rfl σ
  simp [Gh]
  refine af.pure Jo (jC g caps hp p l hl hf _) ?_
  simp [iy]
set_option maxRecDepth 100000
def bu (n lo hi:Int):Bool:=decide (lo ≤ n) && decide (n ≤ hi)
theorem aJ (n lo hi:Int) (σ:ag):Spec Tryz.prog Hp [.int .i64 n, .int .i64 lo, .int .i64 hi] σ fun r σ'=>r = .ret (.bool (bu n lo hi)) ∧ σ' = σ:=by
  refine Spec.aC (L7 (by simp) (aa _ ?_)) rfl rfl σ
  simp [JZ,bu]
def nh (s:ByteArray) (i:Nat):Nat:=(s.data[i]?.getD 0).toNat
def letterF (b:Nat):Bool:=decide (97 ≤ b) && decide (b ≤ 122)
def nA (b:Nat):Bool:=decide (48 ≤ b) && decide (b ≤ 57)
def mQ (s:ByteArray) (i:Nat):Bool:=letterF (nh s i) || (nA (nh s i) && i != 0)
def jd (s:ByteArray):Nat → Nat → Bool
  | _,0=>true
  | i,n + 1=>mQ s i && jd s (i + 1) n
def cg (s:ByteArray):Bool:=decide (1 ≤ s.size) && decide (s.size ≤ 16) && jd s 0 s.size
theorem BR (s:ByteArray) (i:Nat) (h:i < s.size):nh s i = (s[i]'h).toNat:=by
  have h':i < s.data.size:=h
  have e:s.data[i]?.getD 0 = s.data[i]'h':=by rw [Array.getElem?_eq_getElem h']; rfl
  unfold nh
  rw [e]
  rfl
theorem qa {s:ByteArray} {i:Nat} (hlt:i < s.size) (hp:jd s 0 s.size = jd s i (s.size - i)) (h:mQ s i = false):cg s = false:=by
  unfold cg
  rw [hp,show s.size - i = (s.size - (i + 1)) + 1 by omega,jd,h]
  simp
theorem C0 (b:ByteArray) (i:Nat) (h:i < b.data.toList.length):b.get! i = b.data.toList[i]:=by
  obtain ⟨a⟩:=b
  have h':i < a.size:=by simpa using h
  show a[i]! = _
  rw [getElem!_pos a i h']; simp
theorem bl (b:ByteArray):∀ (n i:Nat) (r:List UInt8),b.size - i = n → ByteArray.toList.loop b i r = r.reverse ++ (b.data.toList.drop i)
  | 0,i,r,h=>by
    unfold ByteArray.toList.loop
    have:b.size ≤ i:=by omega
    rw [if_neg (by omega)]
    have:b.data.toList.length ≤ i:=by simpa using this
    rw [List.drop_eq_nil_of_le this]; simp
  | n + 1,i,r,h=>by
    unfold ByteArray.toList.loop
    have hlt:i < b.size:=by omega
    rw [if_pos hlt,bl b n (i + 1) _ (by omega)]
    have h':i < b.data.toList.length:=by simpa using hlt
    rw [List.drop_eq_getElem_cons h',C0 b i h']
    simp
theorem toList_data (b:ByteArray):b.toList = b.data.toList:=by
  unfold ByteArray.toList; rw [bl b _ 0 [] rfl]; simp
theorem toList_nil (s:ByteArray):s.toList = [] ↔ s.size = 0:=by
  rw [toList_data]
  constructor
  · intro h
    have:s.data.toList.length = 0:=by rw [h]; rfl
    simpa using this
  · intro h
    have:s.data.toList.length = 0:=by simpa using h
    exact List.eq_nil_of_length_eq_zero this
theorem nR (s:ByteArray) {i:Nat} (h:i < s.size):jd s i (s.size - i) = (mQ s i && jd s (i + 1) (s.size - (i + 1))):=by
  rw [show s.size - i = (s.size - (i + 1)) + 1 by omega]; rfl
theorem bY (s:ByteArray) (σ:ag):Spec Tryz.prog H4 [.str s] σ fun r σ'=>r = .ret (.bool (cg s)) ∧ σ' = σ:=by
  refine Spec.aC (Mh (by simp) (aa _ ?_)) rfl rfl σ
  simp [Le]
  refine AW.loop (ι:=Nat) (fun i fr σ=>fr = { v:=[(0, .str s),(8, .iter 0)],ds:=[] } ∧ σ = [.siter s i] ∧ i ≤ s.size ∧ jd s 0 s.size = jd s i (s.size - i)) (fun i=>s.size - i) 0 (by simp) ?_
  rintro i fr σ ⟨rfl,rfl,hi,hp⟩
  refine aa _ ?_
  simp
  split
  · rename_i hlt
    have hb:=BR s i hlt
    have hst:=nR s hlt
    have hd:((Utf8.decode s i).1 = nh s i ∧ (Utf8.decode s i).2 = 1 ∧ nh s i < 128) ∨ (128 ≤ (Utf8.decode s i).1 ∧ 128 ≤ nh s i):=by
      by_cases ha:(s[i]'hlt).toNat < 128
      · left; rw [Go.decode_ascii s i hlt ha,hb]; exact ⟨rfl,rfl,ha⟩
      · right; rw [hb]; exact ⟨(Go.decode_high s i hlt (by omega)).1,by omega⟩
    generalize Utf8.decode s i = d at hd ⊢
    obtain ⟨r,w⟩:=d
    simp only at hd ⊢
    refine ⟨fun h=>⟨h,fun h1 h2=>⟨h,h1,h2⟩⟩,fun h1 h2=>qa hlt hp ?_,fun h=>?_⟩
    · simp [mQ,letterF,nA]
      omega
    · have hok:mQ s i = true:=by
        simp [mQ,letterF,nA]
        omega
      have hw:w = 1:=by
        rcases hd with hd | hd
        · exact hd.2.1
        · exfalso
          have:mQ s i = false:=by simp [mQ,letterF,nA]; omega
          rw [hok] at this; cases this
      subst hw
      exact ⟨i + 1,by omega,rfl,by omega,by rw [hp,hst,hok]; rfl⟩
  · rename_i hge
    have:i = s.size:=by omega
    subst this
    rw [Nat.sub_self] at hp
    unfold cg
    rw [hp]
    rw [Bool.eq_iff_iff]
    simp [jd]
    refine ⟨fun ⟨h1,h2⟩=>⟨?_,by omega⟩,fun h=>⟨fun e=>?_,by omega⟩⟩
    · have h1':¬ s.size = 0:=fun e=>h1 ((toList_nil s).2 e)
      omega
    · have:=(toList_nil s).1 e
      omega
theorem hO (s:ByteArray) (σ:ag):Spec Tryz.prog HM [.str s] σ fun r σ'=>r = .ret (.bool (cg s)) ∧ σ' = σ:=by
  refine Spec.aC (MQ (by simp) (aa _ ?_)) rfl rfl σ
  simp [J8]
  refine af.pure eQ (aJ s.size 1 16 _) ?_
  simp
  have hb:∀ i:Nat,((s.data[i]?.getD 0).toNat:Int) = (nh s i:Int):=fun _=>rfl
  simp only [hb]
  have hin:bu (s.size:Int) 1 16 = true ↔ 1 ≤ s.size ∧ s.size ≤ 16:=by simp [bu]; omega
  have hin':bu (s.size:Int) 1 16 = false ↔ ¬ (1 ≤ s.size ∧ s.size ≤ 16):=by rw [← hin]; simp
  simp only [hin,hin']
  refine ⟨fun h=>⟨h,by omega⟩,fun h h2=>⟨⟨h,h2⟩,by omega⟩,fun h=>?_,fun h1 h2 h3=>?_⟩
  · by_cases hz:1 ≤ s.size ∧ s.size ≤ 16
    · refine qa (i:=0) (by omega) rfl ?_
      simp [mQ,letterF]
      omega
    · unfold cg
      rw [Bool.eq_false_iff]
      simp
      intros
      omega
  refine AW.loop (ι:=Nat) (fun i fr σ=>fr = { v:=[(0, .str s),(3, .int .i64 i)],ds:=[] } ∧ σ = [] ∧ 1 ≤ i ∧ i ≤ s.size ∧ jd s 0 s.size = jd s i (s.size - i)) (fun i=>s.size - i) 1 ⟨by simp,rfl,by omega,by omega, ?_⟩ ?_
  · have:=nR s (i:=0) (by omega)
    rw [Nat.sub_zero] at this
    rw [this]
    have:mQ s 0 = true:=by simp [mQ,letterF]; omega
    rw [this]; rfl
  rintro i fr σ ⟨rfl,rfl,h1i,hi,hp⟩
  refine aa _ ?_
  simp
  simp only [hb]
  refine ⟨fun hlt=>⟨hlt,fun h=>⟨h,hlt⟩,hlt,fun h=>⟨h,hlt⟩,fun h h'=>qa hlt hp ?_,fun h=>?_⟩,fun hge=>?_⟩
  · simp [mQ,letterF,nA]
    omega
  · have hok:mQ s i = true:=by
      simp [mQ,letterF,nA]
      omega
    exact ⟨i + 1,by omega,aj (by omega) (by omega),by omega,by omega,by rw [hp,nR s hlt,hok]; rfl⟩
  · have:i = s.size:=by omega
    subst this
    rw [Nat.sub_self] at hp
    unfold cg
    rw [hp]
    simp [jd]
    omega
set_option maxRecDepth 100000
set_option maxHeartbeats 4000000
structure nf where
  name:ByteArray
  at_:Int
  wLo:Int
  wHi:Int
  keel:Int
  lLo:Int
  lHi:Int
def nf.cells (p:nf):List ab:=[.str p.name,ii' p.at_,ii' p.wLo,ii' p.wHi,ii' p.keel,ii' p.lLo,ii' p.lHi]
def nf.v (p:nf):ab:=.agg p.cells
structure l7 where
  ps:List nf
  aft:Int
  fore:Int
def l7.cells (h:l7):List ab:=[.slice 7 (h.ps.map nf.v),ii' h.aft,ii' h.fore]
def l7.v (h:l7):ab:=.agg h.cells
theorem l7.pure (h:l7):h.v.pure = true:=by simp [l7.v,l7.cells,ab.pure,aA,ah (f:=nf.v) (fun _=>rfl) h.ps]
def FU (p:nf):Int:=
  if aH 0 5000 [p.at_] || aH 0 1000 [p.keel] || aH 0 1000000 [p.wLo,p.wHi] || aH 0 5000 [p.lLo,p.lHi] then 7
  else if decide (p.wHi < p.wLo) || decide (p.lHi < p.lLo) then 2 else 0
set_option maxRecDepth 100000
set_option maxHeartbeats 1000000
set_option maxRecDepth 100000
set_option maxHeartbeats 1000000
structure HuM where
  name:ByteArray
  kind:Int
  first:Int
  last:Int
  on:List ByteArray
  lo:Int
  hi:Int
def HuM.cells (p:HuM):List ab:=[.str p.name,ii' p.kind,ii' p.first,ii' p.last, .slice 1 (p.on.map .str),ii' p.lo,ii' p.hi]
def HuM.v (p:HuM):ab:=.agg p.cells
theorem HuM.pure (p:HuM):p.v.pure = true:=by simp [HuM.v,HuM.cells,ab.pure,aA,ah (f:=ab.str) (fun _=>rfl) p.on]
structure vD where
  name:ByteArray
  kept:Bool
def vD.cells (p:vD):List ab:=[.str p.name, .bool p.kept]
def vD.v (p:vD):ab:=.agg p.cells
theorem vD.pure (p:vD):p.v.pure = true:=rfl
theorem nI (n lo hi:Int) (σ:ag):Spec Tryz.prog CJ [ii' n, .pval (ii' lo), .pval (ii' hi)] σ fun r σ'=>r = .ret (.bool (n4 lo hi n)) ∧ σ' = σ:=by
  refine Spec.aC (JT (by simp) (aa _ ?_)) rfl rfl σ
  simp [F2,n4]
theorem aE (lo hi:Int) (l:List Int) (hl:l.length ≤ maxLen) (σ:ag) :
    Spec Tryz.prog Ib [ii' lo,ii' hi, .slice 1 (l.map ii')] σ fun r σ'=>r = .ret (.bool (aH lo hi l)) ∧ σ' = σ:=by
  refine Spec.aC (LX (by simp) (aa _ ?_)) (by simp [ah (f:=ii') (fun _=>rfl) l]) rfl σ
  simp [I2]
  refine af.pure KD (iI _ _ rfl (n4 lo hi) l hl (fun x _=>jL.fn KK (fun σ=>nI x lo hi σ)) _) ?_
  simp [aH]
def dM (a b:HuM):Bool:=decide (a.first ≤ b.last) && decide (b.first ≤ a.last)
theorem lC (a b:HuM) (σ:ag):Spec Tryz.prog Di [a.v,b.v] σ fun r σ'=>r = .ret (.bool (dM a b)) ∧ σ' = σ:=by
  refine Spec.aC (Ji (by simp) (aa _ ?_)) (by simp [HuM.pure]) rfl σ
  simp [FQ,HuM.v,HuM.cells]
  refine (Classical.em (a.first ≤ b.last)).elim (fun h=>?_) (fun h=>?_) <;> simp [h,dM]
theorem np (a b:HuM) (σ:ag):Spec Tryz.prog Ho [a.v,b.v] σ fun r σ'=>r = .ret (.bool (decide (max a.first b.first ≤ min a.last b.last))) ∧ σ' = σ:=by
  refine Spec.aC (Mj (by simp) (aa _ ?_)) (by simp [HuM.pure]) rfl σ
  simp [K9,HuM.v,HuM.cells]
  by_cases h1:a.first < b.first <;> by_cases h2:b.last < a.last <;> simp only [h1,h2,if_true,if_false] <;> omega
theorem dz (g:FuncId) (caps:List ab) (hp:aA caps = true) (p:HuM → Bool) (l:List HuM) (hl:l.length ≤ maxLen) (hf:∀ x ∈ l,jL Tryz.prog (.func (.func g) [] caps) [x.v] (.bool (p x))) (σ:ag) :
    Spec Tryz.prog DE [.slice 7 (l.map HuM.v), .func (.func g) [] caps] σ fun r σ'=>r = .ret (.int .i64 (bV p l 0)) ∧ σ' = σ:=by
  refine Spec.aC (Jb (by simp) (aa _ ?_)) (by simp [hp,ah (f:=HuM.v) (fun p=>p.pure) l]) rfl σ
  simp [FV]
  refine AW.loop (ι:=Nat) (fun i fr σ=>fr = { v:=[(0, .slice 7 (l.map HuM.v)),(1, .func (.func g) [] caps),(7, .int .i64 l.length),(8, .int .i64 i)],ds:=[] } ∧ i ≤ l.length ∧ bV p l 0 = bV p (l.drop i) i) (fun i=>l.length - i) 0 (by simp) ?_
  rintro i fr σ ⟨rfl,hi,hpi⟩
  refine aa _ ?_
  simp
  refine ⟨fun hlt=>?_,fun hge=>?_⟩
  · have hd:l.drop i = l[i] :: l.drop (i + 1):=List.drop_eq_getElem_cons hlt
    rw [hd] at hpi
    simp [bV] at hpi
    simp [hlt,HuM.v,HuM.cells]
    refine af.of (hf l[i] (List.getElem_mem _) σ) ?_
    simp
    refine ⟨fun he=>by rw [hpi,if_pos he],fun he=>⟨i + 1,by omega,aj (by omega) (by simp only [maxLen] at hl; omega),by omega,by rw [hpi,if_neg (by simp [he])]⟩⟩
  · have:l.drop i = []:=List.drop_eq_nil_of_le hge
    rw [hpi,this]; rfl
theorem cO (g:FuncId) (caps:List ab) (hp:aA caps = true) (p:HuM → Bool) (l:List HuM) (hl:l.length ≤ maxLen) (hf:∀ x ∈ l,jL Tryz.prog (.func (.func g) [] caps) [x.v] (.bool (p x))) (σ:ag) :
    Spec Tryz.prog DD [.slice 7 (l.map HuM.v), .func (.func g) [] caps] σ fun r σ'=>r = .ret (.bool (l.any p)) ∧ σ' = σ:=by
  refine Spec.aC (J0 (by simp) (aa _ ?_)) (by simp [hp,ah (f:=HuM.v) (fun p=>p.pure) l]) rfl σ
  simp [FN]
  refine af.pure D5 (dz g caps hp p l hl hf _) ?_
  simp [iy]
/-! ### strings -/
theorem eb (l:List ByteArray) (x:ByteArray) (hl:l.length ≤ maxLen) (σ:ag) :
    Spec Tryz.prog C8 [.slice 1 (l.map .str), .str x] σ fun r σ'=>r = .ret (.int .i64 (bV (fun y=>x.toList == y.toList) l 0)) ∧ σ' = σ:=by
  refine Spec.aC (J1 (by simp) (aa _ ?_)) (by simp [ah (f:=ab.str) (fun _=>rfl) l]) rfl σ
  simp [FX]
  refine AW.loop (ι:=Nat) (fun i fr σ=>fr = { v:=[(0, .slice 1 (l.map ab.str)),(1, .str x),(7, .int .i64 l.length),(8, .int .i64 i)],ds:=[] } ∧ i ≤ l.length ∧ bV (fun y=>x.toList == y.toList) l 0 = bV (fun y=>x.toList == y.toList) (l.drop i) i) (fun i=>l.length - i) 0 (by simp) ?_
  rintro i fr σ ⟨rfl,hi,hpi⟩
  refine aa _ ?_
  simp
  refine ⟨fun hlt=>?_,fun hge=>?_⟩
  · have hd:l.drop i = l[i] :: l.drop (i + 1):=List.drop_eq_getElem_cons hlt
    rw [hd] at hpi
    simp [bV] at hpi
    simp [hlt]
    refine ⟨fun he=>by rw [hpi,if_pos he],fun he=>⟨i + 1,by omega,aj (by omega) (by simp only [maxLen] at hl; omega),by omega,by rw [hpi,if_neg (by simp [he])]⟩⟩
  · have:l.drop i = []:=List.drop_eq_nil_of_le hge
    rw [hpi,this]; rfl
theorem fm (l:List ByteArray) (x:ByteArray) (hl:l.length ≤ maxLen) (σ:ag) :
    Spec Tryz.prog D0 [.slice 1 (l.map .str), .str x] σ fun r σ'=>r = .ret (.bool (l.any fun y=>x.toList == y.toList)) ∧ σ' = σ:=by
  refine Spec.aC (KA (by simp) (aa _ ?_)) (by simp [ah (f:=ab.str) (fun _=>rfl) l]) rfl σ
  simp [Ge]
  refine af.pure Bg (eb l x hl _) ?_
  simp [iy]
theorem gD (y:HuM) (x:ByteArray) (σ:ag):Spec Tryz.prog AX [y.v, .pval (.str x)] σ fun r σ'=>r = .ret (.bool (y.name.toList == x.toList)) ∧ σ' = σ:=by
  refine Spec.aC (KZ (by simp) (aa _ ?_)) (by simp [HuM.pure,ab.pure,aA]) rfl σ
  simp [F1,HuM.v,HuM.cells]
theorem kI (y x:HuM) (σ:ag):Spec Tryz.prog xE [y.v, .pval x.v] σ fun r σ'=>r = .ret (.bool (y.name.toList == x.name.toList)) ∧ σ' = σ:=by
  refine Spec.aC (Ky (by simp) (aa _ ?_)) (by simp [HuM.pure]) rfl σ
  simp [Gr,HuM.v,HuM.cells]
def findF (l:List HuM) (x:ByteArray):Int:=bV (fun y=>y.name.toList == x.toList) l 0
set_option maxRecDepth 100000
def dK:List ByteArray → ByteArray → Nat → Int
  | [],_,_=>-1
  | a :: r,s,i=>if a.toList == s.toList then i else dK r s (i + 1)
theorem dH (l:List ByteArray) (s:ByteArray) (hl:l.length ≤ maxLen) (σ:ag):Spec Tryz.prog GW [.slice 1 (l.map .str), .str s] σ fun r σ'=>r = .ret (.int .i64 (dK l s 0)) ∧ σ' = σ:=by
  refine Spec.aC (NM (by simp) (aa _ ?_)) ?_ rfl σ
  rotate_left
  · simp only [aA,ab.pure,Bool.and_true]; exact ah (fun _=>rfl) l
  simp [IF]
  refine AW.loop (ι:=Nat) (fun i fr σ=>fr = { v:=[(0, .slice 1 (l.map .str)),(1, .str s),(5, .int .i64 i)],ds:=[] } ∧ σ = [] ∧ i ≤ l.length ∧ dK l s 0 = dK (l.drop i) s i) (fun i=>l.length - i) 0 (by simp) ?_
  rintro i fr σ ⟨rfl,rfl,hi,hp⟩
  refine aa _ ?_
  simp
  refine ⟨fun hlt=>?_,fun hge=>?_⟩
  · have hd:l.drop i = l[i] :: l.drop (i + 1):=List.drop_eq_getElem_cons hlt
    rw [hd] at hp
    simp [dK] at hp
    simp [hlt]
    refine ⟨fun he=>by rw [hp,if_pos he],fun he=>⟨i + 1,by omega,aj (by omega) (by simp only [maxLen] at hl; omega),by omega,by rw [hp,if_neg he]⟩⟩
  · have:l.drop i = []:=List.drop_eq_nil_of_le hge
    rw [hp,this]; rfl
def gi (s:Int × Int) (lo hi:Int):Int:=if !bu s.1 lo hi || !bu s.2 lo hi then 7 else if s.1 > s.2 then 2 else 0
theorem rk (a b lo hi:Int) (σ:ag):Spec Tryz.prog CY [.slice 2 [.agg [.int .i64 a, .int .i64 b]], .int .i64 lo, .int .i64 hi] σ fun r σ'=>r = .ret (.int .i64 (gi (a,b) lo hi)) ∧ σ' = σ:=by
  refine Spec.aC (Kq (by simp) (aa _ ?_)) rfl rfl σ
  simp [Gv]
  refine AW.loop (ι:=Nat) (fun i fr σ=>fr = { v:=[(0, .slice 2 [.agg [.int .i64 a, .int .i64 b]]),(1, .int .i64 lo),(2, .int .i64 hi),(7, .bool (decide (i = 1) && decide (b < a))),(8, .int .i64 i)],ds:=[] } ∧ σ = [] ∧ i ≤ 1 ∧ (i = 1 → bu a lo hi = true ∧ bu b lo hi = true)) (fun i=>1 - i) 0 (by simp) ?_
  rintro i fr σ ⟨rfl,rfl,hi',hp⟩
  rcases (by omega:i = 0 ∨ i = 1) with rfl | rfl
  · refine aa _ ?_
    simp
    refine af.pure eQ (aJ a lo hi _) ?_
    simp
    refine ⟨?_, ?_⟩
    · intro h
      refine ⟨h,af.pure eQ (aJ b lo hi _) ?_⟩
      simp [h]
      exact ⟨fun hb=>by simp [gi,h,hb],fun hb=>⟨1,by omega,⟨fun _=>rfl,aj (by omega) (by omega)⟩,by omega,fun _=>hb⟩⟩
    · intro h
      simp [h,gi]
  · refine aa _ ?_
    simp [gi,hp rfl]
theorem sZ (a b lo hi:Int) (σ:ag):Spec Tryz.prog Hv [.agg [.int .i64 a, .int .i64 b], .int .i64 lo, .int .i64 hi] σ fun r σ'=>r = .ret (.int .i64 (gi (a,b) lo hi)) ∧ σ' = σ:=by
  refine Spec.aC (NN (by simp) (aa _ ?_)) rfl rfl σ
  simp [Jg]
  refine af.pure JH (rk a b lo hi _) ?_
  simp
set_option maxRecDepth 100000
set_option maxHeartbeats 1000000
theorem bW (l:List HuM) (x:ByteArray) (hl:l.length ≤ maxLen) (σ:ag) :
    Spec Tryz.prog G7 [.slice 7 (l.map HuM.v), .str x] σ fun r σ'=>r = .ret (.int .i64 (findF l x)) ∧ σ' = σ:=by
  refine Spec.aC (My (by simp) (aa _ ?_)) (by simp [ah (f:=HuM.v) (fun p=>p.pure) l]) rfl σ
  simp [Iz]
  refine AW.loop (ι:=Nat) (fun i fr σ=>fr = { v:=[(0, .slice 7 (l.map HuM.v)),(1, .str x),(5, .int .i64 i)],ds:=[] } ∧ i ≤ l.length ∧ findF l x = bV (fun y=>y.name.toList == x.toList) (l.drop i) i) (fun i=>l.length - i) 0 (by simp [findF]) ?_
  rintro i fr σ ⟨rfl,hi,hpi⟩
  refine aa _ ?_
  simp
  refine ⟨fun hlt=>?_,fun hge=>?_⟩
  · have hd:l.drop i = l[i] :: l.drop (i + 1):=List.drop_eq_getElem_cons hlt
    rw [hd] at hpi
    simp [bV] at hpi
    simp [hlt,HuM.v,HuM.cells]
    refine ⟨fun he=>by rw [hpi,if_pos he],fun he=>⟨i + 1,by omega,aj (by omega) (by simp only [maxLen] at hl; omega),by omega,by rw [hpi,if_neg (by simp [he])]⟩⟩
  · have:l.drop i = []:=List.drop_eq_nil_of_le hge
    rw [hpi,this]; rfl
def ew (x:HuM):Int:=gi (x.lo,x.hi) 1 1000000
def cP (x:HuM):Bool:=!bu x.kind 1 5 || !bu x.first 0 40 || !bu x.last 0 40 || ew x == 7
def mY (on:List ByteArray):List ByteArray → Nat → Bool
  | [],_=>false
  | n :: r,i=>decide (0 ≤ dK (on.take i) n 0) || mY on r (i + 1)
def atF (l:List HuM) (n:ByteArray):HuM:=l.getD (findF l n).toNat ⟨.empty,0,0,0,[],0,0⟩
def aP (a b:HuM):Bool:=decide (max a.first b.first ≤ min a.last b.last)
def bn (mt:HuM → HuM → Bool) (x:HuM) (before others:List HuM):Int:=
  if cg x.name = false then 6
  else if 0 ≤ findF others x.name then 5
  else if cP x then 7
  else if x.last < x.first ∨ ew x ≠ 0 then 2
  else if x.on.any (fun n=>decide (findF before n < 0)) then 4
  else if mY x.on x.on 0 then 5
  else if x.on.any (fun n=>!mt x (atF before n)) then 9 else 0
theorem wO {α:Type} (p:α → Bool):∀ (l:List α) (i:Nat),0 ≤ bV p l i → ∃ j,bV p l i = i + (j:Nat) ∧ j < l.length
  | [],i,h=>by simp [bV] at h
  | a :: r,i,h=>by
    simp only [bV] at h ⊢
    by_cases hp:p a = true
    · rw [if_pos hp]; exact ⟨0,by simp,by simp⟩
    · rw [if_neg hp] at h ⊢
      obtain ⟨j,h1,h2⟩:=wO p r (i + 1) h
      exact ⟨j + 1,by rw [h1]; push_cast; omega,by simp; omega⟩
theorem tu {l:List HuM} {n:ByteArray} (h:0 ≤ findF l n):∃ j,findF l n = (j:Nat) ∧ j < l.length:=by
  obtain ⟨j,h1,h2⟩:=wO _ l 0 h
  exact ⟨j,by simpa [findF] using h1,h2⟩
theorem j4 (x:HuM) (before others:List HuM) (hb:before.length ≤ maxLen) (ho:others.length ≤ maxLen) (hn:x.on.length ≤ maxLen) (σ:ag) :
    Spec Tryz.prog HD [x.v, .slice 7 (before.map HuM.v), .slice 7 (others.map HuM.v)] σ fun r σ'=>r = .ret (ii' (bn aP x before others)) ∧ σ' = σ:=by
  refine Spec.aC (NB (by simp) (aa _ ?_)) (by simp [HuM.pure,ah (f:=HuM.v) (fun p=>p.pure)]) rfl σ
  simp [Ij,HuM.v,HuM.cells]
  refine (tf (cg x.name)).elim (fun h1=>?_) (fun h1=>?_)
  · refine af.aS zC (hO x.name _) (congrArg ab.bool h1) ?_
    simp [bn,h1]
  refine af.aS zC (hO x.name _) (congrArg ab.bool h1) ?_
  simp
  refine af.pure iQ (bW others x.name ho _) ?_
  simp
  refine ⟨fun h2=>by simp [bn,h1,h2],fun h2=>?_⟩
  refine af.pure Mz (sZ x.lo x.hi 1 1000000 _) ?_
  simp
  refine (tf (bu x.kind 1 5)).elim (fun h3=>?_) (fun h3=>?_)
  · refine af.aS eQ (aJ x.kind 1 5 _) (congrArg ab.bool h3) ?_
    simp
    simp [bn,h1,h2,cP,h3]
  refine af.aS eQ (aJ x.kind 1 5 _) (congrArg ab.bool h3) ?_
  simp
  refine (tf (bu x.first 0 40)).elim (fun h4=>?_) (fun h4=>?_)
  · refine af.aS eQ (aJ x.first 0 40 _) (congrArg ab.bool h4) ?_
    simp
    simp [bn,h1,h2,cP,h3,h4]
  refine af.aS eQ (aJ x.first 0 40 _) (congrArg ab.bool h4) ?_
  simp
  refine (tf (bu x.last 0 40)).elim (fun h5=>?_) (fun h5=>?_)
  · refine af.aS eQ (aJ x.last 0 40 _) (congrArg ab.bool h5) ?_
    simp
    simp [bn,h1,h2,cP,h3,h4,h5]
  refine af.aS eQ (aJ x.last 0 40 _) (congrArg ab.bool h5) ?_
  simp
  refine ⟨fun h6=>by simp [bn,h1,h2,cP,h3,h4,h5,ew,h6],fun h6=>⟨fun h7=>?_,fun h7 h8=>?_⟩⟩
  · have:x.last < x.first ∨ ew x ≠ 0:=h7
    simp [bn,h1,cP,h3,h4,h5,this]
    simp [ew,h6,h2]
  have hp:bn aP x before others = if x.on.any (fun n=>decide (findF before n < 0)) then 4 else if mY x.on x.on 0 then 5 else if x.on.any (fun n=>!aP x (atF before n)) then 9 else 0:=by
    have e1:¬ (x.last < x.first ∨ ew x ≠ 0):=by simp only [ew,h8]; omega
    have e2:cP x = false:=by simp [cP,h3,h4,h5,ew,h6]
    simp only [bn,h1,e2]
    rw [if_neg (by simp),if_neg (by omega),if_neg (by simp),if_neg e1]
  refine AW.loop (ι:=Nat) (fun i fr σ=>fr = { v:=[(1, .slice 7 (before.map HuM.v)),(3, .pval (.agg [.str x.name,ii' x.kind,ii' x.first,ii' x.last, .slice 1 (x.on.map .str),ii' x.lo,ii' x.hi])),(8, .int .i64 i)],ds:=[] } ∧ σ = [] ∧ i ≤ x.on.length ∧ x.on.any (fun n=>decide (findF before n < 0)) = (x.on.drop i).any (fun n=>decide (findF before n < 0))) (fun i=>x.on.length - i) 0 (by simp) ?_
  rintro i fr σ ⟨rfl,rfl,hi,hpi⟩
  refine aa _ ?_
  simp
  refine ⟨fun hlt=>?_,fun hge=>?_⟩
  · have hd:x.on.drop i = x.on[i] :: x.on.drop (i + 1):=List.drop_eq_getElem_cons hlt
    rw [hd] at hpi
    simp only [List.any_cons] at hpi
    obtain ⟨n,hn'⟩:∃ n,x.on[i] = n:=⟨_,rfl⟩
    rw [hn'] at hpi
    simp [hlt,hn']
    refine af.pure iQ (bW before n hb _) ?_
    simp [hlt,hn']
    refine ⟨fun h=>?_,fun h=>⟨i + 1,by omega,aj (by omega) (by simp only [maxLen] at hn; omega),by omega, ?_⟩⟩
    · rw [hp,hpi]; simp [h]
    · rw [hpi]; simp; omega
  have hz:x.on.drop i = []:=List.drop_eq_nil_of_le hge
  rw [hz] at hpi
  have hp2:bn aP x before others = if mY x.on x.on 0 then 5 else if x.on.any (fun n=>!aP x (atF before n)) then 9 else 0:=by rw [hp,if_neg (by rw [hpi]; simp)]
  have hpos:∀ n ∈ x.on,0 ≤ findF before n:=by
    intro n hm
    have:=hpi
    simp only [List.any_nil,List.any_eq_false,decide_eq_true_eq] at this
    have:=this n hm
    omega
  refine AW.loop (ι:=Nat) (fun i fr σ=>fr = { v:=[(1, .slice 7 (before.map HuM.v)),(3, .pval (.agg [.str x.name,ii' x.kind,ii' x.first,ii' x.last, .slice 1 (x.on.map .str),ii' x.lo,ii' x.hi])),(9, .int .i64 i)],ds:=[] } ∧ σ = [] ∧ i ≤ x.on.length ∧ mY x.on x.on 0 = mY x.on (x.on.drop i) i) (fun i=>x.on.length - i) 0 (by simp) ?_
  rintro i fr σ ⟨rfl,rfl,hi,hpi⟩
  refine aa _ ?_
  simp
  refine ⟨fun hlt=>?_,fun hge=>?_⟩
  · have hd:x.on.drop i = x.on[i] :: x.on.drop (i + 1):=List.drop_eq_getElem_cons hlt
    rw [hd] at hpi
    simp only [mY] at hpi
    obtain ⟨n,hn'⟩:∃ n,x.on[i] = n:=⟨_,rfl⟩
    rw [hn'] at hpi
    simp [hlt,hn']
    have hq:=fun σ'=>dH (x.on.take i) n (by simp; omega) σ'
    rw [List.map_take] at hq
    refine ⟨by omega, .int .i64 (dK (x.on.take i) n 0),fun σ'=>aB.func wF (hq σ'), ?_⟩
    simp
    refine ⟨fun h=>?_,fun h=>⟨i + 1,by omega,aj (by omega) (by simp only [maxLen] at hn; omega),by omega, ?_⟩⟩
    · rw [hp2,hpi]; simp [h]
    · rw [hpi]; simp; omega
  have hz:x.on.drop i = []:=List.drop_eq_nil_of_le hge
  rw [hz] at hpi
  have hp3:bn aP x before others = if x.on.any (fun n=>!aP x (atF before n)) then 9 else 0:=by rw [hp2,if_neg (by rw [hpi]; simp [mY])]
  refine AW.loop (ι:=Nat) (fun i fr σ=>fr = { v:=[(1, .slice 7 (before.map HuM.v)),(3, .pval (.agg [.str x.name,ii' x.kind,ii' x.first,ii' x.last, .slice 1 (x.on.map .str),ii' x.lo,ii' x.hi])),(10, .int .i64 i)],ds:=[] } ∧ σ = [] ∧ i ≤ x.on.length ∧ x.on.any (fun n=>!aP x (atF before n)) = (x.on.drop i).any (fun n=>!aP x (atF before n))) (fun i=>x.on.length - i) 0 (by simp) ?_
  rintro i fr σ ⟨rfl,rfl,hi,hpi⟩
  refine aa _ ?_
  simp
  refine ⟨fun hlt=>?_,fun hge=>?_⟩
  · have hd:x.on.drop i = x.on[i] :: x.on.drop (i + 1):=List.drop_eq_getElem_cons hlt
    rw [hd] at hpi
    simp only [List.any_cons] at hpi
    obtain ⟨n,hn'⟩:∃ n,x.on[i] = n:=⟨_,rfl⟩
    have h0:=hpos n (hn' ▸ List.getElem_mem _)
    rw [hn'] at hpi
    simp [hlt,hn']
    obtain ⟨j,hj1,hj2⟩:=tu h0
    refine ⟨.int .i64 (findF before n),fun σ'=>aB.func iQ (bW before n hb σ'), ?_⟩
    have hat:atF before n = before[j]:=by simp [atF,hj1,hj2]
    obtain ⟨y,hy⟩:∃ y,before[j] = y:=⟨_,rfl⟩
    rw [hat,hy] at hpi
    simp [hj1,hj2,hy,HuM.v,HuM.cells]
    refine ⟨.bool (aP x y),fun σ'=>aB.func Hu (np x y σ'), ?_⟩
    simp
    refine ⟨fun h=>?_,fun h=>⟨i + 1,by omega,aj (by omega) (by simp only [maxLen] at hn; omega),by omega, ?_⟩⟩
    · rw [hp3,hpi]; simp [h]
    · rw [hpi]; simp [h]
  have hz:x.on.drop i = []:=List.drop_eq_nil_of_le hge
  rw [hz] at hpi
  rw [hp3,hpi]; rfl
set_option maxRecDepth 100000
set_option maxHeartbeats 1000000
def Ef (all:List nf):List nf → Nat → Int × Int × Int
  | [],_=>(0,0,0)
  | x :: r,i=>
    if cg x.name = false then (2,i,6)
    else if (all.take i).any (fun y=>y.name.toList == x.name.toList) then (2,i,5)
    else if FU x ≠ 0 then (2,i,FU x) else Ef all r (i + 1)
def Hh (h:l7):Int × Int × Int:=
  if aH 1 10 [(h.ps.length:Int)] then (1,0,3) else if aH 0 5000 [h.aft,h.fore] then (1,0,7) else if h.fore ≤ h.aft then (1,0,2) else Ef h.ps h.ps 0
def dc (x:Int × Int × Int):ab:=.tup [ii' x.1,ii' x.2.1,ii' x.2.2]
set_option maxRecDepth 100000
set_option maxHeartbeats 1000000
def lN (mt:HuM → HuM → Bool) (all:List HuM):List HuM → Nat → Int × Int × Int
  | [],_=>(0,0,0)
  | x :: r,i=>if bn mt x (all.take i) (all.take i) ≠ 0 then (1,i,bn mt x (all.take i) (all.take i)) else lN mt all r (i + 1)
def il (mt:HuM → HuM → Bool) (ps:List HuM):Int × Int × Int:=if 12 < ps.length then (1,0,3) else lN mt ps ps 0
set_option maxRecDepth 100000
set_option maxHeartbeats 1000000
def rA (on:List ByteArray):List ByteArray → Nat → Bool
  | [],_=>false
  | n :: r,i=>(on.take i).any (fun y=>n.toList == y.toList) || rA on r (i + 1)
theorem dQ (on:List ByteArray) (hn:on.length ≤ maxLen) (σ:ag) :
    Spec Tryz.prog Cx [.slice 1 (on.map .str)] σ fun r σ'=>r = .ret (.bool (rA on on 0)) ∧ σ' = σ:=by
  refine Spec.aC (IM (by simp) (aa _ ?_)) (by simp [ah (f:=ab.str) (fun _=>rfl)]) rfl σ
  simp [F8]
  refine AW.loop (ι:=Nat) (fun i fr σ=>fr = { v:=[(0, .slice 1 (on.map .str)),(5, .slice 1 (on.map .str)),(6, .int .i64 on.length),(7, .int .i64 i)],ds:=[] } ∧ σ = [] ∧ i ≤ on.length ∧ rA on on 0 = rA on (on.drop i) i) (fun i=>on.length - i) 0 (by simp) ?_
  rintro i fr σ ⟨rfl,rfl,hi,hpi⟩
  refine aa _ ?_
  simp
  refine ⟨fun hlt=>?_,fun hge=>?_⟩
  · have hd:on.drop i = on[i] :: on.drop (i + 1):=List.drop_eq_getElem_cons hlt
    rw [hd] at hpi
    simp only [rA] at hpi
    obtain ⟨n,hn'⟩:∃ n,on[i] = n:=⟨_,rfl⟩
    rw [hn'] at hpi
    simp [hlt,hn']
    have hq:=fm (on.take i) n (by simp; omega) []
    rw [List.map_take] at hq
    refine ⟨by omega,af.pure GB hq ?_⟩
    simp [hlt,hn']
    refine ⟨fun y hy he=>?_,fun h=>⟨i + 1,by omega,aj (by omega) (by simp only [maxLen] at hn; omega),by omega, ?_⟩⟩
    · have:((on.take i).any fun y=>n.toList == y.toList) = true:=List.any_eq_true.2 ⟨y,hy,by simp [he]⟩
      rw [hpi,this]; rfl
    · have:((on.take i).any fun y=>n.toList == y.toList) = false:=by rw [List.any_eq_false]; intro y hy; simp [h y hy]
      rw [hpi,this]; rfl
  have hz:on.drop i = []:=List.drop_eq_nil_of_le hge
  rw [hz] at hpi
  rw [hpi]; rfl
theorem aO (ps:List HuM) (x:ByteArray) (hl:ps.length ≤ maxLen) (b:Nat) (σ:ag) (hb:σ[b]? = some (.box [.slice 7 (ps.map HuM.v)])) :
    Spec Tryz.prog Fo [.ptr b 0, .str x] σ fun r σ'=>r = .ret (.int .i64 (findF ps x)) ∧ σ' = σ:=by
  refine Jt (by simp) (aa _ ?_)
  simp [GI,hb]
  refine af.pure D5 (dz _ _ rfl (fun y=>y.name.toList == x.toList) ps hl (fun y _=>jL.fn F0 (fun σ=>gD y x σ)) _) ?_
  simp [findF]
theorem gn (ps:List HuM) (n:ByteArray) (hl:ps.length ≤ maxLen) (b:Nat) (σ:ag) (hb:σ[b]? = some (.box [.slice 7 (ps.map HuM.v)])) :
    Spec Tryz.prog xK [.str n, .ptr b 0] σ fun r σ'=>r = .ret (.bool (decide (findF ps n < 0))) ∧ σ' = σ:=by
  refine JM (by simp) (aa _ ?_)
  simp [FH]
  refine af.pure eV (aO ps n hl b _ hb) ?_
  simp
theorem fU (ps:List HuM) (x:HuM) (n:ByteArray) (hl:ps.length ≤ maxLen) (b:Nat) (σ:ag) (hb:σ[b]? = some (.box [.slice 7 (ps.map HuM.v)])) (h0:0 ≤ findF ps n) :
    Spec Tryz.prog xU [.str n, .pval x.v, .ptr b 0] σ fun r σ'=>r = .ret (.bool (!dM x (atF ps n))) ∧ σ' = σ:=by
  refine BT (by simp) (aa _ ?_)
  simp [FO,hb,HuM.v,HuM.cells]
  obtain ⟨j,hj1,hj2⟩:=tu h0
  have hat:atF ps n = ps[j]:=by simp [atF,hj1,hj2]
  obtain ⟨y,hy⟩:∃ y,ps[j] = y:=⟨_,rfl⟩
  refine af.pure eV (aO ps n hl b _ hb) ?_
  simp [hj1,hj2,hy,hb,HuM.v,HuM.cells]
  refine af.pure Cr (lC x y _) ?_
  simp [hj1,hj2,hy,hb,HuM.v,HuM.cells]
  rw [hat,hy]
theorem jz (g:FuncId) (caps:List ab) (p:ByteArray → Bool) (l:List ByteArray) (hl:l.length ≤ maxLen) (σ:ag) (hf:∀ x ∈ l,aB Tryz.prog (.func (.func g) [] caps) [.str x] σ fun r σ'=>r = .ret (.bool (p x)) ∧ σ' = σ) :
    Spec Tryz.prog D9 [.slice 1 (l.map ab.str), .func (.func g) [] caps] σ fun r σ'=>r = .ret (.int .i64 (bV p l 0)) ∧ σ' = σ:=by
  refine Ju (by simp) (aa _ ?_)
  simp [F5]
  refine AW.loop (ι:=Nat) (fun i fr σ'=>fr = { v:=[(0, .slice 1 (l.map ab.str)),(1, .func (.func g) [] caps),(7, .int .i64 l.length),(8, .int .i64 i)],ds:=[] } ∧ σ' = σ ∧ i ≤ l.length ∧ bV p l 0 = bV p (l.drop i) i) (fun i=>l.length - i) 0 (by simp) ?_
  rintro i fr σ' ⟨rfl,rfl,hi,hpi⟩
  refine aa _ ?_
  simp
  refine ⟨fun hlt=>?_,fun hge=>?_⟩
  · have hd:l.drop i = l[i] :: l.drop (i + 1):=List.drop_eq_getElem_cons hlt
    rw [hd] at hpi
    simp [bV] at hpi
    simp [hlt]
    refine af.of (hf l[i] (List.getElem_mem _)) ?_
    simp
    refine ⟨fun he=>by rw [hpi,if_pos he],fun he=>⟨i + 1,by omega,aj (by omega) (by simp only [maxLen] at hl; omega),by omega,by rw [hpi,if_neg (by simp [he])]⟩⟩
  · have:l.drop i = []:=List.drop_eq_nil_of_le hge
    rw [hpi,this]; rfl
theorem bw (g:FuncId) (caps:List ab) (p:ByteArray → Bool) (l:List ByteArray) (hl:l.length ≤ maxLen) (σ:ag) (hf:∀ x ∈ l,aB Tryz.prog (.func (.func g) [] caps) [.str x] σ fun r σ'=>r = .ret (.bool (p x)) ∧ σ' = σ) :
    Spec Tryz.prog G5 [.slice 1 (l.map ab.str), .func (.func g) [] caps] σ fun r σ'=>r = .ret (.bool (l.any p)) ∧ σ' = σ:=by
  refine LY (by simp) (aa _ ?_)
  simp [Jk]
  refine af.pure Ko (jz g caps p l hl σ hf) ?_
  simp [iy]
def cH (ps:List HuM) (x:HuM) (k:Nat):Int:=
  if cg x.name = false then 6
  else if 0 ≤ findF ps x.name ∧ findF ps x.name < k then 5
  else if aH 1 5 [x.kind] || aH 0 40 [x.first,x.last] || aH 1 1000000 [x.lo,x.hi] then 7
  else if x.last < x.first ∨ x.hi < x.lo then 2
  else if x.on.any (fun n=>decide (findF (ps.take k) n < 0)) then 4
  else if rA x.on x.on 0 then 5
  else if x.on.any (fun n=>!dM x (atF (ps.take k) n)) then 9 else 0
theorem ma (ps:List HuM) (x:HuM) (k:Nat) (hl:ps.length ≤ maxLen) (hk:k ≤ ps.length) (hn:x.on.length ≤ maxLen) (b:Nat) (σ:ag) (hb:σ[b]? = some (.box [.slice 7 (ps.map HuM.v)])) :
    Spec Tryz.prog FD [.ptr b 0,x.v, .int .i64 k, .slice 7 []] σ fun r σ'=>r = .ret (ii' (cH ps x k)) ∧ ∃ tl,σ' = σ ++ tl:=by
  refine EP (by simp) (aa _ ?_)
  simp [CT,HuM.v,HuM.cells]
  refine (tf (cg x.name)).elim (fun h1=>?_) (fun h1=>?_)
  · refine af.aS re (bY x.name _) (congrArg ab.bool h1) ?_
    simp [cH,h1]
  refine af.aS re (bY x.name _) (congrArg ab.bool h1) ?_
  simp
  have hfd:=aO ps x.name hl b σ hb
  have hcf:=cO xE [.pval x.v] (by simp [ab.pure,aA,x.pure]) (fun y=>y.name.toList == x.name.toList) [] (by simp) (by simp) σ
  refine (Classical.em (0 ≤ findF ps x.name)).elim (fun h2=>?yes) (fun h2=>?no)
  case' no=>(refine af.pure eV hfd ?_; simp [h2]; have h23:¬ (0 ≤ findF ps x.name ∧ findF ps x.name < k):=fun h=>h2 h.1; refine af.pure ra hcf ?_; simp [h2])
  case' yes=>(refine af.pure eV hfd ?_; simp [h2]; refine af.pure eV hfd ?_; refine (Classical.em (findF ps x.name < k)).elim (fun h3=>?small) (fun h3=>?large))
  case' small=>(simp [h2,h3]; simp [cH,h1,h2,h3])
  case' large=>(simp [h2,h3]; have h23:¬ (0 ≤ findF ps x.name ∧ findF ps x.name < k):=fun h=>h3 h.2; refine af.pure ra hcf ?_; simp [h2,h3])
  all_goals
    refine (tf (aH 1 5 [x.kind])).elim (fun h4=>?_) (fun h4=>?_)
    rotate_left
    · refine af.aS dW (aE 1 5 [x.kind] (by simp [maxLen]) _) (congrArg ab.bool h4) ?_
      simp
      simp [cH,h1,h4]; omega
    refine af.aS dW (aE 1 5 [x.kind] (by simp [maxLen]) _) (congrArg ab.bool h4) ?_
    simp
    refine (tf (aH 0 40 [x.first,x.last])).elim (fun h5=>?_) (fun h5=>?_)
    rotate_left
    · refine af.aS dW (aE 0 40 [x.first,x.last] (by simp [maxLen]) _) (congrArg ab.bool h5) ?_
      simp
      simp [cH,h1,h4,h5]; omega
    refine af.aS dW (aE 0 40 [x.first,x.last] (by simp [maxLen]) _) (congrArg ab.bool h5) ?_
    simp
    refine (tf (aH 1 1000000 [x.lo,x.hi])).elim (fun h6=>?_) (fun h6=>?_)
    rotate_left
    · refine af.aS dW (aE 1 1000000 [x.lo,x.hi] (by simp [maxLen]) _) (congrArg ab.bool h6) ?_
      simp
      simp [cH,h1,h4,h5,h6]; omega
    refine af.aS dW (aE 1 1000000 [x.lo,x.hi] (by simp [maxLen]) _) (congrArg ab.bool h6) ?_
    simp [hb]
    refine ⟨fun h7=>?_,fun h7 h8=>?_⟩
    · simp only [cH,h1,h4,h5,h6]
      rw [if_neg (by simp),if_neg h23,if_neg (by simp),if_pos h7]
    have hc:cH ps x k = if x.on.any (fun n=>decide (findF (ps.take k) n < 0)) then 4 else if rA x.on x.on 0 then 5 else if x.on.any (fun n=>!dM x (atF (ps.take k) n)) then 9 else 0:=by
      simp only [cH,h1,h4,h5,h6]
      rw [if_neg (by simp),if_neg h23,if_neg (by simp),if_neg (by omega)]
    have hb1:(σ ++ [aQ.box [ab.slice 7 (List.take k (List.map HuM.v ps))]])[σ.length]? = some (.box [.slice 7 ((ps.take k).map HuM.v)]):=by simp [List.map_take]
    have hlk:(ps.take k).length ≤ maxLen:=by simp; omega
    have hq1:=bw xK [.ptr σ.length 0] (fun n=>decide (findF (ps.take k) n < 0)) x.on hn _ (fun n _=>aB.func Gq (gn (ps.take k) n hlk σ.length _ hb1))
    refine ⟨hk,(tf (x.on.any (fun n=>decide (findF (ps.take k) n < 0)))).elim (fun h9=>?_) (fun h9=>?_)⟩
    rotate_left
    · refine af.aS wK hq1 (congrArg ab.bool h9) ?_
      simp
      rw [hc,if_pos h9]
    refine af.aS wK hq1 (congrArg ab.bool h9) ?_
    simp
    rw [h9] at hc
    have hpos:∀ n ∈ x.on,0 ≤ findF (ps.take k) n:=by
      intro n hm
      have:=List.any_eq_false.1 h9 n hm
      simp at this
      omega
    have hq2:=bw xU [.pval x.v, .ptr σ.length 0] (fun n=>!dM x (atF (ps.take k) n)) x.on hn _ (fun n hm=>aB.func Gd (fU (ps.take k) x n hlk σ.length _ hb1 (hpos n hm)))
    refine (tf (rA x.on x.on 0)).elim (fun ha=>?_) (fun ha=>?_)
    rotate_left
    · refine af.aS A3 (dQ x.on hn _) (congrArg ab.bool ha) ?_
      simp
      rw [hc,if_neg (by simp),if_pos ha]
    refine af.aS A3 (dQ x.on hn _) (congrArg ab.bool ha) ?_
    simp
    refine (tf (x.on.any (fun n=>!dM x (atF (ps.take k) n)))).elim (fun hd=>?_) (fun hd=>?_)
    rotate_left
    · refine af.aS wK hq2 (congrArg ab.bool hd) ?_
      simp
      rw [hc,if_neg (by simp),if_neg (by simp [ha]),if_pos hd]
    refine af.aS wK hq2 (congrArg ab.bool hd) ?_
    simp
    rw [hc,if_neg (by simp),if_neg (by simp [ha]),if_neg (by simp [hd])]
set_option maxRecDepth 100000
structure sM where
  ws:List Int
  ls:List Int
def sM.v (t:sM):ab:=.agg [.slice 1 (t.ws.map ii'), .slice 1 (t.ls.map ii')]
theorem sM.pure (t:sM):t.v.pure = true:=by simp [sM.v,ab.pure,aA,ah (f:=ii') (fun _=>rfl)]
set_option maxRecDepth 100000
set_option maxHeartbeats 1000000
abbrev wr (n:Int):Int:=IntKind.i64.wrap n
set_option maxRecDepth 100000
set_option maxHeartbeats 1000000
set_option maxRecDepth 100000
set_option maxHeartbeats 1000000
set_option maxRecDepth 100000
set_option maxHeartbeats 1000000
def eF (h:l7):Int:=(Hh h).2.2
set_option maxRecDepth 100000
set_option maxHeartbeats 1000000
set_option maxRecDepth 100000
set_option maxHeartbeats 1000000
set_option maxRecDepth 100000
set_option maxHeartbeats 1000000
end Go.AM
