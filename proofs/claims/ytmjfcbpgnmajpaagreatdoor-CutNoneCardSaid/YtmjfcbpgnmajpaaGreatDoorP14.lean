/- Small functions of chapter 05: beyond, Name, Range and their like. What a name is: of the program and of the document. The check of a hull: of the program and of the document. Is a name taken: of .. -/
import Derived.Test.YtmjfcbpgnmajpaaGreatDoorG05
import Derived.Test.YtmjfcbpgnmajpaaGreatDoorP13
import Derived.Laws.RangeAny
namespace Go.AM
open Go.Proofs
set_option maxRecDepth 100000
abbrev ii' (n:Int):ab:=.int .i64 n
theorem an {n:Int} (h:-9223372036854775808 ≤ n) (h2:n ≤ 9223372036854775807):IntKind.i64.wrap n = n:=by rw [IntKind.wrap_i64]; omega
theorem av {α:Type} {f:α → ab} (h:∀ a,(f a).pure = true):∀ l:List α,aM (l.map f) = true
  | []=>rfl
  | a :: l=>by simp only [List.map_cons,aM,h a,av h l,Bool.and_self]
theorem aj.of {P:Program} {fv:ab} {args:List ab} {σ:af} {v:ab} {K Kp:ab → af → Prop} (hs:aC P fv args σ fun r σ'=>r = .ret v ∧ σ' = σ) (hq:K v σ):@aj P fv args σ ⟨K⟩ ⟨Kp⟩:=
  hs.mono (by rintro r σ' ⟨rfl,rfl⟩; exact hq)
theorem aj.aD {P:Program} {f:FuncId} (hb:ak P f = true) {args:List ab} {σ:af} {v v':ab} {K Kp:ab → af → Prop} (hs:Spec P f args σ fun r σ'=>r = .ret v ∧ σ' = σ) (e:v = v') (hq:K v' σ) :
    @aj P (.func (.func f) [] []) args σ ⟨K⟩ ⟨Kp⟩:=by subst e; exact aj.pure hb hs hq
theorem tf (b:Bool):b = false ∨ b = true:=by cases b <;> simp
@[simp] theorem yF {α:Type} (σ l:List α):(σ ++ l)[σ.length]? = l[0]?:=by simp [List.getElem?_append_right]
@[simp] theorem jI {α:Type} (σ l:List α) (n:Nat):(σ ++ l)[σ.length + n]? = l[n]?:=by rw [List.getElem?_append_right (by omega)]; congr 1; omega
@[simp] theorem wO {α:Type} (σ l:List α) (x:α):(σ ++ l).set σ.length x = σ ++ l.set 0 x:=by rw [List.set_append_right _ _ (by omega)]; simp
@[simp] theorem jy {α:Type} (σ l:List α) (x:α) (n:Nat):(σ ++ l).set (σ.length + n) x = σ ++ l.set n x:=by rw [List.set_append_right _ _ (by omega)]; congr 2; omega
def ck (P:Program) (fv:ab) (args:List ab) (v:ab):Prop:=∀ σ,aC P fv args σ fun r σ'=>r = .ret v ∧ σ' = σ
theorem ck.fn {P:Program} {f:FuncId} (hb:ak P f = true) {first caps args:List ab} {v:ab} (hs:∀ σ,Spec P f (first ++ args ++ caps) σ fun r σ'=>r = .ret v ∧ σ' = σ):ck P (.func (.func f) first caps) args v:=
  fun σ=>aC.func hb (hs σ)
/-! ### beyond -/
def gA (lo hi n:Int):Bool:=decide (n < lo) || decide (hi < n)
def aW (lo hi:Int) (l:List Int):Bool:=l.any (gA lo hi)
def bK {α:Type} (p:α → Bool):List α → Nat → Int
  | [],_=>-1
  | a :: r,i=>if p a then i else bK p r (i + 1)
theorem As {α:Type} (p:α → Bool):∀ (l:List α) (i:Nat),0 ≤ bK p l i ↔ l.any p = true
  | [],i=>by simp [bK]
  | a :: r,i=>by
    have ih:=As p r (i + 1)
    have e:bK p (a :: r) i = if p a then (i:Int) else bK p r (i + 1):=rfl
    rw [e,List.any_cons]
    by_cases h:p a = true
    · rw [if_pos h,h]; simp
    · rw [if_neg h]
      have h':p a = false:=by simpa using h
      rw [h',ih]; simp
theorem il {α:Type} (p:α → Bool) (l:List α) (i:Nat):decide (0 ≤ bK p l i) = l.any p:=by
  rw [Bool.eq_iff_iff,decide_eq_true_iff]; exact As p l i
theorem l9 (n lo hi:Int) (σ:af):Spec Tryz.prog CW [ii' n, .pval (ii' lo), .pval (ii' hi)] σ fun r σ'=>r = .ret (.bool (gA lo hi n)) ∧ σ' = σ:=by
  refine Spec.ay (JR (by simp) (dm _ ?_)) rfl rfl σ
  simp [F4,gA]
theorem iP (g:FuncId) (caps:List ab) (hp:aM caps = true) (p:Int → Bool) (l:List Int) (hl:l.length ≤ maxLen) (hf:∀ x ∈ l,ck Tryz.prog (.func (.func g) [] caps) [ii' x] (.bool (p x))) (σ:af) :
    Spec Tryz.prog B9 [.slice 1 (l.map ii'), .func (.func g) [] caps] σ fun r σ'=>r = .ret (.int .i64 (bK p l 0)) ∧ σ' = σ:=by
  refine Spec.ay (OU (by simp) (dm _ ?_)) (by simp [hp,av (f:=ii') (fun _=>rfl) l]) rfl σ
  simp [F9]
  refine AW.loop (ι:=Nat) (fun i fr σ=>fr = { v:=[(0, .slice 1 (l.map ii')),(1, .func (.func g) [] caps),(7, .int .i64 l.length),(8, .int .i64 i)],ds:=[] } ∧ i ≤ l.length ∧ bK p l 0 = bK p (l.drop i) i) (fun i=>l.length - i) 0 (by simp) ?_
  rintro i fr σ ⟨rfl,hi,hpi⟩
  refine dm _ ?_
  simp
  refine ⟨fun hlt=>?_,fun hge=>?_⟩
  · have hd:l.drop i = l[i] :: l.drop (i + 1):=List.drop_eq_getElem_cons hlt
    rw [hd] at hpi
    simp [bK] at hpi
    simp [hlt]
    refine aj.of (hf l[i] (List.getElem_mem _) σ) ?_
    simp
    refine ⟨fun he=>by rw [hpi,if_pos he],fun he=>⟨i + 1,by omega,an (by omega) (by simp only [maxLen] at hl; omega),by omega,by rw [hpi,if_neg (by simp [he])]⟩⟩
  · have:l.drop i = []:=List.drop_eq_nil_of_le hge
    rw [hpi,this]; rfl
theorem bj (g:FuncId) (caps:List ab) (hp:aM caps = true) (p:Int → Bool) (l:List Int) (hl:l.length ≤ maxLen) (hf:∀ x ∈ l,ck Tryz.prog (.func (.func g) [] caps) [ii' x] (.bool (p x))) (σ:af) :
    Spec Tryz.prog Dk [.slice 1 (l.map ii'), .func (.func g) [] caps] σ fun r σ'=>r = .ret (.bool (l.any p)) ∧ σ' = σ:=by
  refine Spec.ay (J1 (by simp) (dm _ ?_)) (by simp [hp,av (f:=ii') (fun _=>rfl) l]) rfl σ
  simp [F7]
  refine aj.pure Nr (iP g caps hp p l hl hf _) ?_
  simp [il]
theorem aQ (lo hi:Int) (l:List Int) (hl:l.length ≤ maxLen) (σ:af) :
    Spec Tryz.prog IY [ii' lo,ii' hi, .slice 1 (l.map ii')] σ fun r σ'=>r = .ret (.bool (aW lo hi l)) ∧ σ' = σ:=by
  refine Spec.ay (Si (by simp) (dm _ ?_)) (by simp [av (f:=ii') (fun _=>rfl) l]) rfl σ
  simp [MH]
  refine aj.pure uw (bj _ _ rfl (gA lo hi) l hl (fun x _=>ck.fn Nw (fun σ=>l9 x lo hi σ)) _) ?_
  simp [aW]
set_option maxRecDepth 100000
def e7 (n lo hi:Int):Bool:=decide (lo ≤ n) && decide (n ≤ hi)
theorem bw (n lo hi:Int) (σ:af):Spec Tryz.prog DM [.int .i64 n, .int .i64 lo, .int .i64 hi] σ fun r σ'=>r = .ret (.bool (e7 n lo hi)) ∧ σ' = σ:=by
  refine Spec.ay (N6 (by simp) (dm _ ?_)) rfl rfl σ
  simp [Ft,e7]
theorem b5 (n lo hi:Int) (σ:af):Spec Tryz.prog Eg [.int .i64 n, .int .i64 lo, .int .i64 hi] σ fun r σ'=>r = .ret (.bool (e7 n lo hi)) ∧ σ' = σ:=by
  refine Spec.ay (Mm (by simp) (dm _ ?_)) rfl rfl σ
  simp [F8,e7]
def qg (s:ByteArray) (i:Nat):Nat:=(s.data[i]?.getD 0).toNat
def letterF (b:Nat):Bool:=decide (97 ≤ b) && decide (b ≤ 122)
def pS (b:Nat):Bool:=decide (48 ≤ b) && decide (b ≤ 57)
def nz (s:ByteArray) (i:Nat):Bool:=letterF (qg s i) || (pS (qg s i) && i != 0)
def jP (s:ByteArray):Nat → Nat → Bool
  | _,0=>true
  | i,n + 1=>nz s i && jP s (i + 1) n
def dw (s:ByteArray):Bool:=decide (1 ≤ s.size) && decide (s.size ≤ 16) && jP s 0 s.size
theorem A8 (s:ByteArray) (i:Nat) (h:i < s.size):qg s i = (s[i]'h).toNat:=by
  have h':i < s.data.size:=h
  have e:s.data[i]?.getD 0 = s.data[i]'h':=by rw [Array.getElem?_eq_getElem h']; rfl
  unfold qg
  rw [e]
  rfl
theorem pO {s:ByteArray} {i:Nat} (hlt:i < s.size) (hp:jP s 0 s.size = jP s i (s.size - i)) (h:nz s i = false):dw s = false:=by
  unfold dw
  rw [hp,show s.size - i = (s.size - (i + 1)) + 1 by omega,jP,h]
  simp
theorem Ur (b:ByteArray) (i:Nat) (h:i < b.data.toList.length):b.get! i = b.data.toList[i]:=by
  obtain ⟨a⟩:=b
  have h':i < a.size:=by simpa using h
  show a[i]! = _
  rw [getElem!_pos a i h']; simp
theorem bl (b:ByteArray):∀ (n i:Nat) (r:List UInt8),b.size - i = n → ByteArray.toList.loop b i r = r.reverse ++ (b.data.toList.drop i)
  | 0,i,r,h=>by
    unfold ByteArray.toList.loop
    have:b.size ≤ i:=by omega
    rw [if_neg (by omega)]
    have:b.data.toList.length ≤ i:=by simpa using this
    rw [List.drop_eq_nil_of_le this]; simp
  | n + 1,i,r,h=>by
    unfold ByteArray.toList.loop
    have hlt:i < b.size:=by omega
    rw [if_pos hlt,bl b n (i + 1) _ (by omega)]
    have h':i < b.data.toList.length:=by simpa using hlt
    rw [List.drop_eq_getElem_cons h',Ur b i h']
    simp
theorem wU (b:ByteArray):b.toList = b.data.toList:=by
  unfold ByteArray.toList; rw [bl b _ 0 [] rfl]; simp
theorem toList_nil (s:ByteArray):s.toList = [] ↔ s.size = 0:=by
  rw [wU]
  constructor
  · intro h
    have:s.data.toList.length = 0:=by rw [h]; rfl
    simpa using this
  · intro h
    have:s.data.toList.length = 0:=by simpa using h
    exact List.eq_nil_of_length_eq_zero this
theorem nx (s:ByteArray) {i:Nat} (h:i < s.size):jP s i (s.size - i) = (nz s i && jP s (i + 1) (s.size - (i + 1))):=by
  rw [show s.size - i = (s.size - (i + 1)) + 1 by omega]; rfl
theorem cP (s:ByteArray) (σ:af):Spec Tryz.prog IN [.str s] σ fun r σ'=>r = .ret (.bool (dw s)) ∧ σ' = σ:=by
  refine Spec.ay (PK (by simp) (dm _ ?_)) rfl rfl σ
  simp [Kk]
  refine AW.loop (ι:=Nat) (fun i fr σ=>fr = { v:=[(0, .str s),(8, .iter 0)],ds:=[] } ∧ σ = [.siter s i] ∧ i ≤ s.size ∧ jP s 0 s.size = jP s i (s.size - i)) (fun i=>s.size - i) 0 (by simp) ?_
  rintro i fr σ ⟨rfl,rfl,hi,hp⟩
  refine dm _ ?_
  simp
  split
  · rename_i hlt
    have hb:=A8 s i hlt
    have hst:=nx s hlt
    have hd:((Utf8.decode s i).1 = qg s i ∧ (Utf8.decode s i).2 = 1 ∧ qg s i < 128) ∨ (128 ≤ (Utf8.decode s i).1 ∧ 128 ≤ qg s i):=by
      by_cases ha:(s[i]'hlt).toNat < 128
      · left; rw [Go.decode_ascii s i hlt ha,hb]; exact ⟨rfl,rfl,ha⟩
      · right; rw [hb]; exact ⟨(Go.decode_high s i hlt (by omega)).1,by omega⟩
    generalize Utf8.decode s i = d at hd ⊢
    obtain ⟨r,w⟩:=d
    simp only at hd ⊢
    refine ⟨fun h=>⟨h,fun h1 h2=>⟨h,h1,h2⟩⟩,fun h1 h2=>pO hlt hp ?_,fun h=>?_⟩
    · simp [nz,letterF,pS]
      omega
    · have hok:nz s i = true:=by
        simp [nz,letterF,pS]
        omega
      have hw:w = 1:=by
        rcases hd with hd | hd
        · exact hd.2.1
        · exfalso
          have:nz s i = false:=by simp [nz,letterF,pS]; omega
          rw [hok] at this; cases this
      subst hw
      exact ⟨i + 1,by omega,rfl,by omega,by rw [hp,hst,hok]; rfl⟩
  · rename_i hge
    have:i = s.size:=by omega
    subst this
    rw [Nat.sub_self] at hp
    unfold dw
    rw [hp]
    rw [Bool.eq_iff_iff]
    simp [jP]
    refine ⟨fun ⟨h1,h2⟩=>⟨?_,by omega⟩,fun h=>⟨fun e=>?_,by omega⟩⟩
    · have h1':¬ s.size = 0:=fun e=>h1 ((toList_nil s).2 e)
      omega
    · have:=(toList_nil s).1 e
      omega
theorem jb (s:ByteArray) (σ:af):Spec Tryz.prog Eh [.str s] σ fun r σ'=>r = .ret (.bool (dw s)) ∧ σ' = σ:=by
  refine Spec.ay (Nz (by simp) (dm _ ?_)) rfl rfl σ
  simp [Gf]
  refine aj.pure ov (bw s.size 1 16 _) ?_
  simp
  have hb:∀ i:Nat,((s.data[i]?.getD 0).toNat:Int) = (qg s i:Int):=fun _=>rfl
  simp only [hb]
  have hin:e7 (s.size:Int) 1 16 = true ↔ 1 ≤ s.size ∧ s.size ≤ 16:=by simp [e7]; omega
  have hin':e7 (s.size:Int) 1 16 = false ↔ ¬ (1 ≤ s.size ∧ s.size ≤ 16):=by rw [← hin]; simp
  simp only [hin,hin']
  refine ⟨fun h=>⟨h,by omega⟩,fun h h2=>⟨⟨h,h2⟩,by omega⟩,fun h=>?_,fun h1 h2 h3=>?_⟩
  · by_cases hz:1 ≤ s.size ∧ s.size ≤ 16
    · refine pO (i:=0) (by omega) rfl ?_
      simp [nz,letterF]
      omega
    · unfold dw
      rw [Bool.eq_false_iff]
      simp
      intros
      omega
  refine AW.loop (ι:=Nat) (fun i fr σ=>fr = { v:=[(0, .str s),(3, .int .i64 i)],ds:=[] } ∧ σ = [] ∧ 1 ≤ i ∧ i ≤ s.size ∧ jP s 0 s.size = jP s i (s.size - i)) (fun i=>s.size - i) 1 ⟨by simp,rfl,by omega,by omega, ?_⟩ ?_
  · have:=nx s (i:=0) (by omega)
    rw [Nat.sub_zero] at this
    rw [this]
    have:nz s 0 = true:=by simp [nz,letterF]; omega
    rw [this]; rfl
  rintro i fr σ ⟨rfl,rfl,h1i,hi,hp⟩
  refine dm _ ?_
  simp
  simp only [hb]
  refine ⟨fun hlt=>⟨hlt,fun h=>⟨h,hlt⟩,hlt,fun h=>⟨h,hlt⟩,fun h h'=>pO hlt hp ?_,fun h=>?_⟩,fun hge=>?_⟩
  · simp [nz,letterF,pS]
    omega
  · have hok:nz s i = true:=by
      simp [nz,letterF,pS]
      omega
    exact ⟨i + 1,by omega,an (by omega) (by omega),by omega,by omega,by rw [hp,nx s hlt,hok]; rfl⟩
  · have:i = s.size:=by omega
    subst this
    rw [Nat.sub_self] at hp
    unfold dw
    rw [hp]
    simp [jP]
    omega
set_option maxRecDepth 100000
set_option maxHeartbeats 4000000
structure aq where
  name:ByteArray
  at_:Int
  wLo:Int
  wHi:Int
  keel:Int
  lLo:Int
  lHi:Int
def aq.cells (p:aq):List ab:=[.str p.name,ii' p.at_,ii' p.wLo,ii' p.wHi,ii' p.keel,ii' p.lLo,ii' p.lHi]
def aq.v (p:aq):ab:=.agg p.cells
structure aB where
  ps:List aq
  aft:Int
  fore:Int
def aB.cells (h:aB):List ab:=[.slice 7 (h.ps.map aq.v),ii' h.aft,ii' h.fore]
def aB.v (h:aB):ab:=.agg h.cells
theorem aB.pure (h:aB):h.v.pure = true:=by simp [aB.v,aB.cells,ab.pure,aM,av (f:=aq.v) (fun _=>rfl) h.ps]
def fo (p:aq):Int:=
  if aW 0 5000 [p.at_] || aW 0 1000 [p.keel] || aW 0 1000000 [p.wLo,p.wHi] || aW 0 5000 [p.lLo,p.lHi] then 7
  else if decide (p.wHi < p.wLo) || decide (p.lHi < p.lLo) then 2 else 0
theorem pM (p : aq) (σ : af) : Spec Tryz.prog Ib [p.v] σ fun r σ' => r = .ret (ii' (fo p)) ∧ σ' = σ := by
  refine Spec.ay (SB (by simp) (dm _ ?_)) rfl rfl σ
  simp [Ny,aq.v,aq.cells]
  refine (tf (aW 0 5000 [p.at_])).elim (fun h1=>?_) (fun h1=>?_)
  · refine aj.aD nS (aQ 0 5000 [p.at_] (by simp [maxLen]) _) (congrArg ab.bool h1) ?_
    simp
    refine (tf (aW 0 1000 [p.keel])).elim (fun h2=>?_) (fun h2=>?_)
    · refine aj.aD nS (aQ 0 1000 [p.keel] (by simp [maxLen]) _) (congrArg ab.bool h2) ?_
      simp
      refine (tf (aW 0 1000000 [p.wLo,p.wHi])).elim (fun h3=>?_) (fun h3=>?_)
      · refine aj.aD nS (aQ 0 1000000 [p.wLo,p.wHi] (by simp [maxLen]) _) (congrArg ab.bool h3) ?_
        simp
        refine (tf (aW 0 5000 [p.lLo,p.lHi])).elim (fun h4=>?_) (fun h4=>?_)
        · refine aj.aD nS (aQ 0 5000 [p.lLo,p.lHi] (by simp [maxLen]) _) (congrArg ab.bool h4) ?_
          refine (Classical.em (p.wHi < p.wLo)).elim (fun h5=>?_) (fun h5=>?_)
          · simp [h5]
            simp [fo,h1,h2,h3,h4,h5]
          · refine (Classical.em (p.lHi < p.lLo)).elim (fun h6=>?_) (fun h6=>?_)
            · simp [h5,h6]
              simp [fo,h1,h2,h3,h4,h5,h6]
            · simp [h5,h6]
              simp [fo,h1,h2,h3,h4,h5,h6]
        · refine aj.aD nS (aQ 0 5000 [p.lLo,p.lHi] (by simp [maxLen]) _) (congrArg ab.bool h4) ?_
          simp
          simp [fo,h1,h2,h3,h4]
      · refine aj.aD nS (aQ 0 1000000 [p.wLo,p.wHi] (by simp [maxLen]) _) (congrArg ab.bool h3) ?_
        simp
        simp [fo,h1,h2,h3]
    · refine aj.aD nS (aQ 0 1000 [p.keel] (by simp [maxLen]) _) (congrArg ab.bool h2) ?_
      simp
      simp [fo,h1,h2]
  · refine aj.aD nS (aQ 0 5000 [p.at_] (by simp [maxLen]) _) (congrArg ab.bool h1) ?_
    simp
    simp [fo,h1]
set_option maxRecDepth 100000
set_option maxHeartbeats 1000000
theorem nu (y x:aq) (σ:af):Spec Tryz.prog Fc [y.v, .pval x.v] σ fun r σ'=>r = .ret (.bool (y.name.toList == x.name.toList)) ∧ σ' = σ:=by
  refine Spec.ay (RT (by simp) (dm _ ?_)) rfl rfl σ
  simp [Kx,aq.v,aq.cells]
theorem jr (g:FuncId) (caps:List ab) (hp:aM caps = true) (p:aq → Bool) (l:List aq) (hl:l.length ≤ maxLen) (hf:∀ x ∈ l,ck Tryz.prog (.func (.func g) [] caps) [x.v] (.bool (p x))) (σ:af) :
    Spec Tryz.prog Et [.slice 7 (l.map aq.v), .func (.func g) [] caps] σ fun r σ'=>r = .ret (.int .i64 (bK p l 0)) ∧ σ' = σ:=by
  refine Spec.ay (N4 (by simp) (dm _ ?_)) (by simp [hp,av (f:=aq.v) (fun _=>rfl) l]) rfl σ
  simp [Hm]
  refine AW.loop (ι:=Nat) (fun i fr σ=>fr = { v:=[(0, .slice 7 (l.map aq.v)),(1, .func (.func g) [] caps),(7, .int .i64 l.length),(8, .int .i64 i)],ds:=[] } ∧ i ≤ l.length ∧ bK p l 0 = bK p (l.drop i) i) (fun i=>l.length - i) 0 (by simp) ?_
  rintro i fr σ ⟨rfl,hi,hpi⟩
  refine dm _ ?_
  simp
  refine ⟨fun hlt=>?_,fun hge=>?_⟩
  · have hd:l.drop i = l[i] :: l.drop (i + 1):=List.drop_eq_getElem_cons hlt
    rw [hd] at hpi
    simp [bK] at hpi
    simp [hlt,aq.v,aq.cells]
    refine aj.of (hf l[i] (List.getElem_mem _) σ) ?_
    simp
    refine ⟨fun he=>by rw [hpi,if_pos he],fun he=>⟨i + 1,by omega,an (by omega) (by simp only [maxLen] at hl; omega),by omega,by rw [hpi,if_neg (by simp [he])]⟩⟩
  · have:l.drop i = []:=List.drop_eq_nil_of_le hge
    rw [hpi,this]; rfl
theorem g7 (g:FuncId) (caps:List ab) (hp:aM caps = true) (p:aq → Bool) (l:List aq) (hl:l.length ≤ maxLen) (hf:∀ x ∈ l,ck Tryz.prog (.func (.func g) [] caps) [x.v] (.bool (p x))) (σ:af) :
    Spec Tryz.prog Iu [.slice 7 (l.map aq.v), .func (.func g) [] caps] σ fun r σ'=>r = .ret (.bool (l.any p)) ∧ σ' = σ:=by
  refine Spec.ay (SQ (by simp) (dm _ ?_)) (by simp [hp,av (f:=aq.v) (fun _=>rfl) l]) rfl σ
  simp [KQ]
  refine aj.pure JU (jr g caps hp p l hl hf _) ?_
  simp [il]
set_option maxRecDepth 100000
set_option maxHeartbeats 1000000
structure HuM where
  name:ByteArray
  kind:Int
  first:Int
  last:Int
  on:List ByteArray
  lo:Int
  hi:Int
def HuM.cells (p:HuM):List ab:=[.str p.name,ii' p.kind,ii' p.first,ii' p.last, .slice 1 (p.on.map .str),ii' p.lo,ii' p.hi]
def HuM.v (p:HuM):ab:=.agg p.cells
theorem HuM.pure (p:HuM):p.v.pure = true:=by simp [HuM.v,HuM.cells,ab.pure,aM,av (f:=ab.str) (fun _=>rfl) p.on]
structure aE where
  name:ByteArray
  kept:Bool
def aE.cells (p:aE):List ab:=[.str p.name, .bool p.kept]
def aE.v (p:aE):ab:=.agg p.cells
theorem aE.pure (p:aE):p.v.pure = true:=rfl
theorem m6 (n lo hi:Int) (σ:af):Spec Tryz.prog CP [ii' n, .pval (ii' lo), .pval (ii' hi)] σ fun r σ'=>r = .ret (.bool (gA lo hi n)) ∧ σ' = σ:=by
  refine Spec.ay (JT (by simp) (dm _ ?_)) rfl rfl σ
  simp [Gx,gA]
theorem b8 (lo hi:Int) (l:List Int) (hl:l.length ≤ maxLen) (σ:af) :
    Spec Tryz.prog Ei [ii' lo,ii' hi, .slice 1 (l.map ii')] σ fun r σ'=>r = .ret (.bool (aW lo hi l)) ∧ σ' = σ:=by
  refine Spec.ay (L7 (by simp) (dm _ ?_)) (by simp [av (f:=ii') (fun _=>rfl) l]) rfl σ
  simp [Fx]
  refine aj.pure uw (bj _ _ rfl (gA lo hi) l hl (fun x _=>ck.fn MO (fun σ=>m6 x lo hi σ)) _) ?_
  simp [aW]
def yr (a b:HuM):Bool:=decide (a.first ≤ b.last) && decide (b.first ≤ a.last)
theorem sn (a b:HuM) (σ:af):Spec Tryz.prog C9 [a.v,b.v] σ fun r σ'=>r = .ret (.bool (yr a b)) ∧ σ' = σ:=by
  refine Spec.ay (NI (by simp) (dm _ ?_)) (by simp [HuM.pure]) rfl σ
  simp [Gg,HuM.v,HuM.cells]
  refine (Classical.em (a.first ≤ b.last)).elim (fun h=>?_) (fun h=>?_) <;> simp [h,yr]
theorem tP (a b:HuM) (σ:af):Spec Tryz.prog En [a.v,b.v] σ fun r σ'=>r = .ret (.bool (decide (max a.first b.first ≤ min a.last b.last))) ∧ σ' = σ:=by
  refine Spec.ay (Mg (by simp) (dm _ ?_)) (by simp [HuM.pure]) rfl σ
  simp [Ga,HuM.v,HuM.cells]
  by_cases h1:a.first < b.first <;> by_cases h2:b.last < a.last <;> simp only [h1,h2,if_true,if_false] <;> omega
theorem er (g:FuncId) (caps:List ab) (hp:aM caps = true) (p:HuM → Bool) (l:List HuM) (hl:l.length ≤ maxLen) (hf:∀ x ∈ l,ck Tryz.prog (.func (.func g) [] caps) [x.v] (.bool (p x))) (σ:af) :
    Spec Tryz.prog Cl [.slice 7 (l.map HuM.v), .func (.func g) [] caps] σ fun r σ'=>r = .ret (.int .i64 (bK p l 0)) ∧ σ' = σ:=by
  refine Spec.ay (Kc (by simp) (dm _ ?_)) (by simp [hp,av (f:=HuM.v) (fun p=>p.pure) l]) rfl σ
  simp [FG]
  refine AW.loop (ι:=Nat) (fun i fr σ=>fr = { v:=[(0, .slice 7 (l.map HuM.v)),(1, .func (.func g) [] caps),(7, .int .i64 l.length),(8, .int .i64 i)],ds:=[] } ∧ i ≤ l.length ∧ bK p l 0 = bK p (l.drop i) i) (fun i=>l.length - i) 0 (by simp) ?_
  rintro i fr σ ⟨rfl,hi,hpi⟩
  refine dm _ ?_
  simp
  refine ⟨fun hlt=>?_,fun hge=>?_⟩
  · have hd:l.drop i = l[i] :: l.drop (i + 1):=List.drop_eq_getElem_cons hlt
    rw [hd] at hpi
    simp [bK] at hpi
    simp [hlt,HuM.v,HuM.cells]
    refine aj.of (hf l[i] (List.getElem_mem _) σ) ?_
    simp
    refine ⟨fun he=>by rw [hpi,if_pos he],fun he=>⟨i + 1,by omega,an (by omega) (by simp only [maxLen] at hl; omega),by omega,by rw [hpi,if_neg (by simp [he])]⟩⟩
  · have:l.drop i = []:=List.drop_eq_nil_of_le hge
    rw [hpi,this]; rfl
theorem hZ (g:FuncId) (caps:List ab) (hp:aM caps = true) (p:HuM → Bool) (l:List HuM) (hl:l.length ≤ maxLen) (hf:∀ x ∈ l,ck Tryz.prog (.func (.func g) [] caps) [x.v] (.bool (p x))) (σ:af) :
    Spec Tryz.prog DD [.slice 7 (l.map HuM.v), .func (.func g) [] caps] σ fun r σ'=>r = .ret (.bool (l.any p)) ∧ σ' = σ:=by
  refine Spec.ay (Oj (by simp) (dm _ ?_)) (by simp [hp,av (f:=HuM.v) (fun p=>p.pure) l]) rfl σ
  simp [G5]
  refine aj.pure GK (er g caps hp p l hl hf _) ?_
  simp [il]
theorem jd (g:FuncId) (caps:List ab) (hp:aM caps = true) (p:aE → Bool) (l:List aE) (hl:l.length ≤ maxLen) (hf:∀ x ∈ l,ck Tryz.prog (.func (.func g) [] caps) [x.v] (.bool (p x))) (σ:af) :
    Spec Tryz.prog EC [.slice 2 (l.map aE.v), .func (.func g) [] caps] σ fun r σ'=>r = .ret (.int .i64 (bK p l 0)) ∧ σ' = σ:=by
  refine Spec.ay (Oy (by simp) (dm _ ?_)) (by simp [hp,av (f:=aE.v) (fun _=>rfl) l]) rfl σ
  simp [Hb]
  refine AW.loop (ι:=Nat) (fun i fr σ=>fr = { v:=[(0, .slice 2 (l.map aE.v)),(1, .func (.func g) [] caps),(7, .int .i64 l.length),(8, .int .i64 i)],ds:=[] } ∧ i ≤ l.length ∧ bK p l 0 = bK p (l.drop i) i) (fun i=>l.length - i) 0 (by simp) ?_
  rintro i fr σ ⟨rfl,hi,hpi⟩
  refine dm _ ?_
  simp
  refine ⟨fun hlt=>?_,fun hge=>?_⟩
  · have hd:l.drop i = l[i] :: l.drop (i + 1):=List.drop_eq_getElem_cons hlt
    rw [hd] at hpi
    simp [bK] at hpi
    simp [hlt,aE.v,aE.cells]
    refine aj.of (hf l[i] (List.getElem_mem _) σ) ?_
    simp
    refine ⟨fun he=>by rw [hpi,if_pos he],fun he=>⟨i + 1,by omega,an (by omega) (by simp only [maxLen] at hl; omega),by omega,by rw [hpi,if_neg (by simp [he])]⟩⟩
  · have:l.drop i = []:=List.drop_eq_nil_of_le hge
    rw [hpi,this]; rfl
theorem p6 (g:FuncId) (caps:List ab) (hp:aM caps = true) (p:aE → Bool) (l:List aE) (hl:l.length ≤ maxLen) (hf:∀ x ∈ l,ck Tryz.prog (.func (.func g) [] caps) [x.v] (.bool (p x))) (σ:af) :
    Spec Tryz.prog D0 [.slice 2 (l.map aE.v), .func (.func g) [] caps] σ fun r σ'=>r = .ret (.bool (l.any p)) ∧ σ' = σ:=by
  refine Spec.ay (Pj (by simp) (dm _ ?_)) (by simp [hp,av (f:=aE.v) (fun _=>rfl) l]) rfl σ
  simp [FH]
  refine aj.pure K0 (jd g caps hp p l hl hf _) ?_
  simp [il]
/-! ### strings -/
theorem kH (l:List ByteArray) (x:ByteArray) (hl:l.length ≤ maxLen) (σ:af) :
    Spec Tryz.prog Dh [.slice 1 (l.map .str), .str x] σ fun r σ'=>r = .ret (.int .i64 (bK (fun y=>x.toList == y.toList) l 0)) ∧ σ' = σ:=by
  refine Spec.ay (Of (by simp) (dm _ ?_)) (by simp [av (f:=ab.str) (fun _=>rfl) l]) rfl σ
  simp [FD]
  refine AW.loop (ι:=Nat) (fun i fr σ=>fr = { v:=[(0, .slice 1 (l.map ab.str)),(1, .str x),(7, .int .i64 l.length),(8, .int .i64 i)],ds:=[] } ∧ i ≤ l.length ∧ bK (fun y=>x.toList == y.toList) l 0 = bK (fun y=>x.toList == y.toList) (l.drop i) i) (fun i=>l.length - i) 0 (by simp) ?_
  rintro i fr σ ⟨rfl,hi,hpi⟩
  refine dm _ ?_
  simp
  refine ⟨fun hlt=>?_,fun hge=>?_⟩
  · have hd:l.drop i = l[i] :: l.drop (i + 1):=List.drop_eq_getElem_cons hlt
    rw [hd] at hpi
    simp [bK] at hpi
    simp [hlt]
    refine ⟨fun he=>by rw [hpi,if_pos he],fun he=>⟨i + 1,by omega,an (by omega) (by simp only [maxLen] at hl; omega),by omega,by rw [hpi,if_neg (by simp [he])]⟩⟩
  · have:l.drop i = []:=List.drop_eq_nil_of_le hge
    rw [hpi,this]; rfl
theorem ez (l:List ByteArray) (x:ByteArray) (hl:l.length ≤ maxLen) (σ:af) :
    Spec Tryz.prog D2 [.slice 1 (l.map .str), .str x] σ fun r σ'=>r = .ret (.bool (l.any fun y=>x.toList == y.toList)) ∧ σ' = σ:=by
  refine Spec.ay (OL (by simp) (dm _ ?_)) (by simp [av (f:=ab.str) (fun _=>rfl) l]) rfl σ
  simp [FZ]
  refine aj.pure Js (kH l x hl _) ?_
  simp [il]
theorem kD (y:HuM) (x:ByteArray) (σ:af):Spec Tryz.prog Ea [y.v, .pval (.str x)] σ fun r σ'=>r = .ret (.bool (y.name.toList == x.toList)) ∧ σ' = σ:=by
  refine Spec.ay (Ov (by simp) (dm _ ?_)) (by simp [HuM.pure,ab.pure,aM]) rfl σ
  simp [Gb,HuM.v,HuM.cells]
def findF (l:List HuM) (x:ByteArray):Int:=bK (fun y=>y.name.toList == x.toList) l 0
set_option maxRecDepth 100000
def dG:List ByteArray → ByteArray → Nat → Int
  | [],_,_=>-1
  | a :: r,s,i=>if a.toList == s.toList then i else dG r s (i + 1)
theorem iC (l:List ByteArray) (s:ByteArray) (hl:l.length ≤ maxLen) (σ:af):Spec Tryz.prog Dj [.slice 1 (l.map .str), .str s] σ fun r σ'=>r = .ret (.int .i64 (dG l s 0)) ∧ σ' = σ:=by
  refine Spec.ay (KH (by simp) (dm _ ?_)) ?_ rfl σ
  rotate_left
  · simp only [aM,ab.pure,Bool.and_true]; exact av (fun _=>rfl) l
  simp [GZ]
  refine AW.loop (ι:=Nat) (fun i fr σ=>fr = { v:=[(0, .slice 1 (l.map .str)),(1, .str s),(5, .int .i64 i)],ds:=[] } ∧ σ = [] ∧ i ≤ l.length ∧ dG l s 0 = dG (l.drop i) s i) (fun i=>l.length - i) 0 (by simp) ?_
  rintro i fr σ ⟨rfl,rfl,hi,hp⟩
  refine dm _ ?_
  simp
  refine ⟨fun hlt=>?_,fun hge=>?_⟩
  · have hd:l.drop i = l[i] :: l.drop (i + 1):=List.drop_eq_getElem_cons hlt
    rw [hd] at hp
    simp [dG] at hp
    simp [hlt]
    refine ⟨fun he=>by rw [hp,if_pos he],fun he=>⟨i + 1,by omega,an (by omega) (by simp only [maxLen] at hl; omega),by omega,by rw [hp,if_neg he]⟩⟩
  · have:l.drop i = []:=List.drop_eq_nil_of_le hge
    rw [hp,this]; rfl
def bc (s:Int × Int) (lo hi:Int):Int:=if !e7 s.1 lo hi || !e7 s.2 lo hi then 7 else if s.1 > s.2 then 2 else 0
theorem qR (a b lo hi:Int) (σ:af):Spec Tryz.prog CL [.slice 2 [.agg [.int .i64 a, .int .i64 b]], .int .i64 lo, .int .i64 hi] σ fun r σ'=>r = .ret (.int .i64 (bc (a,b) lo hi)) ∧ σ' = σ:=by
  refine Spec.ay (L0 (by simp) (dm _ ?_)) rfl rfl σ
  simp [FI]
  refine AW.loop (ι:=Nat) (fun i fr σ=>fr = { v:=[(0, .slice 2 [.agg [.int .i64 a, .int .i64 b]]),(1, .int .i64 lo),(2, .int .i64 hi),(7, .bool (decide (i = 1) && decide (b < a))),(8, .int .i64 i)],ds:=[] } ∧ σ = [] ∧ i ≤ 1 ∧ (i = 1 → e7 a lo hi = true ∧ e7 b lo hi = true)) (fun i=>1 - i) 0 (by simp) ?_
  rintro i fr σ ⟨rfl,rfl,hi',hp⟩
  rcases (by omega:i = 0 ∨ i = 1) with rfl | rfl
  · refine dm _ ?_
    simp
    refine aj.pure ov (bw a lo hi _) ?_
    simp
    refine ⟨?_, ?_⟩
    · intro h
      refine ⟨h,aj.pure ov (bw b lo hi _) ?_⟩
      simp [h]
      exact ⟨fun hb=>by simp [bc,h,hb],fun hb=>⟨1,by omega,⟨fun _=>rfl,an (by omega) (by omega)⟩,by omega,fun _=>hb⟩⟩
    · intro h
      simp [h,bc]
  · refine dm _ ?_
    simp [bc,hp rfl]
theorem e9 (a b lo hi:Int) (σ:af):Spec Tryz.prog C0 [.agg [.int .i64 a, .int .i64 b], .int .i64 lo, .int .i64 hi] σ fun r σ'=>r = .ret (.int .i64 (bc (a,b) lo hi)) ∧ σ' = σ:=by
  refine Spec.ay (O7 (by simp) (dm _ ?_)) rfl rfl σ
  simp [Gq]
  refine aj.pure O5 (qR a b lo hi _) ?_
  simp
def jo (s:ByteArray) (l:List ByteArray):Int:=if dw s then (if 0 ≤ dG l s 0 then 5 else 0) else 6
theorem k7 (l:List ByteArray) (s:ByteArray) (hl:l.length ≤ maxLen) (σ:af):Spec Tryz.prog Dr [.str s, .slice 1 (l.map .str)] σ fun r σ'=>r = .ret (.int .i64 (jo s l)) ∧ σ' = σ:=by
  refine Spec.ay (On (by simp) (dm _ ?_)) ?_ rfl σ
  rotate_left
  · simp only [aM,ab.pure,Bool.and_true]; exact av (fun _=>rfl) l
  simp [FU]
  refine aj.pure Dl (jb s _) ?_
  simp
  refine ⟨fun h=>by simp [jo,h],fun h=>aj.pure El (iC l s hl _) ?_⟩
  simp [jo,h]
set_option maxRecDepth 100000
set_option maxHeartbeats 1000000
theorem fP (l:List HuM) (x:ByteArray) (hl:l.length ≤ maxLen) (σ:af) :
    Spec Tryz.prog Hw [.slice 7 (l.map HuM.v), .str x] σ fun r σ'=>r = .ret (.int .i64 (findF l x)) ∧ σ' = σ:=by
  refine Spec.ay (QA (by simp) (dm _ ?_)) (by simp [av (f:=HuM.v) (fun p=>p.pure) l]) rfl σ
  simp [N0]
  refine AW.loop (ι:=Nat) (fun i fr σ=>fr = { v:=[(0, .slice 7 (l.map HuM.v)),(1, .str x),(5, .int .i64 i)],ds:=[] } ∧ i ≤ l.length ∧ findF l x = bK (fun y=>y.name.toList == x.toList) (l.drop i) i) (fun i=>l.length - i) 0 (by simp [findF]) ?_
  rintro i fr σ ⟨rfl,hi,hpi⟩
  refine dm _ ?_
  simp
  refine ⟨fun hlt=>?_,fun hge=>?_⟩
  · have hd:l.drop i = l[i] :: l.drop (i + 1):=List.drop_eq_getElem_cons hlt
    rw [hd] at hpi
    simp [bK] at hpi
    simp [hlt,HuM.v,HuM.cells]
    refine ⟨fun he=>by rw [hpi,if_pos he],fun he=>⟨i + 1,by omega,an (by omega) (by simp only [maxLen] at hl; omega),by omega,by rw [hpi,if_neg (by simp [he])]⟩⟩
  · have:l.drop i = []:=List.drop_eq_nil_of_le hge
    rw [hpi,this]; rfl
def gM (x:HuM):Int:=bc (x.lo,x.hi) 1 1000000
def dx (x:HuM):Bool:=!e7 x.kind 1 5 || !e7 x.first 0 40 || !e7 x.last 0 40 || gM x == 7
def rO (on:List ByteArray):List ByteArray → Nat → Bool
  | [],_=>false
  | n :: r,i=>decide (0 ≤ dG (on.take i) n 0) || rO on r (i + 1)
def atF (l:List HuM) (n:ByteArray):HuM:=l.getD (findF l n).toNat ⟨.empty,0,0,0,[],0,0⟩
def fu (a b:HuM):Bool:=decide (max a.first b.first ≤ min a.last b.last)
def cV (mt:HuM → HuM → Bool) (x:HuM) (before others:List HuM):Int:=
  if dw x.name = false then 6
  else if 0 ≤ findF others x.name then 5
  else if dx x then 7
  else if x.last < x.first ∨ gM x ≠ 0 then 2
  else if x.on.any (fun n=>decide (findF before n < 0)) then 4
  else if rO x.on x.on 0 then 5
  else if x.on.any (fun n=>!mt x (atF before n)) then 9 else 0
theorem vr {α:Type} (p:α → Bool):∀ (l:List α) (i:Nat),0 ≤ bK p l i → ∃ j,bK p l i = i + (j:Nat) ∧ j < l.length
  | [],i,h=>by simp [bK] at h
  | a :: r,i,h=>by
    simp only [bK] at h ⊢
    by_cases hp:p a = true
    · rw [if_pos hp]; exact ⟨0,by simp,by simp⟩
    · rw [if_neg hp] at h ⊢
      obtain ⟨j,h1,h2⟩:=vr p r (i + 1) h
      exact ⟨j + 1,by rw [h1]; push_cast; omega,by simp; omega⟩
theorem oI {l:List HuM} {n:ByteArray} (h:0 ≤ findF l n):∃ j,findF l n = (j:Nat) ∧ j < l.length:=by
  obtain ⟨j,h1,h2⟩:=vr _ l 0 h
  exact ⟨j,by simpa [findF] using h1,h2⟩
theorem tK (x:HuM) (before others:List HuM) (hb:before.length ≤ maxLen) (ho:others.length ≤ maxLen) (hn:x.on.length ≤ maxLen) (σ:af) :
    Spec Tryz.prog CQ [x.v, .slice 7 (before.map HuM.v), .slice 7 (others.map HuM.v)] σ fun r σ'=>r = .ret (ii' (cV fu x before others)) ∧ σ' = σ:=by
  refine Spec.ay (Ml (by simp) (dm _ ?_)) (by simp [HuM.pure,av (f:=HuM.v) (fun p=>p.pure)]) rfl σ
  simp [F2,HuM.v,HuM.cells]
  refine (tf (dw x.name)).elim (fun h1=>?_) (fun h1=>?_)
  · refine aj.aD Dl (jb x.name _) (congrArg ab.bool h1) ?_
    simp [cV,h1]
  refine aj.aD Dl (jb x.name _) (congrArg ab.bool h1) ?_
  simp
  refine aj.pure ER (fP others x.name ho _) ?_
  simp
  refine ⟨fun h2=>by simp [cV,h1,h2],fun h2=>?_⟩
  refine aj.pure Ad (e9 x.lo x.hi 1 1000000 _) ?_
  simp
  refine (tf (e7 x.kind 1 5)).elim (fun h3=>?_) (fun h3=>?_)
  · refine aj.aD ov (bw x.kind 1 5 _) (congrArg ab.bool h3) ?_
    simp
    simp [cV,h1,h2,dx,h3]
  refine aj.aD ov (bw x.kind 1 5 _) (congrArg ab.bool h3) ?_
  simp
  refine (tf (e7 x.first 0 40)).elim (fun h4=>?_) (fun h4=>?_)
  · refine aj.aD ov (bw x.first 0 40 _) (congrArg ab.bool h4) ?_
    simp
    simp [cV,h1,h2,dx,h3,h4]
  refine aj.aD ov (bw x.first 0 40 _) (congrArg ab.bool h4) ?_
  simp
  refine (tf (e7 x.last 0 40)).elim (fun h5=>?_) (fun h5=>?_)
  · refine aj.aD ov (bw x.last 0 40 _) (congrArg ab.bool h5) ?_
    simp
    simp [cV,h1,h2,dx,h3,h4,h5]
  refine aj.aD ov (bw x.last 0 40 _) (congrArg ab.bool h5) ?_
  simp
  refine ⟨fun h6=>by simp [cV,h1,h2,dx,h3,h4,h5,gM,h6],fun h6=>⟨fun h7=>?_,fun h7 h8=>?_⟩⟩
  · have:x.last < x.first ∨ gM x ≠ 0:=h7
    simp [cV,h1,dx,h3,h4,h5,this]
    simp [gM,h6,h2]
  have hp:cV fu x before others = if x.on.any (fun n=>decide (findF before n < 0)) then 4 else if rO x.on x.on 0 then 5 else if x.on.any (fun n=>!fu x (atF before n)) then 9 else 0:=by
    have e1:¬ (x.last < x.first ∨ gM x ≠ 0):=by simp only [gM,h8]; omega
    have e2:dx x = false:=by simp [dx,h3,h4,h5,gM,h6]
    simp only [cV,h1,e2]
    rw [if_neg (by simp),if_neg (by omega),if_neg (by simp),if_neg e1]
  refine AW.loop (ι:=Nat) (fun i fr σ=>fr = { v:=[(1, .slice 7 (before.map HuM.v)),(3, .pval (.agg [.str x.name,ii' x.kind,ii' x.first,ii' x.last, .slice 1 (x.on.map .str),ii' x.lo,ii' x.hi])),(8, .int .i64 i)],ds:=[] } ∧ σ = [] ∧ i ≤ x.on.length ∧ x.on.any (fun n=>decide (findF before n < 0)) = (x.on.drop i).any (fun n=>decide (findF before n < 0))) (fun i=>x.on.length - i) 0 (by simp) ?_
  rintro i fr σ ⟨rfl,rfl,hi,hpi⟩
  refine dm _ ?_
  simp
  refine ⟨fun hlt=>?_,fun hge=>?_⟩
  · have hd:x.on.drop i = x.on[i] :: x.on.drop (i + 1):=List.drop_eq_getElem_cons hlt
    rw [hd] at hpi
    simp only [List.any_cons] at hpi
    obtain ⟨n,hn'⟩:∃ n,x.on[i] = n:=⟨_,rfl⟩
    rw [hn'] at hpi
    simp [hlt,hn']
    refine aj.pure ER (fP before n hb _) ?_
    simp [hlt,hn']
    refine ⟨fun h=>?_,fun h=>⟨i + 1,by omega,an (by omega) (by simp only [maxLen] at hn; omega),by omega, ?_⟩⟩
    · rw [hp,hpi]; simp [h]
    · rw [hpi]; simp; omega
  have hz:x.on.drop i = []:=List.drop_eq_nil_of_le hge
  rw [hz] at hpi
  have hp2:cV fu x before others = if rO x.on x.on 0 then 5 else if x.on.any (fun n=>!fu x (atF before n)) then 9 else 0:=by rw [hp,if_neg (by rw [hpi]; simp)]
  have hpos:∀ n ∈ x.on,0 ≤ findF before n:=by
    intro n hm
    have:=hpi
    simp only [List.any_nil,List.any_eq_false,decide_eq_true_eq] at this
    have:=this n hm
    omega
  refine AW.loop (ι:=Nat) (fun i fr σ=>fr = { v:=[(1, .slice 7 (before.map HuM.v)),(3, .pval (.agg [.str x.name,ii' x.kind,ii' x.first,ii' x.last, .slice 1 (x.on.map .str),ii' x.lo,ii' x.hi])),(9, .int .i64 i)],ds:=[] } ∧ σ = [] ∧ i ≤ x.on.length ∧ rO x.on x.on 0 = rO x.on (x.on.drop i) i) (fun i=>x.on.length - i) 0 (by simp) ?_
  rintro i fr σ ⟨rfl,rfl,hi,hpi⟩
  refine dm _ ?_
  simp
  refine ⟨fun hlt=>?_,fun hge=>?_⟩
  · have hd:x.on.drop i = x.on[i] :: x.on.drop (i + 1):=List.drop_eq_getElem_cons hlt
    rw [hd] at hpi
    simp only [rO] at hpi
    obtain ⟨n,hn'⟩:∃ n,x.on[i] = n:=⟨_,rfl⟩
    rw [hn'] at hpi
    simp [hlt,hn']
    have hq:=fun σ'=>iC (x.on.take i) n (by simp; omega) σ'
    rw [List.map_take] at hq
    refine ⟨by omega, .int .i64 (dG (x.on.take i) n 0),fun σ'=>aC.func El (hq σ'), ?_⟩
    simp
    refine ⟨fun h=>?_,fun h=>⟨i + 1,by omega,an (by omega) (by simp only [maxLen] at hn; omega),by omega, ?_⟩⟩
    · rw [hp2,hpi]; simp [h]
    · rw [hpi]; simp; omega
  have hz:x.on.drop i = []:=List.drop_eq_nil_of_le hge
  rw [hz] at hpi
  have hp3:cV fu x before others = if x.on.any (fun n=>!fu x (atF before n)) then 9 else 0:=by rw [hp2,if_neg (by rw [hpi]; simp [rO])]
  refine AW.loop (ι:=Nat) (fun i fr σ=>fr = { v:=[(1, .slice 7 (before.map HuM.v)),(3, .pval (.agg [.str x.name,ii' x.kind,ii' x.first,ii' x.last, .slice 1 (x.on.map .str),ii' x.lo,ii' x.hi])),(10, .int .i64 i)],ds:=[] } ∧ σ = [] ∧ i ≤ x.on.length ∧ x.on.any (fun n=>!fu x (atF before n)) = (x.on.drop i).any (fun n=>!fu x (atF before n))) (fun i=>x.on.length - i) 0 (by simp) ?_
  rintro i fr σ ⟨rfl,rfl,hi,hpi⟩
  refine dm _ ?_
  simp
  refine ⟨fun hlt=>?_,fun hge=>?_⟩
  · have hd:x.on.drop i = x.on[i] :: x.on.drop (i + 1):=List.drop_eq_getElem_cons hlt
    rw [hd] at hpi
    simp only [List.any_cons] at hpi
    obtain ⟨n,hn'⟩:∃ n,x.on[i] = n:=⟨_,rfl⟩
    have h0:=hpos n (hn' ▸ List.getElem_mem _)
    rw [hn'] at hpi
    simp [hlt,hn']
    obtain ⟨j,hj1,hj2⟩:=oI h0
    refine ⟨.int .i64 (findF before n),fun σ'=>aC.func ER (fP before n hb σ'), ?_⟩
    have hat:atF before n = before[j]:=by simp [atF,hj1,hj2]
    obtain ⟨y,hy⟩:∃ y,before[j] = y:=⟨_,rfl⟩
    rw [hat,hy] at hpi
    simp [hj1,hj2,hy,HuM.v,HuM.cells]
    refine ⟨.bool (fu x y),fun σ'=>aC.func JD (tP x y σ'), ?_⟩
    simp
    refine ⟨fun h=>?_,fun h=>⟨i + 1,by omega,an (by omega) (by simp only [maxLen] at hn; omega),by omega, ?_⟩⟩
    · rw [hp3,hpi]; simp [h]
    · rw [hpi]; simp [h]
  have hz:x.on.drop i = []:=List.drop_eq_nil_of_le hge
  rw [hz] at hpi
  rw [hp3,hpi]; rfl
set_option maxRecDepth 100000
set_option maxHeartbeats 1000000
def fa (all:List aq):List aq → Nat → Int × Int × Int
  | [],_=>(0,0,0)
  | x :: r,i=>
    if dw x.name = false then (2,i,6)
    else if (all.take i).any (fun y=>y.name.toList == x.name.toList) then (2,i,5)
    else if fo x ≠ 0 then (2,i,fo x) else fa all r (i + 1)
def dk (h:aB):Int × Int × Int:=
  if aW 1 10 [(h.ps.length:Int)] then (1,0,3) else if aW 0 5000 [h.aft,h.fore] then (1,0,7) else if h.fore ≤ h.aft then (1,0,2) else fa h.ps h.ps 0
def aS (x:Int × Int × Int):ab:=.tup [ii' x.1,ii' x.2.1,ii' x.2.2]
theorem jS (h:aB) (hl:h.ps.length ≤ maxLen) (σ:af):Spec Tryz.prog Fm [h.v] σ fun r σ'=>r = .ret (aS (dk h)) ∧ σ' = σ:=by
  refine Spec.ay (Q5 (by simp) (dm _ ?_)) (by simp [h.pure]) rfl σ
  simp [KY,aB.v,aB.cells]
  refine (tf (aW 1 10 [(h.ps.length:Int)])).elim (fun h1=>?_) (fun h1=>?_)
  rotate_left
  · refine aj.aD nS (aQ 1 10 [(h.ps.length:Int)] (by simp [maxLen]) _) (congrArg ab.bool h1) ?_
    simp [dk,h1,aS]
  refine aj.aD nS (aQ 1 10 [(h.ps.length:Int)] (by simp [maxLen]) _) (congrArg ab.bool h1) ?_
  simp
  refine (tf (aW 0 5000 [h.aft,h.fore])).elim (fun h2=>?_) (fun h2=>?_)
  rotate_left
  · refine aj.aD nS (aQ 0 5000 [h.aft,h.fore] (by simp [maxLen]) _) (congrArg ab.bool h2) ?_
    simp [dk,h1,h2,aS]
  refine aj.aD nS (aQ 0 5000 [h.aft,h.fore] (by simp [maxLen]) _) (congrArg ab.bool h2) ?_
  simp
  refine ⟨fun h3=>by simp [dk,h1,h2,h3,aS],fun h3=>?_⟩
  have hc:dk h = fa h.ps h.ps 0:=by simp only [dk,h1,h2]; rw [if_neg (by simp),if_neg (by simp),if_neg (by omega)]
  rw [hc]
  refine AW.loop (ι:=Nat) (fun i fr σ=>fr = { v:=[(1, .pval (.agg [.slice 7 (h.ps.map aq.v),ii' h.aft,ii' h.fore])),(27, .slice 7 (h.ps.map aq.v)),(28, .int .i64 h.ps.length),(29, .int .i64 i)],ds:=[] } ∧ i ≤ h.ps.length ∧ fa h.ps h.ps 0 = fa h.ps (h.ps.drop i) i) (fun i=>h.ps.length - i) 0 (by simp) ?_
  rintro i fr σ ⟨rfl,hi,hp⟩
  refine dm _ ?_
  simp
  refine ⟨fun hlt=>?_,fun hge=>?_⟩
  · have hd:h.ps.drop i = h.ps[i] :: h.ps.drop (i + 1):=List.drop_eq_getElem_cons hlt
    rw [hd] at hp
    simp only [fa] at hp
    rw [hp]
    generalize hx:h.ps[i] = x at *
    simp [hlt,hx,aq.v,aq.cells]
    refine (tf (dw x.name)).elim (fun h4=>?_) (fun h4=>?_)
    · refine aj.aD Bd (cP x.name _) (congrArg ab.bool h4) ?_
      simp [h4,aS]
    refine aj.aD Bd (cP x.name _) (congrArg ab.bool h4) ?_
    simp [h4,hlt,hx,hi,aq.v,aq.cells]
    have hcl:=fun σ=>g7 Fc [.pval x.v] rfl (fun y=>y.name.toList == x.name.toList) (h.ps.take i) (by simp; omega) (fun y _=>ck.fn Ri (fun σ=>nu y x σ)) σ
    rw [List.map_take] at hcl
    refine (tf ((h.ps.take i).any fun y=>y.name.toList == x.name.toList)).elim (fun h5=>?_) (fun h5=>?_)
    rotate_left
    · refine aj.aD KJ (hcl _) (congrArg ab.bool h5) ?_
      simp only [h5,if_true]
      simp [aS,h4]
    refine aj.aD KJ (hcl _) (congrArg ab.bool h5) ?_
    simp only [h5]
    simp [hlt,hx,aq.v,aq.cells]
    refine aj.pure Qd (pM x _) ?_
    refine (Classical.em (fo x = 0)).elim (fun h6=>?_) (fun h6=>?_)
    · simp [h6]
      exact ⟨i + 1,by omega,an (by omega) (by simp only [maxLen] at hl; omega),by omega,by simp [h4]⟩
    · simp [h4,h6,aS]
  · have:h.ps.drop i = []:=List.drop_eq_nil_of_le hge
    rw [hp,this]; rfl
set_option maxRecDepth 100000
set_option maxHeartbeats 1000000
def ml (mt:HuM → HuM → Bool) (all:List HuM):List HuM → Nat → Int × Int × Int
  | [],_=>(0,0,0)
  | x :: r,i=>if cV mt x (all.take i) (all.take i) ≠ 0 then (1,i,cV mt x (all.take i) (all.take i)) else ml mt all r (i + 1)
def qC (mt:HuM → HuM → Bool) (ps:List HuM):Int × Int × Int:=if 12 < ps.length then (1,0,3) else ml mt ps ps 0
def DL (ps:List HuM):Prop:=ps.length ≤ maxLen ∧ ∀ x ∈ ps,x.on.length ≤ maxLen
theorem sc (ps:List HuM) (hok:DL ps) (σ:af) :
    Spec Tryz.prog IG [.agg [.slice 7 (ps.map HuM.v), .slice 10 []]] σ fun r σ'=>r = .ret (aS (qC fu ps)) ∧ σ' = σ:=by
  obtain ⟨hl,hon⟩:=hok
  refine Spec.ay (Q4 (by simp) (dm _ ?_)) (by simp [ab.pure,aM,av (f:=HuM.v) (fun p=>p.pure) ps]) (by simp [aS,ab.pure,aM]) σ
  simp [Jq]
  refine ⟨fun h=>by rw [qC,if_pos (by omega)]; simp [aS],fun h=>?_⟩
  have hc:qC fu ps = ml fu ps ps 0:=by rw [qC,if_neg (by omega)]
  refine AW.loop (ι:=Nat) (fun i fr σ=>fr = { v:=[(1, .pval (.agg [.slice 7 (ps.map HuM.v), .slice 10 []])),(5, .slice 7 (ps.map HuM.v)),(6, .int .i64 i)],ds:=[] } ∧ σ = [] ∧ i ≤ ps.length ∧ qC fu ps = ml fu ps (ps.drop i) i) (fun i=>ps.length - i) 0 (by simp [hc]) ?_
  rintro i fr σ ⟨rfl,rfl,hi,hpi⟩
  refine dm _ ?_
  simp
  refine ⟨fun hlt=>?_,fun hge=>?_⟩
  · have hd:ps.drop i = ps[i] :: ps.drop (i + 1):=List.drop_eq_getElem_cons hlt
    rw [hd] at hpi
    simp only [ml] at hpi
    obtain ⟨x,hx⟩:∃ x,ps[i] = x:=⟨_,rfl⟩
    have hxo:=hon x (hx ▸ List.getElem_mem _)
    rw [hx] at hpi
    have hq:=fun σ'=>tK x (ps.take i) (ps.take i) (by simp; omega) (by simp; omega) hxo σ'
    rw [List.map_take] at hq
    simp [hlt,hx,HuM.v,HuM.cells]
    refine ⟨by omega,ii' (cV fu x (ps.take i) (ps.take i)),fun σ'=>aC.func NN (hq σ'), ?_⟩
    simp
    refine ⟨fun h=>?_,fun h=>⟨i + 1,by omega,an (by omega) (by simp only [maxLen] at hl; omega),by omega, ?_⟩⟩
    · rw [hpi,if_pos h]; simp [aS]
    · rw [hpi,if_neg (by simp [h])]
  have hz:ps.drop i = []:=List.drop_eq_nil_of_le hge
  rw [hz] at hpi
  refine AW.loop (ι:=Nat) (fun _ fr σ=>fr = { v:=[(1, .pval (.agg [.slice 7 (ps.map HuM.v), .slice 10 []])),(5, .slice 7 (ps.map HuM.v)),(8, .int .i64 0),(9, .int .i64 0)],ds:=[] } ∧ σ = []) (fun _=>0) 0 (by simp) ?_
  rintro _ fr σ ⟨rfl,rfl⟩
  refine dm _ ?_
  simp
  rw [hpi]
  simp [ml,aS]
end Go.AM
