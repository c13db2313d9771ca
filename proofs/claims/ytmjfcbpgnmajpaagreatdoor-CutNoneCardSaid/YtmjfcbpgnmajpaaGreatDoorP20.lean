/- Bits are counted, and why a part cannot be cut: of the program, the first three reasons. Maps of numbers; the parts of a set, one after the other: of the program. Whether what is left falls: of .. -/
import Derived.Test.YtmjfcbpgnmajpaaGreatDoorP19
namespace Go.AM
open Go.Proofs
set_option maxRecDepth 100000
set_option maxHeartbeats 1000000
abbrev un' (n:Nat):ab:=.int .u64 (n:Int)
def tzN (s:Nat):Nat:=((List.range 7).find? s.testBit).getD 64
def tzI (s:Nat):Int:=uD IntKind.u64 (IntKind.u64.wrap (qe IntKind.u64 (s:Int) (IntKind.u64.wrap (-(s:Int))) * 285870213051353865)) 58
theorem Ip:∀ s,s < 128 → 0 < s → 0 ≤ tzI s ∧ ((jz 1 eZ)[(tzI s).toNat]?).map (fun p=>IntKind.i64.wrap p.2) = some ((tzN s:Nat):Int):=by decide +kernel
theorem BB (s:Nat) (hs:s < 128) (h0:0 < s) (σ:af):Spec Tryz.prog Eo [un' s] σ fun r σ'=>r = .ret (nn' (tzN s)) ∧ σ' = σ:=by
  refine Spec.ay (KC (by simp) (dm _ ?_)) rfl rfl σ
  simp [G6]
  refine ⟨fun e=>by omega,fun _=>?_⟩
  obtain ⟨h1,h2⟩:=Ip s hs h0
  unfold tzI at h1 h2
  refine ⟨h1, ?_⟩
  obtain ⟨p,hp,h3⟩:=Option.map_eq_some_iff.1 h2
  rw [hp]
  exact h3
theorem Bi (s:Nat) (hs:s < 128) (σ:af):Spec Tryz.prog BZ [un' s] σ fun r σ'=>r = .ret (nn' (pop s)) ∧ σ' = σ:=by
  refine Spec.ay (L3 (by simp) (dm _ ?_)) rfl rfl σ
  simp [FJ]
  revert s
  decide +kernel
theorem E8 (s:Nat) (hs:s < 128) (h0:0 < s) (σ:af):Spec Tryz.prog BY [un' s] σ fun r σ'=>r = .ret (nn' (tzN s)) ∧ σ' = σ:=by
  refine Spec.ay (KN (by simp) (dm _ ?_)) rfl rfl σ
  simp [F6]
  refine aj.pure KS (BB s hs h0 _) ?_
  simp
theorem zV (s:Nat) (hs:s < 128) (σ:af):Spec Tryz.prog Er [un' s] σ fun r σ'=>r = .ret (nn' (pop s)) ∧ σ' = σ:=by
  refine Spec.ay (Kf (by simp) (dm _ ?_)) rfl rfl σ
  simp [GN]
  refine aj.pure JI (Bi s hs _) ?_
  simp
theorem xl (s i:Nat) (hs:s < 128) (hi:i < 7) (σ:af):Spec Tryz.prog DA [nn' s,nn' i] σ fun r σ'=>r = .ret (.bool (s.testBit i)) ∧ σ' = σ:=by
  refine Spec.ay (KV (by simp) (dm _ ?_)) rfl rfl σ
  have:=Fb (s:=s) (i:=i) (by omega) (by omega)
  simp [Ge,this]
structure pF (t:ah) (n:Nat) (σ:af) (es:List (ab × ab)):Prop where
  above:σ[n]? = some (.arr 1 (eh t))
  known:σ[n + 1]? = some (.amap es)
  ar:σ[n + 2]? = some (.box (iG t n (iN t)))
theorem Cy {t:ah} (h:t.Fit) (i:Nat):bN t i < 128:=by
  unfold bN
  exact pR (n:=7) (by have:=h.ship7; omega) (by omega)
theorem HC {t:ah} (h:t.Fit):iN t < 128:=by
  unfold iN
  exact AO (n:=7) (by have:=h.ship7; have:=h.tanks; omega) (by omega)
@[simp] theorem HL (t:ah):(eh t).length = t.ar.length:=by simp [eh]
@[simp] theorem GC (t:ah) {i:Nat} (h:i < (eh t).length):(eh t)[i] = nn' (bN t i):=by simp [eh]
theorem BU (s i:Nat) (hs:s < 128) (hi:i < 7) (p:ab) (σ:af):Spec Tryz.prog u0 [p,nn' s,nn' i] σ fun r σ'=>r = .ret (.bool (!s.testBit i)) ∧ σ' = σ:=by
  refine KL (by simp) (dm _ ?_)
  simp [Gs]
  refine aj.pure GJ (xl s i hs hi _) ?_
  simp
theorem JW (n:Nat):((n:Int) != 0) = !decide (n = 0):=by
  cases n with
  | zero=>rfl
  | succ k=>
    have h1:¬ ((k + 1:Nat):Int) = 0:=by omega
    have h2:¬ k + 1 = 0:=by omega
    simp only [h2,decide_false,Bool.not_false,bne_iff_ne,ne_eq,h1,not_false_eq_true]
theorem vP {t:ah} (hf:t.Fit) {n:Nat} {σ:af} {es:List (ab × ab)} (h:pF t n σ es) (s i:Nat) (hs:s < 128) (hi:i < t.ar.length) :
    Spec Tryz.prog u7 [.ptr (n + 2) 0,nn' s,nn' i] σ fun r σ'=>r = .ret (.bool (decide (s &&& bN t i ≠ 0))) ∧ σ' = σ:=by
  refine Kw (by simp) (dm _ ?_)
  have h1:=h.above
  have h2:=h.ar
  have h3:=Ap (a:=s) (b:=bN t i) (by omega) (by have:=Cy hf i; omega)
  simp [Gd,h1,h2,h3,hi,JW]
theorem yu {t:ah} (hf:t.Fit) {n:Nat} {σ:af} {es:List (ab × ab)} (h:pF t n σ es) (s:ab) (i:Nat) (hi:i < 7) :
    Spec Tryz.prog ur [.ptr (n + 2) 0,s,nn' i] σ fun r σ'=>r = .ret (.bool ((iN t).testBit i)) ∧ σ' = σ:=by
  refine Ot (by simp) (dm _ ?_)
  have h2:=h.ar
  simp [Gy,h2]
  refine aj.pure GJ (xl (iN t) i (HC hf) hi _) ?_
  simp
theorem jx {t:ah} (hf:t.Fit) {n:Nat} {σ:af} {es:List (ab × ab)} (h:pF t n σ es) :
    Spec Tryz.prog HP [.ptr (n + 2) 0] σ fun r σ'=>r = .ret (nn' (aP t)) ∧ σ' = σ:=by
  refine SU (by simp) (dm _ ?_)
  have h2:=h.ar
  have h7:=hf.ship7
  have h3:=lT (i:=t.ar.length) (by omega)
  have h4:(1:Nat) ≤ 2 ^ t.ar.length:=Nat.one_le_two_pow
  have h5:IntKind.i64.wrap (2 ^ t.ar.length - 1) = ((aP t:Nat):Int):=by
    have h6:((aP t:Nat):Int) = 2 ^ t.ar.length - 1:=by
      have e:(2:Int) ^ t.ar.length = ((2 ^ t.ar.length:Nat):Int):=by simp
      rw [e]; unfold aP; omega
    rw [← h6]
    exact wrap_i64 (by have:=bU hf; omega)
  simp [N9,h2,h3,h5]
set_option maxRecDepth 100000
set_option maxHeartbeats 1000000
/-! A map from numbers to numbers. -/
def bt (m:List (Nat × Int)):List (ab × ab):=m.map fun p=>(nn' p.1,ii' p.2)
def dS (k:Nat):List (Nat × Int) → Option Int
  | []=>none
  | p :: r=>if p.1 = k then some p.2 else dS k r
def gr (k:Nat) (v:Int):List (Nat × Int) → List (Nat × Int)
  | []=>[(k,v)]
  | p :: r=>if p.1 = k then (k,v) :: r else p :: gr k v r
@[simp ↓ high] theorem GY (k:Int) (m:List (Nat × Int)):kj .i (.int .i64 k) (bt m) = true:=by
  induction m with
  | nil=>rfl
  | cons p r ih=>
    show (dY .i (.int .i64 k) (nn' p.1) && kj .i (.int .i64 k) (bt r)) = true
    rw [ih]; rfl
theorem ug (a b:Nat):dv (nn' a) (nn' b) = decide (b = a):=by
  show ((a:Int) == (b:Int)) = _
  by_cases h:b = a
  · subst h; simp
  · have:¬ (a:Int) = (b:Int):=by omega
    simp [h,this]
@[simp ↓ high] theorem Gc (k:Nat) (m:List (Nat × Int)):gz (.int .i64 (k:Int)) (bt m) = (dS k m).map ii':=by
  induction m with
  | nil=>rfl
  | cons p r ih=>
    show (if dv (nn' k) (nn' p.1) then some (ii' p.2) else gz (nn' k) (bt r)) = _
    rw [ug,dS]
    by_cases h:p.1 = k
    · simp [h]
    · rw [if_neg (by simp [h]),if_neg h]; exact ih
@[simp ↓ high] theorem GW (k:Nat) (v:Int) (m:List (Nat × Int)):gE (.int .i64 (k:Int)) (.int .i64 v) (bt m) = bt (gr k v m):=by
  induction m with
  | nil=>rfl
  | cons p r ih=>
    show (if dv (nn' k) (nn' p.1) then (nn' k,ii' v) :: bt r else (nn' p.1,ii' p.2) :: gE (nn' k) (ii' v) (bt r)) = _
    rw [ug,gr]
    by_cases h:p.1 = k
    · simp [h]; rfl
    · rw [if_neg (by simp [h]),if_neg h]; exact congrArg _ ih
@[simp] theorem Mi:bt [] = []:=rfl
theorem fb (k j:Nat) (v:Int):∀ m:List (Nat × Int),dS j (gr k v m) = if k = j then some v else dS j m
  | []=>by simp [gr,dS]
  | p :: r=>by
    rw [gr]
    by_cases h:p.1 = k
    · rw [if_pos h,dS,dS]
      by_cases h2:k = j
      · simp [h2]
      · rw [if_neg h2,if_neg h2,if_neg (by omega)]
    · rw [if_neg h,dS,dS,fb k j v r]
      by_cases h2:p.1 = j
      · rw [if_pos h2,if_pos h2,if_neg (by omega)]
      · rw [if_neg h2,if_neg h2]
def aX (t:ah) (m:List (Nat × Int)):Prop:=∀ k v,dS k m = some v → v = k6 t k
def bX (t:ah) (n:Nat) (σ:af):Prop:=∃ m,aX t m ∧ pF t n σ (bt m)
def tr (t:ah) (n:Nat) (σ σ':af):Prop:=∃ m tl,aX t m ∧ σ' = σ.set (n + 1) (.amap (bt m)) ++ tl
theorem bX.len {t:ah} {n:Nat} {σ:af} (h:bX t n σ):n + 2 < σ.length:=by
  obtain ⟨m,_,h⟩:=h
  exact (List.getElem?_eq_some_iff.1 h.ar).1
theorem bX.j7 {t:ah} {n:Nat} {σ σ':af} (h:bX t n σ) (hm:tr t n σ σ'):bX t n σ':=by
  have hl:=h.len
  obtain ⟨m0,_,h⟩:=h
  obtain ⟨m,tl,h1,rfl⟩:=hm
  refine ⟨m,h1,⟨?_, ?_, ?_⟩⟩
  · rw [List.getElem?_append_left (by simp; omega),List.getElem?_set_ne (by omega)]; exact h.above
  · rw [List.getElem?_append_left (by simp; omega),List.getElem?_set_self (by omega)]
  · rw [List.getElem?_append_left (by simp; omega),List.getElem?_set_ne (by omega)]; exact h.ar
theorem bX.app {t:ah} {n:Nat} {σ tl:af} (h:bX t n σ):bX t n (σ ++ tl):=by
  have hl:=h.len
  obtain ⟨m,h1,h⟩:=h
  refine ⟨m,h1,⟨?_, ?_, ?_⟩⟩
  · rw [List.getElem?_append_left (by omega)]; exact h.above
  · rw [List.getElem?_append_left (by omega)]; exact h.known
  · rw [List.getElem?_append_left (by omega)]; exact h.ar
theorem nQ {α:Type} {l:List α} {n:Nat} {x:α} (h:l[n]? = some x):l.set n x = l:=by
  obtain ⟨h1,h2⟩:=List.getElem?_eq_some_iff.1 h
  rw [← h2]; exact List.set_getElem_self h1
theorem bX.refl {t:ah} {n:Nat} {σ:af} (h:bX t n σ) (tl:af):tr t n σ (σ ++ tl):=by
  obtain ⟨m,h1,h⟩:=h
  exact ⟨m,tl,h1,by rw [nQ h.known]⟩
theorem tr.trans {t:ah} {n:Nat} {σ σ' σ'':af} (h0:bX t n σ) (h:tr t n σ σ') (h':tr t n σ' σ''):tr t n σ σ'':=by
  have hl:=h0.len
  obtain ⟨m,tl,h1,rfl⟩:=h
  obtain ⟨m',tl',h1',rfl⟩:=h'
  refine ⟨m',tl ++ tl',h1', ?_⟩
  rw [List.set_append_left _ _ (by simp; omega),List.set_set,List.append_assoc]
theorem tr.split {t:ah} {n:Nat} {s tl σ':af} (h0:bX t n s) (h:tr t n (s ++ tl) σ'):∃ m tl',aX t m ∧ σ' = s.set (n + 1) (.amap (bt m)) ++ tl ++ tl':=by
  have hl:=h0.len
  obtain ⟨m,tl',h1,rfl⟩:=h
  exact ⟨m,tl',h1,by rw [List.set_append_left _ _ (by omega)]⟩
/-! The parts of a set. -/
theorem Ll:∀ s,s < 128 → 0 < s → tzN s < 7 ∧ s.testBit (tzN s) = true:=by decide
theorem Ch:∀ s,s < 128 → 0 < s → ∀ j,j < 7 → s.testBit j = true → tzN s ≤ j:=by decide
theorem E2:∀ s,s < 128 → 0 < s → (s &&& (s - 1)) < s ∧ ∀ j,j < 7 → (s &&& (s - 1)).testBit j = (s.testBit j && decide (tzN s < j)):=by decide
theorem lD (s:Nat) (σ:af):Spec Tryz.prog Co [nn' s] σ fun r σ'=>r = .ret (.func (.func oy) [] [.pval (nn' s)]) ∧ σ' = σ:=by
  refine Spec.ay (Ph (by simp) (dm _ ?_)) rfl rfl σ
  simp [G3]
theorem oO (s:Nat) (hs:s < 128) (b:Nat) (σ:af) (J:Nat → af → Prop) (Stop:af → Prop)
    (hy:∀ i s' tl,i < 7 → s.testBit i = true → J i s' → s'.length = σ.length →
      aC Tryz.prog (.yieldf b) [nn' i] (s' ++ tl) fun r σ'=>∃ s'' tl',σ' = s'' ++ tl ++ tl' ∧ s''.length = σ.length ∧ ((r = .ret (.bool true) ∧ J (i + 1) s'') ∨ (r = .ret (.bool false) ∧ Stop s'')))
    (hskip:∀ i s',i < 7 → s.testBit i = false → J i s' → J (i + 1) s') (h0:J 0 σ) :
    Spec Tryz.prog oy [.yieldf b, .pval (nn' s)] σ fun r σ'=>r = .ret (.tup []) ∧ ∃ s' tl,σ' = s' ++ tl ∧ s'.length = σ.length ∧ (J 7 s' ∨ Stop s'):=by
  have hsk:∀ d i k s',k = i + d → k ≤ 7 → (∀ j,i ≤ j → j < k → s.testBit j = false) → J i s' → J k s':=by
    intro d
    induction d with
    | zero=>intro i k s' e _ _ h; rw [e]; exact h
    | succ d ih=>
      intro i k s' e h7 hb h
      exact ih (i + 1) k s' (by omega) h7 (fun j h1 h2=>hb j (by omega) h2) (hskip i s' (by omega) (hb i (by omega) (by omega)) h)
  refine Kr (by simp) (dm _ ?_)
  have hc:IntKind.u64.wrap (s:Int) = s:=wrap_u64 (by omega)
  simp [Gw,hc]
  refine AW.loop (ι:=Nat) (fun L fr σ1=>∃ i s' tl,fr = { v:=[(0, .yieldf b),(3,un' L)],ds:=[] } ∧ σ1 = s' ++ tl ∧ s'.length = σ.length ∧ J i s' ∧ i ≤ 7 ∧ L < 128 ∧ ∀ k,k < 7 → L.testBit k = (s.testBit k && decide (i ≤ k))) (fun L=>L) s ⟨0,σ,[],by simp,by simp,rfl,h0,by omega,hs,by simp⟩ ?_
  rintro L fr σ1 ⟨i,s',tl,rfl,rfl,hsl,hJ,hi,hL,hb⟩
  refine (Nat.eq_zero_or_pos L).elim (fun h0=>?_) (fun hpos=>?_)
  · subst h0
    refine dm _ ?_
    simp
    refine ⟨s',⟨_,rfl⟩,hsl, .inl (hsk (7 - i) i 7 s' (by omega) (by omega) (fun j h1 h2=>?_) hJ)⟩
    have:=hb j h2
    simp [h1] at this
    exact this
  · obtain ⟨k1,k2⟩:=Ll L hL hpos
    have k3:=Ch L hL hpos
    obtain ⟨k4,k5⟩:=E2 L hL hpos
    obtain ⟨k,hk⟩:∃ k,tzN L = k:=⟨_,rfl⟩
    rw [hk] at k1 k2 k3 k5
    have hbk:=hb k k1
    rw [k2] at hbk
    have hbk1:s.testBit k = true:=by cases h:s.testBit k <;> simp [h] at hbk ⊢
    have hbk2:i ≤ k:=by rw [hbk1] at hbk; simpa using hbk.symm
    have hJk:J k s':=hsk (k - i) i k s' (by omega) (by omega) (fun j h1 h2=>by
      have:=hb j (by omega)
      simp [h1] at this
      rw [← this]
      cases h:L.testBit j
      · rfl
      · have:=k3 j (by omega) h; omega) hJ
    have hz:¬ L = 0:=by omega
    have hw1:IntKind.u64.wrap ((L:Int) - 1) = ((L - 1:Nat):Int):=by rw [show (L:Int) - 1 = ((L - 1:Nat):Int) by omega]; exact wrap_u64 (by omega)
    have hw2:=vw (a:=L) (b:=L - 1) (by omega) (by omega)
    refine dm _ ?_
    simp [hz]
    refine aj.aD J2 (E8 L hL hpos _) (congrArg nn' hk) ?_
    simp
    refine (hy k s' tl k1 hbk1 hJk hsl).mono ?_
    rintro r σ' ⟨s'',tl',rfl,hs',hr⟩
    rcases hr with ⟨rfl,hJ'⟩ | ⟨rfl,hS⟩
    · simp [hw1,hw2]
      refine ⟨L &&& (L - 1),k4,by simp,k + 1,s'',⟨_,rfl⟩,by omega,hJ',by omega,by omega,fun j hj=>?_⟩
      rw [k5 j hj,hb j hj]
      by_cases h1:k < j
      · have h2:i ≤ j:=by omega
        simp [h1,h2,Nat.succ_le_of_lt h1]
      · have h2:¬ k + 1 ≤ j:=by omega
        simp [h1,h2]
    · simp
      exact ⟨s'',⟨_,rfl⟩,by omega, .inr hS⟩
set_option maxRecDepth 100000
set_option maxHeartbeats 1000000
theorem z4 {P:Program} {N:Nat} {ro:Option Nat} {a b:AC} {Q:AEx → Fr → af → Prop} {fr:Fr} {σ:af} (fr':Fr) (σ':af) (h1:∀ Q':AEx → Fr → af → Prop,Q' .normal fr' σ' → mL P N ro a Q' fr σ) (h2:mL P N ro b Q fr' σ'):mL P N ro (.seq a b) Q fr σ:=h1 _ h2
theorem TN:∀ (a b:List aq) (s i:Nat),eT (a ++ b) s i = eT a s i ++ eT b s (i + a.length)
  | [],b,s,i=>by simp [eT]
  | p :: r,b,s,i=>by
    rw [List.cons_append,eT,eT,TN r b]
    rw [List.length_cons,show i + (r.length + 1) = i + 1 + r.length by omega]
    split <;> simp
theorem pP {l:List aq} {s i:Nat} (hi:i < l.length):eT (l.take (i + 1)) s 0 = eT (l.take i) s 0 ++ (if s.testBit i then [l[i]] else []):=by
  rw [List.take_add_one,TN,List.getElem?_eq_getElem hi]
  simp [eT,Nat.min_eq_left (Nat.le_of_lt hi)]
theorem lE:∀ {l:List aq} {s i:Nat},(eT l s i).length ≤ l.length
  | [],_,_=>by simp [eT]
  | p :: r,s,i=>by
    rw [eT]
    have:=lE (l:=r) (s:=s) (i:=i + 1)
    split <;> simp <;> omega
theorem BM {t:ah} (hf:t.Fit) {s i:Nat} (hi:t.ar.length ≤ i):eT (t.hull.ps.take i) s 0 = (bL t s).ps:=by
  rw [List.take_of_length_le (by have:=hf.hull; omega)]; rfl
@[simp] theorem IU (t:ah) (N g:Nat):List.take 3 (iG t N g).tail = [.slice 7 (t.hull.ps.map aq.v),ii' t.hull.aft,ii' t.hull.fore]:=rfl
theorem Gv (a:Int):(a != 0) = !decide (a = 0):=by
  by_cases h:a = 0 <;> simp [h]
def pY (n R B:Nat):Env:=[(3, .pval (.ptr (n + 2) 0)),(7,nn' R),(10, .ptr B 0),(36, .func (.func oy) [] [.pval (nn' R)])]
def kI (t:ah) (n R B i k:Nat) (asg body:Code) (st:LoopState):af:=[.box [.oslice 7 ((eT (t.hull.ps.take i) R 0).map aq.v) (B + 1) k,ii' t.hull.aft,ii' t.hull.fore], .spare 7 k, .dfr, .looprec 71 (pY n R B) [37] asg body (B + 2) st none]
theorem zP {t:ah} (hf:t.Fit) (hok:t.Ok) {n:Nat} {σ:af} (h:bX t n σ) (s i:Nat) (hs:Sub t s) (hi:i < 7) :
    Spec Tryz.prog va [.ptr (n + 2) 0,nn' s,nn' i] σ fun r σ'=>r = .ret (.bool (eD t (aK s i))) ∧ tr t n σ σ':=by
  have hl:=h.len
  have hkeep:tr t n σ σ:=by simpa using h.refl []
  obtain ⟨m,hk,hsh⟩:=h
  have h128:=hs.lt hf
  have hsR:=hs.rem (i:=i)
  have hR:=fU (i:=i) h128
  have h1:=lT (i:=i) (by omega)
  have h2:jt .i64 (s:Int) (2 ^ i) = ((aK s i:Nat):Int):=by
    have:=td (a:=s) (b:=2 ^ i) (by omega)
    simpa [aK] using this
  obtain ⟨R,hRe⟩:∃ R,aK s i = R:=⟨_,rfl⟩
  rw [hRe] at h2 hsR hR ⊢
  have hA:∀ X,(σ ++ X)[n + 2]? = some (.box (iG t n (iN t))):=fun X=>by rw [List.getElem?_append_left (by omega)]; exact hsh.ar
  have hB:∀ X,(σ ++ X)[n + 1]? = some (.amap (bt m)):=fun X=>by rw [List.getElem?_append_left (by omega)]; exact hsh.known
  have hcases:dS R m = none ∨ dS R m = some (k6 t R):=by
    cases hh:dS R m with
    | none=>exact .inl rfl
    | some v=>right; rw [hk R v hh]
  refine J8 (by simp) (dm _ ?_)
  unfold G9
  refine z4 { v:=[(1,nn' s),(2,nn' i),(3, .pval (.ptr (n + 2) 0))],ds:=[] } σ (fun Q' h=>by simpa using h) ?_
  refine z4 { v:=[(3, .pval (.ptr (n + 2) 0)),(7,nn' R)],ds:=[] } σ (fun Q' h=>by simpa [h1,h2] using h) ?_
  refine hcases.elim (fun hn=>?_) (fun hv=>?_)
  rotate_left
  · simp [hv,hsh.ar,hsh.known]
    refine ⟨fun h0=>⟨by simp [eD,h0],hkeep⟩,fun h0=>⟨by simp [eD,h0,Gv],hkeep⟩⟩
  simp [hn,hsh.ar,hsh.known]
  refine ⟨fun h0=>⟨by simp [eD,h0],hkeep⟩,fun h0=>?_⟩
  refine aj.pure Gt (lD R _) ?_
  simp
  refine AW.bF (by simp) fun asg' body' ca cb hps=>?_
  simp only [List.length_append,List.length_cons,List.length_nil,List.append_assoc,List.cons_append,List.nil_append,Nat.zero_add,Nat.reduceAdd,Nat.add_assoc]
  change cR Tryz.prog (.func (.func oy) [] [.pval (nn' R)]) [.yieldf (σ.length + 3)] (σ ++ kI t n R σ.length 0 0 asg' body' .ready) (fH (σ.length + 3) _ _)
  have hlen:∀ i k st,(σ ++ kI t n R σ.length i k asg' body' st).length = σ.length + 4:=fun _ _ _=>by simp [kI]
  refine cR.func Ha ((oO R hR (σ.length + 3) _ (fun i s'=>∃ k,s' = σ ++ kI t n R σ.length i k asg' body' .ready) (fun _=>False) ?_ ?_ ?_).mono ?_)
  · rintro j s' tl hj hjb ⟨k,rfl⟩ _
    have hjs:=hsR j hjb
    have hjh:j < t.hull.ps.length:=by have:=hf.hull; omega
    obtain ⟨p,hp⟩:∃ p,t.hull.ps[j] = p:=⟨_,rfl⟩
    have hst:=pP (s:=R) hjh
    rw [if_pos hjb,hp] at hst
    have hsl:=lE (l:=t.hull.ps.take j) (s:=R) (i:=0)
    have hmn:min j t.hull.ps.length ≤ 7:=by omega
    have hbd:((eT (t.hull.ps.take j) R 0).length + 1) * 64 ≤ 140737488355328:=by simp at hsl; omega
    refine aC.round (e:=pY n R σ.length) (D:=σ.length + 2) (pend:=none) ca cb hps (by simp [kI]) rfl ?_
    refine dm _ ?_
    simp [cM,pY,kI]
    refine ⟨_,_,_,_,_,_,_,⟨rfl,rfl,rfl,rfl,rfl,rfl,rfl⟩, ?_⟩
    refine dm _ ?_
    simp [hA,hjh,hp,aq.v,aq.cells]
    refine ⟨by intro v hv; simp at hv; subst hv; exact ⟨rfl,rfl⟩,hbd,71,pY n R σ.length,[37],asg',body',σ.length + 2, .busy,none,by simp [pY],σ ++ kI t n R σ.length (j + 1) (k + 1) asg' body' .ready,⟨[], ?_⟩,hlen _ _ _,rfl,k + 1,rfl⟩
    simp [kI,pY,hst,aq.v,aq.cells]
  · rintro j s' hj hjb ⟨k,rfl⟩
    refine ⟨k, ?_⟩
    have:eT (t.hull.ps.take (j + 1)) R 0 = eT (t.hull.ps.take j) R 0:=by
      rcases Nat.lt_or_ge j t.hull.ps.length with h1 | h1
      · rw [pP h1,if_neg (by simp [hjb])]; simp
      · rw [List.take_of_length_le (by omega),List.take_of_length_le h1]
    unfold kI
    rw [this]
  · exact ⟨0,rfl⟩
  · rintro r σ' ⟨rfl,s',tl,rfl,_,⟨k,rfl⟩ | hS⟩
    rotate_left
    · exact hS.elim
    have h7:=BM hf (s:=R) (i:=7) hf.ship7
    refine ⟨71,pY n R σ.length,[37],asg',body',σ.length + 2, .ready,none,by simp [kI],by simp, ?_⟩
    have hS:∀ (X:af) (v:bo),(σ ++ X).set (n + 1) v = σ.set (n + 1) v ++ X:=fun X v=>List.set_append_left _ _ (by omega)
    have hps:(bL t R).ps.length ≤ maxLen:=Nat.le_trans lE hok.hull
    have hm:aX t (gr R (k6 t R) m):=fun j v hv=>by
      rw [fb] at hv
      split at hv
      · rename_i e; cases hv; rw [e]
      · exact hk j v hv
    have hw:(gi (bL t R) t.lo t.hi).1 = k6 t R:=rfl
    simp [kI,pY,h7,hA]
    refine ⟨aS (gi (bL t R) t.lo t.hi),fun σ' _ _=>aC.func NS (kV (bL t R) hps t.lo t.hi σ'), ?_⟩
    simp [aS,hB,hw,hS]
    refine ⟨by simp [eD,h0,Gv],_,_,hm,rfl⟩
set_option maxRecDepth 100000
set_option maxHeartbeats 1000000
theorem aj.j7 {t:ah} {n:Nat} {fv:ab} {args:List ab} {σ:af} {v:ab} {K Kp:ab → af → Prop} (hs:aC Tryz.prog fv args σ fun r σ'=>r = .ret v ∧ tr t n σ σ') (hq:∀ σ',tr t n σ σ' → K v σ'):@aj Tryz.prog fv args σ ⟨K⟩ ⟨Kp⟩:=
  hs.mono (by rintro r σ' ⟨rfl,hm⟩; exact hq σ' hm)
theorem aj.FN {t:ah} {n:Nat} {f:FuncId} (hb:ak Tryz.prog f = true) {args:List ab} {s X:af} {v v':ab} {K Kp:ab → af → Prop} (hs:Spec Tryz.prog f args (s ++ X) fun r σ'=>r = .ret v ∧ tr t n (s ++ X) σ') (h0:n + 2 < s.length) (e:v = v') (hq:∀ m tl,aX t m → K v' (s.set (n + 1) (.amap (bt m)) ++ (X ++ tl))):@aj Tryz.prog (.func (.func f) [] []) args (s ++ X) ⟨K⟩ ⟨Kp⟩:=
  (aC.func (first:=[]) (caps:=[]) hb (by rw [List.nil_append,List.append_nil]; exact hs)).mono (by
    rintro r σ' ⟨rfl,m,tl,h1,rfl⟩
    subst e
    have:=hq m tl h1
    rw [← List.append_assoc] at this
    rw [List.set_append_left _ _ (by omega)]
    exact this)
theorem aC.j7 {t:ah} {n:Nat} {f:FuncId} (hb:ak Tryz.prog f = true) {first args:List ab} {σ:af} {v:ab} (hs:Spec Tryz.prog f (first ++ args) σ fun r σ'=>r = .ret v ∧ tr t n σ σ'):aC Tryz.prog (.func (.func f) first []) args σ fun r σ'=>r = .ret v ∧ tr t n σ σ':=
  aC.func hb (by rw [List.append_nil]; exact hs)
theorem bX.yy {t:ah} {n:Nat} {σ:af} (h:bX t n σ):tr t n σ σ:=by simpa using h.refl []
theorem Spec.EA {t:ah} {n:Nat} {f:FuncId} {args:List ab} {σ:af} {v:ab} (h:bX t n σ) (hs:Spec Tryz.prog f args σ fun r σ'=>r = .ret v ∧ σ' = σ):Spec Tryz.prog f args σ fun r σ'=>r = .ret v ∧ tr t n σ σ':=
  hs.mono (by rintro r σ' ⟨rfl,rfl⟩; exact ⟨rfl,h.yy⟩)
def TC (t:ah) (s i:Nat):Nat → Bool
  | 0=>!s.testBit i
  | 1=>decide (s &&& bN t i ≠ 0)
  | 2=>(iN t).testBit i
  | _=>eD t (aK s i)
theorem B0 (t:ah) (s i:Nat):bD t s i = if TC t s i 0 then 1 else if TC t s i 1 then 2 else if TC t s i 2 then 3 else if TC t s i 3 then 4 else 0:=by
  unfold bD TC
  simp
def Pk (n k:Nat):Nat:=[u0,u7,ur,va].getD k n
theorem Cc {t:ah} (hf:t.Fit) (hok:t.Ok) {n:Nat} (s i k:Nat) (hs:Sub t s) (hi:i < t.ar.length) (hk:k < 4) {σ:af} (h:bX t n σ) :
    aC Tryz.prog (.func (.func (Pk 0 k)) [.ptr (n + 2) 0] []) [nn' s,nn' i] σ fun r σ'=>r = .ret (.bool (TC t s i k)) ∧ tr t n σ σ':=by
  have h128:=hs.lt hf
  have h7:=hf.ship7
  obtain ⟨m,hm,hsh⟩:=id h
  rcases k with _ | _ | _ | _ | k
  · exact aC.j7 (first:=[.ptr (n + 2) 0]) (args:=[nn' s,nn' i]) MW (Spec.EA h (BU s i h128 (by omega) _ σ))
  · exact aC.j7 (first:=[.ptr (n + 2) 0]) (args:=[nn' s,nn' i]) NJ (Spec.EA h (vP hf hsh s i h128 hi))
  · exact aC.j7 (first:=[.ptr (n + 2) 0]) (args:=[nn' s,nn' i]) K2 (Spec.EA h (yu hf hsh _ i (by omega)))
  · exact aC.j7 (first:=[.ptr (n + 2) 0]) (args:=[nn' s,nn' i]) JX (zP hf hok h s i hs (by omega))
  · omega
theorem nN {t:ah} (hf:t.Fit) (hok:t.Ok) {n:Nat} {σ:af} (h:bX t n σ) (s i:Nat) (hs:Sub t s) (hi:i < t.ar.length) :
    Spec Tryz.prog H5 [.ptr (n + 2) 0,nn' s,nn' i] σ fun r σ'=>r = .ret (nn' (bD t s i)) ∧ tr t n σ σ':=by
  obtain ⟨w,hw⟩:∃ w,bD t s i = w:=⟨_,rfl⟩
  have hw':=hw
  rw [B0] at hw'
  rw [hw]
  refine Sb (by simp) (dm _ ?_)
  simp [JZ]
  refine AW.loop (ι:=Nat) (fun k fr σ1=>fr = { v:=[(1,nn' s),(2,nn' i),(17, .agg [.func (.func u0) [.ptr (n + 2) 0] [], .func (.func u7) [.ptr (n + 2) 0] [], .func (.func ur) [.ptr (n + 2) 0] [], .func (.func va) [.ptr (n + 2) 0] []]),(18,nn' k)],ds:=[] } ∧ tr t n σ σ1 ∧ k ≤ 4 ∧ ∀ j,j < k → TC t s i j = false) (fun k=>4 - k) 0 ⟨by simp,h.yy,by omega,fun j hj=>absurd hj (by omega)⟩ ?_
  rintro k fr σ1 ⟨rfl,hm,hk,hb⟩
  refine (Nat.lt_or_ge k 4).elim (fun hlt=>?_) (fun hge=>?_)
  · have hix:∀ hk4:k < 4,([ab.func (.func u0) [.ptr (n + 2) 0] [], .func (.func u7) [.ptr (n + 2) 0] [], .func (.func ur) [.ptr (n + 2) 0] [], .func (.func va) [.ptr (n + 2) 0] []])[k]'hk4 = .func (.func (Pk 0 k)) [.ptr (n + 2) 0] []:=fun hk4=>by
      rcases k with _ | _ | _ | _ | k
      · rfl
      · rfl
      · rfl
      · rfl
      · omega
    have hltI:(k:Int) < 4:=by omega
    have hgeI:¬ (4:Int) ≤ k:=by omega
    have hw1:IntKind.i64.wrap ((k:Int) + 1) = ((k + 1:Nat):Int):=by rw [an (by omega) (by omega)]; simp
    have hw2:IntKind.i64.wrap (1 + (k:Int)) = ((k + 1:Nat):Int):=by rw [an (by omega) (by omega)]; omega
    refine dm _ ?_
    simp [hlt,hltI,hix]
    refine aj.j7 (Cc hf hok s i k hs hi hlt (h.j7 hm)) fun σ2 hm2=>?_
    have hm3:=hm.trans h hm2
    refine (tf (TC t s i k)).elim (fun hbk=>?_) (fun hbk=>?_)
    · simp [hbk,hw1]
      exact ⟨k + 1,by omega,rfl,hm3,by omega,fun j hj=>by
        rcases Nat.lt_or_ge j k with h1 | h1
        · exact hb j h1
        · have:j = k:=by omega
          subst this; exact hbk⟩
    · simp [hbk,hw2]
      refine ⟨?_,hm3⟩
      rw [← hw']
      rcases k with _ | _ | _ | _ | k
      · simp [hbk]
      · simp [hbk,hb 0 (by omega)]
      · simp [hbk,hb 0 (by omega),hb 1 (by omega)]
      · simp [hbk,hb 0 (by omega),hb 1 (by omega),hb 2 (by omega)]
      · omega
  · have hnl:¬ k < 4:=by omega
    refine dm _ ?_
    have hnI:¬ (k:Int) < 4:=by omega
    have hgI:(4:Int) ≤ k:=by omega
    simp [hnI]
    refine ⟨?_,hm⟩
    rw [← hw',hb 0 (by omega),hb 1 (by omega),hb 2 (by omega),hb 3 (by omega)]
    rfl
set_option maxRecDepth 100000
set_option maxHeartbeats 1000000
theorem zj {P:Program} {ops:List aJ} {bef:List (List Nat)} {last qs:List Nat} {l:Nat} {r:List (List Nat × Nat)} {done no:List Nat} {e:Env} {σ:af} {K:Env → af → Prop} (e':Env) {o:aJ} (he:sa ops qs e σ = e') (ho:ops[l]? = some o)
    (h1:zR ops no e' σ (done ++ qs)) (h2:gql P o e' σ fun v σ'=>lC P ops bef last r (done ++ qs) (bef.getD l []) (e'.put o.d v) σ' K):lC P ops bef last ((qs,l) :: r) done no e σ K:=by
  rw [lC,he]
  exact ⟨h1,by rw [ho]; exact h2⟩
theorem dR (n:Nat) (s:Nat) (σ:af):Spec Tryz.prog Ij [.ptr n 0,nn' s] σ fun r σ'=>r = .ret (.func (.func gR) [] [.pval (nn' s), .pval (.ptr n 0)]) ∧ σ' = σ:=by
  refine Sl (by simp) (dm _ ?_)
  simp [KP]
def kE (n s b:Nat):Env:=[(1, .pval (nn' s)),(2, .pval (.ptr (n + 2) 0)),(3, .pval (.yieldf b)),(6, .func (.func oy) [] [.pval (nn' s)])]
def vG (n s b B:Nat) (asg body:Code) (st:LoopState) (pd:Option Code):af:=[.dfr, .looprec 23 (kE n s b) [7] asg body B st pd]
theorem ix {t:ah} (hf:t.Fit) (hok:t.Ok) {n:Nat} (σ:af) (s:Nat) (hs:Sub t s) (b:Nat) (J:Nat → af → Prop) (Stop:af → Prop)
    (hJ:∀ i s',J i s' → bX t n s')
    (hm:∀ i s' m,J i s' → aX t m → J i (s'.set (n + 1) (.amap (bt m))))
    (hy:∀ i s' tl,i < t.ar.length → bD t s i = 0 → J i s' → s'.length = σ.length →
      aC Tryz.prog (.yieldf b) [nn' i,nn' (aK s i)] (s' ++ tl) fun r σ'=>∃ s'' tl',σ' = s'' ++ tl ++ tl' ∧ s''.length = σ.length ∧ ((r = .ret (.bool true) ∧ J (i + 1) s'') ∨ (r = .ret (.bool false) ∧ Stop s'')))
    (hskip:∀ i s',i < 7 → bD t s i ≠ 0 → J i s' → J (i + 1) s') (h0:J 0 σ) :
    Spec Tryz.prog gR [.yieldf b, .pval (nn' s), .pval (.ptr (n + 2) 0)] σ fun r σ'=>r = .ret (.tup []) ∧ ∃ s' tl,σ' = s' ++ tl ∧ s'.length = σ.length ∧ (J 7 s' ∨ Stop s'):=by
  have h128:=hs.lt hf
  have h7:=hf.ship7
  refine OM (by simp) (dm _ ?_)
  simp [GG]
  refine aj.pure Gt (lD s _) ?_
  simp
  refine AW.bF (by simp) fun asg' body' ca cb hps=>?_
  simp only
  change cR Tryz.prog (.func (.func oy) [] [.pval (nn' s)]) [.yieldf (σ.length + 1)] (σ ++ vG n s b σ.length asg' body' .ready none) (fH (σ.length + 1) _ _)
  have hn:∀ i s',J i s' → n + 2 < s'.length:=fun i s' h=>(hJ i s' h).len
  refine cR.func Ha ((oO s h128 (σ.length + 1) _ (fun i s2=>∃ s',s2 = s' ++ vG n s b σ.length asg' body' .ready none ∧ s'.length = σ.length ∧ J i s') (fun s2=>∃ s',s2 = s' ++ vG n s b σ.length asg' body' .done (some .ret) ∧ s'.length = σ.length ∧ Stop s') ?_ ?_ ?_).mono ?_)
  · rintro i s2 tl hi hib ⟨s',rfl,hsl,hJi⟩ _
    have his:=hs i hib
    have hsh:=hJ i s' hJi
    have hnl:=hn i s' hJi
    refine aC.round (e:=kE n s b) (D:=σ.length) (pend:=none) ca cb hps (by rw [← hsl]; simp [vG]) rfl ?_
    refine dm _ ?_
    simp [cM,kE,vG]
    rw [← hsl]
    simp
    refine ⟨_,_,_,_,_,_,_,⟨rfl,rfl,rfl,rfl,rfl,rfl,rfl⟩, ?_⟩
    refine dm _ ?_
    simp
    have hx1:=lT (i:=i) (by omega)
    have hx2:jt .i64 (s:Int) (2 ^ i) = ((aK s i:Nat):Int):=by
      have:=td (a:=s) (b:=2 ^ i) (by omega)
      simpa [aK] using this
    refine (Classical.em (bD t s i = 0)).elim (fun hw=>?_) (fun hw=>?_)
    · refine aj.FN Fj (nN hf hok (hsh.app) s i hs his) hnl (congrArg nn' hw) fun m tl2 hk=>?_
      refine zj [(19, .opt true (nn' (aK s i))),(18, .opt true (nn' (2 ^ i))),(17, .opt true (nn' i)),(16, .opt true (nn' s)),(15, .opt true (nn' i)),(14, .opt true (.yieldf b)),(13, .bool true),(12, .bool true),(11,nn' 0),(10,nn' i),(9,nn' s),(8, .ptr (n + 2) 0),(1, .pval (nn' s)),(2, .pval (.ptr (n + 2) 0)),(3, .pval (.yieldf b)),(4,nn' i)] (by simp [hx1,hx2]) rfl (by simp [hx1,hx2]) ?_
      simp
      refine (hy i (s'.set (n + 1) (.amap (bt m))) (.dfr :: .looprec 23 [(1,(nn' s).pval),(2,(ab.ptr (n + 2) 0).pval),(3,(ab.yieldf b).pval),(6,ab.func (Fn.func oy) [] [(nn' s).pval])] [7] asg' body' s'.length .busy none :: (tl ++ tl2)) his hw (hm i s' m hJi hk) (by simp [hsl])).mono ?_
      rintro r σ' ⟨s'',tl',rfl,hs',⟨rfl,hJ'⟩ | ⟨rfl,hS⟩⟩
      · simp
        have e:s'.length = s''.length:=by omega
        rw [e]
        exact ⟨23,kE n s b,[7],asg',body',s''.length, .busy,none,by simp [kE],s'' ++ [.dfr, .looprec 23 (kE n s b) [7] asg' body' s''.length .ready none],⟨tl2 ++ tl',by simp [kE]⟩,by simp, .inl ⟨rfl,s'',rfl,rfl,hJ'⟩⟩
      · simp
        have e:s'.length = s''.length:=by omega
        rw [e]
        exact ⟨23,kE n s b,[7],asg',body',s''.length, .busy,none,by simp [kE],s'' ++ [.dfr, .looprec 23 (kE n s b) [7] asg' body' s''.length .done (some .ret)],⟨tl2 ++ tl',by simp [kE]⟩,by simp, .inr ⟨rfl,s'',rfl,rfl,hS⟩⟩
    · refine aj.FN Fj (nN hf hok (hsh.app) s i hs his) hnl rfl fun m tl2 hk=>?_
      have hwI:¬ (bD t s i:Int) = 0:=by omega
      have hwB:((bD t s i:Int) == 0) = false:=by simpa using hwI
      simp [hwB]
      obtain ⟨S,hS⟩:∃ S,s'.set (n + 1) (.amap (bt m)) = S:=⟨_,rfl⟩
      have e:s'.length = S.length:=by rw [← hS]; simp
      have hj:=hm i s' m hJi hk
      rw [hS] at hj ⊢
      rw [e]
      exact ⟨23,kE n s b,[7],asg',body',S.length, .busy,none,by simp [kE],S ++ [.dfr, .looprec 23 (kE n s b) [7] asg' body' S.length .ready none],⟨tl2,by simp [kE]⟩,by simp, .inl ⟨rfl,S,by simp [kE],rfl,hskip i _ hi hw hj⟩⟩
  · rintro i s2 hi hib ⟨s',rfl,hsl,hJi⟩
    exact ⟨s',rfl,hsl,hskip i s' hi (fun e=>by rw [eA e] at hib; cases hib) hJi⟩
  · exact ⟨σ,rfl,rfl,h0⟩
  · rintro r σ' ⟨rfl,s2,tl,rfl,_,⟨s',rfl,hsl,hJ7⟩ | ⟨s',rfl,hsl,hS⟩⟩
    · refine ⟨23,kE n s b,[7],asg',body',σ.length, .ready,none,by rw [← hsl]; simp [vG],by simp, ?_⟩
      rw [← hsl]
      simp [vG]
      exact ⟨s',⟨_,rfl⟩,rfl, .inl hJ7⟩
    · refine ⟨23,kE n s b,[7],asg',body',σ.length, .done,some .ret,by rw [← hsl]; simp [vG],by simp, ?_⟩
      rw [← hsl]
      simp [vG]
      exact ⟨s',⟨_,rfl⟩,rfl, .inr hS⟩
set_option maxRecDepth 100000
set_option maxHeartbeats 1000000
def goT (t:ah):List Nat → Nat → Option Nat
  | [],s=>some s
  | i :: r,s=>if i < t.ar.length ∧ bD t s i = 0 then goT t r (aK s i) else none
theorem fS {t:ah}:∀ {a b:List Nat} {s:Nat},goT t (a ++ b) s = (goT t a s).bind (goT t b)
  | [],b,s=>rfl
  | i :: r,b,s=>by
    rw [List.cons_append,goT,goT]
    split
    · exact fS
    · rfl
theorem lN {t:ah}:∀ {l:List Nat} {s s':Nat},goT t l s = some s' → Sub t s → Sub t s'
  | [],s,s',h,hs=>by
    rw [goT] at h
    cases h; exact hs
  | i :: r,s,s',h,hs=>by
    rw [goT] at h
    split at h
    · exact lN h hs.rem
    · cases h
theorem iQ {t:ah} (hf:t.Fit):∀ {l:List Nat} {s s':Nat},s < 128 → goT t l s = some s' → s' < 128 ∧ pop s' + l.length = pop s
  | [],s,s',hs,h=>by
    rw [goT] at h
    cases h; exact ⟨hs,rfl⟩
  | i :: r,s,s',hs,h=>by
    rw [goT] at h
    split at h
    · rename_i h1
      have:=fZ s hs i (by have:=hf.ship7; omega) (eA h1.2)
      obtain ⟨h2,h3⟩:=iQ hf (fU hs) h
      exact ⟨h2,by rw [List.length_cons]; omega⟩
    · cases h
theorem xw {t:ah} (hf:t.Fit):∀ {l:List Nat} {s s':Nat},s < 128 → goT t l s = some s' → aR t s' + l.length ≤ aR t s
  | [],s,s',hs,h=>by
    rw [goT] at h
    cases h; exact Nat.le_refl _
  | i :: r,s,s',hs,h=>by
    rw [goT] at h
    split at h
    · rename_i h1
      have h2:=xw hf (fU hs) h
      have h3:1 + aR t (aK s i) ≤ aR t s:=by
        rw [jJ hf hs]
        exact ((rk (f:=fun i=>aR t (aK s i))).1 (Nat.le_refl _)).2 i (bg.2 h1)
      rw [List.length_cons]; omega
    · cases h
def p9 (t:ah) (s:Nat):Option Nat:=(bq t s).find? fun i=>aR t (aK s i) + 1 == aR t s
def Uz (t:ah):Nat → Nat → List Nat
  | 0,_=>[]
  | k + 1,s=>match p9 t s with
    | some i=>i :: Uz t k (aK s i)
    | none=>[]
def cK (t:ah) (s:Nat):List Nat:=Uz t (aR t s) s
theorem kp {t:ah} (hf:t.Fit) {s:Nat} (hs:s < 128) (h:0 < aR t s):∃ i,p9 t s = some i ∧ i < t.ar.length ∧ bD t s i = 0 ∧ aR t (aK s i) + 1 = aR t s:=by
  have h0:=h
  rw [jJ hf hs] at h
  rcases ti (f:=fun i=>aR t (aK s i)) (l:=bq t s) (n:=0) with e | ⟨i,hi,e⟩
  · omega
  · cases hn:p9 t s with
    | none=>
      have:=List.find?_eq_none.1 hn i hi
      exfalso
      apply this
      rw [jJ hf hs,e]
      simp; omega
    | some j=>
      have h1:=List.mem_of_find?_eq_some hn
      have h2:=List.find?_some hn
      exact ⟨j,rfl,(bg.1 h1).1,(bg.1 h1).2,by simpa using h2⟩
theorem mJ {t:ah} {s i:Nat} (h:p9 t s = some i) (hm:aR t (aK s i) + 1 = aR t s):cK t s = i :: cK t (aK s i):=by
  unfold cK
  rw [← hm,Uz,h]
theorem mT {t:ah} {s:Nat} (h:aR t s = 0):cK t s = []:=by unfold cK; rw [h]; rfl
theorem lQ {t:ah} (hf:t.Fit):∀ {n s:Nat},aR t s = n → s < 128 → (cK t s).length = n
  | 0,s,h,_=>by rw [mT h]; rfl
  | n + 1,s,h,hs=>by
    obtain ⟨i,h1,_,_,h4⟩:=kp hf hs (by omega)
    rw [mJ h1 h4,List.length_cons,lQ hf (n:=n) (by omega) (fU hs)]
theorem xX {t:ah} (hf:t.Fit):∀ {n s:Nat},aR t s = n → s < 128 → ∃ s',goT t (cK t s) s = some s' ∧ aR t s' = 0
  | 0,s,h,_=>by rw [mT h]; exact ⟨s,rfl,h⟩
  | n + 1,s,h,hs=>by
    obtain ⟨i,h1,h2,h3,h4⟩:=kp hf hs (by omega)
    obtain ⟨s',g1,g2⟩:=xX hf (n:=n) (s:=aK s i) (by omega) (fU hs)
    rw [mJ h1 h4,goT,if_pos ⟨h2,h3⟩]
    exact ⟨s',g1,g2⟩
set_option maxRecDepth 100000
set_option maxHeartbeats 1000000
def dt (t:ah) (M:List (Nat × Int)):Prop:=∀ k v,dS k M = some v → v = (aR t k:Int)
def bE (n k q:Nat):ab:=.func (.func oA) [] [.pval (.map k), .pval (.ptr (n + 2) 0), .ptr q 0]
def bd (σ:af) (n k:Nat) (m M:List (Nat × Int)):af:=(σ.set (n + 1) (.amap (bt m))).set k (.amap (bt M))
structure cu (t:ah) (n k q:Nat) (σ:af):Prop where
  ar:bX t n σ
  lt:n + 2 < k
  known:∃ M,dt t M ∧ σ[k]? = some (.amap (bt M))
  find:σ[q]? = some (.box [bE n k q])
def o4 (t:ah) (n k:Nat) (σ σ':af):Prop:=∃ m M tl,aX t m ∧ dt t M ∧ σ' = bd σ n k m M ++ tl
@[simp] theorem lM (σ:af) (n k:Nat) (m M:List (Nat × Int)):(bd σ n k m M).length = σ.length:=by simp [bd]
theorem pk (σ:af) {n k j:Nat} (m M:List (Nat × Int)) (h1:j ≠ n + 1) (h2:j ≠ k):(bd σ n k m M)[j]? = σ[j]?:=by
  rw [bd,List.getElem?_set_ne (fun e=>h2 e.symm),List.getElem?_set_ne (fun e=>h1 e.symm)]
theorem AR (σ:af) {n k:Nat} (m M:List (Nat × Int)) (h:k < σ.length):(bd σ n k m M)[k]? = some (.amap (bt M)):=by
  rw [bd,List.getElem?_set_self (by simpa using h)]
theorem EN (σ:af) {n k:Nat} (m M:List (Nat × Int)) (h:n + 1 < σ.length) (hne:n + 1 ≠ k):(bd σ n k m M)[n + 1]? = some (.amap (bt m)):=by
  rw [bd,List.getElem?_set_ne (fun e=>hne e.symm),List.getElem?_set_self h]
theorem np (σ:af) {n k:Nat} (m M m':List (Nat × Int)) (hne:n + 1 ≠ k):(bd σ n k m M).set (n + 1) (.amap (bt m')) = bd σ n k m' M:=by
  rw [bd,List.set_comm _ _ (fun e=>hne e.symm),List.set_set]; rfl
theorem ry (σ:af) {n k:Nat} (m M M':List (Nat × Int)):(bd σ n k m M).set k (.amap (bt M')) = bd σ n k m M':=by
  rw [bd,List.set_set]; rfl
theorem vl (σ X:af) {n k:Nat} (m M m' M':List (Nat × Int)) (h1:n + 1 < σ.length) (h2:k < σ.length) (hne:n + 1 ≠ k):bd (bd σ n k m M ++ X) n k m' M' = bd σ n k m' M' ++ X:=by
  rw [bd,List.set_append_left _ _ (by simpa using h1),np _ _ _ _ hne,List.set_append_left _ _ (by simpa using h2),ry]
theorem zb {σ:af} {n k:Nat} {m M:List (Nat × Int)} (h1:σ[n + 1]? = some (.amap (bt m))) (h2:σ[k]? = some (.amap (bt M))):bd σ n k m M = σ:=by
  rw [bd,nQ h1,nQ h2]
theorem cu.EF {t:ah} {n k q:Nat} {σ:af} (h:cu t n k q σ):k < σ.length:=by
  obtain ⟨M,_,h⟩:=h.known
  exact (List.getElem?_eq_some_iff.1 h).1
theorem cu.Nj {t:ah} {n k q:Nat} {σ:af} (h:cu t n k q σ):q < σ.length:=(List.getElem?_eq_some_iff.1 h.find).1
theorem cu.Rq {t:ah} {n k q:Nat} {σ:af} (h:cu t n k q σ):q ≠ n + 1 ∧ q ≠ k:=by
  obtain ⟨M,_,h1⟩:=h.known
  obtain ⟨m,_,h2⟩:=h.ar
  have h3:=h.find
  refine ⟨fun e=>?_,fun e=>?_⟩
  · subst e; rw [h2.known] at h3; cases h3
  · subst e; rw [h1] at h3; cases h3
theorem cu.j5 {t:ah} {n k q:Nat} {σ:af} (h:cu t n k q σ) {m M:List (Nat × Int)} (hm:aX t m) (hM:dt t M) (X:af):cu t n k q (bd σ n k m M ++ X):=by
  have h1:=h.ar.len
  have h2:=h.lt
  have h3:=h.EF
  have h4:=h.Rq
  have h5:=h.Nj
  obtain ⟨m0,_,hs⟩:=h.ar
  refine ⟨⟨m,hm,⟨?_, ?_, ?_⟩⟩,h2,⟨M,hM, ?_⟩, ?_⟩
  · rw [List.getElem?_append_left (by simp; omega),pk _ _ _ (by omega) (by omega)]; exact hs.above
  · rw [List.getElem?_append_left (by simp; omega),EN _ _ _ (by omega) (by omega)]
  · rw [List.getElem?_append_left (by simp; omega),pk _ _ _ (by omega) (by omega)]; exact hs.ar
  · rw [List.getElem?_append_left (by simp; omega),AR _ _ _ h3]
  · rw [List.getElem?_append_left (by simp; omega),pk _ _ _ h4.1 h4.2]; exact h.find
theorem cu.ex {t:ah} {n k q:Nat} {σ:af} (h:cu t n k q σ):∃ m M,aX t m ∧ dt t M ∧ bd σ n k m M = σ ∧ σ[k]? = some (.amap (bt M)):=by
  obtain ⟨m,h1,h2⟩:=h.ar
  obtain ⟨M,h3,h4⟩:=h.known
  exact ⟨m,M,h1,h3,zb h2.known h4,h4⟩
theorem cu.app {t:ah} {n k q:Nat} {σ:af} (h:cu t n k q σ) (X:af):cu t n k q (σ ++ X):=by
  obtain ⟨m,M,h1,h2,h3,_⟩:=h.ex
  have:=h.j5 h1 h2 X
  rw [h3] at this
  exact this
section
variable (σ X:af) (n k:Nat) (m M:List (Nat × Int))
@[simp] theorem OO:(bd σ n k m M ++ X)[σ.length]? = X[0]?:=by
  have:=yF (bd σ n k m M) X
  rwa [lM] at this
@[simp] theorem Ng (j:Nat):(bd σ n k m M ++ X)[σ.length + j]? = X[j]?:=by
  have:=jI (bd σ n k m M) X j
  rwa [lM] at this
@[simp] theorem NG (x:bo):(bd σ n k m M ++ X).set σ.length x = bd σ n k m M ++ X.set 0 x:=by
  have:=wO (bd σ n k m M) X x
  rwa [lM] at this
@[simp] theorem KZ (x:bo) (j:Nat):(bd σ n k m M ++ X).set (σ.length + j) x = bd σ n k m M ++ X.set j x:=by
  have:=jy (bd σ n k m M) X x j
  rwa [lM] at this
end
def dH (t:ah) (s i:Nat):List Nat:=(List.range i).filter fun j=>bD t s j == 0
theorem cy (t:ah) (s i:Nat):dH t s (i + 1) = dH t s i ++ (if bD t s i = 0 then [i] else []):=by
  unfold dH
  rw [List.range_succ,List.filter_append]
  congr 1
  by_cases h:bD t s i = 0 <;> simp [h]
theorem ir {t:ah} (hf:t.Fit) {s:Nat} (hs:Sub t s):dH t s 7 = bq t s:=by
  unfold dH bq
  have h7:=hf.ship7
  have:∀ d,t.ar.length + d ≤ 7 → (List.range (t.ar.length + d)).filter (fun j=>bD t s j == 0) = (List.range t.ar.length).filter (fun j=>bD t s j == 0):=by
    intro d
    induction d with
    | zero=>intro _; rfl
    | succ d ih=>
      intro hd
      rw [← Nat.add_assoc,List.range_succ,List.filter_append,ih (by omega)]
      have:¬ bD t s (t.ar.length + d) = 0:=fun e=>by
        have:=hs _ (eA e)
        omega
      simp [this]
  have:=this (7 - t.ar.length) (by omega)
  rw [show t.ar.length + (7 - t.ar.length) = 7 by omega] at this
  exact this
def gS (t:ah) (s i:Nat):Nat:=po (fun i=>aR t (aK s i)) (dH t s i) 0
theorem mH (t:ah) (s i:Nat):gS t s (i + 1) = if bD t s i = 0 then max (gS t s i) (1 + aR t (aK s i)) else gS t s i:=by
  unfold gS
  rw [cy]
  split
  · unfold po; rw [List.foldl_append]; rfl
  · rw [List.append_nil]
theorem vm {t:ah} (hf:t.Fit) {s:Nat} (hs:Sub t s):gS t s 7 = aR t s:=by
  rw [gS,ir hf hs,jJ hf (hs.lt hf)]
theorem wQ {t:ah} (hf:t.Fit) {s:Nat} (hs:Sub t s) (i:Nat) (h:i ≤ 7):gS t s i ≤ aR t s:=by
  have:∀ d,i + d ≤ 7 → gS t s i ≤ gS t s (i + d):=by
    intro d
    induction d with
    | zero=>intro _; exact Nat.le_refl _
    | succ d ih=>
      intro hd
      refine Nat.le_trans (ih (by omega)) ?_
      rw [← Nat.add_assoc,mH]
      split
      · exact Nat.le_max_left _ _
      · exact Nat.le_refl _
  have:=this (7 - i) (by omega)
  rw [show i + (7 - i) = 7 by omega,vm hf hs] at this
  exact this
set_option maxRecDepth 100000
set_option maxHeartbeats 1000000
def pX (n s B:Nat) (w:ab):Env:=[(3, .pval w),(4, .ptr (B + 1) 0),(7, .func (.func gR) [] [.pval (nn' s), .pval (.ptr (n + 2) 0)])]
def nY (n s B k:Nat) (w:ab) (l:List Nat) (asg body:Code) (st:LoopState):af:=[.spare 1 k, .box [.oslice 1 (l.map nn') B k], .dfr, .looprec 18 (pX n s B w) [8,9] asg body (B + 2) st none]
theorem oS {t:ah} (hf:t.Fit) (hok:t.Ok) {n:Nat} (σ:af) (s:Nat) (hs:Sub t s) (fn:Fn) (first caps:List ab) (W:Nat → Bool) (J:af → Prop)
    (hJ:∀ s',J s' → bX t n s') (hm:∀ s' m,J s' → aX t m → J (s'.set (n + 1) (.amap (bt m))))
    (hw:∀ i s' tl,i < t.ar.length → bD t s i = 0 → J s' → s'.length = σ.length → aC Tryz.prog (.func fn first caps) [nn' (aK s i)] (s' ++ tl) fun r σ'=>∃ s'' tl',σ' = s'' ++ tl ++ tl' ∧ s''.length = σ.length ∧ r = .ret (.bool (W i)) ∧ J s'')
    (h0:J σ) :
    Spec Tryz.prog EZ [.func (.func gR) [] [.pval (nn' s), .pval (.ptr (n + 2) 0)], .func fn first caps] σ fun r σ'=>r = .ret (.slice 1 (((bq t s).filter W).map nn')) ∧ ∃ s' tl,σ' = s' ++ tl ∧ s'.length = σ.length ∧ J s':=by
  have h7:=hf.ship7
  refine SA (by simp) (dm _ ?_)
  simp [K4]
  refine AW.bF (by simp) fun asg' body' ca cb hps=>?_
  simp only [List.length_append,List.length_cons,List.length_nil,List.append_assoc,List.cons_append,List.nil_append,Nat.zero_add,Nat.reduceAdd,Nat.add_assoc]
  change cR Tryz.prog (.func (.func gR) [] [.pval (nn' s), .pval (.ptr (n + 2) 0)]) [.yieldf (σ.length + 3)] (σ ++ nY n s σ.length 0 (.func fn first caps) [] asg' body' .ready) (fH (σ.length + 3) _ _)
  refine cR.func wZ ((ix hf hok _ s hs (σ.length + 3) (fun i s2=>∃ s' k,s2 = s' ++ nY n s σ.length k (.func fn first caps) ((dH t s i).filter W) asg' body' .ready ∧ s'.length = σ.length ∧ (dH t s i).length ≤ i ∧ J s') (fun _=>False) ?_ ?_ ?_ ?_ ?_).mono ?_)
  · rintro i s2 ⟨s',k,rfl,_,_,hj⟩
    exact (hJ s' hj).app
  · rintro i s2 m ⟨s',k,rfl,hl,hc,hj⟩ hk
    have:=(hJ s' hj).len
    exact ⟨s'.set (n + 1) (.amap (bt m)),k,by rw [List.set_append_left _ _ (by omega)],by simpa using hl,hc,hm s' m hj hk⟩
  · rintro i s2 tl hi hwi ⟨s',k,rfl,hl,hc,hj⟩ _
    have hcs:=cy t s i
    rw [if_pos hwi] at hcs
    have hlen:((dH t s i).filter W).length ≤ 7:=Nat.le_trans (List.length_filter_le _ _) (by omega)
    refine aC.round (e:=pX n s σ.length (.func fn first caps)) (D:=σ.length + 2) (pend:=none) ca cb hps (by rw [← hl]; simp [nY]) rfl ?_
    refine dm _ ?_
    simp [cM,pX,nY]
    rw [← hl]
    simp
    refine ⟨_,_,_,_,_,_,_,⟨rfl,rfl,rfl,rfl,rfl,rfl,rfl⟩, ?_⟩
    refine dm _ ?_
    simp
    refine (hw i s' _ hi hwi hj hl).mono ?_
    rintro r σ' ⟨s'',tl',rfl,hl',rfl,hj'⟩
    have e:s'.length = s''.length:=by omega
    refine (tf (W i)).elim (fun hW=>?_) (fun hW=>?_)
    · have hfl:(dH t s (i + 1)).filter W = (dH t s i).filter W:=by rw [hcs,List.filter_append]; simp [hW]
      rw [hW,e]
      simp
      exact ⟨18,pX n s s''.length (.func fn first caps),[8,9],asg',body',s''.length + 2, .busy,none,by simp [pX],s'' ++ nY n s s''.length k (.func fn first caps) ((dH t s (i + 1)).filter W) asg' body' .ready,⟨tl',by simp [pX,nY,hfl]⟩,by simp [nY],rfl,s'',⟨k,by simp [nY,pX]⟩,rfl,by rw [hcs]; simp; omega,hj'⟩
    · have hfl:(dH t s (i + 1)).filter W = (dH t s i).filter W ++ [i]:=by rw [hcs,List.filter_append]; simp [hW]
      rw [hW,e]
      simp
      exact ⟨by intro v hv; simp at hv; subst hv; exact ⟨⟨rfl,rfl⟩,rfl⟩,by omega,18,pX n s s''.length (.func fn first caps),[8,9],asg',body',s''.length + 2, .busy,none,by simp [pX],s'' ++ nY n s s''.length (k + 1) (.func fn first caps) ((dH t s (i + 1)).filter W) asg' body' .ready,⟨tl',by simp [pX,nY,hfl]⟩,by simp [nY],rfl,s'',⟨k + 1,by simp [nY,pX]⟩,rfl,by rw [hcs]; simp; omega,hj'⟩
  · rintro i s2 hi hwi ⟨s',k,rfl,hl,hc,hj⟩
    have hcs:=cy t s i
    rw [if_neg hwi,List.append_nil] at hcs
    exact ⟨s',k,by rw [hcs],hl,by rw [hcs]; omega,hj⟩
  · exact ⟨σ,0,rfl,rfl,by simp [dH],h0⟩
  · rintro r σ' ⟨rfl,s2,tl,rfl,_,⟨s',k,rfl,hl,hc,hj⟩ | hS⟩
    rotate_left
    · exact hS.elim
    rw [ir hf hs]
    refine ⟨18,pX n s σ.length (.func fn first caps),[8,9],asg',body',σ.length + 2, .ready,none,by rw [← hl]; simp [nY],by simp, ?_⟩
    rw [← hl]
    simp [nY,pX]
    exact ⟨s',⟨_,rfl⟩,rfl,hj⟩
end Go.AM
