/- Sets of tanks, and what leaves with an error: of the program. A net is looked at: of the program. A net is looked at: of the program. How gas spreads in a net that is looked at, and what a step .. -/
import Derived.Test.YtmjfcbpgnmajpaaGreatDoorP16
namespace Go.AM
open Go.Proofs
set_option maxRecDepth 100000
set_option maxHeartbeats 1000000
theorem aj.any {P:Program} {f:FuncId} (hb:ak P f = true) {args:List ab} {σ:af} {Q:dF → af → Prop} {K Kp:ab → af → Prop} (hs:Spec P f args σ Q) (h:∀ r σ',Q r σ' → (∃ v,r = .ret v ∧ K v σ') ∨ (∃ v,r = .pan v ∧ Kp v σ')) :
    @aj P (.func (.func f) [] []) args σ ⟨K⟩ ⟨Kp⟩:=
  (aC.func (first:=[]) (caps:=[]) hb (by rw [List.nil_append,List.append_nil]; exact hs)).mono (by
    intro r σ' hq
    rcases h r σ' hq with ⟨v,rfl,hk⟩ | ⟨v,rfl,hk⟩
    · exact hk
    · exact hk)
theorem aj.pan {P:Program} {f:FuncId} (hb:ak P f = true) {args:List ab} {σ:af} {v:ab} {K Kp:ab → af → Prop} (hs:Spec P f args σ fun r σ'=>r = .pan v ∧ σ' = σ) (hq:Kp v σ) :
    @aj P (.func (.func f) [] []) args σ ⟨K⟩ ⟨Kp⟩:=aj.any hb hs (by rintro r σ' ⟨rfl,rfl⟩; exact .inr ⟨_,rfl,hq⟩)
theorem aj.A2 {P:Program} {f:FuncId} (hb:ak P f = true) {args:List ab} {σ:af} {v:ab} {R:dF} {K Kp:ab → af → Prop} (hs:Spec P f args σ fun r σ'=>r = R ∧ σ' = σ) (e:R = .ret v) (hq:K v σ) :
    @aj P (.func (.func f) [] []) args σ ⟨K⟩ ⟨Kp⟩:=aj.any hb hs (by rintro r σ' ⟨rfl,rfl⟩; exact .inl ⟨_,e,hq⟩)
theorem aj.sR {P:Program} {f:FuncId} (hb:ak P f = true) {args:List ab} {σ:af} {v:ab} {R:dF} {K Kp:ab → af → Prop} (hs:Spec P f args σ fun r σ'=>r = R ∧ σ' = σ) (e:R = .pan v) (hq:Kp v σ) :
    @aj P (.func (.func f) [] []) args σ ⟨K⟩ ⟨Kp⟩:=aj.any hb hs (by rintro r σ' ⟨rfl,rfl⟩; exact .inr ⟨_,e,hq⟩)
abbrev uu (n:Nat):ab:=.int .u64 (n:Int)
theorem a9 (s i:Nat) (hs:s < 128) (hi:i < 64) (σ:af):Spec Tryz.prog Cx [uu s,ii' (i:Int)] σ fun r σ'=>r = .ret (.bool (s.testBit i)) ∧ σ' = σ:=by
  refine Spec.ay (LX (by simp) (dm _ ?_)) rfl rfl σ
  simp [FB,E3 (Nat.lt_trans hs (by decide)) hi]
theorem cF (i:Nat) (hi:i < 63) (σ:af):Spec Tryz.prog Ew [ii' (i:Int)] σ fun r σ'=>r = .ret (uu (2 ^ i)) ∧ σ' = σ:=by
  refine Spec.ay (LQ (by simp) (dm _ ?_)) rfl rfl σ
  simp [GH,Fk hi]
def jH (n i:Nat):List Int:=((List.range i).filter fun j=>n.testBit j).map (fun j:Nat=>(j:Int))
theorem su (n i:Nat):jH n (i + 1) = jH n i ++ if n.testBit i then [(i:Int)] else []:=by
  unfold jH
  rw [List.range_succ,List.filter_append,List.map_append]
  cases h:n.testBit i <;> simp [h]
theorem uj (n i:Nat):(jH n i).length ≤ i:=by
  unfold jH
  rw [List.length_map]
  exact Nat.le_trans (List.length_filter_le _ _) (by simp)
theorem iy (n:Nat) (hn:n < 128) (σ:af):Spec Tryz.prog I8 [uu n] σ fun r σ'=>r = .ret (.slice 1 ((mz n).map ii')) ∧ σ' = σ:=by
  refine Spec.ay (Rd (by simp) (dm _ ?_)) rfl (by simp [ab.pure,av (f:=ii') (fun _=>rfl)]) σ
  simp [KT]
  refine AW.loop (ι:=Nat) (fun i fr σ=>fr = { v:=[(0,uu n),(2, .oslice 1 ((jH n i).map ii') 0 (jH n i).length),(4, .int .i64 i)],ds:=[] } ∧ σ = [.spare 1 (jH n i).length] ∧ i ≤ 7) (fun i=>7 - i) 0 (by simp [jH]) ?_
  rintro i fr σ ⟨rfl,rfl,hi⟩
  refine (Nat.lt_or_ge i 7).elim (fun hlt=>?_) (fun hge=>?_)
  · have hw:IntKind.i64.wrap ((i:Int) + 1) = ((i + 1:Nat):Int):=by rw [an (by omega) (by omega)]; simp
    have hsu:=su n i
    have hlen:=uj n i
    have hfit:Fits 1 [ii' (i:Int)]:=by intro v hv; simp at hv; subst hv; exact ⟨⟨rfl,rfl⟩,rfl⟩
    have hi7:(i:Int) < 7:=by omega
    refine dm _ ?_
    simp [hi7]
    refine (tf (n.testBit i)).elim (fun hb=>?_) (fun hb=>?_)
    · refine aj.aD kL (a9 n i hn (by omega) _) (congrArg ab.bool hb) ?_
      rw [hb] at hsu
      simp at hsu
      simp [hw]
      exact ⟨i + 1,by omega,by simp [hsu],by simp [hsu],by omega⟩
    · refine aj.aD kL (a9 n i hn (by omega) _) (congrArg ab.bool hb) ?_
      rw [hb] at hsu
      simp at hsu
      simp [hw,hfit]
      exact ⟨by omega,i + 1,by omega,by simp [hsu],by simp [hsu],by omega⟩
  · have h7:i = 7:=by omega
    subst h7
    refine dm _ ?_
    simp
    rfl
/-! ### each -/
abbrev vT:TypeId:=39
def dK (m:Int) (down:Int → Bool) (all:List Int):List Int → Nat → Int
  | [],_=>0
  | b :: r,i=>if cO m b then 4 else if 0 < i ∧ b ≤ all.getD (i - 1) 0 then 2 else if down b then 9 else dK m down all r (i + 1)
theorem kZ (c:br) (bs:List Int):∀ (l:List Int) (i:Nat),fM c bs l i = dK c.pipes.length (fun b=>(c.pipes.getD b.toNat ⟨0,0,false⟩).welded) bs l i
  | [],_=>rfl
  | b :: r,i=>by simp only [fM,dK]; rw [kZ c bs r]
theorem lF (g:FuncId) (caps:List ab) (m:Int) (down:Int → Bool) (l:List Int) (hl:l.length ≤ maxLen) (hf:∀ x,0 ≤ x → x < m → ck Tryz.prog (.func (.func g) [] caps) [ii' x] (.bool (down x))) (σ:af) :
    Spec Tryz.prog Ce [.slice 1 (l.map ii'),ii' m, .func (.func g) [] caps] σ fun r σ'=>r = (if dK m down l l 0 = 0 then .ret (.tup []) else .pan (.iface vT (ii' (dK m down l l 0)))) ∧ σ' = σ:=by
  refine Mn (by simp) (dm _ ?_)
  simp [FP]
  refine AW.loop (ι:=Nat) (fun i fr σ'=>fr = { v:=[(0, .slice 1 (l.map ii')),(1,ii' m),(2, .func (.func g) [] caps),(8, .slice 1 (l.map ii')),(9, .int .i64 l.length),(10, .int .i64 i)],ds:=[] } ∧ σ' = σ ∧ i ≤ l.length ∧ dK m down l l 0 = dK m down l (l.drop i) i) (fun i=>l.length - i) 0 (by simp) ?_
  rintro i fr σ' ⟨rfl,rfl,hi,hp⟩
  refine (Nat.lt_or_ge i l.length).elim (fun hlt=>?_) (fun hge=>?_)
  · have hd:l.drop i = l[i] :: l.drop (i + 1):=List.drop_eq_getElem_cons hlt
    obtain ⟨b,hx⟩:∃ b,l[i] = b:=⟨_,rfl⟩
    rw [hd,hx] at hp
    simp only [dK] at hp
    have hwi:IntKind.i64.wrap ((i:Int) + 1) = (i:Int) + 1:=an (by omega) (by simp only [maxLen] at hl; omega)
    refine dm _ ?_
    simp [hlt,hx]
    refine (tf (cO m b)).elim (fun h1=>?_) (fun h1=>?_)
    rotate_left
    · refine aj.aD B3 (dT m [b] (by simp [maxLen]) _) (congrArg ab.bool (show [b].any (cO m) = true by simp [h1])) ?_
      rw [if_pos h1] at hp
      simp [hp]
    refine aj.aD B3 (dT m [b] (by simp [maxLen]) _) (congrArg ab.bool (show [b].any (cO m) = false by simp [h1])) ?_
    rw [if_neg (by simp [h1])] at hp
    have hbm:0 ≤ b ∧ b < m:=by simp [cO] at h1; omega
    -- the last two tests
    have fin:∀ Q:Prop,(down b = true → dK m down l l 0 = 9 → Q) → (down b = false → dK m down l l 0 = dK m down l (l.drop (i + 1)) (i + 1) → Q) → ¬ (0 < i ∧ b ≤ l.getD (i - 1) 0) → Q:=by
      intro Q q1 q2 hn
      rw [if_neg hn] at hp
      rcases tf (down b) with h | h
      · rw [h] at hp; exact q2 h hp
      · rw [h] at hp; exact q1 h hp
    refine (Nat.eq_zero_or_pos i).elim (fun h0=>?_) (fun h0=>?_)
    · subst h0
      have hw0:IntKind.i64.wrap (-1) = -1:=by decide
      simp [hw0,hlt,hx]
      refine fin _ (fun h3 h4=>?_) (fun h3 h4=>?_) (by simp)
      · refine aj.of (hf b hbm.1 hbm.2 _) ?_
        simp [h3,h4]
      · refine aj.of (hf b hbm.1 hbm.2 _) ?_
        simp [h3]
        exact ⟨1,by omega,rfl,by omega,by simpa using h4⟩
    obtain ⟨k,rfl⟩:∃ k,i = k + 1:=⟨i - 1,by omega⟩
    have hw:IntKind.i64.wrap (((k + 1:Nat):Int) - 1) = k:=by rw [show (((k + 1:Nat):Int) - 1) = (k:Int) by omega]; exact an (by omega) (by simp only [maxLen] at hl; omega)
    have hkl:k < l.length:=by omega
    obtain ⟨d,hdk⟩:∃ d,l[k] = d:=⟨_,rfl⟩
    have hgb:l.getD (k + 1 - 1) 0 = d:=by simp [hkl,hdk]
    have hwk:IntKind.i64.wrap ((k:Int) + 1 + 1) = ((k + 2:Nat):Int):=by rw [show (k:Int) + 1 + 1 = ((k + 2:Nat):Int) by omega]; exact an (by omega) (by simp only [maxLen] at hl; omega)
    rw [hgb] at fin hp
    have hw2:IntKind.i64.wrap (k:Int) = k:=an (by omega) (by simp only [maxLen] at hl; omega)
    have hk0:(0:Int) < (k:Int) + 1:=by omega
    refine (Classical.em (b ≤ d)).elim (fun h2=>?_) (fun h2=>?_)
    · rw [if_pos ⟨by omega,h2⟩] at hp
      simp [hkl,hdk,h2,hp,hk0,hlt,hx,hw2]
    simp [hkl,hdk,h2,hk0,hlt,hx,hw2]
    refine fin _ (fun h3 h4=>?_) (fun h3 h4=>?_) (by omega)
    · refine aj.of (hf b hbm.1 hbm.2 _) ?_
      simp [h3,h4]
    · refine aj.of (hf b hbm.1 hbm.2 _) ?_
      simp [h3]
      exact ⟨k + 2,by omega,hwk,by omega,h4⟩
  · have hnl:¬ i < l.length:=by omega
    have hz:l.drop i = []:=List.drop_eq_nil_of_le hge
    rw [hz] at hp
    refine dm _ ?_
    simp [hnl,hp,dK]
set_option maxRecDepth 100000
set_option maxHeartbeats 1000000
def rG (c:br) (i:Int):aE:=c.tanks.getD i.toNat ⟨ByteArray.empty,false⟩
def lz (c:br) (bs ws:List Int) (asked:Bool):Int:=
  if b9 c bs ≠ 0 then b9 c bs else if asked then (if ws.length = 0 then 3 else dK c.tanks.length (fun i=>(rG c i).kept) ws ws 0) else 0
def oC:List Int → Nat → Nat
  | [],a=>a
  | w :: r,a=>oC r (a ||| 2 ^ w.toNat)
def n9 (c:br) (bs:List Int) (j:Nat):Bool:=decide (j < c.pipes.length) && !bs.contains (j:Int)
def fV (c:br) (k w:Nat) (p:Nat → Bool):List ab:=.slice 2 (c.tanks.map aE.v) :: .slice 3 (c.pipes.map aG.v) :: uu k :: uu w :: (List.range 12).map (fun j=>.bool (p j))
section
variable (c:br) (k w:Nat) (p:Nat → Bool)
@[simp] theorem LM:(fV c k w p).length = 16:=rfl
@[simp] theorem SF:(fV c k w p)[0]? = some (.slice 2 (c.tanks.map aE.v)):=rfl
@[simp] theorem Rm:(fV c k w p)[1]? = some (.slice 3 (c.pipes.map aG.v)):=rfl
@[simp] theorem P0:(fV c k w p)[2]? = some (uu k):=rfl
@[simp] theorem Rj:(fV c k w p)[3]? = some (uu w):=rfl
theorem EG {i:Nat} (hi:i < 12):(fV c k w p)[4 + i]? = some (.bool (p i)):=by
  rw [show 4 + i = i + 1 + 1 + 1 + 1 by omega]
  simp [fV,hi]
@[simp] theorem Jj (k':Nat):(fV c k w p).set 2 (uu k') = fV c k' w p:=rfl
@[simp] theorem Je (k':Nat):(fV c k w p).set 3 (uu k') = fV c k k' p:=rfl
theorem yS (i:Nat) (x:Bool):(fV c k w p).set (4 + i) (.bool x) = fV c k w (fun j=>if j = i then x else p j):=by
  rw [show 4 + i = i + 1 + 1 + 1 + 1 by omega]
  simp only [fV,List.set_cons_succ]
  congr 4
  apply List.ext_getElem
  · simp
  · intro n h1 h2
    rw [List.getElem_set]
    simp
    by_cases h:i = n
    · subst h; simp
    · have:¬ n = i:=fun e=>h e.symm
      simp [h,this]
end
theorem kF (l:List Int) (x:Int) (hl:l.length ≤ maxLen) (σ:af) :
    Spec Tryz.prog C7 [.slice 1 (l.map ii'),ii' x] σ fun r σ'=>r = .ret (.int .i64 (bK (fun y=>x == y) l 0)) ∧ σ' = σ:=by
  refine Spec.ay (OR (by simp) (dm _ ?_)) (by simp [av (f:=ii') (fun _=>rfl) l]) rfl σ
  simp [FQ]
  refine AW.loop (ι:=Nat) (fun i fr σ=>fr = { v:=[(0, .slice 1 (l.map ii')),(1,ii' x),(7, .int .i64 l.length),(8, .int .i64 i)],ds:=[] } ∧ i ≤ l.length ∧ bK (fun y=>x == y) l 0 = bK (fun y=>x == y) (l.drop i) i) (fun i=>l.length - i) 0 (by simp) ?_
  rintro i fr σ ⟨rfl,hi,hpi⟩
  refine dm _ ?_
  simp
  refine ⟨fun hlt=>?_,fun hge=>?_⟩
  · have hd:l.drop i = l[i] :: l.drop (i + 1):=List.drop_eq_getElem_cons hlt
    rw [hd] at hpi
    simp [bK] at hpi
    simp [hlt]
    refine ⟨fun he=>by rw [hpi,if_pos he],fun he=>⟨i + 1,by omega,an (by omega) (by simp only [maxLen] at hl; omega),by omega,by rw [hpi,if_neg (by simp [he])]⟩⟩
  · have:l.drop i = []:=List.drop_eq_nil_of_le hge
    rw [hpi,this]; rfl
theorem aY (l:List Int) (x:Int) (hl:l.length ≤ maxLen) (σ:af) :
    Spec Tryz.prog IA [.slice 1 (l.map ii'),ii' x] σ fun r σ'=>r = .ret (.bool (l.contains x)) ∧ σ' = σ:=by
  refine Spec.ay (Sf (by simp) (dm _ ?_)) (by simp [av (f:=ii') (fun _=>rfl) l]) rfl σ
  simp [Mf]
  refine aj.pure Ol (kF l x hl _) ?_
  simp [il]
  rw [Bool.eq_iff_iff]; simp
theorem vb {m:Int} {down:Int → Bool} {all:List Int}:∀ {l:List Int} {i:Nat},dK m down all l i = 0 → ∀ x ∈ l,0 ≤ x ∧ x < m
  | [],_,_=>fun x hx=>absurd hx (by simp)
  | b :: r,i,h=>fun x hx=>by
    simp only [dK] at h
    split at h
    · simp at h
    · rename_i h1
      split at h
      · simp at h
      · split at h
        · simp at h
        · rcases List.mem_cons.1 hx with rfl | hx
          · simp [cO] at h1; omega
          · exact vb h x hx
def ql (bs:List Int) (i:Nat) (j:Nat):Bool:=decide (j < i) && !bs.contains (j:Int)
theorem yL (bs:List Int) (i:Nat):(fun j=>if j = i then !bs.contains (i:Int) else ql bs i j) = ql bs (i + 1):=by
  funext j
  unfold ql
  by_cases h:j = i
  · subst h; simp
  · have:decide (j < i) = decide (j < i + 1):=by simp; omega
    simp [h,this]
def qy:List aE → Nat → Nat → Nat
  | [],_,a=>a
  | t :: r,i,a=>qy r (i + 1) (if t.kept then a ||| 2 ^ i else a)
theorem xm:∀ (l:List aE) (i a:Nat),qy l i a = a ||| eV l i
  | [],i,a=>by simp [qy,eV]
  | t :: r,i,a=>by
    rw [qy,eV,xm r]
    cases t.kept <;> simp [Nat.or_assoc]
theorem oD {a b n:Nat} (ha:a < 2 ^ n) (hb:b < 2 ^ n):a ||| b < 2 ^ n:=Nat.or_lt_two_pow ha hb
theorem dy {i:Nat} (h:i < 7):2 ^ i < 128:=Nat.lt_of_lt_of_le (Nat.pow_lt_pow_right (by omega) h) (by decide)
theorem pU (c:br) (b:Int) (h0:0 ≤ b) (h1:b < c.pipes.length) (σ:af):Spec Tryz.prog AU [ii' b, .pval c.v] σ fun r σ'=>r = .ret (.bool (c.pipes.getD b.toNat ⟨0,0,false⟩).welded) ∧ σ' = σ:=by
  refine Spec.ay (Ln (by simp) (dm _ ?_)) (by simp [aM,ab.pure,c.pure]) rfl σ
  have hb:b.toNat < c.pipes.length:=by omega
  simp [G0,br.v,br.cells,h0,h1,hb,aG.v,aG.cells]
theorem pV (c:br) (b:Int) (h0:0 ≤ b) (h1:b < c.tanks.length) (σ:af):Spec Tryz.prog z5 [ii' b, .pval c.v] σ fun r σ'=>r = .ret (.bool (rG c b).kept) ∧ σ' = σ:=by
  refine Spec.ay (Jv (by simp) (dm _ ?_)) (by simp [aM,ab.pure,c.pure]) rfl σ
  have hb:b.toNat < c.tanks.length:=by omega
  simp [Ho,br.v,br.cells,h0,h1,hb,aE.v,aE.cells,rG]
theorem o9 (a b:Nat) (σ:af):gV Tryz.prog qK [.ptr a 0, .ptr b 0] σ .none fun m σ'=>m = .none ∧ σ' = σ:=by
  refine Hh (by simp) (dm _ ?_)
  simp [z9,PM.after]
theorem qT (a b:Nat) (e:Int) (σ:af) (x y:ab) (ha:σ[a]? = some (.box [x])) (hb:σ[b]? = some (.box [y])) (hne:b ≠ a) :
    gV Tryz.prog qK [.ptr a 0, .ptr b 0] σ (.pan (.iface vT (ii' e))) fun m σ'=>(∃ v,m = .recd v) ∧ σ' = (σ.set a (.box [.nilptr])).set b (.box [ii' e]):=by
  have hab:a ≠ b:=fun h=>hne h.symm
  refine Hh (by simp) (dm _ ?_)
  simp [z9,PM.after,ha,hb,hab]
set_option maxRecDepth 100000
set_option maxHeartbeats 1000000
theorem rD (c:br) (bs ws:List Int) (asked:Bool) (hl:c.tanks.length ≤ maxLen) (hl2:c.pipes.length ≤ maxLen) (hb:bs.length ≤ maxLen) (hw:ws.length ≤ maxLen) (hno:asked = false → ws = []) (σ:af) :
    Spec Tryz.prog I5 [c.v, .slice 1 (bs.map ii'), .slice 1 (ws.map ii'), .bool asked] σ fun r σ'=>
      (lz c bs ws asked = 0 ∧ r = .ret (.tup [.ptr (σ.length + 2) 0,ii' 0]) ∧ ∃ x y tl,σ' = σ ++ x :: y :: .box (fV c (eV c.tanks 0) (oC ws 0) (n9 c bs)) :: tl) ∨
      (lz c bs ws asked ≠ 0 ∧ r = .ret (.tup [.nilptr,ii' (lz c bs ws asked)]) ∧ ∃ tl,σ' = σ ++ tl):=by
  have hle:(iE c).2.2 = 0 → lz c bs ws asked = if fM c bs bs 0 ≠ 0 then fM c bs bs 0 else if asked then (if ws.length = 0 then 3 else dK c.tanks.length (fun i=>(rG c i).kept) ws ws 0) else 0:=by
    intro h1; unfold lz b9; rw [if_neg (show ¬ (iE c).2.2 ≠ 0 by simp [h1])]
  rw [kZ] at hle
  obtain ⟨d1,hd1⟩:∃ d:Int → Bool,d = fun b=>(c.pipes.getD b.toNat ⟨0,0,false⟩).welded:=⟨_,rfl⟩
  have hq1:=lF AU [.pval c.v] c.pipes.length d1 bs hb (fun x g1 g2=>by rw [hd1]; exact ck.fn LU (fun σ=>pU c x g1 g2 σ))
  rw [← hd1] at hle
  -- what comes of a panic
  have hpan:∀ (e:Int) (x y:ab) (tl:af) (R:PM → af → Prop),(∀ v,R (.recd v) (σ ++ .box [.nilptr] :: .box [ii' e] :: tl)) →
      gV Tryz.prog qK [.ptr σ.length 0, .ptr (σ.length + 1) 0] (σ ++ .box [x] :: .box [y] :: tl) (.pan (.iface vT (ii' e))) R:=fun e x y tl R h=>
    (qT σ.length (σ.length + 1) e _ x y (by simp) (by simp) (by omega)).mono (by rintro m σ' ⟨⟨v,rfl⟩,rfl⟩; simp; exact h v)
  obtain ⟨d2,hd2⟩:∃ d:Int → Bool,d = fun i=>(rG c i).kept:=⟨_,rfl⟩
  have hq2:=lF z5 [.pval c.v] c.tanks.length d2 ws hw (fun x g1 g2=>by rw [hd2]; exact ck.fn NF (fun σ=>pV c x g1 g2 σ))
  rw [← hd2] at hle
  have hok:(iE c).2.2 = 0 → mB c:=vX
  have hle3:ws = [] → asked = true → (iE c).2.2 = 0 → fM c bs bs 0 = 0 → lz c bs ws asked = 3:=by
    rintro rfl rfl h1 h2
    unfold lz b9
    rw [if_neg (show ¬ (iE c).2.2 ≠ 0 by simp [h1])]
    simp [h2]
  rw [kZ, ← hd1] at hle3
  refine Qt (by simp) (dm _ ?_)
  simp [Ig,br.v,br.cells]
  refine aj.pure Jz (qM c hl hl2 _) ?_
  refine (Classical.em ((iE c).2.2 = 0)).elim (fun h1=>?_) (fun h1=>?_)
  rotate_left
  · have:lz c bs ws asked = (iE c).2.2:=by unfold lz b9; rw [if_pos (by rw [if_pos h1]; exact h1),if_pos h1]
    rw [this]
    simp [aS,h1]
  replace hle:=hle h1
  simp [aS,h1]
  refine (Classical.em (dK c.pipes.length d1 bs bs 0 = 0)).elim (fun h2=>?_) (fun h2=>?_)
  rotate_left
  · refine aj.sR AV (hq1 _) (if_neg h2) ?_
    rw [if_pos h2] at hle
    simp
    refine ⟨Ae,hpan _ _ _ _ _ fun v=>?_⟩
    simp [hle,h2]
  refine aj.A2 AV (hq1 _) (if_pos h2) ?_
  rw [if_neg (by simp [h2])] at hle
  refine (tf asked).elim (fun ha=>?_) (fun ha=>?_)
  case' refine_1=>
    rw [if_neg (by simp [ha])] at hle
    simp [ha]
  case' refine_2=>
    rw [if_pos ha] at hle
    refine (Classical.em (ws = [])).elim (fun hw0=>?_) (fun hw0=>?_)
    · simp [ha,hw0]
      refine ⟨Ae,hpan _ _ _ _ _ fun v=>?_⟩
      have:=hle3 hw0 ha h1 h2
      rw [hw0,ha] at this
      simp [this]
    have hwl:¬ ws.length = 0:=fun h=>hw0 (List.length_eq_zero_iff.1 h)
    rw [if_neg hwl] at hle
    simp [ha,hw0]
    refine (Classical.em (dK c.tanks.length d2 ws ws 0 = 0)).elim (fun h3=>?_) (fun h3=>?_)
    rotate_left
    · refine aj.sR AV (hq2 _) (if_neg h3) ?_
      simp
      refine ⟨Ae,hpan _ _ _ _ _ fun v=>?_⟩
      simp [hle,h3]
    refine aj.A2 AV (hq2 _) (if_pos h3) ?_
    rw [h3] at hle
    simp
  case' refine_1=>have hws:∀ x ∈ ws,0 ≤ x ∧ x < c.tanks.length:=by rw [hno ha]; simp
  case' refine_2=>have hws:∀ x ∈ ws,0 ≤ x ∧ x < c.tanks.length:=vb h3
  all_goals
    replace hok:=hok h1
    have ht7:=hok.tanks
    have hp12:=hok.pipes
    refine AW.loop (ι:=Nat) (fun i fr σ'=>fr = { v:=[(1, .slice 1 (bs.map ii')),(2, .slice 1 (ws.map ii')),(4, .pval (.agg [.slice 2 (c.tanks.map aE.v), .slice 3 (c.pipes.map aG.v)])),(8, .ptr σ.length 0),(9, .ptr (σ.length + 1) 0),(47, .int .i64 c.pipes.length),(48, .int .i64 i)],ds:=[.fn (.func (.func qK) [] [.ptr σ.length 0, .ptr (σ.length + 1) 0]) []] } ∧
      σ' = σ ++ .box [.ptr (σ.length + 2) 0] :: .box [ii' 0] :: [.box (fV c 0 0 (ql bs i))] ∧ i ≤ c.pipes.length) (fun i=>c.pipes.length - i) 0 (by simp; rfl) ?_
    rintro i fr σ' ⟨rfl,rfl,hi⟩
    refine (Nat.lt_or_ge i c.pipes.length).elim (fun hlt=>?_) (fun hge=>?_)
    · have hset:(fV c 0 0 (ql bs i)).set (4 + i) (.bool (!decide ((i:Int) ∈ bs))) = fV c 0 0 (ql bs (i + 1)):=by rw [← yL bs i,yS]; simp
      have hi12:(i:Int) < 12:=by omega
      have hw1:IntKind.i64.wrap ((i:Int) + 1) = ((i + 1:Nat):Int):=by rw [an (by omega) (by omega)]; simp
      have hi16:4 + i < 16:=by omega
      have hpu:aM (bs.map ii') = true:=av (f:=ii') (fun _=>rfl) bs
      refine dm _ ?_
      simp [hlt]
      refine ⟨_,fun σ' _=>aC.func xY (aY bs i hb σ'), ?_⟩
      simp [hi12,hpu]
      exact ⟨by omega,i + 1,by omega,hw1,hset,by omega⟩
    have hnl:¬ i < c.pipes.length:=by omega
    have hie:i = c.pipes.length:=by omega
    refine dm _ ?_
    simp [hnl]
    refine AW.loop (ι:=Nat) (fun k fr σ'=>∃ a tl,fr = { v:=[(2, .slice 1 (ws.map ii')),(8, .ptr σ.length 0),(9, .ptr (σ.length + 1) 0),(62, .slice 2 (c.tanks.map aE.v)),(63, .int .i64 c.tanks.length),(64, .int .i64 k)],ds:=[.fn (.func (.func qK) [] [.ptr σ.length 0, .ptr (σ.length + 1) 0]) []] } ∧
      σ' = σ ++ .box [.ptr (σ.length + 2) 0] :: .box [ii' 0] :: .box (fV c a 0 (ql bs i)) :: tl ∧ k ≤ c.tanks.length ∧ a < 128 ∧ qy (c.tanks.drop k) k a = qy c.tanks 0 0) (fun k=>c.tanks.length - k) 0 ⟨0,[],by simp,by simp,by omega,by omega,by simp⟩ ?_
    rintro k fr σ' ⟨a,tl,rfl,rfl,hk,ha7,hka⟩
    refine (Nat.lt_or_ge k c.tanks.length).elim (fun hlt=>?_) (fun hge2=>?_)
    · have hd:c.tanks.drop k = c.tanks[k] :: c.tanks.drop (k + 1):=List.drop_eq_getElem_cons hlt
      obtain ⟨x,hx⟩:∃ x,c.tanks[k] = x:=⟨_,rfl⟩
      rw [hd,hx] at hka
      simp only [qy] at hka
      have hw1:IntKind.i64.wrap ((k:Int) + 1) = ((k + 1:Nat):Int):=by rw [an (by omega) (by omega)]; simp
      have hor:tG .u64 (a:Int) (2 ^ k) = ((a ||| 2 ^ k:Nat):Int):=by
        have:=tz (a:=a) (b:=2 ^ k) (by omega) (Nat.lt_trans (dy (by omega)) (by decide))
        simpa using this
      refine dm _ ?_
      refine (tf x.kept).elim (fun hkp=>?_) (fun hkp=>?_)
      · rw [hkp] at hka
        simp [hlt,hx,hkp,aE.v,aE.cells]
        exact ⟨k + 1,by omega,hw1,a,rfl,by omega,ha7,by simpa using hka⟩
      · rw [hkp] at hka
        simp [hlt,hx,hkp,aE.v,aE.cells]
        refine ⟨_,fun σ'=>aC.func so (cF k (by omega) σ'), ?_⟩
        simp [hor]
        exact ⟨k + 1,by omega,hw1,a ||| 2 ^ k,rfl,by omega,oD (n:=7) ha7 (dy (by omega)),by simpa using hka⟩
    have hz:c.tanks.drop k = []:=List.drop_eq_nil_of_le hge2
    rw [hz] at hka
    replace hka:a = eV c.tanks 0:=by rw [qy,xm,Nat.zero_or] at hka; exact hka
    have hnl2:¬ k < c.tanks.length:=by omega
    refine dm _ ?_
    simp [hnl2]
    refine AW.loop (ι:=Nat) (fun k fr σ'=>∃ w tl,fr = { v:=[(8, .ptr σ.length 0),(9, .ptr (σ.length + 1) 0),(81, .slice 1 (ws.map ii')),(82, .int .i64 ws.length),(83, .int .i64 k)],ds:=[.fn (.func (.func qK) [] [.ptr σ.length 0, .ptr (σ.length + 1) 0]) []] } ∧
      σ' = σ ++ .box [.ptr (σ.length + 2) 0] :: .box [ii' 0] :: .box (fV c a w (ql bs i)) :: tl ∧ k ≤ ws.length ∧ w < 128 ∧ oC (ws.drop k) w = oC ws 0) (fun k=>ws.length - k) 0 ⟨0,tl,by simp,rfl,by omega,by omega,by simp⟩ ?_
    rintro m fr σ' ⟨w,tl,rfl,rfl,hm,hw7,hkw⟩
    refine (Nat.lt_or_ge m ws.length).elim (fun hlt=>?_) (fun hge3=>?_)
    · have hd:ws.drop m = ws[m] :: ws.drop (m + 1):=List.drop_eq_getElem_cons hlt
      obtain ⟨x,hx⟩:∃ x,ws[m] = x:=⟨_,rfl⟩
      have hxm:=hws x (hx ▸ List.getElem_mem _)
      obtain ⟨n,rfl⟩:∃ n:Nat,x = n:=⟨x.toNat,by omega⟩
      rw [hd,hx] at hkw
      simp only [oC,Int.toNat_natCast] at hkw
      have hw1:IntKind.i64.wrap ((m:Int) + 1) = ((m + 1:Nat):Int):=by rw [an (by omega) (by simp only [maxLen] at hw; omega)]; simp
      have hor:tG .u64 (w:Int) (2 ^ n) = ((w ||| 2 ^ n:Nat):Int):=by
        have:=tz (a:=w) (b:=2 ^ n) (by omega) (Nat.lt_trans (dy (by omega)) (by decide))
        simpa using this
      refine dm _ ?_
      simp [hlt,hx]
      refine ⟨_,fun σ'=>aC.func so (cF n (by omega) σ'), ?_⟩
      simp [hor]
      exact ⟨m + 1,by omega,hw1,w ||| 2 ^ n,rfl,by omega,oD (n:=7) hw7 (dy (by omega)),hkw⟩
    have hz3:ws.drop m = []:=List.drop_eq_nil_of_le hge3
    rw [hz3] at hkw
    replace hkw:w = oC ws 0:=hkw
    have hnl3:¬ m < ws.length:=by omega
    refine dm _ ?_
    simp [hnl3]
    refine ⟨Ae,(o9 _ _ _).mono ?_⟩
    rintro m' σ' ⟨rfl,rfl⟩
    simp [hle]
    rw [hka,hkw,hie]; rfl
set_option maxRecDepth 100000
set_option maxHeartbeats 1000000
theorem DU (c:br) (bs:List Int) {i:Nat} (h:i < c.pipes.length):n9 c bs i = !bs.contains (i:Int):=by simp [n9,h]
theorem kl (c:br) (hok:mB c) (k w:Nat) (bs:List Int) (f b:Nat) (hf:f < 128) (hb:b < 128) (nb:Nat) (σ:af) (hn:σ[nb]? = some (.box (fV c k w (n9 c bs)))) :
    Spec Tryz.prog Uw [.ptr nb 0, .agg [uu f,uu b]] σ fun r σ'=>r = .ret (.agg [uu (bS c.pipes bs b f),uu b]) ∧ ∃ tl,σ' = σ ++ tl:=by
  have hnl:nb < σ.length:=by
    rcases Nat.lt_or_ge nb σ.length with h | h
    · exact h
    · rw [List.getElem?_eq_none h] at hn; cases hn
  have hnn:∀ l:af,(σ ++ l)[nb]? = some (.box (fV c k w (n9 c bs))):=fun l=>by rw [List.getElem?_append_left hnl,hn]
  refine Og (by simp) (dm _ ?_)
  simp [Fy]
  refine AW.loop (ι:=Nat × Nat × Nat) (fun p fr σ'=>∃ tl,fr = { v:=[(0, .ptr nb 0),(3, .ptr σ.length 0),(4, .ptr (σ.length + 1) 0),(5, .ptr (σ.length + (tl.length + 1 + 1)) 0)],ds:=[] } ∧
    σ' = σ ++ .box [uu p.1,uu b] :: .box [uu 0,uu 0] :: (tl ++ [.box [uu p.2.1,uu p.2.2]]) ∧ p.1 < 128 ∧ bS c.pipes bs b p.1 = bS c.pipes bs b f ∧ (p.2.1 = p.1 → p.2.2 = b → fp bs b c.pipes 0 p.1 = p.1)) (fun p=>2 * p.1 + if p.2.1 = p.1 ∧ p.2.2 = b then 0 else 1) (f,0,0)
    ⟨[],by simp,by simp,hf,rfl,fun h _=>by have h0:f = 0:=h.symm; subst h0; exact Nat.le_zero.1 (nG bs b c.pipes 0 0)⟩ ?_
  rintro ⟨g,l1,l2⟩ fr σ' ⟨tl,rfl,rfl,hg,hs,hlast⟩
  simp only at hg hs hlast
  refine (Classical.em (l1 = g ∧ l2 = b)).elim (fun hx=>?_) (fun hx=>?_)
  · obtain ⟨rfl,rfl⟩:=hx
    have hp:=sG (hlast rfl rfl)
    rw [hs] at hp
    refine dm _ ?_
    simp
    simp [hp]
  have hne:(l1:Int) = g → ¬ (l2:Int) = b:=fun h1 h2=>hx ⟨by exact_mod_cast h1,by exact_mod_cast h2⟩
  refine dm _ ?_
  simp [hnn]
  refine ⟨fun _=>?_,fun h1 h2=>absurd h2 (hne h1)⟩
  refine AW.loop (ι:=Nat) (fun i fr σ'=>∃ g' t2,fr = { v:=[(0, .ptr nb 0),(3, .ptr σ.length 0),(4, .ptr (σ.length + 1) 0),(5, .ptr (σ.length + (tl.length + 1 + 1)) 0),(18, .slice 3 (c.pipes.map aG.v)),(19, .int .i64 c.pipes.length),(20, .int .i64 i)],ds:=[] } ∧
    σ' = σ ++ .box [uu g',uu b] :: .box [uu 0,uu 0] :: (tl ++ .box [uu g,uu b] :: t2) ∧ i ≤ c.pipes.length ∧ g' < 128 ∧ fp bs b (c.pipes.drop i) i g' = fp bs b c.pipes 0 g) (fun i=>c.pipes.length - i) 0 ⟨g,[],by simp,rfl,by omega,hg,by simp⟩ ?_
  rintro i fr σ' ⟨g',t2,rfl,rfl,hi,hg',hpm⟩
  refine (Nat.lt_or_ge i c.pipes.length).elim (fun hlt=>?_) (fun hge=>?_)
  · have hd:c.pipes.drop i = c.pipes[i] :: c.pipes.drop (i + 1):=List.drop_eq_getElem_cons hlt
    obtain ⟨p,hp⟩:∃ p,c.pipes[i] = p:=⟨_,rfl⟩
    have hends:=hok.ends p (hp ▸ List.getElem_mem _)
    rw [hd,hp] at hpm
    simp only [fp] at hpm
    obtain ⟨pf,pt,pw⟩:=p
    obtain ⟨x,rfl⟩:∃ x:Nat,pf = x:=⟨pf.toNat,by simp at hends; omega⟩
    obtain ⟨y,rfl⟩:∃ y:Nat,pt = y:=⟨pt.toNat,by simp at hends; omega⟩
    simp only [Int.toNat_natCast] at hends hpm
    have ht7:=hok.tanks
    have hp12:=hok.pipes
    have hi12:(i:Int) < 12:=by omega
    have hi16:4 + i < 16:=by omega
    have hop:=DU c bs hlt
    have hget:=fun k w p=>EG c k w p (i:=i) (by omega)
    have hw1:IntKind.i64.wrap ((i:Int) + 1) = ((i + 1:Nat):Int):=by rw [an (by omega) (by omega)]; simp
    refine dm _ ?_
    refine (tf (bs.contains (i:Int))).elim (fun hb1=>?_) (fun hb1=>?_)
    rotate_left
    · rw [hb1] at hop hpm
      simp [hnn,hlt,hp,aG.v,aG.cells,hi12,hi16,hget,hop]
      refine ⟨.bool true, .bool true, ?_⟩
      simp
      exact ⟨i + 1,by omega,hw1,g',rfl,by omega,hg',hpm⟩
    rw [hb1] at hop hpm
    simp [hnn,hlt,hp,aG.v,aG.cells,hi12,hi16,hget,hop]
    refine ⟨.bool (g'.testBit x),fun σ'=>aC.func kL (a9 g' x hg' (by omega) σ'), .bool (g'.testBit y),fun σ'=>aC.func kL (a9 g' y hg' (by omega) σ'), ?_⟩
    simp
    have e63:∀ {n:Nat},n < 7 → 2 ^ n < 2 ^ 63:=fun h=>Nat.lt_trans (dy h) (by decide)
    obtain ⟨A,hA⟩:∃ A,2 ^ x ||| 2 ^ y = A:=⟨_,rfl⟩
    have hA63:A < 2 ^ 63:=hA ▸ vt (e63 (by omega)) (e63 (by omega))
    have q1:tG .u64 (2 ^ x) (2 ^ y) = (A:Int):=by
      have:=tz (a:=2 ^ x) (b:=2 ^ y) (e63 (by omega)) (e63 (by omega))
      rw [hA] at this
      simpa using this
    obtain ⟨B,hB⟩:∃ B,g' &&& A = B:=⟨_,rfl⟩
    have q2:qe .u64 (g':Int) (A:Int) = (B:Int):=by rw [← hB]; exact vw (by omega) hA63
    have q3:jt .u64 (B:Int) (b:Int) = (dp B b:Int):=sH (by rw [← hB]; exact Nat.lt_of_le_of_lt Nat.and_le_left (by omega))
    have q4:jt .u64 (g':Int) (dp B b:Int) = (dp g' (dp B b):Int):=sH (by omega)
    refine ⟨fun h=>⟨i + 1,by omega,hw1,g',rfl,by omega,hg', ?_⟩,fun h=>⟨_,fun σ'=>aC.func so (cF x (by omega) σ'),_,fun σ'=>aC.func so (cF y (by omega) σ'), ?_⟩⟩
    · rw [← hpm,jB,if_pos h]; simp
    rw [jB,if_neg h,hA,hB] at hpm
    simp [q1,q2,q3,q4]
    exact ⟨i + 1,by omega,hw1,dp g' (dp B b),rfl,by omega,ou hg',by simpa using hpm⟩
  have hnl2:¬ i < c.pipes.length:=by omega
  have hz:c.pipes.drop i = []:=List.drop_eq_nil_of_le hge
  rw [hz] at hpm
  replace hpm:g' = fp bs b c.pipes 0 g:=hpm
  have hle:=nG bs b c.pipes 0 g
  refine dm _ ?_
  simp [hnl2]
  refine ⟨g',g,b, ?_,tl ++ .box [uu g,uu b] :: t2,by simp,⟨rfl,by simp⟩,hg',by rw [hpm,lx,hs],fun e _=>by rw [← e, ← hpm,e]⟩
  rw [if_neg hx]
  split
  · omega
  · rename_i h2
    have:g ≠ g':=fun e=>h2 ⟨e,rfl⟩
    omega
set_option maxRecDepth 100000
set_option maxHeartbeats 1000000
def sS (f b:Nat):Option (Nat × Nat) → ab
  | none=>.tup [.agg [uu f,uu b], .bool false]
  | some (f',b')=>.tup [.agg [uu f',uu b'], .bool true]
theorem EU (c:br) (i:Nat):(eV c.tanks 0).testBit i = (c.tanks.getD i ⟨ByteArray.empty,false⟩).kept:=by
  rw [wM]; simp
theorem e63 {n:Nat} (h:n < 7):2 ^ n < 2 ^ 63:=Nat.lt_trans (dy h) (by decide)
theorem AA {c:br} {bs:List Int} {f b:Nat} {x:a7} {y:Nat × Nat} (hf:f < 128) (hb:b < 128) (hx:x.tank.toNat < 7) (h:mu c bs f b x = some y):y.1 < 128 ∧ y.2 < 128:=by
  unfold mu at h
  split at h
  · cases h
  · split at h
    · cases h
      exact ⟨Nat.lt_of_le_of_lt (uB _ _ _ _) hf,ou hb⟩
    · cases h
      exact ⟨Nat.lt_of_le_of_lt (uB _ _ _ _) (oD (n:=7) hf (dy hx)),oD (n:=7) hb (dy hx)⟩
theorem mU (c:br) (hok:mB c) (w:Nat) (bs:List Int) (f b:Nat) (x:a7) (hf:f < 128) (hb:b < 128) (h0:0 ≤ x.tank) (h1:x.tank < c.tanks.length) (nb:Nat) (σ:af) (hn:σ[nb]? = some (.box (fV c (eV c.tanks 0) w (n9 c bs)))) :
    Spec Tryz.prog HV [.ptr nb 0, .agg [uu f,uu b],x.v] σ fun r σ'=>r = .ret (sS f b (mu c bs f b x)) ∧ ∃ tl,σ' = σ ++ tl:=by
  have hnl:nb < σ.length:=by
    rcases Nat.lt_or_ge nb σ.length with h | h
    · exact h
    · rw [List.getElem?_eq_none h] at hn; cases hn
  have hnn:∀ l:af,(σ ++ l)[nb]? = some (.box (fV c (eV c.tanks 0) w (n9 c bs))):=fun l=>by rw [List.getElem?_append_left hnl,hn]
  obtain ⟨xt,xo⟩:=x
  simp only at h0 h1
  obtain ⟨i,rfl⟩:∃ i:Nat,xt = i:=⟨xt.toNat,by omega⟩
  have ht7:=hok.tanks
  have hk:=EU c i
  have hk7:eV c.tanks 0 < 128:=AB c.tanks 0 7 (by omega)
  have hi63:i < 63:=by omega
  have hi64:i < 64:=by omega
  have hM:mu c bs f b ⟨i,xo⟩ = if (eV c.tanks 0).testBit i = true ∨ b.testBit i ≠ xo then none
    else if xo then some (bS c.pipes bs (dp b (2 ^ i)) f,dp b (2 ^ i)) else some (bS c.pipes bs (b ||| 2 ^ i) (f ||| 2 ^ i),b ||| 2 ^ i):=by
    rw [hk]; rfl
  have q1:jt .u64 (b:Int) (2 ^ i) = (dp b (2 ^ i):Int):=by
    have:=sH (a:=b) (b:=2 ^ i) (by omega)
    simpa using this
  have q2:tG .u64 (b:Int) (2 ^ i) = ((b ||| 2 ^ i:Nat):Int):=by
    have:=tz (a:=b) (b:=2 ^ i) (by omega) (e63 (by omega))
    simpa using this
  have q3:tG .u64 (f:Int) (2 ^ i) = ((f ||| 2 ^ i:Nat):Int):=by
    have:=tz (a:=f) (b:=2 ^ i) (by omega) (e63 (by omega))
    simpa using this
  obtain ⟨A,hA⟩:∃ A,b ||| 2 ^ i = A:=⟨_,rfl⟩
  obtain ⟨B,hB⟩:∃ B,f ||| 2 ^ i = B:=⟨_,rfl⟩
  have hA7:A < 128:=hA ▸ oD (n:=7) hb (dy (by omega))
  have hB7:B < 128:=hB ▸ oD (n:=7) hf (dy (by omega))
  rw [hA] at q2 hM
  rw [hB] at q3 hM
  refine Ro (by simp) (dm _ ?_)
  refine (tf ((eV c.tanks 0).testBit i)).elim (fun hkp=>?_) (fun hkp=>?_)
  rotate_left
  · rw [if_pos (.inl hkp)] at hM
    simp [Dc,hnn,a7.v,a7.cells]
    refine ⟨.bool true,fun σ'=>aC.func kL ((a9 _ i hk7 hi64 σ').mono (by rw [hkp]; exact fun _ _ h=>h)), ?_⟩
    simp
    refine ⟨.bool true, ?_⟩
    simp [hM,sS]
  refine (Classical.em (b.testBit i = xo)).elim (fun hbx=>?_) (fun hbx=>?_)
  rotate_left
  · rw [if_pos (.inr hbx)] at hM
    simp [Dc,hnn,a7.v,a7.cells]
    refine ⟨.bool false,fun σ'=>aC.func kL ((a9 _ i hk7 hi64 σ').mono (by rw [hkp]; exact fun _ _ h=>h)), ?_⟩
    simp
    refine ⟨.bool (b.testBit i),fun σ'=>aC.func kL (a9 b i hb hi64 σ'), ?_⟩
    simp [hbx,hM,sS]
  rw [if_neg (by simp [hkp,hbx])] at hM
  refine (tf xo).elim (fun hx=>?_) (fun hx=>?_)
  · rw [if_neg (by simp [hx])] at hM
    simp [Dc,hnn,a7.v,a7.cells]
    refine ⟨.bool false,fun σ'=>aC.func kL ((a9 _ i hk7 hi64 σ').mono (by rw [hkp]; exact fun _ _ h=>h)), ?_⟩
    simp
    refine ⟨.bool false,fun σ'=>aC.func kL ((a9 b i hb hi64 σ').mono (by rw [hbx,hx]; exact fun _ _ h=>h)), ?_⟩
    simp [hx]
    refine ⟨_,fun σ'=>aC.func so (cF i hi63 σ'), ?_⟩
    simp [q2]
    refine ⟨_,fun σ'=>aC.func so (cF i hi63 σ'), ?_⟩
    simp [q3]
    refine aj.tl GD (kl c hok _ w bs B A hB7 hA7 nb _ (hnn _)) fun tl=>?_
    simp [← hx,hM,sS]
  · rw [if_pos hx] at hM
    simp [Dc,hnn,a7.v,a7.cells]
    refine ⟨.bool false,fun σ'=>aC.func kL ((a9 _ i hk7 hi64 σ').mono (by rw [hkp]; exact fun _ _ h=>h)), ?_⟩
    simp
    refine ⟨.bool true,fun σ'=>aC.func kL ((a9 b i hb hi64 σ').mono (by rw [hbx,hx]; exact fun _ _ h=>h)), ?_⟩
    simp [hx]
    refine ⟨_,fun σ'=>aC.func so (cF i hi63 σ'), ?_⟩
    simp [q1]
    refine aj.tl GD (kl c hok _ w bs f (dp b (2 ^ i)) hf (ou hb) nb _ (hnn _)) fun tl=>?_
    simp [← hx,hM,sS]
set_option maxRecDepth 100000
set_option maxHeartbeats 1000000
theorem a7.pure (x:a7):x.v.pure = true:=rfl
theorem qh (r:Int × Nat × Nat):(kY r).pure = true:=by
  unfold kY
  split <;> simp [ab.pure,aM,av (f:=ii') (fun _=>rfl)]
theorem mY {e:Int} (h:e ≠ 0):kY (e,0,0) = .tup [.agg [.slice 1 [], .slice 1 []],ii' e]:=by unfold kY; rw [if_neg h]
theorem tu (c:br) (bs:List Int):lz c bs [] false = b9 c bs:=by
  unfold lz; split
  · rfl
  · rename_i h; simp at h; simp [h]
theorem kr (c:br) (bs:List Int) (xs:List a7) (hl:c.tanks.length ≤ maxLen) (hl2:c.pipes.length ≤ maxLen) (hb:bs.length ≤ maxLen) (σ:af) :
    Spec Tryz.prog EP [c.v, .slice 1 (bs.map ii'), .slice 2 (xs.map a7.v)] σ fun r σ'=>r = .ret (kY (du c bs xs)) ∧ σ' = σ:=by
  refine Spec.ay (R1 (by simp) (dm _ ?_)) (by simp [c.pure,av (f:=ii') (fun _=>rfl) bs,av (f:=a7.v) (fun p=>p.pure) xs]) (qh _) σ
  simp [Ld,br.v,br.cells]
  refine aj.any RH (rD c bs [] false hl hl2 hb (by simp) (by simp) _) ?_
  rintro r σ' (⟨h1,rfl,x,y,tl,rfl⟩ | ⟨h1,rfl,tl,rfl⟩)
  rotate_left
  · refine .inl ⟨_,rfl, ?_⟩
    rw [tu] at h1
    simp [tu,h1]
    unfold du
    rw [if_pos h1,mY h1]
  rw [tu] at h1
  have hok:mB c:=vX (by
    unfold b9 at h1
    split at h1
    · rename_i h; exact absurd h1 h
    · rename_i h; simpa using h)
  refine .inl ⟨_,rfl, ?_⟩
  refine (Nat.lt_or_ge 60 xs.length).elim (fun h60=>?_) (fun h60=>?_)
  · have h60':(60:Int) < xs.length:=by omega
    simp [h60']
    unfold du
    rw [if_neg (by simp [h1]),if_pos h60]
    rfl
  have hM:du c bs xs = jl c bs xs 0 0:=by unfold du; rw [if_neg (by simp [h1]),if_neg (by omega)]
  have h60':¬ (60:Int) < xs.length:=by omega
  simp [h60']
  refine AW.loop (ι:=Nat) (fun i fr σ'=>∃ f b t2,fr = { v:=[(6, .ptr 0 0),(8, .ptr 3 0),(10, .ptr (tl.length + 4) 0),(31, .slice 2 (xs.map a7.v)),(32, .int .i64 xs.length),(33, .int .i64 i)],ds:=[] } ∧
    σ' = .box [.slice 1 [], .slice 1 []] :: x :: y :: .box (fV c (eV c.tanks 0) (oC [] 0) (n9 c bs)) :: (tl ++ .box [uu f,uu b] :: t2) ∧ i ≤ xs.length ∧ f < 128 ∧ b < 128 ∧ jl c bs (xs.drop i) f b = jl c bs xs 0 0) (fun i=>xs.length - i) 0 ⟨0,0,[],by simp,rfl,by omega,by omega,by omega,rfl⟩ ?_
  rintro i fr σ' ⟨f,b,t2,rfl,rfl,hi,hf,hb7,hs⟩
  refine (Nat.lt_or_ge i xs.length).elim (fun hlt=>?_) (fun hge=>?_)
  · have hd:xs.drop i = xs[i] :: xs.drop (i + 1):=List.drop_eq_getElem_cons hlt
    obtain ⟨s,hs'⟩:∃ s,xs[i] = s:=⟨_,rfl⟩
    rw [hd,hs'] at hs
    simp only [jl] at hs
    have hw1:IntKind.i64.wrap ((i:Int) + 1) = ((i + 1:Nat):Int):=by rw [an (by omega) (by omega)]; simp
    have ht7:=hok.tanks
    refine dm _ ?_
    simp [hlt,hs',a7.v,a7.cells]
    refine ⟨_,fun σ'=>aC.func B3 (dT c.tanks.length [s.tank] (by simp [maxLen]) σ'), ?_⟩
    refine (tf (cO c.tanks.length s.tank)).elim (fun h2=>?_) (fun h2=>?_)
    rotate_left
    · rw [if_pos h2] at hs
      simp [h2]
      rw [hM, ← hs]; rfl
    rw [if_neg (by simp [h2])] at hs
    have h2':0 ≤ s.tank ∧ s.tank < c.tanks.length:=by simp [cO] at h2; exact h2
    have hstep:=fun t2=>mU c hok (oC [] 0) bs f b s hf hb7 h2'.1 h2'.2 3 (.box [.slice 1 [], .slice 1 []] :: x :: y :: .box (fV c (eV c.tanks 0) (oC [] 0) (n9 c bs)) :: (tl ++ .box [uu f,uu b] :: t2)) rfl
    have hbd:=fun y=>AA (c:=c) (bs:=bs) (y:=y) hf hb7 (show s.tank.toNat < 7 by omega)
    obtain ⟨o,ho⟩:∃ o,mu c bs f b s = o:=⟨_,rfl⟩
    simp only [ho] at hs hstep hbd
    have hcase:o = none ∨ ∃ f' b',o = some (f',b'):=by rcases o with _ | ⟨f',b'⟩ <;> simp
    simp [h2]
    refine hcase.elim (fun e=>?_) (fun ⟨f',b',e⟩=>?_)
    · simp only [e] at hs hstep
      refine aj.tl Np (hstep _) fun t3=>?_
      simp [sS]
      rw [hM, ← hs]; rfl
    · simp only [e] at hs hstep
      refine aj.tl Np (hstep _) fun t3=>?_
      have:=hbd _ e
      simp [sS]
      exact ⟨i + 1,by omega,hw1,f',b',⟨rfl,rfl⟩,by omega,this.1,this.2,hs⟩
  have hnl2:¬ i < xs.length:=by omega
  have hz:xs.drop i = []:=List.drop_eq_nil_of_le hge
  rw [hz] at hs
  refine dm _ ?_
  simp [hnl2]
  refine ⟨_,fun σ'=>aC.func Kv (iy f hf σ'),_,fun σ'=>aC.func Kv (iy b hb7 σ'), ?_⟩
  simp
  rw [hM, ← hs]
  rfl
set_option maxRecDepth 100000
set_option maxHeartbeats 1000000
def stC (f b:Nat):List ab:=(List.range 7).map (fun j=>.bool (f.testBit j)) ++ (List.range 7).map (fun j=>.bool (b.testBit j))
section
variable (f b:Nat)
@[simp] theorem Pw:(stC f b).length = 14:=rfl
theorem G2 {i:Nat} (hi:i < 7):(stC f b)[i]? = some (.bool (f.testBit i)):=by
  unfold stC; rw [List.getElem?_append_left (by simpa using hi)]; simp [hi]
theorem Cs {i:Nat} (hi:i < 7):(stC f b)[7 + i]? = some (.bool (b.testBit i)):=by
  unfold stC; rw [List.getElem?_append_right (by simp)]; simp [hi]
theorem pA {p q:Nat → Bool} {i:Nat} {v:Bool} (h:∀ j,j < 7 → q j = if j = i then v else p j):((List.range 7).map (fun j=>ab.bool (p j))).set i (.bool v) = (List.range 7).map (fun j=>ab.bool (q j)):=by
  apply List.ext_getElem
  · simp
  · intro n h1 h2
    have hn:n < 7:=by simpa using h2
    rw [List.getElem_set]
    simp [h n hn]
    by_cases e:i = n
    · subst e; simp
    · have:¬ n = i:=fun h=>e h.symm
      simp [e,this]
theorem yw {i:Nat} (hi:i < 7):(stC f b).set i (.bool false) = stC (dp f (2 ^ i)) b:=by
  unfold stC
  rw [List.set_append_left _ _ (by simpa using hi),pA (q:=fun j=>(dp f (2 ^ i)).testBit j)]
  intro j hj
  rw [gh _ _ _ (by omega),Nat.testBit_two_pow]
  by_cases e:j = i
  · simp [e]
  · have:¬ i = j:=fun h=>e h.symm
    simp [e,this]
theorem Eu {i:Nat} (hi:i < 7):(stC f b).set i (.bool true) = stC (f ||| 2 ^ i) b:=by
  unfold stC
  rw [List.set_append_left _ _ (by simpa using hi),pA (q:=fun j=>(f ||| 2 ^ i).testBit j)]
  intro j hj
  rw [Nat.testBit_or,Nat.testBit_two_pow]
  by_cases e:j = i
  · simp [e]
  · have:¬ i = j:=fun h=>e h.symm
    simp [e,this]
theorem Du {i:Nat} (v:Bool):(stC f b).set (7 + i) (.bool v) = stC f (if v then b ||| 2 ^ i else dp b (2 ^ i)):=by
  unfold stC
  rw [List.set_append_right _ _ (by simp)]
  rw [show 7 + i - ((List.range 7).map fun j=>ab.bool (f.testBit j)).length = i by simp,pA (q:=fun j=>(if v then b ||| 2 ^ i else dp b (2 ^ i)).testBit j)]
  intro j hj
  cases v
  · simp only [Bool.false_eq_true,if_false]
    rw [gh _ _ _ (by omega),Nat.testBit_two_pow]
    by_cases e:j = i
    · simp [e]
    · have:¬ i = j:=fun h=>e h.symm
      simp [e,this]
  · simp only [if_true]
    rw [Nat.testBit_or,Nat.testBit_two_pow]
    by_cases e:j = i
    · simp [e]
    · have:¬ i = j:=fun h=>e h.symm
      simp [e,this]
end
@[simp] theorem NA (f b:Nat):List.take 14 (stC f b) = stC f b:=rfl
@[simp] theorem NR (f b:Nat):eB (stC f b) = true:=rfl
abbrev tE:List ab:=[.bool false, .bool false, .bool false, .bool false, .bool false, .bool false, .bool false, .bool false, .bool false, .bool false, .bool false, .bool false, .bool false, .bool false]
@[simp] theorem Ps (f b:Nat):cd tE 0 (stC f b) = stC f b:=rfl
theorem no3 {p q r:Bool} (h:¬ (p = false ∧ q = true ∧ r = false)):p = true ∨ (p = false ∧ q = false) ∨ (p = false ∧ q = true ∧ r = true):=by cases p <;> cases q <;> cases r <;> simp at h ⊢
theorem rY (f b:Nat):aM (stC f b) = true:=rfl
theorem wI {b f x y:Nat} (h:¬ (f.testBit x = false ∧ f.testBit y = true ∧ b.testBit y = false)):jM b f x y = f:=if_neg h
theorem Av {b f x y:Nat} (h:f.testBit x = false ∧ f.testBit y = true ∧ b.testBit y = false):jM b f x y = dp f (2 ^ y):=if_pos h
theorem uz {f y:Nat} (hy:y < 64) (h:f.testBit y = true):dp f (2 ^ y) < f:=by
  have h1:=lR f (2 ^ y)
  rcases Nat.lt_or_ge (dp f (2 ^ y)) f with h2 | h2
  · exact h2
  · have:dp f (2 ^ y) = f:=by omega
    have h3:=gh f (2 ^ y) y hy
    rw [this,h,Nat.testBit_two_pow] at h3
    simp at h3
theorem kq (c:br) (hok:mB c) (bs:List Int) (hbl:bs.length ≤ maxLen) (f b:Nat) (hf:f < 128) (σ:af) :
    Spec Tryz.prog Cj [c.v, .slice 1 (bs.map ii'), .agg (stC f b)] σ fun r σ'=>r = .ret (.agg (stC (bS c.pipes bs b f) b)) ∧ σ' = σ:=by
  refine Spec.ay (Oq (by simp) (dm _ ?_)) (by simp [c.pure,av (f:=ii') (fun _=>rfl) bs,ab.pure,rY]) (by simp [ab.pure,rY]) σ
  simp [FL,br.v,br.cells]
  refine AW.loop (ι:=Nat × Bool) (fun p fr σ'=>fr = { v:=[(1, .slice 1 (bs.map ii')),(3, .pval (.agg [.slice 2 (c.tanks.map aE.v), .slice 3 (c.pipes.map aG.v)])),(5, .ptr 0 0),(6, .ptr 1 0),(7, .bool p.2)],ds:=[] } ∧ σ' = [.box (stC p.1 b), .box tE] ∧
    p.1 < 128 ∧ bS c.pipes bs b p.1 = bS c.pipes bs b f ∧ (p.2 = false → fp bs b c.pipes 0 p.1 = p.1)) (fun p=>2 * p.1 + if p.2 then 1 else 0) (f,true) (by simp [hf]) ?_
  rintro ⟨g,ag⟩ fr σ' ⟨rfl,rfl,hg,hs,hlast⟩
  simp only at hg hs hlast
  refine (tf ag).elim (fun ha=>?_) (fun ha=>?_)
  · have hp:=sG (hlast ha)
    rw [hs] at hp
    refine dm _ ?_
    simp [ha,hp]
  refine dm _ ?_
  simp [ha]
  have hpl:=nG bs b c.pipes 0 g
  refine AW.loop (ι:=Nat) (fun i fr σ'=>∃ g' a',fr = { v:=[(1, .slice 1 (bs.map ii')),(3, .pval (.agg [.slice 2 (c.tanks.map aE.v), .slice 3 (c.pipes.map aG.v)])),(5, .ptr 0 0),(6, .ptr 1 0),(7, .bool a'),(8, .int .i64 i)],ds:=[] } ∧ σ' = [.box (stC g' b), .box tE] ∧
    i ≤ c.pipes.length ∧ fp bs b (c.pipes.drop i) i g' = fp bs b c.pipes 0 g ∧ (a' = true → g' < g) ∧ (a' = false → g' = g)) (fun i=>c.pipes.length - i) 0 ⟨g,false,by simp,rfl,by omega,rfl,by simp,by simp⟩ ?_
  rintro i fr σ' ⟨g',a',rfl,rfl,hi,hpm,ha1,ha2⟩
  have hgg:g' ≤ g:=by cases a'; exact Nat.le_of_eq (ha2 rfl); exact Nat.le_of_lt (ha1 rfl)
  refine (Nat.lt_or_ge i c.pipes.length).elim (fun hlt=>?_) (fun hge=>?_)
  rotate_left
  · have hz:c.pipes.drop i = []:=List.drop_eq_nil_of_le hge
    have hnl:¬ i < c.pipes.length:=by omega
    rw [hz] at hpm
    replace hpm:g' = fp bs b c.pipes 0 g:=hpm
    refine dm _ ?_
    simp [hnl]
    refine ⟨g', ?_⟩
    cases a'
    · refine .inl ⟨by rw [ha2 rfl,ha]; simp,rfl,rfl,by omega,by rw [hpm,lx,hs], ?_⟩
      have:=ha2 rfl
      rw [this] at hpm ⊢
      exact hpm.symm
    · exact .inr ⟨by have:=ha1 rfl; rw [ha]; simp; omega,rfl,rfl,by omega,by rw [hpm,lx,hs]⟩
  have hd:c.pipes.drop i = c.pipes[i] :: c.pipes.drop (i + 1):=List.drop_eq_getElem_cons hlt
  obtain ⟨p,hp⟩:∃ p,c.pipes[i] = p:=⟨_,rfl⟩
  have hends:=hok.ends p (hp ▸ List.getElem_mem _)
  rw [hd,hp] at hpm
  simp only [fp] at hpm
  obtain ⟨pf,pt,pw⟩:=p
  obtain ⟨x,rfl⟩:∃ x:Nat,pf = x:=⟨pf.toNat,by simp at hends; omega⟩
  obtain ⟨y,rfl⟩:∃ y:Nat,pt = y:=⟨pt.toNat,by simp at hends; omega⟩
  simp only [Int.toNat_natCast] at hends hpm
  have ht7:=hok.tanks
  have hp12:=hok.pipes
  have hw1:IntKind.i64.wrap ((i:Int) + 1) = ((i + 1:Nat):Int):=by rw [an (by omega) (by omega)]; simp
  refine dm _ ?_
  simp [hlt]
  obtain ⟨bl,hbl'⟩:∃ bl,bs.contains (i:Int) = bl:=⟨_,rfl⟩
  have hhas:=fun σ=>ff bs (i:Int) hbl σ
  simp only [hbl'] at hhas hpm
  have hx7:(x:Int) < 7:=by omega
  have hy7:(y:Int) < 7:=by omega
  have hx14:x < 14:=by omega
  have hy14:y < 14:=by omega
  have hx21:7 + x < 14:=by omega
  have hy21:7 + y < 14:=by omega
  have fx:=fun f=>G2 f b (i:=x) (by omega)
  have fy:=fun f=>G2 f b (i:=y) (by omega)
  have bx:=fun f=>Cs f b (i:=x) (by omega)
  have by_:=fun f=>Cs f b (i:=y) (by omega)
  have sx:=fun f=>yw f b (i:=x) (by omega)
  have sy:=fun f=>yw f b (i:=y) (by omega)
  refine AW.loop (ι:=Nat) (fun t fr σ'=>∃ g2 a2,fr = { v:=[(1, .slice 1 (bs.map ii')),(3, .pval (.agg [.slice 2 (c.tanks.map aE.v), .slice 3 (c.pipes.map aG.v)])),(5, .ptr 0 0),(6, .ptr 1 0),(7, .bool a2),(8, .int .i64 i),(9, .int .i64 t)],ds:=[] } ∧ σ' = [.box (stC g2 b), .box tE] ∧
    t ≤ 2 ∧ (t = 0 → g2 = g') ∧ (t = 1 → g2 = if bl then g' else jM b g' x y) ∧ (t = 2 → g2 = if bl then g' else jB b g' x y) ∧ (a2 = true → g2 < g) ∧ (a2 = false → g2 = g)) (fun t=>2 - t) 0 ⟨g',a',by simp,rfl,by omega,by simp,by simp,by simp,ha1,ha2⟩ ?_
  rintro t fr σ' ⟨g2,a2,rfl,rfl,ht2,e0,e1,e2,b1,b2⟩
  have hg2:g2 ≤ g:=by cases a2; exact Nat.le_of_eq (b2 rfl); exact Nat.le_of_lt (b1 rfl)
  refine (show t = 2 ∨ t = 0 ∨ t = 1 by omega).elim (fun ht=>?_) fun h=>h.elim (fun ht=>?_) (fun ht=>?_)
  · subst ht
    replace e2:=e2 rfl
    rw [← e2] at hpm
    refine dm _ ?_
    simp
    refine ⟨i + 1,by omega,g2, ?_⟩
    cases a2
    · exact .inl ⟨⟨rfl,hw1⟩,rfl,by omega,hpm,b2 rfl⟩
    · exact .inr ⟨⟨rfl,hw1⟩,rfl,by omega,hpm,b1 rfl⟩
  · subst ht
    replace e0:=e0 rfl
    refine dm _ ?_
    simp [hlt,hp,aG.v,aG.cells]
    refine (tf bl).elim (fun hb0=>?_) (fun hb0=>?_)
    rotate_left
    · have hst:g2 = if bl then g' else jM b g' x y:=by rw [if_pos hb0]; exact e0
      refine aj.aD jc (hhas _) (congrArg ab.bool hb0) ?_
      simp [hlt,hp,aG.v,aG.cells,hx7,hy7,hx14,hy14,hy21,fx,fy,by_]
      refine ⟨1,by omega,g2, ?_⟩
      cases a2
      · exact .inl ⟨⟨rfl,rfl⟩,rfl,by omega,by omega,fun _=>hst,by omega,b2 rfl⟩
      · exact .inr ⟨⟨rfl,rfl⟩,rfl,by omega,by omega,fun _=>hst,by omega,b1 rfl⟩
    have hval:(if bl then g' else jM b g' x y) = jM b g2 x y:=by rw [if_neg (by simp [hb0]),e0]
    refine (Classical.em (g2.testBit x = false ∧ g2.testBit y = true ∧ b.testBit y = false)).elim (fun hc=>?_) (fun hc=>?_)
    · have hst:=(Av hc).symm.trans hval.symm
      have hls:=uz (by omega) hc.2.1
      refine aj.aD jc (hhas _) (congrArg ab.bool hb0) ?_
      simp [hlt,hp,aG.v,aG.cells,hx7,hy7,hx14,hy14,hy21,fx,fy,by_,sy,hc.1,hc.2.1,hc.2.2]
      exact ⟨by omega,1,by omega,rfl,dp g2 (2 ^ y),rfl,by omega,by omega,fun _=>hst,by omega,by omega⟩
    have hst:=(wI hc).symm.trans hval.symm
    refine (no3 hc).elim (fun hc=>?_) fun h=>h.elim (fun hc=>?_) (fun hc=>?_)
    · refine aj.aD jc (hhas _) (congrArg ab.bool hb0) ?_
      simp [hlt,hp,aG.v,aG.cells,hx7,hy7,hx14,hy14,hy21,fx,fy,by_,hc]
      refine ⟨1,by omega,g2, ?_⟩
      cases a2
      · exact .inl ⟨⟨rfl,rfl⟩,rfl,by omega,by omega,fun _=>hst,by omega,b2 rfl⟩
      · exact .inr ⟨⟨rfl,rfl⟩,rfl,by omega,by omega,fun _=>hst,by omega,b1 rfl⟩
    · refine aj.aD jc (hhas _) (congrArg ab.bool hb0) ?_
      simp [hlt,hp,aG.v,aG.cells,hx7,hy7,hx14,hy14,hy21,fx,fy,by_,hc.1,hc.2]
      refine ⟨1,by omega,g2, ?_⟩
      cases a2
      · exact .inl ⟨⟨rfl,rfl⟩,rfl,by omega,by omega,fun _=>hst,by omega,b2 rfl⟩
      · exact .inr ⟨⟨rfl,rfl⟩,rfl,by omega,by omega,fun _=>hst,by omega,b1 rfl⟩
    · refine aj.aD jc (hhas _) (congrArg ab.bool hb0) ?_
      simp [hlt,hp,aG.v,aG.cells,hx7,hy7,hx14,hy14,hy21,fx,fy,by_,hc.1,hc.2.1,hc.2.2]
      refine ⟨1,by omega,g2, ?_⟩
      cases a2
      · exact .inl ⟨⟨rfl,rfl⟩,rfl,by omega,by omega,fun _=>hst,by omega,b2 rfl⟩
      · exact .inr ⟨⟨rfl,rfl⟩,rfl,by omega,by omega,fun _=>hst,by omega,b1 rfl⟩
  · subst ht
    refine dm _ ?_
    simp [hlt,hp,aG.v,aG.cells]
    refine (tf bl).elim (fun hb0=>?_) (fun hb0=>?_)
    rotate_left
    · have hst:g2 = if bl then g' else jB b g' x y:=by rw [if_pos hb0]; exact (e1 rfl).trans (if_pos hb0)
      refine aj.aD jc (hhas _) (congrArg ab.bool hb0) ?_
      simp [hlt,hp,aG.v,aG.cells,hx7,hy7,hx14,hy14,hx21,fx,fy,bx]
      refine ⟨2,by omega,g2, ?_⟩
      cases a2
      · exact .inl ⟨⟨rfl,rfl⟩,rfl,by omega,by omega,by omega,fun _=>hst,b2 rfl⟩
      · exact .inr ⟨⟨rfl,rfl⟩,rfl,by omega,by omega,by omega,fun _=>hst,b1 rfl⟩
    have hval:(if bl then g' else jB b g' x y) = jM b g2 y x:=by rw [if_neg (by simp [hb0])]; rw [e1 rfl,if_neg (by simp [hb0])]; exact (BT (by omega) (by omega) (by omega)).symm
    refine (Classical.em (g2.testBit y = false ∧ g2.testBit x = true ∧ b.testBit x = false)).elim (fun hc=>?_) (fun hc=>?_)
    · have hst:=(Av hc).symm.trans hval.symm
      have hls:=uz (by omega) hc.2.1
      refine aj.aD jc (hhas _) (congrArg ab.bool hb0) ?_
      simp [hlt,hp,aG.v,aG.cells,hx7,hy7,hx14,hy14,hx21,fx,fy,bx,sx,hc.1,hc.2.1,hc.2.2]
      exact ⟨by omega,2,by omega,rfl,dp g2 (2 ^ x),rfl,by omega,by omega,by omega,fun _=>hst,by omega⟩
    have hst:=(wI hc).symm.trans hval.symm
    refine (no3 hc).elim (fun hc=>?_) fun h=>h.elim (fun hc=>?_) (fun hc=>?_)
    · refine aj.aD jc (hhas _) (congrArg ab.bool hb0) ?_
      simp [hlt,hp,aG.v,aG.cells,hx7,hy7,hx14,hy14,hx21,fx,fy,bx,hc]
      refine ⟨2,by omega,g2, ?_⟩
      cases a2
      · exact .inl ⟨⟨rfl,rfl⟩,rfl,by omega,by omega,by omega,fun _=>hst,b2 rfl⟩
      · exact .inr ⟨⟨rfl,rfl⟩,rfl,by omega,by omega,by omega,fun _=>hst,b1 rfl⟩
    · refine aj.aD jc (hhas _) (congrArg ab.bool hb0) ?_
      simp [hlt,hp,aG.v,aG.cells,hx7,hy7,hx14,hy14,hx21,fx,fy,bx,hc.1,hc.2]
      refine ⟨2,by omega,g2, ?_⟩
      cases a2
      · exact .inl ⟨⟨rfl,rfl⟩,rfl,by omega,by omega,by omega,fun _=>hst,b2 rfl⟩
      · exact .inr ⟨⟨rfl,rfl⟩,rfl,by omega,by omega,by omega,fun _=>hst,b1 rfl⟩
    · refine aj.aD jc (hhas _) (congrArg ab.bool hb0) ?_
      simp [hlt,hp,aG.v,aG.cells,hx7,hy7,hx14,hy14,hx21,fx,fy,bx,hc.1,hc.2.1,hc.2.2]
      refine ⟨2,by omega,g2, ?_⟩
      cases a2
      · exact .inl ⟨⟨rfl,rfl⟩,rfl,by omega,by omega,by omega,fun _=>hst,b2 rfl⟩
      · exact .inr ⟨⟨rfl,rfl⟩,rfl,by omega,by omega,by omega,fun _=>hst,b1 rfl⟩
end Go.AM
