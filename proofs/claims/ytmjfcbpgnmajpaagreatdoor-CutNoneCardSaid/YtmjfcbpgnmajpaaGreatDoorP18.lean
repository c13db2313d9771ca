/- What is free after steps: of the document; both say the same. What is free after steps: of the document; it is what the program says. Forces and Bears: of the program and of the document; both say .. -/
import Derived.Test.YtmjfcbpgnmajpaaGreatDoorP17
import Derived.Test.YtmjfcbpgnmajpaaGreatDoorP15
import Derived.Test.YtmjfcbpgnmajpaaGreatDoorP16
namespace Go.AM
open Go.Proofs
set_option maxRecDepth 100000
set_option maxHeartbeats 1000000
def qo (f b:Nat):Option (Nat × Nat) → ab
  | none=>.tup [.agg (stC f b), .bool false]
  | some (f',b')=>.tup [.agg (stC f' b'), .bool true]
theorem yJ (f b:Nat) (o:Option (Nat × Nat)):(qo f b o).pure = true:=by
  rcases o with _ | ⟨f',b'⟩ <;> rfl
theorem ph (c:br) (hok:mB c) (bs:List Int) (hbl:bs.length ≤ maxLen) (f b:Nat) (x:a7) (hf:f < 128) (h0:0 ≤ x.tank) (h1:x.tank < c.tanks.length) (σ:af) :
    Spec Tryz.prog Dx [c.v, .slice 1 (bs.map ii'), .agg (stC f b),x.v] σ fun r σ'=>r = .ret (qo f b (mu c bs f b x)) ∧ σ' = σ:=by
  refine Spec.ay (Oz (by simp) (dm _ ?_)) (by simp [c.pure,av (f:=ii') (fun _=>rfl) bs,ab.pure,rY,x.pure]) (yJ _ _ _) σ
  obtain ⟨xt,xo⟩:=x
  simp only at h0 h1
  obtain ⟨i,rfl⟩:∃ i:Nat,xt = i:=⟨xt.toNat,by omega⟩
  have ht7:=hok.tanks
  have hit:i < c.tanks.length:=by omega
  have hi7:(i:Int) < 7:=by omega
  have hi14:i < 14:=by omega
  have hi21:7 + i < 14:=by omega
  obtain ⟨t,ht⟩:∃ t,c.tanks[i] = t:=⟨_,rfl⟩
  have bx:=fun f=>Cs f b (i:=i) (by omega)
  have hM:mu c bs f b ⟨i,xo⟩ = if t.kept = true ∨ b.testBit i ≠ xo then none
    else if xo then some (bS c.pipes bs (dp b (2 ^ i)) f,dp b (2 ^ i)) else some (bS c.pipes bs (b ||| 2 ^ i) (f ||| 2 ^ i),b ||| 2 ^ i):=by
    simp [mu,hit,ht]
  refine (tf t.kept).elim (fun hkp=>?_) (fun hkp=>?_)
  rotate_left
  · rw [if_pos (.inl hkp)] at hM
    simp [xW,br.v,br.cells,a7.v,a7.cells,aE.v,aE.cells,hit,ht,hkp,hi7,hi21,bx,hM,qo]
  refine (Classical.em (b.testBit i = xo)).elim (fun hbx=>?_) (fun hbx=>?_)
  rotate_left
  · rw [if_pos (.inr hbx)] at hM
    simp [xW,br.v,br.cells,a7.v,a7.cells,aE.v,aE.cells,hit,ht,hkp,hi7,hi21,bx,hM,qo,hbx]
  rw [if_neg (by simp [hkp,hbx])] at hM
  have sb:=fun v=>Du f b (i:=i) v
  refine (tf xo).elim (fun hx=>?_) (fun hx=>?_)
  · rw [if_neg (by simp [hx])] at hM
    have s1:=fun b=>Eu f b (i:=i) (by omega)
    have hsp:=kq c hok bs hbl (f ||| 2 ^ i) (b ||| 2 ^ i) (oD (n:=7) hf (dy (by omega)))
    simp [xW,br.v,br.cells,a7.v,a7.cells,aE.v,aE.cells,hit,ht,hkp,hi7,hi21,bx,qo,hbx,hx,sb,s1]
    refine ⟨by omega,by omega,aj.pure Hj (hsp _) ?_⟩
    rw [hx] at hM
    simp [hM]
  · rw [if_pos hx] at hM
    have hsp:=kq c hok bs hbl f (dp b (2 ^ i)) hf
    simp [xW,br.v,br.cells,a7.v,a7.cells,aE.v,aE.cells,hit,ht,hkp,hi7,hi21,bx,qo,hbx,hx,sb]
    refine ⟨by omega,aj.pure Hj (hsp _) ?_⟩
    rw [hx] at hM
    simp [hM]
theorem mA (n:Nat) (p:Nat → Bool) (hp:∀ i,i < 7 → p i = n.testBit i) (σ:af):Spec Tryz.prog CI [.agg ((List.range 7).map fun j=>.bool (p j))] σ fun r σ'=>r = .ret (.slice 1 ((mz n).map ii')) ∧ σ' = σ:=by
  have hpu:aM ((List.range 7).map fun j=>ab.bool (p j)) = true:=rfl
  refine Spec.ay (LH (by simp) (dm _ ?_)) (by simp [ab.pure,hpu]) (by simp [ab.pure,av (f:=ii') (fun _=>rfl)]) σ
  obtain ⟨l,hl⟩:∃ l,(List.range 7).map (fun j=>ab.bool (p j)) = l:=⟨_,rfl⟩
  have hlen:l.length = 7:=by rw [← hl]; rfl
  have hget:∀ i,i < 7 → l[i]? = some (.bool (n.testBit i)):=fun i hi=>by rw [← hl]; simp [hi,hp i hi]
  rw [hl]
  simp [GA,hlen]
  refine AW.loop (ι:=Nat) (fun i fr σ=>fr = { v:=[(1, .pval (.agg l)),(3, .oslice 1 ((jH n i).map ii') 0 (jH n i).length),(4, .int .i64 i)],ds:=[] } ∧ σ = [.spare 1 (jH n i).length] ∧ i ≤ 7) (fun i=>7 - i) 0 (by simp [jH]) ?_
  rintro i fr σ ⟨rfl,rfl,hi⟩
  refine (Nat.lt_or_ge i 7).elim (fun hlt=>?_) (fun hge=>?_)
  · have hw:IntKind.i64.wrap ((i:Int) + 1) = ((i + 1:Nat):Int):=by rw [an (by omega) (by omega)]; simp
    have hsu:=su n i
    have hblen:=uj n i
    have hfit:Fits 1 [ii' (i:Int)]:=by intro v hv; simp at hv; subst hv; exact ⟨⟨rfl,rfl⟩,rfl⟩
    have hi7:(i:Int) < 7:=by omega
    have hg:l[i]'(by omega) = .bool (n.testBit i):=Option.some.inj ((List.getElem?_eq_getElem (by omega)).symm.trans (hget i hlt))
    refine dm _ ?_
    refine (tf (n.testBit i)).elim (fun hb=>?_) (fun hb=>?_)
    · rw [hb] at hsu hg
      simp at hsu
      simp [hi7,hlt,hlen,hg,hw]
      exact ⟨i + 1,by omega,by simp [hsu],by simp [hsu],by omega⟩
    · rw [hb] at hsu hg
      simp at hsu
      simp [hi7,hlt,hlen,hg,hw,hfit]
      exact ⟨by omega,i + 1,by omega,by simp [hsu],by simp [hsu],by omega⟩
  · have h7:i = 7:=by omega
    subst h7
    refine dm _ ?_
    simp
    rfl
set_option maxRecDepth 100000
set_option maxHeartbeats 1000000
theorem Hv (f b:Nat):List.take 7 (stC f b) = (List.range 7).map fun j=>.bool (f.testBit j):=rfl
theorem It (f b:Nat):List.take 7 (List.drop 7 (stC f b)) = (List.range 7).map fun j=>.bool (b.testBit j):=rfl
theorem BK (n:Nat):aM ((List.range 7).map fun j=>ab.bool (n.testBit j)) = true:=rfl
theorem Bw:tE = stC 0 0:=rfl
theorem ld (c:br) (bs:List Int) (xs:List a7) (hl:c.tanks.length ≤ maxLen) (hl2:c.pipes.length ≤ maxLen) (hb:bs.length ≤ maxLen) (hx:xs.length ≤ maxLen) (σ:af) :
    Spec Tryz.prog Fl [c.v, .slice 1 (bs.map ii'), .slice 2 (xs.map a7.v)] σ fun r σ'=>r = .ret (kY (du c bs xs)) ∧ σ' = σ:=by
  refine Spec.ay (Qz (by simp) (dm _ ?_)) (by simp [c.pure,av (f:=ii') (fun _=>rfl) bs,av (f:=a7.v) (fun p=>p.pure) xs]) (qh _) σ
  have hok:b9 c bs = 0 → mB c:=fun h1=>vX (by
    unfold b9 at h1
    split at h1
    · rename_i h; exact absurd h1 h
    · rename_i h; simpa using h)
  obtain ⟨e0,he0⟩:∃ e,b9 c bs = e:=⟨_,rfl⟩
  have hbo:=fun σ=>nE c bs hl hl2 hb σ
  rw [he0] at hok
  simp only [he0] at hbo
  simp [K3,br.v,br.cells]
  refine aj.pure K6 (hbo _) ?_
  simp
  refine ⟨fun h1 h2=>?_,fun h=>?_⟩
  case' refine_1=>
    have hA:du c bs xs = if (3:Int) ≠ 0 then (3,0,0) else jl c bs xs 0 0:=by
      unfold du; rw [if_neg (by simp [he0,h1]),if_pos (by omega)]; rfl
    have hA2:(3:Int) = 0 → mB c:=fun h=>by omega
  case' refine_2=>
    have hA:du c bs xs = if e0 ≠ 0 then (e0,0,0) else jl c bs xs 0 0:=by
      unfold du; rw [he0]
      split
      · rfl
      · rename_i h0; rw [if_neg (by simp at h0; have:=h h0; omega)]
    have hA2:=hok
  all_goals
    refine AW.loop (ι:=Nat) (fun i fr σ'=>∃ e f b tl,fr = { v:=[(1, .slice 1 (bs.map ii')),(2, .slice 2 (xs.map a7.v)),(3, .pval (.agg [.slice 2 (c.tanks.map aE.v), .slice 3 (c.pipes.map aG.v)])),(6, .ptr 0 0),(8,ii' e),(9, .ptr 1 0),(10, .int .i64 i)],ds:=[] } ∧
      σ' = .box [.slice 1 [], .slice 1 []] :: .box (stC f b) :: tl ∧ i ≤ xs.length ∧ f < 128 ∧ b < 128 ∧ du c bs xs = (if e ≠ 0 then (e,0,0) else jl c bs (xs.drop i) f b) ∧ (e = 0 → mB c)) (fun i=>xs.length - i) 0 ⟨_,0,0,[],by simp,by rw [← Bw],by omega,by omega,by omega,hA,hA2⟩ ?_
    rintro i fr σ' ⟨e,f,b,tl,rfl,rfl,hi,hf,hb7,hs,hok'⟩
    refine (Classical.em (e = 0)).elim (fun he=>?_) (fun he=>?_)
    rotate_left
    · rw [if_pos he] at hs
      refine dm _ ?_
      refine (Nat.lt_or_ge i xs.length).elim (fun hlt=>?_) (fun hge=>?_)
      · simp [he,hlt]
        rw [hs,mY he]
      · have hnl:¬ i < xs.length:=by omega
        simp [he,hnl]
        rw [hs,mY he]
    rw [if_neg (by simp [he])] at hs
    replace hok':=hok' he
    refine (Nat.lt_or_ge i xs.length).elim (fun hlt=>?_) (fun hge=>?_)
    rotate_left
    · have hnl:¬ i < xs.length:=by omega
      have hz:xs.drop i = []:=List.drop_eq_nil_of_le hge
      rw [hz] at hs
      refine dm _ ?_
      simp [he,hnl,Hv,It]
      refine ⟨_,fun σ' _=>aC.func Hl (mA f _ (fun _ _=>rfl) σ'),_,fun σ' _=>aC.func Hl (mA b _ (fun _ _=>rfl) σ'), ?_⟩
      simp [BK]
      rw [hs]
      rfl
    have hd:xs.drop i = xs[i] :: xs.drop (i + 1):=List.drop_eq_getElem_cons hlt
    obtain ⟨s,hs'⟩:∃ s,xs[i] = s:=⟨_,rfl⟩
    rw [hd,hs'] at hs
    simp only [jl] at hs
    have hw1:IntKind.i64.wrap ((i:Int) + 1) = ((i + 1:Nat):Int):=by rw [an (by omega) (by simp only [maxLen] at hx; omega)]; simp
    have ht7:=hok'.tanks
    refine dm _ ?_
    simp [he,hlt,hs',a7.v,a7.cells]
    refine ⟨_,fun σ'=>aC.func uX (eO s.tank c.tanks.length σ'), ?_⟩
    refine (tf (cO c.tanks.length s.tank)).elim (fun h2=>?_) (fun h2=>?_)
    rotate_left
    · rw [if_pos h2] at hs
      have h3:(decide (0 ≤ s.tank) && decide (s.tank < (c.tanks.length:Int))) = false:=by simp [cO] at h2; simp; omega
      simp [h3]
      exact ⟨i + 1,by omega,4,⟨rfl,hw1⟩,f,b,rfl,by omega,hf,hb7,by rw [hs]; rfl,fun h=>by omega⟩
    rw [if_neg (by simp [h2])] at hs
    have h2':0 ≤ s.tank ∧ s.tank < c.tanks.length:=by simp [cO] at h2; exact h2
    have h3:(decide (0 ≤ s.tank) && decide (s.tank < (c.tanks.length:Int))) = true:=by simp [h2']
    have hstep:=fun σ=>ph c hok' bs hb f b s hf h2'.1 h2'.2 σ
    have hbd:=fun y=>AA (c:=c) (bs:=bs) (y:=y) hf hb7 (show s.tank.toNat < 7 by omega)
    obtain ⟨o,ho⟩:∃ o,mu c bs f b s = o:=⟨_,rfl⟩
    simp only [ho] at hs hstep hbd
    have hcase:o = none ∨ ∃ f' b',o = some (f',b'):=by rcases o with _ | ⟨f',b'⟩ <;> simp
    simp [h3]
    refine hcase.elim (fun e'=>?_) (fun ⟨f',b',e'⟩=>?_)
    · simp only [e'] at hs hstep
      refine ⟨_,fun σ' _=>aC.func Gj (hstep σ'), ?_⟩
      simp [qo]
      exact ⟨i + 1,by omega,2,⟨rfl,hw1⟩,f,b,rfl,by omega,hf,hb7,by rw [hs]; rfl,fun h=>by omega⟩
    · simp only [e'] at hs hstep
      have:=hbd _ e'
      refine ⟨_,fun σ' _=>aC.func Gj (hstep σ'), ?_⟩
      simp [qo]
      exact ⟨i + 1,by omega,0,⟨rfl,hw1⟩,f',b',rfl,by omega,this.1,this.2,by rw [hs]; rfl,fun _=>hok'⟩
set_option maxRecDepth 100000
set_option maxHeartbeats 1000000
def kB (a b c:Int):Int:=if a ≤ 0 then 1 else if b < 0 then 2 else if c < 0 then 3 else 0
theorem eY (a b c:Int) (σ:af):Spec Tryz.prog Cq [.agg [ii' a,ii' b,ii' c]] σ fun r σ'=>r = .ret (ii' (kB a b c)) ∧ σ' = σ:=by
  refine Spec.ay (Lz (by simp) (dm _ ?_)) rfl rfl σ
  refine (Classical.em (a ≤ 0)).elim (fun h1=>?_) (fun h1=>?_)
  · simp [xP,h1,kB]
  refine (Classical.em (b < 0)).elim (fun h2=>?_) (fun h2=>?_)
  · simp [xP,h1,h2,kB]
  refine (Classical.em (c < 0)).elim (fun h3=>?_) (fun h3=>?_)
  · simp [xP,h1,h2,h3,kB]
  · simp [xP,h1,h2,h3,kB]
theorem ky (a b c:Int) (σ:af):Spec Tryz.prog Iq [.agg [ii' a,ii' b,ii' c]] σ fun r σ'=>r = .ret (ii' (kB a b c)) ∧ σ' = σ:=by
  refine Spec.ay (Rp (by simp) (dm _ ?_)) rfl rfl σ
  refine (Classical.em (a ≤ 0)).elim (fun h1=>?_) (fun h1=>?_)
  · simp [B1,h1,kB]
  refine (Classical.em (b < 0)).elim (fun h2=>?_) (fun h2=>?_)
  · simp [B1,h1,h2,kB]
  refine (Classical.em (c < 0)).elim (fun h3=>?_) (fun h3=>?_)
  · simp [B1,h1,h2,h3,kB]
  · simp [B1,h1,h2,h3,kB]
/-! ### Both say the same -/
set_option maxRecDepth 100000
set_option maxHeartbeats 1000000
def jU (h:aB) (j:Nat) (p:aq):Int:=if j = 0 then 1 else if j = 1 then p.at_ - h.aft else h.fore - p.at_
def ovZ (w keel:Int):Int:=if 0 < w - keel then w - keel else 0
def kP (h:aB) (w:Int) (j:Nat) (p:aq):Int:=
  if jU h j p < 0 then jU h j p * (p.wHi - p.lLo * ovZ w p.keel) else jU h j p * (p.wLo - p.lHi * ovZ w p.keel)
def pc (f:aq → Nat → Int):Nat → List aq → Int
  | _,[]=>0
  | k,p :: r=>f p k + pc f (k + 1) r
def jg (h:aB) (w:Int) (j:Nat):Int:=pc (fun p _=>kP h w j p) 0 h.ps
structure ym (p:aq):Prop where
  at_:0 ≤ p.at_ ∧ p.at_ ≤ 5000
  keel:0 ≤ p.keel ∧ p.keel ≤ 1000
  w:0 ≤ p.wLo ∧ p.wLo ≤ p.wHi ∧ p.wHi ≤ 3000000
  l:0 ≤ p.lLo ∧ p.lLo ≤ p.lHi ∧ p.lHi ≤ 5000
structure nf (h:aB):Prop where
  len:1 ≤ h.ps.length ∧ h.ps.length ≤ 10
  aft:0 ≤ h.aft
  lt:h.aft < h.fore
  fore:h.fore ≤ 5000
  part:∀ p ∈ h.ps,ym p
theorem zk {p:aq} (h:fo p = 0):ym p:=by
  unfold fo at h
  split at h
  · cases h
  · rename_i hn
    split at h
    · cases h
    · rename_i hn2
      simp [aW,gA] at hn hn2
      exact ⟨by omega,by omega,by omega,by omega⟩
theorem rn {h:aB} (he:eF h = 0):nf h:=by
  unfold eF dk at he
  split at he
  · cases he
  · rename_i h1
    split at he
    · cases he
    · rename_i h2
      split at he
      · cases he
      · rename_i h3
        simp [aW,gA] at h1 h2
        exact ⟨by omega,by omega,by omega,by omega,fun p hp=>zk (xB _ _ _ he p hp)⟩
theorem Dp {w k:Int} (hw:w ≤ 1000) (hk:0 ≤ k):0 ≤ ovZ w k ∧ ovZ w k ≤ 1000:=by
  unfold ovZ; split <;> omega
theorem zT {a b A B:Int} (h1:-A ≤ a) (h2:a ≤ A) (h3:-B ≤ b) (h4:b ≤ B):-(A * B) ≤ a * b ∧ a * b ≤ A * B:=by
  have hA:0 ≤ A:=by omega
  have hB:0 ≤ B:=by omega
  have key:a.natAbs * b.natAbs ≤ A.natAbs * B.natAbs:=Nat.mul_le_mul (by omega) (by omega)
  have e1:((a * b).natAbs:Int) ≤ A * B:=by
    rw [Int.natAbs_mul]
    have:((a.natAbs * b.natAbs:Nat):Int) ≤ ((A.natAbs * B.natAbs:Nat):Int):=by exact_mod_cast key
    refine Int.le_trans this ?_
    rw [Int.natCast_mul,Int.natAbs_of_nonneg hA,Int.natAbs_of_nonneg hB]
    exact Int.le_refl _
  omega
theorem nq {t:aq → Nat → Int} {f:aq → Nat → Int}:∀ (l:List aq) (acc:Int) (k:Nat) (A:Int),(∀ i (hi:i < l.length),t l[i] (k + i) = f l[i] (k + i) ∧ -400000000000 ≤ f l[i] (k + i) ∧ f l[i] (k + i) ≤ 400000000000) →
    -A ≤ acc → acc ≤ A → A + 400000000000 * (l.length:Int) ≤ 9000000000000000000 → iO t acc k l = acc + pc f k l
  | [],acc,k,A,_,_,_,_=>by simp [iO,pc]
  | p :: r,acc,k,A,h,h1,h2,h3=>by
    have h0:=h 0 (by simp)
    simp at h0
    simp only [iO,pc]
    have hl:((p :: r).length:Int) = (r.length:Int) + 1:=by simp
    rw [hl] at h3
    have hw:wr (acc + t p k) = acc + f p k:=by rw [h0.1]; exact an (by omega) (by omega)
    rw [hw,nq r (acc + f p k) (k + 1) (A + 400000000000) (fun i hi=>by
      have:=h (i + 1) (by simpa using hi)
      simpa [Nat.add_assoc,Nat.add_comm 1] using this) (by omega) (by omega) (by omega)]
    omega
theorem zX {h:aB} (hf:nf h) {p:aq} (hp:ym p) (j:Nat):l6 h j p = jU h j p ∧ -5000 ≤ jU h j p ∧ jU h j p ≤ 5000:=by
  have a:=hp.at_; have b:=hf.aft; have c:=hf.lt; have d:=hf.fore
  unfold l6 jU
  by_cases h0:j = 0
  · simp [h0]
  · by_cases h1:j = 1
    · simp only [h1]
      exact ⟨an (by omega) (by omega),by simp; omega⟩
    · simp only [h0,h1,if_false]
      exact ⟨an (by omega) (by omega),by omega⟩
theorem AH {w k:Int} (h0:0 ≤ w) (hw:w ≤ 1000) (hk:0 ≤ k ∧ k ≤ 1000):nK w k = ovZ w k:=by
  unfold nK ovZ
  have:wr (w - k) = w - k:=an (by omega) (by omega)
  rw [this]
theorem vp {a b o:Int} (ha:0 ≤ a ∧ a ≤ 3000000) (hb:0 ≤ b ∧ b ≤ 5000) (ho:0 ≤ o ∧ o ≤ 1000):wr (a - wr (b * o)) = a - b * o ∧ -8000000 ≤ a - b * o ∧ a - b * o ≤ 8000000:=by
  have m:=zT (a:=b) (b:=o) (A:=5000) (B:=1000) (by omega) (by omega) (by omega) (by omega)
  have w1:wr (b * o) = b * o:=an (by omega) (by omega)
  rw [w1]
  exact ⟨an (by omega) (by omega),by omega,by omega⟩
theorem Ey {h:aB} (hf:nf h) {p:aq} (hp:ym p) {w:Int} (h0:0 ≤ w) (hw:w ≤ 1000) (j k:Nat):eg h w j p k = kP h w j p ∧ -400000000000 ≤ kP h w j p ∧ kP h w j p ≤ 400000000000:=by
  obtain ⟨e1,e2,e3⟩:=zX hf hp j
  unfold eg kP kK mP
  rw [AH h0 hw hp.keel,e1]
  have ho:=Dp hw hp.keel.1
  have q1:=vp (a:=p.wHi) (b:=p.lLo) (o:=ovZ w p.keel) (by have:=hp.w; omega) (by have:=hp.l; omega) ho
  have q2:=vp (a:=p.wLo) (b:=p.lHi) (o:=ovZ w p.keel) (by have:=hp.w; omega) (by have:=hp.l; omega) ho
  rw [q1.1,q2.1]
  by_cases hn:jU h j p < 0
  · simp only [hn,if_true]
    have m:=zT (A:=5000) (B:=8000000) e2 e3 q1.2.1 q1.2.2
    exact ⟨an (by omega) (by omega),by omega,by omega⟩
  · simp only [hn,if_false]
    have m:=zT (A:=5000) (B:=8000000) e2 e3 q2.2.1 q2.2.2
    exact ⟨an (by omega) (by omega),by omega,by omega⟩
theorem tA {h:aB} (hf:nf h) {w:Int} (h0:0 ≤ w) (hw:w ≤ 1000) (j:Nat):bu h w j = jg h w j:=by
  unfold bu jg
  have:=nq (t:=eg h w j) (f:=fun p _=>kP h w j p) h.ps 0 0 0 (fun i hi=>Ey hf (hf.part _ (List.getElem_mem hi)) h0 hw j _) (by decide) (by decide) (by have:=hf.len; omega)
  rw [this]; omega
structure mK (h:aB) (t:bh):Prop where
  lw:t.ws.length = h.ps.length
  ll:t.ls.length = h.ps.length
  w:∀ i (hi:i < h.ps.length),h.ps[i].wLo ≤ t.ws[i]'(by omega) ∧ t.ws[i]'(by omega) ≤ h.ps[i].wHi
  l:∀ i (hi:i < h.ps.length),h.ps[i].lLo ≤ t.ls[i]'(by omega) ∧ t.ls[i]'(by omega) ≤ h.ps[i].lHi
/-! ### Evenly -/
theorem qd {f:Int → aq → Nat → Int} {lo hi:Int}:∀ (l:List aq) (k:Nat),(∀ i (hi':i < l.length), ∃ α β, ∀ w,lo ≤ w → w ≤ hi → f w l[i] (k + i) = α + β * w) → ∃ α β, ∀ w,lo ≤ w → w ≤ hi → pc (f w) k l = α + β * w
  | [],k,_=>⟨0,0,fun w _ _=>by simp [pc]⟩
  | p :: r,k,h=>by
    obtain ⟨a,b,h0⟩:=h 0 (by simp)
    simp at h0
    obtain ⟨c,d,h1⟩:=qd (f:=f) (lo:=lo) (hi:=hi) r (k + 1) fun i hi'=>by
      have:=h (i + 1) (by simpa using hi')
      simpa [Nat.add_assoc,Nat.add_comm 1] using this
    refine ⟨a + c,b + d,fun w g1 g2=>?_⟩
    simp only [pc]
    rw [h0 w g1 g2,h1 w g1 g2,Int.add_mul]
    omega
def C5 (h:aB) (lo hi:Int):Prop:=∀ p ∈ h.ps,p.keel ≤ lo ∨ hi ≤ p.keel
theorem yN {lo hi k:Int} (h:k ≤ lo ∨ hi ≤ k):∃ α β, ∀ w,lo ≤ w → w ≤ hi → ovZ w k = α + β * w:=by
  rcases h with h | h
  · refine ⟨-k,1,fun w _ _=>?_⟩
    unfold ovZ; split <;> omega
  · refine ⟨0,0,fun w _ _=>?_⟩
    unfold ovZ; split <;> omega
theorem tU {h:aB} {lo hi:Int} (he:C5 h lo hi) (j:Nat):∃ α β, ∀ w,lo ≤ w → w ≤ hi → jg h w j = α + β * w:=by
  refine qd (f:=fun w p _=>kP h w j p) h.ps 0 fun i hi'=>?_
  obtain ⟨α, β,ho⟩:=yN (he _ (List.getElem_mem hi'))
  generalize h.ps[i] = p at *
  by_cases hn:jU h j p < 0
  · refine ⟨jU h j p * (p.wHi - p.lLo * α), -(jU h j p * (p.lLo * β)),fun w g1 g2=>?_⟩
    unfold kP
    rw [if_pos hn,ho w g1 g2]
    simp only [Int.mul_sub,Int.mul_add,Int.neg_mul,Int.mul_assoc]
    omega
  · refine ⟨jU h j p * (p.wLo - p.lHi * α), -(jU h j p * (p.lHi * β)),fun w g1 g2=>?_⟩
    unfold kP
    rw [if_neg hn,ho w g1 g2]
    simp only [Int.mul_sub,Int.mul_add,Int.neg_mul,Int.mul_assoc]
    omega
theorem iz {h:aB} {lo hi:Int} (he:C5 h lo hi) (j:Nat) {T a b c:Int} (h1:lo ≤ a) (h2:a ≤ b) (h3:b ≤ c) (h4:c ≤ hi) (ha:T ≤ jg h a j) (hc:T ≤ jg h c j):T ≤ jg h b j:=by
  obtain ⟨α, β,hz⟩:=tU he j
  rw [hz a h1 (by omega)] at ha
  rw [hz c (by omega) h4] at hc
  rw [hz b (by omega) (by omega)]
  rcases Int.le_total 0 β with hb | hb
  · have:=Int.mul_le_mul_of_nonneg_left h2 hb
    omega
  · have:=Int.mul_le_mul_of_nonpos_left hb h3
    omega
def eU (h:aB) (w:Int):Int:=kB (jg h w 0) (jg h w 1) (jg h w 2)
theorem pW {a b c:Int}:kB a b c = 0 ↔ 1 ≤ a ∧ 0 ≤ b ∧ 0 ≤ c:=by
  unfold kB
  split
  · simp; omega
  · split
    · simp; omega
    · split
      · simp; omega
      · simp; omega
theorem qw {h:aB} {lo hi:Int} (he:C5 h lo hi) {a b c:Int} (h1:lo ≤ a) (h2:a ≤ b) (h3:b ≤ c) (h4:c ≤ hi) (ha:eU h a = 0) (hc:eU h c = 0):eU h b = 0:=by
  unfold eU at *
  rw [pW] at *
  exact ⟨iz he 0 h1 h2 h3 h4 ha.1 hc.1,iz he 1 h1 h2 h3 h4 ha.2.1 hc.2.1,iz he 2 h1 h2 h3 h4 ha.2.2 hc.2.2⟩
def gD (h:aB) (lo:Int):Nat → Int × Int
  | 0=>(0,0)
  | n + 1=>if eU h lo = 0 then gD h (lo + 1) n else (eU h lo,lo)
theorem kT {h:aB}:∀ (n:Nat) (lo:Int),(∀ w,lo ≤ w → w < lo + n → eU h w = 0) → gD h lo n = (0,0)
  | 0,_,_=>rfl
  | n + 1,lo,hh=>by
    simp only [gD]
    rw [if_pos (hh lo (by omega) (by omega)),kT n (lo + 1) fun w g1 g2=>hh w (by omega) (by omega)]
theorem qm {h:aB}:∀ (n:Nat) (lo w0:Int),lo ≤ w0 → w0 < lo + n → eU h w0 ≠ 0 → (∀ w,lo ≤ w → w < w0 → eU h w = 0) → gD h lo n = (eU h w0,w0)
  | 0,lo,w0,h1,h2,_,_=>by omega
  | n + 1,lo,w0,h1,h2,h3,hh=>by
    simp only [gD]
    by_cases he:lo = w0
    · subst he; rw [if_neg h3]
    · rw [if_pos (hh lo (by omega) (by omega))]
      exact qm n (lo + 1) w0 (by omega) (by omega) h3 fun w g1 g2=>hh w (by omega) g2
set_option maxRecDepth 100000
set_option maxHeartbeats 1000000
theorem mr (ds:List Int) (k:Nat) (x:Int) (h:k < ds.length):(ds.set k x).take (k + 1) = ds.take k ++ [x]:=by
  rw [List.take_add_one,List.take_set_of_le (Nat.le_refl k)]
  simp [h]
def PG (l c:List Int):Prop:=c.Pairwise (· < ·) ∧ ∀ x,x ∈ c ↔ x ∈ l
theorem vo (b:Nat) (l:List Int) (hn:l.length ≤ 12) (hs:l.Pairwise (· ≤ ·)) (σ:af) (hb:b < σ.length) (hx:σ[b]? = some (cU l)) :
    Spec Tryz.prog Ej [.sref 1 b 0 l.length l.length] σ fun r σ'=>∃ c z,PG l c ∧ c.length ≤ l.length ∧ (c ++ z).length = l.length ∧ r = .ret (.sref 1 b 0 c.length l.length) ∧ σ' = σ.set b (cU (c ++ z)):=by
  have hset:σ.set b (cU l) = σ:=by
    obtain ⟨h1,h2⟩:=List.getElem?_eq_some_iff.1 hx
    rw [← h2]; simp
  have hle:∀ i j (h1:i < j) (h2:j < l.length),l[i] ≤ l[j]:=fun i j h1 h2=>List.pairwise_iff_getElem.1 hs i j (by omega) h2 h1
  refine JO (by simp) (dm _ ?_)
  refine (Nat.lt_or_ge l.length 2).elim (fun h2=>?_) (fun h2=>?_)
  · have h2':(l.length:Int) < 2:=by omega
    simp [D9,h2']
    refine ⟨l, ?_,by omega,[],by simp,rfl,by simpa using hset.symm⟩
    refine ⟨?_,fun x=>Iff.rfl⟩
    match l,h2 with
    | [],_=>simp
    | [a],_=>simp
  have h2':¬ (l.length:Int) < 2:=by omega
  simp [D9,h2']
  refine AW.loop (ι:=Nat) (fun k fr σ1=>fr = { v:=[(0, .sref 1 b 0 l.length l.length),(3, .int .i64 k)],ds:=[] } ∧ σ1 = σ ∧ 1 ≤ k ∧ k ≤ l.length ∧ (l.take k).Pairwise (· < ·)) (fun k=>l.length - k) 1 ⟨by simp,rfl,by omega,by omega, ?_⟩ ?_
  · cases l with
    | nil=>simp
    | cons a r=>simp
  rintro k fr σ1 ⟨rfl,rfl,hk1,hk,hlt⟩
  refine (Nat.lt_or_ge k l.length).elim (fun hkl=>?_) (fun hge=>?_)
  rotate_left
  · have hnl:¬ k < l.length:=by omega
    refine dm _ ?_
    simp [hnl]
    exact ⟨l,⟨by rwa [List.take_of_length_le hge] at hlt,fun x=>Iff.rfl⟩,by omega,[],by simp,rfl,by simpa using hset.symm⟩
  obtain ⟨m,rfl⟩:∃ m,k = m + 1:=⟨k - 1,by omega⟩
  obtain ⟨x,hxk⟩:∃ x,l[m + 1]'hkl = x:=⟨_,rfl⟩
  obtain ⟨y,hyk⟩:∃ y,l[m]'(by omega) = y:=⟨_,rfl⟩
  have hw:IntKind.i64.wrap (m:Int) = m:=an (by omega) (by omega)
  have q1:0 ≤ (m:Int) + 1:=by omega
  have q2:(m:Int) + 1 < l.length:=by omega
  have q3:(m:Int) < l.length:=by omega
  have q4:m < l.length:=by omega
  have hgb:σ1[b]'hb = .arr 1 (l.map ii'):=(List.getElem?_eq_some_iff.1 hx).2
  refine dm _ ?_
  simp [hb,hgb,hxk,hyk,hw,hkl,q1,q2,q3,q4]
  refine ⟨fun hxy=>⟨by omega, ?_⟩,fun hxy=>⟨m + 2,by omega,an (by omega) (by omega),by omega,by omega, ?_⟩⟩
  rotate_left
  · rw [List.take_add_one]
    refine List.pairwise_append.2 ⟨hlt,by simp,fun u hu v hv=>?_⟩
    have hv':v = x:=by simpa [hkl,hxk,eq_comm] using hv
    subst hv'
    obtain ⟨i,hi,rfl⟩:=List.mem_iff_getElem.1 hu
    have hi':i < m + 1:=by simp at hi; omega
    rw [List.getElem_take]
    have h1:y ≤ v:=by rw [← hxk, ← hyk]; exact hle m (m + 1) (by omega) hkl
    by_cases him:i = m
    · subst him; rw [hyk]; omega
    · have:=hle i m (by omega) (by omega)
      rw [hyk] at this; omega
  obtain ⟨n2,hn2⟩:∃ n2,l.length - (m + 1) = n2:=⟨_,rfl⟩
  have hn2':((l.length:Int) - ((m:Int) + 1)).toNat = n2:=by omega
  rw [hn2']
  refine AW.loop (ι:=Nat) (fun p fr σ2=>∃ (kk:Nat) (D:List Int),fr = { v:=[(0, .sref 1 b 0 l.length l.length),(3, .int .i64 kk),(4, .sref 1 b (m + 1) n2 l.length),(5, .int .i64 (p + 1))],ds:=[] } ∧ σ2 = σ1.set b (cU D) ∧ p + 1 ≤ n2 ∧ D.length = l.length ∧ kk ≤ m + 1 + p ∧
    (∀ i,m + 1 + p ≤ i → D[i]? = l[i]?) ∧ (D.take kk).Pairwise (· < ·) ∧ ∀ u,u ∈ D.take kk ↔ u ∈ l.take (m + 1 + (p + 1))) (fun p=>n2 - p) 0 ⟨m + 1,l,by simp,hset.symm,by omega,rfl,by omega,fun i _=>rfl,hlt,fun u=>?_⟩ ?_
  · rw [show m + 1 + (0 + 1) = (m + 1) + 1 from rfl,List.take_add_one (i:=m + 1),List.mem_append]
    have:u ∈ (l[m + 1]?).toList ↔ u = x:=by rw [List.getElem?_eq_getElem hkl,hxk]; simp
    rw [this]
    refine ⟨.inl,fun h=>h.elim id fun h=>?_⟩
    rw [h,hxy,List.mem_iff_getElem]
    exact ⟨m,by simp; omega,by simpa using hyk⟩
  rintro p fr σ2 ⟨kk,D,rfl,rfl,hp,hD,hkk,hsame,hsort,hmem⟩
  refine (Nat.lt_or_ge (p + 1) n2).elim (fun hpl=>?_) (fun hpg=>?_)
  · obtain ⟨u,hu⟩:∃ u,l[m + 1 + (p + 1)]'(by omega) = u:=⟨_,rfl⟩
    obtain ⟨v,hv⟩:∃ v,l[m + 1 + p]'(by omega) = v:=⟨_,rfl⟩
    have hDu:D[m + 1 + (p + 1)]'(by omega) = u:=by
      have:=hsame (m + 1 + (p + 1)) (by omega)
      rw [List.getElem?_eq_getElem (by omega),List.getElem?_eq_getElem (by omega),hu] at this
      exact Option.some.inj this
    have hDv:D[m + 1 + p]'(by omega) = v:=by
      have:=hsame (m + 1 + p) (by omega)
      rw [List.getElem?_eq_getElem (by omega),List.getElem?_eq_getElem (by omega),hv] at this
      exact Option.some.inj this
    have r0:IntKind.i64.wrap (p:Int) = p:=an (by omega) (by omega)
    have r1:0 ≤ (p:Int) + 1:=by omega
    have r2:(p:Int) + 1 < n2:=by omega
    have r3:(p:Int) < n2:=by omega
    have r4:m + 1 + p < l.length:=by omega
    have r5:m + 1 + (p + 1) < l.length:=by omega
    have r6:kk < l.length:=by omega
    have r7:(kk:Int) < l.length:=by omega
    have r8:IntKind.i64.wrap ((p:Int) + 1 + 1) = (p:Int) + 1 + 1:=an (by omega) (by omega)
    have r9:IntKind.i64.wrap ((kk:Int) + 1) = (kk:Int) + 1:=an (by omega) (by omega)
    have huv:v ≤ u:=by rw [← hu, ← hv]; exact hle _ _ (by omega) (by omega)
    refine dm _ ?_
    simp [hb,cU,hD,hDu,hDv,r0,r1,r2,r3,r4,r5,r6,r7,r8,r9]
    have hmax:∀ w ∈ l.take (m + 1 + (p + 1)),w ≤ v:=fun w hw'=>by
      obtain ⟨i,hi,rfl⟩:=List.mem_iff_getElem.1 hw'
      have hi':i < m + 1 + (p + 1):=by simp at hi; omega
      rw [List.getElem_take]
      by_cases him:i = m + 1 + p
      · subst him; rw [hv]; omega
      · have:=hle i (m + 1 + p) (by omega) (by omega)
        rw [hv] at this; exact this
    have htk:∀ w,w ∈ l.take (m + 1 + (p + 1 + 1)) ↔ w ∈ l.take (m + 1 + (p + 1)) ∨ w = u:=fun w=>by
      rw [show m + 1 + (p + 1 + 1) = (m + 1 + (p + 1)) + 1 from rfl,List.take_add_one (i:=m + 1 + (p + 1)),List.mem_append]
      have:w ∈ (l[m + 1 + (p + 1)]?).toList ↔ w = u:=by rw [List.getElem?_eq_getElem (by omega),hu]; simp
      rw [this]
    refine ⟨fun hne=>⟨p + 1,by omega,kk + 1,⟨by simp,by simp⟩,D.set kk u,by rw [List.map_set],by omega,by simp [hD],by omega,fun i hi=>?_, ?_,fun w=>?_⟩,fun he=>⟨p + 1,by omega,kk,⟨rfl,by simp⟩,D,rfl,by omega,hD,by omega,fun i hi=>hsame i (by omega),hsort,fun w=>?_⟩⟩
    · rw [List.getElem?_set_ne (by omega)]; exact hsame i (by omega)
    · rw [mr D kk u (by omega)]
      refine List.pairwise_append.2 ⟨hsort,by simp,fun a ha c hc=>?_⟩
      have hc':c = u:=by simpa using hc
      subst hc'
      have:=hmax a ((hmem a).1 ha)
      omega
    · rw [mr D kk u (by omega),List.mem_append,hmem,htk]
      simp
    · rw [hmem,htk]
      refine ⟨.inl,fun h=>h.elim id fun h=>?_⟩
      rw [h,he,List.mem_iff_getElem]
      exact ⟨m + 1 + p,by simp; omega,by simpa using hv⟩
  · have hnl:¬ (p:Int) + 1 < n2:=by omega
    have hkl':(kk:Int) ≤ l.length:=by omega
    refine dm _ ?_
    simp [hb,cU,hD,hnl,hkl']
    refine ⟨D.take kk,⟨hsort,fun u=>?_⟩,by simp; omega,List.replicate (l.length - kk) 0 ++ D.drop (kk + (l.length - kk)),by simp; omega,by simp; omega,by simp⟩
    rw [hmem,List.take_of_length_le (by omega)]
end Go.AM
