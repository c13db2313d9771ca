/- Read: of the program. Differ. Differ: of the program. The examples of chapter 01. The examples of chapter 01: the law's own functions, and what the program answers. Awake of chapter 01, by contracts. -/
import Derived.Test.YthhmdhiiicipkaaGreatDoorP27
import Derived.Test.YthhmdhiiicipkaaGreatDoorP25
namespace Go.AM
open Go.Proofs
set_option maxRecDepth 100000
set_option maxHeartbeats 1000000
theorem DL (x:ByteArray) (hx:x.size ≤ 6000) (σ:ag):Spec Tryz.prog Kg [.str x, .str nlB] σ fun r σ'=>r = .ret (.tup [.str (bytes (Lib.cut (aL x) [10]).1), .str (bytes (Lib.cut (aL x) [10]).2.1), .bool (Lib.cut (aL x) [10]).2.2]) ∧ σ' = σ:=
  Spec.cut Tryz.FA (by decide) x nlB (by omega) σ
theorem Ah (x:ByteArray) (hx:x.size ≤ 6000) (σ:ag):Spec Tryz.prog Kx [.str x, .str spB] σ fun r σ'=>r = .ret (.slice 1 ((jU x spB).map .str)) ∧ σ' = σ:=
  Spec.split Tryz.Fp (by kernel_rfl) (by decide) x spB (by omega) (by decide) σ
theorem Ed (x:ByteArray):(jU x spB).map aL = cutAt 32 (aL x):=by
  have h:=Lib.splitB_data spB 0 (Lib.countB x spB) x
  have e:(jU x spB).map aL = Lib.splitK spB.data.toList 0 (Lib.countB x spB) x.data.toList:=h
  rw [e]
  have e2:Lib.countB x spB = Lib.count x.data.toList [32]:=rfl
  rw [e2]
  unfold Lib.count
  rw [lA 32 _ _ (by omega)]
  exact qX 32 _ _ (Nat.le_refl _)
def eU:ab:=.agg [.slice 7 [], .slice 10 []]
theorem B4 (a b:Nat) (σ:ag):k9 Tryz.prog vT [.ptr a 0, .ptr b 0] σ .none fun m σ'=>m = .none ∧ σ' = σ:=by
  refine K3 (by simp) (aa _ ?_)
  simp [Es,PM.after]
theorem BV (a b:aQ) (x y z:ab) (tl:ag) :
    k9 Tryz.prog vT [.ptr 2 0, .ptr 3 0] (a :: b :: .box [x,y] :: .box [z] :: tl) (.pan rS) fun m σ'=>(∃ v,m = .recd v) ∧ σ' = a :: b :: .box [.slice 7 [], .slice 10 []] :: .box [ii' 6] :: tl:=by
  refine K3 (by simp) (aa _ ?_)
  simp [Es,PM.after,rS]
theorem mb (a b:aQ) (x y z:ab) (tl:ag) {R:PM → ag → Prop} (h:∀ v,R (.recd v) (a :: b :: .box [.slice 7 [], .slice 10 []] :: .box [ii' 6] :: tl)) :
    ak Tryz.prog vT = true ∧ k9 Tryz.prog vT [.ptr 2 0, .ptr 3 0] (a :: b :: .box [x,y] :: .box [z] :: tl) (.pan rS) R:=
  ⟨Kt,(BV a b x y z tl).mono (by rintro m σ' ⟨⟨v,rfl⟩,rfl⟩; exact h v)⟩
theorem Fv (σ:ag) {R:PM → ag → Prop} (h:R .none σ) :
    ak Tryz.prog vT = true ∧ k9 Tryz.prog vT [.ptr 2 0, .ptr 3 0] σ .none R:=
  ⟨Kt,(B4 2 3 σ).mono (by rintro m σ' ⟨rfl,rfl⟩; exact h)⟩
theorem vq (b:UInt8):∀ l,(cutAt b l).length ≤ l.length + 1 ∧ ∀ p ∈ cutAt b l,p.length ≤ l.length
  | []=>by simp [cutAt]
  | c :: r=>by
    obtain ⟨h1,h2⟩:=vq b r
    simp only [cutAt]
    split
    · refine ⟨by simp; omega,fun p hp=>?_⟩
      rcases List.mem_cons.1 hp with rfl | hp
      · simp
      · have:=h2 p hp; simp; omega
    · cases hq:cutAt b r with
      | nil=>exact absurd hq (ki b r)
      | cons x q=>
        rw [hq] at h1 h2
        refine ⟨by simp at h1 ⊢; omega,fun p hp=>?_⟩
        rcases List.mem_cons.1 hp with rfl | hp
        · have:=h2 x (by simp); simp; omega
        · have:=h2 p (by simp [hp]); simp; omega
theorem ChM.fits (l:List ChM):Fits 10 (l.map ChM.v):=by
  intro v hv
  obtain ⟨x,_,rfl⟩:=List.mem_map.1 hv
  exact ⟨rfl,rfl⟩
def gH (s:ByteArray):ab:=if 6000 < s.size then .tup [eU,ii' 3] else match qA (aL s) with
  | some p=>.tup [p.v,ii' 0]
  | none=>.tup [eU,ii' 6]
theorem zK (s:ByteArray):(gH s).pure = true:=by
  unfold gH
  split
  · rfl
  · split
    · simp [ab.pure,aA,ar.pure]
    · rfl
theorem wj (x:ByteArray):(aL x).length = x.size:=by simp [aL]
theorem sh (w:Wd):(bytes w).size = w.length:=by simp [bytes,ByteArray.size]
theorem s7 {l:List Wd} {x:HuM} (h:di l = some x):x.on.length ≤ l.length:=by
  unfold di at h
  split at h
  · split at h
    · cases h; simp; omega
    · cases h
  · cases h
theorem GJ {l : List Wd} {c : ChM} (h : chP l = some c) : c.part.on.length ≤ l.length := by
  unfold chP at h
  split at h
  · rename_i d w r
    split at h
    · cases h
    · split at h
      · obtain ⟨x,hx,rfl⟩:=Option.map_eq_some_iff.1 h
        have:=s7 hx; simp; omega
      · split at h
        · split at h
          · cases h; simp [zHu]
          · cases h
        · split at h
          · split at h
            · obtain ⟨x,hx,rfl⟩:=Option.map_eq_some_iff.1 h
              have:=s7 hx; simp at this ⊢; omega
            · cases h
          · cases h
  · cases h
theorem fS (s:ByteArray) (σ:ag):Spec Tryz.prog E9 [.str s] σ fun r σ'=>r = .ret (gH s) ∧ σ' = σ:=by
  refine Spec.aC (NX (by simp) ?_) rfl (zK s) σ
  by_cases h6:6000 < s.size
  · have hv:gH s = .tup [eU,ii' 3]:=by unfold gH; rw [if_pos h6]
    have h6I:(6000:Int) < s.size:=by omega
    rw [hv]
    refine aa _ ?_
    simp [E5,h6I,eU]
  have hv:gH s = match qA (aL s) with
    | some p=>.tup [p.v,ii' 0]
    | none=>.tup [eU,ii' 6]:=by unfold gH; rw [if_neg h6]
  have h6I:¬ (6000:Int) < s.size:=by omega
  have hno:sC (aL s) = none → gH s = .tup [eU,ii' 6]:=fun h=>by rw [hv]; unfold qA; rw [h]
  refine aa _ ?_
  simp [E5,h6I]
  refine AW.loop (ι:=Nat) (fun m fr σ'=>∃ (x:ByteArray) (p:ar) (q1 q2:Nat) (t:ag),fr = { v:=[(0, .str s),(2, .ptr 2 0),(3, .ptr 3 0),(4, .str x)],ds:=[.fn (.func (.func vT) [] [.ptr 2 0, .ptr 3 0]) []] } ∧
    σ' = .spare 7 q1 :: .spare 10 q2 :: .box [.oslice 7 (p.ship.map HuM.v) 0 q1, .oslice 10 (p.chs.map ChM.v) 1 q2] :: .box [ii' 0] :: t ∧ x.size = m ∧ p.ship.length + p.chs.length + x.size ≤ 6000 ∧ (∀ y ∈ p.ship,y.on.length ≤ 10000) ∧ (∀ c ∈ p.chs,c.part.on.length ≤ 10000) ∧ rb (cutAt 10 (aL x)) p = sC (aL s)) (fun m=>m) s.size ⟨s,⟨[],[]⟩,0,0,[],by simp,by simp,rfl,by simp; omega,by simp,by simp,rfl⟩ ?_
  rintro m fr σ' ⟨x,p,q1,q2,t,rfl,rfl,rfl,hsz,hon,hcon,hco⟩
  obtain ⟨l,cs⟩:=p
  dsimp only at hsz hon hcon
  by_cases hx:x = .empty
  · have hr:aL x = []:=by rw [hx]; rfl
    rw [hr] at hco
    have hrp:sC (aL s) = some ⟨l,cs⟩:=by rw [← hco]; rfl
    have hfp:lJ ⟨l,cs⟩:=⟨by simp only [maxLen]; omega,fun y hy=>by have:=hon y hy; simp only [maxLen]; omega,by simp only [maxLen]; omega,fun c hc=>by have:=hcon c hc; simp only [maxLen]; omega⟩
    have hck:=et l cs hfp
    have hxl:x.toList = []:=by rw [toList_data]; exact hr
    by_cases hz:(bT ⟨l,cs⟩).2.2 = 0
    rotate_left
    · have hrv:gH s = .tup [eU,ii' 6]:=by
        have hnk:okB ⟨l,cs⟩ = false:=by unfold okB; rw [← bA]; simpa using hz
        rw [hv]; unfold qA; rw [hrp]; simp only [hnk,Bool.false_and]; rfl
      have hzB:((bT ⟨l,cs⟩).2.2 == 0) = false:=by rw [beq_eq_false_iff_ne]; exact hz
      rw [hrv]
      refine aa _ ?_
      simp [hxl]
      refine af.pure ue (hck _) ?_
      simp [dc,hzB]
      refine af.pan lj (cN _) ?_
      rintro σ' rfl
      simp
      refine mb _ _ _ _ _ _ fun v=>?_
      simp [eU]
    have hok:OkP ⟨l,cs⟩:=(cF _).1 (by rw [← bA]; exact hz)
    have htx:=lQ ⟨l,cs⟩ (oL hok)
    simp only [ar.v,ar.cells] at htx
    have hbt:bytes (fY ⟨l,cs⟩) = s ↔ fY ⟨l,cs⟩ = aL s:=⟨fun h=>by rw [← h,fL],fun h=>by rw [h,cU]⟩
    by_cases ht:fY ⟨l,cs⟩ = aL s
    · have hrv:gH s = .tup [(⟨l,cs⟩:ar).v,ii' 0]:=by
        rw [hv,(mL _ _).2 ⟨hok,ht⟩]
      have hbe:=hbt.2 ht
      rw [hrv]
      refine aa _ ?_
      simp [hxl]
      refine af.pure ue (hck _) ?_
      simp [dc,hz]
      refine af.pure GU (htx _) ?_
      simp [hbe,hz,dc]
      refine af.pure lj (cr _) ?_
      simp
      refine Fv _ ?_
      simp [ar.v,ar.cells]
    · have hbe:¬ bytes (fY ⟨l,cs⟩) = s:=fun h=>ht (hbt.1 h)
      have hrv:gH s = .tup [eU,ii' 6]:=by
        rw [hv]; unfold qA; rw [hrp]
        dsimp only
        rw [if_neg (by simp [ht])]
      rw [hrv]
      refine aa _ ?_
      simp [hxl]
      refine af.pure ue (hck _) ?_
      simp [dc,hz]
      refine af.pure GU (htx _) ?_
      simp [nmd,hbe,hz,dc]
      refine af.pan lj (cN _) ?_
      rintro σ' rfl
      simp
      refine mb _ _ _ _ _ _ fun v=>?_
      simp [eU]
  have hxl:¬ x.toList = []:=fun e=>hx (by rw [toList_data] at e; exact data_inj e)
  have hx6:x.size ≤ 6000:=by omega
  have hcu:=DL x hx6
  have hnlv:(⟨#[10]⟩:ByteArray) = nlB:=rfl
  rw [Dx] at hcu
  cases hq:cutAt 10 (aL x) with
  | nil=>exact absurd hq (ki _ _)
  | cons r qs=>
  cases qs with
  | nil=>
    rw [hq] at hcu hco
    have hxr:r = aL x:=by
      have:=kJ 10 (aL x)
      rw [hq] at this; exact this
    have hrn:¬ r = []:=fun e=>hx (by rw [hxr] at e; exact data_inj e)
    have hrv:=hno (by rw [← hco]; unfold rb; rw [if_neg hrn])
    rw [hrv]
    refine aa _ ?_
    simp [hxl,hnlv]
    refine af.pure Dc (hcu _) ?_
    simp
    refine af.pan lj (cN _) ?_
    rintro σ' rfl
    simp
    refine mb _ _ _ _ _ _ fun v=>?_
    simp [eU]
  | cons q rs=>
  rw [hq] at hcu hco
  dsimp only at hcu
  have hj:aL x = r ++ 10 :: bo 10 (q :: rs):=by
    have:=kJ 10 (aL x)
    rw [hq,qN 10 r (by simp)] at this; exact this.symm
  have hcb:cutAt 10 (bo 10 (q :: rs)) = q :: rs:=nJ 10 (by simp) fun w hw=>xW 10 (aL x) w (by rw [hq]; simp [hw])
  obtain ⟨y,hy⟩:∃ y,bytes (bo 10 (q :: rs)) = y:=⟨_,rfl⟩
  have hyr:aL y = bo 10 (q :: rs):=by rw [← hy,fL]
  rw [hy] at hcu
  rw [← hyr] at hj hcb
  have hsy:x.size = r.length + 1 + y.size:=by
    have:=congrArg List.length hj
    rw [wj,List.length_append,List.length_cons,wj] at this; omega
  have hsp:=Ah (bytes r) (by rw [sh]; omega)
  have hsi:=Ed (bytes r)
  rw [fL] at hsi
  obtain ⟨ws,hws⟩:∃ ws,jU (bytes r) spB = ws:=⟨_,rfl⟩
  rw [hws] at hsp hsi
  have hcl:=vq 32 r
  rw [← hsi] at hcl
  have hwl:ws.length ≤ 6001:=by have:=hcl.1; simp at this; omega
  have hwz:∀ n ∈ ws,n.size ≤ 6000:=fun n hn=>by
    have:=hcl.2 (aL n) (List.mem_map_of_mem hn)
    rw [wj] at this; omega
  have hspv:(⟨#[32]⟩:ByteArray) = spB:=rfl
  cases ws with
  | nil=>exact absurd hsi.symm (ki _ _)
  | cons w0 wr=>
  simp only [rb, ← hsi] at hco
  have hpw:(⟨#[112,97,114,116]⟩:ByteArray) = kZ:=rfl
  have hpr:aL kZ = lR:=rfl
  by_cases hw0:w0 = kZ
  · have hrow:yq ((w0 :: wr).map aL) ⟨l,cs⟩ = (di (wr.map aL)).map fun x=>⟨l ++ [x],cs⟩:=by
      unfold yq; rw [List.map_cons,hw0,hpr]; simp
    rw [hrow] at hco
    have hch:=fun σ hb=>ir wr (by simp at hwl; omega) (fun n hn=>by have:=hwz n (by simp [hn]); omega) (t.length + 4) σ hb
    cases hp:di (wr.map aL) with
    | none=>
    rw [hp] at hco hch
    have hrv:=hno (by rw [← hco]; rfl)
    rw [hrv]
    refine aa _ ?_
    simp [hxl,hnlv]
    refine af.pure Dc (hcu _) ?_
    simp
    refine af.pure lj (cr _) ?_
    simp [hspv]
    refine af.pure ER (hsp _) ?_
    simp [hpw,hw0]
    refine af.spec nU (bX kZ wr (by simp at hwl; omega) (t.length + 4) _ (by simp [bM])) ?_
    rintro r' σ' ⟨rfl,rfl⟩
    refine ⟨_,rfl, ?_⟩
    simp
    refine ⟨[], ?_⟩
    refine af.pan ES (hch _ (by simp)) ?_
    rintro σ' ⟨m,tl,rfl⟩
    simp
    refine mb _ _ _ _ _ _ fun v=>?_
    simp [eU]
    | some z=>
    rw [hp] at hco hch
    refine aa _ ?_
    simp [hxl,hnlv]
    refine af.pure Dc (hcu _) ?_
    simp
    refine af.pure lj (cr _) ?_
    simp [hspv]
    refine af.pure ER (hsp _) ?_
    simp [hpw,hw0]
    refine af.spec nU (bX kZ wr (by simp at hwl; omega) (t.length + 4) _ (by simp [bM])) ?_
    rintro r' σ' ⟨rfl,rfl⟩
    refine ⟨_,rfl, ?_⟩
    simp
    refine ⟨[], ?_⟩
    refine af.spec ES (hch _ (by simp)) ?_
    rintro r' σ' ⟨rfl,m,tl,rfl⟩
    refine ⟨_,rfl, ?_⟩
    have hon2:=s7 hp
    have hft:=HuM.fits [z]
    simp only [List.map_cons,List.map_nil,HuM.v,HuM.cells] at hft
    simp [HuM.v,HuM.cells,hft]
    refine ⟨by omega,y.size,by omega,⟨l ++ [z],cs⟩,⟨by simp [HuM.v,HuM.cells],rfl⟩,rfl,by simp; omega,fun w hw=>?_,hcon,by rw [hcb]; exact hco⟩
    rcases List.mem_append.1 hw with h | h
    · exact hon w h
    · rw [List.mem_singleton.1 h]; simp at hon2 hwl; omega
  · have hrow:yq ((w0 :: wr).map aL) ⟨l,cs⟩ = (chP ((w0 :: wr).map aL)).map fun c=>⟨l,cs ++ [c]⟩:=by
      unfold yq; rw [if_neg]; simp; rw [← hpr]; exact fun e=>hw0 (w6.1 e)
    rw [hrow] at hco
    have hch:=fun σ hb=>fX (w0 :: wr) (by omega) (fun n hn=>by have:=hwz n hn; omega) (t.length + 4) σ hb
    cases hp:chP ((w0 :: wr).map aL) with
    | none=>
    rw [hp] at hco hch
    have hrv:=hno (by rw [← hco]; rfl)
    rw [hrv]
    refine aa _ ?_
    simp [hxl,hnlv]
    refine af.pure Dc (hcu _) ?_
    simp
    refine af.pure lj (cr _) ?_
    simp [hspv]
    refine af.pure ER (hsp _) ?_
    simp [nmd,hpw,hw0]
    refine ⟨[], ?_⟩
    refine af.pan EX (hch _ (by simp [bM])) ?_
    rintro σ' ⟨m,tl,rfl⟩
    simp
    refine mb _ _ _ _ _ _ fun v=>?_
    simp [eU]
    | some z=>
    rw [hp] at hco hch
    refine aa _ ?_
    simp [hxl,hnlv]
    refine af.pure Dc (hcu _) ?_
    simp
    refine af.pure lj (cr _) ?_
    simp [hspv]
    refine af.pure ER (hsp _) ?_
    simp [nmd,hpw,hw0]
    refine ⟨[], ?_⟩
    refine af.spec EX (hch _ (by simp [bM])) ?_
    rintro r' σ' ⟨rfl,m,tl,rfl⟩
    refine ⟨_,rfl, ?_⟩
    have hon2:=GJ hp
    have hft:=ChM.fits [z]
    simp only [List.map_cons,List.map_nil,ChM.v,ChM.cells] at hft
    simp [ChM.v,ChM.cells,hft]
    refine ⟨by omega,y.size,by omega,⟨l,cs ++ [z]⟩,⟨rfl,by simp [ChM.v,ChM.cells]⟩,rfl,by simp; omega,hon,fun w hw=>?_,by rw [hcb]; exact hco⟩
    rcases List.mem_append.1 hw with h | h
    · exact hcon w h
    · rw [List.mem_singleton.1 h]; simp at hon2 hwl; omega
set_option maxRecDepth 100000
set_option maxHeartbeats 1000000
def bN (p q:ar) (day:Int):Int:=if (bT p).2.2 ≠ 0 then (bT p).2.2 else bJ q day
def bq (p q:ar) (day:Int):List ByteArray:=if bN p q day = 0 then cD (cL day p) (cL day q) else []
theorem kW {p q:ar} {day:Int} (h:bN p q day = 0):OkP p ∧ OkP q ∧ bJ p day = 0 ∧ bJ q day = 0 ∧ (bT p).2.2 = 0:=by
  unfold bN at h
  by_cases h1:(bT p).2.2 = 0
  · rw [if_neg (by simp [h1])] at h
    refine ⟨(cF p).1 (by rw [← bA]; exact h1),eM h, ?_,h,h1⟩
    unfold bJ at h ⊢
    rw [if_neg (by simp [h1])]
    by_cases h2:(bT q).2.2 = 0
    · rw [if_neg (by simp [h2])] at h; exact h
    · rw [if_pos h2] at h; exact absurd h h2
  · rw [if_pos h1] at h; exact absurd h h1
theorem mu {a b:List HuM} {n:ByteArray} (ha:0 ≤ findF a n) (hb:0 ≤ findF b n):bG a b n = uL (atF a n) (atF b n):=by
  have e1:=(dJ ((dw a n).1 ha)).2
  have e2:=(dJ ((dw b n).1 hb)).2
  rw [Bool.eq_iff_iff]
  simp only [bG,uL,Bool.and_eq_true,decide_eq_true_eq,e1,e2,ha,hb]
  constructor
  · rintro ⟨_,⟨⟨⟨⟨h1,h2⟩,h3⟩,h4⟩,h5⟩,h6⟩; exact ⟨⟨⟨⟨⟨trivial,h1⟩,h2⟩,h3⟩,h4,h5⟩,h6⟩
  · rintro ⟨⟨⟨⟨⟨_,h1⟩,h2⟩,h3⟩,h4,h5⟩,h6⟩; exact ⟨⟨trivial,trivial⟩,⟨⟨⟨⟨h1,h2⟩,h3⟩,h4⟩,h5⟩,h6⟩
theorem mw {a b:List HuM} (ha:OkS a) (hb:OkS b):(aF [a,b]).length ≤ 24:=by
  have:=gS ([a,b].flatMap fun ns=>ns.map HuM.name)
  have h1:=ha.len
  have h2:=hb.len
  unfold aF
  simp at this ⊢
  omega
theorem vj {α:Type} {l:List α} {i:Nat} (p:α → Bool) (h:i < l.length):(l.take (i + 1)).filter p = (l.take i).filter p ++ (if p l[i] = true then [l[i]] else []):=by
  rw [List.take_succ_eq_append_getElem h,List.filter_append,List.filter_cons,List.filter_nil]
set_option maxRecDepth 100000
set_option maxHeartbeats 1000000
def qh (x:HuM):List ab:=[.str x.name,ii' x.kind,ii' x.first,ii' x.last,ii' x.lo,ii' x.hi]
theorem DB (x y:HuM):(bQ (qh x) (qh y) && decide (x.on = y.on)) = uL x y:=by
  rw [Bool.eq_iff_iff]
  simp only [qh,bQ,fa,uL,Bool.and_eq_true,decide_eq_true_eq,Dt,beq_iff_eq]
  constructor
  · rintro ⟨⟨h1,h2,h3,h4,h5,h6,_⟩,h7⟩; exact ⟨⟨⟨⟨⟨h1,h2⟩,h3⟩,h4⟩,h5,h6⟩,h7⟩
  · rintro ⟨⟨⟨⟨⟨h1,h2⟩,h3⟩,h4⟩,h5,h6⟩,h7⟩; exact ⟨⟨h1,h2,h3,h4,h5,h6,trivial⟩,h7⟩
theorem pJ (ps:List HuM) (cs:List ChM) (hf:lJ ⟨ps,cs⟩) (day:Int) (h:bJ ⟨ps,cs⟩ day = 0) (σ:ag) :
    Spec Tryz.prog FB [.agg [.slice 7 (ps.map HuM.v), .slice 10 (cs.map ChM.v)], .int .i64 day] σ fun r σ'=>r = .ret (.tup [.agg [.slice 7 ((aM day ps cs).map HuM.v)],ii' 0]) ∧ ∃ tl,σ' = σ ++ tl:=by
  have hok:=eM h
  have e:fH day ps ps cs = aM day ps cs:=dF day cs ps 0 hok.ship hok.steps
  refine (dG ps cs hf day σ).mono ?_
  rintro r σ' ⟨ns,rfl,hns,htl⟩
  rw [hns h,h, ← e]
  exact ⟨rfl,htl⟩
theorem cT (ps qs:List HuM) (cs ds:List ChM) (hp:lJ ⟨ps,cs⟩) (hq:lJ ⟨qs,ds⟩) (day:Int) (σ:ag) :
    Spec Tryz.prog BG [.agg [.slice 7 (ps.map HuM.v), .slice 10 (cs.map ChM.v)], .agg [.slice 7 (qs.map HuM.v), .slice 10 (ds.map ChM.v)], .int .i64 day] σ fun r σ'=>r = .ret (.tup [.slice 1 ((bq ⟨ps,cs⟩ ⟨qs,ds⟩ day).map .str),ii' (bN ⟨ps,cs⟩ ⟨qs,ds⟩ day)]) ∧ σ' = σ:=by
  refine Spec.aC (ML (by simp) ?_) (by simp [aA,ab.pure,ah (f:=HuM.v) (fun p=>p.pure) ps,ah (f:=ChM.v) (fun c=>c.pure) cs,ah (f:=HuM.v) (fun p=>p.pure) qs,ah (f:=ChM.v) (fun c=>c.pure) ds]) (by simp [ab.pure,aA,ah (f:=ab.str) (fun _=>rfl)]) σ
  have hck:=et ps cs hp
  have hop:=dG ps cs hp day
  have hoq:=dG qs ds hq day
  by_cases h0:(bT ⟨ps,cs⟩).2.2 = 0
  rotate_left
  · have he:bN ⟨ps,cs⟩ ⟨qs,ds⟩ day = (bT ⟨ps,cs⟩).2.2:=by unfold bN; rw [if_pos h0]
    have hv:bq ⟨ps,cs⟩ ⟨qs,ds⟩ day = []:=by unfold bq; rw [he,if_neg h0]
    have hB:((bT ⟨ps,cs⟩).2.2 == 0) = false:=by rw [beq_eq_false_iff_ne]; exact h0
    rw [he,hv]
    refine aa _ ?_
    simp [Em]
    refine AW.scope (aa _ ?_)
    simp
    refine af.pure ue (hck _) ?_
    simp [dc,h0]
  by_cases h1:bJ ⟨qs,ds⟩ day = 0
  rotate_left
  · have he:bN ⟨ps,cs⟩ ⟨qs,ds⟩ day = bJ ⟨qs,ds⟩ day:=by unfold bN; rw [if_neg (by simp [h0])]
    have hv:bq ⟨ps,cs⟩ ⟨qs,ds⟩ day = []:=by unfold bq; rw [he,if_neg h1]
    rw [he,hv]
    refine aa _ ?_
    simp [Em]
    refine AW.scope (aa _ ?_)
    simp
    refine af.pure ue (hck _) ?_
    simp [dc,h0]
    refine af.spec rq (hoq _) ?_
    rintro r σ' ⟨ns,rfl,hns,tl,rfl⟩
    refine ⟨_,rfl, ?_⟩
    simp [h1]
  have he:bN ⟨ps,cs⟩ ⟨qs,ds⟩ day = 0:=by unfold bN; rw [if_neg (by simp [h0]),h1]
  have hv:bq ⟨ps,cs⟩ ⟨qs,ds⟩ day = cD (aM day ps cs) (aM day qs ds):=by unfold bq; rw [if_pos he]; rfl
  obtain ⟨okp,okq,h2,_,_⟩:=kW he
  have oa:OkS (aM day ps cs):=cM okp.ship okp.steps day
  have ob:OkS (aM day qs ds):=cM okq.ship okq.steps day
  rw [he,hv]
  have hop:=pJ ps cs hp day h2
  have hoq:=pJ qs ds hq day h1
  generalize aM day ps cs = a at *
  generalize aM day qs ds = b at *
  have hal:=oa.len
  have hbl:=ob.len
  have hnl:=mw oa ob
  have hnm:=iz [a,b] (by simp) (by simp; omega)
  unfold cD
  obtain ⟨N,hN⟩:∃ N,aF [a,b] = N:=⟨_,rfl⟩
  rw [hN] at hnm hnl ⊢
  simp only [bd,List.map_cons,List.map_nil] at hnm
  refine aa _ ?_
  simp [Em]
  refine AW.scope (aa _ ?_)
  simp
  refine af.pure ue (hck _) ?_
  simp [dc,h0]
  refine af.tl rq (hoq _) fun tb=>?_
  simp
  refine af.tl rq (hop _) fun ta=>?_
  simp
  refine af.pure HC (hnm _) ?_
  simp
  generalize hIA:tb.length + (ta.length + 1) + 1 = IA
  generalize hIB:tb.length + 1 = IB
  have kb:∀ (o A B:aQ) (t:ag),(o :: (tb ++ B :: (ta ++ A :: t)))[IB]? = some B:=fun o A B t=>by rw [← hIB]; simp
  have ka:∀ (o A B:aQ) (t:ag),(o :: (tb ++ B :: (ta ++ A :: t)))[IA]? = some A:=fun o A B t=>by
    rw [← hIA,List.getElem?_cons_succ,List.getElem?_append_right (by omega),show tb.length + (ta.length + 1) - tb.length = ta.length + 1 by omega,List.getElem?_cons_succ]; simp
  refine AW.loop (ι:=Nat) (fun i fr σ'=>∃ q t,fr = { v:=[(6, .oslice 1 (((N.take i).filter fun n=>!bG a b n).map .str) 0 q),(8, .ptr IB 0),(9, .ptr IA 0),(44, .slice 1 (N.map .str)),(45, .int .i64 N.length),(46, .int .i64 i)],ds:=[] } ∧ σ' = .spare 1 q :: (tb ++ .box [.slice 7 (b.map HuM.v)] :: (ta ++ .box [.slice 7 (a.map HuM.v)] :: t)) ∧ i ≤ N.length) (fun i=>N.length - i) 0 ⟨0,[],by simp,by simp,by omega⟩ ?_
  rintro i fr σ' ⟨q,t,rfl,rfl,hi⟩
  refine (Nat.lt_or_ge i N.length).elim (fun hlt=>?_) (fun hge=>?_)
  rotate_left
  · have htk:N.take i = N:=List.take_of_length_le (by omega)
    rw [htk]
    refine aa _ ?_
    simp [show ¬ i < N.length by omega]
    done
  obtain ⟨n,hn⟩:∃ x,N[i] = x:=⟨_,rfl⟩
  have hwi:IntKind.i64.wrap ((i:Int) + 1) = ((i + 1:Nat):Int):=by rw [aj (by omega) (by omega)]; simp
  have htk:=vj (l:=N) (fun n=>!bG a b n) hlt
  simp only [hn] at htk
  have hln:((N.take i).filter fun n=>!bG a b n).length ≤ 24:=Nat.le_trans (List.length_filter_le _ _) (by simp; omega)
  have hfit:=gX [n]
  simp at hfit
  have hfda:=aO a n (by simp only [maxLen]; omega) IA _ (ka (.spare 1 q) (.box [.slice 7 (a.map HuM.v)]) (.box [.slice 7 (b.map HuM.v)]) t)
  have hfdb:=aO b n (by simp only [maxLen]; omega) IB _ (kb (.spare 1 q) (.box [.slice 7 (a.map HuM.v)]) (.box [.slice 7 (b.map HuM.v)]) t)
  have put:bG a b n = false → ((N.take (i + 1)).filter fun n=>!bG a b n).map ab.str = ((N.take i).filter fun n=>!bG a b n).map ab.str ++ [ab.str n]:=fun hs=>by rw [htk,hs]; simp
  have xG:bG a b n = true → ((N.take (i + 1)).filter fun n=>!bG a b n).map ab.str = ((N.take i).filter fun n=>!bG a b n).map ab.str:=fun hs=>by rw [htk,hs]; simp
  by_cases ga:findF a n < 0
  · have hs:bG a b n = false:=by
      unfold bG
      rw [show decide (0 ≤ findF a n) = false by simpa using ga]; simp
    have hp:=put hs
    have ga':¬ 0 ≤ findF a n:=by omega
    refine aa _ ?_
    simp [hlt,hn]
    refine af.pure eV hfda ?_
    simp [hlt,hn]
    refine af.pure eV hfdb ?_
    simp [ga',hlt,hn,hfit,hwi]
    exact ⟨by omega,i + 1,by omega,q + 1,⟨⟨hp.symm,rfl⟩,by simp⟩,rfl,by omega⟩
  by_cases gb:findF b n < 0
  · have hs:bG a b n = false:=by
      unfold bG
      rw [show decide (0 ≤ findF b n) = false by simpa using gb]; simp
    have hp:=put hs
    have ga':0 ≤ findF a n:=by omega
    have gb':¬ 0 ≤ findF b n:=by omega
    refine aa _ ?_
    simp [hlt,hn]
    refine af.pure eV hfda ?_
    simp [hlt,hn]
    refine af.pure eV hfdb ?_
    simp [ga',gb',hlt,hn,hfit,hwi]
    exact ⟨by omega,i + 1,by omega,q + 1,⟨⟨hp.symm,rfl⟩,by simp⟩,rfl,by omega⟩
  obtain ⟨j,hj,ej,_,hja⟩:=bC ga
  obtain ⟨k,hk,ek,_,hkb⟩:=bC gb
  have hse:=mu (a:=a) (b:=b) (n:=n) (by omega) (by omega)
  obtain ⟨x,hx⟩:∃ x,a[j] = x:=⟨_,rfl⟩
  obtain ⟨y,hy⟩:∃ x,b[k] = x:=⟨_,rfl⟩
  rw [hja,hkb,hx,hy, ← DB] at hse
  have hxo:=fC oa x (hx ▸ List.getElem_mem _)
  have heq:=px x.on y.on (by simp only [maxLen]; omega)
  have hplx:=gw x
  have hply:=gw y
  simp only [HuM.v,HuM.cells] at hplx hply
  rw [ej] at hfda
  rw [ek] at hfdb
  have hj0:(0:Int) ≤ j:=by omega
  have hk0:(0:Int) ≤ k:=by omega
  obtain ⟨pb,hpb⟩:∃ pb,bQ (qh x) (qh y) = pb:=⟨_,rfl⟩
  rw [hpb] at hse
  simp only [qh] at hpb
  refine aa _ ?_
  simp [hlt,hn]
  refine af.pure eV hfda ?_
  simp [hlt,hn]
  refine af.pure eV hfdb ?_
  simp [-bQ,hj,hk,hx,hy,hj0,hk0,ka,kb,HuM.v,HuM.cells]
  refine ⟨by omega,_,fun σ' _=>aB.func GG (hplx σ'),_,fun σ' _=>aB.func GG (hply σ'), ?_⟩
  have hpu:=ah (f:=ab.str) (fun _=>rfl) x.on
  rcases tf pb with hb | hb
  · rw [hb] at hpb hse
    have hp:=put (hse.trans rfl)
    simp [-bQ,hpb,hlt,hn,hfit,hwi]
    refine ⟨.bool true, ?_⟩
    simp [hpu]
    exact ⟨by omega,i + 1,by omega,q + 1,⟨⟨hp.symm,rfl⟩,by simp⟩,rfl,by omega⟩
  rw [hb,Bool.true_and] at hse
  rw [hb] at hpb
  rcases tf (decide (x.on = y.on)) with ho | ho
  · rw [ho] at hse heq
    have hp:=put hse
    simp [-bQ,hpb,hlt,hn,hfit,hwi]
    refine ⟨.bool false,fun σ' _=>aB.func La (heq σ'), ?_⟩
    simp [hpu]
    exact ⟨by omega,i + 1,by omega,q + 1,⟨⟨hp.symm,rfl⟩,by simp⟩,rfl,by omega⟩
  · rw [ho] at hse heq
    have hp:=xG hse
    simp [-bQ,hpb,hlt,hn,hfit,hwi]
    refine ⟨.bool true,fun σ' _=>aB.func La (heq σ'), ?_⟩
    simp [hpu]
    exact ⟨i + 1,by omega,q,⟨⟨hp.symm,rfl⟩,by simp⟩,rfl,by omega⟩
set_option maxRecDepth 100000
set_option maxHeartbeats 1000000
def eS:ByteArray:=⟨#[107,101,101,108]⟩
def cY:ByteArray:=⟨#[116,97,110,107,49]⟩
def eo:ByteArray:=⟨#[100,101,99,107]⟩
def b8:ByteArray:=⟨#[112,105,112,101,49]⟩
def cJ:ByteArray:=⟨#[104,111,108,100,49]⟩
def lf:HuM:=⟨eS,2,0,40,[],9000,10000⟩
def lu:HuM:=⟨cY,4,10,19,[eS],2000,2500⟩
def qO:HuM:=⟨eo,1,5,24,[cY,eS],3000,3000⟩
def nM:HuM:=⟨b8,5,12,30,[cY],100,200⟩
def kY:HuM:=⟨cJ,1,10,29,[eS],800,900⟩
def exQ:ar:=⟨[lf,lu,qO],[]⟩
def exP:ar:=⟨[lf,lu,qO],[⟨1,100, .empty,nM⟩,⟨3,200,cY,kY⟩]⟩
def sb:List HuM:=[lf,kY,⟨eo,1,5,24,[cJ,eS],3000,3000⟩,⟨b8,5,12,30,[cJ],100,200⟩]
def DI:List av:=[⟨cY,15,4⟩]
theorem wN:(bT exP).2.2 = 0 ∧ (bT exQ).2.2 = 0:=⟨by kernel_rfl,by kernel_rfl⟩
theorem Eo:bJ exP 200 = 0 ∧ bJ exQ 0 = 0:=⟨by kernel_rfl,by kernel_rfl⟩
theorem Er:a7 exP 200 = sb:=by kernel_rfl
theorem yp:cB exQ 0 10 19 = 0 ∧ b9 exQ 0 10 19 = .agg [ii' 5695,ii' 6440]:=⟨by kernel_rfl,by kernel_rfl⟩
theorem pn:cz exP 200 eS = 0 ∧ cy exP 200 eS = [cJ,eo,b8] ∧ cz exP 200 cY = 4:=⟨by kernel_rfl,by kernel_rfl,by kernel_rfl⟩
def De:List ByteArray → Bool
  | a :: b :: r=>decide (ltS a b) && De (b :: r)
  | _=>true
theorem ym:∀ {l:List ByteArray},De l = true → Asc l
  | [],_=>List.Pairwise.nil
  | [a],_=>List.pairwise_singleton _ _
  | a :: b :: r,h=>by
    simp only [De,Bool.and_eq_true,decide_eq_true_eq] at h
    have ih:=ym h.2
    refine List.pairwise_cons.2 ⟨fun x hx=>?_,ih⟩
    rcases List.mem_cons.1 hx with rfl | hx
    · exact h.1
    · exact fN h.1 ((List.pairwise_cons.1 ih).1 x hx)
theorem zp {m l:List ByteArray} (h:(De m && m.all (fun x=>wT x l) && l.all (fun x=>wT x m)) = true):jx l = m:=by
  simp only [Bool.and_eq_true,List.all_eq_true,lP] at h
  exact (qt (ym h.1.1) fun x=>⟨h.1.2 x,h.2 x⟩).symm
theorem jI {m:List ByteArray} {l:List (List HuM)} (h:(De m && m.all (fun x=>wT x (bU l)) && (bU l).all (fun x=>wT x m)) = true):aF l = m:=zp h
theorem p6:aF [cL 200 exP,cL 200 exQ] = [eo,cJ,eS,b8,cY]:=jI (by kernel_rfl)
theorem uR:bN exP exQ 200 = 0 ∧ bq exP exQ 200 = [eo,cJ,b8,cY]:=by
  have h1:bN exP exQ 200 = 0:=by kernel_rfl
  refine ⟨h1, ?_⟩
  unfold bq cD
  rw [if_pos h1,p6]
  kernel_rfl
theorem uT:aW [exP,exQ] 200 DI = 0 ∧ aW [exP,exQ] 200 [] = 0:=⟨by kernel_rfl,by kernel_rfl⟩
theorem Dl:jb [exP,exQ] 200 DI = [1]:=by kernel_rfl
theorem rK:a8 [exP,exQ] 200 [] = [cL 200 exP,cL 200 exQ]:=by kernel_rfl
theorem wR:cR [exP,exQ] 200 [] = 0 ∧ dA [exP,exQ] 200 [] = ([eo,eS],[eo,cJ,eS,b8,cY]):=by
  have h1:cR [exP,exQ] 200 [] = 0:=by
    unfold cR
    rw [uT.2,if_neg (by decide),rK,if_neg (by simp)]
  refine ⟨h1, ?_⟩
  unfold dA tL
  rw [if_pos h1,rK,p6]
  kernel_rfl
theorem Bi:eB [cL 200 exP,cL 200 exQ] = ⟨cJ,10,1⟩:=by
  unfold eB
  rw [p6]
  kernel_rfl
theorem CU:jA [exP,exQ] 200 [] = 0 ∧ k0 [exP,exQ] 200 [] = ⟨cJ,10,1⟩:=by
  have h1:jA [exP,exQ] 200 [] = 0:=by
    unfold jA
    rw [wR.1,if_neg (by decide),rK,Bi,if_neg (by decide)]
  refine ⟨h1, ?_⟩
  unfold k0
  rw [if_pos h1,rK,Bi]
def j0:ByteArray:=⟨#[112,97,114,116,32,107,101,101,108,32,98,101,97,109,32,48,32,52,48,32,57,48,48,48,32,49,48,48,48,48,10,112,97,114,116,32,116,97,110,107,49,32,116,97,110,107,32,49,48,32,49,57,32,50,48,48,48,32,50,53,48,48,32,107,101,101,108,10,112,97,114,116,32,100,101,99,107,32,112,108,97,116,101,32,53,32,50,52,32,51,48,48,48,32,51,48,48,48,32,116,97,110,107,49,32,107,101,101,108,10,49,48,48,32,97,100,100,32,112,105,112,101,49,32,112,105,112,101,32,49,50,32,51,48,32,49,48,48,32,50,48,48,32,116,97,110,107,49,10,50,48,48,32,115,119,97,112,32,116,97,110,107,49,32,104,111,108,100,49,32,112,108,97,116,101,32,49,48,32,50,57,32,56,48,48,32,57,48,48,32,107,101,101,108,10]⟩
theorem AT:fY exP = aL j0:=by kernel_rfl
set_option maxRecDepth 100000
set_option maxHeartbeats 1000000
theorem bt (a b:Int) (σ:ag):Spec Tryz.prog GY [ii' a,ii' b] σ fun r σ'=>r = .ret (.agg [ii' a,ii' b]) ∧ σ' = σ:=by
  refine Spec.aC (MR (by simp) (aa _ ?_)) rfl rfl σ
  simp [Jn]
theorem cw (x:HuM) (σ:ag):Spec Tryz.prog H5 [.str x.name,ii' x.kind,ii' x.first,ii' x.last, .agg [ii' x.lo,ii' x.hi], .slice 1 (x.on.map .str)] σ fun r σ'=>r = .ret x.v ∧ σ' = σ:=by
  refine Spec.aC (Ma (by simp) (aa _ ?_)) (by simp [aA,ab.pure,ah (f:=ab.str) (fun _=>rfl)]) x.pure σ
  simp [IJ,HuM.v,HuM.cells]
def exN (n:Nat):ar:=⟨exP.ship,exP.chs.take n⟩
theorem dZ (n:Nat) (hn:n ≤ 2) (σ:ag):Spec Tryz.prog GX [nn' n] σ fun r σ'=>r = .ret (exN n).v ∧ σ' = σ:=by
  refine Spec.aC (Mp (by simp) (aa _ ?_)) rfl (exN n).pure σ
  have p1:=cw nM
  have p2:=cw kY
  have p3:=cw lf
  have p4:=cw lu
  have p5:=cw qO
  have h2:(n:Int) ≤ 2:=by omega
  simp only [nM,kY,lf,lu,qO,HuM.v,HuM.cells,b8,cJ,eS,cY,eo,List.map_cons,List.map_nil] at p1 p2 p3 p4 p5
  simp [KH]
  refine af.pure oE (bt 100 200 _) ?_
  simp
  refine af.pure wV (p1 _) ?_
  simp
  refine af.pure oE (bt 800 900 _) ?_
  simp
  refine af.pure wV (p2 _) ?_
  simp
  refine ⟨_,fun σ'=>aB.func oE (bt 9000 10000 σ'), ?_⟩
  simp
  refine ⟨_,fun σ'=>aB.func wV (p3 σ'), ?_⟩
  simp
  refine ⟨_,fun σ'=>aB.func oE (bt 2000 2500 σ'), ?_⟩
  simp
  refine ⟨_,fun σ'=>aB.func wV (p4 σ'), ?_⟩
  simp
  refine ⟨_,fun σ'=>aB.func oE (bt 3000 3000 σ'), ?_⟩
  simp
  refine ⟨_,fun σ'=>aB.func wV (p5 σ'), ?_⟩
  simp [h2]
  show _ = ab.agg [_, .slice 10 ((exP.chs.take n).map ChM.v)]
  rw [List.map_take]; rfl
theorem wS:exN 2 = exP:=rfl
theorem tX:exN 0 = exQ:=rfl
theorem ni (σ:ag):Spec Tryz.prog Hk [] σ fun r σ'=>r = .ret (bx [exP,exQ]) ∧ σ' = σ:=by
  refine Spec.aC (MA (by simp) (aa _ ?_)) rfl (cA _) σ
  simp [Js]
  refine af.pure kS (dZ 2 (by omega) _) ?_
  simp
  refine af.pure kS (dZ 0 (by omega) _) ?_
  simp [wS,tX,ar.v,ar.cells,bx]
theorem nt (σ:ag):Spec Tryz.prog GN [] σ fun r σ'=>r = .ret (.str j0) ∧ σ' = σ:=by
  refine Spec.aC (Mi (by simp) (aa _ ?_)) rfl rfl σ
  simp [Ka,j0]
theorem fP:gO exP ∧ gO exQ:=by
  refine ⟨⟨⟨by simp [exP,maxLen], ?_,by simp [exP,maxLen], ?_⟩, ?_⟩,⟨⟨by simp [exQ,maxLen], ?_,by simp [exQ,maxLen], ?_⟩, ?_⟩⟩
  · intro x hx; simp [exP] at hx; rcases hx with rfl | rfl | rfl <;> simp [lf,lu,qO,maxLen]
  · intro c hc; simp [exP] at hc; rcases hc with rfl | rfl <;> simp [nM,kY,maxLen]
  · intro c hc; simp [exP] at hc; rcases hc with rfl | rfl <;> simp [nM,kY]
  · intro x hx; simp [exQ] at hx; rcases hx with rfl | rfl | rfl <;> simp [lf,lu,qO,maxLen]
  · intro c hc; simp [exQ] at hc
  · intro c hc; simp [exQ] at hc
theorem vR (ss:List av) (h:ss.length ≤ 10):Ec [exP,exQ] ss:=⟨by simp [maxLen],fun p hp=>by
  simp at hp; rcases hp with rfl | rfl
  · exact fP.1.tolJ
  · exact fP.2.tolJ,by simp only [maxLen]; omega⟩
theorem xy (σ:ag):Spec Tryz.prog C6 [exP.v,ii' 200] σ fun r σ'=>r = .ret (.tup [.agg [.slice 7 (sb.map HuM.v)],ii' 0]) ∧ σ' = σ:=by
  have h:=bZ exP.ship exP.chs fP.1.tolJ 200 σ
  rw [show (⟨exP.ship,exP.chs⟩:ar) = exP from rfl,Er,Eo.1] at h
  exact h
theorem vQ (σ:ag):Spec Tryz.prog Cl [exQ.v,ii' 0,ii' 10,ii' 19] σ fun r σ'=>r = .ret (.tup [.agg [ii' 5695,ii' 6440],ii' 0]) ∧ σ' = σ:=by
  have h:=fq exQ.ship exQ.chs fP.2.tolJ 0 10 19 σ
  rw [show (⟨exQ.ship,exQ.chs⟩:ar) = exQ from rfl,yp.1,yp.2] at h
  exact h
theorem wq (σ:ag):Spec Tryz.prog yX [exP.v,ii' 200, .str eS] σ fun r σ'=>r = .ret (.tup [.slice 1 ([cJ,eo,b8].map .str),ii' 0]) ∧ σ' = σ:=by
  have h:=dp exP.ship exP.chs fP.1.tolJ 200 eS σ
  rw [show (⟨exP.ship,exP.chs⟩:ar) = exP from rfl,pn.1,pn.2.1] at h
  exact h
theorem ur (σ:ag):Spec Tryz.prog yX [exP.v,ii' 200, .str cY] σ fun r σ'=>r = .ret (.tup [.slice 1 [],ii' 4]) ∧ σ' = σ:=by
  have h:=dp exP.ship exP.chs fP.1.tolJ 200 cY σ
  have e:cy exP 200 cY = []:=by unfold cy; rw [pn.2.2]; rfl
  rw [show (⟨exP.ship,exP.chs⟩:ar) = exP from rfl,pn.2.2,e] at h
  exact h
theorem uo (σ:ag):Spec Tryz.prog BG [exP.v,exQ.v,ii' 200] σ fun r σ'=>r = .ret (.tup [.slice 1 ([eo,cJ,b8,cY].map .str),ii' 0]) ∧ σ' = σ:=by
  have h:=cT exP.ship exQ.ship exP.chs exQ.chs fP.1.tolJ fP.2.tolJ 200 σ
  rw [show (⟨exP.ship,exP.chs⟩:ar) = exP from rfl,show (⟨exQ.ship,exQ.chs⟩:ar) = exQ from rfl,uR.1,uR.2] at h
  exact h
theorem wz (σ:ag):Spec Tryz.prog D4 [bx [exP,exQ],ii' 200,br DI] σ fun r σ'=>r = .ret (.tup [.slice 1 [ii' 1],ii' 0]) ∧ σ' = σ:=by
  have h:=iA [exP,exQ] 200 DI (vR _ (by simp [DI])) σ
  rw [Dl,uT.1] at h
  exact h
theorem xb (σ:ag):Spec Tryz.prog Fc [bx [exP,exQ],ii' 200, .slice 3 []] σ fun r σ'=>r = .ret (.tup [.slice 1 ([eo,eS].map .str), .slice 1 ([eo,cJ,eS,b8,cY].map .str),ii' 0]) ∧ σ' = σ:=by
  have h:=lI [exP,exQ] 200 [] (vR _ (by simp)) σ
  rw [wR.1,wR.2] at h
  exact h
theorem zj (σ:ag):Spec Tryz.prog Dv [bx [exP,exQ],ii' 200, .slice 3 []] σ fun r σ'=>r = .ret (.tup [.str cJ,ii' 10,ii' 1,ii' 0]) ∧ σ' = σ:=by
  have h:=jR [exP,exQ] 200 [] (vR _ (by simp)) σ
  rw [CU.1,CU.2] at h
  exact h
theorem wv (σ:ag):Spec Tryz.prog Ex [exP.v] σ fun r σ'=>r = .ret (.tup [.str j0,ii' 0]) ∧ σ' = σ:=by
  have h:=iB exP.ship exP.chs fP.1.tolJ σ
  have e:ee exP = j0:=by unfold ee; rw [if_pos wN.1,AT,cU]
  rw [show (⟨exP.ship,exP.chs⟩:ar) = exP from rfl,e,wN.1] at h
  exact h
theorem xN (σ:ag):Spec Tryz.prog E9 [.str j0] σ fun r σ'=>r = .ret (.tup [exP.v,ii' 0]) ∧ σ' = σ:=by
  have h:=fS j0 σ
  have hok:OkP exP:=(cF _).1 (by rw [← bA]; exact wN.1)
  have hsz:¬ 6000 < j0.size:=by decide
  have e:gH j0 = .tup [exP.v,ii' 0]:=by
    unfold gH
    rw [if_neg hsz,(mL _ _).2 ⟨hok,AT⟩]
  rw [e] at h
  exact h
set_option maxRecDepth 100000
set_option maxHeartbeats 1000000
def vm:List cj → Bool
  | []=>true
  | .no :: r=>vm r
  | _=>false
theorem rY (bef:List (List Nat)) (j:Nat):∀ (l:List cj) (i:Nat),jP bef j .no l i = true
  | [],_=>rfl
  | f :: r,i=>by
    have e:cj.nr .no f = false:=by cases f <;> rfl
    simp only [jP,e,rY bef j r (i + 1)]; rfl
theorem ql:∀ {l:List cj},vm l = true → ∀ e ∈ l,e = .no
  | [],_,e,h=>by cases h
  | .no :: r,h,e,he=>by
    rcases List.mem_cons.1 he with rfl | he
    · rfl
    · exact ql (l:=r) h e he
  | .rd _ :: _,h,_,_=>by cases h
  | .al _ :: _,h,_,_=>by cases h
  | .wr _ _ :: _,h,_,_=>by cases h
theorem tw (bef:List (List Nat)):∀ (l p:List cj) (i:Nat),(∀ e ∈ l,e = .no) → dY bef p l i = true:=by
  intro l
  induction l with
  | nil=>intro p i _; rfl
  | cons a r ih=>
    intro p i h
    have ha:=h a (by simp)
    subst ha
    simp only [dY,rY,ih _ _ (fun e he=>h e (by simp [he]))]; rfl
def Ae (t:Nat) (σ:ag) (e:Env) (σ':ag) (es:List cj):Prop:=e.get t = .bool true ∧ σ' = σ ∧ vm es = true
theorem Bu {sz bytes:Nat} {σ:ag} {x y:ab} {K K':ab → cj → Prop} (h:∀ v f,K' v f → K v f) (hd:uH sz bytes σ x y K'):uH sz bytes σ x y K:=by
  obtain ⟨_,_,_,_,_,_,_,_,_,hk,_,hr⟩:=ln hd
  exact hr K (h _ _ hk)
theorem Az {P:Program} {K K':Env → ag → List cj → Prop} (h:∀ e σ es,K' e σ es → K e σ es):∀ {ops:List ay} {e:Env} {σ:ag} {es:List cj},bc P ops e σ es K' → bc P ops e σ es K:=by
  intro ops
  induction ops with
  | nil=>intro e σ es hd; exact h _ _ _ hd
  | cons o r ih=>
    intro e σ es hd
    obtain ⟨d,g,i⟩:=o
    cases hc:eg g e with
    | none=>simp only [bc,hc] at hd
    | some c=>
      cases i
      all_goals simp only [bc,hc] at hd ⊢
      all_goals first
        | exact ⟨hd.1,hd.2.1,ih hd.2.2⟩
        | exact ⟨hd.1,hd.2.1,hd.2.2.1,ih hd.2.2.2⟩
        | exact ⟨hd.1,ih hd.2⟩
        | exact ⟨hd.1,hd.2.1,hd.2.2.1,hd.2.2.2.1,ih hd.2.2.2.2⟩
        | (obtain ⟨v,h1,h2⟩:=hd; exact ⟨v,h1,ih h2⟩)
        | (obtain ⟨h1,h2,v,h3,h4⟩:=hd; exact ⟨h1,h2,v,h3,ih h4⟩)
        | (obtain ⟨h1,h2,h3⟩:=hd; exact ⟨h1,h2,Bu (fun v f hv=>ih hv) h3⟩)
        | (obtain ⟨h1,h2,h3,h4⟩:=hd
           refine ⟨h1,h2,h3, ?_⟩
           split at h4
           · exact ih h4
           · exact h4)
        | (split at hd
           · rename_i h0; rw [if_pos h0]; exact ⟨hd.1,ih hd.2⟩
           · rename_i h0
             rw [if_neg h0]
             split at hd
             · rename_i h1; rw [if_pos h1]; exact ⟨hd.1,hd.2.1,hd.2.2.1,ih hd.2.2.2⟩
             · rename_i h1; rw [if_neg h1]; exact ⟨hd.1,hd.2.1,hd.2.2.1,hd.2.2.2.1,ih hd.2.2.2.2⟩)
        | skip
theorem tD {P:Program} {ops:List ay} {e:Env} {σ:ag} {K:Env → ag → List cj → Prop} (t:Nat) (h:bc P ops e σ [] (Ae t σ)) (hk:∀ e es,e.get t = .bool true → vm es = true → K e σ es):bc P ops e σ [] K:=
  Az (fun e σ' es h=>by obtain ⟨h1,rfl,h3⟩:=h; exact hk e es h1 h3) h
theorem b5 (l:List ByteArray) (hl:l.length ≤ maxLen) (σ:ag):Spec Tryz.prog E7 [.slice 1 (l.map .str), .slice 1 (l.map .str)] σ fun r σ'=>r = .ret (.bool true) ∧ σ' = σ:=by
  have:=gh l l hl σ
  rw [decide_eq_true rfl] at this
  exact this
theorem bj (σ:ag):Spec Tryz.prog H0 [] σ fun r σ'=>r = .ret (.bool true) ∧ σ' = σ:=by
  refine Spec.aC (MZ (by simp) (aa _ ?_)) rfl rfl σ
  have hP:=dZ 2 (by omega)
  have hQ:=dZ 0 (by omega)
  rw [wS] at hP
  rw [tX] at hQ
  have hsh:=xy
  have hwe:=vQ
  have hab:=wq
  have ha4:=ur
  have hdi:=uo
  have hbo:=ni
  have hag:=wz
  have hsu:=xb
  have hak:=zj
  have hwr:=wv
  have hre:=xN
  simp only [ar.v,ar.cells,bx,br] at hP hQ hsh hwe hab ha4 hdi hbo hag hsu hak hwr hre
  simp [It]
  refine af.pure kS (hP _) ?_
  simp
  refine af.pure ll (hsh _) ?_
  simp
  refine af.pure kS (hQ _) ?_
  simp
  refine af.pure yl (hwe _) ?_
  simp
  refine af.pure kS (hP _) ?_
  simp
  refine af.pure zi (hab _) ?_
  simp
  refine af.pure kS (hP _) ?_
  simp
  refine af.pure kS (hQ _) ?_
  simp
  refine af.pure uy (hdi _) ?_
  simp
  refine af.pure EF (hbo _) ?_
  simp
  refine af.pure Fh (hag _) ?_
  simp
  refine af.pure EF (hbo _) ?_
  simp
  refine af.pure HN (hsu _) ?_
  simp
  refine af.pure EF (hbo _) ?_
  simp
  refine af.pure A1 (hak _) ?_
  simp
  refine af.pure kS (hP _) ?_
  simp
  refine af.pure zc (hwr _) ?_
  simp
  refine af.pure KM (nt _) ?_
  simp
  refine af.pure Ab (hre _) ?_
  simp
  refine af.pure kS (hP _) ?_
  simp
  refine af.pure zi (ha4 _) ?_
  simp
  have p1:=cw lf
  have p2:=cw kY
  have p3:=cw ⟨eo,1,5,24,[cJ,eS],3000,3000⟩
  have p4:=cw ⟨b8,5,12,30,[cJ],100,200⟩
  simp only [lf,kY,HuM.v,HuM.cells,b8,cJ,eS,eo,List.map_cons,List.map_nil] at p1 p2 p3 p4
  refine af.pure oE (bt 9000 10000 _) ?_
  simp
  refine af.pure wV (p1 _) ?_
  simp
  refine af.pure oE (bt 800 900 _) ?_
  simp
  refine af.pure wV (p2 _) ?_
  simp
  refine af.pure oE (bt 3000 3000 _) ?_
  simp
  refine af.pure wV (p3 _) ?_
  simp
  refine af.pure oE (bt 100 200 _) ?_
  simp
  refine af.pure wV (p4 _) ?_
  simp [-bc]
  have hn1:=fun σ=>bY cY σ
  have hn2:=fun σ=>bY ⟨#[49,116,97,110,107]⟩ σ
  rw [show cg cY = true by kernel_rfl] at hn1
  rw [show cg ⟨#[49,116,97,110,107]⟩ = false by kernel_rfl] at hn2
  refine tD 0 ?_ ?_
  · have hm:∀ {l:List ByteArray},l.length ≤ 10 → l.length ≤ maxLen:=fun h=>by simp only [maxLen]; omega
    have hq:cJ.toList = [104,111,108,100,49]:=by rw [toList_data]; rfl
    have hpw:=ah (f:=HuM.v) (fun p=>p.pure) sb
    have hp1:=ah (f:=HuM.v) (fun p=>p.pure) exP.ship
    have hp2:=ah (f:=ChM.v) (fun p=>p.pure) exP.chs
    have hwm:∀ x ∈ sb,x.on.length ≤ maxLen:=by
      intro x hx; simp [sb] at hx; rcases hx with rfl | rfl | rfl | rfl <;> simp [lf,kY,maxLen]
    repeat (rw [bc]; simp [-bc])
    refine ⟨.bool true,fun σ'=>aB.func re (hn1 σ'), ?_⟩
    repeat (rw [bc]; simp [-bc])
    refine ⟨.bool false,fun σ'=>aB.func re (hn2 σ'), ?_⟩
    repeat (rw [bc]; simp [-bc])
    refine ⟨.bool true,fun σ' _=>aB.func sU (eG sb (by simp [sb,maxLen]) hwm σ'), ?_⟩
    repeat (rw [bc]; simp [-bc])
    refine ⟨.agg [ii' 5695,ii' 6440],fun σ'=>aB.func oE (bt 5695 6440 σ'), ?_⟩
    repeat (rw [bc]; simp [-bc])
    refine ⟨.bool true,fun σ'=>aB.func pD (b5 [cJ,eo,b8] (hm (by simp)) σ'), ?_⟩
    repeat (rw [bc]; simp [-bc])
    refine ⟨.bool true,fun σ'=>aB.func pD (b5 [eo,cJ,b8,cY] (hm (by simp)) σ'), ?_⟩
    repeat (rw [bc]; simp [-bc])
    refine ⟨.bool true,fun σ'=>aB.func EK (j5 [1] (by simp [maxLen]) σ'), ?_⟩
    repeat (rw [bc]; simp [-bc])
    refine ⟨.bool true,fun σ'=>aB.func pD (b5 [eo,eS] (hm (by simp)) σ'), ?_⟩
    repeat (rw [bc]; simp [-bc])
    refine ⟨.bool true,fun σ'=>aB.func pD (b5 [eo,cJ,eS,b8,cY] (hm (by simp)) σ'), ?_⟩
    repeat (rw [bc]; simp [-bc,hq])
    refine ⟨.str j0,fun σ'=>aB.func KM (nt σ'), ?_⟩
    repeat (rw [bc]; simp [-bc])
    refine ⟨.agg [.slice 7 (exP.ship.map HuM.v), .slice 10 (exP.chs.map ChM.v)],fun σ'=>aB.func kS (hP σ'), ?_⟩
    repeat (rw [bc]; simp [-bc])
    refine ⟨.bool true,fun σ' _=>aB.func GM (nz exP.ship exP.chs (by simp [exP,maxLen]) fP.1.on (by simp [exP,maxLen]) fP.1.con σ'), ?_⟩
    repeat (rw [bc]; simp [-bc])
    simp [Ae,vm,hpw,hp1,hp2]
  · intro e es h1 h2
    have hcl:∀ bef,dY bef [] es.reverse 0 = true:=fun bef=>tw bef _ [] 0 (by intro x hx; exact ql h2 x (List.mem_reverse.1 hx))
    simp [hcl,h1]
end Go.AM
