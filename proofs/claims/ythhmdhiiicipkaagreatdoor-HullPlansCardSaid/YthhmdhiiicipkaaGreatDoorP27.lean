/- Read: of the program. Ask: of the program. Ask: of the program, the answer. Differ. Differ: of the program. -/
import Derived.Test.YthhmdhiiicipkaaGreatDoorP26
import Derived.Test.YthhmdhiiicipkaaGreatDoorP24
import Derived.Test.YthhmdhiiicipkaaGreatDoorP25
namespace Go.AM
open Go.Proofs
set_option maxRecDepth 100000
set_option maxHeartbeats 1000000
theorem DL (x:ByteArray) (hx:x.size ≤ 6000) (σ:ag):Spec Tryz.prog Kg [.str x, .str nlB] σ fun r σ'=>r = .ret (.tup [.str (bytes (Lib.cut (aL x) [10]).1), .str (bytes (Lib.cut (aL x) [10]).2.1), .bool (Lib.cut (aL x) [10]).2.2]) ∧ σ' = σ:=
  Spec.cut Tryz.FA (by decide) x nlB (by omega) σ
theorem Ah (x:ByteArray) (hx:x.size ≤ 6000) (σ:ag):Spec Tryz.prog Kx [.str x, .str spB] σ fun r σ'=>r = .ret (.slice 1 ((jU x spB).map .str)) ∧ σ' = σ:=
  Spec.split Tryz.Fp (by kernel_rfl) (by decide) x spB (by omega) (by decide) σ
theorem Ed (x:ByteArray):(jU x spB).map aL = cutAt 32 (aL x):=by
  have h:=Lib.splitB_data spB 0 (Lib.countB x spB) x
  have e:(jU x spB).map aL = Lib.splitK spB.data.toList 0 (Lib.countB x spB) x.data.toList:=h
  rw [e]
  have e2:Lib.countB x spB = Lib.count x.data.toList [32]:=rfl
  rw [e2]
  unfold Lib.count
  rw [lA 32 _ _ (by omega)]
  exact qX 32 _ _ (Nat.le_refl _)
def eU:ab:=.agg [.slice 7 [], .slice 10 []]
theorem B4 (a b:Nat) (σ:ag):k9 Tryz.prog vT [.ptr a 0, .ptr b 0] σ .none fun m σ'=>m = .none ∧ σ' = σ:=by
  refine K3 (by simp) (aa _ ?_)
  simp [Es,PM.after]
theorem BV (a b:aQ) (x y z:ab) (tl:ag) :
    k9 Tryz.prog vT [.ptr 2 0, .ptr 3 0] (a :: b :: .box [x,y] :: .box [z] :: tl) (.pan rS) fun m σ'=>(∃ v,m = .recd v) ∧ σ' = a :: b :: .box [.slice 7 [], .slice 10 []] :: .box [ii' 6] :: tl:=by
  refine K3 (by simp) (aa _ ?_)
  simp [Es,PM.after,rS]
theorem mb (a b:aQ) (x y z:ab) (tl:ag) {R:PM → ag → Prop} (h:∀ v,R (.recd v) (a :: b :: .box [.slice 7 [], .slice 10 []] :: .box [ii' 6] :: tl)) :
    ak Tryz.prog vT = true ∧ k9 Tryz.prog vT [.ptr 2 0, .ptr 3 0] (a :: b :: .box [x,y] :: .box [z] :: tl) (.pan rS) R:=
  ⟨Kt,(BV a b x y z tl).mono (by rintro m σ' ⟨⟨v,rfl⟩,rfl⟩; exact h v)⟩
theorem Fv (σ:ag) {R:PM → ag → Prop} (h:R .none σ) :
    ak Tryz.prog vT = true ∧ k9 Tryz.prog vT [.ptr 2 0, .ptr 3 0] σ .none R:=
  ⟨Kt,(B4 2 3 σ).mono (by rintro m σ' ⟨rfl,rfl⟩; exact h)⟩
theorem vq (b:UInt8):∀ l,(cutAt b l).length ≤ l.length + 1 ∧ ∀ p ∈ cutAt b l,p.length ≤ l.length
  | []=>by simp [cutAt]
  | c :: r=>by
    obtain ⟨h1,h2⟩:=vq b r
    simp only [cutAt]
    split
    · refine ⟨by simp; omega,fun p hp=>?_⟩
      rcases List.mem_cons.1 hp with rfl | hp
      · simp
      · have:=h2 p hp; simp; omega
    · cases hq:cutAt b r with
      | nil=>exact absurd hq (ki b r)
      | cons x q=>
        rw [hq] at h1 h2
        refine ⟨by simp at h1 ⊢; omega,fun p hp=>?_⟩
        rcases List.mem_cons.1 hp with rfl | hp
        · have:=h2 x (by simp); simp; omega
        · have:=h2 p (by simp [hp]); simp; omega
theorem ChM.fits (l:List ChM):Fits 10 (l.map ChM.v):=by
  intro v hv
  obtain ⟨x,_,rfl⟩:=List.mem_map.1 hv
  exact ⟨rfl,rfl⟩
def gH (s:ByteArray):ab:=if 6000 < s.size then .tup [eU,ii' 3] else match qA (aL s) with
  | some p=>.tup [p.v,ii' 0]
  | none=>.tup [eU,ii' 6]
theorem zK (s:ByteArray):(gH s).pure = true:=by
  unfold gH
  split
  · rfl
  · split
    · simp [ab.pure,aA,ar.pure]
    · rfl
theorem wj (x:ByteArray):(aL x).length = x.size:=by simp [aL]
theorem sh (w:Wd):(bytes w).size = w.length:=by simp [bytes,ByteArray.size]
theorem s7 {l:List Wd} {x:HuM} (h:di l = some x):x.on.length ≤ l.length:=by
  unfold di at h
  split at h
  · split at h
    · cases h; simp; omega
    · cases h
  · cases h
theorem GJ {l : List Wd} {c : ChM} (h : chP l = some c) : c.part.on.length ≤ l.length := by
  unfold chP at h
  split at h
  · rename_i d w r
    split at h
    · cases h
    · split at h
      · obtain ⟨x,hx,rfl⟩:=Option.map_eq_some_iff.1 h
        have:=s7 hx; simp; omega
      · split at h
        · split at h
          · cases h; simp [zHu]
          · cases h
        · split at h
          · split at h
            · obtain ⟨x,hx,rfl⟩:=Option.map_eq_some_iff.1 h
              have:=s7 hx; simp at this ⊢; omega
            · cases h
          · cases h
  · cases h
theorem fS (s:ByteArray) (σ:ag):Spec Tryz.prog E9 [.str s] σ fun r σ'=>r = .ret (gH s) ∧ σ' = σ:=by
  refine Spec.aC (NX (by simp) ?_) rfl (zK s) σ
  by_cases h6:6000 < s.size
  · have hv:gH s = .tup [eU,ii' 3]:=by unfold gH; rw [if_pos h6]
    have h6I:(6000:Int) < s.size:=by omega
    rw [hv]
    refine aa _ ?_
    simp [E5,h6I,eU]
  have hv:gH s = match qA (aL s) with
    | some p=>.tup [p.v,ii' 0]
    | none=>.tup [eU,ii' 6]:=by unfold gH; rw [if_neg h6]
  have h6I:¬ (6000:Int) < s.size:=by omega
  have hno:sC (aL s) = none → gH s = .tup [eU,ii' 6]:=fun h=>by rw [hv]; unfold qA; rw [h]
  refine aa _ ?_
  simp [E5,h6I]
  refine AW.loop (ι:=Nat) (fun m fr σ'=>∃ (x:ByteArray) (p:ar) (q1 q2:Nat) (t:ag),fr = { v:=[(0, .str s),(2, .ptr 2 0),(3, .ptr 3 0),(4, .str x)],ds:=[.fn (.func (.func vT) [] [.ptr 2 0, .ptr 3 0]) []] } ∧
    σ' = .spare 7 q1 :: .spare 10 q2 :: .box [.oslice 7 (p.ship.map HuM.v) 0 q1, .oslice 10 (p.chs.map ChM.v) 1 q2] :: .box [ii' 0] :: t ∧ x.size = m ∧ p.ship.length + p.chs.length + x.size ≤ 6000 ∧ (∀ y ∈ p.ship,y.on.length ≤ 10000) ∧ (∀ c ∈ p.chs,c.part.on.length ≤ 10000) ∧ rb (cutAt 10 (aL x)) p = sC (aL s)) (fun m=>m) s.size ⟨s,⟨[],[]⟩,0,0,[],by simp,by simp,rfl,by simp; omega,by simp,by simp,rfl⟩ ?_
  rintro m fr σ' ⟨x,p,q1,q2,t,rfl,rfl,rfl,hsz,hon,hcon,hco⟩
  obtain ⟨l,cs⟩:=p
  dsimp only at hsz hon hcon
  by_cases hx:x = .empty
  · have hr:aL x = []:=by rw [hx]; rfl
    rw [hr] at hco
    have hrp:sC (aL s) = some ⟨l,cs⟩:=by rw [← hco]; rfl
    have hfp:lJ ⟨l,cs⟩:=⟨by simp only [maxLen]; omega,fun y hy=>by have:=hon y hy; simp only [maxLen]; omega,by simp only [maxLen]; omega,fun c hc=>by have:=hcon c hc; simp only [maxLen]; omega⟩
    have hck:=et l cs hfp
    have hxl:x.toList = []:=by rw [toList_data]; exact hr
    by_cases hz:(bT ⟨l,cs⟩).2.2 = 0
    rotate_left
    · have hrv:gH s = .tup [eU,ii' 6]:=by
        have hnk:okB ⟨l,cs⟩ = false:=by unfold okB; rw [← bA]; simpa using hz
        rw [hv]; unfold qA; rw [hrp]; simp only [hnk,Bool.false_and]; rfl
      have hzB:((bT ⟨l,cs⟩).2.2 == 0) = false:=by rw [beq_eq_false_iff_ne]; exact hz
      rw [hrv]
      refine aa _ ?_
      simp [hxl]
      refine af.pure ue (hck _) ?_
      simp [dc,hzB]
      refine af.pan lj (cN _) ?_
      rintro σ' rfl
      simp
      refine mb _ _ _ _ _ _ fun v=>?_
      simp [eU]
    have hok:OkP ⟨l,cs⟩:=(cF _).1 (by rw [← bA]; exact hz)
    have htx:=lQ ⟨l,cs⟩ (oL hok)
    simp only [ar.v,ar.cells] at htx
    have hbt:bytes (fY ⟨l,cs⟩) = s ↔ fY ⟨l,cs⟩ = aL s:=⟨fun h=>by rw [← h,fL],fun h=>by rw [h,cU]⟩
    by_cases ht:fY ⟨l,cs⟩ = aL s
    · have hrv:gH s = .tup [(⟨l,cs⟩:ar).v,ii' 0]:=by
        rw [hv,(mL _ _).2 ⟨hok,ht⟩]
      have hbe:=hbt.2 ht
      rw [hrv]
      refine aa _ ?_
      simp [hxl]
      refine af.pure ue (hck _) ?_
      simp [dc,hz]
      refine af.pure GU (htx _) ?_
      simp [hbe,hz,dc]
      refine af.pure lj (cr _) ?_
      simp
      refine Fv _ ?_
      simp [ar.v,ar.cells]
    · have hbe:¬ bytes (fY ⟨l,cs⟩) = s:=fun h=>ht (hbt.1 h)
      have hrv:gH s = .tup [eU,ii' 6]:=by
        rw [hv]; unfold qA; rw [hrp]
        dsimp only
        rw [if_neg (by simp [ht])]
      rw [hrv]
      refine aa _ ?_
      simp [hxl]
      refine af.pure ue (hck _) ?_
      simp [dc,hz]
      refine af.pure GU (htx _) ?_
      simp [nmd,hbe,hz,dc]
      refine af.pan lj (cN _) ?_
      rintro σ' rfl
      simp
      refine mb _ _ _ _ _ _ fun v=>?_
      simp [eU]
  have hxl:¬ x.toList = []:=fun e=>hx (by rw [toList_data] at e; exact data_inj e)
  have hx6:x.size ≤ 6000:=by omega
  have hcu:=DL x hx6
  have hnlv:(⟨#[10]⟩:ByteArray) = nlB:=rfl
  rw [Dx] at hcu
  cases hq:cutAt 10 (aL x) with
  | nil=>exact absurd hq (ki _ _)
  | cons r qs=>
  cases qs with
  | nil=>
    rw [hq] at hcu hco
    have hxr:r = aL x:=by
      have:=kJ 10 (aL x)
      rw [hq] at this; exact this
    have hrn:¬ r = []:=fun e=>hx (by rw [hxr] at e; exact data_inj e)
    have hrv:=hno (by rw [← hco]; unfold rb; rw [if_neg hrn])
    rw [hrv]
    refine aa _ ?_
    simp [hxl,hnlv]
    refine af.pure Dc (hcu _) ?_
    simp
    refine af.pan lj (cN _) ?_
    rintro σ' rfl
    simp
    refine mb _ _ _ _ _ _ fun v=>?_
    simp [eU]
  | cons q rs=>
  rw [hq] at hcu hco
  dsimp only at hcu
  have hj:aL x = r ++ 10 :: bo 10 (q :: rs):=by
    have:=kJ 10 (aL x)
    rw [hq,qN 10 r (by simp)] at this; exact this.symm
  have hcb:cutAt 10 (bo 10 (q :: rs)) = q :: rs:=nJ 10 (by simp) fun w hw=>xW 10 (aL x) w (by rw [hq]; simp [hw])
  obtain ⟨y,hy⟩:∃ y,bytes (bo 10 (q :: rs)) = y:=⟨_,rfl⟩
  have hyr:aL y = bo 10 (q :: rs):=by rw [← hy,fL]
  rw [hy] at hcu
  rw [← hyr] at hj hcb
  have hsy:x.size = r.length + 1 + y.size:=by
    have:=congrArg List.length hj
    rw [wj,List.length_append,List.length_cons,wj] at this; omega
  have hsp:=Ah (bytes r) (by rw [sh]; omega)
  have hsi:=Ed (bytes r)
  rw [fL] at hsi
  obtain ⟨ws,hws⟩:∃ ws,jU (bytes r) spB = ws:=⟨_,rfl⟩
  rw [hws] at hsp hsi
  have hcl:=vq 32 r
  rw [← hsi] at hcl
  have hwl:ws.length ≤ 6001:=by have:=hcl.1; simp at this; omega
  have hwz:∀ n ∈ ws,n.size ≤ 6000:=fun n hn=>by
    have:=hcl.2 (aL n) (List.mem_map_of_mem hn)
    rw [wj] at this; omega
  have hspv:(⟨#[32]⟩:ByteArray) = spB:=rfl
  cases ws with
  | nil=>exact absurd hsi.symm (ki _ _)
  | cons w0 wr=>
  simp only [rb, ← hsi] at hco
  have hpw:(⟨#[112,97,114,116]⟩:ByteArray) = kZ:=rfl
  have hpr:aL kZ = lR:=rfl
  by_cases hw0:w0 = kZ
  · have hrow:yq ((w0 :: wr).map aL) ⟨l,cs⟩ = (di (wr.map aL)).map fun x=>⟨l ++ [x],cs⟩:=by
      unfold yq; rw [List.map_cons,hw0,hpr]; simp
    rw [hrow] at hco
    have hch:=fun σ hb=>ir wr (by simp at hwl; omega) (fun n hn=>by have:=hwz n (by simp [hn]); omega) (t.length + 4) σ hb
    cases hp:di (wr.map aL) with
    | none=>
    rw [hp] at hco hch
    have hrv:=hno (by rw [← hco]; rfl)
    rw [hrv]
    refine aa _ ?_
    simp [hxl,hnlv]
    refine af.pure Dc (hcu _) ?_
    simp
    refine af.pure lj (cr _) ?_
    simp [hspv]
    refine af.pure ER (hsp _) ?_
    simp [hpw,hw0]
    refine af.spec nU (bX kZ wr (by simp at hwl; omega) (t.length + 4) _ (by simp [bM])) ?_
    rintro r' σ' ⟨rfl,rfl⟩
    refine ⟨_,rfl, ?_⟩
    simp
    refine ⟨[], ?_⟩
    refine af.pan ES (hch _ (by simp)) ?_
    rintro σ' ⟨m,tl,rfl⟩
    simp
    refine mb _ _ _ _ _ _ fun v=>?_
    simp [eU]
    | some z=>
    rw [hp] at hco hch
    refine aa _ ?_
    simp [hxl,hnlv]
    refine af.pure Dc (hcu _) ?_
    simp
    refine af.pure lj (cr _) ?_
    simp [hspv]
    refine af.pure ER (hsp _) ?_
    simp [hpw,hw0]
    refine af.spec nU (bX kZ wr (by simp at hwl; omega) (t.length + 4) _ (by simp [bM])) ?_
    rintro r' σ' ⟨rfl,rfl⟩
    refine ⟨_,rfl, ?_⟩
    simp
    refine ⟨[], ?_⟩
    refine af.spec ES (hch _ (by simp)) ?_
    rintro r' σ' ⟨rfl,m,tl,rfl⟩
    refine ⟨_,rfl, ?_⟩
    have hon2:=s7 hp
    have hft:=HuM.fits [z]
    simp only [List.map_cons,List.map_nil,HuM.v,HuM.cells] at hft
    simp [HuM.v,HuM.cells,hft]
    refine ⟨by omega,y.size,by omega,⟨l ++ [z],cs⟩,⟨by simp [HuM.v,HuM.cells],rfl⟩,rfl,by simp; omega,fun w hw=>?_,hcon,by rw [hcb]; exact hco⟩
    rcases List.mem_append.1 hw with h | h
    · exact hon w h
    · rw [List.mem_singleton.1 h]; simp at hon2 hwl; omega
  · have hrow:yq ((w0 :: wr).map aL) ⟨l,cs⟩ = (chP ((w0 :: wr).map aL)).map fun c=>⟨l,cs ++ [c]⟩:=by
      unfold yq; rw [if_neg]; simp; rw [← hpr]; exact fun e=>hw0 (w6.1 e)
    rw [hrow] at hco
    have hch:=fun σ hb=>fX (w0 :: wr) (by omega) (fun n hn=>by have:=hwz n hn; omega) (t.length + 4) σ hb
    cases hp:chP ((w0 :: wr).map aL) with
    | none=>
    rw [hp] at hco hch
    have hrv:=hno (by rw [← hco]; rfl)
    rw [hrv]
    refine aa _ ?_
    simp [hxl,hnlv]
    refine af.pure Dc (hcu _) ?_
    simp
    refine af.pure lj (cr _) ?_
    simp [hspv]
    refine af.pure ER (hsp _) ?_
    simp [nmd,hpw,hw0]
    refine ⟨[], ?_⟩
    refine af.pan EX (hch _ (by simp [bM])) ?_
    rintro σ' ⟨m,tl,rfl⟩
    simp
    refine mb _ _ _ _ _ _ fun v=>?_
    simp [eU]
    | some z=>
    rw [hp] at hco hch
    refine aa _ ?_
    simp [hxl,hnlv]
    refine af.pure Dc (hcu _) ?_
    simp
    refine af.pure lj (cr _) ?_
    simp [hspv]
    refine af.pure ER (hsp _) ?_
    simp [nmd,hpw,hw0]
    refine ⟨[], ?_⟩
    refine af.spec EX (hch _ (by simp [bM])) ?_
    rintro r' σ' ⟨rfl,m,tl,rfl⟩
    refine ⟨_,rfl, ?_⟩
    have hon2:=GJ hp
    have hft:=ChM.fits [z]
    simp only [List.map_cons,List.map_nil,ChM.v,ChM.cells] at hft
    simp [ChM.v,ChM.cells,hft]
    refine ⟨by omega,y.size,by omega,⟨l,cs ++ [z]⟩,⟨rfl,by simp [ChM.v,ChM.cells]⟩,rfl,by simp; omega,hon,fun w hw=>?_,by rw [hcb]; exact hco⟩
    rcases List.mem_append.1 hw with h | h
    · exact hcon w h
    · rw [List.mem_singleton.1 h]; simp at hon2 hwl; omega
set_option maxRecDepth 100000
set_option maxHeartbeats 1000000
theorem rp (L:List (List HuM)) (σ:ag) :
    Spec Tryz.prog GV [.slice 1 (L.map bd)] σ fun r σ'=>r = .ret (.func (.func sT) [] [.pval (.slice 1 (L.map bd))]) ∧ σ' = σ:=by
  refine Spec.aC (M4 (by simp) (aa _ ?_)) (by simp [aA,ab.pure,ah (f:=bd) dy]) (by simp [ab.pure,aA,ah (f:=bd) dy]) σ
  simp [Ja]
theorem oQ (L:List (List HuM)) (hL:L.length ≤ 6) (hl:∀ ns ∈ L,ns.length ≤ 12) (hnl:(aF L).length ≤ 72) (b:Nat) (σ:ag) (J:Nat → ag → Prop)
    (hy:∀ (i f:Nat) (hi:i < (aF L).length) (s tl:ag),f < 41 → J (i * 41 + f) s → s.length = σ.length →
      aB Tryz.prog (.yieldf b) [jJ (aF L)[i] f] (s ++ tl) fun r σ'=>∃ s' tl',σ' = s' ++ tl ++ tl' ∧ s'.length = σ.length ∧ r = .ret (.bool true) ∧ J (i * 41 + f + 1) s')
    (h0:J 0 σ) :
    Spec Tryz.prog sT [.yieldf b, .pval (.slice 1 (L.map bd))] σ fun r σ'=>r = .ret (.tup []) ∧ ∃ s tl,σ' = s ++ tl ∧ s.length = σ.length ∧ J ((aF L).length * 41) s:=by
  have hnm:=iz L hL hl
  obtain ⟨N,hN⟩:∃ N,aF L = N:=⟨_,rfl⟩
  simp only [hN] at hy hnl hnm ⊢
  refine JP (by simp) (aa _ ?_)
  simp [FZ]
  refine af.pure HC (hnm _) ?_
  simp
  refine AW.loop (ι:=Nat) (fun i fr σ1=>∃ s tl,fr = { v:=[(0, .yieldf b),(7, .slice 1 (N.map .str)),(8, .int .i64 N.length),(9, .int .i64 i)],ds:=[] } ∧ σ1 = s ++ tl ∧ s.length = σ.length ∧ i ≤ N.length ∧ J (i * 41) s) (fun i=>N.length - i) 0 ⟨σ,[],by simp,by simp,rfl,by omega,by simpa using h0⟩ ?_
  rintro i fr σ1 ⟨s,tl,rfl,rfl,hsl,hi,hJ⟩
  refine (Nat.lt_or_ge i N.length).elim (fun hlt=>?_) (fun hge=>?_)
  rotate_left
  · obtain rfl:i = N.length:=by omega
    refine aa _ ?_
    simp
    exact ⟨s,⟨_,rfl⟩,hsl,hJ⟩
  obtain ⟨n,hn⟩:∃ x,N[i] = x:=⟨_,rfl⟩
  have hwi:IntKind.i64.wrap ((i:Int) + 1) = ((i + 1:Nat):Int):=by rw [aj (by omega) (by omega)]; simp
  have hyi:=fun f s tl h1 h2 h3=>hy i f hlt s tl h1 h2 h3
  simp only [hn,jJ] at hyi
  refine aa _ ?_
  simp [hlt,hn]
  refine AW.loop (ι:=Nat) (fun f fr σ1=>∃ s tl,fr = { v:=[(0, .yieldf b),(4, .str n),(7, .slice 1 (N.map .str)),(8, .int .i64 N.length),(9, .int .i64 i),(13, .int .i64 f)],ds:=[] } ∧ σ1 = s ++ tl ∧ s.length = σ.length ∧ f ≤ 41 ∧ J (i * 41 + f) s) (fun f=>41 - f) 0 ⟨s,tl,by simp,rfl,hsl,by omega,hJ⟩ ?_
  rintro f fr σ1 ⟨s2,tl2,rfl,rfl,hsl2,hf,hJ2⟩
  refine (Nat.lt_or_ge f 41).elim (fun hfl=>?_) (fun hfg=>?_)
  rotate_left
  · obtain rfl:f = 41:=by omega
    refine aa _ ?_
    simp [hwi]
    exact ⟨i + 1,by omega,by simp,s2,⟨_,rfl⟩,hsl2,by omega,by rw [Nat.add_mul]; exact hJ2⟩
  have hwf:IntKind.i64.wrap ((f:Int) + 1) = ((f + 1:Nat):Int):=by rw [aj (by omega) (by omega)]; simp
  have hflI:(f:Int) < 41:=by omega
  refine aa _ ?_
  simp [hflI]
  refine (hyi f s2 tl2 hfl hJ2 hsl2).mono ?_
  rintro r σ2 ⟨s3,tl3,rfl,hs3,rfl,hJ3⟩
  simp [hwf]
  exact ⟨f + 1,by omega,by simp,s3,⟨_,rfl⟩,hs3,by omega,hJ3⟩
theorem rj (a:Nat) (r:List Nat) (hr:r.length ≤ 100) (σ:ag) :
    Spec Tryz.prog HG [.slice 1 ((a :: r).map nn')] σ fun x σ'=>x = .ret (nn' (r.foldl max a)) ∧ σ' = σ:=by
  refine Spec.aC (M6 (by simp) (aa _ ?_)) (by simp [aA,ab.pure,ah (f:=nn') (fun _=>rfl)]) rfl σ
  have h1:¬ (r.length:Int) + 1 < 1:=by omega
  simp [J9,h1]
  refine AW.loop (ι:=Nat) (fun i fr σ1=>fr = { v:=[(0, .slice 1 (nn' a :: r.map nn')),(3,nn' ((r.take i).foldl max a)),(4, .int .i64 (i + 1))],ds:=[] } ∧ i ≤ r.length) (fun i=>r.length - i) 0 ⟨by simp,by omega⟩ ?_
  rintro i fr σ1 ⟨rfl,hi⟩
  refine (Nat.lt_or_ge i r.length).elim (fun hlt=>?_) (fun hge=>?_)
  rotate_left
  · have htk:r.take i = r:=List.take_of_length_le (by omega)
    rw [htk]
    refine aa _ ?_
    simp [show ¬ i < r.length by omega]
  obtain ⟨x,hx⟩:∃ x,r[i] = x:=⟨_,rfl⟩
  have htk:(r.take (i + 1)).foldl max a = max ((r.take i).foldl max a) x:=by
    rw [List.take_succ_eq_append_getElem hlt,List.foldl_append,hx]; rfl
  have hwi:IntKind.i64.wrap ((i:Int) + 1 + 1) = ((i + 1:Nat):Int) + 1:=by rw [aj (by omega) (by omega)]; simp
  refine aa _ ?_
  simp [hlt,hx,hwi]
  refine ⟨by omega,i + 1,by omega,⟨?_,by simp⟩,by omega⟩
  rw [htk]
  split <;> omega
set_option maxRecDepth 100000
set_option maxHeartbeats 1000000
def jA (ps:List ar) (day:Int) (ss:List av):Int:=if cR ps day ss ≠ 0 then cR ps day ss else if (eB (a8 ps day ss)).left = (a8 ps day ss).length then 4 else 0
def k0 (ps:List ar) (day:Int) (ss:List av):ld:=if jA ps day ss = 0 then eB (a8 ps day ss) else ⟨.empty,0,0⟩
def bp (L:List (List HuM)):Nat → ld
  | 0=>⟨.empty,0,L.length⟩
  | p + 1=>dU L (bp L p) ((aF L).getD (p / 41) .empty) (p % 41)
def EL (L:List (List HuM)):Env:=[(6, .ptr 0 0),(7, .ptr 1 0),(8, .ptr 2 0),(11, .pval (.slice 1 (L.map bd))),(38, .func (.func sT) [] [.pval (.slice 1 (L.map bd))])]
def ze (L:List (List HuM)) (b:ld) (asg body:Code) (st:LoopState) (pd:Option Code):ag:=[.box [.str b.name], .box [ii' b.frame], .box [nn' b.left], .dead, .dead, .dfr, .looprec 68 (EL L) [39] asg body 5 st pd]
theorem Aj {ns:List HuM} (h:OkS ns) (n:ByteArray) (f:Int):∃ k:Nat,k ≤ 5 ∧ dE ns n f = k:=by
  unfold dE
  by_cases h1:findF ns n < 0
  · rw [if_pos h1]; exact ⟨0,by omega,rfl⟩
  rw [if_neg h1]
  split
  · obtain ⟨j,hj,_,_,hja⟩:=bC h1
    have h2:=(h.part ns[j] (List.getElem_mem _)).range
    rw [hja]
    simp only [cP,bu,Bool.or_eq_false_iff,Bool.not_eq_false',Bool.and_eq_true,decide_eq_true_iff,beq_eq_false_iff_ne] at h2
    exact ⟨(ns[j]).kind.toNat,by omega,by omega⟩
  · exact ⟨0,by omega,rfl⟩
def mz (l:List (List HuM)) (n:ByteArray) (f:Int):List ab:=[nn' (bf l n f 0),nn' (bf l n f 1),nn' (bf l n f 2),nn' (bf l n f 3),nn' (bf l n f 4),nn' (bf l n f 5)]
theorem xf {l:List (List HuM)} {j:Nat} (h:j < l.length) (n:ByteArray) (f k:Int):bf (l.take (j + 1)) n f k = bf (l.take j) n f k + if dE l[j] n f = k then 1 else 0:=by
  unfold bf
  rw [List.take_succ_eq_append_getElem h,List.countP_append,List.countP_cons,List.countP_nil]
  simp
theorem p9 (l:List (List HuM)) (n:ByteArray) (f k:Int):bf l n f k ≤ l.length:=List.countP_le_length
theorem at7 (a b c d e f g:aQ) (tl:ag) (X:aQ) (m:Nat) (t:ag) (h:t[m]? = some X) (i:Nat) (hi:i = tl.length + m + 7):(a :: b :: c :: d :: e :: f :: g :: (tl ++ t))[i]? = some X:=by
  subst hi
  simp only [List.getElem?_cons_succ]
  rw [List.getElem?_append_right (by omega),show tl.length + m - tl.length = m by omega]; exact h
theorem N9 (a b c d e f g:aQ) (tl:ag) (X:aQ) (m:Nat) (t:ag) (i:Nat) (hi:i = tl.length + m + 7):(a :: b :: c :: d :: e :: f :: g :: (tl ++ t)).set i X = a :: b :: c :: d :: e :: f :: g :: (tl ++ t.set m X):=by
  subst hi
  simp only [List.set_cons_succ]
  rw [List.set_append_right _ _ (by omega),show tl.length + m - tl.length = m by omega]
theorem oY (L:List (List HuM)) (i:Nat):∀ k,k ≤ 41 → bp L (i * 41 + k) = wm L ((aF L).getD i .empty) (bp L (i * 41)) k
  | 0,_=>rfl
  | k + 1,h=>by
    have ih:=oY L i k (by omega)
    show dU L (bp L (i * 41 + k)) ((aF L).getD ((i * 41 + k) / 41) .empty) ((i * 41 + k) % 41) = _
    rw [ih,show (i * 41 + k) / 41 = i by omega,show (i * 41 + k) % 41 = k by omega]; rfl
theorem sq (L:List (List HuM)):∀ (l:List ByteArray) (n:ByteArray) (b:ld),nD L (l ++ [n]) b = wm L n (nD L l b) 41
  | [],_,_=>rfl
  | a :: l,n,b=>by simp only [List.cons_append,nD]; exact sq L l n _
theorem oW (L:List (List HuM)):∀ i,i ≤ (aF L).length → bp L (i * 41) = nD L ((aF L).take i) ⟨.empty,0,L.length⟩
  | 0,_=>by simp [nD,bp]
  | i + 1,h=>by
    have ih:=oW L i (by omega)
    have h1:=oY L i 41 (by omega)
    rw [show (i + 1) * 41 = i * 41 + 41 by omega,h1,ih,List.take_succ_eq_append_getElem (by omega),sq,List.getD_eq_getElem?_getD,List.getElem?_eq_getElem (by omega)]; rfl
theorem nP (L:List (List HuM)):bp L ((aF L).length * 41) = eB L:=by
  rw [oW L _ (Nat.le_refl _),List.take_length]; rfl
theorem ud (L:List (List HuM)):∀ p,p ≤ (aF L).length * 41 →
    ((bp L p).name = .empty ∧ (bp L p).frame = 0 ∧ (bp L p).left = L.length ∨ (bp L p).name ∈ aF L ∧ 0 ≤ (bp L p).frame ∧ (bp L p).frame ≤ 40 ∧ (bp L p).left = gr L (bp L p).name (bp L p).frame ∧ (bp L p).left < L.length) ∧
    ∀ (i f:Nat) (hi:i < (aF L).length),f < 41 → i * 41 + f < p → (bp L p).left ≤ gr L (aF L)[i] f
  | 0,_=>⟨.inl ⟨rfl,rfl,rfl⟩,fun i f _ _ h=>by omega⟩
  | p + 1,h=>by
    obtain ⟨h1,h2⟩:=ud L p (by omega)
    have hi:p / 41 < (aF L).length:=by omega
    have e:bp L (p + 1) = dU L (bp L p) ((aF L)[p / 41]) (p % 41):=by
      show dU L (bp L p) ((aF L).getD (p / 41) .empty) (p % 41) = _
      rw [List.getD_eq_getElem?_getD,List.getElem?_eq_getElem hi]; rfl
    rw [e]
    unfold dU
    have hll:(bp L p).left ≤ L.length:=by
      rcases h1 with ⟨_,_,h3⟩ | ⟨_,_,_,_,h3⟩ <;> omega
    by_cases hc:gr L (aF L)[p / 41] ((p % 41:Nat):Int) < (bp L p).left
    · rw [if_pos hc]
      refine ⟨.inr ⟨List.getElem_mem _,by dsimp only; omega,by dsimp only; omega,rfl,by dsimp only; omega⟩,fun i f hif hf hlt=>?_⟩
      dsimp only
      by_cases hp:i * 41 + f < p
      · have:=h2 i f hif hf hp; omega
      · obtain rfl:i = p / 41:=by omega
        obtain rfl:f = p % 41:=by omega
        exact Nat.le_refl _
    · rw [if_neg hc]
      refine ⟨h1,fun i f hif hf hlt=>?_⟩
      by_cases hp:i * 41 + f < p
      · exact h2 i f hif hf hp
      · obtain rfl:i = p / 41:=by omega
        obtain rfl:f = p % 41:=by omega
        omega
theorem Cb {L:List (List HuM)} (hlo:∀ ns ∈ L,OkS ns):(eB L).name = .empty ↔ (eB L).left = L.length:=by
  have h:=(ud L _ (Nat.le_refl _)).1
  rw [nP] at h
  rcases h with ⟨h1,_,h3⟩ | ⟨h1,_,_,_,h3⟩
  · exact ⟨fun _=>h3,fun _=>h1⟩
  · refine ⟨fun e=>?_,fun e=>by omega⟩
    rw [e] at h1
    obtain ⟨ns,hns,hf⟩:=(qD L _).1 h1
    obtain ⟨y,hy,hyn⟩:=(dw ns _).1 hf
    have:=((hlo ns hns).part y hy).name
    rw [hyn] at this
    exact absurd this (by decide)
theorem jR (ps:List ar) (day:Int) (ss:List av) (hf:Ec ps ss) (σ:ag) :
    Spec Tryz.prog Dv [bx ps,ii' day,br ss] σ fun r σ'=>r = .ret (.tup [.str (k0 ps day ss).name,ii' (k0 ps day ss).frame,nn' (k0 ps day ss).left,ii' (jA ps day ss)]) ∧ σ' = σ:=by
  refine Spec.aC (Lr (by simp) ?_) (by simp [aA,cA,cQ,ab.pure]) (by simp [ab.pure,aA]) σ
  have hsv:=gV ps hf.n hf.fit day ss hf.sn
  simp only [bx,br] at hsv ⊢
  by_cases h:aW ps day ss = 0
  rotate_left
  · have he0:cR ps day ss = aW ps day ss:=by unfold cR; rw [if_pos h]
    have he:jA ps day ss = aW ps day ss:=by unfold jA; rw [he0,if_pos h]
    have hv:k0 ps day ss = ⟨.empty,0,0⟩:=by unfold k0; rw [he,if_neg h]
    rw [he,hv]
    refine aa _ ?_
    simp [EB]
    refine af.pure xR (hsv _) ?_
    simp [dm,h]
    rfl
  have hlf:=l0 ps day ss h
  have hnil:=vB h
  obtain ⟨hlo,hl6⟩:=vC (cu.1 h)
  rw [h] at hsv
  by_cases h0:a8 ps day ss = []
  · have he0:cR ps day ss = 9:=by unfold cR; rw [if_neg (by simp [h]),if_pos h0]
    have he:jA ps day ss = 9:=by unfold jA; rw [he0]; rfl
    have hv:k0 ps day ss = ⟨.empty,0,0⟩:=by unfold k0; rw [he]; rfl
    have hb:=List.eq_nil_of_length_eq_zero (hnil.2 h0)
    rw [he,hv]
    refine aa _ ?_
    simp [EB]
    refine af.pure xR (hsv _) ?_
    simp [dm,hb]
    rfl
  have he0:cR ps day ss = 0:=by unfold cR; rw [if_neg (by simp [h]),if_neg h0]
  have hE:jA ps day ss = if (eB (a8 ps day ss)).left = (a8 ps day ss).length then 4 else 0:=by unfold jA; rw [if_neg (by simp [he0])]
  have hR:k0 ps day ss = if jA ps day ss = 0 then eB (a8 ps day ss) else ⟨.empty,0,0⟩:=rfl
  have hbn:¬ (da ps day ss).length = 0:=fun e=>h0 (hnil.1 e)
  have hbI:¬ ((da ps day ss).length:Int) = 0:=by omega
  have hbE:¬ da ps day ss = []:=fun e=>hbn (by rw [e]; rfl)
  obtain ⟨L,hL⟩:∃ L,a8 ps day ss = L:=⟨_,rfl⟩
  rw [hL] at hlf hlo hl6 hE hR h0
  have hnl:(aF L).length ≤ 72:=by
    have h1:=gS (L.flatMap fun ns=>ns.map HuM.name)
    have h2:=gl (ships:=L) fun ns hn=>(hlo ns hn).len
    unfold bU at h2; unfold aF; omega
  have hlk:=fun σ=>rp L σ
  simp only [dm] at hlf hsv
  refine aa _ ?_
  simp [EB]
  refine af.pure xR (hsv _) ?_
  simp [hbn]
  refine af.pure Fm (hlf _) ?_
  simp
  refine af.pure Nu (hlk _) ?_
  simp
  refine AW.jT (by simp) fun asg' body' ca cb hps=>?_
  change po Tryz.prog (.func (.func sT) [] [.pval (.slice 1 (L.map bd))]) [.yieldf 6] (ze L (bp L 0) asg' body' .ready none) (wc 6 _ _)
  refine po.func JX ((oQ L hl6 (fun ns hn=>(hlo ns hn).len) hnl 6 (ze L (bp L 0) asg' body' .ready none) (fun p s=>s = ze L (bp L p) asg' body' .ready none) ?_ rfl).mono ?_)
  · rintro i f hi s tl hf41 rfl hsl
    obtain ⟨n,hn⟩:∃ n,(aF L)[i] = n:=⟨_,rfl⟩
    have hbs:bp L (i * 41 + f + 1) = dU L (bp L (i * 41 + f)) n f:=by
      show dU L (bp L (i * 41 + f)) ((aF L).getD ((i * 41 + f) / 41) .empty) ((i * 41 + f) % 41) = _
      rw [show (i * 41 + f) / 41 = i by omega,show (i * 41 + f) % 41 = f by omega,List.getD_eq_getElem?_getD,List.getElem?_eq_getElem hi,hn]; rfl
    obtain ⟨B,hB⟩:∃ B,bp L (i * 41 + f) = B:=⟨_,rfl⟩
    rw [hB] at hbs
    simp only [hbs,hB,hn]
    clear hbs hB
    refine aB.round (e:=EL L) (D:=5) (pend:=none) ca cb hps (by simp [ze]) rfl ?_
    clear ca cb
    refine aa _ ?_
    simp [kN,jJ,ze,EL]
    refine ⟨_,_,_,_,_,_,_,⟨rfl,rfl,rfl,rfl,rfl,rfl,rfl⟩, ?_⟩
    refine aa _ ?_
    simp
    have g1:∀ (a b c d e f g X:aQ) (t:ag),(a :: b :: c :: d :: e :: f :: g :: (tl ++ X :: t))[tl.length + 7]? = some X:=fun a b c d e f g X t=>at7 a b c d e f g tl X 0 _ rfl _ (by omega)
    have g2:∀ (a b c d e f g X Y:aQ) (t:ag),(a :: b :: c :: d :: e :: f :: g :: (tl ++ X :: Y :: t))[tl.length + 8]? = some Y:=fun a b c d e f g X Y t=>at7 a b c d e f g tl Y 1 _ rfl _ (by omega)
    have s2:∀ (a b c d e f g X Y Z:aQ) (t:ag),(a :: b :: c :: d :: e :: f :: g :: (tl ++ X :: Y :: t)).set (tl.length + 8) Z = a :: b :: c :: d :: e :: f :: g :: (tl ++ X :: Z :: t):=fun a b c d e f g X Y Z t=>N9 a b c d e f g tl Z 1 _ _ (by omega)
    generalize hK1:tl.length + 7 = K1 at *
    generalize hK2:tl.length + 8 = K2 at *
    refine AW.loop (ι:=Nat) (fun j fr σ'=>∃ t,fr = { v:=[(6, .ptr 0 0),(7, .ptr 1 0),(8, .ptr 2 0),(12, .ptr K1 0),(13, .ptr K2 0),(40, .slice 1 (L.map bd)),(41, .int .i64 L.length),(42, .int .i64 j)],ds:=[] } ∧ σ' = .box [.str B.name] :: .box [ii' B.frame] :: .box [nn' B.left] :: .dead :: .dead :: .dfr :: .looprec 68 [(6, .ptr 0 0),(7, .ptr 1 0),(8, .ptr 2 0),(11, .pval (.slice 1 (L.map bd))),(38, .func (.func sT) [] [.pval (.slice 1 (L.map bd))])] [39] asg' body' 5 .busy none :: (tl ++ .box [.str n,ii' f] :: .box (mz (L.take j) n f) :: t) ∧ j ≤ L.length) (fun j=>L.length - j) 0 ⟨[],by simp,by simp [mz,bf],by omega⟩ ?_
    rintro j fr σ' ⟨t,rfl,rfl,hj⟩
    refine (Nat.lt_or_ge j L.length).elim (fun hlt=>?_) (fun hge=>?_)
    · obtain ⟨ns,hns⟩:∃ x,L[j] = x:=⟨_,rfl⟩
      have hok:=hlo ns (hns ▸ List.getElem_mem _)
      obtain ⟨k,hk5,hk⟩:=Aj hok n f
      have hwj:IntKind.i64.wrap ((j:Int) + 1) = ((j + 1:Nat):Int):=by rw [aj (by omega) (by omega)]; simp
      have hse:=mS ns hok n f
      rw [hk] at hse
      simp only [jJ] at hse
      have hcs:=fun q=>xf hlt n f q
      simp only [hns,hk] at hcs
      have hcl:=fun q=>p9 (L.take j) n f q
      have htl:(L.take j).length ≤ 6:=by simp; omega
      have hw1:∀ q,IntKind.i64.wrap ((bf (L.take j) n f q:Int) + 1) = ((bf (L.take j) n f q + 1:Nat):Int):=fun q=>by
        have:=hcl q
        rw [aj (by omega) (by omega)]; simp
      have hcv:mz (L.take j) n f = [nn' (bf (L.take j) n f 0),nn' (bf (L.take j) n f 1),nn' (bf (L.take j) n f 2),nn' (bf (L.take j) n f 3),nn' (bf (L.take j) n f 4),nn' (bf (L.take j) n f 5)]:=rfl
      rw [hcv]
      rcases (by omega:k = 0 ∨ k = 1 ∨ k = 2 ∨ k = 3 ∨ k = 4 ∨ k = 5) with e | e | e | e | e | e
      all_goals
        subst e
        refine aa _ ?_
        simp [hlt,hns,bd,g1,g2]
        refine af.pure Jw (hse _ _ (at7 _ _ _ _ _ _ _ tl _ (t.length + 2) _ (by simp) _ (by omega))) ?_
        simp [g1,g2,s2,hwj,hw1]
        refine ⟨j + 1,by omega,by simp, ?_,by omega⟩
        simp [mz,hcs]
    obtain rfl:j = L.length:=by omega
    rw [List.take_length]
    have hmx:=fun σ=>rj (bf L n f 0) [bf L n f 1,bf L n f 2,bf L n f 3,bf L n f 4,bf L n f 5] (by simp) σ
    have hwo:[bf L n f 1,bf L n f 2,bf L n f 3,bf L n f 4,bf L n f 5].foldl max (bf L n f 0) = gr L n f:=rfl
    simp only [hwo,List.map_cons,List.map_nil] at hmx
    have hnl2:¬ L.length < L.length:=by omega
    by_cases hb:gr L n f < B.left
    · have hbe:dU L B n f = ⟨n,f,gr L n f⟩:=by unfold dU; rw [if_pos hb]
      have hbI:(gr L n f:Int) < B.left:=by omega
      rw [hbe]
      refine aa _ ?_
      simp [hnl2,mz,g1,g2,s2]
      refine af.pure Iy (hmx _) ?_
      simp [hb,g1]
      refine ⟨by omega,68,_,[39],asg',body',5, .busy,none,rfl,_, ?_, ?_,rfl,rfl⟩
      · exact ⟨_,rfl⟩
      · rfl
    · have hbe:dU L B n f = B:=by unfold dU; rw [if_neg hb]
      have hbI:¬ (gr L n f:Int) < B.left:=by omega
      rw [hbe]
      refine aa _ ?_
      simp [hnl2,mz,g1,g2,s2]
      refine af.pure Iy (hmx _) ?_
      simp [hb,g1]
      refine ⟨68,_,[39],asg',body',5, .busy,none,rfl,_, ?_, ?_,rfl,rfl⟩
      · exact ⟨_,rfl⟩
      · rfl
  · rintro r σ' ⟨rfl,s,tl,rfl,hsl,rfl⟩
    refine ⟨68,EL L,[39],asg',body',5, .ready,none,by simp [ze],by simp, ?_⟩
    simp [ze]
    rw [nP]
    have hno:=Cb hlo
    have hB:(⟨#[]⟩:ByteArray) = .empty:=rfl
    refine ⟨fun hb=>?_,fun hb=>?_⟩
    · have hbe:(eB L).name = .empty:=by rw [toList_data] at hb; exact data_inj hb
      rw [if_pos (hno.1 hbe)] at hE
      rw [hE,if_neg (by decide)] at hR
      rw [hE,hR]
      exact ⟨rfl,rfl,rfl,rfl⟩
    · have hbe:(eB L).name ≠ .empty:=fun e=>hb (by rw [e,toList_data]; rfl)
      rw [if_neg (fun e=>hbe (hno.2 e))] at hE
      rw [hE,if_pos rfl] at hR
      rw [hE,hR]
      exact ⟨rfl,rfl,rfl,rfl⟩
set_option maxRecDepth 100000
set_option maxHeartbeats 1000000
def bN (p q:ar) (day:Int):Int:=if (bT p).2.2 ≠ 0 then (bT p).2.2 else bJ q day
def bq (p q:ar) (day:Int):List ByteArray:=if bN p q day = 0 then cD (cL day p) (cL day q) else []
theorem kW {p q:ar} {day:Int} (h:bN p q day = 0):OkP p ∧ OkP q ∧ bJ p day = 0 ∧ bJ q day = 0 ∧ (bT p).2.2 = 0:=by
  unfold bN at h
  by_cases h1:(bT p).2.2 = 0
  · rw [if_neg (by simp [h1])] at h
    refine ⟨(cF p).1 (by rw [← bA]; exact h1),eM h, ?_,h,h1⟩
    unfold bJ at h ⊢
    rw [if_neg (by simp [h1])]
    by_cases h2:(bT q).2.2 = 0
    · rw [if_neg (by simp [h2])] at h; exact h
    · rw [if_pos h2] at h; exact absurd h h2
  · rw [if_pos h1] at h; exact absurd h h1
theorem mu {a b:List HuM} {n:ByteArray} (ha:0 ≤ findF a n) (hb:0 ≤ findF b n):bG a b n = uL (atF a n) (atF b n):=by
  have e1:=(dJ ((dw a n).1 ha)).2
  have e2:=(dJ ((dw b n).1 hb)).2
  rw [Bool.eq_iff_iff]
  simp only [bG,uL,Bool.and_eq_true,decide_eq_true_eq,e1,e2,ha,hb]
  constructor
  · rintro ⟨_,⟨⟨⟨⟨h1,h2⟩,h3⟩,h4⟩,h5⟩,h6⟩; exact ⟨⟨⟨⟨⟨trivial,h1⟩,h2⟩,h3⟩,h4,h5⟩,h6⟩
  · rintro ⟨⟨⟨⟨⟨_,h1⟩,h2⟩,h3⟩,h4,h5⟩,h6⟩; exact ⟨⟨trivial,trivial⟩,⟨⟨⟨⟨h1,h2⟩,h3⟩,h4⟩,h5⟩,h6⟩
theorem mw {a b:List HuM} (ha:OkS a) (hb:OkS b):(aF [a,b]).length ≤ 24:=by
  have:=gS ([a,b].flatMap fun ns=>ns.map HuM.name)
  have h1:=ha.len
  have h2:=hb.len
  unfold aF
  simp at this ⊢
  omega
theorem vj {α:Type} {l:List α} {i:Nat} (p:α → Bool) (h:i < l.length):(l.take (i + 1)).filter p = (l.take i).filter p ++ (if p l[i] = true then [l[i]] else []):=by
  rw [List.take_succ_eq_append_getElem h,List.filter_append,List.filter_cons,List.filter_nil]
theorem rn (ps qs:List HuM) (cs ds:List ChM) (hp:gO ⟨ps,cs⟩) (hq:gO ⟨qs,ds⟩) (day:Int) (σ:ag) :
    Spec Tryz.prog Ie [.agg [.slice 7 (ps.map HuM.v), .slice 10 (cs.map ChM.v)], .agg [.slice 7 (qs.map HuM.v), .slice 10 (ds.map ChM.v)], .int .i64 day] σ fun r σ'=>r = .ret (.tup [.slice 1 ((bq ⟨ps,cs⟩ ⟨qs,ds⟩ day).map .str),ii' (bN ⟨ps,cs⟩ ⟨qs,ds⟩ day)]) ∧ σ' = σ:=by
  refine Spec.aC (Lo (by simp) ?_) (by simp [aA,ab.pure,ah (f:=HuM.v) (fun p=>p.pure) ps,ah (f:=ChM.v) (fun c=>c.pure) cs,ah (f:=HuM.v) (fun p=>p.pure) qs,ah (f:=ChM.v) (fun c=>c.pure) ds]) (by simp [ab.pure,aA,ah (f:=ab.str) (fun _=>rfl)]) σ
  have hck:=fg ps cs hp
  have hda:=gk qs ds hq day
  by_cases h0:(bT ⟨ps,cs⟩).2.2 = 0
  rotate_left
  · have he:bN ⟨ps,cs⟩ ⟨qs,ds⟩ day = (bT ⟨ps,cs⟩).2.2:=by unfold bN; rw [if_pos h0]
    have hv:bq ⟨ps,cs⟩ ⟨qs,ds⟩ day = []:=by unfold bq; rw [he,if_neg h0]
    rw [he,hv]
    rw [bA] at h0 ⊢
    have hB:((bL ⟨ps,cs⟩).2.2 == 0) = false:=by rw [beq_eq_false_iff_ne]; exact h0
    refine aa _ ?_
    simp [FC]
    refine af.pure uA (hck _) ?_
    simp [dc,h0,hB]
  have h0R:=h0
  rw [bA] at h0R
  by_cases h1:bJ ⟨qs,ds⟩ day = 0
  rotate_left
  · have he:bN ⟨ps,cs⟩ ⟨qs,ds⟩ day = bJ ⟨qs,ds⟩ day:=by unfold bN; rw [if_neg (by simp [h0])]
    have hv:bq ⟨ps,cs⟩ ⟨qs,ds⟩ day = []:=by unfold bq; rw [he,if_neg h1]
    rw [he,hv]
    refine aa _ ?_
    simp [FC]
    refine af.pure uA (hck _) ?_
    simp [dc,h0R]
    refine af.pure sR (hda _) ?_
    simp [h1]
  have he:bN ⟨ps,cs⟩ ⟨qs,ds⟩ day = 0:=by unfold bN; rw [if_neg (by simp [h0]),h1]
  have hv:bq ⟨ps,cs⟩ ⟨qs,ds⟩ day = cD (aM day ps cs) (aM day qs ds):=by unfold bq; rw [if_pos he]; rfl
  obtain ⟨okp,okq,_,_,_⟩:=kW he
  have hpa:=bP ps cs hp okp day
  have hpb:=bP qs ds hq okq day
  have oa:OkS (aM day ps cs):=cM okp.ship okp.steps day
  have ob:OkS (aM day qs ds):=cM okq.ship okq.steps day
  rw [he,hv]
  rw [h1] at hda
  generalize aM day ps cs = a at *
  generalize aM day qs ds = b at *
  have hal:=oa.len
  have hbl:=ob.len
  have hnl:=mw oa ob
  have hfa:=HuM.fits a
  have hfb:=HuM.fits b
  have hnm:=l6 (a ++ b) (by simp; omega) (fun x hx=>by
    have hk:cg x.name = true:=by
      rcases List.mem_append.1 hx with h | h
      · exact (oa.part x h).name
      · exact (ob.part x h).name
    intro e
    rw [e] at hk
    exact absurd hk (by decide))
  have hnn:jx ((a ++ b).map HuM.name) = aF [a,b]:=by unfold aF; simp
  rw [hnn] at hnm
  simp only [List.map_append] at hnm
  unfold cD
  obtain ⟨N,hN⟩:∃ N,aF [a,b] = N:=⟨_,rfl⟩
  rw [hN] at hnm hnl ⊢
  refine aa _ ?_
  simp [FC]
  refine af.pure uA (hck _) ?_
  simp [dc,h0R]
  refine af.pure sR (hda _) ?_
  simp
  refine ⟨.slice 7 (a.map HuM.v),fun σ'=>aB.func p0 (hpa σ'), .slice 7 (b.map HuM.v),fun σ'=>aB.func p0 (hpb σ'), ?_⟩
  simp [hfa,hfb]
  refine ⟨by omega,by omega, ?_⟩
  refine af.pure JV (hnm _) ?_
  simp
  refine AW.loop (ι:=Nat) (fun i fr σ'=>∃ q t,fr = { v:=[(11, .slice 7 (a.map HuM.v)),(12, .slice 7 (b.map HuM.v)),(13, .slice 1 (N.map .str)),(14, .oslice 1 (((N.take i).filter fun n=>!bG a b n).map .str) 1 q),(15, .int .i64 i)],ds:=[] } ∧ σ' = .spare 7 2 :: .spare 1 q :: t ∧ i ≤ N.length) (fun i=>N.length - i) 0 ⟨0,[],by simp,by simp,by omega⟩ ?_
  rintro i fr σ' ⟨q,t,rfl,rfl,hi⟩
  refine (Nat.lt_or_ge i N.length).elim (fun hlt=>?_) (fun hge=>?_)
  rotate_left
  · have htk:N.take i = N:=List.take_of_length_le (by omega)
    rw [htk]
    refine aa _ ?_
    simp [show ¬ i < N.length by omega]
  obtain ⟨n,hn⟩:∃ x,N[i] = x:=⟨_,rfl⟩
  have hwi:IntKind.i64.wrap ((i:Int) + 1) = ((i + 1:Nat):Int):=by rw [aj (by omega) (by omega)]; simp
  have htk:=vj (l:=N) (fun n=>!bG a b n) hlt
  simp only [hn] at htk
  have hln:((N.take i).filter fun n=>!bG a b n).length ≤ 24:=Nat.le_trans (List.length_filter_le _ _) (by simp; omega)
  have hfit:=gX [n]
  simp at hfit
  have hfda:=fun σ=>bW a n (by simp only [maxLen]; omega) σ
  have hfdb:=fun σ=>bW b n (by simp only [maxLen]; omega) σ
  have put:bG a b n = false → ((N.take (i + 1)).filter fun n=>!bG a b n).map ab.str = ((N.take i).filter fun n=>!bG a b n).map ab.str ++ [ab.str n]:=fun hs=>by rw [htk,hs]; simp
  have xG:bG a b n = true → ((N.take (i + 1)).filter fun n=>!bG a b n).map ab.str = ((N.take i).filter fun n=>!bG a b n).map ab.str:=fun hs=>by rw [htk,hs]; simp
  by_cases ga:findF a n < 0
  · have hs:bG a b n = false:=by
      unfold bG
      rw [show decide (0 ≤ findF a n) = false by simpa using ga]; simp
    have hp:=put hs
    refine aa _ ?_
    simp [hlt,hn]
    refine ⟨ii' (findF a n),fun σ' _=>aB.func iQ (hfda σ'),ii' (findF b n),fun σ' _=>aB.func iQ (hfdb σ'), ?_⟩
    simp [ga]
    refine ⟨.bool true, ?_⟩
    simp [hfit,hwi]
    exact ⟨by omega,i + 1,by omega,q + 1,⟨⟨hp.symm,rfl⟩,by simp⟩,rfl,by omega⟩
  by_cases gb:findF b n < 0
  · have hs:bG a b n = false:=by
      unfold bG
      rw [show decide (0 ≤ findF b n) = false by simpa using gb]; simp
    have hp:=put hs
    refine aa _ ?_
    simp [hlt,hn]
    refine ⟨ii' (findF a n),fun σ' _=>aB.func iQ (hfda σ'),ii' (findF b n),fun σ' _=>aB.func iQ (hfdb σ'), ?_⟩
    simp [ga,gb]
    refine ⟨.bool true, ?_⟩
    simp [hfit,hwi]
    exact ⟨by omega,i + 1,by omega,q + 1,⟨⟨hp.symm,rfl⟩,by simp⟩,rfl,by omega⟩
  obtain ⟨j,hj,ej,_,hja⟩:=bC ga
  obtain ⟨k,hk,ek,_,hkb⟩:=bC gb
  have hse:=mu (a:=a) (b:=b) (n:=n) (by omega) (by omega)
  obtain ⟨x,hx⟩:∃ x,a[j] = x:=⟨_,rfl⟩
  obtain ⟨y,hy⟩:∃ x,b[k] = x:=⟨_,rfl⟩
  rw [hja,hkb,hx,hy] at hse
  have hxo:=fC oa x (hx ▸ List.getElem_mem _)
  have heq:=gg x y (by simp only [maxLen]; omega)
  simp only [HuM.v,HuM.cells] at heq
  rw [ej] at hfda
  rw [ek] at hfdb
  rcases tf (uL x y) with hs | hs
  · have hp:=put (hse.trans hs)
    rw [hs] at heq
    refine aa _ ?_
    simp [hlt,hn]
    refine ⟨ii' j,fun σ' _=>aB.func iQ (hfda σ'),ii' k,fun σ' _=>aB.func iQ (hfdb σ'), ?_⟩
    simp [hj,hk,hx,hy,HuM.v,HuM.cells]
    refine ⟨.bool false,fun σ' _=>aB.func Du (heq σ'), ?_⟩
    simp [hfit,hwi]
    exact ⟨by omega,i + 1,by omega,q + 1,⟨⟨hp.symm,rfl⟩,by simp⟩,rfl,by omega⟩
  · have hp:=xG (hse.trans hs)
    rw [hs] at heq
    refine aa _ ?_
    simp [hlt,hn]
    refine ⟨ii' j,fun σ' _=>aB.func iQ (hfda σ'),ii' k,fun σ' _=>aB.func iQ (hfdb σ'), ?_⟩
    simp [hj,hk,hx,hy,HuM.v,HuM.cells]
    refine ⟨.bool true,fun σ' _=>aB.func Du (heq σ'), ?_⟩
    simp [hfit,hwi,show ¬ (j:Int) < 0 by omega,show ¬ (k:Int) < 0 by omega]
    exact ⟨i + 1,by omega,q,⟨⟨hp.symm,rfl⟩,by simp⟩,rfl,by omega⟩
set_option maxRecDepth 100000
set_option maxHeartbeats 1000000
def qh (x:HuM):List ab:=[.str x.name,ii' x.kind,ii' x.first,ii' x.last,ii' x.lo,ii' x.hi]
theorem DB (x y:HuM):(bQ (qh x) (qh y) && decide (x.on = y.on)) = uL x y:=by
  rw [Bool.eq_iff_iff]
  simp only [qh,bQ,fa,uL,Bool.and_eq_true,decide_eq_true_eq,Dt,beq_iff_eq]
  constructor
  · rintro ⟨⟨h1,h2,h3,h4,h5,h6,_⟩,h7⟩; exact ⟨⟨⟨⟨⟨h1,h2⟩,h3⟩,h4⟩,h5,h6⟩,h7⟩
  · rintro ⟨⟨⟨⟨⟨h1,h2⟩,h3⟩,h4⟩,h5,h6⟩,h7⟩; exact ⟨⟨h1,h2,h3,h4,h5,h6,trivial⟩,h7⟩
theorem pJ (ps:List HuM) (cs:List ChM) (hf:lJ ⟨ps,cs⟩) (day:Int) (h:bJ ⟨ps,cs⟩ day = 0) (σ:ag) :
    Spec Tryz.prog FB [.agg [.slice 7 (ps.map HuM.v), .slice 10 (cs.map ChM.v)], .int .i64 day] σ fun r σ'=>r = .ret (.tup [.agg [.slice 7 ((aM day ps cs).map HuM.v)],ii' 0]) ∧ ∃ tl,σ' = σ ++ tl:=by
  have hok:=eM h
  have e:fH day ps ps cs = aM day ps cs:=dF day cs ps 0 hok.ship hok.steps
  refine (dG ps cs hf day σ).mono ?_
  rintro r σ' ⟨ns,rfl,hns,htl⟩
  rw [hns h,h, ← e]
  exact ⟨rfl,htl⟩
theorem cT (ps qs:List HuM) (cs ds:List ChM) (hp:lJ ⟨ps,cs⟩) (hq:lJ ⟨qs,ds⟩) (day:Int) (σ:ag) :
    Spec Tryz.prog BG [.agg [.slice 7 (ps.map HuM.v), .slice 10 (cs.map ChM.v)], .agg [.slice 7 (qs.map HuM.v), .slice 10 (ds.map ChM.v)], .int .i64 day] σ fun r σ'=>r = .ret (.tup [.slice 1 ((bq ⟨ps,cs⟩ ⟨qs,ds⟩ day).map .str),ii' (bN ⟨ps,cs⟩ ⟨qs,ds⟩ day)]) ∧ σ' = σ:=by
  refine Spec.aC (ML (by simp) ?_) (by simp [aA,ab.pure,ah (f:=HuM.v) (fun p=>p.pure) ps,ah (f:=ChM.v) (fun c=>c.pure) cs,ah (f:=HuM.v) (fun p=>p.pure) qs,ah (f:=ChM.v) (fun c=>c.pure) ds]) (by simp [ab.pure,aA,ah (f:=ab.str) (fun _=>rfl)]) σ
  have hck:=et ps cs hp
  have hop:=dG ps cs hp day
  have hoq:=dG qs ds hq day
  by_cases h0:(bT ⟨ps,cs⟩).2.2 = 0
  rotate_left
  · have he:bN ⟨ps,cs⟩ ⟨qs,ds⟩ day = (bT ⟨ps,cs⟩).2.2:=by unfold bN; rw [if_pos h0]
    have hv:bq ⟨ps,cs⟩ ⟨qs,ds⟩ day = []:=by unfold bq; rw [he,if_neg h0]
    have hB:((bT ⟨ps,cs⟩).2.2 == 0) = false:=by rw [beq_eq_false_iff_ne]; exact h0
    rw [he,hv]
    refine aa _ ?_
    simp [Em]
    refine AW.scope (aa _ ?_)
    simp
    refine af.pure ue (hck _) ?_
    simp [dc,h0]
  by_cases h1:bJ ⟨qs,ds⟩ day = 0
  rotate_left
  · have he:bN ⟨ps,cs⟩ ⟨qs,ds⟩ day = bJ ⟨qs,ds⟩ day:=by unfold bN; rw [if_neg (by simp [h0])]
    have hv:bq ⟨ps,cs⟩ ⟨qs,ds⟩ day = []:=by unfold bq; rw [he,if_neg h1]
    rw [he,hv]
    refine aa _ ?_
    simp [Em]
    refine AW.scope (aa _ ?_)
    simp
    refine af.pure ue (hck _) ?_
    simp [dc,h0]
    refine af.spec rq (hoq _) ?_
    rintro r σ' ⟨ns,rfl,hns,tl,rfl⟩
    refine ⟨_,rfl, ?_⟩
    simp [h1]
  have he:bN ⟨ps,cs⟩ ⟨qs,ds⟩ day = 0:=by unfold bN; rw [if_neg (by simp [h0]),h1]
  have hv:bq ⟨ps,cs⟩ ⟨qs,ds⟩ day = cD (aM day ps cs) (aM day qs ds):=by unfold bq; rw [if_pos he]; rfl
  obtain ⟨okp,okq,h2,_,_⟩:=kW he
  have oa:OkS (aM day ps cs):=cM okp.ship okp.steps day
  have ob:OkS (aM day qs ds):=cM okq.ship okq.steps day
  rw [he,hv]
  have hop:=pJ ps cs hp day h2
  have hoq:=pJ qs ds hq day h1
  generalize aM day ps cs = a at *
  generalize aM day qs ds = b at *
  have hal:=oa.len
  have hbl:=ob.len
  have hnl:=mw oa ob
  have hnm:=iz [a,b] (by simp) (by simp; omega)
  unfold cD
  obtain ⟨N,hN⟩:∃ N,aF [a,b] = N:=⟨_,rfl⟩
  rw [hN] at hnm hnl ⊢
  simp only [bd,List.map_cons,List.map_nil] at hnm
  refine aa _ ?_
  simp [Em]
  refine AW.scope (aa _ ?_)
  simp
  refine af.pure ue (hck _) ?_
  simp [dc,h0]
  refine af.tl rq (hoq _) fun tb=>?_
  simp
  refine af.tl rq (hop _) fun ta=>?_
  simp
  refine af.pure HC (hnm _) ?_
  simp
  generalize hIA:tb.length + (ta.length + 1) + 1 = IA
  generalize hIB:tb.length + 1 = IB
  have kb:∀ (o A B:aQ) (t:ag),(o :: (tb ++ B :: (ta ++ A :: t)))[IB]? = some B:=fun o A B t=>by rw [← hIB]; simp
  have ka:∀ (o A B:aQ) (t:ag),(o :: (tb ++ B :: (ta ++ A :: t)))[IA]? = some A:=fun o A B t=>by
    rw [← hIA,List.getElem?_cons_succ,List.getElem?_append_right (by omega),show tb.length + (ta.length + 1) - tb.length = ta.length + 1 by omega,List.getElem?_cons_succ]; simp
  refine AW.loop (ι:=Nat) (fun i fr σ'=>∃ q t,fr = { v:=[(6, .oslice 1 (((N.take i).filter fun n=>!bG a b n).map .str) 0 q),(8, .ptr IB 0),(9, .ptr IA 0),(44, .slice 1 (N.map .str)),(45, .int .i64 N.length),(46, .int .i64 i)],ds:=[] } ∧ σ' = .spare 1 q :: (tb ++ .box [.slice 7 (b.map HuM.v)] :: (ta ++ .box [.slice 7 (a.map HuM.v)] :: t)) ∧ i ≤ N.length) (fun i=>N.length - i) 0 ⟨0,[],by simp,by simp,by omega⟩ ?_
  rintro i fr σ' ⟨q,t,rfl,rfl,hi⟩
  refine (Nat.lt_or_ge i N.length).elim (fun hlt=>?_) (fun hge=>?_)
  rotate_left
  · have htk:N.take i = N:=List.take_of_length_le (by omega)
    rw [htk]
    refine aa _ ?_
    simp [show ¬ i < N.length by omega]
    done
  obtain ⟨n,hn⟩:∃ x,N[i] = x:=⟨_,rfl⟩
  have hwi:IntKind.i64.wrap ((i:Int) + 1) = ((i + 1:Nat):Int):=by rw [aj (by omega) (by omega)]; simp
  have htk:=vj (l:=N) (fun n=>!bG a b n) hlt
  simp only [hn] at htk
  have hln:((N.take i).filter fun n=>!bG a b n).length ≤ 24:=Nat.le_trans (List.length_filter_le _ _) (by simp; omega)
  have hfit:=gX [n]
  simp at hfit
  have hfda:=aO a n (by simp only [maxLen]; omega) IA _ (ka (.spare 1 q) (.box [.slice 7 (a.map HuM.v)]) (.box [.slice 7 (b.map HuM.v)]) t)
  have hfdb:=aO b n (by simp only [maxLen]; omega) IB _ (kb (.spare 1 q) (.box [.slice 7 (a.map HuM.v)]) (.box [.slice 7 (b.map HuM.v)]) t)
  have put:bG a b n = false → ((N.take (i + 1)).filter fun n=>!bG a b n).map ab.str = ((N.take i).filter fun n=>!bG a b n).map ab.str ++ [ab.str n]:=fun hs=>by rw [htk,hs]; simp
  have xG:bG a b n = true → ((N.take (i + 1)).filter fun n=>!bG a b n).map ab.str = ((N.take i).filter fun n=>!bG a b n).map ab.str:=fun hs=>by rw [htk,hs]; simp
  by_cases ga:findF a n < 0
  · have hs:bG a b n = false:=by
      unfold bG
      rw [show decide (0 ≤ findF a n) = false by simpa using ga]; simp
    have hp:=put hs
    have ga':¬ 0 ≤ findF a n:=by omega
    refine aa _ ?_
    simp [hlt,hn]
    refine af.pure eV hfda ?_
    simp [hlt,hn]
    refine af.pure eV hfdb ?_
    simp [ga',hlt,hn,hfit,hwi]
    exact ⟨by omega,i + 1,by omega,q + 1,⟨⟨hp.symm,rfl⟩,by simp⟩,rfl,by omega⟩
  by_cases gb:findF b n < 0
  · have hs:bG a b n = false:=by
      unfold bG
      rw [show decide (0 ≤ findF b n) = false by simpa using gb]; simp
    have hp:=put hs
    have ga':0 ≤ findF a n:=by omega
    have gb':¬ 0 ≤ findF b n:=by omega
    refine aa _ ?_
    simp [hlt,hn]
    refine af.pure eV hfda ?_
    simp [hlt,hn]
    refine af.pure eV hfdb ?_
    simp [ga',gb',hlt,hn,hfit,hwi]
    exact ⟨by omega,i + 1,by omega,q + 1,⟨⟨hp.symm,rfl⟩,by simp⟩,rfl,by omega⟩
  obtain ⟨j,hj,ej,_,hja⟩:=bC ga
  obtain ⟨k,hk,ek,_,hkb⟩:=bC gb
  have hse:=mu (a:=a) (b:=b) (n:=n) (by omega) (by omega)
  obtain ⟨x,hx⟩:∃ x,a[j] = x:=⟨_,rfl⟩
  obtain ⟨y,hy⟩:∃ x,b[k] = x:=⟨_,rfl⟩
  rw [hja,hkb,hx,hy, ← DB] at hse
  have hxo:=fC oa x (hx ▸ List.getElem_mem _)
  have heq:=px x.on y.on (by simp only [maxLen]; omega)
  have hplx:=gw x
  have hply:=gw y
  simp only [HuM.v,HuM.cells] at hplx hply
  rw [ej] at hfda
  rw [ek] at hfdb
  have hj0:(0:Int) ≤ j:=by omega
  have hk0:(0:Int) ≤ k:=by omega
  obtain ⟨pb,hpb⟩:∃ pb,bQ (qh x) (qh y) = pb:=⟨_,rfl⟩
  rw [hpb] at hse
  simp only [qh] at hpb
  refine aa _ ?_
  simp [hlt,hn]
  refine af.pure eV hfda ?_
  simp [hlt,hn]
  refine af.pure eV hfdb ?_
  simp [-bQ,hj,hk,hx,hy,hj0,hk0,ka,kb,HuM.v,HuM.cells]
  refine ⟨by omega,_,fun σ' _=>aB.func GG (hplx σ'),_,fun σ' _=>aB.func GG (hply σ'), ?_⟩
  have hpu:=ah (f:=ab.str) (fun _=>rfl) x.on
  rcases tf pb with hb | hb
  · rw [hb] at hpb hse
    have hp:=put (hse.trans rfl)
    simp [-bQ,hpb,hlt,hn,hfit,hwi]
    refine ⟨.bool true, ?_⟩
    simp [hpu]
    exact ⟨by omega,i + 1,by omega,q + 1,⟨⟨hp.symm,rfl⟩,by simp⟩,rfl,by omega⟩
  rw [hb,Bool.true_and] at hse
  rw [hb] at hpb
  rcases tf (decide (x.on = y.on)) with ho | ho
  · rw [ho] at hse heq
    have hp:=put hse
    simp [-bQ,hpb,hlt,hn,hfit,hwi]
    refine ⟨.bool false,fun σ' _=>aB.func La (heq σ'), ?_⟩
    simp [hpu]
    exact ⟨by omega,i + 1,by omega,q + 1,⟨⟨hp.symm,rfl⟩,by simp⟩,rfl,by omega⟩
  · rw [ho] at hse heq
    have hp:=xG hse
    simp [-bQ,hpb,hlt,hn,hfit,hwi]
    refine ⟨.bool true,fun σ' _=>aB.func La (heq σ'), ?_⟩
    simp [hpu]
    exact ⟨i + 1,by omega,q,⟨⟨hp.symm,rfl⟩,by simp⟩,rfl,by omega⟩
end Go.AM
