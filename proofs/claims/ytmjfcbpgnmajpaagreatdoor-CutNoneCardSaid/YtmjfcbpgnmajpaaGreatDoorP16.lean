/- The check of a ship without changes: of the program; both say the same. The check of a ship without changes: the program says what the document does. The check of a net of tanks: of the program. .. -/
import Derived.Test.YtmjfcbpgnmajpaaGreatDoorP15
import Derived.Test.YtmjfcbpgnmajpaaGreatDoorP14
namespace Go.AM
open Go.Proofs
set_option maxRecDepth 100000
set_option maxHeartbeats 1000000
def qH (all:List HuM):List HuM → Nat → Int × Int × Int
  | [],_=>(0,0,0)
  | x :: r,i=>if dX all x i ≠ 0 then (1,i,dX all x i) else qH all r (i + 1)
def fY (ps:List HuM):Int × Int × Int:=if 12 < ps.length then (1,0,3) else qH ps ps 0
theorem aj.tl {P:Program} {f:FuncId} (hb:ak P f = true) {args:List ab} {σ:af} {v:ab} {K Kp:ab → af → Prop} (hs:Spec P f args σ fun r σ'=>r = .ret v ∧ ∃ tl,σ' = σ ++ tl) (hq:∀ tl,K v (σ ++ tl)) :
    @aj P (.func (.func f) [] []) args σ ⟨K⟩ ⟨Kp⟩:=
  (aC.func (first:=[]) (caps:=[]) hb (by rw [List.nil_append,List.append_nil]; exact hs)).mono (by rintro r σ' ⟨rfl,tl,rfl⟩; exact hq tl)
theorem aj.tlE {P:Program} {f:FuncId} (hb:ak P f = true) {args:List ab} {σ:af} {α:Type} {v:α → ab} {K Kp:ab → af → Prop} (hs:Spec P f args σ fun r σ'=>∃ w,r = .ret (v w) ∧ ∃ tl,σ' = σ ++ tl) (hq:∀ w tl,K (v w) (σ ++ tl)) :
    @aj P (.func (.func f) [] []) args σ ⟨K⟩ ⟨Kp⟩:=
  (aC.func (first:=[]) (caps:=[]) hb (by rw [List.nil_append,List.append_nil]; exact hs)).mono (by rintro r σ' ⟨w,rfl,tl,rfl⟩; exact hq w tl)
theorem qN (σ:af):Spec Tryz.prog Dn [] σ fun r σ'=>∃ b:Nat,r = .ret (.map b) ∧ ∃ tl,σ' = σ ++ tl:=by
  refine Mh (by simp) (dm _ ?_)
  simp [GO]
theorem qX (ps:List HuM) (hok:DL ps) (σ:af) :
    Spec Tryz.prog Ii [.agg [.slice 7 (ps.map HuM.v), .slice 10 []], .int .i64 0] σ fun r σ'=>∃ s,r = .ret (.tup [s,ii' (fY ps).1,ii' (fY ps).2.1,ii' (fY ps).2.2]) ∧ ∃ tl,σ' = σ ++ tl:=by
  obtain ⟨hl,hon⟩:=hok
  refine RB (by simp) (dm _ ?_)
  simp [Pg]
  refine ⟨fun h=>by rw [fY,if_pos (by omega)]; simp,fun h=>?_⟩
  have hc:fY ps = qH ps ps 0:=by rw [fY,if_neg (by omega)]
  refine AW.loop (ι:=Nat) (fun i fr σ'=>∃ tl,fr = { v:=[(1, .int .i64 0),(2, .pval (.agg [.slice 7 (ps.map HuM.v), .slice 10 []])),(4, .ptr σ.length 0),(8, .ptr (σ.length + 1) 0),(28, .slice 7 (ps.map HuM.v)),(29, .int .i64 ps.length),(30, .int .i64 i)],ds:=[] } ∧ σ' = σ ++ .box [.slice 7 []] :: .box [.slice 7 (ps.map HuM.v)] :: tl ∧ i ≤ ps.length ∧ fY ps = qH ps (ps.drop i) i) (fun i=>ps.length - i) 0 ⟨[],by simp,rfl,by simp,by simp [hc]⟩ ?_
  rintro i fr σ' ⟨tl,rfl,rfl,hi,hpi⟩
  refine dm _ ?_
  simp
  refine ⟨fun hlt=>?_,fun hge=>?_⟩
  · have hd:ps.drop i = ps[i] :: ps.drop (i + 1):=List.drop_eq_getElem_cons hlt
    rw [hd] at hpi
    simp only [qH] at hpi
    obtain ⟨x,hx⟩:∃ x,ps[i] = x:=⟨_,rfl⟩
    have hxo:=hon x (hx ▸ List.getElem_mem _)
    rw [hx] at hpi
    simp [hlt,hx,HuM.v,HuM.cells]
    have hq:=lr ps x i hl hi hxo (σ.length + 1) (σ ++ .box [.slice 7 []] :: .box [.slice 7 (ps.map HuM.v)] :: (tl ++ [.dead])) (by simp)
    refine aj.tl Od hq fun t2=>?_
    refine (Classical.em (dX ps x i = 0)).elim (fun h3=>?_) (fun h3=>?_)
    · simp [h3]
      refine ⟨i + 1,by omega,an (by omega) (by simp only [maxLen] at hl; omega),by omega, ?_⟩
      rw [hpi,if_neg (by simp [h3])]
    · simp [h3]
      rw [hpi,if_pos h3]
      simp
  have hz:ps.drop i = []:=List.drop_eq_nil_of_le hge
  rw [hz] at hpi
  refine aj.tlE ON (qN _) fun w t2=>?_
  simp
  refine AW.loop (ι:=Nat) (fun _ fr σ'=>fr = { v:=[(1, .int .i64 0),(4, .ptr σ.length 0),(8, .ptr (σ.length + 1) 0),(11, .int .i64 0),(12, .map w),(52, .slice 10 []),(53, .int .i64 0),(54, .int .i64 0)],ds:=[] } ∧ σ' = σ ++ .box [.slice 7 (ps.map HuM.v)] :: .box [.slice 7 (ps.map HuM.v)] :: (tl ++ t2)) (fun _=>0) 0 (by simp) ?_
  rintro _ fr σ' ⟨rfl,rfl⟩
  refine dm _ ?_
  simp
  rw [hpi]
  simp [qH]
theorem qP (ps:List HuM) (hok:DL ps) (σ:af) :
    Spec Tryz.prog IB [.agg [.slice 7 (ps.map HuM.v), .slice 10 []]] σ fun r σ'=>r = .ret (aS (fY ps)) ∧ σ' = σ:=by
  refine Spec.ay (PC (by simp) (dm _ ?_)) (by simp [ab.pure,aM,av (f:=HuM.v) (fun p=>p.pure) ps]) (by simp [aS,ab.pure,aM]) σ
  simp [Pa]
  refine aj.tlE Rb (qX ps hok _) fun s tl=>?_
  simp [aS]
theorem uf {α:Type} (p:α → Bool):∀ (l:List α) (k i:Nat),0 ≤ bK p (l.take k) i ↔ (0 ≤ bK p l i ∧ bK p l i < i + k)
  | [],k,i=>by simp [bK]
  | a :: r,0,i=>by
    simp only [List.take_zero,bK]
    constructor
    · intro h; omega
    · rintro ⟨h1,h2⟩
      exfalso
      by_cases hp:p a = true
      · rw [if_pos hp] at h2; omega
      · rw [if_neg hp] at h1 h2
        obtain ⟨j,h3,_⟩:=vr p r (i + 1) h1
        rw [h3] at h2; push_cast at h2; omega
  | a :: r,k + 1,i=>by
    simp only [List.take_succ_cons,bK]
    by_cases hp:p a = true
    · rw [if_pos hp,if_pos hp]; constructor
      · intro h; exact ⟨h,by push_cast; omega⟩
      · intro h; exact h.1
    · rw [if_neg hp,if_neg hp,uf p r k (i + 1)]
      push_cast
      constructor <;> rintro ⟨h1,h2⟩ <;> exact ⟨h1,by omega⟩
theorem sE (ps:List HuM) (n:ByteArray) (k:Nat):0 ≤ findF (ps.take k) n ↔ (0 ≤ findF ps n ∧ findF ps n < k):=by
  simpa [findF] using uf (fun y=>y.name.toList == n.toList) ps k 0
theorem C4 (on:List ByteArray):∀ (l:List ByteArray) (i:Nat),tN on l i = rO on l i
  | [],_=>rfl
  | n :: r,i=>by
    simp only [tN,rO,C4 on r (i + 1)]
    congr 1
    rw [Bool.eq_iff_iff,decide_eq_true_iff,iw]
    simp only [List.any_eq_true,beq_iff_eq]
    constructor <;> rintro ⟨y,h1,h2⟩ <;> exact ⟨y,h1,h2.symm⟩
theorem E5 (lo hi n:Int):gA lo hi n = !e7 n lo hi:=by
  simp only [gA,e7]
  rw [Bool.eq_iff_iff]
  simp <;> omega
theorem CJ (x:HuM):(aW 1 5 [x.kind] || aW 0 40 [x.first,x.last] || aW 1 1000000 [x.lo,x.hi]) = dx x:=by
  simp only [aW,List.any_cons,List.any_nil,E5,dx,gM,bc,Bool.or_false]
  cases e7 x.kind 1 5 <;> cases e7 x.first 0 40 <;> cases e7 x.last 0 40 <;> cases e7 x.lo 1 1000000 <;> cases e7 x.hi 1 1000000 <;> simp
  split <;> simp
theorem Ay (x:HuM) (h:dx x = false):gM x ≠ 0 ↔ x.hi < x.lo:=by
  simp only [dx,Bool.or_eq_false_iff] at h
  have h4:=h.2
  simp only [gM,bc] at h4 ⊢
  split at h4
  · simp at h4
  · rename_i h5
    rw [if_neg h5]
    split
    · simp; omega
    · simp; omega
theorem EX {a b:HuM} (ha:a.first ≤ a.last) (hb:b.first ≤ b.last):yr a b = fu a b:=by
  simp only [yr,fu]
  rw [Bool.eq_iff_iff]
  simp
  omega
theorem Bh {ps:List HuM} {x:HuM} {k:Nat} (h:dX ps x k = 0):x.first ≤ x.last:=by
  unfold dX at h
  split at h
  · cases h
  split at h
  · cases h
  split at h
  · cases h
  split at h
  · cases h
  · omega
theorem se (ps:List HuM) (x:HuM) (i:Nat) (hv:∀ y ∈ ps.take i,y.first ≤ y.last):dX ps x i = cV fu x (ps.take i) (ps.take i):=by
  unfold dX cV
  rw [CJ,C4]
  by_cases h1:dw x.name = false
  · rw [if_pos h1,if_pos h1]
  rw [if_neg h1,if_neg h1]
  by_cases h2:0 ≤ findF (ps.take i) x.name
  · rw [if_pos h2,if_pos ((sE _ _ _).1 h2)]
  rw [if_neg h2,if_neg (fun h=>h2 ((sE _ _ _).2 h))]
  by_cases h3:dx x = true
  · rw [if_pos h3,if_pos h3]
  rw [if_neg h3,if_neg h3]
  have h3':dx x = false:=by simpa using h3
  by_cases h4:x.last < x.first ∨ x.hi < x.lo
  · rw [if_pos h4,if_pos (h4.imp id (Ay x h3').2)]
  have h4':¬ (x.last < x.first ∨ gM x ≠ 0):=fun h=>h4 (h.imp id (Ay x h3').1)
  rw [if_neg h4,if_neg h4']
  by_cases h5:(x.on.any fun n=>decide (findF (ps.take i) n < 0)) = true
  · rw [if_pos h5,if_pos h5]
  rw [if_neg h5,if_neg h5]
  by_cases h6:rO x.on x.on 0 = true
  · rw [if_pos h6,if_pos h6]
  rw [if_neg h6,if_neg h6]
  have h7:(x.on.any fun n=>!yr x (atF (ps.take i) n)) = (x.on.any fun n=>!fu x (atF (ps.take i) n)):=by
    have hx:x.first ≤ x.last:=by omega
    have hpos:∀ n ∈ x.on,0 ≤ findF (ps.take i) n:=by
      intro n hm
      rcases Int.lt_or_le (findF (ps.take i) n) 0 with hl | hl
      · exact absurd (List.any_eq_true.2 ⟨n,hm,by simpa using hl⟩) h5
      · exact hl
    rw [Bool.eq_iff_iff,List.any_eq_true,List.any_eq_true]
    have e:∀ n ∈ x.on,yr x (atF (ps.take i) n) = fu x (atF (ps.take i) n):=by
      intro n hm
      obtain ⟨j,hj1,hj2⟩:=oI (hpos n hm)
      refine EX hx (hv _ ?_)
      have:atF (ps.take i) n = (ps.take i)[j]:=by simp only [atF,hj1,Int.toNat_natCast,List.getD_eq_getElem?_getD,List.getElem?_eq_getElem hj2,Option.getD_some]
      rw [this]
      exact List.getElem_mem _
    constructor <;> rintro ⟨n,h1,h2⟩ <;> exact ⟨n,h1,by simpa [e n h1] using h2⟩
  rw [h7]
theorem Aq (ps:List HuM):fY ps = qC fu ps:=by
  have key:∀ (n i:Nat),ps.length - i = n → i ≤ ps.length → (∀ y ∈ ps.take i,y.first ≤ y.last) → qH ps (ps.drop i) i = ml fu ps (ps.drop i) i:=by
    intro n
    induction n with
    | zero=>intro i hn hi _; rw [List.drop_eq_nil_of_le (by omega)]; rfl
    | succ n ih=>
      intro i hn hi hv
      have hlt:i < ps.length:=by omega
      rw [List.drop_eq_getElem_cons hlt]
      simp only [qH,ml]
      rw [se ps ps[i] i hv]
      by_cases h:cV fu ps[i] (ps.take i) (ps.take i) ≠ 0
      · rw [if_pos h,if_pos h]
      · rw [if_neg h,if_neg h]
        refine ih (i + 1) (by omega) (by omega) ?_
        intro y hy
        rw [List.take_succ_eq_append_getElem hlt] at hy
        rcases List.mem_append.1 hy with hy | hy
        · exact hv y hy
        · simp at hy; subst hy
          exact Bh (by rw [se ps ps[i] i hv]; omega)
  unfold fY qC
  split
  · rfl
  · simpa using key ps.length 0 (by omega) (by omega) (by simp)
set_option maxRecDepth 100000
set_option maxHeartbeats 1000000
structure aG where
  from_:Int
  to:Int
  welded:Bool
def aG.cells (p:aG):List ab:=[ii' p.from_,ii' p.to, .bool p.welded]
def aG.v (p:aG):ab:=.agg p.cells
structure br where
  tanks:List aE
  pipes:List aG
def br.cells (c:br):List ab:=[.slice 2 (c.tanks.map aE.v), .slice 3 (c.pipes.map aG.v)]
def br.v (c:br):ab:=.agg c.cells
theorem br.pure (c:br):c.v.pure = true:=by simp [br.v,br.cells,ab.pure,aM,av (f:=aE.v) (fun _=>rfl) c.tanks,av (f:=aG.v) (fun _=>rfl) c.pipes]
def cO (m n:Int):Bool:=decide (n < 0) || decide (m ≤ n)
theorem nk (n m:Int) (σ:af):Spec Tryz.prog DO [ii' n, .pval (ii' m)] σ fun r σ'=>r = .ret (.bool (cO m n)) ∧ σ' = σ:=by
  refine Spec.ay (Lu (by simp) (dm _ ?_)) rfl rfl σ
  simp [Hk,cO]
theorem dT (m:Int) (l:List Int) (hl:l.length ≤ maxLen) (σ:af) :
    Spec Tryz.prog Hx [ii' m, .slice 1 (l.map ii')] σ fun r σ'=>r = .ret (.bool (l.any (cO m))) ∧ σ' = σ:=by
  refine Spec.ay (Sa (by simp) (dm _ ?_)) (by simp [av (f:=ii') (fun _=>rfl) l]) rfl σ
  simp [Ms]
  refine aj.pure uw (bj _ _ rfl (cO m) l hl (fun x _=>ck.fn Nx (fun σ=>nk x m σ)) _) ?_
  simp
theorem nL (y x:aE) (σ:af):Spec Tryz.prog AQ [y.v, .pval x.v] σ fun r σ'=>r = .ret (.bool (y.name.toList == x.name.toList)) ∧ σ' = σ:=by
  refine Spec.ay (KK (by simp) (dm _ ?_)) rfl rfl σ
  simp [GR,aE.v,aE.cells]
def c9 (all:List aE):List aE → Nat → Int × Int × Int
  | [],_=>(0,0,0)
  | x :: r,i=>if dw x.name = false then (2,i,6) else if (all.take i).any (fun y=>y.name.toList == x.name.toList) then (2,i,5) else c9 all r (i + 1)
def eX (m:Int):List aG → Nat → Int × Int × Int
  | [],_=>(0,0,0)
  | p :: r,i=>if [p.from_,p.to].any (cO m) then (3,i,4) else if p.from_ = p.to then (3,i,2) else eX m r (i + 1)
def iE (c:br):Int × Int × Int:=
  if c.tanks.length = 0 ∨ 7 < c.tanks.length ∨ 12 < c.pipes.length then (1,0,3)
  else if (c9 c.tanks c.tanks 0).1 ≠ 0 then c9 c.tanks c.tanks 0 else eX c.tanks.length c.pipes 0
theorem qM (c:br) (hl:c.tanks.length ≤ maxLen) (hl2:c.pipes.length ≤ maxLen) (σ:af) :
    Spec Tryz.prog Dg [c.v] σ fun r σ'=>r = .ret (aS (iE c)) ∧ σ' = σ:=by
  refine Spec.ay (NM (by simp) (dm _ ?_)) (by simp [c.pure]) (by simp [aS,ab.pure,aM]) σ
  simp [FF,br.v,br.cells]
  refine ⟨fun h=>?_,fun h1 h2 h3=>?_⟩
  · have:c.tanks.length = 0 ∨ 7 < c.tanks.length ∨ 12 < c.pipes.length:=by
      rcases h with (h | h) | h
      · exact .inl (by simp [h])
      · exact .inr (.inl (by omega))
      · exact .inr (.inr (by omega))
    rw [iE,if_pos this]; simp [aS]
  have hsz:¬ (c.tanks.length = 0 ∨ 7 < c.tanks.length ∨ 12 < c.pipes.length):=by
    rintro (h | h | h)
    · exact h1 (List.length_eq_zero_iff.1 h)
    · omega
    · omega
  have hc:iE c = if (c9 c.tanks c.tanks 0).1 ≠ 0 then c9 c.tanks c.tanks 0 else eX c.tanks.length c.pipes 0:=by rw [iE,if_neg hsz]
  refine AW.loop (ι:=Nat) (fun i fr _=>fr = { v:=[(1, .pval (.agg [.slice 2 (c.tanks.map aE.v), .slice 3 (c.pipes.map aG.v)])),(26, .slice 2 (c.tanks.map aE.v)),(27, .int .i64 c.tanks.length),(28, .int .i64 i)],ds:=[] } ∧ i ≤ c.tanks.length ∧ c9 c.tanks c.tanks 0 = c9 c.tanks (c.tanks.drop i) i) (fun i=>c.tanks.length - i) 0 (by simp) ?_
  rintro i fr σ' ⟨rfl,hi,hpi⟩
  refine dm _ ?_
  simp
  refine ⟨fun hlt=>?_,fun hge=>?_⟩
  · have hd:c.tanks.drop i = c.tanks[i] :: c.tanks.drop (i + 1):=List.drop_eq_getElem_cons hlt
    rw [hd] at hpi
    simp only [c9] at hpi
    obtain ⟨x,hx⟩:∃ x,c.tanks[i] = x:=⟨_,rfl⟩
    rw [hx] at hpi
    simp [hlt,hx,aE.v,aE.cells]
    refine (tf (dw x.name)).elim (fun h4=>?_) (fun h4=>?_)
    · refine aj.aD Bd (cP x.name _) (congrArg ab.bool h4) ?_
      simp [hlt,hx,aE.v,aE.cells]
      rw [if_pos h4] at hpi
      rw [hc,hpi,if_pos (by simp)]; simp [aS]
    refine aj.aD Bd (cP x.name _) (congrArg ab.bool h4) ?_
    simp [hlt,hx,hi,aE.v,aE.cells]
    rw [if_neg (by simp [h4])] at hpi
    have hq:=fun σ=>p6 AQ [.pval x.v] rfl (fun y=>y.name.toList == x.name.toList) (c.tanks.take i) (by simp; omega) (fun y _=>ck.fn OQ (fun σ=>nL y x σ)) σ
    rw [List.map_take] at hq
    refine (tf ((c.tanks.take i).any (fun y=>y.name.toList == x.name.toList))).elim (fun h5=>?_) (fun h5=>?_)
    · refine aj.aD F1 (hq _) (congrArg ab.bool h5) ?_
      simp [hlt,hx,aE.v,aE.cells]
      rw [if_neg (by simp [h5])] at hpi
      exact ⟨i + 1,by omega,an (by omega) (by simp only [maxLen] at hl; omega),by omega,hpi⟩
    · refine aj.aD F1 (hq _) (congrArg ab.bool h5) ?_
      simp [hlt,hx,aE.v,aE.cells]
      rw [if_pos h5] at hpi
      rw [hc,hpi,if_pos (by simp)]; simp [aS]
  have hz:c.tanks.drop i = []:=List.drop_eq_nil_of_le hge
  rw [hz] at hpi
  have hc2:iE c = eX c.tanks.length c.pipes 0:=by rw [hc,hpi,if_neg (by simp [c9])]
  refine AW.loop (ι:=Nat) (fun i fr _=>fr = { v:=[(1, .pval (.agg [.slice 2 (c.tanks.map aE.v), .slice 3 (c.pipes.map aG.v)])),(49, .slice 3 (c.pipes.map aG.v)),(50, .int .i64 c.pipes.length),(51, .int .i64 i)],ds:=[] } ∧ i ≤ c.pipes.length ∧ iE c = eX c.tanks.length (c.pipes.drop i) i) (fun i=>c.pipes.length - i) 0 (by simp [hc2]) ?_
  rintro i fr σ' ⟨rfl,hi,hpi⟩
  refine dm _ ?_
  simp
  refine ⟨fun hlt=>?_,fun hge=>?_⟩
  · have hd:c.pipes.drop i = c.pipes[i] :: c.pipes.drop (i + 1):=List.drop_eq_getElem_cons hlt
    rw [hd] at hpi
    simp only [eX] at hpi
    obtain ⟨p,hx⟩:∃ p,c.pipes[i] = p:=⟨_,rfl⟩
    rw [hx] at hpi
    simp [hlt,hx,aG.v,aG.cells]
    have hq:=fun σ=>dT c.tanks.length [p.from_,p.to] (by simp [maxLen]) σ
    refine (tf ([p.from_,p.to].any (cO c.tanks.length))).elim (fun h5=>?_) (fun h5=>?_)
    · refine aj.aD B3 (hq _) (congrArg ab.bool h5) ?_
      rw [if_neg (by simp only [h5]; simp)] at hpi
      simp [hlt,hx,aG.v,aG.cells]
      refine ⟨fun h6=>?_,fun h6=>⟨i + 1,by omega,an (by omega) (by simp only [maxLen] at hl2; omega),by omega, ?_⟩⟩
      · rw [hpi,if_pos h6]; simp [aS]
      · rw [hpi,if_neg h6]
    · refine aj.aD B3 (hq _) (congrArg ab.bool h5) ?_
      rw [if_pos h5] at hpi
      simp [hlt,hx,aG.v,aG.cells]
      rw [hpi]; simp [aS]
  have hz:c.pipes.drop i = []:=List.drop_eq_nil_of_le hge
  rw [hz] at hpi
  rw [hpi]; simp [eX,aS]
set_option maxRecDepth 100000
set_option maxHeartbeats 1000000
theorem eO (n m:Int) (σ:af):Spec Tryz.prog DX [ii' n,ii' m] σ fun r σ'=>r = .ret (.bool (decide (0 ≤ n) && decide (n < m))) ∧ σ' = σ:=by
  refine Spec.ay (Mq (by simp) (dm _ ?_)) rfl rfl σ
  simp [FA]
theorem yM (all:List aE) (i:Nat) (x:aE):jo x.name ((all.take i).map aE.name) = if dw x.name = false then 6 else if (all.take i).any (fun y=>y.name.toList == x.name.toList) then 5 else 0:=by
  have hp:=iw x.name ((all.take i).map aE.name) 0
  unfold jo
  cases h:dw x.name
  · simp
  · simp only [if_true,Bool.true_eq_false,if_false]
    by_cases h2:0 ≤ dG ((all.take i).map aE.name) x.name 0
    · have h3:((all.take i).any fun y=>y.name.toList == x.name.toList) = true:=by
        have:=hp.1 h2
        rw [List.any_map] at this
        exact this
      rw [if_pos h2,if_pos h3]
    · rw [if_neg h2,if_neg]
      intro h3
      exact h2 (hp.2 (by rw [List.any_map]; exact h3))
theorem tq (c:br) (_hl:c.tanks.length ≤ maxLen) (hl2:c.pipes.length ≤ maxLen) (σ:af) :
    Spec Tryz.prog CZ [c.v] σ fun r σ'=>r = .ret (aS (iE c)) ∧ σ' = σ:=by
  refine Spec.ay (K8 (by simp) (dm _ ?_)) (by simp [c.pure]) (by simp [aS,ab.pure,aM]) σ
  simp [GS,br.v,br.cells]
  refine ⟨fun h=>?_,fun h1 h2 h3=>?_⟩
  · have:c.tanks.length = 0 ∨ 7 < c.tanks.length ∨ 12 < c.pipes.length:=by omega
    rw [iE,if_pos this]; simp [aS]
  have hsz:¬ (c.tanks.length = 0 ∨ 7 < c.tanks.length ∨ 12 < c.pipes.length):=by omega
  have hc:iE c = if (c9 c.tanks c.tanks 0).1 ≠ 0 then c9 c.tanks c.tanks 0 else eX c.tanks.length c.pipes 0:=by rw [iE,if_neg hsz]
  refine AW.loop (ι:=Nat) (fun i fr σ=>fr = { v:=[(1, .pval (.agg [.slice 2 (c.tanks.map aE.v), .slice 3 (c.pipes.map aG.v)])),(5, .oslice 1 ((c.tanks.take i).map (fun p=>.str p.name)) 0 i),(6, .int .i64 i)],ds:=[] } ∧ σ = [.spare 1 i] ∧ i ≤ c.tanks.length ∧ c9 c.tanks c.tanks 0 = c9 c.tanks (c.tanks.drop i) i) (fun i=>c.tanks.length - i) 0 (by simp) ?_
  rintro i fr σ ⟨rfl,rfl,hi,hp⟩
  refine (Nat.lt_or_ge i c.tanks.length).elim (fun hlt=>?_) (fun hge=>?_)
  · have hd:c.tanks.drop i = c.tanks[i] :: c.tanks.drop (i + 1):=List.drop_eq_getElem_cons hlt
    obtain ⟨x,hx⟩:∃ x,c.tanks[i] = x:=⟨_,rfl⟩
    rw [hd,hx] at hp
    simp only [c9] at hp
    refine dm _ ?_
    simp [hlt,hx,aE.v,aE.cells]
    have hfr:=fun σ=>k7 ((c.tanks.take i).map aE.name) x.name (by simp [maxLen]; omega) σ
    have hft:=yM c.tanks i x
    simp only [List.map_take,List.map_map,Function.comp_def] at hfr hft
    refine aj.pure Hd (hfr _) ?_
    simp [hlt,hx,aE.v,aE.cells]
    have hfit:Fits 1 [ab.str x.name]:=by intro v hv; simp at hv; subst hv; exact ⟨⟨rfl,rfl⟩,rfl⟩
    have htk:List.take i (List.map (fun p=>ab.str p.name) c.tanks) ++ [ab.str x.name] = List.take (i + 1) (List.map (fun p:aE=>ab.str p.name) c.tanks):=by
      rw [List.take_add_one]; simp [hlt,hx]
    have hmin:min i c.tanks.length = i:=by omega
    refine ⟨hfit,by omega,fun h5=>?_,fun h5=>?_⟩
    · rw [hft] at h5 ⊢
      by_cases ha:dw x.name = false
      · rw [if_pos ha] at hp ⊢
        rw [hc,hp,if_pos (by simp)]; simp [aS]
      rw [if_neg ha] at hp h5 ⊢
      by_cases hb:((c.tanks.take i).any fun y=>y.name.toList == x.name.toList) = true
      · rw [if_pos hb] at hp ⊢
        rw [hc,hp,if_pos (by simp)]; simp [aS]
      · rw [if_neg hb] at h5; exact absurd rfl h5
    · rw [hft] at h5
      by_cases ha:dw x.name = false
      · rw [if_pos ha] at h5; exact absurd h5 (by decide)
      rw [if_neg ha] at hp h5
      by_cases hb:((c.tanks.take i).any fun y=>y.name.toList == x.name.toList) = true
      · rw [if_pos hb] at h5; exact absurd h5 (by decide)
      rw [if_neg hb] at hp
      exact ⟨i + 1,by omega,⟨⟨htk,rfl⟩,an (by omega) (by omega)⟩,rfl,by omega,hp⟩
  have hz:c.tanks.drop i = []:=List.drop_eq_nil_of_le hge
  rw [hz] at hp
  have hc2:iE c = eX c.tanks.length c.pipes 0:=by rw [hc,hp,if_neg (by simp [c9])]
  have hnl:¬ i < c.tanks.length:=by omega
  refine dm _ ?_
  simp [hnl]
  refine AW.loop (ι:=Nat) (fun i fr _=>fr = { v:=[(1, .pval (.agg [.slice 2 (c.tanks.map aE.v), .slice 3 (c.pipes.map aG.v)])),(8, .int .i64 i)],ds:=[] } ∧ i ≤ c.pipes.length ∧ iE c = eX c.tanks.length (c.pipes.drop i) i) (fun i=>c.pipes.length - i) 0 (by simp [hc2]) ?_
  rintro i fr σ' ⟨rfl,hi,hpi⟩
  refine (Nat.lt_or_ge i c.pipes.length).elim (fun hlt=>?_) (fun hge=>?_)
  · have hd:c.pipes.drop i = c.pipes[i] :: c.pipes.drop (i + 1):=List.drop_eq_getElem_cons hlt
    obtain ⟨p,hx⟩:∃ p,c.pipes[i] = p:=⟨_,rfl⟩
    rw [hd,hx] at hpi
    simp only [eX] at hpi
    refine dm _ ?_
    simp [hlt,hx,aG.v,aG.cells]
    have ho:∀ n:Int,cO c.tanks.length n = !(decide (0 ≤ n) && decide (n < c.tanks.length)):=by
      intro n; simp only [cO]; rw [Bool.eq_iff_iff]; simp <;> omega
    refine (tf (decide (0 ≤ p.from_) && decide (p.from_ < (c.tanks.length:Int)))).elim (fun h4=>?_) (fun h4=>?_)
    · refine aj.aD uX (eO p.from_ c.tanks.length _) (congrArg ab.bool h4) ?_
      rw [if_pos (by simp only [List.any_cons,ho,h4]; rfl)] at hpi
      simp [hlt,hx,aG.v,aG.cells]
      rw [hpi]; simp [aS]
    refine aj.aD uX (eO p.from_ c.tanks.length _) (congrArg ab.bool h4) ?_
    simp [hlt,hx,aG.v,aG.cells]
    refine (tf (decide (0 ≤ p.to) && decide (p.to < (c.tanks.length:Int)))).elim (fun h5=>?_) (fun h5=>?_)
    · refine aj.aD uX (eO p.to c.tanks.length _) (congrArg ab.bool h5) ?_
      rw [if_pos (by simp only [List.any_cons,ho,h4,h5]; rfl)] at hpi
      simp [hlt,hx,aG.v,aG.cells]
      rw [hpi]; simp [aS]
    refine aj.aD uX (eO p.to c.tanks.length _) (congrArg ab.bool h5) ?_
    rw [if_neg (by simp only [List.any_cons,List.any_nil,ho,h4,h5]; simp)] at hpi
    simp [hlt,hx,aG.v,aG.cells]
    refine ⟨fun h6=>?_,fun h6=>⟨i + 1,by omega,an (by omega) (by simp only [maxLen] at hl2; omega),by omega, ?_⟩⟩
    · rw [hpi,if_pos h6]; simp [aS]
    · rw [hpi,if_neg h6]
  have hz:c.pipes.drop i = []:=List.drop_eq_nil_of_le hge
  rw [hz] at hpi
  have hnl:¬ i < c.pipes.length:=by omega
  refine dm _ ?_
  simp [hnl]
  rw [hpi]; simp [eX,aS]
set_option maxRecDepth 100000
set_option maxHeartbeats 1000000
theorem ff (l:List Int) (n:Int) (hl:l.length ≤ maxLen) (σ:af):Spec Tryz.prog Fa [.slice 1 (l.map ii'),ii' n] σ fun r σ'=>r = .ret (.bool (l.contains n)) ∧ σ' = σ:=by
  refine Spec.ay (Qi (by simp) (dm _ ?_)) (by simp [av (f:=ii') (fun _=>rfl) l]) rfl σ
  simp [OJ]
  refine AW.loop (ι:=Nat) (fun i fr σ=>fr = { v:=[(0, .slice 1 (l.map ii')),(1,ii' n),(5, .int .i64 i)],ds:=[] } ∧ i ≤ l.length ∧ l.contains n = (l.drop i).contains n) (fun i=>l.length - i) 0 (by simp) ?_
  rintro i fr σ ⟨rfl,hi,hpi⟩
  refine dm _ ?_
  simp
  refine ⟨fun hlt=>?_,fun hge=>?_⟩
  · have hd:l.drop i = l[i] :: l.drop (i + 1):=List.drop_eq_getElem_cons hlt
    obtain ⟨x,hx⟩:∃ x,l[i] = x:=⟨_,rfl⟩
    rw [hd,hx] at hpi
    simp [hlt,hx]
    refine ⟨fun he=>?_,fun he=>⟨i + 1,by omega,an (by omega) (by simp only [maxLen] at hl; omega),by omega, ?_⟩⟩
    · subst he; simp at hpi; simpa using hpi
    · rw [List.contains_cons] at hpi
      have:(n == x) = false:=by simp; exact fun h=>he h.symm
      rw [this,Bool.false_or] at hpi
      simpa using hpi
  · have:l.drop i = []:=List.drop_eq_nil_of_le hge
    rw [this] at hpi
    simpa using hpi
def fM (c:br) (bs:List Int):List Int → Nat → Int
  | [],_=>0
  | b :: r,i=>if cO c.pipes.length b then 4 else if 0 < i ∧ b ≤ bs.getD (i - 1) 0 then 2 else if (c.pipes.getD b.toNat ⟨0,0,false⟩).welded then 9 else fM c bs r (i + 1)
def b9 (c:br) (bs:List Int):Int:=if (iE c).2.2 ≠ 0 then (iE c).2.2 else fM c bs bs 0
set_option maxRecDepth 100000
set_option maxHeartbeats 1000000
theorem nE (c:br) (bs:List Int) (hl:c.tanks.length ≤ maxLen) (hl2:c.pipes.length ≤ maxLen) (hb:bs.length ≤ maxLen) (σ:af) :
    Spec Tryz.prog T4 [c.v, .slice 1 (bs.map ii')] σ fun r σ'=>r = .ret (ii' (b9 c bs)) ∧ σ' = σ:=by
  refine Spec.ay (Ko (by simp) (dm _ ?_)) (by simp [c.pure,av (f:=ii') (fun _=>rfl) bs]) rfl σ
  simp [Gz,br.v,br.cells]
  refine aj.pure Mo (tq c hl hl2 _) ?_
  simp [aS]
  refine AW.loop (ι:=Nat) (fun i fr _=>∃ e:Int,fr = { v:=[(1, .slice 1 (bs.map ii')),(2, .pval (.agg [.slice 2 (c.tanks.map aE.v), .slice 3 (c.pipes.map aG.v)])),(7,ii' e),(8, .int .i64 i)],ds:=[] } ∧ i ≤ bs.length ∧ b9 c bs = if e ≠ 0 then e else fM c bs (bs.drop i) i) (fun i=>bs.length - i) 0 ⟨_,rfl,by simp,by simp [b9]⟩ ?_
  rintro i fr σ ⟨e,rfl,hi,hp⟩
  refine (Classical.em (i < bs.length ∧ e = 0)).elim (fun hc=>?_) (fun hc=>?_)
  · obtain ⟨hlt,rfl⟩:=hc
    have hd:bs.drop i = bs[i] :: bs.drop (i + 1):=List.drop_eq_getElem_cons hlt
    obtain ⟨b,hx⟩:∃ b,bs[i] = b:=⟨_,rfl⟩
    rw [hd,hx,if_neg (by simp)] at hp
    simp only [fM] at hp
    refine dm _ ?_
    simp [hlt,hx]
    refine ⟨.bool (decide (0 ≤ b) && decide (b < (c.pipes.length:Int))),fun σ'=>aC.func uX (eO b c.pipes.length σ'), ?_⟩
    simp
    refine ⟨fun h=>⟨i + 1,by omega,4,⟨rfl,an (by omega) (by simp only [maxLen] at hb; omega)⟩,by omega, ?_⟩,fun h1 h2=>?_⟩
    · rw [hp,if_pos (by simpa [cO] using h)]; simp
    rw [if_neg (by simp [cO]; omega)] at hp
    have hbn:b.toNat < c.pipes.length:=by omega
    have hgd:c.pipes.getD b.toNat ⟨0,0,false⟩ = c.pipes[b.toNat]:=by simp [hbn]
    rcases Nat.eq_zero_or_pos i with h0 | h0
    · subst h0
      rw [if_neg (by simp)] at hp
      have hw0:IntKind.i64.wrap (-1) = -1:=by decide
      simp [hw0,hlt,hx,h1,h2,aG.v,aG.cells]
      refine ⟨fun h3=>⟨1,by omega,9,⟨rfl,rfl⟩,by omega, ?_⟩,fun h3=>⟨1,by omega,0,⟨rfl,rfl⟩,by omega, ?_⟩⟩
      · rw [hp,hgd,if_pos h3]; simp
      · rw [hp,hgd,if_neg (by simp [h3])]; simp
    obtain ⟨k,rfl⟩:∃ k,i = k + 1:=⟨i - 1,by omega⟩
    have hw:IntKind.i64.wrap (((k + 1:Nat):Int) - 1) = k:=by rw [show (((k + 1:Nat):Int) - 1) = (k:Int) by omega]; exact an (by omega) (by simp only [maxLen] at hb; omega)
    have hkl:k < bs.length:=by omega
    obtain ⟨d,hdk⟩:∃ d,bs[k] = d:=⟨_,rfl⟩
    rw [hw]
    simp [hkl,hdk,h1,h2,aG.v,aG.cells]
    have hgb:bs.getD (k + 1 - 1) 0 = d:=by simp [hkl,hdk]
    rw [hgb,hgd] at hp
    have hwk:IntKind.i64.wrap ((k:Int) + 1 + 1) = ((k + 2:Nat):Int):=by rw [show (k:Int) + 1 + 1 = ((k + 2:Nat):Int) by omega]; exact an (by omega) (by simp only [maxLen] at hb; omega)
    refine ⟨fun h3=>⟨k + 2,by omega,2,⟨rfl,hwk⟩,by omega, ?_⟩,fun h3=>⟨fun h4=>⟨k + 2,by omega,9,⟨rfl,hwk⟩,by omega, ?_⟩,fun h4=>⟨k + 2,by omega,0,⟨rfl,hwk⟩,by omega, ?_⟩⟩⟩
    · rw [hp,if_pos ⟨by omega,h3⟩]; simp
    · rw [hp,if_neg (by omega),if_pos h4]; simp
    · rw [hp,if_neg (by omega),if_neg (by simp [h4])]; simp
  refine (Nat.lt_or_ge i bs.length).elim (fun hlt=>?_) (fun hge=>?_)
  · have he:e ≠ 0:=fun h=>hc ⟨hlt,h⟩
    rw [if_pos he] at hp
    refine dm _ ?_
    simp [hlt,he]
    rw [hp]
  · have hz:bs.drop i = []:=List.drop_eq_nil_of_le hge
    have hnl:¬ i < bs.length:=by omega
    rw [hz] at hp
    refine dm _ ?_
    simp [hnl]
    rw [hp]
    by_cases he:e = 0
    · simp [he,fM]
    · simp [he]
set_option maxRecDepth 100000
def dp (a b:Nat):Nat:=(BitVec.ofNat 64 a &&& ~~~ BitVec.ofNat 64 b).toNat
theorem gh (a b i:Nat) (hi:i < 64):(dp a b).testBit i = (a.testBit i && !b.testBit i):=by
  unfold dp
  rw [BitVec.testBit_toNat,BitVec.getLsbD_and,BitVec.getLsbD_not,BitVec.getLsbD_ofNat,BitVec.getLsbD_ofNat]
  simp [hi]
theorem lR (a b:Nat):dp a b ≤ a:=by
  unfold dp
  rw [BitVec.toNat_and]
  exact Nat.le_trans Nat.and_le_left (by rw [BitVec.toNat_ofNat]; exact Nat.mod_le _ _)
theorem oH {n k i:Nat} (h:n < 2 ^ k) (hi:k ≤ i):n.testBit i = false:=Nat.testBit_lt_two_pow (Nat.lt_of_lt_of_le h (Nat.pow_le_pow_right (by omega) hi))
theorem Dt {k a b:Nat} (_hk:k ≤ 64) (ha:a < 2 ^ k) (hb:b < 2 ^ k) (h:∀ i,i < k → a.testBit i = b.testBit i):a = b:=by
  apply Nat.eq_of_testBit_eq
  intro i
  by_cases hi:i < k
  · exact h i hi
  · rw [oH ha (by omega),oH hb (by omega)]
theorem cx (n:Nat):BitVec.ofInt 64 (n:Int) = BitVec.ofNat 64 n:=by simp
theorem gp {n:Nat} (h:n < 2 ^ 63):(BitVec.ofNat 64 n).toNat = n:=by rw [BitVec.toNat_ofNat]; omega
theorem wrap_u64 {n:Nat} (h:n < 2 ^ 64):IntKind.u64.wrap (n:Int) = n:=by rw [IntKind.wrap_u64]; omega
theorem wrap_i64 {n:Nat} (h:n < 2 ^ 63):IntKind.i64.wrap (n:Int) = n:=an (by omega) (by omega)
/-! The operations on bits, under names that simp leaves alone. -/
def qe (k:IntKind) (a b:Int):Int:=wh .and k a b
theorem xC (k:IntKind) (a b:Int):qe k a b = k.wrap (BitVec.ofInt k.bits a &&& BitVec.ofInt k.bits b).toNat:=rl .and k a b
def tG (k:IntKind) (a b:Int):Int:=wh .or k a b
theorem Ax (k:IntKind) (a b:Int):tG k a b = k.wrap (BitVec.ofInt k.bits a ||| BitVec.ofInt k.bits b).toNat:=rl .or k a b
def jt (k:IntKind) (a b:Int):Int:=wh .andNot k a b
theorem uP (k:IntKind) (a b:Int):jt k a b = k.wrap (BitVec.ofInt k.bits a &&& ~~~ (BitVec.ofInt k.bits b)).toNat:=rl .andNot k a b
def rL (k:IntKind) (a b:Int):Int:=k.wrap (a * 2 ^ min b.toNat k.bits)
def uD (k:IntKind) (a b:Int):Int:=a.fdiv (2 ^ min b.toNat k.bits)
@[simp ↓ high] theorem I9 (k:IntKind) (a b:Int):arith .and k a b = .int k (qe k a b):=rfl
@[simp ↓ high] theorem Nk (k:IntKind) (a b:Int):arith .or k a b = .int k (tG k a b):=rfl
@[simp ↓ high] theorem E1 (k:IntKind) (a b:Int):arith .andNot k a b = .int k (jt k a b):=rfl
@[simp ↓ high] theorem Ja (k:IntKind) (a b:Int):arith .shl k a b = .int k (rL k a b):=rfl
@[simp ↓ high] theorem Jg (k:IntKind) (a b:Int):arith .shr k a b = .int k (uD k a b):=rfl
theorem vt {a b:Nat} (ha:a < 2 ^ 63) (hb:b < 2 ^ 63):a ||| b < 2 ^ 63:=Nat.or_lt_two_pow ha hb
theorem vw {a b:Nat} (ha:a < 2 ^ 63) (hb:b < 2 ^ 63):qe .u64 (a:Int) (b:Int) = ((a &&& b:Nat):Int):=by
  rw [xC,show IntKind.u64.bits = 64 from rfl,cx,cx,BitVec.toNat_and,gp ha,gp hb]
  exact wrap_u64 (Nat.lt_of_le_of_lt Nat.and_le_left (by omega))
theorem tz {a b:Nat} (ha:a < 2 ^ 63) (hb:b < 2 ^ 63):tG .u64 (a:Int) (b:Int) = ((a ||| b:Nat):Int):=by
  rw [Ax,show IntKind.u64.bits = 64 from rfl,cx,cx,BitVec.toNat_or,gp ha,gp hb]
  exact wrap_u64 (by have:=vt ha hb; omega)
theorem sH {a b:Nat} (ha:a < 2 ^ 63):jt .u64 (a:Int) (b:Int) = (dp a b:Int):=by
  rw [uP,show IntKind.u64.bits = 64 from rfl,cx,cx]
  exact wrap_u64 (Nat.lt_of_le_of_lt (lR a b) (by omega))
theorem Ap {a b:Nat} (ha:a < 2 ^ 63) (hb:b < 2 ^ 63):qe .i64 (a:Int) (b:Int) = ((a &&& b:Nat):Int):=by
  rw [xC,show IntKind.i64.bits = 64 from rfl,cx,cx,BitVec.toNat_and,gp ha,gp hb]
  exact wrap_i64 (Nat.lt_of_le_of_lt Nat.and_le_left ha)
theorem Dv {a b:Nat} (ha:a < 2 ^ 63) (hb:b < 2 ^ 63):tG .i64 (a:Int) (b:Int) = ((a ||| b:Nat):Int):=by
  rw [Ax,show IntKind.i64.bits = 64 from rfl,cx,cx,BitVec.toNat_or,gp ha,gp hb]
  exact wrap_i64 (vt ha hb)
theorem td {a b:Nat} (ha:a < 2 ^ 63):jt .i64 (a:Int) (b:Int) = (dp a b:Int):=by
  rw [uP,show IntKind.i64.bits = 64 from rfl,cx,cx]
  exact wrap_i64 (Nat.lt_of_le_of_lt (lR a b) ha)
theorem zU {k:IntKind} (hk:k.bits = 64) {s i:Nat} (hi:i < 64):uD k (s:Int) (i:Int) = ((s / 2 ^ i:Nat):Int):=by
  rw [uD,hk,show min ((i:Int).toNat) 64 = i by simp; omega,Int.fdiv_eq_ediv_of_nonneg _ (by exact_mod_cast Nat.zero_le _)]
  push_cast; rfl
theorem Fk {i:Nat} (hi:i < 63):rL .u64 1 (i:Int) = ((2 ^ i:Nat):Int):=by
  rw [rL,show IntKind.u64.bits = 64 from rfl,show min ((i:Int).toNat) 64 = i by simp; omega,Int.one_mul]
  exact_mod_cast wrap_u64 (Nat.lt_trans (Nat.pow_lt_pow_right (by omega) hi) (by decide))
theorem lT {i:Nat} (hi:i < 63):rL .i64 1 (i:Int) = ((2 ^ i:Nat):Int):=by
  rw [rL,show IntKind.i64.bits = 64 from rfl,show min ((i:Int).toNat) 64 = i by simp; omega,Int.one_mul]
  exact_mod_cast wrap_i64 (Nat.pow_lt_pow_right (by omega) hi)
theorem AF (s i:Nat):((((s / 2 ^ i) &&& 1:Nat):Int) == 1) = s.testBit i:=by
  rw [Nat.and_one_is_mod,Nat.testBit_eq_decide_div_mod_eq]
  by_cases h:s / 2 ^ i % 2 = 1
  · simp [h]
  · have:s / 2 ^ i % 2 = 0:=by omega
    simp [this]
theorem E3 {s i:Nat} (hs:s < 2 ^ 63) (hi:i < 64):(qe .u64 (uD .u64 (s:Int) (i:Int)) 1 == 1) = s.testBit i:=by
  rw [zU rfl hi,show (1:Int) = ((1:Nat):Int) from rfl,vw (Nat.lt_of_le_of_lt (Nat.div_le_self _ _) hs) (by decide)]
  exact AF s i
theorem Fb {s i:Nat} (hs:s < 2 ^ 63) (hi:i < 64):(qe .i64 (uD .i64 (s:Int) (i:Int)) 1 == 1) = s.testBit i:=by
  rw [zU rfl hi,show (1:Int) = ((1:Nat):Int) from rfl,Ap (Nat.lt_of_le_of_lt (Nat.div_le_self _ _) hs) (by decide)]
  exact AF s i
set_option maxRecDepth 100000
structure a7 where
  tank:Int
  off:Bool
def a7.cells (p:a7):List ab:=[ii' p.tank, .bool p.off]
def a7.v (p:a7):ab:=.agg p.cells
def jM (b f x y:Nat):Nat:=if f.testBit x = false ∧ f.testBit y = true ∧ b.testBit y = false then dp f (2 ^ y) else f
def jB (b f x y:Nat):Nat:=if f.testBit x = f.testBit y then f else dp f (dp (f &&& (2 ^ x ||| 2 ^ y)) b)
theorem ou {k a b:Nat} (h:a < k):dp a b < k:=Nat.lt_of_le_of_lt (lR a b) h
theorem Aw {k b f x y:Nat} (h:f < k):jM b f x y < k:=by unfold jM; split; exact ou h; exact h
theorem Fs {k b f x y:Nat} (h:f < k):jB b f x y < k:=by unfold jB; split; exact h; exact ou h
theorem E7 (b f x y:Nat):jB b f x y ≤ f:=by unfold jB; split; exact Nat.le_refl _; exact lR _ _
theorem oW {b f x y i:Nat} (hi:i < 64):(jM b f x y).testBit i = (f.testBit i && !(decide (i = y) && !f.testBit x && f.testBit y && !b.testBit y)):=by
  unfold jM
  split
  · rename_i h
    rw [gh _ _ _ hi,Nat.testBit_two_pow,h.1,h.2.1,h.2.2]
    by_cases e:y = i
    · simp [e]
    · have:i ≠ y:=fun h=>e h.symm
      simp [e,this]
  · rename_i h
    cases h1:f.testBit x <;> cases h2:f.testBit y <;> cases h3:b.testBit y <;> simp [h1,h2,h3] at h ⊢
theorem Ci {b f x y i:Nat} (hi:i < 64):(jB b f x y).testBit i = (f.testBit i && !(!(f.testBit x == f.testBit y) && (decide (i = x) || decide (i = y)) && !b.testBit i)):=by
  unfold jB
  split
  · rename_i h; simp [h]
  · rename_i h
    rw [gh _ _ _ hi,gh _ _ _ hi,Nat.testBit_and,Nat.testBit_or,Nat.testBit_two_pow,Nat.testBit_two_pow]
    have e1:decide (x = i) = decide (i = x):=by simp [eq_comm]
    have e2:decide (y = i) = decide (i = y):=by simp [eq_comm]
    rw [e1,e2]
    cases f.testBit i <;> cases h1:f.testBit x <;> cases h2:f.testBit y <;> simp [h1,h2] at h ⊢
theorem BT {b f x y:Nat} (hf:f < 128) (hx:x < 7) (hy:y < 7):jM b (jM b f x y) y x = jB b f x y:=by
  refine Dt (k:=7) (by omega) (Aw (Aw hf)) (Fs hf) fun i hi=>?_
  rw [oW (by omega),oW (by omega),oW (by omega),oW (by omega),Ci (by omega)]
  by_cases e1:i = x
  · subst e1
    by_cases e2:i = y
    · subst e2; cases f.testBit i <;> cases b.testBit i <;> simp
    · cases f.testBit i <;> cases b.testBit i <;> cases f.testBit y <;> cases b.testBit y <;> simp [e2]
  · by_cases e2:i = y
    · subst e2
      have e3:x ≠ i:=fun h=>e1 h.symm
      cases f.testBit i <;> cases b.testBit i <;> cases f.testBit x <;> cases b.testBit x <;> simp [e1,e3]
    · simp [e1,e2]
def fp (bs:List Int) (b:Nat):List aG → Nat → Nat → Nat
  | [],_,f=>f
  | p :: r,i,f=>fp bs b r (i + 1) (if bs.contains (i:Int) then f else jB b f p.from_.toNat p.to.toNat)
theorem nG (bs:List Int) (b:Nat):∀ (l:List aG) (i f:Nat),fp bs b l i f ≤ f
  | [],_,_=>Nat.le_refl _
  | p :: r,i,f=>Nat.le_trans (nG bs b r (i + 1) _) (by split; exact Nat.le_refl _; exact E7 _ _ _ _)
def bS (ps:List aG) (bs:List Int) (b f:Nat):Nat:=
  if _h:fp bs b ps 0 f < f then bS ps bs b (fp bs b ps 0 f) else f
termination_by f
decreasing_by assumption
theorem sG {ps:List aG} {bs:List Int} {b f:Nat} (h:fp bs b ps 0 f = f):bS ps bs b f = f:=by
  rw [bS,dif_neg (by omega)]
theorem lx (ps:List aG) (bs:List Int) (b f:Nat):bS ps bs b (fp bs b ps 0 f) = bS ps bs b f:=by
  have h:=nG bs b ps 0 f
  rcases Nat.lt_or_ge (fp bs b ps 0 f) f with h1 | h1
  · conv=>rhs; rw [bS,dif_pos h1]
  · rw [show fp bs b ps 0 f = f by omega]
theorem uB (ps:List aG) (bs:List Int) (b:Nat):∀ f,bS ps bs b f ≤ f:=by
  intro f
  induction f using Nat.strongRecOn with
  | _ f ih=>
    rw [bS]
    split
    · rename_i h; exact Nat.le_trans (ih _ h) (by omega)
    · exact Nat.le_refl _
def eV:List aE → Nat → Nat
  | [],_=>0
  | t :: r,i=>(if t.kept then 2 ^ i else 0) ||| eV r (i + 1)
theorem wM:∀ (l:List aE) (i k:Nat),(eV l i).testBit k = (decide (i ≤ k) && (l.getD (k - i) ⟨ByteArray.empty,false⟩).kept)
  | [],i,k=>by simp [eV]
  | t :: r,i,k=>by
    rw [eV,Nat.testBit_or,wM r]
    by_cases h:k = i
    · subst h
      have:¬ k + 1 ≤ k:=by omega
      cases hk:t.kept <;> simp [this,hk]
    · have h1:(if t.kept then 2 ^ i else 0:Nat).testBit k = false:=by
        have:¬ i = k:=fun e=>h e.symm
        cases t.kept <;> simp [this]
      rw [h1,Bool.false_or]
      by_cases h2:i ≤ k
      · have h3:i + 1 ≤ k:=by omega
        rw [show k - i = (k - (i + 1)) + 1 by omega]
        simp [h2,h3]
      · have h3:¬ i + 1 ≤ k:=by omega
        simp [h2,h3]
theorem AB:∀ (l:List aE) (i n:Nat),i + l.length ≤ n → eV l i < 2 ^ n
  | [],_,n,_=>by simp [eV]; exact Nat.pow_pos (by omega)
  | t :: r,i,n,h=>by
    rw [List.length_cons] at h
    refine Nat.or_lt_two_pow ?_ (AB r (i + 1) n (by omega))
    split
    · exact Nat.pow_lt_pow_right (by omega) (by omega)
    · exact Nat.pow_pos (by omega)
def mu (c:br) (bs:List Int) (f b:Nat) (x:a7):Option (Nat × Nat):=
  if (c.tanks.getD x.tank.toNat ⟨ByteArray.empty,false⟩).kept = true ∨ b.testBit x.tank.toNat ≠ x.off then none
  else if x.off then some (bS c.pipes bs (dp b (2 ^ x.tank.toNat)) f,dp b (2 ^ x.tank.toNat))
  else some (bS c.pipes bs (b ||| 2 ^ x.tank.toNat) (f ||| 2 ^ x.tank.toNat),b ||| 2 ^ x.tank.toNat)
def jl (c:br) (bs:List Int):List a7 → Nat → Nat → Int × Nat × Nat
  | [],f,b=>(0,f,b)
  | x :: r,f,b=>if cO c.tanks.length x.tank then (4,0,0) else match mu c bs f b x with
    | none=>(2,0,0)
    | some (f',b')=>jl c bs r f' b'
def mz (n:Nat):List Int:=((List.range 7).filter fun i=>n.testBit i).map (fun i:Nat=>(i:Int))
def du (c:br) (bs:List Int) (xs:List a7):Int × Nat × Nat:=
  if b9 c bs ≠ 0 then (b9 c bs,0,0) else if 60 < xs.length then (3,0,0) else jl c bs xs 0 0
def kY (r:Int × Nat × Nat):ab:=
  if r.1 = 0 then .tup [.agg [.slice 1 ((mz r.2.1).map ii'), .slice 1 ((mz r.2.2).map ii')],ii' 0] else .tup [.agg [.slice 1 [], .slice 1 []],ii' r.1]
structure mB (c:br):Prop where
  tanks:c.tanks.length ≤ 7
  pipes:c.pipes.length ≤ 12
  ends:∀ p ∈ c.pipes,0 ≤ p.from_ ∧ p.from_.toNat < c.tanks.length ∧ 0 ≤ p.to ∧ p.to.toNat < c.tanks.length ∧ p.from_ ≠ p.to
theorem uG {m:Int}:∀ {l:List aG} {i:Nat},(eX m l i).2.2 = 0 → ∀ p ∈ l,0 ≤ p.from_ ∧ p.from_ < m ∧ 0 ≤ p.to ∧ p.to < m ∧ p.from_ ≠ p.to
  | [],_,_=>fun p hp=>absurd hp (by simp)
  | q :: r,i,h=>fun p hp=>by
    simp only [eX] at h
    split at h
    · simp at h
    · rename_i h1
      split at h
      · simp at h
      · rename_i h2
        rcases List.mem_cons.1 hp with rfl | hp
        · simp [cO] at h1
          omega
        · exact uG h p hp
theorem vX {c:br} (h:(iE c).2.2 = 0):mB c:=by
  unfold iE at h
  split at h
  · simp at h
  · rename_i h1
    split at h
    · rename_i h2
      exfalso
      have key:∀ (l:List aE) (i:Nat),(c9 c.tanks l i).1 ≠ 0 → (c9 c.tanks l i).2.2 ≠ 0:=by
        intro l
        induction l with
        | nil=>intro i h; simp [c9] at h
        | cons x r ih=>intro i h; simp only [c9] at h ⊢; split <;> rename_i g1 <;> simp [g1] at h ⊢; split <;> rename_i g2 <;> simp [g2] at h ⊢; exact ih _ h
      exact key _ _ h2 h
    · refine ⟨by omega,by omega,fun p hp=>?_⟩
      have:=uG h p hp
      omega
set_option maxRecDepth 100000
set_option maxHeartbeats 1000000
theorem nn (n:Int) (σ:af):Spec Tryz.prog DQ [ii' n] σ fun r σ'=>r = .ret (.bool false) ∧ σ' = σ:=by
  refine Spec.ay (O1 (by simp) (dm _ ?_)) rfl rfl σ
  simp [FM]
theorem n7 (a b:Int) (σ:af):Spec Tryz.prog Dq [ii' a,ii' b] σ fun r σ'=>r = .ret (.bool (decide (a < b))) ∧ σ' = σ:=by
  refine Spec.ay (O3 (by simp) (dm _ ?_)) rfl rfl σ
  simp [FE]
  refine aj.pure MM (nn _ _) ?_
  simp
def cU (l:List Int):bo:=.arr 1 (l.map ii')
theorem sj (b:Nat) (l:List Int) (hn:l.length ≤ 12) (σ:af) (hb:b < σ.length) (hx:σ[b]? = some (cU l)) :
    Spec Tryz.prog Cn [.sref 1 b 0 l.length l.length,ii' 0,ii' l.length] σ fun r σ'=>r = .ret (.tup []) ∧ ∃ l',l'.Perm l ∧ l'.Pairwise (· ≤ ·) ∧ σ' = σ.set b (cU l'):=by
  refine MQ (by simp) (dm _ ?_)
  simp [Hi]
  refine AW.loop (ι:=Nat) (fun i fr σ1=>fr = { v:=[(0, .sref 1 b 0 l.length l.length),(1,ii' 0),(2,ii' l.length),(6, .int .i64 i)],ds:=[] } ∧ 1 ≤ i ∧ ∃ ds:List Int,ds.Perm l ∧ (ds.take i).Pairwise (· ≤ ·) ∧ σ1 = σ.set b (cU ds)) (fun i=>l.length - i) 1 ⟨by simp; decide,by omega,l, .refl _, ?_, ?_⟩ ?_
  · cases l with
    | nil=>simp
    | cons a r=>simp
  · obtain ⟨h1,h2⟩:=List.getElem?_eq_some_iff.1 hx
    rw [← h2]; simp
  rintro i fr σ1 ⟨rfl,hi,ds,hp,hs,rfl⟩
  have hlen:ds.length = l.length:=hp.length_eq
  refine (Nat.lt_or_ge i l.length).elim (fun hlt=>?_) (fun hge=>?_)
  rotate_left
  · have hnl:¬ i < l.length:=by omega
    refine dm _ ?_
    simp [hnl]
    exact ⟨ds,hp,by rw [List.take_of_length_le (by omega)] at hs; exact hs,rfl⟩
  refine dm _ ?_
  simp [hlt]
  refine AW.loop (ι:=Nat) (fun j fr σ1=>fr = { v:=[(0, .sref 1 b 0 l.length l.length),(1,ii' 0),(2,ii' l.length),(6, .int .i64 i),(7, .int .i64 j)],ds:=[] } ∧
    ∃ (A B C:List Int) (x:Int),A.length = j ∧ A.length + B.length = i ∧ (A ++ x :: B ++ C).Perm l ∧ (A ++ B).Pairwise (· ≤ ·) ∧ (∀ y ∈ B,x ≤ y) ∧ σ1 = σ.set b (cU (A ++ x :: B ++ C))) (fun j=>j) i ⟨by simp,ds.take i,[],ds.drop (i + 1),ds[i]'(by omega), ?_⟩ ?_
  · have hd:ds = ds.take i ++ ds[i]'(by omega) :: ds.drop (i + 1):=by rw [List.getElem_cons_drop]; simp
    refine ⟨by simp; omega,by simp; omega, ?_,by simpa using hs,by simp, ?_⟩
    · simp; exact hp
    · simp
  rintro j fr σ1 ⟨rfl,A,B,C,x,hj,hAB,hperm,hsort,hB,rfl⟩
  have hlen2:A.length + (1 + B.length + C.length) = l.length:=by have:=hperm.length_eq; simp at this; omega
  have hAc:A = [] ∨ ∃ A' y,A = A' ++ [y]:=(List.eq_nil_or_concat A).elim .inl fun ⟨A',y,h⟩=>.inr ⟨A',y,by simpa using h⟩
  rcases hAc with rfl | ⟨A',y,rfl⟩
  · simp at hj
    subst hj
    refine dm _ ?_
    simp
    refine ⟨.bool false, ?_⟩
    simp
    simp at hAB
    refine ⟨i + 1,by omega,an (by omega) (by omega),by omega,x :: (B ++ C),by simpa using hperm, ?_,rfl⟩
    rw [show x :: (B ++ C) = (x :: B) ++ C from rfl,List.take_left' (by simp; omega)]
    exact List.pairwise_cons.2 ⟨hB,by simpa using hsort⟩
  · simp at hj
    subst hj
    obtain ⟨k,hk⟩:∃ k,A'.length = k:=⟨_,rfl⟩
    obtain ⟨D,hD⟩:∃ D,A' ++ [y] ++ x :: B ++ C = D:=⟨_,rfl⟩
    rw [hD]
    simp at hlen2
    have hk1:k + 1 < l.length:=by omega
    have hDl:D.length = l.length:=by rw [← hD]; exact hperm.length_eq
    have hx0:D[k + 1]? = some x:=by rw [← hD, ← hk]; simp
    have hy0:D[k]? = some y:=by rw [← hD, ← hk]; simp
    have hx1:D[k + 1]'(by omega) = x:=Option.some.inj ((List.getElem?_eq_getElem (by omega)).symm.trans hx0)
    have hy1:D[k]'(by omega) = y:=Option.some.inj ((List.getElem?_eq_getElem (by omega)).symm.trans hy0)
    have hset:((D.map ii').set (k + 1) (ii' y)).set k (ii' x) = A'.map ii' ++ ii' x :: (ii' y :: B.map ii' ++ C.map ii'):=by
      rw [← hD, ← hk]
      simp
    have hle:∀ a ∈ A' ++ [y],a ≤ y:=fun a ha=>by
      rcases List.mem_append.1 ha with h | h
      · rw [List.append_assoc] at hsort
        exact (List.pairwise_append.1 hsort).2.2 a h y (by simp)
      · simp at h; omega
    have hw:IntKind.i64.wrap (k:Int) = k:=an (by omega) (by omega)
    have q1:0 ≤ (k:Int) + 1:=by omega
    have q2:(k:Int) + 1 < l.length:=by omega
    have q3:(k:Int) < l.length:=by omega
    have q4:k < l.length:=by omega
    rw [hk]
    refine dm _ ?_
    simp [hb,cU,hx1,hy1,hw,hk1,hDl,q1,q2,q3,q4]
    refine ⟨.bool (decide (x < y)),fun σ'=>aC.func LI (n7 x y σ'), ?_⟩
    simp
    simp at hAB
    refine ⟨fun h1=>⟨k,by omega,rfl,A',hk,y :: B,by simp; omega,C,x, ?_, ?_, ?_, ?_⟩,fun h1=>⟨i + 1,by omega,an (by omega) (by omega),by omega,D, ?_, ?_,rfl⟩⟩
    · refine List.Perm.trans ?_ hperm
      simp
      refine List.Perm.append_left _ ?_
      exact List.Perm.swap _ _ _
    · simpa using hsort
    · intro z hz
      rcases List.mem_cons.1 hz with rfl | hz
      · omega
      · exact hB z hz
    · congr 2
    · rw [← hD]; exact hperm
    · rw [← hD,show A' ++ [y] ++ x :: B ++ C = (A' ++ [y] ++ x :: B) ++ C from rfl,List.take_left' (by simp; omega)]
      refine List.pairwise_append.2 ⟨(List.pairwise_append.1 hsort).1,List.pairwise_cons.2 ⟨hB,(List.pairwise_append.1 hsort).2.1⟩,fun a ha c hc=>?_⟩
      rcases List.mem_cons.1 hc with rfl | hc
      · have:=hle a ha; omega
      · exact (List.pairwise_append.1 hsort).2.2 a ha c hc
theorem la (n:Nat) (hn:n ≤ 12):∃ k, ∀ σ,Spec Tryz.prog DK [.int .u64 n] σ fun r σ'=>r = .ret (ii' k) ∧ σ' = σ:=by
  refine ⟨if n = 0 then 0 else if n = 1 then 1 else if n ≤ 3 then 2 else if n ≤ 7 then 3 else 4,fun σ=>?_⟩
  refine Spec.ay (La (by simp) (dm _ ?_)) rfl rfl σ
  have h1:¬ (4294967296:Int) ≤ n:=by omega
  have h2:¬ (65536:Int) ≤ n:=by omega
  have h3:¬ (256:Int) ≤ n:=by omega
  simp [Gu,h1,h2,h3]
  rcases (by omega:n = 0 ∨ n = 1 ∨ n = 2 ∨ n = 3 ∨ n = 4 ∨ n = 5 ∨ n = 6 ∨ n = 7 ∨ n = 8 ∨ n = 9 ∨ n = 10 ∨ n = 11 ∨ n = 12) with h | h | h | h | h | h | h | h | h | h | h | h | h <;> subst h <;> decide +kernel
theorem ns (n:Nat) (hn:n ≤ 12):∃ k, ∀ σ,Spec Tryz.prog Dm [.int .u64 n] σ fun r σ'=>r = .ret (ii' k) ∧ σ' = σ:=by
  obtain ⟨k,hk⟩:=la n hn
  refine ⟨k,fun σ=>Spec.ay (JM (by simp) (dm _ ?_)) rfl rfl σ⟩
  simp [FC]
  refine aj.pure KM (hk _) ?_
  simp
theorem aj.spec {P:Program} {f:FuncId} (hb:ak P f = true) {args:List ab} {σ:af} {Q:dF → af → Prop} {K Kp:ab → af → Prop} (hs:Spec P f args σ Q) (h:∀ r σ',Q r σ' → ∃ v,r = .ret v ∧ K v σ') :
    @aj P (.func (.func f) [] []) args σ ⟨K⟩ ⟨Kp⟩:=
  aC.func hb (by simpa using hs.mono fun r σ' hq=>by obtain ⟨v,rfl,hk⟩:=h r σ' hq; exact hk)
theorem Cw (b:Nat) (l:List Int) (hn:l.length ≤ 12) (k:Int) (σ:af) (hb:b < σ.length) (hx:σ[b]? = some (cU l)) :
    Spec Tryz.prog TW [.sref 1 b 0 l.length l.length,ii' 0,ii' l.length,ii' k] σ fun r σ'=>r = .ret (.tup []) ∧ ∃ l',l'.Perm l ∧ l'.Pairwise (· ≤ ·) ∧ σ' = σ.set b (cU l'):=by
  refine M5 (by simp) (dm _ ?_)
  simp [FY]
  refine AW.loop (ι:=Nat) (fun i fr σ1=>fr = { v:=[(0, .sref 1 b 0 l.length l.length),(1,ii' 0),(2,ii' l.length),(3,ii' k),(8, .bool true),(9, .bool true)],ds:=[] } ∧ σ1 = σ) (fun i=>i) 0 ⟨by simp,rfl⟩ ?_
  rintro i fr σ1 ⟨rfl,rfl⟩
  have hw:IntKind.i64.wrap (l.length:Int) = l.length:=an (by omega) (by omega)
  have hn':(l.length:Int) ≤ 12:=by omega
  refine dm _ ?_
  simp [hw,hn']
  refine aj.spec Lb (sj b l hn σ1 hb hx) ?_
  rintro r σ' ⟨rfl,l',h1,h2,rfl⟩
  exact ⟨_,rfl,by simp; exact ⟨l',h1,h2,rfl⟩⟩
theorem ve (b:Nat) (l:List Int) (hn:l.length ≤ 12) (σ:af) (hb:b < σ.length) (hx:σ[b]? = some (cU l)) :
    Spec Tryz.prog HR [.sref 1 b 0 l.length l.length] σ fun r σ'=>r = .ret (.tup []) ∧ ∃ l',l'.Perm l ∧ l'.Pairwise (· ≤ ·) ∧ σ' = σ.set b (cU l'):=by
  obtain ⟨k,hk⟩:=ns l.length hn
  refine SH (by simp) (dm _ ?_)
  have hw:IntKind.u64.wrap (l.length:Int) = l.length:=by rw [IntKind.wrap_u64]; omega
  simp [MR,hw]
  refine aj.pure T5 (hk _) ?_
  simp
  refine aj.spec Jn (Cw b l hn k σ hb hx) ?_
  rintro r σ' ⟨rfl,l',h1,h2,rfl⟩
  exact ⟨_,rfl,by simp; exact ⟨l',h1,h2,rfl⟩⟩
end Go.AM
