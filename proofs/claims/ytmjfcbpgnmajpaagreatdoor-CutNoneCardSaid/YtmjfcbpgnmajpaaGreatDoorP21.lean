/- Powers, sets, and the hull of what is left: of the document. A ship that is cut is made: of the program. The table of why a part cannot be cut of a set: of the document. The error of a task: of .. -/
import Derived.Test.YtmjfcbpgnmajpaaGreatDoorP20
import Derived.Test.YtmjfcbpgnmajpaaGreatDoorP19
namespace Go.AM
open Go.Proofs
set_option maxRecDepth 100000
set_option maxHeartbeats 1000000
theorem bP (n:Nat) (hn:n ≤ 7) (σ:af):Spec Tryz.prog IZ [nn' n] σ fun r σ'=>r = .ret (nn' (2 ^ n)) ∧ σ' = σ:=by
  refine Spec.ay (PF (by simp) (dm _ ?_)) rfl rfl σ
  simp [Ou]
  refine AW.loop (ι:=Nat) (fun i fr σ=>fr = { v:=[(0,nn' n),(3,nn' (2 ^ i)),(4,nn' i)],ds:=[] } ∧ i ≤ n) (fun i=>n - i) 0 ⟨by simp,by omega⟩ ?_
  rintro i fr σ ⟨rfl,hi⟩
  refine (Nat.lt_or_ge i n).elim (fun hlt=>?_) (fun hge=>?_)
  · have hw1:IntKind.i64.wrap ((i:Int) + 1) = ((i + 1:Nat):Int):=by rw [an (by omega) (by omega)]; simp
    have hp:2 ^ (i + 1) < 256:=Nat.lt_of_le_of_lt (Nat.pow_le_pow_right (by omega) (by omega:i + 1 ≤ 7)) (by decide)
    have hw2:IntKind.i64.wrap (2 * ((2 ^ i:Nat):Int)) = ((2 ^ (i + 1):Nat):Int):=by
      rw [show 2 * ((2 ^ i:Nat):Int) = ((2 ^ (i + 1):Nat):Int) by rw [Nat.pow_succ]; push_cast; omega]
      exact wrap_i64 (by omega)
    have hw3:IntKind.i64.wrap (2 * 2 ^ i) = ((2 ^ (i + 1):Nat):Int):=by simpa using hw2
    refine dm _ ?_
    simp [hlt,hw1,hw3]
    exact ⟨i + 1,by omega,⟨by simp,by omega⟩⟩
  · have:i = n:=by omega
    subst this
    refine dm _ ?_
    simp
theorem gY (s i:Nat) (hs:s < 128) (hi:i < 7) (σ:af):Spec Tryz.prog B8 [nn' s,nn' i] σ fun r σ'=>r = .ret (.bool (s.testBit i)) ∧ σ' = σ:=by
  refine Spec.ay (Oc (by simp) (dm _ ?_)) rfl rfl σ
  have hp:(0:Nat) < 2 ^ i:=Nat.pow_pos (by omega)
  have hpz:¬ (2:Int) ^ i = 0:=by
    have:((2 ^ i:Nat):Int) ≠ 0:=by omega
    simpa using this
  have h1:(s:Int).tdiv (2 ^ i) = ((s / 2 ^ i:Nat):Int):=by
    have:(2:Int) ^ i = ((2 ^ i:Nat):Int):=by simp
    rw [this]; rfl
  have h2:IntKind.i64.wrap ((s / 2 ^ i:Nat):Int) = ((s / 2 ^ i:Nat):Int):=wrap_i64 (Nat.lt_of_le_of_lt (Nat.div_le_self _ _) (by omega))
  have h3:((((s / 2 ^ i:Nat):Int).tmod 2) == 1) = s.testBit i:=by
    rw [Nat.testBit_eq_decide_div_mod_eq]
    have:((s / 2 ^ i:Nat):Int).tmod 2 = ((s / 2 ^ i % 2:Nat):Int):=rfl
    rw [this]
    by_cases h:s / 2 ^ i % 2 = 1
    · simp [h]
    · have:s / 2 ^ i % 2 = 0:=by omega
      simp [this]
  have e:(s:Int) / 2 ^ i = ((s / 2 ^ i:Nat):Int):=by push_cast; rfl
  have h4:((IntKind.i64.wrap ((s:Int) / 2 ^ i)).tmod 2 == 1) = s.testBit i:=by rw [e,h2]; exact h3
  simp [GF]
  refine aj.pure xS (bP i (by omega) _) ?_
  simp [hpz,h1,h4]
theorem tY (t:ah) (h7:t.hull.ps.length ≤ 7) (s:Nat) (hs:s < 128) (σ:af):Spec Tryz.prog Cm [t.v,nn' s] σ fun r σ'=>r = .ret (bL t s).v ∧ σ' = σ:=by
  refine Spec.ay (Li (by simp) (dm _ ?_)) (by simp [aM,t.pure,ab.pure]) (bL t s).pure σ
  simp [FW,ah.v,ah.cells]
  refine AW.loop (ι:=Nat) (fun i fr σ=>∃ k,fr = { v:=[(1,nn' s),(2, .pval t.v),(4, .ptr 0 0),(5, .ptr 1 0),(6,nn' i)],ds:=[] } ∧
    σ = [.box [.slice 7 [],ii' 0,ii' 0], .box [.oslice 7 ((eT (t.hull.ps.take i) s 0).map aq.v) 2 k,ii' t.hull.aft,ii' t.hull.fore], .spare 7 k] ∧ i ≤ t.hull.ps.length) (fun i=>t.hull.ps.length - i) 0 ⟨0,by simp [ah.v,ah.cells],by simp [eT],by omega⟩ ?_
  rintro i fr σ ⟨k,rfl,rfl,hi⟩
  refine (Nat.lt_or_ge i t.hull.ps.length).elim (fun hlt=>?_) (fun hge=>?_)
  · have hw1:IntKind.i64.wrap ((i:Int) + 1) = ((i + 1:Nat):Int):=by rw [an (by omega) (by omega)]; simp
    obtain ⟨p,hp⟩:∃ p,t.hull.ps[i] = p:=⟨_,rfl⟩
    have hst:=pP (s:=s) hlt
    rw [hp] at hst
    have hsl:=lE (l:=t.hull.ps.take i) (s:=s) (i:=0)
    have hbd:((eT (t.hull.ps.take i) s 0).length + 1) * 64 ≤ 140737488355328:=by simp at hsl; omega
    refine dm _ ?_
    simp [hlt,ah.v,ah.cells]
    refine (tf (s.testBit i)).elim (fun hb=>?_) (fun hb=>?_)
    · refine aj.aD uE (gY s i hs (by omega) _) (congrArg ab.bool hb) ?_
      rw [hb,if_neg (by simp),List.append_nil] at hst
      simp [hw1]
      exact ⟨i + 1,by omega,by simp,by rw [hst],by omega⟩
    · refine aj.aD uE (gY s i hs (by omega) _) (congrArg ab.bool hb) ?_
      rw [hb,if_pos rfl] at hst
      simp [hlt,hp,hw1,aq.v,aq.cells,ah.v,ah.cells]
      exact ⟨by intro v hv; simp at hv; subst hv; exact ⟨rfl,rfl⟩,hbd,i + 1,by omega,by simp,by rw [hst]; simp [aq.v,aq.cells],by omega⟩
  · have hnl:¬ i < t.hull.ps.length:=by omega
    refine dm _ ?_
    simp [hnl,ah.v,ah.cells]
    rw [List.take_of_length_le hge]; rfl
set_option maxRecDepth 100000
set_option maxHeartbeats 1000000
theorem qW (fr:List Int) (b:List Int) (x:Int) (hl:fr.length ≤ maxLen) (σ:af):Spec Tryz.prog At [ii' x, .pval (.agg [.slice 1 (fr.map ii'), .slice 1 (b.map ii')])] σ fun r σ'=>r = .ret (.bool (!fr.contains x)) ∧ σ' = σ:=by
  refine Spec.ay (L4 (by simp) (dm _ ?_)) (by simp [aM,ab.pure,av (f:=ii') (fun _=>rfl)]) rfl σ
  simp [Gp]
  refine aj.pure xY (aY fr x hl _) ?_
  simp
theorem ue (n:Nat):(mz n).length ≤ 7:=by
  unfold mz
  rw [List.length_map]
  exact Nat.le_trans (List.length_filter_le _ _) (by simp)
def mD (t:ah):List Int:=mz (du t.net t.blanks t.steps).2.2
theorem zx (t:ah) (hok:t.Ok) (hfit:t.Fit) (σ:af):Spec Tryz.prog EP [.agg [.slice 2 (t.net.tanks.map aE.v), .slice 3 (t.net.pipes.map aG.v)], .slice 1 (t.blanks.map ii'), .slice 2 (t.steps.map a7.v)] σ fun r σ'=>r = .ret (.tup [.agg [.slice 1 ((cH t).map ii'), .slice 1 ((mD t).map ii')],ii' 0]) ∧ σ' = σ:=by
  have:=kr t.net t.blanks t.steps hok.tk hok.pp hok.bl σ
  rw [lP,hfit.after] at this
  unfold vN at this
  rw [if_pos hfit.after] at this
  exact this
theorem eu (t:ah) (hok:t.Ok) (σ:af):Spec Tryz.prog H9 [t.v] σ fun r σ'=>
    ((aN t).2.2 = 0 ∧ r = .ret (.tup [.ptr (σ.length + 2) 0,ii' 0]) ∧ ∃ tl,σ' = σ ++ .arr 1 (eh t) :: .amap [] :: .box (iG t σ.length (iN t)) :: tl) ∨
    ((aN t).2.2 ≠ 0 ∧ r = .ret (.tup [.nilptr,ii' (aN t).2.2]) ∧ ∃ tl,σ' = σ ++ tl):=by
  refine PI (by simp) (dm _ ?_)
  simp [KA,ah.v,ah.cells]
  refine aj.pure R6 (tB t hok _) ?_
  simp [aS]
  refine (Classical.em ((aN t).2.2 = 0)).elim (fun h1=>?_) (fun h1=>?_)
  rotate_left
  · simp [h1]
  have hfit:=bm h1
  have h7:=hfit.ship7
  simp [h1]
  have hwn:t.ar.length * 8 ≤ 140737488355328:=by omega
  refine ⟨⟨by omega,by omega⟩,aj.pure JC (zx t hok hfit _) ?_⟩
  simp
  refine AW.loop (ι:=Nat) (fun i fr σ'=>∃ (L:List Nat) (g:Nat) (tl:af),fr = { v:=[(1, .pval (.agg [.slice 7 (t.ar.map HuM.v), .slice 7 (t.hull.ps.map aq.v),ii' t.hull.aft,ii' t.hull.fore,ii' t.lo,ii' t.hi, .slice 2 (t.net.tanks.map aE.v), .slice 3 (t.net.pipes.map aG.v), .slice 1 (t.blanks.map ii'), .slice 2 (t.steps.map a7.v), .slice 1 (t.tanks.map cj)])),(7, .ptr (σ.length + 2) 0),(8, .pval (.agg [.slice 1 ((cH t).map ii'), .slice 1 ((mD t).map ii')])),(44, .slice 7 (t.ar.map HuM.v)),(45, .int .i64 t.ar.length),(46, .int .i64 i)],ds:=[] } ∧
    σ' = σ ++ .arr 1 (L.map nn') :: .amap [] :: .box (iG t σ.length g) :: tl ∧ i ≤ t.ar.length ∧ L.length = t.ar.length ∧ (∀ j,j < t.ar.length → L[j]? = some (if j < i then bN t j else 0)) ∧ xT (cH t) (t.tanks.drop i) i g = iN t ∧ g < 128) (fun i=>t.ar.length - i) 0 ⟨List.replicate t.ar.length 0,0,[.dead],by simp,by simp [iG],by omega,by simp,fun j hj=>by simp [hj],rfl,by omega⟩ ?_
  rintro i fr σ' ⟨L,g,tl,rfl,rfl,hi,hL,hLj,hg,hg7⟩
  refine (Nat.lt_or_ge i t.ar.length).elim (fun hlt=>?_) (fun hge=>?_)
  rotate_left
  · have hnl:¬ i < t.ar.length:=by omega
    have hz:t.tanks.drop i = []:=List.drop_eq_nil_of_le (by have:=hfit.tanks; omega)
    rw [hz] at hg
    replace hg:g = iN t:=hg
    have hLe:L.map nn' = eh t:=by
      apply List.ext_getElem?
      intro j
      unfold eh
      rcases Nat.lt_or_ge j t.ar.length with h | h
      · rw [List.getElem?_map,hLj j h,if_pos (by omega)]; simp [h]
      · rw [List.getElem?_eq_none (by simpa [hL] using h),List.getElem?_eq_none (by simpa using h)]
    refine dm _ ?_
    simp [hnl]
    exact ⟨h1,hLe,by rw [hg]⟩
  have hd:t.ar.drop i = t.ar[i] :: t.ar.drop (i + 1):=List.drop_eq_getElem_cons hlt
  obtain ⟨x,hx⟩:∃ x,t.ar[i] = x:=⟨_,rfl⟩
  have hab:bN t i = jW x.name t.ar 0 0:=by simp [bN,hlt,hx]
  have hw1:IntKind.i64.wrap ((i:Int) + 1) = ((i + 1:Nat):Int):=by rw [an (by omega) (by omega)]; simp
  have hLi:=hLj i hlt
  rw [if_neg (by omega)] at hLi
  have hiL:i < L.length:=by omega
  have hL0:L.set i 0 = L:=by
    have:L[i] = 0:=Option.some.inj ((List.getElem?_eq_getElem hiL).symm.trans hLi)
    rw [← this]; exact List.set_getElem_self hiL
  refine dm _ ?_
  simp [hlt,hx,HuM.v,HuM.cells]
  refine AW.loop (ι:=Nat) (fun k fr σ'=>∃ (a:Nat) (tl:af),fr = { v:=[(1, .pval (.agg [.slice 7 (t.ar.map HuM.v), .slice 7 (t.hull.ps.map aq.v),ii' t.hull.aft,ii' t.hull.fore,ii' t.lo,ii' t.hi, .slice 2 (t.net.tanks.map aE.v), .slice 3 (t.net.pipes.map aG.v), .slice 1 (t.blanks.map ii'), .slice 2 (t.steps.map a7.v), .slice 1 (t.tanks.map cj)])),(7, .ptr (σ.length + 2) 0),(8, .pval (.agg [.slice 1 ((cH t).map ii'), .slice 1 ((mD t).map ii')])),(10, .int .i64 i),(11, .pval (.agg [.str x.name,ii' x.kind,ii' x.first,ii' x.last, .slice 1 (x.on.map .str),ii' x.lo,ii' x.hi])),(44, .slice 7 (t.ar.map HuM.v)),(45, .int .i64 t.ar.length),(46, .int .i64 i),(53, .slice 7 (t.ar.map HuM.v)),(54, .int .i64 t.ar.length),(55, .int .i64 k)],ds:=[] } ∧
    σ' = σ ++ .arr 1 ((L.set i a).map nn') :: .amap [] :: .box (iG t σ.length g) :: tl ∧ k ≤ t.ar.length ∧ a < 128 ∧ jW x.name (t.ar.drop k) k a = bN t i) (fun k=>t.ar.length - k) 0 ⟨0,tl ++ [.dead],by simp,by simp [hL0],by omega,by omega,hab.symm⟩ ?_
  rintro k fr σ' ⟨a,tl2,rfl,rfl,hk,ha,hak⟩
  refine (Nat.lt_or_ge k t.ar.length).elim (fun hkl=>?_) (fun hkg=>?_)
  · have hdk:t.ar.drop k = t.ar[k] :: t.ar.drop (k + 1):=List.drop_eq_getElem_cons hkl
    obtain ⟨y,hy⟩:∃ y,t.ar[k] = y:=⟨_,rfl⟩
    have hyo:=hok.ar.2 y (hy ▸ List.getElem_mem _)
    rw [hdk,hy] at hak
    simp only [jW] at hak
    have hw1k:IntKind.i64.wrap ((k:Int) + 1) = ((k + 1:Nat):Int):=by rw [an (by omega) (by omega)]; simp
    have hsh:rL .i64 1 (k:Int) = ((2 ^ k:Nat):Int):=lT (by omega)
    have hor:tG .i64 (a:Int) (2 ^ k) = ((a ||| 2 ^ k:Nat):Int):=by
      have:=Dv (a:=a) (b:=2 ^ k) (by omega) (e63 (by omega))
      simpa using this
    have hct:=fun σ=>ez y.on x.name hyo σ
    refine dm _ ?_
    simp [hkl,hy,HuM.v,HuM.cells]
    refine (tf (onF y x.name)).elim (fun ho=>?_) (fun ho=>?_)
    · refine aj.aD DE (hct _) (congrArg ab.bool ho) ?_
      rw [ho,if_neg (by simp)] at hak
      simp
      exact ⟨k + 1,by omega,hw1k,a,rfl,by omega,ha,hak⟩
    · refine aj.aD DE (hct _) (congrArg ab.bool ho) ?_
      rw [ho,if_pos rfl] at hak
      have hget:((L.map nn').set i (nn' a))[i]? = some (nn' a):=by simp [hiL]
      simp [hL,hsh,hor,hlt]
      exact ⟨k + 1,by omega,hw1k,a ||| 2 ^ k,rfl,by omega,oD (n:=7) ha (dy (by omega)),hak⟩
  have hnk:¬ k < t.ar.length:=by omega
  have hzk:t.ar.drop k = []:=List.drop_eq_nil_of_le hkg
  rw [hzk] at hak
  replace hak:a = bN t i:=hak
  have hit:i < t.tanks.length:=by have:=hfit.tanks; omega
  have hdt:t.tanks.drop i = t.tanks[i] :: t.tanks.drop (i + 1):=List.drop_eq_getElem_cons hit
  obtain ⟨l,hl⟩:∃ l,t.tanks[i] = l:=⟨_,rfl⟩
  have hll:=hok.tls l (hl ▸ List.getElem_mem _)
  rw [hdt,hl] at hg
  simp only [xT] at hg
  have hfl:(cH t).length ≤ maxLen:=Nat.le_trans (ue _) (by decide)
  have hsh:rL .i64 1 (i:Int) = ((2 ^ i:Nat):Int):=lT (by omega)
  have hor:tG .i64 (g:Int) (2 ^ i) = ((g ||| 2 ^ i:Nat):Int):=by
    have:=Dv (a:=g) (b:=2 ^ i) (by omega) (e63 (by omega))
    simpa using this
  have hcf:=fun σ=>bj At [.pval (.agg [.slice 1 ((cH t).map ii'), .slice 1 ((mD t).map ii')])] (by simp [aM,ab.pure,av (f:=ii') (fun _=>rfl)]) (fun x=>!(cH t).contains x) l hll (fun x _=>ck.fn NW (fun σ=>qW (cH t) (mD t) x hfl σ)) σ
  have hnew:∀ j,j < t.ar.length → (L.set i a)[j]? = some (if j < i + 1 then bN t j else 0):=fun j hj=>by
    by_cases h:j = i
    · subst h
      rw [List.getElem?_set_self hiL,if_pos (by omega),hak]
    · rw [List.getElem?_set_ne (fun e=>h e.symm),hLj j hj]
      by_cases h2:j < i
      · rw [if_pos h2,if_pos (by omega)]
      · rw [if_neg h2,if_neg (by omega)]
  have hset:(L.map nn').set i (nn' a) = (L.set i a).map nn':=by rw [List.map_set]
  refine dm _ ?_
  simp [hnk,hit,hl,cj]
  refine (tf (l.any fun x=>!(cH t).contains x)).elim (fun ho=>?_) (fun ho=>?_)
  · refine aj.aD uw (hcf _) (congrArg ab.bool ho) ?_
    rw [ho,if_neg (by simp)] at hg
    simp
    exact ⟨i + 1,by omega,hw1,L.set i a,g,⟨hset,rfl⟩,by omega,by simpa using hL,hnew,hg,hg7⟩
  · refine aj.aD uw (hcf _) (congrArg ab.bool ho) ?_
    rw [ho,if_pos rfl] at hg
    simp [hsh,hor]
    exact ⟨i + 1,by omega,hw1,L.set i a,g ||| 2 ^ i,⟨hset,rfl⟩,by omega,by simpa using hL,hnew,hg,oD (n:=7) hg7 (dy (by omega))⟩
set_option maxRecDepth 100000
set_option maxHeartbeats 1000000
def yb (t:ah) (s m:Nat):ab:=.slice 1 ((List.range m).map fun i=>nn' (bD t s i))
def gq (t:ah) (n:Nat):List ab:=(List.range n).map fun s=>yb t s t.ar.length
def s5 (t:ah):ab:=.agg [nn' t.ar.length, .slice 1 (gq t (2 ^ t.ar.length))]
def e8 (t:ah) (n:Nat):List ab:=(List.range n).map fun s=>.bool (!eD t s)
theorem xU (t:ah) (n:Nat):e8 t (n + 1) = e8 t n ++ [.bool (!eD t n)]:=by simp [e8,List.range_succ]
theorem zJ (t:ah) (n:Nat):gq t (n + 1) = gq t n ++ [yb t n t.ar.length]:=by simp [gq,List.range_succ]
theorem Ba (t:ah) (s n:Nat):(List.range (n + 1)).map (fun i=>nn' (bD t s i)) = (List.range n).map (fun i=>nn' (bD t s i)) ++ [nn' (bD t s n)]:=by simp [List.range_succ]
@[simp] theorem HW (t:ah) (n:Nat):(e8 t n).length = n:=by simp [e8]
@[simp] theorem Jf (t:ah) (n:Nat):(gq t n).length = n:=by simp [gq]
@[simp] theorem Iz (t:ah) (n i:Nat) (h:i < (e8 t n).length):(e8 t n)[i] = .bool (!eD t i):=by simp [e8]
@[simp] theorem Ji (t:ah) (n i:Nat) (h:i < (gq t n).length):(gq t n)[i] = yb t i t.ar.length:=by simp [gq]
theorem A4 (t:ah) (s m:Nat):(yb t s m).pure = true:=by
  simp [yb,ab.pure,av (f:=fun i=>nn' (bD t s i)) (fun _=>rfl)]
theorem xR (t:ah):(s5 t).pure = true:=by
  simp [s5,ab.pure,aM,gq,av (f:=fun s=>yb t s t.ar.length) (fun s=>A4 t s _)]
def im (t:ah) (s i:Nat):Nat → Bool
  | 0=>false
  | k + 1=>im t s i k || (s.testBit k && (match t.ar[k]? with | some y=>onF y (t.ar.getD i ⟨.empty,0,0,0,[],0,0⟩).name | none=>false))
def mg {α:Type} (p:α → Bool) (l:List α) (k:Nat):Bool:=(l.take k).any p
theorem zh {α:Type} (p:α → Bool) (l:List α) {k:Nat} (h:k < l.length):mg p l (k + 1) = (mg p l k || p l[k]):=by
  unfold mg
  rw [List.take_add_one,List.any_append,List.getElem?_eq_getElem h]
  simp
def xe {α:Type} (p:α → Bool):List α → Nat → Nat → Nat
  | [],_,a=>a
  | y :: r,k,a=>xe p r (k + 1) (if p y then a ||| 2 ^ k else a)
theorem jD {α:Type} (p:α → Bool):∀ {l:List α} {k a j:Nat},(xe p l k a).testBit j = (a.testBit j || (decide (k ≤ j) && (match l[j - k]? with | some y=>p y | none=>false)))
  | [],k,a,j=>by simp [xe]
  | y :: r,k,a,j=>by
    rw [xe,jD]
    by_cases h:j = k
    · subst h
      have:¬ j + 1 ≤ j:=by omega
      cases h0:p y <;> simp [h0,this,Nat.testBit_or]
    · by_cases h2:k ≤ j
      · have h3:k + 1 ≤ j:=by omega
        have h4:j - k = (j - (k + 1)) + 1:=by omega
        have h5:¬ k = j:=fun e=>h e.symm
        rw [h4]
        cases h0:p y <;> simp [h2,h3,h5,Nat.testBit_or]
      · have h3:¬ k + 1 ≤ j:=by omega
        have h5:¬ k = j:=fun e=>h e.symm
        cases h0:p y <;> simp [h2,h3,h5,Nat.testBit_or]
theorem mM {nm:ByteArray}:∀ {l:List HuM} {k a:Nat},jW nm l k a = xe (fun y=>onF y nm) l k a
  | [],_,_=>rfl
  | y :: r,k,a=>by rw [jW,xe,mM]
theorem oV {free:List Int}:∀ {l:List (List Int)} {k a:Nat},xT free l k a = xe (fun y=>y.any (fun x=>!free.contains x)) l k a
  | [],_,_=>rfl
  | y :: r,k,a=>by rw [xT,xe,oV]
theorem rB {t:ah} {s i:Nat}:∀ {n:Nat},im t s i n = true ↔ ∃ k,k < n ∧ s.testBit k = true ∧ (bN t i).testBit k = true
  | 0=>by simp [im]
  | n + 1=>by
    rw [im,Bool.or_eq_true,rB (n:=n),Bool.and_eq_true]
    have hb:(bN t i).testBit n = (match t.ar[n]? with | some y=>onF y (t.ar.getD i ⟨.empty,0,0,0,[],0,0⟩).name | none=>false):=by
      unfold bN
      rw [mM,jD]
      simp
      cases t.ar[n]? <;> rfl
    rw [← hb]
    constructor
    · rintro (⟨k,h1,h2⟩ | ⟨h1,h2⟩)
      · exact ⟨k,by omega,h2⟩
      · exact ⟨n,by omega,h1,h2⟩
    · rintro ⟨k,h1,h2⟩
      by_cases h:k = n
      · subst h; exact .inr h2
      · exact .inl ⟨k,by omega,h2⟩
theorem Ai {t:ah} (_hf:t.Fit) (s i:Nat):im t s i t.ar.length = decide (s &&& bN t i ≠ 0):=by
  rw [Bool.eq_iff_iff,rB]
  simp only [decide_eq_true_eq,ne_eq]
  constructor
  · rintro ⟨k,_,h1,h2⟩ h
    have:(s &&& bN t i).testBit k = true:=by rw [Nat.testBit_and,h1,h2]; rfl
    rw [h] at this
    simp at this
  · intro h
    apply Classical.byContradiction
    intro hn
    apply h
    apply Nat.eq_of_testBit_eq
    intro k
    rw [Nat.testBit_and,Nat.zero_testBit]
    cases h1:s.testBit k
    · rfl
    · cases h2:(bN t i).testBit k
      · rfl
      · exfalso
        apply hn
        refine ⟨k, ?_,h1,h2⟩
        rcases Nat.lt_or_ge k t.ar.length with g | g
        · exact g
        · have:=pR (nm:=(t.ar.getD i ⟨.empty,0,0,0,[],0,0⟩).name) (l:=t.ar) (k:=0) (a:=0) (n:=t.ar.length) (by omega) (Nat.pow_pos (by omega))
          have:=oH this g
          unfold bN at h2
          rw [this] at h2; cases h2
theorem IX {t:ah} {i:Nat} {l:List Int} (h:t.tanks[i]? = some l):(iN t).testBit i = l.any (fun x=>!(cH t).contains x):=by
  unfold iN
  rw [oV,jD]
  rw [Nat.sub_zero,h]
  simp
set_option maxRecDepth 100000
set_option maxHeartbeats 1000000
theorem qJ (n m:Int) (σ:af):Spec Tryz.prog I3 [ii' n,ii' m] σ fun r σ'=>r = .ret (.bool (decide (0 ≤ n) && decide (n < m))) ∧ σ' = σ:=by
  refine Spec.ay (Se (by simp) (dm _ ?_)) rfl rfl σ
  simp [MV]
theorem k9 (t:ah) (hok:t.Ok) (σ:af):Spec Tryz.prog Ik [t.v] σ fun r σ'=>r = .ret (aS (aN t)) ∧ σ' = σ:=by
  refine Spec.ay (Rw (by simp) (dm _ ?_)) (by simp [aM,t.pure]) rfl σ
  have hq1:=fun σ=>sc t.ar hok.ar σ
  rw [← Aq] at hq1
  have hq2:=fun σ=>lj t.hull hok.hull σ
  have hq3:=fun σ=>nH t.hull hok.hull t.lo t.hi σ
  have hq4:=fun σ=>ld t.net t.blanks t.steps hok.tk hok.pp hok.bl hok.st σ
  have h22:(gC t.hull).2.2 = eF t.hull:=(M6 _).symm
  rw [lP] at hq4
  obtain ⟨c,hc⟩:∃ c,aN t = c:=⟨_,rfl⟩
  have hc':=hc
  unfold aN at hc'
  rw [hc]
  simp [JL,ah.v,ah.cells]
  refine aj.pure Rf (hq1 _) ?_
  refine (Classical.em ((fY t.ar).2.2 = 0)).elim (fun h1=>?_) (fun h1=>?_)
  rotate_left
  · rw [if_pos h1] at hc'
    simp [aS,h1, ← hc']
  rw [if_neg (by simp [h1])] at hc'
  simp [aS,h1]
  refine aj.pure Ni (hq2 _) ?_
  refine (Classical.em (eF t.hull = 0)).elim (fun h2=>?_) (fun h2=>?_)
  rotate_left
  · rw [if_pos h2] at hc'
    simp [mw,h22,h2]
    rw [← hc']; rfl
  rw [if_neg (by simp [h2])] at hc'
  simp [mw,h22,h2]
  refine ⟨fun h3=>?_,fun h3 h4=>?_⟩
  · rw [if_pos (by omega)] at hc'
    rw [← hc']; rfl
  have hlen:t.hull.ps.length = t.ar.length:=by omega
  rw [if_neg (by omega)] at hc'
  refine AW.loop (ι:=Nat) (fun i fr σ'=>fr = { v:=[(1, .pval (.agg [.slice 7 (t.ar.map HuM.v), .slice 7 (t.hull.ps.map aq.v),ii' t.hull.aft,ii' t.hull.fore,ii' t.lo,ii' t.hi, .slice 2 (t.net.tanks.map aE.v), .slice 3 (t.net.pipes.map aG.v), .slice 1 (t.blanks.map ii'), .slice 2 (t.steps.map a7.v), .slice 1 (t.tanks.map cj)])),(8, .int .i64 t.ar.length),(9, .int .i64 i)],ds:=[] } ∧ i ≤ t.ar.length ∧ eI t.ar t.hull.ps 0 = eI (t.ar.drop i) (t.hull.ps.drop i) i) (fun i=>t.ar.length - i) 0 ⟨by simp,by omega,rfl⟩ ?_
  rintro i fr σ' ⟨rfl,hi,hnm⟩
  refine (Nat.lt_or_ge i t.ar.length).elim (fun hlt=>?_) (fun hge=>?_)
  · have hlt2:i < t.hull.ps.length:=by omega
    have hd:t.ar.drop i = t.ar[i] :: t.ar.drop (i + 1):=List.drop_eq_getElem_cons hlt
    have hd2:t.hull.ps.drop i = t.hull.ps[i] :: t.hull.ps.drop (i + 1):=List.drop_eq_getElem_cons hlt2
    obtain ⟨x,hx⟩:∃ x,t.ar[i] = x:=⟨_,rfl⟩
    obtain ⟨y,hy⟩:∃ y,t.hull.ps[i] = y:=⟨_,rfl⟩
    rw [hd,hd2,hx,hy] at hnm
    simp only [eI] at hnm
    have hw1:IntKind.i64.wrap ((i:Int) + 1) = ((i + 1:Nat):Int):=by rw [an (by omega) (by omega)]; simp
    refine dm _ ?_
    simp [hlt,hlt2,hx,hy,HuM.v,HuM.cells,aq.v,aq.cells]
    refine ⟨fun h5=>?_,fun h5=>⟨i + 1,by omega,hw1,by omega,by rw [hnm,if_pos h5]⟩⟩
    rw [if_neg h5] at hnm
    rw [hnm,if_pos (by simp)] at hc'
    rw [← hc']; rfl
  have hnl:¬ i < t.ar.length:=by omega
  have hz:t.ar.drop i = []:=List.drop_eq_nil_of_le hge
  rw [hz] at hnm
  replace hnm:eI t.ar t.hull.ps 0 = (0,0,0):=hnm
  rw [hnm,if_neg (by simp)] at hc'
  refine dm _ ?_
  simp [hnl]
  refine aj.pure Nd (hq3 _) ?_
  refine (Classical.em ((gi t.hull t.lo t.hi).2.2 = 0)).elim (fun h5=>?_) (fun h5=>?_)
  rotate_left
  · rw [if_pos h5] at hc'
    simp [aS,h5, ← hc']
  rw [if_neg (by simp [h5])] at hc'
  simp [aS,h5]
  refine aj.pure Mz (hq4 _) ?_
  refine (Classical.em ((du t.net t.blanks t.steps).1 = 0)).elim (fun h6=>?_) (fun h6=>?_)
  rotate_left
  · rw [if_pos h6] at hc'
    simp [h6]
    rw [← hc']; rfl
  rw [if_neg (by simp [h6])] at hc'
  simp [h6]
  refine ⟨fun h7=>?_,fun h7=>?_⟩
  · rw [if_pos (by omega)] at hc'
    rw [← hc']; rfl
  have hlen2:t.tanks.length = t.ar.length:=by omega
  rw [if_neg (by omega)] at hc'
  refine AW.loop (ι:=Nat) (fun i fr σ'=>fr = { v:=[(1, .pval (.agg [.slice 7 (t.ar.map HuM.v), .slice 7 (t.hull.ps.map aq.v),ii' t.hull.aft,ii' t.hull.fore,ii' t.lo,ii' t.hi, .slice 2 (t.net.tanks.map aE.v), .slice 3 (t.net.pipes.map aG.v), .slice 1 (t.blanks.map ii'), .slice 2 (t.steps.map a7.v), .slice 1 (t.tanks.map cj)])),(8, .int .i64 t.ar.length),(10, .int .i64 i)],ds:=[] } ∧ i ≤ t.tanks.length ∧ jn t.net.tanks.length (t.tanks.drop i) i = c) (fun i=>t.tanks.length - i) 0 ⟨by simp,by omega,hc'⟩ ?_
  rintro i fr σ' ⟨rfl,hi,hls⟩
  refine (Nat.lt_or_ge i t.tanks.length).elim (fun hlt=>?_) (fun hge=>?_)
  rotate_left
  · have hnl:¬ i < t.ar.length:=by omega
    have hz:t.tanks.drop i = []:=List.drop_eq_nil_of_le hge
    rw [hz] at hls
    refine dm _ ?_
    simp [hnl]
    rw [← hls]; rfl
  have hlt2:i < t.ar.length:=by omega
  have hd:t.tanks.drop i = t.tanks[i] :: t.tanks.drop (i + 1):=List.drop_eq_getElem_cons hlt
  obtain ⟨l,hl⟩:∃ l,t.tanks[i] = l:=⟨_,rfl⟩
  have hll:=hok.tls l (hl ▸ List.getElem_mem _)
  rw [hd,hl] at hls
  simp only [jn] at hls
  have hw1:IntKind.i64.wrap ((i:Int) + 1) = ((i + 1:Nat):Int):=by rw [an (by omega) (by omega)]; simp
  refine dm _ ?_
  simp [hlt,hlt2,hl,cj]
  refine AW.loop (ι:=Nat) (fun k fr σ'=>fr = { v:=[(1, .pval (.agg [.slice 7 (t.ar.map HuM.v), .slice 7 (t.hull.ps.map aq.v),ii' t.hull.aft,ii' t.hull.fore,ii' t.lo,ii' t.hi, .slice 2 (t.net.tanks.map aE.v), .slice 3 (t.net.pipes.map aG.v), .slice 1 (t.blanks.map ii'), .slice 2 (t.steps.map a7.v), .slice 1 (t.tanks.map cj)])),(8, .int .i64 t.ar.length),(10, .int .i64 i),(11, .slice 1 (l.map ii')),(12, .int .i64 k)],ds:=[] } ∧ k ≤ l.length ∧ qB t.net.tanks.length l = dK t.net.tanks.length (fun _=>false) l (l.drop k) k) (fun k=>l.length - k) 0 ⟨by simp,by omega,rfl⟩ ?_
  rintro k fr σ' ⟨rfl,hk,hle⟩
  refine (Nat.lt_or_ge k l.length).elim (fun hkl=>?_) (fun hkg=>?_)
  rotate_left
  · have hnl:¬ k < l.length:=by omega
    have hz:l.drop k = []:=List.drop_eq_nil_of_le hkg
    rw [hz] at hle
    replace hle:qB t.net.tanks.length l = 0:=hle
    rw [if_neg (by simp [hle])] at hls
    refine dm _ ?_
    simp [hnl]
    exact ⟨i + 1,by omega,hw1,by omega,hls⟩
  have hdk:l.drop k = l[k] :: l.drop (k + 1):=List.drop_eq_getElem_cons hkl
  obtain ⟨b,hb⟩:∃ b,l[k] = b:=⟨_,rfl⟩
  rw [hdk,hb] at hle
  simp only [dK] at hle
  refine dm _ ?_
  simp [hkl,hb]
  refine ⟨_,fun σ'=>aC.func Md (qJ b t.net.tanks.length σ'), ?_⟩
  simp
  refine ⟨fun h8=>?_,fun h8 h9=>?_⟩
  · rw [if_pos (by simpa [cO] using h8)] at hle
    rw [if_pos (by rw [hle]; simp),hle] at hls
    rw [← hls]; rfl
  rw [if_neg (by simp [cO]; omega)] at hle
  rcases Nat.eq_zero_or_pos k with h0 | h0
  · subst h0
    rw [if_neg (by simp)] at hle
    have hw0:IntKind.i64.wrap (-1) = -1:=by decide
    simp [hw0,hkl,hb]
    exact ⟨1,by omega,rfl,by omega,by simpa using hle⟩
  obtain ⟨j,rfl⟩:∃ j,k = j + 1:=⟨k - 1,by omega⟩
  have hw:IntKind.i64.wrap (((j + 1:Nat):Int) - 1) = j:=by rw [show (((j + 1:Nat):Int) - 1) = (j:Int) by omega]; exact an (by omega) (by simp only [maxLen] at hll; omega)
  have hjl:j < l.length:=by omega
  obtain ⟨d,hdj⟩:∃ d,l[j] = d:=⟨_,rfl⟩
  have hgb:l.getD (j + 1 - 1) 0 = d:=by simp [hjl,hdj]
  have hwk:IntKind.i64.wrap ((j:Int) + 1 + 1) = ((j + 2:Nat):Int):=by rw [show (j:Int) + 1 + 1 = ((j + 2:Nat):Int) by omega]; exact an (by omega) (by simp only [maxLen] at hll; omega)
  have hw2:IntKind.i64.wrap (j:Int) = j:=an (by omega) (by simp only [maxLen] at hll; omega)
  have hj0:(0:Int) < (j:Int) + 1:=by omega
  rw [hgb] at hle
  rw [hw]
  simp [hjl,hdj]
  refine ⟨fun h10=>?_,fun h10=>⟨j + 2,by omega,hwk,by omega, ?_⟩⟩
  · rw [if_pos ⟨by omega,h10⟩] at hle
    rw [if_pos (by rw [hle]; simp),hle] at hls
    rw [← hls]; rfl
  · rw [hle,if_neg (by omega)]; simp
set_option maxRecDepth 100000
set_option maxHeartbeats 1000000
theorem qZ (t:ah) (hok:t.Ok) (hfit:t.Fit) (σ:af):Spec Tryz.prog Fl [.agg [.slice 2 (t.net.tanks.map aE.v), .slice 3 (t.net.pipes.map aG.v)], .slice 1 (t.blanks.map ii'), .slice 2 (t.steps.map a7.v)] σ fun r σ'=>r = .ret (.tup [.agg [.slice 1 ((cH t).map ii'), .slice 1 ((mD t).map ii')],ii' 0]) ∧ σ' = σ:=by
  have:=ld t.net t.blanks t.steps hok.tk hok.pp hok.bl hok.st σ
  rw [lP,hfit.after] at this
  unfold vN at this
  rw [if_pos hfit.after] at this
  exact this
theorem G7 (a:Int):(a == 0) = decide (a = 0):=by
  by_cases h:a = 0 <;> simp [h]
theorem tO (t:ah) (hok:t.Ok) (hf:t.Fit) (σ:af):Spec Tryz.prog Ie [t.v] σ fun r σ'=>r = .ret (s5 t) ∧ σ' = σ:=by
  refine Spec.ay (QD (by simp) (dm _ ?_)) (by simp [aM,t.pure]) (xR t) σ
  have h7:=hf.ship7
  have hhl:=hf.hull
  have htl:=hf.tanks
  obtain ⟨m,hm⟩:∃ m,t.ar.length = m:=⟨_,rfl⟩
  have hpm:2 ^ m ≤ 128:=by
    have:2 ^ m ≤ 2 ^ 7:=Nat.pow_le_pow_right (by omega) (by omega)
    omega
  have hp1:1 ≤ 2 ^ m:=Nat.one_le_two_pow
  have hm7:m ≤ 7:=by omega
  simp [OW,ah.v,ah.cells]
  refine AW.loop (ι:=Nat) (fun s fr σ=>∃ k,fr = { v:=[(1, .pval t.v),(2, .ptr 0 0),(3,nn' m),(4, .oslice 1 (e8 t s) 1 k),(5,nn' s)],ds:=[] } ∧
    σ = [.box [ii' 0, .slice 1 []], .spare 1 k] ∧ 1 ≤ s ∧ s ≤ 2 ^ m) (fun s=>2 ^ m - s) 1 ⟨0,by simp [ah.v,ah.cells,hm,e8,eD],rfl,by omega,hp1⟩ ?_
  rintro s fr σ ⟨k,rfl,rfl,hs1,hs⟩
  have hq1:=fun s (hs:s < 128) σ=>tY t (by omega) s hs σ
  have hq2:=fun s σ=>nH (bL t s) (Nat.le_trans lE hok.hull) t.lo t.hi σ
  refine (Nat.lt_or_ge s (2 ^ m)).elim (fun hlt=>?_) (fun hge=>?_)
  · have hw1:IntKind.i64.wrap ((s:Int) + 1) = ((s + 1:Nat):Int):=by rw [an (by omega) (by omega)]; simp
    have hltI:(s:Int) < 2 ^ m:=by
      have:((s:Nat):Int) < ((2 ^ m:Nat):Int):=by omega
      simpa using this
    have hst:=xU t s
    have hfs:(!eD t s) = decide (k6 t s = 0):=by
      have:¬ s = 0:=by omega
      simp [eD,this]
    rw [hfs] at hst
    have hwl:(gi (bL t s) t.lo t.hi).1 = k6 t s:=rfl
    refine dm _ ?_
    simp [ah.v,ah.cells]
    refine aj.pure xS (bP m hm7 _) ?_
    simp [hltI,ah.v,ah.cells]
    refine ⟨(bL t s).v,fun σ' _=>aC.func (first:=[]) (args:=[t.v,nn' s]) (caps:=[]) N7 (hq1 s (by omega) σ'), ?_⟩
    simp [aB.v,aB.cells]
    refine ⟨aS (gi (bL t s) t.lo t.hi),fun σ' _=>aC.func (first:=[]) (args:=[(bL t s).v,cJ t.lo t.hi]) (caps:=[]) Nd (hq2 s σ'), ?_⟩
    simp [aS,hwl,hw1]
    exact ⟨by intro v hv; simp at hv; subst hv; exact ⟨⟨rfl,rfl⟩,rfl⟩,by omega,s + 1,by omega,k + 1,⟨⟨by rw [hst, ← G7],rfl⟩,by simp⟩,rfl,by omega,by omega⟩
  · have hnlI:¬ (s:Int) < 2 ^ m:=by
      have:¬ ((s:Nat):Int) < ((2 ^ m:Nat):Int):=by omega
      simpa using this
    refine dm _ ?_
    simp [ah.v,ah.cells]
    refine aj.pure xS (bP m hm7 _) ?_
    simp [hnlI,ah.v,ah.cells]
    refine aj.pure Mz (qZ t hok hf _) ?_
    simp
    have hs2:s = 2 ^ m:=by omega
    subst hs2
    refine AW.loop (ι:=Nat) (fun s fr σ=>∃ q tl,fr = { v:=[(1, .pval t.v),(2, .ptr 0 0),(3,nn' m),(4, .oslice 1 (e8 t (2 ^ m)) 1 k),(9, .pval (.agg [.slice 1 ((cH t).map ii'), .slice 1 ((mD t).map ii')])),(11, .ptr 4 0),(12,nn' s)],ds:=[] } ∧
      σ = .box [ii' 0, .slice 1 []] :: .spare 1 k :: .dead :: .spare 1 q :: .box [nn' m, .oslice 1 (gq t s) 3 q] :: tl ∧ s ≤ 2 ^ m) (fun s=>2 ^ m - s) 0 ⟨0,[],by simp [ah.v,ah.cells],by simp [gq],by omega⟩ ?_
    rintro s fr σ ⟨q,tl,rfl,rfl,hs⟩
    refine (Nat.lt_or_ge s (2 ^ m)).elim (fun hlt=>?_) (fun hge=>?_)
    rotate_left
    · have hnlI:¬ (s:Int) < 2 ^ m:=by
        have:¬ ((s:Nat):Int) < ((2 ^ m:Nat):Int):=by omega
        simpa using this
      have hs2:s = 2 ^ m:=by omega
      subst hs2
      refine dm _ ?_
      simp [ah.v,ah.cells]
      refine aj.pure xS (bP m hm7 _) ?_
      simp [ah.v,ah.cells,s5,hm]
    have hltI:(s:Int) < 2 ^ m:=by
      have:((s:Nat):Int) < ((2 ^ m:Nat):Int):=by omega
      simpa using this
    have hws:IntKind.i64.wrap ((s:Int) + 1) = ((s + 1:Nat):Int):=by rw [an (by omega) (by omega)]; simp
    have hrs:=zJ t s
    refine dm _ ?_
    simp [ah.v,ah.cells]
    refine aj.pure xS (bP m hm7 _) ?_
    simp [hltI,ah.v,ah.cells]
    refine AW.loop (ι:=Nat) (fun i fr σ=>∃ p,fr = { v:=[(1, .pval t.v),(2, .ptr 0 0),(3,nn' m),(4, .oslice 1 (e8 t (2 ^ m)) 1 k),(9, .pval (.agg [.slice 1 ((cH t).map ii'), .slice 1 ((mD t).map ii')])),(11, .ptr 4 0),(12,nn' s),(13, .oslice 1 ((List.range i).map fun j=>nn' (bD t s j)) (tl.length + 5) p),(14,nn' i)],ds:=[] } ∧
      σ = .box [ii' 0, .slice 1 []] :: .spare 1 k :: .dead :: .spare 1 q :: .box [nn' m, .oslice 1 (gq t s) 3 q] :: (tl ++ [.spare 1 p]) ∧ i ≤ m) (fun i=>m - i) 0 ⟨0,by simp [ah.v,ah.cells],by simp,by omega⟩ ?_
    rintro i fr σ ⟨p,rfl,rfl,hi⟩
    refine (Nat.lt_or_ge i m).elim (fun hil=>?_) (fun hig=>?_)
    rotate_left
    · have hnl:¬ i < m:=by omega
      have him:i = m:=by omega
      subst him
      refine dm _ ?_
      simp [hws,ah.v,ah.cells]
      exact ⟨by intro v hv; simp at hv; subst hv; exact ⟨⟨rfl,rfl⟩,rfl⟩,by omega,s + 1,by omega,by simp,by rw [hrs,hm]; rfl,by omega⟩
    have hwi:IntKind.i64.wrap ((i:Int) + 1) = ((i + 1:Nat):Int):=by rw [an (by omega) (by omega)]; simp
    have hiS:i < t.ar.length:=by omega
    obtain ⟨x,hx⟩:∃ x,t.ar[i] = x:=⟨_,rfl⟩
    have hit:i < t.tanks.length:=by omega
    obtain ⟨l,hl⟩:∃ l,t.tanks[i] = l:=⟨_,rfl⟩
    have hll:=hok.tls l (hl ▸ List.getElem_mem _)
    refine dm _ ?_
    simp [hil,ah.v,ah.cells]
    refine AW.loop (ι:=Nat) (fun kk fr σ=>fr = { v:=[(1, .pval t.v),(2, .ptr 0 0),(3,nn' m),(4, .oslice 1 (e8 t (2 ^ m)) 1 k),(9, .pval (.agg [.slice 1 ((cH t).map ii'), .slice 1 ((mD t).map ii')])),(11, .ptr 4 0),(12,nn' s),(13, .oslice 1 ((List.range i).map fun j=>nn' (bD t s j)) (tl.length + 5) p),(14,nn' i),(15, .bool (im t s i kk)),(16, .bool false),(17,nn' kk)],ds:=[] } ∧
      σ = .box [ii' 0, .slice 1 []] :: .spare 1 k :: .dead :: .spare 1 q :: .box [nn' m, .oslice 1 (gq t s) 3 q] :: (tl ++ [.spare 1 p]) ∧ kk ≤ m) (fun kk=>m - kk) 0 ⟨by simp [ah.v,ah.cells,im],by simp,by omega⟩ ?_
    rintro kk fr σ ⟨rfl,rfl,hkk⟩
    refine (Nat.lt_or_ge kk m).elim (fun hkl=>?_) (fun hkg=>?_)
    · have hwk:IntKind.i64.wrap ((kk:Int) + 1) = ((kk + 1:Nat):Int):=by rw [an (by omega) (by omega)]; simp
      have hkS:kk < t.ar.length:=by omega
      obtain ⟨y,hy⟩:∃ y,t.ar[kk] = y:=⟨_,rfl⟩
      have hyo:=hok.ar.2 y (hy ▸ List.getElem_mem _)
      have hov:im t s i (kk + 1) = (im t s i kk || (s.testBit kk && onF y x.name)):=by simp [im,hkS,hy,hiS,hx]
      have hH:=fun σ=>gY s kk (by omega) (by omega) σ
      have hPl:=fun σ=>iC y.on x.name hyo σ
      have hpa:decide (0 ≤ dG y.on x.name 0) = onF y x.name:=by
        rw [Bool.eq_iff_iff,decide_eq_true_iff,iw]
        unfold onF
        rw [show (fun a:ByteArray=>a.toList == x.name.toList) = fun a=>x.name.toList == a.toList from funext fun a=>by rw [Bool.eq_iff_iff,beq_iff_eq,beq_iff_eq]; exact eq_comm]
      refine (tf (im t s i kk)).elim (fun hb=>?_) (fun hb=>?_)
      rotate_left
      · rw [hb,Bool.true_or] at hov
        rw [hb]
        refine dm _ ?_
        simp [hkl,hkS,hiS,hy,hx,hwk,ah.v,ah.cells,HuM.v,HuM.cells]
        refine ⟨.bool true, ?_⟩
        simp
        refine ⟨.int .i64 0, ?_⟩
        simp
        exact ⟨kk + 1,by omega,⟨hov,by simp⟩,by omega⟩
      rw [hb,Bool.false_or] at hov
      rw [hb]
      refine (tf (s.testBit kk)).elim (fun hc=>?_) (fun hc=>?_)
      · rw [hc,Bool.false_and] at hov
        rw [hc] at hH
        refine dm _ ?_
        simp [hkl,hkS,hiS,hy,hx,hwk,ah.v,ah.cells,HuM.v,HuM.cells]
        refine ⟨.bool false,fun σ'=>aC.func (first:=[]) (args:=[nn' s,nn' kk]) (caps:=[]) uE (hH σ'), ?_⟩
        simp
        refine ⟨.int .i64 0, ?_⟩
        simp
        exact ⟨kk + 1,by omega,⟨hov,by simp⟩,by omega⟩
      · rw [hc,Bool.true_and] at hov
        rw [hc] at hH
        refine dm _ ?_
        simp [hkl,hkS,hiS,hy,hx,hwk,ah.v,ah.cells,HuM.v,HuM.cells]
        refine ⟨.bool true,fun σ'=>aC.func (first:=[]) (args:=[nn' s,nn' kk]) (caps:=[]) uE (hH σ'), ?_⟩
        simp
        refine ⟨.int .i64 (dG y.on x.name 0),fun σ' _=>aC.func (first:=[]) (args:=[.slice 1 (y.on.map .str), .str x.name]) (caps:=[]) El (hPl σ'), ?_⟩
        simp [hpa]
        exact ⟨kk + 1,by omega,⟨hov.symm,by simp⟩,by omega⟩
    have hkm:kk = m:=by omega
    subst hkm
    have hnk:¬ kk < kk:=by omega
    refine dm _ ?_
    simp [ah.v,ah.cells]
    refine AW.loop (ι:=Nat) (fun j fr σ=>fr = { v:=[(1, .pval t.v),(2, .ptr 0 0),(3,nn' kk),(4, .oslice 1 (e8 t (2 ^ kk)) 1 k),(9, .pval (.agg [.slice 1 ((cH t).map ii'), .slice 1 ((mD t).map ii')])),(11, .ptr 4 0),(12,nn' s),(13, .oslice 1 ((List.range i).map fun j=>nn' (bD t s j)) (tl.length + 5) p),(14,nn' i),(15, .bool (im t s i kk)),(16, .bool (mg (fun x=>!(cH t).contains x) l j)),(18,nn' j)],ds:=[] } ∧
      σ = .box [ii' 0, .slice 1 []] :: .spare 1 k :: .dead :: .spare 1 q :: .box [nn' kk, .oslice 1 (gq t s) 3 q] :: (tl ++ [.spare 1 p]) ∧ j ≤ l.length) (fun j=>l.length - j) 0 ⟨by simp [ah.v,ah.cells,mg],by simp,by omega⟩ ?_
    rintro j fr σ ⟨rfl,rfl,hj⟩
    refine (Nat.lt_or_ge j l.length).elim (fun hjl=>?_) (fun hjg=>?_)
    · have hwj:IntKind.i64.wrap ((j:Int) + 1) = ((j + 1:Nat):Int):=by rw [an (by omega) (by simp only [maxLen] at hll; omega)]; simp
      have hany:=zh (fun x=>!(cH t).contains x) l hjl
      obtain ⟨b,hb⟩:∃ b,l[j] = b:=⟨_,rfl⟩
      have hfl:(cH t).length ≤ maxLen:=Nat.le_trans (ue _) (by decide)
      have hHs:=fun σ=>ff (cH t) b hfl σ
      rw [hb] at hany
      refine (tf (mg (fun x=>!(cH t).contains x) l j)).elim (fun hc=>?_) (fun hc=>?_)
      · rw [hc,Bool.false_or] at hany
        rw [hc]
        refine dm _ ?_
        simp [hit,hl,hjl,hb,hwj,cj,ah.v,ah.cells]
        refine ⟨.bool ((cH t).contains b),fun σ' _=>aC.func (first:=[]) (args:=[.slice 1 ((cH t).map ii'),ii' b]) (caps:=[]) jc (hHs σ'), ?_⟩
        simp
        simp at hany
        exact ⟨j + 1,by omega,⟨by rw [hany]; simp,by simp⟩,by omega⟩
      · rw [hc,Bool.true_or] at hany
        rw [hc]
        refine dm _ ?_
        simp [hit,hl,hjl,hb,hwj,cj,ah.v,ah.cells]
        refine ⟨.bool true, ?_⟩
        simp
        simp at hany
        exact ⟨j + 1,by omega,⟨hany,by simp⟩,by omega⟩
    have hjm:j = l.length:=by omega
    subst hjm
    have hnj:¬ l.length < l.length:=by omega
    refine dm _ ?_
    simp [hit,hl,hnj,cj,ah.v,ah.cells]
    have hov:=Ai hf s i
    rw [hm] at hov
    have hga:(iN t).testBit i = mg (fun x=>!(cH t).contains x) l l.length:=by
      rw [IX (l:=l) (by rw [List.getElem?_eq_getElem hit,hl])]
      unfold mg
      rw [List.take_length]
    have hH:=fun σ=>gY s i (by omega) (by omega) σ
    have hrow:=Ba t s i
    have hfit1:∀ w:Nat,Fits 1 [nn' w]:=fun w v hv=>by simp at hv; subst hv; exact ⟨⟨rfl,rfl⟩,rfl⟩
    have hwhy:bD t s i = if s.testBit i then (if im t s i kk then 2 else if mg (fun x=>!(cH t).contains x) l l.length then 3 else if eD t (aK s i) then 4 else 0) else 1:=by
      unfold bD
      rw [hov,hga]
      cases s.testBit i <;> simp
    refine (tf (s.testBit i)).elim (fun hb=>?_) (fun hb=>?_)
    · rw [hb,if_neg (by simp)] at hwhy
      rw [hb] at hH
      refine aj.pure uE (hH _) ?_
      simp
      exact ⟨hfit1 1,by omega,i + 1,by omega,p + 1,⟨⟨by rw [hrow,hwhy]; rfl,rfl⟩,hwi⟩,rfl,by omega⟩
    rw [hb,if_pos rfl] at hwhy
    rw [hb] at hH
    refine aj.pure uE (hH _) ?_
    simp
    refine (tf (im t s i kk)).elim (fun hc=>?_) (fun hc=>?_)
    rotate_left
    · rw [hc,if_pos rfl] at hwhy
      simp [hc]
      exact ⟨hfit1 2,by omega,i + 1,by omega,p + 1,⟨⟨by rw [hrow,hwhy]; rfl,rfl⟩,hwi⟩,rfl,by omega⟩
    rw [hc,if_neg (by simp)] at hwhy
    simp [hc]
    refine (tf (mg (fun x=>!(cH t).contains x) l l.length)).elim (fun hd=>?_) (fun hd=>?_)
    rotate_left
    · rw [hd,if_pos rfl] at hwhy
      simp at hd
      simp [hd]
      exact ⟨hfit1 3,by omega,i + 1,by omega,p + 1,⟨⟨by rw [hrow,hwhy]; rfl,rfl⟩,hwi⟩,rfl,by omega⟩
    rw [hd,if_neg (by simp)] at hwhy
    simp at hd
    simp [hd]
    refine aj.pure xS (bP i (by omega) _) ?_
    obtain ⟨hr1,hr2⟩:=yp s (by omega) i (by omega) hb
    have hrm:IntKind.i64.wrap ((s:Int) - 2 ^ i) = ((aK s i:Nat):Int):=by
      rw [hr1,show (s:Int) - 2 ^ i = ((s - 2 ^ i:Nat):Int) by
        have e:(2:Int) ^ i = ((2 ^ i:Nat):Int):=by simp
        rw [e]; omega]
      exact wrap_i64 (Nat.lt_of_le_of_lt (Nat.sub_le _ _) (by omega))
    have hrl:aK s i < 2 ^ kk:=Nat.lt_of_le_of_lt (by rw [hr1]; exact Nat.sub_le _ _) hlt
    have hrlI:((aK s i:Nat):Int) < 2 ^ kk:=by
      have e:(2:Int) ^ kk = ((2 ^ kk:Nat):Int):=by simp
      rw [e]; omega
    refine (tf (eD t (aK s i))).elim (fun hg=>?_) (fun hg=>?_)
    · rw [hg,if_neg (by simp)] at hwhy
      simp [hrm,hrl,hrlI,hg]
      exact ⟨hfit1 0,by omega,i + 1,by omega,p + 1,⟨⟨by rw [hrow,hwhy]; rfl,rfl⟩,hwi⟩,rfl,by omega⟩
    · rw [hg,if_pos rfl] at hwhy
      simp [hrm,hrl,hrlI,hg]
      exact ⟨hfit1 4,by omega,i + 1,by omega,p + 1,⟨⟨by rw [hrow,hwhy]; rfl,rfl⟩,hwi⟩,rfl,by omega⟩
set_option maxRecDepth 100000
set_option maxHeartbeats 1000000
def inO (m:Nat) (x:Int):Bool:=decide (0 ≤ x) && decide (x < m)
def bz (t:ah) (l:List Int):Int:=if (aN t).2.2 ≠ 0 then (aN t).2.2 else if l.all (inO t.ar.length) then 0 else 4
theorem tc (t:ah) (hok:t.Ok) (l:List Int) (hl:l.length ≤ maxLen) (σ:af):Spec Tryz.prog HY [t.v, .slice 1 (l.map ii')] σ fun r σ'=>r = .ret (ii' (bz t l)) ∧ σ' = σ:=by
  refine Spec.ay (QX (by simp) (dm _ ?_)) (by simp [aM,t.pure,ab.pure,av (f:=ii') (fun _=>rfl)]) rfl σ
  have hc:=fun σ=>k9 t hok σ
  simp [L9,ah.v,ah.cells]
  refine aj.pure N5 (hc _) ?_
  simp [aS]
  obtain ⟨e0,he0⟩:∃ e0,(aN t).2.2 = e0:=⟨_,rfl⟩
  rw [he0]
  refine AW.loop (ι:=Nat) (fun i fr σ=>∃ e,fr = { v:=[(1, .slice 1 (l.map ii')),(2, .pval t.v),(7,ii' e),(8,nn' i)],ds:=[] } ∧ i ≤ l.length ∧ (e = 0 → e0 = 0 ∧ (l.take i).all (inO t.ar.length) = true) ∧ (e ≠ 0 → e = bz t l)) (fun i=>l.length - i) 0 ⟨e0,by simp [ah.v,ah.cells],by omega,fun h=>⟨h,rfl⟩,fun h=>by unfold bz; rw [he0,if_pos h]⟩ ?_
  rintro i fr σ ⟨e,rfl,hi,h0,h1⟩
  refine (Nat.lt_or_ge i l.length).elim (fun hlt=>?_) (fun hge=>?_)
  · refine (Classical.em (e = 0)).elim (fun hz=>?_) (fun hz=>?_)
    · subst hz
      obtain ⟨g1,g2⟩:=h0 rfl
      obtain ⟨x,hx⟩:∃ x,l[i] = x:=⟨_,rfl⟩
      have hw1:IntKind.i64.wrap ((i:Int) + 1) = ((i + 1:Nat):Int):=by rw [an (by omega) (by simp only [maxLen] at hl; omega)]; simp
      have htk:(l.take (i + 1)).all (inO t.ar.length) = inO t.ar.length x:=by
        rw [List.take_add_one,List.all_append,g2,List.getElem?_eq_getElem hlt,hx]; simp
      have hin:=fun σ=>qJ x t.ar.length σ
      refine dm _ ?_
      simp [hlt,hx,ah.v,ah.cells]
      refine ⟨.bool (inO t.ar.length x),fun σ'=>aC.func (first:=[]) (args:=[ii' x,ii' t.ar.length]) (caps:=[]) Md (hin σ'), ?_⟩
      refine (tf (inO t.ar.length x)).elim (fun hb=>?_) (fun hb=>?_)
      · simp [hb]
        refine ⟨i + 1,by omega,4,⟨rfl,hw1⟩,by omega,fun h=>(by cases h),fun _=>?_⟩
        unfold bz
        rw [he0,g1,if_neg (by simp),if_neg]
        intro hall
        have:=List.all_eq_true.1 hall x (hx ▸ List.getElem_mem _)
        rw [hb] at this; cases this
      · simp [hb]
        exact ⟨i + 1,by omega,0,⟨rfl,hw1⟩,by omega,fun _=>⟨g1,by simpa using htk.trans hb⟩,fun h=>absurd rfl h⟩
    · refine dm _ ?_
      simp [hlt,hz,ah.v,ah.cells]
      exact h1 hz
  · have hnl:¬ i < l.length:=by omega
    refine dm _ ?_
    simp [hnl,ah.v,ah.cells]
    by_cases hz:e = 0
    · subst hz
      obtain ⟨g1,g2⟩:=h0 rfl
      rw [List.take_of_length_le hge] at g2
      unfold bz
      rw [he0,g1,if_neg (by simp),if_pos g2]
    · exact h1 hz
theorem Te (t:ah) (hf:t.Fit) (l:List Int) (hl:l.length ≤ maxLen) (hin:l.all (inO t.ar.length) = true) (σ:af) :
    Spec Tryz.prog UU [s5 t, .slice 1 (l.map ii')] σ fun r σ'=>r = .ret (.tup [ii' (bH t l 0 (aP t)).1,nn' (bH t l 0 (aP t)).2.1,nn' (bH t l 0 (aP t)).2.2]) ∧ σ' = σ:=by
  refine Spec.ay (VS (by simp) (dm _ ?_)) (by simp [aM,xR,ab.pure,av (f:=ii') (fun _=>rfl)]) rfl σ
  have h7:=hf.ship7
  obtain ⟨W,hW⟩:∃ W,bH t l 0 (aP t) = W:=⟨_,rfl⟩
  rw [hW]
  have hp1:1 ≤ 2 ^ t.ar.length:=Nat.one_le_two_pow
  have hp2:2 ^ t.ar.length ≤ 128:=Nat.le_trans (Nat.pow_le_pow_right (by omega) h7) (by decide)
  have hall:IntKind.i64.wrap (2 ^ t.ar.length - 1) = ((aP t:Nat):Int):=by
    have e:(2:Int) ^ t.ar.length = ((2 ^ t.ar.length:Nat):Int):=by simp
    have h6:((aP t:Nat):Int) = 2 ^ t.ar.length - 1:=by
      rw [e]; unfold aP; omega
    rw [← h6]
    exact wrap_i64 (by have:=bU hf; omega)
  simp [Vo,s5]
  refine aj.pure xS (bP t.ar.length h7 _) ?_
  simp [hall]
  refine AW.loop (ι:=Nat) (fun i fr σ=>∃ s,fr = { v:=[(1, .slice 1 (l.map ii')),(2, .pval (s5 t)),(7,nn' s),(8,nn' i)],ds:=[] } ∧ i ≤ l.length ∧ Sub t s ∧ bH t (l.drop i) i s = W) (fun i=>l.length - i) 0 ⟨aP t,by simp [s5],by omega,Sub.all t,hW⟩ ?_
  rintro i fr σ ⟨s,rfl,hi,hs,hw⟩
  have h128:=hs.lt hf
  have hsp:s < 2 ^ t.ar.length:=Nat.lt_pow_two_of_testBit s fun j hj=>by
    cases hb:s.testBit j
    · rfl
    · have:=hs j hb; omega
  refine (Nat.lt_or_ge i l.length).elim (fun hlt=>?_) (fun hge=>?_)
  · have hd:l.drop i = l[i] :: l.drop (i + 1):=List.drop_eq_getElem_cons hlt
    obtain ⟨x,hx⟩:∃ x,l[i] = x:=⟨_,rfl⟩
    have hxi:=List.all_eq_true.1 hin x (hx ▸ List.getElem_mem _)
    simp only [inO,Bool.and_eq_true,decide_eq_true_eq] at hxi
    obtain ⟨n,rfl⟩:∃ n:Nat,x = n:=⟨x.toNat,by omega⟩
    have hn:n < t.ar.length:=by omega
    have hw1:IntKind.i64.wrap ((i:Int) + 1) = ((i + 1:Nat):Int):=by rw [an (by omega) (by simp only [maxLen] at hl; omega)]; simp
    rw [hd,hx,bH] at hw
    simp only [Int.toNat_natCast] at hw
    have hspI:(s:Int) < 2 ^ t.ar.length:=by
      have e:(2:Int) ^ t.ar.length = ((2 ^ t.ar.length:Nat):Int):=by simp
      rw [e]; omega
    refine (Classical.em (bD t s n = 0)).elim (fun hz=>?_) (fun hz=>?_)
    · obtain ⟨hr1,hr2⟩:=yp s h128 n (by omega) (eA hz)
      have hrm:IntKind.i64.wrap ((s:Int) - 2 ^ n) = ((aK s n:Nat):Int):=by
        rw [hr1,show (s:Int) - 2 ^ n = ((s - 2 ^ n:Nat):Int) by
          have e:(2:Int) ^ n = ((2 ^ n:Nat):Int):=by simp
          rw [e]; omega]
        exact wrap_i64 (Nat.lt_of_le_of_lt (Nat.sub_le _ _) (by omega))
      rw [if_neg (by simpa using hz)] at hw
      refine dm _ ?_
      simp [hlt,hx,hn,hsp,hspI,hz,s5,yb]
      refine aj.pure xS (bP n (by omega) _) ?_
      simp [hrm,hw1,s5]
      exact ⟨i + 1,by omega,_,⟨rfl,by simp⟩,by omega,hs.rem,hw⟩
    · rw [if_pos hz] at hw
      refine dm _ ?_
      simp [hlt,hx,hn,hsp,hspI,hz,s5,yb]
      rw [← hw]; exact ⟨rfl,rfl,rfl⟩
  · have hnl:¬ i < l.length:=by omega
    rw [List.drop_eq_nil_of_le hge] at hw
    refine dm _ ?_
    simp [hnl,s5]
    rw [← hw]; exact ⟨rfl,rfl,rfl⟩
end Go.AM
