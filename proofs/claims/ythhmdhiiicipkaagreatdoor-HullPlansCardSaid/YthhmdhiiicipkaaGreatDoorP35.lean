/- The document: the check of plans, a day and sights. The document: which plans agree. The document: how many plans are left at worst. The document: what is surely there. The document: what to look .. -/
import Derived.Test.YthhmdhiiicipkaaGreatDoorP24
import Derived.Test.YthhmdhiiicipkaaGreatDoorP21
import Derived.Test.YthhmdhiiicipkaaGreatDoorP23
import Derived.Test.YthhmdhiiicipkaaGreatDoorP25
import Derived.Test.YthhmdhiiicipkaaGreatDoorP27
import Derived.Test.YthhmdhiiicipkaaGreatDoorP29
namespace Go.AM
open Go.Proofs
set_option maxRecDepth 100000
set_option maxHeartbeats 1000000
theorem lW (ps:List ar) (day:Int) (ss:List av) (hn:ps.length ≤ maxLen) (hf:∀ p ∈ ps,gO p) (hs:ss.length ≤ maxLen) (σ:ag) :
    Spec Tryz.prog HB [bx ps,ii' day,br ss] σ fun r σ'=>r = .ret (ii' (aW ps day ss)) ∧ σ' = σ:=by
  refine Spec.aC (M8 (by simp) ?_) (by simp [aA,cA,cQ,ab.pure]) rfl σ
  obtain ⟨E,hE⟩:∃ E,aW ps day ss = E:=⟨_,rfl⟩
  rw [hE]
  have hmx:maxLen = 9223372036854775807:=rfl
  have w1:=aJ ps.length 1 6
  have w2:=aJ day 0 40000
  unfold aW at hE
  simp only [bx,br]
  rcases tf (bu (ps.length:Int) 1 6) with h1 | h1
  · rw [if_pos h1] at hE
    rw [h1] at w1
    subst hE
    refine aa _ ?_
    simp [Hl]
    refine af.pure eQ (w1 _) ?_
    simp
  rw [if_neg (by simp [h1])] at hE
  rw [h1] at w1
  refine aa _ ?_
  simp [Hl]
  refine af.pure eQ (w1 _) ?_
  simp
  refine AW.loop (ι:=Nat) (fun i fr σ=>fr = { v:=[(0, .slice 2 (ps.map ar.v)),(1,ii' day),(2, .slice 3 (ss.map av.v)),(7, .int .i64 i)],ds:=[] } ∧ i ≤ ps.length ∧ cC (fun p=>(bL p).2.2) ps = cC (fun p=>(bL p).2.2) (ps.drop i)) (fun i=>ps.length - i) 0 ⟨rfl,by omega,rfl⟩ ?_
  rintro i fr σ ⟨rfl,hi,hfi⟩
  refine (Nat.lt_or_ge i ps.length).elim (fun hlt=>?_) (fun hge=>?_)
  · obtain ⟨p,hp⟩:∃ p,ps[i] = p:=⟨_,rfl⟩
    have hpf:=hf p (hp ▸ List.getElem_mem hlt)
    rw [List.drop_eq_getElem_cons hlt,hp] at hfi
    simp only [cC] at hfi
    obtain ⟨pp,pc⟩:=p
    have q:=fg pp pc hpf
    generalize bL ⟨pp,pc⟩ = A at q hfi
    obtain ⟨a1,a2,a3⟩:=A
    simp only [dc] at q hfi
    have hwi:IntKind.i64.wrap ((i:Int) + 1) = ((i + 1:Nat):Int):=by rw [aj (by omega) (by omega)]; simp
    rcases Decidable.em (a3 = 0) with h3 | h3
    · subst h3
      rw [if_neg (by simp)] at hfi
      refine aa _ ?_
      simp [hlt,hp,ar.v,ar.cells]
      refine af.pure uA (q _) ?_
      simp [hwi]
      exact ⟨i + 1,by omega,by simp,by omega,hfi⟩
    · rw [if_pos h3] at hfi
      have:a3 = E:=by rw [← hE,if_pos (by rw [hfi]; exact h3),hfi]
      subst this
      refine aa _ ?_
      simp [hlt,hp,ar.v,ar.cells]
      refine af.pure uA (q _) ?_
      simp [h3]
  · rw [List.drop_eq_nil_of_le hge] at hfi
    simp only [cC] at hfi
    rw [hfi,if_neg (by simp)] at hE
    rcases tf (bu day 0 40000) with h2 | h2
    · rw [if_pos h2] at hE
      rw [h2] at w2
      subst hE
      refine aa _ ?_
      simp [show ¬ i < ps.length by omega]
      refine af.pure eQ (w2 _) ?_
      simp
    rw [if_neg (by simp [h2])] at hE
    rw [h2] at w2
    rcases Nat.lt_or_ge 12 ss.length with h4 | h4
    · rw [if_pos h4] at hE
      subst hE
      refine aa _ ?_
      simp [show ¬ i < ps.length by omega]
      refine af.pure eQ (w2 _) ?_
      simp [show (12:Int) < ss.length by omega]
    rw [if_neg (by omega)] at hE
    refine aa _ ?_
    simp [show ¬ i < ps.length by omega]
    refine af.pure eQ (w2 _) ?_
    simp [show ¬ (12:Int) < ss.length by omega]
    refine AW.loop (ι:=Nat) (fun k fr σ=>fr = { v:=[(2, .slice 3 (ss.map av.v)),(11, .int .i64 k)],ds:=[] } ∧ k ≤ ss.length ∧ cC jW ss = cC jW (ss.drop k)) (fun k=>ss.length - k) 0 ⟨rfl,by omega,rfl⟩ ?_
    rintro k fr σ ⟨rfl,hk,hfk⟩
    refine (Nat.lt_or_ge k ss.length).elim (fun hltk=>?_) (fun hgek=>?_)
    · obtain ⟨s,hsk⟩:∃ s,ss[k] = s:=⟨_,rfl⟩
      rw [List.drop_eq_getElem_cons hltk,hsk] at hfk
      simp only [cC] at hfk
      have n1:=hO s.name
      have n2:=aJ s.frame 0 40
      have n3:=aJ s.kind 0 5
      have hwk:IntKind.i64.wrap ((k:Int) + 1) = ((k + 1:Nat):Int):=by rw [aj (by omega) (by omega)]; simp
      have hs6:jW s = if cg s.name = false then 6 else if bu s.frame 0 40 = false ∨ bu s.kind 0 5 = false then 7 else 0:=rfl
      rcases tf (cg s.name) with g1 | g1
      · rw [if_pos g1] at hs6
        rw [g1] at n1
        rw [hs6,if_pos (by simp)] at hfk
        have:(6:Int) = E:=by rw [← hE,hfk]
        subst this
        refine aa _ ?_
        simp [hltk,hsk,av.v,av.cells]
        refine af.pure zC (n1 _) ?_
        simp
      rw [if_neg (by simp [g1])] at hs6
      rw [g1] at n1
      rcases tf (bu s.frame 0 40) with g2 | g2
      · rw [if_pos (.inl g2)] at hs6
        rw [g2] at n2
        rw [hs6,if_pos (by simp)] at hfk
        have:(7:Int) = E:=by rw [← hE,hfk]
        subst this
        refine aa _ ?_
        simp [hltk,hsk,av.v,av.cells]
        refine af.pure zC (n1 _) ?_
        simp
        refine af.pure eQ (n2 _) ?_
        simp
      rw [g2] at n2
      rcases tf (bu s.kind 0 5) with g3 | g3
      · rw [if_pos (.inr g3)] at hs6
        rw [g3] at n3
        rw [hs6,if_pos (by simp)] at hfk
        have:(7:Int) = E:=by rw [← hE,hfk]
        subst this
        refine aa _ ?_
        simp [hltk,hsk,av.v,av.cells]
        refine af.pure zC (n1 _) ?_
        simp
        refine af.pure eQ (n2 _) ?_
        simp
        refine af.pure eQ (n3 _) ?_
        simp
      rw [if_neg (by simp [g2,g3])] at hs6
      rw [g3] at n3
      rw [hs6,if_neg (by simp)] at hfk
      refine aa _ ?_
      simp [hltk,hsk,av.v,av.cells]
      refine af.pure zC (n1 _) ?_
      simp
      refine af.pure eQ (n2 _) ?_
      simp
      refine af.pure eQ (n3 _) ?_
      simp [hwk]
      exact ⟨k + 1,by omega,by simp,by omega,hfk⟩
    · rw [List.drop_eq_nil_of_le hgek] at hfk
      simp only [cC] at hfk
      have:(0:Int) = E:=by rw [← hE,hfk]
      subst this
      refine aa _ ?_
      simp [show ¬ k < ss.length by omega]
set_option maxRecDepth 100000
set_option maxHeartbeats 1000000
theorem xj {ss:List av} {ns:List HuM} {k:Nat} (h:k < ss.length):bE (ss.take (k + 1)) ns = (bE (ss.take k) ns && decide (dE ns (ss[k]).name (ss[k]).frame = (ss[k]).kind)):=by
  unfold bE
  rw [List.take_succ_eq_append_getElem h,List.all_append]; simp
theorem jk (ps:List ar) (day:Int) (ss:List av) (hf:∀ p ∈ ps,gO p) (hsv:CP ps day ss) (σ:ag) :
    Spec Tryz.prog Ih [bx ps,ii' day,br ss] σ fun r σ'=>r = .ret (.slice 1 ((dT ss (aN day ps)).map nn')) ∧ σ' = σ:=by
  refine Spec.aC (Nq (by simp) (aa _ ?_)) (by simp [aA,cA,cQ,ab.pure]) (by simp [ab.pure,ah (f:=nn') (fun _=>rfl)]) σ
  have hn6:=hsv.n6
  have hs12:=hsv.len
  simp only [bx,br]
  simp [IV]
  refine AW.loop (ι:=Nat) (fun i fr σ=>∃ q,fr = { v:=[(0, .slice 2 (ps.map ar.v)),(1,ii' day),(2, .slice 3 (ss.map av.v)),(7, .oslice 1 ((idxs (bE ss) (aN day (ps.take i)) 0).map nn') 0 q),(8, .int .i64 i)],ds:=[] } ∧ σ = [.spare 1 q] ∧ i ≤ ps.length) (fun i=>ps.length - i) 0 ⟨_,rfl,rfl,by omega⟩ ?_
  rintro i fr σ ⟨q,rfl,rfl,hi⟩
  refine (Nat.lt_or_ge i ps.length).elim (fun hlt=>?_) (fun hge=>?_)
  · obtain ⟨p,hp⟩:∃ p,ps[i] = p:=⟨_,rfl⟩
    have hpm:p ∈ ps:=hp ▸ List.getElem_mem hlt
    have hpf:=hf p hpm
    have hok:=hsv.ok p hpm
    have hS:=kr hok day
    have hstep:idxs (bE ss) (aN day (ps.take (i + 1))) 0 = if bE ss (cL day p) = true then idxs (bE ss) (aN day (ps.take i)) 0 ++ [i] else idxs (bE ss) (aN day (ps.take i)) 0:=by
      have e:aN day (ps.take (i + 1)) = aN day (ps.take i) ++ [cL day p]:=by
        unfold aN; rw [List.take_succ_eq_append_getElem hlt,List.map_append,hp]; rfl
      have hl:(aN day (ps.take i)).length = i:=by simp [aN]; omega
      rw [e,sW,hl]
      simp only [idxs]
      split <;> simp
    have hLl:(idxs (bE ss) (aN day (ps.take i)) 0).length ≤ 6:=Nat.le_trans (mO _ _ _) (by simp [aN]; omega)
    obtain ⟨pp,pc⟩:=p
    have q1:=bP pp pc hpf hok day
    have q2:=lV (cL day ⟨pp,pc⟩) hS
    have hsd:cL day ⟨pp,pc⟩ = aM day pp pc:=rfl
    rw [← hsd] at q1
    generalize cL day ⟨pp,pc⟩ = ns at q1 q2 hstep
    generalize idxs (bE ss) (aN day (ps.take i)) 0 = L at hstep hLl
    have hwi:IntKind.i64.wrap ((i:Int) + 1) = ((i + 1:Nat):Int):=by rw [aj (by omega) (by omega)]; simp
    refine aa _ ?_
    simp [hlt,hp,ar.v,ar.cells]
    refine af.pure p0 (q1 _) ?_
    simp
    refine AW.loop (ι:=Nat) (fun k fr σ=>∃ b:Bool,fr = { v:=[(0, .slice 2 (ps.map ar.v)),(1,ii' day),(2, .slice 3 (ss.map av.v)),(7, .oslice 1 (L.map nn') 0 q),(8, .int .i64 i),(9, .slice 7 (ns.map HuM.v)),(10, .bool b),(11, .int .i64 k)],ds:=[] } ∧ σ = [.spare 1 q] ∧ k ≤ ss.length ∧ b = bE (ss.take k) ns) (fun k=>ss.length - k) 0 ⟨_,rfl,rfl,by omega,by simp [bE]⟩ ?_
    rintro k fr σ ⟨b,rfl,rfl,hk,hb⟩
    refine (Nat.lt_or_ge k ss.length).elim (fun hltk=>?_) (fun hgek=>?_)
    · obtain ⟨s,hsk⟩:∃ s,ss[k] = s:=⟨_,rfl⟩
      have hst:=xj (ns:=ns) hltk
      rw [hsk, ← hb] at hst
      have hwk:IntKind.i64.wrap ((k:Int) + 1) = ((k + 1:Nat):Int):=by rw [aj (by omega) (by omega)]; simp
      cases b with
      | false=>
        refine aa _ ?_
        simp [hltk,hsk,hwk,av.v,av.cells]
        exact ⟨ii' 0,trivial,rfl,k + 1,by omega,⟨⟨by rw [hst]; rfl,by simp⟩,by omega⟩⟩
      | true=>
        refine aa _ ?_
        simp [hltk,hsk,hwk,av.v,av.cells]
        refine ⟨_,fun σ' _=>aB.func Hr (q2 s.name s.frame σ'), ?_⟩
        simp
        refine ⟨k + 1,by omega,⟨?_,by simp⟩,by omega⟩
        rw [hst]; simp
        rw [Bool.eq_iff_iff]; simp
    · have htk:ss.take k = ss:=List.take_of_length_le (by omega)
      rw [htk] at hb
      rcases tf (bE ss ns) with ha | ha
      · rw [ha] at hb hstep
        subst hb
        refine aa _ ?_
        simp [show ¬ k < ss.length by omega,hwi]
        exact ⟨i + 1,by omega,q,⟨by rw [hstep]; simp,rfl⟩,by omega⟩
      · rw [ha] at hb hstep
        subst hb
        refine aa _ ?_
        simp [show ¬ k < ss.length by omega,hwi]
        refine ⟨fun v hv=>?_,by omega,i + 1,by omega,q + 1,⟨⟨by rw [hstep]; simp,rfl⟩,by simp⟩,rfl,by omega⟩
        simp at hv; subst hv; exact ⟨by simp [bB],by simp [ab.cells,dR,ab.fh]⟩
  · have htk:ps.take i = ps:=List.take_of_length_le (by omega)
    rw [htk]
    refine aa _ ?_
    simp [show ¬ i < ps.length by omega,dT]
theorem tj (ps:List ar) (day:Int) (ss:List av) (hn:ps.length ≤ maxLen) (hf:∀ p ∈ ps,gO p) (hs:ss.length ≤ maxLen) (σ:ag) :
    Spec Tryz.prog HJ [bx ps,ii' day,br ss] σ fun r σ'=>r = .ret (.tup [.slice 1 ((jb ps day ss).map nn'),ii' (aW ps day ss)]) ∧ σ' = σ:=by
  refine Spec.aC (M7 (by simp) ?_) (by simp [aA,cA,cQ,ab.pure]) (by simp [ab.pure,aA,ah (f:=nn') (fun _=>rfl)]) σ
  have q1:=lW ps day ss hn hf hs
  unfold jb
  rcases Decidable.em (aW ps day ss = 0) with h | h
  · have q2:=jk ps day ss hf (cu.1 h)
    rw [h] at q1 ⊢
    rw [if_pos rfl]
    simp only [bx,br] at *
    refine aa _ ?_
    simp [Hz]
    refine af.pure Ct (q1 _) ?_
    simp
    refine af.pure Ez (q2 _) ?_
    simp
  · rw [if_neg h]
    generalize aW ps day ss = E at *
    simp only [bx,br] at *
    refine aa _ ?_
    simp [Hz]
    refine af.pure Ct (q1 _) ?_
    simp [h]
set_option maxRecDepth 100000
set_option maxHeartbeats 1000000
def uM (S:List (List HuM)) (n:ByteArray) (f:Int):Nat → Nat
  | 0=>0
  | k + 1=>max (uM S n f k) (bf S n f k)
theorem BH (S:List (List HuM)) (n:ByteArray) (f:Int):uM S n f 6 = gr S n f:=by
  simp only [uM,gr,Nat.zero_max]
  rfl
theorem w9 {S:List (List HuM)} {n:ByteArray} {f k:Int} {i:Nat} (h:i < S.length):bf (S.take (i + 1)) n f k = bf (S.take i) n f k + if dE S[i] n f = k then 1 else 0:=by
  unfold bf
  rw [List.take_succ_eq_append_getElem h,List.countP_append]
  simp [List.countP_cons]
theorem rT (ps:List ar) (day:Int) (L:List Nat) (S:List (List HuM)) (name:ByteArray) (frame:Int) (hf:∀ p ∈ ps,gO p) (hok:∀ p ∈ ps,OkP p) (h6:L.length ≤ 6)
    (hL:∀ j ∈ L,j < ps.length) (hlen:S.length = L.length) (hS:∀ i (h:i < L.length) (g:L[i] < ps.length),S[i]'(by omega) = cL day ps[L[i]]) (_hps:ps.length ≤ 6) (σ:ag) :
    Spec Tryz.prog Hg [bx ps,ii' day, .slice 1 (L.map nn'), .str name,ii' frame] σ fun r σ'=>r = .ret (nn' (gr S name frame)) ∧ σ' = σ:=by
  refine Spec.aC (Mu (by simp) (aa _ ?_)) (by simp [aA,cA,ab.pure,ah (f:=nn') (fun _=>rfl)]) rfl σ
  rw [← BH]
  simp only [bx]
  simp [KW]
  refine AW.loop (ι:=Nat) (fun k fr σ=>fr = { v:=[(0, .slice 2 (ps.map ar.v)),(1,ii' day),(2, .slice 1 (L.map nn')),(3, .str name),(4,ii' frame),(11,nn' (uM S name frame k)),(12, .int .i64 k)],ds:=[] } ∧ k ≤ 6) (fun k=>6 - k) 0 ⟨rfl,by omega⟩ ?_
  rintro k fr σ ⟨rfl,hk⟩
  refine (Nat.lt_or_ge k 6).elim (fun hlt=>?_) (fun hge=>?_)
  · have hwk:IntKind.i64.wrap ((k:Int) + 1) = ((k + 1:Nat):Int):=by rw [aj (by omega) (by omega)]; simp
    refine aa _ ?_
    simp [show (k:Int) ≤ 5 by omega]
    refine AW.loop (ι:=Nat) (fun i fr σ=>fr = { v:=[(0, .slice 2 (ps.map ar.v)),(1,ii' day),(2, .slice 1 (L.map nn')),(3, .str name),(4,ii' frame),(11,nn' (uM S name frame k)),(12, .int .i64 k),(13,nn' (bf (S.take i) name frame k)),(14, .int .i64 i)],ds:=[] } ∧ i ≤ L.length) (fun i=>L.length - i) 0 ⟨by simp [bf],by omega⟩ ?_
    rintro i fr σ ⟨rfl,hi⟩
    refine (Nat.lt_or_ge i L.length).elim (fun hlti=>?_) (fun hgei=>?_)
    · obtain ⟨j,hj⟩:∃ j,L[i] = j:=⟨_,rfl⟩
      have hjl:j < ps.length:=hL j (hj ▸ List.getElem_mem hlti)
      obtain ⟨p,hp⟩:∃ p,ps[j] = p:=⟨_,rfl⟩
      have hpm:p ∈ ps:=hp ▸ List.getElem_mem hjl
      have hct:=w9 (S:=S) (n:=name) (f:=frame) (k:=k) (i:=i) (by omega)
      have hSi:S[i]'(by omega) = cL day p:=by
        have:=hS i hlti (by rw [hj]; exact hjl)
        rw [this]
        congr 1
        rw [← hp]; congr 1
      rw [hSi] at hct
      have hcl:=p9 (S.take i) name frame k
      have hcl':(S.take i).length ≤ 6:=by simp; omega
      have hd:=kr (hok p hpm) day
      have hpf:=hf p hpm
      have hpk:=hok p hpm
      obtain ⟨pp,pc⟩:=p
      have q1:=bP pp pc hpf hpk day
      have q2:=lV (cL day ⟨pp,pc⟩) hd name frame
      have hsd:cL day ⟨pp,pc⟩ = aM day pp pc:=rfl
      rw [← hsd] at q1
      generalize cL day ⟨pp,pc⟩ = ns at q1 q2 hct
      have hwi:IntKind.i64.wrap ((i:Int) + 1) = ((i + 1:Nat):Int):=by rw [aj (by omega) (by omega)]; simp
      rcases Decidable.em (dE ns name frame = (k:Int)) with hs | hs
      · rw [if_pos hs] at hct
        rw [hs] at q2
        have hwc:IntKind.i64.wrap ((bf (S.take i) name frame k:Int) + 1) = ((bf (S.take i) name frame k + 1:Nat):Int):=by rw [aj (by omega) (by omega)]; simp
        refine aa _ ?_
        simp [hlti,hj,hjl,hp,ar.v,ar.cells]
        refine af.pure p0 (q1 _) ?_
        simp
        refine af.pure Hr (q2 _) ?_
        simp [hwi,hwc]
        exact ⟨i + 1,by omega,⟨by rw [hct]; simp,by simp⟩,by omega⟩
      · rw [if_neg hs] at hct
        refine aa _ ?_
        simp [hlti,hj,hjl,hp,ar.v,ar.cells]
        refine af.pure p0 (q1 _) ?_
        simp
        refine af.pure Hr (q2 _) ?_
        simp [hs,hwi]
        exact ⟨i + 1,by omega,⟨by rw [hct]; simp,by simp⟩,by omega⟩
    · have htk:S.take i = S:=List.take_of_length_le (by omega)
      rw [htk]
      refine aa _ ?_
      simp [show ¬ i < L.length by omega,hwk]
      exact ⟨k + 1,by omega,⟨by simp only [uM]; split <;> omega,by simp⟩,by omega⟩
  · have:k = 6:=by omega
    subst this
    refine aa _ ?_
    simp
set_option maxRecDepth 100000
set_option maxHeartbeats 1000000
theorem Dk {α:Type} (all:List α):∀ (L:List Nat) (_h:∀ j ∈ L,j < all.length),(L.filterMap fun j=>all[j]?).length = L.length ∧ ∀ i (hi:i < L.length) (hg:i < (L.filterMap fun j=>all[j]?).length),all[L[i]]? = some ((L.filterMap fun j=>all[j]?)[i])
  | [],_=>⟨rfl,fun i hi=>by simp at hi⟩
  | a :: r,h=>by
    obtain ⟨h1,h2⟩:=Dk all r fun j hj=>h j (by simp [hj])
    have ha:all[a]? = some (all[a]'(h a (by simp))):=List.getElem?_eq_getElem _
    have e:((a :: r).filterMap fun j=>all[j]?) = all[a]'(h a (by simp)) :: r.filterMap fun j=>all[j]?:=by
      rw [List.filterMap_cons,ha]
    refine ⟨by rw [e]; simp [h1],fun i hi hg=>?_⟩
    cases i with
    | zero=>simp only [e,List.getElem_cons_zero]; exact ha
    | succ i=>simp only [e,List.getElem_cons_succ]; exact h2 i (by simpa using hi) (by rw [h1]; simpa using hi)
theorem left_at {ps:List ar} {day:Int} {ss:List av}:(a8 ps day ss).length = (dT ss (aN day ps)).length ∧
    ∀ i (h:i < (dT ss (aN day ps)).length) (g:(dT ss (aN day ps))[i] < ps.length) (k:i < (a8 ps day ss).length),(a8 ps day ss)[i] = cL day ps[(dT ss (aN day ps))[i]]:=by
  have h0:(dT ss (aN day ps)).filterMap (fun j=>(aN day ps)[j]?) = a8 ps day ss:=tH (bE ss) (aN day ps) (aN day ps) 0 rfl
  have hlt:∀ j ∈ dT ss (aN day ps),j < (aN day ps).length:=fun j hj=>by
    have:=mM (bE ss) (aN day ps) 0 j hj; omega
  obtain ⟨h1,h2⟩:=Dk (aN day ps) _ hlt
  rw [h0] at h1
  refine ⟨h1,fun i h g k=>?_⟩
  have h3:=h2 i h (by rw [h0]; exact k)
  simp only [h0] at h3
  have h4:∀ j (g:j < ps.length),(aN day ps)[j]? = some (cL day ps[j]):=fun j g=>by
    unfold aN
    rw [List.getElem?_map,List.getElem?_eq_getElem g]; rfl
  rw [h4 _ g] at h3
  exact (Option.some.inj h3).symm
theorem nw (ps:List ar) (day:Int) (ss:List av) (hn:ps.length ≤ maxLen) (hf:∀ p ∈ ps,gO p) (hs:ss.length ≤ maxLen) (σ:ag) :
    Spec Tryz.prog Hb [bx ps,ii' day,br ss] σ fun r σ'=>r = .ret (.tup [.slice 1 ((dA ps day ss).1.map .str), .slice 1 ((dA ps day ss).2.map .str),ii' (cR ps day ss)]) ∧ σ' = σ:=by
  refine Spec.aC (LR (by simp) ?_) (by simp [aA,cA,cQ,ab.pure]) (by simp [ab.pure,aA,ah (f:=ab.str) (fun _=>rfl)]) σ
  have q1:=lW ps day ss hn hf hs
  rcases Decidable.em (aW ps day ss = 0) with h | h
  rotate_left
  · have e:cR ps day ss = aW ps day ss:=by unfold cR; rw [if_pos h]
    have e2:dA ps day ss = ([],[]):=by unfold dA; rw [e,if_neg h]
    rw [e,e2]
    generalize aW ps day ss = E at *
    simp only [bx,br] at *
    refine aa _ ?_
    simp [EE]
    refine af.pure Ct (q1 _) ?_
    simp [h]
  have hsv:=cu.1 h
  have q2:=jk ps day ss hf hsv
  obtain ⟨la,lb⟩:=left_at (ps:=ps) (day:=day) (ss:=ss)
  have hss:=gU hsv
  rw [h] at q1
  have hLlt:∀ j ∈ dT ss (aN day ps),j < ps.length:=fun j hj=>by
    have:=mM (bE ss) (aN day ps) 0 j hj
    simp [aN] at this; omega
  have hL6:(dT ss (aN day ps)).length ≤ 6:=Nat.le_trans (mO _ _ _) hss.2
  have hok:∀ ns ∈ a8 ps day ss,OkS ns:=fun ns hns=>hss.1 ns (by unfold a8 u6 at hns; exact (List.mem_filter.1 hns).1)
  have hE:cR ps day ss = if a8 ps day ss = [] then 9 else 0:=by unfold cR; rw [if_neg (by simp [h])]
  have hR:dA ps day ss = if a8 ps day ss = [] then ([],[]) else (tL (a8 ps day ss),aF (a8 ps day ss)):=by
    unfold dA; rw [hE]; split <;> simp
  rw [hE,hR]
  unfold tL
  generalize a8 ps day ss = S at *
  generalize dT ss (aN day ps) = L at *
  have hps6:=hsv.n6
  rcases Nat.eq_zero_or_pos L.length with h0 | h0
  · have e1:L = []:=List.eq_nil_of_length_eq_zero h0
    have e2:S = []:=List.eq_nil_of_length_eq_zero (by omega)
    subst e1 e2
    simp only [bx,br] at *
    refine aa _ ?_
    simp [EE]
    refine af.pure Ct (q1 _) ?_
    simp
    refine af.pure Ez (q2 _) ?_
    simp
  have hS0:¬ S = []:=fun e=>by rw [e] at la; simp at la; omega
  have hL0:¬ L = []:=fun e=>by rw [e] at h0; simp at h0
  rw [if_neg hS0,if_neg hS0]
  -- a ship's parts, by its place
  have qp:∀ i (hi:i < L.length), ∃ p:ar,ps[L[i]]? = some p ∧ L[i] < ps.length ∧ ∀ σ,Spec Tryz.prog Ek [.agg [.slice 7 (p.ship.map HuM.v), .slice 10 (p.chs.map ChM.v)],ii' day] σ fun r σ'=>r = .ret (.slice 7 ((S[i]'(by omega)).map HuM.v)) ∧ σ' = σ:=fun i hi=>by
    have g:=hLlt L[i] (List.getElem_mem hi)
    refine ⟨ps[L[i]],List.getElem?_eq_getElem g,g,fun σ=>?_⟩
    have hm:ps[L[i]] ∈ ps:=List.getElem_mem g
    rw [lb i hi g (by omega)]
    exact bP _ _ (hf _ hm) (hsv.ok _ hm) day σ
  have hS12:∀ ns ∈ S,ns.length ≤ 12:=fun ns hns=>(hok ns hns).len
  have hnm:aF S = jx ((S.flatMap id).map HuM.name):=by
    unfold aF; rw [List.map_flatMap]; rfl
  obtain ⟨J,hJ⟩:∃ J:Nat → List HuM, ∀ i,J i = (S.take i).flatMap id:=⟨_,fun _=>rfl⟩
  have hJ0:J 0 = []:=by rw [hJ]; rfl
  have hJ1:∀ i (h:i < S.length),J (i + 1) = J i ++ S[i]:=fun i h=>by
    rw [hJ,hJ,List.take_succ_eq_append_getElem h,List.flatMap_append]; simp
  have hJe:J L.length = S.flatMap id:=by rw [hJ,List.take_of_length_le (by omega)]
  simp only [bx,br] at *
  refine aa _ ?_
  simp [EE]
  refine af.pure Ct (q1 _) ?_
  simp
  refine af.pure Ez (q2 _) ?_
  simp [hL0]
  refine AW.loop (ι:=Nat) (fun i fr σ=>∃ q,fr = { v:=[(0, .slice 2 (ps.map ar.v)),(1,ii' day),(10, .slice 1 (L.map nn')),(11, .oslice 7 ((J i).map HuM.v) 0 q),(12, .int .i64 i)],ds:=[] } ∧ σ = [.spare 7 q] ∧ i ≤ L.length ∧ (J i).length ≤ 12 * i) (fun i=>L.length - i) 0 ⟨_,by rw [hJ0]; rfl,rfl,by omega,by simp [hJ0]⟩ ?_
  rintro i fr σ ⟨q,rfl,rfl,hi,hlen⟩
  refine (Nat.lt_or_ge i L.length).elim (fun hlt=>?_) (fun hge=>?_)
  · obtain ⟨p,hp1,hp2,qpp⟩:=qp i hlt
    have hwi:IntKind.i64.wrap ((i:Int) + 1) = ((i + 1:Nat):Int):=by rw [aj (by omega) (by omega)]; simp
    obtain ⟨ns,hns⟩:∃ ns,S[i]'(by omega) = ns:=⟨_,rfl⟩
    simp only [hns] at qpp
    have hnsl:=hS12 ns (hns ▸ List.getElem_mem (by omega))
    have htk:J (i + 1) = J i ++ ns:=by rw [hJ1 i (by omega),hns]
    have hfit:Fits 7 (ns.map HuM.v):=by
      intro v hv
      obtain ⟨x,_,rfl⟩:=List.mem_map.1 hv
      exact ⟨by simp [HuM.v,HuM.cells,bB],by simp [HuM.v,HuM.cells,ab.cells,dR,ab.fh]⟩
    obtain ⟨j,hj⟩:∃ j,L[i] = j:=⟨_,rfl⟩
    rw [hj] at hp1 hp2
    have hpj:ps[j] = p:=by rw [List.getElem?_eq_getElem hp2] at hp1; exact Option.some.inj hp1
    refine aa _ ?_
    simp [hlt,hj,hp2,hpj,ar.v,ar.cells]
    refine af.pure p0 (qpp _) ?_
    simp [hwi]
    exact ⟨hfit,by omega,i + 1,by omega,q + 1,⟨⟨by rw [htk]; simp,rfl⟩,by simp⟩,rfl,by omega,by rw [htk]; simp; omega⟩
  · have:i = L.length:=by omega
    subst this
    rw [hJe] at hlen ⊢
    have qn:=l6 (S.flatMap id) (by omega) (fun x hx=>by
      obtain ⟨ns,h1,h2⟩:=List.mem_flatMap.1 hx
      have:=((hok ns h1).part x h2).name
      intro e; rw [e] at this; revert this; decide)
    rw [← hnm] at qn
    have hN72:(aF S).length ≤ 72:=by rw [hnm]; exact Nat.le_trans (gS _) (by rw [List.length_map]; omega)
    generalize S.flatMap id = all at *
    generalize aF S = N at *
    refine aa _ ?_
    simp
    refine af.pure JV (qn _) ?_
    simp
    refine AW.loop (ι:=Nat) (fun n fr σ=>∃ q2,fr = { v:=[(0, .slice 2 (ps.map ar.v)),(1,ii' day),(10, .slice 1 (L.map nn')),(13, .slice 1 (N.map .str)),(14, .oslice 1 (((N.take n).filter (fo S)).map .str) 1 q2),(15, .int .i64 n)],ds:=[] } ∧ σ = [.spare 7 q, .spare 1 q2] ∧ n ≤ N.length) (fun n=>N.length - n) 0 ⟨_,rfl,rfl,by omega⟩ ?_
    rintro n fr σ ⟨q2,rfl,rfl,hnl⟩
    refine (Nat.lt_or_ge n N.length).elim (fun hltn=>?_) (fun hgen=>?_)
    · obtain ⟨m,hm⟩:∃ m,N[n] = m:=⟨_,rfl⟩
      have hwn:IntKind.i64.wrap ((n:Int) + 1) = ((n + 1:Nat):Int):=by rw [aj (by omega) (by omega)]; simp
      have hft:(N.take (n + 1)).filter (fo S) = if fo S m = true then (N.take n).filter (fo S) ++ [m] else (N.take n).filter (fo S):=by
        rw [List.take_succ_eq_append_getElem hltn,List.filter_append,hm]
        split
        · rename_i hc; rw [List.filter_cons_of_pos hc]; rfl
        · rename_i hc; rw [List.filter_cons_of_neg hc]; simp
      have hfl:((N.take n).filter (fo S)).length ≤ 72:=Nat.le_trans (List.length_filter_le _ _) (by simp; omega)
      generalize (N.take n).filter (fo S) = F at hft hfl
      refine aa _ ?_
      simp [hltn]
      refine AW.loop (ι:=Nat) (fun i fr σ=>∃ b:Bool,fr = { v:=[(0, .slice 2 (ps.map ar.v)),(1,ii' day),(10, .slice 1 (L.map nn')),(13, .slice 1 (N.map .str)),(14, .oslice 1 (F.map .str) 1 q2),(15, .int .i64 n),(16, .bool b),(17, .int .i64 i)],ds:=[] } ∧ σ = [.spare 7 q, .spare 1 q2] ∧ i ≤ L.length ∧ b = fo (S.take i) m) (fun i=>L.length - i) 0 ⟨_,rfl,rfl,by omega,by simp [fo]⟩ ?_
      rintro i fr σ ⟨b,rfl,rfl,hi2,hb⟩
      refine (Nat.lt_or_ge i L.length).elim (fun hlti=>?_) (fun hgei=>?_)
      · obtain ⟨p,hp1,hp2,qpp⟩:=qp i hlti
        have hwi:IntKind.i64.wrap ((i:Int) + 1) = ((i + 1:Nat):Int):=by rw [aj (by omega) (by omega)]; simp
        obtain ⟨ns,hns⟩:∃ ns,S[i]'(by omega) = ns:=⟨_,rfl⟩
        simp only [hns] at qpp
        have hnsl:=hS12 ns (hns ▸ List.getElem_mem (by omega))
        have qf:=bW ns m (Nat.le_trans hnsl (by unfold maxLen; omega))
        have hbt:fo (S.take (i + 1)) m = (b && decide (0 ≤ findF ns m)):=by
          rw [hb]; unfold fo
          rw [List.take_succ_eq_append_getElem (by omega:i < S.length),List.all_append,hns]; simp
        obtain ⟨j,hj⟩:∃ j,L[i] = j:=⟨_,rfl⟩
        rw [hj] at hp1 hp2
        have hpj:ps[j] = p:=by rw [List.getElem?_eq_getElem hp2] at hp1; exact Option.some.inj hp1
        cases b with
        | false=>
          refine aa _ ?_
          simp [hlti,hj,hp2,hpj,hltn,hm,hwi,ar.v,ar.cells]
          exact ⟨ii' 0,trivial,rfl,i + 1,by omega,⟨⟨by rw [hbt]; rfl,by simp⟩,by omega⟩⟩
        | true=>
          refine aa _ ?_
          simp [hlti,hj,hp2,hpj,hltn,hm,hwi,ar.v,ar.cells]
          refine ⟨_,fun σ' _=>aB.func p0 (qpp σ'), ?_⟩
          refine ⟨ii' (findF ns m),fun σ' _=>aB.func iQ (qf σ'),rfl,trivial,rfl,i + 1,by omega,⟨⟨by rw [hbt]; rfl,by simp⟩,by omega⟩⟩
      · have htk:S.take i = S:=List.take_of_length_le (by omega)
        rw [htk] at hb
        rcases tf (fo S m) with ha | ha
        · rw [ha] at hb
          rw [if_neg (by simp [ha])] at hft
          subst hb
          refine aa _ ?_
          simp [show ¬ i < L.length by omega,hltn,hm,hwn]
          exact ⟨n + 1,by omega,q2,by simp [hft],by omega⟩
        · rw [ha] at hb
          rw [if_pos ha] at hft
          subst hb
          refine aa _ ?_
          simp [show ¬ i < L.length by omega,hltn,hm,hwn]
          refine ⟨fun v hv=>?_,by omega,n + 1,by omega,q2 + 1,⟨⟨by rw [hft]; simp,rfl⟩,by simp⟩,rfl,by omega⟩
          simp at hv; subst hv; exact ⟨by simp [bB],by simp [ab.cells,dR,ab.fh]⟩
    · have htk:N.take n = N:=List.take_of_length_le (by omega)
      rw [htk]
      refine aa _ ?_
      simp [show ¬ n < N.length by omega]
set_option maxRecDepth 100000
set_option maxHeartbeats 1000000
theorem vL (ps:List ar) (day:Int) (ss:List av) (hn:ps.length ≤ maxLen) (hf:∀ p ∈ ps,gO p) (hs:ss.length ≤ maxLen) (σ:ag) :
    Spec Tryz.prog GO [bx ps,ii' day,br ss] σ fun r σ'=>r = .ret (.tup [.str (k0 ps day ss).name,ii' (k0 ps day ss).frame,nn' (k0 ps day ss).left,ii' (jA ps day ss)]) ∧ σ' = σ:=by
  refine Spec.aC (Lw (by simp) ?_) (by simp [aA,cA,cQ,ab.pure]) (by simp [ab.pure,aA]) σ
  have q1:=nw ps day ss hn hf hs
  rcases Decidable.em (cR ps day ss = 0) with h | h
  rotate_left
  · have e:jA ps day ss = cR ps day ss:=by unfold jA; rw [if_pos h]
    have e2:k0 ps day ss = ⟨.empty,0,0⟩:=by unfold k0; rw [e,if_neg h]
    rw [e,e2]
    obtain ⟨E,hE⟩:∃ E,cR ps day ss = E:=⟨_,rfl⟩
    obtain ⟨u1,u2⟩:=dA ps day ss
    simp only [hE] at q1 h ⊢
    simp only [bx,br] at *
    refine aa _ ?_
    simp [HF]
    refine af.pure EC (q1 _) ?_
    simp [h]
    rfl
  have hv:aW ps day ss = 0:=by
    rcases Decidable.em (aW ps day ss = 0) with h1 | h1
    · exact h1
    · unfold cR at h; rw [if_pos h1] at h; exact absurd h h1
  have hsv:=cu.1 hv
  have q2:=jk ps day ss hf hsv
  obtain ⟨la,lb⟩:=left_at (ps:=ps) (day:=day) (ss:=ss)
  have hss:=gU hsv
  have hLlt:∀ j ∈ dT ss (aN day ps),j < ps.length:=fun j hj=>by
    have:=mM (bE ss) (aN day ps) 0 j hj
    simp [aN] at this; omega
  have hL6:(dT ss (aN day ps)).length ≤ 6:=Nat.le_trans (mO _ _ _) hss.2
  have q3:=fun name frame=>rT ps day (dT ss (aN day ps)) (a8 ps day ss) name frame hf hsv.ok hL6 hLlt la (fun i h g=>lb i h g (by omega)) hsv.n6
  have hR:dA ps day ss = (tL (a8 ps day ss),aF (a8 ps day ss)):=by unfold dA; rw [if_pos h]
  have hE:jA ps day ss = if (eB (a8 ps day ss)).left = (a8 ps day ss).length then 4 else 0:=by unfold jA; rw [if_neg (by simp [h])]
  have hA:k0 ps day ss = if jA ps day ss = 0 then eB (a8 ps day ss) else ⟨.empty,0,0⟩:=rfl
  have hNl:(aF (a8 ps day ss)).length ≤ 1000000:=by
    have hl:∀ ns ∈ a8 ps day ss,ns.length ≤ 12:=fun ns hns=>(hss.1 ns (by unfold a8 u6 at hns; exact (List.mem_filter.1 hns).1)).len
    have key:∀ l:List (List HuM),(∀ ns ∈ l,ns.length ≤ 12) → (l.flatMap fun ns=>ns.map HuM.name).length ≤ 12 * l.length:=by
      intro l
      induction l with
      | nil=>intro _; simp
      | cons a r ih=>
        intro h
        have h1:=ih fun x hx=>h x (by simp [hx])
        have h2:=h a (by simp)
        rw [List.flatMap_cons,List.length_append,List.length_map,List.length_cons]
        omega
    have h1:=key _ hl
    have h2:=gS ((a8 ps day ss).flatMap fun ns=>ns.map HuM.name)
    unfold aF
    omega
  rw [hR,h] at q1
  rw [hA,hE]
  have hres:((eB (a8 ps day ss)).left = (a8 ps day ss).length ∧ (if (eB (a8 ps day ss)).left = (a8 ps day ss).length then (4:Int) else 0) = 4) ∨ (¬ (eB (a8 ps day ss)).left = (a8 ps day ss).length ∧ (if (eB (a8 ps day ss)).left = (a8 ps day ss).length then (4:Int) else 0) = 0):=by
    rcases Decidable.em ((eB (a8 ps day ss)).left = (a8 ps day ss).length) with hb | hb
    · exact .inl ⟨hb,if_pos hb⟩
    · exact .inr ⟨hb,if_neg hb⟩
  obtain ⟨Y,hY⟩:∃ Y:Int,(if (eB (a8 ps day ss)).left = (a8 ps day ss).length then (4:Int) else 0) = Y:=⟨_,rfl⟩
  rw [hY] at hres ⊢
  clear hA hE hY
  obtain ⟨X,hX⟩:∃ X:ld,(if Y = 0 then eB (a8 ps day ss) else ⟨.empty,0,0⟩) = X:=⟨_,rfl⟩
  rw [hX]
  have hall:=nP (a8 ps day ss)
  generalize a8 ps day ss = S at *
  generalize dT ss (aN day ps) = L at *
  obtain ⟨N,hN⟩:∃ N,aF S = N:=⟨_,rfl⟩
  have hstep:∀ i f,f < 41 → (hi:i < N.length) → bp S (i * 41 + f + 1) = dU S (bp S (i * 41 + f)) N[i] f:=fun i f hf' hi=>by
    show dU S (bp S (i * 41 + f)) ((aF S).getD ((i * 41 + f) / 41) .empty) ((i * 41 + f) % 41) = _
    rw [show (i * 41 + f) / 41 = i by omega,show (i * 41 + f) % 41 = f by omega,hN]
    simp [List.getD_eq_getElem?_getD,List.getElem?_eq_getElem hi]
  simp only [hN] at q1 hall hNl
  simp only [bx,br] at *
  refine aa _ ?_
  simp [HF]
  refine af.pure EC (q1 _) ?_
  simp
  refine af.pure Ez (q2 _) ?_
  simp
  refine AW.loop (ι:=Nat) (fun i fr σ=>fr = { v:=[(0, .slice 2 (ps.map ar.v)),(1,ii' day),(11, .slice 1 (N.map .str)),(13, .slice 1 (L.map nn')),(14, .str (bp S (i * 41)).name),(15,ii' (bp S (i * 41)).frame),(16,nn' (bp S (i * 41)).left),(17, .int .i64 i)],ds:=[] } ∧ i ≤ N.length) (fun i=>N.length - i) 0 ⟨by simp [bp,la]; rfl,by omega⟩ ?_
  rintro i fr σ ⟨rfl,hi⟩
  refine (Nat.lt_or_ge i N.length).elim (fun hlt=>?_) (fun hge=>?_)
  · obtain ⟨m,hm⟩:∃ m,N[i] = m:=⟨_,rfl⟩
    have hwi:IntKind.i64.wrap ((i:Int) + 1) = ((i + 1:Nat):Int):=by rw [aj (by omega) (by omega)]; simp
    have hst:=fun f hf'=>hstep i f hf' hlt
    simp only [hm] at hst
    refine aa _ ?_
    simp [hlt]
    refine AW.loop (ι:=Nat) (fun f fr σ=>fr = { v:=[(0, .slice 2 (ps.map ar.v)),(1,ii' day),(11, .slice 1 (N.map .str)),(13, .slice 1 (L.map nn')),(14, .str (bp S (i * 41 + f)).name),(15,ii' (bp S (i * 41 + f)).frame),(16,nn' (bp S (i * 41 + f)).left),(17, .int .i64 i),(18, .int .i64 f)],ds:=[] } ∧ f ≤ 41) (fun f=>41 - f) 0 ⟨rfl,by omega⟩ ?_
    rintro f fr σ ⟨rfl,hf41⟩
    refine (Nat.lt_or_ge f 41).elim (fun hltf=>?_) (fun hgef=>?_)
    · have hwf:IntKind.i64.wrap ((f:Int) + 1) = ((f + 1:Nat):Int):=by rw [aj (by omega) (by omega)]; simp
      have hst1:=hst f hltf
      have q4:=q3 m f
      unfold dU at hst1
      obtain ⟨b,hb⟩:∃ b,bp S (i * 41 + f) = b:=⟨_,rfl⟩
      obtain ⟨w,hw⟩:∃ w,gr S m f = w:=⟨_,rfl⟩
      rw [hb,hw] at hst1
      rw [hw] at q4
      rw [hb]
      rcases Nat.lt_or_ge w b.left with hlw | hlw
      · rw [if_pos hlw] at hst1
        refine aa _ ?_
        simp [show (f:Int) ≤ 40 by omega,hlt,hm]
        refine af.pure IZ (q4 _) ?_
        simp [hlw,hlt,hm,hwf]
        exact ⟨f + 1,by omega,by rw [show i * 41 + (f + 1) = i * 41 + f + 1 by omega,hst1]; simp,by omega⟩
      · rw [if_neg (by omega)] at hst1
        refine aa _ ?_
        simp [show (f:Int) ≤ 40 by omega,hlt,hm]
        refine af.pure IZ (q4 _) ?_
        simp [show ¬ w < b.left by omega,hwf]
        exact ⟨f + 1,by omega,by rw [show i * 41 + (f + 1) = i * 41 + f + 1 by omega,hst1]; simp,by omega⟩
    · have:f = 41:=by omega
      subst this
      refine aa _ ?_
      simp [hwi]
      exact ⟨i + 1,by omega,by rw [show (i + 1) * 41 = i * 41 + 41 by omega]; simp,by omega⟩
  · have:i = N.length:=by omega
    subst this
    rw [hall]
    rcases hres with ⟨hb,hy⟩ | ⟨hb,hy⟩
    · subst hy
      rw [if_neg (by simp)] at hX
      subst hX
      refine aa _ ?_
      simp [hb,la]
      try rfl
    · subst hy
      rw [if_pos rfl] at hX
      subst hX
      have hb':¬ (eB S).left = L.length:=by rw [← la]; exact hb
      refine aa _ ?_
      simp
      exact fun e=>hb' (by omega)
set_option maxRecDepth 100000
set_option maxHeartbeats 1000000
theorem rZ (ps:List ar) (day:Int) (ss:List av) (hn:ps.length ≤ maxLen) (hf:∀ p ∈ ps,gO p) (hs:ss.length ≤ maxLen)
    (hl1:(jb ps day ss).length ≤ maxLen) (hl2:(dA ps day ss).1.length ≤ maxLen) (hl3:(dA ps day ss).2.length ≤ maxLen) (hl4:∀ p q:ar,(bq p q day).length ≤ maxLen) :
    Spec Tryz.prog F_4 [bx ps,ii' day,br ss] [] fun r _=>r = .ret (.bool true):=by
  refine S_4 (by simp) ?_
  have hq:Ec ps ss:=⟨hn,fun p hp=>(hf p hp).tolJ,hs⟩
  have q1:=iA ps day ss hq
  have q2:=tj ps day ss hn hf hs
  have q3:=j5 ((jb ps day ss).map Int.ofNat) (by simpa using hl1)
  rw [List.map_map,show (ii' ∘ Int.ofNat) = nn' from rfl] at q3
  have q4:=lI ps day ss hq
  have q5:=nw ps day ss hn hf hs
  have q6:=b5 (dA ps day ss).1 hl2
  have q7:=b5 (dA ps day ss).2 hl3
  have q8:=jR ps day ss hq
  have q9:=vL ps day ss hn hf hs
  generalize jb ps day ss = A1 at q1 q2 q3
  generalize aW ps day ss = A2 at q1 q2
  obtain ⟨B1,hB1⟩:∃ x,(dA ps day ss).1 = x:=⟨_,rfl⟩
  obtain ⟨B2,hB2⟩:∃ x,(dA ps day ss).2 = x:=⟨_,rfl⟩
  simp only [hB1,hB2] at q4 q5 q6 q7
  generalize cR ps day ss = B3 at q4 q5
  generalize k0 ps day ss = C1 at q8 q9
  generalize jA ps day ss = C2 at q8 q9
  have hmx:maxLen = 9223372036854775807:=rfl
  simp only [bx,br] at *
  rcases Nat.lt_or_ge ps.length 2 with h2 | h2
  · refine aa _ ?_
    simp [C_4]
    refine af.pure Fh (q1 _) ?_
    simp
    refine af.pure Kd (q2 _) ?_
    simp
    refine af.pure EK (q3 _) ?_
    simp
    refine af.pure HN (q4 _) ?_
    simp
    refine af.pure EC (q5 _) ?_
    simp
    refine af.pure pD (q6 _) ?_
    simp
    refine af.pure pD (q7 _) ?_
    simp
    refine af.pure Fi (q8 _) ?_
    simp
    refine af.pure JD (q9 _) ?_
    simp [show (ps.length:Int) < 2 by omega]
    refine af.pure jB (bj _) ?_
    simp
  · obtain ⟨p,hp⟩:∃ p,ps[0]'(by omega) = p:=⟨_,rfl⟩
    obtain ⟨q,hq'⟩:∃ q,ps[1]'(by omega) = q:=⟨_,rfl⟩
    have hpf:=hf p (hp ▸ List.getElem_mem _)
    have hqf:=hf q (hq' ▸ List.getElem_mem _)
    have hd:=hl4 p q
    obtain ⟨pp,pc⟩:=p
    obtain ⟨qp,qc⟩:=q
    have q10:=cT pp qp pc qc hpf.tolJ hqf.tolJ day
    have q11:=rn pp qp pc qc hpf hqf day
    have q12:=b5 _ hd
    generalize bq ⟨pp,pc⟩ ⟨qp,qc⟩ day = D1 at q10 q11 q12
    generalize bN ⟨pp,pc⟩ ⟨qp,qc⟩ day = D2 at q10 q11
    refine aa _ ?_
    simp [C_4]
    refine af.pure Fh (q1 _) ?_
    simp
    refine af.pure Kd (q2 _) ?_
    simp
    refine af.pure EK (q3 _) ?_
    simp
    refine af.pure HN (q4 _) ?_
    simp
    refine af.pure EC (q5 _) ?_
    simp
    refine af.pure pD (q6 _) ?_
    simp
    refine af.pure pD (q7 _) ?_
    simp
    refine af.pure Fi (q8 _) ?_
    simp
    refine af.pure JD (q9 _) ?_
    simp [show ¬ (ps.length:Int) < 2 by omega,show 0 < ps.length by omega,show 1 < ps.length by omega,hp,hq',ar.v,ar.cells]
    refine ⟨by omega,_,fun σ'=>aB.func uy (q10 σ'), ?_⟩
    simp
    refine ⟨by omega,_,fun σ'=>aB.func Nv (q11 σ'), ?_⟩
    simp
    refine af.pure pD (q12 _) ?_
    simp
    refine af.pure jB (bj _) ?_
    simp
set_option maxRecDepth 100000
set_option maxHeartbeats 1000000
theorem zH (ps:List ar) (day:Int) (ss:List av):(jb ps day ss).length ≤ 6:=by
  unfold jb
  split
  · rename_i h
    exact Nat.le_trans (mO _ _ _) (gU (cu.1 h)).2
  · simp
theorem xS (p q:ar) (day:Int):(bq p q day).length ≤ 24:=by
  unfold bq
  split
  · rename_i h
    obtain ⟨o1,o2,_⟩:=kW h
    exact Nat.le_trans (List.length_filter_le _ _) (mw (kr o1 day) (kr o2 day))
  · simp
theorem uU (ps:List ar) (day:Int) (ss:List av):(dA ps day ss).1.length ≤ 72 ∧ (dA ps day ss).2.length ≤ 72:=by
  unfold dA
  split
  · rename_i h
    have hv:aW ps day ss = 0:=by
      rcases Decidable.em (aW ps day ss = 0) with h1 | h1
      · exact h1
      · unfold cR at h; rw [if_pos h1] at h; exact absurd h h1
    have hss:=gU (cu.1 hv)
    have hl:∀ ns ∈ a8 ps day ss,ns.length ≤ 12:=fun ns hns=>(hss.1 ns (by unfold a8 u6 at hns; exact (List.mem_filter.1 hns).1)).len
    have h6:(a8 ps day ss).length ≤ 6:=by
      have:(a8 ps day ss).length ≤ (aN day ps).length:=by unfold a8 u6; exact List.length_filter_le _ _
      exact Nat.le_trans this hss.2
    have h2:=gl (ships:=a8 ps day ss) hl
    have h1:=gS ((a8 ps day ss).flatMap fun ns=>ns.map HuM.name)
    have h3:(aF (a8 ps day ss)).length ≤ 72:=by unfold bU at h2; unfold aF; omega
    exact ⟨Nat.le_trans (List.length_filter_le _ _) h3,h3⟩
  · exact ⟨by simp,by simp⟩
end Go.AM
