/- A survey: of the program. Agree, Sure: of the program. What the condition of a tied card gives in chapter 01: the powers of ten of strconv and its two errors stand in the world az the program's .. -/
import Derived.Test.YthhmdhiiicipkaaGreatDoorP23
import Derived.Test.YthhmdhiiicipkaaGreatDoorP15
import Derived.Test.YthhmdhiiicipkaaGreatDoorTie
import Derived.Test.YthhmdhiiicipkaaGreatDoorCards
import Derived.ProofKit
import Derived.LaidMore
import Derived.Lay
import Derived.OpenShut
import Derived.SevenTiedAt
import Derived.Shelf.Vars
namespace Go.AM
open Go.Proofs
set_option maxRecDepth 100000
set_option maxHeartbeats 1000000
abbrev nn' (n:Nat):ab:=.int .i64 (n:Int)
def uC (p:ar):Bool:=decide ((bT p).2.2 = 0)
theorem tz (p:ar):uC p = true ↔ OkP p:=by unfold uC; rw [decide_eq_true_eq,bA,cF]
def br (ss:List av):ab:=.slice 3 (ss.map av.v)
def bx (ps:List ar):ab:=.slice 2 (ps.map ar.v)
def aN (day:Int) (ps:List ar):List (List HuM):=ps.map (cL day)
def kQ (ps:List ar) (day:Int):List (List HuM):=if bu (ps.length:Int) 1 6 = false then [] else aN day (ps.takeWhile uC)
def da (ps:List ar) (day:Int) (ss:List av):List Nat:=if aW ps day ss = 0 then dT ss (aN day ps) else []
def dm (ps:List ar) (day:Int) (ss:List av):ab:=.agg [.slice 1 ((kQ ps day).map bd), .slice 1 ((da ps day ss).map nn')]
theorem cA (ps:List ar):(bx ps).pure = true:=by simp [bx,ab.pure,ah (f:=ar.v) (fun p=>p.pure) ps]
theorem cQ (ss:List av):(br ss).pure = true:=by simp [br,ab.pure,ah (f:=av.v) (fun p=>p.pure) ss]
theorem yj (ps:List ar) (day:Int) (ss:List av):(dm ps day ss).pure = true:=by simp [dm,ab.pure,aA,ah (f:=bd) dy,ah (f:=nn') (fun _=>rfl)]
theorem yh (l:List (List HuM)):Fits 1 (l.map bd):=by
  intro v hv
  obtain ⟨x,_,rfl⟩:=List.mem_map.1 hv
  exact ⟨rfl,rfl⟩
theorem nE (lo hi n:Int):aH lo hi [n] = !bu n lo hi:=by simp [aH,rN]
theorem BF (s:av):jW s = if cg s.name = false then 6 else if bu s.frame 0 40 = false then 7 else if bu s.kind 0 5 = false then 7 else 0:=by
  unfold jW
  by_cases h1:cg s.name = false
  · simp [h1]
  · by_cases h2:bu s.frame 0 40 = false <;> by_cases h3:bu s.kind 0 5 = false <;> simp [h2,h3]
theorem jS {α:Type} {p:α → Bool}:∀ {l:List α},(∀ x ∈ l,p x = true) → l.takeWhile p = l
  | [],_=>rfl
  | a :: l,h=>by rw [List.takeWhile_cons_of_pos (h a (by simp)),jS fun x hx=>h x (by simp [hx])]
theorem pG {α:Type} {p:α → Bool}:∀ {l:List α} {i:Nat} (hi:i < l.length),(∀ x ∈ l.take i,p x = true) → p l[i] = false → l.takeWhile p = l.take i
  | a :: l,0,_,_,h=>by simp at h; simp [List.takeWhile,h]
  | a :: l,i + 1,hi,h,h2=>by
    rw [List.take_succ_cons,List.takeWhile_cons_of_pos (h a (by simp)),pG (by simpa using hi) (fun x hx=>h x (by simp [hx])) (by simpa using h2)]
theorem vi {α:Type} {f:α → Int} {l:List α} {i:Nat} (hi:i < l.length) (h:∀ x ∈ l.take i,f x = 0) (h2:f l[i] ≠ 0):cC f l = f l[i]:=by
  have e:l = l.take i ++ l[i] :: l.drop (i + 1):=by rw [← List.drop_eq_getElem_cons hi,List.take_append_drop]
  have h3:=(eD f (l.take i)).2 h
  have h4:=ug f (l.take i) (l[i] :: l.drop (i + 1))
  rw [← e,h3,if_neg (by simp)] at h4
  rw [h4]
  simp only [cC]
  rw [if_pos h2]
theorem s6 {α:Type} {l:List α} {i:Nat} (h:i < l.length) (y:α):y ∈ l.take (i + 1) ↔ y ∈ l.take i ∨ y = l[i]:=by
  rw [List.take_succ_eq_append_getElem h,List.mem_append,List.mem_singleton]
theorem B9 (ss:List av) (ns:List HuM):ss.any (fun x=>!decide (dE ns x.name x.frame = x.kind)) = !bE ss ns:=by
  unfold bE
  induction ss with
  | nil=>rfl
  | cons a r ih=>simp only [List.any_cons,List.all_cons,ih,Bool.not_and]
theorem gV (ps:List ar) (_hn:ps.length ≤ maxLen) (hf:∀ p ∈ ps,lJ p) (day:Int) (ss:List av) (hs:ss.length ≤ maxLen) (σ:ag) :
    Spec Tryz.prog G1 [bx ps,ii' day,br ss] σ fun r σ'=>r = .ret (.tup [dm ps day ss,ii' (aW ps day ss)]) ∧ σ' = σ:=by
  refine Spec.aC (MG (by simp) ?_) (by simp [aA,cA,cQ,ab.pure]) (by simp [ab.pure,aA,yj]) σ
  have hby:=aE 1 6 [(ps.length:Int)] (by simp [maxLen])
  rw [nE] at hby
  rcases tf (bu (ps.length:Int) 1 6) with h1 | h1
  · have he:aW ps day ss = 3:=by unfold aW; rw [if_pos h1]
    have hv:dm ps day ss = .agg [.slice 1 [], .slice 1 []]:=by unfold dm kQ da; rw [if_pos h1,he]; rfl
    rw [he,hv]
    rw [h1] at hby
    refine aa _ ?_
    simp [GP,bx,br]
    refine af.pure dW (hby _) ?_
    simp
  rw [h1] at hby
  have hl6:1 ≤ ps.length ∧ ps.length ≤ 6:=by simp [bu] at h1; omega
  have hA:kQ ps day = aN day (ps.takeWhile uC):=by unfold kQ; rw [if_neg (by simp [h1])]
  refine aa _ ?_
  simp [GP,bx,br]
  refine af.pure dW (hby _) ?_
  simp
  refine AW.loop (ι:=Nat) (fun i fr σ'=>∃ q t,fr = { v:=[(1,ii' day),(2, .slice 3 (ss.map av.v)),(6, .ptr 2 0),(23, .slice 2 (ps.map ar.v)),(24, .int .i64 ps.length),(25, .int .i64 i)],ds:=[] } ∧ σ' = .spare 1 q :: .spare 1 0 :: .box [.oslice 1 ((aN day (ps.take i)).map bd) 0 q, .oslice 1 [] 1 0] :: t ∧ i ≤ ps.length ∧ ∀ p ∈ ps.take i,uC p = true) (fun i=>ps.length - i) 0 ⟨0,[],by simp,by simp [aN],by omega,by simp⟩ ?_
  rintro i fr σ' ⟨q,t,rfl,rfl,hi,hok⟩
  refine (Nat.lt_or_ge i ps.length).elim (fun hlt=>?_) (fun hge=>?_)
  · obtain ⟨p,hx⟩:∃ p,ps[i] = p:=⟨_,rfl⟩
    obtain ⟨l,cs⟩:=p
    have hfp:=hf ⟨l,cs⟩ (hx ▸ List.getElem_mem _)
    have hwi:IntKind.i64.wrap ((i:Int) + 1) = ((i + 1:Nat):Int):=by rw [aj (by omega) (by omega)]; simp
    by_cases hz:(bT ⟨l,cs⟩).2.2 = 0
    · have hop:uC ⟨l,cs⟩ = true:=by unfold uC; rw [decide_eq_true_eq]; exact hz
      have hokp:=(tz _).1 hop
      have hbu:∀ σ,Spec Tryz.prog Ep [.agg [.slice 7 (l.map HuM.v), .slice 10 (cs.map ChM.v)], .int .i64 day] σ fun r σ'=>r = .ret (.tup [.agg [.slice 7 ((cL day ⟨l,cs⟩).map HuM.v)],ii' (bT ⟨l,cs⟩).1,ii' (bT ⟨l,cs⟩).2.1,ii' 0]) ∧ ∃ tl,σ' = σ ++ tl:=fun σ=>by
        refine (gv l cs hfp day σ).mono ?_
        rintro r σ' ⟨ns,rfl,hns,htl⟩
        rw [hns hz,hz, ← j7 hokp]
        exact ⟨rfl,htl⟩
      have htk:aN day (ps.take (i + 1)) = aN day (ps.take i) ++ [cL day ⟨l,cs⟩]:=by
        unfold aN; rw [List.take_succ_eq_append_getElem hlt,hx,List.map_append]; rfl
      have hln:(aN day (ps.take i)).length ≤ 6:=by simp [aN]; omega
      have hfit:=yh [cL day ⟨l,cs⟩]
      simp [bd] at hfit
      refine aa _ ?_
      simp [hlt,hx,ar.v,ar.cells]
      refine af.tl BY (hbu _) fun tl=>?_
      simp [hwi,hfit]
      refine ⟨by omega,i + 1,by omega,by simp,by rw [htk]; simp [bd],by omega,fun p hp=>?_⟩
      rcases (s6 hlt p).1 hp with h | h
      · exact hok p h
      · rw [h,hx]; exact hop
    · have hop:uC ⟨l,cs⟩ = false:=by unfold uC; rw [decide_eq_false_iff_not]; exact hz
      have htw:=pG hlt hok (by rw [hx]; exact hop)
      have hfe:aW ps day ss = (bT ⟨l,cs⟩).2.2:=by
        have h2:=vi (f:=fun p=>(bL p).2.2) hlt (fun x hx=>by rw [← bA]; have:=hok x hx; unfold uC at this; simpa using this) (by rw [hx, ← bA]; exact hz)
        rw [hx] at h2
        unfold aW
        rw [if_neg (by simp [h1]),h2,if_pos (by rw [← bA]; exact hz), ← bA]
      have hv:dm ps day ss = .agg [.slice 1 ((aN day (ps.take i)).map bd), .slice 1 []]:=by unfold dm da; rw [hA,htw,hfe,if_neg hz]; rfl
      rw [hfe,hv]
      refine aa _ ?_
      simp [hlt,hx,ar.v,ar.cells]
      refine af.spec BY (gv l cs hfp day _) ?_
      rintro r σ' ⟨ns,rfl,_,tl,rfl⟩
      refine ⟨_,rfl, ?_⟩
      simp [hz]
      done
  obtain rfl:i = ps.length:=by omega
  rw [List.take_length] at hok ⊢
  have hokp:∀ p ∈ ps,OkP p:=fun p hp=>(tz p).1 (hok p hp)
  have hA2:kQ ps day = aN day ps:=by rw [hA,jS hok]
  have hfe:cC (fun p=>(bL p).2.2) ps = 0:=(eD _ _).2 fun p hp=>(cF p).2 (hokp p hp)
  have hE:aW ps day ss = if bu day 0 40000 = false then 7 else if 12 < ss.length then 3 else cC jW ss:=by
    unfold aW; rw [if_neg (by simp [h1]),if_neg (by simp [hfe])]
  obtain ⟨S,hS⟩:∃ S,aN day ps = S:=⟨_,rfl⟩
  have hSl:S.length ≤ 6:=by rw [← hS]; simp [aN]; omega
  have hSo:∀ ns ∈ S,OkS ns:=fun ns hn=>by
    rw [← hS] at hn
    obtain ⟨p,hp,rfl⟩:=List.mem_map.1 hn
    exact kr (hokp p hp) day
  have hV:dm ps day ss = .agg [.slice 1 (S.map bd), .slice 1 ((da ps day ss).map nn')]:=by unfold dm; rw [hA2,hS]
  have hB:da ps day ss = if aW ps day ss = 0 then dT ss S else []:=by unfold da; rw [hS]
  rw [hV,hB,hS]
  clear hV hB hA hA2 hS
  generalize aW ps day ss = e at *
  have hnl:¬ ps.length < ps.length:=by omega
  have hbd:=aE 0 40000 [day] (by simp [maxLen])
  rw [nE] at hbd
  rcases tf (bu day 0 40000) with h2 | h2
  · rw [h2] at hbd
    rw [if_pos h2] at hE
    rw [hE]
    refine aa _ ?_
    simp [hnl]
    refine af.pure dW (hbd _) ?_
    simp
  rw [h2] at hbd
  rw [if_neg (by simp [h2])] at hE
  by_cases h3:12 < ss.length
  · rw [if_pos h3] at hE
    have h3':(12:Int) < ss.length:=by omega
    rw [hE]
    refine aa _ ?_
    simp [hnl]
    refine af.pure dW (hbd _) ?_
    simp [h3']
  rw [if_neg h3] at hE
  have h3':¬ (12:Int) < ss.length:=by omega
  refine aa _ ?_
  simp [hnl]
  refine af.pure dW (hbd _) ?_
  simp [h3']
  refine AW.loop (ι:=Nat) (fun i fr σ'=>∃ t,fr = { v:=[(2, .slice 3 (ss.map av.v)),(6, .ptr 2 0),(58, .slice 3 (ss.map av.v)),(59, .int .i64 ss.length),(60, .int .i64 i)],ds:=[] } ∧ σ' = .spare 1 q :: .spare 1 0 :: .box [.oslice 1 (S.map bd) 0 q, .oslice 1 [] 1 0] :: t ∧ i ≤ ss.length ∧ ∀ x ∈ ss.take i,jW x = 0) (fun i=>ss.length - i) 0 ⟨t,by simp,rfl,by omega,by simp⟩ ?_
  rintro i fr σ' ⟨t,rfl,rfl,hi,hok3⟩
  refine (Nat.lt_or_ge i ss.length).elim (fun hlt=>?_) (fun hge=>?_)
  · obtain ⟨x,hx⟩:∃ p,ss[i] = p:=⟨_,rfl⟩
    have hwi:IntKind.i64.wrap ((i:Int) + 1) = ((i + 1:Nat):Int):=by rw [aj (by omega) (by omega)]; simp
    have hst:=BF x
    have hat:=fun h=>vi (f:=jW) hlt hok3 h
    rw [hx, ← hE] at hat
    have hnx:=fun σ=>bY x.name σ
    have hbf:=aE 0 40 [x.frame] (by simp [maxLen])
    have hbk:=aE 0 5 [x.kind] (by simp [maxLen])
    rw [nE] at hbf hbk
    rcases tf (cg x.name) with g1 | g1
    · rw [if_pos g1] at hst
      have he:=hat (by rw [hst]; decide)
      rw [hst] at he
      rw [g1] at hnx
      rw [he]
      refine aa _ ?_
      simp [hlt,hx,av.v,av.cells]
      refine af.pure re (hnx _) ?_
      simp
    rw [g1] at hnx
    rw [if_neg (by simp [g1])] at hst
    rcases tf (bu x.frame 0 40) with g2 | g2
    · rw [if_pos g2] at hst
      have he:=hat (by rw [hst]; decide)
      rw [hst] at he
      rw [g2] at hbf
      rw [he]
      refine aa _ ?_
      simp [hlt,hx,av.v,av.cells]
      refine af.pure re (hnx _) ?_
      simp
      refine af.pure dW (hbf _) ?_
      simp
    rw [g2] at hbf
    rw [if_neg (by simp [g2])] at hst
    rcases tf (bu x.kind 0 5) with g3 | g3
    · rw [if_pos g3] at hst
      have he:=hat (by rw [hst]; decide)
      rw [hst] at he
      rw [g3] at hbk
      rw [he]
      refine aa _ ?_
      simp [hlt,hx,av.v,av.cells]
      refine af.pure re (hnx _) ?_
      simp
      refine af.pure dW (hbf _) ?_
      simp
      refine af.pure dW (hbk _) ?_
      simp
    rw [g3] at hbk
    rw [if_neg (by simp [g3])] at hst
    refine aa _ ?_
    simp [hlt,hx,av.v,av.cells]
    refine af.pure re (hnx _) ?_
    simp
    refine af.pure dW (hbf _) ?_
    simp
    refine af.pure dW (hbk _) ?_
    simp [hwi]
    refine ⟨i + 1,by omega,by simp,by omega,fun y hy=>?_⟩
    rcases (s6 hlt y).1 hy with h | h
    · exact hok3 y h
    · rw [h,hx]; exact hst
  obtain rfl:i = ss.length:=by omega
  rw [List.take_length] at hok3
  rw [(eD _ _).2 hok3] at hE
  rw [hE,if_pos rfl]
  have hnl2:¬ ss.length < ss.length:=by omega
  refine aa _ ?_
  simp [hnl2]
  refine AW.loop (ι:=Nat) (fun i fr σ'=>∃ q2 t,fr = { v:=[(2, .slice 3 (ss.map av.v)),(6, .ptr 2 0),(85, .int .i64 S.length),(86, .int .i64 i)],ds:=[] } ∧ σ' = .spare 1 q :: .spare 1 q2 :: .box [.oslice 1 (S.map bd) 0 q, .oslice 1 ((idxs (bE ss) (S.take i) 0).map nn') 1 q2] :: t ∧ i ≤ S.length) (fun i=>S.length - i) 0 ⟨0,t,by simp,by simp [idxs],by omega⟩ ?_
  rintro i fr σ' ⟨q2,t,rfl,rfl,hi⟩
  refine (Nat.lt_or_ge i S.length).elim (fun hlt=>?_) (fun hge=>?_)
  rotate_left
  · have htk:S.take i = S:=List.take_of_length_le (by omega)
    rw [htk]
    refine aa _ ?_
    simp [show ¬ i < S.length by omega,dT]
    done
  have hwi:IntKind.i64.wrap ((i:Int) + 1) = ((i + 1:Nat):Int):=by rw [aj (by omega) (by omega)]; simp
  obtain ⟨ns,hx⟩:∃ p,S[i] = p:=⟨_,rfl⟩
  have hcf:∀ tl,Spec Tryz.prog AQ [.slice 3 (ss.map av.v), .func (.func xX) [] [.ptr 2 0, .pval (ii' i)]] (.spare 1 q :: .spare 1 q2 :: .box [.oslice 1 (S.map bd) 0 q, .oslice 1 ((idxs (bE ss) (S.take i) 0).map nn') 1 q2] :: tl) fun r σ'=>r = .ret (.bool (!bE ss ns)) ∧ σ' = (.spare 1 q :: .spare 1 q2 :: .box [.oslice 1 (S.map bd) 0 q, .oslice 1 ((idxs (bE ss) (S.take i) 0).map nn') 1 q2] :: tl):=fun tl=>by
    have:=gx xX [.ptr 2 0, .pval (ii' i)] (fun x=>!decide (dE S[i] x.name x.frame = x.kind)) ss hs (.spare 1 q :: .spare 1 q2 :: .box [.oslice 1 (S.map bd) 0 q, .oslice 1 ((idxs (bE ss) (S.take i) 0).map nn') 1 q2] :: tl) (fun x _=>aB.func Iq (nK S hSo i hlt x 2 0 q 1 q2 ((idxs (bE ss) (S.take i) 0).map nn') _ rfl))
    rw [B9,hx] at this
    exact this
  have hid:idxs (bE ss) (S.take (i + 1)) 0 = idxs (bE ss) (S.take i) 0 ++ (if bE ss ns = true then [i] else []):=by
    rw [List.take_succ_eq_append_getElem hlt,sW,hx]
    simp [idxs,show min i S.length = i by omega]
  have hil:(idxs (bE ss) (S.take i) 0).length ≤ 6:=by
    have:∀ (l:List (List HuM)) j,(idxs (bE ss) l j).length ≤ l.length:=fun l=>by
      induction l with
      | nil=>intro j; simp [idxs]
      | cons a r ih=>intro j; have:=ih (j + 1); simp only [idxs]; split <;> simp <;> omega
    have:=this (S.take i) 0
    simp at this; omega
  have hfit:Fits 1 [nn' i]:=by intro v hv; simp at hv; subst hv; exact ⟨⟨rfl,rfl⟩,rfl⟩
  rcases tf (bE ss ns) with ha | ha
  · rw [ha] at hcf hid
    refine aa _ ?_
    simp [hlt]
    refine af.pure Gw (hcf _) ?_
    simp [hwi]
    exact ⟨i + 1,by omega,by simp,by rw [hid]; simp,by omega⟩
  · rw [ha] at hcf hid
    refine aa _ ?_
    simp [hlt]
    refine af.pure Gw (hcf _) ?_
    simp [hwi,hfit]
    exact ⟨by omega,i + 1,by omega,by simp,by rw [hid]; simp,by omega⟩
set_option maxRecDepth 100000
set_option maxHeartbeats 1000000
structure Ec (ps:List ar) (ss:List av):Prop where
  n:ps.length ≤ maxLen
  fit:∀ p ∈ ps,lJ p
  sn:ss.length ≤ maxLen
def jb (ps:List ar) (day:Int) (ss:List av):List Nat:=if aW ps day ss = 0 then dT ss (aN day ps) else []
theorem iA (ps:List ar) (day:Int) (ss:List av) (hf:Ec ps ss) (σ:ag) :
    Spec Tryz.prog D4 [bx ps,ii' day,br ss] σ fun r σ'=>r = .ret (.tup [.slice 1 ((jb ps day ss).map nn'),ii' (aW ps day ss)]) ∧ σ' = σ:=by
  refine Spec.aC (MP (by simp) ?_) (by simp [aA,cA,cQ,ab.pure]) (by simp [ab.pure,aA,ah (f:=nn') (fun _=>rfl)]) σ
  have hsv:=gV ps hf.n hf.fit day ss hf.sn
  have hB:jb ps day ss = da ps day ss:=rfl
  rw [hB]
  simp only [bx,br] at hsv ⊢
  by_cases h:aW ps day ss = 0
  · rw [h] at hsv ⊢
    refine aa _ ?_
    simp [HH]
    refine af.pure xR (hsv _) ?_
    simp [dm]
  · have hb:da ps day ss = []:=by unfold da; rw [if_neg h]
    rw [hb]
    refine aa _ ?_
    simp [HH]
    refine af.pure xR (hsv _) ?_
    simp [dm,h]
theorem lx (A:List (List HuM)) (B:List Nat) (_hA:A.length ≤ 6) (hB:∀ j ∈ B,j < A.length) (hBl:B.length ≤ 6) (σ:ag) :
    Spec Tryz.prog EU [.agg [.slice 1 (A.map bd), .slice 1 (B.map nn')]] σ fun r σ'=>r = .ret (.slice 1 ((B.filterMap fun j=>A[j]?).map bd)) ∧ σ' = σ:=by
  refine Spec.aC (Mg (by simp) (aa _ ?_)) (by simp [aA,ab.pure,ah (f:=bd) dy,ah (f:=nn') (fun _=>rfl)]) (by simp [ab.pure,ah (f:=bd) dy]) σ
  simp [I5]
  refine AW.loop (ι:=Nat) (fun i fr σ'=>∃ q t,fr = { v:=[(1, .pval (.agg [.slice 1 (A.map bd), .slice 1 (B.map nn')])),(2, .oslice 1 (((B.take i).filterMap fun j=>A[j]?).map bd) 0 q),(6, .slice 1 (B.map nn')),(7, .int .i64 B.length),(8, .int .i64 i)],ds:=[] } ∧ σ' = .spare 1 q :: t ∧ i ≤ B.length) (fun i=>B.length - i) 0 ⟨0,[],by simp,by simp,by omega⟩ ?_
  rintro i fr σ' ⟨q,t,rfl,rfl,hi⟩
  refine (Nat.lt_or_ge i B.length).elim (fun hlt=>?_) (fun hge=>?_)
  rotate_left
  · have htk:B.take i = B:=List.take_of_length_le (by omega)
    rw [htk]
    refine aa _ ?_
    simp [show ¬ i < B.length by omega]
  obtain ⟨j,hj⟩:∃ j,B[i] = j:=⟨_,rfl⟩
  have hjl:=hB j (hj ▸ List.getElem_mem _)
  obtain ⟨ns,hns⟩:∃ x,A[j] = x:=⟨_,rfl⟩
  have hwi:IntKind.i64.wrap ((i:Int) + 1) = ((i + 1:Nat):Int):=by rw [aj (by omega) (by omega)]; simp
  have htk:(B.take (i + 1)).filterMap (fun j=>A[j]?) = (B.take i).filterMap (fun j=>A[j]?) ++ [ns]:=by
    rw [List.take_succ_eq_append_getElem hlt,List.filterMap_append,hj]
    simp [hjl,hns]
  have hln:((B.take i).filterMap fun j=>A[j]?).length ≤ 6:=Nat.le_trans (List.length_filterMap_le _ _) (by simp; omega)
  have hfit:=yh [ns]
  simp [bd] at hfit
  refine aa _ ?_
  simp [hlt,hj,hjl,hns,bd,hwi,hfit]
  exact ⟨by omega,i + 1,by omega,q + 1,⟨⟨by rw [htk]; simp [bd],rfl⟩,by simp⟩,rfl,by omega⟩
def a8 (ps:List ar) (day:Int) (ss:List av):List (List HuM):=u6 ss (aN day ps)
def cR (ps:List ar) (day:Int) (ss:List av):Int:=if aW ps day ss ≠ 0 then aW ps day ss else if a8 ps day ss = [] then 9 else 0
def dA (ps:List ar) (day:Int) (ss:List av):List ByteArray × List ByteArray:=if cR ps day ss = 0 then (tL (a8 ps day ss),aF (a8 ps day ss)) else ([],[])
theorem gU {ps:List ar} {day:Int} {ss:List av} (h:CP ps day ss):(∀ ns ∈ aN day ps,OkS ns) ∧ (aN day ps).length ≤ 6:=by
  refine ⟨fun ns hn=>?_,by simp [aN]; exact h.n6⟩
  obtain ⟨p,hp,rfl⟩:=List.mem_map.1 hn
  exact kr (h.ok p hp) day
theorem vC {ps:List ar} {day:Int} {ss:List av} (h:CP ps day ss):(∀ ns ∈ a8 ps day ss,OkS ns) ∧ (a8 ps day ss).length ≤ 6:=by
  obtain ⟨h1,h2⟩:=gU h
  exact ⟨fun ns hn=>h1 ns (List.mem_filter.1 hn).1,Nat.le_trans (List.length_filter_le _ _) h2⟩
theorem l9 {ps:List ar} {day:Int} {ss:List av} (h:CP ps day ss):kQ ps day = aN day ps:=by
  unfold kQ
  rw [if_neg (by have:=h.n1; have:=h.n6; simp [bu]; omega),jS fun p hp=>(tz p).2 (h.ok p hp)]
theorem mO {α:Type} (p:α → Bool):∀ (l:List α) (j:Nat),(idxs p l j).length ≤ l.length
  | [],j=>by simp [idxs]
  | a :: r,j=>by
    have:=mO p r (j + 1)
    simp only [idxs]
    split <;> simp <;> omega
theorem AO {ps:List ar} {day:Int} {ss:List av} (h:aW ps day ss = 0):(da ps day ss).filterMap (fun j=>(kQ ps day)[j]?) = a8 ps day ss:=by
  have hs:=cu.1 h
  unfold da
  rw [if_pos h,l9 hs]
  exact tH _ _ _ 0 rfl
theorem l0 (ps:List ar) (day:Int) (ss:List av) (h:aW ps day ss = 0) (σ:ag) :
    Spec Tryz.prog EU [dm ps day ss] σ fun r σ'=>r = .ret (.slice 1 ((a8 ps day ss).map bd)) ∧ σ' = σ:=by
  have hs:=cu.1 h
  obtain ⟨_,h2⟩:=gU hs
  have hA:=l9 hs
  rw [← AO h]
  refine lx (kQ ps day) (da ps day ss) (by rw [hA]; exact h2) (fun j hj=>?_) ?_ σ
  · unfold da at hj
    rw [if_pos h] at hj
    rw [hA]
    have:=mM _ _ _ j hj; omega
  · unfold da
    rw [if_pos h]
    exact Nat.le_trans (mO _ _ _) h2
theorem vB {ps:List ar} {day:Int} {ss:List av} (h:aW ps day ss = 0):(da ps day ss).length = 0 ↔ a8 ps day ss = []:=by
  have e:=AO h
  have hs:=cu.1 h
  constructor
  · intro h0
    rw [List.eq_nil_of_length_eq_zero h0] at e
    simpa using e.symm
  · intro h0
    have hB:da ps day ss = idxs (bE ss) (aN day ps) 0:=by unfold da; rw [if_pos h]; rfl
    rw [hB]
    unfold a8 u6 at h0
    have:∀ (l:List (List HuM)) j,l.filter (bE ss) = [] → idxs (bE ss) l j = []:=fun l=>by
      induction l with
      | nil=>intro j _; rfl
      | cons a r ih=>
        intro j hj
        rw [List.filter_cons] at hj
        simp only [idxs]
        split at hj
        · cases hj
        · rename_i hc; rw [if_neg hc]; exact ih _ hj
    rw [this _ _ h0]; rfl
theorem jm (g:FuncId) (caps:List ab) (hp:aA caps = true) (p:List HuM → Bool) (l:List (List HuM)) (hl:l.length ≤ maxLen) (hf:∀ x ∈ l,jL Tryz.prog (.func (.func g) [] caps) [bd x] (.bool (p x))) (σ:ag) :
    Spec Tryz.prog Cs [.slice 1 (l.map bd), .func (.func g) [] caps] σ fun r σ'=>r = .ret (.int .i64 (bV p l 0)) ∧ σ' = σ:=by
  refine Spec.aC (I8 (by simp) (aa _ ?_)) (by simp [aA,ab.pure,hp,ah (f:=bd) dy]) rfl σ
  simp [FJ]
  refine AW.loop (ι:=Nat) (fun i fr σ'=>fr = { v:=[(0, .slice 1 (l.map bd)),(1, .func (.func g) [] caps),(7, .int .i64 l.length),(8, .int .i64 i)],ds:=[] } ∧ i ≤ l.length ∧ bV p l 0 = bV p (l.drop i) i) (fun i=>l.length - i) 0 (by simp) ?_
  rintro i fr σ' ⟨rfl,hi,hpi⟩
  refine (Nat.lt_or_ge i l.length).elim (fun hlt=>?_) (fun hge=>?_)
  rotate_left
  · rw [List.drop_eq_nil_of_le hge] at hpi
    refine aa _ ?_
    simp [show ¬ i < l.length by omega,hpi,bV]
  obtain ⟨x,hx⟩:∃ x,l[i] = x:=⟨_,rfl⟩
  have hfx:=hf x (hx ▸ List.getElem_mem _)
  simp only [bd] at hfx
  have hd:l.drop i = l[i] :: l.drop (i + 1):=List.drop_eq_getElem_cons hlt
  rw [hd,hx] at hpi
  simp only [bV] at hpi
  have hwi:IntKind.i64.wrap ((i:Int) + 1) = ((i + 1:Nat):Int):=by rw [aj (by omega) (by simp only [maxLen] at hl; omega)]; simp
  rcases tf (p x) with hq | hq
  · rw [hq] at hfx
    rw [if_neg (by simp [hq])] at hpi
    refine aa _ ?_
    simp [hlt,hx,bd]
    refine af.of (hfx _) ?_
    simp [hwi]
    exact ⟨i + 1,by omega,by simp,by omega,hpi⟩
  · rw [hq] at hfx
    rw [if_pos hq] at hpi
    refine aa _ ?_
    simp [hlt,hx,bd]
    refine af.of (hfx _) ?_
    simp [hpi]
theorem ig (g:FuncId) (caps:List ab) (hp:aA caps = true) (p:List HuM → Bool) (l:List (List HuM)) (hl:l.length ≤ maxLen) (hf:∀ x ∈ l,jL Tryz.prog (.func (.func g) [] caps) [bd x] (.bool (p x))) (σ:ag) :
    Spec Tryz.prog GQ [.slice 1 (l.map bd), .func (.func g) [] caps] σ fun r σ'=>r = .ret (.bool (l.any p)) ∧ σ' = σ:=by
  refine Spec.aC (LF (by simp) (aa _ ?_)) (by simp [aA,ab.pure,hp,ah (f:=bd) dy]) rfl σ
  simp [KN]
  refine af.pure Kf (jm g caps hp p l hl hf _) ?_
  simp [iy]
theorem qx (ns:List HuM) (hl:ns.length ≤ maxLen) (n:ByteArray) (σ:ag):Spec Tryz.prog E4 [bd ns, .pval (.str n)] σ fun r σ'=>r = .ret (.bool (decide (findF ns n < 0))) ∧ σ' = σ:=by
  refine Spec.aC (Mw (by simp) (aa _ ?_)) (by simp [aA,ab.pure,dy]) rfl σ
  simp [Iu,bd]
  refine af.pure eV (aO ns n hl _ _ (by simp)) ?_
  simp
theorem BW (l:List (List HuM)) (n:ByteArray):l.any (fun ns=>decide (findF ns n < 0)) = !fo l n:=by
  unfold fo
  induction l with
  | nil=>rfl
  | cons a r ih=>
    simp only [List.any_cons,List.all_cons,ih,Bool.not_and]
    congr 1
    rw [Bool.eq_iff_iff]; simp
theorem lI (ps:List ar) (day:Int) (ss:List av) (hf:Ec ps ss) (σ:ag) :
    Spec Tryz.prog Fc [bx ps,ii' day,br ss] σ fun r σ'=>r = .ret (.tup [.slice 1 ((dA ps day ss).1.map .str), .slice 1 ((dA ps day ss).2.map .str),ii' (cR ps day ss)]) ∧ σ' = σ:=by
  refine Spec.aC (LJ (by simp) ?_) (by simp [aA,cA,cQ,ab.pure]) (by simp [ab.pure,aA,ah (f:=ab.str) (fun _=>rfl)]) σ
  have hsv:=gV ps hf.n hf.fit day ss hf.sn
  simp only [bx,br] at hsv ⊢
  by_cases h:aW ps day ss = 0
  rotate_left
  · have he:cR ps day ss = aW ps day ss:=by unfold cR; rw [if_pos h]
    have hv:dA ps day ss = ([],[]):=by unfold dA; rw [he,if_neg h]
    rw [he,hv]
    refine aa _ ?_
    simp [Fb]
    refine af.pure xR (hsv _) ?_
    simp [dm,h]
  have hlf:=l0 ps day ss h
  have hnil:=vB h
  obtain ⟨hlo,hl6⟩:=vC (cu.1 h)
  rw [h] at hsv
  by_cases h0:a8 ps day ss = []
  · have he:cR ps day ss = 9:=by unfold cR; rw [if_neg (by simp [h]),if_pos h0]
    have hv:dA ps day ss = ([],[]):=by unfold dA; rw [he]; rfl
    have hb:=List.eq_nil_of_length_eq_zero (hnil.2 h0)
    rw [he,hv]
    refine aa _ ?_
    simp [Fb]
    refine af.pure xR (hsv _) ?_
    simp [dm,hb]
  have he:cR ps day ss = 0:=by unfold cR; rw [if_neg (by simp [h]),if_neg h0]
  have hv:dA ps day ss = (tL (a8 ps day ss),aF (a8 ps day ss)):=by unfold dA; rw [if_pos he]
  rw [he,hv]
  have hbn:¬ (da ps day ss).length = 0:=fun e=>h0 (hnil.1 e)
  have hbI:¬ ((da ps day ss).length:Int) = 0:=by omega
  have hbE:¬ da ps day ss = []:=fun e=>hbn (by rw [e]; rfl)
  obtain ⟨L,hL⟩:∃ L,a8 ps day ss = L:=⟨_,rfl⟩
  have hnm:=iz L (by rw [← hL]; exact hl6) (fun ns hn=>(hlo ns (hL ▸ hn)).len)
  rw [hL] at hlf hlo hl6 ⊢
  simp only [dm] at hlf hsv
  have hnl:(aF L).length ≤ 72:=by
    have h1:=gS (L.flatMap fun ns=>ns.map HuM.name)
    have h2:=gl (ships:=L) fun ns hn=>(hlo ns hn).len
    unfold bU at h2; unfold aF; omega
  unfold tL
  obtain ⟨N,hN⟩:∃ N,aF L = N:=⟨_,rfl⟩
  rw [hN] at hnm hnl ⊢
  refine aa _ ?_
  simp [Fb]
  refine af.pure xR (hsv _) ?_
  simp [hbn]
  refine af.pure Fm (hlf _) ?_
  simp
  refine af.pure HC (hnm _) ?_
  simp
  refine AW.loop (ι:=Nat) (fun i fr σ'=>∃ q t,fr = { v:=[(6, .oslice 1 (((N.take i).filter (fo L)).map .str) 0 q),(7, .slice 1 (N.map .str)),(9, .pval (dm ps day ss)),(31, .slice 1 (N.map .str)),(32, .int .i64 N.length),(33, .int .i64 i)],ds:=[] } ∧ σ' = .spare 1 q :: t ∧ i ≤ N.length) (fun i=>N.length - i) 0 ⟨0,_,by simp [dm],by simp; rfl,by omega⟩ ?_
  rintro i fr σ' ⟨q,t,rfl,rfl,hi⟩
  refine (Nat.lt_or_ge i N.length).elim (fun hlt=>?_) (fun hge=>?_)
  rotate_left
  · have htk:N.take i = N:=List.take_of_length_le (by omega)
    rw [htk]
    refine aa _ ?_
    simp [show ¬ i < N.length by omega]
  obtain ⟨n,hn⟩:∃ x,N[i] = x:=⟨_,rfl⟩
  have hwi:IntKind.i64.wrap ((i:Int) + 1) = ((i + 1:Nat):Int):=by rw [aj (by omega) (by omega)]; simp
  have htk:(N.take (i + 1)).filter (fo L) = (N.take i).filter (fo L) ++ (if fo L n = true then [n] else []):=by
    rw [List.take_succ_eq_append_getElem hlt,hn,List.filter_append,List.filter_cons,List.filter_nil]
  have hln:((N.take i).filter (fo L)).length ≤ 72:=Nat.le_trans (List.length_filter_le _ _) (by simp; omega)
  have hfit:=gX [n]
  simp at hfit
  have hcf:=fun σ=>ig E4 [.pval (.str n)] rfl (fun ns=>decide (findF ns n < 0)) L (by simp only [maxLen]; omega) (fun x hx=>jL.fn L3 fun σ=>qx x (by have:=(hlo x hx).len; simp only [maxLen]; omega) n σ) σ
  simp only [BW] at hcf
  rcases tf (fo L n) with ha | ha
  · rw [ha] at hcf htk
    refine aa _ ?_
    simp [hlt,hn,dm]
    refine af.pure Fm (hlf _) ?_
    simp [hlt,hn]
    refine af.pure Kb (hcf _) ?_
    simp [hwi]
    exact ⟨i + 1,by omega,q,⟨⟨by rw [htk]; simp,rfl⟩,by simp⟩,rfl,by omega⟩
  · rw [ha] at hcf htk
    refine aa _ ?_
    simp [hlt,hn,dm]
    refine af.pure Fm (hlf _) ?_
    simp [hlt,hn]
    refine af.pure Kb (hcf _) ?_
    simp [hwi,hfit,hlt,hn]
    exact ⟨by omega,i + 1,by omega,q + 1,⟨⟨by rw [htk]; simp,rfl⟩,by simp⟩,rfl,by omega⟩
end Go.AM
namespace Go.Proofs.YthhmdhiiicipkaaGreatDoor
open Go.ChangeShapes Go.WideShapes Go.ChangeAt Go.RowKit Go.AM
theorem Tryz.own:ownKnob Tryz.prog.godebug = none:=by kernel_rfl
theorem Tryz.laidOut:laidOutB Tryz.prog = true:=by kernel_rfl
abbrev aK : List (String × DataW Unit) := [("math/bits.deBruijn32tab", Rows.laid_math_bits_deBruijn32tab), ("math/bits.deBruijn64tab", Rows.laid_math_bits_deBruijn64tab), ("internal/strconv.uint64pow10", Rows.laid_internal_strconv_uint64pow10), ("unicode/utf8.acceptRanges", Rows.laid_unicode_utf8_acceptRanges), ("strconv.ErrRange", Rows.laid_strconv_ErrRange), ("strconv.ErrSyntax", Rows.laid_strconv_ErrSyntax), ("unicode/utf8.first", Rows.laid_unicode_utf8_first)]
theorem Nh : Tryz.prog.globalNamed "internal/strconv.uint64pow10" = some 1 := by kernel_rfl
theorem Md : Tryz.prog.globalNamed "strconv.ErrSyntax" = some 4 := by kernel_rfl
theorem Ly : Tryz.prog.globalNamed "strconv.ErrRange" = some 5 := by kernel_rfl
theorem M5:(Tryz.prog.globals[1]?).map (·.type) = some 258:=by kernel_rfl
theorem MF:(Tryz.prog.globals[4]?).map (·.type) = some 185:=by kernel_rfl
theorem Np:(Tryz.prog.globals[5]?).map (·.type) = some 185:=by kernel_rfl
theorem IL:Tryz.prog.underlying 258 = some (.array 20 226):=by kernel_rfl
theorem JC:Tryz.prog.underlying 226 = some (.int .u64):=by kernel_rfl
theorem I1:Tryz.prog.cellsOf 226 = 1:=by kernel_rfl
theorem JL : Tryz.prog.underlying 185 = some (.interface #[("Error", 120)]) := by kernel_rfl
theorem Ej {H:Type} {enc:TypeId × Value → H} {P:Program} {W:World} {name:String} {g m fuel base:Nat} {e t:TypeId} {q:IntKind} {cs:Array Value} {ps:List MemPlace} {L:List (IntKind × Int)} {spare:Nat → Bool} {held:Bool}
    (hg:P.globalNamed name = some g) (hv:W.var? P name = some cs) (ht:P.underlying t = some (.array m e)) (he:P.underlying e = some (.int q)) (hce:P.cellsOf e = 1)
    (hd:DataW.trod enc P W base spare held fuel t cs.toList = some (.agg (L.map fun c=>.lit (.int c.1 c.2)),ps)):∀ j (h:j < L.length),W.cell? ⟨g,j,none⟩ = some (.int L[j].1 L[j].2):=by
  obtain ⟨xs,m1,rfl,hx,hlen,hn,hel⟩:=DataW.trod_array ht hd
  simp only [Prod.mk.injEq,DataW.agg.injEq] at hx
  obtain ⟨hx,_⟩:=hx
  intro j hj
  have hxl:L.length = xs.length:=by simpa using congrArg List.length hx
  have hjx:j < xs.length:=by omega
  have h0:=hel j (by omega)
  rw [hce,List.getElem?_eq_getElem hjx] at h0
  obtain ⟨n,e1,e2,_⟩:=DataW.trod_int he h0
  have hxj:=congrArg (fun l=>l[j]?) hx
  simp only [List.getElem?_map,List.getElem?_eq_getElem hj,List.getElem?_eq_getElem hjx,Option.map_some,Option.some.injEq,e2,DataW.lit.injEq,Lit.int.injEq] at hxj
  have hc:=World.var?_cell hg hv j
  rw [hc]
  have e3:=congrArg (fun l=>l[0]?) e1
  simp at e3
  rw [e3,hxj.1,hxj.2]
theorem Eh {H:Type} {enc:TypeId × Value → H} {P:Program} {W:World} {name:String} {g m fuel base:Nat} {e t:TypeId} {cs:Array Value} {ps:List MemPlace} {L:List (IntKind × Int)} {spare:Nat → Bool} {held:Bool}
    (hg:P.globalNamed name = some g) (hv:W.var? P name = some cs) (ht:P.underlying t = some (.array m e)) (hct:P.cellsOf t = L.length)
    (hd:DataW.trod enc P W base spare held fuel t cs.toList = some (.agg (L.map fun c=>.lit (.int c.1 c.2)),ps)):g < W.heap.size ∧ W.cell? ⟨g,L.length,none⟩ = none:=by
  obtain ⟨xs,m1,rfl,hx,hlen,hn,hel⟩:=DataW.trod_array ht hd
  have hc:=World.var?_cell hg hv L.length
  refine ⟨?_, ?_⟩
  · simp only [World.var?,hg,Option.bind_some] at hv
    rcases Nat.lt_or_ge g W.heap.size with h' | h'
    · exact h'
    · rw [Array.getElem?_eq_none h'] at hv; simp at hv
  · rw [hc]
    exact Array.getElem?_eq_none (by rw [hct] at hlen; simp at hlen; omega)
theorem sE {P:Program} {W:World} {name dn:String} {g fuel base:Nat} {t:TypeId} {m:Array (String × TypeId)} {cs:Array Value} {d:DataW Unit} {ps:List MemPlace} {spare:Nat → Bool}
    (hg:P.globalNamed name = some g) (hv:W.var? P name = some cs) (ht:P.underlying t = some (.interface m))
    (hd:DataW.trod (fun _=>()) P W base spare false fuel t cs.toList = some (.iface dn d,ps)):∃ te v,W.cell? ⟨g,0,none⟩ = some (.iface te v):=by
  have hc:=World.var?_cell hg hv 0
  rw [hc]
  cases fuel with
  | zero=>simp [DataW.trod] at hd
  | succ fuel=>
    obtain ⟨cs⟩:=cs
    simp only [DataW.trod,ht] at hd
    rcases cs with _ | ⟨c,_ | ⟨c2,r⟩⟩
    · simp at hd
    · cases c <;> simp at hd
      exact ⟨_,_,rfl⟩
    · simp at hd
theorem x9 {W:World} (h:W.ShapedOpen Tryz.prog):∃ m,W.cell? ⟨0,0,none⟩ = some (.int .i64 m):=
  cell_of_shapedOpen_int (zero:=#[.int .i64 0]) (t:=3) h (of_decide_eq_true (by kernel_rfl)) (by kernel_rfl) rfl (by kernel_rfl) (by kernel_rfl) (by kernel_rfl)
theorem Cv:(Rows.laid_internal_strconv_uint64pow10:DataW Unit) = .agg (tP.map fun c=>.lit (.int c.1 c.2)):=rfl
theorem iq {W:World} (h:laidMetH Tryz.prog aK W) (hs:W.ShapedOpen Tryz.prog):qI W:=by
  rw [MakeChecks.laidMetH_plain _ _ _ (by kernel_rfl)] at h
  obtain ⟨ps,⟨_,_,_,_,_,_,_,_,_,_,⟨_,_,_,_,_,_,_,_,_,_,⟨g2,t2,cs2,f2,p2,q2,hg2,ht2,hv2,hd2,⟨_,_,_,_,_,_,_,_,_,_,⟨g4,t4,cs4,f4,p4,q4,hg4,ht4,hv4,hd4,⟨g5,t5,cs5,f5,p5,q5,hg5,ht5,hv5,hd5,_,_⟩,_⟩,_⟩,_⟩,_⟩,_⟩,_,_⟩:=h
  obtain rfl:=Option.some.inj (Nh.symm.trans hg2)
  obtain rfl:=Option.some.inj (Ly.symm.trans hg4)
  obtain rfl:=Option.some.inj (Md.symm.trans hg5)
  obtain rfl:=Option.some.inj (M5.symm.trans ht2)
  obtain rfl:=Option.some.inj (Np.symm.trans ht4)
  obtain rfl:=Option.some.inj (MF.symm.trans ht5)
  rw [Cv] at hd2
  refine ⟨fun g cs hm=>?_,fun g k hm=>?_,fun g cs hm=>?_⟩
  · simp only [dC,List.mem_cons,List.mem_nil_iff,or_false,Prod.mk.injEq] at hm
    obtain ⟨rfl,rfl⟩:=hm
    exact Ej hg2 hv2 IL JC I1 hd2
  · simp only [ff,List.mem_cons,List.mem_nil_iff,or_false,Prod.mk.injEq] at hm
    rcases hm with ⟨rfl,rfl⟩ | ⟨rfl,rfl⟩ | ⟨rfl,rfl⟩
    · obtain ⟨m,hm⟩:=x9 hs
      exact ⟨_,hm,m,rfl⟩
    · obtain ⟨te,v,hc⟩:=sE hg5 hv5 JL hd5
      exact ⟨_,hc,te,v,rfl⟩
    · obtain ⟨te,v,hc⟩:=sE hg4 hv4 JL hd4
      exact ⟨_,hc,te,v,rfl⟩
  · simp only [dC,List.mem_cons,List.mem_nil_iff,or_false,Prod.mk.injEq] at hm
    obtain ⟨rfl,rfl⟩:=hm
    exact Eh hg2 hv2 IL (by kernel_rfl) hd2
theorem jM (os:Os) (args:Array Value):laidMetH Tryz.prog aK ((World.laidAll Tryz.prog os aK).forCall (fun _ _=>0) ⟨#[],args,[]⟩).memory:=by
  rw [MakeChecks.laidMetH_plain _ _ _ (by kernel_rfl)]
  exact laidMet_laidAll _ (by kernel_rfl) (by kernel_rfl)
theorem eA (os:Os) (args:Array Value):((World.laidAll Tryz.prog os aK).forCall (fun _ _=>0) ⟨#[],args,[]⟩).Shaped Tryz.prog:=
  World.shaped_of_ZipB (by kernel_rfl) (by kernel_rfl)
theorem bI {H:Type} {enc:TypeId × Value → H} {a:Assume} {C:Checked} {os:Os} {f:FuncId} {fn:Func} {s:ChangeSpec} {conds:List PathCond} {apart fresh handsOn again:Bool} {X:World → Array Value → Prop}
    (hX:∀ (w w':World) (args:Array Value),w.heap = w'.heap → X w args → X w' args)
    (own:ownKnob C.prog.godebug = none) (started:os.Started) (noInit:C.prog.inits.idxOf? f = none) (hfn:C.prog.funcs[f]? = some fn)
    (witness:∃ (w:World) (tape:Tape) (i:Input),w.os = os ∧ (w.forCall tape i).Shaped C.prog ∧ i.vars = [] ∧ Input.okWide C.prog (w.forCall tape i) .any w.heap.size f i ∧
      ((s.pre enc C.prog fn conds apart (w.forCall tape i).memory i.args ∧ X (w.forCall tape i).memory i.args) ∧ sizedMet enc C.prog fn (OpenSpec.ofChange s) apart (w.forCall tape i).memory i.args) ∧ a.holds C.prog (lone (Frame.enter C.prog f i.args .normal) [] (w.forCall tape i)))
    (contract:∀ (W:World) (base:Nat) (args:Array Value) (ds gs:List (DataW H)) (before:List MemPlace),
      (∀ (j:Nat) t v,fn.params[j]? = some t → args[j]? = some v → Value.okWide C.prog W .any base t v) →
      DataW.Whole enc C.prog fn.params.toList s.vars apart W args.toList ds gs before →
      (DataW.weightsEach C.prog (fn.params.toList ++ s.plain.varTypes C.prog) (ds ++ gs)).all (· ≤ reachBytes) = true → X W args → W.ShapedOpen C.prog →
      Calls C.prog f args W fun e W'=>∃ v,e = .returned v ∧ s.post enc C.prog fn apart fresh handsOn again W args v W') :
    ReturnsInHanded a C os f .any (fun w args=>(s.pre enc C.prog fn conds apart w args ∧ X w args) ∧ sizedMet enc C.prog fn (OpenSpec.ofChange s) apart w args) (s.post enc C.prog fn apart fresh handsOn again):=by
  refine returnsInHanded_of_calls own started noInit witness ?_
  intro w tape i _ hsh _ hok hpre _
  obtain ⟨_,_,_,fn',hfn',_,_,_,_,hval⟩:=hok
  have e:fn' = fn:=Option.some.inj (hfn'.symm.trans hfn)
  subst e
  obtain ⟨⟨⟨ds,gs,before,hw,hc⟩,hx⟩,hz⟩:=hpre
  have hw':=DataW.Whole.of_heap (w':=w.forCall tape i) (by rfl) hw
  refine (contract (w.forCall tape i) w.heap.size i.args ds gs before hval hw' (hz.weights hw) (hX _ _ _ (by rfl) hx) hsh).mono fun e W' ⟨v,he,hp⟩=>?_
  subst he
  exact ChangeSpec.post_blind hp
end Go.Proofs.YthhmdhiiicipkaaGreatDoor
namespace Go.AM
open Go.Proofs Go.RowKit
set_option maxRecDepth 100000
set_option maxHeartbeats 1000000
theorem cq {t:Nat} {us:List ab} {k:Nat} (h:Shaped Tryz.prog (k + 1) t us) (hu:vE Tryz.prog t = some .i64):∃ n,us = [ii' n]:=by
  obtain ⟨n,h1,_⟩:=h.int hu
  exact ⟨n,h1⟩
theorem ty3:vE Tryz.prog 3 = some .i64:=by kernel_rfl
theorem ty5:vE Tryz.prog 5 = some .u8:=by kernel_rfl
theorem MW:vE Tryz.prog 72 = some .u16:=by kernel_rfl
theorem ty9:DQ Tryz.prog 9 = true:=by kernel_rfl
theorem Oq:v7 Tryz.prog 27 = some [24,25]:=by kernel_rfl
theorem LH:v7 Tryz.prog 24 = some [22]:=by kernel_rfl
theorem NY:wu Tryz.prog 22 = some (70,7,true):=by kernel_rfl
theorem NQ:wu Tryz.prog 25 = some (89,10,true):=by kernel_rfl
theorem LS:v7 Tryz.prog 89 = some [3,3,9,70]:=by kernel_rfl
theorem LQ:v7 Tryz.prog 70 = some [9,3,3,3,41,38]:=by kernel_rfl
theorem L5:wu Tryz.prog 41 = some (9,1,false):=by kernel_rfl
theorem Ns:Dd Tryz.prog 41 = 16:=by kernel_rfl
theorem Ob:v7 Tryz.prog 38 = some [3,3]:=by kernel_rfl
theorem Mf:wu Tryz.prog 47 = some (27,2,true):=by kernel_rfl
theorem L9:wu Tryz.prog 48 = some (68,3,true):=by kernel_rfl
theorem NR:v7 Tryz.prog 68 = some [9,3,3]:=by kernel_rfl
theorem xx {k:Nat} {us:List ab} (h:Shaped Tryz.prog (k + 2) 38 us):∃ a b,us = [ii' a,ii' b]:=by
  obtain ⟨a,r,rfl,h1,b,r2,rfl,h2,rfl⟩:=h.fs Ob
  obtain ⟨x,rfl⟩:=cq h1 ty3
  obtain ⟨y,rfl⟩:=cq h2 ty3
  exact ⟨x,y,rfl⟩
theorem y4 {k:Nat} {us:List ab} (h:Shaped Tryz.prog (k + 2) 41 us):∃ l:List ByteArray,us = [.slice 1 (l.map .str)] ∧ l.length ≤ 8796093022208:=by
  obtain ⟨xs,rfl,hl,hb,hx⟩:=h.slR L5
  obtain ⟨l,rfl,_⟩:=mN (f:=ab.str) (p:=fun _=>True) (xs:=xs) fun v hv=>by
    obtain ⟨cs,g1,g2⟩:=hx v hv
    obtain ⟨n,rfl,_⟩:=g1.str ty9
    exact ⟨n,g2,trivial⟩
  rw [Ns] at hb
  unfold reachBytes at hb
  simp only [List.length_map] at hb
  exact ⟨l,rfl,by omega⟩
theorem uY {k:Nat} {us:List ab} (h:Shaped Tryz.prog (k + 3) 70 us):∃ p:HuM,us = p.cells ∧ p.on.length ≤ 8796093022208:=by
  obtain ⟨a,r,rfl,h1,b,r2,rfl,h2,c,r3,rfl,h3,d,r4,rfl,h4,e,r5,rfl,h5,f,r6,rfl,h6,rfl⟩:=h.fs LQ
  obtain ⟨s,rfl,_⟩:=h1.str ty9
  obtain ⟨n1,rfl⟩:=cq h2 ty3
  obtain ⟨n2,rfl⟩:=cq h3 ty3
  obtain ⟨n3,rfl⟩:=cq h4 ty3
  obtain ⟨on,rfl,ho⟩:=y4 h5
  obtain ⟨n5,n6,rfl⟩:=xx h6
  exact ⟨⟨s,n1,n2,n3,on,n5,n6⟩,rfl,ho⟩
theorem Cg {k:Nat} {us:List ab} (h:Shaped Tryz.prog (k + 4) 89 us):∃ c:ChM,us = c.cells ∧ c.part.on.length ≤ 8796093022208:=by
  obtain ⟨a,r,rfl,h1,b,r2,rfl,h2,c,r3,rfl,h3,d,r4,rfl,h4,rfl⟩:=h.fs LS
  obtain ⟨n1,rfl⟩:=cq h1 ty3
  obtain ⟨n2,rfl⟩:=cq h2 ty3
  obtain ⟨s,rfl,_⟩:=h3.str ty9
  obtain ⟨p,rfl,hp⟩:=uY h4
  exact ⟨⟨n1,n2,s,p⟩,rfl,hp⟩
theorem dN {k:Nat} {us:List ab} (h:Shaped Tryz.prog (k + 6) 27 us):∃ p:ar,us = p.cells ∧ gO p:=by
  obtain ⟨a,r,rfl,h1,b,r2,rfl,h2,rfl⟩:=h.fs Oq
  obtain ⟨a1,r1,rfl,g1,rfl⟩:=h1.fs LH
  obtain ⟨xs,rfl,hxl,hx⟩:=g1.sl NY
  obtain ⟨ship,rfl,hon⟩:=mN (f:=HuM.v) (p:=fun p=>p.on.length ≤ 8796093022208) (xs:=xs) fun v hv=>by
    obtain ⟨cs,q1,q2⟩:=hx v hv
    obtain ⟨p,rfl,q3⟩:=uY q1
    exact ⟨p,q2,q3⟩
  obtain ⟨ys,rfl,hyl,hy⟩:=h2.sl NQ
  obtain ⟨chs,rfl,hcn⟩:=mN (f:=ChM.v) (p:=fun c=>c.part.on.length ≤ 8796093022208) (xs:=ys) fun v hv=>by
    obtain ⟨cs,q1,q2⟩:=hy v hv
    obtain ⟨p,rfl,q3⟩:=Cg q1
    exact ⟨p,q2,q3⟩
  have hm:(8796093022208:Nat) ≤ maxLen:=by unfold maxLen; omega
  exact ⟨⟨ship,chs⟩,rfl,⟨⟨by simpa using hxl,fun x hx'=>Nat.le_trans (hon x hx') hm,by simpa using hyl,fun c hc=>Nat.le_trans (hcn c hc) hm⟩,hcn⟩⟩
theorem wy {k:Nat} {us:List ab} (h:Shaped Tryz.prog (k + 7) 47 us):∃ ps:List ar,us = [bx ps] ∧ ps.length ≤ maxLen ∧ ∀ p ∈ ps,gO p:=by
  obtain ⟨xs,rfl,hl,hx⟩:=h.sl Mf
  obtain ⟨l,rfl,hf⟩:=mN (f:=ar.v) (p:=gO) (xs:=xs) fun v hv=>by
    obtain ⟨cs,q1,q2⟩:=hx v hv
    obtain ⟨p,rfl,q3⟩:=dN q1
    exact ⟨p,q2,q3⟩
  exact ⟨l,rfl,by simpa using hl,hf⟩
theorem vO {k:Nat} {us:List ab} (h:Shaped Tryz.prog (k + 2) 68 us):∃ s:av,us = s.cells:=by
  obtain ⟨a,r,rfl,h1,b,r2,rfl,h2,c,r3,rfl,h3,rfl⟩:=h.fs NR
  obtain ⟨s,rfl,_⟩:=h1.str ty9
  obtain ⟨n1,rfl⟩:=cq h2 ty3
  obtain ⟨n2,rfl⟩:=cq h3 ty3
  exact ⟨⟨s,n1,n2⟩,rfl⟩
theorem ui {k:Nat} {us:List ab} (h:Shaped Tryz.prog (k + 3) 48 us):∃ ss:List av,us = [br ss] ∧ ss.length ≤ maxLen:=by
  obtain ⟨xs,rfl,hl,hx⟩:=h.sl L9
  obtain ⟨l,rfl,_⟩:=mN (f:=av.v) (p:=fun _=>True) (xs:=xs) fun v hv=>by
    obtain ⟨cs,q1,q2⟩:=hx v hv
    obtain ⟨s,rfl⟩:=vO q1
    exact ⟨s,q2,trivial⟩
  exact ⟨l,rfl,by simpa using hl⟩
theorem mC {k:Nat} {us:List ab} (h:Shaped Tryz.prog (k + 1) 5 us):∃ n:Nat,us = [.int .u8 n] ∧ n ≤ 255:=by
  obtain ⟨n,rfl,h1,h2⟩:=h.int ty5
  have g1:(0:Int) ≤ n:=h1
  have g2:n ≤ 255:=h2
  exact ⟨n.toNat,by rw [Int.toNat_of_nonneg g1],by omega⟩
theorem je {k:Nat} {us:List ab} (h:Shaped Tryz.prog (k + 1) 72 us):∃ n:Nat,us = [.int .u16 n] ∧ n ≤ 65535:=by
  obtain ⟨n,rfl,h1,h2⟩:=h.int MW
  have g1:(0:Int) ≤ n:=h1
  have g2:n ≤ 65535:=h2
  exact ⟨n.toNat,by rw [Int.toNat_of_nonneg g1],by omega⟩
end Go.AM
namespace Go.Proofs.YthhmdhiiicipkaaGreatDoor
open Go.ChangeShapes Go.WideShapes Go.ChangeAt Go.RowKit Go.AM
def isAgg (P:Program) (n:TypeId):Bool:=match fc (P.underlying n) with
  | some true=>true
  | _=>false
theorem nq (n:Nat) (us:List ab) (h:isAgg Tryz.prog n = true):jQ (fc (Tryz.prog.underlying n)) us = .agg us:=by
  unfold isAgg at h
  unfold jQ
  split at h
  · rename_i e; rw [e]
  · cases h
theorem oJ (n:Nat) (v:ab) (h:isAgg Tryz.prog n = false):jQ (fc (Tryz.prog.underlying n)) [v] = v:=by
  unfold isAgg at h
  unfold jQ
  split at h
  · cases h
  · rename_i hn
    split
    · rename_i e; exact absurd e hn
    · rfl
def Dq (P:Program) (k:Nat):List TypeId → Bool
  | []=>true
  | t :: r=>dD P k t && P.readableRec t && decide (t < P.types.size) && Dq P k r
theorem dO {P:Program} {k:Nat}:∀ {l:List TypeId},Dq P k l = true → ∀ t ∈ l,dD P k t = true ∧ P.readableRec t = true ∧ t < P.types.size
  | t :: r,h,x,hx=>by
    simp only [Dq,Bool.and_eq_true,decide_eq_true_eq] at h
    rcases List.mem_cons.1 hx with rfl | hx
    · exact ⟨h.1.1.1,h.1.1.2,h.1.2⟩
    · exact dO h.2 x hx
end Go.Proofs.YthhmdhiiicipkaaGreatDoor
namespace Go.AM
open Go.Proofs
set_option maxRecDepth 100000
set_option maxHeartbeats 1000000
theorem oY (L:List (List HuM)) (σ:ag) :
    Spec Tryz.prog GV [.slice 1 (L.map bd)] σ fun r σ'=>r = .ret (.func (.func sT) [] [.pval (.slice 1 (L.map bd))]) ∧ σ' = σ:=by
  refine Spec.aC (M4 (by simp) (aa _ ?_)) (by simp [aA,ab.pure,ah (f:=bd) dy]) (by simp [ab.pure,aA,ah (f:=bd) dy]) σ
  simp [Ja]
theorem nL (L:List (List HuM)) (hL:L.length ≤ 6) (hl:∀ ns ∈ L,ns.length ≤ 12) (hnl:(aF L).length ≤ 72) (b:Nat) (σ:ag) (J:Nat → ag → Prop)
    (hy:∀ (i f:Nat) (hi:i < (aF L).length) (s tl:ag),f < 41 → J (i * 41 + f) s → s.length = σ.length →
      aB Tryz.prog (.yieldf b) [jJ (aF L)[i] f] (s ++ tl) fun r σ'=>∃ s' tl',σ' = s' ++ tl ++ tl' ∧ s'.length = σ.length ∧ r = .ret (.bool true) ∧ J (i * 41 + f + 1) s')
    (h0:J 0 σ) :
    Spec Tryz.prog sT [.yieldf b, .pval (.slice 1 (L.map bd))] σ fun r σ'=>r = .ret (.tup []) ∧ ∃ s tl,σ' = s ++ tl ∧ s.length = σ.length ∧ J ((aF L).length * 41) s:=by
  have hnm:=iz L hL hl
  obtain ⟨N,hN⟩:∃ N,aF L = N:=⟨_,rfl⟩
  simp only [hN] at hy hnl hnm ⊢
  refine JP (by simp) (aa _ ?_)
  simp [FZ]
  refine af.pure HC (hnm _) ?_
  simp
  refine AW.loop (ι:=Nat) (fun i fr σ1=>∃ s tl,fr = { v:=[(0, .yieldf b),(7, .slice 1 (N.map .str)),(8, .int .i64 N.length),(9, .int .i64 i)],ds:=[] } ∧ σ1 = s ++ tl ∧ s.length = σ.length ∧ i ≤ N.length ∧ J (i * 41) s) (fun i=>N.length - i) 0 ⟨σ,[],by simp,by simp,rfl,by omega,by simpa using h0⟩ ?_
  rintro i fr σ1 ⟨s,tl,rfl,rfl,hsl,hi,hJ⟩
  refine (Nat.lt_or_ge i N.length).elim (fun hlt=>?_) (fun hge=>?_)
  rotate_left
  · obtain rfl:i = N.length:=by omega
    refine aa _ ?_
    simp
    exact ⟨s,⟨_,rfl⟩,hsl,hJ⟩
  obtain ⟨n,hn⟩:∃ x,N[i] = x:=⟨_,rfl⟩
  have hwi:IntKind.i64.wrap ((i:Int) + 1) = ((i + 1:Nat):Int):=by rw [aj (by omega) (by omega)]; simp
  have hyi:=fun f s tl h1 h2 h3=>hy i f hlt s tl h1 h2 h3
  simp only [hn,jJ] at hyi
  refine aa _ ?_
  simp [hlt,hn]
  refine AW.loop (ι:=Nat) (fun f fr σ1=>∃ s tl,fr = { v:=[(0, .yieldf b),(4, .str n),(7, .slice 1 (N.map .str)),(8, .int .i64 N.length),(9, .int .i64 i),(13, .int .i64 f)],ds:=[] } ∧ σ1 = s ++ tl ∧ s.length = σ.length ∧ f ≤ 41 ∧ J (i * 41 + f) s) (fun f=>41 - f) 0 ⟨s,tl,by simp,rfl,hsl,by omega,hJ⟩ ?_
  rintro f fr σ1 ⟨s2,tl2,rfl,rfl,hsl2,hf,hJ2⟩
  refine (Nat.lt_or_ge f 41).elim (fun hfl=>?_) (fun hfg=>?_)
  rotate_left
  · obtain rfl:f = 41:=by omega
    refine aa _ ?_
    simp [hwi]
    exact ⟨i + 1,by omega,by simp,s2,⟨_,rfl⟩,hsl2,by omega,by rw [Nat.add_mul]; exact hJ2⟩
  have hwf:IntKind.i64.wrap ((f:Int) + 1) = ((f + 1:Nat):Int):=by rw [aj (by omega) (by omega)]; simp
  have hflI:(f:Int) < 41:=by omega
  refine aa _ ?_
  simp [hflI]
  refine (hyi f s2 tl2 hfl hJ2 hsl2).mono ?_
  rintro r σ2 ⟨s3,tl3,rfl,hs3,rfl,hJ3⟩
  simp [hwf]
  exact ⟨f + 1,by omega,by simp,s3,⟨_,rfl⟩,hs3,by omega,hJ3⟩
theorem pK (a:Nat) (r:List Nat) (hr:r.length ≤ 100) (σ:ag) :
    Spec Tryz.prog HG [.slice 1 ((a :: r).map nn')] σ fun x σ'=>x = .ret (nn' (r.foldl max a)) ∧ σ' = σ:=by
  refine Spec.aC (M6 (by simp) (aa _ ?_)) (by simp [aA,ab.pure,ah (f:=nn') (fun _=>rfl)]) rfl σ
  have h1:¬ (r.length:Int) + 1 < 1:=by omega
  simp [J9,h1]
  refine AW.loop (ι:=Nat) (fun i fr σ1=>fr = { v:=[(0, .slice 1 (nn' a :: r.map nn')),(3,nn' ((r.take i).foldl max a)),(4, .int .i64 (i + 1))],ds:=[] } ∧ i ≤ r.length) (fun i=>r.length - i) 0 ⟨by simp,by omega⟩ ?_
  rintro i fr σ1 ⟨rfl,hi⟩
  refine (Nat.lt_or_ge i r.length).elim (fun hlt=>?_) (fun hge=>?_)
  rotate_left
  · have htk:r.take i = r:=List.take_of_length_le (by omega)
    rw [htk]
    refine aa _ ?_
    simp [show ¬ i < r.length by omega]
  obtain ⟨x,hx⟩:∃ x,r[i] = x:=⟨_,rfl⟩
  have htk:(r.take (i + 1)).foldl max a = max ((r.take i).foldl max a) x:=by
    rw [List.take_succ_eq_append_getElem hlt,List.foldl_append,hx]; rfl
  have hwi:IntKind.i64.wrap ((i:Int) + 1 + 1) = ((i + 1:Nat):Int) + 1:=by rw [aj (by omega) (by omega)]; simp
  refine aa _ ?_
  simp [hlt,hx,hwi]
  refine ⟨by omega,i + 1,by omega,⟨?_,by simp⟩,by omega⟩
  rw [htk]
  split <;> omega
end Go.AM
