/- HullSteps, plain: a plan cut at a day. HullSteps: by contracts. -/
import Derived.Test.YthhmdhiiicipkaaGreatDoorP29
import Derived.Test.YthhmdhiiicipkaaGreatDoorP31
namespace Go.AM
open Go.Proofs
set_option maxRecDepth 100000
set_option maxHeartbeats 1000000
def lh (d:Int) (cs:List ChM):List ChM:=cs.filter fun c=>decide (c.day ≤ d)
def gI (d:Int) (cs:List ChM):List ChM:=cs.filter fun c=>!decide (c.day ≤ d)
theorem zB {l:List HuM} {cs:List ChM} {a b:Int} (h:Steps l cs a) (hb:b ≤ a):Steps l cs b:=by
  cases h with
  | nil=>exact .nil _ _
  | cons hd hm hbr he h=>exact .cons (by omega) hm hbr he h
theorem BS {l:List HuM} {cs:List ChM} {a:Int} (h:Steps l cs a):∀ c ∈ cs,a ≤ c.day:=by
  induction h with
  | nil=>intro c hc; simp at hc
  | cons hd hm hbr he h ih=>
    intro c hc
    rcases List.mem_cons.1 hc with rfl | hc
    · exact hd
    · exact Int.le_trans hd (ih c hc)
theorem yJ {l:List HuM} {cs:List ChM} {a d:Int} (h:Steps l cs a) (hd:d < a):lh d cs = [] ∧ gI d cs = cs:=by
  have hall:=BS h
  refine ⟨?_, ?_⟩
  · unfold lh
    rw [List.filter_eq_nil_iff]
    intro c hc; have:=hall c hc; simp; omega
  · unfold gI
    rw [List.filter_eq_self]
    intro c hc; have:=hall c hc; simp; omega
theorem vA {l:List HuM} {cs:List ChM} {last:Int} (h:Steps l cs last) (d:Int):Steps l (lh d cs) last ∧ aM 40000 l (lh d cs) = aM d l cs:=by
  induction h with
  | nil l last=>exact ⟨.nil _ _,rfl⟩
  | @cons l c r last hd hm hbr he h ih=>
    rcases Decidable.em (c.day ≤ d) with hc | hc
    · have e:lh d (c :: r) = c :: lh d r:=by unfold lh; rw [List.filter_cons_of_pos (by simpa using hc)]
      rw [e]
      refine ⟨.cons hd hm hbr he ih.1, ?_⟩
      simp only [aM]
      rw [if_pos hm,if_pos hc,ih.2]
    · have e:lh d (c :: r) = []:=by
        unfold lh
        rw [List.filter_cons_of_neg (by simpa using hc)]
        exact (yJ h (by omega)).1
      rw [e]
      refine ⟨.nil _ _, ?_⟩
      simp only [aM]
      rw [if_neg hc,kG d r l _ _ (by omega) h]
theorem tQ {l:List HuM} {cs:List ChM} {last:Int} (h:Steps l cs last) (d e:Int) (hde:d ≤ e):Steps (aM d l cs) (gI d cs) last ∧ aM e (aM d l cs) (gI d cs) = aM e l cs:=by
  induction h with
  | nil l last=>exact ⟨.nil _ _,rfl⟩
  | @cons l c r last hd hm hbr he h ih=>
    rcases Decidable.em (c.day ≤ d) with hc | hc
    · have e1:gI d (c :: r) = gI d r:=by unfold gI; rw [List.filter_cons_of_neg (by simpa using hc)]
      rw [e1]
      simp only [aM]
      rw [if_pos hc,if_pos (by omega)]
      exact ⟨zB ih.1 hd,ih.2⟩
    · have e1:gI d (c :: r) = c :: r:=by
        unfold gI
        rw [List.filter_cons_of_pos (by simpa using hc)]
        exact congrArg (c :: ·) (yJ h (by omega)).2
      have e2:aM d l (c :: r) = l:=by
        simp only [aM]
        rw [if_neg hc,kG d r l _ _ (by omega) h]
      rw [e1,e2]
      exact ⟨.cons hd hm hbr he h,rfl⟩
theorem HO {p:ar} (h:OkP p) (d:Int):OkP ⟨p.ship,lh d p.chs⟩ ∧ aM 40000 p.ship (lh d p.chs) = aM d p.ship p.chs:=
  ⟨⟨h.ship,Nat.le_trans (List.length_filter_le _ _) h.many,(vA h.steps d).1⟩,(vA h.steps d).2⟩
theorem ET {p:ar} (h:OkP p) (d e:Int) (hde:d ≤ e):OkP ⟨aM d p.ship p.chs,gI d p.chs⟩ ∧ aM e (aM d p.ship p.chs) (gI d p.chs) = aM e p.ship p.chs:=
  ⟨⟨cM h.ship h.steps d,Nat.le_trans (List.length_filter_le _ _) h.many,(tQ h.steps d e hde).1⟩,(tQ h.steps d e hde).2⟩
theorem ml {p:ar} (h:OkP p) (d:Nat) (hd:d ≤ 40000):a7 p d = aM d p.ship p.chs ∧ bJ p d = 0:=by
  have h0:bJ p d = 0:=by rw [dt p d hd]; exact (cF p).2 h
  refine ⟨?_,h0⟩
  unfold a7
  rw [if_pos h0]
  exact dF d _ _ _ h.ship h.steps
set_option maxRecDepth 100000
set_option maxHeartbeats 1000000
def Lst (c:ab) (l:List ChM) (tl:ag):Prop:=
  (l = [] ∧ c = .nils 10) ∨ ∃ p q,c = .oslice 10 (l.map ChM.v) (p + 4) q ∧ tl[p]? = some (.spare 10 q)
def Dis (c e:ab):Prop:=∀ p ys q p' ys' q',c = .oslice 10 ys (p + 4) q → e = .oslice 10 ys' (p' + 4) q' → p ≠ p'
theorem Dis.symm {c e:ab} (h:Dis c e):Dis e c:=fun _ _ _ _ _ _ h1 h2 h3=>h _ _ _ _ _ _ h2 h1 h3.symm
theorem Lst.app {c:ab} {l:List ChM} {tl:ag} (h:Lst c l tl) (x:aQ):Lst c l (tl ++ [x]):=by
  rcases h with h | ⟨p,q,h1,h2⟩
  · exact .inl h
  · refine .inr ⟨p,q,h1, ?_⟩
    rw [List.getElem?_append_left (List.getElem?_eq_some_iff.1 h2).1]; exact h2
theorem Lst.new {c:ab} {l:List ChM} {tl:ag} (h:Lst c l tl) (v:ChM):Lst (.oslice 10 [v.v] (tl.length + 4) 1) [v] (tl ++ [.spare 10 1]) ∧ Dis (.oslice 10 [v.v] (tl.length + 4) 1) c:=by
  refine ⟨.inr ⟨tl.length,1,rfl,by simp⟩,fun p ys q p' ys' q' h1 h2=>?_⟩
  rcases h with ⟨_,h⟩ | ⟨r,s,h3,h4⟩
  · rw [h] at h2; cases h2
  · rw [h3] at h2
    have e1:tl.length + 4 = p + 4:=by injection h1
    have e2:r + 4 = p' + 4:=by injection h2
    have:=(List.getElem?_eq_some_iff.1 h4).1
    omega
theorem Lst.grow {c:ab} {l m:List ChM} {tl:ag} {p q:Nat} (h:Lst c l tl) (hd:Dis (.oslice 10 (m.map ChM.v) (p + 4) q) c) (ht:tl[p]? = some (.spare 10 q)) (v:ChM) :
    Lst (.oslice 10 ((m ++ [v]).map ChM.v) (p + 4) (q + 1)) (m ++ [v]) (tl.set p (.spare 10 (q + 1))) ∧ Lst c l (tl.set p (.spare 10 (q + 1))) ∧ Dis (.oslice 10 ((m ++ [v]).map ChM.v) (p + 4) (q + 1)) c:=by
  have hp:=(List.getElem?_eq_some_iff.1 ht).1
  refine ⟨.inr ⟨p,q + 1,rfl,by rw [List.getElem?_set_self hp]⟩, ?_, ?_⟩
  · rcases h with h | ⟨r,s,h3,h4⟩
    · exact .inl h
    · refine .inr ⟨r,s,h3, ?_⟩
      rw [List.getElem?_set_ne (hd _ _ _ _ _ _ rfl h3)]; exact h4
  · intro r ys s p' ys' q' h1 h2
    have e1:p + 4 = r + 4:=by injection h1
    have:=hd p (m.map ChM.v) q p' ys' q' rfl h2
    omega
theorem BL {d:Int} {cs:List ChM} {i:Nat} (h:i < cs.length):lh d (cs.take (i + 1)) = if (cs[i]).day ≤ d then lh d (cs.take i) ++ [cs[i]] else lh d (cs.take i):=by
  unfold lh
  rw [List.take_succ_eq_append_getElem h,List.filter_append]
  split
  · rename_i hc; rw [List.filter_cons_of_pos (by simpa using hc)]; rfl
  · rename_i hc; rw [List.filter_cons_of_neg (by simpa using hc)]; simp
theorem zF {d:Int} {cs:List ChM} {i:Nat} (h:i < cs.length):gI d (cs.take (i + 1)) = if (cs[i]).day ≤ d then gI d (cs.take i) else gI d (cs.take i) ++ [cs[i]]:=by
  unfold gI
  rw [List.take_succ_eq_append_getElem h,List.filter_append]
  split
  · rename_i hc; rw [List.filter_cons_of_neg (by simpa using hc)]; simp
  · rename_i hc; rw [List.filter_cons_of_pos (by simpa using hc)]; rfl
theorem tA (ps:List HuM) (cs:List ChM) (hf:gO ⟨ps,cs⟩) (x y:Nat) (hx:x ≤ 65535) (hy:y ≤ 65535) :
    Spec Tryz.prog Jp [.agg [.slice 7 (ps.map HuM.v), .slice 10 (cs.map ChM.v)], .agg [.int .u16 x, .int .u16 y]] [] fun r _=>r = .ret (.bool true):=by
  refine Ov (by simp) (aa _ ?_)
  obtain ⟨hon,hd⟩:=Ee x hx
  generalize x % 40001 = on at hon hd
  obtain ⟨G,hG⟩:∃ G:Nat,on + G = 40000:=⟨40000 - on,by omega⟩
  have m1:IntKind.i64.wrap (40000 - (on:Int)) = (G:Int):=by rw [aj (by omega) (by omega)]; omega
  have m2:IntKind.i64.wrap ((G:Int) + 1) = ((G + 1:Nat):Int):=by rw [aj (by omega) (by omega)]; simp
  have m3:(IntKind.i64.wrap (y:Int)).tmod ((G + 1:Nat):Int) = ((y % (G + 1):Nat):Int):=by rw [aj (by omega) (by omega),Int.tmod_eq_emod_of_nonneg (by omega),Int.natCast_emod]
  have m3':(IntKind.i64.wrap (y:Int)).tmod ((G:Int) + 1) = ((y % (G + 1):Nat):Int):=by rw [← m3]; simp
  have hB:y % (G + 1) < G + 1:=Nat.mod_lt _ (by omega)
  clear m3
  generalize y % (G + 1) = B at m3' hB
  obtain ⟨T,hT⟩:∃ T:Nat,on + B = T:=⟨_,rfl⟩
  have m4:IntKind.i64.wrap ((on:Int) + (B:Int)) = (T:Int):=by rw [aj (by omega) (by omega)]; omega
  have m5:¬ ((G:Int) + 1) = 0:=by omega
  have q1:=fun d=>bZ ps cs hf.tolJ d
  have q2:=ez ps cs hf
  rcases Decidable.em ((bL ⟨ps,cs⟩).2.2 = 0) with hv | hv
  rotate_left
  · have q3:=q1 on
    rw [dt _ on hd] at q3
    clear q1
    generalize (bL ⟨ps,cs⟩).2.2 = E at hv q2 q3
    simp [H9,hon,m1,m2,m3',m4,m5]
    refine af.pure rB (q2 _) ?_
    simp [hv,hon]
    refine af.pure ll (q3 _) ?_
    simp [hv]
    refine af.pure jB (bj _) ?_
    simp [hv]
  have hok:=(cF _).1 hv
  obtain ⟨hfo,hfs⟩:=HO hok on
  obtain ⟨hro,hrs⟩:=ET hok on T (by omega)
  have s1:=ml hok on hd
  have s2:=ml hok T (by omega)
  have s3:=ml hfo 40000 (by omega)
  have s4:=ml hro T (by omega)
  dsimp only at hfs hrs s1 s2 s3 s4 hfo hro
  have q3:=q1 on
  rw [s1.1,s1.2] at q3
  have q4:=q1 T
  rw [s2.1,s2.2] at q4
  have q5:=bZ ps (lh on cs) (Af hfo) 40000
  rw [show (40000:Int) = ((40000:Nat):Int) from rfl,s3.1,s3.2,show (((40000:Nat):Int)) = 40000 from rfl,hfs] at q5
  have q6:=bZ (aM on ps cs) (gI on cs) (Af hro) T
  rw [s4.1,s4.2,hrs] at q6
  have hA:=cM hok.ship hok.steps on
  have hB2:=cM hok.ship hok.steps T
  dsimp only at hA hB2
  have hm:(12:Nat) ≤ maxLen:=by unfold maxLen; omega
  have q7:=eG _ (Nat.le_trans hA.len hm) (fun x hx=>Nat.le_trans (fC hA x hx) hm)
  have q8:=eG _ (Nat.le_trans hB2.len hm) (fun x hx=>Nat.le_trans (fC hB2 x hx) hm)
  have hcl:cs.length ≤ 8:=hok.many
  clear hfo hro s1 s2 s3 s4 hfs hrs q1
  generalize aM on ps cs = A at *
  generalize aM T ps cs = C at *
  simp [H9,hon,m1,m2,m3',m4,m5]
  refine af.pure rB (q2 _) ?_
  simp [hv,hon]
  refine af.pure ll (q3 _) ?_
  simp [hon,m1,m2,m3',m4]
  refine af.pure ll (q4 _) ?_
  simp [hon,m1,m2,m3',m4]
  refine AW.loop (ι:=Nat) (fun i fr σ=>∃ c1 c2 tl,fr = { v:=[(2,(ab.agg [ab.slice 7 (List.map HuM.v ps),ab.slice 10 (List.map ChM.v cs)]).pval),(5,ab.int IntKind.i64 on),(6,ab.int IntKind.i64 T),(9,(ab.agg [ab.slice 7 (List.map HuM.v A)]).pval),(10,ii' 0),(11,(ab.agg [ab.slice 7 (List.map HuM.v C)]).pval),(12,ii' 0),(13,ab.ptr 2 0),(14,ab.ptr 3 0),(15,ab.int IntKind.i64 i)],ds:=[] } ∧ σ = aQ.dead :: aQ.dead :: aQ.box [ab.slice 7 (List.map HuM.v ps),c1] :: aQ.box [ab.slice 7 (List.map HuM.v A),c2] :: tl ∧ i ≤ cs.length ∧ Lst c1 (lh on (cs.take i)) tl ∧ Lst c2 (gI on (cs.take i)) tl ∧ Dis c1 c2) (fun i=>cs.length - i) 0 ⟨_,_,_,rfl,rfl,by omega, .inl ⟨rfl,rfl⟩, .inl ⟨rfl,rfl⟩,fun _ _ _ _ _ _ h=>by cases h⟩ ?_
  rintro i fr σ ⟨c1,c2,tl,rfl,rfl,hi,h1,h2,hdis⟩
  refine (Nat.lt_or_ge i cs.length).elim (fun hlt=>?_) (fun hge=>?_)
  · have hl1:=BL (d:=on) hlt
    have hl2:=zF (d:=on) hlt
    obtain ⟨c,hc⟩:∃ c,cs[i] = c:=⟨_,rfl⟩
    rw [hc] at hl1 hl2
    have hwi:IntKind.i64.wrap ((i:Int) + 1) = ((i + 1:Nat):Int):=by rw [aj (by omega) (by omega)]; simp
    have hfl:(lh on (cs.take i)).length ≤ 8:=Nat.le_trans (List.length_filter_le _ _) (by simp; omega)
    have hrl:(gI on (cs.take i)).length ≤ 8:=Nat.le_trans (List.length_filter_le _ _) (by simp; omega)
    have hfit:Fits 10 [c.v]:=by
      intro v hv; simp at hv; subst hv; exact ⟨by simp [ChM.v,ChM.cells,bB],by simp [ChM.v,ChM.cells,ab.cells,dR,ab.fh]⟩
    rcases Decidable.em (c.day ≤ on) with hday | hday
    · rw [if_pos hday] at hl1 hl2
      rcases h1 with ⟨e1,e2⟩ | ⟨p,q,e1,e2⟩
      · subst e2
        obtain ⟨n1,n3⟩:=h2.new c
        have n2:=h2.app (.spare 10 1)
        rw [e1,List.nil_append] at hl1
        simp only [ChM.v,ChM.cells] at n1 n3 hfit
        refine aa _ ?_
        simp [hlt,hc,hday,hwi,ChM.v,ChM.cells]
        refine ⟨hfit,i + 1,by omega,by simp,_,_,_,⟨rfl,rfl,rfl⟩,by omega, ?_, ?_,n3⟩
        · rw [hl1]; exact n1
        · rw [hl2]; exact n2
      · subst e1
        obtain ⟨n1,n2,n3⟩:=h2.grow hdis e2 c
        simp only [List.map_append,List.map_cons,List.map_nil,ChM.v,ChM.cells] at n1 n3 hfit
        refine aa _ ?_
        simp [hlt,hc,hday,hwi,e2,ChM.v,ChM.cells]
        refine ⟨hfit,by omega,i + 1,by omega,by simp,_,_,_,⟨rfl,rfl,rfl⟩,by omega, ?_, ?_,n3⟩
        · rw [hl1]; exact n1
        · rw [hl2]; exact n2
    · rw [if_neg hday] at hl1 hl2
      rcases h2 with ⟨e1,e2⟩ | ⟨p,q,e1,e2⟩
      · subst e2
        obtain ⟨n1,n3⟩:=h1.new c
        have n2:=h1.app (.spare 10 1)
        rw [e1,List.nil_append] at hl2
        simp only [ChM.v,ChM.cells] at n1 n3 hfit
        refine aa _ ?_
        simp [hlt,hc,hday,hwi,ChM.v,ChM.cells]
        refine ⟨hfit,i + 1,by omega,by simp,_,_,_,⟨rfl,rfl,rfl⟩,by omega, ?_, ?_,n3.symm⟩
        · rw [hl1]; exact n2
        · rw [hl2]; exact n1
      · subst e1
        obtain ⟨n1,n2,n3⟩:=h1.grow hdis.symm e2 c
        simp only [List.map_append,List.map_cons,List.map_nil,ChM.v,ChM.cells] at n1 n3 hfit
        refine aa _ ?_
        simp [hlt,hc,hday,hwi,e2,ChM.v,ChM.cells]
        refine ⟨hfit,by omega,i + 1,by omega,by simp,_,_,_,⟨rfl,rfl,rfl⟩,by omega, ?_, ?_,n3.symm⟩
        · rw [hl1]; exact n2
        · rw [hl2]; exact n1
  · have htk:cs.take i = cs:=List.take_of_length_le (by omega)
    rw [htk] at h1 h2
    rcases h1 with ⟨e1,e2⟩ | ⟨p,q,e1,e2⟩ <;> rcases h2 with ⟨g1,g2⟩ | ⟨p',q',g1,g2⟩
    · subst e2 g2
      rw [e1] at q5
      rw [g1] at q6
      simp only [List.map_nil] at q5 q6
      refine aa _ ?_
      simp [show ¬ i < cs.length by omega]
      refine af.pure ll (q5 _) ?_
      simp
      refine af.pure ll (q6 _) ?_
      simp
      refine af.pure sU (q7 _) ?_
      simp
      refine af.pure sU (q8 _) ?_
      simp
      refine af.pure jB (bj _) ?_
      simp
    · subst e2 g1
      rw [e1] at q5
      simp only [List.map_nil] at q5 q6
      refine aa _ ?_
      simp [show ¬ i < cs.length by omega]
      refine af.pure ll (q5 _) ?_
      simp
      refine af.pure ll (q6 _) ?_
      simp
      refine af.pure sU (q7 _) ?_
      simp
      refine af.pure sU (q8 _) ?_
      simp
      refine af.pure jB (bj _) ?_
      simp
    · subst e1 g2
      rw [g1] at q6
      simp only [List.map_nil] at q5 q6
      refine aa _ ?_
      simp [show ¬ i < cs.length by omega]
      refine af.pure ll (q5 _) ?_
      simp
      refine af.pure ll (q6 _) ?_
      simp
      refine af.pure sU (q7 _) ?_
      simp
      refine af.pure sU (q8 _) ?_
      simp
      refine af.pure jB (bj _) ?_
      simp
    · subst e1 g1
      refine aa _ ?_
      simp [show ¬ i < cs.length by omega]
      refine af.pure ll (q5 _) ?_
      simp
      refine af.pure ll (q6 _) ?_
      simp
      refine af.pure sU (q7 _) ?_
      simp
      refine af.pure sU (q8 _) ?_
      simp
      refine af.pure jB (bj _) ?_
      simp
end Go.AM
