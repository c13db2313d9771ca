/- HullOrder: in any order, and told twice, sights lead to the same plans; with a further sight no plan is added. -/
import Derived.Test.YthhmdhiiicipkaaGreatDoorP29
namespace Go.AM
open Go.Proofs
set_option maxRecDepth 100000
set_option maxHeartbeats 1000000
def pR (l:List av) (j:Nat) (s:av):List av:=l.take j ++ [s] ++ l.drop j
theorem zA (l:List av) (j:Nat) (s x:av):x ∈ pR l j s ↔ x = s ∨ x ∈ l:=by
  have h:x ∈ l ↔ x ∈ l.take j ∨ x ∈ l.drop j:=by
    conv=>lhs; rw [← List.take_append_drop j l]
    exact List.mem_append
  unfold pR
  rw [h]
  simp only [List.mem_append,List.mem_singleton]
  constructor
  · rintro ((h | h) | h)
    · exact .inr (.inl h)
    · exact .inl h
    · exact .inr (.inr h)
  · rintro (h | h | h)
    · exact .inl (.inr h)
    · exact .inl (.inl h)
    · exact .inr h
theorem yJ (l:List av) (j:Nat) (s:av) (h:j ≤ l.length):(pR l j s).length = l.length + 1:=by
  unfold pR
  simp only [List.length_append,List.length_take,List.length_drop,List.length_singleton]
  omega
def EL (c:ab) (l:List av) (σ:ag):Prop:=(l = [] ∧ c = .slice 3 []) ∨ ∃ b k,c = .oslice 3 (l.map av.v) b k ∧ σ[b]? = some (.spare 3 k)
theorem gg (l:List av):Fits 3 (l.map av.v):=by
  intro v hv
  obtain ⟨a,_,rfl⟩:=List.mem_map.1 hv
  exact ⟨rfl,rfl⟩
theorem qe (ps:List ar) (hn:ps.length ≤ maxLen) (hf:∀ p ∈ ps,gO p) (d t:Nat) (pl:List Nat) (fuq:av) (hd:d ≤ 65535) (ht:t ≤ 255) (hpl:pl.length ≤ maxLen) (hp8:∀ n ∈ pl,n ≤ 255) (ss:List av) (hs:ss.length ≤ maxLen) :
    Spec Tryz.prog BS [bx ps, .agg [.int .u16 d, .slice 1 (pl.map fun n:Nat=>ab.int .u8 n), .int .u8 t, .str fuq.name,ii' fuq.frame,ii' fuq.kind],br ss] [] fun r _=>r = .ret (.bool true):=by
  refine C2 (by simp) ?_
  obtain ⟨hon,hdn⟩:=wU d hd
  generalize d % 40001 = on at hon hdn
  have hmx:maxLen = 9223372036854775807:=rfl
  have hq:Ec ps ss:=⟨hn,fun p hp=>(hf p hp).tolJ,by omega⟩
  have q1:=iA ps on ss hq
  have q2:=gk ps on ss hn hf (by omega)
  rcases Decidable.em (aW ps on ss = 0) with hv | hv
  rotate_left
  · have hA:jb ps on ss = []:=by unfold jb; rw [if_neg hv]
    rw [hA] at q1
    generalize aW ps on ss = E at hv q1 q2
    simp only [bx,br] at *
    refine aa _ ?_
    simp [Aj,hon]
    refine af.pure Fh (q1 _) ?_
    simp [hon]
    refine af.pure Ct (q2 _) ?_
    simp [hv]
    refine af.pure jB (bj _) ?_
    simp
  have hsv:=cu.1 hv
  have h12:=hsv.len
  rw [hv] at q1 q2
  -- the same sights, in some order
  have q3:∀ ttq:List av,ttq.length ≤ 12 → (∀ s,s ∈ ss ↔ s ∈ ttq) → ∀ σ,Spec Tryz.prog D4 [bx ps,ii' on,br ttq] σ fun r σ'=>r = .ret (.tup [.slice 1 ((jb ps on ss).map nn'),ii' 0]) ∧ σ' = σ:=fun ttq hl hm=>by
    have h2:=uw hm hl hsv
    have q:=iA ps on ttq ⟨hn,fun p hp=>(hf p hp).tolJ,by omega⟩
    rw [cu.2 h2,sH hm hsv h2] at q
    exact q
  have q4:=iA ps on (ss ++ [fuq]) ⟨hn,fun p hp=>(hf p hp).tolJ,by simp; omega⟩
  have q5:=gk ps on (ss ++ [fuq]) hn hf (by simp; omega)
  have hA6:=zH ps on ss
  have hB6:=zH ps on (ss ++ [fuq])
  have hsub:aW ps on (ss ++ [fuq]) = 0 → ∀ j ∈ jb ps on (ss ++ [fuq]),j ∈ jb ps on ss:=fun h=>wI (cu.1 h)
  have q6:=fun n=>nW (jb ps on ss) n (by omega)
  have q7:=j5 ((jb ps on ss).map Int.ofNat) (by simp; omega)
  rw [List.map_map,show (ii' ∘ Int.ofNat) = nn' from rfl] at q7
  generalize jb ps on ss = L at *
  generalize jb ps on (ss ++ [fuq]) = L2q at *
  generalize aW ps on (ss ++ [fuq]) = E at *
  simp only [bx,br] at *
  refine aa _ ?_
  simp [Aj,hon]
  refine af.pure Fh (q1 _) ?_
  simp [hon]
  refine af.pure Ct (q2 _) ?_
  simp [hon]
  refine AW.loop (ι:=Nat) (fun i fr σ=>∃ c ttq,fr = { v:=[(0, .slice 2 (ps.map ar.v)),(2, .slice 3 (ss.map av.v)),(4, .pval (.agg [.int .u16 d, .slice 1 (pl.map fun n:Nat=>ab.int .u8 n), .int .u8 t, .str fuq.name,ii' fuq.frame,ii' fuq.kind])),(7,ii' on),(8, .slice 1 (L.map nn')),(9,ii' 0),(11,c),(12, .int .i64 i)],ds:=[] } ∧ i ≤ ss.length ∧ ttq.length = i ∧ (∀ s,s ∈ ttq ↔ s ∈ ss.take i) ∧ EL c ttq σ) (fun i=>ss.length - i) 0 ⟨.slice 3 [],[],rfl,by omega,rfl,by simp, .inl ⟨rfl,rfl⟩⟩ ?_
  rintro i fr σ ⟨c,ttq,rfl,hi,htl,htm,hc⟩
  refine (Nat.lt_or_ge i ss.length).elim (fun hlt=>?_) (fun hge=>?_)
  · obtain ⟨s,hsi⟩:∃ s,ss[i] = s:=⟨_,rfl⟩
    have hsi':ss[i]? = some s:=by rw [List.getElem?_eq_getElem hlt,hsi]
    have hwi:IntKind.i64.wrap ((i:Int) + 1) = ((i + 1:Nat):Int):=by rw [aj (by omega) (by omega)]; simp
    have hmem:∀ a, ∀ x,x ∈ pR ttq a s ↔ x ∈ ss.take (i + 1):=fun a x=>by rw [zA,xj hlt,htm,hsi,or_comm]
    have hlen:∀ a,a ≤ i → (pR ttq a s).length = i + 1:=fun a h=>by rw [yJ _ _ _ (by omega),htl]
    have fNq:Fits 3 []:=gg []
    have fSq:Fits 3 [.agg [.str s.name,ii' s.frame,ii' s.kind]]:=gg [s]
    have fTq:∀ n,Fits 3 ((ttq.map av.v).take n):=fun n=>by rw [← List.map_take]; exact gg _
    have fDq:∀ n,Fits 3 ((ttq.map av.v).drop n):=fun n=>by rw [← List.map_drop]; exact gg _
    have hTl:(ttq.map av.v).take ttq.length = ttq.map av.v:=List.take_of_length_le (by simp)
    have w1:IntKind.i64.wrap 1 = 1:=aj (by omega) (by omega)
    have hpm:∀ a,(pR ttq a s).map av.v = (ttq.map av.v).take a ++ .agg [.str s.name,ii' s.frame,ii' s.kind] :: (ttq.map av.v).drop a:=fun a=>by
      unfold pR; simp [av.v,av.cells]
    -- where it is put
    have hat:(pl.length = 0) ∨ (0 < pl.length ∧ ∃ b v a:Nat,b < pl.length ∧ (i:Int).tmod (pl.length:Int) = (b:Int) ∧ pl[b]? = some v ∧ a ≤ i ∧ (IntKind.i64.wrap (v:Int)).tmod ((i:Int) + 1) = (a:Int)):=by
      rcases Nat.eq_zero_or_pos pl.length with h | h
      · exact .inl h
      · have hb:i % pl.length < pl.length:=Nat.mod_lt _ h
        obtain ⟨a,ha,_,hae⟩:=mf (hp8 pl[i % pl.length] (List.getElem_mem hb)) (n:=i + 1) (by omega) (by omega)
        refine .inr ⟨h,i % pl.length,pl[i % pl.length],a,hb,by rw [Int.tmod_eq_emod_of_nonneg (by omega),Int.natCast_emod],List.getElem?_eq_getElem hb,by omega, ?_⟩
        rw [← hae]; simp
    rcases hat with h0 | ⟨h0,b,v,a,hb,hbm,hpb,ha,hae⟩
    · have:pl = []:=List.eq_nil_of_length_eq_zero h0
      subst this
      rcases hc with ⟨e1,e2⟩ | ⟨bbq,k,e1,e2⟩
      · subst e1 e2
        simp at htl
        subst htl
        refine aa _ ?_
        simp [hlt,hsi,fNq,fSq,av.v,av.cells]
        refine ⟨1,by omega,_,⟨rfl,aj (by omega) (by omega)⟩,by omega,pR [] 0 s,rfl,hmem 0, .inr ⟨σ.length,3, ?_,by simp⟩⟩
        rw [hpm]; rfl
      · subst e1
        refine aa _ ?_
        simp [hlt,hsi,hwi,fNq,fSq,fTq,av.v,av.cells]
        refine ⟨by omega,i + 1,by omega,_,⟨rfl,by simp⟩,by omega,pR ttq 0 s,hlen 0 (by omega),hmem 0, .inr ⟨σ.length,3, ?_,by simp⟩⟩
        rw [hpm]; simp [hTl]
    · have hpn:¬ pl = []:=fun e=>by rw [e] at h0; simp at h0
      have hpl0:¬ (pl.length:Int) = 0:=by omega
      have hi0:¬ ((i:Int) + 1) = 0:=by omega
      have hpb':pl[b] = v:=by rw [List.getElem?_eq_getElem hb] at hpb; exact Option.some.inj hpb
      have haT:a ≤ ttq.length:=by omega
      rcases hc with ⟨e1,e2⟩ | ⟨bbq,k,e1,e2⟩
      · subst e1 e2
        simp at htl
        subst htl
        obtain rfl:a = 0:=by omega
        refine aa _ ?_
        simp [hlt,hsi,fNq,fSq,h0,hpn,w1,av.v,av.cells]
        refine ⟨1,by omega,_,⟨rfl,by simp⟩,by omega,pR [] 0 s,rfl,hmem 0, .inr ⟨σ.length,3, ?_,by simp⟩⟩
        rw [hpm]; rfl
      · subst e1
        refine aa _ ?_
        simp [hlt,hsi,hwi,fNq,fSq,fTq,fDq,h0,hi0,hbm,hb,hpb',hae,hpn,hTl,haT,av.v,av.cells]
        refine ⟨by omega,by omega,by omega,i + 1,by omega,_,⟨rfl,by simp⟩,by omega,pR ttq a s,hlen a ha,hmem a, .inr ⟨σ.length,3, ?_,by simp⟩⟩
        rw [hpm]
  · obtain rfl:i = ss.length:=by omega
    rw [List.take_length] at htm
    have hfs:=gg ss
    have fFq:Fits 3 [.agg [.str fuq.name,ii' fuq.frame,ii' fuq.kind]]:=gg [fuq]
    have qaq:=q3 ttq (by omega) fun s=>(htm s).symm
    simp only [List.map_append,List.map_cons,List.map_nil,av.v,av.cells] at q4 q5
    rcases Decidable.em (E = 0) with hE | hE
    · subst hE
      rcases (by omega:ss.length = 0 ∨ 12 ≤ ss.length ∨ (0 < ss.length ∧ ss.length < 12)) with h | h | ⟨h,h'⟩
      · obtain rfl:ttq = []:=List.eq_nil_of_length_eq_zero (by omega)
        have hc2:c = .slice 3 [] ∨ ∃ b k,c = .oslice 3 [] b k:=by
          rcases hc with ⟨_,e⟩ | ⟨b,k,e,_⟩
          · exact .inl e
          · exact .inr ⟨b,k,by simpa using e⟩
        rcases hc2 with e | ⟨b,k,e⟩
        all_goals
          subst e
          refine aa _ ?_
          simp
          refine af.pure Fh (qaq _) ?_
          simp
          refine af.pure EK (q7 _) ?_
          simp [hfs,fFq]
          refine ⟨by omega,by omega, ?_⟩
          refine af.pure Fh (q4 _) ?_
          simp
          refine af.pure Ct (q5 _) ?_
          simp
          refine AW.loop (ι:=Nat) (fun i fr σ=>fr = { v:=[(8, .slice 1 (L.map nn')),(17, .slice 1 (L2q.map nn')),(18,ii' 0),(20, .int .i64 i)],ds:=[] } ∧ i ≤ L2q.length) (fun i=>L2q.length - i) 0 ⟨rfl,by omega⟩ ?_
          rintro i fr σ ⟨rfl,hi⟩
          refine (Nat.lt_or_ge i L2q.length).elim (fun hlt=>?_) (fun hge=>?_)
          · obtain ⟨x,hx⟩:∃ x,L2q[i] = x:=⟨_,rfl⟩
            have hx':L2q[i]? = some x:=by rw [List.getElem?_eq_getElem hlt,hx]
            have qxq:=q6 x
            rw [decide_eq_true (hsub rfl x (hx ▸ List.getElem_mem _))] at qxq
            have hwi:IntKind.i64.wrap ((i:Int) + 1) = ((i + 1:Nat):Int):=by rw [aj (by omega) (by omega)]; simp
            refine aa _ ?_
            simp [hlt,hx]
            refine af.pure zT (qxq _) ?_
            simp [hwi]
            exact ⟨i + 1,by omega,by simp,by omega⟩
          · refine aa _ ?_
            simp [show ¬ i < L2q.length by omega]
            refine af.pure jB (bj _) ?_
            simp
      · obtain ⟨b,k,e,hb⟩:∃ b k,c = .oslice 3 (ttq.map av.v) b k ∧ σ[b]? = some (.spare 3 k):=by
          rcases hc with ⟨e,_⟩ | e
          · rw [e] at htl; simp at htl; omega
          · exact e
        subst e
        have hI:¬ (ttq.length:Int) < 12:=by omega
        refine aa _ ?_
        simp [hI]
        refine af.pure Fh (qaq _) ?_
        simp
        refine af.pure EK (q7 _) ?_
        simp [hfs,fFq]
        refine ⟨by omega,by omega, ?_⟩
        refine af.pure Fh (q4 _) ?_
        simp
        refine af.pure Ct (q5 _) ?_
        simp
        refine AW.loop (ι:=Nat) (fun i fr σ=>fr = { v:=[(8, .slice 1 (L.map nn')),(17, .slice 1 (L2q.map nn')),(18,ii' 0),(20, .int .i64 i)],ds:=[] } ∧ i ≤ L2q.length) (fun i=>L2q.length - i) 0 ⟨rfl,by omega⟩ ?_
        rintro i fr σ ⟨rfl,hi⟩
        refine (Nat.lt_or_ge i L2q.length).elim (fun hlt=>?_) (fun hge=>?_)
        · obtain ⟨x,hx⟩:∃ x,L2q[i] = x:=⟨_,rfl⟩
          have hx':L2q[i]? = some x:=by rw [List.getElem?_eq_getElem hlt,hx]
          have qxq:=q6 x
          rw [decide_eq_true (hsub rfl x (hx ▸ List.getElem_mem _))] at qxq
          have hwi:IntKind.i64.wrap ((i:Int) + 1) = ((i + 1:Nat):Int):=by rw [aj (by omega) (by omega)]; simp
          refine aa _ ?_
          simp [hlt,hx]
          refine af.pure zT (qxq _) ?_
          simp [hwi]
          exact ⟨i + 1,by omega,by simp,by omega⟩
        · refine aa _ ?_
          simp [show ¬ i < L2q.length by omega]
          refine af.pure jB (bj _) ?_
          simp
      · obtain ⟨b,k,e,hb⟩:∃ b k,c = .oslice 3 (ttq.map av.v) b k ∧ σ[b]? = some (.spare 3 k):=by
          rcases hc with ⟨e,_⟩ | e
          · rw [e] at htl; simp at htl; omega
          · exact e
        subst e
        have hI:(ttq.length:Int) < 12:=by omega
        obtain ⟨g,hgl,_,hgm⟩:=mf (n:=ttq.length) ht (by omega) (by omega)
        obtain ⟨s,hsg⟩:∃ s,ttq[g] = s:=⟨_,rfl⟩
        have hsg':ttq[g]? = some s:=by rw [List.getElem?_eq_getElem hgl,hsg]
        have hne:¬ ttq = []:=fun e=>by rw [e] at hgl; simp at hgl
        have fSq:Fits 3 [.agg [.str s.name,ii' s.frame,ii' s.kind]]:=gg [s]
        have qb:=q3 (ttq ++ [s]) (by simp; omega) fun x=>by
          rw [List.mem_append,List.mem_singleton,htm]
          exact ⟨.inl,fun hx=>hx.elim id fun e=>by rw [e, ← htm, ← hsg]; exact List.getElem_mem _⟩
        simp only [List.map_append,List.map_cons,List.map_nil,av.v,av.cells] at qb
        refine aa _ ?_
        simp [hI,hne,show 0 < ttq.length by omega,hgl,hgm,hsg,hb,fSq,av.v,av.cells]
        refine ⟨by omega, ?_⟩
        refine af.pure Fh (qb _) ?_
        simp
        refine af.pure EK (q7 _) ?_
        simp [hfs,fFq]
        refine ⟨by omega,by omega, ?_⟩
        refine af.pure Fh (q4 _) ?_
        simp
        refine af.pure Ct (q5 _) ?_
        simp
        refine AW.loop (ι:=Nat) (fun i fr σ=>fr = { v:=[(8, .slice 1 (L.map nn')),(17, .slice 1 (L2q.map nn')),(18,ii' 0),(20, .int .i64 i)],ds:=[] } ∧ i ≤ L2q.length) (fun i=>L2q.length - i) 0 ⟨rfl,by omega⟩ ?_
        rintro i fr σ ⟨rfl,hi⟩
        refine (Nat.lt_or_ge i L2q.length).elim (fun hlt=>?_) (fun hge=>?_)
        · obtain ⟨x,hx⟩:∃ x,L2q[i] = x:=⟨_,rfl⟩
          have hx':L2q[i]? = some x:=by rw [List.getElem?_eq_getElem hlt,hx]
          have qxq:=q6 x
          rw [decide_eq_true (hsub rfl x (hx ▸ List.getElem_mem _))] at qxq
          have hwi:IntKind.i64.wrap ((i:Int) + 1) = ((i + 1:Nat):Int):=by rw [aj (by omega) (by omega)]; simp
          refine aa _ ?_
          simp [hlt,hx]
          refine af.pure zT (qxq _) ?_
          simp [hwi]
          exact ⟨i + 1,by omega,by simp,by omega⟩
        · refine aa _ ?_
          simp [show ¬ i < L2q.length by omega]
          refine af.pure jB (bj _) ?_
          simp
    · clear hsub
      rcases (by omega:ss.length = 0 ∨ 12 ≤ ss.length ∨ (0 < ss.length ∧ ss.length < 12)) with h | h | ⟨h,h'⟩
      · obtain rfl:ttq = []:=List.eq_nil_of_length_eq_zero (by omega)
        have hc2:c = .slice 3 [] ∨ ∃ b k,c = .oslice 3 [] b k:=by
          rcases hc with ⟨_,e⟩ | ⟨b,k,e,_⟩
          · exact .inl e
          · exact .inr ⟨b,k,by simpa using e⟩
        rcases hc2 with e | ⟨b,k,e⟩
        all_goals
          subst e
          refine aa _ ?_
          simp
          refine af.pure Fh (qaq _) ?_
          simp
          refine af.pure EK (q7 _) ?_
          simp [hfs,fFq]
          refine ⟨by omega,by omega, ?_⟩
          refine af.pure Fh (q4 _) ?_
          simp
          refine af.pure Ct (q5 _) ?_
          simp [hE]
          refine af.pure jB (bj _) ?_
          simp
      · obtain ⟨b,k,e,hb⟩:∃ b k,c = .oslice 3 (ttq.map av.v) b k ∧ σ[b]? = some (.spare 3 k):=by
          rcases hc with ⟨e,_⟩ | e
          · rw [e] at htl; simp at htl; omega
          · exact e
        subst e
        have hI:¬ (ttq.length:Int) < 12:=by omega
        refine aa _ ?_
        simp [hI]
        refine af.pure Fh (qaq _) ?_
        simp
        refine af.pure EK (q7 _) ?_
        simp [hfs,fFq]
        refine ⟨by omega,by omega, ?_⟩
        refine af.pure Fh (q4 _) ?_
        simp
        refine af.pure Ct (q5 _) ?_
        simp [hE]
        refine af.pure jB (bj _) ?_
        simp
      · obtain ⟨b,k,e,hb⟩:∃ b k,c = .oslice 3 (ttq.map av.v) b k ∧ σ[b]? = some (.spare 3 k):=by
          rcases hc with ⟨e,_⟩ | e
          · rw [e] at htl; simp at htl; omega
          · exact e
        subst e
        have hI:(ttq.length:Int) < 12:=by omega
        obtain ⟨g,hgl,_,hgm⟩:=mf (n:=ttq.length) ht (by omega) (by omega)
        obtain ⟨s,hsg⟩:∃ s,ttq[g] = s:=⟨_,rfl⟩
        have hsg':ttq[g]? = some s:=by rw [List.getElem?_eq_getElem hgl,hsg]
        have hne:¬ ttq = []:=fun e=>by rw [e] at hgl; simp at hgl
        have fSq:Fits 3 [.agg [.str s.name,ii' s.frame,ii' s.kind]]:=gg [s]
        have qb:=q3 (ttq ++ [s]) (by simp; omega) fun x=>by
          rw [List.mem_append,List.mem_singleton,htm]
          exact ⟨.inl,fun hx=>hx.elim id fun e=>by rw [e, ← htm, ← hsg]; exact List.getElem_mem _⟩
        simp only [List.map_append,List.map_cons,List.map_nil,av.v,av.cells] at qb
        refine aa _ ?_
        simp [hI,hne,show 0 < ttq.length by omega,hgl,hgm,hsg,hb,fSq,av.v,av.cells]
        refine ⟨by omega, ?_⟩
        refine af.pure Fh (qb _) ?_
        simp
        refine af.pure EK (q7 _) ?_
        simp [hfs,fFq]
        refine ⟨by omega,by omega, ?_⟩
        refine af.pure Fh (q4 _) ?_
        simp
        refine af.pure Ct (q5 _) ?_
        simp [hE]
        refine af.pure jB (bj _) ?_
        simp
end Go.AM
