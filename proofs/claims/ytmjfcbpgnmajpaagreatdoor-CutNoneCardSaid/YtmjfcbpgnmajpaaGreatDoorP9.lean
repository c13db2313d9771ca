/- A region whose order Go leaves open, second half: whatever the order, it comes to what the order of the text comes to, where operations that meddle are ordered. A region whose order Go leaves open, the theorem. -/
import Derived.Test.YtmjfcbpgnmajpaaGreatDoorP8
namespace Go.AM
open Go.RowKit
def wx:List aI → List Nat
  | []=>[]
  | .t n :: r=>n :: wx r
  | _ :: r=>wx r
def AI.da:AI → List aI
  | .pick c a b=>[c,a,b]
  | i=>i.opers
def db (o:aJ):List Nat:=wx o.i.da ++ (match o.g with
  | some gd=>[gd.1]
  | none=>[])
theorem lX:∀ {l:List aI} {n:Nat},aI.t n ∈ l → n ∈ wx l
  | .t m :: r,n,h=>by
    rcases List.mem_cons.1 h with h | h
    · cases h; exact List.mem_cons_self
    · exact List.mem_cons_of_mem _ (lX h)
  | .c v :: r,n,h=>by
    rcases List.mem_cons.1 h with h | h
    · cases h
    · exact lX (l:=r) h
  | .f m :: r,n,h=>by
    rcases List.mem_cons.1 h with h | h
    · cases h
    · exact lX (l:=r) h
def cq.reads:cq → Nat → Prop
  | .rd l,b=>b ∈ l
  | _,_=>False
def cq.nJ (n:Nat) (H:af):cq → af
  | .al o=>H.set n o
  | .wr b o=>H.set b o
  | _=>H
theorem qx {e:Env} {i:AI} {n:Nat} {σ:af}:(gU e i).nJ n σ = σ:=by
  have h:∀ v,(oY v).nJ n σ = σ:=fun v=>by cases v <;> rfl
  cases i <;> first | rfl | exact h _
theorem uk {l:List ab} {n:Nat} {σ:af}:(rdL l).nJ n σ = σ:=by unfold rdL; split <;> rfl
theorem sL {e:Env} {i:AI} {b:Nat} {o:bo}:gU e i ≠ .wr b o:=by
  have h:∀ v,oY v ≠ .wr b o:=fun v=>by cases v <;> simp [oY]
  cases i <;> first | exact h _ | simp [gU]
theorem y4 {l:List ab} {b:Nat} {o:bo}:rdL l ≠ .wr b o:=by unfold rdL; split <;> simp
section
variable {P:Program} {s:St} {A:World} {N:Nat} {fr:Fr} {a:Act}
theorem yx {e e':Env} {l:List aI} (h:∀ n ∈ wx l,e'.get n = e.get n):∀ x ∈ l,opv e' x = opv e x ∧ opg e' x = opg e x:=by
  intro x hx
  cases x with
  | t n=>have:=h n (lX hx); simp [opv,opg,this]
  | c v=>exact ⟨rfl,rfl⟩
  | f n=>exact ⟨rfl,rfl⟩
theorem dJ {e e':Env}:∀ {l:List aI},(∀ x ∈ l,opv e' x = opv e x ∧ opg e' x = opg e x) → cS e l → cS e' l
  | [],_,h=>h
  | x :: r,hs,h=>⟨(hs x (by simp)).2.trans h.1,dJ (fun y hy=>hs y (by simp [hy])) h.2⟩
theorem af.cm {σ:af} {b:Nat} (h:σ.get b ≠ .dead):b < σ.length:=by
  rcases Nat.lt_or_ge b σ.length with h' | h'
  · exact h'
  · exact absurd (by simp [af.get,List.getD,List.getElem?_eq_none h']) h
theorem yd {k:Option Nat} {σ H:af} {v:ab} (ho:fc k σ v) (h:∀ b,(oY v).reads b → b < σ.length → H.get b = σ.get b):fc k H v ∧ lq k H v = lq k σ v:=by
  cases v with
  | ptr b off=>
    have hb:b < σ.length:=by
      apply af.cm; intro e; simp only [fc,e] at ho
    have:=h b (by simp [oY,cq.reads]) hb
    simp only [fc,lq,this] at ho ⊢; exact ⟨ho,trivial⟩
  | eptr sz b i f n=>
    have hb:b < σ.length:=by
      apply af.cm; intro e; simp only [fc,e] at ho
    have:=h b (by simp [oY,cq.reads]) hb
    simp only [fc,lq,this] at ho ⊢; exact ⟨ho,trivial⟩
  | pval v=>exact ⟨ho,rfl⟩
  | _=>exact ho.elim
theorem qE {e e':Env} {σ H:af} {i:AI} {o:Op} (hc:a8 P i o = true) (hq:i.quiet = true) (hop:∀ x ∈ i.da,opv e' x = opv e x ∧ opg e' x = opg e x) (hs:gO e σ i)
    (hH:∀ b,(gU e i).reads b → b < σ.length → H.get b = σ.get b):gO e' H i ∧ jf e' H i = jf e σ i:=by
  by_cases hp:∃ c x y,i = .pick c x y
  · obtain ⟨c,x,y,rfl⟩:=hp
    simp only [AI.da,List.mem_cons,List.not_mem_nil,or_false,forall_eq_or_imp,forall_eq] at hop
    obtain ⟨⟨h1,h2⟩,⟨h3,h4⟩,⟨h5,h6⟩⟩:=hop
    simp only [gO,jf,h1,h2,h3,h4,h5,h6] at hs ⊢
    exact ⟨hs,trivial⟩
  · have hd:i.da = i.opers:=by cases i <;> first | rfl | exact absurd ⟨_,_,_,rfl⟩ hp
    rw [hd] at hop
    have hval:∀ e σ,jf e σ i = i.val (opv e) σ:=fun e σ=>by cases i <;> first | rfl | exact absurd ⟨_,_,_,rfl⟩ hp
    have hsd:∀ e σ,gO e σ i ↔ (cS e i.opers ∧ i.side (opv e) σ):=fun e σ=>by cases i <;> first | exact Iff.rfl | exact absurd ⟨_,_,_,rfl⟩ hp
    rw [hsd] at hs ⊢
    rw [hval,hval]
    have hcg:=AI.congr (σ:=H) (i:=i) (ρ:=opv e') (ρ₂:=opv e) (fun x hx=>(hop x hx).1)
    rw [hcg.1,hcg.2]
    refine ⟨⟨dJ hop hs.1, ?_⟩, ?_⟩
    · cases i with
      | load k x=>exact (yd hs.2 hH).1
      | lookup ok z x i=>cases o <;> simp [a8] at hc
      | _=>first | exact hs.2 | (simp [AI.quiet,AI.plain] at hq)
    · cases i with
      | load k x=>exact (yd hs.2 hH).2
      | lookup ok z x i=>cases o <;> simp [a8] at hc
      | _=>rfl
theorem HM {K Kp:ab → af → Prop} (hi:Inv A s) {b:Nat} (hb:s.h[b]? = some .hole) {t:TypeId} {v:ab} {c:Value} {n:Nat} (hv:Rv s v c) (hn:bA v n) (h:K (.ptr b 0) (s.h.set b (.box v.cells))) :
    aA P A s K Kp ((do pure (Next.value (← Instr.box t c)):Sem Next).run P s.w):=by
  obtain ⟨c1,c2,c3⟩:=cz hv hn
  obtain ⟨s3,f1,f2,i3,g3,r3,_⟩:=hi.nP hb (cs:=v.cells) (vs:=c.cells) t (by omega) (fun j h1 h2=>c3 j h1 h2)
  have hrun:(Instr.box t c).run P s.w = .ok (.pointer (some ⟨s.w.heap.size,0,none⟩)) (s.w.alloc (.cells c.cells t)):=by
    simp [Instr.box,newVar,newRow]
  exact aA.value (au _ _ _ _ hrun) f2 i3 g3 r3 (by rw [f1]; exact h)
theorem mo:∀ {z:List ab},SZ z = true → z.map ab.gK = z
  | [],_=>rfl
  | v :: r,h=>by
    have h2:SZ r = true ∧ v.gK = v:=by cases v <;> first | exact ⟨h,rfl⟩ | (simp [SZ] at h)
    rw [List.map_cons,h2.2,mo h2.1]
theorem CX {K Kp:ab → af → Prop} (hi:Inv A s) {b:Nat} (hb:s.h[b]? = some .hole) {t:TypeId} {z:List ab} (hz:gH P t (z.map ab.gK) = true) (hm:SZ z = true)
    (h:K (.ptr b 0) (s.h.set b (.box z))):aA P A s K Kp ((do pure (Next.value (← Instr.alloc t true (.tuple #[]))):Sem Next).run P s.w):=by
  rw [mo hm] at hz
  unfold gH at hz
  cases hinfo:P.info? t with
  | none=>simp [hinfo] at hz
  | some i=>
    cases hzero:i.zero with
    | none=>simp [hinfo,hzero] at hz
    | some v=>
      simp only [hinfo,Option.bind_some,hzero] at hz
      obtain ⟨s3,f1,f2,i3,g3,r3,_⟩:=hi.nP hb (cs:=z) (vs:=v.cells) t (by simpa using pr hz) (fun j h1 h2=>by
        have:=iX (s:=s) hz j h1 (by simpa using h2)
        simpa using this)
      have hrun:(Instr.alloc t true (.tuple #[])).run P s.w = .ok (.pointer (some ⟨s.w.heap.size,0,none⟩)) (s.w.alloc (.cells v.cells t)):=by
        simp [Instr.alloc,zeroValue,typeInfo,hinfo,hzero,newVar,newRow]
      exact aA.value (au _ _ _ _ hrun) f2 i3 g3 r3 (by rw [f1]; exact h)
theorem HS {ρ:aI → ab} {ρ':Operand → Value} {K Kp:ab → af → Prop} (hi:Inv A s) {b:Nat} (hb:s.h[b]? = some .hole) {m sz n:Nat} {ps:List (Nat × aI)} {t:TypeId} {parts:Array (Nat × Operand)} (ha:fm s ρ ρ') (hc:a8 P (.lit m sz n ps) (.buildSlice t n parts) = true)
    (ho:iS sz n ρ ps) (h:K (.sref sz b 0 n n) (s.h.set b (.arr sz (iA ρ (List.replicate n .undef) ps)))) :
    aA P A s K Kp ((do pure (Next.value (← Instr.buildSlice t n (parts.map fun x=>(x.1,ρ' x.2)))):Sem Next).run P s.w):=by
  simp only [a8] at hc
  cases hu:P.underlying t with
  | none=>simp [hu] at hc
  | some d=>
    cases d with
    | slice e=>
      simp only [hu,Bool.and_eq_true,beq_iff_eq,decide_eq_true_eq] at hc
      obtain ⟨⟨⟨⟨⟨⟨rfl,hinf⟩,_⟩,hbig⟩,hpos⟩,hzs⟩,hp⟩:=hc
      obtain ⟨i,hinfo⟩:=Option.isSome_iff_exists.1 hinf
      unfold s8 at hzs
      cases hzero:i.zero with
      | none=>simp [hinfo,hzero] at hzs
      | some zv=>
        simp only [hinfo,Option.bind_some,hzero,beq_iff_eq] at hzs
        generalize hsz:P.cellsOf e = sz at *
        have hz0:dW s sz (List.replicate n .undef) (List.replicate n zv) ((Array.range (n * sz)).map (zv.cells[· % zv.cells.size]!)):=by
          refine ⟨by simp,fun i h1 h2=>⟨by simpa using Rv.undef _,by simp [hzs]⟩,fun i j h2 hj=>?_⟩
          simp only [List.getElem_replicate] at hj ⊢
          have hin:i < n:=by simpa using h2
          have:i * sz + j < n * sz:=dj hin (by omega)
          have hmod:(i * sz + j) % zv.cells.size = j:=by rw [hzs,Nat.mul_comm,Nat.mul_add_mod]; exact Nat.mod_eq_of_lt (by omega)
          simp [this,hmod,hj]
        obtain ⟨us',C',f1,f2,f3,f4⟩:=sQ (s:=s) (ρ:=ρ) (ρ':=ρ') (n:=n) rfl (ps:=ps) (qs:=parts.toList) ha hp ho (by simp) (by simp) hz0
        have hlist:(parts.map fun x=>(x.1,ρ' x.2)).toList = parts.toList.map fun x=>(x.1,ρ' x.2):=by simp
        have hrun:(Instr.buildSlice t n (parts.map fun x=>(x.1,ρ' x.2))).run P s.w = .ok (.slice (some ⟨s.w.heap.size,0,none⟩) n n) (s.w.alloc (.cells C' e)):=by
          unfold Instr.buildSlice
          simp only [Sem.run_bind,aw hu,Result.andThen_ok,aT hinf,hsz]
          rw [if_neg (by omega)]
          by_cases hn0:n * sz = 0
          · have hn:n = 0:=by rcases Nat.mul_eq_zero.1 hn0 with h | h <;> omega
            subst hn
            have hmap:∀ g:Nat → Value,(Array.range (0 * sz)).map g = #[]:=fun g=>by apply Array.ext'; simp
            rw [hmap] at f1
            rw [if_pos hn0,Sem.run_bind,Sem.run_pure,Result.andThen_ok,hmap,hlist,f1]
            simp [newRow]
          · rw [if_neg hn0]
            simp [zeroValue,typeInfo,hinfo,hzero,f1,newRow]
        generalize hxs:iA ρ (List.replicate n .undef) ps = xs at *
        have hlen:xs.length = n:=f4
        obtain ⟨s3,b1,b2,i3,g3,r3⟩:=hi.oa hb e n (by omega) f2 f3
        rw [hlen] at r3
        exact aA.value (au _ _ _ _ hrun) b2 i3 g3 r3 (by rw [b1]; exact h)
    | _=>simp [hu] at hc
theorem UG {ρ:aI → ab} {ρ':Operand → Value} {K Kp:ab → af → Prop} (hi:Inv A s) {b:Nat} (hb:s.h[b]? = some .hole) {m sz n:Nat} {ps:List (Nat × aI)} {t:TypeId} {parts:Array (Nat × Operand)} (ha:fm s ρ ρ') (hc:a8 P (.lit m sz n ps) (.buildSlice t n parts) = true)
    (ho:iS sz n ρ ps) (h:K (.oslice sz (iA ρ (List.replicate n .undef) ps) b 0) (s.h.set b (.spare sz 0))) :
    aA P A s K Kp ((do pure (Next.value (← Instr.buildSlice t n (parts.map fun x=>(x.1,ρ' x.2)))):Sem Next).run P s.w):=by
  simp only [a8] at hc
  cases hu:P.underlying t with
  | none=>simp [hu] at hc
  | some d=>
    cases d with
    | slice e=>
      simp only [hu,Bool.and_eq_true,beq_iff_eq,decide_eq_true_eq] at hc
      obtain ⟨⟨⟨⟨⟨⟨rfl,hinf⟩,_⟩,hbig⟩,hpos⟩,hzs⟩,hp⟩:=hc
      obtain ⟨i,hinfo⟩:=Option.isSome_iff_exists.1 hinf
      unfold s8 at hzs
      cases hzero:i.zero with
      | none=>simp [hinfo,hzero] at hzs
      | some zv=>
        simp only [hinfo,Option.bind_some,hzero,beq_iff_eq] at hzs
        generalize hsz:P.cellsOf e = sz at *
        have hz0:dW s sz (List.replicate n .undef) (List.replicate n zv) ((Array.range (n * sz)).map (zv.cells[· % zv.cells.size]!)):=by
          refine ⟨by simp,fun i h1 h2=>⟨by simpa using Rv.undef _,by simp [hzs]⟩,fun i j h2 hj=>?_⟩
          simp only [List.getElem_replicate] at hj ⊢
          have hin:i < n:=by simpa using h2
          have:i * sz + j < n * sz:=dj hin (by omega)
          have hmod:(i * sz + j) % zv.cells.size = j:=by rw [hzs,Nat.mul_comm,Nat.mul_add_mod]; exact Nat.mod_eq_of_lt (by omega)
          simp [this,hmod,hj]
        obtain ⟨us',C',f1,f2,f3,f4⟩:=sQ (s:=s) (ρ:=ρ) (ρ':=ρ') (n:=n) rfl (ps:=ps) (qs:=parts.toList) ha hp ho (by simp) (by simp) hz0
        have hlist:(parts.map fun x=>(x.1,ρ' x.2)).toList = parts.toList.map fun x=>(x.1,ρ' x.2):=by simp
        have hrun:(Instr.buildSlice t n (parts.map fun x=>(x.1,ρ' x.2))).run P s.w = .ok (.slice (some ⟨s.w.heap.size,0,none⟩) n n) (s.w.alloc (.cells C' e)):=by
          unfold Instr.buildSlice
          simp only [Sem.run_bind,aw hu,Result.andThen_ok,aT hinf,hsz]
          rw [if_neg (by omega)]
          by_cases hn0:n * sz = 0
          · have hn:n = 0:=by rcases Nat.mul_eq_zero.1 hn0 with h | h <;> omega
            subst hn
            have hmap:∀ g:Nat → Value,(Array.range (0 * sz)).map g = #[]:=fun g=>by apply Array.ext'; simp
            rw [hmap] at f1
            rw [if_pos hn0,Sem.run_bind,Sem.run_pure,Result.andThen_ok,hmap,hlist,f1]
            simp [newRow]
          · rw [if_neg hn0]
            simp [zeroValue,typeInfo,hinfo,hzero,f1,newRow]
        generalize hxs:iA ρ (List.replicate n .undef) ps = xs at *
        have hlen:xs.length = n:=f4
        obtain ⟨s1,e1,e2,e3,i1,g1,r1,_⟩:=hi.E6 e n (by omega) f3
        rw [hlen] at r1
        obtain ⟨s3,b1,b2,i3,g3,k3,_⟩:=i1.iK (b:=b) (by rw [e1]; exact hb) sz (some ⟨s.w.heap.size,0,none⟩) n
        refine aA.value (au _ _ _ _ hrun) (b2.trans e3) i3 (g1.trans g3) (v:=.oslice sz xs b 0) (.oslice _ _ _ _ _ (r1.keeps g3.keeps) k3) ?_
        rw [b1,e1]; exact h
    | _=>simp [hu] at hc
theorem An:∀ {l:List aI} {m:List Operand},ek l m = true → ∀ x ∈ l, ∃ y,aL x y = true
  | [],[],_,x,hx=>by cases hx
  | a :: r,b :: t,h,x,hx=>by
    simp only [ek,Bool.and_eq_true] at h
    rcases List.mem_cons.1 hx with rfl | hx
    · exact ⟨b,h.1⟩
    · exact An h.2 x hx
  | [],_ :: _,h,_,_=>by simp [ek] at h
  | _ :: _,[],h,_,_=>by simp [ek] at h
theorem cW.named (hf:cW s N fr a) {x:aI} (hy:∃ y,aL x y = true) (hg:opg fr.v x = true):∀ b ∈ (opv fr.v x).dz, ∃ k u,s.lam b k = some u:=
  let ⟨_,h⟩:=hy; (hf.opr h hg).dz
theorem vk {e:Env}:∀ {l:List aI},cS e l → ∀ x ∈ l,opg e x = true
  | a :: r,h,x,hx=>by
    rcases List.mem_cons.1 hx with rfl | hx
    · exact h.1
    · exact vk h.2 x hx
theorem BA {v:ab} {b:Nat} (h:(oY v).reads b):b ∈ v.dz:=by
  cases v <;> simp [oY,cq.reads] at h <;> simp [ab.dz,h]
theorem Inv.I7 (hi:Inv A s) {n:Nat} (hb:s.h[n]? = some .hole) (hl:s.h.length = n + 1):∃ s',s'.h = s.h.take n ∧ s'.h.length = n ∧ s'.w = s.w ∧ Inv A s' ∧ bB s s':=by
  let s':St:={ s with h:=s.h.take n }
  have hlen:s'.h.length = n:=by simp [s',hl]
  have hget:∀ b o,s'.h[b]? = some o → s.h[b]? = some o:=fun b o h=>by
    have hlt:b < n:=by
      rcases Nat.lt_or_ge b n with h' | h'
      · exact h'
      · rw [List.getElem?_eq_none (by rw [hlen]; exact h')] at h; cases h
    simpa [s',List.getElem?_take,hlt] using h
  have hk:bf s s':=⟨fun _ _ _ h=>h,fun _ _ h=>h,fun _ _ _=>rfl⟩
  have hown:∀ b o blk,cL s' b o blk → cL s b o blk:=fun b o blk h=>by cases o <;> exact h
  refine ⟨s',rfl,hlen,rfl,⟨hi.below,fun b o h=>(hi.obj b o (hget b o h)).yy hk (fun _ _=>rfl) (fun _ _ _ h=>h) (fun _=>rfl),fun b b' o o' blk h1 h2 w1 w2=>hi.excl b b' o o' blk (hget _ _ h1) (hget _ _ h2) (hown _ _ _ w1) (hown _ _ _ w2),fun b k h=>?_,hi.scell,hi.laid⟩,
    ⟨hk,Nat.le_refl _,fun _ _ _=>rfl,fun blk ⟨b,o,h1,h2⟩=>.inr ⟨b,o,hget _ _ h1,hown _ _ _ h2⟩,fun _ _ h=>.inl h⟩⟩
  rw [hlen] at h
  rcases Nat.lt_or_ge b (n + 1) with h' | h'
  · have:b = n:=by omega
    subst this
    exact hi.obj b _ hb k
  · exact hi.fresh b k (by omega)
theorem xx {ops:Array Oper} {ro:Option Nat} {i:Nat} {o:Oper} {ao:aJ} (ho:ops[i]? = some o) (hcG:we ops ao.g o.guard = true) (hcI:a8 P ao.i o.op = true)
    (hi:Inv A s) (hf:cW s N fr a) {e:Env} {σ:af} {q:DR} (hst:sX P ao e σ q) (hop:∀ x ∈ db ao,fr.v.get x = e.get x)
    (hrd:∀ b,q.e.reads b → b < σ.length → (∃ k u,s.lam b k = some u) → s.h.get b = σ.get b)
    (hwr:∀ b o',q.e = .wr b o' → b < σ.length → (∃ k u,s.lam b k = some u) → s.h.get b = σ.get b)
    (hal:∀ o',q.e = .al o' → s.h[σ.length]? = some .hole) (hlast:∀ sz f dn l,ao.i = .callA sz f dn l → s.h.length = σ.length + 1) {K:Act → World → Prop} {Q:Exit → Act → World → Prop}
    (hK:∀ c s',Inv A s' → bB s s' → s'.h = q.e.nJ σ.length s.h → Rv s' q.v c → (∀ b o',q.e = .wr b o' → b < σ.length ∧ ∃ k u,s.lam b k = some u) → K (a.put o.dst c) s'.w) :
    wpOpIn (Fro ro) 0 P ops Q i K a s.w:=by
  obtain ⟨c,hgc,h⟩:=hst
  have hne:=iI hcI
  have hops:=yx (l:=ao.i.da) (e:=e) (e':=fr.v) (fun n hn=>hop n (by unfold db; exact List.mem_append_left _ hn))
  -- the guard
  have hw:(Region.wanted o (yielded ops a.tmps)) = c:=by
    cases hag:ao.g with
    | none=>
      rw [hag] at hcG hgc
      have hgn:o.guard = none:=by cases hgu:o.guard with
        | none=>rfl
        | some x=>rw [hgu] at hcG; simp [we] at hcG
      simp only [ed,Option.some.injEq] at hgc
      simp [Region.wanted,hgn,hgc]
    | some gd=>
      rw [hag] at hcG hgc
      refine ko hf hcG (g:=c) ?_
      have:=hop gd.1 (by simp [db,hag])
      simp only [ed,fz] at hgc ⊢
      rw [this]; exact hgc
  unfold wpOpIn
  rw [ho]
  simp only [hw]
  -- what runs
  have run:c = true → (∀ K':ab → af → Prop,(∀ v,K' v (q.e.nJ σ.length s.h) → True) → True):=fun _ _ _=>trivial
  have go:∀ (v:ab),q.v = l8 ao.g true v → (∀ b o',q.e = .wr b o' → b < σ.length ∧ ∃ k u,s.lam b k = some u) →
      aA P A s (fun v' σ'=>v' = v ∧ σ' = q.e.nJ σ.length s.h) (fun _ _=>False) ((execOp a.eval o).run P s.w) → o.wpIn (Fro ro) 0 P a s.w K Q:=by
    intro v hqv hlam hso
    refine ⟨fun _ _=>trivial, ?_⟩
    rw [Oper.semAt_eq _ _ _ hne]
    refine pa hso (fun v' cc s' h1 h2 h3 h4=>hK cc s' h1 h2 h4.2 ?_ hlam) (fun _ _ _ _ _ _ h4=>h4.elim)
    rw [hqv]
    have:=h3; rw [h4.1] at this
    unfold l8; split
    · exact this
    · exact .optT _ _ this
  have quiet:ao.i.quiet = true → (c = true → gO e σ ao.i) → q = ⟨l8 ao.g c (jf e σ ao.i),gU e ao.i⟩ → (if c = true then o.wpIn (Fro ro) 0 P a s.w K Q else (∀ f,o.about P s.w a.eval = some f → (Fro ro).fn f) ∧ K (a.put o.dst undef) s.w):=by
    intro hq hs hqe
    cases c with
    | false=>
      simp only [Bool.false_eq_true,if_false]
      refine ⟨fun _ _=>trivial,hK _ s hi (.refl s) ?_ ?_ ?_⟩
      · rw [hqe]; exact qx.symm
      · rw [hqe]
        unfold l8; split
        · rename_i hg; rw [hg] at hgc; simp [ed] at hgc
        · exact .optF _
      · rw [hqe]; intro b o' hh; exact absurd hh sL
    | true=>
      simp only [if_true]
      have hs:=hs rfl
      -- what it reads is there
      have hH:∀ b,(gU e ao.i).reads b → b < σ.length → s.h.get b = σ.get b:=by
        intro b hb hlt
        refine hrd b (by rw [hqe]; exact hb) hlt ?_
        cases hai:ao.i with
        | load k x=>
          rw [hai] at hb hs hops hcI
          have hx:=hops x (by simp [AI.da,AI.opers])
          have hy:∃ y,aL x y = true:=by
            generalize o.op = op at hcI
            cases op <;> simp [a8] at hcI
            exact ⟨_,hcI.2⟩
          have hg:opg fr.v x = true:=hx.2.trans hs.1.1
          refine hf.named hy hg b ?_
          rw [hx.1]; exact BA hb
        | lookup ok z x i=>rw [hai] at hcI; generalize o.op = op at hcI; cases op <;> simp [a8] at hcI
        | _=>rw [hai] at hb; exact hb.elim
      have hqc:=qE hcI hq hops hs hH
      obtain ⟨cc,e1,e2⟩:=iY hi hf hcI hq hqc.1
      refine go (jf e σ ao.i) (by rw [hqe]) (by rw [hqe]; intro b o' hh; exact absurd hh sL) (aA.value e1 rfl hi (.refl s) e2 ⟨hqc.2, ?_⟩)
      rw [hqe]; exact qx.symm
  cases hai:ao.i with
  | call f dn l=>
    rw [hai] at h
    obtain ⟨h1,v,h2,h3⟩:=h
    cases c with
    | false=>
      simp only [Bool.false_eq_true,if_false]
      refine ⟨fun _ _=>trivial,hK _ s hi (.refl s) ?_ ?_ ?_⟩
      · rw [h1]; exact uk.symm
      · rw [h2]
        unfold l8; split
        · rename_i hg; rw [hg] at hgc; simp [ed] at hgc
        · exact .optF _
      · rw [h1]; intro b o' hh; exact absurd hh y4
    | true=>
      simp only [if_true]
      obtain ⟨hn,hcall⟩:=h3 rfl
      have hops':∀ x ∈ (f :: l),opv fr.v x = opv e x ∧ opg fr.v x = opg e x:=fun x hx=>hops x (by rw [hai]; exact hx)
      have hn':=dJ hops' hn
      have hy:∀ x ∈ (f :: l), ∃ y,aL x y = true:=by
        rw [hai] at hcI
        generalize o.op = op at hcI
        cases op <;> simp only [a8] at hcI <;> first | (cases hcI; done) | skip
        rename_i cc
        obtain ⟨cal,args,tys⟩:=cc
        simp only at hcI
        split at hcI
        · simp only [Bool.and_eq_true] at hcI
          intro x hx
          rcases List.mem_cons.1 hx with rfl | hx
          · exact ⟨_,hcI.1⟩
          · exact An hcI.2 x hx
        · cases hcI
      have hmap:(opv fr.v f :: l.map (opv fr.v)) = (opv e f :: l.map (opv e)):=by
        rw [(hops' f (by simp)).1]; congr 1
        exact List.map_congr_left fun x hx=>(hops' x (by simp [hx])).1
      have hmap1:opv fr.v f = opv e f:=(List.cons.inj hmap).1
      have hmap2:l.map (opv fr.v) = l.map (opv e):=(List.cons.inj hmap).2
      have hbl:∀ b ∈ ft (opv e f :: l.map (opv e)),b < σ.length → s.h.get b = σ.get b:=by
        intro b hb hlt
        by_cases hp:aM (opv e f :: l.map (opv e)) = true
        · rw [eC hp] at hb; cases hb
        · refine hrd b (by rw [h1,rdL,if_neg hp]; exact hb) hlt ?_
          rw [← hmap] at hb
          have:∃ x ∈ (f :: l),b ∈ (opv fr.v x).dz:=by
            obtain ⟨j,g1,g2⟩:=fC.1 hb
            cases j with
            | zero=>exact ⟨f,by simp,g2⟩
            | succ j=>exact ⟨l[j]'(by simpa using g1),by simp,by simpa using g2⟩
          obtain ⟨x,hx,hxb⟩:=this
          exact hf.named (hy x hx) (vk hn' x hx) b hxb
      refine go v (by rw [h2]) (by rw [h1]; intro b o' hh; exact absurd hh y4) (fI hi hf hcI ?_)
      rw [hai]
      refine ⟨hn', ?_⟩
      show aC P (opv fr.v f) (bC dn (l.map (opv fr.v))) s.h _
      rw [hmap1,hmap2]
      refine (hcall s.h hbl).mono ?_
      rintro r σ' ⟨rfl,rfl⟩
      exact ⟨rfl,by rw [h1]; exact uk.symm⟩
  | box n x=>
    rw [hai] at h hops
    obtain ⟨h1,h2,h3,rfl⟩:=h
    rw [h1] at hgc; simp only [ed,Option.some.injEq] at hgc; subst hgc
    simp only [if_true]
    have hx:=hops x (by simp [AI.da,AI.opers])
    refine go (.ptr σ.length 0) (by rw [h1]; rfl) (by intro b o' hh; cases hh) ?_
    obtain ⟨dst,op,type,pos,after,guard⟩:=o
    rw [hai] at hcI
    simp only at hcI
    cases op <;> simp only [a8] at hcI <;> first | (cases hcI; done) | skip
    simp only [Bool.and_eq_true,beq_iff_eq] at hcI
    have hv:=hf.opr hcI.2 (hx.2.trans h2.1)
    rw [hx.1] at hv
    exact HM hi (hal _ rfl) hv h3 ⟨rfl,rfl⟩
  | alloc z=>
    rw [hai] at h
    obtain ⟨h1,h2,rfl⟩:=h
    rw [h1] at hgc; simp only [ed,Option.some.injEq] at hgc; subst hgc
    simp only [if_true]
    refine go (.ptr σ.length 0) (by rw [h1]; rfl) (by intro b o' hh; cases hh) ?_
    obtain ⟨dst,op,type,pos,after,guard⟩:=o
    rw [hai] at hcI
    simp only at hcI
    cases op <;> simp only [a8] at hcI <;> first | (cases hcI; done) | skip
    exact CX hi (hal _ rfl) hcI h2 ⟨rfl,rfl⟩
  | callA sz f dn l=>
    rw [hai] at h hops
    obtain ⟨h1,h2,xs,h3,rfl⟩:=h
    rw [h1] at hgc; simp only [ed,Option.some.injEq] at hgc; subst hgc
    simp only [if_true]
    have hops':∀ x ∈ (f :: l),opv fr.v x = opv e x ∧ opg fr.v x = opg e x:=fun x hx=>hops x hx
    have hn':=dJ hops' h2
    have hmap1:opv fr.v f = opv e f:=(hops' f (by simp)).1
    have hmap2:l.map (opv fr.v) = l.map (opv e):=List.map_congr_left fun x hx=>(hops' x (by simp [hx])).1
    have hb:=hal _ rfl
    obtain ⟨s1,e1,e1',e2,i1,g1⟩:=hi.I7 hb (hlast _ _ _ _ hai)
    have hcI':a8 P (.call f dn l) o.op = true:=by rw [hai] at hcI; exact hcI
    refine go (.oslice sz xs σ.length 1) (by rw [h1]; rfl) (by intro b o' hh; cases hh) ?_
    rw [← e2]
    refine aA.from g1 (fI i1 (hf.keeps g1.keeps) hcI' ⟨hn', ?_⟩)
    show aC P (opv fr.v f) (bC dn (l.map (opv fr.v))) s1.h _
    rw [hmap1,hmap2]
    refine (h3 s1.h).mono ?_
    rintro r σ' ⟨rfl,rfl⟩
    rw [e1']
    refine ⟨rfl, ?_⟩
    show s1.h ++ [.spare sz 1] = s.h.set σ.length (.spare sz 1)
    rw [e1]
    have hlen:=hlast _ _ _ _ hai
    apply List.ext_getElem?
    intro j
    rcases Nat.lt_trichotomy j σ.length with hj | hj | hj
    · rw [List.getElem?_append_left (by simp; omega),List.getElem?_set_ne (by omega),List.getElem?_take,if_pos hj]
    · subst hj
      rw [List.getElem?_append_right (by simp; omega),List.getElem?_set_self (by omega)]
      simp [hlen]
    · rw [List.getElem?_eq_none (by simp; omega),List.getElem?_eq_none (by simp; omega)]
  | mnew=>
    rw [hai] at h
    obtain ⟨h1,rfl⟩:=h
    rw [h1] at hgc; simp only [ed,Option.some.injEq] at hgc; subst hgc
    simp only [if_true]
    refine go (.map σ.length) (by rw [h1]; rfl) (by intro b o' hh; cases hh) ?_
    obtain ⟨dst,op,type,pos,after,guard⟩:=o
    rw [hai] at hcI
    simp only at hcI
    cases op <;> simp only [a8] at hcI <;> first | (cases hcI; done) | skip
    simp only [Bool.and_eq_true] at hcI
    exact Fo (fun _=>rfl) hi (hal _ rfl) hcI.1 hcI.2 ⟨rfl,rfl⟩
  | mksl m sz bytes z n k=>
    rw [hai] at h hops
    obtain ⟨rfl,h2,h3,h4,rfl⟩:=h
    rw [h2] at hgc; simp only [ed,Option.some.injEq] at hgc; subst hgc
    simp only [if_true]
    have hn:=hops n (by simp [AI.da,AI.opers])
    have hk:=hops k (by simp [AI.da,AI.opers])
    refine go (.sref sz σ.length 0 (bI (opv e n)).toNat (bI (opv e n)).toNat) (by rw [h2]; rfl) (by intro b o' hh; cases hh) ?_
    obtain ⟨dst,op,type,pos,after,guard⟩:=o
    rw [hai] at hcI
    simp only at hcI
    cases op <;> simp only [a8] at hcI <;> first | (cases hcI; done) | skip
    rename_i t n' c'
    cases hu:P.underlying t with
    | none=>rw [hu] at hcI; simp at hcI
    | some d=>
      cases d with
      | slice e'=>
        rw [hu] at hcI
        simp only at hcI
        cases hinf:P.info? e' with
        | none=>rw [hinf] at hcI; simp at hcI
        | some i=>
          rw [hinf] at hcI
          simp only at hcI
          cases hzv:i.zero with
          | none=>rw [hzv] at hcI; simp at hcI
          | some v=>
            rw [hzv] at hcI
            simp only [Bool.and_eq_true,beq_iff_eq,decide_eq_true_eq] at hcI
            obtain ⟨⟨⟨⟨c1,c2⟩,⟨⟨c3,c4⟩,⟨c5,c6⟩⟩⟩,c7⟩,c8⟩:=hcI
            have hvn:=hf.opr c7 (hn.2.trans h3.1)
            have hvk:=hf.opr c8 (hk.2.trans h3.2.1)
            rw [hn.1] at hvn
            rw [hk.1] at hvk
            exact EO hi (hal _ rfl) hu hinf hzv c4 c3 c5 c6 hvn hvk h4.1 h4.2.1 h4.2.2.1 h4.2.2.2.1 h4.2.2.2.2.1 h4.2.2.2.2.2 ⟨rfl,rfl⟩
      | _=>rw [hu] at hcI; simp at hcI
  | store sz x v=>
    rw [hai] at h hops
    obtain ⟨h1,h2,h3,h4,h5⟩:=h
    rw [h1] at hgc; simp only [ed,Option.some.injEq] at hgc; subst hgc
    simp only [if_true]
    have hx:=hops x (by simp [AI.da,AI.opers])
    have hv:=hops v (by simp [AI.da,AI.opers])
    obtain ⟨dst,op,type,pos,after,guard⟩:=o
    have hcI':=hcI
    rw [hai] at hcI
    simp only at hcI
    cases op <;> simp only [a8] at hcI <;> first | (cases hcI; done) | skip
    simp only [Bool.and_eq_true,beq_iff_eq] at hcI
    obtain ⟨⟨⟨c1,c2⟩,c3⟩,c4⟩:=hcI
    have rx:=hf.opr c3 (hx.2.trans h2.1)
    have rv:=hf.opr c4 (hv.2.trans h2.2.1)
    rw [hx.1] at rx
    rw [hv.1] at rv
    -- the block that is written
    have hblk:∃ b o',q.e = .wr b o' ∧ b ∈ (opv e x).dz ∧ σ.get b ≠ .dead:=by
      generalize opv e x = ax at h5
      cases ax with
      | ptr b off=>
        simp only [qU] at h5
        cases hg:σ.get b <;> rw [hg] at h5 <;> first | (cases h5; done) | skip
        exact ⟨b,_,(Option.some.inj h5).symm,by simp [ab.dz],by rw [hg]; simp⟩
      | eptr sz b i f n=>
        simp only [qU] at h5
        cases hg:σ.get b <;> rw [hg] at h5 <;> first | (cases h5; done) | skip
        exact ⟨b,_,(Option.some.inj h5).symm,by simp [ab.dz],by rw [hg]; simp⟩
      | _=>cases h5
    obtain ⟨b,o',hq,hb,hnd⟩:=hblk
    have hlt:=af.cm hnd
    have hlam:=rx.dz b hb
    have hget:=hwr b o' hq hlt hlam
    have hso:fR s.h sz (opv e v) (opv e x) ∧ ju s.h (opv e v) (opv e x) = q.e.nJ σ.length s.h:=by
      revert h3 h5 hb
      generalize opv e x = ax
      intro h3 h5 hb
      cases ax with
      | ptr b' off=>
        simp [ab.dz] at hb; subst hb
        simp only [fR,ju,qU,hget] at h3 h5 ⊢
        refine ⟨h3, ?_⟩
        cases hg:σ.get b <;> rw [hg] at h5 <;> first | (cases h5; done) | skip
        rw [← Option.some.inj h5]; rfl
      | eptr sz' b' i' f n=>
        simp [ab.dz] at hb; subst hb
        simp only [fR,ju,qU,hget] at h3 h5 ⊢
        refine ⟨h3, ?_⟩
        cases hg:σ.get b <;> rw [hg] at h5 <;> first | (cases h5; done) | skip
        rw [← Option.some.inj h5]; rfl
      | _=>cases h5
    refine go .undef (by rw [h4,h1]; rfl) (by intro b1 o1 hh; rw [hq] at hh; cases hh; exact ⟨hlt,hlam⟩) ?_
    exact ln hi c1 c2 rx rv hso.1 ⟨rfl,hso.2⟩
  | append sz bytes x y=>
    rw [hai] at h hops
    obtain ⟨h1,h2,h3⟩:=h
    rw [h1] at hgc; simp only [ed,Option.some.injEq] at hgc; subst hgc
    simp only [if_true]
    have hx:=hops x (by simp [AI.da,AI.opers])
    have hy:=hops y (by simp [AI.da,AI.opers])
    obtain ⟨ys,b,o',v,q1,q2,q3,q4,q5,rfl,q7,_⟩:=nF h3
    have hlt:b < σ.length:=af.cm q5
    have hoy:∃ z,aL x z = true:=by
      have hcI':=hcI
      rw [hai] at hcI'
      generalize o.op = op at hcI'
      cases op <;> simp only [a8] at hcI' <;> first | (cases hcI'; done) | skip
      split at hcI'
      · split at hcI'
        · split at hcI'
          · simp only [Bool.and_eq_true] at hcI'
            exact ⟨_,hcI'.1.2⟩
          · cases hcI'
        · cases hcI'
      · cases hcI'
    have hlam:=hf.named hoy (hx.2.trans h2.1) b (by rw [hx.1]; exact q4)
    have hget:=hwr b _ rfl hlt hlam
    refine go v (by rw [h1]; rfl) (by intro b1 o1 hh; cases hh; exact ⟨hlt,hlam⟩) (fI hi hf hcI ?_)
    rw [hai]
    obtain ⟨f1,f2⟩:=vF q1 s.h sz
    refine ⟨dJ (fun z hz=>hops z (by simpa [AI.da,AI.opers] using hz)) h2, ?_⟩
    simp only [eH,hx.1,hy.1,f1]
    exact ⟨f2.2 q2,q3,q7 s.h hget _ ⟨rfl,rfl⟩⟩
  | lit m sz n ps=>
    rw [hai] at h hops
    by_cases hm:m = 0
    rotate_left
    · by_cases hm1:m = 1
      · simp only [if_neg hm,if_pos hm1] at h
        obtain ⟨h2,h3,h4,rfl⟩:=h
        rw [h2] at hgc; simp only [ed,Option.some.injEq] at hgc; subst hgc
        simp only [if_true]
        refine go (.oslice sz (iA (opv e) (List.replicate n .undef) ps) σ.length 0) (by rw [h2]; rfl) (by intro b o' hh; cases hh) ?_
        have hps:∀ x ∈ ps.map (·.2),opn fr.v x = opv e x:=fun x hx=>(jV (dJ (fun x hx=>hops x (by simpa [AI.da,AI.opers] using hx)) h3) x hx).symm.trans (hops x (by simpa [AI.da,AI.opers] using hx)).1
        obtain ⟨dst,op,type,pos,after,guard⟩:=o
        rw [hai] at hcI
        simp only at hcI
        cases op with
        | buildSlice t n' parts=>
          have hn:n' = n:=by
            simp only [a8] at hcI
            cases hu:P.underlying t with
            | none=>simp [hu] at hcI
            | some d=>
              cases d <;> simp [hu] at hcI
              exact hcI.1.1.1.1.2.symm
          subst hn
          refine UG hi (hal _ rfl) hf.z6 hcI ((gu hps).2 h4) ⟨by rw [iJ hps],rfl⟩
        | _=>simp only [a8] at hcI; cases hcI
      · simp only [if_neg hm,if_neg hm1] at h
        obtain ⟨h1,h2,h3,h4,rfl⟩:=h
        rw [h2] at hgc; simp only [ed,Option.some.injEq] at hgc; subst hgc
        simp only [if_true]
        refine go (.sref sz σ.length 0 n n) (by rw [h2]; rfl) (by intro b o' hh; cases hh) ?_
        have hps:∀ x ∈ ps.map (·.2),opn fr.v x = opv e x:=fun x hx=>(jV (dJ (fun x hx=>hops x (by simpa [AI.da,AI.opers] using hx)) h3) x hx).symm.trans (hops x (by simpa [AI.da,AI.opers] using hx)).1
        obtain ⟨dst,op,type,pos,after,guard⟩:=o
        rw [hai] at hcI
        simp only at hcI
        cases op with
        | buildSlice t n' parts=>
          have hn:n' = n:=by
            simp only [a8] at hcI
            cases hu:P.underlying t with
            | none=>simp [hu] at hcI
            | some d=>
              cases d <;> simp [hu] at hcI
              exact hcI.1.1.1.1.2.symm
          subst hn
          refine HS hi (hal _ rfl) hf.z6 hcI ((gu hps).2 h4) ⟨rfl, ?_⟩
          rw [iJ hps]; rfl
        | _=>simp only [a8] at hcI; cases hcI
    subst hm
    simp only [if_true] at h
    obtain ⟨h34,rfl⟩:=h
    cases c with
    | false=>
      simp only [Bool.false_eq_true,if_false]
      refine ⟨fun _ _=>trivial,hK _ s hi (.refl s) rfl ?_ (by intro b o' hh; cases hh)⟩
      unfold l8; split
      · rename_i hg; rw [hg] at hgc; simp [ed] at hgc
      · exact .optF _
    | true=>
    obtain ⟨h3,h4⟩:=h34 rfl
    simp only [if_true]
    have hps:∀ x ∈ ps.map (·.2),opv e x = opv fr.v x:=fun x hx=>(hops x (by simpa [AI.da,AI.opers] using hx)).1.symm
    refine go (.slice sz (iA (opv e) (List.replicate n .undef) ps)) rfl (by intro b o' hh; cases hh) (fI hi hf hcI ?_)
    rw [hai]
    refine ⟨dJ (fun x hx=>hops x (by simpa [AI.da,AI.opers] using hx)) h3,(gu hps).1 h4, ?_⟩
    simp only [if_true]
    exact ⟨by rw [iJ hps],rfl⟩
  | load k x=>rw [hai] at h; exact quiet (by rw [hai]; rfl) (by rw [hai]; exact h.2.1) (by rw [hai]; exact h.2.2)
  | lookup ok z x i=>rw [hai] at h; exact quiet (by rw [hai]; rfl) (by rw [hai]; exact h.2.1) (by rw [hai]; exact h.2.2)
  | _=>rw [hai] at h; exact quiet (by rw [hai]; exact h.1) (by rw [hai]; exact h.2.1) (by rw [hai]; exact h.2.2)
end
open Go.RowKit
def gx (p:Nat → Bool):List aJ → List DR → Nat → Env → Env
  | o :: r,q :: t,k,e=>gx p r t (k + 1) (if p k = true then e.put o.d q.v else e)
  | _,_,_,e=>e
def dV:List DR → Nat → List (Option (Nat × bo))
  | [],_=>[]
  | q :: r,nb=>match q.e with
    | .al o=>some (nb,o) :: dV r (nb + 1)
    | .wr b o=>some (b,o) :: dV r nb
    | _=>none :: dV r nb
def nal:List DR → Nat
  | []=>0
  | q :: r=>match q.e with
    | .al _=>nal r + 1
    | _=>nal r
def cr (p:Nat → Bool):List (Option (Nat × bo)) → Nat → af → af
  | [],_,σ=>σ
  | none :: r,k,σ=>cr p r (k + 1) σ
  | some (b,o) :: r,k,σ=>cr p r (k + 1) (if p k = true then σ.set b o else σ)
theorem fQ (e:Env) (d:Option Nat) (v:ab) (x:Nat):(e.put d v).get x = if d = some x then v else e.get x:=by
  cases d with
  | none=>simp [Env.put]
  | some n=>
    simp only [Env.put,rh,Option.some.injEq]
theorem ki {p p':Nat → Bool} {x:Nat}:∀ {ops:List aJ} {t:List DR} {k:Nat} {e e':Env},(∀ j o,ops[j]? = some o → o.d = some x → p (k + j) = p' (k + j)) → e.get x = e'.get x →
    (gx p ops t k e).get x = (gx p' ops t k e').get x
  | [],_,k,e,e',_,he=>by simpa [gx] using he
  | _ :: _,[],k,e,e',_,he=>by simpa [gx] using he
  | o :: r,q :: t,k,e,e',h,he=>by
    simp only [gx]
    refine ki (fun j o' h1 h2=>?_) ?_
    · have:=h (j + 1) o' (by simpa using h1) h2
      rw [show k + 1 + j = k + (j + 1) by omega]; exact this
    · by_cases hd:o.d = some x
      · have:=h 0 o (by simp) hd
        rw [Nat.add_zero] at this
        rw [this]
        split
        · simp [fQ,hd]
        · exact he
      · have f:∀ (b:Bool) (e:Env),(if b = true then e.put o.d q.v else e).get x = e.get x:=fun b e=>by cases b <;> simp [fQ,hd]
        rw [f,f]; exact he
theorem wX {p:Nat → Bool} {x:Nat}:∀ {ops:List aJ} {t:List DR} {k i:Nat} {e:Env} {o:aJ} {q:DR},ops[i]? = some o → t[i]? = some q → o.d = some x → p (k + i) = true →
    (∀ j o',j ≠ i → ops[j]? = some o' → o'.d ≠ some x) → (gx p ops t k e).get x = q.v
  | [],_,_,_,_,_,_,h,_,_,_,_=>by simp at h
  | _ :: _,[],_,_,_,_,_,_,h,_,_,_=>by simp at h
  | o1 :: r,q1 :: t,k,0,e,o,q,h1,h2,h3,h4,h5=>by
    simp at h1 h2; subst h1; subst h2
    simp only [gx]
    rw [Nat.add_zero] at h4
    rw [if_pos h4]
    have hno:∀ j o',r[j]? = some o' → o'.d = some x → p (k + 1 + j) = false:=fun j o' g1 g2=>absurd g2 (h5 (j + 1) o' (by omega) (by simpa using g1))
    have:=ki (p:=p) (p':=fun _=>false) (ops:=r) (t:=t) (k:=k + 1) (e:=e.put o1.d q1.v) (e':=e.put o1.d q1.v) hno rfl
    rw [this]
    have none:∀ (r:List aJ) (t:List DR) (k:Nat) (e:Env),gx (fun _=>false) r t k e = e:=by
      intro r
      induction r with
      | nil=>intros; simp [gx]
      | cons a r ih=>intro t k e; cases t with
        | nil=>simp [gx]
        | cons b t=>simp only [gx,Bool.false_eq_true,if_false]; exact ih t _ e
    rw [none]; simp [fQ,h3]
  | o1 :: r,q1 :: t,k,i + 1,e,o,q,h1,h2,h3,h4,h5=>by
    simp only [gx]
    exact wX (i:=i) (by simpa using h1) (by simpa using h2) h3 (by rw [show k + 1 + i = k + (i + 1) by omega]; exact h4)
      (fun j o' g1 g2=>h5 (j + 1) o' (by omega) (by simpa using g2))
theorem pD {p:Nat → Bool}:∀ {ops:List aJ} {t:List DR} {k:Nat} {e:Env},(∀ j,k ≤ j → p j = false) → gx p ops t k e = e
  | [],_,_,_,_=>by simp [gx]
  | _ :: _,[],_,_,_=>by simp [gx]
  | o :: r,q :: t,k,e,h=>by
    simp only [gx]
    rw [h k (Nat.le_refl _)]
    simp only [Bool.false_eq_true,if_false]
    exact pD fun j hj=>h j (by omega)
theorem ik {p:Nat → Bool}:∀ {l:List (Option (Nat × bo))} {k:Nat} {σ:af},(cr p l k σ).length = σ.length
  | [],_,_=>rfl
  | none :: r,k,σ=>by simp only [cr]; exact ik
  | some (b,o) :: r,k,σ=>by simp only [cr]; rw [ik]; split <;> simp
theorem dB {p p':Nat → Bool} {b:Nat}:∀ {l:List (Option (Nat × bo))} {k:Nat} {σ σ':af},(∀ j o,l[j]? = some (some (b,o)) → p (k + j) = p' (k + j)) → σ[b]? = σ'[b]? → σ.length = σ'.length →
    (cr p l k σ)[b]? = (cr p' l k σ')[b]?
  | [],_,_,_,_,h,_=>h
  | none :: r,k,σ,σ',h,he,hl=>by
    simp only [cr]
    exact dB (fun j o g=>by rw [show k + 1 + j = k + (j + 1) by omega]; exact h (j + 1) o (by simpa using g)) he hl
  | some (b',o) :: r,k,σ,σ',h,he,hl=>by
    simp only [cr]
    refine dB (fun j o g=>by rw [show k + 1 + j = k + (j + 1) by omega]; exact h (j + 1) o (by simpa using g)) ?_ ?_
    · by_cases hb:b' = b
      · subst hb
        have:=h 0 o (by simp)
        rw [Nat.add_zero] at this
        rw [this]
        split
        · simp only [List.getElem?_set_self',he]
        · exact he
      · have f:∀ (c:Bool) (σ:af),(if c = true then σ.set b' o else σ)[b]? = σ[b]?:=fun c σ=>by cases c <;> simp [List.getElem?_set_ne hb]
        rw [f,f]; exact he
    · have f:∀ (c:Bool) (σ:af),(if c = true then σ.set b' o else σ).length = σ.length:=fun c σ=>by cases c <;> simp
      rw [f,f]; exact hl
theorem fL {p:Nat → Bool}:∀ {l:List (Option (Nat × bo))} {k:Nat} {σ:af},(∀ j,k ≤ j → p j = false) → cr p l k σ = σ
  | [],_,_,_=>rfl
  | none :: r,k,σ,h=>by simp only [cr]; exact fL fun j hj=>h j (by omega)
  | some (b,o) :: r,k,σ,h=>by
    simp only [cr]; rw [h k (Nat.le_refl _)]; simp only [Bool.false_eq_true,if_false]; exact fL fun j hj=>h j (by omega)
theorem mX {p:Nat → Bool} {b:Nat} {o:bo}:∀ {l:List (Option (Nat × bo))} {k i:Nat} {σ:af},l[i]? = some (some (b,o)) → p (k + i) = true →
    (∀ j o',i < j → l[j]? = some (some (b,o')) → p (k + j) = false) → b < σ.length → (cr p l k σ)[b]? = some o
  | [],_,_,_,h,_,_,_=>by simp at h
  | x :: r,k,0,σ,h1,h2,h3,h4=>by
    simp at h1; subst h1
    simp only [cr]
    rw [Nat.add_zero] at h2
    rw [if_pos h2]
    rw [dB (p':=fun _=>false) (σ':=σ.set b o) (fun j o' g=>by rw [show k + 1 + j = k + (j + 1) by omega]; exact h3 (j + 1) o' (by omega) (by simpa using g)) rfl rfl,fL (fun _ _=>rfl)]
    simp [h4]
  | none :: r,k,i + 1,σ,h1,h2,h3,h4=>by
    simp only [cr]
    exact mX (i:=i) (by simpa using h1) (by rw [show k + 1 + i = k + (i + 1) by omega]; exact h2)
      (fun j o' g1 g2=>by rw [show k + 1 + j = k + (j + 1) by omega]; exact h3 (j + 1) o' (by omega) (by simpa using g2)) h4
  | some (b',o1) :: r,k,i + 1,σ,h1,h2,h3,h4=>by
    simp only [cr]
    exact mX (i:=i) (by simpa using h1) (by rw [show k + 1 + i = k + (i + 1) by omega]; exact h2)
      (fun j o' g1 g2=>by rw [show k + 1 + j = k + (j + 1) by omega]; exact h3 (j + 1) o' (by omega) (by simpa using g2)) (by split <;> simp [h4])
theorem BV {p p':Nat → Bool} {l:List (Option (Nat × bo))} {i:Nat} {σ:af} (hp:∀ j,p' j = (p j || j == i)) :
    (l[i]? = some none → cr p' l 0 σ = cr p l 0 σ) ∧
    (∀ b o,l[i]? = some (some (b,o)) → (∀ j o',i < j → l[j]? = some (some (b,o')) → p j = false) → cr p' l 0 σ = (cr p l 0 σ).set b o):=by
  constructor
  · intro h
    refine List.ext_getElem? fun b=>dB (fun j o g=>?_) rfl rfl
    rw [Nat.zero_add,hp]
    have:j ≠ i:=fun e=>by subst e; rw [h] at g; cases g
    simp [this]
  · intro b o h hno
    refine List.ext_getElem? fun b'=>?_
    by_cases hb:b = b'
    · subst hb
      by_cases hlt:b < σ.length
      · rw [mX h (by simp [hp]) (fun j o' g1 g2=>by rw [Nat.zero_add,hp,hno j o' g1 g2]; simp; omega) hlt,List.getElem?_set_self (by rw [ik]; exact hlt)]
      · rw [List.getElem?_eq_none (by rw [ik]; omega),List.getElem?_eq_none (by rw [List.length_set,ik]; omega)]
    · rw [List.getElem?_set_ne hb]
      refine dB (fun j o' g=>?_) rfl rfl
      rw [Nat.zero_add,hp]
      have:j ≠ i:=fun e=>by subst e; rw [h] at g; simp at g; exact hb g.1
      simp [this]
section
variable {P:Program}
theorem wC {o:aJ} {e:Env} {σ:af} {q:DR} (h:sX P o e σ q) {b:Nat} {o':bo} (hq:q.e = .wr b o'):b < σ.length:=by
  obtain ⟨c,_,h⟩:=h
  have quiet:q = ⟨l8 o.g c (jf e σ o.i),gU e o.i⟩ → b < σ.length:=fun he=>by rw [he] at hq; exact absurd hq sL
  cases hi:o.i <;> rw [hi] at h quiet <;> simp only at h <;> first | (exact quiet h.2.2) | skip
  case call f dn l=>rw [h.1] at hq; exact absurd hq y4
  case box n x=>rw [h.2.2.2] at hq; cases hq
  case alloc z=>rw [h.2.2] at hq; cases hq
  case mnew=>rw [h.2] at hq; cases hq
  case callA sz f dn l=>obtain ⟨_,_,xs,_,rfl⟩:=h; cases hq
  case mksl m sz bytes z n k=>rw [h.2.2.2.2] at hq; cases hq
  case append sz bytes x y=>
    obtain ⟨ys,b',o1,v,q1,q2,q3,q4,q5,rfl,_⟩:=nF h.2.2
    cases hq
    exact af.cm q5
  case lit m sz n ps=>
    split at h
    · rw [h.2] at hq; cases hq
    · split at h
      · rw [h.2.2.2] at hq; cases hq
      · rw [h.2.2.2.2] at hq; cases hq
  case store sz x v=>
    have h5:=h.2.2.2.2
    generalize opv e x = ax at h5
    cases ax with
    | ptr b off=>
      simp only [qU] at h5
      cases hg:σ.get b <;> rw [hg] at h5 <;> first | (cases h5; done) | skip
      rw [hq] at h5; cases h5; exact af.cm (by rw [hg]; simp)
    | eptr sz b i f n=>
      simp only [qU] at h5
      cases hg:σ.get b <;> rw [hg] at h5 <;> first | (cases h5; done) | skip
      rw [hq] at h5; cases h5; exact af.cm (by rw [hg]; simp)
    | _=>cases h5
theorem yi:∀ {ops:List aJ} {e:Env} {σ:af} {t:List DR} {e':Env} {σ':af},xI P ops e σ t e' σ' → t.length = ops.length
  | [],_,_,[],_,_,_=>rfl
  | _ :: r,_,_,_ :: t,_,_,h=>by simp [yi h.2]
  | [],_,_,_ :: _,_,_,h=>h.elim
  | _ :: _,_,_,[],_,_,h=>h.elim
theorem uN:∀ {t:List DR} {nb:Nat},(dV t nb).length = t.length
  | [],_=>rfl
  | q :: r,nb=>by simp only [dV]; split <;> simp [uN]
theorem um {o:aJ} {e:Env} {σ:af} {q:DR} {t:List DR} {_ls:List (Option (Nat × bo))} {p:Nat → Bool} {k:Nat} (hs:sX P o e σ q) (hp:p k = true) :
    cr p (dV (q :: t) σ.length) k (σ ++ List.replicate (nal (q :: t)) .hole) = cr p (dV t (q.e.run σ).length) (k + 1) (q.e.run σ ++ List.replicate (nal t) .hole):=by
  obtain ⟨v,ef⟩:=q
  cases ef with
  | no=>simp only [dV,cr,nal,cq.run]
  | rd l=>simp only [dV,cr,nal,cq.run]
  | al ob=>
    simp only [dV,cr,nal,cq.run,hp,if_true,List.length_append,List.length_cons,List.length_nil,Nat.zero_add,List.replicate_succ]
    congr 1
    simp
  | wr b ob=>
    have:=wC hs rfl
    simp only [dV,cr,nal,cq.run,hp,if_true,List.length_set]
    congr 1
    exact List.set_append_left _ _ this
theorem zZ:∀ {ops:List aJ} {e:Env} {σ:af} {t:List DR} {e':Env} {σ':af} (k:Nat),xI P ops e σ t e' σ' → ∀ {j:Nat} {o:aJ},ops[j]? = some o →
    ∃ ej σj q,t[j]? = some q ∧ sX P o ej σj q ∧ (∀ x,ej.get x = (gx (fun i=>decide (i < k + j)) ops t k e).get x) ∧ σj.length = σ.length + nal (t.take j) ∧
      σj ++ List.replicate (nal (t.drop j)) .hole = cr (fun i=>decide (i < k + j)) (dV t σ.length) k (σ ++ List.replicate (nal t) .hole)
  | [],_,_,_,_,_,_,_,j,o,h=>by simp at h
  | o1 :: r,e,σ,[],_,_,_,hr,_,_,_=>hr.elim
  | o1 :: r,e,σ,q1 :: t,e',σ',k,hr,0,o,h=>by
    simp at h; subst h
    refine ⟨e,σ,q1,rfl,hr.1,fun x=>?_,by simp [nal], ?_⟩
    · rw [pD]; intro j hj; simp; omega
    · rw [fL]
      · rfl
      · intro j hj; simp; omega
  | o1 :: r,e,σ,q1 :: t,e',σ',k,hr,j + 1,o,h=>by
    obtain ⟨ej,σj,q,h1,h2,h3,h4,h5⟩:=zZ (k + 1) hr.2 (j:=j) (o:=o) (by simpa using h)
    refine ⟨ej,σj,q,by simpa using h1,h2,fun x=>?_, ?_, ?_⟩
    · rw [h3 x]
      simp only [gx,show k + 1 + j = k + (j + 1) by omega]
      rw [if_pos (by simp)]
    · rw [h4]
      obtain ⟨v,ef⟩:=q1
      cases ef <;> simp [nal,cq.run] <;> omega
    · simp only [List.drop_succ_cons]
      rw [h5,show k + 1 + j = k + (j + 1) by omega,um (_ls:=[]) hr.1 (by simp)]
theorem TK:∀ {ops:List aJ} {e:Env} {σ:af} {t:List DR} {e':Env} {σ':af} (k:Nat) {p:Nat → Bool},xI P ops e σ t e' σ' → (∀ j,j < ops.length → p (k + j) = true) →
    e' = gx p ops t k e ∧ σ' = cr p (dV t σ.length) k (σ ++ List.replicate (nal t) .hole)
  | [],e,σ,[],e',σ',k,p,h,_=>by obtain ⟨rfl,rfl⟩:=h; exact ⟨by simp [gx],by simp [nal,dV,cr]⟩
  | o :: r,e,σ,q :: t,e',σ',k,p,h,hp=>by
    obtain ⟨h1,h2⟩:=TK (k + 1) (p:=p) h.2 (fun j hj=>by rw [show k + 1 + j = k + (j + 1) by omega]; exact hp (j + 1) (by simpa using hj))
    have hk:p k = true:=by have:=hp 0 (by simp); simpa using this
    refine ⟨?_, ?_⟩
    · rw [h1]; simp only [gx,hk,if_true]
    · rw [h2,um (_ls:=[]) h.1 hk]
  | [],_,_,_ :: _,_,_,_,_,h,_=>h.elim
  | _ :: _,_,_,[],_,_,_,_,h,_=>h.elim
theorem jk {t:List DR} {i j:Nat} (h:i ≤ j):nal (t.take i) ≤ nal (t.take j):=by
  induction t generalizing i j with
  | nil=>simp
  | cons q t ih=>
    cases i with
    | zero=>simp [nal]
    | succ i=>
      cases j with
      | zero=>omega
      | succ j=>
        have:=ih (i:=i) (j:=j) (by omega)
        simp only [List.take_succ_cons,nal]
        split <;> omega
theorem jC:∀ {t:List DR} {nb j:Nat} {q:DR},t[j]? = some q → (dV t nb)[j]? = some (match q.e with
    | .al o=>some (nb + nal (t.take j),o)
    | .wr b o=>some (b,o)
    | _=>none)
  | [],_,_,_,h=>by simp at h
  | q1 :: t,nb,0,q,h=>by
    simp at h; subst h
    obtain ⟨v,ef⟩:=q1
    cases ef <;> simp [dV,nal]
  | q1 :: t,nb,j + 1,q,h=>by
    have h':t[j]? = some q:=by simpa using h
    obtain ⟨v,ef⟩:=q1
    cases ef <;> simp only [dV,List.getElem?_cons_succ,List.take_succ_cons,nal] <;> rw [jC h']
    cases q.e <;> simp only <;> congr 3; omega
theorem lg {t:List DR} {j:Nat} {q:DR} {o:bo} (h:t[j]? = some q) (hq:q.e = .al o):nal (t.take j) + 1 ≤ nal (t.take (j + 1)) ∧ nal (t.take j) < nal t:=by
  induction t generalizing j with
  | nil=>simp at h
  | cons q1 t ih=>
    cases j with
    | zero=>
      simp at h; subst h
      simp [nal,hq]
    | succ j=>
      have:=ih (j:=j) (by simpa using h)
      simp only [List.take_succ_cons,nal]
      split <;> omega
end
end Go.AM
