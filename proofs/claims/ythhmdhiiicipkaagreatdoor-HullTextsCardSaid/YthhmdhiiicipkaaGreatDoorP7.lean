/- Parts of slices, 'make', 'clear', 'copy', and the slice that is handed on for good. A struct, or a cell, whose nil slice has its own room; a slice in a cell is handed on for good. -/
import Derived.Test.YthhmdhiiicipkaaGreatDoorP6
import Derived.Laws.MakeOwn
import Derived.RangeFuncRecord
namespace Go.AM
open Go.RowKit
section
variable {P:Program} {s:St} {A:World} {ρ:aG → ab} {ρ':Operand → Value} {K Kp:ab → ag → Prop}
theorem pH (hi:Inv A s) {sz:Nat} {v:ab} {c:Value} (hv:Rv s v c) (h:vV sz s.h v K):au P A s K Kp (.ok (.value c) s.w):=by
  cases v with
  | sref sz' b off len n=>
    obtain ⟨rfl,h⟩:=h
    cases hb:s.h.get b with
    | arr sz'' xs=>
      rw [hb] at h
      obtain ⟨rfl,hn,h⟩:=h
      obtain ⟨s',e1,e2,i2,g2,r2⟩:=hi.nX (ag.get_some hb (by simp)) hv hn
      exact au.value rfl e2 i2 g2 r2 (by rw [e1]; exact h)
    | _=>rw [hb] at h; exact h.elim
  | _=>exact h.elim
theorem Ck (hi:Inv A s) (ha:fM s ρ ρ') {t e:TypeId} (ht:P.underlying t = some (.slice e)) {sz m:Nat} (hsz:P.cellsOf e = sz) (hinf:(P.info? e).isSome = true) {xv:ab} {c:Value} (hx:Rv s xv c)
    {lo hi_ mx:Option aG} {lo' hi' mx':Option Operand} (h1:fk lo lo' = true) (h2:fk hi_ hi' = true) (h3:fk mx mx' = true) (o1:dV ρ lo) (o2:dV ρ hi_) (o3:dV ρ mx) (hmx:mx.isSome = true → hi_.isSome = true)
    (h:DM m sz s.h xv (aU ρ 0 lo) (fun n=>aU ρ n hi_) (mx.map fun x=>ck (ρ x)) K):au P A s K Kp ((do pure (Next.value (← Instr.slice t c (lo'.map ρ') (hi'.map ρ') (mx'.map ρ'))):Sem Next).run P s.w):=by
  have core : ∀ {sz' : Nat} {xs : List ab} {c : Value},Rv s (.slice sz' xs) c → (sz' = sz ∨ xs = []) →
      (0 ≤ aU ρ 0 lo ∧ aU ρ 0 lo ≤ aU ρ xs.length hi_ ∧ (match mx.map fun x=>ck (ρ x) with
        | none=>aU ρ xs.length hi_ ≤ xs.length ∧ m = 0
        | some v=>aU ρ xs.length hi_ ≤ v ∧ v ≤ xs.length ∧ (m = 1 → v = aU ρ xs.length hi_) ∧ (m = 2 → v = 0)) ∧
      (if m = 0 then K (.slice sz ((xs.take (aU ρ xs.length hi_).toNat).drop (aU ρ 0 lo).toNat)) s.h
      else if m = 1 then K (.oslice sz ((xs.take (aU ρ xs.length hi_).toNat).drop (aU ρ 0 lo).toNat) s.h.length 0) (s.h ++ [.spare sz 0])
      else m = 2 ∧ K (.sref sz s.h.length 0 0 0) (s.h ++ [.arr sz []]))) →
      au P A s K Kp ((do pure (Next.value (← Instr.slice t c (lo'.map ρ') (hi'.map ρ') (mx'.map ρ'))):Sem Next).run P s.w):=by
    intro sz' xs c hx hz hg
    obtain ⟨g0,g1,g2,hK⟩:=hg
    obtain ⟨a,cap,rfl,hs⟩:=hx.cW
    have hcap:xs.length ≤ cap:=by
      rcases hs with rfl | ⟨_,_,_,_,_,hc,_⟩
      · simp
      · exact hc
    have gm:aU ρ xs.length hi_ ≤ aU ρ cap mx ∧ aU ρ cap mx ≤ cap ∧ aU ρ xs.length hi_ ≤ xs.length ∧ (m ≠ 0 → aU ρ cap mx ≤ xs.length ∧ (m = 1 → aU ρ cap mx = aU ρ xs.length hi_) ∧ (m = 2 → aU ρ cap mx = 0)):=by
      cases mx with
      | none=>simp only [Option.map_none,aU] at g2 ⊢; exact ⟨by omega,by omega,g2.1,fun h=>absurd g2.2 h⟩
      | some x=>simp only [Option.map_some] at g2; simp only [aU] at g2 ⊢; exact ⟨g2.1,by omega,by omega,fun _=>⟨g2.2.1,g2.2.2⟩⟩
    obtain ⟨gm1,gm2,gm3,gm4⟩:=gm
    have hb:=kP (P:=P) (w:=s.w) ha h1 h2 h3 o1 o2 o3 g0 g1 gm1 gm2 hmx
    have hrun:=kB (a:=a) ht hsz hinf hb
    generalize hl:(aU ρ 0 lo).toNat = l at *
    generalize hh:(aU ρ xs.length hi_).toNat = hh' at *
    generalize hm:(aU ρ cap mx).toNat = mm at *
    have hlh:l ≤ hh':=by omega
    have hhx:hh' ≤ xs.length:=by omega
    have hhm:hh' ≤ mm:=by omega
    have hlen:((xs.take hh').drop l).length = hh' - l:=by simp; omega
    -- the part, az a slice
    have hpart:Rv s (.slice sz ((xs.take hh').drop l)) (.slice (if mm = l then a else a.map (·.add (l * sz))) (hh' - l) (mm - l)):=by
      by_cases he:hh' = l
      · have:(xs.take hh').drop l = []:=List.eq_nil_of_length_eq_zero (by rw [hlen]; omega)
        rw [this,show hh' - l = 0 by omega]; exact .slice0 _ _ _
      · rcases hs with rfl | ⟨blk,off,us,rfl,q1,q2,q3,q4⟩
        · simp at hhx; omega
        · have hsz':sz' = sz:=hz.resolve_right (by intro e; subst e; simp at hhx; omega)
          subst hsz'
          rw [if_neg (by omega)]
          simp only [Option.map_some,addr_add]
          refine .slice sz' _ blk (off + l * sz') _ _ ((us.take hh').drop l) (by simp [q1]) hlen.symm (by omega) (fun i r1 r2=>?_) (fun i r2=>?_)
          · have:=q3 (l + i) (by simp at r1; omega) (by simp at r2; omega)
            simpa using this
          · have:=q4 (l + i) (by simp at r2; omega)
            simp only [List.getElem_drop,List.getElem_take]
            rw [show off + l * sz' + i * sz' = off + (l + i) * sz' by rw [Nat.add_mul]; omega]
            exact this
    by_cases hm0:m = 0
    · rw [if_pos hm0] at hK
      exact au.value (aq _ _ _ _ hrun) rfl hi (.refl s) hpart hK
    · rw [if_neg hm0] at hK
      obtain ⟨k1,k2,k3⟩:=gm4 hm0
      by_cases hm1:m = 1
      · rw [if_pos hm1] at hK
        obtain ⟨s1,e1,e2,i1,g1',d1⟩:=hi.one
        obtain ⟨s2,f1,f2,i2,g2',kk,_⟩:=i1.fE d1 sz (if mm = l then a else a.map (·.add (l * sz))) (hh' - l)
        have hmm:mm = hh':=by have:=k2 hm1; omega
        refine au.value (aq _ _ _ _ hrun) (f2.trans e2) i2 (g1'.trans g2') (v:=.oslice sz ((xs.take hh').drop l) s.h.length 0) (.oslice _ _ _ _ _ ((hpart.keeps g1'.keeps).keeps g2'.keeps) (by rw [kk,hmm])) ?_
        rw [f1,e1,bO]; exact hK
      · rw [if_neg hm1] at hK
        obtain ⟨hm2,hK⟩:=hK
        have:=k3 hm2
        obtain ⟨s1,e1,e2,i1,g1',d1⟩:=hi.one
        obtain ⟨s2,f1,f2,i2,g2',kk⟩:=i1.qw d1 sz a
        have z1:mm = 0:=by omega
        have z2:hh' = 0:=by omega
        have z3:l = 0:=by omega
        subst z1; subst z2; subst z3
        simp only [if_true,Nat.sub_self] at hrun
        refine au.value (aq _ _ _ _ hrun) (f2.trans e2) i2 (g1'.trans g2') (v:=.sref sz s.h.length 0 0 0) (.sref0 _ _ _ kk) ?_
        rw [f1,e1,bO]; exact hK
  cases xv with
  | slice sz' xs=>exact core hx h.1 h.2
  | oslice sz' xs b k=>
    cases hx with
    | oslice _ _ _ _ _ hs hl=>exact core hs (.inl h.1) h.2
  | sref sz' b off len n=>
    by_cases hm3:m = 3
    · simp only [DM,if_pos hm3] at h
      cases mx with
      | none=>exact h.elim
      | some x=>
        simp only [Option.map_some] at h
        obtain ⟨g0,g1,g2,g3,hK⟩:=h
        have hc:∃ a cap,c = .slice a len cap ∧ len ≤ cap:=by
          cases hx with
          | sref _ _ _ _ _ blk cap hl h1 h2=>exact ⟨_,_,rfl,by omega⟩
          | sref0 _ _ a hl=>exact ⟨_,_,rfl,Nat.le_refl _⟩
          | srefE _ _ _ _ a v hl h0 h1=>exact ⟨_,_,rfl,Nat.le_refl _⟩
        obtain ⟨a,cap,rfl,hle⟩:=hc
        have hb:=kP (P:=P) (w:=s.w) (mx:=some x) (cap:=cap) ha h1 h2 h3 o1 o2 o3 g0 g1 g2 (by simp only [aU]; omega) hmx
        exact au.value (aq _ _ _ _ (kB (a:=a) ht hsz hinf hb)) rfl hi (.refl s) (.undef _) hK
    simp only [DM,if_neg hm3] at h
    obtain ⟨rfl,_,hmx0,g0,g1,g2,hK⟩:=h
    have hmn:mx = none:=by cases mx <;> simp at hmx0 ⊢
    subst hmn
    replace g1:aU ρ 0 lo ≤ aU ρ len hi_:=g1
    replace g2:off + aU ρ len hi_ ≤ n:=g2
    have go:∀ {a:Option Addr} {cap:Nat},(aU ρ len hi_).toNat ≤ cap → Rv s (.sref sz' b (off + (aU ρ 0 lo).toNat) (aU ρ len hi_ - aU ρ 0 lo).toNat n)
        (.slice (if cap = (aU ρ 0 lo).toNat then a else a.map (·.add ((aU ρ 0 lo).toNat * sz'))) ((aU ρ len hi_).toNat - (aU ρ 0 lo).toNat) (cap - (aU ρ 0 lo).toNat)) →
        au P A s K Kp ((do pure (Next.value (← Instr.slice t (.slice a len cap) (lo'.map ρ') (hi'.map ρ') (mx'.map ρ'))):Sem Next).run P s.w):=by
      intro a cap hle hrv
      have hb:=kP (P:=P) (w:=s.w) (mx:=none) (cap:=cap) ha h1 h2 h3 o1 o2 o3 g0 g1 (by simp only [aU] at hle ⊢; omega) (by simp only [aU]; omega) hmx
      have hrun:=kB (a:=a) ht hsz hinf hb
      simp only [show aU ρ (cap:Int) none = cap from rfl,Int.toNat_natCast] at hrun
      exact au.value (aq _ _ _ _ hrun) rfl hi (.refl s) hrv hK
    generalize hl:(aU ρ 0 lo).toNat = l at *
    generalize hh:(aU ρ len hi_).toNat = hh' at *
    have e1:(aU ρ len hi_ - aU ρ 0 lo).toNat = hh' - l:=by omega
    have e2:l ≤ hh':=by omega
    have e3:off + hh' ≤ n:=by omega
    rw [e1] at go
    cases hx with
    | sref0 _ _ a hl0=>
      have z1:hh' = 0:=by omega
      have z2:l = 0:=by omega
      subst z1; subst z2
      exact go (Nat.le_refl _) (by simpa using Rv.sref0 (s:=s) sz' b a hl0)
    | srefE _ _ _ _ a v hl0 q0 q1=>
      have z1:hh' = 0:=by omega
      have z2:l = 0:=by omega
      subst z1; subst z2
      exact go (Nat.le_refl _) (by simpa using Rv.srefE (s:=s) sz' b off n a v hl0 q0 q1)
    | sref _ _ _ _ _ blk cap hl0 q1 q2=>
      refine go (by omega) ?_
      by_cases hm:cap - off = l
      · rw [if_pos hm,show hh' - l = 0 by omega,show cap - off - l = 0 by omega]
        rcases Nat.eq_zero_or_pos l with h0 | h0
        · subst h0
          have:=Rv.sref (s:=s) sz' b off 0 n blk cap hl0 (by omega) q2
          rw [hm] at this; simpa using this
        · exact .srefE _ _ _ _ _ _ hl0 (by omega) (by omega)
      · rw [if_neg hm]
        simp only [Option.map_some,addr_add]
        have:=Rv.sref (s:=s) sz' b (off + l) (hh' - l) n blk cap hl0 (by omega) q2
        rw [Nat.add_mul,show cap - (off + l) = cap - off - l by omega] at this
        exact this
  | _=>exact h.elim
theorem va (hi:Inv A s) {b sz off len n:Nat} {xs ys:List ab} {ws:List Value} {c:Value} (hb:s.h[b]? = some (.arr sz xs)) (hn:xs.length = n) (hx:Rv s (.sref sz b off len n) c) (hwl:ws.length = ys.length)
    (hr:∀ i (h1:i < ys.length) (h2:i < ws.length),Rv s ys[i] ws[i]) (hz:∀ i (h2:i < ws.length),ws[i].cells.size = sz) (hone:∀ u ∈ aY ws,u.oneCell' = true) (hle:ys.length ≤ len) :
    ∃ a cap s',c = .slice a len cap ∧ s'.h = s.h.set b (.arr sz (xs.take off ++ ys ++ xs.drop (off + ys.length))) ∧ Inv A s' ∧ bK s s' ∧ Rv s' (.sref sz b off len n) c ∧
      (a = none → s'.w = s.w ∧ ys.length = 0 ∧ len = 0) ∧ ∀ ad,a = some ad → (storeCells ad (aY ws)).run P s.w = .ok () s'.w:=by
  have hblt:b < s.h.length:=(List.getElem?_eq_some_iff.1 hb).1
  have hself:s.h.set b (.arr sz xs) = s.h:=by
    refine List.ext_getElem? fun j=>?_
    by_cases hj:b = j
    · subst hj; rw [List.getElem?_set_self hblt,hb]
    · rw [List.getElem?_set_ne hj]
  have nothing:ys.length = 0 → s.h.set b (.arr sz (xs.take off ++ ys ++ xs.drop (off + ys.length))) = s.h:=by
    intro h0
    have:ys = []:=List.eq_nil_of_length_eq_zero h0
    subst this; simp [hself]
  have fnil:ys.length = 0 → aY ws = []:=by
    intro h0
    have:ws = []:=List.eq_nil_of_length_eq_zero (by omega)
    subst this; rfl
  cases hx with
  | sref0 _ _ a hl=>
    refine ⟨a,0,s,rfl,(nothing (by omega)).symm,hi, .refl s, .sref0 _ _ _ hl,fun _=>⟨rfl,by omega,rfl⟩,fun ad _=>?_⟩
    rw [fnil (by omega)]; rfl
  | srefE _ _ _ _ a v hl h0 h1=>
    refine ⟨a,0,s,rfl,(nothing (by omega)).symm,hi, .refl s, .srefE _ _ _ _ _ _ hl h0 h1,fun _=>⟨rfl,by omega,rfl⟩,fun ad _=>?_⟩
    rw [fnil (by omega)]; rfl
  | sref _ _ _ _ _ blk cap hl h1 h2=>
    rcases (hi.obj b _ hb).mF with ⟨hx0,a,hl'⟩ | ⟨blk',cap',vs,el,us,h0,hl',hB,hh,hvs,hcap,hel,hnS⟩
    · subst hx0
      have hn0:n = 0:=by simpa using hn.symm
      subst hn0
      refine ⟨_,_,s,rfl,(nothing (by omega)).symm,hi, .refl s, .sref _ _ _ _ _ blk cap hl h1 h2,(fun h=>by cases h),fun ad _=>?_⟩
      rw [fnil (by omega)]; rfl
    · have e1:blk' = blk ∧ cap' = cap:=by rw [hn,hl] at hl'; simp at hl'; exact ⟨hl'.1.symm,hl'.2.symm⟩
      obtain ⟨rfl,rfl⟩:=e1
      subst hn
      obtain ⟨hfit,s',f1,f2,i2,g2,k2⟩:=hi.wL hb h0 hl' hh hvs hel hnS hB hwl hr hz (p:=off) (by omega) (by omega) hcap
      refine ⟨_,_,s',rfl,f1,i2,g2, .sref _ _ _ _ _ blk' cap' (g2.keeps.lam _ _ _ hl) h1 h2,(fun h=>by cases h),fun ad e=>?_⟩
      cases e
      have hst:=run_storeCells_at P blk' (off * sz) el (aY ws) 0 vs s.w hh (by simpa using hfit) hone
      simp only [Nat.add_zero] at hst
      rw [hst,f2]; rfl
theorem zn {z:Value} {n:Nat}:Builtin.zeroCells z.cells n = (aY (List.replicate n z)).toArray:=by
  have key:∀ n,(aY (List.replicate n z)).length = n * z.cells.size:=fun n=>by
    rw [cX (sz:=z.cells.size) (fun i h=>by simp)]; simp
  apply Array.ext
  · simp [Builtin.zeroCells,key]
  · intro q h1 h2
    have hq:q < n * z.cells.size:=by simpa [Builtin.zeroCells] using h1
    obtain ⟨i,j,hi,hj,rfl⟩:=mD hq
    have:=fO (us:=List.replicate n z) (sz:=z.cells.size) (fun i h=>by simp) i j (by simpa using hi) (by simpa using hj)
    have hmod:(i * z.cells.size + j) % z.cells.size = j:=by rw [Nat.mul_comm,Nat.mul_add_mod]; exact Nat.mod_eq_of_lt hj
    have h3:(aY (List.replicate n z))[i * z.cells.size + j]'(by simpa using h2) = z.cells[j]:=by
      have h4:i * z.cells.size + j < (aY (List.replicate n z)).length:=by simpa using h2
      rw [List.getElem?_eq_getElem h4] at this
      simpa using Option.some.inj this
    simp [Builtin.zeroCells,hmod,hj,h3]
theorem xu (hi:Inv A s) {t e:TypeId} (ht:P.underlying t = some (.slice e)) {i:TypeInfo} (hinf:P.info? e = some i) {zv:Value} (hzv:i.zero = some zv) {sz:Nat} (hzs:zv.cells.size = sz) {z:ab} (hz:aV z zv = true)
    {xv:ab} {c:Value} (hx:Rv s xv c) {ty:TypeId} (h:Ap sz s.h z xv K):au P A s K Kp ((do pure (Next.value (← Builtin.clear_ #[t] ty #[c])):Sem Next).run P s.w):=by
  cases xv with
  | sref sz' b off len n=>
    obtain ⟨rfl,hcl,hsc,h⟩:=h
    cases hb:s.h.get b with
    | arr sz'' xs=>
      rw [hb] at h
      obtain ⟨rfl,hn,hK⟩:=h
      have hbs:=ag.get_some hb (by simp)
      have hrz:Rv s z zv:=fw hz
      have hone:∀ u ∈ aY (List.replicate len zv),u.oneCell' = true:=by
        intro u hu
        have:∀ n,u ∈ aY (List.replicate n zv) → u ∈ zv.cells.toList:=by
          intro n
          induction n with
          | zero=>intro h; simp [aY] at h
          | succ n ih=>
            intro h
            simp only [List.replicate_succ,aY,List.mem_append] at h
            exact h.elim id ih
        exact mj hrz hcl hsc u (this _ hu)
      obtain ⟨a,cap,s',rfl,f1,i2,g2,r2,q1,q2⟩:=va (P:=P) hi hbs hn hx (ys:=List.replicate len z) (ws:=List.replicate len zv) (by simp) (fun i h1 h2=>by simpa using hrz) (fun i h2=>by simpa using hzs) hone (by simp)
      have hrun:(Builtin.clear_ #[t] ty #[.slice a len cap]).run P s.w = .ok (.tuple #[]) s'.w:=by
        cases a with
        | none=>
          obtain ⟨e1,_,e2⟩:=q1 rfl
          simp [Builtin.clear_,run_underlying ht,e1]
        | some ad=>
          have hst:=q2 ad rfl
          cases len with
          | zero=>simp [aY,storeCells] at hst; simp [Builtin.clear_,run_underlying ht,hst]
          | succ len=>
            have:(Builtin.zeroCells zv.cells (len + 1)).toList = aY (List.replicate (len + 1) zv):=by rw [zn]
            simp [Builtin.clear_,run_underlying ht,zeroValue,typeInfo,hinf,hzv,this,hst]
      refine au.value (aq _ _ _ _ hrun) rfl i2 g2 (v:=.tup []) (.tup [] #[] rfl (fun j h=>by simp at h)) ?_
      rw [f1]
      simpa using hK
    | _=>rw [hb] at h; exact h.elim
  | _=>exact h.elim
theorem B5 {us:List Value} {u:Value} (h:u ∈ aY us):∃ i, ∃ h:i < us.length,u ∈ us[i].cells.toList:=by
  induction us with
  | nil=>simp [aY] at h
  | cons x r ih=>
    rcases List.mem_append.1 h with h | h
    · exact ⟨0,by simp,h⟩
    · obtain ⟨i,h1,h2⟩:=ih h; exact ⟨i + 1,by simpa using h1,by simpa using h2⟩
theorem zw (hi:Inv A s) {t tx e _e':TypeId} (ht:P.underlying t = some (.slice e)) {sz:Nat} (hsz:P.cellsOf e = sz) (hinf:(P.info? e).isSome = true)
    {xv yv:ab} {c d:Value} (hx:Rv s xv c) (hy:Rv s yv d) (ho:yv.ib s.h sz) (hf:Fits sz (yv.elems s.h)) {ty:TypeId} (h:Dj sz s.h xv (yv.elems s.h) K) :
    au P A s K Kp ((do pure (Next.value (← Builtin.copy_ #[t,tx] ty #[c,d])):Sem Next).run P s.w):=by
  obtain ⟨ya,ycap,ws,rfl,hwl,hwr,hwz,hwm⟩:=vw hi hy ho
  generalize hys:yv.elems s.h = ys at *
  cases xv with
  | sref sz' b off len n=>
    obtain ⟨rfl,h⟩:=h
    cases hb:s.h.get b with
    | arr sz'' xs=>
      rw [hb] at h
      obtain ⟨rfl,hn,hK⟩:=h
      have hbs:=ag.get_some hb (by simp)
      have hm:(ys.take len).length = min ys.length len:=by simp; omega
      have hz':∀ i (h2:i < (ws.take len).length),(ws.take len)[i].cells.size = sz'':=fun i h2=>by
        simp only [List.getElem_take]; exact hwz _ _
      obtain ⟨a,cap,s',rfl,f1,i2,g2,r2,q1,q2⟩:=va (P:=P) hi hbs hn hx (ys:=ys.take len) (ws:=ws.take len) (by simp [hwl]) (fun i h1 h2=>by
          simp only [List.getElem_take]; exact hwr _ _ _) hz'
        (fun u hu=>by
          obtain ⟨i,h1,h2⟩:=B5 hu
          simp only [List.getElem_take] at h2
          have h3:i < ws.length:=by simp at h1; omega
          exact yB (hwr i (by omega) h3) (hf _ (List.getElem_mem _)) u h2) (by simp; omega)
      have hfc:(Builtin.firstCells sz'' (min ys.length len) (.slice ya ys.length ycap)).run P s.w = .ok (aY (ws.take len)).toArray s.w:=by
        rcases hwm with h0 | ⟨blk,o,rfl,hc⟩
        · have hw0:ws = []:=List.eq_nil_of_length_eq_zero (by omega)
          subst hw0
          rw [h0]
          simp only [List.take_nil,aY,Nat.zero_min]
          cases ya with
          | none=>exact run_firstCells_none s.w sz'' 0 0 ycap
          | some ad=>exact run_firstCells_some s.w sz'' 0 ad 0 ycap [] (by simp) (fun j u h=>by simp at h)
        · refine run_firstCells_some s.w sz'' _ _ _ ycap _ (by rw [cX hz',List.length_take,hwl,Nat.min_comm]) (fun q u hq=>?_)
          have hlt:q < (ws.take len).length * sz'':=by
            rw [← cX hz']
            rcases Nat.lt_or_ge q (aY (ws.take len)).length with h' | h'
            · exact h'
            · rw [List.getElem?_eq_none h'] at hq; cases hq
          obtain ⟨i,j,h1,h2,rfl⟩:=mD hlt
          have hj:j < (ws.take len)[i].cells.size:=by rw [hz' i h1]; exact h2
          rw [fO hz' i j h1 hj] at hq
          rw [← Option.some.inj hq,addr_add, ← Nat.add_assoc]
          have h3:i < ws.length:=by simp at h1; omega
          have hj':j < ws[i].cells.size:=by rw [hwz i h3]; exact h2
          have:=hc i j h3 hj'
          simpa using this
      have hrun:(Builtin.copy_ #[t,tx] ty #[.slice a len cap, .slice ya ys.length ycap]).run P s.w = .ok (goInt (min ys.length len:Nat)) s'.w:=by
        have hmin:Nat.min ys.length len = min ys.length len:=rfl
        cases a with
        | none=>
          obtain ⟨e1,_,e2⟩:=q1 rfl
          simp [Builtin.copy_,run_underlying ht,aR hinf,hsz,Builtin.lenOf,hmin,hfc,e1]
        | some ad=>
          have hst:=q2 ad rfl
          simp [Builtin.copy_,run_underlying ht,aR hinf,hsz,Builtin.lenOf,hmin,hfc,hst]
      refine au.value (aq _ _ _ _ hrun) rfl i2 g2 (v:=.int .i64 (min ys.length len:Nat)) (.int _ _) ?_
      rw [f1,hm]
      exact hK
    | _=>rw [hb] at h; exact h.elim
  | _=>exact h.elim
theorem Inv.s9 (hi:Inv A s) {b:Nat} (hb:s.h[b]? = some .hole) {sz:Nat} {C:Array Value} (el:TypeId) (cap:Nat) (hC:C.size = cap * sz) :
    ∃ s',s'.h = s.h.set b (.spare sz 0) ∧ s'.w = s.w.alloc (.cells C el) ∧ Inv A s' ∧ bK s s' ∧ s'.lam b 0 = some (.slice (some ⟨s.w.heap.size,0,none⟩) 0 cap):=by
  have hblt:b < s.h.length:=(List.getElem?_eq_some_iff.1 hb).1
  have hl:∀ k,s.lam b k = none:=hi.obj b _ hb
  let c:Value:=.slice (some ⟨s.w.heap.size,0,none⟩) 0 cap
  let s':St:={ h:=s.h.set b (.spare sz 0),lam:=bm s.lam b 0 c,S:=s.S,w:=s.w.alloc (.cells C el) }
  have hk:bg s s':=⟨ba (hl 0),fun _ _ h=>h,fun blk o hs=>World.cell?_alloc_lt _ _ (a:=⟨blk,o,none⟩) (hi.scell blk o hs)⟩
  have hnew:s'.w.heap[s.w.heap.size]? = some (.cells C el (0,0)):=by show (s.w.heap.push _)[s.w.heap.size]? = _; simp
  have hgo:=hi.change (s':=s') hblt rfl hk (hi.below.alloc hi.below.size _) (by simp [s']) (fun b' k hne=>aw (.inl hne))
    (fun blk hlt _=>Below.heap_alloc _ _ _ hlt)
    ⟨fun k' hk'=>(aw (.inr (by omega))).trans (hl k'),_,0,cap,aD _ _ _ _,Nat.zero_le _,fun hlt=>⟨s.w.heap.size,0,C,el,rfl,hi.below.size,hnew,by omega,fun o _ hs=>by have:=hi.scell _ _ hs; omega⟩⟩
    (fun blk ho=>by
      obtain ⟨off,len,cap',e,hlt⟩:=ho
      have e':bm s.lam b 0 c b 0 = _:=e
      simp [c] at e'
      left; omega)
    (fun blk x h=>.inl h) (fun blk x h=>by have:=hi.scell _ _ h; simp [s']; omega)
  exact ⟨s',rfl,rfl,hgo.1,hgo.2,aD _ _ _ _⟩
theorem y8 (hi:Inv A s) {t e:TypeId} (ht:P.underlying t = some (.slice e)) {i:TypeInfo} (hinf:P.info? e = some i) {zv:Value} (hzv:i.zero = some zv) {m sz bytes:Nat} (hsz:i.size = sz) (hby:i.bytes = bytes) (hzs:zv.cells.size = sz)
    {z:ab} (hz:aV z zv = true) {nv cv:ab} {c d:Value} (hn:Rv s nv c) (hc:Rv s cv d) (i1:isInt nv) (i2:isInt cv) (h:CL m sz bytes s.h z (ck nv) (ck cv) K) :
    au P A s K Kp ((do pure (Next.value (← Instr.makeSlice t c d)):Sem Next).run P s.w):=by
  subst hsz; subst hby
  obtain ⟨kn,rfl,_⟩:=cE hn i1
  obtain ⟨kc,rfl,_⟩:=cE hc i2
  generalize ck nv = n at *
  generalize ck cv = cp at *
  obtain ⟨h0,h1,h2,h3,hK⟩:=h
  have hrz:Rv s z zv:=fw hz
  have hrun:=run_make s.w t e i zv ht hinf hzv kn kc n cp h0 h1 (by rw [Int.mul_comm]; omega) (by omega)
  have hC:(madeCells zv.cells (cp.toNat * i.size)).size = cp.toNat * i.size:=by simp [madeCells]
  have he:dX s i.size (List.replicate n.toNat z) (List.replicate n.toNat zv) (madeCells zv.cells (cp.toNat * i.size)):=by
    refine ⟨by simp,fun j g1 g2=>⟨by simpa using hrz,by simpa using hzs⟩,fun p j g2 gj=>?_⟩
    simp only [List.getElem_replicate] at gj ⊢
    have hp:p < cp.toNat:=by simp at g2; omega
    have hlt:p * i.size + j < cp.toNat * i.size:=dI hp (by omega)
    have hmod:(p * i.size + j) % zv.cells.size = j:=by rw [hzs,Nat.mul_comm,Nat.mul_add_mod]; exact Nat.mod_eq_of_lt (by omega)
    simp [madeCells,hlt,hmod,gj]
  by_cases m1:m = 1
  · rw [if_pos m1] at hK
    obtain ⟨hn0,hK⟩:=hK
    subst hn0
    obtain ⟨s1,e1,e2,j1,g1,d1⟩:=hi.one
    obtain ⟨s2,f1,f2,j2,g2,k2⟩:=j1.s9 d1 e cp.toNat hC
    rw [e2] at k2
    refine au.value (aq _ _ _ _ hrun) (f2.trans (by rw [e2])) j2 (g1.trans g2) (v:=.oslice i.size [] s.h.length 0) (.oslice _ _ _ _ _ (.slice0 _ _ _) k2) ?_
    rw [f1,e1,bO]; exact hK
  · rw [if_neg m1] at hK
    by_cases m2:m = 2
    · rw [if_pos m2] at hK
      obtain ⟨s2,a1,a2,j2,g2,d2⟩:=hi.one
      have he2:dX s2 i.size (List.replicate n.toNat z) (List.replicate n.toNat zv) (madeCells zv.cells (cp.toNat * i.size)):=⟨he.len,fun i h1 h2=>⟨(he.rv i h1 h2).1.keeps g2.keeps,(he.rv i h1 h2).2⟩,he.cell⟩
      obtain ⟨s3,b1,b2,j3,g3,r3⟩:=j2.oV d2 e cp.toNat (by simp; omega) hC he2
      rw [List.length_replicate,a2] at r3
      refine au.value (aq _ _ _ _ hrun) (by rw [b2,a2]) j3 (g2.trans g3) r3 ?_
      rw [b1,a1,bO]; exact hK
    · rw [if_neg m2] at hK
      obtain ⟨s1,e1,e2,e3,j1,g1,r1,_⟩:=hi.DT e cp.toNat (by simp; omega) he
      rw [List.length_replicate] at r1
      exact au.value (aq _ _ _ _ hrun) e3 j1 g1 r1 (by rw [e1]; exact hK.2)
/-! ### The runes of a string -/
theorem xF (hi:Inv A s) {t:TypeId} (ht:P.underlying t = some .string) {xv:ab} {c:Value} (hx:Rv s xv c) (h:vS s.h xv K):au P A s K Kp ((do pure (Next.value (← Instr.range t c)):Sem Next).run P s.w):=by
  cases xv with
  | str y=>
    cases hx
    simp only [vS] at h
    obtain ⟨s1,e1,e2,i1,g1,d1⟩:=hi.one
    have hl:∀ k,s1.lam s.h.length k = none:=i1.obj _ _ d1
    let s':St:={ h:=s1.h.set s.h.length (.siter y 0),lam:=bm s1.lam s.h.length 0 (.pointer (some ⟨s1.w.heap.size,0,none⟩)),S:=s1.S,w:=s1.w.alloc (.stringIter y 0) }
    have hk:bg s1 s':=⟨ba (hl 0),fun _ _ h=>h,fun blk o hs=>World.cell?_alloc_lt _ _ (a:=⟨blk,o,none⟩) (i1.scell blk o hs)⟩
    have hnew:s'.w.heap[s1.w.heap.size]? = some (.stringIter y 0):=World.alloc_heap_new _ _
    have hgo:=i1.change (s':=s') (List.getElem?_eq_some_iff.1 d1).1 rfl hk (i1.below.alloc i1.below.size _) (by simp [s']) (fun b' k hne=>aw (.inl hne))
      (fun blk hlt _=>Below.heap_alloc _ _ _ hlt)
      ⟨s1.w.heap.size,aD _ _ _ _,i1.below.size,hnew,fun o hs=>by have:=i1.scell _ _ hs; omega⟩
      (fun blk ho=>by
        have e:bm s1.lam s.h.length 0 (.pointer (some ⟨s1.w.heap.size,0,none⟩)) s.h.length 0 = some (.pointer (some ⟨blk,0,none⟩)):=ho
        simp at e; left; omega)
      (fun blk x h=>.inl h) (fun blk x h=>by have:=i1.scell _ _ h; simp [s']; omega)
    have hrun:(Instr.range t (.string y)).run P s.w = .ok (.pointer (some ⟨s.w.heap.size,0,none⟩)) (s.w.alloc (.stringIter y 0)):=by
      simp [Instr.range,run_underlying ht]
    refine au.value (aq _ _ _ _ hrun) (s':=s') (by show s1.w.alloc _ = _; rw [e2]) hgo.1 (g1.trans hgo.2) (v:=.iter s.h.length) (.iter _ _ (by rw [← e2]; exact aD _ _ _ _)) ?_
    show K _ (s1.h.set _ _)
    rw [e1,bO]; exact h
  | _=>exact h.elim
theorem zY (hi:Inv A s) {xv:ab} {c:Value} (hx:Rv s xv c) {ty:TypeId} (h:Br s.h xv K):au P A s K Kp ((do pure (Next.value (← Instr.next c true ty)):Sem Next).run P s.w):=by
  cases xv with
  | iter b=>
    simp only [Br] at h
    cases hb:s.h.get b with
    | siter y pos=>
      rw [hb] at h
      simp only at h
      have hbs:=ag.get_some hb (by simp)
      obtain ⟨blk,hl,hB,hh,hnS⟩:=hi.obj b _ hbs
      cases hx with
      | iter _ blk' hl'=>
        have:blk' = blk:=by rw [hl] at hl'; simpa using hl'.symm
        subst this
        have hblk:blk' < s.w.heap.size:=(Array.getElem?_eq_some_iff.1 hh).1
        have hget:(getObj blk').run P s.w = .ok (.stringIter y pos) s.w:=by simp [getObj,Sem.run,hh]
        by_cases hc:pos < y.size
        · rw [if_pos hc] at h
          have hown:cV s b (.siter y pos) blk':=hl
          let s1:St:={ h:=s.h.set b (.siter y (pos + (Utf8.decode y pos).2)),lam:=s.lam,S:=s.S,w:=s.w.putObj blk' (.stringIter y (pos + (Utf8.decode y pos).2)) }
          have hk:bg s s1:=⟨fun _ _ _ h=>h,fun _ _ h=>h,fun g o hs=>World.cell?_of_block (a:=⟨g,o,none⟩) (World.putObj_heap_other (fun e=>hnS o (e ▸ hs)))⟩
          have hgo:=hi.change (s':=s1) (List.getElem?_eq_some_iff.1 hbs).1 rfl hk (hi.below.trans ⟨rfl,rfl,rfl,by simp [s1],fun g hg=>World.putObj_heap_other (by omega)⟩) (by simp [s1]) (fun _ _ _=>rfl)
            (fun g _ hno=>World.putObj_heap_other (fun e=>hno (e ▸ ⟨_,hbs,hown⟩)))
            ⟨blk',hl,hB,World.putObj_heap_same hblk,hnS⟩
            (fun g ho=>by
              have e:s.lam b 0 = some (.pointer (some ⟨g,0,none⟩)):=ho
              rw [hl] at e
              right
              have:blk' = g:=by simpa using e
              rw [← this]; exact ⟨_,hbs,hown⟩)
            (fun _ _ h=>.inl h) (fun g x h=>by have:=hi.scell _ _ h; simp [s1]; omega)
          have hset:(setObj blk' (.stringIter y (pos + (Utf8.decode y pos).2))).run P s.w = .ok () s1.w:=by simp [setObj,Sem.run,hh,World.putObj,s1]
          have hrun:(Instr.next (.pointer (some ⟨blk',0,none⟩)) true ty).run P s.w = .ok (.tuple #[.bool true,goInt pos, .int .i32 (Utf8.decode y pos).1]) s1.w:=by
            simp [Instr.next,hget,hc,hset]
          refine au.value (aq _ _ _ _ hrun) (s':=s1) rfl hgo.1 hgo.2 (.tup _ _ rfl (fun j g1 g2=>?_)) h
          match j,g1 with
          | 0,_=>exact .bool _
          | 1,_=>exact .int _ _
          | 2,_=>exact .int _ _
        · rw [if_neg hc] at h
          have hrun:(Instr.next (.pointer (some ⟨blk',0,none⟩)) true ty).run P s.w = .ok (.tuple #[.bool false]) s.w:=by
            simp [Instr.next,hget,hc]
          refine au.value (aq _ _ _ _ hrun) rfl hi (.refl s) (.tup _ _ rfl (fun j g1 g2=>?_)) h
          match j,g1 with
          | 0,_=>exact .bool _
    | _=>rw [hb] at h; exact h.elim
  | _=>exact h.elim
end
open Go.RowKit
section
variable {P:Program} {s:St} {A:World} {ρ:aG → ab} {ρ':Operand → Value} {K Kp:ab → ag → Prop}
theorem wZ (hi:Inv A s) (ha:fM s ρ ρ') {t:TypeId} {z:List ab} {ps:List (Nat × Nat × aG)} {parts:Array (Nat × Operand)}
    (hz:fA P t (z.map ab.jo) = true) (ht:mG P t = true) (hp:gZ P t ps parts.toList = true) (ho:gu (cK z s.h.length).1.length ρ ps)
    (h:K (.agg (o7 (cK z s.h.length).1 (ps.map fun p=>(p.1,(ρ p.2.2).cells)))) (s.h ++ (cK z s.h.length).2)) :
    au P A s K Kp ((do pure (Next.value (← Instr.build t (parts.map fun x=>(x.1,ρ' x.2)))):Sem Next).run P s.w):=by
  unfold fA at hz
  cases hinfo:P.info? t with
  | none=>simp [hinfo] at hz
  | some i=>
    cases hzero:i.zero with
    | none=>simp [hinfo,hzero] at hz
    | some v=>
      simp only [hinfo,Option.bind_some,hzero] at hz
      obtain ⟨s1,a1,a2,a3,a4,a5,a6⟩:=hi.yT hz
      have hrow:Row s1 (cK z s.h.length).1 v.cells:=⟨by simpa using a5.symm,fun j h1 h2=>by
        have:=a6 j h1 (by simpa using h2)
        simpa using this⟩
      obtain ⟨c,e1,e2⟩:=oS (P:=P) (ha.keeps a4.keeps) ⟨v,by simp [zeroValue,typeInfo,hinfo,hzero],hrow⟩ ht hp ho
      refine au.value (aq _ _ _ _ (a2 ▸ e1)) rfl a3 a4 e2 ?_
      rw [a1]; exact h
theorem wo (hi:Inv A s) {t:TypeId} {sz:Nat} (ht:P.cellsOf t = 1) (hinf:(P.info? t).isSome = true) {a:ab} {c:Value} (hac:Rv s a c)
    (ho:ia (s.h ++ [.spare sz 0]) 1 (.oslice sz [] s.h.length 0) a) (h:K .undef (jZ (s.h ++ [.spare sz 0]) (.oslice sz [] s.h.length 0) a)) :
    au P A s K Kp ((do Instr.storeAt t c (.slice none 0 0); pure Next.skip:Sem Next).run P s.w):=by
  obtain ⟨s1,e1,e2,i1,g1,d1⟩:=hi.one
  obtain ⟨s2,f1,f2,i2,g2,k2,_⟩:=i1.fE d1 sz none 0
  have h2:s2.h = s.h ++ [.spare sz 0]:=by rw [f1,e1]; exact bO _ _ _
  have hw:s2.w = s.w:=f2.trans e2
  rw [← h2] at ho h
  rw [← hw]
  exact au.from (g1.trans g2) (lM i2 ht hinf (hac.keeps (g1.trans g2).keeps) (.oslice _ _ _ _ _ (.slice0 sz _ _) k2) ho h)
theorem Inv.sY (hi:Inv A s) {b:Nat} {cs cs':List ab} (hb:s.h[b]? = some (.box cs)) (hl:cs'.length = cs.length)
    (hr:∀ (vs:Array Value),vs.size = cs.length → (∀ j (h1:j < cs.length) (h2:j < vs.size),Rv s cs[j] vs[j]) → (∃ blk el,s.lam b 0 = some (.pointer (some ⟨blk,0,none⟩)) ∧ s.w.heap[blk]? = some (.cells vs el (0,0))) → ∀ j (h1:j < cs'.length) (h2:j < vs.size),Rv s cs'[j] vs[j]) :
    ∃ s',s'.h = s.h.set b (.box cs') ∧ s'.w = s.w ∧ Inv A s' ∧ bK s s':=by
  have hblt:b < s.h.length:=(List.getElem?_eq_some_iff.1 hb).1
  obtain ⟨blk,vs,el,hlam,hB,hh,hsz,hrv,hnS⟩:=hi.obj b _ hb
  have hown:cV s b (.box cs) blk:=hlam
  let s':St:={ h:=s.h.set b (.box cs'),lam:=s.lam,S:=s.S,w:=s.w }
  have hk:bg s s':=⟨fun _ _ _ h=>h,fun _ _ h=>h,fun _ _ _=>rfl⟩
  have hrv':=hr vs hsz hrv ⟨blk,el,hlam,hh⟩
  have hgo:=hi.change (s':=s') hblt rfl hk hi.below (Nat.le_refl _) (fun _ _ _=>rfl) (fun _ _ _=>rfl)
    ⟨blk,vs,el,hlam,hB,hh,by omega,fun j h1 h2=>(hrv' j h1 h2).keeps hk,hnS⟩
    (fun g ho=>by
      have e:s.lam b 0 = some (.pointer (some ⟨g,0,none⟩)):=ho
      rw [hlam] at e
      have:blk = g:=by simpa using e
      right; rw [← this]; exact ⟨_,hb,hown⟩)
    (fun _ _ h=>.inl h) hi.scell
  exact ⟨s',rfl,rfl,hgo.1,hgo.2⟩
theorem Inv.yA (hi:Inv A s) {b b' off o len n sz:Nat} {cs xs:List ab} (hb:s.h[b]? = some (.box cs)) (hc:cs[off]? = some (.sref sz b' o len n)) (hb':s.h[b']? = some (.arr sz xs)) (hn:xs.length = n) :
    ∃ s',s'.h = (s.h.set b' .dead).set b (.box (cs.set off (.slice sz ((xs.drop o).take len)))) ∧ s'.w = s.w ∧ Inv A s' ∧ bK s s':=by
  obtain ⟨hoff,hc⟩:=List.getElem?_eq_some_iff.1 hc
  have hne:b' ≠ b:=fun e=>by subst e; rw [hb] at hb'; cases hb'
  obtain ⟨blk,vs,el,hlam,hB,hh,hsz,hrv,hnS⟩:=hi.obj b _ hb
  have h0:=hrv off hoff (by omega)
  rw [hc] at h0
  obtain ⟨s1,e1,e2,i1,g1,r1⟩:=hi.nX hb' h0 hn
  have hb1:s1.h[b]? = some (.box cs):=by rw [e1,List.getElem?_set_ne hne]; exact hb
  obtain ⟨s2,f1,f2,i2,g2⟩:=i1.sY hb1 (cs':=cs.set off (.slice sz ((xs.drop o).take len))) (by simp) fun vs2 hs2 hr2 ⟨blk2,el2,hl2,hh2⟩ j h1 h2=>by
    have hlam1:=g1.keeps.lam _ _ _ hlam
    rw [hlam1] at hl2
    have:blk2 = blk:=by simpa using hl2.symm
    subst this
    rw [e2,hh] at hh2
    have:vs2 = vs:=by simp at hh2; exact hh2.1.symm
    subst this
    by_cases hj:off = j
    · subst hj
      simpa using r1
    · rw [List.getElem_set_ne hj]
      exact hr2 j (by simpa using h1) h2
  exact ⟨s2,by rw [f1,e1],f2.trans e2,i2,g1.trans g2⟩
theorem Inv.zU (hi:Inv A s) {b sz:Nat} {xs xs':List ab} (hb:s.h[b]? = some (.arr sz xs)) (hl:xs'.length = xs.length)
    (hr:∀ (us:List Value),us.length = xs.length → (∀ i (h1:i < xs.length) (h2:i < us.length),Rv s xs[i] us[i] ∧ us[i].cells.size = sz) →
      (∃ blk cap vs el,s.lam b xs.length = some (.slice (some ⟨blk,0,none⟩) xs.length cap) ∧ s.w.heap[blk]? = some (.cells vs el (0,0)) ∧ ∀ i j (h2:i < us.length) (hj:j < us[i].cells.size),vs[i * sz + j]? = some us[i].cells[j]) →
      ∀ i (h1:i < xs'.length) (h2:i < us.length),Rv s xs'[i] us[i]) :
    ∃ s',s'.h = s.h.set b (.arr sz xs') ∧ s'.w = s.w ∧ Inv A s' ∧ bK s s':=by
  have hblt:b < s.h.length:=(List.getElem?_eq_some_iff.1 hb).1
  have hobj:=hi.obj b _ hb
  let s':St:={ h:=s.h.set b (.arr sz xs'),lam:=s.lam,S:=s.S,w:=s.w }
  have hk:bg s s':=⟨fun _ _ _ h=>h,fun _ _ h=>h,fun _ _ _=>rfl⟩
  have hgo:=hi.change (s':=s') hblt rfl hk hi.below (Nat.le_refl _) (fun _ _ _=>rfl) (fun _ _ _=>rfl)
    (by
      refine ⟨fun k hk'=>hobj.1 k (by omega), ?_⟩
      rcases hobj.2 with ⟨hx,ha⟩ | ⟨blk,cap,vs,el,us,h0,hlam,hB,hh,hsz,hc,hu,hrv,hvs,hnS⟩
      · subst hx
        exact .inl ⟨List.eq_nil_of_length_eq_zero hl,ha⟩
      · refine .inr ⟨blk,cap,vs,el,us,h0,by rw [hl]; exact hlam,hB,hh,hsz,by omega,by omega,fun i h1 h2=>⟨?_,(hrv i (by omega) h2).2⟩,hvs,hnS⟩
        exact (hr us hu hrv ⟨blk,cap,vs,el,hlam,hh,hvs⟩ i h1 h2).keeps hk)
    (fun g ho=>by
      obtain ⟨cap,h1,h2⟩:=ho
      right
      rw [hl] at h2
      exact ⟨_,hb,cap,h1,h2⟩)
    (fun _ _ h=>.inl h) hi.scell
  exact ⟨s',rfl,rfl,hgo.1,hgo.2⟩
theorem Inv.xO (hi:Inv A s) {b b' i off o len n esz sz:Nat} {xs ys cs:List ab} (hb:s.h[b]? = some (.arr esz xs)) (hx:xs[i]? = some (.agg cs)) (hc:cs[off]? = some (.sref sz b' o len n))
    (hb':s.h[b']? = some (.arr sz ys)) (hn:ys.length = n) (hne:b' ≠ b) :
    ∃ s',s'.h = (s.h.set b' .dead).set b (.arr esz (xs.set i (.agg (cs.set off (.slice sz ((ys.drop o).take len)))))) ∧ s'.w = s.w ∧ Inv A s' ∧ bK s s':=by
  obtain ⟨hil,hx⟩:=List.getElem?_eq_some_iff.1 hx
  obtain ⟨hoff,hc⟩:=List.getElem?_eq_some_iff.1 hc
  rcases (hi.obj b _ hb).2 with ⟨h0,_⟩ | ⟨blk,cap,vs,el,us,h0,hlam,hB,hh,hsz,hcp,hu,hrv,hvs,hnS⟩
  · subst h0; simp at hil
  have hui:i < us.length:=by omega
  have r0:=hrv i hil hui
  rw [hx] at r0
  obtain ⟨vs0,e0,hvl,hvr⟩:=r0.1.fR
  have hoff':off < vs0.size:=by omega
  have r1:=hvr off hoff hoff'
  rw [hc] at r1
  obtain ⟨s1,e1,e2,i1,g1,r2⟩:=hi.nX hb' r1 hn
  have hb1:s1.h[b]? = some (.arr esz xs):=by rw [e1,List.getElem?_set_ne hne]; exact hb
  obtain ⟨s2,f1,f2,i2,g2⟩:=i1.zU hb1 (xs':=xs.set i (.agg (cs.set off (.slice sz ((ys.drop o).take len))))) (by simp) fun us2 hu2 hr2 ⟨blk2,cap2,vs2,el2,hl2,hh2,hv2⟩ j h1 h2=>by
    have hlam1:=g1.keeps.lam _ _ _ hlam
    rw [hlam1] at hl2
    have:blk2 = blk:=by simp at hl2; exact hl2.1.symm
    subst this
    rw [e2,hh] at hh2
    have:vs2 = vs:=by simp at hh2; exact hh2.1.symm
    subst this
    have h1':j < xs.length:=by simpa using h1
    by_cases hj:i = j
    · subst hj
      have r3:=hr2 i h1' h2
      rw [hx] at r3
      obtain ⟨vs3,e3,hvl3,hvr3⟩:=r3.1.fR
      have hsame:vs3 = vs0:=by
        apply Array.ext (by omega)
        intro k k1 k2
        have a1:=hvs i k hui (by rw [e0]; exact k2)
        have a2:=hv2 i k h2 (by rw [e3]; exact k1)
        rw [a1] at a2
        have a3:=Option.some.inj a2
        simp only [e0,e3,Value.cells] at a3
        exact a3.symm
      simp only [List.getElem_set_self]
      rw [e3,hsame]
      refine .agg _ _ (by simp; omega) fun k k1 k2=>?_
      have k1':k < cs.length:=by simpa using k1
      by_cases hk:off = k
      · subst hk
        simp only [List.getElem_set_self]
        exact r2
      · simp only [List.getElem_set_ne hk]
        have:=hvr3 k k1' (by omega)
        simpa [hsame] using this
    · simp only [List.getElem_set_ne hj]
      exact (hr2 j h1' h2).1
  exact ⟨s2,by rw [f1,e1],f2.trans e2,i2,g1.trans g2⟩
theorem oK:∀ {l:List ab},kj l = true → ∀ j (h:j < l.length),l[j].fh = true
  | v :: r,h,0,_=>by simp only [kj,Bool.and_eq_true] at h; exact h.1
  | v :: r,h,j + 1,hj=>by simp only [kj,Bool.and_eq_true] at h; simpa using oK h.2 j (by simpa using hj)
theorem zN (hi:Inv A s) {t e:TypeId} {n sz:Nat} (ht:P.underlying t = some (.array n e)) (he:P.cellsOf e = 1) (hinf:(P.info? e).isSome = true)
    {xv:ab} {c:Value} (hx:Rv s xv c) (h:AS n sz s.h xv K):au P A s K Kp ((do pure (Next.value (← Instr.sliceAt t c none none none)):Sem Next).run P s.w):=by
  unfold AS at h
  split at h
  · rename_i b
    cases hb:s.h.get b with
    | box cs=>
      rw [hb] at h
      obtain ⟨rfl,hn,hs,hk⟩:=h
      obtain ⟨s',e1,e2,i',g',r1,_⟩:=hi.tI (ag.get_some hb (by simp)) hx
      cases r1 with
      | pval _ u blk off hv hm=>
        obtain ⟨vs,rfl,hvl,hvr⟩:=hv.fR
        have off0:off = 0:=by cases hx; rfl
        subst off0
        have hsz:=aR (P:=P) hinf s.w
        rw [he] at hsz
        have hrun:(Instr.sliceAt t (.pointer (some ⟨blk,0,none⟩)) none none none).run P s.w = .ok (.slice (some ⟨blk,0,none⟩) n n) s.w:=by
          unfold Instr.sliceAt
          simp only [Sem.run_bind,an ht,Result.andThen_ok]
          by_cases hn0:n = 0
          · simp [Instr.sureAddr,Instr.sliceBounds,hsz,hn0]
          · simp [Instr.sureAddr,Instr.sliceBounds,hsz,hn0,addr_add]
        have hsc:∀ j (hj:j < vs.size),vs[j].cells = #[vs[j]]:=fun j hj=>dx (hvr j (by omega) hj) (oK hs j (by omega))
        refine au.value (aq _ _ _ _ hrun) e2 i' g' ?_ (by rw [e1]; exact hk)
        have hvn:vs.size = n:=by omega
        refine Rv.slice 1 cs blk 0 n n vs.toList (by simpa using hvl) (by omega) (Nat.le_refl _) (fun i h1 h2=>by have:=hvr i h1 (by simpa using h2); simpa using this) (fun i h2=>?_)
        have h2':i < vs.size:=by simpa using h2
        refine ⟨by simp [hsc i h2'],fun j hj=>?_⟩
        have hj0:j = 0:=by simp [hsc i h2'] at hj; exact hj
        subst hj0
        have:=hm i h2'
        simp only [Nat.zero_add,Nat.mul_one,Nat.add_zero] at this ⊢
        refine ⟨this.1,this.2.trans ?_⟩
        simp [Value.cells] at *
        simp [hsc i h2']
    | _=>rw [hb] at h; exact h.elim
  · exact h.elim
theorem Inv.D6 (hi:Inv A s) {b:Nat} (hb:s.h[b]? = some .hole) :
    ∃ s',s'.h = s.h.set b (.bld 0 []) ∧ s'.w = s.w.alloc (.cells #[.pointer none, .slice none 0 0] rf.1) ∧ Inv A s' ∧ bK s s' ∧ Rv s' (.ptr b 0) (.pointer (some ⟨s.w.heap.size,0,none⟩)):=by
  have hblt:b < s.h.length:=(List.getElem?_eq_some_iff.1 hb).1
  have hl:∀ k,s.lam b k = none:=hi.obj b _ hb
  let s':St:={ h:=s.h.set b (.bld 0 []),lam:=bm (bm s.lam b 0 (.pointer (some ⟨s.w.heap.size,0,none⟩))) b 1 (.slice none 0 0),S:=s.S,w:=s.w.alloc (.cells #[.pointer none, .slice none 0 0] rf.1) }
  have h1:s'.lam b 0 = some (.pointer (some ⟨s.w.heap.size,0,none⟩)):=(aw (.inr (by omega))).trans (aD _ _ _ _)
  have h2:s'.lam b 1 = some (.slice none 0 0):=aD _ _ _ _
  have hk:bg s s':=⟨fun b' k u hu=>ba ((aw (.inr (by omega))).trans (hl 1)) _ _ _ (ba (hl 0) _ _ _ hu),fun _ _ h=>h,fun blk o hs=>World.cell?_alloc_lt _ _ (a:=⟨blk,o,none⟩) (hi.scell blk o hs)⟩
  have hnew:s'.w.heap[s.w.heap.size]? = some (.cells #[.pointer none, .slice none 0 0] rf.1 (0,0)):=by show (s.w.heap.push _)[s.w.heap.size]? = _; simp
  have hgo:=hi.change (s':=s') hblt rfl hk (hi.below.alloc hi.below.size _) (by simp [s']) (fun b' k hne=>(aw (.inl hne)).trans (aw (.inl hne)))
    (fun blk hlt _=>Below.heap_alloc _ _ _ hlt)
    ⟨fun k' hk'=>(aw (.inr (by omega))).trans ((aw (.inr (by omega))).trans (hl k')),s.w.heap.size, .slice none 0 0,h1,h2,⟨hi.below.size,⟨_, .inl rfl,hnew⟩,⟨rfl, .inl ⟨rfl,rfl⟩⟩,by simp [Value.ownBlock]⟩,fun o hs=>by have:=hi.scell _ _ hs; omega,fun g e=>by simp [Value.ownBlock] at e⟩
    (fun blk ho=>by
      rcases ho with e | ⟨v,e1,e2⟩
      · rw [h1] at e; simp at e; left; omega
      · rw [h2] at e1
        have:=Option.some.inj e1
        subst this
        simp [Value.ownBlock] at e2)
    (fun blk x h=>.inl h) (fun blk x h=>by have:=hi.scell _ _ h; simp [s']; omega)
  exact ⟨s',rfl,rfl,hgo.1,hgo.2, .ptr b 0 _ h1⟩
theorem wh (hi:Inv A s) {t:TypeId} (ht:t = rf.1) (hz:fA P t [.nilptr, .slice 1 []] = true) (h:K (.ptr s.h.length 0) (s.h ++ [.bld 0 []])) :
    au P A s K Kp ((do pure (Next.value (← Instr.alloc t true (.tuple #[]))):Sem Next).run P s.w):=by
  unfold fA at hz
  cases hinfo:P.info? t with
  | none=>simp [hinfo] at hz
  | some i=>
    cases hzero:i.zero with
    | none=>simp [hinfo,hzero] at hz
    | some v=>
      simp only [hinfo,Option.bind_some,hzero] at hz
      have hv:v.cells = #[.pointer none, .slice none 0 0]:=by
        generalize v.cells = cs at hz ⊢
        obtain ⟨l⟩:=cs
        match l,hz with
        | [a,c],hz=>
          simp only [b6,Bool.and_eq_true] at hz
          obtain ⟨h1,h2,_⟩:=hz
          have e1:a = .pointer none:=by
            cases a with
            | pointer p=>cases p <;> simp [aV] at h1 ⊢
            | _=>simp [aV] at h1
          have e2:c = .slice none 0 0:=by
            cases c with
            | slice p l cap=>cases p <;> simp [aV] at h2; obtain ⟨rfl,rfl⟩:=h2; rfl
            | _=>simp [aV] at h2
          rw [e1,e2]
        | [],hz=>simp [b6] at hz
        | [_],hz=>simp [b6] at hz
        | _ :: _ :: _ :: _,hz=>simp [b6] at hz
      obtain ⟨s1,e1,e2,i1,g1,d1⟩:=hi.one
      obtain ⟨s2,f1,f2,i2,g2,r2⟩:=i1.D6 d1
      have hrun:(Instr.alloc t true (.tuple #[])).run P s.w = .ok (.pointer (some ⟨s.w.heap.size,0,none⟩)) (s.w.alloc (.cells v.cells t)):=by
        simp [Instr.alloc,zeroValue,typeInfo,hinfo,hzero,newVar,newRow]
      refine au.value (aq _ _ _ _ hrun) (f2.trans ?_) i2 (g1.trans g2) (v:=.ptr s.h.length 0) ?_ ?_
      · rw [e2,hv,ht]
      · rw [e2] at r2; exact r2
      · rw [f1,e1,bO]; exact h
end
end Go.AM
