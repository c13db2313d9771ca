/- The instructions that leave the abstract heap alone: each computes what the operation does. The instructions that leave the abstract heap alone, all of them: what the operation computes is what the instruction says. A part of a slice, of a string: the bounds. -/
import Derived.Test.YtcdfnopkemadjaaGreatDoorP2
namespace Go.AM
open Go.RowKit
section run
variable {P:Program} {s:St} {A:World} {ρ:ay → aa} {ρ':Operand → Value}
theorem wo {a b c:Bool} (h:(a && b && c) = true):a = true ∧ b = true ∧ c = true:=by simp only [Bool.and_eq_true] at h; exact ⟨h.1.1,h.1.2,h.2⟩
theorem dC (ha:dP s ρ ρ'):∀ {l:List ay} {m:List Operand},dh l m = true → (l.map ρ).length = (m.map ρ').length ∧ ∀ j (h1:j < (l.map ρ).length) (h2:j < (m.map ρ').length),Rv s (l.map ρ)[j] (m.map ρ')[j]
 | [],[],_=>⟨rfl,fun j h1 _=>by simp at h1⟩
 | a :: r,b :: t,h=>by
  simp only [dh,Bool.and_eq_true] at h;obtain ⟨h1,h2⟩:=dC ha h.2;refine ⟨by simpa using h1,fun j g1 g2=>?_⟩
  cases j with
  | zero=>exact ha a b h.1
  | succ j=>have:=h2 j (by simpa using g1) (by simpa using g2); simpa using this
 | [],_ :: _,h=>by simp [dh] at h
 | _ :: _,[],h=>by simp [dh] at h
theorem gA {t:TypeId} {k:Option Nat} {blk off:Nat} {v:aa} {u:Value} (hk:kOk P t k = true) (hv:Rv s v u)
  (hs:match k with | none=>v.cP = true | some n=>u.cells.size = n ∧ ∃ vs,u = .agg vs)
  (hm:∀ j (hj:j < u.cells.size),s.w.cell? ⟨blk,off + j,none⟩ = some u.cells[j]):(loadVar t ⟨blk,off,none⟩).run P s.w = .ok u s.w:=by
 unfold loadVar;unfold kOk at hk
 cases k with
 | none=>
  have h1:ea (P.underlying t) = some false:=by
   cases h:ea (P.underlying t) with
   | none=>simp [h] at hk
   | some b=>cases b <;> simp [h] at hk ⊢
  have hc:=bT hv hs;have h0:=hm 0 (by rw [hc]; simp);simp only [Nat.add_zero] at h0;have h2:u.cells[0]'(by rw [hc]; simp) = u:=by simp [hc]
  rw [h2] at h0;simp [Sem.run_bind,lO h1,h0]
 | some n=>
  obtain ⟨hn,vs,rfl⟩:=hs;have h1:ea (P.underlying t) = some true ∧ P.cellsOf t = n ∧ (P.info? t).isSome = true:=by
   cases h:ea (P.underlying t) with
   | none=>simp [h] at hk
   | some b=>cases b <;> simp [h] at hk ⊢; exact hk
  have hl:=run_loadCells_list (P:=P) s.w ⟨blk,off,none⟩ vs.toList (fun j v hj=>by
   have hj':j < vs.size:=by
    rcases Nat.lt_or_ge j vs.size with h | h
    ·exact h
    ·simp [Array.getElem?_eq_none h] at hj
   have:=hm j hj';rw [addr_add,this]
   simpa [Value.cells,Array.getElem?_eq_getElem hj'] using hj)
  simp only [Value.cells] at hn;have hlen:vs.toList.length = n:=by simpa using hn
  rw [hlen] at hl;simp [Sem.run_bind,nn h1.1,aG h1.2.2,h1.2.1,hl]
theorem qb {t:TypeId} (h:kOk P t none = true):ea (P.underlying t) = some false:=by
 unfold kOk at h
 cases h':ea (P.underlying t) with
 | none=>simp [h'] at h
 | some b=>cases b <;> simp [h'] at h ⊢
theorem k9 {t:TypeId} {n:Nat} (h:kOk P t (some n) = true):ea (P.underlying t) = some true ∧ P.cellsOf t = n ∧ (P.info? t).isSome = true:=by
 unfold kOk at h
 cases h':ea (P.underlying t) with
 | none=>simp [h'] at h
 | some b=>cases b <;> simp [h'] at h ⊢; exact h
theorem kV {t:TypeId} {k:Option Nat} (h:kOk P t k = true):(P.info? t).isSome = true:=by
 cases k with
 | some n=>exact (k9 h).2.2
 | none=>
  unfold kOk at h
  cases h':ea (P.underlying t) with
  | none=>simp [h'] at h
  | some b=>cases b <;> simp [h'] at h; exact h
theorem mG {t : TypeId} {k : Option Nat} (hk : kOk P t k = true) {cs : List aa} {off blk o : Nat} {vs : Array Value} (hl : vs.size = cs.length)
  (h:∀ j (h1:j < cs.length) (h2:j < vs.size),Rv s cs[j] vs[j]) (ho:b7 k cs off)
  (hm:∀ j (hj:j < vs.size),s.w.cell? ⟨blk,o + j,none⟩ = some vs[j]) :
  ∃ u,(loadVar t ⟨blk,o + off,none⟩).run P s.w = .ok u s.w ∧ Rv s (eO k cs off) u:=by
 obtain ⟨u,hu,hsh⟩:=mf hl h ho;refine ⟨u,gA hk hu ?_ ?_,hu⟩
 ·cases k with
  | none=>exact ho.2
  | some n=>simp only at hsh; subst hsh; simp only [b7] at ho; refine ⟨?_,_,rfl⟩; simp [Value.cells]; omega
 ·intro j hj
  cases k with
  | none=>
   simp only at hsh;have hc:=bT hu ho.2
   have hj0 : j = 0 := by have : u.cells.size = 1 := by rw [hc]; rfl
                          omega
   subst hj0;have h2:u.cells[0]'(by rw [hc]; simp) = u:=by simp [hc]
   obtain ⟨hlt,he⟩:=Array.getElem?_eq_some_iff.1 hsh;rw [h2,Nat.add_zero,hm off hlt,he]
  | some n=>
   simp only at hsh;subst hsh;simp only [b7] at ho;simp only [Value.cells,Array.size_extract] at hj;have:=hm (off + j) (by omega);rw [Nat.add_assoc,this];simp [Value.cells]
theorem ab.get_some {σ:ab} {b:Nat} {o:bO} (h:σ.get b = o) (hne:o ≠ .dead):σ[b]? = some o:=by
 unfold ab.get at h
 cases e:σ[b]? with
 | none=>simp [List.getD,e] at h; exact absurd h.symm hne
 | some x=>simp [List.getD,e] at h; rw [h]
theorem Rv.cells {v:aa} {c:Value} (h:Rv s v c) (hf:v.uZ = true) :
  c.cells.size = v.cells.length ∧ ∀ j (g1:j < v.cells.length) (g2:j < c.cells.size),Rv s v.cells[j] c.cells[j]:=by
 have hscal:v.cP = true → v.cells = [v] → c.cells.size = v.cells.length ∧ ∀ j (g1:j < v.cells.length) (g2:j < c.cells.size),Rv s v.cells[j] c.cells[j]:=by
  intro hs hv;have hc:=bT h hs;have hj:c.cells.size = 1:=by rw [hc]; rfl
  refine ⟨by rw [hj,hv]; rfl,fun j g1 g2=>?_⟩;have:j = 0:=by omega
  subst this;have e1:v.cells[0] = v:=by simp [hv]
  have e2:c.cells[0] = c:=by simp [hc]
  rw [e1,e2]; exact h
 cases v with
 | agg cs=>obtain ⟨vs,rfl,h1,h2⟩:=h.dw; exact ⟨h1,h2⟩
 | _=>first | exact hscal hf rfl | (simp [aa.uZ,aa.cP] at hf)
theorem iz (hi:Inv A s) {t:TypeId} {k:Option Nat} (hk:kOk P t k = true) {v:aa} {c:Value} (hv:Rv s v c) (ho:cB k s.h v) :
  ∃ u,(Instr.loadAt t c).run P s.w = .ok u s.w ∧ Rv s (fU k s.h v) u:=by
 unfold Instr.loadAt
 cases v with
 | pval v=>
  cases hv with
  | pval _ u blk off hv hm=>
   refine ⟨u, ?_,hv⟩;simp only [Instr.sureAddr,Sem.run_bind,Sem.run_pure,Result.andThen_ok];refine gA hk hv ?_ (fun j hj=>(hm j hj).2)
   cases k with
   | none=>exact ho
   | some n=>
    simp only [cB] at ho
    cases v with
    | agg cs=>
     obtain ⟨vs,rfl,hsz,_⟩:=hv.dw;exact ⟨by simp [Value.cells,hsz,ho],vs,rfl⟩
    | _=>exact ho.elim
 | ptr b off=>
  cases hv with
  | ptr _ _ blk hl=>
   simp only [cB] at ho
   cases hb:s.h.get b with
   | box cs=>
    rw [hb] at ho;obtain ⟨blk',vs,el,hl',_,hh,hsz,hr,_⟩:=hi.obj b _ (ab.get_some hb (by simp));have:blk' = blk:=by rw [hl] at hl'; simpa using hl'.symm
    subst this
    obtain ⟨u,h1,h2⟩:=mG (P:=P) (s:=s) (blk:=blk') (o:=0) hk hsz hr ho (fun j hj=>by
     simp [World.cell?,hh,hj])
    simp only [Nat.zero_add] at h1;refine ⟨u, ?_,by simpa [fU,hb] using h2⟩;simp [Instr.sureAddr,h1]
   | _=>rw [hb] at ho; exact ho.elim
 | eptr sz b i f n=>
  cases hv with
  | eptr _ _ _ _ _ blk cap hl=>
   simp only [cB] at ho
   cases hb:s.h.get b with
   | arr sz' xs=>
    rw [hb] at ho;obtain ⟨rfl,hn,hin,hfine,hp⟩:=ho;rcases (hi.obj b _ (ab.get_some hb (by simp))).2 with ⟨hx,_⟩ | ⟨blk',cap',vs,el,us,_,hl',_,hh,hsz,hc,hu,hr,hvs,_⟩
    ·subst hx; simp at hn; omega
    ·have:blk' = blk:=by rw [hn,hl] at hl'; simp at hl'; exact hl'.1.symm
     subst this;have h1:i < xs.length:=by omega
     have h2:i < us.length:=by omega
     obtain ⟨hri,hci⟩:=hr i h1 h2;have hx:xs.getD i .undef = xs[i]:=by simp [List.getD,List.getElem?_eq_getElem h1]
     rw [hx] at hp hfine;have hcells:=hri.cells hfine
     obtain ⟨u,h3,h4⟩:=mG (P:=P) (s:=s) (blk:=blk') (o:=i * sz') hk hcells.1 hcells.2 hp (fun j hj=>by
      have:=hvs i j h2 hj
      simp [World.cell?,hh,this])
     refine ⟨u, ?_,by simpa [fU,hb,List.getD,List.getElem?_eq_getElem h1] using h4⟩;simp [Instr.sureAddr,h3]
   | _=>rw [hb] at ho; exact ho.elim
 | _=>exact ho.elim
end run
open Go.RowKit
section run
variable {P:Program} {s:St} {A:World} {ρ:ay → aa} {ρ':Operand → Value}
theorem aj (x:Sem Value) (c:Value) (w w':World) (h:x.run P w = .ok c w'):(do pure (Next.value (← x)):Sem Next).run P w = .ok (.value c) w':=by
 simp [h]
theorem p8 {op:BinOp} {t:TypeId} {v u:aa} {c d:Value} (hv:Rv s v c) (hu:Rv s u d) (ho:mK op v u) (x y:Operand) :
  ∃ r,(do eqGuard op t x y c d; binOp op t c d:Sem Value).run P s.w = .ok r s.w ∧ Rv s (vI op v u) r:=by
 have hg:∀ (a b:Value),(∀ q,a ≠ .agg q) → a ≠ .nilIface → (eqGuard op t x y a b).run P s.w = .ok () s.w:=by
  intro a b h1 h2;unfold eqGuard;cases op <;> simp <;> (try (cases a <;> first | rfl | exact absurd rfl (h1 _) | exact absurd rfl h2))
 cases v with
 | int j a=>
  cases u with
  | int k b=>
   cases hv; cases hu;rw [Sem.run_bind,hg _ _ (by simp) (by simp),Result.andThen_ok];simp only [mK] at ho;cases op <;> simp only [jE] at ho <;> (try subst ho) <;> (try (obtain ⟨rfl,h0⟩:=ho)) <;>
    simp [binOp,Op.intArith,Op.intDiv,Op.intBits,Op.shift,Op.intCmp,vI,arith,IJ,Hh, *] <;> (try (rw [if_neg (by omega)])) <;> (try simp) <;> first | exact .int _ _ | exact .bool _ | skip
  | _=>exact ho.elim
 | str a=>
  cases u with
  | str b=>
   cases hv; cases hu;rw [Sem.run_bind,hg _ _ (by simp) (by simp),Result.andThen_ok];simp only [mK] at ho;cases op <;> simp only [kz] at ho <;>
    simp [binOp,Op.stringOp,vI,zK] <;> first | exact .bool _ | skip
   rw [if_neg (by simpa using ho)];simp; exact .str _
  | _=>exact ho.elim
 | _=>exact ho.elim
theorem rp {op:UnOp} {v:aa} {c:Value} (hv:Rv s v c) (ho:uG op v):∃ r,(Op.unary op c).run P s.w = .ok r s.w ∧ Rv s (unV op v) r:=by
 cases v with
 | bool b=>cases hv; cases op <;> simp only [uG] at ho <;> exact ⟨_,rfl, .bool _⟩
 | int k n=>
  cases hv;cases op <;> simp only [uG] at ho
  ·exact ⟨_,rfl, .int _ _⟩
  ·exact ⟨_,rfl, .int _ _⟩
 | _=>exact ho.elim
theorem bq {v:aa} {c:Value} (h:Rv s v c) (hi:isInt v):∃ k,c = .int k (aP v) ∧ v = .int k (aP v):=by
 cases v with
 | int k n=>cases h; exact ⟨k,rfl,rfl⟩
 | _=>exact hi.elim
theorem iY {k : Option Nat} {off : Nat} {v : aa} {c : Value} (hv : Rv s v c) (ho : eG k off v) :
  ∃ blk o,c = .pointer (some ⟨blk,o,none⟩) ∧ Rv s (eo k off v) (.pointer (some ⟨blk,o + off,none⟩)):=by
 cases v with
 | pval v=>
  cases v with
  | agg cs=>
   cases hv with
   | pval _ u blk o hv hm=>
    obtain ⟨vs,rfl,hsz,hr⟩:=hv.dw;obtain ⟨u,hu,hsh⟩:=mf hsz hr ho;refine ⟨blk,o,rfl, .pval _ u _ _ hu (fun j hj=>?_)⟩
    cases k with
    | none=>
     simp only at hsh;have hc:=bT hu ho.2
     have hj0 : j = 0 := by have : u.cells.size = 1 := by rw [hc]; rfl
                            omega
     subst hj0;have h2:u.cells[0]'(by rw [hc]; simp) = u:=by simp [hc]
     obtain ⟨hlt,he⟩:=Array.getElem?_eq_some_iff.1 hsh;have:=hm off hlt;rw [h2,Nat.add_zero];simpa [Value.cells,he] using this
    | some n=>
     simp only at hsh;subst hsh;simp only [Value.cells,Array.size_extract] at hj;have:=hm (off + j) (by simp only [Value.cells]; omega);rw [Nat.add_assoc];simpa [Value.cells] using this
  | _=>exact ho.elim
 | ptr b o=>
  cases hv with
  | ptr _ _ blk hl=>exact ⟨blk,o,rfl, .ptr b (o + off) blk hl⟩
 | eptr sz b i f n=>
  cases hv with
  | eptr _ _ _ _ _ blk cap hl=>
   refine ⟨blk,_,rfl, ?_⟩;rw [Nat.add_assoc]; exact .eptr sz b i (f + off) n blk cap hl
 | _=>exact ho.elim
theorem fh {t:TypeId} {k:Option Nat} (hk:kOk P t k = true) {cs:List aa} {off:Nat} {vs:Array Value} (hl:vs.size = cs.length)
  (h:∀ j (h1:j < cs.length) (h2:j < vs.size),Rv s cs[j] vs[j]) (ho:b7 k cs off):∃ u,(part t vs off).run P s.w = .ok u s.w ∧ Rv s (eO k cs off) u:=by
 obtain ⟨u,hu,hsh⟩:=mf hl h ho;refine ⟨u, ?_,hu⟩;unfold part
 cases k with
 | none=>simp only at hsh; simp [lO (qb hk),hsh]
 | some n=>obtain ⟨h1,h2,h3⟩:=k9 hk; simp only at hsh; subst hsh; simp [nn h1,aG h3,h2]
theorem mE {t:TypeId} {k:Option Nat} (hk:kOk P t k = true) {v:aa} {c:Value} {off:Nat} (hv:Rv s v c) (ho:pa k off v) :
  ∃ vs u,c = .agg vs ∧ (part t vs off).run P s.w = .ok u s.w ∧ Rv s (wQ k off v) u:=by
 cases v with
 | agg cs=>
  obtain ⟨vs,rfl,hsz,hr⟩:=hv.dw;obtain ⟨u,h1,h2⟩:=fh hk hsz hr ho;exact ⟨vs,u,rfl,h1,h2⟩
 | _=>exact ho.elim
theorem Rv.bL {sz:Nat} {xs:List aa} {c:Value} (h:Rv s (.slice sz xs) c):∃ a cap,c = .slice a xs.length cap ∧ (xs = [] ∨ ∃ (blk off:Nat) (us:List Value),a = some ⟨blk,off,none⟩ ∧ us.length = xs.length ∧ xs.length ≤ cap ∧
  (∀ i (h1:i < xs.length) (h2:i < us.length),Rv s xs[i] us[i]) ∧ ∀ i (h2:i < us.length),us[i].cells.size = sz ∧ jH s blk (off + i * sz) us[i]):=by
 cases h with
 | slice0 _ a cap=>exact ⟨a,cap,rfl, .inl rfl⟩
 | slice _ _ blk off len cap us hl hn hc hr hm=>subst hn; exact ⟨_,cap,rfl, .inr ⟨blk,off,us,rfl,hl,hc,hr,hm⟩⟩
theorem qQ {v:aa} {c:Value} (hv:Rv s v c) (ho:so v):∃ a n cap,c = .slice a n cap ∧ Ij v = .int .i64 n:=by
 cases v with
 | nils sz=>cases hv; exact ⟨_,_,_,rfl,rfl⟩
 | slice sz xs=>obtain ⟨a,cap,rfl,_⟩:=hv.bL; exact ⟨_,_,_,rfl,rfl⟩
 | oslice sz xs b k=>cases hv with | oslice _ _ _ _ _ hs hl=>obtain ⟨a,cap,rfl,_⟩:=hs.bL; exact ⟨_,_,_,rfl,rfl⟩
 | sref sz b off len n=>
  cases hv with
  | sref _ _ _ _ _ blk cap hl h1 h2=>exact ⟨_,_,_,rfl,rfl⟩
  | sref0=>exact ⟨_,_,_,rfl,rfl⟩
  | srefE=>exact ⟨_,_,_,rfl,rfl⟩
 | _=>exact ho.elim
theorem uD {sz:Nat} {n:Int} {v:aa} {c:Value} (hv:Rv s v c) (ho:sh sz n v) :
  ∃ blk off len cap,c = .slice (some ⟨blk,off,none⟩) len cap ∧ 0 ≤ n ∧ n < len ∧ Rv s (G9 n v) (.pointer (some ⟨blk,off + n.toNat * sz,none⟩)):=by
 have core:∀ {xs:List aa} {c:Value},Rv s (.slice sz xs) c → 0 ≤ n → n < xs.length → ∃ blk off len cap,c = .slice (some ⟨blk,off,none⟩) len cap ∧ 0 ≤ n ∧ n < len ∧
   Rv s (.pval (xs.getD n.toNat .undef)) (.pointer (some ⟨blk,off + n.toNat * sz,none⟩)):=by
  intro xs c hv h0 h1;obtain ⟨a,cap,rfl,h | ⟨blk,off,us,rfl,hl,hc,hr,hm⟩⟩:=hv.bL
  ·subst h; simp at h1; omega
  ·have h2:n.toNat < xs.length:=by omega
   have h3:n.toNat < us.length:=by omega
   refine ⟨blk,off,_,cap,rfl,h0,h1, .pval _ us[n.toNat] _ _ ?_ (hm _ h3).2⟩;have:=hr _ h2 h3;simpa [List.getD,List.getElem?_eq_getElem h2] using this
 cases v with
 | slice sz' xs=>obtain ⟨rfl,h0,h1⟩:=ho; exact core hv h0 h1
 | oslice sz' xs b k=>obtain ⟨rfl,h0,h1⟩:=ho; cases hv with | oslice _ _ _ _ _ hs hl=>exact core hs h0 h1
 | sref sz' b off len m=>
  obtain ⟨rfl,h0,h1⟩:=ho
  cases hv with
  | sref _ _ _ _ _ blk cap hl g1 g2=>
   refine ⟨blk,off * sz',len,cap - off,rfl,h0,h1, ?_⟩;have:=Rv.eptr (s:=s) sz' b (off + n.toNat) 0 m blk cap hl;rw [Nat.add_mul,Nat.add_zero] at this;exact this
  | sref0=>simp at h1; omega
  | srefE=>simp at h1; omega
 | _=>exact ho.elim
theorem fM (f:aa → aa → aa) (g:Value → Value → Sem Value)
  (hfg:∀ (x y:aa) (c d:Value),Rv s x c → Rv s y d → isInt x → isInt y → isInt (f x y) ∧ ∃ r,(g c d).run P s.w = .ok r s.w ∧ Rv s (f x y) r) :
  ∀ (l:List aa) (m:List Value) (x:aa) (c:Value),l.length = m.length → (∀ j (h1:j < l.length) (h2:j < m.length),Rv s l[j] m[j]) → kL l → Rv s x c → isInt x →
   ∃ r,(m.foldlM g c).run P s.w = .ok r s.w ∧ Rv s (l.foldl f x) r
 | [],[],x,c,_,_,_,hx,_=>⟨c,rfl,hx⟩
 | a :: l,b :: m,x,c,hl,h,ha,hx,hxi=>by
  obtain ⟨h1,r,h2,h3⟩:=hfg x a c b hx (h 0 (by simp) (by simp)) hxi ha.1;obtain ⟨r',h4,h5⟩:=fM f g hfg l m (f x a) r (by simpa using hl) (fun j g1 g2=>by have:=h (j + 1) (by simpa using g1) (by simpa using g2); simpa using this) ha.2 h3 h1;exact ⟨r',by simp [List.foldlM,h2,h4],h5⟩
 | [],_ :: _,_,_,hl,_,_,_,_=>by simp at hl
 | _ :: _,[],_,_,hl,_,_,_,_=>by simp at hl
theorem qV (x y:aa) (c d:Value) (hx:Rv s x c) (hy:Rv s y d) (h1:isInt x) (h2:isInt y):isInt (F9 x y) ∧ ∃ r,(Builtin.max2 c d).run P s.w = .ok r s.w ∧ Rv s (F9 x y) r:=by
 obtain ⟨k,rfl,e1⟩:=bq hx h1;obtain ⟨j,rfl,e2⟩:=bq hy h2;rw [e1,e2];refine ⟨trivial,_,rfl, ?_⟩;simp only [F9,aP]; exact .int _ _
theorem qD (x y:aa) (c d:Value) (hx:Rv s x c) (hy:Rv s y d) (h1:isInt x) (h2:isInt y):isInt (w6 x y) ∧ ∃ r,(Builtin.min2 c d).run P s.w = .ok r s.w ∧ Rv s (w6 x y) r:=by
 obtain ⟨k,rfl,e1⟩:=bq hx h1;obtain ⟨j,rfl,e2⟩:=bq hy h2;rw [e1,e2];refine ⟨trivial,_,rfl, ?_⟩;simp only [w6,aP]; exact .int _ _
end run
section
variable {P:Program} {s:St} {A:World} {ρ:ay → aa} {ρ':Operand → Value}
theorem ew {x:Value} {k:IntKind} {n:Int} {y:Nat} {code:BoundsCode} {w:World} (hx:x = .int k n) (h0:0 ≤ n) (h1:n ≤ y):(Instr.sliceBound x y code).run P w = .ok n.toNat w:=by
 subst hx;simp [Instr.sliceBound,asIntOf,h0,h1]
theorem hO {x:Option ay} {y:Option Operand} (ha:dP s ρ ρ') (h:dk x y = true) (ho:b6 ρ x) (d:Int) :
  (x = none ∧ y = none ∧ aF ρ d x = d) ∨ ∃ x' y' k,x = some x' ∧ y = some y' ∧ ρ' y' = .int k (aF ρ d x):=by
 cases x with
 | none=>cases y <;> simp [dk] at h; exact .inl ⟨rfl,rfl,rfl⟩
 | some x'=>
  cases y with
  | none=>simp [dk] at h
  | some y'=>
   simp only [dk] at h;obtain ⟨k,e1,_⟩:=bq (ha _ _ h) ho;exact .inr ⟨x',y',k,rfl,rfl,e1⟩
theorem gl {lo hi mx:Option ay} {lo' hi' mx':Option Operand} (ha:dP s ρ ρ') (h1:dk lo lo' = true) (h2:dk hi hi' = true) (h3:dk mx mx' = true) (o1:b6 ρ lo) (o2:b6 ρ hi) (o3:b6 ρ mx)
  {len cap:Nat} {w:World} (g0:0 ≤ aF ρ 0 lo) (g1:aF ρ 0 lo ≤ aF ρ len hi) (g2:aF ρ len hi ≤ aF ρ cap mx) (g3:aF ρ cap mx ≤ cap) (hmx:mx.isSome = true → hi.isSome = true) :
  (Instr.sliceBounds true len cap (lo'.map ρ') (hi'.map ρ') (mx'.map ρ')).run P w = .ok ((aF ρ 0 lo).toNat,(aF ρ len hi).toNat,(aF ρ cap mx).toNat) w:=by
 have rlo:∀ h:Nat,aF ρ 0 lo ≤ h → ∀ code (p q:Nat) w,((match lo'.map ρ' with
   | some v=>do
    let l ← Instr.sliceBound v h code
    pure (l,p,q)
   | none=>do
    let l ← pure 0
    pure (l,p,q)):Sem (Nat × Nat × Nat)).run P w = .ok ((aF ρ 0 lo).toNat,p,q) w:=by
  intro h hle code p q w;rcases hO ha h1 o1 0 with ⟨rfl,rfl,e1⟩ | ⟨x1,y1,k1,rfl,rfl,e1⟩
  ·rfl
  ·simp only [Option.map_some,Sem.run_bind];rw [ew e1 g0 hle]; rfl
 rcases hO ha h3 o3 (cap:Int) with ⟨rfl,rfl,e3⟩ | ⟨x3,y3,k3,rfl,rfl,e3⟩
 ·rcases hO ha h2 o2 (len:Int) with ⟨rfl,rfl,e2⟩ | ⟨x2,y2,k2,rfl,rfl,e2⟩
  ·have:=rlo len (by rw [e2] at g1; exact g1) .sliceB len cap w;simp only [Instr.sliceBounds,Option.map_none,Sem.run_bind,Sem.run_pure,Result.andThen_ok,Option.isSome_none,Bool.false_eq_true,if_false,e2,e3,Int.toNat_natCast];exact this
  ·have hb:=ew (P:=P) (w:=w) (code:=.sliceAcap) e2 (Int.le_trans g0 g1) (by rw [e3] at g2; exact g2);have:=rlo (aF ρ (len:Int) (some x2)).toNat (by omega) .sliceB (aF ρ (len:Int) (some x2)).toNat cap w;simp only [Instr.sliceBounds,Option.map_none,Option.map_some,Sem.run_bind,Sem.run_pure,Result.andThen_ok,Option.isSome_none,Bool.false_eq_true,if_false,if_true,hb,e3,Int.toNat_natCast];exact this
 ·rcases hO ha h2 o2 (len:Int) with ⟨rfl,rfl,e2⟩ | ⟨x2,y2,k2,rfl,rfl,e2⟩
  ·simp at hmx
  ·have hc:=ew (P:=P) (w:=w) (code:=.slice3Acap) e3 (Int.le_trans g0 (Int.le_trans g1 g2)) g3;have hb:=ew (P:=P) (w:=w) (y:=(aF ρ (cap:Int) (some x3)).toNat) (code:=.slice3B) e2 (Int.le_trans g0 g1) (by omega);have:=rlo (aF ρ (len:Int) (some x2)).toNat (by omega) .slice3C (aF ρ (len:Int) (some x2)).toNat (aF ρ (cap:Int) (some x3)).toNat w;simp only [Instr.sliceBounds,Option.map_some,Sem.run_bind,Result.andThen_ok,Option.isSome_some,if_true,hc,hb];exact this
theorem fQ {t e:TypeId} (ht:P.underlying t = some (.slice e)) {sz:Nat} (hsz:P.cellsOf e = sz) (hinf:(P.info? e).isSome = true) {a:Option Addr} {len cap l h m:Nat} {x y z:Option Value} {w:World}
  (hb:(Instr.sliceBounds true len cap x y z).run P w = .ok (l,h,m) w):(Instr.slice t (.slice a len cap) x y z).run P w = .ok (.slice (if m = l then a else a.map (·.add (l * sz))) (h - l) (m - l)) w:=by
 simp only [Instr.slice,Sem.run_bind,ah ht,Result.andThen_ok,hb,aG hinf,hsz,Sem.run_pure]
theorem l0 {sz sz':Nat} {xs:List aa} {a:Option Addr} {cap l h:Nat} (hx:Rv s (.slice sz' xs) (.slice a xs.length cap)) (hz:sz' = sz ∨ xs = []) (h1:l ≤ h) (h2:h ≤ xs.length) {mm:Nat} (h3:h ≤ mm) :
  Rv s (.slice sz ((xs.take h).drop l)) (.slice (if mm = l then a else a.map (·.add (l * sz))) (h - l) (mm - l)):=by
 have hlen:((xs.take h).drop l).length = h - l:=by simp; omega
 by_cases he:h = l
 ·have:(xs.take h).drop l = []:=List.eq_nil_of_length_eq_zero (by rw [hlen]; omega);rw [this,show h - l = 0 by omega]; exact .slice0 _ _ _
 ·obtain ⟨a',cap',e1,hs⟩:=hx.bL;cases e1;rcases hs with rfl | ⟨blk,off,us,rfl,q1,q2,q3,q4⟩
  ·simp at h2; omega
  ·have hsz':sz' = sz:=hz.resolve_right (by intro e; subst e; simp at h2; omega);subst hsz';rw [if_neg (by omega)];simp only [Option.map_some,addr_add];refine .slice sz' _ blk (off + l * sz') _ _ ((us.take h).drop l) (by simp [q1]) hlen.symm (by omega) (fun i r1 r2=>?_) (fun i r2=>?_)
   ·have:=q3 (l + i) (by simp at r1; omega) (by simp at r2; omega);simpa using this
   ·have:=q4 (l + i) (by simp at r2; omega);simp only [List.getElem_drop,List.getElem_take];rw [show off + l * sz' + i * sz' = off + (l + i) * sz' by rw [Nat.add_mul]; omega];exact this
theorem ny {t e:TypeId} (ha:dP s ρ ρ') (ht:P.underlying t = some (.slice e)) {sz sz':Nat} (hsz:P.cellsOf e = sz) (hinf:(P.info? e).isSome = true) {xs:List aa} {c:Value} (hx:Rv s (.slice sz' xs) c) (hz:sz' = sz ∨ xs = [])
  {lo hi:Option ay} {lo' hi':Option Operand} (h1:dk lo lo' = true) (h2:dk hi hi' = true) (o1:b6 ρ lo) (o2:b6 ρ hi) (g0:0 ≤ aF ρ 0 lo) (g1:aF ρ 0 lo ≤ aF ρ xs.length hi) (g2:aF ρ xs.length hi ≤ xs.length) :
  ∃ r,(Instr.sliceAt t c (lo'.map ρ') (hi'.map ρ') none).run P s.w = .ok r s.w ∧ Rv s (.slice sz ((xs.take (aF ρ xs.length hi).toNat).drop (aF ρ 0 lo).toNat)) r:=by
 obtain ⟨a,cap,rfl,hs⟩:=hx.bL;have hcap:xs.length ≤ cap:=by
  rcases hs with rfl | ⟨_,_,_,_,_,hc,_⟩
  ·simp
  ·exact hc
 have hb:=gl (P:=P) (w:=s.w) (mx:=none) (mx':=none) (cap:=cap) (len:=xs.length) ha h1 h2 rfl o1 o2 trivial g0 g1 (by simp only [aF] at g2 ⊢; omega) (by simp only [aF]; omega) (by simp);have hrun:=fQ (a:=a) ht hsz hinf hb;refine ⟨_,by simpa [Instr.sliceAt,ah ht] using hrun,l0 hx hz (by omega) (by omega) ?_⟩;simp only [aF,Int.toNat_natCast]; simp only [aF] at g2; omega
theorem oV {lo hi:Option ay} {lo' hi':Option Operand} (ha:dP s ρ ρ') (h1:dk lo lo' = true) (h2:dk hi hi' = true) (o1:b6 ρ lo) (o2:b6 ρ hi)
  {len:Nat} {w:World} (g0:0 ≤ aF ρ 0 lo) (g1:aF ρ 0 lo ≤ aF ρ len hi) (g2:aF ρ len hi ≤ len) :
  (Instr.sliceBounds false len len (lo'.map ρ') (hi'.map ρ') none).run P w = .ok ((aF ρ 0 lo).toNat,(aF ρ len hi).toNat,len) w:=by
 have rlo:∀ h:Nat,aF ρ 0 lo ≤ h → ∀ code (p q:Nat) w,((match lo'.map ρ' with
   | some v=>do
    let l ← Instr.sliceBound v h code
    pure (l,p,q)
   | none=>do
    let l ← pure 0
    pure (l,p,q)):Sem (Nat × Nat × Nat)).run P w = .ok ((aF ρ 0 lo).toNat,p,q) w:=by
  intro h hle code p q w;rcases hO ha h1 o1 0 with ⟨rfl,rfl,e1⟩ | ⟨x1,y1,k1,rfl,rfl,e1⟩
  ·rfl
  ·simp only [Option.map_some,Sem.run_bind];rw [ew e1 g0 hle]; rfl
 rcases hO ha h2 o2 (len:Int) with ⟨rfl,rfl,e2⟩ | ⟨x2,y2,k2,rfl,rfl,e2⟩
 ·have:=rlo len (by rw [e2] at g1; exact g1) .sliceB len len w;simp only [Instr.sliceBounds,Option.map_none,Sem.run_bind,Sem.run_pure,Result.andThen_ok,Option.isSome_none,Bool.false_eq_true,if_false,e2,Int.toNat_natCast];exact this
 ·have hb:=ew (P:=P) (w:=w) (code:=.sliceAlen) e2 (Int.le_trans g0 g1) g2;have:=rlo (aF ρ (len:Int) (some x2)).toNat (by omega) .sliceB (aF ρ (len:Int) (some x2)).toNat len w;simp only [Instr.sliceBounds,Option.map_some,Sem.run_bind,Sem.run_pure,Result.andThen_ok,Option.isSome_none,Bool.false_eq_true,if_false,hb];exact this
end
end Go.AM
