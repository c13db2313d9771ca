/- A yard of waste closes just if it does with the papers and counts of each kind alone. Plain. Chapter 09: of the law: a yard with the papers and counts of one kind alone. Chapter 09: WasteRound, by contracts. -/
import Derived.Test.YtlmhkldmpggadaaGreatDoorP47
import Derived.Test.YtlmhkldmpggadaaGreatDoorP46
import Derived.Test.YtlmhkldmpggadaaGreatDoorP45
namespace Go.AM
theorem tq {k:Int} {all:List aj} {p:aj} {c:Nat} (h:p.copy = c):(db k all p).copy = (bw k all c:Nat):=EF.2 c h
theorem vy {k:Int} {all:List aj} {p:aj} (h:p.copy < 0):(db k all p).copy = p.copy:=EF.1 h
theorem o4 {y:ab} {k:Int} {a:Nat} (ha:a < y.papers.length) (hk:y.papers[a].kind = k):bM (bP y k) (bw k y.papers a) = bM y a:=by
 unfold bM;rw [oV ha hk,List.getElem?_eq_getElem ha];exact (gY k y.papers y.papers[a]).2.2.2
theorem nT {nm:ByteArray → Bool} {y:ab} (h:bJ nm y) (k:Int):bJ nm (bP y k):=by
 have hl:(bP y k).papers.length ≤ y.papers.length:=by
  unfold bP; dsimp only; rw [List.length_map]; exact List.length_filter_le _ _
 refine ⟨h.k4,h.p4,Nat.le_trans hl h.m10,Nat.le_trans (List.length_filter_le _ _) h.f8,Nat.le_trans (List.length_filter_le _ _) h.l8,h.kinds,h.places,⟨fun c hc=>?_,h.first.2.filter _⟩,fun c hc=>?_,⟨fun c hc=>?_,h.last.2.filter _⟩⟩
 ·have:=h.first.1 c (List.mem_filter.1 hc).1
  exact ⟨this.toEy,this.kind,this.place⟩
 ·obtain ⟨a,ha,hk,hr,he⟩:=Ba hc;rw [he];have hp:=h.papers a ha;obtain ⟨r1,r2,r3,r4⟩:=gY k y.papers y.papers[a];refine ⟨by rw [r1]; exact hp.kind,by rw [r2]; exact hp.src,by rw [r3]; exact hp.dst,by rw [r2,r3]; exact hp.ne,by rw [r4]; exact hp.kilos, ?_⟩;rcases sc h ha with hc' | ⟨cc,e,hcl,hne,_,e2,e3⟩
  ·exact .inl (by rw [vy (by omega)]; exact hc')
  ·have hkc:y.papers[cc].kind = k:=by rw [e3,hk]
   have h1:=tq (k:=k) (all:=y.papers) e;have hat:=oV (y:=y) (k:=k) hcl hkc;have hlt:=(List.getElem?_eq_some_iff.1 hat).1;refine .inr ⟨by rw [h1]; omega,by rw [h1]; omega,fun e4=>?_,db k y.papers y.papers[cc], ?_, ?_, ?_, ?_, ?_⟩
   ·rw [h1, ← hr] at e4;exact hne (CW hcl ha hkc hk (by omega))
   ·rw [h1];exact hat
   ·rw [tq (k:=k) (all:=y.papers) e2,hr]
   ·rw [(gY k y.papers y.papers[cc]).1,r1,e3]
   ·rw [(gY k y.papers y.papers[cc]).2.1,r2];rcases hp.copy with hx | ⟨_,_,_,q,hq,_,_,q6,q7⟩
    ·omega
    ·rw [show y.papers[a].copy.toNat = cc by omega,List.getElem?_eq_getElem hcl] at hq;rw [Option.some.inj hq,q6]
   ·rw [(gY k y.papers y.papers[cc]).2.2.1,r3];rcases hp.copy with hx | ⟨_,_,_,q,hq,_,_,q6,q7⟩
    ·omega
    ·rw [show y.papers[a].copy.toNat = cc by omega,List.getElem?_eq_getElem hcl] at hq;rw [Option.some.inj hq,q7]
 ·have:=h.last.1 c (List.mem_filter.1 hc).1;exact ⟨this.toEy,this.kind,this.place⟩
theorem tc {nm:ByteArray → Bool} {y:ab} (h:bJ nm y) {wrong:List Nat} {k:Int} {a:Nat} (ha:a < y.papers.length) (hk:y.papers[a].kind = k):cD (bP y k) (dp y k wrong) (bw k y.papers a) = cD y wrong a:=by
 have m:∀ b (hb:b < y.papers.length),y.papers[b].kind = k → mY (dp y k wrong) (bw k y.papers b) = mY wrong b:=fun b hb hkb=>by
  rw [Bool.eq_iff_iff,ix,ix]; exact uw hb hkb
 unfold cD;rw [oV ha hk,List.getElem?_eq_getElem ha];dsimp only;rcases sc h ha with hc | ⟨cc,e,hcl,hne,_,e2,e3⟩
 ·have d1:decide (((bw k y.papers a:Nat):Int) < -1) = false:=decide_eq_false (by omega);have d2:decide ((a:Int) < -1) = false:=decide_eq_false (by omega);rw [vy (by omega),hc];simp only [d1,d2,Bool.false_and]
 ·have hkc:y.papers[cc].kind = k:=by rw [e3,hk]
  rw [tq (k:=k) (all:=y.papers) e,e,(gY k y.papers y.papers[a]).2.2.2];simp only [Int.toNat_natCast];simp only [m a ha hk,m cc hcl hkc,o4 hcl hkc];have hiff:((bw k y.papers a:Nat):Int) < (bw k y.papers cc:Nat) ↔ (a:Int) < (cc:Nat):=by
   constructor
   ·intro hlt;rcases Nat.lt_trichotomy a cc with g | g | g
    ·omega
    ·subst g; omega
    ·have:=j9 hcl hkc g; omega
   ·intro hlt;have:=j9 ha hk (show a < cc by omega);omega
  rw [decide_eq_decide.2 hiff]
theorem Ge {nm:ByteArray → Bool} {y:ab} (h:bJ nm y) (wrong:List Nat) (k:Int):ba (bP y k) (dp y k wrong) k = ba y wrong k:=by
 unfold ba;refine qJ (db k y.papers) y.papers 0 0 fun j hj hk=>?_;rw [Nat.zero_add,Nat.zero_add];obtain ⟨r1,r2,r3,r4⟩:=gY k y.papers y.papers[j];have hlead:br (db k y.papers y.papers[j]) (bw k y.papers j) = br y.papers[j] j:=by
  unfold br;rcases sc h hj with hc | ⟨cc,e,hcl,hne,_,e2,e3⟩
  ·rw [vy (by omega),hc]; simp
  ·have hkc:y.papers[cc].kind = k:=by rw [e3,hk]
   rw [tq (k:=k) (all:=y.papers) e,e];have hiff:((bw k y.papers j:Nat):Int) < (bw k y.papers cc:Nat) ↔ (j:Int) < (cc:Nat):=by
    constructor
    ·intro hlt;rcases Nat.lt_trichotomy j cc with g | g | g
     ·omega
     ·subst g; omega
     ·have:=j9 hcl hkc g; omega
    ·intro hlt;have:=j9 hj hk (show j < cc by omega);omega
   have d1:decide (((bw k y.papers cc:Nat):Int) < 0) = false:=decide_eq_false (by omega);have d2:decide ((cc:Int) < 0) = false:=decide_eq_false (by omega);rw [decide_eq_decide.2 hiff,d1,d2]
 refine ⟨by rw [r1]; exact hk,r2,r3,hlead,fun hl=>?_⟩;have m:∀ b (hb:b < y.papers.length),y.papers[b].kind = k → (bw k y.papers b ∈ dp y k wrong ↔ b ∈ wrong):=fun b hb hkb=>uw hb hkb;rcases sc h hj with hc | ⟨cc,e,hcl,hne,_,e2,e3⟩
 ·rw [zc (by rw [vy (by omega)]; omega),zc (by omega),r4];simp only [m j hj hk]
 ·have hkc:y.papers[cc].kind = k:=by rw [e3,hk]
  have hlt:j < cc:=by
   unfold br at hl;rw [e] at hl;simp at hl; omega
  rw [zr (c:=bw k y.papers cc) (tq (k:=k) (all:=y.papers) e) (j9 hj hk hlt),zr (c:=cc) e hlt,o4 hj hk,o4 hcl hkc];simp only [m j hj hk,m cc hcl hkc]
theorem xi {y:ab} {k:Int} (n:Nat):∀ m,bR (bP y k) k n m = bR y k n m
 | 0=>rfl
 | m + 1=>by
  simp only [bR,xi n m,dh];have e1:∀ a:Int,aB (bP y k).first k a = aB y.first k a:=fun a=>uD _ _ _
  have e2:∀ a:Int,aB (bP y k).last k a = aB y.last k a:=fun a=>uD _ _ _;rw [e1,e2]
theorem wJ {nm:ByteArray → Bool} {y:ab} (h:bJ nm y) (wrong:List Nat) (k:Int):qp (bP y k) (dp y k wrong) k ↔ qp y wrong k:=by
 unfold qp;rw [Ge h];show (∃ f,bE (y.places.length + 2) (aW (bP y k) k y.places.length (ba y wrong k) (-aw) aw) f) ↔ _;unfold aW;rw [xi]
theorem BQ {nm:ByteArray → Bool} {y:ab} (h:bJ nm y) (wrong:List Nat) {k k':Int} (hne:k' ≠ k):qp (bP y k) (dp y k wrong) k':=by
 have hj:ba (bP y k) (dp y k wrong) k' = []:=by
  unfold ba;refine CL _ 0 fun p hp=>?_;unfold bP at hp;dsimp only at hp;obtain ⟨q,hq,rfl⟩:=List.mem_map.1 hp;have:=(List.mem_filter.1 hq).2;simp only [decide_eq_true_eq] at this;rw [(gY k y.papers q).1,this];exact Ne.symm hne
 unfold qp;rw [hj];have hz:=nT h k;rw [yA hz.ok hz.p4.2 (by simp) (by simp)];intro A;have e1:∀ a:Int,aB (bP y k).first k' a = none:=fun a=>uT hne
 have e2:∀ a:Int,aB (bP y k).last k' a = none:=fun a=>uT hne;have hs:∀ n,dL A n (fun _=>0) = 0:=fun n=>by
  unfold dL;rw [dK (h:=fun _=>0) n fun a _=>by split <;> rfl,eV]
 unfold dc bz fQ fR eO fb;simp only [e1,e2,loC,hiC,bO,hs];simp
theorem tJ {nm:ByteArray → Bool} {y:ab} (h:bJ nm y) (wrong:List Nat) (k:Nat) (hk:k < y.kinds.length) :
  aP (bP y k) (dp y k wrong) = true ↔ (∀ a (ha:a < y.papers.length),y.papers[a].kind = k → cD y wrong a = false) ∧ qp y wrong k:=by
 have hz:=nT h k;rw [iK hz];constructor
 ·rintro ⟨h1,h2⟩;refine ⟨fun a ha hka=>?_,(wJ h wrong k).1 (h2 k hk)⟩;rw [← tc h ha hka];exact h1 _ (List.getElem?_eq_some_iff.1 (oV (y:=y) ha hka)).1
 ·rintro ⟨h1,h2⟩;refine ⟨fun c hc=>?_,fun k' hk'=>?_⟩
  ·obtain ⟨a,ha,hka,hr,_⟩:=Ba hc;rw [← hr,tc h ha hka];exact h1 a ha hka
  ·by_cases e:(k':Int) = k
   ·rw [e]; exact (wJ h wrong k).2 h2
   ·exact BQ h wrong e
theorem GK {nm:ByteArray → Bool} {y:ab} (h:bJ nm y) (wrong:List Nat):aP y wrong = true ↔ ∀ k,k < y.kinds.length → aP (bP y k) (dp y k wrong) = true:=by
 rw [iK h];constructor
 ·rintro ⟨h1,h2⟩ k hk;exact (tJ h wrong k hk).2 ⟨fun a ha _=>h1 a ha,h2 k hk⟩
 ·intro hh;refine ⟨fun a ha=>?_,fun k hk=>((tJ h wrong k hk).1 (hh k hk)).2⟩;have hp:=(h.papers a ha).kind;have hk:(y.papers[a].kind.toNat:Int) = y.papers[a].kind:=by omega
  exact ((tJ h wrong y.papers[a].kind.toNat (by omega)).1 (hh _ (by omega))).1 a ha hk.symm
open Go.Proofs
set_option maxRecDepth 100000
set_option maxHeartbeats 4000000
abbrev jS (y:ab) (j:Nat):Int:=(y.papers.getD j ⟨0,0,0,0,0⟩).kind
theorem sN {y:ab} {j:Nat} (h:j < y.papers.length):jS y j = y.papers[j].kind:=by
 unfold jS; rw [List.getD_eq_getElem?_getD,List.getElem?_eq_getElem h]; rfl
def atL (y:ab) (k:Int) (i:Nat):List Int:=(List.range y.papers.length).map fun j=>if j < i ∧ jS y j = k then ((bw k y.papers j:Nat):Int) else 0
theorem zS (y:ab) (k:Int) (i:Nat):(atL y k i).length = y.papers.length:=by simp [atL]
theorem IX (y:ab) (k:Int):atL y k 0 = List.replicate y.papers.length 0:=by
 unfold atL;refine List.ext_getElem (by simp) fun j h1 h2=>?_;simp
theorem KM {y:ab} {k:Int} {i:Nat} (hk:jS y i = k):(atL y k i).set i ((bw k y.papers i:Nat):Int) = atL y k (i + 1):=by
 refine List.ext_getElem (by simp [atL]) fun j h1 h2=>?_;simp only [atL,List.getElem_set,List.getElem_map,List.getElem_range];by_cases e:i = j
 ·subst e; rw [if_pos rfl,if_pos ⟨by omega,hk⟩]
 ·rw [if_neg e];by_cases e2:j < i ∧ jS y j = k
  ·rw [if_pos e2,if_pos ⟨by omega,e2.2⟩]
  ·rw [if_neg e2,if_neg (fun x=>e2 ⟨by omega,x.2⟩)]
theorem IC {y:ab} {k:Int} {i:Nat} (hk:¬ jS y i = k):atL y k (i + 1) = atL y k i:=by
 unfold atL;refine List.map_congr_left fun j _=>?_;by_cases e:j < i ∧ jS y j = k
 ·rw [if_pos e,if_pos ⟨by omega,e.2⟩]
 ·rw [if_neg e,if_neg];rintro ⟨h1,h2⟩;rcases Nat.lt_or_ge j i with h | h
  ·exact e ⟨h,h2⟩
  ·obtain rfl:j = i:=by omega
   exact hk h2
theorem K1 {y:ab} {k:Int} {j:Nat} (hj:j < y.papers.length) (hk:jS y j = k):(atL y k y.papers.length)[j]'(by rw [zS]; exact hj) = ((bw k y.papers j:Nat):Int):=by
 simp only [atL,List.getElem_map,List.getElem_range];rw [if_pos ⟨hj,hk⟩]
def Ca (y:ab) (k:Int) (w:List Nat) (i:Nat):List Nat:=((List.range i).filter fun j=>decide (jS y j = k) && mY w j).map (bw k y.papers)
theorem IZ (y:ab) (k:Int) (w:List Nat):Ca y k w y.papers.length = dp y k w:=rfl
theorem FQ (y:ab) (k:Int) (w:List Nat) (i:Nat):Ca y k w (i + 1) = Ca y k w i ++ if jS y i = k ∧ i ∈ w then [bw k y.papers i] else []:=by
 unfold Ca;rw [List.range_succ,List.filter_append,List.map_append];congr 1;by_cases h1:jS y i = k
 ·by_cases h2:i ∈ w
  ·rw [if_pos ⟨h1,h2⟩,List.filter_cons_of_pos (by rw [decide_eq_true h1,ix.2 h2]; rfl)]; rfl
  ·have:mY w i = false:=by rw [Bool.eq_false_iff]; exact fun h=>h2 (ix.1 h)
   rw [if_neg (fun x=>h2 x.2),List.filter_cons_of_neg (by rw [this,Bool.and_false]; exact Bool.false_ne_true)]; rfl
 ·rw [if_neg (fun x=>h1 x.1),List.filter_cons_of_neg (by rw [decide_eq_false h1,Bool.false_and]; exact Bool.false_ne_true)]; rfl
theorem tF {α:Type} (f:α → Bool) {l:List α} {i:Nat} (hi:i < l.length):(l.take (i + 1)).filter f = (l.take i).filter f ++ if f l[i] = true then [l[i]] else []:=by
 rw [List.take_succ_eq_append_getElem hi,List.filter_append];congr 1;by_cases h:f l[i] = true
 ·rw [if_pos h,List.filter_cons_of_pos h]; rfl
 ·rw [if_neg h,List.filter_cons_of_neg h]; rfl
theorem I3 (k:Int) (l:List aj) (i:Nat):((l.take i).filter fun p=>decide (p.kind = k)).length = bw k l i:=(List.countP_eq_length_filter).symm
theorem K0 (k:Int) (l:List aj) (i:Nat):bw k l i ≤ i:=by
 unfold bw;have:=List.countP_le_length (p:=fun p:aj=>decide (p.kind = k)) (l:=l.take i);rw [List.length_take] at this; omega
theorem Jp (y:ab) (k:Int) (w:List Nat) (i:Nat):(bb (Ca y k w i)).length ≤ i:=by
 unfold bb Ca;rw [List.length_map,List.length_map];have:=List.length_filter_le (fun j=>decide (jS y j = k) && mY w j) (List.range i);simpa using this
def kR {α:Type} (f:α → α) (l:List α) (i:Nat):List α:=(l.take i).map f ++ l.drop i
theorem zI {α:Type} (f:α → α) (l:List α) (i:Nat):(kR f l i).length = l.length:=by
 simp [kR]; omega
theorem zu {α:Type} (f:α → α) {l:List α} {i:Nat} (hi:i < l.length):(kR f l i)[i]'(by rw [zI]; exact hi) = l[i]:=by
 unfold kR;rw [List.getElem_append_right (by simp; omega)];have e:i - ((l.take i).map f).length = 0:=by simp; omega
 simp only [e,List.getElem_drop,Nat.add_zero]
theorem zz {α:Type} (f:α → α) {l:List α} {i:Nat} (hi:i < l.length):(kR f l i).set i (f l[i]) = kR f l (i + 1):=by
 unfold kR;have e:i - ((l.take i).map f).length = 0:=by simp; omega
 rw [List.set_append_right _ _ (by simp; omega),e,List.drop_eq_getElem_cons hi,List.set_cons_zero,List.take_succ_eq_append_getElem hi,List.map_append,List.append_assoc];rfl
theorem DT {α:Type} {f:α → α} {l:List α} {i:Nat} (hi:i < l.length) (hf:f l[i] = l[i]):kR f l (i + 1) = kR f l i:=by
 rw [← zz f hi,hf]
 conv=>lhs; rw [← zu f hi]
 exact List.set_getElem_self _
theorem FA {α:Type} (f:α → α) (l:List α):kR f l l.length = l.map f:=by simp [kR]
theorem ki (a b c d:Int):Fits 4 [ag.agg [ii' a,ii' b,ii' c,ii' d]]:=fun v hv=>by
 simp at hv; subst hv; exact ⟨rfl,rfl⟩
theorem mz (a b c d e:Int):Fits 5 [ag.agg [ii' a,ii' b,ii' c,ii' d,ii' e]]:=fun v hv=>by
 simp at hv; subst hv; exact ⟨rfl,rfl⟩
theorem xC {y:ab} (hv:bJ aQ y) (w:List Nat) (hw:(bb w).length ≤ maxLen) (k:Nat) (σ:af) :
  Spec Tryz.prog NU [y.v,ii' k, .slice 1 ((bb w).map ii')] σ fun r σ'=>r = .ret (.tup [(bP y k).v, .slice 1 ((bb (dp y k w)).map ii')]) ∧ σ' = σ:=by
 refine Spec.aF (UK (by simp) (aa _ ?_)) (by simp [y.pure,aH,ag.pure,aD (f:=ii') (fun _=>rfl)]) (by simp [ag.pure,aH,ab.pure,aD (f:=ii') (fun _=>rfl)]) σ;have hm10:=hv.m10;have hf8:=hv.f8;have hl8:=hv.l8;have hha:=fun (i:Nat) σ=>mP (bb w) hw (i:Int) σ;simp only [Da] at hha;obtain ⟨W,hW⟩:=zqq ((bb w).map ii');simp only [hW] at hha;rw [hW];simp [OZ,ab.v,ab.cells];refine ⟨by omega,by omega, ?_⟩;have hz0:atL y k 0 = List.replicate y.papers.length 0:=IX y k
 refine AW.loop (ι:=Nat) (fun i fr σ'=>∃ (q:Nat) (tl:af),fr = { v:=[(1,ii' k),(2, .slice 1 W),(3, .pval (yvL y)),(6, .ptr 0 0),(8, .ptr 1 0),(9, .sref 1 5 0 y.papers.length y.papers.length),(10, .oslice 1 ((bb (Ca y k w i)).map ii') 6 q),(11, .int .i64 i)],ds:=[] } ∧
  σ' = .box [.slice 1 [], .slice 1 [], .slice 4 [], .slice 5 [], .slice 4 []] :: .box [.slice 1 (y.kinds.map .str), .slice 1 (y.places.map .str), .oslice 4 [] 2 0, .sref 5 3 0 (bw k y.papers i) (bw k y.papers i), .oslice 4 [] 4 0] :: .spare 4 0 :: .arr 5 (((y.papers.take i).filter fun p=>decide (p.kind = (k:Int))).map aj.v) :: .spare 4 0 :: .arr 1 ((atL y k i).map ii') :: .spare 1 q :: tl ∧ i ≤ y.papers.length) (fun i=>y.papers.length - i) 0 ⟨0,[],by simp [Ca,bb],by simp [hz0,bw],by omega⟩ ?_
 rintro i fr σ' ⟨q,tl,rfl,rfl,hi⟩;have hwi:IntKind.i64.wrap ((i:Int) + 1) = ((i + 1:Nat):Int):=by rw [aq (by omega) (by omega)]; simp
 have hrl:=K0 k y.papers i;have hrn:=I3 k y.papers i;refine (Nat.lt_or_ge i y.papers.length).elim (fun hlt=>?_) (fun hge=>?_)
 ·have hltI:(i:Int) < y.papers.length:=by omega
  have hpv:=hv.papers i hlt;have hfs:=tF (fun p:aj=>decide (p.kind = (k:Int))) hlt;have hos:=FQ y k w i;have hrs:=tC (k:=k) hlt;have hkd:=sN hlt;have hal:=zS y k i;have hst:=KM (y:=y) (k:=k) (i:=i);have hsk:=IC (y:=y) (k:=k) (i:=i);obtain ⟨⟨pk,ps,pd,pn,pc⟩,hx⟩:∃ p,y.papers[i] = p:=⟨_,rfl⟩;rw [hx] at hkd hfs hrs;dsimp only at hkd hfs hrs;have hgi:i < (atL y k i).length:=by omega
  have hoi:=hha i;obtain ⟨r,hr⟩:=zqq (bw k y.papers i);obtain ⟨ps',hps⟩:∃ l,(y.papers.take i).filter (fun p=>decide (p.kind = (k:Int))) = l:=⟨_,rfl⟩;rw [hr] at hrl hrn hrs hst hos ⊢;rw [hps] at hfs hrn ⊢;obtain ⟨at',hat⟩:∃ l,atL y k i = l:=⟨_,rfl⟩;rw [hat] at hal hst hsk hgi ⊢;by_cases e1:pk = k;rotate_left
  ·rw [hkd] at hst hsk hos;have hsk:=hsk e1;rw [if_neg e1,Nat.add_zero] at hrs;rw [if_neg (fun x=>e1 x.1),List.append_nil] at hos;rw [if_neg (by simpa using e1),List.append_nil] at hfs;refine aa _ ?_;simp [hltI,hlt,hx,aj.v,aj.cells,e1,hwi];refine ⟨i + 1,by omega,q,⟨⟨by rw [hos],rfl⟩,by simp⟩, ?_,by omega⟩;rw [hrs,hfs,hsk]; simp
  rw [hkd] at hst hsk hos;have hst:=hst e1;rw [if_pos e1] at hrs;rw [if_pos (by simpa using e1)] at hfs;by_cases hin:i ∈ w
  ·rw [decide_eq_true hin] at hoi;rw [if_pos ⟨e1,hin⟩] at hos;refine aa _ ?_;simp [hltI,hlt,hx,aj.v,aj.cells,e1,hwi,hal,hrn,mz];refine ⟨by omega, ?_⟩;refine ah.pure BL (hoi _) ?_;simp [hwi,hal,hlt,fits_int];have hol:=Jp y k w i;refine ⟨by omega,i + 1,by omega,q + 1,⟨⟨by rw [hos]; simp [bb],rfl⟩,by simp⟩,⟨hrs.symm,by rw [hfs]; simp [aj.v,aj.cells,e1],by rw [← hst,List.map_set],rfl⟩,by omega⟩
  ·rw [decide_eq_false hin] at hoi;rw [if_neg (fun x=>hin x.2),List.append_nil] at hos;refine aa _ ?_;simp [hltI,hlt,hx,aj.v,aj.cells,e1,hwi,hal,hrn,mz];refine ⟨by omega, ?_⟩;refine ah.pure BL (hoi _) ?_;simp [hwi];refine ⟨i + 1,by omega,q,⟨⟨by rw [hos],rfl⟩,by simp⟩,⟨hrs.symm,by rw [hfs]; simp [aj.v,aj.cells,e1],by rw [← hst,List.map_set],rfl⟩,by omega⟩
 obtain rfl:i = y.papers.length:=by omega
 rw [IZ,List.take_length];rw [List.take_length] at hrn;obtain ⟨r,hr⟩:=zqq (bw k y.papers y.papers.length);obtain ⟨ps,hps⟩:∃ l,y.papers.filter (fun p=>decide (p.kind = (k:Int))) = l:=⟨_,rfl⟩;rw [hr] at hrl hrn ⊢;rw [hps] at hrn ⊢;obtain ⟨ol,hol⟩:∃ l,(bb (dp y k w)).map ii' = l:=⟨_,rfl⟩;rw [hol];have hya:(bP y k).papers = ps.map (db k y.papers):=by rw [← hps]; rfl
 refine aa _ ?_;simp
 refine AW.loop (ι:=Nat) (fun i fr σ'=>∃ (tl:af),fr = { v:=[(1,ii' k),(3, .pval (yvL y)),(6, .ptr 0 0),(8, .ptr 1 0),(9, .sref 1 5 0 y.papers.length y.papers.length),(10, .oslice 1 ol 6 q),(12, .int .i64 i)],ds:=[] } ∧
  σ' = .box [.slice 1 [], .slice 1 [], .slice 4 [], .slice 5 [], .slice 4 []] :: .box [.slice 1 (y.kinds.map .str), .slice 1 (y.places.map .str), .oslice 4 [] 2 0, .sref 5 3 0 r r, .oslice 4 [] 4 0] :: .spare 4 0 :: .arr 5 ((kR (db k y.papers) ps i).map aj.v) :: .spare 4 0 :: .arr 1 ((atL y k y.papers.length).map ii') :: .spare 1 q :: tl ∧ i ≤ r) (fun i=>r - i) 0 ⟨tl,by simp,by simp [kR],by omega⟩ ?_
 rintro i fr σ' ⟨tl,rfl,rfl,hi⟩;have hwi:IntKind.i64.wrap ((i:Int) + 1) = ((i + 1:Nat):Int):=by rw [aq (by omega) (by omega)]; simp
 refine (Nat.lt_or_ge i r).elim (fun hlt=>?_) (fun hge=>?_)
 ·have hltI:(i:Int) < (r:Int):=by omega
  have hip:i < ps.length:=by omega
  have hpl:=zI (db k y.papers) ps i;have hpg:=zu (db k y.papers) hip;have hpt:=zz (db k y.papers) hip;have hpk:=fun h=>DT (f:=db k y.papers) hip h;have hmem:ps[i] ∈ y.papers.filter (fun p=>decide (p.kind = (k:Int))):=by rw [hps]; exact List.getElem_mem hip
  obtain ⟨hm1,hm2⟩:=List.mem_filter.1 hmem;obtain ⟨a,ha,hea⟩:=List.getElem_of_mem hm1;have hpr:=sc hv ha;rw [hea] at hpr;have hm2:=of_decide_eq_true hm2;have hal:=zS y k y.papers.length;have hip2:i < (kR (db k y.papers) ps i).length:=by omega
  obtain ⟨P,hP⟩:=zqq (kR (db k y.papers) ps i);simp only [hP] at hpl hpg hpt hpk hip2 ⊢;obtain ⟨⟨pk,p1,p2,pn,pc⟩,hx⟩:∃ p,ps[i] = p:=⟨_,rfl⟩;rw [hx] at hpg hpt hpk hpr hm2;rcases hpr with hc | ⟨c,hc,hcm,_,hcm2,_,hck⟩
  ·dsimp only at hc;have hsk:=hpk (by unfold db; rw [if_neg (by show ¬ 0 ≤ pc; omega)]);refine aa _ ?_;simp [hltI,hpg,hpl,hrn,hlt,aj.v,aj.cells,hc,hwi];exact ⟨i + 1,by omega,by simp,by rw [hsk],by omega⟩
  ·dsimp only at hc hm2;have hcc:jS y c = k:=by rw [sN hcm,hck]; exact hm2
   have hac:=K1 hcm hcc;rw [show db k y.papers ⟨pk,p1,p2,pn,pc⟩ = ⟨pk,p1,p2,pn,((bw k y.papers c:Nat):Int)⟩ from by unfold db; rw [if_pos (by show 0 ≤ pc; omega)]; simp only [hc,Int.toNat_natCast]] at hpt;have hcl:c < (atL y k y.papers.length).length:=by omega
   subst hc;refine aa _ ?_;simp [hltI,hpg,hpl,hrn,hlt,aj.v,aj.cells,hcm,hac,hal,hwi];exact ⟨i + 1,by omega,by simp,by rw [← hpt,List.map_set]; rfl,by omega⟩
 obtain rfl:i = r:=by omega
 rw [← hrn,FA, ← hya,hrn];obtain ⟨PL,hPL⟩:∃ l,(bP y k).papers = l:=⟨_,rfl⟩;have hPLl:PL.length = i:=by rw [← hPL,hya,List.length_map,hrn]
 rw [hPL];refine aa _ ?_;simp
 refine AW.loop (ι:=Nat) (fun j fr σ'=>∃ (q2:Nat) (tl:af),fr = { v:=[(1,ii' k),(3, .pval (yvL y)),(6, .ptr 0 0),(8, .ptr 1 0),(10, .oslice 1 ol 6 q),(13, .int .i64 j)],ds:=[] } ∧
  ∃ at',σ' = .box [.slice 1 [], .slice 1 [], .slice 4 [], .slice 5 [], .slice 4 []] :: .box [.slice 1 (y.kinds.map .str), .slice 1 (y.places.map .str), .oslice 4 (((y.first.take j).filter fun c=>decide (c.kind = (k:Int))).map ay.v) 2 q2, .sref 5 3 0 i i, .oslice 4 [] 4 0] :: .spare 4 q2 :: .arr 5 (PL.map aj.v) :: .spare 4 0 :: at' :: .spare 1 q :: tl ∧ j ≤ y.first.length) (fun j=>y.first.length - j) 0 ⟨0,tl,by simp,_,by simp; rfl,by omega⟩ ?_
 rintro j fr σ' ⟨q2,tl,rfl,at',rfl,hj⟩;have hwj:IntKind.i64.wrap ((j:Int) + 1) = ((j + 1:Nat):Int):=by rw [aq (by omega) (by omega)]; simp
 refine (Nat.lt_or_ge j y.first.length).elim (fun hlt=>?_) (fun hge=>?_)
 ·have hltI:(j:Int) < y.first.length:=by omega
  have hfs:=tF (fun p:ay=>decide (p.kind = (k:Int))) hlt;have hfl:=List.length_filter_le (fun p:ay=>decide (p.kind = (k:Int))) (y.first.take j);rw [List.length_take] at hfl;obtain ⟨⟨ck,cp,cl,ch⟩,hx⟩:∃ p,y.first[j] = p:=⟨_,rfl⟩
  rw [hx] at hfs;dsimp only at hfs;obtain ⟨fl,hfl'⟩:∃ l,(y.first.take j).filter (fun p=>decide (p.kind = (k:Int))) = l:=⟨_,rfl⟩;rw [hfl'] at hfs hfl ⊢;by_cases e1:ck = k
  ·rw [if_pos (by simpa using e1)] at hfs;refine aa _ ?_;simp [hltI,hlt,hx,ay.v,ay.cells,e1,hwj,ki];exact ⟨by omega,j + 1,by omega,by simp,by rw [hfs]; simp [ay.v,ay.cells,e1],by omega⟩
  ·rw [if_neg (by simpa using e1),List.append_nil] at hfs;refine aa _ ?_;simp [hltI,hlt,hx,ay.v,ay.cells,e1,hwj];exact ⟨j + 1,by omega,by simp,by rw [hfs],by omega⟩
 obtain rfl:j = y.first.length:=by omega
 rw [List.take_length];have hyf:(bP y k).first = y.first.filter fun c=>decide (c.kind = (k:Int)):=rfl
 rw [← hyf];obtain ⟨FL,hFL⟩:∃ l,(bP y k).first = l:=⟨_,rfl⟩
 rw [hFL];refine aa _ ?_;simp
 refine AW.loop (ι:=Nat) (fun j fr σ'=>∃ (q4:Nat) (tl:af),fr = { v:=[(1,ii' k),(3, .pval (yvL y)),(6, .ptr 0 0),(8, .ptr 1 0),(10, .oslice 1 ol 6 q),(14, .int .i64 j)],ds:=[] } ∧
  ∃ at',σ' = .box [.slice 1 [], .slice 1 [], .slice 4 [], .slice 5 [], .slice 4 []] :: .box [.slice 1 (y.kinds.map .str), .slice 1 (y.places.map .str), .oslice 4 (FL.map ay.v) 2 q2, .sref 5 3 0 i i, .oslice 4 (((y.last.take j).filter fun c=>decide (c.kind = (k:Int))).map ay.v) 4 q4] :: .spare 4 q2 :: .arr 5 (PL.map aj.v) :: .spare 4 q4 :: at' :: .spare 1 q :: tl ∧ j ≤ y.last.length) (fun j=>y.last.length - j) 0 ⟨0,tl,by simp,_,by simp; rfl,by omega⟩ ?_
 rintro j fr σ' ⟨q4,tl,rfl,at',rfl,hj⟩;have hwj:IntKind.i64.wrap ((j:Int) + 1) = ((j + 1:Nat):Int):=by rw [aq (by omega) (by omega)]; simp
 refine (Nat.lt_or_ge j y.last.length).elim (fun hlt=>?_) (fun hge=>?_)
 ·have hltI:(j:Int) < y.last.length:=by omega
  have hfs:=tF (fun p:ay=>decide (p.kind = (k:Int))) hlt;have hfl:=List.length_filter_le (fun p:ay=>decide (p.kind = (k:Int))) (y.last.take j);rw [List.length_take] at hfl;obtain ⟨⟨ck,cp,cl,ch⟩,hx⟩:∃ p,y.last[j] = p:=⟨_,rfl⟩;rw [hx] at hfs;dsimp only at hfs;obtain ⟨fl,hfl'⟩:∃ l,(y.last.take j).filter (fun p=>decide (p.kind = (k:Int))) = l:=⟨_,rfl⟩;rw [hfl'] at hfs hfl ⊢;by_cases e1:ck = k
  ·rw [if_pos (by simpa using e1)] at hfs;refine aa _ ?_;simp [hltI,hlt,hx,ay.v,ay.cells,e1,hwj,ki];exact ⟨by omega,j + 1,by omega,by simp,by rw [hfs]; simp [ay.v,ay.cells,e1],by omega⟩
  ·rw [if_neg (by simpa using e1),List.append_nil] at hfs;refine aa _ ?_;simp [hltI,hlt,hx,ay.v,ay.cells,e1,hwj];exact ⟨j + 1,by omega,by simp,by rw [hfs],by omega⟩
 obtain rfl:j = y.last.length:=by omega
 rw [List.take_length];have hyl:(bP y k).last = y.last.filter fun c=>decide (c.kind = (k:Int)):=rfl;rw [← hyl];refine aa _ ?_;simp [hPLl];exact ⟨rfl,rfl,List.take_of_length_le (by simp; omega)⟩
set_option maxHeartbeats 1000000
theorem Fg {y:ab} (h:bJ aQ y):dv y:=by
 have h1:=h.k4;have h2:=h.p4;have h3:=h.m10;have h4:=h.f8;have h5:=h.l8;refine ⟨?_, ?_, ?_, ?_, ?_⟩ <;> simp only [maxLen] <;> omega
theorem Gv {s:ByteArray} {z:ab} (h:ep s = (z,0)):bJ aQ z ∧ dS z = aA s:=by
 unfold ep at h
 split at h
 ·cases h
 ·split at h
  ·rename_i y hy;cases h;exact (mU rk _ _).1 hy
  ·cases h
theorem Eh {s:ByteArray} (h:(ep s).2 ≠ 0):(ep s).1 = eE:=by
 unfold ep at h ⊢;split
 ·rfl
 ·split
  ·rename_i h1 _ _ h2;rw [if_neg h1,h2] at h; exact absurd rfl h
  ·rfl
end Go.AM
