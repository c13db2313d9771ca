/- Chapter 09: what the program answers on the examples. Awake of chapter 09, by contracts. Chapter 09: WasteFewest, by contracts. Chapter 09: what Range and Gone say of a yard that closes. Chapter .. -/
import Derived.Test.YtlmhkldmpggadaaGreatDoorP30
import Derived.Test.YtlmhkldmpggadaaGreatDoorP20
import Derived.Test.YtlmhkldmpggadaaGreatDoorP27
import Derived.Test.YtlmhkldmpggadaaGreatDoorP25
namespace Go.AM
open Go.Proofs
set_option maxRecDepth 100000
set_option maxHeartbeats 1000000
theorem kF:dz exY:=⟨by decide,by decide,by decide,by decide,by decide⟩
theorem pR:dz exZ:=⟨by decide,by decide,by decide,by decide,by decide⟩
theorem Gz:yT aN:=⟨by decide +kernel,by decide +kernel,by decide +kernel,by decide +kernel⟩
theorem Db (σ:af):Spec Tryz.prog E7 [exY.v, .slice 1 [ii' 1]] σ fun r σ'=>r = .ret (.tup [.bool true,ii' 0]) ∧ σ' = σ:=by
 have h:=bX exY kF [1] (by decide) σ;rw [show dE exY [1] = (true,0) by decide +kernel] at h; exact h
theorem CM (σ:af):Spec Tryz.prog E7 [exY.v, .slice 1 [ii' 0]] σ fun r σ'=>r = .ret (.tup [.bool false,ii' 0]) ∧ σ' = σ:=by
 have h:=bX exY kF [0] (by decide) σ;rw [show dE exY [0] = (false,0) by decide +kernel] at h; exact h
theorem Ji (σ:af):Spec Tryz.prog F4 [exY.v, .slice 1 [ii' 0]] σ fun r σ'=>r = .ret (.tup [.agg [ii' (-1),ii' 0,ii' 1,ii' 100],ii' 0]) ∧ σ' = σ:=by
 have h:=mq exY kF [0] (by decide) σ;have e:(fun r:bj × Int=>(r.1.paper,r.1.kind,r.1.places,r.1.over,r.2)) (vr exY [0]) = (-1,0,1,100,0):=by decide +kernel
 simp only [Prod.mk.injEq] at e;obtain ⟨e1,e2,e3,e4,e5⟩:=e;simp only [bj.v,bj.cells,e1,e2,e3,e4,e5] at h; exact h
theorem yX (n:Int) (hn:n = 100 ∨ n = 99) (σ:af):Spec Tryz.prog G8 [exY.v, .slice 1 [ii' 0], .agg [ii' (-1),ii' 0,ii' 1,ii' n]] σ fun r σ'=>r = .ret (.tup [.bool (decide (n = 100)),ii' 0]) ∧ σ' = σ:=by
 have h:=jB exY kF [0] (by decide) ⟨-1,0,1,n⟩ σ;rcases hn with rfl | rfl
 ·rw [show iE exY [0] ⟨-1,0,1,100⟩ = (true,0) by decide +kernel] at h; exact h
 ·rw [show iE exY [0] ⟨-1,0,1,99⟩ = (false,0) by decide +kernel] at h; exact h
theorem Ew (σ:af):Spec Tryz.prog Gy [exZ.v] σ fun r σ'=>r = .ret (.tup [.slice 1 [ii' 0],ii' 0]) ∧ σ' = σ:=by
 have h:=jq exZ pR σ;rw [show gN exZ = ([0],0) by decide +kernel] at h; exact h
theorem ID (σ:af):Spec Tryz.prog Gq [exY.v] σ fun r σ'=>r = .ret (.tup [.slice 1 [ii' 1],ii' 0]) ∧ σ' = σ:=by
 have h:=sD exY kF σ;rw [show Cc exY = ([1],0) by decide +kernel] at h; exact h
theorem Kh (σ:af):Spec Tryz.prog G1 [exZ.v] σ fun r σ'=>r = .ret (.tup [.slice 1 [ii' 0,ii' 1],ii' 0]) ∧ σ' = σ:=by
 have h:=ua exZ pR σ;rw [show GK exZ = ([0,1],0) by decide +kernel] at h; exact h
theorem Ha (σ:af):Spec Tryz.prog CY [exZ.v, .slice 1 [ii' 0,ii' 1],ii' 0] σ fun r σ'=>r = .ret (.tup [.agg [ii' 500,ii' 600],ii' 0]) ∧ σ' = σ:=by
 have h:=gz exZ pR [0,1] (by decide) 0 σ;have e0:fJ exZ [0,1] (fw exZ 0) = 0:=by decide +kernel
 rw [e0] at h;refine h.mono ?_;rintro r σ' ⟨⟨lo,hi,rfl,_,h2⟩,rfl⟩;obtain ⟨rfl,rfl⟩:=DI (Ah Gz) (h2 rfl);exact ⟨rfl,rfl⟩
theorem I5 (σ:af):Spec Tryz.prog Ea [exY.v, .slice 1 [ii' 1],ii' 0] σ fun r σ'=>r = .ret (.tup [.agg [ii' 300,ii' 300],ii' 0]) ∧ σ' = σ:=by
 have h:=ld exY kF [1] (by decide) 0 σ;have e0:fJ exY [1] (fY exY 0) = 0:=by decide +kernel
 rw [e0] at h;refine h.mono ?_;rintro r σ' ⟨⟨lo,hi,rfl,_,h2⟩,rfl⟩;obtain ⟨rfl,rfl⟩:=F7 (IL Gz) (h2 rfl);exact ⟨rfl,rfl⟩
theorem I0 (σ:af):Spec Tryz.prog CY [exY.v, .slice 1 [ii' 0],ii' 0] σ fun r σ'=>r = .ret (.tup [.agg [ii' 0,ii' 0],ii' 9]) ∧ σ' = σ:=by
 have h:=gz exY kF [0] (by decide) 0 σ;have e0:fJ exY [0] (fw exY 0) = 9:=by decide +kernel
 rw [e0] at h;refine h.mono ?_;rintro r σ' ⟨⟨lo,hi,rfl,h1,_⟩,rfl⟩;obtain ⟨rfl,rfl⟩:=h1 (by decide);exact ⟨rfl,rfl⟩
theorem G9 (σ:af):Spec Tryz.prog GV [exZ.v] σ fun r σ'=>r = .ret (.tup [.str l6,ii' 0]) ∧ σ' = σ:=by
 have h:=gv exZ pR σ;have e:fq exZ = (dj exZ,0):=by unfold fq; rw [if_neg (by simpa using (ea aN exZ).2 (Ah Gz))]
 rw [e,yN] at h; exact h
theorem I4 (σ:af):Spec Tryz.prog Gr [.str l6] σ fun r σ'=>r = .ret (.tup [exZ.v,ii' 0]) ∧ σ' = σ:=by
 have h:=eX l6 σ;have e:gf l6 = (exZ,0):=by
  unfold gf;rw [if_neg (by decide +kernel),show aE l6 = nu from rfl,Fp lO Gz]
 rw [e] at h; exact h
set_option maxRecDepth 100000
set_option maxHeartbeats 1000000
def yq:List b8 → Bool
 | []=>true
 | .no :: r=>yq r
 | _=>false
theorem tr (bef:List (List Nat)) (j:Nat):∀ (l:List b8) (i:Nat),jG bef j .no l i = true
 | [],_=>rfl
 | f :: r,i=>by
  have e:b8.n8 .no f = false:=by cases f <;> rfl
  simp only [jG,e,tr bef j r (i + 1)]; rfl
theorem vX:∀ {l:List b8},yq l = true → ∀ e ∈ l,e = .no
 | [],_,e,h=>by cases h
 | .no :: r,h,e,he=>by
  rcases List.mem_cons.1 he with rfl | he
  ·rfl
  ·exact vX (l:=r) h e he
 | .rd _ :: _,h,_,_=>by cases h
 | .al _ :: _,h,_,_=>by cases h
 | .wr _ _ :: _,h,_,_=>by cases h
theorem A0 (bef:List (List Nat)):∀ (l p:List b8) (i:Nat),(∀ e ∈ l,e = .no) → eF bef p l i = true:=by
 intro l
 induction l with
 | nil=>intro p i _; rfl
 | cons a r ih=>
  intro p i h;have ha:=h a (by simp);subst ha;simp only [eF,tr,ih _ _ (fun e he=>h e (by simp [he]))]; rfl
def E3 (t:Nat) (σ:af) (e:Env) (σ':af) (es:List b8):Prop:=e.get t = .bool true ∧ σ' = σ ∧ yq es = true
theorem CU {sz bytes:Nat} {σ:af} {x y:ag} {K K':ag → b8 → Prop} (h:∀ v f,K' v f → K v f) (hd:vk sz bytes σ x y K'):vk sz bytes σ x y K:=by
 obtain ⟨_,_,_,_,_,_,_,_,_,hk,_,hr⟩:=lU hd;exact hr K (h _ _ hk)
theorem AF {P:Program} {K K':Env → af → List b8 → Prop} (h:∀ e σ es,K' e σ es → K e σ es):∀ {ops:List aD} {e:Env} {σ:af} {es:List b8},bP P ops e σ es K' → bP P ops e σ es K:=by
 intro ops
 induction ops with
 | nil=>intro e σ es hd; exact h _ _ _ hd
 | cons o r ih=>
  intro e σ es hd;obtain ⟨d,g,i⟩:=o
  cases hc:dO g e with
  | none=>simp only [bP,hc] at hd
  | some c=>
   cases i
   all_goals simp only [bP,hc] at hd ⊢
   all_goals first
    | exact ⟨hd.1,hd.2.1,ih hd.2.2⟩
    | exact ⟨hd.1,hd.2.1,hd.2.2.1,ih hd.2.2.2⟩
    | exact ⟨hd.1,ih hd.2⟩
    | exact ⟨hd.1,hd.2.1,hd.2.2.1,hd.2.2.2.1,ih hd.2.2.2.2⟩
    | (obtain ⟨v,h1,h2⟩:=hd; exact ⟨v,h1,ih h2⟩)
    | (obtain ⟨h1,h2,v,h3,h4⟩:=hd; exact ⟨h1,h2,v,h3,ih h4⟩)
    | (obtain ⟨h1,h2,h3⟩:=hd; exact ⟨h1,h2,CU (fun v f hv=>ih hv) h3⟩)
    | (obtain ⟨h1,h2,h3,h4⟩:=hd
       refine ⟨h1,h2,h3, ?_⟩
       split at h4
       ·exact ih h4
       ·exact h4)
    | (split at hd
       ·rename_i h0; rw [if_pos h0]; exact ⟨hd.1,ih hd.2⟩
       ·rename_i h0;rw [if_neg h0]
        split at hd
        ·rename_i h1; rw [if_pos h1]; exact ⟨hd.1,hd.2.1,hd.2.2.1,ih hd.2.2.2⟩
        ·rename_i h1; rw [if_neg h1]; exact ⟨hd.1,hd.2.1,hd.2.2.1,hd.2.2.2.1,ih hd.2.2.2.2⟩)
    | skip
theorem Au {P:Program} {ops:List aD} {e:Env} {σ:af} {K:Env → af → List b8 → Prop} (t:Nat) (h:bP P ops e σ [] (E3 t σ)) (hk:∀ e es,e.get t = .bool true → yq es = true → K e σ es):bP P ops e σ [] K:=
 AF (fun e σ' es h=>by obtain ⟨h1,rfl,h3⟩:=h; exact hk e es h1 h3) h
theorem bL (σ:af):Spec Tryz.prog Jq [] σ fun r σ'=>r = .ret (.bool true) ∧ σ' = σ:=by
 refine Spec.aI (NY (by simp) (aa _ ?_)) rfl rfl σ;have hY:=nS false;have hZ:=nS true;rw [show exW false = exY from rfl] at hY;rw [show exW true = exZ from rfl] at hZ;have c1:=Db;have c0:=CM;have w0:=Ji;have p1:=yX 100 (.inl rfl);have p2:=yX 99 (.inr rfl);rw [show decide ((100:Int) = 100) = true from rfl] at p1;rw [show decide ((99:Int) = 100) = false from rfl] at p2;have fe:=Ew;have mu:=ID;have ma:=Kh;have ra:=Ha;have go:=I5;have wr:=G9;have re:=I4;have dn:=I0;simp only [ab.v,ab.cells] at hY hZ c1 c0 w0 p1 p2 fe mu ma ra go wr re dn;simp [Mr];refine ah.pure Lu (hY _) ?_;simp;refine ah.pure Lu (hZ _) ?_;simp;refine ah.pure oz (c1 _) ?_;simp;refine ah.pure oz (c0 _) ?_;simp;refine ah.pure GR (w0 _) ?_;simp;refine ah.pure C0 (p1 _) ?_;simp;refine ah.pure C0 (p2 _) ?_;simp;refine ah.pure Es (fe _) ?_;simp;refine ah.pure Nw (mu _) ?_;simp;refine ah.pure OW (ma _) ?_;simp;refine ah.pure Gc (ra _) ?_;simp;refine ah.pure IM (go _) ?_;simp;refine ah.pure BF (wr _) ?_;simp;refine ah.pure Lj (nK _) ?_;simp;refine ah.pure Bh (re _) ?_;simp;refine ah.pure Gc (dn _) ?_;simp [-bP];refine Au 0 ?_ ?_
 ·have hm:∀ {l:List Int},l.length ≤ 10 → l.length ≤ maxLen:=fun h=>by simp only [maxLen]; omega
  have hs:=nN exZ pR;simp only [ab.v,ab.cells] at hs
  repeat (rw [bP]; simp [-bP])
  refine ⟨.bool true,fun σ'=>aL.func Ir (jW [0] (hm (by simp)) σ'), ?_⟩
  repeat (rw [bP]; simp [-bP])
  refine ⟨.bool true,fun σ'=>aL.func Ir (jW [1] (hm (by simp)) σ'), ?_⟩
  repeat (rw [bP]; simp [-bP])
  refine ⟨.bool true,fun σ'=>aL.func Ir (jW [0,1] (hm (by simp)) σ'), ?_⟩
  repeat (rw [bP]; simp [-bP])
  refine ⟨_,fun σ'=>aL.func C9 (dJ 500 600 σ'), ?_⟩
  repeat (rw [bP]; simp [-bP])
  refine ⟨_,fun σ'=>aL.func C9 (dJ 300 300 σ'), ?_⟩
  repeat (rw [bP]; simp [-bP])
  have hp1:=aC (f:=ag.str) (fun _=>rfl) exZ.kinds;have hp2:=aC (f:=ag.str) (fun _=>rfl) exZ.places;have hp3:=aC (f:=av.v) (fun c=>c.pure) exZ.first
  have hp4:=aC (f:=ak.v) (fun c=>c.pure) exZ.papers;have hp5:=aC (f:=av.v) (fun c=>c.pure) exZ.last;refine ⟨.str l6,fun σ'=>aL.func Lj (nK σ'), ?_⟩
  repeat (rw [bP]; simp [-bP])
  refine ⟨.bool true,fun σ' _=>aL.func Iu (hs σ'), ?_⟩
  repeat (rw [bP]; simp [-bP])
  simp [E3,yq,hp1,hp2,hp3,hp4,hp5]
 ·intro e es h1 h2;have hcl:∀ bef,eF bef [] es.reverse 0 = true:=fun bef=>A0 bef _ [] 0 (by intro x hx; exact vX h2 x (List.mem_reverse.1 hx))
  simp [hcl,h1]
set_option maxRecDepth 100000
set_option maxHeartbeats 1000000
theorem nr (l:List Nat):bH (aY l) = l:=by
 unfold bH aY;rw [List.map_map]
 conv=>rhs; rw [← List.map_id l]
 exact List.map_congr_left fun x _=>by simp
theorem Cd {y:ab} (hv:bS aN y) {l:List Nat} (ha:qH y.papers.length 0 l):tu y (aY l):=⟨hv,by rw [nr]; exact ha,by rw [nr]⟩
theorem mi {y:ab} (hv:bS aN y) {l:List Nat} (ha:qH y.papers.length 0 l):dE y (aY l) = (aF y l,0):=by
 have h:=(cr y (aY l)).2 (Cd hv ha);unfold dE;rw [if_neg (by simp [h]),nr]
theorem rS {y:ab} (hv:bS aN y):eo y = if aF y (List.range y.papers.length) then 0 else 9:=by
 have h:=(cr y []).2 ⟨hv,by simp [bH,qH],rfl⟩;unfold eo;rw [if_neg (by simp [h])]
theorem xK (m:Nat):eO m m = List.range m:=by
 unfold eO;rw [List.filter_eq_self];intro x hx;have:=List.mem_range.1 hx;simp; omega
theorem uM {y:ab} (hv:bS aN y) {l:List Nat} (ha:qH y.papers.length 0 l):(aY l).length ≤ maxLen:=by
 have h1:=pE ha;have h2:=hv.m10;simp only [aY,List.length_map,maxLen];omega
set_option maxRecDepth 100000
set_option maxHeartbeats 1000000
set_option maxRecDepth 100000
set_option maxHeartbeats 1000000
def ij (p:Nat → Bool) (m:Nat):List Nat:=(List.range m).filter p
theorem y9 (p:Nat → Bool) (m:Nat):ij p (m + 1) = ij p m ++ if p m then [m] else []:=by
 unfold ij;rw [List.range_succ,List.filter_append];congr 1;cases h:p m <;> simp [h]
theorem Bw (p:Nat → Bool) (m:Nat):(aY (ij p m)).length ≤ m:=by
 have:=List.length_filter_le p (List.range m);simp only [aY,List.length_map,ij];simpa using this
theorem xb (n:Nat) (h:n ≤ 255):IntKind.i64.wrap (n:Int) = n:=aw (by omega) (by omega)
set_option maxRecDepth 100000
set_option maxHeartbeats 1000000
theorem PJ {α β:Type} (f:α → List β) {c:Nat}:∀ l:List α,(∀ x ∈ l,(f x).length ≤ c) → (l.flatMap f).length ≤ c * l.length
 | [],_=>by simp
 | x :: r,h=>by
  have ih:=PJ f r fun z hz=>h z (by simp [hz])
  have h0:=h x (by simp);rw [List.flatMap_cons,List.length_append,List.length_cons,Nat.mul_succ]; omega
def PB (b:Int) (i:Nat):Bool:=decide ((i:Int) ≠ b)
theorem PG (y:ab) (hm:y.papers.length ≤ 10) (b:Int) (σ:af) :
  Spec Tryz.prog PZ [y.v,ii' b] σ fun r σ'=>r = .ret (.slice 1 ((aY (ij (PB b) y.papers.length)).map ii')) ∧ σ' = σ:=by
 refine Spec.aI (P4 (by simp) (aa _ ?_)) (by simp [y.pure,aK,ag.pure]) (by simp [ag.pure,aC (f:=ii') (fun _=>rfl)]) σ;simp [P0,ab.v,ab.cells];refine AW.loop (ι:=Nat) (fun k fr σ'=>∃ (q:Nat) (tl:af),fr = { v:=[(1,ii' b),(2, .pval y.v),(5, .oslice 1 ((aY (ij (PB b) k)).map ii') 0 q),(6, .int .i64 k)],ds:=[] } ∧ σ' = .spare 1 q :: tl ∧ k ≤ y.papers.length) (fun k=>y.papers.length - k) 0 ⟨0,[],by simp [ij,aY,ab.v,ab.cells],rfl,by omega⟩ ?_;rintro k fr σ' ⟨q,tl,rfl,rfl,hk⟩;refine (Nat.lt_or_ge k y.papers.length).elim (fun hlt=>?_) (fun hge=>?_);rotate_left
 ·obtain rfl:k = y.papers.length:=by omega
  refine aa _ ?_;simp [ab.v,ab.cells]
 have hltI:(k:Int) < y.papers.length:=by omega
 have w3:IntKind.i64.wrap ((k:Int) + 1) = ((k + 1:Nat):Int):=by rw [aw (by omega) (by omega)]; simp
 have hst:=y9 (PB b) k;have hln:=Bw (PB b) k;by_cases hkb:(k:Int) = b
 ·rw [if_neg (by simp [PB,hkb])] at hst;obtain ⟨L,hL⟩:∃ L,ij (PB b) k = L:=⟨_,rfl⟩
  rw [hL] at hst hln;refine aa _ ?_;simp only [hL];simp [hltI,ab.v,ab.cells,eq_true hkb,w3];exact ⟨k + 1,by omega,q,⟨⟨by rw [hst]; simp,rfl⟩,by simp⟩,rfl,by omega⟩
 ·rw [if_pos (by simp [PB,hkb])] at hst;obtain ⟨L,hL⟩:∃ L,ij (PB b) k = L:=⟨_,rfl⟩
  rw [hL] at hst hln;refine aa _ ?_;simp only [hL];simp [hltI,ab.v,ab.cells,hkb,w3,fits_int];exact ⟨by omega,k + 1,by omega,q + 1,⟨⟨by rw [hst]; simp [aY],rfl⟩,by simp⟩,rfl,by omega⟩
def eb (ls:List (List Nat)):List ag:=ls.map fun l=>.slice 1 ((aY l).map ii')
def PC (l:List Nat):Nat:=match l.getLast? with
 | some x=>x + 1
 | none=>0
theorem x0 (ls:List (List Nat)):aK (eb ls) = true:=aC (fun l=>by simp [ag.pure,aC (f:=ii') (fun _=>rfl)]) ls
theorem qp (ls:List (List Nat)):Fits 1 (eb ls):=fun v hv=>by
 obtain ⟨l,_,rfl⟩:=List.mem_map.1 hv;exact ⟨by simp [bM],by simp [ag.cells,eY,ag.fH]⟩
theorem Pz (l:List Nat) (i:Nat):PC (l ++ [i]) = i + 1:=by unfold PC; rw [List.getLast?_append]; simp
theorem gi {m:Nat} (hm:m ≤ 10):∀ (many:Nat) (l:List Nat),l.length + many ≤ 100 → (∀ x ∈ l,x ≤ 10) → ∀ σ:af,
  Spec Tryz.prog PY [.slice 1 ((aY l).map ii'),ii' many,ii' m] σ fun r σ'=>r = .ret (.slice 1 (eb (dZ l (dw m many (PC l))))) ∧ σ' = σ
 | 0,l,hl,hb,σ=>by
  refine Spec.aI (P3 (by simp) (aa _ ?_)) (by simp [aK,ag.pure,aC (f:=ii') (fun _=>rfl)]) (by simp [ag.pure,x0]) σ;simp [PU,ahead_zero,eb]
 | many + 1,l,hl,hb,σ=>by
  refine Spec.aI (P3 (by simp) ?_) (by simp [aK,ag.pure,aC (f:=ii') (fun _=>rfl)]) (by simp [ag.pure,x0]) σ
  have ih:=fun i (hi:i < m) σ=>gi hm many (l ++ [i]) (by simp; omega) (fun x hx=>by
   rcases List.mem_append.1 hx with h | h
   ·exact hb x h
   ·rw [List.mem_singleton.1 h]; omega) σ
  simp only [Pz] at ih;have hmn:¬ ((many:Int) + 1 = 0):=by omega
  have w1:IntKind.i64.wrap (many:Int) = (many:Int):=aw (by omega) (by omega);obtain ⟨L,hL⟩:∃ L,aY l = L:=⟨_,rfl⟩
  have hLl:L.length = l.length:=by rw [← hL]; simp [aY]
  obtain ⟨a,ha⟩:∃ a,PC l = a:=⟨_,rfl⟩
  have hpre:(L.length = 0 ∧ a = 0) ∨ (0 < L.length ∧ ∃ x:Nat,L[L.length - 1]? = some (x:Int) ∧ x ≤ 10 ∧ a = x + 1):=by
   rcases List.eq_nil_or_concat l with e | ⟨r,x,e⟩
   ·subst e; exact .inl ⟨by rw [hLl]; rfl,by rw [← ha]; rfl⟩
   ·have e':l = r ++ [x]:=by rw [e]; simp
    refine .inr ⟨by rw [hLl,e']; simp,x, ?_,hb x (by rw [e']; simp),by rw [← ha,e',Pz]⟩;rw [← hL,e']; simp [aY]
  rw [hL,ha,PO];have hihl:∀ i:Nat,aY (l ++ [i]) = L ++ [(i:Int)]:=fun i=>by rw [← hL]; simp [aY]
  simp only [hihl] at ih;have ha11:a ≤ 11:=by rcases hpre with ⟨_,h⟩ | ⟨_,x,_,h1,h2⟩ <;> omega
  rcases hpre with ⟨hL0,ha0⟩ | ⟨hL1,x,hx,hx10,hax⟩
  ·refine aa _ ?_;simp [PU,hmn,hL0];refine AW.loop (ι:=Nat) (fun i fr σ'=>∃ (q:Nat) (tl:af),fr = { v:=[(0, .slice 1 (L.map ii')),(1,ii' ((many:Int) + 1)),(2,ii' m),(8, .oslice 1 (eb ((List.range' a (i - a)).flatMap fun j=>dZ (l ++ [j]) (dw m many (j + 1)))) 0 q),(9, .int .i64 i)],ds:=[] } ∧ σ' = .spare 1 q :: tl ∧ a ≤ i ∧ (i ≤ m ∨ i = a)) (fun i=>20 - i) a ⟨0,[],by simp [eb,ha0],rfl,by omega, .inr rfl⟩ ?_;rintro i fr σ' ⟨q,tl,rfl,rfl,hai,him⟩;refine (Nat.lt_or_ge i m).elim (fun hlt=>?_) (fun hge=>?_)
   ·have hltI:(i:Int) < m:=by omega
    have hfi:Fits 1 (L.map ii'):=wg L;have hstep:=PD (fun j=>dZ (l ++ [j]) (dw m many (j + 1))) hai;have hal:∀ j,(dZ (l ++ [j]) (dw m many (j + 1))).length ≤ 1024:=fun j=>by
     unfold dZ;rw [List.length_map];exact Nat.le_trans (qY m _ many (j + 1) rfl) (Nat.le_trans (Nat.pow_le_pow_right (by omega) (show m - (j + 1) ≤ 10 by omega)) (by decide))
    have hfl:=PJ (fun j=>dZ (l ++ [j]) (dw m many (j + 1))) (List.range' a (i - a)) fun j _=>hal j
    rw [List.length_range'] at hfl;have hw:IntKind.i64.wrap ((i:Int) + 1) = ((i + 1:Nat):Int):=by rw [aw (by omega) (by omega)]; simp
    have hii:=ih i hlt;have hali:=hal i;simp only [List.map_append,List.map_cons,List.map_nil] at hii;obtain ⟨X,hX⟩:∃ X,((List.range' a (i - a)).flatMap fun j=>dZ (l ++ [j]) (dw m many (j + 1))) = X:=⟨_,rfl⟩
    obtain ⟨Y,hY⟩:∃ Y,dZ (l ++ [i]) (dw m many (i + 1)) = Y:=⟨_,rfl⟩
    rw [hX] at hfl hstep;simp only [hY] at hstep hali hii;have hXl:(eb X).length ≤ 1024 * 20:=by unfold eb; rw [List.length_map]; exact Nat.le_trans hfl (Nat.mul_le_mul_left _ (by omega))
    have hYl:(eb Y).length ≤ 1024:=by unfold eb; rw [List.length_map]; exact hali
    have hfY:=qp Y;rw [hX];refine aa _ ?_;simp [hltI,hfi,fits_int,w1];refine ⟨by omega,by omega,ah.pure PX (hii _) ?_⟩;simp [hfY,hw];exact ⟨by omega,i + 1,by omega,q + 1,⟨⟨by rw [hstep]; simp [eb],rfl⟩,by simp⟩,rfl,by omega,by omega⟩
   ·have him2:i - a = m - a:=by omega
    refine aa _ ?_;simp [show ¬ (i:Int) < m by omega,him2]
  ·have hLI:(0:Int) < L.length:=by omega
   have w2:IntKind.i64.wrap ((L.length:Int) - 1) = ((L.length - 1:Nat):Int):=by rw [aw (by omega) (by omega)]; omega
   have w5:IntKind.i64.wrap ((x:Int) + 1) = (a:Int):=by rw [aw (by omega) (by omega)]; omega
   have hlt1:L.length - 1 < L.length:=by omega
   have hxe:L[L.length - 1] = (x:Int):=by rw [List.getElem?_eq_getElem hlt1] at hx; exact Option.some.inj hx
   refine aa _ ?_;simp [PU,hmn,hL1,w2,hlt1,hxe,w5];refine AW.loop (ι:=Nat) (fun i fr σ'=>∃ (q:Nat) (tl:af),fr = { v:=[(0, .slice 1 (L.map ii')),(1,ii' ((many:Int) + 1)),(2,ii' m),(8, .oslice 1 (eb ((List.range' a (i - a)).flatMap fun j=>dZ (l ++ [j]) (dw m many (j + 1)))) 0 q),(9, .int .i64 i)],ds:=[] } ∧ σ' = .spare 1 q :: tl ∧ a ≤ i ∧ (i ≤ m ∨ i = a)) (fun i=>20 - i) a ⟨0,[],by simp [eb],rfl,by omega, .inr rfl⟩ ?_;rintro i fr σ' ⟨q,tl,rfl,rfl,hai,him⟩;refine (Nat.lt_or_ge i m).elim (fun hlt=>?_) (fun hge=>?_)
   ·have hltI:(i:Int) < m:=by omega
    have hfi:Fits 1 (L.map ii'):=wg L;have hstep:=PD (fun j=>dZ (l ++ [j]) (dw m many (j + 1))) hai;have hal:∀ j,(dZ (l ++ [j]) (dw m many (j + 1))).length ≤ 1024:=fun j=>by
     unfold dZ;rw [List.length_map];exact Nat.le_trans (qY m _ many (j + 1) rfl) (Nat.le_trans (Nat.pow_le_pow_right (by omega) (show m - (j + 1) ≤ 10 by omega)) (by decide))
    have hfl:=PJ (fun j=>dZ (l ++ [j]) (dw m many (j + 1))) (List.range' a (i - a)) fun j _=>hal j
    rw [List.length_range'] at hfl;have hw:IntKind.i64.wrap ((i:Int) + 1) = ((i + 1:Nat):Int):=by rw [aw (by omega) (by omega)]; simp
    have hii:=ih i hlt;have hali:=hal i;simp only [List.map_append,List.map_cons,List.map_nil] at hii;obtain ⟨X,hX⟩:∃ X,((List.range' a (i - a)).flatMap fun j=>dZ (l ++ [j]) (dw m many (j + 1))) = X:=⟨_,rfl⟩
    obtain ⟨Y,hY⟩:∃ Y,dZ (l ++ [i]) (dw m many (i + 1)) = Y:=⟨_,rfl⟩
    rw [hX] at hfl hstep;simp only [hY] at hstep hali hii;have hXl:(eb X).length ≤ 1024 * 20:=by unfold eb; rw [List.length_map]; exact Nat.le_trans hfl (Nat.mul_le_mul_left _ (by omega))
    have hYl:(eb Y).length ≤ 1024:=by unfold eb; rw [List.length_map]; exact hali
    have hfY:=qp Y;rw [hX];refine aa _ ?_;simp [hltI,hfi,fits_int,w1];refine ⟨by omega,by omega,ah.pure PX (hii _) ?_⟩;simp [hfY,hw];exact ⟨by omega,i + 1,by omega,q + 1,⟨⟨by rw [hstep]; simp [eb],rfl⟩,by simp⟩,rfl,by omega,by omega⟩
   ·have him2:i - a = m - a:=by omega
    refine aa _ ?_;simp [show ¬ (i:Int) < m by omega,him2]
set_option maxRecDepth 100000
set_option maxHeartbeats 6000000
theorem PQ (l:List Nat) (i:Nat):((aY l).any fun x=>decide (x = (i:Int))) = decide (i ∈ l):=by
 rw [Bool.eq_iff_iff,List.any_eq_true,decide_eq_true_eq];constructor
 ·rintro ⟨x,hx,e⟩;obtain ⟨j,hj,rfl⟩:=List.mem_map.1 hx;have:j = i:=by have:=of_decide_eq_true e; omega
  exact this ▸ hj
 ·intro h;exact ⟨(i:Int),List.mem_map_of_mem h,by simp⟩
theorem PW (m i:Nat):ij (PB (i:Int)) m = eO m i:=by
 unfold ij eO;apply List.filter_congr;intro x _;unfold PB;rw [Bool.eq_iff_iff,decide_eq_true_eq,decide_eq_true_eq]; omega
theorem Py (y:ab) (hy:dz y) (wh:Nat) (hwh:wh ≤ 255) (bits:Nat) (hb:bits ≤ 65535) (σ:af) :
  Spec Tryz.prog P2 [y.v, .int .u8 wh, .int .u16 bits] σ fun r σ'=>r = .ret (.bool true) ∧ σ' = σ:=by
 refine Spec.aI (P9 (by simp) ?_) (by simp [y.pure,aK,ag.pure]) rfl σ;have hmu:=fun σ=>sD y hy σ
 have hma:=fun σ=>ua y hy σ
 have hfe:=fun σ=>jq y hy σ
 have hva:=fun σ=>uA y hy σ
 by_cases hen:eo y = 0;rotate_left
 ·obtain ⟨e,he⟩:∃ e,eo y = e:=⟨_,rfl⟩
  have e1:Cc y = ([],e):=by unfold Cc; rw [if_pos hen,he]
  have e2:GK y = ([],e):=by unfold GK; rw [if_pos hen,he]
  have e3:gN y = ([],e):=by unfold gN; rw [if_pos hen,he]
  rw [e1] at hmu;rw [e2] at hma;rw [e3] at hfe;rw [he] at hen;obtain ⟨b,hbv⟩:∃ b,decide ((bt aN y).2.2 = 0) = b:=⟨_,rfl⟩
  rw [hbv] at hva;simp only [ab.v,ab.cells] at hmu hma hfe hva;cases b
  all_goals refine aa _ ?_
  all_goals simp [PV,ab.v,ab.cells]
  all_goals refine ah.pure Nw (hmu _) ?_
  all_goals simp
  all_goals refine ah.pure OW (hma _) ?_
  all_goals simp
  all_goals refine ah.pure Es (hfe _) ?_
  all_goals simp
  all_goals refine ah.pure Gj (hva _) ?_
  all_goals simp [hen]
  all_goals refine ah.pure oL (bL _) ?_
  all_goals simp [hen]
 have hv:=uQ hen;have hm10:=hv.m10;have h0:=(ea aN y).2 hv;rw [decide_eq_true h0] at hva;have hall:aF y (List.range y.papers.length) = true:=by
  have:=rS hv;rw [hen] at this
  cases hq:aF y (List.range y.papers.length) with
  | true=>rfl
  | false=>rw [hq] at this; exact absurd this (by decide)
 obtain ⟨l,hl⟩:=(A4 hv).2 (by rw [xK]; exact hall);obtain ⟨⟨hla,hlc,hlm⟩,hll,_⟩:=rU hl;have e1:Cc y = (Hz y,0):=by unfold Cc; rw [if_neg (by simp [hen])]
 have e2:GK y = (F0 y (atW y l.length),0):=by unfold GK; rw [if_neg (by simp [hen]),(PS hl).1]; rfl
 have e3:gN y = (l,0):=by unfold gN; rw [if_neg (by simp [hen]),hl]
 rw [e1] at hmu;rw [e2] at hma;rw [e3] at hfe;have hmul:(aY (Hz y)).length ≤ y.papers.length:=by
  have:=List.length_filter_le (fun i:Nat=>!aF y (eO y.papers.length i)) (List.range y.papers.length);simp only [aY,List.length_map,Hz];simpa using this
 have hmal:(aY (F0 y (atW y l.length))).length ≤ y.papers.length:=by
  have:=List.length_filter_le (fun i:Nat=>(atW y l.length).any fun l=>pZ l i) (List.range y.papers.length);simp only [aY,List.length_map,F0];simpa using this
 obtain ⟨m,hm⟩:∃ m,y.papers.length = m:=⟨_,rfl⟩
 by_cases hm0:m = 0
 ·subst hm0;have z1:aY (Hz y) = []:=List.length_eq_zero_iff.1 (by omega);have z2:aY (F0 y (atW y l.length)) = []:=List.length_eq_zero_iff.1 (by omega);rw [z1] at hmu;rw [z2] at hma;simp only [ab.v,ab.cells] at hmu hma hfe hva;refine aa _ ?_;simp [PV,ab.v,ab.cells];refine ah.pure Nw (hmu _) ?_;simp;refine ah.pure OW (hma _) ?_;simp;refine ah.pure Es (hfe _) ?_;simp;refine ah.pure Gj (hva _) ?_;simp [hm,show IntKind.i64.wrap (0:Int) = 0 from rfl];refine ah.pure oL (bL _) ?_;simp [hm,show IntKind.i64.wrap (0:Int) = 0 from rfl]
 have hmm:0 < m:=by omega
 have r0:((wh:Int).tmod m) = ((wh % m:Nat):Int):=rfl;have l0:=Nat.mod_lt wh hmm;obtain ⟨i,hi⟩:∃ i,wh % m = i:=⟨_,rfl⟩
 rw [hi] at r0 l0;have cv0:=xb wh hwh;have hmI:¬ (m:Int) = 0:=by omega
 have hil:i < y.papers.length:=by omega
 have hao:qH y.papers.length 0 (j0 bits m):=by rw [hm]; exact nw _ _
 have haa:qH y.papers.length 0 (eO m i):=by rw [hm]; exact nw _ _
 have hso:=fun σ=>vl y hv.m10 bits hb σ
 have hal:=fun σ=>PG y hv.m10 (i:Int) σ
 rw [hm,PW] at hal;rw [hm] at hso;obtain ⟨o,ho⟩:∃ o,j0 bits m = o:=⟨_,rfl⟩
 rw [ho] at hso hao;have hco:=fun σ=>bX y hy (aY o) (uM hv hao) σ
 rw [mi hv hao] at hco;have hca:=fun σ=>bX y hy (aY (eO m i)) (uM hv haa) σ
 rw [mi hv haa] at hca;have hHm:=fun σ=>xq (aY (Hz y)) (by simp only [maxLen]; omega) (i:Int) σ
 have hHa:=fun σ=>xq (aY (F0 y (atW y l.length))) (by simp only [maxLen]; omega) (i:Int) σ
 have hHo:=fun σ=>xq (aY o) (uM hv hao) (i:Int) σ
 rw [PQ] at hHm hHa hHo;have hrest:=PR (y:=y) hil;rw [hm] at hrest;obtain ⟨B,hB⟩:∃ B,aF y o = B:=⟨_,rfl⟩
 obtain ⟨M,hM⟩:∃ M,decide (i ∈ Hz y) = M:=⟨_,rfl⟩
 obtain ⟨O,hO⟩:∃ O,decide (i ∈ o) = O:=⟨_,rfl⟩
 obtain ⟨A,hA⟩:∃ A,decide (i ∈ F0 y (atW y l.length)) = A:=⟨_,rfl⟩
 have hR:aF y (eO m i) = !M:=by
  rw [← hM]
  cases hq:aF y (eO m i) with
  | true=>rw [decide_eq_false (hrest.1 hq)]; rfl
  | false=>
   have:i ∈ Hz y:=by
    cases hd:decide (i ∈ Hz y) with
    | true=>exact of_decide_eq_true hd
    | false=>rw [hrest.2 (of_decide_eq_false hd)] at hq; cases hq
   rw [decide_eq_true this]; rfl
 rw [hR] at hca;rw [hB] at hco;rw [hM] at hHm;rw [hO] at hHo;rw [hA] at hHa;have f1:B = true → M = true → O = true:=fun b1 b2=>by
  rw [← hO]
  cases hd:decide (i ∈ o) with
  | true=>rfl
  | false=>
   have:=PT hv (of_decide_eq_true (hM.trans b2)) hao (of_decide_eq_false hd);rw [hB,b1] at this; cases this
 obtain ⟨oi,hoi⟩:∃ oi,aY o = oi:=⟨_,rfl⟩
 obtain ⟨li,hli⟩:∃ li,aY l = li:=⟨_,rfl⟩
 have hol:oi.length = o.length:=by rw [← hoi]; simp [aY]
 have hlil:li.length = l.length:=by rw [← hli]; simp [aY]
 have f2:B = true → li.length ≤ oi.length:=fun b1=>by have:=hlm o hao (hB.trans b1); omega
 have f3:B = true → oi.length = li.length → O = true → A = true:=fun b1 b2 b3=>by
  rw [← hA];exact decide_eq_true ((PI hl hil).2 ⟨o,hao,by omega,hB.trans b1,of_decide_eq_true (hO.trans b3)⟩)
 have hls:=fun σ=>gi (m:=m) (by omega) l.length [] (by simp; omega) (by simp) σ
 have hah:dZ [] (dw m l.length (PC [])) = dw m l.length 0:=by simp [dZ,PC]
 rw [hah] at hls;obtain ⟨LS,hLS⟩:∃ LS,dw m l.length 0 = LS:=⟨_,rfl⟩
 rw [hLS] at hls;have hLSm:∀ s,s ∈ LS ↔ s.length = l.length ∧ qH y.papers.length 0 s:=fun s=>by rw [← hLS,hm]; exact gP m l.length 0 s
 have hLSl:LS.length ≤ 1024:=by rw [← hLS]; exact zj (by omega) _
 have hnil:aY [] = []:=rfl;rw [hnil] at hls;rw [hli] at hfe;rw [hoi] at hso hco hHo;rw [← hlil] at hls;simp only [ab.v,ab.cells,List.map_nil] at hmu hma hfe hva hal hca hso hco hls;have hcase:(B = false ∧ M = false) ∨ (B = false ∧ M = true) ∨ (B = true ∧ M = false ∧ li.length < oi.length) ∨ (B = true ∧ M = false ∧ oi.length = li.length ∧ O = false) ∨ (B = true ∧ M = false ∧ oi.length = li.length ∧ O = true ∧ A = true) ∨ (B = true ∧ M = true ∧ O = true ∧ li.length < oi.length) ∨ (B = true ∧ M = true ∧ O = true ∧ oi.length = li.length ∧ A = true):=by
  cases B with
  | false=>cases M <;> simp
  | true=>
   have g2:=f2 rfl;rcases Nat.lt_or_ge li.length oi.length with g | g
   ·cases M with
    | false=>simp [g]
    | true=>have:=f1 rfl rfl; simp [g,this]
   ·have ge:oi.length = li.length:=by omega
    cases M with
    | false=>
     cases O with
     | false=>simp [ge]
     | true=>have:=f3 rfl ge rfl; simp [ge,this]
    | true=>
     have g1:=f1 rfl rfl;have g3:=f3 rfl ge g1;simp [ge,g1,g3]
 clear f1 f2 f3 hrest hR;obtain ⟨must,hmust⟩:∃ z,aY (Hz y) = z:=⟨_,rfl⟩
 obtain ⟨may,hmay⟩:∃ z,aY (F0 y (atW y l.length)) = z:=⟨_,rfl⟩
 rw [hmust] at hmu hHm;rw [hmay] at hma hHa;rcases hcase with ⟨rfl,rfl⟩ | ⟨rfl,rfl⟩ | ⟨rfl,rfl,c3⟩ | ⟨rfl,rfl,c3,rfl⟩ | ⟨rfl,rfl,c3,rfl,rfl⟩ | ⟨rfl,rfl,rfl,c3⟩ | ⟨rfl,rfl,rfl,c3,rfl⟩
 all_goals simp only [Bool.not_true,Bool.not_false] at hca
 all_goals refine aa _ ?_
 all_goals simp [PV,ab.v,ab.cells]
 all_goals refine ah.pure Nw (hmu _) ?_
 all_goals simp
 all_goals refine ah.pure OW (hma _) ?_
 all_goals simp
 all_goals refine ah.pure Es (hfe _) ?_
 all_goals simp
 all_goals refine ah.pure Gj (hva _) ?_
 all_goals simp [hm,cv0,r0,hm0]
 all_goals refine ⟨_,fun σ'=>aL.func P8 (hal σ'), ?_⟩
 all_goals simp
 all_goals refine ⟨_,fun σ'=>aL.func oz (hca σ'), ?_⟩
 all_goals simp
 all_goals refine ah.pure Jr (hso _) ?_
 all_goals simp [hm,cv0,r0]
 all_goals refine ah.pure oz (hco _) ?_
 all_goals simp [hm,cv0,r0]
 refine ah.pure IU (hHm _) ?_;simp [hm,cv0,r0];rotate_left;refine ah.pure IU (hHm _) ?_;simp [hm,cv0,r0];rotate_left;have m1:¬ oi.length < li.length:=by omega
 have m2:¬ oi.length = li.length:=by omega
 have m3:¬ (oi.length:Int) < li.length:=by omega
 have m4:¬ (oi.length:Int) = li.length:=by omega
 refine ah.pure IU (hHm _) ?_;simp [hm,cv0,r0];refine ah.pure IU (hHm _) ?_;simp [hm,cv0,r0,m3,m4];rotate_left;have m1:¬ oi.length < li.length:=by omega
 have m3:¬ (oi.length:Int) < li.length:=by omega
 refine ah.pure IU (hHm _) ?_;simp [hm,cv0,r0];refine ah.pure IU (hHm _) ?_;simp [hm,cv0,r0,c3];refine ah.pure IU (hHo _) ?_;simp [hm,cv0,r0,c3];rotate_left;have m1:¬ oi.length < li.length:=by omega
 have m3:¬ (oi.length:Int) < li.length:=by omega
 refine ah.pure IU (hHm _) ?_;simp [hm,cv0,r0];refine ah.pure IU (hHm _) ?_;simp [hm,cv0,r0,c3];refine ah.pure IU (hHo _) ?_;simp [hm,cv0,r0,c3];refine ah.pure IU (hHa _) ?_;simp [hm,cv0,r0,c3];rotate_left;have m1:¬ oi.length < li.length:=by omega
 have m2:¬ oi.length = li.length:=by omega
 have m3:¬ (oi.length:Int) < li.length:=by omega
 have m4:¬ (oi.length:Int) = li.length:=by omega
 refine ah.pure IU (hHm _) ?_;simp [hm,cv0,r0];refine ah.pure IU (hHm _) ?_;simp [hm,cv0,r0];refine ah.pure IU (hHo _) ?_;simp [hm,cv0,r0,m3,m4];rotate_left;have m1:¬ oi.length < li.length:=by omega
 have m3:¬ (oi.length:Int) < li.length:=by omega
 refine ah.pure IU (hHm _) ?_;simp [hm,cv0,r0];refine ah.pure IU (hHm _) ?_;simp [hm,cv0,r0];refine ah.pure IU (hHo _) ?_;simp [hm,cv0,r0,c3];refine ah.pure IU (hHo _) ?_;simp [hm,cv0,r0,c3];refine ah.pure IU (hHa _) ?_;simp [hm,cv0,r0,c3];rotate_left
 all_goals refine ah.pure PX (hls _) ?_
 all_goals simp [hm,cv0,r0]
 all_goals obtain ⟨W,hW⟩:∃ W,decide (i ∈ F0 y (atW y l.length)) = W:=⟨_,rfl⟩
 all_goals have hAW:=hA.symm.trans hW
 all_goals rw [hAW] at hHa
 all_goals clear hAW
 all_goals refine AW.loop (ι:=Nat) (fun n fr σ'=>∃ f:Bool,fr = { v:=[(3, .pval (.agg [.slice 1 (y.kinds.map .str), .slice 1 (y.places.map .str), .slice 4 (y.first.map av.v), .slice 5 (y.papers.map ak.v), .slice 4 (y.last.map av.v)])),(9, .slice 1 (may.map ii')),(13,ii' i),(19, .bool f),(20, .slice 1 (eb LS)),(21, .int .i64 n)],ds:=[] } ∧ n ≤ LS.length ∧ (f = true → W = true) ∧ (f = false → W = true → ∀ s ∈ LS.take n,i ∈ s → aF y s = false)) (fun n=>LS.length - n) 0 ⟨false,by simp,by omega,by simp,by simp⟩ ?_
 all_goals rintro n fr σ' ⟨f,rfl,hn,f1,f2⟩
 all_goals refine (Nat.lt_or_ge n LS.length).elim (fun hlt=>?_) (fun hge=>?_)
 all_goals first
  | (have hnl:¬ n < LS.length:=Nat.not_lt.2 hge
     have hfA:f = W:=by
      cases W with
      | false=>cases f with
       | false=>rfl
       | true=>exact absurd (f1 rfl) (by decide)
      | true=>cases f with
       | true=>rfl
       | false=>
        obtain ⟨s,h1,h2,h3,h4⟩:=(PI hl hil).1 (of_decide_eq_true hW);have:=f2 rfl rfl s (by rw [List.take_of_length_le (by omega)]; exact (hLSm s).2 ⟨h2,h1⟩) h4;rw [h3] at this; cases this
     subst hfA;refine aa _ ?_;simp [eb,hnl];refine ah.pure IU (hHa _) ?_
     cases f <;> simp <;> exact ah.pure oL (bL _) (by simp))
  | (obtain ⟨S,hS⟩:∃ S,LS[n] = S:=⟨_,rfl⟩
     have hSm:=(hLSm S).1 (by rw [← hS]; exact List.getElem_mem hlt);have hcs:=fun σ=>bX y hy (aY S) (uM hv hSm.2) σ
     rw [mi hv hSm.2] at hcs;have hHs:=fun σ=>xq (aY S) (uM hv hSm.2) (i:Int) σ
     rw [PQ] at hHs;simp only [ab.v,ab.cells] at hcs;have hw:IntKind.i64.wrap ((n:Int) + 1) = ((n + 1:Nat):Int):=by rw [aw (by omega) (by omega)]; simp
     obtain ⟨D,hD⟩:∃ D,decide (i ∈ S) = D:=⟨_,rfl⟩
     obtain ⟨E,hE⟩:∃ E,aF y S = E:=⟨_,rfl⟩
     rw [hD] at hHs;rw [hE] at hcs
     have hst:∀ b:Bool,(b = true → W = true) → (D = true → b = E) → f = false → (b = true → W = true) ∧ (b = false → W = true → ∀ s ∈ LS.take (n + 1),i ∈ s → aF y s = false):=fun b g1 g2 g4=>⟨g1,fun h1 h2 s hs his=>by
      rw [List.take_succ_eq_append_getElem hlt,List.mem_append,List.mem_singleton,hS] at hs;rcases hs with hs | hs
      ·exact f2 g4 h2 s hs his
      ·subst hs;have:D = true:=by rw [← hD]; exact decide_eq_true his
       rw [hE, ← g2 this,h1]⟩
     have hEA:D = true → E = true → W = true:=fun h1 h2=>by
      rw [← hW];exact decide_eq_true ((PI hl hil).2 ⟨S,hSm.2,hSm.1,hE.trans h2,of_decide_eq_true (hD.trans h1)⟩)
     cases W
     ·cases f
      ·refine aa _ ?_;simp [eb,hlt];refine ah.pure IU (hHa _) ?_;simp;refine ah.pure IU (hHa _) ?_;simp;refine ah.pure oL (bL _) ?_;simp
      ·exact absurd (f1 rfl) (by decide)
     ·cases f
      ·cases D
       ·have hq:=hst false (by simp) (by simp) rfl;refine aa _ ?_;simp [eb,hlt];refine ah.pure IU (hHa _) ?_;simp [eb,hlt,hS];refine ah.pure IU (hHs _) ?_;simp [eb,hlt,hS,hw];exact ⟨n + 1,by omega,by simp,by omega,by simpa using hq⟩
       ·have hq:=hst E (fun h=>hEA rfl h) (by simp) rfl;refine aa _ ?_;simp [eb,hlt];refine ah.pure IU (hHa _) ?_;simp [eb,hlt,hS];refine ah.pure IU (hHs _) ?_;simp [eb,hlt,hS];refine ⟨_,fun σ' _=>aL.func oz (hcs σ'), ?_⟩;simp [hw];refine ⟨n + 1,by omega, ?_⟩;cases E
        ·exact .inl ⟨⟨rfl,by simp⟩,by omega,by simpa using hq⟩
        ·exact .inr ⟨⟨rfl,by simp⟩,by omega⟩
      ·refine aa _ ?_;simp [eb,hlt];refine ah.pure IU (hHa _) ?_;simp;refine ah.pure IU (hHa _) ?_;simp;refine ah.pure oL (bL _) ?_
       simp)
end Go.AM
