/- Chapter 09: what the program answers on the examples. Awake of chapter 09, by contracts. Chapter 09: the reference's Check. Chapter 09: the reference's paper. Chapter 09: the reference's Check and Wrong; which yards are valid. Chapter 09: WasteProved and WasteRound, by contracts. -/
import Derived.Test.YtlmhkldmpggadaaGreatDoorP29
import Derived.Test.YtlmhkldmpggadaaGreatDoorP20
import Derived.Test.YtlmhkldmpggadaaGreatDoorP23
namespace Go.AM
open Go.Proofs
set_option maxRecDepth 100000
set_option maxHeartbeats 1000000
theorem kF:dz exY:=⟨by decide,by decide,by decide,by decide,by decide⟩
theorem pR:dz exZ:=⟨by decide,by decide,by decide,by decide,by decide⟩
theorem Gz:yT aN:=⟨by decide +kernel,by decide +kernel,by decide +kernel,by decide +kernel⟩
theorem Db (σ:af):Spec Tryz.prog E7 [exY.v, .slice 1 [ii' 1]] σ fun r σ'=>r = .ret (.tup [.bool true,ii' 0]) ∧ σ' = σ:=by
 have h:=bX exY kF [1] (by decide) σ;rw [show dE exY [1] = (true,0) by decide +kernel] at h; exact h
theorem CM (σ:af):Spec Tryz.prog E7 [exY.v, .slice 1 [ii' 0]] σ fun r σ'=>r = .ret (.tup [.bool false,ii' 0]) ∧ σ' = σ:=by
 have h:=bX exY kF [0] (by decide) σ;rw [show dE exY [0] = (false,0) by decide +kernel] at h; exact h
theorem Ji (σ:af):Spec Tryz.prog F4 [exY.v, .slice 1 [ii' 0]] σ fun r σ'=>r = .ret (.tup [.agg [ii' (-1),ii' 0,ii' 1,ii' 100],ii' 0]) ∧ σ' = σ:=by
 have h:=mq exY kF [0] (by decide) σ;have e:(fun r:bj × Int=>(r.1.paper,r.1.kind,r.1.places,r.1.over,r.2)) (vr exY [0]) = (-1,0,1,100,0):=by decide +kernel
 simp only [Prod.mk.injEq] at e;obtain ⟨e1,e2,e3,e4,e5⟩:=e;simp only [bj.v,bj.cells,e1,e2,e3,e4,e5] at h; exact h
theorem yX (n:Int) (hn:n = 100 ∨ n = 99) (σ:af):Spec Tryz.prog G8 [exY.v, .slice 1 [ii' 0], .agg [ii' (-1),ii' 0,ii' 1,ii' n]] σ fun r σ'=>r = .ret (.tup [.bool (decide (n = 100)),ii' 0]) ∧ σ' = σ:=by
 have h:=jB exY kF [0] (by decide) ⟨-1,0,1,n⟩ σ;rcases hn with rfl | rfl
 ·rw [show iE exY [0] ⟨-1,0,1,100⟩ = (true,0) by decide +kernel] at h; exact h
 ·rw [show iE exY [0] ⟨-1,0,1,99⟩ = (false,0) by decide +kernel] at h; exact h
theorem Ew (σ:af):Spec Tryz.prog Gy [exZ.v] σ fun r σ'=>r = .ret (.tup [.slice 1 [ii' 0],ii' 0]) ∧ σ' = σ:=by
 have h:=jq exZ pR σ;rw [show gN exZ = ([0],0) by decide +kernel] at h; exact h
theorem ID (σ:af):Spec Tryz.prog Gq [exY.v] σ fun r σ'=>r = .ret (.tup [.slice 1 [ii' 1],ii' 0]) ∧ σ' = σ:=by
 have h:=sD exY kF σ;rw [show Cc exY = ([1],0) by decide +kernel] at h; exact h
theorem Kh (σ:af):Spec Tryz.prog G1 [exZ.v] σ fun r σ'=>r = .ret (.tup [.slice 1 [ii' 0,ii' 1],ii' 0]) ∧ σ' = σ:=by
 have h:=ua exZ pR σ;rw [show GK exZ = ([0,1],0) by decide +kernel] at h; exact h
theorem Ha (σ:af):Spec Tryz.prog CY [exZ.v, .slice 1 [ii' 0,ii' 1],ii' 0] σ fun r σ'=>r = .ret (.tup [.agg [ii' 500,ii' 600],ii' 0]) ∧ σ' = σ:=by
 have h:=gz exZ pR [0,1] (by decide) 0 σ;have e0:fJ exZ [0,1] (fw exZ 0) = 0:=by decide +kernel
 rw [e0] at h;refine h.mono ?_;rintro r σ' ⟨⟨lo,hi,rfl,_,h2⟩,rfl⟩;obtain ⟨rfl,rfl⟩:=DI (Ah Gz) (h2 rfl);exact ⟨rfl,rfl⟩
theorem I5 (σ:af):Spec Tryz.prog Ea [exY.v, .slice 1 [ii' 1],ii' 0] σ fun r σ'=>r = .ret (.tup [.agg [ii' 300,ii' 300],ii' 0]) ∧ σ' = σ:=by
 have h:=ld exY kF [1] (by decide) 0 σ;have e0:fJ exY [1] (fY exY 0) = 0:=by decide +kernel
 rw [e0] at h;refine h.mono ?_;rintro r σ' ⟨⟨lo,hi,rfl,_,h2⟩,rfl⟩;obtain ⟨rfl,rfl⟩:=F7 (IL Gz) (h2 rfl);exact ⟨rfl,rfl⟩
theorem I0 (σ:af):Spec Tryz.prog CY [exY.v, .slice 1 [ii' 0],ii' 0] σ fun r σ'=>r = .ret (.tup [.agg [ii' 0,ii' 0],ii' 9]) ∧ σ' = σ:=by
 have h:=gz exY kF [0] (by decide) 0 σ;have e0:fJ exY [0] (fw exY 0) = 9:=by decide +kernel
 rw [e0] at h;refine h.mono ?_;rintro r σ' ⟨⟨lo,hi,rfl,h1,_⟩,rfl⟩;obtain ⟨rfl,rfl⟩:=h1 (by decide);exact ⟨rfl,rfl⟩
theorem G9 (σ:af):Spec Tryz.prog GV [exZ.v] σ fun r σ'=>r = .ret (.tup [.str l6,ii' 0]) ∧ σ' = σ:=by
 have h:=gv exZ pR σ;have e:fq exZ = (dj exZ,0):=by unfold fq; rw [if_neg (by simpa using (ea aN exZ).2 (Ah Gz))]
 rw [e,yN] at h; exact h
theorem I4 (σ:af):Spec Tryz.prog Gr [.str l6] σ fun r σ'=>r = .ret (.tup [exZ.v,ii' 0]) ∧ σ' = σ:=by
 have h:=eX l6 σ;have e:gf l6 = (exZ,0):=by
  unfold gf;rw [if_neg (by decide +kernel),show aE l6 = nu from rfl,Fp lO Gz]
 rw [e] at h; exact h
set_option maxRecDepth 100000
set_option maxHeartbeats 1000000
def yq:List b8 → Bool
 | []=>true
 | .no :: r=>yq r
 | _=>false
theorem tr (bef:List (List Nat)) (j:Nat):∀ (l:List b8) (i:Nat),jG bef j .no l i = true
 | [],_=>rfl
 | f :: r,i=>by
  have e:b8.n8 .no f = false:=by cases f <;> rfl
  simp only [jG,e,tr bef j r (i + 1)]; rfl
theorem vX:∀ {l:List b8},yq l = true → ∀ e ∈ l,e = .no
 | [],_,e,h=>by cases h
 | .no :: r,h,e,he=>by
  rcases List.mem_cons.1 he with rfl | he
  ·rfl
  ·exact vX (l:=r) h e he
 | .rd _ :: _,h,_,_=>by cases h
 | .al _ :: _,h,_,_=>by cases h
 | .wr _ _ :: _,h,_,_=>by cases h
theorem A0 (bef:List (List Nat)):∀ (l p:List b8) (i:Nat),(∀ e ∈ l,e = .no) → eF bef p l i = true:=by
 intro l
 induction l with
 | nil=>intro p i _; rfl
 | cons a r ih=>
  intro p i h;have ha:=h a (by simp);subst ha;simp only [eF,tr,ih _ _ (fun e he=>h e (by simp [he]))]; rfl
def E3 (t:Nat) (σ:af) (e:Env) (σ':af) (es:List b8):Prop:=e.get t = .bool true ∧ σ' = σ ∧ yq es = true
theorem CU {sz bytes:Nat} {σ:af} {x y:ag} {K K':ag → b8 → Prop} (h:∀ v f,K' v f → K v f) (hd:vk sz bytes σ x y K'):vk sz bytes σ x y K:=by
 obtain ⟨_,_,_,_,_,_,_,_,_,hk,_,hr⟩:=lU hd;exact hr K (h _ _ hk)
theorem AF {P:Program} {K K':Env → af → List b8 → Prop} (h:∀ e σ es,K' e σ es → K e σ es):∀ {ops:List aD} {e:Env} {σ:af} {es:List b8},bP P ops e σ es K' → bP P ops e σ es K:=by
 intro ops
 induction ops with
 | nil=>intro e σ es hd; exact h _ _ _ hd
 | cons o r ih=>
  intro e σ es hd;obtain ⟨d,g,i⟩:=o
  cases hc:dO g e with
  | none=>simp only [bP,hc] at hd
  | some c=>
   cases i
   all_goals simp only [bP,hc] at hd ⊢
   all_goals first
    | exact ⟨hd.1,hd.2.1,ih hd.2.2⟩
    | exact ⟨hd.1,hd.2.1,hd.2.2.1,ih hd.2.2.2⟩
    | exact ⟨hd.1,ih hd.2⟩
    | exact ⟨hd.1,hd.2.1,hd.2.2.1,hd.2.2.2.1,ih hd.2.2.2.2⟩
    | (obtain ⟨v,h1,h2⟩:=hd; exact ⟨v,h1,ih h2⟩)
    | (obtain ⟨h1,h2,v,h3,h4⟩:=hd; exact ⟨h1,h2,v,h3,ih h4⟩)
    | (obtain ⟨h1,h2,h3⟩:=hd; exact ⟨h1,h2,CU (fun v f hv=>ih hv) h3⟩)
    | (obtain ⟨h1,h2,h3,h4⟩:=hd
       refine ⟨h1,h2,h3, ?_⟩
       split at h4
       ·exact ih h4
       ·exact h4)
    | (split at hd
       ·rename_i h0; rw [if_pos h0]; exact ⟨hd.1,ih hd.2⟩
       ·rename_i h0;rw [if_neg h0]
        split at hd
        ·rename_i h1; rw [if_pos h1]; exact ⟨hd.1,hd.2.1,hd.2.2.1,ih hd.2.2.2⟩
        ·rename_i h1; rw [if_neg h1]; exact ⟨hd.1,hd.2.1,hd.2.2.1,hd.2.2.2.1,ih hd.2.2.2.2⟩)
    | skip
theorem Au {P:Program} {ops:List aD} {e:Env} {σ:af} {K:Env → af → List b8 → Prop} (t:Nat) (h:bP P ops e σ [] (E3 t σ)) (hk:∀ e es,e.get t = .bool true → yq es = true → K e σ es):bP P ops e σ [] K:=
 AF (fun e σ' es h=>by obtain ⟨h1,rfl,h3⟩:=h; exact hk e es h1 h3) h
theorem bL (σ:af):Spec Tryz.prog Jq [] σ fun r σ'=>r = .ret (.bool true) ∧ σ' = σ:=by
 refine Spec.aI (NY (by simp) (aa _ ?_)) rfl rfl σ;have hY:=nS false;have hZ:=nS true;rw [show exW false = exY from rfl] at hY;rw [show exW true = exZ from rfl] at hZ;have c1:=Db;have c0:=CM;have w0:=Ji;have p1:=yX 100 (.inl rfl);have p2:=yX 99 (.inr rfl);rw [show decide ((100:Int) = 100) = true from rfl] at p1;rw [show decide ((99:Int) = 100) = false from rfl] at p2;have fe:=Ew;have mu:=ID;have ma:=Kh;have ra:=Ha;have go:=I5;have wr:=G9;have re:=I4;have dn:=I0;simp only [ab.v,ab.cells] at hY hZ c1 c0 w0 p1 p2 fe mu ma ra go wr re dn;simp [Mr];refine ah.pure Lu (hY _) ?_;simp;refine ah.pure Lu (hZ _) ?_;simp;refine ah.pure oz (c1 _) ?_;simp;refine ah.pure oz (c0 _) ?_;simp;refine ah.pure GR (w0 _) ?_;simp;refine ah.pure C0 (p1 _) ?_;simp;refine ah.pure C0 (p2 _) ?_;simp;refine ah.pure Es (fe _) ?_;simp;refine ah.pure Nw (mu _) ?_;simp;refine ah.pure OW (ma _) ?_;simp;refine ah.pure Gc (ra _) ?_;simp;refine ah.pure IM (go _) ?_;simp;refine ah.pure BF (wr _) ?_;simp;refine ah.pure Lj (nK _) ?_;simp;refine ah.pure Bh (re _) ?_;simp;refine ah.pure Gc (dn _) ?_;simp [-bP];refine Au 0 ?_ ?_
 ·have hm:∀ {l:List Int},l.length ≤ 10 → l.length ≤ maxLen:=fun h=>by simp only [maxLen]; omega
  have hs:=nN exZ pR;simp only [ab.v,ab.cells] at hs
  repeat (rw [bP]; simp [-bP])
  refine ⟨.bool true,fun σ'=>aL.func Ir (jW [0] (hm (by simp)) σ'), ?_⟩
  repeat (rw [bP]; simp [-bP])
  refine ⟨.bool true,fun σ'=>aL.func Ir (jW [1] (hm (by simp)) σ'), ?_⟩
  repeat (rw [bP]; simp [-bP])
  refine ⟨.bool true,fun σ'=>aL.func Ir (jW [0,1] (hm (by simp)) σ'), ?_⟩
  repeat (rw [bP]; simp [-bP])
  refine ⟨_,fun σ'=>aL.func C9 (dJ 500 600 σ'), ?_⟩
  repeat (rw [bP]; simp [-bP])
  refine ⟨_,fun σ'=>aL.func C9 (dJ 300 300 σ'), ?_⟩
  repeat (rw [bP]; simp [-bP])
  have hp1:=aC (f:=ag.str) (fun _=>rfl) exZ.kinds;have hp2:=aC (f:=ag.str) (fun _=>rfl) exZ.places;have hp3:=aC (f:=av.v) (fun c=>c.pure) exZ.first
  have hp4:=aC (f:=ak.v) (fun c=>c.pure) exZ.papers;have hp5:=aC (f:=av.v) (fun c=>c.pure) exZ.last;refine ⟨.str l6,fun σ'=>aL.func Lj (nK σ'), ?_⟩
  repeat (rw [bP]; simp [-bP])
  refine ⟨.bool true,fun σ' _=>aL.func Iu (hs σ'), ?_⟩
  repeat (rw [bP]; simp [-bP])
  simp [E3,yq,hp1,hp2,hp3,hp4,hp5]
 ·intro e es h1 h2;have hcl:∀ bef,eF bef [] es.reverse 0 = true:=fun bef=>A0 bef _ [] 0 (by intro x hx; exact vX h2 x (List.mem_reverse.1 hx))
  simp [hcl,h1]
set_option maxRecDepth 100000
set_option maxHeartbeats 1000000
theorem cO (n lo hi:Int) (σ:af):Spec Tryz.prog JH [ii' n,ii' lo,ii' hi] σ fun r σ'=>r = .ret (.bool (inI n lo hi)) ∧ σ' = σ:=by
 refine Spec.aI (Oe (by simp) (aa _ ?_)) rfl rfl σ;unfold inI;by_cases h1:lo ≤ n <;> by_cases h2:n ≤ hi <;> simp [Ky,h1,h2]
theorem wG (s:ByteArray):∀ (l:List ByteArray) (i:Nat),(0 ≤ kJ l s i) ↔ l.any (fun t=>decide (t = s)) = true
 | [],i=>by simp [kJ]
 | a :: r,i=>by
  have ih:=wG s r (i + 1);rw [List.any_cons,Bool.or_eq_true,decide_eq_true_eq];unfold kJ;by_cases h:a = s
  ·rw [if_pos (by rw [h]; simp)]; exact ⟨fun _=>.inl h,fun _=>by omega⟩
  ·have hb:¬ (a.toList == s.toList) = true:=by rw [nmd,decide_eq_true_eq]; exact h
   rw [if_neg hb,ih];exact ⟨.inr,fun e=>e.elim (fun e=>absurd e h) id⟩
theorem DB (l:List ByteArray) (i:Nat) (s:ByteArray):pf s (l.take i) = eS aN l i s:=by
 have hp:=wG s (l.take i) 0;unfold pf eS
 cases aN s with
 | false=>rfl
 | true=>
  by_cases h:(l.take i).any (fun t=>decide (t = s)) = true
  ·simp only [if_pos (hp.2 h),if_pos h]; rfl
  ·simp only [if_neg (fun e=>h (hp.1 e)),if_neg h]; rfl
theorem mU {α:Type} (f:Nat → α → Int) (l:List α) {i:Nat} (h:i < l.length):ay f (l.drop i) i = if f i l[i] ≠ 0 then ((i:Int),f i l[i]) else ay f (l.drop (i + 1)) (i + 1):=by
 rw [List.drop_eq_getElem_cons h]; rfl
theorem l9 (l:List ByteArray) (hl:l.length ≤ maxLen) (σ:af):Spec Tryz.prog Iq [.slice 1 (l.map .str)] σ fun r σ'=>r = .ret (.tup [ii' (ay (eS aN l) l 0).1,ii' (ay (eS aN l) l 0).2]) ∧ σ' = σ:=by
 refine Spec.aI (Nk (by simp) (aa _ ?_)) (by simp [aK,ag.pure,aC (f:=ag.str) (fun _=>rfl)]) rfl σ;simp [Kj];refine AW.loop (ι:=Nat) (fun i fr σ=>fr = { v:=[(0, .slice 1 (l.map .str)),(4, .int .i64 i)],ds:=[] } ∧ i ≤ l.length ∧ ay (eS aN l) l 0 = ay (eS aN l) (l.drop i) i) (fun i=>l.length - i) 0 (by simp) ?_;rintro i fr σ ⟨rfl,hi,hp⟩;refine (Nat.lt_or_ge i l.length).elim (fun hlt=>?_) (fun hge=>?_)
 ·rw [mU _ l hlt, ← DB] at hp;obtain ⟨x,hx⟩:∃ x,l[i] = x:=⟨_,rfl⟩
  rw [hx] at hp;have hf:=fun σ=>um (l.take i) x (by rw [List.length_take]; omega) σ
  have htk:List.take i (l.map ag.str) = (l.take i).map ag.str:=by rw [List.map_take]
  have hw:IntKind.i64.wrap ((i:Int) + 1) = ((i + 1:Nat):Int):=by rw [aw (by omega) (by simp only [maxLen] at hl; omega)]; simp
  rw [List.map_take] at hf;by_cases h0:pf x (l.take i) = 0
  ·rw [if_neg (by simp [h0])] at hp;rw [h0] at hf;rw [hp];refine aa _ ?_;simp [hlt,hx];refine ⟨by omega,_,fun σ' _=>aL.func HD (hf σ'), ?_⟩;simp [hw];exact ⟨i + 1,by omega,rfl,by omega,rfl⟩
  ·rw [if_pos h0] at hp;rw [hp];obtain ⟨e,he⟩:∃ e,pf x (l.take i) = e:=⟨_,rfl⟩
   rw [he] at hf h0 ⊢;refine aa _ ?_;simp [hlt,hx];refine ⟨by omega,_,fun σ' _=>aL.func HD (hf σ'), ?_⟩;simp [h0]
 ·have hd:l.drop i = []:=List.drop_eq_nil_of_le hge;rw [hd] at hp;rw [hp];refine aa _ ?_;simp [show ¬ i < l.length by omega,ay]
theorem EC (a b:Int):gM (a,b) 0 1000000 = if inI a 0 1000000 = false ∨ inI b 0 1000000 = false then 7 else if a > b then 2 else 0:=by
 unfold gM va inI;by_cases h1:0 ≤ a <;> by_cases h2:a ≤ 1000000 <;> by_cases h3:0 ≤ b <;> by_cases h4:b ≤ 1000000 <;> simp [h1,h2,h3,h4]
theorem lA (y:ab) (hy:dz y) (l:List av) (hl:l.length ≤ maxLen) (σ:af) :
  Spec Tryz.prog Jh [y.v, .slice 4 (l.map av.v)] σ fun r σ'=>r = .ret (cz (ay (fo y l) l 0)) ∧ σ' = σ:=by
 refine Spec.aI (Ni (by simp) (aa _ ?_)) (by simp [y.pure,aK,ag.pure,aC (f:=av.v) (fun c=>c.pure)]) (by simp [cz,ag.pure,aK]) σ;have hk:=hy.kinds;have hp:=hy.places;obtain ⟨ks,ps,fs,pp,ls⟩:=y;simp only [maxLen] at hk hp hl;obtain ⟨nk,hnk⟩:∃ nk,(ks.length:Int) - 1 = nk:=⟨_,rfl⟩
 obtain ⟨np,hnp⟩:∃ np,(ps.length:Int) - 1 = np:=⟨_,rfl⟩
 have w1:IntKind.i64.wrap ((ks.length:Int) - 1) = nk:=by rw [aw (by omega) (by omega),hnk]
 have w2:IntKind.i64.wrap ((ps.length:Int) - 1) = np:=by rw [aw (by omega) (by omega),hnp]
 simp [KS,ab.v,ab.cells];refine AW.loop (ι:=Nat) (fun i fr σ=>fr = { v:=[(1, .slice 4 (l.map av.v)),(2, .pval (.agg [.slice 1 (ks.map .str), .slice 1 (ps.map .str), .slice 4 (fs.map av.v), .slice 5 (pp.map ak.v), .slice 4 (ls.map av.v)])),(6, .int .i64 i)],ds:=[] } ∧ i ≤ l.length ∧ ay (fo ⟨ks,ps,fs,pp,ls⟩ l) l 0 = ay (fo ⟨ks,ps,fs,pp,ls⟩ l) (l.drop i) i) (fun i=>l.length - i) 0 (by simp) ?_;rintro i fr σ ⟨rfl,hi,hq⟩;refine (Nat.lt_or_ge i l.length).elim (fun hlt=>?_) (fun hge=>?_);rotate_left
 ·have hd:l.drop i = []:=List.drop_eq_nil_of_le hge;rw [hd] at hq;rw [hq];refine aa _ ?_;simp [show ¬ i < l.length by omega,ay,cz]
 rw [mU _ l hlt] at hq;obtain ⟨⟨k,p,a,b⟩,hx⟩:∃ x,l[i] = x:=⟨_,rfl⟩
 rw [hx] at hq;have hw:IntKind.i64.wrap ((i:Int) + 1) = ((i + 1:Nat):Int):=by rw [aw (by omega) (by omega)]; simp
 have hi1:=fun σ=>cO k 0 nk σ
 have hi2:=fun σ=>cO p 0 np σ
 have hr:=fun σ=>uB a b 0 1000000 σ
 have hE:fo ⟨ks,ps,fs,pp,ls⟩ l i ⟨k,p,a,b⟩ = if inI k 0 nk = false ∨ inI p 0 np = false then 4 else if (l.take i).any (fun d=>decide (d.kind = k) && decide (d.place = p)) = true then 5 else gM (a,b) 0 1000000:=by
  rw [EC, ← hnk, ← hnp]; rfl
 refine (tf (inI k 0 nk)).elim (fun a1=>?_) (fun a1=>?_)
 ·rw [a1] at hi1;rw [if_pos (.inl a1)] at hE;rw [hE,if_pos (by decide)] at hq;rw [hq];refine aa _ ?_;simp [hlt,hx,av.v,av.cells,w1];refine ah.pure ck (hi1 _) ?_;simp [hlt,hx,av.v,av.cells,w1,w2,cz]
 refine (tf (inI p 0 np)).elim (fun a2=>?_) (fun a2=>?_)
 ·rw [a1] at hi1;rw [a2] at hi2;rw [if_pos (.inr a2)] at hE;rw [hE,if_pos (by decide)] at hq;rw [hq];refine aa _ ?_;simp [hlt,hx,av.v,av.cells,w1];refine ah.pure ck (hi1 _) ?_;simp [hlt,hx,av.v,av.cells,w1,w2];refine ah.pure ck (hi2 _) ?_;simp [hlt,hx,av.v,av.cells,w1,w2,cz]
 rw [a1] at hi1;rw [a2] at hi2;rw [if_neg (by simp [a1,a2])] at hE;refine aa _ ?_;simp [hlt,hx,av.v,av.cells,w1];refine ah.pure ck (hi1 _) ?_;simp [hlt,hx,av.v,av.cells,w1,w2];refine ah.pure ck (hi2 _) ?_;simp [hlt,hx,av.v,av.cells,w1,w2,cz];refine AW.loop (ι:=Nat) (fun m fr σ=>fr = { v:=[(1, .slice 4 (l.map av.v)),(2, .pval (.agg [.slice 1 (ks.map .str), .slice 1 (ps.map .str), .slice 4 (fs.map av.v), .slice 5 (pp.map ak.v), .slice 4 (ls.map av.v)])),(6, .int .i64 i),(7, .pval (.agg [ii' k,ii' p,ii' a,ii' b])),(8, .int .i64 m)],ds:=[] } ∧ m ≤ i ∧ (l.take m).any (fun d=>decide (d.kind = k) && decide (d.place = p)) = false) (fun m=>i - m) 0 ⟨rfl,by omega,rfl⟩ ?_;rintro m fr σ ⟨rfl,hm,hno⟩;refine (Nat.lt_or_ge m i).elim (fun hml=>?_) (fun hmg=>?_)
 ·have hmlt:m < l.length:=by omega
  obtain ⟨⟨k',p',a',b'⟩,hx'⟩:∃ x,l[m] = x:=⟨_,rfl⟩
  have hw2:IntKind.i64.wrap ((m:Int) + 1) = ((m + 1:Nat):Int):=by rw [aw (by omega) (by omega)]; simp
  have hst:(l.take (m + 1)).any (fun d=>decide (d.kind = k) && decide (d.place = p)) = (decide (k' = k) && decide (p' = p)):=by
   rw [List.take_succ_eq_append_getElem hmlt,List.any_append,hno,hx']; simp
  by_cases e1:k' = k
  ·by_cases e2:p' = p
   ·have hany:(l.take i).any (fun d=>decide (d.kind = k) && decide (d.place = p)) = true:=by
     rw [List.any_eq_true];exact ⟨l[m],List.mem_take_iff_getElem.2 ⟨m,by omega,rfl⟩,by rw [hx']; simp [e1,e2]⟩
    rw [if_pos hany] at hE;rw [hE,if_pos (by decide)] at hq;rw [hq];refine aa _ ?_;simp [hml,hmlt,hx',av.v,av.cells,e1,e2,cz]
   ·refine aa _ ?_;simp [hml,hmlt,hx',av.v,av.cells,e1,e2,hw2];exact ⟨m + 1,by omega,rfl,by omega,by have h9:=hst.trans (by simp [e2]:_ = false); simpa using h9⟩
  ·refine aa _ ?_;simp [hml,hmlt,hx',av.v,av.cells,e1,hw2];exact ⟨m + 1,by omega,rfl,by omega,by have h9:=hst.trans (by simp [e1]:_ = false); simpa using h9⟩
 ·obtain rfl:m = i:=by omega
  rw [if_neg (by rw [hno]; simp)] at hE;by_cases h0:gM (a,b) 0 1000000 = 0
  ·rw [hE,h0,if_neg (by decide)] at hq;rw [h0] at hr;rw [hq];refine aa _ ?_;simp [hlt];refine ah.pure HH (hr _) ?_;simp [hw];exact ⟨m + 1,by omega,rfl,by omega,rfl⟩
  ·rw [hE,if_pos h0] at hq;rw [hq];obtain ⟨e,he⟩:∃ e,gM (a,b) 0 1000000 = e:=⟨_,rfl⟩
   rw [he] at hr h0 ⊢;refine aa _ ?_;simp [hlt];refine ah.pure HH (hr _) ?_;simp [h0,cz]
set_option maxRecDepth 100000
set_option maxHeartbeats 1000000
theorem tN (y:ab) (hy:dz y) (i:Nat) (hi:i < y.papers.length) (σ:af) :
  Spec Tryz.prog Jo [y.v,ii' i] σ fun r σ'=>r = .ret (ii' (kE y i y.papers[i])) ∧ σ' = σ:=by
 refine Spec.aI (Ow (by simp) ?_) (by simp [y.pure,aK,ag.pure]) rfl σ;have hk:=hy.kinds;have hp:=hy.places;have hm:=hy.papers;obtain ⟨ks,ps,fs,pp,ls⟩:=y;simp only [maxLen] at hk hp hm hi ⊢;obtain ⟨nk,hnk⟩:∃ nk,(ks.length:Int) - 1 = nk:=⟨_,rfl⟩
 obtain ⟨np,hnp⟩:∃ np,(ps.length:Int) - 1 = np:=⟨_,rfl⟩
 obtain ⟨nm,hnm⟩:∃ nm,(pp.length:Int) - 1 = nm:=⟨_,rfl⟩
 have w1:IntKind.i64.wrap ((ks.length:Int) - 1) = nk:=by rw [aw (by omega) (by omega),hnk]
 have w2:IntKind.i64.wrap ((ps.length:Int) - 1) = np:=by rw [aw (by omega) (by omega),hnp]
 have w3:IntKind.i64.wrap ((pp.length:Int) - 1) = nm:=by rw [aw (by omega) (by omega),hnm]
 obtain ⟨⟨k,s,d,n,c⟩,hx⟩:∃ x,pp[i] = x:=⟨_,rfl⟩
 have hI1:=fun σ=>cO k 0 nk σ
 have hI2:=fun σ=>cO s (-1) np σ
 have hI3:=fun σ=>cO d (-1) np σ
 have hI4:=fun σ=>cO n 0 1000000 σ
 have hI5:=fun σ=>cO c 0 nm σ
 rw [hx];unfold kE;dsimp only;rw [hnk,hnp,hnm];by_cases a1:inI k 0 nk = false
 ·rw [a1] at hI1;rw [if_pos (.inl a1)];refine aa _ ?_;simp [vm,ab.v,ab.cells,hi,hx,ak.v,ak.cells,w1];refine ah.pure ck (hI1 _) ?_;simp [hi,hx,ak.v,ak.cells,w1,w2]
 by_cases a2:inI s (-1) np = false
 ·rw [Bool.not_eq_false] at a1;rw [a1] at hI1;rw [a2] at hI2;rw [if_pos (.inr (.inl a2))];refine aa _ ?_;simp [vm,ab.v,ab.cells,hi,hx,ak.v,ak.cells,w1];refine ah.pure ck (hI1 _) ?_;simp [hi,hx,ak.v,ak.cells,w1,w2];refine ah.pure ck (hI2 _) ?_;simp [hi,hx,ak.v,ak.cells,w1,w2]
 by_cases a3:inI d (-1) np = false
 ·rw [Bool.not_eq_false] at a1 a2;rw [a1] at hI1;rw [a2] at hI2;rw [a3] at hI3;rw [if_pos (.inr (.inr a3))];refine aa _ ?_;simp [vm,ab.v,ab.cells,hi,hx,ak.v,ak.cells,w1];refine ah.pure ck (hI1 _) ?_;simp [hi,hx,ak.v,ak.cells,w1,w2];refine ah.pure ck (hI2 _) ?_;simp [hi,hx,ak.v,ak.cells,w1,w2];refine ah.pure ck (hI3 _) ?_;simp [hi,hx,ak.v,ak.cells,w1,w2]
 rw [if_neg (by simp [a1,a2,a3])];rw [Bool.not_eq_false] at a1 a2 a3;rw [a1] at hI1;rw [a2] at hI2;rw [a3] at hI3;by_cases a4:s = d
 ·rw [if_pos a4];refine aa _ ?_;simp [vm,ab.v,ab.cells,hi,hx,ak.v,ak.cells,w1];refine ah.pure ck (hI1 _) ?_;simp [hi,hx,ak.v,ak.cells,w1,w2];refine ah.pure ck (hI2 _) ?_;simp [hi,hx,ak.v,ak.cells,w1,w2];refine ah.pure ck (hI3 _) ?_;simp [hi,hx,ak.v,ak.cells,w1,w2,a4]
 rw [if_neg a4];by_cases a5:inI n 0 1000000 = false
 ·rw [a5] at hI4;rw [if_pos a5];refine aa _ ?_;simp [vm,ab.v,ab.cells,hi,hx,ak.v,ak.cells,w1];refine ah.pure ck (hI1 _) ?_;simp [hi,hx,ak.v,ak.cells,w1,w2];refine ah.pure ck (hI2 _) ?_;simp [hi,hx,ak.v,ak.cells,w1,w2];refine ah.pure ck (hI3 _) ?_;simp [hi,hx,ak.v,ak.cells,w1,w2,a4];refine ah.pure ck (hI4 _) ?_;simp [hi,hx,ak.v,ak.cells,w1,w2,w3]
 rw [if_neg a5];rw [Bool.not_eq_false] at a5;rw [a5] at hI4;by_cases a6:c = -1
 ·rw [if_pos a6];refine aa _ ?_;simp [vm,ab.v,ab.cells,hi,hx,ak.v,ak.cells,w1];refine ah.pure ck (hI1 _) ?_;simp [hi,hx,ak.v,ak.cells,w1,w2];refine ah.pure ck (hI2 _) ?_;simp [hi,hx,ak.v,ak.cells,w1,w2];refine ah.pure ck (hI3 _) ?_;simp [hi,hx,ak.v,ak.cells,w1,w2,a4];refine ah.pure ck (hI4 _) ?_;simp [hi,hx,ak.v,ak.cells,w1,w2,w3,a6]
 rw [if_neg a6];by_cases a7:inI c 0 nm = false
 ·rw [a7] at hI5;rw [if_pos (.inl a7)];refine aa _ ?_;simp [vm,ab.v,ab.cells,hi,hx,ak.v,ak.cells,w1];refine ah.pure ck (hI1 _) ?_;simp [hi,hx,ak.v,ak.cells,w1,w2];refine ah.pure ck (hI2 _) ?_;simp [hi,hx,ak.v,ak.cells,w1,w2];refine ah.pure ck (hI3 _) ?_;simp [hi,hx,ak.v,ak.cells,w1,w2,a4];refine ah.pure ck (hI4 _) ?_;simp [hi,hx,ak.v,ak.cells,w1,w2,w3,a6];refine ah.pure ck (hI5 _) ?_;simp [hi,hx,ak.v,ak.cells,w1,w2,w3]
 rw [Bool.not_eq_false] at a7;rw [a7] at hI5;by_cases a8:c = (i:Int)
 ·rw [if_pos (.inr a8)];refine aa _ ?_;simp [vm,ab.v,ab.cells,hi,hx,ak.v,ak.cells,w1];refine ah.pure ck (hI1 _) ?_;simp [hi,hx,ak.v,ak.cells,w1,w2];refine ah.pure ck (hI2 _) ?_;simp [hi,hx,ak.v,ak.cells,w1,w2];refine ah.pure ck (hI3 _) ?_;simp [hi,hx,ak.v,ak.cells,w1,w2,a4];refine ah.pure ck (hI4 _) ?_;simp [hi,hx,ak.v,ak.cells,w1,w2,w3,a6];refine ah.pure ck (hI5 _) ?_;simp [hi,hx,ak.v,ak.cells,w1,w2,w3,a8]
 rw [if_neg (by simp [a7,a8])];have h7:0 ≤ c ∧ c ≤ nm:=by simpa [inI] using a7
 obtain ⟨j,rfl⟩:∃ j:Nat,c = j:=⟨c.toNat,by omega⟩
 have hj:j < pp.length:=by omega
 have hjI:(j:Int) < pp.length:=by omega
 obtain ⟨⟨k2,s2,d2,n2,c2⟩,hx2⟩:∃ x,pp[j] = x:=⟨_,rfl⟩
 have hget:pp[(j:Int).toNat]? = some ⟨k2,s2,d2,n2,c2⟩:=by rw [Int.toNat_natCast,List.getElem?_eq_getElem hj,hx2]
 have h60:¬ (j:Int) = -1:=a6;rw [hget];dsimp only;have hcase:¬ c2 = (i:Int) ∨ (c2 = (i:Int) ∧ ¬ k2 = k) ∨ (c2 = (i:Int) ∧ k2 = k ∧ ¬ s2 = s) ∨ (c2 = (i:Int) ∧ k2 = k ∧ s2 = s ∧ ¬ d2 = d) ∨ (c2 = (i:Int) ∧ k2 = k ∧ s2 = s ∧ d2 = d):=by
  by_cases b1:c2 = (i:Int) <;> by_cases b2:k2 = k <;> by_cases b3:s2 = s <;> by_cases b4:d2 = d <;> simp [b1,b2,b3,b4]
 rcases hcase with b1 | ⟨b1,b2⟩ | ⟨b1,b2,b3⟩ | ⟨b1,b2,b3,b4⟩ | ⟨b1,b2,b3,b4⟩
 all_goals refine aa _ ?_
 all_goals simp [vm,ab.v,ab.cells,hi,hx,ak.v,ak.cells,w1]
 all_goals refine ah.pure ck (hI1 _) ?_
 all_goals simp [hi,hx,ak.v,ak.cells,w1,w2]
 all_goals refine ah.pure ck (hI2 _) ?_
 all_goals simp [hi,hx,ak.v,ak.cells,w1,w2]
 all_goals refine ah.pure ck (hI3 _) ?_
 all_goals simp [hi,hx,ak.v,ak.cells,w1,w2,a4]
 all_goals refine ah.pure ck (hI4 _) ?_
 all_goals simp [hi,hx,ak.v,ak.cells,w1,w2,w3,h60]
 all_goals refine ah.pure ck (hI5 _) ?_
 ·simp [hi,hx,ak.v,ak.cells,w1,w2,w3,a8,hj,hx2,b1]
 ·simp [hi,hx,ak.v,ak.cells,w1,w2,w3,a8,hj,hx2,b1,b2]
 ·simp [hi,hx,ak.v,ak.cells,w1,w2,w3,a8,hj,hx2,b1,b2,b3]
 ·simp [hi,hx,ak.v,ak.cells,w1,w2,w3,a8,hj,hx2,b1,b2,b3,b4]
 ·simp [hi,hx,ak.v,ak.cells,w1,w2,w3,a8,hj,hx2,b1,b2,b3,b4]
set_option maxRecDepth 100000
set_option maxHeartbeats 1000000
theorem lY (y:ab) (hy:dz y) (σ:af):Spec Tryz.prog Is [y.v] σ fun r σ'=>r = .ret (cw (bt aN y)) ∧ σ' = σ:=by
 refine Spec.aI (Pf (by simp) ?_) (by simp [y.pure,aK]) (by simp [cw,ag.pure,aK]) σ;have hI1:=fun σ=>cO y.kinds.length 1 4 σ
 have hI2:=fun σ=>cO y.places.length 1 4 σ
 have hn1:=fun σ=>l9 y.kinds hy.kinds σ
 have hn2:=fun σ=>l9 y.places hy.places σ
 have hc1:=fun σ=>lA y hy y.first hy.first σ
 have hc2:=fun σ=>lA y hy y.last hy.last σ
 have hpp:=fun i hi σ=>tN y hy i hi σ
 have hm:=hy.papers;simp only [ab.v,ab.cells,cz] at hc1 hc2 hpp;by_cases a1:inI y.kinds.length 1 4 = false
 ·have hv:bt aN y = (1,0,3):=by unfold bt; rw [if_pos (.inl a1)]
  rw [hv];rw [a1] at hI1;refine aa _ ?_;simp [zh,ab.v,ab.cells];refine ah.pure ck (hI1 _) ?_;simp [cw]
 rw [Bool.not_eq_false] at a1;rw [a1] at hI1;by_cases a2:inI y.places.length 1 4 = false
 ·have hv:bt aN y = (1,0,3):=by unfold bt; rw [if_pos (.inr (.inl a2))]
  rw [hv];rw [a2] at hI2;refine aa _ ?_;simp [zh,ab.v,ab.cells];refine ah.pure ck (hI1 _) ?_;simp;refine ah.pure ck (hI2 _) ?_;simp [cw]
 rw [Bool.not_eq_false] at a2;rw [a2] at hI2;by_cases a3:10 < y.papers.length ∨ 8 < y.first.length ∨ 8 < y.last.length
 ·have hv:bt aN y = (1,0,3):=by unfold bt; rw [if_pos (.inr (.inr a3))]
  rw [hv];by_cases b1:10 < y.papers.length <;> by_cases b2:8 < y.first.length
  all_goals have b1I:(10 < y.papers.length) ↔ (10:Int) < y.papers.length:=by omega
  all_goals have b2I:(8 < y.first.length) ↔ (8:Int) < y.first.length:=by omega
  all_goals have b3I:(8 < y.last.length) ↔ (8:Int) < y.last.length:=by omega
  all_goals rw [b1I] at b1
  all_goals rw [b2I] at b2
  all_goals rw [b1I,b2I,b3I] at a3
  all_goals refine aa _ ?_
  all_goals simp [zh,ab.v,ab.cells]
  all_goals refine ah.pure ck (hI1 _) ?_
  all_goals simp
  all_goals refine ah.pure ck (hI2 _) ?_
  ·simp [cw,b1]
  ·simp [cw,b1]
  ·simp [cw,b1,b2]
  ·have b3:(8:Int) < y.last.length:=a3.elim (fun h=>absurd h b1) fun h=>h.elim (fun h=>absurd h b2) id
   simp [cw,b1,b2,b3]
 have b1:¬ (10:Int) < y.papers.length:=by omega
 have b2:¬ (8:Int) < y.first.length:=by omega
 have b3:¬ (8:Int) < y.last.length:=by omega
 have hv:bt aN y = if (ay (eS aN y.kinds) y.kinds 0).2 ≠ 0 then (2,ay (eS aN y.kinds) y.kinds 0)
   else if (ay (eS aN y.places) y.places 0).2 ≠ 0 then (3,ay (eS aN y.places) y.places 0)
   else if (ay (fo y y.first) y.first 0).2 ≠ 0 then (4,ay (fo y y.first) y.first 0)
   else if (ay (kE y) y.papers 0).2 ≠ 0 then (5,ay (kE y) y.papers 0)
   else if (ay (fo y y.last) y.last 0).2 ≠ 0 then (6,ay (fo y y.last) y.last 0)
   else (0,0,0):=by unfold bt; rw [if_neg (by rw [a1,a2]; simpa using a3)]
 rw [hv];obtain ⟨⟨i1,e1⟩,h1⟩:∃ p,ay (eS aN y.kinds) y.kinds 0 = p:=⟨_,rfl⟩
 obtain ⟨⟨i2,e2⟩,h2⟩:∃ p,ay (eS aN y.places) y.places 0 = p:=⟨_,rfl⟩
 obtain ⟨⟨i3,e3⟩,h3⟩:∃ p,ay (fo y y.first) y.first 0 = p:=⟨_,rfl⟩
 obtain ⟨⟨i5,e5⟩,h5⟩:∃ p,ay (fo y y.last) y.last 0 = p:=⟨_,rfl⟩
 rw [h1] at hn1;rw [h2] at hn2;rw [h3] at hc1;rw [h5] at hc2;rw [h1,h2,h3,h5];dsimp only at hn1 hn2 hc1 hc2 ⊢;by_cases z1:e1 = 0;rotate_left
 ·rw [if_pos z1];refine aa _ ?_;simp [zh,ab.v,ab.cells];refine ah.pure ck (hI1 _) ?_;simp;refine ah.pure ck (hI2 _) ?_;simp [b1,b2,b3];refine ah.pure AB (hn1 _) ?_;simp [z1,cw]
 rw [if_neg (by simp [z1])];by_cases z2:e2 = 0;rotate_left
 ·rw [if_pos z2];refine aa _ ?_;simp [zh,ab.v,ab.cells];refine ah.pure ck (hI1 _) ?_;simp;refine ah.pure ck (hI2 _) ?_;simp [b1,b2,b3];refine ah.pure AB (hn1 _) ?_;simp [z1];refine ah.pure AB (hn2 _) ?_;simp [z2,cw]
 rw [if_neg (by simp [z2])];by_cases z3:e3 = 0;rotate_left
 ·rw [if_pos z3];refine aa _ ?_;simp [zh,ab.v,ab.cells];refine ah.pure ck (hI1 _) ?_;simp;refine ah.pure ck (hI2 _) ?_;simp [b1,b2,b3];refine ah.pure AB (hn1 _) ?_;simp [z1];refine ah.pure AB (hn2 _) ?_;simp [z2];refine ah.pure JA (hc1 _) ?_;simp [z3,cw]
 rw [if_neg (by simp [z3])];refine aa _ ?_;simp [zh,ab.v,ab.cells];refine ah.pure ck (hI1 _) ?_;simp;refine ah.pure ck (hI2 _) ?_;simp [b1,b2,b3];refine ah.pure AB (hn1 _) ?_;simp [z1];refine ah.pure AB (hn2 _) ?_;simp [z2];refine ah.pure JA (hc1 _) ?_;simp [z3];refine AW.loop (ι:=Nat) (fun i fr σ=>fr = { v:=[(1, .pval (.agg [.slice 1 (y.kinds.map .str), .slice 1 (y.places.map .str), .slice 4 (y.first.map av.v), .slice 5 (y.papers.map ak.v), .slice 4 (y.last.map av.v)])),(7, .int .i64 i)],ds:=[] } ∧ i ≤ y.papers.length ∧ ay (kE y) y.papers 0 = ay (kE y) (y.papers.drop i) i) (fun i=>y.papers.length - i) 0 (by simp) ?_;rintro i fr σ ⟨rfl,hi,hq⟩;refine (Nat.lt_or_ge i y.papers.length).elim (fun hlt=>?_) (fun hge=>?_)
 ·rw [mU _ _ hlt] at hq;have hpi:=fun σ=>hpp i hlt σ
  have hw:IntKind.i64.wrap ((i:Int) + 1) = ((i + 1:Nat):Int):=by rw [aw (by omega) (by simp only [maxLen] at hm; omega)]; simp
  obtain ⟨e,he⟩:∃ e,kE y i y.papers[i] = e:=⟨_,rfl⟩
  rw [he] at hpi hq;by_cases h0:e = 0
  ·rw [if_neg (by simp [h0])] at hq;refine aa _ ?_;simp [hlt];refine ah.pure Kb (hpi _) ?_;simp [h0,hw];exact ⟨i + 1,by omega,rfl,by omega,hq⟩
  ·rw [if_pos h0] at hq;rw [hq];refine aa _ ?_;simp [hlt];refine ah.pure Kb (hpi _) ?_;simp [h0,cw]
 ·have hd:y.papers.drop i = []:=List.drop_eq_nil_of_le hge;have hn:ay (kE y) [] i = (0,0):=rfl;rw [hd,hn] at hq;rw [hq];refine aa _ ?_;simp [show ¬ i < y.papers.length by omega];refine ah.pure JA (hc2 _) ?_;by_cases z5:e5 = 0
  ·have hz:=yE (f:=fo y y.last) (l:=y.last) (i:=0) (by rw [h5]; exact z5);simp [z5,cw]
  ·simp [z5,cw]
theorem uA (y:ab) (hy:dz y) (σ:af):Spec Tryz.prog Js [y.v] σ fun r σ'=>r = .ret (.bool (decide ((bt aN y).2.2 = 0))) ∧ σ' = σ:=by
 refine Spec.aI (OU (by simp) (aa _ ?_)) (by simp [y.pure,aK]) rfl σ;have hc:=fun σ=>lY y hy σ
 simp only [ab.v,ab.cells,cw] at hc;simp [Mu,ab.v,ab.cells];refine ah.pure MV (hc _) ?_;by_cases h:(bt aN y).2.2 = 0 <;> simp [h]
theorem lT (y:ab) (hy:dz y) (w:List Int) (hwl:w.length ≤ maxLen) (σ:af) :
  Spec Tryz.prog I2 [y.v, .slice 1 (w.map ii')] σ fun r σ'=>r = .ret (ii' (bQ y w)) ∧ σ' = σ:=by
 refine Spec.aI (Nj (by simp) ?_) (by simp [y.pure,aK,ag.pure,aC (f:=ii') (fun _=>rfl)]) rfl σ;have hc:=fun σ=>lY y hy σ
 have hm:=hy.papers;simp only [maxLen] at hm hwl;simp only [ab.v,ab.cells,cw] at hc;obtain ⟨e0,he0⟩:∃ e,(bt aN y).2.2 = e:=⟨_,rfl⟩
 rw [he0] at hc;have hop:bQ y w = if e0 ≠ 0 then e0 else (ay (sx y w) w 0).2:=by unfold bQ; rw [he0]
 obtain ⟨nm,hnm⟩:∃ nm,(y.papers.length:Int) - 1 = nm:=⟨_,rfl⟩
 have w1:IntKind.i64.wrap ((y.papers.length:Int) - 1) = nm:=by rw [aw (by omega) (by omega),hnm]
 refine aa _ ?_;simp [Mi,ab.v,ab.cells];refine ah.pure MV (hc _) ?_;simp;refine AW.loop (ι:=Nat) (fun m fr σ=>∃ (i:Nat) (e:Int),fr = { v:=[(1, .slice 1 (w.map ii')),(2, .pval (.agg [.slice 1 (y.kinds.map .str), .slice 1 (y.places.map .str), .slice 4 (y.first.map av.v), .slice 5 (y.papers.map ak.v), .slice 4 (y.last.map av.v)])),(7, .int .i64 e),(8, .int .i64 i)],ds:=[] } ∧ m = w.length - i ∧ i ≤ w.length ∧ (e ≠ 0 → bQ y w = e) ∧ (e = 0 → bQ y w = (ay (sx y w) (w.drop i) i).2)) (fun m=>m) w.length ⟨0,e0,by simp,by omega,by omega,fun h=>by rw [hop,if_pos h],fun h=>by rw [hop,if_neg (by simp [h])]; rfl⟩ ?_;rintro m fr σ ⟨i,e,rfl,rfl,hi,h1,h2⟩;by_cases hz:e = 0;rotate_left
 ·rw [h1 hz];by_cases hlt:i < w.length
  ·refine aa _ ?_;simp [hlt,hz]
  ·refine aa _ ?_;simp [hlt]
 have hv:=h2 hz;subst hz;by_cases hlt:i < w.length;rotate_left
 ·have hd:w.drop i = []:=List.drop_eq_nil_of_le (by omega);rw [hd] at hv;rw [hv];refine aa _ ?_;simp [hlt,ay]
 rw [mU _ _ hlt] at hv;obtain ⟨x,hx⟩:∃ x,w[i] = x:=⟨_,rfl⟩
 rw [hx] at hv;have hw:IntKind.i64.wrap ((i:Int) + 1) = ((i + 1:Nat):Int):=by rw [aw (by omega) (by omega)]; simp
 have hI:=fun σ=>cO x 0 nm σ
 by_cases a1:inI x 0 nm = false
 ·have hw4:sx y w i x = 4:=by unfold sx; rw [hnm,if_pos a1]
  rw [hw4,if_pos (by decide)] at hv;rw [a1] at hI;refine aa _ ?_;simp [hlt,hx,w1];refine ⟨_,fun σ'=>aL.func ck (hI σ'), ?_⟩;simp [hw];exact ⟨w.length - (i + 1),by omega,i + 1,_,⟨rfl,by simp⟩,rfl,by omega,fun _=>hv,fun h=>absurd h (by decide)⟩
 rw [Bool.not_eq_false] at a1;rw [a1] at hI;have hw5:sx y w i x = if 0 < i ∧ x ≤ w.getD (i - 1) 0 then 2 else 0:=by unfold sx; rw [hnm,if_neg (by simp [a1])]
 by_cases h0:0 < i;rotate_left
 ·obtain rfl:i = 0:=by omega
  have hx0:w[0]? = some x:=by rw [List.getElem?_eq_getElem hlt,hx]
  rw [if_neg (by simp)] at hw5;rw [hw5,if_neg (by simp)] at hv;refine aa _ ?_;simp [hlt,hx,w1];refine ⟨_,fun σ'=>aL.func ck (hI σ'), ?_⟩;simp [show IntKind.i64.wrap (1:Int) = 1 from rfl,show IntKind.i64.wrap (-1:Int) = -1 from rfl,hx0];exact ⟨w.length - 1,by omega,1,0,⟨rfl,by simp⟩,rfl,by omega,fun h=>absurd rfl h,fun _=>hv⟩
 have hlt1:i - 1 < w.length:=by omega
 obtain ⟨z,hzz⟩:∃ z,w[i - 1] = z:=⟨_,rfl⟩
 have hgd:w.getD (i - 1) 0 = z:=by rw [List.getD_eq_getElem?_getD,List.getElem?_eq_getElem hlt1,hzz]; rfl
 have ws:IntKind.i64.wrap ((i:Int) - 1) = ((i - 1:Nat):Int):=by rw [aw (by omega) (by omega)]; omega
 have h0I:(0:Int) < i:=by omega
 rw [hgd] at hw5;by_cases hxz:x ≤ z
 ·rw [if_pos ⟨h0,hxz⟩] at hw5;rw [hw5,if_pos (by decide)] at hv;refine aa _ ?_;simp [hlt,hx,w1];refine ⟨_,fun σ'=>aL.func ck (hI σ'), ?_⟩;simp [h0,ws,hlt1,hzz,hxz,hw];exact ⟨w.length - (i + 1),by omega,i + 1,_,⟨rfl,by simp⟩,rfl,by omega,fun _=>hv,fun h=>absurd h (by decide)⟩
 ·rw [if_neg (by simp [hxz])] at hw5;rw [hw5,if_neg (by simp)] at hv;refine aa _ ?_;simp [hlt,hx,w1];refine ⟨_,fun σ'=>aL.func ck (hI σ'), ?_⟩;simp [h0,ws,hlt1,hzz,hxz,hw];exact ⟨w.length - (i + 1),by omega,i + 1,0,⟨rfl,by simp⟩,rfl,by omega,fun h=>absurd rfl h,fun _=>hv⟩
set_option maxRecDepth 100000
set_option maxHeartbeats 1000000
theorem qT (y:ab) (hy:dz y) (w:List Int) (hwl:w.length ≤ maxLen) (p:bj) (σ:af) :
  Spec Tryz.prog MM [y.v, .slice 1 (w.map ii'),p.v] σ fun r σ'=>r = .ret (.bool true) ∧ σ' = σ:=by
 refine Spec.aI (M1 (by simp) ?_) (by simp [y.pure,p.pure,aK,ag.pure,aC (f:=ii') (fun _=>rfl)]) rfl σ;have hcl:=fun σ=>bX y hy w hwl σ
 have hwh:=fun σ=>mq y hy w hwl σ
 have hpr:=fun p σ=>jB y hy w hwl p σ
 have hwr:=fun σ=>lT y hy w hwl σ
 obtain ⟨pa,pk,pp,po⟩:=p;by_cases h0:bQ y w = 0;rotate_left
 ·have e1:dE y w = (false,bQ y w):=by unfold dE; rw [if_pos h0]
  have e2:vr y w = (z6,bQ y w):=by unfold vr; rw [if_pos h0]
  have e3:∀ p,iE y w p = (false,bQ y w):=fun p=>by unfold iE; rw [if_pos h0]
  rw [e1] at hcl;rw [e2] at hwh;have hp1:=hpr ⟨pa,pk,pp,po⟩;rw [e3] at hp1;obtain ⟨e,he⟩:∃ e,bQ y w = e:=⟨_,rfl⟩
  rw [he] at h0 hcl hwh hp1 hwr;simp only [ab.v,ab.cells,bj.v,bj.cells,z6] at hcl hwh hp1 hwr;refine aa _ ?_;simp [DT,ab.v,ab.cells,bj.v,bj.cells];refine ah.pure oz (hcl _) ?_;simp;refine ah.pure GR (hwh _) ?_;simp;refine ah.pure C0 (hp1 _) ?_;simp;refine ah.pure AP (hwr _) ?_;simp [h0];refine ah.pure oL (bL _) ?_;simp
 have hv:=((cr y w).1 h0).valid;have e1:dE y w = (aF y (bH w),0):=by unfold dE; rw [if_neg (by simp [h0])]
 have e3:∀ p,iE y w p = (fP y (bH w) p,0):=fun p=>by unfold iE; rw [if_neg (by simp [h0])]
 have hp1:=hpr ⟨pa,pk,pp,po⟩;rw [e3] at hp1;rw [e1] at hcl;rw [h0] at hwr
 cases hwy:zK y (bH w) with
 | none=>
  have hc:aF y (bH w) = true:=EJ.2 hwy;have e2:vr y w = (z6,4):=by unfold vr; rw [if_neg (by simp [h0]),hwy]
  have hpf:fP y (bH w) ⟨pa,pk,pp,po⟩ = false:=by
   cases hq:fP y (bH w) ⟨pa,pk,pp,po⟩ with
   | false=>rfl
   | true=>have:=Dg hv hq; rw [hc] at this; cases this
  rw [e2] at hwh;rw [hc] at hcl;rw [hpf] at hp1;simp only [ab.v,ab.cells,bj.v,bj.cells,z6] at hcl hwh hp1 hwr;refine aa _ ?_;simp [DT,ab.v,ab.cells,bj.v,bj.cells];refine ah.pure oz (hcl _) ?_;simp;refine ah.pure GR (hwh _) ?_;simp;refine ah.pure C0 (hp1 _) ?_;simp;refine ah.pure AP (hwr _) ?_;simp;refine ah.pure oL (bL _) ?_;simp
 | some q=>
  have hc:aF y (bH w) = false:=by unfold aF; rw [hwy]; rfl
  have e2:vr y w = (q,0):=by unfold vr; rw [if_neg (by simp [h0]),hwy]
  have hp2:=hpr q;rw [e3,Ar hwy] at hp2;rw [e2] at hwh;rw [hc] at hcl;obtain ⟨qa,qk,qp,qo⟩:=q;obtain ⟨b,hb⟩:∃ b,fP y (bH w) ⟨pa,pk,pp,po⟩ = b:=⟨_,rfl⟩
  rw [hb] at hp1;simp only [ab.v,ab.cells,bj.v,bj.cells] at hcl hwh hp1 hp2 hwr;cases b
  all_goals refine aa _ ?_
  all_goals simp [DT,ab.v,ab.cells,bj.v,bj.cells]
  all_goals refine ah.pure oz (hcl _) ?_
  all_goals simp
  all_goals refine ah.pure GR (hwh _) ?_
  all_goals simp
  all_goals refine ah.pure C0 (hp1 _) ?_
  all_goals simp
  all_goals refine ah.pure AP (hwr _) ?_
  all_goals simp
  all_goals refine ah.pure C0 (hp2 _) ?_
  all_goals simp
  all_goals refine ah.pure oL (bL _) ?_
  all_goals simp
end Go.AM
