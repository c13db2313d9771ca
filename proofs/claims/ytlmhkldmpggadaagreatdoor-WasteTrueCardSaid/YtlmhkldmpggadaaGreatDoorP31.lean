/- Chapter 09: what the program answers on the examples. Awake of chapter 09, by contracts. Chapter 09: WasteFewest, by contracts. Chapter 09: what Range and Gone say of a yard that closes. Chapter .. -/
import Derived.Test.YtlmhkldmpggadaaGreatDoorP30
import Derived.Test.YtlmhkldmpggadaaGreatDoorP20
import Derived.Test.YtlmhkldmpggadaaGreatDoorP27
import Derived.Test.YtlmhkldmpggadaaGreatDoorP21
namespace Go.AM
open Go.Proofs
set_option maxRecDepth 100000
set_option maxHeartbeats 1000000
theorem fk:dv exY:=⟨by decide,by decide,by decide,by decide,by decide⟩
theorem pb:dv exZ:=⟨by decide,by decide,by decide,by decide,by decide⟩
theorem Gc:By aQ:=⟨by decide +kernel,by decide +kernel,by decide +kernel,by decide +kernel⟩
theorem FV (σ:af):Spec Tryz.prog F5 [exY.v, .slice 1 [ii' 1]] σ fun r σ'=>r = .ret (.tup [.bool true,ii' 0]) ∧ σ' = σ:=by
 have h:=ed exY fk [1] (by decide) σ;rw [show gw exY [1] = (true,0) by decide +kernel] at h; exact h
theorem GX (σ:af):Spec Tryz.prog F5 [exY.v, .slice 1 [ii' 0]] σ fun r σ'=>r = .ret (.tup [.bool false,ii' 0]) ∧ σ' = σ:=by
 have h:=ed exY fk [0] (by decide) σ;rw [show gw exY [0] = (false,0) by decide +kernel] at h; exact h
theorem Nz (σ:af):Spec Tryz.prog G5 [exY.v, .slice 1 [ii' 0]] σ fun r σ'=>r = .ret (.tup [.agg [ii' (-1),ii' 0,ii' 1,ii' 100],ii' 0]) ∧ σ' = σ:=by
 have h:=og exY fk [0] (by decide) σ;have e:(fun r:bt × Int=>(r.1.paper,r.1.kind,r.1.places,r.1.over,r.2)) (Iz exY [0]) = (-1,0,1,100,0):=by decide +kernel
 simp only [Prod.mk.injEq] at e;obtain ⟨e1,e2,e3,e4,e5⟩:=e;simp only [bt.v,bt.cells,e1,e2,e3,e4,e5] at h; exact h
theorem Ct (n:Int) (hn:n = 100 ∨ n = 99) (σ:af):Spec Tryz.prog JS [exY.v, .slice 1 [ii' 0], .agg [ii' (-1),ii' 0,ii' 1,ii' n]] σ fun r σ'=>r = .ret (.tup [.bool (decide (n = 100)),ii' 0]) ∧ σ' = σ:=by
 have h:=ss exY fk [0] (by decide) ⟨-1,0,1,n⟩ σ;rcases hn with rfl | rfl
 ·rw [show rO exY [0] ⟨-1,0,1,100⟩ = (true,0) by decide +kernel] at h; exact h
 ·rw [show rO exY [0] ⟨-1,0,1,99⟩ = (false,0) by decide +kernel] at h; exact h
theorem Is (σ:af):Spec Tryz.prog IG [exZ.v] σ fun r σ'=>r = .ret (.tup [.slice 1 [ii' 0],ii' 0]) ∧ σ' = σ:=by
 have h:=lb exZ pb σ;rw [show sX exZ = ([0],0) by decide +kernel] at h; exact h
theorem ME (σ:af):Spec Tryz.prog Il [exY.v] σ fun r σ'=>r = .ret (.tup [.slice 1 [ii' 1],ii' 0]) ∧ σ' = σ:=by
 have h:=nC exY fk σ;rw [show Be exY = ([1],0) by decide +kernel] at h; exact h
theorem Q3 (σ:af):Spec Tryz.prog Ji [exZ.v] σ fun r σ'=>r = .ret (.tup [.slice 1 [ii' 0,ii' 1],ii' 0]) ∧ σ' = σ:=by
 have h:=o7 exZ pb σ;rw [show JF exZ = ([0,1],0) by decide +kernel] at h; exact h
theorem KD (σ:af):Spec Tryz.prog C7 [exZ.v, .slice 1 [ii' 0,ii' 1],ii' 0] σ fun r σ'=>r = .ret (.tup [.agg [ii' 500,ii' 600],ii' 0]) ∧ σ' = σ:=by
 have h:=dH exZ pb [0,1] (by decide) 0 σ;have e0:eJ exZ [0,1] (fa exZ 0) = 0:=by decide +kernel
 rw [e0] at h;refine h.mono ?_;rintro r σ' ⟨⟨lo,hi,rfl,_,h2⟩,rfl⟩;obtain ⟨rfl,rfl⟩:=I6 (El Gc) (h2 rfl);exact ⟨rfl,rfl⟩
theorem NM (σ:af):Spec Tryz.prog CX [exY.v, .slice 1 [ii' 1],ii' 0] σ fun r σ'=>r = .ret (.tup [.agg [ii' 300,ii' 300],ii' 0]) ∧ σ' = σ:=by
 have h:=eL exY fk [1] (by decide) 0 σ;have e0:eJ exY [1] (eU exY 0) = 0:=by decide +kernel
 rw [e0] at h;refine h.mono ?_;rintro r σ' ⟨⟨lo,hi,rfl,_,h2⟩,rfl⟩;obtain ⟨rfl,rfl⟩:=Ki (Dj Gc) (h2 rfl);exact ⟨rfl,rfl⟩
theorem NI (σ:af):Spec Tryz.prog C7 [exY.v, .slice 1 [ii' 0],ii' 0] σ fun r σ'=>r = .ret (.tup [.agg [ii' 0,ii' 0],ii' 9]) ∧ σ' = σ:=by
 have h:=dH exY fk [0] (by decide) 0 σ;have e0:eJ exY [0] (fa exY 0) = 9:=by decide +kernel
 rw [e0] at h;refine h.mono ?_;rintro r σ' ⟨⟨lo,hi,rfl,h1,_⟩,rfl⟩;obtain ⟨rfl,rfl⟩:=h1 (by decide);exact ⟨rfl,rfl⟩
theorem J4 (σ:af):Spec Tryz.prog J2 [exZ.v] σ fun r σ'=>r = .ret (.tup [.str oY,ii' 0]) ∧ σ' = σ:=by
 have h:=lX exZ pb σ;have e:mW exZ = (dS exZ,0):=by unfold mW; rw [if_neg (by simpa using (ib aQ exZ).2 (El Gc))]
 rw [e,C1] at h; exact h
theorem NL (σ:af):Spec Tryz.prog KE [.str oY] σ fun r σ'=>r = .ret (.tup [exZ.v,ii' 0]) ∧ σ' = σ:=by
 have h:=nE oY σ;have e:ep oY = (exZ,0):=by
  unfold ep;rw [if_neg (by decide +kernel),show aA oY = pP from rfl,Jc rk Gc]
 rw [e] at h; exact h
def zK:List cV → Bool
 | []=>true
 | .no :: r=>zK r
 | _=>false
theorem wz (bef:List (List Nat)) (j:Nat):∀ (l:List cV) (i:Nat),kY bef j .no l i = true
 | [],_=>rfl
 | f :: r,i=>by
  have e:cV.qf .no f = false:=by cases f <;> rfl
  simp only [kY,e,wz bef j r (i + 1)]; rfl
theorem tW:∀ {l:List cV},zK l = true → ∀ e ∈ l,e = .no
 | [],_,e,h=>by cases h
 | .no :: r,h,e,he=>by
  rcases List.mem_cons.1 he with rfl | he
  ·rfl
  ·exact tW (l:=r) h e he
 | .rd _ :: _,h,_,_=>by cases h
 | .al _ :: _,h,_,_=>by cases h
 | .wr _ _ :: _,h,_,_=>by cases h
theorem vM (bef:List (List Nat)):∀ (l p:List cV) (i:Nat),(∀ e ∈ l,e = .no) → eW bef p l i = true:=by
 intro l
 induction l with
 | nil=>intro p i _; rfl
 | cons a r ih=>
  intro p i h;have ha:=h a (by simp);subst ha;simp only [eW,wz,ih _ _ (fun e he=>h e (by simp [he]))]; rfl
def D7 (t:Nat) (σ:af) (e:Env) (σ':af) (es:List cV):Prop:=e.get t = .bool true ∧ σ' = σ ∧ zK es = true
theorem FD {sz bytes:Nat} {σ:af} {x y:ag} {K K':ag → cV → Prop} (h:∀ v f,K' v f → K v f) (hd:yf sz bytes σ x y K'):yf sz bytes σ x y K:=by
 obtain ⟨_,_,_,_,_,_,_,_,_,hk,_,hr⟩:=oH hd;exact hr K (h _ _ hk)
theorem Es {P:Program} {K K':Env → af → List cV → Prop} (h:∀ e σ es,K' e σ es → K e σ es):∀ {ops:List aL} {e:Env} {σ:af} {es:List cV},bK P ops e σ es K' → bK P ops e σ es K:=by
 intro ops
 induction ops with
 | nil=>intro e σ es hd; exact h _ _ _ hd
 | cons o r ih=>
  intro e σ es hd;obtain ⟨d,g,i⟩:=o
  cases hc:eX g e with
  | none=>simp only [bK,hc] at hd
  | some c=>
   cases i
   all_goals simp only [bK,hc] at hd ⊢
   all_goals first
    | exact ⟨hd.1,hd.2.1,ih hd.2.2⟩
    | exact ⟨hd.1,hd.2.1,hd.2.2.1,ih hd.2.2.2⟩
    | exact ⟨hd.1,ih hd.2⟩
    | exact ⟨hd.1,hd.2.1,hd.2.2.1,hd.2.2.2.1,ih hd.2.2.2.2⟩
    | (obtain ⟨v,h1,h2⟩:=hd; exact ⟨v,h1,ih h2⟩)
    | (obtain ⟨h1,h2,v,h3,h4⟩:=hd; exact ⟨h1,h2,v,h3,ih h4⟩)
    | (obtain ⟨h1,h2,h3⟩:=hd; exact ⟨h1,h2,FD (fun v f hv=>ih hv) h3⟩)
    | (obtain ⟨h1,h2,h3,h4⟩:=hd
       refine ⟨h1,h2,h3, ?_⟩
       split at h4
       ·exact ih h4
       ·exact h4)
    | (split at hd
       ·rename_i h0; rw [if_pos h0]; exact ⟨hd.1,ih hd.2⟩
       ·rename_i h0;rw [if_neg h0]
        split at hd
        ·rename_i h1; rw [if_pos h1]; exact ⟨hd.1,hd.2.1,hd.2.2.1,ih hd.2.2.2⟩
        ·rename_i h1; rw [if_neg h1]; exact ⟨hd.1,hd.2.1,hd.2.2.1,hd.2.2.2.1,ih hd.2.2.2.2⟩)
    | skip
theorem xI {P:Program} {ops:List aL} {e:Env} {σ:af} {K:Env → af → List cV → Prop} (t:Nat) (h:bK P ops e σ [] (D7 t σ)) (hk:∀ e es,e.get t = .bool true → zK es = true → K e σ es):bK P ops e σ [] K:=
 Es (fun e σ' es h=>by obtain ⟨h1,rfl,h3⟩:=h; exact hk e es h1 h3) h
theorem gM (σ:af):Spec Tryz.prog NK [] σ fun r σ'=>r = .ret (.bool true) ∧ σ' = σ:=by
 refine Spec.aF (TX (by simp) (aa _ ?_)) rfl rfl σ;have hY:=ja false;have hZ:=ja true;rw [show exW false = exY from rfl] at hY;rw [show exW true = exZ from rfl] at hZ;have c1:=FV;have c0:=GX;have w0:=Nz;have p1:=Ct 100 (.inl rfl);have p2:=Ct 99 (.inr rfl);rw [show decide ((100:Int) = 100) = true from rfl] at p1;rw [show decide ((99:Int) = 100) = false from rfl] at p2;have fe:=Is;have mu:=ME;have ma:=Q3;have ra:=KD;have go:=NM;have wr:=J4;have re:=NL;have dn:=NI;simp only [ab.v,ab.cells] at hY hZ c1 c0 w0 p1 p2 fe mu ma ra go wr re dn;simp [Pk];refine ah.pure HQ (hY _) ?_;simp;refine ah.pure HQ (hZ _) ?_;simp;refine ah.pure GL (c1 _) ?_;simp;refine ah.pure GL (c0 _) ?_;simp;refine ah.pure JR (w0 _) ?_;simp;refine ah.pure QP (p1 _) ?_;simp;refine ah.pure QP (p2 _) ?_;simp;refine ah.pure Qb (fe _) ?_;simp;refine ah.pure Qq (mu _) ?_;simp;refine ah.pure O6 (ma _) ?_;simp;refine ah.pure J0 (ra _) ?_;simp;refine ah.pure He (go _) ?_;simp;refine ah.pure Rf (wr _) ?_;simp;refine ah.pure QL (qA _) ?_;simp;refine ah.pure OY (re _) ?_;simp;refine ah.pure J0 (dn _) ?_;simp [-bK];refine xI 0 ?_ ?_
 ·have hm:∀ {l:List Int},l.length ≤ 10 → l.length ≤ maxLen:=fun h=>by simp only [maxLen]; omega
  have hs:=qd exZ pb;simp only [ab.v,ab.cells] at hs
  repeat (rw [bK]; simp [-bK])
  refine ⟨.bool true,fun σ'=>aE.func Jb (gq [0] (hm (by simp)) σ'), ?_⟩
  repeat (rw [bK]; simp [-bK])
  refine ⟨.bool true,fun σ'=>aE.func Jb (gq [1] (hm (by simp)) σ'), ?_⟩
  repeat (rw [bK]; simp [-bK])
  refine ⟨.bool true,fun σ'=>aE.func Jb (gq [0,1] (hm (by simp)) σ'), ?_⟩
  repeat (rw [bK]; simp [-bK])
  refine ⟨_,fun σ'=>aE.func p8 (bI 500 600 σ'), ?_⟩
  repeat (rw [bK]; simp [-bK])
  refine ⟨_,fun σ'=>aE.func p8 (bI 300 300 σ'), ?_⟩
  repeat (rw [bK]; simp [-bK])
  have hp1:=aD (f:=ag.str) (fun _=>rfl) exZ.kinds;have hp2:=aD (f:=ag.str) (fun _=>rfl) exZ.places;have hp3:=aD (f:=ay.v) (fun c=>c.pure) exZ.first
  have hp4:=aD (f:=aj.v) (fun c=>c.pure) exZ.papers;have hp5:=aD (f:=ay.v) (fun c=>c.pure) exZ.last;refine ⟨.str oY,fun σ'=>aE.func QL (qA σ'), ?_⟩
  repeat (rw [bK]; simp [-bK])
  refine ⟨.bool true,fun σ' _=>aE.func Oy (hs σ'), ?_⟩
  repeat (rw [bK]; simp [-bK])
  simp [D7,zK,hp1,hp2,hp3,hp4,hp5]
 ·intro e es h1 h2;have hcl:∀ bef,eW bef [] es.reverse 0 = true:=fun bef=>vM bef _ [] 0 (by intro x hx; exact tW h2 x (List.mem_reverse.1 hx));simp [hcl,h1]
theorem uc (l:List Nat):bD (bb l) = l:=by
 unfold bD bb;rw [List.map_map]
 conv=>rhs; rw [← List.map_id l]
 exact List.map_congr_left fun x _=>by simp
theorem KO {y:ab} (hv:bJ aQ y) {l:List Nat} (ha:Bv y.papers.length 0 l):zA y (bb l):=⟨hv,by rw [uc]; exact ha,by rw [uc]⟩
theorem CV {y:ab} (hv:bJ aQ y) {l:List Nat} (ha:Bv y.papers.length 0 l):gw y (bb l) = (aP y l,0):=by
 have h:=(cJ y (bb l)).2 (KO hv ha);unfold gw;rw [if_neg (by simp [h]),uc]
theorem U7 {y:ab} (hv:bJ aQ y):iW y = if aP y (List.range y.papers.length) then 0 else 9:=by
 have h:=(cJ y []).2 ⟨hv,by simp [bD,Bv],rfl⟩;unfold iW;rw [if_neg (by simp [h])]
theorem Vt (m:Nat):kp m m = List.range m:=by
 unfold kp;rw [List.filter_eq_self];intro x hx;have:=List.mem_range.1 hx;simp; omega
theorem Ij {y:ab} (hv:bJ aQ y) {l:List Nat} (ha:Bv y.papers.length 0 l):(bb l).length ≤ maxLen:=by
 have h1:=vx ha;have h2:=hv.m10;simp only [bb,List.length_map,maxLen];omega
theorem vG {y:ab} (hv:bJ aQ y) {i:Nat} (hi:i < y.papers.length):∃ k:Nat,k < y.kinds.length ∧ aK y i = k:=by
 have h:=(hv.papers i hi).kind;have e:aK y i = y.papers[i].kind:=by unfold aK; rw [List.getElem?_eq_getElem hi]
 exact ⟨y.papers[i].kind.toNat,by omega,by rw [e]; omega⟩
theorem Jg {y:ab} (hv:bJ aQ y) {w:List Nat} (hc:aP y w = true) {i:Nat} (hi:i < y.papers.length):∃ lo hi,jE y w i lo hi:=by
 obtain ⟨k,hk,e⟩:=vG hv hi;have hf:=((iK hv w).1 hc).2 k hk;rw [← e] at hf;exact sk (xH hv hi w (-aw) aw).1 hf
theorem Ff {y:ab} (hv:bJ aQ y) {w:List Nat} (hc:aP y w = true) {k:Nat} (hk:k < y.kinds.length):∃ lo hi,iw y w k lo hi:=by
 have hf:=((iK hv w).1 hc).2 k hk;exact sk (by rw [jq]; unfold ba; omega) hf
theorem F4 {y:ab} (hy:dv y) {w:List Int} (hwl:w.length ≤ maxLen) (h0:bW y w = 0) (hc:aP y (bD w) = true) {i:Nat} (hi:i < y.papers.length) {lo hi':Int} (hr:jE y (bD w) i lo hi') (σ:af) :
  Spec Tryz.prog C7 [y.v, .slice 1 (w.map ii'),ii' i] σ fun r σ'=>r = .ret (.tup [.agg [ii' lo,ii' hi'],ii' 0]) ∧ σ' = σ:=by
 have hv:=((cJ y w).1 h0).valid;obtain ⟨k,hk,e⟩:=vG hv hi;have h:=dH y hy w hwl (i:Int) σ;have ek:fa y (i:Int) = k:=by
  unfold fa;rw [if_pos (bA.1.2 ⟨by omega,by omega⟩),Int.toNat_natCast,e]
 have eb:eJ y w (fa y i) = 0:=by
  unfold eJ;rw [if_neg (by simp [h0]),ek,if_neg (by omega),if_pos hc]
 rw [eb] at h;refine h.mono ?_;rintro r σ' ⟨⟨a,b,rfl,_,h2⟩,rfl⟩;obtain ⟨rfl,rfl⟩:=(h2 rfl).unique hr;exact ⟨rfl,rfl⟩
theorem Bb {y:ab} (hy:dv y) {w:List Int} (hwl:w.length ≤ maxLen) (h0:bW y w = 0) (hc:aP y (bD w) = true) {k:Nat} (hk:k < y.kinds.length) {lo hi':Int} (hr:iw y (bD w) k lo hi') (σ:af) :
  Spec Tryz.prog CX [y.v, .slice 1 (w.map ii'),ii' k] σ fun r σ'=>r = .ret (.tup [.agg [ii' lo,ii' hi'],ii' 0]) ∧ σ' = σ:=by
 have h:=eL y hy w hwl (k:Int) σ;have ek:eU y (k:Int) = k:=by
  unfold eU;rw [if_pos (bA.1.2 ⟨by omega,by omega⟩)]
 have eb:eJ y w (eU y k) = 0:=by
  unfold eJ;rw [if_neg (by simp [h0]),ek,if_neg (by omega),if_pos hc]
 rw [eb] at h;refine h.mono ?_;rintro r σ' ⟨⟨a,b,rfl,_,h2⟩,rfl⟩;obtain ⟨rfl,rfl⟩:=(h2 rfl).unique hr;exact ⟨rfl,rfl⟩
theorem n7 {y:ab} (hv:bJ aQ y) {i:Nat} (hi:i < y.papers.length) (σ:af):Spec Tryz.prog Nh [y.v,ii' i] σ fun r σ'=>r = .ret (.bool (br y.papers[i] i)) ∧ σ' = σ:=by
 refine Spec.aF (Sn (by simp) ?_) (by simp [y.pure,aH,ag.pure]) rfl σ;have hcp:=(hv.papers i hi).copy;obtain ⟨⟨k,s,d,n,c⟩,hx⟩:∃ x,y.papers[i] = x:=⟨_,rfl⟩;rw [hx] at hcp ⊢;dsimp only at hcp;by_cases h1:c = -1
 ·have:br ⟨k,s,d,n,c⟩ i = true:=by unfold br; simp [h1]
  rw [this];refine aa _ ?_;simp [MQ,ab.v,ab.cells,hi,hx,aj.v,aj.cells,h1]
 ·have h2:¬ c < 0:=by rcases hcp with h | ⟨h,_⟩ <;> omega
  have:br ⟨k,s,d,n,c⟩ i = decide ((i:Int) < c):=by unfold br; simp [h2]
  rw [this];refine aa _ ?_;simp [MQ,ab.v,ab.cells,hi,hx,aj.v,aj.cells,h1]
abbrev yvL (y:ab):ag:=.agg [.slice 1 (y.kinds.map .str), .slice 1 (y.places.map .str), .slice 4 (y.first.map ay.v), .slice 5 (y.papers.map aj.v), .slice 4 (y.last.map ay.v)]
set_option maxHeartbeats 2000000
set_option maxHeartbeats 1000000
end Go.AM
