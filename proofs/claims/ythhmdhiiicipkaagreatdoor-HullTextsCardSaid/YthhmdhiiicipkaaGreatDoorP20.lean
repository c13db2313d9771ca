/- Surveys, and what differs. Plain. Changes of a ship, of the program: the check of a part. Calls that leave blocks behind. Changes of a ship, of the program: add. Changes of a ship, of the program: .. -/
import Derived.Test.YthhmdhiiicipkaaGreatDoorP19
import Derived.Test.YthhmdhiiicipkaaGreatDoorP18
import Derived.Test.YthhmdhiiicipkaaGreatDoorP17
namespace Go.AM
open Go.Proofs
structure av where
  name:ByteArray
  frame:Int
  kind:Int
def av.cells (s:av):List ab:=[.str s.name,ii' s.frame,ii' s.kind]
def av.v (s:av):ab:=.agg s.cells
theorem av.pure (s:av):s.v.pure = true:=rfl
def dE (ns:List HuM) (n:ByteArray) (f:Int):Int:=
  if findF ns n < 0 then 0 else if bu f (atF ns n).first (atF ns n).last = true then (atF ns n).kind else 0
def bE (sights:List av) (ns:List HuM):Bool:=sights.all fun s=>decide (dE ns s.name s.frame = s.kind)
def idxs {α:Type} (p:α → Bool):List α → Nat → List Nat
  | [],_=>[]
  | a :: r,i=>if p a then i :: idxs p r (i + 1) else idxs p r (i + 1)
theorem sW {α:Type} (p:α → Bool):∀ (l r:List α) (i:Nat),idxs p (l ++ r) i = idxs p l i ++ idxs p r (i + l.length)
  | [],r,i=>by simp [idxs]
  | a :: l,r,i=>by
    simp only [List.cons_append,idxs,sW p l r (i + 1),List.length_cons]
    rw [show i + 1 + l.length = i + (l.length + 1) by omega]
    split <;> simp
theorem mM {α:Type} (p:α → Bool):∀ (l:List α) (i:Nat), ∀ j ∈ idxs p l i,i ≤ j ∧ j < i + l.length
  | [],i,j,h=>by simp [idxs] at h
  | a :: l,i,j,h=>by
    simp only [idxs] at h
    simp only [List.length_cons]
    split at h
    · rcases List.mem_cons.1 h with rfl | h
      · omega
      · have:=mM p l (i + 1) j h; omega
    · have:=mM p l (i + 1) j h; omega
theorem tW {α:Type} (p:α → Bool):∀ (l:List α) (i j:Nat),j ∈ idxs p l i ↔ ∃ h:i ≤ j ∧ j < i + l.length,p (l[j - i]'(by omega)) = true
  | [],i,j=>by simp [idxs]; omega
  | a :: l,i,j=>by
    have ih:=tW p l (i + 1) j
    simp only [idxs,List.length_cons]
    have hstep:(∃ h:i ≤ j ∧ j < i + (l.length + 1),p ((a :: l)[j - i]'(by simp; omega)) = true) ↔ (j = i ∧ p a = true) ∨ ∃ h:i + 1 ≤ j ∧ j < i + 1 + l.length,p (l[j - (i + 1)]'(by omega)) = true:=by
      constructor
      · rintro ⟨h1,h2⟩
        by_cases hj:j = i
        · subst hj; simp at h2; exact .inl ⟨rfl,h2⟩
        · right
          refine ⟨by omega, ?_⟩
          have e:j - i = (j - (i + 1)) + 1:=by omega
          simp only [e,List.getElem_cons_succ] at h2
          exact h2
      · rintro (⟨rfl,h⟩ | ⟨h1,h2⟩)
        · exact ⟨by omega,by simpa using h⟩
        · refine ⟨by omega, ?_⟩
          have e:j - i = (j - (i + 1)) + 1:=by omega
          simp only [e,List.getElem_cons_succ]
          exact h2
    rw [hstep, ← ih]
    by_cases hp:p a = true
    · simp [hp]
    · simp [hp]
def dT (sights:List av) (ships:List (List HuM)):List Nat:=idxs (bE sights) ships 0
def u6 (sights:List av) (ships:List (List HuM)):List (List HuM):=ships.filter (bE sights)
theorem tH {α:Type} (p:α → Bool):∀ (l all:List α) (i:Nat),all.drop i = l → (idxs p l i).filterMap (fun j=>all[j]?) = l.filter p
  | [],_,_,_=>rfl
  | a :: l,all,i,h=>by
    have hi:i < all.length:=by
      rcases Nat.lt_or_ge i all.length with h' | h'
      · exact h'
      · rw [List.drop_eq_nil_of_le h'] at h; cases h
    have h2:=List.drop_eq_getElem_cons hi
    rw [h] at h2
    obtain ⟨h3,h4⟩:=List.cons.inj h2
    simp only [idxs,List.filter_cons]
    have ih:=tH p l all (i + 1) h4.symm
    split
    · simp [List.getElem?_eq_getElem hi,h3,ih]
    · exact ih
def jW (s:av):Int:=if cg s.name = false then 6 else if bu s.frame 0 40 = false ∨ bu s.kind 0 5 = false then 7 else 0
def cC {α:Type} (f:α → Int):List α → Int
  | []=>0
  | a :: r=>if f a ≠ 0 then f a else cC f r
theorem ug {α:Type} (f:α → Int):∀ (l r:List α),cC f (l ++ r) = if cC f l ≠ 0 then cC f l else cC f r
  | [],r=>by simp [cC]
  | a :: l,r=>by
    simp only [List.cons_append,cC,ug f l r]
    by_cases h:f a = 0 <;> simp [h]
theorem eD {α:Type} (f:α → Int):∀ (l:List α),cC f l = 0 ↔ ∀ a ∈ l,f a = 0
  | []=>by simp [cC]
  | a :: l=>by
    simp only [cC,List.mem_cons,forall_eq_or_imp, ← eD f l]
    by_cases h:f a = 0 <;> simp [h]
def aW (ps:List ar) (day:Int) (ss:List av):Int:=
  if bu (ps.length:Int) 1 6 = false then 3
  else if cC (fun p=>(bL p).2.2) ps ≠ 0 then cC (fun p=>(bL p).2.2) ps
  else if bu day 0 40000 = false then 7
  else if 12 < ss.length then 3
  else cC jW ss
def cL (day:Int) (p:ar):List HuM:=aM day p.ship p.chs
theorem kr {p:ar} (h:OkP p) (day:Int):OkS (cL day p):=cM h.ship h.steps day
theorem j7 {p:ar} (h:OkP p) (day:Int):fH day p.ship p.ship p.chs = cL day p:=dF day p.chs p.ship 0 h.ship h.steps
structure CP (ps:List ar) (day:Int) (ss:List av):Prop where
  n1:1 ≤ ps.length
  n6:ps.length ≤ 6
  ok:∀ p ∈ ps,OkP p
  day:0 ≤ day ∧ day ≤ 40000
  len:ss.length ≤ 12
  sight:∀ s ∈ ss,jW s = 0
theorem cu {ps:List ar} {day:Int} {ss:List av}:aW ps day ss = 0 ↔ CP ps day ss:=by
  unfold aW
  by_cases h1:bu (ps.length:Int) 1 6 = false
  · rw [if_pos h1]
    constructor
    · intro e; exact absurd e (by decide)
    · intro e; have:=e.n1; have:=e.n6; simp [bu] at h1; omega
  rw [if_neg h1]
  by_cases h2:cC (fun p=>(bL p).2.2) ps = 0
  rotate_left
  · rw [if_pos h2]
    exact ⟨fun e=>absurd e h2,fun e=>absurd ((eD _ _).2 fun p hp=>(cF p).2 (e.ok p hp)) h2⟩
  rw [if_neg (by simp [h2])]
  by_cases h3:bu day 0 40000 = false
  · rw [if_pos h3]
    constructor
    · intro e; exact absurd e (by decide)
    · intro e; have:=e.day; simp [bu] at h3; omega
  rw [if_neg h3]
  by_cases h4:12 < ss.length
  · rw [if_pos h4]
    constructor
    · intro e; exact absurd e (by decide)
    · intro e; have:=e.len; omega
  rw [if_neg h4,eD]
  have h5:1 ≤ ps.length ∧ ps.length ≤ 6:=by simp [bu] at h1; omega
  have h6:0 ≤ day ∧ day ≤ 40000:=by simp [bu] at h3; omega
  exact ⟨fun e=>⟨h5.1,h5.2,fun p hp=>(cF p).1 ((eD _ _).1 h2 p hp),h6,by omega,e⟩,fun e=>e.sight⟩
/-! ### what is sure -/
def aF (ships:List (List HuM)):List ByteArray:=jx (ships.flatMap fun ns=>ns.map HuM.name)
theorem qD (ships:List (List HuM)) (n:ByteArray):n ∈ aF ships ↔ ∃ ns ∈ ships,0 ≤ findF ns n:=by
  unfold aF
  rw [tU,List.mem_flatMap]
  simp only [dw,List.mem_map]
def fo (ships:List (List HuM)) (n:ByteArray):Bool:=ships.all fun ns=>decide (0 ≤ findF ns n)
def tL (ships:List (List HuM)):List ByteArray:=(aF ships).filter (fo ships)
/-! ### what differs -/
def bG (a b:List HuM) (n:ByteArray):Bool:=decide (0 ≤ findF a n) && decide (0 ≤ findF b n) &&
  (decide ((atF a n).kind = (atF b n).kind) && decide ((atF a n).first = (atF b n).first) && decide ((atF a n).last = (atF b n).last) && decide ((atF a n).lo = (atF b n).lo) && decide ((atF a n).hi = (atF b n).hi) && decide ((atF a n).on = (atF b n).on))
def cD (a b:List HuM):List ByteArray:=(aF [a,b]).filter fun n=>!bG a b n
/-! ### what to look at -/
def bf (ships:List (List HuM)) (n:ByteArray) (f k:Int):Nat:=ships.countP fun ns=>decide (dE ns n f = k)
def gr (ships:List (List HuM)) (n:ByteArray) (f:Int):Nat:=
  max (max (max (max (max (bf ships n f 0) (bf ships n f 1)) (bf ships n f 2)) (bf ships n f 3)) (bf ships n f 4)) (bf ships n f 5)
structure ld where
  name:ByteArray
  frame:Int
  left:Nat
def dU (ships:List (List HuM)) (b:ld) (n:ByteArray) (f:Nat):ld:=if gr ships n f < b.left then ⟨n,f,gr ships n f⟩ else b
def wm (ships:List (List HuM)) (n:ByteArray) (b:ld):Nat → ld
  | 0=>b
  | k + 1=>dU ships (wm ships n b k) n k
def nD (ships:List (List HuM)):List ByteArray → ld → ld
  | [],b=>b
  | n :: r,b=>nD ships r (wm ships n b 41)
def eB (ships:List (List HuM)):ld:=nD ships (aF ships) ⟨.empty,0,ships.length⟩
set_option maxRecDepth 100000
set_option maxHeartbeats 1000000
theorem iM (ps:List HuM) (x:HuM) (k:Nat) (bh:List HuM) (hl:ps.length ≤ maxLen) (hk:k ≤ ps.length) (hn:x.on.length ≤ maxLen) (hbl:bh.length ≤ maxLen) (b:Nat) (σ:ag) (hb:σ[b]? = some (.box [.slice 7 (ps.map HuM.v)])) :
    Spec Tryz.prog FD [.ptr b 0,x.v, .int .i64 k, .slice 7 (bh.map HuM.v)] σ fun r σ'=>r = .ret (ii' (eZ ps x k bh)) ∧ ∃ tl,σ' = σ ++ tl:=by
  have hfd:=aO ps x.name hl b σ hb
  have hcf:=cO xE [.pval x.v] (by simp [ab.pure,aA,x.pure]) (fun y=>y.name.toList == x.name.toList) bh hbl (fun y _=>jL.fn Il (fun σ=>kI y x σ)) σ
  rcases tf (cg x.name) with h1 | h1
  · refine EP (by simp) (aa _ ?_)
    simp [CT,HuM.v,HuM.cells]
    refine af.aS re (bY x.name _) (congrArg ab.bool h1) ?_
    simp [eZ,h1]
  rcases tf (bh.any fun y=>y.name.toList == x.name.toList) with h5 | h5
  rotate_left
  · have hcb:eZ ps x k bh = 5:=by simp only [eZ,h1,h5]; rfl
    rw [hcb]
    refine EP (by simp) (aa _ ?_)
    simp [CT,HuM.v,HuM.cells]
    refine af.aS re (bY x.name _) (congrArg ab.bool h1) ?_
    simp
    refine (Classical.em (0 ≤ findF ps x.name)).elim (fun h2=>?_) (fun h2=>?_)
    · refine af.pure eV hfd ?_
      simp [h2]
      refine af.pure eV hfd ?_
      refine (Classical.em (findF ps x.name < k)).elim (fun h3=>?_) (fun h3=>?_)
      · simp [h2,h3]
      · simp [h2,h3]
        refine af.aS ra hcf (congrArg ab.bool h5) ?_
        simp [h2,h3]
    · refine af.pure eV hfd ?_
      simp [h2]
      refine af.aS ra hcf (congrArg ab.bool h5) ?_
      simp [h2]
  have hcb:eZ ps x k bh = cH ps x k:=by simp only [eZ,h1,h5]; rfl
  rw [hcb]
  refine EP (by simp) (aa _ ?_)
  simp [CT,HuM.v,HuM.cells]
  refine af.aS re (bY x.name _) (congrArg ab.bool h1) ?_
  simp
  refine (Classical.em (0 ≤ findF ps x.name)).elim (fun h2=>?yes) (fun h2=>?no)
  case' no=>(refine af.pure eV hfd ?_; simp [h2]; have h23:¬ (0 ≤ findF ps x.name ∧ findF ps x.name < k):=fun h=>h2 h.1; refine af.aS ra hcf (congrArg ab.bool h5) ?_; simp [h2])
  case' yes=>(refine af.pure eV hfd ?_; simp [h2]; refine af.pure eV hfd ?_; refine (Classical.em (findF ps x.name < k)).elim (fun h3=>?small) (fun h3=>?large))
  case' small=>(simp [h2,h3]; simp [cH,h1,h2,h3])
  case' large=>(simp [h2,h3]; have h23:¬ (0 ≤ findF ps x.name ∧ findF ps x.name < k):=fun h=>h3 h.2; refine af.aS ra hcf (congrArg ab.bool h5) ?_; simp [h2,h3])
  all_goals
    refine (tf (aH 1 5 [x.kind])).elim (fun h4=>?_) (fun h4=>?_)
    rotate_left
    · refine af.aS dW (aE 1 5 [x.kind] (by simp [maxLen]) _) (congrArg ab.bool h4) ?_
      simp
      simp [cH,h1,h4]; omega
    refine af.aS dW (aE 1 5 [x.kind] (by simp [maxLen]) _) (congrArg ab.bool h4) ?_
    simp
    refine (tf (aH 0 40 [x.first,x.last])).elim (fun h5=>?_) (fun h5=>?_)
    rotate_left
    · refine af.aS dW (aE 0 40 [x.first,x.last] (by simp [maxLen]) _) (congrArg ab.bool h5) ?_
      simp
      simp [cH,h1,h4,h5]; omega
    refine af.aS dW (aE 0 40 [x.first,x.last] (by simp [maxLen]) _) (congrArg ab.bool h5) ?_
    simp
    refine (tf (aH 1 1000000 [x.lo,x.hi])).elim (fun h6=>?_) (fun h6=>?_)
    rotate_left
    · refine af.aS dW (aE 1 1000000 [x.lo,x.hi] (by simp [maxLen]) _) (congrArg ab.bool h6) ?_
      simp
      simp [cH,h1,h4,h5,h6]; omega
    refine af.aS dW (aE 1 1000000 [x.lo,x.hi] (by simp [maxLen]) _) (congrArg ab.bool h6) ?_
    simp [hb]
    refine ⟨fun h7=>?_,fun h7 h8=>?_⟩
    · simp only [cH,h1,h4,h5,h6]
      rw [if_neg (by simp),if_neg h23,if_neg (by simp),if_pos h7]
    have hc:cH ps x k = if x.on.any (fun n=>decide (findF (ps.take k) n < 0)) then 4 else if rA x.on x.on 0 then 5 else if x.on.any (fun n=>!dM x (atF (ps.take k) n)) then 9 else 0:=by
      simp only [cH,h1,h4,h5,h6]
      rw [if_neg (by simp),if_neg h23,if_neg (by simp),if_neg (by omega)]
    have hb1:(σ ++ [aQ.box [ab.slice 7 (List.take k (List.map HuM.v ps))]])[σ.length]? = some (.box [.slice 7 ((ps.take k).map HuM.v)]):=by simp [List.map_take]
    have hlk:(ps.take k).length ≤ maxLen:=by simp; omega
    have hq1:=bw xK [.ptr σ.length 0] (fun n=>decide (findF (ps.take k) n < 0)) x.on hn _ (fun n _=>aB.func Gq (gn (ps.take k) n hlk σ.length _ hb1))
    refine ⟨hk,(tf (x.on.any (fun n=>decide (findF (ps.take k) n < 0)))).elim (fun h9=>?_) (fun h9=>?_)⟩
    rotate_left
    · refine af.aS wK hq1 (congrArg ab.bool h9) ?_
      simp
      rw [hc,if_pos h9]
    refine af.aS wK hq1 (congrArg ab.bool h9) ?_
    simp
    rw [h9] at hc
    have hpos:∀ n ∈ x.on,0 ≤ findF (ps.take k) n:=by
      intro n hm
      have:=List.any_eq_false.1 h9 n hm
      simp at this
      omega
    have hq2:=bw xU [.pval x.v, .ptr σ.length 0] (fun n=>!dM x (atF (ps.take k) n)) x.on hn _ (fun n hm=>aB.func Gd (fU (ps.take k) x n hlk σ.length _ hb1 (hpos n hm)))
    refine (tf (rA x.on x.on 0)).elim (fun ha=>?_) (fun ha=>?_)
    rotate_left
    · refine af.aS A3 (dQ x.on hn _) (congrArg ab.bool ha) ?_
      simp
      rw [hc,if_neg (by simp),if_pos ha]
    refine af.aS A3 (dQ x.on hn _) (congrArg ab.bool ha) ?_
    simp
    refine (tf (x.on.any (fun n=>!dM x (atF (ps.take k) n)))).elim (fun hd=>?_) (fun hd=>?_)
    rotate_left
    · refine af.aS wK hq2 (congrArg ab.bool hd) ?_
      simp
      rw [hc,if_neg (by simp),if_neg (by simp [ha]),if_pos hd]
    refine af.aS wK hq2 (congrArg ab.bool hd) ?_
    simp
    rw [hc,if_neg (by simp),if_neg (by simp [ha]),if_neg (by simp [hd])]
theorem af.tl {P:Program} {f:FuncId} (hb:ak P f = true) {args:List ab} {σ:ag} {v:ab} {K Kp:ab → ag → Prop} (hs:Spec P f args σ fun r σ'=>r = .ret v ∧ ∃ tl,σ' = σ ++ tl) (hq:∀ tl,K v (σ ++ tl)) :
    @af P (.func (.func f) [] []) args σ ⟨K⟩ ⟨Kp⟩:=
  (aB.func (first:=[]) (caps:=[]) hb (by rw [List.nil_append,List.append_nil]; exact hs)).mono (by rintro r σ' ⟨rfl,tl,rfl⟩; exact hq tl)
theorem af.spec {P:Program} {f:FuncId} (hb:ak P f = true) {args:List ab} {σ:ag} {Q:eP → ag → Prop} {K Kp:ab → ag → Prop} (hs:Spec P f args σ Q) (h:∀ r σ',Q r σ' → ∃ v,r = .ret v ∧ K v σ') :
    @af P (.func (.func f) [] []) args σ ⟨K⟩ ⟨Kp⟩:=
  aB.func hb (by simpa using hs.mono fun r σ' hq=>by obtain ⟨v,rfl,hk⟩:=h r σ' hq; exact hk)
set_option maxRecDepth 100000
set_option maxHeartbeats 1000000
theorem HuM.fits (l:List HuM):Fits 7 (l.map HuM.v):=by
  intro v hv
  obtain ⟨x,_,rfl⟩:=List.mem_map.1 hv
  exact ⟨rfl,rfl⟩
theorem mZ (l:List HuM) (hl:l.length * 80 ≤ 140737488355328) (σ:ag) :
    Spec Tryz.prog xr [.slice 7 (l.map HuM.v)] σ fun r σ'=>r = .ret (.oslice 7 (l.map HuM.v) σ.length 1) ∧ σ' = σ ++ [.spare 7 1]:=by
  have hf:=HuM.fits l
  have hl2:(l.map HuM.v).length * 80 ≤ 140737488355328:=by simpa using hl
  generalize l.map HuM.v = xs at *
  refine Jy (by simp) (aa _ ?_)
  simp [Gj,hf,hl2]
theorem iJ (l:List HuM) (hl:l.length * 80 ≤ 140737488355328) (σ:ag) :
    Spec Tryz.prog xr [.slice 7 (l.map HuM.v)] σ fun r σ'=>r = .ret (.sref 7 σ.length 0 l.length l.length) ∧ σ' = σ ++ [.arr 7 (l.map HuM.v)]:=by
  have hf:=HuM.fits l
  have hl2:(l.map HuM.v).length * 80 ≤ 140737488355328:=by simpa using hl
  have hl3:l.length = (l.map HuM.v).length:=by simp
  rw [hl3]
  generalize l.map HuM.v = xs at *
  refine dS (by simp) (aa _ ?_)
  simp [bD,hf,hl2]
  exact ⟨fun h=>by subst h; rfl,fun h=>by subst h; exact ⟨rfl,rfl⟩⟩
def doR (ps:List HuM) (c:ChM):List HuM:=if doE ps c = 0 then doL ps c else ps
theorem ji {σ:ag} {b:Nat} {o:aQ} (h:σ[b]? = some o):σ.set b o = σ:=by
  obtain ⟨h1,h2⟩:=List.getElem?_eq_some_iff.1 h
  rw [← h2]; exact List.set_getElem_self h1
theorem n0 (ps:List HuM) (c:ChM) (hw:c.what = 1) (hl:ps.length ≤ 12) (hn:c.part.on.length ≤ maxLen) (b:Nat) (σ:ag) (hb:σ[b]? = some (.box [.slice 7 (ps.map HuM.v)])) :
    Spec Tryz.prog xq [.ptr b 0,c.v] σ fun r σ'=>r = .ret (ii' (doE ps c)) ∧ ∃ tl,σ' = σ.set b (.box [.slice 7 ((doR ps c).map HuM.v)]) ++ tl:=by
  have hnn:∀ l:ag,(σ ++ l)[b]? = some (.box [.slice 7 (ps.map HuM.v)]):=fun l=>by rw [List.getElem?_append_left (List.getElem?_eq_some_iff.1 hb).1,hb]
  have hbl:=(List.getElem?_eq_some_iff.1 hb).1
  have hset:∀ (l:ag) (o:aQ),(σ ++ l).set b o = σ.set b o ++ l:=fun l o=>List.set_append_left _ _ hbl
  have hget:∀ (o:aQ) (l:ag),(σ.set b o ++ l)[b]? = some o:=fun o l=>by rw [List.getElem?_append_left (by simpa using hbl),List.getElem?_set_self hbl]
  have hset2:∀ (o o2:aQ) (l:ag),(σ.set b o ++ l).set b o2 = σ.set b o2 ++ l:=fun o o2 l=>by rw [List.set_append_left _ _ (by simpa using hbl),List.set_set]
  by_cases h1:12 ≤ ps.length
  · have he:doE ps c = 3:=by simp [doE,hw,h1]
    have hr:doR ps c = ps:=by simp [doR,he]
    rw [he,hr,ji hb]
    refine DZ (by simp) (aa _ ?_)
    simp [A7,ChM.v,ChM.cells,hb]
    omega
  have he:doE ps c = eZ ps c.part ps.length []:=by simp [doE,hw,h1]
  have hq:=fun σ' h=>iM ps c.part ps.length [] (by simp only [maxLen]; omega) (Nat.le_refl _) hn (by simp [maxLen]) b σ' h
  rw [← he] at hq
  by_cases h2:doE ps c = 0
  · have hr:doR ps c = ps ++ [c.part]:=by simp [doR,h2,doL,hw]
    rw [hr,h2]
    rw [h2] at hq
    refine DZ (by simp) (aa _ ?_)
    simp [A7,ChM.v,ChM.cells,hb]
    refine ⟨by omega,fun _=>?_⟩
    refine af.tl CI (hq σ hb) fun tl=>?_
    simp [hnn,hset,hget]
    exact ⟨ps.map HuM.v,fun σ'=>aB.func (first:=[]) (caps:=[]) DA (mZ ps (by omega) σ'),HuM.fits [c.part],by simp; omega,tl ++ [.spare 7 2],hset2 _ _ _⟩
  · have hr:doR ps c = ps:=by simp [doR,h2]
    rw [hr,ji hb]
    refine DZ (by simp) (aa _ ?_)
    simp [A7,ChM.v,ChM.cells,hb]
    refine ⟨fun h=>by omega,fun _=>?_⟩
    refine af.tl CI (hq σ hb) fun tl=>?_
    simp [hnn,hset,hget,h2]
set_option maxRecDepth 100000
set_option maxHeartbeats 1000000
def uv:ab:=.agg [.str ByteArray.empty, .int .i64 0, .int .i64 0, .int .i64 0, .slice 1 [], .int .i64 0, .int .i64 0]
theorem lg (xs:List ab) (hf:Fits 7 xs) (k:Nat) (hk:k < xs.length) (hl:xs.length ≤ 12) (b:Nat) (σ:ag) (hb:σ[b]? = some (.arr 7 xs)) :
    Spec Tryz.prog D8 [.sref 7 b 0 xs.length xs.length, .int .i64 k, .int .i64 ((k:Int) + 1)] σ fun r σ'=>r = .ret (.sref 7 b 0 (xs.length - 1) xs.length) ∧ σ' = σ.set b (.arr 7 (xs.take k ++ xs.drop (k + 1) ++ [uv])):=by
  have hbl:=(List.getElem?_eq_some_iff.1 hb).1
  refine Ir (by simp) (aa _ ?_)
  simp [FM]
  have ht:((xs.length:Int) - ((k:Int) + 1)).toNat = xs.length - (k + 1):=by omega
  have hty:(xs.drop (k + 1)).take (xs.length - (k + 1)) = xs.drop (k + 1):=List.take_of_length_le (by simp)
  have hfy:Fits 7 (xs.drop (k + 1)):=fun v hv=>hf v (List.mem_of_mem_drop hv)
  refine ⟨by omega,by omega,fun h=>absurd h (by omega),fun _=>⟨[.sref 7 b 0 k xs.length, .sref 7 b (k + 1) (xs.length - (k + 1)) xs.length], ?_⟩⟩
  have hbe:σ[b] = .arr 7 xs:=(List.getElem?_eq_some_iff.1 hb).2
  have hn1:k + (xs.length - (k + 1)) = xs.length - 1:=by omega
  have hn2:(k:Int) + ((xs.length - (k + 1):Nat):Int) = ((xs.length - 1:Nat):Int):=by omega
  have hn3:((xs.length:Int) - ((xs.length - 1:Nat):Int)).toNat = 1:=by omega
  have hn4:min k xs.length = k:=by omega
  have hn5:k + (xs.length - (k + 1) + (xs.length - (xs.length - 1))) = xs.length:=by omega
  simp [hbe,ht,hty,hfy,hbl,hn1,hn2,hn3,hn4,hn5,show k ≤ xs.length by omega,show (0:Int) ≤ (k:Int) + 1 by omega]
  refine ⟨by omega, ?_⟩
  have hA:(xs.take k ++ xs.drop (k + 1)).length = xs.length - 1:=by simp; omega
  have e2:(xs.take k ++ (xs.drop (k + 1) ++ xs.drop (xs.length - 1))).take (xs.length - 1) = xs.take k ++ xs.drop (k + 1):=by rw [← List.append_assoc]; exact List.take_left' hA
  have e3:(xs.take k ++ (xs.drop (k + 1) ++ xs.drop (xs.length - 1))).drop (xs.length - 1 + 1) = []:=List.drop_eq_nil_of_le (by simp; omega)
  rw [e2,e3]
  simp [uv]
theorem oD (x:HuM) (n:ByteArray) (hl:x.on.length ≤ maxLen) (σ:ag):Spec Tryz.prog Hi [x.v, .str n] σ fun r σ'=>r = .ret (.bool (bF x n)) ∧ σ' = σ:=by
  refine Spec.aC (LM (by simp) (aa _ ?_)) (by simp [aA,x.pure,ab.pure]) rfl σ
  simp [JQ,HuM.v,HuM.cells]
  refine af.pure GB (fm x.on n hl _) ?_
  simp [bF]
theorem qo (y:HuM) (c:ChM) (hl:y.on.length ≤ maxLen) (σ:ag):Spec Tryz.prog AJ [y.v, .pval c.v] σ fun r σ'=>r = .ret (.bool (bF y c.name)) ∧ σ' = σ:=by
  refine Spec.aC (Lg (by simp) (aa _ ?_)) (by simp [aA,y.pure,c.pure,ab.pure]) rfl σ
  simp [FL,ChM.v,ChM.cells,HuM.v,HuM.cells]
  refine af.pure HP (oD y c.name hl _) ?_
  simp
theorem mW (ps:List HuM) (c:ChM) (hw:c.what = 2) (hl:ps.length ≤ 12) (hn:∀ x ∈ ps,x.on.length ≤ maxLen) (b:Nat) (σ:ag) (hb:σ[b]? = some (.box [.slice 7 (ps.map HuM.v)])) :
    Spec Tryz.prog xk [.ptr b 0,c.v] σ fun r σ'=>r = .ret (ii' (doE ps c)) ∧ ∃ tl,σ' = σ.set b (.box [.slice 7 ((doR ps c).map HuM.v)]) ++ tl:=by
  have hnn:∀ l:ag,(σ ++ l)[b]? = some (.box [.slice 7 (ps.map HuM.v)]):=fun l=>by rw [List.getElem?_append_left (List.getElem?_eq_some_iff.1 hb).1,hb]
  have hbl:=(List.getElem?_eq_some_iff.1 hb).1
  have hset:∀ (l:ag) (o:aQ),(σ ++ l).set b o = σ.set b o ++ l:=fun l o=>List.set_append_left _ _ hbl
  have hget:∀ (o:aQ) (l:ag),(σ.set b o ++ l)[b]? = some o:=fun o l=>by rw [List.getElem?_append_left (by simpa using hbl),List.getElem?_set_self hbl]
  have hset2:∀ (o o2:aQ) (l:ag),(σ.set b o ++ l).set b o2 = σ.set b o2 ++ l:=fun o o2 l=>by rw [List.set_append_left _ _ (by simpa using hbl),List.set_set]
  have hfd:=aO ps c.name (by simp only [maxLen]; omega) b σ hb
  by_cases h1:findF ps c.name < 0
  · have he:doE ps c = 4:=by simp [doE,hw,h1]
    have hr:doR ps c = ps:=by simp [doR,he]
    rw [he,hr,ji hb]
    refine Cz (by simp) (aa _ ?_)
    simp [Ba,ChM.v,ChM.cells]
    refine af.pure eV hfd ?_
    simp [h1]
  obtain ⟨k,hk,ek,_,_⟩:=bC h1
  have hcf:=cO AJ [.pval c.v] (by simp [ab.pure,aA,c.pure]) (fun y=>bF y c.name) ps (by simp only [maxLen]; omega) (fun y hy=>jL.fn JS (fun σ=>qo y c (hn y hy) σ)) σ
  rw [ek] at hfd
  have hk0:¬ (k:Int) < 0:=by omega
  rcases tf (gq ps c.name) with h2 | h2
  · have he:doE ps c = 0:=by simp [doE,hw,h1,h2]
    have hr:doR ps c = kh ps k:=by simp [doR,he,doL,hw,ek]
    rw [he,hr]
    refine Cz (by simp) (aa _ ?_)
    simp [Ba,ChM.v,ChM.cells]
    refine af.pure eV hfd ?_
    simp [hk0,hb]
    refine af.aS ra hcf (congrArg ab.bool h2) ?_
    simp [hb]
    refine af.spec DA (iJ ps (by omega) σ) ?_
    rintro r σ' ⟨rfl,rfl⟩
    refine ⟨_,rfl, ?_⟩
    have hwk:IntKind.i64.wrap ((k:Int) + 1) = (k:Int) + 1:=aj (by omega) (by omega)
    have hdl:=lg (ps.map HuM.v) (HuM.fits ps) k (by simpa using hk) (by simpa using hl) σ.length (σ ++ [.arr 7 (ps.map HuM.v)]) (by simp)
    simp only [List.length_map] at hdl
    simp [hwk]
    refine af.spec KR hdl ?_
    rintro r σ' ⟨rfl,rfl⟩
    refine ⟨_,rfl, ?_⟩
    have hne:¬ σ.length = b:=by omega
    have hne2:¬ b = σ.length:=by omega
    simp [hnn,hset,hget,hset2,hbl]
    refine ⟨by omega,[.dead], ?_⟩
    have hA:((ps.map HuM.v).take k ++ (ps.map HuM.v).drop (k + 1)).length = ps.length - 1:=by simp; omega
    have e2:((ps.map HuM.v).take k ++ ((ps.map HuM.v).drop (k + 1) ++ [uv])).take (ps.length - 1) = (kh ps k).map HuM.v:=by
      rw [← List.append_assoc,List.take_left' hA]
      simp [kh]
    rw [e2]
  · have he:doE ps c = 9:=by simp [doE,hw,h1,h2]
    have hr:doR ps c = ps:=by simp [doR,he]
    rw [he,hr,ji hb]
    refine Cz (by simp) (aa _ ?_)
    simp [Ba,ChM.v,ChM.cells]
    refine af.pure eV hfd ?_
    simp [hk0,hb]
    refine af.aS ra hcf (congrArg ab.bool h2) ?_
    simp
set_option maxRecDepth 100000
set_option maxHeartbeats 1000000
theorem uZ (l:List ByteArray):Fits 1 (l.map ab.str):=by
  intro v hv
  obtain ⟨x,_,rfl⟩:=List.mem_map.1 hv
  exact ⟨⟨rfl,rfl⟩,rfl⟩
theorem lO (l:List ByteArray) (hl:l.length * 16 ≤ 140737488355328) (σ:ag) :
    Spec Tryz.prog xH [.slice 1 (l.map .str)] σ fun r σ'=>r = .ret (.oslice 1 (l.map .str) σ.length 1) ∧ σ' = σ ++ [.spare 1 1]:=by
  have hf:=uZ l
  have hl2:(l.map ab.str).length * 16 ≤ 140737488355328:=by simpa using hl
  generalize l.map ab.str = xs at *
  refine J6 (by simp) (aa _ ?_)
  simp [Gg,hf,hl2]
theorem mc (l:List ByteArray) (hl:l.length * 16 ≤ 140737488355328) (σ:ag) :
    Spec Tryz.prog xH [.slice 1 (l.map .str)] σ fun r σ'=>r = .ret (.sref 1 σ.length 0 l.length l.length) ∧ σ' = σ ++ [.arr 1 (l.map .str)]:=by
  have hf:=uZ l
  have hl2:(l.map ab.str).length * 16 ≤ 140737488355328:=by simpa using hl
  have hl3:l.length = (l.map ab.str).length:=by simp
  rw [hl3]
  generalize l.map ab.str = xs at *
  refine fy (by simp) (aa _ ?_)
  simp [cd,hf,hl2]
  exact ⟨fun h=>by subst h; rfl,fun h=>by subst h; exact ⟨rfl,rfl⟩⟩
theorem pa (a b:ByteArray):∀ (l:List ByteArray) (k i:Nat),bV (fun y=>a.toList == y.toList) l i = ((i + k:Nat):Int) → kq a b l = l.set k b
  | [],k,i,h=>by simp [bV] at h; omega
  | n :: r,k,i,h=>by
    simp only [bV] at h
    simp only [kq]
    by_cases hn:(a.toList == n.toList) = true
    · rw [if_pos hn] at h
      rw [rC] at hn
      rw [if_pos hn]
      have:k = 0:=by omega
      subst this; rfl
    · rw [if_neg hn] at h
      rw [rC] at hn
      rw [if_neg hn]
      cases k with
      | zero=>
        obtain ⟨j,_,e,_⟩:=mr _ r (i + 1) (by rw [h]; omega)
        omega
      | succ k=>rw [pa a b r k (i + 1) (by rw [h]; congr 1; omega)]; rfl
theorem BA (y:HuM) (n:ByteArray):bF y n = decide (0 ≤ bV (fun m=>n.toList == m.toList) y.on 0):=by
  unfold bF; rw [iy]
def swapAt (ps:List HuM) (c:ChM) (k i:Nat):List HuM:=ps.take k ++ c.part :: (((ps.drop (k + 1)).take i).map (oO c.name c.part) ++ (ps.drop (k + 1)).drop i)
theorem Ar (ps:List HuM) (c:ChM) {k i:Nat} (hk:k < ps.length):(swapAt ps c k i).length = ps.length:=by
  simp [swapAt]; omega
theorem zf (ps:List HuM) (c:ChM) {k i:Nat} (hk:k < ps.length) (hi:k + 1 + i < ps.length):(swapAt ps c k i)[k + 1 + i]? = some (ps[k + 1 + i]):=by
  unfold swapAt
  rw [List.getElem?_append_right (by simp; omega)]
  simp only [List.length_take,show min k ps.length = k by omega,show k + 1 + i - k = i + 1 by omega,List.getElem?_cons_succ]
  rw [List.getElem?_append_right (by simp; omega)]
  simp [show min i (ps.length - (k + 1)) = i by omega,hi]
theorem yO (ps:List HuM) (c:ChM) {k i:Nat} (hk:k < ps.length) (hi:k + 1 + i < ps.length):(swapAt ps c k i).set (k + 1 + i) (oO c.name c.part (ps[k + 1 + i])) = swapAt ps c k (i + 1):=by
  have hd:(ps.drop (k + 1)).drop i = ps[k + 1 + i] :: (ps.drop (k + 1)).drop (i + 1):=by
    rw [List.drop_drop,List.drop_drop,List.drop_eq_getElem_cons hi]; rfl
  have ht:(ps.drop (k + 1)).take (i + 1) = (ps.drop (k + 1)).take i ++ [ps[k + 1 + i]]:=by
    rw [List.take_succ_eq_append_getElem (by simp; omega)]; simp
  unfold swapAt
  rw [ht,List.map_append,hd]
  rw [List.set_append_right _ _ (by simp; omega)]
  congr 1
  simp only [List.length_take,show min k ps.length = k by omega,show k + 1 + i - k = i + 1 by omega,List.set_cons_succ]
  congr 1
  rw [List.set_append_right _ _ (by simp; omega)]
  simp [show min i (ps.length - (k + 1)) = i by omega]
theorem nc (ps:List HuM) (c:ChM) (hw:c.what = 3) (hl:ps.length ≤ 12) (hn:∀ x ∈ ps,x.on.length ≤ 12) (hnc:c.part.on.length ≤ maxLen) (b:Nat) (σ:ag) (hb:σ[b]? = some (.box [.slice 7 (ps.map HuM.v)])) :
    Spec Tryz.prog xd [.ptr b 0,c.v] σ fun r σ'=>r = .ret (ii' (doE ps c)) ∧ ∃ tl,σ' = σ.set b (.box [.slice 7 ((doR ps c).map HuM.v)]) ++ tl:=by
  have hnn:∀ l:ag,(σ ++ l)[b]? = some (.box [.slice 7 (ps.map HuM.v)]):=fun l=>by rw [List.getElem?_append_left (List.getElem?_eq_some_iff.1 hb).1,hb]
  have hbl:=(List.getElem?_eq_some_iff.1 hb).1
  have hset:∀ (l:ag) (o:aQ),(σ ++ l).set b o = σ.set b o ++ l:=fun l o=>List.set_append_left _ _ hbl
  have hget:∀ (o:aQ) (l:ag),(σ.set b o ++ l)[b]? = some o:=fun o l=>by rw [List.getElem?_append_left (by simpa using hbl),List.getElem?_set_self hbl]
  have hset2:∀ (o o2:aQ) (l:ag),(σ.set b o ++ l).set b o2 = σ.set b o2 ++ l:=fun o o2 l=>by rw [List.set_append_left _ _ (by simpa using hbl),List.set_set]
  have hfd:=aO ps c.name (by simp only [maxLen]; omega) b σ hb
  by_cases h1:findF ps c.name < 0
  · have he:doE ps c = 4:=by simp [doE,hw,h1]
    have hr:doR ps c = ps:=by simp [doR,he]
    rw [he,hr,ji hb]
    refine CB (by simp) (aa _ ?_)
    simp [A0,ChM.v,ChM.cells]
    refine af.pure eV hfd ?_
    simp [h1]
  obtain ⟨k,hk,ek,_,_⟩:=bC h1
  rw [ek] at hfd
  have hk0:¬ (k:Int) < 0:=by omega
  have hwk:IntKind.i64.wrap ((k:Int) + 1) = (k:Int) + 1:=aj (by omega) (by omega)
  have hq:=iM ps c.part k (ps.drop (k + 1)) (by simp only [maxLen]; omega) (by omega) hnc (by simp [maxLen]; omega) b σ hb
  rw [List.map_drop] at hq
  simp only [HuM.v,HuM.cells] at hq
  have htk:List.take ps.length (List.map HuM.v ps) = List.map HuM.v ps:=List.take_of_length_le (by simp)
  have hde:doE ps c = if eZ ps c.part k (ps.drop (k + 1)) ≠ 0 then eZ ps c.part k (ps.drop (k + 1)) else if (ps.drop (k + 1)).any (fun y=>bF y c.name && !dM y c.part) then 9 else 0:=by
    unfold doE; rw [if_neg (by omega),if_neg h1,if_neg (by omega),ek]; rfl
  have hle:(0:Int) ≤ (k:Int) + 1 ∧ (k:Int) + 1 ≤ (ps.length:Int):=by omega
  by_cases h2:eZ ps c.part k (ps.drop (k + 1)) ≠ 0
  · have he:doE ps c = eZ ps c.part k (ps.drop (k + 1)):=by rw [hde,if_pos h2]
    have hr:doR ps c = ps:=by simp [doR,he,h2]
    rw [hr,ji hb]
    rw [← he] at hq h2
    refine CB (by simp) (aa _ ?_)
    simp [A0,ChM.v,ChM.cells]
    refine af.pure eV hfd ?_
    simp [hk0,hb,hwk,htk]
    refine ⟨hle,af.tl CI hq fun tl=>?_⟩
    simp [h2]
  rw [if_neg h2] at hde
  rw [Decidable.not_not] at h2
  rw [h2] at hq
  refine CB (by simp) (aa _ ?_)
  simp [A0,ChM.v,ChM.cells]
  refine af.pure eV hfd ?_
  simp [hk0,hb,hwk,htk]
  refine ⟨hle,af.tl CI hq fun tl=>?_⟩
  obtain ⟨σ1,hσ1⟩:∃ σ1,σ1 = σ ++ tl:=⟨_,rfl⟩
  have hb1:σ1[b]? = some (.box [.slice 7 (ps.map HuM.v)]):=by rw [hσ1]; exact hnn tl
  have hn1:∀ l:ag,(σ1 ++ l)[b]? = some (.box [.slice 7 (ps.map HuM.v)]):=fun l=>by rw [hσ1,List.append_assoc]; exact hnn _
  have hB:∀ (o:aQ) (l:ag),(σ1 ++ o :: l)[σ1.length]? = some o:=fun o l=>by simp
  have hBs:∀ (o o':aQ) (l:ag),(σ1 ++ o :: l).set σ1.length o' = σ1 ++ o' :: l:=fun o o' l=>by simp
  have hb1l:b < σ1.length:=(List.getElem?_eq_some_iff.1 hb1).1
  have g1:∀ (o:aQ) (l:ag),(σ1 ++ l).set b o = σ1.set b o ++ l:=fun o l=>List.set_append_left _ _ hb1l
  have g2:∀ (o:aQ) (l:ag),(σ1.set b o ++ l)[b]? = some o:=fun o l=>by rw [List.getElem?_append_left (by simpa using hb1l),List.getElem?_set_self hb1l]
  have g3:∀ (o o':aQ) (l:ag),(σ1.set b o ++ l).set b o' = σ1.set b o' ++ l:=fun o o' l=>by rw [List.set_append_left _ _ (by simpa using hb1l),List.set_set]
  have g4:∀ (o x:aQ) (l:ag),(σ1.set b o ++ x :: l)[σ1.length]? = some x:=fun o x l=>by rw [List.getElem?_append_right (by simp)]; simp
  have g5:∀ (o x x':aQ) (l:ag),(σ1.set b o ++ x :: l).set σ1.length x' = σ1.set b o ++ x' :: l:=fun o x x' l=>by rw [List.set_append_right _ _ (by simp)]; simp
  have gf:∀ (o:aQ) (l:ag),σ1.set b o ++ l = σ.set b o ++ (tl ++ l):=fun o l=>by rw [hσ1,hset,List.append_assoc]
  rw [← hσ1]
  simp [hb1]
  refine af.spec DA (iJ ps (by omega) σ1) ?_
  rintro r σ' ⟨rfl,rfl⟩
  refine ⟨_,rfl, ?_⟩
  simp [hBs,hwk,hk,HuM.v,HuM.cells]
  refine ⟨hle.1,hle.2, ?_⟩
  refine AW.loop (ι:=Nat) (fun i fr h=>fr = { v:=[(0, .ptr b 0),(3, .pval c.v),(5, .int .i64 k),(7, .sref 7 σ1.length 0 ps.length ps.length),(48, .int .i64 (ps.length - (k + 1):Nat)),(49, .int .i64 i)],ds:=[] } ∧ (∃ tl2,h = σ1 ++ .arr 7 ((swapAt ps c k i).map HuM.v) :: tl2) ∧ i ≤ ps.length - (k + 1) ∧ ((ps.drop (k + 1)).take i).any (fun y=>bF y c.name && !dM y c.part) = false) (fun i=>ps.length - (k + 1) - i) 0 ?_ ?_
  · refine ⟨?_,⟨[], ?_⟩,Nat.zero_le _,by simp⟩
    · rw [show (max ((ps.length:Int) - ((k:Int) + 1)) 0) = ((ps.length - (k + 1):Nat):Int) by omega]
      rfl
    · congr 2
      congr 1
      simp only [swapAt,List.take_zero,List.map_nil,List.nil_append,List.drop_zero,List.map_append,List.map_cons]
      rw [List.set_eq_take_append_cons_drop,if_pos (by simpa using hk),List.map_take,List.map_drop]
      rfl
  rintro i fr h ⟨rfl,⟨tl2,rfl⟩,hi,hno⟩
  have hlS:=Ar ps c (i:=i) hk
  refine (Nat.lt_or_ge i (ps.length - (k + 1))).elim (fun hlt=>?_) (fun hge=>?_)
  rotate_left
  · refine aa _ ?_
    have hiN:i = ps.length - (k + 1):=by omega
    have hall:(ps.drop (k + 1)).any (fun y=>bF y c.name && !dM y c.part) = false:=by
      rw [List.take_of_length_le (l:=ps.drop (k + 1)) (by simp; omega)] at hno; exact hno
    have he:doE ps c = 0:=by rw [hde,hall]; rfl
    have hr:doR ps c = swapAt ps c k i:=by
      simp only [doR,he,if_true,doL,hw,ek,swapAt]
      rw [List.take_of_length_le (l:=ps.drop (k + 1)) (by simp; omega),List.drop_of_length_le (l:=ps.drop (k + 1)) (by simp; omega)]
      simp
    rw [he,hr]
    simp [ChM.v,ChM.cells,show ¬ ((i:Int) < ((ps.length - (k + 1):Nat):Int)) by omega,hn1,hlS,g1,g2,g3,g5]
    rw [List.take_of_length_le (by simp; omega),gf]
    exact ⟨_,rfl⟩
  have hlt2:k + 1 + i < ps.length:=by omega
  have hgt:=zf ps c hk hlt2
  have hst:=yO ps c hk hlt2
  obtain ⟨y,hy⟩:∃ y,y = ps[k + 1 + i]:=⟨_,rfl⟩
  rw [← hy] at hgt hst
  have hyn:y.on.length ≤ 12:=hn y (hy ▸ List.getElem_mem _)
  have hix:=eb y.on c.name (by simp only [maxLen]; omega)
  obtain ⟨xs,hxs⟩:∃ xs,xs = (swapAt ps c k i).map HuM.v:=⟨_,rfl⟩
  have hxl:xs.length = ps.length:=by rw [hxs,List.length_map,hlS]
  have hxg:xs[k + 1 + i]? = some y.v:=by rw [hxs,List.getElem?_map,hgt]; rfl
  have hwi:IntKind.i64.wrap ((k:Int) + 1 + i) = (k:Int) + 1 + i:=aj (by omega) (by omega)
  rw [← hxs]
  have hoi:=BA y c.name
  obtain ⟨ix,hixe⟩:∃ ix,ix = bV (fun m=>c.name.toList == m.toList) y.on 0:=⟨_,rfl⟩
  rw [← hixe] at hix hoi
  have hk2:0 ≤ ix → ∃ k2,k2 < y.on.length ∧ ix = ((k2:Nat):Int):=fun h=>by
    obtain ⟨k2,hk2,ek2,_,_⟩:=mr (fun m=>c.name.toList == m.toList) y.on 0 (by rw [← hixe]; exact h)
    exact ⟨k2,hk2,by rw [hixe,ek2,Nat.zero_add]⟩
  refine aa _ ?_
  have hlti:(i:Int) < ((ps.length - (k + 1):Nat):Int):=by omega
  have htn:((k:Int) + 1 + i).toNat = k + 1 + i:=by omega
  have hin:(0:Int) ≤ (k:Int) + 1 + i ∧ (k:Int) + 1 + i < (ps.length:Int):=by omega
  simp only [HuM.v,HuM.cells] at hxg
  have hxe:∀ h:k + 1 + i < xs.length,xs[k + 1 + i] = ab.agg [.str y.name,ii' y.kind,ii' y.first,ii' y.last, .slice 1 (y.on.map .str),ii' y.lo,ii' y.hi]:=fun h=>by
    rw [List.getElem?_eq_getElem h] at hxg; exact Option.some.inj hxg
  have hst2:(swapAt ps c k (i + 1)).map HuM.v = xs.set (k + 1 + i) (oO c.name c.part y).v:=by rw [← hst,List.map_set,hxs]
  simp [ChM.v,ChM.cells,hlti,hwk,hwi,hxl,hxe,htn,hlt2]
  refine ⟨hin, .int .i64 ix,fun σ' _=>aB.func (first:=[]) (caps:=[]) Bg (hix σ'), ?_⟩
  have hany:((ps.drop (k + 1)).take (i + 1)).any (fun y=>bF y c.name && !dM y c.part) = (bF y c.name && !dM y c.part):=by
    rw [List.take_succ_eq_append_getElem (by simp; omega),List.any_append,hno]
    simp [hy]
  have hfin:(bF y c.name && !dM y c.part) = false → ∀ x,x ∈ List.take (i + 1) (List.drop (k + 1) ps) → bF x c.name = true → dM x c.part = true:=fun h x hx ho=>by
    rw [h,List.any_eq_false] at hany
    have:=hany x hx
    rw [ho] at this
    simpa using this
  have hwi1:IntKind.i64.wrap ((i:Int) + 1) = ((i + 1:Nat):Int):=by rw [aj (by omega) (by omega)]; omega
  refine (Classical.em (ix < 0)).elim (fun hneg=>?_) (fun hneg=>?_)
  · have hoh:bF y c.name = false:=by rw [hoi]; simpa using hneg
    have hsw:oO c.name c.part y = y:=by unfold oO; rw [hoh]; rfl
    rw [hsw,HuM.v,HuM.cells] at hst2
    have hsame:xs.set (k + 1 + i) (.agg [.str y.name,ii' y.kind,ii' y.first,ii' y.last, .slice 1 (y.on.map .str),ii' y.lo,ii' y.hi]) = xs:=by
      rw [← hxe (by omega),List.set_getElem_self]
    rw [hsame] at hst2
    simp [hneg]
    exact ⟨i + 1,by omega,hwi1,hst2.symm,by omega,hfin (by rw [hoh]; rfl)⟩
  have hoh:bF y c.name = true:=by rw [hoi]; simpa using hneg
  refine (hk2 (by omega)).elim fun k2 hk2=>?_
  have ek2:=hk2.2
  have hmt:=lC y c.part
  simp only [HuM.v,HuM.cells] at hmt
  refine (tf (dM y c.part)).elim (fun hm=>?_) (fun hm=>?_)
  · rw [hm] at hmt
    have he:doE ps c = 9:=by
      rw [hde,if_pos]
      rw [List.any_eq_true]
      exact ⟨y,hy ▸ List.mem_drop_iff_getElem.2 ⟨i,by omega,rfl⟩,by rw [hoh,hm]; rfl⟩
    have hr:doR ps c = ps:=by simp [doR,he]
    have hs0:=ji hb
    simp [hneg]
    refine ⟨.bool false,fun σ' _=>aB.func (first:=[]) (caps:=[]) Cr (hmt σ'), ?_⟩
    simp [he,hr,hs0,hσ1]
    done
  rw [hm] at hmt
  simp [hneg]
  refine ⟨.bool true,fun σ' _=>aB.func (first:=[]) (caps:=[]) Cr (hmt σ'), ?_⟩
  simp
  refine af.spec Gp (mc y.on (by omega) _) ?_
  rintro r σ' ⟨rfl,rfl⟩
  refine ⟨_,rfl, ?_⟩
  have p1:∀ (o x:aQ),(σ1 ++ o :: (tl2 ++ [x]))[σ1.length + (tl2.length + 1)]? = some x:=fun o x=>by
    rw [List.getElem?_append_right (by omega),Nat.add_sub_cancel_left,List.getElem?_cons_succ]; simp
  have p2:∀ (o x x':aQ),(σ1 ++ o :: (tl2 ++ [x])).set (σ1.length + (tl2.length + 1)) x' = σ1 ++ o :: (tl2 ++ [x']):=fun o x x'=>by
    rw [List.set_append_right _ _ (by omega),Nat.add_sub_cancel_left,List.set_cons_succ]; simp
  have hk2c:(k2:Int) < (y.on.length:Int):=by have:=hk2.1; omega
  simp [hBs,hxl,hxe,htn,hlt2,hwk,hwi,p2,ek2,hk2.1,hk2c,ChM.v,ChM.cells]
  have hrf:=pa c.name c.part.name y.on k2 0 (by rw [← hixe,hk2.2,Nat.zero_add])
  have hsw:oO c.name c.part y = { y with on:=y.on.set k2 c.part.name }:=by unfold oO; rw [if_pos hoh,hrf]
  rw [hsw,HuM.v,HuM.cells] at hst2
  have htky:List.take y.on.length ((List.map ab.str y.on).set k2 (ab.str c.part.name)) = (y.on.set k2 c.part.name).map ab.str:=by
    rw [List.map_set,List.take_of_length_le (by simp)]
  refine ⟨i + 1,by omega,hwi1, ?_,by omega,hfin (by rw [hm]; simp)⟩
  rw [htky]; exact hst2.symm
set_option maxRecDepth 100000
set_option maxHeartbeats 1000000
theorem Dt (a b:ByteArray):(a == b) = true ↔ a = b:=by
  obtain ⟨a⟩:=a; obtain ⟨b⟩:=b
  show ((a == b) = true) ↔ _
  simp
def dL (f g:FuncId):ab:=.agg [.func (.func f) [] [], .func (.func g) [] []]
def eT:List (ab × ab):=[(.int .i64 1,dL xp xq),(.int .i64 2,dL yZ xk),(.int .i64 3,dL y5 xd)]
theorem sf (σ:ag):Spec Tryz.prog GZ [] σ fun r σ'=>r = .ret (.map σ.length) ∧ σ' = σ ++ [.amap eT]:=by
  refine N6 (by simp) (aa _ ?_)
  simp [Kv,eT,dL]
theorem pI (c:ChM) (σ:ag):Spec Tryz.prog xp [c.v] σ fun r σ'=>r = .ret (.bool (decide (c.name = ByteArray.empty))) ∧ σ' = σ:=by
  refine Spec.aC (IY (by simp) (aa _ ?_)) (by simp [aA,c.pure]) rfl σ
  simp [GA,ChM.v,ChM.cells]
  have h:=cm c.name ByteArray.empty
  have he:ByteArray.empty.toList = []:=by rw [toList_data]; rfl
  rw [he] at h
  rw [Bool.eq_iff_iff,decide_eq_true_iff, ← h]
  cases c.name.toList <;> simp
theorem pF (c:ChM) (σ:ag):Spec Tryz.prog y5 [c.v] σ fun r σ'=>r = .ret (.bool true) ∧ σ' = σ:=by
  refine Spec.aC (Kz (by simp) (aa _ ?_)) (by simp [aA,c.pure]) rfl σ
  simp [Gf,ChM.v,ChM.cells]
theorem gw (x:HuM) (σ:ag):Spec Tryz.prog GS [x.v] σ fun r σ'=>r = .ret (.agg [.str x.name,ii' x.kind,ii' x.first,ii' x.last,ii' x.lo,ii' x.hi]) ∧ σ' = σ:=by
  refine Spec.aC (Og (by simp) (aa _ ?_)) (by simp [aA,x.pure]) (by simp [ab.pure,aA]) σ
  simp [JB,HuM.v,HuM.cells]
theorem pg (c:ChM) (σ:ag):Spec Tryz.prog yZ [c.v] σ fun r σ'=>r = .ret (.bool (iv c.part)) ∧ σ' = σ:=by
  refine Spec.aC (Jx (by simp) (aa _ ?_)) (by simp [aA,c.pure]) rfl σ
  simp [F4,ChM.v,ChM.cells]
  refine af.pure GG (gw c.part _) ?_
  simp
  unfold iv
  rw [Bool.eq_iff_iff]
  simp only [Bool.and_eq_true,decide_eq_true_iff,beq_iff_eq,Dt]
  constructor
  · rintro ⟨⟨h1,h2,h3,h4,h5,h6⟩,h7⟩
    exact ⟨⟨⟨⟨⟨⟨h1,h2⟩,h3⟩,h4⟩,List.eq_nil_of_length_eq_zero (by omega)⟩,h5⟩,h6⟩
  · rintro ⟨⟨⟨⟨⟨⟨h1,h2⟩,h3⟩,h4⟩,h7⟩,h5⟩,h6⟩
    exact ⟨⟨h1,h2,h3,h4,h5,h6⟩,by rw [h7]; rfl⟩
structure lJ (p:ar):Prop where
  ship:p.ship.length ≤ maxLen
  on:∀ x ∈ p.ship,x.on.length ≤ maxLen
  chs:p.chs.length ≤ maxLen
  con:∀ c ∈ p.chs,c.part.on.length ≤ maxLen
def shQ (all:List HuM):List HuM → Nat → Int × Int × Int
  | [],_=>(0,0,0)
  | x :: r,i=>if cH all x i ≠ 0 then (1,i,cH all x i) else shQ all r (i + 1)
def shP (ps:List HuM):Int × Int × Int:=if 12 < ps.length then (1,0,3) else shQ ps ps 0
theorem Gn (ps:List HuM):shP ps = il aP ps:=by
  have key:∀ (n i:Nat),ps.length - i = n → i ≤ ps.length → (∀ y ∈ ps.take i,y.first ≤ y.last) → shQ ps (ps.drop i) i = lN aP ps (ps.drop i) i:=by
    intro n
    induction n with
    | zero=>intro i hn hi _; rw [List.drop_eq_nil_of_le (by omega)]; rfl
    | succ n ih=>
      intro i hn hi hv
      have hlt:i < ps.length:=by omega
      rw [List.drop_eq_getElem_cons hlt]
      simp only [shQ,lN]
      rw [nO ps ps[i] i hv]
      by_cases h:bn aP ps[i] (ps.take i) (ps.take i) ≠ 0
      · rw [if_pos h,if_pos h]
      · rw [if_neg h,if_neg h]
        refine ih (i + 1) (by omega) (by omega) ?_
        intro y hy
        rw [List.take_succ_eq_append_getElem hlt] at hy
        rcases List.mem_append.1 hy with hy | hy
        · exact hv y hy
        · simp at hy; subst hy
          exact Ci (by rw [nO ps ps[i] i hv]; omega)
  unfold shP il
  split
  · rfl
  · simpa using key ps.length 0 (by omega) (by omega) (by simp)
theorem yu {α:Type} [DecidableEq α]:∀ (a b:List α),a.Nodup → (∀ x ∈ a,x ∈ b) → a.length ≤ b.length
  | [],b,_,_=>by simp
  | x :: r,b,h,hs=>by
    have hx:=hs x (by simp)
    have h1:=yu r (b.erase x) (List.nodup_cons.1 h).2 fun y hy=>by
      have hne:y ≠ x:=fun e=>(List.nodup_cons.1 h).1 (e ▸ hy)
      exact (List.mem_erase_of_ne hne).2 (hs y (by simp [hy]))
    have h2:=List.length_erase_of_mem hx
    have h3:=List.length_pos_of_mem hx
    simp only [List.length_cons]; omega
theorem fC {l:List HuM} (h:OkS l):∀ x ∈ l,x.on.length ≤ 12:=by
  intro x hx
  obtain ⟨a,b,e⟩:=List.append_of_mem hx
  have h1:=yu x.on (l.map HuM.name) (h.part x hx).on fun n hn=>by
    obtain ⟨y,hy,e2,_⟩:=h.on a x b e n hn
    rw [e]; exact List.mem_map.2 ⟨y,by simp [hy],e2⟩
  have:=h.len
  simp at h1; omega
theorem Bq (c:ChM) (hw:c.what = 1 ∨ c.what = 2 ∨ c.what = 3) (hn:c.part.on.length ≤ maxLen):∃ f g,eL (.int .i64 c.what) eT = some (dL f g) ∧ ak Tryz.prog f = true ∧ ak Tryz.prog g = true ∧
    (∀ σ,Spec Tryz.prog f [c.v] σ fun r σ'=>r = .ret (.bool (fj c)) ∧ σ' = σ) ∧
    ∀ (l:List HuM) (_:OkS l) (b:Nat) (σ:ag) (_:σ[b]? = some (.box [.slice 7 (l.map HuM.v)])),Spec Tryz.prog g [.ptr b 0,c.v] σ fun r σ'=>r = .ret (ii' (doE l c)) ∧ ∃ tl,σ' = σ.set b (.box [.slice 7 ((doR l c).map HuM.v)]) ++ tl:=by
  rcases hw with hw | hw | hw
  · refine ⟨xp,xq,by rw [hw]; rfl,Jr,Lb,fun σ=>?_,fun l hl b σ hb=>n0 l c hw hl.len hn b σ hb⟩
    have:fj c = decide (c.name = ByteArray.empty):=by simp [fj,hw]
    rw [this]; exact pI c σ
  · refine ⟨yZ,xk,by rw [hw]; rfl,K4,Lh,fun σ=>?_,fun l hl b σ hb=>mW l c hw hl.len (fun x hx=>by have:=fC hl x hx; simp only [maxLen]; omega) b σ hb⟩
    have:fj c = iv c.part:=by simp [fj,hw]
    rw [this]; exact pg c σ
  · refine ⟨y5,xd,by rw [hw]; rfl,I3,IW,fun σ=>?_,fun l hl b σ hb=>nc l c hw hl.len (fC hl) hn b σ hb⟩
    have:fj c = true:=by simp [fj,hw]
    rw [this]; exact pF c σ
theorem pZ (c:ChM) (hw:¬ (c.what = 1 ∨ c.what = 2 ∨ c.what = 3)):eL (.int .i64 c.what) eT = none ∧ fj c = false:=by
  have h1:c.what ≠ 1:=fun h=>hw (.inl h)
  have h2:c.what ≠ 2:=fun h=>hw (.inr (.inl h))
  have h3:c.what ≠ 3:=fun h=>hw (.inr (.inr h))
  refine ⟨?_,by simp [fj,h1,h2,h3]⟩
  simp [eL,eT,h1,h2,h3]
theorem B6 (n:Int):kT .i (.int .i64 n) eT = true:=by
  simp [kT,eT]
end Go.AM
