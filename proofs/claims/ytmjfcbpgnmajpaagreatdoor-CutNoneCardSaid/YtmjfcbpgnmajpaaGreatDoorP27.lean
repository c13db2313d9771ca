/- What the sort keeps, round by round. The sort of a part, round by round. slices.Sort, by contract. Proof: of the program, for every task. The sets that are left behind good orders: of the document. Which orders First, Most and To return: the plain law. First: of the document. -/
import Derived.Test.YtmjfcbpgnmajpaaGreatDoorP26
import Derived.Test.YtmjfcbpgnmajpaaGreatDoorP24
import Derived.Test.YtmjfcbpgnmajpaaGreatDoorP22
import Derived.Test.YtmjfcbpgnmajpaaGreatDoorP23
namespace Go.AM
open Go.Proofs
set_option maxRecDepth 100000
set_option maxHeartbeats 1000000
theorem AW.seq {P:Program} {N:Nat} {ro:Option Nat} {a b:AC} {Q:AEx → Fr → af → Prop} {fr:Fr} {σ:af} (h:AW P N ro a (AEx.then (fun fr σ=>AW P N ro b Q fr σ) Q) fr σ):AW P N ro (.seq a b) Q fr σ:=fun c hc=>by
  cases c <;> simp [cD] at hc
  exact AWc.seq ((h _ hc.1).mono fun x fr' σ' hq=>by
    cases x with
    | normal=>exact hq _ hc.2
    | _=>exact hq)
theorem AW.TM {P:Program} {N:Nat} {ro:Option Nat} {a b:AC} {Q:AEx → Fr → af → Prop} {fr:Fr} {σ:af} (I:Fr → af → Prop) (h:AW P N ro a (AEx.then I Q) fr σ) (hb:∀ fr σ,I fr σ → AW P N ro b Q fr σ):AW P N ro (.seq a b) Q fr σ:=
  AW.seq (h.mono fun x fr σ hq=>by
    cases x with
    | normal=>exact hb _ _ hq
    | _=>exact hq)
theorem AW.block {P:Program} {N:Nat} {ro:Option Nat} {a:AC} {id:Nat} {Q:AEx → Fr → af → Prop} {fr:Fr} {σ:af} (h:AW P N ro a (AEx.inBlock id Q) fr σ):AW P N ro (.block id a) Q fr σ:=fun c hc=>by
  cases c <;> simp [cD] at hc
  obtain ⟨rfl,hc⟩:=hc
  exact AWc.block (h _ hc)
def u3 (σ:af) (b:Nat) (D:List Int) (σ1:af):Prop:=∃ tl,σ1 = σ.set b (cU D) ++ tl
section
variable {σ σ1:af} {b:Nat} {D D' l:List Int}
theorem u3.start (hx:σ[b]? = some (cU l)):u3 σ b l σ:=⟨[],by rw [← S0 hx]; simp⟩
theorem u3.lt (hb:b < σ.length) (h:u3 σ b D σ1):b < σ1.length:=by
  obtain ⟨tl,rfl⟩:=h; simp; omega
theorem u3.get (hb:b < σ.length) (h:u3 σ b D σ1):σ1[b]? = some (cU D):=by
  obtain ⟨tl,rfl⟩:=h
  rw [List.getElem?_append_left (by simpa using hb)]
  simp [hb]
theorem u3.set (hb:b < σ.length) (h:u3 σ b D σ1) (D':List Int):u3 σ b D' (σ1.set b (cU D')):=by
  obtain ⟨tl,rfl⟩:=h
  exact ⟨tl,by rw [List.set_append_left _ _ (by simpa using hb)]; simp⟩
theorem u3.app (h:u3 σ b D σ1) (t:af):u3 σ b D (σ1 ++ t):=by
  obtain ⟨tl,rfl⟩:=h
  exact ⟨tl ++ t,by simp⟩
theorem u3.trans (hb:b < σ.length) (h:u3 σ b D σ1) {σ2:af} (h':u3 σ1 b D' σ2):u3 σ b D' σ2:=by
  obtain ⟨tl,rfl⟩:=h'
  exact (h.set hb D').app tl
end
def TI (a0 c0 a c:Nat) (D:List Int):Prop:=∀ i j,a0 ≤ i → i ≤ j → j < c0 → (i < a ∨ c ≤ j) → gd D i ≤ gd D j
theorem TI.start (a c:Nat) (D:List Int):TI a c a c D:=fun i j h1 h2 h3 h4=>by omega
theorem TI.mix {a0 c0 a c:Nat} {D D':List Int} (h:TI a0 c0 a c D) (ha:a0 ≤ a) (hcc:c ≤ c0) (hm:Mix a c D D') (hc:c ≤ D.length):TI a0 c0 a c D':=fun i j h1 h2 h3 h4=>by
  by_cases hi:i < a
  · rw [hm.out i (.inl hi)]
    by_cases hj:a ≤ j ∧ j < c
    · exact hm.all hc (P:=fun x=>gd D i ≤ x) (fun q q1 q2=>h i q h1 (by omega) (by omega) (.inl hi)) j hj.1 hj.2
    · rw [hm.out j (by omega)]
      exact h i j h1 h2 h3 h4
  · have hj:c ≤ j:=by omega
    rw [hm.out j (.inr hj)]
    by_cases hi2:i < c
    · exact hm.all hc (P:=fun x=>x ≤ gd D j) (fun q q1 q2=>h q j (by omega) (by omega) h3 (.inr hj)) i (by omega) hi2
    · rw [hm.out i (by omega)]
      exact h i j h1 h2 h3 h4
theorem TI.done {a0 c0 a c:Nat} {D:List Int} (h:TI a0 c0 a c D) (hs:Srt a c D):Srt a0 c0 D:=fun i j h1 h2 h3=>by
  by_cases hi:i < a ∨ c ≤ j
  · exact h i j h1 h2 h3 hi
  · exact hs i j (by omega) h2 (by omega)
structure PS (b:Nat) (l:List Int) (a0 c0:Nat) (σ:af) (a c k:Nat) (D:List Int) (σ1:af):Prop where
  aa:a0 ≤ a
  ac:a ≤ c
  cc:c ≤ c0
  k:k ≤ 1000
  mix:Mix a0 c0 l D
  grow:u3 σ b D σ1
  out:TI a0 c0 a c D
  low:Low a c D
section
variable {b:Nat} {l:List Int} {a0 c0:Nat} {σ:af} {a c k:Nat} {D:List Int} {σ1:af}
theorem PS.len (h:PS b l a0 c0 σ a c k D σ1):D.length = l.length:=h.mix.len
theorem PS.next (h:PS b l a0 c0 σ a c k D σ1) (hc:c0 ≤ l.length) {D':List Int} {σ2:af} (hm:Mix a c D D') (hg:u3 σ b D' σ2):PS b l a0 c0 σ a c k D' σ2:=
  have hcD:c ≤ D.length:=by have:=h.len; have:=h.cc; omega
  ⟨h.aa,h.ac,h.cc,h.k,h.mix.trans (hm.mono h.aa h.cc),hg,h.out.mix h.aa h.cc hm hcD,h.low.mix hm hcD⟩
theorem PS.lim (h:PS b l a0 c0 σ a c k D σ1) {k':Nat} (hk:k' ≤ k):PS b l a0 c0 σ a c k' D σ1:=⟨h.aa,h.ac,h.cc,Nat.le_trans hk h.k,h.mix,h.grow,h.out,h.low⟩
theorem PS.fin (h:PS b l a0 c0 σ a c k D σ1) (hs:Srt a c D):Mix a0 c0 l D ∧ Srt a0 c0 D:=⟨h.mix,h.out.done hs⟩
theorem PS.Vq (h:PS b l a0 c0 σ a c k D σ1) {σ2:af} (hg:u3 σ b D σ2):PS b l a0 c0 σ a c k D σ2:=⟨h.aa,h.ac,h.cc,h.k,h.mix,hg,h.out,h.low⟩
theorem PS.skip (h:PS b l a0 c0 σ a c k D σ1) {m:Nat} {p:Int} (hm:a ≤ m) (hmc:m ≤ c) (hge:∀ q,a ≤ q → q < c → p ≤ gd D q) (hle:∀ q,a ≤ q → q < m → gd D q ≤ p):PS b l a0 c0 σ m c k D σ1:=
  ⟨Nat.le_trans h.aa hm,hmc,h.cc,h.k,h.mix,h.grow,fun i j h1 h2 h3 h4=>by
    by_cases hi:i < a ∨ c ≤ j
    · exact h.out i j h1 h2 h3 hi
    · exact Int.le_trans (hle i (by omega) (by omega)) (hge j (by omega) (by omega)),fun q h0 h1 h2=>by
    by_cases hma:m = a
    · subst hma; exact h.low q h0 h1 h2
    · exact Int.le_trans (hle (m - 1) (by omega) (by omega)) (hge q (by omega) (by omega))⟩
theorem PS.left (h:PS b l a0 c0 σ a c k D σ1) {m:Nat} (hm:a ≤ m) (hmc:m < c) (hs:Srt a m D) (hle:∀ q,a ≤ q → q < m → gd D q ≤ gd D m) (hge:∀ q,m < q → q < c → gd D m ≤ gd D q):PS b l a0 c0 σ (m + 1) c k D σ1:=
  have key:∀ i j,a ≤ i → i ≤ m → i ≤ j → j < c → gd D i ≤ gd D j:=fun i j h1 h2 h3 h4=>by
    by_cases hj:j < m
    · exact hs i j h1 h3 hj
    · have h5:gd D i ≤ gd D m:=by
        by_cases hi:i = m
        · subst hi; exact Int.le_refl _
        · exact hle i h1 (by omega)
      by_cases hj2:j = m
      · subst hj2; exact h5
      · exact Int.le_trans h5 (hge j (by omega) h4)
  ⟨by have:=h.aa; omega,by omega,h.cc,h.k,h.mix,h.grow,fun i j h1 h2 h3 h4=>by
    by_cases hi:i < a ∨ c ≤ j
    · exact h.out i j h1 h2 h3 hi
    · exact key i j (by omega) (by omega) h2 (by omega),fun q h0 h1 h2=>key (m + 1 - 1) q (by omega) (by omega) (by omega) h2⟩
theorem PS.right (h:PS b l a0 c0 σ a c k D σ1) {m:Nat} (hm:a ≤ m) (hmc:m < c) (hs:Srt (m + 1) c D) (hle:∀ q,a ≤ q → q < m → gd D q ≤ gd D m) (hge:∀ q,m < q → q < c → gd D m ≤ gd D q):PS b l a0 c0 σ a m k D σ1:=
  ⟨h.aa,hm,by have:=h.cc; omega,h.k,h.mix,h.grow,fun i j h1 h2 h3 h4=>by
    by_cases hi:i < a ∨ c ≤ j
    · exact h.out i j h1 h2 h3 hi
    · by_cases hi2:m < i
      · exact hs i j (by omega) h2 (by omega)
      · have h5:gd D i ≤ gd D m:=by
          by_cases hi3:i = m
          · subst hi3; exact Int.le_refl _
          · exact hle i (by omega) (by omega)
        by_cases hj2:j = m
        · subst hj2; exact h5
        · exact Int.le_trans h5 (hge j (by omega) (by omega)),fun q h0 h1 h2=>h.low q h0 h1 (by omega)⟩
end
theorem T1 {a m c:Nat} {D D':List Int} (hm:Mix a m D D') (hmD:m ≤ D.length) (hle:∀ q,a ≤ q → q < m → gd D q ≤ gd D m) (hge:∀ q,m < q → q < c → gd D m ≤ gd D q):(∀ q,a ≤ q → q < m → gd D' q ≤ gd D' m) ∧ ∀ q,m < q → q < c → gd D' m ≤ gd D' q:=by
  rw [hm.out m (.inr (Nat.le_refl _))]
  exact ⟨hm.all hmD (P:=fun x=>x ≤ gd D m) hle,fun q h1 h2=>by rw [hm.out q (by omega)]; exact hge q h1 h2⟩
theorem TQ {a m c:Nat} {D D':List Int} (hm:Mix (m + 1) c D D') (hcD:c ≤ D.length) (hle:∀ q,a ≤ q → q < m → gd D q ≤ gd D m) (hge:∀ q,m < q → q < c → gd D m ≤ gd D q):(∀ q,a ≤ q → q < m → gd D' q ≤ gd D' m) ∧ ∀ q,m < q → q < c → gd D' m ≤ gd D' q:=by
  rw [hm.out m (.inl (by omega))]
  exact ⟨fun q h1 h2=>by rw [hm.out q (by omega)]; exact hle q h1 h2,hm.all hcD (P:=fun x=>gd D m ≤ x) (fun q h1 h2=>hge q h1 h2)⟩
set_option maxRecDepth 100000
set_option maxHeartbeats 1000000
def Uh (n:Nat):Prop:=∀ (b:Nat) (l:List Int) (a c k:Nat) (σ:af),l.length ≤ 200 → c - a = n → a ≤ c → c ≤ l.length → k ≤ 1000 → Low a c l → b < σ.length → σ[b]? = some (cU l) →
  Spec Tryz.prog TW [.sref 1 b 0 l.length l.length,nn2 a,nn2 c,nn2 k] σ fun r σ'=>r = .ret (.tup []) ∧ ∃ l',Mix a c l l' ∧ Srt a c l' ∧ u3 σ b l' σ'
theorem Uy (n:Nat) (ih:∀ m,m < n → Uh m):Uh n:=by
  intro b l a0 c0 k0 σ hN hn hac0 hc0 hk0 hlow hb hx
  refine M5 (by simp) (dm _ ?_)
  simp [FY]
  refine AW.loop (ι:=Nat) (fun i fr σ1=>∃ a c k wb wp D,c - a = i ∧ i ≤ n ∧ fr = { v:=[(0, .sref 1 b 0 l.length l.length),(1,nn2 a),(2,nn2 c),(3,nn2 k),(8, .bool wb),(9, .bool wp)],ds:=[] } ∧ PS b l a0 c0 σ a c k D σ1) (fun i=>i) n ⟨a0,c0,k0,true,true,l,hn,Nat.le_refl _,by simp,⟨Nat.le_refl _,hac0,Nat.le_refl _,hk0, .refl _ _ _, .start hx, .start _ _ _,hlow⟩⟩ ?_
  rintro i fr σ1 ⟨a,c,k,wb,wp,D,hi,hin,rfl,h⟩
  have hL:=h.len
  have haa:=h.aa
  have hac:=h.ac
  have hcc:=h.cc
  have hk:=h.k
  have hg:=h.grow
  have hb1:=hg.lt hb
  have hx1:=hg.get hb
  have w1:IntKind.i64.wrap ((c:Int) - a) = i:=wE (by omega) (by omega)
  refine (Nat.lt_or_ge 12 i).elim (fun hi12=>?_) (fun hi12=>?_)
  rotate_left
  · have hI:(i:Int) ≤ 12:=by omega
    refine dm _ ?_
    simp [w1,hI]
    have sp:=TH b D (by omega) a c hac (by omega) σ1 hb1 hx1
    rw [hL] at sp
    refine aj.spec Lb sp ?_
    rintro r σ' ⟨rfl,l',h1,h2,rfl⟩
    refine ⟨_,rfl, ?_⟩
    simp
    have:=(h.next hc0 h1 (hg.set hb l')).fin h2
    exact ⟨l',this.1,this.2,hg.set hb l'⟩
  have hIn:¬ (i:Int) ≤ 12:=by omega
  have hIn2:¬ i ≤ 12:=by omega
  refine (Classical.em (k = 0)).elim (fun hk0=>?_) (fun hk0=>?_)
  · subst hk0
    refine dm _ ?_
    simp [w1,hIn]
    have sp:=T2 b D (by omega) a c (by omega) (by omega) σ1 hb1 hx1
    rw [hL] at sp
    refine aj.spec Vc sp ?_
    rintro r σ' ⟨rfl,l',h1,h2,rfl⟩
    refine ⟨_,rfl, ?_⟩
    simp
    have:=(h.next hc0 h1 (hg.set hb l')).fin h2
    exact ⟨l',this.1,this.2,hg.set hb l'⟩
  have hkI:¬ (k:Int) = 0:=by omega
  refine AW.block (AW.TM (fun fr σ2=>fr = { v:=[(0, .sref 1 b 0 l.length l.length),(1,nn2 a),(2,nn2 c),(3,nn2 k),(8, .bool wb),(9, .bool wp),(10,nn2 i)],ds:=[] } ∧ σ1 = σ2) (dm _ (by simp [w1])) ?_)
  rintro fr σ2 ⟨rfl,rfl⟩
  refine AW.TM (fun fr σ2=>fr = { v:=[(0, .sref 1 b 0 l.length l.length),(1,nn2 a),(2,nn2 c),(3,nn2 k),(8, .bool wb),(9, .bool wp),(10,nn2 i),(23, .bool false)],ds:=[] } ∧ σ1 = σ2) (dm _ (by simp [hIn])) ?_
  rintro fr σ2 ⟨rfl,rfl⟩
  refine AW.TM (fun fr σ2=>fr = { v:=[(0, .sref 1 b 0 l.length l.length),(1,nn2 a),(2,nn2 c),(3,nn2 k),(8, .bool wb),(9, .bool wp),(10,nn2 i),(29, .bool false)],ds:=[] } ∧ σ1 = σ2) (dm _ (by simp [hk0])) ?_
  rintro fr σ2 ⟨rfl,rfl⟩
  refine AW.TM (fun fr σ2=>∃ k' D',(fr.v.get 0 = .sref 1 b 0 l.length l.length ∧ fr.v.get 1 = nn2 a ∧ fr.v.get 2 = nn2 c ∧ fr.v.get 3 = nn2 k' ∧ fr.v.get 8 = .bool wb ∧ fr.v.get 9 = .bool wp ∧ fr.v.get 10 = nn2 i) ∧ fr.ds = [] ∧ PS b l a0 c0 σ a c k' D' σ2) (dm _ ?_) ?_
  · cases wb with
    | true=>simp; exact ⟨k,rfl,D,h⟩
    | false=>
      simp
      have sp:=TS b D (by omega) a c (by omega) (by omega) σ1 hb1 hx1
      rw [hL] at sp
      refine aj.spec U6 sp ?_
      rintro r σ' ⟨rfl,l',o,h1,rfl⟩
      refine ⟨_,rfl, ?_⟩
      have w2:IntKind.i64.wrap ((k:Int) - 1) = ((k - 1:Nat):Int):=wE (by omega) (by omega)
      simp [w2]
      exact ⟨k - 1,rfl,l',(h.next hc0 h1 ((hg.set hb l').app [o])).lim (by omega)⟩
  clear hg hb1 hx1 hL hk hkI hk0 h
  rintro ⟨vs,ds⟩ σ2 ⟨k',D',⟨g0,g1,g2,g3,g8,g9,g10⟩,gd,h⟩
  simp only at g0 g1 g2 g3 g8 g9 g10 gd
  subst gd
  have hL:=h.len
  have hg:=h.grow
  have hb1:=hg.lt hb
  have hx1:=hg.get hb
  refine AW.TM (fun fr σ3=>∃ p q o,fr = { v:=[(0, .sref 1 b 0 l.length l.length),(1,nn2 a),(2,nn2 c),(3,nn2 k'),(8, .bool wb),(9, .bool wp),(10,nn2 i),(11,nn2 p),(12,nn2 q)],ds:=[] } ∧ a ≤ p ∧ p < c ∧ σ3 = σ2 ++ [o]) (dm _ ?_) ?_
  · simp [g0,g1,g2]
    have sp:=choose_spec b D' (by omega) a c (by omega) (by omega) σ2 hb1 hx1
    rw [hL] at sp
    refine aj.spec U5 sp ?_
    rintro r σ' ⟨p,q,o,rfl,h1,h2,rfl⟩
    refine ⟨_,rfl, ?_⟩
    simp [g0,g1,g2,g3,g8,g9,g10]
    exact ⟨p,⟨rfl,q,rfl⟩,h1,h2⟩
  rintro fr σ3 ⟨p,q,o,rfl,hp1,hp2,rfl⟩
  replace h:=h.Vq (hg.app [o])
  replace hg:=hg.app [o]
  obtain ⟨σ4,hσ4⟩:∃ σ4,σ2 ++ [o] = σ4:=⟨_,rfl⟩
  rw [hσ4] at h hg ⊢
  clear hx1 hb1 hσ4
  have hb1:=hg.lt hb
  have hx1:=hg.get hb
  refine AW.TM (fun fr σ5=>∃ p q D5,(fr.v.get 0 = .sref 1 b 0 l.length l.length ∧ fr.v.get 1 = nn2 a ∧ fr.v.get 2 = nn2 c ∧ fr.v.get 3 = nn2 k' ∧ fr.v.get 8 = .bool wb ∧ fr.v.get 9 = .bool wp ∧ fr.v.get 10 = nn2 i ∧ fr.v.get 11 = nn2 p ∧ fr.v.get 12 = nn2 q) ∧ fr.ds = [] ∧ a ≤ p ∧ p < c ∧ PS b l a0 c0 σ a c k' D5 σ5) (dm _ ?_) ?_
  · refine (Classical.em (q = 2)).elim (fun hq=>?_) (fun hq=>?_)
    · subst hq
      simp
      have sp:=Tz b D' (by omega) a c (by omega) (by omega) σ4 hb1 hx1
      rw [hL] at sp
      refine aj.spec VA sp ?_
      rintro r σ' ⟨rfl,l',h1,rfl⟩
      refine ⟨_,rfl, ?_⟩
      have w2:IntKind.i64.wrap ((c:Int) - 1) = ((c - 1:Nat):Int):=wE (by omega) (by omega)
      have w3:IntKind.i64.wrap ((p:Int) - a) = ((p - a:Nat):Int):=wE (by omega) (by omega)
      have w4:IntKind.i64.wrap (((c - 1:Nat):Int) - ((p - a:Nat):Int)) = ((c - 1 - (p - a):Nat):Int):=wE (by omega) (by omega)
      simp [w2,w3,w4]
      exact ⟨c - 1 - (p - a),⟨rfl,1,rfl⟩,by omega,by omega,l',h.next hc0 h1 (hg.set hb l')⟩
    · have hqI:¬ (q:Int) = 2:=by omega
      simp [hqI]
      exact ⟨p,⟨rfl,q,rfl⟩,hp1,hp2,D',h⟩
  clear hg hb1 hx1 hL h hp1 hp2
  rintro ⟨vs,ds⟩ σ5 ⟨p,q,D5,⟨g0,g1,g2,g3,g8,g9,g10,g11,g12⟩,gd,hp1,hp2,h⟩
  simp only at g0 g1 g2 g3 g8 g9 g10 g11 g12 gd
  subst gd
  have hL:=h.len
  have hg:=h.grow
  have hb1:=hg.lt hb
  have hx1:=hg.get hb
  refine AW.TM (fun fr σ5=>∃ D6,(fr.v.get 0 = .sref 1 b 0 l.length l.length ∧ fr.v.get 1 = nn2 a ∧ fr.v.get 2 = nn2 c ∧ fr.v.get 3 = nn2 k' ∧ fr.v.get 8 = .bool wb ∧ fr.v.get 9 = .bool wp ∧ fr.v.get 10 = nn2 i ∧ fr.v.get 11 = nn2 p) ∧ fr.ds = [] ∧ PS b l a0 c0 σ a c k' D6 σ5) (dm _ ?_) ?_
  · refine (Classical.em (wb = true ∧ wp = true ∧ q = 1)).elim (fun hq=>?_) (fun hq=>?_)
    · obtain ⟨rfl,rfl,rfl⟩:=hq
      simp [g0,g1,g2,g3,g8,g9,g10,g11,g12]
      have sp:=Tu b D5 (by omega) a c (by omega) (by omega) h.low σ5 hb1 hx1
      rw [hL] at sp
      refine aj.spec U0 sp ?_
      rintro r σ' ⟨z,rfl,l',h1,h2,rfl⟩
      refine ⟨_,rfl, ?_⟩
      simp [g0,g1,g2,g3,g8,g9,g10,g11,g12]
      have hz:=h.next hc0 h1 (hg.set hb l')
      exact ⟨fun e=>⟨l',(hz.fin (h2 e)).1,(hz.fin (h2 e)).2,hz.grow⟩,fun _=>⟨l',hz⟩⟩
    · have hq2:wb = true → wp = true → ¬ (q:Int) = 1:=fun e1 e2 e3=>hq ⟨e1,e2,by omega⟩
      cases wb <;> cases wp <;> simp [g0,g1,g2,g3,g8,g9,g10,g11,g12]
      · exact ⟨D5,h⟩
      · exact ⟨D5,h⟩
      · exact ⟨D5,h⟩
      · exact ⟨fun e=>absurd e (hq2 rfl rfl),fun _=>⟨D5,h⟩⟩
  clear hg hb1 hx1 hL h
  rintro ⟨vs,ds⟩ σ6 ⟨D6,⟨g0,g1,g2,g3,g8,g9,g10,g11⟩,gd,h⟩
  simp only at g0 g1 g2 g3 g8 g9 g10 g11 gd
  subst gd
  have hL:=h.len
  have hg:=h.grow
  have hb1:=hg.lt hb
  have hx1:=hg.get hb
  refine AW.TM (fun fr σ7=>(fr.v.get 0 = .sref 1 b 0 l.length l.length ∧ fr.v.get 1 = nn2 a ∧ fr.v.get 2 = nn2 c ∧ fr.v.get 3 = nn2 k' ∧ fr.v.get 8 = .bool wb ∧ fr.v.get 9 = .bool wp ∧ fr.v.get 10 = nn2 i ∧ fr.v.get 11 = nn2 p) ∧ fr.ds = [] ∧ σ6 = σ7) (dm _ ?_) ?_
  · refine (Nat.eq_zero_or_pos a).elim (fun ha=>?_) (fun ha=>?_)
    · subst ha
      simp [g0,g1,g2,g3,g8,g9,g10,g11]
      refine ⟨.bool false, ?_⟩
      simp
    · obtain ⟨a1,ha1⟩:∃ a1,a - 1 = a1:=⟨_,rfl⟩
      have w2:IntKind.i64.wrap ((a:Int) - 1) = a1:=wE (by omega) (by omega)
      have haI:(0:Int) < a:=by omega
      obtain ⟨hb2,hx2⟩:=List.getElem?_eq_some_iff.1 hx1
      have hal:a1 < D6.length:=by omega
      have han:a1 < l.length:=by omega
      have hpl:p < D6.length:=by omega
      have hpn:p < l.length:=by omega
      obtain ⟨x,hxv⟩:∃ x,D6[a1] = x:=⟨_,rfl⟩
      obtain ⟨y,hyv⟩:∃ y,D6[p] = y:=⟨_,rfl⟩
      have hxg:gd D6 a1 = x:=by rw [← hxv,ea]
      have hyg:gd D6 p = y:=by rw [← hyv,ea]
      simp [g0,g1,g2,g3,g8,g9,g10,g11,ha,w2,hb2,hx2,cU,han,hpn,hxv,hyv,hL]
      refine ⟨.bool (decide (x < y)),fun σ'=>aC.func LI (n7 x y σ'), ?_⟩
      refine (Classical.em (x < y)).elim (fun hxy=>?_) (fun hxy=>?_)
      · simp [hxy]
      have hyx:y ≤ x:=by omega
      simp [hxy]
      have sp:=TT b D6 (by omega) a c p hp1 hp2 (by omega) σ6 hb1 hx1
      rw [hL] at sp
      refine aj.spec Vy sp ?_
      rintro r σ' ⟨m,rfl,hm1,hm2,l',h1,h2,h3,rfl⟩
      refine ⟨_,rfl, ?_⟩
      simp [g0,g1,g2,g3,g8,g9,g10,g11]
      have hz:=h.next hc0 h1 (hg.set hb l')
      have hlo:=h.low.mix h1 (by omega)
      have hz':=hz.skip (p:=y) (m:=m) (by omega) hm2 (fun q e1 e2=>by
        have:=hlo q ha e1 e2
        rw [h1.out (a - 1) (by omega),ha1,hxg] at this
        omega) (fun q e1 e2=>by rw [← hyg]; exact h2 q e1 e2)
      exact ⟨c - m,by omega,m,c,rfl,by omega,k',⟨rfl,rfl,rfl⟩,l',hz'⟩
  rintro ⟨vs,ds⟩ σ7 ⟨⟨g0,g1,g2,g3,g8,g9,g10,g11⟩,gd,rfl⟩
  simp only at g0 g1 g2 g3 g8 g9 g10 g11 gd
  subst gd
  refine dm _ ?_
  simp [g0,g1,g2,g11]
  have sp:=TZ b D6 (by omega) a c p hp1 hp2 (by omega) σ6 hb1 hx1
  rw [hL] at sp
  refine aj.spec Vi sp ?_
  rintro r σ' ⟨m,B,rfl,hm1,hm2,D7,h1,h2,h3,rfl⟩
  refine ⟨_,rfl, ?_⟩
  have hz:=h.next hc0 h1 (hg.set hb D7)
  have hk':=hz.k
  obtain ⟨σ8,hσ8⟩:∃ σ8,σ6.set b (cU D7) = σ8:=⟨_,rfl⟩
  rw [hσ8] at hz ⊢
  have hg8:=hz.grow
  have hL7:=hz.len
  have hb8:=hg8.lt hb
  have hx8:=hg8.get hb
  obtain ⟨u,hu⟩:∃ u,m - a = u:=⟨_,rfl⟩
  obtain ⟨v,hv⟩:∃ v,c - m = v:=⟨_,rfl⟩
  obtain ⟨e,he⟩:∃ e,i / 8 = e:=⟨_,rfl⟩
  have w2:IntKind.i64.wrap ((m:Int) - a) = u:=wE (by omega) (by omega)
  have w3:IntKind.i64.wrap ((c:Int) - m) = v:=wE (by omega) (by omega)
  have w4:IntKind.i64.wrap ((i:Int).tdiv 8) = e:=by
    rw [Int.tdiv_eq_ediv_of_nonneg (by omega)]
    exact wE (by omega) (by omega)
  have w4':IntKind.i64.wrap ((i:Int) / 8) = e:=wE (by omega) (by omega)
  have w5:IntKind.i64.wrap ((m:Int) + 1) = ((m + 1:Nat):Int):=wE (by omega) (by omega)
  refine (Nat.lt_or_ge u v).elim (fun huv=>?_) (fun huv=>?_)
  · have huvI:(u:Int) < v:=by omega
    simp [g0,g1,g2,g3,g10,g11,w2,w3,w4',huvI]
    have sp:=ih (m - a) (by omega) b D7 a m k' σ8 (by omega) rfl hm1 (by omega) hk' (fun q e0 e1 e2=>hz.low q e0 e1 (by omega)) hb8 hx8
    rw [hL7] at sp
    refine aj.spec Jn sp ?_
    rintro r σ9 ⟨rfl,D8,h4,h5,h6⟩
    refine ⟨_,rfl, ?_⟩
    simp [g0,g1,g2,g3,g10,g11,w2,w3,w4',w5]
    have hl:=T1 h4 (by omega) h2 h3
    exact ⟨c - (m + 1),by omega,m + 1,c,rfl,by omega,k',⟨by simp,rfl,rfl⟩,D8,(hz.next hc0 (h4.mono (Nat.le_refl _) (by omega)) (hg8.trans hb h6)).left hm1 hm2 h5 hl.1 hl.2⟩
  · have huvI:¬ (u:Int) < v:=by omega
    have huvN:¬ u < v:=by omega
    simp [g0,g1,g2,g3,g10,g11,w2,w3,w4',w5,huvI]
    have hlow':Low (m + 1) c D7:=fun q e0 e1 e2=>h3 q (by omega) e2
    have sp:=ih (c - (m + 1)) (by omega) b D7 (m + 1) c k' σ8 (by omega) rfl (by omega) (by omega) hk' hlow' hb8 hx8
    rw [hL7] at sp
    refine aj.spec Jn sp ?_
    rintro r σ9 ⟨rfl,D8,h4,h5,h6⟩
    refine ⟨_,rfl, ?_⟩
    simp [g0,g1,g2,g3,g10,g11,w2,w3,w4',w5]
    have hl:=TQ h4 (by omega) h2 h3
    exact ⟨m - a,by omega,a,m,rfl,by omega,k',⟨rfl,rfl,rfl⟩,D8,(hz.next hc0 (h4.mono (by omega) (Nat.le_refl _)) (hg8.trans hb h6)).right hm1 hm2 h5 hl.1 hl.2⟩
theorem UF:∀ n,Uh n:=fun n=>Nat.strongRecOn n fun n ih=>Uy n ih
set_option maxRecDepth 100000
set_option maxHeartbeats 1000000
theorem Ui (b:Nat) (l:List Int) (hn:l.length ≤ 128) (σ:af) (hb:b < σ.length) (hx:σ[b]? = some (cU l)) :
    Spec Tryz.prog HR [.sref 1 b 0 l.length l.length] σ fun r σ'=>r = .ret (.tup []) ∧ ∃ l',l'.Perm l ∧ l'.Pairwise (· ≤ ·) ∧ u3 σ b l' σ':=by
  by_cases h12:l.length ≤ 12
  · exact (ve b l h12 σ hb hx).mono fun r σ' h=>by
      obtain ⟨h1,l',h2,h3,rfl⟩:=h
      exact ⟨h1,l',h2,h3,[],by simp⟩
  obtain ⟨k,⟨_,_,hk8⟩,hk⟩:=TE l.length (by omega) (by omega)
  refine SH (by simp) (dm _ ?_)
  have hw:IntKind.u64.wrap (l.length:Int) = l.length:=by rw [IntKind.wrap_u64]; omega
  simp [MR,hw]
  refine aj.pure T5 (hk _) ?_
  simp
  have sp:=UF l.length b l 0 l.length k σ (by omega) (by omega) (by omega) (Nat.le_refl _) (by omega) (fun q e=>absurd e (by omega)) hb hx
  refine aj.spec Jn sp ?_
  rintro r σ' ⟨rfl,l',h1,h2,h3⟩
  refine ⟨_,rfl, ?_⟩
  simp
  exact ⟨l',h1.perm,Srt.pairwise (by rw [h1.len]; exact h2),h3⟩
set_option maxRecDepth 100000
set_option maxHeartbeats 1000000
theorem S2 (t:ah) (hok:t.Ok) (σ:af):Spec Tryz.prog EM [t.v] σ fun r σ'=>r = .ret (tg (rH t) (py t)) ∧ σ' = σ:=by
  refine Spec.ay (R4 (by simp) (dm _ ?_)) (by simp [aM,t.pure]) (by simp [tg,ab.pure,aM,av (f:=ii') (fun _=>rfl)]) σ
  simp [NY,ah.v,ah.cells]
  refine aj.spec B7 (eu t hok _) ?_
  rintro r σ' (⟨h1,rfl,tl,rfl⟩ | ⟨h1,rfl,tl,rfl⟩)
  · refine ⟨_,rfl, ?_⟩
    have hf:=bm h1
    have h7:=hf.ship7
    have hB:(hG t).length ≤ 128:=vS hf (kX hf)
    simp
    refine aj.pure OD (jA 5 _) ?_
    simp
    refine AW.bF (by simp) fun asg' body' ca cb hps=>?_
    simp only [List.length_cons,List.cons_append,Nat.reduceAdd,Nat.add_assoc]
    change cR Tryz.prog (.func (.func qt) [] [.pval (.ptr (3 + 2) 0)]) [.yieldf (tl.length + 7)] (kA t (eS t 0) (.sref 1 0 0 (eS t 0).length (eS t 0).length) 0 [] tl (lb (tl.length + 6) asg' body' .ready none)) (fH (tl.length + 7) _ _)
    refine cR.func GU ((kN hf hok (n:=3) _ (tl.length + 7) (fun j s'=>∃ m,aX t m ∧ s' = kA t (eS t j) (.sref 1 0 0 (eS t j).length (eS t j).length) 0 m tl (lb (tl.length + 6) asg' body' .ready none) ∧ ∀ q ∈ (hG t).take j,q.1 ≠ 0)
      (fun s'=>∃ m l,aX t m ∧ tj t = true ∧ s' = kA t l (.slice 1 []) 9 m tl (lb (tl.length + 6) asg' body' .done (some .ret))) ?_ ?_ ?_ ?_).mono ?_)
    · rintro j s' ⟨m,hm,rfl,_⟩
      exact BW hm _ _
    · rintro j s' m' ⟨m,hm,rfl,hn⟩ hm'
      exact ⟨m',hm',rfl,hn⟩
    · rintro j q s' tlx hq ⟨m,hm,rfl,hn⟩ hlen
      have hqm:q ∈ hG t:=List.mem_of_getElem? hq
      have hjl:=(List.getElem?_eq_some_iff.1 hq).1
      have hsj:eS t (j + 1) = eS t j ++ [(q.1:Int)]:=by
        unfold eS
        rw [List.take_add_one,hq]; simp
      have hsl:(eS t j).length ≤ 128:=by unfold eS; simp; omega
      have hfi:Fits 1 [nn' q.1]:=by intro v hv; simp at hv; subst hv; exact ⟨⟨rfl,rfl⟩,rfl⟩
      refine aC.round (e:=m9) (D:=tl.length + 6) (pend:=none) ca cb hps (by simp [kA,lb]) rfl ?_
      refine dm _ ?_
      simp [cM,m9,kA,lb,yR]
      refine ⟨_,_,_,_,_,_,_,⟨rfl,rfl,rfl,rfl,rfl,rfl,rfl⟩, ?_⟩
      refine dm _ ?_
      refine (Classical.em (q.1 = 0)).elim (fun hz=>?_) (fun hz=>?_)
      · have hemp:tj t = true:=List.any_eq_true.2 ⟨q,hqm,by simp [hz]⟩
        simp [hz]
        exact ⟨28,m9,[16],asg',body',tl.length + 6, .busy,none,by simp [m9],kA t (eS t j) (.slice 1 []) 9 m tl (lb (tl.length + 6) asg' body' .done (some .ret)),⟨_,by simp [kA,lb,m9]; rfl⟩,by simp [kA,lb], .inr ⟨rfl,m,hm,hemp,eS t j,by simp [kA,lb,m9]⟩⟩
      · have hn2:∀ (a:Nat) (b:List Nat),(a,b) ∈ (hG t).take (j + 1) → ¬ a = 0:=fun a b hx=>by
          rw [List.take_add_one,hq,List.mem_append] at hx
          rcases hx with hx | hx
          · exact hn (a,b) hx
          · simp at hx
            rw [show a = q.1 by rw [← hx]]; exact hz
        simp [hz]
        refine ⟨hfi, ?_⟩
        rw [if_neg (by omega)]
        refine ⟨by omega, ?_⟩
        exact ⟨28,m9,[16],asg',body',tl.length + 6, .busy,none,by simp [m9],kA t (eS t (j + 1)) (.sref 1 0 0 (eS t (j + 1)).length (eS t (j + 1)).length) 0 m tl (lb (tl.length + 6) asg' body' .ready none),⟨_,by simp [kA,lb,m9,hsj]; rfl⟩,by simp [kA,lb], .inl ⟨rfl,m,hm,by simp [kA,lb,m9],hn2⟩⟩
    · exact ⟨[],fK t,rfl,by simp⟩
    · rintro r σ' ⟨rfl,s',tlx,rfl,_,⟨m,hm,rfl,hn⟩ | ⟨m,l,hm,he,rfl⟩⟩
      · refine ⟨28,m9,[16],asg',body',tl.length + 6, .ready,none,by simp [kA,lb],by simp, ?_⟩
        have hne:tj t = false:=by
          unfold tj
          rw [List.any_eq_false]
          intro x hx
          rw [List.take_length] at hn
          simpa using hn x hx
        have hsl:(eS t (hG t).length).length ≤ 128:=by unfold eS; simp; omega
        simp [kA,lb,m9]
        refine aj.spec OC (Ui 0 (eS t (hG t).length) hsl _ (by simp) (by simp [cU])) ?_
        rintro r σ1 ⟨rfl,l',hp,hs,tl',rfl⟩
        have hl':=hp.length_eq
        have hle:=B5 hp hs
        refine ⟨_,rfl, ?_⟩
        simp [cU,hl',tg,rH,py,h1,hne]
        rw [← hle,List.take_of_length_le (by simp [hl'])]
      · refine ⟨28,m9,[16],asg',body',tl.length + 6, .done,some .ret,by simp [kA,lb],by simp, ?_⟩
        simp [kA,lb,m9,tg,rH,py,h1,he]
  · refine ⟨_,rfl, ?_⟩
    simp [h1,tg,rH,py]
set_option maxRecDepth 100000
set_option maxHeartbeats 1000000
def hT (t:ah) (s:Nat):Bool:=(hG t).any fun q=>q.1 == s
theorem ew {t:ah} {s:Nat}:hT t s = true ↔ ∃ q ∈ hG t,q.1 = s:=by simp [hT,List.any_eq_true]
theorem TX {t:ah} (hf:t.Fit):hT t (aP t) = true:=ew.2 ⟨_,List.mem_of_getElem? (kX hf).root,rfl⟩
theorem Tk {t:ah} (hf:t.Fit) {s i:Nat} (h:hT t s = true) (hi:i < t.ar.length) (hw:bD t s i = 0):hT t (aK s i) = true:=by
  obtain ⟨q,hq,rfl⟩:=ew.1 h
  obtain ⟨j,hj,e⟩:=List.mem_iff_getElem.1 hq
  obtain ⟨p,h1,h2,_⟩:=(kX hf).closed j q hj (by rw [List.getElem?_eq_getElem hj,e]) i (bg.2 ⟨hi,hw⟩)
  exact ew.2 ⟨p,h1,h2⟩
theorem S8 {t:ah} (hf:t.Fit) {s:Nat} (h:hT t s = true):s < 2 ^ t.ar.length:=by
  obtain ⟨q,hq,rfl⟩:=ew.1 h
  have h1:=lN ((kX hf).go q hq) (Sub.all t)
  exact Nat.lt_pow_two_of_testBit _ fun i hi=>by
    cases hb:q.1.testBit i
    · rfl
    · have:=h1 i hb; omega
theorem TD {t:ah} (hf:t.Fit) {s:Nat} (h:hT t s = true):s = aP t ∨ ∃ p i,hT t p = true ∧ i < t.ar.length ∧ bD t p i = 0 ∧ aK p i = s ∧ s < p:=by
  obtain ⟨q,hq,rfl⟩:=ew.1 h
  have hI:=kX hf
  have hg:=hI.go q hq
  rcases hI.from_ q hq with e | ⟨j,x,k,h1,h2,e⟩ | ⟨x,h1,_⟩
  · rw [e,goT] at hg
    exact .inl (Option.some.inj hg).symm
  · have hx:=List.mem_of_getElem? h2
    rw [e,fS,hI.go x hx] at hg
    change goT t [k] x.1 = some q.1 at hg
    rw [goT] at hg
    split at hg
    · rename_i h3
      have hg':aK x.1 k = q.1:=Option.some.inj hg
      have hr:hT t x.1 = true:=ew.2 ⟨x,hx,rfl⟩
      have h7:=hf.ship7
      have hlt:=S8 hf hr
      have h128:x.1 < 128:=Nat.lt_of_lt_of_le hlt (Nat.le_trans (Nat.pow_le_pow_right (by omega) h7) (by decide))
      obtain ⟨r1,r2⟩:=yp x.1 h128 k (by omega) (eA h3.2)
      have hpp:0 < 2 ^ k:=Nat.pow_pos (by omega)
      exact .inr ⟨x.1,k,hr,h3.1,h3.2,hg',by rw [← hg',r1]; omega⟩
    · cases hg
  · cases h1
structure RI (t:ah) (s:Nat) (D:List Bool):Prop where
  len:D.length = 2 ^ t.ar.length
  sound:∀ x,D[x]? = some true → hT t x = true
  top:D[aP t]? = some true
  mark:∀ p i,s ≤ p → hT t p = true → i < t.ar.length → bD t p i = 0 → D[aK p i]? = some true
theorem RI.here {t:ah} (hf:t.Fit) {s:Nat} {D:List Bool} (h:RI t (s + 1) D):D[s]? = some true ↔ hT t s = true:=
  ⟨h.sound s,fun hr=>by
    rcases TD hf hr with e | ⟨p,i,h1,h2,h3,h4,h5⟩
    · rw [e]; exact h.top
    · rw [← h4]; exact h.mark p i (by omega) h1 h2 h3⟩
theorem RI.all {t:ah} (hf:t.Fit) {D:List Bool} (h:RI t 0 D):D = (List.range (2 ^ t.ar.length)).map (hT t):=by
  refine List.ext_getElem (by simp [h.len]) fun i h1 h2=>?_
  simp
  rw [Bool.eq_iff_iff]
  have h3:D[i]? = some D[i]:=List.getElem?_eq_getElem h1
  constructor
  · intro e
    exact h.sound i (by rw [h3,e])
  · intro hr
    have:D[i]? = some true:=by
      rcases TD hf hr with e | ⟨p,k,g1,g2,g3,g4,g5⟩
      · rw [e]; exact h.top
      · rw [← g4]; exact h.mark p k (by omega) g1 g2 g3
    rw [h3] at this
    exact Option.some.inj this
theorem RI.start (t:ah) (hf:t.Fit):RI t (2 ^ t.ar.length) ((List.replicate (2 ^ t.ar.length) false).set (aP t) true):=
  have hp:0 < 2 ^ t.ar.length:=Nat.pow_pos (by omega)
  have ha:aP t < 2 ^ t.ar.length:=by unfold aP; omega
  ⟨by simp,fun x hx=>by
    rw [List.getElem?_set] at hx
    split at hx
    · rename_i e; rw [← e]; exact TX hf
    · rw [List.getElem?_replicate] at hx
      split at hx
      · exact absurd (Option.some.inj hx) (by decide)
      · exact absurd hx (by simp),by rw [List.getElem?_set_self (by simpa using ha)],fun p i h1 h2=>absurd (S8 hf h2) (by omega)⟩
structure RJ (t:ah) (s i:Nat) (D:List Bool):Prop where
  ri:RI t (s + 1) D
  here:hT t s = true → ∀ k,k < i → k < t.ar.length → bD t s k = 0 → D[aK s k]? = some true
theorem RJ.start {t:ah} {s:Nat} {D:List Bool} (h:RI t (s + 1) D):RJ t s 0 D:=⟨h,fun _ k hk=>absurd hk (by omega)⟩
theorem RJ.none {t:ah} {s i:Nat} {D:List Bool} (h:RJ t s i D) (hn:bD t s i ≠ 0):RJ t s (i + 1) D:=⟨h.ri,fun hr k hk=>by
  by_cases e:k = i
  · subst e; exact fun _ h2=>absurd h2 hn
  · exact h.here hr k (by omega)⟩
theorem RJ.set {t:ah} (hf:t.Fit) {s i:Nat} {D:List Bool} (h:RJ t s i D) (hi:i < t.ar.length) (hr:hT t s = true) (hw:bD t s i = 0):RJ t s (i + 1) (D.set (aK s i) true):=
  have hlt:=S8 hf (Tk hf hr hi hw)
  have yy:∀ {x:Nat},D[x]? = some true → (D.set (aK s i) true)[x]? = some true:=fun {x} hx=>by
    rw [List.getElem?_set]
    split
    · rename_i e
      rw [if_pos (by rw [h.ri.len]; exact hlt)]
    · exact hx
  ⟨⟨by simp [h.ri.len],fun x hx=>by
    rw [List.getElem?_set] at hx
    split at hx
    · rename_i e; rw [← e]; exact Tk hf hr hi hw
    · exact h.ri.sound x hx,yy h.ri.top,fun p k h1 h2 h3 h4=>yy (h.ri.mark p k h1 h2 h3 h4)⟩,fun _ k hk h2 h3=>by
    by_cases e:k = i
    · subst e
      rw [List.getElem?_set_self (by rw [h.ri.len]; exact hlt)]
    · exact yy (h.here hr k (by omega) h2 h3)⟩
theorem RJ.done {t:ah} {s i:Nat} {D:List Bool} (h:RJ t s i D) (hd:t.ar.length ≤ i ∨ hT t s = false):RI t s D:=⟨h.ri.len,h.ri.sound,h.ri.top,fun p k h1 h2 h3 h4=>by
  by_cases e:p = s
  · subst e
    rcases hd with hd | hd
    · exact h.here h2 k (by omega) h3 h4
    · rw [h2] at hd; cases hd
  · exact h.ri.mark p k (by omega) h2 h3 h4⟩
def To (t:ah):List ab:=((List.range (2 ^ t.ar.length)).map (hT t)).map ab.bool
def u5 (D:List Bool):bo:=.arr 1 (D.map ab.bool)
theorem T3 (t:ah):(ab.slice 1 (To t)).pure = true:=by
  simp [ab.pure,To,av (f:=ab.bool ∘ hT t) (fun _=>rfl)]
theorem S4 (t:ah) (hf:t.Fit) (σ:af):Spec Tryz.prog UW [s5 t] σ fun r σ'=>r = .ret (.slice 1 (To t)) ∧ σ' = σ:=by
  refine Spec.ay (VK (by simp) (dm _ ?_)) (by simp [aM,xR]) (T3 t) σ
  have h7:=hf.ship7
  obtain ⟨m,hm⟩:∃ m,t.ar.length = m:=⟨_,rfl⟩
  obtain ⟨P,hP⟩:∃ P,2 ^ m = P:=⟨_,rfl⟩
  have hpm:P ≤ 128:=by
    have:2 ^ m ≤ 2 ^ 7:=Nat.pow_le_pow_right (by omega) (by omega)
    omega
  have hp1:1 ≤ P:=by rw [← hP]; exact Nat.one_le_two_pow
  have hm7:m ≤ 7:=by omega
  have hrl:=Jf t (2 ^ m)
  have hpow:=fun σ=>bP m hm7 σ
  have hPI:(2:Int) ^ m = (P:Int):=by rw [← hP]; simp
  have hmx:max (P:Int) 0 = P:=by omega
  have hp140:(P:Int) ≤ 140737488355328:=by omega
  have w1:IntKind.i64.wrap ((P:Int) - 1) = ((P - 1:Nat):Int):=wE (by omega) (by omega)
  simp [Vl,s5,hm]
  refine aj.pure xS (bP m hm7 _) ?_
  have hPl:P - 1 < P:=by omega
  simp [hP,hp140,w1,hPl]
  have hall:aP t = P - 1:=by rw [aP,hm,hP]
  have hst:=RI.start t hf
  rw [hm,hP,hall] at hst
  refine AW.loop (ι:=Nat) (fun s fr σ=>fr = { v:=[(1, .pval (.agg [nn' m, .slice 1 (gq t P)])),(3, .sref 1 0 0 P P),(4, .int .i64 ((s:Int) - 1))],ds:=[] } ∧ s ≤ P ∧ ∃ D,RI t s D ∧ σ = [u5 D]) (fun s=>s) P ⟨by simp; omega,by omega,_,hst,by simp [u5]⟩ ?_
  clear hst
  rintro s fr σ ⟨rfl,hs,D,hI,rfl⟩
  have hlen:=hI.len
  rw [hm,hP] at hlen
  refine (Nat.eq_zero_or_pos s).elim (fun hs0=>?_) (fun hs0=>?_)
  · subst hs0
    have hD:=hI.all hf
    refine dm _ ?_
    simp [u5,hlen]
    rw [To, ← hD,List.take_of_length_le (by simp [hlen])]
  obtain ⟨u,hu⟩:∃ u,s - 1 = u:=⟨_,rfl⟩
  have hsu:(s:Int) - 1 = u:=by omega
  have hus:s = u + 1:=by omega
  rw [hsu]
  have hI':RI t (u + 1) D:=by rw [← hus]; exact hI
  have w2:IntKind.i64.wrap ((u:Int) - 1) = (u:Int) - 1:=an (by omega) (by omega)
  have huP:u < P:=by omega
  refine dm _ ?_
  simp
  refine AW.loop (ι:=Nat) (fun i fr σ=>fr = { v:=[(1, .pval (.agg [nn' m, .slice 1 (gq t P)])),(3, .sref 1 0 0 P P),(4,nn' u),(5,nn' i)],ds:=[] } ∧ i ≤ m ∧ ∃ D,RJ t u i D ∧ σ = [u5 D]) (fun i=>m - i) 0 ⟨by simp,by omega,_, .start hI',rfl⟩ ?_
  clear hI hI' hlen
  rintro i fr σ ⟨rfl,hi,E,hJ,rfl⟩
  have hlen:=hJ.ri.len
  rw [hm,hP] at hlen
  have huE:u < E.length:=by omega
  have hhere:=hJ.ri.here hf
  refine (Nat.lt_or_ge i m).elim (fun him=>?_) (fun him=>?_)
  rotate_left
  · have hnl:¬ i < m:=by omega
    have hd:=hJ.done (.inl (by omega))
    obtain ⟨z,hzv⟩:∃ z,E[u] = z:=⟨_,rfl⟩
    refine dm _ ?_
    simp [hnl,w2,u5,hlen,huP,hzv]
    exact ⟨u,by omega,rfl,by omega,E,hd,rfl⟩
  refine (Classical.em (hT t u = true)).elim (fun hr=>?_) (fun hr=>?_)
  rotate_left
  · have hEu:E[u] = false:=by
      cases h:E[u] with
      | false=>rfl
      | true=>exact absurd (hhere.1 (by rw [List.getElem?_eq_getElem huE,h])) hr
    have hd:=hJ.done (.inr (by simpa using hr))
    refine dm _ ?_
    simp [him,w2,u5,hlen,huP,hEu]
    exact ⟨u,by omega,rfl,by omega,E,hd,rfl⟩
  have hEu:E[u] = true:=by
    have:=hhere.2 hr
    rw [List.getElem?_eq_getElem huE] at this
    exact Option.some.inj this
  have w3:IntKind.i64.wrap ((i:Int) + 1) = ((i + 1:Nat):Int):=wE (by omega) (by omega)
  have hiS:i < t.ar.length:=by omega
  refine (Classical.em (bD t u i = 0)).elim (fun hz=>?_) (fun hz=>?_)
  rotate_left
  · have hzI:¬ (bD t u i:Int) = 0:=by omega
    have hzB:((bD t u i:Int) == 0) = false:=by simpa using hzI
    refine dm _ ?_
    simp [him,w2,w3,u5,hlen,huP,hEu,yb,hm,hzB]
    exact ⟨i + 1,by omega,by simp,by omega,E,hJ.none hz,rfl⟩
  have hJ':=hJ.set hf hiS hr hz
  obtain ⟨hr1,hr2⟩:=yp u (by omega) i (by omega) (eA hz)
  obtain ⟨x,hx⟩:∃ x,aK u i = x:=⟨_,rfl⟩
  have hxu:x ≤ u:=by rw [← hx,hr1]; exact Nat.sub_le _ _
  have w4:IntKind.i64.wrap ((u:Int) - 2 ^ i) = (x:Int):=by
    rw [← hx,hr1,show (u:Int) - 2 ^ i = ((u - 2 ^ i:Nat):Int) by
      have e:(2:Int) ^ i = ((2 ^ i:Nat):Int):=by simp
      rw [e]; omega]
    exact wrap_i64 (Nat.lt_of_le_of_lt (Nat.sub_le _ _) (by omega))
  have hxP:x < P:=by omega
  have hxE:x < E.length:=by omega
  rw [hx] at hJ'
  refine dm _ ?_
  simp [him,w2,w3,u5,hlen,huP,hEu,yb,hm,hz]
  refine aj.pure xS (bP i (by omega) _) ?_
  simp [him,w3,w4,u5,hlen,huP,hEu,yb,hm,hz,hxP]
  exact ⟨i + 1,by omega,by simp,by omega,_,hJ',by rw [List.map_set]⟩
set_option maxRecDepth 100000
set_option maxHeartbeats 1000000
set_option maxRecDepth 100000
set_option maxHeartbeats 1000000
theorem zn (t:ah):cA t [] = (aN t).2.2 ∧ gN t [] = aP t:=by
  refine ⟨?_,rfl⟩
  unfold cA bz
  by_cases h:(aN t).2.2 = 0
  · simp [h,bH]
  · simp [h]
def TR (t:ah):ab:=if (aN t).2.2 = 0 then .tup [s5 t,nn' (aP t),ii' 0] else .tup [.agg [ii' 0, .slice 1 []],ii' 0,ii' (aN t).2.2]
theorem SY (t:ah) (hok:t.Ok) (σ:af):Spec Tryz.prog UD [t.v, .slice 1 []] σ fun r σ'=>r = .ret (TR t) ∧ σ' = σ:=by
  have:=Tb t hok [] (by simp) σ
  unfold S1 at this
  rw [(zn t).1,(zn t).2] at this
  exact this
theorem DH {s i:Nat} (hs:s < 128) (hi:i < 7) (hb:s.testBit i = true):IntKind.i64.wrap ((s:Int) - 2 ^ i) = ((aK s i:Nat):Int):=by
  obtain ⟨hr1,hr2⟩:=yp s hs i hi hb
  rw [hr1,show (s:Int) - 2 ^ i = ((s - 2 ^ i:Nat):Int) by
    have e:(2:Int) ^ i = ((2 ^ i:Nat):Int):=by simp
    rw [e]; omega]
  exact wrap_i64 (Nat.lt_of_le_of_lt (Nat.sub_le _ _) (by omega))
theorem Sub.pow {t:ah} {s:Nat} (hs:Sub t s):s < 2 ^ t.ar.length:=Nat.lt_pow_two_of_testBit s fun j hj=>by
  cases hb:s.testBit j
  · rfl
  · have:=hs j hb; omega
theorem Sd {a n:Nat} (h:a < 2 ^ n):(a:Int) < 2 ^ n:=by
  have e:(2:Int) ^ n = ((2 ^ n:Nat):Int):=by simp
  rw [e]; omega
end Go.AM
