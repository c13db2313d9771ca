/- MADE BY PROGRAM (gen.py): the abstract code of functions of this seat, each checked against the given code by the kernel. -/
import Derived.Test.YtlmhkldmpggadaaGreatDoorChecked
import Derived.Test.YtlmhkldmpggadaaGreatDoorP15
import Derived.Test.YtlmhkldmpggadaaGreatDoorP16
namespace Go.AM
open Go.Proofs
@[simp] abbrev mV (d s:Nat):aL:=⟨some d,none, .mv (.t s)⟩
@[simp] abbrev oP (d:Nat) (i:AI):aL:=⟨some d,none,i⟩
@[simp] abbrev oN (i:AI):aL:=⟨none,none,i⟩
@[simp] abbrev gT (d g:Nat) (i:AI):aL:=⟨some d,some (g,true),i⟩
@[simp] abbrev gF (d g:Nat) (i:AI):aL:=⟨some d,some (g,false),i⟩
abbrev RsT:=List (Nat × Option (Option Nat))
abbrev SpF (n:Nat) (F:FuncId) (C:AC) (Rs:RsT):Prop:=∀ {args:List ag} {σ:af} {R:fq → af → Prop},args.length ≤ n → AW Tryz.prog n none C (Cb Rs R) { v:=fE args 0,ds:=[] } σ → Spec Tryz.prog F args σ R
theorem SpI {n:Nat} {F:FuncId} {fn:Func} {C:AC} {Rs:RsT} (hf:Tryz.prog.funcs[F]? = some fn) (hk:x9 Tryz.prog fn n C Rs = true):SpF n F C Rs:=fun ha h=>Spec.wS hf hk ha h
@[simp] abbrev cI (n:Int):aO:=.c (.int .i64 n)
@[simp] abbrev ol (d a:Nat):aL:=⟨some d,none,.load none (.t a)⟩
@[simp] abbrev oG (d k a:Nat):aL:=⟨some d,none,.load (some k) (.t a)⟩
@[simp] abbrev oQ (d k a:Nat):aL:=⟨some d,none,.fieldAddr none k (.t a)⟩
@[simp] abbrev oV (d s k a:Nat):aL:=⟨some d,none,.fieldAddr (some s) k (.t a)⟩
@[simp] abbrev oX (d:Nat) (n:Int):aL:=⟨some d,none,.mv (cI n)⟩
@[simp] abbrev xi (d a k:Nat):aL:=⟨some d,none,.extract (.t a) k⟩
@[simp] abbrev xn (k a b:Nat):aL:=⟨none,none,.store k (.t a) (.t b)⟩
@[simp] abbrev xC (d k a b:Nat):aL:=⟨some d,none,.ixS k (.t a) (.t b)⟩
@[simp] abbrev xZ (d a:Nat):aL:=⟨some d,none,.len (.t a)⟩
@[simp] abbrev zc (d k a:Nat):aL:=⟨some d,none,.pbox k (.t a)⟩
@[simp] abbrev zr (d a:Nat):aL:=⟨some d,none,.nilchk (.t a)⟩
@[simp] abbrev zu (d a:Nat):aL:=⟨some d,none,.un .not (.t a)⟩
@[simp] abbrev zz (d a b:Nat):aL:=⟨some d,none,.bin .add (.t a) (.t b)⟩
@[simp] abbrev zE (d a:Nat) (n:Int):aL:=⟨some d,none,.bin .add (.t a) (cI n)⟩
@[simp] abbrev zI (d a b:Nat):aL:=⟨some d,none,.bin .sub (.t a) (.t b)⟩
@[simp] abbrev zR (d a:Nat) (n:Int):aL:=⟨some d,none,.bin .sub (.t a) (cI n)⟩
@[simp] abbrev zS (d a b:Nat):aL:=⟨some d,none,.bin .lss (.t a) (.t b)⟩
@[simp] abbrev ki (d a:Nat) (n:Int):aL:=⟨some d,none,.bin .lss (.t a) (cI n)⟩
@[simp] abbrev kl (d a b:Nat):aL:=⟨some d,none,.bin .eql (.t a) (.t b)⟩
@[simp] abbrev kw (d a:Nat) (n:Int):aL:=⟨some d,none,.bin .eql (.t a) (cI n)⟩
@[simp] abbrev kR (d a b:Nat):aL:=⟨some d,none,.bin .neq (.t a) (.t b)⟩
@[simp] abbrev wc (d a:Nat) (n:Int):aL:=⟨some d,none,.bin .neq (.t a) (cI n)⟩
@[simp] abbrev wd (d a:Nat) (n:Int):aL:=⟨some d,none,.bin .geq (.t a) (cI n)⟩
@[simp] abbrev wm (d a:Nat) (n:Int):aL:=⟨some d,none,.bin .gtr (.t a) (cI n)⟩
@[simp] abbrev wn (d g a:Nat):aL:=⟨some d,some (g,true),.mv (.t a)⟩
@[simp] abbrev wo (d g a:Nat):aL:=⟨some d,some (g,true),.load none (.t a)⟩
@[simp] abbrev wt (d g k a:Nat):aL:=⟨some d,some (g,true),.fieldAddr none k (.t a)⟩
@[simp] abbrev wu (d g a:Nat) (n:Int):aL:=⟨some d,some (g,true),.bin .eql (.t a) (cI n)⟩
@[simp] abbrev ww (d g k a b:Nat):aL:=⟨some d,some (g,true),.ixS k (.t a) (.t b)⟩
@[simp] abbrev wy (d g a:Nat):aL:=⟨some d,some (g,false),.mv (.t a)⟩
@[simp] abbrev wI (d g a:Nat):aL:=⟨some d,some (g,false),.load none (.t a)⟩
@[simp] abbrev wJ (d g k a:Nat):aL:=⟨some d,some (g,false),.fieldAddr none k (.t a)⟩
@[simp] abbrev wM (d g a:Nat):aL:=⟨some d,some (g,false),.len (.t a)⟩
@[simp] abbrev va (d g k a b:Nat):aL:=⟨some d,some (g,false),.ixS k (.t a) (.t b)⟩
@[simp] abbrev vi (d f:Nat) (l:List Bool) (a:List aO):aL:=⟨some d,none,.call (.f f) l a⟩
@[simp] abbrev vn :List Bool:=[true,true]
@[simp] abbrev vo :List Bool:=[true]
@[simp] abbrev vq :List Bool:=[false]
@[simp] abbrev vy :List Bool:=[true,false]
@[simp] abbrev vV :List Bool:=[false,false]
@[simp] abbrev qc :List Bool:=[true,true,false]
@[simp] abbrev qr :List ag:=[.int .i64 0,.int .i64 0,.int .i64 0,.int .i64 0,.int .i64 0]
@[simp] abbrev qx :List ag:=[.int .i64 0,.int .i64 0,.int .i64 0,.int .i64 0]
@[simp] abbrev qE :List ag:=[.int .i64 0,.int .i64 0]
@[simp] abbrev qJ :List ag:=[.slice 1 [],.slice 1 [],.slice 4 [],.slice 5 [],.slice 4 []]
@[simp] abbrev qL (o:List aL) (l:List Nat) (c:AC):AC:=.seq (.reg o l) c
abbrev yb (n:Nat):List Nat:=List.range n
abbrev F_5:FuncId:=5
def C_5:AC:=
(qL [zc 3 5 0,
zc 5 2 2,
oP 6 (.mv (.c (.bool false)))] [1,3,5]
(qL [oG 12 5 3,
mV 13 1,
oP 14 (.ixA 2 1 none (.t 5) (cI 0)),
ol 15 14,
vi 16 32 qc [.t 12,.t 13,.t 15],
mV 11 16,
xi 17 11 0,
xi 18 11 1,
oP 7 (.alloc qE),
xn 2 7 17,
mV 8 18] [1,3,5,7,8]
(qL [oG 20 5 3,
mV 21 1,
oP 22 (.ixA 2 1 none (.t 5) (cI 0)),
ol 23 22,
vi 24 33 qc [.t 20,.t 21,.t 23],
mV 19 24,
xi 25 19 0,
xi 26 19 1,
oP 9 (.alloc qE),
xn 2 9 25,
mV 10 26] [1,3,5,7,8,9,10]
(.seq (qL [oG 27 2 7,
oG 28 2 9,
oP 29 (.eqa true [.i, .i] (.t 27) (.t 28)),
mV 30 29,
wy 31 30 8,
wy 32 30 10,
gF 33 30 (.bin .neq (.t 31) (.t 32)),
oP 34 (.pick (.t 30) (.c (.bool true)) (.t 33))] [1,3,5,7,9,34]
(.cond (.t 34)
(qL [oP 6 (.mv (.c (.bool false)))] [6]
.ret)
.skip))
(qL [oG 36 5 3,
mV 37 1,
oP 38 (.ixA 2 1 none (.t 5) (cI 1)),
ol 39 38,
vi 40 34 qc [.t 36,.t 37,.t 39],
mV 35 40,
xi 41 35 0,
xi 42 35 1,
xn 2 7 41,
mV 8 42] [1,3,5,7,8,9]
(qL [oG 44 5 3,
mV 45 1,
oP 46 (.ixA 2 1 none (.t 5) (cI 1)),
ol 47 46,
vi 48 35 qc [.t 44,.t 45,.t 47],
mV 43 48,
xi 49 43 0,
xi 50 43 1,
xn 2 9 49,
mV 10 50] [7,8,9,10]
(qL [oG 51 2 7,
oG 52 2 9,
oP 53 (.eqa false [.i, .i] (.t 51) (.t 52)),
mV 54 53,
wn 55 54 8,
wn 56 54 10,
gT 57 54 (.bin .eql (.t 55) (.t 56)),
oP 58 (.pick (.t 54) (.t 57) (.c (.bool false))),
mV 59 58,
gT 60 59 (.call (.f 24) [] []),
oP 61 (.pick (.t 59) (.t 60) (.c (.bool false))),
mV 6 61] [6]
.ret)))))))
abbrev R_5:RsT:=[(6,none)]
theorem K_5:x9 Tryz.prog Tryz.f5 62 C_5 R_5 = true:=by kernel_rfl
theorem S_5:SpF 62 F_5 C_5 R_5:=fun ha h=>Spec.wS Tryz.func5 K_5 ha h
abbrev MT:FuncId:=16
def GI:AC:=
(qL [zc 1 5 0,
oX 2 0,
oX 3 0,
oX 4 0] [1]
(qL [oG 9 5 1,
oP 10 (.build qJ [(0,5,.t 9)]),
oP 5 (.alloc qJ),
xn 5 5 10] [5]
(.frz 5 true (.seq (qL [oV 11 5 0 5,
oQ 12 0 11,
ol 13 12,
xZ 14 13,
oP 15 (.lit 0 1 1 [(0,.t 14)]),
vi 16 53 [false,false,true] [cI 1,cI 4,.t 15],
mV 17 16,
gF 18 17 (.fieldAddr (some 5) 0 (.t 5)),
wJ 19 17 1 18,
wI 20 17 19,
wM 21 17 20,
gF 22 17 (.lit 0 1 1 [(0,.t 21)]),
gF 23 17 (.call (.f 53) [false,false,true] [cI 1,cI 4,.t 22]),
oP 24 (.pick (.t 17) (.c (.bool true)) (.t 23)),
mV 25 24,
gF 26 25 (.fieldAddr (some 5) 0 (.t 5)),
wJ 27 25 3 26,
wI 28 25 27,
wM 29 25 28,
gF 30 25 (.bin .gtr (.t 29) (cI 10)),
oP 31 (.pick (.t 25) (.c (.bool true)) (.t 30)),
mV 32 31,
gF 33 32 (.fieldAddr (some 5) 0 (.t 5)),
wJ 34 32 2 33,
wI 35 32 34,
wM 36 32 35,
gF 37 32 (.fieldAddr (some 5) 0 (.t 5)),
wJ 38 32 4 37,
wI 39 32 38,
wM 40 32 39,
gF 41 32 (.mx [.t 36,.t 40]),
gF 42 32 (.bin .gtr (.t 41) (cI 8)),
oP 43 (.pick (.t 32) (.c (.bool true)) (.t 42))] [5,43]
(.cond (.t 43)
(qL [oX 2 1,
oX 3 0,
oX 4 3] [2,3,4]
.ret)
.skip))
(qL [oP 44 (.mkfunc (.func 54) [] [.t 5]),
oP 45 (.mkfunc (.func 56) [] [.t 5]),
oP 46 (.mkfunc (.func 57) [] [.t 5]),
oP 47 (.mkfunc (.func 59) [] [.t 5]),
oP 48 (.mkfunc (.func 62) [] [.t 5]),
oP 49 (.build [.nilfunc, .nilfunc, .nilfunc, .nilfunc, .nilfunc] [(0,1,.t 44),(1,1,.t 45),(2,1,.t 46),(3,1,.t 47),(4,1,.t 48)]),
oP 6 (.alloc [.nilfunc, .nilfunc, .nilfunc, .nilfunc, .nilfunc]),
xn 5 6 49] [6]
(.frz 6 true (.seq (qL [oG 50 5 6,
oX 51 0] [50,51]
(.block 0
(.loop [50,51]
(qL [ki 52 51 5] [50,51,52]
(.seq (.cond (.t 52)
.skip
(.exit 0))
(.seq (.block 1
(qL [mV 53 51,
oP 54 (.ixV 5 1 none (.t 50) (.t 51)),
mV 7 53,
mV 8 54] [7,8,50,51]
(qL [mV 56 8,
oP 57 (.call (.t 56) [] []),
mV 55 57,
xi 58 55 0,
xi 59 55 1,
mV 3 58,
mV 4 59] [3,4,7,50,51]
(qL [mV 60 4,
wc 61 60 0] [3,4,7,50,51,61]
(.cond (.t 61)
(qL [mV 62 7,
zE 63 62 2,
mV 64 3,
mV 65 4,
mV 2 63,
mV 3 64,
mV 4 65] [2,3,4]
.ret)
.skip)))))
(.reg [zE 66 51 1,
mV 51 66] [50,51])))))))
(qL [oX 2 0,
oX 3 0,
oX 4 0] [2,3,4]
.ret))))))))
abbrev SG:RsT:=[(2,none),(3,none),(4,none)]
theorem TG:SpF 67 MT GI SG:=SpI Tryz.func16 (by kernel_rfl)
theorem Dr:au Tryz.prog MT = true:=by kernel_rfl
abbrev Oa:FuncId:=17
def Bn:AC:=
(qL [zc 1 5 0,
oX 2 0,
oX 3 0,
oX 4 0] [1]
(.seq (qL [oQ 8 0 1,
ol 9 8,
xZ 10 9,
vi 11 63 [false,false,false] [.t 10,cI 1,cI 4],
zu 12 11,
mV 13 12,
wJ 14 13 1 1,
wI 15 13 14,
wM 16 13 15,
gF 17 13 (.call (.f 63) [false,false,false] [.t 16,cI 1,cI 4]),
gF 18 13 (.un .not (.t 17)),
oP 19 (.pick (.t 13) (.c (.bool true)) (.t 18)),
mV 20 19,
wJ 21 20 3 1,
wI 22 20 21,
wM 23 20 22,
gF 24 20 (.bin .gtr (.t 23) (cI 10)),
oP 25 (.pick (.t 20) (.c (.bool true)) (.t 24)),
mV 26 25,
wJ 27 26 2 1,
wI 28 26 27,
wM 29 26 28,
gF 30 26 (.bin .gtr (.t 29) (cI 8)),
oP 31 (.pick (.t 26) (.c (.bool true)) (.t 30)),
mV 32 31,
wJ 33 32 4 1,
wI 34 32 33,
wM 35 32 34,
gF 36 32 (.bin .gtr (.t 35) (cI 8)),
oP 37 (.pick (.t 32) (.c (.bool true)) (.t 36))] [1,37]
(.cond (.t 37)
(qL [oX 2 1,
oX 3 0,
oX 4 3] [2,3,4]
.ret)
.skip))
(qL [oQ 39 0 1,
ol 40 39,
vi 41 64 vo [.t 40],
mV 38 41,
xi 42 38 0,
xi 43 38 1,
mV 5 42,
mV 6 43] [1,5,6]
(.seq (qL [mV 44 6,
wc 45 44 0] [1,5,6,45]
(.cond (.t 45)
(qL [mV 46 5,
mV 47 6,
oX 2 2,
mV 3 46,
mV 4 47] [2,3,4]
.ret)
.skip))
(qL [oQ 49 1 1,
ol 50 49,
vi 51 64 vo [.t 50],
mV 48 51,
xi 52 48 0,
xi 53 48 1,
mV 5 52,
mV 6 53] [1,5,6]
(.seq (qL [mV 54 6,
wc 55 54 0] [1,5,6,55]
(.cond (.t 55)
(qL [mV 56 5,
mV 57 6,
oX 2 3,
mV 3 56,
mV 4 57] [2,3,4]
.ret)
.skip))
(qL [oG 59 5 1,
oQ 60 2 1,
ol 61 60,
vi 62 65 vn [.t 59,.t 61],
mV 58 62,
xi 63 58 0,
xi 64 58 1,
mV 5 63,
mV 6 64] [1,5,6]
(.seq (qL [mV 65 6,
wc 66 65 0] [1,5,6,66]
(.cond (.t 66)
(qL [mV 67 5,
mV 68 6,
oX 2 4,
mV 3 67,
mV 4 68] [2,3,4]
.ret)
.skip))
(.seq (qL [oX 7 0] [1,7]
(.block 0
(.loop [1,7]
(.seq (qL [mV 69 7,
oQ 70 3 1,
ol 71 70,
xZ 72 71,
zS 73 69 72] [1,7,73]
(.cond (.t 73)
.skip
(.exit 0)))
(.seq (.block 1
(qL [oG 76 5 1,
mV 77 7,
vi 78 66 vy [.t 76,.t 77],
mV 6 78] [1,6,7]
(qL [mV 79 6,
wc 80 79 0] [1,6,7,80]
(.cond (.t 80)
(qL [mV 81 7,
mV 82 6,
oX 2 5,
mV 3 81,
mV 4 82] [2,3,4]
.ret)
.skip))))
(.reg [mV 74 7,
zE 75 74 1,
mV 7 75] [1,7]))))))
(qL [oG 84 5 1,
oQ 85 4 1,
ol 86 85,
vi 87 65 vn [.t 84,.t 86],
mV 83 87,
xi 88 83 0,
xi 89 83 1,
mV 5 88,
mV 6 89] [5,6]
(.seq (qL [mV 90 6,
wc 91 90 0] [5,6,91]
(.cond (.t 91)
(qL [mV 92 5,
mV 93 6,
oX 2 6,
mV 3 92,
mV 4 93] [2,3,4]
.ret)
.skip))
(qL [oX 2 0,
oX 3 0,
oX 4 0] [2,3,4]
.ret))))))))))))
abbrev TR:RsT:=[(2,none),(3,none),(4,none)]
theorem Tx:SpF 94 Oa Bn TR:=SpI Tryz.func17 (by kernel_rfl)
theorem FK:au Tryz.prog Oa = true:=by kernel_rfl
abbrev F5:FuncId:=18
def Ny:AC:=
(qL [zc 2 5 0,
oP 4 (.mv (.c (.bool false))),
oX 5 0] [1,2]
(qL [oG 9 5 2,
mV 10 1,
vi 11 67 vn [.t 9,.t 10],
mV 8 11,
xi 12 8 0,
xi 13 8 1,
oP 6 (.alloc qJ),
xn 5 6 12,
mV 7 13] [1,6,7]
(.frz 6 true (qL [mV 14 7,
kw 15 14 0,
mV 16 15,
gT 17 16 (.load (some 5) (.t 6)),
wn 18 16 1,
gT 19 16 (.call (.f 68) vn [.t 17,.t 18]),
oP 20 (.pick (.t 16) (.t 19) (.c (.bool false))),
mV 21 7,
mV 4 20,
mV 5 21] [4,5]
.ret))))
abbrev Sr:RsT:=[(4,none),(5,none)]
theorem SO:SpF 22 F5 Ny Sr:=SpI Tryz.func18 (by kernel_rfl)
theorem GL:au Tryz.prog F5 = true:=by kernel_rfl
abbrev G5:FuncId:=20
def KP:AC:=
(qL [zc 2 5 0,
oP 4 (.alloc qx),
oX 5 0] [1,2,4]
(qL [oG 14 5 2,
mV 15 1,
vi 16 67 vn [.t 14,.t 15],
mV 13 16,
xi 17 13 0,
xi 18 13 1,
oP 6 (.alloc qJ),
xn 5 6 17,
mV 7 18] [1,4,6,7]
(.frz 6 true (.seq (qL [mV 19 7,
wc 20 19 0] [1,4,6,7,20]
(.cond (.t 20)
(qL [oP 21 (.build qx []),
mV 22 7,
xn 4 4 21,
mV 5 22] [4,5]
.ret)
.skip))
(.seq (qL [oG 23 5 6,
mV 24 1,
vi 25 70 vn [.t 23,.t 24],
mV 8 25] [1,4,6,8]
(qL [mV 26 8,
wd 27 26 0] [1,4,6,8,27]
(.cond (.t 27)
(qL [mV 28 8,
oP 29 (.build qx [(0,1,.t 28)]),
xn 4 4 29,
oX 5 0] [4,5]
.ret)
.skip)))
(.seq (qL [oV 30 5 0 6,
oQ 31 0 30,
ol 32 31,
xZ 33 32,
oX 34 0] [1,4,6,33,34]
(.block 0
(.loop [1,4,6,33,34]
(qL [zS 35 34 33] [1,4,6,33,34,35]
(.seq (.cond (.t 35)
.skip
(.exit 0))
(.seq (.block 1
(qL [mV 36 34,
mV 9 36] [1,4,6,9,33,34]
(qL [oX 10 1] [1,4,6,9,10,33,34]
(.block 2
(.loop [1,4,6,9,10,33,34]
(.seq (qL [mV 37 10,
oV 38 5 0 6,
oQ 39 1 38,
ol 40 39,
xZ 41 40,
oP 42 (.bin .shl (cI 1) (.t 41)),
zS 43 37 42] [1,4,6,9,10,33,34,43]
(.cond (.t 43)
.skip
(.exit 2)))
(.seq (.block 3
(qL [oG 47 5 6,
mV 48 9,
mV 49 10,
mV 50 1,
vi 51 71 [true,false,false,true] [.t 47,.t 48,.t 49,.t 50],
mV 46 51,
xi 52 46 0,
xi 53 46 1,
mV 11 52,
mV 12 53] [1,4,6,9,10,11,12,33,34]
(.seq (qL [mV 54 11,
kw 55 54 0] [1,4,6,9,10,11,12,33,34,55]
(.cond (.t 55)
(.reg [mV 56 12,
mV 11 56] [1,4,6,9,10,11,33,34])
.skip))
(qL [mV 57 11,
wc 58 57 0] [1,4,6,9,10,11,33,34,58]
(.cond (.t 58)
(qL [mV 59 9,
mV 60 10,
mV 61 11,
oP 62 (.build qx [(0,1,cI (-1)),(1,1,.t 59),(2,1,.t 60),(3,1,.t 61)]),
xn 4 4 62,
oX 5 0] [4,5]
.ret)
.skip)))))
(.reg [mV 44 10,
zE 45 44 1,
mV 10 45] [1,4,6,9,10,33,34]))))))))
(.reg [zE 63 34 1,
mV 34 63] [1,4,6,33,34])))))))
(qL [oP 64 (.build qx []),
xn 4 4 64,
oX 5 4] [4,5]
.ret)))))))
abbrev Ub:RsT:=[(4,some (some 4)),(5,none)]
theorem Sk:SpF 65 G5 KP Ub:=SpI Tryz.func20 (by kernel_rfl)
theorem JR:au Tryz.prog G5 = true:=by kernel_rfl
abbrev JS:FuncId:=22
def CJ:AC:=
(qL [zc 3 5 0,
zc 5 4 2,
oP 6 (.mv (.c (.bool false))),
oX 7 0] [1,3,5]
(qL [oG 13 5 3,
mV 14 1,
vi 15 67 vn [.t 13,.t 14],
mV 12 15,
xi 16 12 0,
xi 17 12 1,
oP 8 (.alloc qJ),
xn 5 8 16,
mV 9 17] [1,5,8,9]
(.frz 8 true (.seq (.block 0
(qL [mV 19 9,
wc 20 19 0,
mV 18 20] [1,5,8,9,18]
(.cond (.t 18)
(qL [mV 21 9,
oP 6 (.mv (.c (.bool false))),
mV 7 21] [6,7]
.ret)
(qL [oQ 23 0 5,
ol 24 23,
wc 25 24 (-1),
mV 22 25] [1,5,8,22]
(.cond (.t 22)
(qL [oG 26 4 5,
oQ 27 0 5,
ol 28 27,
oP 29 (.build qx [(0,1,.t 28)]),
oP 30 (.eqa false [.i, .i, .i, .i] (.t 26) (.t 29)),
mV 31 30,
gT 32 31 (.fieldAddr (some 5) 0 (.t 8)),
wt 33 31 3 32,
wo 34 31 33,
gT 35 31 (.len (.t 34)),
gT 36 31 (.bin .sub (.t 35) (cI 1)),
wt 37 31 0 5,
wo 38 31 37,
gT 39 31 (.lit 0 1 1 [(0,.t 38)]),
gT 40 31 (.call (.f 53) [false,false,true] [cI 0,.t 36,.t 39]),
gT 41 31 (.un .not (.t 40)),
oP 42 (.pick (.t 31) (.t 41) (.c (.bool false))),
mV 43 42,
gT 44 43 (.load (some 5) (.t 8)),
wt 45 43 0 5,
wo 46 43 45,
wn 47 43 1,
gT 48 43 (.call (.f 73) [true,false,true] [.t 44,.t 46,.t 47]),
oP 49 (.pick (.t 43) (.t 48) (.c (.bool false))),
mV 6 49,
oX 7 0] [6,7]
.ret)
(.seq (.dreg [oV 51 5 0 8,
oQ 52 0 51,
ol 53 52,
xZ 54 53,
zR 55 54 1,
oQ 56 1 5,
ol 57 56,
oP 58 (.lit 0 1 1 [(0,.t 57)]),
vi 59 53 [false,false,true] [cI 0,.t 55,.t 58],
mV 60 59,
gF 61 60 (.fieldAddr (some 5) 0 (.t 8)),
wJ 62 60 1 61,
wI 63 60 62,
wM 64 60 63,
gF 65 60 (.bin .shl (cI 1) (.t 64)),
gF 66 60 (.bin .sub (.t 65) (cI 1)),
wJ 67 60 2 5,
wI 68 60 67,
gF 69 60 (.lit 0 1 1 [(0,.t 68)]),
gF 70 60 (.call (.f 53) [false,false,true] [cI 1,.t 66,.t 69]),
oP 71 (.pick (.t 60) (.c (.bool true)) (.t 70)),
mV 50 71] [1,5,8,50] [[],[0],[0,1],[0,1,2],yb 4,[],[5],[5,6],yb 8,yb 9,yb 10,yb 11,yb 12,yb 13,yb 14,yb 15,yb 10,[0,1,2,3,4,5,6,7,8,9,16],[0,1,2,3,4,5,6,7,8,9,16,17],yb 19,yb 20,yb 21])
(.cond (.t 50)
(qL [oP 6 (.mv (.c (.bool false))),
oX 7 0] [6,7]
.ret)
.skip)))))))
(qL [oG 73 5 8,
oQ 74 1 5,
ol 75 74,
oQ 76 2 5,
ol 77 76,
mV 78 1,
vi 79 71 [true,false,false,true] [.t 73,.t 75,.t 77,.t 78],
mV 72 79,
xi 80 72 0,
xi 81 72 1,
mV 10 80,
mV 11 81] [5,10,11]
(qL [oQ 82 3 5,
ol 83 82,
wm 84 83 0,
mV 85 84,
wt 86 85 3 5,
wo 87 85 86,
wn 88 85 10,
gT 89 85 (.bin .eql (.t 87) (.t 88)),
oP 90 (.pick (.t 85) (.t 89) (.c (.bool false))),
mV 91 90,
wJ 92 91 3 5,
wI 93 91 92,
gF 94 91 (.bin .lss (.t 93) (cI 0)),
wy 95 91 94,
wt 96 95 3 5,
wo 97 95 96,
wn 98 95 11,
gT 99 95 (.bin .eql (.t 97) (.t 98)),
gF 100 91 (.pick (.t 95) (.t 99) (.c (.bool false))),
oP 101 (.pick (.t 91) (.c (.bool true)) (.t 100)),
mV 6 101,
oX 7 0] [6,7]
.ret))))))
abbrev SH:RsT:=[(6,none),(7,none)]
theorem SD:SpF 102 JS CJ SH:=SpI Tryz.func22 (by kernel_rfl)
theorem QP:au Tryz.prog JS = true:=by kernel_rfl
abbrev NK:FuncId:=24
abbrev zrr (n : Nat) : List Nat := List.range n
def zll : List (List Nat) := [[],[0],[0,1],zrr 3,zrr 4,zrr 5,zrr 6,zrr 7,zrr 8,zrr 9,zrr 10,zrr 11,zrr 12,zrr 13,zrr 14,zrr 15,zrr 16,zrr 17,zrr 18,zrr 19,zrr 20,zrr 21,zrr 22,zrr 23,zrr 24,zrr 25,zrr 26,zrr 27,zrr 28,zrr 29,zrr 30,zrr 31,zrr 32,zrr 33,zrr 34,zrr 35,zrr 36,zrr 37,zrr 38,zrr 39,zrr 40,zrr 41,zrr 42,zrr 43,zrr 44,zrr 45,zrr 46,zrr 47,zrr 48,zrr 49,zrr 50,zrr 51,zrr 52,zrr 53,zrr 54,zrr 55,zrr 56,zrr 57,zrr 58,zrr 58,zrr 60,zrr 61,zrr 62,zrr 63,zrr 64,zrr 65,zrr 66,zrr 67,zrr 68,zrr 69,zrr 70,zrr 70,zrr 72,zrr 73,zrr 74,zrr 75,zrr 75,zrr 77,zrr 78,zrr 79,zrr 80,zrr 80,zrr 82,zrr 83,zrr 84,zrr 85,zrr 85,zrr 87,zrr 88,zrr 89,zrr 90,zrr 90,zrr 92,zrr 93,zrr 94,zrr 95,zrr 95,zrr 97,zrr 98,zrr 99,zrr 100,zrr 100,zrr 102,zrr 103,zrr 104]
def Pk:AC:=
(qL [oP 0 (.mv (.c (.bool false)))] []
(qL [vi 29 41 vq [(.c (.bool false))],
vi 30 41 vq [(.c (.bool true))],
oP 1 (.alloc qJ),
oP 2 (.alloc qJ),
xn 5 1 29,
xn 5 2 30] [1,2]
(.frz 2 true (.frz 1 true (qL [oG 32 5 1,
oP 33 (.lit 0 1 1 [(0,cI 1)]),
vi 34 18 vn [.t 32,.t 33],
mV 31 34,
xi 35 31 0,
xi 36 31 1,
mV 3 35,
mV 4 36] [1,2,3,4]
(qL [oG 38 5 1,
oP 39 (.lit 0 1 1 [(0,cI 0)]),
vi 40 18 vn [.t 38,.t 39],
mV 37 40,
xi 41 37 0,
xi 42 37 1,
mV 5 41,
mV 6 42] [1,2,3,4,5,6]
(qL [oG 44 5 1,
oP 45 (.lit 0 1 1 [(0,cI 0)]),
vi 46 20 vn [.t 44,.t 45],
mV 43 46,
xi 47 43 0,
xi 48 43 1,
oP 7 (.alloc qx),
xn 4 7 47,
mV 8 48] [1,2,3,4,5,6,7,8]
(.frz 7 true (qL [oG 50 5 1,
oP 51 (.lit 0 1 1 [(0,cI 0)]),
oP 52 (.build qx [(0,1,cI (-1)),(2,1,cI 1),(3,1,cI 100)]),
vi 53 22 qc [.t 50,.t 51,.t 52],
mV 49 53,
xi 54 49 0,
xi 55 49 1,
mV 9 54,
mV 10 55] [1,2,3,4,5,6,7,8,9,10]
(qL [oG 57 5 1,
oP 58 (.lit 0 1 1 [(0,cI 0)]),
oP 59 (.build qx [(0,1,cI (-1)),(2,1,cI 1),(3,1,cI 99)]),
vi 60 22 qc [.t 57,.t 58,.t 59],
mV 56 60,
xi 61 56 0,
xi 62 56 1,
mV 11 61,
mV 12 62] [1,2,3,4,5,6,7,8,9,10,11,12]
(qL [oG 64 5 2,
vi 65 25 vo [.t 64],
mV 63 65,
xi 66 63 0,
xi 67 63 1,
mV 13 66,
mV 14 67] [1,2,3,4,5,6,7,8,9,10,11,12,13,14]
(qL [oG 69 5 1,
vi 70 28 vo [.t 69],
mV 68 70,
xi 71 68 0,
xi 72 68 1,
mV 15 71,
mV 16 72] [1,2,3,4,5,6,7,8,9,10,11,12,13,14,15,16]
(qL [oG 74 5 2,
vi 75 30 vo [.t 74],
mV 73 75,
xi 76 73 0,
xi 77 73 1,
mV 17 76,
mV 18 77] [1,2,3,4,5,6,7,8,9,10,11,12,13,14,15,16,17,18]
(qL [oG 79 5 2,
oP 80 (.lit 0 1 2 [(0,cI 0),(1,cI 1)]),
vi 81 32 qc [.t 79,.t 80,cI 0],
mV 78 81,
xi 82 78 0,
xi 83 78 1,
oP 19 (.alloc qE),
xn 2 19 82,
mV 20 83] [1,2,3,4,5,6,7,8,9,10,11,12,13,14,15,16,17,18,19,20]
(.frz 19 true (qL [oG 85 5 1,
oP 86 (.lit 0 1 1 [(0,cI 1)]),
vi 87 34 qc [.t 85,.t 86,cI 0],
mV 84 87,
xi 88 84 0,
xi 89 84 1,
oP 21 (.alloc qE),
xn 2 21 88,
mV 22 89] [1,2,3,4,5,6,7,8,9,10,11,12,13,14,15,16,17,18,19,20,21,22]
(.frz 21 true (qL [oG 91 5 2,
vi 92 36 vo [.t 91],
mV 90 92,
xi 93 90 0,
xi 94 90 1,
mV 23 93,
mV 24 94] [1,2,3,4,5,6,7,8,9,10,11,12,13,14,15,16,17,18,19,20,21,22,23,24]
(qL [vi 96 78 [] [],
vi 97 38 vq [.t 96],
mV 95 97,
xi 98 95 0,
xi 99 95 1,
oP 25 (.alloc qJ),
xn 5 25 98,
mV 26 99] [1,2,3,4,5,6,7,8,9,10,11,12,13,14,15,16,17,18,19,20,21,22,23,24,25,26]
(.frz 25 true (qL [oG 101 5 1,
oP 102 (.lit 0 1 1 [(0,cI 0)]),
vi 103 32 qc [.t 101,.t 102,cI 0],
mV 100 103,
xi 104 100 0,
xi 105 100 1,
oP 27 (.alloc qE),
xn 2 27 104,
mV 28 105] [2,3,4,5,6,7,8,9,10,11,12,13,14,15,16,17,18,19,20,21,22,23,24,25,26,28]
(.seq (.dreg [mV 106 4,
kw 107 106 0,
mV 108 107,
wn 109 108 6,
wu 110 108 109 0,
oP 111 (.pick (.t 108) (.t 110) (.c (.bool false))),
mV 112 111,
wn 113 112 8,
wu 114 112 113 0,
oP 115 (.pick (.t 112) (.t 114) (.c (.bool false))),
mV 116 115,
wn 117 116 10,
wu 118 116 117 0,
oP 119 (.pick (.t 116) (.t 118) (.c (.bool false))),
mV 120 119,
wn 121 120 12,
wu 122 120 121 0,
oP 123 (.pick (.t 120) (.t 122) (.c (.bool false))),
mV 124 123,
wn 125 124 14,
wu 126 124 125 0,
oP 127 (.pick (.t 124) (.t 126) (.c (.bool false))),
mV 128 127,
wn 129 128 16,
wu 130 128 129 0,
oP 131 (.pick (.t 128) (.t 130) (.c (.bool false))),
mV 132 131,
wn 133 132 18,
wu 134 132 133 0,
oP 135 (.pick (.t 132) (.t 134) (.c (.bool false))),
mV 136 135,
wn 137 136 20,
wu 138 136 137 0,
oP 139 (.pick (.t 136) (.t 138) (.c (.bool false))),
mV 140 139,
wn 141 140 22,
wu 142 140 141 0,
oP 143 (.pick (.t 140) (.t 142) (.c (.bool false))),
mV 144 143,
wn 145 144 24,
wu 146 144 145 0,
oP 147 (.pick (.t 144) (.t 146) (.c (.bool false))),
mV 148 147,
wn 149 148 26,
wu 150 148 149 0,
oP 151 (.pick (.t 148) (.t 150) (.c (.bool false))),
mV 152 151,
wn 153 152 28,
wu 154 152 153 9,
oP 155 (.pick (.t 152) (.t 154) (.c (.bool false))),
mV 156 155,
wn 157 156 3,
oP 158 (.pick (.t 156) (.t 157) (.c (.bool false))),
mV 159 158,
wn 160 159 5,
gT 161 159 (.un .not (.t 160)),
oP 162 (.pick (.t 159) (.t 161) (.c (.bool false))),
mV 163 162,
gT 164 163 (.load (some 4) (.t 7)),
gT 165 163 (.build qx [(0,1,cI (-1)),(2,1,cI 1),(3,1,cI 100)]),
gT 166 163 (.eqa false [.i, .i, .i, .i] (.t 164) (.t 165)),
oP 167 (.pick (.t 163) (.t 166) (.c (.bool false))),
mV 168 167,
wn 169 168 9,
oP 170 (.pick (.t 168) (.t 169) (.c (.bool false))),
mV 171 170,
wn 172 171 11,
gT 173 171 (.un .not (.t 172)),
oP 174 (.pick (.t 171) (.t 173) (.c (.bool false))),
mV 175 174,
wn 176 175 13,
gT 177 175 (.lit 0 1 1 [(0,cI 0)]),
gT 178 175 (.call (.f 27) vn [.t 176,.t 177]),
oP 179 (.pick (.t 175) (.t 178) (.c (.bool false))),
mV 180 179,
wn 181 180 15,
gT 182 180 (.lit 0 1 1 [(0,cI 1)]),
gT 183 180 (.call (.f 27) vn [.t 181,.t 182]),
oP 184 (.pick (.t 180) (.t 183) (.c (.bool false))),
mV 185 184,
wn 186 185 17,
gT 187 185 (.lit 0 1 2 [(0,cI 0),(1,cI 1)]),
gT 188 185 (.call (.f 27) vn [.t 186,.t 187]),
oP 189 (.pick (.t 185) (.t 188) (.c (.bool false))),
mV 190 189,
gT 191 190 (.load (some 2) (.t 19)),
gT 192 190 (.call (.f 42) vV [cI 500,cI 600]),
gT 193 190 (.eqa false [.i, .i] (.t 191) (.t 192)),
oP 194 (.pick (.t 190) (.t 193) (.c (.bool false))),
mV 195 194,
gT 196 195 (.load (some 2) (.t 21)),
gT 197 195 (.call (.f 42) vV [cI 300,cI 300]),
gT 198 195 (.eqa false [.i, .i] (.t 196) (.t 197)),
oP 199 (.pick (.t 195) (.t 198) (.c (.bool false))),
mV 200 199,
wn 201 200 23,
gT 202 200 (.call (.f 78) [] []),
gT 203 200 (.bin .eql (.t 201) (.t 202)),
oP 204 (.pick (.t 200) (.t 203) (.c (.bool false))),
mV 205 204,
gT 206 205 (.load (some 5) (.t 25)),
gT 207 205 (.load (some 5) (.t 2)),
gT 208 205 (.call (.f 40) vn [.t 206,.t 207]),
oP 209 (.pick (.t 205) (.t 208) (.c (.bool false))),
mV 0 209] [0] zll)
.ret))))))))))))))))))))))
abbrev Ts:RsT:=[(0,none)]
theorem TX:SpF 210 NK Pk Ts:=SpI Tryz.func24 (by kernel_rfl)
theorem Dq:au Tryz.prog NK = true:=by kernel_rfl
abbrev IG:FuncId:=25
def M1:AC:=
(qL [zc 1 5 0,
oP 2 (.alloc [.slice 1 []]),
oP 3 (.alloc [.int .i64 0])] [1,2,3]
(qL [oG 8 5 1,
vi 9 79 vo [.t 8],
mV 7 9,
xi 10 7 0,
xi 11 7 1,
oP 4 (.alloc qJ),
xn 5 4 10,
mV 5 11] [2,3,4,5]
(.frz 4 true (.seq (qL [mV 12 5,
wc 13 12 0] [2,3,4,5,13]
(.cond (.t 13)
(qL [mV 14 5,
oN (.store 1 (.t 2) (.c (.slice 1 []))),
xn 1 3 14] [2,3]
.ret)
.skip))
(.seq (qL [oG 15 5 4,
vi 16 80 vo [.t 15]] [2,3,4,16]
(.block 0
(.jM (.t 16) [17] (.reg [mV 6 17] [2,3,4,6])
(.block 1
(qL [oG 18 5 4,
mV 19 6,
vi 20 68 vn [.t 18,.t 19]] [2,3,6,20]
(.cond (.t 20)
(qL [mV 21 6,
xn 1 2 21,
oN (.store 1 (.t 3) (cI 0))] [2,3]
.ret)
.skip))))))
(qL [oN (.store 1 (.t 2) (.c (.slice 1 []))),
oN (.store 1 (.t 3) (cI 9))] [2,3]
.ret))))))
abbrev TP:RsT:=[(2,some none),(3,some none)]
theorem TK:SpF 22 IG M1 TP:=SpI Tryz.func25 (by kernel_rfl)
theorem Qb:au Tryz.prog IG = true:=by kernel_rfl
abbrev Mz:FuncId:=27
def Qt:AC:=
(qL [oP 4 (.mv (.c (.bool false)))] [0,1]
(qL [mV 7 0,
xZ 8 7,
mV 9 1,
xZ 10 9,
kl 11 8 10,
mV 5 11] [0,1,5]
(.seq (qL [oX 6 0] [0,1,5,6]
(.block 0
(.loop [0,1,5,6]
(.seq (qL [mV 12 6,
mV 13 0,
xZ 14 13,
zS 15 12 14,
mV 16 15,
wn 17 16 5,
oP 18 (.pick (.t 16) (.t 17) (.c (.bool false)))] [0,1,5,6,18]
(.cond (.t 18)
.skip
(.exit 0)))
(.seq (.block 1
(.dreg [mV 21 0,
mV 22 6,
xC 23 1 21 22,
ol 24 23,
mV 25 1,
mV 26 6,
xC 27 1 25 26,
ol 28 27,
kl 29 24 28,
mV 5 29] [0,1,5,6] [[],[],[0,1],[0,1,2],[],[],[4,5],[4,5,6],yb 8,yb 9]))
(.reg [mV 19 6,
zE 20 19 1,
mV 6 20] [0,1,5,6]))))))
(qL [mV 30 5,
mV 4 30] [4]
.ret))))
abbrev UY:RsT:=[(4,none)]
theorem T0:SpF 31 Mz Qt UY:=SpI Tryz.func27 (by kernel_rfl)
theorem Jb:au Tryz.prog Mz = true:=by kernel_rfl
abbrev Il:FuncId:=28
def N2:AC:=
(qL [zc 1 5 0,
oP 2 (.nilS 1 1),
oX 3 0] [1,2]
(qL [oG 7 5 1,
vi 8 79 vo [.t 7],
mV 6 8,
xi 9 6 0,
xi 10 6 1,
oP 4 (.alloc qJ),
xn 5 4 9,
mV 3 10] [2,3,4]
(.frz 4 true (.seq (qL [mV 11 3,
wc 12 11 0] [2,3,4,12]
(.cond (.t 12)
(qL [mV 13 3,
oP 2 (.mv (.c (.slice 1 []))),
mV 3 13] [2,3]
.ret)
.skip))
(.seq (qL [oV 14 5 0 4,
oQ 15 3 14,
ol 16 15,
xZ 17 16,
oX 18 0] [2,4,17,18]
(.block 0
(.loop [2,4,17,18]
(qL [zS 19 18 17] [2,4,17,18,19]
(.seq (.cond (.t 19)
.skip
(.exit 0))
(.seq (.block 1
(qL [mV 20 18,
mV 5 20] [2,4,5,17,18]
(.seq (.qreg [oG 21 5 4,
oG 22 5 4,
mV 23 5,
vi 24 83 vy [.t 22,.t 23],
vi 25 68 vn [.t 21,.t 24],
zu 26 25] [2,4,5,17,18,26] [[],[],[],[1,2],yb 4,yb 5] [([0,1,2],3),([],4)] [5])
(.cond (.t 26)
(.reg [mV 27 2,
mV 28 5,
oP 29 (.lit 0 1 1 [(0,.t 28)]),
oP 30 (.append 1 8 (.t 27) (.t 29)),
mV 2 30] [2,4,17,18])
.skip))))
(.reg [zE 31 18 1,
mV 18 31] [2,4,17,18])))))))
(qL [mV 32 2,
oP 2 (.mvd (.t 32)),
oX 3 0] [2,3]
.ret))))))
abbrev Tq:RsT:=[(2,none),(3,none)]
theorem TH:SpF 33 Il N2 Tq:=SpI Tryz.func28 (by kernel_rfl)
theorem Qq:au Tryz.prog Il = true:=by kernel_rfl
abbrev Ji:FuncId:=30
def Ni:AC:=
(qL [zc 1 5 0,
oP 2 (.mv (.c (.slice 1 []))),
oX 3 0] [1]
(qL [oG 8 5 1,
vi 9 79 vo [.t 8],
mV 7 9,
xi 10 7 0,
xi 11 7 1,
oP 4 (.alloc qJ),
xn 5 4 10,
mV 5 11] [4,5]
(.frz 4 true (.seq (qL [mV 12 5,
wc 13 12 0] [4,5,13]
(.cond (.t 13)
(qL [mV 14 5,
oP 2 (.mv (.c (.slice 1 []))),
mV 3 14] [2,3]
.ret)
.skip))
(qL [oG 15 5 4,
vi 16 85 vo [.t 15],
vi 17 84 vo [.t 16],
mV 6 17] [6]
(qL [mV 18 6,
vi 19 86 vo [.t 18]] [6]
(qL [mV 20 6,
vi 21 87 vo [.t 20],
oP 2 (.freeze 1 (.t 21)),
oX 3 0] [2,3]
.ret)))))))
abbrev Sq:RsT:=[(2,none),(3,none)]
theorem SM:SpF 22 Ji Ni Sq:=SpI Tryz.func30 (by kernel_rfl)
theorem O6:au Tryz.prog Ji = true:=by kernel_rfl
abbrev C7:FuncId:=32
def On:AC:=
(qL [zc 3 5 0,
zc 5 1 2,
oP 6 (.alloc qE),
oX 7 0] [1,3,5,6]
(qL [oG 11 5 3,
mV 12 1,
oP 13 (.mkfunc (.func 89) [] [.t 5]),
vi 14 88 qc [.t 11,.t 12,.t 13],
mV 10 14,
xi 15 10 0,
xi 16 10 1,
mV 8 15,
mV 9 16] [5,6,8,9]
(.seq (qL [mV 17 9,
wc 18 17 0] [5,6,8,9,18]
(.cond (.t 18)
(qL [oP 19 (.build qE []),
mV 20 9,
xn 2 6 19,
mV 7 20] [6,7]
.ret)
.skip))
(.seq (.qreg [mV 21 8,
mV 22 8,
zr 23 22,
oQ 24 2 23,
ol 25 24,
ol 26 5,
xC 27 1 25 26,
ol 28 27,
vi 29 90 vV [.t 21,.t 28],
xn 2 6 29,
oX 7 0] [6,7] [[],[],[1],[1,2],[1,2,3],[],[1,2,3,4,5],[1,2,3,4,5,6],yb 8,yb 9,yb 10] [([0,1,2,3,4,5,6,7],8),([],9)] [10])
.ret))))
abbrev UX:RsT:=[(6,some (some 2)),(7,none)]
theorem SL:SpF 30 C7 On UX:=SpI Tryz.func32 (by kernel_rfl)
theorem J0:au Tryz.prog C7 = true:=by kernel_rfl
abbrev IB:FuncId:=33
def MA:AC:=
(qL [zc 3 5 0,
oP 6 (.alloc qE),
oX 7 0] [1,2,3,6]
(.seq (.dreg [oG 17 5 3,
mV 18 1,
mV 19 2,
oQ 20 3 3,
ol 21 20,
xZ 22 21,
zR 23 22 1,
vi 24 63 [false,false,false] [.t 19,cI 0,.t 23],
vi 25 91 qc [.t 17,.t 18,.t 24],
mV 8 25] [1,2,3,6,8] [[],[],[],[],[3],[3,4],[3,4,5],[2,3,4,5,6],yb 8,yb 9])
(.seq (qL [mV 26 8,
wc 27 26 0] [1,2,3,6,8,27]
(.cond (.t 27)
(qL [oP 28 (.build qE []),
mV 29 8,
xn 2 6 28,
mV 7 29] [6,7]
.ret)
.skip))
(.seq (.dreg [oG 30 5 3,
mV 31 1,
vi 32 77 vn [.t 30,.t 31],
oQ 33 3 3,
ol 34 33,
mV 35 2,
xC 36 5 34 35,
oQ 37 0 36,
ol 38 37,
mV 9 32,
mV 10 38] [2,3,6,9,10] [[],[],[0,1],[],[3],[],[3,4,5],[3,4,5,6],[3,4,5,6,7],[0,1,2],yb 10])
(qL [mV 39 9,
mV 40 2,
xC 41 2 39 40,
oG 42 2 41,
oP 11 (.alloc qE),
xn 2 11 42] [2,3,6,9,10,11]
(.frz 11 true (.seq (.dreg [oQ 43 0 11,
ol 44 43,
oQ 45 1 11,
ol 46 45,
mV 12 44,
mV 13 46] [2,3,6,9,10,11,12,13] [[],[0],[],[2],[0,1],yb 5])
(.seq (.block 0
(.loop [2,3,6,9,10,11,12,13]
(.seq (qL [mV 47 12,
mV 48 13,
zS 49 47 48] [2,3,6,9,10,11,12,13,49]
(.cond (.t 49)
.skip
(.exit 0)))
(.block 1
(qL [mV 50 12,
mV 51 13,
zz 52 50 51,
oP 53 (.bin .quo (.t 52) (cI 2)),
mV 14 53] [2,3,6,9,10,11,12,13,14]
(.seq (.dreg [oG 54 5 3,
oG 55 5 3,
mV 56 9,
mV 57 2,
oQ 58 0 11,
ol 59 58,
mV 60 14,
oP 61 (.build qE [(0,1,.t 59),(1,1,.t 60)]),
vi 62 93 [true,true,false,false] [.t 55,.t 56,.t 57,.t 61],
mV 63 10,
vi 64 92 qc [.t 54,.t 62,.t 63]] [2,3,6,9,10,11,12,13,14,64] [[],[],[],[],[],[4],[],[4,5,6],[1,2,3,4,5,6,7],[],yb 10])
(.cond (.t 64)
(.reg [mV 65 14,
mV 13 65] [2,3,6,9,10,11,12,13])
(.reg [mV 66 14,
zE 67 66 1,
mV 12 67] [2,3,6,9,10,11,12,13]))))))))
(qL [mV 68 12,
mV 15 68] [2,3,6,9,10,11,15]
(.seq (.dreg [mV 69 15,
oQ 70 1 11,
ol 71 70,
mV 12 69,
mV 13 71] [2,3,6,9,10,11,12,13,15] [[],[],[1],[0],yb 4])
(.seq (.block 2
(.loop [2,3,6,9,10,11,12,13,15]
(.seq (qL [mV 72 12,
mV 73 13,
zS 74 72 73] [2,3,6,9,10,11,12,13,15,74]
(.cond (.t 74)
.skip
(.exit 2)))
(.block 3
(qL [mV 75 12,
mV 76 13,
zz 77 75 76,
zE 78 77 1,
oP 79 (.bin .quo (.t 78) (cI 2)),
mV 16 79] [2,3,6,9,10,11,12,13,15,16]
(.seq (.dreg [oG 80 5 3,
oG 81 5 3,
mV 82 9,
mV 83 2,
mV 84 16,
oQ 85 1 11,
ol 86 85,
oP 87 (.build qE [(0,1,.t 84),(1,1,.t 86)]),
vi 88 93 [true,true,false,false] [.t 81,.t 82,.t 83,.t 87],
mV 89 10,
vi 90 92 qc [.t 80,.t 88,.t 89]] [2,3,6,9,10,11,12,13,15,16,90] [[],[],[],[],[],[],[5],[4,5,6],[1,2,3,4,5,6,7],[],yb 10])
(.cond (.t 90)
(.reg [mV 91 16,
mV 12 91] [2,3,6,9,10,11,12,13,15])
(.reg [mV 92 16,
zR 93 92 1,
mV 13 93] [2,3,6,9,10,11,12,13,15]))))))))
(qL [mV 94 15,
mV 95 12,
oP 96 (.build qE [(0,1,.t 94),(1,1,.t 95)]),
xn 2 6 96,
oX 7 0] [6,7]
.ret))))))))))))
abbrev Uv:RsT:=[(6,some (some 2)),(7,none)]
theorem RC:SpF 97 IB MA Uv:=SpI Tryz.func33 (by kernel_rfl)
theorem TB:au Tryz.prog IB = true:=by kernel_rfl
abbrev CX:FuncId:=34
def Qo:AC:=
(qL [zc 3 5 0,
zc 5 1 2,
oP 6 (.alloc qE),
oX 7 0] [1,3,5,6]
(qL [oG 11 5 3,
mV 12 1,
oP 13 (.mkfunc (.func 94) [] [.t 5]),
vi 14 88 qc [.t 11,.t 12,.t 13],
mV 10 14,
xi 15 10 0,
xi 16 10 1,
mV 8 15,
mV 9 16] [6,8,9]
(.seq (qL [mV 17 9,
wc 18 17 0] [6,8,9,18]
(.cond (.t 18)
(qL [oP 19 (.build qE []),
mV 20 9,
xn 2 6 19,
mV 7 20] [6,7]
.ret)
.skip))
(qL [mV 21 8,
mV 22 8,
zr 23 22,
oQ 24 3 23,
ol 25 24,
vi 26 90 vV [.t 21,.t 25],
xn 2 6 26,
oX 7 0] [6,7]
.ret))))
abbrev TU:RsT:=[(6,some (some 2)),(7,none)]
theorem Uk:SpF 27 CX Qo TU:=SpI Tryz.func34 (by kernel_rfl)
theorem He:au Tryz.prog CX = true:=by kernel_rfl
abbrev Hc:FuncId:=35
def NS:AC:=
(qL [zc 3 5 0,
oP 6 (.alloc qE),
oX 7 0] [1,2,3,6]
(.seq (.dreg [oG 16 5 3,
mV 17 1,
mV 18 2,
oQ 19 0 3,
ol 20 19,
xZ 21 20,
zR 22 21 1,
vi 23 63 [false,false,false] [.t 18,cI 0,.t 22],
vi 24 91 qc [.t 16,.t 17,.t 23],
mV 8 24] [1,2,3,6,8] [[],[],[],[],[3],[3,4],[3,4,5],[2,3,4,5,6],yb 8,yb 9])
(.seq (qL [mV 25 8,
wc 26 25 0] [1,2,3,6,8,26]
(.cond (.t 26)
(qL [oP 27 (.build qE []),
mV 28 8,
xn 2 6 27,
mV 7 28] [6,7]
.ret)
.skip))
(qL [oG 29 5 3,
mV 30 1,
vi 31 77 vn [.t 29,.t 30],
mV 9 31] [2,3,6,9]
(qL [oX 10 10000000] [2,3,6,9,10]
(qL [mV 32 10,
oP 33 (.bin .mul (cI 2) (.t 32)),
oX 11 0,
mV 12 33] [2,3,6,9,10,11,12]
(.seq (.block 0
(.loop [2,3,6,9,10,11,12]
(.seq (qL [mV 34 11,
mV 35 12,
zS 36 34 35] [2,3,6,9,10,11,12,36]
(.cond (.t 36)
.skip
(.exit 0)))
(.block 1
(qL [mV 37 11,
mV 38 12,
zz 39 37 38,
oP 40 (.bin .quo (.t 39) (cI 2)),
mV 13 40] [2,3,6,9,10,11,12,13]
(qL [oG 41 5 3,
mV 42 9,
mV 43 2,
mV 44 10,
oP 45 (.un .neg (.t 44)),
mV 46 13,
mV 47 10,
zI 48 46 47,
vi 49 95 [true,true,false,false,false] [.t 41,.t 42,.t 43,.t 45,.t 48]] [2,3,6,9,10,11,12,13,49]
(.cond (.t 49)
(.reg [mV 50 13,
mV 12 50] [2,3,6,9,10,11,12])
(.reg [mV 51 13,
zE 52 51 1,
mV 11 52] [2,3,6,9,10,11,12]))))))))
(qL [mV 53 11,
mV 14 53] [2,3,6,9,10,11,14]
(qL [mV 54 10,
oP 55 (.bin .mul (cI 2) (.t 54)),
mV 12 55] [2,3,6,9,10,11,12,14]
(.seq (.block 2
(.loop [2,3,6,9,10,11,12,14]
(.seq (qL [mV 56 11,
mV 57 12,
zS 58 56 57] [2,3,6,9,10,11,12,14,58]
(.cond (.t 58)
.skip
(.exit 2)))
(.block 3
(qL [mV 59 11,
mV 60 12,
zz 61 59 60,
zE 62 61 1,
oP 63 (.bin .quo (.t 62) (cI 2)),
mV 15 63] [2,3,6,9,10,11,12,14,15]
(qL [oG 64 5 3,
mV 65 9,
mV 66 2,
mV 67 15,
mV 68 10,
zI 69 67 68,
mV 70 10,
vi 71 95 [true,true,false,false,false] [.t 64,.t 65,.t 66,.t 69,.t 70]] [2,3,6,9,10,11,12,14,15,71]
(.cond (.t 71)
(.reg [mV 72 15,
mV 11 72] [2,3,6,9,10,11,12,14])
(.reg [mV 73 15,
zR 74 73 1,
mV 12 74] [2,3,6,9,10,11,12,14]))))))))
(qL [mV 75 14,
mV 76 10,
zI 77 75 76,
mV 78 11,
mV 79 10,
zI 80 78 79,
oP 81 (.build qE [(0,1,.t 77),(1,1,.t 80)]),
xn 2 6 81,
oX 7 0] [6,7]
.ret)))))))))))
abbrev Uo:RsT:=[(6,some (some 2)),(7,none)]
theorem Qa:SpF 82 Hc NS Uo:=SpI Tryz.func35 (by kernel_rfl)
theorem Ug:au Tryz.prog Hc = true:=by kernel_rfl
abbrev J2:FuncId:=36
def Nl:AC:=
(qL [zc 1 5 0,
⟨some 2,none, .mv (.c (.str ⟨#[]⟩))⟩,
oX 3 0] [1]
(.seq (qL [oG 8 5 1,
vi 9 16 vo [.t 8],
mV 7 9,
xi 10 7 0,
xi 11 7 1,
xi 12 7 2,
mV 4 10,
mV 5 11,
mV 6 12] [1,6]
(qL [mV 13 6,
wc 14 13 0] [1,6,14]
(.cond (.t 14)
(qL [mV 15 6,
⟨some 2,none, .mv (.c (.str ⟨#[]⟩))⟩,
mV 3 15] [2,3]
.ret)
.skip)))
(qL [oG 16 5 1,
oP 17 (.build qJ [(0,5,.t 16)]),
vi 18 96 vo [.t 17],
mV 2 18,
oX 3 0] [2,3]
.ret)))
abbrev SF:RsT:=[(2,none),(3,none)]
theorem T6:SpF 19 J2 Nl SF:=SpI Tryz.func36 (by kernel_rfl)
theorem Rf:au Tryz.prog J2 = true:=by kernel_rfl
abbrev KE:FuncId:=38
def JY:AC:=
(qL [oP 2 (.alloc qJ),
oP 3 (.alloc [.int .i64 0])] [0,2,3]
(.seq (qL [mV 12 0,
oP 13 (.lenStr (.t 12)),
wm 14 13 4000] [0,2,3,14]
(.cond (.t 14)
(qL [oP 15 (.loadd (some 5) (.t 2)),
xn 5 2 15,
oN (.store 1 (.t 3) (cI 3))] [2,3]
.ret)
.skip))
(.seq (.dfr 16 98 [.t 2,.t 3] [0,2,3])
(qL [oP 4 (.alloc [.slice 1 [], .slice 1 [], .mint 4, .mint 5, .mint 4])] [0,2,3,4]
(.seq (qL [mV 17 0,
mV 5 17] [0,2,3,4,5]
(.block 0
(.loop [0,2,3,4,5]
(.seq (qL [mV 18 5,
⟨some 19,none, .bin .neq (.t 18) (.c (.str ⟨#[]⟩))⟩] [0,2,3,4,5,19]
(.cond (.t 19)
.skip
(.exit 0)))
(.block 1
(qL [mV 21 5,
⟨some 22,none, .call (.f 99) vV [.t 21,(.c (.str ⟨#[10]⟩))]⟩,
mV 20 22,
xi 23 20 0,
xi 24 20 1,
xi 25 20 2,
mV 6 23,
mV 7 24,
mV 8 25] [0,2,3,4,6,7,8]
(qL [mV 26 8,
vi 27 100 vq [.t 26]] [0,2,3,4,6,7]
(qL [mV 28 6,
⟨some 29,none, .call (.f 102) vV [.t 28,(.c (.str ⟨#[32]⟩))]⟩,
vi 30 101 vn [.t 4,.t 29]] [0,2,3,4,7]
(.reg [mV 31 7,
mV 5 31] [0,2,3,4,5])))))))))
(qL [oV 33 5 0 4,
oG 34 5 33,
vi 35 16 vo [.t 34],
mV 32 35,
xi 36 32 0,
xi 37 32 1,
xi 38 32 2,
mV 9 36,
mV 10 37,
mV 11 38] [0,2,3,4,11]
(qL [mV 39 11,
kw 40 39 0,
mV 41 40,
gT 42 41 (.load (some 5) (.t 4)),
gT 43 41 (.call (.f 96) vo [.t 42]),
wn 44 41 0,
gT 45 41 (.bin .eql (.t 43) (.t 44)),
oP 46 (.pick (.t 41) (.t 45) (.c (.bool false))),
vi 47 100 vq [.t 46]] [2,3,4]
(qL [oV 48 5 0 4,
oP 49 (.loadd (some 5) (.t 48)),
xn 5 2 49,
oN (.store 1 (.t 3) (cI 0))] [2,3]
.ret))))))))
abbrev RS:RsT:=[(2,some (some 5)),(3,some none)]
theorem SS:x9 Tryz.prog Tryz.f38 50 JY RS = true:=by kernel_rfl
theorem UN {args:List ag} {σ:af} {R:fq → af → Prop} (ha:args.length ≤ 50) (h:AW Tryz.prog 50 none JY (Aj Tryz.prog RS R) { v:=fE args 0,ds:=[] } σ):Spec Tryz.prog KE args σ R:=Spec.Nk Tryz.func38 SS ha h
theorem OY:au Tryz.prog KE = true:=by kernel_rfl
abbrev Nu:FuncId:=40
def Ol:AC:=
(qL [zc 2 5 0,
zc 3 5 1,
oP 4 (.mv (.c (.bool false)))] [2,3]
(qL [oQ 7 0 2,
ol 8 7,
oQ 9 0 3,
ol 10 9,
vi 11 106 vn [.t 8,.t 10],
mV 12 11,
wt 13 12 1 2,
wo 14 12 13,
wt 15 12 1 3,
wo 16 12 15,
gT 17 12 (.call (.f 106) vn [.t 14,.t 16]),
oP 18 (.pick (.t 12) (.t 17) (.c (.bool false))),
mV 19 18,
wt 20 19 2 2,
wo 21 19 20,
wt 22 19 2 3,
wo 23 19 22,
gT 24 19 (.call (.f 107) vn [.t 21,.t 23]),
oP 25 (.pick (.t 19) (.t 24) (.c (.bool false))),
mV 26 25,
wt 27 26 4 2,
wo 28 26 27,
wt 29 26 4 3,
wo 30 26 29,
gT 31 26 (.call (.f 107) vn [.t 28,.t 30]),
oP 32 (.pick (.t 26) (.t 31) (.c (.bool false))),
mV 33 32,
wt 34 33 3 2,
wo 35 33 34,
gT 36 33 (.len (.t 35)),
wt 37 33 3 3,
wo 38 33 37,
gT 39 33 (.len (.t 38)),
gT 40 33 (.bin .eql (.t 36) (.t 39)),
oP 41 (.pick (.t 33) (.t 40) (.c (.bool false))),
mV 5 41] [2,3,5]
(.seq (qL [oX 6 0] [2,3,5,6]
(.block 0
(.loop [2,3,5,6]
(.seq (qL [mV 42 6,
oQ 43 3 2,
ol 44 43,
xZ 45 44,
zS 46 42 45,
mV 47 46,
wn 48 47 5,
oP 49 (.pick (.t 47) (.t 48) (.c (.bool false)))] [2,3,5,6,49]
(.cond (.t 49)
.skip
(.exit 0)))
(.seq (.block 1
(.dreg [oQ 52 3 2,
ol 53 52,
mV 54 6,
xC 55 5 53 54,
oG 56 5 55,
oQ 57 3 3,
ol 58 57,
mV 59 6,
xC 60 5 58 59,
oG 61 5 60,
oP 62 (.eqa false [.i, .i, .i, .i, .i] (.t 56) (.t 61)),
mV 5 62] [2,3,5,6] [[],[0],[],[0,1,2],yb 4,[],[5],[],[5,6,7],[5,6,7,8],yb 10,yb 11]))
(.reg [mV 50 6,
zE 51 50 1,
mV 6 51] [2,3,5,6]))))))
(qL [mV 63 5,
mV 4 63] [4]
.ret))))
abbrev SV:RsT:=[(4,none)]
theorem UM:SpF 64 Nu Ol SV:=SpI Tryz.func40 (by kernel_rfl)
theorem Oy:au Tryz.prog Nu = true:=by kernel_rfl
abbrev JI:FuncId:=41
def OP:AC:=
(qL [oP 2 (.alloc qJ)] [0,2]
(qL [⟨some 4,none, .lit 0 1 2 [(0,(.c (.str ⟨#[111,105,108]⟩))),(1,(.c (.str ⟨#[112,97,105,110,116]⟩)))]⟩,
⟨some 5,none, .lit 0 1 2 [(0,(.c (.str ⟨#[121,97,114,100]⟩))),(1,(.c (.str ⟨#[112,105,116]⟩)))]⟩,
vi 6 42 vV [cI 1000,cI 1000],
oP 7 (.build qx [(2,2,.t 6)]),
oP 8 (.lit 0 4 1 [(0,.t 7)]),
oP 9 (.build qr [(2,1,cI 1),(3,1,cI 600),(4,1,cI 1)]),
oP 10 (.build qr [(2,1,cI 1),(3,1,cI 500)]),
oP 11 (.build qr [(2,1,cI (-1)),(3,1,cI 300),(4,1,cI (-1))]),
oP 12 (.lit 0 5 3 [(0,.t 9),(1,.t 10),(2,.t 11)]),
vi 13 42 vV [cI 100,cI 100],
oP 14 (.build qx [(2,2,.t 13)]),
vi 15 42 vV [cI 600,cI 600],
oP 16 (.build qx [(1,1,cI 1),(2,2,.t 15)]),
oP 17 (.lit 0 4 2 [(0,.t 14),(1,.t 16)]),
oP 18 (.build qJ [(0,1,.t 4),(1,1,.t 5),(2,1,.t 8),(3,1,.t 12),(4,1,.t 17)]),
oP 3 (.alloc qJ),
xn 5 3 18] [0,2,3]
(.seq (qL [mV 19 0] [2,3,19]
(.cond (.t 19)
(.reg [vi 20 42 vV [cI 100,cI 200],
oP 21 (.build qx [(2,2,.t 20)]),
oP 22 (.lit 0 4 1 [(0,.t 21)]),
oQ 23 4 3,
xn 1 23 22] [2,3])
.skip))
(qL [oP 24 (.loadd (some 5) (.t 3)),
xn 5 2 24] [2]
.ret))))
abbrev MG:RsT:=[(2,some (some 5))]
theorem TT:SpF 25 JI OP MG:=SpI Tryz.func41 (by kernel_rfl)
theorem HQ:au Tryz.prog JI = true:=by kernel_rfl
abbrev MY:FuncId:=42
def Oi:AC:=
(qL [oP 4 (.alloc qE)] [0,1,4]
(qL [mV 5 0,
mV 6 1,
oP 7 (.build qE [(0,1,.t 5),(1,1,.t 6)]),
xn 2 4 7] [4]
.ret))
abbrev UO:RsT:=[(4,some (some 2))]
theorem Us:SpF 8 MY Oi UO:=SpI Tryz.func42 (by kernel_rfl)
theorem p8:au Tryz.prog MY = true:=by kernel_rfl
abbrev Nt:FuncId:=45
def Qe:AC:=
(qL [oP 4 (.mv (.c (.bool false)))] [0,1]
(.seq (qL [oX 5 0] [0,1,5]
(.block 0
(.loop [0,1,5]
(.seq (qL [mV 6 5,
mV 7 0,
xZ 8 7,
zS 9 6 8] [0,1,5,9]
(.cond (.t 9)
.skip
(.exit 0)))
(.seq (.block 1
(qL [mV 12 0,
mV 13 5,
xC 14 1 12 13,
ol 15 14,
mV 16 1,
kl 17 15 16] [0,1,5,17]
(.cond (.t 17)
(qL [oP 4 (.mv (.c (.bool true)))] [4]
.ret)
.skip)))
(.reg [mV 10 5,
zE 11 10 1,
mV 5 11] [0,1,5]))))))
(qL [oP 4 (.mv (.c (.bool false)))] [4]
.ret)))
abbrev TS:RsT:=[(4,none)]
theorem Ue:SpF 18 Nt Qe TS:=SpI Tryz.func45 (by kernel_rfl)
theorem BL:au Tryz.prog Nt = true:=by kernel_rfl
abbrev Nh:FuncId:=46
def MQ:AC:=
(qL [zc 2 5 0,
oP 4 (.mv (.c (.bool false)))] [1,2]
(qL [oQ 5 3 2,
ol 6 5,
mV 7 1,
xC 8 5 6 7,
oQ 9 4 8,
ol 10 9,
kw 11 10 (-1),
mV 12 11,
wJ 13 12 3 2,
wI 14 12 13,
wy 15 12 1,
va 16 12 5 14 15,
wJ 17 12 4 16,
wI 18 12 17,
wy 19 12 1,
gF 20 12 (.bin .gtr (.t 18) (.t 19)),
oP 21 (.pick (.t 12) (.c (.bool true)) (.t 20)),
mV 4 21] [4]
.ret))
abbrev UB:RsT:=[(4,none)]
theorem Sn:SpF 22 Nh MQ UB:=SpI Tryz.func46 (by kernel_rfl)
theorem Gt:au Tryz.prog Nh = true:=by kernel_rfl
abbrev M9:FuncId:=50
def O1:AC:=
(qL [zc 2 5 0,
oX 4 0] [1,2]
(qL [oG 10 5 2,
vi 11 17 vo [.t 10],
mV 9 11,
xi 12 9 0,
xi 13 9 1,
xi 14 9 2,
mV 5 12,
mV 6 13,
mV 7 14] [1,2,7]
(.seq (qL [oX 8 0] [1,2,7,8]
(.block 0
(.loop [1,2,7,8]
(.seq (qL [mV 15 8,
mV 16 1,
xZ 17 16,
zS 18 15 17,
mV 19 18,
wn 20 19 7,
wu 21 19 20 0,
oP 22 (.pick (.t 19) (.t 21) (.c (.bool false)))] [1,2,7,8,22]
(.cond (.t 22)
.skip
(.exit 0)))
(.seq (.block 1
(.seq (.dreg [mV 25 1,
mV 26 8,
xC 27 1 25 26,
ol 28 27,
oQ 29 3 2,
ol 30 29,
xZ 31 30,
zR 32 31 1,
vi 33 63 [false,false,false] [.t 28,cI 0,.t 32],
zu 34 33] [1,2,7,8,34] [[],[],[0,1],[0,1,2],[],[4],[4,5],[4,5,6],yb 8,yb 9])
(.cond (.t 34)
(.reg [oX 7 4] [1,2,7,8])
(.seq (.dreg [mV 35 8,
wm 36 35 0,
mV 37 36,
wn 38 37 1,
wn 39 37 8,
ww 40 37 1 38 39,
wo 41 37 40,
wn 42 37 1,
wn 43 37 8,
gT 44 37 (.bin .sub (.t 43) (cI 1)),
ww 45 37 1 42 44,
wo 46 37 45,
gT 47 37 (.bin .leq (.t 41) (.t 46)),
oP 48 (.pick (.t 37) (.t 47) (.c (.bool false)))] [1,2,7,8,48] [[],[0],[0,1],[0,1,2],[0,1,2],yb 5,yb 6,[0,1,2],[0,1,2],[0,1,2,8],[0,1,2,7,8,9],[0,1,2,7,8,9,10],yb 12,yb 13])
(.cond (.t 48)
(.reg [oX 7 2] [1,2,7,8])
.skip)))))
(.reg [mV 23 8,
zE 24 23 1,
mV 8 24] [1,2,7,8]))))))
(qL [mV 49 7,
mV 4 49] [4]
.ret))))
abbrev T3:RsT:=[(4,none)]
theorem SA:SpF 50 M9 O1 T3:=SpI Tryz.func50 (by kernel_rfl)
theorem Ja:au Tryz.prog M9 = true:=by kernel_rfl
abbrev MB:FuncId:=52
def Rx:AC:=
(qL [oP 2 (.mv (.c (.bool false)))] [0]
(.seq (qL [mV 6 0,
oP 7 (.lenStr (.t 6)),
vi 8 109 [false,false,false] [.t 7,cI 1,cI 16],
zu 9 8,
mV 10 9,
wy 11 10 0,
gF 12 10 (.ixStr (.t 11) (cI 0)),
gF 13 10 (.bin .lss (.t 12) (.c (.int .u8 97))),
oP 14 (.pick (.t 10) (.c (.bool true)) (.t 13)),
mV 15 14,
wy 16 15 0,
gF 17 15 (.ixStr (.t 16) (cI 0)),
gF 18 15 (.bin .gtr (.t 17) (.c (.int .u8 122))),
oP 19 (.pick (.t 15) (.c (.bool true)) (.t 18))] [0,19]
(.cond (.t 19)
(qL [oP 2 (.mv (.c (.bool false)))] [2]
.ret)
.skip))
(.seq (qL [oX 3 1] [0,3]
(.block 0
(.loop [0,3]
(.seq (qL [mV 20 3,
mV 21 0,
oP 22 (.lenStr (.t 21)),
zS 23 20 22] [0,3,23]
(.cond (.t 23)
.skip
(.exit 0)))
(.seq (.block 1
(.seq (.dreg [mV 26 0,
mV 27 3,
oP 28 (.ixStr (.t 26) (.t 27)),
oP 29 (.bin .geq (.t 28) (.c (.int .u8 97))),
mV 30 29,
wn 31 30 0,
wn 32 30 3,
gT 33 30 (.ixStr (.t 31) (.t 32)),
gT 34 30 (.bin .leq (.t 33) (.c (.int .u8 122))),
oP 35 (.pick (.t 30) (.t 34) (.c (.bool false))),
mV 36 0,
mV 37 3,
oP 38 (.ixStr (.t 36) (.t 37)),
oP 39 (.bin .geq (.t 38) (.c (.int .u8 48))),
mV 40 39,
wn 41 40 0,
wn 42 40 3,
gT 43 40 (.ixStr (.t 41) (.t 42)),
gT 44 40 (.bin .leq (.t 43) (.c (.int .u8 57))),
oP 45 (.pick (.t 40) (.t 44) (.c (.bool false))),
mV 4 35,
mV 5 45] [0,3,4,5] [[],[],[0,1],[0,1,2],yb 4,yb 5,yb 5,yb 7,yb 8,yb 9,[],[],[10,11],[10,11,12],[0,1,2,3,4,10,11,12,13],[0,1,2,3,4,10,11,12,13,14],[0,1,2,3,4,10,11,12,13,14],[0,1,2,3,4,10,11,12,13,14,15,16],[0,1,2,3,4,10,11,12,13,14,15,16,17],[0,1,2,3,4,10,11,12,13,14,15,16,17,18],yb 15,yb 21])
(qL [mV 46 4,
zu 47 46,
mV 48 47,
wn 49 48 5,
gT 50 48 (.un .not (.t 49)),
oP 51 (.pick (.t 48) (.t 50) (.c (.bool false)))] [0,3,51]
(.cond (.t 51)
(qL [oP 2 (.mv (.c (.bool false)))] [2]
.ret)
.skip))))
(.reg [mV 24 3,
zE 25 24 1,
mV 3 25] [0,3]))))))
(qL [oP 2 (.mv (.c (.bool true)))] [2]
.ret))))
abbrev TE:RsT:=[(2,none)]
theorem UZ:SpF 52 MB Rx TE:=SpI Tryz.func52 (by kernel_rfl)
theorem Na:au Tryz.prog MB = true:=by kernel_rfl
abbrev Hf:FuncId:=53
def Qi:AC:=
(qL [zc 3 1 0,
zc 4 1 1,
oP 6 (.mv (.c (.bool false)))] [2,3,4]
(qL [mV 7 2,
oP 8 (.mkfunc (.func 111) [] [.t 3,.t 4]),
vi 9 110 vy [.t 7,.t 8],
mV 6 9] [6]
.ret))
abbrev Uu:RsT:=[(6,none)]
theorem SX:SpF 10 Hf Qi Uu:=SpI Tryz.func53 (by kernel_rfl)
theorem cm:au Tryz.prog Hf = true:=by kernel_rfl
abbrev KT:FuncId:=54
def RE:AC:=
(qL [oX 1 0,
oX 2 0] [0]
(qL [oV 3 5 0 0,
oQ 4 0 3,
ol 5 4,
vi 6 55 vo [.t 5],
xi 7 6 0,
xi 8 6 1,
mV 1 7,
mV 2 8] [1,2]
.ret))
abbrev Ti:RsT:=[(1,none),(2,none)]
theorem Sj:SpF 9 KT RE Ti:=SpI Tryz.func54 (by kernel_rfl)
theorem QO:au Tryz.prog KT = true:=by kernel_rfl
abbrev NR:FuncId:=55
def Q5:AC:=
(qL [zc 1 1 0,
oX 2 0,
oX 3 0] [1]
(qL [ol 4 1,
oP 5 (.mkfunc (.func 113) [] [.t 1]),
vi 6 112 vy [.t 4,.t 5],
xi 7 6 0,
xi 8 6 1,
mV 2 7,
mV 3 8] [2,3]
.ret))
abbrev Ul:RsT:=[(2,none),(3,none)]
theorem T1:SpF 9 NR Q5 Ul:=SpI Tryz.func55 (by kernel_rfl)
theorem Qz:au Tryz.prog NR = true:=by kernel_rfl
abbrev Ka:FuncId:=56
def Rm:AC:=
(qL [oX 1 0,
oX 2 0] [0]
(qL [oV 3 5 0 0,
oQ 4 1 3,
ol 5 4,
vi 6 55 vo [.t 5],
xi 7 6 0,
xi 8 6 1,
mV 1 7,
mV 2 8] [1,2]
.ret))
abbrev SY:RsT:=[(1,none),(2,none)]
theorem Sy:SpF 9 Ka Rm SY:=SpI Tryz.func56 (by kernel_rfl)
theorem O4:au Tryz.prog Ka = true:=by kernel_rfl
abbrev Kh:FuncId:=57
def Qx:AC:=
(qL [oX 1 0,
oX 2 0] [0]
(qL [oG 3 5 0,
oV 4 5 0 0,
oQ 5 2 4,
ol 6 5,
vi 7 58 vn [.t 3,.t 6],
xi 8 7 0,
xi 9 7 1,
mV 1 8,
mV 2 9] [1,2]
.ret))
abbrev UP:RsT:=[(1,none),(2,none)]
theorem Tr:SpF 10 Kh Qx UP:=SpI Tryz.func57 (by kernel_rfl)
theorem OW:au Tryz.prog Kh = true:=by kernel_rfl
abbrev Nw:FuncId:=58
def QT:AC:=
(qL [zc 2 5 0,
oX 4 0,
oX 5 0] [1,2]
(qL [oP 7 (.mnew),
oP 6 (.alloc [.nilmap]),
xn 1 6 7] [1,2,6]
(.frz 6 false (qL [mV 8 1,
oP 9 (.mkfunc (.func 117) [] [.t 6,.t 2]),
vi 10 116 vy [.t 8,.t 9],
xi 11 10 0,
xi 12 10 1,
mV 4 11,
mV 5 12] [4,5]
.ret))))
abbrev US:RsT:=[(4,none),(5,none)]
theorem Si:SpF 13 Nw QT US:=SpI Tryz.func58 (by kernel_rfl)
theorem O3:au Tryz.prog Nw = true:=by kernel_rfl
abbrev Kb:FuncId:=59
def QW:AC:=
(qL [oX 1 0,
oX 2 0] [0]
(qL [oV 3 5 0 0,
oQ 4 3 3,
ol 5 4,
oG 6 5 0,
oP 7 (.mkfunc (.func 61) [.t 6] []),
vi 8 60 vy [.t 5,.t 7],
xi 9 8 0,
xi 10 8 1,
mV 1 9,
mV 2 10] [1,2]
.ret))
abbrev Tw:RsT:=[(1,none),(2,none)]
theorem Ut:SpF 11 Kb QW Tw:=SpI Tryz.func59 (by kernel_rfl)
theorem QC:au Tryz.prog Kb = true:=by kernel_rfl
abbrev Km:FuncId:=60
def RU:AC:=
(qL [oX 4 0,
oX 5 0] [0,1]
(.seq (qL [mV 8 0,
xZ 9 8,
oX 10 0] [1,8,9,10]
(.block 0
(.loop [1,8,9,10]
(qL [zS 11 10 9] [1,8,9,10,11]
(.seq (.cond (.t 11)
.skip
(.exit 0))
(.seq (.block 1
(qL [mV 12 10,
xC 13 5 8 10,
oG 14 5 13,
oP 7 (.alloc qr),
mV 6 12,
xn 5 7 14] [1,6,7,8,9,10]
(.frz 7 true (qL [mV 15 1,
mV 16 6,
oG 17 5 7,
oP 18 (.call (.t 15) vV [.t 16,.t 17]),
mV 5 18] [1,5,6,8,9,10]
(qL [mV 19 5,
wc 20 19 0] [1,5,6,8,9,10,20]
(.cond (.t 20)
(qL [mV 21 6,
mV 22 5,
mV 4 21,
mV 5 22] [4,5]
.ret)
.skip))))))
(.reg [zE 23 10 1,
mV 10 23] [1,8,9,10])))))))
(qL [oX 4 0,
oX 5 0] [4,5]
.ret)))
abbrev Tf:RsT:=[(4,none),(5,none)]
theorem T2:SpF 24 Km RU Tf:=SpI Tryz.func60 (by kernel_rfl)
theorem Sw:au Tryz.prog Km = true:=by kernel_rfl
abbrev KH:FuncId:=61
def yt:AC:=
(qL [zc 3 5 0,
oP 5 (.box 5 (.t 2)),
oX 6 0] [1,3,5]
(.seq (.block 0
(qL [oV 9 5 0 3,
oQ 10 0 9,
ol 11 10,
xZ 12 11,
zR 13 12 1,
oQ 14 0 5,
ol 15 14,
oP 16 (.lit 0 1 1 [(0,.t 15)]),
vi 17 53 [false,false,true] [cI 0,.t 13,.t 16],
mV 18 17,
gF 19 18 (.fieldAddr (some 5) 0 (.t 3)),
wJ 20 18 1 19,
wI 21 18 20,
wM 22 18 21,
gF 23 18 (.bin .sub (.t 22) (cI 1)),
wJ 24 18 1 5,
wI 25 18 24,
wJ 26 18 2 5,
wI 27 18 26,
gF 28 18 (.lit 0 1 2 [(0,.t 25),(1,.t 27)]),
gF 29 18 (.call (.f 53) [false,false,true] [cI (-1),.t 23,.t 28]),
oP 30 (.pick (.t 18) (.c (.bool true)) (.t 29)),
mV 8 30] [1,3,5,8]
(.cond (.t 8)
(qL [oX 6 4] [6]
.ret)
(qL [oQ 32 1 5,
ol 33 32,
oQ 34 2 5,
ol 35 34,
kl 36 33 35,
mV 31 36] [1,3,5,31]
(.cond (.t 31)
(qL [oX 6 2] [6]
.ret)
(qL [oQ 38 3 5,
ol 39 38,
oP 40 (.lit 0 1 1 [(0,.t 39)]),
vi 41 53 [false,false,true] [cI 0,cI 1000000,.t 40],
mV 37 41] [1,3,5,37]
(.cond (.t 37)
(qL [oX 6 7] [6]
.ret)
(qL [oQ 43 4 5,
ol 44 43,
kw 45 44 (-1),
mV 42 45] [1,3,5,42]
(.cond (.t 42)
(qL [oX 6 0] [6]
.ret)
(qL [oV 47 5 0 3,
oQ 48 3 47,
ol 49 48,
xZ 50 49,
zR 51 50 1,
oQ 52 4 5,
ol 53 52,
oP 54 (.lit 0 1 1 [(0,.t 53)]),
vi 55 53 [false,false,true] [cI 0,.t 51,.t 54],
mV 56 55,
wJ 57 56 4 5,
wI 58 56 57,
wy 59 56 1,
gF 60 56 (.bin .eql (.t 58) (.t 59)),
oP 61 (.pick (.t 56) (.c (.bool true)) (.t 60)),
mV 46 61] [1,3,5,46]
(.cond (.t 46)
(qL [oX 6 9] [6]
.ret)
.skip)))))))))))
(qL [oV 62 5 0 3,
oQ 63 3 62,
ol 64 63,
oQ 65 4 5,
ol 66 65,
xC 67 5 64 66,
oG 68 5 67,
oP 7 (.alloc qr),
xn 5 7 68] [1,5,7]
(qL [oQ 69 3 5,
ol 70 69,
oQ 71 3 7,
xn 1 71 70] [1,5,7]
(qL [mV 72 1,
oQ 73 4 5,
xn 1 73 72] [5,7]
(.seq (qL [oG 74 5 7,
oG 75 5 5,
oP 76 (.eqa true [.i, .i, .i, .i, .i] (.t 74) (.t 75))] [76]
(.cond (.t 76)
(qL [oX 6 9] [6]
.ret)
.skip))
(qL [oX 6 0] [6]
.ret)))))))
abbrev S3:RsT:=[(6,none)]
theorem UR:SpF 77 KH yt S3:=SpI Tryz.func61 (by kernel_rfl)
theorem S7:au Tryz.prog KH = true:=by kernel_rfl
abbrev JV:FuncId:=62
def QM:AC:=
(qL [oX 1 0,
oX 2 0] [0]
(qL [oG 3 5 0,
oV 4 5 0 0,
oQ 5 4 4,
ol 6 5,
vi 7 58 vn [.t 3,.t 6],
xi 8 7 0,
xi 9 7 1,
mV 1 8,
mV 2 9] [1,2]
.ret))
abbrev UI:RsT:=[(1,none),(2,none)]
theorem Tu:SpF 10 JV QM UI:=SpI Tryz.func62 (by kernel_rfl)
theorem RY:au Tryz.prog JV = true:=by kernel_rfl
abbrev Ns:FuncId:=63
def Rq:AC:=
(qL [oP 6 (.mv (.c (.bool false)))] [0,1,2]
(qL [mV 7 0,
mV 8 1,
oP 9 (.bin .geq (.t 7) (.t 8)),
mV 10 9,
wn 11 10 0,
wn 12 10 2,
gT 13 10 (.bin .leq (.t 11) (.t 12)),
oP 14 (.pick (.t 10) (.t 13) (.c (.bool false))),
mV 6 14] [6]
.ret))
abbrev T8:RsT:=[(6,none)]
theorem Ua:SpF 15 Ns Rq T8:=SpI Tryz.func63 (by kernel_rfl)
theorem cU:au Tryz.prog Ns = true:=by kernel_rfl
abbrev MF:FuncId:=64
def O0:AC:=
(qL [oX 2 0,
oX 3 0] [0]
(.seq (qL [oX 4 0] [0,4]
(.block 0
(.loop [0,4]
(.seq (qL [mV 6 4,
mV 7 0,
xZ 8 7,
zS 9 6 8] [0,4,9]
(.cond (.t 9)
.skip
(.exit 0)))
(.seq (.block 1
(.seq (.dreg [mV 12 0,
mV 13 4,
xC 14 1 12 13,
ol 15 14,
mV 16 0,
mV 17 4,
oP 18 (.subq 1 (.t 16) none (some (.t 17))),
vi 19 118 [false,true] [.t 15,.t 18],
mV 5 19] [0,4,5] [[],[],[0,1],[0,1,2],[],[],[4,5],yb 7,yb 8])
(qL [mV 20 5,
wc 21 20 0] [0,4,5,21]
(.cond (.t 21)
(qL [mV 22 4,
mV 23 5,
mV 2 22,
mV 3 23] [2,3]
.ret)
.skip))))
(.reg [mV 10 4,
zE 11 10 1,
mV 4 11] [0,4]))))))
(qL [oX 2 0,
oX 3 0] [2,3]
.ret)))
abbrev SZ:RsT:=[(2,none),(3,none)]
theorem UL:SpF 24 MF O0 SZ:=SpI Tryz.func64 (by kernel_rfl)
theorem D0:au Tryz.prog MF = true:=by kernel_rfl
abbrev Od:FuncId:=65
def PX:AC:=
(qL [zc 2 5 0,
oX 4 0,
oX 5 0] [1,2]
(.seq (qL [oX 6 0] [1,2,6]
(.block 0
(.loop [1,2,6]
(.seq (qL [mV 10 6,
mV 11 1,
xZ 12 11,
zS 13 10 12] [1,2,6,13]
(.cond (.t 13)
.skip
(.exit 0)))
(.seq (.block 1
(qL [mV 16 1,
mV 17 6,
xC 18 4 16 17,
oG 19 4 18,
oP 7 (.alloc qx),
xn 4 7 19] [1,2,6,7]
(.frz 7 true (.seq (qL [oQ 20 0 7,
ol 21 20,
oQ 22 0 2,
ol 23 22,
xZ 24 23,
zR 25 24 1,
vi 26 63 [false,false,false] [.t 21,cI 0,.t 25],
zu 27 26,
mV 28 27,
wJ 29 28 1 7,
wI 30 28 29,
wJ 31 28 1 2,
wI 32 28 31,
wM 33 28 32,
gF 34 28 (.bin .sub (.t 33) (cI 1)),
gF 35 28 (.call (.f 63) [false,false,false] [.t 30,cI 0,.t 34]),
gF 36 28 (.un .not (.t 35)),
oP 37 (.pick (.t 28) (.c (.bool true)) (.t 36))] [1,2,6,7,37]
(.cond (.t 37)
(qL [mV 38 6,
mV 4 38,
oX 5 4] [4,5]
.ret)
.skip))
(.seq (qL [oX 8 0] [1,2,6,7,8]
(.block 2
(.loop [1,2,6,7,8]
(.seq (qL [mV 39 8,
mV 40 6,
zS 41 39 40] [1,2,6,7,8,41]
(.cond (.t 41)
.skip
(.exit 2)))
(.seq (.block 3
(.seq (.dreg [mV 44 1,
mV 45 8,
xC 46 4 44 45,
oQ 47 0 46,
ol 48 47,
oQ 49 0 7,
ol 50 49,
kl 51 48 50,
mV 52 51,
wn 53 52 1,
wn 54 52 8,
ww 55 52 4 53 54,
wt 56 52 1 55,
wo 57 52 56,
wt 58 52 1 7,
wo 59 52 58,
gT 60 52 (.bin .eql (.t 57) (.t 59)),
oP 61 (.pick (.t 52) (.t 60) (.c (.bool false)))] [1,2,6,7,8,61] [[],[],[0,1],[0,1,2],yb 4,[],[5],yb 7,yb 8,yb 9,yb 9,yb 11,yb 12,yb 13,yb 9,[0,1,2,3,4,5,6,7,8,14],yb 16,yb 17])
(.cond (.t 61)
(qL [mV 62 6,
mV 4 62,
oX 5 5] [4,5]
.ret)
.skip)))
(.reg [mV 42 8,
zE 43 42 1,
mV 8 43] [1,2,6,7,8]))))))
(qL [oV 63 2 2 7,
oG 64 2 63,
vi 65 119 [false,false,false] [.t 64,cI 0,cI 1000000],
mV 9 65] [1,2,6,9]
(qL [mV 66 9,
wc 67 66 0] [1,2,6,9,67]
(.cond (.t 67)
(qL [mV 68 6,
mV 69 9,
mV 4 68,
mV 5 69] [4,5]
.ret)
.skip))))))))
(.reg [mV 14 6,
zE 15 14 1,
mV 6 15] [1,2,6]))))))
(qL [oX 4 0,
oX 5 0] [4,5]
.ret)))
abbrev Uj:RsT:=[(4,none),(5,none)]
theorem Su:SpF 70 Od PX Uj:=SpI Tryz.func65 (by kernel_rfl)
theorem MK:au Tryz.prog Od = true:=by kernel_rfl
abbrev M3:FuncId:=66
def yr:AC:=
(qL [zc 2 5 0,
oX 4 0] [1,2]
(qL [oQ 7 3 2,
ol 8 7,
mV 9 1,
xC 10 5 8 9,
oG 11 5 10,
oP 5 (.alloc qr),
xn 5 5 11] [1,2,5]
(.frz 5 true (.seq (qL [oQ 12 0 5,
ol 13 12,
oQ 14 0 2,
ol 15 14,
xZ 16 15,
zR 17 16 1,
vi 18 63 [false,false,false] [.t 13,cI 0,.t 17],
zu 19 18,
mV 20 19,
wJ 21 20 1 5,
wI 22 20 21,
wJ 23 20 1 2,
wI 24 20 23,
wM 25 20 24,
gF 26 20 (.bin .sub (.t 25) (cI 1)),
gF 27 20 (.call (.f 63) [false,false,false] [.t 22,cI (-1),.t 26]),
gF 28 20 (.un .not (.t 27)),
oP 29 (.pick (.t 20) (.c (.bool true)) (.t 28)),
mV 30 29,
wJ 31 30 2 5,
wI 32 30 31,
wJ 33 30 1 2,
wI 34 30 33,
wM 35 30 34,
gF 36 30 (.bin .sub (.t 35) (cI 1)),
gF 37 30 (.call (.f 63) [false,false,false] [.t 32,cI (-1),.t 36]),
gF 38 30 (.un .not (.t 37)),
oP 39 (.pick (.t 30) (.c (.bool true)) (.t 38))] [1,2,5,39]
(.cond (.t 39)
(qL [oX 4 4] [4]
.ret)
.skip))
(.seq (qL [oQ 40 1 5,
ol 41 40,
oQ 42 2 5,
ol 43 42,
kl 44 41 43] [1,2,5,44]
(.cond (.t 44)
(qL [oX 4 2] [4]
.ret)
.skip))
(.seq (qL [oQ 45 3 5,
ol 46 45,
vi 47 63 [false,false,false] [.t 46,cI 0,cI 1000000],
zu 48 47] [1,2,5,48]
(.cond (.t 48)
(qL [oX 4 7] [4]
.ret)
.skip))
(.seq (qL [oQ 49 4 5,
ol 50 49,
kw 51 50 (-1)] [1,2,5,51]
(.cond (.t 51)
(qL [oX 4 0] [4]
.ret)
.skip))
(.seq (qL [oQ 52 4 5,
ol 53 52,
oQ 54 3 2,
ol 55 54,
xZ 56 55,
zR 57 56 1,
vi 58 63 [false,false,false] [.t 53,cI 0,.t 57],
zu 59 58,
mV 60 59,
wJ 61 60 4 5,
wI 62 60 61,
wy 63 60 1,
gF 64 60 (.bin .eql (.t 62) (.t 63)),
oP 65 (.pick (.t 60) (.c (.bool true)) (.t 64))] [1,2,5,65]
(.cond (.t 65)
(qL [oX 4 9] [4]
.ret)
.skip))
(qL [oQ 66 3 2,
ol 67 66,
oQ 68 4 5,
ol 69 68,
xC 70 5 67 69,
oG 71 5 70,
oP 6 (.alloc qr),
xn 5 6 71] [1,5,6]
(.frz 6 true (.seq (qL [oQ 72 4 6,
ol 73 72,
mV 74 1,
kR 75 73 74,
mV 76 75,
wJ 77 76 0 6,
wI 78 76 77,
wJ 79 76 0 5,
wI 80 76 79,
gF 81 76 (.bin .neq (.t 78) (.t 80)),
oP 82 (.pick (.t 76) (.c (.bool true)) (.t 81)),
mV 83 82,
wJ 84 83 1 6,
wI 85 83 84,
wJ 86 83 1 5,
wI 87 83 86,
gF 88 83 (.bin .neq (.t 85) (.t 87)),
oP 89 (.pick (.t 83) (.c (.bool true)) (.t 88)),
mV 90 89,
wJ 91 90 2 6,
wI 92 90 91,
wJ 93 90 2 5,
wI 94 90 93,
gF 95 90 (.bin .neq (.t 92) (.t 94)),
oP 96 (.pick (.t 90) (.c (.bool true)) (.t 95))] [96]
(.cond (.t 96)
(qL [oX 4 9] [4]
.ret)
.skip))
(qL [oX 4 0] [4]
.ret))))))))))))
abbrev Ux:RsT:=[(4,none)]
theorem Tz:SpF 97 M3 yr Ux:=SpI Tryz.func66 (by kernel_rfl)
theorem OD:au Tryz.prog M3 = true:=by kernel_rfl
abbrev MX:FuncId:=67
def NN:AC:=
(qL [zc 2 5 0,
zc 3 1 1,
oP 4 (.alloc qJ),
oX 5 0] [2,3,4]
(qL [oG 6 5 2,
oP 7 (.build qJ [(0,5,.t 6)]),
xn 5 4 7] [2,3,4]
(.seq (qL [oG 9 5 2,
vi 10 16 vo [.t 9],
mV 8 10,
xi 11 8 0,
xi 12 8 1,
xi 13 8 2,
mV 5 13] [3,4,5]
(qL [mV 14 5,
wc 15 14 0] [3,4,5,15]
(.cond (.t 15)
(qL [oP 16 (.loadd (some 5) (.t 4)),
mV 17 5,
xn 5 4 16,
mV 5 17] [4,5]
.ret)
.skip)))
(qL [ol 19 3,
oP 20 (.mkfunc (.func 121) [] [.t 4,.t 3]),
vi 21 120 vy [.t 19,.t 20],
mV 18 21,
xi 22 18 0,
xi 23 18 1,
mV 5 23] [4,5]
(qL [oP 24 (.loadd (some 5) (.t 4)),
mV 25 5,
xn 5 4 24,
mV 5 25] [4,5]
.ret)))))
abbrev TJ:RsT:=[(4,some (some 5)),(5,none)]
theorem U1:SpF 26 MX NN TJ:=SpI Tryz.func67 (by kernel_rfl)
theorem nN:au Tryz.prog MX = true:=by kernel_rfl
abbrev NP:FuncId:=68
def MN:AC:=
(qL [zc 2 5 0,
oP 4 (.mv (.c (.bool false)))] [1,2]
(.seq (qL [oG 6 5 2,
mV 7 1,
vi 8 70 vn [.t 6,.t 7],
wd 9 8 0] [1,2,9]
(.cond (.t 9)
(qL [oP 4 (.mv (.c (.bool false)))] [4]
.ret)
.skip))
(.seq (qL [oV 10 5 0 2,
oQ 11 0 10,
ol 12 11,
xZ 13 12,
oX 14 0] [1,2,13,14]
(.block 0
(.loop [1,2,13,14]
(qL [zS 15 14 13] [1,2,13,14,15]
(.seq (.cond (.t 15)
.skip
(.exit 0))
(.seq (.block 1
(qL [mV 16 14,
mV 5 16] [1,2,5,13,14]
(qL [oG 17 5 2,
mV 18 5,
mV 19 1,
vi 20 122 [true,false,true] [.t 17,.t 18,.t 19],
vi 21 123 vq [.t 20],
zu 22 21] [1,2,13,14,22]
(.cond (.t 22)
(qL [oP 4 (.mv (.c (.bool false)))] [4]
.ret)
.skip))))
(.reg [zE 23 14 1,
mV 14 23] [1,2,13,14])))))))
(qL [oP 4 (.mv (.c (.bool true)))] [4]
.ret))))
abbrev Ud:RsT:=[(4,none)]
theorem TY:SpF 24 NP MN Ud:=SpI Tryz.func68 (by kernel_rfl)
theorem Ay:au Tryz.prog NP = true:=by kernel_rfl
abbrev Nj:FuncId:=69
def NV:AC:=
(qL [zc 2 5 0,
oP 4 (.mv (.c (.bool false)))] [1,2]
(qL [oG 8 5 2,
mV 9 1,
vi 10 72 vn [.t 8,.t 9],
mV 7 10,
xi 11 7 0,
xi 12 7 1,
oP 5 (.alloc qx),
xn 4 5 11,
mV 6 12] [6]
(qL [mV 13 6,
zu 14 13,
mV 4 14] [4]
.ret)))
abbrev TF:RsT:=[(4,none)]
theorem T9:SpF 15 Nj NV TF:=SpI Tryz.func69 (by kernel_rfl)
theorem Tk:au Tryz.prog Nj = true:=by kernel_rfl
abbrev Nn:FuncId:=70
def QQ:AC:=
(qL [zc 2 5 0,
oX 4 0] [1,2]
(.seq (qL [oV 6 5 0 2,
oQ 7 3 6,
ol 8 7,
xZ 9 8,
oX 10 0] [1,2,9,10]
(.block 0
(.loop [1,2,9,10]
(qL [zS 11 10 9] [1,2,9,10,11]
(.seq (.cond (.t 11)
.skip
(.exit 0))
(.seq (.block 1
(qL [mV 12 10,
mV 5 12] [1,2,5,9,10]
(qL [oG 13 5 2,
mV 14 5,
mV 15 1,
vi 16 73 [true,false,true] [.t 13,.t 14,.t 15]] [1,2,5,9,10,16]
(.cond (.t 16)
(qL [mV 17 5,
mV 4 17] [4]
.ret)
.skip))))
(.reg [zE 18 10 1,
mV 10 18] [1,2,9,10])))))))
(qL [oX 4 (-1)] [4]
.ret)))
abbrev UJ:RsT:=[(4,none)]
theorem Uc:SpF 19 Nn QQ UJ:=SpI Tryz.func70 (by kernel_rfl)
theorem Kj:au Tryz.prog Nn = true:=by kernel_rfl
abbrev MO:FuncId:=71
def RG:AC:=
(qL [zc 4 5 0,
zc 6 1 2,
oX 8 0,
oX 9 0] [1,3,4,6,8]
(qL [oP 23 (.mkfunc (.func 124) [] [.t 6]),
mV 10 23] [1,3,4,8,10]
(qL [oP 11 (.alloc qE)] [1,3,4,8,10,11]
(qL [oP 12 (.mv (.c (.bool true)))] [1,3,4,8,10,11,12]
(.seq (qL [vi 24 125 [] [],
oX 25 0] [1,3,4,8,10,11,12,24,25]
(.block 0
(.loop [1,3,4,8,10,11,12,24,25]
(qL [ki 26 25 2] [1,3,4,8,10,11,12,24,25,26]
(.seq (.cond (.t 26)
.skip
(.exit 0))
(.seq (.block 1
(qL [mV 27 25,
oP 28 (.ixV 2 2 (some 2) (.t 24) (.t 25)),
oP 14 (.alloc [.nilfunc, .nilfunc]),
mV 13 27,
xn 2 14 28] [1,3,4,8,10,11,12,13,14,24,25]
(.frz 14 true (.seq (qL [oV 29 5 0 4,
oQ 30 1 29,
ol 31 30,
xZ 32 31,
oX 33 0] [1,3,4,8,10,11,12,13,14,24,25,32,33]
(.block 2
(.loop [1,3,4,8,10,11,12,13,14,24,25,32,33]
(qL [zS 34 33 32] [1,3,4,8,10,11,12,13,14,24,25,32,33,34]
(.seq (.cond (.t 34)
.skip
(.exit 2))
(.seq (.block 3
(qL [mV 35 33,
mV 15 35] [1,3,4,8,10,11,12,13,14,15,24,25,32,33]
(.seq (qL [mV 36 10,
mV 37 15,
oP 38 (.call (.t 36) vq [.t 37]),
zu 39 38] [1,3,4,8,10,11,12,13,14,15,24,25,32,33,39]
(.cond (.t 39)
(.exit 3)
.skip))
(qL [oV 41 5 0 4,
oQ 42 2 41,
ol 43 42,
mV 44 1,
mV 45 15,
oP 46 (.build qE [(0,1,.t 44),(1,1,.t 45)]),
vi 47 126 vy [.t 43,.t 46],
mV 40 47,
xi 48 40 0,
xi 49 40 1,
oP 16 (.alloc qE),
xn 2 16 48,
mV 17 49] [1,3,4,8,10,11,12,13,14,15,16,24,25,32,33]
(.frz 16 true (qL [oV 51 5 0 4,
oQ 52 4 51,
ol 53 52,
mV 54 1,
mV 55 15,
oP 56 (.build qE [(0,1,.t 54),(1,1,.t 55)]),
vi 57 126 vy [.t 53,.t 56],
mV 50 57,
xi 58 50 0,
xi 59 50 1,
oP 18 (.alloc qE),
xn 2 18 58,
mV 19 59] [1,3,4,8,10,11,12,13,14,16,18,19,24,25,32,33]
(.frz 18 true (.seq (.dreg [mV 60 13,
oP 61 (.ixA 2 1 none (.t 11) (.t 60)),
ol 62 61,
oQ 63 0 14,
ol 64 63,
oG 65 2 16,
oP 66 (.call (.t 64) vq [.t 65]),
oQ 67 1 14,
ol 68 67,
oG 69 2 18,
oP 70 (.call (.t 68) vq [.t 69]),
zI 71 66 70,
zz 72 62 71,
oP 73 (.ixA 2 1 none (.t 11) (.t 60)),
xn 1 73 72] [1,3,4,8,10,11,12,13,14,19,24,25,32,33] [[],[0],[0,1],[],[3],[],[3,4,5],[],[7],[],[3,4,5,6,7,8,9],[3,4,5,6,7,8,9,10],yb 12,yb 13,yb 14])
(.reg [mV 74 12,
mV 75 74,
wn 76 75 19,
oP 77 (.pick (.t 75) (.t 76) (.c (.bool false))),
mV 12 77] [1,3,4,8,10,11,12,13,14,24,25,32,33])))))))))
(.reg [zE 78 33 1,
mV 33 78] [1,3,4,8,10,11,12,13,14,24,25,32,33])))))))
(qL [oV 79 5 0 4,
oQ 80 3 79,
ol 81 80,
xZ 82 81,
oX 83 0] [1,3,4,8,10,11,12,13,14,24,25,81,82,83]
(.block 4
(.loop [1,3,4,8,10,11,12,13,14,24,25,81,82,83]
(qL [zS 84 83 82] [1,3,4,8,10,11,12,13,14,24,25,81,82,83,84]
(.seq (.cond (.t 84)
.skip
(.exit 4))
(.seq (.block 5
(qL [mV 85 83,
xC 86 5 81 83,
oG 87 5 86,
oP 21 (.alloc qr),
mV 20 85,
xn 5 21 87] [1,3,4,8,10,11,12,13,14,20,21,24,25,81,82,83]
(.frz 21 true (.seq (qL [oQ 88 0 21,
ol 89 88,
mV 90 1,
kR 91 89 90,
mV 92 91,
gF 93 92 (.load (some 5) (.t 4)),
wy 94 92 20,
gF 95 92 (.call (.f 127) vy [.t 93,.t 94]),
gF 96 92 (.un .not (.t 95)),
oP 97 (.pick (.t 92) (.c (.bool true)) (.t 96))] [1,3,4,8,10,11,12,13,14,20,21,24,25,81,82,83,97]
(.cond (.t 97)
(.exit 5)
.skip))
(qL [oG 98 5 4,
mV 99 20,
mV 100 3,
vi 101 128 [true,false,true] [.t 98,.t 99,.t 100],
oP 22 (.alloc qE),
xn 2 22 101] [1,3,4,8,10,11,12,13,14,21,22,24,25,81,82,83]
(.frz 22 true (.block 6
(qL [mV 103 10,
oQ 104 2 21,
ol 105 104,
oP 106 (.call (.t 103) vq [.t 105]),
mV 107 106,
wn 108 107 10,
wt 109 107 1 21,
wo 110 107 109,
gT 111 107 (.call (.t 108) vq [.t 110]),
gT 112 107 (.un .not (.t 111)),
oP 113 (.pick (.t 107) (.t 112) (.c (.bool false))),
mV 102 113] [1,3,4,8,10,11,12,13,14,21,22,24,25,81,82,83,102]
(.cond (.t 102)
(.dreg [mV 114 13,
oP 115 (.ixA 2 1 none (.t 11) (.t 114)),
ol 116 115,
oQ 117 0 14,
ol 118 117,
oG 119 2 22,
oP 120 (.call (.t 118) vq [.t 119]),
zz 121 116 120,
oP 122 (.ixA 2 1 none (.t 11) (.t 114)),
xn 1 122 121] [1,3,4,8,10,11,12,13,14,24,25,81,82,83] [[],[0],[0,1],[],[3],[],[3,4,5],yb 7,yb 8,yb 9])
(qL [mV 124 10,
oQ 125 1 21,
ol 126 125,
oP 127 (.call (.t 124) vq [.t 126]),
mV 128 127,
wn 129 128 10,
wt 130 128 2 21,
wo 131 128 130,
gT 132 128 (.call (.t 129) vq [.t 131]),
gT 133 128 (.un .not (.t 132)),
oP 134 (.pick (.t 128) (.t 133) (.c (.bool false))),
mV 123 134] [1,3,4,8,10,11,12,13,14,22,24,25,81,82,83,123]
(.cond (.t 123)
(.dreg [mV 135 13,
oP 136 (.ixA 2 1 none (.t 11) (.t 135)),
ol 137 136,
oQ 138 1 14,
ol 139 138,
oG 140 2 22,
oP 141 (.call (.t 139) vq [.t 140]),
zI 142 137 141,
oP 143 (.ixA 2 1 none (.t 11) (.t 135)),
xn 1 143 142] [1,3,4,8,10,11,12,13,14,24,25,81,82,83] [[],[0],[0,1],[],[3],[],[3,4,5],yb 7,yb 8,yb 9])
.skip)))))))))))
(.reg [zE 144 83 1,
mV 83 144] [1,3,4,8,10,11,12,13,14,24,25,81,82,83])))))))))))
(.reg [zE 145 25 1,
mV 25 145] [1,3,4,8,10,11,12,24,25])))))))
(.seq (qL [mV 146 12] [8,11,146]
(.cond (.t 146)
(.reg [oP 147 (.ixA 2 1 none (.t 11) (cI 0)),
ol 148 147,
oP 149 (.mx [cI 0,.t 148]),
mV 8 149] [8,11])
.skip))
(.seq (.dreg [mV 150 8,
oP 151 (.ixA 2 1 none (.t 11) (cI 1)),
ol 152 151,
oP 153 (.mn [cI 0,.t 152]),
mV 8 150,
mV 9 153] [8,9] [[],[],[1],[1,2],[0],yb 5])
.ret)))))))
abbrev TW:RsT:=[(8,none),(9,none)]
theorem SI:SpF 154 MO RG TW:=SpI Tryz.func71 (by kernel_rfl)
theorem KI:au Tryz.prog MO = true:=by kernel_rfl
abbrev NB:FuncId:=72
def QJ:AC:=
(qL [zc 2 5 0,
oP 4 (.alloc qx),
oP 5 (.mv (.c (.bool false)))] [1,2,4]
(.seq (qL [oX 6 0] [1,2,4,6]
(.block 0
(.loop [1,2,4,6]
(.seq (qL [mV 10 6,
oQ 11 3 2,
ol 12 11,
xZ 13 12,
zS 14 10 13] [1,2,4,6,14]
(.cond (.t 14)
.skip
(.exit 0)))
(.seq (.block 1
(qL [oG 17 5 2,
mV 18 1,
mV 19 6,
vi 20 74 qc [.t 17,.t 18,.t 19]] [1,2,4,6,20]
(.cond (.t 20)
(qL [mV 21 6,
oP 22 (.build qx [(0,1,.t 21)]),
xn 4 4 22,
oP 5 (.mv (.c (.bool true)))] [4,5]
.ret)
.skip)))
(.reg [mV 15 6,
zE 16 15 1,
mV 6 16] [1,2,4,6]))))))
(.seq (qL [oX 7 0] [1,2,4,7]
(.block 2
(.loop [1,2,4,7]
(.seq (qL [mV 23 7,
oQ 24 0 2,
ol 25 24,
xZ 26 25,
zS 27 23 26] [1,2,4,7,27]
(.cond (.t 27)
.skip
(.exit 2)))
(.seq (.block 3
(.seq (.dreg [oG 31 5 2,
oG 32 5 2,
mV 33 1,
vi 34 77 vn [.t 32,.t 33],
mV 35 7,
vi 36 129 qc [.t 31,.t 34,.t 35],
mV 30 36,
xi 37 30 0,
xi 38 30 1,
oP 8 (.alloc qx),
xn 4 8 37,
mV 9 38] [1,2,4,7,8,9] [[],[],[],[1,2],[],yb 5,yb 6,yb 7,yb 7,[],[0,1,2,3,4,5,6,7,9],yb 11])
(qL [mV 39 9] [1,2,4,7,8,39]
(.cond (.t 39)
(qL [oG 40 4 8,
xn 4 4 40,
oP 5 (.mv (.c (.bool true)))] [4,5]
.ret)
.skip))))
(.reg [mV 28 7,
zE 29 28 1,
mV 7 29] [1,2,4,7]))))))
(qL [oP 41 (.build qx []),
xn 4 4 41,
oP 5 (.mv (.c (.bool false)))] [4,5]
.ret))))
abbrev TM:RsT:=[(4,some (some 4)),(5,none)]
theorem Uh:SpF 42 NB QJ TM:=SpI Tryz.func72 (by kernel_rfl)
theorem Px:au Tryz.prog NB = true:=by kernel_rfl
abbrev M5:FuncId:=73
def KN:AC:=
(qL [zc 3 5 0,
oP 6 (.mv (.c (.bool false)))] [1,2,3]
(qL [oV 8 5 0 3,
oQ 9 3 8,
ol 10 9,
mV 11 1,
xC 12 5 10 11,
oQ 13 4 12,
ol 14 13,
mV 7 14] [1,2,3,7]
(.seq (.dreg [mV 15 7,
mV 16 1,
oP 17 (.bin .gtr (.t 15) (.t 16)),
mV 18 17,
gT 19 18 (.fieldAddr (some 5) 0 (.t 3)),
wt 20 18 3 19,
wo 21 18 20,
wn 22 18 1,
ww 23 18 5 21 22,
wt 24 18 3 23,
wo 25 18 24,
gT 26 18 (.fieldAddr (some 5) 0 (.t 3)),
wt 27 18 3 26,
wo 28 18 27,
wn 29 18 7,
ww 30 18 5 28 29,
wt 31 18 3 30,
wo 32 18 31,
gT 33 18 (.bin .neq (.t 25) (.t 32)),
oP 34 (.pick (.t 18) (.t 33) (.c (.bool false))),
mV 35 34,
wn 36 35 2,
wn 37 35 1,
gT 38 35 (.call (.f 130) vy [.t 36,.t 37]),
gT 39 35 (.un .not (.t 38)),
oP 40 (.pick (.t 35) (.t 39) (.c (.bool false))),
mV 41 40,
wn 42 41 2,
wn 43 41 7,
gT 44 41 (.call (.f 130) vy [.t 42,.t 43]),
gT 45 41 (.un .not (.t 44)),
oP 46 (.pick (.t 41) (.t 45) (.c (.bool false))),
mV 6 46] [6] [[],[],[0,1],[0,1,2],yb 4,yb 5,yb 6,yb 4,yb 8,yb 9,yb 10,yb 4,[0,1,2,3,11],[0,1,2,3,11,12],yb 4,[0,1,2,3,11,12,13,14],[0,1,2,3,11,12,13,14,15],[0,1,2,3,11,12,13,14,15,16],yb 18,yb 19,yb 20,yb 21,yb 21,yb 23,yb 24,yb 25,yb 26,yb 27,yb 27,yb 29,yb 30,yb 31,yb 32])
.ret)))
abbrev T5:RsT:=[(6,none)]
theorem TZ:SpF 47 M5 KN T5:=SpI Tryz.func73 (by kernel_rfl)
theorem ML:au Tryz.prog M5 = true:=by kernel_rfl
abbrev MC:FuncId:=74
def N9:AC:=
(qL [zc 3 5 0,
oP 6 (.mv (.c (.bool false)))] [1,2,3]
(qL [oQ 8 3 3,
ol 9 8,
mV 10 2,
xC 11 5 9 10,
oQ 12 4 11,
ol 13 12,
mV 7 13] [1,2,3,7]
(.seq (.dreg [mV 14 7,
mV 15 2,
oP 16 (.bin .gtr (.t 14) (.t 15)),
mV 17 16,
wn 18 17 1,
wn 19 17 2,
gT 20 17 (.call (.f 45) vy [.t 18,.t 19]),
gT 21 17 (.un .not (.t 20)),
oP 22 (.pick (.t 17) (.t 21) (.c (.bool false))),
mV 23 22,
wn 24 23 1,
wn 25 23 7,
gT 26 23 (.call (.f 45) vy [.t 24,.t 25]),
gT 27 23 (.un .not (.t 26)),
oP 28 (.pick (.t 23) (.t 27) (.c (.bool false))),
mV 29 28,
wt 30 29 3 3,
wo 31 29 30,
wn 32 29 7,
ww 33 29 5 31 32,
wt 34 29 3 33,
wo 35 29 34,
wt 36 29 3 3,
wo 37 29 36,
wn 38 29 2,
ww 39 29 5 37 38,
wt 40 29 3 39,
wo 41 29 40,
gT 42 29 (.bin .neq (.t 35) (.t 41)),
oP 43 (.pick (.t 29) (.t 42) (.c (.bool false))),
mV 6 43] [6] [[],[],[0,1],[0,1,2],yb 4,yb 4,yb 6,yb 7,yb 8,yb 9,yb 10,yb 10,yb 12,yb 13,yb 14,yb 15,yb 16,yb 17,yb 16,yb 19,yb 20,yb 21,yb 16,[0,1,2,3,4,5,6,7,8,9,10,11,12,13,14,15,22],yb 16,[0,1,2,3,4,5,6,7,8,9,10,11,12,13,14,15,22,23,24],[0,1,2,3,4,5,6,7,8,9,10,11,12,13,14,15,22,23,24,25],[0,1,2,3,4,5,6,7,8,9,10,11,12,13,14,15,22,23,24,25,26],yb 28,yb 29,yb 30])
.ret)))
abbrev U5:RsT:=[(6,none)]
theorem TQ:SpF 44 MC N9 U5:=SpI Tryz.func74 (by kernel_rfl)
theorem Qk:au Tryz.prog MC = true:=by kernel_rfl
abbrev Nq:FuncId:=75
def OG:AC:=
(qL [oX 2 0] [0]
(qL [oX 3 1] [0,3]
(.seq (qL [oX 4 0] [0,3,4]
(.block 0
(.loop [0,3,4]
(.seq (qL [mV 5 4,
mV 6 0,
zS 7 5 6] [0,3,4,7]
(.cond (.t 7)
.skip
(.exit 0)))
(.seq (.block 1
(.reg [mV 10 3,
oP 11 (.bin .mul (cI 2) (.t 10)),
mV 3 11] [0,3,4]))
(.reg [mV 8 4,
zE 9 8 1,
mV 4 9] [0,3,4]))))))
(qL [mV 12 3,
mV 2 12] [2]
.ret))))
abbrev SW:RsT:=[(2,none)]
theorem Tl:SpF 13 Nq OG SW:=SpI Tryz.func75 (by kernel_rfl)
theorem F6:au Tryz.prog Nq = true:=by kernel_rfl
abbrev NW:FuncId:=76
def NX:AC:=
(qL [zc 4 5 0,
oX 8 0,
oX 9 0] [1,2,3,4]
(qL [oG 14 5 4,
mV 15 1,
mV 16 2,
mV 17 3,
vi 18 131 [true,true,false,false] [.t 14,.t 15,.t 16,.t 17],
oP 10 (.alloc qE),
xn 2 10 18] [2,3,4,10]
(.frz 10 true (qL [oG 20 5 4,
mV 21 2,
mV 22 3,
vi 23 132 [true,false,false] [.t 20,.t 21,.t 22],
mV 19 23,
xi 24 19 0,
xi 25 19 1,
oP 11 (.alloc qE),
xn 2 11 24,
mV 12 25] [10,11,12]
(.frz 11 true (qL [oX 13 0] [10,11,12,13]
(.seq (qL [mV 26 12] [10,11,13,26]
(.cond (.t 26)
(.reg [oQ 27 0 10,
ol 28 27,
oQ 29 1 11,
ol 30 29,
zI 31 28 30,
oP 32 (.mx [cI 0,.t 31]),
mV 13 32] [10,11,13])
.skip))
(.seq (.dreg [mV 33 13,
oQ 34 1 10,
ol 35 34,
oQ 36 0 11,
ol 37 36,
zI 38 35 37,
oP 39 (.mn [cI 0,.t 38]),
mV 8 33,
mV 9 39] [8,9] [[],[],[1],[],[3],[1,2,3,4],[1,2,3,4,5],[0],yb 8])
.ret))))))))
abbrev Sh:RsT:=[(8,none),(9,none)]
theorem UG:SpF 40 NW NX Sh:=SpI Tryz.func76 (by kernel_rfl)
theorem GD:au Tryz.prog NW = true:=by kernel_rfl
abbrev NT:FuncId:=77
def Re:AC:=
(qL [zc 2 5 0,
oP 4 (.mv (.c (.slice 2 [])))] [1,2]
(qL [oP 5 (.nilS 1 2)] [1,2,5]
(.seq (qL [oX 6 0] [1,2,5,6]
(.block 0
(.loop [1,2,5,6]
(.seq (qL [mV 10 6,
oQ 11 3 2,
ol 12 11,
xZ 13 12,
zS 14 10 13] [1,2,5,6,14]
(.cond (.t 14)
.skip
(.exit 0)))
(.seq (.block 1
(qL [oP 17 (.build qE [(0,1,cI 0),(1,1,cI 1000000)]),
oP 7 (.alloc qE),
xn 2 7 17] [1,2,5,6,7]
(qL [oQ 18 3 2,
ol 19 18,
mV 20 6,
xC 21 5 19 20,
oQ 22 4 21,
ol 23 22,
mV 8 23] [1,2,5,6,7,8]
(qL [mV 24 6,
mV 9 24] [1,2,5,6,7,8,9]
(.seq (qL [mV 25 8,
wd 26 25 0] [1,2,5,6,7,8,9,26]
(.cond (.t 26)
(qL [mV 27 6,
mV 28 8,
oP 29 (.mn [.t 27,.t 28]),
mV 9 29] [1,2,5,6,7,8,9]
(.reg [mV 30 6,
mV 31 8,
oP 32 (.mx [.t 30,.t 31]),
mV 8 32] [1,2,5,6,7,8,9]))
.skip))
(.seq (qL [mV 33 8,
wd 34 33 0,
mV 35 34,
wn 36 35 1,
wn 37 35 8,
gT 38 35 (.call (.f 45) vy [.t 36,.t 37]),
gT 39 35 (.un .not (.t 38)),
oP 40 (.pick (.t 35) (.t 39) (.c (.bool false)))] [1,2,5,6,7,8,9,40]
(.cond (.t 40)
(.dreg [oQ 41 3 2,
ol 42 41,
mV 43 8,
xC 44 5 42 43,
oQ 45 3 44,
ol 46 45,
oQ 47 3 2,
ol 48 47,
mV 49 8,
xC 50 5 48 49,
oQ 51 3 50,
ol 52 51,
oP 53 (.build qE [(0,1,.t 46),(1,1,.t 52)]),
xn 2 7 53] [1,2,5,6,7,9] [[],[0],[],[0,1,2],yb 4,yb 5,[],[6],[],[6,7,8],[6,7,8,9],[6,7,8,9,10],yb 12,yb 13])
.skip))
(.seq (qL [mV 54 1,
mV 55 9,
vi 56 45 vy [.t 54,.t 55],
zu 57 56] [1,2,5,6,7,9,57]
(.cond (.t 57)
(.dreg [oQ 58 3 2,
ol 59 58,
mV 60 9,
xC 61 5 59 60,
oQ 62 3 61,
ol 63 62,
oQ 64 3 2,
ol 65 64,
mV 66 9,
xC 67 5 65 66,
oQ 68 3 67,
ol 69 68,
oP 70 (.build qE [(0,1,.t 63),(1,1,.t 69)]),
xn 2 7 70] [1,2,5,6,7] [[],[0],[],[0,1,2],yb 4,yb 5,[],[6],[],[6,7,8],[6,7,8,9],[6,7,8,9,10],yb 12,yb 13])
.skip))
(.reg [mV 71 5,
oG 72 2 7,
oP 73 (.lit 0 2 1 [(0,.t 72)]),
oP 74 (.append 2 16 (.t 71) (.t 73)),
mV 5 74] [1,2,5,6]))))))))
(.reg [mV 15 6,
zE 16 15 1,
mV 6 16] [1,2,5,6]))))))
(qL [mV 75 5,
oP 4 (.mvd (.t 75))] [4]
.ret))))
abbrev T4:RsT:=[(4,none)]
theorem UU:SpF 76 NT Re T4:=SpI Tryz.func77 (by kernel_rfl)
theorem Ky:au Tryz.prog NT = true:=by kernel_rfl
abbrev ND:FuncId:=78
def OH:AC:=
(qL [⟨some 0,none, .mv (.c (.str ⟨#[]⟩))⟩] []
(qL [⟨some 0,none, .mv (.c (.str ⟨#[107,105,110,100,115,32,111,105,108,32,112,97,105,110,116,10,112,108,97,99,101,115,32,121,97,114,100,32,112,105,116,10,102,105,114,115,116,32,111,105,108,32,121,97,114,100,32,49,48,48,48,32,49,48,48,48,10,112,97,112,101,114,32,111,105,108,32,121,97,114,100,32,112,105,116,32,54,48,48,32,49,10,112,97,112,101,114,32,111,105,108,32,121,97,114,100,32,112,105,116,32,53,48,48,32,48,10,112,97,112,101,114,32,111,105,108,32,121,97,114,100,32,45,32,51,48,48,32,45,10,108,97,115,116,32,111,105,108,32,121,97,114,100,32,49,48,48,32,50,48,48,10]⟩))⟩] [0]
.ret))
abbrev TL:RsT:=[(0,none)]
theorem T7:SpF 1 ND OH TL:=SpI Tryz.func78 (by kernel_rfl)
theorem QL:au Tryz.prog ND = true:=by kernel_rfl
abbrev Nb:FuncId:=79
def Nd:AC:=
(qL [zc 1 5 0,
oP 2 (.alloc qJ),
oX 3 0] [1,2]
(qL [oG 7 5 1,
oP 8 (.call (.f 67) vn [.t 7,(.c (.slice 1 []))]),
mV 6 8,
xi 9 6 0,
xi 10 6 1,
oP 4 (.alloc qJ),
xn 5 4 9,
mV 5 10] [2,4,5]
(.frz 4 true (.seq (.seq (.qreg [mV 11 5,
kw 12 11 0,
mV 13 12,
gT 14 13 (.load (some 5) (.t 4)),
gT 15 13 (.load (some 5) (.t 4)),
gT 16 13 (.call (.f 83) vy [.t 15,cI (-1)]),
gT 17 13 (.call (.f 68) vn [.t 14,.t 16]),
gT 18 13 (.un .not (.t 17)),
oP 19 (.pick (.t 13) (.t 18) (.c (.bool false)))] [2,4,5,19] [[],[0],[0,1],[0,1,2],[0,1,2],[0,1,2,4],yb 6,yb 7,yb 8] [([0,1,2,3,4],5),([],6)] [7,8])
(.cond (.t 19)
(.reg [oX 5 9] [2,4,5])
.skip))
(qL [oP 20 (.loadd (some 5) (.t 4)),
mV 21 5,
xn 5 2 20,
mV 3 21] [2,3]
.ret)))))
abbrev UH:RsT:=[(2,some (some 5)),(3,none)]
theorem SB:SpF 22 Nb Nd UH:=SpI Tryz.func79 (by kernel_rfl)
theorem Gs:au Tryz.prog Nb = true:=by kernel_rfl
abbrev MP:FuncId:=80
def Rw:AC:=
(qL [zc 1 5 0,
oP 2 (.mv (.c .nilfunc))] [1]
(qL [oP 3 (.mkfunc (.func 133) [] [.t 1]),
mV 2 3] [2]
.ret))
abbrev Td:RsT:=[(2,none)]
theorem U6:SpF 4 MP Rw Td:=SpI Tryz.func80 (by kernel_rfl)
theorem RI:au Tryz.prog MP = true:=by kernel_rfl
abbrev My:FuncId:=83
def QR:AC:=
(qL [zc 2 5 0,
oP 4 (.nilS 1 1)] [1,2,4]
(.seq (qL [oV 6 5 0 2,
oQ 7 3 6,
ol 8 7,
xZ 9 8,
oX 10 0] [1,4,9,10]
(.block 0
(.loop [1,4,9,10]
(qL [zS 11 10 9] [1,4,9,10,11]
(.seq (.cond (.t 11)
.skip
(.exit 0))
(.seq (.block 1
(qL [mV 12 10,
mV 5 12] [1,4,5,9,10]
(qL [mV 13 5,
mV 14 1,
kR 15 13 14] [1,4,5,9,10,15]
(.cond (.t 15)
(.reg [mV 16 4,
mV 17 5,
oP 18 (.lit 0 1 1 [(0,.t 17)]),
oP 19 (.append 1 8 (.t 16) (.t 18)),
mV 4 19] [1,4,9,10])
.skip))))
(.reg [zE 20 10 1,
mV 10 20] [1,4,9,10])))))))
(qL [mV 21 4,
oP 4 (.mvd (.t 21))] [4]
.ret)))
abbrev Tp:RsT:=[(4,none)]
theorem S8:SpF 22 My QR Tp:=SpI Tryz.func83 (by kernel_rfl)
theorem Ob:au Tryz.prog My = true:=by kernel_rfl
abbrev N7:FuncId:=84
def Qs:AC:=
(qL [oP 2 (.mv (.c (.slice 1 [])))] [0]
(qL [oX 3 0] [0,3]
(.seq (qL [mV 9 0,
xZ 10 9,
oX 11 0] [0,3,9,10,11]
(.block 0
(.loop [0,3,9,10,11]
(qL [zS 12 11 10] [0,3,9,10,11,12]
(.seq (.cond (.t 12)
.skip
(.exit 0))
(.seq (.block 1
(qL [xC 13 1 9 11,
ol 14 13,
mV 5 14] [0,3,5,9,10,11]
(qL [mV 15 3,
mV 16 5,
xZ 17 16,
zz 18 15 17,
mV 3 18] [0,3,9,10,11]
(qL [mV 19 3,
ki 20 19 0] [0,3,9,10,11,20]
(.cond (.t 20)
(.reg [⟨some 21,none, .mkiface 9 (.c (.str ⟨#[108,101,110,32,111,117,116,32,111,102,32,114,97,110,103,101]⟩))⟩,
oN (.panic (.t 21))] [0,3,9,10,11])
.skip)))))
(.reg [zE 22 11 1,
mV 11 22] [0,3,9,10,11])))))))
(qL [mV 23 3,
vi 24 136 vV [(.c (.nils 1)),.t 23],
mV 6 24] [0,6]
(.seq (qL [mV 25 0,
xZ 26 25,
oX 27 0] [6,25,26,27]
(.block 2
(.loop [6,25,26,27]
(qL [zS 28 27 26] [6,25,26,27,28]
(.seq (.cond (.t 28)
.skip
(.exit 2))
(.seq (.block 3
(qL [xC 29 1 25 27,
ol 30 29,
mV 8 30] [6,8,25,26,27]
(.reg [mV 31 6,
mV 32 8,
oP 33 (.append 1 8 (.t 31) (.t 32)),
mV 6 33] [6,25,26,27])))
(.reg [zE 34 27 1,
mV 27 34] [6,25,26,27])))))))
(qL [mV 35 6,
oP 2 (.mvd (.t 35))] [2]
.ret))))))
abbrev TO:RsT:=[(2,none)]
theorem UT:SpF 36 N7 Qs TO:=SpI Tryz.func84 (by kernel_rfl)
theorem Sm:au Tryz.prog N7 = true:=by kernel_rfl
abbrev M6:FuncId:=85
def RO:AC:=
(qL [zc 1 5 0,
oP 2 (.alloc [.mint 1])] [1,2]
(.scope
(.seq (.label 0)
(.seq (qL [oG 4 5 1,
vi 5 80 vo [.t 4]] [1,2,5]
(.block 0
(.jM (.t 5) [6] (.reg [mV 3 6] [1,2,3])
(.block 1
(.seq (qL [ol 7 2,
xZ 8 7,
wm 9 8 0,
mV 10 9,
wn 11 10 3,
gT 12 10 (.len (.t 11)),
wo 13 10 2,
gT 14 10 (.ixS 1 (.t 13) (cI 0)),
wo 15 10 14,
gT 16 10 (.len (.t 15)),
gT 17 10 (.bin .gtr (.t 12) (.t 16)),
oP 18 (.pick (.t 10) (.t 17) (.c (.bool false)))] [1,2,3,18]
(.cond (.t 18)
(.exit 0)
.skip))
(qL [oG 19 5 1,
mV 20 3,
vi 21 68 vn [.t 19,.t 20]] [2,3,21]
(.cond (.t 21)
(.reg [ol 22 2,
mV 23 3,
oP 24 (.lit 0 1 1 [(0,.t 23)]),
oP 25 (.append 1 24 (.t 22) (.t 24)),
xn 1 2 25] [])
.skip)))))))
(qL [oP 26 (.loadd none (.t 2)),
xn 1 2 26] [2]
.ret)))))
abbrev Uq:RsT:=[(2,some none)]
theorem Te:SpF 27 M6 RO Uq:=SpI Tryz.func85 (by kernel_rfl)
theorem SE:au Tryz.prog M6 = true:=by kernel_rfl
abbrev P0:FuncId:=86
theorem S5:au Tryz.prog P0 = true:=by kernel_rfl
abbrev M7:FuncId:=87
def MS:AC:=
(qL [oP 2 (.mv (.c (.slice 1 [])))] [0]
(.seq (qL [mV 6 0,
xZ 7 6,
ki 8 7 2] [0,8]
(.cond (.t 8)
(qL [mV 9 0,
oP 2 (.mvd (.t 9))] [2]
.ret)
.skip))
(.seq (qL [oX 3 1] [0,3]
(.block 0
(.loop [0,3]
(.seq (qL [mV 10 3,
mV 11 0,
xZ 12 11,
zS 13 10 12] [0,3,13]
(.cond (.t 13)
.skip
(.exit 0)))
(.seq (.block 1
(.seq (.dreg [mV 16 0,
mV 17 3,
xC 18 1 16 17,
ol 19 18,
mV 20 0,
mV 21 3,
zR 22 21 1,
xC 23 1 20 22,
ol 24 23,
kl 25 19 24] [0,3,25] [[],[],[0,1],[0,1,2],[],[],[5],[4,5,6],[4,5,6,7],yb 9])
(.cond (.t 25)
(qL [mV 26 0,
mV 27 3,
oP 28 (.sub 0 1 (.t 26) (some (.t 27)) none none),
mV 4 28] [0,3,4]
(.seq (qL [oX 5 1] [0,3,4,5]
(.block 2
(.loop [0,3,4,5]
(.seq (qL [mV 29 5,
mV 30 4,
xZ 31 30,
zS 32 29 31] [0,3,4,5,32]
(.cond (.t 32)
.skip
(.exit 2)))
(.seq (.block 3
(.seq (.dreg [mV 35 4,
mV 36 5,
xC 37 1 35 36,
ol 38 37,
mV 39 4,
mV 40 5,
zR 41 40 1,
xC 42 1 39 41,
ol 43 42,
kR 44 38 43] [0,3,4,5,44] [[],[],[0,1],[0,1,2],[],[],[5],[4,5,6],[4,5,6,7],yb 9])
(.cond (.t 44)
(qL [mV 45 0,
mV 46 3,
mV 47 4,
mV 48 5,
xC 49 1 47 48,
ol 50 49,
xC 51 1 45 46,
xn 1 51 50] [0,3,4,5]
(.reg [mV 52 3,
zE 53 52 1,
mV 3 53] [0,3,4,5]))
.skip)))
(.reg [mV 33 5,
zE 34 33 1,
mV 5 34] [0,3,4,5]))))))
(qL [mV 54 0,
mV 55 3,
oP 56 (.sub 0 1 (.t 54) (some (.t 55)) none none),
oN (.clear 1 (.int .i64 0) (.t 56))] [0,3]
(qL [mV 57 0,
mV 58 3,
oP 59 (.sub 0 1 (.t 57) none (some (.t 58)) none),
oP 2 (.mvd (.t 59))] [2]
.ret))))
.skip)))
(.reg [mV 14 3,
zE 15 14 1,
mV 3 15] [0,3]))))))
(qL [mV 60 0,
oP 2 (.mvd (.t 60))] [2]
.ret))))
abbrev Ty:RsT:=[(2,none)]
theorem Sf:SpF 61 M7 MS Ty:=SpI Tryz.func87 (by kernel_rfl)
theorem Sl:au Tryz.prog M7 = true:=by kernel_rfl
abbrev NQ:FuncId:=88
def Jl:AC:=
(qL [zc 3 5 0,
oP 6 (.mv (.c .nilptr)),
oX 7 0] [1,2,3]
(qL [oG 13 5 3,
mV 14 1,
vi 15 67 vn [.t 13,.t 14],
mV 12 15,
xi 16 12 0,
xi 17 12 1,
oP 8 (.alloc qJ),
xn 5 8 16,
mV 9 17] [1,2,8,9]
(.frz 8 true (.seq (qL [mV 18 9,
wc 19 18 0] [1,2,8,9,19]
(.cond (.t 19)
(qL [mV 20 9,
oP 6 (.mv (.c .nilptr)),
mV 7 20] [6,7]
.ret)
.skip))
(qL [mV 21 2,
oG 22 5 8,
oP 23 (.call (.t 21) vo [.t 22]),
mV 10 23] [1,8,10]
(.seq (.block 0
(qL [mV 25 10,
ki 26 25 0,
mV 24 26] [1,8,10,24]
(.cond (.t 24)
(qL [oP 6 (.mv (.c .nilptr)),
oX 7 4] [6,7]
.ret)
(qL [oG 28 5 8,
mV 29 1,
vi 30 68 vn [.t 28,.t 29],
zu 31 30,
mV 27 31] [1,8,10,27]
(.cond (.t 27)
(qL [oP 6 (.mv (.c .nilptr)),
oX 7 9] [6,7]
.ret)
.skip)))))
(qL [oG 32 5 8,
mV 33 10,
mV 34 1,
vi 35 122 [true,false,true] [.t 32,.t 33,.t 34],
mV 11 35] [11]
(qL [mV 36 11,
vi 37 123 vq [.t 36]] [11]
(qL [mV 38 11,
mV 6 38,
oX 7 0] [6,7]
.ret)))))))))
abbrev SC:RsT:=[(6,none),(7,none)]
theorem S9:SpF 39 NQ Jl SC:=SpI Tryz.func88 (by kernel_rfl)
theorem Ru:au Tryz.prog NQ = true:=by kernel_rfl
abbrev J5:FuncId:=89
def M8:AC:=
(qL [zc 2 5 0,
oX 3 0] [1,2]
(.seq (qL [oV 4 5 0 2,
oQ 5 3 4,
ol 6 5,
xZ 7 6,
zR 8 7 1,
ol 9 1,
oP 10 (.lit 0 1 1 [(0,.t 9)]),
vi 11 53 [false,false,true] [cI 0,.t 8,.t 10]] [1,2,11]
(.cond (.t 11)
(qL [oX 3 (-1)] [3]
.ret)
.skip))
(qL [oV 12 5 0 2,
oQ 13 3 12,
ol 14 13,
ol 15 1,
xC 16 5 14 15,
oQ 17 0 16,
ol 18 17,
mV 3 18] [3]
.ret)))
abbrev Tg:RsT:=[(3,none)]
theorem UQ:SpF 19 J5 M8 Tg:=SpI Tryz.func89 (by kernel_rfl)
theorem SU:au Tryz.prog J5 = true:=by kernel_rfl
abbrev M4:FuncId:=90
def Pq:AC:=
(qL [zc 2 1 0,
zc 3 1 1,
oP 4 (.alloc qE)] [2,3,4]
(qL [oP 9 (.mkfunc (.func 139) [] [.t 2,.t 3]),
mV 5 9] [2,3,4,5]
(.seq (.dreg [ol 10 2,
zr 11 10,
oQ 12 0 11,
ol 13 12,
ol 14 3,
xC 15 5 13 14,
oG 16 5 15,
oP 6 (.alloc qr),
xn 5 6 16] [2,3,4,5,6] [[],[0],[0,1],[0,1,2],[],yb 5,yb 6,[],yb 8])
(qL [mV 17 5,
oQ 18 0 6,
ol 19 18,
oQ 20 1 6,
ol 21 20,
oQ 22 4 6,
ol 23 22,
oQ 24 2 6,
ol 25 24,
zI 26 23 25,
oP 27 (.call (.t 17) [false,false,false] [.t 19,.t 21,.t 26]),
mV 7 27] [2,3,4,5,6,7]
(.seq (.dreg [ol 28 2,
zr 29 28,
oQ 30 0 29,
ol 31 30,
ol 32 3,
xC 33 5 31 32,
oQ 34 4 33,
ol 35 34,
mV 36 7,
zI 37 35 36,
xC 38 5 31 32,
oQ 39 4 38,
xn 1 39 37] [2,3,4,5,6] [[],[0],[0,1],[0,1,2],[],yb 5,yb 6,yb 7,[],yb 9,yb 10,yb 11,yb 12])
(.seq (.dreg [ol 40 2,
zr 41 40,
oQ 42 0 41,
ol 43 42,
ol 44 3,
xC 45 5 43 44,
oQ 46 4 45,
ol 47 46,
oQ 48 0 4,
xn 1 48 47] [2,3,4,5,6] [[],[0],[0,1],[0,1,2],[],yb 5,yb 6,yb 7,yb 8,yb 9])
(.seq (.dreg [ol 49 2,
zr 50 49,
oQ 51 0 50,
ol 52 51,
ol 53 3,
xC 54 5 52 53,
oG 55 5 54,
xn 5 6 55] [2,3,4,5,6] [[],[0],[0,1],[0,1,2],[],yb 5,yb 6,yb 7])
(qL [mV 56 5,
oQ 57 1 6,
ol 58 57,
oQ 59 0 6,
ol 60 59,
oQ 61 3 6,
ol 62 61,
oQ 63 4 6,
ol 64 63,
zI 65 62 64,
oP 66 (.call (.t 56) [false,false,false] [.t 58,.t 60,.t 65]),
mV 8 66] [2,3,4,8]
(.seq (.dreg [ol 67 2,
zr 68 67,
oQ 69 0 68,
ol 70 69,
ol 71 3,
xC 72 5 70 71,
oQ 73 4 72,
ol 74 73,
mV 75 8,
zz 76 74 75,
xC 77 5 70 71,
oQ 78 4 77,
xn 1 78 76] [2,3,4] [[],[0],[0,1],[0,1,2],[],yb 5,yb 6,yb 7,[],yb 9,yb 10,yb 11,yb 12])
(.seq (.dreg [ol 79 2,
zr 80 79,
oQ 81 0 80,
ol 82 81,
ol 83 3,
xC 84 5 82 83,
oQ 85 4 84,
ol 86 85,
oQ 87 1 4,
xn 1 87 86] [4] [[],[0],[0,1],[0,1,2],[],yb 5,yb 6,yb 7,yb 8,yb 9])
(qL [oG 88 2 4,
xn 2 4 88] [4]
.ret)))))))))))
abbrev Uf:RsT:=[(4,some (some 2))]
theorem Th:SpF 89 M4 Pq Uf:=SpI Tryz.func90 (by kernel_rfl)
theorem Py:au Tryz.prog M4 = true:=by kernel_rfl
abbrev Nf:FuncId:=91
def KS:AC:=
(qL [zc 3 5 0,
oX 6 0] [1,2,3]
(qL [oG 8 5 3,
mV 9 1,
vi 10 50 vn [.t 8,.t 9],
mV 7 10] [1,2,3,7]
(.seq (qL [mV 11 7,
kw 12 11 0,
mV 13 12,
wn 14 13 2,
gT 15 13 (.un .not (.t 14)),
oP 16 (.pick (.t 13) (.t 15) (.c (.bool false)))] [1,3,7,16]
(.cond (.t 16)
(.reg [oX 7 4] [1,3,7])
.skip))
(.seq (qL [mV 17 7,
kw 18 17 0,
mV 19 18,
gT 20 19 (.load (some 5) (.t 3)),
wn 21 19 1,
gT 22 19 (.call (.f 69) vn [.t 20,.t 21]),
gT 23 19 (.un .not (.t 22)),
oP 24 (.pick (.t 19) (.t 23) (.c (.bool false)))] [7,24]
(.cond (.t 24)
(.reg [oX 7 9] [7])
.skip))
(qL [mV 25 7,
mV 6 25] [6]
.ret)))))
abbrev Sp:RsT:=[(6,none)]
theorem SN:SpF 26 Nf KS Sp:=SpI Tryz.func91 (by kernel_rfl)
theorem KX:au Tryz.prog Nf = true:=by kernel_rfl
abbrev MW:FuncId:=92
def Nr:AC:=
(qL [zc 3 5 0,
oP 6 (.mv (.c (.bool false)))] [1,2,3]
(qL [oG 10 5 3,
mV 11 1,
mV 12 2,
vi 13 129 qc [.t 10,.t 11,.t 12],
mV 9 13,
xi 14 9 0,
xi 15 9 1,
oP 7 (.alloc qx),
xn 4 7 14,
mV 8 15] [8]
(qL [mV 16 8,
zu 17 16,
mV 6 17] [6]
.ret)))
abbrev U3:RsT:=[(6,none)]
theorem U2:SpF 18 MW Nr U3:=SpI Tryz.func92 (by kernel_rfl)
theorem KV:au Tryz.prog MW = true:=by kernel_rfl
abbrev MU:FuncId:=93
def Oc:AC:=
(qL [zc 4 5 0,
zc 7 2 3,
oP 8 (.mv (.c (.slice 2 [])))] [1,2,4,7]
(qL [oP 10 (.lit 2 2 0 []),
mV 11 1,
oP 12 (.append 2 16 (.t 10) (.t 11)),
mV 9 12] [2,4,7,9]
(qL [mV 13 9,
mV 14 2,
oG 15 2 7,
xC 16 2 13 14,
xn 2 16 15] [2,4,7,9]
(.seq (qL [oQ 17 3 4,
ol 18 17,
mV 19 2,
xC 20 5 18 19,
oQ 21 4 20,
ol 22 21,
wd 23 22 0] [2,4,7,9,23]
(.cond (.t 23)
(.dreg [mV 24 9,
oQ 25 3 4,
ol 26 25,
mV 27 2,
xC 28 5 26 27,
oQ 29 4 28,
ol 30 29,
oG 31 2 7,
xC 32 2 24 30,
xn 2 32 31] [9] [[],[],[1],[],[1,2,3],[1,2,3,4],[1,2,3,4,5],[],yb 8,yb 9])
.skip))
(qL [mV 33 9,
oP 8 (.freeze 2 (.t 33))] [8]
.ret)))))
abbrev U0:RsT:=[(8,none)]
theorem Sg:SpF 34 MU Oc U0:=SpI Tryz.func93 (by kernel_rfl)
theorem J3:au Tryz.prog MU = true:=by kernel_rfl
abbrev KA:FuncId:=94
def Mx:AC:=
(qL [zc 2 5 0,
oX 3 0] [1,2]
(.seq (qL [oV 4 5 0 2,
oQ 5 0 4,
ol 6 5,
xZ 7 6,
zR 8 7 1,
ol 9 1,
oP 10 (.lit 0 1 1 [(0,.t 9)]),
vi 11 53 [false,false,true] [cI 0,.t 8,.t 10]] [1,11]
(.cond (.t 11)
(qL [oX 3 (-1)] [3]
.ret)
.skip))
(qL [ol 12 1,
mV 3 12] [3]
.ret)))
abbrev UC:RsT:=[(3,none)]
theorem UE:SpF 13 KA Mx UC:=SpI Tryz.func94 (by kernel_rfl)
theorem TC:au Tryz.prog KA = true:=by kernel_rfl
abbrev NY:FuncId:=95
def Oz:AC:=
(qL [zc 5 5 0,
oP 10 (.mv (.c (.bool false)))] [1,2,3,4,5]
(qL [oQ 21 1 5,
ol 22 21,
xZ 23 22,
vi 24 75 vq [.t 23],
mV 11 24] [1,2,3,4,5,11]
(.seq (qL [oX 12 0] [1,2,3,4,5,11,12]
(.block 0
(.loop [1,2,3,4,5,11,12]
(.seq (qL [mV 25 12,
mV 26 11,
zS 27 25 26] [1,2,3,4,5,11,12,27]
(.cond (.t 27)
.skip
(.exit 0)))
(.seq (.block 1
(qL [oG 31 5 5,
mV 32 1,
mV 33 2,
mV 34 12,
vi 35 76 [true,true,false,false] [.t 31,.t 32,.t 33,.t 34],
mV 30 35,
xi 36 30 0,
xi 37 30 1,
mV 13 36,
mV 14 37] [1,2,3,4,5,11,12,13,14]
(.seq (qL [mV 38 13,
wm 39 38 0,
mV 40 39,
wy 41 40 14,
gF 42 40 (.bin .lss (.t 41) (cI 0)),
oP 43 (.pick (.t 40) (.c (.bool true)) (.t 42))] [1,2,3,4,5,11,12,43]
(.cond (.t 43)
(qL [oP 10 (.mv (.c (.bool false)))] [10]
.ret)
.skip))
(qL [oG 44 5 5,
mV 45 1,
mV 46 2,
mV 47 12,
vi 48 131 [true,true,false,false] [.t 44,.t 45,.t 46,.t 47],
oP 15 (.alloc qE),
xn 2 15 48] [1,2,3,4,5,11,12,15]
(qL [oG 50 5 5,
mV 51 2,
mV 52 12,
vi 53 132 [true,false,false] [.t 50,.t 51,.t 52],
mV 49 53,
xi 54 49 0,
xi 55 49 1,
oP 16 (.alloc qE),
xn 2 16 54,
mV 17 55] [1,2,3,4,5,11,12,15,16,17]
(.frz 16 true (.seq (qL [oX 18 0] [1,2,3,4,5,11,12,15,16,17,18]
(.block 2
(.loop [1,2,3,4,5,11,12,15,16,17,18]
(.seq (qL [mV 56 18,
oQ 57 3 5,
ol 58 57,
xZ 59 58,
zS 60 56 59] [1,2,3,4,5,11,12,15,16,17,18,60]
(.cond (.t 60)
.skip
(.exit 2)))
(.seq (.block 3
(.seq (.dreg [oQ 63 3 5,
ol 64 63,
mV 65 18,
xC 66 5 64 65,
oG 67 5 66,
mV 68 1,
mV 69 18,
xC 70 2 68 69,
oG 71 2 70,
oP 19 (.alloc qr),
oP 20 (.alloc qE),
xn 5 19 67,
xn 2 20 71] [1,2,3,4,5,11,12,15,16,17,18,19,20] [[],[0],[],[0,1,2],yb 4,[],[],[5,6],[5,6,7],[],[],[0,1,2,3,4,9,10],yb 12])
(.seq (qL [oQ 72 0 19,
ol 73 72,
mV 74 2,
kR 75 73 74,
mV 76 75,
gF 77 76 (.load (some 5) (.t 5)),
wy 78 76 18,
gF 79 76 (.call (.f 46) vy [.t 77,.t 78]),
gF 80 76 (.un .not (.t 79)),
oP 81 (.pick (.t 76) (.c (.bool true)) (.t 80))] [1,2,3,4,5,11,12,15,16,17,18,19,20,81]
(.cond (.t 81)
(.exit 3)
.skip))
(.seq (qL [oQ 82 2 19,
ol 83 82,
kw 84 83 (-1)] [1,2,3,4,5,11,12,15,16,17,18,19,20,84]
(.cond (.t 84)
(qL [oQ 85 0 15,
ol 86 85,
oQ 87 0 20,
ol 88 87,
zz 89 86 88,
oQ 90 1 15,
ol 91 90,
oQ 92 1 20,
ol 93 92,
zz 94 91 93,
oP 95 (.build qE [(0,1,.t 89),(1,1,.t 94)]),
xn 2 15 95] [1,2,3,4,5,11,12,15,16,17,18,19,20]
(qL [mV 96 12,
oQ 97 1 19,
ol 98 97,
vi 99 142 vV [.t 96,.t 98]] [1,2,3,4,5,11,12,15,16,17,18,19,20,99]
(.cond (.t 99)
(.reg [oQ 100 0 15,
ol 101 100,
oQ 102 1 20,
ol 103 102,
zz 104 101 103,
oQ 105 0 20,
ol 106 105,
zI 107 104 106,
oQ 108 1 15,
ol 109 108,
oQ 110 0 20,
ol 111 110,
zz 112 109 111,
oQ 113 1 20,
ol 114 113,
zI 115 112 114,
oP 116 (.build qE [(0,1,.t 107),(1,1,.t 115)]),
xn 2 15 116] [1,2,3,4,5,11,12,15,16,17,18,19,20])
.skip)))
.skip))
(qL [oQ 117 1 19,
ol 118 117,
kw 119 118 (-1)] [1,2,3,4,5,11,12,15,16,17,18,19,20,119]
(.cond (.t 119)
(qL [oQ 120 0 15,
ol 121 120,
oQ 122 1 20,
ol 123 122,
zI 124 121 123,
oQ 125 1 15,
ol 126 125,
oQ 127 0 20,
ol 128 127,
zI 129 126 128,
oP 130 (.build qE [(0,1,.t 124),(1,1,.t 129)]),
xn 2 15 130] [1,2,3,4,5,11,12,15,16,17,18,19,20]
(qL [mV 131 12,
oQ 132 2 19,
ol 133 132,
vi 134 142 vV [.t 131,.t 133]] [1,2,3,4,5,11,12,15,16,17,18,20,134]
(.cond (.t 134)
(.reg [oQ 135 0 15,
ol 136 135,
oQ 137 1 20,
ol 138 137,
zz 139 136 138,
oQ 140 0 20,
ol 141 140,
zI 142 139 141,
oQ 143 1 15,
ol 144 143,
oQ 145 0 20,
ol 146 145,
zz 147 144 146,
oQ 148 1 20,
ol 149 148,
zI 150 147 149,
oP 151 (.build qE [(0,1,.t 142),(1,1,.t 150)]),
xn 2 15 151] [1,2,3,4,5,11,12,15,16,17,18])
.skip)))
.skip))))))
(.reg [mV 61 18,
zE 62 61 1,
mV 18 62] [1,2,3,4,5,11,12,15,16,17,18]))))))
(qL [mV 152 17,
mV 153 152,
wt 154 153 0 15,
wo 155 153 154,
wt 156 153 1 16,
wo 157 153 156,
wn 158 153 4,
gT 159 153 (.bin .add (.t 157) (.t 158)),
gT 160 153 (.bin .gtr (.t 155) (.t 159)),
oP 161 (.pick (.t 153) (.t 160) (.c (.bool false))),
mV 162 161,
wJ 163 162 1 15,
wI 164 162 163,
wJ 165 162 0 16,
wI 166 162 165,
wy 167 162 3,
gF 168 162 (.bin .add (.t 166) (.t 167)),
gF 169 162 (.bin .lss (.t 164) (.t 168)),
oP 170 (.pick (.t 162) (.c (.bool true)) (.t 169))] [1,2,3,4,5,11,12,170]
(.cond (.t 170)
(qL [oP 10 (.mv (.c (.bool false)))] [10]
.ret)
.skip)))))))))
(.reg [mV 28 12,
zE 29 28 1,
mV 12 29] [1,2,3,4,5,11,12]))))))
(qL [oP 10 (.mv (.c (.bool true)))] [10]
.ret))))
abbrev SQ:RsT:=[(10,none)]
theorem Uz:SpF 171 NY Oz SQ:=SpI Tryz.func95 (by kernel_rfl)
theorem Kc:au Tryz.prog NY = true:=by kernel_rfl
abbrev NH:FuncId:=96
def Qn:AC:=
(qL [zc 1 5 0,
⟨some 2,none, .mv (.c (.str ⟨#[]⟩))⟩] [1]
(qL [oP 3 (.allocB)] [1,3]
(qL [oP 10 (.mkfunc (.func 143) [] [.t 3]),
oP 4 (.alloc [.nilfunc]),
xn 1 4 10] [1,3,4]
(.frz 4 false (qL [oP 11 (.mkfunc (.func 146) [] [.t 4,.t 1]),
mV 5 11] [1,3,4,5]
(qL [oP 12 (.mkfunc (.func 148) [] [.t 1]),
mV 6 12] [1,3,4,5,6]
(.seq (.qreg [ol 13 4,
⟨some 14,none, .lit 1 1 1 [(0,(.c (.str ⟨#[107,105,110,100,115]⟩)))]⟩,
oV 15 5 0 1,
oQ 16 0 15,
ol 17 16,
oP 18 (.append 1 16 (.t 14) (.t 17)),
oP 19 (.call (.t 13) vo [.t 18])] [1,3,4,5,6] [[],[],[],[2],[2,3],[1,2,3,4],yb 6] [([0,2,3,4],1),([],5),([],6)] [])
(.seq (.qreg [ol 20 4,
⟨some 21,none, .lit 1 1 1 [(0,(.c (.str ⟨#[112,108,97,99,101,115]⟩)))]⟩,
oV 22 5 0 1,
oQ 23 1 22,
ol 24 23,
oP 25 (.append 1 16 (.t 21) (.t 24)),
oP 26 (.call (.t 20) vo [.t 25])] [1,3,4,5,6] [[],[],[],[2],[2,3],[1,2,3,4],yb 6] [([0,2,3,4],1),([],5),([],6)] [])
(qL [mV 27 5,
oV 28 5 0 1,
oQ 29 2 28,
ol 30 29,
⟨some 31,none, .call (.t 27) [false,true] [(.c (.str ⟨#[102,105,114,115,116]⟩)),.t 30]⟩] [1,3,4,5,6]
(.seq (qL [oV 32 5 0 1,
oQ 33 3 32,
ol 34 33,
xZ 35 34,
oX 36 0] [1,3,4,5,6,34,35,36]
(.block 0
(.loop [1,3,4,5,6,34,35,36]
(qL [zS 37 36 35] [1,3,4,5,6,34,35,36,37]
(.seq (.cond (.t 37)
.skip
(.exit 0))
(.seq (.block 1
(qL [xC 38 5 34 36,
oG 39 5 38,
oP 8 (.alloc qr),
xn 5 8 39] [1,3,4,5,6,8,34,35,36]
(.frz 8 true (qL [⟨some 9,none, .mv (.c (.str ⟨#[45]⟩))⟩] [1,3,4,5,6,8,9,34,35,36]
(.seq (qL [oQ 40 4 8,
ol 41 40,
wd 42 41 0] [1,3,4,5,6,8,9,34,35,36,42]
(.cond (.t 42)
(.reg [oQ 43 4 8,
ol 44 43,
vi 45 147 vq [.t 44],
mV 9 45] [1,3,4,5,6,8,9,34,35,36])
.skip))
(.creg [ol 46 4,
oV 47 5 0 1,
oQ 48 0 47,
ol 49 48,
oQ 50 0 8,
ol 51 50,
xC 52 1 49 51,
ol 53 52,
mV 54 6,
oQ 55 1 8,
ol 56 55,
oP 57 (.call (.t 54) vq [.t 56]),
mV 58 6,
oQ 59 2 8,
ol 60 59,
oP 61 (.call (.t 58) vq [.t 60]),
oQ 62 3 8,
ol 63 62,
vi 64 147 vq [.t 63],
mV 65 9,
⟨some 66,none, .lit 0 1 6 [(0,(.c (.str ⟨#[112,97,112,101,114]⟩))),(1,.t 53),(2,.t 57),(3,.t 61),(4,.t 64),(5,.t 65)]⟩,
oP 67 (.call (.t 46) vo [.t 66])] [1,3,4,5,6,34,35,36] [[],[],[1],[1,2],[],[4],[1,2,3,4,5],[1,2,3,4,5,6],[],[],[9],[8,9,10],[],[],[13],[8,9,10,11,12,13,14],[],[16],[8,9,10,11,12,13,14,15,16,17],[],[1,2,3,4,5,6,7,8,9,10,11,12,13,14,15,16,17,18,19],yb 21] [([0,1,2,3,4,5,6,7,8,9,10,11,12,13,14,15,16,17,18,19],20),([],21)] []))))))
(.reg [zE 68 36 1,
mV 36 68] [1,3,4,5,6,34,35,36])))))))
(qL [mV 69 5,
oV 70 5 0 1,
oQ 71 4 70,
ol 72 71,
⟨some 73,none, .call (.t 69) [false,true] [(.c (.str ⟨#[108,97,115,116]⟩)),.t 72]⟩] [3]
(qL [vi 74 149 vo [.t 3],
mV 2 74] [2]
.ret))))))))))))
abbrev Ta:RsT:=[(2,none)]
theorem TA:SpF 75 NH Qn Ta:=SpI Tryz.func96 (by kernel_rfl)
theorem Oe:au Tryz.prog NH = true:=by kernel_rfl
abbrev zZ:FuncId:=98
def JT:AC:=
(qL [mV 4 2,
oP 5 (.isnil true (.t 4))] [0,1,2,5]
(.cond (.t 5)
(.dreg [oP 6 (.build qJ []),
mV 7 2,
oP 8 (.assert 30 (.t 7)),
xn 5 0 6,
xn 1 1 8] [] [[],[],[1],[0],yb 4])
.skip))
theorem vb:Jj Tryz.prog Tryz.f98 9 3 2 JT = true:=by kernel_rfl
theorem Pe {args:List ag} {σ:af} {m:PM} {Q:PM → af → Prop} (ha:args.length ≤ 9) (h:AW Tryz.prog 9 none JT (Eb (Q m.after)) { v:=(2,m.val) :: (3, .undef) :: fE args 0,ds:=[] } σ):nx Tryz.prog zZ args σ m Q:=nx.wS Tryz.func98 vb ha h
theorem Oh:au Tryz.prog zZ = true:=by kernel_rfl
abbrev OF:FuncId:=99
theorem Nc:au Tryz.prog OF = true:=by kernel_rfl
abbrev Fe:FuncId:=100
def Jh:AC:=
(qL [mV 2 0,
zu 3 2] [3]
(.cond (.t 3)
(.reg [oP 4 (.mkiface 30 (cI 6)),
oN (.panic (.t 4))] [])
.skip))
abbrev R8:RsT:=[]
theorem Mc:SpF 5 Fe Jh R8:=SpI Tryz.func100 (by kernel_rfl)
theorem dT:au Tryz.prog Fe = true:=by kernel_rfl
abbrev lY:FuncId:=101
def kK:AC:=
(qL [zc 2 1 0,
zc 3 1 1] [2,3]
(qL [oP 5 (.mkfunc (.func 155) [] [.t 3,.t 2]),
mV 4 5] [2,3,4]
(qL [ol 6 3,
oP 7 (.ixS 1 (.t 6) (cI 0)),
ol 8 7] [2,3,4,8]
(.block 0
(qL [⟨some 11,none, .bin .eql (.t 8) (.c (.str ⟨#[107,105,110,100,115]⟩))⟩,
mV 10 11] [2,3,4,8,10]
(.cond (.t 10)
(.dreg [ol 12 2,
ol 13 3,
oP 14 (.subq 1 (.t 13) (some (cI 1)) none),
zr 15 12,
oV 16 5 0 15,
oQ 17 0 16,
xn 1 17 14] [] [[],[],[1],[0,1,2],yb 4,yb 5,yb 6])
(qL [⟨some 19,none, .bin .eql (.t 8) (.c (.str ⟨#[112,108,97,99,101,115]⟩))⟩,
mV 18 19] [2,3,4,8,18]
(.cond (.t 18)
(.dreg [ol 20 2,
ol 21 3,
oP 22 (.subq 1 (.t 21) (some (cI 1)) none),
zr 23 20,
oV 24 5 0 23,
oQ 25 1 24,
xn 1 25 22] [] [[],[],[1],[0,1,2],yb 4,yb 5,yb 6])
(qL [⟨some 27,none, .bin .eql (.t 8) (.c (.str ⟨#[102,105,114,115,116]⟩))⟩,
mV 26 27] [2,3,4,8,26]
(.cond (.t 26)
(.creg [ol 28 2,
ol 29 2,
zr 30 29,
oV 31 5 0 30,
oQ 32 2 31,
ol 33 32,
mV 34 4,
oP 35 (.call (.t 34) [] []),
oP 36 (.lit 0 4 1 [(0,.t 35)]),
oP 37 (.append 4 32 (.t 33) (.t 36)),
zr 38 28,
oV 39 5 0 38,
oQ 40 2 39,
xn 1 40 37] [] [[],[],[1],[1,2],[1,2,3],[1,2,3,4],[],[6],[6,7],[1,2,3,4,5,6,7,8],yb 10,yb 11,yb 12,yb 13] [([0,1,2,3,4,5,6],7),([],8),([],9),([10,11,12],13)] [])
(qL [⟨some 42,none, .bin .eql (.t 8) (.c (.str ⟨#[112,97,112,101,114]⟩))⟩,
mV 41 42] [2,3,4,8,41]
(.cond (.t 41)
(qL [ol 43 3,
xZ 44 43,
kw 45 44 6,
vi 46 100 vq [.t 45]] [2,3]
(.creg [ol 47 2,
ol 48 2,
zr 49 48,
oV 50 5 0 49,
oQ 51 3 50,
ol 52 51,
ol 53 2,
zr 54 53,
oV 55 5 0 54,
oQ 56 0 55,
ol 57 56,
ol 58 3,
oP 59 (.ixS 1 (.t 58) (cI 1)),
ol 60 59,
vi 61 156 [true,false,false] [.t 57,.t 60,(.c (.bool false))],
ol 62 2,
zr 63 62,
oV 64 5 0 63,
oQ 65 1 64,
ol 66 65,
ol 67 3,
oP 68 (.ixS 1 (.t 67) (cI 2)),
ol 69 68,
vi 70 156 [true,false,false] [.t 66,.t 69,(.c (.bool true))],
ol 71 2,
zr 72 71,
oV 73 5 0 72,
oQ 74 1 73,
ol 75 74,
ol 76 3,
oP 77 (.ixS 1 (.t 76) (cI 3)),
ol 78 77,
vi 79 156 [true,false,false] [.t 75,.t 78,(.c (.bool true))],
ol 80 3,
oP 81 (.ixS 1 (.t 80) (cI 4)),
ol 82 81,
vi 83 157 vV [.t 82,(.c (.bool false))],
ol 84 3,
oP 85 (.ixS 1 (.t 84) (cI 5)),
ol 86 85,
vi 87 157 vV [.t 86,(.c (.bool true))],
oP 88 (.build qr [(0,1,.t 61),(1,1,.t 70),(2,1,.t 79),(3,1,.t 83),(4,1,.t 87)]),
oP 89 (.lit 0 5 1 [(0,.t 88)]),
oP 90 (.append 5 40 (.t 52) (.t 89)),
zr 91 47,
oV 92 5 0 91,
oQ 93 3 92,
xn 1 93 90] [] [[],[],[1],[1,2],[1,2,3],[1,2,3,4],[],[6],[6,7],[6,7,8],[6,7,8,9],[],[11],[11,12],[6,7,8,9,10,11,12,13],[],[15],[15,16],[15,16,17],[15,16,17,18],[],[20],[20,21],[6,7,8,9,10,11,12,13,14,15,16,17,18,19,20,21,22],[],[24],[24,25],[24,25,26],[24,25,26,27],[],[29],[29,30],[6,7,8,9,10,11,12,13,14,15,16,17,18,19,20,21,22,23,24,25,26,27,28,29,30,31],[],[33],[33,34],[6,7,8,9,10,11,12,13,14,15,16,17,18,19,20,21,22,23,24,25,26,27,28,29,30,31,32,33,34,35],[],[37],[37,38],[6,7,8,9,10,11,12,13,14,15,16,17,18,19,20,21,22,23,24,25,26,27,28,29,30,31,32,33,34,35,36,37,38,39],[6,7,8,9,10,11,12,13,14,15,16,17,18,19,20,21,22,23,24,25,26,27,28,29,30,31,32,33,34,35,36,37,38,39,40],[6,7,8,9,10,11,12,13,14,15,16,17,18,19,20,21,22,23,24,25,26,27,28,29,30,31,32,33,34,35,36,37,38,39,40,41],[1,2,3,4,5,6,7,8,9,10,11,12,13,14,15,16,17,18,19,20,21,22,23,24,25,26,27,28,29,30,31,32,33,34,35,36,37,38,39,40,41,42],yb 44,yb 45,yb 46,yb 47] [([0,1,2,3,4,5,6,7,8,9,10,11,12,13,15,16,17,18,19,20,21,22,24,25,26,27,28,29,30,31,33,34,35,37,38,39],14),([],23),([],32),([],36),([],40),([41],42),([],43),([44,45,46],47)] []))
(qL [⟨some 95,none, .bin .eql (.t 8) (.c (.str ⟨#[108,97,115,116]⟩))⟩,
mV 94 95] [2,4,94]
(.cond (.t 94)
(.creg [ol 96 2,
ol 97 2,
zr 98 97,
oV 99 5 0 98,
oQ 100 4 99,
ol 101 100,
mV 102 4,
oP 103 (.call (.t 102) [] []),
oP 104 (.lit 0 4 1 [(0,.t 103)]),
oP 105 (.append 4 32 (.t 101) (.t 104)),
zr 106 96,
oV 107 5 0 106,
oQ 108 4 107,
xn 1 108 105] [] [[],[],[1],[1,2],[1,2,3],[1,2,3,4],[],[6],[6,7],[1,2,3,4,5,6,7,8],yb 10,yb 11,yb 12,yb 13] [([0,1,2,3,4,5,6],7),([],8),([],9),([10,11,12],13)] [])
(.reg [vi 9 100 vq [(.c (.bool false))]] [])))))))))))))))
abbrev RW:RsT:=[]
theorem qg:SpF 109 lY kK RW:=SpI Tryz.func101 (by kernel_rfl)
theorem LG:au Tryz.prog lY = true:=by kernel_rfl
abbrev Lo:FuncId:=102
theorem Mp:au Tryz.prog Lo = true:=by kernel_rfl
abbrev Fp:FuncId:=106
def Mr:AC:=
(qL [oP 4 (.mv (.c (.bool false)))] [0,1]
(qL [mV 7 0,
xZ 8 7,
mV 9 1,
xZ 10 9,
kl 11 8 10,
mV 5 11] [0,1,5]
(.seq (qL [oX 6 0] [0,1,5,6]
(.block 0
(.loop [0,1,5,6]
(.seq (qL [mV 12 6,
mV 13 0,
xZ 14 13,
zS 15 12 14,
mV 16 15,
wn 17 16 5,
oP 18 (.pick (.t 16) (.t 17) (.c (.bool false)))] [0,1,5,6,18]
(.cond (.t 18)
.skip
(.exit 0)))
(.seq (.block 1
(.dreg [mV 21 0,
mV 22 6,
xC 23 1 21 22,
ol 24 23,
mV 25 1,
mV 26 6,
xC 27 1 25 26,
ol 28 27,
kl 29 24 28,
mV 5 29] [0,1,5,6] [[],[],[0,1],[0,1,2],[],[],[4,5],[4,5,6],yb 8,yb 9]))
(.reg [mV 19 6,
zE 20 19 1,
mV 6 20] [0,1,5,6]))))))
(qL [mV 30 5,
mV 4 30] [4]
.ret))))
abbrev Pp:RsT:=[(4,none)]
theorem QK:SpF 31 Fp Mr Pp:=SpI Tryz.func106 (by kernel_rfl)
theorem Lu:au Tryz.prog Fp = true:=by kernel_rfl
abbrev Hl:FuncId:=107
def LX:AC:=
(qL [oP 4 (.mv (.c (.bool false)))] [0,1]
(qL [mV 7 0,
xZ 8 7,
mV 9 1,
xZ 10 9,
kl 11 8 10,
mV 5 11] [0,1,5]
(.seq (qL [oX 6 0] [0,1,5,6]
(.block 0
(.loop [0,1,5,6]
(.seq (qL [mV 12 6,
mV 13 0,
xZ 14 13,
zS 15 12 14,
mV 16 15,
wn 17 16 5,
oP 18 (.pick (.t 16) (.t 17) (.c (.bool false)))] [0,1,5,6,18]
(.cond (.t 18)
.skip
(.exit 0)))
(.seq (.block 1
(.dreg [mV 21 0,
mV 22 6,
xC 23 4 21 22,
oG 24 4 23,
mV 25 1,
mV 26 6,
xC 27 4 25 26,
oG 28 4 27,
oP 29 (.eqa false [.i, .i, .i, .i] (.t 24) (.t 28)),
mV 5 29] [0,1,5,6] [[],[],[0,1],[0,1,2],[],[],[4,5],[4,5,6],yb 8,yb 9]))
(.reg [mV 19 6,
zE 20 19 1,
mV 6 20] [0,1,5,6]))))))
(qL [mV 30 5,
mV 4 30] [4]
.ret))))
abbrev RV:RsT:=[(4,none)]
theorem PY:SpF 31 Hl LX RV:=SpI Tryz.func107 (by kernel_rfl)
theorem L7:au Tryz.prog Hl = true:=by kernel_rfl
abbrev IA:FuncId:=109
def Mm:AC:=
(qL [oP 6 (.mv (.c (.bool false)))] [0,1,2]
(qL [mV 7 1,
mV 8 0,
oP 9 (.bin .leq (.t 7) (.t 8)),
mV 10 9,
wn 11 10 0,
wn 12 10 2,
gT 13 10 (.bin .leq (.t 11) (.t 12)),
oP 14 (.pick (.t 10) (.t 13) (.c (.bool false))),
mV 6 14] [6]
.ret))
abbrev Pz:RsT:=[(6,none)]
theorem Rt:SpF 15 IA Mm Pz:=SpI Tryz.func109 (by kernel_rfl)
theorem wX:au Tryz.prog IA = true:=by kernel_rfl
abbrev Ik:FuncId:=110
def Mu:AC:=
(qL [oP 4 (.mv (.c (.bool false)))] [0,1]
(qL [mV 5 0,
mV 6 1,
vi 7 160 vy [.t 5,.t 6],
wd 8 7 0,
mV 4 8] [4]
.ret))
abbrev OS:RsT:=[(4,none)]
theorem Ox:SpF 9 Ik Mu OS:=SpI Tryz.func110 (by kernel_rfl)
theorem Rz:au Tryz.prog Ik = true:=by kernel_rfl
abbrev HU:FuncId:=111
def Lv:AC:=
(qL [oP 4 (.mv (.c (.bool false)))] [0,1,2]
(qL [mV 5 0,
ol 6 1,
zS 7 5 6,
mV 8 7,
wy 9 8 0,
wI 10 8 2,
gF 11 8 (.bin .gtr (.t 9) (.t 10)),
oP 12 (.pick (.t 8) (.c (.bool true)) (.t 11)),
mV 4 12] [4]
.ret))
abbrev Rj:RsT:=[(4,none)]
theorem OU:SpF 13 HU Lv Rj:=SpI Tryz.func111 (by kernel_rfl)
theorem P4:au Tryz.prog HU = true:=by kernel_rfl
abbrev Fy:FuncId:=112
def LH:AC:=
(qL [oX 4 0,
oX 5 0] [0,1]
(.seq (qL [mV 8 0,
xZ 9 8,
oX 10 0] [1,8,9,10]
(.block 0
(.loop [1,8,9,10]
(qL [zS 11 10 9] [1,8,9,10,11]
(.seq (.cond (.t 11)
.skip
(.exit 0))
(.seq (.block 1
(qL [mV 12 10,
xC 13 1 8 10,
ol 14 13,
mV 6 12,
mV 7 14] [1,6,7,8,9,10]
(qL [mV 15 1,
mV 16 6,
mV 17 7,
oP 18 (.call (.t 15) vV [.t 16,.t 17]),
mV 5 18] [1,5,6,8,9,10]
(qL [mV 19 5,
wc 20 19 0] [1,5,6,8,9,10,20]
(.cond (.t 20)
(qL [mV 21 6,
mV 22 5,
mV 4 21,
mV 5 22] [4,5]
.ret)
.skip)))))
(.reg [zE 23 10 1,
mV 10 23] [1,8,9,10])))))))
(qL [oX 4 0,
oX 5 0] [4,5]
.ret)))
abbrev Rk:RsT:=[(4,none),(5,none)]
theorem O2:SpF 24 Fy LH Rk:=SpI Tryz.func112 (by kernel_rfl)
theorem Oj:au Tryz.prog Fy = true:=by kernel_rfl
abbrev ES:FuncId:=113
def E4:AC:=
(qL [oX 5 0] [0,1,2]
(.seq (.block 0
(qL [mV 7 1,
vi 8 114 vq [.t 7],
zu 9 8,
mV 6 9] [0,1,2,6]
(.cond (.t 6)
(qL [oX 5 6] [5]
.ret)
(qL [ol 11 2,
mV 12 0,
oP 13 (.subq 1 (.t 11) none (some (.t 12))),
mV 14 1,
vi 15 115 vy [.t 13,.t 14],
mV 10 15] [10]
(.cond (.t 10)
(qL [oX 5 5] [5]
.ret)
.skip)))))
(qL [oX 5 0] [5]
.ret)))
abbrev RH:RsT:=[(5,none)]
theorem O7:SpF 16 ES E4 RH:=SpI Tryz.func113 (by kernel_rfl)
theorem RF:au Tryz.prog ES = true:=by kernel_rfl
abbrev Hm:FuncId:=114
def Mg:AC:=
(qL [oP 2 (.mv (.c (.bool false)))] [0]
(.seq (qL [mV 7 0,
oP 8 (.range (.t 7))] [0,8]
(.block 0
(.loop [0,8]
(qL [oP 9 (.next (.t 8)),
xi 10 9 0] [0,8,9,10]
(.seq (.cond (.t 10)
.skip
(.exit 0))
(.block 1
(qL [xi 11 9 1,
xi 12 9 2,
mV 3 11,
mV 4 12] [0,3,4,8]
(qL [mV 13 4,
oP 14 (.bin .geq (.t 13) (.c (.int .i32 97))),
mV 15 14,
wn 16 15 4,
gT 17 15 (.bin .leq (.t 16) (.c (.int .i32 122))),
oP 18 (.pick (.t 15) (.t 17) (.c (.bool false))),
mV 19 4,
oP 20 (.bin .geq (.t 19) (.c (.int .i32 48))),
mV 21 20,
wn 22 21 4,
gT 23 21 (.bin .leq (.t 22) (.c (.int .i32 57))),
oP 24 (.pick (.t 21) (.t 23) (.c (.bool false))),
mV 5 18,
mV 6 24] [0,3,5,6,8]
(qL [mV 25 5,
zu 26 25,
mV 27 26,
wn 28 27 6,
gT 29 27 (.un .not (.t 28)),
wn 30 27 29,
wy 31 30 3,
gF 32 30 (.bin .eql (.t 31) (cI 0)),
gT 33 27 (.pick (.t 30) (.c (.bool true)) (.t 32)),
oP 34 (.pick (.t 27) (.t 33) (.c (.bool false)))] [0,8,34]
(.cond (.t 34)
(qL [oP 2 (.mv (.c (.bool false)))] [2]
.ret)
.skip))))))))))
(qL [mV 35 0,
⟨some 36,none, .bin .neq (.t 35) (.c (.str ⟨#[]⟩))⟩,
mV 37 36,
wn 38 37 0,
gT 39 37 (.lenStr (.t 38)),
gT 40 37 (.bin .leq (.t 39) (cI 16)),
oP 41 (.pick (.t 37) (.t 40) (.c (.bool false))),
mV 2 41] [2]
.ret)))
abbrev Q4:RsT:=[(2,none)]
theorem RR:SpF 42 Hm Mg Q4:=SpI Tryz.func114 (by kernel_rfl)
theorem Ig:au Tryz.prog Hm = true:=by kernel_rfl
abbrev It:FuncId:=115
def LQ:AC:=
(qL [oP 4 (.mv (.c (.bool false)))] [0,1]
(qL [mV 5 0,
mV 6 1,
vi 7 161 vy [.t 5,.t 6],
wd 8 7 0,
mV 4 8] [4]
.ret))
abbrev OE:RsT:=[(4,none)]
theorem Qj:SpF 9 It LQ OE:=SpI Tryz.func115 (by kernel_rfl)
theorem LL:au Tryz.prog It = true:=by kernel_rfl
end Go.AM
