/- MADE BY PROGRAM (gen.py): the abstract code of functions of this seat, each checked against the given code by the kernel. -/
import Derived.Test.YtlmhkldmpggadaaGreatDoorChecked
import Derived.Test.YtlmhkldmpggadaaGreatDoorP23
import Derived.Test.YtlmhkldmpggadaaGreatDoorP24
namespace Go.AM
open Go.Proofs
@[simp] abbrev mV (d s:Nat):aL:=⟨some d,none, .mv (.t s)⟩
@[simp] abbrev oP (d:Nat) (i:AI):aL:=⟨some d,none,i⟩
@[simp] abbrev oN (i:AI):aL:=⟨none,none,i⟩
@[simp] abbrev gT (d g:Nat) (i:AI):aL:=⟨some d,some (g,true),i⟩
@[simp] abbrev gF (d g:Nat) (i:AI):aL:=⟨some d,some (g,false),i⟩
abbrev RsT:=List (Nat × Option (Option Nat))
abbrev SpF (n:Nat) (F:FuncId) (C:AC) (Rs:RsT):Prop:=∀ {args:List ag} {σ:af} {R:fq → af → Prop},args.length ≤ n → AW Tryz.prog n none C (Cb Rs R) { v:=fE args 0,ds:=[] } σ → Spec Tryz.prog F args σ R
theorem SpI {n:Nat} {F:FuncId} {fn:Func} {C:AC} {Rs:RsT} (hf:Tryz.prog.funcs[F]? = some fn) (hk:x9 Tryz.prog fn n C Rs = true):SpF n F C Rs:=fun ha h=>Spec.wS hf hk ha h
@[simp] abbrev cI (n:Int):aO:=.c (.int .i64 n)
@[simp] abbrev oc (d a:Nat):aL:=⟨some d,none,.load none (.t a)⟩
@[simp] abbrev oe (d k a:Nat):aL:=⟨some d,none,.load (some k) (.t a)⟩
@[simp] abbrev oI (d k a:Nat):aL:=⟨some d,none,.fieldAddr none k (.t a)⟩
@[simp] abbrev oK (d s k a:Nat):aL:=⟨some d,none,.fieldAddr (some s) k (.t a)⟩
@[simp] abbrev oR (d:Nat) (n:Int):aL:=⟨some d,none,.mv (cI n)⟩
@[simp] abbrev xr (d a k:Nat):aL:=⟨some d,none,.extract (.t a) k⟩
@[simp] abbrev xx (k a b:Nat):aL:=⟨none,none,.store k (.t a) (.t b)⟩
@[simp] abbrev xT (d k a b:Nat):aL:=⟨some d,none,.ixS k (.t a) (.t b)⟩
@[simp] abbrev zh (d a:Nat):aL:=⟨some d,none,.len (.t a)⟩
@[simp] abbrev zw (d k a:Nat):aL:=⟨some d,none,.pbox k (.t a)⟩
@[simp] abbrev ka (d a:Nat):aL:=⟨some d,none,.nilchk (.t a)⟩
@[simp] abbrev kb (d a:Nat):aL:=⟨some d,none,.un .not (.t a)⟩
@[simp] abbrev kj (d a b:Nat):aL:=⟨some d,none,.bin .add (.t a) (.t b)⟩
@[simp] abbrev kw (d a:Nat) (n:Int):aL:=⟨some d,none,.bin .add (.t a) (cI n)⟩
@[simp] abbrev kD (d a b:Nat):aL:=⟨some d,none,.bin .sub (.t a) (.t b)⟩
@[simp] abbrev kL (d a:Nat) (n:Int):aL:=⟨some d,none,.bin .sub (.t a) (cI n)⟩
@[simp] abbrev kN (d a b:Nat):aL:=⟨some d,none,.bin .lss (.t a) (.t b)⟩
@[simp] abbrev kS (d a:Nat) (n:Int):aL:=⟨some d,none,.bin .lss (.t a) (cI n)⟩
@[simp] abbrev kV (d a b:Nat):aL:=⟨some d,none,.bin .eql (.t a) (.t b)⟩
@[simp] abbrev wb (d a:Nat) (n:Int):aL:=⟨some d,none,.bin .eql (.t a) (cI n)⟩
@[simp] abbrev wd (d a b:Nat):aL:=⟨some d,none,.bin .neq (.t a) (.t b)⟩
@[simp] abbrev wh (d a:Nat) (n:Int):aL:=⟨some d,none,.bin .neq (.t a) (cI n)⟩
@[simp] abbrev wl (d a:Nat) (n:Int):aL:=⟨some d,none,.bin .geq (.t a) (cI n)⟩
@[simp] abbrev wn (d a:Nat) (n:Int):aL:=⟨some d,none,.bin .gtr (.t a) (cI n)⟩
@[simp] abbrev wq (d g a:Nat):aL:=⟨some d,some (g,true),.mv (.t a)⟩
@[simp] abbrev wt (d g a:Nat):aL:=⟨some d,some (g,true),.load none (.t a)⟩
@[simp] abbrev ww (d g k a:Nat):aL:=⟨some d,some (g,true),.fieldAddr none k (.t a)⟩
@[simp] abbrev wx (d g a:Nat) (n:Int):aL:=⟨some d,some (g,true),.bin .eql (.t a) (cI n)⟩
@[simp] abbrev wP (d g a:Nat):aL:=⟨some d,some (g,true),.len (.t a)⟩
@[simp] abbrev wW (d g k a b:Nat):aL:=⟨some d,some (g,true),.ixS k (.t a) (.t b)⟩
@[simp] abbrev ve (d g a:Nat):aL:=⟨some d,some (g,false),.mv (.t a)⟩
@[simp] abbrev vG (d g a:Nat):aL:=⟨some d,some (g,false),.load none (.t a)⟩
@[simp] abbrev vS (d g k a:Nat):aL:=⟨some d,some (g,false),.fieldAddr none k (.t a)⟩
@[simp] abbrev qr (d g a:Nat):aL:=⟨some d,some (g,false),.len (.t a)⟩
@[simp] abbrev qv (d f:Nat) (l:List Bool) (a:List aO):aL:=⟨some d,none,.call (.f f) l a⟩
@[simp] abbrev qB :List Bool:=[true,true]
@[simp] abbrev qD :List Bool:=[true]
@[simp] abbrev qF :List Bool:=[false]
@[simp] abbrev qK :List Bool:=[true,false]
@[simp] abbrev qO :List Bool:=[false,false]
@[simp] abbrev yq :List Bool:=[true,true,false]
@[simp] abbrev yu :List ag:=[.int .i64 0,.int .i64 0,.int .i64 0,.int .i64 0,.int .i64 0]
@[simp] abbrev yF :List ag:=[.int .i64 0,.int .i64 0,.int .i64 0,.int .i64 0]
@[simp] abbrev yH :List ag:=[.int .i64 0,.int .i64 0]
@[simp] abbrev ud :List ag:=[.slice 1 [],.slice 1 [],.slice 4 [],.slice 5 [],.slice 4 []]
@[simp] abbrev ul (o:List aL) (l:List Nat) (c:AC):AC:=.seq (.reg o l) c
abbrev ut (n:Nat):List Nat:=List.range n
abbrev F_6:FuncId:=6
def C_6:AC:=
(ul [zw 2 5 0,
oP 4 (.mv (.c (.bool false)))] [1,2]
(ul [oe 12 5 2,
qv 13 36 qD [.t 12],
mV 11 13,
xr 14 11 0,
xr 15 11 1,
mV 5 14,
mV 6 15] [1,2,5,6]
(ul [oe 17 5 2,
qv 18 37 qD [.t 17],
mV 16 18,
xr 19 16 0,
xr 20 16 1,
mV 7 19,
mV 8 20] [1,5,6,7,8]
(.seq (ul [mV 21 5,
mV 22 7,
wd 23 21 22,
mV 24 23,
ve 25 24 6,
ve 26 24 8,
gF 27 24 (.bin .neq (.t 25) (.t 26)),
oP 28 (.pick (.t 24) (.c (.bool true)) (.t 27))] [1,28]
(.cond (.t 28)
(ul [oP 4 (.mv (.c (.bool false)))] [4]
.ret)
.skip))
(ul [mV 30 1,
qv 31 38 qF [.t 30],
mV 29 31,
xr 32 29 0,
xr 33 29 1,
oP 9 (.alloc ud),
xx 5 9 32,
mV 6 33] [1,6,9]
(.frz 9 true (ul [mV 35 1,
qv 36 39 qF [.t 35],
mV 34 36,
xr 37 34 0,
xr 38 34 1,
oP 10 (.alloc ud),
xx 5 10 37,
mV 8 38] [6,8,9,10]
(.frz 10 true (ul [oe 39 5 9,
oe 40 5 10,
qv 41 40 qB [.t 39,.t 40],
mV 42 41,
wq 43 42 6,
wq 44 42 8,
gT 45 42 (.bin .eql (.t 43) (.t 44)),
oP 46 (.pick (.t 42) (.t 45) (.c (.bool false))),
mV 47 46,
gT 48 47 (.call (.f 24) [] []),
oP 49 (.pick (.t 47) (.t 48) (.c (.bool false))),
mV 4 49] [4]
.ret)))))))))
abbrev R_6:RsT:=[(4,none)]
theorem K_6:x9 Tryz.prog Tryz.f6 50 C_6 R_6 = true:=by kernel_rfl
theorem S_6:SpF 50 F_6 C_6 R_6:=fun ha h=>Spec.wS Tryz.func6 K_6 ha h
abbrev F_7:FuncId:=7
abbrev zrr (n : Nat) : List Nat := List.range n
def zll : List (List Nat) := [[],[0],[0,1],zrr 3,zrr 4,zrr 5,zrr 6,zrr 7,zrr 8,zrr 9,zrr 10,zrr 11,zrr 12,zrr 13,zrr 14,zrr 15,zrr 16,zrr 17,zrr 18,zrr 19,zrr 20,zrr 21,zrr 22,zrr 23,zrr 24,zrr 25,zrr 26,zrr 27,zrr 28,zrr 29,zrr 30,zrr 31,zrr 32,zrr 33,zrr 34,zrr 35,zrr 36,zrr 37,zrr 38,zrr 39,zrr 39,zrr 41,zrr 42,zrr 43,zrr 44,zrr 44,zrr 46,zrr 47,zrr 48,zrr 49,zrr 49,zrr 51,zrr 52,zrr 53,zrr 54,zrr 54,zrr 56,zrr 57,zrr 58,zrr 59,zrr 60,zrr 61,zrr 62,zrr 63,zrr 64,zrr 64,zrr 66,zrr 67,zrr 68,zrr 69,zrr 69,zrr 71,zrr 72,zrr 73,zrr 74,zrr 75,zrr 76]
def C_7:AC:=
(ul [oP 0 (.mv (.c (.bool false)))] []
(ul [qv 21 41 qF [(.c (.bool false))],
oP 1 (.alloc ud),
xx 5 1 21] [1]
(.frz 1 true (ul [oe 23 5 1,
oP 24 (.call (.f 18) qB [.t 23,(.c (.slice 1 []))]),
mV 22 24,
xr 25 22 0,
xr 26 22 1,
mV 2 25,
mV 3 26] [1,2,3]
(ul [oe 28 5 1,
oP 29 (.call (.f 20) qB [.t 28,(.c (.slice 1 []))]),
mV 27 29,
xr 30 27 0,
xr 31 27 1,
oP 4 (.alloc yF),
xx 4 4 30,
mV 5 31] [1,2,3,4,5]
(.frz 4 true (ul [oe 33 5 1,
oP 34 (.lit 0 1 1 [(0,cI 1)]),
qv 35 20 qB [.t 33,.t 34],
mV 32 35,
xr 36 32 0,
xr 37 32 1,
oP 6 (.alloc yF),
xx 4 6 36,
mV 7 37] [1,2,3,4,5,7]
(ul [qv 38 41 qF [(.c (.bool false))],
oP 8 (.alloc ud),
xx 5 8 38] [1,2,3,4,5,7,8]
(.seq (.dreg [oI 39 4 8,
oc 40 39,
qv 41 42 qO [cI 700,cI 700],
oP 42 (.ixS 4 (.t 40) (cI 1)),
oK 43 2 2 42,
xx 2 43 41] [1,2,3,4,5,7,8] [[],[0],[],[0,1,2],ut 4,ut 5])
(.DL 8 4 4 (ul [oe 45 5 8,
oP 46 (.lit 0 1 2 [(0,cI 1),(1,cI 2)]),
qv 47 20 qB [.t 45,.t 46],
mV 44 47,
xr 48 44 0,
xr 49 44 1,
oP 9 (.alloc yF),
xx 4 9 48,
mV 10 49] [1,2,3,4,5,7,9,10]
(.frz 9 true (ul [oe 51 5 1,
qv 52 25 qD [.t 51],
mV 50 52,
xr 53 50 0,
xr 54 50 1,
mV 11 53,
mV 12 54] [1,2,3,4,5,7,9,10,11,12]
(ul [oe 56 5 1,
qv 57 30 qD [.t 56],
mV 55 57,
xr 58 55 0,
xr 59 55 1,
mV 13 58,
mV 14 59] [1,2,3,4,5,7,9,10,11,12,13,14]
(ul [qv 61 41 qF [(.c (.bool true))],
qv 62 28 qD [.t 61],
mV 60 62,
xr 63 60 0,
xr 64 60 1,
mV 15 63,
mV 16 64] [1,2,3,4,5,7,9,10,11,12,13,14,15,16]
(ul [oe 66 5 1,
oP 67 (.lit 0 1 2 [(0,cI 0),(1,cI 1)]),
qv 68 32 yq [.t 66,.t 67,cI 0],
mV 65 68,
xr 69 65 0,
xr 70 65 1,
oP 17 (.alloc yH),
xx 2 17 69,
mV 18 70] [1,2,3,4,5,7,9,10,11,12,13,14,15,16,17,18]
(.frz 17 true (ul [oe 72 5 1,
oP 73 (.lit 0 1 1 [(0,cI 1)]),
qv 74 34 yq [.t 72,.t 73,cI 1],
mV 71 74,
xr 75 71 0,
xr 76 71 1,
oP 19 (.alloc yH),
xx 2 19 75,
mV 20 76] [2,3,4,5,7,9,10,11,12,13,14,15,16,17,18,19,20]
(.frz 19 true (.seq (.dreg [mV 77 3,
wb 78 77 0,
mV 79 78,
wq 80 79 5,
wx 81 79 80 0,
oP 82 (.pick (.t 79) (.t 81) (.c (.bool false))),
mV 83 82,
wq 84 83 10,
wx 85 83 84 0,
oP 86 (.pick (.t 83) (.t 85) (.c (.bool false))),
mV 87 86,
wq 88 87 12,
wx 89 87 88 0,
oP 90 (.pick (.t 87) (.t 89) (.c (.bool false))),
mV 91 90,
wq 92 91 14,
wx 93 91 92 0,
oP 94 (.pick (.t 91) (.t 93) (.c (.bool false))),
mV 95 94,
wq 96 95 16,
wx 97 95 96 0,
oP 98 (.pick (.t 95) (.t 97) (.c (.bool false))),
mV 99 98,
wq 100 99 18,
wx 101 99 100 0,
oP 102 (.pick (.t 99) (.t 101) (.c (.bool false))),
mV 103 102,
wq 104 103 20,
wx 105 103 104 0,
oP 106 (.pick (.t 103) (.t 105) (.c (.bool false))),
mV 107 106,
wq 108 107 7,
wx 109 107 108 4,
oP 110 (.pick (.t 107) (.t 109) (.c (.bool false))),
mV 111 110,
wq 112 111 2,
gT 113 111 (.un .not (.t 112)),
oP 114 (.pick (.t 111) (.t 113) (.c (.bool false))),
mV 115 114,
gT 116 115 (.load (some 4) (.t 4)),
gT 117 115 (.build yF []),
gT 118 115 (.eqa false [.i, .i, .i, .i] (.t 116) (.t 117)),
oP 119 (.pick (.t 115) (.t 118) (.c (.bool false))),
mV 120 119,
gT 121 120 (.load (some 4) (.t 9)),
gT 122 120 (.build yF [(0,1,cI (-1)),(2,1,cI 2),(3,1,cI (-100))]),
gT 123 120 (.eqa false [.i, .i, .i, .i] (.t 121) (.t 122)),
oP 124 (.pick (.t 120) (.t 123) (.c (.bool false))),
mV 125 124,
wq 126 125 11,
gT 127 125 (.lit 0 1 1 [(0,cI 1)]),
gT 128 125 (.call (.f 27) qB [.t 126,.t 127]),
oP 129 (.pick (.t 125) (.t 128) (.c (.bool false))),
mV 130 129,
wq 131 130 13,
gT 132 130 (.lit 0 1 1 [(0,cI 1)]),
gT 133 130 (.call (.f 27) qB [.t 131,.t 132]),
oP 134 (.pick (.t 130) (.t 133) (.c (.bool false))),
mV 135 134,
wq 136 135 15,
wP 137 135 136,
wx 138 135 137 0,
oP 139 (.pick (.t 135) (.t 138) (.c (.bool false))),
mV 140 139,
gT 141 140 (.load (some 2) (.t 17)),
gT 142 140 (.call (.f 42) qO [cI 600,cI 600]),
gT 143 140 (.eqa false [.i, .i] (.t 141) (.t 142)),
oP 144 (.pick (.t 140) (.t 143) (.c (.bool false))),
mV 145 144,
gT 146 145 (.load (some 2) (.t 19)),
gT 147 145 (.call (.f 42) qO [cI 0,cI 0]),
gT 148 145 (.eqa false [.i, .i] (.t 146) (.t 147)),
oP 149 (.pick (.t 145) (.t 148) (.c (.bool false))),
mV 150 149,
gT 151 150 (.call (.f 24) [] []),
oP 152 (.pick (.t 150) (.t 151) (.c (.bool false))),
mV 0 152] [0] zll)
.ret))))))))))))))))))))
abbrev R_7:RsT:=[(0,none)]
theorem S_7:SpF 153 F_7 C_7 R_7:=SpI Tryz.func7 (by kernel_rfl)
abbrev Sc:FuncId:=14
def NF:AC:=
(ul [zw 3 5 0,
oP 6 (.mv (.c (.bool false)))] [1,2,3]
(ul [oe 27 5 3,
mV 28 1,
qv 29 18 qB [.t 27,.t 28],
mV 26 29,
xr 30 26 0,
xr 31 26 1,
mV 7 30,
mV 8 31] [1,2,3,7,8]
(.seq (ul [oe 32 5 3,
mV 33 1,
qv 34 50 qB [.t 32,.t 33],
mV 9 34] [1,2,3,7,8,9]
(ul [mV 35 9,
wh 36 35 0] [1,2,3,7,8,9,36]
(.cond (.t 36)
(ul [mV 37 8,
mV 38 9,
kV 39 37 38,
mV 40 39,
wq 41 40 7,
gT 42 40 (.un .not (.t 41)),
oP 43 (.pick (.t 40) (.t 42) (.c (.bool false))),
mV 44 43,
gT 45 44 (.call (.f 24) [] []),
oP 46 (.pick (.t 44) (.t 45) (.c (.bool false))),
mV 6 46] [6]
.ret)
.skip)))
(ul [oP 10 (.mv (.c (.bool true)))] [1,2,3,7,8,10]
(.seq (ul [oR 11 0] [1,2,3,7,8,10,11]
(.block 0
(.loop [1,2,3,7,8,10,11]
(.seq (ul [mV 47 11,
oI 48 0 3,
oc 49 48,
zh 50 49,
kN 51 47 50] [1,2,3,7,8,10,11,51]
(.cond (.t 51)
.skip
(.exit 0)))
(.seq (.block 1
(ul [oe 55 5 3,
mV 56 11,
mV 57 1,
qv 58 51 [true,false,true] [.t 55,.t 56,.t 57],
mV 54 58,
xr 59 54 0,
xr 60 54 1,
oP 12 (.alloc ud),
xx 5 12 59,
mV 13 60] [1,2,3,7,8,10,11,12,13]
(.frz 12 true (ul [oe 62 5 12,
mV 63 13,
qv 64 18 qB [.t 62,.t 63],
mV 61 64,
xr 65 61 0,
xr 66 61 1,
mV 14 65,
mV 15 66] [1,2,3,7,8,10,11,14,15]
(.seq (ul [mV 67 15,
wh 68 67 0] [1,2,3,7,8,10,11,14,68]
(.cond (.t 68)
(ul [oP 6 (.mv (.c (.bool false)))] [6]
.ret)
.skip))
(.reg [mV 69 10,
mV 70 69,
wq 71 70 14,
oP 72 (.pick (.t 70) (.t 71) (.c (.bool false))),
mV 10 72] [1,2,3,7,8,10,11]))))))
(.reg [mV 52 11,
kw 53 52 1,
mV 11 53] [1,2,3,7,8,10,11]))))))
(ul [mV 73 2,
oP 74 (.conv .i64 (.t 73)),
oI 75 0 3,
oc 76 75,
zh 77 76,
oP 78 (.bin .rem (.t 74) (.t 77)),
mV 16 78] [1,3,7,8,10,16]
(ul [oe 80 5 3,
mV 81 1,
mV 82 16,
qv 83 34 yq [.t 80,.t 81,.t 82],
mV 79 83,
xr 84 79 0,
xr 85 79 1,
oP 17 (.alloc yH),
xx 2 17 84,
mV 18 85] [3,7,8,10,16,17,18]
(.frz 17 true (.seq (ul [mV 86 8,
wh 87 86 0,
mV 88 87,
ve 89 88 7,
ve 90 88 10,
gF 91 88 (.eqb true (.t 89) (.t 90)),
oP 92 (.pick (.t 88) (.c (.bool true)) (.t 91)),
mV 93 92,
ve 94 93 7,
ve 95 93 18,
gF 96 93 (.bin .eql (.t 95) (cI 0)),
gF 97 93 (.eqb true (.t 94) (.t 96)),
oP 98 (.pick (.t 93) (.c (.bool true)) (.t 97))] [3,7,16,17,18,98]
(.cond (.t 98)
(ul [oP 6 (.mv (.c (.bool false)))] [6]
.ret)
.skip))
(.seq (ul [mV 99 7,
kb 100 99] [3,16,17,18,100]
(.cond (.t 100)
(ul [mV 101 18,
wb 102 101 9,
mV 103 102,
gT 104 103 (.call (.f 24) [] []),
oP 105 (.pick (.t 103) (.t 104) (.c (.bool false))),
mV 6 105] [6]
.ret)
.skip))
(ul [qv 106 42 qO [cI 0,cI 0],
qv 107 42 qO [cI 0,cI 0],
oP 19 (.alloc yH),
oP 20 (.alloc yH),
xx 2 19 106,
xx 2 20 107,
oR 21 0] [3,16,17,19,20,21]
(.seq (ul [oR 22 0] [3,16,17,19,20,21,22]
(.block 2
(.loop [3,16,17,19,20,21,22]
(.seq (ul [mV 108 22,
oI 109 2 3,
oc 110 109,
zh 111 110,
kN 112 108 111] [3,16,17,19,20,21,22,112]
(.cond (.t 112)
.skip
(.exit 2)))
(.seq (.block 3
(ul [oI 115 2 3,
oc 116 115,
mV 117 22,
xT 118 4 116 117,
oe 119 4 118,
oP 23 (.alloc yF),
xx 4 23 119] [3,16,17,19,20,21,22,23]
(.frz 23 true (ul [oI 120 0 23,
oc 121 120,
mV 122 16,
kV 123 121 122] [3,16,17,19,20,21,22,23,123]
(.cond (.t 123)
(.reg [oI 124 0 19,
oc 125 124,
oK 126 2 2 23,
oI 127 0 126,
oc 128 127,
kj 129 125 128,
oI 130 1 19,
oc 131 130,
oK 132 2 2 23,
oI 133 1 132,
oc 134 133,
kj 135 131 134,
qv 136 42 qO [.t 129,.t 135],
xx 2 19 136] [3,16,17,19,20,21,22])
.skip)))))
(.reg [mV 113 22,
kw 114 113 1,
mV 22 114] [3,16,17,19,20,21,22]))))))
(.seq (ul [oR 24 0] [3,16,17,19,20,21,24]
(.block 4
(.loop [3,16,17,19,20,21,24]
(.seq (ul [mV 137 24,
oI 138 4 3,
oc 139 138,
zh 140 139,
kN 141 137 140] [3,16,17,19,20,21,24,141]
(.cond (.t 141)
.skip
(.exit 4)))
(.seq (.block 5
(ul [oI 144 4 3,
oc 145 144,
mV 146 24,
xT 147 4 145 146,
oe 148 4 147,
oP 25 (.alloc yF),
xx 4 25 148] [3,16,17,19,20,21,24,25]
(.frz 25 true (ul [oI 149 0 25,
oc 150 149,
mV 151 16,
kV 152 150 151] [3,16,17,19,20,21,24,25,152]
(.cond (.t 152)
(ul [oI 153 0 20,
oc 154 153,
oK 155 2 2 25,
oI 156 0 155,
oc 157 156,
kj 158 154 157,
oI 159 1 20,
oc 160 159,
oK 161 2 2 25,
oI 162 1 161,
oc 163 162,
kj 164 160 163,
qv 165 42 qO [.t 158,.t 164],
xx 2 20 165] [3,16,17,19,20,21,24]
(.reg [mV 166 21,
kw 167 166 1,
mV 21 167] [3,16,17,19,20,21,24]))
.skip)))))
(.reg [mV 142 24,
kw 143 142 1,
mV 24 143] [3,16,17,19,20,21,24]))))))
(ul [oI 168 0 17,
oc 169 168,
oI 170 1 17,
oc 171 170,
oP 172 (.bin .leq (.t 169) (.t 171)),
mV 173 172,
ww 174 173 1 17,
wt 175 173 174,
ww 176 173 1 19,
wt 177 173 176,
ww 178 173 0 20,
wt 179 173 178,
gT 180 173 (.bin .sub (.t 177) (.t 179)),
gT 181 173 (.bin .leq (.t 175) (.t 180)),
oP 182 (.pick (.t 173) (.t 181) (.c (.bool false))),
mV 183 182,
wq 184 183 21,
ww 185 183 1 3,
wt 186 183 185,
wP 187 183 186,
gT 188 183 (.bin .lss (.t 184) (.t 187)),
wq 189 183 188,
vS 190 189 0 17,
vG 191 189 190,
vS 192 189 0 19,
vG 193 189 192,
vS 194 189 1 20,
vG 195 189 194,
gF 196 189 (.bin .sub (.t 193) (.t 195)),
gF 197 189 (.bin .geq (.t 191) (.t 196)),
gT 198 183 (.pick (.t 189) (.c (.bool true)) (.t 197)),
oP 199 (.pick (.t 183) (.t 198) (.c (.bool false))),
mV 200 199,
ww 201 200 0 3,
wt 202 200 201,
wq 203 200 16,
wW 204 200 1 202 203,
wt 205 200 204,
gT 206 200 (.call (.f 52) qF [.t 205]),
oP 207 (.pick (.t 200) (.t 206) (.c (.bool false))),
mV 208 207,
gT 209 208 (.call (.f 24) [] []),
oP 210 (.pick (.t 208) (.t 209) (.c (.bool false))),
mV 6 210] [6]
.ret))))))))))))))
abbrev Tm:RsT:=[(6,none)]
theorem Ss:SpF 211 Sc NF Tm:=SpI Tryz.func14 (by kernel_rfl)
abbrev MT:FuncId:=16
def GI:AC:=
(ul [zw 1 5 0,
oR 2 0,
oR 3 0,
oR 4 0] [1]
(ul [oe 9 5 1,
oP 10 (.build ud [(0,5,.t 9)]),
oP 5 (.alloc ud),
xx 5 5 10] [5]
(.frz 5 true (.seq (ul [oK 11 5 0 5,
oI 12 0 11,
oc 13 12,
zh 14 13,
oP 15 (.lit 0 1 1 [(0,.t 14)]),
qv 16 53 [false,false,true] [cI 1,cI 4,.t 15],
mV 17 16,
gF 18 17 (.fieldAddr (some 5) 0 (.t 5)),
vS 19 17 1 18,
vG 20 17 19,
qr 21 17 20,
gF 22 17 (.lit 0 1 1 [(0,.t 21)]),
gF 23 17 (.call (.f 53) [false,false,true] [cI 1,cI 4,.t 22]),
oP 24 (.pick (.t 17) (.c (.bool true)) (.t 23)),
mV 25 24,
gF 26 25 (.fieldAddr (some 5) 0 (.t 5)),
vS 27 25 3 26,
vG 28 25 27,
qr 29 25 28,
gF 30 25 (.bin .gtr (.t 29) (cI 10)),
oP 31 (.pick (.t 25) (.c (.bool true)) (.t 30)),
mV 32 31,
gF 33 32 (.fieldAddr (some 5) 0 (.t 5)),
vS 34 32 2 33,
vG 35 32 34,
qr 36 32 35,
gF 37 32 (.fieldAddr (some 5) 0 (.t 5)),
vS 38 32 4 37,
vG 39 32 38,
qr 40 32 39,
gF 41 32 (.mx [.t 36,.t 40]),
gF 42 32 (.bin .gtr (.t 41) (cI 8)),
oP 43 (.pick (.t 32) (.c (.bool true)) (.t 42))] [5,43]
(.cond (.t 43)
(ul [oR 2 1,
oR 3 0,
oR 4 3] [2,3,4]
.ret)
.skip))
(ul [oP 44 (.mkfunc (.func 54) [] [.t 5]),
oP 45 (.mkfunc (.func 56) [] [.t 5]),
oP 46 (.mkfunc (.func 57) [] [.t 5]),
oP 47 (.mkfunc (.func 59) [] [.t 5]),
oP 48 (.mkfunc (.func 62) [] [.t 5]),
oP 49 (.build [.nilfunc, .nilfunc, .nilfunc, .nilfunc, .nilfunc] [(0,1,.t 44),(1,1,.t 45),(2,1,.t 46),(3,1,.t 47),(4,1,.t 48)]),
oP 6 (.alloc [.nilfunc, .nilfunc, .nilfunc, .nilfunc, .nilfunc]),
xx 5 6 49] [6]
(.frz 6 true (.seq (ul [oe 50 5 6,
oR 51 0] [50,51]
(.block 0
(.loop [50,51]
(ul [kS 52 51 5] [50,51,52]
(.seq (.cond (.t 52)
.skip
(.exit 0))
(.seq (.block 1
(ul [mV 53 51,
oP 54 (.ixV 5 1 none (.t 50) (.t 51)),
mV 7 53,
mV 8 54] [7,8,50,51]
(ul [mV 56 8,
oP 57 (.call (.t 56) [] []),
mV 55 57,
xr 58 55 0,
xr 59 55 1,
mV 3 58,
mV 4 59] [3,4,7,50,51]
(ul [mV 60 4,
wh 61 60 0] [3,4,7,50,51,61]
(.cond (.t 61)
(ul [mV 62 7,
kw 63 62 2,
mV 64 3,
mV 65 4,
mV 2 63,
mV 3 64,
mV 4 65] [2,3,4]
.ret)
.skip)))))
(.reg [kw 66 51 1,
mV 51 66] [50,51])))))))
(ul [oR 2 0,
oR 3 0,
oR 4 0] [2,3,4]
.ret))))))))
abbrev SG:RsT:=[(2,none),(3,none),(4,none)]
theorem TG:SpF 67 MT GI SG:=SpI Tryz.func16 (by kernel_rfl)
theorem Dr:au Tryz.prog MT = true:=by kernel_rfl
abbrev Oa:FuncId:=17
def Bn:AC:=
(ul [zw 1 5 0,
oR 2 0,
oR 3 0,
oR 4 0] [1]
(.seq (ul [oI 8 0 1,
oc 9 8,
zh 10 9,
qv 11 63 [false,false,false] [.t 10,cI 1,cI 4],
kb 12 11,
mV 13 12,
vS 14 13 1 1,
vG 15 13 14,
qr 16 13 15,
gF 17 13 (.call (.f 63) [false,false,false] [.t 16,cI 1,cI 4]),
gF 18 13 (.un .not (.t 17)),
oP 19 (.pick (.t 13) (.c (.bool true)) (.t 18)),
mV 20 19,
vS 21 20 3 1,
vG 22 20 21,
qr 23 20 22,
gF 24 20 (.bin .gtr (.t 23) (cI 10)),
oP 25 (.pick (.t 20) (.c (.bool true)) (.t 24)),
mV 26 25,
vS 27 26 2 1,
vG 28 26 27,
qr 29 26 28,
gF 30 26 (.bin .gtr (.t 29) (cI 8)),
oP 31 (.pick (.t 26) (.c (.bool true)) (.t 30)),
mV 32 31,
vS 33 32 4 1,
vG 34 32 33,
qr 35 32 34,
gF 36 32 (.bin .gtr (.t 35) (cI 8)),
oP 37 (.pick (.t 32) (.c (.bool true)) (.t 36))] [1,37]
(.cond (.t 37)
(ul [oR 2 1,
oR 3 0,
oR 4 3] [2,3,4]
.ret)
.skip))
(ul [oI 39 0 1,
oc 40 39,
qv 41 64 qD [.t 40],
mV 38 41,
xr 42 38 0,
xr 43 38 1,
mV 5 42,
mV 6 43] [1,5,6]
(.seq (ul [mV 44 6,
wh 45 44 0] [1,5,6,45]
(.cond (.t 45)
(ul [mV 46 5,
mV 47 6,
oR 2 2,
mV 3 46,
mV 4 47] [2,3,4]
.ret)
.skip))
(ul [oI 49 1 1,
oc 50 49,
qv 51 64 qD [.t 50],
mV 48 51,
xr 52 48 0,
xr 53 48 1,
mV 5 52,
mV 6 53] [1,5,6]
(.seq (ul [mV 54 6,
wh 55 54 0] [1,5,6,55]
(.cond (.t 55)
(ul [mV 56 5,
mV 57 6,
oR 2 3,
mV 3 56,
mV 4 57] [2,3,4]
.ret)
.skip))
(ul [oe 59 5 1,
oI 60 2 1,
oc 61 60,
qv 62 65 qB [.t 59,.t 61],
mV 58 62,
xr 63 58 0,
xr 64 58 1,
mV 5 63,
mV 6 64] [1,5,6]
(.seq (ul [mV 65 6,
wh 66 65 0] [1,5,6,66]
(.cond (.t 66)
(ul [mV 67 5,
mV 68 6,
oR 2 4,
mV 3 67,
mV 4 68] [2,3,4]
.ret)
.skip))
(.seq (ul [oR 7 0] [1,7]
(.block 0
(.loop [1,7]
(.seq (ul [mV 69 7,
oI 70 3 1,
oc 71 70,
zh 72 71,
kN 73 69 72] [1,7,73]
(.cond (.t 73)
.skip
(.exit 0)))
(.seq (.block 1
(ul [oe 76 5 1,
mV 77 7,
qv 78 66 qK [.t 76,.t 77],
mV 6 78] [1,6,7]
(ul [mV 79 6,
wh 80 79 0] [1,6,7,80]
(.cond (.t 80)
(ul [mV 81 7,
mV 82 6,
oR 2 5,
mV 3 81,
mV 4 82] [2,3,4]
.ret)
.skip))))
(.reg [mV 74 7,
kw 75 74 1,
mV 7 75] [1,7]))))))
(ul [oe 84 5 1,
oI 85 4 1,
oc 86 85,
qv 87 65 qB [.t 84,.t 86],
mV 83 87,
xr 88 83 0,
xr 89 83 1,
mV 5 88,
mV 6 89] [5,6]
(.seq (ul [mV 90 6,
wh 91 90 0] [5,6,91]
(.cond (.t 91)
(ul [mV 92 5,
mV 93 6,
oR 2 6,
mV 3 92,
mV 4 93] [2,3,4]
.ret)
.skip))
(ul [oR 2 0,
oR 3 0,
oR 4 0] [2,3,4]
.ret))))))))))))
abbrev TR:RsT:=[(2,none),(3,none),(4,none)]
theorem Tx:SpF 94 Oa Bn TR:=SpI Tryz.func17 (by kernel_rfl)
theorem FK:au Tryz.prog Oa = true:=by kernel_rfl
abbrev F5:FuncId:=18
def Ny:AC:=
(ul [zw 2 5 0,
oP 4 (.mv (.c (.bool false))),
oR 5 0] [1,2]
(ul [oe 9 5 2,
mV 10 1,
qv 11 67 qB [.t 9,.t 10],
mV 8 11,
xr 12 8 0,
xr 13 8 1,
oP 6 (.alloc ud),
xx 5 6 12,
mV 7 13] [1,6,7]
(.frz 6 true (ul [mV 14 7,
wb 15 14 0,
mV 16 15,
gT 17 16 (.load (some 5) (.t 6)),
wq 18 16 1,
gT 19 16 (.call (.f 68) qB [.t 17,.t 18]),
oP 20 (.pick (.t 16) (.t 19) (.c (.bool false))),
mV 21 7,
mV 4 20,
mV 5 21] [4,5]
.ret))))
abbrev Sr:RsT:=[(4,none),(5,none)]
theorem SO:SpF 22 F5 Ny Sr:=SpI Tryz.func18 (by kernel_rfl)
theorem GL:au Tryz.prog F5 = true:=by kernel_rfl
abbrev G5:FuncId:=20
def KP:AC:=
(ul [zw 2 5 0,
oP 4 (.alloc yF),
oR 5 0] [1,2,4]
(ul [oe 14 5 2,
mV 15 1,
qv 16 67 qB [.t 14,.t 15],
mV 13 16,
xr 17 13 0,
xr 18 13 1,
oP 6 (.alloc ud),
xx 5 6 17,
mV 7 18] [1,4,6,7]
(.frz 6 true (.seq (ul [mV 19 7,
wh 20 19 0] [1,4,6,7,20]
(.cond (.t 20)
(ul [oP 21 (.build yF []),
mV 22 7,
xx 4 4 21,
mV 5 22] [4,5]
.ret)
.skip))
(.seq (ul [oe 23 5 6,
mV 24 1,
qv 25 70 qB [.t 23,.t 24],
mV 8 25] [1,4,6,8]
(ul [mV 26 8,
wl 27 26 0] [1,4,6,8,27]
(.cond (.t 27)
(ul [mV 28 8,
oP 29 (.build yF [(0,1,.t 28)]),
xx 4 4 29,
oR 5 0] [4,5]
.ret)
.skip)))
(.seq (ul [oK 30 5 0 6,
oI 31 0 30,
oc 32 31,
zh 33 32,
oR 34 0] [1,4,6,33,34]
(.block 0
(.loop [1,4,6,33,34]
(ul [kN 35 34 33] [1,4,6,33,34,35]
(.seq (.cond (.t 35)
.skip
(.exit 0))
(.seq (.block 1
(ul [mV 36 34,
mV 9 36] [1,4,6,9,33,34]
(ul [oR 10 1] [1,4,6,9,10,33,34]
(.block 2
(.loop [1,4,6,9,10,33,34]
(.seq (ul [mV 37 10,
oK 38 5 0 6,
oI 39 1 38,
oc 40 39,
zh 41 40,
oP 42 (.bin .shl (cI 1) (.t 41)),
kN 43 37 42] [1,4,6,9,10,33,34,43]
(.cond (.t 43)
.skip
(.exit 2)))
(.seq (.block 3
(ul [oe 47 5 6,
mV 48 9,
mV 49 10,
mV 50 1,
qv 51 71 [true,false,false,true] [.t 47,.t 48,.t 49,.t 50],
mV 46 51,
xr 52 46 0,
xr 53 46 1,
mV 11 52,
mV 12 53] [1,4,6,9,10,11,12,33,34]
(.seq (ul [mV 54 11,
wb 55 54 0] [1,4,6,9,10,11,12,33,34,55]
(.cond (.t 55)
(.reg [mV 56 12,
mV 11 56] [1,4,6,9,10,11,33,34])
.skip))
(ul [mV 57 11,
wh 58 57 0] [1,4,6,9,10,11,33,34,58]
(.cond (.t 58)
(ul [mV 59 9,
mV 60 10,
mV 61 11,
oP 62 (.build yF [(0,1,cI (-1)),(1,1,.t 59),(2,1,.t 60),(3,1,.t 61)]),
xx 4 4 62,
oR 5 0] [4,5]
.ret)
.skip)))))
(.reg [mV 44 10,
kw 45 44 1,
mV 10 45] [1,4,6,9,10,33,34]))))))))
(.reg [kw 63 34 1,
mV 34 63] [1,4,6,33,34])))))))
(ul [oP 64 (.build yF []),
xx 4 4 64,
oR 5 4] [4,5]
.ret)))))))
abbrev Ub:RsT:=[(4,some (some 4)),(5,none)]
theorem Sk:SpF 65 G5 KP Ub:=SpI Tryz.func20 (by kernel_rfl)
theorem JR:au Tryz.prog G5 = true:=by kernel_rfl
abbrev JS:FuncId:=22
def CJ:AC:=
(ul [zw 3 5 0,
zw 5 4 2,
oP 6 (.mv (.c (.bool false))),
oR 7 0] [1,3,5]
(ul [oe 13 5 3,
mV 14 1,
qv 15 67 qB [.t 13,.t 14],
mV 12 15,
xr 16 12 0,
xr 17 12 1,
oP 8 (.alloc ud),
xx 5 8 16,
mV 9 17] [1,5,8,9]
(.frz 8 true (.seq (.block 0
(ul [mV 19 9,
wh 20 19 0,
mV 18 20] [1,5,8,9,18]
(.cond (.t 18)
(ul [mV 21 9,
oP 6 (.mv (.c (.bool false))),
mV 7 21] [6,7]
.ret)
(ul [oI 23 0 5,
oc 24 23,
wh 25 24 (-1),
mV 22 25] [1,5,8,22]
(.cond (.t 22)
(ul [oe 26 4 5,
oI 27 0 5,
oc 28 27,
oP 29 (.build yF [(0,1,.t 28)]),
oP 30 (.eqa false [.i, .i, .i, .i] (.t 26) (.t 29)),
mV 31 30,
gT 32 31 (.fieldAddr (some 5) 0 (.t 8)),
ww 33 31 3 32,
wt 34 31 33,
wP 35 31 34,
gT 36 31 (.bin .sub (.t 35) (cI 1)),
ww 37 31 0 5,
wt 38 31 37,
gT 39 31 (.lit 0 1 1 [(0,.t 38)]),
gT 40 31 (.call (.f 53) [false,false,true] [cI 0,.t 36,.t 39]),
gT 41 31 (.un .not (.t 40)),
oP 42 (.pick (.t 31) (.t 41) (.c (.bool false))),
mV 43 42,
gT 44 43 (.load (some 5) (.t 8)),
ww 45 43 0 5,
wt 46 43 45,
wq 47 43 1,
gT 48 43 (.call (.f 73) [true,false,true] [.t 44,.t 46,.t 47]),
oP 49 (.pick (.t 43) (.t 48) (.c (.bool false))),
mV 6 49,
oR 7 0] [6,7]
.ret)
(.seq (.dreg [oK 51 5 0 8,
oI 52 0 51,
oc 53 52,
zh 54 53,
kL 55 54 1,
oI 56 1 5,
oc 57 56,
oP 58 (.lit 0 1 1 [(0,.t 57)]),
qv 59 53 [false,false,true] [cI 0,.t 55,.t 58],
mV 60 59,
gF 61 60 (.fieldAddr (some 5) 0 (.t 8)),
vS 62 60 1 61,
vG 63 60 62,
qr 64 60 63,
gF 65 60 (.bin .shl (cI 1) (.t 64)),
gF 66 60 (.bin .sub (.t 65) (cI 1)),
vS 67 60 2 5,
vG 68 60 67,
gF 69 60 (.lit 0 1 1 [(0,.t 68)]),
gF 70 60 (.call (.f 53) [false,false,true] [cI 1,.t 66,.t 69]),
oP 71 (.pick (.t 60) (.c (.bool true)) (.t 70)),
mV 50 71] [1,5,8,50] [[],[0],[0,1],[0,1,2],ut 4,[],[5],[5,6],ut 8,ut 9,ut 10,ut 11,ut 12,ut 13,ut 14,ut 15,ut 10,[0,1,2,3,4,5,6,7,8,9,16],[0,1,2,3,4,5,6,7,8,9,16,17],ut 19,ut 20,ut 21])
(.cond (.t 50)
(ul [oP 6 (.mv (.c (.bool false))),
oR 7 0] [6,7]
.ret)
.skip)))))))
(ul [oe 73 5 8,
oI 74 1 5,
oc 75 74,
oI 76 2 5,
oc 77 76,
mV 78 1,
qv 79 71 [true,false,false,true] [.t 73,.t 75,.t 77,.t 78],
mV 72 79,
xr 80 72 0,
xr 81 72 1,
mV 10 80,
mV 11 81] [5,10,11]
(ul [oI 82 3 5,
oc 83 82,
wn 84 83 0,
mV 85 84,
ww 86 85 3 5,
wt 87 85 86,
wq 88 85 10,
gT 89 85 (.bin .eql (.t 87) (.t 88)),
oP 90 (.pick (.t 85) (.t 89) (.c (.bool false))),
mV 91 90,
vS 92 91 3 5,
vG 93 91 92,
gF 94 91 (.bin .lss (.t 93) (cI 0)),
ve 95 91 94,
ww 96 95 3 5,
wt 97 95 96,
wq 98 95 11,
gT 99 95 (.bin .eql (.t 97) (.t 98)),
gF 100 91 (.pick (.t 95) (.t 99) (.c (.bool false))),
oP 101 (.pick (.t 91) (.c (.bool true)) (.t 100)),
mV 6 101,
oR 7 0] [6,7]
.ret))))))
abbrev SH:RsT:=[(6,none),(7,none)]
theorem SD:SpF 102 JS CJ SH:=SpI Tryz.func22 (by kernel_rfl)
theorem QP:au Tryz.prog JS = true:=by kernel_rfl
abbrev NK:FuncId:=24
def zlm : List (List Nat) := [[],[0],[0,1],zrr 3,zrr 4,zrr 5,zrr 6,zrr 7,zrr 8,zrr 9,zrr 10,zrr 11,zrr 12,zrr 13,zrr 14,zrr 15,zrr 16,zrr 17,zrr 18,zrr 19,zrr 20,zrr 21,zrr 22,zrr 23,zrr 24,zrr 25,zrr 26,zrr 27,zrr 28,zrr 29,zrr 30,zrr 31,zrr 32,zrr 33,zrr 34,zrr 35,zrr 36,zrr 37,zrr 38,zrr 39,zrr 40,zrr 41,zrr 42,zrr 43,zrr 44,zrr 45,zrr 46,zrr 47,zrr 48,zrr 49,zrr 50,zrr 51,zrr 52,zrr 53,zrr 54,zrr 55,zrr 56,zrr 57,zrr 58,zrr 58,zrr 60,zrr 61,zrr 62,zrr 63,zrr 64,zrr 65,zrr 66,zrr 67,zrr 68,zrr 69,zrr 70,zrr 70,zrr 72,zrr 73,zrr 74,zrr 75,zrr 75,zrr 77,zrr 78,zrr 79,zrr 80,zrr 80,zrr 82,zrr 83,zrr 84,zrr 85,zrr 85,zrr 87,zrr 88,zrr 89,zrr 90,zrr 90,zrr 92,zrr 93,zrr 94,zrr 95,zrr 95,zrr 97,zrr 98,zrr 99,zrr 100,zrr 100,zrr 102,zrr 103,zrr 104]
def Pk:AC:=
(ul [oP 0 (.mv (.c (.bool false)))] []
(ul [qv 29 41 qF [(.c (.bool false))],
qv 30 41 qF [(.c (.bool true))],
oP 1 (.alloc ud),
oP 2 (.alloc ud),
xx 5 1 29,
xx 5 2 30] [1,2]
(.frz 2 true (.frz 1 true (ul [oe 32 5 1,
oP 33 (.lit 0 1 1 [(0,cI 1)]),
qv 34 18 qB [.t 32,.t 33],
mV 31 34,
xr 35 31 0,
xr 36 31 1,
mV 3 35,
mV 4 36] [1,2,3,4]
(ul [oe 38 5 1,
oP 39 (.lit 0 1 1 [(0,cI 0)]),
qv 40 18 qB [.t 38,.t 39],
mV 37 40,
xr 41 37 0,
xr 42 37 1,
mV 5 41,
mV 6 42] [1,2,3,4,5,6]
(ul [oe 44 5 1,
oP 45 (.lit 0 1 1 [(0,cI 0)]),
qv 46 20 qB [.t 44,.t 45],
mV 43 46,
xr 47 43 0,
xr 48 43 1,
oP 7 (.alloc yF),
xx 4 7 47,
mV 8 48] [1,2,3,4,5,6,7,8]
(.frz 7 true (ul [oe 50 5 1,
oP 51 (.lit 0 1 1 [(0,cI 0)]),
oP 52 (.build yF [(0,1,cI (-1)),(2,1,cI 1),(3,1,cI 100)]),
qv 53 22 yq [.t 50,.t 51,.t 52],
mV 49 53,
xr 54 49 0,
xr 55 49 1,
mV 9 54,
mV 10 55] [1,2,3,4,5,6,7,8,9,10]
(ul [oe 57 5 1,
oP 58 (.lit 0 1 1 [(0,cI 0)]),
oP 59 (.build yF [(0,1,cI (-1)),(2,1,cI 1),(3,1,cI 99)]),
qv 60 22 yq [.t 57,.t 58,.t 59],
mV 56 60,
xr 61 56 0,
xr 62 56 1,
mV 11 61,
mV 12 62] [1,2,3,4,5,6,7,8,9,10,11,12]
(ul [oe 64 5 2,
qv 65 25 qD [.t 64],
mV 63 65,
xr 66 63 0,
xr 67 63 1,
mV 13 66,
mV 14 67] [1,2,3,4,5,6,7,8,9,10,11,12,13,14]
(ul [oe 69 5 1,
qv 70 28 qD [.t 69],
mV 68 70,
xr 71 68 0,
xr 72 68 1,
mV 15 71,
mV 16 72] [1,2,3,4,5,6,7,8,9,10,11,12,13,14,15,16]
(ul [oe 74 5 2,
qv 75 30 qD [.t 74],
mV 73 75,
xr 76 73 0,
xr 77 73 1,
mV 17 76,
mV 18 77] [1,2,3,4,5,6,7,8,9,10,11,12,13,14,15,16,17,18]
(ul [oe 79 5 2,
oP 80 (.lit 0 1 2 [(0,cI 0),(1,cI 1)]),
qv 81 32 yq [.t 79,.t 80,cI 0],
mV 78 81,
xr 82 78 0,
xr 83 78 1,
oP 19 (.alloc yH),
xx 2 19 82,
mV 20 83] [1,2,3,4,5,6,7,8,9,10,11,12,13,14,15,16,17,18,19,20]
(.frz 19 true (ul [oe 85 5 1,
oP 86 (.lit 0 1 1 [(0,cI 1)]),
qv 87 34 yq [.t 85,.t 86,cI 0],
mV 84 87,
xr 88 84 0,
xr 89 84 1,
oP 21 (.alloc yH),
xx 2 21 88,
mV 22 89] [1,2,3,4,5,6,7,8,9,10,11,12,13,14,15,16,17,18,19,20,21,22]
(.frz 21 true (ul [oe 91 5 2,
qv 92 36 qD [.t 91],
mV 90 92,
xr 93 90 0,
xr 94 90 1,
mV 23 93,
mV 24 94] [1,2,3,4,5,6,7,8,9,10,11,12,13,14,15,16,17,18,19,20,21,22,23,24]
(ul [qv 96 78 [] [],
qv 97 38 qF [.t 96],
mV 95 97,
xr 98 95 0,
xr 99 95 1,
oP 25 (.alloc ud),
xx 5 25 98,
mV 26 99] [1,2,3,4,5,6,7,8,9,10,11,12,13,14,15,16,17,18,19,20,21,22,23,24,25,26]
(.frz 25 true (ul [oe 101 5 1,
oP 102 (.lit 0 1 1 [(0,cI 0)]),
qv 103 32 yq [.t 101,.t 102,cI 0],
mV 100 103,
xr 104 100 0,
xr 105 100 1,
oP 27 (.alloc yH),
xx 2 27 104,
mV 28 105] [2,3,4,5,6,7,8,9,10,11,12,13,14,15,16,17,18,19,20,21,22,23,24,25,26,28]
(.seq (.dreg [mV 106 4,
wb 107 106 0,
mV 108 107,
wq 109 108 6,
wx 110 108 109 0,
oP 111 (.pick (.t 108) (.t 110) (.c (.bool false))),
mV 112 111,
wq 113 112 8,
wx 114 112 113 0,
oP 115 (.pick (.t 112) (.t 114) (.c (.bool false))),
mV 116 115,
wq 117 116 10,
wx 118 116 117 0,
oP 119 (.pick (.t 116) (.t 118) (.c (.bool false))),
mV 120 119,
wq 121 120 12,
wx 122 120 121 0,
oP 123 (.pick (.t 120) (.t 122) (.c (.bool false))),
mV 124 123,
wq 125 124 14,
wx 126 124 125 0,
oP 127 (.pick (.t 124) (.t 126) (.c (.bool false))),
mV 128 127,
wq 129 128 16,
wx 130 128 129 0,
oP 131 (.pick (.t 128) (.t 130) (.c (.bool false))),
mV 132 131,
wq 133 132 18,
wx 134 132 133 0,
oP 135 (.pick (.t 132) (.t 134) (.c (.bool false))),
mV 136 135,
wq 137 136 20,
wx 138 136 137 0,
oP 139 (.pick (.t 136) (.t 138) (.c (.bool false))),
mV 140 139,
wq 141 140 22,
wx 142 140 141 0,
oP 143 (.pick (.t 140) (.t 142) (.c (.bool false))),
mV 144 143,
wq 145 144 24,
wx 146 144 145 0,
oP 147 (.pick (.t 144) (.t 146) (.c (.bool false))),
mV 148 147,
wq 149 148 26,
wx 150 148 149 0,
oP 151 (.pick (.t 148) (.t 150) (.c (.bool false))),
mV 152 151,
wq 153 152 28,
wx 154 152 153 9,
oP 155 (.pick (.t 152) (.t 154) (.c (.bool false))),
mV 156 155,
wq 157 156 3,
oP 158 (.pick (.t 156) (.t 157) (.c (.bool false))),
mV 159 158,
wq 160 159 5,
gT 161 159 (.un .not (.t 160)),
oP 162 (.pick (.t 159) (.t 161) (.c (.bool false))),
mV 163 162,
gT 164 163 (.load (some 4) (.t 7)),
gT 165 163 (.build yF [(0,1,cI (-1)),(2,1,cI 1),(3,1,cI 100)]),
gT 166 163 (.eqa false [.i, .i, .i, .i] (.t 164) (.t 165)),
oP 167 (.pick (.t 163) (.t 166) (.c (.bool false))),
mV 168 167,
wq 169 168 9,
oP 170 (.pick (.t 168) (.t 169) (.c (.bool false))),
mV 171 170,
wq 172 171 11,
gT 173 171 (.un .not (.t 172)),
oP 174 (.pick (.t 171) (.t 173) (.c (.bool false))),
mV 175 174,
wq 176 175 13,
gT 177 175 (.lit 0 1 1 [(0,cI 0)]),
gT 178 175 (.call (.f 27) qB [.t 176,.t 177]),
oP 179 (.pick (.t 175) (.t 178) (.c (.bool false))),
mV 180 179,
wq 181 180 15,
gT 182 180 (.lit 0 1 1 [(0,cI 1)]),
gT 183 180 (.call (.f 27) qB [.t 181,.t 182]),
oP 184 (.pick (.t 180) (.t 183) (.c (.bool false))),
mV 185 184,
wq 186 185 17,
gT 187 185 (.lit 0 1 2 [(0,cI 0),(1,cI 1)]),
gT 188 185 (.call (.f 27) qB [.t 186,.t 187]),
oP 189 (.pick (.t 185) (.t 188) (.c (.bool false))),
mV 190 189,
gT 191 190 (.load (some 2) (.t 19)),
gT 192 190 (.call (.f 42) qO [cI 500,cI 600]),
gT 193 190 (.eqa false [.i, .i] (.t 191) (.t 192)),
oP 194 (.pick (.t 190) (.t 193) (.c (.bool false))),
mV 195 194,
gT 196 195 (.load (some 2) (.t 21)),
gT 197 195 (.call (.f 42) qO [cI 300,cI 300]),
gT 198 195 (.eqa false [.i, .i] (.t 196) (.t 197)),
oP 199 (.pick (.t 195) (.t 198) (.c (.bool false))),
mV 200 199,
wq 201 200 23,
gT 202 200 (.call (.f 78) [] []),
gT 203 200 (.bin .eql (.t 201) (.t 202)),
oP 204 (.pick (.t 200) (.t 203) (.c (.bool false))),
mV 205 204,
gT 206 205 (.load (some 5) (.t 25)),
gT 207 205 (.load (some 5) (.t 2)),
gT 208 205 (.call (.f 40) qB [.t 206,.t 207]),
oP 209 (.pick (.t 205) (.t 208) (.c (.bool false))),
mV 0 209] [0] zlm)
.ret))))))))))))))))))))))
abbrev Ts:RsT:=[(0,none)]
theorem TX:SpF 210 NK Pk Ts:=SpI Tryz.func24 (by kernel_rfl)
theorem Dq:au Tryz.prog NK = true:=by kernel_rfl
abbrev IG:FuncId:=25
def M1:AC:=
(ul [zw 1 5 0,
oP 2 (.alloc [.slice 1 []]),
oP 3 (.alloc [.int .i64 0])] [1,2,3]
(ul [oe 8 5 1,
qv 9 79 qD [.t 8],
mV 7 9,
xr 10 7 0,
xr 11 7 1,
oP 4 (.alloc ud),
xx 5 4 10,
mV 5 11] [2,3,4,5]
(.frz 4 true (.seq (ul [mV 12 5,
wh 13 12 0] [2,3,4,5,13]
(.cond (.t 13)
(ul [mV 14 5,
oN (.store 1 (.t 2) (.c (.slice 1 []))),
xx 1 3 14] [2,3]
.ret)
.skip))
(.seq (ul [oe 15 5 4,
qv 16 80 qD [.t 15]] [2,3,4,16]
(.block 0
(.jM (.t 16) [17] (.reg [mV 6 17] [2,3,4,6])
(.block 1
(ul [oe 18 5 4,
mV 19 6,
qv 20 68 qB [.t 18,.t 19]] [2,3,6,20]
(.cond (.t 20)
(ul [mV 21 6,
xx 1 2 21,
oN (.store 1 (.t 3) (cI 0))] [2,3]
.ret)
.skip))))))
(ul [oN (.store 1 (.t 2) (.c (.slice 1 []))),
oN (.store 1 (.t 3) (cI 9))] [2,3]
.ret))))))
abbrev TP:RsT:=[(2,some none),(3,some none)]
theorem TK:SpF 22 IG M1 TP:=SpI Tryz.func25 (by kernel_rfl)
theorem Qb:au Tryz.prog IG = true:=by kernel_rfl
abbrev Mz:FuncId:=27
def Qt:AC:=
(ul [oP 4 (.mv (.c (.bool false)))] [0,1]
(ul [mV 7 0,
zh 8 7,
mV 9 1,
zh 10 9,
kV 11 8 10,
mV 5 11] [0,1,5]
(.seq (ul [oR 6 0] [0,1,5,6]
(.block 0
(.loop [0,1,5,6]
(.seq (ul [mV 12 6,
mV 13 0,
zh 14 13,
kN 15 12 14,
mV 16 15,
wq 17 16 5,
oP 18 (.pick (.t 16) (.t 17) (.c (.bool false)))] [0,1,5,6,18]
(.cond (.t 18)
.skip
(.exit 0)))
(.seq (.block 1
(.dreg [mV 21 0,
mV 22 6,
xT 23 1 21 22,
oc 24 23,
mV 25 1,
mV 26 6,
xT 27 1 25 26,
oc 28 27,
kV 29 24 28,
mV 5 29] [0,1,5,6] [[],[],[0,1],[0,1,2],[],[],[4,5],[4,5,6],ut 8,ut 9]))
(.reg [mV 19 6,
kw 20 19 1,
mV 6 20] [0,1,5,6]))))))
(ul [mV 30 5,
mV 4 30] [4]
.ret))))
abbrev UY:RsT:=[(4,none)]
theorem T0:SpF 31 Mz Qt UY:=SpI Tryz.func27 (by kernel_rfl)
theorem Jb:au Tryz.prog Mz = true:=by kernel_rfl
abbrev Il:FuncId:=28
def N2:AC:=
(ul [zw 1 5 0,
oP 2 (.nilS 1 1),
oR 3 0] [1,2]
(ul [oe 7 5 1,
qv 8 79 qD [.t 7],
mV 6 8,
xr 9 6 0,
xr 10 6 1,
oP 4 (.alloc ud),
xx 5 4 9,
mV 3 10] [2,3,4]
(.frz 4 true (.seq (ul [mV 11 3,
wh 12 11 0] [2,3,4,12]
(.cond (.t 12)
(ul [mV 13 3,
oP 2 (.mv (.c (.slice 1 []))),
mV 3 13] [2,3]
.ret)
.skip))
(.seq (ul [oK 14 5 0 4,
oI 15 3 14,
oc 16 15,
zh 17 16,
oR 18 0] [2,4,17,18]
(.block 0
(.loop [2,4,17,18]
(ul [kN 19 18 17] [2,4,17,18,19]
(.seq (.cond (.t 19)
.skip
(.exit 0))
(.seq (.block 1
(ul [mV 20 18,
mV 5 20] [2,4,5,17,18]
(.seq (.qreg [oe 21 5 4,
oe 22 5 4,
mV 23 5,
qv 24 83 qK [.t 22,.t 23],
qv 25 68 qB [.t 21,.t 24],
kb 26 25] [2,4,5,17,18,26] [[],[],[],[1,2],ut 4,ut 5] [([0,1,2],3),([],4)] [5])
(.cond (.t 26)
(.reg [mV 27 2,
mV 28 5,
oP 29 (.lit 0 1 1 [(0,.t 28)]),
oP 30 (.append 1 8 (.t 27) (.t 29)),
mV 2 30] [2,4,17,18])
.skip))))
(.reg [kw 31 18 1,
mV 18 31] [2,4,17,18])))))))
(ul [mV 32 2,
oP 2 (.mvd (.t 32)),
oR 3 0] [2,3]
.ret))))))
abbrev Tq:RsT:=[(2,none),(3,none)]
theorem TH:SpF 33 Il N2 Tq:=SpI Tryz.func28 (by kernel_rfl)
theorem Qq:au Tryz.prog Il = true:=by kernel_rfl
abbrev Ji:FuncId:=30
def Ni:AC:=
(ul [zw 1 5 0,
oP 2 (.mv (.c (.slice 1 []))),
oR 3 0] [1]
(ul [oe 8 5 1,
qv 9 79 qD [.t 8],
mV 7 9,
xr 10 7 0,
xr 11 7 1,
oP 4 (.alloc ud),
xx 5 4 10,
mV 5 11] [4,5]
(.frz 4 true (.seq (ul [mV 12 5,
wh 13 12 0] [4,5,13]
(.cond (.t 13)
(ul [mV 14 5,
oP 2 (.mv (.c (.slice 1 []))),
mV 3 14] [2,3]
.ret)
.skip))
(ul [oe 15 5 4,
qv 16 85 qD [.t 15],
qv 17 84 qD [.t 16],
mV 6 17] [6]
(ul [mV 18 6,
qv 19 86 qD [.t 18]] [6]
(ul [mV 20 6,
qv 21 87 qD [.t 20],
oP 2 (.freeze 1 (.t 21)),
oR 3 0] [2,3]
.ret)))))))
abbrev Sq:RsT:=[(2,none),(3,none)]
theorem SM:SpF 22 Ji Ni Sq:=SpI Tryz.func30 (by kernel_rfl)
theorem O6:au Tryz.prog Ji = true:=by kernel_rfl
abbrev C7:FuncId:=32
def On:AC:=
(ul [zw 3 5 0,
zw 5 1 2,
oP 6 (.alloc yH),
oR 7 0] [1,3,5,6]
(ul [oe 11 5 3,
mV 12 1,
oP 13 (.mkfunc (.func 89) [] [.t 5]),
qv 14 88 yq [.t 11,.t 12,.t 13],
mV 10 14,
xr 15 10 0,
xr 16 10 1,
mV 8 15,
mV 9 16] [5,6,8,9]
(.seq (ul [mV 17 9,
wh 18 17 0] [5,6,8,9,18]
(.cond (.t 18)
(ul [oP 19 (.build yH []),
mV 20 9,
xx 2 6 19,
mV 7 20] [6,7]
.ret)
.skip))
(.seq (.qreg [mV 21 8,
mV 22 8,
ka 23 22,
oI 24 2 23,
oc 25 24,
oc 26 5,
xT 27 1 25 26,
oc 28 27,
qv 29 90 qO [.t 21,.t 28],
xx 2 6 29,
oR 7 0] [6,7] [[],[],[1],[1,2],[1,2,3],[],[1,2,3,4,5],[1,2,3,4,5,6],ut 8,ut 9,ut 10] [([0,1,2,3,4,5,6,7],8),([],9)] [10])
.ret))))
abbrev UX:RsT:=[(6,some (some 2)),(7,none)]
theorem SL:SpF 30 C7 On UX:=SpI Tryz.func32 (by kernel_rfl)
theorem J0:au Tryz.prog C7 = true:=by kernel_rfl
abbrev CX:FuncId:=34
def Qo:AC:=
(ul [zw 3 5 0,
zw 5 1 2,
oP 6 (.alloc yH),
oR 7 0] [1,3,5,6]
(ul [oe 11 5 3,
mV 12 1,
oP 13 (.mkfunc (.func 94) [] [.t 5]),
qv 14 88 yq [.t 11,.t 12,.t 13],
mV 10 14,
xr 15 10 0,
xr 16 10 1,
mV 8 15,
mV 9 16] [6,8,9]
(.seq (ul [mV 17 9,
wh 18 17 0] [6,8,9,18]
(.cond (.t 18)
(ul [oP 19 (.build yH []),
mV 20 9,
xx 2 6 19,
mV 7 20] [6,7]
.ret)
.skip))
(ul [mV 21 8,
mV 22 8,
ka 23 22,
oI 24 3 23,
oc 25 24,
qv 26 90 qO [.t 21,.t 25],
xx 2 6 26,
oR 7 0] [6,7]
.ret))))
abbrev TU:RsT:=[(6,some (some 2)),(7,none)]
theorem Uk:SpF 27 CX Qo TU:=SpI Tryz.func34 (by kernel_rfl)
theorem He:au Tryz.prog CX = true:=by kernel_rfl
abbrev J2:FuncId:=36
def Nl:AC:=
(ul [zw 1 5 0,
⟨some 2,none, .mv (.c (.str ⟨#[]⟩))⟩,
oR 3 0] [1]
(.seq (ul [oe 8 5 1,
qv 9 16 qD [.t 8],
mV 7 9,
xr 10 7 0,
xr 11 7 1,
xr 12 7 2,
mV 4 10,
mV 5 11,
mV 6 12] [1,6]
(ul [mV 13 6,
wh 14 13 0] [1,6,14]
(.cond (.t 14)
(ul [mV 15 6,
⟨some 2,none, .mv (.c (.str ⟨#[]⟩))⟩,
mV 3 15] [2,3]
.ret)
.skip)))
(ul [oe 16 5 1,
oP 17 (.build ud [(0,5,.t 16)]),
qv 18 96 qD [.t 17],
mV 2 18,
oR 3 0] [2,3]
.ret)))
abbrev SF:RsT:=[(2,none),(3,none)]
theorem T6:SpF 19 J2 Nl SF:=SpI Tryz.func36 (by kernel_rfl)
theorem Rf:au Tryz.prog J2 = true:=by kernel_rfl
abbrev MD:FuncId:=37
def NZ:AC:=
(ul [zw 1 5 0,
⟨some 2,none, .mv (.c (.str ⟨#[]⟩))⟩,
oR 3 0] [1]
(ul [oe 8 5 1,
qv 9 17 qD [.t 8],
mV 7 9,
xr 10 7 0,
xr 11 7 1,
xr 12 7 2,
mV 4 10,
mV 5 11,
mV 6 12] [1,6]
(.seq (ul [mV 13 6,
wh 14 13 0] [1,6,14]
(.cond (.t 14)
(ul [mV 15 6,
⟨some 2,none, .mv (.c (.str ⟨#[]⟩))⟩,
mV 3 15] [2,3]
.ret)
.skip))
(ul [oe 16 5 1,
qv 17 97 qD [.t 16],
mV 2 17,
oR 3 0] [2,3]
.ret))))
abbrev SJ:RsT:=[(2,none),(3,none)]
theorem TN:SpF 18 MD NZ SJ:=SpI Tryz.func37 (by kernel_rfl)
theorem Tj:au Tryz.prog MD = true:=by kernel_rfl
abbrev KE:FuncId:=38
def JY:AC:=
(ul [oP 2 (.alloc ud),
oP 3 (.alloc [.int .i64 0])] [0,2,3]
(.seq (ul [mV 12 0,
oP 13 (.lenStr (.t 12)),
wn 14 13 4000] [0,2,3,14]
(.cond (.t 14)
(ul [oP 15 (.loadd (some 5) (.t 2)),
xx 5 2 15,
oN (.store 1 (.t 3) (cI 3))] [2,3]
.ret)
.skip))
(.seq (.dfr 16 98 [.t 2,.t 3] [0,2,3])
(ul [oP 4 (.alloc [.slice 1 [], .slice 1 [], .mint 4, .mint 5, .mint 4])] [0,2,3,4]
(.seq (ul [mV 17 0,
mV 5 17] [0,2,3,4,5]
(.block 0
(.loop [0,2,3,4,5]
(.seq (ul [mV 18 5,
⟨some 19,none, .bin .neq (.t 18) (.c (.str ⟨#[]⟩))⟩] [0,2,3,4,5,19]
(.cond (.t 19)
.skip
(.exit 0)))
(.block 1
(ul [mV 21 5,
⟨some 22,none, .call (.f 99) qO [.t 21,(.c (.str ⟨#[10]⟩))]⟩,
mV 20 22,
xr 23 20 0,
xr 24 20 1,
xr 25 20 2,
mV 6 23,
mV 7 24,
mV 8 25] [0,2,3,4,6,7,8]
(ul [mV 26 8,
qv 27 100 qF [.t 26]] [0,2,3,4,6,7]
(ul [mV 28 6,
⟨some 29,none, .call (.f 102) qO [.t 28,(.c (.str ⟨#[32]⟩))]⟩,
qv 30 101 qB [.t 4,.t 29]] [0,2,3,4,7]
(.reg [mV 31 7,
mV 5 31] [0,2,3,4,5])))))))))
(ul [oK 33 5 0 4,
oe 34 5 33,
qv 35 16 qD [.t 34],
mV 32 35,
xr 36 32 0,
xr 37 32 1,
xr 38 32 2,
mV 9 36,
mV 10 37,
mV 11 38] [0,2,3,4,11]
(ul [mV 39 11,
wb 40 39 0,
mV 41 40,
gT 42 41 (.load (some 5) (.t 4)),
gT 43 41 (.call (.f 96) qD [.t 42]),
wq 44 41 0,
gT 45 41 (.bin .eql (.t 43) (.t 44)),
oP 46 (.pick (.t 41) (.t 45) (.c (.bool false))),
qv 47 100 qF [.t 46]] [2,3,4]
(ul [oK 48 5 0 4,
oP 49 (.loadd (some 5) (.t 48)),
xx 5 2 49,
oN (.store 1 (.t 3) (cI 0))] [2,3]
.ret))))))))
abbrev RS:RsT:=[(2,some (some 5)),(3,some none)]
theorem SS:x9 Tryz.prog Tryz.f38 50 JY RS = true:=by kernel_rfl
theorem UN {args:List ag} {σ:af} {R:fq → af → Prop} (ha:args.length ≤ 50) (h:AW Tryz.prog 50 none JY (Aj Tryz.prog RS R) { v:=fE args 0,ds:=[] } σ):Spec Tryz.prog KE args σ R:=Spec.Nk Tryz.func38 SS ha h
theorem OY:au Tryz.prog KE = true:=by kernel_rfl
abbrev NC:FuncId:=39
def NA:AC:=
(ul [oP 2 (.alloc ud),
oR 3 0] [0,2]
(.seq (ul [mV 13 0,
oP 14 (.lenStr (.t 13)),
wn 15 14 4000] [0,2,15]
(.cond (.t 15)
(ul [oP 16 (.build ud []),
xx 5 2 16,
oR 3 3] [2,3]
.ret)
.skip))
(ul [oP 4 (.alloc [.slice 1 [], .slice 1 [], .mint 4, .mint 5, .mint 4])] [0,2,4]
(ul [mV 17 0,
qv 18 103 qO [.t 17,(.c (.int .u8 10))],
mV 5 18] [0,2,4,5]
(.seq (ul [oR 6 0] [0,2,4,5,6]
(.block 0
(.loop [0,2,4,5,6]
(.seq (ul [mV 19 6,
kw 20 19 1,
mV 21 5,
zh 22 21,
kN 23 20 22] [0,2,4,5,6,23]
(.cond (.t 23)
.skip
(.exit 0)))
(.seq (.block 1
(ul [mV 26 5,
mV 27 6,
xT 28 1 26 27,
oc 29 28,
qv 30 103 qO [.t 29,(.c (.int .u8 32))],
mV 7 30] [0,2,4,5,6,7]
(.block 2
(ul [mV 33 7,
oP 34 (.ixS 1 (.t 33) (cI 0)),
oc 35 34,
⟨some 36,none, .bin .eql (.t 35) (.c (.str ⟨#[107,105,110,100,115]⟩))⟩,
mV 32 36] [0,2,4,5,6,7,32]
(.cond (.t 32)
(.reg [mV 37 7,
oP 38 (.subq 1 (.t 37) (some (cI 1)) none),
oI 39 0 4,
xx 1 39 38] [0,2,4,5,6])
(ul [mV 41 7,
oP 42 (.ixS 1 (.t 41) (cI 0)),
oc 43 42,
⟨some 44,none, .bin .eql (.t 43) (.c (.str ⟨#[112,108,97,99,101,115]⟩))⟩,
mV 40 44] [0,2,4,5,6,7,40]
(.cond (.t 40)
(.reg [mV 45 7,
oP 46 (.subq 1 (.t 45) (some (cI 1)) none),
oI 47 1 4,
xx 1 47 46] [0,2,4,5,6])
(ul [mV 49 7,
oP 50 (.ixS 1 (.t 49) (cI 0)),
oc 51 50,
⟨some 52,none, .bin .eql (.t 51) (.c (.str ⟨#[112,97,112,101,114]⟩))⟩,
mV 53 52,
wq 54 53 7,
wP 55 53 54,
wx 56 53 55 6,
oP 57 (.pick (.t 53) (.t 56) (.c (.bool false))),
mV 48 57] [0,2,4,5,6,7,48]
(.cond (.t 48)
(ul [oR 8 (-1)] [0,2,4,5,6,7,8]
(.seq (ul [mV 58 7,
oP 59 (.ixS 1 (.t 58) (cI 5)),
oc 60 59,
⟨some 61,none, .bin .neq (.t 60) (.c (.str ⟨#[45]⟩))⟩] [0,2,4,5,6,7,8,61]
(.cond (.t 61)
(.reg [mV 62 7,
oP 63 (.ixS 1 (.t 62) (cI 5)),
oc 64 63,
qv 65 104 qF [.t 64],
mV 8 65] [0,2,4,5,6,7,8])
.skip))
(.creg [oI 66 3 4,
oc 67 66,
oI 68 0 4,
oc 69 68,
mV 70 7,
oP 71 (.ixS 1 (.t 70) (cI 1)),
oc 72 71,
qv 73 105 qK [.t 69,.t 72],
oI 74 1 4,
oc 75 74,
mV 76 7,
oP 77 (.ixS 1 (.t 76) (cI 2)),
oc 78 77,
qv 79 105 qK [.t 75,.t 78],
oI 80 1 4,
oc 81 80,
mV 82 7,
oP 83 (.ixS 1 (.t 82) (cI 3)),
oc 84 83,
qv 85 105 qK [.t 81,.t 84],
mV 86 7,
oP 87 (.ixS 1 (.t 86) (cI 4)),
oc 88 87,
qv 89 104 qF [.t 88],
mV 90 8,
oP 91 (.build yu [(0,1,.t 73),(1,1,.t 79),(2,1,.t 85),(3,1,.t 89),(4,1,.t 90)]),
oP 92 (.lit 0 5 1 [(0,.t 91)]),
oP 93 (.append 5 40 (.t 67) (.t 92)),
oI 94 3 4,
xx 1 94 93] [0,2,4,5,6] [[],[0],[],[2],[],[4],[4,5],[2,3,4,5,6],[],[8],[],[10],[10,11],[2,3,4,5,6,7,8,9,10,11,12],[],[14],[],[16],[16,17],[2,3,4,5,6,7,8,9,10,11,12,13,14,15,16,17,18],[],[20],[20,21],[2,3,4,5,6,7,8,9,10,11,12,13,14,15,16,17,18,19,20,21,22],[],[2,3,4,5,6,7,8,9,10,11,12,13,14,15,16,17,18,19,20,21,22,23,24],[2,3,4,5,6,7,8,9,10,11,12,13,14,15,16,17,18,19,20,21,22,23,24,25],ut 27,ut 28,ut 29] [([0,1,2,3,4,5,6,8,9,10,11,12,14,15,16,17,18,20,21,22,24],7),([],13),([],19),([],23),([25],26),([],27),([28],29)] [])))
(ul [mV 96 7,
zh 97 96,
wb 98 97 5,
mV 95 98] [0,2,4,5,6,7,95]
(.cond (.t 95)
(.seq (.dreg [oI 99 0 4,
oc 100 99,
mV 101 7,
oP 102 (.ixS 1 (.t 101) (cI 1)),
oc 103 102,
qv 104 105 qK [.t 100,.t 103],
oI 105 1 4,
oc 106 105,
mV 107 7,
oP 108 (.ixS 1 (.t 107) (cI 2)),
oc 109 108,
qv 110 105 qK [.t 106,.t 109],
mV 111 7,
oP 112 (.ixS 1 (.t 111) (cI 3)),
oc 113 112,
qv 114 104 qF [.t 113],
mV 115 7,
oP 116 (.ixS 1 (.t 115) (cI 4)),
oc 117 116,
qv 118 104 qF [.t 117],
oP 119 (.build yH [(0,1,.t 114),(1,1,.t 118)]),
oP 120 (.build yF [(0,1,.t 104),(1,1,.t 110),(2,2,.t 119)]),
oP 9 (.alloc yF),
xx 4 9 120] [0,2,4,5,6,7,9] [[],[0],[],[2],[2,3],ut 5,[],[6],[],[8],[8,9],ut 11,[],[12],[12,13],ut 15,[],[16],[16,17],ut 19,ut 20,ut 21,[],ut 23])
(ul [mV 121 7,
oP 122 (.ixS 1 (.t 121) (cI 0)),
oc 123 122,
⟨some 124,none, .bin .eql (.t 123) (.c (.str ⟨#[102,105,114,115,116]⟩))⟩] [0,2,4,5,6,9,124]
(.cond (.t 124)
(.reg [oI 125 2 4,
oc 126 125,
oe 127 4 9,
oP 128 (.lit 0 4 1 [(0,.t 127)]),
oP 129 (.append 4 32 (.t 126) (.t 128)),
oI 130 2 4,
xx 1 130 129] [0,2,4,5,6])
(.reg [oI 131 4 4,
oc 132 131,
oe 133 4 9,
oP 134 (.lit 0 4 1 [(0,.t 133)]),
oP 135 (.append 4 32 (.t 132) (.t 134)),
oI 136 4 4,
xx 1 136 135] [0,2,4,5,6]))))
(ul [oP 31 (.build ud []),
xx 5 2 31,
oR 3 6] [2,3]
.ret))))))))))))
(.reg [mV 24 6,
kw 25 24 1,
mV 6 25] [0,2,4,5,6]))))))
(ul [oe 138 5 4,
qv 139 17 qD [.t 138],
mV 137 139,
xr 140 137 0,
xr 141 137 1,
xr 142 137 2,
mV 10 140,
mV 11 141,
mV 12 142] [0,2,4,12]
(.seq (ul [mV 143 12,
wh 144 143 0,
mV 145 144,
gF 146 145 (.load (some 5) (.t 4)),
gF 147 145 (.call (.f 97) qD [.t 146]),
ve 148 145 0,
gF 149 145 (.bin .neq (.t 147) (.t 148)),
oP 150 (.pick (.t 145) (.c (.bool true)) (.t 149))] [2,4,150]
(.cond (.t 150)
(ul [oP 151 (.build ud []),
xx 5 2 151,
oR 3 6] [2,3]
.ret)
.skip))
(ul [oP 152 (.loadd (some 5) (.t 4)),
xx 5 2 152,
oR 3 0] [2,3]
.ret))))))))
abbrev UA:RsT:=[(2,some (some 5)),(3,none)]
theorem UF:SpF 153 NC NA UA:=SpI Tryz.func39 (by kernel_rfl)
theorem TI:au Tryz.prog NC = true:=by kernel_rfl
abbrev Nu:FuncId:=40
def Ol:AC:=
(ul [zw 2 5 0,
zw 3 5 1,
oP 4 (.mv (.c (.bool false)))] [2,3]
(ul [oI 7 0 2,
oc 8 7,
oI 9 0 3,
oc 10 9,
qv 11 106 qB [.t 8,.t 10],
mV 12 11,
ww 13 12 1 2,
wt 14 12 13,
ww 15 12 1 3,
wt 16 12 15,
gT 17 12 (.call (.f 106) qB [.t 14,.t 16]),
oP 18 (.pick (.t 12) (.t 17) (.c (.bool false))),
mV 19 18,
ww 20 19 2 2,
wt 21 19 20,
ww 22 19 2 3,
wt 23 19 22,
gT 24 19 (.call (.f 107) qB [.t 21,.t 23]),
oP 25 (.pick (.t 19) (.t 24) (.c (.bool false))),
mV 26 25,
ww 27 26 4 2,
wt 28 26 27,
ww 29 26 4 3,
wt 30 26 29,
gT 31 26 (.call (.f 107) qB [.t 28,.t 30]),
oP 32 (.pick (.t 26) (.t 31) (.c (.bool false))),
mV 33 32,
ww 34 33 3 2,
wt 35 33 34,
wP 36 33 35,
ww 37 33 3 3,
wt 38 33 37,
wP 39 33 38,
gT 40 33 (.bin .eql (.t 36) (.t 39)),
oP 41 (.pick (.t 33) (.t 40) (.c (.bool false))),
mV 5 41] [2,3,5]
(.seq (ul [oR 6 0] [2,3,5,6]
(.block 0
(.loop [2,3,5,6]
(.seq (ul [mV 42 6,
oI 43 3 2,
oc 44 43,
zh 45 44,
kN 46 42 45,
mV 47 46,
wq 48 47 5,
oP 49 (.pick (.t 47) (.t 48) (.c (.bool false)))] [2,3,5,6,49]
(.cond (.t 49)
.skip
(.exit 0)))
(.seq (.block 1
(.dreg [oI 52 3 2,
oc 53 52,
mV 54 6,
xT 55 5 53 54,
oe 56 5 55,
oI 57 3 3,
oc 58 57,
mV 59 6,
xT 60 5 58 59,
oe 61 5 60,
oP 62 (.eqa false [.i, .i, .i, .i, .i] (.t 56) (.t 61)),
mV 5 62] [2,3,5,6] [[],[0],[],[0,1,2],ut 4,[],[5],[],[5,6,7],[5,6,7,8],ut 10,ut 11]))
(.reg [mV 50 6,
kw 51 50 1,
mV 6 51] [2,3,5,6]))))))
(ul [mV 63 5,
mV 4 63] [4]
.ret))))
abbrev SV:RsT:=[(4,none)]
theorem UM:SpF 64 Nu Ol SV:=SpI Tryz.func40 (by kernel_rfl)
theorem Oy:au Tryz.prog Nu = true:=by kernel_rfl
abbrev JI:FuncId:=41
def OP:AC:=
(ul [oP 2 (.alloc ud)] [0,2]
(ul [⟨some 4,none, .lit 0 1 2 [(0,(.c (.str ⟨#[111,105,108]⟩))),(1,(.c (.str ⟨#[112,97,105,110,116]⟩)))]⟩,
⟨some 5,none, .lit 0 1 2 [(0,(.c (.str ⟨#[121,97,114,100]⟩))),(1,(.c (.str ⟨#[112,105,116]⟩)))]⟩,
qv 6 42 qO [cI 1000,cI 1000],
oP 7 (.build yF [(2,2,.t 6)]),
oP 8 (.lit 0 4 1 [(0,.t 7)]),
oP 9 (.build yu [(2,1,cI 1),(3,1,cI 600),(4,1,cI 1)]),
oP 10 (.build yu [(2,1,cI 1),(3,1,cI 500)]),
oP 11 (.build yu [(2,1,cI (-1)),(3,1,cI 300),(4,1,cI (-1))]),
oP 12 (.lit 0 5 3 [(0,.t 9),(1,.t 10),(2,.t 11)]),
qv 13 42 qO [cI 100,cI 100],
oP 14 (.build yF [(2,2,.t 13)]),
qv 15 42 qO [cI 600,cI 600],
oP 16 (.build yF [(1,1,cI 1),(2,2,.t 15)]),
oP 17 (.lit 0 4 2 [(0,.t 14),(1,.t 16)]),
oP 18 (.build ud [(0,1,.t 4),(1,1,.t 5),(2,1,.t 8),(3,1,.t 12),(4,1,.t 17)]),
oP 3 (.alloc ud),
xx 5 3 18] [0,2,3]
(.seq (ul [mV 19 0] [2,3,19]
(.cond (.t 19)
(.reg [qv 20 42 qO [cI 100,cI 200],
oP 21 (.build yF [(2,2,.t 20)]),
oP 22 (.lit 0 4 1 [(0,.t 21)]),
oI 23 4 3,
xx 1 23 22] [2,3])
.skip))
(ul [oP 24 (.loadd (some 5) (.t 3)),
xx 5 2 24] [2]
.ret))))
abbrev MG:RsT:=[(2,some (some 5))]
theorem TT:SpF 25 JI OP MG:=SpI Tryz.func41 (by kernel_rfl)
theorem HQ:au Tryz.prog JI = true:=by kernel_rfl
def lM:AC:=
(ul [oP 2 (.alloc ud)] [0,2]
(ul [⟨some 4,none, .lit 0 1 2 [(0,(.c (.str ⟨#[111,105,108]⟩))),(1,(.c (.str ⟨#[112,97,105,110,116]⟩)))]⟩,
⟨some 5,none, .lit 0 1 2 [(0,(.c (.str ⟨#[121,97,114,100]⟩))),(1,(.c (.str ⟨#[112,105,116]⟩)))]⟩,
qv 6 42 qO [cI 1000,cI 1000],
oP 7 (.build yF [(2,2,.t 6)]),
oP 8 (.lit 0 4 1 [(0,.t 7)]),
oP 9 (.build yu [(2,1,cI 1),(3,1,cI 600),(4,1,cI 1)]),
oP 10 (.build yu [(2,1,cI 1),(3,1,cI 500)]),
oP 11 (.build yu [(2,1,cI (-1)),(3,1,cI 300),(4,1,cI (-1))]),
oP 12 (.lit 0 5 3 [(0,.t 9),(1,.t 10),(2,.t 11)]),
qv 13 42 qO [cI 100,cI 100],
oP 14 (.build yF [(2,2,.t 13)]),
qv 15 42 qO [cI 600,cI 600],
oP 16 (.build yF [(1,1,cI 1),(2,2,.t 15)]),
oP 17 (.lit 2 4 2 [(0,.t 14),(1,.t 16)]),
oP 18 (.build ud [(0,1,.t 4),(1,1,.t 5),(2,1,.t 8),(3,1,.t 12),(4,1,.t 17)]),
oP 3 (.alloc ud),
xx 5 3 18] [0,2,3]
(.seq (ul [mV 19 0] [2,3,19]
(.cond (.t 19)
(.reg [qv 20 42 qO [cI 100,cI 200],
oP 21 (.build yF [(2,2,.t 20)]),
oP 22 (.lit 0 4 1 [(0,.t 21)]),
oI 23 4 3,
xx 1 23 22] [2,3])
.skip))
(ul [oP 24 (.loadd (some 5) (.t 3)),
xx 5 2 24] [2]
.ret))))
theorem yb:x9 Tryz.prog Tryz.f41 25 lM MG = true:=by kernel_rfl
theorem tA:SpF 25 JI lM MG:=fun ha h=>Spec.wS Tryz.func41 yb ha h
abbrev MY:FuncId:=42
def Oi:AC:=
(ul [oP 4 (.alloc yH)] [0,1,4]
(ul [mV 5 0,
mV 6 1,
oP 7 (.build yH [(0,1,.t 5),(1,1,.t 6)]),
xx 2 4 7] [4]
.ret))
abbrev UO:RsT:=[(4,some (some 2))]
theorem Us:SpF 8 MY Oi UO:=SpI Tryz.func42 (by kernel_rfl)
theorem p8:au Tryz.prog MY = true:=by kernel_rfl
abbrev Nt:FuncId:=45
def Qe:AC:=
(ul [oP 4 (.mv (.c (.bool false)))] [0,1]
(.seq (ul [oR 5 0] [0,1,5]
(.block 0
(.loop [0,1,5]
(.seq (ul [mV 6 5,
mV 7 0,
zh 8 7,
kN 9 6 8] [0,1,5,9]
(.cond (.t 9)
.skip
(.exit 0)))
(.seq (.block 1
(ul [mV 12 0,
mV 13 5,
xT 14 1 12 13,
oc 15 14,
mV 16 1,
kV 17 15 16] [0,1,5,17]
(.cond (.t 17)
(ul [oP 4 (.mv (.c (.bool true)))] [4]
.ret)
.skip)))
(.reg [mV 10 5,
kw 11 10 1,
mV 5 11] [0,1,5]))))))
(ul [oP 4 (.mv (.c (.bool false)))] [4]
.ret)))
abbrev TS:RsT:=[(4,none)]
theorem Ue:SpF 18 Nt Qe TS:=SpI Tryz.func45 (by kernel_rfl)
theorem BL:au Tryz.prog Nt = true:=by kernel_rfl
abbrev M9:FuncId:=50
def O1:AC:=
(ul [zw 2 5 0,
oR 4 0] [1,2]
(ul [oe 10 5 2,
qv 11 17 qD [.t 10],
mV 9 11,
xr 12 9 0,
xr 13 9 1,
xr 14 9 2,
mV 5 12,
mV 6 13,
mV 7 14] [1,2,7]
(.seq (ul [oR 8 0] [1,2,7,8]
(.block 0
(.loop [1,2,7,8]
(.seq (ul [mV 15 8,
mV 16 1,
zh 17 16,
kN 18 15 17,
mV 19 18,
wq 20 19 7,
wx 21 19 20 0,
oP 22 (.pick (.t 19) (.t 21) (.c (.bool false)))] [1,2,7,8,22]
(.cond (.t 22)
.skip
(.exit 0)))
(.seq (.block 1
(.seq (.dreg [mV 25 1,
mV 26 8,
xT 27 1 25 26,
oc 28 27,
oI 29 3 2,
oc 30 29,
zh 31 30,
kL 32 31 1,
qv 33 63 [false,false,false] [.t 28,cI 0,.t 32],
kb 34 33] [1,2,7,8,34] [[],[],[0,1],[0,1,2],[],[4],[4,5],[4,5,6],ut 8,ut 9])
(.cond (.t 34)
(.reg [oR 7 4] [1,2,7,8])
(.seq (.dreg [mV 35 8,
wn 36 35 0,
mV 37 36,
wq 38 37 1,
wq 39 37 8,
wW 40 37 1 38 39,
wt 41 37 40,
wq 42 37 1,
wq 43 37 8,
gT 44 37 (.bin .sub (.t 43) (cI 1)),
wW 45 37 1 42 44,
wt 46 37 45,
gT 47 37 (.bin .leq (.t 41) (.t 46)),
oP 48 (.pick (.t 37) (.t 47) (.c (.bool false)))] [1,2,7,8,48] [[],[0],[0,1],[0,1,2],[0,1,2],ut 5,ut 6,[0,1,2],[0,1,2],[0,1,2,8],[0,1,2,7,8,9],[0,1,2,7,8,9,10],ut 12,ut 13])
(.cond (.t 48)
(.reg [oR 7 2] [1,2,7,8])
.skip)))))
(.reg [mV 23 8,
kw 24 23 1,
mV 8 24] [1,2,7,8]))))))
(ul [mV 49 7,
mV 4 49] [4]
.ret))))
abbrev T3:RsT:=[(4,none)]
theorem SA:SpF 50 M9 O1 T3:=SpI Tryz.func50 (by kernel_rfl)
theorem Ja:au Tryz.prog M9 = true:=by kernel_rfl
abbrev NU:FuncId:=51
def OZ:AC:=
(ul [zw 3 5 0,
oP 6 (.alloc ud),
oP 7 (.mv (.c (.slice 1 [])))] [1,2,3,6]
(ul [oe 15 5 3,
oP 8 (.alloc ud),
xx 5 8 15] [1,2,3,6,8]
(ul [oI 16 2 8,
oN (.storem 4 (.t 16)),
oI 17 3 8,
oN (.storem 1005 (.t 17)),
oI 18 4 8,
oN (.storem 4 (.t 18))] [1,2,3,6,8]
(ul [oI 19 3 3,
oc 20 19,
zh 21 20,
oP 22 (.mksl 2 1 8 (.int .i64 0) (.t 21) (.t 21)),
mV 9 22] [1,2,3,6,8,9]
(ul [oP 10 (.nilS 1 1)] [1,2,3,6,8,9,10]
(.seq (ul [oR 11 0] [1,2,3,6,8,9,10,11]
(.block 0
(.loop [1,2,3,6,8,9,10,11]
(.seq (ul [mV 23 11,
oI 24 3 3,
oc 25 24,
zh 26 25,
kN 27 23 26] [1,2,3,6,8,9,10,11,27]
(.cond (.t 27)
.skip
(.exit 0)))
(.seq (.block 1
(ul [oI 30 3 3,
oc 31 30,
mV 32 11,
xT 33 5 31 32,
oI 34 0 33,
oc 35 34,
mV 36 1,
kV 37 35 36] [1,2,3,6,8,9,10,11,37]
(.cond (.t 37)
(ul [mV 38 9,
mV 39 11,
oI 40 3 8,
oc 41 40,
zh 42 41,
xT 43 1 38 39,
xx 1 43 42] [1,2,3,6,8,9,10,11]
(.seq (.dreg [oI 44 3 8,
oc 45 44,
oI 46 3 3,
oc 47 46,
mV 48 11,
xT 49 5 47 48,
oe 50 5 49,
oP 51 (.lit 0 5 1 [(0,.t 50)]),
oP 52 (.append 5 40 (.t 45) (.t 51)),
oI 53 3 8,
xx 1 53 52] [1,2,3,6,8,9,10,11] [[],[0],[],[2],[],[2,3,4],[2,3,4,5],[2,3,4,5,6],ut 8,ut 9,ut 10])
(ul [mV 54 2,
mV 55 11,
qv 56 45 qK [.t 54,.t 55]] [1,2,3,6,8,9,10,11,56]
(.cond (.t 56)
(.reg [mV 57 10,
mV 58 9,
mV 59 11,
xT 60 1 58 59,
oc 61 60,
oP 62 (.lit 0 1 1 [(0,.t 61)]),
oP 63 (.append 1 8 (.t 57) (.t 62)),
mV 10 63] [1,2,3,6,8,9,10,11])
.skip))))
.skip)))
(.reg [mV 28 11,
kw 29 28 1,
mV 11 29] [1,2,3,6,8,9,10,11]))))))
(.seq (ul [oR 12 0] [1,3,6,8,9,10,12]
(.block 2
(.loop [1,3,6,8,9,10,12]
(.seq (ul [mV 64 12,
oI 65 3 8,
oc 66 65,
zh 67 66,
kN 68 64 67] [1,3,6,8,9,10,12,68]
(.cond (.t 68)
.skip
(.exit 2)))
(.seq (.block 3
(ul [oI 71 3 8,
oc 72 71,
mV 73 12,
xT 74 5 72 73,
oI 75 4 74,
oc 76 75,
wl 77 76 0] [1,3,6,8,9,10,12,77]
(.cond (.t 77)
(.dreg [oI 78 3 8,
oc 79 78,
mV 80 12,
mV 81 9,
oI 82 3 8,
oc 83 82,
mV 84 12,
xT 85 5 83 84,
oI 86 4 85,
oc 87 86,
xT 88 1 81 87,
oc 89 88,
xT 90 5 79 80,
oI 91 4 90,
xx 1 91 89] [1,3,6,8,9,10,12] [[],[0],[],[],[],[4],[],[4,5,6],[4,5,6,7],[4,5,6,7,8],[3,4,5,6,7,8,9],[3,4,5,6,7,8,9,10],ut 12,ut 13,ut 14])
.skip)))
(.reg [mV 69 12,
kw 70 69 1,
mV 12 70] [1,3,6,8,9,10,12]))))))
(.seq (ul [oR 13 0] [1,3,6,8,10,13]
(.block 4
(.loop [1,3,6,8,10,13]
(.seq (ul [mV 92 13,
oI 93 2 3,
oc 94 93,
zh 95 94,
kN 96 92 95] [1,3,6,8,10,13,96]
(.cond (.t 96)
.skip
(.exit 4)))
(.seq (.block 5
(ul [oI 99 2 3,
oc 100 99,
mV 101 13,
xT 102 4 100 101,
oI 103 0 102,
oc 104 103,
mV 105 1,
kV 106 104 105] [1,3,6,8,10,13,106]
(.cond (.t 106)
(.dreg [oI 107 2 8,
oc 108 107,
oI 109 2 3,
oc 110 109,
mV 111 13,
xT 112 4 110 111,
oe 113 4 112,
oP 114 (.lit 0 4 1 [(0,.t 113)]),
oP 115 (.append 4 32 (.t 108) (.t 114)),
oI 116 2 8,
xx 1 116 115] [1,3,6,8,10,13] [[],[0],[],[2],[],[2,3,4],[2,3,4,5],[2,3,4,5,6],ut 8,ut 9,ut 10])
.skip)))
(.reg [mV 97 13,
kw 98 97 1,
mV 13 98] [1,3,6,8,10,13]))))))
(.seq (ul [oR 14 0] [1,3,6,8,10,14]
(.block 6
(.loop [1,3,6,8,10,14]
(.seq (ul [mV 117 14,
oI 118 4 3,
oc 119 118,
zh 120 119,
kN 121 117 120] [1,3,6,8,10,14,121]
(.cond (.t 121)
.skip
(.exit 6)))
(.seq (.block 7
(ul [oI 124 4 3,
oc 125 124,
mV 126 14,
xT 127 4 125 126,
oI 128 0 127,
oc 129 128,
mV 130 1,
kV 131 129 130] [1,3,6,8,10,14,131]
(.cond (.t 131)
(.dreg [oI 132 4 8,
oc 133 132,
oI 134 4 3,
oc 135 134,
mV 136 14,
xT 137 4 135 136,
oe 138 4 137,
oP 139 (.lit 0 4 1 [(0,.t 138)]),
oP 140 (.append 4 32 (.t 133) (.t 139)),
oI 141 4 8,
xx 1 141 140] [1,3,6,8,10,14] [[],[0],[],[2],[],[2,3,4],[2,3,4,5],[2,3,4,5,6],ut 8,ut 9,ut 10])
.skip)))
(.reg [mV 122 14,
kw 123 122 1,
mV 14 123] [1,3,6,8,10,14]))))))
(.DL 8 3 5 (ul [oP 142 (.loadd (some 5) (.t 8)),
mV 143 10,
xx 5 6 142,
oP 7 (.mvd (.t 143))] [6,7]
.ret)))))))))))
abbrev Tb:RsT:=[(6,some (some 5)),(7,none)]
theorem UK:SpF 144 NU OZ Tb:=SpI Tryz.func51 (by kernel_rfl)
theorem U4:au Tryz.prog NU = true:=by kernel_rfl
abbrev MB:FuncId:=52
def Rx:AC:=
(ul [oP 2 (.mv (.c (.bool false)))] [0]
(.seq (ul [mV 6 0,
oP 7 (.lenStr (.t 6)),
qv 8 109 [false,false,false] [.t 7,cI 1,cI 16],
kb 9 8,
mV 10 9,
ve 11 10 0,
gF 12 10 (.ixStr (.t 11) (cI 0)),
gF 13 10 (.bin .lss (.t 12) (.c (.int .u8 97))),
oP 14 (.pick (.t 10) (.c (.bool true)) (.t 13)),
mV 15 14,
ve 16 15 0,
gF 17 15 (.ixStr (.t 16) (cI 0)),
gF 18 15 (.bin .gtr (.t 17) (.c (.int .u8 122))),
oP 19 (.pick (.t 15) (.c (.bool true)) (.t 18))] [0,19]
(.cond (.t 19)
(ul [oP 2 (.mv (.c (.bool false)))] [2]
.ret)
.skip))
(.seq (ul [oR 3 1] [0,3]
(.block 0
(.loop [0,3]
(.seq (ul [mV 20 3,
mV 21 0,
oP 22 (.lenStr (.t 21)),
kN 23 20 22] [0,3,23]
(.cond (.t 23)
.skip
(.exit 0)))
(.seq (.block 1
(.seq (.dreg [mV 26 0,
mV 27 3,
oP 28 (.ixStr (.t 26) (.t 27)),
oP 29 (.bin .geq (.t 28) (.c (.int .u8 97))),
mV 30 29,
wq 31 30 0,
wq 32 30 3,
gT 33 30 (.ixStr (.t 31) (.t 32)),
gT 34 30 (.bin .leq (.t 33) (.c (.int .u8 122))),
oP 35 (.pick (.t 30) (.t 34) (.c (.bool false))),
mV 36 0,
mV 37 3,
oP 38 (.ixStr (.t 36) (.t 37)),
oP 39 (.bin .geq (.t 38) (.c (.int .u8 48))),
mV 40 39,
wq 41 40 0,
wq 42 40 3,
gT 43 40 (.ixStr (.t 41) (.t 42)),
gT 44 40 (.bin .leq (.t 43) (.c (.int .u8 57))),
oP 45 (.pick (.t 40) (.t 44) (.c (.bool false))),
mV 4 35,
mV 5 45] [0,3,4,5] [[],[],[0,1],[0,1,2],ut 4,ut 5,ut 5,ut 7,ut 8,ut 9,[],[],[10,11],[10,11,12],[0,1,2,3,4,10,11,12,13],[0,1,2,3,4,10,11,12,13,14],[0,1,2,3,4,10,11,12,13,14],[0,1,2,3,4,10,11,12,13,14,15,16],[0,1,2,3,4,10,11,12,13,14,15,16,17],[0,1,2,3,4,10,11,12,13,14,15,16,17,18],ut 15,ut 21])
(ul [mV 46 4,
kb 47 46,
mV 48 47,
wq 49 48 5,
gT 50 48 (.un .not (.t 49)),
oP 51 (.pick (.t 48) (.t 50) (.c (.bool false)))] [0,3,51]
(.cond (.t 51)
(ul [oP 2 (.mv (.c (.bool false)))] [2]
.ret)
.skip))))
(.reg [mV 24 3,
kw 25 24 1,
mV 3 25] [0,3]))))))
(ul [oP 2 (.mv (.c (.bool true)))] [2]
.ret))))
abbrev TE:RsT:=[(2,none)]
theorem UZ:SpF 52 MB Rx TE:=SpI Tryz.func52 (by kernel_rfl)
theorem Na:au Tryz.prog MB = true:=by kernel_rfl
abbrev Hf:FuncId:=53
def Qi:AC:=
(ul [zw 3 1 0,
zw 4 1 1,
oP 6 (.mv (.c (.bool false)))] [2,3,4]
(ul [mV 7 2,
oP 8 (.mkfunc (.func 111) [] [.t 3,.t 4]),
qv 9 110 qK [.t 7,.t 8],
mV 6 9] [6]
.ret))
abbrev Uu:RsT:=[(6,none)]
theorem SX:SpF 10 Hf Qi Uu:=SpI Tryz.func53 (by kernel_rfl)
theorem cm:au Tryz.prog Hf = true:=by kernel_rfl
abbrev KT:FuncId:=54
def RE:AC:=
(ul [oR 1 0,
oR 2 0] [0]
(ul [oK 3 5 0 0,
oI 4 0 3,
oc 5 4,
qv 6 55 qD [.t 5],
xr 7 6 0,
xr 8 6 1,
mV 1 7,
mV 2 8] [1,2]
.ret))
abbrev Ti:RsT:=[(1,none),(2,none)]
theorem Sj:SpF 9 KT RE Ti:=SpI Tryz.func54 (by kernel_rfl)
theorem QO:au Tryz.prog KT = true:=by kernel_rfl
abbrev NR:FuncId:=55
def Q5:AC:=
(ul [zw 1 1 0,
oR 2 0,
oR 3 0] [1]
(ul [oc 4 1,
oP 5 (.mkfunc (.func 113) [] [.t 1]),
qv 6 112 qK [.t 4,.t 5],
xr 7 6 0,
xr 8 6 1,
mV 2 7,
mV 3 8] [2,3]
.ret))
abbrev Ul:RsT:=[(2,none),(3,none)]
theorem T1:SpF 9 NR Q5 Ul:=SpI Tryz.func55 (by kernel_rfl)
theorem Qz:au Tryz.prog NR = true:=by kernel_rfl
abbrev Ka:FuncId:=56
def Rm:AC:=
(ul [oR 1 0,
oR 2 0] [0]
(ul [oK 3 5 0 0,
oI 4 1 3,
oc 5 4,
qv 6 55 qD [.t 5],
xr 7 6 0,
xr 8 6 1,
mV 1 7,
mV 2 8] [1,2]
.ret))
abbrev SY:RsT:=[(1,none),(2,none)]
theorem Sy:SpF 9 Ka Rm SY:=SpI Tryz.func56 (by kernel_rfl)
theorem O4:au Tryz.prog Ka = true:=by kernel_rfl
abbrev Kh:FuncId:=57
def Qx:AC:=
(ul [oR 1 0,
oR 2 0] [0]
(ul [oe 3 5 0,
oK 4 5 0 0,
oI 5 2 4,
oc 6 5,
qv 7 58 qB [.t 3,.t 6],
xr 8 7 0,
xr 9 7 1,
mV 1 8,
mV 2 9] [1,2]
.ret))
abbrev UP:RsT:=[(1,none),(2,none)]
theorem Tr:SpF 10 Kh Qx UP:=SpI Tryz.func57 (by kernel_rfl)
theorem OW:au Tryz.prog Kh = true:=by kernel_rfl
abbrev Nw:FuncId:=58
def QT:AC:=
(ul [zw 2 5 0,
oR 4 0,
oR 5 0] [1,2]
(ul [oP 7 (.mnew),
oP 6 (.alloc [.nilmap]),
xx 1 6 7] [1,2,6]
(.frz 6 false (ul [mV 8 1,
oP 9 (.mkfunc (.func 117) [] [.t 6,.t 2]),
qv 10 116 qK [.t 8,.t 9],
xr 11 10 0,
xr 12 10 1,
mV 4 11,
mV 5 12] [4,5]
.ret))))
abbrev US:RsT:=[(4,none),(5,none)]
theorem Si:SpF 13 Nw QT US:=SpI Tryz.func58 (by kernel_rfl)
theorem O3:au Tryz.prog Nw = true:=by kernel_rfl
abbrev Kb:FuncId:=59
def QW:AC:=
(ul [oR 1 0,
oR 2 0] [0]
(ul [oK 3 5 0 0,
oI 4 3 3,
oc 5 4,
oe 6 5 0,
oP 7 (.mkfunc (.func 61) [.t 6] []),
qv 8 60 qK [.t 5,.t 7],
xr 9 8 0,
xr 10 8 1,
mV 1 9,
mV 2 10] [1,2]
.ret))
abbrev Tw:RsT:=[(1,none),(2,none)]
theorem Ut:SpF 11 Kb QW Tw:=SpI Tryz.func59 (by kernel_rfl)
theorem QC:au Tryz.prog Kb = true:=by kernel_rfl
abbrev Km:FuncId:=60
def RU:AC:=
(ul [oR 4 0,
oR 5 0] [0,1]
(.seq (ul [mV 8 0,
zh 9 8,
oR 10 0] [1,8,9,10]
(.block 0
(.loop [1,8,9,10]
(ul [kN 11 10 9] [1,8,9,10,11]
(.seq (.cond (.t 11)
.skip
(.exit 0))
(.seq (.block 1
(ul [mV 12 10,
xT 13 5 8 10,
oe 14 5 13,
oP 7 (.alloc yu),
mV 6 12,
xx 5 7 14] [1,6,7,8,9,10]
(.frz 7 true (ul [mV 15 1,
mV 16 6,
oe 17 5 7,
oP 18 (.call (.t 15) qO [.t 16,.t 17]),
mV 5 18] [1,5,6,8,9,10]
(ul [mV 19 5,
wh 20 19 0] [1,5,6,8,9,10,20]
(.cond (.t 20)
(ul [mV 21 6,
mV 22 5,
mV 4 21,
mV 5 22] [4,5]
.ret)
.skip))))))
(.reg [kw 23 10 1,
mV 10 23] [1,8,9,10])))))))
(ul [oR 4 0,
oR 5 0] [4,5]
.ret)))
abbrev Tf:RsT:=[(4,none),(5,none)]
theorem T2:SpF 24 Km RU Tf:=SpI Tryz.func60 (by kernel_rfl)
theorem Sw:au Tryz.prog Km = true:=by kernel_rfl
abbrev KH:FuncId:=61
def yt:AC:=
(ul [zw 3 5 0,
oP 5 (.box 5 (.t 2)),
oR 6 0] [1,3,5]
(.seq (.block 0
(ul [oK 9 5 0 3,
oI 10 0 9,
oc 11 10,
zh 12 11,
kL 13 12 1,
oI 14 0 5,
oc 15 14,
oP 16 (.lit 0 1 1 [(0,.t 15)]),
qv 17 53 [false,false,true] [cI 0,.t 13,.t 16],
mV 18 17,
gF 19 18 (.fieldAddr (some 5) 0 (.t 3)),
vS 20 18 1 19,
vG 21 18 20,
qr 22 18 21,
gF 23 18 (.bin .sub (.t 22) (cI 1)),
vS 24 18 1 5,
vG 25 18 24,
vS 26 18 2 5,
vG 27 18 26,
gF 28 18 (.lit 0 1 2 [(0,.t 25),(1,.t 27)]),
gF 29 18 (.call (.f 53) [false,false,true] [cI (-1),.t 23,.t 28]),
oP 30 (.pick (.t 18) (.c (.bool true)) (.t 29)),
mV 8 30] [1,3,5,8]
(.cond (.t 8)
(ul [oR 6 4] [6]
.ret)
(ul [oI 32 1 5,
oc 33 32,
oI 34 2 5,
oc 35 34,
kV 36 33 35,
mV 31 36] [1,3,5,31]
(.cond (.t 31)
(ul [oR 6 2] [6]
.ret)
(ul [oI 38 3 5,
oc 39 38,
oP 40 (.lit 0 1 1 [(0,.t 39)]),
qv 41 53 [false,false,true] [cI 0,cI 1000000,.t 40],
mV 37 41] [1,3,5,37]
(.cond (.t 37)
(ul [oR 6 7] [6]
.ret)
(ul [oI 43 4 5,
oc 44 43,
wb 45 44 (-1),
mV 42 45] [1,3,5,42]
(.cond (.t 42)
(ul [oR 6 0] [6]
.ret)
(ul [oK 47 5 0 3,
oI 48 3 47,
oc 49 48,
zh 50 49,
kL 51 50 1,
oI 52 4 5,
oc 53 52,
oP 54 (.lit 0 1 1 [(0,.t 53)]),
qv 55 53 [false,false,true] [cI 0,.t 51,.t 54],
mV 56 55,
vS 57 56 4 5,
vG 58 56 57,
ve 59 56 1,
gF 60 56 (.bin .eql (.t 58) (.t 59)),
oP 61 (.pick (.t 56) (.c (.bool true)) (.t 60)),
mV 46 61] [1,3,5,46]
(.cond (.t 46)
(ul [oR 6 9] [6]
.ret)
.skip)))))))))))
(ul [oK 62 5 0 3,
oI 63 3 62,
oc 64 63,
oI 65 4 5,
oc 66 65,
xT 67 5 64 66,
oe 68 5 67,
oP 7 (.alloc yu),
xx 5 7 68] [1,5,7]
(ul [oI 69 3 5,
oc 70 69,
oI 71 3 7,
xx 1 71 70] [1,5,7]
(ul [mV 72 1,
oI 73 4 5,
xx 1 73 72] [5,7]
(.seq (ul [oe 74 5 7,
oe 75 5 5,
oP 76 (.eqa true [.i, .i, .i, .i, .i] (.t 74) (.t 75))] [76]
(.cond (.t 76)
(ul [oR 6 9] [6]
.ret)
.skip))
(ul [oR 6 0] [6]
.ret)))))))
abbrev S3:RsT:=[(6,none)]
theorem UR:SpF 77 KH yt S3:=SpI Tryz.func61 (by kernel_rfl)
theorem S7:au Tryz.prog KH = true:=by kernel_rfl
abbrev JV:FuncId:=62
def QM:AC:=
(ul [oR 1 0,
oR 2 0] [0]
(ul [oe 3 5 0,
oK 4 5 0 0,
oI 5 4 4,
oc 6 5,
qv 7 58 qB [.t 3,.t 6],
xr 8 7 0,
xr 9 7 1,
mV 1 8,
mV 2 9] [1,2]
.ret))
abbrev UI:RsT:=[(1,none),(2,none)]
theorem Tu:SpF 10 JV QM UI:=SpI Tryz.func62 (by kernel_rfl)
theorem RY:au Tryz.prog JV = true:=by kernel_rfl
abbrev Ns:FuncId:=63
def Rq:AC:=
(ul [oP 6 (.mv (.c (.bool false)))] [0,1,2]
(ul [mV 7 0,
mV 8 1,
oP 9 (.bin .geq (.t 7) (.t 8)),
mV 10 9,
wq 11 10 0,
wq 12 10 2,
gT 13 10 (.bin .leq (.t 11) (.t 12)),
oP 14 (.pick (.t 10) (.t 13) (.c (.bool false))),
mV 6 14] [6]
.ret))
abbrev T8:RsT:=[(6,none)]
theorem Ua:SpF 15 Ns Rq T8:=SpI Tryz.func63 (by kernel_rfl)
theorem cU:au Tryz.prog Ns = true:=by kernel_rfl
abbrev MF:FuncId:=64
def O0:AC:=
(ul [oR 2 0,
oR 3 0] [0]
(.seq (ul [oR 4 0] [0,4]
(.block 0
(.loop [0,4]
(.seq (ul [mV 6 4,
mV 7 0,
zh 8 7,
kN 9 6 8] [0,4,9]
(.cond (.t 9)
.skip
(.exit 0)))
(.seq (.block 1
(.seq (.dreg [mV 12 0,
mV 13 4,
xT 14 1 12 13,
oc 15 14,
mV 16 0,
mV 17 4,
oP 18 (.subq 1 (.t 16) none (some (.t 17))),
qv 19 118 [false,true] [.t 15,.t 18],
mV 5 19] [0,4,5] [[],[],[0,1],[0,1,2],[],[],[4,5],ut 7,ut 8])
(ul [mV 20 5,
wh 21 20 0] [0,4,5,21]
(.cond (.t 21)
(ul [mV 22 4,
mV 23 5,
mV 2 22,
mV 3 23] [2,3]
.ret)
.skip))))
(.reg [mV 10 4,
kw 11 10 1,
mV 4 11] [0,4]))))))
(ul [oR 2 0,
oR 3 0] [2,3]
.ret)))
abbrev SZ:RsT:=[(2,none),(3,none)]
theorem UL:SpF 24 MF O0 SZ:=SpI Tryz.func64 (by kernel_rfl)
theorem D0:au Tryz.prog MF = true:=by kernel_rfl
abbrev Od:FuncId:=65
def PX:AC:=
(ul [zw 2 5 0,
oR 4 0,
oR 5 0] [1,2]
(.seq (ul [oR 6 0] [1,2,6]
(.block 0
(.loop [1,2,6]
(.seq (ul [mV 10 6,
mV 11 1,
zh 12 11,
kN 13 10 12] [1,2,6,13]
(.cond (.t 13)
.skip
(.exit 0)))
(.seq (.block 1
(ul [mV 16 1,
mV 17 6,
xT 18 4 16 17,
oe 19 4 18,
oP 7 (.alloc yF),
xx 4 7 19] [1,2,6,7]
(.frz 7 true (.seq (ul [oI 20 0 7,
oc 21 20,
oI 22 0 2,
oc 23 22,
zh 24 23,
kL 25 24 1,
qv 26 63 [false,false,false] [.t 21,cI 0,.t 25],
kb 27 26,
mV 28 27,
vS 29 28 1 7,
vG 30 28 29,
vS 31 28 1 2,
vG 32 28 31,
qr 33 28 32,
gF 34 28 (.bin .sub (.t 33) (cI 1)),
gF 35 28 (.call (.f 63) [false,false,false] [.t 30,cI 0,.t 34]),
gF 36 28 (.un .not (.t 35)),
oP 37 (.pick (.t 28) (.c (.bool true)) (.t 36))] [1,2,6,7,37]
(.cond (.t 37)
(ul [mV 38 6,
mV 4 38,
oR 5 4] [4,5]
.ret)
.skip))
(.seq (ul [oR 8 0] [1,2,6,7,8]
(.block 2
(.loop [1,2,6,7,8]
(.seq (ul [mV 39 8,
mV 40 6,
kN 41 39 40] [1,2,6,7,8,41]
(.cond (.t 41)
.skip
(.exit 2)))
(.seq (.block 3
(.seq (.dreg [mV 44 1,
mV 45 8,
xT 46 4 44 45,
oI 47 0 46,
oc 48 47,
oI 49 0 7,
oc 50 49,
kV 51 48 50,
mV 52 51,
wq 53 52 1,
wq 54 52 8,
wW 55 52 4 53 54,
ww 56 52 1 55,
wt 57 52 56,
ww 58 52 1 7,
wt 59 52 58,
gT 60 52 (.bin .eql (.t 57) (.t 59)),
oP 61 (.pick (.t 52) (.t 60) (.c (.bool false)))] [1,2,6,7,8,61] [[],[],[0,1],[0,1,2],ut 4,[],[5],ut 7,ut 8,ut 9,ut 9,ut 11,ut 12,ut 13,ut 9,[0,1,2,3,4,5,6,7,8,14],ut 16,ut 17])
(.cond (.t 61)
(ul [mV 62 6,
mV 4 62,
oR 5 5] [4,5]
.ret)
.skip)))
(.reg [mV 42 8,
kw 43 42 1,
mV 8 43] [1,2,6,7,8]))))))
(ul [oK 63 2 2 7,
oe 64 2 63,
qv 65 119 [false,false,false] [.t 64,cI 0,cI 1000000],
mV 9 65] [1,2,6,9]
(ul [mV 66 9,
wh 67 66 0] [1,2,6,9,67]
(.cond (.t 67)
(ul [mV 68 6,
mV 69 9,
mV 4 68,
mV 5 69] [4,5]
.ret)
.skip))))))))
(.reg [mV 14 6,
kw 15 14 1,
mV 6 15] [1,2,6]))))))
(ul [oR 4 0,
oR 5 0] [4,5]
.ret)))
abbrev Uj:RsT:=[(4,none),(5,none)]
theorem Su:SpF 70 Od PX Uj:=SpI Tryz.func65 (by kernel_rfl)
theorem MK:au Tryz.prog Od = true:=by kernel_rfl
abbrev M3:FuncId:=66
def yr:AC:=
(ul [zw 2 5 0,
oR 4 0] [1,2]
(ul [oI 7 3 2,
oc 8 7,
mV 9 1,
xT 10 5 8 9,
oe 11 5 10,
oP 5 (.alloc yu),
xx 5 5 11] [1,2,5]
(.frz 5 true (.seq (ul [oI 12 0 5,
oc 13 12,
oI 14 0 2,
oc 15 14,
zh 16 15,
kL 17 16 1,
qv 18 63 [false,false,false] [.t 13,cI 0,.t 17],
kb 19 18,
mV 20 19,
vS 21 20 1 5,
vG 22 20 21,
vS 23 20 1 2,
vG 24 20 23,
qr 25 20 24,
gF 26 20 (.bin .sub (.t 25) (cI 1)),
gF 27 20 (.call (.f 63) [false,false,false] [.t 22,cI (-1),.t 26]),
gF 28 20 (.un .not (.t 27)),
oP 29 (.pick (.t 20) (.c (.bool true)) (.t 28)),
mV 30 29,
vS 31 30 2 5,
vG 32 30 31,
vS 33 30 1 2,
vG 34 30 33,
qr 35 30 34,
gF 36 30 (.bin .sub (.t 35) (cI 1)),
gF 37 30 (.call (.f 63) [false,false,false] [.t 32,cI (-1),.t 36]),
gF 38 30 (.un .not (.t 37)),
oP 39 (.pick (.t 30) (.c (.bool true)) (.t 38))] [1,2,5,39]
(.cond (.t 39)
(ul [oR 4 4] [4]
.ret)
.skip))
(.seq (ul [oI 40 1 5,
oc 41 40,
oI 42 2 5,
oc 43 42,
kV 44 41 43] [1,2,5,44]
(.cond (.t 44)
(ul [oR 4 2] [4]
.ret)
.skip))
(.seq (ul [oI 45 3 5,
oc 46 45,
qv 47 63 [false,false,false] [.t 46,cI 0,cI 1000000],
kb 48 47] [1,2,5,48]
(.cond (.t 48)
(ul [oR 4 7] [4]
.ret)
.skip))
(.seq (ul [oI 49 4 5,
oc 50 49,
wb 51 50 (-1)] [1,2,5,51]
(.cond (.t 51)
(ul [oR 4 0] [4]
.ret)
.skip))
(.seq (ul [oI 52 4 5,
oc 53 52,
oI 54 3 2,
oc 55 54,
zh 56 55,
kL 57 56 1,
qv 58 63 [false,false,false] [.t 53,cI 0,.t 57],
kb 59 58,
mV 60 59,
vS 61 60 4 5,
vG 62 60 61,
ve 63 60 1,
gF 64 60 (.bin .eql (.t 62) (.t 63)),
oP 65 (.pick (.t 60) (.c (.bool true)) (.t 64))] [1,2,5,65]
(.cond (.t 65)
(ul [oR 4 9] [4]
.ret)
.skip))
(ul [oI 66 3 2,
oc 67 66,
oI 68 4 5,
oc 69 68,
xT 70 5 67 69,
oe 71 5 70,
oP 6 (.alloc yu),
xx 5 6 71] [1,5,6]
(.frz 6 true (.seq (ul [oI 72 4 6,
oc 73 72,
mV 74 1,
wd 75 73 74,
mV 76 75,
vS 77 76 0 6,
vG 78 76 77,
vS 79 76 0 5,
vG 80 76 79,
gF 81 76 (.bin .neq (.t 78) (.t 80)),
oP 82 (.pick (.t 76) (.c (.bool true)) (.t 81)),
mV 83 82,
vS 84 83 1 6,
vG 85 83 84,
vS 86 83 1 5,
vG 87 83 86,
gF 88 83 (.bin .neq (.t 85) (.t 87)),
oP 89 (.pick (.t 83) (.c (.bool true)) (.t 88)),
mV 90 89,
vS 91 90 2 6,
vG 92 90 91,
vS 93 90 2 5,
vG 94 90 93,
gF 95 90 (.bin .neq (.t 92) (.t 94)),
oP 96 (.pick (.t 90) (.c (.bool true)) (.t 95))] [96]
(.cond (.t 96)
(ul [oR 4 9] [4]
.ret)
.skip))
(ul [oR 4 0] [4]
.ret))))))))))))
abbrev Ux:RsT:=[(4,none)]
theorem Tz:SpF 97 M3 yr Ux:=SpI Tryz.func66 (by kernel_rfl)
theorem OD:au Tryz.prog M3 = true:=by kernel_rfl
abbrev MX:FuncId:=67
def NN:AC:=
(ul [zw 2 5 0,
zw 3 1 1,
oP 4 (.alloc ud),
oR 5 0] [2,3,4]
(ul [oe 6 5 2,
oP 7 (.build ud [(0,5,.t 6)]),
xx 5 4 7] [2,3,4]
(.seq (ul [oe 9 5 2,
qv 10 16 qD [.t 9],
mV 8 10,
xr 11 8 0,
xr 12 8 1,
xr 13 8 2,
mV 5 13] [3,4,5]
(ul [mV 14 5,
wh 15 14 0] [3,4,5,15]
(.cond (.t 15)
(ul [oP 16 (.loadd (some 5) (.t 4)),
mV 17 5,
xx 5 4 16,
mV 5 17] [4,5]
.ret)
.skip)))
(ul [oc 19 3,
oP 20 (.mkfunc (.func 121) [] [.t 4,.t 3]),
qv 21 120 qK [.t 19,.t 20],
mV 18 21,
xr 22 18 0,
xr 23 18 1,
mV 5 23] [4,5]
(ul [oP 24 (.loadd (some 5) (.t 4)),
mV 25 5,
xx 5 4 24,
mV 5 25] [4,5]
.ret)))))
abbrev TJ:RsT:=[(4,some (some 5)),(5,none)]
theorem U1:SpF 26 MX NN TJ:=SpI Tryz.func67 (by kernel_rfl)
theorem nN:au Tryz.prog MX = true:=by kernel_rfl
abbrev NP:FuncId:=68
def MN:AC:=
(ul [zw 2 5 0,
oP 4 (.mv (.c (.bool false)))] [1,2]
(.seq (ul [oe 6 5 2,
mV 7 1,
qv 8 70 qB [.t 6,.t 7],
wl 9 8 0] [1,2,9]
(.cond (.t 9)
(ul [oP 4 (.mv (.c (.bool false)))] [4]
.ret)
.skip))
(.seq (ul [oK 10 5 0 2,
oI 11 0 10,
oc 12 11,
zh 13 12,
oR 14 0] [1,2,13,14]
(.block 0
(.loop [1,2,13,14]
(ul [kN 15 14 13] [1,2,13,14,15]
(.seq (.cond (.t 15)
.skip
(.exit 0))
(.seq (.block 1
(ul [mV 16 14,
mV 5 16] [1,2,5,13,14]
(ul [oe 17 5 2,
mV 18 5,
mV 19 1,
qv 20 122 [true,false,true] [.t 17,.t 18,.t 19],
qv 21 123 qF [.t 20],
kb 22 21] [1,2,13,14,22]
(.cond (.t 22)
(ul [oP 4 (.mv (.c (.bool false)))] [4]
.ret)
.skip))))
(.reg [kw 23 14 1,
mV 14 23] [1,2,13,14])))))))
(ul [oP 4 (.mv (.c (.bool true)))] [4]
.ret))))
abbrev Ud:RsT:=[(4,none)]
theorem TY:SpF 24 NP MN Ud:=SpI Tryz.func68 (by kernel_rfl)
theorem Ay:au Tryz.prog NP = true:=by kernel_rfl
abbrev Nn:FuncId:=70
def QQ:AC:=
(ul [zw 2 5 0,
oR 4 0] [1,2]
(.seq (ul [oK 6 5 0 2,
oI 7 3 6,
oc 8 7,
zh 9 8,
oR 10 0] [1,2,9,10]
(.block 0
(.loop [1,2,9,10]
(ul [kN 11 10 9] [1,2,9,10,11]
(.seq (.cond (.t 11)
.skip
(.exit 0))
(.seq (.block 1
(ul [mV 12 10,
mV 5 12] [1,2,5,9,10]
(ul [oe 13 5 2,
mV 14 5,
mV 15 1,
qv 16 73 [true,false,true] [.t 13,.t 14,.t 15]] [1,2,5,9,10,16]
(.cond (.t 16)
(ul [mV 17 5,
mV 4 17] [4]
.ret)
.skip))))
(.reg [kw 18 10 1,
mV 10 18] [1,2,9,10])))))))
(ul [oR 4 (-1)] [4]
.ret)))
abbrev UJ:RsT:=[(4,none)]
theorem Uc:SpF 19 Nn QQ UJ:=SpI Tryz.func70 (by kernel_rfl)
theorem Kj:au Tryz.prog Nn = true:=by kernel_rfl
abbrev MO:FuncId:=71
def RG:AC:=
(ul [zw 4 5 0,
zw 6 1 2,
oR 8 0,
oR 9 0] [1,3,4,6,8]
(ul [oP 23 (.mkfunc (.func 124) [] [.t 6]),
mV 10 23] [1,3,4,8,10]
(ul [oP 11 (.alloc yH)] [1,3,4,8,10,11]
(ul [oP 12 (.mv (.c (.bool true)))] [1,3,4,8,10,11,12]
(.seq (ul [qv 24 125 [] [],
oR 25 0] [1,3,4,8,10,11,12,24,25]
(.block 0
(.loop [1,3,4,8,10,11,12,24,25]
(ul [kS 26 25 2] [1,3,4,8,10,11,12,24,25,26]
(.seq (.cond (.t 26)
.skip
(.exit 0))
(.seq (.block 1
(ul [mV 27 25,
oP 28 (.ixV 2 2 (some 2) (.t 24) (.t 25)),
oP 14 (.alloc [.nilfunc, .nilfunc]),
mV 13 27,
xx 2 14 28] [1,3,4,8,10,11,12,13,14,24,25]
(.frz 14 true (.seq (ul [oK 29 5 0 4,
oI 30 1 29,
oc 31 30,
zh 32 31,
oR 33 0] [1,3,4,8,10,11,12,13,14,24,25,32,33]
(.block 2
(.loop [1,3,4,8,10,11,12,13,14,24,25,32,33]
(ul [kN 34 33 32] [1,3,4,8,10,11,12,13,14,24,25,32,33,34]
(.seq (.cond (.t 34)
.skip
(.exit 2))
(.seq (.block 3
(ul [mV 35 33,
mV 15 35] [1,3,4,8,10,11,12,13,14,15,24,25,32,33]
(.seq (ul [mV 36 10,
mV 37 15,
oP 38 (.call (.t 36) qF [.t 37]),
kb 39 38] [1,3,4,8,10,11,12,13,14,15,24,25,32,33,39]
(.cond (.t 39)
(.exit 3)
.skip))
(ul [oK 41 5 0 4,
oI 42 2 41,
oc 43 42,
mV 44 1,
mV 45 15,
oP 46 (.build yH [(0,1,.t 44),(1,1,.t 45)]),
qv 47 126 qK [.t 43,.t 46],
mV 40 47,
xr 48 40 0,
xr 49 40 1,
oP 16 (.alloc yH),
xx 2 16 48,
mV 17 49] [1,3,4,8,10,11,12,13,14,15,16,24,25,32,33]
(.frz 16 true (ul [oK 51 5 0 4,
oI 52 4 51,
oc 53 52,
mV 54 1,
mV 55 15,
oP 56 (.build yH [(0,1,.t 54),(1,1,.t 55)]),
qv 57 126 qK [.t 53,.t 56],
mV 50 57,
xr 58 50 0,
xr 59 50 1,
oP 18 (.alloc yH),
xx 2 18 58,
mV 19 59] [1,3,4,8,10,11,12,13,14,16,18,19,24,25,32,33]
(.frz 18 true (.seq (.dreg [mV 60 13,
oP 61 (.ixA 2 1 none (.t 11) (.t 60)),
oc 62 61,
oI 63 0 14,
oc 64 63,
oe 65 2 16,
oP 66 (.call (.t 64) qF [.t 65]),
oI 67 1 14,
oc 68 67,
oe 69 2 18,
oP 70 (.call (.t 68) qF [.t 69]),
kD 71 66 70,
kj 72 62 71,
oP 73 (.ixA 2 1 none (.t 11) (.t 60)),
xx 1 73 72] [1,3,4,8,10,11,12,13,14,19,24,25,32,33] [[],[0],[0,1],[],[3],[],[3,4,5],[],[7],[],[3,4,5,6,7,8,9],[3,4,5,6,7,8,9,10],ut 12,ut 13,ut 14])
(.reg [mV 74 12,
mV 75 74,
wq 76 75 19,
oP 77 (.pick (.t 75) (.t 76) (.c (.bool false))),
mV 12 77] [1,3,4,8,10,11,12,13,14,24,25,32,33])))))))))
(.reg [kw 78 33 1,
mV 33 78] [1,3,4,8,10,11,12,13,14,24,25,32,33])))))))
(ul [oK 79 5 0 4,
oI 80 3 79,
oc 81 80,
zh 82 81,
oR 83 0] [1,3,4,8,10,11,12,13,14,24,25,81,82,83]
(.block 4
(.loop [1,3,4,8,10,11,12,13,14,24,25,81,82,83]
(ul [kN 84 83 82] [1,3,4,8,10,11,12,13,14,24,25,81,82,83,84]
(.seq (.cond (.t 84)
.skip
(.exit 4))
(.seq (.block 5
(ul [mV 85 83,
xT 86 5 81 83,
oe 87 5 86,
oP 21 (.alloc yu),
mV 20 85,
xx 5 21 87] [1,3,4,8,10,11,12,13,14,20,21,24,25,81,82,83]
(.frz 21 true (.seq (ul [oI 88 0 21,
oc 89 88,
mV 90 1,
wd 91 89 90,
mV 92 91,
gF 93 92 (.load (some 5) (.t 4)),
ve 94 92 20,
gF 95 92 (.call (.f 127) qK [.t 93,.t 94]),
gF 96 92 (.un .not (.t 95)),
oP 97 (.pick (.t 92) (.c (.bool true)) (.t 96))] [1,3,4,8,10,11,12,13,14,20,21,24,25,81,82,83,97]
(.cond (.t 97)
(.exit 5)
.skip))
(ul [oe 98 5 4,
mV 99 20,
mV 100 3,
qv 101 128 [true,false,true] [.t 98,.t 99,.t 100],
oP 22 (.alloc yH),
xx 2 22 101] [1,3,4,8,10,11,12,13,14,21,22,24,25,81,82,83]
(.frz 22 true (.block 6
(ul [mV 103 10,
oI 104 2 21,
oc 105 104,
oP 106 (.call (.t 103) qF [.t 105]),
mV 107 106,
wq 108 107 10,
ww 109 107 1 21,
wt 110 107 109,
gT 111 107 (.call (.t 108) qF [.t 110]),
gT 112 107 (.un .not (.t 111)),
oP 113 (.pick (.t 107) (.t 112) (.c (.bool false))),
mV 102 113] [1,3,4,8,10,11,12,13,14,21,22,24,25,81,82,83,102]
(.cond (.t 102)
(.dreg [mV 114 13,
oP 115 (.ixA 2 1 none (.t 11) (.t 114)),
oc 116 115,
oI 117 0 14,
oc 118 117,
oe 119 2 22,
oP 120 (.call (.t 118) qF [.t 119]),
kj 121 116 120,
oP 122 (.ixA 2 1 none (.t 11) (.t 114)),
xx 1 122 121] [1,3,4,8,10,11,12,13,14,24,25,81,82,83] [[],[0],[0,1],[],[3],[],[3,4,5],ut 7,ut 8,ut 9])
(ul [mV 124 10,
oI 125 1 21,
oc 126 125,
oP 127 (.call (.t 124) qF [.t 126]),
mV 128 127,
wq 129 128 10,
ww 130 128 2 21,
wt 131 128 130,
gT 132 128 (.call (.t 129) qF [.t 131]),
gT 133 128 (.un .not (.t 132)),
oP 134 (.pick (.t 128) (.t 133) (.c (.bool false))),
mV 123 134] [1,3,4,8,10,11,12,13,14,22,24,25,81,82,83,123]
(.cond (.t 123)
(.dreg [mV 135 13,
oP 136 (.ixA 2 1 none (.t 11) (.t 135)),
oc 137 136,
oI 138 1 14,
oc 139 138,
oe 140 2 22,
oP 141 (.call (.t 139) qF [.t 140]),
kD 142 137 141,
oP 143 (.ixA 2 1 none (.t 11) (.t 135)),
xx 1 143 142] [1,3,4,8,10,11,12,13,14,24,25,81,82,83] [[],[0],[0,1],[],[3],[],[3,4,5],ut 7,ut 8,ut 9])
.skip)))))))))))
(.reg [kw 144 83 1,
mV 83 144] [1,3,4,8,10,11,12,13,14,24,25,81,82,83])))))))))))
(.reg [kw 145 25 1,
mV 25 145] [1,3,4,8,10,11,12,24,25])))))))
(.seq (ul [mV 146 12] [8,11,146]
(.cond (.t 146)
(.reg [oP 147 (.ixA 2 1 none (.t 11) (cI 0)),
oc 148 147,
oP 149 (.mx [cI 0,.t 148]),
mV 8 149] [8,11])
.skip))
(.seq (.dreg [mV 150 8,
oP 151 (.ixA 2 1 none (.t 11) (cI 1)),
oc 152 151,
oP 153 (.mn [cI 0,.t 152]),
mV 8 150,
mV 9 153] [8,9] [[],[],[1],[1,2],[0],ut 5])
.ret)))))))
abbrev TW:RsT:=[(8,none),(9,none)]
theorem SI:SpF 154 MO RG TW:=SpI Tryz.func71 (by kernel_rfl)
theorem KI:au Tryz.prog MO = true:=by kernel_rfl
abbrev M5:FuncId:=73
def KN:AC:=
(ul [zw 3 5 0,
oP 6 (.mv (.c (.bool false)))] [1,2,3]
(ul [oK 8 5 0 3,
oI 9 3 8,
oc 10 9,
mV 11 1,
xT 12 5 10 11,
oI 13 4 12,
oc 14 13,
mV 7 14] [1,2,3,7]
(.seq (.dreg [mV 15 7,
mV 16 1,
oP 17 (.bin .gtr (.t 15) (.t 16)),
mV 18 17,
gT 19 18 (.fieldAddr (some 5) 0 (.t 3)),
ww 20 18 3 19,
wt 21 18 20,
wq 22 18 1,
wW 23 18 5 21 22,
ww 24 18 3 23,
wt 25 18 24,
gT 26 18 (.fieldAddr (some 5) 0 (.t 3)),
ww 27 18 3 26,
wt 28 18 27,
wq 29 18 7,
wW 30 18 5 28 29,
ww 31 18 3 30,
wt 32 18 31,
gT 33 18 (.bin .neq (.t 25) (.t 32)),
oP 34 (.pick (.t 18) (.t 33) (.c (.bool false))),
mV 35 34,
wq 36 35 2,
wq 37 35 1,
gT 38 35 (.call (.f 130) qK [.t 36,.t 37]),
gT 39 35 (.un .not (.t 38)),
oP 40 (.pick (.t 35) (.t 39) (.c (.bool false))),
mV 41 40,
wq 42 41 2,
wq 43 41 7,
gT 44 41 (.call (.f 130) qK [.t 42,.t 43]),
gT 45 41 (.un .not (.t 44)),
oP 46 (.pick (.t 41) (.t 45) (.c (.bool false))),
mV 6 46] [6] [[],[],[0,1],[0,1,2],ut 4,ut 5,ut 6,ut 4,ut 8,ut 9,ut 10,ut 4,[0,1,2,3,11],[0,1,2,3,11,12],ut 4,[0,1,2,3,11,12,13,14],[0,1,2,3,11,12,13,14,15],[0,1,2,3,11,12,13,14,15,16],ut 18,ut 19,ut 20,ut 21,ut 21,ut 23,ut 24,ut 25,ut 26,ut 27,ut 27,ut 29,ut 30,ut 31,ut 32])
.ret)))
abbrev T5:RsT:=[(6,none)]
theorem TZ:SpF 47 M5 KN T5:=SpI Tryz.func73 (by kernel_rfl)
theorem ML:au Tryz.prog M5 = true:=by kernel_rfl
abbrev ND:FuncId:=78
def OH:AC:=
(ul [⟨some 0,none, .mv (.c (.str ⟨#[]⟩))⟩] []
(ul [⟨some 0,none, .mv (.c (.str ⟨#[107,105,110,100,115,32,111,105,108,32,112,97,105,110,116,10,112,108,97,99,101,115,32,121,97,114,100,32,112,105,116,10,102,105,114,115,116,32,111,105,108,32,121,97,114,100,32,49,48,48,48,32,49,48,48,48,10,112,97,112,101,114,32,111,105,108,32,121,97,114,100,32,112,105,116,32,54,48,48,32,49,10,112,97,112,101,114,32,111,105,108,32,121,97,114,100,32,112,105,116,32,53,48,48,32,48,10,112,97,112,101,114,32,111,105,108,32,121,97,114,100,32,45,32,51,48,48,32,45,10,108,97,115,116,32,111,105,108,32,121,97,114,100,32,49,48,48,32,50,48,48,10]⟩))⟩] [0]
.ret))
abbrev TL:RsT:=[(0,none)]
theorem T7:SpF 1 ND OH TL:=SpI Tryz.func78 (by kernel_rfl)
theorem QL:au Tryz.prog ND = true:=by kernel_rfl
abbrev Nb:FuncId:=79
def Nd:AC:=
(ul [zw 1 5 0,
oP 2 (.alloc ud),
oR 3 0] [1,2]
(ul [oe 7 5 1,
oP 8 (.call (.f 67) qB [.t 7,(.c (.slice 1 []))]),
mV 6 8,
xr 9 6 0,
xr 10 6 1,
oP 4 (.alloc ud),
xx 5 4 9,
mV 5 10] [2,4,5]
(.frz 4 true (.seq (.seq (.qreg [mV 11 5,
wb 12 11 0,
mV 13 12,
gT 14 13 (.load (some 5) (.t 4)),
gT 15 13 (.load (some 5) (.t 4)),
gT 16 13 (.call (.f 83) qK [.t 15,cI (-1)]),
gT 17 13 (.call (.f 68) qB [.t 14,.t 16]),
gT 18 13 (.un .not (.t 17)),
oP 19 (.pick (.t 13) (.t 18) (.c (.bool false)))] [2,4,5,19] [[],[0],[0,1],[0,1,2],[0,1,2],[0,1,2,4],ut 6,ut 7,ut 8] [([0,1,2,3,4],5),([],6)] [7,8])
(.cond (.t 19)
(.reg [oR 5 9] [2,4,5])
.skip))
(ul [oP 20 (.loadd (some 5) (.t 4)),
mV 21 5,
xx 5 2 20,
mV 3 21] [2,3]
.ret)))))
abbrev UH:RsT:=[(2,some (some 5)),(3,none)]
theorem SB:SpF 22 Nb Nd UH:=SpI Tryz.func79 (by kernel_rfl)
theorem Gs:au Tryz.prog Nb = true:=by kernel_rfl
abbrev MP:FuncId:=80
def Rw:AC:=
(ul [zw 1 5 0,
oP 2 (.mv (.c .nilfunc))] [1]
(ul [oP 3 (.mkfunc (.func 133) [] [.t 1]),
mV 2 3] [2]
.ret))
abbrev Td:RsT:=[(2,none)]
theorem U6:SpF 4 MP Rw Td:=SpI Tryz.func80 (by kernel_rfl)
theorem RI:au Tryz.prog MP = true:=by kernel_rfl
abbrev My:FuncId:=83
def QR:AC:=
(ul [zw 2 5 0,
oP 4 (.nilS 1 1)] [1,2,4]
(.seq (ul [oK 6 5 0 2,
oI 7 3 6,
oc 8 7,
zh 9 8,
oR 10 0] [1,4,9,10]
(.block 0
(.loop [1,4,9,10]
(ul [kN 11 10 9] [1,4,9,10,11]
(.seq (.cond (.t 11)
.skip
(.exit 0))
(.seq (.block 1
(ul [mV 12 10,
mV 5 12] [1,4,5,9,10]
(ul [mV 13 5,
mV 14 1,
wd 15 13 14] [1,4,5,9,10,15]
(.cond (.t 15)
(.reg [mV 16 4,
mV 17 5,
oP 18 (.lit 0 1 1 [(0,.t 17)]),
oP 19 (.append 1 8 (.t 16) (.t 18)),
mV 4 19] [1,4,9,10])
.skip))))
(.reg [kw 20 10 1,
mV 10 20] [1,4,9,10])))))))
(ul [mV 21 4,
oP 4 (.mvd (.t 21))] [4]
.ret)))
abbrev Tp:RsT:=[(4,none)]
theorem S8:SpF 22 My QR Tp:=SpI Tryz.func83 (by kernel_rfl)
theorem Ob:au Tryz.prog My = true:=by kernel_rfl
abbrev N7:FuncId:=84
def Qs:AC:=
(ul [oP 2 (.mv (.c (.slice 1 [])))] [0]
(ul [oR 3 0] [0,3]
(.seq (ul [mV 9 0,
zh 10 9,
oR 11 0] [0,3,9,10,11]
(.block 0
(.loop [0,3,9,10,11]
(ul [kN 12 11 10] [0,3,9,10,11,12]
(.seq (.cond (.t 12)
.skip
(.exit 0))
(.seq (.block 1
(ul [xT 13 1 9 11,
oc 14 13,
mV 5 14] [0,3,5,9,10,11]
(ul [mV 15 3,
mV 16 5,
zh 17 16,
kj 18 15 17,
mV 3 18] [0,3,9,10,11]
(ul [mV 19 3,
kS 20 19 0] [0,3,9,10,11,20]
(.cond (.t 20)
(.reg [⟨some 21,none, .mkiface 9 (.c (.str ⟨#[108,101,110,32,111,117,116,32,111,102,32,114,97,110,103,101]⟩))⟩,
oN (.panic (.t 21))] [0,3,9,10,11])
.skip)))))
(.reg [kw 22 11 1,
mV 11 22] [0,3,9,10,11])))))))
(ul [mV 23 3,
qv 24 136 qO [(.c (.nils 1)),.t 23],
mV 6 24] [0,6]
(.seq (ul [mV 25 0,
zh 26 25,
oR 27 0] [6,25,26,27]
(.block 2
(.loop [6,25,26,27]
(ul [kN 28 27 26] [6,25,26,27,28]
(.seq (.cond (.t 28)
.skip
(.exit 2))
(.seq (.block 3
(ul [xT 29 1 25 27,
oc 30 29,
mV 8 30] [6,8,25,26,27]
(.reg [mV 31 6,
mV 32 8,
oP 33 (.append 1 8 (.t 31) (.t 32)),
mV 6 33] [6,25,26,27])))
(.reg [kw 34 27 1,
mV 27 34] [6,25,26,27])))))))
(ul [mV 35 6,
oP 2 (.mvd (.t 35))] [2]
.ret))))))
abbrev TO:RsT:=[(2,none)]
theorem UT:SpF 36 N7 Qs TO:=SpI Tryz.func84 (by kernel_rfl)
theorem Sm:au Tryz.prog N7 = true:=by kernel_rfl
abbrev M6:FuncId:=85
def RO:AC:=
(ul [zw 1 5 0,
oP 2 (.alloc [.mint 1])] [1,2]
(.scope
(.seq (.label 0)
(.seq (ul [oe 4 5 1,
qv 5 80 qD [.t 4]] [1,2,5]
(.block 0
(.jM (.t 5) [6] (.reg [mV 3 6] [1,2,3])
(.block 1
(.seq (ul [oc 7 2,
zh 8 7,
wn 9 8 0,
mV 10 9,
wq 11 10 3,
wP 12 10 11,
wt 13 10 2,
gT 14 10 (.ixS 1 (.t 13) (cI 0)),
wt 15 10 14,
wP 16 10 15,
gT 17 10 (.bin .gtr (.t 12) (.t 16)),
oP 18 (.pick (.t 10) (.t 17) (.c (.bool false)))] [1,2,3,18]
(.cond (.t 18)
(.exit 0)
.skip))
(ul [oe 19 5 1,
mV 20 3,
qv 21 68 qB [.t 19,.t 20]] [2,3,21]
(.cond (.t 21)
(.reg [oc 22 2,
mV 23 3,
oP 24 (.lit 0 1 1 [(0,.t 23)]),
oP 25 (.append 1 24 (.t 22) (.t 24)),
xx 1 2 25] [])
.skip)))))))
(ul [oP 26 (.loadd none (.t 2)),
xx 1 2 26] [2]
.ret)))))
abbrev Uq:RsT:=[(2,some none)]
theorem Te:SpF 27 M6 RO Uq:=SpI Tryz.func85 (by kernel_rfl)
theorem SE:au Tryz.prog M6 = true:=by kernel_rfl
abbrev P0:FuncId:=86
theorem S5:au Tryz.prog P0 = true:=by kernel_rfl
abbrev M7:FuncId:=87
def MS:AC:=
(ul [oP 2 (.mv (.c (.slice 1 [])))] [0]
(.seq (ul [mV 6 0,
zh 7 6,
kS 8 7 2] [0,8]
(.cond (.t 8)
(ul [mV 9 0,
oP 2 (.mvd (.t 9))] [2]
.ret)
.skip))
(.seq (ul [oR 3 1] [0,3]
(.block 0
(.loop [0,3]
(.seq (ul [mV 10 3,
mV 11 0,
zh 12 11,
kN 13 10 12] [0,3,13]
(.cond (.t 13)
.skip
(.exit 0)))
(.seq (.block 1
(.seq (.dreg [mV 16 0,
mV 17 3,
xT 18 1 16 17,
oc 19 18,
mV 20 0,
mV 21 3,
kL 22 21 1,
xT 23 1 20 22,
oc 24 23,
kV 25 19 24] [0,3,25] [[],[],[0,1],[0,1,2],[],[],[5],[4,5,6],[4,5,6,7],ut 9])
(.cond (.t 25)
(ul [mV 26 0,
mV 27 3,
oP 28 (.sub 0 1 (.t 26) (some (.t 27)) none none),
mV 4 28] [0,3,4]
(.seq (ul [oR 5 1] [0,3,4,5]
(.block 2
(.loop [0,3,4,5]
(.seq (ul [mV 29 5,
mV 30 4,
zh 31 30,
kN 32 29 31] [0,3,4,5,32]
(.cond (.t 32)
.skip
(.exit 2)))
(.seq (.block 3
(.seq (.dreg [mV 35 4,
mV 36 5,
xT 37 1 35 36,
oc 38 37,
mV 39 4,
mV 40 5,
kL 41 40 1,
xT 42 1 39 41,
oc 43 42,
wd 44 38 43] [0,3,4,5,44] [[],[],[0,1],[0,1,2],[],[],[5],[4,5,6],[4,5,6,7],ut 9])
(.cond (.t 44)
(ul [mV 45 0,
mV 46 3,
mV 47 4,
mV 48 5,
xT 49 1 47 48,
oc 50 49,
xT 51 1 45 46,
xx 1 51 50] [0,3,4,5]
(.reg [mV 52 3,
kw 53 52 1,
mV 3 53] [0,3,4,5]))
.skip)))
(.reg [mV 33 5,
kw 34 33 1,
mV 5 34] [0,3,4,5]))))))
(ul [mV 54 0,
mV 55 3,
oP 56 (.sub 0 1 (.t 54) (some (.t 55)) none none),
oN (.clear 1 (.int .i64 0) (.t 56))] [0,3]
(ul [mV 57 0,
mV 58 3,
oP 59 (.sub 0 1 (.t 57) none (some (.t 58)) none),
oP 2 (.mvd (.t 59))] [2]
.ret))))
.skip)))
(.reg [mV 14 3,
kw 15 14 1,
mV 3 15] [0,3]))))))
(ul [mV 60 0,
oP 2 (.mvd (.t 60))] [2]
.ret))))
abbrev Ty:RsT:=[(2,none)]
theorem Sf:SpF 61 M7 MS Ty:=SpI Tryz.func87 (by kernel_rfl)
theorem Sl:au Tryz.prog M7 = true:=by kernel_rfl
abbrev NQ:FuncId:=88
def Jl:AC:=
(ul [zw 3 5 0,
oP 6 (.mv (.c .nilptr)),
oR 7 0] [1,2,3]
(ul [oe 13 5 3,
mV 14 1,
qv 15 67 qB [.t 13,.t 14],
mV 12 15,
xr 16 12 0,
xr 17 12 1,
oP 8 (.alloc ud),
xx 5 8 16,
mV 9 17] [1,2,8,9]
(.frz 8 true (.seq (ul [mV 18 9,
wh 19 18 0] [1,2,8,9,19]
(.cond (.t 19)
(ul [mV 20 9,
oP 6 (.mv (.c .nilptr)),
mV 7 20] [6,7]
.ret)
.skip))
(ul [mV 21 2,
oe 22 5 8,
oP 23 (.call (.t 21) qD [.t 22]),
mV 10 23] [1,8,10]
(.seq (.block 0
(ul [mV 25 10,
kS 26 25 0,
mV 24 26] [1,8,10,24]
(.cond (.t 24)
(ul [oP 6 (.mv (.c .nilptr)),
oR 7 4] [6,7]
.ret)
(ul [oe 28 5 8,
mV 29 1,
qv 30 68 qB [.t 28,.t 29],
kb 31 30,
mV 27 31] [1,8,10,27]
(.cond (.t 27)
(ul [oP 6 (.mv (.c .nilptr)),
oR 7 9] [6,7]
.ret)
.skip)))))
(ul [oe 32 5 8,
mV 33 10,
mV 34 1,
qv 35 122 [true,false,true] [.t 32,.t 33,.t 34],
mV 11 35] [11]
(ul [mV 36 11,
qv 37 123 qF [.t 36]] [11]
(ul [mV 38 11,
mV 6 38,
oR 7 0] [6,7]
.ret)))))))))
abbrev SC:RsT:=[(6,none),(7,none)]
theorem S9:SpF 39 NQ Jl SC:=SpI Tryz.func88 (by kernel_rfl)
theorem Ru:au Tryz.prog NQ = true:=by kernel_rfl
abbrev J5:FuncId:=89
def M8:AC:=
(ul [zw 2 5 0,
oR 3 0] [1,2]
(.seq (ul [oK 4 5 0 2,
oI 5 3 4,
oc 6 5,
zh 7 6,
kL 8 7 1,
oc 9 1,
oP 10 (.lit 0 1 1 [(0,.t 9)]),
qv 11 53 [false,false,true] [cI 0,.t 8,.t 10]] [1,2,11]
(.cond (.t 11)
(ul [oR 3 (-1)] [3]
.ret)
.skip))
(ul [oK 12 5 0 2,
oI 13 3 12,
oc 14 13,
oc 15 1,
xT 16 5 14 15,
oI 17 0 16,
oc 18 17,
mV 3 18] [3]
.ret)))
abbrev Tg:RsT:=[(3,none)]
theorem UQ:SpF 19 J5 M8 Tg:=SpI Tryz.func89 (by kernel_rfl)
theorem SU:au Tryz.prog J5 = true:=by kernel_rfl
abbrev M4:FuncId:=90
def Pq:AC:=
(ul [zw 2 1 0,
zw 3 1 1,
oP 4 (.alloc yH)] [2,3,4]
(ul [oP 9 (.mkfunc (.func 139) [] [.t 2,.t 3]),
mV 5 9] [2,3,4,5]
(.seq (.dreg [oc 10 2,
ka 11 10,
oI 12 0 11,
oc 13 12,
oc 14 3,
xT 15 5 13 14,
oe 16 5 15,
oP 6 (.alloc yu),
xx 5 6 16] [2,3,4,5,6] [[],[0],[0,1],[0,1,2],[],ut 5,ut 6,[],ut 8])
(ul [mV 17 5,
oI 18 0 6,
oc 19 18,
oI 20 1 6,
oc 21 20,
oI 22 4 6,
oc 23 22,
oI 24 2 6,
oc 25 24,
kD 26 23 25,
oP 27 (.call (.t 17) [false,false,false] [.t 19,.t 21,.t 26]),
mV 7 27] [2,3,4,5,6,7]
(.seq (.dreg [oc 28 2,
ka 29 28,
oI 30 0 29,
oc 31 30,
oc 32 3,
xT 33 5 31 32,
oI 34 4 33,
oc 35 34,
mV 36 7,
kD 37 35 36,
xT 38 5 31 32,
oI 39 4 38,
xx 1 39 37] [2,3,4,5,6] [[],[0],[0,1],[0,1,2],[],ut 5,ut 6,ut 7,[],ut 9,ut 10,ut 11,ut 12])
(.seq (.dreg [oc 40 2,
ka 41 40,
oI 42 0 41,
oc 43 42,
oc 44 3,
xT 45 5 43 44,
oI 46 4 45,
oc 47 46,
oI 48 0 4,
xx 1 48 47] [2,3,4,5,6] [[],[0],[0,1],[0,1,2],[],ut 5,ut 6,ut 7,ut 8,ut 9])
(.seq (.dreg [oc 49 2,
ka 50 49,
oI 51 0 50,
oc 52 51,
oc 53 3,
xT 54 5 52 53,
oe 55 5 54,
xx 5 6 55] [2,3,4,5,6] [[],[0],[0,1],[0,1,2],[],ut 5,ut 6,ut 7])
(ul [mV 56 5,
oI 57 1 6,
oc 58 57,
oI 59 0 6,
oc 60 59,
oI 61 3 6,
oc 62 61,
oI 63 4 6,
oc 64 63,
kD 65 62 64,
oP 66 (.call (.t 56) [false,false,false] [.t 58,.t 60,.t 65]),
mV 8 66] [2,3,4,8]
(.seq (.dreg [oc 67 2,
ka 68 67,
oI 69 0 68,
oc 70 69,
oc 71 3,
xT 72 5 70 71,
oI 73 4 72,
oc 74 73,
mV 75 8,
kj 76 74 75,
xT 77 5 70 71,
oI 78 4 77,
xx 1 78 76] [2,3,4] [[],[0],[0,1],[0,1,2],[],ut 5,ut 6,ut 7,[],ut 9,ut 10,ut 11,ut 12])
(.seq (.dreg [oc 79 2,
ka 80 79,
oI 81 0 80,
oc 82 81,
oc 83 3,
xT 84 5 82 83,
oI 85 4 84,
oc 86 85,
oI 87 1 4,
xx 1 87 86] [4] [[],[0],[0,1],[0,1,2],[],ut 5,ut 6,ut 7,ut 8,ut 9])
(ul [oe 88 2 4,
xx 2 4 88] [4]
.ret)))))))))))
abbrev Uf:RsT:=[(4,some (some 2))]
theorem Th:SpF 89 M4 Pq Uf:=SpI Tryz.func90 (by kernel_rfl)
theorem Py:au Tryz.prog M4 = true:=by kernel_rfl
abbrev KA:FuncId:=94
def Mx:AC:=
(ul [zw 2 5 0,
oR 3 0] [1,2]
(.seq (ul [oK 4 5 0 2,
oI 5 0 4,
oc 6 5,
zh 7 6,
kL 8 7 1,
oc 9 1,
oP 10 (.lit 0 1 1 [(0,.t 9)]),
qv 11 53 [false,false,true] [cI 0,.t 8,.t 10]] [1,11]
(.cond (.t 11)
(ul [oR 3 (-1)] [3]
.ret)
.skip))
(ul [oc 12 1,
mV 3 12] [3]
.ret)))
abbrev UC:RsT:=[(3,none)]
theorem UE:SpF 13 KA Mx UC:=SpI Tryz.func94 (by kernel_rfl)
theorem TC:au Tryz.prog KA = true:=by kernel_rfl
abbrev NH:FuncId:=96
def Qn:AC:=
(ul [zw 1 5 0,
⟨some 2,none, .mv (.c (.str ⟨#[]⟩))⟩] [1]
(ul [oP 3 (.allocB)] [1,3]
(ul [oP 10 (.mkfunc (.func 143) [] [.t 3]),
oP 4 (.alloc [.nilfunc]),
xx 1 4 10] [1,3,4]
(.frz 4 false (ul [oP 11 (.mkfunc (.func 146) [] [.t 4,.t 1]),
mV 5 11] [1,3,4,5]
(ul [oP 12 (.mkfunc (.func 148) [] [.t 1]),
mV 6 12] [1,3,4,5,6]
(.seq (.qreg [oc 13 4,
⟨some 14,none, .lit 1 1 1 [(0,(.c (.str ⟨#[107,105,110,100,115]⟩)))]⟩,
oK 15 5 0 1,
oI 16 0 15,
oc 17 16,
oP 18 (.append 1 16 (.t 14) (.t 17)),
oP 19 (.call (.t 13) qD [.t 18])] [1,3,4,5,6] [[],[],[],[2],[2,3],[1,2,3,4],ut 6] [([0,2,3,4],1),([],5),([],6)] [])
(.seq (.qreg [oc 20 4,
⟨some 21,none, .lit 1 1 1 [(0,(.c (.str ⟨#[112,108,97,99,101,115]⟩)))]⟩,
oK 22 5 0 1,
oI 23 1 22,
oc 24 23,
oP 25 (.append 1 16 (.t 21) (.t 24)),
oP 26 (.call (.t 20) qD [.t 25])] [1,3,4,5,6] [[],[],[],[2],[2,3],[1,2,3,4],ut 6] [([0,2,3,4],1),([],5),([],6)] [])
(ul [mV 27 5,
oK 28 5 0 1,
oI 29 2 28,
oc 30 29,
⟨some 31,none, .call (.t 27) [false,true] [(.c (.str ⟨#[102,105,114,115,116]⟩)),.t 30]⟩] [1,3,4,5,6]
(.seq (ul [oK 32 5 0 1,
oI 33 3 32,
oc 34 33,
zh 35 34,
oR 36 0] [1,3,4,5,6,34,35,36]
(.block 0
(.loop [1,3,4,5,6,34,35,36]
(ul [kN 37 36 35] [1,3,4,5,6,34,35,36,37]
(.seq (.cond (.t 37)
.skip
(.exit 0))
(.seq (.block 1
(ul [xT 38 5 34 36,
oe 39 5 38,
oP 8 (.alloc yu),
xx 5 8 39] [1,3,4,5,6,8,34,35,36]
(.frz 8 true (ul [⟨some 9,none, .mv (.c (.str ⟨#[45]⟩))⟩] [1,3,4,5,6,8,9,34,35,36]
(.seq (ul [oI 40 4 8,
oc 41 40,
wl 42 41 0] [1,3,4,5,6,8,9,34,35,36,42]
(.cond (.t 42)
(.reg [oI 43 4 8,
oc 44 43,
qv 45 147 qF [.t 44],
mV 9 45] [1,3,4,5,6,8,9,34,35,36])
.skip))
(.creg [oc 46 4,
oK 47 5 0 1,
oI 48 0 47,
oc 49 48,
oI 50 0 8,
oc 51 50,
xT 52 1 49 51,
oc 53 52,
mV 54 6,
oI 55 1 8,
oc 56 55,
oP 57 (.call (.t 54) qF [.t 56]),
mV 58 6,
oI 59 2 8,
oc 60 59,
oP 61 (.call (.t 58) qF [.t 60]),
oI 62 3 8,
oc 63 62,
qv 64 147 qF [.t 63],
mV 65 9,
⟨some 66,none, .lit 0 1 6 [(0,(.c (.str ⟨#[112,97,112,101,114]⟩))),(1,.t 53),(2,.t 57),(3,.t 61),(4,.t 64),(5,.t 65)]⟩,
oP 67 (.call (.t 46) qD [.t 66])] [1,3,4,5,6,34,35,36] [[],[],[1],[1,2],[],[4],[1,2,3,4,5],[1,2,3,4,5,6],[],[],[9],[8,9,10],[],[],[13],[8,9,10,11,12,13,14],[],[16],[8,9,10,11,12,13,14,15,16,17],[],[1,2,3,4,5,6,7,8,9,10,11,12,13,14,15,16,17,18,19],ut 21] [([0,1,2,3,4,5,6,7,8,9,10,11,12,13,14,15,16,17,18,19],20),([],21)] []))))))
(.reg [kw 68 36 1,
mV 36 68] [1,3,4,5,6,34,35,36])))))))
(ul [mV 69 5,
oK 70 5 0 1,
oI 71 4 70,
oc 72 71,
⟨some 73,none, .call (.t 69) [false,true] [(.c (.str ⟨#[108,97,115,116]⟩)),.t 72]⟩] [3]
(ul [qv 74 149 qD [.t 3],
mV 2 74] [2]
.ret))))))))))))
abbrev Ta:RsT:=[(2,none)]
theorem TA:SpF 75 NH Qn Ta:=SpI Tryz.func96 (by kernel_rfl)
theorem Oe:au Tryz.prog NH = true:=by kernel_rfl
abbrev MJ:FuncId:=97
def P1:AC:=
(ul [zw 1 5 0,
⟨some 2,none, .mv (.c (.str ⟨#[]⟩))⟩] [1]
(.seq (.dreg [oI 7 0 1,
oc 8 7,
⟨some 9,none, .call (.f 150) [false,true] [(.c (.str ⟨#[107,105,110,100,115]⟩)),.t 8]⟩,
oI 10 1 1,
oc 11 10,
⟨some 12,none, .call (.f 150) [false,true] [(.c (.str ⟨#[112,108,97,99,101,115]⟩)),.t 11]⟩,
kj 13 9 12,
oe 14 5 1,
oI 15 2 1,
oc 16 15,
⟨some 17,none, .call (.f 151) [true,false,true] [.t 14,(.c (.str ⟨#[102,105,114,115,116]⟩)),.t 16]⟩,
kj 18 13 17,
mV 3 18] [1,3] [[],[0],[0,1],[],[3],ut 5,ut 6,[],[],[8],[0,1,2,3,4,5,7,8,9],ut 11,ut 12])
(.seq (ul [oR 4 0] [1,3,4]
(.block 0
(.loop [1,3,4]
(.seq (ul [mV 19 4,
oI 20 3 1,
oc 21 20,
zh 22 21,
kN 23 19 22] [1,3,4,23]
(.cond (.t 23)
.skip
(.exit 0)))
(.seq (.block 1
(ul [oI 26 3 1,
oc 27 26,
mV 28 4,
xT 29 5 27 28,
oe 30 5 29,
oP 5 (.alloc yu),
xx 5 5 30] [1,3,4,5]
(.frz 5 true (ul [⟨some 6,none, .mv (.c (.str ⟨#[45]⟩))⟩] [1,3,4,5,6]
(.seq (ul [oI 31 4 5,
oc 32 31,
wl 33 32 0] [1,3,4,5,6,33]
(.cond (.t 33)
(.reg [oI 34 4 5,
oc 35 34,
qv 36 152 qF [.t 35],
mV 6 36] [1,3,4,5,6])
.skip))
(.dreg [mV 37 3,
⟨some 38,none, .bin .add (.t 37) (.c (.str ⟨#[112,97,112,101,114,32]⟩))⟩,
oI 39 0 1,
oc 40 39,
oI 41 0 5,
oc 42 41,
xT 43 1 40 42,
oc 44 43,
kj 45 38 44,
⟨some 46,none, .bin .add (.t 45) (.c (.str ⟨#[32]⟩))⟩,
oe 47 5 1,
oI 48 1 5,
oc 49 48,
qv 50 153 qK [.t 47,.t 49],
kj 51 46 50,
⟨some 52,none, .bin .add (.t 51) (.c (.str ⟨#[32]⟩))⟩,
oe 53 5 1,
oI 54 2 5,
oc 55 54,
qv 56 153 qK [.t 53,.t 55],
kj 57 52 56,
⟨some 58,none, .bin .add (.t 57) (.c (.str ⟨#[32]⟩))⟩,
oI 59 3 5,
oc 60 59,
qv 61 152 qF [.t 60],
kj 62 58 61,
⟨some 63,none, .bin .add (.t 62) (.c (.str ⟨#[32]⟩))⟩,
mV 64 6,
kj 65 63 64,
⟨some 66,none, .bin .add (.t 65) (.c (.str ⟨#[10]⟩))⟩,
mV 3 66] [1,3,4] [[],[0],[],[2],[],[4],[2,3,4,5],[2,3,4,5,6],ut 8,ut 9,[],[],[11],[10,11,12],ut 14,ut 15,[],[],[17],[10,11,12,13,16,17,18],ut 20,ut 21,[],[22],[10,11,12,13,16,17,18,19,22,23],ut 25,ut 26,[],ut 28,ut 29,ut 30]))))))
(.reg [mV 24 4,
kw 25 24 1,
mV 4 25] [1,3,4]))))))
(ul [mV 67 3,
oe 68 5 1,
oI 69 4 1,
oc 70 69,
⟨some 71,none, .call (.f 151) [true,false,true] [.t 68,(.c (.str ⟨#[108,97,115,116]⟩)),.t 70]⟩,
kj 72 67 71,
mV 2 72] [2]
.ret))))
abbrev Ui:RsT:=[(2,none)]
theorem Tn:SpF 73 MJ P1 Ui:=SpI Tryz.func97 (by kernel_rfl)
theorem Np:au Tryz.prog MJ = true:=by kernel_rfl
abbrev zZ:FuncId:=98
def JT:AC:=
(ul [mV 4 2,
oP 5 (.isnil true (.t 4))] [0,1,2,5]
(.cond (.t 5)
(.dreg [oP 6 (.build ud []),
mV 7 2,
oP 8 (.assert 30 (.t 7)),
xx 5 0 6,
xx 1 1 8] [] [[],[],[1],[0],ut 4])
.skip))
theorem vb:Jj Tryz.prog Tryz.f98 9 3 2 JT = true:=by kernel_rfl
theorem Pe {args:List ag} {σ:af} {m:PM} {Q:PM → af → Prop} (ha:args.length ≤ 9) (h:AW Tryz.prog 9 none JT (Eb (Q m.after)) { v:=(2,m.val) :: (3, .undef) :: fE args 0,ds:=[] } σ):nx Tryz.prog zZ args σ m Q:=nx.wS Tryz.func98 vb ha h
theorem Oh:au Tryz.prog zZ = true:=by kernel_rfl
abbrev OF:FuncId:=99
theorem Nc:au Tryz.prog OF = true:=by kernel_rfl
abbrev Fe:FuncId:=100
def Jh:AC:=
(ul [mV 2 0,
kb 3 2] [3]
(.cond (.t 3)
(.reg [oP 4 (.mkiface 30 (cI 6)),
oN (.panic (.t 4))] [])
.skip))
abbrev R8:RsT:=[]
theorem Mc:SpF 5 Fe Jh R8:=SpI Tryz.func100 (by kernel_rfl)
theorem dT:au Tryz.prog Fe = true:=by kernel_rfl
abbrev lY:FuncId:=101
def kK:AC:=
(ul [zw 2 1 0,
zw 3 1 1] [2,3]
(ul [oP 5 (.mkfunc (.func 155) [] [.t 3,.t 2]),
mV 4 5] [2,3,4]
(ul [oc 6 3,
oP 7 (.ixS 1 (.t 6) (cI 0)),
oc 8 7] [2,3,4,8]
(.block 0
(ul [⟨some 11,none, .bin .eql (.t 8) (.c (.str ⟨#[107,105,110,100,115]⟩))⟩,
mV 10 11] [2,3,4,8,10]
(.cond (.t 10)
(.dreg [oc 12 2,
oc 13 3,
oP 14 (.subq 1 (.t 13) (some (cI 1)) none),
ka 15 12,
oK 16 5 0 15,
oI 17 0 16,
xx 1 17 14] [] [[],[],[1],[0,1,2],ut 4,ut 5,ut 6])
(ul [⟨some 19,none, .bin .eql (.t 8) (.c (.str ⟨#[112,108,97,99,101,115]⟩))⟩,
mV 18 19] [2,3,4,8,18]
(.cond (.t 18)
(.dreg [oc 20 2,
oc 21 3,
oP 22 (.subq 1 (.t 21) (some (cI 1)) none),
ka 23 20,
oK 24 5 0 23,
oI 25 1 24,
xx 1 25 22] [] [[],[],[1],[0,1,2],ut 4,ut 5,ut 6])
(ul [⟨some 27,none, .bin .eql (.t 8) (.c (.str ⟨#[102,105,114,115,116]⟩))⟩,
mV 26 27] [2,3,4,8,26]
(.cond (.t 26)
(.creg [oc 28 2,
oc 29 2,
ka 30 29,
oK 31 5 0 30,
oI 32 2 31,
oc 33 32,
mV 34 4,
oP 35 (.call (.t 34) [] []),
oP 36 (.lit 0 4 1 [(0,.t 35)]),
oP 37 (.append 4 32 (.t 33) (.t 36)),
ka 38 28,
oK 39 5 0 38,
oI 40 2 39,
xx 1 40 37] [] [[],[],[1],[1,2],[1,2,3],[1,2,3,4],[],[6],[6,7],[1,2,3,4,5,6,7,8],ut 10,ut 11,ut 12,ut 13] [([0,1,2,3,4,5,6],7),([],8),([],9),([10,11,12],13)] [])
(ul [⟨some 42,none, .bin .eql (.t 8) (.c (.str ⟨#[112,97,112,101,114]⟩))⟩,
mV 41 42] [2,3,4,8,41]
(.cond (.t 41)
(ul [oc 43 3,
zh 44 43,
wb 45 44 6,
qv 46 100 qF [.t 45]] [2,3]
(.creg [oc 47 2,
oc 48 2,
ka 49 48,
oK 50 5 0 49,
oI 51 3 50,
oc 52 51,
oc 53 2,
ka 54 53,
oK 55 5 0 54,
oI 56 0 55,
oc 57 56,
oc 58 3,
oP 59 (.ixS 1 (.t 58) (cI 1)),
oc 60 59,
qv 61 156 [true,false,false] [.t 57,.t 60,(.c (.bool false))],
oc 62 2,
ka 63 62,
oK 64 5 0 63,
oI 65 1 64,
oc 66 65,
oc 67 3,
oP 68 (.ixS 1 (.t 67) (cI 2)),
oc 69 68,
qv 70 156 [true,false,false] [.t 66,.t 69,(.c (.bool true))],
oc 71 2,
ka 72 71,
oK 73 5 0 72,
oI 74 1 73,
oc 75 74,
oc 76 3,
oP 77 (.ixS 1 (.t 76) (cI 3)),
oc 78 77,
qv 79 156 [true,false,false] [.t 75,.t 78,(.c (.bool true))],
oc 80 3,
oP 81 (.ixS 1 (.t 80) (cI 4)),
oc 82 81,
qv 83 157 qO [.t 82,(.c (.bool false))],
oc 84 3,
oP 85 (.ixS 1 (.t 84) (cI 5)),
oc 86 85,
qv 87 157 qO [.t 86,(.c (.bool true))],
oP 88 (.build yu [(0,1,.t 61),(1,1,.t 70),(2,1,.t 79),(3,1,.t 83),(4,1,.t 87)]),
oP 89 (.lit 0 5 1 [(0,.t 88)]),
oP 90 (.append 5 40 (.t 52) (.t 89)),
ka 91 47,
oK 92 5 0 91,
oI 93 3 92,
xx 1 93 90] [] [[],[],[1],[1,2],[1,2,3],[1,2,3,4],[],[6],[6,7],[6,7,8],[6,7,8,9],[],[11],[11,12],[6,7,8,9,10,11,12,13],[],[15],[15,16],[15,16,17],[15,16,17,18],[],[20],[20,21],[6,7,8,9,10,11,12,13,14,15,16,17,18,19,20,21,22],[],[24],[24,25],[24,25,26],[24,25,26,27],[],[29],[29,30],[6,7,8,9,10,11,12,13,14,15,16,17,18,19,20,21,22,23,24,25,26,27,28,29,30,31],[],[33],[33,34],[6,7,8,9,10,11,12,13,14,15,16,17,18,19,20,21,22,23,24,25,26,27,28,29,30,31,32,33,34,35],[],[37],[37,38],[6,7,8,9,10,11,12,13,14,15,16,17,18,19,20,21,22,23,24,25,26,27,28,29,30,31,32,33,34,35,36,37,38,39],[6,7,8,9,10,11,12,13,14,15,16,17,18,19,20,21,22,23,24,25,26,27,28,29,30,31,32,33,34,35,36,37,38,39,40],[6,7,8,9,10,11,12,13,14,15,16,17,18,19,20,21,22,23,24,25,26,27,28,29,30,31,32,33,34,35,36,37,38,39,40,41],[1,2,3,4,5,6,7,8,9,10,11,12,13,14,15,16,17,18,19,20,21,22,23,24,25,26,27,28,29,30,31,32,33,34,35,36,37,38,39,40,41,42],ut 44,ut 45,ut 46,ut 47] [([0,1,2,3,4,5,6,7,8,9,10,11,12,13,15,16,17,18,19,20,21,22,24,25,26,27,28,29,30,31,33,34,35,37,38,39],14),([],23),([],32),([],36),([],40),([41],42),([],43),([44,45,46],47)] []))
(ul [⟨some 95,none, .bin .eql (.t 8) (.c (.str ⟨#[108,97,115,116]⟩))⟩,
mV 94 95] [2,4,94]
(.cond (.t 94)
(.creg [oc 96 2,
oc 97 2,
ka 98 97,
oK 99 5 0 98,
oI 100 4 99,
oc 101 100,
mV 102 4,
oP 103 (.call (.t 102) [] []),
oP 104 (.lit 0 4 1 [(0,.t 103)]),
oP 105 (.append 4 32 (.t 101) (.t 104)),
ka 106 96,
oK 107 5 0 106,
oI 108 4 107,
xx 1 108 105] [] [[],[],[1],[1,2],[1,2,3],[1,2,3,4],[],[6],[6,7],[1,2,3,4,5,6,7,8],ut 10,ut 11,ut 12,ut 13] [([0,1,2,3,4,5,6],7),([],8),([],9),([10,11,12],13)] [])
(.reg [qv 9 100 qF [(.c (.bool false))]] [])))))))))))))))
abbrev RW:RsT:=[]
theorem qg:SpF 109 lY kK RW:=SpI Tryz.func101 (by kernel_rfl)
theorem LG:au Tryz.prog lY = true:=by kernel_rfl
abbrev Lo:FuncId:=102
theorem Mp:au Tryz.prog Lo = true:=by kernel_rfl
abbrev Ih:FuncId:=103
def Lh:AC:=
(ul [oP 4 (.mv (.c (.slice 1 [])))] [0,1]
(ul [oP 5 (.nilS 1 1)] [0,1,5]
(ul [⟨some 6,none, .mv (.c (.str ⟨#[]⟩))⟩] [0,1,5,6]
(.seq (ul [oR 7 0] [0,1,5,6,7]
(.block 0
(.loop [0,1,5,6,7]
(.seq (ul [mV 8 7,
mV 9 0,
oP 10 (.lenStr (.t 9)),
kN 11 8 10] [0,1,5,6,7,11]
(.cond (.t 11)
.skip
(.exit 0)))
(.seq (.block 1
(ul [mV 14 0,
mV 15 7,
oP 16 (.ixStr (.t 14) (.t 15)),
mV 17 1,
kV 18 16 17] [0,1,5,6,7,18]
(.cond (.t 18)
(ul [mV 19 5,
mV 20 6,
oP 21 (.lit 0 1 1 [(0,.t 20)]),
oP 22 (.append 1 16 (.t 19) (.t 21)),
mV 5 22] [0,1,5,7]
(.reg [⟨some 6,none, .mv (.c (.str ⟨#[]⟩))⟩] [0,1,5,6,7]))
(.reg [mV 23 6,
mV 24 0,
mV 25 7,
mV 26 7,
kw 27 26 1,
oP 28 (.subStr (.t 24) (some (.t 25)) (some (.t 27))),
kj 29 23 28,
mV 6 29] [0,1,5,6,7]))))
(.reg [mV 12 7,
kw 13 12 1,
mV 7 13] [0,1,5,6,7]))))))
(ul [mV 30 5,
mV 31 6,
oP 32 (.lit 0 1 1 [(0,.t 31)]),
oP 33 (.append 1 16 (.t 30) (.t 32)),
oP 4 (.mvd (.t 33))] [4]
.ret)))))
abbrev QE:RsT:=[(4,none)]
theorem Rn:SpF 34 Ih Lh QE:=SpI Tryz.func103 (by kernel_rfl)
theorem qx:au Tryz.prog Ih = true:=by kernel_rfl
end Go.AM
