/- MADE BY PROGRAM (gen.py): the abstract code of functions of this seat, each checked against the given code by the kernel. -/
import Derived.Test.YtlmhkldmpggadaaGreatDoorChecked
import Derived.Test.YtlmhkldmpggadaaGreatDoorP15
import Derived.Test.YtlmhkldmpggadaaGreatDoorP16
namespace Go.AM
open Go.Proofs
@[simp] abbrev mV (d s:Nat):aK:=⟨some d,none, .mv (.t s)⟩
@[simp] abbrev oP (d:Nat) (i:AI):aK:=⟨some d,none,i⟩
@[simp] abbrev oN (i:AI):aK:=⟨none,none,i⟩
@[simp] abbrev gT (d g:Nat) (i:AI):aK:=⟨some d,some (g,true),i⟩
@[simp] abbrev gF (d g:Nat) (i:AI):aK:=⟨some d,some (g,false),i⟩
abbrev RsT:=List (Nat × Option (Option Nat))
abbrev SpF (n:Nat) (F:FuncId) (C:AC) (Rs:RsT):Prop:=∀ {args:List ag} {σ:af} {R:eE → af → Prop},args.length ≤ n → AW Tryz.prog n none C (zk Rs R) { v:=eK args 0,ds:=[] } σ → Spec Tryz.prog F args σ R
theorem SpI {n:Nat} {F:FuncId} {fn:Func} {C:AC} {Rs:RsT} (hf:Tryz.prog.funcs[F]? = some fn) (hk:DW Tryz.prog fn n C Rs = true):SpF n F C Rs:=fun ha h=>Spec.Fx hf hk ha h
@[simp] abbrev cI (n:Int):aP:=.c (.int .i64 n)
@[simp] abbrev ol (d a:Nat):aK:=⟨some d,none,.load none (.t a)⟩
@[simp] abbrev kw (d k a:Nat):aK:=⟨some d,none,.load (some k) (.t a)⟩
@[simp] abbrev wd (d k a:Nat):aK:=⟨some d,none,.fieldAddr none k (.t a)⟩
@[simp] abbrev wn (d s k a:Nat):aK:=⟨some d,none,.fieldAddr (some s) k (.t a)⟩
@[simp] abbrev wt (d:Nat) (n:Int):aK:=⟨some d,none,.mv (cI n)⟩
@[simp] abbrev ww (d a k:Nat):aK:=⟨some d,none,.extract (.t a) k⟩
@[simp] abbrev qr (k a b:Nat):aK:=⟨none,none,.store k (.t a) (.t b)⟩
@[simp] abbrev ul (d k a b:Nat):aK:=⟨some d,none,.ixS k (.t a) (.t b)⟩
@[simp] abbrev ut (d a:Nat):aK:=⟨some d,none,.len (.t a)⟩
@[simp] abbrev jp (d k a:Nat):aK:=⟨some d,none,.pbox k (.t a)⟩
@[simp] abbrev pi (d a:Nat):aK:=⟨some d,none,.nilchk (.t a)⟩
@[simp] abbrev pl (d a:Nat):aK:=⟨some d,none,.un .not (.t a)⟩
@[simp] abbrev pm (d a b:Nat):aK:=⟨some d,none,.bin .add (.t a) (.t b)⟩
@[simp] abbrev pu (d a:Nat) (n:Int):aK:=⟨some d,none,.bin .add (.t a) (cI n)⟩
@[simp] abbrev nl (d a b:Nat):aK:=⟨some d,none,.bin .sub (.t a) (.t b)⟩
@[simp] abbrev ap (d a:Nat) (n:Int):aK:=⟨some d,none,.bin .sub (.t a) (cI n)⟩
@[simp] abbrev bi (d a b:Nat):aK:=⟨some d,none,.bin .lss (.t a) (.t b)⟩
@[simp] abbrev bv (d a:Nat) (n:Int):aK:=⟨some d,none,.bin .lss (.t a) (cI n)⟩
@[simp] abbrev ce (d a b:Nat):aK:=⟨some d,none,.bin .eql (.t a) (.t b)⟩
@[simp] abbrev ci (d a:Nat) (n:Int):aK:=⟨some d,none,.bin .eql (.t a) (cI n)⟩
@[simp] abbrev co (d a b:Nat):aK:=⟨some d,none,.bin .neq (.t a) (.t b)⟩
@[simp] abbrev dg (d a:Nat) (n:Int):aK:=⟨some d,none,.bin .neq (.t a) (cI n)⟩
@[simp] abbrev eq (d a:Nat) (n:Int):aK:=⟨some d,none,.bin .geq (.t a) (cI n)⟩
@[simp] abbrev gc (d a:Nat) (n:Int):aK:=⟨some d,none,.bin .gtr (.t a) (cI n)⟩
@[simp] abbrev ge (d g a:Nat):aK:=⟨some d,some (g,true),.mv (.t a)⟩
@[simp] abbrev gt (d g a:Nat):aK:=⟨some d,some (g,true),.load none (.t a)⟩
@[simp] abbrev ii (d g k a:Nat):aK:=⟨some d,some (g,true),.fieldAddr none k (.t a)⟩
@[simp] abbrev io (d g a:Nat) (n:Int):aK:=⟨some d,some (g,true),.bin .eql (.t a) (cI n)⟩
@[simp] abbrev ip (d g k a b:Nat):aK:=⟨some d,some (g,true),.ixS k (.t a) (.t b)⟩
@[simp] abbrev lc (d g a:Nat):aK:=⟨some d,some (g,false),.mv (.t a)⟩
@[simp] abbrev lm (d g a:Nat):aK:=⟨some d,some (g,false),.load none (.t a)⟩
@[simp] abbrev lw (d g k a:Nat):aK:=⟨some d,some (g,false),.fieldAddr none k (.t a)⟩
@[simp] abbrev md (d g a:Nat):aK:=⟨some d,some (g,false),.len (.t a)⟩
@[simp] abbrev mp (d g k a b:Nat):aK:=⟨some d,some (g,false),.ixS k (.t a) (.t b)⟩
@[simp] abbrev mt (d f:Nat) (l:List Bool) (a:List aP):aK:=⟨some d,none,.call (.f f) l a⟩
@[simp] abbrev rc :List Bool:=[true,true]
@[simp] abbrev rg :List Bool:=[true]
@[simp] abbrev rt :List Bool:=[false]
@[simp] abbrev sm :List Bool:=[true,false]
@[simp] abbrev At :List Bool:=[false,false]
@[simp] abbrev Do :List Bool:=[true,true,false]
@[simp] abbrev Eq :List ag:=[.int .i64 0,.int .i64 0,.int .i64 0,.int .i64 0,.int .i64 0]
@[simp] abbrev EQ :List ag:=[.int .i64 0,.int .i64 0,.int .i64 0,.int .i64 0]
@[simp] abbrev Fd :List ag:=[.int .i64 0,.int .i64 0]
@[simp] abbrev FS :List ag:=[.slice 1 [],.slice 1 [],.slice 4 [],.slice 5 [],.slice 4 []]
@[simp] abbrev GE (o:List aK) (l:List Nat) (c:AC):AC:=.seq (.reg o l) c
abbrev GT (n:Nat):List Nat:=List.range n
abbrev F_3:FuncId:=3
def C_3:AC:=
(GE [jp 3 5 0,
jp 5 4 2,
oP 6 (.mv (.c (.bool false)))] [1,3,5]
(GE [kw 18 5 3,
mt 19 16 rg [.t 18],
mV 17 19,
ww 20 17 0,
ww 21 17 1,
ww 22 17 2,
mV 7 20,
mV 8 21,
mV 9 22] [1,3,5,7,8,9]
(GE [kw 24 5 3,
mt 25 17 rg [.t 24],
mV 23 25,
ww 26 23 0,
ww 27 23 1,
ww 28 23 2,
mV 10 26,
mV 11 27,
mV 12 28] [1,3,5,7,8,9,10,11,12]
(.seq (GE [mV 29 7,
mV 30 10,
co 31 29 30,
mV 32 31,
lc 33 32 8,
lc 34 32 11,
gF 35 32 (.bin .neq (.t 33) (.t 34)),
oP 36 (.pick (.t 32) (.c (.bool true)) (.t 35)),
mV 37 36,
lc 38 37 9,
lc 39 37 12,
gF 40 37 (.bin .neq (.t 38) (.t 39)),
oP 41 (.pick (.t 37) (.c (.bool true)) (.t 40))] [1,3,5,41]
(.cond (.t 41)
(GE [oP 6 (.mv (.c (.bool false)))] [6]
.ret)
.skip))
(GE [kw 43 5 3,
mV 44 1,
mt 45 18 rc [.t 43,.t 44],
mV 42 45,
ww 46 42 0,
ww 47 42 1,
mV 13 46,
mV 9 47] [1,3,5,9,13]
(GE [kw 49 5 3,
mV 50 1,
mt 51 19 rc [.t 49,.t 50],
mV 48 51,
ww 52 48 0,
ww 53 48 1,
mV 14 52,
mV 12 53] [1,3,5,9,12,13,14]
(.seq (GE [mV 54 13,
mV 55 14,
oP 56 (.eqb true (.t 54) (.t 55)),
mV 57 56,
lc 58 57 9,
lc 59 57 12,
gF 60 57 (.bin .neq (.t 58) (.t 59)),
oP 61 (.pick (.t 57) (.c (.bool true)) (.t 60))] [1,3,5,61]
(.cond (.t 61)
(GE [oP 6 (.mv (.c (.bool false)))] [6]
.ret)
.skip))
(GE [kw 63 5 3,
mV 64 1,
mt 65 20 rc [.t 63,.t 64],
mV 62 65,
ww 66 62 0,
ww 67 62 1,
oP 15 (.alloc EQ),
qr 4 15 66,
mV 9 67] [1,3,5,9,15]
(.frz 15 true (GE [kw 69 5 3,
mV 70 1,
mt 71 21 rc [.t 69,.t 70],
mV 68 71,
ww 72 68 0,
ww 73 68 1,
oP 16 (.alloc EQ),
qr 4 16 72,
mV 12 73] [1,3,5,9,12,15,16]
(.frz 16 true (.seq (GE [kw 74 4 15,
kw 75 4 16,
oP 76 (.eqa true [.i, .i, .i, .i] (.t 74) (.t 75)),
mV 77 76,
lc 78 77 9,
lc 79 77 12,
gF 80 77 (.bin .neq (.t 78) (.t 79)),
oP 81 (.pick (.t 77) (.c (.bool true)) (.t 80))] [1,3,5,81]
(.cond (.t 81)
(GE [oP 6 (.mv (.c (.bool false)))] [6]
.ret)
.skip))
(GE [kw 83 5 3,
mV 84 1,
kw 85 4 5,
mt 86 22 Do [.t 83,.t 84,.t 85],
mV 82 86,
ww 87 82 0,
ww 88 82 1,
mV 13 87,
mV 9 88] [1,3,5,9,13]
(GE [kw 90 5 3,
mV 91 1,
kw 92 4 5,
mt 93 23 Do [.t 90,.t 91,.t 92],
mV 89 93,
ww 94 89 0,
ww 95 89 1,
mV 14 94,
mV 12 95] [9,12,13,14]
(GE [mV 96 13,
mV 97 14,
oP 98 (.eqb false (.t 96) (.t 97)),
mV 99 98,
ge 100 99 9,
ge 101 99 12,
gT 102 99 (.bin .eql (.t 100) (.t 101)),
oP 103 (.pick (.t 99) (.t 102) (.c (.bool false))),
mV 104 103,
gT 105 104 (.call (.f 24) [] []),
oP 106 (.pick (.t 104) (.t 105) (.c (.bool false))),
mV 6 106] [6]
.ret)))))))))))))))
abbrev R_3:RsT:=[(6,none)]
theorem S_3:SpF 107 F_3 C_3 R_3:=SpI Tryz.func3 (by kernel_rfl)
abbrev F_4:FuncId:=4
def C_4:AC:=
(GE [jp 1 5 0,
oP 2 (.mv (.c (.bool false)))] [1]
(GE [kw 8 5 1,
mt 9 25 rg [.t 8],
mV 7 9,
ww 10 7 0,
ww 11 7 1,
mV 3 10,
mV 4 11] [1,3,4]
(GE [kw 13 5 1,
mt 14 26 rg [.t 13],
mV 12 14,
ww 15 12 0,
ww 16 12 1,
mV 5 15,
mV 6 16] [1,3,4,5,6]
(.seq (GE [mV 17 3,
mV 18 5,
mt 19 27 rc [.t 17,.t 18],
pl 20 19,
mV 21 20,
lc 22 21 4,
lc 23 21 6,
gF 24 21 (.bin .neq (.t 22) (.t 23)),
oP 25 (.pick (.t 21) (.c (.bool true)) (.t 24))] [1,25]
(.cond (.t 25)
(GE [oP 2 (.mv (.c (.bool false)))] [2]
.ret)
.skip))
(GE [kw 27 5 1,
mt 28 28 rg [.t 27],
mV 26 28,
ww 29 26 0,
ww 30 26 1,
mV 3 29,
mV 4 30] [1,3,4]
(GE [kw 32 5 1,
mt 33 29 rg [.t 32],
mV 31 33,
ww 34 31 0,
ww 35 31 1,
mV 5 34,
mV 6 35] [1,3,4,5,6]
(.seq (GE [mV 36 3,
mV 37 5,
mt 38 27 rc [.t 36,.t 37],
pl 39 38,
mV 40 39,
lc 41 40 4,
lc 42 40 6,
gF 43 40 (.bin .neq (.t 41) (.t 42)),
oP 44 (.pick (.t 40) (.c (.bool true)) (.t 43))] [1,44]
(.cond (.t 44)
(GE [oP 2 (.mv (.c (.bool false)))] [2]
.ret)
.skip))
(GE [kw 46 5 1,
mt 47 30 rg [.t 46],
mV 45 47,
ww 48 45 0,
ww 49 45 1,
mV 3 48,
mV 4 49] [1,3,4]
(GE [kw 51 5 1,
mt 52 31 rg [.t 51],
mV 50 52,
ww 53 50 0,
ww 54 50 1,
mV 5 53,
mV 6 54] [3,4,5,6]
(GE [mV 55 3,
mV 56 5,
mt 57 27 rc [.t 55,.t 56],
mV 58 57,
ge 59 58 4,
ge 60 58 6,
gT 61 58 (.bin .eql (.t 59) (.t 60)),
oP 62 (.pick (.t 58) (.t 61) (.c (.bool false))),
mV 63 62,
gT 64 63 (.call (.f 24) [] []),
oP 65 (.pick (.t 63) (.t 64) (.c (.bool false))),
mV 2 65] [2]
.ret))))))))))
abbrev R_4:RsT:=[(2,none)]
theorem S_4:SpF 66 F_4 C_4 R_4:=SpI Tryz.func4 (by kernel_rfl)
abbrev MY:FuncId:=13
def Hy:AC:=
(GE [jp 3 5 0,
jp 5 2 2,
oP 6 (.mv (.c (.bool false)))] [1,3,5]
(.seq (GE [kw 24 5 3,
mV 25 1,
mt 26 50 rc [.t 24,.t 25],
dg 27 26 0,
mV 28 27,
lw 29 28 3 3,
lm 30 28 29,
md 31 28 30,
gF 32 28 (.bin .eql (.t 31) (cI 0)),
oP 33 (.pick (.t 28) (.c (.bool true)) (.t 32))] [1,3,5,33]
(.cond (.t 33)
(GE [kw 35 5 3,
mV 36 1,
mt 37 32 Do [.t 35,.t 36,cI 0],
mV 34 37,
ww 38 34 0,
ww 39 34 1,
oP 7 (.alloc Fd),
qr 2 7 38,
mV 8 39] [8]
(GE [mV 40 8,
dg 41 40 0,
mV 42 41,
gT 43 42 (.call (.f 24) [] []),
oP 44 (.pick (.t 42) (.t 43) (.c (.bool false))),
mV 6 44] [6]
.ret))
.skip))
(GE [oP 45 (.ixA 2 1 none (.t 5) (cI 0)),
ol 46 45,
oP 47 (.conv .i64 (.t 46)),
wd 48 3 3,
ol 49 48,
ut 50 49,
oP 51 (.bin .rem (.t 47) (.t 50)),
mV 9 51] [1,3,5,9]
(GE [wd 52 3 3,
ol 53 52,
mV 54 9,
ul 55 5 53 54,
wd 56 4 55,
ol 57 56,
mV 10 57] [1,3,5,9,10]
(GE [oP 11 (.nilS 1 1),
oP 12 (.nilS 1 1)] [1,3,5,9,10,11,12]
(.seq (GE [wt 13 0] [1,3,5,9,10,11,12,13]
(.block 0
(.loop [1,3,5,9,10,11,12,13]
(.seq (GE [mV 58 13,
wd 59 3 3,
ol 60 59,
ut 61 60,
bi 62 58 61] [1,3,5,9,10,11,12,13,62]
(.cond (.t 62)
.skip
(.exit 0)))
(.seq (.block 1
(GE [mV 65 1,
mV 66 13,
mt 67 45 sm [.t 65,.t 66],
mV 68 67,
lc 69 68 13,
lc 70 68 9,
gF 71 68 (.bin .eql (.t 69) (.t 70)),
oP 72 (.pick (.t 68) (.c (.bool true)) (.t 71)),
mV 73 72,
lc 74 73 13,
lc 75 73 10,
gF 76 73 (.bin .eql (.t 74) (.t 75)),
oP 77 (.pick (.t 73) (.c (.bool true)) (.t 76))] [1,3,5,9,10,11,12,13,77]
(.cond (.t 77)
(GE [mV 78 11,
mV 79 13,
oP 80 (.lit 0 1 1 [(0,.t 79)]),
oP 81 (.append 1 8 (.t 78) (.t 80)),
mV 11 81] [1,3,5,9,10,11,12,13]
(GE [mV 82 13,
mV 83 9,
co 84 82 83] [1,3,5,9,10,11,12,13,84]
(.cond (.t 84)
(.reg [mV 85 12,
mV 86 13,
oP 87 (.lit 0 1 1 [(0,.t 86)]),
oP 88 (.append 1 8 (.t 85) (.t 87)),
mV 12 88] [1,3,5,9,10,11,12,13])
.skip)))
.skip)))
(.reg [mV 63 13,
pu 64 63 1,
mV 13 64] [1,3,5,9,10,11,12,13]))))))
(GE [kw 90 5 3,
mV 91 11,
mV 92 9,
mt 93 32 Do [.t 90,.t 91,.t 92],
mV 89 93,
ww 94 89 0,
ww 95 89 1,
oP 14 (.alloc Fd),
qr 2 14 94,
mV 15 95] [3,5,9,11,12,14,15]
(.frz 14 true (.seq (GE [mV 96 15,
dg 97 96 0] [3,5,9,11,12,14,15,97]
(.cond (.t 97)
(GE [kw 99 5 3,
mV 100 11,
mt 101 18 rc [.t 99,.t 100],
mV 98 101,
ww 102 98 0,
ww 103 98 1,
mV 16 102,
mV 17 103] [15,16,17]
(GE [mV 104 15,
ci 105 104 9,
mV 106 105,
ge 107 106 17,
io 108 106 107 0,
oP 109 (.pick (.t 106) (.t 108) (.c (.bool false))),
mV 110 109,
ge 111 110 16,
gT 112 110 (.un .not (.t 111)),
oP 113 (.pick (.t 110) (.t 112) (.c (.bool false))),
mV 114 113,
gT 115 114 (.call (.f 24) [] []),
oP 116 (.pick (.t 114) (.t 115) (.c (.bool false))),
mV 6 116] [6]
.ret))
.skip))
(GE [wd 117 0 14,
ol 118 117,
wd 119 1 14,
ol 120 119,
wd 121 0 14,
ol 122 121,
ap 123 122 1,
wd 124 1 14,
ol 125 124,
pu 126 125 1,
oP 127 (.ixA 2 1 none (.t 5) (cI 1)),
ol 128 127,
oP 129 (.conv .i64 (.t 128)),
oP 130 (.bin .rem (.t 129) (cI 1000001)),
oP 131 (.lit 0 1 5 [(0,.t 118),(1,.t 120),(2,.t 123),(3,.t 126),(4,.t 130)]),
mV 18 131] [3,9,12,14,18]
(.seq (GE [wt 19 0] [3,9,12,14,18,19]
(.block 2
(.loop [3,9,12,14,18,19]
(.seq (GE [mV 132 19,
mV 133 18,
ut 134 133,
bi 135 132 134] [3,9,12,14,18,19,135]
(.cond (.t 135)
.skip
(.exit 2)))
(.seq (.block 3
(GE [mV 138 18,
mV 139 19,
ul 140 1 138 139,
ol 141 140,
mV 20 141] [3,9,12,14,18,19,20]
(.seq (GE [mV 142 20,
bv 143 142 0,
mV 144 143,
lc 145 144 20,
gF 146 144 (.bin .gtr (.t 145) (cI 1000000)),
oP 147 (.pick (.t 144) (.c (.bool true)) (.t 146))] [3,9,12,14,18,19,20,147]
(.cond (.t 147)
(.exit 3)
.skip))
(GE [kw 148 5 3,
oP 21 (.alloc FS),
qr 5 21 148] [3,9,12,14,18,19,20,21]
(GE [oP 149 (.lit 2 5 0 []),
wd 150 3 3,
ol 151 150,
oP 152 (.append 5 40 (.t 149) (.t 151)),
wd 153 3 21,
qr 1 153 152] [3,9,12,14,18,19,20,21]
(GE [wd 154 3 21,
ol 155 154,
mV 156 9,
mV 157 20,
ul 158 5 155 156,
wd 159 3 158,
qr 1 159 157] [3,9,12,14,18,19,20,21]
(.Ec 21 3 5 (GE [kw 161 5 21,
mV 162 12,
mt 163 18 rc [.t 161,.t 162],
mV 160 163,
ww 164 160 0,
ww 165 160 1,
mV 22 164,
mV 23 165] [3,9,12,14,18,19,20,22,23]
(GE [mV 166 23,
dg 167 166 0,
mV 168 167,
lc 169 168 22,
lc 170 168 20,
lw 171 168 0 14,
lm 172 168 171,
gF 173 168 (.bin .geq (.t 170) (.t 172)),
lc 174 168 173,
ge 175 174 20,
ii 176 174 1 14,
gt 177 174 176,
gT 178 174 (.bin .leq (.t 175) (.t 177)),
gF 179 168 (.pick (.t 174) (.t 178) (.c (.bool false))),
gF 180 168 (.eqb true (.t 169) (.t 179)),
oP 181 (.pick (.t 168) (.c (.bool true)) (.t 180))] [3,9,12,14,18,19,181]
(.cond (.t 181)
(GE [oP 6 (.mv (.c (.bool false)))] [6]
.ret)
.skip))))))))))
(.reg [mV 136 19,
pu 137 136 1,
mV 19 137] [3,9,12,14,18,19]))))))
(GE [mt 182 24 [] [],
mV 6 182] [6]
.ret))))))))))))
abbrev RI:RsT:=[(6,none)]
theorem QG:SpF 183 MY Hy RI:=SpI Tryz.func13 (by kernel_rfl)
abbrev KZ:FuncId:=16
def EK:AC:=
(GE [jp 1 5 0,
wt 2 0,
wt 3 0,
wt 4 0] [1]
(GE [kw 9 5 1,
oP 10 (.build FS [(0,5,.t 9)]),
oP 5 (.alloc FS),
qr 5 5 10] [5]
(.frz 5 true (.seq (GE [wn 11 5 0 5,
wd 12 0 11,
ol 13 12,
ut 14 13,
oP 15 (.lit 0 1 1 [(0,.t 14)]),
mt 16 53 [false,false,true] [cI 1,cI 4,.t 15],
mV 17 16,
gF 18 17 (.fieldAddr (some 5) 0 (.t 5)),
lw 19 17 1 18,
lm 20 17 19,
md 21 17 20,
gF 22 17 (.lit 0 1 1 [(0,.t 21)]),
gF 23 17 (.call (.f 53) [false,false,true] [cI 1,cI 4,.t 22]),
oP 24 (.pick (.t 17) (.c (.bool true)) (.t 23)),
mV 25 24,
gF 26 25 (.fieldAddr (some 5) 0 (.t 5)),
lw 27 25 3 26,
lm 28 25 27,
md 29 25 28,
gF 30 25 (.bin .gtr (.t 29) (cI 10)),
oP 31 (.pick (.t 25) (.c (.bool true)) (.t 30)),
mV 32 31,
gF 33 32 (.fieldAddr (some 5) 0 (.t 5)),
lw 34 32 2 33,
lm 35 32 34,
md 36 32 35,
gF 37 32 (.fieldAddr (some 5) 0 (.t 5)),
lw 38 32 4 37,
lm 39 32 38,
md 40 32 39,
gF 41 32 (.mx [.t 36,.t 40]),
gF 42 32 (.bin .gtr (.t 41) (cI 8)),
oP 43 (.pick (.t 32) (.c (.bool true)) (.t 42))] [5,43]
(.cond (.t 43)
(GE [wt 2 1,
wt 3 0,
wt 4 3] [2,3,4]
.ret)
.skip))
(GE [oP 44 (.mkfunc (.func 54) [] [.t 5]),
oP 45 (.mkfunc (.func 56) [] [.t 5]),
oP 46 (.mkfunc (.func 57) [] [.t 5]),
oP 47 (.mkfunc (.func 59) [] [.t 5]),
oP 48 (.mkfunc (.func 62) [] [.t 5]),
oP 49 (.build [.nilfunc, .nilfunc, .nilfunc, .nilfunc, .nilfunc] [(0,1,.t 44),(1,1,.t 45),(2,1,.t 46),(3,1,.t 47),(4,1,.t 48)]),
oP 6 (.alloc [.nilfunc, .nilfunc, .nilfunc, .nilfunc, .nilfunc]),
qr 5 6 49] [6]
(.frz 6 true (.seq (GE [kw 50 5 6,
wt 51 0] [50,51]
(.block 0
(.loop [50,51]
(GE [bv 52 51 5] [50,51,52]
(.seq (.cond (.t 52)
.skip
(.exit 0))
(.seq (.block 1
(GE [mV 53 51,
oP 54 (.ixV 5 1 none (.t 50) (.t 51)),
mV 7 53,
mV 8 54] [7,8,50,51]
(GE [mV 56 8,
oP 57 (.call (.t 56) [] []),
mV 55 57,
ww 58 55 0,
ww 59 55 1,
mV 3 58,
mV 4 59] [3,4,7,50,51]
(GE [mV 60 4,
dg 61 60 0] [3,4,7,50,51,61]
(.cond (.t 61)
(GE [mV 62 7,
pu 63 62 2,
mV 64 3,
mV 65 4,
mV 2 63,
mV 3 64,
mV 4 65] [2,3,4]
.ret)
.skip)))))
(.reg [pu 66 51 1,
mV 51 66] [50,51])))))))
(GE [wt 2 0,
wt 3 0,
wt 4 0] [2,3,4]
.ret))))))))
abbrev RH:RsT:=[(2,none),(3,none),(4,none)]
theorem QE:SpF 67 KZ EK RH:=SpI Tryz.func16 (by kernel_rfl)
theorem zO:au Tryz.prog KZ = true:=by kernel_rfl
abbrev KI:FuncId:=17
def zJ:AC:=
(GE [jp 1 5 0,
wt 2 0,
wt 3 0,
wt 4 0] [1]
(.seq (GE [wd 8 0 1,
ol 9 8,
ut 10 9,
mt 11 63 [false,false,false] [.t 10,cI 1,cI 4],
pl 12 11,
mV 13 12,
lw 14 13 1 1,
lm 15 13 14,
md 16 13 15,
gF 17 13 (.call (.f 63) [false,false,false] [.t 16,cI 1,cI 4]),
gF 18 13 (.un .not (.t 17)),
oP 19 (.pick (.t 13) (.c (.bool true)) (.t 18)),
mV 20 19,
lw 21 20 3 1,
lm 22 20 21,
md 23 20 22,
gF 24 20 (.bin .gtr (.t 23) (cI 10)),
oP 25 (.pick (.t 20) (.c (.bool true)) (.t 24)),
mV 26 25,
lw 27 26 2 1,
lm 28 26 27,
md 29 26 28,
gF 30 26 (.bin .gtr (.t 29) (cI 8)),
oP 31 (.pick (.t 26) (.c (.bool true)) (.t 30)),
mV 32 31,
lw 33 32 4 1,
lm 34 32 33,
md 35 32 34,
gF 36 32 (.bin .gtr (.t 35) (cI 8)),
oP 37 (.pick (.t 32) (.c (.bool true)) (.t 36))] [1,37]
(.cond (.t 37)
(GE [wt 2 1,
wt 3 0,
wt 4 3] [2,3,4]
.ret)
.skip))
(GE [wd 39 0 1,
ol 40 39,
mt 41 64 rg [.t 40],
mV 38 41,
ww 42 38 0,
ww 43 38 1,
mV 5 42,
mV 6 43] [1,5,6]
(.seq (GE [mV 44 6,
dg 45 44 0] [1,5,6,45]
(.cond (.t 45)
(GE [mV 46 5,
mV 47 6,
wt 2 2,
mV 3 46,
mV 4 47] [2,3,4]
.ret)
.skip))
(GE [wd 49 1 1,
ol 50 49,
mt 51 64 rg [.t 50],
mV 48 51,
ww 52 48 0,
ww 53 48 1,
mV 5 52,
mV 6 53] [1,5,6]
(.seq (GE [mV 54 6,
dg 55 54 0] [1,5,6,55]
(.cond (.t 55)
(GE [mV 56 5,
mV 57 6,
wt 2 3,
mV 3 56,
mV 4 57] [2,3,4]
.ret)
.skip))
(GE [kw 59 5 1,
wd 60 2 1,
ol 61 60,
mt 62 65 rc [.t 59,.t 61],
mV 58 62,
ww 63 58 0,
ww 64 58 1,
mV 5 63,
mV 6 64] [1,5,6]
(.seq (GE [mV 65 6,
dg 66 65 0] [1,5,6,66]
(.cond (.t 66)
(GE [mV 67 5,
mV 68 6,
wt 2 4,
mV 3 67,
mV 4 68] [2,3,4]
.ret)
.skip))
(.seq (GE [wt 7 0] [1,7]
(.block 0
(.loop [1,7]
(.seq (GE [mV 69 7,
wd 70 3 1,
ol 71 70,
ut 72 71,
bi 73 69 72] [1,7,73]
(.cond (.t 73)
.skip
(.exit 0)))
(.seq (.block 1
(GE [kw 76 5 1,
mV 77 7,
mt 78 66 sm [.t 76,.t 77],
mV 6 78] [1,6,7]
(GE [mV 79 6,
dg 80 79 0] [1,6,7,80]
(.cond (.t 80)
(GE [mV 81 7,
mV 82 6,
wt 2 5,
mV 3 81,
mV 4 82] [2,3,4]
.ret)
.skip))))
(.reg [mV 74 7,
pu 75 74 1,
mV 7 75] [1,7]))))))
(GE [kw 84 5 1,
wd 85 4 1,
ol 86 85,
mt 87 65 rc [.t 84,.t 86],
mV 83 87,
ww 88 83 0,
ww 89 83 1,
mV 5 88,
mV 6 89] [5,6]
(.seq (GE [mV 90 6,
dg 91 90 0] [5,6,91]
(.cond (.t 91)
(GE [mV 92 5,
mV 93 6,
wt 2 6,
mV 3 92,
mV 4 93] [2,3,4]
.ret)
.skip))
(GE [wt 2 0,
wt 3 0,
wt 4 0] [2,3,4]
.ret))))))))))))
abbrev PR:RsT:=[(2,none),(3,none),(4,none)]
theorem Pk:SpF 94 KI zJ PR:=SpI Tryz.func17 (by kernel_rfl)
theorem H4:au Tryz.prog KI = true:=by kernel_rfl
abbrev Em:FuncId:=18
def Kn:AC:=
(GE [jp 2 5 0,
oP 4 (.mv (.c (.bool false))),
wt 5 0] [1,2]
(GE [kw 9 5 2,
mV 10 1,
mt 11 67 rc [.t 9,.t 10],
mV 8 11,
ww 12 8 0,
ww 13 8 1,
oP 6 (.alloc FS),
qr 5 6 12,
mV 7 13] [1,6,7]
(.frz 6 true (GE [mV 14 7,
ci 15 14 0,
mV 16 15,
gT 17 16 (.load (some 5) (.t 6)),
ge 18 16 1,
gT 19 16 (.call (.f 68) rc [.t 17,.t 18]),
oP 20 (.pick (.t 16) (.t 19) (.c (.bool false))),
mV 21 7,
mV 4 20,
mV 5 21] [4,5]
.ret))))
abbrev RN:RsT:=[(4,none),(5,none)]
theorem Ph:SpF 22 Em Kn RN:=SpI Tryz.func18 (by kernel_rfl)
theorem FD:au Tryz.prog Em = true:=by kernel_rfl
abbrev KB:FuncId:=19
def KD:AC:=
(GE [jp 2 5 0,
oP 4 (.mv (.c (.bool false))),
wt 5 0] [1,2]
(GE [kw 7 5 2,
mV 8 1,
mt 9 50 rc [.t 7,.t 8],
mV 6 9] [1,2,6]
(GE [mV 10 6,
ci 11 10 0,
mV 12 11,
gT 13 12 (.load (some 5) (.t 2)),
ge 14 12 1,
gT 15 12 (.call (.f 69) rc [.t 13,.t 14]),
oP 16 (.pick (.t 12) (.t 15) (.c (.bool false))),
mV 17 6,
mV 4 16,
mV 5 17] [4,5]
.ret)))
abbrev Ry:RsT:=[(4,none),(5,none)]
theorem Qb:SpF 18 KB KD Ry:=SpI Tryz.func19 (by kernel_rfl)
theorem QJ:au Tryz.prog KB = true:=by kernel_rfl
abbrev Iw:FuncId:=20
def HK:AC:=
(GE [jp 2 5 0,
oP 4 (.alloc EQ),
wt 5 0] [1,2,4]
(GE [kw 14 5 2,
mV 15 1,
mt 16 67 rc [.t 14,.t 15],
mV 13 16,
ww 17 13 0,
ww 18 13 1,
oP 6 (.alloc FS),
qr 5 6 17,
mV 7 18] [1,4,6,7]
(.frz 6 true (.seq (GE [mV 19 7,
dg 20 19 0] [1,4,6,7,20]
(.cond (.t 20)
(GE [oP 21 (.build EQ []),
mV 22 7,
qr 4 4 21,
mV 5 22] [4,5]
.ret)
.skip))
(.seq (GE [kw 23 5 6,
mV 24 1,
mt 25 70 rc [.t 23,.t 24],
mV 8 25] [1,4,6,8]
(GE [mV 26 8,
eq 27 26 0] [1,4,6,8,27]
(.cond (.t 27)
(GE [mV 28 8,
oP 29 (.build EQ [(0,1,.t 28)]),
qr 4 4 29,
wt 5 0] [4,5]
.ret)
.skip)))
(.seq (GE [wn 30 5 0 6,
wd 31 0 30,
ol 32 31,
ut 33 32,
wt 34 0] [1,4,6,33,34]
(.block 0
(.loop [1,4,6,33,34]
(GE [bi 35 34 33] [1,4,6,33,34,35]
(.seq (.cond (.t 35)
.skip
(.exit 0))
(.seq (.block 1
(GE [mV 36 34,
mV 9 36] [1,4,6,9,33,34]
(GE [wt 10 1] [1,4,6,9,10,33,34]
(.block 2
(.loop [1,4,6,9,10,33,34]
(.seq (GE [mV 37 10,
wn 38 5 0 6,
wd 39 1 38,
ol 40 39,
ut 41 40,
oP 42 (.bin .shl (cI 1) (.t 41)),
bi 43 37 42] [1,4,6,9,10,33,34,43]
(.cond (.t 43)
.skip
(.exit 2)))
(.seq (.block 3
(GE [kw 47 5 6,
mV 48 9,
mV 49 10,
mV 50 1,
mt 51 71 [true,false,false,true] [.t 47,.t 48,.t 49,.t 50],
mV 46 51,
ww 52 46 0,
ww 53 46 1,
mV 11 52,
mV 12 53] [1,4,6,9,10,11,12,33,34]
(.seq (GE [mV 54 11,
ci 55 54 0] [1,4,6,9,10,11,12,33,34,55]
(.cond (.t 55)
(.reg [mV 56 12,
mV 11 56] [1,4,6,9,10,11,33,34])
.skip))
(GE [mV 57 11,
dg 58 57 0] [1,4,6,9,10,11,33,34,58]
(.cond (.t 58)
(GE [mV 59 9,
mV 60 10,
mV 61 11,
oP 62 (.build EQ [(0,1,cI (-1)),(1,1,.t 59),(2,1,.t 60),(3,1,.t 61)]),
qr 4 4 62,
wt 5 0] [4,5]
.ret)
.skip)))))
(.reg [mV 44 10,
pu 45 44 1,
mV 10 45] [1,4,6,9,10,33,34]))))))))
(.reg [pu 63 34 1,
mV 34 63] [1,4,6,33,34])))))))
(GE [oP 64 (.build EQ []),
qr 4 4 64,
wt 5 4] [4,5]
.ret)))))))
abbrev QM:RsT:=[(4,some (some 4)),(5,none)]
theorem Qc:SpF 65 Iw HK QM:=SpI Tryz.func20 (by kernel_rfl)
theorem ON:au Tryz.prog Iw = true:=by kernel_rfl
abbrev KC:FuncId:=21
def Hv:AC:=
(GE [jp 2 5 0,
oP 4 (.alloc EQ),
wt 5 0] [1,2,4]
(GE [kw 9 5 2,
mV 10 1,
mt 11 50 rc [.t 9,.t 10],
mV 6 11] [1,2,4,6]
(.seq (GE [mV 12 6,
dg 13 12 0] [1,2,4,6,13]
(.cond (.t 13)
(GE [oP 14 (.build EQ []),
mV 15 6,
qr 4 4 14,
mV 5 15] [4,5]
.ret)
.skip))
(GE [kw 17 5 2,
mV 18 1,
mt 19 72 rc [.t 17,.t 18],
mV 16 19,
ww 20 16 0,
ww 21 16 1,
oP 7 (.alloc EQ),
qr 4 7 20,
mV 8 21] [4,7,8]
(.frz 7 true (.seq (GE [mV 22 8,
pl 23 22] [4,7,23]
(.cond (.t 23)
(GE [oP 24 (.build EQ []),
qr 4 4 24,
wt 5 4] [4,5]
.ret)
.skip))
(GE [kw 25 4 7,
qr 4 4 25,
wt 5 0] [4,5]
.ret)))))))
abbrev RL:RsT:=[(4,some (some 4)),(5,none)]
theorem Qf:SpF 26 KC Hv RL:=SpI Tryz.func21 (by kernel_rfl)
theorem RR:au Tryz.prog KC = true:=by kernel_rfl
abbrev Iy:FuncId:=22
def AB:AC:=
(GE [jp 3 5 0,
jp 5 4 2,
oP 6 (.mv (.c (.bool false))),
wt 7 0] [1,3,5]
(GE [kw 13 5 3,
mV 14 1,
mt 15 67 rc [.t 13,.t 14],
mV 12 15,
ww 16 12 0,
ww 17 12 1,
oP 8 (.alloc FS),
qr 5 8 16,
mV 9 17] [1,5,8,9]
(.frz 8 true (.seq (.block 0
(GE [mV 19 9,
dg 20 19 0,
mV 18 20] [1,5,8,9,18]
(.cond (.t 18)
(GE [mV 21 9,
oP 6 (.mv (.c (.bool false))),
mV 7 21] [6,7]
.ret)
(GE [wd 23 0 5,
ol 24 23,
dg 25 24 (-1),
mV 22 25] [1,5,8,22]
(.cond (.t 22)
(GE [kw 26 4 5,
wd 27 0 5,
ol 28 27,
oP 29 (.build EQ [(0,1,.t 28)]),
oP 30 (.eqa false [.i, .i, .i, .i] (.t 26) (.t 29)),
mV 31 30,
gT 32 31 (.fieldAddr (some 5) 0 (.t 8)),
ii 33 31 3 32,
gt 34 31 33,
gT 35 31 (.len (.t 34)),
gT 36 31 (.bin .sub (.t 35) (cI 1)),
ii 37 31 0 5,
gt 38 31 37,
gT 39 31 (.lit 0 1 1 [(0,.t 38)]),
gT 40 31 (.call (.f 53) [false,false,true] [cI 0,.t 36,.t 39]),
gT 41 31 (.un .not (.t 40)),
oP 42 (.pick (.t 31) (.t 41) (.c (.bool false))),
mV 43 42,
gT 44 43 (.load (some 5) (.t 8)),
ii 45 43 0 5,
gt 46 43 45,
ge 47 43 1,
gT 48 43 (.call (.f 73) [true,false,true] [.t 44,.t 46,.t 47]),
oP 49 (.pick (.t 43) (.t 48) (.c (.bool false))),
mV 6 49,
wt 7 0] [6,7]
.ret)
(.seq (.dreg [wn 51 5 0 8,
wd 52 0 51,
ol 53 52,
ut 54 53,
ap 55 54 1,
wd 56 1 5,
ol 57 56,
oP 58 (.lit 0 1 1 [(0,.t 57)]),
mt 59 53 [false,false,true] [cI 0,.t 55,.t 58],
mV 60 59,
gF 61 60 (.fieldAddr (some 5) 0 (.t 8)),
lw 62 60 1 61,
lm 63 60 62,
md 64 60 63,
gF 65 60 (.bin .shl (cI 1) (.t 64)),
gF 66 60 (.bin .sub (.t 65) (cI 1)),
lw 67 60 2 5,
lm 68 60 67,
gF 69 60 (.lit 0 1 1 [(0,.t 68)]),
gF 70 60 (.call (.f 53) [false,false,true] [cI 1,.t 66,.t 69]),
oP 71 (.pick (.t 60) (.c (.bool true)) (.t 70)),
mV 50 71] [1,5,8,50] [[],[0],[0,1],[0,1,2],GT 4,[],[5],[5,6],GT 8,GT 9,GT 10,GT 11,GT 12,GT 13,GT 14,GT 15,GT 10,[0,1,2,3,4,5,6,7,8,9,16],[0,1,2,3,4,5,6,7,8,9,16,17],GT 19,GT 20,GT 21])
(.cond (.t 50)
(GE [oP 6 (.mv (.c (.bool false))),
wt 7 0] [6,7]
.ret)
.skip)))))))
(GE [kw 73 5 8,
wd 74 1 5,
ol 75 74,
wd 76 2 5,
ol 77 76,
mV 78 1,
mt 79 71 [true,false,false,true] [.t 73,.t 75,.t 77,.t 78],
mV 72 79,
ww 80 72 0,
ww 81 72 1,
mV 10 80,
mV 11 81] [5,10,11]
(GE [wd 82 3 5,
ol 83 82,
gc 84 83 0,
mV 85 84,
ii 86 85 3 5,
gt 87 85 86,
ge 88 85 10,
gT 89 85 (.bin .eql (.t 87) (.t 88)),
oP 90 (.pick (.t 85) (.t 89) (.c (.bool false))),
mV 91 90,
lw 92 91 3 5,
lm 93 91 92,
gF 94 91 (.bin .lss (.t 93) (cI 0)),
lc 95 91 94,
ii 96 95 3 5,
gt 97 95 96,
ge 98 95 11,
gT 99 95 (.bin .eql (.t 97) (.t 98)),
gF 100 91 (.pick (.t 95) (.t 99) (.c (.bool false))),
oP 101 (.pick (.t 91) (.c (.bool true)) (.t 100)),
mV 6 101,
wt 7 0] [6,7]
.ret))))))
abbrev RJ:RsT:=[(6,none),(7,none)]
theorem Sh:SpF 102 Iy AB RJ:=SpI Tryz.func22 (by kernel_rfl)
theorem Kt:au Tryz.prog Iy = true:=by kernel_rfl
abbrev J3:FuncId:=23
def wu:AC:=
(GE [jp 3 5 0,
jp 5 4 2,
oP 6 (.mv (.c (.bool false))),
wt 7 0] [1,3,5]
(GE [kw 11 5 3,
mV 12 1,
mt 13 50 rc [.t 11,.t 12],
mV 8 13] [1,3,5,8]
(.seq (GE [mV 14 8,
dg 15 14 0] [1,3,5,8,15]
(.cond (.t 15)
(GE [mV 16 8,
oP 6 (.mv (.c (.bool false))),
mV 7 16] [6,7]
.ret)
.skip))
(.seq (GE [wd 17 0 5,
ol 18 17,
dg 19 18 (-1)] [1,3,5,19]
(.cond (.t 19)
(GE [wd 20 0 5,
ol 21 20,
wd 22 3 3,
ol 23 22,
ut 24 23,
ap 25 24 1,
mt 26 63 [false,false,false] [.t 21,cI 0,.t 25],
mV 27 26,
gT 28 27 (.load (some 5) (.t 3)),
ge 29 27 1,
ii 30 27 0 5,
gt 31 27 30,
gT 32 27 (.call (.f 74) Do [.t 28,.t 29,.t 31]),
oP 33 (.pick (.t 27) (.t 32) (.c (.bool false))),
mV 34 33,
ii 35 34 1 5,
gt 36 34 35,
io 37 34 36 0,
oP 38 (.pick (.t 34) (.t 37) (.c (.bool false))),
mV 39 38,
ii 40 39 2 5,
gt 41 39 40,
io 42 39 41 0,
oP 43 (.pick (.t 39) (.t 42) (.c (.bool false))),
mV 44 43,
ii 45 44 3 5,
gt 46 44 45,
io 47 44 46 0,
oP 48 (.pick (.t 44) (.t 47) (.c (.bool false))),
mV 6 48,
wt 7 0] [6,7]
.ret)
.skip))
(.seq (.seq (.dreg [wd 49 1 5,
ol 50 49,
wd 51 0 3,
ol 52 51,
ut 53 52,
ap 54 53 1,
mt 55 63 [false,false,false] [.t 50,cI 0,.t 54],
pl 56 55,
mV 57 56,
lw 58 57 2 5,
lm 59 57 58,
lw 60 57 1 3,
lm 61 57 60,
md 62 57 61,
gF 63 57 (.call (.f 75) rt [.t 62]),
gF 64 57 (.bin .sub (.t 63) (cI 1)),
gF 65 57 (.call (.f 63) [false,false,false] [.t 59,cI 1,.t 64]),
gF 66 57 (.un .not (.t 65)),
oP 67 (.pick (.t 57) (.c (.bool true)) (.t 66)),
mV 68 67,
lw 69 68 3 5,
lm 70 68 69,
gF 71 68 (.bin .eql (.t 70) (cI 0)),
oP 72 (.pick (.t 68) (.c (.bool true)) (.t 71))] [1,3,5,72] [[],[0],[],[2],[2,3],[2,3,4],GT 6,GT 7,GT 8,GT 9,GT 10,GT 9,[0,1,2,3,4,5,6,7,8,11],[0,1,2,3,4,5,6,7,8,11,12],[0,1,2,3,4,5,6,7,8,11,12,13],[0,1,2,3,4,5,6,7,8,11,12,13,14],GT 16,GT 17,GT 18,GT 19,GT 20,GT 21,GT 22,GT 23])
(.cond (.t 72)
(GE [oP 6 (.mv (.c (.bool false))),
wt 7 0] [6,7]
.ret)
.skip))
(.seq (.dreg [kw 74 5 3,
kw 75 5 3,
mV 76 1,
mt 77 77 rc [.t 75,.t 76],
wd 78 1 5,
ol 79 78,
wd 80 2 5,
ol 81 80,
mt 82 76 [true,true,false,false] [.t 74,.t 77,.t 79,.t 81],
mV 73 82,
ww 83 73 0,
ww 84 73 1,
mV 9 83,
mV 10 84] [5,9,10] [[],[],[],[1,2],[],[4],[],[6],GT 8,GT 9,GT 10,GT 10,GT 11,GT 13])
(GE [wd 85 3 5,
ol 86 85,
mV 87 9,
ce 88 86 87,
mV 89 88,
lw 90 89 3 5,
lm 91 89 90,
lc 92 89 10,
gF 93 89 (.bin .eql (.t 91) (.t 92)),
oP 94 (.pick (.t 89) (.c (.bool true)) (.t 93)),
mV 6 94,
wt 7 0] [6,7]
.ret)))))))
abbrev Qs:RsT:=[(6,none),(7,none)]
theorem QR:SpF 95 J3 wu Qs:=SpI Tryz.func23 (by kernel_rfl)
theorem Pl:au Tryz.prog J3 = true:=by kernel_rfl
abbrev Ld:FuncId:=24
abbrev zrr (n : Nat) : List Nat := List.range n
def zll : List (List Nat) := [[],[0],[0,1],zrr 3,zrr 4,zrr 5,zrr 6,zrr 7,zrr 8,zrr 9,zrr 10,zrr 11,zrr 12,zrr 13,zrr 14,zrr 15,zrr 16,zrr 17,zrr 18,zrr 19,zrr 20,zrr 21,zrr 22,zrr 23,zrr 24,zrr 25,zrr 26,zrr 27,zrr 28,zrr 29,zrr 30,zrr 31,zrr 32,zrr 33,zrr 34,zrr 35,zrr 36,zrr 37,zrr 38,zrr 39,zrr 40,zrr 41,zrr 42,zrr 43,zrr 44,zrr 45,zrr 46,zrr 47,zrr 48,zrr 49,zrr 50,zrr 51,zrr 52,zrr 53,zrr 54,zrr 55,zrr 56,zrr 57,zrr 58,zrr 58,zrr 60,zrr 61,zrr 62,zrr 63,zrr 64,zrr 65,zrr 66,zrr 67,zrr 68,zrr 69,zrr 70,zrr 70,zrr 72,zrr 73,zrr 74,zrr 75,zrr 75,zrr 77,zrr 78,zrr 79,zrr 80,zrr 80,zrr 82,zrr 83,zrr 84,zrr 85,zrr 85,zrr 87,zrr 88,zrr 89,zrr 90,zrr 90,zrr 92,zrr 93,zrr 94,zrr 95,zrr 95,zrr 97,zrr 98,zrr 99,zrr 100,zrr 100,zrr 102,zrr 103,zrr 104]
def OZ:AC:=
(GE [oP 0 (.mv (.c (.bool false)))] []
(GE [mt 29 41 rt [(.c (.bool false))],
mt 30 41 rt [(.c (.bool true))],
oP 1 (.alloc FS),
oP 2 (.alloc FS),
qr 5 1 29,
qr 5 2 30] [1,2]
(.frz 2 true (.frz 1 true (GE [kw 32 5 1,
oP 33 (.lit 0 1 1 [(0,cI 1)]),
mt 34 18 rc [.t 32,.t 33],
mV 31 34,
ww 35 31 0,
ww 36 31 1,
mV 3 35,
mV 4 36] [1,2,3,4]
(GE [kw 38 5 1,
oP 39 (.lit 0 1 1 [(0,cI 0)]),
mt 40 18 rc [.t 38,.t 39],
mV 37 40,
ww 41 37 0,
ww 42 37 1,
mV 5 41,
mV 6 42] [1,2,3,4,5,6]
(GE [kw 44 5 1,
oP 45 (.lit 0 1 1 [(0,cI 0)]),
mt 46 20 rc [.t 44,.t 45],
mV 43 46,
ww 47 43 0,
ww 48 43 1,
oP 7 (.alloc EQ),
qr 4 7 47,
mV 8 48] [1,2,3,4,5,6,7,8]
(.frz 7 true (GE [kw 50 5 1,
oP 51 (.lit 0 1 1 [(0,cI 0)]),
oP 52 (.build EQ [(0,1,cI (-1)),(2,1,cI 1),(3,1,cI 100)]),
mt 53 22 Do [.t 50,.t 51,.t 52],
mV 49 53,
ww 54 49 0,
ww 55 49 1,
mV 9 54,
mV 10 55] [1,2,3,4,5,6,7,8,9,10]
(GE [kw 57 5 1,
oP 58 (.lit 0 1 1 [(0,cI 0)]),
oP 59 (.build EQ [(0,1,cI (-1)),(2,1,cI 1),(3,1,cI 99)]),
mt 60 22 Do [.t 57,.t 58,.t 59],
mV 56 60,
ww 61 56 0,
ww 62 56 1,
mV 11 61,
mV 12 62] [1,2,3,4,5,6,7,8,9,10,11,12]
(GE [kw 64 5 2,
mt 65 25 rg [.t 64],
mV 63 65,
ww 66 63 0,
ww 67 63 1,
mV 13 66,
mV 14 67] [1,2,3,4,5,6,7,8,9,10,11,12,13,14]
(GE [kw 69 5 1,
mt 70 28 rg [.t 69],
mV 68 70,
ww 71 68 0,
ww 72 68 1,
mV 15 71,
mV 16 72] [1,2,3,4,5,6,7,8,9,10,11,12,13,14,15,16]
(GE [kw 74 5 2,
mt 75 30 rg [.t 74],
mV 73 75,
ww 76 73 0,
ww 77 73 1,
mV 17 76,
mV 18 77] [1,2,3,4,5,6,7,8,9,10,11,12,13,14,15,16,17,18]
(GE [kw 79 5 2,
oP 80 (.lit 0 1 2 [(0,cI 0),(1,cI 1)]),
mt 81 32 Do [.t 79,.t 80,cI 0],
mV 78 81,
ww 82 78 0,
ww 83 78 1,
oP 19 (.alloc Fd),
qr 2 19 82,
mV 20 83] [1,2,3,4,5,6,7,8,9,10,11,12,13,14,15,16,17,18,19,20]
(.frz 19 true (GE [kw 85 5 1,
oP 86 (.lit 0 1 1 [(0,cI 1)]),
mt 87 34 Do [.t 85,.t 86,cI 0],
mV 84 87,
ww 88 84 0,
ww 89 84 1,
oP 21 (.alloc Fd),
qr 2 21 88,
mV 22 89] [1,2,3,4,5,6,7,8,9,10,11,12,13,14,15,16,17,18,19,20,21,22]
(.frz 21 true (GE [kw 91 5 2,
mt 92 36 rg [.t 91],
mV 90 92,
ww 93 90 0,
ww 94 90 1,
mV 23 93,
mV 24 94] [1,2,3,4,5,6,7,8,9,10,11,12,13,14,15,16,17,18,19,20,21,22,23,24]
(GE [mt 96 78 [] [],
mt 97 38 rt [.t 96],
mV 95 97,
ww 98 95 0,
ww 99 95 1,
oP 25 (.alloc FS),
qr 5 25 98,
mV 26 99] [1,2,3,4,5,6,7,8,9,10,11,12,13,14,15,16,17,18,19,20,21,22,23,24,25,26]
(.frz 25 true (GE [kw 101 5 1,
oP 102 (.lit 0 1 1 [(0,cI 0)]),
mt 103 32 Do [.t 101,.t 102,cI 0],
mV 100 103,
ww 104 100 0,
ww 105 100 1,
oP 27 (.alloc Fd),
qr 2 27 104,
mV 28 105] [2,3,4,5,6,7,8,9,10,11,12,13,14,15,16,17,18,19,20,21,22,23,24,25,26,28]
(.seq (.dreg [mV 106 4,
ci 107 106 0,
mV 108 107,
ge 109 108 6,
io 110 108 109 0,
oP 111 (.pick (.t 108) (.t 110) (.c (.bool false))),
mV 112 111,
ge 113 112 8,
io 114 112 113 0,
oP 115 (.pick (.t 112) (.t 114) (.c (.bool false))),
mV 116 115,
ge 117 116 10,
io 118 116 117 0,
oP 119 (.pick (.t 116) (.t 118) (.c (.bool false))),
mV 120 119,
ge 121 120 12,
io 122 120 121 0,
oP 123 (.pick (.t 120) (.t 122) (.c (.bool false))),
mV 124 123,
ge 125 124 14,
io 126 124 125 0,
oP 127 (.pick (.t 124) (.t 126) (.c (.bool false))),
mV 128 127,
ge 129 128 16,
io 130 128 129 0,
oP 131 (.pick (.t 128) (.t 130) (.c (.bool false))),
mV 132 131,
ge 133 132 18,
io 134 132 133 0,
oP 135 (.pick (.t 132) (.t 134) (.c (.bool false))),
mV 136 135,
ge 137 136 20,
io 138 136 137 0,
oP 139 (.pick (.t 136) (.t 138) (.c (.bool false))),
mV 140 139,
ge 141 140 22,
io 142 140 141 0,
oP 143 (.pick (.t 140) (.t 142) (.c (.bool false))),
mV 144 143,
ge 145 144 24,
io 146 144 145 0,
oP 147 (.pick (.t 144) (.t 146) (.c (.bool false))),
mV 148 147,
ge 149 148 26,
io 150 148 149 0,
oP 151 (.pick (.t 148) (.t 150) (.c (.bool false))),
mV 152 151,
ge 153 152 28,
io 154 152 153 9,
oP 155 (.pick (.t 152) (.t 154) (.c (.bool false))),
mV 156 155,
ge 157 156 3,
oP 158 (.pick (.t 156) (.t 157) (.c (.bool false))),
mV 159 158,
ge 160 159 5,
gT 161 159 (.un .not (.t 160)),
oP 162 (.pick (.t 159) (.t 161) (.c (.bool false))),
mV 163 162,
gT 164 163 (.load (some 4) (.t 7)),
gT 165 163 (.build EQ [(0,1,cI (-1)),(2,1,cI 1),(3,1,cI 100)]),
gT 166 163 (.eqa false [.i, .i, .i, .i] (.t 164) (.t 165)),
oP 167 (.pick (.t 163) (.t 166) (.c (.bool false))),
mV 168 167,
ge 169 168 9,
oP 170 (.pick (.t 168) (.t 169) (.c (.bool false))),
mV 171 170,
ge 172 171 11,
gT 173 171 (.un .not (.t 172)),
oP 174 (.pick (.t 171) (.t 173) (.c (.bool false))),
mV 175 174,
ge 176 175 13,
gT 177 175 (.lit 0 1 1 [(0,cI 0)]),
gT 178 175 (.call (.f 27) rc [.t 176,.t 177]),
oP 179 (.pick (.t 175) (.t 178) (.c (.bool false))),
mV 180 179,
ge 181 180 15,
gT 182 180 (.lit 0 1 1 [(0,cI 1)]),
gT 183 180 (.call (.f 27) rc [.t 181,.t 182]),
oP 184 (.pick (.t 180) (.t 183) (.c (.bool false))),
mV 185 184,
ge 186 185 17,
gT 187 185 (.lit 0 1 2 [(0,cI 0),(1,cI 1)]),
gT 188 185 (.call (.f 27) rc [.t 186,.t 187]),
oP 189 (.pick (.t 185) (.t 188) (.c (.bool false))),
mV 190 189,
gT 191 190 (.load (some 2) (.t 19)),
gT 192 190 (.call (.f 42) At [cI 500,cI 600]),
gT 193 190 (.eqa false [.i, .i] (.t 191) (.t 192)),
oP 194 (.pick (.t 190) (.t 193) (.c (.bool false))),
mV 195 194,
gT 196 195 (.load (some 2) (.t 21)),
gT 197 195 (.call (.f 42) At [cI 300,cI 300]),
gT 198 195 (.eqa false [.i, .i] (.t 196) (.t 197)),
oP 199 (.pick (.t 195) (.t 198) (.c (.bool false))),
mV 200 199,
ge 201 200 23,
gT 202 200 (.call (.f 78) [] []),
gT 203 200 (.bin .eql (.t 201) (.t 202)),
oP 204 (.pick (.t 200) (.t 203) (.c (.bool false))),
mV 205 204,
gT 206 205 (.load (some 5) (.t 25)),
gT 207 205 (.load (some 5) (.t 2)),
gT 208 205 (.call (.f 40) rc [.t 206,.t 207]),
oP 209 (.pick (.t 205) (.t 208) (.c (.bool false))),
mV 0 209] [0] zll)
.ret))))))))))))))))))))))
abbrev Pe:RsT:=[(0,none)]
theorem Rf:SpF 210 Ld OZ Pe:=SpI Tryz.func24 (by kernel_rfl)
theorem Ep:au Tryz.prog Ld = true:=by kernel_rfl
abbrev Io:FuncId:=25
def JT:AC:=
(GE [jp 1 5 0,
oP 2 (.alloc [.slice 1 []]),
oP 3 (.alloc [.int .i64 0])] [1,2,3]
(GE [kw 8 5 1,
mt 9 79 rg [.t 8],
mV 7 9,
ww 10 7 0,
ww 11 7 1,
oP 4 (.alloc FS),
qr 5 4 10,
mV 5 11] [2,3,4,5]
(.frz 4 true (.seq (GE [mV 12 5,
dg 13 12 0] [2,3,4,5,13]
(.cond (.t 13)
(GE [mV 14 5,
oN (.store 1 (.t 2) (.c (.slice 1 []))),
qr 1 3 14] [2,3]
.ret)
.skip))
(.seq (GE [kw 15 5 4,
mt 16 80 rg [.t 15]] [2,3,4,16]
(.block 0
(.iD (.t 16) [17] (.reg [mV 6 17] [2,3,4,6])
(.block 1
(GE [kw 18 5 4,
mV 19 6,
mt 20 68 rc [.t 18,.t 19]] [2,3,6,20]
(.cond (.t 20)
(GE [mV 21 6,
qr 1 2 21,
oN (.store 1 (.t 3) (cI 0))] [2,3]
.ret)
.skip))))))
(GE [oN (.store 1 (.t 2) (.c (.slice 1 []))),
oN (.store 1 (.t 3) (cI 9))] [2,3]
.ret))))))
abbrev Sg:RsT:=[(2,some none),(3,some none)]
theorem Rj:SpF 22 Io JT Sg:=SpI Tryz.func25 (by kernel_rfl)
theorem LD:au Tryz.prog Io = true:=by kernel_rfl
abbrev Ke:FuncId:=26
def Kj:AC:=
(GE [jp 1 5 0,
oP 2 (.mv (.c (.slice 1 []))),
wt 3 0] [1]
(GE [kw 7 5 1,
mt 8 81 rg [.t 7],
mV 4 8] [1,4]
(.seq (GE [mV 9 4,
dg 10 9 0] [1,4,10]
(.cond (.t 10)
(GE [mV 11 4,
oP 2 (.mv (.c (.slice 1 []))),
mV 3 11] [2,3]
.ret)
.skip))
(GE [kw 13 5 1,
mt 14 82 rg [.t 13],
mV 12 14,
ww 15 12 0,
ww 16 12 1,
mV 5 15,
mV 6 16] [5]
(GE [mV 17 5,
oP 18 (.ixS 1 (.t 17) (cI 0)),
ol 19 18,
oP 2 (.mvd (.t 19)),
wt 3 0] [2,3]
.ret)))))
abbrev RA:RsT:=[(2,none),(3,none)]
theorem P5:SpF 20 Ke Kj RA:=SpI Tryz.func26 (by kernel_rfl)
theorem Qx:au Tryz.prog Ke = true:=by kernel_rfl
abbrev K9:FuncId:=27
def Nh:AC:=
(GE [oP 4 (.mv (.c (.bool false)))] [0,1]
(GE [mV 7 0,
ut 8 7,
mV 9 1,
ut 10 9,
ce 11 8 10,
mV 5 11] [0,1,5]
(.seq (GE [wt 6 0] [0,1,5,6]
(.block 0
(.loop [0,1,5,6]
(.seq (GE [mV 12 6,
mV 13 0,
ut 14 13,
bi 15 12 14,
mV 16 15,
ge 17 16 5,
oP 18 (.pick (.t 16) (.t 17) (.c (.bool false)))] [0,1,5,6,18]
(.cond (.t 18)
.skip
(.exit 0)))
(.seq (.block 1
(.dreg [mV 21 0,
mV 22 6,
ul 23 1 21 22,
ol 24 23,
mV 25 1,
mV 26 6,
ul 27 1 25 26,
ol 28 27,
ce 29 24 28,
mV 5 29] [0,1,5,6] [[],[],[0,1],[0,1,2],[],[],[4,5],[4,5,6],GT 8,GT 9]))
(.reg [mV 19 6,
pu 20 19 1,
mV 6 20] [0,1,5,6]))))))
(GE [mV 30 5,
mV 4 30] [4]
.ret))))
abbrev Qo:RsT:=[(4,none)]
theorem Qg:SpF 31 K9 Nh Qo:=SpI Tryz.func27 (by kernel_rfl)
theorem ET:au Tryz.prog K9 = true:=by kernel_rfl
abbrev Hx:FuncId:=28
def J4:AC:=
(GE [jp 1 5 0,
oP 2 (.nilS 1 1),
wt 3 0] [1,2]
(GE [kw 7 5 1,
mt 8 79 rg [.t 7],
mV 6 8,
ww 9 6 0,
ww 10 6 1,
oP 4 (.alloc FS),
qr 5 4 9,
mV 3 10] [2,3,4]
(.frz 4 true (.seq (GE [mV 11 3,
dg 12 11 0] [2,3,4,12]
(.cond (.t 12)
(GE [mV 13 3,
oP 2 (.mv (.c (.slice 1 []))),
mV 3 13] [2,3]
.ret)
.skip))
(.seq (GE [wn 14 5 0 4,
wd 15 3 14,
ol 16 15,
ut 17 16,
wt 18 0] [2,4,17,18]
(.block 0
(.loop [2,4,17,18]
(GE [bi 19 18 17] [2,4,17,18,19]
(.seq (.cond (.t 19)
.skip
(.exit 0))
(.seq (.block 1
(GE [mV 20 18,
mV 5 20] [2,4,5,17,18]
(.seq (.qreg [kw 21 5 4,
kw 22 5 4,
mV 23 5,
mt 24 83 sm [.t 22,.t 23],
mt 25 68 rc [.t 21,.t 24],
pl 26 25] [2,4,5,17,18,26] [[],[],[],[1,2],GT 4,GT 5] [([0,1,2],3),([],4)] [5])
(.cond (.t 26)
(.reg [mV 27 2,
mV 28 5,
oP 29 (.lit 0 1 1 [(0,.t 28)]),
oP 30 (.append 1 8 (.t 27) (.t 29)),
mV 2 30] [2,4,17,18])
.skip))))
(.reg [pu 31 18 1,
mV 18 31] [2,4,17,18])))))))
(GE [mV 32 2,
oP 2 (.mvd (.t 32)),
wt 3 0] [2,3]
.ret))))))
abbrev Ro:RsT:=[(2,none),(3,none)]
theorem Rp:SpF 33 Hx J4 Ro:=SpI Tryz.func28 (by kernel_rfl)
theorem Nx:au Tryz.prog Hx = true:=by kernel_rfl
abbrev Lg:FuncId:=29
def La:AC:=
(GE [jp 1 5 0,
oP 2 (.mv (.c (.slice 1 []))),
wt 3 0] [1]
(GE [kw 7 5 1,
mt 8 81 rg [.t 7],
mV 4 8] [1,4]
(GE [oP 5 (.nilS 1 1)] [1,4,5]
(.seq (GE [wt 6 0] [1,4,5,6]
(.block 0
(.loop [1,4,5,6]
(.seq (GE [mV 9 6,
wd 10 3 1,
ol 11 10,
ut 12 11,
bi 13 9 12,
mV 14 13,
ge 15 14 4,
io 16 14 15 0,
oP 17 (.pick (.t 14) (.t 16) (.c (.bool false)))] [1,4,5,6,17]
(.cond (.t 17)
.skip
(.exit 0)))
(.seq (.block 1
(.seq (.dreg [kw 20 5 1,
kw 21 5 1,
mV 22 6,
mt 23 48 sm [.t 21,.t 22],
mt 24 69 rc [.t 20,.t 23],
pl 25 24] [1,4,5,6,25] [[],[],[],[1,2],GT 4,GT 5])
(.cond (.t 25)
(.reg [mV 26 5,
mV 27 6,
oP 28 (.lit 0 1 1 [(0,.t 27)]),
oP 29 (.append 1 8 (.t 26) (.t 28)),
mV 5 29] [1,4,5,6])
.skip)))
(.reg [mV 18 6,
pu 19 18 1,
mV 6 19] [1,4,5,6]))))))
(GE [mV 30 5,
mV 31 4,
oP 2 (.mvd (.t 30)),
mV 3 31] [2,3]
.ret)))))
abbrev Rz:RsT:=[(2,none),(3,none)]
theorem PQ:SpF 32 Lg La Rz:=SpI Tryz.func29 (by kernel_rfl)
theorem Qu:au Tryz.prog Lg = true:=by kernel_rfl
abbrev Ht:FuncId:=30
def Ln:AC:=
(GE [jp 1 5 0,
oP 2 (.mv (.c (.slice 1 []))),
wt 3 0] [1]
(GE [kw 8 5 1,
mt 9 79 rg [.t 8],
mV 7 9,
ww 10 7 0,
ww 11 7 1,
oP 4 (.alloc FS),
qr 5 4 10,
mV 5 11] [4,5]
(.frz 4 true (.seq (GE [mV 12 5,
dg 13 12 0] [4,5,13]
(.cond (.t 13)
(GE [mV 14 5,
oP 2 (.mv (.c (.slice 1 []))),
mV 3 14] [2,3]
.ret)
.skip))
(GE [kw 15 5 4,
mt 16 85 rg [.t 15],
mt 17 84 rg [.t 16],
mV 6 17] [6]
(GE [mV 18 6,
mt 19 86 rg [.t 18]] [6]
(GE [mV 20 6,
mt 21 87 rg [.t 20],
oP 2 (.freeze 1 (.t 21)),
wt 3 0] [2,3]
.ret)))))))
abbrev Py:RsT:=[(2,none),(3,none)]
theorem QH:SpF 22 Ht Ln Py:=SpI Tryz.func30 (by kernel_rfl)
theorem Nn:au Tryz.prog Ht = true:=by kernel_rfl
abbrev Ko:FuncId:=31
def Lo:AC:=
(GE [jp 1 5 0,
oP 2 (.mv (.c (.slice 1 []))),
wt 3 0] [1]
(GE [kw 11 5 1,
mt 12 81 rg [.t 11],
mV 4 12] [1,4]
(.seq (GE [mV 13 4,
dg 14 13 0] [1,4,14]
(.cond (.t 14)
(GE [mV 15 4,
oP 2 (.mv (.c (.slice 1 []))),
mV 3 15] [2,3]
.ret)
.skip))
(GE [kw 17 5 1,
mt 18 82 rg [.t 17],
mV 16 18,
ww 19 16 0,
ww 20 16 1,
mV 5 19,
mV 6 20] [1,5]
(GE [oP 7 (.nilS 1 1)] [1,5,7]
(.seq (GE [wt 8 0] [1,5,7,8]
(.block 0
(.loop [1,5,7,8]
(.seq (GE [mV 21 8,
wd 22 3 1,
ol 23 22,
ut 24 23,
bi 25 21 24] [1,5,7,8,25]
(.cond (.t 25)
.skip
(.exit 0)))
(.seq (.block 1
(GE [oP 9 (.mv (.c (.bool false)))] [1,5,7,8,9]
(.seq (GE [wt 10 0] [1,5,7,8,9,10]
(.block 2
(.loop [1,5,7,8,9,10]
(.seq (GE [mV 28 10,
mV 29 5,
ut 30 29,
bi 31 28 30] [1,5,7,8,9,10,31]
(.cond (.t 31)
.skip
(.exit 2)))
(.seq (.block 3
(.reg [mV 34 9,
mV 35 34,
lc 36 35 5,
lc 37 35 10,
mp 38 35 1 36 37,
lm 39 35 38,
lc 40 35 8,
gF 41 35 (.call (.f 45) sm [.t 39,.t 40]),
oP 42 (.pick (.t 35) (.c (.bool true)) (.t 41)),
mV 9 42] [1,5,7,8,9,10]))
(.reg [mV 32 10,
pu 33 32 1,
mV 10 33] [1,5,7,8,9,10]))))))
(GE [mV 43 9] [1,5,7,8,43]
(.cond (.t 43)
(.reg [mV 44 7,
mV 45 8,
oP 46 (.lit 0 1 1 [(0,.t 45)]),
oP 47 (.append 1 8 (.t 44) (.t 46)),
mV 7 47] [1,5,7,8])
.skip)))))
(.reg [mV 26 8,
pu 27 26 1,
mV 8 27] [1,5,7,8]))))))
(GE [mV 48 7,
oP 2 (.mvd (.t 48)),
wt 3 0] [2,3]
.ret)))))))
abbrev Q6:RsT:=[(2,none),(3,none)]
theorem Qv:SpF 49 Ko Lo Q6:=SpI Tryz.func31 (by kernel_rfl)
theorem RW:au Tryz.prog Ko = true:=by kernel_rfl
abbrev zy:FuncId:=32
def NU:AC:=
(GE [jp 3 5 0,
jp 5 1 2,
oP 6 (.alloc Fd),
wt 7 0] [1,3,5,6]
(GE [kw 11 5 3,
mV 12 1,
oP 13 (.mkfunc (.func 89) [] [.t 5]),
mt 14 88 Do [.t 11,.t 12,.t 13],
mV 10 14,
ww 15 10 0,
ww 16 10 1,
mV 8 15,
mV 9 16] [5,6,8,9]
(.seq (GE [mV 17 9,
dg 18 17 0] [5,6,8,9,18]
(.cond (.t 18)
(GE [oP 19 (.build Fd []),
mV 20 9,
qr 2 6 19,
mV 7 20] [6,7]
.ret)
.skip))
(.seq (.qreg [mV 21 8,
mV 22 8,
pi 23 22,
wd 24 2 23,
ol 25 24,
ol 26 5,
ul 27 1 25 26,
ol 28 27,
mt 29 90 At [.t 21,.t 28],
qr 2 6 29,
wt 7 0] [6,7] [[],[],[1],[1,2],[1,2,3],[],[1,2,3,4,5],[1,2,3,4,5,6],GT 8,GT 9,GT 10] [([0,1,2,3,4,5,6,7],8),([],9)] [10])
.ret))))
abbrev P3:RsT:=[(6,some (some 2)),(7,none)]
theorem QU:SpF 30 zy NU P3:=SpI Tryz.func32 (by kernel_rfl)
theorem Eu:au Tryz.prog zy = true:=by kernel_rfl
abbrev H3:FuncId:=34
def LW:AC:=
(GE [jp 3 5 0,
jp 5 1 2,
oP 6 (.alloc Fd),
wt 7 0] [1,3,5,6]
(GE [kw 11 5 3,
mV 12 1,
oP 13 (.mkfunc (.func 94) [] [.t 5]),
mt 14 88 Do [.t 11,.t 12,.t 13],
mV 10 14,
ww 15 10 0,
ww 16 10 1,
mV 8 15,
mV 9 16] [6,8,9]
(.seq (GE [mV 17 9,
dg 18 17 0] [6,8,9,18]
(.cond (.t 18)
(GE [oP 19 (.build Fd []),
mV 20 9,
qr 2 6 19,
mV 7 20] [6,7]
.ret)
.skip))
(GE [mV 21 8,
mV 22 8,
pi 23 22,
wd 24 3 23,
ol 25 24,
mt 26 90 At [.t 21,.t 25],
qr 2 6 26,
wt 7 0] [6,7]
.ret))))
abbrev Q0:RsT:=[(6,some (some 2)),(7,none)]
theorem RX:SpF 27 H3 LW Q0:=SpI Tryz.func34 (by kernel_rfl)
theorem Rn:au Tryz.prog H3 = true:=by kernel_rfl
abbrev Iq:FuncId:=36
def KQ:AC:=
(GE [jp 1 5 0,
⟨some 2,none, .mv (.c (.str ⟨#[]⟩))⟩,
wt 3 0] [1]
(.seq (GE [kw 8 5 1,
mt 9 16 rg [.t 8],
mV 7 9,
ww 10 7 0,
ww 11 7 1,
ww 12 7 2,
mV 4 10,
mV 5 11,
mV 6 12] [1,6]
(GE [mV 13 6,
dg 14 13 0] [1,6,14]
(.cond (.t 14)
(GE [mV 15 6,
⟨some 2,none, .mv (.c (.str ⟨#[]⟩))⟩,
mV 3 15] [2,3]
.ret)
.skip)))
(GE [kw 16 5 1,
oP 17 (.build FS [(0,5,.t 16)]),
mt 18 96 rg [.t 17],
mV 2 18,
wt 3 0] [2,3]
.ret)))
abbrev PI:RsT:=[(2,none),(3,none)]
theorem Rb:SpF 19 Iq KQ PI:=SpI Tryz.func36 (by kernel_rfl)
theorem QQ:au Tryz.prog Iq = true:=by kernel_rfl
abbrev HD:FuncId:=38
def HS:AC:=
(GE [oP 2 (.alloc FS),
oP 3 (.alloc [.int .i64 0])] [0,2,3]
(.seq (GE [mV 12 0,
oP 13 (.lenStr (.t 12)),
gc 14 13 4000] [0,2,3,14]
(.cond (.t 14)
(GE [oP 15 (.loadd (some 5) (.t 2)),
qr 5 2 15,
oN (.store 1 (.t 3) (cI 3))] [2,3]
.ret)
.skip))
(.seq (.dfr 16 98 [.t 2,.t 3] [0,2,3])
(GE [oP 4 (.alloc [.slice 1 [], .slice 1 [], .mint 4, .mint 5, .mint 4])] [0,2,3,4]
(.seq (GE [mV 17 0,
mV 5 17] [0,2,3,4,5]
(.block 0
(.loop [0,2,3,4,5]
(.seq (GE [mV 18 5,
⟨some 19,none, .bin .neq (.t 18) (.c (.str ⟨#[]⟩))⟩] [0,2,3,4,5,19]
(.cond (.t 19)
.skip
(.exit 0)))
(.block 1
(GE [mV 21 5,
⟨some 22,none, .call (.f 99) At [.t 21,(.c (.str ⟨#[10]⟩))]⟩,
mV 20 22,
ww 23 20 0,
ww 24 20 1,
ww 25 20 2,
mV 6 23,
mV 7 24,
mV 8 25] [0,2,3,4,6,7,8]
(GE [mV 26 8,
mt 27 100 rt [.t 26]] [0,2,3,4,6,7]
(GE [mV 28 6,
⟨some 29,none, .call (.f 102) At [.t 28,(.c (.str ⟨#[32]⟩))]⟩,
mt 30 101 rc [.t 4,.t 29]] [0,2,3,4,7]
(.reg [mV 31 7,
mV 5 31] [0,2,3,4,5])))))))))
(GE [wn 33 5 0 4,
kw 34 5 33,
mt 35 16 rg [.t 34],
mV 32 35,
ww 36 32 0,
ww 37 32 1,
ww 38 32 2,
mV 9 36,
mV 10 37,
mV 11 38] [0,2,3,4,11]
(GE [mV 39 11,
ci 40 39 0,
mV 41 40,
gT 42 41 (.load (some 5) (.t 4)),
gT 43 41 (.call (.f 96) rg [.t 42]),
ge 44 41 0,
gT 45 41 (.bin .eql (.t 43) (.t 44)),
oP 46 (.pick (.t 41) (.t 45) (.c (.bool false))),
mt 47 100 rt [.t 46]] [2,3,4]
(GE [wn 48 5 0 4,
oP 49 (.loadd (some 5) (.t 48)),
qr 5 2 49,
oN (.store 1 (.t 3) (cI 0))] [2,3]
.ret))))))))
abbrev Na:RsT:=[(2,some (some 5)),(3,some none)]
theorem Qq:DW Tryz.prog Tryz.f38 50 HS Na = true:=by kernel_rfl
theorem R9 {args:List ag} {σ:af} {R:eE → af → Prop} (ha:args.length ≤ 50) (h:AW Tryz.prog 50 none HS (yU Tryz.prog Na R) { v:=eK args 0,ds:=[] } σ):Spec Tryz.prog HD args σ R:=Spec.K8 Tryz.func38 Qq ha h
theorem PV:au Tryz.prog HD = true:=by kernel_rfl
abbrev Kb:FuncId:=40
def OM:AC:=
(GE [jp 2 5 0,
jp 3 5 1,
oP 4 (.mv (.c (.bool false)))] [2,3]
(GE [wd 7 0 2,
ol 8 7,
wd 9 0 3,
ol 10 9,
mt 11 106 rc [.t 8,.t 10],
mV 12 11,
ii 13 12 1 2,
gt 14 12 13,
ii 15 12 1 3,
gt 16 12 15,
gT 17 12 (.call (.f 106) rc [.t 14,.t 16]),
oP 18 (.pick (.t 12) (.t 17) (.c (.bool false))),
mV 19 18,
ii 20 19 2 2,
gt 21 19 20,
ii 22 19 2 3,
gt 23 19 22,
gT 24 19 (.call (.f 107) rc [.t 21,.t 23]),
oP 25 (.pick (.t 19) (.t 24) (.c (.bool false))),
mV 26 25,
ii 27 26 4 2,
gt 28 26 27,
ii 29 26 4 3,
gt 30 26 29,
gT 31 26 (.call (.f 107) rc [.t 28,.t 30]),
oP 32 (.pick (.t 26) (.t 31) (.c (.bool false))),
mV 33 32,
ii 34 33 3 2,
gt 35 33 34,
gT 36 33 (.len (.t 35)),
ii 37 33 3 3,
gt 38 33 37,
gT 39 33 (.len (.t 38)),
gT 40 33 (.bin .eql (.t 36) (.t 39)),
oP 41 (.pick (.t 33) (.t 40) (.c (.bool false))),
mV 5 41] [2,3,5]
(.seq (GE [wt 6 0] [2,3,5,6]
(.block 0
(.loop [2,3,5,6]
(.seq (GE [mV 42 6,
wd 43 3 2,
ol 44 43,
ut 45 44,
bi 46 42 45,
mV 47 46,
ge 48 47 5,
oP 49 (.pick (.t 47) (.t 48) (.c (.bool false)))] [2,3,5,6,49]
(.cond (.t 49)
.skip
(.exit 0)))
(.seq (.block 1
(.dreg [wd 52 3 2,
ol 53 52,
mV 54 6,
ul 55 5 53 54,
kw 56 5 55,
wd 57 3 3,
ol 58 57,
mV 59 6,
ul 60 5 58 59,
kw 61 5 60,
oP 62 (.eqa false [.i, .i, .i, .i, .i] (.t 56) (.t 61)),
mV 5 62] [2,3,5,6] [[],[0],[],[0,1,2],GT 4,[],[5],[],[5,6,7],[5,6,7,8],GT 10,GT 11]))
(.reg [mV 50 6,
pu 51 50 1,
mV 6 51] [2,3,5,6]))))))
(GE [mV 63 5,
mV 4 63] [4]
.ret))))
abbrev Rm:RsT:=[(4,none)]
theorem Sj:SpF 64 Kb OM Rm:=SpI Tryz.func40 (by kernel_rfl)
theorem Sb:au Tryz.prog Kb = true:=by kernel_rfl
abbrev KE:FuncId:=41
def O1:AC:=
(GE [oP 2 (.alloc FS)] [0,2]
(GE [⟨some 4,none, .lit 0 1 2 [(0,(.c (.str ⟨#[111,105,108]⟩))),(1,(.c (.str ⟨#[112,97,105,110,116]⟩)))]⟩,
⟨some 5,none, .lit 0 1 2 [(0,(.c (.str ⟨#[121,97,114,100]⟩))),(1,(.c (.str ⟨#[112,105,116]⟩)))]⟩,
mt 6 42 At [cI 1000,cI 1000],
oP 7 (.build EQ [(2,2,.t 6)]),
oP 8 (.lit 0 4 1 [(0,.t 7)]),
oP 9 (.build Eq [(2,1,cI 1),(3,1,cI 600),(4,1,cI 1)]),
oP 10 (.build Eq [(2,1,cI 1),(3,1,cI 500)]),
oP 11 (.build Eq [(2,1,cI (-1)),(3,1,cI 300),(4,1,cI (-1))]),
oP 12 (.lit 0 5 3 [(0,.t 9),(1,.t 10),(2,.t 11)]),
mt 13 42 At [cI 100,cI 100],
oP 14 (.build EQ [(2,2,.t 13)]),
mt 15 42 At [cI 600,cI 600],
oP 16 (.build EQ [(1,1,cI 1),(2,2,.t 15)]),
oP 17 (.lit 0 4 2 [(0,.t 14),(1,.t 16)]),
oP 18 (.build FS [(0,1,.t 4),(1,1,.t 5),(2,1,.t 8),(3,1,.t 12),(4,1,.t 17)]),
oP 3 (.alloc FS),
qr 5 3 18] [0,2,3]
(.seq (GE [mV 19 0] [2,3,19]
(.cond (.t 19)
(.reg [mt 20 42 At [cI 100,cI 200],
oP 21 (.build EQ [(2,2,.t 20)]),
oP 22 (.lit 0 4 1 [(0,.t 21)]),
wd 23 4 3,
qr 1 23 22] [2,3])
.skip))
(GE [oP 24 (.loadd (some 5) (.t 3)),
qr 5 2 24] [2]
.ret))))
abbrev QN:RsT:=[(2,some (some 5))]
theorem RZ:SpF 25 KE O1 QN:=SpI Tryz.func41 (by kernel_rfl)
theorem Of:au Tryz.prog KE = true:=by kernel_rfl
abbrev Kk:FuncId:=42
def Ox:AC:=
(GE [oP 4 (.alloc Fd)] [0,1,4]
(GE [mV 5 0,
mV 6 1,
oP 7 (.build Fd [(0,1,.t 5),(1,1,.t 6)]),
qr 2 4 7] [4]
.ret))
abbrev PT:RsT:=[(4,some (some 2))]
theorem PW:SpF 8 Kk Ox PT:=SpI Tryz.func42 (by kernel_rfl)
theorem EE:au Tryz.prog Kk = true:=by kernel_rfl
abbrev Ka:FuncId:=45
def MF:AC:=
(GE [oP 4 (.mv (.c (.bool false)))] [0,1]
(.seq (GE [wt 5 0] [0,1,5]
(.block 0
(.loop [0,1,5]
(.seq (GE [mV 6 5,
mV 7 0,
ut 8 7,
bi 9 6 8] [0,1,5,9]
(.cond (.t 9)
.skip
(.exit 0)))
(.seq (.block 1
(GE [mV 12 0,
mV 13 5,
ul 14 1 12 13,
ol 15 14,
mV 16 1,
ce 17 15 16] [0,1,5,17]
(.cond (.t 17)
(GE [oP 4 (.mv (.c (.bool true)))] [4]
.ret)
.skip)))
(.reg [mV 10 5,
pu 11 10 1,
mV 5 11] [0,1,5]))))))
(GE [oP 4 (.mv (.c (.bool false)))] [4]
.ret)))
abbrev Q5:RsT:=[(4,none)]
theorem P1:SpF 18 Ka MF Q5:=SpI Tryz.func45 (by kernel_rfl)
theorem tI:au Tryz.prog Ka = true:=by kernel_rfl
abbrev Ky:FuncId:=46
def KG:AC:=
(GE [jp 2 5 0,
oP 4 (.mv (.c (.bool false)))] [1,2]
(GE [wd 5 3 2,
ol 6 5,
mV 7 1,
ul 8 5 6 7,
wd 9 4 8,
ol 10 9,
ci 11 10 (-1),
mV 12 11,
lw 13 12 3 2,
lm 14 12 13,
lc 15 12 1,
mp 16 12 5 14 15,
lw 17 12 4 16,
lm 18 12 17,
lc 19 12 1,
gF 20 12 (.bin .gtr (.t 18) (.t 19)),
oP 21 (.pick (.t 12) (.c (.bool true)) (.t 20)),
mV 4 21] [4]
.ret))
abbrev RQ:RsT:=[(4,none)]
theorem RC:SpF 22 Ky KG RQ:=SpI Tryz.func46 (by kernel_rfl)
theorem LH:au Tryz.prog Ky = true:=by kernel_rfl
abbrev Kf:FuncId:=48
def O8:AC:=
(GE [jp 2 5 0,
oP 4 (.mv (.c (.slice 1 [])))] [1,2]
(GE [oP 5 (.nilS 1 1)] [1,2,5]
(.seq (GE [wt 6 0] [1,2,5,6]
(.block 0
(.loop [1,2,5,6]
(.seq (GE [mV 7 6,
wd 8 3 2,
ol 9 8,
ut 10 9,
bi 11 7 10] [1,2,5,6,11]
(.cond (.t 11)
.skip
(.exit 0)))
(.seq (.block 1
(GE [mV 14 6,
mV 15 1,
co 16 14 15] [1,2,5,6,16]
(.cond (.t 16)
(.reg [mV 17 5,
mV 18 6,
oP 19 (.lit 0 1 1 [(0,.t 18)]),
oP 20 (.append 1 8 (.t 17) (.t 19)),
mV 5 20] [1,2,5,6])
.skip)))
(.reg [mV 12 6,
pu 13 12 1,
mV 6 13] [1,2,5,6]))))))
(GE [mV 21 5,
oP 4 (.mvd (.t 21))] [4]
.ret))))
abbrev Pj:RsT:=[(4,none)]
theorem Qy:SpF 22 Kf O8 Pj:=SpI Tryz.func48 (by kernel_rfl)
theorem OW:au Tryz.prog Kf = true:=by kernel_rfl
abbrev J7:FuncId:=49
def H8:AC:=
(GE [oP 6 (.mv (.c (.slice 1 [])))] [0,1,2]
(.seq (GE [mV 10 1,
ci 11 10 0] [0,1,2,11]
(.cond (.t 11)
(GE [mV 12 0,
oP 13 (.lit 0 1 1 [(0,.t 12)]),
oP 6 (.mvd (.t 13))] [6]
.ret)
.skip))
(GE [wt 7 0] [0,1,2,7]
(.seq (GE [mV 14 0,
ut 15 14,
gc 16 15 0] [0,1,2,7,16]
(.cond (.t 16)
(.reg [mV 17 0,
mV 18 0,
ut 19 18,
ap 20 19 1,
ul 21 1 17 20,
ol 22 21,
pu 23 22 1,
mV 7 23] [0,1,2,7])
.skip))
(GE [oP 8 (.nilS 1 1)] [0,1,2,7,8]
(.seq (GE [mV 24 7,
mV 9 24] [0,1,2,8,9]
(.block 0
(.loop [0,1,2,8,9]
(.seq (GE [mV 25 9,
mV 26 2,
bi 27 25 26] [0,1,2,8,9,27]
(.cond (.t 27)
.skip
(.exit 0)))
(.seq (.block 1
(.reg [mV 30 8,
oP 31 (.lit 1 1 0 []),
mV 32 0,
oP 33 (.append 1 8 (.t 31) (.t 32)),
mV 34 9,
oP 35 (.lit 0 1 1 [(0,.t 34)]),
oP 36 (.append 1 8 (.t 33) (.t 35)),
mV 37 1,
ap 38 37 1,
mV 39 2,
mt 40 49 [true,false,false] [.t 36,.t 38,.t 39],
oP 41 (.append 1 24 (.t 30) (.t 40)),
mV 8 41] [0,1,2,8,9]))
(.reg [mV 28 9,
pu 29 28 1,
mV 9 29] [0,1,2,8,9]))))))
(GE [mV 42 8,
oP 6 (.mvd (.t 42))] [6]
.ret)))))))
abbrev PF:RsT:=[(6,none)]
theorem OT:SpF 43 J7 H8 PF:=SpI Tryz.func49 (by kernel_rfl)
theorem Lq:au Tryz.prog J7 = true:=by kernel_rfl
abbrev J2:FuncId:=50
def NM:AC:=
(GE [jp 2 5 0,
wt 4 0] [1,2]
(GE [kw 10 5 2,
mt 11 17 rg [.t 10],
mV 9 11,
ww 12 9 0,
ww 13 9 1,
ww 14 9 2,
mV 5 12,
mV 6 13,
mV 7 14] [1,2,7]
(.seq (GE [wt 8 0] [1,2,7,8]
(.block 0
(.loop [1,2,7,8]
(.seq (GE [mV 15 8,
mV 16 1,
ut 17 16,
bi 18 15 17,
mV 19 18,
ge 20 19 7,
io 21 19 20 0,
oP 22 (.pick (.t 19) (.t 21) (.c (.bool false)))] [1,2,7,8,22]
(.cond (.t 22)
.skip
(.exit 0)))
(.seq (.block 1
(.seq (.dreg [mV 25 1,
mV 26 8,
ul 27 1 25 26,
ol 28 27,
wd 29 3 2,
ol 30 29,
ut 31 30,
ap 32 31 1,
mt 33 63 [false,false,false] [.t 28,cI 0,.t 32],
pl 34 33] [1,2,7,8,34] [[],[],[0,1],[0,1,2],[],[4],[4,5],[4,5,6],GT 8,GT 9])
(.cond (.t 34)
(.reg [wt 7 4] [1,2,7,8])
(.seq (.dreg [mV 35 8,
gc 36 35 0,
mV 37 36,
ge 38 37 1,
ge 39 37 8,
ip 40 37 1 38 39,
gt 41 37 40,
ge 42 37 1,
ge 43 37 8,
gT 44 37 (.bin .sub (.t 43) (cI 1)),
ip 45 37 1 42 44,
gt 46 37 45,
gT 47 37 (.bin .leq (.t 41) (.t 46)),
oP 48 (.pick (.t 37) (.t 47) (.c (.bool false)))] [1,2,7,8,48] [[],[0],[0,1],[0,1,2],[0,1,2],GT 5,GT 6,[0,1,2],[0,1,2],[0,1,2,8],[0,1,2,7,8,9],[0,1,2,7,8,9,10],GT 12,GT 13])
(.cond (.t 48)
(.reg [wt 7 2] [1,2,7,8])
.skip)))))
(.reg [mV 23 8,
pu 24 23 1,
mV 8 24] [1,2,7,8]))))))
(GE [mV 49 7,
mV 4 49] [4]
.ret))))
abbrev Pg:RsT:=[(4,none)]
theorem Qk:SpF 50 J2 NM Pg:=SpI Tryz.func50 (by kernel_rfl)
theorem mB:au Tryz.prog J2 = true:=by kernel_rfl
abbrev K2:FuncId:=52
def Oc:AC:=
(GE [oP 2 (.mv (.c (.bool false)))] [0]
(.seq (GE [mV 6 0,
oP 7 (.lenStr (.t 6)),
mt 8 109 [false,false,false] [.t 7,cI 1,cI 16],
pl 9 8,
mV 10 9,
lc 11 10 0,
gF 12 10 (.ixStr (.t 11) (cI 0)),
gF 13 10 (.bin .lss (.t 12) (.c (.int .u8 97))),
oP 14 (.pick (.t 10) (.c (.bool true)) (.t 13)),
mV 15 14,
lc 16 15 0,
gF 17 15 (.ixStr (.t 16) (cI 0)),
gF 18 15 (.bin .gtr (.t 17) (.c (.int .u8 122))),
oP 19 (.pick (.t 15) (.c (.bool true)) (.t 18))] [0,19]
(.cond (.t 19)
(GE [oP 2 (.mv (.c (.bool false)))] [2]
.ret)
.skip))
(.seq (GE [wt 3 1] [0,3]
(.block 0
(.loop [0,3]
(.seq (GE [mV 20 3,
mV 21 0,
oP 22 (.lenStr (.t 21)),
bi 23 20 22] [0,3,23]
(.cond (.t 23)
.skip
(.exit 0)))
(.seq (.block 1
(.seq (.dreg [mV 26 0,
mV 27 3,
oP 28 (.ixStr (.t 26) (.t 27)),
oP 29 (.bin .geq (.t 28) (.c (.int .u8 97))),
mV 30 29,
ge 31 30 0,
ge 32 30 3,
gT 33 30 (.ixStr (.t 31) (.t 32)),
gT 34 30 (.bin .leq (.t 33) (.c (.int .u8 122))),
oP 35 (.pick (.t 30) (.t 34) (.c (.bool false))),
mV 36 0,
mV 37 3,
oP 38 (.ixStr (.t 36) (.t 37)),
oP 39 (.bin .geq (.t 38) (.c (.int .u8 48))),
mV 40 39,
ge 41 40 0,
ge 42 40 3,
gT 43 40 (.ixStr (.t 41) (.t 42)),
gT 44 40 (.bin .leq (.t 43) (.c (.int .u8 57))),
oP 45 (.pick (.t 40) (.t 44) (.c (.bool false))),
mV 4 35,
mV 5 45] [0,3,4,5] [[],[],[0,1],[0,1,2],GT 4,GT 5,GT 5,GT 7,GT 8,GT 9,[],[],[10,11],[10,11,12],[0,1,2,3,4,10,11,12,13],[0,1,2,3,4,10,11,12,13,14],[0,1,2,3,4,10,11,12,13,14],[0,1,2,3,4,10,11,12,13,14,15,16],[0,1,2,3,4,10,11,12,13,14,15,16,17],[0,1,2,3,4,10,11,12,13,14,15,16,17,18],GT 15,GT 21])
(GE [mV 46 4,
pl 47 46,
mV 48 47,
ge 49 48 5,
gT 50 48 (.un .not (.t 49)),
oP 51 (.pick (.t 48) (.t 50) (.c (.bool false)))] [0,3,51]
(.cond (.t 51)
(GE [oP 2 (.mv (.c (.bool false)))] [2]
.ret)
.skip))))
(.reg [mV 24 3,
pu 25 24 1,
mV 3 25] [0,3]))))))
(GE [oP 2 (.mv (.c (.bool true)))] [2]
.ret))))
abbrev Pq:RsT:=[(2,none)]
theorem Rg:SpF 52 K2 Oc Pq:=SpI Tryz.func52 (by kernel_rfl)
theorem Qr:au Tryz.prog K2 = true:=by kernel_rfl
abbrev E7:FuncId:=53
def Ou:AC:=
(GE [jp 3 1 0,
jp 4 1 1,
oP 6 (.mv (.c (.bool false)))] [2,3,4]
(GE [mV 7 2,
oP 8 (.mkfunc (.func 111) [] [.t 3,.t 4]),
mt 9 110 sm [.t 7,.t 8],
mV 6 9] [6]
.ret))
abbrev Sk:RsT:=[(6,none)]
theorem Pw:SpF 10 E7 Ou Sk:=SpI Tryz.func53 (by kernel_rfl)
theorem bU:au Tryz.prog E7 = true:=by kernel_rfl
abbrev HW:FuncId:=54
def NA:AC:=
(GE [wt 1 0,
wt 2 0] [0]
(GE [wn 3 5 0 0,
wd 4 0 3,
ol 5 4,
mt 6 55 rg [.t 5],
ww 7 6 0,
ww 8 6 1,
mV 1 7,
mV 2 8] [1,2]
.ret))
abbrev RG:RsT:=[(1,none),(2,none)]
theorem PO:SpF 9 HW NA RG:=SpI Tryz.func54 (by kernel_rfl)
theorem Ow:au Tryz.prog HW = true:=by kernel_rfl
abbrev J9:FuncId:=55
def NT:AC:=
(GE [jp 1 1 0,
wt 2 0,
wt 3 0] [1]
(GE [ol 4 1,
oP 5 (.mkfunc (.func 113) [] [.t 1]),
mt 6 112 sm [.t 4,.t 5],
ww 7 6 0,
ww 8 6 1,
mV 2 7,
mV 3 8] [2,3]
.ret))
abbrev QS:RsT:=[(2,none),(3,none)]
theorem PH:SpF 9 J9 NT QS:=SpI Tryz.func55 (by kernel_rfl)
theorem Ol:au Tryz.prog J9 = true:=by kernel_rfl
abbrev HP:FuncId:=56
def Mv:AC:=
(GE [wt 1 0,
wt 2 0] [0]
(GE [wn 3 5 0 0,
wd 4 1 3,
ol 5 4,
mt 6 55 rg [.t 5],
ww 7 6 0,
ww 8 6 1,
mV 1 7,
mV 2 8] [1,2]
.ret))
abbrev Q9:RsT:=[(1,none),(2,none)]
theorem Sc:SpF 9 HP Mv Q9:=SpI Tryz.func56 (by kernel_rfl)
theorem LV:au Tryz.prog HP = true:=by kernel_rfl
abbrev Ip:FuncId:=57
def LR:AC:=
(GE [wt 1 0,
wt 2 0] [0]
(GE [kw 3 5 0,
wn 4 5 0 0,
wd 5 2 4,
ol 6 5,
mt 7 58 rc [.t 3,.t 6],
ww 8 7 0,
ww 9 7 1,
mV 1 8,
mV 2 9] [1,2]
.ret))
abbrev Ra:RsT:=[(1,none),(2,none)]
theorem Rq:SpF 10 Ip LR Ra:=SpI Tryz.func57 (by kernel_rfl)
theorem OI:au Tryz.prog Ip = true:=by kernel_rfl
abbrev K7:FuncId:=58
def LM:AC:=
(GE [jp 2 5 0,
wt 4 0,
wt 5 0] [1,2]
(GE [oP 7 (.mnew),
oP 6 (.alloc [.nilmap]),
qr 1 6 7] [1,2,6]
(.frz 6 false (GE [mV 8 1,
oP 9 (.mkfunc (.func 117) [] [.t 6,.t 2]),
mt 10 116 sm [.t 8,.t 9],
ww 11 10 0,
ww 12 10 1,
mV 4 11,
mV 5 12] [4,5]
.ret))))
abbrev PA:RsT:=[(4,none),(5,none)]
theorem Pv:SpF 13 K7 LM PA:=SpI Tryz.func58 (by kernel_rfl)
theorem Pb:au Tryz.prog K7 = true:=by kernel_rfl
abbrev HU:FuncId:=59
def M5:AC:=
(GE [wt 1 0,
wt 2 0] [0]
(GE [wn 3 5 0 0,
wd 4 3 3,
ol 5 4,
kw 6 5 0,
oP 7 (.mkfunc (.func 61) [.t 6] []),
mt 8 60 sm [.t 5,.t 7],
ww 9 8 0,
ww 10 8 1,
mV 1 9,
mV 2 10] [1,2]
.ret))
abbrev Sf:RsT:=[(1,none),(2,none)]
theorem PU:SpF 11 HU M5 Sf:=SpI Tryz.func59 (by kernel_rfl)
theorem N8:au Tryz.prog HU = true:=by kernel_rfl
abbrev Il:FuncId:=60
def LC:AC:=
(GE [wt 4 0,
wt 5 0] [0,1]
(.seq (GE [mV 8 0,
ut 9 8,
wt 10 0] [1,8,9,10]
(.block 0
(.loop [1,8,9,10]
(GE [bi 11 10 9] [1,8,9,10,11]
(.seq (.cond (.t 11)
.skip
(.exit 0))
(.seq (.block 1
(GE [mV 12 10,
ul 13 5 8 10,
kw 14 5 13,
oP 7 (.alloc Eq),
mV 6 12,
qr 5 7 14] [1,6,7,8,9,10]
(.frz 7 true (GE [mV 15 1,
mV 16 6,
kw 17 5 7,
oP 18 (.call (.t 15) At [.t 16,.t 17]),
mV 5 18] [1,5,6,8,9,10]
(GE [mV 19 5,
dg 20 19 0] [1,5,6,8,9,10,20]
(.cond (.t 20)
(GE [mV 21 6,
mV 22 5,
mV 4 21,
mV 5 22] [4,5]
.ret)
.skip))))))
(.reg [pu 23 10 1,
mV 10 23] [1,8,9,10])))))))
(GE [wt 4 0,
wt 5 0] [4,5]
.ret)))
abbrev Rx:RsT:=[(4,none),(5,none)]
theorem Q1:SpF 24 Il LC Rx:=SpI Tryz.func60 (by kernel_rfl)
theorem Ql:au Tryz.prog Il = true:=by kernel_rfl
abbrev Im:FuncId:=61
def wA:AC:=
(GE [jp 3 5 0,
oP 5 (.box 5 (.t 2)),
wt 6 0] [1,3,5]
(.seq (.block 0
(GE [wn 9 5 0 3,
wd 10 0 9,
ol 11 10,
ut 12 11,
ap 13 12 1,
wd 14 0 5,
ol 15 14,
oP 16 (.lit 0 1 1 [(0,.t 15)]),
mt 17 53 [false,false,true] [cI 0,.t 13,.t 16],
mV 18 17,
gF 19 18 (.fieldAddr (some 5) 0 (.t 3)),
lw 20 18 1 19,
lm 21 18 20,
md 22 18 21,
gF 23 18 (.bin .sub (.t 22) (cI 1)),
lw 24 18 1 5,
lm 25 18 24,
lw 26 18 2 5,
lm 27 18 26,
gF 28 18 (.lit 0 1 2 [(0,.t 25),(1,.t 27)]),
gF 29 18 (.call (.f 53) [false,false,true] [cI (-1),.t 23,.t 28]),
oP 30 (.pick (.t 18) (.c (.bool true)) (.t 29)),
mV 8 30] [1,3,5,8]
(.cond (.t 8)
(GE [wt 6 4] [6]
.ret)
(GE [wd 32 1 5,
ol 33 32,
wd 34 2 5,
ol 35 34,
ce 36 33 35,
mV 31 36] [1,3,5,31]
(.cond (.t 31)
(GE [wt 6 2] [6]
.ret)
(GE [wd 38 3 5,
ol 39 38,
oP 40 (.lit 0 1 1 [(0,.t 39)]),
mt 41 53 [false,false,true] [cI 0,cI 1000000,.t 40],
mV 37 41] [1,3,5,37]
(.cond (.t 37)
(GE [wt 6 7] [6]
.ret)
(GE [wd 43 4 5,
ol 44 43,
ci 45 44 (-1),
mV 42 45] [1,3,5,42]
(.cond (.t 42)
(GE [wt 6 0] [6]
.ret)
(GE [wn 47 5 0 3,
wd 48 3 47,
ol 49 48,
ut 50 49,
ap 51 50 1,
wd 52 4 5,
ol 53 52,
oP 54 (.lit 0 1 1 [(0,.t 53)]),
mt 55 53 [false,false,true] [cI 0,.t 51,.t 54],
mV 56 55,
lw 57 56 4 5,
lm 58 56 57,
lc 59 56 1,
gF 60 56 (.bin .eql (.t 58) (.t 59)),
oP 61 (.pick (.t 56) (.c (.bool true)) (.t 60)),
mV 46 61] [1,3,5,46]
(.cond (.t 46)
(GE [wt 6 9] [6]
.ret)
.skip)))))))))))
(GE [wn 62 5 0 3,
wd 63 3 62,
ol 64 63,
wd 65 4 5,
ol 66 65,
ul 67 5 64 66,
kw 68 5 67,
oP 7 (.alloc Eq),
qr 5 7 68] [1,5,7]
(GE [wd 69 3 5,
ol 70 69,
wd 71 3 7,
qr 1 71 70] [1,5,7]
(GE [mV 72 1,
wd 73 4 5,
qr 1 73 72] [5,7]
(.seq (GE [kw 74 5 7,
kw 75 5 5,
oP 76 (.eqa true [.i, .i, .i, .i, .i] (.t 74) (.t 75))] [76]
(.cond (.t 76)
(GE [wt 6 9] [6]
.ret)
.skip))
(GE [wt 6 0] [6]
.ret)))))))
abbrev RY:RsT:=[(6,none)]
theorem PC:SpF 77 Im wA RY:=SpI Tryz.func61 (by kernel_rfl)
theorem P6:au Tryz.prog Im = true:=by kernel_rfl
abbrev H2:FuncId:=62
def Pd:AC:=
(GE [wt 1 0,
wt 2 0] [0]
(GE [kw 3 5 0,
wn 4 5 0 0,
wd 5 4 4,
ol 6 5,
mt 7 58 rc [.t 3,.t 6],
ww 8 7 0,
ww 9 7 1,
mV 1 8,
mV 2 9] [1,2]
.ret))
abbrev Ru:RsT:=[(1,none),(2,none)]
theorem Sa:SpF 10 H2 Pd Ru:=SpI Tryz.func62 (by kernel_rfl)
theorem Og:au Tryz.prog H2 = true:=by kernel_rfl
abbrev Kg:FuncId:=63
def Mi:AC:=
(GE [oP 6 (.mv (.c (.bool false)))] [0,1,2]
(GE [mV 7 0,
mV 8 1,
oP 9 (.bin .geq (.t 7) (.t 8)),
mV 10 9,
ge 11 10 0,
ge 12 10 2,
gT 13 10 (.bin .leq (.t 11) (.t 12)),
oP 14 (.pick (.t 10) (.t 13) (.c (.bool false))),
mV 6 14] [6]
.ret))
abbrev QO:RsT:=[(6,none)]
theorem PG:SpF 15 Kg Mi QO:=SpI Tryz.func63 (by kernel_rfl)
theorem bY:au Tryz.prog Kg = true:=by kernel_rfl
abbrev Lt:FuncId:=64
def Mb:AC:=
(GE [wt 2 0,
wt 3 0] [0]
(.seq (GE [wt 4 0] [0,4]
(.block 0
(.loop [0,4]
(.seq (GE [mV 6 4,
mV 7 0,
ut 8 7,
bi 9 6 8] [0,4,9]
(.cond (.t 9)
.skip
(.exit 0)))
(.seq (.block 1
(.seq (.dreg [mV 12 0,
mV 13 4,
ul 14 1 12 13,
ol 15 14,
mV 16 0,
mV 17 4,
oP 18 (.subq 1 (.t 16) none (some (.t 17))),
mt 19 118 [false,true] [.t 15,.t 18],
mV 5 19] [0,4,5] [[],[],[0,1],[0,1,2],[],[],[4,5],GT 7,GT 8])
(GE [mV 20 5,
dg 21 20 0] [0,4,5,21]
(.cond (.t 21)
(GE [mV 22 4,
mV 23 5,
mV 2 22,
mV 3 23] [2,3]
.ret)
.skip))))
(.reg [mV 10 4,
pu 11 10 1,
mV 4 11] [0,4]))))))
(GE [wt 2 0,
wt 3 0] [2,3]
.ret)))
abbrev R8:RsT:=[(2,none),(3,none)]
theorem PK:SpF 24 Lt Mb R8:=SpI Tryz.func64 (by kernel_rfl)
theorem CN:au Tryz.prog Lt = true:=by kernel_rfl
abbrev J6:FuncId:=65
def M4:AC:=
(GE [jp 2 5 0,
wt 4 0,
wt 5 0] [1,2]
(.seq (GE [wt 6 0] [1,2,6]
(.block 0
(.loop [1,2,6]
(.seq (GE [mV 10 6,
mV 11 1,
ut 12 11,
bi 13 10 12] [1,2,6,13]
(.cond (.t 13)
.skip
(.exit 0)))
(.seq (.block 1
(GE [mV 16 1,
mV 17 6,
ul 18 4 16 17,
kw 19 4 18,
oP 7 (.alloc EQ),
qr 4 7 19] [1,2,6,7]
(.frz 7 true (.seq (GE [wd 20 0 7,
ol 21 20,
wd 22 0 2,
ol 23 22,
ut 24 23,
ap 25 24 1,
mt 26 63 [false,false,false] [.t 21,cI 0,.t 25],
pl 27 26,
mV 28 27,
lw 29 28 1 7,
lm 30 28 29,
lw 31 28 1 2,
lm 32 28 31,
md 33 28 32,
gF 34 28 (.bin .sub (.t 33) (cI 1)),
gF 35 28 (.call (.f 63) [false,false,false] [.t 30,cI 0,.t 34]),
gF 36 28 (.un .not (.t 35)),
oP 37 (.pick (.t 28) (.c (.bool true)) (.t 36))] [1,2,6,7,37]
(.cond (.t 37)
(GE [mV 38 6,
mV 4 38,
wt 5 4] [4,5]
.ret)
.skip))
(.seq (GE [wt 8 0] [1,2,6,7,8]
(.block 2
(.loop [1,2,6,7,8]
(.seq (GE [mV 39 8,
mV 40 6,
bi 41 39 40] [1,2,6,7,8,41]
(.cond (.t 41)
.skip
(.exit 2)))
(.seq (.block 3
(.seq (.dreg [mV 44 1,
mV 45 8,
ul 46 4 44 45,
wd 47 0 46,
ol 48 47,
wd 49 0 7,
ol 50 49,
ce 51 48 50,
mV 52 51,
ge 53 52 1,
ge 54 52 8,
ip 55 52 4 53 54,
ii 56 52 1 55,
gt 57 52 56,
ii 58 52 1 7,
gt 59 52 58,
gT 60 52 (.bin .eql (.t 57) (.t 59)),
oP 61 (.pick (.t 52) (.t 60) (.c (.bool false)))] [1,2,6,7,8,61] [[],[],[0,1],[0,1,2],GT 4,[],[5],GT 7,GT 8,GT 9,GT 9,GT 11,GT 12,GT 13,GT 9,[0,1,2,3,4,5,6,7,8,14],GT 16,GT 17])
(.cond (.t 61)
(GE [mV 62 6,
mV 4 62,
wt 5 5] [4,5]
.ret)
.skip)))
(.reg [mV 42 8,
pu 43 42 1,
mV 8 43] [1,2,6,7,8]))))))
(GE [wn 63 2 2 7,
kw 64 2 63,
mt 65 119 [false,false,false] [.t 64,cI 0,cI 1000000],
mV 9 65] [1,2,6,9]
(GE [mV 66 9,
dg 67 66 0] [1,2,6,9,67]
(.cond (.t 67)
(GE [mV 68 6,
mV 69 9,
mV 4 68,
mV 5 69] [4,5]
.ret)
.skip))))))))
(.reg [mV 14 6,
pu 15 14 1,
mV 6 15] [1,2,6]))))))
(GE [wt 4 0,
wt 5 0] [4,5]
.ret)))
abbrev Qe:RsT:=[(4,none),(5,none)]
theorem Re:SpF 70 J6 M4 Qe:=SpI Tryz.func65 (by kernel_rfl)
theorem KR:au Tryz.prog J6 = true:=by kernel_rfl
abbrev Lb:FuncId:=66
def wO:AC:=
(GE [jp 2 5 0,
wt 4 0] [1,2]
(GE [wd 7 3 2,
ol 8 7,
mV 9 1,
ul 10 5 8 9,
kw 11 5 10,
oP 5 (.alloc Eq),
qr 5 5 11] [1,2,5]
(.frz 5 true (.seq (GE [wd 12 0 5,
ol 13 12,
wd 14 0 2,
ol 15 14,
ut 16 15,
ap 17 16 1,
mt 18 63 [false,false,false] [.t 13,cI 0,.t 17],
pl 19 18,
mV 20 19,
lw 21 20 1 5,
lm 22 20 21,
lw 23 20 1 2,
lm 24 20 23,
md 25 20 24,
gF 26 20 (.bin .sub (.t 25) (cI 1)),
gF 27 20 (.call (.f 63) [false,false,false] [.t 22,cI (-1),.t 26]),
gF 28 20 (.un .not (.t 27)),
oP 29 (.pick (.t 20) (.c (.bool true)) (.t 28)),
mV 30 29,
lw 31 30 2 5,
lm 32 30 31,
lw 33 30 1 2,
lm 34 30 33,
md 35 30 34,
gF 36 30 (.bin .sub (.t 35) (cI 1)),
gF 37 30 (.call (.f 63) [false,false,false] [.t 32,cI (-1),.t 36]),
gF 38 30 (.un .not (.t 37)),
oP 39 (.pick (.t 30) (.c (.bool true)) (.t 38))] [1,2,5,39]
(.cond (.t 39)
(GE [wt 4 4] [4]
.ret)
.skip))
(.seq (GE [wd 40 1 5,
ol 41 40,
wd 42 2 5,
ol 43 42,
ce 44 41 43] [1,2,5,44]
(.cond (.t 44)
(GE [wt 4 2] [4]
.ret)
.skip))
(.seq (GE [wd 45 3 5,
ol 46 45,
mt 47 63 [false,false,false] [.t 46,cI 0,cI 1000000],
pl 48 47] [1,2,5,48]
(.cond (.t 48)
(GE [wt 4 7] [4]
.ret)
.skip))
(.seq (GE [wd 49 4 5,
ol 50 49,
ci 51 50 (-1)] [1,2,5,51]
(.cond (.t 51)
(GE [wt 4 0] [4]
.ret)
.skip))
(.seq (GE [wd 52 4 5,
ol 53 52,
wd 54 3 2,
ol 55 54,
ut 56 55,
ap 57 56 1,
mt 58 63 [false,false,false] [.t 53,cI 0,.t 57],
pl 59 58,
mV 60 59,
lw 61 60 4 5,
lm 62 60 61,
lc 63 60 1,
gF 64 60 (.bin .eql (.t 62) (.t 63)),
oP 65 (.pick (.t 60) (.c (.bool true)) (.t 64))] [1,2,5,65]
(.cond (.t 65)
(GE [wt 4 9] [4]
.ret)
.skip))
(GE [wd 66 3 2,
ol 67 66,
wd 68 4 5,
ol 69 68,
ul 70 5 67 69,
kw 71 5 70,
oP 6 (.alloc Eq),
qr 5 6 71] [1,5,6]
(.frz 6 true (.seq (GE [wd 72 4 6,
ol 73 72,
mV 74 1,
co 75 73 74,
mV 76 75,
lw 77 76 0 6,
lm 78 76 77,
lw 79 76 0 5,
lm 80 76 79,
gF 81 76 (.bin .neq (.t 78) (.t 80)),
oP 82 (.pick (.t 76) (.c (.bool true)) (.t 81)),
mV 83 82,
lw 84 83 1 6,
lm 85 83 84,
lw 86 83 1 5,
lm 87 83 86,
gF 88 83 (.bin .neq (.t 85) (.t 87)),
oP 89 (.pick (.t 83) (.c (.bool true)) (.t 88)),
mV 90 89,
lw 91 90 2 6,
lm 92 90 91,
lw 93 90 2 5,
lm 94 90 93,
gF 95 90 (.bin .neq (.t 92) (.t 94)),
oP 96 (.pick (.t 90) (.c (.bool true)) (.t 95))] [96]
(.cond (.t 96)
(GE [wt 4 9] [4]
.ret)
.skip))
(GE [wt 4 0] [4]
.ret))))))))))))
abbrev QP:RsT:=[(4,none)]
theorem P2:SpF 97 Lb wO QP:=SpI Tryz.func66 (by kernel_rfl)
theorem NY:au Tryz.prog Lb = true:=by kernel_rfl
abbrev Le:FuncId:=67
def KM:AC:=
(GE [jp 2 5 0,
jp 3 1 1,
oP 4 (.alloc FS),
wt 5 0] [2,3,4]
(GE [kw 6 5 2,
oP 7 (.build FS [(0,5,.t 6)]),
qr 5 4 7] [2,3,4]
(.seq (GE [kw 9 5 2,
mt 10 16 rg [.t 9],
mV 8 10,
ww 11 8 0,
ww 12 8 1,
ww 13 8 2,
mV 5 13] [3,4,5]
(GE [mV 14 5,
dg 15 14 0] [3,4,5,15]
(.cond (.t 15)
(GE [oP 16 (.loadd (some 5) (.t 4)),
mV 17 5,
qr 5 4 16,
mV 5 17] [4,5]
.ret)
.skip)))
(GE [ol 19 3,
oP 20 (.mkfunc (.func 121) [] [.t 4,.t 3]),
mt 21 120 sm [.t 19,.t 20],
mV 18 21,
ww 22 18 0,
ww 23 18 1,
mV 5 23] [4,5]
(GE [oP 24 (.loadd (some 5) (.t 4)),
mV 25 5,
qr 5 4 24,
mV 5 25] [4,5]
.ret)))))
abbrev QB:RsT:=[(4,some (some 5)),(5,none)]
theorem RB:SpF 26 Le KM QB:=SpI Tryz.func67 (by kernel_rfl)
theorem mA:au Tryz.prog Le = true:=by kernel_rfl
abbrev K6:FuncId:=68
def KA:AC:=
(GE [jp 2 5 0,
oP 4 (.mv (.c (.bool false)))] [1,2]
(.seq (GE [kw 6 5 2,
mV 7 1,
mt 8 70 rc [.t 6,.t 7],
eq 9 8 0] [1,2,9]
(.cond (.t 9)
(GE [oP 4 (.mv (.c (.bool false)))] [4]
.ret)
.skip))
(.seq (GE [wn 10 5 0 2,
wd 11 0 10,
ol 12 11,
ut 13 12,
wt 14 0] [1,2,13,14]
(.block 0
(.loop [1,2,13,14]
(GE [bi 15 14 13] [1,2,13,14,15]
(.seq (.cond (.t 15)
.skip
(.exit 0))
(.seq (.block 1
(GE [mV 16 14,
mV 5 16] [1,2,5,13,14]
(GE [kw 17 5 2,
mV 18 5,
mV 19 1,
mt 20 122 [true,false,true] [.t 17,.t 18,.t 19],
mt 21 123 rt [.t 20],
pl 22 21] [1,2,13,14,22]
(.cond (.t 22)
(GE [oP 4 (.mv (.c (.bool false)))] [4]
.ret)
.skip))))
(.reg [pu 23 14 1,
mV 14 23] [1,2,13,14])))))))
(GE [oP 4 (.mv (.c (.bool true)))] [4]
.ret))))
abbrev PJ:RsT:=[(4,none)]
theorem Qz:SpF 24 K6 KA PJ:=SpI Tryz.func68 (by kernel_rfl)
theorem yH:au Tryz.prog K6 = true:=by kernel_rfl
abbrev K5:FuncId:=69
def JV:AC:=
(GE [jp 2 5 0,
oP 4 (.mv (.c (.bool false)))] [1,2]
(GE [kw 8 5 2,
mV 9 1,
mt 10 72 rc [.t 8,.t 9],
mV 7 10,
ww 11 7 0,
ww 12 7 1,
oP 5 (.alloc EQ),
qr 4 5 11,
mV 6 12] [6]
(GE [mV 13 6,
pl 14 13,
mV 4 14] [4]
.ret)))
abbrev PL:RsT:=[(4,none)]
theorem Qm:SpF 15 K5 JV PL:=SpI Tryz.func69 (by kernel_rfl)
theorem E3:au Tryz.prog K5 = true:=by kernel_rfl
abbrev J5:FuncId:=70
def Nl:AC:=
(GE [jp 2 5 0,
wt 4 0] [1,2]
(.seq (GE [wn 6 5 0 2,
wd 7 3 6,
ol 8 7,
ut 9 8,
wt 10 0] [1,2,9,10]
(.block 0
(.loop [1,2,9,10]
(GE [bi 11 10 9] [1,2,9,10,11]
(.seq (.cond (.t 11)
.skip
(.exit 0))
(.seq (.block 1
(GE [mV 12 10,
mV 5 12] [1,2,5,9,10]
(GE [kw 13 5 2,
mV 14 5,
mV 15 1,
mt 16 73 [true,false,true] [.t 13,.t 14,.t 15]] [1,2,5,9,10,16]
(.cond (.t 16)
(GE [mV 17 5,
mV 4 17] [4]
.ret)
.skip))))
(.reg [pu 18 10 1,
mV 10 18] [1,2,9,10])))))))
(GE [wt 4 (-1)] [4]
.ret)))
abbrev RM:RsT:=[(4,none)]
theorem QF:SpF 19 J5 Nl RM:=SpI Tryz.func70 (by kernel_rfl)
theorem Hs:au Tryz.prog J5 = true:=by kernel_rfl
abbrev Kv:FuncId:=71
def Ni:AC:=
(GE [jp 4 5 0,
jp 6 1 2,
wt 8 0,
wt 9 0] [1,3,4,6,8]
(GE [oP 23 (.mkfunc (.func 124) [] [.t 6]),
mV 10 23] [1,3,4,8,10]
(GE [oP 11 (.alloc Fd)] [1,3,4,8,10,11]
(GE [oP 12 (.mv (.c (.bool true)))] [1,3,4,8,10,11,12]
(.seq (GE [mt 24 125 [] [],
wt 25 0] [1,3,4,8,10,11,12,24,25]
(.block 0
(.loop [1,3,4,8,10,11,12,24,25]
(GE [bv 26 25 2] [1,3,4,8,10,11,12,24,25,26]
(.seq (.cond (.t 26)
.skip
(.exit 0))
(.seq (.block 1
(GE [mV 27 25,
oP 28 (.ixV 2 2 (some 2) (.t 24) (.t 25)),
oP 14 (.alloc [.nilfunc, .nilfunc]),
mV 13 27,
qr 2 14 28] [1,3,4,8,10,11,12,13,14,24,25]
(.frz 14 true (.seq (GE [wn 29 5 0 4,
wd 30 1 29,
ol 31 30,
ut 32 31,
wt 33 0] [1,3,4,8,10,11,12,13,14,24,25,32,33]
(.block 2
(.loop [1,3,4,8,10,11,12,13,14,24,25,32,33]
(GE [bi 34 33 32] [1,3,4,8,10,11,12,13,14,24,25,32,33,34]
(.seq (.cond (.t 34)
.skip
(.exit 2))
(.seq (.block 3
(GE [mV 35 33,
mV 15 35] [1,3,4,8,10,11,12,13,14,15,24,25,32,33]
(.seq (GE [mV 36 10,
mV 37 15,
oP 38 (.call (.t 36) rt [.t 37]),
pl 39 38] [1,3,4,8,10,11,12,13,14,15,24,25,32,33,39]
(.cond (.t 39)
(.exit 3)
.skip))
(GE [wn 41 5 0 4,
wd 42 2 41,
ol 43 42,
mV 44 1,
mV 45 15,
oP 46 (.build Fd [(0,1,.t 44),(1,1,.t 45)]),
mt 47 126 sm [.t 43,.t 46],
mV 40 47,
ww 48 40 0,
ww 49 40 1,
oP 16 (.alloc Fd),
qr 2 16 48,
mV 17 49] [1,3,4,8,10,11,12,13,14,15,16,24,25,32,33]
(.frz 16 true (GE [wn 51 5 0 4,
wd 52 4 51,
ol 53 52,
mV 54 1,
mV 55 15,
oP 56 (.build Fd [(0,1,.t 54),(1,1,.t 55)]),
mt 57 126 sm [.t 53,.t 56],
mV 50 57,
ww 58 50 0,
ww 59 50 1,
oP 18 (.alloc Fd),
qr 2 18 58,
mV 19 59] [1,3,4,8,10,11,12,13,14,16,18,19,24,25,32,33]
(.frz 18 true (.seq (.dreg [mV 60 13,
oP 61 (.ixA 2 1 none (.t 11) (.t 60)),
ol 62 61,
wd 63 0 14,
ol 64 63,
kw 65 2 16,
oP 66 (.call (.t 64) rt [.t 65]),
wd 67 1 14,
ol 68 67,
kw 69 2 18,
oP 70 (.call (.t 68) rt [.t 69]),
nl 71 66 70,
pm 72 62 71,
oP 73 (.ixA 2 1 none (.t 11) (.t 60)),
qr 1 73 72] [1,3,4,8,10,11,12,13,14,19,24,25,32,33] [[],[0],[0,1],[],[3],[],[3,4,5],[],[7],[],[3,4,5,6,7,8,9],[3,4,5,6,7,8,9,10],GT 12,GT 13,GT 14])
(.reg [mV 74 12,
mV 75 74,
ge 76 75 19,
oP 77 (.pick (.t 75) (.t 76) (.c (.bool false))),
mV 12 77] [1,3,4,8,10,11,12,13,14,24,25,32,33])))))))))
(.reg [pu 78 33 1,
mV 33 78] [1,3,4,8,10,11,12,13,14,24,25,32,33])))))))
(GE [wn 79 5 0 4,
wd 80 3 79,
ol 81 80,
ut 82 81,
wt 83 0] [1,3,4,8,10,11,12,13,14,24,25,81,82,83]
(.block 4
(.loop [1,3,4,8,10,11,12,13,14,24,25,81,82,83]
(GE [bi 84 83 82] [1,3,4,8,10,11,12,13,14,24,25,81,82,83,84]
(.seq (.cond (.t 84)
.skip
(.exit 4))
(.seq (.block 5
(GE [mV 85 83,
ul 86 5 81 83,
kw 87 5 86,
oP 21 (.alloc Eq),
mV 20 85,
qr 5 21 87] [1,3,4,8,10,11,12,13,14,20,21,24,25,81,82,83]
(.frz 21 true (.seq (GE [wd 88 0 21,
ol 89 88,
mV 90 1,
co 91 89 90,
mV 92 91,
gF 93 92 (.load (some 5) (.t 4)),
lc 94 92 20,
gF 95 92 (.call (.f 127) sm [.t 93,.t 94]),
gF 96 92 (.un .not (.t 95)),
oP 97 (.pick (.t 92) (.c (.bool true)) (.t 96))] [1,3,4,8,10,11,12,13,14,20,21,24,25,81,82,83,97]
(.cond (.t 97)
(.exit 5)
.skip))
(GE [kw 98 5 4,
mV 99 20,
mV 100 3,
mt 101 128 [true,false,true] [.t 98,.t 99,.t 100],
oP 22 (.alloc Fd),
qr 2 22 101] [1,3,4,8,10,11,12,13,14,21,22,24,25,81,82,83]
(.frz 22 true (.block 6
(GE [mV 103 10,
wd 104 2 21,
ol 105 104,
oP 106 (.call (.t 103) rt [.t 105]),
mV 107 106,
ge 108 107 10,
ii 109 107 1 21,
gt 110 107 109,
gT 111 107 (.call (.t 108) rt [.t 110]),
gT 112 107 (.un .not (.t 111)),
oP 113 (.pick (.t 107) (.t 112) (.c (.bool false))),
mV 102 113] [1,3,4,8,10,11,12,13,14,21,22,24,25,81,82,83,102]
(.cond (.t 102)
(.dreg [mV 114 13,
oP 115 (.ixA 2 1 none (.t 11) (.t 114)),
ol 116 115,
wd 117 0 14,
ol 118 117,
kw 119 2 22,
oP 120 (.call (.t 118) rt [.t 119]),
pm 121 116 120,
oP 122 (.ixA 2 1 none (.t 11) (.t 114)),
qr 1 122 121] [1,3,4,8,10,11,12,13,14,24,25,81,82,83] [[],[0],[0,1],[],[3],[],[3,4,5],GT 7,GT 8,GT 9])
(GE [mV 124 10,
wd 125 1 21,
ol 126 125,
oP 127 (.call (.t 124) rt [.t 126]),
mV 128 127,
ge 129 128 10,
ii 130 128 2 21,
gt 131 128 130,
gT 132 128 (.call (.t 129) rt [.t 131]),
gT 133 128 (.un .not (.t 132)),
oP 134 (.pick (.t 128) (.t 133) (.c (.bool false))),
mV 123 134] [1,3,4,8,10,11,12,13,14,22,24,25,81,82,83,123]
(.cond (.t 123)
(.dreg [mV 135 13,
oP 136 (.ixA 2 1 none (.t 11) (.t 135)),
ol 137 136,
wd 138 1 14,
ol 139 138,
kw 140 2 22,
oP 141 (.call (.t 139) rt [.t 140]),
nl 142 137 141,
oP 143 (.ixA 2 1 none (.t 11) (.t 135)),
qr 1 143 142] [1,3,4,8,10,11,12,13,14,24,25,81,82,83] [[],[0],[0,1],[],[3],[],[3,4,5],GT 7,GT 8,GT 9])
.skip)))))))))))
(.reg [pu 144 83 1,
mV 83 144] [1,3,4,8,10,11,12,13,14,24,25,81,82,83])))))))))))
(.reg [pu 145 25 1,
mV 25 145] [1,3,4,8,10,11,12,24,25])))))))
(.seq (GE [mV 146 12] [8,11,146]
(.cond (.t 146)
(.reg [oP 147 (.ixA 2 1 none (.t 11) (cI 0)),
ol 148 147,
oP 149 (.mx [cI 0,.t 148]),
mV 8 149] [8,11])
.skip))
(.seq (.dreg [mV 150 8,
oP 151 (.ixA 2 1 none (.t 11) (cI 1)),
ol 152 151,
oP 153 (.mn [cI 0,.t 152]),
mV 8 150,
mV 9 153] [8,9] [[],[],[1],[1,2],[0],GT 5])
.ret)))))))
abbrev QV:RsT:=[(8,none),(9,none)]
theorem QD:SpF 154 Kv Ni QV:=SpI Tryz.func71 (by kernel_rfl)
theorem Ih:au Tryz.prog Kv = true:=by kernel_rfl
abbrev Lk:FuncId:=72
def Mm:AC:=
(GE [jp 2 5 0,
oP 4 (.alloc EQ),
oP 5 (.mv (.c (.bool false)))] [1,2,4]
(.seq (GE [wt 6 0] [1,2,4,6]
(.block 0
(.loop [1,2,4,6]
(.seq (GE [mV 10 6,
wd 11 3 2,
ol 12 11,
ut 13 12,
bi 14 10 13] [1,2,4,6,14]
(.cond (.t 14)
.skip
(.exit 0)))
(.seq (.block 1
(GE [kw 17 5 2,
mV 18 1,
mV 19 6,
mt 20 74 Do [.t 17,.t 18,.t 19]] [1,2,4,6,20]
(.cond (.t 20)
(GE [mV 21 6,
oP 22 (.build EQ [(0,1,.t 21)]),
qr 4 4 22,
oP 5 (.mv (.c (.bool true)))] [4,5]
.ret)
.skip)))
(.reg [mV 15 6,
pu 16 15 1,
mV 6 16] [1,2,4,6]))))))
(.seq (GE [wt 7 0] [1,2,4,7]
(.block 2
(.loop [1,2,4,7]
(.seq (GE [mV 23 7,
wd 24 0 2,
ol 25 24,
ut 26 25,
bi 27 23 26] [1,2,4,7,27]
(.cond (.t 27)
.skip
(.exit 2)))
(.seq (.block 3
(.seq (.dreg [kw 31 5 2,
kw 32 5 2,
mV 33 1,
mt 34 77 rc [.t 32,.t 33],
mV 35 7,
mt 36 129 Do [.t 31,.t 34,.t 35],
mV 30 36,
ww 37 30 0,
ww 38 30 1,
oP 8 (.alloc EQ),
qr 4 8 37,
mV 9 38] [1,2,4,7,8,9] [[],[],[],[1,2],[],GT 5,GT 6,GT 7,GT 7,[],[0,1,2,3,4,5,6,7,9],GT 11])
(GE [mV 39 9] [1,2,4,7,8,39]
(.cond (.t 39)
(GE [kw 40 4 8,
qr 4 4 40,
oP 5 (.mv (.c (.bool true)))] [4,5]
.ret)
.skip))))
(.reg [mV 28 7,
pu 29 28 1,
mV 7 29] [1,2,4,7]))))))
(GE [oP 41 (.build EQ []),
qr 4 4 41,
oP 5 (.mv (.c (.bool false)))] [4,5]
.ret))))
abbrev RP:RsT:=[(4,some (some 4)),(5,none)]
theorem Qa:SpF 42 Lk Mm RP:=SpI Tryz.func72 (by kernel_rfl)
theorem HV:au Tryz.prog Lk = true:=by kernel_rfl
abbrev K3:FuncId:=73
def Ik:AC:=
(GE [jp 3 5 0,
oP 6 (.mv (.c (.bool false)))] [1,2,3]
(GE [wn 8 5 0 3,
wd 9 3 8,
ol 10 9,
mV 11 1,
ul 12 5 10 11,
wd 13 4 12,
ol 14 13,
mV 7 14] [1,2,3,7]
(.seq (.dreg [mV 15 7,
mV 16 1,
oP 17 (.bin .gtr (.t 15) (.t 16)),
mV 18 17,
gT 19 18 (.fieldAddr (some 5) 0 (.t 3)),
ii 20 18 3 19,
gt 21 18 20,
ge 22 18 1,
ip 23 18 5 21 22,
ii 24 18 3 23,
gt 25 18 24,
gT 26 18 (.fieldAddr (some 5) 0 (.t 3)),
ii 27 18 3 26,
gt 28 18 27,
ge 29 18 7,
ip 30 18 5 28 29,
ii 31 18 3 30,
gt 32 18 31,
gT 33 18 (.bin .neq (.t 25) (.t 32)),
oP 34 (.pick (.t 18) (.t 33) (.c (.bool false))),
mV 35 34,
ge 36 35 2,
ge 37 35 1,
gT 38 35 (.call (.f 130) sm [.t 36,.t 37]),
gT 39 35 (.un .not (.t 38)),
oP 40 (.pick (.t 35) (.t 39) (.c (.bool false))),
mV 41 40,
ge 42 41 2,
ge 43 41 7,
gT 44 41 (.call (.f 130) sm [.t 42,.t 43]),
gT 45 41 (.un .not (.t 44)),
oP 46 (.pick (.t 41) (.t 45) (.c (.bool false))),
mV 6 46] [6] [[],[],[0,1],[0,1,2],GT 4,GT 5,GT 6,GT 4,GT 8,GT 9,GT 10,GT 4,[0,1,2,3,11],[0,1,2,3,11,12],GT 4,[0,1,2,3,11,12,13,14],[0,1,2,3,11,12,13,14,15],[0,1,2,3,11,12,13,14,15,16],GT 18,GT 19,GT 20,GT 21,GT 21,GT 23,GT 24,GT 25,GT 26,GT 27,GT 27,GT 29,GT 30,GT 31,GT 32])
.ret)))
abbrev Q3:RsT:=[(6,none)]
theorem Qw:SpF 47 K3 Ik Q3:=SpI Tryz.func73 (by kernel_rfl)
theorem KN:au Tryz.prog K3 = true:=by kernel_rfl
abbrev KV:FuncId:=74
def KK:AC:=
(GE [jp 3 5 0,
oP 6 (.mv (.c (.bool false)))] [1,2,3]
(GE [wd 8 3 3,
ol 9 8,
mV 10 2,
ul 11 5 9 10,
wd 12 4 11,
ol 13 12,
mV 7 13] [1,2,3,7]
(.seq (.dreg [mV 14 7,
mV 15 2,
oP 16 (.bin .gtr (.t 14) (.t 15)),
mV 17 16,
ge 18 17 1,
ge 19 17 2,
gT 20 17 (.call (.f 45) sm [.t 18,.t 19]),
gT 21 17 (.un .not (.t 20)),
oP 22 (.pick (.t 17) (.t 21) (.c (.bool false))),
mV 23 22,
ge 24 23 1,
ge 25 23 7,
gT 26 23 (.call (.f 45) sm [.t 24,.t 25]),
gT 27 23 (.un .not (.t 26)),
oP 28 (.pick (.t 23) (.t 27) (.c (.bool false))),
mV 29 28,
ii 30 29 3 3,
gt 31 29 30,
ge 32 29 7,
ip 33 29 5 31 32,
ii 34 29 3 33,
gt 35 29 34,
ii 36 29 3 3,
gt 37 29 36,
ge 38 29 2,
ip 39 29 5 37 38,
ii 40 29 3 39,
gt 41 29 40,
gT 42 29 (.bin .neq (.t 35) (.t 41)),
oP 43 (.pick (.t 29) (.t 42) (.c (.bool false))),
mV 6 43] [6] [[],[],[0,1],[0,1,2],GT 4,GT 4,GT 6,GT 7,GT 8,GT 9,GT 10,GT 10,GT 12,GT 13,GT 14,GT 15,GT 16,GT 17,GT 16,GT 19,GT 20,GT 21,GT 16,[0,1,2,3,4,5,6,7,8,9,10,11,12,13,14,15,22],GT 16,[0,1,2,3,4,5,6,7,8,9,10,11,12,13,14,15,22,23,24],[0,1,2,3,4,5,6,7,8,9,10,11,12,13,14,15,22,23,24,25],[0,1,2,3,4,5,6,7,8,9,10,11,12,13,14,15,22,23,24,25,26],GT 28,GT 29,GT 30])
.ret)))
abbrev Ri:RsT:=[(6,none)]
theorem Rw:SpF 44 KV KK Ri:=SpI Tryz.func74 (by kernel_rfl)
theorem DF:au Tryz.prog KV = true:=by kernel_rfl
abbrev Ku:FuncId:=75
def MC:AC:=
(GE [wt 2 0] [0]
(GE [wt 3 1] [0,3]
(.seq (GE [wt 4 0] [0,3,4]
(.block 0
(.loop [0,3,4]
(.seq (GE [mV 5 4,
mV 6 0,
bi 7 5 6] [0,3,4,7]
(.cond (.t 7)
.skip
(.exit 0)))
(.seq (.block 1
(.reg [mV 10 3,
oP 11 (.bin .mul (cI 2) (.t 10)),
mV 3 11] [0,3,4]))
(.reg [mV 8 4,
pu 9 8 1,
mV 4 9] [0,3,4]))))))
(GE [mV 12 3,
mV 2 12] [2]
.ret))))
abbrev Qh:RsT:=[(2,none)]
theorem Rl:SpF 13 Ku MC Qh:=SpI Tryz.func75 (by kernel_rfl)
theorem z8:au Tryz.prog Ku = true:=by kernel_rfl
abbrev Iv:FuncId:=76
def KL:AC:=
(GE [jp 4 5 0,
wt 8 0,
wt 9 0] [1,2,3,4]
(GE [kw 14 5 4,
mV 15 1,
mV 16 2,
mV 17 3,
mt 18 131 [true,true,false,false] [.t 14,.t 15,.t 16,.t 17],
oP 10 (.alloc Fd),
qr 2 10 18] [2,3,4,10]
(.frz 10 true (GE [kw 20 5 4,
mV 21 2,
mV 22 3,
mt 23 132 [true,false,false] [.t 20,.t 21,.t 22],
mV 19 23,
ww 24 19 0,
ww 25 19 1,
oP 11 (.alloc Fd),
qr 2 11 24,
mV 12 25] [10,11,12]
(.frz 11 true (GE [wt 13 0] [10,11,12,13]
(.seq (GE [mV 26 12] [10,11,13,26]
(.cond (.t 26)
(.reg [wd 27 0 10,
ol 28 27,
wd 29 1 11,
ol 30 29,
nl 31 28 30,
oP 32 (.mx [cI 0,.t 31]),
mV 13 32] [10,11,13])
.skip))
(.seq (.dreg [mV 33 13,
wd 34 1 10,
ol 35 34,
wd 36 0 11,
ol 37 36,
nl 38 35 37,
oP 39 (.mn [cI 0,.t 38]),
mV 8 33,
mV 9 39] [8,9] [[],[],[1],[],[3],[1,2,3,4],[1,2,3,4,5],[0],GT 8])
.ret))))))))
abbrev Q2:RsT:=[(8,none),(9,none)]
theorem R6:SpF 40 Iv KL Q2:=SpI Tryz.func76 (by kernel_rfl)
theorem FQ:au Tryz.prog Iv = true:=by kernel_rfl
abbrev Kx:FuncId:=77
def NC:AC:=
(GE [jp 2 5 0,
oP 4 (.mv (.c (.slice 2 [])))] [1,2]
(GE [oP 5 (.nilS 1 2)] [1,2,5]
(.seq (GE [wt 6 0] [1,2,5,6]
(.block 0
(.loop [1,2,5,6]
(.seq (GE [mV 10 6,
wd 11 3 2,
ol 12 11,
ut 13 12,
bi 14 10 13] [1,2,5,6,14]
(.cond (.t 14)
.skip
(.exit 0)))
(.seq (.block 1
(GE [oP 17 (.build Fd [(0,1,cI 0),(1,1,cI 1000000)]),
oP 7 (.alloc Fd),
qr 2 7 17] [1,2,5,6,7]
(GE [wd 18 3 2,
ol 19 18,
mV 20 6,
ul 21 5 19 20,
wd 22 4 21,
ol 23 22,
mV 8 23] [1,2,5,6,7,8]
(GE [mV 24 6,
mV 9 24] [1,2,5,6,7,8,9]
(.seq (GE [mV 25 8,
eq 26 25 0] [1,2,5,6,7,8,9,26]
(.cond (.t 26)
(GE [mV 27 6,
mV 28 8,
oP 29 (.mn [.t 27,.t 28]),
mV 9 29] [1,2,5,6,7,8,9]
(.reg [mV 30 6,
mV 31 8,
oP 32 (.mx [.t 30,.t 31]),
mV 8 32] [1,2,5,6,7,8,9]))
.skip))
(.seq (GE [mV 33 8,
eq 34 33 0,
mV 35 34,
ge 36 35 1,
ge 37 35 8,
gT 38 35 (.call (.f 45) sm [.t 36,.t 37]),
gT 39 35 (.un .not (.t 38)),
oP 40 (.pick (.t 35) (.t 39) (.c (.bool false)))] [1,2,5,6,7,8,9,40]
(.cond (.t 40)
(.dreg [wd 41 3 2,
ol 42 41,
mV 43 8,
ul 44 5 42 43,
wd 45 3 44,
ol 46 45,
wd 47 3 2,
ol 48 47,
mV 49 8,
ul 50 5 48 49,
wd 51 3 50,
ol 52 51,
oP 53 (.build Fd [(0,1,.t 46),(1,1,.t 52)]),
qr 2 7 53] [1,2,5,6,7,9] [[],[0],[],[0,1,2],GT 4,GT 5,[],[6],[],[6,7,8],[6,7,8,9],[6,7,8,9,10],GT 12,GT 13])
.skip))
(.seq (GE [mV 54 1,
mV 55 9,
mt 56 45 sm [.t 54,.t 55],
pl 57 56] [1,2,5,6,7,9,57]
(.cond (.t 57)
(.dreg [wd 58 3 2,
ol 59 58,
mV 60 9,
ul 61 5 59 60,
wd 62 3 61,
ol 63 62,
wd 64 3 2,
ol 65 64,
mV 66 9,
ul 67 5 65 66,
wd 68 3 67,
ol 69 68,
oP 70 (.build Fd [(0,1,.t 63),(1,1,.t 69)]),
qr 2 7 70] [1,2,5,6,7] [[],[0],[],[0,1,2],GT 4,GT 5,[],[6],[],[6,7,8],[6,7,8,9],[6,7,8,9,10],GT 12,GT 13])
.skip))
(.reg [mV 71 5,
kw 72 2 7,
oP 73 (.lit 0 2 1 [(0,.t 72)]),
oP 74 (.append 2 16 (.t 71) (.t 73)),
mV 5 74] [1,2,5,6]))))))))
(.reg [mV 15 6,
pu 16 15 1,
mV 6 16] [1,2,5,6]))))))
(GE [mV 75 5,
oP 4 (.mvd (.t 75))] [4]
.ret))))
abbrev P8:RsT:=[(4,none)]
theorem Pu:SpF 76 Kx NC P8:=SpI Tryz.func77 (by kernel_rfl)
theorem JZ:au Tryz.prog Kx = true:=by kernel_rfl
abbrev K4:FuncId:=78
def O9:AC:=
(GE [⟨some 0,none, .mv (.c (.str ⟨#[]⟩))⟩] []
(GE [⟨some 0,none, .mv (.c (.str ⟨#[107,105,110,100,115,32,111,105,108,32,112,97,105,110,116,10,112,108,97,99,101,115,32,121,97,114,100,32,112,105,116,10,102,105,114,115,116,32,111,105,108,32,121,97,114,100,32,49,48,48,48,32,49,48,48,48,10,112,97,112,101,114,32,111,105,108,32,121,97,114,100,32,112,105,116,32,54,48,48,32,49,10,112,97,112,101,114,32,111,105,108,32,121,97,114,100,32,112,105,116,32,53,48,48,32,48,10,112,97,112,101,114,32,111,105,108,32,121,97,114,100,32,45,32,51,48,48,32,45,10,108,97,115,116,32,111,105,108,32,121,97,114,100,32,49,48,48,32,50,48,48,10]⟩))⟩] [0]
.ret))
abbrev QK:RsT:=[(0,none)]
theorem PE:SpF 1 K4 O9 QK:=SpI Tryz.func78 (by kernel_rfl)
theorem NQ:au Tryz.prog K4 = true:=by kernel_rfl
abbrev KU:FuncId:=79
def KO:AC:=
(GE [jp 1 5 0,
oP 2 (.alloc FS),
wt 3 0] [1,2]
(GE [kw 7 5 1,
oP 8 (.call (.f 67) rc [.t 7,(.c (.slice 1 []))]),
mV 6 8,
ww 9 6 0,
ww 10 6 1,
oP 4 (.alloc FS),
qr 5 4 9,
mV 5 10] [2,4,5]
(.frz 4 true (.seq (.seq (.qreg [mV 11 5,
ci 12 11 0,
mV 13 12,
gT 14 13 (.load (some 5) (.t 4)),
gT 15 13 (.load (some 5) (.t 4)),
gT 16 13 (.call (.f 83) sm [.t 15,cI (-1)]),
gT 17 13 (.call (.f 68) rc [.t 14,.t 16]),
gT 18 13 (.un .not (.t 17)),
oP 19 (.pick (.t 13) (.t 18) (.c (.bool false)))] [2,4,5,19] [[],[0],[0,1],[0,1,2],[0,1,2],[0,1,2,4],GT 6,GT 7,GT 8] [([0,1,2,3,4],5),([],6)] [7,8])
(.cond (.t 19)
(.reg [wt 5 9] [2,4,5])
.skip))
(GE [oP 20 (.loadd (some 5) (.t 4)),
mV 21 5,
qr 5 2 20,
mV 3 21] [2,3]
.ret)))))
abbrev Q4:RsT:=[(2,some (some 5)),(3,none)]
theorem Pt:SpF 22 KU KO Q4:=SpI Tryz.func79 (by kernel_rfl)
theorem DT:au Tryz.prog KU = true:=by kernel_rfl
abbrev Lf:FuncId:=80
def Oi:AC:=
(GE [jp 1 5 0,
oP 2 (.mv (.c .nilfunc))] [1]
(GE [oP 3 (.mkfunc (.func 133) [] [.t 1]),
mV 2 3] [2]
.ret))
abbrev Se:RsT:=[(2,none)]
theorem Sd:SpF 4 Lf Oi Se:=SpI Tryz.func80 (by kernel_rfl)
theorem Mu:au Tryz.prog Lf = true:=by kernel_rfl
abbrev J0:FuncId:=81
def K0:AC:=
(GE [jp 1 5 0,
wt 2 0] [1]
(GE [kw 7 5 1,
mt 8 17 rg [.t 7],
mV 6 8,
ww 9 6 0,
ww 10 6 1,
ww 11 6 2,
mV 3 9,
mV 4 10,
mV 5 11] [1,5]
(.seq (.seq (.dreg [mV 12 5,
ci 13 12 0,
mV 14 13,
gT 15 14 (.load (some 5) (.t 1)),
gT 16 14 (.load (some 5) (.t 1)),
gT 17 14 (.call (.f 48) sm [.t 16,cI (-1)]),
gT 18 14 (.call (.f 69) rc [.t 15,.t 17]),
gT 19 14 (.un .not (.t 18)),
oP 20 (.pick (.t 14) (.t 19) (.c (.bool false)))] [5,20] [[],[0],[0,1],[0,1,2],[0,1,2],[0,1,2,4],GT 6,GT 7,GT 8])
(.cond (.t 20)
(.reg [wt 5 9] [5])
.skip))
(GE [mV 21 5,
mV 2 21] [2]
.ret))))
abbrev PZ:RsT:=[(2,none)]
theorem Rh:SpF 22 J0 K0 PZ:=SpI Tryz.func81 (by kernel_rfl)
theorem Ed:au Tryz.prog J0 = true:=by kernel_rfl
abbrev KH:FuncId:=82
def O3:AC:=
(GE [jp 1 5 0,
oP 2 (.mv (.c (.slice 1 []))),
oP 3 (.mv (.c (.bool false)))] [1]
(.seq (GE [wt 4 0] [1,4]
(.block 0
(.loop [1,4]
(.seq (GE [mV 8 4,
wd 9 3 1,
ol 10 9,
ut 11 10,
oP 12 (.bin .leq (.t 8) (.t 11))] [1,4,12]
(.cond (.t 12)
.skip
(.exit 0)))
(.seq (.block 1
(GE [mV 15 4,
wd 16 3 1,
ol 17 16,
ut 18 17,
oP 19 (.call (.f 49) [true,false,false] [(.c (.slice 1 [])),.t 15,.t 18]),
mV 5 19] [1,4,5]
(GE [oP 6 (.nilS 1 1)] [1,4,5,6]
(.seq (GE [wt 7 0] [1,4,5,6,7]
(.block 2
(.loop [1,4,5,6,7]
(.seq (GE [mV 20 7,
mV 21 5,
ut 22 21,
bi 23 20 22] [1,4,5,6,7,23]
(.cond (.t 23)
.skip
(.exit 2)))
(.seq (.block 3
(.seq (.dreg [kw 26 5 1,
mV 27 5,
mV 28 7,
ul 29 1 27 28,
ol 30 29,
mt 31 69 rc [.t 26,.t 30]] [1,4,5,6,7,31] [[],[],[],[1,2],[1,2,3],GT 5])
(.cond (.t 31)
(.reg [mV 32 6,
mV 33 5,
mV 34 7,
ul 35 1 33 34,
ol 36 35,
oP 37 (.lit 0 1 1 [(0,.t 36)]),
oP 38 (.append 1 24 (.t 32) (.t 37)),
mV 6 38] [1,4,5,6,7])
.skip)))
(.reg [mV 24 7,
pu 25 24 1,
mV 7 25] [1,4,5,6,7]))))))
(GE [mV 39 6,
ut 40 39,
gc 41 40 0] [1,4,6,41]
(.cond (.t 41)
(GE [mV 42 6,
oP 2 (.mvd (.t 42)),
oP 3 (.mv (.c (.bool true)))] [2,3]
.ret)
.skip))))))
(.reg [mV 13 4,
pu 14 13 1,
mV 4 14] [1,4]))))))
(GE [oP 2 (.mv (.c (.slice 1 []))),
oP 3 (.mv (.c (.bool false)))] [2,3]
.ret)))
abbrev PY:RsT:=[(2,none),(3,none)]
theorem PD:SpF 43 KH O3 PY:=SpI Tryz.func82 (by kernel_rfl)
theorem N0:au Tryz.prog KH = true:=by kernel_rfl
abbrev Kz:FuncId:=83
def N6:AC:=
(GE [jp 2 5 0,
oP 4 (.nilS 1 1)] [1,2,4]
(.seq (GE [wn 6 5 0 2,
wd 7 3 6,
ol 8 7,
ut 9 8,
wt 10 0] [1,4,9,10]
(.block 0
(.loop [1,4,9,10]
(GE [bi 11 10 9] [1,4,9,10,11]
(.seq (.cond (.t 11)
.skip
(.exit 0))
(.seq (.block 1
(GE [mV 12 10,
mV 5 12] [1,4,5,9,10]
(GE [mV 13 5,
mV 14 1,
co 15 13 14] [1,4,5,9,10,15]
(.cond (.t 15)
(.reg [mV 16 4,
mV 17 5,
oP 18 (.lit 0 1 1 [(0,.t 17)]),
oP 19 (.append 1 8 (.t 16) (.t 18)),
mV 4 19] [1,4,9,10])
.skip))))
(.reg [pu 20 10 1,
mV 10 20] [1,4,9,10])))))))
(GE [mV 21 4,
oP 4 (.mvd (.t 21))] [4]
.ret)))
abbrev R0:RsT:=[(4,none)]
theorem RV:SpF 22 Kz N6 R0:=SpI Tryz.func83 (by kernel_rfl)
theorem KW:au Tryz.prog Kz = true:=by kernel_rfl
abbrev Ls:FuncId:=84
def Mw:AC:=
(GE [oP 2 (.mv (.c (.slice 1 [])))] [0]
(GE [wt 3 0] [0,3]
(.seq (GE [mV 9 0,
ut 10 9,
wt 11 0] [0,3,9,10,11]
(.block 0
(.loop [0,3,9,10,11]
(GE [bi 12 11 10] [0,3,9,10,11,12]
(.seq (.cond (.t 12)
.skip
(.exit 0))
(.seq (.block 1
(GE [ul 13 1 9 11,
ol 14 13,
mV 5 14] [0,3,5,9,10,11]
(GE [mV 15 3,
mV 16 5,
ut 17 16,
pm 18 15 17,
mV 3 18] [0,3,9,10,11]
(GE [mV 19 3,
bv 20 19 0] [0,3,9,10,11,20]
(.cond (.t 20)
(.reg [⟨some 21,none, .mkiface 9 (.c (.str ⟨#[108,101,110,32,111,117,116,32,111,102,32,114,97,110,103,101]⟩))⟩,
oN (.panic (.t 21))] [0,3,9,10,11])
.skip)))))
(.reg [pu 22 11 1,
mV 11 22] [0,3,9,10,11])))))))
(GE [mV 23 3,
mt 24 136 At [(.c (.nils 1)),.t 23],
mV 6 24] [0,6]
(.seq (GE [mV 25 0,
ut 26 25,
wt 27 0] [6,25,26,27]
(.block 2
(.loop [6,25,26,27]
(GE [bi 28 27 26] [6,25,26,27,28]
(.seq (.cond (.t 28)
.skip
(.exit 2))
(.seq (.block 3
(GE [ul 29 1 25 27,
ol 30 29,
mV 8 30] [6,8,25,26,27]
(.reg [mV 31 6,
mV 32 8,
oP 33 (.append 1 8 (.t 31) (.t 32)),
mV 6 33] [6,25,26,27])))
(.reg [pu 34 27 1,
mV 27 34] [6,25,26,27])))))))
(GE [mV 35 6,
oP 2 (.mvd (.t 35))] [2]
.ret))))))
abbrev RS:RsT:=[(2,none)]
theorem P7:SpF 36 Ls Mw RS:=SpI Tryz.func84 (by kernel_rfl)
theorem QC:au Tryz.prog Ls = true:=by kernel_rfl
abbrev KF:FuncId:=85
def OS:AC:=
(GE [jp 1 5 0,
oP 2 (.alloc [.mint 1])] [1,2]
(.scope
(.seq (.label 0)
(.seq (GE [kw 4 5 1,
mt 5 80 rg [.t 4]] [1,2,5]
(.block 0
(.iD (.t 5) [6] (.reg [mV 3 6] [1,2,3])
(.block 1
(.seq (GE [ol 7 2,
ut 8 7,
gc 9 8 0,
mV 10 9,
ge 11 10 3,
gT 12 10 (.len (.t 11)),
gt 13 10 2,
gT 14 10 (.ixS 1 (.t 13) (cI 0)),
gt 15 10 14,
gT 16 10 (.len (.t 15)),
gT 17 10 (.bin .gtr (.t 12) (.t 16)),
oP 18 (.pick (.t 10) (.t 17) (.c (.bool false)))] [1,2,3,18]
(.cond (.t 18)
(.exit 0)
.skip))
(GE [kw 19 5 1,
mV 20 3,
mt 21 68 rc [.t 19,.t 20]] [2,3,21]
(.cond (.t 21)
(.reg [ol 22 2,
mV 23 3,
oP 24 (.lit 0 1 1 [(0,.t 23)]),
oP 25 (.append 1 24 (.t 22) (.t 24)),
qr 1 2 25] [])
.skip)))))))
(GE [oP 26 (.loadd none (.t 2)),
qr 1 2 26] [2]
.ret)))))
abbrev QT:RsT:=[(2,some none)]
theorem PN:SpF 27 KF OS QT:=SpI Tryz.func85 (by kernel_rfl)
theorem Qn:au Tryz.prog KF = true:=by kernel_rfl
abbrev Nq:FuncId:=86
theorem Pr:au Tryz.prog Nq = true:=by kernel_rfl
abbrev J8:FuncId:=87
def JW:AC:=
(GE [oP 2 (.mv (.c (.slice 1 [])))] [0]
(.seq (GE [mV 6 0,
ut 7 6,
bv 8 7 2] [0,8]
(.cond (.t 8)
(GE [mV 9 0,
oP 2 (.mvd (.t 9))] [2]
.ret)
.skip))
(.seq (GE [wt 3 1] [0,3]
(.block 0
(.loop [0,3]
(.seq (GE [mV 10 3,
mV 11 0,
ut 12 11,
bi 13 10 12] [0,3,13]
(.cond (.t 13)
.skip
(.exit 0)))
(.seq (.block 1
(.seq (.dreg [mV 16 0,
mV 17 3,
ul 18 1 16 17,
ol 19 18,
mV 20 0,
mV 21 3,
ap 22 21 1,
ul 23 1 20 22,
ol 24 23,
ce 25 19 24] [0,3,25] [[],[],[0,1],[0,1,2],[],[],[5],[4,5,6],[4,5,6,7],GT 9])
(.cond (.t 25)
(GE [mV 26 0,
mV 27 3,
oP 28 (.sub 0 1 (.t 26) (some (.t 27)) none none),
mV 4 28] [0,3,4]
(.seq (GE [wt 5 1] [0,3,4,5]
(.block 2
(.loop [0,3,4,5]
(.seq (GE [mV 29 5,
mV 30 4,
ut 31 30,
bi 32 29 31] [0,3,4,5,32]
(.cond (.t 32)
.skip
(.exit 2)))
(.seq (.block 3
(.seq (.dreg [mV 35 4,
mV 36 5,
ul 37 1 35 36,
ol 38 37,
mV 39 4,
mV 40 5,
ap 41 40 1,
ul 42 1 39 41,
ol 43 42,
co 44 38 43] [0,3,4,5,44] [[],[],[0,1],[0,1,2],[],[],[5],[4,5,6],[4,5,6,7],GT 9])
(.cond (.t 44)
(GE [mV 45 0,
mV 46 3,
mV 47 4,
mV 48 5,
ul 49 1 47 48,
ol 50 49,
ul 51 1 45 46,
qr 1 51 50] [0,3,4,5]
(.reg [mV 52 3,
pu 53 52 1,
mV 3 53] [0,3,4,5]))
.skip)))
(.reg [mV 33 5,
pu 34 33 1,
mV 5 34] [0,3,4,5]))))))
(GE [mV 54 0,
mV 55 3,
oP 56 (.sub 0 1 (.t 54) (some (.t 55)) none none),
oN (.clear 1 (.int .i64 0) (.t 56))] [0,3]
(GE [mV 57 0,
mV 58 3,
oP 59 (.sub 0 1 (.t 57) none (some (.t 58)) none),
oP 2 (.mvd (.t 59))] [2]
.ret))))
.skip)))
(.reg [mV 14 3,
pu 15 14 1,
mV 3 15] [0,3]))))))
(GE [mV 60 0,
oP 2 (.mvd (.t 60))] [2]
.ret))))
abbrev QW:RsT:=[(2,none)]
theorem QY:SpF 61 J8 JW QW:=SpI Tryz.func87 (by kernel_rfl)
theorem RF:au Tryz.prog J8 = true:=by kernel_rfl
abbrev Lh:FuncId:=88
def G8:AC:=
(GE [jp 3 5 0,
oP 6 (.mv (.c .nilptr)),
wt 7 0] [1,2,3]
(GE [kw 13 5 3,
mV 14 1,
mt 15 67 rc [.t 13,.t 14],
mV 12 15,
ww 16 12 0,
ww 17 12 1,
oP 8 (.alloc FS),
qr 5 8 16,
mV 9 17] [1,2,8,9]
(.frz 8 true (.seq (GE [mV 18 9,
dg 19 18 0] [1,2,8,9,19]
(.cond (.t 19)
(GE [mV 20 9,
oP 6 (.mv (.c .nilptr)),
mV 7 20] [6,7]
.ret)
.skip))
(GE [mV 21 2,
kw 22 5 8,
oP 23 (.call (.t 21) rg [.t 22]),
mV 10 23] [1,8,10]
(.seq (.block 0
(GE [mV 25 10,
bv 26 25 0,
mV 24 26] [1,8,10,24]
(.cond (.t 24)
(GE [oP 6 (.mv (.c .nilptr)),
wt 7 4] [6,7]
.ret)
(GE [kw 28 5 8,
mV 29 1,
mt 30 68 rc [.t 28,.t 29],
pl 31 30,
mV 27 31] [1,8,10,27]
(.cond (.t 27)
(GE [oP 6 (.mv (.c .nilptr)),
wt 7 9] [6,7]
.ret)
.skip)))))
(GE [kw 32 5 8,
mV 33 10,
mV 34 1,
mt 35 122 [true,false,true] [.t 32,.t 33,.t 34],
mV 11 35] [11]
(GE [mV 36 11,
mt 37 123 rt [.t 36]] [11]
(GE [mV 38 11,
mV 6 38,
wt 7 0] [6,7]
.ret)))))))))
abbrev Qi:RsT:=[(6,none),(7,none)]
theorem R7:SpF 39 Lh G8 Qi:=SpI Tryz.func88 (by kernel_rfl)
theorem Oz:au Tryz.prog Lh = true:=by kernel_rfl
abbrev Hr:FuncId:=89
def J1:AC:=
(GE [jp 2 5 0,
wt 3 0] [1,2]
(.seq (GE [wn 4 5 0 2,
wd 5 3 4,
ol 6 5,
ut 7 6,
ap 8 7 1,
ol 9 1,
oP 10 (.lit 0 1 1 [(0,.t 9)]),
mt 11 53 [false,false,true] [cI 0,.t 8,.t 10]] [1,2,11]
(.cond (.t 11)
(GE [wt 3 (-1)] [3]
.ret)
.skip))
(GE [wn 12 5 0 2,
wd 13 3 12,
ol 14 13,
ol 15 1,
ul 16 5 14 15,
wd 17 0 16,
ol 18 17,
mV 3 18] [3]
.ret)))
abbrev Si:RsT:=[(3,none)]
theorem P9:SpF 19 Hr J1 Si:=SpI Tryz.func89 (by kernel_rfl)
theorem RE:au Tryz.prog Hr = true:=by kernel_rfl
abbrev JU:FuncId:=90
def OJ:AC:=
(GE [jp 2 1 0,
jp 3 1 1,
oP 4 (.alloc Fd)] [2,3,4]
(GE [oP 9 (.mkfunc (.func 139) [] [.t 2,.t 3]),
mV 5 9] [2,3,4,5]
(.seq (.dreg [ol 10 2,
pi 11 10,
wd 12 0 11,
ol 13 12,
ol 14 3,
ul 15 5 13 14,
kw 16 5 15,
oP 6 (.alloc Eq),
qr 5 6 16] [2,3,4,5,6] [[],[0],[0,1],[0,1,2],[],GT 5,GT 6,[],GT 8])
(GE [mV 17 5,
wd 18 0 6,
ol 19 18,
wd 20 1 6,
ol 21 20,
wd 22 4 6,
ol 23 22,
wd 24 2 6,
ol 25 24,
nl 26 23 25,
oP 27 (.call (.t 17) [false,false,false] [.t 19,.t 21,.t 26]),
mV 7 27] [2,3,4,5,6,7]
(.seq (.dreg [ol 28 2,
pi 29 28,
wd 30 0 29,
ol 31 30,
ol 32 3,
ul 33 5 31 32,
wd 34 4 33,
ol 35 34,
mV 36 7,
nl 37 35 36,
ul 38 5 31 32,
wd 39 4 38,
qr 1 39 37] [2,3,4,5,6] [[],[0],[0,1],[0,1,2],[],GT 5,GT 6,GT 7,[],GT 9,GT 10,GT 11,GT 12])
(.seq (.dreg [ol 40 2,
pi 41 40,
wd 42 0 41,
ol 43 42,
ol 44 3,
ul 45 5 43 44,
wd 46 4 45,
ol 47 46,
wd 48 0 4,
qr 1 48 47] [2,3,4,5,6] [[],[0],[0,1],[0,1,2],[],GT 5,GT 6,GT 7,GT 8,GT 9])
(.seq (.dreg [ol 49 2,
pi 50 49,
wd 51 0 50,
ol 52 51,
ol 53 3,
ul 54 5 52 53,
kw 55 5 54,
qr 5 6 55] [2,3,4,5,6] [[],[0],[0,1],[0,1,2],[],GT 5,GT 6,GT 7])
(GE [mV 56 5,
wd 57 1 6,
ol 58 57,
wd 59 0 6,
ol 60 59,
wd 61 3 6,
ol 62 61,
wd 63 4 6,
ol 64 63,
nl 65 62 64,
oP 66 (.call (.t 56) [false,false,false] [.t 58,.t 60,.t 65]),
mV 8 66] [2,3,4,8]
(.seq (.dreg [ol 67 2,
pi 68 67,
wd 69 0 68,
ol 70 69,
ol 71 3,
ul 72 5 70 71,
wd 73 4 72,
ol 74 73,
mV 75 8,
pm 76 74 75,
ul 77 5 70 71,
wd 78 4 77,
qr 1 78 76] [2,3,4] [[],[0],[0,1],[0,1,2],[],GT 5,GT 6,GT 7,[],GT 9,GT 10,GT 11,GT 12])
(.seq (.dreg [ol 79 2,
pi 80 79,
wd 81 0 80,
ol 82 81,
ol 83 3,
ul 84 5 82 83,
wd 85 4 84,
ol 86 85,
wd 87 1 4,
qr 1 87 86] [4] [[],[0],[0,1],[0,1,2],[],GT 5,GT 6,GT 7,GT 8,GT 9])
(GE [kw 88 2 4,
qr 2 4 88] [4]
.ret)))))))))))
abbrev Qd:RsT:=[(4,some (some 2))]
theorem Po:SpF 89 JU OJ Qd:=SpI Tryz.func90 (by kernel_rfl)
theorem MH:au Tryz.prog JU = true:=by kernel_rfl
abbrev Ib:FuncId:=94
def KJ:AC:=
(GE [jp 2 5 0,
wt 3 0] [1,2]
(.seq (GE [wn 4 5 0 2,
wd 5 0 4,
ol 6 5,
ut 7 6,
ap 8 7 1,
ol 9 1,
oP 10 (.lit 0 1 1 [(0,.t 9)]),
mt 11 53 [false,false,true] [cI 0,.t 8,.t 10]] [1,11]
(.cond (.t 11)
(GE [wt 3 (-1)] [3]
.ret)
.skip))
(GE [ol 12 1,
mV 3 12] [3]
.ret)))
abbrev QL:RsT:=[(3,none)]
theorem RO:SpF 13 Ib KJ QL:=SpI Tryz.func94 (by kernel_rfl)
theorem RT:au Tryz.prog Ib = true:=by kernel_rfl
abbrev Kc:FuncId:=96
def Lu:AC:=
(GE [jp 1 5 0,
⟨some 2,none, .mv (.c (.str ⟨#[]⟩))⟩] [1]
(GE [oP 3 (.allocB)] [1,3]
(GE [oP 10 (.mkfunc (.func 143) [] [.t 3]),
oP 4 (.alloc [.nilfunc]),
qr 1 4 10] [1,3,4]
(.frz 4 false (GE [oP 11 (.mkfunc (.func 146) [] [.t 4,.t 1]),
mV 5 11] [1,3,4,5]
(GE [oP 12 (.mkfunc (.func 148) [] [.t 1]),
mV 6 12] [1,3,4,5,6]
(.seq (.qreg [ol 13 4,
⟨some 14,none, .lit 1 1 1 [(0,(.c (.str ⟨#[107,105,110,100,115]⟩)))]⟩,
wn 15 5 0 1,
wd 16 0 15,
ol 17 16,
oP 18 (.append 1 16 (.t 14) (.t 17)),
oP 19 (.call (.t 13) rg [.t 18])] [1,3,4,5,6] [[],[],[],[2],[2,3],[1,2,3,4],GT 6] [([0,2,3,4],1),([],5),([],6)] [])
(.seq (.qreg [ol 20 4,
⟨some 21,none, .lit 1 1 1 [(0,(.c (.str ⟨#[112,108,97,99,101,115]⟩)))]⟩,
wn 22 5 0 1,
wd 23 1 22,
ol 24 23,
oP 25 (.append 1 16 (.t 21) (.t 24)),
oP 26 (.call (.t 20) rg [.t 25])] [1,3,4,5,6] [[],[],[],[2],[2,3],[1,2,3,4],GT 6] [([0,2,3,4],1),([],5),([],6)] [])
(GE [mV 27 5,
wn 28 5 0 1,
wd 29 2 28,
ol 30 29,
⟨some 31,none, .call (.t 27) [false,true] [(.c (.str ⟨#[102,105,114,115,116]⟩)),.t 30]⟩] [1,3,4,5,6]
(.seq (GE [wn 32 5 0 1,
wd 33 3 32,
ol 34 33,
ut 35 34,
wt 36 0] [1,3,4,5,6,34,35,36]
(.block 0
(.loop [1,3,4,5,6,34,35,36]
(GE [bi 37 36 35] [1,3,4,5,6,34,35,36,37]
(.seq (.cond (.t 37)
.skip
(.exit 0))
(.seq (.block 1
(GE [ul 38 5 34 36,
kw 39 5 38,
oP 8 (.alloc Eq),
qr 5 8 39] [1,3,4,5,6,8,34,35,36]
(.frz 8 true (GE [⟨some 9,none, .mv (.c (.str ⟨#[45]⟩))⟩] [1,3,4,5,6,8,9,34,35,36]
(.seq (GE [wd 40 4 8,
ol 41 40,
eq 42 41 0] [1,3,4,5,6,8,9,34,35,36,42]
(.cond (.t 42)
(.reg [wd 43 4 8,
ol 44 43,
mt 45 147 rt [.t 44],
mV 9 45] [1,3,4,5,6,8,9,34,35,36])
.skip))
(.creg [ol 46 4,
wn 47 5 0 1,
wd 48 0 47,
ol 49 48,
wd 50 0 8,
ol 51 50,
ul 52 1 49 51,
ol 53 52,
mV 54 6,
wd 55 1 8,
ol 56 55,
oP 57 (.call (.t 54) rt [.t 56]),
mV 58 6,
wd 59 2 8,
ol 60 59,
oP 61 (.call (.t 58) rt [.t 60]),
wd 62 3 8,
ol 63 62,
mt 64 147 rt [.t 63],
mV 65 9,
⟨some 66,none, .lit 0 1 6 [(0,(.c (.str ⟨#[112,97,112,101,114]⟩))),(1,.t 53),(2,.t 57),(3,.t 61),(4,.t 64),(5,.t 65)]⟩,
oP 67 (.call (.t 46) rg [.t 66])] [1,3,4,5,6,34,35,36] [[],[],[1],[1,2],[],[4],[1,2,3,4,5],[1,2,3,4,5,6],[],[],[9],[8,9,10],[],[],[13],[8,9,10,11,12,13,14],[],[16],[8,9,10,11,12,13,14,15,16,17],[],[1,2,3,4,5,6,7,8,9,10,11,12,13,14,15,16,17,18,19],GT 21] [([0,1,2,3,4,5,6,7,8,9,10,11,12,13,14,15,16,17,18,19],20),([],21)] []))))))
(.reg [pu 68 36 1,
mV 36 68] [1,3,4,5,6,34,35,36])))))))
(GE [mV 69 5,
wn 70 5 0 1,
wd 71 4 70,
ol 72 71,
⟨some 73,none, .call (.t 69) [false,true] [(.c (.str ⟨#[108,97,115,116]⟩)),.t 72]⟩] [3]
(GE [mt 74 149 rg [.t 3],
mV 2 74] [2]
.ret))))))))))))
abbrev Pf:RsT:=[(2,none)]
theorem Pp:SpF 75 Kc Lu Pf:=SpI Tryz.func96 (by kernel_rfl)
theorem Kl:au Tryz.prog Kc = true:=by kernel_rfl
abbrev yS:FuncId:=98
def HX:AC:=
(GE [mV 4 2,
oP 5 (.isnil true (.t 4))] [0,1,2,5]
(.cond (.t 5)
(.dreg [oP 6 (.build FS []),
mV 7 2,
oP 8 (.assert 30 (.t 7)),
qr 5 0 6,
qr 1 1 8] [] [[],[],[1],[0],GT 4])
.skip))
theorem tG:G1 Tryz.prog Tryz.f98 9 3 2 HX = true:=by kernel_rfl
theorem MR {args:List ag} {σ:af} {m:PM} {Q:PM → af → Prop} (ha:args.length ≤ 9) (h:AW Tryz.prog 9 none HX (B6 (Q m.after)) { v:=(2,m.val) :: (3, .undef) :: eK args 0,ds:=[] } σ):me Tryz.prog yS args σ m Q:=me.Fx Tryz.func98 tG ha h
theorem OQ:au Tryz.prog yS = true:=by kernel_rfl
abbrev MB:FuncId:=99
theorem Kd:au Tryz.prog MB = true:=by kernel_rfl
abbrev Dp:FuncId:=100
def E9:AC:=
(GE [mV 2 0,
pl 3 2] [3]
(.cond (.t 3)
(.reg [oP 4 (.mkiface 30 (cI 6)),
oN (.panic (.t 4))] [])
.skip))
abbrev OO:RsT:=[]
theorem Jg:SpF 5 Dp E9 OO:=SpI Tryz.func100 (by kernel_rfl)
theorem dv:au Tryz.prog Dp = true:=by kernel_rfl
end Go.AM
