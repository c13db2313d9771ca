/- MADE BY PROGRAM (gen.py): the abstract code of functions of this seat, each checked against the given code by the kernel. -/
import Derived.Test.YtlmhkldmpggadaaGreatDoorChecked
import Derived.Test.YtlmhkldmpggadaaGreatDoorP15
import Derived.Test.YtlmhkldmpggadaaGreatDoorP16
namespace Go.AM
open Go.Proofs
@[simp] abbrev mV (d s:Nat):aL:=⟨some d,none, .mv (.t s)⟩
@[simp] abbrev oP (d:Nat) (i:AI):aL:=⟨some d,none,i⟩
@[simp] abbrev oN (i:AI):aL:=⟨none,none,i⟩
@[simp] abbrev gT (d g:Nat) (i:AI):aL:=⟨some d,some (g,true),i⟩
@[simp] abbrev gF (d g:Nat) (i:AI):aL:=⟨some d,some (g,false),i⟩
abbrev RsT:=List (Nat × Option (Option Nat))
abbrev SpF (n:Nat) (F:FuncId) (C:AC) (Rs:RsT):Prop:=∀ {args:List ag} {σ:af} {R:fq → af → Prop},args.length ≤ n → AW Tryz.prog n none C (Cb Rs R) { v:=fE args 0,ds:=[] } σ → Spec Tryz.prog F args σ R
theorem SpI {n:Nat} {F:FuncId} {fn:Func} {C:AC} {Rs:RsT} (hf:Tryz.prog.funcs[F]? = some fn) (hk:x9 Tryz.prog fn n C Rs = true):SpF n F C Rs:=fun ha h=>Spec.wS hf hk ha h
@[simp] abbrev cI (n:Int):aO:=.c (.int .i64 n)
@[simp] abbrev oc (d a:Nat):aL:=⟨some d,none,.load none (.t a)⟩
@[simp] abbrev oe (d k a:Nat):aL:=⟨some d,none,.load (some k) (.t a)⟩
@[simp] abbrev ol (d k a:Nat):aL:=⟨some d,none,.fieldAddr none k (.t a)⟩
@[simp] abbrev oG (d s k a:Nat):aL:=⟨some d,none,.fieldAddr (some s) k (.t a)⟩
@[simp] abbrev oI (d:Nat) (n:Int):aL:=⟨some d,none,.mv (cI n)⟩
@[simp] abbrev oK (d a k:Nat):aL:=⟨some d,none,.extract (.t a) k⟩
@[simp] abbrev oM (k a b:Nat):aL:=⟨none,none,.store k (.t a) (.t b)⟩
@[simp] abbrev oQ (d k a b:Nat):aL:=⟨some d,none,.ixS k (.t a) (.t b)⟩
@[simp] abbrev oR (d a:Nat):aL:=⟨some d,none,.len (.t a)⟩
@[simp] abbrev oV (d k a:Nat):aL:=⟨some d,none,.pbox k (.t a)⟩
@[simp] abbrev oX (d a:Nat):aL:=⟨some d,none,.nilchk (.t a)⟩
@[simp] abbrev xi (d a:Nat):aL:=⟨some d,none,.un .not (.t a)⟩
@[simp] abbrev xn (d a b:Nat):aL:=⟨some d,none,.bin .add (.t a) (.t b)⟩
@[simp] abbrev xr (d a:Nat) (n:Int):aL:=⟨some d,none,.bin .add (.t a) (cI n)⟩
@[simp] abbrev xx (d a b:Nat):aL:=⟨some d,none,.bin .sub (.t a) (.t b)⟩
@[simp] abbrev xC (d a:Nat) (n:Int):aL:=⟨some d,none,.bin .sub (.t a) (cI n)⟩
@[simp] abbrev xT (d a b:Nat):aL:=⟨some d,none,.bin .lss (.t a) (.t b)⟩
@[simp] abbrev xZ (d a:Nat) (n:Int):aL:=⟨some d,none,.bin .lss (.t a) (cI n)⟩
@[simp] abbrev zh (d a b:Nat):aL:=⟨some d,none,.bin .eql (.t a) (.t b)⟩
@[simp] abbrev zu (d a:Nat) (n:Int):aL:=⟨some d,none,.bin .eql (.t a) (cI n)⟩
@[simp] abbrev zw (d a b:Nat):aL:=⟨some d,none,.bin .neq (.t a) (.t b)⟩
@[simp] abbrev zz (d a:Nat) (n:Int):aL:=⟨some d,none,.bin .neq (.t a) (cI n)⟩
@[simp] abbrev zE (d a:Nat) (n:Int):aL:=⟨some d,none,.bin .geq (.t a) (cI n)⟩
@[simp] abbrev zI (d a:Nat) (n:Int):aL:=⟨some d,none,.bin .gtr (.t a) (cI n)⟩
@[simp] abbrev zR (d g a:Nat):aL:=⟨some d,some (g,true),.mv (.t a)⟩
@[simp] abbrev zS (d g a:Nat):aL:=⟨some d,some (g,true),.load none (.t a)⟩
@[simp] abbrev ki (d g k a:Nat):aL:=⟨some d,some (g,true),.fieldAddr none k (.t a)⟩
@[simp] abbrev kl (d g a:Nat) (n:Int):aL:=⟨some d,some (g,true),.bin .eql (.t a) (cI n)⟩
@[simp] abbrev kw (d g a:Nat):aL:=⟨some d,some (g,false),.mv (.t a)⟩
@[simp] abbrev kD (d g a:Nat):aL:=⟨some d,some (g,false),.load none (.t a)⟩
@[simp] abbrev kL (d g k a:Nat):aL:=⟨some d,some (g,false),.fieldAddr none k (.t a)⟩
@[simp] abbrev kN (d g a:Nat):aL:=⟨some d,some (g,false),.len (.t a)⟩
@[simp] abbrev kR (d g k a b:Nat):aL:=⟨some d,some (g,false),.ixS k (.t a) (.t b)⟩
@[simp] abbrev kS (d f:Nat) (l:List Bool) (a:List aO):aL:=⟨some d,none,.call (.f f) l a⟩
@[simp] abbrev kV :List Bool:=[true,true]
@[simp] abbrev wd :List Bool:=[true]
@[simp] abbrev wl :List Bool:=[false]
@[simp] abbrev wn :List Bool:=[true,false]
@[simp] abbrev wo :List Bool:=[false,false]
@[simp] abbrev wt :List Bool:=[true,true,false]
@[simp] abbrev ww :List ag:=[.int .i64 0,.int .i64 0,.int .i64 0,.int .i64 0,.int .i64 0]
@[simp] abbrev wx :List ag:=[.int .i64 0,.int .i64 0,.int .i64 0,.int .i64 0]
@[simp] abbrev wy :List ag:=[.int .i64 0,.int .i64 0]
@[simp] abbrev wI :List ag:=[.slice 1 [],.slice 1 [],.slice 4 [],.slice 5 [],.slice 4 []]
@[simp] abbrev wJ (o:List aL) (l:List Nat) (c:AC):AC:=.seq (.reg o l) c
abbrev wM (n:Nat):List Nat:=List.range n
abbrev F_8:FuncId:=8
def C_8:AC:=
(wJ [oV 2 5 0,
oV 3 3 1,
oP 4 (.mv (.c (.bool false)))] [2,3]
(.seq (wJ [oe 26 5 2,
kS 27 43 wd [.t 26],
xi 28 27] [2,3,28]
(.cond (.t 28)
(wJ [oe 30 5 2,
oP 31 (.call (.f 18) kV [.t 30,(.c (.slice 1 []))]),
mV 29 31,
oK 32 29 0,
oK 33 29 1,
mV 5 32,
mV 6 33] [6]
(wJ [mV 34 6,
zz 35 34 0,
mV 36 35,
gT 37 36 (.call (.f 24) [] []),
oP 38 (.pick (.t 36) (.t 37) (.c (.bool false))),
mV 4 38] [4]
.ret))
.skip))
(wJ [oe 40 5 2,
oe 41 3 3,
kS 42 44 kV [.t 40,.t 41],
mV 39 42,
oK 43 39 0,
oK 44 39 1,
oK 45 39 2,
oP 7 (.alloc wI),
oM 5 7 43,
mV 8 44,
mV 9 45] [2,7,8,9]
(.frz 7 true (wJ [oe 47 5 7,
mV 48 9,
kS 49 18 kV [.t 47,.t 48],
mV 46 49,
oK 50 46 0,
oK 51 46 1,
mV 10 50,
mV 11 51] [2,7,8,9,10,11]
(wJ [oe 53 5 7,
kS 54 25 wd [.t 53],
mV 52 54,
oK 55 52 0,
oK 56 52 1,
mV 12 55,
mV 13 56] [2,7,8,9,10,11,12,13]
(wJ [oe 58 5 7,
kS 59 28 wd [.t 58],
mV 57 59,
oK 60 57 0,
oK 61 57 1,
mV 14 60,
mV 15 61] [2,7,8,9,10,11,12,13,14,15]
(.seq (wJ [mV 62 11,
zz 63 62 0,
mV 64 63,
kw 65 64 13,
gF 66 64 (.bin .neq (.t 65) (cI 0)),
oP 67 (.pick (.t 64) (.c (.bool true)) (.t 66)),
mV 68 67,
kw 69 68 15,
gF 70 68 (.bin .neq (.t 69) (cI 0)),
oP 71 (.pick (.t 68) (.c (.bool true)) (.t 70)),
mV 72 71,
kw 73 72 10,
gF 74 72 (.un .not (.t 73)),
oP 75 (.pick (.t 72) (.c (.bool true)) (.t 74)),
mV 76 75,
kw 77 76 12,
kN 78 76 77,
kw 79 76 9,
kN 80 76 79,
gF 81 76 (.bin .gtr (.t 78) (.t 80)),
oP 82 (.pick (.t 76) (.c (.bool true)) (.t 81))] [2,7,8,9,14,82]
(.cond (.t 82)
(wJ [oP 4 (.mv (.c (.bool false)))] [4]
.ret)
.skip))
(.seq (wJ [oI 16 0] [2,7,8,9,14,16]
(.block 0
(.loop [2,7,8,9,14,16]
(.seq (wJ [mV 83 16,
mV 84 14,
oR 85 84,
xT 86 83 85] [2,7,8,9,14,16,86]
(.cond (.t 86)
.skip
(.exit 0)))
(.seq (.block 1
(wJ [mV 89 9,
mV 90 14,
mV 91 16,
oQ 92 1 90 91,
oc 93 92,
kS 94 45 wn [.t 89,.t 93],
xi 95 94] [2,7,8,9,14,16,95]
(.cond (.t 95)
(wJ [oP 4 (.mv (.c (.bool false)))] [4]
.ret)
.skip)))
(.reg [mV 87 16,
xr 88 87 1,
mV 16 88] [2,7,8,9,14,16]))))))
(.seq (wJ [oI 17 0] [2,7,8,9,17]
(.block 2
(.loop [2,7,8,9,17]
(.seq (wJ [mV 96 17,
mV 97 8,
oR 98 97,
xT 99 96 98] [2,7,8,9,17,99]
(.cond (.t 99)
.skip
(.exit 2)))
(.seq (.block 3
(wJ [oe 103 5 7,
mV 104 9,
mV 105 17,
kS 106 32 wt [.t 103,.t 104,.t 105],
mV 102 106,
oK 107 102 0,
oK 108 102 1,
oP 18 (.alloc wy),
oM 2 18 107,
mV 19 108] [2,7,8,9,17,18,19]
(.frz 18 true (.seq (.dreg [mV 109 19,
zz 110 109 0,
mV 111 110,
kw 112 111 8,
kw 113 111 17,
kR 114 111 1 112 113,
kD 115 111 114,
kL 116 111 0 18,
kD 117 111 116,
gF 118 111 (.bin .lss (.t 115) (.t 117)),
oP 119 (.pick (.t 111) (.c (.bool true)) (.t 118)),
mV 120 119,
kw 121 120 8,
kw 122 120 17,
kR 123 120 1 121 122,
kD 124 120 123,
kL 125 120 1 18,
kD 126 120 125,
gF 127 120 (.bin .gtr (.t 124) (.t 126)),
oP 128 (.pick (.t 120) (.c (.bool true)) (.t 127))] [2,7,8,9,17,128] [[],[0],[0,1],[0,1,2],[0,1,2],wM 5,wM 6,[0,1,2],[0,1,2,7],wM 9,wM 10,wM 11,wM 12,wM 12,wM 14,wM 15,wM 12,[0,1,2,3,4,5,6,7,8,9,10,11,16],wM 18,wM 19])
(.cond (.t 128)
(wJ [oP 4 (.mv (.c (.bool false)))] [4]
.ret)
.skip)))))
(.reg [mV 100 17,
xr 101 100 1,
mV 17 101] [2,7,8,9,17]))))))
(.seq (wJ [oI 20 0] [2,7,8,9,20]
(.block 4
(.loop [2,7,8,9,20]
(.seq (wJ [mV 129 20,
ol 130 0 2,
oc 131 130,
oR 132 131,
xT 133 129 132] [2,7,8,9,20,133]
(.cond (.t 133)
.skip
(.exit 4)))
(.seq (.block 5
(wJ [oI 21 0] [2,7,8,9,20,21]
(.seq (wJ [oI 22 0] [2,7,8,9,20,21,22]
(.block 6
(.loop [2,7,8,9,20,21,22]
(.seq (wJ [mV 136 22,
mV 137 8,
oR 138 137,
xT 139 136 138] [2,7,8,9,20,21,22,139]
(.cond (.t 139)
.skip
(.exit 6)))
(.seq (.block 7
(wJ [ol 142 3 2,
oc 143 142,
mV 144 22,
oQ 145 5 143 144,
oe 146 5 145,
oP 23 (.alloc ww),
oM 5 23 146] [2,7,8,9,20,21,22,23]
(.frz 23 true (.seq (wJ [ol 147 0 23,
oc 148 147,
mV 149 20,
zw 150 148 149,
mV 151 150,
gF 152 151 (.load (some 5) (.t 2)),
kw 153 151 22,
gF 154 151 (.call (.f 46) wn [.t 152,.t 153]),
gF 155 151 (.un .not (.t 154)),
oP 156 (.pick (.t 151) (.c (.bool true)) (.t 155))] [2,7,8,9,20,21,22,23,156]
(.cond (.t 156)
(.exit 7)
.skip))
(.seq (wJ [ol 157 2 23,
oc 158 157,
zu 159 158 (-1)] [2,7,8,9,20,21,22,23,159]
(.cond (.t 159)
(.reg [mV 160 21,
mV 161 8,
mV 162 22,
oQ 163 1 161 162,
oc 164 163,
xn 165 160 164,
mV 21 165] [2,7,8,9,20,21,22,23])
.skip))
(wJ [ol 166 1 23,
oc 167 166,
zu 168 167 (-1)] [2,7,8,9,20,21,22,168]
(.cond (.t 168)
(.reg [mV 169 21,
mV 170 8,
mV 171 22,
oQ 172 1 170 171,
oc 173 172,
xx 174 169 173,
mV 21 174] [2,7,8,9,20,21,22])
.skip)))))))
(.reg [mV 140 22,
xr 141 140 1,
mV 22 141] [2,7,8,9,20,21,22]))))))
(wJ [oe 176 5 7,
mV 177 9,
mV 178 20,
kS 179 34 wt [.t 176,.t 177,.t 178],
mV 175 179,
oK 180 175 0,
oK 181 175 1,
oP 24 (.alloc wy),
oM 2 24 180,
mV 25 181] [2,7,8,9,20,21,24,25]
(.frz 24 true (wJ [mV 182 25,
zz 183 182 0,
mV 184 183,
kw 185 184 21,
kL 186 184 0 24,
kD 187 184 186,
gF 188 184 (.bin .lss (.t 185) (.t 187)),
oP 189 (.pick (.t 184) (.c (.bool true)) (.t 188)),
mV 190 189,
kw 191 190 21,
kL 192 190 1 24,
kD 193 190 192,
gF 194 190 (.bin .gtr (.t 191) (.t 193)),
oP 195 (.pick (.t 190) (.c (.bool true)) (.t 194))] [2,7,8,9,20,195]
(.cond (.t 195)
(wJ [oP 4 (.mv (.c (.bool false)))] [4]
.ret)
.skip)))))))
(.reg [mV 134 20,
xr 135 134 1,
mV 20 135] [2,7,8,9,20]))))))
(wJ [kS 196 24 [] [],
mV 4 196] [4]
.ret))))))))))))
abbrev R_8:RsT:=[(4,none)]
theorem S_8:SpF 197 F_8 C_8 R_8:=SpI Tryz.func8 (by kernel_rfl)
abbrev MT:FuncId:=16
def GI:AC:=
(wJ [oV 1 5 0,
oI 2 0,
oI 3 0,
oI 4 0] [1]
(wJ [oe 9 5 1,
oP 10 (.build wI [(0,5,.t 9)]),
oP 5 (.alloc wI),
oM 5 5 10] [5]
(.frz 5 true (.seq (wJ [oG 11 5 0 5,
ol 12 0 11,
oc 13 12,
oR 14 13,
oP 15 (.lit 0 1 1 [(0,.t 14)]),
kS 16 53 [false,false,true] [cI 1,cI 4,.t 15],
mV 17 16,
gF 18 17 (.fieldAddr (some 5) 0 (.t 5)),
kL 19 17 1 18,
kD 20 17 19,
kN 21 17 20,
gF 22 17 (.lit 0 1 1 [(0,.t 21)]),
gF 23 17 (.call (.f 53) [false,false,true] [cI 1,cI 4,.t 22]),
oP 24 (.pick (.t 17) (.c (.bool true)) (.t 23)),
mV 25 24,
gF 26 25 (.fieldAddr (some 5) 0 (.t 5)),
kL 27 25 3 26,
kD 28 25 27,
kN 29 25 28,
gF 30 25 (.bin .gtr (.t 29) (cI 10)),
oP 31 (.pick (.t 25) (.c (.bool true)) (.t 30)),
mV 32 31,
gF 33 32 (.fieldAddr (some 5) 0 (.t 5)),
kL 34 32 2 33,
kD 35 32 34,
kN 36 32 35,
gF 37 32 (.fieldAddr (some 5) 0 (.t 5)),
kL 38 32 4 37,
kD 39 32 38,
kN 40 32 39,
gF 41 32 (.mx [.t 36,.t 40]),
gF 42 32 (.bin .gtr (.t 41) (cI 8)),
oP 43 (.pick (.t 32) (.c (.bool true)) (.t 42))] [5,43]
(.cond (.t 43)
(wJ [oI 2 1,
oI 3 0,
oI 4 3] [2,3,4]
.ret)
.skip))
(wJ [oP 44 (.mkfunc (.func 54) [] [.t 5]),
oP 45 (.mkfunc (.func 56) [] [.t 5]),
oP 46 (.mkfunc (.func 57) [] [.t 5]),
oP 47 (.mkfunc (.func 59) [] [.t 5]),
oP 48 (.mkfunc (.func 62) [] [.t 5]),
oP 49 (.build [.nilfunc, .nilfunc, .nilfunc, .nilfunc, .nilfunc] [(0,1,.t 44),(1,1,.t 45),(2,1,.t 46),(3,1,.t 47),(4,1,.t 48)]),
oP 6 (.alloc [.nilfunc, .nilfunc, .nilfunc, .nilfunc, .nilfunc]),
oM 5 6 49] [6]
(.frz 6 true (.seq (wJ [oe 50 5 6,
oI 51 0] [50,51]
(.block 0
(.loop [50,51]
(wJ [xZ 52 51 5] [50,51,52]
(.seq (.cond (.t 52)
.skip
(.exit 0))
(.seq (.block 1
(wJ [mV 53 51,
oP 54 (.ixV 5 1 none (.t 50) (.t 51)),
mV 7 53,
mV 8 54] [7,8,50,51]
(wJ [mV 56 8,
oP 57 (.call (.t 56) [] []),
mV 55 57,
oK 58 55 0,
oK 59 55 1,
mV 3 58,
mV 4 59] [3,4,7,50,51]
(wJ [mV 60 4,
zz 61 60 0] [3,4,7,50,51,61]
(.cond (.t 61)
(wJ [mV 62 7,
xr 63 62 2,
mV 64 3,
mV 65 4,
mV 2 63,
mV 3 64,
mV 4 65] [2,3,4]
.ret)
.skip)))))
(.reg [xr 66 51 1,
mV 51 66] [50,51])))))))
(wJ [oI 2 0,
oI 3 0,
oI 4 0] [2,3,4]
.ret))))))))
abbrev SG:RsT:=[(2,none),(3,none),(4,none)]
theorem TG:SpF 67 MT GI SG:=SpI Tryz.func16 (by kernel_rfl)
theorem Dr:au Tryz.prog MT = true:=by kernel_rfl
abbrev Oa:FuncId:=17
def Bn:AC:=
(wJ [oV 1 5 0,
oI 2 0,
oI 3 0,
oI 4 0] [1]
(.seq (wJ [ol 8 0 1,
oc 9 8,
oR 10 9,
kS 11 63 [false,false,false] [.t 10,cI 1,cI 4],
xi 12 11,
mV 13 12,
kL 14 13 1 1,
kD 15 13 14,
kN 16 13 15,
gF 17 13 (.call (.f 63) [false,false,false] [.t 16,cI 1,cI 4]),
gF 18 13 (.un .not (.t 17)),
oP 19 (.pick (.t 13) (.c (.bool true)) (.t 18)),
mV 20 19,
kL 21 20 3 1,
kD 22 20 21,
kN 23 20 22,
gF 24 20 (.bin .gtr (.t 23) (cI 10)),
oP 25 (.pick (.t 20) (.c (.bool true)) (.t 24)),
mV 26 25,
kL 27 26 2 1,
kD 28 26 27,
kN 29 26 28,
gF 30 26 (.bin .gtr (.t 29) (cI 8)),
oP 31 (.pick (.t 26) (.c (.bool true)) (.t 30)),
mV 32 31,
kL 33 32 4 1,
kD 34 32 33,
kN 35 32 34,
gF 36 32 (.bin .gtr (.t 35) (cI 8)),
oP 37 (.pick (.t 32) (.c (.bool true)) (.t 36))] [1,37]
(.cond (.t 37)
(wJ [oI 2 1,
oI 3 0,
oI 4 3] [2,3,4]
.ret)
.skip))
(wJ [ol 39 0 1,
oc 40 39,
kS 41 64 wd [.t 40],
mV 38 41,
oK 42 38 0,
oK 43 38 1,
mV 5 42,
mV 6 43] [1,5,6]
(.seq (wJ [mV 44 6,
zz 45 44 0] [1,5,6,45]
(.cond (.t 45)
(wJ [mV 46 5,
mV 47 6,
oI 2 2,
mV 3 46,
mV 4 47] [2,3,4]
.ret)
.skip))
(wJ [ol 49 1 1,
oc 50 49,
kS 51 64 wd [.t 50],
mV 48 51,
oK 52 48 0,
oK 53 48 1,
mV 5 52,
mV 6 53] [1,5,6]
(.seq (wJ [mV 54 6,
zz 55 54 0] [1,5,6,55]
(.cond (.t 55)
(wJ [mV 56 5,
mV 57 6,
oI 2 3,
mV 3 56,
mV 4 57] [2,3,4]
.ret)
.skip))
(wJ [oe 59 5 1,
ol 60 2 1,
oc 61 60,
kS 62 65 kV [.t 59,.t 61],
mV 58 62,
oK 63 58 0,
oK 64 58 1,
mV 5 63,
mV 6 64] [1,5,6]
(.seq (wJ [mV 65 6,
zz 66 65 0] [1,5,6,66]
(.cond (.t 66)
(wJ [mV 67 5,
mV 68 6,
oI 2 4,
mV 3 67,
mV 4 68] [2,3,4]
.ret)
.skip))
(.seq (wJ [oI 7 0] [1,7]
(.block 0
(.loop [1,7]
(.seq (wJ [mV 69 7,
ol 70 3 1,
oc 71 70,
oR 72 71,
xT 73 69 72] [1,7,73]
(.cond (.t 73)
.skip
(.exit 0)))
(.seq (.block 1
(wJ [oe 76 5 1,
mV 77 7,
kS 78 66 wn [.t 76,.t 77],
mV 6 78] [1,6,7]
(wJ [mV 79 6,
zz 80 79 0] [1,6,7,80]
(.cond (.t 80)
(wJ [mV 81 7,
mV 82 6,
oI 2 5,
mV 3 81,
mV 4 82] [2,3,4]
.ret)
.skip))))
(.reg [mV 74 7,
xr 75 74 1,
mV 7 75] [1,7]))))))
(wJ [oe 84 5 1,
ol 85 4 1,
oc 86 85,
kS 87 65 kV [.t 84,.t 86],
mV 83 87,
oK 88 83 0,
oK 89 83 1,
mV 5 88,
mV 6 89] [5,6]
(.seq (wJ [mV 90 6,
zz 91 90 0] [5,6,91]
(.cond (.t 91)
(wJ [mV 92 5,
mV 93 6,
oI 2 6,
mV 3 92,
mV 4 93] [2,3,4]
.ret)
.skip))
(wJ [oI 2 0,
oI 3 0,
oI 4 0] [2,3,4]
.ret))))))))))))
abbrev TR:RsT:=[(2,none),(3,none),(4,none)]
theorem Tx:SpF 94 Oa Bn TR:=SpI Tryz.func17 (by kernel_rfl)
theorem FK:au Tryz.prog Oa = true:=by kernel_rfl
abbrev F5:FuncId:=18
def Ny:AC:=
(wJ [oV 2 5 0,
oP 4 (.mv (.c (.bool false))),
oI 5 0] [1,2]
(wJ [oe 9 5 2,
mV 10 1,
kS 11 67 kV [.t 9,.t 10],
mV 8 11,
oK 12 8 0,
oK 13 8 1,
oP 6 (.alloc wI),
oM 5 6 12,
mV 7 13] [1,6,7]
(.frz 6 true (wJ [mV 14 7,
zu 15 14 0,
mV 16 15,
gT 17 16 (.load (some 5) (.t 6)),
zR 18 16 1,
gT 19 16 (.call (.f 68) kV [.t 17,.t 18]),
oP 20 (.pick (.t 16) (.t 19) (.c (.bool false))),
mV 21 7,
mV 4 20,
mV 5 21] [4,5]
.ret))))
abbrev Sr:RsT:=[(4,none),(5,none)]
theorem SO:SpF 22 F5 Ny Sr:=SpI Tryz.func18 (by kernel_rfl)
theorem GL:au Tryz.prog F5 = true:=by kernel_rfl
abbrev G5:FuncId:=20
def KP:AC:=
(wJ [oV 2 5 0,
oP 4 (.alloc wx),
oI 5 0] [1,2,4]
(wJ [oe 14 5 2,
mV 15 1,
kS 16 67 kV [.t 14,.t 15],
mV 13 16,
oK 17 13 0,
oK 18 13 1,
oP 6 (.alloc wI),
oM 5 6 17,
mV 7 18] [1,4,6,7]
(.frz 6 true (.seq (wJ [mV 19 7,
zz 20 19 0] [1,4,6,7,20]
(.cond (.t 20)
(wJ [oP 21 (.build wx []),
mV 22 7,
oM 4 4 21,
mV 5 22] [4,5]
.ret)
.skip))
(.seq (wJ [oe 23 5 6,
mV 24 1,
kS 25 70 kV [.t 23,.t 24],
mV 8 25] [1,4,6,8]
(wJ [mV 26 8,
zE 27 26 0] [1,4,6,8,27]
(.cond (.t 27)
(wJ [mV 28 8,
oP 29 (.build wx [(0,1,.t 28)]),
oM 4 4 29,
oI 5 0] [4,5]
.ret)
.skip)))
(.seq (wJ [oG 30 5 0 6,
ol 31 0 30,
oc 32 31,
oR 33 32,
oI 34 0] [1,4,6,33,34]
(.block 0
(.loop [1,4,6,33,34]
(wJ [xT 35 34 33] [1,4,6,33,34,35]
(.seq (.cond (.t 35)
.skip
(.exit 0))
(.seq (.block 1
(wJ [mV 36 34,
mV 9 36] [1,4,6,9,33,34]
(wJ [oI 10 1] [1,4,6,9,10,33,34]
(.block 2
(.loop [1,4,6,9,10,33,34]
(.seq (wJ [mV 37 10,
oG 38 5 0 6,
ol 39 1 38,
oc 40 39,
oR 41 40,
oP 42 (.bin .shl (cI 1) (.t 41)),
xT 43 37 42] [1,4,6,9,10,33,34,43]
(.cond (.t 43)
.skip
(.exit 2)))
(.seq (.block 3
(wJ [oe 47 5 6,
mV 48 9,
mV 49 10,
mV 50 1,
kS 51 71 [true,false,false,true] [.t 47,.t 48,.t 49,.t 50],
mV 46 51,
oK 52 46 0,
oK 53 46 1,
mV 11 52,
mV 12 53] [1,4,6,9,10,11,12,33,34]
(.seq (wJ [mV 54 11,
zu 55 54 0] [1,4,6,9,10,11,12,33,34,55]
(.cond (.t 55)
(.reg [mV 56 12,
mV 11 56] [1,4,6,9,10,11,33,34])
.skip))
(wJ [mV 57 11,
zz 58 57 0] [1,4,6,9,10,11,33,34,58]
(.cond (.t 58)
(wJ [mV 59 9,
mV 60 10,
mV 61 11,
oP 62 (.build wx [(0,1,cI (-1)),(1,1,.t 59),(2,1,.t 60),(3,1,.t 61)]),
oM 4 4 62,
oI 5 0] [4,5]
.ret)
.skip)))))
(.reg [mV 44 10,
xr 45 44 1,
mV 10 45] [1,4,6,9,10,33,34]))))))))
(.reg [xr 63 34 1,
mV 34 63] [1,4,6,33,34])))))))
(wJ [oP 64 (.build wx []),
oM 4 4 64,
oI 5 4] [4,5]
.ret)))))))
abbrev Ub:RsT:=[(4,some (some 4)),(5,none)]
theorem Sk:SpF 65 G5 KP Ub:=SpI Tryz.func20 (by kernel_rfl)
theorem JR:au Tryz.prog G5 = true:=by kernel_rfl
abbrev JS:FuncId:=22
def CJ:AC:=
(wJ [oV 3 5 0,
oV 5 4 2,
oP 6 (.mv (.c (.bool false))),
oI 7 0] [1,3,5]
(wJ [oe 13 5 3,
mV 14 1,
kS 15 67 kV [.t 13,.t 14],
mV 12 15,
oK 16 12 0,
oK 17 12 1,
oP 8 (.alloc wI),
oM 5 8 16,
mV 9 17] [1,5,8,9]
(.frz 8 true (.seq (.block 0
(wJ [mV 19 9,
zz 20 19 0,
mV 18 20] [1,5,8,9,18]
(.cond (.t 18)
(wJ [mV 21 9,
oP 6 (.mv (.c (.bool false))),
mV 7 21] [6,7]
.ret)
(wJ [ol 23 0 5,
oc 24 23,
zz 25 24 (-1),
mV 22 25] [1,5,8,22]
(.cond (.t 22)
(wJ [oe 26 4 5,
ol 27 0 5,
oc 28 27,
oP 29 (.build wx [(0,1,.t 28)]),
oP 30 (.eqa false [.i, .i, .i, .i] (.t 26) (.t 29)),
mV 31 30,
gT 32 31 (.fieldAddr (some 5) 0 (.t 8)),
ki 33 31 3 32,
zS 34 31 33,
gT 35 31 (.len (.t 34)),
gT 36 31 (.bin .sub (.t 35) (cI 1)),
ki 37 31 0 5,
zS 38 31 37,
gT 39 31 (.lit 0 1 1 [(0,.t 38)]),
gT 40 31 (.call (.f 53) [false,false,true] [cI 0,.t 36,.t 39]),
gT 41 31 (.un .not (.t 40)),
oP 42 (.pick (.t 31) (.t 41) (.c (.bool false))),
mV 43 42,
gT 44 43 (.load (some 5) (.t 8)),
ki 45 43 0 5,
zS 46 43 45,
zR 47 43 1,
gT 48 43 (.call (.f 73) [true,false,true] [.t 44,.t 46,.t 47]),
oP 49 (.pick (.t 43) (.t 48) (.c (.bool false))),
mV 6 49,
oI 7 0] [6,7]
.ret)
(.seq (.dreg [oG 51 5 0 8,
ol 52 0 51,
oc 53 52,
oR 54 53,
xC 55 54 1,
ol 56 1 5,
oc 57 56,
oP 58 (.lit 0 1 1 [(0,.t 57)]),
kS 59 53 [false,false,true] [cI 0,.t 55,.t 58],
mV 60 59,
gF 61 60 (.fieldAddr (some 5) 0 (.t 8)),
kL 62 60 1 61,
kD 63 60 62,
kN 64 60 63,
gF 65 60 (.bin .shl (cI 1) (.t 64)),
gF 66 60 (.bin .sub (.t 65) (cI 1)),
kL 67 60 2 5,
kD 68 60 67,
gF 69 60 (.lit 0 1 1 [(0,.t 68)]),
gF 70 60 (.call (.f 53) [false,false,true] [cI 1,.t 66,.t 69]),
oP 71 (.pick (.t 60) (.c (.bool true)) (.t 70)),
mV 50 71] [1,5,8,50] [[],[0],[0,1],[0,1,2],wM 4,[],[5],[5,6],wM 8,wM 9,wM 10,wM 11,wM 12,wM 13,wM 14,wM 15,wM 10,[0,1,2,3,4,5,6,7,8,9,16],[0,1,2,3,4,5,6,7,8,9,16,17],wM 19,wM 20,wM 21])
(.cond (.t 50)
(wJ [oP 6 (.mv (.c (.bool false))),
oI 7 0] [6,7]
.ret)
.skip)))))))
(wJ [oe 73 5 8,
ol 74 1 5,
oc 75 74,
ol 76 2 5,
oc 77 76,
mV 78 1,
kS 79 71 [true,false,false,true] [.t 73,.t 75,.t 77,.t 78],
mV 72 79,
oK 80 72 0,
oK 81 72 1,
mV 10 80,
mV 11 81] [5,10,11]
(wJ [ol 82 3 5,
oc 83 82,
zI 84 83 0,
mV 85 84,
ki 86 85 3 5,
zS 87 85 86,
zR 88 85 10,
gT 89 85 (.bin .eql (.t 87) (.t 88)),
oP 90 (.pick (.t 85) (.t 89) (.c (.bool false))),
mV 91 90,
kL 92 91 3 5,
kD 93 91 92,
gF 94 91 (.bin .lss (.t 93) (cI 0)),
kw 95 91 94,
ki 96 95 3 5,
zS 97 95 96,
zR 98 95 11,
gT 99 95 (.bin .eql (.t 97) (.t 98)),
gF 100 91 (.pick (.t 95) (.t 99) (.c (.bool false))),
oP 101 (.pick (.t 91) (.c (.bool true)) (.t 100)),
mV 6 101,
oI 7 0] [6,7]
.ret))))))
abbrev SH:RsT:=[(6,none),(7,none)]
theorem SD:SpF 102 JS CJ SH:=SpI Tryz.func22 (by kernel_rfl)
theorem QP:au Tryz.prog JS = true:=by kernel_rfl
abbrev NK:FuncId:=24
abbrev zrr (n : Nat) : List Nat := List.range n
def zll : List (List Nat) := [[],[0],[0,1],zrr 3,zrr 4,zrr 5,zrr 6,zrr 7,zrr 8,zrr 9,zrr 10,zrr 11,zrr 12,zrr 13,zrr 14,zrr 15,zrr 16,zrr 17,zrr 18,zrr 19,zrr 20,zrr 21,zrr 22,zrr 23,zrr 24,zrr 25,zrr 26,zrr 27,zrr 28,zrr 29,zrr 30,zrr 31,zrr 32,zrr 33,zrr 34,zrr 35,zrr 36,zrr 37,zrr 38,zrr 39,zrr 40,zrr 41,zrr 42,zrr 43,zrr 44,zrr 45,zrr 46,zrr 47,zrr 48,zrr 49,zrr 50,zrr 51,zrr 52,zrr 53,zrr 54,zrr 55,zrr 56,zrr 57,zrr 58,zrr 58,zrr 60,zrr 61,zrr 62,zrr 63,zrr 64,zrr 65,zrr 66,zrr 67,zrr 68,zrr 69,zrr 70,zrr 70,zrr 72,zrr 73,zrr 74,zrr 75,zrr 75,zrr 77,zrr 78,zrr 79,zrr 80,zrr 80,zrr 82,zrr 83,zrr 84,zrr 85,zrr 85,zrr 87,zrr 88,zrr 89,zrr 90,zrr 90,zrr 92,zrr 93,zrr 94,zrr 95,zrr 95,zrr 97,zrr 98,zrr 99,zrr 100,zrr 100,zrr 102,zrr 103,zrr 104]
def Pk:AC:=
(wJ [oP 0 (.mv (.c (.bool false)))] []
(wJ [kS 29 41 wl [(.c (.bool false))],
kS 30 41 wl [(.c (.bool true))],
oP 1 (.alloc wI),
oP 2 (.alloc wI),
oM 5 1 29,
oM 5 2 30] [1,2]
(.frz 2 true (.frz 1 true (wJ [oe 32 5 1,
oP 33 (.lit 0 1 1 [(0,cI 1)]),
kS 34 18 kV [.t 32,.t 33],
mV 31 34,
oK 35 31 0,
oK 36 31 1,
mV 3 35,
mV 4 36] [1,2,3,4]
(wJ [oe 38 5 1,
oP 39 (.lit 0 1 1 [(0,cI 0)]),
kS 40 18 kV [.t 38,.t 39],
mV 37 40,
oK 41 37 0,
oK 42 37 1,
mV 5 41,
mV 6 42] [1,2,3,4,5,6]
(wJ [oe 44 5 1,
oP 45 (.lit 0 1 1 [(0,cI 0)]),
kS 46 20 kV [.t 44,.t 45],
mV 43 46,
oK 47 43 0,
oK 48 43 1,
oP 7 (.alloc wx),
oM 4 7 47,
mV 8 48] [1,2,3,4,5,6,7,8]
(.frz 7 true (wJ [oe 50 5 1,
oP 51 (.lit 0 1 1 [(0,cI 0)]),
oP 52 (.build wx [(0,1,cI (-1)),(2,1,cI 1),(3,1,cI 100)]),
kS 53 22 wt [.t 50,.t 51,.t 52],
mV 49 53,
oK 54 49 0,
oK 55 49 1,
mV 9 54,
mV 10 55] [1,2,3,4,5,6,7,8,9,10]
(wJ [oe 57 5 1,
oP 58 (.lit 0 1 1 [(0,cI 0)]),
oP 59 (.build wx [(0,1,cI (-1)),(2,1,cI 1),(3,1,cI 99)]),
kS 60 22 wt [.t 57,.t 58,.t 59],
mV 56 60,
oK 61 56 0,
oK 62 56 1,
mV 11 61,
mV 12 62] [1,2,3,4,5,6,7,8,9,10,11,12]
(wJ [oe 64 5 2,
kS 65 25 wd [.t 64],
mV 63 65,
oK 66 63 0,
oK 67 63 1,
mV 13 66,
mV 14 67] [1,2,3,4,5,6,7,8,9,10,11,12,13,14]
(wJ [oe 69 5 1,
kS 70 28 wd [.t 69],
mV 68 70,
oK 71 68 0,
oK 72 68 1,
mV 15 71,
mV 16 72] [1,2,3,4,5,6,7,8,9,10,11,12,13,14,15,16]
(wJ [oe 74 5 2,
kS 75 30 wd [.t 74],
mV 73 75,
oK 76 73 0,
oK 77 73 1,
mV 17 76,
mV 18 77] [1,2,3,4,5,6,7,8,9,10,11,12,13,14,15,16,17,18]
(wJ [oe 79 5 2,
oP 80 (.lit 0 1 2 [(0,cI 0),(1,cI 1)]),
kS 81 32 wt [.t 79,.t 80,cI 0],
mV 78 81,
oK 82 78 0,
oK 83 78 1,
oP 19 (.alloc wy),
oM 2 19 82,
mV 20 83] [1,2,3,4,5,6,7,8,9,10,11,12,13,14,15,16,17,18,19,20]
(.frz 19 true (wJ [oe 85 5 1,
oP 86 (.lit 0 1 1 [(0,cI 1)]),
kS 87 34 wt [.t 85,.t 86,cI 0],
mV 84 87,
oK 88 84 0,
oK 89 84 1,
oP 21 (.alloc wy),
oM 2 21 88,
mV 22 89] [1,2,3,4,5,6,7,8,9,10,11,12,13,14,15,16,17,18,19,20,21,22]
(.frz 21 true (wJ [oe 91 5 2,
kS 92 36 wd [.t 91],
mV 90 92,
oK 93 90 0,
oK 94 90 1,
mV 23 93,
mV 24 94] [1,2,3,4,5,6,7,8,9,10,11,12,13,14,15,16,17,18,19,20,21,22,23,24]
(wJ [kS 96 78 [] [],
kS 97 38 wl [.t 96],
mV 95 97,
oK 98 95 0,
oK 99 95 1,
oP 25 (.alloc wI),
oM 5 25 98,
mV 26 99] [1,2,3,4,5,6,7,8,9,10,11,12,13,14,15,16,17,18,19,20,21,22,23,24,25,26]
(.frz 25 true (wJ [oe 101 5 1,
oP 102 (.lit 0 1 1 [(0,cI 0)]),
kS 103 32 wt [.t 101,.t 102,cI 0],
mV 100 103,
oK 104 100 0,
oK 105 100 1,
oP 27 (.alloc wy),
oM 2 27 104,
mV 28 105] [2,3,4,5,6,7,8,9,10,11,12,13,14,15,16,17,18,19,20,21,22,23,24,25,26,28]
(.seq (.dreg [mV 106 4,
zu 107 106 0,
mV 108 107,
zR 109 108 6,
kl 110 108 109 0,
oP 111 (.pick (.t 108) (.t 110) (.c (.bool false))),
mV 112 111,
zR 113 112 8,
kl 114 112 113 0,
oP 115 (.pick (.t 112) (.t 114) (.c (.bool false))),
mV 116 115,
zR 117 116 10,
kl 118 116 117 0,
oP 119 (.pick (.t 116) (.t 118) (.c (.bool false))),
mV 120 119,
zR 121 120 12,
kl 122 120 121 0,
oP 123 (.pick (.t 120) (.t 122) (.c (.bool false))),
mV 124 123,
zR 125 124 14,
kl 126 124 125 0,
oP 127 (.pick (.t 124) (.t 126) (.c (.bool false))),
mV 128 127,
zR 129 128 16,
kl 130 128 129 0,
oP 131 (.pick (.t 128) (.t 130) (.c (.bool false))),
mV 132 131,
zR 133 132 18,
kl 134 132 133 0,
oP 135 (.pick (.t 132) (.t 134) (.c (.bool false))),
mV 136 135,
zR 137 136 20,
kl 138 136 137 0,
oP 139 (.pick (.t 136) (.t 138) (.c (.bool false))),
mV 140 139,
zR 141 140 22,
kl 142 140 141 0,
oP 143 (.pick (.t 140) (.t 142) (.c (.bool false))),
mV 144 143,
zR 145 144 24,
kl 146 144 145 0,
oP 147 (.pick (.t 144) (.t 146) (.c (.bool false))),
mV 148 147,
zR 149 148 26,
kl 150 148 149 0,
oP 151 (.pick (.t 148) (.t 150) (.c (.bool false))),
mV 152 151,
zR 153 152 28,
kl 154 152 153 9,
oP 155 (.pick (.t 152) (.t 154) (.c (.bool false))),
mV 156 155,
zR 157 156 3,
oP 158 (.pick (.t 156) (.t 157) (.c (.bool false))),
mV 159 158,
zR 160 159 5,
gT 161 159 (.un .not (.t 160)),
oP 162 (.pick (.t 159) (.t 161) (.c (.bool false))),
mV 163 162,
gT 164 163 (.load (some 4) (.t 7)),
gT 165 163 (.build wx [(0,1,cI (-1)),(2,1,cI 1),(3,1,cI 100)]),
gT 166 163 (.eqa false [.i, .i, .i, .i] (.t 164) (.t 165)),
oP 167 (.pick (.t 163) (.t 166) (.c (.bool false))),
mV 168 167,
zR 169 168 9,
oP 170 (.pick (.t 168) (.t 169) (.c (.bool false))),
mV 171 170,
zR 172 171 11,
gT 173 171 (.un .not (.t 172)),
oP 174 (.pick (.t 171) (.t 173) (.c (.bool false))),
mV 175 174,
zR 176 175 13,
gT 177 175 (.lit 0 1 1 [(0,cI 0)]),
gT 178 175 (.call (.f 27) kV [.t 176,.t 177]),
oP 179 (.pick (.t 175) (.t 178) (.c (.bool false))),
mV 180 179,
zR 181 180 15,
gT 182 180 (.lit 0 1 1 [(0,cI 1)]),
gT 183 180 (.call (.f 27) kV [.t 181,.t 182]),
oP 184 (.pick (.t 180) (.t 183) (.c (.bool false))),
mV 185 184,
zR 186 185 17,
gT 187 185 (.lit 0 1 2 [(0,cI 0),(1,cI 1)]),
gT 188 185 (.call (.f 27) kV [.t 186,.t 187]),
oP 189 (.pick (.t 185) (.t 188) (.c (.bool false))),
mV 190 189,
gT 191 190 (.load (some 2) (.t 19)),
gT 192 190 (.call (.f 42) wo [cI 500,cI 600]),
gT 193 190 (.eqa false [.i, .i] (.t 191) (.t 192)),
oP 194 (.pick (.t 190) (.t 193) (.c (.bool false))),
mV 195 194,
gT 196 195 (.load (some 2) (.t 21)),
gT 197 195 (.call (.f 42) wo [cI 300,cI 300]),
gT 198 195 (.eqa false [.i, .i] (.t 196) (.t 197)),
oP 199 (.pick (.t 195) (.t 198) (.c (.bool false))),
mV 200 199,
zR 201 200 23,
gT 202 200 (.call (.f 78) [] []),
gT 203 200 (.bin .eql (.t 201) (.t 202)),
oP 204 (.pick (.t 200) (.t 203) (.c (.bool false))),
mV 205 204,
gT 206 205 (.load (some 5) (.t 25)),
gT 207 205 (.load (some 5) (.t 2)),
gT 208 205 (.call (.f 40) kV [.t 206,.t 207]),
oP 209 (.pick (.t 205) (.t 208) (.c (.bool false))),
mV 0 209] [0] zll)
.ret))))))))))))))))))))))
abbrev Ts:RsT:=[(0,none)]
theorem TX:SpF 210 NK Pk Ts:=SpI Tryz.func24 (by kernel_rfl)
theorem Dq:au Tryz.prog NK = true:=by kernel_rfl
abbrev IG:FuncId:=25
def M1:AC:=
(wJ [oV 1 5 0,
oP 2 (.alloc [.slice 1 []]),
oP 3 (.alloc [.int .i64 0])] [1,2,3]
(wJ [oe 8 5 1,
kS 9 79 wd [.t 8],
mV 7 9,
oK 10 7 0,
oK 11 7 1,
oP 4 (.alloc wI),
oM 5 4 10,
mV 5 11] [2,3,4,5]
(.frz 4 true (.seq (wJ [mV 12 5,
zz 13 12 0] [2,3,4,5,13]
(.cond (.t 13)
(wJ [mV 14 5,
oN (.store 1 (.t 2) (.c (.slice 1 []))),
oM 1 3 14] [2,3]
.ret)
.skip))
(.seq (wJ [oe 15 5 4,
kS 16 80 wd [.t 15]] [2,3,4,16]
(.block 0
(.jM (.t 16) [17] (.reg [mV 6 17] [2,3,4,6])
(.block 1
(wJ [oe 18 5 4,
mV 19 6,
kS 20 68 kV [.t 18,.t 19]] [2,3,6,20]
(.cond (.t 20)
(wJ [mV 21 6,
oM 1 2 21,
oN (.store 1 (.t 3) (cI 0))] [2,3]
.ret)
.skip))))))
(wJ [oN (.store 1 (.t 2) (.c (.slice 1 []))),
oN (.store 1 (.t 3) (cI 9))] [2,3]
.ret))))))
abbrev TP:RsT:=[(2,some none),(3,some none)]
theorem TK:SpF 22 IG M1 TP:=SpI Tryz.func25 (by kernel_rfl)
theorem Qb:au Tryz.prog IG = true:=by kernel_rfl
abbrev Mz:FuncId:=27
def Qt:AC:=
(wJ [oP 4 (.mv (.c (.bool false)))] [0,1]
(wJ [mV 7 0,
oR 8 7,
mV 9 1,
oR 10 9,
zh 11 8 10,
mV 5 11] [0,1,5]
(.seq (wJ [oI 6 0] [0,1,5,6]
(.block 0
(.loop [0,1,5,6]
(.seq (wJ [mV 12 6,
mV 13 0,
oR 14 13,
xT 15 12 14,
mV 16 15,
zR 17 16 5,
oP 18 (.pick (.t 16) (.t 17) (.c (.bool false)))] [0,1,5,6,18]
(.cond (.t 18)
.skip
(.exit 0)))
(.seq (.block 1
(.dreg [mV 21 0,
mV 22 6,
oQ 23 1 21 22,
oc 24 23,
mV 25 1,
mV 26 6,
oQ 27 1 25 26,
oc 28 27,
zh 29 24 28,
mV 5 29] [0,1,5,6] [[],[],[0,1],[0,1,2],[],[],[4,5],[4,5,6],wM 8,wM 9]))
(.reg [mV 19 6,
xr 20 19 1,
mV 6 20] [0,1,5,6]))))))
(wJ [mV 30 5,
mV 4 30] [4]
.ret))))
abbrev UY:RsT:=[(4,none)]
theorem T0:SpF 31 Mz Qt UY:=SpI Tryz.func27 (by kernel_rfl)
theorem Jb:au Tryz.prog Mz = true:=by kernel_rfl
abbrev Il:FuncId:=28
def N2:AC:=
(wJ [oV 1 5 0,
oP 2 (.nilS 1 1),
oI 3 0] [1,2]
(wJ [oe 7 5 1,
kS 8 79 wd [.t 7],
mV 6 8,
oK 9 6 0,
oK 10 6 1,
oP 4 (.alloc wI),
oM 5 4 9,
mV 3 10] [2,3,4]
(.frz 4 true (.seq (wJ [mV 11 3,
zz 12 11 0] [2,3,4,12]
(.cond (.t 12)
(wJ [mV 13 3,
oP 2 (.mv (.c (.slice 1 []))),
mV 3 13] [2,3]
.ret)
.skip))
(.seq (wJ [oG 14 5 0 4,
ol 15 3 14,
oc 16 15,
oR 17 16,
oI 18 0] [2,4,17,18]
(.block 0
(.loop [2,4,17,18]
(wJ [xT 19 18 17] [2,4,17,18,19]
(.seq (.cond (.t 19)
.skip
(.exit 0))
(.seq (.block 1
(wJ [mV 20 18,
mV 5 20] [2,4,5,17,18]
(.seq (.qreg [oe 21 5 4,
oe 22 5 4,
mV 23 5,
kS 24 83 wn [.t 22,.t 23],
kS 25 68 kV [.t 21,.t 24],
xi 26 25] [2,4,5,17,18,26] [[],[],[],[1,2],wM 4,wM 5] [([0,1,2],3),([],4)] [5])
(.cond (.t 26)
(.reg [mV 27 2,
mV 28 5,
oP 29 (.lit 0 1 1 [(0,.t 28)]),
oP 30 (.append 1 8 (.t 27) (.t 29)),
mV 2 30] [2,4,17,18])
.skip))))
(.reg [xr 31 18 1,
mV 18 31] [2,4,17,18])))))))
(wJ [mV 32 2,
oP 2 (.mvd (.t 32)),
oI 3 0] [2,3]
.ret))))))
abbrev Tq:RsT:=[(2,none),(3,none)]
theorem TH:SpF 33 Il N2 Tq:=SpI Tryz.func28 (by kernel_rfl)
theorem Qq:au Tryz.prog Il = true:=by kernel_rfl
abbrev Ji:FuncId:=30
def Wc:AC:=
(wJ [oV 1 5 0,
oP 2 (.mv (.c (.slice 1 []))),
oI 3 0] [1]
(wJ [oe 8 5 1,
kS 9 79 wd [.t 8],
mV 7 9,
oK 10 7 0,
oK 11 7 1,
oP 4 (.alloc wI),
oM 5 4 10,
mV 5 11] [4,5]
(.frz 4 true (.seq (wJ [mV 12 5,
zz 13 12 0] [4,5,13]
(.cond (.t 13)
(wJ [mV 14 5,
oP 2 (.mv (.c (.slice 1 []))),
mV 3 14] [2,3]
.ret)
.skip))
(wJ [oe 15 5 4,
kS 16 85 wd [.t 15],
kS 17 84 wd [.t 16],
mV 6 17] [6]
(wJ [mV 18 6,
kS 19 86 wd [.t 18]] [6]
(wJ [mV 20 6,
kS 21 87 wd [.t 20],
oP 2 (.freeze 1 (.t 21)),
oI 3 0] [2,3]
.ret)))))))
abbrev Sq:RsT:=[(2,none),(3,none)]
theorem SM:SpF 22 Ji Wc Sq:=SpI Tryz.func30 (by kernel_rfl)
theorem O6:au Tryz.prog Ji = true:=by kernel_rfl
abbrev C7:FuncId:=32
def On:AC:=
(wJ [oV 3 5 0,
oV 5 1 2,
oP 6 (.alloc wy),
oI 7 0] [1,3,5,6]
(wJ [oe 11 5 3,
mV 12 1,
oP 13 (.mkfunc (.func 89) [] [.t 5]),
kS 14 88 wt [.t 11,.t 12,.t 13],
mV 10 14,
oK 15 10 0,
oK 16 10 1,
mV 8 15,
mV 9 16] [5,6,8,9]
(.seq (wJ [mV 17 9,
zz 18 17 0] [5,6,8,9,18]
(.cond (.t 18)
(wJ [oP 19 (.build wy []),
mV 20 9,
oM 2 6 19,
mV 7 20] [6,7]
.ret)
.skip))
(.seq (.qreg [mV 21 8,
mV 22 8,
oX 23 22,
ol 24 2 23,
oc 25 24,
oc 26 5,
oQ 27 1 25 26,
oc 28 27,
kS 29 90 wo [.t 21,.t 28],
oM 2 6 29,
oI 7 0] [6,7] [[],[],[1],[1,2],[1,2,3],[],[1,2,3,4,5],[1,2,3,4,5,6],wM 8,wM 9,wM 10] [([0,1,2,3,4,5,6,7],8),([],9)] [10])
.ret))))
abbrev UX:RsT:=[(6,some (some 2)),(7,none)]
theorem Wt:SpF 30 C7 On UX:=SpI Tryz.func32 (by kernel_rfl)
theorem J0:au Tryz.prog C7 = true:=by kernel_rfl
abbrev CX:FuncId:=34
def Qo:AC:=
(wJ [oV 3 5 0,
oV 5 1 2,
oP 6 (.alloc wy),
oI 7 0] [1,3,5,6]
(wJ [oe 11 5 3,
mV 12 1,
oP 13 (.mkfunc (.func 94) [] [.t 5]),
kS 14 88 wt [.t 11,.t 12,.t 13],
mV 10 14,
oK 15 10 0,
oK 16 10 1,
mV 8 15,
mV 9 16] [6,8,9]
(.seq (wJ [mV 17 9,
zz 18 17 0] [6,8,9,18]
(.cond (.t 18)
(wJ [oP 19 (.build wy []),
mV 20 9,
oM 2 6 19,
mV 7 20] [6,7]
.ret)
.skip))
(wJ [mV 21 8,
mV 22 8,
oX 23 22,
ol 24 3 23,
oc 25 24,
kS 26 90 wo [.t 21,.t 25],
oM 2 6 26,
oI 7 0] [6,7]
.ret))))
abbrev TU:RsT:=[(6,some (some 2)),(7,none)]
theorem Uk:SpF 27 CX Qo TU:=SpI Tryz.func34 (by kernel_rfl)
theorem He:au Tryz.prog CX = true:=by kernel_rfl
abbrev J2:FuncId:=36
def Nl:AC:=
(wJ [oV 1 5 0,
⟨some 2,none, .mv (.c (.str ⟨#[]⟩))⟩,
oI 3 0] [1]
(.seq (wJ [oe 8 5 1,
kS 9 16 wd [.t 8],
mV 7 9,
oK 10 7 0,
oK 11 7 1,
oK 12 7 2,
mV 4 10,
mV 5 11,
mV 6 12] [1,6]
(wJ [mV 13 6,
zz 14 13 0] [1,6,14]
(.cond (.t 14)
(wJ [mV 15 6,
⟨some 2,none, .mv (.c (.str ⟨#[]⟩))⟩,
mV 3 15] [2,3]
.ret)
.skip)))
(wJ [oe 16 5 1,
oP 17 (.build wI [(0,5,.t 16)]),
kS 18 96 wd [.t 17],
mV 2 18,
oI 3 0] [2,3]
.ret)))
abbrev SF:RsT:=[(2,none),(3,none)]
theorem T6:SpF 19 J2 Nl SF:=SpI Tryz.func36 (by kernel_rfl)
theorem Rf:au Tryz.prog J2 = true:=by kernel_rfl
abbrev KE:FuncId:=38
def JY:AC:=
(wJ [oP 2 (.alloc wI),
oP 3 (.alloc [.int .i64 0])] [0,2,3]
(.seq (wJ [mV 12 0,
oP 13 (.lenStr (.t 12)),
zI 14 13 4000] [0,2,3,14]
(.cond (.t 14)
(wJ [oP 15 (.loadd (some 5) (.t 2)),
oM 5 2 15,
oN (.store 1 (.t 3) (cI 3))] [2,3]
.ret)
.skip))
(.seq (.dfr 16 98 [.t 2,.t 3] [0,2,3])
(wJ [oP 4 (.alloc [.slice 1 [], .slice 1 [], .mint 4, .mint 5, .mint 4])] [0,2,3,4]
(.seq (wJ [mV 17 0,
mV 5 17] [0,2,3,4,5]
(.block 0
(.loop [0,2,3,4,5]
(.seq (wJ [mV 18 5,
⟨some 19,none, .bin .neq (.t 18) (.c (.str ⟨#[]⟩))⟩] [0,2,3,4,5,19]
(.cond (.t 19)
.skip
(.exit 0)))
(.block 1
(wJ [mV 21 5,
⟨some 22,none, .call (.f 99) wo [.t 21,(.c (.str ⟨#[10]⟩))]⟩,
mV 20 22,
oK 23 20 0,
oK 24 20 1,
oK 25 20 2,
mV 6 23,
mV 7 24,
mV 8 25] [0,2,3,4,6,7,8]
(wJ [mV 26 8,
kS 27 100 wl [.t 26]] [0,2,3,4,6,7]
(wJ [mV 28 6,
⟨some 29,none, .call (.f 102) wo [.t 28,(.c (.str ⟨#[32]⟩))]⟩,
kS 30 101 kV [.t 4,.t 29]] [0,2,3,4,7]
(.reg [mV 31 7,
mV 5 31] [0,2,3,4,5])))))))))
(wJ [oG 33 5 0 4,
oe 34 5 33,
kS 35 16 wd [.t 34],
mV 32 35,
oK 36 32 0,
oK 37 32 1,
oK 38 32 2,
mV 9 36,
mV 10 37,
mV 11 38] [0,2,3,4,11]
(wJ [mV 39 11,
zu 40 39 0,
mV 41 40,
gT 42 41 (.load (some 5) (.t 4)),
gT 43 41 (.call (.f 96) wd [.t 42]),
zR 44 41 0,
gT 45 41 (.bin .eql (.t 43) (.t 44)),
oP 46 (.pick (.t 41) (.t 45) (.c (.bool false))),
kS 47 100 wl [.t 46]] [2,3,4]
(wJ [oG 48 5 0 4,
oP 49 (.loadd (some 5) (.t 48)),
oM 5 2 49,
oN (.store 1 (.t 3) (cI 0))] [2,3]
.ret))))))))
abbrev RS:RsT:=[(2,some (some 5)),(3,some none)]
theorem SS:x9 Tryz.prog Tryz.f38 50 JY RS = true:=by kernel_rfl
theorem UN {args:List ag} {σ:af} {R:fq → af → Prop} (ha:args.length ≤ 50) (h:AW Tryz.prog 50 none JY (Aj Tryz.prog RS R) { v:=fE args 0,ds:=[] } σ):Spec Tryz.prog KE args σ R:=Spec.Nk Tryz.func38 SS ha h
theorem OY:au Tryz.prog KE = true:=by kernel_rfl
abbrev Nu:FuncId:=40
def Ol:AC:=
(wJ [oV 2 5 0,
oV 3 5 1,
oP 4 (.mv (.c (.bool false)))] [2,3]
(wJ [ol 7 0 2,
oc 8 7,
ol 9 0 3,
oc 10 9,
kS 11 106 kV [.t 8,.t 10],
mV 12 11,
ki 13 12 1 2,
zS 14 12 13,
ki 15 12 1 3,
zS 16 12 15,
gT 17 12 (.call (.f 106) kV [.t 14,.t 16]),
oP 18 (.pick (.t 12) (.t 17) (.c (.bool false))),
mV 19 18,
ki 20 19 2 2,
zS 21 19 20,
ki 22 19 2 3,
zS 23 19 22,
gT 24 19 (.call (.f 107) kV [.t 21,.t 23]),
oP 25 (.pick (.t 19) (.t 24) (.c (.bool false))),
mV 26 25,
ki 27 26 4 2,
zS 28 26 27,
ki 29 26 4 3,
zS 30 26 29,
gT 31 26 (.call (.f 107) kV [.t 28,.t 30]),
oP 32 (.pick (.t 26) (.t 31) (.c (.bool false))),
mV 33 32,
ki 34 33 3 2,
zS 35 33 34,
gT 36 33 (.len (.t 35)),
ki 37 33 3 3,
zS 38 33 37,
gT 39 33 (.len (.t 38)),
gT 40 33 (.bin .eql (.t 36) (.t 39)),
oP 41 (.pick (.t 33) (.t 40) (.c (.bool false))),
mV 5 41] [2,3,5]
(.seq (wJ [oI 6 0] [2,3,5,6]
(.block 0
(.loop [2,3,5,6]
(.seq (wJ [mV 42 6,
ol 43 3 2,
oc 44 43,
oR 45 44,
xT 46 42 45,
mV 47 46,
zR 48 47 5,
oP 49 (.pick (.t 47) (.t 48) (.c (.bool false)))] [2,3,5,6,49]
(.cond (.t 49)
.skip
(.exit 0)))
(.seq (.block 1
(.dreg [ol 52 3 2,
oc 53 52,
mV 54 6,
oQ 55 5 53 54,
oe 56 5 55,
ol 57 3 3,
oc 58 57,
mV 59 6,
oQ 60 5 58 59,
oe 61 5 60,
oP 62 (.eqa false [.i, .i, .i, .i, .i] (.t 56) (.t 61)),
mV 5 62] [2,3,5,6] [[],[0],[],[0,1,2],wM 4,[],[5],[],[5,6,7],[5,6,7,8],wM 10,wM 11]))
(.reg [mV 50 6,
xr 51 50 1,
mV 6 51] [2,3,5,6]))))))
(wJ [mV 63 5,
mV 4 63] [4]
.ret))))
abbrev SV:RsT:=[(4,none)]
theorem UM:SpF 64 Nu Ol SV:=SpI Tryz.func40 (by kernel_rfl)
theorem Oy:au Tryz.prog Nu = true:=by kernel_rfl
abbrev JI:FuncId:=41
def OP:AC:=
(wJ [oP 2 (.alloc wI)] [0,2]
(wJ [⟨some 4,none, .lit 0 1 2 [(0,(.c (.str ⟨#[111,105,108]⟩))),(1,(.c (.str ⟨#[112,97,105,110,116]⟩)))]⟩,
⟨some 5,none, .lit 0 1 2 [(0,(.c (.str ⟨#[121,97,114,100]⟩))),(1,(.c (.str ⟨#[112,105,116]⟩)))]⟩,
kS 6 42 wo [cI 1000,cI 1000],
oP 7 (.build wx [(2,2,.t 6)]),
oP 8 (.lit 0 4 1 [(0,.t 7)]),
oP 9 (.build ww [(2,1,cI 1),(3,1,cI 600),(4,1,cI 1)]),
oP 10 (.build ww [(2,1,cI 1),(3,1,cI 500)]),
oP 11 (.build ww [(2,1,cI (-1)),(3,1,cI 300),(4,1,cI (-1))]),
oP 12 (.lit 0 5 3 [(0,.t 9),(1,.t 10),(2,.t 11)]),
kS 13 42 wo [cI 100,cI 100],
oP 14 (.build wx [(2,2,.t 13)]),
kS 15 42 wo [cI 600,cI 600],
oP 16 (.build wx [(1,1,cI 1),(2,2,.t 15)]),
oP 17 (.lit 0 4 2 [(0,.t 14),(1,.t 16)]),
oP 18 (.build wI [(0,1,.t 4),(1,1,.t 5),(2,1,.t 8),(3,1,.t 12),(4,1,.t 17)]),
oP 3 (.alloc wI),
oM 5 3 18] [0,2,3]
(.seq (wJ [mV 19 0] [2,3,19]
(.cond (.t 19)
(.reg [kS 20 42 wo [cI 100,cI 200],
oP 21 (.build wx [(2,2,.t 20)]),
oP 22 (.lit 0 4 1 [(0,.t 21)]),
ol 23 4 3,
oM 1 23 22] [2,3])
.skip))
(wJ [oP 24 (.loadd (some 5) (.t 3)),
oM 5 2 24] [2]
.ret))))
abbrev MG:RsT:=[(2,some (some 5))]
theorem TT:SpF 25 JI OP MG:=SpI Tryz.func41 (by kernel_rfl)
theorem HQ:au Tryz.prog JI = true:=by kernel_rfl
abbrev MY:FuncId:=42
def Oi:AC:=
(wJ [oP 4 (.alloc wy)] [0,1,4]
(wJ [mV 5 0,
mV 6 1,
oP 7 (.build wy [(0,1,.t 5),(1,1,.t 6)]),
oM 2 4 7] [4]
.ret))
abbrev UO:RsT:=[(4,some (some 2))]
theorem Us:SpF 8 MY Oi UO:=SpI Tryz.func42 (by kernel_rfl)
theorem p8:au Tryz.prog MY = true:=by kernel_rfl
abbrev Wb:FuncId:=43
def Wg:AC:=
(wJ [oV 1 5 0,
oP 2 (.mv (.c (.bool false)))] [1]
(wJ [oe 7 5 1,
kS 8 17 wd [.t 7],
mV 6 8,
oK 9 6 0,
oK 10 6 1,
oK 11 6 2,
mV 3 9,
mV 4 10,
mV 5 11] [5]
(wJ [mV 12 5,
zu 13 12 0,
mV 2 13] [2]
.ret)))
abbrev Wk:RsT:=[(2,none)]
theorem Wn:SpF 14 Wb Wg Wk:=SpI Tryz.func43 (by kernel_rfl)
theorem Wj:au Tryz.prog Wb = true:=by kernel_rfl
abbrev Wa:FuncId:=44
def Wf:AC:=
(wJ [oV 2 5 0,
oV 3 3 1,
oP 4 (.alloc wI),
oP 5 (.mv (.c (.slice 1 []))),
oP 6 (.mv (.c (.slice 1 [])))] [2,3,4]
(wJ [oP 7 (.alloc [.int .i64 0, .int .i64 0, .int .i64 0, .int .i64 0, .int .i64 0, .int .i64 0, .int .i64 0, .int .i64 0, .int .i64 0, .int .i64 0, .int .i64 0, .int .i64 0, .int .i64 0, .int .i64 0, .int .i64 0, .int .i64 0])] [2,3,4,7]
(.seq (wJ [oI 8 0] [2,3,4,7,8]
(.block 0
(.loop [2,3,4,7,8]
(.seq (wJ [mV 19 8,
ol 20 2 2,
oc 21 20,
oR 22 21,
xT 23 19 22] [2,3,4,7,8,23]
(.cond (.t 23)
.skip
(.exit 0)))
(.seq (.block 1
(wJ [ol 26 2 2,
oc 27 26,
mV 28 8,
oQ 29 4 27 28,
oe 30 4 29,
oP 9 (.alloc wx),
oM 4 9 30] [2,3,4,7,8,9]
(.frz 9 true (.dreg [ol 31 0 9,
oc 32 31,
ol 33 1 9,
oc 34 33,
oG 35 2 2 9,
ol 36 0 35,
oc 37 36,
ol 38 0 3,
oc 39 38,
mV 40 8,
kS 41 108 wn [.t 39,.t 40],
oG 42 2 2 9,
ol 43 1 42,
oc 44 43,
oG 45 2 2 9,
ol 46 0 45,
oc 47 46,
xx 48 44 47,
xr 49 48 1,
oP 50 (.bin .rem (.t 41) (.t 49)),
xn 51 37 50,
oP 52 (.ixA 4 4 (some 4) (.t 7) (.t 32)),
oP 53 (.ixA 4 1 none (.t 52) (.t 34)),
oM 1 53 51] [2,3,4,7,8] [[],[0],[],[2],[],[4],[4,5],[],[7],[],[7,8,9],[],[11],[11,12],[],[14],[14,15],[11,12,13,14,15,16],[11,12,13,14,15,16,17],[7,8,9,10,11,12,13,14,15,16,17,18],[4,5,6,7,8,9,10,11,12,13,14,15,16,17,18,19],[0,1],wM 22,wM 23]))))
(.reg [mV 24 8,
xr 25 24 1,
mV 8 25] [2,3,4,7,8]))))))
(wJ [oe 54 5 2,
oP 10 (.alloc wI),
oM 5 10 54] [2,3,4,7,10]
(wJ [oP 55 (.lit 2 5 0 []),
ol 56 3 2,
oc 57 56,
oP 58 (.append 5 40 (.t 55) (.t 57)),
ol 59 3 10,
oM 1 59 58,
ol 60 4 10,
oN (.storem 4 (.t 60))] [2,3,4,7,10]
(wJ [ol 61 3 2,
oc 62 61,
oR 63 62,
oP 64 (.mksl 2 1 8 (.int .i64 0) (.t 63) (.t 63)),
mV 11 64] [2,3,4,7,10,11]
(wJ [oP 12 (.nilS 1 1)] [2,3,4,7,10,11,12]
(.seq (wJ [oI 13 0] [2,3,4,7,10,11,12,13]
(.block 2
(.loop [2,3,4,7,10,11,12,13]
(.seq (wJ [mV 65 13,
ol 66 3 2,
oc 67 66,
oR 68 67,
xT 69 65 68] [2,3,4,7,10,11,12,13,69]
(.cond (.t 69)
.skip
(.exit 2)))
(.seq (.block 3
(wJ [ol 72 3 2,
oc 73 72,
mV 74 13,
oQ 75 5 73 74,
oe 76 5 75,
oP 14 (.alloc ww),
oM 5 14 76] [2,3,4,7,10,11,12,13,14]
(.frz 14 true (.seq (wJ [oe 77 5 2,
mV 78 13,
kS 79 46 wn [.t 77,.t 78]] [2,3,4,7,10,11,12,13,14,79]
(.cond (.t 79)
(wJ [oI 15 5000] [2,3,4,7,10,11,12,13,14,15]
(.seq (wJ [ol 80 1 14,
oc 81 80,
zz 82 81 (-1)] [2,3,4,7,10,11,12,13,14,15,82]
(.cond (.t 82)
(.dreg [ol 83 0 14,
oc 84 83,
ol 85 1 14,
oc 86 85,
oP 87 (.ixA 4 4 (some 4) (.t 7) (.t 84)),
oP 88 (.ixA 4 1 none (.t 87) (.t 86)),
oc 89 88,
oP 90 (.mn [cI 1000000,.t 89]),
mV 15 90] [2,3,4,7,10,11,12,13,14,15] [[],[0],[],[2],[0,1],wM 5,wM 6,wM 7,wM 8])
.skip))
(wJ [mV 91 11,
mV 92 13,
ol 93 0 3,
oc 94 93,
mV 95 13,
oP 96 (.bin .mul (cI 3) (.t 95)),
xr 97 96 1,
kS 98 108 wn [.t 94,.t 97],
mV 99 15,
xr 100 99 1,
oP 101 (.bin .rem (.t 98) (.t 100)),
oQ 102 1 91 92,
oM 1 102 101] [2,3,4,7,10,11,12,13,14]
(.seq (wJ [ol 103 1 14,
oc 104 103,
zz 105 104 (-1)] [2,3,4,7,10,11,12,13,14,105]
(.cond (.t 105)
(.dreg [ol 106 0 14,
oc 107 106,
ol 108 1 14,
oc 109 108,
ol 110 0 14,
oc 111 110,
ol 112 1 14,
oc 113 112,
oP 114 (.ixA 4 4 (some 4) (.t 7) (.t 111)),
oP 115 (.ixA 4 1 none (.t 114) (.t 113)),
oc 116 115,
mV 117 11,
mV 118 13,
oQ 119 1 117 118,
oc 120 119,
xx 121 116 120,
oP 122 (.ixA 4 4 (some 4) (.t 7) (.t 107)),
oP 123 (.ixA 4 1 none (.t 122) (.t 109)),
oM 1 123 121] [2,3,4,7,10,11,12,13,14] [[],[0],[],[2],[],[4],[],[6],[4,5],[4,5,6,7,8],[4,5,6,7,8,9],[],[],[11,12],[11,12,13],[4,5,6,7,8,9,10,11,12,13,14],[0,1],wM 17,wM 18])
.skip))
(wJ [ol 124 2 14,
oc 125 124,
zz 126 125 (-1)] [2,3,4,7,10,11,12,13,14,126]
(.cond (.t 126)
(.dreg [ol 127 0 14,
oc 128 127,
ol 129 2 14,
oc 130 129,
ol 131 0 14,
oc 132 131,
ol 133 2 14,
oc 134 133,
oP 135 (.ixA 4 4 (some 4) (.t 7) (.t 132)),
oP 136 (.ixA 4 1 none (.t 135) (.t 134)),
oc 137 136,
mV 138 11,
mV 139 13,
oQ 140 1 138 139,
oc 141 140,
xn 142 137 141,
oP 143 (.ixA 4 4 (some 4) (.t 7) (.t 128)),
oP 144 (.ixA 4 1 none (.t 143) (.t 130)),
oM 1 144 142] [2,3,4,7,10,11,12,13] [[],[0],[],[2],[],[4],[],[6],[4,5],[4,5,6,7,8],[4,5,6,7,8,9],[],[],[11,12],[11,12,13],[4,5,6,7,8,9,10,11,12,13,14],[0,1],wM 17,wM 18])
.skip))))))
(.reg [mV 145 11,
mV 146 13,
mV 147 11,
ol 148 4 14,
oc 149 148,
oQ 150 1 147 149,
oc 151 150,
oQ 152 1 145 146,
oM 1 152 151] [2,3,4,7,10,11,12,13])))
(.seq (.dreg [ol 153 3 10,
oc 154 153,
mV 155 13,
mV 156 11,
mV 157 13,
oQ 158 1 156 157,
oc 159 158,
oQ 160 5 154 155,
ol 161 3 160,
oM 1 161 159] [2,3,4,7,10,11,12,13] [[],[0],[],[],[],[3,4],[3,4,5],wM 7,wM 8,wM 9])
(wJ [ol 162 1 3,
oc 163 162,
mV 164 13,
oP 165 (.bin .shr (.t 163) (.t 164)),
oP 166 (.bin .rem (.t 165) (.c (.int .u16 2))),
oP 167 (.bin .eql (.t 166) (.c (.int .u16 1)))] [2,3,4,7,10,11,12,13,167]
(.cond (.t 167)
(wJ [mV 168 12,
mV 169 13,
oP 170 (.lit 0 1 1 [(0,.t 169)]),
oP 171 (.append 1 8 (.t 168) (.t 170)),
mV 12 171] [2,3,4,7,10,11,12,13]
(.dreg [ol 172 3 10,
oc 173 172,
mV 174 13,
ol 175 0 3,
oc 176 175,
mV 177 13,
oP 178 (.bin .mul (cI 5) (.t 177)),
xr 179 178 2,
kS 180 108 wn [.t 176,.t 179],
oP 181 (.bin .rem (.t 180) (cI 1000001)),
oQ 182 5 173 174,
ol 183 3 182,
oM 1 183 181] [2,3,4,7,10,11,12,13] [[],[0],[],[],[3],[],[5],[5,6],[3,4,5,6,7],[3,4,5,6,7,8],wM 10,wM 11,wM 12]))
.skip)))))))
(.reg [mV 70 13,
xr 71 70 1,
mV 13 71] [2,3,4,7,10,11,12,13]))))))
(.seq (wJ [oI 16 0] [2,3,4,7,10,11,12,16]
(.block 4
(.loop [2,3,4,7,10,11,12,16]
(.seq (wJ [mV 184 16,
ol 185 4 2,
oc 186 185,
oR 187 186,
xT 188 184 187] [2,3,4,7,10,11,12,16,188]
(.cond (.t 188)
.skip
(.exit 4)))
(.seq (.block 5
(wJ [ol 191 4 2,
oc 192 191,
mV 193 16,
oQ 194 4 192 193,
oe 195 4 194,
oP 17 (.alloc wx),
oM 4 17 195] [2,3,4,7,10,11,12,16,17]
(.seq (.dreg [ol 196 0 17,
oc 197 196,
ol 198 1 17,
oc 199 198,
oP 200 (.ixA 4 4 (some 4) (.t 7) (.t 197)),
oP 201 (.ixA 4 1 none (.t 200) (.t 199)),
oc 202 201,
mV 18 202] [2,3,4,7,10,11,12,16,17,18] [[],[0],[],[2],[0,1],wM 5,wM 6,wM 7])
(wJ [mV 203 18,
oP 204 (.bin .leq (.t 203) (cI 1000000))] [2,3,4,7,10,11,12,16,17,18,204]
(.cond (.t 204)
(.seq (.dreg [mV 205 18,
ol 206 2 3,
oc 207 206,
mV 208 16,
oP 209 (.bin .mul (cI 2) (.t 208)),
kS 210 108 wn [.t 207,.t 209],
mV 211 18,
xr 212 211 1,
oP 213 (.bin .rem (.t 210) (.t 212)),
xx 214 205 213,
mV 215 18,
ol 216 2 3,
oc 217 216,
mV 218 16,
oP 219 (.bin .mul (cI 2) (.t 218)),
xr 220 219 1,
kS 221 108 wn [.t 217,.t 220],
mV 222 18,
oP 223 (.bin .sub (cI 1000000) (.t 222)),
xr 224 223 1,
oP 225 (.bin .rem (.t 221) (.t 224)),
xn 226 215 225,
kS 227 42 wo [.t 214,.t 226],
oG 228 2 2 17,
oM 2 228 227] [2,3,4,7,10,11,12,16,17] [[],[],[1],[],[3],[1,2,3,4],[],[6],[1,2,3,4,5,6,7],wM 9,[],[],[11],[],[13],[13,14],[1,2,3,4,5,11,12,13,14,15],[],[17],[17,18],[1,2,3,4,5,11,12,13,14,15,16,17,18,19],[1,2,3,4,5,10,11,12,13,14,15,16,17,18,19,20],wM 22,wM 23,wM 24])
(.reg [ol 229 4 10,
oc 230 229,
oe 231 4 17,
oP 232 (.lit 0 4 1 [(0,.t 231)]),
oP 233 (.append 4 32 (.t 230) (.t 232)),
ol 234 4 10,
oM 1 234 233] [2,3,4,7,10,11,12,16]))
.skip)))))
(.reg [mV 189 16,
xr 190 189 1,
mV 16 190] [2,3,4,7,10,11,12,16]))))))
(.DL 10 3 5 (wJ [oP 235 (.loadd (some 5) (.t 10)),
mV 236 11,
mV 237 12,
oM 5 4 235,
oP 5 (.freeze 1 (.t 236)),
oP 6 (.mvd (.t 237))] [4,5,6]
.ret)))))))))))
abbrev Wp:RsT:=[(4,some (some 5)),(5,none),(6,none)]
theorem Wv:SpF 238 Wa Wf Wp:=SpI Tryz.func44 (by kernel_rfl)
theorem Ws:au Tryz.prog Wa = true:=by kernel_rfl
abbrev Nt:FuncId:=45
def Qe:AC:=
(wJ [oP 4 (.mv (.c (.bool false)))] [0,1]
(.seq (wJ [oI 5 0] [0,1,5]
(.block 0
(.loop [0,1,5]
(.seq (wJ [mV 6 5,
mV 7 0,
oR 8 7,
xT 9 6 8] [0,1,5,9]
(.cond (.t 9)
.skip
(.exit 0)))
(.seq (.block 1
(wJ [mV 12 0,
mV 13 5,
oQ 14 1 12 13,
oc 15 14,
mV 16 1,
zh 17 15 16] [0,1,5,17]
(.cond (.t 17)
(wJ [oP 4 (.mv (.c (.bool true)))] [4]
.ret)
.skip)))
(.reg [mV 10 5,
xr 11 10 1,
mV 5 11] [0,1,5]))))))
(wJ [oP 4 (.mv (.c (.bool false)))] [4]
.ret)))
abbrev TS:RsT:=[(4,none)]
theorem Ue:SpF 18 Nt Qe TS:=SpI Tryz.func45 (by kernel_rfl)
theorem BL:au Tryz.prog Nt = true:=by kernel_rfl
abbrev Nh:FuncId:=46
def MQ:AC:=
(wJ [oV 2 5 0,
oP 4 (.mv (.c (.bool false)))] [1,2]
(wJ [ol 5 3 2,
oc 6 5,
mV 7 1,
oQ 8 5 6 7,
ol 9 4 8,
oc 10 9,
zu 11 10 (-1),
mV 12 11,
kL 13 12 3 2,
kD 14 12 13,
kw 15 12 1,
kR 16 12 5 14 15,
kL 17 12 4 16,
kD 18 12 17,
kw 19 12 1,
gF 20 12 (.bin .gtr (.t 18) (.t 19)),
oP 21 (.pick (.t 12) (.c (.bool true)) (.t 20)),
mV 4 21] [4]
.ret))
abbrev UB:RsT:=[(4,none)]
theorem Sn:SpF 22 Nh MQ UB:=SpI Tryz.func46 (by kernel_rfl)
theorem Gt:au Tryz.prog Nh = true:=by kernel_rfl
abbrev MB:FuncId:=52
def Rx:AC:=
(wJ [oP 2 (.mv (.c (.bool false)))] [0]
(.seq (wJ [mV 6 0,
oP 7 (.lenStr (.t 6)),
kS 8 109 [false,false,false] [.t 7,cI 1,cI 16],
xi 9 8,
mV 10 9,
kw 11 10 0,
gF 12 10 (.ixStr (.t 11) (cI 0)),
gF 13 10 (.bin .lss (.t 12) (.c (.int .u8 97))),
oP 14 (.pick (.t 10) (.c (.bool true)) (.t 13)),
mV 15 14,
kw 16 15 0,
gF 17 15 (.ixStr (.t 16) (cI 0)),
gF 18 15 (.bin .gtr (.t 17) (.c (.int .u8 122))),
oP 19 (.pick (.t 15) (.c (.bool true)) (.t 18))] [0,19]
(.cond (.t 19)
(wJ [oP 2 (.mv (.c (.bool false)))] [2]
.ret)
.skip))
(.seq (wJ [oI 3 1] [0,3]
(.block 0
(.loop [0,3]
(.seq (wJ [mV 20 3,
mV 21 0,
oP 22 (.lenStr (.t 21)),
xT 23 20 22] [0,3,23]
(.cond (.t 23)
.skip
(.exit 0)))
(.seq (.block 1
(.seq (.dreg [mV 26 0,
mV 27 3,
oP 28 (.ixStr (.t 26) (.t 27)),
oP 29 (.bin .geq (.t 28) (.c (.int .u8 97))),
mV 30 29,
zR 31 30 0,
zR 32 30 3,
gT 33 30 (.ixStr (.t 31) (.t 32)),
gT 34 30 (.bin .leq (.t 33) (.c (.int .u8 122))),
oP 35 (.pick (.t 30) (.t 34) (.c (.bool false))),
mV 36 0,
mV 37 3,
oP 38 (.ixStr (.t 36) (.t 37)),
oP 39 (.bin .geq (.t 38) (.c (.int .u8 48))),
mV 40 39,
zR 41 40 0,
zR 42 40 3,
gT 43 40 (.ixStr (.t 41) (.t 42)),
gT 44 40 (.bin .leq (.t 43) (.c (.int .u8 57))),
oP 45 (.pick (.t 40) (.t 44) (.c (.bool false))),
mV 4 35,
mV 5 45] [0,3,4,5] [[],[],[0,1],[0,1,2],wM 4,wM 5,wM 5,wM 7,wM 8,wM 9,[],[],[10,11],[10,11,12],[0,1,2,3,4,10,11,12,13],[0,1,2,3,4,10,11,12,13,14],[0,1,2,3,4,10,11,12,13,14],[0,1,2,3,4,10,11,12,13,14,15,16],[0,1,2,3,4,10,11,12,13,14,15,16,17],[0,1,2,3,4,10,11,12,13,14,15,16,17,18],wM 15,wM 21])
(wJ [mV 46 4,
xi 47 46,
mV 48 47,
zR 49 48 5,
gT 50 48 (.un .not (.t 49)),
oP 51 (.pick (.t 48) (.t 50) (.c (.bool false)))] [0,3,51]
(.cond (.t 51)
(wJ [oP 2 (.mv (.c (.bool false)))] [2]
.ret)
.skip))))
(.reg [mV 24 3,
xr 25 24 1,
mV 3 25] [0,3]))))))
(wJ [oP 2 (.mv (.c (.bool true)))] [2]
.ret))))
abbrev TE:RsT:=[(2,none)]
theorem UZ:SpF 52 MB Rx TE:=SpI Tryz.func52 (by kernel_rfl)
theorem Na:au Tryz.prog MB = true:=by kernel_rfl
abbrev Hf:FuncId:=53
def Qi:AC:=
(wJ [oV 3 1 0,
oV 4 1 1,
oP 6 (.mv (.c (.bool false)))] [2,3,4]
(wJ [mV 7 2,
oP 8 (.mkfunc (.func 111) [] [.t 3,.t 4]),
kS 9 110 wn [.t 7,.t 8],
mV 6 9] [6]
.ret))
abbrev Uu:RsT:=[(6,none)]
theorem SX:SpF 10 Hf Qi Uu:=SpI Tryz.func53 (by kernel_rfl)
theorem cm:au Tryz.prog Hf = true:=by kernel_rfl
abbrev KT:FuncId:=54
def RE:AC:=
(wJ [oI 1 0,
oI 2 0] [0]
(wJ [oG 3 5 0 0,
ol 4 0 3,
oc 5 4,
kS 6 55 wd [.t 5],
oK 7 6 0,
oK 8 6 1,
mV 1 7,
mV 2 8] [1,2]
.ret))
abbrev Ti:RsT:=[(1,none),(2,none)]
theorem Sj:SpF 9 KT RE Ti:=SpI Tryz.func54 (by kernel_rfl)
theorem QO:au Tryz.prog KT = true:=by kernel_rfl
abbrev NR:FuncId:=55
def Q5:AC:=
(wJ [oV 1 1 0,
oI 2 0,
oI 3 0] [1]
(wJ [oc 4 1,
oP 5 (.mkfunc (.func 113) [] [.t 1]),
kS 6 112 wn [.t 4,.t 5],
oK 7 6 0,
oK 8 6 1,
mV 2 7,
mV 3 8] [2,3]
.ret))
abbrev Ul:RsT:=[(2,none),(3,none)]
theorem T1:SpF 9 NR Q5 Ul:=SpI Tryz.func55 (by kernel_rfl)
theorem Qz:au Tryz.prog NR = true:=by kernel_rfl
abbrev Ka:FuncId:=56
def Rm:AC:=
(wJ [oI 1 0,
oI 2 0] [0]
(wJ [oG 3 5 0 0,
ol 4 1 3,
oc 5 4,
kS 6 55 wd [.t 5],
oK 7 6 0,
oK 8 6 1,
mV 1 7,
mV 2 8] [1,2]
.ret))
abbrev SY:RsT:=[(1,none),(2,none)]
theorem Sy:SpF 9 Ka Rm SY:=SpI Tryz.func56 (by kernel_rfl)
theorem O4:au Tryz.prog Ka = true:=by kernel_rfl
abbrev Kh:FuncId:=57
def Qx:AC:=
(wJ [oI 1 0,
oI 2 0] [0]
(wJ [oe 3 5 0,
oG 4 5 0 0,
ol 5 2 4,
oc 6 5,
kS 7 58 kV [.t 3,.t 6],
oK 8 7 0,
oK 9 7 1,
mV 1 8,
mV 2 9] [1,2]
.ret))
abbrev UP:RsT:=[(1,none),(2,none)]
theorem Tr:SpF 10 Kh Qx UP:=SpI Tryz.func57 (by kernel_rfl)
theorem OW:au Tryz.prog Kh = true:=by kernel_rfl
abbrev Nw:FuncId:=58
def QT:AC:=
(wJ [oV 2 5 0,
oI 4 0,
oI 5 0] [1,2]
(wJ [oP 7 (.mnew),
oP 6 (.alloc [.nilmap]),
oM 1 6 7] [1,2,6]
(.frz 6 false (wJ [mV 8 1,
oP 9 (.mkfunc (.func 117) [] [.t 6,.t 2]),
kS 10 116 wn [.t 8,.t 9],
oK 11 10 0,
oK 12 10 1,
mV 4 11,
mV 5 12] [4,5]
.ret))))
abbrev US:RsT:=[(4,none),(5,none)]
theorem Si:SpF 13 Nw QT US:=SpI Tryz.func58 (by kernel_rfl)
theorem O3:au Tryz.prog Nw = true:=by kernel_rfl
abbrev Kb:FuncId:=59
def QW:AC:=
(wJ [oI 1 0,
oI 2 0] [0]
(wJ [oG 3 5 0 0,
ol 4 3 3,
oc 5 4,
oe 6 5 0,
oP 7 (.mkfunc (.func 61) [.t 6] []),
kS 8 60 wn [.t 5,.t 7],
oK 9 8 0,
oK 10 8 1,
mV 1 9,
mV 2 10] [1,2]
.ret))
abbrev Tw:RsT:=[(1,none),(2,none)]
theorem Ut:SpF 11 Kb QW Tw:=SpI Tryz.func59 (by kernel_rfl)
theorem QC:au Tryz.prog Kb = true:=by kernel_rfl
abbrev Km:FuncId:=60
def RU:AC:=
(wJ [oI 4 0,
oI 5 0] [0,1]
(.seq (wJ [mV 8 0,
oR 9 8,
oI 10 0] [1,8,9,10]
(.block 0
(.loop [1,8,9,10]
(wJ [xT 11 10 9] [1,8,9,10,11]
(.seq (.cond (.t 11)
.skip
(.exit 0))
(.seq (.block 1
(wJ [mV 12 10,
oQ 13 5 8 10,
oe 14 5 13,
oP 7 (.alloc ww),
mV 6 12,
oM 5 7 14] [1,6,7,8,9,10]
(.frz 7 true (wJ [mV 15 1,
mV 16 6,
oe 17 5 7,
oP 18 (.call (.t 15) wo [.t 16,.t 17]),
mV 5 18] [1,5,6,8,9,10]
(wJ [mV 19 5,
zz 20 19 0] [1,5,6,8,9,10,20]
(.cond (.t 20)
(wJ [mV 21 6,
mV 22 5,
mV 4 21,
mV 5 22] [4,5]
.ret)
.skip))))))
(.reg [xr 23 10 1,
mV 10 23] [1,8,9,10])))))))
(wJ [oI 4 0,
oI 5 0] [4,5]
.ret)))
abbrev Tf:RsT:=[(4,none),(5,none)]
theorem T2:SpF 24 Km RU Tf:=SpI Tryz.func60 (by kernel_rfl)
theorem Sw:au Tryz.prog Km = true:=by kernel_rfl
abbrev KH:FuncId:=61
def yt:AC:=
(wJ [oV 3 5 0,
oP 5 (.box 5 (.t 2)),
oI 6 0] [1,3,5]
(.seq (.block 0
(wJ [oG 9 5 0 3,
ol 10 0 9,
oc 11 10,
oR 12 11,
xC 13 12 1,
ol 14 0 5,
oc 15 14,
oP 16 (.lit 0 1 1 [(0,.t 15)]),
kS 17 53 [false,false,true] [cI 0,.t 13,.t 16],
mV 18 17,
gF 19 18 (.fieldAddr (some 5) 0 (.t 3)),
kL 20 18 1 19,
kD 21 18 20,
kN 22 18 21,
gF 23 18 (.bin .sub (.t 22) (cI 1)),
kL 24 18 1 5,
kD 25 18 24,
kL 26 18 2 5,
kD 27 18 26,
gF 28 18 (.lit 0 1 2 [(0,.t 25),(1,.t 27)]),
gF 29 18 (.call (.f 53) [false,false,true] [cI (-1),.t 23,.t 28]),
oP 30 (.pick (.t 18) (.c (.bool true)) (.t 29)),
mV 8 30] [1,3,5,8]
(.cond (.t 8)
(wJ [oI 6 4] [6]
.ret)
(wJ [ol 32 1 5,
oc 33 32,
ol 34 2 5,
oc 35 34,
zh 36 33 35,
mV 31 36] [1,3,5,31]
(.cond (.t 31)
(wJ [oI 6 2] [6]
.ret)
(wJ [ol 38 3 5,
oc 39 38,
oP 40 (.lit 0 1 1 [(0,.t 39)]),
kS 41 53 [false,false,true] [cI 0,cI 1000000,.t 40],
mV 37 41] [1,3,5,37]
(.cond (.t 37)
(wJ [oI 6 7] [6]
.ret)
(wJ [ol 43 4 5,
oc 44 43,
zu 45 44 (-1),
mV 42 45] [1,3,5,42]
(.cond (.t 42)
(wJ [oI 6 0] [6]
.ret)
(wJ [oG 47 5 0 3,
ol 48 3 47,
oc 49 48,
oR 50 49,
xC 51 50 1,
ol 52 4 5,
oc 53 52,
oP 54 (.lit 0 1 1 [(0,.t 53)]),
kS 55 53 [false,false,true] [cI 0,.t 51,.t 54],
mV 56 55,
kL 57 56 4 5,
kD 58 56 57,
kw 59 56 1,
gF 60 56 (.bin .eql (.t 58) (.t 59)),
oP 61 (.pick (.t 56) (.c (.bool true)) (.t 60)),
mV 46 61] [1,3,5,46]
(.cond (.t 46)
(wJ [oI 6 9] [6]
.ret)
.skip)))))))))))
(wJ [oG 62 5 0 3,
ol 63 3 62,
oc 64 63,
ol 65 4 5,
oc 66 65,
oQ 67 5 64 66,
oe 68 5 67,
oP 7 (.alloc ww),
oM 5 7 68] [1,5,7]
(wJ [ol 69 3 5,
oc 70 69,
ol 71 3 7,
oM 1 71 70] [1,5,7]
(wJ [mV 72 1,
ol 73 4 5,
oM 1 73 72] [5,7]
(.seq (wJ [oe 74 5 7,
oe 75 5 5,
oP 76 (.eqa true [.i, .i, .i, .i, .i] (.t 74) (.t 75))] [76]
(.cond (.t 76)
(wJ [oI 6 9] [6]
.ret)
.skip))
(wJ [oI 6 0] [6]
.ret)))))))
abbrev Wm:RsT:=[(6,none)]
theorem UR:SpF 77 KH yt Wm:=SpI Tryz.func61 (by kernel_rfl)
theorem S7:au Tryz.prog KH = true:=by kernel_rfl
abbrev JV:FuncId:=62
def QM:AC:=
(wJ [oI 1 0,
oI 2 0] [0]
(wJ [oe 3 5 0,
oG 4 5 0 0,
ol 5 4 4,
oc 6 5,
kS 7 58 kV [.t 3,.t 6],
oK 8 7 0,
oK 9 7 1,
mV 1 8,
mV 2 9] [1,2]
.ret))
abbrev UI:RsT:=[(1,none),(2,none)]
theorem Tu:SpF 10 JV QM UI:=SpI Tryz.func62 (by kernel_rfl)
theorem RY:au Tryz.prog JV = true:=by kernel_rfl
abbrev Ns:FuncId:=63
def Rq:AC:=
(wJ [oP 6 (.mv (.c (.bool false)))] [0,1,2]
(wJ [mV 7 0,
mV 8 1,
oP 9 (.bin .geq (.t 7) (.t 8)),
mV 10 9,
zR 11 10 0,
zR 12 10 2,
gT 13 10 (.bin .leq (.t 11) (.t 12)),
oP 14 (.pick (.t 10) (.t 13) (.c (.bool false))),
mV 6 14] [6]
.ret))
abbrev T8:RsT:=[(6,none)]
theorem Ua:SpF 15 Ns Rq T8:=SpI Tryz.func63 (by kernel_rfl)
theorem cU:au Tryz.prog Ns = true:=by kernel_rfl
abbrev MF:FuncId:=64
def O0:AC:=
(wJ [oI 2 0,
oI 3 0] [0]
(.seq (wJ [oI 4 0] [0,4]
(.block 0
(.loop [0,4]
(.seq (wJ [mV 6 4,
mV 7 0,
oR 8 7,
xT 9 6 8] [0,4,9]
(.cond (.t 9)
.skip
(.exit 0)))
(.seq (.block 1
(.seq (.dreg [mV 12 0,
mV 13 4,
oQ 14 1 12 13,
oc 15 14,
mV 16 0,
mV 17 4,
oP 18 (.subq 1 (.t 16) none (some (.t 17))),
kS 19 118 [false,true] [.t 15,.t 18],
mV 5 19] [0,4,5] [[],[],[0,1],[0,1,2],[],[],[4,5],wM 7,wM 8])
(wJ [mV 20 5,
zz 21 20 0] [0,4,5,21]
(.cond (.t 21)
(wJ [mV 22 4,
mV 23 5,
mV 2 22,
mV 3 23] [2,3]
.ret)
.skip))))
(.reg [mV 10 4,
xr 11 10 1,
mV 4 11] [0,4]))))))
(wJ [oI 2 0,
oI 3 0] [2,3]
.ret)))
abbrev SZ:RsT:=[(2,none),(3,none)]
theorem Wu:SpF 24 MF O0 SZ:=SpI Tryz.func64 (by kernel_rfl)
theorem D0:au Tryz.prog MF = true:=by kernel_rfl
abbrev Od:FuncId:=65
def PX:AC:=
(wJ [oV 2 5 0,
oI 4 0,
oI 5 0] [1,2]
(.seq (wJ [oI 6 0] [1,2,6]
(.block 0
(.loop [1,2,6]
(.seq (wJ [mV 10 6,
mV 11 1,
oR 12 11,
xT 13 10 12] [1,2,6,13]
(.cond (.t 13)
.skip
(.exit 0)))
(.seq (.block 1
(wJ [mV 16 1,
mV 17 6,
oQ 18 4 16 17,
oe 19 4 18,
oP 7 (.alloc wx),
oM 4 7 19] [1,2,6,7]
(.frz 7 true (.seq (wJ [ol 20 0 7,
oc 21 20,
ol 22 0 2,
oc 23 22,
oR 24 23,
xC 25 24 1,
kS 26 63 [false,false,false] [.t 21,cI 0,.t 25],
xi 27 26,
mV 28 27,
kL 29 28 1 7,
kD 30 28 29,
kL 31 28 1 2,
kD 32 28 31,
kN 33 28 32,
gF 34 28 (.bin .sub (.t 33) (cI 1)),
gF 35 28 (.call (.f 63) [false,false,false] [.t 30,cI 0,.t 34]),
gF 36 28 (.un .not (.t 35)),
oP 37 (.pick (.t 28) (.c (.bool true)) (.t 36))] [1,2,6,7,37]
(.cond (.t 37)
(wJ [mV 38 6,
mV 4 38,
oI 5 4] [4,5]
.ret)
.skip))
(.seq (wJ [oI 8 0] [1,2,6,7,8]
(.block 2
(.loop [1,2,6,7,8]
(.seq (wJ [mV 39 8,
mV 40 6,
xT 41 39 40] [1,2,6,7,8,41]
(.cond (.t 41)
.skip
(.exit 2)))
(.seq (.block 3
(.seq (.dreg [mV 44 1,
mV 45 8,
oQ 46 4 44 45,
ol 47 0 46,
oc 48 47,
ol 49 0 7,
oc 50 49,
zh 51 48 50,
mV 52 51,
zR 53 52 1,
zR 54 52 8,
gT 55 52 (.ixS 4 (.t 53) (.t 54)),
ki 56 52 1 55,
zS 57 52 56,
ki 58 52 1 7,
zS 59 52 58,
gT 60 52 (.bin .eql (.t 57) (.t 59)),
oP 61 (.pick (.t 52) (.t 60) (.c (.bool false)))] [1,2,6,7,8,61] [[],[],[0,1],[0,1,2],wM 4,[],[5],wM 7,wM 8,wM 9,wM 9,wM 11,wM 12,wM 13,wM 9,[0,1,2,3,4,5,6,7,8,14],wM 16,wM 17])
(.cond (.t 61)
(wJ [mV 62 6,
mV 4 62,
oI 5 5] [4,5]
.ret)
.skip)))
(.reg [mV 42 8,
xr 43 42 1,
mV 8 43] [1,2,6,7,8]))))))
(wJ [oG 63 2 2 7,
oe 64 2 63,
kS 65 119 [false,false,false] [.t 64,cI 0,cI 1000000],
mV 9 65] [1,2,6,9]
(wJ [mV 66 9,
zz 67 66 0] [1,2,6,9,67]
(.cond (.t 67)
(wJ [mV 68 6,
mV 69 9,
mV 4 68,
mV 5 69] [4,5]
.ret)
.skip))))))))
(.reg [mV 14 6,
xr 15 14 1,
mV 6 15] [1,2,6]))))))
(wJ [oI 4 0,
oI 5 0] [4,5]
.ret)))
abbrev Uj:RsT:=[(4,none),(5,none)]
theorem Su:SpF 70 Od PX Uj:=SpI Tryz.func65 (by kernel_rfl)
theorem MK:au Tryz.prog Od = true:=by kernel_rfl
abbrev M3:FuncId:=66
def yr:AC:=
(wJ [oV 2 5 0,
oI 4 0] [1,2]
(wJ [ol 7 3 2,
oc 8 7,
mV 9 1,
oQ 10 5 8 9,
oe 11 5 10,
oP 5 (.alloc ww),
oM 5 5 11] [1,2,5]
(.frz 5 true (.seq (wJ [ol 12 0 5,
oc 13 12,
ol 14 0 2,
oc 15 14,
oR 16 15,
xC 17 16 1,
kS 18 63 [false,false,false] [.t 13,cI 0,.t 17],
xi 19 18,
mV 20 19,
kL 21 20 1 5,
kD 22 20 21,
kL 23 20 1 2,
kD 24 20 23,
kN 25 20 24,
gF 26 20 (.bin .sub (.t 25) (cI 1)),
gF 27 20 (.call (.f 63) [false,false,false] [.t 22,cI (-1),.t 26]),
gF 28 20 (.un .not (.t 27)),
oP 29 (.pick (.t 20) (.c (.bool true)) (.t 28)),
mV 30 29,
kL 31 30 2 5,
kD 32 30 31,
kL 33 30 1 2,
kD 34 30 33,
kN 35 30 34,
gF 36 30 (.bin .sub (.t 35) (cI 1)),
gF 37 30 (.call (.f 63) [false,false,false] [.t 32,cI (-1),.t 36]),
gF 38 30 (.un .not (.t 37)),
oP 39 (.pick (.t 30) (.c (.bool true)) (.t 38))] [1,2,5,39]
(.cond (.t 39)
(wJ [oI 4 4] [4]
.ret)
.skip))
(.seq (wJ [ol 40 1 5,
oc 41 40,
ol 42 2 5,
oc 43 42,
zh 44 41 43] [1,2,5,44]
(.cond (.t 44)
(wJ [oI 4 2] [4]
.ret)
.skip))
(.seq (wJ [ol 45 3 5,
oc 46 45,
kS 47 63 [false,false,false] [.t 46,cI 0,cI 1000000],
xi 48 47] [1,2,5,48]
(.cond (.t 48)
(wJ [oI 4 7] [4]
.ret)
.skip))
(.seq (wJ [ol 49 4 5,
oc 50 49,
zu 51 50 (-1)] [1,2,5,51]
(.cond (.t 51)
(wJ [oI 4 0] [4]
.ret)
.skip))
(.seq (wJ [ol 52 4 5,
oc 53 52,
ol 54 3 2,
oc 55 54,
oR 56 55,
xC 57 56 1,
kS 58 63 [false,false,false] [.t 53,cI 0,.t 57],
xi 59 58,
mV 60 59,
kL 61 60 4 5,
kD 62 60 61,
kw 63 60 1,
gF 64 60 (.bin .eql (.t 62) (.t 63)),
oP 65 (.pick (.t 60) (.c (.bool true)) (.t 64))] [1,2,5,65]
(.cond (.t 65)
(wJ [oI 4 9] [4]
.ret)
.skip))
(wJ [ol 66 3 2,
oc 67 66,
ol 68 4 5,
oc 69 68,
oQ 70 5 67 69,
oe 71 5 70,
oP 6 (.alloc ww),
oM 5 6 71] [1,5,6]
(.frz 6 true (.seq (wJ [ol 72 4 6,
oc 73 72,
mV 74 1,
zw 75 73 74,
mV 76 75,
kL 77 76 0 6,
kD 78 76 77,
kL 79 76 0 5,
kD 80 76 79,
gF 81 76 (.bin .neq (.t 78) (.t 80)),
oP 82 (.pick (.t 76) (.c (.bool true)) (.t 81)),
mV 83 82,
kL 84 83 1 6,
kD 85 83 84,
kL 86 83 1 5,
kD 87 83 86,
gF 88 83 (.bin .neq (.t 85) (.t 87)),
oP 89 (.pick (.t 83) (.c (.bool true)) (.t 88)),
mV 90 89,
kL 91 90 2 6,
kD 92 90 91,
kL 93 90 2 5,
kD 94 90 93,
gF 95 90 (.bin .neq (.t 92) (.t 94)),
oP 96 (.pick (.t 90) (.c (.bool true)) (.t 95))] [96]
(.cond (.t 96)
(wJ [oI 4 9] [4]
.ret)
.skip))
(wJ [oI 4 0] [4]
.ret))))))))))))
abbrev Ux:RsT:=[(4,none)]
theorem Tz:SpF 97 M3 yr Ux:=SpI Tryz.func66 (by kernel_rfl)
theorem OD:au Tryz.prog M3 = true:=by kernel_rfl
abbrev MX:FuncId:=67
def NN:AC:=
(wJ [oV 2 5 0,
oV 3 1 1,
oP 4 (.alloc wI),
oI 5 0] [2,3,4]
(wJ [oe 6 5 2,
oP 7 (.build wI [(0,5,.t 6)]),
oM 5 4 7] [2,3,4]
(.seq (wJ [oe 9 5 2,
kS 10 16 wd [.t 9],
mV 8 10,
oK 11 8 0,
oK 12 8 1,
oK 13 8 2,
mV 5 13] [3,4,5]
(wJ [mV 14 5,
zz 15 14 0] [3,4,5,15]
(.cond (.t 15)
(wJ [oP 16 (.loadd (some 5) (.t 4)),
mV 17 5,
oM 5 4 16,
mV 5 17] [4,5]
.ret)
.skip)))
(wJ [oc 19 3,
oP 20 (.mkfunc (.func 121) [] [.t 4,.t 3]),
kS 21 120 wn [.t 19,.t 20],
mV 18 21,
oK 22 18 0,
oK 23 18 1,
mV 5 23] [4,5]
(wJ [oP 24 (.loadd (some 5) (.t 4)),
mV 25 5,
oM 5 4 24,
mV 5 25] [4,5]
.ret)))))
abbrev TJ:RsT:=[(4,some (some 5)),(5,none)]
theorem U1:SpF 26 MX NN TJ:=SpI Tryz.func67 (by kernel_rfl)
theorem nN:au Tryz.prog MX = true:=by kernel_rfl
abbrev NP:FuncId:=68
def MN:AC:=
(wJ [oV 2 5 0,
oP 4 (.mv (.c (.bool false)))] [1,2]
(.seq (wJ [oe 6 5 2,
mV 7 1,
kS 8 70 kV [.t 6,.t 7],
zE 9 8 0] [1,2,9]
(.cond (.t 9)
(wJ [oP 4 (.mv (.c (.bool false)))] [4]
.ret)
.skip))
(.seq (wJ [oG 10 5 0 2,
ol 11 0 10,
oc 12 11,
oR 13 12,
oI 14 0] [1,2,13,14]
(.block 0
(.loop [1,2,13,14]
(wJ [xT 15 14 13] [1,2,13,14,15]
(.seq (.cond (.t 15)
.skip
(.exit 0))
(.seq (.block 1
(wJ [mV 16 14,
mV 5 16] [1,2,5,13,14]
(wJ [oe 17 5 2,
mV 18 5,
mV 19 1,
kS 20 122 [true,false,true] [.t 17,.t 18,.t 19],
kS 21 123 wl [.t 20],
xi 22 21] [1,2,13,14,22]
(.cond (.t 22)
(wJ [oP 4 (.mv (.c (.bool false)))] [4]
.ret)
.skip))))
(.reg [xr 23 14 1,
mV 14 23] [1,2,13,14])))))))
(wJ [oP 4 (.mv (.c (.bool true)))] [4]
.ret))))
abbrev Ud:RsT:=[(4,none)]
theorem TY:SpF 24 NP MN Ud:=SpI Tryz.func68 (by kernel_rfl)
theorem Ay:au Tryz.prog NP = true:=by kernel_rfl
abbrev Nn:FuncId:=70
def QQ:AC:=
(wJ [oV 2 5 0,
oI 4 0] [1,2]
(.seq (wJ [oG 6 5 0 2,
ol 7 3 6,
oc 8 7,
oR 9 8,
oI 10 0] [1,2,9,10]
(.block 0
(.loop [1,2,9,10]
(wJ [xT 11 10 9] [1,2,9,10,11]
(.seq (.cond (.t 11)
.skip
(.exit 0))
(.seq (.block 1
(wJ [mV 12 10,
mV 5 12] [1,2,5,9,10]
(wJ [oe 13 5 2,
mV 14 5,
mV 15 1,
kS 16 73 [true,false,true] [.t 13,.t 14,.t 15]] [1,2,5,9,10,16]
(.cond (.t 16)
(wJ [mV 17 5,
mV 4 17] [4]
.ret)
.skip))))
(.reg [xr 18 10 1,
mV 10 18] [1,2,9,10])))))))
(wJ [oI 4 (-1)] [4]
.ret)))
abbrev UJ:RsT:=[(4,none)]
theorem Uc:SpF 19 Nn QQ UJ:=SpI Tryz.func70 (by kernel_rfl)
theorem Kj:au Tryz.prog Nn = true:=by kernel_rfl
abbrev MO:FuncId:=71
def RG:AC:=
(wJ [oV 4 5 0,
oV 6 1 2,
oI 8 0,
oI 9 0] [1,3,4,6,8]
(wJ [oP 23 (.mkfunc (.func 124) [] [.t 6]),
mV 10 23] [1,3,4,8,10]
(wJ [oP 11 (.alloc wy)] [1,3,4,8,10,11]
(wJ [oP 12 (.mv (.c (.bool true)))] [1,3,4,8,10,11,12]
(.seq (wJ [kS 24 125 [] [],
oI 25 0] [1,3,4,8,10,11,12,24,25]
(.block 0
(.loop [1,3,4,8,10,11,12,24,25]
(wJ [xZ 26 25 2] [1,3,4,8,10,11,12,24,25,26]
(.seq (.cond (.t 26)
.skip
(.exit 0))
(.seq (.block 1
(wJ [mV 27 25,
oP 28 (.ixV 2 2 (some 2) (.t 24) (.t 25)),
oP 14 (.alloc [.nilfunc, .nilfunc]),
mV 13 27,
oM 2 14 28] [1,3,4,8,10,11,12,13,14,24,25]
(.frz 14 true (.seq (wJ [oG 29 5 0 4,
ol 30 1 29,
oc 31 30,
oR 32 31,
oI 33 0] [1,3,4,8,10,11,12,13,14,24,25,32,33]
(.block 2
(.loop [1,3,4,8,10,11,12,13,14,24,25,32,33]
(wJ [xT 34 33 32] [1,3,4,8,10,11,12,13,14,24,25,32,33,34]
(.seq (.cond (.t 34)
.skip
(.exit 2))
(.seq (.block 3
(wJ [mV 35 33,
mV 15 35] [1,3,4,8,10,11,12,13,14,15,24,25,32,33]
(.seq (wJ [mV 36 10,
mV 37 15,
oP 38 (.call (.t 36) wl [.t 37]),
xi 39 38] [1,3,4,8,10,11,12,13,14,15,24,25,32,33,39]
(.cond (.t 39)
(.exit 3)
.skip))
(wJ [oG 41 5 0 4,
ol 42 2 41,
oc 43 42,
mV 44 1,
mV 45 15,
oP 46 (.build wy [(0,1,.t 44),(1,1,.t 45)]),
kS 47 126 wn [.t 43,.t 46],
mV 40 47,
oK 48 40 0,
oK 49 40 1,
oP 16 (.alloc wy),
oM 2 16 48,
mV 17 49] [1,3,4,8,10,11,12,13,14,15,16,24,25,32,33]
(.frz 16 true (wJ [oG 51 5 0 4,
ol 52 4 51,
oc 53 52,
mV 54 1,
mV 55 15,
oP 56 (.build wy [(0,1,.t 54),(1,1,.t 55)]),
kS 57 126 wn [.t 53,.t 56],
mV 50 57,
oK 58 50 0,
oK 59 50 1,
oP 18 (.alloc wy),
oM 2 18 58,
mV 19 59] [1,3,4,8,10,11,12,13,14,16,18,19,24,25,32,33]
(.frz 18 true (.seq (.dreg [mV 60 13,
oP 61 (.ixA 2 1 none (.t 11) (.t 60)),
oc 62 61,
ol 63 0 14,
oc 64 63,
oe 65 2 16,
oP 66 (.call (.t 64) wl [.t 65]),
ol 67 1 14,
oc 68 67,
oe 69 2 18,
oP 70 (.call (.t 68) wl [.t 69]),
xx 71 66 70,
xn 72 62 71,
oP 73 (.ixA 2 1 none (.t 11) (.t 60)),
oM 1 73 72] [1,3,4,8,10,11,12,13,14,19,24,25,32,33] [[],[0],[0,1],[],[3],[],[3,4,5],[],[7],[],[3,4,5,6,7,8,9],[3,4,5,6,7,8,9,10],wM 12,wM 13,wM 14])
(.reg [mV 74 12,
mV 75 74,
zR 76 75 19,
oP 77 (.pick (.t 75) (.t 76) (.c (.bool false))),
mV 12 77] [1,3,4,8,10,11,12,13,14,24,25,32,33])))))))))
(.reg [xr 78 33 1,
mV 33 78] [1,3,4,8,10,11,12,13,14,24,25,32,33])))))))
(wJ [oG 79 5 0 4,
ol 80 3 79,
oc 81 80,
oR 82 81,
oI 83 0] [1,3,4,8,10,11,12,13,14,24,25,81,82,83]
(.block 4
(.loop [1,3,4,8,10,11,12,13,14,24,25,81,82,83]
(wJ [xT 84 83 82] [1,3,4,8,10,11,12,13,14,24,25,81,82,83,84]
(.seq (.cond (.t 84)
.skip
(.exit 4))
(.seq (.block 5
(wJ [mV 85 83,
oQ 86 5 81 83,
oe 87 5 86,
oP 21 (.alloc ww),
mV 20 85,
oM 5 21 87] [1,3,4,8,10,11,12,13,14,20,21,24,25,81,82,83]
(.frz 21 true (.seq (wJ [ol 88 0 21,
oc 89 88,
mV 90 1,
zw 91 89 90,
mV 92 91,
gF 93 92 (.load (some 5) (.t 4)),
kw 94 92 20,
gF 95 92 (.call (.f 127) wn [.t 93,.t 94]),
gF 96 92 (.un .not (.t 95)),
oP 97 (.pick (.t 92) (.c (.bool true)) (.t 96))] [1,3,4,8,10,11,12,13,14,20,21,24,25,81,82,83,97]
(.cond (.t 97)
(.exit 5)
.skip))
(wJ [oe 98 5 4,
mV 99 20,
mV 100 3,
kS 101 128 [true,false,true] [.t 98,.t 99,.t 100],
oP 22 (.alloc wy),
oM 2 22 101] [1,3,4,8,10,11,12,13,14,21,22,24,25,81,82,83]
(.frz 22 true (.block 6
(wJ [mV 103 10,
ol 104 2 21,
oc 105 104,
oP 106 (.call (.t 103) wl [.t 105]),
mV 107 106,
zR 108 107 10,
ki 109 107 1 21,
zS 110 107 109,
gT 111 107 (.call (.t 108) wl [.t 110]),
gT 112 107 (.un .not (.t 111)),
oP 113 (.pick (.t 107) (.t 112) (.c (.bool false))),
mV 102 113] [1,3,4,8,10,11,12,13,14,21,22,24,25,81,82,83,102]
(.cond (.t 102)
(.dreg [mV 114 13,
oP 115 (.ixA 2 1 none (.t 11) (.t 114)),
oc 116 115,
ol 117 0 14,
oc 118 117,
oe 119 2 22,
oP 120 (.call (.t 118) wl [.t 119]),
xn 121 116 120,
oP 122 (.ixA 2 1 none (.t 11) (.t 114)),
oM 1 122 121] [1,3,4,8,10,11,12,13,14,24,25,81,82,83] [[],[0],[0,1],[],[3],[],[3,4,5],wM 7,wM 8,wM 9])
(wJ [mV 124 10,
ol 125 1 21,
oc 126 125,
oP 127 (.call (.t 124) wl [.t 126]),
mV 128 127,
zR 129 128 10,
ki 130 128 2 21,
zS 131 128 130,
gT 132 128 (.call (.t 129) wl [.t 131]),
gT 133 128 (.un .not (.t 132)),
oP 134 (.pick (.t 128) (.t 133) (.c (.bool false))),
mV 123 134] [1,3,4,8,10,11,12,13,14,22,24,25,81,82,83,123]
(.cond (.t 123)
(.dreg [mV 135 13,
oP 136 (.ixA 2 1 none (.t 11) (.t 135)),
oc 137 136,
ol 138 1 14,
oc 139 138,
oe 140 2 22,
oP 141 (.call (.t 139) wl [.t 140]),
xx 142 137 141,
oP 143 (.ixA 2 1 none (.t 11) (.t 135)),
oM 1 143 142] [1,3,4,8,10,11,12,13,14,24,25,81,82,83] [[],[0],[0,1],[],[3],[],[3,4,5],wM 7,wM 8,wM 9])
.skip)))))))))))
(.reg [xr 144 83 1,
mV 83 144] [1,3,4,8,10,11,12,13,14,24,25,81,82,83])))))))))))
(.reg [xr 145 25 1,
mV 25 145] [1,3,4,8,10,11,12,24,25])))))))
(.seq (wJ [mV 146 12] [8,11,146]
(.cond (.t 146)
(.reg [oP 147 (.ixA 2 1 none (.t 11) (cI 0)),
oc 148 147,
oP 149 (.mx [cI 0,.t 148]),
mV 8 149] [8,11])
.skip))
(.seq (.dreg [mV 150 8,
oP 151 (.ixA 2 1 none (.t 11) (cI 1)),
oc 152 151,
oP 153 (.mn [cI 0,.t 152]),
mV 8 150,
mV 9 153] [8,9] [[],[],[1],[1,2],[0],wM 5])
.ret)))))))
abbrev TW:RsT:=[(8,none),(9,none)]
theorem SI:SpF 154 MO RG TW:=SpI Tryz.func71 (by kernel_rfl)
theorem KI:au Tryz.prog MO = true:=by kernel_rfl
abbrev M5:FuncId:=73
def KN:AC:=
(wJ [oV 3 5 0,
oP 6 (.mv (.c (.bool false)))] [1,2,3]
(wJ [oG 8 5 0 3,
ol 9 3 8,
oc 10 9,
mV 11 1,
oQ 12 5 10 11,
ol 13 4 12,
oc 14 13,
mV 7 14] [1,2,3,7]
(.seq (.dreg [mV 15 7,
mV 16 1,
oP 17 (.bin .gtr (.t 15) (.t 16)),
mV 18 17,
gT 19 18 (.fieldAddr (some 5) 0 (.t 3)),
ki 20 18 3 19,
zS 21 18 20,
zR 22 18 1,
gT 23 18 (.ixS 5 (.t 21) (.t 22)),
ki 24 18 3 23,
zS 25 18 24,
gT 26 18 (.fieldAddr (some 5) 0 (.t 3)),
ki 27 18 3 26,
zS 28 18 27,
zR 29 18 7,
gT 30 18 (.ixS 5 (.t 28) (.t 29)),
ki 31 18 3 30,
zS 32 18 31,
gT 33 18 (.bin .neq (.t 25) (.t 32)),
oP 34 (.pick (.t 18) (.t 33) (.c (.bool false))),
mV 35 34,
zR 36 35 2,
zR 37 35 1,
gT 38 35 (.call (.f 130) wn [.t 36,.t 37]),
gT 39 35 (.un .not (.t 38)),
oP 40 (.pick (.t 35) (.t 39) (.c (.bool false))),
mV 41 40,
zR 42 41 2,
zR 43 41 7,
gT 44 41 (.call (.f 130) wn [.t 42,.t 43]),
gT 45 41 (.un .not (.t 44)),
oP 46 (.pick (.t 41) (.t 45) (.c (.bool false))),
mV 6 46] [6] [[],[],[0,1],[0,1,2],wM 4,wM 5,wM 6,wM 4,wM 8,wM 9,wM 10,wM 4,[0,1,2,3,11],[0,1,2,3,11,12],wM 4,[0,1,2,3,11,12,13,14],[0,1,2,3,11,12,13,14,15],[0,1,2,3,11,12,13,14,15,16],wM 18,wM 19,wM 20,wM 21,wM 21,wM 23,wM 24,wM 25,wM 26,wM 27,wM 27,wM 29,wM 30,wM 31,wM 32])
.ret)))
abbrev T5:RsT:=[(6,none)]
theorem TZ:SpF 47 M5 KN T5:=SpI Tryz.func73 (by kernel_rfl)
theorem ML:au Tryz.prog M5 = true:=by kernel_rfl
abbrev ND:FuncId:=78
def OH:AC:=
(wJ [⟨some 0,none, .mv (.c (.str ⟨#[]⟩))⟩] []
(wJ [⟨some 0,none, .mv (.c (.str ⟨#[107,105,110,100,115,32,111,105,108,32,112,97,105,110,116,10,112,108,97,99,101,115,32,121,97,114,100,32,112,105,116,10,102,105,114,115,116,32,111,105,108,32,121,97,114,100,32,49,48,48,48,32,49,48,48,48,10,112,97,112,101,114,32,111,105,108,32,121,97,114,100,32,112,105,116,32,54,48,48,32,49,10,112,97,112,101,114,32,111,105,108,32,121,97,114,100,32,112,105,116,32,53,48,48,32,48,10,112,97,112,101,114,32,111,105,108,32,121,97,114,100,32,45,32,51,48,48,32,45,10,108,97,115,116,32,111,105,108,32,121,97,114,100,32,49,48,48,32,50,48,48,10]⟩))⟩] [0]
.ret))
abbrev Wr:RsT:=[(0,none)]
theorem T7:SpF 1 ND OH Wr:=SpI Tryz.func78 (by kernel_rfl)
theorem QL:au Tryz.prog ND = true:=by kernel_rfl
abbrev Nb:FuncId:=79
def Nd:AC:=
(wJ [oV 1 5 0,
oP 2 (.alloc wI),
oI 3 0] [1,2]
(wJ [oe 7 5 1,
oP 8 (.call (.f 67) kV [.t 7,(.c (.slice 1 []))]),
mV 6 8,
oK 9 6 0,
oK 10 6 1,
oP 4 (.alloc wI),
oM 5 4 9,
mV 5 10] [2,4,5]
(.frz 4 true (.seq (.seq (.qreg [mV 11 5,
zu 12 11 0,
mV 13 12,
gT 14 13 (.load (some 5) (.t 4)),
gT 15 13 (.load (some 5) (.t 4)),
gT 16 13 (.call (.f 83) wn [.t 15,cI (-1)]),
gT 17 13 (.call (.f 68) kV [.t 14,.t 16]),
gT 18 13 (.un .not (.t 17)),
oP 19 (.pick (.t 13) (.t 18) (.c (.bool false)))] [2,4,5,19] [[],[0],[0,1],[0,1,2],[0,1,2],[0,1,2,4],wM 6,wM 7,wM 8] [([0,1,2,3,4],5),([],6)] [7,8])
(.cond (.t 19)
(.reg [oI 5 9] [2,4,5])
.skip))
(wJ [oP 20 (.loadd (some 5) (.t 4)),
mV 21 5,
oM 5 2 20,
mV 3 21] [2,3]
.ret)))))
abbrev UH:RsT:=[(2,some (some 5)),(3,none)]
theorem SB:SpF 22 Nb Nd UH:=SpI Tryz.func79 (by kernel_rfl)
theorem Gs:au Tryz.prog Nb = true:=by kernel_rfl
abbrev MP:FuncId:=80
def Rw:AC:=
(wJ [oV 1 5 0,
oP 2 (.mv (.c .nilfunc))] [1]
(wJ [oP 3 (.mkfunc (.func 133) [] [.t 1]),
mV 2 3] [2]
.ret))
abbrev Td:RsT:=[(2,none)]
theorem U6:SpF 4 MP Rw Td:=SpI Tryz.func80 (by kernel_rfl)
theorem RI:au Tryz.prog MP = true:=by kernel_rfl
abbrev My:FuncId:=83
def QR:AC:=
(wJ [oV 2 5 0,
oP 4 (.nilS 1 1)] [1,2,4]
(.seq (wJ [oG 6 5 0 2,
ol 7 3 6,
oc 8 7,
oR 9 8,
oI 10 0] [1,4,9,10]
(.block 0
(.loop [1,4,9,10]
(wJ [xT 11 10 9] [1,4,9,10,11]
(.seq (.cond (.t 11)
.skip
(.exit 0))
(.seq (.block 1
(wJ [mV 12 10,
mV 5 12] [1,4,5,9,10]
(wJ [mV 13 5,
mV 14 1,
zw 15 13 14] [1,4,5,9,10,15]
(.cond (.t 15)
(.reg [mV 16 4,
mV 17 5,
oP 18 (.lit 0 1 1 [(0,.t 17)]),
oP 19 (.append 1 8 (.t 16) (.t 18)),
mV 4 19] [1,4,9,10])
.skip))))
(.reg [xr 20 10 1,
mV 10 20] [1,4,9,10])))))))
(wJ [mV 21 4,
oP 4 (.mvd (.t 21))] [4]
.ret)))
abbrev Tp:RsT:=[(4,none)]
theorem S8:SpF 22 My QR Tp:=SpI Tryz.func83 (by kernel_rfl)
theorem Ob:au Tryz.prog My = true:=by kernel_rfl
abbrev N7:FuncId:=84
def Qs:AC:=
(wJ [oP 2 (.mv (.c (.slice 1 [])))] [0]
(wJ [oI 3 0] [0,3]
(.seq (wJ [mV 9 0,
oR 10 9,
oI 11 0] [0,3,9,10,11]
(.block 0
(.loop [0,3,9,10,11]
(wJ [xT 12 11 10] [0,3,9,10,11,12]
(.seq (.cond (.t 12)
.skip
(.exit 0))
(.seq (.block 1
(wJ [oQ 13 1 9 11,
oc 14 13,
mV 5 14] [0,3,5,9,10,11]
(wJ [mV 15 3,
mV 16 5,
oR 17 16,
xn 18 15 17,
mV 3 18] [0,3,9,10,11]
(wJ [mV 19 3,
xZ 20 19 0] [0,3,9,10,11,20]
(.cond (.t 20)
(.reg [⟨some 21,none, .mkiface 9 (.c (.str ⟨#[108,101,110,32,111,117,116,32,111,102,32,114,97,110,103,101]⟩))⟩,
oN (.panic (.t 21))] [0,3,9,10,11])
.skip)))))
(.reg [xr 22 11 1,
mV 11 22] [0,3,9,10,11])))))))
(wJ [mV 23 3,
kS 24 136 wo [(.c (.nils 1)),.t 23],
mV 6 24] [0,6]
(.seq (wJ [mV 25 0,
oR 26 25,
oI 27 0] [6,25,26,27]
(.block 2
(.loop [6,25,26,27]
(wJ [xT 28 27 26] [6,25,26,27,28]
(.seq (.cond (.t 28)
.skip
(.exit 2))
(.seq (.block 3
(wJ [oQ 29 1 25 27,
oc 30 29,
mV 8 30] [6,8,25,26,27]
(.reg [mV 31 6,
mV 32 8,
oP 33 (.append 1 8 (.t 31) (.t 32)),
mV 6 33] [6,25,26,27])))
(.reg [xr 34 27 1,
mV 27 34] [6,25,26,27])))))))
(wJ [mV 35 6,
oP 2 (.mvd (.t 35))] [2]
.ret))))))
abbrev TO:RsT:=[(2,none)]
theorem UT:SpF 36 N7 Qs TO:=SpI Tryz.func84 (by kernel_rfl)
theorem Sm:au Tryz.prog N7 = true:=by kernel_rfl
abbrev M6:FuncId:=85
def RO:AC:=
(wJ [oV 1 5 0,
oP 2 (.alloc [.mint 1])] [1,2]
(.scope
(.seq (.label 0)
(.seq (wJ [oe 4 5 1,
kS 5 80 wd [.t 4]] [1,2,5]
(.block 0
(.jM (.t 5) [6] (.reg [mV 3 6] [1,2,3])
(.block 1
(.seq (wJ [oc 7 2,
oR 8 7,
zI 9 8 0,
mV 10 9,
zR 11 10 3,
gT 12 10 (.len (.t 11)),
zS 13 10 2,
gT 14 10 (.ixS 1 (.t 13) (cI 0)),
zS 15 10 14,
gT 16 10 (.len (.t 15)),
gT 17 10 (.bin .gtr (.t 12) (.t 16)),
oP 18 (.pick (.t 10) (.t 17) (.c (.bool false)))] [1,2,3,18]
(.cond (.t 18)
(.exit 0)
.skip))
(wJ [oe 19 5 1,
mV 20 3,
kS 21 68 kV [.t 19,.t 20]] [2,3,21]
(.cond (.t 21)
(.reg [oc 22 2,
mV 23 3,
oP 24 (.lit 0 1 1 [(0,.t 23)]),
oP 25 (.append 1 24 (.t 22) (.t 24)),
oM 1 2 25] [])
.skip)))))))
(wJ [oP 26 (.loadd none (.t 2)),
oM 1 2 26] [2]
.ret)))))
abbrev Uq:RsT:=[(2,some none)]
theorem Te:SpF 27 M6 RO Uq:=SpI Tryz.func85 (by kernel_rfl)
theorem SE:au Tryz.prog M6 = true:=by kernel_rfl
abbrev P0:FuncId:=86
theorem S5:au Tryz.prog P0 = true:=by kernel_rfl
abbrev M7:FuncId:=87
def MS:AC:=
(wJ [oP 2 (.mv (.c (.slice 1 [])))] [0]
(.seq (wJ [mV 6 0,
oR 7 6,
xZ 8 7 2] [0,8]
(.cond (.t 8)
(wJ [mV 9 0,
oP 2 (.mvd (.t 9))] [2]
.ret)
.skip))
(.seq (wJ [oI 3 1] [0,3]
(.block 0
(.loop [0,3]
(.seq (wJ [mV 10 3,
mV 11 0,
oR 12 11,
xT 13 10 12] [0,3,13]
(.cond (.t 13)
.skip
(.exit 0)))
(.seq (.block 1
(.seq (.dreg [mV 16 0,
mV 17 3,
oQ 18 1 16 17,
oc 19 18,
mV 20 0,
mV 21 3,
xC 22 21 1,
oQ 23 1 20 22,
oc 24 23,
zh 25 19 24] [0,3,25] [[],[],[0,1],[0,1,2],[],[],[5],[4,5,6],[4,5,6,7],wM 9])
(.cond (.t 25)
(wJ [mV 26 0,
mV 27 3,
oP 28 (.sub 0 1 (.t 26) (some (.t 27)) none none),
mV 4 28] [0,3,4]
(.seq (wJ [oI 5 1] [0,3,4,5]
(.block 2
(.loop [0,3,4,5]
(.seq (wJ [mV 29 5,
mV 30 4,
oR 31 30,
xT 32 29 31] [0,3,4,5,32]
(.cond (.t 32)
.skip
(.exit 2)))
(.seq (.block 3
(.seq (.dreg [mV 35 4,
mV 36 5,
oQ 37 1 35 36,
oc 38 37,
mV 39 4,
mV 40 5,
xC 41 40 1,
oQ 42 1 39 41,
oc 43 42,
zw 44 38 43] [0,3,4,5,44] [[],[],[0,1],[0,1,2],[],[],[5],[4,5,6],[4,5,6,7],wM 9])
(.cond (.t 44)
(wJ [mV 45 0,
mV 46 3,
mV 47 4,
mV 48 5,
oQ 49 1 47 48,
oc 50 49,
oQ 51 1 45 46,
oM 1 51 50] [0,3,4,5]
(.reg [mV 52 3,
xr 53 52 1,
mV 3 53] [0,3,4,5]))
.skip)))
(.reg [mV 33 5,
xr 34 33 1,
mV 5 34] [0,3,4,5]))))))
(wJ [mV 54 0,
mV 55 3,
oP 56 (.sub 0 1 (.t 54) (some (.t 55)) none none),
oN (.clear 1 (.int .i64 0) (.t 56))] [0,3]
(wJ [mV 57 0,
mV 58 3,
oP 59 (.sub 0 1 (.t 57) none (some (.t 58)) none),
oP 2 (.mvd (.t 59))] [2]
.ret))))
.skip)))
(.reg [mV 14 3,
xr 15 14 1,
mV 3 15] [0,3]))))))
(wJ [mV 60 0,
oP 2 (.mvd (.t 60))] [2]
.ret))))
abbrev Ty:RsT:=[(2,none)]
theorem Sf:SpF 61 M7 MS Ty:=SpI Tryz.func87 (by kernel_rfl)
theorem Sl:au Tryz.prog M7 = true:=by kernel_rfl
abbrev NQ:FuncId:=88
def Jl:AC:=
(wJ [oV 3 5 0,
oP 6 (.mv (.c .nilptr)),
oI 7 0] [1,2,3]
(wJ [oe 13 5 3,
mV 14 1,
kS 15 67 kV [.t 13,.t 14],
mV 12 15,
oK 16 12 0,
oK 17 12 1,
oP 8 (.alloc wI),
oM 5 8 16,
mV 9 17] [1,2,8,9]
(.frz 8 true (.seq (wJ [mV 18 9,
zz 19 18 0] [1,2,8,9,19]
(.cond (.t 19)
(wJ [mV 20 9,
oP 6 (.mv (.c .nilptr)),
mV 7 20] [6,7]
.ret)
.skip))
(wJ [mV 21 2,
oe 22 5 8,
oP 23 (.call (.t 21) wd [.t 22]),
mV 10 23] [1,8,10]
(.seq (.block 0
(wJ [mV 25 10,
xZ 26 25 0,
mV 24 26] [1,8,10,24]
(.cond (.t 24)
(wJ [oP 6 (.mv (.c .nilptr)),
oI 7 4] [6,7]
.ret)
(wJ [oe 28 5 8,
mV 29 1,
kS 30 68 kV [.t 28,.t 29],
xi 31 30,
mV 27 31] [1,8,10,27]
(.cond (.t 27)
(wJ [oP 6 (.mv (.c .nilptr)),
oI 7 9] [6,7]
.ret)
.skip)))))
(wJ [oe 32 5 8,
mV 33 10,
mV 34 1,
kS 35 122 [true,false,true] [.t 32,.t 33,.t 34],
mV 11 35] [11]
(wJ [mV 36 11,
kS 37 123 wl [.t 36]] [11]
(wJ [mV 38 11,
mV 6 38,
oI 7 0] [6,7]
.ret)))))))))
abbrev SC:RsT:=[(6,none),(7,none)]
theorem S9:SpF 39 NQ Jl SC:=SpI Tryz.func88 (by kernel_rfl)
theorem Ru:au Tryz.prog NQ = true:=by kernel_rfl
abbrev J5:FuncId:=89
def M8:AC:=
(wJ [oV 2 5 0,
oI 3 0] [1,2]
(.seq (wJ [oG 4 5 0 2,
ol 5 3 4,
oc 6 5,
oR 7 6,
xC 8 7 1,
oc 9 1,
oP 10 (.lit 0 1 1 [(0,.t 9)]),
kS 11 53 [false,false,true] [cI 0,.t 8,.t 10]] [1,2,11]
(.cond (.t 11)
(wJ [oI 3 (-1)] [3]
.ret)
.skip))
(wJ [oG 12 5 0 2,
ol 13 3 12,
oc 14 13,
oc 15 1,
oQ 16 5 14 15,
ol 17 0 16,
oc 18 17,
mV 3 18] [3]
.ret)))
abbrev Tg:RsT:=[(3,none)]
theorem UQ:SpF 19 J5 M8 Tg:=SpI Tryz.func89 (by kernel_rfl)
theorem SU:au Tryz.prog J5 = true:=by kernel_rfl
abbrev M4:FuncId:=90
def Pq:AC:=
(wJ [oV 2 1 0,
oV 3 1 1,
oP 4 (.alloc wy)] [2,3,4]
(wJ [oP 9 (.mkfunc (.func 139) [] [.t 2,.t 3]),
mV 5 9] [2,3,4,5]
(.seq (.dreg [oc 10 2,
oX 11 10,
ol 12 0 11,
oc 13 12,
oc 14 3,
oQ 15 5 13 14,
oe 16 5 15,
oP 6 (.alloc ww),
oM 5 6 16] [2,3,4,5,6] [[],[0],[0,1],[0,1,2],[],wM 5,wM 6,[],wM 8])
(wJ [mV 17 5,
ol 18 0 6,
oc 19 18,
ol 20 1 6,
oc 21 20,
ol 22 4 6,
oc 23 22,
ol 24 2 6,
oc 25 24,
xx 26 23 25,
oP 27 (.call (.t 17) [false,false,false] [.t 19,.t 21,.t 26]),
mV 7 27] [2,3,4,5,6,7]
(.seq (.dreg [oc 28 2,
oX 29 28,
ol 30 0 29,
oc 31 30,
oc 32 3,
oQ 33 5 31 32,
ol 34 4 33,
oc 35 34,
mV 36 7,
xx 37 35 36,
oQ 38 5 31 32,
ol 39 4 38,
oM 1 39 37] [2,3,4,5,6] [[],[0],[0,1],[0,1,2],[],wM 5,wM 6,wM 7,[],wM 9,wM 10,wM 11,wM 12])
(.seq (.dreg [oc 40 2,
oX 41 40,
ol 42 0 41,
oc 43 42,
oc 44 3,
oQ 45 5 43 44,
ol 46 4 45,
oc 47 46,
ol 48 0 4,
oM 1 48 47] [2,3,4,5,6] [[],[0],[0,1],[0,1,2],[],wM 5,wM 6,wM 7,wM 8,wM 9])
(.seq (.dreg [oc 49 2,
oX 50 49,
ol 51 0 50,
oc 52 51,
oc 53 3,
oQ 54 5 52 53,
oe 55 5 54,
oM 5 6 55] [2,3,4,5,6] [[],[0],[0,1],[0,1,2],[],wM 5,wM 6,wM 7])
(wJ [mV 56 5,
ol 57 1 6,
oc 58 57,
ol 59 0 6,
oc 60 59,
ol 61 3 6,
oc 62 61,
ol 63 4 6,
oc 64 63,
xx 65 62 64,
oP 66 (.call (.t 56) [false,false,false] [.t 58,.t 60,.t 65]),
mV 8 66] [2,3,4,8]
(.seq (.dreg [oc 67 2,
oX 68 67,
ol 69 0 68,
oc 70 69,
oc 71 3,
oQ 72 5 70 71,
ol 73 4 72,
oc 74 73,
mV 75 8,
xn 76 74 75,
oQ 77 5 70 71,
ol 78 4 77,
oM 1 78 76] [2,3,4] [[],[0],[0,1],[0,1,2],[],wM 5,wM 6,wM 7,[],wM 9,wM 10,wM 11,wM 12])
(.seq (.dreg [oc 79 2,
oX 80 79,
ol 81 0 80,
oc 82 81,
oc 83 3,
oQ 84 5 82 83,
ol 85 4 84,
oc 86 85,
ol 87 1 4,
oM 1 87 86] [4] [[],[0],[0,1],[0,1,2],[],wM 5,wM 6,wM 7,wM 8,wM 9])
(wJ [oe 88 2 4,
oM 2 4 88] [4]
.ret)))))))))))
abbrev Uf:RsT:=[(4,some (some 2))]
theorem Th:SpF 89 M4 Pq Uf:=SpI Tryz.func90 (by kernel_rfl)
theorem Py:au Tryz.prog M4 = true:=by kernel_rfl
abbrev KA:FuncId:=94
def Mx:AC:=
(wJ [oV 2 5 0,
oI 3 0] [1,2]
(.seq (wJ [oG 4 5 0 2,
ol 5 0 4,
oc 6 5,
oR 7 6,
xC 8 7 1,
oc 9 1,
oP 10 (.lit 0 1 1 [(0,.t 9)]),
kS 11 53 [false,false,true] [cI 0,.t 8,.t 10]] [1,11]
(.cond (.t 11)
(wJ [oI 3 (-1)] [3]
.ret)
.skip))
(wJ [oc 12 1,
mV 3 12] [3]
.ret)))
abbrev UC:RsT:=[(3,none)]
theorem UE:SpF 13 KA Mx UC:=SpI Tryz.func94 (by kernel_rfl)
theorem TC:au Tryz.prog KA = true:=by kernel_rfl
abbrev NH:FuncId:=96
def Qn:AC:=
(wJ [oV 1 5 0,
⟨some 2,none, .mv (.c (.str ⟨#[]⟩))⟩] [1]
(wJ [oP 3 (.allocB)] [1,3]
(wJ [oP 10 (.mkfunc (.func 143) [] [.t 3]),
oP 4 (.alloc [.nilfunc]),
oM 1 4 10] [1,3,4]
(.frz 4 false (wJ [oP 11 (.mkfunc (.func 146) [] [.t 4,.t 1]),
mV 5 11] [1,3,4,5]
(wJ [oP 12 (.mkfunc (.func 148) [] [.t 1]),
mV 6 12] [1,3,4,5,6]
(.seq (.qreg [oc 13 4,
⟨some 14,none, .lit 1 1 1 [(0,(.c (.str ⟨#[107,105,110,100,115]⟩)))]⟩,
oG 15 5 0 1,
ol 16 0 15,
oc 17 16,
oP 18 (.append 1 16 (.t 14) (.t 17)),
oP 19 (.call (.t 13) wd [.t 18])] [1,3,4,5,6] [[],[],[],[2],[2,3],[1,2,3,4],wM 6] [([0,2,3,4],1),([],5),([],6)] [])
(.seq (.qreg [oc 20 4,
⟨some 21,none, .lit 1 1 1 [(0,(.c (.str ⟨#[112,108,97,99,101,115]⟩)))]⟩,
oG 22 5 0 1,
ol 23 1 22,
oc 24 23,
oP 25 (.append 1 16 (.t 21) (.t 24)),
oP 26 (.call (.t 20) wd [.t 25])] [1,3,4,5,6] [[],[],[],[2],[2,3],[1,2,3,4],wM 6] [([0,2,3,4],1),([],5),([],6)] [])
(wJ [mV 27 5,
oG 28 5 0 1,
ol 29 2 28,
oc 30 29,
⟨some 31,none, .call (.t 27) [false,true] [(.c (.str ⟨#[102,105,114,115,116]⟩)),.t 30]⟩] [1,3,4,5,6]
(.seq (wJ [oG 32 5 0 1,
ol 33 3 32,
oc 34 33,
oR 35 34,
oI 36 0] [1,3,4,5,6,34,35,36]
(.block 0
(.loop [1,3,4,5,6,34,35,36]
(wJ [xT 37 36 35] [1,3,4,5,6,34,35,36,37]
(.seq (.cond (.t 37)
.skip
(.exit 0))
(.seq (.block 1
(wJ [oQ 38 5 34 36,
oe 39 5 38,
oP 8 (.alloc ww),
oM 5 8 39] [1,3,4,5,6,8,34,35,36]
(.frz 8 true (wJ [⟨some 9,none, .mv (.c (.str ⟨#[45]⟩))⟩] [1,3,4,5,6,8,9,34,35,36]
(.seq (wJ [ol 40 4 8,
oc 41 40,
zE 42 41 0] [1,3,4,5,6,8,9,34,35,36,42]
(.cond (.t 42)
(.reg [ol 43 4 8,
oc 44 43,
kS 45 147 wl [.t 44],
mV 9 45] [1,3,4,5,6,8,9,34,35,36])
.skip))
(.creg [oc 46 4,
oG 47 5 0 1,
ol 48 0 47,
oc 49 48,
ol 50 0 8,
oc 51 50,
oQ 52 1 49 51,
oc 53 52,
mV 54 6,
ol 55 1 8,
oc 56 55,
oP 57 (.call (.t 54) wl [.t 56]),
mV 58 6,
ol 59 2 8,
oc 60 59,
oP 61 (.call (.t 58) wl [.t 60]),
ol 62 3 8,
oc 63 62,
kS 64 147 wl [.t 63],
mV 65 9,
⟨some 66,none, .lit 0 1 6 [(0,(.c (.str ⟨#[112,97,112,101,114]⟩))),(1,.t 53),(2,.t 57),(3,.t 61),(4,.t 64),(5,.t 65)]⟩,
oP 67 (.call (.t 46) wd [.t 66])] [1,3,4,5,6,34,35,36] [[],[],[1],[1,2],[],[4],[1,2,3,4,5],[1,2,3,4,5,6],[],[],[9],[8,9,10],[],[],[13],[8,9,10,11,12,13,14],[],[16],[8,9,10,11,12,13,14,15,16,17],[],[1,2,3,4,5,6,7,8,9,10,11,12,13,14,15,16,17,18,19],wM 21] [([0,1,2,3,4,5,6,7,8,9,10,11,12,13,14,15,16,17,18,19],20),([],21)] []))))))
(.reg [xr 68 36 1,
mV 36 68] [1,3,4,5,6,34,35,36])))))))
(wJ [mV 69 5,
oG 70 5 0 1,
ol 71 4 70,
oc 72 71,
⟨some 73,none, .call (.t 69) [false,true] [(.c (.str ⟨#[108,97,115,116]⟩)),.t 72]⟩] [3]
(wJ [kS 74 149 wd [.t 3],
mV 2 74] [2]
.ret))))))))))))
abbrev Ta:RsT:=[(2,none)]
theorem TA:SpF 75 NH Qn Ta:=SpI Tryz.func96 (by kernel_rfl)
theorem Oe:au Tryz.prog NH = true:=by kernel_rfl
abbrev zZ:FuncId:=98
def JT:AC:=
(wJ [mV 4 2,
oP 5 (.isnil true (.t 4))] [0,1,2,5]
(.cond (.t 5)
(.dreg [oP 6 (.build wI []),
mV 7 2,
oP 8 (.assert 30 (.t 7)),
oM 5 0 6,
oM 1 1 8] [] [[],[],[1],[0],wM 4])
.skip))
theorem vb:Jj Tryz.prog Tryz.f98 9 3 2 JT = true:=by kernel_rfl
theorem Pe {args:List ag} {σ:af} {m:PM} {Q:PM → af → Prop} (ha:args.length ≤ 9) (h:AW Tryz.prog 9 none JT (Eb (Q m.after)) { v:=(2,m.val) :: (3, .undef) :: fE args 0,ds:=[] } σ):nx Tryz.prog zZ args σ m Q:=nx.wS Tryz.func98 vb ha h
theorem Oh:au Tryz.prog zZ = true:=by kernel_rfl
abbrev OF:FuncId:=99
theorem Nc:au Tryz.prog OF = true:=by kernel_rfl
abbrev Fe:FuncId:=100
def Jh:AC:=
(wJ [mV 2 0,
xi 3 2] [3]
(.cond (.t 3)
(.reg [oP 4 (.mkiface 30 (cI 6)),
oN (.panic (.t 4))] [])
.skip))
abbrev R8:RsT:=[]
theorem Mc:SpF 5 Fe Jh R8:=SpI Tryz.func100 (by kernel_rfl)
theorem dT:au Tryz.prog Fe = true:=by kernel_rfl
abbrev lY:FuncId:=101
def kK:AC:=
(wJ [oV 2 1 0,
oV 3 1 1] [2,3]
(wJ [oP 5 (.mkfunc (.func 155) [] [.t 3,.t 2]),
mV 4 5] [2,3,4]
(wJ [oc 6 3,
oP 7 (.ixS 1 (.t 6) (cI 0)),
oc 8 7] [2,3,4,8]
(.block 0
(wJ [⟨some 11,none, .bin .eql (.t 8) (.c (.str ⟨#[107,105,110,100,115]⟩))⟩,
mV 10 11] [2,3,4,8,10]
(.cond (.t 10)
(.dreg [oc 12 2,
oc 13 3,
oP 14 (.subq 1 (.t 13) (some (cI 1)) none),
oX 15 12,
oG 16 5 0 15,
ol 17 0 16,
oM 1 17 14] [] [[],[],[1],[0,1,2],wM 4,wM 5,wM 6])
(wJ [⟨some 19,none, .bin .eql (.t 8) (.c (.str ⟨#[112,108,97,99,101,115]⟩))⟩,
mV 18 19] [2,3,4,8,18]
(.cond (.t 18)
(.dreg [oc 20 2,
oc 21 3,
oP 22 (.subq 1 (.t 21) (some (cI 1)) none),
oX 23 20,
oG 24 5 0 23,
ol 25 1 24,
oM 1 25 22] [] [[],[],[1],[0,1,2],wM 4,wM 5,wM 6])
(wJ [⟨some 27,none, .bin .eql (.t 8) (.c (.str ⟨#[102,105,114,115,116]⟩))⟩,
mV 26 27] [2,3,4,8,26]
(.cond (.t 26)
(.creg [oc 28 2,
oc 29 2,
oX 30 29,
oG 31 5 0 30,
ol 32 2 31,
oc 33 32,
mV 34 4,
oP 35 (.call (.t 34) [] []),
oP 36 (.lit 0 4 1 [(0,.t 35)]),
oP 37 (.append 4 32 (.t 33) (.t 36)),
oX 38 28,
oG 39 5 0 38,
ol 40 2 39,
oM 1 40 37] [] [[],[],[1],[1,2],[1,2,3],[1,2,3,4],[],[6],[6,7],[1,2,3,4,5,6,7,8],wM 10,wM 11,wM 12,wM 13] [([0,1,2,3,4,5,6],7),([],8),([],9),([10,11,12],13)] [])
(wJ [⟨some 42,none, .bin .eql (.t 8) (.c (.str ⟨#[112,97,112,101,114]⟩))⟩,
mV 41 42] [2,3,4,8,41]
(.cond (.t 41)
(wJ [oc 43 3,
oR 44 43,
zu 45 44 6,
kS 46 100 wl [.t 45]] [2,3]
(.creg [oc 47 2,
oc 48 2,
oX 49 48,
oG 50 5 0 49,
ol 51 3 50,
oc 52 51,
oc 53 2,
oX 54 53,
oG 55 5 0 54,
ol 56 0 55,
oc 57 56,
oc 58 3,
oP 59 (.ixS 1 (.t 58) (cI 1)),
oc 60 59,
kS 61 156 [true,false,false] [.t 57,.t 60,(.c (.bool false))],
oc 62 2,
oX 63 62,
oG 64 5 0 63,
ol 65 1 64,
oc 66 65,
oc 67 3,
oP 68 (.ixS 1 (.t 67) (cI 2)),
oc 69 68,
kS 70 156 [true,false,false] [.t 66,.t 69,(.c (.bool true))],
oc 71 2,
oX 72 71,
oG 73 5 0 72,
ol 74 1 73,
oc 75 74,
oc 76 3,
oP 77 (.ixS 1 (.t 76) (cI 3)),
oc 78 77,
kS 79 156 [true,false,false] [.t 75,.t 78,(.c (.bool true))],
oc 80 3,
oP 81 (.ixS 1 (.t 80) (cI 4)),
oc 82 81,
kS 83 157 wo [.t 82,(.c (.bool false))],
oc 84 3,
oP 85 (.ixS 1 (.t 84) (cI 5)),
oc 86 85,
kS 87 157 wo [.t 86,(.c (.bool true))],
oP 88 (.build ww [(0,1,.t 61),(1,1,.t 70),(2,1,.t 79),(3,1,.t 83),(4,1,.t 87)]),
oP 89 (.lit 0 5 1 [(0,.t 88)]),
oP 90 (.append 5 40 (.t 52) (.t 89)),
oX 91 47,
oG 92 5 0 91,
ol 93 3 92,
oM 1 93 90] [] [[],[],[1],[1,2],[1,2,3],[1,2,3,4],[],[6],[6,7],[6,7,8],[6,7,8,9],[],[11],[11,12],[6,7,8,9,10,11,12,13],[],[15],[15,16],[15,16,17],[15,16,17,18],[],[20],[20,21],[6,7,8,9,10,11,12,13,14,15,16,17,18,19,20,21,22],[],[24],[24,25],[24,25,26],[24,25,26,27],[],[29],[29,30],[6,7,8,9,10,11,12,13,14,15,16,17,18,19,20,21,22,23,24,25,26,27,28,29,30,31],[],[33],[33,34],[6,7,8,9,10,11,12,13,14,15,16,17,18,19,20,21,22,23,24,25,26,27,28,29,30,31,32,33,34,35],[],[37],[37,38],[6,7,8,9,10,11,12,13,14,15,16,17,18,19,20,21,22,23,24,25,26,27,28,29,30,31,32,33,34,35,36,37,38,39],[6,7,8,9,10,11,12,13,14,15,16,17,18,19,20,21,22,23,24,25,26,27,28,29,30,31,32,33,34,35,36,37,38,39,40],[6,7,8,9,10,11,12,13,14,15,16,17,18,19,20,21,22,23,24,25,26,27,28,29,30,31,32,33,34,35,36,37,38,39,40,41],[1,2,3,4,5,6,7,8,9,10,11,12,13,14,15,16,17,18,19,20,21,22,23,24,25,26,27,28,29,30,31,32,33,34,35,36,37,38,39,40,41,42],wM 44,wM 45,wM 46,wM 47] [([0,1,2,3,4,5,6,7,8,9,10,11,12,13,15,16,17,18,19,20,21,22,24,25,26,27,28,29,30,31,33,34,35,37,38,39],14),([],23),([],32),([],36),([],40),([41],42),([],43),([44,45,46],47)] []))
(wJ [⟨some 95,none, .bin .eql (.t 8) (.c (.str ⟨#[108,97,115,116]⟩))⟩,
mV 94 95] [2,4,94]
(.cond (.t 94)
(.creg [oc 96 2,
oc 97 2,
oX 98 97,
oG 99 5 0 98,
ol 100 4 99,
oc 101 100,
mV 102 4,
oP 103 (.call (.t 102) [] []),
oP 104 (.lit 0 4 1 [(0,.t 103)]),
oP 105 (.append 4 32 (.t 101) (.t 104)),
oX 106 96,
oG 107 5 0 106,
ol 108 4 107,
oM 1 108 105] [] [[],[],[1],[1,2],[1,2,3],[1,2,3,4],[],[6],[6,7],[1,2,3,4,5,6,7,8],wM 10,wM 11,wM 12,wM 13] [([0,1,2,3,4,5,6],7),([],8),([],9),([10,11,12],13)] [])
(.reg [kS 9 100 wl [(.c (.bool false))]] [])))))))))))))))
abbrev RW:RsT:=[]
theorem qg:SpF 109 lY kK RW:=SpI Tryz.func101 (by kernel_rfl)
theorem LG:au Tryz.prog lY = true:=by kernel_rfl
abbrev Lo:FuncId:=102
theorem Mp:au Tryz.prog Lo = true:=by kernel_rfl
abbrev Fp:FuncId:=106
def Mr:AC:=
(wJ [oP 4 (.mv (.c (.bool false)))] [0,1]
(wJ [mV 7 0,
oR 8 7,
mV 9 1,
oR 10 9,
zh 11 8 10,
mV 5 11] [0,1,5]
(.seq (wJ [oI 6 0] [0,1,5,6]
(.block 0
(.loop [0,1,5,6]
(.seq (wJ [mV 12 6,
mV 13 0,
oR 14 13,
xT 15 12 14,
mV 16 15,
zR 17 16 5,
oP 18 (.pick (.t 16) (.t 17) (.c (.bool false)))] [0,1,5,6,18]
(.cond (.t 18)
.skip
(.exit 0)))
(.seq (.block 1
(.dreg [mV 21 0,
mV 22 6,
oQ 23 1 21 22,
oc 24 23,
mV 25 1,
mV 26 6,
oQ 27 1 25 26,
oc 28 27,
zh 29 24 28,
mV 5 29] [0,1,5,6] [[],[],[0,1],[0,1,2],[],[],[4,5],[4,5,6],wM 8,wM 9]))
(.reg [mV 19 6,
xr 20 19 1,
mV 6 20] [0,1,5,6]))))))
(wJ [mV 30 5,
mV 4 30] [4]
.ret))))
abbrev Pp:RsT:=[(4,none)]
theorem QK:SpF 31 Fp Mr Pp:=SpI Tryz.func106 (by kernel_rfl)
theorem Lu:au Tryz.prog Fp = true:=by kernel_rfl
abbrev Hl:FuncId:=107
def LX:AC:=
(wJ [oP 4 (.mv (.c (.bool false)))] [0,1]
(wJ [mV 7 0,
oR 8 7,
mV 9 1,
oR 10 9,
zh 11 8 10,
mV 5 11] [0,1,5]
(.seq (wJ [oI 6 0] [0,1,5,6]
(.block 0
(.loop [0,1,5,6]
(.seq (wJ [mV 12 6,
mV 13 0,
oR 14 13,
xT 15 12 14,
mV 16 15,
zR 17 16 5,
oP 18 (.pick (.t 16) (.t 17) (.c (.bool false)))] [0,1,5,6,18]
(.cond (.t 18)
.skip
(.exit 0)))
(.seq (.block 1
(.dreg [mV 21 0,
mV 22 6,
oQ 23 4 21 22,
oe 24 4 23,
mV 25 1,
mV 26 6,
oQ 27 4 25 26,
oe 28 4 27,
oP 29 (.eqa false [.i, .i, .i, .i] (.t 24) (.t 28)),
mV 5 29] [0,1,5,6] [[],[],[0,1],[0,1,2],[],[],[4,5],[4,5,6],wM 8,wM 9]))
(.reg [mV 19 6,
xr 20 19 1,
mV 6 20] [0,1,5,6]))))))
(wJ [mV 30 5,
mV 4 30] [4]
.ret))))
abbrev RV:RsT:=[(4,none)]
theorem PY:SpF 31 Hl LX RV:=SpI Tryz.func107 (by kernel_rfl)
theorem L7:au Tryz.prog Hl = true:=by kernel_rfl
abbrev V4:FuncId:=108
def V5:AC:=
(wJ [oI 4 0] [0,1]
(.seq (wJ [mV 5 0,
oR 6 5,
zu 7 6 0] [0,1,7]
(.cond (.t 7)
(wJ [oI 4 0] [4]
.ret)
.skip))
(wJ [mV 8 0,
mV 9 1,
mV 10 0,
oR 11 10,
oP 12 (.bin .rem (.t 9) (.t 11)),
oQ 13 1 8 12,
oc 14 13,
oP 15 (.conv .i64 (.t 14)),
mV 4 15] [4]
.ret)))
abbrev Wi:RsT:=[(4,none)]
theorem Wh:SpF 16 V4 V5 Wi:=SpI Tryz.func108 (by kernel_rfl)
theorem e7:au Tryz.prog V4 = true:=by kernel_rfl
abbrev IA:FuncId:=109
def Mm:AC:=
(wJ [oP 6 (.mv (.c (.bool false)))] [0,1,2]
(wJ [mV 7 1,
mV 8 0,
oP 9 (.bin .leq (.t 7) (.t 8)),
mV 10 9,
zR 11 10 0,
zR 12 10 2,
gT 13 10 (.bin .leq (.t 11) (.t 12)),
oP 14 (.pick (.t 10) (.t 13) (.c (.bool false))),
mV 6 14] [6]
.ret))
abbrev Pz:RsT:=[(6,none)]
theorem Rt:SpF 15 IA Mm Pz:=SpI Tryz.func109 (by kernel_rfl)
theorem wX:au Tryz.prog IA = true:=by kernel_rfl
abbrev Ik:FuncId:=110
def Mu:AC:=
(wJ [oP 4 (.mv (.c (.bool false)))] [0,1]
(wJ [mV 5 0,
mV 6 1,
kS 7 160 wn [.t 5,.t 6],
zE 8 7 0,
mV 4 8] [4]
.ret))
abbrev OS:RsT:=[(4,none)]
theorem Ox:SpF 9 Ik Mu OS:=SpI Tryz.func110 (by kernel_rfl)
theorem Rz:au Tryz.prog Ik = true:=by kernel_rfl
abbrev HU:FuncId:=111
def Lv:AC:=
(wJ [oP 4 (.mv (.c (.bool false)))] [0,1,2]
(wJ [mV 5 0,
oc 6 1,
xT 7 5 6,
mV 8 7,
kw 9 8 0,
kD 10 8 2,
gF 11 8 (.bin .gtr (.t 9) (.t 10)),
oP 12 (.pick (.t 8) (.c (.bool true)) (.t 11)),
mV 4 12] [4]
.ret))
abbrev Rj:RsT:=[(4,none)]
theorem OU:SpF 13 HU Lv Rj:=SpI Tryz.func111 (by kernel_rfl)
theorem P4:au Tryz.prog HU = true:=by kernel_rfl
abbrev Fy:FuncId:=112
def LH:AC:=
(wJ [oI 4 0,
oI 5 0] [0,1]
(.seq (wJ [mV 8 0,
oR 9 8,
oI 10 0] [1,8,9,10]
(.block 0
(.loop [1,8,9,10]
(wJ [xT 11 10 9] [1,8,9,10,11]
(.seq (.cond (.t 11)
.skip
(.exit 0))
(.seq (.block 1
(wJ [mV 12 10,
oQ 13 1 8 10,
oc 14 13,
mV 6 12,
mV 7 14] [1,6,7,8,9,10]
(wJ [mV 15 1,
mV 16 6,
mV 17 7,
oP 18 (.call (.t 15) wo [.t 16,.t 17]),
mV 5 18] [1,5,6,8,9,10]
(wJ [mV 19 5,
zz 20 19 0] [1,5,6,8,9,10,20]
(.cond (.t 20)
(wJ [mV 21 6,
mV 22 5,
mV 4 21,
mV 5 22] [4,5]
.ret)
.skip)))))
(.reg [xr 23 10 1,
mV 10 23] [1,8,9,10])))))))
(wJ [oI 4 0,
oI 5 0] [4,5]
.ret)))
abbrev Rk:RsT:=[(4,none),(5,none)]
theorem O2:SpF 24 Fy LH Rk:=SpI Tryz.func112 (by kernel_rfl)
theorem Oj:au Tryz.prog Fy = true:=by kernel_rfl
abbrev ES:FuncId:=113
def E4:AC:=
(wJ [oI 5 0] [0,1,2]
(.seq (.block 0
(wJ [mV 7 1,
kS 8 114 wl [.t 7],
xi 9 8,
mV 6 9] [0,1,2,6]
(.cond (.t 6)
(wJ [oI 5 6] [5]
.ret)
(wJ [oc 11 2,
mV 12 0,
oP 13 (.subq 1 (.t 11) none (some (.t 12))),
mV 14 1,
kS 15 115 wn [.t 13,.t 14],
mV 10 15] [10]
(.cond (.t 10)
(wJ [oI 5 5] [5]
.ret)
.skip)))))
(wJ [oI 5 0] [5]
.ret)))
abbrev RH:RsT:=[(5,none)]
theorem O7:SpF 16 ES E4 RH:=SpI Tryz.func113 (by kernel_rfl)
theorem RF:au Tryz.prog ES = true:=by kernel_rfl
abbrev Hm:FuncId:=114
def Mg:AC:=
(wJ [oP 2 (.mv (.c (.bool false)))] [0]
(.seq (wJ [mV 7 0,
oP 8 (.range (.t 7))] [0,8]
(.block 0
(.loop [0,8]
(wJ [oP 9 (.next (.t 8)),
oK 10 9 0] [0,8,9,10]
(.seq (.cond (.t 10)
.skip
(.exit 0))
(.block 1
(wJ [oK 11 9 1,
oK 12 9 2,
mV 3 11,
mV 4 12] [0,3,4,8]
(wJ [mV 13 4,
oP 14 (.bin .geq (.t 13) (.c (.int .i32 97))),
mV 15 14,
zR 16 15 4,
gT 17 15 (.bin .leq (.t 16) (.c (.int .i32 122))),
oP 18 (.pick (.t 15) (.t 17) (.c (.bool false))),
mV 19 4,
oP 20 (.bin .geq (.t 19) (.c (.int .i32 48))),
mV 21 20,
zR 22 21 4,
gT 23 21 (.bin .leq (.t 22) (.c (.int .i32 57))),
oP 24 (.pick (.t 21) (.t 23) (.c (.bool false))),
mV 5 18,
mV 6 24] [0,3,5,6,8]
(wJ [mV 25 5,
xi 26 25,
mV 27 26,
zR 28 27 6,
gT 29 27 (.un .not (.t 28)),
zR 30 27 29,
kw 31 30 3,
gF 32 30 (.bin .eql (.t 31) (cI 0)),
gT 33 27 (.pick (.t 30) (.c (.bool true)) (.t 32)),
oP 34 (.pick (.t 27) (.t 33) (.c (.bool false)))] [0,8,34]
(.cond (.t 34)
(wJ [oP 2 (.mv (.c (.bool false)))] [2]
.ret)
.skip))))))))))
(wJ [mV 35 0,
⟨some 36,none, .bin .neq (.t 35) (.c (.str ⟨#[]⟩))⟩,
mV 37 36,
zR 38 37 0,
gT 39 37 (.lenStr (.t 38)),
gT 40 37 (.bin .leq (.t 39) (cI 16)),
oP 41 (.pick (.t 37) (.t 40) (.c (.bool false))),
mV 2 41] [2]
.ret)))
abbrev Q4:RsT:=[(2,none)]
theorem RR:SpF 42 Hm Mg Q4:=SpI Tryz.func114 (by kernel_rfl)
theorem Ig:au Tryz.prog Hm = true:=by kernel_rfl
abbrev It:FuncId:=115
def LQ:AC:=
(wJ [oP 4 (.mv (.c (.bool false)))] [0,1]
(wJ [mV 5 0,
mV 6 1,
kS 7 161 wn [.t 5,.t 6],
zE 8 7 0,
mV 4 8] [4]
.ret))
abbrev OE:RsT:=[(4,none)]
theorem Qj:SpF 9 It LQ OE:=SpI Tryz.func115 (by kernel_rfl)
theorem LL:au Tryz.prog It = true:=by kernel_rfl
abbrev G9:FuncId:=116
def LB:AC:=
(wJ [oI 4 0,
oI 5 0] [0,1]
(.seq (wJ [mV 8 0,
oR 9 8,
oI 10 0] [1,8,9,10]
(.block 0
(.loop [1,8,9,10]
(wJ [xT 11 10 9] [1,8,9,10,11]
(.seq (.cond (.t 11)
.skip
(.exit 0))
(.seq (.block 1
(wJ [mV 12 10,
oQ 13 4 8 10,
oe 14 4 13,
oP 7 (.alloc wx),
mV 6 12,
oM 4 7 14] [1,6,7,8,9,10]
(.frz 7 true (wJ [mV 15 1,
mV 16 6,
oe 17 4 7,
oP 18 (.call (.t 15) wo [.t 16,.t 17]),
mV 5 18] [1,5,6,8,9,10]
(wJ [mV 19 5,
zz 20 19 0] [1,5,6,8,9,10,20]
(.cond (.t 20)
(wJ [mV 21 6,
mV 22 5,
mV 4 21,
mV 5 22] [4,5]
.ret)
.skip))))))
(.reg [xr 23 10 1,
mV 10 23] [1,8,9,10])))))))
(wJ [oI 4 0,
oI 5 0] [4,5]
.ret)))
abbrev PQ:RsT:=[(4,none),(5,none)]
theorem P8:SpF 24 G9 LB PQ:=SpI Tryz.func116 (by kernel_rfl)
theorem Pl:au Tryz.prog G9 = true:=by kernel_rfl
abbrev Fq:FuncId:=117
def td:AC:=
(wJ [oV 5 4 1,
oI 6 0] [2,3,5]
(.seq (.qreg [oc 7 2,
ol 8 0 5,
oc 9 8,
ol 10 1 5,
oc 11 10,
oP 12 (.build wy [(0,1,.t 9),(1,1,.t 11)]),
oP 13 (.lookup false (.int .i64 0) (.t 7) (.t 12)),
xr 14 13 1,
oP 15 (.ment (.int .i64 0) (.t 7) (.t 12)),
oK 16 15 1,
oN (.estore (.t 7) (.t 16) (.t 14))] [2,3,5] [[],[],[1],[],[3],[1,2,3,4],wM 6,wM 7,wM 6,[0,1,2,3,4,5,8],wM 10] [([0,1,2,3,4,5,6,7],8),([9],10)] [])
(.seq (.block 0
(wJ [oG 18 5 0 3,
ol 19 0 18,
oc 20 19,
oR 21 20,
xC 22 21 1,
ol 23 0 5,
oc 24 23,
oP 25 (.lit 0 1 1 [(0,.t 24)]),
kS 26 53 [false,false,true] [cI 0,.t 22,.t 25],
mV 27 26,
gF 28 27 (.fieldAddr (some 5) 0 (.t 3)),
kL 29 27 1 28,
kD 30 27 29,
kN 31 27 30,
gF 32 27 (.bin .sub (.t 31) (cI 1)),
kL 33 27 1 5,
kD 34 27 33,
gF 35 27 (.lit 0 1 1 [(0,.t 34)]),
gF 36 27 (.call (.f 53) [false,false,true] [cI 0,.t 32,.t 35]),
oP 37 (.pick (.t 27) (.c (.bool true)) (.t 36)),
mV 17 37] [2,5,17]
(.cond (.t 17)
(wJ [oI 6 4] [6]
.ret)
(wJ [oc 39 2,
ol 40 0 5,
oc 41 40,
ol 42 1 5,
oc 43 42,
oP 44 (.build wy [(0,1,.t 41),(1,1,.t 43)]),
oP 45 (.mgetp false (.int .i64 0) (.t 39) (.t 44)),
zI 46 45 1,
mV 38 46] [5,38]
(.cond (.t 38)
(wJ [oI 6 5] [6]
.ret)
(wJ [oG 48 2 2 5,
ol 49 0 48,
oc 50 49,
oG 51 2 2 5,
ol 52 1 51,
oc 53 52,
oP 54 (.lit 0 1 2 [(0,.t 50),(1,.t 53)]),
kS 55 53 [false,false,true] [cI 0,cI 1000000,.t 54],
mV 47 55] [5,47]
(.cond (.t 47)
(wJ [oI 6 7] [6]
.ret)
(wJ [oG 57 2 2 5,
ol 58 0 57,
oc 59 58,
oG 60 2 2 5,
ol 61 1 60,
oc 62 61,
oP 63 (.bin .gtr (.t 59) (.t 62)),
mV 56 63] [56]
(.cond (.t 56)
(wJ [oI 6 2] [6]
.ret)
.skip)))))))))
(wJ [oI 6 0] [6]
.ret))))
abbrev PA:RsT:=[(6,none)]
theorem uv:SpF 64 Fq td PA:=SpI Tryz.func117 (by kernel_rfl)
theorem PW:au Tryz.prog Fq = true:=by kernel_rfl
abbrev H0:FuncId:=118
def Mn:AC:=
(wJ [oI 4 0] [0,1]
(.seq (wJ [mV 5 0,
kS 6 52 wl [.t 5],
xi 7 6] [0,1,7]
(.cond (.t 7)
(wJ [oI 4 6] [4]
.ret)
.skip))
(.seq (wJ [mV 8 1,
mV 9 0,
kS 10 159 wn [.t 8,.t 9],
zE 11 10 0] [11]
(.cond (.t 11)
(wJ [oI 4 5] [4]
.ret)
.skip))
(wJ [oI 4 0] [4]
.ret))))
abbrev Po:RsT:=[(4,none)]
theorem Pb:SpF 12 H0 Mn Po:=SpI Tryz.func118 (by kernel_rfl)
theorem LW:au Tryz.prog H0 = true:=by kernel_rfl
abbrev G8:FuncId:=119
def Lp:AC:=
(wJ [oV 3 2 0,
oI 6 0] [1,2,3]
(wJ [oe 7 2 3,
oP 8 (.lit 0 2 1 [(0,.t 7)]),
mV 9 1,
mV 10 2,
kS 11 162 [true,false,false] [.t 8,.t 9,.t 10],
mV 6 11] [6]
.ret))
abbrev PI:RsT:=[(6,none)]
theorem Q9:SpF 12 G8 Lp PI:=SpI Tryz.func119 (by kernel_rfl)
theorem Lm:au Tryz.prog G8 = true:=by kernel_rfl
abbrev Jd:FuncId:=120
def L8:AC:=
(wJ [oI 4 0,
oI 5 0] [0,1]
(.seq (wJ [mV 8 0,
oR 9 8,
oI 10 0] [1,8,9,10]
(.block 0
(.loop [1,8,9,10]
(wJ [xT 11 10 9] [1,8,9,10,11]
(.seq (.cond (.t 11)
.skip
(.exit 0))
(.seq (.block 1
(wJ [mV 12 10,
oQ 13 1 8 10,
oc 14 13,
mV 6 12,
mV 7 14] [1,6,7,8,9,10]
(wJ [mV 15 1,
mV 16 6,
mV 17 7,
oP 18 (.call (.t 15) wo [.t 16,.t 17]),
mV 5 18] [1,5,6,8,9,10]
(wJ [mV 19 5,
zz 20 19 0] [1,5,6,8,9,10,20]
(.cond (.t 20)
(wJ [mV 21 6,
mV 22 5,
mV 4 21,
mV 5 22] [4,5]
.ret)
.skip)))))
(.reg [xr 23 10 1,
mV 10 23] [1,8,9,10])))))))
(wJ [oI 4 0,
oI 5 0] [4,5]
.ret)))
abbrev P5:RsT:=[(4,none),(5,none)]
theorem RN:SpF 24 Jd L8 P5:=SpI Tryz.func120 (by kernel_rfl)
theorem QG:au Tryz.prog Jd = true:=by kernel_rfl
abbrev Fi:FuncId:=121
def Bq:AC:=
(wJ [oI 6 0] [0,1,2,3]
(.seq (.block 0
(wJ [oG 8 5 0 2,
ol 9 3 8,
oc 10 9,
oR 11 10,
xC 12 11 1,
mV 13 1,
oP 14 (.lit 0 1 1 [(0,.t 13)]),
kS 15 53 [false,false,true] [cI 0,.t 12,.t 14],
mV 7 15] [0,1,3,7]
(.cond (.t 7)
(wJ [oI 6 4] [6]
.ret)
(wJ [mV 17 0,
zI 18 17 0,
mV 19 18,
zR 20 19 1,
zS 21 19 3,
zR 22 19 0,
gT 23 19 (.bin .sub (.t 22) (cI 1)),
gT 24 19 (.ixS 1 (.t 21) (.t 23)),
zS 25 19 24,
gT 26 19 (.bin .leq (.t 20) (.t 25)),
oP 27 (.pick (.t 19) (.t 26) (.c (.bool false))),
mV 16 27] [16]
(.cond (.t 16)
(wJ [oI 6 2] [6]
.ret)
.skip)))))
(wJ [oI 6 0] [6]
.ret)))
abbrev Om:RsT:=[(6,none)]
theorem O5:SpF 28 Fi Bq Om:=SpI Tryz.func121 (by kernel_rfl)
theorem QI:au Tryz.prog Fi = true:=by kernel_rfl
end Go.AM
