/- MADE BY PROGRAM (gen.py): the abstract code of functions of this seat, each checked against the given code by the kernel. -/
import Derived.Test.YthhmdhiiicipkaaGreatDoorChecked
import Derived.Test.YthhmdhiiicipkaaGreatDoorP15
import Derived.Test.YthhmdhiiicipkaaGreatDoorP16
namespace Go.AM
open Go.Proofs
@[simp] abbrev mV (d s:Nat):ay:=⟨some d,none, .mv (.t s)⟩
@[simp] abbrev oP (d:Nat) (i:AI):ay:=⟨some d,none,i⟩
@[simp] abbrev oN (i:AI):ay:=⟨none,none,i⟩
@[simp] abbrev gT (d g:Nat) (i:AI):ay:=⟨some d,some (g,true),i⟩
@[simp] abbrev gF (d g:Nat) (i:AI):ay:=⟨some d,some (g,false),i⟩
abbrev RsT:=List (Nat × Option (Option Nat))
abbrev SpF (n:Nat) (F:FuncId) (C:AC) (Rs:RsT):Prop:=∀ {args:List ab} {σ:ag} {R:eP → ag → Prop},args.length ≤ n → AW Tryz.prog n none C (yK Rs R) { v:=eC args 0,ds:=[] } σ → Spec Tryz.prog F args σ R
theorem SpI {n:Nat} {F:FuncId} {fn:Func} {C:AC} {Rs:RsT} (hf:Tryz.prog.funcs[F]? = some fn) (hk:wD Tryz.prog fn n C Rs = true):SpF n F C Rs:=fun ha h=>Spec.vn hf hk ha h
@[simp] abbrev cI (n:Int):aG:=.c (.int .i64 n)
abbrev F_5:FuncId:=5
def C_5:AC:=
(.seq (.reg [oP 2 (.pbox 2 (.t 0)),
oP 4 (.mv (.c (.bool false)))] [1,2])
(.seq (.reg [oP 12 (.load (some 2) (.t 2)),
oP 13 (.call (.f 37) [true] [(.t 12)]),
mV 11 13,
oP 14 (.extract (.t 11) 0),
oP 15 (.extract (.t 11) 1),
mV 5 14,
mV 6 15] [1,2,5,6])
(.seq (.reg [oP 17 (.load (some 2) (.t 2)),
oP 18 (.call (.f 38) [true] [(.t 17)]),
mV 16 18,
oP 19 (.extract (.t 16) 0),
oP 20 (.extract (.t 16) 1),
mV 7 19,
mV 8 20] [1,5,6,7,8])
(.seq (.seq (.reg [mV 21 5,
mV 22 7,
oP 23 (.bin .neq (.t 21) (.t 22)),
mV 24 23,
gF 25 24 (.mv (.t 6)),
gF 26 24 (.mv (.t 8)),
gF 27 24 (.bin .neq (.t 25) (.t 26)),
oP 28 (.pick (.t 24) (.c (.bool true)) (.t 27))] [1,28])
(.cond (.t 28)
(.seq (.reg [oP 4 (.mv (.c (.bool false)))] [4])
.ret)
.skip))
(.seq (.reg [mV 30 1,
oP 31 (.call (.f 39) [false] [(.t 30)]),
mV 29 31,
oP 32 (.extract (.t 29) 0),
oP 33 (.extract (.t 29) 1),
oP 9 (.alloc [.slice 7 [], .slice 10 []]),
oN (.store 2 (.t 9) (.t 32)),
mV 6 33] [1,6,9])
(.frz 9 true (.seq (.reg [mV 35 1,
oP 36 (.call (.f 40) [false] [(.t 35)]),
mV 34 36,
oP 37 (.extract (.t 34) 0),
oP 38 (.extract (.t 34) 1),
oP 10 (.alloc [.slice 7 [], .slice 10 []]),
oN (.store 2 (.t 10) (.t 37)),
mV 8 38] [6,8,9,10])
(.frz 10 true (.seq (.reg [oP 39 (.load (some 2) (.t 9)),
oP 40 (.load (some 2) (.t 10)),
oP 41 (.call (.f 41) [true,true] [(.t 39),(.t 40)]),
mV 42 41,
gT 43 42 (.mv (.t 6)),
gT 44 42 (.mv (.t 8)),
gT 45 42 (.bin .eql (.t 43) (.t 44)),
oP 46 (.pick (.t 42) (.t 45) (.c (.bool false))),
mV 47 46,
gT 48 47 (.call (.f 27) [] []),
oP 49 (.pick (.t 47) (.t 48) (.c (.bool false))),
mV 4 49] [4])
.ret)))))))))
abbrev R_5:RsT:=[(4,none)]
theorem S_5:SpF 50 F_5 C_5 R_5:=SpI Tryz.func5 (by kernel_rfl)
abbrev F_7:FuncId:=7
def C_7:AC:=
(.seq (.reg [oP 3 (.pbox 3 (.t 1)),
oP 4 (.mv (.c (.bool false)))] [0,3])
(.seq (.reg [oP 17 (.fieldAddr none 0 (.t 3)),
oP 18 (.load none (.t 17)),
oP 19 (.conv .i64 (.t 18)),
oP 20 (.bin .rem (.t 19) (cI 40001)),
mV 5 20] [0,3,5])
(.seq (.seq (.reg [mV 21 0,
mV 22 5,
oP 23 (.call (.f 45) [true,false,true] [(.t 21),(.t 22),(.c (.slice 3 []))]),
oP 24 (.bin .neq (.t 23) (cI 0))] [0,3,5,24])
(.cond (.t 24)
(.seq (.reg [oP 25 (.call (.f 27) [] []),
mV 4 25] [4])
.ret)
.skip))
(.seq (.reg [oP 26 (.fieldAddr none 1 (.t 3)),
oP 27 (.load none (.t 26)),
oP 28 (.conv .i64 (.t 27)),
mV 29 0,
oP 30 (.len (.t 29)),
oP 31 (.bin .rem (.t 28) (.t 30)),
mV 6 31] [0,3,5,6])
(.seq (.dreg [mV 32 0,
mV 33 5,
mV 34 0,
mV 35 6,
oP 36 (.ixS 2 (.t 34) (.t 35)),
oP 37 (.load (some 2) (.t 36)),
oP 38 (.fieldAddr none 2 (.t 3)),
oP 39 (.load none (.t 38)),
oP 40 (.call (.f 46) [true,false,true,true] [(.t 32),(.t 33),(.t 37),(.t 39)]),
mV 7 40] [0,5,6,7] [[],[],[],[],[2,3],[2,3,4],[],[6],[0,1,2,3,4,5,6,7],[0,1,2,3,4,5,6,7,8]])
(.seq (.reg [mV 42 0,
mV 43 5,
mV 44 7,
oP 45 (.call (.f 28) [true,false,true] [(.t 42),(.t 43),(.t 44)]),
mV 41 45,
oP 46 (.extract (.t 41) 0),
oP 47 (.extract (.t 41) 1),
mV 8 46,
mV 9 47] [0,5,6,7,8,9])
(.seq (.reg [mV 49 0,
mV 50 5,
mV 51 7,
oP 52 (.call (.f 31) [true,false,true] [(.t 49),(.t 50),(.t 51)]),
mV 48 52,
oP 53 (.extract (.t 48) 0),
oP 54 (.extract (.t 48) 1),
oP 55 (.extract (.t 48) 2),
mV 10 53,
mV 11 54,
mV 12 55] [0,5,6,8,9,10,11,12])
(.seq (.seq (.reg [mV 56 9,
oP 57 (.bin .neq (.t 56) (cI 0)),
mV 58 57,
gF 59 58 (.mv (.t 12)),
gF 60 58 (.bin .neq (.t 59) (cI 0)),
oP 61 (.pick (.t 58) (.c (.bool true)) (.t 60)),
mV 62 61,
gF 63 62 (.mv (.t 8)),
gF 64 62 (.mv (.t 6)),
gF 65 62 (.call (.f 47) [true,false] [(.t 63),(.t 64)]),
gF 66 62 (.un .not (.t 65)),
oP 67 (.pick (.t 62) (.c (.bool true)) (.t 66))] [0,5,6,10,11,67])
(.cond (.t 67)
(.seq (.reg [oP 4 (.mv (.c (.bool false)))] [4])
.ret)
.skip))
(.seq (.reg [oP 13 (.nilS 1 1)] [0,5,6,10,11,13])
(.seq (.reg [mV 68 0,
mV 69 6,
oP 70 (.ixS 2 (.t 68) (.t 69)),
oP 71 (.load (some 2) (.t 70)),
mV 72 5,
oP 73 (.call (.f 48) [true,false] [(.t 71),(.t 72)]),
mV 14 73] [10,11,13,14])
(.seq (.seq (.reg [oP 15 (.mv (cI 0))] [10,11,13,14,15])
(.block 0
(.loop [10,11,13,14,15]
(.seq (.seq (.reg [mV 74 15,
mV 75 14,
oP 76 (.len (.t 75)),
oP 77 (.bin .lss (.t 74) (.t 76))] [10,11,13,14,15,77])
(.cond (.t 77)
.skip
(.exit 0)))
(.seq (.block 1
(.seq (.reg [mV 80 13,
mV 81 14,
mV 82 15,
oP 83 (.ixS 7 (.t 81) (.t 82)),
oP 84 (.fieldAddr none 0 (.t 83)),
oP 85 (.load none (.t 84)),
oP 86 (.lit 0 1 1 [(0,(.t 85))]),
oP 87 (.append 1 16 (.t 80) (.t 86)),
mV 13 87] [10,11,13,14,15])
(.seq (.reg [mV 88 11,
mV 89 14,
mV 90 15,
oP 91 (.ixS 7 (.t 89) (.t 90)),
oP 92 (.fieldAddr none 0 (.t 91)),
oP 93 (.load none (.t 92)),
oP 94 (.call (.f 49) [true,false] [(.t 88),(.t 93)]),
oP 95 (.bin .lss (.t 94) (cI 0))] [10,11,13,14,15,95])
(.cond (.t 95)
(.seq (.reg [oP 4 (.mv (.c (.bool false)))] [4])
.ret)
.skip))))
(.reg [mV 78 15,
oP 79 (.bin .add (.t 78) (cI 1)),
mV 15 79] [10,11,13,14,15]))))))
(.seq (.seq (.reg [oP 16 (.mv (cI 0))] [10,13,16])
(.block 2
(.loop [10,13,16]
(.seq (.seq (.reg [mV 96 16,
mV 97 10,
oP 98 (.len (.t 97)),
oP 99 (.bin .lss (.t 96) (.t 98))] [10,13,16,99])
(.cond (.t 99)
.skip
(.exit 2)))
(.seq (.block 3
(.seq (.reg [mV 102 13,
mV 103 10,
mV 104 16,
oP 105 (.ixS 1 (.t 103) (.t 104)),
oP 106 (.load none (.t 105)),
oP 107 (.call (.f 49) [true,false] [(.t 102),(.t 106)]),
oP 108 (.bin .lss (.t 107) (cI 0))] [10,13,16,108])
(.cond (.t 108)
(.seq (.reg [oP 4 (.mv (.c (.bool false)))] [4])
.ret)
.skip)))
(.reg [mV 100 16,
oP 101 (.bin .add (.t 100) (cI 1)),
mV 16 101] [10,13,16]))))))
(.seq (.reg [oP 109 (.call (.f 27) [] []),
mV 4 109] [4])
.ret)))))))))))))
abbrev R_7:RsT:=[(4,none)]
theorem S_7:SpF 110 F_7 C_7 R_7:=SpI Tryz.func7 (by kernel_rfl)
abbrev F_8:FuncId:=8
def C_8:AC:=
(.seq (.reg [oP 4 (.pbox 3 (.t 1)),
oP 5 (.pbox 4 (.t 2)),
oP 6 (.mv (.c (.bool false)))] [0,4,5])
(.seq (.reg [oP 25 (.fieldAddr none 0 (.t 4)),
oP 26 (.load none (.t 25)),
oP 27 (.conv .i64 (.t 26)),
oP 28 (.bin .rem (.t 27) (cI 40001)),
mV 7 28] [0,4,5,7])
(.seq (.seq (.reg [mV 29 0,
mV 30 7,
oP 31 (.call (.f 45) [true,false,true] [(.t 29),(.t 30),(.c (.slice 3 []))]),
oP 32 (.bin .neq (.t 31) (cI 0)),
mV 33 32,
gF 34 33 (.fieldAddr none 2 (.t 4)),
gF 35 33 (.load none (.t 34)),
gF 36 33 (.len (.t 35)),
gF 37 33 (.bin .geq (.t 36) (cI 12)),
oP 38 (.pick (.t 33) (.c (.bool true)) (.t 37))] [0,4,5,7,38])
(.cond (.t 38)
(.seq (.reg [oP 39 (.call (.f 27) [] []),
mV 6 39] [6])
.ret)
.skip))
(.seq (.reg [oP 40 (.fieldAddr none 1 (.t 4)),
oP 41 (.load none (.t 40)),
oP 42 (.conv .i64 (.t 41)),
mV 43 0,
oP 44 (.len (.t 43)),
oP 45 (.bin .rem (.t 42) (.t 44)),
mV 8 45] [0,4,5,7,8])
(.seq (.dreg [mV 46 0,
mV 47 7,
mV 48 0,
mV 49 8,
oP 50 (.ixS 2 (.t 48) (.t 49)),
oP 51 (.load (some 2) (.t 50)),
oP 52 (.fieldAddr none 2 (.t 4)),
oP 53 (.load none (.t 52)),
oP 54 (.call (.f 46) [true,false,true,true] [(.t 46),(.t 47),(.t 51),(.t 53)]),
mV 9 54] [0,5,7,9] [[],[],[],[],[2,3],[2,3,4],[],[6],[0,1,2,3,4,5,6,7],[0,1,2,3,4,5,6,7,8]])
(.seq (.reg [mV 56 0,
mV 57 7,
mV 58 9,
oP 59 (.call (.f 28) [true,false,true] [(.t 56),(.t 57),(.t 58)]),
mV 55 59,
oP 60 (.extract (.t 55) 0),
oP 61 (.extract (.t 55) 1),
mV 10 60,
mV 11 61] [0,5,7,9,10,11])
(.seq (.reg [mV 63 0,
mV 64 7,
mV 65 9,
oP 66 (.call (.f 33) [true,false,true] [(.t 63),(.t 64),(.t 65)]),
mV 62 66,
oP 67 (.extract (.t 62) 0),
oP 68 (.extract (.t 62) 1),
oP 69 (.extract (.t 62) 2),
oP 70 (.extract (.t 62) 3),
mV 12 67,
mV 13 68,
mV 14 69,
mV 15 70] [0,5,7,9,10,11,12,13,14,15])
(.seq (.seq (.reg [mV 71 11,
oP 72 (.bin .neq (.t 71) (cI 0)),
mV 73 72,
gF 74 73 (.mv (.t 15)),
gF 75 73 (.bin .neq (.t 74) (cI 0)),
gF 76 73 (.mv (.t 75)),
gT 77 76 (.mv (.t 15)),
gT 78 76 (.bin .neq (.t 77) (cI 4)),
gF 79 73 (.pick (.t 76) (.t 78) (.c (.bool false))),
oP 80 (.pick (.t 73) (.c (.bool true)) (.t 79))] [0,5,7,9,10,12,13,14,15,80])
(.cond (.t 80)
(.seq (.reg [oP 6 (.mv (.c (.bool false)))] [6])
.ret)
.skip))
(.seq (.seq (.reg [oP 16 (.mv (cI 0))] [0,5,7,9,10,12,13,14,15,16])
(.block 0
(.loop [0,5,7,9,10,12,13,14,15,16]
(.seq (.seq (.reg [mV 81 16,
oP 82 (.bin .leq (.t 81) (cI 5)),
mV 83 82,
gT 84 83 (.mv (.t 15)),
gT 85 83 (.bin .eql (.t 84) (cI 0)),
oP 86 (.pick (.t 83) (.t 85) (.c (.bool false)))] [0,5,7,9,10,12,13,14,15,16,86])
(.cond (.t 86)
.skip
(.exit 0)))
(.seq (.block 1
(.seq (.reg [mV 90 0,
mV 91 7,
oP 92 (.lit 1 3 0 []),
mV 93 9,
oP 94 (.append 3 32 (.t 92) (.t 93)),
mV 95 12,
mV 96 13,
mV 97 16,
oP 98 (.build [.str ByteArray.empty, .int .i64 0, .int .i64 0] [(0,1,(.t 95)),(1,1,(.t 96)),(2,1,(.t 97))]),
oP 99 (.lit 0 3 1 [(0,(.t 98))]),
oP 100 (.append 3 32 (.t 94) (.t 99)),
oP 101 (.call (.f 28) [true,false,true] [(.t 90),(.t 91),(.t 100)]),
mV 89 101,
oP 102 (.extract (.t 89) 0),
oP 103 (.extract (.t 89) 1),
mV 17 102,
mV 18 103] [0,5,7,9,10,12,13,14,15,16,17,18])
(.seq (.reg [mV 104 18,
oP 105 (.bin .neq (.t 104) (cI 0)),
mV 106 105,
gF 107 106 (.mv (.t 17)),
gF 108 106 (.len (.t 107)),
gF 109 106 (.mv (.t 14)),
gF 110 106 (.bin .gtr (.t 108) (.t 109)),
oP 111 (.pick (.t 106) (.c (.bool true)) (.t 110)),
mV 112 111,
gF 113 112 (.mv (.t 14)),
gF 114 112 (.mv (.t 10)),
gF 115 112 (.len (.t 114)),
gF 116 112 (.bin .geq (.t 113) (.t 115)),
oP 117 (.pick (.t 112) (.c (.bool true)) (.t 116))] [0,5,7,9,10,12,13,14,15,16,117])
(.cond (.t 117)
(.seq (.reg [oP 6 (.mv (.c (.bool false)))] [6])
.ret)
.skip))))
(.reg [mV 87 16,
oP 88 (.bin .add (.t 87) (cI 1)),
mV 16 88] [0,5,7,9,10,12,13,14,15,16]))))))
(.seq (.seq (.reg [mV 118 10,
oP 119 (.len (.t 118)),
oP 120 (.bin .eql (.t 119) (cI 0)),
mV 121 120,
gF 122 121 (.mv (.t 10)),
gF 123 121 (.ixS 1 (.t 122) (cI 0)),
gF 124 121 (.load none (.t 123)),
gF 125 121 (.bin .lss (.t 124) (cI 0)),
oP 126 (.pick (.t 121) (.c (.bool true)) (.t 125)),
mV 127 126,
gF 128 127 (.mv (.t 10)),
gF 129 127 (.ixS 1 (.t 128) (cI 0)),
gF 130 127 (.load none (.t 129)),
gF 131 127 (.mv (.t 0)),
gF 132 127 (.len (.t 131)),
gF 133 127 (.bin .geq (.t 130) (.t 132)),
oP 134 (.pick (.t 127) (.c (.bool true)) (.t 133))] [0,5,7,9,10,14,15,134])
(.cond (.t 134)
(.seq (.reg [oP 6 (.mv (.c (.bool false)))] [6])
.ret)
.skip))
(.seq (.reg [mV 135 0,
mV 136 10,
oP 137 (.ixS 1 (.t 136) (cI 0)),
oP 138 (.load none (.t 137)),
oP 139 (.ixS 2 (.t 135) (.t 138)),
oP 140 (.load (some 2) (.t 139)),
mV 141 7,
oP 142 (.call (.f 48) [true,false] [(.t 140),(.t 141)]),
mV 19 142] [0,5,7,9,10,14,15,19])
(.seq (.seq (.reg [mV 143 19,
oP 144 (.len (.t 143)),
oP 145 (.bin .eql (.t 144) (cI 0))] [0,5,7,9,10,14,15,19,145])
(.cond (.t 145)
(.seq (.reg [oP 146 (.call (.f 27) [] []),
mV 6 146] [6])
.ret)
.skip))
(.seq (.reg [mV 147 19,
oP 148 (.fieldAddr none 1 (.t 5)),
oP 149 (.load none (.t 148)),
oP 150 (.conv .i64 (.t 149)),
mV 151 19,
oP 152 (.len (.t 151)),
oP 153 (.bin .rem (.t 150) (.t 152)),
oP 154 (.ixS 7 (.t 147) (.t 153)),
oP 155 (.fieldAddr none 0 (.t 154)),
oP 156 (.load none (.t 155)),
mV 20 156] [0,5,7,9,10,14,15,20])
(.seq (.seq (.reg [mV 157 15,
oP 158 (.bin .eql (.t 157) (cI 4))] [0,5,7,9,10,14,20,158])
(.cond (.t 158)
(.reg [mV 159 10,
oP 160 (.len (.t 159)),
mV 14 160] [0,5,7,9,14,20])
.skip))
(.seq (.reg [oP 21 (.mv (cI 0))] [0,5,7,9,14,20,21])
(.seq (.seq (.reg [oP 22 (.mv (cI 0))] [0,5,7,9,14,20,21,22])
(.block 2
(.loop [0,5,7,9,14,20,21,22]
(.seq (.seq (.reg [mV 161 22,
oP 162 (.bin .leq (.t 161) (cI 5))] [0,5,7,9,14,20,21,22,162])
(.cond (.t 162)
.skip
(.exit 2)))
(.seq (.block 3
(.seq (.dreg [mV 166 0,
mV 167 7,
oP 168 (.lit 1 3 0 []),
mV 169 9,
oP 170 (.append 3 32 (.t 168) (.t 169)),
mV 171 20,
oP 172 (.fieldAddr none 3 (.t 5)),
oP 173 (.load none (.t 172)),
oP 174 (.conv .i64 (.t 173)),
oP 175 (.bin .rem (.t 174) (cI 41)),
mV 176 22,
oP 177 (.build [.str ByteArray.empty, .int .i64 0, .int .i64 0] [(0,1,(.t 171)),(1,1,(.t 175)),(2,1,(.t 176))]),
oP 178 (.lit 0 3 1 [(0,(.t 177))]),
oP 179 (.append 3 32 (.t 170) (.t 178)),
oP 180 (.call (.f 28) [true,false,true] [(.t 166),(.t 167),(.t 179)]),
mV 165 180,
oP 181 (.extract (.t 165) 0),
oP 182 (.extract (.t 165) 1),
mV 23 181,
mV 24 182] [0,5,7,9,14,20,21,22,23,24] [[],[],[],[],[2,3],[],[],[6],[6,7],[6,7,8],[],[5,6,7,8,9,10],[5,6,7,8,9,10,11],[2,3,4,5,6,7,8,9,10,11,12],[0,1,2,3,4,5,6,7,8,9,10,11,12,13],[0,1,2,3,4,5,6,7,8,9,10,11,12,13,14],[0,1,2,3,4,5,6,7,8,9,10,11,12,13,14,15],[0,1,2,3,4,5,6,7,8,9,10,11,12,13,14,15],[0,1,2,3,4,5,6,7,8,9,10,11,12,13,14,15,16],[0,1,2,3,4,5,6,7,8,9,10,11,12,13,14,15,16,17,18]])
(.seq (.seq (.reg [mV 183 24,
oP 184 (.bin .neq (.t 183) (cI 0))] [0,5,7,9,14,20,21,22,23,184])
(.cond (.t 184)
(.seq (.reg [oP 6 (.mv (.c (.bool false)))] [6])
.ret)
.skip))
(.reg [mV 185 21,
mV 186 23,
oP 187 (.len (.t 186)),
oP 188 (.mx [(.t 185),(.t 187)]),
mV 21 188] [0,5,7,9,14,20,21,22]))))
(.reg [mV 163 22,
oP 164 (.bin .add (.t 163) (cI 1)),
mV 22 164] [0,5,7,9,14,20,21,22]))))))
(.seq (.reg [mV 189 21,
mV 190 14,
oP 191 (.bin .geq (.t 189) (.t 190)),
mV 192 191,
gT 193 192 (.call (.f 27) [] []),
oP 194 (.pick (.t 192) (.t 193) (.c (.bool false))),
mV 6 194] [6])
.ret)))))))))))))))))
abbrev R_8:RsT:=[(6,none)]
theorem S_8:SpF 195 F_8 C_8 R_8:=SpI Tryz.func8 (by kernel_rfl)
abbrev BS:FuncId:=13
def Aj:AC:=
(.seq (.reg [oP 4 (.pbox 6 (.t 1)),
oP 6 (.mv (.c (.bool false)))] [0,2,4])
(.seq (.reg [oP 21 (.fieldAddr none 0 (.t 4)),
oP 22 (.load none (.t 21)),
oP 23 (.conv .i64 (.t 22)),
oP 24 (.bin .rem (.t 23) (cI 40001)),
mV 7 24] [0,2,4,7])
(.seq (.reg [mV 26 0,
mV 27 7,
mV 28 2,
oP 29 (.call (.f 28) [true,false,true] [(.t 26),(.t 27),(.t 28)]),
mV 25 29,
oP 30 (.extract (.t 25) 0),
oP 31 (.extract (.t 25) 1),
mV 8 30,
mV 9 31] [0,2,4,7,8,9])
(.seq (.seq (.reg [mV 32 0,
mV 33 7,
mV 34 2,
oP 35 (.call (.f 45) [true,false,true] [(.t 32),(.t 33),(.t 34)]),
mV 10 35] [0,2,4,7,8,9,10])
(.seq (.reg [mV 36 10,
oP 37 (.bin .neq (.t 36) (cI 0))] [0,2,4,7,8,9,10,37])
(.cond (.t 37)
(.seq (.reg [mV 38 9,
mV 39 10,
oP 40 (.bin .eql (.t 38) (.t 39)),
mV 41 40,
gT 42 41 (.mv (.t 8)),
gT 43 41 (.len (.t 42)),
gT 44 41 (.bin .eql (.t 43) (cI 0)),
oP 45 (.pick (.t 41) (.t 44) (.c (.bool false))),
mV 46 45,
gT 47 46 (.call (.f 27) [] []),
oP 48 (.pick (.t 46) (.t 47) (.c (.bool false))),
mV 6 48] [6])
.ret)
.skip)))
(.seq (.reg [oP 11 (.mv (.c (.slice 3 [])))] [0,2,4,7,8,9,11])
(.seq (.seq (.reg [oP 12 (.mv (cI 0))] [0,2,4,7,8,9,11,12])
(.block 0
(.loop [0,2,4,7,8,9,11,12]
(.seq (.seq (.reg [mV 49 12,
mV 50 2,
oP 51 (.len (.t 50)),
oP 52 (.bin .lss (.t 49) (.t 51))] [0,2,4,7,8,9,11,12,52])
(.cond (.t 52)
.skip
(.exit 0)))
(.seq (.block 1
(.seq (.reg [oP 13 (.mv (cI 0))] [0,2,4,7,8,9,11,12,13])
(.seq (.seq (.reg [oP 55 (.fieldAddr none 1 (.t 4)),
oP 56 (.load none (.t 55)),
oP 57 (.len (.t 56)),
oP 58 (.bin .gtr (.t 57) (cI 0))] [0,2,4,7,8,9,11,12,13,58])
(.cond (.t 58)
(.dreg [oP 59 (.fieldAddr none 1 (.t 4)),
oP 60 (.load none (.t 59)),
mV 61 12,
oP 62 (.fieldAddr none 1 (.t 4)),
oP 63 (.load none (.t 62)),
oP 64 (.len (.t 63)),
oP 65 (.bin .rem (.t 61) (.t 64)),
oP 66 (.ixS 1 (.t 60) (.t 65)),
oP 67 (.load none (.t 66)),
oP 68 (.conv .i64 (.t 67)),
mV 69 12,
oP 70 (.bin .add (.t 69) (cI 1)),
oP 71 (.bin .rem (.t 68) (.t 70)),
mV 13 71] [0,2,4,7,8,9,11,12,13] [[],[0],[],[],[3],[3,4],[2,3,4,5],[0,1,2,3,4,5,6],[0,1,2,3,4,5,6,7],[0,1,2,3,4,5,6,7,8],[],[10],[0,1,2,3,4,5,6,7,8,9,10,11],[0,1,2,3,4,5,6,7,8,9,10,11,12]])
.skip))
(.dreg [oP 72 (.lit 1 3 0 []),
mV 73 11,
mV 74 13,
oP 75 (.subq 3 (.t 73) none (some (.t 74))),
oP 76 (.append 3 32 (.t 72) (.t 75)),
mV 77 2,
mV 78 12,
oP 79 (.ixS 3 (.t 77) (.t 78)),
oP 80 (.load (some 3) (.t 79)),
oP 81 (.lit 0 3 1 [(0,(.t 80))]),
oP 82 (.append 3 32 (.t 76) (.t 81)),
mV 83 11,
mV 84 13,
oP 85 (.subq 3 (.t 83) (some (.t 84)) none),
oP 86 (.append 3 32 (.t 82) (.t 85)),
mV 11 86] [0,2,4,7,8,9,11,12] [[],[],[],[1,2],[0,1,2,3],[],[],[5,6],[5,6,7],[5,6,7,8],[0,1,2,3,4,5,6,7,8,9],[],[],[11,12],[0,1,2,3,4,5,6,7,8,9,10,11,12,13],[0,1,2,3,4,5,6,7,8,9,10,11,12,13,14]]))))
(.reg [mV 53 12,
oP 54 (.bin .add (.t 53) (cI 1)),
mV 12 54] [0,2,4,7,8,9,11,12]))))))
(.seq (.seq (.reg [mV 87 11,
oP 88 (.len (.t 87)),
oP 89 (.bin .gtr (.t 88) (cI 0)),
mV 90 89,
gT 91 90 (.mv (.t 11)),
gT 92 90 (.len (.t 91)),
gT 93 90 (.bin .lss (.t 92) (cI 12)),
oP 94 (.pick (.t 90) (.t 93) (.c (.bool false)))] [0,2,4,7,8,9,11,94])
(.cond (.t 94)
(.reg [mV 95 11,
mV 96 11,
oP 97 (.fieldAddr none 2 (.t 4)),
oP 98 (.load none (.t 97)),
oP 99 (.conv .i64 (.t 98)),
mV 100 11,
oP 101 (.len (.t 100)),
oP 102 (.bin .rem (.t 99) (.t 101)),
oP 103 (.ixS 3 (.t 96) (.t 102)),
oP 104 (.load (some 3) (.t 103)),
oP 105 (.lit 0 3 1 [(0,(.t 104))]),
oP 106 (.append 3 32 (.t 95) (.t 105)),
mV 11 106] [0,2,4,7,8,9,11])
.skip))
(.seq (.reg [mV 108 0,
mV 109 7,
mV 110 11,
oP 111 (.call (.f 28) [true,false,true] [(.t 108),(.t 109),(.t 110)]),
mV 107 111,
oP 112 (.extract (.t 107) 0),
oP 113 (.extract (.t 107) 1),
mV 14 112,
mV 15 113] [0,2,4,7,8,9,14,15])
(.seq (.seq (.reg [mV 114 9,
oP 115 (.bin .neq (.t 114) (cI 0)),
mV 116 115,
gF 117 116 (.mv (.t 15)),
gF 118 116 (.bin .neq (.t 117) (cI 0)),
oP 119 (.pick (.t 116) (.c (.bool true)) (.t 118)),
mV 120 119,
gF 121 120 (.mv (.t 8)),
gF 122 120 (.mv (.t 14)),
gF 123 120 (.call (.f 30) [true,true] [(.t 121),(.t 122)]),
gF 124 120 (.un .not (.t 123)),
oP 125 (.pick (.t 120) (.c (.bool true)) (.t 124))] [0,2,4,7,8,125])
(.cond (.t 125)
(.seq (.reg [oP 6 (.mv (.c (.bool false)))] [6])
.ret)
.skip))
(.seq (.dreg [oP 126 (.lit 1 3 0 []),
mV 127 2,
oP 128 (.append 3 32 (.t 126) (.t 127)),
oP 129 (.fieldAddr (some 3) 3 (.t 4)),
oP 130 (.load (some 3) (.t 129)),
oP 131 (.lit 0 3 1 [(0,(.t 130))]),
oP 132 (.append 3 32 (.t 128) (.t 131)),
mV 16 132] [0,7,8,16] [[],[],[0,1],[],[3],[3,4],[0,1,2,3,4,5],[0,1,2,3,4,5,6]])
(.seq (.reg [mV 134 0,
mV 135 7,
mV 136 16,
oP 137 (.call (.f 28) [true,false,true] [(.t 134),(.t 135),(.t 136)]),
mV 133 137,
oP 138 (.extract (.t 133) 0),
oP 139 (.extract (.t 133) 1),
mV 17 138,
mV 18 139] [0,7,8,16,17,18])
(.seq (.seq (.reg [mV 140 0,
mV 141 7,
mV 142 16,
oP 143 (.call (.f 45) [true,false,true] [(.t 140),(.t 141),(.t 142)]),
mV 19 143] [8,17,18,19])
(.seq (.reg [mV 144 19,
oP 145 (.bin .neq (.t 144) (cI 0))] [8,17,18,19,145])
(.cond (.t 145)
(.seq (.reg [mV 146 18,
mV 147 19,
oP 148 (.bin .eql (.t 146) (.t 147)),
mV 149 148,
gT 150 149 (.call (.f 27) [] []),
oP 151 (.pick (.t 149) (.t 150) (.c (.bool false))),
mV 6 151] [6])
.ret)
.skip)))
(.seq (.seq (.reg [oP 20 (.mv (cI 0))] [8,17,18,20])
(.block 2
(.loop [8,17,18,20]
(.seq (.seq (.reg [mV 152 20,
mV 153 17,
oP 154 (.len (.t 153)),
oP 155 (.bin .lss (.t 152) (.t 154))] [8,17,18,20,155])
(.cond (.t 155)
.skip
(.exit 2)))
(.seq (.block 3
(.seq (.reg [mV 158 8,
mV 159 17,
mV 160 20,
oP 161 (.ixS 1 (.t 159) (.t 160)),
oP 162 (.load none (.t 161)),
oP 163 (.call (.f 47) [true,false] [(.t 158),(.t 162)]),
oP 164 (.un .not (.t 163))] [8,17,18,20,164])
(.cond (.t 164)
(.seq (.reg [oP 6 (.mv (.c (.bool false)))] [6])
.ret)
.skip)))
(.reg [mV 156 20,
oP 157 (.bin .add (.t 156) (cI 1)),
mV 20 157] [8,17,18,20]))))))
(.seq (.reg [mV 165 18,
oP 166 (.bin .eql (.t 165) (cI 0)),
mV 167 166,
gT 168 167 (.call (.f 27) [] []),
oP 169 (.pick (.t 167) (.t 168) (.c (.bool false))),
mV 6 169] [6])
.ret))))))))))))))
abbrev Dg:RsT:=[(6,none)]
theorem C2:SpF 170 BS Aj Dg:=SpI Tryz.func13 (by kernel_rfl)
abbrev HE:FuncId:=15
def Jm:AC:=
(.seq (.reg [oP 1 (.pbox 2 (.t 0)),
oP 2 (.mv (cI 0)),
oP 3 (.mv (cI 0)),
oP 4 (.mv (cI 0))] [1])
(.seq (.reg [oP 6 (.load (some 2) (.t 1)),
oP 7 (.call (.f 52) [true,false] [(.t 6),(cI 0)]),
mV 5 7,
oP 8 (.extract (.t 5) 0),
oP 9 (.extract (.t 5) 1),
oP 10 (.extract (.t 5) 2),
oP 11 (.extract (.t 5) 3),
mV 2 9,
mV 3 10,
mV 4 11] [2,3,4])
(.seq (.reg [mV 12 2,
mV 13 3,
mV 14 4,
mV 2 12,
mV 3 13,
mV 4 14] [2,3,4])
.ret)))
abbrev Nr:RsT:=[(2,none),(3,none),(4,none)]
theorem Oj:SpF 15 HE Jm Nr:=SpI Tryz.func15 (by kernel_rfl)
theorem ue:ak Tryz.prog HE = true:=by kernel_rfl
abbrev HL:FuncId:=16
def JG:AC:=
(.seq (.reg [oP 1 (.pbox 2 (.t 0)),
oP 2 (.mv (cI 0)),
oP 3 (.mv (cI 0)),
oP 4 (.mv (cI 0))] [1])
(.seq (.reg [oP 13 (.fieldAddr (some 1) 0 (.t 1)),
oP 14 (.fieldAddr none 0 (.t 13)),
oP 15 (.load none (.t 14)),
mV 5 15] [1,5])
(.seq (.seq (.reg [mV 16 5,
oP 17 (.len (.t 16)),
oP 18 (.bin .gtr (.t 17) (cI 12))] [1,5,18])
(.cond (.t 18)
(.seq (.reg [oP 2 (.mv (cI 1)),
oP 3 (.mv (cI 0)),
oP 4 (.mv (cI 3))] [2,3,4])
.ret)
.skip))
(.seq (.seq (.reg [oP 6 (.mv (cI 0))] [1,5,6])
(.block 0
(.loop [1,5,6]
(.seq (.seq (.reg [mV 19 6,
mV 20 5,
oP 21 (.len (.t 20)),
oP 22 (.bin .lss (.t 19) (.t 21))] [1,5,6,22])
(.cond (.t 22)
.skip
(.exit 0)))
(.seq (.block 1
(.seq (.dreg [mV 25 5,
mV 26 6,
oP 27 (.ixS 7 (.t 25) (.t 26)),
oP 28 (.load (some 7) (.t 27)),
mV 29 5,
mV 30 6,
oP 31 (.subq 7 (.t 29) none (some (.t 30))),
mV 32 5,
mV 33 6,
oP 34 (.subq 7 (.t 32) none (some (.t 33))),
oP 35 (.call (.f 53) [true,true,true] [(.t 28),(.t 31),(.t 34)]),
mV 7 35] [1,5,6,7] [[],[],[0,1],[0,1,2],[],[],[4,5],[],[],[7,8],[0,1,2,3,4,5,6,7,8,9],[0,1,2,3,4,5,6,7,8,9,10]])
(.seq (.reg [mV 36 7,
oP 37 (.bin .neq (.t 36) (cI 0))] [1,5,6,7,37])
(.cond (.t 37)
(.seq (.reg [mV 38 6,
mV 39 7,
oP 2 (.mv (cI 1)),
mV 3 38,
mV 4 39] [2,3,4])
.ret)
.skip))))
(.reg [mV 23 6,
oP 24 (.bin .add (.t 23) (cI 1)),
mV 6 24] [1,5,6]))))))
(.seq (.seq (.reg [oP 40 (.fieldAddr none 1 (.t 1)),
oP 41 (.load none (.t 40)),
oP 42 (.len (.t 41)),
oP 43 (.bin .gtr (.t 42) (cI 8))] [1,5,43])
(.cond (.t 43)
(.seq (.reg [oP 2 (.mv (cI 2)),
oP 3 (.mv (cI 0)),
oP 4 (.mv (cI 3))] [2,3,4])
.ret)
.skip))
(.seq (.reg [oP 8 (.mv (cI 0))] [1,5,8])
(.seq (.seq (.reg [oP 9 (.mv (cI 0))] [1,5,8,9])
(.block 2
(.loop [1,5,8,9]
(.seq (.seq (.reg [mV 44 9,
oP 45 (.fieldAddr none 1 (.t 1)),
oP 46 (.load none (.t 45)),
oP 47 (.len (.t 46)),
oP 48 (.bin .lss (.t 44) (.t 47))] [1,5,8,9,48])
(.cond (.t 48)
.skip
(.exit 2)))
(.seq (.block 3
(.seq (.reg [oP 51 (.fieldAddr none 1 (.t 1)),
oP 52 (.load none (.t 51)),
mV 53 9,
oP 54 (.ixS 10 (.t 52) (.t 53)),
oP 55 (.load (some 10) (.t 54)),
oP 10 (.alloc [.int .i64 0, .int .i64 0, .str ByteArray.empty, .str ByteArray.empty, .int .i64 0, .int .i64 0, .int .i64 0, .slice 1 [], .int .i64 0, .int .i64 0]),
oN (.store 10 (.t 10) (.t 55))] [1,5,8,9,10])
(.frz 10 true (.seq (.seq (.reg [oP 56 (.fieldAddr none 1 (.t 10)),
oP 57 (.load none (.t 56)),
mV 58 8,
oP 59 (.call (.f 54) [false,false,false] [(.t 57),(.t 58),(cI 40000)]),
oP 60 (.un .not (.t 59))] [1,5,9,10,60])
(.cond (.t 60)
(.seq (.reg [mV 61 9,
oP 2 (.mv (cI 2)),
mV 3 61,
oP 4 (.mv (cI 7))] [2,3,4])
.ret)
.skip))
(.seq (.seq (.reg [oP 62 (.load (some 10) (.t 10)),
oP 63 (.call (.f 55) [true] [(.t 62)]),
oP 64 (.un .not (.t 63))] [1,5,9,10,64])
(.cond (.t 64)
(.seq (.reg [mV 65 9,
oP 2 (.mv (cI 2)),
mV 3 65,
oP 4 (.mv (cI 6))] [2,3,4])
.ret)
.skip))
(.seq (.reg [mV 67 5,
oP 68 (.load (some 10) (.t 10)),
oP 69 (.call (.f 56) [true,true] [(.t 67),(.t 68)]),
mV 66 69,
oP 70 (.extract (.t 66) 0),
oP 71 (.extract (.t 66) 1),
mV 11 70,
mV 12 71] [1,9,10,11,12])
(.seq (.seq (.reg [mV 72 12,
oP 73 (.bin .neq (.t 72) (cI 0))] [1,9,10,11,12,73])
(.cond (.t 73)
(.seq (.reg [mV 74 9,
mV 75 12,
oP 2 (.mv (cI 2)),
mV 3 74,
mV 4 75] [2,3,4])
.ret)
.skip))
(.dreg [mV 76 11,
oP 77 (.fieldAddr none 1 (.t 10)),
oP 78 (.load none (.t 77)),
mV 5 76,
mV 8 78] [1,5,8,9] [[],[],[1],[0],[0,1,2,3]]))))))))
(.reg [mV 49 9,
oP 50 (.bin .add (.t 49) (cI 1)),
mV 9 50] [1,5,8,9]))))))
(.seq (.reg [oP 2 (.mv (cI 0)),
oP 3 (.mv (cI 0)),
oP 4 (.mv (cI 0))] [2,3,4])
.ret))))))))
abbrev Nz:RsT:=[(2,none),(3,none),(4,none)]
theorem Lt:SpF 79 HL JG Nz:=SpI Tryz.func16 (by kernel_rfl)
theorem uA:ak Tryz.prog HL = true:=by kernel_rfl
abbrev H4:FuncId:=17
def Le:AC:=
(.seq (.reg [oP 2 (.mv (.c (.bool false)))] [0])
(.seq (.seq (.reg [mV 7 0,
oP 8 (.range (.t 7))] [0,8])
(.block 0
(.loop [0,8]
(.seq (.reg [oP 9 (.next (.t 8)),
oP 10 (.extract (.t 9) 0)] [0,8,9,10])
(.seq (.cond (.t 10)
.skip
(.exit 0))
(.block 1
(.seq (.reg [oP 11 (.extract (.t 9) 1),
oP 12 (.extract (.t 9) 2),
mV 3 11,
mV 4 12] [0,3,4,8])
(.seq (.reg [mV 13 4,
oP 14 (.bin .geq (.t 13) (.c (.int .i32 97))),
mV 15 14,
gT 16 15 (.mv (.t 4)),
gT 17 15 (.bin .leq (.t 16) (.c (.int .i32 122))),
oP 18 (.pick (.t 15) (.t 17) (.c (.bool false))),
mV 19 4,
oP 20 (.bin .geq (.t 19) (.c (.int .i32 48))),
mV 21 20,
gT 22 21 (.mv (.t 4)),
gT 23 21 (.bin .leq (.t 22) (.c (.int .i32 57))),
oP 24 (.pick (.t 21) (.t 23) (.c (.bool false))),
mV 5 18,
mV 6 24] [0,3,5,6,8])
(.seq (.reg [mV 25 5,
oP 26 (.un .not (.t 25)),
mV 27 26,
gT 28 27 (.mv (.t 6)),
gT 29 27 (.un .not (.t 28)),
gT 30 27 (.mv (.t 29)),
gF 31 30 (.mv (.t 3)),
gF 32 30 (.bin .eql (.t 31) (cI 0)),
gT 33 27 (.pick (.t 30) (.c (.bool true)) (.t 32)),
oP 34 (.pick (.t 27) (.t 33) (.c (.bool false)))] [0,8,34])
(.cond (.t 34)
(.seq (.reg [oP 2 (.mv (.c (.bool false)))] [2])
.ret)
.skip))))))))))
(.seq (.reg [mV 35 0,
⟨some 36,none, .bin .neq (.t 35) (.c (.str ⟨#[]⟩))⟩,
mV 37 36,
gT 38 37 (.mv (.t 0)),
gT 39 37 (.lenStr (.t 38)),
gT 40 37 (.bin .leq (.t 39) (cI 16)),
oP 41 (.pick (.t 37) (.t 40) (.c (.bool false))),
mV 2 41] [2])
.ret)))
abbrev Nd:RsT:=[(2,none)]
theorem Mh:SpF 42 H4 Le Nd:=SpI Tryz.func17 (by kernel_rfl)
theorem re:ak Tryz.prog H4 = true:=by kernel_rfl
abbrev HM:FuncId:=18
def J8:AC:=
(.seq (.reg [oP 2 (.mv (.c (.bool false)))] [0])
(.seq (.seq (.reg [mV 6 0,
oP 7 (.lenStr (.t 6)),
oP 8 (.call (.f 54) [false,false,false] [(.t 7),(cI 1),(cI 16)]),
oP 9 (.un .not (.t 8)),
mV 10 9,
gF 11 10 (.mv (.t 0)),
gF 12 10 (.ixStr (.t 11) (cI 0)),
gF 13 10 (.bin .lss (.t 12) (.c (.int .u8 97))),
oP 14 (.pick (.t 10) (.c (.bool true)) (.t 13)),
mV 15 14,
gF 16 15 (.mv (.t 0)),
gF 17 15 (.ixStr (.t 16) (cI 0)),
gF 18 15 (.bin .gtr (.t 17) (.c (.int .u8 122))),
oP 19 (.pick (.t 15) (.c (.bool true)) (.t 18))] [0,19])
(.cond (.t 19)
(.seq (.reg [oP 2 (.mv (.c (.bool false)))] [2])
.ret)
.skip))
(.seq (.seq (.reg [oP 3 (.mv (cI 1))] [0,3])
(.block 0
(.loop [0,3]
(.seq (.seq (.reg [mV 20 3,
mV 21 0,
oP 22 (.lenStr (.t 21)),
oP 23 (.bin .lss (.t 20) (.t 22))] [0,3,23])
(.cond (.t 23)
.skip
(.exit 0)))
(.seq (.block 1
(.seq (.dreg [mV 26 0,
mV 27 3,
oP 28 (.ixStr (.t 26) (.t 27)),
oP 29 (.bin .geq (.t 28) (.c (.int .u8 97))),
mV 30 29,
gT 31 30 (.mv (.t 0)),
gT 32 30 (.mv (.t 3)),
gT 33 30 (.ixStr (.t 31) (.t 32)),
gT 34 30 (.bin .leq (.t 33) (.c (.int .u8 122))),
oP 35 (.pick (.t 30) (.t 34) (.c (.bool false))),
mV 36 0,
mV 37 3,
oP 38 (.ixStr (.t 36) (.t 37)),
oP 39 (.bin .geq (.t 38) (.c (.int .u8 48))),
mV 40 39,
gT 41 40 (.mv (.t 0)),
gT 42 40 (.mv (.t 3)),
gT 43 40 (.ixStr (.t 41) (.t 42)),
gT 44 40 (.bin .leq (.t 43) (.c (.int .u8 57))),
oP 45 (.pick (.t 40) (.t 44) (.c (.bool false))),
mV 4 35,
mV 5 45] [0,3,4,5] [[],[],[0,1],[0,1,2],[0,1,2,3],[0,1,2,3,4],[0,1,2,3,4],[0,1,2,3,4,5,6],[0,1,2,3,4,5,6,7],[0,1,2,3,4,5,6,7,8],[],[],[10,11],[10,11,12],[0,1,2,3,4,10,11,12,13],[0,1,2,3,4,10,11,12,13,14],[0,1,2,3,4,10,11,12,13,14],[0,1,2,3,4,10,11,12,13,14,15,16],[0,1,2,3,4,10,11,12,13,14,15,16,17],[0,1,2,3,4,10,11,12,13,14,15,16,17,18],[0,1,2,3,4,5,6,7,8,9,10,11,12,13,14],[0,1,2,3,4,5,6,7,8,9,10,11,12,13,14,15,16,17,18,19,20]])
(.seq (.reg [mV 46 4,
oP 47 (.un .not (.t 46)),
mV 48 47,
gT 49 48 (.mv (.t 5)),
gT 50 48 (.un .not (.t 49)),
oP 51 (.pick (.t 48) (.t 50) (.c (.bool false)))] [0,3,51])
(.cond (.t 51)
(.seq (.reg [oP 2 (.mv (.c (.bool false)))] [2])
.ret)
.skip))))
(.reg [mV 24 3,
oP 25 (.bin .add (.t 24) (cI 1)),
mV 3 25] [0,3]))))))
(.seq (.reg [oP 2 (.mv (.c (.bool true)))] [2])
.ret))))
abbrev MU:RsT:=[(2,none)]
theorem MQ:SpF 52 HM J8 MU:=SpI Tryz.func18 (by kernel_rfl)
theorem zC:ak Tryz.prog HM = true:=by kernel_rfl
abbrev C6:FuncId:=19
def HI:AC:=
(.seq (.reg [oP 2 (.pbox 2 (.t 0)),
oP 4 (.alloc [.slice 7 []]),
oP 5 (.mv (cI 0))] [1,2,4])
(.seq (.reg [oP 12 (.load (some 2) (.t 2)),
mV 13 1,
oP 14 (.call (.f 57) [true,false] [(.t 12),(.t 13)]),
mV 11 14,
oP 15 (.extract (.t 11) 0),
oP 16 (.extract (.t 11) 1),
oP 6 (.alloc [.slice 7 []]),
oN (.store 1 (.t 6) (.t 15)),
mV 7 16] [4,6,7])
(.frz 6 true (.seq (.seq (.reg [mV 17 7,
oP 18 (.bin .neq (.t 17) (cI 0))] [4,6,7,18])
(.cond (.t 18)
(.seq (.reg [oP 19 (.build [.slice 7 []] []),
mV 20 7,
oN (.store 1 (.t 4) (.t 19)),
mV 5 20] [4,5])
.ret)
.skip))
(.seq (.reg [oP 21 (.fieldAddr (some 1) 0 (.t 6)),
oP 22 (.fieldAddr none 0 (.t 21)),
oP 23 (.load none (.t 22)),
oP 24 (.len (.t 23)),
oP 25 (.mksl 2 7 80 (.agg [.str ByteArray.empty, .int .i64 0, .int .i64 0, .int .i64 0, .slice 1 [], .int .i64 0, .int .i64 0]) (.t 24) (.t 24)),
mV 8 25] [4,6,8])
(.seq (.seq (.reg [oP 26 (.fieldAddr (some 1) 0 (.t 6)),
oP 27 (.fieldAddr none 0 (.t 26)),
oP 28 (.load none (.t 27)),
oP 29 (.len (.t 28)),
oP 30 (.mv (cI 0))] [4,8,28,29,30])
(.block 0
(.loop [4,8,28,29,30]
(.seq (.reg [oP 31 (.bin .lss (.t 30) (.t 29))] [4,8,28,29,30,31])
(.seq (.cond (.t 31)
.skip
(.exit 0))
(.seq (.block 1
(.seq (.reg [mV 32 30,
oP 33 (.ixS 7 (.t 28) (.t 30)),
oP 34 (.load (some 7) (.t 33)),
oP 10 (.alloc [.str ByteArray.empty, .int .i64 0, .int .i64 0, .int .i64 0, .slice 1 [], .int .i64 0, .int .i64 0]),
mV 9 32,
oN (.store 7 (.t 10) (.t 34))] [4,8,9,10,28,29,30])
(.frz 10 true (.reg [mV 35 8,
mV 36 9,
oP 37 (.load (some 7) (.t 10)),
oP 38 (.call (.f 58) [true] [(.t 37)]),
oP 39 (.ixS 7 (.t 35) (.t 36)),
oN (.store 7 (.t 39) (.t 38))] [4,8,28,29,30]))))
(.reg [oP 40 (.bin .add (.t 30) (cI 1)),
mV 30 40] [4,8,28,29,30])))))))
(.seq (.reg [oP 41 (.freeze 7 (.t 8)),
oP 42 (.build [.slice 7 []] [(0,1,(.t 41))]),
oN (.store 1 (.t 4) (.t 42)),
oP 5 (.mv (cI 0))] [4,5])
.ret)))))))
abbrev Oi:RsT:=[(4,some (some 1)),(5,none)]
theorem Om:SpF 43 C6 HI Oi:=SpI Tryz.func19 (by kernel_rfl)
theorem ll:ak Tryz.prog C6 = true:=by kernel_rfl
abbrev HS:FuncId:=21
def K8:AC:=
(.seq (.reg [oP 4 (.mv (.c (.bool false)))] [0,1])
(.seq (.reg [mV 7 0,
oP 8 (.len (.t 7)),
mV 9 1,
oP 10 (.len (.t 9)),
oP 11 (.bin .eql (.t 8) (.t 10)),
mV 5 11] [0,1,5])
(.seq (.seq (.reg [oP 6 (.mv (cI 0))] [0,1,5,6])
(.block 0
(.loop [0,1,5,6]
(.seq (.seq (.reg [mV 12 6,
mV 13 0,
oP 14 (.len (.t 13)),
oP 15 (.bin .lss (.t 12) (.t 14)),
mV 16 15,
gT 17 16 (.mv (.t 5)),
oP 18 (.pick (.t 16) (.t 17) (.c (.bool false)))] [0,1,5,6,18])
(.cond (.t 18)
.skip
(.exit 0)))
(.seq (.block 1
(.dreg [mV 21 0,
mV 22 6,
oP 23 (.ixS 7 (.t 21) (.t 22)),
oP 24 (.load (some 7) (.t 23)),
mV 25 1,
mV 26 6,
oP 27 (.ixS 7 (.t 25) (.t 26)),
oP 28 (.load (some 7) (.t 27)),
oP 29 (.call (.f 51) [true,true] [(.t 24),(.t 28)]),
mV 5 29] [0,1,5,6] [[],[],[0,1],[0,1,2],[],[],[4,5],[4,5,6],[0,1,2,3,4,5,6,7],[0,1,2,3,4,5,6,7,8]]))
(.reg [mV 19 6,
oP 20 (.bin .add (.t 19) (cI 1)),
mV 6 20] [0,1,5,6]))))))
(.seq (.reg [mV 30 5,
mV 4 30] [4])
.ret))))
abbrev Nx:RsT:=[(4,none)]
theorem Oe:SpF 31 HS K8 Nx:=SpI Tryz.func21 (by kernel_rfl)
theorem sU:ak Tryz.prog HS = true:=by kernel_rfl
abbrev Cl:FuncId:=22
def C7:AC:=
(.seq (.reg [oP 4 (.pbox 2 (.t 0)),
oP 8 (.alloc [.int .i64 0, .int .i64 0]),
oP 9 (.mv (cI 0))] [1,2,3,4,8])
(.seq (.reg [oP 16 (.load (some 2) (.t 4)),
mV 17 1,
oP 18 (.call (.f 57) [true,false] [(.t 16),(.t 17)]),
mV 15 18,
oP 19 (.extract (.t 15) 0),
oP 20 (.extract (.t 15) 1),
oP 10 (.alloc [.slice 7 []]),
oN (.store 1 (.t 10) (.t 19)),
mV 9 20] [2,3,8,9,10])
(.frz 10 true (.seq (.block 0
(.seq (.reg [mV 22 9,
oP 23 (.bin .neq (.t 22) (cI 0)),
mV 21 23] [2,3,8,9,10,21])
(.cond (.t 21)
(.seq (.reg [oP 24 (.load (some 2) (.t 8)),
mV 25 9,
oN (.store 2 (.t 8) (.t 24)),
mV 9 25] [8,9])
.ret)
(.seq (.reg [mV 27 2,
mV 28 3,
oP 29 (.lit 0 1 2 [(0,(.t 27)),(1,(.t 28))]),
oP 30 (.call (.f 60) [false,false,true] [(cI 0),(cI 40),(.t 29)]),
mV 31 30,
gF 32 31 (.mv (.t 2)),
gF 33 31 (.mv (.t 3)),
gF 34 31 (.bin .gtr (.t 32) (.t 33)),
oP 35 (.pick (.t 31) (.c (.bool true)) (.t 34)),
mV 26 35] [2,3,8,10,26])
(.cond (.t 26)
(.seq (.reg [oP 36 (.load (some 2) (.t 8)),
oN (.store 2 (.t 8) (.t 36)),
oP 9 (.mv (cI 7))] [8,9])
.ret)
.skip)))))
(.seq (.seq (.reg [oP 37 (.fieldAddr (some 1) 0 (.t 10)),
oP 38 (.fieldAddr none 0 (.t 37)),
oP 39 (.load none (.t 38)),
oP 40 (.len (.t 39)),
oP 41 (.mv (cI 0))] [2,3,8,39,40,41])
(.block 1
(.loop [2,3,8,39,40,41]
(.seq (.reg [oP 42 (.bin .lss (.t 41) (.t 40))] [2,3,8,39,40,41,42])
(.seq (.cond (.t 42)
.skip
(.exit 1))
(.seq (.block 2
(.seq (.reg [oP 43 (.ixS 7 (.t 39) (.t 41)),
oP 44 (.load (some 7) (.t 43)),
oP 12 (.alloc [.str ByteArray.empty, .int .i64 0, .int .i64 0, .int .i64 0, .slice 1 [], .int .i64 0, .int .i64 0]),
oN (.store 7 (.t 12) (.t 44))] [2,3,8,12,39,40,41])
(.frz 12 true (.seq (.dreg [oP 45 (.fieldAddr none 3 (.t 12)),
oP 46 (.load none (.t 45)),
oP 47 (.fieldAddr none 2 (.t 12)),
oP 48 (.load none (.t 47)),
oP 49 (.bin .sub (.t 46) (.t 48)),
oP 50 (.bin .add (.t 49) (cI 1)),
mV 51 3,
oP 52 (.fieldAddr none 3 (.t 12)),
oP 53 (.load none (.t 52)),
oP 54 (.mn [(.t 51),(.t 53)]),
mV 55 2,
oP 56 (.fieldAddr none 2 (.t 12)),
oP 57 (.load none (.t 56)),
oP 58 (.mx [(.t 55),(.t 57)]),
oP 59 (.bin .sub (.t 54) (.t 58)),
oP 60 (.bin .add (.t 59) (cI 1)),
oP 61 (.mx [(cI 0),(.t 60)]),
mV 13 50,
mV 14 61] [2,3,8,12,13,14,39,40,41] [[],[0],[],[2],[0,1,2,3],[0,1,2,3,4],[],[],[7],[6,7,8],[],[],[11],[10,11,12],[6,7,8,9,10,11,12,13],[6,7,8,9,10,11,12,13,14],[6,7,8,9,10,11,12,13,14,15],[0,1,2,3,4,5],[0,1,2,3,4,5,6,7,8,9,10,11,12,13,14,15,16,17]])
(.seq (.dreg [oP 62 (.fieldAddr none 0 (.t 8)),
oP 63 (.load none (.t 62)),
oP 64 (.fieldAddr (some 2) 5 (.t 12)),
oP 65 (.fieldAddr none 0 (.t 64)),
oP 66 (.load none (.t 65)),
mV 67 14,
oP 68 (.bin .mul (.t 66) (.t 67)),
mV 69 13,
oP 70 (.bin .quo (.t 68) (.t 69)),
oP 71 (.bin .add (.t 63) (.t 70)),
oP 72 (.fieldAddr none 0 (.t 8)),
oN (.store 1 (.t 72) (.t 71))] [2,3,8,12,13,14,39,40,41] [[],[0],[],[2],[2,3],[],[2,3,4,5],[],[2,3,4,5,6,7],[0,1,2,3,4,5,6,7,8],[0,1,2,3,4,5,6,7,8,9],[0,1,2,3,4,5,6,7,8,9,10]])
(.dreg [oP 73 (.fieldAddr none 1 (.t 8)),
oP 74 (.load none (.t 73)),
oP 75 (.fieldAddr (some 2) 5 (.t 12)),
oP 76 (.fieldAddr none 1 (.t 75)),
oP 77 (.load none (.t 76)),
mV 78 14,
oP 79 (.bin .mul (.t 77) (.t 78)),
mV 80 13,
oP 81 (.bin .add (.t 79) (.t 80)),
oP 82 (.bin .sub (.t 81) (cI 1)),
mV 83 13,
oP 84 (.bin .quo (.t 82) (.t 83)),
oP 85 (.bin .add (.t 74) (.t 84)),
oP 86 (.fieldAddr none 1 (.t 8)),
oN (.store 1 (.t 86) (.t 85))] [2,3,8,39,40,41] [[],[0],[],[2],[2,3],[],[2,3,4,5],[],[2,3,4,5,6,7],[2,3,4,5,6,7,8],[],[2,3,4,5,6,7,8,9,10],[0,1,2,3,4,5,6,7,8,9,10,11],[0,1,2,3,4,5,6,7,8,9,10,11,12],[0,1,2,3,4,5,6,7,8,9,10,11,12,13]]))))))
(.reg [oP 87 (.bin .add (.t 41) (cI 1)),
mV 41 87] [2,3,8,39,40,41])))))))
(.seq (.reg [oP 88 (.load (some 2) (.t 8)),
oN (.store 2 (.t 8) (.t 88)),
oP 9 (.mv (cI 0))] [8,9])
.ret))))))
abbrev Lv:RsT:=[(8,some (some 2)),(9,none)]
theorem LD:SpF 89 Cl C7 Lv:=SpI Tryz.func22 (by kernel_rfl)
theorem yl:ak Tryz.prog Cl = true:=by kernel_rfl
abbrev yX:FuncId:=24
def E3:AC:=
(.seq (.reg [oP 3 (.pbox 2 (.t 0)),
oP 5 (.pbox 1 (.t 2)),
oP 6 (.nilS 1 1),
oP 7 (.mv (cI 0))] [1,3,5,6])
(.seq (.reg [oP 13 (.load (some 2) (.t 3)),
mV 14 1,
oP 15 (.call (.f 57) [true,false] [(.t 13),(.t 14)]),
mV 12 15,
oP 16 (.extract (.t 12) 0),
oP 17 (.extract (.t 12) 1),
oP 8 (.alloc [.slice 7 []]),
oN (.store 1 (.t 8) (.t 16)),
mV 7 17] [5,6,7,8])
(.seq (.block 0
(.seq (.reg [mV 19 7,
oP 20 (.bin .neq (.t 19) (cI 0)),
mV 18 20] [5,6,7,8,18])
(.cond (.t 18)
(.seq (.reg [mV 21 7,
oP 6 (.mv (.c (.slice 1 []))),
mV 7 21] [6,7])
.ret)
(.seq (.reg [oP 23 (.load none (.t 5)),
oP 24 (.call (.f 61) [true,false] [(.t 8),(.t 23)]),
oP 25 (.bin .lss (.t 24) (cI 0)),
mV 22 25] [5,6,8,22])
(.cond (.t 22)
(.seq (.reg [oP 6 (.mv (.c (.slice 1 []))),
oP 7 (.mv (cI 4))] [6,7])
.ret)
.skip)))))
(.seq (.reg [oP 9 (.alloc [.nilfunc])] [5,6,8,9])
(.seq (.reg [oP 26 (.mkfunc (.func 62) [] [(.t 5),(.t 9),(.t 8)]),
oN (.store 1 (.t 9) (.t 26))] [6,8,9])
(.seq (.seq (.reg [oP 27 (.fieldAddr (some 1) 0 (.t 8)),
oP 28 (.fieldAddr none 0 (.t 27)),
oP 29 (.load none (.t 28)),
oP 30 (.len (.t 29)),
oP 31 (.mv (cI 0))] [6,9,29,30,31])
(.block 1
(.loop [6,9,29,30,31]
(.seq (.reg [oP 32 (.bin .lss (.t 31) (.t 30))] [6,9,29,30,31,32])
(.seq (.cond (.t 32)
.skip
(.exit 1))
(.seq (.block 2
(.seq (.reg [oP 33 (.ixS 7 (.t 29) (.t 31)),
oP 34 (.load (some 7) (.t 33)),
oP 11 (.alloc [.str ByteArray.empty, .int .i64 0, .int .i64 0, .int .i64 0, .slice 1 [], .int .i64 0, .int .i64 0]),
oN (.store 7 (.t 11) (.t 34))] [6,9,11,29,30,31])
(.frz 11 true (.seq (.reg [oP 35 (.load none (.t 9)),
oP 36 (.load (some 7) (.t 11)),
oP 37 (.call (.t 35) [true] [(.t 36)])] [6,9,11,29,30,31,37])
(.cond (.t 37)
(.reg [mV 38 6,
oP 39 (.fieldAddr none 0 (.t 11)),
oP 40 (.load none (.t 39)),
oP 41 (.lit 0 1 1 [(0,(.t 40))]),
oP 42 (.append 1 16 (.t 38) (.t 41)),
mV 6 42] [6,9,29,30,31])
.skip)))))
(.reg [oP 43 (.bin .add (.t 31) (cI 1)),
mV 31 43] [6,9,29,30,31])))))))
(.seq (.reg [mV 44 6,
oP 6 (.mvd (.t 44)),
oP 7 (.mv (cI 0))] [6,7])
.ret)))))))
abbrev MY:RsT:=[(6,none),(7,none)]
theorem Ot:SpF 45 yX E3 MY:=SpI Tryz.func24 (by kernel_rfl)
theorem zi:ak Tryz.prog yX = true:=by kernel_rfl
abbrev E7:FuncId:=26
def KL:AC:=
(.seq (.reg [oP 4 (.mv (.c (.bool false)))] [0,1])
(.seq (.reg [mV 7 0,
oP 8 (.len (.t 7)),
mV 9 1,
oP 10 (.len (.t 9)),
oP 11 (.bin .eql (.t 8) (.t 10)),
mV 5 11] [0,1,5])
(.seq (.seq (.reg [oP 6 (.mv (cI 0))] [0,1,5,6])
(.block 0
(.loop [0,1,5,6]
(.seq (.seq (.reg [mV 12 6,
mV 13 0,
oP 14 (.len (.t 13)),
oP 15 (.bin .lss (.t 12) (.t 14)),
mV 16 15,
gT 17 16 (.mv (.t 5)),
oP 18 (.pick (.t 16) (.t 17) (.c (.bool false)))] [0,1,5,6,18])
(.cond (.t 18)
.skip
(.exit 0)))
(.seq (.block 1
(.dreg [mV 21 0,
mV 22 6,
oP 23 (.ixS 1 (.t 21) (.t 22)),
oP 24 (.load none (.t 23)),
mV 25 1,
mV 26 6,
oP 27 (.ixS 1 (.t 25) (.t 26)),
oP 28 (.load none (.t 27)),
oP 29 (.bin .eql (.t 24) (.t 28)),
mV 5 29] [0,1,5,6] [[],[],[0,1],[0,1,2],[],[],[4,5],[4,5,6],[0,1,2,3,4,5,6,7],[0,1,2,3,4,5,6,7,8]]))
(.reg [mV 19 6,
oP 20 (.bin .add (.t 19) (cI 1)),
mV 6 20] [0,1,5,6]))))))
(.seq (.reg [mV 30 5,
mV 4 30] [4])
.ret))))
abbrev N7:RsT:=[(4,none)]
theorem Mq:SpF 31 E7 KL N7:=SpI Tryz.func26 (by kernel_rfl)
theorem pD:ak Tryz.prog E7 = true:=by kernel_rfl
abbrev H0:FuncId:=27
def It:AC:=
(.seq (.reg [oP 0 (.mv (.c (.bool false)))] [])
(.seq (.reg [oP 26 (.call (.f 42) [false] [(cI 2)]),
oP 27 (.call (.f 19) [true,false] [(.t 26),(cI 200)]),
mV 25 27,
oP 28 (.extract (.t 25) 0),
oP 29 (.extract (.t 25) 1),
oP 1 (.alloc [.slice 7 []]),
oN (.store 1 (.t 1) (.t 28)),
mV 2 29] [1,2])
(.frz 1 true (.seq (.reg [oP 31 (.call (.f 42) [false] [(cI 0)]),
oP 32 (.call (.f 22) [true,false,false,false] [(.t 31),(cI 0),(cI 10),(cI 19)]),
mV 30 32,
oP 33 (.extract (.t 30) 0),
oP 34 (.extract (.t 30) 1),
oP 3 (.alloc [.int .i64 0, .int .i64 0]),
oN (.store 2 (.t 3) (.t 33)),
mV 4 34] [1,2,3,4])
(.frz 3 true (.seq (.reg [oP 36 (.call (.f 42) [false] [(cI 2)]),
⟨some 37,none, .call (.f 24) [true,false,false] [(.t 36),(cI 200),(.c (.str ⟨#[107,101,101,108]⟩))]⟩,
mV 35 37,
oP 38 (.extract (.t 35) 0),
oP 39 (.extract (.t 35) 1),
mV 5 38,
mV 6 39] [1,2,3,4,5,6])
(.seq (.reg [oP 41 (.call (.f 42) [false] [(cI 2)]),
oP 42 (.call (.f 42) [false] [(cI 0)]),
oP 43 (.call (.f 35) [true,true,false] [(.t 41),(.t 42),(cI 200)]),
mV 40 43,
oP 44 (.extract (.t 40) 0),
oP 45 (.extract (.t 40) 1),
mV 7 44,
mV 8 45] [1,2,3,4,5,6,7,8])
(.seq (.reg [oP 47 (.call (.f 43) [] []),
⟨some 48,none, .build [.str ByteArray.empty, .int .i64 0, .int .i64 0] [(0,1,(.c (.str ⟨#[116,97,110,107,49]⟩))),(1,1,(cI 15)),(2,1,(cI 4))]⟩,
oP 49 (.lit 0 3 1 [(0,(.t 48))]),
oP 50 (.call (.f 28) [true,false,true] [(.t 47),(cI 200),(.t 49)]),
mV 46 50,
oP 51 (.extract (.t 46) 0),
oP 52 (.extract (.t 46) 1),
mV 9 51,
mV 10 52] [1,2,3,4,5,6,7,8,9,10])
(.seq (.reg [oP 54 (.call (.f 43) [] []),
oP 55 (.call (.f 31) [true,false,true] [(.t 54),(cI 200),(.c (.slice 3 []))]),
mV 53 55,
oP 56 (.extract (.t 53) 0),
oP 57 (.extract (.t 53) 1),
oP 58 (.extract (.t 53) 2),
mV 11 56,
mV 12 57,
mV 13 58] [1,2,3,4,5,6,7,8,9,10,11,12,13])
(.seq (.reg [oP 60 (.call (.f 43) [] []),
oP 61 (.call (.f 33) [true,false,true] [(.t 60),(cI 200),(.c (.slice 3 []))]),
mV 59 61,
oP 62 (.extract (.t 59) 0),
oP 63 (.extract (.t 59) 1),
oP 64 (.extract (.t 59) 2),
oP 65 (.extract (.t 59) 3),
mV 14 62,
mV 15 63,
mV 16 64,
mV 17 65] [1,2,3,4,5,6,7,8,9,10,11,12,13,14,15,16,17])
(.seq (.reg [oP 67 (.call (.f 42) [false] [(cI 2)]),
oP 68 (.call (.f 37) [true] [(.t 67)]),
mV 66 68,
oP 69 (.extract (.t 66) 0),
oP 70 (.extract (.t 66) 1),
mV 18 69,
mV 19 70] [1,2,3,4,5,6,7,8,9,10,11,12,13,14,15,16,17,18,19])
(.seq (.reg [oP 72 (.call (.f 68) [] []),
oP 73 (.call (.f 39) [false] [(.t 72)]),
mV 71 73,
oP 74 (.extract (.t 71) 0),
oP 75 (.extract (.t 71) 1),
oP 20 (.alloc [.slice 7 [], .slice 10 []]),
oN (.store 2 (.t 20) (.t 74)),
mV 21 75] [1,2,3,4,5,6,7,8,9,10,11,12,13,14,15,16,17,18,19,20,21])
(.frz 20 true (.seq (.reg [oP 77 (.call (.f 42) [false] [(cI 2)]),
⟨some 78,none, .call (.f 24) [true,false,false] [(.t 77),(cI 200),(.c (.str ⟨#[116,97,110,107,49]⟩))]⟩,
mV 76 78,
oP 79 (.extract (.t 76) 0),
oP 80 (.extract (.t 76) 1),
mV 22 79,
mV 23 80] [1,2,3,4,5,6,7,8,9,10,11,12,13,14,15,16,17,18,19,20,21,23])
(.seq (.reg [oP 81 (.call (.f 44) [false,false] [(cI 9000),(cI 10000)]),
⟨some 82,none, .call (.f 69) [false,false,false,false,false,true] [(.c (.str ⟨#[107,101,101,108]⟩)),(cI 2),(cI 0),(cI 40),(.t 81),(.c (.slice 1 []))]⟩,
oP 83 (.call (.f 44) [false,false] [(cI 800),(cI 900)]),
⟨some 84,none, .lit 0 1 1 [(0,(.c (.str ⟨#[107,101,101,108]⟩)))]⟩,
⟨some 85,none, .call (.f 69) [false,false,false,false,false,true] [(.c (.str ⟨#[104,111,108,100,49]⟩)),(cI 1),(cI 10),(cI 29),(.t 83),(.t 84)]⟩,
oP 86 (.call (.f 44) [false,false] [(cI 3000),(cI 3000)]),
⟨some 87,none, .lit 0 1 2 [(0,(.c (.str ⟨#[104,111,108,100,49]⟩))),(1,(.c (.str ⟨#[107,101,101,108]⟩)))]⟩,
⟨some 88,none, .call (.f 69) [false,false,false,false,false,true] [(.c (.str ⟨#[100,101,99,107]⟩)),(cI 1),(cI 5),(cI 24),(.t 86),(.t 87)]⟩,
oP 89 (.call (.f 44) [false,false] [(cI 100),(cI 200)]),
⟨some 90,none, .lit 0 1 1 [(0,(.c (.str ⟨#[104,111,108,100,49]⟩)))]⟩,
⟨some 91,none, .call (.f 69) [false,false,false,false,false,true] [(.c (.str ⟨#[112,105,112,101,49]⟩)),(cI 5),(cI 12),(cI 30),(.t 89),(.t 90)]⟩,
oP 92 (.lit 0 7 4 [(0,(.t 82)),(1,(.t 85)),(2,(.t 88)),(3,(.t 91))]),
mV 24 92] [1,2,3,4,5,6,7,8,9,10,11,12,13,14,15,16,17,18,19,20,21,23,24])
(.seq (.dreg [mV 93 2,
oP 94 (.bin .eql (.t 93) (cI 0)),
mV 95 94,
gT 96 95 (.mv (.t 4)),
gT 97 95 (.bin .eql (.t 96) (cI 0)),
oP 98 (.pick (.t 95) (.t 97) (.c (.bool false))),
mV 99 98,
gT 100 99 (.mv (.t 6)),
gT 101 99 (.bin .eql (.t 100) (cI 0)),
oP 102 (.pick (.t 99) (.t 101) (.c (.bool false))),
mV 103 102,
gT 104 103 (.mv (.t 8)),
gT 105 103 (.bin .eql (.t 104) (cI 0)),
oP 106 (.pick (.t 103) (.t 105) (.c (.bool false))),
mV 107 106,
gT 108 107 (.mv (.t 10)),
gT 109 107 (.bin .eql (.t 108) (cI 0)),
oP 110 (.pick (.t 107) (.t 109) (.c (.bool false))),
mV 111 110,
gT 112 111 (.mv (.t 13)),
gT 113 111 (.bin .eql (.t 112) (cI 0)),
oP 114 (.pick (.t 111) (.t 113) (.c (.bool false))),
mV 115 114,
gT 116 115 (.mv (.t 17)),
gT 117 115 (.bin .eql (.t 116) (cI 0)),
oP 118 (.pick (.t 115) (.t 117) (.c (.bool false))),
mV 119 118,
gT 120 119 (.mv (.t 19)),
gT 121 119 (.bin .eql (.t 120) (cI 0)),
oP 122 (.pick (.t 119) (.t 121) (.c (.bool false))),
mV 123 122,
gT 124 123 (.mv (.t 21)),
gT 125 123 (.bin .eql (.t 124) (cI 0)),
oP 126 (.pick (.t 123) (.t 125) (.c (.bool false))),
mV 127 126,
gT 128 127 (.mv (.t 23)),
gT 129 127 (.bin .eql (.t 128) (cI 4)),
oP 130 (.pick (.t 127) (.t 129) (.c (.bool false))),
mV 131 130,
⟨some 132,(some (131,true)), .call (.f 17) [false] [(.c (.str ⟨#[116,97,110,107,49]⟩))]⟩,
oP 133 (.pick (.t 131) (.t 132) (.c (.bool false))),
mV 134 133,
⟨some 135,(some (134,true)), .call (.f 17) [false] [(.c (.str ⟨#[49,116,97,110,107]⟩))]⟩,
gT 136 134 (.un .not (.t 135)),
oP 137 (.pick (.t 134) (.t 136) (.c (.bool false))),
mV 138 137,
gT 139 138 (.fieldAddr none 0 (.t 1)),
gT 140 138 (.load none (.t 139)),
gT 141 138 (.mv (.t 24)),
gT 142 138 (.call (.f 21) [true,true] [(.t 140),(.t 141)]),
oP 143 (.pick (.t 138) (.t 142) (.c (.bool false))),
mV 144 143,
gT 145 144 (.load (some 2) (.t 3)),
gT 146 144 (.call (.f 44) [false,false] [(cI 5695),(cI 6440)]),
gT 147 144 (.eqa false [.i, .i] (.t 145) (.t 146)),
oP 148 (.pick (.t 144) (.t 147) (.c (.bool false))),
mV 149 148,
gT 150 149 (.mv (.t 5)),
⟨some 151,(some (149,true)), .lit 0 1 3 [(0,(.c (.str ⟨#[104,111,108,100,49]⟩))),(1,(.c (.str ⟨#[100,101,99,107]⟩))),(2,(.c (.str ⟨#[112,105,112,101,49]⟩)))]⟩,
gT 152 149 (.call (.f 26) [true,true] [(.t 150),(.t 151)]),
oP 153 (.pick (.t 149) (.t 152) (.c (.bool false))),
mV 154 153,
gT 155 154 (.mv (.t 7)),
⟨some 156,(some (154,true)), .lit 0 1 4 [(0,(.c (.str ⟨#[100,101,99,107]⟩))),(1,(.c (.str ⟨#[104,111,108,100,49]⟩))),(2,(.c (.str ⟨#[112,105,112,101,49]⟩))),(3,(.c (.str ⟨#[116,97,110,107,49]⟩)))]⟩,
gT 157 154 (.call (.f 26) [true,true] [(.t 155),(.t 156)]),
oP 158 (.pick (.t 154) (.t 157) (.c (.bool false))),
mV 159 158,
gT 160 159 (.mv (.t 9)),
gT 161 159 (.lit 0 1 1 [(0,(cI 1))]),
gT 162 159 (.call (.f 30) [true,true] [(.t 160),(.t 161)]),
oP 163 (.pick (.t 159) (.t 162) (.c (.bool false))),
mV 164 163,
gT 165 164 (.mv (.t 11)),
⟨some 166,(some (164,true)), .lit 0 1 2 [(0,(.c (.str ⟨#[100,101,99,107]⟩))),(1,(.c (.str ⟨#[107,101,101,108]⟩)))]⟩,
gT 167 164 (.call (.f 26) [true,true] [(.t 165),(.t 166)]),
oP 168 (.pick (.t 164) (.t 167) (.c (.bool false))),
mV 169 168,
gT 170 169 (.mv (.t 12)),
⟨some 171,(some (169,true)), .lit 0 1 5 [(0,(.c (.str ⟨#[100,101,99,107]⟩))),(1,(.c (.str ⟨#[104,111,108,100,49]⟩))),(2,(.c (.str ⟨#[107,101,101,108]⟩))),(3,(.c (.str ⟨#[112,105,112,101,49]⟩))),(4,(.c (.str ⟨#[116,97,110,107,49]⟩)))]⟩,
gT 172 169 (.call (.f 26) [true,true] [(.t 170),(.t 171)]),
oP 173 (.pick (.t 169) (.t 172) (.c (.bool false))),
mV 174 173,
gT 175 174 (.mv (.t 14)),
⟨some 176,(some (174,true)), .bin .eql (.t 175) (.c (.str ⟨#[104,111,108,100,49]⟩))⟩,
oP 177 (.pick (.t 174) (.t 176) (.c (.bool false))),
mV 178 177,
gT 179 178 (.mv (.t 15)),
gT 180 178 (.bin .eql (.t 179) (cI 10)),
oP 181 (.pick (.t 178) (.t 180) (.c (.bool false))),
mV 182 181,
gT 183 182 (.mv (.t 16)),
gT 184 182 (.bin .eql (.t 183) (cI 1)),
oP 185 (.pick (.t 182) (.t 184) (.c (.bool false))),
mV 186 185,
gT 187 186 (.mv (.t 18)),
gT 188 186 (.call (.f 68) [] []),
gT 189 186 (.bin .eql (.t 187) (.t 188)),
oP 190 (.pick (.t 186) (.t 189) (.c (.bool false))),
mV 191 190,
gT 192 191 (.load (some 2) (.t 20)),
gT 193 191 (.call (.f 42) [false] [(cI 2)]),
gT 194 191 (.call (.f 41) [true,true] [(.t 192),(.t 193)]),
oP 195 (.pick (.t 191) (.t 194) (.c (.bool false))),
mV 0 195] [0] [[],[0],[0,1],[0,1,2],[0,1,2,3],[0,1,2,3,4],[0,1,2,3,4,5],[0,1,2,3,4,5,6],[0,1,2,3,4,5,6,7],[0,1,2,3,4,5,6,7,8],[0,1,2,3,4,5,6,7,8,9],[0,1,2,3,4,5,6,7,8,9,10],[0,1,2,3,4,5,6,7,8,9,10,11],[0,1,2,3,4,5,6,7,8,9,10,11,12],[0,1,2,3,4,5,6,7,8,9,10,11,12,13],[0,1,2,3,4,5,6,7,8,9,10,11,12,13,14],[0,1,2,3,4,5,6,7,8,9,10,11,12,13,14,15],[0,1,2,3,4,5,6,7,8,9,10,11,12,13,14,15,16],[0,1,2,3,4,5,6,7,8,9,10,11,12,13,14,15,16,17],[0,1,2,3,4,5,6,7,8,9,10,11,12,13,14,15,16,17,18],[0,1,2,3,4,5,6,7,8,9,10,11,12,13,14,15,16,17,18,19],[0,1,2,3,4,5,6,7,8,9,10,11,12,13,14,15,16,17,18,19,20],[0,1,2,3,4,5,6,7,8,9,10,11,12,13,14,15,16,17,18,19,20,21],[0,1,2,3,4,5,6,7,8,9,10,11,12,13,14,15,16,17,18,19,20,21,22],[0,1,2,3,4,5,6,7,8,9,10,11,12,13,14,15,16,17,18,19,20,21,22,23],[0,1,2,3,4,5,6,7,8,9,10,11,12,13,14,15,16,17,18,19,20,21,22,23,24],[0,1,2,3,4,5,6,7,8,9,10,11,12,13,14,15,16,17,18,19,20,21,22,23,24,25],[0,1,2,3,4,5,6,7,8,9,10,11,12,13,14,15,16,17,18,19,20,21,22,23,24,25,26],[0,1,2,3,4,5,6,7,8,9,10,11,12,13,14,15,16,17,18,19,20,21,22,23,24,25,26,27],[0,1,2,3,4,5,6,7,8,9,10,11,12,13,14,15,16,17,18,19,20,21,22,23,24,25,26,27,28],[0,1,2,3,4,5,6,7,8,9,10,11,12,13,14,15,16,17,18,19,20,21,22,23,24,25,26,27,28,29],[0,1,2,3,4,5,6,7,8,9,10,11,12,13,14,15,16,17,18,19,20,21,22,23,24,25,26,27,28,29,30],[0,1,2,3,4,5,6,7,8,9,10,11,12,13,14,15,16,17,18,19,20,21,22,23,24,25,26,27,28,29,30,31],[0,1,2,3,4,5,6,7,8,9,10,11,12,13,14,15,16,17,18,19,20,21,22,23,24,25,26,27,28,29,30,31,32],[0,1,2,3,4,5,6,7,8,9,10,11,12,13,14,15,16,17,18,19,20,21,22,23,24,25,26,27,28,29,30,31,32,33],[0,1,2,3,4,5,6,7,8,9,10,11,12,13,14,15,16,17,18,19,20,21,22,23,24,25,26,27,28,29,30,31,32,33,34],[0,1,2,3,4,5,6,7,8,9,10,11,12,13,14,15,16,17,18,19,20,21,22,23,24,25,26,27,28,29,30,31,32,33,34,35],[0,1,2,3,4,5,6,7,8,9,10,11,12,13,14,15,16,17,18,19,20,21,22,23,24,25,26,27,28,29,30,31,32,33,34,35,36],[0,1,2,3,4,5,6,7,8,9,10,11,12,13,14,15,16,17,18,19,20,21,22,23,24,25,26,27,28,29,30,31,32,33,34,35,36,37],[0,1,2,3,4,5,6,7,8,9,10,11,12,13,14,15,16,17,18,19,20,21,22,23,24,25,26,27,28,29,30,31,32,33,34,35,36,37,38],[0,1,2,3,4,5,6,7,8,9,10,11,12,13,14,15,16,17,18,19,20,21,22,23,24,25,26,27,28,29,30,31,32,33,34,35,36,37,38,39],[0,1,2,3,4,5,6,7,8,9,10,11,12,13,14,15,16,17,18,19,20,21,22,23,24,25,26,27,28,29,30,31,32,33,34,35,36,37,38,39,40],[0,1,2,3,4,5,6,7,8,9,10,11,12,13,14,15,16,17,18,19,20,21,22,23,24,25,26,27,28,29,30,31,32,33,34,35,36,37,38,39,40,41],[0,1,2,3,4,5,6,7,8,9,10,11,12,13,14,15,16,17,18,19,20,21,22,23,24,25,26,27,28,29,30,31,32,33,34,35,36,37,38,39,40,41,42],[0,1,2,3,4,5,6,7,8,9,10,11,12,13,14,15,16,17,18,19,20,21,22,23,24,25,26,27,28,29,30,31,32,33,34,35,36,37,38,39,40,41,42,43],[0,1,2,3,4,5,6,7,8,9,10,11,12,13,14,15,16,17,18,19,20,21,22,23,24,25,26,27,28,29,30,31,32,33,34,35,36,37,38,39,40,41,42,43,44],[0,1,2,3,4,5,6,7,8,9,10,11,12,13,14,15,16,17,18,19,20,21,22,23,24,25,26,27,28,29,30,31,32,33,34,35,36,37,38,39,40,41,42,43,44,45],[0,1,2,3,4,5,6,7,8,9,10,11,12,13,14,15,16,17,18,19,20,21,22,23,24,25,26,27,28,29,30,31,32,33,34,35,36,37,38,39,40,41,42,43,44,45,46],[0,1,2,3,4,5,6,7,8,9,10,11,12,13,14,15,16,17,18,19,20,21,22,23,24,25,26,27,28,29,30,31,32,33,34,35,36,37,38,39,40,41,42,43,44,45],[0,1,2,3,4,5,6,7,8,9,10,11,12,13,14,15,16,17,18,19,20,21,22,23,24,25,26,27,28,29,30,31,32,33,34,35,36,37,38,39,40,41,42,43,44,45,46,47,48],[0,1,2,3,4,5,6,7,8,9,10,11,12,13,14,15,16,17,18,19,20,21,22,23,24,25,26,27,28,29,30,31,32,33,34,35,36,37,38,39,40,41,42,43,44,45,46,47,48,49],[0,1,2,3,4,5,6,7,8,9,10,11,12,13,14,15,16,17,18,19,20,21,22,23,24,25,26,27,28,29,30,31,32,33,34,35,36,37,38,39,40,41,42,43,44,45,46,47,48,49,50],[0,1,2,3,4,5,6,7,8,9,10,11,12,13,14,15,16,17,18,19,20,21,22,23,24,25,26,27,28,29,30,31,32,33,34,35,36,37,38,39,40,41,42,43,44,45,46,47,48,49,50,51],[0,1,2,3,4,5,6,7,8,9,10,11,12,13,14,15,16,17,18,19,20,21,22,23,24,25,26,27,28,29,30,31,32,33,34,35,36,37,38,39,40,41,42,43,44,45,46,47,48,49,50,51],[0,1,2,3,4,5,6,7,8,9,10,11,12,13,14,15,16,17,18,19,20,21,22,23,24,25,26,27,28,29,30,31,32,33,34,35,36,37,38,39,40,41,42,43,44,45,46,47,48,49,50,51,52,53],[0,1,2,3,4,5,6,7,8,9,10,11,12,13,14,15,16,17,18,19,20,21,22,23,24,25,26,27,28,29,30,31,32,33,34,35,36,37,38,39,40,41,42,43,44,45,46,47,48,49,50,51,52,53,54],[0,1,2,3,4,5,6,7,8,9,10,11,12,13,14,15,16,17,18,19,20,21,22,23,24,25,26,27,28,29,30,31,32,33,34,35,36,37,38,39,40,41,42,43,44,45,46,47,48,49,50,51,52,53,54,55],[0,1,2,3,4,5,6,7,8,9,10,11,12,13,14,15,16,17,18,19,20,21,22,23,24,25,26,27,28,29,30,31,32,33,34,35,36,37,38,39,40,41,42,43,44,45,46,47,48,49,50,51,52,53,54,55,56],[0,1,2,3,4,5,6,7,8,9,10,11,12,13,14,15,16,17,18,19,20,21,22,23,24,25,26,27,28,29,30,31,32,33,34,35,36,37,38,39,40,41,42,43,44,45,46,47,48,49,50,51,52,53,54,55,56],[0,1,2,3,4,5,6,7,8,9,10,11,12,13,14,15,16,17,18,19,20,21,22,23,24,25,26,27,28,29,30,31,32,33,34,35,36,37,38,39,40,41,42,43,44,45,46,47,48,49,50,51,52,53,54,55,56,57,58],[0,1,2,3,4,5,6,7,8,9,10,11,12,13,14,15,16,17,18,19,20,21,22,23,24,25,26,27,28,29,30,31,32,33,34,35,36,37,38,39,40,41,42,43,44,45,46,47,48,49,50,51,52,53,54,55,56,57,58,59],[0,1,2,3,4,5,6,7,8,9,10,11,12,13,14,15,16,17,18,19,20,21,22,23,24,25,26,27,28,29,30,31,32,33,34,35,36,37,38,39,40,41,42,43,44,45,46,47,48,49,50,51,52,53,54,55,56,57,58,59,60],[0,1,2,3,4,5,6,7,8,9,10,11,12,13,14,15,16,17,18,19,20,21,22,23,24,25,26,27,28,29,30,31,32,33,34,35,36,37,38,39,40,41,42,43,44,45,46,47,48,49,50,51,52,53,54,55,56,57,58,59,60,61],[0,1,2,3,4,5,6,7,8,9,10,11,12,13,14,15,16,17,18,19,20,21,22,23,24,25,26,27,28,29,30,31,32,33,34,35,36,37,38,39,40,41,42,43,44,45,46,47,48,49,50,51,52,53,54,55,56,57,58,59,60,61],[0,1,2,3,4,5,6,7,8,9,10,11,12,13,14,15,16,17,18,19,20,21,22,23,24,25,26,27,28,29,30,31,32,33,34,35,36,37,38,39,40,41,42,43,44,45,46,47,48,49,50,51,52,53,54,55,56,57,58,59,60,61,62,63],[0,1,2,3,4,5,6,7,8,9,10,11,12,13,14,15,16,17,18,19,20,21,22,23,24,25,26,27,28,29,30,31,32,33,34,35,36,37,38,39,40,41,42,43,44,45,46,47,48,49,50,51,52,53,54,55,56,57,58,59,60,61,62,63,64],[0,1,2,3,4,5,6,7,8,9,10,11,12,13,14,15,16,17,18,19,20,21,22,23,24,25,26,27,28,29,30,31,32,33,34,35,36,37,38,39,40,41,42,43,44,45,46,47,48,49,50,51,52,53,54,55,56,57,58,59,60,61,62,63,64,65],[0,1,2,3,4,5,6,7,8,9,10,11,12,13,14,15,16,17,18,19,20,21,22,23,24,25,26,27,28,29,30,31,32,33,34,35,36,37,38,39,40,41,42,43,44,45,46,47,48,49,50,51,52,53,54,55,56,57,58,59,60,61,62,63,64,65,66],[0,1,2,3,4,5,6,7,8,9,10,11,12,13,14,15,16,17,18,19,20,21,22,23,24,25,26,27,28,29,30,31,32,33,34,35,36,37,38,39,40,41,42,43,44,45,46,47,48,49,50,51,52,53,54,55,56,57,58,59,60,61,62,63,64,65,66],[0,1,2,3,4,5,6,7,8,9,10,11,12,13,14,15,16,17,18,19,20,21,22,23,24,25,26,27,28,29,30,31,32,33,34,35,36,37,38,39,40,41,42,43,44,45,46,47,48,49,50,51,52,53,54,55,56,57,58,59,60,61,62,63,64,65,66,67,68],[0,1,2,3,4,5,6,7,8,9,10,11,12,13,14,15,16,17,18,19,20,21,22,23,24,25,26,27,28,29,30,31,32,33,34,35,36,37,38,39,40,41,42,43,44,45,46,47,48,49,50,51,52,53,54,55,56,57,58,59,60,61,62,63,64,65,66,67,68,69],[0,1,2,3,4,5,6,7,8,9,10,11,12,13,14,15,16,17,18,19,20,21,22,23,24,25,26,27,28,29,30,31,32,33,34,35,36,37,38,39,40,41,42,43,44,45,46,47,48,49,50,51,52,53,54,55,56,57,58,59,60,61,62,63,64,65,66,67,68,69,70],[0,1,2,3,4,5,6,7,8,9,10,11,12,13,14,15,16,17,18,19,20,21,22,23,24,25,26,27,28,29,30,31,32,33,34,35,36,37,38,39,40,41,42,43,44,45,46,47,48,49,50,51,52,53,54,55,56,57,58,59,60,61,62,63,64,65,66,67,68,69,70,71],[0,1,2,3,4,5,6,7,8,9,10,11,12,13,14,15,16,17,18,19,20,21,22,23,24,25,26,27,28,29,30,31,32,33,34,35,36,37,38,39,40,41,42,43,44,45,46,47,48,49,50,51,52,53,54,55,56,57,58,59,60,61,62,63,64,65,66,67,68,69,70,71],[0,1,2,3,4,5,6,7,8,9,10,11,12,13,14,15,16,17,18,19,20,21,22,23,24,25,26,27,28,29,30,31,32,33,34,35,36,37,38,39,40,41,42,43,44,45,46,47,48,49,50,51,52,53,54,55,56,57,58,59,60,61,62,63,64,65,66,67,68,69,70,71,72,73],[0,1,2,3,4,5,6,7,8,9,10,11,12,13,14,15,16,17,18,19,20,21,22,23,24,25,26,27,28,29,30,31,32,33,34,35,36,37,38,39,40,41,42,43,44,45,46,47,48,49,50,51,52,53,54,55,56,57,58,59,60,61,62,63,64,65,66,67,68,69,70,71,72,73,74],[0,1,2,3,4,5,6,7,8,9,10,11,12,13,14,15,16,17,18,19,20,21,22,23,24,25,26,27,28,29,30,31,32,33,34,35,36,37,38,39,40,41,42,43,44,45,46,47,48,49,50,51,52,53,54,55,56,57,58,59,60,61,62,63,64,65,66,67,68,69,70,71,72,73,74,75],[0,1,2,3,4,5,6,7,8,9,10,11,12,13,14,15,16,17,18,19,20,21,22,23,24,25,26,27,28,29,30,31,32,33,34,35,36,37,38,39,40,41,42,43,44,45,46,47,48,49,50,51,52,53,54,55,56,57,58,59,60,61,62,63,64,65,66,67,68,69,70,71,72,73,74,75,76],[0,1,2,3,4,5,6,7,8,9,10,11,12,13,14,15,16,17,18,19,20,21,22,23,24,25,26,27,28,29,30,31,32,33,34,35,36,37,38,39,40,41,42,43,44,45,46,47,48,49,50,51,52,53,54,55,56,57,58,59,60,61,62,63,64,65,66,67,68,69,70,71,72,73,74,75,76],[0,1,2,3,4,5,6,7,8,9,10,11,12,13,14,15,16,17,18,19,20,21,22,23,24,25,26,27,28,29,30,31,32,33,34,35,36,37,38,39,40,41,42,43,44,45,46,47,48,49,50,51,52,53,54,55,56,57,58,59,60,61,62,63,64,65,66,67,68,69,70,71,72,73,74,75,76,77,78],[0,1,2,3,4,5,6,7,8,9,10,11,12,13,14,15,16,17,18,19,20,21,22,23,24,25,26,27,28,29,30,31,32,33,34,35,36,37,38,39,40,41,42,43,44,45,46,47,48,49,50,51,52,53,54,55,56,57,58,59,60,61,62,63,64,65,66,67,68,69,70,71,72,73,74,75,76,77,78,79],[0,1,2,3,4,5,6,7,8,9,10,11,12,13,14,15,16,17,18,19,20,21,22,23,24,25,26,27,28,29,30,31,32,33,34,35,36,37,38,39,40,41,42,43,44,45,46,47,48,49,50,51,52,53,54,55,56,57,58,59,60,61,62,63,64,65,66,67,68,69,70,71,72,73,74,75,76,77,78,79,80],[0,1,2,3,4,5,6,7,8,9,10,11,12,13,14,15,16,17,18,19,20,21,22,23,24,25,26,27,28,29,30,31,32,33,34,35,36,37,38,39,40,41,42,43,44,45,46,47,48,49,50,51,52,53,54,55,56,57,58,59,60,61,62,63,64,65,66,67,68,69,70,71,72,73,74,75,76,77,78,79,80,81],[0,1,2,3,4,5,6,7,8,9,10,11,12,13,14,15,16,17,18,19,20,21,22,23,24,25,26,27,28,29,30,31,32,33,34,35,36,37,38,39,40,41,42,43,44,45,46,47,48,49,50,51,52,53,54,55,56,57,58,59,60,61,62,63,64,65,66,67,68,69,70,71,72,73,74,75,76,77,78,79,80,81,82],[0,1,2,3,4,5,6,7,8,9,10,11,12,13,14,15,16,17,18,19,20,21,22,23,24,25,26,27,28,29,30,31,32,33,34,35,36,37,38,39,40,41,42,43,44,45,46,47,48,49,50,51,52,53,54,55,56,57,58,59,60,61,62,63,64,65,66,67,68,69,70,71,72,73,74,75,76,77,78,79,80,81,82,83],[0,1,2,3,4,5,6,7,8,9,10,11,12,13,14,15,16,17,18,19,20,21,22,23,24,25,26,27,28,29,30,31,32,33,34,35,36,37,38,39,40,41,42,43,44,45,46,47,48,49,50,51,52,53,54,55,56,57,58,59,60,61,62,63,64,65,66,67,68,69,70,71,72,73,74,75,76,77,78,79,80,81,82,83,84],[0,1,2,3,4,5,6,7,8,9,10,11,12,13,14,15,16,17,18,19,20,21,22,23,24,25,26,27,28,29,30,31,32,33,34,35,36,37,38,39,40,41,42,43,44,45,46,47,48,49,50,51,52,53,54,55,56,57,58,59,60,61,62,63,64,65,66,67,68,69,70,71,72,73,74,75,76,77,78,79,80,81,82,83,84,85],[0,1,2,3,4,5,6,7,8,9,10,11,12,13,14,15,16,17,18,19,20,21,22,23,24,25,26,27,28,29,30,31,32,33,34,35,36,37,38,39,40,41,42,43,44,45,46,47,48,49,50,51,52,53,54,55,56,57,58,59,60,61,62,63,64,65,66,67,68,69,70,71,72,73,74,75,76,77,78,79,80,81,82,83,84,85,86],[0,1,2,3,4,5,6,7,8,9,10,11,12,13,14,15,16,17,18,19,20,21,22,23,24,25,26,27,28,29,30,31,32,33,34,35,36,37,38,39,40,41,42,43,44,45,46,47,48,49,50,51,52,53,54,55,56,57,58,59,60,61,62,63,64,65,66,67,68,69,70,71,72,73,74,75,76,77,78,79,80,81,82,83,84,85,86,87],[0,1,2,3,4,5,6,7,8,9,10,11,12,13,14,15,16,17,18,19,20,21,22,23,24,25,26,27,28,29,30,31,32,33,34,35,36,37,38,39,40,41,42,43,44,45,46,47,48,49,50,51,52,53,54,55,56,57,58,59,60,61,62,63,64,65,66,67,68,69,70,71,72,73,74,75,76,77,78,79,80,81,82,83,84,85,86,87,88],[0,1,2,3,4,5,6,7,8,9,10,11,12,13,14,15,16,17,18,19,20,21,22,23,24,25,26,27,28,29,30,31,32,33,34,35,36,37,38,39,40,41,42,43,44,45,46,47,48,49,50,51,52,53,54,55,56,57,58,59,60,61,62,63,64,65,66,67,68,69,70,71,72,73,74,75,76,77,78,79,80,81,82,83,84,85,86,87,88,89],[0,1,2,3,4,5,6,7,8,9,10,11,12,13,14,15,16,17,18,19,20,21,22,23,24,25,26,27,28,29,30,31,32,33,34,35,36,37,38,39,40,41,42,43,44,45,46,47,48,49,50,51,52,53,54,55,56,57,58,59,60,61,62,63,64,65,66,67,68,69,70,71,72,73,74,75,76,77,78,79,80,81,82,83,84,85,86,87,88,89,90],[0,1,2,3,4,5,6,7,8,9,10,11,12,13,14,15,16,17,18,19,20,21,22,23,24,25,26,27,28,29,30,31,32,33,34,35,36,37,38,39,40,41,42,43,44,45,46,47,48,49,50,51,52,53,54,55,56,57,58,59,60,61,62,63,64,65,66,67,68,69,70,71,72,73,74,75,76,77,78,79,80,81,82,83,84,85,86,87,88,89,90,91],[0,1,2,3,4,5,6,7,8,9,10,11,12,13,14,15,16,17,18,19,20,21,22,23,24,25,26,27,28,29,30,31,32,33,34,35,36,37,38,39,40,41,42,43,44,45,46,47,48,49,50,51,52,53,54,55,56,57,58,59,60,61,62,63,64,65,66,67,68,69,70,71,72,73,74,75,76,77,78,79,80,81,82,83,84,85,86,87,88,89,90,91,92],[0,1,2,3,4,5,6,7,8,9,10,11,12,13,14,15,16,17,18,19,20,21,22,23,24,25,26,27,28,29,30,31,32,33,34,35,36,37,38,39,40,41,42,43,44,45,46,47,48,49,50,51,52,53,54,55,56,57,58,59,60,61,62,63,64,65,66,67,68,69,70,71,72,73,74,75,76,77,78,79,80,81,82,83,84,85,86,87,88,89,90,91,92,93],[0,1,2,3,4,5,6,7,8,9,10,11,12,13,14,15,16,17,18,19,20,21,22,23,24,25,26,27,28,29,30,31,32,33,34,35,36,37,38,39,40,41,42,43,44,45,46,47,48,49,50,51,52,53,54,55,56,57,58,59,60,61,62,63,64,65,66,67,68,69,70,71,72,73,74,75,76,77,78,79,80,81,82,83,84,85,86,87,88,89,90,91,92,93],[0,1,2,3,4,5,6,7,8,9,10,11,12,13,14,15,16,17,18,19,20,21,22,23,24,25,26,27,28,29,30,31,32,33,34,35,36,37,38,39,40,41,42,43,44,45,46,47,48,49,50,51,52,53,54,55,56,57,58,59,60,61,62,63,64,65,66,67,68,69,70,71,72,73,74,75,76,77,78,79,80,81,82,83,84,85,86,87,88,89,90,91,92,93,94,95],[0,1,2,3,4,5,6,7,8,9,10,11,12,13,14,15,16,17,18,19,20,21,22,23,24,25,26,27,28,29,30,31,32,33,34,35,36,37,38,39,40,41,42,43,44,45,46,47,48,49,50,51,52,53,54,55,56,57,58,59,60,61,62,63,64,65,66,67,68,69,70,71,72,73,74,75,76,77,78,79,80,81,82,83,84,85,86,87,88,89,90,91,92,93,94,95,96],[0,1,2,3,4,5,6,7,8,9,10,11,12,13,14,15,16,17,18,19,20,21,22,23,24,25,26,27,28,29,30,31,32,33,34,35,36,37,38,39,40,41,42,43,44,45,46,47,48,49,50,51,52,53,54,55,56,57,58,59,60,61,62,63,64,65,66,67,68,69,70,71,72,73,74,75,76,77,78,79,80,81,82,83,84,85,86,87,88,89,90,91,92,93,94,95,96,97],[0,1,2,3,4,5,6,7,8,9,10,11,12,13,14,15,16,17,18,19,20,21,22,23,24,25,26,27,28,29,30,31,32,33,34,35,36,37,38,39,40,41,42,43,44,45,46,47,48,49,50,51,52,53,54,55,56,57,58,59,60,61,62,63,64,65,66,67,68,69,70,71,72,73,74,75,76,77,78,79,80,81,82,83,84,85,86,87,88,89,90,91,92,93,94,95,96,97,98],[0,1,2,3,4,5,6,7,8,9,10,11,12,13,14,15,16,17,18,19,20,21,22,23,24,25,26,27,28,29,30,31,32,33,34,35,36,37,38,39,40,41,42,43,44,45,46,47,48,49,50,51,52,53,54,55,56,57,58,59,60,61,62,63,64,65,66,67,68,69,70,71,72,73,74,75,76,77,78,79,80,81,82,83,84,85,86,87,88,89,90,91,92,93,94,95,96,97,98],[0,1,2,3,4,5,6,7,8,9,10,11,12,13,14,15,16,17,18,19,20,21,22,23,24,25,26,27,28,29,30,31,32,33,34,35,36,37,38,39,40,41,42,43,44,45,46,47,48,49,50,51,52,53,54,55,56,57,58,59,60,61,62,63,64,65,66,67,68,69,70,71,72,73,74,75,76,77,78,79,80,81,82,83,84,85,86,87,88,89,90,91,92,93,94,95,96,97,98,99,100],[0,1,2,3,4,5,6,7,8,9,10,11,12,13,14,15,16,17,18,19,20,21,22,23,24,25,26,27,28,29,30,31,32,33,34,35,36,37,38,39,40,41,42,43,44,45,46,47,48,49,50,51,52,53,54,55,56,57,58,59,60,61,62,63,64,65,66,67,68,69,70,71,72,73,74,75,76,77,78,79,80,81,82,83,84,85,86,87,88,89,90,91,92,93,94,95,96,97,98,99,100,101],[0,1,2,3,4,5,6,7,8,9,10,11,12,13,14,15,16,17,18,19,20,21,22,23,24,25,26,27,28,29,30,31,32,33,34,35,36,37,38,39,40,41,42,43,44,45,46,47,48,49,50,51,52,53,54,55,56,57,58,59,60,61,62,63,64,65,66,67,68,69,70,71,72,73,74,75,76,77,78,79,80,81,82,83,84,85,86,87,88,89,90,91,92,93,94,95,96,97,98,99,100,101,102]])
.ret))))))))))))))))
abbrev N2:RsT:=[(0,none)]
theorem MZ:SpF 196 H0 It N2:=SpI Tryz.func27 (by kernel_rfl)
theorem jB:ak Tryz.prog H0 = true:=by kernel_rfl
abbrev D4:FuncId:=28
def HH:AC:=
(.seq (.reg [oP 6 (.mv (.c (.slice 1 []))),
oP 7 (.mv (cI 0))] [0,1,2])
(.seq (.reg [mV 11 0,
mV 12 1,
mV 13 2,
oP 14 (.call (.f 70) [true,false,true] [(.t 11),(.t 12),(.t 13)]),
mV 10 14,
oP 15 (.extract (.t 10) 0),
oP 16 (.extract (.t 10) 1),
oP 8 (.alloc [.slice 1 [], .slice 1 []]),
oN (.store 2 (.t 8) (.t 15)),
mV 9 16] [8,9])
(.frz 8 true (.seq (.seq (.reg [mV 17 9,
oP 18 (.bin .neq (.t 17) (cI 0))] [8,9,18])
(.cond (.t 18)
(.seq (.reg [mV 19 9,
oP 6 (.mv (.c (.slice 1 []))),
mV 7 19] [6,7])
.ret)
.skip))
(.seq (.reg [oP 20 (.fieldAddr none 1 (.t 8)),
oP 21 (.load none (.t 20)),
oP 6 (.mvd (.t 21)),
oP 7 (.mv (cI 0))] [6,7])
.ret)))))
abbrev NH:RsT:=[(6,none),(7,none)]
theorem MP:SpF 22 D4 HH NH:=SpI Tryz.func28 (by kernel_rfl)
theorem Fh:ak Tryz.prog D4 = true:=by kernel_rfl
abbrev HT:FuncId:=30
def IX:AC:=
(.seq (.reg [oP 4 (.mv (.c (.bool false)))] [0,1])
(.seq (.reg [mV 7 0,
oP 8 (.len (.t 7)),
mV 9 1,
oP 10 (.len (.t 9)),
oP 11 (.bin .eql (.t 8) (.t 10)),
mV 5 11] [0,1,5])
(.seq (.seq (.reg [oP 6 (.mv (cI 0))] [0,1,5,6])
(.block 0
(.loop [0,1,5,6]
(.seq (.seq (.reg [mV 12 6,
mV 13 0,
oP 14 (.len (.t 13)),
oP 15 (.bin .lss (.t 12) (.t 14)),
mV 16 15,
gT 17 16 (.mv (.t 5)),
oP 18 (.pick (.t 16) (.t 17) (.c (.bool false)))] [0,1,5,6,18])
(.cond (.t 18)
.skip
(.exit 0)))
(.seq (.block 1
(.dreg [mV 21 0,
mV 22 6,
oP 23 (.ixS 1 (.t 21) (.t 22)),
oP 24 (.load none (.t 23)),
mV 25 1,
mV 26 6,
oP 27 (.ixS 1 (.t 25) (.t 26)),
oP 28 (.load none (.t 27)),
oP 29 (.bin .eql (.t 24) (.t 28)),
mV 5 29] [0,1,5,6] [[],[],[0,1],[0,1,2],[],[],[4,5],[4,5,6],[0,1,2,3,4,5,6,7],[0,1,2,3,4,5,6,7,8]]))
(.reg [mV 19 6,
oP 20 (.bin .add (.t 19) (cI 1)),
mV 6 20] [0,1,5,6]))))))
(.seq (.reg [mV 30 5,
mV 4 30] [4])
.ret))))
abbrev Ni:RsT:=[(4,none)]
theorem LL:SpF 31 HT IX Ni:=SpI Tryz.func30 (by kernel_rfl)
theorem EK:ak Tryz.prog HT = true:=by kernel_rfl
abbrev Fc:FuncId:=31
def Fb:AC:=
(.seq (.reg [oP 6 (.nilS 1 1),
oP 7 (.mv (.c (.slice 1 []))),
oP 8 (.mv (cI 0))] [0,1,2,6])
(.seq (.reg [mV 13 0,
mV 14 1,
mV 15 2,
oP 16 (.call (.f 70) [true,false,true] [(.t 13),(.t 14),(.t 15)]),
mV 12 16,
oP 17 (.extract (.t 12) 0),
oP 18 (.extract (.t 12) 1),
oP 9 (.alloc [.slice 1 [], .slice 1 []]),
oN (.store 2 (.t 9) (.t 17)),
mV 8 18] [6,8,9])
(.frz 9 true (.seq (.block 0
(.seq (.reg [mV 20 8,
oP 21 (.bin .neq (.t 20) (cI 0)),
mV 19 21] [6,8,9,19])
(.cond (.t 19)
(.seq (.reg [mV 22 8,
oP 6 (.mv (.c (.slice 1 []))),
oP 7 (.mv (.c (.slice 1 []))),
mV 8 22] [6,7,8])
.ret)
(.seq (.reg [oP 24 (.fieldAddr none 1 (.t 9)),
oP 25 (.load none (.t 24)),
oP 26 (.len (.t 25)),
oP 27 (.bin .eql (.t 26) (cI 0)),
mV 23 27] [6,9,23])
(.cond (.t 23)
(.seq (.reg [oP 6 (.mv (.c (.slice 1 []))),
oP 7 (.mv (.c (.slice 1 []))),
oP 8 (.mv (cI 9))] [6,7,8])
.ret)
.skip)))))
(.seq (.reg [oP 28 (.load (some 2) (.t 9)),
oP 29 (.call (.f 73) [true] [(.t 28)]),
oP 30 (.call (.f 72) [true] [(.t 29)]),
oP 7 (.mvd (.t 30))] [6,7,9])
(.seq (.seq (.reg [mV 31 7,
oP 32 (.len (.t 31)),
oP 33 (.mv (cI 0))] [6,7,9,31,32,33])
(.block 1
(.loop [6,7,9,31,32,33]
(.seq (.reg [oP 34 (.bin .lss (.t 33) (.t 32))] [6,7,9,31,32,33,34])
(.seq (.cond (.t 34)
.skip
(.exit 1))
(.seq (.block 2
(.seq (.reg [oP 35 (.ixS 1 (.t 31) (.t 33)),
oP 36 (.load none (.t 35)),
oP 11 (.alloc [.str ByteArray.empty]),
oN (.store 1 (.t 11) (.t 36))] [6,7,9,11,31,32,33])
(.frz 11 false (.seq (.reg [oP 37 (.load (some 2) (.t 9)),
oP 38 (.call (.f 73) [true] [(.t 37)]),
oP 39 (.mkfunc (.func 75) [] [(.t 11)]),
oP 40 (.call (.f 74) [true,false] [(.t 38),(.t 39)]),
oP 41 (.un .not (.t 40))] [6,7,9,11,31,32,33,41])
(.cond (.t 41)
(.reg [mV 42 6,
oP 43 (.load none (.t 11)),
oP 44 (.lit 0 1 1 [(0,(.t 43))]),
oP 45 (.append 1 16 (.t 42) (.t 44)),
mV 6 45] [6,7,9,31,32,33])
.skip)))))
(.reg [oP 46 (.bin .add (.t 33) (cI 1)),
mV 33 46] [6,7,9,31,32,33])))))))
(.seq (.reg [mV 47 6,
mV 48 7,
oP 6 (.mvd (.t 47)),
oP 7 (.mvd (.t 48)),
oP 8 (.mv (cI 0))] [6,7,8])
.ret)))))))
abbrev Ol:RsT:=[(6,none),(7,none),(8,none)]
theorem LJ:SpF 49 Fc Fb Ol:=SpI Tryz.func31 (by kernel_rfl)
theorem HN:ak Tryz.prog Fc = true:=by kernel_rfl
abbrev Dv:FuncId:=33
def EB:AC:=
(.seq (.reg [oP 6 (.alloc [.str ByteArray.empty]),
oP 7 (.alloc [.int .i64 0]),
oP 8 (.alloc [.int .i64 0]),
oP 9 (.mv (cI 0))] [0,1,2,6,7,8])
(.seq (.reg [mV 18 0,
mV 19 1,
mV 20 2,
oP 21 (.call (.f 70) [true,false,true] [(.t 18),(.t 19),(.t 20)]),
mV 17 21,
oP 22 (.extract (.t 17) 0),
oP 23 (.extract (.t 17) 1),
oP 10 (.alloc [.slice 1 [], .slice 1 []]),
oN (.store 2 (.t 10) (.t 22)),
mV 9 23] [6,7,8,9,10])
(.frz 10 true (.seq (.block 0
(.seq (.reg [mV 25 9,
oP 26 (.bin .neq (.t 25) (cI 0)),
mV 24 26] [6,7,8,9,10,24])
(.cond (.t 24)
(.seq (.reg [mV 27 9,
⟨none,none, .store 1 (.t 6) (.c (.str ⟨#[]⟩))⟩,
oN (.store 1 (.t 7) (cI 0)),
oN (.store 1 (.t 8) (cI 0)),
mV 9 27] [6,7,8,9])
.ret)
(.seq (.reg [oP 29 (.fieldAddr none 1 (.t 10)),
oP 30 (.load none (.t 29)),
oP 31 (.len (.t 30)),
oP 32 (.bin .eql (.t 31) (cI 0)),
mV 28 32] [6,7,8,10,28])
(.cond (.t 28)
(.seq (.reg [⟨none,none, .store 1 (.t 6) (.c (.str ⟨#[]⟩))⟩,
oN (.store 1 (.t 7) (cI 0)),
oN (.store 1 (.t 8) (cI 0)),
oP 9 (.mv (cI 9))] [6,7,8,9])
.ret)
.skip)))))
(.seq (.reg [oP 33 (.load (some 2) (.t 10)),
oP 34 (.call (.f 73) [true] [(.t 33)]),
oP 11 (.alloc [.slice 1 []]),
oN (.store 1 (.t 11) (.t 34))] [6,7,8,11])
(.frz 11 false (.seq (.reg [oP 35 (.load none (.t 11)),
oP 36 (.len (.t 35)),
oN (.store 1 (.t 8) (.t 36))] [6,7,8,11])
(.seq (.seq (.reg [oP 37 (.load none (.t 11)),
oP 38 (.call (.f 77) [true] [(.t 37)])] [6,7,8,11,38])
(.block 1
(.jT (.t 38) [39] (.reg [oP 12 (.alloc [.str ByteArray.empty, .int .i64 0]),
oN (.store 2 (.t 12) (.t 39))] [6,7,8,11,12])
(.block 2
(.seq (.reg [oP 13 (.alloc [.int .i64 0, .int .i64 0, .int .i64 0, .int .i64 0, .int .i64 0, .int .i64 0])] [6,7,8,11,12,13])
(.seq (.seq (.reg [oP 40 (.load none (.t 11)),
oP 41 (.len (.t 40)),
oP 42 (.mv (cI 0))] [6,7,8,12,13,40,41,42])
(.block 3
(.loop [6,7,8,12,13,40,41,42]
(.seq (.reg [oP 43 (.bin .lss (.t 42) (.t 41))] [6,7,8,12,13,40,41,42,43])
(.seq (.cond (.t 43)
.skip
(.exit 3))
(.seq (.block 4
(.seq (.reg [oP 44 (.ixS 1 (.t 40) (.t 42)),
oP 45 (.load (some 1) (.t 44)),
oP 15 (.alloc [.slice 7 []]),
oN (.store 1 (.t 15) (.t 45))] [6,7,8,12,13,15,40,41,42])
(.reg [oP 46 (.load (some 2) (.t 12)),
oP 47 (.call (.f 78) [true,false] [(.t 15),(.t 46)]),
oP 48 (.ixA 6 1 none (.t 13) (.t 47)),
oP 49 (.load none (.t 48)),
oP 50 (.bin .add (.t 49) (cI 1)),
oP 51 (.ixA 6 1 none (.t 13) (.t 47)),
oN (.store 1 (.t 51) (.t 50))] [6,7,8,12,13,40,41,42])))
(.reg [oP 52 (.bin .add (.t 42) (cI 1)),
mV 42 52] [6,7,8,12,13,40,41,42])))))))
(.seq (.reg [oP 53 (.subA 6 1 (.t 13)),
oP 54 (.call (.f 79) [true] [(.t 53)]),
mV 16 54] [6,7,8,12,16])
(.seq (.reg [mV 55 16,
oP 56 (.load none (.t 8)),
oP 57 (.bin .lss (.t 55) (.t 56))] [6,7,8,12,16,57])
(.cond (.t 57)
(.dreg [oP 58 (.fieldAddr none 0 (.t 12)),
oP 59 (.load none (.t 58)),
oP 60 (.fieldAddr none 1 (.t 12)),
oP 61 (.load none (.t 60)),
mV 62 16,
oN (.store 1 (.t 6) (.t 59)),
oN (.store 1 (.t 7) (.t 61)),
oN (.store 1 (.t 8) (.t 62))] [] [[],[0],[],[2],[],[0,1],[0,1,2,3,5],[0,1,2,3,4,5,6]])
.skip)))))))))
(.seq (.seq (.reg [oP 63 (.load none (.t 6)),
⟨some 64,none, .bin .eql (.t 63) (.c (.str ⟨#[]⟩))⟩] [6,7,8,64])
(.cond (.t 64)
(.seq (.reg [⟨none,none, .store 1 (.t 6) (.c (.str ⟨#[]⟩))⟩,
oN (.store 1 (.t 7) (cI 0)),
oN (.store 1 (.t 8) (cI 0)),
oP 9 (.mv (cI 4))] [6,7,8,9])
.ret)
.skip))
(.seq (.dreg [oP 65 (.load none (.t 6)),
oP 66 (.load none (.t 7)),
oP 67 (.load none (.t 8)),
oN (.store 1 (.t 6) (.t 65)),
oN (.store 1 (.t 7) (.t 66)),
oN (.store 1 (.t 8) (.t 67)),
oP 9 (.mv (cI 0))] [6,7,8,9] [[],[],[],[0],[0,1,3],[0,1,2,3,4],[0,1,2,3,4,5]])
.ret))))))))))
abbrev NW:RsT:=[(6,some none),(7,some none),(8,some none),(9,none)]
theorem Lr:SpF 68 Dv EB NW:=SpI Tryz.func33 (by kernel_rfl)
theorem A1:ak Tryz.prog Dv = true:=by kernel_rfl
abbrev BG:FuncId:=35
def Em:AC:=
(.seq (.reg [oP 3 (.pbox 2 (.t 0)),
oP 4 (.pbox 2 (.t 1)),
oP 6 (.nilS 1 1),
oP 7 (.mv (cI 0))] [2,3,4,6])
(.scope
(.seq (.seq (.reg [oP 18 (.load (some 2) (.t 3)),
oP 19 (.call (.f 15) [true] [(.t 18)]),
mV 17 19,
oP 20 (.extract (.t 17) 0),
oP 21 (.extract (.t 17) 1),
oP 22 (.extract (.t 17) 2),
mV 7 22] [2,3,4,6,7])
(.seq (.reg [mV 23 7,
oP 24 (.bin .neq (.t 23) (cI 0))] [2,3,4,6,7,24])
(.cond (.t 24)
(.seq (.reg [mV 25 7,
oP 6 (.mv (.c (.slice 1 []))),
mV 7 25] [6,7])
.ret)
.skip)))
(.seq (.reg [oP 27 (.load (some 2) (.t 4)),
mV 28 2,
oP 29 (.call (.f 57) [true,false] [(.t 27),(.t 28)]),
mV 26 29,
oP 30 (.extract (.t 26) 0),
oP 31 (.extract (.t 26) 1),
oP 8 (.alloc [.slice 7 []]),
oN (.store 1 (.t 8) (.t 30)),
mV 7 31] [2,3,6,7,8])
(.seq (.seq (.reg [mV 32 7,
oP 33 (.bin .neq (.t 32) (cI 0))] [2,3,6,7,8,33])
(.cond (.t 33)
(.seq (.reg [mV 34 7,
oP 6 (.mv (.c (.slice 1 []))),
mV 7 34] [6,7])
.ret)
.skip))
(.seq (.reg [oP 36 (.load (some 2) (.t 3)),
mV 37 2,
oP 38 (.call (.f 57) [true,false] [(.t 36),(.t 37)]),
mV 35 38,
oP 39 (.extract (.t 35) 0),
oP 40 (.extract (.t 35) 1),
oP 9 (.alloc [.slice 7 []]),
oN (.store 1 (.t 9) (.t 39)),
mV 10 40] [6,8,9])
(.seq (.label 0)
(.seq (.seq (.reg [oP 41 (.load (some 1) (.t 9)),
oP 42 (.load (some 1) (.t 8)),
oP 43 (.lit 0 1 2 [(0,(.t 41)),(1,(.t 42))]),
oP 44 (.call (.f 72) [true] [(.t 43)]),
oP 45 (.len (.t 44)),
oP 46 (.mv (cI 0))] [6,8,9,44,45,46])
(.block 0
(.loop [6,8,9,44,45,46]
(.seq (.reg [oP 47 (.bin .lss (.t 46) (.t 45))] [6,8,9,44,45,46,47])
(.seq (.cond (.t 47)
.skip
(.exit 0))
(.seq (.block 1
(.seq (.reg [oP 48 (.ixS 1 (.t 44) (.t 46)),
oP 49 (.load none (.t 48)),
mV 12 49] [6,8,9,12,44,45,46])
(.seq (.reg [mV 50 12,
oP 51 (.call (.f 61) [true,false] [(.t 9),(.t 50)]),
mV 52 12,
oP 53 (.call (.f 61) [true,false] [(.t 8),(.t 52)]),
mV 13 51,
mV 14 53] [6,8,9,12,13,14,44,45,46])
(.seq (.seq (.reg [mV 54 13,
oP 55 (.bin .geq (.t 54) (cI 0)),
mV 56 55,
gT 57 56 (.mv (.t 14)),
gT 58 56 (.bin .geq (.t 57) (cI 0)),
oP 59 (.pick (.t 56) (.t 58) (.c (.bool false)))] [6,8,9,12,13,14,44,45,46,59])
(.cond (.t 59)
(.seq (.dreg [oP 60 (.fieldAddr (some 1) 0 (.t 9)),
oP 61 (.fieldAddr none 0 (.t 60)),
oP 62 (.load none (.t 61)),
mV 63 13,
oP 64 (.ixS 7 (.t 62) (.t 63)),
oP 65 (.load (some 7) (.t 64)),
oP 66 (.fieldAddr (some 1) 0 (.t 8)),
oP 67 (.fieldAddr none 0 (.t 66)),
oP 68 (.load none (.t 67)),
mV 69 14,
oP 70 (.ixS 7 (.t 68) (.t 69)),
oP 71 (.load (some 7) (.t 70)),
oP 15 (.alloc [.str ByteArray.empty, .int .i64 0, .int .i64 0, .int .i64 0, .slice 1 [], .int .i64 0, .int .i64 0]),
oP 16 (.alloc [.str ByteArray.empty, .int .i64 0, .int .i64 0, .int .i64 0, .slice 1 [], .int .i64 0, .int .i64 0]),
oN (.store 7 (.t 15) (.t 65)),
oN (.store 7 (.t 16) (.t 71))] [6,8,9,12,15,16,44,45,46] [[],[0],[0,1],[],[0,1,2,3],[0,1,2,3,4],[],[6],[6,7],[],[6,7,8,9],[6,7,8,9,10],[],[],[0,1,2,3,4,5,12,13],[0,1,2,3,4,5,6,7,8,9,10,11,12,13,14]])
(.seq (.dreg [oP 72 (.load (some 7) (.t 15)),
oP 73 (.call (.f 81) [true] [(.t 72)]),
oP 74 (.load (some 7) (.t 16)),
oP 75 (.call (.f 81) [true] [(.t 74)]),
oP 76 (.eqa false [.s, .i, .i, .i, .i, .i] (.t 73) (.t 75)),
mV 77 76,
gT 78 77 (.fieldAddr none 4 (.t 15)),
gT 79 77 (.load none (.t 78)),
gT 80 77 (.fieldAddr none 4 (.t 16)),
gT 81 77 (.load none (.t 80)),
gT 82 77 (.call (.f 82) [true,true] [(.t 79),(.t 81)]),
oP 83 (.pick (.t 77) (.t 82) (.c (.bool false)))] [6,8,9,12,44,45,46,83] [[],[0],[],[0,1,2],[0,1,2,3],[0,1,2,3,4],[0,1,2,3,4,5],[0,1,2,3,4,5,6],[0,1,2,3,4,5],[0,1,2,3,4,5,8],[0,1,2,3,4,5,6,7,8,9],[0,1,2,3,4,5,6,7,8,9,10]])
(.cond (.t 83)
(.exit 1)
.skip)))
.skip))
(.reg [mV 84 6,
mV 85 12,
oP 86 (.lit 0 1 1 [(0,(.t 85))]),
oP 87 (.append 1 16 (.t 84) (.t 86)),
mV 6 87] [6,8,9,44,45,46])))))
(.reg [oP 88 (.bin .add (.t 46) (cI 1)),
mV 46 88] [6,8,9,44,45,46])))))))
(.seq (.reg [mV 89 6,
oP 6 (.mvd (.t 89)),
oP 7 (.mv (cI 0))] [6,7])
.ret)))))))))
abbrev Mo:RsT:=[(6,none),(7,none)]
theorem ML:SpF 90 BG Em Mo:=SpI Tryz.func35 (by kernel_rfl)
theorem uy:ak Tryz.prog BG = true:=by kernel_rfl
abbrev Ex:FuncId:=37
def Hw:AC:=
(.seq (.reg [oP 1 (.pbox 2 (.t 0)),
⟨some 2,none, .mv (.c (.str ⟨#[]⟩))⟩,
oP 3 (.mv (cI 0))] [1])
(.seq (.seq (.reg [oP 8 (.load (some 2) (.t 1)),
oP 9 (.call (.f 15) [true] [(.t 8)]),
mV 7 9,
oP 10 (.extract (.t 7) 0),
oP 11 (.extract (.t 7) 1),
oP 12 (.extract (.t 7) 2),
mV 4 10,
mV 5 11,
mV 6 12] [1,6])
(.seq (.reg [mV 13 6,
oP 14 (.bin .neq (.t 13) (cI 0))] [1,6,14])
(.cond (.t 14)
(.seq (.reg [mV 15 6,
⟨some 2,none, .mv (.c (.str ⟨#[]⟩))⟩,
mV 3 15] [2,3])
.ret)
.skip)))
(.seq (.reg [oP 16 (.load (some 2) (.t 1)),
oP 17 (.call (.f 83) [true] [(.t 16)]),
mV 2 17,
oP 3 (.mv (cI 0))] [2,3])
.ret)))
abbrev GO:RsT:=[(2,none),(3,none)]
theorem Ln:SpF 18 Ex Hw GO:=SpI Tryz.func37 (by kernel_rfl)
theorem zc:ak Tryz.prog Ex = true:=by kernel_rfl
abbrev AD:FuncId:=38
def Ax:AC:=
(.seq (.reg [oP 1 (.pbox 2 (.t 0)),
⟨some 2,none, .mv (.c (.str ⟨#[]⟩))⟩,
oP 3 (.mv (cI 0))] [1])
(.seq (.reg [oP 8 (.load (some 2) (.t 1)),
oP 9 (.call (.f 16) [true] [(.t 8)]),
mV 7 9,
oP 10 (.extract (.t 7) 0),
oP 11 (.extract (.t 7) 1),
oP 12 (.extract (.t 7) 2),
mV 4 10,
mV 5 11,
mV 6 12] [1,6])
(.seq (.seq (.reg [mV 13 6,
oP 14 (.bin .neq (.t 13) (cI 0))] [1,6,14])
(.cond (.t 14)
(.seq (.reg [mV 15 6,
⟨some 2,none, .mv (.c (.str ⟨#[]⟩))⟩,
mV 3 15] [2,3])
.ret)
.skip))
(.seq (.reg [oP 16 (.load (some 2) (.t 1)),
oP 17 (.call (.f 84) [true] [(.t 16)]),
mV 2 17,
oP 3 (.mv (cI 0))] [2,3])
.ret))))
abbrev NC:RsT:=[(2,none),(3,none)]
theorem Hb:SpF 18 AD Ax NC:=SpI Tryz.func38 (by kernel_rfl)
theorem EE:ak Tryz.prog AD = true:=by kernel_rfl
abbrev E9:FuncId:=39
def E5:AC:=
(.seq (.reg [oP 2 (.alloc [.mint 7, .mint 10]),
oP 3 (.alloc [.int .i64 0])] [0,2,3])
(.seq (.seq (.reg [mV 12 0,
oP 13 (.lenStr (.t 12)),
oP 14 (.bin .gtr (.t 13) (cI 6000))] [0,2,3,14])
(.cond (.t 14)
(.seq (.reg [oP 15 (.loadd (some 2) (.t 2)),
oN (.store 2 (.t 2) (.t 15)),
oN (.store 1 (.t 3) (cI 3))] [2,3])
.ret)
.skip))
(.seq (.dfr 16 85 [(.t 2),(.t 3)] [0,2,3])
(.seq (.seq (.reg [mV 17 0,
mV 4 17] [0,2,3,4])
(.block 0
(.loop [0,2,3,4]
(.seq (.seq (.reg [mV 18 4,
⟨some 19,none, .bin .neq (.t 18) (.c (.str ⟨#[]⟩))⟩] [0,2,3,4,19])
(.cond (.t 19)
.skip
(.exit 0)))
(.block 1
(.seq (.reg [mV 21 4,
⟨some 22,none, .call (.f 86) [false,false] [(.t 21),(.c (.str ⟨#[10]⟩))]⟩,
mV 20 22,
oP 23 (.extract (.t 20) 0),
oP 24 (.extract (.t 20) 1),
oP 25 (.extract (.t 20) 2),
mV 5 23,
mV 6 24,
mV 7 25] [0,2,3,5,6,7])
(.seq (.reg [mV 26 7,
oP 27 (.call (.f 87) [false] [(.t 26)])] [0,2,3,5,6])
(.seq (.reg [mV 28 6,
mV 4 28] [0,2,3,4,5])
(.seq (.reg [mV 29 5,
⟨some 30,none, .call (.f 88) [false,false] [(.t 29),(.c (.str ⟨#[32]⟩))]⟩,
oP 31 (.build [.slice 1 []] [(0,1,(.t 30))]),
oP 8 (.alloc [.slice 1 []]),
oN (.store 1 (.t 8) (.t 31))] [0,2,3,4,8])
(.seq (.reg [oP 32 (.fieldAddr none 0 (.t 8)),
oP 33 (.load none (.t 32)),
oP 34 (.ixS 1 (.t 33) (cI 0)),
oP 35 (.load none (.t 34)),
⟨some 36,none, .bin .eql (.t 35) (.c (.str ⟨#[112,97,114,116]⟩))⟩] [0,2,3,4,8,36])
(.cond (.t 36)
(.seq (.reg [oP 37 (.call (.f 89) [true] [(.t 8)])] [0,2,3,4,8])
(.creg [oP 38 (.fieldAddr (some 1) 0 (.t 2)),
oP 39 (.fieldAddr none 0 (.t 38)),
oP 40 (.load none (.t 39)),
oP 41 (.call (.f 90) [true] [(.t 8)]),
oP 42 (.lit 0 7 1 [(0,(.t 41))]),
oP 43 (.append 7 80 (.t 40) (.t 42)),
oP 44 (.fieldAddr (some 1) 0 (.t 2)),
oP 45 (.fieldAddr none 0 (.t 44)),
oN (.store 1 (.t 45) (.t 43))] [0,2,3,4] [[],[0],[0,1],[],[3],[0,1,2,3,4],[0,1,2,3,4,5],[0,1,2,3,4,5,6],[0,1,2,3,4,5,6,7]] [([0,1,2],3),([],4),([],5),([6,7],8)] []))
(.creg [oP 46 (.fieldAddr none 1 (.t 2)),
oP 47 (.load none (.t 46)),
oP 48 (.call (.f 91) [true] [(.t 8)]),
oP 49 (.lit 0 10 1 [(0,(.t 48))]),
oP 50 (.append 10 112 (.t 47) (.t 49)),
oP 51 (.fieldAddr none 1 (.t 2)),
oN (.store 1 (.t 51) (.t 50))] [0,2,3,4] [[],[0],[],[2],[0,1,2,3],[0,1,2,3,4],[0,1,2,3,4,5]] [([0,1],2),([],3),([],4),([5],6)] []))))))))))))
(.seq (.reg [oP 53 (.load (some 2) (.t 2)),
oP 54 (.call (.f 15) [true] [(.t 53)]),
mV 52 54,
oP 55 (.extract (.t 52) 0),
oP 56 (.extract (.t 52) 1),
oP 57 (.extract (.t 52) 2),
mV 9 55,
mV 10 56,
mV 11 57] [0,2,3,11])
(.seq (.reg [mV 58 11,
oP 59 (.bin .eql (.t 58) (cI 0)),
mV 60 59,
gT 61 60 (.load (some 2) (.t 2)),
gT 62 60 (.call (.f 83) [true] [(.t 61)]),
gT 63 60 (.mv (.t 0)),
gT 64 60 (.bin .eql (.t 62) (.t 63)),
oP 65 (.pick (.t 60) (.t 64) (.c (.bool false))),
oP 66 (.call (.f 87) [false] [(.t 65)])] [2,3])
(.seq (.reg [oP 67 (.loadd (some 2) (.t 2)),
oN (.store 2 (.t 2) (.t 67)),
oN (.store 1 (.t 3) (cI 0))] [2,3])
.ret)))))))
abbrev I7:RsT:=[(2,some (some 2)),(3,some none)]
theorem NK:wD Tryz.prog Tryz.f39 68 E5 I7 = true:=by kernel_rfl
theorem NX {args:List ab} {σ:ag} {R:eP → ag → Prop} (ha:args.length ≤ 68) (h:AW Tryz.prog 68 none E5 (we Tryz.prog I7 R) { v:=eC args 0,ds:=[] } σ):Spec Tryz.prog E9 args σ R:=Spec.Ia Tryz.func39 NK ha h
theorem Ab:ak Tryz.prog E9 = true:=by kernel_rfl
abbrev BL:FuncId:=40
def A2:AC:=
(.seq (.reg [oP 2 (.alloc [.slice 7 [], .slice 10 []]),
oP 3 (.mv (cI 0))] [0,2])
(.seq (.seq (.reg [mV 11 0,
oP 12 (.lenStr (.t 11)),
oP 13 (.bin .gtr (.t 12) (cI 6000))] [0,2,13])
(.cond (.t 13)
(.seq (.reg [oP 14 (.build [.slice 7 [], .slice 10 []] []),
oN (.store 2 (.t 2) (.t 14)),
oP 3 (.mv (cI 3))] [2,3])
.ret)
.skip))
(.seq (.reg [oP 4 (.alloc [.mint 7, .mint 10])] [0,2,4])
(.seq (.reg [mV 15 0,
oP 16 (.call (.f 92) [false,false] [(.t 15),(.c (.int .u8 10))]),
mV 5 16] [0,2,4,5])
(.seq (.seq (.reg [oP 6 (.mv (cI 0))] [0,2,4,5,6])
(.block 0
(.loop [0,2,4,5,6]
(.seq (.seq (.reg [mV 17 6,
oP 18 (.bin .add (.t 17) (cI 1)),
mV 19 5,
oP 20 (.len (.t 19)),
oP 21 (.bin .lss (.t 18) (.t 20))] [0,2,4,5,6,21])
(.cond (.t 21)
.skip
(.exit 0)))
(.seq (.block 1
(.seq (.reg [mV 24 5,
mV 25 6,
oP 26 (.ixS 1 (.t 24) (.t 25)),
oP 27 (.load none (.t 26)),
oP 28 (.call (.f 92) [false,false] [(.t 27),(.c (.int .u8 32))]),
mV 7 28] [0,2,4,5,6,7])
(.seq (.reg [mV 29 7,
oP 30 (.ixS 1 (.t 29) (cI 0)),
oP 31 (.load none (.t 30)),
⟨some 32,none, .bin .eql (.t 31) (.c (.str ⟨#[112,97,114,116]⟩))⟩] [0,2,4,5,6,7,32])
(.cond (.t 32)
(.creg [oP 33 (.fieldAddr (some 1) 0 (.t 4)),
oP 34 (.fieldAddr none 0 (.t 33)),
oP 35 (.load none (.t 34)),
mV 36 7,
oP 37 (.subq 1 (.t 36) (some (cI 1)) none),
oP 38 (.call (.f 93) [true] [(.t 37)]),
oP 39 (.lit 0 7 1 [(0,(.t 38))]),
oP 40 (.append 7 80 (.t 35) (.t 39)),
oP 41 (.fieldAddr (some 1) 0 (.t 4)),
oP 42 (.fieldAddr none 0 (.t 41)),
oN (.store 1 (.t 42) (.t 40))] [0,2,4,5,6] [[],[0],[0,1],[],[3],[3,4],[3,4,5],[0,1,2,3,4,5,6],[0,1,2,3,4,5,6,7],[0,1,2,3,4,5,6,7,8],[0,1,2,3,4,5,6,7,8,9]] [([0,1,2,3,4],5),([],6),([],7),([8,9],10)] [])
(.creg [oP 43 (.fieldAddr none 1 (.t 4)),
oP 44 (.load none (.t 43)),
mV 45 7,
oP 46 (.call (.f 94) [true] [(.t 45)]),
oP 47 (.lit 0 10 1 [(0,(.t 46))]),
oP 48 (.append 10 112 (.t 44) (.t 47)),
oP 49 (.fieldAddr none 1 (.t 4)),
oN (.store 1 (.t 49) (.t 48))] [0,2,4,5,6] [[],[0],[],[2],[2,3],[0,1,2,3,4],[0,1,2,3,4,5],[0,1,2,3,4,5,6]] [([0,1,2],3),([],4),([],5),([6],7)] [])))))
(.reg [mV 22 6,
oP 23 (.bin .add (.t 22) (cI 1)),
mV 6 23] [0,2,4,5,6]))))))
(.seq (.reg [oP 51 (.load (some 2) (.t 4)),
oP 52 (.call (.f 16) [true] [(.t 51)]),
mV 50 52,
oP 53 (.extract (.t 50) 0),
oP 54 (.extract (.t 50) 1),
oP 55 (.extract (.t 50) 2),
mV 8 53,
mV 9 54,
mV 10 55] [0,2,4,10])
(.seq (.seq (.reg [mV 56 10,
oP 57 (.bin .neq (.t 56) (cI 0)),
mV 58 57,
gF 59 58 (.load (some 2) (.t 4)),
gF 60 58 (.call (.f 84) [true] [(.t 59)]),
gF 61 58 (.mv (.t 0)),
gF 62 58 (.bin .neq (.t 60) (.t 61)),
oP 63 (.pick (.t 58) (.c (.bool true)) (.t 62))] [2,4,63])
(.cond (.t 63)
(.seq (.reg [oP 64 (.build [.slice 7 [], .slice 10 []] []),
oN (.store 2 (.t 2) (.t 64)),
oP 3 (.mv (cI 6))] [2,3])
.ret)
.skip))
(.seq (.reg [oP 65 (.loadd (some 2) (.t 4)),
oN (.store 2 (.t 2) (.t 65)),
oP 3 (.mv (cI 0))] [2,3])
.ret))))))))
abbrev ET:RsT:=[(2,some (some 2)),(3,none)]
theorem FC:SpF 66 BL A2 ET:=SpI Tryz.func40 (by kernel_rfl)
theorem Hg:ak Tryz.prog BL = true:=by kernel_rfl
abbrev HQ:FuncId:=41
def IN:AC:=
(.seq (.reg [oP 2 (.pbox 2 (.t 0)),
oP 3 (.pbox 2 (.t 1)),
oP 4 (.mv (.c (.bool false)))] [2,3])
(.seq (.reg [oP 9 (.fieldAddr (some 1) 0 (.t 2)),
oP 10 (.fieldAddr none 0 (.t 9)),
oP 11 (.load none (.t 10)),
oP 12 (.fieldAddr (some 1) 0 (.t 3)),
oP 13 (.fieldAddr none 0 (.t 12)),
oP 14 (.load none (.t 13)),
oP 15 (.call (.f 21) [true,true] [(.t 11),(.t 14)]),
mV 16 15,
gT 17 16 (.fieldAddr none 1 (.t 2)),
gT 18 16 (.load none (.t 17)),
gT 19 16 (.len (.t 18)),
gT 20 16 (.fieldAddr none 1 (.t 3)),
gT 21 16 (.load none (.t 20)),
gT 22 16 (.len (.t 21)),
gT 23 16 (.bin .eql (.t 19) (.t 22)),
oP 24 (.pick (.t 16) (.t 23) (.c (.bool false))),
mV 5 24] [2,3,5])
(.seq (.seq (.reg [oP 6 (.mv (cI 0))] [2,3,5,6])
(.block 0
(.loop [2,3,5,6]
(.seq (.seq (.reg [mV 25 6,
oP 26 (.fieldAddr none 1 (.t 2)),
oP 27 (.load none (.t 26)),
oP 28 (.len (.t 27)),
oP 29 (.bin .lss (.t 25) (.t 28)),
mV 30 29,
gT 31 30 (.mv (.t 5)),
oP 32 (.pick (.t 30) (.t 31) (.c (.bool false)))] [2,3,5,6,32])
(.cond (.t 32)
.skip
(.exit 0)))
(.seq (.block 1
(.seq (.dreg [oP 35 (.fieldAddr none 1 (.t 2)),
oP 36 (.load none (.t 35)),
mV 37 6,
oP 38 (.ixS 10 (.t 36) (.t 37)),
oP 39 (.load (some 10) (.t 38)),
oP 40 (.fieldAddr none 1 (.t 3)),
oP 41 (.load none (.t 40)),
mV 42 6,
oP 43 (.ixS 10 (.t 41) (.t 42)),
oP 44 (.load (some 10) (.t 43)),
oP 7 (.alloc [.int .i64 0, .int .i64 0, .str ByteArray.empty, .str ByteArray.empty, .int .i64 0, .int .i64 0, .int .i64 0, .slice 1 [], .int .i64 0, .int .i64 0]),
oP 8 (.alloc [.int .i64 0, .int .i64 0, .str ByteArray.empty, .str ByteArray.empty, .int .i64 0, .int .i64 0, .int .i64 0, .slice 1 [], .int .i64 0, .int .i64 0]),
oN (.store 10 (.t 7) (.t 39)),
oN (.store 10 (.t 8) (.t 44))] [2,3,6,7,8] [[],[0],[],[0,1,2],[0,1,2,3],[],[5],[],[5,6,7],[5,6,7,8],[],[],[0,1,2,3,4,10,11],[0,1,2,3,4,5,6,7,8,9,10,11,12]])
(.reg [oP 45 (.fieldAddr none 0 (.t 7)),
oP 46 (.load none (.t 45)),
oP 47 (.fieldAddr none 0 (.t 8)),
oP 48 (.load none (.t 47)),
oP 49 (.bin .eql (.t 46) (.t 48)),
mV 50 49,
gT 51 50 (.fieldAddr none 1 (.t 7)),
gT 52 50 (.load none (.t 51)),
gT 53 50 (.fieldAddr none 1 (.t 8)),
gT 54 50 (.load none (.t 53)),
gT 55 50 (.bin .eql (.t 52) (.t 54)),
oP 56 (.pick (.t 50) (.t 55) (.c (.bool false))),
mV 57 56,
gT 58 57 (.fieldAddr none 2 (.t 7)),
gT 59 57 (.load none (.t 58)),
gT 60 57 (.fieldAddr none 2 (.t 8)),
gT 61 57 (.load none (.t 60)),
gT 62 57 (.bin .eql (.t 59) (.t 61)),
oP 63 (.pick (.t 57) (.t 62) (.c (.bool false))),
mV 64 63,
gT 65 64 (.fieldAddr (some 7) 3 (.t 7)),
gT 66 64 (.load (some 7) (.t 65)),
gT 67 64 (.fieldAddr (some 7) 3 (.t 8)),
gT 68 64 (.load (some 7) (.t 67)),
gT 69 64 (.call (.f 51) [true,true] [(.t 66),(.t 68)]),
oP 70 (.pick (.t 64) (.t 69) (.c (.bool false))),
mV 5 70] [2,3,5,6])))
(.reg [mV 33 6,
oP 34 (.bin .add (.t 33) (cI 1)),
mV 6 34] [2,3,5,6]))))))
(.seq (.reg [mV 71 5,
mV 4 71] [4])
.ret))))
abbrev N8:RsT:=[(4,none)]
theorem Ng:SpF 72 HQ IN N8:=SpI Tryz.func41 (by kernel_rfl)
theorem GM:ak Tryz.prog HQ = true:=by kernel_rfl
abbrev GX:FuncId:=42
def KH:AC:=
(.seq (.reg [oP 2 (.alloc [.slice 7 [], .slice 10 []])] [0,2])
(.seq (.reg [oP 4 (.call (.f 44) [false,false] [(cI 100),(cI 200)]),
⟨some 5,none, .lit 0 1 1 [(0,(.c (.str ⟨#[116,97,110,107,49]⟩)))]⟩,
⟨some 6,none, .call (.f 69) [false,false,false,false,false,true] [(.c (.str ⟨#[112,105,112,101,49]⟩)),(cI 5),(cI 12),(cI 30),(.t 4),(.t 5)]⟩,
oP 7 (.build [.int .i64 0, .int .i64 0, .str ByteArray.empty, .str ByteArray.empty, .int .i64 0, .int .i64 0, .int .i64 0, .slice 1 [], .int .i64 0, .int .i64 0] [(0,1,(cI 1)),(1,1,(cI 100)),(3,7,(.t 6))]),
oP 8 (.call (.f 44) [false,false] [(cI 800),(cI 900)]),
⟨some 9,none, .lit 0 1 1 [(0,(.c (.str ⟨#[107,101,101,108]⟩)))]⟩,
⟨some 10,none, .call (.f 69) [false,false,false,false,false,true] [(.c (.str ⟨#[104,111,108,100,49]⟩)),(cI 1),(cI 10),(cI 29),(.t 8),(.t 9)]⟩,
⟨some 11,none, .build [.int .i64 0, .int .i64 0, .str ByteArray.empty, .str ByteArray.empty, .int .i64 0, .int .i64 0, .int .i64 0, .slice 1 [], .int .i64 0, .int .i64 0] [(0,1,(cI 3)),(1,1,(cI 200)),(2,1,(.c (.str ⟨#[116,97,110,107,49]⟩))),(3,7,(.t 10))]⟩,
oP 12 (.lit 0 10 2 [(0,(.t 7)),(1,(.t 11))]),
mV 3 12] [0,2,3])
(.seq (.dreg [oP 13 (.call (.f 44) [false,false] [(cI 9000),(cI 10000)]),
⟨some 14,none, .call (.f 69) [false,false,false,false,false,true] [(.c (.str ⟨#[107,101,101,108]⟩)),(cI 2),(cI 0),(cI 40),(.t 13),(.c (.slice 1 []))]⟩,
oP 15 (.call (.f 44) [false,false] [(cI 2000),(cI 2500)]),
⟨some 16,none, .lit 0 1 1 [(0,(.c (.str ⟨#[107,101,101,108]⟩)))]⟩,
⟨some 17,none, .call (.f 69) [false,false,false,false,false,true] [(.c (.str ⟨#[116,97,110,107,49]⟩)),(cI 4),(cI 10),(cI 19),(.t 15),(.t 16)]⟩,
oP 18 (.call (.f 44) [false,false] [(cI 3000),(cI 3000)]),
⟨some 19,none, .lit 0 1 2 [(0,(.c (.str ⟨#[116,97,110,107,49]⟩))),(1,(.c (.str ⟨#[107,101,101,108]⟩)))]⟩,
⟨some 20,none, .call (.f 69) [false,false,false,false,false,true] [(.c (.str ⟨#[100,101,99,107]⟩)),(cI 1),(cI 5),(cI 24),(.t 18),(.t 19)]⟩,
oP 21 (.lit 0 7 3 [(0,(.t 14)),(1,(.t 17)),(2,(.t 20))]),
oP 22 (.build [.slice 7 []] [(0,1,(.t 21))]),
mV 23 3,
mV 24 0,
oP 25 (.subq 10 (.t 23) none (some (.t 24))),
oP 26 (.build [.slice 7 [], .slice 10 []] [(0,1,(.t 22)),(1,1,(.t 25))]),
oN (.store 2 (.t 2) (.t 26))] [2] [[],[0],[0,1],[],[0,1,2,3],[0,1,2,3,4],[],[0,1,2,3,4,5,6],[0,1,2,3,4,5,6,7],[0,1,2,3,4,5,6,7,8],[],[],[10,11],[0,1,2,3,4,5,6,7,8,9,10,11,12],[0,1,2,3,4,5,6,7,8,9,10,11,12,13]])
.ret)))
abbrev LO:RsT:=[(2,some (some 2))]
theorem Mp:SpF 27 GX KH LO:=SpI Tryz.func42 (by kernel_rfl)
theorem kS:ak Tryz.prog GX = true:=by kernel_rfl
abbrev Hk:FuncId:=43
def Js:AC:=
(.seq (.reg [oP 0 (.mv (.c (.slice 2 [])))] [])
(.seq (.reg [oP 1 (.call (.f 42) [false] [(cI 2)]),
oP 2 (.call (.f 42) [false] [(cI 0)]),
oP 3 (.lit 0 2 2 [(0,(.t 1)),(1,(.t 2))]),
oP 0 (.mvd (.t 3))] [0])
.ret))
abbrev LP:RsT:=[(0,none)]
theorem MA:SpF 4 Hk Js LP:=SpI Tryz.func43 (by kernel_rfl)
theorem EF:ak Tryz.prog Hk = true:=by kernel_rfl
abbrev GY:FuncId:=44
def Jn:AC:=
(.seq (.reg [oP 4 (.alloc [.int .i64 0, .int .i64 0])] [0,1,4])
(.seq (.reg [mV 5 0,
mV 6 1,
oP 7 (.build [.int .i64 0, .int .i64 0] [(0,1,(.t 5)),(1,1,(.t 6))]),
oN (.store 2 (.t 4) (.t 7))] [4])
.ret))
abbrev Mx:RsT:=[(4,some (some 2))]
theorem MR:SpF 8 GY Jn Mx:=SpI Tryz.func44 (by kernel_rfl)
theorem oE:ak Tryz.prog GY = true:=by kernel_rfl
abbrev HB:FuncId:=45
def Hl:AC:=
(.seq (.reg [oP 6 (.mv (cI 0))] [0,1,2])
(.seq (.seq (.reg [mV 13 0,
oP 14 (.len (.t 13)),
oP 15 (.call (.f 54) [false,false,false] [(.t 14),(cI 1),(cI 6)]),
oP 16 (.un .not (.t 15))] [0,1,2,16])
(.cond (.t 16)
(.seq (.reg [oP 6 (.mv (cI 3))] [6])
.ret)
.skip))
(.seq (.seq (.reg [oP 7 (.mv (cI 0))] [0,1,2,7])
(.block 0
(.loop [0,1,2,7]
(.seq (.seq (.reg [mV 17 7,
mV 18 0,
oP 19 (.len (.t 18)),
oP 20 (.bin .lss (.t 17) (.t 19))] [0,1,2,7,20])
(.cond (.t 20)
.skip
(.exit 0)))
(.seq (.block 1
(.seq (.reg [mV 24 0,
mV 25 7,
oP 26 (.ixS 2 (.t 24) (.t 25)),
oP 27 (.load (some 2) (.t 26)),
oP 28 (.call (.f 16) [true] [(.t 27)]),
mV 23 28,
oP 29 (.extract (.t 23) 0),
oP 30 (.extract (.t 23) 1),
oP 31 (.extract (.t 23) 2),
mV 8 29,
mV 9 30,
mV 10 31] [0,1,2,7,10])
(.seq (.reg [mV 32 10,
oP 33 (.bin .neq (.t 32) (cI 0))] [0,1,2,7,10,33])
(.cond (.t 33)
(.seq (.reg [mV 34 10,
mV 6 34] [6])
.ret)
.skip))))
(.reg [mV 21 7,
oP 22 (.bin .add (.t 21) (cI 1)),
mV 7 22] [0,1,2,7]))))))
(.seq (.seq (.reg [mV 35 1,
oP 36 (.call (.f 54) [false,false,false] [(.t 35),(cI 0),(cI 40000)]),
oP 37 (.un .not (.t 36))] [2,37])
(.cond (.t 37)
(.seq (.reg [oP 6 (.mv (cI 7))] [6])
.ret)
.skip))
(.seq (.seq (.reg [mV 38 2,
oP 39 (.len (.t 38)),
oP 40 (.bin .gtr (.t 39) (cI 12))] [2,40])
(.cond (.t 40)
(.seq (.reg [oP 6 (.mv (cI 3))] [6])
.ret)
.skip))
(.seq (.seq (.reg [oP 11 (.mv (cI 0))] [2,11])
(.block 2
(.loop [2,11]
(.seq (.seq (.reg [mV 41 11,
mV 42 2,
oP 43 (.len (.t 42)),
oP 44 (.bin .lss (.t 41) (.t 43))] [2,11,44])
(.cond (.t 44)
.skip
(.exit 2)))
(.seq (.block 3
(.seq (.reg [mV 47 2,
mV 48 11,
oP 49 (.ixS 3 (.t 47) (.t 48)),
oP 50 (.load (some 3) (.t 49)),
oP 12 (.alloc [.str ByteArray.empty, .int .i64 0, .int .i64 0]),
oN (.store 3 (.t 12) (.t 50))] [2,11,12])
(.frz 12 true (.seq (.seq (.reg [oP 51 (.fieldAddr none 0 (.t 12)),
oP 52 (.load none (.t 51)),
oP 53 (.call (.f 18) [false] [(.t 52)]),
oP 54 (.un .not (.t 53))] [2,11,12,54])
(.cond (.t 54)
(.seq (.reg [oP 6 (.mv (cI 6))] [6])
.ret)
.skip))
(.seq (.reg [oP 55 (.fieldAddr none 1 (.t 12)),
oP 56 (.load none (.t 55)),
oP 57 (.call (.f 54) [false,false,false] [(.t 56),(cI 0),(cI 40)]),
oP 58 (.un .not (.t 57)),
mV 59 58,
gF 60 59 (.fieldAddr none 2 (.t 12)),
gF 61 59 (.load none (.t 60)),
gF 62 59 (.call (.f 54) [false,false,false] [(.t 61),(cI 0),(cI 5)]),
gF 63 59 (.un .not (.t 62)),
oP 64 (.pick (.t 59) (.c (.bool true)) (.t 63))] [2,11,64])
(.cond (.t 64)
(.seq (.reg [oP 6 (.mv (cI 7))] [6])
.ret)
.skip))))))
(.reg [mV 45 11,
oP 46 (.bin .add (.t 45) (cI 1)),
mV 11 46] [2,11]))))))
(.seq (.reg [oP 6 (.mv (cI 0))] [6])
.ret)))))))
abbrev Mn:RsT:=[(6,none)]
theorem M8:SpF 65 HB Hl Mn:=SpI Tryz.func45 (by kernel_rfl)
theorem Ct:ak Tryz.prog HB = true:=by kernel_rfl
abbrev BJ:FuncId:=46
def Cn:AC:=
(.seq (.reg [oP 6 (.pbox 2 (.t 2)),
oP 8 (.mv (.c (.slice 3 [])))] [0,1,3,6])
(.seq (.reg [oP 9 (.nilS 1 3)] [0,1,3,6,9])
(.seq (.seq (.reg [oP 10 (.mv (cI 0))] [0,1,3,6,9,10])
(.block 0
(.loop [0,1,3,6,9,10]
(.seq (.seq (.reg [mV 15 10,
mV 16 3,
oP 17 (.len (.t 16)),
oP 18 (.bin .lss (.t 15) (.t 17)),
mV 19 18,
gT 20 19 (.mv (.t 9)),
gT 21 19 (.len (.t 20)),
gT 22 19 (.bin .lss (.t 21) (cI 12)),
oP 23 (.pick (.t 19) (.t 22) (.c (.bool false)))] [0,1,3,6,9,10,23])
(.cond (.t 23)
.skip
(.exit 0)))
(.seq (.block 1
(.seq (.reg [mV 26 3,
mV 27 10,
oP 28 (.ixS 4 (.t 26) (.t 27)),
oP 29 (.load (some 4) (.t 28)),
oP 11 (.alloc [.int .u8 0, .int .u8 0, .str ByteArray.empty, .int .u8 0]),
oN (.store 4 (.t 11) (.t 29))] [0,1,3,6,9,10,11])
(.frz 11 true (.seq (.reg [oP 30 (.fieldAddr none 2 (.t 11)),
oP 31 (.load none (.t 30)),
mV 12 31] [0,1,3,6,9,10,11,12])
(.seq (.seq (.reg [mV 32 12,
oP 33 (.call (.f 18) [false] [(.t 32)]),
oP 34 (.un .not (.t 33))] [0,1,3,6,9,10,11,12,34])
(.cond (.t 34)
(.seq (.reg [mV 35 0,
oP 36 (.fieldAddr none 0 (.t 11)),
oP 37 (.load none (.t 36)),
oP 38 (.conv .i64 (.t 37)),
mV 39 0,
oP 40 (.len (.t 39)),
oP 41 (.bin .rem (.t 38) (.t 40)),
oP 42 (.ixS 2 (.t 35) (.t 41)),
oP 43 (.load (some 2) (.t 42)),
mV 44 1,
oP 45 (.call (.f 48) [true,false] [(.t 43),(.t 44)]),
mV 13 45] [0,1,3,6,9,10,11,13])
(.seq (.seq (.reg [mV 46 13,
oP 47 (.len (.t 46)),
oP 48 (.bin .eql (.t 47) (cI 0))] [0,1,3,6,9,10,11,13,48])
(.cond (.t 48)
(.exit 1)
.skip))
(.reg [mV 49 13,
oP 50 (.fieldAddr none 1 (.t 11)),
oP 51 (.load none (.t 50)),
oP 52 (.conv .i64 (.t 51)),
mV 53 13,
oP 54 (.len (.t 53)),
oP 55 (.bin .rem (.t 52) (.t 54)),
oP 56 (.ixS 7 (.t 49) (.t 55)),
oP 57 (.fieldAddr none 0 (.t 56)),
oP 58 (.load none (.t 57)),
mV 12 58] [0,1,3,6,9,10,11,12])))
.skip))
(.seq (.reg [oP 59 (.fieldAddr none 3 (.t 11)),
oP 60 (.load none (.t 59)),
oP 61 (.conv .i64 (.t 60)),
oP 62 (.bin .rem (.t 61) (cI 41)),
mV 14 62] [0,1,3,6,9,10,12,14])
(.reg [mV 63 9,
mV 64 12,
mV 65 14,
oP 66 (.load (some 2) (.t 6)),
mV 67 1,
oP 68 (.call (.f 48) [true,false] [(.t 66),(.t 67)]),
mV 69 12,
mV 70 14,
oP 71 (.call (.f 95) [true,false,false] [(.t 68),(.t 69),(.t 70)]),
oP 72 (.build [.str ByteArray.empty, .int .i64 0, .int .i64 0] [(0,1,(.t 64)),(1,1,(.t 65)),(2,1,(.t 71))]),
oP 73 (.lit 0 3 1 [(0,(.t 72))]),
oP 74 (.append 3 32 (.t 63) (.t 73)),
mV 9 74] [0,1,3,6,9,10])))))))
(.reg [mV 24 10,
oP 25 (.bin .add (.t 24) (cI 1)),
mV 10 25] [0,1,3,6,9,10]))))))
(.seq (.reg [mV 75 9,
oP 8 (.mvd (.t 75))] [8])
.ret))))
abbrev Ez:RsT:=[(8,none)]
theorem Dw:SpF 76 BJ Cn Ez:=SpI Tryz.func46 (by kernel_rfl)
theorem Aw:ak Tryz.prog BJ = true:=by kernel_rfl
abbrev Ak:FuncId:=47
def B3:AC:=
(.seq (.reg [oP 4 (.mv (.c (.bool false)))] [0,1])
(.seq (.seq (.reg [oP 5 (.mv (cI 0))] [0,1,5])
(.block 0
(.loop [0,1,5]
(.seq (.seq (.reg [mV 6 5,
mV 7 0,
oP 8 (.len (.t 7)),
oP 9 (.bin .lss (.t 6) (.t 8))] [0,1,5,9])
(.cond (.t 9)
.skip
(.exit 0)))
(.seq (.block 1
(.seq (.reg [mV 12 0,
mV 13 5,
oP 14 (.ixS 1 (.t 12) (.t 13)),
oP 15 (.load none (.t 14)),
mV 16 1,
oP 17 (.bin .eql (.t 15) (.t 16))] [0,1,5,17])
(.cond (.t 17)
(.seq (.reg [oP 4 (.mv (.c (.bool true)))] [4])
.ret)
.skip)))
(.reg [mV 10 5,
oP 11 (.bin .add (.t 10) (cI 1)),
mV 5 11] [0,1,5]))))))
(.seq (.reg [oP 4 (.mv (.c (.bool false)))] [4])
.ret)))
abbrev Dn:RsT:=[(4,none)]
theorem Ft:SpF 18 Ak B3 Dn:=SpI Tryz.func47 (by kernel_rfl)
theorem zT:ak Tryz.prog Ak = true:=by kernel_rfl
abbrev Ek:FuncId:=48
def KY:AC:=
(.seq (.reg [oP 2 (.pbox 2 (.t 0)),
oP 4 (.mv (.c (.slice 7 [])))] [1,2])
(.seq (.reg [oP 7 (.fieldAddr (some 1) 0 (.t 2)),
oP 8 (.fieldAddr none 0 (.t 7)),
oP 9 (.load none (.t 8)),
mV 5 9] [1,2,5])
(.seq (.seq (.reg [oP 6 (.mv (cI 0))] [1,2,5,6])
(.block 0
(.loop [1,2,5,6]
(.seq (.seq (.reg [mV 10 6,
oP 11 (.fieldAddr none 1 (.t 2)),
oP 12 (.load none (.t 11)),
oP 13 (.len (.t 12)),
oP 14 (.bin .lss (.t 10) (.t 13))] [1,2,5,6,14])
(.cond (.t 14)
.skip
(.exit 0)))
(.seq (.block 1
(.seq (.reg [oP 17 (.fieldAddr none 1 (.t 2)),
oP 18 (.load none (.t 17)),
mV 19 6,
oP 20 (.ixS 10 (.t 18) (.t 19)),
oP 21 (.fieldAddr none 1 (.t 20)),
oP 22 (.load none (.t 21)),
mV 23 1,
oP 24 (.bin .leq (.t 22) (.t 23))] [1,2,5,6,24])
(.cond (.t 24)
(.reg [mV 26 5,
oP 27 (.fieldAddr none 1 (.t 2)),
oP 28 (.load none (.t 27)),
mV 29 6,
oP 30 (.ixS 10 (.t 28) (.t 29)),
oP 31 (.load (some 10) (.t 30)),
oP 32 (.call (.f 56) [true,true] [(.t 26),(.t 31)]),
mV 25 32,
oP 33 (.extract (.t 25) 0),
oP 34 (.extract (.t 25) 1),
mV 5 33] [1,2,5,6])
.skip)))
(.reg [mV 15 6,
oP 16 (.bin .add (.t 15) (cI 1)),
mV 6 16] [1,2,5,6]))))))
(.seq (.reg [mV 35 5,
oP 4 (.mvd (.t 35))] [4])
.ret))))
abbrev LA:RsT:=[(4,none)]
theorem MT:SpF 36 Ek KY LA:=SpI Tryz.func48 (by kernel_rfl)
theorem p0:ak Tryz.prog Ek = true:=by kernel_rfl
abbrev GW:FuncId:=49
def IF:AC:=
(.seq (.reg [oP 4 (.mv (cI 0))] [0,1])
(.seq (.seq (.reg [oP 5 (.mv (cI 0))] [0,1,5])
(.block 0
(.loop [0,1,5]
(.seq (.seq (.reg [mV 6 5,
mV 7 0,
oP 8 (.len (.t 7)),
oP 9 (.bin .lss (.t 6) (.t 8))] [0,1,5,9])
(.cond (.t 9)
.skip
(.exit 0)))
(.seq (.block 1
(.seq (.reg [mV 12 0,
mV 13 5,
oP 14 (.ixS 1 (.t 12) (.t 13)),
oP 15 (.load none (.t 14)),
mV 16 1,
oP 17 (.bin .eql (.t 15) (.t 16))] [0,1,5,17])
(.cond (.t 17)
(.seq (.reg [mV 18 5,
mV 4 18] [4])
.ret)
.skip)))
(.reg [mV 10 5,
oP 11 (.bin .add (.t 10) (cI 1)),
mV 5 11] [0,1,5]))))))
(.seq (.reg [oP 4 (.mv (cI (-1)))] [4])
.ret)))
abbrev Oh:RsT:=[(4,none)]
theorem NM:SpF 19 GW IF Oh:=SpI Tryz.func49 (by kernel_rfl)
theorem wF:ak Tryz.prog GW = true:=by kernel_rfl
abbrev Hs:FuncId:=51
def xV:AC:=
(.seq (.reg [oP 2 (.pbox 7 (.t 0)),
oP 3 (.pbox 7 (.t 1)),
oP 4 (.mv (.c (.bool false)))] [2,3])
(.seq (.reg [oP 5 (.fieldAddr none 0 (.t 2)),
oP 6 (.load none (.t 5)),
oP 7 (.fieldAddr none 0 (.t 3)),
oP 8 (.load none (.t 7)),
oP 9 (.bin .eql (.t 6) (.t 8)),
mV 10 9,
gT 11 10 (.fieldAddr none 1 (.t 2)),
gT 12 10 (.load none (.t 11)),
gT 13 10 (.fieldAddr none 1 (.t 3)),
gT 14 10 (.load none (.t 13)),
gT 15 10 (.bin .eql (.t 12) (.t 14)),
oP 16 (.pick (.t 10) (.t 15) (.c (.bool false))),
mV 17 16,
gT 18 17 (.fieldAddr none 2 (.t 2)),
gT 19 17 (.load none (.t 18)),
gT 20 17 (.fieldAddr none 2 (.t 3)),
gT 21 17 (.load none (.t 20)),
gT 22 17 (.bin .eql (.t 19) (.t 21)),
oP 23 (.pick (.t 17) (.t 22) (.c (.bool false))),
mV 24 23,
gT 25 24 (.fieldAddr none 3 (.t 2)),
gT 26 24 (.load none (.t 25)),
gT 27 24 (.fieldAddr none 3 (.t 3)),
gT 28 24 (.load none (.t 27)),
gT 29 24 (.bin .eql (.t 26) (.t 28)),
oP 30 (.pick (.t 24) (.t 29) (.c (.bool false))),
mV 31 30,
gT 32 31 (.fieldAddr (some 2) 5 (.t 2)),
gT 33 31 (.load (some 2) (.t 32)),
gT 34 31 (.fieldAddr (some 2) 5 (.t 3)),
gT 35 31 (.load (some 2) (.t 34)),
gT 36 31 (.eqa false [.i, .i] (.t 33) (.t 35)),
oP 37 (.pick (.t 31) (.t 36) (.c (.bool false))),
mV 38 37,
gT 39 38 (.fieldAddr none 4 (.t 2)),
gT 40 38 (.load none (.t 39)),
gT 41 38 (.fieldAddr none 4 (.t 3)),
gT 42 38 (.load none (.t 41)),
gT 43 38 (.call (.f 26) [true,true] [(.t 40),(.t 42)]),
oP 44 (.pick (.t 38) (.t 43) (.c (.bool false))),
mV 4 44] [4])
.ret))
abbrev NF:RsT:=[(4,none)]
theorem Li:SpF 45 Hs xV NF:=SpI Tryz.func51 (by kernel_rfl)
theorem Du:ak Tryz.prog Hs = true:=by kernel_rfl
abbrev Ep:FuncId:=52
def Km:AC:=
(.seq (.reg [oP 2 (.pbox 2 (.t 0)),
oP 4 (.alloc [.slice 7 []]),
oP 5 (.mv (cI 0)),
oP 6 (.mv (cI 0)),
oP 7 (.mv (cI 0))] [1,2,4])
(.seq (.reg [oP 17 (.fieldAddr (some 1) 0 (.t 2)),
oP 18 (.load (some 1) (.t 17)),
oP 19 (.build [.slice 7 []] [(0,1,(.t 18))]),
oP 8 (.alloc [.slice 7 []]),
oN (.store 1 (.t 8) (.t 19))] [1,2,4,8])
(.seq (.seq (.reg [oP 20 (.fieldAddr (some 1) 0 (.t 8)),
oP 21 (.fieldAddr none 0 (.t 20)),
oP 22 (.load none (.t 21)),
oP 23 (.len (.t 22)),
oP 24 (.bin .gtr (.t 23) (cI 12))] [1,2,4,8,24])
(.cond (.t 24)
(.seq (.reg [oP 25 (.loadd (some 1) (.t 4)),
oN (.store 1 (.t 4) (.t 25)),
oP 5 (.mv (cI 1)),
oP 6 (.mv (cI 0)),
oP 7 (.mv (cI 3))] [4,5,6,7])
.ret)
.skip))
(.seq (.seq (.reg [oP 26 (.fieldAddr (some 1) 0 (.t 8)),
oP 27 (.fieldAddr none 0 (.t 26)),
oP 28 (.load none (.t 27)),
oP 29 (.len (.t 28)),
oP 30 (.mv (cI 0))] [1,2,4,8,28,29,30])
(.block 0
(.loop [1,2,4,8,28,29,30]
(.seq (.reg [oP 31 (.bin .lss (.t 30) (.t 29))] [1,2,4,8,28,29,30,31])
(.seq (.cond (.t 31)
.skip
(.exit 0))
(.seq (.block 1
(.seq (.reg [mV 32 30,
oP 33 (.ixS 7 (.t 28) (.t 30)),
oP 34 (.load (some 7) (.t 33)),
oP 10 (.alloc [.str ByteArray.empty, .int .i64 0, .int .i64 0, .int .i64 0, .slice 1 [], .int .i64 0, .int .i64 0]),
mV 9 32,
oN (.store 7 (.t 10) (.t 34))] [1,2,4,8,9,10,28,29,30])
(.frz 10 true (.seq (.reg [oP 35 (.load (some 7) (.t 10)),
mV 36 9,
oP 37 (.call (.f 96) [true,true,false,true] [(.t 8),(.t 35),(.t 36),(.c (.slice 7 []))]),
mV 7 37] [1,2,4,7,8,9,28,29,30])
(.seq (.reg [mV 38 7,
oP 39 (.bin .neq (.t 38) (cI 0))] [1,2,4,7,8,9,28,29,30,39])
(.cond (.t 39)
(.seq (.reg [oP 40 (.loadd (some 1) (.t 4)),
mV 41 9,
mV 42 7,
oN (.store 1 (.t 4) (.t 40)),
oP 5 (.mv (cI 1)),
mV 6 41,
mV 7 42] [4,5,6,7])
.ret)
.skip))))))
(.reg [oP 43 (.bin .add (.t 30) (cI 1)),
mV 30 43] [1,2,4,8,28,29,30])))))))
(.seq (.seq (.reg [oP 44 (.fieldAddr none 1 (.t 2)),
oP 45 (.load none (.t 44)),
oP 46 (.len (.t 45)),
oP 47 (.bin .gtr (.t 46) (cI 8))] [1,2,4,8,47])
(.cond (.t 47)
(.seq (.reg [oP 48 (.loadd (some 1) (.t 4)),
oN (.store 1 (.t 4) (.t 48)),
oP 5 (.mv (cI 2)),
oP 6 (.mv (cI 0)),
oP 7 (.mv (cI 3))] [4,5,6,7])
.ret)
.skip))
(.seq (.reg [oP 49 (.call (.f 97) [] []),
oP 11 (.mv (cI 0)),
mV 12 49] [1,2,4,8,11,12])
(.seq (.reg [oP 50 (.loadd (some 1) (.t 8)),
oN (.store 1 (.t 4) (.t 50))] [1,2,4,8,11,12])
(.seq (.seq (.reg [oP 51 (.fieldAddr none 1 (.t 2)),
oP 52 (.load none (.t 51)),
oP 53 (.len (.t 52)),
oP 54 (.mv (cI 0))] [1,4,8,11,12,52,53,54])
(.block 2
(.loop [1,4,8,11,12,52,53,54]
(.seq (.reg [oP 55 (.bin .lss (.t 54) (.t 53))] [1,4,8,11,12,52,53,54,55])
(.seq (.cond (.t 55)
.skip
(.exit 2))
(.seq (.block 3
(.seq (.reg [mV 56 54,
oP 57 (.ixS 10 (.t 52) (.t 54)),
oP 58 (.load (some 10) (.t 57)),
oP 14 (.alloc [.int .i64 0, .int .i64 0, .str ByteArray.empty, .str ByteArray.empty, .int .i64 0, .int .i64 0, .int .i64 0, .slice 1 [], .int .i64 0, .int .i64 0]),
mV 13 56,
oN (.store 10 (.t 14) (.t 58))] [1,4,8,11,12,13,14,52,53,54])
(.frz 14 true (.seq (.reg [mV 60 12,
oP 61 (.fieldAddr none 0 (.t 14)),
oP 62 (.load none (.t 61)),
oP 63 (.mget true .i (.agg [.nilfunc, .nilfunc]) (.t 60) (.t 62)),
mV 59 63,
oP 64 (.extract (.t 59) 0),
oP 65 (.extract (.t 59) 1),
oP 15 (.alloc [.nilfunc, .nilfunc]),
oN (.store 2 (.t 15) (.t 64)),
mV 16 65] [1,4,8,11,12,13,14,15,16,52,53,54])
(.frz 15 true (.seq (.block 4
(.seq (.reg [mV 67 11,
oP 68 (.fieldAddr none 1 (.t 14)),
oP 69 (.load none (.t 68)),
oP 70 (.lit 0 1 1 [(0,(.t 69))]),
oP 71 (.call (.f 60) [false,false,true] [(.t 67),(cI 40000),(.t 70)]),
mV 66 71] [1,4,8,12,13,14,15,16,52,53,54,66])
(.cond (.t 66)
(.seq (.reg [oP 72 (.loadd (some 1) (.t 4)),
mV 73 13,
oN (.store 1 (.t 4) (.t 72)),
oP 5 (.mv (cI 2)),
mV 6 73,
oP 7 (.mv (cI 7))] [4,5,6,7])
.ret)
(.seq (.reg [mV 75 16,
oP 76 (.un .not (.t 75)),
mV 77 76,
gF 78 77 (.fieldAddr none 0 (.t 15)),
gF 79 77 (.load none (.t 78)),
gF 80 77 (.load (some 10) (.t 14)),
gF 81 77 (.call (.t 79) [true] [(.t 80)]),
gF 82 77 (.un .not (.t 81)),
oP 83 (.pick (.t 77) (.c (.bool true)) (.t 82)),
mV 74 83] [1,4,8,12,13,14,15,52,53,54,74])
(.cond (.t 74)
(.seq (.reg [oP 84 (.loadd (some 1) (.t 4)),
mV 85 13,
oN (.store 1 (.t 4) (.t 84)),
oP 5 (.mv (cI 2)),
mV 6 85,
oP 7 (.mv (cI 6))] [4,5,6,7])
.ret)
.skip)))))
(.seq (.seq (.reg [oP 86 (.fieldAddr none 1 (.t 15)),
oP 87 (.load none (.t 86)),
oP 88 (.load (some 10) (.t 14)),
oP 89 (.call (.t 87) [false,true] [(.t 8),(.t 88)]),
mV 7 89] [1,4,7,8,12,13,14,52,53,54])
(.seq (.reg [mV 90 7,
oP 91 (.bin .neq (.t 90) (cI 0))] [1,4,7,8,12,13,14,52,53,54,91])
(.cond (.t 91)
(.seq (.reg [oP 92 (.loadd (some 1) (.t 4)),
mV 93 13,
mV 94 7,
oN (.store 1 (.t 4) (.t 92)),
oP 5 (.mv (cI 2)),
mV 6 93,
mV 7 94] [4,5,6,7])
.ret)
.skip)))
(.seq (.reg [oP 95 (.fieldAddr none 1 (.t 14)),
oP 96 (.load none (.t 95)),
mV 11 96] [1,4,8,11,12,52,53,54])
(.seq (.reg [mV 97 11,
mV 98 1,
oP 99 (.bin .leq (.t 97) (.t 98))] [1,4,8,11,12,52,53,54,99])
(.cond (.t 99)
(.reg [oP 100 (.loadd (some 1) (.t 8)),
oN (.store 1 (.t 4) (.t 100))] [1,4,8,11,12,52,53,54])
.skip))))))))))
(.reg [oP 101 (.bin .add (.t 54) (cI 1)),
mV 54 101] [1,4,8,11,12,52,53,54])))))))
(.seq (.reg [oP 102 (.loadd (some 1) (.t 4)),
oN (.store 1 (.t 4) (.t 102)),
oP 5 (.mv (cI 0)),
oP 6 (.mv (cI 0)),
oP 7 (.mv (cI 0))] [4,5,6,7])
.ret)))))))))
abbrev Oa:RsT:=[(4,some (some 1)),(5,none),(6,none),(7,none)]
theorem No:SpF 103 Ep Km Oa:=SpI Tryz.func52 (by kernel_rfl)
theorem BY:ak Tryz.prog Ep = true:=by kernel_rfl
abbrev HD:FuncId:=53
def Ij:AC:=
(.seq (.reg [oP 3 (.pbox 7 (.t 0)),
oP 6 (.mv (cI 0))] [1,2,3])
(.seq (.seq (.reg [oP 11 (.fieldAddr none 0 (.t 3)),
oP 12 (.load none (.t 11)),
oP 13 (.call (.f 18) [false] [(.t 12)]),
oP 14 (.un .not (.t 13))] [1,2,3,14])
(.cond (.t 14)
(.seq (.reg [oP 6 (.mv (cI 6))] [6])
.ret)
.skip))
(.seq (.seq (.reg [mV 15 2,
oP 16 (.fieldAddr none 0 (.t 3)),
oP 17 (.load none (.t 16)),
oP 18 (.call (.f 66) [true,false] [(.t 15),(.t 17)]),
oP 19 (.bin .geq (.t 18) (cI 0))] [1,3,19])
(.cond (.t 19)
(.seq (.reg [oP 6 (.mv (cI 5))] [6])
.ret)
.skip))
(.seq (.reg [oP 20 (.fieldAddr (some 2) 5 (.t 3)),
oP 21 (.load (some 2) (.t 20)),
oP 22 (.call (.f 98) [false,false,false] [(.t 21),(cI 1),(cI 1000000)]),
mV 7 22] [1,3,7])
(.seq (.seq (.reg [oP 23 (.fieldAddr none 1 (.t 3)),
oP 24 (.load none (.t 23)),
oP 25 (.call (.f 54) [false,false,false] [(.t 24),(cI 1),(cI 5)]),
oP 26 (.un .not (.t 25)),
mV 27 26,
gF 28 27 (.fieldAddr none 2 (.t 3)),
gF 29 27 (.load none (.t 28)),
gF 30 27 (.call (.f 54) [false,false,false] [(.t 29),(cI 0),(cI 40)]),
gF 31 27 (.un .not (.t 30)),
oP 32 (.pick (.t 27) (.c (.bool true)) (.t 31)),
mV 33 32,
gF 34 33 (.fieldAddr none 3 (.t 3)),
gF 35 33 (.load none (.t 34)),
gF 36 33 (.call (.f 54) [false,false,false] [(.t 35),(cI 0),(cI 40)]),
gF 37 33 (.un .not (.t 36)),
oP 38 (.pick (.t 33) (.c (.bool true)) (.t 37)),
mV 39 38,
gF 40 39 (.mv (.t 7)),
gF 41 39 (.bin .eql (.t 40) (cI 7)),
oP 42 (.pick (.t 39) (.c (.bool true)) (.t 41))] [1,3,7,42])
(.cond (.t 42)
(.seq (.reg [oP 6 (.mv (cI 7))] [6])
.ret)
.skip))
(.seq (.seq (.reg [oP 43 (.fieldAddr none 2 (.t 3)),
oP 44 (.load none (.t 43)),
oP 45 (.fieldAddr none 3 (.t 3)),
oP 46 (.load none (.t 45)),
oP 47 (.bin .gtr (.t 44) (.t 46)),
mV 48 47,
gF 49 48 (.mv (.t 7)),
gF 50 48 (.bin .neq (.t 49) (cI 0)),
oP 51 (.pick (.t 48) (.c (.bool true)) (.t 50))] [1,3,51])
(.cond (.t 51)
(.seq (.reg [oP 6 (.mv (cI 2))] [6])
.ret)
.skip))
(.seq (.seq (.reg [oP 8 (.mv (cI 0))] [1,3,8])
(.block 0
(.loop [1,3,8]
(.seq (.seq (.reg [mV 52 8,
oP 53 (.fieldAddr none 4 (.t 3)),
oP 54 (.load none (.t 53)),
oP 55 (.len (.t 54)),
oP 56 (.bin .lss (.t 52) (.t 55))] [1,3,8,56])
(.cond (.t 56)
.skip
(.exit 0)))
(.seq (.block 1
(.seq (.reg [mV 59 1,
oP 60 (.fieldAddr none 4 (.t 3)),
oP 61 (.load none (.t 60)),
mV 62 8,
oP 63 (.ixS 1 (.t 61) (.t 62)),
oP 64 (.load none (.t 63)),
oP 65 (.call (.f 66) [true,false] [(.t 59),(.t 64)]),
oP 66 (.bin .lss (.t 65) (cI 0))] [1,3,8,66])
(.cond (.t 66)
(.seq (.reg [oP 6 (.mv (cI 4))] [6])
.ret)
.skip)))
(.reg [mV 57 8,
oP 58 (.bin .add (.t 57) (cI 1)),
mV 8 58] [1,3,8]))))))
(.seq (.seq (.reg [oP 9 (.mv (cI 0))] [1,3,9])
(.block 2
(.loop [1,3,9]
(.seq (.seq (.reg [mV 67 9,
oP 68 (.fieldAddr none 4 (.t 3)),
oP 69 (.load none (.t 68)),
oP 70 (.len (.t 69)),
oP 71 (.bin .lss (.t 67) (.t 70))] [1,3,9,71])
(.cond (.t 71)
.skip
(.exit 2)))
(.seq (.block 3
(.seq (.dreg [oP 74 (.fieldAddr none 4 (.t 3)),
oP 75 (.load none (.t 74)),
mV 76 9,
oP 77 (.subq 1 (.t 75) none (some (.t 76))),
oP 78 (.fieldAddr none 4 (.t 3)),
oP 79 (.load none (.t 78)),
mV 80 9,
oP 81 (.ixS 1 (.t 79) (.t 80)),
oP 82 (.load none (.t 81)),
oP 83 (.call (.f 49) [true,false] [(.t 77),(.t 82)]),
oP 84 (.bin .geq (.t 83) (cI 0))] [1,3,9,84] [[],[0],[],[0,1,2],[],[4],[],[4,5,6],[4,5,6,7],[0,1,2,3,4,5,6,7,8],[0,1,2,3,4,5,6,7,8,9]])
(.cond (.t 84)
(.seq (.reg [oP 6 (.mv (cI 5))] [6])
.ret)
.skip)))
(.reg [mV 72 9,
oP 73 (.bin .add (.t 72) (cI 1)),
mV 9 73] [1,3,9]))))))
(.seq (.seq (.reg [oP 10 (.mv (cI 0))] [1,3,10])
(.block 4
(.loop [1,3,10]
(.seq (.seq (.reg [mV 85 10,
oP 86 (.fieldAddr none 4 (.t 3)),
oP 87 (.load none (.t 86)),
oP 88 (.len (.t 87)),
oP 89 (.bin .lss (.t 85) (.t 88))] [1,3,10,89])
(.cond (.t 89)
.skip
(.exit 4)))
(.seq (.block 5
(.seq (.dreg [oP 92 (.load (some 7) (.t 3)),
mV 93 1,
mV 94 1,
oP 95 (.fieldAddr none 4 (.t 3)),
oP 96 (.load none (.t 95)),
mV 97 10,
oP 98 (.ixS 1 (.t 96) (.t 97)),
oP 99 (.load none (.t 98)),
oP 100 (.call (.f 66) [true,false] [(.t 94),(.t 99)]),
oP 101 (.ixS 7 (.t 93) (.t 100)),
oP 102 (.load (some 7) (.t 101)),
oP 103 (.call (.f 99) [true,true] [(.t 92),(.t 102)]),
oP 104 (.un .not (.t 103))] [1,3,10,104] [[],[],[],[],[3],[],[3,4,5],[3,4,5,6],[2,3,4,5,6,7],[1,2,3,4,5,6,7,8],[1,2,3,4,5,6,7,8,9],[0,1,2,3,4,5,6,7,8,9,10],[0,1,2,3,4,5,6,7,8,9,10,11]])
(.cond (.t 104)
(.seq (.reg [oP 6 (.mv (cI 9))] [6])
.ret)
.skip)))
(.reg [mV 90 10,
oP 91 (.bin .add (.t 90) (cI 1)),
mV 10 91] [1,3,10]))))))
(.seq (.reg [oP 6 (.mv (cI 0))] [6])
.ret))))))))))
abbrev Lm:RsT:=[(6,none)]
theorem NB:SpF 105 HD Ij Lm:=SpI Tryz.func53 (by kernel_rfl)
theorem EO:ak Tryz.prog HD = true:=by kernel_rfl
abbrev Hp:FuncId:=54
def JZ:AC:=
(.seq (.reg [oP 6 (.mv (.c (.bool false)))] [0,1,2])
(.seq (.reg [mV 7 1,
mV 8 0,
oP 9 (.bin .leq (.t 7) (.t 8)),
mV 10 9,
gT 11 10 (.mv (.t 0)),
gT 12 10 (.mv (.t 2)),
gT 13 10 (.bin .leq (.t 11) (.t 12)),
oP 14 (.pick (.t 10) (.t 13) (.c (.bool false))),
mV 6 14] [6])
.ret))
abbrev Lx:RsT:=[(6,none)]
theorem L7:SpF 15 Hp JZ Lx:=SpI Tryz.func54 (by kernel_rfl)
theorem eQ:ak Tryz.prog Hp = true:=by kernel_rfl
abbrev GF:FuncId:=55
def IS:AC:=
(.seq (.reg [oP 1 (.pbox 10 (.t 0)),
oP 2 (.mv (.c (.bool false)))] [1])
(.seq (.reg [oP 5 (.fieldAddr (some 7) 3 (.t 1)),
oP 6 (.load (some 7) (.t 5)),
oP 3 (.alloc [.str ByteArray.empty, .int .i64 0, .int .i64 0, .int .i64 0, .slice 1 [], .int .i64 0, .int .i64 0]),
oN (.store 7 (.t 3) (.t 6))] [1,3])
(.frz 3 true (.seq (.reg [oP 7 (.fieldAddr none 0 (.t 3)),
oP 8 (.load none (.t 7)),
⟨some 9,none, .bin .eql (.t 8) (.c (.str ⟨#[]⟩))⟩,
mV 10 9,
gT 11 10 (.fieldAddr none 1 (.t 3)),
gT 12 10 (.load none (.t 11)),
gT 13 10 (.bin .eql (.t 12) (cI 0)),
oP 14 (.pick (.t 10) (.t 13) (.c (.bool false))),
mV 15 14,
gT 16 15 (.fieldAddr none 2 (.t 3)),
gT 17 15 (.load none (.t 16)),
gT 18 15 (.bin .eql (.t 17) (cI 0)),
oP 19 (.pick (.t 15) (.t 18) (.c (.bool false))),
mV 20 19,
gT 21 20 (.fieldAddr none 3 (.t 3)),
gT 22 20 (.load none (.t 21)),
gT 23 20 (.bin .eql (.t 22) (cI 0)),
oP 24 (.pick (.t 20) (.t 23) (.c (.bool false))),
mV 25 24,
gT 26 25 (.fieldAddr none 4 (.t 3)),
gT 27 25 (.load none (.t 26)),
gT 28 25 (.len (.t 27)),
gT 29 25 (.bin .eql (.t 28) (cI 0)),
oP 30 (.pick (.t 25) (.t 29) (.c (.bool false))),
mV 31 30,
gT 32 31 (.fieldAddr (some 2) 5 (.t 3)),
gT 33 31 (.load (some 2) (.t 32)),
gT 34 31 (.build [.int .i64 0, .int .i64 0] []),
gT 35 31 (.eqa false [.i, .i] (.t 33) (.t 34)),
oP 36 (.pick (.t 31) (.t 35) (.c (.bool false))),
mV 4 36] [1,4])
(.seq (.reg [oP 37 (.fieldAddr none 0 (.t 1)),
oP 38 (.load none (.t 37)),
oP 39 (.bin .eql (.t 38) (cI 1)),
mV 40 39,
gT 41 40 (.fieldAddr none 2 (.t 1)),
gT 42 40 (.load none (.t 41)),
⟨some 43,(some (40,true)), .bin .eql (.t 42) (.c (.str ⟨#[]⟩))⟩,
oP 44 (.pick (.t 40) (.t 43) (.c (.bool false))),
mV 45 44,
gF 46 45 (.fieldAddr none 0 (.t 1)),
gF 47 45 (.load none (.t 46)),
gF 48 45 (.bin .eql (.t 47) (cI 2)),
gF 49 45 (.mv (.t 48)),
gT 50 49 (.mv (.t 4)),
gF 51 45 (.pick (.t 49) (.t 50) (.c (.bool false))),
oP 52 (.pick (.t 45) (.c (.bool true)) (.t 51)),
mV 53 52,
gF 54 53 (.fieldAddr none 0 (.t 1)),
gF 55 53 (.load none (.t 54)),
gF 56 53 (.bin .eql (.t 55) (cI 3)),
oP 57 (.pick (.t 53) (.c (.bool true)) (.t 56)),
mV 2 57] [2])
.ret)))))
abbrev Mb:RsT:=[(2,none)]
theorem NV:SpF 58 GF IS Mb:=SpI Tryz.func55 (by kernel_rfl)
theorem HK:ak Tryz.prog GF = true:=by kernel_rfl
abbrev GK:FuncId:=56
def zo:AC:=
(.seq (.reg [oP 3 (.pbox 10 (.t 1)),
oP 4 (.mv (.c (.slice 7 []))),
oP 5 (.mv (cI 0))] [0,3])
(.seq (.seq (.reg [oP 9 (.fieldAddr none 0 (.t 3)),
oP 10 (.load none (.t 9)),
oP 11 (.bin .eql (.t 10) (cI 1))] [0,3,11])
(.cond (.t 11)
(.seq (.seq (.reg [mV 12 0,
oP 13 (.len (.t 12)),
oP 14 (.bin .geq (.t 13) (cI 12))] [0,3,14])
(.cond (.t 14)
(.seq (.reg [oP 4 (.mv (.c (.slice 7 []))),
oP 5 (.mv (cI 3))] [4,5])
.ret)
.skip))
(.seq (.creg [oP 15 (.lit 1 7 0 []),
mV 16 0,
oP 17 (.append 7 80 (.t 15) (.t 16)),
oP 18 (.fieldAddr (some 7) 3 (.t 3)),
oP 19 (.load (some 7) (.t 18)),
oP 20 (.lit 0 7 1 [(0,(.t 19))]),
oP 21 (.append 7 80 (.t 17) (.t 20)),
oP 22 (.fieldAddr (some 7) 3 (.t 3)),
oP 23 (.load (some 7) (.t 22)),
mV 24 0,
mV 25 0,
oP 26 (.call (.f 53) [true,true,true] [(.t 23),(.t 24),(.t 25)]),
oP 4 (.mvd (.t 21)),
mV 5 26] [4,5] [[],[],[0,1],[],[3],[3,4],[0,1,2,3,4,5],[],[7],[],[],[0,1,2,3,4,5,6,7,8,9,10],[0,1,2,3,4,5,6,7,8,9,10,11],[0,1,2,3,4,5,6,7,8,9,10,11,12]] [([1,3,4,5,7,8,9,10],0),([],2),([],6),([11],12)] [13])
.ret))
.skip))
(.seq (.reg [mV 27 0,
oP 28 (.fieldAddr none 2 (.t 3)),
oP 29 (.load none (.t 28)),
oP 30 (.call (.f 66) [true,false] [(.t 27),(.t 29)]),
mV 6 30] [0,3,6])
(.seq (.seq (.reg [mV 31 6,
oP 32 (.bin .lss (.t 31) (cI 0))] [0,3,6,32])
(.cond (.t 32)
(.seq (.reg [oP 4 (.mv (.c (.slice 7 []))),
oP 5 (.mv (cI 4))] [4,5])
.ret)
.skip))
(.seq (.seq (.reg [oP 33 (.fieldAddr none 0 (.t 3)),
oP 34 (.load none (.t 33)),
oP 35 (.bin .eql (.t 34) (cI 2))] [0,3,6,35])
(.cond (.t 35)
(.seq (.seq (.reg [mV 36 0,
oP 37 (.fieldAddr none 2 (.t 3)),
oP 38 (.load none (.t 37)),
oP 39 (.call (.f 100) [true,false] [(.t 36),(.t 38)])] [0,6,39])
(.cond (.t 39)
(.seq (.reg [oP 4 (.mv (.c (.slice 7 []))),
oP 5 (.mv (cI 9))] [4,5])
.ret)
.skip))
(.seq (.reg [mV 40 0,
mV 41 6,
oP 42 (.call (.f 101) [true,false] [(.t 40),(.t 41)]),
oP 4 (.mvd (.t 42)),
oP 5 (.mv (cI 0))] [4,5])
.ret))
.skip))
(.seq (.dreg [oP 43 (.fieldAddr (some 7) 3 (.t 3)),
oP 44 (.load (some 7) (.t 43)),
mV 45 0,
mV 46 6,
oP 47 (.subq 7 (.t 45) none (some (.t 46))),
mV 48 0,
mV 49 6,
oP 50 (.call (.f 101) [true,false] [(.t 48),(.t 49)]),
oP 51 (.call (.f 53) [true,true,true] [(.t 44),(.t 47),(.t 50)]),
mV 7 51] [0,3,6,7] [[],[0],[],[],[2,3],[],[],[5,6],[0,1,2,3,4,5,6,7],[0,1,2,3,4,5,6,7,8]])
(.seq (.seq (.reg [mV 52 6,
oP 53 (.bin .add (.t 52) (cI 1)),
mV 8 53] [0,3,6,7,8])
(.block 0
(.loop [0,3,6,7,8]
(.seq (.seq (.reg [mV 54 8,
mV 55 0,
oP 56 (.len (.t 55)),
oP 57 (.bin .lss (.t 54) (.t 56)),
mV 58 57,
gT 59 58 (.mv (.t 7)),
gT 60 58 (.bin .eql (.t 59) (cI 0)),
oP 61 (.pick (.t 58) (.t 60) (.c (.bool false)))] [0,3,6,7,8,61])
(.cond (.t 61)
.skip
(.exit 0)))
(.seq (.block 1
(.seq (.dreg [mV 64 0,
mV 65 8,
oP 66 (.ixS 7 (.t 64) (.t 65)),
oP 67 (.fieldAddr none 4 (.t 66)),
oP 68 (.load none (.t 67)),
oP 69 (.fieldAddr none 2 (.t 3)),
oP 70 (.load none (.t 69)),
oP 71 (.call (.f 49) [true,false] [(.t 68),(.t 70)]),
oP 72 (.bin .geq (.t 71) (cI 0)),
mV 73 72,
gT 74 73 (.mv (.t 0)),
gT 75 73 (.mv (.t 8)),
gT 76 73 (.ixS 7 (.t 74) (.t 75)),
gT 77 73 (.load (some 7) (.t 76)),
gT 78 73 (.fieldAddr (some 7) 3 (.t 3)),
gT 79 73 (.load (some 7) (.t 78)),
gT 80 73 (.call (.f 99) [true,true] [(.t 77),(.t 79)]),
gT 81 73 (.un .not (.t 80)),
oP 82 (.pick (.t 73) (.t 81) (.c (.bool false)))] [0,3,6,7,8,82] [[],[],[0,1],[0,1,2],[0,1,2,3],[],[5],[0,1,2,3,4,5,6],[0,1,2,3,4,5,6,7],[0,1,2,3,4,5,6,7,8],[0,1,2,3,4,5,6,7,8,9],[0,1,2,3,4,5,6,7,8,9],[0,1,2,3,4,5,6,7,8,9,10,11],[0,1,2,3,4,5,6,7,8,9,10,11,12],[0,1,2,3,4,5,6,7,8,9],[0,1,2,3,4,5,6,7,8,9,14],[0,1,2,3,4,5,6,7,8,9,10,11,12,13,14,15],[0,1,2,3,4,5,6,7,8,9,10,11,12,13,14,15,16],[0,1,2,3,4,5,6,7,8,9,10,11,12,13,14,15,16,17]])
(.cond (.t 82)
(.reg [oP 7 (.mv (cI 9))] [0,3,6,7,8])
.skip)))
(.reg [mV 62 8,
oP 63 (.bin .add (.t 62) (cI 1)),
mV 8 63] [0,3,6,7,8]))))))
(.seq (.reg [mV 83 0,
mV 84 6,
oP 85 (.fieldAddr (some 7) 3 (.t 3)),
oP 86 (.load (some 7) (.t 85)),
oP 87 (.call (.f 102) [true,false,true] [(.t 83),(.t 84),(.t 86)]),
mV 88 7,
oP 4 (.mvd (.t 87)),
mV 5 88] [4,5])
.ret))))))))
abbrev N4:RsT:=[(4,none),(5,none)]
theorem Nw:SpF 89 GK zo N4:=SpI Tryz.func56 (by kernel_rfl)
theorem Hf:ak Tryz.prog GK = true:=by kernel_rfl
abbrev FB:FuncId:=57
def EN:AC:=
(.seq (.reg [oP 2 (.pbox 2 (.t 0)),
oP 4 (.alloc [.slice 7 []]),
oP 5 (.mv (cI 0))] [1,2,4])
(.seq (.reg [oP 7 (.load (some 2) (.t 2)),
mV 8 1,
oP 9 (.call (.f 52) [true,false] [(.t 7),(.t 8)]),
mV 6 9,
oP 10 (.extract (.t 6) 0),
oP 11 (.extract (.t 6) 1),
oP 12 (.extract (.t 6) 2),
oP 13 (.extract (.t 6) 3),
oN (.store 1 (.t 4) (.t 10)),
mV 5 13] [1,4,5])
(.seq (.seq (.reg [mV 14 5,
oP 15 (.bin .eql (.t 14) (cI 0)),
mV 16 15,
gT 17 16 (.mv (.t 1)),
gT 18 16 (.lit 0 1 1 [(0,(.t 17))]),
gT 19 16 (.call (.f 60) [false,false,true] [(cI 0),(cI 40000),(.t 18)]),
oP 20 (.pick (.t 16) (.t 19) (.c (.bool false)))] [4,5,20])
(.cond (.t 20)
(.reg [oP 5 (.mv (cI 7))] [4,5])
.skip))
(.seq (.reg [oP 21 (.loadd (some 1) (.t 4)),
mV 22 5,
oN (.store 1 (.t 4) (.t 21)),
mV 5 22] [4,5])
.ret))))
abbrev NL:RsT:=[(4,some (some 1)),(5,none)]
theorem HA:SpF 23 FB EN NL:=SpI Tryz.func57 (by kernel_rfl)
theorem rq:ak Tryz.prog FB = true:=by kernel_rfl
abbrev HU:FuncId:=58
def Ke:AC:=
(.seq (.reg [oP 1 (.box 7 (.t 0)),
oP 2 (.alloc [.str ByteArray.empty, .int .i64 0, .int .i64 0, .int .i64 0, .slice 1 [], .int .i64 0, .int .i64 0])] [1,2])
(.seq (.reg [oP 3 (.fieldAddr none 4 (.t 1)),
oP 4 (.load none (.t 3)),
oP 5 (.call (.f 103) [true] [(.t 4)]),
oP 6 (.fieldAddr none 4 (.t 1)),
oN (.store 1 (.t 6) (.t 5))] [1,2])
(.seq (.reg [oP 7 (.loadd (some 7) (.t 1)),
oN (.store 7 (.t 2) (.t 7))] [2])
.ret)))
abbrev MH:RsT:=[(2,some (some 7))]
theorem LG:SpF 8 HU Ke MH:=SpI Tryz.func58 (by kernel_rfl)
theorem LW:ak Tryz.prog HU = true:=by kernel_rfl
abbrev Ib:FuncId:=60
def I2:AC:=
(.seq (.reg [oP 3 (.pbox 1 (.t 0)),
oP 4 (.pbox 1 (.t 1)),
oP 6 (.mv (.c (.bool false)))] [2,3,4])
(.seq (.reg [mV 7 2,
oP 8 (.mkfunc (.func 105) [] [(.t 3),(.t 4)]),
oP 9 (.call (.f 104) [true,false] [(.t 7),(.t 8)]),
mV 6 9] [6])
.ret))
abbrev L6:RsT:=[(6,none)]
theorem LX:SpF 10 Ib I2 L6:=SpI Tryz.func60 (by kernel_rfl)
theorem dW:ak Tryz.prog Ib = true:=by kernel_rfl
abbrev Fo:FuncId:=61
def GI:AC:=
(.seq (.reg [oP 3 (.pbox 1 (.t 1)),
oP 4 (.mv (cI 0))] [0,3])
(.seq (.reg [mV 5 0,
oP 6 (.nilchk (.t 5)),
oP 7 (.fieldAddr (some 1) 0 (.t 6)),
oP 8 (.fieldAddr none 0 (.t 7)),
oP 9 (.load none (.t 8)),
oP 10 (.mkfunc (.func 107) [] [(.t 3)]),
oP 11 (.call (.f 106) [true,false] [(.t 9),(.t 10)]),
mV 4 11] [4])
.ret))
abbrev L8:RsT:=[(4,none)]
theorem Jt:SpF 12 Fo GI L8:=SpI Tryz.func61 (by kernel_rfl)
theorem eV:ak Tryz.prog Fo = true:=by kernel_rfl
abbrev CD:FuncId:=62
def G0:AC:=
(.seq (.reg [oP 4 (.pbox 7 (.t 0)),
oP 5 (.mv (.c (.bool false)))] [1,2,3,4])
(.seq (.reg [oP 6 (.load (some 7) (.t 4)),
oP 7 (.load none (.t 1)),
oP 8 (.call (.f 63) [true,false] [(.t 6),(.t 7)]),
mV 9 8,
gF 10 9 (.fieldAddr none 4 (.t 4)),
gF 11 9 (.load none (.t 10)),
gF 12 9 (.mkfunc (.func 65) [] [(.t 2),(.t 3)]),
gF 13 9 (.call (.f 64) [true,false] [(.t 11),(.t 12)]),
oP 14 (.pick (.t 9) (.c (.bool true)) (.t 13)),
mV 5 14] [5])
.ret))
abbrev NP:RsT:=[(5,none)]
theorem JK:SpF 15 CD G0 NP:=SpI Tryz.func62 (by kernel_rfl)
theorem He:ak Tryz.prog CD = true:=by kernel_rfl
abbrev Hi:FuncId:=63
def JQ:AC:=
(.seq (.reg [oP 2 (.pbox 7 (.t 0)),
oP 4 (.mv (.c (.bool false)))] [1,2])
(.seq (.reg [oP 5 (.fieldAddr none 4 (.t 2)),
oP 6 (.load none (.t 5)),
mV 7 1,
oP 8 (.call (.f 108) [true,false] [(.t 6),(.t 7)]),
mV 4 8] [4])
.ret))
abbrev MO:RsT:=[(4,none)]
theorem LM:SpF 9 Hi JQ MO:=SpI Tryz.func63 (by kernel_rfl)
theorem HP:ak Tryz.prog Hi = true:=by kernel_rfl
abbrev G5:FuncId:=64
def Jk:AC:=
(.seq (.reg [oP 4 (.mv (.c (.bool false)))] [0,1])
(.seq (.reg [mV 5 0,
mV 6 1,
oP 7 (.call (.f 109) [true,false] [(.t 5),(.t 6)]),
oP 8 (.bin .geq (.t 7) (cI 0)),
mV 4 8] [4])
.ret))
abbrev MC:RsT:=[(4,none)]
theorem LY:SpF 9 G5 Jk MC:=SpI Tryz.func64 (by kernel_rfl)
theorem wK:ak Tryz.prog G5 = true:=by kernel_rfl
abbrev ED:FuncId:=65
def Kw:AC:=
(.seq (.reg [oP 4 (.mv (.c (.bool false)))] [0,1,2])
(.seq (.qreg [oP 5 (.load none (.t 1)),
oP 6 (.fieldAddr (some 1) 0 (.t 2)),
oP 7 (.fieldAddr none 0 (.t 6)),
oP 8 (.load none (.t 7)),
mV 9 0,
oP 10 (.call (.f 61) [true,false] [(.t 2),(.t 9)]),
oP 11 (.ixS 7 (.t 8) (.t 10)),
oP 12 (.load (some 7) (.t 11)),
oP 13 (.call (.t 5) [true] [(.t 12)]),
mV 4 13] [4] [[],[],[1],[1,2],[],[4],[1,2,3,4,5],[1,2,3,4,5,6],[0,1,2,3,4,5,6,7],[0,1,2,3,4,5,6,7,8]] [([0,1,2,3,4],5),([6,7],8)] [9])
.ret))
abbrev Mc:RsT:=[(4,none)]
theorem L1:SpF 14 ED Kw Mc:=SpI Tryz.func65 (by kernel_rfl)
theorem Od:ak Tryz.prog ED = true:=by kernel_rfl
abbrev G7:FuncId:=66
def Iz:AC:=
(.seq (.reg [oP 4 (.mv (cI 0))] [0,1])
(.seq (.seq (.reg [oP 5 (.mv (cI 0))] [0,1,5])
(.block 0
(.loop [0,1,5]
(.seq (.seq (.reg [mV 6 5,
mV 7 0,
oP 8 (.len (.t 7)),
oP 9 (.bin .lss (.t 6) (.t 8))] [0,1,5,9])
(.cond (.t 9)
.skip
(.exit 0)))
(.seq (.block 1
(.seq (.reg [mV 12 0,
mV 13 5,
oP 14 (.ixS 7 (.t 12) (.t 13)),
oP 15 (.fieldAddr none 0 (.t 14)),
oP 16 (.load none (.t 15)),
mV 17 1,
oP 18 (.bin .eql (.t 16) (.t 17))] [0,1,5,18])
(.cond (.t 18)
(.seq (.reg [mV 19 5,
mV 4 19] [4])
.ret)
.skip)))
(.reg [mV 10 5,
oP 11 (.bin .add (.t 10) (cI 1)),
mV 5 11] [0,1,5]))))))
(.seq (.reg [oP 4 (.mv (cI (-1)))] [4])
.ret)))
abbrev L2:RsT:=[(4,none)]
theorem My:SpF 20 G7 Iz L2:=SpI Tryz.func66 (by kernel_rfl)
theorem iQ:ak Tryz.prog G7 = true:=by kernel_rfl
abbrev GN:FuncId:=68
def Ka:AC:=
(.seq (.reg [⟨some 0,none, .mv (.c (.str ⟨#[]⟩))⟩] [])
(.seq (.reg [⟨some 0,none, .mv (.c (.str ⟨#[112,97,114,116,32,107,101,101,108,32,98,101,97,109,32,48,32,52,48,32,57,48,48,48,32,49,48,48,48,48,10,112,97,114,116,32,116,97,110,107,49,32,116,97,110,107,32,49,48,32,49,57,32,50,48,48,48,32,50,53,48,48,32,107,101,101,108,10,112,97,114,116,32,100,101,99,107,32,112,108,97,116,101,32,53,32,50,52,32,51,48,48,48,32,51,48,48,48,32,116,97,110,107,49,32,107,101,101,108,10,49,48,48,32,97,100,100,32,112,105,112,101,49,32,112,105,112,101,32,49,50,32,51,48,32,49,48,48,32,50,48,48,32,116,97,110,107,49,10,50,48,48,32,115,119,97,112,32,116,97,110,107,49,32,104,111,108,100,49,32,112,108,97,116,101,32,49,48,32,50,57,32,56,48,48,32,57,48,48,32,107,101,101,108,10]⟩))⟩] [0])
.ret))
abbrev Mv:RsT:=[(0,none)]
theorem Mi:SpF 1 GN Ka Mv:=SpI Tryz.func68 (by kernel_rfl)
theorem KM:ak Tryz.prog GN = true:=by kernel_rfl
abbrev H5:FuncId:=69
def IJ:AC:=
(.seq (.reg [oP 10 (.pbox 2 (.t 4)),
oP 12 (.alloc [.str ByteArray.empty, .int .i64 0, .int .i64 0, .int .i64 0, .slice 1 [], .int .i64 0, .int .i64 0])] [0,1,2,3,5,10,12])
(.seq (.reg [mV 13 0,
mV 14 1,
mV 15 2,
mV 16 3,
mV 17 5,
oP 18 (.load (some 2) (.t 10)),
oP 19 (.build [.str ByteArray.empty, .int .i64 0, .int .i64 0, .int .i64 0, .slice 1 [], .int .i64 0, .int .i64 0] [(0,1,(.t 13)),(1,1,(.t 14)),(2,1,(.t 15)),(3,1,(.t 16)),(4,1,(.t 17)),(5,2,(.t 18))]),
oN (.store 7 (.t 12) (.t 19))] [12])
.ret))
abbrev N5:RsT:=[(12,some (some 7))]
theorem Ma:SpF 20 H5 IJ N5:=SpI Tryz.func69 (by kernel_rfl)
theorem wV:ak Tryz.prog H5 = true:=by kernel_rfl
abbrev G1:FuncId:=70
def GP:AC:=
(.seq (.reg [oP 6 (.alloc [.mint 1, .mint 1]),
oP 7 (.mv (cI 0))] [0,1,2,6])
(.seq (.seq (.reg [mV 18 0,
oP 19 (.len (.t 18)),
oP 20 (.lit 0 1 1 [(0,(.t 19))]),
oP 21 (.call (.f 60) [false,false,true] [(cI 1),(cI 6),(.t 20)])] [0,1,2,6,21])
(.cond (.t 21)
(.seq (.reg [oP 22 (.loadd (some 2) (.t 6)),
oN (.store 2 (.t 6) (.t 22)),
oP 7 (.mv (cI 3))] [6,7])
.ret)
.skip))
(.seq (.seq (.reg [mV 23 0,
oP 24 (.len (.t 23)),
oP 25 (.mv (cI 0))] [1,2,6,23,24,25])
(.block 0
(.loop [1,2,6,23,24,25]
(.seq (.reg [oP 26 (.bin .lss (.t 25) (.t 24))] [1,2,6,23,24,25,26])
(.seq (.cond (.t 26)
.skip
(.exit 0))
(.seq (.block 1
(.seq (.reg [oP 27 (.ixS 2 (.t 23) (.t 25)),
oP 28 (.load (some 2) (.t 27)),
oP 9 (.alloc [.slice 7 [], .slice 10 []]),
oN (.store 2 (.t 9) (.t 28))] [1,2,6,9,23,24,25])
(.frz 9 true (.seq (.reg [oP 30 (.load (some 2) (.t 9)),
mV 31 1,
oP 32 (.call (.f 52) [true,false] [(.t 30),(.t 31)]),
mV 29 32,
oP 33 (.extract (.t 29) 0),
oP 34 (.extract (.t 29) 1),
oP 35 (.extract (.t 29) 2),
oP 36 (.extract (.t 29) 3),
oP 10 (.alloc [.slice 7 []]),
oN (.store 1 (.t 10) (.t 33)),
mV 11 34,
mV 12 35,
mV 13 36] [1,2,6,10,13,23,24,25])
(.frz 10 true (.seq (.seq (.reg [mV 37 13,
oP 38 (.bin .neq (.t 37) (cI 0))] [1,2,6,10,13,23,24,25,38])
(.cond (.t 38)
(.seq (.reg [oP 39 (.loadd (some 2) (.t 6)),
mV 40 13,
oN (.store 2 (.t 6) (.t 39)),
mV 7 40] [6,7])
.ret)
.skip))
(.reg [oP 41 (.fieldAddr none 0 (.t 6)),
oP 42 (.load none (.t 41)),
oP 43 (.load (some 1) (.t 10)),
oP 44 (.lit 0 1 1 [(0,(.t 43))]),
oP 45 (.append 1 24 (.t 42) (.t 44)),
oP 46 (.fieldAddr none 0 (.t 6)),
oN (.store 1 (.t 46) (.t 45))] [1,2,6,23,24,25])))))))
(.reg [oP 47 (.bin .add (.t 25) (cI 1)),
mV 25 47] [1,2,6,23,24,25])))))))
(.seq (.block 2
(.seq (.reg [mV 49 1,
oP 50 (.lit 0 1 1 [(0,(.t 49))]),
oP 51 (.call (.f 60) [false,false,true] [(cI 0),(cI 40000),(.t 50)]),
mV 48 51] [2,6,48])
(.cond (.t 48)
(.seq (.reg [oP 52 (.loadd (some 2) (.t 6)),
oN (.store 2 (.t 6) (.t 52)),
oP 7 (.mv (cI 7))] [6,7])
.ret)
(.seq (.reg [mV 54 2,
oP 55 (.len (.t 54)),
oP 56 (.bin .gtr (.t 55) (cI 12)),
mV 53 56] [2,6,53])
(.cond (.t 53)
(.seq (.reg [oP 57 (.loadd (some 2) (.t 6)),
oN (.store 2 (.t 6) (.t 57)),
oP 7 (.mv (cI 3))] [6,7])
.ret)
.skip)))))
(.seq (.seq (.reg [mV 58 2,
oP 59 (.len (.t 58)),
oP 60 (.mv (cI 0))] [2,6,58,59,60])
(.block 3
(.loop [2,6,58,59,60]
(.seq (.reg [oP 61 (.bin .lss (.t 60) (.t 59))] [2,6,58,59,60,61])
(.seq (.cond (.t 61)
.skip
(.exit 3))
(.seq (.block 4
(.seq (.reg [oP 62 (.ixS 3 (.t 58) (.t 60)),
oP 63 (.load (some 3) (.t 62)),
oP 15 (.alloc [.str ByteArray.empty, .int .i64 0, .int .i64 0]),
oN (.store 3 (.t 15) (.t 63))] [2,6,15,58,59,60])
(.frz 15 true (.block 5
(.seq (.reg [oP 65 (.fieldAddr none 0 (.t 15)),
oP 66 (.load none (.t 65)),
oP 67 (.call (.f 17) [false] [(.t 66)]),
oP 68 (.un .not (.t 67)),
mV 64 68] [2,6,15,58,59,60,64])
(.cond (.t 64)
(.seq (.reg [oP 69 (.loadd (some 2) (.t 6)),
oN (.store 2 (.t 6) (.t 69)),
oP 7 (.mv (cI 6))] [6,7])
.ret)
(.seq (.reg [oP 71 (.fieldAddr none 1 (.t 15)),
oP 72 (.load none (.t 71)),
oP 73 (.lit 0 1 1 [(0,(.t 72))]),
oP 74 (.call (.f 60) [false,false,true] [(cI 0),(cI 40),(.t 73)]),
mV 75 74,
gF 76 75 (.fieldAddr none 2 (.t 15)),
gF 77 75 (.load none (.t 76)),
gF 78 75 (.lit 0 1 1 [(0,(.t 77))]),
gF 79 75 (.call (.f 60) [false,false,true] [(cI 0),(cI 5),(.t 78)]),
oP 80 (.pick (.t 75) (.c (.bool true)) (.t 79)),
mV 70 80] [2,6,58,59,60,70])
(.cond (.t 70)
(.seq (.reg [oP 81 (.loadd (some 2) (.t 6)),
oN (.store 2 (.t 6) (.t 81)),
oP 7 (.mv (cI 7))] [6,7])
.ret)
.skip))))))))
(.reg [oP 82 (.bin .add (.t 60) (cI 1)),
mV 60 82] [2,6,58,59,60])))))))
(.seq (.seq (.reg [oP 83 (.fieldAddr none 0 (.t 6)),
oP 84 (.load none (.t 83)),
oP 85 (.len (.t 84)),
oP 86 (.mv (cI 0))] [2,6,85,86])
(.block 6
(.loop [2,6,85,86]
(.seq (.reg [oP 87 (.bin .lss (.t 86) (.t 85))] [2,6,85,86,87])
(.seq (.cond (.t 87)
.skip
(.exit 6))
(.seq (.block 7
(.seq (.reg [mV 88 86,
oP 16 (.alloc [.int .i64 0]),
oN (.store 1 (.t 16) (.t 88))] [2,6,16,85,86])
(.frz 16 false (.seq (.reg [oP 89 (.mkfunc (.func 110) [] [(.t 6),(.t 16)]),
mV 17 89] [2,6,16,17,85,86])
(.seq (.reg [mV 90 2,
mV 91 17,
oP 92 (.call (.f 111) [true,false] [(.t 90),(.t 91)]),
oP 93 (.un .not (.t 92))] [2,6,16,85,86,93])
(.cond (.t 93)
(.reg [oP 94 (.fieldAddr none 1 (.t 6)),
oP 95 (.load none (.t 94)),
oP 96 (.load none (.t 16)),
oP 97 (.lit 0 1 1 [(0,(.t 96))]),
oP 98 (.append 1 8 (.t 95) (.t 97)),
oP 99 (.fieldAddr none 1 (.t 6)),
oN (.store 1 (.t 99) (.t 98))] [2,6,85,86])
.skip))))))
(.reg [oP 100 (.bin .add (.t 86) (cI 1)),
mV 86 100] [2,6,85,86])))))))
(.seq (.reg [oP 101 (.loadd (some 2) (.t 6)),
oN (.store 2 (.t 6) (.t 101)),
oP 7 (.mv (cI 0))] [6,7])
.ret)))))))
abbrev LZ:RsT:=[(6,some (some 2)),(7,none)]
theorem MG:SpF 102 G1 GP LZ:=SpI Tryz.func70 (by kernel_rfl)
theorem xR:ak Tryz.prog G1 = true:=by kernel_rfl
abbrev HR:FuncId:=72
def IC:AC:=
(.seq (.reg [oP 2 (.nilS 2 1)] [0,2])
(.seq (.seq (.reg [mV 7 0,
oP 8 (.len (.t 7)),
oP 9 (.mv (cI 0))] [2,7,8,9])
(.block 0
(.loop [2,7,8,9]
(.seq (.reg [oP 10 (.bin .lss (.t 9) (.t 8))] [2,7,8,9,10])
(.seq (.cond (.t 10)
.skip
(.exit 0))
(.seq (.block 1
(.seq (.reg [oP 11 (.ixS 1 (.t 7) (.t 9)),
oP 12 (.load (some 1) (.t 11)),
oP 4 (.alloc [.slice 7 []]),
oN (.store 1 (.t 4) (.t 12))] [2,4,7,8,9])
(.frz 4 true (.seq (.reg [oP 13 (.fieldAddr (some 1) 0 (.t 4)),
oP 14 (.fieldAddr none 0 (.t 13)),
oP 15 (.load none (.t 14)),
oP 16 (.len (.t 15)),
oP 17 (.mv (cI 0))] [2,7,8,9,15,16,17])
(.block 2
(.loop [2,7,8,9,15,16,17]
(.seq (.reg [oP 18 (.bin .lss (.t 17) (.t 16))] [2,7,8,9,15,16,17,18])
(.seq (.cond (.t 18)
.skip
(.exit 2))
(.seq (.block 3
(.seq (.reg [oP 19 (.ixS 7 (.t 15) (.t 17)),
oP 20 (.load (some 7) (.t 19)),
oP 6 (.alloc [.str ByteArray.empty, .int .i64 0, .int .i64 0, .int .i64 0, .slice 1 [], .int .i64 0, .int .i64 0]),
oN (.store 7 (.t 6) (.t 20))] [2,6,7,8,9,15,16,17])
(.frz 6 true (.reg [mV 21 2,
oP 22 (.fieldAddr none 0 (.t 6)),
oP 23 (.load none (.t 22)),
oP 24 (.lit 0 1 1 [(0,(.t 23))]),
oP 25 (.append 1 16 (.t 21) (.t 24)),
oP 2 (.mvd (.t 25))] [2,7,8,9,15,16,17]))))
(.reg [oP 26 (.bin .add (.t 17) (cI 1)),
mV 17 26] [2,7,8,9,15,16,17]))))))))))
(.reg [oP 27 (.bin .add (.t 9) (cI 1)),
mV 9 27] [2,7,8,9])))))))
(.seq (.reg [mV 28 2,
oP 29 (.call (.f 112) [true] [(.t 28)])] [2])
(.seq (.reg [mV 30 2,
oP 31 (.call (.f 113) [true] [(.t 30)]),
oP 2 (.freeze 1 (.t 31))] [2])
.ret))))
abbrev MN:RsT:=[(2,none)]
theorem NJ:SpF 32 HR IC MN:=SpI Tryz.func72 (by kernel_rfl)
theorem HC:ak Tryz.prog HR = true:=by kernel_rfl
abbrev EU:FuncId:=73
def I5:AC:=
(.seq (.reg [oP 1 (.pbox 2 (.t 0)),
oP 2 (.nilS 1 1)] [1,2])
(.seq (.seq (.reg [oP 5 (.fieldAddr none 1 (.t 1)),
oP 6 (.load none (.t 5)),
oP 7 (.len (.t 6)),
oP 8 (.mv (cI 0))] [1,2,6,7,8])
(.block 0
(.loop [1,2,6,7,8]
(.seq (.reg [oP 9 (.bin .lss (.t 8) (.t 7))] [1,2,6,7,8,9])
(.seq (.cond (.t 9)
.skip
(.exit 0))
(.seq (.block 1
(.seq (.reg [oP 10 (.ixS 1 (.t 6) (.t 8)),
oP 11 (.load none (.t 10)),
mV 4 11] [1,2,4,6,7,8])
(.reg [mV 12 2,
oP 13 (.fieldAddr none 0 (.t 1)),
oP 14 (.load none (.t 13)),
mV 15 4,
oP 16 (.ixS 1 (.t 14) (.t 15)),
oP 17 (.load (some 1) (.t 16)),
oP 18 (.lit 0 1 1 [(0,(.t 17))]),
oP 19 (.append 1 24 (.t 12) (.t 18)),
mV 2 19] [1,2,6,7,8])))
(.reg [oP 20 (.bin .add (.t 8) (cI 1)),
mV 8 20] [1,2,6,7,8])))))))
(.seq (.reg [mV 21 2,
oP 2 (.mvd (.t 21))] [2])
.ret)))
abbrev MV:RsT:=[(2,none)]
theorem Mg:SpF 22 EU I5 MV:=SpI Tryz.func73 (by kernel_rfl)
theorem Fm:ak Tryz.prog EU = true:=by kernel_rfl
abbrev GQ:FuncId:=74
def KN:AC:=
(.seq (.reg [oP 4 (.mv (.c (.bool false)))] [0,1])
(.seq (.reg [mV 5 0,
mV 6 1,
oP 7 (.call (.f 114) [true,false] [(.t 5),(.t 6)]),
oP 8 (.bin .geq (.t 7) (cI 0)),
mV 4 8] [4])
.ret))
abbrev MI:RsT:=[(4,none)]
theorem LF:SpF 9 GQ KN MI:=SpI Tryz.func74 (by kernel_rfl)
theorem Kb:ak Tryz.prog GQ = true:=by kernel_rfl
abbrev E4:FuncId:=75
def Iu:AC:=
(.seq (.reg [oP 2 (.box 1 (.t 0)),
oP 3 (.mv (.c (.bool false)))] [1,2])
(.seq (.reg [oP 4 (.load none (.t 1)),
oP 5 (.call (.f 61) [true,false] [(.t 2),(.t 4)]),
oP 6 (.bin .lss (.t 5) (cI 0)),
mV 3 6] [3])
.ret))
abbrev Lz:RsT:=[(3,none)]
theorem Mw:SpF 7 E4 Iu Lz:=SpI Tryz.func75 (by kernel_rfl)
theorem L3:ak Tryz.prog E4 = true:=by kernel_rfl
abbrev GV:FuncId:=77
def Ja:AC:=
(.seq (.reg [oP 1 (.pbox 1 (.t 0)),
oP 2 (.mv (.c .nilfunc))] [1])
(.seq (.reg [oP 3 (.mkfunc (.func 115) [] [(.t 1)]),
mV 2 3] [2])
.ret))
abbrev Nt:RsT:=[(2,none)]
theorem M4:SpF 4 GV Ja Nt:=SpI Tryz.func77 (by kernel_rfl)
theorem Nu:ak Tryz.prog GV = true:=by kernel_rfl
abbrev EI:FuncId:=78
def An:AC:=
(.seq (.reg [oP 3 (.pbox 2 (.t 1)),
oP 4 (.mv (cI 0))] [0,3])
(.seq (.reg [mV 6 0,
oP 7 (.fieldAddr none 0 (.t 3)),
oP 8 (.load none (.t 7)),
oP 9 (.call (.f 61) [false,false] [(.t 6),(.t 8)]),
mV 5 9] [0,3,5])
(.seq (.seq (.dreg [mV 10 5,
oP 11 (.bin .lss (.t 10) (cI 0)),
mV 12 11,
gF 13 12 (.mv (.t 0)),
gF 14 12 (.nilchk (.t 13)),
gF 15 12 (.fieldAddr (some 1) 0 (.t 14)),
gF 16 12 (.fieldAddr none 0 (.t 15)),
gF 17 12 (.load none (.t 16)),
gF 18 12 (.mv (.t 5)),
gF 19 12 (.ixS 7 (.t 17) (.t 18)),
gF 20 12 (.fieldAddr none 2 (.t 19)),
gF 21 12 (.load none (.t 20)),
gF 22 12 (.mv (.t 0)),
gF 23 12 (.nilchk (.t 22)),
gF 24 12 (.fieldAddr (some 1) 0 (.t 23)),
gF 25 12 (.fieldAddr none 0 (.t 24)),
gF 26 12 (.load none (.t 25)),
gF 27 12 (.mv (.t 5)),
gF 28 12 (.ixS 7 (.t 26) (.t 27)),
gF 29 12 (.fieldAddr none 3 (.t 28)),
gF 30 12 (.load none (.t 29)),
gF 31 12 (.fieldAddr none 1 (.t 3)),
gF 32 12 (.load none (.t 31)),
gF 33 12 (.lit 0 1 1 [(0,(.t 32))]),
gF 34 12 (.call (.f 60) [false,false,true] [(.t 21),(.t 30),(.t 33)]),
oP 35 (.pick (.t 12) (.c (.bool true)) (.t 34))] [0,5,35] [[],[0],[0,1],[0,1,2],[0,1,2,3],[0,1,2,3,4],[0,1,2,3,4,5],[0,1,2,3,4,5,6],[0,1,2],[0,1,2,3,4,5,6,7,8],[0,1,2,3,4,5,6,7,8,9],[0,1,2,3,4,5,6,7,8,9,10],[0,1,2],[0,1,2,12],[0,1,2,12,13],[0,1,2,12,13,14],[0,1,2,12,13,14,15],[0,1,2],[0,1,2,12,13,14,15,16,17],[0,1,2,12,13,14,15,16,17,18],[0,1,2,12,13,14,15,16,17,18,19],[0,1,2],[0,1,2,21],[0,1,2,21,22],[0,1,2,3,4,5,6,7,8,9,10,11,12,13,14,15,16,17,18,19,20,21,22,23],[0,1,2,3,4,5,6,7,8,9,10,11,12,13,14,15,16,17,18,19,20,21,22,23,24]])
(.cond (.t 35)
(.seq (.reg [oP 4 (.mv (cI 0))] [4])
.ret)
.skip))
(.seq (.reg [mV 36 0,
oP 37 (.nilchk (.t 36)),
oP 38 (.fieldAddr (some 1) 0 (.t 37)),
oP 39 (.fieldAddr none 0 (.t 38)),
oP 40 (.load none (.t 39)),
mV 41 5,
oP 42 (.ixS 7 (.t 40) (.t 41)),
oP 43 (.fieldAddr none 1 (.t 42)),
oP 44 (.load none (.t 43)),
mV 4 44] [4])
.ret))))
abbrev M0:RsT:=[(4,none)]
theorem EV:SpF 45 EI An M0:=SpI Tryz.func78 (by kernel_rfl)
theorem Jw:ak Tryz.prog EI = true:=by kernel_rfl
abbrev HG:FuncId:=79
def J9:AC:=
(.seq (.reg [oP 2 (.mv (cI 0))] [0])
(.seq (.seq (.reg [mV 5 0,
oP 6 (.len (.t 5)),
oP 7 (.bin .lss (.t 6) (cI 1))] [0,7])
(.cond (.t 7)
(.reg [⟨some 8,none, .mkiface 9 (.c (.str ⟨#[115,108,105,99,101,115,46,77,97,120,58,32,101,109,112,116,121,32,108,105,115,116]⟩))⟩,
oN (.panic (.t 8))] [0])
.skip))
(.seq (.reg [mV 9 0,
oP 10 (.ixS 1 (.t 9) (cI 0)),
oP 11 (.load none (.t 10)),
mV 3 11] [0,3])
(.seq (.seq (.reg [oP 4 (.mv (cI 1))] [0,3,4])
(.block 0
(.loop [0,3,4]
(.seq (.seq (.reg [mV 12 4,
mV 13 0,
oP 14 (.len (.t 13)),
oP 15 (.bin .lss (.t 12) (.t 14))] [0,3,4,15])
(.cond (.t 15)
.skip
(.exit 0)))
(.seq (.block 1
(.reg [mV 18 3,
mV 19 0,
mV 20 4,
oP 21 (.ixS 1 (.t 19) (.t 20)),
oP 22 (.load none (.t 21)),
oP 23 (.mx [(.t 18),(.t 22)]),
mV 3 23] [0,3,4]))
(.reg [mV 16 4,
oP 17 (.bin .add (.t 16) (cI 1)),
mV 4 17] [0,3,4]))))))
(.seq (.reg [mV 24 3,
mV 2 24] [2])
.ret)))))
abbrev LV:RsT:=[(2,none)]
theorem M6:SpF 25 HG J9 LV:=SpI Tryz.func79 (by kernel_rfl)
theorem IZ:ak Tryz.prog HG = true:=by kernel_rfl
abbrev GS:FuncId:=81
def JB:AC:=
(.seq (.reg [oP 1 (.pbox 7 (.t 0)),
oP 2 (.alloc [.str ByteArray.empty, .int .i64 0, .int .i64 0, .int .i64 0, .int .i64 0, .int .i64 0])] [1,2])
(.seq (.reg [oP 3 (.fieldAddr none 0 (.t 1)),
oP 4 (.load none (.t 3)),
oP 5 (.fieldAddr none 1 (.t 1)),
oP 6 (.load none (.t 5)),
oP 7 (.fieldAddr none 2 (.t 1)),
oP 8 (.load none (.t 7)),
oP 9 (.fieldAddr none 3 (.t 1)),
oP 10 (.load none (.t 9)),
oP 11 (.fieldAddr (some 2) 5 (.t 1)),
oP 12 (.load (some 2) (.t 11)),
oP 13 (.build [.str ByteArray.empty, .int .i64 0, .int .i64 0, .int .i64 0, .int .i64 0, .int .i64 0] [(0,1,(.t 4)),(1,1,(.t 6)),(2,1,(.t 8)),(3,1,(.t 10)),(4,2,(.t 12))]),
oN (.store 6 (.t 2) (.t 13))] [2])
.ret))
abbrev NT:RsT:=[(2,some (some 6))]
theorem Og:SpF 14 GS JB NT:=SpI Tryz.func81 (by kernel_rfl)
theorem GG:ak Tryz.prog GS = true:=by kernel_rfl
abbrev GL:FuncId:=82
def Ic:AC:=
(.seq (.reg [oP 4 (.mv (.c (.bool false)))] [0,1])
(.seq (.seq (.reg [mV 6 0,
oP 7 (.len (.t 6)),
mV 8 1,
oP 9 (.len (.t 8)),
oP 10 (.bin .neq (.t 7) (.t 9))] [0,1,10])
(.cond (.t 10)
(.seq (.reg [oP 4 (.mv (.c (.bool false)))] [4])
.ret)
.skip))
(.seq (.seq (.reg [mV 11 0,
oP 12 (.len (.t 11)),
oP 13 (.mv (cI 0))] [0,1,12,13])
(.block 0
(.loop [0,1,12,13]
(.seq (.reg [oP 14 (.bin .lss (.t 13) (.t 12))] [0,1,12,13,14])
(.seq (.cond (.t 14)
.skip
(.exit 0))
(.seq (.block 1
(.seq (.reg [mV 15 13,
mV 5 15] [0,1,5,12,13])
(.seq (.dreg [mV 16 0,
mV 17 5,
oP 18 (.ixS 1 (.t 16) (.t 17)),
oP 19 (.load none (.t 18)),
mV 20 1,
mV 21 5,
oP 22 (.ixS 1 (.t 20) (.t 21)),
oP 23 (.load none (.t 22)),
oP 24 (.bin .neq (.t 19) (.t 23))] [0,1,12,13,24] [[],[],[0,1],[0,1,2],[],[],[4,5],[4,5,6],[0,1,2,3,4,5,6,7]])
(.cond (.t 24)
(.seq (.reg [oP 4 (.mv (.c (.bool false)))] [4])
.ret)
.skip))))
(.reg [oP 25 (.bin .add (.t 13) (cI 1)),
mV 13 25] [0,1,12,13])))))))
(.seq (.reg [oP 4 (.mv (.c (.bool true)))] [4])
.ret))))
abbrev ME:RsT:=[(4,none)]
theorem Lj:SpF 26 GL Ic ME:=SpI Tryz.func82 (by kernel_rfl)
theorem La:ak Tryz.prog GL = true:=by kernel_rfl
abbrev Ht:FuncId:=83
def JA:AC:=
(.seq (.reg [oP 1 (.pbox 2 (.t 0)),
⟨some 2,none, .mv (.c (.str ⟨#[]⟩))⟩] [1])
(.seq (.reg [oP 3 (.allocB)] [1,3])
(.seq (.reg [oP 10 (.mkfunc (.func 116) [] [(.t 3)]),
mV 4 10] [1,3,4])
(.seq (.seq (.reg [oP 11 (.fieldAddr (some 1) 0 (.t 1)),
oP 12 (.fieldAddr none 0 (.t 11)),
oP 13 (.load none (.t 12)),
oP 14 (.len (.t 13)),
oP 15 (.mv (cI 0))] [1,3,4,13,14,15])
(.block 0
(.loop [1,3,4,13,14,15]
(.seq (.reg [oP 16 (.bin .lss (.t 15) (.t 14))] [1,3,4,13,14,15,16])
(.seq (.cond (.t 16)
.skip
(.exit 0))
(.seq (.block 1
(.seq (.reg [oP 17 (.ixS 7 (.t 13) (.t 15)),
oP 18 (.load (some 7) (.t 17)),
oP 6 (.alloc [.str ByteArray.empty, .int .i64 0, .int .i64 0, .int .i64 0, .slice 1 [], .int .i64 0, .int .i64 0]),
oN (.store 7 (.t 6) (.t 18))] [1,3,4,6,13,14,15])
(.frz 6 true (.reg [mV 19 4,
⟨some 20,none, .lit 1 1 1 [(0,(.c (.str ⟨#[112,97,114,116]⟩)))]⟩,
oP 21 (.load (some 7) (.t 6)),
oP 22 (.call (.f 119) [true] [(.t 21)]),
oP 23 (.append 1 16 (.t 20) (.t 22)),
oP 24 (.call (.t 19) [true] [(.t 23)])] [1,3,4,13,14,15]))))
(.reg [oP 25 (.bin .add (.t 15) (cI 1)),
mV 15 25] [1,3,4,13,14,15])))))))
(.seq (.seq (.reg [oP 26 (.fieldAddr none 1 (.t 1)),
oP 27 (.load none (.t 26)),
oP 28 (.len (.t 27)),
oP 29 (.mv (cI 0))] [3,4,27,28,29])
(.block 2
(.loop [3,4,27,28,29]
(.seq (.reg [oP 30 (.bin .lss (.t 29) (.t 28))] [3,4,27,28,29,30])
(.seq (.cond (.t 30)
.skip
(.exit 2))
(.seq (.block 3
(.seq (.reg [oP 31 (.ixS 10 (.t 27) (.t 29)),
oP 32 (.load (some 10) (.t 31)),
oP 8 (.alloc [.int .i64 0, .int .i64 0, .str ByteArray.empty, .str ByteArray.empty, .int .i64 0, .int .i64 0, .int .i64 0, .slice 1 [], .int .i64 0, .int .i64 0]),
oN (.store 10 (.t 8) (.t 32))] [3,4,8,27,28,29])
(.frz 8 true (.seq (.reg [oP 33 (.fieldAddr none 1 (.t 8)),
oP 34 (.load none (.t 33)),
oP 35 (.call (.f 120) [false] [(.t 34)]),
mV 9 35] [3,4,8,9,27,28,29])
(.seq (.reg [oP 36 (.fieldAddr none 0 (.t 8)),
oP 37 (.load none (.t 36))] [3,4,8,9,27,28,29,37])
(.block 4
(.seq (.reg [oP 39 (.bin .eql (.t 37) (cI 1)),
mV 38 39] [3,4,8,9,27,28,29,37,38])
(.cond (.t 38)
(.reg [mV 40 4,
mV 41 9,
⟨some 42,none, .lit 1 1 2 [(0,(.t 41)),(1,(.c (.str ⟨#[97,100,100]⟩)))]⟩,
oP 43 (.fieldAddr (some 7) 3 (.t 8)),
oP 44 (.load (some 7) (.t 43)),
oP 45 (.call (.f 119) [true] [(.t 44)]),
oP 46 (.append 1 16 (.t 42) (.t 45)),
oP 47 (.call (.t 40) [true] [(.t 46)])] [3,4,27,28,29])
(.seq (.reg [oP 49 (.bin .eql (.t 37) (cI 2)),
mV 48 49] [3,4,8,9,27,28,29,37,48])
(.cond (.t 48)
(.reg [mV 50 4,
mV 51 9,
oP 52 (.fieldAddr none 2 (.t 8)),
oP 53 (.load none (.t 52)),
⟨some 54,none, .lit 0 1 3 [(0,(.t 51)),(1,(.c (.str ⟨#[116,97,107,101]⟩))),(2,(.t 53))]⟩,
oP 55 (.call (.t 50) [true] [(.t 54)])] [3,4,27,28,29])
(.seq (.reg [oP 57 (.bin .eql (.t 37) (cI 3)),
mV 56 57] [3,4,8,9,27,28,29,56])
(.cond (.t 56)
(.creg [mV 58 4,
mV 59 9,
oP 60 (.fieldAddr none 2 (.t 8)),
oP 61 (.load none (.t 60)),
⟨some 62,none, .lit 1 1 3 [(0,(.t 59)),(1,(.c (.str ⟨#[115,119,97,112]⟩))),(2,(.t 61))]⟩,
oP 63 (.fieldAddr (some 7) 3 (.t 8)),
oP 64 (.load (some 7) (.t 63)),
oP 65 (.call (.f 119) [true] [(.t 64)]),
oP 66 (.append 1 16 (.t 62) (.t 65)),
oP 67 (.call (.t 58) [true] [(.t 66)])] [3,4,27,28,29] [[],[],[],[2],[1,2,3],[],[5],[5,6],[1,2,3,4,5,6,7],[0,1,2,3,4,5,6,7,8]] [([0,1,2,3,5,6,7],4),([],8),([],9)] [])
.skip))))))))))))
(.reg [oP 68 (.bin .add (.t 29) (cI 1)),
mV 29 68] [3,4,27,28,29])))))))
(.seq (.reg [oP 69 (.call (.f 121) [true] [(.t 3)]),
mV 2 69] [2])
.ret))))))
abbrev Ll:RsT:=[(2,none)]
theorem NI:SpF 70 Ht JA Ll:=SpI Tryz.func83 (by kernel_rfl)
theorem GU:ak Tryz.prog Ht = true:=by kernel_rfl
abbrev Au:FuncId:=84
def CN:AC:=
(.seq (.reg [oP 1 (.pbox 2 (.t 0)),
⟨some 2,none, .mv (.c (.str ⟨#[]⟩))⟩] [1])
(.seq (.reg [⟨some 3,none, .mv (.c (.str ⟨#[]⟩))⟩] [1,3])
(.seq (.seq (.reg [oP 4 (.mv (cI 0))] [1,3,4])
(.block 0
(.loop [1,3,4]
(.seq (.seq (.reg [mV 7 4,
oP 8 (.fieldAddr (some 1) 0 (.t 1)),
oP 9 (.fieldAddr none 0 (.t 8)),
oP 10 (.load none (.t 9)),
oP 11 (.len (.t 10)),
oP 12 (.bin .lss (.t 7) (.t 11))] [1,3,4,12])
(.cond (.t 12)
.skip
(.exit 0)))
(.seq (.block 1
(.reg [mV 15 3,
⟨some 16,none, .bin .add (.t 15) (.c (.str ⟨#[112,97,114,116,32]⟩))⟩,
oP 17 (.fieldAddr (some 1) 0 (.t 1)),
oP 18 (.fieldAddr none 0 (.t 17)),
oP 19 (.load none (.t 18)),
mV 20 4,
oP 21 (.ixS 7 (.t 19) (.t 20)),
oP 22 (.load (some 7) (.t 21)),
oP 23 (.call (.f 122) [true] [(.t 22)]),
oP 24 (.bin .add (.t 16) (.t 23)),
⟨some 25,none, .bin .add (.t 24) (.c (.str ⟨#[10]⟩))⟩,
mV 3 25] [1,3,4]))
(.reg [mV 13 4,
oP 14 (.bin .add (.t 13) (cI 1)),
mV 4 14] [1,3,4]))))))
(.seq (.seq (.reg [oP 5 (.mv (cI 0))] [1,3,5])
(.block 2
(.loop [1,3,5]
(.seq (.seq (.reg [mV 26 5,
oP 27 (.fieldAddr none 1 (.t 1)),
oP 28 (.load none (.t 27)),
oP 29 (.len (.t 28)),
oP 30 (.bin .lss (.t 26) (.t 29))] [1,3,5,30])
(.cond (.t 30)
.skip
(.exit 2)))
(.seq (.block 3
(.seq (.reg [oP 33 (.fieldAddr none 1 (.t 1)),
oP 34 (.load none (.t 33)),
mV 35 5,
oP 36 (.ixS 10 (.t 34) (.t 35)),
oP 37 (.load (some 10) (.t 36)),
oP 6 (.alloc [.int .i64 0, .int .i64 0, .str ByteArray.empty, .str ByteArray.empty, .int .i64 0, .int .i64 0, .int .i64 0, .slice 1 [], .int .i64 0, .int .i64 0]),
oN (.store 10 (.t 6) (.t 37))] [1,3,5,6])
(.frz 6 true (.seq (.reg [mV 38 3,
oP 39 (.fieldAddr none 1 (.t 6)),
oP 40 (.load none (.t 39)),
oP 41 (.call (.f 123) [false] [(.t 40)]),
oP 42 (.bin .add (.t 38) (.t 41)),
mV 3 42] [1,3,5,6])
(.seq (.seq (.reg [oP 43 (.fieldAddr none 0 (.t 6)),
oP 44 (.load none (.t 43))] [1,3,5,6,44])
(.block 4
(.seq (.reg [oP 56 (.bin .eql (.t 44) (cI 1)),
mV 55 56] [1,3,5,6,44,55])
(.cond (.t 55)
(.reg [mV 57 3,
⟨some 58,none, .bin .add (.t 57) (.c (.str ⟨#[32,97,100,100,32]⟩))⟩,
oP 59 (.fieldAddr (some 7) 3 (.t 6)),
oP 60 (.load (some 7) (.t 59)),
oP 61 (.call (.f 122) [true] [(.t 60)]),
oP 62 (.bin .add (.t 58) (.t 61)),
mV 3 62] [1,3,5])
(.seq (.reg [oP 64 (.bin .eql (.t 44) (cI 2)),
mV 63 64] [1,3,5,6,63])
(.cond (.t 63)
(.reg [mV 65 3,
⟨some 66,none, .bin .add (.t 65) (.c (.str ⟨#[32,116,97,107,101,32]⟩))⟩,
oP 67 (.fieldAddr none 2 (.t 6)),
oP 68 (.load none (.t 67)),
oP 69 (.bin .add (.t 66) (.t 68)),
mV 3 69] [1,3,5])
(.dreg [mV 45 3,
⟨some 46,none, .bin .add (.t 45) (.c (.str ⟨#[32,115,119,97,112,32]⟩))⟩,
oP 47 (.fieldAddr none 2 (.t 6)),
oP 48 (.load none (.t 47)),
oP 49 (.bin .add (.t 46) (.t 48)),
⟨some 50,none, .bin .add (.t 49) (.c (.str ⟨#[32]⟩))⟩,
oP 51 (.fieldAddr (some 7) 3 (.t 6)),
oP 52 (.load (some 7) (.t 51)),
oP 53 (.call (.f 122) [true] [(.t 52)]),
oP 54 (.bin .add (.t 50) (.t 53)),
mV 3 54] [1,3,5] [[],[0],[],[2],[0,1,2,3],[0,1,2,3,4],[],[6],[6,7],[0,1,2,3,4,5,6,7,8],[0,1,2,3,4,5,6,7,8,9]])))))))
(.reg [mV 70 3,
⟨some 71,none, .bin .add (.t 70) (.c (.str ⟨#[10]⟩))⟩,
mV 3 71] [1,3,5]))))))
(.reg [mV 31 5,
oP 32 (.bin .add (.t 31) (cI 1)),
mV 5 32] [1,3,5]))))))
(.seq (.reg [mV 72 3,
mV 2 72] [2])
.ret)))))
abbrev FE:RsT:=[(2,none)]
theorem Fl:SpF 73 Au CN FE:=SpI Tryz.func84 (by kernel_rfl)
theorem Ag:ak Tryz.prog Au = true:=by kernel_rfl
abbrev vT:FuncId:=85
def Es:AC:=
(.seq (.reg [mV 4 2,
oP 5 (.isnil true (.t 4))] [0,1,2,5])
(.cond (.t 5)
(.dreg [oP 6 (.build [.slice 7 [], .slice 10 []] []),
mV 7 2,
oP 8 (.assert 30 (.t 7)),
oN (.store 2 (.t 0) (.t 6)),
oN (.store 1 (.t 1) (.t 8))] [] [[],[],[1],[0],[0,1,2,3]])
.skip))
theorem tE:Dz Tryz.prog Tryz.f85 9 3 2 Es = true:=by kernel_rfl
theorem K3 {args:List ab} {σ:ag} {m:PM} {Q:PM → ag → Prop} (ha:args.length ≤ 9) (h:AW Tryz.prog 9 none Es (AA (Q m.after)) { v:=(2,m.val) :: (3, .undef) :: eC args 0,ds:=[] } σ):k9 Tryz.prog vT args σ m Q:=k9.vn Tryz.func85 tE ha h
theorem Kt:ak Tryz.prog vT = true:=by kernel_rfl
abbrev Kg:FuncId:=86
theorem Dc:ak Tryz.prog Kg = true:=by kernel_rfl
abbrev El:FuncId:=87
def H7:AC:=
(.seq (.reg [mV 2 0,
oP 3 (.un .not (.t 2))] [3])
(.cond (.t 3)
(.reg [oP 4 (.mkiface 30 (cI 6)),
oN (.panic (.t 4))] [])
.skip))
abbrev MK:RsT:=[]
theorem JI:SpF 5 El H7 MK:=SpI Tryz.func87 (by kernel_rfl)
theorem lj:ak Tryz.prog El = true:=by kernel_rfl
abbrev Kx:FuncId:=88
theorem ER:ak Tryz.prog Kx = true:=by kernel_rfl
abbrev DF:FuncId:=89
def H2:AC:=
(.seq (.reg [⟨some 2,none, .mv (.c (.str ⟨#[]⟩))⟩] [0])
(.seq (.reg [mV 4 0,
oP 5 (.nilchk (.t 4)),
oP 6 (.fieldAddr none 0 (.t 5)),
oP 7 (.load none (.t 6)),
oP 8 (.len (.t 7)),
oP 9 (.bin .gtr (.t 8) (cI 0)),
oP 10 (.call (.f 87) [false] [(.t 9)])] [0])
(.seq (.reg [mV 11 0,
oP 12 (.nilchk (.t 11)),
oP 13 (.fieldAddr none 0 (.t 12)),
oP 14 (.load none (.t 13)),
oP 15 (.ixS 1 (.t 14) (cI 0)),
oP 16 (.load none (.t 15)),
mV 3 16] [0,3])
(.seq (.reg [mV 17 0,
mV 18 0,
oP 19 (.nilchk (.t 18)),
oP 20 (.fieldAddr none 0 (.t 19)),
oP 21 (.load none (.t 20)),
oP 22 (.subq 1 (.t 21) (some (cI 1)) none),
oP 23 (.nilchk (.t 17)),
oP 24 (.fieldAddr none 0 (.t 23)),
oN (.store 1 (.t 24) (.t 22))] [3])
(.seq (.reg [mV 25 3,
mV 2 25] [2])
.ret)))))
abbrev Lp:RsT:=[(2,none)]
theorem Kk:SpF 26 DF H2 Lp:=SpI Tryz.func89 (by kernel_rfl)
theorem nU:ak Tryz.prog DF = true:=by kernel_rfl
abbrev CS:FuncId:=90
def Dr:AC:=
(.seq (.reg [oP 2 (.alloc [.str ByteArray.empty, .int .i64 0, .int .i64 0, .int .i64 0, .slice 1 [], .int .i64 0, .int .i64 0])] [0,2])
(.seq (.reg [mV 4 0,
oP 5 (.call (.f 89) [false] [(.t 4)]),
oP 6 (.fieldAddr none 0 (.t 2)),
oN (.store 1 (.t 6) (.t 5))] [0,2])
(.seq (.reg [oP 7 (.call (.f 127) [] []),
mV 8 0,
oP 9 (.call (.f 89) [false] [(.t 8)]),
oP 10 (.call (.f 126) [true,false] [(.t 7),(.t 9)]),
mV 3 10] [0,2,3])
(.seq (.reg [mV 11 3,
oP 12 (.bin .geq (.t 11) (cI 0)),
oP 13 (.call (.f 87) [false] [(.t 12)])] [0,2,3])
(.seq (.reg [mV 14 3,
oP 15 (.bin .add (.t 14) (cI 1)),
oP 16 (.fieldAddr none 1 (.t 2)),
oN (.store 1 (.t 16) (.t 15))] [0,2])
(.seq (.reg [mV 17 0,
oP 18 (.call (.f 128) [false] [(.t 17)]),
oP 19 (.fieldAddr none 2 (.t 2)),
oN (.store 1 (.t 19) (.t 18))] [0,2])
(.seq (.reg [mV 20 0,
oP 21 (.call (.f 128) [false] [(.t 20)]),
oP 22 (.fieldAddr none 3 (.t 2)),
oN (.store 1 (.t 22) (.t 21))] [0,2])
(.seq (.reg [mV 23 0,
oP 24 (.call (.f 128) [false] [(.t 23)]),
oP 25 (.fieldAddr (some 2) 5 (.t 2)),
oP 26 (.fieldAddr none 0 (.t 25)),
oN (.store 1 (.t 26) (.t 24))] [0,2])
(.seq (.reg [mV 27 0,
oP 28 (.call (.f 128) [false] [(.t 27)]),
oP 29 (.fieldAddr (some 2) 5 (.t 2)),
oP 30 (.fieldAddr none 1 (.t 29)),
oN (.store 1 (.t 30) (.t 28))] [0,2])
(.seq (.reg [mV 31 0,
oP 32 (.nilchk (.t 31)),
oP 33 (.fieldAddr none 0 (.t 32)),
oP 34 (.load none (.t 33)),
oP 35 (.fieldAddr none 4 (.t 2)),
oN (.store 1 (.t 35) (.t 34))] [2])
(.seq (.reg [oP 36 (.loadd (some 7) (.t 2)),
oN (.store 7 (.t 2) (.t 36))] [2])
.ret)))))))))))
abbrev Nk:RsT:=[(2,some (some 7))]
theorem Fe:SpF 37 CS Dr Nk:=SpI Tryz.func90 (by kernel_rfl)
theorem ES:ak Tryz.prog CS = true:=by kernel_rfl
abbrev CM:FuncId:=91
def Je:AC:=
(.seq (.reg [oP 2 (.alloc [.int .i64 0, .int .i64 0, .str ByteArray.empty, .str ByteArray.empty, .int .i64 0, .int .i64 0, .int .i64 0, .slice 1 [], .int .i64 0, .int .i64 0])] [0,2])
(.seq (.reg [mV 3 0,
oP 4 (.call (.f 128) [false] [(.t 3)]),
oP 5 (.fieldAddr none 1 (.t 2)),
oN (.store 1 (.t 5) (.t 4))] [0,2])
(.seq (.seq (.reg [mV 6 0,
oP 7 (.call (.f 89) [false] [(.t 6)])] [0,2,7])
(.block 0
(.seq (.reg [⟨some 10,none, .bin .eql (.t 7) (.c (.str ⟨#[97,100,100]⟩))⟩,
mV 9 10] [0,2,7,9])
(.cond (.t 9)
(.reg [mV 11 0,
oP 12 (.call (.f 90) [false] [(.t 11)]),
oP 13 (.fieldAddr none 0 (.t 2)),
oN (.store 1 (.t 13) (cI 1)),
oP 14 (.fieldAddr (some 7) 3 (.t 2)),
oN (.store 7 (.t 14) (.t 12))] [2])
(.seq (.reg [⟨some 16,none, .bin .eql (.t 7) (.c (.str ⟨#[116,97,107,101]⟩))⟩,
mV 15 16] [0,2,7,15])
(.cond (.t 15)
(.seq (.reg [mV 17 0,
oP 18 (.call (.f 89) [false] [(.t 17)]),
oP 19 (.fieldAddr none 0 (.t 2)),
oN (.store 1 (.t 19) (cI 2)),
oP 20 (.fieldAddr none 2 (.t 2)),
oN (.store 1 (.t 20) (.t 18))] [0,2])
(.reg [mV 21 0,
oP 22 (.nilchk (.t 21)),
oP 23 (.fieldAddr none 0 (.t 22)),
oP 24 (.load none (.t 23)),
oP 25 (.len (.t 24)),
oP 26 (.bin .eql (.t 25) (cI 0)),
oP 27 (.call (.f 87) [false] [(.t 26)])] [2]))
(.seq (.reg [⟨some 29,none, .bin .eql (.t 7) (.c (.str ⟨#[115,119,97,112]⟩))⟩,
mV 28 29] [0,2,28])
(.cond (.t 28)
(.seq (.reg [mV 30 0,
oP 31 (.call (.f 89) [false] [(.t 30)]),
oP 32 (.fieldAddr none 0 (.t 2)),
oN (.store 1 (.t 32) (cI 3)),
oP 33 (.fieldAddr none 2 (.t 2)),
oN (.store 1 (.t 33) (.t 31))] [0,2])
(.reg [mV 34 0,
oP 35 (.call (.f 90) [false] [(.t 34)]),
oP 36 (.fieldAddr (some 7) 3 (.t 2)),
oN (.store 7 (.t 36) (.t 35))] [2]))
(.reg [oP 8 (.call (.f 87) [false] [(.c (.bool false))])] [2])))))))))
(.seq (.reg [oP 37 (.loadd (some 10) (.t 2)),
oN (.store 10 (.t 2) (.t 37))] [2])
.ret))))
abbrev LN:RsT:=[(2,some (some 10))]
theorem Of:SpF 38 CM Je LN:=SpI Tryz.func91 (by kernel_rfl)
theorem EX:ak Tryz.prog CM = true:=by kernel_rfl
abbrev AR:FuncId:=92
def CA:AC:=
(.seq (.reg [oP 4 (.mv (.c (.slice 1 [])))] [0,1])
(.seq (.reg [oP 5 (.nilS 1 1)] [0,1,5])
(.seq (.reg [⟨some 6,none, .mv (.c (.str ⟨#[]⟩))⟩] [0,1,5,6])
(.seq (.seq (.reg [oP 7 (.mv (cI 0))] [0,1,5,6,7])
(.block 0
(.loop [0,1,5,6,7]
(.seq (.seq (.reg [mV 8 7,
mV 9 0,
oP 10 (.lenStr (.t 9)),
oP 11 (.bin .lss (.t 8) (.t 10))] [0,1,5,6,7,11])
(.cond (.t 11)
.skip
(.exit 0)))
(.seq (.block 1
(.seq (.reg [mV 14 0,
mV 15 7,
oP 16 (.ixStr (.t 14) (.t 15)),
mV 17 1,
oP 18 (.bin .eql (.t 16) (.t 17))] [0,1,5,6,7,18])
(.cond (.t 18)
(.seq (.reg [mV 19 5,
mV 20 6,
oP 21 (.lit 0 1 1 [(0,(.t 20))]),
oP 22 (.append 1 16 (.t 19) (.t 21)),
mV 5 22] [0,1,5,7])
(.reg [⟨some 6,none, .mv (.c (.str ⟨#[]⟩))⟩] [0,1,5,6,7]))
(.reg [mV 23 6,
mV 24 0,
mV 25 7,
mV 26 7,
oP 27 (.bin .add (.t 26) (cI 1)),
oP 28 (.subStr (.t 24) (some (.t 25)) (some (.t 27))),
oP 29 (.bin .add (.t 23) (.t 28)),
mV 6 29] [0,1,5,6,7]))))
(.reg [mV 12 7,
oP 13 (.bin .add (.t 12) (cI 1)),
mV 7 13] [0,1,5,6,7]))))))
(.seq (.reg [mV 30 5,
mV 31 6,
oP 32 (.lit 0 1 1 [(0,(.t 31))]),
oP 33 (.append 1 16 (.t 30) (.t 32)),
oP 4 (.mvd (.t 33))] [4])
.ret)))))
abbrev Fk:RsT:=[(4,none)]
theorem G2:SpF 34 AR CA Fk:=SpI Tryz.func92 (by kernel_rfl)
theorem Bd:ak Tryz.prog AR = true:=by kernel_rfl
abbrev AN:FuncId:=93
def Bb:AC:=
(.seq (.reg [oP 2 (.alloc [.str ByteArray.empty, .int .i64 0, .int .i64 0, .int .i64 0, .slice 1 [], .int .i64 0, .int .i64 0])] [0,2])
(.seq (.seq (.reg [mV 4 0,
oP 5 (.len (.t 4)),
oP 6 (.bin .lss (.t 5) (cI 6))] [0,2,6])
(.cond (.t 6)
(.seq (.reg [oP 7 (.build [.str ByteArray.empty, .int .i64 0, .int .i64 0, .int .i64 0, .slice 1 [], .int .i64 0, .int .i64 0] []),
oN (.store 7 (.t 2) (.t 7))] [2])
.ret)
.skip))
(.seq (.dreg [mV 8 0,
oP 9 (.ixS 1 (.t 8) (cI 0)),
oP 10 (.load none (.t 9)),
oP 11 (.call (.f 129) [] []),
mV 12 0,
oP 13 (.ixS 1 (.t 12) (cI 1)),
oP 14 (.load none (.t 13)),
oP 15 (.call (.f 49) [true,false] [(.t 11),(.t 14)]),
mV 16 0,
oP 17 (.ixS 1 (.t 16) (cI 2)),
oP 18 (.load none (.t 17)),
oP 19 (.call (.f 130) [false] [(.t 18)]),
mV 20 0,
oP 21 (.ixS 1 (.t 20) (cI 3)),
oP 22 (.load none (.t 21)),
oP 23 (.call (.f 130) [false] [(.t 22)]),
mV 24 0,
oP 25 (.ixS 1 (.t 24) (cI 4)),
oP 26 (.load none (.t 25)),
oP 27 (.call (.f 130) [false] [(.t 26)]),
mV 28 0,
oP 29 (.ixS 1 (.t 28) (cI 5)),
oP 30 (.load none (.t 29)),
oP 31 (.call (.f 130) [false] [(.t 30)]),
oP 32 (.build [.int .i64 0, .int .i64 0] [(0,1,(.t 27)),(1,1,(.t 31))]),
oP 33 (.build [.str ByteArray.empty, .int .i64 0, .int .i64 0, .int .i64 0, .nils 1, .int .i64 0, .int .i64 0] [(0,1,(.t 10)),(1,1,(.t 15)),(2,1,(.t 19)),(3,1,(.t 23)),(5,2,(.t 32))]),
oP 3 (.alloc [.str ByteArray.empty, .int .i64 0, .int .i64 0, .int .i64 0, .slice 1 [], .int .i64 0, .int .i64 0]),
oN (.store 7 (.t 3) (.t 33))] [0,2,3] [[],[0],[0,1],[],[],[4],[4,5],[3,4,5,6],[],[8],[8,9],[3,4,5,6,7,8,9,10],[],[12],[12,13],[3,4,5,6,7,8,9,10,11,12,13,14],[],[16],[16,17],[3,4,5,6,7,8,9,10,11,12,13,14,15,16,17,18],[],[20],[20,21],[3,4,5,6,7,8,9,10,11,12,13,14,15,16,17,18,19,20,21,22],[3,4,5,6,7,8,9,10,11,12,13,14,15,16,17,18,19,20,21,22,23],[0,1,2,3,4,5,6,7,8,9,10,11,12,13,14,15,16,17,18,19,20,21,22,23,24],[],[0,1,2,3,4,5,6,7,8,9,10,11,12,13,14,15,16,17,18,19,20,21,22,23,24,25,26]])
(.seq (.creg [oP 34 (.fieldAddr none 4 (.t 3)),
oP 35 (.load none (.t 34)),
mV 36 0,
oP 37 (.subq 1 (.t 36) (some (cI 6)) none),
oP 38 (.append 1 16 (.t 35) (.t 37)),
oP 39 (.fieldAddr none 4 (.t 3)),
oN (.store 1 (.t 39) (.t 38))] [2,3] [[],[0],[],[2],[0,1,2,3],[0,1,2,3,4],[0,1,2,3,4,5]] [([0,1,2,3],4),([5],6)] [])
(.seq (.reg [oP 40 (.loadd (some 7) (.t 3)),
oN (.store 7 (.t 2) (.t 40))] [2])
.ret)))))
abbrev Ff:RsT:=[(2,some (some 7))]
theorem Ee:SpF 41 AN Bb Ff:=SpI Tryz.func93 (by kernel_rfl)
theorem zF:ak Tryz.prog AN = true:=by kernel_rfl
abbrev By:FuncId:=94
def tv:AC:=
(.seq (.reg [oP 2 (.alloc [.int .i64 0, .int .i64 0, .str ByteArray.empty, .str ByteArray.empty, .int .i64 0, .int .i64 0, .int .i64 0, .slice 1 [], .int .i64 0, .int .i64 0])] [0,2])
(.seq (.reg [mV 4 0,
oP 5 (.ixS 1 (.t 4) (cI 0)),
oP 6 (.load none (.t 5)),
oP 7 (.call (.f 130) [false] [(.t 6)]),
oP 8 (.build [.int .i64 0, .int .i64 0, .str ByteArray.empty, .str ByteArray.empty, .int .i64 0, .int .i64 0, .int .i64 0, .slice 1 [], .int .i64 0, .int .i64 0] [(1,1,(.t 7))]),
oP 3 (.alloc [.int .i64 0, .int .i64 0, .str ByteArray.empty, .str ByteArray.empty, .int .i64 0, .int .i64 0, .int .i64 0, .slice 1 [], .int .i64 0, .int .i64 0]),
oN (.store 10 (.t 3) (.t 8))] [0,2,3])
(.seq (.block 0
(.seq (.reg [mV 10 0,
oP 11 (.len (.t 10)),
oP 12 (.bin .gtr (.t 11) (cI 2)),
mV 13 12,
gT 14 13 (.mv (.t 0)),
gT 15 13 (.ixS 1 (.t 14) (cI 1)),
gT 16 13 (.load none (.t 15)),
⟨some 17,(some (13,true)), .bin .eql (.t 16) (.c (.str ⟨#[97,100,100]⟩))⟩,
oP 18 (.pick (.t 13) (.t 17) (.c (.bool false))),
mV 9 18] [0,2,3,9])
(.cond (.t 9)
(.reg [mV 19 0,
oP 20 (.subq 1 (.t 19) (some (cI 2)) none),
oP 21 (.call (.f 93) [true] [(.t 20)]),
oP 22 (.fieldAddr none 0 (.t 3)),
oN (.store 1 (.t 22) (cI 1)),
oP 23 (.fieldAddr (some 7) 3 (.t 3)),
oN (.store 7 (.t 23) (.t 21))] [2,3])
(.seq (.reg [mV 25 0,
oP 26 (.len (.t 25)),
oP 27 (.bin .eql (.t 26) (cI 3)),
mV 28 27,
gT 29 28 (.mv (.t 0)),
gT 30 28 (.ixS 1 (.t 29) (cI 1)),
gT 31 28 (.load none (.t 30)),
⟨some 32,(some (28,true)), .bin .eql (.t 31) (.c (.str ⟨#[116,97,107,101]⟩))⟩,
oP 33 (.pick (.t 28) (.t 32) (.c (.bool false))),
mV 24 33] [0,2,3,24])
(.cond (.t 24)
(.dreg [mV 34 0,
oP 35 (.ixS 1 (.t 34) (cI 2)),
oP 36 (.load none (.t 35)),
oP 37 (.fieldAddr none 0 (.t 3)),
oN (.store 1 (.t 37) (cI 2)),
oP 38 (.fieldAddr none 2 (.t 3)),
oN (.store 1 (.t 38) (.t 36))] [2,3] [[],[0],[0,1],[],[3],[0,1,2,3,4],[0,1,2,3,4,5]])
(.seq (.reg [mV 40 0,
oP 41 (.len (.t 40)),
oP 42 (.bin .gtr (.t 41) (cI 3)),
mV 43 42,
gT 44 43 (.mv (.t 0)),
gT 45 43 (.ixS 1 (.t 44) (cI 1)),
gT 46 43 (.load none (.t 45)),
⟨some 47,(some (43,true)), .bin .eql (.t 46) (.c (.str ⟨#[115,119,97,112]⟩))⟩,
oP 48 (.pick (.t 43) (.t 47) (.c (.bool false))),
mV 39 48] [0,2,3,39])
(.cond (.t 39)
(.dreg [mV 49 0,
oP 50 (.ixS 1 (.t 49) (cI 2)),
oP 51 (.load none (.t 50)),
mV 52 0,
oP 53 (.subq 1 (.t 52) (some (cI 3)) none),
oP 54 (.call (.f 93) [true] [(.t 53)]),
oP 55 (.fieldAddr none 0 (.t 3)),
oN (.store 1 (.t 55) (cI 3)),
oP 56 (.fieldAddr none 2 (.t 3)),
oN (.store 1 (.t 56) (.t 51)),
oP 57 (.fieldAddr (some 7) 3 (.t 3)),
oN (.store 7 (.t 57) (.t 54))] [2,3] [[],[0],[0,1],[],[3],[3,4],[],[3,4,5,6],[0,1,2,3,4,5,6,7],[0,1,2,3,4,5,6,7,8],[0,1,2,3,4,5,6,7,8,9],[0,1,2,3,4,5,6,7,8,9,10]])
.skip)))))))
(.seq (.reg [oP 58 (.loadd (some 10) (.t 3)),
oN (.store 10 (.t 2) (.t 58))] [2])
.ret))))
abbrev G8:RsT:=[(2,some (some 10))]
theorem Hd:SpF 59 By tv G8:=SpI Tryz.func94 (by kernel_rfl)
theorem E2:ak Tryz.prog By = true:=by kernel_rfl
abbrev HV:FuncId:=95
def Fw:AC:=
(.seq (.reg [oP 6 (.mv (cI 0))] [0,1,2])
(.seq (.reg [mV 8 0,
mV 9 1,
oP 10 (.call (.f 66) [true,false] [(.t 8),(.t 9)]),
mV 7 10] [0,2,7])
(.seq (.seq (.dreg [mV 11 7,
oP 12 (.bin .lss (.t 11) (cI 0)),
mV 13 12,
gF 14 13 (.mv (.t 2)),
gF 15 13 (.mv (.t 0)),
gF 16 13 (.mv (.t 7)),
gF 17 13 (.ixS 7 (.t 15) (.t 16)),
gF 18 13 (.fieldAddr none 2 (.t 17)),
gF 19 13 (.load none (.t 18)),
gF 20 13 (.mv (.t 0)),
gF 21 13 (.mv (.t 7)),
gF 22 13 (.ixS 7 (.t 20) (.t 21)),
gF 23 13 (.fieldAddr none 3 (.t 22)),
gF 24 13 (.load none (.t 23)),
gF 25 13 (.call (.f 54) [false,false,false] [(.t 14),(.t 19),(.t 24)]),
gF 26 13 (.un .not (.t 25)),
oP 27 (.pick (.t 13) (.c (.bool true)) (.t 26))] [0,7,27] [[],[0],[0,1],[0,1,2],[0,1,2],[0,1,2],[0,1,2,4,5],[0,1,2,4,5,6],[0,1,2,4,5,6,7],[0,1,2],[0,1,2],[0,1,2,9,10],[0,1,2,9,10,11],[0,1,2,9,10,11,12],[0,1,2,3,4,5,6,7,8,9,10,11,12,13],[0,1,2,3,4,5,6,7,8,9,10,11,12,13,14],[0,1,2,3,4,5,6,7,8,9,10,11,12,13,14,15]])
(.cond (.t 27)
(.seq (.reg [oP 6 (.mv (cI 0))] [6])
.ret)
.skip))
(.seq (.reg [mV 28 0,
mV 29 7,
oP 30 (.ixS 7 (.t 28) (.t 29)),
oP 31 (.fieldAddr none 1 (.t 30)),
oP 32 (.load none (.t 31)),
mV 6 32] [6])
.ret))))
abbrev Ou:RsT:=[(6,none)]
theorem ND:SpF 33 HV Fw Ou:=SpI Tryz.func95 (by kernel_rfl)
theorem Hr:ak Tryz.prog HV = true:=by kernel_rfl
abbrev FD:FuncId:=96
def CT:AC:=
(.seq (.reg [oP 5 (.pbox 7 (.t 1)),
oP 8 (.mv (cI 0))] [0,2,3,5])
(.seq (.block 0
(.seq (.reg [oP 11 (.fieldAddr none 0 (.t 5)),
oP 12 (.load none (.t 11)),
oP 13 (.call (.f 17) [false] [(.t 12)]),
oP 14 (.un .not (.t 13)),
mV 10 14] [0,2,3,5,10])
(.cond (.t 10)
(.seq (.reg [oP 8 (.mv (cI 6))] [8])
.ret)
(.seq (.reg [mV 16 0,
oP 17 (.fieldAddr none 0 (.t 5)),
oP 18 (.load none (.t 17)),
oP 19 (.call (.f 61) [false,false] [(.t 16),(.t 18)]),
oP 20 (.bin .geq (.t 19) (cI 0)),
mV 21 20,
gT 22 21 (.mv (.t 0)),
gT 23 21 (.fieldAddr none 0 (.t 5)),
gT 24 21 (.load none (.t 23)),
gT 25 21 (.call (.f 61) [false,false] [(.t 22),(.t 24)]),
gT 26 21 (.mv (.t 2)),
gT 27 21 (.bin .lss (.t 25) (.t 26)),
oP 28 (.pick (.t 21) (.t 27) (.c (.bool false))),
mV 29 28,
gF 30 29 (.mv (.t 3)),
gF 31 29 (.mkfunc (.func 132) [] [(.t 5)]),
gF 32 29 (.call (.f 131) [true,false] [(.t 30),(.t 31)]),
oP 33 (.pick (.t 29) (.c (.bool true)) (.t 32)),
mV 15 33] [0,2,5,15])
(.cond (.t 15)
(.seq (.reg [oP 8 (.mv (cI 5))] [8])
.ret)
(.seq (.reg [oP 35 (.fieldAddr none 1 (.t 5)),
oP 36 (.load none (.t 35)),
oP 37 (.lit 0 1 1 [(0,(.t 36))]),
oP 38 (.call (.f 60) [false,false,true] [(cI 1),(cI 5),(.t 37)]),
mV 39 38,
gF 40 39 (.fieldAddr none 2 (.t 5)),
gF 41 39 (.load none (.t 40)),
gF 42 39 (.fieldAddr none 3 (.t 5)),
gF 43 39 (.load none (.t 42)),
gF 44 39 (.lit 0 1 2 [(0,(.t 41)),(1,(.t 43))]),
gF 45 39 (.call (.f 60) [false,false,true] [(cI 0),(cI 40),(.t 44)]),
oP 46 (.pick (.t 39) (.c (.bool true)) (.t 45)),
mV 47 46,
gF 48 47 (.fieldAddr (some 2) 5 (.t 5)),
gF 49 47 (.fieldAddr none 0 (.t 48)),
gF 50 47 (.load none (.t 49)),
gF 51 47 (.fieldAddr (some 2) 5 (.t 5)),
gF 52 47 (.fieldAddr none 1 (.t 51)),
gF 53 47 (.load none (.t 52)),
gF 54 47 (.lit 0 1 2 [(0,(.t 50)),(1,(.t 53))]),
gF 55 47 (.call (.f 60) [false,false,true] [(cI 1),(cI 1000000),(.t 54)]),
oP 56 (.pick (.t 47) (.c (.bool true)) (.t 55)),
mV 34 56] [0,2,5,34])
(.cond (.t 34)
(.seq (.reg [oP 8 (.mv (cI 7))] [8])
.ret)
(.seq (.reg [oP 58 (.fieldAddr none 2 (.t 5)),
oP 59 (.load none (.t 58)),
oP 60 (.fieldAddr none 3 (.t 5)),
oP 61 (.load none (.t 60)),
oP 62 (.bin .gtr (.t 59) (.t 61)),
mV 63 62,
gF 64 63 (.fieldAddr (some 2) 5 (.t 5)),
gF 65 63 (.fieldAddr none 0 (.t 64)),
gF 66 63 (.load none (.t 65)),
gF 67 63 (.fieldAddr (some 2) 5 (.t 5)),
gF 68 63 (.fieldAddr none 1 (.t 67)),
gF 69 63 (.load none (.t 68)),
gF 70 63 (.bin .gtr (.t 66) (.t 69)),
oP 71 (.pick (.t 63) (.c (.bool true)) (.t 70)),
mV 57 71] [0,2,5,57])
(.cond (.t 57)
(.seq (.reg [oP 8 (.mv (cI 2))] [8])
.ret)
.skip)))))))))
(.seq (.reg [mV 72 0,
oP 73 (.nilchk (.t 72)),
oP 74 (.fieldAddr (some 1) 0 (.t 73)),
oP 75 (.fieldAddr none 0 (.t 74)),
oP 76 (.load none (.t 75)),
mV 77 2,
oP 78 (.subq 7 (.t 76) none (some (.t 77))),
oP 79 (.build [.slice 7 []] [(0,1,(.t 78))]),
oP 80 (.build [.slice 7 []] [(0,1,(.t 79))]),
oP 9 (.alloc [.slice 7 []]),
oN (.store 1 (.t 9) (.t 80))] [5,9])
(.seq (.block 1
(.seq (.reg [oP 82 (.fieldAddr none 4 (.t 5)),
oP 83 (.load none (.t 82)),
oP 84 (.mkfunc (.func 133) [] [(.t 9)]),
oP 85 (.call (.f 64) [true,false] [(.t 83),(.t 84)]),
mV 81 85] [5,9,81])
(.cond (.t 81)
(.seq (.reg [oP 8 (.mv (cI 4))] [8])
.ret)
(.seq (.reg [oP 87 (.fieldAddr none 4 (.t 5)),
oP 88 (.load none (.t 87)),
oP 89 (.call (.f 134) [true] [(.t 88)]),
mV 86 89] [5,9,86])
(.cond (.t 86)
(.seq (.reg [oP 8 (.mv (cI 5))] [8])
.ret)
(.seq (.reg [oP 91 (.fieldAddr none 4 (.t 5)),
oP 92 (.load none (.t 91)),
oP 93 (.mkfunc (.func 135) [] [(.t 5),(.t 9)]),
oP 94 (.call (.f 64) [true,false] [(.t 92),(.t 93)]),
mV 90 94] [90])
(.cond (.t 90)
(.seq (.reg [oP 8 (.mv (cI 9))] [8])
.ret)
.skip)))))))
(.seq (.reg [oP 8 (.mv (cI 0))] [8])
.ret)))))
abbrev Oc:RsT:=[(8,none)]
theorem EP:SpF 95 FD CT Oc:=SpI Tryz.func96 (by kernel_rfl)
theorem CI:ak Tryz.prog FD = true:=by kernel_rfl
end Go.AM
