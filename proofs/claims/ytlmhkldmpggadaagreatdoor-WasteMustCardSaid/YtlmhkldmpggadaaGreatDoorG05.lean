/- MADE BY PROGRAM (gen.py): the abstract code of functions of this seat, each checked against the given code by the kernel. -/
import Derived.Test.YtlmhkldmpggadaaGreatDoorG05a
import Derived.Test.YtlmhkldmpggadaaGreatDoorChecked
import Derived.Test.YtlmhkldmpggadaaGreatDoorP15
import Derived.Test.YtlmhkldmpggadaaGreatDoorP16
namespace Go.AM
open Go.Proofs
abbrev EA:FuncId:=128
def Fx:AC:=
(.seq (.reg [oP 3 (.pbox 5 (.t 0)),
oP 6 (.alloc [.int .i64 0, .int .i64 0])] [1,2,3,6])
(.seq (.reg [mV 11 1,
oP 12 (.lit 0 1 1 [(0,(.t 11))]),
mV 7 12] [1,2,3,6,7])
(.seq (.seq (.reg [oP 13 (.fieldAddr (some 5) 0 (.t 3)),
oP 14 (.fieldAddr none 3 (.t 13)),
oP 15 (.load none (.t 14)),
mV 16 1,
oP 17 (.ixS 5 (.t 15) (.t 16)),
oP 18 (.fieldAddr none 4 (.t 17)),
oP 19 (.load none (.t 18)),
mV 8 19] [1,2,3,6,7,8])
(.seq (.reg [mV 20 8,
oP 21 (.bin .geq (.t 20) (cI 0))] [1,2,3,6,7,8,21])
(.cond (.t 21)
(.reg [mV 22 1,
mV 23 8,
oP 24 (.mn [(.t 22),(.t 23)]),
mV 25 1,
mV 26 8,
oP 27 (.mx [(.t 25),(.t 26)]),
oP 28 (.lit 0 1 2 [(0,(.t 24)),(1,(.t 27))]),
mV 7 28] [2,3,6,7])
.skip)))
(.seq (.seq (.reg [mV 29 7,
oP 30 (.len (.t 29)),
oP 31 (.mv (cI 0))] [2,3,6,29,30,31])
(.block 0
(.loop [2,3,6,29,30,31]
(.seq (.reg [oP 32 (.bin .lss (.t 31) (.t 30))] [2,3,6,29,30,31,32])
(.seq (.cond (.t 32)
.skip
(.exit 0))
(.seq (.block 1
(.seq (.reg [oP 33 (.ixS 1 (.t 29) (.t 31)),
oP 34 (.load none (.t 33)),
mV 10 34] [2,3,6,10,29,30,31])
(.seq (.reg [mV 35 2,
mV 36 10,
oP 37 (.call (.f 130) [true,false] [(.t 35),(.t 36)]),
oP 38 (.un .not (.t 37))] [2,3,6,10,29,30,31,38])
(.cond (.t 38)
(.seq (.dreg [oP 39 (.fieldAddr (some 5) 0 (.t 3)),
oP 40 (.fieldAddr none 3 (.t 39)),
oP 41 (.load none (.t 40)),
mV 42 10,
oP 43 (.ixS 5 (.t 41) (.t 42)),
oP 44 (.fieldAddr none 3 (.t 43)),
oP 45 (.load none (.t 44)),
oP 46 (.fieldAddr (some 5) 0 (.t 3)),
oP 47 (.fieldAddr none 3 (.t 46)),
oP 48 (.load none (.t 47)),
mV 49 10,
oP 50 (.ixS 5 (.t 48) (.t 49)),
oP 51 (.fieldAddr none 3 (.t 50)),
oP 52 (.load none (.t 51)),
oP 53 (.build [.int .i64 0, .int .i64 0] [(0,1,(.t 45)),(1,1,(.t 52))]),
oN (.store 2 (.t 6) (.t 53))] [6] [[],[0],[0,1],[],[0,1,2,3],[0,1,2,3,4],[0,1,2,3,4,5],[],[7],[7,8],[],[7,8,9,10],[7,8,9,10,11],[7,8,9,10,11,12],[0,1,2,3,4,5,6,7,8,9,10,11,12,13],[0,1,2,3,4,5,6,7,8,9,10,11,12,13,14]])
.ret)
.skip))))
(.reg [oP 54 (.bin .add (.t 31) (cI 1)),
mV 31 54] [2,3,6,29,30,31])))))))
(.seq (.reg [oP 55 (.build [.int .i64 0, .int .i64 0] [(1,1,(cI 1000000))]),
oN (.store 2 (.t 6) (.t 55))] [6])
.ret)))))
abbrev JV:RsT:=[(6,some (some 2))]
theorem Mp:SpF 56 EA Fx JV:=SpI Tryz.func128 (by kernel_rfl)
theorem wS:ar Tryz.prog EA = true:=by kernel_rfl
abbrev Cs:FuncId:=130
def HR:AC:=
(.seq (.reg [oP 4 (.mv (.c (.bool false)))] [0,1])
(.seq (.reg [mV 5 0,
mV 6 1,
oP 7 (.call (.f 169) [true,false] [(.t 5),(.t 6)]),
oP 8 (.bin .geq (.t 7) (cI 0)),
mV 4 8] [4])
.ret))
abbrev LL:RsT:=[(4,none)]
theorem K8:SpF 9 Cs HR LL:=SpI Tryz.func130 (by kernel_rfl)
theorem B4:ar Tryz.prog Cs = true:=by kernel_rfl
abbrev EP:FuncId:=133
def Hg:AC:=
(.seq (.reg [oP 2 (.pbox 1 (.t 0))] [1,2])
(.seq (.reg [oP 3 (.alloc [.nilfunc])] [1,2,3])
(.seq (.reg [oP 5 (.mkfunc (.func 134) [] [(.t 2),(.t 1),(.t 3)]),
oN (.store 1 (.t 3) (.t 5))] [1,3])
(.seq (.reg [oP 6 (.fieldAddr (some 5) 0 (.t 1)),
oP 7 (.fieldAddr none 3 (.t 6)),
oP 8 (.load none (.t 7)),
oP 9 (.len (.t 8)),
oP 10 (.bin .add (.t 9) (cI 1)),
oP 11 (.mv (cI 0))] [3,10,11])
(.block 0
(.loop [3,10,11]
(.seq (.reg [oP 12 (.bin .lss (.t 11) (.t 10))] [3,10,11,12])
(.seq (.cond (.t 12)
.skip
(.exit 0))
(.seq (.block 1
(.seq (.reg [mV 13 11,
mV 4 13] [3,4,10,11])
(.seq (.reg [oP 14 (.load none (.t 3)),
mV 15 4,
oP 16 (.call (.t 14) [true,false,false] [(.c (.slice 1 [])),(cI 0),(.t 15)]),
oP 17 (.un .not (.t 16))] [3,10,11,17])
(.cond (.t 17)
.ret
.skip))))
(.reg [oP 18 (.bin .add (.t 11) (cI 1)),
mV 11 18] [3,10,11]))))))))))
abbrev JK:RsT:=[]
theorem L3:SpF 19 EP Hg JK:=SpI Tryz.func133 (by kernel_rfl)
theorem HK:ar Tryz.prog EP = true:=by kernel_rfl
abbrev DM:FuncId:=134
def FY:AC:=
(.seq (.reg [oP 9 (.mv (.c (.bool false)))] [0,1,2,3,4,5])
(.seq (.seq (.reg [mV 11 2,
oP 12 (.bin .eql (.t 11) (cI 0))] [0,1,2,3,4,5,12])
(.cond (.t 12)
(.seq (.reg [oP 13 (.load none (.t 3)),
mV 14 0,
oP 15 (.call (.t 13) [true] [(.t 14)]),
mV 9 15] [9])
.ret)
.skip))
(.seq (.seq (.reg [mV 16 1,
mV 10 16] [0,2,4,5,10])
(.block 0
(.loop [0,2,4,5,10]
(.seq (.seq (.reg [mV 17 10,
oP 18 (.fieldAddr (some 5) 0 (.t 4)),
oP 19 (.fieldAddr none 3 (.t 18)),
oP 20 (.load none (.t 19)),
oP 21 (.len (.t 20)),
mV 22 2,
oP 23 (.bin .sub (.t 21) (.t 22)),
oP 24 (.bin .leq (.t 17) (.t 23))] [0,2,4,5,10,24])
(.cond (.t 24)
.skip
(.exit 0)))
(.seq (.block 1
(.seq (.creg [oP 27 (.load none (.t 5)),
mV 28 0,
oP 29 (.call (.f 135) [true] [(.t 28)]),
mV 30 10,
oP 31 (.lit 0 1 1 [(0,(.t 30))]),
oP 32 (.append 1 8 (.t 29) (.t 31)),
mV 33 10,
oP 34 (.bin .add (.t 33) (cI 1)),
mV 35 2,
oP 36 (.bin .sub (.t 35) (cI 1)),
oP 37 (.call (.t 27) [true,false,false] [(.t 32),(.t 34),(.t 36)]),
oP 38 (.un .not (.t 37))] [0,2,4,5,10,38] [[],[],[1],[],[3],[1,2,3,4],[],[6],[],[8],[0,1,2,3,4,5,6,7,8,9],[0,1,2,3,4,5,6,7,8,9,10]] [([0,1,3,4,6,7,8,9],2),([],5),([],10)] [11])
(.cond (.t 38)
(.seq (.reg [oP 9 (.mv (.c (.bool false)))] [9])
.ret)
.skip)))
(.reg [mV 25 10,
oP 26 (.bin .add (.t 25) (cI 1)),
mV 10 26] [0,2,4,5,10]))))))
(.seq (.reg [oP 9 (.mv (.c (.bool true)))] [9])
.ret))))
abbrev KI:RsT:=[(9,none)]
theorem Hi:SpF 39 DM FY KI:=SpI Tryz.func134 (by kernel_rfl)
theorem Ih:ar Tryz.prog DM = true:=by kernel_rfl
abbrev En:FuncId:=135
def HF:AC:=
(.seq (.reg [oP 2 (.mv (.c (.slice 1 [])))] [0])
(.seq (.seq (.reg [mV 3 0,
oP 4 (.snil false (.t 3))] [0,4])
(.cond (.t 4)
(.seq (.reg [oP 2 (.nilS 3 1)] [2])
.ret)
.skip))
(.seq (.reg [oP 5 (.lit 1 1 0 []),
mV 6 0,
oP 7 (.append 1 8 (.t 5) (.t 6)),
mV 2 7] [2])
.ret)))
abbrev MU:RsT:=[(2,none)]
theorem MB:SpF 8 En HF MU:=SpI Tryz.func135 (by kernel_rfl)
theorem LQ:ar Tryz.prog En = true:=by kernel_rfl
abbrev Ic:FuncId:=136
theorem Lc:ar Tryz.prog Ic = true:=by kernel_rfl
abbrev yu:FuncId:=139
def He:AC:=
(.seq (.reg [oP 6 (.pbox 1 (.t 1)),
oP 7 (.pbox 1 (.t 2)),
oP 8 (.mv (cI 0))] [0,3,4,6,7])
(.seq (.reg [oP 9 (.mv (cI 0))] [0,3,4,6,7,9])
(.seq (.block 0
(.loop [0,3,4,6,7,9]
(.seq (.seq (.reg [mV 12 9,
oP 13 (.load none (.t 7)),
oP 14 (.bin .lss (.t 12) (.t 13))] [0,3,4,6,7,9,14])
(.cond (.t 14)
.skip
(.exit 0)))
(.block 1
(.seq (.reg [oP 16 (.load none (.t 3)),
mV 17 0,
oP 18 (.load none (.t 7)),
mV 19 9,
oP 20 (.bin .sub (.t 18) (.t 19)),
oP 21 (.load none (.t 4)),
oP 22 (.mkfunc (.func 141) [] [(.t 6),(.t 7)]),
oP 23 (.call (.f 140) [false,false,false,false,false] [(.t 16),(.t 17),(.t 20),(.t 21),(.t 22)]),
mV 15 23,
oP 24 (.extract (.t 15) 0),
oP 25 (.extract (.t 15) 1),
mV 10 24,
mV 11 25] [0,3,4,6,7,9,10])
(.seq (.seq (.reg [mV 26 10,
oP 27 (.bin .eql (.t 26) (cI 0))] [0,3,4,6,7,9,10,27])
(.cond (.t 27)
(.exit 0)
.skip))
(.reg [mV 28 9,
mV 29 10,
oP 30 (.bin .add (.t 28) (.t 29)),
mV 9 30] [0,3,4,6,7,9])))))))
(.seq (.reg [mV 31 9,
mV 8 31] [8])
.ret))))
abbrev Lr:RsT:=[(8,none)]
theorem Kz:SpF 32 yu He Lr:=SpI Tryz.func139 (by kernel_rfl)
theorem Hp:ar Tryz.prog yu = true:=by kernel_rfl
abbrev Ed:FuncId:=140
def Hd:AC:=
(.seq (.reg [oP 5 (.pbox 1 (.t 0)),
oP 10 (.mv (cI 0)),
oP 11 (.mv (cI 0))] [1,2,3,4,5])
(.seq (.reg [oP 23 (.load none (.t 5)),
oP 24 (.nilchk (.t 23)),
oP 25 (.fieldAddr none 1 (.t 24)),
oP 26 (.load none (.t 25)),
oP 27 (.mksl 2 1 8 (.int .i64 0) (.t 26) (.t 26)),
mV 12 27] [1,2,3,4,5,12])
(.seq (.reg [mV 28 12,
mV 29 1,
oP 30 (.ixS 1 (.t 28) (.t 29)),
oN (.store 1 (.t 30) (cI (-1)))] [1,2,3,4,5,12])
(.seq (.reg [oP 31 (.mkfunc (.func 182) [] [(.t 5)]),
mV 13 31] [1,2,3,4,5,12,13])
(.seq (.seq (.reg [mV 32 1,
oP 33 (.lit 1 1 1 [(0,(.t 32))]),
mV 14 33] [1,2,3,4,5,12,13,14])
(.block 0
(.loop [1,2,3,4,5,12,13,14]
(.seq (.seq (.reg [mV 34 14,
oP 35 (.len (.t 34)),
oP 36 (.bin .gtr (.t 35) (cI 0))] [1,2,3,4,5,12,13,14,36])
(.cond (.t 36)
.skip
(.exit 0)))
(.seq (.block 1
(.seq (.reg [mV 39 14,
oP 40 (.ixS 1 (.t 39) (cI 0)),
oP 41 (.load none (.t 40)),
mV 15 41] [1,2,3,4,5,12,13,14,15])
(.seq (.seq (.reg [mV 42 15,
mV 43 1,
oP 44 (.bin .neq (.t 42) (.t 43)),
mV 45 44,
gT 46 45 (.mv (.t 4)),
gT 47 45 (.mv (.t 15)),
gT 48 45 (.call (.t 46) [false] [(.t 47)]),
gT 49 45 (.bin .gtr (.t 48) (cI 0)),
oP 50 (.pick (.t 45) (.t 49) (.c (.bool false)))] [1,2,3,4,5,12,13,14,15,50])
(.cond (.t 50)
(.seq (.reg [mV 51 2,
mV 52 4,
mV 53 15,
oP 54 (.call (.t 52) [false] [(.t 53)]),
oP 55 (.mn [(.t 51),(.t 54)]),
mV 10 55] [1,5,10,12,13,15])
(.seq (.seq (.reg [mV 56 15,
mV 16 56] [1,5,10,12,13,15,16])
(.block 2
(.loop [1,5,10,12,13,15,16]
(.seq (.seq (.reg [mV 57 16,
mV 58 1,
oP 59 (.bin .neq (.t 57) (.t 58))] [1,5,10,12,13,15,16,59])
(.cond (.t 59)
.skip
(.exit 2)))
(.seq (.block 3
(.seq (.reg [mV 68 12,
mV 69 16,
oP 70 (.ixS 1 (.t 68) (.t 69)),
oP 71 (.load none (.t 70)),
oP 72 (.bin .sub (.t 71) (cI 1)),
mV 17 72] [1,5,10,12,13,15,16,17])
(.dreg [mV 73 10,
oP 74 (.load none (.t 5)),
oP 75 (.nilchk (.t 74)),
oP 76 (.fieldAddr none 0 (.t 75)),
oP 77 (.load none (.t 76)),
mV 78 17,
oP 79 (.ixS 5 (.t 77) (.t 78)),
oP 80 (.load (some 5) (.t 79)),
mV 81 13,
mV 82 17,
mV 83 16,
oP 84 (.call (.t 81) [false,false] [(.t 82),(.t 83)]),
oP 85 (.call (.f 183) [false,false] [(.t 80),(.t 84)]),
oP 86 (.mn [(.t 73),(.t 85)]),
mV 10 86] [1,5,10,12,13,15,16] [[],[],[1],[1,2],[1,2,3],[],[1,2,3,4,5],[1,2,3,4,5,6],[],[],[],[8,9,10],[1,2,3,4,5,6,7,8,9,10,11],[0,1,2,3,4,5,6,7,8,9,10,11,12],[0,1,2,3,4,5,6,7,8,9,10,11,12,13]])))
(.reg [mV 60 13,
mV 61 12,
mV 62 16,
oP 63 (.ixS 1 (.t 61) (.t 62)),
oP 64 (.load none (.t 63)),
oP 65 (.bin .sub (.t 64) (cI 1)),
mV 66 16,
oP 67 (.call (.t 60) [false,false] [(.t 65),(.t 66)]),
mV 16 67] [1,5,10,12,13,15,16]))))))
(.seq (.seq (.reg [mV 87 15,
mV 18 87] [1,5,10,12,13,15,18])
(.block 4
(.loop [1,5,10,12,13,15,18]
(.seq (.seq (.reg [mV 88 18,
mV 89 1,
oP 90 (.bin .neq (.t 88) (.t 89))] [1,5,10,12,13,15,18,90])
(.cond (.t 90)
.skip
(.exit 4)))
(.block 5
(.seq (.reg [mV 91 12,
mV 92 18,
oP 93 (.ixS 1 (.t 91) (.t 92)),
oP 94 (.load none (.t 93)),
oP 95 (.bin .sub (.t 94) (cI 1)),
mV 19 95] [1,5,10,12,13,15,18,19])
(.seq (.reg [mV 96 13,
mV 97 19,
mV 98 18,
oP 99 (.call (.t 96) [false,false] [(.t 97),(.t 98)]),
mV 20 99] [1,5,10,12,13,15,19,20])
(.seq (.seq (.reg [mV 100 20,
oP 101 (.load none (.t 5)),
oP 102 (.nilchk (.t 101)),
oP 103 (.fieldAddr none 0 (.t 102)),
oP 104 (.load none (.t 103)),
mV 105 19,
oP 106 (.ixS 5 (.t 104) (.t 105)),
oP 107 (.fieldAddr none 0 (.t 106)),
oP 108 (.load none (.t 107)),
oP 109 (.bin .eql (.t 100) (.t 108))] [1,5,10,12,13,15,19,20,109])
(.cond (.t 109)
(.reg [oP 110 (.load none (.t 5)),
oP 111 (.nilchk (.t 110)),
oP 112 (.fieldAddr none 0 (.t 111)),
oP 113 (.load none (.t 112)),
mV 114 19,
oP 115 (.ixS 5 (.t 113) (.t 114)),
oP 116 (.fieldAddr none 4 (.t 115)),
oP 117 (.load none (.t 116)),
mV 118 10,
oP 119 (.bin .add (.t 117) (.t 118)),
oP 120 (.ixS 5 (.t 113) (.t 114)),
oP 121 (.fieldAddr none 4 (.t 120)),
oN (.store 1 (.t 121) (.t 119))] [1,5,10,12,13,15,20])
(.reg [oP 122 (.load none (.t 5)),
oP 123 (.nilchk (.t 122)),
oP 124 (.fieldAddr none 0 (.t 123)),
oP 125 (.load none (.t 124)),
mV 126 19,
oP 127 (.ixS 5 (.t 125) (.t 126)),
oP 128 (.fieldAddr none 4 (.t 127)),
oP 129 (.load none (.t 128)),
mV 130 10,
oP 131 (.bin .sub (.t 129) (.t 130)),
oP 132 (.ixS 5 (.t 125) (.t 126)),
oP 133 (.fieldAddr none 4 (.t 132)),
oN (.store 1 (.t 133) (.t 131))] [1,5,10,12,13,15,20])))
(.reg [mV 134 20,
mV 18 134] [1,5,10,12,13,15,18])))))))))
(.seq (.reg [mV 135 10,
mV 136 15,
mV 10 135,
mV 11 136] [10,11])
.ret))))
.skip))
(.seq (.reg [oP 137 (.load none (.t 5)),
oP 138 (.nilchk (.t 137)),
oP 139 (.fieldAddr none 0 (.t 138)),
oP 140 (.load none (.t 139)),
oP 141 (.len (.t 140)),
oP 142 (.mv (cI 0))] [1,2,3,4,5,12,13,14,15,140,141,142])
(.block 6
(.loop [1,2,3,4,5,12,13,14,15,140,141,142]
(.seq (.reg [oP 143 (.bin .lss (.t 142) (.t 141))] [1,2,3,4,5,12,13,14,15,140,141,142,143])
(.seq (.cond (.t 143)
.skip
(.exit 6))
(.seq (.block 7
(.seq (.reg [mV 144 142,
oP 145 (.ixS 5 (.t 140) (.t 142)),
oP 146 (.load (some 5) (.t 145)),
oP 22 (.alloc [.int .i64 0, .int .i64 0, .int .i64 0, .int .i64 0, .int .i64 0]),
mV 21 144,
oN (.store 5 (.t 22) (.t 146))] [1,2,3,4,5,12,13,14,15,21,22,140,141,142])
(.frz 22 true (.seq (.seq (.reg [mV 147 21,
mV 148 3,
oP 149 (.bin .eql (.t 147) (.t 148)),
mV 150 149,
gF 151 150 (.mv (.t 15)),
gF 152 150 (.fieldAddr none 0 (.t 22)),
gF 153 150 (.load none (.t 152)),
gF 154 150 (.bin .neq (.t 151) (.t 153)),
gF 155 150 (.mv (.t 154)),
gT 156 155 (.mv (.t 15)),
gT 157 155 (.fieldAddr none 1 (.t 22)),
gT 158 155 (.load none (.t 157)),
gT 159 155 (.bin .neq (.t 156) (.t 158)),
gF 160 150 (.pick (.t 155) (.t 159) (.c (.bool false))),
oP 161 (.pick (.t 150) (.c (.bool true)) (.t 160)),
mV 162 161,
gF 163 162 (.load (some 5) (.t 22)),
gF 164 162 (.mv (.t 15)),
gF 165 162 (.call (.f 183) [false,false] [(.t 163),(.t 164)]),
gF 166 162 (.bin .leq (.t 165) (cI 0)),
oP 167 (.pick (.t 162) (.c (.bool true)) (.t 166)),
mV 168 167,
gF 169 168 (.mv (.t 12)),
gF 170 168 (.mv (.t 13)),
gF 171 168 (.mv (.t 21)),
gF 172 168 (.mv (.t 15)),
gF 173 168 (.call (.t 170) [false,false] [(.t 171),(.t 172)]),
gF 174 168 (.ixS 1 (.t 169) (.t 173)),
gF 175 168 (.load none (.t 174)),
gF 176 168 (.bin .neq (.t 175) (cI 0)),
oP 177 (.pick (.t 168) (.c (.bool true)) (.t 176))] [1,2,3,4,5,12,13,14,15,21,140,141,142,177])
(.cond (.t 177)
(.exit 7)
.skip))
(.seq (.reg [mV 178 12,
mV 179 13,
mV 180 21,
mV 181 15,
oP 182 (.call (.t 179) [false,false] [(.t 180),(.t 181)]),
mV 183 21,
oP 184 (.bin .add (.t 183) (cI 1)),
oP 185 (.ixS 1 (.t 178) (.t 182)),
oN (.store 1 (.t 185) (.t 184))] [1,2,3,4,5,12,13,14,15,21,140,141,142])
(.reg [mV 186 14,
mV 187 13,
mV 188 21,
mV 189 15,
oP 190 (.call (.t 187) [false,false] [(.t 188),(.t 189)]),
oP 191 (.lit 0 1 1 [(0,(.t 190))]),
oP 192 (.append 1 8 (.t 186) (.t 191)),
mV 14 192] [1,2,3,4,5,12,13,14,15,140,141,142]))))))
(.reg [oP 193 (.bin .add (.t 142) (cI 1)),
mV 142 193] [1,2,3,4,5,12,13,14,15,140,141,142]))))))))))
(.reg [mV 37 14,
oP 38 (.subO 1 (.t 37) (cI 1)),
mV 14 38] [1,2,3,4,5,12,13,14]))))))
(.seq (.reg [oP 10 (.mv (cI 0)),
oP 11 (.mv (cI 0))] [10,11])
.ret))))))
abbrev LO:RsT:=[(10,none),(11,none)]
theorem JN:SpF 194 Ed Hd LO:=SpI Tryz.func140 (by kernel_rfl)
theorem Hx:ar Tryz.prog Ed = true:=by kernel_rfl
abbrev Cj:FuncId:=141
def D2:AC:=
(.seq (.reg [oP 4 (.mv (cI 0))] [0,1,2])
(.seq (.seq (.reg [mV 5 0,
oP 6 (.load none (.t 1)),
oP 7 (.bin .eql (.t 5) (.t 6))] [2,7])
(.cond (.t 7)
(.seq (.reg [oP 8 (.load none (.t 2)),
mV 4 8] [4])
.ret)
.skip))
(.seq (.reg [oP 4 (.mv (cI 0))] [4])
.ret)))
abbrev Kt:RsT:=[(4,none)]
theorem Mn:SpF 9 Cj D2 Kt:=SpI Tryz.func141 (by kernel_rfl)
theorem Mx:ar Tryz.prog Cj = true:=by kernel_rfl
abbrev Et:FuncId:=143
def Ik:AC:=
(.reg [mV 3 0,
⟨some 4,none, .call (.f 145) [true,false] [(.t 3),(.c (.str ⟨#[32]⟩))]⟩,
⟨some 5,none, .bin .add (.t 4) (.c (.str ⟨#[10]⟩))⟩,
oP 6 (.call (.f 144) [true,false] [(.t 1),(.t 5)])] [])
abbrev LU:RsT:=[]
theorem MR:SpF 7 Et Ik LU:=SpI Tryz.func143 (by kernel_rfl)
theorem HV:ar Tryz.prog Et = true:=by kernel_rfl
abbrev Ie:FuncId:=144
theorem K6:ar Tryz.prog Ie = true:=by kernel_rfl
abbrev HA:FuncId:=145
theorem Lf:ar Tryz.prog HA = true:=by kernel_rfl
abbrev E9:FuncId:=146
def HE:AC:=
(.seq (.reg [mV 8 1,
oP 9 (.len (.t 8)),
oP 10 (.mv (cI 0))] [0,2,3,8,9,10])
(.block 0
(.loop [0,2,3,8,9,10]
(.seq (.reg [oP 11 (.bin .lss (.t 10) (.t 9))] [0,2,3,8,9,10,11])
(.seq (.cond (.t 11)
.skip
(.exit 0))
(.seq (.block 1
(.seq (.reg [oP 12 (.ixS 4 (.t 8) (.t 10)),
oP 13 (.load (some 4) (.t 12)),
oP 7 (.alloc [.int .i64 0, .int .i64 0, .int .i64 0, .int .i64 0]),
oN (.store 4 (.t 7) (.t 13))] [0,2,3,7,8,9,10])
(.frz 7 true (.creg [oP 14 (.load none (.t 2)),
mV 15 0,
oP 16 (.fieldAddr (some 5) 0 (.t 3)),
oP 17 (.fieldAddr none 0 (.t 16)),
oP 18 (.load none (.t 17)),
oP 19 (.fieldAddr none 0 (.t 7)),
oP 20 (.load none (.t 19)),
oP 21 (.ixS 1 (.t 18) (.t 20)),
oP 22 (.load none (.t 21)),
oP 23 (.fieldAddr (some 5) 0 (.t 3)),
oP 24 (.fieldAddr none 1 (.t 23)),
oP 25 (.load none (.t 24)),
oP 26 (.fieldAddr none 1 (.t 7)),
oP 27 (.load none (.t 26)),
oP 28 (.ixS 1 (.t 25) (.t 27)),
oP 29 (.load none (.t 28)),
oP 30 (.fieldAddr (some 2) 2 (.t 7)),
oP 31 (.fieldAddr none 0 (.t 30)),
oP 32 (.load none (.t 31)),
oP 33 (.call (.f 147) [false] [(.t 32)]),
oP 34 (.fieldAddr (some 2) 2 (.t 7)),
oP 35 (.fieldAddr none 1 (.t 34)),
oP 36 (.load none (.t 35)),
oP 37 (.call (.f 147) [false] [(.t 36)]),
oP 38 (.lit 0 1 5 [(0,(.t 15)),(1,(.t 22)),(2,(.t 29)),(3,(.t 33)),(4,(.t 37))]),
oP 39 (.call (.t 14) [true] [(.t 38)])] [0,2,3,8,9,10] [[],[],[],[2],[2,3],[],[5],[2,3,4,5,6],[2,3,4,5,6,7],[],[9],[9,10],[],[12],[9,10,11,12,13],[9,10,11,12,13,14],[],[16],[16,17],[16,17,18],[],[20],[20,21],[16,17,18,19,20,21,22],[1,2,3,4,5,6,7,8,9,10,11,12,13,14,15,16,17,18,19,20,21,22,23],[0,1,2,3,4,5,6,7,8,9,10,11,12,13,14,15,16,17,18,19,20,21,22,23,24]] [([0,1,2,3,4,5,6,7,8,9,10,11,12,13,14,15,16,17,18,19,20,21,22,23],24),([],25)] []))))
(.reg [oP 40 (.bin .add (.t 10) (cI 1)),
mV 10 40] [0,2,3,8,9,10])))))))
abbrev JW:RsT:=[]
theorem MT:SpF 41 E9 HE JW:=SpI Tryz.func146 (by kernel_rfl)
theorem Lb:ar Tryz.prog E9 = true:=by kernel_rfl
abbrev HZ:FuncId:=147
theorem zS:ar Tryz.prog HZ = true:=by kernel_rfl
abbrev FF:FuncId:=148
def FW:AC:=
(.seq (.reg [⟨some 3,none, .mv (.c (.str ⟨#[]⟩))⟩] [0,1])
(.seq (.seq (.reg [mV 4 0,
oP 5 (.bin .eql (.t 4) (cI (-1)))] [0,1,5])
(.cond (.t 5)
(.seq (.reg [⟨some 3,none, .mv (.c (.str ⟨#[45]⟩))⟩] [3])
.ret)
.skip))
(.seq (.reg [oP 6 (.fieldAddr (some 5) 0 (.t 1)),
oP 7 (.fieldAddr none 1 (.t 6)),
oP 8 (.load none (.t 7)),
mV 9 0,
oP 10 (.ixS 1 (.t 8) (.t 9)),
oP 11 (.load none (.t 10)),
mV 3 11] [3])
.ret)))
abbrev Kd:RsT:=[(3,none)]
theorem J6:SpF 12 FF FW Kd:=SpI Tryz.func148 (by kernel_rfl)
theorem HU:ar Tryz.prog FF = true:=by kernel_rfl
abbrev LX:FuncId:=149
theorem K1:ar Tryz.prog LX = true:=by kernel_rfl
abbrev Cg:FuncId:=155
def uu:AC:=
(.seq (.reg [oP 2 (.alloc [.int .i64 0, .int .i64 0, .int .i64 0, .int .i64 0])] [0,1,2])
(.seq (.reg [oP 3 (.load none (.t 0)),
oP 4 (.len (.t 3)),
oP 5 (.bin .eql (.t 4) (cI 5)),
oP 6 (.call (.f 100) [false] [(.t 5)])] [0,1,2])
(.seq (.creg [oP 7 (.load none (.t 1)),
oP 8 (.nilchk (.t 7)),
oP 9 (.fieldAddr (some 5) 0 (.t 8)),
oP 10 (.fieldAddr none 0 (.t 9)),
oP 11 (.load none (.t 10)),
oP 12 (.load none (.t 0)),
oP 13 (.ixS 1 (.t 12) (cI 1)),
oP 14 (.load none (.t 13)),
oP 15 (.call (.f 156) [true,false,false] [(.t 11),(.t 14),(.c (.bool false))]),
oP 16 (.load none (.t 1)),
oP 17 (.nilchk (.t 16)),
oP 18 (.fieldAddr (some 5) 0 (.t 17)),
oP 19 (.fieldAddr none 1 (.t 18)),
oP 20 (.load none (.t 19)),
oP 21 (.load none (.t 0)),
oP 22 (.ixS 1 (.t 21) (cI 2)),
oP 23 (.load none (.t 22)),
oP 24 (.call (.f 156) [true,false,false] [(.t 20),(.t 23),(.c (.bool false))]),
oP 25 (.load none (.t 0)),
oP 26 (.ixS 1 (.t 25) (cI 3)),
oP 27 (.load none (.t 26)),
oP 28 (.call (.f 157) [false,false] [(.t 27),(.c (.bool false))]),
oP 29 (.load none (.t 0)),
oP 30 (.ixS 1 (.t 29) (cI 4)),
oP 31 (.load none (.t 30)),
oP 32 (.call (.f 157) [false,false] [(.t 31),(.c (.bool false))]),
oP 33 (.build [.int .i64 0, .int .i64 0] [(0,1,(.t 28)),(1,1,(.t 32))]),
oP 34 (.build [.int .i64 0, .int .i64 0, .int .i64 0, .int .i64 0] [(0,1,(.t 15)),(1,1,(.t 24)),(2,2,(.t 33))]),
oN (.store 4 (.t 2) (.t 34))] [2] [[],[0],[0,1],[0,1,2],[0,1,2,3],[],[5],[5,6],[0,1,2,3,4,5,6,7],[],[9],[9,10],[9,10,11],[9,10,11,12],[],[14],[14,15],[0,1,2,3,4,5,6,7,8,9,10,11,12,13,14,15,16],[],[18],[18,19],[0,1,2,3,4,5,6,7,8,9,10,11,12,13,14,15,16,17,18,19,20],[],[22],[22,23],[0,1,2,3,4,5,6,7,8,9,10,11,12,13,14,15,16,17,18,19,20,21,22,23,24],[0,1,2,3,4,5,6,7,8,9,10,11,12,13,14,15,16,17,18,19,20,21,22,23,24,25],[0,1,2,3,4,5,6,7,8,9,10,11,12,13,14,15,16,17,18,19,20,21,22,23,24,25,26],[0,1,2,3,4,5,6,7,8,9,10,11,12,13,14,15,16,17,18,19,20,21,22,23,24,25,26,27]] [([0,1,2,3,4,5,6,7,9,10,11,12,13,14,15,16,18,19,20,22,23,24],8),([],17),([],21),([],25),([26,27],28)] [])
.ret)))
abbrev Lk:RsT:=[(2,some (some 4))]
theorem HT:SpF 35 Cg uu Lk:=SpI Tryz.func155 (by kernel_rfl)
theorem BM:ar Tryz.prog Cg = true:=by kernel_rfl
abbrev Fi:FuncId:=156
def yF:AC:=
(.seq (.reg [oP 6 (.mv (cI 0))] [0,1,2])
(.seq (.reg [mV 8 0,
mV 9 1,
oP 10 (.call (.f 161) [true,false] [(.t 8),(.t 9)]),
mV 7 10] [1,2,7])
(.seq (.reg [mV 11 7,
oP 12 (.bin .geq (.t 11) (cI 0)),
mV 13 12,
gF 14 13 (.mv (.t 2)),
gF 15 13 (.mv (.t 14)),
gT 16 15 (.mv (.t 1)),
⟨some 17,(some (15,true)), .bin .eql (.t 16) (.c (.str ⟨#[45]⟩))⟩,
gF 18 13 (.pick (.t 15) (.t 17) (.c (.bool false))),
oP 19 (.pick (.t 13) (.c (.bool true)) (.t 18)),
oP 20 (.call (.f 100) [false] [(.t 19)])] [7])
(.seq (.reg [mV 21 7,
mV 6 21] [6])
.ret))))
abbrev J7:RsT:=[(6,none)]
theorem Mw:SpF 22 Fi yF J7:=SpI Tryz.func156 (by kernel_rfl)
theorem dT:ar Tryz.prog Fi = true:=by kernel_rfl
abbrev Eh:FuncId:=157
def rA:AC:=
(.seq (.reg [oP 4 (.mv (cI 0))] [0,1])
(.seq (.seq (.reg [mV 7 1,
mV 8 7,
gT 9 8 (.mv (.t 0)),
⟨some 10,(some (8,true)), .bin .eql (.t 9) (.c (.str ⟨#[45]⟩))⟩,
oP 11 (.pick (.t 8) (.t 10) (.c (.bool false)))] [0,11])
(.cond (.t 11)
(.seq (.reg [oP 4 (.mv (cI (-1)))] [4])
.ret)
.skip))
(.seq (.reg [mV 13 0,
oP 14 (.call (.f 188) [false] [(.t 13)]),
mV 12 14,
oP 15 (.extract (.t 12) 0),
oP 16 (.extract (.t 12) 1),
mV 5 15,
mV 6 16] [5,6])
(.seq (.reg [mV 17 6,
oP 18 (.isnil false (.t 17)),
mV 19 18,
gT 20 19 (.mv (.t 5)),
gT 21 19 (.bin .geq (.t 20) (cI 0)),
oP 22 (.pick (.t 19) (.t 21) (.c (.bool false))),
oP 23 (.call (.f 100) [false] [(.t 22)])] [5])
(.seq (.reg [mV 24 5,
mV 4 24] [4])
.ret)))))
abbrev LN:RsT:=[(4,none)]
theorem Ks:SpF 25 Eh rA LN:=SpI Tryz.func157 (by kernel_rfl)
theorem n9:ar Tryz.prog Eh = true:=by kernel_rfl
abbrev Fz:FuncId:=159
def Im:AC:=
(.seq (.reg [oP 4 (.mv (cI 0))] [0,1])
(.seq (.seq (.reg [oP 5 (.mv (cI 0))] [0,1,5])
(.block 0
(.loop [0,1,5]
(.seq (.seq (.reg [mV 6 5,
mV 7 0,
oP 8 (.len (.t 7)),
oP 9 (.bin .lss (.t 6) (.t 8))] [0,1,5,9])
(.cond (.t 9)
.skip
(.exit 0)))
(.seq (.block 1
(.seq (.reg [mV 12 0,
mV 13 5,
oP 14 (.ixS 1 (.t 12) (.t 13)),
oP 15 (.load none (.t 14)),
mV 16 1,
oP 17 (.bin .eql (.t 15) (.t 16))] [0,1,5,17])
(.cond (.t 17)
(.seq (.reg [mV 18 5,
mV 4 18] [4])
.ret)
.skip)))
(.reg [mV 10 5,
oP 11 (.bin .add (.t 10) (cI 1)),
mV 5 11] [0,1,5]))))))
(.seq (.reg [oP 4 (.mv (cI (-1)))] [4])
.ret)))
abbrev Le:RsT:=[(4,none)]
theorem L6:SpF 19 Fz Im Le:=SpI Tryz.func159 (by kernel_rfl)
theorem KJ:ar Tryz.prog Fz = true:=by kernel_rfl
abbrev Fo:FuncId:=160
def Hf:AC:=
(.seq (.reg [oP 4 (.mv (cI 0))] [0,1])
(.seq (.seq (.reg [mV 6 0,
oP 7 (.len (.t 6)),
oP 8 (.mv (cI 0))] [0,1,7,8])
(.block 0
(.loop [0,1,7,8]
(.seq (.reg [oP 9 (.bin .lss (.t 8) (.t 7))] [0,1,7,8,9])
(.seq (.cond (.t 9)
.skip
(.exit 0))
(.seq (.block 1
(.seq (.reg [mV 10 8,
mV 5 10] [0,1,5,7,8])
(.seq (.reg [mV 11 1,
mV 12 0,
mV 13 5,
oP 14 (.ixS 1 (.t 12) (.t 13)),
oP 15 (.load none (.t 14)),
oP 16 (.call (.t 11) [false] [(.t 15)])] [0,1,5,7,8,16])
(.cond (.t 16)
(.seq (.reg [mV 17 5,
mV 4 17] [4])
.ret)
.skip))))
(.reg [oP 18 (.bin .add (.t 8) (cI 1)),
mV 8 18] [0,1,7,8])))))))
(.seq (.reg [oP 4 (.mv (cI (-1)))] [4])
.ret)))
abbrev JY:RsT:=[(4,none)]
theorem KX:SpF 19 Fo Hf JY:=SpI Tryz.func160 (by kernel_rfl)
theorem JT:ar Tryz.prog Fo = true:=by kernel_rfl
abbrev EF:FuncId:=161
def HY:AC:=
(.seq (.reg [oP 4 (.mv (cI 0))] [0,1])
(.seq (.seq (.reg [mV 6 0,
oP 7 (.len (.t 6)),
oP 8 (.mv (cI 0))] [0,1,7,8])
(.block 0
(.loop [0,1,7,8]
(.seq (.reg [oP 9 (.bin .lss (.t 8) (.t 7))] [0,1,7,8,9])
(.seq (.cond (.t 9)
.skip
(.exit 0))
(.seq (.block 1
(.seq (.reg [mV 10 8,
mV 5 10] [0,1,5,7,8])
(.seq (.reg [mV 11 1,
mV 12 0,
mV 13 5,
oP 14 (.ixS 1 (.t 12) (.t 13)),
oP 15 (.load none (.t 14)),
oP 16 (.bin .eql (.t 11) (.t 15))] [0,1,5,7,8,16])
(.cond (.t 16)
(.seq (.reg [mV 17 5,
mV 4 17] [4])
.ret)
.skip))))
(.reg [oP 18 (.bin .add (.t 8) (cI 1)),
mV 8 18] [0,1,7,8])))))))
(.seq (.reg [oP 4 (.mv (cI (-1)))] [4])
.ret)))
abbrev KP:RsT:=[(4,none)]
theorem Mb:SpF 19 EF HY KP:=SpI Tryz.func161 (by kernel_rfl)
theorem yU:ar Tryz.prog EF = true:=by kernel_rfl
abbrev EK:FuncId:=162
def Hl:AC:=
(.seq (.reg [oP 6 (.mv (cI 0))] [0,1,2])
(.seq (.reg [oP 7 (.mv (.c (.bool false)))] [0,1,2,7])
(.seq (.seq (.reg [oP 8 (.mv (cI 0))] [0,1,2,7,8])
(.block 0
(.loop [0,1,2,7,8]
(.seq (.seq (.reg [mV 9 8,
mV 10 0,
oP 11 (.len (.t 10)),
oP 12 (.bin .lss (.t 9) (.t 11))] [0,1,2,7,8,12])
(.cond (.t 12)
.skip
(.exit 0)))
(.seq (.block 1
(.seq (.seq (.reg [mV 15 0,
mV 16 8,
oP 17 (.ixS 2 (.t 15) (.t 16)),
oP 18 (.fieldAddr none 0 (.t 17)),
oP 19 (.load none (.t 18)),
mV 20 1,
mV 21 2,
oP 22 (.call (.f 109) [false,false,false] [(.t 19),(.t 20),(.t 21)]),
oP 23 (.un .not (.t 22)),
mV 24 23,
gF 25 24 (.mv (.t 0)),
gF 26 24 (.mv (.t 8)),
gF 27 24 (.ixS 2 (.t 25) (.t 26)),
gF 28 24 (.fieldAddr none 1 (.t 27)),
gF 29 24 (.load none (.t 28)),
gF 30 24 (.mv (.t 1)),
gF 31 24 (.mv (.t 2)),
gF 32 24 (.call (.f 109) [false,false,false] [(.t 29),(.t 30),(.t 31)]),
gF 33 24 (.un .not (.t 32)),
oP 34 (.pick (.t 24) (.c (.bool true)) (.t 33))] [0,1,2,7,8,34])
(.cond (.t 34)
(.seq (.reg [oP 6 (.mv (cI 7))] [6])
.ret)
.skip))
(.dreg [mV 35 7,
mV 36 35,
gF 37 36 (.mv (.t 0)),
gF 38 36 (.mv (.t 8)),
gF 39 36 (.ixS 2 (.t 37) (.t 38)),
gF 40 36 (.fieldAddr none 0 (.t 39)),
gF 41 36 (.load none (.t 40)),
gF 42 36 (.mv (.t 0)),
gF 43 36 (.mv (.t 8)),
gF 44 36 (.ixS 2 (.t 42) (.t 43)),
gF 45 36 (.fieldAddr none 1 (.t 44)),
gF 46 36 (.load none (.t 45)),
gF 47 36 (.bin .gtr (.t 41) (.t 46)),
oP 48 (.pick (.t 36) (.c (.bool true)) (.t 47)),
mV 7 48] [0,1,2,7,8] [[],[0],[0,1],[0,1],[0,1,2,3],[0,1,2,3,4],[0,1,2,3,4,5],[0,1],[0,1],[0,1,7,8],[0,1,7,8,9],[0,1,7,8,9,10],[0,1,2,3,4,5,6,7,8,9,10,11],[0,1,2,3,4,5,6,7,8,9,10,11,12],[0,1,2,3,4,5,6,7,8,9,10,11,12,13]])))
(.reg [mV 13 8,
oP 14 (.bin .add (.t 13) (cI 1)),
mV 8 14] [0,1,2,7,8]))))))
(.seq (.seq (.reg [mV 49 7] [49])
(.cond (.t 49)
(.seq (.reg [oP 6 (.mv (cI 2))] [6])
.ret)
.skip))
(.seq (.reg [oP 6 (.mv (cI 0))] [6])
.ret)))))
abbrev My:RsT:=[(6,none)]
theorem ML:SpF 50 EK Hl My:=SpI Tryz.func162 (by kernel_rfl)
theorem KM:ar Tryz.prog EK = true:=by kernel_rfl
abbrev Ff:FuncId:=163
def Ej:AC:=
(.seq (.reg [oP 3 (.mv (cI 0))] [0,1])
(.seq (.seq (.reg [mV 4 0,
oP 5 (.bin .eql (.t 4) (cI (-1)))] [0,1,5])
(.cond (.t 5)
(.seq (.reg [oP 6 (.load none (.t 1)),
mV 3 6] [3])
.ret)
.skip))
(.seq (.reg [mV 7 0,
mV 3 7] [3])
.ret)))
abbrev Md:RsT:=[(3,none)]
theorem MO:SpF 8 Ff Ej Md:=SpI Tryz.func163 (by kernel_rfl)
theorem Me:ar Tryz.prog Ff = true:=by kernel_rfl
abbrev BQ:FuncId:=164
def Hy:AC:=
(.seq (.reg [oP 3 (.mv (cI 0))] [0,1])
(.seq (.reg [oP 4 (.load none (.t 1)),
mV 5 0,
oP 6 (.ixS 1 (.t 4) (.t 5)),
oP 7 (.load none (.t 6)),
oP 8 (.un .neg (.t 7)),
mV 3 8] [3])
.ret))
abbrev Lh:RsT:=[(3,none)]
theorem KZ:SpF 9 BQ Hy Lh:=SpI Tryz.func164 (by kernel_rfl)
theorem JQ:ar Tryz.prog BQ = true:=by kernel_rfl
abbrev qz:FuncId:=165
def Ia:AC:=
(.seq (.reg [oP 1 (.pbox 2 (.t 0)),
oP 2 (.mv (cI 0))] [1])
(.seq (.reg [oP 3 (.fieldAddr none 0 (.t 1)),
oP 4 (.load none (.t 3)),
mV 2 4] [2])
.ret))
abbrev L8:RsT:=[(2,none)]
theorem LD:SpF 5 qz Ia L8:=SpI Tryz.func165 (by kernel_rfl)
theorem Hu:ar Tryz.prog qz = true:=by kernel_rfl
abbrev pA:FuncId:=166
def Ho:AC:=
(.seq (.reg [oP 1 (.pbox 2 (.t 0)),
oP 2 (.mv (cI 0))] [1])
(.seq (.reg [oP 3 (.fieldAddr none 1 (.t 1)),
oP 4 (.load none (.t 3)),
mV 2 4] [2])
.ret))
abbrev Mk:RsT:=[(2,none)]
theorem MX:SpF 5 pA Ho Mk:=SpI Tryz.func166 (by kernel_rfl)
theorem H7:ar Tryz.prog pA = true:=by kernel_rfl
abbrev Ee:FuncId:=167
def Hj:AC:=
(.seq (.reg [oP 4 (.mv (cI 0))] [0,1])
(.seq (.seq (.reg [mV 6 0,
oP 7 (.len (.t 6)),
oP 8 (.mv (cI 0))] [0,1,7,8])
(.block 0
(.loop [0,1,7,8]
(.seq (.reg [oP 9 (.bin .lss (.t 8) (.t 7))] [0,1,7,8,9])
(.seq (.cond (.t 9)
.skip
(.exit 0))
(.seq (.block 1
(.seq (.reg [mV 10 8,
mV 5 10] [0,1,5,7,8])
(.seq (.reg [mV 11 1,
mV 12 0,
mV 13 5,
oP 14 (.ixS 4 (.t 12) (.t 13)),
oP 15 (.load (some 4) (.t 14)),
oP 16 (.call (.t 11) [false] [(.t 15)])] [0,1,5,7,8,16])
(.cond (.t 16)
(.seq (.reg [mV 17 5,
mV 4 17] [4])
.ret)
.skip))))
(.reg [oP 18 (.bin .add (.t 8) (cI 1)),
mV 8 18] [0,1,7,8])))))))
(.seq (.reg [oP 4 (.mv (cI (-1)))] [4])
.ret)))
abbrev JX:RsT:=[(4,none)]
theorem JI:SpF 19 Ee Hj JX:=SpI Tryz.func167 (by kernel_rfl)
theorem Ij:ar Tryz.prog Ee = true:=by kernel_rfl
abbrev B8:FuncId:=168
def H8:AC:=
(.seq (.reg [oP 2 (.pbox 4 (.t 0)),
oP 3 (.mv (.c (.bool false)))] [1,2])
(.seq (.reg [oP 4 (.fieldAddr none 0 (.t 2)),
oP 5 (.load none (.t 4)),
oP 6 (.fieldAddr none 1 (.t 2)),
oP 7 (.load none (.t 6)),
oP 8 (.build [.int .i64 0, .int .i64 0] [(0,1,(.t 5)),(1,1,(.t 7))]),
oP 9 (.load (some 2) (.t 1)),
oP 10 (.eqa false [.i, .i] (.t 8) (.t 9)),
mV 3 10] [3])
.ret))
abbrev KQ:RsT:=[(3,none)]
theorem MA:SpF 11 B8 H8 KQ:=SpI Tryz.func168 (by kernel_rfl)
theorem Ls:ar Tryz.prog B8 = true:=by kernel_rfl
abbrev FB:FuncId:=169
def H6:AC:=
(.seq (.reg [oP 4 (.mv (cI 0))] [0,1])
(.seq (.seq (.reg [mV 6 0,
oP 7 (.len (.t 6)),
oP 8 (.mv (cI 0))] [0,1,7,8])
(.block 0
(.loop [0,1,7,8]
(.seq (.reg [oP 9 (.bin .lss (.t 8) (.t 7))] [0,1,7,8,9])
(.seq (.cond (.t 9)
.skip
(.exit 0))
(.seq (.block 1
(.seq (.reg [mV 10 8,
mV 5 10] [0,1,5,7,8])
(.seq (.reg [mV 11 1,
mV 12 0,
mV 13 5,
oP 14 (.ixS 1 (.t 12) (.t 13)),
oP 15 (.load none (.t 14)),
oP 16 (.bin .eql (.t 11) (.t 15))] [0,1,5,7,8,16])
(.cond (.t 16)
(.seq (.reg [mV 17 5,
mV 4 17] [4])
.ret)
.skip))))
(.reg [oP 18 (.bin .add (.t 8) (cI 1)),
mV 8 18] [0,1,7,8])))))))
(.seq (.reg [oP 4 (.mv (cI (-1)))] [4])
.ret)))
abbrev MI:RsT:=[(4,none)]
theorem MF:SpF 19 FB H6 MI:=SpI Tryz.func169 (by kernel_rfl)
theorem La:ar Tryz.prog FB = true:=by kernel_rfl
abbrev Fw:FuncId:=182
def HB:AC:=
(.seq (.reg [oP 5 (.mv (cI 0))] [0,1,2])
(.seq (.dreg [oP 6 (.load none (.t 2)),
oP 7 (.nilchk (.t 6)),
oP 8 (.fieldAddr none 0 (.t 7)),
oP 9 (.load none (.t 8)),
mV 10 0,
oP 11 (.ixS 5 (.t 9) (.t 10)),
oP 12 (.fieldAddr none 0 (.t 11)),
oP 13 (.load none (.t 12)),
oP 14 (.load none (.t 2)),
oP 15 (.nilchk (.t 14)),
oP 16 (.fieldAddr none 0 (.t 15)),
oP 17 (.load none (.t 16)),
mV 18 0,
oP 19 (.ixS 5 (.t 17) (.t 18)),
oP 20 (.fieldAddr none 1 (.t 19)),
oP 21 (.load none (.t 20)),
oP 22 (.bin .add (.t 13) (.t 21)),
mV 23 1,
oP 24 (.bin .sub (.t 22) (.t 23)),
mV 5 24] [5] [[],[0],[0,1],[0,1,2],[],[0,1,2,3,4],[0,1,2,3,4,5],[0,1,2,3,4,5,6],[],[8],[8,9],[8,9,10],[],[8,9,10,11,12],[8,9,10,11,12,13],[8,9,10,11,12,13,14],[0,1,2,3,4,5,6,7,8,9,10,11,12,13,14,15],[],[0,1,2,3,4,5,6,7,8,9,10,11,12,13,14,15,16,17],[0,1,2,3,4,5,6,7,8,9,10,11,12,13,14,15,16,17,18]])
.ret))
abbrev JZ:RsT:=[(5,none)]
theorem LM:SpF 25 Fw HB JZ:=SpI Tryz.func182 (by kernel_rfl)
theorem Cp:ar Tryz.prog Fw = true:=by kernel_rfl
abbrev D6:FuncId:=183
def DS:AC:=
(.seq (.reg [oP 2 (.pbox 5 (.t 0)),
oP 4 (.mv (cI 0))] [1,2])
(.seq (.seq (.reg [mV 5 1,
oP 6 (.fieldAddr none 0 (.t 2)),
oP 7 (.load none (.t 6)),
oP 8 (.bin .eql (.t 5) (.t 7))] [2,8])
(.cond (.t 8)
(.seq (.reg [oP 9 (.fieldAddr none 3 (.t 2)),
oP 10 (.load none (.t 9)),
oP 11 (.fieldAddr none 4 (.t 2)),
oP 12 (.load none (.t 11)),
oP 13 (.bin .sub (.t 10) (.t 12)),
mV 4 13] [4])
.ret)
.skip))
(.seq (.reg [oP 14 (.fieldAddr none 4 (.t 2)),
oP 15 (.load none (.t 14)),
oP 16 (.fieldAddr none 2 (.t 2)),
oP 17 (.load none (.t 16)),
oP 18 (.bin .sub (.t 15) (.t 17)),
mV 4 18] [4])
.ret)))
abbrev Kk:RsT:=[(4,none)]
theorem Lg:SpF 19 D6 DS Kk:=SpI Tryz.func183 (by kernel_rfl)
theorem Cu:ar Tryz.prog D6 = true:=by kernel_rfl
abbrev Ib:FuncId:=188
theorem wb:ar Tryz.prog Ib = true:=by kernel_rfl
end Go.AM
