/- MADE BY PROGRAM (gen.py): the abstract code of functions of this seat, each checked against the given code by the kernel. -/
import Derived.Test.YtlmhkldmpggadaaGreatDoorG05a
import Derived.Test.YtlmhkldmpggadaaGreatDoorChecked
import Derived.Test.YtlmhkldmpggadaaGreatDoorP15
import Derived.Test.YtlmhkldmpggadaaGreatDoorP16
namespace Go.AM
open Go.Proofs
abbrev I5:FuncId:=122
def L9:AC:=
(wJ [oV 3 5 0,
oP 6 (.mv (.c .nilptr))] [1,2,3]
(wJ [oG 19 5 0 3,
ol 20 1 19,
oc 21 20,
oR 22 21,
oP 7 (.alloc [.int .i64 0]),
oM 1 7 22] [1,2,3,7]
(.frz 7 false (wJ [oc 23 7,
xr 24 23 1,
mV 8 24] [1,2,3,7,8]
(wJ [mV 25 8,
xr 26 25 1,
oG 27 5 0 3,
ol 28 3 27,
oc 29 28,
oR 30 29,
oP 31 (.mksl 2 1 8 (.int .i64 0) (.t 30) (.t 30)),
oP 32 (.buildm [.mint 1005, .int .i64 0, .slice 1 [], .int .i64 0] [(1,1,.t 26),(2,1,.t 31)]),
oP 33 (.box 4 (.t 32)),
mV 9 33] [1,2,3,7,8,9]
(wJ [oP 34 (.mkfunc (.func 163) [] [.t 7]),
mV 10 34] [1,2,3,7,8,9,10]
(.seq (wJ [oG 35 5 0 3,
ol 36 1 35,
oc 37 36,
oR 38 37,
oI 39 0] [1,2,3,7,8,9,10,38,39]
(.block 0
(.loop [1,2,3,7,8,9,10,38,39]
(wJ [xT 40 39 38] [1,2,3,7,8,9,10,38,39,40]
(.seq (.cond (.t 40)
.skip
(.exit 0))
(.seq (.block 1
(wJ [mV 41 39,
mV 11 41] [1,2,3,7,8,9,10,11,38,39]
(wJ [oG 43 5 0 3,
ol 44 2 43,
oc 45 44,
mV 46 1,
mV 47 11,
oP 48 (.build wy [(0,1,.t 46),(1,1,.t 47)]),
kS 49 126 wn [.t 45,.t 48],
mV 42 49,
oK 50 42 0,
oK 51 42 1,
oP 12 (.alloc wy),
oM 2 12 50,
mV 13 51] [1,2,3,7,8,9,10,11,12,38,39]
(.frz 12 true (wJ [oG 53 5 0 3,
ol 54 4 53,
oc 55 54,
mV 56 1,
mV 57 11,
oP 58 (.build wy [(0,1,.t 56),(1,1,.t 57)]),
kS 59 126 wn [.t 55,.t 58],
mV 52 59,
oK 60 52 0,
oK 61 52 1,
oP 14 (.alloc wy),
oM 2 14 60,
mV 15 61] [1,2,3,7,8,9,10,11,12,14,15,38,39]
(.seq (wJ [mV 62 15,
xi 63 62] [1,2,3,7,8,9,10,11,12,14,38,39,63]
(.cond (.t 63)
(.reg [ol 64 1 14,
oN (.store 1 (.t 64) (cI 1099511627776))] [1,2,3,7,8,9,10,11,12,14,38,39])
.skip))
(.dreg [mV 65 9,
mV 66 9,
oX 67 66,
ol 68 0 67,
oc 69 68,
mV 70 8,
mV 71 11,
ol 72 0 12,
oc 73 72,
ol 74 1 12,
oc 75 74,
ol 76 0 12,
oc 77 76,
oP 78 (.build ww [(0,1,.t 70),(1,1,.t 71),(2,1,.t 73),(3,1,.t 75),(4,1,.t 77)]),
mV 79 11,
mV 80 8,
ol 81 0 14,
oc 82 81,
ol 83 1 14,
oc 84 83,
ol 85 0 14,
oc 86 85,
oP 87 (.build ww [(0,1,.t 79),(1,1,.t 80),(2,1,.t 82),(3,1,.t 84),(4,1,.t 86)]),
oP 88 (.lit 0 5 2 [(0,.t 78),(1,.t 87)]),
oP 89 (.append 5 40 (.t 69) (.t 88)),
oX 90 65,
ol 91 0 90,
oM 1 91 89] [1,2,3,7,8,9,10,38,39] [[],[],[1],[1,2],[1,2,3],[],[],[],[7],[],[9],[],[11],[5,6,7,8,9,10,11,12],[],[],[],[16],[],[18],[],[20],[14,15,16,17,18,19,20,21],[5,6,7,8,9,10,11,12,13,14,15,16,17,18,19,20,21,22],[1,2,3,4,5,6,7,8,9,10,11,12,13,14,15,16,17,18,19,20,21,22,23],wM 25,wM 26,wM 27])))))))
(.reg [xr 92 39 1,
mV 39 92] [1,2,3,7,8,9,10,38,39])))))))
(.seq (wJ [oG 93 5 0 3,
ol 94 3 93,
oc 95 94,
oR 96 95,
oI 97 0] [1,2,3,7,8,9,10,95,96,97]
(.block 2
(.loop [1,2,3,7,8,9,10,95,96,97]
(wJ [xT 98 97 96] [1,2,3,7,8,9,10,95,96,97,98]
(.seq (.cond (.t 98)
.skip
(.exit 2))
(.seq (.block 3
(wJ [mV 99 97,
oQ 100 5 95 97,
oe 101 5 100,
oP 17 (.alloc ww),
mV 16 99,
oM 5 17 101] [1,2,3,7,8,9,10,16,17,95,96,97]
(.frz 17 true (.seq (wJ [ol 102 0 17,
oc 103 102,
mV 104 1,
zw 105 103 104,
mV 106 105,
gF 107 106 (.load (some 5) (.t 3)),
kw 108 106 16,
gF 109 106 (.call (.f 127) wn [.t 107,.t 108]),
gF 110 106 (.un .not (.t 109)),
oP 111 (.pick (.t 106) (.c (.bool true)) (.t 110))] [1,2,3,7,8,9,10,16,17,95,96,97,111]
(.cond (.t 111)
(.exit 3)
.skip))
(.seq (.dreg [mV 112 9,
oX 113 112,
ol 114 2 113,
oc 115 114,
mV 116 16,
mV 117 9,
oX 118 117,
ol 119 0 118,
oc 120 119,
oR 121 120,
oQ 122 1 115 116,
oM 1 122 121] [1,2,3,7,8,9,10,16,17,95,96,97] [[],[0],[0,1],[0,1,2],[],[],[5],[5,6],[5,6,7],[5,6,7,8],wM 10,wM 11])
(.seq (wJ [ol 123 4 17,
oc 124 123,
zE 125 124 0] [1,2,3,7,8,9,10,16,17,95,96,97,125]
(.cond (.t 125)
(.dreg [mV 126 9,
oX 127 126,
ol 128 2 127,
oc 129 128,
ol 130 4 17,
oc 131 130,
mV 132 9,
oX 133 132,
ol 134 0 133,
oc 135 134,
oR 136 135,
oQ 137 1 129 131,
oM 1 137 136] [1,2,3,7,8,9,10,16,17,95,96,97] [[],[0],[0,1],[0,1,2],[],[4],[],[6],[6,7],[6,7,8],[6,7,8,9],wM 11,wM 12])
.skip))
(wJ [oe 138 5 3,
mV 139 16,
mV 140 2,
kS 141 128 [true,false,true] [.t 138,.t 139,.t 140],
oP 18 (.alloc wy),
oM 2 18 141] [1,2,3,7,8,9,10,17,18,95,96,97]
(.frz 18 true (.dreg [mV 142 9,
mV 143 9,
oX 144 143,
ol 145 0 144,
oc 146 145,
mV 147 10,
ol 148 1 17,
oc 149 148,
oP 150 (.call (.t 147) wl [.t 149]),
mV 151 10,
ol 152 2 17,
oc 153 152,
oP 154 (.call (.t 151) wl [.t 153]),
ol 155 0 18,
oc 156 155,
ol 157 1 18,
oc 158 157,
ol 159 0 18,
oc 160 159,
oP 161 (.build ww [(0,1,.t 150),(1,1,.t 154),(2,1,.t 156),(3,1,.t 158),(4,1,.t 160)]),
oP 162 (.lit 0 5 1 [(0,.t 161)]),
oP 163 (.append 5 40 (.t 146) (.t 162)),
oX 164 142,
ol 165 0 164,
oM 1 165 163] [1,2,3,7,8,9,10,95,96,97] [[],[],[1],[1,2],[1,2,3],[],[],[6],[5,6,7],[],[],[10],[5,6,7,8,9,10,11],[],[13],[],[15],[],[17],[5,6,7,8,9,10,11,12,13,14,15,16,17,18],[5,6,7,8,9,10,11,12,13,14,15,16,17,18,19],[1,2,3,4,5,6,7,8,9,10,11,12,13,14,15,16,17,18,19,20],wM 22,wM 23,wM 24])))))))))
(.reg [xr 166 97 1,
mV 97 166] [1,2,3,7,8,9,10,95,96,97])))))))
(wJ [mV 167 9,
mV 168 9,
oX 169 168,
ol 170 0 169,
oc 171 170,
oR 172 171,
oX 173 167,
ol 174 3 173,
oM 1 174 172] [7,8,9]
(.seq (.dreg [mV 175 9,
mV 176 9,
oX 177 176,
ol 178 0 177,
oc 179 178,
oc 180 7,
mV 181 8,
oP 182 (.build ww [(0,1,.t 180),(1,1,.t 181),(2,1,cI (-1099511627776)),(3,1,cI 1099511627776),(4,1,cI 0)]),
oP 183 (.lit 0 5 1 [(0,.t 182)]),
oP 184 (.append 5 40 (.t 179) (.t 183)),
oX 185 175,
ol 186 0 185,
oM 1 186 184] [9] [[],[],[1],[1,2],[1,2,3],[],[],[5,6],[5,6,7],[1,2,3,4,5,6,7,8],wM 10,wM 11,wM 12])
(wJ [mV 187 9,
mV 6 187] [6]
.ret)))))))))))
abbrev RB:RsT:=[(6,none)]
theorem Ry:SpF 188 I5 L9 RB:=SpI Tryz.func122 (by kernel_rfl)
theorem LD:au Tryz.prog I5 = true:=by kernel_rfl
abbrev Hs:FuncId:=123
def LJ:AC:=
(wJ [oP 2 (.mv (.c (.bool false)))] [0]
(wJ [mV 9 0,
oX 10 9,
ol 11 1 10,
oc 12 11,
oP 13 (.mksl 2 1 8 (.int .i64 0) (.t 12) (.t 12)),
oP 3 (.alloc [.slice 1 []]),
oM 1 3 13] [0,3]
(.frz 3 false (.seq (wJ [mV 14 0,
oX 15 14,
ol 16 0 15,
oc 17 16,
oR 18 17,
oI 19 0] [0,3,17,18,19]
(.block 0
(.loop [0,3,17,18,19]
(wJ [xT 20 19 18] [0,3,17,18,19,20]
(.seq (.cond (.t 20)
.skip
(.exit 0))
(.seq (.block 1
(wJ [oQ 21 5 17 19,
oe 22 5 21,
oP 5 (.alloc ww),
oM 5 5 22] [0,3,5,17,18,19]
(.frz 5 true (.seq (.dreg [oc 23 3,
ol 24 0 5,
oc 25 24,
oQ 26 1 23 25,
oc 27 26,
ol 28 4 5,
oc 29 28,
xx 30 27 29,
oQ 31 1 23 25,
oM 1 31 30] [0,3,5,17,18,19] [[],[],[1],[0,1,2],wM 4,[],[5],wM 7,wM 8,wM 9])
(.dreg [oc 32 3,
ol 33 1 5,
oc 34 33,
oQ 35 1 32 34,
oc 36 35,
ol 37 4 5,
oc 38 37,
xn 39 36 38,
oQ 40 1 32 34,
oM 1 40 39] [0,3,17,18,19] [[],[],[1],[0,1,2],wM 4,[],[5],wM 7,wM 8,wM 9])))))
(.reg [xr 41 19 1,
mV 19 41] [0,3,17,18,19])))))))
(.seq (wJ [oc 42 3,
oR 43 42,
oI 44 0] [0,3,43,44]
(.block 2
(.loop [0,3,43,44]
(wJ [xT 45 44 43] [0,3,43,44,45]
(.seq (.cond (.t 45)
.skip
(.exit 2))
(.seq (.block 3
(wJ [mV 46 44,
mV 6 46] [0,3,6,43,44]
(.block 4
(.loop [0,3,6,43,44]
(.seq (wJ [oc 47 3,
mV 48 6,
oQ 49 1 47 48,
oc 50 49,
zI 51 50 0] [0,3,6,43,44,51]
(.cond (.t 51)
.skip
(.exit 4)))
(.block 5
(wJ [mV 53 0,
mV 54 6,
oc 55 3,
mV 56 6,
oQ 57 1 55 56,
oc 58 57,
oP 59 (.mkfunc (.func 164) [] [.t 3]),
kS 60 140 [false,false,false,false,false] [.t 53,.t 54,.t 58,cI (-1),.t 59],
mV 52 60,
oK 61 52 0,
oK 62 52 1,
mV 7 61,
mV 8 62] [0,3,6,7,8,43,44]
(.seq (wJ [mV 63 7,
zu 64 63 0] [0,3,6,7,8,43,44,64]
(.cond (.t 64)
(wJ [oP 2 (.mv (.c (.bool false)))] [2]
.ret)
.skip))
(wJ [oc 65 3,
mV 66 6,
oQ 67 1 65 66,
oc 68 67,
mV 69 7,
xx 70 68 69,
oQ 71 1 65 66,
oM 1 71 70] [0,3,6,7,8,43,44]
(.reg [oc 72 3,
mV 73 8,
oQ 74 1 72 73,
oc 75 74,
mV 76 7,
xn 77 75 76,
oQ 78 1 72 73,
oM 1 78 77] [0,3,6,43,44]))))))))))
(.reg [xr 79 44 1,
mV 44 79] [0,3,43,44])))))))
(wJ [oP 2 (.mv (.c (.bool true)))] [2]
.ret))))))
abbrev Ro:RsT:=[(2,none)]
theorem R9:SpF 80 Hs LJ Ro:=SpI Tryz.func123 (by kernel_rfl)
theorem Mf:au Tryz.prog Hs = true:=by kernel_rfl
abbrev zk:FuncId:=124
def Ht:AC:=
(wJ [oP 3 (.mv (.c (.bool false)))] [0,1]
(wJ [mV 4 0,
zE 5 4 0,
mV 6 5,
zS 7 6 1,
zR 8 6 0,
gT 9 6 (.bin .shr (.t 7) (.t 8)),
gT 10 6 (.bin .and (.t 9) (cI 1)),
kl 11 6 10 1,
oP 12 (.pick (.t 6) (.t 11) (.c (.bool false))),
mV 3 12] [3]
.ret))
abbrev PF:RsT:=[(3,none)]
theorem Pg:SpF 13 zk Ht PF:=SpI Tryz.func124 (by kernel_rfl)
theorem l7:au Tryz.prog zk = true:=by kernel_rfl
abbrev HC:FuncId:=125
def Ml:AC:=
(wJ [oP 0 (.alloc [.nilfunc, .nilfunc, .nilfunc, .nilfunc])] [0]
(wJ [oP 1 (.mv (.f 165)),
oP 2 (.mv (.f 166))] [0,1,2]
(wJ [mV 3 1,
mV 4 2,
oP 5 (.build [.nilfunc, .nilfunc] [(0,1,.t 3),(1,1,.t 4)]),
mV 6 2,
mV 7 1,
oP 8 (.build [.nilfunc, .nilfunc] [(0,1,.t 6),(1,1,.t 7)]),
oP 9 (.build [.nilfunc, .nilfunc, .nilfunc, .nilfunc] [(0,2,.t 5),(2,2,.t 8)]),
oM 4 0 9] [0]
.ret)))
abbrev O8:RsT:=[(0,some (some 4))]
theorem QS:SpF 10 HC Ml O8:=SpI Tryz.func125 (by kernel_rfl)
theorem Rg:au Tryz.prog HC = true:=by kernel_rfl
abbrev Jz:FuncId:=126
def HJ:AC:=
(wJ [oV 3 2 1,
oP 4 (.alloc wy),
oP 5 (.mv (.c (.bool false)))] [0,3,4]
(wJ [mV 7 0,
oP 8 (.mkfunc (.func 168) [] [.t 3]),
kS 9 167 wn [.t 7,.t 8],
mV 6 9] [0,4,6]
(.seq (wJ [mV 10 6,
xZ 11 10 0] [0,4,6,11]
(.cond (.t 11)
(wJ [oP 12 (.build wy []),
oM 2 4 12,
oP 5 (.mv (.c (.bool false)))] [4,5]
.ret)
.skip))
(wJ [mV 13 0,
mV 14 6,
oQ 15 4 13 14,
oG 16 2 2 15,
oe 17 2 16,
oM 2 4 17,
oP 5 (.mv (.c (.bool true)))] [4,5]
.ret))))
abbrev R7:RsT:=[(4,some (some 2)),(5,none)]
theorem Pm:SpF 18 Jz HJ R7:=SpI Tryz.func126 (by kernel_rfl)
theorem zL:au Tryz.prog Jz = true:=by kernel_rfl
abbrev JM:FuncId:=127
def LM:AC:=
(wJ [oV 2 5 0,
oP 4 (.mv (.c (.bool false)))] [1,2]
(wJ [oG 5 5 0 2,
ol 6 3 5,
oc 7 6,
mV 8 1,
oQ 9 5 7 8,
ol 10 4 9,
oc 11 10,
xZ 12 11 0,
mV 13 12,
kw 14 13 1,
gF 15 13 (.fieldAddr (some 5) 0 (.t 2)),
kL 16 13 3 15,
kD 17 13 16,
kw 18 13 1,
kR 19 13 5 17 18,
kL 20 13 4 19,
kD 21 13 20,
gF 22 13 (.bin .lss (.t 14) (.t 21)),
oP 23 (.pick (.t 13) (.c (.bool true)) (.t 22)),
mV 4 23] [4]
.ret))
abbrev Q7:RsT:=[(4,none)]
theorem Sd:SpF 24 JM LM Q7:=SpI Tryz.func127 (by kernel_rfl)
theorem uW:au Tryz.prog JM = true:=by kernel_rfl
abbrev HG:FuncId:=128
def I8:AC:=
(wJ [oV 3 5 0,
oP 6 (.alloc wy)] [1,2,3,6]
(wJ [mV 11 1,
oP 12 (.lit 0 1 1 [(0,.t 11)]),
mV 7 12] [1,2,3,6,7]
(.seq (wJ [oG 13 5 0 3,
ol 14 3 13,
oc 15 14,
mV 16 1,
oQ 17 5 15 16,
ol 18 4 17,
oc 19 18,
mV 8 19] [1,2,3,6,7,8]
(wJ [mV 20 8,
zE 21 20 0] [1,2,3,6,7,8,21]
(.cond (.t 21)
(.reg [mV 22 1,
mV 23 8,
oP 24 (.mn [.t 22,.t 23]),
mV 25 1,
mV 26 8,
oP 27 (.mx [.t 25,.t 26]),
oP 28 (.lit 0 1 2 [(0,.t 24),(1,.t 27)]),
mV 7 28] [2,3,6,7])
.skip)))
(.seq (wJ [mV 29 7,
oR 30 29,
oI 31 0] [2,3,6,29,30,31]
(.block 0
(.loop [2,3,6,29,30,31]
(wJ [xT 32 31 30] [2,3,6,29,30,31,32]
(.seq (.cond (.t 32)
.skip
(.exit 0))
(.seq (.block 1
(wJ [oQ 33 1 29 31,
oc 34 33,
mV 10 34] [2,3,6,10,29,30,31]
(wJ [mV 35 2,
mV 36 10,
kS 37 130 wn [.t 35,.t 36],
xi 38 37] [2,3,6,10,29,30,31,38]
(.cond (.t 38)
(.seq (.dreg [oG 39 5 0 3,
ol 40 3 39,
oc 41 40,
mV 42 10,
oQ 43 5 41 42,
ol 44 3 43,
oc 45 44,
oG 46 5 0 3,
ol 47 3 46,
oc 48 47,
mV 49 10,
oQ 50 5 48 49,
ol 51 3 50,
oc 52 51,
oP 53 (.build wy [(0,1,.t 45),(1,1,.t 52)]),
oM 2 6 53] [6] [[],[0],[0,1],[],wM 4,wM 5,wM 6,[],[7],[7,8],[],[7,8,9,10],[7,8,9,10,11],[7,8,9,10,11,12],wM 14,wM 15])
.ret)
.skip))))
(.reg [xr 54 31 1,
mV 31 54] [2,3,6,29,30,31])))))))
(wJ [oP 55 (.build wy [(1,1,cI 1000000)]),
oM 2 6 55] [6]
.ret)))))
abbrev P9:RsT:=[(6,some (some 2))]
theorem OQ:SpF 56 HG I8 P9:=SpI Tryz.func128 (by kernel_rfl)
theorem zd:au Tryz.prog HG = true:=by kernel_rfl
abbrev EE:FuncId:=130
def Mt:AC:=
(wJ [oP 4 (.mv (.c (.bool false)))] [0,1]
(wJ [mV 5 0,
mV 6 1,
kS 7 169 wn [.t 5,.t 6],
zE 8 7 0,
mV 4 8] [4]
.ret))
abbrev Qv:RsT:=[(4,none)]
theorem Ou:SpF 9 EE Mt Qv:=SpI Tryz.func130 (by kernel_rfl)
theorem EB:au Tryz.prog EE = true:=by kernel_rfl
abbrev IQ:FuncId:=133
def Lf:AC:=
(wJ [oV 2 1 0] [1,2]
(wJ [oP 3 (.alloc [.nilfunc])] [1,2,3]
(wJ [oP 5 (.mkfunc (.func 134) [] [.t 2,.t 1,.t 3]),
oM 1 3 5] [1,3]
(wJ [oG 6 5 0 1,
ol 7 3 6,
oc 8 7,
oR 9 8,
xr 10 9 1,
oI 11 0] [3,10,11]
(.block 0
(.loop [3,10,11]
(wJ [xT 12 11 10] [3,10,11,12]
(.seq (.cond (.t 12)
.skip
(.exit 0))
(.seq (.block 1
(wJ [mV 13 11,
mV 4 13] [3,4,10,11]
(wJ [oc 14 3,
mV 15 4,
oP 16 (.call (.t 14) [true,false,false] [(.c (.slice 1 [])),cI 0,.t 15]),
xi 17 16] [3,10,11,17]
(.cond (.t 17)
.ret
.skip))))
(.reg [xr 18 11 1,
mV 11 18] [3,10,11]))))))))))
abbrev Pj:RsT:=[]
theorem Q2:SpF 19 IQ Lf Pj:=SpI Tryz.func133 (by kernel_rfl)
theorem La:au Tryz.prog IQ = true:=by kernel_rfl
abbrev HH:FuncId:=134
def IW:AC:=
(wJ [oP 9 (.mv (.c (.bool false)))] [0,1,2,3,4,5]
(.seq (wJ [mV 11 2,
zu 12 11 0] [0,1,2,3,4,5,12]
(.cond (.t 12)
(wJ [oc 13 3,
mV 14 0,
oP 15 (.call (.t 13) wd [.t 14]),
mV 9 15] [9]
.ret)
.skip))
(.seq (wJ [mV 16 1,
mV 10 16] [0,2,4,5,10]
(.block 0
(.loop [0,2,4,5,10]
(.seq (wJ [mV 17 10,
oG 18 5 0 4,
ol 19 3 18,
oc 20 19,
oR 21 20,
mV 22 2,
xx 23 21 22,
oP 24 (.bin .leq (.t 17) (.t 23))] [0,2,4,5,10,24]
(.cond (.t 24)
.skip
(.exit 0)))
(.seq (.block 1
(.seq (.creg [oc 27 5,
mV 28 0,
kS 29 135 wd [.t 28],
mV 30 10,
oP 31 (.lit 0 1 1 [(0,.t 30)]),
oP 32 (.append 1 8 (.t 29) (.t 31)),
mV 33 10,
xr 34 33 1,
mV 35 2,
xC 36 35 1,
oP 37 (.call (.t 27) [true,false,false] [.t 32,.t 34,.t 36]),
xi 38 37] [0,2,4,5,10,38] [[],[],[1],[],[3],[1,2,3,4],[],[6],[],[8],wM 10,wM 11] [([0,1,3,4,6,7,8,9],2),([],5),([],10)] [11])
(.cond (.t 38)
(wJ [oP 9 (.mv (.c (.bool false)))] [9]
.ret)
.skip)))
(.reg [mV 25 10,
xr 26 25 1,
mV 10 26] [0,2,4,5,10]))))))
(wJ [oP 9 (.mv (.c (.bool true)))] [9]
.ret))))
abbrev Ow:RsT:=[(9,none)]
theorem Lw:SpF 39 HH IW Ow:=SpI Tryz.func134 (by kernel_rfl)
theorem LR:au Tryz.prog HH = true:=by kernel_rfl
abbrev II:FuncId:=135
def LS:AC:=
(wJ [oP 2 (.mv (.c (.slice 1 [])))] [0]
(.seq (wJ [mV 3 0,
oP 4 (.snil false (.t 3))] [0,4]
(.cond (.t 4)
(wJ [oP 2 (.nilS 3 1)] [2]
.ret)
.skip))
(wJ [oP 5 (.lit 1 1 0 []),
mV 6 0,
oP 7 (.append 1 8 (.t 5) (.t 6)),
mV 2 7] [2]
.ret)))
abbrev P2:RsT:=[(2,none)]
theorem RD:SpF 8 II LS P2:=SpI Tryz.func135 (by kernel_rfl)
theorem QU:au Tryz.prog II = true:=by kernel_rfl
abbrev Le:FuncId:=136
theorem Se:au Tryz.prog Le = true:=by kernel_rfl
abbrev CT:FuncId:=139
def Mi:AC:=
(wJ [oV 6 1 1,
oV 7 1 2,
oI 8 0] [0,3,4,6,7]
(wJ [oI 9 0] [0,3,4,6,7,9]
(.seq (.block 0
(.loop [0,3,4,6,7,9]
(.seq (wJ [mV 12 9,
oc 13 7,
xT 14 12 13] [0,3,4,6,7,9,14]
(.cond (.t 14)
.skip
(.exit 0)))
(.block 1
(wJ [oc 16 3,
mV 17 0,
oc 18 7,
mV 19 9,
xx 20 18 19,
oc 21 4,
oP 22 (.mkfunc (.func 141) [] [.t 6,.t 7]),
kS 23 140 [false,false,false,false,false] [.t 16,.t 17,.t 20,.t 21,.t 22],
mV 15 23,
oK 24 15 0,
oK 25 15 1,
mV 10 24,
mV 11 25] [0,3,4,6,7,9,10]
(.seq (wJ [mV 26 10,
zu 27 26 0] [0,3,4,6,7,9,10,27]
(.cond (.t 27)
(.exit 0)
.skip))
(.reg [mV 28 9,
mV 29 10,
xn 30 28 29,
mV 9 30] [0,3,4,6,7,9])))))))
(wJ [mV 31 9,
mV 8 31] [8]
.ret))))
abbrev OM:RsT:=[(8,none)]
theorem OV:SpF 32 CT Mi OM:=SpI Tryz.func139 (by kernel_rfl)
theorem Lb:au Tryz.prog CT = true:=by kernel_rfl
abbrev I7:FuncId:=140
def LI:AC:=
(wJ [oV 5 1 0,
oI 10 0,
oI 11 0] [1,2,3,4,5]
(wJ [oc 23 5,
oX 24 23,
ol 25 1 24,
oc 26 25,
oP 27 (.mksl 2 1 8 (.int .i64 0) (.t 26) (.t 26)),
mV 12 27] [1,2,3,4,5,12]
(wJ [mV 28 12,
mV 29 1,
oQ 30 1 28 29,
oN (.store 1 (.t 30) (cI (-1)))] [1,2,3,4,5,12]
(wJ [oP 31 (.mkfunc (.func 182) [] [.t 5]),
mV 13 31] [1,2,3,4,5,12,13]
(.seq (wJ [mV 32 1,
oP 33 (.lit 1 1 1 [(0,.t 32)]),
mV 14 33] [1,2,3,4,5,12,13,14]
(.block 0
(.loop [1,2,3,4,5,12,13,14]
(.seq (wJ [mV 34 14,
oR 35 34,
zI 36 35 0] [1,2,3,4,5,12,13,14,36]
(.cond (.t 36)
.skip
(.exit 0)))
(.seq (.block 1
(wJ [mV 39 14,
oP 40 (.ixS 1 (.t 39) (cI 0)),
oc 41 40,
mV 15 41] [1,2,3,4,5,12,13,14,15]
(.seq (wJ [mV 42 15,
mV 43 1,
zw 44 42 43,
mV 45 44,
zR 46 45 4,
zR 47 45 15,
gT 48 45 (.call (.t 46) wl [.t 47]),
gT 49 45 (.bin .gtr (.t 48) (cI 0)),
oP 50 (.pick (.t 45) (.t 49) (.c (.bool false)))] [1,2,3,4,5,12,13,14,15,50]
(.cond (.t 50)
(wJ [mV 51 2,
mV 52 4,
mV 53 15,
oP 54 (.call (.t 52) wl [.t 53]),
oP 55 (.mn [.t 51,.t 54]),
mV 10 55] [1,5,10,12,13,15]
(.seq (wJ [mV 56 15,
mV 16 56] [1,5,10,12,13,15,16]
(.block 2
(.loop [1,5,10,12,13,15,16]
(.seq (wJ [mV 57 16,
mV 58 1,
zw 59 57 58] [1,5,10,12,13,15,16,59]
(.cond (.t 59)
.skip
(.exit 2)))
(.seq (.block 3
(wJ [mV 68 12,
mV 69 16,
oQ 70 1 68 69,
oc 71 70,
xC 72 71 1,
mV 17 72] [1,5,10,12,13,15,16,17]
(.dreg [mV 73 10,
oc 74 5,
oX 75 74,
ol 76 0 75,
oc 77 76,
mV 78 17,
oQ 79 5 77 78,
oe 80 5 79,
mV 81 13,
mV 82 17,
mV 83 16,
oP 84 (.call (.t 81) wo [.t 82,.t 83]),
kS 85 183 wo [.t 80,.t 84],
oP 86 (.mn [.t 73,.t 85]),
mV 10 86] [1,5,10,12,13,15,16] [[],[],[1],[1,2],[1,2,3],[],[1,2,3,4,5],[1,2,3,4,5,6],[],[],[],[8,9,10],[1,2,3,4,5,6,7,8,9,10,11],wM 13,wM 14])))
(.reg [mV 60 13,
mV 61 12,
mV 62 16,
oQ 63 1 61 62,
oc 64 63,
xC 65 64 1,
mV 66 16,
oP 67 (.call (.t 60) wo [.t 65,.t 66]),
mV 16 67] [1,5,10,12,13,15,16]))))))
(.seq (wJ [mV 87 15,
mV 18 87] [1,5,10,12,13,15,18]
(.block 4
(.loop [1,5,10,12,13,15,18]
(.seq (wJ [mV 88 18,
mV 89 1,
zw 90 88 89] [1,5,10,12,13,15,18,90]
(.cond (.t 90)
.skip
(.exit 4)))
(.block 5
(wJ [mV 91 12,
mV 92 18,
oQ 93 1 91 92,
oc 94 93,
xC 95 94 1,
mV 19 95] [1,5,10,12,13,15,18,19]
(wJ [mV 96 13,
mV 97 19,
mV 98 18,
oP 99 (.call (.t 96) wo [.t 97,.t 98]),
mV 20 99] [1,5,10,12,13,15,19,20]
(.seq (wJ [mV 100 20,
oc 101 5,
oX 102 101,
ol 103 0 102,
oc 104 103,
mV 105 19,
oQ 106 5 104 105,
ol 107 0 106,
oc 108 107,
zh 109 100 108] [1,5,10,12,13,15,19,20,109]
(.cond (.t 109)
(.reg [oc 110 5,
oX 111 110,
ol 112 0 111,
oc 113 112,
mV 114 19,
oQ 115 5 113 114,
ol 116 4 115,
oc 117 116,
mV 118 10,
xn 119 117 118,
oQ 120 5 113 114,
ol 121 4 120,
oM 1 121 119] [1,5,10,12,13,15,20])
(.reg [oc 122 5,
oX 123 122,
ol 124 0 123,
oc 125 124,
mV 126 19,
oQ 127 5 125 126,
ol 128 4 127,
oc 129 128,
mV 130 10,
xx 131 129 130,
oQ 132 5 125 126,
ol 133 4 132,
oM 1 133 131] [1,5,10,12,13,15,20])))
(.reg [mV 134 20,
mV 18 134] [1,5,10,12,13,15,18])))))))))
(wJ [mV 135 10,
mV 136 15,
mV 10 135,
mV 11 136] [10,11]
.ret))))
.skip))
(wJ [oc 137 5,
oX 138 137,
ol 139 0 138,
oc 140 139,
oR 141 140,
oI 142 0] [1,2,3,4,5,12,13,14,15,140,141,142]
(.block 6
(.loop [1,2,3,4,5,12,13,14,15,140,141,142]
(wJ [xT 143 142 141] [1,2,3,4,5,12,13,14,15,140,141,142,143]
(.seq (.cond (.t 143)
.skip
(.exit 6))
(.seq (.block 7
(wJ [mV 144 142,
oQ 145 5 140 142,
oe 146 5 145,
oP 22 (.alloc ww),
mV 21 144,
oM 5 22 146] [1,2,3,4,5,12,13,14,15,21,22,140,141,142]
(.frz 22 true (.seq (wJ [mV 147 21,
mV 148 3,
zh 149 147 148,
mV 150 149,
kw 151 150 15,
kL 152 150 0 22,
kD 153 150 152,
gF 154 150 (.bin .neq (.t 151) (.t 153)),
kw 155 150 154,
zR 156 155 15,
ki 157 155 1 22,
zS 158 155 157,
gT 159 155 (.bin .neq (.t 156) (.t 158)),
gF 160 150 (.pick (.t 155) (.t 159) (.c (.bool false))),
oP 161 (.pick (.t 150) (.c (.bool true)) (.t 160)),
mV 162 161,
gF 163 162 (.load (some 5) (.t 22)),
kw 164 162 15,
gF 165 162 (.call (.f 183) wo [.t 163,.t 164]),
gF 166 162 (.bin .leq (.t 165) (cI 0)),
oP 167 (.pick (.t 162) (.c (.bool true)) (.t 166)),
mV 168 167,
kw 169 168 12,
kw 170 168 13,
kw 171 168 21,
kw 172 168 15,
gF 173 168 (.call (.t 170) wo [.t 171,.t 172]),
kR 174 168 1 169 173,
kD 175 168 174,
gF 176 168 (.bin .neq (.t 175) (cI 0)),
oP 177 (.pick (.t 168) (.c (.bool true)) (.t 176))] [1,2,3,4,5,12,13,14,15,21,140,141,142,177]
(.cond (.t 177)
(.exit 7)
.skip))
(wJ [mV 178 12,
mV 179 13,
mV 180 21,
mV 181 15,
oP 182 (.call (.t 179) wo [.t 180,.t 181]),
mV 183 21,
xr 184 183 1,
oQ 185 1 178 182,
oM 1 185 184] [1,2,3,4,5,12,13,14,15,21,140,141,142]
(.reg [mV 186 14,
mV 187 13,
mV 188 21,
mV 189 15,
oP 190 (.call (.t 187) wo [.t 188,.t 189]),
oP 191 (.lit 0 1 1 [(0,.t 190)]),
oP 192 (.append 1 8 (.t 186) (.t 191)),
mV 14 192] [1,2,3,4,5,12,13,14,15,140,141,142]))))))
(.reg [xr 193 142 1,
mV 142 193] [1,2,3,4,5,12,13,14,15,140,141,142]))))))))))
(.reg [mV 37 14,
oP 38 (.subO 1 (.t 37) (cI 1)),
mV 14 38] [1,2,3,4,5,12,13,14]))))))
(wJ [oI 10 0,
oI 11 0] [10,11]
.ret))))))
abbrev QD:RsT:=[(10,none),(11,none)]
theorem OJ:SpF 194 I7 LI QD:=SpI Tryz.func140 (by kernel_rfl)
theorem Ll:au Tryz.prog I7 = true:=by kernel_rfl
abbrev EX:FuncId:=141
def Jx:AC:=
(wJ [oI 4 0] [0,1,2]
(.seq (wJ [mV 5 0,
oc 6 1,
zh 7 5 6] [2,7]
(.cond (.t 7)
(wJ [oc 8 2,
mV 4 8] [4]
.ret)
.skip))
(wJ [oI 4 0] [4]
.ret)))
abbrev Sb:RsT:=[(4,none)]
theorem Qw:SpF 9 EX Jx Sb:=SpI Tryz.func141 (by kernel_rfl)
theorem QF:au Tryz.prog EX = true:=by kernel_rfl
abbrev Jy:FuncId:=143
def Ln:AC:=
(.reg [mV 3 0,
⟨some 4,none, .call (.f 145) wn [.t 3,(.c (.str ⟨#[32]⟩))]⟩,
⟨some 5,none, .bin .add (.t 4) (.c (.str ⟨#[10]⟩))⟩,
kS 6 144 wn [.t 1,.t 5]] [])
abbrev OO:RsT:=[]
theorem PE:SpF 7 Jy Ln OO:=SpI Tryz.func143 (by kernel_rfl)
theorem K8:au Tryz.prog Jy = true:=by kernel_rfl
abbrev LF:FuncId:=144
theorem RA:au Tryz.prog LF = true:=by kernel_rfl
abbrev Ma:FuncId:=145
theorem Q0:au Tryz.prog Ma = true:=by kernel_rfl
abbrev IP:FuncId:=146
def Mj:AC:=
(wJ [mV 8 1,
oR 9 8,
oI 10 0] [0,2,3,8,9,10]
(.block 0
(.loop [0,2,3,8,9,10]
(wJ [xT 11 10 9] [0,2,3,8,9,10,11]
(.seq (.cond (.t 11)
.skip
(.exit 0))
(.seq (.block 1
(wJ [oQ 12 4 8 10,
oe 13 4 12,
oP 7 (.alloc wx),
oM 4 7 13] [0,2,3,7,8,9,10]
(.frz 7 true (.creg [oc 14 2,
mV 15 0,
oG 16 5 0 3,
ol 17 0 16,
oc 18 17,
ol 19 0 7,
oc 20 19,
oQ 21 1 18 20,
oc 22 21,
oG 23 5 0 3,
ol 24 1 23,
oc 25 24,
ol 26 1 7,
oc 27 26,
oQ 28 1 25 27,
oc 29 28,
oG 30 2 2 7,
ol 31 0 30,
oc 32 31,
kS 33 147 wl [.t 32],
oG 34 2 2 7,
ol 35 1 34,
oc 36 35,
kS 37 147 wl [.t 36],
oP 38 (.lit 0 1 5 [(0,.t 15),(1,.t 22),(2,.t 29),(3,.t 33),(4,.t 37)]),
oP 39 (.call (.t 14) wd [.t 38])] [0,2,3,8,9,10] [[],[],[],[2],[2,3],[],[5],[2,3,4,5,6],[2,3,4,5,6,7],[],[9],[9,10],[],[12],[9,10,11,12,13],[9,10,11,12,13,14],[],[16],[16,17],[16,17,18],[],[20],[20,21],[16,17,18,19,20,21,22],[1,2,3,4,5,6,7,8,9,10,11,12,13,14,15,16,17,18,19,20,21,22,23],wM 25] [([0,1,2,3,4,5,6,7,8,9,10,11,12,13,14,15,16,17,18,19,20,21,22,23],24),([],25)] []))))
(.reg [xr 40 10 1,
mV 10 40] [0,2,3,8,9,10])))))))
abbrev RJ:RsT:=[]
theorem Pd:SpF 41 IP Mj RJ:=SpI Tryz.func146 (by kernel_rfl)
theorem RX:au Tryz.prog IP = true:=by kernel_rfl
abbrev Lc:FuncId:=147
theorem BI:au Tryz.prog Lc = true:=by kernel_rfl
abbrev Iu:FuncId:=148
def Jr:AC:=
(wJ [⟨some 3,none, .mv (.c (.str ⟨#[]⟩))⟩] [0,1]
(.seq (wJ [mV 4 0,
zu 5 4 (-1)] [0,1,5]
(.cond (.t 5)
(wJ [⟨some 3,none, .mv (.c (.str ⟨#[45]⟩))⟩] [3]
.ret)
.skip))
(wJ [oG 6 5 0 1,
ol 7 1 6,
oc 8 7,
mV 9 0,
oQ 10 1 8 9,
oc 11 10,
mV 3 11] [3]
.ret)))
abbrev PB:RsT:=[(3,none)]
theorem PS:SpF 12 Iu Jr PB:=SpI Tryz.func148 (by kernel_rfl)
theorem Mb:au Tryz.prog Iu = true:=by kernel_rfl
abbrev PK:FuncId:=149
theorem OB:au Tryz.prog PK = true:=by kernel_rfl
abbrev EP:FuncId:=155
def xw:AC:=
(wJ [oP 2 (.alloc wx)] [0,1,2]
(wJ [oc 3 0,
oR 4 3,
zu 5 4 5,
kS 6 100 wl [.t 5]] [0,1,2]
(.seq (.creg [oc 7 1,
oX 8 7,
oG 9 5 0 8,
ol 10 0 9,
oc 11 10,
oc 12 0,
oP 13 (.ixS 1 (.t 12) (cI 1)),
oc 14 13,
kS 15 156 [true,false,false] [.t 11,.t 14,(.c (.bool false))],
oc 16 1,
oX 17 16,
oG 18 5 0 17,
ol 19 1 18,
oc 20 19,
oc 21 0,
oP 22 (.ixS 1 (.t 21) (cI 2)),
oc 23 22,
kS 24 156 [true,false,false] [.t 20,.t 23,(.c (.bool false))],
oc 25 0,
oP 26 (.ixS 1 (.t 25) (cI 3)),
oc 27 26,
kS 28 157 wo [.t 27,(.c (.bool false))],
oc 29 0,
oP 30 (.ixS 1 (.t 29) (cI 4)),
oc 31 30,
kS 32 157 wo [.t 31,(.c (.bool false))],
oP 33 (.build wy [(0,1,.t 28),(1,1,.t 32)]),
oP 34 (.build wx [(0,1,.t 15),(1,1,.t 24),(2,2,.t 33)]),
oM 4 2 34] [2] [[],[0],[0,1],[0,1,2],wM 4,[],[5],[5,6],wM 8,[],[9],[9,10],[9,10,11],[9,10,11,12],[],[14],[14,15],wM 17,[],[18],[18,19],wM 21,[],[22],[22,23],wM 25,wM 26,wM 27,wM 28] [([0,1,2,3,4,5,6,7,9,10,11,12,13,14,15,16,18,19,20,22,23,24],8),([],17),([],21),([],25),([26,27],28)] [])
.ret)))
abbrev Qp:RsT:=[(2,some (some 4))]
theorem LN:SpF 35 EP xw Qp:=SpI Tryz.func155 (by kernel_rfl)
theorem EO:au Tryz.prog EP = true:=by kernel_rfl
abbrev HW:FuncId:=156
def BA:AC:=
(wJ [oI 6 0] [0,1,2]
(wJ [mV 8 0,
mV 9 1,
kS 10 161 wn [.t 8,.t 9],
mV 7 10] [1,2,7]
(wJ [mV 11 7,
zE 12 11 0,
mV 13 12,
kw 14 13 2,
kw 15 13 14,
zR 16 15 1,
⟨some 17,(some (15,true)), .bin .eql (.t 16) (.c (.str ⟨#[45]⟩))⟩,
gF 18 13 (.pick (.t 15) (.t 17) (.c (.bool false))),
oP 19 (.pick (.t 13) (.c (.bool true)) (.t 18)),
kS 20 100 wl [.t 19]] [7]
(wJ [mV 21 7,
mV 6 21] [6]
.ret))))
abbrev RZ:RsT:=[(6,none)]
theorem OK:SpF 22 HW BA RZ:=SpI Tryz.func156 (by kernel_rfl)
theorem fo:au Tryz.prog HW = true:=by kernel_rfl
abbrev Io:FuncId:=157
def um:AC:=
(wJ [oI 4 0] [0,1]
(.seq (wJ [mV 7 1,
mV 8 7,
zR 9 8 0,
⟨some 10,(some (8,true)), .bin .eql (.t 9) (.c (.str ⟨#[45]⟩))⟩,
oP 11 (.pick (.t 8) (.t 10) (.c (.bool false)))] [0,11]
(.cond (.t 11)
(wJ [oI 4 (-1)] [4]
.ret)
.skip))
(wJ [mV 13 0,
kS 14 188 wl [.t 13],
mV 12 14,
oK 15 12 0,
oK 16 12 1,
mV 5 15,
mV 6 16] [5,6]
(wJ [mV 17 6,
oP 18 (.isnil false (.t 17)),
mV 19 18,
zR 20 19 5,
gT 21 19 (.bin .geq (.t 20) (cI 0)),
oP 22 (.pick (.t 19) (.t 21) (.c (.bool false))),
kS 23 100 wl [.t 22]] [5]
(wJ [mV 24 5,
mV 4 24] [4]
.ret)))))
abbrev Oq:RsT:=[(4,none)]
theorem Q6:SpF 25 Io um Oq:=SpI Tryz.func157 (by kernel_rfl)
theorem qz:au Tryz.prog Io = true:=by kernel_rfl
abbrev Hn:FuncId:=159
def Mq:AC:=
(wJ [oI 4 0] [0,1]
(.seq (wJ [oI 5 0] [0,1,5]
(.block 0
(.loop [0,1,5]
(.seq (wJ [mV 6 5,
mV 7 0,
oR 8 7,
xT 9 6 8] [0,1,5,9]
(.cond (.t 9)
.skip
(.exit 0)))
(.seq (.block 1
(wJ [mV 12 0,
mV 13 5,
oQ 14 1 12 13,
oc 15 14,
mV 16 1,
zh 17 15 16] [0,1,5,17]
(.cond (.t 17)
(wJ [mV 18 5,
mV 4 18] [4]
.ret)
.skip)))
(.reg [mV 10 5,
xr 11 10 1,
mV 5 11] [0,1,5]))))))
(wJ [oI 4 (-1)] [4]
.ret)))
abbrev RL:RsT:=[(4,none)]
theorem Qy:SpF 19 Hn Mq RL:=SpI Tryz.func159 (by kernel_rfl)
theorem LZ:au Tryz.prog Hn = true:=by kernel_rfl
abbrev IN:FuncId:=160
def Mo:AC:=
(wJ [oI 4 0] [0,1]
(.seq (wJ [mV 6 0,
oR 7 6,
oI 8 0] [0,1,7,8]
(.block 0
(.loop [0,1,7,8]
(wJ [xT 9 8 7] [0,1,7,8,9]
(.seq (.cond (.t 9)
.skip
(.exit 0))
(.seq (.block 1
(wJ [mV 10 8,
mV 5 10] [0,1,5,7,8]
(wJ [mV 11 1,
mV 12 0,
mV 13 5,
oQ 14 1 12 13,
oc 15 14,
oP 16 (.call (.t 11) wl [.t 15])] [0,1,5,7,8,16]
(.cond (.t 16)
(wJ [mV 17 5,
mV 4 17] [4]
.ret)
.skip))))
(.reg [xr 18 8 1,
mV 8 18] [0,1,7,8])))))))
(wJ [oI 4 (-1)] [4]
.ret)))
abbrev QX:RsT:=[(4,none)]
theorem PU:SpF 19 IN Mo QX:=SpI Tryz.func160 (by kernel_rfl)
theorem PC:au Tryz.prog IN = true:=by kernel_rfl
abbrev HF:FuncId:=161
def Lz:AC:=
(wJ [oI 4 0] [0,1]
(.seq (wJ [mV 6 0,
oR 7 6,
oI 8 0] [0,1,7,8]
(.block 0
(.loop [0,1,7,8]
(wJ [xT 9 8 7] [0,1,7,8,9]
(.seq (.cond (.t 9)
.skip
(.exit 0))
(.seq (.block 1
(wJ [mV 10 8,
mV 5 10] [0,1,5,7,8]
(wJ [mV 11 1,
mV 12 0,
mV 13 5,
oQ 14 1 12 13,
oc 15 14,
zh 16 11 15] [0,1,5,7,8,16]
(.cond (.t 16)
(wJ [mV 17 5,
mV 4 17] [4]
.ret)
.skip))))
(.reg [xr 18 8 1,
mV 8 18] [0,1,7,8])))))))
(wJ [oI 4 (-1)] [4]
.ret)))
abbrev R0:RsT:=[(4,none)]
theorem Q1:SpF 19 HF Lz R0:=SpI Tryz.func161 (by kernel_rfl)
theorem BJ:au Tryz.prog HF = true:=by kernel_rfl
abbrev Ic:FuncId:=162
def Mk:AC:=
(wJ [oI 6 0] [0,1,2]
(wJ [oP 7 (.mv (.c (.bool false)))] [0,1,2,7]
(.seq (wJ [oI 8 0] [0,1,2,7,8]
(.block 0
(.loop [0,1,2,7,8]
(.seq (wJ [mV 9 8,
mV 10 0,
oR 11 10,
xT 12 9 11] [0,1,2,7,8,12]
(.cond (.t 12)
.skip
(.exit 0)))
(.seq (.block 1
(.seq (wJ [mV 15 0,
mV 16 8,
oQ 17 2 15 16,
ol 18 0 17,
oc 19 18,
mV 20 1,
mV 21 2,
kS 22 109 [false,false,false] [.t 19,.t 20,.t 21],
xi 23 22,
mV 24 23,
kw 25 24 0,
kw 26 24 8,
kR 27 24 2 25 26,
kL 28 24 1 27,
kD 29 24 28,
kw 30 24 1,
kw 31 24 2,
gF 32 24 (.call (.f 109) [false,false,false] [.t 29,.t 30,.t 31]),
gF 33 24 (.un .not (.t 32)),
oP 34 (.pick (.t 24) (.c (.bool true)) (.t 33))] [0,1,2,7,8,34]
(.cond (.t 34)
(wJ [oI 6 7] [6]
.ret)
.skip))
(.dreg [mV 35 7,
mV 36 35,
kw 37 36 0,
kw 38 36 8,
kR 39 36 2 37 38,
kL 40 36 0 39,
kD 41 36 40,
kw 42 36 0,
kw 43 36 8,
kR 44 36 2 42 43,
kL 45 36 1 44,
kD 46 36 45,
gF 47 36 (.bin .gtr (.t 41) (.t 46)),
oP 48 (.pick (.t 36) (.c (.bool true)) (.t 47)),
mV 7 48] [0,1,2,7,8] [[],[0],[0,1],[0,1],wM 4,wM 5,wM 6,[0,1],[0,1],[0,1,7,8],[0,1,7,8,9],[0,1,7,8,9,10],wM 12,wM 13,wM 14])))
(.reg [mV 13 8,
xr 14 13 1,
mV 8 14] [0,1,2,7,8]))))))
(.seq (wJ [mV 49 7] [49]
(.cond (.t 49)
(wJ [oI 6 2] [6]
.ret)
.skip))
(wJ [oI 6 0] [6]
.ret)))))
abbrev Rh:RsT:=[(6,none)]
theorem Pv:SpF 50 Ic Mk Rh:=SpI Tryz.func162 (by kernel_rfl)
theorem RQ:au Tryz.prog Ic = true:=by kernel_rfl
abbrev HD:FuncId:=163
def Hq:AC:=
(wJ [oI 3 0] [0,1]
(.seq (wJ [mV 4 0,
zu 5 4 (-1)] [0,1,5]
(.cond (.t 5)
(wJ [oc 6 1,
mV 3 6] [3]
.ret)
.skip))
(wJ [mV 7 0,
mV 3 7] [3]
.ret)))
abbrev Q8:RsT:=[(3,none)]
theorem Qh:SpF 8 HD Hq Q8:=SpI Tryz.func163 (by kernel_rfl)
theorem OC:au Tryz.prog HD = true:=by kernel_rfl
abbrev Ft:FuncId:=164
def L4:AC:=
(wJ [oI 3 0] [0,1]
(wJ [oc 4 1,
mV 5 0,
oQ 6 1 4 5,
oc 7 6,
oP 8 (.un .neg (.t 7)),
mV 3 8] [3]
.ret))
abbrev Qc:RsT:=[(3,none)]
theorem PT:SpF 9 Ft L4 Qc:=SpI Tryz.func164 (by kernel_rfl)
theorem QZ:au Tryz.prog Ft = true:=by kernel_rfl
abbrev rL:FuncId:=165
def Lg:AC:=
(wJ [oV 1 2 0,
oI 2 0] [1]
(wJ [ol 3 0 1,
oc 4 3,
mV 2 4] [2]
.ret))
abbrev OL:RsT:=[(2,none)]
theorem Oo:SpF 5 rL Lg OL:=SpI Tryz.func165 (by kernel_rfl)
theorem Lx:au Tryz.prog rL = true:=by kernel_rfl
abbrev sC:FuncId:=166
def Me:AC:=
(wJ [oV 1 2 0,
oI 2 0] [1]
(wJ [ol 3 1 1,
oc 4 3,
mV 2 4] [2]
.ret))
abbrev P3:RsT:=[(2,none)]
theorem Pu:SpF 5 sC Me P3:=SpI Tryz.func166 (by kernel_rfl)
theorem K6:au Tryz.prog sC = true:=by kernel_rfl
abbrev Jk:FuncId:=167
def LU:AC:=
(wJ [oI 4 0] [0,1]
(.seq (wJ [mV 6 0,
oR 7 6,
oI 8 0] [0,1,7,8]
(.block 0
(.loop [0,1,7,8]
(wJ [xT 9 8 7] [0,1,7,8,9]
(.seq (.cond (.t 9)
.skip
(.exit 0))
(.seq (.block 1
(wJ [mV 10 8,
mV 5 10] [0,1,5,7,8]
(wJ [mV 11 1,
mV 12 0,
mV 13 5,
oQ 14 4 12 13,
oe 15 4 14,
oP 16 (.call (.t 11) wl [.t 15])] [0,1,5,7,8,16]
(.cond (.t 16)
(wJ [mV 17 5,
mV 4 17] [4]
.ret)
.skip))))
(.reg [xr 18 8 1,
mV 8 18] [0,1,7,8])))))))
(wJ [oI 4 (-1)] [4]
.ret)))
abbrev QN:RsT:=[(4,none)]
theorem OX:SpF 19 Jk LU QN:=SpI Tryz.func167 (by kernel_rfl)
theorem L6:au Tryz.prog Jk = true:=by kernel_rfl
abbrev EV:FuncId:=168
def Md:AC:=
(wJ [oV 2 4 0,
oP 3 (.mv (.c (.bool false)))] [1,2]
(wJ [ol 4 0 2,
oc 5 4,
ol 6 1 2,
oc 7 6,
oP 8 (.build wy [(0,1,.t 5),(1,1,.t 7)]),
oe 9 2 1,
oP 10 (.eqa false [.i, .i] (.t 8) (.t 9)),
mV 3 10] [3]
.ret))
abbrev Ph:RsT:=[(3,none)]
theorem P7:SpF 11 EV Md Ph:=SpI Tryz.func168 (by kernel_rfl)
theorem Ps:au Tryz.prog EV = true:=by kernel_rfl
abbrev HA:FuncId:=169
def Ls:AC:=
(wJ [oI 4 0] [0,1]
(.seq (wJ [mV 6 0,
oR 7 6,
oI 8 0] [0,1,7,8]
(.block 0
(.loop [0,1,7,8]
(wJ [xT 9 8 7] [0,1,7,8,9]
(.seq (.cond (.t 9)
.skip
(.exit 0))
(.seq (.block 1
(wJ [mV 10 8,
mV 5 10] [0,1,5,7,8]
(wJ [mV 11 1,
mV 12 0,
mV 13 5,
oQ 14 1 12 13,
oc 15 14,
zh 16 11 15] [0,1,5,7,8,16]
(.cond (.t 16)
(wJ [mV 17 5,
mV 4 17] [4]
.ret)
.skip))))
(.reg [xr 18 8 1,
mV 8 18] [0,1,7,8])))))))
(wJ [oI 4 (-1)] [4]
.ret)))
abbrev Ri:RsT:=[(4,none)]
theorem P6:SpF 19 HA Ls Ri:=SpI Tryz.func169 (by kernel_rfl)
theorem PG:au Tryz.prog HA = true:=by kernel_rfl
abbrev Hd:FuncId:=182
def Lq:AC:=
(wJ [oI 5 0] [0,1,2]
(.seq (.dreg [oc 6 2,
oX 7 6,
ol 8 0 7,
oc 9 8,
mV 10 0,
oQ 11 5 9 10,
ol 12 0 11,
oc 13 12,
oc 14 2,
oX 15 14,
ol 16 0 15,
oc 17 16,
mV 18 0,
oQ 19 5 17 18,
ol 20 1 19,
oc 21 20,
xn 22 13 21,
mV 23 1,
xx 24 22 23,
mV 5 24] [5] [[],[0],[0,1],[0,1,2],[],wM 5,wM 6,wM 7,[],[8],[8,9],[8,9,10],[],[8,9,10,11,12],[8,9,10,11,12,13],[8,9,10,11,12,13,14],wM 16,[],wM 18,wM 19])
.ret))
abbrev RM:RsT:=[(5,none)]
theorem Pt:SpF 25 Hd Lq RM:=SpI Tryz.func182 (by kernel_rfl)
theorem ET:au Tryz.prog Hd = true:=by kernel_rfl
abbrev HX:FuncId:=183
def Hg:AC:=
(wJ [oV 2 5 0,
oI 4 0] [1,2]
(.seq (wJ [mV 5 1,
ol 6 0 2,
oc 7 6,
zh 8 5 7] [2,8]
(.cond (.t 8)
(wJ [ol 9 3 2,
oc 10 9,
ol 11 4 2,
oc 12 11,
xx 13 10 12,
mV 4 13] [4]
.ret)
.skip))
(wJ [ol 14 4 2,
oc 15 14,
ol 16 2 2,
oc 17 16,
xx 18 15 17,
mV 4 18] [4]
.ret)))
abbrev Rp:RsT:=[(4,none)]
theorem Og:SpF 19 HX Hg Rp:=SpI Tryz.func183 (by kernel_rfl)
theorem Fc:au Tryz.prog HX = true:=by kernel_rfl
abbrev Lr:FuncId:=188
theorem zG:au Tryz.prog Lr = true:=by kernel_rfl
end Go.AM
