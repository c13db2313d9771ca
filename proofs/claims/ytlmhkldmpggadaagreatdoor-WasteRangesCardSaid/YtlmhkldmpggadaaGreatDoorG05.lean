/- MADE BY PROGRAM (gen.py): the abstract code of functions of this seat, each checked against the given code by the kernel. -/
import Derived.Test.YtlmhkldmpggadaaGreatDoorG05a
import Derived.Test.YtlmhkldmpggadaaGreatDoorChecked
import Derived.Test.YtlmhkldmpggadaaGreatDoorP15
import Derived.Test.YtlmhkldmpggadaaGreatDoorP16
namespace Go.AM
open Go.Proofs
abbrev G9:FuncId:=116
def LB:AC:=
(qL [oX 4 0,
oX 5 0] [0,1]
(.seq (qL [mV 8 0,
xZ 9 8,
oX 10 0] [1,8,9,10]
(.block 0
(.loop [1,8,9,10]
(qL [zS 11 10 9] [1,8,9,10,11]
(.seq (.cond (.t 11)
.skip
(.exit 0))
(.seq (.block 1
(qL [mV 12 10,
xC 13 4 8 10,
oG 14 4 13,
oP 7 (.alloc qx),
mV 6 12,
xn 4 7 14] [1,6,7,8,9,10]
(.frz 7 true (qL [mV 15 1,
mV 16 6,
oG 17 4 7,
oP 18 (.call (.t 15) vV [.t 16,.t 17]),
mV 5 18] [1,5,6,8,9,10]
(qL [mV 19 5,
wc 20 19 0] [1,5,6,8,9,10,20]
(.cond (.t 20)
(qL [mV 21 6,
mV 22 5,
mV 4 21,
mV 5 22] [4,5]
.ret)
.skip))))))
(.reg [zE 23 10 1,
mV 10 23] [1,8,9,10])))))))
(qL [oX 4 0,
oX 5 0] [4,5]
.ret)))
abbrev PQ:RsT:=[(4,none),(5,none)]
theorem P8:SpF 24 G9 LB PQ:=SpI Tryz.func116 (by kernel_rfl)
theorem Pl:au Tryz.prog G9 = true:=by kernel_rfl
abbrev Fq:FuncId:=117
def td:AC:=
(qL [zc 5 4 1,
oX 6 0] [2,3,5]
(.seq (.qreg [ol 7 2,
oQ 8 0 5,
ol 9 8,
oQ 10 1 5,
ol 11 10,
oP 12 (.build qE [(0,1,.t 9),(1,1,.t 11)]),
oP 13 (.lookup false (.int .i64 0) (.t 7) (.t 12)),
zE 14 13 1,
oP 15 (.ment (.int .i64 0) (.t 7) (.t 12)),
xi 16 15 1,
oN (.estore (.t 7) (.t 16) (.t 14))] [2,3,5] [[],[],[1],[],[3],[1,2,3,4],yb 6,yb 7,yb 6,[0,1,2,3,4,5,8],yb 10] [([0,1,2,3,4,5,6,7],8),([9],10)] [])
(.seq (.block 0
(qL [oV 18 5 0 3,
oQ 19 0 18,
ol 20 19,
xZ 21 20,
zR 22 21 1,
oQ 23 0 5,
ol 24 23,
oP 25 (.lit 0 1 1 [(0,.t 24)]),
vi 26 53 [false,false,true] [cI 0,.t 22,.t 25],
mV 27 26,
gF 28 27 (.fieldAddr (some 5) 0 (.t 3)),
wJ 29 27 1 28,
wI 30 27 29,
wM 31 27 30,
gF 32 27 (.bin .sub (.t 31) (cI 1)),
wJ 33 27 1 5,
wI 34 27 33,
gF 35 27 (.lit 0 1 1 [(0,.t 34)]),
gF 36 27 (.call (.f 53) [false,false,true] [cI 0,.t 32,.t 35]),
oP 37 (.pick (.t 27) (.c (.bool true)) (.t 36)),
mV 17 37] [2,5,17]
(.cond (.t 17)
(qL [oX 6 4] [6]
.ret)
(qL [ol 39 2,
oQ 40 0 5,
ol 41 40,
oQ 42 1 5,
ol 43 42,
oP 44 (.build qE [(0,1,.t 41),(1,1,.t 43)]),
oP 45 (.mgetp false (.int .i64 0) (.t 39) (.t 44)),
wm 46 45 1,
mV 38 46] [5,38]
(.cond (.t 38)
(qL [oX 6 5] [6]
.ret)
(qL [oV 48 2 2 5,
oQ 49 0 48,
ol 50 49,
oV 51 2 2 5,
oQ 52 1 51,
ol 53 52,
oP 54 (.lit 0 1 2 [(0,.t 50),(1,.t 53)]),
vi 55 53 [false,false,true] [cI 0,cI 1000000,.t 54],
mV 47 55] [5,47]
(.cond (.t 47)
(qL [oX 6 7] [6]
.ret)
(qL [oV 57 2 2 5,
oQ 58 0 57,
ol 59 58,
oV 60 2 2 5,
oQ 61 1 60,
ol 62 61,
oP 63 (.bin .gtr (.t 59) (.t 62)),
mV 56 63] [56]
(.cond (.t 56)
(qL [oX 6 2] [6]
.ret)
.skip)))))))))
(qL [oX 6 0] [6]
.ret))))
abbrev PA:RsT:=[(6,none)]
theorem uv:SpF 64 Fq td PA:=SpI Tryz.func117 (by kernel_rfl)
theorem PW:au Tryz.prog Fq = true:=by kernel_rfl
abbrev H0:FuncId:=118
def Mn:AC:=
(qL [oX 4 0] [0,1]
(.seq (qL [mV 5 0,
vi 6 52 vq [.t 5],
zu 7 6] [0,1,7]
(.cond (.t 7)
(qL [oX 4 6] [4]
.ret)
.skip))
(.seq (qL [mV 8 1,
mV 9 0,
vi 10 159 vy [.t 8,.t 9],
wd 11 10 0] [11]
(.cond (.t 11)
(qL [oX 4 5] [4]
.ret)
.skip))
(qL [oX 4 0] [4]
.ret))))
abbrev Po:RsT:=[(4,none)]
theorem Pb:SpF 12 H0 Mn Po:=SpI Tryz.func118 (by kernel_rfl)
theorem LW:au Tryz.prog H0 = true:=by kernel_rfl
abbrev G8:FuncId:=119
def Lp:AC:=
(qL [zc 3 2 0,
oX 6 0] [1,2,3]
(qL [oG 7 2 3,
oP 8 (.lit 0 2 1 [(0,.t 7)]),
mV 9 1,
mV 10 2,
vi 11 162 [true,false,false] [.t 8,.t 9,.t 10],
mV 6 11] [6]
.ret))
abbrev PI:RsT:=[(6,none)]
theorem Q9:SpF 12 G8 Lp PI:=SpI Tryz.func119 (by kernel_rfl)
theorem Lm:au Tryz.prog G8 = true:=by kernel_rfl
abbrev Jd:FuncId:=120
def L8:AC:=
(qL [oX 4 0,
oX 5 0] [0,1]
(.seq (qL [mV 8 0,
xZ 9 8,
oX 10 0] [1,8,9,10]
(.block 0
(.loop [1,8,9,10]
(qL [zS 11 10 9] [1,8,9,10,11]
(.seq (.cond (.t 11)
.skip
(.exit 0))
(.seq (.block 1
(qL [mV 12 10,
xC 13 1 8 10,
ol 14 13,
mV 6 12,
mV 7 14] [1,6,7,8,9,10]
(qL [mV 15 1,
mV 16 6,
mV 17 7,
oP 18 (.call (.t 15) vV [.t 16,.t 17]),
mV 5 18] [1,5,6,8,9,10]
(qL [mV 19 5,
wc 20 19 0] [1,5,6,8,9,10,20]
(.cond (.t 20)
(qL [mV 21 6,
mV 22 5,
mV 4 21,
mV 5 22] [4,5]
.ret)
.skip)))))
(.reg [zE 23 10 1,
mV 10 23] [1,8,9,10])))))))
(qL [oX 4 0,
oX 5 0] [4,5]
.ret)))
abbrev P5:RsT:=[(4,none),(5,none)]
theorem RN:SpF 24 Jd L8 P5:=SpI Tryz.func120 (by kernel_rfl)
theorem QG:au Tryz.prog Jd = true:=by kernel_rfl
abbrev Fi:FuncId:=121
def Bq:AC:=
(qL [oX 6 0] [0,1,2,3]
(.seq (.block 0
(qL [oV 8 5 0 2,
oQ 9 3 8,
ol 10 9,
xZ 11 10,
zR 12 11 1,
mV 13 1,
oP 14 (.lit 0 1 1 [(0,.t 13)]),
vi 15 53 [false,false,true] [cI 0,.t 12,.t 14],
mV 7 15] [0,1,3,7]
(.cond (.t 7)
(qL [oX 6 4] [6]
.ret)
(qL [mV 17 0,
wm 18 17 0,
mV 19 18,
wn 20 19 1,
wo 21 19 3,
wn 22 19 0,
gT 23 19 (.bin .sub (.t 22) (cI 1)),
ww 24 19 1 21 23,
wo 25 19 24,
gT 26 19 (.bin .leq (.t 20) (.t 25)),
oP 27 (.pick (.t 19) (.t 26) (.c (.bool false))),
mV 16 27] [16]
(.cond (.t 16)
(qL [oX 6 2] [6]
.ret)
.skip)))))
(qL [oX 6 0] [6]
.ret)))
abbrev Om:RsT:=[(6,none)]
theorem O5:SpF 28 Fi Bq Om:=SpI Tryz.func121 (by kernel_rfl)
theorem QI:au Tryz.prog Fi = true:=by kernel_rfl
abbrev I5:FuncId:=122
def L9:AC:=
(qL [zc 3 5 0,
oP 6 (.mv (.c .nilptr))] [1,2,3]
(qL [oV 19 5 0 3,
oQ 20 1 19,
ol 21 20,
xZ 22 21,
oP 7 (.alloc [.int .i64 0]),
xn 1 7 22] [1,2,3,7]
(.frz 7 false (qL [ol 23 7,
zE 24 23 1,
mV 8 24] [1,2,3,7,8]
(qL [mV 25 8,
zE 26 25 1,
oV 27 5 0 3,
oQ 28 3 27,
ol 29 28,
xZ 30 29,
oP 31 (.mksl 2 1 8 (.int .i64 0) (.t 30) (.t 30)),
oP 32 (.buildm [.mint 1005, .int .i64 0, .slice 1 [], .int .i64 0] [(1,1,.t 26),(2,1,.t 31)]),
oP 33 (.box 4 (.t 32)),
mV 9 33] [1,2,3,7,8,9]
(qL [oP 34 (.mkfunc (.func 163) [] [.t 7]),
mV 10 34] [1,2,3,7,8,9,10]
(.seq (qL [oV 35 5 0 3,
oQ 36 1 35,
ol 37 36,
xZ 38 37,
oX 39 0] [1,2,3,7,8,9,10,38,39]
(.block 0
(.loop [1,2,3,7,8,9,10,38,39]
(qL [zS 40 39 38] [1,2,3,7,8,9,10,38,39,40]
(.seq (.cond (.t 40)
.skip
(.exit 0))
(.seq (.block 1
(qL [mV 41 39,
mV 11 41] [1,2,3,7,8,9,10,11,38,39]
(qL [oV 43 5 0 3,
oQ 44 2 43,
ol 45 44,
mV 46 1,
mV 47 11,
oP 48 (.build qE [(0,1,.t 46),(1,1,.t 47)]),
vi 49 126 vy [.t 45,.t 48],
mV 42 49,
xi 50 42 0,
xi 51 42 1,
oP 12 (.alloc qE),
xn 2 12 50,
mV 13 51] [1,2,3,7,8,9,10,11,12,38,39]
(.frz 12 true (qL [oV 53 5 0 3,
oQ 54 4 53,
ol 55 54,
mV 56 1,
mV 57 11,
oP 58 (.build qE [(0,1,.t 56),(1,1,.t 57)]),
vi 59 126 vy [.t 55,.t 58],
mV 52 59,
xi 60 52 0,
xi 61 52 1,
oP 14 (.alloc qE),
xn 2 14 60,
mV 15 61] [1,2,3,7,8,9,10,11,12,14,15,38,39]
(.seq (qL [mV 62 15,
zu 63 62] [1,2,3,7,8,9,10,11,12,14,38,39,63]
(.cond (.t 63)
(.reg [oQ 64 1 14,
oN (.store 1 (.t 64) (cI 1099511627776))] [1,2,3,7,8,9,10,11,12,14,38,39])
.skip))
(.dreg [mV 65 9,
mV 66 9,
zr 67 66,
oQ 68 0 67,
ol 69 68,
mV 70 8,
mV 71 11,
oQ 72 0 12,
ol 73 72,
oQ 74 1 12,
ol 75 74,
oQ 76 0 12,
ol 77 76,
oP 78 (.build qr [(0,1,.t 70),(1,1,.t 71),(2,1,.t 73),(3,1,.t 75),(4,1,.t 77)]),
mV 79 11,
mV 80 8,
oQ 81 0 14,
ol 82 81,
oQ 83 1 14,
ol 84 83,
oQ 85 0 14,
ol 86 85,
oP 87 (.build qr [(0,1,.t 79),(1,1,.t 80),(2,1,.t 82),(3,1,.t 84),(4,1,.t 86)]),
oP 88 (.lit 0 5 2 [(0,.t 78),(1,.t 87)]),
oP 89 (.append 5 40 (.t 69) (.t 88)),
zr 90 65,
oQ 91 0 90,
xn 1 91 89] [1,2,3,7,8,9,10,38,39] [[],[],[1],[1,2],[1,2,3],[],[],[],[7],[],[9],[],[11],[5,6,7,8,9,10,11,12],[],[],[],[16],[],[18],[],[20],[14,15,16,17,18,19,20,21],[5,6,7,8,9,10,11,12,13,14,15,16,17,18,19,20,21,22],[1,2,3,4,5,6,7,8,9,10,11,12,13,14,15,16,17,18,19,20,21,22,23],yb 25,yb 26,yb 27])))))))
(.reg [zE 92 39 1,
mV 39 92] [1,2,3,7,8,9,10,38,39])))))))
(.seq (qL [oV 93 5 0 3,
oQ 94 3 93,
ol 95 94,
xZ 96 95,
oX 97 0] [1,2,3,7,8,9,10,95,96,97]
(.block 2
(.loop [1,2,3,7,8,9,10,95,96,97]
(qL [zS 98 97 96] [1,2,3,7,8,9,10,95,96,97,98]
(.seq (.cond (.t 98)
.skip
(.exit 2))
(.seq (.block 3
(qL [mV 99 97,
xC 100 5 95 97,
oG 101 5 100,
oP 17 (.alloc qr),
mV 16 99,
xn 5 17 101] [1,2,3,7,8,9,10,16,17,95,96,97]
(.frz 17 true (.seq (qL [oQ 102 0 17,
ol 103 102,
mV 104 1,
kR 105 103 104,
mV 106 105,
gF 107 106 (.load (some 5) (.t 3)),
wy 108 106 16,
gF 109 106 (.call (.f 127) vy [.t 107,.t 108]),
gF 110 106 (.un .not (.t 109)),
oP 111 (.pick (.t 106) (.c (.bool true)) (.t 110))] [1,2,3,7,8,9,10,16,17,95,96,97,111]
(.cond (.t 111)
(.exit 3)
.skip))
(.seq (.dreg [mV 112 9,
zr 113 112,
oQ 114 2 113,
ol 115 114,
mV 116 16,
mV 117 9,
zr 118 117,
oQ 119 0 118,
ol 120 119,
xZ 121 120,
xC 122 1 115 116,
xn 1 122 121] [1,2,3,7,8,9,10,16,17,95,96,97] [[],[0],[0,1],[0,1,2],[],[],[5],[5,6],[5,6,7],[5,6,7,8],yb 10,yb 11])
(.seq (qL [oQ 123 4 17,
ol 124 123,
wd 125 124 0] [1,2,3,7,8,9,10,16,17,95,96,97,125]
(.cond (.t 125)
(.dreg [mV 126 9,
zr 127 126,
oQ 128 2 127,
ol 129 128,
oQ 130 4 17,
ol 131 130,
mV 132 9,
zr 133 132,
oQ 134 0 133,
ol 135 134,
xZ 136 135,
xC 137 1 129 131,
xn 1 137 136] [1,2,3,7,8,9,10,16,17,95,96,97] [[],[0],[0,1],[0,1,2],[],[4],[],[6],[6,7],[6,7,8],[6,7,8,9],yb 11,yb 12])
.skip))
(qL [oG 138 5 3,
mV 139 16,
mV 140 2,
vi 141 128 [true,false,true] [.t 138,.t 139,.t 140],
oP 18 (.alloc qE),
xn 2 18 141] [1,2,3,7,8,9,10,17,18,95,96,97]
(.frz 18 true (.dreg [mV 142 9,
mV 143 9,
zr 144 143,
oQ 145 0 144,
ol 146 145,
mV 147 10,
oQ 148 1 17,
ol 149 148,
oP 150 (.call (.t 147) vq [.t 149]),
mV 151 10,
oQ 152 2 17,
ol 153 152,
oP 154 (.call (.t 151) vq [.t 153]),
oQ 155 0 18,
ol 156 155,
oQ 157 1 18,
ol 158 157,
oQ 159 0 18,
ol 160 159,
oP 161 (.build qr [(0,1,.t 150),(1,1,.t 154),(2,1,.t 156),(3,1,.t 158),(4,1,.t 160)]),
oP 162 (.lit 0 5 1 [(0,.t 161)]),
oP 163 (.append 5 40 (.t 146) (.t 162)),
zr 164 142,
oQ 165 0 164,
xn 1 165 163] [1,2,3,7,8,9,10,95,96,97] [[],[],[1],[1,2],[1,2,3],[],[],[6],[5,6,7],[],[],[10],[5,6,7,8,9,10,11],[],[13],[],[15],[],[17],[5,6,7,8,9,10,11,12,13,14,15,16,17,18],[5,6,7,8,9,10,11,12,13,14,15,16,17,18,19],[1,2,3,4,5,6,7,8,9,10,11,12,13,14,15,16,17,18,19,20],yb 22,yb 23,yb 24])))))))))
(.reg [zE 166 97 1,
mV 97 166] [1,2,3,7,8,9,10,95,96,97])))))))
(qL [mV 167 9,
mV 168 9,
zr 169 168,
oQ 170 0 169,
ol 171 170,
xZ 172 171,
zr 173 167,
oQ 174 3 173,
xn 1 174 172] [7,8,9]
(.seq (.dreg [mV 175 9,
mV 176 9,
zr 177 176,
oQ 178 0 177,
ol 179 178,
ol 180 7,
mV 181 8,
oP 182 (.build qr [(0,1,.t 180),(1,1,.t 181),(2,1,cI (-1099511627776)),(3,1,cI 1099511627776),(4,1,cI 0)]),
oP 183 (.lit 0 5 1 [(0,.t 182)]),
oP 184 (.append 5 40 (.t 179) (.t 183)),
zr 185 175,
oQ 186 0 185,
xn 1 186 184] [9] [[],[],[1],[1,2],[1,2,3],[],[],[5,6],[5,6,7],[1,2,3,4,5,6,7,8],yb 10,yb 11,yb 12])
(qL [mV 187 9,
mV 6 187] [6]
.ret)))))))))))
abbrev RB:RsT:=[(6,none)]
theorem Ry:SpF 188 I5 L9 RB:=SpI Tryz.func122 (by kernel_rfl)
theorem LD:au Tryz.prog I5 = true:=by kernel_rfl
abbrev Hs:FuncId:=123
def LJ:AC:=
(qL [oP 2 (.mv (.c (.bool false)))] [0]
(qL [mV 9 0,
zr 10 9,
oQ 11 1 10,
ol 12 11,
oP 13 (.mksl 2 1 8 (.int .i64 0) (.t 12) (.t 12)),
oP 3 (.alloc [.slice 1 []]),
xn 1 3 13] [0,3]
(.frz 3 false (.seq (qL [mV 14 0,
zr 15 14,
oQ 16 0 15,
ol 17 16,
xZ 18 17,
oX 19 0] [0,3,17,18,19]
(.block 0
(.loop [0,3,17,18,19]
(qL [zS 20 19 18] [0,3,17,18,19,20]
(.seq (.cond (.t 20)
.skip
(.exit 0))
(.seq (.block 1
(qL [xC 21 5 17 19,
oG 22 5 21,
oP 5 (.alloc qr),
xn 5 5 22] [0,3,5,17,18,19]
(.frz 5 true (.seq (.dreg [ol 23 3,
oQ 24 0 5,
ol 25 24,
xC 26 1 23 25,
ol 27 26,
oQ 28 4 5,
ol 29 28,
zI 30 27 29,
xC 31 1 23 25,
xn 1 31 30] [0,3,5,17,18,19] [[],[],[1],[0,1,2],yb 4,[],[5],yb 7,yb 8,yb 9])
(.dreg [ol 32 3,
oQ 33 1 5,
ol 34 33,
xC 35 1 32 34,
ol 36 35,
oQ 37 4 5,
ol 38 37,
zz 39 36 38,
xC 40 1 32 34,
xn 1 40 39] [0,3,17,18,19] [[],[],[1],[0,1,2],yb 4,[],[5],yb 7,yb 8,yb 9])))))
(.reg [zE 41 19 1,
mV 19 41] [0,3,17,18,19])))))))
(.seq (qL [ol 42 3,
xZ 43 42,
oX 44 0] [0,3,43,44]
(.block 2
(.loop [0,3,43,44]
(qL [zS 45 44 43] [0,3,43,44,45]
(.seq (.cond (.t 45)
.skip
(.exit 2))
(.seq (.block 3
(qL [mV 46 44,
mV 6 46] [0,3,6,43,44]
(.block 4
(.loop [0,3,6,43,44]
(.seq (qL [ol 47 3,
mV 48 6,
xC 49 1 47 48,
ol 50 49,
wm 51 50 0] [0,3,6,43,44,51]
(.cond (.t 51)
.skip
(.exit 4)))
(.block 5
(qL [mV 53 0,
mV 54 6,
ol 55 3,
mV 56 6,
xC 57 1 55 56,
ol 58 57,
oP 59 (.mkfunc (.func 164) [] [.t 3]),
vi 60 140 [false,false,false,false,false] [.t 53,.t 54,.t 58,cI (-1),.t 59],
mV 52 60,
xi 61 52 0,
xi 62 52 1,
mV 7 61,
mV 8 62] [0,3,6,7,8,43,44]
(.seq (qL [mV 63 7,
kw 64 63 0] [0,3,6,7,8,43,44,64]
(.cond (.t 64)
(qL [oP 2 (.mv (.c (.bool false)))] [2]
.ret)
.skip))
(qL [ol 65 3,
mV 66 6,
xC 67 1 65 66,
ol 68 67,
mV 69 7,
zI 70 68 69,
xC 71 1 65 66,
xn 1 71 70] [0,3,6,7,8,43,44]
(.reg [ol 72 3,
mV 73 8,
xC 74 1 72 73,
ol 75 74,
mV 76 7,
zz 77 75 76,
xC 78 1 72 73,
xn 1 78 77] [0,3,6,43,44]))))))))))
(.reg [zE 79 44 1,
mV 44 79] [0,3,43,44])))))))
(qL [oP 2 (.mv (.c (.bool true)))] [2]
.ret))))))
abbrev Ro:RsT:=[(2,none)]
theorem R9:SpF 80 Hs LJ Ro:=SpI Tryz.func123 (by kernel_rfl)
theorem Mf:au Tryz.prog Hs = true:=by kernel_rfl
abbrev zk:FuncId:=124
def Ht:AC:=
(qL [oP 3 (.mv (.c (.bool false)))] [0,1]
(qL [mV 4 0,
wd 5 4 0,
mV 6 5,
wo 7 6 1,
wn 8 6 0,
gT 9 6 (.bin .shr (.t 7) (.t 8)),
gT 10 6 (.bin .and (.t 9) (cI 1)),
wu 11 6 10 1,
oP 12 (.pick (.t 6) (.t 11) (.c (.bool false))),
mV 3 12] [3]
.ret))
abbrev PF:RsT:=[(3,none)]
theorem Pg:SpF 13 zk Ht PF:=SpI Tryz.func124 (by kernel_rfl)
theorem l7:au Tryz.prog zk = true:=by kernel_rfl
abbrev HC:FuncId:=125
def Ml:AC:=
(qL [oP 0 (.alloc [.nilfunc, .nilfunc, .nilfunc, .nilfunc])] [0]
(qL [oP 1 (.mv (.f 165)),
oP 2 (.mv (.f 166))] [0,1,2]
(qL [mV 3 1,
mV 4 2,
oP 5 (.build [.nilfunc, .nilfunc] [(0,1,.t 3),(1,1,.t 4)]),
mV 6 2,
mV 7 1,
oP 8 (.build [.nilfunc, .nilfunc] [(0,1,.t 6),(1,1,.t 7)]),
oP 9 (.build [.nilfunc, .nilfunc, .nilfunc, .nilfunc] [(0,2,.t 5),(2,2,.t 8)]),
xn 4 0 9] [0]
.ret)))
abbrev O8:RsT:=[(0,some (some 4))]
theorem QS:SpF 10 HC Ml O8:=SpI Tryz.func125 (by kernel_rfl)
theorem Rg:au Tryz.prog HC = true:=by kernel_rfl
abbrev Jz:FuncId:=126
def HJ:AC:=
(qL [zc 3 2 1,
oP 4 (.alloc qE),
oP 5 (.mv (.c (.bool false)))] [0,3,4]
(qL [mV 7 0,
oP 8 (.mkfunc (.func 168) [] [.t 3]),
vi 9 167 vy [.t 7,.t 8],
mV 6 9] [0,4,6]
(.seq (qL [mV 10 6,
ki 11 10 0] [0,4,6,11]
(.cond (.t 11)
(qL [oP 12 (.build qE []),
xn 2 4 12,
oP 5 (.mv (.c (.bool false)))] [4,5]
.ret)
.skip))
(qL [mV 13 0,
mV 14 6,
xC 15 4 13 14,
oV 16 2 2 15,
oG 17 2 16,
xn 2 4 17,
oP 5 (.mv (.c (.bool true)))] [4,5]
.ret))))
abbrev R7:RsT:=[(4,some (some 2)),(5,none)]
theorem Pm:SpF 18 Jz HJ R7:=SpI Tryz.func126 (by kernel_rfl)
theorem zL:au Tryz.prog Jz = true:=by kernel_rfl
abbrev JM:FuncId:=127
def LM:AC:=
(qL [zc 2 5 0,
oP 4 (.mv (.c (.bool false)))] [1,2]
(qL [oV 5 5 0 2,
oQ 6 3 5,
ol 7 6,
mV 8 1,
xC 9 5 7 8,
oQ 10 4 9,
ol 11 10,
ki 12 11 0,
mV 13 12,
wy 14 13 1,
gF 15 13 (.fieldAddr (some 5) 0 (.t 2)),
wJ 16 13 3 15,
wI 17 13 16,
wy 18 13 1,
va 19 13 5 17 18,
wJ 20 13 4 19,
wI 21 13 20,
gF 22 13 (.bin .lss (.t 14) (.t 21)),
oP 23 (.pick (.t 13) (.c (.bool true)) (.t 22)),
mV 4 23] [4]
.ret))
abbrev Q7:RsT:=[(4,none)]
theorem Sd:SpF 24 JM LM Q7:=SpI Tryz.func127 (by kernel_rfl)
theorem uW:au Tryz.prog JM = true:=by kernel_rfl
abbrev HG:FuncId:=128
def I8:AC:=
(qL [zc 3 5 0,
oP 6 (.alloc qE)] [1,2,3,6]
(qL [mV 11 1,
oP 12 (.lit 0 1 1 [(0,.t 11)]),
mV 7 12] [1,2,3,6,7]
(.seq (qL [oV 13 5 0 3,
oQ 14 3 13,
ol 15 14,
mV 16 1,
xC 17 5 15 16,
oQ 18 4 17,
ol 19 18,
mV 8 19] [1,2,3,6,7,8]
(qL [mV 20 8,
wd 21 20 0] [1,2,3,6,7,8,21]
(.cond (.t 21)
(.reg [mV 22 1,
mV 23 8,
oP 24 (.mn [.t 22,.t 23]),
mV 25 1,
mV 26 8,
oP 27 (.mx [.t 25,.t 26]),
oP 28 (.lit 0 1 2 [(0,.t 24),(1,.t 27)]),
mV 7 28] [2,3,6,7])
.skip)))
(.seq (qL [mV 29 7,
xZ 30 29,
oX 31 0] [2,3,6,29,30,31]
(.block 0
(.loop [2,3,6,29,30,31]
(qL [zS 32 31 30] [2,3,6,29,30,31,32]
(.seq (.cond (.t 32)
.skip
(.exit 0))
(.seq (.block 1
(qL [xC 33 1 29 31,
ol 34 33,
mV 10 34] [2,3,6,10,29,30,31]
(qL [mV 35 2,
mV 36 10,
vi 37 130 vy [.t 35,.t 36],
zu 38 37] [2,3,6,10,29,30,31,38]
(.cond (.t 38)
(.seq (.dreg [oV 39 5 0 3,
oQ 40 3 39,
ol 41 40,
mV 42 10,
xC 43 5 41 42,
oQ 44 3 43,
ol 45 44,
oV 46 5 0 3,
oQ 47 3 46,
ol 48 47,
mV 49 10,
xC 50 5 48 49,
oQ 51 3 50,
ol 52 51,
oP 53 (.build qE [(0,1,.t 45),(1,1,.t 52)]),
xn 2 6 53] [6] [[],[0],[0,1],[],yb 4,yb 5,yb 6,[],[7],[7,8],[],[7,8,9,10],[7,8,9,10,11],[7,8,9,10,11,12],yb 14,yb 15])
.ret)
.skip))))
(.reg [zE 54 31 1,
mV 31 54] [2,3,6,29,30,31])))))))
(qL [oP 55 (.build qE [(1,1,cI 1000000)]),
xn 2 6 55] [6]
.ret)))))
abbrev P9:RsT:=[(6,some (some 2))]
theorem OQ:SpF 56 HG I8 P9:=SpI Tryz.func128 (by kernel_rfl)
theorem zd:au Tryz.prog HG = true:=by kernel_rfl
abbrev JN:FuncId:=129
def Mw:AC:=
(qL [zc 3 5 0,
oP 6 (.alloc qx),
oP 7 (.mv (.c (.bool false)))] [1,2,3,6]
(.seq (qL [oX 8 1] [1,2,3,6,8]
(.block 0
(.loop [1,2,3,6,8]
(.seq (qL [mV 11 8,
oQ 12 1 3,
ol 13 12,
xZ 14 13,
vi 15 75 vq [.t 14],
zS 16 11 15] [1,2,3,6,8,16]
(.cond (.t 16)
.skip
(.exit 0)))
(.seq (.block 1
(qL [oG 20 5 3,
mV 21 1,
mV 22 2,
mV 23 8,
vi 24 76 [true,true,false,false] [.t 20,.t 21,.t 22,.t 23],
mV 19 24,
xi 25 19 0,
xi 26 19 1,
mV 9 25,
mV 10 26] [1,2,3,6,8,9,10]
(.seq (qL [mV 27 9,
wm 28 27 0] [1,2,3,6,8,9,10,28]
(.cond (.t 28)
(qL [mV 29 2,
mV 30 8,
mV 31 9,
oP 32 (.build qx [(0,1,cI (-1)),(1,1,.t 29),(2,1,.t 30),(3,1,.t 31)]),
xn 4 6 32,
oP 7 (.mv (.c (.bool true)))] [6,7]
.ret)
.skip))
(qL [mV 33 10,
ki 34 33 0] [1,2,3,6,8,10,34]
(.cond (.t 34)
(qL [mV 35 2,
mV 36 8,
mV 37 10,
oP 38 (.build qx [(0,1,cI (-1)),(1,1,.t 35),(2,1,.t 36),(3,1,.t 37)]),
xn 4 6 38,
oP 7 (.mv (.c (.bool true)))] [6,7]
.ret)
.skip)))))
(.reg [mV 17 8,
zE 18 17 1,
mV 8 18] [1,2,3,6,8]))))))
(qL [oP 39 (.build qx []),
xn 4 6 39,
oP 7 (.mv (.c (.bool false)))] [6,7]
.ret)))
abbrev QB:RsT:=[(6,some (some 4)),(7,none)]
theorem PO:SpF 40 JN Mw QB:=SpI Tryz.func129 (by kernel_rfl)
theorem EJ:au Tryz.prog JN = true:=by kernel_rfl
abbrev EE:FuncId:=130
def Mt:AC:=
(qL [oP 4 (.mv (.c (.bool false)))] [0,1]
(qL [mV 5 0,
mV 6 1,
vi 7 169 vy [.t 5,.t 6],
wd 8 7 0,
mV 4 8] [4]
.ret))
abbrev Qv:RsT:=[(4,none)]
theorem Ou:SpF 9 EE Mt Qv:=SpI Tryz.func130 (by kernel_rfl)
theorem EB:au Tryz.prog EE = true:=by kernel_rfl
abbrev Hz:FuncId:=131
def LC:AC:=
(qL [zc 4 5 0,
oP 8 (.alloc qE)] [1,2,3,4,8]
(qL [oP 9 (.alloc qE)] [1,2,3,4,8,9]
(.seq (qL [oX 10 0] [1,2,3,4,8,9,10]
(.block 0
(.loop [1,2,3,4,8,9,10]
(.seq (qL [mV 16 10,
oQ 17 1 4,
ol 18 17,
xZ 19 18,
zS 20 16 19] [1,2,3,4,8,9,10,20]
(.cond (.t 20)
.skip
(.exit 0)))
(.seq (.block 1
(qL [oQ 24 2 4,
ol 25 24,
mV 26 2,
mV 27 10,
vi 28 170 [true,false,false] [.t 25,.t 26,.t 27],
mV 23 28,
xi 29 23 0,
xi 30 23 1,
oP 11 (.alloc qE),
xn 2 11 29,
mV 12 30] [1,2,3,4,8,9,10,11,12]
(.frz 11 true (qL [mV 31 12,
mV 32 31,
wn 33 32 3,
wn 34 32 10,
gT 35 32 (.call (.f 142) vV [.t 33,.t 34]),
oP 36 (.pick (.t 32) (.t 35) (.c (.bool false)))] [1,2,3,4,8,9,10,11,36]
(.cond (.t 36)
(.reg [oQ 37 0 9,
ol 38 37,
oQ 39 0 11,
ol 40 39,
zz 41 38 40,
oQ 42 1 9,
ol 43 42,
oQ 44 1 11,
ol 45 44,
zz 46 43 45,
oP 47 (.build qE [(0,1,.t 41),(1,1,.t 46)]),
xn 2 9 47] [1,2,3,4,8,9,10])
.skip)))))
(.reg [mV 21 10,
zE 22 21 1,
mV 10 22] [1,2,3,4,8,9,10]))))))
(.seq (qL [oX 13 0] [1,2,3,4,8,9,13]
(.block 2
(.loop [1,2,3,4,8,9,13]
(.seq (qL [mV 48 13,
oQ 49 3 4,
ol 50 49,
xZ 51 50,
zS 52 48 51] [1,2,3,4,8,9,13,52]
(.cond (.t 52)
.skip
(.exit 2)))
(.seq (.block 3
(.seq (.dreg [oQ 55 3 4,
ol 56 55,
mV 57 13,
xC 58 5 56 57,
oG 59 5 58,
mV 60 1,
mV 61 13,
xC 62 2 60 61,
oG 63 2 62,
oP 14 (.alloc qr),
oP 15 (.alloc qE),
xn 5 14 59,
xn 2 15 63] [1,2,3,4,8,9,13,14,15] [[],[0],[],[0,1,2],yb 4,[],[],[5,6],[5,6,7],[],[],[0,1,2,3,4,9,10],yb 12])
(.seq (.seq (.dreg [oQ 64 0 14,
ol 65 64,
mV 66 2,
kR 67 65 66,
mV 68 67,
gF 69 68 (.load (some 5) (.t 4)),
wy 70 68 13,
gF 71 68 (.call (.f 46) vy [.t 69,.t 70]),
gF 72 68 (.un .not (.t 71)),
oP 73 (.pick (.t 68) (.c (.bool true)) (.t 72)),
mV 74 73,
wy 75 74 3,
wJ 76 74 1 14,
wI 77 74 76,
gF 78 74 (.call (.f 142) vV [.t 75,.t 77]),
wy 79 74 3,
wJ 80 74 2 14,
wI 81 74 80,
gF 82 74 (.call (.f 142) vV [.t 79,.t 81]),
gF 83 74 (.eqb false (.t 78) (.t 82)),
oP 84 (.pick (.t 74) (.c (.bool true)) (.t 83))] [1,2,3,4,8,9,13,14,15,84] [[],[0],[],[0,1,2],yb 4,yb 5,yb 5,yb 7,yb 8,yb 9,yb 10,yb 11,yb 11,[0,1,2,3,4,5,6,7,8,9,10,12],yb 14,yb 11,yb 11,[0,1,2,3,4,5,6,7,8,9,10,16],yb 18,yb 19,yb 20])
(.cond (.t 84)
(.exit 3)
.skip))
(qL [mV 85 3,
oQ 86 2 14,
ol 87 86,
vi 88 142 vV [.t 85,.t 87]] [1,2,3,4,8,9,13,15,88]
(.cond (.t 88)
(.reg [oQ 89 0 9,
ol 90 89,
oQ 91 0 15,
ol 92 91,
zz 93 90 92,
oQ 94 1 9,
ol 95 94,
oQ 96 1 15,
ol 97 96,
zz 98 95 97,
oP 99 (.build qE [(0,1,.t 93),(1,1,.t 98)]),
xn 2 9 99] [1,2,3,4,8,9,13])
(.reg [oQ 100 0 9,
ol 101 100,
oQ 102 1 15,
ol 103 102,
zI 104 101 103,
oQ 105 1 9,
ol 106 105,
oQ 107 0 15,
ol 108 107,
zI 109 106 108,
oP 110 (.build qE [(0,1,.t 104),(1,1,.t 109)]),
xn 2 9 110] [1,2,3,4,8,9,13]))))))
(.reg [mV 53 13,
zE 54 53 1,
mV 13 54] [1,2,3,4,8,9,13]))))))
(qL [oG 111 2 9,
xn 2 8 111] [8]
.ret)))))
abbrev Pf:RsT:=[(8,some (some 2))]
theorem PD:SpF 112 Hz LC Pf:=SpI Tryz.func131 (by kernel_rfl)
theorem IY:au Tryz.prog Hz = true:=by kernel_rfl
abbrev Iq:FuncId:=132
def LV:AC:=
(qL [zc 3 5 0,
oP 6 (.alloc qE),
oP 7 (.mv (.c (.bool false)))] [1,2,3,6]
(qL [oP 8 (.alloc qE)] [1,2,3,6,8]
(qL [oP 9 (.mv (.c (.bool true)))] [1,2,3,6,8,9]
(.seq (qL [oX 10 0] [1,2,3,6,8,9,10]
(.block 0
(.loop [1,2,3,6,8,9,10]
(.seq (qL [mV 13 10,
oQ 14 1 3,
ol 15 14,
xZ 16 15,
zS 17 13 16] [1,2,3,6,8,9,10,17]
(.cond (.t 17)
.skip
(.exit 0)))
(.seq (.block 1
(.seq (qL [mV 20 2,
mV 21 10,
vi 22 142 vV [.t 20,.t 21],
zu 23 22] [1,2,3,6,8,9,10,23]
(.cond (.t 23)
(.exit 1)
.skip))
(qL [oQ 25 4 3,
ol 26 25,
mV 27 1,
mV 28 10,
vi 29 170 [true,false,false] [.t 26,.t 27,.t 28],
mV 24 29,
xi 30 24 0,
xi 31 24 1,
oP 11 (.alloc qE),
xn 2 11 30,
mV 12 31] [1,2,3,6,8,9,10,11,12]
(.frz 11 true (qL [oQ 32 0 8,
ol 33 32,
oQ 34 0 11,
ol 35 34,
zz 36 33 35,
oQ 37 1 8,
ol 38 37,
oQ 39 1 11,
ol 40 39,
zz 41 38 40,
oP 42 (.build qE [(0,1,.t 36),(1,1,.t 41)]),
xn 2 8 42] [1,2,3,6,8,9,10,12]
(.reg [mV 43 9,
mV 44 43,
wn 45 44 12,
oP 46 (.pick (.t 44) (.t 45) (.c (.bool false))),
mV 9 46] [1,2,3,6,8,9,10]))))))
(.reg [mV 18 10,
zE 19 18 1,
mV 10 19] [1,2,3,6,8,9,10]))))))
(qL [oG 47 2 8,
mV 48 9,
xn 2 6 47,
mV 7 48] [6,7]
.ret)))))
abbrev OR:RsT:=[(6,some (some 2)),(7,none)]
theorem OT:SpF 49 Iq LV OR:=SpI Tryz.func132 (by kernel_rfl)
theorem Je:au Tryz.prog Iq = true:=by kernel_rfl
abbrev IQ:FuncId:=133
def Lf:AC:=
(qL [zc 2 1 0] [1,2]
(qL [oP 3 (.alloc [.nilfunc])] [1,2,3]
(qL [oP 5 (.mkfunc (.func 134) [] [.t 2,.t 1,.t 3]),
xn 1 3 5] [1,3]
(qL [oV 6 5 0 1,
oQ 7 3 6,
ol 8 7,
xZ 9 8,
zE 10 9 1,
oX 11 0] [3,10,11]
(.block 0
(.loop [3,10,11]
(qL [zS 12 11 10] [3,10,11,12]
(.seq (.cond (.t 12)
.skip
(.exit 0))
(.seq (.block 1
(qL [mV 13 11,
mV 4 13] [3,4,10,11]
(qL [ol 14 3,
mV 15 4,
oP 16 (.call (.t 14) [true,false,false] [(.c (.slice 1 [])),cI 0,.t 15]),
zu 17 16] [3,10,11,17]
(.cond (.t 17)
.ret
.skip))))
(.reg [zE 18 11 1,
mV 11 18] [3,10,11]))))))))))
abbrev Pj:RsT:=[]
theorem Q2:SpF 19 IQ Lf Pj:=SpI Tryz.func133 (by kernel_rfl)
theorem La:au Tryz.prog IQ = true:=by kernel_rfl
abbrev HH:FuncId:=134
def IW:AC:=
(qL [oP 9 (.mv (.c (.bool false)))] [0,1,2,3,4,5]
(.seq (qL [mV 11 2,
kw 12 11 0] [0,1,2,3,4,5,12]
(.cond (.t 12)
(qL [ol 13 3,
mV 14 0,
oP 15 (.call (.t 13) vo [.t 14]),
mV 9 15] [9]
.ret)
.skip))
(.seq (qL [mV 16 1,
mV 10 16] [0,2,4,5,10]
(.block 0
(.loop [0,2,4,5,10]
(.seq (qL [mV 17 10,
oV 18 5 0 4,
oQ 19 3 18,
ol 20 19,
xZ 21 20,
mV 22 2,
zI 23 21 22,
oP 24 (.bin .leq (.t 17) (.t 23))] [0,2,4,5,10,24]
(.cond (.t 24)
.skip
(.exit 0)))
(.seq (.block 1
(.seq (.creg [ol 27 5,
mV 28 0,
vi 29 135 vo [.t 28],
mV 30 10,
oP 31 (.lit 0 1 1 [(0,.t 30)]),
oP 32 (.append 1 8 (.t 29) (.t 31)),
mV 33 10,
zE 34 33 1,
mV 35 2,
zR 36 35 1,
oP 37 (.call (.t 27) [true,false,false] [.t 32,.t 34,.t 36]),
zu 38 37] [0,2,4,5,10,38] [[],[],[1],[],[3],[1,2,3,4],[],[6],[],[8],yb 10,yb 11] [([0,1,3,4,6,7,8,9],2),([],5),([],10)] [11])
(.cond (.t 38)
(qL [oP 9 (.mv (.c (.bool false)))] [9]
.ret)
.skip)))
(.reg [mV 25 10,
zE 26 25 1,
mV 10 26] [0,2,4,5,10]))))))
(qL [oP 9 (.mv (.c (.bool true)))] [9]
.ret))))
abbrev Ow:RsT:=[(9,none)]
theorem Lw:SpF 39 HH IW Ow:=SpI Tryz.func134 (by kernel_rfl)
theorem LR:au Tryz.prog HH = true:=by kernel_rfl
abbrev II:FuncId:=135
def LS:AC:=
(qL [oP 2 (.mv (.c (.slice 1 [])))] [0]
(.seq (qL [mV 3 0,
oP 4 (.snil false (.t 3))] [0,4]
(.cond (.t 4)
(qL [oP 2 (.nilS 3 1)] [2]
.ret)
.skip))
(qL [oP 5 (.lit 1 1 0 []),
mV 6 0,
oP 7 (.append 1 8 (.t 5) (.t 6)),
mV 2 7] [2]
.ret)))
abbrev P2:RsT:=[(2,none)]
theorem RD:SpF 8 II LS P2:=SpI Tryz.func135 (by kernel_rfl)
theorem QU:au Tryz.prog II = true:=by kernel_rfl
abbrev Le:FuncId:=136
theorem Se:au Tryz.prog Le = true:=by kernel_rfl
abbrev CT:FuncId:=139
def Mi:AC:=
(qL [zc 6 1 1,
zc 7 1 2,
oX 8 0] [0,3,4,6,7]
(qL [oX 9 0] [0,3,4,6,7,9]
(.seq (.block 0
(.loop [0,3,4,6,7,9]
(.seq (qL [mV 12 9,
ol 13 7,
zS 14 12 13] [0,3,4,6,7,9,14]
(.cond (.t 14)
.skip
(.exit 0)))
(.block 1
(qL [ol 16 3,
mV 17 0,
ol 18 7,
mV 19 9,
zI 20 18 19,
ol 21 4,
oP 22 (.mkfunc (.func 141) [] [.t 6,.t 7]),
vi 23 140 [false,false,false,false,false] [.t 16,.t 17,.t 20,.t 21,.t 22],
mV 15 23,
xi 24 15 0,
xi 25 15 1,
mV 10 24,
mV 11 25] [0,3,4,6,7,9,10]
(.seq (qL [mV 26 10,
kw 27 26 0] [0,3,4,6,7,9,10,27]
(.cond (.t 27)
(.exit 0)
.skip))
(.reg [mV 28 9,
mV 29 10,
zz 30 28 29,
mV 9 30] [0,3,4,6,7,9])))))))
(qL [mV 31 9,
mV 8 31] [8]
.ret))))
abbrev OM:RsT:=[(8,none)]
theorem OV:SpF 32 CT Mi OM:=SpI Tryz.func139 (by kernel_rfl)
theorem Lb:au Tryz.prog CT = true:=by kernel_rfl
abbrev I7:FuncId:=140
def LI:AC:=
(qL [zc 5 1 0,
oX 10 0,
oX 11 0] [1,2,3,4,5]
(qL [ol 23 5,
zr 24 23,
oQ 25 1 24,
ol 26 25,
oP 27 (.mksl 2 1 8 (.int .i64 0) (.t 26) (.t 26)),
mV 12 27] [1,2,3,4,5,12]
(qL [mV 28 12,
mV 29 1,
xC 30 1 28 29,
oN (.store 1 (.t 30) (cI (-1)))] [1,2,3,4,5,12]
(qL [oP 31 (.mkfunc (.func 182) [] [.t 5]),
mV 13 31] [1,2,3,4,5,12,13]
(.seq (qL [mV 32 1,
oP 33 (.lit 1 1 1 [(0,.t 32)]),
mV 14 33] [1,2,3,4,5,12,13,14]
(.block 0
(.loop [1,2,3,4,5,12,13,14]
(.seq (qL [mV 34 14,
xZ 35 34,
wm 36 35 0] [1,2,3,4,5,12,13,14,36]
(.cond (.t 36)
.skip
(.exit 0)))
(.seq (.block 1
(qL [mV 39 14,
oP 40 (.ixS 1 (.t 39) (cI 0)),
ol 41 40,
mV 15 41] [1,2,3,4,5,12,13,14,15]
(.seq (qL [mV 42 15,
mV 43 1,
kR 44 42 43,
mV 45 44,
wn 46 45 4,
wn 47 45 15,
gT 48 45 (.call (.t 46) vq [.t 47]),
gT 49 45 (.bin .gtr (.t 48) (cI 0)),
oP 50 (.pick (.t 45) (.t 49) (.c (.bool false)))] [1,2,3,4,5,12,13,14,15,50]
(.cond (.t 50)
(qL [mV 51 2,
mV 52 4,
mV 53 15,
oP 54 (.call (.t 52) vq [.t 53]),
oP 55 (.mn [.t 51,.t 54]),
mV 10 55] [1,5,10,12,13,15]
(.seq (qL [mV 56 15,
mV 16 56] [1,5,10,12,13,15,16]
(.block 2
(.loop [1,5,10,12,13,15,16]
(.seq (qL [mV 57 16,
mV 58 1,
kR 59 57 58] [1,5,10,12,13,15,16,59]
(.cond (.t 59)
.skip
(.exit 2)))
(.seq (.block 3
(qL [mV 68 12,
mV 69 16,
xC 70 1 68 69,
ol 71 70,
zR 72 71 1,
mV 17 72] [1,5,10,12,13,15,16,17]
(.dreg [mV 73 10,
ol 74 5,
zr 75 74,
oQ 76 0 75,
ol 77 76,
mV 78 17,
xC 79 5 77 78,
oG 80 5 79,
mV 81 13,
mV 82 17,
mV 83 16,
oP 84 (.call (.t 81) vV [.t 82,.t 83]),
vi 85 183 vV [.t 80,.t 84],
oP 86 (.mn [.t 73,.t 85]),
mV 10 86] [1,5,10,12,13,15,16] [[],[],[1],[1,2],[1,2,3],[],[1,2,3,4,5],[1,2,3,4,5,6],[],[],[],[8,9,10],[1,2,3,4,5,6,7,8,9,10,11],yb 13,yb 14])))
(.reg [mV 60 13,
mV 61 12,
mV 62 16,
xC 63 1 61 62,
ol 64 63,
zR 65 64 1,
mV 66 16,
oP 67 (.call (.t 60) vV [.t 65,.t 66]),
mV 16 67] [1,5,10,12,13,15,16]))))))
(.seq (qL [mV 87 15,
mV 18 87] [1,5,10,12,13,15,18]
(.block 4
(.loop [1,5,10,12,13,15,18]
(.seq (qL [mV 88 18,
mV 89 1,
kR 90 88 89] [1,5,10,12,13,15,18,90]
(.cond (.t 90)
.skip
(.exit 4)))
(.block 5
(qL [mV 91 12,
mV 92 18,
xC 93 1 91 92,
ol 94 93,
zR 95 94 1,
mV 19 95] [1,5,10,12,13,15,18,19]
(qL [mV 96 13,
mV 97 19,
mV 98 18,
oP 99 (.call (.t 96) vV [.t 97,.t 98]),
mV 20 99] [1,5,10,12,13,15,19,20]
(.seq (qL [mV 100 20,
ol 101 5,
zr 102 101,
oQ 103 0 102,
ol 104 103,
mV 105 19,
xC 106 5 104 105,
oQ 107 0 106,
ol 108 107,
kl 109 100 108] [1,5,10,12,13,15,19,20,109]
(.cond (.t 109)
(.reg [ol 110 5,
zr 111 110,
oQ 112 0 111,
ol 113 112,
mV 114 19,
xC 115 5 113 114,
oQ 116 4 115,
ol 117 116,
mV 118 10,
zz 119 117 118,
xC 120 5 113 114,
oQ 121 4 120,
xn 1 121 119] [1,5,10,12,13,15,20])
(.reg [ol 122 5,
zr 123 122,
oQ 124 0 123,
ol 125 124,
mV 126 19,
xC 127 5 125 126,
oQ 128 4 127,
ol 129 128,
mV 130 10,
zI 131 129 130,
xC 132 5 125 126,
oQ 133 4 132,
xn 1 133 131] [1,5,10,12,13,15,20])))
(.reg [mV 134 20,
mV 18 134] [1,5,10,12,13,15,18])))))))))
(qL [mV 135 10,
mV 136 15,
mV 10 135,
mV 11 136] [10,11]
.ret))))
.skip))
(qL [ol 137 5,
zr 138 137,
oQ 139 0 138,
ol 140 139,
xZ 141 140,
oX 142 0] [1,2,3,4,5,12,13,14,15,140,141,142]
(.block 6
(.loop [1,2,3,4,5,12,13,14,15,140,141,142]
(qL [zS 143 142 141] [1,2,3,4,5,12,13,14,15,140,141,142,143]
(.seq (.cond (.t 143)
.skip
(.exit 6))
(.seq (.block 7
(qL [mV 144 142,
xC 145 5 140 142,
oG 146 5 145,
oP 22 (.alloc qr),
mV 21 144,
xn 5 22 146] [1,2,3,4,5,12,13,14,15,21,22,140,141,142]
(.frz 22 true (.seq (qL [mV 147 21,
mV 148 3,
kl 149 147 148,
mV 150 149,
wy 151 150 15,
wJ 152 150 0 22,
wI 153 150 152,
gF 154 150 (.bin .neq (.t 151) (.t 153)),
wy 155 150 154,
wn 156 155 15,
wt 157 155 1 22,
wo 158 155 157,
gT 159 155 (.bin .neq (.t 156) (.t 158)),
gF 160 150 (.pick (.t 155) (.t 159) (.c (.bool false))),
oP 161 (.pick (.t 150) (.c (.bool true)) (.t 160)),
mV 162 161,
gF 163 162 (.load (some 5) (.t 22)),
wy 164 162 15,
gF 165 162 (.call (.f 183) vV [.t 163,.t 164]),
gF 166 162 (.bin .leq (.t 165) (cI 0)),
oP 167 (.pick (.t 162) (.c (.bool true)) (.t 166)),
mV 168 167,
wy 169 168 12,
wy 170 168 13,
wy 171 168 21,
wy 172 168 15,
gF 173 168 (.call (.t 170) vV [.t 171,.t 172]),
va 174 168 1 169 173,
wI 175 168 174,
gF 176 168 (.bin .neq (.t 175) (cI 0)),
oP 177 (.pick (.t 168) (.c (.bool true)) (.t 176))] [1,2,3,4,5,12,13,14,15,21,140,141,142,177]
(.cond (.t 177)
(.exit 7)
.skip))
(qL [mV 178 12,
mV 179 13,
mV 180 21,
mV 181 15,
oP 182 (.call (.t 179) vV [.t 180,.t 181]),
mV 183 21,
zE 184 183 1,
xC 185 1 178 182,
xn 1 185 184] [1,2,3,4,5,12,13,14,15,21,140,141,142]
(.reg [mV 186 14,
mV 187 13,
mV 188 21,
mV 189 15,
oP 190 (.call (.t 187) vV [.t 188,.t 189]),
oP 191 (.lit 0 1 1 [(0,.t 190)]),
oP 192 (.append 1 8 (.t 186) (.t 191)),
mV 14 192] [1,2,3,4,5,12,13,14,15,140,141,142]))))))
(.reg [zE 193 142 1,
mV 142 193] [1,2,3,4,5,12,13,14,15,140,141,142]))))))))))
(.reg [mV 37 14,
oP 38 (.subO 1 (.t 37) (cI 1)),
mV 14 38] [1,2,3,4,5,12,13,14]))))))
(qL [oX 10 0,
oX 11 0] [10,11]
.ret))))))
abbrev QD:RsT:=[(10,none),(11,none)]
theorem OJ:SpF 194 I7 LI QD:=SpI Tryz.func140 (by kernel_rfl)
theorem Ll:au Tryz.prog I7 = true:=by kernel_rfl
abbrev EX:FuncId:=141
def Jx:AC:=
(qL [oX 4 0] [0,1,2]
(.seq (qL [mV 5 0,
ol 6 1,
kl 7 5 6] [2,7]
(.cond (.t 7)
(qL [ol 8 2,
mV 4 8] [4]
.ret)
.skip))
(qL [oX 4 0] [4]
.ret)))
abbrev Sb:RsT:=[(4,none)]
theorem Qw:SpF 9 EX Jx Sb:=SpI Tryz.func141 (by kernel_rfl)
theorem QF:au Tryz.prog EX = true:=by kernel_rfl
abbrev HY:FuncId:=142
def Jq:AC:=
(qL [oP 4 (.mv (.c (.bool false)))] [0,1]
(qL [mV 5 1,
wd 6 5 0,
mV 7 6,
wn 8 7 0,
wn 9 7 1,
gT 10 7 (.call (.f 75) vq [.t 9]),
gT 11 7 (.bin .quo (.t 8) (.t 10)),
gT 12 7 (.bin .rem (.t 11) (cI 2)),
wu 13 7 12 1,
oP 14 (.pick (.t 7) (.t 13) (.c (.bool false))),
mV 4 14] [4]
.ret))
abbrev QV:RsT:=[(4,none)]
theorem Qd:SpF 15 HY Jq QV:=SpI Tryz.func142 (by kernel_rfl)
theorem qv:au Tryz.prog HY = true:=by kernel_rfl
abbrev Jy:FuncId:=143
def Ln:AC:=
(.reg [mV 3 0,
⟨some 4,none, .call (.f 145) vy [.t 3,(.c (.str ⟨#[32]⟩))]⟩,
⟨some 5,none, .bin .add (.t 4) (.c (.str ⟨#[10]⟩))⟩,
vi 6 144 vy [.t 1,.t 5]] [])
abbrev OO:RsT:=[]
theorem PE:SpF 7 Jy Ln OO:=SpI Tryz.func143 (by kernel_rfl)
theorem K8:au Tryz.prog Jy = true:=by kernel_rfl
abbrev LF:FuncId:=144
theorem RA:au Tryz.prog LF = true:=by kernel_rfl
abbrev Ma:FuncId:=145
theorem Q0:au Tryz.prog Ma = true:=by kernel_rfl
abbrev IP:FuncId:=146
def Mj:AC:=
(qL [mV 8 1,
xZ 9 8,
oX 10 0] [0,2,3,8,9,10]
(.block 0
(.loop [0,2,3,8,9,10]
(qL [zS 11 10 9] [0,2,3,8,9,10,11]
(.seq (.cond (.t 11)
.skip
(.exit 0))
(.seq (.block 1
(qL [xC 12 4 8 10,
oG 13 4 12,
oP 7 (.alloc qx),
xn 4 7 13] [0,2,3,7,8,9,10]
(.frz 7 true (.creg [ol 14 2,
mV 15 0,
oV 16 5 0 3,
oQ 17 0 16,
ol 18 17,
oQ 19 0 7,
ol 20 19,
xC 21 1 18 20,
ol 22 21,
oV 23 5 0 3,
oQ 24 1 23,
ol 25 24,
oQ 26 1 7,
ol 27 26,
xC 28 1 25 27,
ol 29 28,
oV 30 2 2 7,
oQ 31 0 30,
ol 32 31,
vi 33 147 vq [.t 32],
oV 34 2 2 7,
oQ 35 1 34,
ol 36 35,
vi 37 147 vq [.t 36],
oP 38 (.lit 0 1 5 [(0,.t 15),(1,.t 22),(2,.t 29),(3,.t 33),(4,.t 37)]),
oP 39 (.call (.t 14) vo [.t 38])] [0,2,3,8,9,10] [[],[],[],[2],[2,3],[],[5],[2,3,4,5,6],[2,3,4,5,6,7],[],[9],[9,10],[],[12],[9,10,11,12,13],[9,10,11,12,13,14],[],[16],[16,17],[16,17,18],[],[20],[20,21],[16,17,18,19,20,21,22],[1,2,3,4,5,6,7,8,9,10,11,12,13,14,15,16,17,18,19,20,21,22,23],yb 25] [([0,1,2,3,4,5,6,7,8,9,10,11,12,13,14,15,16,17,18,19,20,21,22,23],24),([],25)] []))))
(.reg [zE 40 10 1,
mV 10 40] [0,2,3,8,9,10])))))))
abbrev RJ:RsT:=[]
theorem Pd:SpF 41 IP Mj RJ:=SpI Tryz.func146 (by kernel_rfl)
theorem RX:au Tryz.prog IP = true:=by kernel_rfl
abbrev Lc:FuncId:=147
theorem BI:au Tryz.prog Lc = true:=by kernel_rfl
abbrev Iu:FuncId:=148
def Jr:AC:=
(qL [⟨some 3,none, .mv (.c (.str ⟨#[]⟩))⟩] [0,1]
(.seq (qL [mV 4 0,
kw 5 4 (-1)] [0,1,5]
(.cond (.t 5)
(qL [⟨some 3,none, .mv (.c (.str ⟨#[45]⟩))⟩] [3]
.ret)
.skip))
(qL [oV 6 5 0 1,
oQ 7 1 6,
ol 8 7,
mV 9 0,
xC 10 1 8 9,
ol 11 10,
mV 3 11] [3]
.ret)))
abbrev PB:RsT:=[(3,none)]
theorem PS:SpF 12 Iu Jr PB:=SpI Tryz.func148 (by kernel_rfl)
theorem Mb:au Tryz.prog Iu = true:=by kernel_rfl
abbrev PK:FuncId:=149
theorem OB:au Tryz.prog PK = true:=by kernel_rfl
abbrev EP:FuncId:=155
def xw:AC:=
(qL [oP 2 (.alloc qx)] [0,1,2]
(qL [ol 3 0,
xZ 4 3,
kw 5 4 5,
vi 6 100 vq [.t 5]] [0,1,2]
(.seq (.creg [ol 7 1,
zr 8 7,
oV 9 5 0 8,
oQ 10 0 9,
ol 11 10,
ol 12 0,
oP 13 (.ixS 1 (.t 12) (cI 1)),
ol 14 13,
vi 15 156 [true,false,false] [.t 11,.t 14,(.c (.bool false))],
ol 16 1,
zr 17 16,
oV 18 5 0 17,
oQ 19 1 18,
ol 20 19,
ol 21 0,
oP 22 (.ixS 1 (.t 21) (cI 2)),
ol 23 22,
vi 24 156 [true,false,false] [.t 20,.t 23,(.c (.bool false))],
ol 25 0,
oP 26 (.ixS 1 (.t 25) (cI 3)),
ol 27 26,
vi 28 157 vV [.t 27,(.c (.bool false))],
ol 29 0,
oP 30 (.ixS 1 (.t 29) (cI 4)),
ol 31 30,
vi 32 157 vV [.t 31,(.c (.bool false))],
oP 33 (.build qE [(0,1,.t 28),(1,1,.t 32)]),
oP 34 (.build qx [(0,1,.t 15),(1,1,.t 24),(2,2,.t 33)]),
xn 4 2 34] [2] [[],[0],[0,1],[0,1,2],yb 4,[],[5],[5,6],yb 8,[],[9],[9,10],[9,10,11],[9,10,11,12],[],[14],[14,15],yb 17,[],[18],[18,19],yb 21,[],[22],[22,23],yb 25,yb 26,yb 27,yb 28] [([0,1,2,3,4,5,6,7,9,10,11,12,13,14,15,16,18,19,20,22,23,24],8),([],17),([],21),([],25),([26,27],28)] [])
.ret)))
abbrev Qp:RsT:=[(2,some (some 4))]
theorem LN:SpF 35 EP xw Qp:=SpI Tryz.func155 (by kernel_rfl)
theorem EO:au Tryz.prog EP = true:=by kernel_rfl
abbrev HW:FuncId:=156
def BA:AC:=
(qL [oX 6 0] [0,1,2]
(qL [mV 8 0,
mV 9 1,
vi 10 161 vy [.t 8,.t 9],
mV 7 10] [1,2,7]
(qL [mV 11 7,
wd 12 11 0,
mV 13 12,
wy 14 13 2,
wy 15 13 14,
wn 16 15 1,
⟨some 17,(some (15,true)), .bin .eql (.t 16) (.c (.str ⟨#[45]⟩))⟩,
gF 18 13 (.pick (.t 15) (.t 17) (.c (.bool false))),
oP 19 (.pick (.t 13) (.c (.bool true)) (.t 18)),
vi 20 100 vq [.t 19]] [7]
(qL [mV 21 7,
mV 6 21] [6]
.ret))))
abbrev RZ:RsT:=[(6,none)]
theorem OK:SpF 22 HW BA RZ:=SpI Tryz.func156 (by kernel_rfl)
theorem fo:au Tryz.prog HW = true:=by kernel_rfl
abbrev Io:FuncId:=157
def um:AC:=
(qL [oX 4 0] [0,1]
(.seq (qL [mV 7 1,
mV 8 7,
wn 9 8 0,
⟨some 10,(some (8,true)), .bin .eql (.t 9) (.c (.str ⟨#[45]⟩))⟩,
oP 11 (.pick (.t 8) (.t 10) (.c (.bool false)))] [0,11]
(.cond (.t 11)
(qL [oX 4 (-1)] [4]
.ret)
.skip))
(qL [mV 13 0,
vi 14 188 vq [.t 13],
mV 12 14,
xi 15 12 0,
xi 16 12 1,
mV 5 15,
mV 6 16] [5,6]
(qL [mV 17 6,
oP 18 (.isnil false (.t 17)),
mV 19 18,
wn 20 19 5,
gT 21 19 (.bin .geq (.t 20) (cI 0)),
oP 22 (.pick (.t 19) (.t 21) (.c (.bool false))),
vi 23 100 vq [.t 22]] [5]
(qL [mV 24 5,
mV 4 24] [4]
.ret)))))
abbrev Oq:RsT:=[(4,none)]
theorem Q6:SpF 25 Io um Oq:=SpI Tryz.func157 (by kernel_rfl)
theorem qz:au Tryz.prog Io = true:=by kernel_rfl
abbrev Hn:FuncId:=159
def Mq:AC:=
(qL [oX 4 0] [0,1]
(.seq (qL [oX 5 0] [0,1,5]
(.block 0
(.loop [0,1,5]
(.seq (qL [mV 6 5,
mV 7 0,
xZ 8 7,
zS 9 6 8] [0,1,5,9]
(.cond (.t 9)
.skip
(.exit 0)))
(.seq (.block 1
(qL [mV 12 0,
mV 13 5,
xC 14 1 12 13,
ol 15 14,
mV 16 1,
kl 17 15 16] [0,1,5,17]
(.cond (.t 17)
(qL [mV 18 5,
mV 4 18] [4]
.ret)
.skip)))
(.reg [mV 10 5,
zE 11 10 1,
mV 5 11] [0,1,5]))))))
(qL [oX 4 (-1)] [4]
.ret)))
abbrev RL:RsT:=[(4,none)]
theorem Qy:SpF 19 Hn Mq RL:=SpI Tryz.func159 (by kernel_rfl)
theorem LZ:au Tryz.prog Hn = true:=by kernel_rfl
abbrev IN:FuncId:=160
def Mo:AC:=
(qL [oX 4 0] [0,1]
(.seq (qL [mV 6 0,
xZ 7 6,
oX 8 0] [0,1,7,8]
(.block 0
(.loop [0,1,7,8]
(qL [zS 9 8 7] [0,1,7,8,9]
(.seq (.cond (.t 9)
.skip
(.exit 0))
(.seq (.block 1
(qL [mV 10 8,
mV 5 10] [0,1,5,7,8]
(qL [mV 11 1,
mV 12 0,
mV 13 5,
xC 14 1 12 13,
ol 15 14,
oP 16 (.call (.t 11) vq [.t 15])] [0,1,5,7,8,16]
(.cond (.t 16)
(qL [mV 17 5,
mV 4 17] [4]
.ret)
.skip))))
(.reg [zE 18 8 1,
mV 8 18] [0,1,7,8])))))))
(qL [oX 4 (-1)] [4]
.ret)))
abbrev QX:RsT:=[(4,none)]
theorem PU:SpF 19 IN Mo QX:=SpI Tryz.func160 (by kernel_rfl)
theorem PC:au Tryz.prog IN = true:=by kernel_rfl
abbrev HF:FuncId:=161
def Lz:AC:=
(qL [oX 4 0] [0,1]
(.seq (qL [mV 6 0,
xZ 7 6,
oX 8 0] [0,1,7,8]
(.block 0
(.loop [0,1,7,8]
(qL [zS 9 8 7] [0,1,7,8,9]
(.seq (.cond (.t 9)
.skip
(.exit 0))
(.seq (.block 1
(qL [mV 10 8,
mV 5 10] [0,1,5,7,8]
(qL [mV 11 1,
mV 12 0,
mV 13 5,
xC 14 1 12 13,
ol 15 14,
kl 16 11 15] [0,1,5,7,8,16]
(.cond (.t 16)
(qL [mV 17 5,
mV 4 17] [4]
.ret)
.skip))))
(.reg [zE 18 8 1,
mV 8 18] [0,1,7,8])))))))
(qL [oX 4 (-1)] [4]
.ret)))
abbrev R0:RsT:=[(4,none)]
theorem Q1:SpF 19 HF Lz R0:=SpI Tryz.func161 (by kernel_rfl)
theorem BJ:au Tryz.prog HF = true:=by kernel_rfl
abbrev Ic:FuncId:=162
def Mk:AC:=
(qL [oX 6 0] [0,1,2]
(qL [oP 7 (.mv (.c (.bool false)))] [0,1,2,7]
(.seq (qL [oX 8 0] [0,1,2,7,8]
(.block 0
(.loop [0,1,2,7,8]
(.seq (qL [mV 9 8,
mV 10 0,
xZ 11 10,
zS 12 9 11] [0,1,2,7,8,12]
(.cond (.t 12)
.skip
(.exit 0)))
(.seq (.block 1
(.seq (qL [mV 15 0,
mV 16 8,
xC 17 2 15 16,
oQ 18 0 17,
ol 19 18,
mV 20 1,
mV 21 2,
vi 22 109 [false,false,false] [.t 19,.t 20,.t 21],
zu 23 22,
mV 24 23,
wy 25 24 0,
wy 26 24 8,
va 27 24 2 25 26,
wJ 28 24 1 27,
wI 29 24 28,
wy 30 24 1,
wy 31 24 2,
gF 32 24 (.call (.f 109) [false,false,false] [.t 29,.t 30,.t 31]),
gF 33 24 (.un .not (.t 32)),
oP 34 (.pick (.t 24) (.c (.bool true)) (.t 33))] [0,1,2,7,8,34]
(.cond (.t 34)
(qL [oX 6 7] [6]
.ret)
.skip))
(.dreg [mV 35 7,
mV 36 35,
wy 37 36 0,
wy 38 36 8,
va 39 36 2 37 38,
wJ 40 36 0 39,
wI 41 36 40,
wy 42 36 0,
wy 43 36 8,
va 44 36 2 42 43,
wJ 45 36 1 44,
wI 46 36 45,
gF 47 36 (.bin .gtr (.t 41) (.t 46)),
oP 48 (.pick (.t 36) (.c (.bool true)) (.t 47)),
mV 7 48] [0,1,2,7,8] [[],[0],[0,1],[0,1],yb 4,yb 5,yb 6,[0,1],[0,1],[0,1,7,8],[0,1,7,8,9],[0,1,7,8,9,10],yb 12,yb 13,yb 14])))
(.reg [mV 13 8,
zE 14 13 1,
mV 8 14] [0,1,2,7,8]))))))
(.seq (qL [mV 49 7] [49]
(.cond (.t 49)
(qL [oX 6 2] [6]
.ret)
.skip))
(qL [oX 6 0] [6]
.ret)))))
abbrev Rh:RsT:=[(6,none)]
theorem Pv:SpF 50 Ic Mk Rh:=SpI Tryz.func162 (by kernel_rfl)
theorem RQ:au Tryz.prog Ic = true:=by kernel_rfl
abbrev HD:FuncId:=163
def Hq:AC:=
(qL [oX 3 0] [0,1]
(.seq (qL [mV 4 0,
kw 5 4 (-1)] [0,1,5]
(.cond (.t 5)
(qL [ol 6 1,
mV 3 6] [3]
.ret)
.skip))
(qL [mV 7 0,
mV 3 7] [3]
.ret)))
abbrev Q8:RsT:=[(3,none)]
theorem Qh:SpF 8 HD Hq Q8:=SpI Tryz.func163 (by kernel_rfl)
theorem OC:au Tryz.prog HD = true:=by kernel_rfl
abbrev Ft:FuncId:=164
def L4:AC:=
(qL [oX 3 0] [0,1]
(qL [ol 4 1,
mV 5 0,
xC 6 1 4 5,
ol 7 6,
oP 8 (.un .neg (.t 7)),
mV 3 8] [3]
.ret))
abbrev Qc:RsT:=[(3,none)]
theorem PT:SpF 9 Ft L4 Qc:=SpI Tryz.func164 (by kernel_rfl)
theorem QZ:au Tryz.prog Ft = true:=by kernel_rfl
abbrev rL:FuncId:=165
def Lg:AC:=
(qL [zc 1 2 0,
oX 2 0] [1]
(qL [oQ 3 0 1,
ol 4 3,
mV 2 4] [2]
.ret))
abbrev OL:RsT:=[(2,none)]
theorem Oo:SpF 5 rL Lg OL:=SpI Tryz.func165 (by kernel_rfl)
theorem Lx:au Tryz.prog rL = true:=by kernel_rfl
abbrev sC:FuncId:=166
def Me:AC:=
(qL [zc 1 2 0,
oX 2 0] [1]
(qL [oQ 3 1 1,
ol 4 3,
mV 2 4] [2]
.ret))
abbrev P3:RsT:=[(2,none)]
theorem Pu:SpF 5 sC Me P3:=SpI Tryz.func166 (by kernel_rfl)
theorem K6:au Tryz.prog sC = true:=by kernel_rfl
abbrev Jk:FuncId:=167
def LU:AC:=
(qL [oX 4 0] [0,1]
(.seq (qL [mV 6 0,
xZ 7 6,
oX 8 0] [0,1,7,8]
(.block 0
(.loop [0,1,7,8]
(qL [zS 9 8 7] [0,1,7,8,9]
(.seq (.cond (.t 9)
.skip
(.exit 0))
(.seq (.block 1
(qL [mV 10 8,
mV 5 10] [0,1,5,7,8]
(qL [mV 11 1,
mV 12 0,
mV 13 5,
xC 14 4 12 13,
oG 15 4 14,
oP 16 (.call (.t 11) vq [.t 15])] [0,1,5,7,8,16]
(.cond (.t 16)
(qL [mV 17 5,
mV 4 17] [4]
.ret)
.skip))))
(.reg [zE 18 8 1,
mV 8 18] [0,1,7,8])))))))
(qL [oX 4 (-1)] [4]
.ret)))
abbrev QN:RsT:=[(4,none)]
theorem OX:SpF 19 Jk LU QN:=SpI Tryz.func167 (by kernel_rfl)
theorem L6:au Tryz.prog Jk = true:=by kernel_rfl
abbrev EV:FuncId:=168
def Md:AC:=
(qL [zc 2 4 0,
oP 3 (.mv (.c (.bool false)))] [1,2]
(qL [oQ 4 0 2,
ol 5 4,
oQ 6 1 2,
ol 7 6,
oP 8 (.build qE [(0,1,.t 5),(1,1,.t 7)]),
oG 9 2 1,
oP 10 (.eqa false [.i, .i] (.t 8) (.t 9)),
mV 3 10] [3]
.ret))
abbrev Ph:RsT:=[(3,none)]
theorem P7:SpF 11 EV Md Ph:=SpI Tryz.func168 (by kernel_rfl)
theorem Ps:au Tryz.prog EV = true:=by kernel_rfl
abbrev HA:FuncId:=169
def Ls:AC:=
(qL [oX 4 0] [0,1]
(.seq (qL [mV 6 0,
xZ 7 6,
oX 8 0] [0,1,7,8]
(.block 0
(.loop [0,1,7,8]
(qL [zS 9 8 7] [0,1,7,8,9]
(.seq (.cond (.t 9)
.skip
(.exit 0))
(.seq (.block 1
(qL [mV 10 8,
mV 5 10] [0,1,5,7,8]
(qL [mV 11 1,
mV 12 0,
mV 13 5,
xC 14 1 12 13,
ol 15 14,
kl 16 11 15] [0,1,5,7,8,16]
(.cond (.t 16)
(qL [mV 17 5,
mV 4 17] [4]
.ret)
.skip))))
(.reg [zE 18 8 1,
mV 8 18] [0,1,7,8])))))))
(qL [oX 4 (-1)] [4]
.ret)))
abbrev Ri:RsT:=[(4,none)]
theorem P6:SpF 19 HA Ls Ri:=SpI Tryz.func169 (by kernel_rfl)
theorem PG:au Tryz.prog HA = true:=by kernel_rfl
abbrev IT:FuncId:=170
def L5:AC:=
(qL [oP 6 (.alloc qE),
oP 7 (.mv (.c (.bool false)))] [0,1,2,6]
(.seq (qL [oX 8 0] [0,1,2,6,8]
(.block 0
(.loop [0,1,2,6,8]
(.seq (qL [mV 9 8,
mV 10 0,
xZ 11 10,
zS 12 9 11] [0,1,2,6,8,12]
(.cond (.t 12)
.skip
(.exit 0)))
(.seq (.block 1
(qL [mV 15 0,
mV 16 8,
xC 17 4 15 16,
oQ 18 0 17,
ol 19 18,
mV 20 1,
kl 21 19 20,
mV 22 21,
wn 23 22 0,
wn 24 22 8,
ww 25 22 4 23 24,
wt 26 22 1 25,
wo 27 22 26,
wn 28 22 2,
gT 29 22 (.bin .eql (.t 27) (.t 28)),
oP 30 (.pick (.t 22) (.t 29) (.c (.bool false)))] [0,1,2,6,8,30]
(.cond (.t 30)
(qL [mV 31 0,
mV 32 8,
xC 33 4 31 32,
oV 34 2 2 33,
oG 35 2 34,
xn 2 6 35,
oP 7 (.mv (.c (.bool true)))] [6,7]
.ret)
.skip)))
(.reg [mV 13 8,
zE 14 13 1,
mV 8 14] [0,1,2,6,8]))))))
(qL [oP 36 (.build qE []),
xn 2 6 36,
oP 7 (.mv (.c (.bool false)))] [6,7]
.ret)))
abbrev Rc:RsT:=[(6,some (some 2)),(7,none)]
theorem Pa:SpF 37 IT L5 Rc:=SpI Tryz.func170 (by kernel_rfl)
theorem EL:au Tryz.prog IT = true:=by kernel_rfl
abbrev Hd:FuncId:=182
def Lq:AC:=
(qL [oX 5 0] [0,1,2]
(.seq (.dreg [ol 6 2,
zr 7 6,
oQ 8 0 7,
ol 9 8,
mV 10 0,
xC 11 5 9 10,
oQ 12 0 11,
ol 13 12,
ol 14 2,
zr 15 14,
oQ 16 0 15,
ol 17 16,
mV 18 0,
xC 19 5 17 18,
oQ 20 1 19,
ol 21 20,
zz 22 13 21,
mV 23 1,
zI 24 22 23,
mV 5 24] [5] [[],[0],[0,1],[0,1,2],[],yb 5,yb 6,yb 7,[],[8],[8,9],[8,9,10],[],[8,9,10,11,12],[8,9,10,11,12,13],[8,9,10,11,12,13,14],yb 16,[],yb 18,yb 19])
.ret))
abbrev RM:RsT:=[(5,none)]
theorem Pt:SpF 25 Hd Lq RM:=SpI Tryz.func182 (by kernel_rfl)
theorem ET:au Tryz.prog Hd = true:=by kernel_rfl
abbrev HX:FuncId:=183
def Hg:AC:=
(qL [zc 2 5 0,
oX 4 0] [1,2]
(.seq (qL [mV 5 1,
oQ 6 0 2,
ol 7 6,
kl 8 5 7] [2,8]
(.cond (.t 8)
(qL [oQ 9 3 2,
ol 10 9,
oQ 11 4 2,
ol 12 11,
zI 13 10 12,
mV 4 13] [4]
.ret)
.skip))
(qL [oQ 14 4 2,
ol 15 14,
oQ 16 2 2,
ol 17 16,
zI 18 15 17,
mV 4 18] [4]
.ret)))
abbrev Rp:RsT:=[(4,none)]
theorem Og:SpF 19 HX Hg Rp:=SpI Tryz.func183 (by kernel_rfl)
theorem Fc:au Tryz.prog HX = true:=by kernel_rfl
abbrev Lr:FuncId:=188
theorem zG:au Tryz.prog Lr = true:=by kernel_rfl
end Go.AM
