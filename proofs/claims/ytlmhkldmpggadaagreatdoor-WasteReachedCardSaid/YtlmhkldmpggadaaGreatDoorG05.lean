/- MADE BY PROGRAM (gen.py): the abstract code of functions of this seat, each checked against the given code by the kernel. -/
import Derived.Test.YtlmhkldmpggadaaGreatDoorG05a
import Derived.Test.YtlmhkldmpggadaaGreatDoorChecked
import Derived.Test.YtlmhkldmpggadaaGreatDoorP15
import Derived.Test.YtlmhkldmpggadaaGreatDoorP16
namespace Go.AM
open Go.Proofs
abbrev lb:FuncId:=101
def jX:AC:=
(GE [jp 2 1 0,
jp 3 1 1] [2,3]
(GE [oP 5 (.mkfunc (.func 155) [] [.t 3,.t 2]),
mV 4 5] [2,3,4]
(GE [ol 6 3,
oP 7 (.ixS 1 (.t 6) (cI 0)),
ol 8 7] [2,3,4,8]
(.block 0
(GE [⟨some 11,none, .bin .eql (.t 8) (.c (.str ⟨#[107,105,110,100,115]⟩))⟩,
mV 10 11] [2,3,4,8,10]
(.cond (.t 10)
(.dreg [ol 12 2,
ol 13 3,
oP 14 (.subq 1 (.t 13) (some (cI 1)) none),
pi 15 12,
wn 16 5 0 15,
wd 17 0 16,
qr 1 17 14] [] [[],[],[1],[0,1,2],GT 4,GT 5,GT 6])
(GE [⟨some 19,none, .bin .eql (.t 8) (.c (.str ⟨#[112,108,97,99,101,115]⟩))⟩,
mV 18 19] [2,3,4,8,18]
(.cond (.t 18)
(.dreg [ol 20 2,
ol 21 3,
oP 22 (.subq 1 (.t 21) (some (cI 1)) none),
pi 23 20,
wn 24 5 0 23,
wd 25 1 24,
qr 1 25 22] [] [[],[],[1],[0,1,2],GT 4,GT 5,GT 6])
(GE [⟨some 27,none, .bin .eql (.t 8) (.c (.str ⟨#[102,105,114,115,116]⟩))⟩,
mV 26 27] [2,3,4,8,26]
(.cond (.t 26)
(.creg [ol 28 2,
ol 29 2,
pi 30 29,
wn 31 5 0 30,
wd 32 2 31,
ol 33 32,
mV 34 4,
oP 35 (.call (.t 34) [] []),
oP 36 (.lit 0 4 1 [(0,.t 35)]),
oP 37 (.append 4 32 (.t 33) (.t 36)),
pi 38 28,
wn 39 5 0 38,
wd 40 2 39,
qr 1 40 37] [] [[],[],[1],[1,2],[1,2,3],[1,2,3,4],[],[6],[6,7],[1,2,3,4,5,6,7,8],GT 10,GT 11,GT 12,GT 13] [([0,1,2,3,4,5,6],7),([],8),([],9),([10,11,12],13)] [])
(GE [⟨some 42,none, .bin .eql (.t 8) (.c (.str ⟨#[112,97,112,101,114]⟩))⟩,
mV 41 42] [2,3,4,8,41]
(.cond (.t 41)
(GE [ol 43 3,
ut 44 43,
ci 45 44 6,
mt 46 100 rt [.t 45]] [2,3]
(.creg [ol 47 2,
ol 48 2,
pi 49 48,
wn 50 5 0 49,
wd 51 3 50,
ol 52 51,
ol 53 2,
pi 54 53,
wn 55 5 0 54,
wd 56 0 55,
ol 57 56,
ol 58 3,
oP 59 (.ixS 1 (.t 58) (cI 1)),
ol 60 59,
mt 61 156 [true,false,false] [.t 57,.t 60,(.c (.bool false))],
ol 62 2,
pi 63 62,
wn 64 5 0 63,
wd 65 1 64,
ol 66 65,
ol 67 3,
oP 68 (.ixS 1 (.t 67) (cI 2)),
ol 69 68,
mt 70 156 [true,false,false] [.t 66,.t 69,(.c (.bool true))],
ol 71 2,
pi 72 71,
wn 73 5 0 72,
wd 74 1 73,
ol 75 74,
ol 76 3,
oP 77 (.ixS 1 (.t 76) (cI 3)),
ol 78 77,
mt 79 156 [true,false,false] [.t 75,.t 78,(.c (.bool true))],
ol 80 3,
oP 81 (.ixS 1 (.t 80) (cI 4)),
ol 82 81,
mt 83 157 At [.t 82,(.c (.bool false))],
ol 84 3,
oP 85 (.ixS 1 (.t 84) (cI 5)),
ol 86 85,
mt 87 157 At [.t 86,(.c (.bool true))],
oP 88 (.build Eq [(0,1,.t 61),(1,1,.t 70),(2,1,.t 79),(3,1,.t 83),(4,1,.t 87)]),
oP 89 (.lit 0 5 1 [(0,.t 88)]),
oP 90 (.append 5 40 (.t 52) (.t 89)),
pi 91 47,
wn 92 5 0 91,
wd 93 3 92,
qr 1 93 90] [] [[],[],[1],[1,2],[1,2,3],[1,2,3,4],[],[6],[6,7],[6,7,8],[6,7,8,9],[],[11],[11,12],[6,7,8,9,10,11,12,13],[],[15],[15,16],[15,16,17],[15,16,17,18],[],[20],[20,21],[6,7,8,9,10,11,12,13,14,15,16,17,18,19,20,21,22],[],[24],[24,25],[24,25,26],[24,25,26,27],[],[29],[29,30],[6,7,8,9,10,11,12,13,14,15,16,17,18,19,20,21,22,23,24,25,26,27,28,29,30,31],[],[33],[33,34],[6,7,8,9,10,11,12,13,14,15,16,17,18,19,20,21,22,23,24,25,26,27,28,29,30,31,32,33,34,35],[],[37],[37,38],[6,7,8,9,10,11,12,13,14,15,16,17,18,19,20,21,22,23,24,25,26,27,28,29,30,31,32,33,34,35,36,37,38,39],[6,7,8,9,10,11,12,13,14,15,16,17,18,19,20,21,22,23,24,25,26,27,28,29,30,31,32,33,34,35,36,37,38,39,40],[6,7,8,9,10,11,12,13,14,15,16,17,18,19,20,21,22,23,24,25,26,27,28,29,30,31,32,33,34,35,36,37,38,39,40,41],[1,2,3,4,5,6,7,8,9,10,11,12,13,14,15,16,17,18,19,20,21,22,23,24,25,26,27,28,29,30,31,32,33,34,35,36,37,38,39,40,41,42],GT 44,GT 45,GT 46,GT 47] [([0,1,2,3,4,5,6,7,8,9,10,11,12,13,15,16,17,18,19,20,21,22,24,25,26,27,28,29,30,31,33,34,35,37,38,39],14),([],23),([],32),([],36),([],40),([41],42),([],43),([44,45,46],47)] []))
(GE [⟨some 95,none, .bin .eql (.t 8) (.c (.str ⟨#[108,97,115,116]⟩))⟩,
mV 94 95] [2,4,94]
(.cond (.t 94)
(.creg [ol 96 2,
ol 97 2,
pi 98 97,
wn 99 5 0 98,
wd 100 4 99,
ol 101 100,
mV 102 4,
oP 103 (.call (.t 102) [] []),
oP 104 (.lit 0 4 1 [(0,.t 103)]),
oP 105 (.append 4 32 (.t 101) (.t 104)),
pi 106 96,
wn 107 5 0 106,
wd 108 4 107,
qr 1 108 105] [] [[],[],[1],[1,2],[1,2,3],[1,2,3,4],[],[6],[6,7],[1,2,3,4,5,6,7,8],GT 10,GT 11,GT 12,GT 13] [([0,1,2,3,4,5,6],7),([],8),([],9),([10,11,12],13)] [])
(.reg [mt 9 100 rt [(.c (.bool false))]] [])))))))))))))))
abbrev Ma:RsT:=[]
theorem o7:SpF 109 lb jX Ma:=SpI Tryz.func101 (by kernel_rfl)
theorem Jp:au Tryz.prog lb = true:=by kernel_rfl
abbrev I7:FuncId:=102
theorem IX:au Tryz.prog I7 = true:=by kernel_rfl
abbrev Da:FuncId:=106
def IM:AC:=
(GE [oP 4 (.mv (.c (.bool false)))] [0,1]
(GE [mV 7 0,
ut 8 7,
mV 9 1,
ut 10 9,
ce 11 8 10,
mV 5 11] [0,1,5]
(.seq (GE [wt 6 0] [0,1,5,6]
(.block 0
(.loop [0,1,5,6]
(.seq (GE [mV 12 6,
mV 13 0,
ut 14 13,
bi 15 12 14,
mV 16 15,
ge 17 16 5,
oP 18 (.pick (.t 16) (.t 17) (.c (.bool false)))] [0,1,5,6,18]
(.cond (.t 18)
.skip
(.exit 0)))
(.seq (.block 1
(.dreg [mV 21 0,
mV 22 6,
ul 23 1 21 22,
ol 24 23,
mV 25 1,
mV 26 6,
ul 27 1 25 26,
ol 28 27,
ce 29 24 28,
mV 5 29] [0,1,5,6] [[],[],[0,1],[0,1,2],[],[],[4,5],[4,5,6],GT 8,GT 9]))
(.reg [mV 19 6,
pu 20 19 1,
mV 6 20] [0,1,5,6]))))))
(GE [mV 30 5,
mV 4 30] [4]
.ret))))
abbrev L3:RsT:=[(4,none)]
theorem Mh:SpF 31 Da IM L3:=SpI Tryz.func106 (by kernel_rfl)
theorem JB:au Tryz.prog Da = true:=by kernel_rfl
abbrev GY:FuncId:=107
def I0:AC:=
(GE [oP 4 (.mv (.c (.bool false)))] [0,1]
(GE [mV 7 0,
ut 8 7,
mV 9 1,
ut 10 9,
ce 11 8 10,
mV 5 11] [0,1,5]
(.seq (GE [wt 6 0] [0,1,5,6]
(.block 0
(.loop [0,1,5,6]
(.seq (GE [mV 12 6,
mV 13 0,
ut 14 13,
bi 15 12 14,
mV 16 15,
ge 17 16 5,
oP 18 (.pick (.t 16) (.t 17) (.c (.bool false)))] [0,1,5,6,18]
(.cond (.t 18)
.skip
(.exit 0)))
(.seq (.block 1
(.dreg [mV 21 0,
mV 22 6,
ul 23 4 21 22,
kw 24 4 23,
mV 25 1,
mV 26 6,
ul 27 4 25 26,
kw 28 4 27,
oP 29 (.eqa false [.i, .i, .i, .i] (.t 24) (.t 28)),
mV 5 29] [0,1,5,6] [[],[],[0,1],[0,1,2],[],[],[4,5],[4,5,6],GT 8,GT 9]))
(.reg [mV 19 6,
pu 20 19 1,
mV 6 20] [0,1,5,6]))))))
(GE [mV 30 5,
mV 4 30] [4]
.ret))))
abbrev M8:RsT:=[(4,none)]
theorem Nr:SpF 31 GY I0 M8:=SpI Tryz.func107 (by kernel_rfl)
theorem JL:au Tryz.prog GY = true:=by kernel_rfl
abbrev F9:FuncId:=109
def IL:AC:=
(GE [oP 6 (.mv (.c (.bool false)))] [0,1,2]
(GE [mV 7 1,
mV 8 0,
oP 9 (.bin .leq (.t 7) (.t 8)),
mV 10 9,
ge 11 10 0,
ge 12 10 2,
gT 13 10 (.bin .leq (.t 11) (.t 12)),
oP 14 (.pick (.t 10) (.t 13) (.c (.bool false))),
mV 6 14] [6]
.ret))
abbrev Np:RsT:=[(6,none)]
theorem LX:SpF 15 F9 IL Np:=SpI Tryz.func109 (by kernel_rfl)
theorem F6:au Tryz.prog F9 = true:=by kernel_rfl
abbrev Hh:FuncId:=110
def IJ:AC:=
(GE [oP 4 (.mv (.c (.bool false)))] [0,1]
(GE [mV 5 0,
mV 6 1,
mt 7 160 sm [.t 5,.t 6],
eq 8 7 0,
mV 4 8] [4]
.ret))
abbrev M6:RsT:=[(4,none)]
theorem Nf:SpF 9 Hh IJ M6:=SpI Tryz.func110 (by kernel_rfl)
theorem Oo:au Tryz.prog Hh = true:=by kernel_rfl
abbrev Gy:FuncId:=111
def IN:AC:=
(GE [oP 4 (.mv (.c (.bool false)))] [0,1,2]
(GE [mV 5 0,
ol 6 1,
bi 7 5 6,
mV 8 7,
lc 9 8 0,
lm 10 8 2,
gF 11 8 (.bin .gtr (.t 9) (.t 10)),
oP 12 (.pick (.t 8) (.c (.bool true)) (.t 11)),
mV 4 12] [4]
.ret))
abbrev Mx:RsT:=[(4,none)]
theorem MA:SpF 13 Gy IN Mx:=SpI Tryz.func111 (by kernel_rfl)
theorem Me:au Tryz.prog Gy = true:=by kernel_rfl
abbrev C1:FuncId:=112
def JP:AC:=
(GE [wt 4 0,
wt 5 0] [0,1]
(.seq (GE [mV 8 0,
ut 9 8,
wt 10 0] [1,8,9,10]
(.block 0
(.loop [1,8,9,10]
(GE [bi 11 10 9] [1,8,9,10,11]
(.seq (.cond (.t 11)
.skip
(.exit 0))
(.seq (.block 1
(GE [mV 12 10,
ul 13 1 8 10,
ol 14 13,
mV 6 12,
mV 7 14] [1,6,7,8,9,10]
(GE [mV 15 1,
mV 16 6,
mV 17 7,
oP 18 (.call (.t 15) At [.t 16,.t 17]),
mV 5 18] [1,5,6,8,9,10]
(GE [mV 19 5,
dg 20 19 0] [1,5,6,8,9,10,20]
(.cond (.t 20)
(GE [mV 21 6,
mV 22 5,
mV 4 21,
mV 5 22] [4,5]
.ret)
.skip)))))
(.reg [pu 23 10 1,
mV 10 23] [1,8,9,10])))))))
(GE [wt 4 0,
wt 5 0] [4,5]
.ret)))
abbrev NJ:RsT:=[(4,none),(5,none)]
theorem Nd:SpF 24 C1 JP NJ:=SpI Tryz.func112 (by kernel_rfl)
theorem MW:au Tryz.prog C1 = true:=by kernel_rfl
abbrev Db:FuncId:=113
def Dc:AC:=
(GE [wt 5 0] [0,1,2]
(.seq (.block 0
(GE [mV 7 1,
mt 8 114 rt [.t 7],
pl 9 8,
mV 6 9] [0,1,2,6]
(.cond (.t 6)
(GE [wt 5 6] [5]
.ret)
(GE [ol 11 2,
mV 12 0,
oP 13 (.subq 1 (.t 11) none (some (.t 12))),
mV 14 1,
mt 15 115 sm [.t 13,.t 14],
mV 10 15] [10]
(.cond (.t 10)
(GE [wt 5 5] [5]
.ret)
.skip)))))
(GE [wt 5 0] [5]
.ret)))
abbrev Nu:RsT:=[(5,none)]
theorem MJ:SpF 16 Db Dc Nu:=SpI Tryz.func113 (by kernel_rfl)
theorem MG:au Tryz.prog Db = true:=by kernel_rfl
abbrev FV:FuncId:=114
def IG:AC:=
(GE [oP 2 (.mv (.c (.bool false)))] [0]
(.seq (GE [mV 7 0,
oP 8 (.range (.t 7))] [0,8]
(.block 0
(.loop [0,8]
(GE [oP 9 (.next (.t 8)),
ww 10 9 0] [0,8,9,10]
(.seq (.cond (.t 10)
.skip
(.exit 0))
(.block 1
(GE [ww 11 9 1,
ww 12 9 2,
mV 3 11,
mV 4 12] [0,3,4,8]
(GE [mV 13 4,
oP 14 (.bin .geq (.t 13) (.c (.int .i32 97))),
mV 15 14,
ge 16 15 4,
gT 17 15 (.bin .leq (.t 16) (.c (.int .i32 122))),
oP 18 (.pick (.t 15) (.t 17) (.c (.bool false))),
mV 19 4,
oP 20 (.bin .geq (.t 19) (.c (.int .i32 48))),
mV 21 20,
ge 22 21 4,
gT 23 21 (.bin .leq (.t 22) (.c (.int .i32 57))),
oP 24 (.pick (.t 21) (.t 23) (.c (.bool false))),
mV 5 18,
mV 6 24] [0,3,5,6,8]
(GE [mV 25 5,
pl 26 25,
mV 27 26,
ge 28 27 6,
gT 29 27 (.un .not (.t 28)),
ge 30 27 29,
lc 31 30 3,
gF 32 30 (.bin .eql (.t 31) (cI 0)),
gT 33 27 (.pick (.t 30) (.c (.bool true)) (.t 32)),
oP 34 (.pick (.t 27) (.t 33) (.c (.bool false)))] [0,8,34]
(.cond (.t 34)
(GE [oP 2 (.mv (.c (.bool false)))] [2]
.ret)
.skip))))))))))
(GE [mV 35 0,
⟨some 36,none, .bin .neq (.t 35) (.c (.str ⟨#[]⟩))⟩,
mV 37 36,
ge 38 37 0,
gT 39 37 (.lenStr (.t 38)),
gT 40 37 (.bin .leq (.t 39) (cI 16)),
oP 41 (.pick (.t 37) (.t 40) (.c (.bool false))),
mV 2 41] [2]
.ret)))
abbrev Ny:RsT:=[(2,none)]
theorem OY:SpF 42 FV IG Ny:=SpI Tryz.func114 (by kernel_rfl)
theorem GN:au Tryz.prog FV = true:=by kernel_rfl
abbrev G0:FuncId:=115
def IW:AC:=
(GE [oP 4 (.mv (.c (.bool false)))] [0,1]
(GE [mV 5 0,
mV 6 1,
mt 7 161 sm [.t 5,.t 6],
eq 8 7 0,
mV 4 8] [4]
.ret))
abbrev Ml:RsT:=[(4,none)]
theorem Pc:SpF 9 G0 IW Ml:=SpI Tryz.func115 (by kernel_rfl)
theorem II:au Tryz.prog G0 = true:=by kernel_rfl
abbrev GP:FuncId:=116
def JQ:AC:=
(GE [wt 4 0,
wt 5 0] [0,1]
(.seq (GE [mV 8 0,
ut 9 8,
wt 10 0] [1,8,9,10]
(.block 0
(.loop [1,8,9,10]
(GE [bi 11 10 9] [1,8,9,10,11]
(.seq (.cond (.t 11)
.skip
(.exit 0))
(.seq (.block 1
(GE [mV 12 10,
ul 13 4 8 10,
kw 14 4 13,
oP 7 (.alloc EQ),
mV 6 12,
qr 4 7 14] [1,6,7,8,9,10]
(.frz 7 true (GE [mV 15 1,
mV 16 6,
kw 17 4 7,
oP 18 (.call (.t 15) At [.t 16,.t 17]),
mV 5 18] [1,5,6,8,9,10]
(GE [mV 19 5,
dg 20 19 0] [1,5,6,8,9,10,20]
(.cond (.t 20)
(GE [mV 21 6,
mV 22 5,
mV 4 21,
mV 5 22] [4,5]
.ret)
.skip))))))
(.reg [pu 23 10 1,
mV 10 23] [1,8,9,10])))))))
(GE [wt 4 0,
wt 5 0] [4,5]
.ret)))
abbrev M0:RsT:=[(4,none),(5,none)]
theorem MT:SpF 24 GP JQ M0:=SpI Tryz.func116 (by kernel_rfl)
theorem Nw:au Tryz.prog GP = true:=by kernel_rfl
abbrev Dk:FuncId:=117
def rh:AC:=
(GE [jp 5 4 1,
wt 6 0] [2,3,5]
(.seq (.qreg [ol 7 2,
wd 8 0 5,
ol 9 8,
wd 10 1 5,
ol 11 10,
oP 12 (.build Fd [(0,1,.t 9),(1,1,.t 11)]),
oP 13 (.lookup false (.int .i64 0) (.t 7) (.t 12)),
pu 14 13 1,
oP 15 (.ment (.int .i64 0) (.t 7) (.t 12)),
ww 16 15 1,
oN (.estore (.t 7) (.t 16) (.t 14))] [2,3,5] [[],[],[1],[],[3],[1,2,3,4],GT 6,GT 7,GT 6,[0,1,2,3,4,5,8],GT 10] [([0,1,2,3,4,5,6,7],8),([9],10)] [])
(.seq (.block 0
(GE [wn 18 5 0 3,
wd 19 0 18,
ol 20 19,
ut 21 20,
ap 22 21 1,
wd 23 0 5,
ol 24 23,
oP 25 (.lit 0 1 1 [(0,.t 24)]),
mt 26 53 [false,false,true] [cI 0,.t 22,.t 25],
mV 27 26,
gF 28 27 (.fieldAddr (some 5) 0 (.t 3)),
lw 29 27 1 28,
lm 30 27 29,
md 31 27 30,
gF 32 27 (.bin .sub (.t 31) (cI 1)),
lw 33 27 1 5,
lm 34 27 33,
gF 35 27 (.lit 0 1 1 [(0,.t 34)]),
gF 36 27 (.call (.f 53) [false,false,true] [cI 0,.t 32,.t 35]),
oP 37 (.pick (.t 27) (.c (.bool true)) (.t 36)),
mV 17 37] [2,5,17]
(.cond (.t 17)
(GE [wt 6 4] [6]
.ret)
(GE [ol 39 2,
wd 40 0 5,
ol 41 40,
wd 42 1 5,
ol 43 42,
oP 44 (.build Fd [(0,1,.t 41),(1,1,.t 43)]),
oP 45 (.mgetp false (.int .i64 0) (.t 39) (.t 44)),
gc 46 45 1,
mV 38 46] [5,38]
(.cond (.t 38)
(GE [wt 6 5] [6]
.ret)
(GE [wn 48 2 2 5,
wd 49 0 48,
ol 50 49,
wn 51 2 2 5,
wd 52 1 51,
ol 53 52,
oP 54 (.lit 0 1 2 [(0,.t 50),(1,.t 53)]),
mt 55 53 [false,false,true] [cI 0,cI 1000000,.t 54],
mV 47 55] [5,47]
(.cond (.t 47)
(GE [wt 6 7] [6]
.ret)
(GE [wn 57 2 2 5,
wd 58 0 57,
ol 59 58,
wn 60 2 2 5,
wd 61 1 60,
ol 62 61,
oP 63 (.bin .gtr (.t 59) (.t 62)),
mV 56 63] [56]
(.cond (.t 56)
(GE [wt 6 2] [6]
.ret)
.skip)))))))))
(GE [wt 6 0] [6]
.ret))))
abbrev Lx:RsT:=[(6,none)]
theorem sK:SpF 64 Dk rh Lx:=SpI Tryz.func117 (by kernel_rfl)
theorem Lw:au Tryz.prog Dk = true:=by kernel_rfl
abbrev GR:FuncId:=118
def IK:AC:=
(GE [wt 4 0] [0,1]
(.seq (GE [mV 5 0,
mt 6 52 rt [.t 5],
pl 7 6] [0,1,7]
(.cond (.t 7)
(GE [wt 4 6] [4]
.ret)
.skip))
(.seq (GE [mV 8 1,
mV 9 0,
mt 10 159 sm [.t 8,.t 9],
eq 11 10 0] [11]
(.cond (.t 11)
(GE [wt 4 5] [4]
.ret)
.skip))
(GE [wt 4 0] [4]
.ret))))
abbrev MP:RsT:=[(4,none)]
theorem Ng:SpF 12 GR IK MP:=SpI Tryz.func118 (by kernel_rfl)
theorem JC:au Tryz.prog GR = true:=by kernel_rfl
abbrev Gr:FuncId:=119
def I3:AC:=
(GE [jp 3 2 0,
wt 6 0] [1,2,3]
(GE [kw 7 2 3,
oP 8 (.lit 0 2 1 [(0,.t 7)]),
mV 9 1,
mV 10 2,
mt 11 162 [true,false,false] [.t 8,.t 9,.t 10],
mV 6 11] [6]
.ret))
abbrev OV:RsT:=[(6,none)]
theorem Pa:SpF 12 Gr I3 OV:=SpI Tryz.func119 (by kernel_rfl)
theorem JF:au Tryz.prog Gr = true:=by kernel_rfl
abbrev Fi:FuncId:=120
def ID:AC:=
(GE [wt 4 0,
wt 5 0] [0,1]
(.seq (GE [mV 8 0,
ut 9 8,
wt 10 0] [1,8,9,10]
(.block 0
(.loop [1,8,9,10]
(GE [bi 11 10 9] [1,8,9,10,11]
(.seq (.cond (.t 11)
.skip
(.exit 0))
(.seq (.block 1
(GE [mV 12 10,
ul 13 1 8 10,
ol 14 13,
mV 6 12,
mV 7 14] [1,6,7,8,9,10]
(GE [mV 15 1,
mV 16 6,
mV 17 7,
oP 18 (.call (.t 15) At [.t 16,.t 17]),
mV 5 18] [1,5,6,8,9,10]
(GE [mV 19 5,
dg 20 19 0] [1,5,6,8,9,10,20]
(.cond (.t 20)
(GE [mV 21 6,
mV 22 5,
mV 4 21,
mV 5 22] [4,5]
.ret)
.skip)))))
(.reg [pu 23 10 1,
mV 10 23] [1,8,9,10])))))))
(GE [wt 4 0,
wt 5 0] [4,5]
.ret)))
abbrev NV:RsT:=[(4,none),(5,none)]
theorem Mk:SpF 24 Fi ID NV:=SpI Tryz.func120 (by kernel_rfl)
theorem MI:au Tryz.prog Fi = true:=by kernel_rfl
abbrev Dn:FuncId:=121
def zN:AC:=
(GE [wt 6 0] [0,1,2,3]
(.seq (.block 0
(GE [wn 8 5 0 2,
wd 9 3 8,
ol 10 9,
ut 11 10,
ap 12 11 1,
mV 13 1,
oP 14 (.lit 0 1 1 [(0,.t 13)]),
mt 15 53 [false,false,true] [cI 0,.t 12,.t 14],
mV 7 15] [0,1,3,7]
(.cond (.t 7)
(GE [wt 6 4] [6]
.ret)
(GE [mV 17 0,
gc 18 17 0,
mV 19 18,
ge 20 19 1,
gt 21 19 3,
ge 22 19 0,
gT 23 19 (.bin .sub (.t 22) (cI 1)),
ip 24 19 1 21 23,
gt 25 19 24,
gT 26 19 (.bin .leq (.t 20) (.t 25)),
oP 27 (.pick (.t 19) (.t 26) (.c (.bool false))),
mV 16 27] [16]
(.cond (.t 16)
(GE [wt 6 2] [6]
.ret)
.skip)))))
(GE [wt 6 0] [6]
.ret)))
abbrev O0:RsT:=[(6,none)]
theorem N9:SpF 28 Dn zN O0:=SpI Tryz.func121 (by kernel_rfl)
theorem O6:au Tryz.prog Dn = true:=by kernel_rfl
abbrev Fe:FuncId:=122
def Jr:AC:=
(GE [jp 3 5 0,
oP 6 (.mv (.c .nilptr))] [1,2,3]
(GE [wn 19 5 0 3,
wd 20 1 19,
ol 21 20,
ut 22 21,
oP 7 (.alloc [.int .i64 0]),
qr 1 7 22] [1,2,3,7]
(.frz 7 false (GE [ol 23 7,
pu 24 23 1,
mV 8 24] [1,2,3,7,8]
(GE [mV 25 8,
pu 26 25 1,
wn 27 5 0 3,
wd 28 3 27,
ol 29 28,
ut 30 29,
oP 31 (.mksl 2 1 8 (.int .i64 0) (.t 30) (.t 30)),
oP 32 (.buildm [.mint 1005, .int .i64 0, .slice 1 [], .int .i64 0] [(1,1,.t 26),(2,1,.t 31)]),
oP 33 (.box 4 (.t 32)),
mV 9 33] [1,2,3,7,8,9]
(GE [oP 34 (.mkfunc (.func 163) [] [.t 7]),
mV 10 34] [1,2,3,7,8,9,10]
(.seq (GE [wn 35 5 0 3,
wd 36 1 35,
ol 37 36,
ut 38 37,
wt 39 0] [1,2,3,7,8,9,10,38,39]
(.block 0
(.loop [1,2,3,7,8,9,10,38,39]
(GE [bi 40 39 38] [1,2,3,7,8,9,10,38,39,40]
(.seq (.cond (.t 40)
.skip
(.exit 0))
(.seq (.block 1
(GE [mV 41 39,
mV 11 41] [1,2,3,7,8,9,10,11,38,39]
(GE [wn 43 5 0 3,
wd 44 2 43,
ol 45 44,
mV 46 1,
mV 47 11,
oP 48 (.build Fd [(0,1,.t 46),(1,1,.t 47)]),
mt 49 126 sm [.t 45,.t 48],
mV 42 49,
ww 50 42 0,
ww 51 42 1,
oP 12 (.alloc Fd),
qr 2 12 50,
mV 13 51] [1,2,3,7,8,9,10,11,12,38,39]
(.frz 12 true (GE [wn 53 5 0 3,
wd 54 4 53,
ol 55 54,
mV 56 1,
mV 57 11,
oP 58 (.build Fd [(0,1,.t 56),(1,1,.t 57)]),
mt 59 126 sm [.t 55,.t 58],
mV 52 59,
ww 60 52 0,
ww 61 52 1,
oP 14 (.alloc Fd),
qr 2 14 60,
mV 15 61] [1,2,3,7,8,9,10,11,12,14,15,38,39]
(.seq (GE [mV 62 15,
pl 63 62] [1,2,3,7,8,9,10,11,12,14,38,39,63]
(.cond (.t 63)
(.reg [wd 64 1 14,
oN (.store 1 (.t 64) (cI 1099511627776))] [1,2,3,7,8,9,10,11,12,14,38,39])
.skip))
(.dreg [mV 65 9,
mV 66 9,
pi 67 66,
wd 68 0 67,
ol 69 68,
mV 70 8,
mV 71 11,
wd 72 0 12,
ol 73 72,
wd 74 1 12,
ol 75 74,
wd 76 0 12,
ol 77 76,
oP 78 (.build Eq [(0,1,.t 70),(1,1,.t 71),(2,1,.t 73),(3,1,.t 75),(4,1,.t 77)]),
mV 79 11,
mV 80 8,
wd 81 0 14,
ol 82 81,
wd 83 1 14,
ol 84 83,
wd 85 0 14,
ol 86 85,
oP 87 (.build Eq [(0,1,.t 79),(1,1,.t 80),(2,1,.t 82),(3,1,.t 84),(4,1,.t 86)]),
oP 88 (.lit 0 5 2 [(0,.t 78),(1,.t 87)]),
oP 89 (.append 5 40 (.t 69) (.t 88)),
pi 90 65,
wd 91 0 90,
qr 1 91 89] [1,2,3,7,8,9,10,38,39] [[],[],[1],[1,2],[1,2,3],[],[],[],[7],[],[9],[],[11],[5,6,7,8,9,10,11,12],[],[],[],[16],[],[18],[],[20],[14,15,16,17,18,19,20,21],[5,6,7,8,9,10,11,12,13,14,15,16,17,18,19,20,21,22],[1,2,3,4,5,6,7,8,9,10,11,12,13,14,15,16,17,18,19,20,21,22,23],GT 25,GT 26,GT 27])))))))
(.reg [pu 92 39 1,
mV 39 92] [1,2,3,7,8,9,10,38,39])))))))
(.seq (GE [wn 93 5 0 3,
wd 94 3 93,
ol 95 94,
ut 96 95,
wt 97 0] [1,2,3,7,8,9,10,95,96,97]
(.block 2
(.loop [1,2,3,7,8,9,10,95,96,97]
(GE [bi 98 97 96] [1,2,3,7,8,9,10,95,96,97,98]
(.seq (.cond (.t 98)
.skip
(.exit 2))
(.seq (.block 3
(GE [mV 99 97,
ul 100 5 95 97,
kw 101 5 100,
oP 17 (.alloc Eq),
mV 16 99,
qr 5 17 101] [1,2,3,7,8,9,10,16,17,95,96,97]
(.frz 17 true (.seq (GE [wd 102 0 17,
ol 103 102,
mV 104 1,
co 105 103 104,
mV 106 105,
gF 107 106 (.load (some 5) (.t 3)),
lc 108 106 16,
gF 109 106 (.call (.f 127) sm [.t 107,.t 108]),
gF 110 106 (.un .not (.t 109)),
oP 111 (.pick (.t 106) (.c (.bool true)) (.t 110))] [1,2,3,7,8,9,10,16,17,95,96,97,111]
(.cond (.t 111)
(.exit 3)
.skip))
(.seq (.dreg [mV 112 9,
pi 113 112,
wd 114 2 113,
ol 115 114,
mV 116 16,
mV 117 9,
pi 118 117,
wd 119 0 118,
ol 120 119,
ut 121 120,
ul 122 1 115 116,
qr 1 122 121] [1,2,3,7,8,9,10,16,17,95,96,97] [[],[0],[0,1],[0,1,2],[],[],[5],[5,6],[5,6,7],[5,6,7,8],GT 10,GT 11])
(.seq (GE [wd 123 4 17,
ol 124 123,
eq 125 124 0] [1,2,3,7,8,9,10,16,17,95,96,97,125]
(.cond (.t 125)
(.dreg [mV 126 9,
pi 127 126,
wd 128 2 127,
ol 129 128,
wd 130 4 17,
ol 131 130,
mV 132 9,
pi 133 132,
wd 134 0 133,
ol 135 134,
ut 136 135,
ul 137 1 129 131,
qr 1 137 136] [1,2,3,7,8,9,10,16,17,95,96,97] [[],[0],[0,1],[0,1,2],[],[4],[],[6],[6,7],[6,7,8],[6,7,8,9],GT 11,GT 12])
.skip))
(GE [kw 138 5 3,
mV 139 16,
mV 140 2,
mt 141 128 [true,false,true] [.t 138,.t 139,.t 140],
oP 18 (.alloc Fd),
qr 2 18 141] [1,2,3,7,8,9,10,17,18,95,96,97]
(.frz 18 true (.dreg [mV 142 9,
mV 143 9,
pi 144 143,
wd 145 0 144,
ol 146 145,
mV 147 10,
wd 148 1 17,
ol 149 148,
oP 150 (.call (.t 147) rt [.t 149]),
mV 151 10,
wd 152 2 17,
ol 153 152,
oP 154 (.call (.t 151) rt [.t 153]),
wd 155 0 18,
ol 156 155,
wd 157 1 18,
ol 158 157,
wd 159 0 18,
ol 160 159,
oP 161 (.build Eq [(0,1,.t 150),(1,1,.t 154),(2,1,.t 156),(3,1,.t 158),(4,1,.t 160)]),
oP 162 (.lit 0 5 1 [(0,.t 161)]),
oP 163 (.append 5 40 (.t 146) (.t 162)),
pi 164 142,
wd 165 0 164,
qr 1 165 163] [1,2,3,7,8,9,10,95,96,97] [[],[],[1],[1,2],[1,2,3],[],[],[6],[5,6,7],[],[],[10],[5,6,7,8,9,10,11],[],[13],[],[15],[],[17],[5,6,7,8,9,10,11,12,13,14,15,16,17,18],[5,6,7,8,9,10,11,12,13,14,15,16,17,18,19],[1,2,3,4,5,6,7,8,9,10,11,12,13,14,15,16,17,18,19,20],GT 22,GT 23,GT 24])))))))))
(.reg [pu 166 97 1,
mV 97 166] [1,2,3,7,8,9,10,95,96,97])))))))
(GE [mV 167 9,
mV 168 9,
pi 169 168,
wd 170 0 169,
ol 171 170,
ut 172 171,
pi 173 167,
wd 174 3 173,
qr 1 174 172] [7,8,9]
(.seq (.dreg [mV 175 9,
mV 176 9,
pi 177 176,
wd 178 0 177,
ol 179 178,
ol 180 7,
mV 181 8,
oP 182 (.build Eq [(0,1,.t 180),(1,1,.t 181),(2,1,cI (-1099511627776)),(3,1,cI 1099511627776),(4,1,cI 0)]),
oP 183 (.lit 0 5 1 [(0,.t 182)]),
oP 184 (.append 5 40 (.t 179) (.t 183)),
pi 185 175,
wd 186 0 185,
qr 1 186 184] [9] [[],[],[1],[1,2],[1,2,3],[],[],[5,6],[5,6,7],[1,2,3,4,5,6,7,8],GT 10,GT 11,GT 12])
(GE [mV 187 9,
mV 6 187] [6]
.ret)))))))))))
abbrev NN:RsT:=[(6,none)]
theorem OX:SpF 188 Fe Jr NN:=SpI Tryz.func122 (by kernel_rfl)
theorem Ji:au Tryz.prog Fe = true:=by kernel_rfl
abbrev FA:FuncId:=123
def Jy:AC:=
(GE [oP 2 (.mv (.c (.bool false)))] [0]
(GE [mV 9 0,
pi 10 9,
wd 11 1 10,
ol 12 11,
oP 13 (.mksl 2 1 8 (.int .i64 0) (.t 12) (.t 12)),
oP 3 (.alloc [.slice 1 []]),
qr 1 3 13] [0,3]
(.frz 3 false (.seq (GE [mV 14 0,
pi 15 14,
wd 16 0 15,
ol 17 16,
ut 18 17,
wt 19 0] [0,3,17,18,19]
(.block 0
(.loop [0,3,17,18,19]
(GE [bi 20 19 18] [0,3,17,18,19,20]
(.seq (.cond (.t 20)
.skip
(.exit 0))
(.seq (.block 1
(GE [ul 21 5 17 19,
kw 22 5 21,
oP 5 (.alloc Eq),
qr 5 5 22] [0,3,5,17,18,19]
(.frz 5 true (.seq (.dreg [ol 23 3,
wd 24 0 5,
ol 25 24,
ul 26 1 23 25,
ol 27 26,
wd 28 4 5,
ol 29 28,
nl 30 27 29,
ul 31 1 23 25,
qr 1 31 30] [0,3,5,17,18,19] [[],[],[1],[0,1,2],GT 4,[],[5],GT 7,GT 8,GT 9])
(.dreg [ol 32 3,
wd 33 1 5,
ol 34 33,
ul 35 1 32 34,
ol 36 35,
wd 37 4 5,
ol 38 37,
pm 39 36 38,
ul 40 1 32 34,
qr 1 40 39] [0,3,17,18,19] [[],[],[1],[0,1,2],GT 4,[],[5],GT 7,GT 8,GT 9])))))
(.reg [pu 41 19 1,
mV 19 41] [0,3,17,18,19])))))))
(.seq (GE [ol 42 3,
ut 43 42,
wt 44 0] [0,3,43,44]
(.block 2
(.loop [0,3,43,44]
(GE [bi 45 44 43] [0,3,43,44,45]
(.seq (.cond (.t 45)
.skip
(.exit 2))
(.seq (.block 3
(GE [mV 46 44,
mV 6 46] [0,3,6,43,44]
(.block 4
(.loop [0,3,6,43,44]
(.seq (GE [ol 47 3,
mV 48 6,
ul 49 1 47 48,
ol 50 49,
gc 51 50 0] [0,3,6,43,44,51]
(.cond (.t 51)
.skip
(.exit 4)))
(.block 5
(GE [mV 53 0,
mV 54 6,
ol 55 3,
mV 56 6,
ul 57 1 55 56,
ol 58 57,
oP 59 (.mkfunc (.func 164) [] [.t 3]),
mt 60 140 [false,false,false,false,false] [.t 53,.t 54,.t 58,cI (-1),.t 59],
mV 52 60,
ww 61 52 0,
ww 62 52 1,
mV 7 61,
mV 8 62] [0,3,6,7,8,43,44]
(.seq (GE [mV 63 7,
ci 64 63 0] [0,3,6,7,8,43,44,64]
(.cond (.t 64)
(GE [oP 2 (.mv (.c (.bool false)))] [2]
.ret)
.skip))
(GE [ol 65 3,
mV 66 6,
ul 67 1 65 66,
ol 68 67,
mV 69 7,
nl 70 68 69,
ul 71 1 65 66,
qr 1 71 70] [0,3,6,7,8,43,44]
(.reg [ol 72 3,
mV 73 8,
ul 74 1 72 73,
ol 75 74,
mV 76 7,
pm 77 75 76,
ul 78 1 72 73,
qr 1 78 77] [0,3,6,43,44]))))))))))
(.reg [pu 79 44 1,
mV 44 79] [0,3,43,44])))))))
(GE [oP 2 (.mv (.c (.bool true)))] [2]
.ret))))))
abbrev Mg:RsT:=[(2,none)]
theorem Nj:SpF 80 FA Jy Mg:=SpI Tryz.func123 (by kernel_rfl)
theorem I4:au Tryz.prog FA = true:=by kernel_rfl
abbrev xH:FuncId:=124
def GQ:AC:=
(GE [oP 3 (.mv (.c (.bool false)))] [0,1]
(GE [mV 4 0,
eq 5 4 0,
mV 6 5,
gt 7 6 1,
ge 8 6 0,
gT 9 6 (.bin .shr (.t 7) (.t 8)),
gT 10 6 (.bin .and (.t 9) (cI 1)),
io 11 6 10 1,
oP 12 (.pick (.t 6) (.t 11) (.c (.bool false))),
mV 3 12] [3]
.ret))
abbrev NB:RsT:=[(3,none)]
theorem OC:SpF 13 xH GQ NB:=SpI Tryz.func124 (by kernel_rfl)
theorem k9:au Tryz.prog xH = true:=by kernel_rfl
abbrev FG:FuncId:=125
def I6:AC:=
(GE [oP 0 (.alloc [.nilfunc, .nilfunc, .nilfunc, .nilfunc])] [0]
(GE [oP 1 (.mv (.f 165)),
oP 2 (.mv (.f 166))] [0,1,2]
(GE [mV 3 1,
mV 4 2,
oP 5 (.build [.nilfunc, .nilfunc] [(0,1,.t 3),(1,1,.t 4)]),
mV 6 2,
mV 7 1,
oP 8 (.build [.nilfunc, .nilfunc] [(0,1,.t 6),(1,1,.t 7)]),
oP 9 (.build [.nilfunc, .nilfunc, .nilfunc, .nilfunc] [(0,2,.t 5),(2,2,.t 8)]),
qr 4 0 9] [0]
.ret)))
abbrev MV:RsT:=[(0,some (some 4))]
theorem No:SpF 10 FG I6 MV:=SpI Tryz.func125 (by kernel_rfl)
theorem LL:au Tryz.prog FG = true:=by kernel_rfl
abbrev Fm:FuncId:=126
def Ff:AC:=
(GE [jp 3 2 1,
oP 4 (.alloc Fd),
oP 5 (.mv (.c (.bool false)))] [0,3,4]
(GE [mV 7 0,
oP 8 (.mkfunc (.func 168) [] [.t 3]),
mt 9 167 sm [.t 7,.t 8],
mV 6 9] [0,4,6]
(.seq (GE [mV 10 6,
bv 11 10 0] [0,4,6,11]
(.cond (.t 11)
(GE [oP 12 (.build Fd []),
qr 2 4 12,
oP 5 (.mv (.c (.bool false)))] [4,5]
.ret)
.skip))
(GE [mV 13 0,
mV 14 6,
ul 15 4 13 14,
wn 16 2 2 15,
kw 17 2 16,
qr 2 4 17,
oP 5 (.mv (.c (.bool true)))] [4,5]
.ret))))
abbrev Ob:RsT:=[(4,some (some 2)),(5,none)]
theorem Nv:SpF 18 Fm Ff Ob:=SpI Tryz.func126 (by kernel_rfl)
theorem xN:au Tryz.prog Fm = true:=by kernel_rfl
abbrev FI:FuncId:=127
def Je:AC:=
(GE [jp 2 5 0,
oP 4 (.mv (.c (.bool false)))] [1,2]
(GE [wn 5 5 0 2,
wd 6 3 5,
ol 7 6,
mV 8 1,
ul 9 5 7 8,
wd 10 4 9,
ol 11 10,
bv 12 11 0,
mV 13 12,
lc 14 13 1,
gF 15 13 (.fieldAddr (some 5) 0 (.t 2)),
lw 16 13 3 15,
lm 17 13 16,
lc 18 13 1,
mp 19 13 5 17 18,
lw 20 13 4 19,
lm 21 13 20,
gF 22 13 (.bin .lss (.t 14) (.t 21)),
oP 23 (.pick (.t 13) (.c (.bool true)) (.t 22)),
mV 4 23] [4]
.ret))
abbrev OK:RsT:=[(4,none)]
theorem Ns:SpF 24 FI Je OK:=SpI Tryz.func127 (by kernel_rfl)
theorem s9:au Tryz.prog FI = true:=by kernel_rfl
abbrev Fj:FuncId:=128
def F7:AC:=
(GE [jp 3 5 0,
oP 6 (.alloc Fd)] [1,2,3,6]
(GE [mV 11 1,
oP 12 (.lit 0 1 1 [(0,.t 11)]),
mV 7 12] [1,2,3,6,7]
(.seq (GE [wn 13 5 0 3,
wd 14 3 13,
ol 15 14,
mV 16 1,
ul 17 5 15 16,
wd 18 4 17,
ol 19 18,
mV 8 19] [1,2,3,6,7,8]
(GE [mV 20 8,
eq 21 20 0] [1,2,3,6,7,8,21]
(.cond (.t 21)
(.reg [mV 22 1,
mV 23 8,
oP 24 (.mn [.t 22,.t 23]),
mV 25 1,
mV 26 8,
oP 27 (.mx [.t 25,.t 26]),
oP 28 (.lit 0 1 2 [(0,.t 24),(1,.t 27)]),
mV 7 28] [2,3,6,7])
.skip)))
(.seq (GE [mV 29 7,
ut 30 29,
wt 31 0] [2,3,6,29,30,31]
(.block 0
(.loop [2,3,6,29,30,31]
(GE [bi 32 31 30] [2,3,6,29,30,31,32]
(.seq (.cond (.t 32)
.skip
(.exit 0))
(.seq (.block 1
(GE [ul 33 1 29 31,
ol 34 33,
mV 10 34] [2,3,6,10,29,30,31]
(GE [mV 35 2,
mV 36 10,
mt 37 130 sm [.t 35,.t 36],
pl 38 37] [2,3,6,10,29,30,31,38]
(.cond (.t 38)
(.seq (.dreg [wn 39 5 0 3,
wd 40 3 39,
ol 41 40,
mV 42 10,
ul 43 5 41 42,
wd 44 3 43,
ol 45 44,
wn 46 5 0 3,
wd 47 3 46,
ol 48 47,
mV 49 10,
ul 50 5 48 49,
wd 51 3 50,
ol 52 51,
oP 53 (.build Fd [(0,1,.t 45),(1,1,.t 52)]),
qr 2 6 53] [6] [[],[0],[0,1],[],GT 4,GT 5,GT 6,[],[7],[7,8],[],[7,8,9,10],[7,8,9,10,11],[7,8,9,10,11,12],GT 14,GT 15])
.ret)
.skip))))
(.reg [pu 54 31 1,
mV 31 54] [2,3,6,29,30,31])))))))
(GE [oP 55 (.build Fd [(1,1,cI 1000000)]),
qr 2 6 55] [6]
.ret)))))
abbrev Oh:RsT:=[(6,some (some 2))]
theorem MQ:SpF 56 Fj F7 Oh:=SpI Tryz.func128 (by kernel_rfl)
theorem xF:au Tryz.prog Fj = true:=by kernel_rfl
abbrev GU:FuncId:=129
def IC:AC:=
(GE [jp 3 5 0,
oP 6 (.alloc EQ),
oP 7 (.mv (.c (.bool false)))] [1,2,3,6]
(.seq (GE [wt 8 1] [1,2,3,6,8]
(.block 0
(.loop [1,2,3,6,8]
(.seq (GE [mV 11 8,
wd 12 1 3,
ol 13 12,
ut 14 13,
mt 15 75 rt [.t 14],
bi 16 11 15] [1,2,3,6,8,16]
(.cond (.t 16)
.skip
(.exit 0)))
(.seq (.block 1
(GE [kw 20 5 3,
mV 21 1,
mV 22 2,
mV 23 8,
mt 24 76 [true,true,false,false] [.t 20,.t 21,.t 22,.t 23],
mV 19 24,
ww 25 19 0,
ww 26 19 1,
mV 9 25,
mV 10 26] [1,2,3,6,8,9,10]
(.seq (GE [mV 27 9,
gc 28 27 0] [1,2,3,6,8,9,10,28]
(.cond (.t 28)
(GE [mV 29 2,
mV 30 8,
mV 31 9,
oP 32 (.build EQ [(0,1,cI (-1)),(1,1,.t 29),(2,1,.t 30),(3,1,.t 31)]),
qr 4 6 32,
oP 7 (.mv (.c (.bool true)))] [6,7]
.ret)
.skip))
(GE [mV 33 10,
bv 34 33 0] [1,2,3,6,8,10,34]
(.cond (.t 34)
(GE [mV 35 2,
mV 36 8,
mV 37 10,
oP 38 (.build EQ [(0,1,cI (-1)),(1,1,.t 35),(2,1,.t 36),(3,1,.t 37)]),
qr 4 6 38,
oP 7 (.mv (.c (.bool true)))] [6,7]
.ret)
.skip)))))
(.reg [mV 17 8,
pu 18 17 1,
mV 8 18] [1,2,3,6,8]))))))
(GE [oP 39 (.build EQ []),
qr 4 6 39,
oP 7 (.mv (.c (.bool false)))] [6,7]
.ret)))
abbrev N5:RsT:=[(6,some (some 4)),(7,none)]
theorem Md:SpF 40 GU IC N5:=SpI Tryz.func129 (by kernel_rfl)
theorem IP:au Tryz.prog GU = true:=by kernel_rfl
abbrev CT:FuncId:=130
def IZ:AC:=
(GE [oP 4 (.mv (.c (.bool false)))] [0,1]
(GE [mV 5 0,
mV 6 1,
mt 7 169 sm [.t 5,.t 6],
eq 8 7 0,
mV 4 8] [4]
.ret))
abbrev OR:RsT:=[(4,none)]
theorem LF:SpF 9 CT IZ OR:=SpI Tryz.func130 (by kernel_rfl)
theorem C2:au Tryz.prog CT = true:=by kernel_rfl
abbrev Gx:FuncId:=131
def IV:AC:=
(GE [jp 4 5 0,
oP 8 (.alloc Fd)] [1,2,3,4,8]
(GE [oP 9 (.alloc Fd)] [1,2,3,4,8,9]
(.seq (GE [wt 10 0] [1,2,3,4,8,9,10]
(.block 0
(.loop [1,2,3,4,8,9,10]
(.seq (GE [mV 16 10,
wd 17 1 4,
ol 18 17,
ut 19 18,
bi 20 16 19] [1,2,3,4,8,9,10,20]
(.cond (.t 20)
.skip
(.exit 0)))
(.seq (.block 1
(GE [wd 24 2 4,
ol 25 24,
mV 26 2,
mV 27 10,
mt 28 170 [true,false,false] [.t 25,.t 26,.t 27],
mV 23 28,
ww 29 23 0,
ww 30 23 1,
oP 11 (.alloc Fd),
qr 2 11 29,
mV 12 30] [1,2,3,4,8,9,10,11,12]
(.frz 11 true (GE [mV 31 12,
mV 32 31,
ge 33 32 3,
ge 34 32 10,
gT 35 32 (.call (.f 142) At [.t 33,.t 34]),
oP 36 (.pick (.t 32) (.t 35) (.c (.bool false)))] [1,2,3,4,8,9,10,11,36]
(.cond (.t 36)
(.reg [wd 37 0 9,
ol 38 37,
wd 39 0 11,
ol 40 39,
pm 41 38 40,
wd 42 1 9,
ol 43 42,
wd 44 1 11,
ol 45 44,
pm 46 43 45,
oP 47 (.build Fd [(0,1,.t 41),(1,1,.t 46)]),
qr 2 9 47] [1,2,3,4,8,9,10])
.skip)))))
(.reg [mV 21 10,
pu 22 21 1,
mV 10 22] [1,2,3,4,8,9,10]))))))
(.seq (GE [wt 13 0] [1,2,3,4,8,9,13]
(.block 2
(.loop [1,2,3,4,8,9,13]
(.seq (GE [mV 48 13,
wd 49 3 4,
ol 50 49,
ut 51 50,
bi 52 48 51] [1,2,3,4,8,9,13,52]
(.cond (.t 52)
.skip
(.exit 2)))
(.seq (.block 3
(.seq (.dreg [wd 55 3 4,
ol 56 55,
mV 57 13,
ul 58 5 56 57,
kw 59 5 58,
mV 60 1,
mV 61 13,
ul 62 2 60 61,
kw 63 2 62,
oP 14 (.alloc Eq),
oP 15 (.alloc Fd),
qr 5 14 59,
qr 2 15 63] [1,2,3,4,8,9,13,14,15] [[],[0],[],[0,1,2],GT 4,[],[],[5,6],[5,6,7],[],[],[0,1,2,3,4,9,10],GT 12])
(.seq (.seq (.dreg [wd 64 0 14,
ol 65 64,
mV 66 2,
co 67 65 66,
mV 68 67,
gF 69 68 (.load (some 5) (.t 4)),
lc 70 68 13,
gF 71 68 (.call (.f 46) sm [.t 69,.t 70]),
gF 72 68 (.un .not (.t 71)),
oP 73 (.pick (.t 68) (.c (.bool true)) (.t 72)),
mV 74 73,
lc 75 74 3,
lw 76 74 1 14,
lm 77 74 76,
gF 78 74 (.call (.f 142) At [.t 75,.t 77]),
lc 79 74 3,
lw 80 74 2 14,
lm 81 74 80,
gF 82 74 (.call (.f 142) At [.t 79,.t 81]),
gF 83 74 (.eqb false (.t 78) (.t 82)),
oP 84 (.pick (.t 74) (.c (.bool true)) (.t 83))] [1,2,3,4,8,9,13,14,15,84] [[],[0],[],[0,1,2],GT 4,GT 5,GT 5,GT 7,GT 8,GT 9,GT 10,GT 11,GT 11,[0,1,2,3,4,5,6,7,8,9,10,12],GT 14,GT 11,GT 11,[0,1,2,3,4,5,6,7,8,9,10,16],GT 18,GT 19,GT 20])
(.cond (.t 84)
(.exit 3)
.skip))
(GE [mV 85 3,
wd 86 2 14,
ol 87 86,
mt 88 142 At [.t 85,.t 87]] [1,2,3,4,8,9,13,15,88]
(.cond (.t 88)
(.reg [wd 89 0 9,
ol 90 89,
wd 91 0 15,
ol 92 91,
pm 93 90 92,
wd 94 1 9,
ol 95 94,
wd 96 1 15,
ol 97 96,
pm 98 95 97,
oP 99 (.build Fd [(0,1,.t 93),(1,1,.t 98)]),
qr 2 9 99] [1,2,3,4,8,9,13])
(.reg [wd 100 0 9,
ol 101 100,
wd 102 1 15,
ol 103 102,
nl 104 101 103,
wd 105 1 9,
ol 106 105,
wd 107 0 15,
ol 108 107,
nl 109 106 108,
oP 110 (.build Fd [(0,1,.t 104),(1,1,.t 109)]),
qr 2 9 110] [1,2,3,4,8,9,13]))))))
(.reg [mV 53 13,
pu 54 53 1,
mV 13 54] [1,2,3,4,8,9,13]))))))
(GE [kw 111 2 9,
qr 2 8 111] [8]
.ret)))))
abbrev L8:RsT:=[(8,some (some 2))]
theorem O5:SpF 112 Gx IV L8:=SpI Tryz.func131 (by kernel_rfl)
theorem I5:au Tryz.prog Gx = true:=by kernel_rfl
abbrev FW:FuncId:=132
def I2:AC:=
(GE [jp 3 5 0,
oP 6 (.alloc Fd),
oP 7 (.mv (.c (.bool false)))] [1,2,3,6]
(GE [oP 8 (.alloc Fd)] [1,2,3,6,8]
(GE [oP 9 (.mv (.c (.bool true)))] [1,2,3,6,8,9]
(.seq (GE [wt 10 0] [1,2,3,6,8,9,10]
(.block 0
(.loop [1,2,3,6,8,9,10]
(.seq (GE [mV 13 10,
wd 14 1 3,
ol 15 14,
ut 16 15,
bi 17 13 16] [1,2,3,6,8,9,10,17]
(.cond (.t 17)
.skip
(.exit 0)))
(.seq (.block 1
(.seq (GE [mV 20 2,
mV 21 10,
mt 22 142 At [.t 20,.t 21],
pl 23 22] [1,2,3,6,8,9,10,23]
(.cond (.t 23)
(.exit 1)
.skip))
(GE [wd 25 4 3,
ol 26 25,
mV 27 1,
mV 28 10,
mt 29 170 [true,false,false] [.t 26,.t 27,.t 28],
mV 24 29,
ww 30 24 0,
ww 31 24 1,
oP 11 (.alloc Fd),
qr 2 11 30,
mV 12 31] [1,2,3,6,8,9,10,11,12]
(.frz 11 true (GE [wd 32 0 8,
ol 33 32,
wd 34 0 11,
ol 35 34,
pm 36 33 35,
wd 37 1 8,
ol 38 37,
wd 39 1 11,
ol 40 39,
pm 41 38 40,
oP 42 (.build Fd [(0,1,.t 36),(1,1,.t 41)]),
qr 2 8 42] [1,2,3,6,8,9,10,12]
(.reg [mV 43 9,
mV 44 43,
ge 45 44 12,
oP 46 (.pick (.t 44) (.t 45) (.c (.bool false))),
mV 9 46] [1,2,3,6,8,9,10]))))))
(.reg [mV 18 10,
pu 19 18 1,
mV 10 19] [1,2,3,6,8,9,10]))))))
(GE [kw 47 2 8,
mV 48 9,
qr 2 6 47,
mV 7 48] [6,7]
.ret)))))
abbrev LJ:RsT:=[(6,some (some 2)),(7,none)]
theorem NR:SpF 49 FW I2 LJ:=SpI Tryz.func132 (by kernel_rfl)
theorem Js:au Tryz.prog FW = true:=by kernel_rfl
abbrev GA:FuncId:=133
def Jl:AC:=
(GE [jp 2 1 0] [1,2]
(GE [oP 3 (.alloc [.nilfunc])] [1,2,3]
(GE [oP 5 (.mkfunc (.func 134) [] [.t 2,.t 1,.t 3]),
qr 1 3 5] [1,3]
(GE [wn 6 5 0 1,
wd 7 3 6,
ol 8 7,
ut 9 8,
pu 10 9 1,
wt 11 0] [3,10,11]
(.block 0
(.loop [3,10,11]
(GE [bi 12 11 10] [3,10,11,12]
(.seq (.cond (.t 12)
.skip
(.exit 0))
(.seq (.block 1
(GE [mV 13 11,
mV 4 13] [3,4,10,11]
(GE [ol 14 3,
mV 15 4,
oP 16 (.call (.t 14) [true,false,false] [(.c (.slice 1 [])),cI 0,.t 15]),
pl 17 16] [3,10,11,17]
(.cond (.t 17)
.ret
.skip))))
(.reg [pu 18 11 1,
mV 11 18] [3,10,11]))))))))))
abbrev OD:RsT:=[]
theorem NI:SpF 19 GA Jl OD:=SpI Tryz.func133 (by kernel_rfl)
theorem Ja:au Tryz.prog GA = true:=by kernel_rfl
abbrev Gi:FuncId:=134
def GS:AC:=
(GE [oP 9 (.mv (.c (.bool false)))] [0,1,2,3,4,5]
(.seq (GE [mV 11 2,
ci 12 11 0] [0,1,2,3,4,5,12]
(.cond (.t 12)
(GE [ol 13 3,
mV 14 0,
oP 15 (.call (.t 13) rg [.t 14]),
mV 9 15] [9]
.ret)
.skip))
(.seq (GE [mV 16 1,
mV 10 16] [0,2,4,5,10]
(.block 0
(.loop [0,2,4,5,10]
(.seq (GE [mV 17 10,
wn 18 5 0 4,
wd 19 3 18,
ol 20 19,
ut 21 20,
mV 22 2,
nl 23 21 22,
oP 24 (.bin .leq (.t 17) (.t 23))] [0,2,4,5,10,24]
(.cond (.t 24)
.skip
(.exit 0)))
(.seq (.block 1
(.seq (.creg [ol 27 5,
mV 28 0,
mt 29 135 rg [.t 28],
mV 30 10,
oP 31 (.lit 0 1 1 [(0,.t 30)]),
oP 32 (.append 1 8 (.t 29) (.t 31)),
mV 33 10,
pu 34 33 1,
mV 35 2,
ap 36 35 1,
oP 37 (.call (.t 27) [true,false,false] [.t 32,.t 34,.t 36]),
pl 38 37] [0,2,4,5,10,38] [[],[],[1],[],[3],[1,2,3,4],[],[6],[],[8],GT 10,GT 11] [([0,1,3,4,6,7,8,9],2),([],5),([],10)] [11])
(.cond (.t 38)
(GE [oP 9 (.mv (.c (.bool false)))] [9]
.ret)
.skip)))
(.reg [mV 25 10,
pu 26 25 1,
mV 10 26] [0,2,4,5,10]))))))
(GE [oP 9 (.mv (.c (.bool true)))] [9]
.ret))))
abbrev N4:RsT:=[(9,none)]
theorem JR:SpF 39 Gi GS N4:=SpI Tryz.func134 (by kernel_rfl)
theorem I9:au Tryz.prog Gi = true:=by kernel_rfl
abbrev Gl:FuncId:=135
def JK:AC:=
(GE [oP 2 (.mv (.c (.slice 1 [])))] [0]
(.seq (GE [mV 3 0,
oP 4 (.snil false (.t 3))] [0,4]
(.cond (.t 4)
(GE [oP 2 (.nilS 3 1)] [2]
.ret)
.skip))
(GE [oP 5 (.lit 1 1 0 []),
mV 6 0,
oP 7 (.append 1 8 (.t 5) (.t 6)),
mV 2 7] [2]
.ret)))
abbrev LZ:RsT:=[(2,none)]
theorem LQ:SpF 8 Gl JK LZ:=SpI Tryz.func135 (by kernel_rfl)
theorem L6:au Tryz.prog Gl = true:=by kernel_rfl
abbrev JH:FuncId:=136
theorem Lv:au Tryz.prog JH = true:=by kernel_rfl
abbrev A5:FuncId:=139
def JD:AC:=
(GE [jp 6 1 1,
jp 7 1 2,
wt 8 0] [0,3,4,6,7]
(GE [wt 9 0] [0,3,4,6,7,9]
(.seq (.block 0
(.loop [0,3,4,6,7,9]
(.seq (GE [mV 12 9,
ol 13 7,
bi 14 12 13] [0,3,4,6,7,9,14]
(.cond (.t 14)
.skip
(.exit 0)))
(.block 1
(GE [ol 16 3,
mV 17 0,
ol 18 7,
mV 19 9,
nl 20 18 19,
ol 21 4,
oP 22 (.mkfunc (.func 141) [] [.t 6,.t 7]),
mt 23 140 [false,false,false,false,false] [.t 16,.t 17,.t 20,.t 21,.t 22],
mV 15 23,
ww 24 15 0,
ww 25 15 1,
mV 10 24,
mV 11 25] [0,3,4,6,7,9,10]
(.seq (GE [mV 26 10,
ci 27 26 0] [0,3,4,6,7,9,10,27]
(.cond (.t 27)
(.exit 0)
.skip))
(.reg [mV 28 9,
mV 29 10,
pm 30 28 29,
mV 9 30] [0,3,4,6,7,9])))))))
(GE [mV 31 9,
mV 8 31] [8]
.ret))))
abbrev MU:RsT:=[(8,none)]
theorem NZ:SpF 32 A5 JD MU:=SpI Tryz.func139 (by kernel_rfl)
theorem I8:au Tryz.prog A5 = true:=by kernel_rfl
abbrev G4:FuncId:=140
def Jj:AC:=
(GE [jp 5 1 0,
wt 10 0,
wt 11 0] [1,2,3,4,5]
(GE [ol 23 5,
pi 24 23,
wd 25 1 24,
ol 26 25,
oP 27 (.mksl 2 1 8 (.int .i64 0) (.t 26) (.t 26)),
mV 12 27] [1,2,3,4,5,12]
(GE [mV 28 12,
mV 29 1,
ul 30 1 28 29,
oN (.store 1 (.t 30) (cI (-1)))] [1,2,3,4,5,12]
(GE [oP 31 (.mkfunc (.func 182) [] [.t 5]),
mV 13 31] [1,2,3,4,5,12,13]
(.seq (GE [mV 32 1,
oP 33 (.lit 1 1 1 [(0,.t 32)]),
mV 14 33] [1,2,3,4,5,12,13,14]
(.block 0
(.loop [1,2,3,4,5,12,13,14]
(.seq (GE [mV 34 14,
ut 35 34,
gc 36 35 0] [1,2,3,4,5,12,13,14,36]
(.cond (.t 36)
.skip
(.exit 0)))
(.seq (.block 1
(GE [mV 39 14,
oP 40 (.ixS 1 (.t 39) (cI 0)),
ol 41 40,
mV 15 41] [1,2,3,4,5,12,13,14,15]
(.seq (GE [mV 42 15,
mV 43 1,
co 44 42 43,
mV 45 44,
ge 46 45 4,
ge 47 45 15,
gT 48 45 (.call (.t 46) rt [.t 47]),
gT 49 45 (.bin .gtr (.t 48) (cI 0)),
oP 50 (.pick (.t 45) (.t 49) (.c (.bool false)))] [1,2,3,4,5,12,13,14,15,50]
(.cond (.t 50)
(GE [mV 51 2,
mV 52 4,
mV 53 15,
oP 54 (.call (.t 52) rt [.t 53]),
oP 55 (.mn [.t 51,.t 54]),
mV 10 55] [1,5,10,12,13,15]
(.seq (GE [mV 56 15,
mV 16 56] [1,5,10,12,13,15,16]
(.block 2
(.loop [1,5,10,12,13,15,16]
(.seq (GE [mV 57 16,
mV 58 1,
co 59 57 58] [1,5,10,12,13,15,16,59]
(.cond (.t 59)
.skip
(.exit 2)))
(.seq (.block 3
(GE [mV 68 12,
mV 69 16,
ul 70 1 68 69,
ol 71 70,
ap 72 71 1,
mV 17 72] [1,5,10,12,13,15,16,17]
(.dreg [mV 73 10,
ol 74 5,
pi 75 74,
wd 76 0 75,
ol 77 76,
mV 78 17,
ul 79 5 77 78,
kw 80 5 79,
mV 81 13,
mV 82 17,
mV 83 16,
oP 84 (.call (.t 81) At [.t 82,.t 83]),
mt 85 183 At [.t 80,.t 84],
oP 86 (.mn [.t 73,.t 85]),
mV 10 86] [1,5,10,12,13,15,16] [[],[],[1],[1,2],[1,2,3],[],[1,2,3,4,5],[1,2,3,4,5,6],[],[],[],[8,9,10],[1,2,3,4,5,6,7,8,9,10,11],GT 13,GT 14])))
(.reg [mV 60 13,
mV 61 12,
mV 62 16,
ul 63 1 61 62,
ol 64 63,
ap 65 64 1,
mV 66 16,
oP 67 (.call (.t 60) At [.t 65,.t 66]),
mV 16 67] [1,5,10,12,13,15,16]))))))
(.seq (GE [mV 87 15,
mV 18 87] [1,5,10,12,13,15,18]
(.block 4
(.loop [1,5,10,12,13,15,18]
(.seq (GE [mV 88 18,
mV 89 1,
co 90 88 89] [1,5,10,12,13,15,18,90]
(.cond (.t 90)
.skip
(.exit 4)))
(.block 5
(GE [mV 91 12,
mV 92 18,
ul 93 1 91 92,
ol 94 93,
ap 95 94 1,
mV 19 95] [1,5,10,12,13,15,18,19]
(GE [mV 96 13,
mV 97 19,
mV 98 18,
oP 99 (.call (.t 96) At [.t 97,.t 98]),
mV 20 99] [1,5,10,12,13,15,19,20]
(.seq (GE [mV 100 20,
ol 101 5,
pi 102 101,
wd 103 0 102,
ol 104 103,
mV 105 19,
ul 106 5 104 105,
wd 107 0 106,
ol 108 107,
ce 109 100 108] [1,5,10,12,13,15,19,20,109]
(.cond (.t 109)
(.reg [ol 110 5,
pi 111 110,
wd 112 0 111,
ol 113 112,
mV 114 19,
ul 115 5 113 114,
wd 116 4 115,
ol 117 116,
mV 118 10,
pm 119 117 118,
ul 120 5 113 114,
wd 121 4 120,
qr 1 121 119] [1,5,10,12,13,15,20])
(.reg [ol 122 5,
pi 123 122,
wd 124 0 123,
ol 125 124,
mV 126 19,
ul 127 5 125 126,
wd 128 4 127,
ol 129 128,
mV 130 10,
nl 131 129 130,
ul 132 5 125 126,
wd 133 4 132,
qr 1 133 131] [1,5,10,12,13,15,20])))
(.reg [mV 134 20,
mV 18 134] [1,5,10,12,13,15,18])))))))))
(GE [mV 135 10,
mV 136 15,
mV 10 135,
mV 11 136] [10,11]
.ret))))
.skip))
(GE [ol 137 5,
pi 138 137,
wd 139 0 138,
ol 140 139,
ut 141 140,
wt 142 0] [1,2,3,4,5,12,13,14,15,140,141,142]
(.block 6
(.loop [1,2,3,4,5,12,13,14,15,140,141,142]
(GE [bi 143 142 141] [1,2,3,4,5,12,13,14,15,140,141,142,143]
(.seq (.cond (.t 143)
.skip
(.exit 6))
(.seq (.block 7
(GE [mV 144 142,
ul 145 5 140 142,
kw 146 5 145,
oP 22 (.alloc Eq),
mV 21 144,
qr 5 22 146] [1,2,3,4,5,12,13,14,15,21,22,140,141,142]
(.frz 22 true (.seq (GE [mV 147 21,
mV 148 3,
ce 149 147 148,
mV 150 149,
lc 151 150 15,
lw 152 150 0 22,
lm 153 150 152,
gF 154 150 (.bin .neq (.t 151) (.t 153)),
lc 155 150 154,
ge 156 155 15,
ii 157 155 1 22,
gt 158 155 157,
gT 159 155 (.bin .neq (.t 156) (.t 158)),
gF 160 150 (.pick (.t 155) (.t 159) (.c (.bool false))),
oP 161 (.pick (.t 150) (.c (.bool true)) (.t 160)),
mV 162 161,
gF 163 162 (.load (some 5) (.t 22)),
lc 164 162 15,
gF 165 162 (.call (.f 183) At [.t 163,.t 164]),
gF 166 162 (.bin .leq (.t 165) (cI 0)),
oP 167 (.pick (.t 162) (.c (.bool true)) (.t 166)),
mV 168 167,
lc 169 168 12,
lc 170 168 13,
lc 171 168 21,
lc 172 168 15,
gF 173 168 (.call (.t 170) At [.t 171,.t 172]),
mp 174 168 1 169 173,
lm 175 168 174,
gF 176 168 (.bin .neq (.t 175) (cI 0)),
oP 177 (.pick (.t 168) (.c (.bool true)) (.t 176))] [1,2,3,4,5,12,13,14,15,21,140,141,142,177]
(.cond (.t 177)
(.exit 7)
.skip))
(GE [mV 178 12,
mV 179 13,
mV 180 21,
mV 181 15,
oP 182 (.call (.t 179) At [.t 180,.t 181]),
mV 183 21,
pu 184 183 1,
ul 185 1 178 182,
qr 1 185 184] [1,2,3,4,5,12,13,14,15,21,140,141,142]
(.reg [mV 186 14,
mV 187 13,
mV 188 21,
mV 189 15,
oP 190 (.call (.t 187) At [.t 188,.t 189]),
oP 191 (.lit 0 1 1 [(0,.t 190)]),
oP 192 (.append 1 8 (.t 186) (.t 191)),
mV 14 192] [1,2,3,4,5,12,13,14,15,140,141,142]))))))
(.reg [pu 193 142 1,
mV 142 193] [1,2,3,4,5,12,13,14,15,140,141,142]))))))))))
(.reg [mV 37 14,
oP 38 (.subO 1 (.t 37) (cI 1)),
mV 14 38] [1,2,3,4,5,12,13,14]))))))
(GE [wt 10 0,
wt 11 0] [10,11]
.ret))))))
abbrev Mf:RsT:=[(10,none),(11,none)]
theorem N2:SpF 194 G4 Jj Mf:=SpI Tryz.func140 (by kernel_rfl)
theorem IT:au Tryz.prog G4 = true:=by kernel_rfl
abbrev CS:FuncId:=141
def Gj:AC:=
(GE [wt 4 0] [0,1,2]
(.seq (GE [mV 5 0,
ol 6 1,
ce 7 5 6] [2,7]
(.cond (.t 7)
(GE [ol 8 2,
mV 4 8] [4]
.ret)
.skip))
(GE [wt 4 0] [4]
.ret)))
abbrev MO:RsT:=[(4,none)]
theorem OU:SpF 9 CS Gj MO:=SpI Tryz.func141 (by kernel_rfl)
theorem OP:au Tryz.prog CS = true:=by kernel_rfl
abbrev E6:FuncId:=142
def Gd:AC:=
(GE [oP 4 (.mv (.c (.bool false)))] [0,1]
(GE [mV 5 1,
eq 6 5 0,
mV 7 6,
ge 8 7 0,
ge 9 7 1,
gT 10 7 (.call (.f 75) rt [.t 9]),
gT 11 7 (.bin .quo (.t 8) (.t 10)),
gT 12 7 (.bin .rem (.t 11) (cI 2)),
io 13 7 12 1,
oP 14 (.pick (.t 7) (.t 13) (.c (.bool false))),
mV 4 14] [4]
.ret))
abbrev MZ:RsT:=[(4,none)]
theorem O4:SpF 15 E6 Gd MZ:=SpI Tryz.func142 (by kernel_rfl)
theorem sO:au Tryz.prog E6 = true:=by kernel_rfl
abbrev GV:FuncId:=143
def IQ:AC:=
(.reg [mV 3 0,
⟨some 4,none, .call (.f 145) sm [.t 3,(.c (.str ⟨#[32]⟩))]⟩,
⟨some 5,none, .bin .add (.t 4) (.c (.str ⟨#[10]⟩))⟩,
mt 6 144 sm [.t 1,.t 5]] [])
abbrev OH:RsT:=[]
theorem Mc:SpF 7 GV IQ OH:=SpI Tryz.func143 (by kernel_rfl)
theorem JM:au Tryz.prog GV = true:=by kernel_rfl
abbrev Jx:FuncId:=144
theorem MK:au Tryz.prog Jx = true:=by kernel_rfl
abbrev Jo:FuncId:=145
theorem M1:au Tryz.prog Jo = true:=by kernel_rfl
abbrev Ha:FuncId:=146
def Jc:AC:=
(GE [mV 8 1,
ut 9 8,
wt 10 0] [0,2,3,8,9,10]
(.block 0
(.loop [0,2,3,8,9,10]
(GE [bi 11 10 9] [0,2,3,8,9,10,11]
(.seq (.cond (.t 11)
.skip
(.exit 0))
(.seq (.block 1
(GE [ul 12 4 8 10,
kw 13 4 12,
oP 7 (.alloc EQ),
qr 4 7 13] [0,2,3,7,8,9,10]
(.frz 7 true (.creg [ol 14 2,
mV 15 0,
wn 16 5 0 3,
wd 17 0 16,
ol 18 17,
wd 19 0 7,
ol 20 19,
ul 21 1 18 20,
ol 22 21,
wn 23 5 0 3,
wd 24 1 23,
ol 25 24,
wd 26 1 7,
ol 27 26,
ul 28 1 25 27,
ol 29 28,
wn 30 2 2 7,
wd 31 0 30,
ol 32 31,
mt 33 147 rt [.t 32],
wn 34 2 2 7,
wd 35 1 34,
ol 36 35,
mt 37 147 rt [.t 36],
oP 38 (.lit 0 1 5 [(0,.t 15),(1,.t 22),(2,.t 29),(3,.t 33),(4,.t 37)]),
oP 39 (.call (.t 14) rg [.t 38])] [0,2,3,8,9,10] [[],[],[],[2],[2,3],[],[5],[2,3,4,5,6],[2,3,4,5,6,7],[],[9],[9,10],[],[12],[9,10,11,12,13],[9,10,11,12,13,14],[],[16],[16,17],[16,17,18],[],[20],[20,21],[16,17,18,19,20,21,22],[1,2,3,4,5,6,7,8,9,10,11,12,13,14,15,16,17,18,19,20,21,22,23],GT 25] [([0,1,2,3,4,5,6,7,8,9,10,11,12,13,14,15,16,17,18,19,20,21,22,23],24),([],25)] []))))
(.reg [pu 40 10 1,
mV 10 40] [0,2,3,8,9,10])))))))
abbrev Mo:RsT:=[]
theorem Mq:SpF 41 Ha Jc Mo:=SpI Tryz.func146 (by kernel_rfl)
theorem Oy:au Tryz.prog Ha = true:=by kernel_rfl
abbrev Jq:FuncId:=147
theorem zH:au Tryz.prog Jq = true:=by kernel_rfl
abbrev Fz:FuncId:=148
def GL:AC:=
(GE [⟨some 3,none, .mv (.c (.str ⟨#[]⟩))⟩] [0,1]
(.seq (GE [mV 4 0,
ci 5 4 (-1)] [0,1,5]
(.cond (.t 5)
(GE [⟨some 3,none, .mv (.c (.str ⟨#[45]⟩))⟩] [3]
.ret)
.skip))
(GE [wn 6 5 0 1,
wd 7 1 6,
ol 8 7,
mV 9 0,
ul 10 1 8 9,
ol 11 10,
mV 3 11] [3]
.ret)))
abbrev Ms:RsT:=[(3,none)]
theorem Nb:SpF 12 Fz GL Ms:=SpI Tryz.func148 (by kernel_rfl)
theorem JG:au Tryz.prog Fz = true:=by kernel_rfl
abbrev LY:FuncId:=149
theorem NX:au Tryz.prog LY = true:=by kernel_rfl
abbrev DD:FuncId:=155
def uS:AC:=
(GE [oP 2 (.alloc EQ)] [0,1,2]
(GE [ol 3 0,
ut 4 3,
ci 5 4 5,
mt 6 100 rt [.t 5]] [0,1,2]
(.seq (.creg [ol 7 1,
pi 8 7,
wn 9 5 0 8,
wd 10 0 9,
ol 11 10,
ol 12 0,
oP 13 (.ixS 1 (.t 12) (cI 1)),
ol 14 13,
mt 15 156 [true,false,false] [.t 11,.t 14,(.c (.bool false))],
ol 16 1,
pi 17 16,
wn 18 5 0 17,
wd 19 1 18,
ol 20 19,
ol 21 0,
oP 22 (.ixS 1 (.t 21) (cI 2)),
ol 23 22,
mt 24 156 [true,false,false] [.t 20,.t 23,(.c (.bool false))],
ol 25 0,
oP 26 (.ixS 1 (.t 25) (cI 3)),
ol 27 26,
mt 28 157 At [.t 27,(.c (.bool false))],
ol 29 0,
oP 30 (.ixS 1 (.t 29) (cI 4)),
ol 31 30,
mt 32 157 At [.t 31,(.c (.bool false))],
oP 33 (.build Fd [(0,1,.t 28),(1,1,.t 32)]),
oP 34 (.build EQ [(0,1,.t 15),(1,1,.t 24),(2,2,.t 33)]),
qr 4 2 34] [2] [[],[0],[0,1],[0,1,2],GT 4,[],[5],[5,6],GT 8,[],[9],[9,10],[9,10,11],[9,10,11,12],[],[14],[14,15],GT 17,[],[18],[18,19],GT 21,[],[22],[22,23],GT 25,GT 26,GT 27,GT 28] [([0,1,2,3,4,5,6,7,9,10,11,12,13,14,15,16,18,19,20,22,23,24],8),([],17),([],21),([],25),([26,27],28)] [])
.ret)))
abbrev Om:RsT:=[(2,some (some 4))]
theorem Jt:SpF 35 DD uS Om:=SpI Tryz.func155 (by kernel_rfl)
theorem Dj:au Tryz.prog DD = true:=by kernel_rfl
abbrev Hl:FuncId:=156
def zD:AC:=
(GE [wt 6 0] [0,1,2]
(GE [mV 8 0,
mV 9 1,
mt 10 161 sm [.t 8,.t 9],
mV 7 10] [1,2,7]
(GE [mV 11 7,
eq 12 11 0,
mV 13 12,
lc 14 13 2,
lc 15 13 14,
ge 16 15 1,
⟨some 17,(some (15,true)), .bin .eql (.t 16) (.c (.str ⟨#[45]⟩))⟩,
gF 18 13 (.pick (.t 15) (.t 17) (.c (.bool false))),
oP 19 (.pick (.t 13) (.c (.bool true)) (.t 18)),
mt 20 100 rt [.t 19]] [7]
(GE [mV 21 7,
mV 6 21] [6]
.ret))))
abbrev On:RsT:=[(6,none)]
theorem L4:SpF 22 Hl zD On:=SpI Tryz.func156 (by kernel_rfl)
theorem eB:au Tryz.prog Hl = true:=by kernel_rfl
abbrev He:FuncId:=157
def sT:AC:=
(GE [wt 4 0] [0,1]
(.seq (GE [mV 7 1,
mV 8 7,
ge 9 8 0,
⟨some 10,(some (8,true)), .bin .eql (.t 9) (.c (.str ⟨#[45]⟩))⟩,
oP 11 (.pick (.t 8) (.t 10) (.c (.bool false)))] [0,11]
(.cond (.t 11)
(GE [wt 4 (-1)] [4]
.ret)
.skip))
(GE [mV 13 0,
mt 14 188 rt [.t 13],
mV 12 14,
ww 15 12 0,
ww 16 12 1,
mV 5 15,
mV 6 16] [5,6]
(GE [mV 17 6,
oP 18 (.isnil false (.t 17)),
mV 19 18,
ge 20 19 5,
gT 21 19 (.bin .geq (.t 20) (cI 0)),
oP 22 (.pick (.t 19) (.t 21) (.c (.bool false))),
mt 23 100 rt [.t 22]] [5]
(GE [mV 24 5,
mV 4 24] [4]
.ret)))))
abbrev ME:RsT:=[(4,none)]
theorem Nk:SpF 25 He sT ME:=SpI Tryz.func157 (by kernel_rfl)
theorem o4:au Tryz.prog He = true:=by kernel_rfl
abbrev G2:FuncId:=159
def I1:AC:=
(GE [wt 4 0] [0,1]
(.seq (GE [wt 5 0] [0,1,5]
(.block 0
(.loop [0,1,5]
(.seq (GE [mV 6 5,
mV 7 0,
ut 8 7,
bi 9 6 8] [0,1,5,9]
(.cond (.t 9)
.skip
(.exit 0)))
(.seq (.block 1
(GE [mV 12 0,
mV 13 5,
ul 14 1 12 13,
ol 15 14,
mV 16 1,
ce 17 15 16] [0,1,5,17]
(.cond (.t 17)
(GE [mV 18 5,
mV 4 18] [4]
.ret)
.skip)))
(.reg [mV 10 5,
pu 11 10 1,
mV 5 11] [0,1,5]))))))
(GE [wt 4 (-1)] [4]
.ret)))
abbrev LB:RsT:=[(4,none)]
theorem Oq:SpF 19 G2 I1 LB:=SpI Tryz.func159 (by kernel_rfl)
theorem NH:au Tryz.prog G2 = true:=by kernel_rfl
abbrev GO:FuncId:=160
def Jw:AC:=
(GE [wt 4 0] [0,1]
(.seq (GE [mV 6 0,
ut 7 6,
wt 8 0] [0,1,7,8]
(.block 0
(.loop [0,1,7,8]
(GE [bi 9 8 7] [0,1,7,8,9]
(.seq (.cond (.t 9)
.skip
(.exit 0))
(.seq (.block 1
(GE [mV 10 8,
mV 5 10] [0,1,5,7,8]
(GE [mV 11 1,
mV 12 0,
mV 13 5,
ul 14 1 12 13,
ol 15 14,
oP 16 (.call (.t 11) rt [.t 15])] [0,1,5,7,8,16]
(.cond (.t 16)
(GE [mV 17 5,
mV 4 17] [4]
.ret)
.skip))))
(.reg [pu 18 8 1,
mV 8 18] [0,1,7,8])))))))
(GE [wt 4 (-1)] [4]
.ret)))
abbrev N7:RsT:=[(4,none)]
theorem LA:SpF 19 GO Jw N7:=SpI Tryz.func160 (by kernel_rfl)
theorem Ly:au Tryz.prog GO = true:=by kernel_rfl
abbrev Gc:FuncId:=161
def Jz:AC:=
(GE [wt 4 0] [0,1]
(.seq (GE [mV 6 0,
ut 7 6,
wt 8 0] [0,1,7,8]
(.block 0
(.loop [0,1,7,8]
(GE [bi 9 8 7] [0,1,7,8,9]
(.seq (.cond (.t 9)
.skip
(.exit 0))
(.seq (.block 1
(GE [mV 10 8,
mV 5 10] [0,1,5,7,8]
(GE [mV 11 1,
mV 12 0,
mV 13 5,
ul 14 1 12 13,
ol 15 14,
ce 16 11 15] [0,1,5,7,8,16]
(.cond (.t 16)
(GE [mV 17 5,
mV 4 17] [4]
.ret)
.skip))))
(.reg [pu 18 8 1,
mV 8 18] [0,1,7,8])))))))
(GE [wt 4 (-1)] [4]
.ret)))
abbrev NP:RsT:=[(4,none)]
theorem LI:SpF 19 Gc Jz NP:=SpI Tryz.func161 (by kernel_rfl)
theorem Ai:au Tryz.prog Gc = true:=by kernel_rfl
abbrev Gv:FuncId:=162
def IS:AC:=
(GE [wt 6 0] [0,1,2]
(GE [oP 7 (.mv (.c (.bool false)))] [0,1,2,7]
(.seq (GE [wt 8 0] [0,1,2,7,8]
(.block 0
(.loop [0,1,2,7,8]
(.seq (GE [mV 9 8,
mV 10 0,
ut 11 10,
bi 12 9 11] [0,1,2,7,8,12]
(.cond (.t 12)
.skip
(.exit 0)))
(.seq (.block 1
(.seq (GE [mV 15 0,
mV 16 8,
ul 17 2 15 16,
wd 18 0 17,
ol 19 18,
mV 20 1,
mV 21 2,
mt 22 109 [false,false,false] [.t 19,.t 20,.t 21],
pl 23 22,
mV 24 23,
lc 25 24 0,
lc 26 24 8,
mp 27 24 2 25 26,
lw 28 24 1 27,
lm 29 24 28,
lc 30 24 1,
lc 31 24 2,
gF 32 24 (.call (.f 109) [false,false,false] [.t 29,.t 30,.t 31]),
gF 33 24 (.un .not (.t 32)),
oP 34 (.pick (.t 24) (.c (.bool true)) (.t 33))] [0,1,2,7,8,34]
(.cond (.t 34)
(GE [wt 6 7] [6]
.ret)
.skip))
(.dreg [mV 35 7,
mV 36 35,
lc 37 36 0,
lc 38 36 8,
mp 39 36 2 37 38,
lw 40 36 0 39,
lm 41 36 40,
lc 42 36 0,
lc 43 36 8,
mp 44 36 2 42 43,
lw 45 36 1 44,
lm 46 36 45,
gF 47 36 (.bin .gtr (.t 41) (.t 46)),
oP 48 (.pick (.t 36) (.c (.bool true)) (.t 47)),
mV 7 48] [0,1,2,7,8] [[],[0],[0,1],[0,1],GT 4,GT 5,GT 6,[0,1],[0,1],[0,1,7,8],[0,1,7,8,9],[0,1,7,8,9,10],GT 12,GT 13,GT 14])))
(.reg [mV 13 8,
pu 14 13 1,
mV 8 14] [0,1,2,7,8]))))))
(.seq (GE [mV 49 7] [49]
(.cond (.t 49)
(GE [wt 6 2] [6]
.ret)
.skip))
(GE [wt 6 0] [6]
.ret)))))
abbrev NO:RsT:=[(6,none)]
theorem ND:SpF 50 Gv IS NO:=SpI Tryz.func162 (by kernel_rfl)
theorem OA:au Tryz.prog Gv = true:=by kernel_rfl
abbrev Hg:FuncId:=163
def Fh:AC:=
(GE [wt 3 0] [0,1]
(.seq (GE [mV 4 0,
ci 5 4 (-1)] [0,1,5]
(.cond (.t 5)
(GE [ol 6 1,
mV 3 6] [3]
.ret)
.skip))
(GE [mV 7 0,
mV 3 7] [3]
.ret)))
abbrev Od:RsT:=[(3,none)]
theorem Mz:SpF 8 Hg Fh Od:=SpI Tryz.func163 (by kernel_rfl)
theorem Nz:au Tryz.prog Hg = true:=by kernel_rfl
abbrev Dy:FuncId:=164
def IE:AC:=
(GE [wt 3 0] [0,1]
(GE [ol 4 1,
mV 5 0,
ul 6 1 4 5,
ol 7 6,
oP 8 (.un .neg (.t 7)),
mV 3 8] [3]
.ret))
abbrev LG:RsT:=[(3,none)]
theorem M7:SpF 9 Dy IE LG:=SpI Tryz.func164 (by kernel_rfl)
theorem OF:au Tryz.prog Dy = true:=by kernel_rfl
abbrev ql:FuncId:=165
def IF:AC:=
(GE [jp 1 2 0,
wt 2 0] [1]
(GE [wd 3 0 1,
ol 4 3,
mV 2 4] [2]
.ret))
abbrev NK:RsT:=[(2,none)]
theorem M9:SpF 5 ql IF NK:=SpI Tryz.func165 (by kernel_rfl)
theorem JO:au Tryz.prog ql = true:=by kernel_rfl
abbrev rq:FuncId:=166
def Jk:AC:=
(GE [jp 1 2 0,
wt 2 0] [1]
(GE [wd 3 1 1,
ol 4 3,
mV 2 4] [2]
.ret))
abbrev NG:RsT:=[(2,none)]
theorem Nt:SpF 5 rq Jk NG:=SpI Tryz.func166 (by kernel_rfl)
theorem JA:au Tryz.prog rq = true:=by kernel_rfl
abbrev F0:FuncId:=167
def Jb:AC:=
(GE [wt 4 0] [0,1]
(.seq (GE [mV 6 0,
ut 7 6,
wt 8 0] [0,1,7,8]
(.block 0
(.loop [0,1,7,8]
(GE [bi 9 8 7] [0,1,7,8,9]
(.seq (.cond (.t 9)
.skip
(.exit 0))
(.seq (.block 1
(GE [mV 10 8,
mV 5 10] [0,1,5,7,8]
(GE [mV 11 1,
mV 12 0,
mV 13 5,
ul 14 4 12 13,
kw 15 4 14,
oP 16 (.call (.t 11) rt [.t 15])] [0,1,5,7,8,16]
(.cond (.t 16)
(GE [mV 17 5,
mV 4 17] [4]
.ret)
.skip))))
(.reg [pu 18 8 1,
mV 8 18] [0,1,7,8])))))))
(GE [wt 4 (-1)] [4]
.ret)))
abbrev MN:RsT:=[(4,none)]
theorem L5:SpF 19 F0 Jb MN:=SpI Tryz.func167 (by kernel_rfl)
theorem Jn:au Tryz.prog F0 = true:=by kernel_rfl
abbrev Dw:FuncId:=168
def JN:AC:=
(GE [jp 2 4 0,
oP 3 (.mv (.c (.bool false)))] [1,2]
(GE [wd 4 0 2,
ol 5 4,
wd 6 1 2,
ol 7 6,
oP 8 (.build Fd [(0,1,.t 5),(1,1,.t 7)]),
kw 9 2 1,
oP 10 (.eqa false [.i, .i] (.t 8) (.t 9)),
mV 3 10] [3]
.ret))
abbrev Oe:RsT:=[(3,none)]
theorem ML:SpF 11 Dw JN Oe:=SpI Tryz.func168 (by kernel_rfl)
theorem Ot:au Tryz.prog Dw = true:=by kernel_rfl
abbrev Hn:FuncId:=169
def IA:AC:=
(GE [wt 4 0] [0,1]
(.seq (GE [mV 6 0,
ut 7 6,
wt 8 0] [0,1,7,8]
(.block 0
(.loop [0,1,7,8]
(GE [bi 9 8 7] [0,1,7,8,9]
(.seq (.cond (.t 9)
.skip
(.exit 0))
(.seq (.block 1
(GE [mV 10 8,
mV 5 10] [0,1,5,7,8]
(GE [mV 11 1,
mV 12 0,
mV 13 5,
ul 14 1 12 13,
ol 15 14,
ce 16 11 15] [0,1,5,7,8,16]
(.cond (.t 16)
(GE [mV 17 5,
mV 4 17] [4]
.ret)
.skip))))
(.reg [pu 18 8 1,
mV 8 18] [0,1,7,8])))))))
(GE [wt 4 (-1)] [4]
.ret)))
abbrev Ov:RsT:=[(4,none)]
theorem MX:SpF 19 Hn IA Ov:=SpI Tryz.func169 (by kernel_rfl)
theorem Oa:au Tryz.prog Hn = true:=by kernel_rfl
abbrev Gz:FuncId:=170
def JJ:AC:=
(GE [oP 6 (.alloc Fd),
oP 7 (.mv (.c (.bool false)))] [0,1,2,6]
(.seq (GE [wt 8 0] [0,1,2,6,8]
(.block 0
(.loop [0,1,2,6,8]
(.seq (GE [mV 9 8,
mV 10 0,
ut 11 10,
bi 12 9 11] [0,1,2,6,8,12]
(.cond (.t 12)
.skip
(.exit 0)))
(.seq (.block 1
(GE [mV 15 0,
mV 16 8,
ul 17 4 15 16,
wd 18 0 17,
ol 19 18,
mV 20 1,
ce 21 19 20,
mV 22 21,
ge 23 22 0,
ge 24 22 8,
ip 25 22 4 23 24,
ii 26 22 1 25,
gt 27 22 26,
ge 28 22 2,
gT 29 22 (.bin .eql (.t 27) (.t 28)),
oP 30 (.pick (.t 22) (.t 29) (.c (.bool false)))] [0,1,2,6,8,30]
(.cond (.t 30)
(GE [mV 31 0,
mV 32 8,
ul 33 4 31 32,
wn 34 2 2 33,
kw 35 2 34,
qr 2 6 35,
oP 7 (.mv (.c (.bool true)))] [6,7]
.ret)
.skip)))
(.reg [mV 13 8,
pu 14 13 1,
mV 8 14] [0,1,2,6,8]))))))
(GE [oP 36 (.build Fd []),
qr 2 6 36,
oP 7 (.mv (.c (.bool false)))] [6,7]
.ret)))
abbrev LN:RsT:=[(6,some (some 2)),(7,none)]
theorem NL:SpF 37 Gz JJ LN:=SpI Tryz.func170 (by kernel_rfl)
theorem Df:au Tryz.prog Gz = true:=by kernel_rfl
abbrev G5:FuncId:=182
def Jf:AC:=
(GE [wt 5 0] [0,1,2]
(.seq (.dreg [ol 6 2,
pi 7 6,
wd 8 0 7,
ol 9 8,
mV 10 0,
ul 11 5 9 10,
wd 12 0 11,
ol 13 12,
ol 14 2,
pi 15 14,
wd 16 0 15,
ol 17 16,
mV 18 0,
ul 19 5 17 18,
wd 20 1 19,
ol 21 20,
pm 22 13 21,
mV 23 1,
nl 24 22 23,
mV 5 24] [5] [[],[0],[0,1],[0,1,2],[],GT 5,GT 6,GT 7,[],[8],[8,9],[8,9,10],[],[8,9,10,11,12],[8,9,10,11,12,13],[8,9,10,11,12,13,14],GT 16,[],GT 18,GT 19])
.ret))
abbrev NW:RsT:=[(5,none)]
theorem Oj:SpF 25 G5 Jf NW:=SpI Tryz.func182 (by kernel_rfl)
theorem Ds:au Tryz.prog G5 = true:=by kernel_rfl
abbrev GF:FuncId:=183
def GH:AC:=
(GE [jp 2 5 0,
wt 4 0] [1,2]
(.seq (GE [mV 5 1,
wd 6 0 2,
ol 7 6,
ce 8 5 7] [2,8]
(.cond (.t 8)
(GE [wd 9 3 2,
ol 10 9,
wd 11 4 2,
ol 12 11,
nl 13 10 12,
mV 4 13] [4]
.ret)
.skip))
(GE [wd 14 4 2,
ol 15 14,
wd 16 2 2,
ol 17 16,
nl 18 15 17,
mV 4 18] [4]
.ret)))
abbrev OB:RsT:=[(4,none)]
theorem Mj:SpF 19 GF GH OB:=SpI Tryz.func183 (by kernel_rfl)
theorem C3:au Tryz.prog GF = true:=by kernel_rfl
abbrev Ju:FuncId:=188
theorem xK:au Tryz.prog Ju = true:=by kernel_rfl
end Go.AM
