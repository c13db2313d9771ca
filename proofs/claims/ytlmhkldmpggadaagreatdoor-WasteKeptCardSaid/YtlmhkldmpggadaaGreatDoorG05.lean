/- MADE BY PROGRAM (gen.py): the abstract code of functions of this seat, each checked against the given code by the kernel. -/
import Derived.Test.YtlmhkldmpggadaaGreatDoorG05a
import Derived.Test.YtlmhkldmpggadaaGreatDoorChecked
import Derived.Test.YtlmhkldmpggadaaGreatDoorP23
import Derived.Test.YtlmhkldmpggadaaGreatDoorP24
namespace Go.AM
open Go.Proofs
abbrev HR:FuncId:=104
def Bd:AC:=
(ul [oR 2 0] [0]
(.seq (ul [mV 5 0,
oP 6 (.lenStr (.t 5)),
qv 7 109 [false,false,false] [.t 6,cI 1,cI 9],
kb 8 7,
mV 9 8,
ve 10 9 0,
gF 11 9 (.lenStr (.t 10)),
gF 12 9 (.bin .gtr (.t 11) (cI 1)),
ve 13 9 12,
wq 14 13 0,
gT 15 13 (.ixStr (.t 14) (cI 0)),
gT 16 13 (.bin .eql (.t 15) (.c (.int .u8 48))),
gF 17 9 (.pick (.t 13) (.t 16) (.c (.bool false))),
oP 18 (.pick (.t 9) (.c (.bool true)) (.t 17))] [0,18]
(.cond (.t 18)
(ul [oR 2 (-1)] [2]
.ret)
.skip))
(ul [oR 3 0] [0,3]
(.seq (ul [oR 4 0] [0,3,4]
(.block 0
(.loop [0,3,4]
(.seq (ul [mV 19 4,
mV 20 0,
oP 21 (.lenStr (.t 20)),
kN 22 19 21] [0,3,4,22]
(.cond (.t 22)
.skip
(.exit 0)))
(.seq (.block 1
(.seq (ul [mV 25 0,
mV 26 4,
oP 27 (.ixStr (.t 25) (.t 26)),
oP 28 (.bin .lss (.t 27) (.c (.int .u8 48))),
mV 29 28,
ve 30 29 0,
ve 31 29 4,
gF 32 29 (.ixStr (.t 30) (.t 31)),
gF 33 29 (.bin .gtr (.t 32) (.c (.int .u8 57))),
oP 34 (.pick (.t 29) (.c (.bool true)) (.t 33))] [0,3,4,34]
(.cond (.t 34)
(ul [oR 2 (-1)] [2]
.ret)
.skip))
(.reg [mV 35 3,
oP 36 (.bin .mul (cI 10) (.t 35)),
mV 37 0,
mV 38 4,
oP 39 (.ixStr (.t 37) (.t 38)),
oP 40 (.conv .i64 (.t 39)),
kj 41 36 40,
kL 42 41 48,
mV 3 42] [0,3,4])))
(.reg [mV 23 4,
kw 24 23 1,
mV 4 24] [0,3,4]))))))
(ul [mV 43 3,
mV 2 43] [2]
.ret)))))
abbrev Pw:RsT:=[(2,none)]
theorem Ot:SpF 44 HR Bd Pw:=SpI Tryz.func104 (by kernel_rfl)
theorem sG:au Tryz.prog HR = true:=by kernel_rfl
abbrev Hh:FuncId:=105
def Hu:AC:=
(ul [oR 4 0] [0,1]
(.seq (ul [mV 6 1,
⟨some 7,none, .bin .eql (.t 6) (.c (.str ⟨#[45]⟩))⟩] [0,1,7]
(.cond (.t 7)
(ul [oR 4 (-1)] [4]
.ret)
.skip))
(ul [mV 8 0,
mV 9 1,
qv 10 159 qK [.t 8,.t 9],
mV 5 10] [5]
(.seq (ul [mV 11 5,
kS 12 11 0] [5,12]
(.cond (.t 12)
(ul [oR 4 (-2)] [4]
.ret)
.skip))
(ul [mV 13 5,
mV 4 13] [4]
.ret)))))
abbrev Qf:RsT:=[(4,none)]
theorem PR:SpF 14 Hh Hu Qf:=SpI Tryz.func105 (by kernel_rfl)
theorem nM:au Tryz.prog Hh = true:=by kernel_rfl
abbrev Fp:FuncId:=106
def Mr:AC:=
(ul [oP 4 (.mv (.c (.bool false)))] [0,1]
(ul [mV 7 0,
zh 8 7,
mV 9 1,
zh 10 9,
kV 11 8 10,
mV 5 11] [0,1,5]
(.seq (ul [oR 6 0] [0,1,5,6]
(.block 0
(.loop [0,1,5,6]
(.seq (ul [mV 12 6,
mV 13 0,
zh 14 13,
kN 15 12 14,
mV 16 15,
wq 17 16 5,
oP 18 (.pick (.t 16) (.t 17) (.c (.bool false)))] [0,1,5,6,18]
(.cond (.t 18)
.skip
(.exit 0)))
(.seq (.block 1
(.dreg [mV 21 0,
mV 22 6,
xT 23 1 21 22,
oc 24 23,
mV 25 1,
mV 26 6,
xT 27 1 25 26,
oc 28 27,
kV 29 24 28,
mV 5 29] [0,1,5,6] [[],[],[0,1],[0,1,2],[],[],[4,5],[4,5,6],ut 8,ut 9]))
(.reg [mV 19 6,
kw 20 19 1,
mV 6 20] [0,1,5,6]))))))
(ul [mV 30 5,
mV 4 30] [4]
.ret))))
abbrev Pp:RsT:=[(4,none)]
theorem QK:SpF 31 Fp Mr Pp:=SpI Tryz.func106 (by kernel_rfl)
theorem Lu:au Tryz.prog Fp = true:=by kernel_rfl
abbrev Hl:FuncId:=107
def LX:AC:=
(ul [oP 4 (.mv (.c (.bool false)))] [0,1]
(ul [mV 7 0,
zh 8 7,
mV 9 1,
zh 10 9,
kV 11 8 10,
mV 5 11] [0,1,5]
(.seq (ul [oR 6 0] [0,1,5,6]
(.block 0
(.loop [0,1,5,6]
(.seq (ul [mV 12 6,
mV 13 0,
zh 14 13,
kN 15 12 14,
mV 16 15,
wq 17 16 5,
oP 18 (.pick (.t 16) (.t 17) (.c (.bool false)))] [0,1,5,6,18]
(.cond (.t 18)
.skip
(.exit 0)))
(.seq (.block 1
(.dreg [mV 21 0,
mV 22 6,
xT 23 4 21 22,
oe 24 4 23,
mV 25 1,
mV 26 6,
xT 27 4 25 26,
oe 28 4 27,
oP 29 (.eqa false [.i, .i, .i, .i] (.t 24) (.t 28)),
mV 5 29] [0,1,5,6] [[],[],[0,1],[0,1,2],[],[],[4,5],[4,5,6],ut 8,ut 9]))
(.reg [mV 19 6,
kw 20 19 1,
mV 6 20] [0,1,5,6]))))))
(ul [mV 30 5,
mV 4 30] [4]
.ret))))
abbrev RV:RsT:=[(4,none)]
theorem PY:SpF 31 Hl LX RV:=SpI Tryz.func107 (by kernel_rfl)
theorem L7:au Tryz.prog Hl = true:=by kernel_rfl
abbrev IA:FuncId:=109
def Mm:AC:=
(ul [oP 6 (.mv (.c (.bool false)))] [0,1,2]
(ul [mV 7 1,
mV 8 0,
oP 9 (.bin .leq (.t 7) (.t 8)),
mV 10 9,
wq 11 10 0,
wq 12 10 2,
gT 13 10 (.bin .leq (.t 11) (.t 12)),
oP 14 (.pick (.t 10) (.t 13) (.c (.bool false))),
mV 6 14] [6]
.ret))
abbrev Pz:RsT:=[(6,none)]
theorem Rt:SpF 15 IA Mm Pz:=SpI Tryz.func109 (by kernel_rfl)
theorem wX:au Tryz.prog IA = true:=by kernel_rfl
abbrev Ik:FuncId:=110
def Mu:AC:=
(ul [oP 4 (.mv (.c (.bool false)))] [0,1]
(ul [mV 5 0,
mV 6 1,
qv 7 160 qK [.t 5,.t 6],
wl 8 7 0,
mV 4 8] [4]
.ret))
abbrev OS:RsT:=[(4,none)]
theorem Ox:SpF 9 Ik Mu OS:=SpI Tryz.func110 (by kernel_rfl)
theorem Rz:au Tryz.prog Ik = true:=by kernel_rfl
abbrev HU:FuncId:=111
def Lv:AC:=
(ul [oP 4 (.mv (.c (.bool false)))] [0,1,2]
(ul [mV 5 0,
oc 6 1,
kN 7 5 6,
mV 8 7,
ve 9 8 0,
vG 10 8 2,
gF 11 8 (.bin .gtr (.t 9) (.t 10)),
oP 12 (.pick (.t 8) (.c (.bool true)) (.t 11)),
mV 4 12] [4]
.ret))
abbrev Rj:RsT:=[(4,none)]
theorem OU:SpF 13 HU Lv Rj:=SpI Tryz.func111 (by kernel_rfl)
theorem P4:au Tryz.prog HU = true:=by kernel_rfl
abbrev Fy:FuncId:=112
def LH:AC:=
(ul [oR 4 0,
oR 5 0] [0,1]
(.seq (ul [mV 8 0,
zh 9 8,
oR 10 0] [1,8,9,10]
(.block 0
(.loop [1,8,9,10]
(ul [kN 11 10 9] [1,8,9,10,11]
(.seq (.cond (.t 11)
.skip
(.exit 0))
(.seq (.block 1
(ul [mV 12 10,
xT 13 1 8 10,
oc 14 13,
mV 6 12,
mV 7 14] [1,6,7,8,9,10]
(ul [mV 15 1,
mV 16 6,
mV 17 7,
oP 18 (.call (.t 15) qO [.t 16,.t 17]),
mV 5 18] [1,5,6,8,9,10]
(ul [mV 19 5,
wh 20 19 0] [1,5,6,8,9,10,20]
(.cond (.t 20)
(ul [mV 21 6,
mV 22 5,
mV 4 21,
mV 5 22] [4,5]
.ret)
.skip)))))
(.reg [kw 23 10 1,
mV 10 23] [1,8,9,10])))))))
(ul [oR 4 0,
oR 5 0] [4,5]
.ret)))
abbrev Rk:RsT:=[(4,none),(5,none)]
theorem O2:SpF 24 Fy LH Rk:=SpI Tryz.func112 (by kernel_rfl)
theorem Oj:au Tryz.prog Fy = true:=by kernel_rfl
abbrev ES:FuncId:=113
def E4:AC:=
(ul [oR 5 0] [0,1,2]
(.seq (.block 0
(ul [mV 7 1,
qv 8 114 qF [.t 7],
kb 9 8,
mV 6 9] [0,1,2,6]
(.cond (.t 6)
(ul [oR 5 6] [5]
.ret)
(ul [oc 11 2,
mV 12 0,
oP 13 (.subq 1 (.t 11) none (some (.t 12))),
mV 14 1,
qv 15 115 qK [.t 13,.t 14],
mV 10 15] [10]
(.cond (.t 10)
(ul [oR 5 5] [5]
.ret)
.skip)))))
(ul [oR 5 0] [5]
.ret)))
abbrev RH:RsT:=[(5,none)]
theorem O7:SpF 16 ES E4 RH:=SpI Tryz.func113 (by kernel_rfl)
theorem RF:au Tryz.prog ES = true:=by kernel_rfl
abbrev Hm:FuncId:=114
def Mg:AC:=
(ul [oP 2 (.mv (.c (.bool false)))] [0]
(.seq (ul [mV 7 0,
oP 8 (.range (.t 7))] [0,8]
(.block 0
(.loop [0,8]
(ul [oP 9 (.next (.t 8)),
xr 10 9 0] [0,8,9,10]
(.seq (.cond (.t 10)
.skip
(.exit 0))
(.block 1
(ul [xr 11 9 1,
xr 12 9 2,
mV 3 11,
mV 4 12] [0,3,4,8]
(ul [mV 13 4,
oP 14 (.bin .geq (.t 13) (.c (.int .i32 97))),
mV 15 14,
wq 16 15 4,
gT 17 15 (.bin .leq (.t 16) (.c (.int .i32 122))),
oP 18 (.pick (.t 15) (.t 17) (.c (.bool false))),
mV 19 4,
oP 20 (.bin .geq (.t 19) (.c (.int .i32 48))),
mV 21 20,
wq 22 21 4,
gT 23 21 (.bin .leq (.t 22) (.c (.int .i32 57))),
oP 24 (.pick (.t 21) (.t 23) (.c (.bool false))),
mV 5 18,
mV 6 24] [0,3,5,6,8]
(ul [mV 25 5,
kb 26 25,
mV 27 26,
wq 28 27 6,
gT 29 27 (.un .not (.t 28)),
wq 30 27 29,
ve 31 30 3,
gF 32 30 (.bin .eql (.t 31) (cI 0)),
gT 33 27 (.pick (.t 30) (.c (.bool true)) (.t 32)),
oP 34 (.pick (.t 27) (.t 33) (.c (.bool false)))] [0,8,34]
(.cond (.t 34)
(ul [oP 2 (.mv (.c (.bool false)))] [2]
.ret)
.skip))))))))))
(ul [mV 35 0,
⟨some 36,none, .bin .neq (.t 35) (.c (.str ⟨#[]⟩))⟩,
mV 37 36,
wq 38 37 0,
gT 39 37 (.lenStr (.t 38)),
gT 40 37 (.bin .leq (.t 39) (cI 16)),
oP 41 (.pick (.t 37) (.t 40) (.c (.bool false))),
mV 2 41] [2]
.ret)))
abbrev Q4:RsT:=[(2,none)]
theorem RR:SpF 42 Hm Mg Q4:=SpI Tryz.func114 (by kernel_rfl)
theorem Ig:au Tryz.prog Hm = true:=by kernel_rfl
abbrev It:FuncId:=115
def LQ:AC:=
(ul [oP 4 (.mv (.c (.bool false)))] [0,1]
(ul [mV 5 0,
mV 6 1,
qv 7 161 qK [.t 5,.t 6],
wl 8 7 0,
mV 4 8] [4]
.ret))
abbrev OE:RsT:=[(4,none)]
theorem Qj:SpF 9 It LQ OE:=SpI Tryz.func115 (by kernel_rfl)
theorem LL:au Tryz.prog It = true:=by kernel_rfl
abbrev G9:FuncId:=116
def LB:AC:=
(ul [oR 4 0,
oR 5 0] [0,1]
(.seq (ul [mV 8 0,
zh 9 8,
oR 10 0] [1,8,9,10]
(.block 0
(.loop [1,8,9,10]
(ul [kN 11 10 9] [1,8,9,10,11]
(.seq (.cond (.t 11)
.skip
(.exit 0))
(.seq (.block 1
(ul [mV 12 10,
xT 13 4 8 10,
oe 14 4 13,
oP 7 (.alloc yF),
mV 6 12,
xx 4 7 14] [1,6,7,8,9,10]
(.frz 7 true (ul [mV 15 1,
mV 16 6,
oe 17 4 7,
oP 18 (.call (.t 15) qO [.t 16,.t 17]),
mV 5 18] [1,5,6,8,9,10]
(ul [mV 19 5,
wh 20 19 0] [1,5,6,8,9,10,20]
(.cond (.t 20)
(ul [mV 21 6,
mV 22 5,
mV 4 21,
mV 5 22] [4,5]
.ret)
.skip))))))
(.reg [kw 23 10 1,
mV 10 23] [1,8,9,10])))))))
(ul [oR 4 0,
oR 5 0] [4,5]
.ret)))
abbrev PQ:RsT:=[(4,none),(5,none)]
theorem P8:SpF 24 G9 LB PQ:=SpI Tryz.func116 (by kernel_rfl)
theorem Pl:au Tryz.prog G9 = true:=by kernel_rfl
abbrev Fq:FuncId:=117
def td:AC:=
(ul [zw 5 4 1,
oR 6 0] [2,3,5]
(.seq (.qreg [oc 7 2,
oI 8 0 5,
oc 9 8,
oI 10 1 5,
oc 11 10,
oP 12 (.build yH [(0,1,.t 9),(1,1,.t 11)]),
oP 13 (.lookup false (.int .i64 0) (.t 7) (.t 12)),
kw 14 13 1,
oP 15 (.ment (.int .i64 0) (.t 7) (.t 12)),
xr 16 15 1,
oN (.estore (.t 7) (.t 16) (.t 14))] [2,3,5] [[],[],[1],[],[3],[1,2,3,4],ut 6,ut 7,ut 6,[0,1,2,3,4,5,8],ut 10] [([0,1,2,3,4,5,6,7],8),([9],10)] [])
(.seq (.block 0
(ul [oK 18 5 0 3,
oI 19 0 18,
oc 20 19,
zh 21 20,
kL 22 21 1,
oI 23 0 5,
oc 24 23,
oP 25 (.lit 0 1 1 [(0,.t 24)]),
qv 26 53 [false,false,true] [cI 0,.t 22,.t 25],
mV 27 26,
gF 28 27 (.fieldAddr (some 5) 0 (.t 3)),
vS 29 27 1 28,
vG 30 27 29,
qr 31 27 30,
gF 32 27 (.bin .sub (.t 31) (cI 1)),
vS 33 27 1 5,
vG 34 27 33,
gF 35 27 (.lit 0 1 1 [(0,.t 34)]),
gF 36 27 (.call (.f 53) [false,false,true] [cI 0,.t 32,.t 35]),
oP 37 (.pick (.t 27) (.c (.bool true)) (.t 36)),
mV 17 37] [2,5,17]
(.cond (.t 17)
(ul [oR 6 4] [6]
.ret)
(ul [oc 39 2,
oI 40 0 5,
oc 41 40,
oI 42 1 5,
oc 43 42,
oP 44 (.build yH [(0,1,.t 41),(1,1,.t 43)]),
oP 45 (.mgetp false (.int .i64 0) (.t 39) (.t 44)),
wn 46 45 1,
mV 38 46] [5,38]
(.cond (.t 38)
(ul [oR 6 5] [6]
.ret)
(ul [oK 48 2 2 5,
oI 49 0 48,
oc 50 49,
oK 51 2 2 5,
oI 52 1 51,
oc 53 52,
oP 54 (.lit 0 1 2 [(0,.t 50),(1,.t 53)]),
qv 55 53 [false,false,true] [cI 0,cI 1000000,.t 54],
mV 47 55] [5,47]
(.cond (.t 47)
(ul [oR 6 7] [6]
.ret)
(ul [oK 57 2 2 5,
oI 58 0 57,
oc 59 58,
oK 60 2 2 5,
oI 61 1 60,
oc 62 61,
oP 63 (.bin .gtr (.t 59) (.t 62)),
mV 56 63] [56]
(.cond (.t 56)
(ul [oR 6 2] [6]
.ret)
.skip)))))))))
(ul [oR 6 0] [6]
.ret))))
abbrev PA:RsT:=[(6,none)]
theorem uv:SpF 64 Fq td PA:=SpI Tryz.func117 (by kernel_rfl)
theorem PW:au Tryz.prog Fq = true:=by kernel_rfl
abbrev H0:FuncId:=118
def Mn:AC:=
(ul [oR 4 0] [0,1]
(.seq (ul [mV 5 0,
qv 6 52 qF [.t 5],
kb 7 6] [0,1,7]
(.cond (.t 7)
(ul [oR 4 6] [4]
.ret)
.skip))
(.seq (ul [mV 8 1,
mV 9 0,
qv 10 159 qK [.t 8,.t 9],
wl 11 10 0] [11]
(.cond (.t 11)
(ul [oR 4 5] [4]
.ret)
.skip))
(ul [oR 4 0] [4]
.ret))))
abbrev Po:RsT:=[(4,none)]
theorem Pb:SpF 12 H0 Mn Po:=SpI Tryz.func118 (by kernel_rfl)
theorem LW:au Tryz.prog H0 = true:=by kernel_rfl
abbrev G8:FuncId:=119
def Lp:AC:=
(ul [zw 3 2 0,
oR 6 0] [1,2,3]
(ul [oe 7 2 3,
oP 8 (.lit 0 2 1 [(0,.t 7)]),
mV 9 1,
mV 10 2,
qv 11 162 [true,false,false] [.t 8,.t 9,.t 10],
mV 6 11] [6]
.ret))
abbrev PI:RsT:=[(6,none)]
theorem Q9:SpF 12 G8 Lp PI:=SpI Tryz.func119 (by kernel_rfl)
theorem Lm:au Tryz.prog G8 = true:=by kernel_rfl
abbrev Jd:FuncId:=120
def L8:AC:=
(ul [oR 4 0,
oR 5 0] [0,1]
(.seq (ul [mV 8 0,
zh 9 8,
oR 10 0] [1,8,9,10]
(.block 0
(.loop [1,8,9,10]
(ul [kN 11 10 9] [1,8,9,10,11]
(.seq (.cond (.t 11)
.skip
(.exit 0))
(.seq (.block 1
(ul [mV 12 10,
xT 13 1 8 10,
oc 14 13,
mV 6 12,
mV 7 14] [1,6,7,8,9,10]
(ul [mV 15 1,
mV 16 6,
mV 17 7,
oP 18 (.call (.t 15) qO [.t 16,.t 17]),
mV 5 18] [1,5,6,8,9,10]
(ul [mV 19 5,
wh 20 19 0] [1,5,6,8,9,10,20]
(.cond (.t 20)
(ul [mV 21 6,
mV 22 5,
mV 4 21,
mV 5 22] [4,5]
.ret)
.skip)))))
(.reg [kw 23 10 1,
mV 10 23] [1,8,9,10])))))))
(ul [oR 4 0,
oR 5 0] [4,5]
.ret)))
abbrev P5:RsT:=[(4,none),(5,none)]
theorem RN:SpF 24 Jd L8 P5:=SpI Tryz.func120 (by kernel_rfl)
theorem QG:au Tryz.prog Jd = true:=by kernel_rfl
abbrev Fi:FuncId:=121
def Bq:AC:=
(ul [oR 6 0] [0,1,2,3]
(.seq (.block 0
(ul [oK 8 5 0 2,
oI 9 3 8,
oc 10 9,
zh 11 10,
kL 12 11 1,
mV 13 1,
oP 14 (.lit 0 1 1 [(0,.t 13)]),
qv 15 53 [false,false,true] [cI 0,.t 12,.t 14],
mV 7 15] [0,1,3,7]
(.cond (.t 7)
(ul [oR 6 4] [6]
.ret)
(ul [mV 17 0,
wn 18 17 0,
mV 19 18,
wq 20 19 1,
wt 21 19 3,
wq 22 19 0,
gT 23 19 (.bin .sub (.t 22) (cI 1)),
wW 24 19 1 21 23,
wt 25 19 24,
gT 26 19 (.bin .leq (.t 20) (.t 25)),
oP 27 (.pick (.t 19) (.t 26) (.c (.bool false))),
mV 16 27] [16]
(.cond (.t 16)
(ul [oR 6 2] [6]
.ret)
.skip)))))
(ul [oR 6 0] [6]
.ret)))
abbrev Om:RsT:=[(6,none)]
theorem O5:SpF 28 Fi Bq Om:=SpI Tryz.func121 (by kernel_rfl)
theorem QI:au Tryz.prog Fi = true:=by kernel_rfl
abbrev I5:FuncId:=122
def L9:AC:=
(ul [zw 3 5 0,
oP 6 (.mv (.c .nilptr))] [1,2,3]
(ul [oK 19 5 0 3,
oI 20 1 19,
oc 21 20,
zh 22 21,
oP 7 (.alloc [.int .i64 0]),
xx 1 7 22] [1,2,3,7]
(.frz 7 false (ul [oc 23 7,
kw 24 23 1,
mV 8 24] [1,2,3,7,8]
(ul [mV 25 8,
kw 26 25 1,
oK 27 5 0 3,
oI 28 3 27,
oc 29 28,
zh 30 29,
oP 31 (.mksl 2 1 8 (.int .i64 0) (.t 30) (.t 30)),
oP 32 (.buildm [.mint 1005, .int .i64 0, .slice 1 [], .int .i64 0] [(1,1,.t 26),(2,1,.t 31)]),
oP 33 (.box 4 (.t 32)),
mV 9 33] [1,2,3,7,8,9]
(ul [oP 34 (.mkfunc (.func 163) [] [.t 7]),
mV 10 34] [1,2,3,7,8,9,10]
(.seq (ul [oK 35 5 0 3,
oI 36 1 35,
oc 37 36,
zh 38 37,
oR 39 0] [1,2,3,7,8,9,10,38,39]
(.block 0
(.loop [1,2,3,7,8,9,10,38,39]
(ul [kN 40 39 38] [1,2,3,7,8,9,10,38,39,40]
(.seq (.cond (.t 40)
.skip
(.exit 0))
(.seq (.block 1
(ul [mV 41 39,
mV 11 41] [1,2,3,7,8,9,10,11,38,39]
(ul [oK 43 5 0 3,
oI 44 2 43,
oc 45 44,
mV 46 1,
mV 47 11,
oP 48 (.build yH [(0,1,.t 46),(1,1,.t 47)]),
qv 49 126 qK [.t 45,.t 48],
mV 42 49,
xr 50 42 0,
xr 51 42 1,
oP 12 (.alloc yH),
xx 2 12 50,
mV 13 51] [1,2,3,7,8,9,10,11,12,38,39]
(.frz 12 true (ul [oK 53 5 0 3,
oI 54 4 53,
oc 55 54,
mV 56 1,
mV 57 11,
oP 58 (.build yH [(0,1,.t 56),(1,1,.t 57)]),
qv 59 126 qK [.t 55,.t 58],
mV 52 59,
xr 60 52 0,
xr 61 52 1,
oP 14 (.alloc yH),
xx 2 14 60,
mV 15 61] [1,2,3,7,8,9,10,11,12,14,15,38,39]
(.seq (ul [mV 62 15,
kb 63 62] [1,2,3,7,8,9,10,11,12,14,38,39,63]
(.cond (.t 63)
(.reg [oI 64 1 14,
oN (.store 1 (.t 64) (cI 1099511627776))] [1,2,3,7,8,9,10,11,12,14,38,39])
.skip))
(.dreg [mV 65 9,
mV 66 9,
ka 67 66,
oI 68 0 67,
oc 69 68,
mV 70 8,
mV 71 11,
oI 72 0 12,
oc 73 72,
oI 74 1 12,
oc 75 74,
oI 76 0 12,
oc 77 76,
oP 78 (.build yu [(0,1,.t 70),(1,1,.t 71),(2,1,.t 73),(3,1,.t 75),(4,1,.t 77)]),
mV 79 11,
mV 80 8,
oI 81 0 14,
oc 82 81,
oI 83 1 14,
oc 84 83,
oI 85 0 14,
oc 86 85,
oP 87 (.build yu [(0,1,.t 79),(1,1,.t 80),(2,1,.t 82),(3,1,.t 84),(4,1,.t 86)]),
oP 88 (.lit 0 5 2 [(0,.t 78),(1,.t 87)]),
oP 89 (.append 5 40 (.t 69) (.t 88)),
ka 90 65,
oI 91 0 90,
xx 1 91 89] [1,2,3,7,8,9,10,38,39] [[],[],[1],[1,2],[1,2,3],[],[],[],[7],[],[9],[],[11],[5,6,7,8,9,10,11,12],[],[],[],[16],[],[18],[],[20],[14,15,16,17,18,19,20,21],[5,6,7,8,9,10,11,12,13,14,15,16,17,18,19,20,21,22],[1,2,3,4,5,6,7,8,9,10,11,12,13,14,15,16,17,18,19,20,21,22,23],ut 25,ut 26,ut 27])))))))
(.reg [kw 92 39 1,
mV 39 92] [1,2,3,7,8,9,10,38,39])))))))
(.seq (ul [oK 93 5 0 3,
oI 94 3 93,
oc 95 94,
zh 96 95,
oR 97 0] [1,2,3,7,8,9,10,95,96,97]
(.block 2
(.loop [1,2,3,7,8,9,10,95,96,97]
(ul [kN 98 97 96] [1,2,3,7,8,9,10,95,96,97,98]
(.seq (.cond (.t 98)
.skip
(.exit 2))
(.seq (.block 3
(ul [mV 99 97,
xT 100 5 95 97,
oe 101 5 100,
oP 17 (.alloc yu),
mV 16 99,
xx 5 17 101] [1,2,3,7,8,9,10,16,17,95,96,97]
(.frz 17 true (.seq (ul [oI 102 0 17,
oc 103 102,
mV 104 1,
wd 105 103 104,
mV 106 105,
gF 107 106 (.load (some 5) (.t 3)),
ve 108 106 16,
gF 109 106 (.call (.f 127) qK [.t 107,.t 108]),
gF 110 106 (.un .not (.t 109)),
oP 111 (.pick (.t 106) (.c (.bool true)) (.t 110))] [1,2,3,7,8,9,10,16,17,95,96,97,111]
(.cond (.t 111)
(.exit 3)
.skip))
(.seq (.dreg [mV 112 9,
ka 113 112,
oI 114 2 113,
oc 115 114,
mV 116 16,
mV 117 9,
ka 118 117,
oI 119 0 118,
oc 120 119,
zh 121 120,
xT 122 1 115 116,
xx 1 122 121] [1,2,3,7,8,9,10,16,17,95,96,97] [[],[0],[0,1],[0,1,2],[],[],[5],[5,6],[5,6,7],[5,6,7,8],ut 10,ut 11])
(.seq (ul [oI 123 4 17,
oc 124 123,
wl 125 124 0] [1,2,3,7,8,9,10,16,17,95,96,97,125]
(.cond (.t 125)
(.dreg [mV 126 9,
ka 127 126,
oI 128 2 127,
oc 129 128,
oI 130 4 17,
oc 131 130,
mV 132 9,
ka 133 132,
oI 134 0 133,
oc 135 134,
zh 136 135,
xT 137 1 129 131,
xx 1 137 136] [1,2,3,7,8,9,10,16,17,95,96,97] [[],[0],[0,1],[0,1,2],[],[4],[],[6],[6,7],[6,7,8],[6,7,8,9],ut 11,ut 12])
.skip))
(ul [oe 138 5 3,
mV 139 16,
mV 140 2,
qv 141 128 [true,false,true] [.t 138,.t 139,.t 140],
oP 18 (.alloc yH),
xx 2 18 141] [1,2,3,7,8,9,10,17,18,95,96,97]
(.frz 18 true (.dreg [mV 142 9,
mV 143 9,
ka 144 143,
oI 145 0 144,
oc 146 145,
mV 147 10,
oI 148 1 17,
oc 149 148,
oP 150 (.call (.t 147) qF [.t 149]),
mV 151 10,
oI 152 2 17,
oc 153 152,
oP 154 (.call (.t 151) qF [.t 153]),
oI 155 0 18,
oc 156 155,
oI 157 1 18,
oc 158 157,
oI 159 0 18,
oc 160 159,
oP 161 (.build yu [(0,1,.t 150),(1,1,.t 154),(2,1,.t 156),(3,1,.t 158),(4,1,.t 160)]),
oP 162 (.lit 0 5 1 [(0,.t 161)]),
oP 163 (.append 5 40 (.t 146) (.t 162)),
ka 164 142,
oI 165 0 164,
xx 1 165 163] [1,2,3,7,8,9,10,95,96,97] [[],[],[1],[1,2],[1,2,3],[],[],[6],[5,6,7],[],[],[10],[5,6,7,8,9,10,11],[],[13],[],[15],[],[17],[5,6,7,8,9,10,11,12,13,14,15,16,17,18],[5,6,7,8,9,10,11,12,13,14,15,16,17,18,19],[1,2,3,4,5,6,7,8,9,10,11,12,13,14,15,16,17,18,19,20],ut 22,ut 23,ut 24])))))))))
(.reg [kw 166 97 1,
mV 97 166] [1,2,3,7,8,9,10,95,96,97])))))))
(ul [mV 167 9,
mV 168 9,
ka 169 168,
oI 170 0 169,
oc 171 170,
zh 172 171,
ka 173 167,
oI 174 3 173,
xx 1 174 172] [7,8,9]
(.seq (.dreg [mV 175 9,
mV 176 9,
ka 177 176,
oI 178 0 177,
oc 179 178,
oc 180 7,
mV 181 8,
oP 182 (.build yu [(0,1,.t 180),(1,1,.t 181),(2,1,cI (-1099511627776)),(3,1,cI 1099511627776),(4,1,cI 0)]),
oP 183 (.lit 0 5 1 [(0,.t 182)]),
oP 184 (.append 5 40 (.t 179) (.t 183)),
ka 185 175,
oI 186 0 185,
xx 1 186 184] [9] [[],[],[1],[1,2],[1,2,3],[],[],[5,6],[5,6,7],[1,2,3,4,5,6,7,8],ut 10,ut 11,ut 12])
(ul [mV 187 9,
mV 6 187] [6]
.ret)))))))))))
abbrev RB:RsT:=[(6,none)]
theorem Ry:SpF 188 I5 L9 RB:=SpI Tryz.func122 (by kernel_rfl)
theorem LD:au Tryz.prog I5 = true:=by kernel_rfl
abbrev Hs:FuncId:=123
def LJ:AC:=
(ul [oP 2 (.mv (.c (.bool false)))] [0]
(ul [mV 9 0,
ka 10 9,
oI 11 1 10,
oc 12 11,
oP 13 (.mksl 2 1 8 (.int .i64 0) (.t 12) (.t 12)),
oP 3 (.alloc [.slice 1 []]),
xx 1 3 13] [0,3]
(.frz 3 false (.seq (ul [mV 14 0,
ka 15 14,
oI 16 0 15,
oc 17 16,
zh 18 17,
oR 19 0] [0,3,17,18,19]
(.block 0
(.loop [0,3,17,18,19]
(ul [kN 20 19 18] [0,3,17,18,19,20]
(.seq (.cond (.t 20)
.skip
(.exit 0))
(.seq (.block 1
(ul [xT 21 5 17 19,
oe 22 5 21,
oP 5 (.alloc yu),
xx 5 5 22] [0,3,5,17,18,19]
(.frz 5 true (.seq (.dreg [oc 23 3,
oI 24 0 5,
oc 25 24,
xT 26 1 23 25,
oc 27 26,
oI 28 4 5,
oc 29 28,
kD 30 27 29,
xT 31 1 23 25,
xx 1 31 30] [0,3,5,17,18,19] [[],[],[1],[0,1,2],ut 4,[],[5],ut 7,ut 8,ut 9])
(.dreg [oc 32 3,
oI 33 1 5,
oc 34 33,
xT 35 1 32 34,
oc 36 35,
oI 37 4 5,
oc 38 37,
kj 39 36 38,
xT 40 1 32 34,
xx 1 40 39] [0,3,17,18,19] [[],[],[1],[0,1,2],ut 4,[],[5],ut 7,ut 8,ut 9])))))
(.reg [kw 41 19 1,
mV 19 41] [0,3,17,18,19])))))))
(.seq (ul [oc 42 3,
zh 43 42,
oR 44 0] [0,3,43,44]
(.block 2
(.loop [0,3,43,44]
(ul [kN 45 44 43] [0,3,43,44,45]
(.seq (.cond (.t 45)
.skip
(.exit 2))
(.seq (.block 3
(ul [mV 46 44,
mV 6 46] [0,3,6,43,44]
(.block 4
(.loop [0,3,6,43,44]
(.seq (ul [oc 47 3,
mV 48 6,
xT 49 1 47 48,
oc 50 49,
wn 51 50 0] [0,3,6,43,44,51]
(.cond (.t 51)
.skip
(.exit 4)))
(.block 5
(ul [mV 53 0,
mV 54 6,
oc 55 3,
mV 56 6,
xT 57 1 55 56,
oc 58 57,
oP 59 (.mkfunc (.func 164) [] [.t 3]),
qv 60 140 [false,false,false,false,false] [.t 53,.t 54,.t 58,cI (-1),.t 59],
mV 52 60,
xr 61 52 0,
xr 62 52 1,
mV 7 61,
mV 8 62] [0,3,6,7,8,43,44]
(.seq (ul [mV 63 7,
wb 64 63 0] [0,3,6,7,8,43,44,64]
(.cond (.t 64)
(ul [oP 2 (.mv (.c (.bool false)))] [2]
.ret)
.skip))
(ul [oc 65 3,
mV 66 6,
xT 67 1 65 66,
oc 68 67,
mV 69 7,
kD 70 68 69,
xT 71 1 65 66,
xx 1 71 70] [0,3,6,7,8,43,44]
(.reg [oc 72 3,
mV 73 8,
xT 74 1 72 73,
oc 75 74,
mV 76 7,
kj 77 75 76,
xT 78 1 72 73,
xx 1 78 77] [0,3,6,43,44]))))))))))
(.reg [kw 79 44 1,
mV 44 79] [0,3,43,44])))))))
(ul [oP 2 (.mv (.c (.bool true)))] [2]
.ret))))))
abbrev Ro:RsT:=[(2,none)]
theorem R9:SpF 80 Hs LJ Ro:=SpI Tryz.func123 (by kernel_rfl)
theorem Mf:au Tryz.prog Hs = true:=by kernel_rfl
abbrev zk:FuncId:=124
def Ht:AC:=
(ul [oP 3 (.mv (.c (.bool false)))] [0,1]
(ul [mV 4 0,
wl 5 4 0,
mV 6 5,
wt 7 6 1,
wq 8 6 0,
gT 9 6 (.bin .shr (.t 7) (.t 8)),
gT 10 6 (.bin .and (.t 9) (cI 1)),
wx 11 6 10 1,
oP 12 (.pick (.t 6) (.t 11) (.c (.bool false))),
mV 3 12] [3]
.ret))
abbrev PF:RsT:=[(3,none)]
theorem Pg:SpF 13 zk Ht PF:=SpI Tryz.func124 (by kernel_rfl)
theorem l7:au Tryz.prog zk = true:=by kernel_rfl
abbrev HC:FuncId:=125
def Ml:AC:=
(ul [oP 0 (.alloc [.nilfunc, .nilfunc, .nilfunc, .nilfunc])] [0]
(ul [oP 1 (.mv (.f 165)),
oP 2 (.mv (.f 166))] [0,1,2]
(ul [mV 3 1,
mV 4 2,
oP 5 (.build [.nilfunc, .nilfunc] [(0,1,.t 3),(1,1,.t 4)]),
mV 6 2,
mV 7 1,
oP 8 (.build [.nilfunc, .nilfunc] [(0,1,.t 6),(1,1,.t 7)]),
oP 9 (.build [.nilfunc, .nilfunc, .nilfunc, .nilfunc] [(0,2,.t 5),(2,2,.t 8)]),
xx 4 0 9] [0]
.ret)))
abbrev O8:RsT:=[(0,some (some 4))]
theorem QS:SpF 10 HC Ml O8:=SpI Tryz.func125 (by kernel_rfl)
theorem Rg:au Tryz.prog HC = true:=by kernel_rfl
abbrev Jz:FuncId:=126
def HJ:AC:=
(ul [zw 3 2 1,
oP 4 (.alloc yH),
oP 5 (.mv (.c (.bool false)))] [0,3,4]
(ul [mV 7 0,
oP 8 (.mkfunc (.func 168) [] [.t 3]),
qv 9 167 qK [.t 7,.t 8],
mV 6 9] [0,4,6]
(.seq (ul [mV 10 6,
kS 11 10 0] [0,4,6,11]
(.cond (.t 11)
(ul [oP 12 (.build yH []),
xx 2 4 12,
oP 5 (.mv (.c (.bool false)))] [4,5]
.ret)
.skip))
(ul [mV 13 0,
mV 14 6,
xT 15 4 13 14,
oK 16 2 2 15,
oe 17 2 16,
xx 2 4 17,
oP 5 (.mv (.c (.bool true)))] [4,5]
.ret))))
abbrev R7:RsT:=[(4,some (some 2)),(5,none)]
theorem Pm:SpF 18 Jz HJ R7:=SpI Tryz.func126 (by kernel_rfl)
theorem zL:au Tryz.prog Jz = true:=by kernel_rfl
abbrev JM:FuncId:=127
def LM:AC:=
(ul [zw 2 5 0,
oP 4 (.mv (.c (.bool false)))] [1,2]
(ul [oK 5 5 0 2,
oI 6 3 5,
oc 7 6,
mV 8 1,
xT 9 5 7 8,
oI 10 4 9,
oc 11 10,
kS 12 11 0,
mV 13 12,
ve 14 13 1,
gF 15 13 (.fieldAddr (some 5) 0 (.t 2)),
vS 16 13 3 15,
vG 17 13 16,
ve 18 13 1,
gF 19 13 (.ixS 5 (.t 17) (.t 18)),
vS 20 13 4 19,
vG 21 13 20,
gF 22 13 (.bin .lss (.t 14) (.t 21)),
oP 23 (.pick (.t 13) (.c (.bool true)) (.t 22)),
mV 4 23] [4]
.ret))
abbrev Q7:RsT:=[(4,none)]
theorem Sd:SpF 24 JM LM Q7:=SpI Tryz.func127 (by kernel_rfl)
theorem uW:au Tryz.prog JM = true:=by kernel_rfl
abbrev HG:FuncId:=128
def I8:AC:=
(ul [zw 3 5 0,
oP 6 (.alloc yH)] [1,2,3,6]
(ul [mV 11 1,
oP 12 (.lit 0 1 1 [(0,.t 11)]),
mV 7 12] [1,2,3,6,7]
(.seq (ul [oK 13 5 0 3,
oI 14 3 13,
oc 15 14,
mV 16 1,
xT 17 5 15 16,
oI 18 4 17,
oc 19 18,
mV 8 19] [1,2,3,6,7,8]
(ul [mV 20 8,
wl 21 20 0] [1,2,3,6,7,8,21]
(.cond (.t 21)
(.reg [mV 22 1,
mV 23 8,
oP 24 (.mn [.t 22,.t 23]),
mV 25 1,
mV 26 8,
oP 27 (.mx [.t 25,.t 26]),
oP 28 (.lit 0 1 2 [(0,.t 24),(1,.t 27)]),
mV 7 28] [2,3,6,7])
.skip)))
(.seq (ul [mV 29 7,
zh 30 29,
oR 31 0] [2,3,6,29,30,31]
(.block 0
(.loop [2,3,6,29,30,31]
(ul [kN 32 31 30] [2,3,6,29,30,31,32]
(.seq (.cond (.t 32)
.skip
(.exit 0))
(.seq (.block 1
(ul [xT 33 1 29 31,
oc 34 33,
mV 10 34] [2,3,6,10,29,30,31]
(ul [mV 35 2,
mV 36 10,
qv 37 130 qK [.t 35,.t 36],
kb 38 37] [2,3,6,10,29,30,31,38]
(.cond (.t 38)
(.seq (.dreg [oK 39 5 0 3,
oI 40 3 39,
oc 41 40,
mV 42 10,
xT 43 5 41 42,
oI 44 3 43,
oc 45 44,
oK 46 5 0 3,
oI 47 3 46,
oc 48 47,
mV 49 10,
xT 50 5 48 49,
oI 51 3 50,
oc 52 51,
oP 53 (.build yH [(0,1,.t 45),(1,1,.t 52)]),
xx 2 6 53] [6] [[],[0],[0,1],[],ut 4,ut 5,ut 6,[],[7],[7,8],[],[7,8,9,10],[7,8,9,10,11],[7,8,9,10,11,12],ut 14,ut 15])
.ret)
.skip))))
(.reg [kw 54 31 1,
mV 31 54] [2,3,6,29,30,31])))))))
(ul [oP 55 (.build yH [(1,1,cI 1000000)]),
xx 2 6 55] [6]
.ret)))))
abbrev P9:RsT:=[(6,some (some 2))]
theorem OQ:SpF 56 HG I8 P9:=SpI Tryz.func128 (by kernel_rfl)
theorem zd:au Tryz.prog HG = true:=by kernel_rfl
abbrev EE:FuncId:=130
def Mt:AC:=
(ul [oP 4 (.mv (.c (.bool false)))] [0,1]
(ul [mV 5 0,
mV 6 1,
qv 7 169 qK [.t 5,.t 6],
wl 8 7 0,
mV 4 8] [4]
.ret))
abbrev Qv:RsT:=[(4,none)]
theorem Ou:SpF 9 EE Mt Qv:=SpI Tryz.func130 (by kernel_rfl)
theorem EB:au Tryz.prog EE = true:=by kernel_rfl
abbrev IQ:FuncId:=133
def Lf:AC:=
(ul [zw 2 1 0] [1,2]
(ul [oP 3 (.alloc [.nilfunc])] [1,2,3]
(ul [oP 5 (.mkfunc (.func 134) [] [.t 2,.t 1,.t 3]),
xx 1 3 5] [1,3]
(ul [oK 6 5 0 1,
oI 7 3 6,
oc 8 7,
zh 9 8,
kw 10 9 1,
oR 11 0] [3,10,11]
(.block 0
(.loop [3,10,11]
(ul [kN 12 11 10] [3,10,11,12]
(.seq (.cond (.t 12)
.skip
(.exit 0))
(.seq (.block 1
(ul [mV 13 11,
mV 4 13] [3,4,10,11]
(ul [oc 14 3,
mV 15 4,
oP 16 (.call (.t 14) [true,false,false] [(.c (.slice 1 [])),cI 0,.t 15]),
kb 17 16] [3,10,11,17]
(.cond (.t 17)
.ret
.skip))))
(.reg [kw 18 11 1,
mV 11 18] [3,10,11]))))))))))
abbrev Pj:RsT:=[]
theorem Q2:SpF 19 IQ Lf Pj:=SpI Tryz.func133 (by kernel_rfl)
theorem La:au Tryz.prog IQ = true:=by kernel_rfl
abbrev HH:FuncId:=134
def IW:AC:=
(ul [oP 9 (.mv (.c (.bool false)))] [0,1,2,3,4,5]
(.seq (ul [mV 11 2,
wb 12 11 0] [0,1,2,3,4,5,12]
(.cond (.t 12)
(ul [oc 13 3,
mV 14 0,
oP 15 (.call (.t 13) qD [.t 14]),
mV 9 15] [9]
.ret)
.skip))
(.seq (ul [mV 16 1,
mV 10 16] [0,2,4,5,10]
(.block 0
(.loop [0,2,4,5,10]
(.seq (ul [mV 17 10,
oK 18 5 0 4,
oI 19 3 18,
oc 20 19,
zh 21 20,
mV 22 2,
kD 23 21 22,
oP 24 (.bin .leq (.t 17) (.t 23))] [0,2,4,5,10,24]
(.cond (.t 24)
.skip
(.exit 0)))
(.seq (.block 1
(.seq (.creg [oc 27 5,
mV 28 0,
qv 29 135 qD [.t 28],
mV 30 10,
oP 31 (.lit 0 1 1 [(0,.t 30)]),
oP 32 (.append 1 8 (.t 29) (.t 31)),
mV 33 10,
kw 34 33 1,
mV 35 2,
kL 36 35 1,
oP 37 (.call (.t 27) [true,false,false] [.t 32,.t 34,.t 36]),
kb 38 37] [0,2,4,5,10,38] [[],[],[1],[],[3],[1,2,3,4],[],[6],[],[8],ut 10,ut 11] [([0,1,3,4,6,7,8,9],2),([],5),([],10)] [11])
(.cond (.t 38)
(ul [oP 9 (.mv (.c (.bool false)))] [9]
.ret)
.skip)))
(.reg [mV 25 10,
kw 26 25 1,
mV 10 26] [0,2,4,5,10]))))))
(ul [oP 9 (.mv (.c (.bool true)))] [9]
.ret))))
abbrev Ow:RsT:=[(9,none)]
theorem Lw:SpF 39 HH IW Ow:=SpI Tryz.func134 (by kernel_rfl)
theorem LR:au Tryz.prog HH = true:=by kernel_rfl
abbrev II:FuncId:=135
def LS:AC:=
(ul [oP 2 (.mv (.c (.slice 1 [])))] [0]
(.seq (ul [mV 3 0,
oP 4 (.snil false (.t 3))] [0,4]
(.cond (.t 4)
(ul [oP 2 (.nilS 3 1)] [2]
.ret)
.skip))
(ul [oP 5 (.lit 1 1 0 []),
mV 6 0,
oP 7 (.append 1 8 (.t 5) (.t 6)),
mV 2 7] [2]
.ret)))
abbrev P2:RsT:=[(2,none)]
theorem RD:SpF 8 II LS P2:=SpI Tryz.func135 (by kernel_rfl)
theorem QU:au Tryz.prog II = true:=by kernel_rfl
abbrev Le:FuncId:=136
theorem Se:au Tryz.prog Le = true:=by kernel_rfl
abbrev CT:FuncId:=139
def Mi:AC:=
(ul [zw 6 1 1,
zw 7 1 2,
oR 8 0] [0,3,4,6,7]
(ul [oR 9 0] [0,3,4,6,7,9]
(.seq (.block 0
(.loop [0,3,4,6,7,9]
(.seq (ul [mV 12 9,
oc 13 7,
kN 14 12 13] [0,3,4,6,7,9,14]
(.cond (.t 14)
.skip
(.exit 0)))
(.block 1
(ul [oc 16 3,
mV 17 0,
oc 18 7,
mV 19 9,
kD 20 18 19,
oc 21 4,
oP 22 (.mkfunc (.func 141) [] [.t 6,.t 7]),
qv 23 140 [false,false,false,false,false] [.t 16,.t 17,.t 20,.t 21,.t 22],
mV 15 23,
xr 24 15 0,
xr 25 15 1,
mV 10 24,
mV 11 25] [0,3,4,6,7,9,10]
(.seq (ul [mV 26 10,
wb 27 26 0] [0,3,4,6,7,9,10,27]
(.cond (.t 27)
(.exit 0)
.skip))
(.reg [mV 28 9,
mV 29 10,
kj 30 28 29,
mV 9 30] [0,3,4,6,7,9])))))))
(ul [mV 31 9,
mV 8 31] [8]
.ret))))
abbrev OM:RsT:=[(8,none)]
theorem OV:SpF 32 CT Mi OM:=SpI Tryz.func139 (by kernel_rfl)
theorem Lb:au Tryz.prog CT = true:=by kernel_rfl
abbrev I7:FuncId:=140
def LI:AC:=
(ul [zw 5 1 0,
oR 10 0,
oR 11 0] [1,2,3,4,5]
(ul [oc 23 5,
ka 24 23,
oI 25 1 24,
oc 26 25,
oP 27 (.mksl 2 1 8 (.int .i64 0) (.t 26) (.t 26)),
mV 12 27] [1,2,3,4,5,12]
(ul [mV 28 12,
mV 29 1,
xT 30 1 28 29,
oN (.store 1 (.t 30) (cI (-1)))] [1,2,3,4,5,12]
(ul [oP 31 (.mkfunc (.func 182) [] [.t 5]),
mV 13 31] [1,2,3,4,5,12,13]
(.seq (ul [mV 32 1,
oP 33 (.lit 1 1 1 [(0,.t 32)]),
mV 14 33] [1,2,3,4,5,12,13,14]
(.block 0
(.loop [1,2,3,4,5,12,13,14]
(.seq (ul [mV 34 14,
zh 35 34,
wn 36 35 0] [1,2,3,4,5,12,13,14,36]
(.cond (.t 36)
.skip
(.exit 0)))
(.seq (.block 1
(ul [mV 39 14,
oP 40 (.ixS 1 (.t 39) (cI 0)),
oc 41 40,
mV 15 41] [1,2,3,4,5,12,13,14,15]
(.seq (ul [mV 42 15,
mV 43 1,
wd 44 42 43,
mV 45 44,
wq 46 45 4,
wq 47 45 15,
gT 48 45 (.call (.t 46) qF [.t 47]),
gT 49 45 (.bin .gtr (.t 48) (cI 0)),
oP 50 (.pick (.t 45) (.t 49) (.c (.bool false)))] [1,2,3,4,5,12,13,14,15,50]
(.cond (.t 50)
(ul [mV 51 2,
mV 52 4,
mV 53 15,
oP 54 (.call (.t 52) qF [.t 53]),
oP 55 (.mn [.t 51,.t 54]),
mV 10 55] [1,5,10,12,13,15]
(.seq (ul [mV 56 15,
mV 16 56] [1,5,10,12,13,15,16]
(.block 2
(.loop [1,5,10,12,13,15,16]
(.seq (ul [mV 57 16,
mV 58 1,
wd 59 57 58] [1,5,10,12,13,15,16,59]
(.cond (.t 59)
.skip
(.exit 2)))
(.seq (.block 3
(ul [mV 68 12,
mV 69 16,
xT 70 1 68 69,
oc 71 70,
kL 72 71 1,
mV 17 72] [1,5,10,12,13,15,16,17]
(.dreg [mV 73 10,
oc 74 5,
ka 75 74,
oI 76 0 75,
oc 77 76,
mV 78 17,
xT 79 5 77 78,
oe 80 5 79,
mV 81 13,
mV 82 17,
mV 83 16,
oP 84 (.call (.t 81) qO [.t 82,.t 83]),
qv 85 183 qO [.t 80,.t 84],
oP 86 (.mn [.t 73,.t 85]),
mV 10 86] [1,5,10,12,13,15,16] [[],[],[1],[1,2],[1,2,3],[],[1,2,3,4,5],[1,2,3,4,5,6],[],[],[],[8,9,10],[1,2,3,4,5,6,7,8,9,10,11],ut 13,ut 14])))
(.reg [mV 60 13,
mV 61 12,
mV 62 16,
xT 63 1 61 62,
oc 64 63,
kL 65 64 1,
mV 66 16,
oP 67 (.call (.t 60) qO [.t 65,.t 66]),
mV 16 67] [1,5,10,12,13,15,16]))))))
(.seq (ul [mV 87 15,
mV 18 87] [1,5,10,12,13,15,18]
(.block 4
(.loop [1,5,10,12,13,15,18]
(.seq (ul [mV 88 18,
mV 89 1,
wd 90 88 89] [1,5,10,12,13,15,18,90]
(.cond (.t 90)
.skip
(.exit 4)))
(.block 5
(ul [mV 91 12,
mV 92 18,
xT 93 1 91 92,
oc 94 93,
kL 95 94 1,
mV 19 95] [1,5,10,12,13,15,18,19]
(ul [mV 96 13,
mV 97 19,
mV 98 18,
oP 99 (.call (.t 96) qO [.t 97,.t 98]),
mV 20 99] [1,5,10,12,13,15,19,20]
(.seq (ul [mV 100 20,
oc 101 5,
ka 102 101,
oI 103 0 102,
oc 104 103,
mV 105 19,
xT 106 5 104 105,
oI 107 0 106,
oc 108 107,
kV 109 100 108] [1,5,10,12,13,15,19,20,109]
(.cond (.t 109)
(.reg [oc 110 5,
ka 111 110,
oI 112 0 111,
oc 113 112,
mV 114 19,
xT 115 5 113 114,
oI 116 4 115,
oc 117 116,
mV 118 10,
kj 119 117 118,
xT 120 5 113 114,
oI 121 4 120,
xx 1 121 119] [1,5,10,12,13,15,20])
(.reg [oc 122 5,
ka 123 122,
oI 124 0 123,
oc 125 124,
mV 126 19,
xT 127 5 125 126,
oI 128 4 127,
oc 129 128,
mV 130 10,
kD 131 129 130,
xT 132 5 125 126,
oI 133 4 132,
xx 1 133 131] [1,5,10,12,13,15,20])))
(.reg [mV 134 20,
mV 18 134] [1,5,10,12,13,15,18])))))))))
(ul [mV 135 10,
mV 136 15,
mV 10 135,
mV 11 136] [10,11]
.ret))))
.skip))
(ul [oc 137 5,
ka 138 137,
oI 139 0 138,
oc 140 139,
zh 141 140,
oR 142 0] [1,2,3,4,5,12,13,14,15,140,141,142]
(.block 6
(.loop [1,2,3,4,5,12,13,14,15,140,141,142]
(ul [kN 143 142 141] [1,2,3,4,5,12,13,14,15,140,141,142,143]
(.seq (.cond (.t 143)
.skip
(.exit 6))
(.seq (.block 7
(ul [mV 144 142,
xT 145 5 140 142,
oe 146 5 145,
oP 22 (.alloc yu),
mV 21 144,
xx 5 22 146] [1,2,3,4,5,12,13,14,15,21,22,140,141,142]
(.frz 22 true (.seq (ul [mV 147 21,
mV 148 3,
kV 149 147 148,
mV 150 149,
ve 151 150 15,
vS 152 150 0 22,
vG 153 150 152,
gF 154 150 (.bin .neq (.t 151) (.t 153)),
ve 155 150 154,
wq 156 155 15,
ww 157 155 1 22,
wt 158 155 157,
gT 159 155 (.bin .neq (.t 156) (.t 158)),
gF 160 150 (.pick (.t 155) (.t 159) (.c (.bool false))),
oP 161 (.pick (.t 150) (.c (.bool true)) (.t 160)),
mV 162 161,
gF 163 162 (.load (some 5) (.t 22)),
ve 164 162 15,
gF 165 162 (.call (.f 183) qO [.t 163,.t 164]),
gF 166 162 (.bin .leq (.t 165) (cI 0)),
oP 167 (.pick (.t 162) (.c (.bool true)) (.t 166)),
mV 168 167,
ve 169 168 12,
ve 170 168 13,
ve 171 168 21,
ve 172 168 15,
gF 173 168 (.call (.t 170) qO [.t 171,.t 172]),
gF 174 168 (.ixS 1 (.t 169) (.t 173)),
vG 175 168 174,
gF 176 168 (.bin .neq (.t 175) (cI 0)),
oP 177 (.pick (.t 168) (.c (.bool true)) (.t 176))] [1,2,3,4,5,12,13,14,15,21,140,141,142,177]
(.cond (.t 177)
(.exit 7)
.skip))
(ul [mV 178 12,
mV 179 13,
mV 180 21,
mV 181 15,
oP 182 (.call (.t 179) qO [.t 180,.t 181]),
mV 183 21,
kw 184 183 1,
xT 185 1 178 182,
xx 1 185 184] [1,2,3,4,5,12,13,14,15,21,140,141,142]
(.reg [mV 186 14,
mV 187 13,
mV 188 21,
mV 189 15,
oP 190 (.call (.t 187) qO [.t 188,.t 189]),
oP 191 (.lit 0 1 1 [(0,.t 190)]),
oP 192 (.append 1 8 (.t 186) (.t 191)),
mV 14 192] [1,2,3,4,5,12,13,14,15,140,141,142]))))))
(.reg [kw 193 142 1,
mV 142 193] [1,2,3,4,5,12,13,14,15,140,141,142]))))))))))
(.reg [mV 37 14,
oP 38 (.subO 1 (.t 37) (cI 1)),
mV 14 38] [1,2,3,4,5,12,13,14]))))))
(ul [oR 10 0,
oR 11 0] [10,11]
.ret))))))
abbrev QD:RsT:=[(10,none),(11,none)]
theorem OJ:SpF 194 I7 LI QD:=SpI Tryz.func140 (by kernel_rfl)
theorem Ll:au Tryz.prog I7 = true:=by kernel_rfl
abbrev EX:FuncId:=141
def Jx:AC:=
(ul [oR 4 0] [0,1,2]
(.seq (ul [mV 5 0,
oc 6 1,
kV 7 5 6] [2,7]
(.cond (.t 7)
(ul [oc 8 2,
mV 4 8] [4]
.ret)
.skip))
(ul [oR 4 0] [4]
.ret)))
abbrev Sb:RsT:=[(4,none)]
theorem Qw:SpF 9 EX Jx Sb:=SpI Tryz.func141 (by kernel_rfl)
theorem QF:au Tryz.prog EX = true:=by kernel_rfl
abbrev Jy:FuncId:=143
def Ln:AC:=
(.reg [mV 3 0,
⟨some 4,none, .call (.f 145) qK [.t 3,(.c (.str ⟨#[32]⟩))]⟩,
⟨some 5,none, .bin .add (.t 4) (.c (.str ⟨#[10]⟩))⟩,
qv 6 144 qK [.t 1,.t 5]] [])
abbrev OO:RsT:=[]
theorem PE:SpF 7 Jy Ln OO:=SpI Tryz.func143 (by kernel_rfl)
theorem K8:au Tryz.prog Jy = true:=by kernel_rfl
abbrev LF:FuncId:=144
theorem RA:au Tryz.prog LF = true:=by kernel_rfl
abbrev Ma:FuncId:=145
theorem Q0:au Tryz.prog Ma = true:=by kernel_rfl
abbrev IP:FuncId:=146
def Mj:AC:=
(ul [mV 8 1,
zh 9 8,
oR 10 0] [0,2,3,8,9,10]
(.block 0
(.loop [0,2,3,8,9,10]
(ul [kN 11 10 9] [0,2,3,8,9,10,11]
(.seq (.cond (.t 11)
.skip
(.exit 0))
(.seq (.block 1
(ul [xT 12 4 8 10,
oe 13 4 12,
oP 7 (.alloc yF),
xx 4 7 13] [0,2,3,7,8,9,10]
(.frz 7 true (.creg [oc 14 2,
mV 15 0,
oK 16 5 0 3,
oI 17 0 16,
oc 18 17,
oI 19 0 7,
oc 20 19,
xT 21 1 18 20,
oc 22 21,
oK 23 5 0 3,
oI 24 1 23,
oc 25 24,
oI 26 1 7,
oc 27 26,
xT 28 1 25 27,
oc 29 28,
oK 30 2 2 7,
oI 31 0 30,
oc 32 31,
qv 33 147 qF [.t 32],
oK 34 2 2 7,
oI 35 1 34,
oc 36 35,
qv 37 147 qF [.t 36],
oP 38 (.lit 0 1 5 [(0,.t 15),(1,.t 22),(2,.t 29),(3,.t 33),(4,.t 37)]),
oP 39 (.call (.t 14) qD [.t 38])] [0,2,3,8,9,10] [[],[],[],[2],[2,3],[],[5],[2,3,4,5,6],[2,3,4,5,6,7],[],[9],[9,10],[],[12],[9,10,11,12,13],[9,10,11,12,13,14],[],[16],[16,17],[16,17,18],[],[20],[20,21],[16,17,18,19,20,21,22],[1,2,3,4,5,6,7,8,9,10,11,12,13,14,15,16,17,18,19,20,21,22,23],ut 25] [([0,1,2,3,4,5,6,7,8,9,10,11,12,13,14,15,16,17,18,19,20,21,22,23],24),([],25)] []))))
(.reg [kw 40 10 1,
mV 10 40] [0,2,3,8,9,10])))))))
abbrev RJ:RsT:=[]
theorem Pd:SpF 41 IP Mj RJ:=SpI Tryz.func146 (by kernel_rfl)
theorem RX:au Tryz.prog IP = true:=by kernel_rfl
abbrev Lc:FuncId:=147
theorem BI:au Tryz.prog Lc = true:=by kernel_rfl
abbrev Iu:FuncId:=148
def Jr:AC:=
(ul [⟨some 3,none, .mv (.c (.str ⟨#[]⟩))⟩] [0,1]
(.seq (ul [mV 4 0,
wb 5 4 (-1)] [0,1,5]
(.cond (.t 5)
(ul [⟨some 3,none, .mv (.c (.str ⟨#[45]⟩))⟩] [3]
.ret)
.skip))
(ul [oK 6 5 0 1,
oI 7 1 6,
oc 8 7,
mV 9 0,
xT 10 1 8 9,
oc 11 10,
mV 3 11] [3]
.ret)))
abbrev PB:RsT:=[(3,none)]
theorem PS:SpF 12 Iu Jr PB:=SpI Tryz.func148 (by kernel_rfl)
theorem Mb:au Tryz.prog Iu = true:=by kernel_rfl
abbrev PK:FuncId:=149
theorem OB:au Tryz.prog PK = true:=by kernel_rfl
abbrev ID:FuncId:=150
def Lk:AC:=
(ul [⟨some 4,none, .mv (.c (.str ⟨#[]⟩))⟩] [0,1]
(ul [mV 7 0,
mV 5 7] [1,5]
(.seq (ul [oR 6 0] [1,5,6]
(.block 0
(.loop [1,5,6]
(.seq (ul [mV 8 6,
mV 9 1,
zh 10 9,
kN 11 8 10] [1,5,6,11]
(.cond (.t 11)
.skip
(.exit 0)))
(.seq (.block 1
(.reg [mV 14 5,
⟨some 15,none, .bin .add (.t 14) (.c (.str ⟨#[32]⟩))⟩,
mV 16 1,
mV 17 6,
xT 18 1 16 17,
oc 19 18,
kj 20 15 19,
mV 5 20] [1,5,6]))
(.reg [mV 12 6,
kw 13 12 1,
mV 6 13] [1,5,6]))))))
(ul [mV 21 5,
⟨some 22,none, .bin .add (.t 21) (.c (.str ⟨#[10]⟩))⟩,
mV 4 22] [4]
.ret))))
abbrev Qr:RsT:=[(4,none)]
theorem PJ:SpF 23 ID Lk Qr:=SpI Tryz.func150 (by kernel_rfl)
theorem LA:au Tryz.prog ID = true:=by kernel_rfl
abbrev Hp:FuncId:=151
def Ly:AC:=
(ul [zw 3 5 0,
⟨some 6,none, .mv (.c (.str ⟨#[]⟩))⟩] [1,2,3]
(ul [⟨some 7,none, .mv (.c (.str ⟨#[]⟩))⟩] [1,2,3,7]
(.seq (ul [oR 8 0] [1,2,3,7,8]
(.block 0
(.loop [1,2,3,7,8]
(.seq (ul [mV 10 8,
mV 11 2,
zh 12 11,
kN 13 10 12] [1,2,3,7,8,13]
(.cond (.t 13)
.skip
(.exit 0)))
(.seq (.block 1
(ul [mV 16 2,
mV 17 8,
xT 18 4 16 17,
oe 19 4 18,
oP 9 (.alloc yF),
xx 4 9 19] [1,2,3,7,8,9]
(.frz 9 true (.dreg [mV 20 7,
mV 21 1,
kj 22 20 21,
⟨some 23,none, .bin .add (.t 22) (.c (.str ⟨#[32]⟩))⟩,
oI 24 0 3,
oc 25 24,
oI 26 0 9,
oc 27 26,
xT 28 1 25 27,
oc 29 28,
kj 30 23 29,
⟨some 31,none, .bin .add (.t 30) (.c (.str ⟨#[32]⟩))⟩,
oI 32 1 3,
oc 33 32,
oI 34 1 9,
oc 35 34,
xT 36 1 33 35,
oc 37 36,
kj 38 31 37,
⟨some 39,none, .bin .add (.t 38) (.c (.str ⟨#[32]⟩))⟩,
oK 40 2 2 9,
oI 41 0 40,
oc 42 41,
qv 43 152 qF [.t 42],
kj 44 39 43,
⟨some 45,none, .bin .add (.t 44) (.c (.str ⟨#[32]⟩))⟩,
oK 46 2 2 9,
oI 47 1 46,
oc 48 47,
qv 49 152 qF [.t 48],
kj 50 45 49,
⟨some 51,none, .bin .add (.t 50) (.c (.str ⟨#[10]⟩))⟩,
mV 7 51] [1,2,3,7,8] [[],[],[0,1],[0,1,2],[],[4],[],[6],[4,5,6,7],[4,5,6,7,8],ut 10,ut 11,[],[12],[],[14],[12,13,14,15],[12,13,14,15,16],ut 18,ut 19,[],[20],[20,21],[20,21,22],ut 24,ut 25,[],[26],[26,27],[20,21,22,23,26,27,28],ut 30,ut 31,ut 32]))))
(.reg [mV 14 8,
kw 15 14 1,
mV 8 15] [1,2,3,7,8]))))))
(ul [mV 52 7,
mV 6 52] [6]
.ret))))
abbrev Sa:RsT:=[(6,none)]
theorem ON:SpF 53 Hp Ly Sa:=SpI Tryz.func151 (by kernel_rfl)
theorem Mh:au Tryz.prog Hp = true:=by kernel_rfl
abbrev I2:FuncId:=152
def Lt:AC:=
(ul [⟨some 2,none, .mv (.c (.str ⟨#[]⟩))⟩] [0]
(.seq (ul [mV 4 0,
kS 5 4 0] [0,5]
(.cond (.t 5)
(ul [mV 6 0,
oP 7 (.un .neg (.t 6)),
qv 8 152 qF [.t 7],
⟨some 9,none, .bin .add (.c (.str ⟨#[45]⟩)) (.t 8)⟩,
mV 2 9] [2]
.ret)
.skip))
(ul [⟨some 3,none, .mv (.c (.str ⟨#[]⟩))⟩] [0,3]
(.block 0
(.loop [0,3]
(.block 1
(ul [mV 10 0,
oP 11 (.bin .rem (.t 10) (cI 10)),
oP 12 (.bin .add (cI 48) (.t 11)),
oP 13 (.conv .u8 (.t 12)),
oP 14 (.lit 0 1 1 [(0,.t 13)]),
oP 15 (.b2s (.t 14)),
mV 16 3,
kj 17 15 16,
mV 3 17] [0,3]
(ul [mV 18 0,
oP 19 (.bin .quo (.t 18) (cI 10)),
mV 0 19] [0,3]
(ul [mV 20 0,
wb 21 20 0] [0,3,21]
(.cond (.t 21)
(ul [mV 22 3,
mV 2 22] [2]
.ret)
.skip))))))))))
abbrev O9:RsT:=[(2,none)]
theorem PZ:SpF 23 I2 Lt O9:=SpI Tryz.func152 (by kernel_rfl)
theorem CG:au Tryz.prog I2 = true:=by kernel_rfl
abbrev HZ:FuncId:=153
def Ip:AC:=
(ul [zw 2 5 0,
⟨some 4,none, .mv (.c (.str ⟨#[]⟩))⟩] [1,2]
(.seq (ul [mV 5 1,
wb 6 5 (-1)] [1,2,6]
(.cond (.t 6)
(ul [⟨some 4,none, .mv (.c (.str ⟨#[45]⟩))⟩] [4]
.ret)
.skip))
(ul [oI 7 1 2,
oc 8 7,
mV 9 1,
xT 10 1 8 9,
oc 11 10,
mV 4 11] [4]
.ret)))
abbrev Pr:RsT:=[(4,none)]
theorem R6:SpF 12 HZ Ip Pr:=SpI Tryz.func153 (by kernel_rfl)
theorem EU:au Tryz.prog HZ = true:=by kernel_rfl
abbrev EP:FuncId:=155
def xw:AC:=
(ul [oP 2 (.alloc yF)] [0,1,2]
(ul [oc 3 0,
zh 4 3,
wb 5 4 5,
qv 6 100 qF [.t 5]] [0,1,2]
(.seq (.creg [oc 7 1,
ka 8 7,
oK 9 5 0 8,
oI 10 0 9,
oc 11 10,
oc 12 0,
oP 13 (.ixS 1 (.t 12) (cI 1)),
oc 14 13,
qv 15 156 [true,false,false] [.t 11,.t 14,(.c (.bool false))],
oc 16 1,
ka 17 16,
oK 18 5 0 17,
oI 19 1 18,
oc 20 19,
oc 21 0,
oP 22 (.ixS 1 (.t 21) (cI 2)),
oc 23 22,
qv 24 156 [true,false,false] [.t 20,.t 23,(.c (.bool false))],
oc 25 0,
oP 26 (.ixS 1 (.t 25) (cI 3)),
oc 27 26,
qv 28 157 qO [.t 27,(.c (.bool false))],
oc 29 0,
oP 30 (.ixS 1 (.t 29) (cI 4)),
oc 31 30,
qv 32 157 qO [.t 31,(.c (.bool false))],
oP 33 (.build yH [(0,1,.t 28),(1,1,.t 32)]),
oP 34 (.build yF [(0,1,.t 15),(1,1,.t 24),(2,2,.t 33)]),
xx 4 2 34] [2] [[],[0],[0,1],[0,1,2],ut 4,[],[5],[5,6],ut 8,[],[9],[9,10],[9,10,11],[9,10,11,12],[],[14],[14,15],ut 17,[],[18],[18,19],ut 21,[],[22],[22,23],ut 25,ut 26,ut 27,ut 28] [([0,1,2,3,4,5,6,7,9,10,11,12,13,14,15,16,18,19,20,22,23,24],8),([],17),([],21),([],25),([26,27],28)] [])
.ret)))
abbrev Qp:RsT:=[(2,some (some 4))]
theorem LN:SpF 35 EP xw Qp:=SpI Tryz.func155 (by kernel_rfl)
theorem EO:au Tryz.prog EP = true:=by kernel_rfl
abbrev HW:FuncId:=156
def BA:AC:=
(ul [oR 6 0] [0,1,2]
(ul [mV 8 0,
mV 9 1,
qv 10 161 qK [.t 8,.t 9],
mV 7 10] [1,2,7]
(ul [mV 11 7,
wl 12 11 0,
mV 13 12,
ve 14 13 2,
ve 15 13 14,
wq 16 15 1,
⟨some 17,(some (15,true)), .bin .eql (.t 16) (.c (.str ⟨#[45]⟩))⟩,
gF 18 13 (.pick (.t 15) (.t 17) (.c (.bool false))),
oP 19 (.pick (.t 13) (.c (.bool true)) (.t 18)),
qv 20 100 qF [.t 19]] [7]
(ul [mV 21 7,
mV 6 21] [6]
.ret))))
abbrev RZ:RsT:=[(6,none)]
theorem OK:SpF 22 HW BA RZ:=SpI Tryz.func156 (by kernel_rfl)
theorem fo:au Tryz.prog HW = true:=by kernel_rfl
abbrev Io:FuncId:=157
def um:AC:=
(ul [oR 4 0] [0,1]
(.seq (ul [mV 7 1,
mV 8 7,
wq 9 8 0,
⟨some 10,(some (8,true)), .bin .eql (.t 9) (.c (.str ⟨#[45]⟩))⟩,
oP 11 (.pick (.t 8) (.t 10) (.c (.bool false)))] [0,11]
(.cond (.t 11)
(ul [oR 4 (-1)] [4]
.ret)
.skip))
(ul [mV 13 0,
qv 14 188 qF [.t 13],
mV 12 14,
xr 15 12 0,
xr 16 12 1,
mV 5 15,
mV 6 16] [5,6]
(ul [mV 17 6,
oP 18 (.isnil false (.t 17)),
mV 19 18,
wq 20 19 5,
gT 21 19 (.bin .geq (.t 20) (cI 0)),
oP 22 (.pick (.t 19) (.t 21) (.c (.bool false))),
qv 23 100 qF [.t 22]] [5]
(ul [mV 24 5,
mV 4 24] [4]
.ret)))))
abbrev Oq:RsT:=[(4,none)]
theorem Q6:SpF 25 Io um Oq:=SpI Tryz.func157 (by kernel_rfl)
theorem qz:au Tryz.prog Io = true:=by kernel_rfl
abbrev Hn:FuncId:=159
def Mq:AC:=
(ul [oR 4 0] [0,1]
(.seq (ul [oR 5 0] [0,1,5]
(.block 0
(.loop [0,1,5]
(.seq (ul [mV 6 5,
mV 7 0,
zh 8 7,
kN 9 6 8] [0,1,5,9]
(.cond (.t 9)
.skip
(.exit 0)))
(.seq (.block 1
(ul [mV 12 0,
mV 13 5,
xT 14 1 12 13,
oc 15 14,
mV 16 1,
kV 17 15 16] [0,1,5,17]
(.cond (.t 17)
(ul [mV 18 5,
mV 4 18] [4]
.ret)
.skip)))
(.reg [mV 10 5,
kw 11 10 1,
mV 5 11] [0,1,5]))))))
(ul [oR 4 (-1)] [4]
.ret)))
abbrev RL:RsT:=[(4,none)]
theorem Qy:SpF 19 Hn Mq RL:=SpI Tryz.func159 (by kernel_rfl)
theorem LZ:au Tryz.prog Hn = true:=by kernel_rfl
abbrev IN:FuncId:=160
def Mo:AC:=
(ul [oR 4 0] [0,1]
(.seq (ul [mV 6 0,
zh 7 6,
oR 8 0] [0,1,7,8]
(.block 0
(.loop [0,1,7,8]
(ul [kN 9 8 7] [0,1,7,8,9]
(.seq (.cond (.t 9)
.skip
(.exit 0))
(.seq (.block 1
(ul [mV 10 8,
mV 5 10] [0,1,5,7,8]
(ul [mV 11 1,
mV 12 0,
mV 13 5,
xT 14 1 12 13,
oc 15 14,
oP 16 (.call (.t 11) qF [.t 15])] [0,1,5,7,8,16]
(.cond (.t 16)
(ul [mV 17 5,
mV 4 17] [4]
.ret)
.skip))))
(.reg [kw 18 8 1,
mV 8 18] [0,1,7,8])))))))
(ul [oR 4 (-1)] [4]
.ret)))
abbrev QX:RsT:=[(4,none)]
theorem PU:SpF 19 IN Mo QX:=SpI Tryz.func160 (by kernel_rfl)
theorem PC:au Tryz.prog IN = true:=by kernel_rfl
abbrev HF:FuncId:=161
def Lz:AC:=
(ul [oR 4 0] [0,1]
(.seq (ul [mV 6 0,
zh 7 6,
oR 8 0] [0,1,7,8]
(.block 0
(.loop [0,1,7,8]
(ul [kN 9 8 7] [0,1,7,8,9]
(.seq (.cond (.t 9)
.skip
(.exit 0))
(.seq (.block 1
(ul [mV 10 8,
mV 5 10] [0,1,5,7,8]
(ul [mV 11 1,
mV 12 0,
mV 13 5,
xT 14 1 12 13,
oc 15 14,
kV 16 11 15] [0,1,5,7,8,16]
(.cond (.t 16)
(ul [mV 17 5,
mV 4 17] [4]
.ret)
.skip))))
(.reg [kw 18 8 1,
mV 8 18] [0,1,7,8])))))))
(ul [oR 4 (-1)] [4]
.ret)))
abbrev R0:RsT:=[(4,none)]
theorem Q1:SpF 19 HF Lz R0:=SpI Tryz.func161 (by kernel_rfl)
theorem BJ:au Tryz.prog HF = true:=by kernel_rfl
abbrev Ic:FuncId:=162
def Mk:AC:=
(ul [oR 6 0] [0,1,2]
(ul [oP 7 (.mv (.c (.bool false)))] [0,1,2,7]
(.seq (ul [oR 8 0] [0,1,2,7,8]
(.block 0
(.loop [0,1,2,7,8]
(.seq (ul [mV 9 8,
mV 10 0,
zh 11 10,
kN 12 9 11] [0,1,2,7,8,12]
(.cond (.t 12)
.skip
(.exit 0)))
(.seq (.block 1
(.seq (ul [mV 15 0,
mV 16 8,
xT 17 2 15 16,
oI 18 0 17,
oc 19 18,
mV 20 1,
mV 21 2,
qv 22 109 [false,false,false] [.t 19,.t 20,.t 21],
kb 23 22,
mV 24 23,
ve 25 24 0,
ve 26 24 8,
gF 27 24 (.ixS 2 (.t 25) (.t 26)),
vS 28 24 1 27,
vG 29 24 28,
ve 30 24 1,
ve 31 24 2,
gF 32 24 (.call (.f 109) [false,false,false] [.t 29,.t 30,.t 31]),
gF 33 24 (.un .not (.t 32)),
oP 34 (.pick (.t 24) (.c (.bool true)) (.t 33))] [0,1,2,7,8,34]
(.cond (.t 34)
(ul [oR 6 7] [6]
.ret)
.skip))
(.dreg [mV 35 7,
mV 36 35,
ve 37 36 0,
ve 38 36 8,
gF 39 36 (.ixS 2 (.t 37) (.t 38)),
vS 40 36 0 39,
vG 41 36 40,
ve 42 36 0,
ve 43 36 8,
gF 44 36 (.ixS 2 (.t 42) (.t 43)),
vS 45 36 1 44,
vG 46 36 45,
gF 47 36 (.bin .gtr (.t 41) (.t 46)),
oP 48 (.pick (.t 36) (.c (.bool true)) (.t 47)),
mV 7 48] [0,1,2,7,8] [[],[0],[0,1],[0,1],ut 4,ut 5,ut 6,[0,1],[0,1],[0,1,7,8],[0,1,7,8,9],[0,1,7,8,9,10],ut 12,ut 13,ut 14])))
(.reg [mV 13 8,
kw 14 13 1,
mV 8 14] [0,1,2,7,8]))))))
(.seq (ul [mV 49 7] [49]
(.cond (.t 49)
(ul [oR 6 2] [6]
.ret)
.skip))
(ul [oR 6 0] [6]
.ret)))))
abbrev Rh:RsT:=[(6,none)]
theorem Pv:SpF 50 Ic Mk Rh:=SpI Tryz.func162 (by kernel_rfl)
theorem RQ:au Tryz.prog Ic = true:=by kernel_rfl
abbrev HD:FuncId:=163
def Hq:AC:=
(ul [oR 3 0] [0,1]
(.seq (ul [mV 4 0,
wb 5 4 (-1)] [0,1,5]
(.cond (.t 5)
(ul [oc 6 1,
mV 3 6] [3]
.ret)
.skip))
(ul [mV 7 0,
mV 3 7] [3]
.ret)))
abbrev Q8:RsT:=[(3,none)]
theorem Qh:SpF 8 HD Hq Q8:=SpI Tryz.func163 (by kernel_rfl)
theorem OC:au Tryz.prog HD = true:=by kernel_rfl
abbrev Ft:FuncId:=164
def L4:AC:=
(ul [oR 3 0] [0,1]
(ul [oc 4 1,
mV 5 0,
xT 6 1 4 5,
oc 7 6,
oP 8 (.un .neg (.t 7)),
mV 3 8] [3]
.ret))
abbrev Qc:RsT:=[(3,none)]
theorem PT:SpF 9 Ft L4 Qc:=SpI Tryz.func164 (by kernel_rfl)
theorem QZ:au Tryz.prog Ft = true:=by kernel_rfl
abbrev rL:FuncId:=165
def Lg:AC:=
(ul [zw 1 2 0,
oR 2 0] [1]
(ul [oI 3 0 1,
oc 4 3,
mV 2 4] [2]
.ret))
abbrev OL:RsT:=[(2,none)]
theorem Oo:SpF 5 rL Lg OL:=SpI Tryz.func165 (by kernel_rfl)
theorem Lx:au Tryz.prog rL = true:=by kernel_rfl
abbrev sC:FuncId:=166
def Me:AC:=
(ul [zw 1 2 0,
oR 2 0] [1]
(ul [oI 3 1 1,
oc 4 3,
mV 2 4] [2]
.ret))
abbrev P3:RsT:=[(2,none)]
theorem Pu:SpF 5 sC Me P3:=SpI Tryz.func166 (by kernel_rfl)
theorem K6:au Tryz.prog sC = true:=by kernel_rfl
abbrev Jk:FuncId:=167
def LU:AC:=
(ul [oR 4 0] [0,1]
(.seq (ul [mV 6 0,
zh 7 6,
oR 8 0] [0,1,7,8]
(.block 0
(.loop [0,1,7,8]
(ul [kN 9 8 7] [0,1,7,8,9]
(.seq (.cond (.t 9)
.skip
(.exit 0))
(.seq (.block 1
(ul [mV 10 8,
mV 5 10] [0,1,5,7,8]
(ul [mV 11 1,
mV 12 0,
mV 13 5,
xT 14 4 12 13,
oe 15 4 14,
oP 16 (.call (.t 11) qF [.t 15])] [0,1,5,7,8,16]
(.cond (.t 16)
(ul [mV 17 5,
mV 4 17] [4]
.ret)
.skip))))
(.reg [kw 18 8 1,
mV 8 18] [0,1,7,8])))))))
(ul [oR 4 (-1)] [4]
.ret)))
abbrev QN:RsT:=[(4,none)]
theorem OX:SpF 19 Jk LU QN:=SpI Tryz.func167 (by kernel_rfl)
theorem L6:au Tryz.prog Jk = true:=by kernel_rfl
abbrev EV:FuncId:=168
def Md:AC:=
(ul [zw 2 4 0,
oP 3 (.mv (.c (.bool false)))] [1,2]
(ul [oI 4 0 2,
oc 5 4,
oI 6 1 2,
oc 7 6,
oP 8 (.build yH [(0,1,.t 5),(1,1,.t 7)]),
oe 9 2 1,
oP 10 (.eqa false [.i, .i] (.t 8) (.t 9)),
mV 3 10] [3]
.ret))
abbrev Ph:RsT:=[(3,none)]
theorem P7:SpF 11 EV Md Ph:=SpI Tryz.func168 (by kernel_rfl)
theorem Ps:au Tryz.prog EV = true:=by kernel_rfl
abbrev HA:FuncId:=169
def Ls:AC:=
(ul [oR 4 0] [0,1]
(.seq (ul [mV 6 0,
zh 7 6,
oR 8 0] [0,1,7,8]
(.block 0
(.loop [0,1,7,8]
(ul [kN 9 8 7] [0,1,7,8,9]
(.seq (.cond (.t 9)
.skip
(.exit 0))
(.seq (.block 1
(ul [mV 10 8,
mV 5 10] [0,1,5,7,8]
(ul [mV 11 1,
mV 12 0,
mV 13 5,
xT 14 1 12 13,
oc 15 14,
kV 16 11 15] [0,1,5,7,8,16]
(.cond (.t 16)
(ul [mV 17 5,
mV 4 17] [4]
.ret)
.skip))))
(.reg [kw 18 8 1,
mV 8 18] [0,1,7,8])))))))
(ul [oR 4 (-1)] [4]
.ret)))
abbrev Ri:RsT:=[(4,none)]
theorem P6:SpF 19 HA Ls Ri:=SpI Tryz.func169 (by kernel_rfl)
theorem PG:au Tryz.prog HA = true:=by kernel_rfl
abbrev Hd:FuncId:=182
def Lq:AC:=
(ul [oR 5 0] [0,1,2]
(.seq (.dreg [oc 6 2,
ka 7 6,
oI 8 0 7,
oc 9 8,
mV 10 0,
xT 11 5 9 10,
oI 12 0 11,
oc 13 12,
oc 14 2,
ka 15 14,
oI 16 0 15,
oc 17 16,
mV 18 0,
xT 19 5 17 18,
oI 20 1 19,
oc 21 20,
kj 22 13 21,
mV 23 1,
kD 24 22 23,
mV 5 24] [5] [[],[0],[0,1],[0,1,2],[],ut 5,ut 6,ut 7,[],[8],[8,9],[8,9,10],[],[8,9,10,11,12],[8,9,10,11,12,13],[8,9,10,11,12,13,14],ut 16,[],ut 18,ut 19])
.ret))
abbrev RM:RsT:=[(5,none)]
theorem Pt:SpF 25 Hd Lq RM:=SpI Tryz.func182 (by kernel_rfl)
theorem ET:au Tryz.prog Hd = true:=by kernel_rfl
abbrev HX:FuncId:=183
def Hg:AC:=
(ul [zw 2 5 0,
oR 4 0] [1,2]
(.seq (ul [mV 5 1,
oI 6 0 2,
oc 7 6,
kV 8 5 7] [2,8]
(.cond (.t 8)
(ul [oI 9 3 2,
oc 10 9,
oI 11 4 2,
oc 12 11,
kD 13 10 12,
mV 4 13] [4]
.ret)
.skip))
(ul [oI 14 4 2,
oc 15 14,
oI 16 2 2,
oc 17 16,
kD 18 15 17,
mV 4 18] [4]
.ret)))
abbrev Rp:RsT:=[(4,none)]
theorem Og:SpF 19 HX Hg Rp:=SpI Tryz.func183 (by kernel_rfl)
theorem Fc:au Tryz.prog HX = true:=by kernel_rfl
abbrev Lr:FuncId:=188
theorem zG:au Tryz.prog Lr = true:=by kernel_rfl
end Go.AM
