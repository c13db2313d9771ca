/- MADE BY PROGRAM (gen.py): the abstract code of functions of this seat, each checked against the given code by the kernel. -/
import Derived.Test.YtmjfcbpgnmajpaaGreatDoorChecked
import Derived.Test.YtmjfcbpgnmajpaaGreatDoorG05a
import Derived.Test.YtmjfcbpgnmajpaaGreatDoorP13
namespace Go.AM
open Go.Proofs
abbrev Dx:FuncId:=113
def xW:AC:=
(.seq (.reg [oP 4 (.pbox 2 (.t 0)),
oP 6 (.box 14 (.t 2)),
oP 7 (.pbox 2 (.t 3)),
oP 8 (.alloc [.bool false, .bool false, .bool false, .bool false, .bool false, .bool false, .bool false, .bool false, .bool false, .bool false, .bool false, .bool false, .bool false, .bool false]),
oP 9 (.mv (.c (.bool false)))] [1,4,6,7,8])
(.seq (.seq (.dreg [oP 10 (.fieldAddr none 0 (.t 4)),
oP 11 (.load none (.t 10)),
oP 12 (.fieldAddr none 0 (.t 7)),
oP 13 (.load none (.t 12)),
oP 14 (.ixS 2 (.t 11) (.t 13)),
oP 15 (.fieldAddr none 1 (.t 14)),
oP 16 (.load none (.t 15)),
mV 17 16,
gF 18 17 (.fieldAddr none 0 (.t 7)),
gF 19 17 (.load none (.t 18)),
gF 20 17 (.fieldAddr (some 7) 7 (.t 6)),
gF 21 17 (.ixA 7 1 none (.t 20) (.t 19)),
gF 22 17 (.load none (.t 21)),
gF 23 17 (.fieldAddr none 1 (.t 7)),
gF 24 17 (.load none (.t 23)),
gF 25 17 (.eqb true (.t 22) (.t 24)),
oP 26 (.pick (.t 17) (.c (.bool true)) (.t 25))] [1,4,6,7,8,26] [[],[0],[],[2],[0,1,2,3],[0,1,2,3,4],[0,1,2,3,4,5],[0,1,2,3,4,5,6],[0,1,2,3,4,5,6,7],[0,1,2,3,4,5,6,7,8],[0,1,2,3,4,5,6,7],[0,1,2,3,4,5,6,7,8,9,10],[0,1,2,3,4,5,6,7,8,9,10,11],[0,1,2,3,4,5,6,7],[0,1,2,3,4,5,6,7,13],[0,1,2,3,4,5,6,7,8,9,10,11,12,13,14],[0,1,2,3,4,5,6,7,8,9,10,11,12,13,14,15]])
(.cond (.t 26)
(.seq (.reg [oP 27 (.load (some 14) (.t 6)),
oN (.store 14 (.t 8) (.t 27)),
oP 9 (.mv (.c (.bool false)))] [8,9])
.ret)
.skip))
(.seq (.reg [oP 28 (.fieldAddr none 0 (.t 7)),
oP 29 (.load none (.t 28)),
oP 30 (.fieldAddr none 1 (.t 7)),
oP 31 (.load none (.t 30)),
oP 32 (.un .not (.t 31)),
oP 33 (.fieldAddr (some 7) 7 (.t 6)),
oP 34 (.ixA 7 1 none (.t 33) (.t 29)),
oN (.store 1 (.t 34) (.t 32))] [1,4,6,7,8])
(.seq (.seq (.reg [oP 35 (.fieldAddr none 1 (.t 7)),
oP 36 (.load none (.t 35)),
oP 37 (.un .not (.t 36))] [1,4,6,7,8,37])
(.cond (.t 37)
(.reg [oP 38 (.fieldAddr none 0 (.t 7)),
oP 39 (.load none (.t 38)),
oP 40 (.fieldAddr (some 7) 0 (.t 6)),
oP 41 (.ixA 7 1 none (.t 40) (.t 39)),
oN (.store 1 (.t 41) (.c (.bool true)))] [1,4,6,8])
.skip))
(.seq (.reg [oP 42 (.load (some 2) (.t 4)),
mV 43 1,
oP 44 (.load (some 14) (.t 6)),
oP 45 (.call (.f 159) [true,true,false] [(.t 42),(.t 43),(.t 44)]),
oN (.store 14 (.t 8) (.t 45)),
oP 9 (.mv (.c (.bool true)))] [8,9])
.ret)))))
abbrev MY:RsT:=[(8,some (some 14)),(9,none)]
theorem Oz:SpF 46 Dx xW MY:=SpI Tryz.func113 (by kernel_rfl)
theorem Gj:ak Tryz.prog Dx = true:=by kernel_rfl
abbrev CI:FuncId:=114
def GA:AC:=
(.seq (.reg [oP 1 (.pbox 7 (.t 0)),
oP 2 (.mv (.c (.slice 1 [])))] [1])
(.seq (.reg [oP 3 (.nilS 1 1)] [1,3])
(.seq (.seq (.reg [oP 4 (.mv (cI 0))] [1,3,4])
(.block 0
(.loop [1,3,4]
(.seq (.seq (.reg [mV 5 4,
oP 6 (.bin .lss (.t 5) (cI 7))] [1,3,4,6])
(.cond (.t 6)
.skip
(.exit 0)))
(.seq (.block 1
(.seq (.reg [mV 9 4,
oP 10 (.ixA 7 1 none (.t 1) (.t 9)),
oP 11 (.load none (.t 10))] [1,3,4,11])
(.cond (.t 11)
(.reg [mV 12 3,
mV 13 4,
oP 14 (.lit 0 1 1 [(0,(.t 13))]),
oP 15 (.append 1 8 (.t 12) (.t 14)),
mV 3 15] [1,3,4])
.skip)))
(.reg [mV 7 4,
oP 8 (.bin .add (.t 7) (cI 1)),
mV 4 8] [1,3,4]))))))
(.seq (.reg [mV 16 3,
oP 2 (.mvd (.t 16))] [2])
.ret))))
abbrev Ls:RsT:=[(2,none)]
theorem LH:SpF 17 CI GA Ls:=SpI Tryz.func114 (by kernel_rfl)
theorem Hl:ak Tryz.prog CI = true:=by kernel_rfl
abbrev Cm:FuncId:=115
def FW:AC:=
(.seq (.reg [oP 2 (.pbox 11 (.t 0)),
oP 4 (.alloc [.slice 7 [], .int .i64 0, .int .i64 0])] [1,2,4])
(.seq (.reg [oP 7 (.fieldAddr (some 3) 1 (.t 2)),
oP 8 (.load (some 3) (.t 7)),
oP 5 (.alloc [.slice 7 [], .int .i64 0, .int .i64 0]),
oN (.store 3 (.t 5) (.t 8))] [1,2,4,5])
(.seq (.reg [oP 9 (.fieldAddr none 0 (.t 5)),
oN (.storem 7 (.t 9))] [1,2,4,5])
(.seq (.seq (.reg [oP 6 (.mv (cI 0))] [1,2,4,5,6])
(.block 0
(.loop [1,2,4,5,6]
(.seq (.seq (.reg [mV 10 6,
oP 11 (.fieldAddr (some 3) 1 (.t 2)),
oP 12 (.fieldAddr none 0 (.t 11)),
oP 13 (.load none (.t 12)),
oP 14 (.len (.t 13)),
oP 15 (.bin .lss (.t 10) (.t 14))] [1,2,4,5,6,15])
(.cond (.t 15)
.skip
(.exit 0)))
(.seq (.block 1
(.seq (.reg [mV 18 1,
mV 19 6,
oP 20 (.call (.f 116) [false,false] [(.t 18),(.t 19)])] [1,2,4,5,6,20])
(.cond (.t 20)
(.dreg [oP 21 (.fieldAddr none 0 (.t 5)),
oP 22 (.load none (.t 21)),
oP 23 (.fieldAddr (some 3) 1 (.t 2)),
oP 24 (.fieldAddr none 0 (.t 23)),
oP 25 (.load none (.t 24)),
mV 26 6,
oP 27 (.ixS 7 (.t 25) (.t 26)),
oP 28 (.load (some 7) (.t 27)),
oP 29 (.lit 0 7 1 [(0,(.t 28))]),
oP 30 (.append 7 64 (.t 22) (.t 29)),
oP 31 (.fieldAddr none 0 (.t 5)),
oN (.store 1 (.t 31) (.t 30))] [1,2,4,5,6] [[],[0],[],[2],[2,3],[],[2,3,4,5],[2,3,4,5,6],[2,3,4,5,6,7],[0,1,2,3,4,5,6,7,8],[0,1,2,3,4,5,6,7,8,9],[0,1,2,3,4,5,6,7,8,9,10]])
.skip)))
(.reg [mV 16 6,
oP 17 (.bin .add (.t 16) (cI 1)),
mV 6 17] [1,2,4,5,6]))))))
(.seq (.reg [oP 32 (.loadd (some 3) (.t 5)),
oN (.store 3 (.t 4) (.t 32))] [4])
.ret)))))
abbrev Jr:RsT:=[(4,some (some 3))]
theorem Li:SpF 33 Cm FW Jr:=SpI Tryz.func115 (by kernel_rfl)
theorem N7:ak Tryz.prog Cm = true:=by kernel_rfl
abbrev B8:FuncId:=116
def GF:AC:=
(.seq (.reg [oP 4 (.mv (.c (.bool false)))] [0,1])
(.seq (.reg [mV 5 0,
mV 6 1,
oP 7 (.call (.f 68) [false] [(.t 6)]),
oP 8 (.bin .quo (.t 5) (.t 7)),
oP 9 (.bin .rem (.t 8) (cI 2)),
oP 10 (.bin .eql (.t 9) (cI 1)),
mV 4 10] [4])
.ret))
abbrev Pq:RsT:=[(4,none)]
theorem Oc:SpF 11 B8 GF Pq:=SpI Tryz.func116 (by kernel_rfl)
theorem uE:ak Tryz.prog B8 = true:=by kernel_rfl
abbrev Dj:FuncId:=117
def GZ:AC:=
(.seq (.reg [oP 4 (.mv (cI 0))] [0,1])
(.seq (.seq (.reg [oP 5 (.mv (cI 0))] [0,1,5])
(.block 0
(.loop [0,1,5]
(.seq (.seq (.reg [mV 6 5,
mV 7 0,
oP 8 (.len (.t 7)),
oP 9 (.bin .lss (.t 6) (.t 8))] [0,1,5,9])
(.cond (.t 9)
.skip
(.exit 0)))
(.seq (.block 1
(.seq (.reg [mV 12 0,
mV 13 5,
oP 14 (.ixS 1 (.t 12) (.t 13)),
oP 15 (.load none (.t 14)),
mV 16 1,
oP 17 (.bin .eql (.t 15) (.t 16))] [0,1,5,17])
(.cond (.t 17)
(.seq (.reg [mV 18 5,
mV 4 18] [4])
.ret)
.skip)))
(.reg [mV 10 5,
oP 11 (.bin .add (.t 10) (cI 1)),
mV 5 11] [0,1,5]))))))
(.seq (.reg [oP 4 (.mv (cI (-1)))] [4])
.ret)))
abbrev L8:RsT:=[(4,none)]
theorem KH:SpF 19 Dj GZ L8:=SpI Tryz.func117 (by kernel_rfl)
theorem El:ak Tryz.prog Dj = true:=by kernel_rfl
abbrev gR:FuncId:=118
def GG:AC:=
(.seq (.reg [oP 3 (.pbox 1 (.t 0))] [1,2,3])
(.seq (.reg [oP 5 (.load none (.t 1)),
oP 6 (.call (.f 119) [false] [(.t 5)])] [1,2,3,6])
(.block 0
(.bF (.t 6) [7] (.reg [mV 4 7] [1,2,3,4])
(.block 1
(.seq (.qreg [oP 8 (.load none (.t 2)),
oP 9 (.load none (.t 1)),
mV 10 4,
oP 11 (.call (.f 73) [false,false,false] [(.t 8),(.t 9),(.t 10)]),
oP 12 (.bin .eql (.t 11) (cI 0)),
mV 13 12,
gT 14 13 (.load none (.t 3)),
gT 15 13 (.mv (.t 4)),
gT 16 13 (.load none (.t 1)),
gT 17 13 (.mv (.t 4)),
gT 18 13 (.bin .shl (cI 1) (.t 17)),
gT 19 13 (.bin .andNot (.t 16) (.t 18)),
gT 20 13 (.call (.t 14) [false,false] [(.t 15),(.t 19)]),
gT 21 13 (.un .not (.t 20)),
oP 22 (.pick (.t 13) (.t 21) (.c (.bool false)))] [22] [[],[],[],[0,1,2],[0,1,2,3],[0,1,2,3,4],[0,1,2,3,4,5],[0,1,2,3,4,5],[0,1,2,3,4,5],[0,1,2,3,4,5],[0,1,2,3,4,5,9],[0,1,2,3,4,5,8,9,10],[0,1,2,3,4,5,6,7,8,9,10,11],[0,1,2,3,4,5,6,7,8,9,10,11,12],[0,1,2,3,4,5,6,7,8,9,10,11,12,13]] [([0,1,2],3),([4,5,6,7,8,9,10,11],12)] [13,14])
(.cond (.t 22)
.ret
.skip)))))))
abbrev JJ:RsT:=[]
theorem OM:SpF 23 gR GG JJ:=SpI Tryz.func118 (by kernel_rfl)
theorem wZ:ak Tryz.prog gR = true:=by kernel_rfl
abbrev Co:FuncId:=119
def G3:AC:=
(.seq (.reg [oP 1 (.pbox 1 (.t 0)),
oP 2 (.mv (.c .nilfunc))] [1])
(.seq (.reg [oP 3 (.mkfunc (.func 160) [] [(.t 1)]),
mV 2 3] [2])
.ret))
abbrev JS:RsT:=[(2,none)]
theorem Ph:SpF 4 Co G3 JS:=SpI Tryz.func119 (by kernel_rfl)
theorem Gt:ak Tryz.prog Co = true:=by kernel_rfl
abbrev oA:FuncId:=120
def FO:AC:=
(.seq (.reg [oP 4 (.pbox 1 (.t 0)),
oP 5 (.mv (cI 0))] [1,2,3,4])
(.scope
(.seq (.reg [oP 11 (.load none (.t 1)),
oP 12 (.load none (.t 4)),
oP 13 (.mget true .i (.int .i64 0) (.t 11) (.t 12)),
mV 10 13,
oP 14 (.extract (.t 10) 0),
oP 15 (.extract (.t 10) 1),
oP 6 (.alloc [.int .i64 0]),
oN (.store 1 (.t 6) (.t 14)),
mV 7 15] [1,2,3,4,6,7])
(.seq (.seq (.reg [mV 16 7] [1,2,3,4,6,16])
(.cond (.t 16)
(.seq (.reg [oP 17 (.load none (.t 6)),
mV 5 17] [5])
.ret)
.skip))
(.seq (.label 0)
(.seq (.seq (.reg [oP 18 (.load none (.t 2)),
oP 19 (.load none (.t 4)),
oP 20 (.call (.f 61) [false,false] [(.t 18),(.t 19)])] [1,3,4,6,20])
(.block 0
(.bF (.t 20) [21,22] (.reg [mV 9 22] [1,3,4,6,9])
(.block 1
(.seq (.qreg [oP 23 (.load none (.t 6)),
oP 24 (.load none (.t 3)),
mV 25 9,
oP 26 (.call (.t 24) [false] [(.t 25)]),
oP 27 (.bin .add (cI 1) (.t 26)),
oP 28 (.mx [(.t 23),(.t 27)]),
oN (.store 1 (.t 6) (.t 28))] [1,4,6] [[],[],[],[1,2],[1,2,3],[0,1,2,3,4],[0,1,2,3,4,5]] [([0,1,2],3),([4,5],6)] [])
(.seq (.dreg [oP 29 (.load none (.t 6)),
oP 30 (.load none (.t 4)),
oP 31 (.conv .u64 (.t 30)),
oP 32 (.call (.f 121) [false] [(.t 31)]),
oP 33 (.bin .eql (.t 29) (.t 32))] [1,4,6,33] [[],[],[1],[1,2],[0,1,2,3]])
(.cond (.t 33)
(.exit 0)
.skip)))))))
(.seq (.reg [oP 34 (.load none (.t 1)),
oP 35 (.load none (.t 4)),
oP 36 (.load none (.t 6)),
oN (.j5 .i (.t 34) (.t 35) (.t 36))] [6])
(.seq (.reg [oP 37 (.load none (.t 6)),
mV 5 37] [5])
.ret))))))))
abbrev MU:RsT:=[(5,none)]
theorem OF:SpF 38 oA FO MU:=SpI Tryz.func120 (by kernel_rfl)
theorem Es:ak Tryz.prog oA = true:=by kernel_rfl
abbrev Er:FuncId:=121
def GN:AC:=
(.seq (.reg [oP 2 (.mv (cI 0))] [0])
(.seq (.cond (.c (.bool false))
(.seq (.reg [mV 3 0,
oP 4 (.conv .u32 (.t 3)),
oP 5 (.call (.f 162) [false] [(.t 4)]),
mV 2 5] [2])
.ret)
.skip)
(.seq (.reg [mV 6 0,
oP 7 (.call (.f 163) [false] [(.t 6)]),
mV 2 7] [2])
.ret)))
abbrev OH:RsT:=[(2,none)]
theorem Kf:SpF 8 Er GN OH:=SpI Tryz.func121 (by kernel_rfl)
theorem Hn:ak Tryz.prog Er = true:=by kernel_rfl
abbrev D2:FuncId:=122
def FZ:AC:=
(.seq (.reg [oP 4 (.mv (.c (.bool false)))] [0,1])
(.seq (.reg [mV 5 0,
mV 6 1,
oP 7 (.call (.f 164) [true,false] [(.t 5),(.t 6)]),
oP 8 (.bin .geq (.t 7) (cI 0)),
mV 4 8] [4])
.ret))
abbrev Nq:RsT:=[(4,none)]
theorem OL:SpF 9 D2 FZ Nq:=SpI Tryz.func122 (by kernel_rfl)
theorem DE:ak Tryz.prog D2 = true:=by kernel_rfl
abbrev At:FuncId:=123
def Gp:AC:=
(.seq (.reg [oP 3 (.mv (.c (.bool false)))] [0,1])
(.seq (.reg [oP 4 (.fieldAddr none 0 (.t 1)),
oP 5 (.load none (.t 4)),
mV 6 0,
oP 7 (.call (.f 78) [true,false] [(.t 5),(.t 6)]),
oP 8 (.un .not (.t 7)),
mV 3 8] [3])
.ret))
abbrev Oa:RsT:=[(3,none)]
theorem L4:SpF 9 At Gp Oa:=SpI Tryz.func123 (by kernel_rfl)
theorem NW:ak Tryz.prog At = true:=by kernel_rfl
abbrev qt:FuncId:=124
def Gk:AC:=
(.seq (.reg [oP 8 (.mnew),
oP 9 (.load none (.t 1)),
oP 10 (.call (.f 77) [false] [(.t 9)]),
oN (.j5 .i (.t 8) (.t 10) (cI 1)),
mV 11 8,
oP 3 (.alloc [.nilmap]),
oN (.store 1 (.t 3) (.t 11))] [0,1,3])
(.frz 3 false (.seq (.reg [oP 12 (.load none (.t 1)),
oP 13 (.call (.f 77) [false] [(.t 12)]),
oP 14 (.build [.int .i64 0, .slice 1 []] [(0,1,(.t 13)),(1,1,(.c (.slice 1 [])))]),
oP 15 (.lit 1 2 1 [(0,(.t 14))]),
oP 4 (.alloc [.slice 2 []]),
oN (.store 1 (.t 4) (.t 15))] [0,1,3,4])
(.block 0
(.loop [0,1,3,4]
(.seq (.seq (.reg [oP 16 (.load none (.t 4)),
oP 17 (.len (.t 16)),
oP 18 (.bin .gtr (.t 17) (cI 0))] [0,1,3,4,18])
(.cond (.t 18)
.skip
(.exit 0)))
(.seq (.block 1
(.seq (.reg [oP 21 (.load none (.t 4)),
oP 22 (.ixS 2 (.t 21) (cI 0)),
oP 23 (.load (some 2) (.t 22)),
oP 5 (.alloc [.int .i64 0, .slice 1 []]),
oN (.store 2 (.t 5) (.t 23))] [0,1,3,4,5])
(.frz 5 true (.seq (.seq (.reg [mV 24 0,
oP 25 (.load (some 2) (.t 5)),
oP 26 (.call (.t 24) [true] [(.t 25)]),
oP 27 (.un .not (.t 26))] [0,1,3,4,5,27])
(.cond (.t 27)
.ret
.skip))
(.seq (.reg [oP 28 (.load none (.t 1)),
oP 29 (.fieldAddr none 0 (.t 5)),
oP 30 (.load none (.t 29)),
oP 31 (.call (.f 61) [false,false] [(.t 28),(.t 30)])] [0,1,3,4,5,31])
(.block 2
(.bF (.t 31) [32,33] (.seq (.reg [mV 6 32] [3,4,5,6,33])
(.reg [mV 7 33] [3,4,5,6,7]))
(.block 3
(.seq (.reg [oP 34 (.load none (.t 3)),
mV 35 7,
oP 36 (.mget false .i (.int .i64 0) (.t 34) (.t 35)),
oP 37 (.bin .add (.t 36) (cI 1)),
oN (.j5 .i (.t 34) (.t 35) (.t 37))] [3,4,5,6,7])
(.seq (.reg [oP 38 (.load none (.t 3)),
mV 39 7,
oP 40 (.mget false .i (.int .i64 0) (.t 38) (.t 39)),
oP 41 (.bin .eql (.t 40) (cI 1))] [4,5,6,7,41])
(.cond (.t 41)
(.dreg [oP 42 (.load none (.t 4)),
mV 43 7,
oP 44 (.fieldAddr none 1 (.t 5)),
oP 45 (.load none (.t 44)),
oP 46 (.callA 1 (.f 74) [true] [(.t 45)]),
mV 47 6,
oP 48 (.lit 0 1 1 [(0,(.t 47))]),
oP 49 (.append 1 8 (.t 46) (.t 48)),
oP 50 (.build [.int .i64 0, .slice 1 []] [(0,1,(.t 43)),(1,1,(.t 49))]),
oP 51 (.lit 0 2 1 [(0,(.t 50))]),
oP 52 (.append 2 32 (.t 42) (.t 51)),
oN (.store 1 (.t 4) (.t 52))] [] [[],[],[],[2],[2,3],[],[5],[2,3,4,5,6],[1,2,3,4,5,6,7],[1,2,3,4,5,6,7,8],[0,1,2,3,4,5,6,7,8,9],[0,1,2,3,4,5,6,7,8,9,10]])
.skip)))))))))))
(.seq (.seq (.reg [oP 53 (.load none (.t 4))] [0,1,3,53])
(.reg [oP 4 (.alloc [.slice 2 []]),
oN (.store 1 (.t 4) (.t 53))] [0,1,3,4]))
(.reg [oP 19 (.load none (.t 4)),
oP 20 (.subO 2 (.t 19) (cI 1)),
oN (.store 1 (.t 4) (.t 20))] [0,1,3,4])))))))))
abbrev OI:RsT:=[]
theorem LJ:SpF 54 qt Gk OI:=SpI Tryz.func124 (by kernel_rfl)
theorem GU:ak Tryz.prog qt = true:=by kernel_rfl
abbrev u0:FuncId:=125
def Gs:AC:=
(.seq (.reg [oP 6 (.mv (.c (.bool false)))] [1,2])
(.seq (.reg [mV 7 1,
mV 8 2,
oP 9 (.call (.f 165) [false,false] [(.t 7),(.t 8)]),
oP 10 (.un .not (.t 9)),
mV 6 10] [6])
.ret))
abbrev L5:RsT:=[(6,none)]
theorem KL:SpF 11 u0 Gs L5:=SpI Tryz.func125 (by kernel_rfl)
theorem MW:ak Tryz.prog u0 = true:=by kernel_rfl
abbrev u7:FuncId:=126
def Gd:AC:=
(.seq (.reg [oP 6 (.mv (.c (.bool false)))] [0,1,2])
(.seq (.reg [mV 7 1,
mV 8 0,
oP 9 (.nilchk (.t 8)),
oP 10 (.fieldAddr none 11 (.t 9)),
oP 11 (.load none (.t 10)),
mV 12 2,
oP 13 (.ixS 1 (.t 11) (.t 12)),
oP 14 (.load none (.t 13)),
oP 15 (.bin .and (.t 7) (.t 14)),
oP 16 (.bin .neq (.t 15) (cI 0)),
mV 6 16] [6])
.ret))
abbrev MK:RsT:=[(6,none)]
theorem Kw:SpF 17 u7 Gd MK:=SpI Tryz.func126 (by kernel_rfl)
theorem NJ:ak Tryz.prog u7 = true:=by kernel_rfl
abbrev ur:FuncId:=127
def Gy:AC:=
(.seq (.reg [oP 6 (.mv (.c (.bool false)))] [0,2])
(.seq (.reg [mV 7 0,
oP 8 (.nilchk (.t 7)),
oP 9 (.fieldAddr none 12 (.t 8)),
oP 10 (.load none (.t 9)),
mV 11 2,
oP 12 (.call (.f 165) [false,false] [(.t 10),(.t 11)]),
mV 6 12] [6])
.ret))
abbrev Nm:RsT:=[(6,none)]
theorem Ot:SpF 13 ur Gy Nm:=SpI Tryz.func127 (by kernel_rfl)
theorem K2:ak Tryz.prog ur = true:=by kernel_rfl
abbrev va:FuncId:=128
def G9:AC:=
(.seq (.reg [oP 3 (.pbox 1 (.t 0)),
oP 6 (.mv (.c (.bool false)))] [1,2,3])
(.seq (.reg [mV 12 1,
mV 13 2,
oP 14 (.bin .shl (cI 1) (.t 13)),
oP 15 (.bin .andNot (.t 12) (.t 14)),
mV 7 15] [3,7])
(.seq (.seq (.reg [mV 16 7,
oP 17 (.bin .eql (.t 16) (cI 0))] [3,7,17])
(.cond (.t 17)
(.seq (.reg [oP 6 (.mv (.c (.bool false)))] [6])
.ret)
.skip))
(.seq (.reg [oP 19 (.load none (.t 3)),
oP 20 (.nilchk (.t 19)),
oP 21 (.fieldAddr none 13 (.t 20)),
oP 22 (.load none (.t 21)),
mV 23 7,
oP 24 (.mget true .i (.int .i64 0) (.t 22) (.t 23)),
mV 18 24,
oP 25 (.extract (.t 18) 0),
oP 26 (.extract (.t 18) 1),
mV 8 25,
mV 9 26] [3,7,8,9])
(.seq (.seq (.reg [mV 27 9,
oP 28 (.un .not (.t 27))] [3,7,8,28])
(.cond (.t 28)
(.seq (.reg [oP 29 (.load none (.t 3)),
oP 30 (.nilchk (.t 29)),
oP 31 (.fieldAddr (some 11) 0 (.t 30)),
oP 32 (.fieldAddr (some 3) 1 (.t 31)),
oP 33 (.load (some 3) (.t 32)),
oP 10 (.alloc [.slice 7 [], .int .i64 0, .int .i64 0]),
oN (.store 3 (.t 10) (.t 33))] [3,7,10])
(.seq (.reg [oP 34 (.fieldAddr none 0 (.t 10)),
oN (.storem 7 (.t 34))] [3,7,10])
(.seq (.seq (.reg [mV 35 7,
oP 36 (.call (.f 119) [false] [(.t 35)])] [3,7,10,36])
(.block 0
(.bF (.t 36) [37] (.reg [mV 11 37] [3,10,11])
(.block 1
(.dreg [oP 38 (.fieldAddr none 0 (.t 10)),
oP 39 (.load none (.t 38)),
oP 40 (.load none (.t 3)),
oP 41 (.nilchk (.t 40)),
oP 42 (.fieldAddr (some 11) 0 (.t 41)),
oP 43 (.fieldAddr (some 3) 1 (.t 42)),
oP 44 (.fieldAddr none 0 (.t 43)),
oP 45 (.load none (.t 44)),
mV 46 11,
oP 47 (.ixS 7 (.t 45) (.t 46)),
oP 48 (.load (some 7) (.t 47)),
oP 49 (.lit 0 7 1 [(0,(.t 48))]),
oP 50 (.append 7 64 (.t 39) (.t 49)),
oP 51 (.fieldAddr none 0 (.t 10)),
oN (.store 1 (.t 51) (.t 50))] [] [[],[0],[],[2],[2,3],[2,3,4],[2,3,4,5],[2,3,4,5,6],[],[2,3,4,5,6,7,8],[2,3,4,5,6,7,8,9],[2,3,4,5,6,7,8,9,10],[0,1,2,3,4,5,6,7,8,9,10,11],[0,1,2,3,4,5,6,7,8,9,10,11,12],[0,1,2,3,4,5,6,7,8,9,10,11,12,13]])))))
(.seq (.dreg [oP 53 (.load (some 3) (.t 10)),
oP 54 (.load none (.t 3)),
oP 55 (.nilchk (.t 54)),
oP 56 (.fieldAddr (some 11) 0 (.t 55)),
oP 57 (.fieldAddr (some 2) 4 (.t 56)),
oP 58 (.load (some 2) (.t 57)),
oP 59 (.call (.f 47) [true,false] [(.t 53),(.t 58)]),
mV 52 59,
oP 60 (.extract (.t 52) 0),
oP 61 (.extract (.t 52) 1),
oP 62 (.extract (.t 52) 2),
mV 8 60] [3,7,8] [[],[],[1],[1,2],[1,2,3],[1,2,3,4],[0,1,2,3,4,5],[0,1,2,3,4,5,6],[0,1,2,3,4,5,6,7],[0,1,2,3,4,5,6,7],[0,1,2,3,4,5,6,7],[0,1,2,3,4,5,6,7,8]])
(.reg [oP 63 (.load none (.t 3)),
oP 64 (.nilchk (.t 63)),
oP 65 (.fieldAddr none 13 (.t 64)),
oP 66 (.load none (.t 65)),
mV 67 7,
mV 68 8,
oN (.j5 .i (.t 66) (.t 67) (.t 68))] [8])))))
.skip))
(.seq (.reg [mV 69 8,
oP 70 (.bin .neq (.t 69) (cI 0)),
mV 6 70] [6])
.ret))))))
abbrev JH:RsT:=[(6,none)]
theorem J8:SpF 71 va G9 JH:=SpI Tryz.func128 (by kernel_rfl)
theorem JX:ak Tryz.prog va = true:=by kernel_rfl
abbrev TW:FuncId:=129
def FY:AC:=
(.seq (.reg [oP 8 (.mv (.c (.bool true)))] [0,1,2,3,8])
(.seq (.reg [oP 9 (.mv (.c (.bool true)))] [0,1,2,3,8,9])
(.block 0
(.loop [0,1,2,3,8,9]
(.block 1
(.seq (.reg [mV 19 2,
mV 20 1,
oP 21 (.bin .sub (.t 19) (.t 20)),
mV 10 21] [0,1,2,3,8,9,10])
(.seq (.seq (.reg [mV 22 10,
oP 23 (.bin .leq (.t 22) (cI 12))] [0,1,2,3,8,9,10,23])
(.cond (.t 23)
(.seq (.reg [mV 24 0,
mV 25 1,
mV 26 2,
oP 27 (.call (.f 166) [true,false,false] [(.t 24),(.t 25),(.t 26)])] [])
.ret)
.skip))
(.seq (.seq (.reg [mV 28 3,
oP 29 (.bin .eql (.t 28) (cI 0))] [0,1,2,3,8,9,10,29])
(.cond (.t 29)
(.seq (.reg [mV 30 0,
mV 31 1,
mV 32 2,
oP 33 (.call (.f 167) [true,false,false] [(.t 30),(.t 31),(.t 32)])] [])
.ret)
.skip))
(.seq (.seq (.reg [mV 34 8,
oP 35 (.un .not (.t 34))] [0,1,2,3,8,9,10,35])
(.cond (.t 35)
(.seq (.reg [mV 36 0,
mV 37 1,
mV 38 2,
oP 39 (.call (.f 168) [true,false,false] [(.t 36),(.t 37),(.t 38)])] [0,1,2,3,8,9,10])
(.reg [mV 40 3,
oP 41 (.bin .sub (.t 40) (cI 1)),
mV 3 41] [0,1,2,3,8,9,10]))
.skip))
(.seq (.reg [mV 43 0,
mV 44 1,
mV 45 2,
oP 46 (.call (.f 169) [true,false,false] [(.t 43),(.t 44),(.t 45)]),
mV 42 46,
oP 47 (.extract (.t 42) 0),
oP 48 (.extract (.t 42) 1),
mV 11 47,
mV 12 48] [0,1,2,3,8,9,10,11,12])
(.seq (.seq (.reg [mV 49 12,
oP 50 (.bin .eql (.t 49) (cI 2))] [0,1,2,3,8,9,10,11,12,50])
(.cond (.t 50)
(.seq (.reg [mV 51 0,
mV 52 1,
mV 53 2,
oP 54 (.call (.f 170) [true,false,false] [(.t 51),(.t 52),(.t 53)])] [0,1,2,3,8,9,10,11])
(.seq (.reg [mV 55 2,
oP 56 (.bin .sub (.t 55) (cI 1)),
mV 57 11,
mV 58 1,
oP 59 (.bin .sub (.t 57) (.t 58)),
oP 60 (.bin .sub (.t 56) (.t 59)),
mV 11 60] [0,1,2,3,8,9,10,11])
(.reg [oP 12 (.mv (cI 1))] [0,1,2,3,8,9,10,11,12])))
.skip))
(.seq (.seq (.reg [mV 61 8,
mV 62 61,
gT 63 62 (.mv (.t 9)),
oP 64 (.pick (.t 62) (.t 63) (.c (.bool false))),
mV 65 64,
gT 66 65 (.mv (.t 12)),
gT 67 65 (.bin .eql (.t 66) (cI 1)),
oP 68 (.pick (.t 65) (.t 67) (.c (.bool false)))] [0,1,2,3,8,9,10,11,68])
(.cond (.t 68)
(.seq (.reg [mV 69 0,
mV 70 1,
mV 71 2,
oP 72 (.call (.f 171) [true,false,false] [(.t 69),(.t 70),(.t 71)])] [0,1,2,3,8,9,10,11,72])
(.cond (.t 72)
.ret
.skip))
.skip))
(.seq (.seq (.dreg [mV 73 1,
oP 74 (.bin .gtr (.t 73) (cI 0)),
mV 75 74,
gT 76 75 (.mv (.t 0)),
gT 77 75 (.mv (.t 1)),
gT 78 75 (.bin .sub (.t 77) (cI 1)),
gT 79 75 (.ixS 1 (.t 76) (.t 78)),
gT 80 75 (.load none (.t 79)),
gT 81 75 (.mv (.t 0)),
gT 82 75 (.mv (.t 11)),
gT 83 75 (.ixS 1 (.t 81) (.t 82)),
gT 84 75 (.load none (.t 83)),
gT 85 75 (.call (.f 172) [false,false] [(.t 80),(.t 84)]),
gT 86 75 (.un .not (.t 85)),
oP 87 (.pick (.t 75) (.t 86) (.c (.bool false)))] [0,1,2,3,8,9,10,11,87] [[],[0],[0,1],[0,1,2],[0,1,2],[0,1,2,4],[0,1,2,3,4,5],[0,1,2,3,4,5,6],[0,1,2],[0,1,2],[0,1,2,8,9],[0,1,2,8,9,10],[0,1,2,3,4,5,6,7,8,9,10,11],[0,1,2,3,4,5,6,7,8,9,10,11,12],[0,1,2,3,4,5,6,7,8,9,10,11,12,13]])
(.cond (.t 87)
(.seq (.reg [mV 88 0,
mV 89 1,
mV 90 2,
mV 91 11,
oP 92 (.call (.f 173) [true,false,false,false] [(.t 88),(.t 89),(.t 90),(.t 91)]),
mV 13 92] [0,2,3,8,9,13])
(.seq (.reg [mV 93 13,
mV 1 93] [0,1,2,3,8,9])
(.exit 1)))
.skip))
(.seq (.reg [mV 95 0,
mV 96 1,
mV 97 2,
mV 98 11,
oP 99 (.call (.f 174) [true,false,false,false] [(.t 95),(.t 96),(.t 97),(.t 98)]),
mV 94 99,
oP 100 (.extract (.t 94) 0),
oP 101 (.extract (.t 94) 1),
mV 14 100,
mV 15 101] [0,1,2,3,10,14,15])
(.seq (.reg [mV 102 15,
mV 9 102] [0,1,2,3,9,10,14])
(.seq (.reg [mV 103 14,
mV 104 1,
oP 105 (.bin .sub (.t 103) (.t 104)),
mV 106 2,
mV 107 14,
oP 108 (.bin .sub (.t 106) (.t 107)),
mV 16 105,
mV 17 108] [0,1,2,3,9,10,14,16,17])
(.seq (.reg [mV 109 10,
oP 110 (.bin .quo (.t 109) (cI 8)),
mV 18 110] [0,1,2,3,9,14,16,17,18])
(.seq (.reg [mV 111 16,
mV 112 17,
oP 113 (.bin .lss (.t 111) (.t 112))] [0,1,2,3,9,14,16,17,18,113])
(.cond (.t 113)
(.seq (.reg [mV 114 16,
mV 115 18,
oP 116 (.bin .geq (.t 114) (.t 115)),
mV 8 116] [0,1,2,3,8,9,14])
(.seq (.reg [mV 117 0,
mV 118 1,
mV 119 14,
mV 120 3,
oP 121 (.call (.f 129) [true,false,false,false] [(.t 117),(.t 118),(.t 119),(.t 120)])] [0,2,3,8,9,14])
(.reg [mV 122 14,
oP 123 (.bin .add (.t 122) (cI 1)),
mV 1 123] [0,1,2,3,8,9])))
(.seq (.reg [mV 124 17,
mV 125 18,
oP 126 (.bin .geq (.t 124) (.t 125)),
mV 8 126] [0,1,2,3,8,9,14])
(.seq (.reg [mV 127 0,
mV 128 14,
oP 129 (.bin .add (.t 128) (cI 1)),
mV 130 2,
mV 131 3,
oP 132 (.call (.f 129) [true,false,false,false] [(.t 127),(.t 129),(.t 130),(.t 131)])] [0,1,3,8,9,14])
(.reg [mV 133 14,
mV 2 133] [0,1,2,3,8,9]))))))))))))))))))))))
abbrev Nf:RsT:=[]
theorem M5:SpF 134 TW FY Nf:=SpI Tryz.func129 (by kernel_rfl)
theorem Jn:ak Tryz.prog TW = true:=by kernel_rfl
abbrev Dm:FuncId:=130
def FC:AC:=
(.seq (.reg [oP 2 (.mv (cI 0))] [0])
(.seq (.cond (.c (.bool false))
(.seq (.reg [mV 3 0,
oP 4 (.conv .u32 (.t 3)),
oP 5 (.call (.f 175) [false] [(.t 4)]),
mV 2 5] [2])
.ret)
.skip)
(.seq (.reg [mV 6 0,
oP 7 (.call (.f 176) [false] [(.t 6)]),
mV 2 7] [2])
.ret)))
abbrev Pe:RsT:=[(2,none)]
theorem JM:SpF 8 Dm FC Pe:=SpI Tryz.func130 (by kernel_rfl)
theorem T5:ak Tryz.prog Dm = true:=by kernel_rfl
abbrev C7:FuncId:=131
def FQ:AC:=
(.seq (.reg [oP 4 (.mv (cI 0))] [0,1])
(.seq (.seq (.reg [mV 6 0,
oP 7 (.len (.t 6)),
oP 8 (.mv (cI 0))] [0,1,7,8])
(.block 0
(.loop [0,1,7,8]
(.seq (.reg [oP 9 (.bin .lss (.t 8) (.t 7))] [0,1,7,8,9])
(.seq (.cond (.t 9)
.skip
(.exit 0))
(.seq (.block 1
(.seq (.reg [mV 10 8,
mV 5 10] [0,1,5,7,8])
(.seq (.reg [mV 11 1,
mV 12 0,
mV 13 5,
oP 14 (.ixS 1 (.t 12) (.t 13)),
oP 15 (.load none (.t 14)),
oP 16 (.bin .eql (.t 11) (.t 15))] [0,1,5,7,8,16])
(.cond (.t 16)
(.seq (.reg [mV 17 5,
mV 4 17] [4])
.ret)
.skip))))
(.reg [oP 18 (.bin .add (.t 8) (cI 1)),
mV 8 18] [0,1,7,8])))))))
(.seq (.reg [oP 4 (.mv (cI (-1)))] [4])
.ret)))
abbrev Lf:RsT:=[(4,none)]
theorem OR:SpF 19 C7 FQ Lf:=SpI Tryz.func131 (by kernel_rfl)
theorem Ol:ak Tryz.prog C7 = true:=by kernel_rfl
abbrev CT:FuncId:=132
def FX:AC:=
(.seq (.reg [oP 4 (.alloc [.int .i64 0, .int .i64 0])] [0,1,4])
(.seq (.reg [mV 5 0,
mV 6 1,
oP 7 (.build [.int .i64 0, .int .i64 0] [(0,1,(.t 5)),(1,1,(.t 6))]),
oN (.store 2 (.t 4) (.t 7))] [4])
.ret))
abbrev M7:RsT:=[(4,some (some 2))]
theorem Le:SpF 8 CT FX M7:=SpI Tryz.func132 (by kernel_rfl)
theorem ud:ak Tryz.prog CT = true:=by kernel_rfl
abbrev Cd:FuncId:=133
def Hg:AC:=
(.seq (.reg [oP 5 (.pbox 7 (.t 1)),
oP 8 (.mv (cI 0))] [0,2,3,5])
(.seq (.block 0
(.seq (.reg [oP 11 (.fieldAddr none 0 (.t 5)),
oP 12 (.load none (.t 11)),
oP 13 (.call (.f 90) [false] [(.t 12)]),
oP 14 (.un .not (.t 13)),
mV 10 14] [0,2,3,5,10])
(.cond (.t 10)
(.seq (.reg [oP 8 (.mv (cI 6))] [8])
.ret)
(.seq (.reg [mV 16 0,
oP 17 (.fieldAddr none 0 (.t 5)),
oP 18 (.load none (.t 17)),
oP 19 (.call (.f 177) [false,false] [(.t 16),(.t 18)]),
oP 20 (.bin .geq (.t 19) (cI 0)),
mV 21 20,
gT 22 21 (.mv (.t 0)),
gT 23 21 (.fieldAddr none 0 (.t 5)),
gT 24 21 (.load none (.t 23)),
gT 25 21 (.call (.f 177) [false,false] [(.t 22),(.t 24)]),
gT 26 21 (.mv (.t 2)),
gT 27 21 (.bin .lss (.t 25) (.t 26)),
oP 28 (.pick (.t 21) (.t 27) (.c (.bool false))),
mV 29 28,
gF 30 29 (.mv (.t 3)),
gF 31 29 (.mkfunc (.func 179) [] [(.t 5)]),
gF 32 29 (.call (.f 178) [true,false] [(.t 30),(.t 31)]),
oP 33 (.pick (.t 29) (.c (.bool true)) (.t 32)),
mV 15 33] [0,2,5,15])
(.cond (.t 15)
(.seq (.reg [oP 8 (.mv (cI 5))] [8])
.ret)
(.seq (.reg [oP 35 (.fieldAddr none 1 (.t 5)),
oP 36 (.load none (.t 35)),
oP 37 (.lit 0 1 1 [(0,(.t 36))]),
oP 38 (.call (.f 135) [false,false,true] [(cI 1),(cI 5),(.t 37)]),
mV 39 38,
gF 40 39 (.fieldAddr none 2 (.t 5)),
gF 41 39 (.load none (.t 40)),
gF 42 39 (.fieldAddr none 3 (.t 5)),
gF 43 39 (.load none (.t 42)),
gF 44 39 (.lit 0 1 2 [(0,(.t 41)),(1,(.t 43))]),
gF 45 39 (.call (.f 135) [false,false,true] [(cI 0),(cI 40),(.t 44)]),
oP 46 (.pick (.t 39) (.c (.bool true)) (.t 45)),
mV 47 46,
gF 48 47 (.fieldAddr (some 2) 5 (.t 5)),
gF 49 47 (.fieldAddr none 0 (.t 48)),
gF 50 47 (.load none (.t 49)),
gF 51 47 (.fieldAddr (some 2) 5 (.t 5)),
gF 52 47 (.fieldAddr none 1 (.t 51)),
gF 53 47 (.load none (.t 52)),
gF 54 47 (.lit 0 1 2 [(0,(.t 50)),(1,(.t 53))]),
gF 55 47 (.call (.f 135) [false,false,true] [(cI 1),(cI 1000000),(.t 54)]),
oP 56 (.pick (.t 47) (.c (.bool true)) (.t 55)),
mV 34 56] [0,2,5,34])
(.cond (.t 34)
(.seq (.reg [oP 8 (.mv (cI 7))] [8])
.ret)
(.seq (.reg [oP 58 (.fieldAddr none 2 (.t 5)),
oP 59 (.load none (.t 58)),
oP 60 (.fieldAddr none 3 (.t 5)),
oP 61 (.load none (.t 60)),
oP 62 (.bin .gtr (.t 59) (.t 61)),
mV 63 62,
gF 64 63 (.fieldAddr (some 2) 5 (.t 5)),
gF 65 63 (.fieldAddr none 0 (.t 64)),
gF 66 63 (.load none (.t 65)),
gF 67 63 (.fieldAddr (some 2) 5 (.t 5)),
gF 68 63 (.fieldAddr none 1 (.t 67)),
gF 69 63 (.load none (.t 68)),
gF 70 63 (.bin .gtr (.t 66) (.t 69)),
oP 71 (.pick (.t 63) (.c (.bool true)) (.t 70)),
mV 57 71] [0,2,5,57])
(.cond (.t 57)
(.seq (.reg [oP 8 (.mv (cI 2))] [8])
.ret)
.skip)))))))))
(.seq (.reg [mV 72 0,
oP 73 (.nilchk (.t 72)),
oP 74 (.fieldAddr (some 1) 0 (.t 73)),
oP 75 (.fieldAddr none 0 (.t 74)),
oP 76 (.load none (.t 75)),
mV 77 2,
oP 78 (.subq 7 (.t 76) none (some (.t 77))),
oP 79 (.build [.slice 7 []] [(0,1,(.t 78))]),
oP 80 (.build [.slice 7 []] [(0,1,(.t 79))]),
oP 9 (.alloc [.slice 7 []]),
oN (.store 1 (.t 9) (.t 80))] [5,9])
(.seq (.block 1
(.seq (.reg [oP 82 (.fieldAddr none 4 (.t 5)),
oP 83 (.load none (.t 82)),
oP 84 (.mkfunc (.func 181) [] [(.t 9)]),
oP 85 (.call (.f 180) [true,false] [(.t 83),(.t 84)]),
mV 81 85] [5,9,81])
(.cond (.t 81)
(.seq (.reg [oP 8 (.mv (cI 4))] [8])
.ret)
(.seq (.reg [oP 87 (.fieldAddr none 4 (.t 5)),
oP 88 (.load none (.t 87)),
oP 89 (.call (.f 182) [true] [(.t 88)]),
mV 86 89] [5,9,86])
(.cond (.t 86)
(.seq (.reg [oP 8 (.mv (cI 5))] [8])
.ret)
(.seq (.reg [oP 91 (.fieldAddr none 4 (.t 5)),
oP 92 (.load none (.t 91)),
oP 93 (.mkfunc (.func 183) [] [(.t 5),(.t 9)]),
oP 94 (.call (.f 180) [true,false] [(.t 92),(.t 93)]),
mV 90 94] [90])
(.cond (.t 90)
(.seq (.reg [oP 8 (.mv (cI 9))] [8])
.ret)
.skip)))))))
(.seq (.reg [oP 8 (.mv (cI 0))] [8])
.ret)))))
abbrev No:RsT:=[(8,none)]
theorem Pb:SpF 95 Cd Hg No:=SpI Tryz.func133 (by kernel_rfl)
theorem Od:ak Tryz.prog Cd = true:=by kernel_rfl
abbrev Dn:FuncId:=134
def GO:AC:=
(.seq (.reg [oP 0 (.mv (.c .nilmap))] [])
(.seq (.reg [oP 1 (.mnew),
oP 2 (.build [.nilfunc, .nilfunc] [(0,1,(.f 185)),(1,1,(.f 186))]),
oN (.j5 .i (.t 1) (cI 1) (.t 2)),
oP 3 (.build [.nilfunc, .nilfunc] [(0,1,(.f 187)),(1,1,(.f 189))]),
oN (.j5 .i (.t 1) (cI 2) (.t 3)),
oP 4 (.build [.nilfunc, .nilfunc] [(0,1,(.f 190)),(1,1,(.f 191))]),
oN (.j5 .i (.t 1) (cI 3) (.t 4)),
mV 5 1,
mV 0 5] [0])
.ret))
abbrev KX:RsT:=[(0,none)]
theorem Mh:SpF 6 Dn GO KX:=SpI Tryz.func134 (by kernel_rfl)
theorem ON:ak Tryz.prog Dn = true:=by kernel_rfl
abbrev Ei:FuncId:=135
def Fx:AC:=
(.seq (.reg [oP 3 (.pbox 1 (.t 0)),
oP 4 (.pbox 1 (.t 1)),
oP 6 (.mv (.c (.bool false)))] [2,3,4])
(.seq (.reg [mV 7 2,
oP 8 (.mkfunc (.func 192) [] [(.t 3),(.t 4)]),
oP 9 (.call (.f 100) [true,false] [(.t 7),(.t 8)]),
mV 6 9] [6])
.ret))
abbrev KB:RsT:=[(6,none)]
theorem L7:SpF 10 Ei Fx KB:=SpI Tryz.func135 (by kernel_rfl)
theorem uy:ak Tryz.prog Ei = true:=by kernel_rfl
abbrev CW:FuncId:=136
def F4:AC:=
(.seq (.reg [oP 4 (.mv (.c (.bool false)))] [0,1,2])
(.seq (.reg [mV 5 0,
oP 6 (.load none (.t 1)),
oP 7 (.bin .lss (.t 5) (.t 6)),
mV 8 7,
gF 9 8 (.mv (.t 0)),
gF 10 8 (.load none (.t 2)),
gF 11 8 (.bin .gtr (.t 9) (.t 10)),
oP 12 (.pick (.t 8) (.c (.bool true)) (.t 11)),
mV 4 12] [4])
.ret))
abbrev Jo:RsT:=[(4,none)]
theorem JR:SpF 13 CW F4 Jo:=SpI Tryz.func136 (by kernel_rfl)
theorem Nw:ak Tryz.prog CW = true:=by kernel_rfl
abbrev Et:FuncId:=137
def Hm:AC:=
(.seq (.reg [oP 4 (.mv (cI 0))] [0,1])
(.seq (.seq (.reg [mV 6 0,
oP 7 (.len (.t 6)),
oP 8 (.mv (cI 0))] [0,1,7,8])
(.block 0
(.loop [0,1,7,8]
(.seq (.reg [oP 9 (.bin .lss (.t 8) (.t 7))] [0,1,7,8,9])
(.seq (.cond (.t 9)
.skip
(.exit 0))
(.seq (.block 1
(.seq (.reg [mV 10 8,
mV 5 10] [0,1,5,7,8])
(.seq (.reg [mV 11 1,
mV 12 0,
mV 13 5,
oP 14 (.ixS 7 (.t 12) (.t 13)),
oP 15 (.load (some 7) (.t 14)),
oP 16 (.call (.t 11) [false] [(.t 15)])] [0,1,5,7,8,16])
(.cond (.t 16)
(.seq (.reg [mV 17 5,
mV 4 17] [4])
.ret)
.skip))))
(.reg [oP 18 (.bin .add (.t 8) (cI 1)),
mV 8 18] [0,1,7,8])))))))
(.seq (.reg [oP 4 (.mv (cI (-1)))] [4])
.ret)))
abbrev Mv:RsT:=[(4,none)]
theorem N4:SpF 19 Et Hm Mv:=SpI Tryz.func137 (by kernel_rfl)
theorem JU:ak Tryz.prog Et = true:=by kernel_rfl
abbrev C6:FuncId:=138
def FV:AC:=
(.seq (.reg [oP 2 (.pbox 3 (.t 0)),
oP 3 (.pbox 2 (.t 1)),
oP 4 (.mv (.c .nilfunc))] [2,3])
(.seq (.reg [oP 5 (.mkfunc (.func 193) [] [(.t 3),(.t 2)]),
mV 4 5] [4])
.ret))
abbrev Mu:RsT:=[(4,none)]
theorem NQ:SpF 6 C6 FV Mu:=SpI Tryz.func138 (by kernel_rfl)
theorem LC:ak Tryz.prog C6 = true:=by kernel_rfl
abbrev Ux:FuncId:=139
def Hf:AC:=
(.seq (.reg [oP 2 (.pbox 3 (.t 0)),
oP 4 (.alloc [.int .i64 0, .int .i64 0, .int .i64 0])] [1,2,4])
(.seq (.seq (.reg [oP 11 (.load (some 3) (.t 2)),
oP 12 (.call (.f 195) [true] [(.t 11)]),
oP 13 (.mv (cI 0))] [1,2,4,12,13])
(.block 0
(.loop [1,2,4,12,13]
(.seq (.reg [oP 14 (.bin .lss (.t 13) (cI 3))] [1,2,4,12,13,14])
(.seq (.cond (.t 14)
.skip
(.exit 0))
(.seq (.block 1
(.seq (.reg [mV 15 13,
oP 16 (.ixV 3 3 (some 3) (.t 12) (.t 13)),
oP 6 (.alloc [.nilfunc, .nilfunc, .nilfunc]),
mV 5 15,
oN (.store 3 (.t 6) (.t 16))] [1,2,4,5,6,12,13])
(.frz 6 true (.seq (.reg [oP 17 (.fieldAddr (some 3) 0 (.t 2)),
oP 18 (.fieldAddr none 0 (.t 17)),
oP 19 (.load none (.t 18)),
oP 20 (.len (.t 19)),
oP 21 (.mv (cI 0))] [1,2,4,5,6,12,13,19,20,21])
(.block 2
(.loop [1,2,4,5,6,12,13,19,20,21]
(.seq (.reg [oP 22 (.bin .lss (.t 21) (.t 20))] [1,2,4,5,6,12,13,19,20,21,22])
(.seq (.cond (.t 22)
.skip
(.exit 2))
(.seq (.block 3
(.seq (.reg [oP 23 (.ixS 7 (.t 19) (.t 21)),
oP 24 (.load (some 7) (.t 23)),
oP 8 (.alloc [.str ByteArray.empty, .int .i64 0, .int .i64 0, .int .i64 0, .int .i64 0, .int .i64 0, .int .i64 0]),
oN (.store 7 (.t 8) (.t 24))] [1,2,4,5,6,8,12,13,19,20,21])
(.frz 8 true (.seq (.reg [oP 25 (.load (some 7) (.t 8)),
mV 26 1,
oP 27 (.fieldAddr none 4 (.t 8)),
oP 28 (.load none (.t 27)),
oP 29 (.bin .sub (.t 26) (.t 28)),
oP 30 (.mx [(cI 0),(.t 29)]),
oP 31 (.build [.str ByteArray.empty, .int .i64 0, .int .i64 0, .int .i64 0, .int .i64 0, .int .i64 0, .int .i64 0, .int .i64 0] [(0,7,(.t 25)),(7,1,(.t 30))]),
oP 9 (.alloc [.str ByteArray.empty, .int .i64 0, .int .i64 0, .int .i64 0, .int .i64 0, .int .i64 0, .int .i64 0, .int .i64 0]),
oN (.store 8 (.t 9) (.t 31))] [1,2,4,5,6,8,9,12,13,19,20,21])
(.frz 9 true (.seq (.reg [oP 32 (.fieldAddr none 1 (.t 6)),
oP 33 (.load none (.t 32)),
mV 10 33] [1,2,4,5,6,8,9,10,12,13,19,20,21])
(.seq (.seq (.reg [oP 34 (.fieldAddr none 0 (.t 6)),
oP 35 (.load none (.t 34)),
oP 36 (.load (some 7) (.t 8)),
oP 37 (.call (.t 35) [false] [(.t 36)]),
oP 38 (.bin .lss (.t 37) (cI 0))] [1,2,4,5,6,8,9,10,12,13,19,20,21,38])
(.cond (.t 38)
(.reg [oP 39 (.fieldAddr none 2 (.t 6)),
oP 40 (.load none (.t 39)),
mV 10 40] [1,2,4,5,6,8,9,10,12,13,19,20,21])
.skip))
(.dreg [mV 41 5,
oP 42 (.ixA 3 1 none (.t 4) (.t 41)),
oP 43 (.load none (.t 42)),
oP 44 (.fieldAddr none 0 (.t 6)),
oP 45 (.load none (.t 44)),
oP 46 (.load (some 7) (.t 8)),
oP 47 (.call (.t 45) [false] [(.t 46)]),
mV 48 10,
oP 49 (.load (some 8) (.t 9)),
oP 50 (.call (.t 48) [false] [(.t 49)]),
oP 51 (.bin .mul (.t 47) (.t 50)),
oP 52 (.bin .add (.t 43) (.t 51)),
oP 53 (.ixA 3 1 none (.t 4) (.t 41)),
oN (.store 1 (.t 53) (.t 52))] [1,2,4,5,6,12,13,19,20,21] [[],[0],[0,1],[],[3],[],[3,4,5],[],[],[3,4,5,6,7,8],[3,4,5,6,7,8,9],[0,1,2,3,4,5,6,7,8,9,10],[0,1,2,3,4,5,6,7,8,9,10,11],[0,1,2,3,4,5,6,7,8,9,10,11,12]]))))))))
(.reg [oP 54 (.bin .add (.t 21) (cI 1)),
mV 21 54] [1,2,4,5,6,12,13,19,20,21]))))))))))
(.reg [oP 55 (.bin .add (.t 13) (cI 1)),
mV 13 55] [1,2,4,12,13])))))))
(.seq (.reg [oP 56 (.load (some 3) (.t 4)),
oN (.store 3 (.t 4) (.t 56))] [4])
.ret)))
abbrev ML:RsT:=[(4,some (some 3))]
theorem LG:SpF 57 Ux Hf ML:=SpI Tryz.func139 (by kernel_rfl)
theorem A1:ak Tryz.prog Ux = true:=by kernel_rfl
abbrev Cq:FuncId:=140
def xP:AC:=
(.seq (.reg [oP 1 (.pbox 3 (.t 0)),
oP 2 (.mv (cI 0))] [1])
(.seq (.block 0
(.seq (.reg [oP 4 (.ixA 3 1 none (.t 1) (cI 0)),
oP 5 (.load none (.t 4)),
oP 6 (.bin .leq (.t 5) (cI 0)),
mV 3 6] [1,3])
(.cond (.t 3)
(.seq (.reg [oP 2 (.mv (cI 1))] [2])
.ret)
(.seq (.reg [oP 8 (.ixA 3 1 none (.t 1) (cI 1)),
oP 9 (.load none (.t 8)),
oP 10 (.bin .lss (.t 9) (cI 0)),
mV 7 10] [1,7])
(.cond (.t 7)
(.seq (.reg [oP 2 (.mv (cI 2))] [2])
.ret)
(.seq (.reg [oP 12 (.ixA 3 1 none (.t 1) (cI 2)),
oP 13 (.load none (.t 12)),
oP 14 (.bin .lss (.t 13) (cI 0)),
mV 11 14] [11])
(.cond (.t 11)
(.seq (.reg [oP 2 (.mv (cI 3))] [2])
.ret)
.skip)))))))
(.seq (.reg [oP 2 (.mv (cI 0))] [2])
.ret)))
abbrev JK:RsT:=[(2,none)]
theorem Lz:SpF 15 Cq xP JK:=SpI Tryz.func140 (by kernel_rfl)
theorem z8:ak Tryz.prog Cq = true:=by kernel_rfl
abbrev Dg:FuncId:=141
def FF:AC:=
(.seq (.reg [oP 1 (.pbox 2 (.t 0)),
oP 2 (.mv (cI 0)),
oP 3 (.mv (cI 0)),
oP 4 (.mv (cI 0))] [1])
(.seq (.seq (.reg [oP 9 (.fieldAddr none 0 (.t 1)),
oP 10 (.load none (.t 9)),
oP 11 (.len (.t 10)),
oP 12 (.bin .eql (.t 11) (cI 0)),
mV 13 12,
gF 14 13 (.fieldAddr none 0 (.t 1)),
gF 15 13 (.load none (.t 14)),
gF 16 13 (.len (.t 15)),
gF 17 13 (.bin .gtr (.t 16) (cI 7)),
oP 18 (.pick (.t 13) (.c (.bool true)) (.t 17)),
mV 19 18,
gF 20 19 (.fieldAddr none 1 (.t 1)),
gF 21 19 (.load none (.t 20)),
gF 22 19 (.len (.t 21)),
gF 23 19 (.bin .gtr (.t 22) (cI 12)),
oP 24 (.pick (.t 19) (.c (.bool true)) (.t 23))] [1,24])
(.cond (.t 24)
(.seq (.reg [oP 2 (.mv (cI 1)),
oP 3 (.mv (cI 0)),
oP 4 (.mv (cI 3))] [2,3,4])
.ret)
.skip))
(.seq (.seq (.reg [oP 25 (.fieldAddr none 0 (.t 1)),
oP 26 (.load none (.t 25)),
oP 27 (.len (.t 26)),
oP 28 (.mv (cI 0))] [1,26,27,28])
(.block 0
(.loop [1,26,27,28]
(.seq (.reg [oP 29 (.bin .lss (.t 28) (.t 27))] [1,26,27,28,29])
(.seq (.cond (.t 29)
.skip
(.exit 0))
(.seq (.block 1
(.seq (.reg [mV 30 28,
oP 31 (.ixS 2 (.t 26) (.t 28)),
oP 32 (.load (some 2) (.t 31)),
oP 6 (.alloc [.str ByteArray.empty, .bool false]),
mV 5 30,
oN (.store 2 (.t 6) (.t 32))] [1,5,6,26,27,28])
(.frz 6 true (.block 2
(.seq (.reg [oP 34 (.fieldAddr none 0 (.t 6)),
oP 35 (.load none (.t 34)),
oP 36 (.call (.f 90) [false] [(.t 35)]),
oP 37 (.un .not (.t 36)),
mV 33 37] [1,5,6,26,27,28,33])
(.cond (.t 33)
(.seq (.reg [mV 38 5,
oP 2 (.mv (cI 2)),
mV 3 38,
oP 4 (.mv (cI 6))] [2,3,4])
.ret)
(.seq (.reg [oP 40 (.fieldAddr none 0 (.t 1)),
oP 41 (.load none (.t 40)),
mV 42 5,
oP 43 (.subq 2 (.t 41) none (some (.t 42))),
oP 44 (.mkfunc (.func 197) [] [(.t 6)]),
oP 45 (.call (.f 196) [true,false] [(.t 43),(.t 44)]),
mV 39 45] [1,5,26,27,28,39])
(.cond (.t 39)
(.seq (.reg [mV 46 5,
oP 2 (.mv (cI 2)),
mV 3 46,
oP 4 (.mv (cI 5))] [2,3,4])
.ret)
.skip))))))))
(.reg [oP 47 (.bin .add (.t 28) (cI 1)),
mV 28 47] [1,26,27,28])))))))
(.seq (.seq (.reg [oP 48 (.fieldAddr none 1 (.t 1)),
oP 49 (.load none (.t 48)),
oP 50 (.len (.t 49)),
oP 51 (.mv (cI 0))] [1,49,50,51])
(.block 3
(.loop [1,49,50,51]
(.seq (.reg [oP 52 (.bin .lss (.t 51) (.t 50))] [1,49,50,51,52])
(.seq (.cond (.t 52)
.skip
(.exit 3))
(.seq (.block 4
(.seq (.reg [mV 53 51,
oP 54 (.ixS 3 (.t 49) (.t 51)),
oP 55 (.load (some 3) (.t 54)),
oP 8 (.alloc [.int .i64 0, .int .i64 0, .bool false]),
mV 7 53,
oN (.store 3 (.t 8) (.t 55))] [1,7,8,49,50,51])
(.frz 8 true (.block 5
(.seq (.reg [oP 57 (.fieldAddr none 0 (.t 1)),
oP 58 (.load none (.t 57)),
oP 59 (.len (.t 58)),
oP 60 (.fieldAddr none 0 (.t 8)),
oP 61 (.load none (.t 60)),
oP 62 (.fieldAddr none 1 (.t 8)),
oP 63 (.load none (.t 62)),
oP 64 (.lit 0 1 2 [(0,(.t 61)),(1,(.t 63))]),
oP 65 (.call (.f 97) [false,true] [(.t 59),(.t 64)]),
mV 56 65] [1,7,8,49,50,51,56])
(.cond (.t 56)
(.seq (.reg [mV 66 7,
oP 2 (.mv (cI 3)),
mV 3 66,
oP 4 (.mv (cI 4))] [2,3,4])
.ret)
(.seq (.reg [oP 68 (.fieldAddr none 0 (.t 8)),
oP 69 (.load none (.t 68)),
oP 70 (.fieldAddr none 1 (.t 8)),
oP 71 (.load none (.t 70)),
oP 72 (.bin .eql (.t 69) (.t 71)),
mV 67 72] [1,7,49,50,51,67])
(.cond (.t 67)
(.seq (.reg [mV 73 7,
oP 2 (.mv (cI 3)),
mV 3 73,
oP 4 (.mv (cI 2))] [2,3,4])
.ret)
.skip))))))))
(.reg [oP 74 (.bin .add (.t 51) (cI 1)),
mV 51 74] [1,49,50,51])))))))
(.seq (.reg [oP 2 (.mv (cI 0)),
oP 3 (.mv (cI 0)),
oP 4 (.mv (cI 0))] [2,3,4])
.ret)))))
abbrev J9:RsT:=[(2,none),(3,none),(4,none)]
theorem NM:SpF 75 Dg FF J9:=SpI Tryz.func141 (by kernel_rfl)
theorem Jz:ak Tryz.prog Dg = true:=by kernel_rfl
abbrev qK:FuncId:=142
def z9:AC:=
(.seq (.reg [mV 4 2,
oP 5 (.isnil true (.t 4))] [0,1,2,5])
(.cond (.t 5)
(.dreg [mV 6 2,
oP 7 (.assert 39 (.t 6)),
oN (.store 1 (.t 0) (.c .nilptr)),
oN (.store 1 (.t 1) (.t 7))] [] [[],[0],[],[0,1,2]])
.skip))
theorem tt:AK Tryz.prog Tryz.f142 8 3 2 z9 = true:=by kernel_rfl
theorem Hh {args:List ab} {σ:af} {m:PM} {Q:PM → af → Prop} (ha:args.length ≤ 8) (h:AW Tryz.prog 8 none z9 (v7 (Q m.after)) { v:=(2,m.val) :: (3, .undef) :: cZ args 0,ds:=[] } σ):gV Tryz.prog qK args σ m Q:=gV.yf Tryz.func142 tt ha h
theorem Ae:ak Tryz.prog qK = true:=by kernel_rfl
abbrev Ce:FuncId:=143
def FP:AC:=
(.seq (.reg [mV 8 0,
oP 9 (.len (.t 8)),
oP 10 (.mv (cI 0))] [0,1,2,8,9,10])
(.block 0
(.loop [0,1,2,8,9,10]
(.seq (.reg [oP 11 (.bin .lss (.t 10) (.t 9))] [0,1,2,8,9,10,11])
(.seq (.cond (.t 11)
.skip
(.exit 0))
(.seq (.block 1
(.seq (.reg [mV 12 10,
oP 13 (.ixS 1 (.t 8) (.t 10)),
oP 14 (.load none (.t 13)),
mV 6 12,
mV 7 14] [0,1,2,6,7,8,9,10])
(.block 2
(.seq (.reg [mV 16 1,
mV 17 7,
oP 18 (.lit 0 1 1 [(0,(.t 17))]),
oP 19 (.call (.f 97) [false,true] [(.t 16),(.t 18)]),
mV 15 19] [0,1,2,6,7,8,9,10,15])
(.cond (.t 15)
(.reg [oP 20 (.mkiface 39 (cI 4)),
oN (.panic (.t 20))] [0,1,2,8,9,10])
(.seq (.reg [mV 22 6,
oP 23 (.bin .gtr (.t 22) (cI 0)),
mV 24 23,
gT 25 24 (.mv (.t 7)),
gT 26 24 (.mv (.t 0)),
gT 27 24 (.mv (.t 6)),
gT 28 24 (.bin .sub (.t 27) (cI 1)),
gT 29 24 (.ixS 1 (.t 26) (.t 28)),
gT 30 24 (.load none (.t 29)),
gT 31 24 (.bin .leq (.t 25) (.t 30)),
oP 32 (.pick (.t 24) (.t 31) (.c (.bool false))),
mV 21 32] [0,1,2,7,8,9,10,21])
(.cond (.t 21)
(.reg [oP 33 (.mkiface 39 (cI 2)),
oN (.panic (.t 33))] [0,1,2,8,9,10])
(.seq (.reg [mV 35 2,
mV 36 7,
oP 37 (.call (.t 35) [false] [(.t 36)]),
mV 34 37] [0,1,2,8,9,10,34])
(.cond (.t 34)
(.reg [oP 38 (.mkiface 39 (cI 9)),
oN (.panic (.t 38))] [0,1,2,8,9,10])
.skip)))))))))
(.reg [oP 39 (.bin .add (.t 10) (cI 1)),
mV 10 39] [0,1,2,8,9,10])))))))
abbrev Lt:RsT:=[]
theorem Mn:SpF 40 Ce FP Lt:=SpI Tryz.func143 (by kernel_rfl)
theorem AV:ak Tryz.prog Ce = true:=by kernel_rfl
abbrev AU:FuncId:=144
def G0:AC:=
(.seq (.reg [oP 3 (.mv (.c (.bool false)))] [0,1])
(.seq (.reg [oP 4 (.fieldAddr none 1 (.t 1)),
oP 5 (.load none (.t 4)),
mV 6 0,
oP 7 (.ixS 3 (.t 5) (.t 6)),
oP 8 (.fieldAddr none 2 (.t 7)),
oP 9 (.load none (.t 8)),
mV 3 9] [3])
.ret))
abbrev MZ:RsT:=[(3,none)]
theorem Ln:SpF 10 AU G0 MZ:=SpI Tryz.func144 (by kernel_rfl)
theorem LU:ak Tryz.prog AU = true:=by kernel_rfl
abbrev z5:FuncId:=145
def Ho:AC:=
(.seq (.reg [oP 3 (.mv (.c (.bool false)))] [0,1])
(.seq (.reg [oP 4 (.fieldAddr none 0 (.t 1)),
oP 5 (.load none (.t 4)),
mV 6 0,
oP 7 (.ixS 2 (.t 5) (.t 6)),
oP 8 (.fieldAddr none 1 (.t 7)),
oP 9 (.load none (.t 8)),
mV 3 9] [3])
.ret))
abbrev Lr:RsT:=[(3,none)]
theorem Jv:SpF 10 z5 Ho Lr:=SpI Tryz.func145 (by kernel_rfl)
theorem NF:ak Tryz.prog z5 = true:=by kernel_rfl
abbrev Ew:FuncId:=146
def GH:AC:=
(.seq (.reg [oP 2 (.mv (.c (.int .u64 0)))] [0])
(.seq (.reg [mV 3 0,
oP 4 (.bin .shl (.c (.int .u64 1)) (.t 3)),
mV 2 4] [2])
.ret))
abbrev OT:RsT:=[(2,none)]
theorem LQ:SpF 5 Ew GH OT:=SpI Tryz.func146 (by kernel_rfl)
theorem so:ak Tryz.prog Ew = true:=by kernel_rfl
abbrev DO:FuncId:=147
def Hk:AC:=
(.seq (.reg [oP 3 (.mv (.c (.bool false)))] [0,1])
(.seq (.reg [mV 4 0,
oP 5 (.bin .lss (.t 4) (cI 0)),
mV 6 5,
gF 7 6 (.mv (.t 0)),
gF 8 6 (.load none (.t 1)),
gF 9 6 (.bin .geq (.t 7) (.t 8)),
oP 10 (.pick (.t 6) (.c (.bool true)) (.t 9)),
mV 3 10] [3])
.ret))
abbrev LS:RsT:=[(3,none)]
theorem Lu:SpF 11 DO Hk LS:=SpI Tryz.func147 (by kernel_rfl)
theorem Nx:ak Tryz.prog DO = true:=by kernel_rfl
abbrev Cx:FuncId:=148
def FB:AC:=
(.seq (.reg [oP 4 (.mv (.c (.bool false)))] [0,1])
(.seq (.reg [mV 5 0,
mV 6 1,
oP 7 (.bin .shr (.t 5) (.t 6)),
oP 8 (.bin .and (.t 7) (.c (.int .u64 1))),
oP 9 (.bin .eql (.t 8) (.c (.int .u64 1))),
mV 4 9] [4])
.ret))
abbrev Jy:RsT:=[(4,none)]
theorem LX:SpF 10 Cx FB Jy:=SpI Tryz.func148 (by kernel_rfl)
theorem kL:ak Tryz.prog Cx = true:=by kernel_rfl
abbrev Uw:FuncId:=149
def Fy:AC:=
(.seq (.reg [oP 3 (.box 2 (.t 1)),
oP 4 (.alloc [.int .u64 0, .int .u64 0])] [0,3,4])
(.seq (.seq (.reg [oP 9 (.build [.int .u64 0, .int .u64 0] []),
oP 5 (.alloc [.int .u64 0, .int .u64 0]),
oN (.store 2 (.t 5) (.t 9))] [0,3,4,5])
(.block 0
(.loop [0,3,4,5]
(.seq (.seq (.reg [oP 10 (.load (some 2) (.t 5)),
oP 11 (.load (some 2) (.t 3)),
oP 12 (.eqa true [.i, .i] (.t 10) (.t 11))] [0,3,4,5,12])
(.cond (.t 12)
.skip
(.exit 0)))
(.seq (.block 1
(.seq (.reg [oP 13 (.load (some 2) (.t 3)),
oN (.store 2 (.t 5) (.t 13))] [0,3,4,5])
(.seq (.reg [mV 14 0,
oP 15 (.nilchk (.t 14)),
oP 16 (.fieldAddr (some 2) 0 (.t 15)),
oP 17 (.fieldAddr none 1 (.t 16)),
oP 18 (.load none (.t 17)),
oP 19 (.len (.t 18)),
oP 20 (.mv (cI 0))] [0,3,4,5,18,19,20])
(.block 2
(.loop [0,3,4,5,18,19,20]
(.seq (.reg [oP 21 (.bin .lss (.t 20) (.t 19))] [0,3,4,5,18,19,20,21])
(.seq (.cond (.t 21)
.skip
(.exit 2))
(.seq (.block 3
(.seq (.reg [mV 22 20,
oP 23 (.ixS 3 (.t 18) (.t 20)),
oP 24 (.load (some 3) (.t 23)),
oP 7 (.alloc [.int .i64 0, .int .i64 0, .bool false]),
mV 6 22,
oN (.store 3 (.t 7) (.t 24))] [0,3,4,5,6,7,18,19,20])
(.frz 7 true (.seq (.seq (.dreg [mV 25 0,
mV 26 6,
oP 27 (.nilchk (.t 25)),
oP 28 (.fieldAddr (some 12) 4 (.t 27)),
oP 29 (.ixA 12 1 none (.t 28) (.t 26)),
oP 30 (.load none (.t 29)),
oP 31 (.un .not (.t 30)),
mV 32 31,
gF 33 32 (.fieldAddr none 0 (.t 3)),
gF 34 32 (.load none (.t 33)),
gF 35 32 (.fieldAddr none 0 (.t 7)),
gF 36 32 (.load none (.t 35)),
gF 37 32 (.call (.f 148) [false,false] [(.t 34),(.t 36)]),
gF 38 32 (.fieldAddr none 0 (.t 3)),
gF 39 32 (.load none (.t 38)),
gF 40 32 (.fieldAddr none 1 (.t 7)),
gF 41 32 (.load none (.t 40)),
gF 42 32 (.call (.f 148) [false,false] [(.t 39),(.t 41)]),
gF 43 32 (.eqb false (.t 37) (.t 42)),
oP 44 (.pick (.t 32) (.c (.bool true)) (.t 43))] [0,3,4,5,7,18,19,20,44] [[],[],[0],[0,2],[0,1,2,3],[0,1,2,3,4],[0,1,2,3,4,5],[0,1,2,3,4,5,6],[0,1,2,3,4,5,6,7],[0,1,2,3,4,5,6,7,8],[0,1,2,3,4,5,6,7],[0,1,2,3,4,5,6,7,10],[0,1,2,3,4,5,6,7,8,9,10,11],[0,1,2,3,4,5,6,7],[0,1,2,3,4,5,6,7,13],[0,1,2,3,4,5,6,7],[0,1,2,3,4,5,6,7,15],[0,1,2,3,4,5,6,7,8,9,10,11,12,13,14,15,16],[0,1,2,3,4,5,6,7,8,9,10,11,12,13,14,15,16,17],[0,1,2,3,4,5,6,7,8,9,10,11,12,13,14,15,16,17,18]])
(.cond (.t 44)
(.exit 3)
.skip))
(.seq (.dreg [oP 45 (.fieldAddr none 0 (.t 3)),
oP 46 (.load none (.t 45)),
oP 47 (.fieldAddr none 0 (.t 7)),
oP 48 (.load none (.t 47)),
oP 49 (.call (.f 146) [false] [(.t 48)]),
oP 50 (.fieldAddr none 1 (.t 7)),
oP 51 (.load none (.t 50)),
oP 52 (.call (.f 146) [false] [(.t 51)]),
oP 53 (.bin .or (.t 49) (.t 52)),
oP 54 (.bin .and (.t 46) (.t 53)),
oP 55 (.fieldAddr none 1 (.t 3)),
oP 56 (.load none (.t 55)),
oP 57 (.bin .andNot (.t 54) (.t 56)),
mV 8 57] [0,3,4,5,8,18,19,20] [[],[0],[],[2],[2,3],[],[5],[2,3,4,5,6],[2,3,4,5,6,7],[0,1,2,3,4,5,6,7,8],[],[10],[0,1,2,3,4,5,6,7,8,9,10,11],[0,1,2,3,4,5,6,7,8,9,10,11,12]])
(.reg [oP 58 (.fieldAddr none 0 (.t 3)),
oP 59 (.load none (.t 58)),
mV 60 8,
oP 61 (.bin .andNot (.t 59) (.t 60)),
oP 62 (.fieldAddr none 0 (.t 3)),
oN (.store 1 (.t 62) (.t 61))] [0,3,4,5,18,19,20]))))))
(.reg [oP 63 (.bin .add (.t 20) (cI 1)),
mV 20 63] [0,3,4,5,18,19,20])))))))))
(.seq (.reg [oP 64 (.load (some 2) (.t 5))] [0,3,4,64])
(.reg [oP 5 (.alloc [.int .u64 0, .int .u64 0]),
oN (.store 2 (.t 5) (.t 64))] [0,3,4,5])))))))
(.seq (.reg [oP 65 (.load (some 2) (.t 3)),
oN (.store 2 (.t 4) (.t 65))] [4])
.ret)))
abbrev OK:RsT:=[(4,some (some 2))]
theorem Og:SpF 66 Uw Fy OK:=SpI Tryz.func149 (by kernel_rfl)
theorem GD:ak Tryz.prog Uw = true:=by kernel_rfl
abbrev B9:FuncId:=150
def F9:AC:=
(.seq (.reg [oP 4 (.mv (cI 0))] [0,1])
(.seq (.seq (.reg [mV 6 0,
oP 7 (.len (.t 6)),
oP 8 (.mv (cI 0))] [0,1,7,8])
(.block 0
(.loop [0,1,7,8]
(.seq (.reg [oP 9 (.bin .lss (.t 8) (.t 7))] [0,1,7,8,9])
(.seq (.cond (.t 9)
.skip
(.exit 0))
(.seq (.block 1
(.seq (.reg [mV 10 8,
mV 5 10] [0,1,5,7,8])
(.seq (.reg [mV 11 1,
mV 12 0,
mV 13 5,
oP 14 (.ixS 1 (.t 12) (.t 13)),
oP 15 (.load none (.t 14)),
oP 16 (.call (.t 11) [false] [(.t 15)])] [0,1,5,7,8,16])
(.cond (.t 16)
(.seq (.reg [mV 17 5,
mV 4 17] [4])
.ret)
.skip))))
(.reg [oP 18 (.bin .add (.t 8) (cI 1)),
mV 8 18] [0,1,7,8])))))))
(.seq (.reg [oP 4 (.mv (cI (-1)))] [4])
.ret)))
abbrev KF:RsT:=[(4,none)]
theorem OU:SpF 19 B9 F9 KF:=SpI Tryz.func150 (by kernel_rfl)
theorem Nr:ak Tryz.prog B9 = true:=by kernel_rfl
abbrev Eh:FuncId:=151
def Gf:AC:=
(.seq (.reg [oP 2 (.mv (.c (.bool false)))] [0])
(.seq (.seq (.reg [mV 6 0,
oP 7 (.lenStr (.t 6)),
oP 8 (.call (.f 103) [false,false,false] [(.t 7),(cI 1),(cI 16)]),
oP 9 (.un .not (.t 8)),
mV 10 9,
gF 11 10 (.mv (.t 0)),
gF 12 10 (.ixStr (.t 11) (cI 0)),
gF 13 10 (.bin .lss (.t 12) (.c (.int .u8 97))),
oP 14 (.pick (.t 10) (.c (.bool true)) (.t 13)),
mV 15 14,
gF 16 15 (.mv (.t 0)),
gF 17 15 (.ixStr (.t 16) (cI 0)),
gF 18 15 (.bin .gtr (.t 17) (.c (.int .u8 122))),
oP 19 (.pick (.t 15) (.c (.bool true)) (.t 18))] [0,19])
(.cond (.t 19)
(.seq (.reg [oP 2 (.mv (.c (.bool false)))] [2])
.ret)
.skip))
(.seq (.seq (.reg [oP 3 (.mv (cI 1))] [0,3])
(.block 0
(.loop [0,3]
(.seq (.seq (.reg [mV 20 3,
mV 21 0,
oP 22 (.lenStr (.t 21)),
oP 23 (.bin .lss (.t 20) (.t 22))] [0,3,23])
(.cond (.t 23)
.skip
(.exit 0)))
(.seq (.block 1
(.seq (.dreg [mV 26 0,
mV 27 3,
oP 28 (.ixStr (.t 26) (.t 27)),
oP 29 (.bin .geq (.t 28) (.c (.int .u8 97))),
mV 30 29,
gT 31 30 (.mv (.t 0)),
gT 32 30 (.mv (.t 3)),
gT 33 30 (.ixStr (.t 31) (.t 32)),
gT 34 30 (.bin .leq (.t 33) (.c (.int .u8 122))),
oP 35 (.pick (.t 30) (.t 34) (.c (.bool false))),
mV 36 0,
mV 37 3,
oP 38 (.ixStr (.t 36) (.t 37)),
oP 39 (.bin .geq (.t 38) (.c (.int .u8 48))),
mV 40 39,
gT 41 40 (.mv (.t 0)),
gT 42 40 (.mv (.t 3)),
gT 43 40 (.ixStr (.t 41) (.t 42)),
gT 44 40 (.bin .leq (.t 43) (.c (.int .u8 57))),
oP 45 (.pick (.t 40) (.t 44) (.c (.bool false))),
mV 4 35,
mV 5 45] [0,3,4,5] [[],[],[0,1],[0,1,2],[0,1,2,3],[0,1,2,3,4],[0,1,2,3,4],[0,1,2,3,4,5,6],[0,1,2,3,4,5,6,7],[0,1,2,3,4,5,6,7,8],[],[],[10,11],[10,11,12],[0,1,2,3,4,10,11,12,13],[0,1,2,3,4,10,11,12,13,14],[0,1,2,3,4,10,11,12,13,14],[0,1,2,3,4,10,11,12,13,14,15,16],[0,1,2,3,4,10,11,12,13,14,15,16,17],[0,1,2,3,4,10,11,12,13,14,15,16,17,18],[0,1,2,3,4,5,6,7,8,9,10,11,12,13,14],[0,1,2,3,4,5,6,7,8,9,10,11,12,13,14,15,16,17,18,19,20]])
(.seq (.reg [mV 46 4,
oP 47 (.un .not (.t 46)),
mV 48 47,
gT 49 48 (.mv (.t 5)),
gT 50 48 (.un .not (.t 49)),
oP 51 (.pick (.t 48) (.t 50) (.c (.bool false)))] [0,3,51])
(.cond (.t 51)
(.seq (.reg [oP 2 (.mv (.c (.bool false)))] [2])
.ret)
.skip))))
(.reg [mV 24 3,
oP 25 (.bin .add (.t 24) (cI 1)),
mV 3 25] [0,3]))))))
(.seq (.reg [oP 2 (.mv (.c (.bool true)))] [2])
.ret))))
abbrev Mb:RsT:=[(2,none)]
theorem Nz:SpF 52 Eh Gf Mb:=SpI Tryz.func151 (by kernel_rfl)
theorem Dl:ak Tryz.prog Eh = true:=by kernel_rfl
abbrev C0:FuncId:=152
def Gq:AC:=
(.seq (.reg [oP 3 (.pbox 2 (.t 0)),
oP 6 (.mv (cI 0))] [1,2,3])
(.seq (.reg [oP 7 (.load (some 2) (.t 3)),
oP 8 (.lit 0 2 1 [(0,(.t 7))]),
mV 9 1,
mV 10 2,
oP 11 (.call (.f 198) [true,false,false] [(.t 8),(.t 9),(.t 10)]),
mV 6 11] [6])
.ret))
abbrev MP:RsT:=[(6,none)]
theorem O7:SpF 12 C0 Gq MP:=SpI Tryz.func152 (by kernel_rfl)
theorem Ad:ak Tryz.prog C0 = true:=by kernel_rfl
abbrev En:FuncId:=153
def Ga:AC:=
(.seq (.reg [oP 2 (.pbox 7 (.t 0)),
oP 3 (.pbox 7 (.t 1)),
oP 4 (.mv (.c (.bool false)))] [2,3])
(.seq (.reg [oP 5 (.fieldAddr none 2 (.t 2)),
oP 6 (.load none (.t 5)),
oP 7 (.fieldAddr none 2 (.t 3)),
oP 8 (.load none (.t 7)),
oP 9 (.mx [(.t 6),(.t 8)]),
oP 10 (.fieldAddr none 3 (.t 2)),
oP 11 (.load none (.t 10)),
oP 12 (.fieldAddr none 3 (.t 3)),
oP 13 (.load none (.t 12)),
oP 14 (.mn [(.t 11),(.t 13)]),
oP 15 (.bin .leq (.t 9) (.t 14)),
mV 4 15] [4])
.ret))
abbrev Lg:RsT:=[(4,none)]
theorem Mg:SpF 16 En Ga Lg:=SpI Tryz.func153 (by kernel_rfl)
theorem JD:ak Tryz.prog En = true:=by kernel_rfl
abbrev AJ:FuncId:=157
def GL:AC:=
(.seq (.reg [oP 2 (.pbox 3 (.t 0)),
oP 4 (.alloc [.int .i64 0, .int .i64 0, .int .i64 0])] [1,2,4])
(.seq (.dreg [oP 5 (.load (some 3) (.t 2)),
oP 6 (.load (some 3) (.t 2)),
oP 7 (.call (.f 199) [true,false] [(.t 6),(cI 1)]),
mV 8 1,
oP 9 (.call (.f 86) [true,true,false] [(.t 5),(.t 7),(.t 8)]),
oP 10 (.field none 0 (.t 9)),
oP 11 (.load (some 3) (.t 2)),
oP 12 (.load (some 3) (.t 2)),
oP 13 (.call (.f 199) [true,false] [(.t 12),(cI 2)]),
mV 14 1,
oP 15 (.call (.f 86) [true,true,false] [(.t 11),(.t 13),(.t 14)]),
oP 16 (.field none 1 (.t 15)),
oP 17 (.load (some 3) (.t 2)),
oP 18 (.load (some 3) (.t 2)),
oP 19 (.call (.f 199) [true,false] [(.t 18),(cI 3)]),
mV 20 1,
oP 21 (.call (.f 86) [true,true,false] [(.t 17),(.t 19),(.t 20)]),
oP 22 (.field none 2 (.t 21)),
oP 23 (.build [.int .i64 0, .int .i64 0, .int .i64 0] [(0,1,(.t 10)),(1,1,(.t 16)),(2,1,(.t 22))]),
oN (.store 3 (.t 4) (.t 23))] [4] [[],[],[1],[],[0,1,2,3],[0,1,2,3,4],[],[],[0,1,2,3,4,7],[],[0,1,2,3,4,6,7,8,9],[0,1,2,3,4,6,7,8,9,10],[],[],[0,1,2,3,4,6,7,8,9,10,13],[],[0,1,2,3,4,6,7,8,9,10,12,13,14,15],[0,1,2,3,4,6,7,8,9,10,12,13,14,15,16],[0,1,2,3,4,5,6,7,8,9,10,11,12,13,14,15,16,17],[0,1,2,3,4,5,6,7,8,9,10,11,12,13,14,15,16,17,18]])
.ret))
abbrev Mj:RsT:=[(4,some (some 3))]
theorem MX:SpF 24 AJ GL Mj:=SpI Tryz.func157 (by kernel_rfl)
theorem J5:ak Tryz.prog AJ = true:=by kernel_rfl
abbrev CZ:FuncId:=158
def GS:AC:=
(.seq (.reg [oP 1 (.pbox 2 (.t 0)),
oP 2 (.mv (cI 0)),
oP 3 (.mv (cI 0)),
oP 4 (.mv (cI 0))] [1])
(.seq (.seq (.reg [oP 10 (.fieldAddr none 0 (.t 1)),
oP 11 (.load none (.t 10)),
oP 12 (.len (.t 11)),
oP 13 (.bin .lss (.t 12) (cI 1)),
mV 14 13,
gF 15 14 (.fieldAddr none 0 (.t 1)),
gF 16 14 (.load none (.t 15)),
gF 17 14 (.len (.t 16)),
gF 18 14 (.bin .gtr (.t 17) (cI 7)),
oP 19 (.pick (.t 14) (.c (.bool true)) (.t 18)),
mV 20 19,
gF 21 20 (.fieldAddr none 1 (.t 1)),
gF 22 20 (.load none (.t 21)),
gF 23 20 (.len (.t 22)),
gF 24 20 (.bin .gtr (.t 23) (cI 12)),
oP 25 (.pick (.t 20) (.c (.bool true)) (.t 24))] [1,25])
(.cond (.t 25)
(.seq (.reg [oP 2 (.mv (cI 1)),
oP 3 (.mv (cI 0)),
oP 4 (.mv (cI 3))] [2,3,4])
.ret)
.skip))
(.seq (.reg [oP 5 (.nilS 1 1)] [1,5])
(.seq (.seq (.reg [oP 6 (.mv (cI 0))] [1,5,6])
(.block 0
(.loop [1,5,6]
(.seq (.seq (.reg [mV 26 6,
oP 27 (.fieldAddr none 0 (.t 1)),
oP 28 (.load none (.t 27)),
oP 29 (.len (.t 28)),
oP 30 (.bin .lss (.t 26) (.t 29))] [1,5,6,30])
(.cond (.t 30)
.skip
(.exit 0)))
(.seq (.block 1
(.seq (.reg [oP 33 (.fieldAddr none 0 (.t 1)),
oP 34 (.load none (.t 33)),
mV 35 6,
oP 36 (.ixS 2 (.t 34) (.t 35)),
oP 37 (.fieldAddr none 0 (.t 36)),
oP 38 (.load none (.t 37)),
mV 39 5,
oP 40 (.call (.f 107) [false,true] [(.t 38),(.t 39)]),
mV 7 40] [1,5,6,7])
(.seq (.reg [mV 41 5,
oP 42 (.fieldAddr none 0 (.t 1)),
oP 43 (.load none (.t 42)),
mV 44 6,
oP 45 (.ixS 2 (.t 43) (.t 44)),
oP 46 (.fieldAddr none 0 (.t 45)),
oP 47 (.load none (.t 46)),
oP 48 (.lit 0 1 1 [(0,(.t 47))]),
oP 49 (.append 1 16 (.t 41) (.t 48)),
mV 5 49] [1,5,6,7])
(.seq (.reg [mV 50 7,
oP 51 (.bin .neq (.t 50) (cI 0))] [1,5,6,7,51])
(.cond (.t 51)
(.seq (.reg [mV 52 6,
mV 53 7,
oP 2 (.mv (cI 2)),
mV 3 52,
mV 4 53] [2,3,4])
.ret)
.skip)))))
(.reg [mV 31 6,
oP 32 (.bin .add (.t 31) (cI 1)),
mV 6 32] [1,5,6]))))))
(.seq (.seq (.reg [oP 8 (.mv (cI 0))] [1,8])
(.block 2
(.loop [1,8]
(.seq (.seq (.reg [mV 54 8,
oP 55 (.fieldAddr none 1 (.t 1)),
oP 56 (.load none (.t 55)),
oP 57 (.len (.t 56)),
oP 58 (.bin .lss (.t 54) (.t 57))] [1,8,58])
(.cond (.t 58)
.skip
(.exit 2)))
(.seq (.block 3
(.seq (.reg [oP 61 (.fieldAddr none 1 (.t 1)),
oP 62 (.load none (.t 61)),
mV 63 8,
oP 64 (.ixS 3 (.t 62) (.t 63)),
oP 65 (.load (some 3) (.t 64)),
oP 9 (.alloc [.int .i64 0, .int .i64 0, .bool false]),
oN (.store 3 (.t 9) (.t 65))] [1,8,9])
(.frz 9 true (.seq (.seq (.reg [oP 66 (.fieldAddr none 0 (.t 9)),
oP 67 (.load none (.t 66)),
oP 68 (.fieldAddr none 0 (.t 1)),
oP 69 (.load none (.t 68)),
oP 70 (.len (.t 69)),
oP 71 (.call (.f 112) [false,false] [(.t 67),(.t 70)]),
oP 72 (.un .not (.t 71)),
mV 73 72,
gF 74 73 (.fieldAddr none 1 (.t 9)),
gF 75 73 (.load none (.t 74)),
gF 76 73 (.fieldAddr none 0 (.t 1)),
gF 77 73 (.load none (.t 76)),
gF 78 73 (.len (.t 77)),
gF 79 73 (.call (.f 112) [false,false] [(.t 75),(.t 78)]),
gF 80 73 (.un .not (.t 79)),
oP 81 (.pick (.t 73) (.c (.bool true)) (.t 80))] [1,8,9,81])
(.cond (.t 81)
(.seq (.reg [mV 82 8,
oP 2 (.mv (cI 3)),
mV 3 82,
oP 4 (.mv (cI 4))] [2,3,4])
.ret)
.skip))
(.seq (.reg [oP 83 (.fieldAddr none 0 (.t 9)),
oP 84 (.load none (.t 83)),
oP 85 (.fieldAddr none 1 (.t 9)),
oP 86 (.load none (.t 85)),
oP 87 (.bin .eql (.t 84) (.t 86))] [1,8,87])
(.cond (.t 87)
(.seq (.reg [mV 88 8,
oP 2 (.mv (cI 3)),
mV 3 88,
oP 4 (.mv (cI 2))] [2,3,4])
.ret)
.skip))))))
(.reg [mV 59 8,
oP 60 (.bin .add (.t 59) (cI 1)),
mV 8 60] [1,8]))))))
(.seq (.reg [oP 2 (.mv (cI 0)),
oP 3 (.mv (cI 0)),
oP 4 (.mv (cI 0))] [2,3,4])
.ret))))))
abbrev NO:RsT:=[(2,none),(3,none),(4,none)]
theorem K8:SpF 89 CZ GS NO:=SpI Tryz.func158 (by kernel_rfl)
theorem Mo:ak Tryz.prog CZ = true:=by kernel_rfl
abbrev Cj:FuncId:=159
def FL:AC:=
(.seq (.reg [oP 3 (.pbox 2 (.t 0)),
oP 5 (.box 14 (.t 2)),
oP 6 (.alloc [.bool false, .bool false, .bool false, .bool false, .bool false, .bool false, .bool false, .bool false, .bool false, .bool false, .bool false, .bool false, .bool false, .bool false])] [1,3,5,6])
(.seq (.seq (.reg [oP 7 (.mv (.c (.bool true)))] [1,3,5,6,7])
(.block 0
(.loop [1,3,5,6,7]
(.seq (.seq (.reg [mV 12 7] [1,3,5,6,12])
(.cond (.t 12)
.skip
(.exit 0)))
(.block 1
(.seq (.reg [oP 7 (.mv (.c (.bool false)))] [1,3,5,6,7])
(.seq (.reg [oP 8 (.mv (cI 0))] [1,3,5,6,7,8])
(.block 2
(.loop [1,3,5,6,7,8]
(.seq (.seq (.reg [mV 13 8,
oP 14 (.fieldAddr none 1 (.t 3)),
oP 15 (.load none (.t 14)),
oP 16 (.len (.t 15)),
oP 17 (.bin .lss (.t 13) (.t 16))] [1,3,5,6,7,8,17])
(.cond (.t 17)
.skip
(.exit 2)))
(.seq (.block 3
(.seq (.reg [oP 9 (.mv (cI 0))] [1,3,5,6,7,8,9])
(.block 4
(.loop [1,3,5,6,7,8,9]
(.seq (.seq (.reg [mV 20 9,
oP 21 (.bin .lss (.t 20) (cI 2))] [1,3,5,6,7,8,9,21])
(.cond (.t 21)
.skip
(.exit 4)))
(.seq (.block 5
(.seq (.dreg [oP 24 (.fieldAddr none 1 (.t 3)),
oP 25 (.load none (.t 24)),
mV 26 8,
oP 27 (.ixS 3 (.t 25) (.t 26)),
oP 28 (.fieldAddr none 0 (.t 27)),
oP 29 (.load none (.t 28)),
oP 30 (.fieldAddr none 1 (.t 3)),
oP 31 (.load none (.t 30)),
mV 32 8,
oP 33 (.ixS 3 (.t 31) (.t 32)),
oP 34 (.fieldAddr none 1 (.t 33)),
oP 35 (.load none (.t 34)),
mV 10 29,
mV 11 35] [1,3,5,6,7,8,9,10,11] [[],[0],[],[0,1,2],[0,1,2,3],[0,1,2,3,4],[],[6],[],[6,7,8],[6,7,8,9],[6,7,8,9,10],[0,1,2,3,4,5],[0,1,2,3,4,5,6,7,8,9,10,11,12]])
(.seq (.seq (.reg [mV 36 9,
oP 37 (.bin .eql (.t 36) (cI 1))] [1,3,5,6,7,8,9,10,11,37])
(.cond (.t 37)
(.reg [mV 38 11,
mV 39 10,
mV 10 38,
mV 11 39] [1,3,5,6,7,8,9,10,11])
.skip))
(.seq (.reg [mV 40 1,
mV 41 8,
oP 42 (.call (.f 37) [true,false] [(.t 40),(.t 41)]),
oP 43 (.un .not (.t 42)),
mV 44 43,
gT 45 44 (.mv (.t 10)),
gT 46 44 (.fieldAddr (some 7) 0 (.t 5)),
gT 47 44 (.ixA 7 1 none (.t 46) (.t 45)),
gT 48 44 (.load none (.t 47)),
gT 49 44 (.un .not (.t 48)),
oP 50 (.pick (.t 44) (.t 49) (.c (.bool false))),
mV 51 50,
gT 52 51 (.mv (.t 11)),
gT 53 51 (.fieldAddr (some 7) 0 (.t 5)),
gT 54 51 (.ixA 7 1 none (.t 53) (.t 52)),
gT 55 51 (.load none (.t 54)),
oP 56 (.pick (.t 51) (.t 55) (.c (.bool false))),
mV 57 56,
gT 58 57 (.mv (.t 11)),
gT 59 57 (.fieldAddr (some 7) 7 (.t 5)),
gT 60 57 (.ixA 7 1 none (.t 59) (.t 58)),
gT 61 57 (.load none (.t 60)),
gT 62 57 (.un .not (.t 61)),
oP 63 (.pick (.t 57) (.t 62) (.c (.bool false)))] [1,3,5,6,7,8,9,11,63])
(.cond (.t 63)
(.reg [mV 64 11,
oP 65 (.fieldAddr (some 7) 0 (.t 5)),
oP 66 (.ixA 7 1 none (.t 65) (.t 64)),
oN (.store 1 (.t 66) (.c (.bool false))),
oP 7 (.mv (.c (.bool true)))] [1,3,5,6,7,8,9])
.skip)))))
(.reg [mV 22 9,
oP 23 (.bin .add (.t 22) (cI 1)),
mV 9 23] [1,3,5,6,7,8,9])))))))
(.reg [mV 18 8,
oP 19 (.bin .add (.t 18) (cI 1)),
mV 8 19] [1,3,5,6,7,8]))))))))))))
(.seq (.reg [oP 67 (.load (some 14) (.t 5)),
oN (.store 14 (.t 6) (.t 67))] [6])
.ret)))
abbrev OY:RsT:=[(6,some (some 14))]
theorem Oq:SpF 68 Cj FL OY:=SpI Tryz.func159 (by kernel_rfl)
theorem Hj:ak Tryz.prog Cj = true:=by kernel_rfl
abbrev oy:FuncId:=160
def Gw:AC:=
(.seq (.reg [oP 4 (.load none (.t 1)),
oP 5 (.conv .u64 (.t 4)),
mV 3 5] [0,3])
(.block 0
(.loop [0,3]
(.seq (.seq (.reg [mV 6 3,
oP 7 (.bin .neq (.t 6) (.c (.int .u64 0)))] [0,3,7])
(.cond (.t 7)
.skip
(.exit 0)))
(.seq (.block 1
(.seq (.reg [mV 12 0,
mV 13 3,
oP 14 (.call (.f 161) [false] [(.t 13)]),
oP 15 (.call (.t 12) [false] [(.t 14)]),
oP 16 (.un .not (.t 15))] [0,3,16])
(.cond (.t 16)
.ret
.skip)))
(.reg [mV 8 3,
mV 9 3,
oP 10 (.bin .sub (.t 9) (.c (.int .u64 1))),
oP 11 (.bin .and (.t 8) (.t 10)),
mV 3 11] [0,3]))))))
abbrev Mp:RsT:=[]
theorem Kr:SpF 17 oy Gw Mp:=SpI Tryz.func160 (by kernel_rfl)
theorem Ha:ak Tryz.prog oy = true:=by kernel_rfl
abbrev BY:FuncId:=161
def F6:AC:=
(.seq (.reg [oP 2 (.mv (cI 0))] [0])
(.seq (.cond (.c (.bool false))
(.seq (.reg [mV 3 0,
oP 4 (.conv .u32 (.t 3)),
oP 5 (.call (.f 200) [false] [(.t 4)]),
mV 2 5] [2])
.ret)
.skip)
(.seq (.reg [mV 6 0,
oP 7 (.call (.f 201) [false] [(.t 6)]),
mV 2 7] [2])
.ret)))
abbrev My:RsT:=[(2,none)]
theorem KN:SpF 8 BY F6 My:=SpI Tryz.func161 (by kernel_rfl)
theorem J2:ak Tryz.prog BY = true:=by kernel_rfl
abbrev BZ:FuncId:=163
def FJ:AC:=
(.seq (.reg [oP 2 (.mv (cI 0))] [0])
(.seq (.reg [mV 3 0,
oP 4 (.bin .shr (.t 3) (.c (.int .u64 1))),
oP 5 (.bin .and (.t 4) (.c (.int .u64 6148914691236517205))),
mV 6 0,
oP 7 (.bin .and (.t 6) (.c (.int .u64 6148914691236517205))),
oP 8 (.bin .add (.t 5) (.t 7)),
mV 0 8] [0])
(.seq (.reg [mV 9 0,
oP 10 (.bin .shr (.t 9) (.c (.int .u64 2))),
oP 11 (.bin .and (.t 10) (.c (.int .u64 3689348814741910323))),
mV 12 0,
oP 13 (.bin .and (.t 12) (.c (.int .u64 3689348814741910323))),
oP 14 (.bin .add (.t 11) (.t 13)),
mV 0 14] [0])
(.seq (.reg [mV 15 0,
oP 16 (.bin .shr (.t 15) (.c (.int .u64 4))),
mV 17 0,
oP 18 (.bin .add (.t 16) (.t 17)),
oP 19 (.bin .and (.t 18) (.c (.int .u64 1085102592571150095))),
mV 0 19] [0])
(.seq (.reg [mV 20 0,
mV 21 0,
oP 22 (.bin .shr (.t 21) (.c (.int .u64 8))),
oP 23 (.bin .add (.t 20) (.t 22)),
mV 0 23] [0])
(.seq (.reg [mV 24 0,
mV 25 0,
oP 26 (.bin .shr (.t 25) (.c (.int .u64 16))),
oP 27 (.bin .add (.t 24) (.t 26)),
mV 0 27] [0])
(.seq (.reg [mV 28 0,
mV 29 0,
oP 30 (.bin .shr (.t 29) (.c (.int .u64 32))),
oP 31 (.bin .add (.t 28) (.t 30)),
mV 0 31] [0])
(.seq (.reg [mV 32 0,
oP 33 (.conv .i64 (.t 32)),
oP 34 (.bin .and (.t 33) (cI 127)),
mV 2 34] [2])
.ret))))))))
abbrev Oo:RsT:=[(2,none)]
theorem L3:SpF 35 BZ FJ Oo:=SpI Tryz.func163 (by kernel_rfl)
theorem JI:ak Tryz.prog BZ = true:=by kernel_rfl
abbrev Dh:FuncId:=164
def FD:AC:=
(.seq (.reg [oP 4 (.mv (cI 0))] [0,1])
(.seq (.seq (.reg [mV 6 0,
oP 7 (.len (.t 6)),
oP 8 (.mv (cI 0))] [0,1,7,8])
(.block 0
(.loop [0,1,7,8]
(.seq (.reg [oP 9 (.bin .lss (.t 8) (.t 7))] [0,1,7,8,9])
(.seq (.cond (.t 9)
.skip
(.exit 0))
(.seq (.block 1
(.seq (.reg [mV 10 8,
mV 5 10] [0,1,5,7,8])
(.seq (.reg [mV 11 1,
mV 12 0,
mV 13 5,
oP 14 (.ixS 1 (.t 12) (.t 13)),
oP 15 (.load none (.t 14)),
oP 16 (.bin .eql (.t 11) (.t 15))] [0,1,5,7,8,16])
(.cond (.t 16)
(.seq (.reg [mV 17 5,
mV 4 17] [4])
.ret)
.skip))))
(.reg [oP 18 (.bin .add (.t 8) (cI 1)),
mV 8 18] [0,1,7,8])))))))
(.seq (.reg [oP 4 (.mv (cI (-1)))] [4])
.ret)))
abbrev KI:RsT:=[(4,none)]
theorem Of:SpF 19 Dh FD KI:=SpI Tryz.func164 (by kernel_rfl)
theorem Js:ak Tryz.prog Dh = true:=by kernel_rfl
abbrev DA:FuncId:=165
def Ge:AC:=
(.seq (.reg [oP 4 (.mv (.c (.bool false)))] [0,1])
(.seq (.reg [mV 5 0,
mV 6 1,
oP 7 (.bin .shr (.t 5) (.t 6)),
oP 8 (.bin .and (.t 7) (cI 1)),
oP 9 (.bin .eql (.t 8) (cI 1)),
mV 4 9] [4])
.ret))
abbrev Ns:RsT:=[(4,none)]
theorem KV:SpF 10 DA Ge Ns:=SpI Tryz.func165 (by kernel_rfl)
theorem GJ:ak Tryz.prog DA = true:=by kernel_rfl
abbrev Cn:FuncId:=166
def Hi:AC:=
(.seq (.reg [mV 8 1,
oP 9 (.bin .add (.t 8) (cI 1)),
mV 6 9] [0,1,2,6])
(.block 0
(.loop [0,1,2,6]
(.seq (.seq (.reg [mV 10 6,
mV 11 2,
oP 12 (.bin .lss (.t 10) (.t 11))] [0,1,2,6,12])
(.cond (.t 12)
.skip
(.exit 0)))
(.seq (.block 1
(.seq (.reg [mV 15 6,
mV 7 15] [0,1,2,6,7])
(.block 2
(.loop [0,1,2,6,7]
(.seq (.seq (.dreg [mV 16 7,
mV 17 1,
oP 18 (.bin .gtr (.t 16) (.t 17)),
mV 19 18,
gT 20 19 (.mv (.t 0)),
gT 21 19 (.mv (.t 7)),
gT 22 19 (.ixS 1 (.t 20) (.t 21)),
gT 23 19 (.load none (.t 22)),
gT 24 19 (.mv (.t 0)),
gT 25 19 (.mv (.t 7)),
gT 26 19 (.bin .sub (.t 25) (cI 1)),
gT 27 19 (.ixS 1 (.t 24) (.t 26)),
gT 28 19 (.load none (.t 27)),
gT 29 19 (.call (.f 172) [false,false] [(.t 23),(.t 28)]),
oP 30 (.pick (.t 19) (.t 29) (.c (.bool false)))] [0,1,2,6,7,30] [[],[],[0,1],[0,1,2],[0,1,2,3],[0,1,2,3],[0,1,2,3,4,5],[0,1,2,3,4,5,6],[0,1,2,3],[0,1,2,3],[0,1,2,3,9],[0,1,2,3,8,9,10],[0,1,2,3,8,9,10,11],[0,1,2,3,4,5,6,7,8,9,10,11,12],[0,1,2,3,4,5,6,7,8,9,10,11,12,13]])
(.cond (.t 30)
.skip
(.exit 2)))
(.seq (.block 3
(.dreg [mV 33 0,
mV 34 7,
mV 35 0,
mV 36 7,
oP 37 (.bin .sub (.t 36) (cI 1)),
mV 38 0,
mV 39 7,
oP 40 (.bin .sub (.t 39) (cI 1)),
oP 41 (.ixS 1 (.t 38) (.t 40)),
oP 42 (.load none (.t 41)),
mV 43 0,
mV 44 7,
oP 45 (.ixS 1 (.t 43) (.t 44)),
oP 46 (.load none (.t 45)),
oP 47 (.ixS 1 (.t 33) (.t 34)),
oN (.store 1 (.t 47) (.t 42)),
oP 48 (.ixS 1 (.t 35) (.t 37)),
oN (.store 1 (.t 48) (.t 46))] [0,1,2,6,7] [[],[],[],[],[3],[],[],[6],[5,6,7],[5,6,7,8],[],[],[10,11],[10,11,12],[0,1,5,6,7,8,9,10,11,12,13],[0,1,5,6,7,8,9,10,11,12,13,14],[0,1,2,3,4,5,6,7,8,9,10,11,12,13,14,15],[0,1,2,3,4,5,6,7,8,9,10,11,12,13,14,15,16]]))
(.reg [mV 31 7,
oP 32 (.bin .sub (.t 31) (cI 1)),
mV 7 32] [0,1,2,6,7])))))))
(.reg [mV 13 6,
oP 14 (.bin .add (.t 13) (cI 1)),
mV 6 14] [0,1,2,6]))))))
abbrev Ju:RsT:=[]
theorem MQ:SpF 49 Cn Hi Ju:=SpI Tryz.func166 (by kernel_rfl)
theorem Lb:ak Tryz.prog Cn = true:=by kernel_rfl
abbrev Uf:FuncId:=167
def UI:AC:=
(.seq (.reg [mV 11 1,
mV 6 11] [0,1,2,6])
(.seq (.reg [oP 7 (.mv (cI 0))] [0,1,2,6,7])
(.seq (.reg [mV 12 2,
mV 13 1,
oP 14 (.bin .sub (.t 12) (.t 13)),
mV 8 14] [0,6,7,8])
(.seq (.seq (.reg [mV 15 8,
oP 16 (.bin .sub (.t 15) (cI 1)),
oP 17 (.bin .quo (.t 16) (cI 2)),
mV 9 17] [0,6,7,8,9])
(.block 0
(.loop [0,6,7,8,9]
(.seq (.seq (.reg [mV 18 9,
oP 19 (.bin .geq (.t 18) (cI 0))] [0,6,7,8,9,19])
(.cond (.t 19)
.skip
(.exit 0)))
(.seq (.block 1
(.reg [mV 22 0,
mV 23 9,
mV 24 8,
mV 25 6,
oP 26 (.call (.f 202) [true,false,false,false] [(.t 22),(.t 23),(.t 24),(.t 25)])] [0,6,7,8,9]))
(.reg [mV 20 9,
oP 21 (.bin .sub (.t 20) (cI 1)),
mV 9 21] [0,6,7,8,9]))))))
(.seq (.reg [mV 27 8,
oP 28 (.bin .sub (.t 27) (cI 1)),
mV 10 28] [0,6,7,10])
(.block 2
(.loop [0,6,7,10]
(.seq (.seq (.reg [mV 29 10,
oP 30 (.bin .geq (.t 29) (cI 0))] [0,6,7,10,30])
(.cond (.t 30)
.skip
(.exit 2)))
(.seq (.block 3
(.seq (.dreg [mV 33 0,
mV 34 6,
mV 35 0,
mV 36 6,
mV 37 10,
oP 38 (.bin .add (.t 36) (.t 37)),
mV 39 0,
mV 40 6,
mV 41 10,
oP 42 (.bin .add (.t 40) (.t 41)),
oP 43 (.ixS 1 (.t 39) (.t 42)),
oP 44 (.load none (.t 43)),
mV 45 0,
mV 46 6,
oP 47 (.ixS 1 (.t 45) (.t 46)),
oP 48 (.load none (.t 47)),
oP 49 (.ixS 1 (.t 33) (.t 34)),
oN (.store 1 (.t 49) (.t 44)),
oP 50 (.ixS 1 (.t 35) (.t 38)),
oN (.store 1 (.t 50) (.t 48))] [0,6,7,10] [[],[],[],[],[],[3,4],[],[],[],[7,8],[6,7,8,9],[6,7,8,9,10],[],[],[12,13],[12,13,14],[0,1,6,7,8,9,10,11,12,13,14,15],[0,1,6,7,8,9,10,11,12,13,14,15,16],[0,1,2,3,4,5,6,7,8,9,10,11,12,13,14,15,16,17],[0,1,2,3,4,5,6,7,8,9,10,11,12,13,14,15,16,17,18]])
(.reg [mV 51 0,
mV 52 7,
mV 53 10,
mV 54 6,
oP 55 (.call (.f 202) [true,false,false,false] [(.t 51),(.t 52),(.t 53),(.t 54)])] [0,6,7,10])))
(.reg [mV 31 10,
oP 32 (.bin .sub (.t 31) (cI 1)),
mV 10 32] [0,6,7,10]))))))))))
abbrev Ve:RsT:=[]
theorem U8:SpF 56 Uf UI Ve:=SpI Tryz.func167 (by kernel_rfl)
theorem Vc:ak Tryz.prog Uf = true:=by kernel_rfl
abbrev Ub:FuncId:=168
def UQ:AC:=
(.seq (.reg [mV 11 2,
mV 12 1,
oP 13 (.bin .sub (.t 11) (.t 12)),
mV 6 13] [0,1,6])
(.seq (.reg [mV 14 6,
oP 15 (.bin .geq (.t 14) (cI 8))] [0,1,6,15])
(.cond (.t 15)
(.seq (.reg [mV 16 6,
oP 17 (.conv .u64 (.t 16)),
oP 7 (.alloc [.int .u64 0]),
oN (.store 1 (.t 7) (.t 17))] [0,1,6,7])
(.seq (.reg [mV 18 6,
oP 19 (.call (.f 203) [false] [(.t 18)]),
mV 8 19] [0,1,6,7,8])
(.seq (.reg [mV 20 1,
mV 21 6,
oP 22 (.bin .quo (.t 21) (cI 4)),
oP 23 (.bin .mul (.t 22) (cI 2)),
oP 24 (.bin .add (.t 20) (.t 23)),
oP 25 (.bin .sub (.t 24) (cI 1)),
mV 9 25] [0,1,6,7,8,9])
(.block 0
(.loop [0,1,6,7,8,9]
(.seq (.seq (.reg [mV 26 9,
mV 27 1,
mV 28 6,
oP 29 (.bin .quo (.t 28) (cI 4)),
oP 30 (.bin .mul (.t 29) (cI 2)),
oP 31 (.bin .add (.t 27) (.t 30)),
oP 32 (.bin .add (.t 31) (cI 1)),
oP 33 (.bin .leq (.t 26) (.t 32))] [0,1,6,7,8,9,33])
(.cond (.t 33)
.skip
(.exit 0)))
(.seq (.block 1
(.seq (.reg [oP 36 (.call (.f 204) [false] [(.t 7)]),
mV 37 8,
oP 38 (.bin .sub (.t 37) (.c (.int .u64 1))),
oP 39 (.bin .and (.t 36) (.t 38)),
oP 40 (.conv .i64 (.t 39)),
mV 10 40] [0,1,6,7,8,9,10])
(.seq (.seq (.reg [mV 41 10,
mV 42 6,
oP 43 (.bin .geq (.t 41) (.t 42))] [0,1,6,7,8,9,10,43])
(.cond (.t 43)
(.reg [mV 44 10,
mV 45 6,
oP 46 (.bin .sub (.t 44) (.t 45)),
mV 10 46] [0,1,6,7,8,9,10])
.skip))
(.dreg [mV 47 0,
mV 48 9,
mV 49 0,
mV 50 1,
mV 51 10,
oP 52 (.bin .add (.t 50) (.t 51)),
mV 53 0,
mV 54 1,
mV 55 10,
oP 56 (.bin .add (.t 54) (.t 55)),
oP 57 (.ixS 1 (.t 53) (.t 56)),
oP 58 (.load none (.t 57)),
mV 59 0,
mV 60 9,
oP 61 (.ixS 1 (.t 59) (.t 60)),
oP 62 (.load none (.t 61)),
oP 63 (.ixS 1 (.t 47) (.t 48)),
oN (.store 1 (.t 63) (.t 58)),
oP 64 (.ixS 1 (.t 49) (.t 52)),
oN (.store 1 (.t 64) (.t 62))] [0,1,6,7,8,9] [[],[],[],[],[],[3,4],[],[],[],[7,8],[6,7,8,9],[6,7,8,9,10],[],[],[12,13],[12,13,14],[0,1,6,7,8,9,10,11,12,13,14,15],[0,1,6,7,8,9,10,11,12,13,14,15,16],[0,1,2,3,4,5,6,7,8,9,10,11,12,13,14,15,16,17],[0,1,2,3,4,5,6,7,8,9,10,11,12,13,14,15,16,17,18]]))))
(.reg [mV 34 9,
oP 35 (.bin .add (.t 34) (cI 1)),
mV 9 35] [0,1,6,7,8,9]))))))))
.skip)))
abbrev VB:RsT:=[]
theorem Vr:SpF 65 Ub UQ VB:=SpI Tryz.func168 (by kernel_rfl)
theorem U6:ak Tryz.prog Ub = true:=by kernel_rfl
abbrev Ua:FuncId:=169
def T7:AC:=
(.seq (.reg [oP 6 (.mv (cI 0)),
oP 7 (.mv (cI 0))] [0,1,2])
(.seq (.reg [mV 13 2,
mV 14 1,
oP 15 (.bin .sub (.t 13) (.t 14)),
mV 8 15] [0,1,8])
(.seq (.reg [oP 9 (.alloc [.int .i64 0])] [0,1,8,9])
(.seq (.reg [mV 16 1,
mV 17 8,
oP 18 (.bin .quo (.t 17) (cI 4)),
oP 19 (.bin .mul (.t 18) (cI 1)),
oP 20 (.bin .add (.t 16) (.t 19)),
mV 10 20] [0,1,8,9,10])
(.seq (.reg [mV 21 1,
mV 22 8,
oP 23 (.bin .quo (.t 22) (cI 4)),
oP 24 (.bin .mul (.t 23) (cI 2)),
oP 25 (.bin .add (.t 21) (.t 24)),
mV 11 25] [0,1,8,9,10,11])
(.seq (.reg [mV 26 1,
mV 27 8,
oP 28 (.bin .quo (.t 27) (cI 4)),
oP 29 (.bin .mul (.t 28) (cI 3)),
oP 30 (.bin .add (.t 26) (.t 29)),
mV 12 30] [0,8,9,10,11,12])
(.seq (.seq (.reg [mV 31 8,
oP 32 (.bin .geq (.t 31) (cI 8))] [0,8,9,10,11,12,32])
(.cond (.t 32)
(.seq (.seq (.reg [mV 33 8,
oP 34 (.bin .geq (.t 33) (cI 50))] [0,9,10,11,12,34])
(.cond (.t 34)
(.seq (.reg [mV 35 0,
mV 36 10,
oP 37 (.call (.f 205) [true,false,false] [(.t 35),(.t 36),(.t 9)]),
mV 10 37] [0,9,10,11,12])
(.seq (.reg [mV 38 0,
mV 39 11,
oP 40 (.call (.f 205) [true,false,false] [(.t 38),(.t 39),(.t 9)]),
mV 11 40] [0,9,10,11,12])
(.reg [mV 41 0,
mV 42 12,
oP 43 (.call (.f 205) [true,false,false] [(.t 41),(.t 42),(.t 9)]),
mV 12 43] [0,9,10,11,12])))
.skip))
(.reg [mV 44 0,
mV 45 10,
mV 46 11,
mV 47 12,
oP 48 (.call (.f 206) [true,false,false,false,false] [(.t 44),(.t 45),(.t 46),(.t 47),(.t 9)]),
mV 11 48] [9,11]))
.skip))
(.seq (.reg [oP 49 (.load none (.t 9))] [11,49])
(.block 0
(.seq (.reg [oP 52 (.bin .eql (.t 49) (cI 0)),
mV 51 52] [11,49,51])
(.cond (.t 51)
(.seq (.reg [mV 53 11,
mV 6 53,
oP 7 (.mv (cI 1))] [6,7])
.ret)
(.seq (.reg [oP 55 (.bin .eql (.t 49) (cI 12)),
mV 54 55] [11,54])
(.cond (.t 54)
(.seq (.reg [mV 56 11,
mV 6 56,
oP 7 (.mv (cI 2))] [6,7])
.ret)
(.seq (.reg [mV 50 11,
mV 6 50,
oP 7 (.mv (cI 0))] [6,7])
.ret))))))))))))))
abbrev Vv:RsT:=[(6,none),(7,none)]
theorem VC:SpF 57 Ua T7 Vv:=SpI Tryz.func169 (by kernel_rfl)
theorem U5:ak Tryz.prog Ua = true:=by kernel_rfl
abbrev T6:FuncId:=170
def UM:AC:=
(.seq (.reg [mV 8 1,
mV 6 8] [0,2,6])
(.seq (.reg [mV 9 2,
oP 10 (.bin .sub (.t 9) (cI 1)),
mV 7 10] [0,6,7])
(.block 0
(.loop [0,6,7]
(.seq (.seq (.reg [mV 11 6,
mV 12 7,
oP 13 (.bin .lss (.t 11) (.t 12))] [0,6,7,13])
(.cond (.t 13)
.skip
(.exit 0)))
(.block 1
(.seq (.dreg [mV 14 0,
mV 15 6,
mV 16 0,
mV 17 7,
mV 18 0,
mV 19 7,
oP 20 (.ixS 1 (.t 18) (.t 19)),
oP 21 (.load none (.t 20)),
mV 22 0,
mV 23 6,
oP 24 (.ixS 1 (.t 22) (.t 23)),
oP 25 (.load none (.t 24)),
oP 26 (.ixS 1 (.t 14) (.t 15)),
oN (.store 1 (.t 26) (.t 21)),
oP 27 (.ixS 1 (.t 16) (.t 17)),
oN (.store 1 (.t 27) (.t 25))] [0,6,7] [[],[],[],[],[],[],[4,5],[4,5,6],[],[],[8,9],[8,9,10],[0,1,4,5,6,7,8,9,10,11],[0,1,4,5,6,7,8,9,10,11,12],[0,1,2,3,4,5,6,7,8,9,10,11,12,13],[0,1,2,3,4,5,6,7,8,9,10,11,12,13,14]])
(.seq (.reg [mV 28 6,
oP 29 (.bin .add (.t 28) (cI 1)),
mV 6 29] [0,6,7])
(.reg [mV 30 7,
oP 31 (.bin .sub (.t 30) (cI 1)),
mV 7 31] [0,6,7])))))))))
abbrev Vd:RsT:=[]
theorem Vt:SpF 32 T6 UM Vd:=SpI Tryz.func170 (by kernel_rfl)
theorem VA:ak Tryz.prog T6 = true:=by kernel_rfl
abbrev Ue:FuncId:=171
def UL:AC:=
(.seq (.reg [oP 6 (.mv (.c (.bool false)))] [0,1,2])
(.seq (.reg [mV 11 1,
oP 12 (.bin .add (.t 11) (cI 1)),
mV 7 12] [0,1,2,7])
(.seq (.seq (.reg [oP 8 (.mv (cI 0))] [0,1,2,7,8])
(.block 0
(.loop [0,1,2,7,8]
(.seq (.seq (.reg [mV 13 8,
oP 14 (.bin .lss (.t 13) (cI 5))] [0,1,2,7,8,14])
(.cond (.t 14)
.skip
(.exit 0)))
(.seq (.block 1
(.seq (.block 2
(.loop [0,1,2,7,8]
(.seq (.seq (.dreg [mV 17 7,
mV 18 2,
oP 19 (.bin .lss (.t 17) (.t 18)),
mV 20 19,
gT 21 20 (.mv (.t 0)),
gT 22 20 (.mv (.t 7)),
gT 23 20 (.ixS 1 (.t 21) (.t 22)),
gT 24 20 (.load none (.t 23)),
gT 25 20 (.mv (.t 0)),
gT 26 20 (.mv (.t 7)),
gT 27 20 (.bin .sub (.t 26) (cI 1)),
gT 28 20 (.ixS 1 (.t 25) (.t 27)),
gT 29 20 (.load none (.t 28)),
gT 30 20 (.call (.f 172) [false,false] [(.t 24),(.t 29)]),
gT 31 20 (.un .not (.t 30)),
oP 32 (.pick (.t 20) (.t 31) (.c (.bool false)))] [0,1,2,7,8,32] [[],[],[0,1],[0,1,2],[0,1,2,3],[0,1,2,3],[0,1,2,3,4,5],[0,1,2,3,4,5,6],[0,1,2,3],[0,1,2,3],[0,1,2,3,9],[0,1,2,3,8,9,10],[0,1,2,3,8,9,10,11],[0,1,2,3,4,5,6,7,8,9,10,11,12],[0,1,2,3,4,5,6,7,8,9,10,11,12,13],[0,1,2,3,4,5,6,7,8,9,10,11,12,13,14]])
(.cond (.t 32)
.skip
(.exit 2)))
(.block 3
(.reg [mV 33 7,
oP 34 (.bin .add (.t 33) (cI 1)),
mV 7 34] [0,1,2,7,8])))))
(.seq (.seq (.reg [mV 35 7,
mV 36 2,
oP 37 (.bin .eql (.t 35) (.t 36))] [0,1,2,7,8,37])
(.cond (.t 37)
(.seq (.reg [oP 6 (.mv (.c (.bool true)))] [6])
.ret)
.skip))
(.seq (.seq (.reg [mV 38 2,
mV 39 1,
oP 40 (.bin .sub (.t 38) (.t 39)),
oP 41 (.bin .lss (.t 40) (cI 50))] [0,1,2,7,8,41])
(.cond (.t 41)
(.seq (.reg [oP 6 (.mv (.c (.bool false)))] [6])
.ret)
.skip))
(.seq (.dreg [mV 42 0,
mV 43 7,
mV 44 0,
mV 45 7,
oP 46 (.bin .sub (.t 45) (cI 1)),
mV 47 0,
mV 48 7,
oP 49 (.bin .sub (.t 48) (cI 1)),
oP 50 (.ixS 1 (.t 47) (.t 49)),
oP 51 (.load none (.t 50)),
mV 52 0,
mV 53 7,
oP 54 (.ixS 1 (.t 52) (.t 53)),
oP 55 (.load none (.t 54)),
oP 56 (.ixS 1 (.t 42) (.t 43)),
oN (.store 1 (.t 56) (.t 51)),
oP 57 (.ixS 1 (.t 44) (.t 46)),
oN (.store 1 (.t 57) (.t 55))] [0,1,2,7,8] [[],[],[],[],[3],[],[],[6],[5,6,7],[5,6,7,8],[],[],[10,11],[10,11,12],[0,1,5,6,7,8,9,10,11,12,13],[0,1,5,6,7,8,9,10,11,12,13,14],[0,1,2,3,4,5,6,7,8,9,10,11,12,13,14,15],[0,1,2,3,4,5,6,7,8,9,10,11,12,13,14,15,16]])
(.seq (.seq (.reg [mV 58 7,
mV 59 1,
oP 60 (.bin .sub (.t 58) (.t 59)),
oP 61 (.bin .geq (.t 60) (cI 2))] [0,1,2,7,8,61])
(.cond (.t 61)
(.seq (.reg [mV 62 7,
oP 63 (.bin .sub (.t 62) (cI 1)),
mV 9 63] [0,1,2,7,8,9])
(.block 4
(.loop [0,1,2,7,8,9]
(.seq (.seq (.reg [mV 64 9,
oP 65 (.bin .geq (.t 64) (cI 1))] [0,1,2,7,8,9,65])
(.cond (.t 65)
.skip
(.exit 4)))
(.seq (.block 5
(.seq (.seq (.dreg [mV 68 0,
mV 69 9,
oP 70 (.ixS 1 (.t 68) (.t 69)),
oP 71 (.load none (.t 70)),
mV 72 0,
mV 73 9,
oP 74 (.bin .sub (.t 73) (cI 1)),
oP 75 (.ixS 1 (.t 72) (.t 74)),
oP 76 (.load none (.t 75)),
oP 77 (.call (.f 172) [false,false] [(.t 71),(.t 76)]),
oP 78 (.un .not (.t 77))] [0,1,2,7,8,9,78] [[],[],[0,1],[0,1,2],[],[],[5],[4,5,6],[4,5,6,7],[0,1,2,3,4,5,6,7,8],[0,1,2,3,4,5,6,7,8,9]])
(.cond (.t 78)
(.exit 4)
.skip))
(.dreg [mV 79 0,
mV 80 9,
mV 81 0,
mV 82 9,
oP 83 (.bin .sub (.t 82) (cI 1)),
mV 84 0,
mV 85 9,
oP 86 (.bin .sub (.t 85) (cI 1)),
oP 87 (.ixS 1 (.t 84) (.t 86)),
oP 88 (.load none (.t 87)),
mV 89 0,
mV 90 9,
oP 91 (.ixS 1 (.t 89) (.t 90)),
oP 92 (.load none (.t 91)),
oP 93 (.ixS 1 (.t 79) (.t 80)),
oN (.store 1 (.t 93) (.t 88)),
oP 94 (.ixS 1 (.t 81) (.t 83)),
oN (.store 1 (.t 94) (.t 92))] [0,1,2,7,8,9] [[],[],[],[],[3],[],[],[6],[5,6,7],[5,6,7,8],[],[],[10,11],[10,11,12],[0,1,5,6,7,8,9,10,11,12,13],[0,1,5,6,7,8,9,10,11,12,13,14],[0,1,2,3,4,5,6,7,8,9,10,11,12,13,14,15],[0,1,2,3,4,5,6,7,8,9,10,11,12,13,14,15,16]])))
(.reg [mV 66 9,
oP 67 (.bin .sub (.t 66) (cI 1)),
mV 9 67] [0,1,2,7,8,9]))))))
.skip))
(.seq (.reg [mV 95 2,
mV 96 7,
oP 97 (.bin .sub (.t 95) (.t 96)),
oP 98 (.bin .geq (.t 97) (cI 2))] [0,1,2,7,8,98])
(.cond (.t 98)
(.seq (.reg [mV 99 7,
oP 100 (.bin .add (.t 99) (cI 1)),
mV 10 100] [0,1,2,7,8,10])
(.block 6
(.loop [0,1,2,7,8,10]
(.seq (.seq (.reg [mV 101 10,
mV 102 2,
oP 103 (.bin .lss (.t 101) (.t 102))] [0,1,2,7,8,10,103])
(.cond (.t 103)
.skip
(.exit 6)))
(.seq (.block 7
(.seq (.seq (.dreg [mV 106 0,
mV 107 10,
oP 108 (.ixS 1 (.t 106) (.t 107)),
oP 109 (.load none (.t 108)),
mV 110 0,
mV 111 10,
oP 112 (.bin .sub (.t 111) (cI 1)),
oP 113 (.ixS 1 (.t 110) (.t 112)),
oP 114 (.load none (.t 113)),
oP 115 (.call (.f 172) [false,false] [(.t 109),(.t 114)]),
oP 116 (.un .not (.t 115))] [0,1,2,7,8,10,116] [[],[],[0,1],[0,1,2],[],[],[5],[4,5,6],[4,5,6,7],[0,1,2,3,4,5,6,7,8],[0,1,2,3,4,5,6,7,8,9]])
(.cond (.t 116)
(.exit 6)
.skip))
(.dreg [mV 117 0,
mV 118 10,
mV 119 0,
mV 120 10,
oP 121 (.bin .sub (.t 120) (cI 1)),
mV 122 0,
mV 123 10,
oP 124 (.bin .sub (.t 123) (cI 1)),
oP 125 (.ixS 1 (.t 122) (.t 124)),
oP 126 (.load none (.t 125)),
mV 127 0,
mV 128 10,
oP 129 (.ixS 1 (.t 127) (.t 128)),
oP 130 (.load none (.t 129)),
oP 131 (.ixS 1 (.t 117) (.t 118)),
oN (.store 1 (.t 131) (.t 126)),
oP 132 (.ixS 1 (.t 119) (.t 121)),
oN (.store 1 (.t 132) (.t 130))] [0,1,2,7,8,10] [[],[],[],[],[3],[],[],[6],[5,6,7],[5,6,7,8],[],[],[10,11],[10,11,12],[0,1,5,6,7,8,9,10,11,12,13],[0,1,5,6,7,8,9,10,11,12,13,14],[0,1,2,3,4,5,6,7,8,9,10,11,12,13,14,15],[0,1,2,3,4,5,6,7,8,9,10,11,12,13,14,15,16]])))
(.reg [mV 104 10,
oP 105 (.bin .add (.t 104) (cI 1)),
mV 10 105] [0,1,2,7,8,10]))))))
.skip))))))))
(.reg [mV 15 8,
oP 16 (.bin .add (.t 15) (cI 1)),
mV 8 16] [0,1,2,7,8]))))))
(.seq (.reg [oP 6 (.mv (.c (.bool false)))] [6])
.ret))))
abbrev U2:RsT:=[(6,none)]
theorem Vf:SpF 133 Ue UL U2:=SpI Tryz.func171 (by kernel_rfl)
theorem U0:ak Tryz.prog Ue = true:=by kernel_rfl
abbrev Dq:FuncId:=172
def FE:AC:=
(.seq (.reg [oP 4 (.mv (.c (.bool false)))] [0,1])
(.seq (.reg [mV 5 0,
oP 6 (.call (.f 207) [false] [(.t 5)]),
mV 7 6,
gT 8 7 (.mv (.t 1)),
gT 9 7 (.call (.f 207) [false] [(.t 8)]),
gT 10 7 (.un .not (.t 9)),
oP 11 (.pick (.t 7) (.t 10) (.c (.bool false))),
mV 12 11,
gF 13 12 (.mv (.t 0)),
gF 14 12 (.mv (.t 1)),
gF 15 12 (.bin .lss (.t 13) (.t 14)),
oP 16 (.pick (.t 12) (.c (.bool true)) (.t 15)),
mV 4 16] [4])
.ret))
abbrev KG:RsT:=[(4,none)]
theorem O3:SpF 17 Dq FE KG:=SpI Tryz.func172 (by kernel_rfl)
theorem LI:ak Tryz.prog Dq = true:=by kernel_rfl
abbrev Uk:FuncId:=173
def Up:AC:=
(.seq (.reg [oP 8 (.mv (cI 0))] [0,1,2,3])
(.seq (.dreg [mV 11 0,
mV 12 1,
mV 13 0,
mV 14 3,
mV 15 0,
mV 16 3,
oP 17 (.ixS 1 (.t 15) (.t 16)),
oP 18 (.load none (.t 17)),
mV 19 0,
mV 20 1,
oP 21 (.ixS 1 (.t 19) (.t 20)),
oP 22 (.load none (.t 21)),
oP 23 (.ixS 1 (.t 11) (.t 12)),
oN (.store 1 (.t 23) (.t 18)),
oP 24 (.ixS 1 (.t 13) (.t 14)),
oN (.store 1 (.t 24) (.t 22))] [0,1,2] [[],[],[],[],[],[],[4,5],[4,5,6],[],[],[8,9],[8,9,10],[0,1,4,5,6,7,8,9,10,11],[0,1,4,5,6,7,8,9,10,11,12],[0,1,2,3,4,5,6,7,8,9,10,11,12,13],[0,1,2,3,4,5,6,7,8,9,10,11,12,13,14]])
(.seq (.reg [mV 25 1,
oP 26 (.bin .add (.t 25) (cI 1)),
mV 27 2,
oP 28 (.bin .sub (.t 27) (cI 1)),
mV 9 26,
mV 10 28] [0,1,9,10])
(.seq (.block 0
(.loop [0,1,9,10]
(.block 1
(.seq (.block 2
(.loop [0,1,9,10]
(.seq (.seq (.dreg [mV 29 9,
mV 30 10,
oP 31 (.bin .leq (.t 29) (.t 30)),
mV 32 31,
gT 33 32 (.mv (.t 0)),
gT 34 32 (.mv (.t 1)),
gT 35 32 (.ixS 1 (.t 33) (.t 34)),
gT 36 32 (.load none (.t 35)),
gT 37 32 (.mv (.t 0)),
gT 38 32 (.mv (.t 9)),
gT 39 32 (.ixS 1 (.t 37) (.t 38)),
gT 40 32 (.load none (.t 39)),
gT 41 32 (.call (.f 172) [false,false] [(.t 36),(.t 40)]),
gT 42 32 (.un .not (.t 41)),
oP 43 (.pick (.t 32) (.t 42) (.c (.bool false)))] [0,1,9,10,43] [[],[],[0,1],[0,1,2],[0,1,2,3],[0,1,2,3],[0,1,2,3,4,5],[0,1,2,3,4,5,6],[0,1,2,3],[0,1,2,3],[0,1,2,3,8,9],[0,1,2,3,8,9,10],[0,1,2,3,4,5,6,7,8,9,10,11],[0,1,2,3,4,5,6,7,8,9,10,11,12],[0,1,2,3,4,5,6,7,8,9,10,11,12,13]])
(.cond (.t 43)
.skip
(.exit 2)))
(.block 3
(.reg [mV 44 9,
oP 45 (.bin .add (.t 44) (cI 1)),
mV 9 45] [0,1,9,10])))))
(.seq (.block 4
(.loop [0,1,9,10]
(.seq (.seq (.dreg [mV 46 9,
mV 47 10,
oP 48 (.bin .leq (.t 46) (.t 47)),
mV 49 48,
gT 50 49 (.mv (.t 0)),
gT 51 49 (.mv (.t 1)),
gT 52 49 (.ixS 1 (.t 50) (.t 51)),
gT 53 49 (.load none (.t 52)),
gT 54 49 (.mv (.t 0)),
gT 55 49 (.mv (.t 10)),
gT 56 49 (.ixS 1 (.t 54) (.t 55)),
gT 57 49 (.load none (.t 56)),
gT 58 49 (.call (.f 172) [false,false] [(.t 53),(.t 57)]),
oP 59 (.pick (.t 49) (.t 58) (.c (.bool false)))] [0,1,9,10,59] [[],[],[0,1],[0,1,2],[0,1,2,3],[0,1,2,3],[0,1,2,3,4,5],[0,1,2,3,4,5,6],[0,1,2,3],[0,1,2,3],[0,1,2,3,8,9],[0,1,2,3,8,9,10],[0,1,2,3,4,5,6,7,8,9,10,11],[0,1,2,3,4,5,6,7,8,9,10,11,12]])
(.cond (.t 59)
.skip
(.exit 4)))
(.block 5
(.reg [mV 60 10,
oP 61 (.bin .sub (.t 60) (cI 1)),
mV 10 61] [0,1,9,10])))))
(.seq (.seq (.reg [mV 62 9,
mV 63 10,
oP 64 (.bin .gtr (.t 62) (.t 63))] [0,1,9,10,64])
(.cond (.t 64)
(.exit 0)
.skip))
(.seq (.dreg [mV 65 0,
mV 66 9,
mV 67 0,
mV 68 10,
mV 69 0,
mV 70 10,
oP 71 (.ixS 1 (.t 69) (.t 70)),
oP 72 (.load none (.t 71)),
mV 73 0,
mV 74 9,
oP 75 (.ixS 1 (.t 73) (.t 74)),
oP 76 (.load none (.t 75)),
oP 77 (.ixS 1 (.t 65) (.t 66)),
oN (.store 1 (.t 77) (.t 72)),
oP 78 (.ixS 1 (.t 67) (.t 68)),
oN (.store 1 (.t 78) (.t 76))] [0,1,9,10] [[],[],[],[],[],[],[4,5],[4,5,6],[],[],[8,9],[8,9,10],[0,1,4,5,6,7,8,9,10,11],[0,1,4,5,6,7,8,9,10,11,12],[0,1,2,3,4,5,6,7,8,9,10,11,12,13],[0,1,2,3,4,5,6,7,8,9,10,11,12,13,14]])
(.seq (.reg [mV 79 9,
oP 80 (.bin .add (.t 79) (cI 1)),
mV 9 80] [0,1,9,10])
(.reg [mV 81 10,
oP 82 (.bin .sub (.t 81) (cI 1)),
mV 10 82] [0,1,9,10])))))))))
(.seq (.reg [mV 83 9,
mV 8 83] [8])
.ret)))))
abbrev U3:RsT:=[(8,none)]
theorem Vn:SpF 84 Uk Up U3:=SpI Tryz.func173 (by kernel_rfl)
theorem Vy:ak Tryz.prog Uk = true:=by kernel_rfl
abbrev Uv:FuncId:=174
def UJ:AC:=
(.seq (.reg [oP 8 (.mv (cI 0)),
oP 9 (.mv (.c (.bool false)))] [0,1,2,3])
(.seq (.dreg [mV 12 0,
mV 13 1,
mV 14 0,
mV 15 3,
mV 16 0,
mV 17 3,
oP 18 (.ixS 1 (.t 16) (.t 17)),
oP 19 (.load none (.t 18)),
mV 20 0,
mV 21 1,
oP 22 (.ixS 1 (.t 20) (.t 21)),
oP 23 (.load none (.t 22)),
oP 24 (.ixS 1 (.t 12) (.t 13)),
oN (.store 1 (.t 24) (.t 19)),
oP 25 (.ixS 1 (.t 14) (.t 15)),
oN (.store 1 (.t 25) (.t 23))] [0,1,2] [[],[],[],[],[],[],[4,5],[4,5,6],[],[],[8,9],[8,9,10],[0,1,4,5,6,7,8,9,10,11],[0,1,4,5,6,7,8,9,10,11,12],[0,1,2,3,4,5,6,7,8,9,10,11,12,13],[0,1,2,3,4,5,6,7,8,9,10,11,12,13,14]])
(.seq (.reg [mV 26 1,
oP 27 (.bin .add (.t 26) (cI 1)),
mV 28 2,
oP 29 (.bin .sub (.t 28) (cI 1)),
mV 10 27,
mV 11 29] [0,1,10,11])
(.seq (.block 0
(.loop [0,1,10,11]
(.seq (.seq (.dreg [mV 30 10,
mV 31 11,
oP 32 (.bin .leq (.t 30) (.t 31)),
mV 33 32,
gT 34 33 (.mv (.t 0)),
gT 35 33 (.mv (.t 10)),
gT 36 33 (.ixS 1 (.t 34) (.t 35)),
gT 37 33 (.load none (.t 36)),
gT 38 33 (.mv (.t 0)),
gT 39 33 (.mv (.t 1)),
gT 40 33 (.ixS 1 (.t 38) (.t 39)),
gT 41 33 (.load none (.t 40)),
gT 42 33 (.call (.f 172) [false,false] [(.t 37),(.t 41)]),
oP 43 (.pick (.t 33) (.t 42) (.c (.bool false)))] [0,1,10,11,43] [[],[],[0,1],[0,1,2],[0,1,2,3],[0,1,2,3],[0,1,2,3,4,5],[0,1,2,3,4,5,6],[0,1,2,3],[0,1,2,3],[0,1,2,3,8,9],[0,1,2,3,8,9,10],[0,1,2,3,4,5,6,7,8,9,10,11],[0,1,2,3,4,5,6,7,8,9,10,11,12]])
(.cond (.t 43)
.skip
(.exit 0)))
(.block 1
(.reg [mV 44 10,
oP 45 (.bin .add (.t 44) (cI 1)),
mV 10 45] [0,1,10,11])))))
(.seq (.block 2
(.loop [0,1,10,11]
(.seq (.seq (.dreg [mV 46 10,
mV 47 11,
oP 48 (.bin .leq (.t 46) (.t 47)),
mV 49 48,
gT 50 49 (.mv (.t 0)),
gT 51 49 (.mv (.t 11)),
gT 52 49 (.ixS 1 (.t 50) (.t 51)),
gT 53 49 (.load none (.t 52)),
gT 54 49 (.mv (.t 0)),
gT 55 49 (.mv (.t 1)),
gT 56 49 (.ixS 1 (.t 54) (.t 55)),
gT 57 49 (.load none (.t 56)),
gT 58 49 (.call (.f 172) [false,false] [(.t 53),(.t 57)]),
gT 59 49 (.un .not (.t 58)),
oP 60 (.pick (.t 49) (.t 59) (.c (.bool false)))] [0,1,10,11,60] [[],[],[0,1],[0,1,2],[0,1,2,3],[0,1,2,3],[0,1,2,3,4,5],[0,1,2,3,4,5,6],[0,1,2,3],[0,1,2,3],[0,1,2,3,8,9],[0,1,2,3,8,9,10],[0,1,2,3,4,5,6,7,8,9,10,11],[0,1,2,3,4,5,6,7,8,9,10,11,12],[0,1,2,3,4,5,6,7,8,9,10,11,12,13]])
(.cond (.t 60)
.skip
(.exit 2)))
(.block 3
(.reg [mV 61 11,
oP 62 (.bin .sub (.t 61) (cI 1)),
mV 11 62] [0,1,10,11])))))
(.seq (.seq (.reg [mV 63 10,
mV 64 11,
oP 65 (.bin .gtr (.t 63) (.t 64))] [0,1,10,11,65])
(.cond (.t 65)
(.seq (.dreg [mV 66 0,
mV 67 11,
mV 68 0,
mV 69 1,
mV 70 0,
mV 71 1,
oP 72 (.ixS 1 (.t 70) (.t 71)),
oP 73 (.load none (.t 72)),
mV 74 0,
mV 75 11,
oP 76 (.ixS 1 (.t 74) (.t 75)),
oP 77 (.load none (.t 76)),
oP 78 (.ixS 1 (.t 66) (.t 67)),
oN (.store 1 (.t 78) (.t 73)),
oP 79 (.ixS 1 (.t 68) (.t 69)),
oN (.store 1 (.t 79) (.t 77))] [11] [[],[],[],[],[],[],[4,5],[4,5,6],[],[],[8,9],[8,9,10],[0,1,4,5,6,7,8,9,10,11],[0,1,4,5,6,7,8,9,10,11,12],[0,1,2,3,4,5,6,7,8,9,10,11,12,13],[0,1,2,3,4,5,6,7,8,9,10,11,12,13,14]])
(.seq (.reg [mV 80 11,
mV 8 80,
oP 9 (.mv (.c (.bool true)))] [8,9])
.ret))
.skip))
(.seq (.dreg [mV 81 0,
mV 82 10,
mV 83 0,
mV 84 11,
mV 85 0,
mV 86 11,
oP 87 (.ixS 1 (.t 85) (.t 86)),
oP 88 (.load none (.t 87)),
mV 89 0,
mV 90 10,
oP 91 (.ixS 1 (.t 89) (.t 90)),
oP 92 (.load none (.t 91)),
oP 93 (.ixS 1 (.t 81) (.t 82)),
oN (.store 1 (.t 93) (.t 88)),
oP 94 (.ixS 1 (.t 83) (.t 84)),
oN (.store 1 (.t 94) (.t 92))] [0,1,10,11] [[],[],[],[],[],[],[4,5],[4,5,6],[],[],[8,9],[8,9,10],[0,1,4,5,6,7,8,9,10,11],[0,1,4,5,6,7,8,9,10,11,12],[0,1,2,3,4,5,6,7,8,9,10,11,12,13],[0,1,2,3,4,5,6,7,8,9,10,11,12,13,14]])
(.seq (.reg [mV 95 10,
oP 96 (.bin .add (.t 95) (cI 1)),
mV 10 96] [0,1,10,11])
(.seq (.reg [mV 97 11,
oP 98 (.bin .sub (.t 97) (cI 1)),
mV 11 98] [0,1,10,11])
(.seq (.block 4
(.loop [0,1,10,11]
(.block 5
(.seq (.block 6
(.loop [0,1,10,11]
(.seq (.seq (.dreg [mV 99 10,
mV 100 11,
oP 101 (.bin .leq (.t 99) (.t 100)),
mV 102 101,
gT 103 102 (.mv (.t 0)),
gT 104 102 (.mv (.t 10)),
gT 105 102 (.ixS 1 (.t 103) (.t 104)),
gT 106 102 (.load none (.t 105)),
gT 107 102 (.mv (.t 0)),
gT 108 102 (.mv (.t 1)),
gT 109 102 (.ixS 1 (.t 107) (.t 108)),
gT 110 102 (.load none (.t 109)),
gT 111 102 (.call (.f 172) [false,false] [(.t 106),(.t 110)]),
oP 112 (.pick (.t 102) (.t 111) (.c (.bool false)))] [0,1,10,11,112] [[],[],[0,1],[0,1,2],[0,1,2,3],[0,1,2,3],[0,1,2,3,4,5],[0,1,2,3,4,5,6],[0,1,2,3],[0,1,2,3],[0,1,2,3,8,9],[0,1,2,3,8,9,10],[0,1,2,3,4,5,6,7,8,9,10,11],[0,1,2,3,4,5,6,7,8,9,10,11,12]])
(.cond (.t 112)
.skip
(.exit 6)))
(.block 7
(.reg [mV 113 10,
oP 114 (.bin .add (.t 113) (cI 1)),
mV 10 114] [0,1,10,11])))))
(.seq (.block 8
(.loop [0,1,10,11]
(.seq (.seq (.dreg [mV 115 10,
mV 116 11,
oP 117 (.bin .leq (.t 115) (.t 116)),
mV 118 117,
gT 119 118 (.mv (.t 0)),
gT 120 118 (.mv (.t 11)),
gT 121 118 (.ixS 1 (.t 119) (.t 120)),
gT 122 118 (.load none (.t 121)),
gT 123 118 (.mv (.t 0)),
gT 124 118 (.mv (.t 1)),
gT 125 118 (.ixS 1 (.t 123) (.t 124)),
gT 126 118 (.load none (.t 125)),
gT 127 118 (.call (.f 172) [false,false] [(.t 122),(.t 126)]),
gT 128 118 (.un .not (.t 127)),
oP 129 (.pick (.t 118) (.t 128) (.c (.bool false)))] [0,1,10,11,129] [[],[],[0,1],[0,1,2],[0,1,2,3],[0,1,2,3],[0,1,2,3,4,5],[0,1,2,3,4,5,6],[0,1,2,3],[0,1,2,3],[0,1,2,3,8,9],[0,1,2,3,8,9,10],[0,1,2,3,4,5,6,7,8,9,10,11],[0,1,2,3,4,5,6,7,8,9,10,11,12],[0,1,2,3,4,5,6,7,8,9,10,11,12,13]])
(.cond (.t 129)
.skip
(.exit 8)))
(.block 9
(.reg [mV 130 11,
oP 131 (.bin .sub (.t 130) (cI 1)),
mV 11 131] [0,1,10,11])))))
(.seq (.seq (.reg [mV 132 10,
mV 133 11,
oP 134 (.bin .gtr (.t 132) (.t 133))] [0,1,10,11,134])
(.cond (.t 134)
(.exit 4)
.skip))
(.seq (.dreg [mV 135 0,
mV 136 10,
mV 137 0,
mV 138 11,
mV 139 0,
mV 140 11,
oP 141 (.ixS 1 (.t 139) (.t 140)),
oP 142 (.load none (.t 141)),
mV 143 0,
mV 144 10,
oP 145 (.ixS 1 (.t 143) (.t 144)),
oP 146 (.load none (.t 145)),
oP 147 (.ixS 1 (.t 135) (.t 136)),
oN (.store 1 (.t 147) (.t 142)),
oP 148 (.ixS 1 (.t 137) (.t 138)),
oN (.store 1 (.t 148) (.t 146))] [0,1,10,11] [[],[],[],[],[],[],[4,5],[4,5,6],[],[],[8,9],[8,9,10],[0,1,4,5,6,7,8,9,10,11],[0,1,4,5,6,7,8,9,10,11,12],[0,1,2,3,4,5,6,7,8,9,10,11,12,13],[0,1,2,3,4,5,6,7,8,9,10,11,12,13,14]])
(.seq (.reg [mV 149 10,
oP 150 (.bin .add (.t 149) (cI 1)),
mV 10 150] [0,1,10,11])
(.reg [mV 151 11,
oP 152 (.bin .sub (.t 151) (cI 1)),
mV 11 152] [0,1,10,11])))))))))
(.seq (.dreg [mV 153 0,
mV 154 11,
mV 155 0,
mV 156 1,
mV 157 0,
mV 158 1,
oP 159 (.ixS 1 (.t 157) (.t 158)),
oP 160 (.load none (.t 159)),
mV 161 0,
mV 162 11,
oP 163 (.ixS 1 (.t 161) (.t 162)),
oP 164 (.load none (.t 163)),
oP 165 (.ixS 1 (.t 153) (.t 154)),
oN (.store 1 (.t 165) (.t 160)),
oP 166 (.ixS 1 (.t 155) (.t 156)),
oN (.store 1 (.t 166) (.t 164))] [11] [[],[],[],[],[],[],[4,5],[4,5,6],[],[],[8,9],[8,9,10],[0,1,4,5,6,7,8,9,10,11],[0,1,4,5,6,7,8,9,10,11,12],[0,1,2,3,4,5,6,7,8,9,10,11,12,13],[0,1,2,3,4,5,6,7,8,9,10,11,12,13,14]])
(.seq (.reg [mV 167 11,
mV 8 167,
oP 9 (.mv (.c (.bool false)))] [8,9])
.ret))))))))))))
abbrev U1:RsT:=[(8,none),(9,none)]
theorem Vz:SpF 168 Uv UJ U1:=SpI Tryz.func174 (by kernel_rfl)
theorem Vi:ak Tryz.prog Uv = true:=by kernel_rfl
abbrev DK:FuncId:=176
def Gu:AC:=
(.seq (.reg [oP 2 (.mv (cI 0))] [0,2])
(.seq (.seq (.reg [mV 3 0,
oP 4 (.bin .geq (.t 3) (.c (.int .u64 4294967296)))] [0,2,4])
(.cond (.t 4)
(.seq (.reg [mV 5 0,
oP 6 (.bin .shr (.t 5) (.c (.int .u64 32))),
mV 0 6] [0])
(.reg [oP 2 (.mv (cI 32))] [0,2]))
.skip))
(.seq (.seq (.reg [mV 7 0,
oP 8 (.bin .geq (.t 7) (.c (.int .u64 65536)))] [0,2,8])
(.cond (.t 8)
(.seq (.reg [mV 9 0,
oP 10 (.bin .shr (.t 9) (.c (.int .u64 16))),
mV 0 10] [0,2])
(.reg [mV 11 2,
oP 12 (.bin .add (.t 11) (cI 16)),
mV 2 12] [0,2]))
.skip))
(.seq (.seq (.reg [mV 13 0,
oP 14 (.bin .geq (.t 13) (.c (.int .u64 256)))] [0,2,14])
(.cond (.t 14)
(.seq (.reg [mV 15 0,
oP 16 (.bin .shr (.t 15) (.c (.int .u64 8))),
mV 0 16] [0,2])
(.reg [mV 17 2,
oP 18 (.bin .add (.t 17) (cI 8)),
mV 2 18] [0,2]))
.skip))
(.seq (.reg [mV 19 2,
mV 20 0,
oP 21 (.conv .u8 (.t 20)),
⟨some 22,none, .ixStr (.c (.str ⟨#[0,1,2,2,3,3,3,3,4,4,4,4,4,4,4,4,5,5,5,5,5,5,5,5,5,5,5,5,5,5,5,5,6,6,6,6,6,6,6,6,6,6,6,6,6,6,6,6,6,6,6,6,6,6,6,6,6,6,6,6,6,6,6,6,7,7,7,7,7,7,7,7,7,7,7,7,7,7,7,7,7,7,7,7,7,7,7,7,7,7,7,7,7,7,7,7,7,7,7,7,7,7,7,7,7,7,7,7,7,7,7,7,7,7,7,7,7,7,7,7,7,7,7,7,7,7,7,7,8,8,8,8,8,8,8,8,8,8,8,8,8,8,8,8,8,8,8,8,8,8,8,8,8,8,8,8,8,8,8,8,8,8,8,8,8,8,8,8,8,8,8,8,8,8,8,8,8,8,8,8,8,8,8,8,8,8,8,8,8,8,8,8,8,8,8,8,8,8,8,8,8,8,8,8,8,8,8,8,8,8,8,8,8,8,8,8,8,8,8,8,8,8,8,8,8,8,8,8,8,8,8,8,8,8,8,8,8,8,8,8,8,8,8,8,8,8,8,8,8,8,8,8,8,8,8,8]⟩)) (.t 21)⟩,
oP 23 (.conv .i64 (.t 22)),
oP 24 (.bin .add (.t 19) (.t 23)),
mV 2 24] [2])
.ret)))))
abbrev MN:RsT:=[(2,none)]
theorem La:SpF 25 DK Gu MN:=SpI Tryz.func176 (by kernel_rfl)
theorem KM:ak Tryz.prog DK = true:=by kernel_rfl
abbrev CU:FuncId:=177
def GB:AC:=
(.seq (.reg [oP 3 (.pbox 1 (.t 1)),
oP 4 (.mv (cI 0))] [0,3])
(.seq (.reg [mV 5 0,
oP 6 (.nilchk (.t 5)),
oP 7 (.fieldAddr (some 1) 0 (.t 6)),
oP 8 (.fieldAddr none 0 (.t 7)),
oP 9 (.load none (.t 8)),
oP 10 (.mkfunc (.func 209) [] [(.t 3)]),
oP 11 (.call (.f 208) [true,false] [(.t 9),(.t 10)]),
mV 4 11] [4])
.ret))
abbrev KE:RsT:=[(4,none)]
theorem Nt:SpF 12 CU GB KE:=SpI Tryz.func177 (by kernel_rfl)
theorem wA:ak Tryz.prog CU = true:=by kernel_rfl
abbrev DD:FuncId:=178
def G5:AC:=
(.seq (.reg [oP 4 (.mv (.c (.bool false)))] [0,1])
(.seq (.reg [mV 5 0,
mV 6 1,
oP 7 (.call (.f 208) [true,false] [(.t 5),(.t 6)]),
oP 8 (.bin .geq (.t 7) (cI 0)),
mV 4 8] [4])
.ret))
abbrev NU:RsT:=[(4,none)]
theorem Oj:SpF 9 DD G5 NU:=SpI Tryz.func178 (by kernel_rfl)
theorem Fu:ak Tryz.prog DD = true:=by kernel_rfl
abbrev NT:FuncId:=179
abbrev De:FuncId:=180
def Gr:AC:=
(.seq (.reg [oP 4 (.mv (.c (.bool false)))] [0,1])
(.seq (.reg [mV 5 0,
mV 6 1,
oP 7 (.call (.f 210) [true,false] [(.t 5),(.t 6)]),
oP 8 (.bin .geq (.t 7) (cI 0)),
mV 4 8] [4])
.ret))
abbrev Kq:RsT:=[(4,none)]
theorem MJ:SpF 9 De Gr Kq:=SpI Tryz.func180 (by kernel_rfl)
theorem zY:ak Tryz.prog De = true:=by kernel_rfl
abbrev AT:FuncId:=181
def G4:AC:=
(.seq (.reg [oP 3 (.mv (.c (.bool false)))] [0,1])
(.seq (.reg [mV 4 0,
oP 5 (.call (.f 177) [true,false] [(.t 1),(.t 4)]),
oP 6 (.bin .lss (.t 5) (cI 0)),
mV 3 6] [3])
.ret))
abbrev Pn:RsT:=[(3,none)]
theorem Nu:SpF 7 AT G4 Pn:=SpI Tryz.func181 (by kernel_rfl)
theorem O0:ak Tryz.prog AT = true:=by kernel_rfl
abbrev Cp:FuncId:=182
def FK:AC:=
(.seq (.reg [oP 2 (.mv (.c (.bool false)))] [0])
(.seq (.seq (.reg [mV 5 0,
oP 6 (.len (.t 5)),
oP 7 (.mv (cI 0))] [0,5,6,7])
(.block 0
(.loop [0,5,6,7]
(.seq (.reg [oP 8 (.bin .lss (.t 7) (.t 6))] [0,5,6,7,8])
(.seq (.cond (.t 8)
.skip
(.exit 0))
(.seq (.block 1
(.seq (.reg [mV 9 7,
oP 10 (.ixS 1 (.t 5) (.t 7)),
oP 11 (.load none (.t 10)),
mV 3 9,
mV 4 11] [0,3,4,5,6,7])
(.seq (.reg [mV 12 0,
mV 13 3,
oP 14 (.subq 1 (.t 12) none (some (.t 13))),
mV 15 4,
oP 16 (.call (.f 122) [true,false] [(.t 14),(.t 15)])] [0,5,6,7,16])
(.cond (.t 16)
(.seq (.reg [oP 2 (.mv (.c (.bool true)))] [2])
.ret)
.skip))))
(.reg [oP 17 (.bin .add (.t 7) (cI 1)),
mV 7 17] [0,5,6,7])))))))
(.seq (.reg [oP 2 (.mv (.c (.bool false)))] [2])
.ret)))
abbrev NH:RsT:=[(2,none)]
theorem L1:SpF 18 Cp FK NH:=SpI Tryz.func182 (by kernel_rfl)
theorem GX:ak Tryz.prog Cp = true:=by kernel_rfl
abbrev AL:FuncId:=183
def GP:AC:=
(.seq (.reg [oP 4 (.mv (.c (.bool false)))] [0,1,2])
(.seq (.qreg [oP 5 (.load (some 7) (.t 1)),
oP 6 (.fieldAddr (some 1) 0 (.t 2)),
oP 7 (.fieldAddr none 0 (.t 6)),
oP 8 (.load none (.t 7)),
mV 9 0,
oP 10 (.call (.f 177) [true,false] [(.t 2),(.t 9)]),
oP 11 (.ixS 7 (.t 8) (.t 10)),
oP 12 (.load (some 7) (.t 11)),
oP 13 (.call (.f 184) [true,true] [(.t 5),(.t 12)]),
oP 14 (.un .not (.t 13)),
mV 4 14] [4] [[],[],[1],[1,2],[],[4],[1,2,3,4,5],[1,2,3,4,5,6],[0,1,2,3,4,5,6,7],[0,1,2,3,4,5,6,7,8],[0,1,2,3,4,5,6,7,8,9]] [([0,1,2,3,4],5),([6,7],8)] [9,10])
.ret))
abbrev NB:RsT:=[(4,none)]
theorem Pf:SpF 15 AL GP NB:=SpI Tryz.func183 (by kernel_rfl)
theorem J7:ak Tryz.prog AL = true:=by kernel_rfl
abbrev C9:FuncId:=184
def Gg:AC:=
(.seq (.reg [oP 2 (.pbox 7 (.t 0)),
oP 3 (.pbox 7 (.t 1)),
oP 4 (.mv (.c (.bool false)))] [2,3])
(.seq (.reg [oP 5 (.fieldAddr none 2 (.t 2)),
oP 6 (.load none (.t 5)),
oP 7 (.fieldAddr none 3 (.t 3)),
oP 8 (.load none (.t 7)),
oP 9 (.bin .leq (.t 6) (.t 8)),
mV 10 9,
gT 11 10 (.fieldAddr none 2 (.t 3)),
gT 12 10 (.load none (.t 11)),
gT 13 10 (.fieldAddr none 3 (.t 2)),
gT 14 10 (.load none (.t 13)),
gT 15 10 (.bin .leq (.t 12) (.t 14)),
oP 16 (.pick (.t 10) (.t 15) (.c (.bool false))),
mV 4 16] [4])
.ret))
abbrev JF:RsT:=[(4,none)]
theorem NI:SpF 17 C9 Gg JF:=SpI Tryz.func184 (by kernel_rfl)
theorem MD:ak Tryz.prog C9 = true:=by kernel_rfl
abbrev CP:FuncId:=192
def Gx:AC:=
(.seq (.reg [oP 4 (.mv (.c (.bool false)))] [0,1,2])
(.seq (.reg [mV 5 0,
oP 6 (.load none (.t 1)),
oP 7 (.bin .lss (.t 5) (.t 6)),
mV 8 7,
gF 9 8 (.mv (.t 0)),
gF 10 8 (.load none (.t 2)),
gF 11 8 (.bin .gtr (.t 9) (.t 10)),
oP 12 (.pick (.t 8) (.c (.bool true)) (.t 11)),
mV 4 12] [4])
.ret))
abbrev LV:RsT:=[(4,none)]
theorem JT:SpF 13 CP Gx LV:=SpI Tryz.func192 (by kernel_rfl)
theorem MO:ak Tryz.prog CP = true:=by kernel_rfl
abbrev Ca:FuncId:=193
def FR:AC:=
(.seq (.reg [oP 10 (.fieldAddr none 1 (.t 1)),
oP 11 (.load none (.t 10)),
oP 12 (.lit 2 1 1 [(0,(.t 11))]),
mV 4 12] [0,1,2,4])
(.seq (.seq (.reg [oP 13 (.fieldAddr (some 3) 0 (.t 2)),
oP 14 (.fieldAddr none 0 (.t 13)),
oP 15 (.load none (.t 14)),
oP 16 (.len (.t 15)),
oP 17 (.mv (cI 0))] [0,1,4,15,16,17])
(.block 0
(.loop [0,1,4,15,16,17]
(.seq (.reg [oP 18 (.bin .lss (.t 17) (.t 16))] [0,1,4,15,16,17,18])
(.seq (.cond (.t 18)
.skip
(.exit 0))
(.seq (.block 1
(.seq (.reg [oP 19 (.ixS 7 (.t 15) (.t 17)),
oP 20 (.load (some 7) (.t 19)),
oP 6 (.alloc [.str ByteArray.empty, .int .i64 0, .int .i64 0, .int .i64 0, .int .i64 0, .int .i64 0, .int .i64 0]),
oN (.store 7 (.t 6) (.t 20))] [0,1,4,6,15,16,17])
(.frz 6 true (.seq (.reg [oP 21 (.fieldAddr none 0 (.t 1)),
oP 22 (.load none (.t 21)),
oP 23 (.fieldAddr none 4 (.t 6)),
oP 24 (.load none (.t 23)),
oP 25 (.bin .lss (.t 22) (.t 24)),
mV 26 25,
gT 27 26 (.fieldAddr none 4 (.t 6)),
gT 28 26 (.load none (.t 27)),
gT 29 26 (.fieldAddr none 1 (.t 1)),
gT 30 26 (.load none (.t 29)),
gT 31 26 (.bin .lss (.t 28) (.t 30)),
oP 32 (.pick (.t 26) (.t 31) (.c (.bool false)))] [0,1,4,6,15,16,17,32])
(.cond (.t 32)
(.reg [mV 33 4,
oP 34 (.fieldAddr none 4 (.t 6)),
oP 35 (.load none (.t 34)),
oP 36 (.lit 0 1 1 [(0,(.t 35))]),
oP 37 (.append 1 8 (.t 33) (.t 36)),
mV 4 37] [0,1,4,15,16,17])
.skip)))))
(.reg [oP 38 (.bin .add (.t 17) (cI 1)),
mV 17 38] [0,1,4,15,16,17])))))))
(.seq (.reg [mV 39 4,
oP 40 (.call (.f 75) [true] [(.t 39)])] [0,1,4])
(.seq (.reg [oP 41 (.fieldAddr none 0 (.t 1)),
oP 42 (.load none (.t 41)),
mV 7 42] [0,4,7])
(.seq (.reg [mV 43 4,
oP 44 (.call (.f 194) [true] [(.t 43)]),
oP 45 (.len (.t 44)),
oP 46 (.mv (cI 0))] [0,7,44,45,46])
(.block 2
(.loop [0,7,44,45,46]
(.seq (.reg [oP 47 (.bin .lss (.t 46) (.t 45))] [0,7,44,45,46,47])
(.seq (.cond (.t 47)
.skip
(.exit 2))
(.seq (.block 3
(.seq (.reg [oP 48 (.ixS 1 (.t 44) (.t 46)),
oP 49 (.load none (.t 48)),
mV 9 49] [0,7,9,44,45,46])
(.seq (.seq (.reg [mV 50 0,
mV 51 7,
mV 52 9,
oP 53 (.build [.int .i64 0, .int .i64 0] [(0,1,(.t 51)),(1,1,(.t 52))]),
oP 54 (.call (.t 50) [false] [(.t 53)]),
oP 55 (.un .not (.t 54))] [0,9,44,45,46,55])
(.cond (.t 55)
.ret
.skip))
(.reg [mV 56 9,
mV 7 56] [0,7,44,45,46]))))
(.reg [oP 57 (.bin .add (.t 46) (cI 1)),
mV 46 57] [0,7,44,45,46])))))))))))
abbrev OP:RsT:=[]
theorem Pp:SpF 58 Ca FR OP:=SpI Tryz.func193 (by kernel_rfl)
theorem KW:ak Tryz.prog Ca = true:=by kernel_rfl
abbrev Ej:FuncId:=194
def D9:AC:=
(.seq (.reg [oP 2 (.mv (.c (.slice 1 [])))] [0])
(.seq (.seq (.reg [mV 6 0,
oP 7 (.len (.t 6)),
oP 8 (.bin .lss (.t 7) (cI 2))] [0,8])
(.cond (.t 8)
(.seq (.reg [mV 9 0,
oP 2 (.mvd (.t 9))] [2])
.ret)
.skip))
(.seq (.seq (.reg [oP 3 (.mv (cI 1))] [0,3])
(.block 0
(.loop [0,3]
(.seq (.seq (.reg [mV 10 3,
mV 11 0,
oP 12 (.len (.t 11)),
oP 13 (.bin .lss (.t 10) (.t 12))] [0,3,13])
(.cond (.t 13)
.skip
(.exit 0)))
(.seq (.block 1
(.seq (.dreg [mV 16 0,
mV 17 3,
oP 18 (.ixS 1 (.t 16) (.t 17)),
oP 19 (.load none (.t 18)),
mV 20 0,
mV 21 3,
oP 22 (.bin .sub (.t 21) (cI 1)),
oP 23 (.ixS 1 (.t 20) (.t 22)),
oP 24 (.load none (.t 23)),
oP 25 (.bin .eql (.t 19) (.t 24))] [0,3,25] [[],[],[0,1],[0,1,2],[],[],[5],[4,5,6],[4,5,6,7],[0,1,2,3,4,5,6,7,8]])
(.cond (.t 25)
(.seq (.reg [mV 26 0,
mV 27 3,
oP 28 (.sub 0 1 (.t 26) (some (.t 27)) none none),
mV 4 28] [0,3,4])
(.seq (.seq (.reg [oP 5 (.mv (cI 1))] [0,3,4,5])
(.block 2
(.loop [0,3,4,5]
(.seq (.seq (.reg [mV 29 5,
mV 30 4,
oP 31 (.len (.t 30)),
oP 32 (.bin .lss (.t 29) (.t 31))] [0,3,4,5,32])
(.cond (.t 32)
.skip
(.exit 2)))
(.seq (.block 3
(.seq (.dreg [mV 35 4,
mV 36 5,
oP 37 (.ixS 1 (.t 35) (.t 36)),
oP 38 (.load none (.t 37)),
mV 39 4,
mV 40 5,
oP 41 (.bin .sub (.t 40) (cI 1)),
oP 42 (.ixS 1 (.t 39) (.t 41)),
oP 43 (.load none (.t 42)),
oP 44 (.bin .neq (.t 38) (.t 43))] [0,3,4,5,44] [[],[],[0,1],[0,1,2],[],[],[5],[4,5,6],[4,5,6,7],[0,1,2,3,4,5,6,7,8]])
(.cond (.t 44)
(.seq (.reg [mV 45 0,
mV 46 3,
mV 47 4,
mV 48 5,
oP 49 (.ixS 1 (.t 47) (.t 48)),
oP 50 (.load none (.t 49)),
oP 51 (.ixS 1 (.t 45) (.t 46)),
oN (.store 1 (.t 51) (.t 50))] [0,3,4,5])
(.reg [mV 52 3,
oP 53 (.bin .add (.t 52) (cI 1)),
mV 3 53] [0,3,4,5]))
.skip)))
(.reg [mV 33 5,
oP 34 (.bin .add (.t 33) (cI 1)),
mV 5 34] [0,3,4,5]))))))
(.seq (.reg [mV 54 0,
mV 55 3,
oP 56 (.sub 0 1 (.t 54) (some (.t 55)) none none),
oN (.clear 1 (.int .i64 0) (.t 56))] [0,3])
(.seq (.reg [mV 57 0,
mV 58 3,
oP 59 (.sub 0 1 (.t 57) none (some (.t 58)) none),
oP 2 (.mvd (.t 59))] [2])
.ret))))
.skip)))
(.reg [mV 14 3,
oP 15 (.bin .add (.t 14) (cI 1)),
mV 3 15] [0,3]))))))
(.seq (.reg [mV 60 0,
oP 2 (.mvd (.t 60))] [2])
.ret))))
abbrev Nh:RsT:=[(2,none)]
theorem JO:SpF 61 Ej D9 Nh:=SpI Tryz.func194 (by kernel_rfl)
theorem NL:ak Tryz.prog Ej = true:=by kernel_rfl
abbrev Df:FuncId:=195
def Fz:AC:=
(.seq (.reg [oP 1 (.pbox 3 (.t 0)),
oP 2 (.alloc [.nilfunc, .nilfunc, .nilfunc, .nilfunc, .nilfunc, .nilfunc, .nilfunc, .nilfunc, .nilfunc])] [1,2])
(.seq (.reg [oP 7 (.mkfunc (.func 217) [] [(.t 1)]),
oP 8 (.mkfunc (.func 218) [] [(.t 1)]),
oP 9 (.build [.nilfunc, .nilfunc, .nilfunc] [(0,1,(.f 216)),(1,1,(.t 7)),(2,1,(.t 8))]),
oP 3 (.alloc [.nilfunc, .nilfunc, .nilfunc]),
oN (.store 3 (.t 3) (.t 9))] [2,3])
(.frz 3 true (.seq (.reg [oP 4 (.alloc [.nilfunc, .nilfunc, .nilfunc, .nilfunc, .nilfunc, .nilfunc, .nilfunc, .nilfunc, .nilfunc])] [2,3,4])
(.seq (.seq (.reg [oP 10 (.load (some 3) (.t 3)),
oP 11 (.mv (cI 0))] [2,4,10,11])
(.block 0
(.loop [2,4,10,11]
(.seq (.reg [oP 12 (.bin .lss (.t 11) (cI 3))] [2,4,10,11,12])
(.seq (.cond (.t 12)
.skip
(.exit 0))
(.seq (.block 1
(.seq (.reg [mV 13 11,
oP 14 (.ixV 3 1 none (.t 10) (.t 11)),
mV 5 13,
mV 6 14] [2,4,5,6,10,11])
(.reg [mV 15 5,
mV 16 6,
oP 17 (.build [.nilfunc, .nilfunc, .nilfunc] [(0,1,(.t 16)),(1,1,(.f 219)),(2,1,(.f 220))]),
oP 18 (.ixA 3 3 (some 3) (.t 4) (.t 15)),
oN (.store 3 (.t 18) (.t 17))] [2,4,10,11])))
(.reg [oP 19 (.bin .add (.t 11) (cI 1)),
mV 11 19] [2,4,10,11])))))))
(.seq (.reg [oP 20 (.load (some 9) (.t 4)),
oN (.store 9 (.t 2) (.t 20))] [2])
.ret))))))
abbrev LW:RsT:=[(2,some (some 9))]
theorem Km:SpF 21 Df Fz LW:=SpI Tryz.func195 (by kernel_rfl)
theorem MA:ak Tryz.prog Df = true:=by kernel_rfl
abbrev D0:FuncId:=196
def FH:AC:=
(.seq (.reg [oP 4 (.mv (.c (.bool false)))] [0,1])
(.seq (.reg [mV 5 0,
mV 6 1,
oP 7 (.call (.f 221) [true,false] [(.t 5),(.t 6)]),
oP 8 (.bin .geq (.t 7) (cI 0)),
mV 4 8] [4])
.ret))
abbrev Mr:RsT:=[(4,none)]
theorem Pj:SpF 9 D0 FH Mr:=SpI Tryz.func196 (by kernel_rfl)
theorem F1:ak Tryz.prog D0 = true:=by kernel_rfl
abbrev AQ:FuncId:=197
def GR:AC:=
(.seq (.reg [oP 2 (.pbox 2 (.t 0)),
oP 3 (.mv (.c (.bool false)))] [1,2])
(.seq (.reg [oP 4 (.fieldAddr none 0 (.t 2)),
oP 5 (.load none (.t 4)),
oP 6 (.fieldAddr none 0 (.t 1)),
oP 7 (.load none (.t 6)),
oP 8 (.bin .eql (.t 5) (.t 7)),
mV 3 8] [3])
.ret))
abbrev MS:RsT:=[(3,none)]
theorem KK:SpF 9 AQ GR MS:=SpI Tryz.func197 (by kernel_rfl)
theorem OQ:ak Tryz.prog AQ = true:=by kernel_rfl
abbrev CL:FuncId:=198
def FI:AC:=
(.seq (.reg [oP 6 (.mv (cI 0))] [0,1,2])
(.seq (.reg [oP 7 (.mv (.c (.bool false)))] [0,1,2,7])
(.seq (.seq (.reg [oP 8 (.mv (cI 0))] [0,1,2,7,8])
(.block 0
(.loop [0,1,2,7,8]
(.seq (.seq (.reg [mV 9 8,
mV 10 0,
oP 11 (.len (.t 10)),
oP 12 (.bin .lss (.t 9) (.t 11))] [0,1,2,7,8,12])
(.cond (.t 12)
.skip
(.exit 0)))
(.seq (.block 1
(.seq (.seq (.reg [mV 15 0,
mV 16 8,
oP 17 (.ixS 2 (.t 15) (.t 16)),
oP 18 (.fieldAddr none 0 (.t 17)),
oP 19 (.load none (.t 18)),
mV 20 1,
mV 21 2,
oP 22 (.call (.f 103) [false,false,false] [(.t 19),(.t 20),(.t 21)]),
oP 23 (.un .not (.t 22)),
mV 24 23,
gF 25 24 (.mv (.t 0)),
gF 26 24 (.mv (.t 8)),
gF 27 24 (.ixS 2 (.t 25) (.t 26)),
gF 28 24 (.fieldAddr none 1 (.t 27)),
gF 29 24 (.load none (.t 28)),
gF 30 24 (.mv (.t 1)),
gF 31 24 (.mv (.t 2)),
gF 32 24 (.call (.f 103) [false,false,false] [(.t 29),(.t 30),(.t 31)]),
gF 33 24 (.un .not (.t 32)),
oP 34 (.pick (.t 24) (.c (.bool true)) (.t 33))] [0,1,2,7,8,34])
(.cond (.t 34)
(.seq (.reg [oP 6 (.mv (cI 7))] [6])
.ret)
.skip))
(.dreg [mV 35 7,
mV 36 35,
gF 37 36 (.mv (.t 0)),
gF 38 36 (.mv (.t 8)),
gF 39 36 (.ixS 2 (.t 37) (.t 38)),
gF 40 36 (.fieldAddr none 0 (.t 39)),
gF 41 36 (.load none (.t 40)),
gF 42 36 (.mv (.t 0)),
gF 43 36 (.mv (.t 8)),
gF 44 36 (.ixS 2 (.t 42) (.t 43)),
gF 45 36 (.fieldAddr none 1 (.t 44)),
gF 46 36 (.load none (.t 45)),
gF 47 36 (.bin .gtr (.t 41) (.t 46)),
oP 48 (.pick (.t 36) (.c (.bool true)) (.t 47)),
mV 7 48] [0,1,2,7,8] [[],[0],[0,1],[0,1],[0,1,2,3],[0,1,2,3,4],[0,1,2,3,4,5],[0,1],[0,1],[0,1,7,8],[0,1,7,8,9],[0,1,7,8,9,10],[0,1,2,3,4,5,6,7,8,9,10,11],[0,1,2,3,4,5,6,7,8,9,10,11,12],[0,1,2,3,4,5,6,7,8,9,10,11,12,13]])))
(.reg [mV 13 8,
oP 14 (.bin .add (.t 13) (cI 1)),
mV 8 14] [0,1,2,7,8]))))))
(.seq (.seq (.reg [mV 49 7] [49])
(.cond (.t 49)
(.seq (.reg [oP 6 (.mv (cI 2))] [6])
.ret)
.skip))
(.seq (.reg [oP 6 (.mv (cI 0))] [6])
.ret)))))
abbrev O6:RsT:=[(6,none)]
theorem L0:SpF 50 CL FI O6:=SpI Tryz.func198 (by kernel_rfl)
theorem O5:ak Tryz.prog CL = true:=by kernel_rfl
abbrev Cz:FuncId:=199
def Fw:AC:=
(.seq (.reg [oP 2 (.pbox 3 (.t 0)),
oP 4 (.alloc [.slice 1 [], .slice 1 []])] [1,2,4])
(.seq (.reg [oP 5 (.alloc [.mint 1, .mint 1])] [1,2,4,5])
(.seq (.seq (.reg [oP 6 (.mv (cI 0))] [1,2,4,5,6])
(.block 0
(.loop [1,2,4,5,6]
(.seq (.seq (.reg [mV 9 6,
oP 10 (.fieldAddr none 0 (.t 2)),
oP 11 (.load none (.t 10)),
oP 12 (.len (.t 11)),
oP 13 (.bin .lss (.t 9) (.t 12))] [1,2,4,5,6,13])
(.cond (.t 13)
.skip
(.exit 0)))
(.seq (.block 1
(.seq (.reg [oP 16 (.fieldAddr none 0 (.t 2)),
oP 17 (.load none (.t 16)),
mV 18 6,
oP 19 (.ixS 7 (.t 17) (.t 18)),
oP 20 (.load (some 7) (.t 19)),
oP 7 (.alloc [.str ByteArray.empty, .int .i64 0, .int .i64 0, .int .i64 0, .int .i64 0, .int .i64 0, .int .i64 0]),
oN (.store 7 (.t 7) (.t 20))] [1,2,4,5,6,7])
(.frz 7 true (.seq (.reg [mV 21 1,
oP 22 (.bin .eql (.t 21) (cI 0)),
mV 23 22,
gF 24 23 (.mv (.t 1)),
gF 25 23 (.bin .eql (.t 24) (cI 1)),
oP 26 (.pick (.t 23) (.c (.bool true)) (.t 25)),
mV 27 26,
gF 28 27 (.mv (.t 1)),
gF 29 27 (.bin .eql (.t 28) (cI 2)),
gF 30 27 (.mv (.t 29)),
gT 31 30 (.fieldAddr none 1 (.t 7)),
gT 32 30 (.load none (.t 31)),
gT 33 30 (.fieldAddr none 1 (.t 2)),
gT 34 30 (.load none (.t 33)),
gT 35 30 (.bin .geq (.t 32) (.t 34)),
gF 36 27 (.pick (.t 30) (.t 35) (.c (.bool false))),
oP 37 (.pick (.t 27) (.c (.bool true)) (.t 36)),
mV 38 37,
gF 39 38 (.mv (.t 1)),
gF 40 38 (.bin .eql (.t 39) (cI 3)),
gF 41 38 (.mv (.t 40)),
gT 42 41 (.fieldAddr none 1 (.t 7)),
gT 43 41 (.load none (.t 42)),
gT 44 41 (.fieldAddr none 2 (.t 2)),
gT 45 41 (.load none (.t 44)),
gT 46 41 (.bin .leq (.t 43) (.t 45)),
gF 47 38 (.pick (.t 41) (.t 46) (.c (.bool false))),
oP 48 (.pick (.t 38) (.c (.bool true)) (.t 47)),
mV 8 48] [1,2,4,5,6,7,8])
(.seq (.reg [mV 49 8] [1,2,4,5,6,7,49])
(.cond (.t 49)
(.dreg [oP 50 (.fieldAddr none 0 (.t 5)),
oP 51 (.load none (.t 50)),
oP 52 (.fieldAddr (some 2) 2 (.t 7)),
oP 53 (.fieldAddr none 0 (.t 52)),
oP 54 (.load none (.t 53)),
oP 55 (.lit 0 1 1 [(0,(.t 54))]),
oP 56 (.append 1 8 (.t 51) (.t 55)),
oP 57 (.fieldAddr none 1 (.t 5)),
oP 58 (.load none (.t 57)),
oP 59 (.fieldAddr (some 2) 5 (.t 7)),
oP 60 (.fieldAddr none 1 (.t 59)),
oP 61 (.load none (.t 60)),
oP 62 (.lit 0 1 1 [(0,(.t 61))]),
oP 63 (.append 1 8 (.t 58) (.t 62)),
oP 64 (.fieldAddr none 0 (.t 5)),
oN (.store 1 (.t 64) (.t 56)),
oP 65 (.fieldAddr none 1 (.t 5)),
oN (.store 1 (.t 65) (.t 63))] [1,2,4,5,6] [[],[0],[],[2],[2,3],[2,3,4],[0,1,2,3,4,5],[],[7],[],[9],[9,10],[9,10,11],[0,1,2,3,4,5,6,7,8,9,10,11,12],[0,1,2,3,4,5,6,7,8],[0,1,2,3,4,5,6,7,8,9,10,11,12,13,14],[0,1,2,3,4,5,6,7,8,9,10,11,12,13,14,15],[0,1,2,3,4,5,6,7,8,9,10,11,12,13,14,15,16]])
(.dreg [oP 66 (.fieldAddr none 0 (.t 5)),
oP 67 (.load none (.t 66)),
oP 68 (.fieldAddr (some 2) 2 (.t 7)),
oP 69 (.fieldAddr none 1 (.t 68)),
oP 70 (.load none (.t 69)),
oP 71 (.lit 0 1 1 [(0,(.t 70))]),
oP 72 (.append 1 8 (.t 67) (.t 71)),
oP 73 (.fieldAddr none 1 (.t 5)),
oP 74 (.load none (.t 73)),
oP 75 (.fieldAddr (some 2) 5 (.t 7)),
oP 76 (.fieldAddr none 0 (.t 75)),
oP 77 (.load none (.t 76)),
oP 78 (.lit 0 1 1 [(0,(.t 77))]),
oP 79 (.append 1 8 (.t 74) (.t 78)),
oP 80 (.fieldAddr none 0 (.t 5)),
oN (.store 1 (.t 80) (.t 72)),
oP 81 (.fieldAddr none 1 (.t 5)),
oN (.store 1 (.t 81) (.t 79))] [1,2,4,5,6] [[],[0],[],[2],[2,3],[2,3,4],[0,1,2,3,4,5],[],[7],[],[9],[9,10],[9,10,11],[0,1,2,3,4,5,6,7,8,9,10,11,12],[0,1,2,3,4,5,6,7,8],[0,1,2,3,4,5,6,7,8,9,10,11,12,13,14],[0,1,2,3,4,5,6,7,8,9,10,11,12,13,14,15],[0,1,2,3,4,5,6,7,8,9,10,11,12,13,14,15,16]])))))))
(.reg [mV 14 6,
oP 15 (.bin .add (.t 14) (cI 1)),
mV 6 15] [1,2,4,5,6]))))))
(.seq (.reg [oP 82 (.loadd (some 2) (.t 5)),
oN (.store 2 (.t 4) (.t 82))] [4])
.ret))))
abbrev J6:RsT:=[(4,some (some 2))]
theorem OG:SpF 83 Cz Fw J6:=SpI Tryz.func199 (by kernel_rfl)
theorem Ez:ak Tryz.prog Cz = true:=by kernel_rfl
abbrev Eo:FuncId:=201
def G6:AC:=
(.seq (.reg [oP 2 (.mv (cI 0))] [0])
(.seq (.seq (.reg [mV 3 0,
oP 4 (.bin .eql (.t 3) (.c (.int .u64 0)))] [0,4])
(.cond (.t 4)
(.seq (.reg [oP 2 (.mv (cI 64))] [2])
.ret)
.skip))
(.seq (.reg [mV 5 0,
mV 6 0,
oP 7 (.un .neg (.t 6)),
oP 8 (.bin .and (.t 5) (.t 7)),
oP 9 (.bin .mul (.t 8) (.c (.int .u64 285870213051353865))),
oP 10 (.bin .shr (.t 9) (.c (.int .u64 58))),
oP 11 (.gix 1 (.t 10)),
oP 12 (.load none (.t 11)),
oP 13 (.conv .i64 (.t 12)),
mV 2 13] [2])
.ret)))
abbrev NZ:RsT:=[(2,none)]
theorem KC:SpF 14 Eo G6 NZ:=SpI Tryz.func201 (by kernel_rfl)
theorem KS:ak Tryz.prog Eo = true:=by kernel_rfl
abbrev Uj:FuncId:=202
def UH:AC:=
(.seq (.reg [mV 10 1,
mV 8 10] [0,2,3,8])
(.block 0
(.loop [0,2,3,8]
(.block 1
(.seq (.reg [mV 11 8,
oP 12 (.bin .mul (cI 2) (.t 11)),
oP 13 (.bin .add (.t 12) (cI 1)),
mV 9 13] [0,2,3,8,9])
(.seq (.seq (.reg [mV 14 9,
mV 15 2,
oP 16 (.bin .geq (.t 14) (.t 15))] [0,2,3,8,9,16])
(.cond (.t 16)
(.exit 0)
.skip))
(.seq (.seq (.dreg [mV 17 9,
oP 18 (.bin .add (.t 17) (cI 1)),
mV 19 2,
oP 20 (.bin .lss (.t 18) (.t 19)),
mV 21 20,
gT 22 21 (.mv (.t 0)),
gT 23 21 (.mv (.t 3)),
gT 24 21 (.mv (.t 9)),
gT 25 21 (.bin .add (.t 23) (.t 24)),
gT 26 21 (.ixS 1 (.t 22) (.t 25)),
gT 27 21 (.load none (.t 26)),
gT 28 21 (.mv (.t 0)),
gT 29 21 (.mv (.t 3)),
gT 30 21 (.mv (.t 9)),
gT 31 21 (.bin .add (.t 29) (.t 30)),
gT 32 21 (.bin .add (.t 31) (cI 1)),
gT 33 21 (.ixS 1 (.t 28) (.t 32)),
gT 34 21 (.load none (.t 33)),
gT 35 21 (.call (.f 172) [false,false] [(.t 27),(.t 34)]),
oP 36 (.pick (.t 21) (.t 35) (.c (.bool false)))] [0,2,3,8,9,36] [[],[0],[],[0,1,2],[0,1,2,3],[0,1,2,3,4],[0,1,2,3,4],[0,1,2,3,4],[0,1,2,3,4,6,7],[0,1,2,3,4,5,6,7,8],[0,1,2,3,4,5,6,7,8,9],[0,1,2,3,4],[0,1,2,3,4],[0,1,2,3,4],[0,1,2,3,4,12,13],[0,1,2,3,4,12,13,14],[0,1,2,3,4,11,12,13,14,15],[0,1,2,3,4,11,12,13,14,15,16],[0,1,2,3,4,5,6,7,8,9,10,11,12,13,14,15,16,17],[0,1,2,3,4,5,6,7,8,9,10,11,12,13,14,15,16,17,18]])
(.cond (.t 36)
(.reg [mV 37 9,
oP 38 (.bin .add (.t 37) (cI 1)),
mV 9 38] [0,2,3,8,9])
.skip))
(.seq (.seq (.dreg [mV 39 0,
mV 40 3,
mV 41 8,
oP 42 (.bin .add (.t 40) (.t 41)),
oP 43 (.ixS 1 (.t 39) (.t 42)),
oP 44 (.load none (.t 43)),
mV 45 0,
mV 46 3,
mV 47 9,
oP 48 (.bin .add (.t 46) (.t 47)),
oP 49 (.ixS 1 (.t 45) (.t 48)),
oP 50 (.load none (.t 49)),
oP 51 (.call (.f 172) [false,false] [(.t 44),(.t 50)]),
oP 52 (.un .not (.t 51))] [0,2,3,8,9,52] [[],[],[],[1,2],[0,1,2,3],[0,1,2,3,4],[],[],[],[7,8],[6,7,8,9],[6,7,8,9,10],[0,1,2,3,4,5,6,7,8,9,10,11],[0,1,2,3,4,5,6,7,8,9,10,11,12]])
(.cond (.t 52)
.ret
.skip))
(.seq (.dreg [mV 53 0,
mV 54 3,
mV 55 8,
oP 56 (.bin .add (.t 54) (.t 55)),
mV 57 0,
mV 58 3,
mV 59 9,
oP 60 (.bin .add (.t 58) (.t 59)),
mV 61 0,
mV 62 3,
mV 63 9,
oP 64 (.bin .add (.t 62) (.t 63)),
oP 65 (.ixS 1 (.t 61) (.t 64)),
oP 66 (.load none (.t 65)),
mV 67 0,
mV 68 3,
mV 69 8,
oP 70 (.bin .add (.t 68) (.t 69)),
oP 71 (.ixS 1 (.t 67) (.t 70)),
oP 72 (.load none (.t 71)),
oP 73 (.ixS 1 (.t 53) (.t 56)),
oN (.store 1 (.t 73) (.t 66)),
oP 74 (.ixS 1 (.t 57) (.t 60)),
oN (.store 1 (.t 74) (.t 72))] [0,2,3,9] [[],[],[],[1,2],[],[],[],[5,6],[],[],[],[9,10],[8,9,10,11],[8,9,10,11,12],[],[],[],[15,16],[14,15,16,17],[14,15,16,17,18],[0,1,2,3,8,9,10,11,12,13,14,15,16,17,18,19],[0,1,2,3,8,9,10,11,12,13,14,15,16,17,18,19,20],[0,1,2,3,4,5,6,7,8,9,10,11,12,13,14,15,16,17,18,19,20,21],[0,1,2,3,4,5,6,7,8,9,10,11,12,13,14,15,16,17,18,19,20,21,22]])
(.reg [mV 75 9,
mV 8 75] [0,2,3,8]))))))))))
abbrev Vh:RsT:=[]
theorem Vw:SpF 76 Uj UH Vh:=SpI Tryz.func202 (by kernel_rfl)
theorem Uq:ak Tryz.prog Uj = true:=by kernel_rfl
abbrev Um:FuncId:=203
def UN:AC:=
(.seq (.reg [oP 2 (.mv (.c (.int .u64 0)))] [0])
(.seq (.reg [mV 3 0,
oP 4 (.conv .u64 (.t 3)),
oP 5 (.call (.f 130) [false] [(.t 4)]),
oP 6 (.bin .shl (.c (.int .u64 1)) (.t 5)),
mV 2 6] [2])
.ret))
abbrev Vj:RsT:=[(2,none)]
theorem VE:SpF 7 Um UN Vj:=SpI Tryz.func203 (by kernel_rfl)
theorem Vg:ak Tryz.prog Um = true:=by kernel_rfl
abbrev Ug:FuncId:=204
def UK:AC:=
(.seq (.reg [oP 2 (.mv (.c (.int .u64 0)))] [0])
(.seq (.dreg [mV 3 0,
oP 4 (.nilchk (.t 3)),
oP 5 (.load none (.t 4)),
mV 6 0,
oP 7 (.nilchk (.t 6)),
oP 8 (.load none (.t 7)),
oP 9 (.bin .shl (.t 8) (.c (.int .u64 13))),
oP 10 (.bin .xor (.t 5) (.t 9)),
oP 11 (.nilchk (.t 3)),
oN (.store 1 (.t 11) (.t 10))] [0] [[],[0],[0,1],[],[3],[3,4],[3,4,5],[0,1,2,3,4,5,6],[0,1,2,3,4,5,6,7],[0,1,2,3,4,5,6,7,8]])
(.seq (.dreg [mV 12 0,
oP 13 (.nilchk (.t 12)),
oP 14 (.load none (.t 13)),
mV 15 0,
oP 16 (.nilchk (.t 15)),
oP 17 (.load none (.t 16)),
oP 18 (.bin .shr (.t 17) (.c (.int .u64 7))),
oP 19 (.bin .xor (.t 14) (.t 18)),
oP 20 (.nilchk (.t 12)),
oN (.store 1 (.t 20) (.t 19))] [0] [[],[0],[0,1],[],[3],[3,4],[3,4,5],[0,1,2,3,4,5,6],[0,1,2,3,4,5,6,7],[0,1,2,3,4,5,6,7,8]])
(.seq (.dreg [mV 21 0,
oP 22 (.nilchk (.t 21)),
oP 23 (.load none (.t 22)),
mV 24 0,
oP 25 (.nilchk (.t 24)),
oP 26 (.load none (.t 25)),
oP 27 (.bin .shl (.t 26) (.c (.int .u64 17))),
oP 28 (.bin .xor (.t 23) (.t 27)),
oP 29 (.nilchk (.t 21)),
oN (.store 1 (.t 29) (.t 28))] [0] [[],[0],[0,1],[],[3],[3,4],[3,4,5],[0,1,2,3,4,5,6],[0,1,2,3,4,5,6,7],[0,1,2,3,4,5,6,7,8]])
(.seq (.reg [mV 30 0,
oP 31 (.nilchk (.t 30)),
oP 32 (.load none (.t 31)),
mV 2 32] [2])
.ret)))))
abbrev Vb:RsT:=[(2,none)]
theorem Vx:SpF 33 Ug UK Vb:=SpI Tryz.func204 (by kernel_rfl)
theorem Va:ak Tryz.prog Ug = true:=by kernel_rfl
abbrev Ul:FuncId:=205
def UP:AC:=
(.seq (.reg [oP 6 (.mv (cI 0))] [0,1,2])
(.seq (.reg [mV 7 0,
mV 8 1,
oP 9 (.bin .sub (.t 8) (cI 1)),
mV 10 1,
mV 11 1,
oP 12 (.bin .add (.t 11) (cI 1)),
mV 13 2,
oP 14 (.call (.f 206) [true,false,false,false,false] [(.t 7),(.t 9),(.t 10),(.t 12),(.t 13)]),
mV 6 14] [6])
.ret))
abbrev Vu:RsT:=[(6,none)]
theorem Vk:SpF 15 Ul UP Vu:=SpI Tryz.func205 (by kernel_rfl)
theorem T9:ak Tryz.prog Ul = true:=by kernel_rfl
abbrev Ud:FuncId:=206
def UO:AC:=
(.seq (.reg [oP 10 (.mv (cI 0))] [0,1,2,3,4])
(.seq (.reg [mV 12 0,
mV 13 1,
mV 14 2,
mV 15 4,
oP 16 (.call (.f 222) [true,false,false,false] [(.t 12),(.t 13),(.t 14),(.t 15)]),
mV 11 16,
oP 17 (.extract (.t 11) 0),
oP 18 (.extract (.t 11) 1),
mV 1 17,
mV 2 18] [0,1,2,3,4])
(.seq (.reg [mV 20 0,
mV 21 2,
mV 22 3,
mV 23 4,
oP 24 (.call (.f 222) [true,false,false,false] [(.t 20),(.t 21),(.t 22),(.t 23)]),
mV 19 24,
oP 25 (.extract (.t 19) 0),
oP 26 (.extract (.t 19) 1),
mV 2 25,
mV 3 26] [0,1,2,4])
(.seq (.reg [mV 28 0,
mV 29 1,
mV 30 2,
mV 31 4,
oP 32 (.call (.f 222) [true,false,false,false] [(.t 28),(.t 29),(.t 30),(.t 31)]),
mV 27 32,
oP 33 (.extract (.t 27) 0),
oP 34 (.extract (.t 27) 1),
mV 1 33,
mV 2 34] [2])
(.seq (.reg [mV 35 2,
mV 10 35] [10])
.ret)))))
abbrev U4:RsT:=[(10,none)]
theorem U9:SpF 36 Ud UO U4:=SpI Tryz.func206 (by kernel_rfl)
theorem Us:ak Tryz.prog Ud = true:=by kernel_rfl
abbrev DQ:FuncId:=207
def FM:AC:=
(.seq (.reg [oP 2 (.mv (.c (.bool false)))] [0])
(.seq (.reg [mV 3 0,
mV 4 0,
oP 5 (.bin .neq (.t 3) (.t 4)),
mV 2 5] [2])
.ret))
abbrev KR:RsT:=[(2,none)]
theorem O1:SpF 6 DQ FM KR:=SpI Tryz.func207 (by kernel_rfl)
theorem MM:ak Tryz.prog DQ = true:=by kernel_rfl
abbrev Cl:FuncId:=208
def FG:AC:=
(.seq (.reg [oP 4 (.mv (cI 0))] [0,1])
(.seq (.seq (.reg [mV 6 0,
oP 7 (.len (.t 6)),
oP 8 (.mv (cI 0))] [0,1,7,8])
(.block 0
(.loop [0,1,7,8]
(.seq (.reg [oP 9 (.bin .lss (.t 8) (.t 7))] [0,1,7,8,9])
(.seq (.cond (.t 9)
.skip
(.exit 0))
(.seq (.block 1
(.seq (.reg [mV 10 8,
mV 5 10] [0,1,5,7,8])
(.seq (.reg [mV 11 1,
mV 12 0,
mV 13 5,
oP 14 (.ixS 7 (.t 12) (.t 13)),
oP 15 (.load (some 7) (.t 14)),
oP 16 (.call (.t 11) [true] [(.t 15)])] [0,1,5,7,8,16])
(.cond (.t 16)
(.seq (.reg [mV 17 5,
mV 4 17] [4])
.ret)
.skip))))
(.reg [oP 18 (.bin .add (.t 8) (cI 1)),
mV 8 18] [0,1,7,8])))))))
(.seq (.reg [oP 4 (.mv (cI (-1)))] [4])
.ret)))
abbrev Ks:RsT:=[(4,none)]
theorem Kc:SpF 19 Cl FG Ks:=SpI Tryz.func208 (by kernel_rfl)
theorem GK:ak Tryz.prog Cl = true:=by kernel_rfl
abbrev Ea:FuncId:=209
def Gb:AC:=
(.seq (.reg [oP 2 (.pbox 7 (.t 0)),
oP 3 (.mv (.c (.bool false)))] [1,2])
(.seq (.reg [oP 4 (.fieldAddr none 0 (.t 2)),
oP 5 (.load none (.t 4)),
oP 6 (.load none (.t 1)),
oP 7 (.bin .eql (.t 5) (.t 6)),
mV 3 7] [3])
.ret))
abbrev Jm:RsT:=[(3,none)]
theorem Ov:SpF 8 Ea Gb Jm:=SpI Tryz.func209 (by kernel_rfl)
theorem K5:ak Tryz.prog Ea = true:=by kernel_rfl
abbrev CM:FuncId:=210
def F5:AC:=
(.seq (.reg [oP 4 (.mv (cI 0))] [0,1])
(.seq (.seq (.reg [mV 6 0,
oP 7 (.len (.t 6)),
oP 8 (.mv (cI 0))] [0,1,7,8])
(.block 0
(.loop [0,1,7,8]
(.seq (.reg [oP 9 (.bin .lss (.t 8) (.t 7))] [0,1,7,8,9])
(.seq (.cond (.t 9)
.skip
(.exit 0))
(.seq (.block 1
(.seq (.reg [mV 10 8,
mV 5 10] [0,1,5,7,8])
(.seq (.reg [mV 11 1,
mV 12 0,
mV 13 5,
oP 14 (.ixS 1 (.t 12) (.t 13)),
oP 15 (.load none (.t 14)),
oP 16 (.call (.t 11) [false] [(.t 15)])] [0,1,5,7,8,16])
(.cond (.t 16)
(.seq (.reg [mV 17 5,
mV 4 17] [4])
.ret)
.skip))))
(.reg [oP 18 (.bin .add (.t 8) (cI 1)),
mV 8 18] [0,1,7,8])))))))
(.seq (.reg [oP 4 (.mv (cI (-1)))] [4])
.ret)))
abbrev LN:RsT:=[(4,none)]
theorem JQ:SpF 19 CM F5 LN:=SpI Tryz.func210 (by kernel_rfl)
theorem Pm:ak Tryz.prog CM = true:=by kernel_rfl
abbrev B2:FuncId:=216
def Gh:AC:=
(.seq (.reg [oP 1 (.pbox 7 (.t 0)),
oP 2 (.mv (cI 0))] [])
(.seq (.reg [oP 2 (.mv (cI 1))] [2])
.ret))
abbrev NC:RsT:=[(2,none)]
theorem Kb:SpF 3 B2 Gh NC:=SpI Tryz.func216 (by kernel_rfl)
theorem Oe:ak Tryz.prog B2 = true:=by kernel_rfl
abbrev CS:FuncId:=217
def FT:AC:=
(.seq (.reg [oP 2 (.pbox 7 (.t 0)),
oP 3 (.mv (cI 0))] [1,2])
(.seq (.reg [oP 4 (.fieldAddr none 1 (.t 2)),
oP 5 (.load none (.t 4)),
oP 6 (.fieldAddr (some 3) 0 (.t 1)),
oP 7 (.fieldAddr none 1 (.t 6)),
oP 8 (.load none (.t 7)),
oP 9 (.bin .sub (.t 5) (.t 8)),
mV 3 9] [3])
.ret))
abbrev Mk:RsT:=[(3,none)]
theorem MF:SpF 10 CS FT Mk:=SpI Tryz.func217 (by kernel_rfl)
theorem OV:ak Tryz.prog CS = true:=by kernel_rfl
abbrev DN:FuncId:=218
def Gl:AC:=
(.seq (.reg [oP 2 (.pbox 7 (.t 0)),
oP 3 (.mv (cI 0))] [1,2])
(.seq (.reg [oP 4 (.fieldAddr (some 3) 0 (.t 1)),
oP 5 (.fieldAddr none 2 (.t 4)),
oP 6 (.load none (.t 5)),
oP 7 (.fieldAddr none 1 (.t 2)),
oP 8 (.load none (.t 7)),
oP 9 (.bin .sub (.t 6) (.t 8)),
mV 3 9] [3])
.ret))
abbrev MT:RsT:=[(3,none)]
theorem Pl:SpF 10 DN Gl MT:=SpI Tryz.func218 (by kernel_rfl)
theorem OB:ak Tryz.prog DN = true:=by kernel_rfl
abbrev DT:FuncId:=219
def He:AC:=
(.seq (.reg [oP 1 (.pbox 8 (.t 0)),
oP 2 (.mv (cI 0))] [1])
(.seq (.reg [oP 3 (.fieldAddr (some 7) 0 (.t 1)),
oP 4 (.fieldAddr (some 2) 2 (.t 3)),
oP 5 (.fieldAddr none 0 (.t 4)),
oP 6 (.load none (.t 5)),
oP 7 (.fieldAddr (some 7) 0 (.t 1)),
oP 8 (.fieldAddr (some 2) 5 (.t 7)),
oP 9 (.fieldAddr none 1 (.t 8)),
oP 10 (.load none (.t 9)),
oP 11 (.fieldAddr none 7 (.t 1)),
oP 12 (.load none (.t 11)),
oP 13 (.bin .mul (.t 10) (.t 12)),
oP 14 (.bin .sub (.t 6) (.t 13)),
mV 2 14] [2])
.ret))
abbrev L6:RsT:=[(2,none)]
theorem Ka:SpF 15 DT He L6:=SpI Tryz.func219 (by kernel_rfl)
theorem Kd:ak Tryz.prog DT = true:=by kernel_rfl
abbrev DC:FuncId:=220
def Hc:AC:=
(.seq (.reg [oP 1 (.pbox 8 (.t 0)),
oP 2 (.mv (cI 0))] [1])
(.seq (.reg [oP 3 (.fieldAddr (some 7) 0 (.t 1)),
oP 4 (.fieldAddr (some 2) 2 (.t 3)),
oP 5 (.fieldAddr none 1 (.t 4)),
oP 6 (.load none (.t 5)),
oP 7 (.fieldAddr (some 7) 0 (.t 1)),
oP 8 (.fieldAddr (some 2) 5 (.t 7)),
oP 9 (.fieldAddr none 0 (.t 8)),
oP 10 (.load none (.t 9)),
oP 11 (.fieldAddr none 7 (.t 1)),
oP 12 (.load none (.t 11)),
oP 13 (.bin .mul (.t 10) (.t 12)),
oP 14 (.bin .sub (.t 6) (.t 13)),
mV 2 14] [2])
.ret))
abbrev Na:RsT:=[(2,none)]
theorem JG:SpF 15 DC Hc Na:=SpI Tryz.func220 (by kernel_rfl)
theorem Kz:ak Tryz.prog DC = true:=by kernel_rfl
end Go.AM
