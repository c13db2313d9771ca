/- MADE BY PROGRAM (gen.py): the abstract code of functions of this seat, each checked against the given code by the kernel. -/
import Derived.Test.YtmjfcbpgnmajpaaGreatDoorG05a
import Derived.Test.YtmjfcbpgnmajpaaGreatDoorG05b
import Derived.Test.YtmjfcbpgnmajpaaGreatDoorChecked
import Derived.Test.YtmjfcbpgnmajpaaGreatDoorP13
namespace Go.AM
open Go.Proofs
abbrev CP : FuncId := 192
def Gx : AC :=
(.seq (.reg [oP 4 (.mv (.c (.bool false)))] [0,1,2])
(.seq (.reg [mV 5 0,
oP 6 (.load none (.t 1)),
oP 7 (.bin .lss (.t 5) (.t 6)),
mV 8 7,
gF 9 8 (.mv (.t 0)),
gF 10 8 (.load none (.t 2)),
gF 11 8 (.bin .gtr (.t 9) (.t 10)),
oP 12 (.pick (.t 8) (.c (.bool true)) (.t 11)),
mV 4 12] [4])
.ret))
abbrev LV : RsT := [(4,none)]
theorem JT : SpF 13 CP Gx LV := SpI Tryz.func192 (by kernel_rfl)
theorem MO : ak Tryz.prog CP = true := by kernel_rfl
abbrev Ca : FuncId := 193
def FR : AC :=
(.seq (.reg [oP 10 (.fieldAddr none 1 (.t 1)),
oP 11 (.load none (.t 10)),
oP 12 (.lit 2 1 1 [(0,(.t 11))]),
mV 4 12] [0,1,2,4])
(.seq (.seq (.reg [oP 13 (.fieldAddr (some 3) 0 (.t 2)),
oP 14 (.fieldAddr none 0 (.t 13)),
oP 15 (.load none (.t 14)),
oP 16 (.len (.t 15)),
oP 17 (.mv (cI 0))] [0,1,4,15,16,17])
(.block 0
(.loop [0,1,4,15,16,17]
(.seq (.reg [oP 18 (.bin .lss (.t 17) (.t 16))] [0,1,4,15,16,17,18])
(.seq (.cond (.t 18)
.skip
(.exit 0))
(.seq (.block 1
(.seq (.reg [oP 19 (.ixS 7 (.t 15) (.t 17)),
oP 20 (.load (some 7) (.t 19)),
oP 6 (.alloc [.str ByteArray.empty, .int .i64 0, .int .i64 0, .int .i64 0, .int .i64 0, .int .i64 0, .int .i64 0]),
oN (.store 7 (.t 6) (.t 20))] [0,1,4,6,15,16,17])
(.frz 6 true (.seq (.reg [oP 21 (.fieldAddr none 0 (.t 1)),
oP 22 (.load none (.t 21)),
oP 23 (.fieldAddr none 4 (.t 6)),
oP 24 (.load none (.t 23)),
oP 25 (.bin .lss (.t 22) (.t 24)),
mV 26 25,
gT 27 26 (.fieldAddr none 4 (.t 6)),
gT 28 26 (.load none (.t 27)),
gT 29 26 (.fieldAddr none 1 (.t 1)),
gT 30 26 (.load none (.t 29)),
gT 31 26 (.bin .lss (.t 28) (.t 30)),
oP 32 (.pick (.t 26) (.t 31) (.c (.bool false)))] [0,1,4,6,15,16,17,32])
(.cond (.t 32)
(.reg [mV 33 4,
oP 34 (.fieldAddr none 4 (.t 6)),
oP 35 (.load none (.t 34)),
oP 36 (.lit 0 1 1 [(0,(.t 35))]),
oP 37 (.append 1 8 (.t 33) (.t 36)),
mV 4 37] [0,1,4,15,16,17])
.skip)))))
(.reg [oP 38 (.bin .add (.t 17) (cI 1)),
mV 17 38] [0,1,4,15,16,17])))))))
(.seq (.reg [mV 39 4,
oP 40 (.call (.f 75) [true] [(.t 39)])] [0,1,4])
(.seq (.reg [oP 41 (.fieldAddr none 0 (.t 1)),
oP 42 (.load none (.t 41)),
mV 7 42] [0,4,7])
(.seq (.reg [mV 43 4,
oP 44 (.call (.f 194) [true] [(.t 43)]),
oP 45 (.len (.t 44)),
oP 46 (.mv (cI 0))] [0,7,44,45,46])
(.block 2
(.loop [0,7,44,45,46]
(.seq (.reg [oP 47 (.bin .lss (.t 46) (.t 45))] [0,7,44,45,46,47])
(.seq (.cond (.t 47)
.skip
(.exit 2))
(.seq (.block 3
(.seq (.reg [oP 48 (.ixS 1 (.t 44) (.t 46)),
oP 49 (.load none (.t 48)),
mV 9 49] [0,7,9,44,45,46])
(.seq (.seq (.reg [mV 50 0,
mV 51 7,
mV 52 9,
oP 53 (.build [.int .i64 0, .int .i64 0] [(0,1,(.t 51)),(1,1,(.t 52))]),
oP 54 (.call (.t 50) [false] [(.t 53)]),
oP 55 (.un .not (.t 54))] [0,9,44,45,46,55])
(.cond (.t 55)
.ret
.skip))
(.reg [mV 56 9,
mV 7 56] [0,7,44,45,46]))))
(.reg [oP 57 (.bin .add (.t 46) (cI 1)),
mV 46 57] [0,7,44,45,46])))))))))))
abbrev OP : RsT := []
theorem Pp : SpF 58 Ca FR OP := SpI Tryz.func193 (by kernel_rfl)
theorem KW : ak Tryz.prog Ca = true := by kernel_rfl
abbrev Ej : FuncId := 194
def D9 : AC :=
(.seq (.reg [oP 2 (.mv (.c (.slice 1 [])))] [0])
(.seq (.seq (.reg [mV 6 0,
oP 7 (.len (.t 6)),
oP 8 (.bin .lss (.t 7) (cI 2))] [0,8])
(.cond (.t 8)
(.seq (.reg [mV 9 0,
oP 2 (.mvd (.t 9))] [2])
.ret)
.skip))
(.seq (.seq (.reg [oP 3 (.mv (cI 1))] [0,3])
(.block 0
(.loop [0,3]
(.seq (.seq (.reg [mV 10 3,
mV 11 0,
oP 12 (.len (.t 11)),
oP 13 (.bin .lss (.t 10) (.t 12))] [0,3,13])
(.cond (.t 13)
.skip
(.exit 0)))
(.seq (.block 1
(.seq (.dreg [mV 16 0,
mV 17 3,
oP 18 (.ixS 1 (.t 16) (.t 17)),
oP 19 (.load none (.t 18)),
mV 20 0,
mV 21 3,
oP 22 (.bin .sub (.t 21) (cI 1)),
oP 23 (.ixS 1 (.t 20) (.t 22)),
oP 24 (.load none (.t 23)),
oP 25 (.bin .eql (.t 19) (.t 24))] [0,3,25] [[],[],[0,1],[0,1,2],[],[],[5],[4,5,6],[4,5,6,7],[0,1,2,3,4,5,6,7,8]])
(.cond (.t 25)
(.seq (.reg [mV 26 0,
mV 27 3,
oP 28 (.sub 0 1 (.t 26) (some (.t 27)) none none),
mV 4 28] [0,3,4])
(.seq (.seq (.reg [oP 5 (.mv (cI 1))] [0,3,4,5])
(.block 2
(.loop [0,3,4,5]
(.seq (.seq (.reg [mV 29 5,
mV 30 4,
oP 31 (.len (.t 30)),
oP 32 (.bin .lss (.t 29) (.t 31))] [0,3,4,5,32])
(.cond (.t 32)
.skip
(.exit 2)))
(.seq (.block 3
(.seq (.dreg [mV 35 4,
mV 36 5,
oP 37 (.ixS 1 (.t 35) (.t 36)),
oP 38 (.load none (.t 37)),
mV 39 4,
mV 40 5,
oP 41 (.bin .sub (.t 40) (cI 1)),
oP 42 (.ixS 1 (.t 39) (.t 41)),
oP 43 (.load none (.t 42)),
oP 44 (.bin .neq (.t 38) (.t 43))] [0,3,4,5,44] [[],[],[0,1],[0,1,2],[],[],[5],[4,5,6],[4,5,6,7],[0,1,2,3,4,5,6,7,8]])
(.cond (.t 44)
(.seq (.reg [mV 45 0,
mV 46 3,
mV 47 4,
mV 48 5,
oP 49 (.ixS 1 (.t 47) (.t 48)),
oP 50 (.load none (.t 49)),
oP 51 (.ixS 1 (.t 45) (.t 46)),
oN (.store 1 (.t 51) (.t 50))] [0,3,4,5])
(.reg [mV 52 3,
oP 53 (.bin .add (.t 52) (cI 1)),
mV 3 53] [0,3,4,5]))
.skip)))
(.reg [mV 33 5,
oP 34 (.bin .add (.t 33) (cI 1)),
mV 5 34] [0,3,4,5]))))))
(.seq (.reg [mV 54 0,
mV 55 3,
oP 56 (.sub 0 1 (.t 54) (some (.t 55)) none none),
oN (.clear 1 (.int .i64 0) (.t 56))] [0,3])
(.seq (.reg [mV 57 0,
mV 58 3,
oP 59 (.sub 0 1 (.t 57) none (some (.t 58)) none),
oP 2 (.mvd (.t 59))] [2])
.ret))))
.skip)))
(.reg [mV 14 3,
oP 15 (.bin .add (.t 14) (cI 1)),
mV 3 15] [0,3]))))))
(.seq (.reg [mV 60 0,
oP 2 (.mvd (.t 60))] [2])
.ret))))
abbrev Nh : RsT := [(2,none)]
theorem JO : SpF 61 Ej D9 Nh := SpI Tryz.func194 (by kernel_rfl)
theorem NL : ak Tryz.prog Ej = true := by kernel_rfl
abbrev Df : FuncId := 195
def Fz : AC :=
(.seq (.reg [oP 1 (.pbox 3 (.t 0)),
oP 2 (.alloc [.nilfunc, .nilfunc, .nilfunc, .nilfunc, .nilfunc, .nilfunc, .nilfunc, .nilfunc, .nilfunc])] [1,2])
(.seq (.reg [oP 7 (.mkfunc (.func 217) [] [(.t 1)]),
oP 8 (.mkfunc (.func 218) [] [(.t 1)]),
oP 9 (.build [.nilfunc, .nilfunc, .nilfunc] [(0,1,(.f 216)),(1,1,(.t 7)),(2,1,(.t 8))]),
oP 3 (.alloc [.nilfunc, .nilfunc, .nilfunc]),
oN (.store 3 (.t 3) (.t 9))] [2,3])
(.frz 3 true (.seq (.reg [oP 4 (.alloc [.nilfunc, .nilfunc, .nilfunc, .nilfunc, .nilfunc, .nilfunc, .nilfunc, .nilfunc, .nilfunc])] [2,3,4])
(.seq (.seq (.reg [oP 10 (.load (some 3) (.t 3)),
oP 11 (.mv (cI 0))] [2,4,10,11])
(.block 0
(.loop [2,4,10,11]
(.seq (.reg [oP 12 (.bin .lss (.t 11) (cI 3))] [2,4,10,11,12])
(.seq (.cond (.t 12)
.skip
(.exit 0))
(.seq (.block 1
(.seq (.reg [mV 13 11,
oP 14 (.ixV 3 1 none (.t 10) (.t 11)),
mV 5 13,
mV 6 14] [2,4,5,6,10,11])
(.reg [mV 15 5,
mV 16 6,
oP 17 (.build [.nilfunc, .nilfunc, .nilfunc] [(0,1,(.t 16)),(1,1,(.f 219)),(2,1,(.f 220))]),
oP 18 (.ixA 3 3 (some 3) (.t 4) (.t 15)),
oN (.store 3 (.t 18) (.t 17))] [2,4,10,11])))
(.reg [oP 19 (.bin .add (.t 11) (cI 1)),
mV 11 19] [2,4,10,11])))))))
(.seq (.reg [oP 20 (.load (some 9) (.t 4)),
oN (.store 9 (.t 2) (.t 20))] [2])
.ret))))))
abbrev LW : RsT := [(2,some (some 9))]
theorem Km : SpF 21 Df Fz LW := SpI Tryz.func195 (by kernel_rfl)
theorem MA : ak Tryz.prog Df = true := by kernel_rfl
abbrev D0 : FuncId := 196
def FH : AC :=
(.seq (.reg [oP 4 (.mv (.c (.bool false)))] [0,1])
(.seq (.reg [mV 5 0,
mV 6 1,
oP 7 (.call (.f 221) [true,false] [(.t 5),(.t 6)]),
oP 8 (.bin .geq (.t 7) (cI 0)),
mV 4 8] [4])
.ret))
abbrev Mr : RsT := [(4,none)]
theorem Pj : SpF 9 D0 FH Mr := SpI Tryz.func196 (by kernel_rfl)
theorem F1 : ak Tryz.prog D0 = true := by kernel_rfl
abbrev AQ : FuncId := 197
def GR : AC :=
(.seq (.reg [oP 2 (.pbox 2 (.t 0)),
oP 3 (.mv (.c (.bool false)))] [1,2])
(.seq (.reg [oP 4 (.fieldAddr none 0 (.t 2)),
oP 5 (.load none (.t 4)),
oP 6 (.fieldAddr none 0 (.t 1)),
oP 7 (.load none (.t 6)),
oP 8 (.bin .eql (.t 5) (.t 7)),
mV 3 8] [3])
.ret))
abbrev MS : RsT := [(3,none)]
theorem KK : SpF 9 AQ GR MS := SpI Tryz.func197 (by kernel_rfl)
theorem OQ : ak Tryz.prog AQ = true := by kernel_rfl
abbrev CL : FuncId := 198
def FI : AC :=
(.seq (.reg [oP 6 (.mv (cI 0))] [0,1,2])
(.seq (.reg [oP 7 (.mv (.c (.bool false)))] [0,1,2,7])
(.seq (.seq (.reg [oP 8 (.mv (cI 0))] [0,1,2,7,8])
(.block 0
(.loop [0,1,2,7,8]
(.seq (.seq (.reg [mV 9 8,
mV 10 0,
oP 11 (.len (.t 10)),
oP 12 (.bin .lss (.t 9) (.t 11))] [0,1,2,7,8,12])
(.cond (.t 12)
.skip
(.exit 0)))
(.seq (.block 1
(.seq (.seq (.reg [mV 15 0,
mV 16 8,
oP 17 (.ixS 2 (.t 15) (.t 16)),
oP 18 (.fieldAddr none 0 (.t 17)),
oP 19 (.load none (.t 18)),
mV 20 1,
mV 21 2,
oP 22 (.call (.f 103) [false,false,false] [(.t 19),(.t 20),(.t 21)]),
oP 23 (.un .not (.t 22)),
mV 24 23,
gF 25 24 (.mv (.t 0)),
gF 26 24 (.mv (.t 8)),
gF 27 24 (.ixS 2 (.t 25) (.t 26)),
gF 28 24 (.fieldAddr none 1 (.t 27)),
gF 29 24 (.load none (.t 28)),
gF 30 24 (.mv (.t 1)),
gF 31 24 (.mv (.t 2)),
gF 32 24 (.call (.f 103) [false,false,false] [(.t 29),(.t 30),(.t 31)]),
gF 33 24 (.un .not (.t 32)),
oP 34 (.pick (.t 24) (.c (.bool true)) (.t 33))] [0,1,2,7,8,34])
(.cond (.t 34)
(.seq (.reg [oP 6 (.mv (cI 7))] [6])
.ret)
.skip))
(.dreg [mV 35 7,
mV 36 35,
gF 37 36 (.mv (.t 0)),
gF 38 36 (.mv (.t 8)),
gF 39 36 (.ixS 2 (.t 37) (.t 38)),
gF 40 36 (.fieldAddr none 0 (.t 39)),
gF 41 36 (.load none (.t 40)),
gF 42 36 (.mv (.t 0)),
gF 43 36 (.mv (.t 8)),
gF 44 36 (.ixS 2 (.t 42) (.t 43)),
gF 45 36 (.fieldAddr none 1 (.t 44)),
gF 46 36 (.load none (.t 45)),
gF 47 36 (.bin .gtr (.t 41) (.t 46)),
oP 48 (.pick (.t 36) (.c (.bool true)) (.t 47)),
mV 7 48] [0,1,2,7,8] [[],[0],[0,1],[0,1],[0,1,2,3],[0,1,2,3,4],[0,1,2,3,4,5],[0,1],[0,1],[0,1,7,8],[0,1,7,8,9],[0,1,7,8,9,10],[0,1,2,3,4,5,6,7,8,9,10,11],[0,1,2,3,4,5,6,7,8,9,10,11,12],[0,1,2,3,4,5,6,7,8,9,10,11,12,13]])))
(.reg [mV 13 8,
oP 14 (.bin .add (.t 13) (cI 1)),
mV 8 14] [0,1,2,7,8]))))))
(.seq (.seq (.reg [mV 49 7] [49])
(.cond (.t 49)
(.seq (.reg [oP 6 (.mv (cI 2))] [6])
.ret)
.skip))
(.seq (.reg [oP 6 (.mv (cI 0))] [6])
.ret)))))
abbrev O6 : RsT := [(6,none)]
theorem L0 : SpF 50 CL FI O6 := SpI Tryz.func198 (by kernel_rfl)
theorem O5 : ak Tryz.prog CL = true := by kernel_rfl
abbrev Cz : FuncId := 199
def Fw : AC :=
(.seq (.reg [oP 2 (.pbox 3 (.t 0)),
oP 4 (.alloc [.slice 1 [], .slice 1 []])] [1,2,4])
(.seq (.reg [oP 5 (.alloc [.mint 1, .mint 1])] [1,2,4,5])
(.seq (.seq (.reg [oP 6 (.mv (cI 0))] [1,2,4,5,6])
(.block 0
(.loop [1,2,4,5,6]
(.seq (.seq (.reg [mV 9 6,
oP 10 (.fieldAddr none 0 (.t 2)),
oP 11 (.load none (.t 10)),
oP 12 (.len (.t 11)),
oP 13 (.bin .lss (.t 9) (.t 12))] [1,2,4,5,6,13])
(.cond (.t 13)
.skip
(.exit 0)))
(.seq (.block 1
(.seq (.reg [oP 16 (.fieldAddr none 0 (.t 2)),
oP 17 (.load none (.t 16)),
mV 18 6,
oP 19 (.ixS 7 (.t 17) (.t 18)),
oP 20 (.load (some 7) (.t 19)),
oP 7 (.alloc [.str ByteArray.empty, .int .i64 0, .int .i64 0, .int .i64 0, .int .i64 0, .int .i64 0, .int .i64 0]),
oN (.store 7 (.t 7) (.t 20))] [1,2,4,5,6,7])
(.frz 7 true (.seq (.reg [mV 21 1,
oP 22 (.bin .eql (.t 21) (cI 0)),
mV 23 22,
gF 24 23 (.mv (.t 1)),
gF 25 23 (.bin .eql (.t 24) (cI 1)),
oP 26 (.pick (.t 23) (.c (.bool true)) (.t 25)),
mV 27 26,
gF 28 27 (.mv (.t 1)),
gF 29 27 (.bin .eql (.t 28) (cI 2)),
gF 30 27 (.mv (.t 29)),
gT 31 30 (.fieldAddr none 1 (.t 7)),
gT 32 30 (.load none (.t 31)),
gT 33 30 (.fieldAddr none 1 (.t 2)),
gT 34 30 (.load none (.t 33)),
gT 35 30 (.bin .geq (.t 32) (.t 34)),
gF 36 27 (.pick (.t 30) (.t 35) (.c (.bool false))),
oP 37 (.pick (.t 27) (.c (.bool true)) (.t 36)),
mV 38 37,
gF 39 38 (.mv (.t 1)),
gF 40 38 (.bin .eql (.t 39) (cI 3)),
gF 41 38 (.mv (.t 40)),
gT 42 41 (.fieldAddr none 1 (.t 7)),
gT 43 41 (.load none (.t 42)),
gT 44 41 (.fieldAddr none 2 (.t 2)),
gT 45 41 (.load none (.t 44)),
gT 46 41 (.bin .leq (.t 43) (.t 45)),
gF 47 38 (.pick (.t 41) (.t 46) (.c (.bool false))),
oP 48 (.pick (.t 38) (.c (.bool true)) (.t 47)),
mV 8 48] [1,2,4,5,6,7,8])
(.seq (.reg [mV 49 8] [1,2,4,5,6,7,49])
(.cond (.t 49)
(.dreg [oP 50 (.fieldAddr none 0 (.t 5)),
oP 51 (.load none (.t 50)),
oP 52 (.fieldAddr (some 2) 2 (.t 7)),
oP 53 (.fieldAddr none 0 (.t 52)),
oP 54 (.load none (.t 53)),
oP 55 (.lit 0 1 1 [(0,(.t 54))]),
oP 56 (.append 1 8 (.t 51) (.t 55)),
oP 57 (.fieldAddr none 1 (.t 5)),
oP 58 (.load none (.t 57)),
oP 59 (.fieldAddr (some 2) 5 (.t 7)),
oP 60 (.fieldAddr none 1 (.t 59)),
oP 61 (.load none (.t 60)),
oP 62 (.lit 0 1 1 [(0,(.t 61))]),
oP 63 (.append 1 8 (.t 58) (.t 62)),
oP 64 (.fieldAddr none 0 (.t 5)),
oN (.store 1 (.t 64) (.t 56)),
oP 65 (.fieldAddr none 1 (.t 5)),
oN (.store 1 (.t 65) (.t 63))] [1,2,4,5,6] [[],[0],[],[2],[2,3],[2,3,4],[0,1,2,3,4,5],[],[7],[],[9],[9,10],[9,10,11],[0,1,2,3,4,5,6,7,8,9,10,11,12],[0,1,2,3,4,5,6,7,8],[0,1,2,3,4,5,6,7,8,9,10,11,12,13,14],[0,1,2,3,4,5,6,7,8,9,10,11,12,13,14,15],[0,1,2,3,4,5,6,7,8,9,10,11,12,13,14,15,16]])
(.dreg [oP 66 (.fieldAddr none 0 (.t 5)),
oP 67 (.load none (.t 66)),
oP 68 (.fieldAddr (some 2) 2 (.t 7)),
oP 69 (.fieldAddr none 1 (.t 68)),
oP 70 (.load none (.t 69)),
oP 71 (.lit 0 1 1 [(0,(.t 70))]),
oP 72 (.append 1 8 (.t 67) (.t 71)),
oP 73 (.fieldAddr none 1 (.t 5)),
oP 74 (.load none (.t 73)),
oP 75 (.fieldAddr (some 2) 5 (.t 7)),
oP 76 (.fieldAddr none 0 (.t 75)),
oP 77 (.load none (.t 76)),
oP 78 (.lit 0 1 1 [(0,(.t 77))]),
oP 79 (.append 1 8 (.t 74) (.t 78)),
oP 80 (.fieldAddr none 0 (.t 5)),
oN (.store 1 (.t 80) (.t 72)),
oP 81 (.fieldAddr none 1 (.t 5)),
oN (.store 1 (.t 81) (.t 79))] [1,2,4,5,6] [[],[0],[],[2],[2,3],[2,3,4],[0,1,2,3,4,5],[],[7],[],[9],[9,10],[9,10,11],[0,1,2,3,4,5,6,7,8,9,10,11,12],[0,1,2,3,4,5,6,7,8],[0,1,2,3,4,5,6,7,8,9,10,11,12,13,14],[0,1,2,3,4,5,6,7,8,9,10,11,12,13,14,15],[0,1,2,3,4,5,6,7,8,9,10,11,12,13,14,15,16]])))))))
(.reg [mV 14 6,
oP 15 (.bin .add (.t 14) (cI 1)),
mV 6 15] [1,2,4,5,6]))))))
(.seq (.reg [oP 82 (.loadd (some 2) (.t 5)),
oN (.store 2 (.t 4) (.t 82))] [4])
.ret))))
abbrev J6 : RsT := [(4,some (some 2))]
theorem OG : SpF 83 Cz Fw J6 := SpI Tryz.func199 (by kernel_rfl)
theorem Ez : ak Tryz.prog Cz = true := by kernel_rfl
abbrev Eo : FuncId := 201
def G6 : AC :=
(.seq (.reg [oP 2 (.mv (cI 0))] [0])
(.seq (.seq (.reg [mV 3 0,
oP 4 (.bin .eql (.t 3) (.c (.int .u64 0)))] [0,4])
(.cond (.t 4)
(.seq (.reg [oP 2 (.mv (cI 64))] [2])
.ret)
.skip))
(.seq (.reg [mV 5 0,
mV 6 0,
oP 7 (.un .neg (.t 6)),
oP 8 (.bin .and (.t 5) (.t 7)),
oP 9 (.bin .mul (.t 8) (.c (.int .u64 285870213051353865))),
oP 10 (.bin .shr (.t 9) (.c (.int .u64 58))),
oP 11 (.gix 1 (.t 10)),
oP 12 (.load none (.t 11)),
oP 13 (.conv .i64 (.t 12)),
mV 2 13] [2])
.ret)))
abbrev NZ : RsT := [(2,none)]
theorem KC : SpF 14 Eo G6 NZ := SpI Tryz.func201 (by kernel_rfl)
theorem KS : ak Tryz.prog Eo = true := by kernel_rfl
abbrev DQ : FuncId := 207
def FM : AC :=
(.seq (.reg [oP 2 (.mv (.c (.bool false)))] [0])
(.seq (.reg [mV 3 0,
mV 4 0,
oP 5 (.bin .neq (.t 3) (.t 4)),
mV 2 5] [2])
.ret))
abbrev KR : RsT := [(2,none)]
theorem O1 : SpF 6 DQ FM KR := SpI Tryz.func207 (by kernel_rfl)
theorem MM : ak Tryz.prog DQ = true := by kernel_rfl
abbrev Cl : FuncId := 208
def FG : AC :=
(.seq (.reg [oP 4 (.mv (cI 0))] [0,1])
(.seq (.seq (.reg [mV 6 0,
oP 7 (.len (.t 6)),
oP 8 (.mv (cI 0))] [0,1,7,8])
(.block 0
(.loop [0,1,7,8]
(.seq (.reg [oP 9 (.bin .lss (.t 8) (.t 7))] [0,1,7,8,9])
(.seq (.cond (.t 9)
.skip
(.exit 0))
(.seq (.block 1
(.seq (.reg [mV 10 8,
mV 5 10] [0,1,5,7,8])
(.seq (.reg [mV 11 1,
mV 12 0,
mV 13 5,
oP 14 (.ixS 7 (.t 12) (.t 13)),
oP 15 (.load (some 7) (.t 14)),
oP 16 (.call (.t 11) [true] [(.t 15)])] [0,1,5,7,8,16])
(.cond (.t 16)
(.seq (.reg [mV 17 5,
mV 4 17] [4])
.ret)
.skip))))
(.reg [oP 18 (.bin .add (.t 8) (cI 1)),
mV 8 18] [0,1,7,8])))))))
(.seq (.reg [oP 4 (.mv (cI (-1)))] [4])
.ret)))
abbrev Ks : RsT := [(4,none)]
theorem Kc : SpF 19 Cl FG Ks := SpI Tryz.func208 (by kernel_rfl)
theorem GK : ak Tryz.prog Cl = true := by kernel_rfl
abbrev Ea : FuncId := 209
def Gb : AC :=
(.seq (.reg [oP 2 (.pbox 7 (.t 0)),
oP 3 (.mv (.c (.bool false)))] [1,2])
(.seq (.reg [oP 4 (.fieldAddr none 0 (.t 2)),
oP 5 (.load none (.t 4)),
oP 6 (.load none (.t 1)),
oP 7 (.bin .eql (.t 5) (.t 6)),
mV 3 7] [3])
.ret))
abbrev Jm : RsT := [(3,none)]
theorem Ov : SpF 8 Ea Gb Jm := SpI Tryz.func209 (by kernel_rfl)
theorem K5 : ak Tryz.prog Ea = true := by kernel_rfl
abbrev CM : FuncId := 210
def F5 : AC :=
(.seq (.reg [oP 4 (.mv (cI 0))] [0,1])
(.seq (.seq (.reg [mV 6 0,
oP 7 (.len (.t 6)),
oP 8 (.mv (cI 0))] [0,1,7,8])
(.block 0
(.loop [0,1,7,8]
(.seq (.reg [oP 9 (.bin .lss (.t 8) (.t 7))] [0,1,7,8,9])
(.seq (.cond (.t 9)
.skip
(.exit 0))
(.seq (.block 1
(.seq (.reg [mV 10 8,
mV 5 10] [0,1,5,7,8])
(.seq (.reg [mV 11 1,
mV 12 0,
mV 13 5,
oP 14 (.ixS 1 (.t 12) (.t 13)),
oP 15 (.load none (.t 14)),
oP 16 (.call (.t 11) [false] [(.t 15)])] [0,1,5,7,8,16])
(.cond (.t 16)
(.seq (.reg [mV 17 5,
mV 4 17] [4])
.ret)
.skip))))
(.reg [oP 18 (.bin .add (.t 8) (cI 1)),
mV 8 18] [0,1,7,8])))))))
(.seq (.reg [oP 4 (.mv (cI (-1)))] [4])
.ret)))
abbrev LN : RsT := [(4,none)]
theorem JQ : SpF 19 CM F5 LN := SpI Tryz.func210 (by kernel_rfl)
theorem Pm : ak Tryz.prog CM = true := by kernel_rfl
abbrev B2 : FuncId := 216
def Gh : AC :=
(.seq (.reg [oP 1 (.pbox 7 (.t 0)),
oP 2 (.mv (cI 0))] [])
(.seq (.reg [oP 2 (.mv (cI 1))] [2])
.ret))
abbrev NC : RsT := [(2,none)]
theorem Kb : SpF 3 B2 Gh NC := SpI Tryz.func216 (by kernel_rfl)
theorem Oe : ak Tryz.prog B2 = true := by kernel_rfl
abbrev CS : FuncId := 217
def FT : AC :=
(.seq (.reg [oP 2 (.pbox 7 (.t 0)),
oP 3 (.mv (cI 0))] [1,2])
(.seq (.reg [oP 4 (.fieldAddr none 1 (.t 2)),
oP 5 (.load none (.t 4)),
oP 6 (.fieldAddr (some 3) 0 (.t 1)),
oP 7 (.fieldAddr none 1 (.t 6)),
oP 8 (.load none (.t 7)),
oP 9 (.bin .sub (.t 5) (.t 8)),
mV 3 9] [3])
.ret))
abbrev Mk : RsT := [(3,none)]
theorem MF : SpF 10 CS FT Mk := SpI Tryz.func217 (by kernel_rfl)
theorem OV : ak Tryz.prog CS = true := by kernel_rfl
abbrev DN : FuncId := 218
def Gl : AC :=
(.seq (.reg [oP 2 (.pbox 7 (.t 0)),
oP 3 (.mv (cI 0))] [1,2])
(.seq (.reg [oP 4 (.fieldAddr (some 3) 0 (.t 1)),
oP 5 (.fieldAddr none 2 (.t 4)),
oP 6 (.load none (.t 5)),
oP 7 (.fieldAddr none 1 (.t 2)),
oP 8 (.load none (.t 7)),
oP 9 (.bin .sub (.t 6) (.t 8)),
mV 3 9] [3])
.ret))
abbrev MT : RsT := [(3,none)]
theorem Pl : SpF 10 DN Gl MT := SpI Tryz.func218 (by kernel_rfl)
theorem OB : ak Tryz.prog DN = true := by kernel_rfl
abbrev DT : FuncId := 219
def He : AC :=
(.seq (.reg [oP 1 (.pbox 8 (.t 0)),
oP 2 (.mv (cI 0))] [1])
(.seq (.reg [oP 3 (.fieldAddr (some 7) 0 (.t 1)),
oP 4 (.fieldAddr (some 2) 2 (.t 3)),
oP 5 (.fieldAddr none 0 (.t 4)),
oP 6 (.load none (.t 5)),
oP 7 (.fieldAddr (some 7) 0 (.t 1)),
oP 8 (.fieldAddr (some 2) 5 (.t 7)),
oP 9 (.fieldAddr none 1 (.t 8)),
oP 10 (.load none (.t 9)),
oP 11 (.fieldAddr none 7 (.t 1)),
oP 12 (.load none (.t 11)),
oP 13 (.bin .mul (.t 10) (.t 12)),
oP 14 (.bin .sub (.t 6) (.t 13)),
mV 2 14] [2])
.ret))
abbrev L6 : RsT := [(2,none)]
theorem Ka : SpF 15 DT He L6 := SpI Tryz.func219 (by kernel_rfl)
theorem Kd : ak Tryz.prog DT = true := by kernel_rfl
abbrev DC : FuncId := 220
def Hc : AC :=
(.seq (.reg [oP 1 (.pbox 8 (.t 0)),
oP 2 (.mv (cI 0))] [1])
(.seq (.reg [oP 3 (.fieldAddr (some 7) 0 (.t 1)),
oP 4 (.fieldAddr (some 2) 2 (.t 3)),
oP 5 (.fieldAddr none 1 (.t 4)),
oP 6 (.load none (.t 5)),
oP 7 (.fieldAddr (some 7) 0 (.t 1)),
oP 8 (.fieldAddr (some 2) 5 (.t 7)),
oP 9 (.fieldAddr none 0 (.t 8)),
oP 10 (.load none (.t 9)),
oP 11 (.fieldAddr none 7 (.t 1)),
oP 12 (.load none (.t 11)),
oP 13 (.bin .mul (.t 10) (.t 12)),
oP 14 (.bin .sub (.t 6) (.t 13)),
mV 2 14] [2])
.ret))
abbrev Na : RsT := [(2,none)]
theorem JG : SpF 15 DC Hc Na := SpI Tryz.func220 (by kernel_rfl)
theorem Kz : ak Tryz.prog DC = true := by kernel_rfl
abbrev EC : FuncId := 221
def Hb : AC :=
(.seq (.reg [oP 4 (.mv (cI 0))] [0,1])
(.seq (.seq (.reg [mV 6 0,
oP 7 (.len (.t 6)),
oP 8 (.mv (cI 0))] [0,1,7,8])
(.block 0
(.loop [0,1,7,8]
(.seq (.reg [oP 9 (.bin .lss (.t 8) (.t 7))] [0,1,7,8,9])
(.seq (.cond (.t 9)
.skip
(.exit 0))
(.seq (.block 1
(.seq (.reg [mV 10 8,
mV 5 10] [0,1,5,7,8])
(.seq (.reg [mV 11 1,
mV 12 0,
mV 13 5,
oP 14 (.ixS 2 (.t 12) (.t 13)),
oP 15 (.load (some 2) (.t 14)),
oP 16 (.call (.t 11) [false] [(.t 15)])] [0,1,5,7,8,16])
(.cond (.t 16)
(.seq (.reg [mV 17 5,
mV 4 17] [4])
.ret)
.skip))))
(.reg [oP 18 (.bin .add (.t 8) (cI 1)),
mV 8 18] [0,1,7,8])))))))
(.seq (.reg [oP 4 (.mv (cI (-1)))] [4])
.ret)))
abbrev Jl : RsT := [(4,none)]
theorem Oy : SpF 19 EC Hb Jl := SpI Tryz.func221 (by kernel_rfl)
theorem K0 : ak Tryz.prog EC = true := by kernel_rfl
end Go.AM
