/- MADE BY PROGRAM (gen.py): the abstract code of functions of this seat, each checked against the given code by the kernel. -/
import Derived.Test.YthhmdhiiicipkaaGreatDoorG05a
import Derived.Test.YthhmdhiiicipkaaGreatDoorChecked
import Derived.Test.YthhmdhiiicipkaaGreatDoorP15
import Derived.Test.YthhmdhiiicipkaaGreatDoorP16
namespace Go.AM
open Go.Proofs
abbrev GZ:FuncId:=97
def Kv:AC:=
(.seq (.reg [oP 0 (.mv (.c .nilmap))] [])
(.seq (.reg [oP 1 (.mnew),
oP 2 (.build [.nilfunc, .nilfunc] [(0,1,(.f 137)),(1,1,(.f 138))]),
oN (.mset .i (.t 1) (cI 1) (.t 2)),
oP 3 (.build [.nilfunc, .nilfunc] [(0,1,(.f 139)),(1,1,(.f 140))]),
oN (.mset .i (.t 1) (cI 2) (.t 3)),
oP 4 (.build [.nilfunc, .nilfunc] [(0,1,(.f 141)),(1,1,(.f 142))]),
oN (.mset .i (.t 1) (cI 3) (.t 4)),
mV 5 1,
mV 0 5] [0])
.ret))
abbrev LU:RsT:=[(0,none)]
theorem N6:SpF 6 GZ Kv LU:=SpI Tryz.func97 (by kernel_rfl)
theorem Mt:ak Tryz.prog GZ = true:=by kernel_rfl
abbrev Hv:FuncId:=98
def Jg:AC:=
(.seq (.reg [oP 3 (.pbox 2 (.t 0)),
oP 6 (.mv (cI 0))] [1,2,3])
(.seq (.reg [oP 7 (.load (some 2) (.t 3)),
oP 8 (.lit 0 2 1 [(0,(.t 7))]),
mV 9 1,
mV 10 2,
oP 11 (.call (.f 143) [true,false,false] [(.t 8),(.t 9),(.t 10)]),
mV 6 11] [6])
.ret))
abbrev Oo:RsT:=[(6,none)]
theorem NN:SpF 12 Hv Jg Oo:=SpI Tryz.func98 (by kernel_rfl)
theorem Mz:ak Tryz.prog Hv = true:=by kernel_rfl
abbrev Ho:FuncId:=99
def K9:AC:=
(.seq (.reg [oP 2 (.pbox 7 (.t 0)),
oP 3 (.pbox 7 (.t 1)),
oP 4 (.mv (.c (.bool false)))] [2,3])
(.seq (.reg [oP 5 (.fieldAddr none 2 (.t 2)),
oP 6 (.load none (.t 5)),
oP 7 (.fieldAddr none 2 (.t 3)),
oP 8 (.load none (.t 7)),
oP 9 (.mx [(.t 6),(.t 8)]),
oP 10 (.fieldAddr none 3 (.t 2)),
oP 11 (.load none (.t 10)),
oP 12 (.fieldAddr none 3 (.t 3)),
oP 13 (.load none (.t 12)),
oP 14 (.mn [(.t 11),(.t 13)]),
oP 15 (.bin .leq (.t 9) (.t 14)),
mV 4 15] [4])
.ret))
abbrev Nc:RsT:=[(4,none)]
theorem Mj:SpF 16 Ho K9 Nc:=SpI Tryz.func99 (by kernel_rfl)
theorem Hu:ak Tryz.prog Ho = true:=by kernel_rfl
abbrev Eb:FuncId:=100
def FR:AC:=
(.seq (.reg [oP 4 (.mv (.c (.bool false)))] [0,1])
(.seq (.seq (.reg [oP 5 (.mv (cI 0))] [0,1,5])
(.block 0
(.loop [0,1,5]
(.seq (.seq (.reg [mV 6 5,
mV 7 0,
oP 8 (.len (.t 7)),
oP 9 (.bin .lss (.t 6) (.t 8))] [0,1,5,9])
(.cond (.t 9)
.skip
(.exit 0)))
(.seq (.block 1
(.seq (.reg [mV 12 0,
mV 13 5,
oP 14 (.ixS 7 (.t 12) (.t 13)),
oP 15 (.fieldAddr none 4 (.t 14)),
oP 16 (.load none (.t 15)),
mV 17 1,
oP 18 (.call (.f 49) [true,false] [(.t 16),(.t 17)]),
oP 19 (.bin .geq (.t 18) (cI 0))] [0,1,5,19])
(.cond (.t 19)
(.seq (.reg [oP 4 (.mv (.c (.bool true)))] [4])
.ret)
.skip)))
(.reg [mV 10 5,
oP 11 (.bin .add (.t 10) (cI 1)),
mV 5 11] [0,1,5]))))))
(.seq (.reg [oP 4 (.mv (.c (.bool false)))] [4])
.ret)))
abbrev KI:RsT:=[(4,none)]
theorem IH:SpF 20 Eb FR KI:=SpI Tryz.func100 (by kernel_rfl)
theorem F9:ak Tryz.prog Eb = true:=by kernel_rfl
abbrev DP:FuncId:=101
def FG:AC:=
(.seq (.reg [oP 4 (.mv (.c (.slice 7 [])))] [0,1])
(.seq (.qreg [oP 5 (.lit 1 7 0 []),
mV 6 0,
mV 7 1,
oP 8 (.subq 7 (.t 6) none (some (.t 7))),
oP 9 (.append 7 80 (.t 5) (.t 8)),
mV 10 0,
mV 11 1,
oP 12 (.bin .add (.t 11) (cI 1)),
oP 13 (.subq 7 (.t 10) (some (.t 12)) none),
oP 14 (.append 7 80 (.t 9) (.t 13)),
oP 4 (.mvd (.t 14))] [4] [[],[],[],[1,2],[0,1,2,3],[],[],[6],[5,6,7],[0,1,2,3,4,5,6,7,8],[0,1,2,3,4,5,6,7,8,9]] [([1,2,3,5,6,7,8],0),([],4),([],9),([],10)] [])
.ret))
abbrev Io:RsT:=[(4,none)]
theorem Jz:SpF 15 DP FG Io:=SpI Tryz.func101 (by kernel_rfl)
theorem FY:ak Tryz.prog DP = true:=by kernel_rfl
abbrev CH:FuncId:=102
def Gz:AC:=
(.seq (.reg [oP 5 (.pbox 7 (.t 2)),
oP 6 (.mv (.c (.slice 7 [])))] [0,1,5])
(.seq (.reg [oP 7 (.nilS 1 7)] [0,1,5,7])
(.seq (.seq (.reg [oP 8 (.mv (cI 0))] [0,1,5,7,8])
(.block 0
(.loop [0,1,5,7,8]
(.seq (.seq (.reg [mV 13 8,
mV 14 0,
oP 15 (.len (.t 14)),
oP 16 (.bin .lss (.t 13) (.t 15))] [0,1,5,7,8,16])
(.cond (.t 16)
.skip
(.exit 0)))
(.seq (.block 1
(.seq (.reg [mV 19 0,
mV 20 8,
oP 21 (.ixS 7 (.t 19) (.t 20)),
oP 22 (.load (some 7) (.t 21)),
oP 9 (.alloc [.str ByteArray.empty, .int .i64 0, .int .i64 0, .int .i64 0, .slice 1 [], .int .i64 0, .int .i64 0]),
oN (.store 7 (.t 9) (.t 22))] [0,1,5,7,8,9])
(.seq (.seq (.reg [mV 23 8,
mV 24 1,
oP 25 (.bin .eql (.t 23) (.t 24))] [0,1,5,7,8,9,25])
(.cond (.t 25)
(.reg [oP 26 (.load (some 7) (.t 5)),
oN (.store 7 (.t 9) (.t 26))] [0,1,5,7,8,9])
.skip))
(.seq (.reg [oP 10 (.nilS 1 1)] [0,1,5,7,8,9,10])
(.seq (.seq (.reg [oP 11 (.mv (cI 0))] [0,1,5,7,8,9,10,11])
(.block 2
(.loop [0,1,5,7,8,9,10,11]
(.seq (.seq (.reg [mV 27 11,
oP 28 (.fieldAddr none 4 (.t 9)),
oP 29 (.load none (.t 28)),
oP 30 (.len (.t 29)),
oP 31 (.bin .lss (.t 27) (.t 30))] [0,1,5,7,8,9,10,11,31])
(.cond (.t 31)
.skip
(.exit 2)))
(.seq (.block 3
(.seq (.reg [oP 34 (.fieldAddr none 4 (.t 9)),
oP 35 (.load none (.t 34)),
mV 36 11,
oP 37 (.ixS 1 (.t 35) (.t 36)),
oP 38 (.load none (.t 37)),
mV 12 38] [0,1,5,7,8,9,10,11,12])
(.seq (.seq (.reg [mV 39 8,
mV 40 1,
oP 41 (.bin .gtr (.t 39) (.t 40)),
mV 42 41,
gT 43 42 (.mv (.t 12)),
gT 44 42 (.mv (.t 0)),
gT 45 42 (.mv (.t 1)),
gT 46 42 (.ixS 7 (.t 44) (.t 45)),
gT 47 42 (.fieldAddr none 0 (.t 46)),
gT 48 42 (.load none (.t 47)),
gT 49 42 (.bin .eql (.t 43) (.t 48)),
oP 50 (.pick (.t 42) (.t 49) (.c (.bool false)))] [0,1,5,7,8,9,10,11,12,50])
(.cond (.t 50)
(.reg [oP 51 (.fieldAddr none 0 (.t 5)),
oP 52 (.load none (.t 51)),
mV 12 52] [0,1,5,7,8,9,10,11,12])
.skip))
(.reg [mV 53 10,
mV 54 12,
oP 55 (.lit 0 1 1 [(0,(.t 54))]),
oP 56 (.append 1 16 (.t 53) (.t 55)),
mV 10 56] [0,1,5,7,8,9,10,11]))))
(.reg [mV 32 11,
oP 33 (.bin .add (.t 32) (cI 1)),
mV 11 33] [0,1,5,7,8,9,10,11]))))))
(.seq (.reg [mV 57 10,
oP 58 (.fieldAddr none 4 (.t 9)),
oN (.store 1 (.t 58) (.t 57))] [0,1,5,7,8,9])
(.uj 9 4 1 (.reg [mV 59 7,
oP 60 (.load (some 7) (.t 9)),
oP 61 (.lit 0 7 1 [(0,(.t 60))]),
oP 62 (.append 7 80 (.t 59) (.t 61)),
mV 7 62] [0,1,5,7,8]))))))))
(.reg [mV 17 8,
oP 18 (.bin .add (.t 17) (cI 1)),
mV 8 18] [0,1,5,7,8]))))))
(.seq (.reg [mV 63 7,
oP 6 (.mvd (.t 63))] [6])
.ret))))
abbrev JF:RsT:=[(6,none)]
theorem Kh:SpF 64 CH Gz JF:=SpI Tryz.func102 (by kernel_rfl)
theorem Gc:ak Tryz.prog CH = true:=by kernel_rfl
abbrev xH:FuncId:=103
def Gg:AC:=
(.seq (.reg [oP 2 (.mv (.c (.slice 1 [])))] [0])
(.seq (.seq (.reg [mV 3 0,
oP 4 (.snil false (.t 3))] [0,4])
(.cond (.t 4)
(.seq (.reg [oP 2 (.nilS 3 1)] [2])
.ret)
.skip))
(.seq (.reg [oP 5 (.lit 1 1 0 []),
mV 6 0,
oP 7 (.append 1 16 (.t 5) (.t 6)),
mV 2 7] [2])
.ret)))
abbrev DC:RsT:=[(2,none)]
theorem J6:SpF 8 xH Gg DC:=SpI Tryz.func103 (by kernel_rfl)
theorem Gp:ak Tryz.prog xH = true:=by kernel_rfl
def cd:AC:=
(.seq (.reg [oP 2 (.mv (.c (.slice 1 [])))] [0])
(.seq (.seq (.reg [mV 3 0,
oP 4 (.snil false (.t 3))] [0,4])
(.cond (.t 4)
(.seq (.reg [oP 2 (.nilS 2 1)] [2])
.ret)
.skip))
(.seq (.reg [oP 5 (.lit 2 1 0 []),
mV 6 0,
oP 7 (.append 1 16 (.t 5) (.t 6)),
mV 2 7] [2])
.ret)))
theorem gA:wD Tryz.prog Tryz.f103 8 cd DC = true:=by kernel_rfl
theorem fy:SpF 8 xH cd DC:=fun ha h=>Spec.vn Tryz.func103 gA ha h
abbrev DO:FuncId:=104
def Gh:AC:=
(.seq (.reg [oP 4 (.mv (.c (.bool false)))] [0,1])
(.seq (.reg [mV 5 0,
mV 6 1,
oP 7 (.call (.f 144) [true,false] [(.t 5),(.t 6)]),
oP 8 (.bin .geq (.t 7) (cI 0)),
mV 4 8] [4])
.ret))
abbrev IK:RsT:=[(4,none)]
theorem Ld:SpF 9 DO Gh IK:=SpI Tryz.func104 (by kernel_rfl)
theorem KD:ak Tryz.prog DO = true:=by kernel_rfl
abbrev CJ:FuncId:=105
def F2:AC:=
(.seq (.reg [oP 4 (.mv (.c (.bool false)))] [0,1,2])
(.seq (.reg [mV 5 0,
oP 6 (.load none (.t 1)),
oP 7 (.bin .lss (.t 5) (.t 6)),
mV 8 7,
gF 9 8 (.mv (.t 0)),
gF 10 8 (.load none (.t 2)),
gF 11 8 (.bin .gtr (.t 9) (.t 10)),
oP 12 (.pick (.t 8) (.c (.bool true)) (.t 11)),
mV 4 12] [4])
.ret))
abbrev Jf:RsT:=[(4,none)]
theorem JT:SpF 13 CJ F2 Jf:=SpI Tryz.func105 (by kernel_rfl)
theorem KK:ak Tryz.prog CJ = true:=by kernel_rfl
abbrev DE:FuncId:=106
def FV:AC:=
(.seq (.reg [oP 4 (.mv (cI 0))] [0,1])
(.seq (.seq (.reg [mV 6 0,
oP 7 (.len (.t 6)),
oP 8 (.mv (cI 0))] [0,1,7,8])
(.block 0
(.loop [0,1,7,8]
(.seq (.reg [oP 9 (.bin .lss (.t 8) (.t 7))] [0,1,7,8,9])
(.seq (.cond (.t 9)
.skip
(.exit 0))
(.seq (.block 1
(.seq (.reg [mV 10 8,
mV 5 10] [0,1,5,7,8])
(.seq (.reg [mV 11 1,
mV 12 0,
mV 13 5,
oP 14 (.ixS 7 (.t 12) (.t 13)),
oP 15 (.load (some 7) (.t 14)),
oP 16 (.call (.t 11) [true] [(.t 15)])] [0,1,5,7,8,16])
(.cond (.t 16)
(.seq (.reg [mV 17 5,
mV 4 17] [4])
.ret)
.skip))))
(.reg [oP 18 (.bin .add (.t 8) (cI 1)),
mV 8 18] [0,1,7,8])))))))
(.seq (.reg [oP 4 (.mv (cI (-1)))] [4])
.ret)))
abbrev Jq:RsT:=[(4,none)]
theorem Jb:SpF 19 DE FV Jq:=SpI Tryz.func106 (by kernel_rfl)
theorem D5:ak Tryz.prog DE = true:=by kernel_rfl
abbrev AX:FuncId:=107
def F1:AC:=
(.seq (.reg [oP 2 (.pbox 7 (.t 0)),
oP 3 (.mv (.c (.bool false)))] [1,2])
(.seq (.reg [oP 4 (.fieldAddr none 0 (.t 2)),
oP 5 (.load none (.t 4)),
oP 6 (.load none (.t 1)),
oP 7 (.bin .eql (.t 5) (.t 6)),
mV 3 7] [3])
.ret))
abbrev Jc:RsT:=[(3,none)]
theorem KZ:SpF 8 AX F1 Jc:=SpI Tryz.func107 (by kernel_rfl)
theorem F0:ak Tryz.prog AX = true:=by kernel_rfl
abbrev D0:FuncId:=108
def Ge:AC:=
(.seq (.reg [oP 4 (.mv (.c (.bool false)))] [0,1])
(.seq (.reg [mV 5 0,
mV 6 1,
oP 7 (.call (.f 126) [true,false] [(.t 5),(.t 6)]),
oP 8 (.bin .geq (.t 7) (cI 0)),
mV 4 8] [4])
.ret))
abbrev Ks:RsT:=[(4,none)]
theorem KA:SpF 9 D0 Ge Ks:=SpI Tryz.func108 (by kernel_rfl)
theorem GB:ak Tryz.prog D0 = true:=by kernel_rfl
abbrev D9:FuncId:=109
def F5:AC:=
(.seq (.reg [oP 4 (.mv (cI 0))] [0,1])
(.seq (.seq (.reg [mV 6 0,
oP 7 (.len (.t 6)),
oP 8 (.mv (cI 0))] [0,1,7,8])
(.block 0
(.loop [0,1,7,8]
(.seq (.reg [oP 9 (.bin .lss (.t 8) (.t 7))] [0,1,7,8,9])
(.seq (.cond (.t 9)
.skip
(.exit 0))
(.seq (.block 1
(.seq (.reg [mV 10 8,
mV 5 10] [0,1,5,7,8])
(.seq (.reg [mV 11 1,
mV 12 0,
mV 13 5,
oP 14 (.ixS 1 (.t 12) (.t 13)),
oP 15 (.load none (.t 14)),
oP 16 (.call (.t 11) [false] [(.t 15)])] [0,1,5,7,8,16])
(.cond (.t 16)
(.seq (.reg [mV 17 5,
mV 4 17] [4])
.ret)
.skip))))
(.reg [oP 18 (.bin .add (.t 8) (cI 1)),
mV 8 18] [0,1,7,8])))))))
(.seq (.reg [oP 4 (.mv (cI (-1)))] [4])
.ret)))
abbrev Jj:RsT:=[(4,none)]
theorem Ju:SpF 19 D9 F5 Jj:=SpI Tryz.func109 (by kernel_rfl)
theorem Ko:ak Tryz.prog D9 = true:=by kernel_rfl
abbrev xX:FuncId:=110
def Gt:AC:=
(.seq (.reg [oP 3 (.pbox 3 (.t 0)),
oP 4 (.mv (.c (.bool false)))] [1,2,3])
(.seq (.qreg [oP 5 (.fieldAddr none 0 (.t 1)),
oP 6 (.load none (.t 5)),
oP 7 (.load none (.t 2)),
oP 8 (.ixS 1 (.t 6) (.t 7)),
oP 9 (.fieldAddr none 0 (.t 3)),
oP 10 (.load none (.t 9)),
oP 11 (.fieldAddr none 1 (.t 3)),
oP 12 (.load none (.t 11)),
oP 13 (.build [.str ByteArray.empty, .int .i64 0] [(0,1,(.t 10)),(1,1,(.t 12))]),
oP 14 (.call (.f 78) [true,false] [(.t 8),(.t 13)]),
oP 15 (.fieldAddr none 2 (.t 3)),
oP 16 (.load none (.t 15)),
oP 17 (.bin .neq (.t 14) (.t 16)),
mV 4 17] [4] [[],[0],[],[0,1,2],[],[4],[],[6],[4,5,6,7],[0,1,2,3,4,5,6,7,8],[],[10],[0,1,2,3,4,5,6,7,8,9,10,11],[0,1,2,3,4,5,6,7,8,9,10,11,12]] [([0,1,2,3,4,5,6,7,8,10,11],9)] [12,13])
.ret))
abbrev K5:RsT:=[(4,none)]
theorem KQ:SpF 18 xX Gt K5:=SpI Tryz.func110 (by kernel_rfl)
theorem Iq:ak Tryz.prog xX = true:=by kernel_rfl
abbrev AQ:FuncId:=111
def FK:AC:=
(.seq (.reg [oP 4 (.mv (.c (.bool false)))] [0,1])
(.seq (.reg [mV 5 0,
mV 6 1,
oP 7 (.call (.f 145) [true,false] [(.t 5),(.t 6)]),
oP 8 (.bin .geq (.t 7) (cI 0)),
mV 4 8] [4])
.ret))
abbrev J4:RsT:=[(4,none)]
theorem KC:SpF 9 AQ FK J4:=SpI Tryz.func111 (by kernel_rfl)
theorem Gw:ak Tryz.prog AQ = true:=by kernel_rfl
abbrev Gu:FuncId:=112
theorem JU:ak Tryz.prog Gu = true:=by kernel_rfl
abbrev Dp:FuncId:=113
def C3:AC:=
(.seq (.reg [oP 2 (.mv (.c (.slice 1 [])))] [0])
(.seq (.seq (.reg [mV 6 0,
oP 7 (.len (.t 6)),
oP 8 (.bin .lss (.t 7) (cI 2))] [0,8])
(.cond (.t 8)
(.seq (.reg [mV 9 0,
oP 2 (.mvd (.t 9))] [2])
.ret)
.skip))
(.seq (.seq (.reg [oP 3 (.mv (cI 1))] [0,3])
(.block 0
(.loop [0,3]
(.seq (.seq (.reg [mV 10 3,
mV 11 0,
oP 12 (.len (.t 11)),
oP 13 (.bin .lss (.t 10) (.t 12))] [0,3,13])
(.cond (.t 13)
.skip
(.exit 0)))
(.seq (.block 1
(.seq (.dreg [mV 16 0,
mV 17 3,
oP 18 (.ixS 1 (.t 16) (.t 17)),
oP 19 (.load none (.t 18)),
mV 20 0,
mV 21 3,
oP 22 (.bin .sub (.t 21) (cI 1)),
oP 23 (.ixS 1 (.t 20) (.t 22)),
oP 24 (.load none (.t 23)),
oP 25 (.bin .eql (.t 19) (.t 24))] [0,3,25] [[],[],[0,1],[0,1,2],[],[],[5],[4,5,6],[4,5,6,7],[0,1,2,3,4,5,6,7,8]])
(.cond (.t 25)
(.seq (.reg [mV 26 0,
mV 27 3,
oP 28 (.sub 0 1 (.t 26) (some (.t 27)) none none),
mV 4 28] [0,3,4])
(.seq (.seq (.reg [oP 5 (.mv (cI 1))] [0,3,4,5])
(.block 2
(.loop [0,3,4,5]
(.seq (.seq (.reg [mV 29 5,
mV 30 4,
oP 31 (.len (.t 30)),
oP 32 (.bin .lss (.t 29) (.t 31))] [0,3,4,5,32])
(.cond (.t 32)
.skip
(.exit 2)))
(.seq (.block 3
(.seq (.dreg [mV 35 4,
mV 36 5,
oP 37 (.ixS 1 (.t 35) (.t 36)),
oP 38 (.load none (.t 37)),
mV 39 4,
mV 40 5,
oP 41 (.bin .sub (.t 40) (cI 1)),
oP 42 (.ixS 1 (.t 39) (.t 41)),
oP 43 (.load none (.t 42)),
oP 44 (.bin .neq (.t 38) (.t 43))] [0,3,4,5,44] [[],[],[0,1],[0,1,2],[],[],[5],[4,5,6],[4,5,6,7],[0,1,2,3,4,5,6,7,8]])
(.cond (.t 44)
(.seq (.reg [mV 45 0,
mV 46 3,
mV 47 4,
mV 48 5,
oP 49 (.ixS 1 (.t 47) (.t 48)),
oP 50 (.load none (.t 49)),
oP 51 (.ixS 1 (.t 45) (.t 46)),
oN (.store 1 (.t 51) (.t 50))] [0,3,4,5])
(.reg [mV 52 3,
oP 53 (.bin .add (.t 52) (cI 1)),
mV 3 53] [0,3,4,5]))
.skip)))
(.reg [mV 33 5,
oP 34 (.bin .add (.t 33) (cI 1)),
mV 5 34] [0,3,4,5]))))))
(.seq (.reg [mV 54 0,
mV 55 3,
oP 56 (.sub 0 1 (.t 54) (some (.t 55)) none none),
oN (.clear 1 (.str ByteArray.empty) (.t 56))] [0,3])
(.seq (.reg [mV 57 0,
mV 58 3,
oP 59 (.sub 0 1 (.t 57) none (some (.t 58)) none),
oP 2 (.mvd (.t 59))] [2])
.ret))))
.skip)))
(.reg [mV 14 3,
oP 15 (.bin .add (.t 14) (cI 1)),
mV 3 15] [0,3]))))))
(.seq (.reg [mV 60 0,
oP 2 (.mvd (.t 60))] [2])
.ret))))
abbrev ID:RsT:=[(2,none)]
theorem I0:SpF 61 Dp C3 ID:=SpI Tryz.func113 (by kernel_rfl)
theorem JN:ak Tryz.prog Dp = true:=by kernel_rfl
abbrev Cs:FuncId:=114
def FJ:AC:=
(.seq (.reg [oP 4 (.mv (cI 0))] [0,1])
(.seq (.seq (.reg [mV 6 0,
oP 7 (.len (.t 6)),
oP 8 (.mv (cI 0))] [0,1,7,8])
(.block 0
(.loop [0,1,7,8]
(.seq (.reg [oP 9 (.bin .lss (.t 8) (.t 7))] [0,1,7,8,9])
(.seq (.cond (.t 9)
.skip
(.exit 0))
(.seq (.block 1
(.seq (.reg [mV 10 8,
mV 5 10] [0,1,5,7,8])
(.seq (.reg [mV 11 1,
mV 12 0,
mV 13 5,
oP 14 (.ixS 1 (.t 12) (.t 13)),
oP 15 (.load (some 1) (.t 14)),
oP 16 (.call (.t 11) [true] [(.t 15)])] [0,1,5,7,8,16])
(.cond (.t 16)
(.seq (.reg [mV 17 5,
mV 4 17] [4])
.ret)
.skip))))
(.reg [oP 18 (.bin .add (.t 8) (cI 1)),
mV 8 18] [0,1,7,8])))))))
(.seq (.reg [oP 4 (.mv (cI (-1)))] [4])
.ret)))
abbrev I4:RsT:=[(4,none)]
theorem I8:SpF 19 Cs FJ I4:=SpI Tryz.func114 (by kernel_rfl)
theorem Kf:ak Tryz.prog Cs = true:=by kernel_rfl
abbrev sT:FuncId:=115
def FZ:AC:=
(.seq (.reg [oP 6 (.load none (.t 1)),
oP 7 (.call (.f 72) [true] [(.t 6)]),
oP 8 (.len (.t 7)),
oP 9 (.mv (cI 0))] [0,7,8,9])
(.block 0
(.loop [0,7,8,9]
(.seq (.reg [oP 10 (.bin .lss (.t 9) (.t 8))] [0,7,8,9,10])
(.seq (.cond (.t 10)
.skip
(.exit 0))
(.seq (.block 1
(.seq (.reg [oP 11 (.ixS 1 (.t 7) (.t 9)),
oP 12 (.load none (.t 11)),
mV 4 12] [0,4,7,8,9])
(.seq (.reg [oP 13 (.mv (cI 0))] [0,4,7,8,9,13])
(.block 2
(.loop [0,4,7,8,9,13]
(.seq (.reg [oP 14 (.bin .lss (.t 13) (cI 41))] [0,4,7,8,9,13,14])
(.seq (.cond (.t 14)
.skip
(.exit 2))
(.seq (.block 3
(.seq (.reg [mV 15 13,
mV 5 15] [0,4,5,7,8,9,13])
(.seq (.reg [mV 16 0,
mV 17 4,
mV 18 5,
oP 19 (.build [.str ByteArray.empty, .int .i64 0] [(0,1,(.t 17)),(1,1,(.t 18))]),
oP 20 (.call (.t 16) [false] [(.t 19)]),
oP 21 (.un .not (.t 20))] [0,4,7,8,9,13,21])
(.cond (.t 21)
.ret
.skip))))
(.reg [oP 22 (.bin .add (.t 13) (cI 1)),
mV 13 22] [0,4,7,8,9,13])))))))))
(.reg [oP 23 (.bin .add (.t 9) (cI 1)),
mV 9 23] [0,7,8,9])))))))
abbrev JW:RsT:=[]
theorem JP:SpF 24 sT FZ JW:=SpI Tryz.func115 (by kernel_rfl)
theorem JX:ak Tryz.prog sT = true:=by kernel_rfl
abbrev vp:FuncId:=116
def Gb:AC:=
(.reg [mV 3 0,
⟨some 4,none, .call (.f 118) [true,false] [(.t 3),(.c (.str ⟨#[32]⟩))]⟩,
⟨some 5,none, .bin .add (.t 4) (.c (.str ⟨#[10]⟩))⟩,
oP 6 (.call (.f 117) [true,false] [(.t 1),(.t 5)])] [])
abbrev Jv:RsT:=[]
theorem Ix:SpF 7 vp Gb Jv:=SpI Tryz.func116 (by kernel_rfl)
theorem Bf:ak Tryz.prog vp = true:=by kernel_rfl
abbrev F3:FuncId:=117
theorem JR:ak Tryz.prog F3 = true:=by kernel_rfl
abbrev F7:FuncId:=118
theorem KP:ak Tryz.prog F7 = true:=by kernel_rfl
abbrev Dm:FuncId:=119
def FP:AC:=
(.seq (.reg [oP 1 (.pbox 7 (.t 0)),
oP 2 (.mv (.c (.slice 1 [])))] [1])
(.seq (.dreg [oP 6 (.fieldAddr none 0 (.t 1)),
oP 7 (.load none (.t 6)),
oP 8 (.call (.f 127) [] []),
oP 9 (.fieldAddr none 1 (.t 1)),
oP 10 (.load none (.t 9)),
oP 11 (.bin .sub (.t 10) (cI 1)),
oP 12 (.ixS 1 (.t 8) (.t 11)),
oP 13 (.load none (.t 12)),
oP 14 (.lit 1 1 2 [(0,(.t 7)),(1,(.t 13))]),
mV 3 14] [1,3] [[],[0],[],[],[3],[3,4],[2,3,4,5],[2,3,4,5,6],[0,1,2,3,4,5,6,7],[0,1,2,3,4,5,6,7,8]])
(.seq (.seq (.reg [oP 15 (.fieldAddr none 2 (.t 1)),
oP 16 (.load none (.t 15)),
oP 17 (.fieldAddr none 3 (.t 1)),
oP 18 (.load none (.t 17)),
oP 19 (.fieldAddr (some 2) 5 (.t 1)),
oP 20 (.fieldAddr none 0 (.t 19)),
oP 21 (.load none (.t 20)),
oP 22 (.fieldAddr (some 2) 5 (.t 1)),
oP 23 (.fieldAddr none 1 (.t 22)),
oP 24 (.load none (.t 23)),
oP 25 (.lit 0 1 4 [(0,(.t 16)),(1,(.t 18)),(2,(.t 21)),(3,(.t 24))]),
oP 26 (.len (.t 25)),
oP 27 (.mv (cI 0))] [1,3,25,26,27])
(.block 0
(.loop [1,3,25,26,27]
(.seq (.reg [oP 28 (.bin .lss (.t 27) (.t 26))] [1,3,25,26,27,28])
(.seq (.cond (.t 28)
.skip
(.exit 0))
(.seq (.block 1
(.seq (.reg [oP 29 (.ixS 1 (.t 25) (.t 27)),
oP 30 (.load none (.t 29)),
mV 5 30] [1,3,5,25,26,27])
(.reg [mV 31 3,
mV 32 5,
oP 33 (.call (.f 120) [false] [(.t 32)]),
oP 34 (.lit 0 1 1 [(0,(.t 33))]),
oP 35 (.append 1 16 (.t 31) (.t 34)),
mV 3 35] [1,3,25,26,27])))
(.reg [oP 36 (.bin .add (.t 27) (cI 1)),
mV 27 36] [1,3,25,26,27])))))))
(.seq (.reg [mV 37 3,
oP 38 (.fieldAddr none 4 (.t 1)),
oP 39 (.load none (.t 38)),
oP 40 (.append 1 16 (.t 37) (.t 39)),
oP 2 (.mvd (.t 40))] [2])
.ret))))
abbrev I9:RsT:=[(2,none)]
theorem Lf:SpF 41 Dm FP I9:=SpI Tryz.func119 (by kernel_rfl)
theorem AE:ak Tryz.prog Dm = true:=by kernel_rfl
abbrev Gm:FuncId:=120
theorem A8:ak Tryz.prog Gm = true:=by kernel_rfl
abbrev JE:FuncId:=121
theorem KE:ak Tryz.prog JE = true:=by kernel_rfl
abbrev yx:FuncId:=122
def zV:AC:=
(.seq (.reg [oP 1 (.pbox 7 (.t 0)),
⟨some 2,none, .mv (.c (.str ⟨#[]⟩))⟩] [1])
(.seq (.dreg [oP 5 (.fieldAddr none 0 (.t 1)),
oP 6 (.load none (.t 5)),
⟨some 7,none, .bin .add (.t 6) (.c (.str ⟨#[32]⟩))⟩,
oP 8 (.call (.f 129) [] []),
oP 9 (.fieldAddr none 1 (.t 1)),
oP 10 (.load none (.t 9)),
oP 11 (.ixS 1 (.t 8) (.t 10)),
oP 12 (.load none (.t 11)),
oP 13 (.bin .add (.t 7) (.t 12)),
⟨some 14,none, .bin .add (.t 13) (.c (.str ⟨#[32]⟩))⟩,
oP 15 (.fieldAddr none 2 (.t 1)),
oP 16 (.load none (.t 15)),
oP 17 (.call (.f 123) [false] [(.t 16)]),
oP 18 (.bin .add (.t 14) (.t 17)),
⟨some 19,none, .bin .add (.t 18) (.c (.str ⟨#[32]⟩))⟩,
oP 20 (.fieldAddr none 3 (.t 1)),
oP 21 (.load none (.t 20)),
oP 22 (.call (.f 123) [false] [(.t 21)]),
oP 23 (.bin .add (.t 19) (.t 22)),
⟨some 24,none, .bin .add (.t 23) (.c (.str ⟨#[32]⟩))⟩,
oP 25 (.fieldAddr (some 2) 5 (.t 1)),
oP 26 (.fieldAddr none 0 (.t 25)),
oP 27 (.load none (.t 26)),
oP 28 (.call (.f 123) [false] [(.t 27)]),
oP 29 (.bin .add (.t 24) (.t 28)),
⟨some 30,none, .bin .add (.t 29) (.c (.str ⟨#[32]⟩))⟩,
oP 31 (.fieldAddr (some 2) 5 (.t 1)),
oP 32 (.fieldAddr none 1 (.t 31)),
oP 33 (.load none (.t 32)),
oP 34 (.call (.f 123) [false] [(.t 33)]),
oP 35 (.bin .add (.t 30) (.t 34)),
mV 3 35] [1,3] [[],[0],[0,1],[],[],[4],[3,4,5],[3,4,5,6],[0,1,2,3,4,5,6,7],[0,1,2,3,4,5,6,7,8],[],[10],[3,10,11],[0,1,2,3,4,5,6,7,8,9,10,11,12],[0,1,2,3,4,5,6,7,8,9,10,11,12,13],[],[15],[3,10,11,12,15,16],[0,1,2,3,4,5,6,7,8,9,10,11,12,13,14,15,16,17],[0,1,2,3,4,5,6,7,8,9,10,11,12,13,14,15,16,17,18],[],[20],[20,21],[3,10,11,12,15,16,17,20,21,22],[0,1,2,3,4,5,6,7,8,9,10,11,12,13,14,15,16,17,18,19,20,21,22,23],[0,1,2,3,4,5,6,7,8,9,10,11,12,13,14,15,16,17,18,19,20,21,22,23,24],[],[26],[26,27],[3,10,11,12,15,16,17,20,21,22,23,26,27,28],[0,1,2,3,4,5,6,7,8,9,10,11,12,13,14,15,16,17,18,19,20,21,22,23,24,25,26,27,28,29],[0,1,2,3,4,5,6,7,8,9,10,11,12,13,14,15,16,17,18,19,20,21,22,23,24,25,26,27,28,29,30]])
(.seq (.seq (.reg [oP 4 (.mv (cI 0))] [1,3,4])
(.block 0
(.loop [1,3,4]
(.seq (.seq (.reg [mV 36 4,
oP 37 (.fieldAddr none 4 (.t 1)),
oP 38 (.load none (.t 37)),
oP 39 (.len (.t 38)),
oP 40 (.bin .lss (.t 36) (.t 39))] [1,3,4,40])
(.cond (.t 40)
.skip
(.exit 0)))
(.seq (.block 1
(.reg [mV 43 3,
⟨some 44,none, .bin .add (.t 43) (.c (.str ⟨#[32]⟩))⟩,
oP 45 (.fieldAddr none 4 (.t 1)),
oP 46 (.load none (.t 45)),
mV 47 4,
oP 48 (.ixS 1 (.t 46) (.t 47)),
oP 49 (.load none (.t 48)),
oP 50 (.bin .add (.t 44) (.t 49)),
mV 3 50] [1,3,4]))
(.reg [mV 41 4,
oP 42 (.bin .add (.t 41) (cI 1)),
mV 4 42] [1,3,4]))))))
(.seq (.reg [mV 51 3,
mV 2 51] [2])
.ret))))
abbrev Ca:RsT:=[(2,none)]
theorem Is:SpF 52 yx zV Ca:=SpI Tryz.func122 (by kernel_rfl)
theorem yL:ak Tryz.prog yx = true:=by kernel_rfl
abbrev xf:FuncId:=123
def Af:AC:=
(.seq (.reg [⟨some 2,none, .mv (.c (.str ⟨#[]⟩))⟩] [0])
(.seq (.seq (.reg [mV 4 0,
oP 5 (.bin .lss (.t 4) (cI 0))] [0,5])
(.cond (.t 5)
(.seq (.reg [mV 6 0,
oP 7 (.un .neg (.t 6)),
oP 8 (.call (.f 123) [false] [(.t 7)]),
⟨some 9,none, .bin .add (.c (.str ⟨#[45]⟩)) (.t 8)⟩,
mV 2 9] [2])
.ret)
.skip))
(.seq (.reg [⟨some 3,none, .mv (.c (.str ⟨#[]⟩))⟩] [0,3])
(.block 0
(.loop [0,3]
(.block 1
(.seq (.reg [mV 10 0,
oP 11 (.bin .rem (.t 10) (cI 10)),
oP 12 (.bin .add (cI 48) (.t 11)),
oP 13 (.conv .u8 (.t 12)),
oP 14 (.lit 0 1 1 [(0,(.t 13))]),
oP 15 (.b2s (.t 14)),
mV 16 3,
oP 17 (.bin .add (.t 15) (.t 16)),
mV 3 17] [0,3])
(.seq (.reg [mV 18 0,
oP 19 (.bin .quo (.t 18) (cI 10)),
mV 0 19] [0,3])
(.seq (.reg [mV 20 0,
oP 21 (.bin .eql (.t 20) (cI 0))] [0,3,21])
(.cond (.t 21)
(.seq (.reg [mV 22 3,
mV 2 22] [2])
.ret)
.skip))))))))))
abbrev B7:RsT:=[(2,none)]
theorem Cb:SpF 23 xf Af B7:=SpI Tryz.func123 (by kernel_rfl)
theorem qp:ak Tryz.prog xf = true:=by kernel_rfl
abbrev C8:FuncId:=126
def FX:AC:=
(.seq (.reg [oP 4 (.mv (cI 0))] [0,1])
(.seq (.seq (.reg [mV 6 0,
oP 7 (.len (.t 6)),
oP 8 (.mv (cI 0))] [0,1,7,8])
(.block 0
(.loop [0,1,7,8]
(.seq (.reg [oP 9 (.bin .lss (.t 8) (.t 7))] [0,1,7,8,9])
(.seq (.cond (.t 9)
.skip
(.exit 0))
(.seq (.block 1
(.seq (.reg [mV 10 8,
mV 5 10] [0,1,5,7,8])
(.seq (.reg [mV 11 1,
mV 12 0,
mV 13 5,
oP 14 (.ixS 1 (.t 12) (.t 13)),
oP 15 (.load none (.t 14)),
oP 16 (.bin .eql (.t 11) (.t 15))] [0,1,5,7,8,16])
(.cond (.t 16)
(.seq (.reg [mV 17 5,
mV 4 17] [4])
.ret)
.skip))))
(.reg [oP 18 (.bin .add (.t 8) (cI 1)),
mV 8 18] [0,1,7,8])))))))
(.seq (.reg [oP 4 (.mv (cI (-1)))] [4])
.ret)))
abbrev Iv:RsT:=[(4,none)]
theorem J1:SpF 19 C8 FX Iv:=SpI Tryz.func126 (by kernel_rfl)
theorem Bg:ak Tryz.prog C8 = true:=by kernel_rfl
abbrev C4:FuncId:=127
def Ga:AC:=
(.seq (.reg [oP 0 (.mv (.c (.slice 1 [])))] [])
(.seq (.reg [⟨some 1,none, .lit 0 1 5 [(0,(.c (.str ⟨#[112,108,97,116,101]⟩))),(1,(.c (.str ⟨#[98,101,97,109]⟩))),(2,(.c (.str ⟨#[101,110,103,105,110,101]⟩))),(3,(.c (.str ⟨#[116,97,110,107]⟩))),(4,(.c (.str ⟨#[112,105,112,101]⟩)))]⟩,
oP 0 (.mvd (.t 1))] [0])
.ret))
abbrev Lc:RsT:=[(0,none)]
theorem IG:SpF 2 C4 Ga Lc:=SpI Tryz.func127 (by kernel_rfl)
theorem AK:ak Tryz.prog C4 = true:=by kernel_rfl
abbrev A5:FuncId:=128
def y7:AC:=
(.seq (.reg [oP 2 (.mv (cI 0))] [0])
(.seq (.reg [mV 6 0,
oP 7 (.call (.f 89) [false] [(.t 6)]),
oP 8 (.call (.f 155) [false] [(.t 7)]),
mV 5 8,
oP 9 (.extract (.t 5) 0),
oP 10 (.extract (.t 5) 1),
mV 3 9,
mV 4 10] [3,4])
(.seq (.reg [mV 11 4,
oP 12 (.isnil false (.t 11)),
oP 13 (.call (.f 87) [false] [(.t 12)])] [3])
(.seq (.reg [mV 14 3,
mV 2 14] [2])
.ret))))
abbrev IQ:RsT:=[(2,none)]
theorem Bo:SpF 15 A5 y7 IQ:=SpI Tryz.func128 (by kernel_rfl)
theorem GC:ak Tryz.prog A5 = true:=by kernel_rfl
abbrev zb:FuncId:=129
def zW:AC:=
(.seq (.reg [oP 0 (.mv (.c (.slice 1 [])))] [])
(.seq (.reg [⟨some 1,none, .lit 0 1 6 [(0,(.c (.str ⟨#[]⟩))),(1,(.c (.str ⟨#[112,108,97,116,101]⟩))),(2,(.c (.str ⟨#[98,101,97,109]⟩))),(3,(.c (.str ⟨#[101,110,103,105,110,101]⟩))),(4,(.c (.str ⟨#[116,97,110,107]⟩))),(5,(.c (.str ⟨#[112,105,112,101]⟩)))]⟩,
oP 0 (.mvd (.t 1))] [0])
.ret))
abbrev BX:RsT:=[(0,none)]
theorem BP:SpF 2 zb zW BX:=SpI Tryz.func129 (by kernel_rfl)
theorem Ac:ak Tryz.prog zb = true:=by kernel_rfl
abbrev zz:FuncId:=130
def tQ:AC:=
(.seq (.reg [oP 2 (.mv (cI 0))] [0])
(.seq (.seq (.reg [mV 5 0,
oP 6 (.lenStr (.t 5)),
oP 7 (.call (.f 54) [false,false,false] [(.t 6),(cI 1),(cI 9)]),
oP 8 (.un .not (.t 7)),
mV 9 8,
gF 10 9 (.mv (.t 0)),
gF 11 9 (.lenStr (.t 10)),
gF 12 9 (.bin .gtr (.t 11) (cI 1)),
gF 13 9 (.mv (.t 12)),
gT 14 13 (.mv (.t 0)),
gT 15 13 (.ixStr (.t 14) (cI 0)),
gT 16 13 (.bin .eql (.t 15) (.c (.int .u8 48))),
gF 17 9 (.pick (.t 13) (.t 16) (.c (.bool false))),
oP 18 (.pick (.t 9) (.c (.bool true)) (.t 17))] [0,18])
(.cond (.t 18)
(.seq (.reg [oP 2 (.mv (cI (-1)))] [2])
.ret)
.skip))
(.seq (.reg [oP 3 (.mv (cI 0))] [0,3])
(.seq (.seq (.reg [oP 4 (.mv (cI 0))] [0,3,4])
(.block 0
(.loop [0,3,4]
(.seq (.seq (.reg [mV 19 4,
mV 20 0,
oP 21 (.lenStr (.t 20)),
oP 22 (.bin .lss (.t 19) (.t 21))] [0,3,4,22])
(.cond (.t 22)
.skip
(.exit 0)))
(.seq (.block 1
(.seq (.seq (.reg [mV 25 0,
mV 26 4,
oP 27 (.ixStr (.t 25) (.t 26)),
oP 28 (.bin .lss (.t 27) (.c (.int .u8 48))),
mV 29 28,
gF 30 29 (.mv (.t 0)),
gF 31 29 (.mv (.t 4)),
gF 32 29 (.ixStr (.t 30) (.t 31)),
gF 33 29 (.bin .gtr (.t 32) (.c (.int .u8 57))),
oP 34 (.pick (.t 29) (.c (.bool true)) (.t 33))] [0,3,4,34])
(.cond (.t 34)
(.seq (.reg [oP 2 (.mv (cI (-1)))] [2])
.ret)
.skip))
(.reg [mV 35 3,
oP 36 (.bin .mul (cI 10) (.t 35)),
mV 37 0,
mV 38 4,
oP 39 (.ixStr (.t 37) (.t 38)),
oP 40 (.conv .i64 (.t 39)),
oP 41 (.bin .add (.t 36) (.t 40)),
oP 42 (.bin .sub (.t 41) (cI 48)),
mV 3 42] [0,3,4])))
(.reg [mV 23 4,
oP 24 (.bin .add (.t 23) (cI 1)),
mV 4 24] [0,3,4]))))))
(.seq (.reg [mV 43 3,
mV 2 43] [2])
.ret)))))
abbrev Cj:RsT:=[(2,none)]
theorem C1:SpF 44 zz tQ Cj:=SpI Tryz.func130 (by kernel_rfl)
theorem j8:ak Tryz.prog zz = true:=by kernel_rfl
abbrev DD:FuncId:=131
def FN:AC:=
(.seq (.reg [oP 4 (.mv (.c (.bool false)))] [0,1])
(.seq (.reg [mV 5 0,
mV 6 1,
oP 7 (.call (.f 106) [true,false] [(.t 5),(.t 6)]),
oP 8 (.bin .geq (.t 7) (cI 0)),
mV 4 8] [4])
.ret))
abbrev K6:RsT:=[(4,none)]
theorem J0:SpF 9 DD FN K6:=SpI Tryz.func131 (by kernel_rfl)
theorem ra:ak Tryz.prog DD = true:=by kernel_rfl
abbrev xE:FuncId:=132
def Gr:AC:=
(.seq (.reg [oP 2 (.pbox 7 (.t 0)),
oP 3 (.mv (.c (.bool false)))] [1,2])
(.seq (.reg [oP 4 (.fieldAddr none 0 (.t 2)),
oP 5 (.load none (.t 4)),
oP 6 (.fieldAddr none 0 (.t 1)),
oP 7 (.load none (.t 6)),
oP 8 (.bin .eql (.t 5) (.t 7)),
mV 3 8] [3])
.ret))
abbrev JO:RsT:=[(3,none)]
theorem Ky:SpF 9 xE Gr JO:=SpI Tryz.func132 (by kernel_rfl)
theorem Il:ak Tryz.prog xE = true:=by kernel_rfl
abbrev xK:FuncId:=133
def FH:AC:=
(.seq (.reg [oP 3 (.mv (.c (.bool false)))] [0,1])
(.seq (.reg [mV 4 0,
oP 5 (.call (.f 61) [true,false] [(.t 1),(.t 4)]),
oP 6 (.bin .lss (.t 5) (cI 0)),
mV 3 6] [3])
.ret))
abbrev KX:RsT:=[(3,none)]
theorem JM:SpF 7 xK FH KX:=SpI Tryz.func133 (by kernel_rfl)
theorem Gq:ak Tryz.prog xK = true:=by kernel_rfl
abbrev Cx:FuncId:=134
def F8:AC:=
(.seq (.reg [oP 2 (.mv (.c (.bool false)))] [0])
(.seq (.seq (.reg [mV 5 0,
oP 6 (.len (.t 5)),
oP 7 (.mv (cI 0))] [0,5,6,7])
(.block 0
(.loop [0,5,6,7]
(.seq (.reg [oP 8 (.bin .lss (.t 7) (.t 6))] [0,5,6,7,8])
(.seq (.cond (.t 8)
.skip
(.exit 0))
(.seq (.block 1
(.seq (.reg [mV 9 7,
oP 10 (.ixS 1 (.t 5) (.t 7)),
oP 11 (.load none (.t 10)),
mV 3 9,
mV 4 11] [0,3,4,5,6,7])
(.seq (.reg [mV 12 0,
mV 13 3,
oP 14 (.subq 1 (.t 12) none (some (.t 13))),
mV 15 4,
oP 16 (.call (.f 108) [true,false] [(.t 14),(.t 15)])] [0,5,6,7,16])
(.cond (.t 16)
(.seq (.reg [oP 2 (.mv (.c (.bool true)))] [2])
.ret)
.skip))))
(.reg [oP 17 (.bin .add (.t 7) (cI 1)),
mV 7 17] [0,5,6,7])))))))
(.seq (.reg [oP 2 (.mv (.c (.bool false)))] [2])
.ret)))
abbrev KV:RsT:=[(2,none)]
theorem IM:SpF 18 Cx F8 KV:=SpI Tryz.func134 (by kernel_rfl)
theorem A3:ak Tryz.prog Cx = true:=by kernel_rfl
abbrev xU:FuncId:=135
def FO:AC:=
(.seq (.reg [oP 4 (.mv (.c (.bool false)))] [0,1,2])
(.seq (.qreg [oP 5 (.load (some 7) (.t 1)),
oP 6 (.fieldAddr (some 1) 0 (.t 2)),
oP 7 (.fieldAddr none 0 (.t 6)),
oP 8 (.load none (.t 7)),
mV 9 0,
oP 10 (.call (.f 61) [true,false] [(.t 2),(.t 9)]),
oP 11 (.ixS 7 (.t 8) (.t 10)),
oP 12 (.load (some 7) (.t 11)),
oP 13 (.call (.f 136) [true,true] [(.t 5),(.t 12)]),
oP 14 (.un .not (.t 13)),
mV 4 14] [4] [[],[],[1],[1,2],[],[4],[1,2,3,4,5],[1,2,3,4,5,6],[0,1,2,3,4,5,6,7],[0,1,2,3,4,5,6,7,8],[0,1,2,3,4,5,6,7,8,9]] [([0,1,2,3,4],5),([6,7],8)] [9,10])
.ret))
abbrev Iw:RsT:=[(4,none)]
theorem BT:SpF 15 xU FO Iw:=SpI Tryz.func135 (by kernel_rfl)
theorem Gd:ak Tryz.prog xU = true:=by kernel_rfl
abbrev Di:FuncId:=136
def FQ:AC:=
(.seq (.reg [oP 2 (.pbox 7 (.t 0)),
oP 3 (.pbox 7 (.t 1)),
oP 4 (.mv (.c (.bool false)))] [2,3])
(.seq (.reg [oP 5 (.fieldAddr none 2 (.t 2)),
oP 6 (.load none (.t 5)),
oP 7 (.fieldAddr none 3 (.t 3)),
oP 8 (.load none (.t 7)),
oP 9 (.bin .leq (.t 6) (.t 8)),
mV 10 9,
gT 11 10 (.fieldAddr none 2 (.t 3)),
gT 12 10 (.load none (.t 11)),
gT 13 10 (.fieldAddr none 3 (.t 2)),
gT 14 10 (.load none (.t 13)),
gT 15 10 (.bin .leq (.t 12) (.t 14)),
oP 16 (.pick (.t 10) (.t 15) (.c (.bool false))),
mV 4 16] [4])
.ret))
abbrev IP:RsT:=[(4,none)]
theorem Ji:SpF 17 Di FQ IP:=SpI Tryz.func136 (by kernel_rfl)
theorem Cr:ak Tryz.prog Di = true:=by kernel_rfl
abbrev xp:FuncId:=137
def GA:AC:=
(.seq (.reg [oP 1 (.pbox 10 (.t 0)),
oP 2 (.mv (.c (.bool false)))] [1])
(.seq (.reg [oP 3 (.fieldAddr none 2 (.t 1)),
oP 4 (.load none (.t 3)),
⟨some 5,none, .bin .eql (.t 4) (.c (.str ⟨#[]⟩))⟩,
mV 2 5] [2])
.ret))
abbrev II:RsT:=[(2,none)]
theorem IY:SpF 6 xp GA II:=SpI Tryz.func137 (by kernel_rfl)
theorem Jr:ak Tryz.prog xp = true:=by kernel_rfl
abbrev xq:FuncId:=138
def A7:AC:=
(.seq (.reg [oP 3 (.pbox 10 (.t 1)),
oP 4 (.mv (cI 0))] [0,3])
(.seq (.seq (.reg [mV 6 0,
oP 7 (.nilchk (.t 6)),
oP 8 (.fieldAddr (some 1) 0 (.t 7)),
oP 9 (.fieldAddr none 0 (.t 8)),
oP 10 (.load none (.t 9)),
oP 11 (.len (.t 10)),
oP 12 (.bin .geq (.t 11) (cI 12))] [0,3,12])
(.cond (.t 12)
(.seq (.reg [oP 4 (.mv (cI 3))] [4])
.ret)
.skip))
(.seq (.seq (.qreg [mV 13 0,
oP 14 (.fieldAddr (some 7) 3 (.t 3)),
oP 15 (.load (some 7) (.t 14)),
mV 16 0,
oP 17 (.nilchk (.t 16)),
oP 18 (.fieldAddr (some 1) 0 (.t 17)),
oP 19 (.fieldAddr none 0 (.t 18)),
oP 20 (.load none (.t 19)),
oP 21 (.len (.t 20)),
oP 22 (.call (.f 96) [false,true,false,true] [(.t 13),(.t 15),(.t 21),(.c (.slice 7 []))]),
mV 5 22] [0,3,5] [[],[],[1],[],[3],[3,4],[3,4,5],[3,4,5,6],[3,4,5,6,7],[0,1,2,3,4,5,6,7,8],[0,1,2,3,4,5,6,7,8,9]] [([0,1,2,3,4,5,6,7,8],9)] [10])
(.seq (.reg [mV 23 5,
oP 24 (.bin .neq (.t 23) (cI 0))] [0,3,5,24])
(.cond (.t 24)
(.seq (.reg [mV 25 5,
mV 4 25] [4])
.ret)
.skip)))
(.seq (.dreg [mV 26 0,
mV 27 0,
oP 28 (.nilchk (.t 27)),
oP 29 (.fieldAddr (some 1) 0 (.t 28)),
oP 30 (.fieldAddr none 0 (.t 29)),
oP 31 (.load none (.t 30)),
oP 32 (.callA 7 (.f 156) [true] [(.t 31)]),
oP 33 (.fieldAddr (some 7) 3 (.t 3)),
oP 34 (.load (some 7) (.t 33)),
oP 35 (.lit 0 7 1 [(0,(.t 34))]),
oP 36 (.append 7 80 (.t 32) (.t 35)),
oP 37 (.nilchk (.t 26)),
oP 38 (.fieldAddr (some 1) 0 (.t 37)),
oP 39 (.fieldAddr none 0 (.t 38)),
oN (.store 1 (.t 39) (.t 36))] [0] [[],[],[1],[1,2],[1,2,3],[1,2,3,4],[1,2,3,4,5],[],[7],[7,8],[1,2,3,4,5,6,7,8,9],[0,1,2,3,4,5,6,7,8,9,10],[0,1,2,3,4,5,6,7,8,9,10,11],[0,1,2,3,4,5,6,7,8,9,10,11,12],[0,1,2,3,4,5,6,7,8,9,10,11,12,13]])
(.uj 0 0 7 (.seq (.reg [oP 4 (.mv (cI 0))] [4])
.ret))))))
abbrev KJ:RsT:=[(4,none)]
theorem DZ:SpF 40 xq A7 KJ:=SpI Tryz.func138 (by kernel_rfl)
theorem Lb:ak Tryz.prog xq = true:=by kernel_rfl
abbrev yZ:FuncId:=139
def F4:AC:=
(.seq (.reg [oP 1 (.pbox 10 (.t 0)),
oP 2 (.mv (.c (.bool false)))] [1])
(.seq (.reg [oP 3 (.fieldAddr (some 7) 3 (.t 1)),
oP 4 (.load (some 7) (.t 3)),
oP 5 (.call (.f 81) [true] [(.t 4)]),
oP 6 (.build [.str ByteArray.empty, .int .i64 0, .int .i64 0, .int .i64 0, .int .i64 0, .int .i64 0] []),
oP 7 (.eqa false [.s, .i, .i, .i, .i, .i] (.t 5) (.t 6)),
mV 8 7,
gT 9 8 (.fieldAddr (some 7) 3 (.t 1)),
gT 10 8 (.fieldAddr none 4 (.t 9)),
gT 11 8 (.load none (.t 10)),
gT 12 8 (.len (.t 11)),
gT 13 8 (.bin .eql (.t 12) (cI 0)),
oP 14 (.pick (.t 8) (.t 13) (.c (.bool false))),
mV 2 14] [2])
.ret))
abbrev Kj:RsT:=[(2,none)]
theorem Jx:SpF 15 yZ F4 Kj:=SpI Tryz.func139 (by kernel_rfl)
theorem K4:ak Tryz.prog yZ = true:=by kernel_rfl
abbrev xk:FuncId:=140
def Ba:AC:=
(.seq (.reg [oP 3 (.pbox 10 (.t 1)),
oP 4 (.mv (cI 0))] [0,3])
(.seq (.reg [mV 6 0,
oP 7 (.fieldAddr none 2 (.t 3)),
oP 8 (.load none (.t 7)),
oP 9 (.call (.f 61) [false,false] [(.t 6),(.t 8)]),
mV 5 9] [0,3,5])
(.seq (.block 0
(.seq (.reg [mV 11 5,
oP 12 (.bin .lss (.t 11) (cI 0)),
mV 10 12] [0,3,5,10])
(.cond (.t 10)
(.seq (.reg [oP 4 (.mv (cI 4))] [4])
.ret)
(.seq (.reg [mV 14 0,
oP 15 (.nilchk (.t 14)),
oP 16 (.fieldAddr (some 1) 0 (.t 15)),
oP 17 (.fieldAddr none 0 (.t 16)),
oP 18 (.load none (.t 17)),
oP 19 (.mkfunc (.func 157) [] [(.t 3)]),
oP 20 (.call (.f 131) [true,false] [(.t 18),(.t 19)]),
mV 13 20] [0,5,13])
(.cond (.t 13)
(.seq (.reg [oP 4 (.mv (cI 9))] [4])
.ret)
.skip)))))
(.seq (.reg [mV 21 0,
mV 22 0,
oP 23 (.nilchk (.t 22)),
oP 24 (.fieldAddr (some 1) 0 (.t 23)),
oP 25 (.fieldAddr none 0 (.t 24)),
oP 26 (.load none (.t 25)),
oP 27 (.call (.f 156) [true] [(.t 26)]),
mV 28 5,
mV 29 5,
oP 30 (.bin .add (.t 29) (cI 1)),
oP 31 (.call (.f 158) [true,false,false] [(.t 27),(.t 28),(.t 30)]),
oP 32 (.nilchk (.t 21)),
oP 33 (.fieldAddr (some 1) 0 (.t 32)),
oP 34 (.fieldAddr none 0 (.t 33)),
oN (.store 1 (.t 34) (.t 31))] [0])
(.uj 0 0 7 (.seq (.reg [oP 4 (.mv (cI 0))] [4])
.ret))))))
abbrev J7:RsT:=[(4,none)]
theorem Cz:SpF 35 xk Ba J7:=SpI Tryz.func140 (by kernel_rfl)
theorem Lh:ak Tryz.prog xk = true:=by kernel_rfl
abbrev y5:FuncId:=141
def Gf:AC:=
(.seq (.reg [oP 1 (.pbox 10 (.t 0)),
oP 2 (.mv (.c (.bool false)))] [])
(.seq (.reg [oP 2 (.mv (.c (.bool true)))] [2])
.ret))
abbrev IU:RsT:=[(2,none)]
theorem Kz:SpF 3 y5 Gf IU:=SpI Tryz.func141 (by kernel_rfl)
theorem I3:ak Tryz.prog y5 = true:=by kernel_rfl
abbrev xd:FuncId:=142
def A0:AC:=
(.seq (.reg [oP 3 (.pbox 10 (.t 1)),
oP 4 (.mv (cI 0))] [0,3])
(.seq (.reg [mV 11 0,
oP 12 (.fieldAddr none 2 (.t 3)),
oP 13 (.load none (.t 12)),
oP 14 (.call (.f 61) [false,false] [(.t 11),(.t 13)]),
mV 5 14] [0,3,5])
(.seq (.seq (.reg [mV 15 5,
oP 16 (.bin .lss (.t 15) (cI 0))] [0,3,5,16])
(.cond (.t 16)
(.seq (.reg [oP 4 (.mv (cI 4))] [4])
.ret)
.skip))
(.seq (.seq (.qreg [mV 17 0,
oP 18 (.fieldAddr (some 7) 3 (.t 3)),
oP 19 (.load (some 7) (.t 18)),
mV 20 5,
mV 21 0,
oP 22 (.nilchk (.t 21)),
oP 23 (.fieldAddr (some 1) 0 (.t 22)),
oP 24 (.fieldAddr none 0 (.t 23)),
oP 25 (.load none (.t 24)),
mV 26 5,
oP 27 (.bin .add (.t 26) (cI 1)),
oP 28 (.subq 7 (.t 25) (some (.t 27)) none),
oP 29 (.call (.f 96) [false,true,false,true] [(.t 17),(.t 19),(.t 20),(.t 28)]),
mV 6 29] [0,3,5,6] [[],[],[1],[],[],[4],[4,5],[4,5,6],[4,5,6,7],[],[9],[4,5,6,7,8,9,10],[0,1,2,3,4,5,6,7,8,9,10,11],[0,1,2,3,4,5,6,7,8,9,10,11,12]] [([0,1,2,3,4,5,6,7,8,9,10,11],12)] [13])
(.seq (.reg [mV 30 6,
oP 31 (.bin .neq (.t 30) (cI 0))] [0,3,5,6,31])
(.cond (.t 31)
(.seq (.reg [mV 32 6,
mV 4 32] [4])
.ret)
.skip)))
(.seq (.reg [mV 33 0,
oP 34 (.nilchk (.t 33)),
oP 35 (.fieldAddr (some 1) 0 (.t 34)),
oP 36 (.fieldAddr none 0 (.t 35)),
oP 37 (.load none (.t 36)),
oP 38 (.call (.f 156) [true] [(.t 37)]),
mV 7 38] [0,3,5,7])
(.seq (.reg [mV 39 7,
mV 40 5,
oP 41 (.fieldAddr (some 7) 3 (.t 3)),
oP 42 (.load (some 7) (.t 41)),
oP 43 (.ixS 7 (.t 39) (.t 40)),
oN (.store 7 (.t 43) (.t 42))] [0,3,5,7])
(.seq (.seq (.reg [mV 44 7,
mV 45 5,
oP 46 (.bin .add (.t 45) (cI 1)),
oP 47 (.sub 0 7 (.t 44) (some (.t 46)) none none),
oP 48 (.len (.t 47)),
oP 49 (.mv (cI 0))] [0,3,5,7,48,49])
(.block 0
(.loop [0,3,5,7,48,49]
(.seq (.reg [oP 50 (.bin .lss (.t 49) (.t 48))] [0,3,5,7,48,49,50])
(.seq (.cond (.t 50)
.skip
(.exit 0))
(.seq (.block 1
(.seq (.reg [mV 51 49,
mV 8 51] [0,3,5,7,8,48,49])
(.seq (.reg [mV 52 7,
mV 53 5,
oP 54 (.bin .add (.t 53) (cI 1)),
mV 55 8,
oP 56 (.bin .add (.t 54) (.t 55)),
oP 57 (.ixS 7 (.t 52) (.t 56)),
mV 9 57] [0,3,5,7,9,48,49])
(.seq (.dreg [mV 58 9,
oP 59 (.nilchk (.t 58)),
oP 60 (.fieldAddr none 4 (.t 59)),
oP 61 (.load none (.t 60)),
oP 62 (.fieldAddr none 2 (.t 3)),
oP 63 (.load none (.t 62)),
oP 64 (.call (.f 126) [true,false] [(.t 61),(.t 63)]),
mV 10 64] [0,3,5,7,9,10,48,49] [[],[0],[0,1],[0,1,2],[],[4],[0,1,2,3,4,5],[0,1,2,3,4,5,6]])
(.seq (.seq (.reg [mV 65 10,
oP 66 (.bin .lss (.t 65) (cI 0))] [0,3,5,7,9,10,48,49,66])
(.cond (.t 66)
(.exit 1)
.skip))
(.seq (.seq (.dreg [mV 67 9,
oP 68 (.nilchk (.t 67)),
oP 69 (.load (some 7) (.t 68)),
oP 70 (.fieldAddr (some 7) 3 (.t 3)),
oP 71 (.load (some 7) (.t 70)),
oP 72 (.call (.f 136) [true,true] [(.t 69),(.t 71)]),
oP 73 (.un .not (.t 72))] [0,3,5,7,9,10,48,49,73] [[],[0],[0,1],[],[3],[0,1,2,3,4],[0,1,2,3,4,5]])
(.cond (.t 73)
(.seq (.reg [oP 4 (.mv (cI 9))] [4])
.ret)
.skip))
(.seq (.reg [mV 74 9,
mV 75 9,
oP 76 (.nilchk (.t 75)),
oP 77 (.fieldAddr none 4 (.t 76)),
oP 78 (.load none (.t 77)),
oP 79 (.call (.f 103) [true] [(.t 78)]),
oP 80 (.nilchk (.t 74)),
oP 81 (.fieldAddr none 4 (.t 80)),
oN (.store 1 (.t 81) (.t 79))] [0,3,5,7,9,10,48,49])
(.dreg [mV 82 9,
oP 83 (.nilchk (.t 82)),
oP 84 (.fieldAddr none 4 (.t 83)),
oP 85 (.load none (.t 84)),
mV 86 10,
oP 87 (.fieldAddr (some 7) 3 (.t 3)),
oP 88 (.fieldAddr none 0 (.t 87)),
oP 89 (.load none (.t 88)),
oP 90 (.ixS 1 (.t 85) (.t 86)),
oN (.store 1 (.t 90) (.t 89))] [0,3,5,7,9,48,49] [[],[0],[0,1],[0,1,2],[],[],[5],[5,6],[0,1,2,3,4,5,6,7],[0,1,2,3,4,5,6,7,8]]))))))))
(.uj 9 4 1 (.reg [oP 91 (.bin .add (.t 49) (cI 1)),
mV 49 91] [0,3,5,7,48,49]))))))))
(.seq (.reg [mV 92 0,
mV 93 7,
oP 94 (.nilchk (.t 92)),
oP 95 (.fieldAddr (some 1) 0 (.t 94)),
oP 96 (.fieldAddr none 0 (.t 95)),
oN (.store 1 (.t 96) (.t 93))] [0])
(.uj 0 0 7 (.seq (.reg [oP 4 (.mv (cI 0))] [4])
.ret))))))))))
abbrev Kl:RsT:=[(4,none)]
theorem CB:SpF 97 xd A0 Kl:=SpI Tryz.func142 (by kernel_rfl)
theorem IW:ak Tryz.prog xd = true:=by kernel_rfl
abbrev CY:FuncId:=143
def Gv:AC:=
(.seq (.reg [oP 6 (.mv (cI 0))] [0,1,2])
(.seq (.reg [oP 7 (.mv (.c (.bool false)))] [0,1,2,7])
(.seq (.seq (.reg [oP 8 (.mv (cI 0))] [0,1,2,7,8])
(.block 0
(.loop [0,1,2,7,8]
(.seq (.seq (.reg [mV 9 8,
mV 10 0,
oP 11 (.len (.t 10)),
oP 12 (.bin .lss (.t 9) (.t 11))] [0,1,2,7,8,12])
(.cond (.t 12)
.skip
(.exit 0)))
(.seq (.block 1
(.seq (.seq (.reg [mV 15 0,
mV 16 8,
oP 17 (.ixS 2 (.t 15) (.t 16)),
oP 18 (.fieldAddr none 0 (.t 17)),
oP 19 (.load none (.t 18)),
mV 20 1,
mV 21 2,
oP 22 (.call (.f 54) [false,false,false] [(.t 19),(.t 20),(.t 21)]),
oP 23 (.un .not (.t 22)),
mV 24 23,
gF 25 24 (.mv (.t 0)),
gF 26 24 (.mv (.t 8)),
gF 27 24 (.ixS 2 (.t 25) (.t 26)),
gF 28 24 (.fieldAddr none 1 (.t 27)),
gF 29 24 (.load none (.t 28)),
gF 30 24 (.mv (.t 1)),
gF 31 24 (.mv (.t 2)),
gF 32 24 (.call (.f 54) [false,false,false] [(.t 29),(.t 30),(.t 31)]),
gF 33 24 (.un .not (.t 32)),
oP 34 (.pick (.t 24) (.c (.bool true)) (.t 33))] [0,1,2,7,8,34])
(.cond (.t 34)
(.seq (.reg [oP 6 (.mv (cI 7))] [6])
.ret)
.skip))
(.dreg [mV 35 7,
mV 36 35,
gF 37 36 (.mv (.t 0)),
gF 38 36 (.mv (.t 8)),
gF 39 36 (.ixS 2 (.t 37) (.t 38)),
gF 40 36 (.fieldAddr none 0 (.t 39)),
gF 41 36 (.load none (.t 40)),
gF 42 36 (.mv (.t 0)),
gF 43 36 (.mv (.t 8)),
gF 44 36 (.ixS 2 (.t 42) (.t 43)),
gF 45 36 (.fieldAddr none 1 (.t 44)),
gF 46 36 (.load none (.t 45)),
gF 47 36 (.bin .gtr (.t 41) (.t 46)),
oP 48 (.pick (.t 36) (.c (.bool true)) (.t 47)),
mV 7 48] [0,1,2,7,8] [[],[0],[0,1],[0,1],[0,1,2,3],[0,1,2,3,4],[0,1,2,3,4,5],[0,1],[0,1],[0,1,7,8],[0,1,7,8,9],[0,1,7,8,9,10],[0,1,2,3,4,5,6,7,8,9,10,11],[0,1,2,3,4,5,6,7,8,9,10,11,12],[0,1,2,3,4,5,6,7,8,9,10,11,12,13]])))
(.reg [mV 13 8,
oP 14 (.bin .add (.t 13) (cI 1)),
mV 8 14] [0,1,2,7,8]))))))
(.seq (.seq (.reg [mV 49 7] [49])
(.cond (.t 49)
(.seq (.reg [oP 6 (.mv (cI 2))] [6])
.ret)
.skip))
(.seq (.reg [oP 6 (.mv (cI 0))] [6])
.ret)))))
abbrev Ku:RsT:=[(6,none)]
theorem Kq:SpF 50 CY Gv Ku:=SpI Tryz.func143 (by kernel_rfl)
theorem JH:ak Tryz.prog CY = true:=by kernel_rfl
abbrev DJ:FuncId:=144
def FW:AC:=
(.seq (.reg [oP 4 (.mv (cI 0))] [0,1])
(.seq (.seq (.reg [mV 6 0,
oP 7 (.len (.t 6)),
oP 8 (.mv (cI 0))] [0,1,7,8])
(.block 0
(.loop [0,1,7,8]
(.seq (.reg [oP 9 (.bin .lss (.t 8) (.t 7))] [0,1,7,8,9])
(.seq (.cond (.t 9)
.skip
(.exit 0))
(.seq (.block 1
(.seq (.reg [mV 10 8,
mV 5 10] [0,1,5,7,8])
(.seq (.reg [mV 11 1,
mV 12 0,
mV 13 5,
oP 14 (.ixS 1 (.t 12) (.t 13)),
oP 15 (.load none (.t 14)),
oP 16 (.call (.t 11) [false] [(.t 15)])] [0,1,5,7,8,16])
(.cond (.t 16)
(.seq (.reg [mV 17 5,
mV 4 17] [4])
.ret)
.skip))))
(.reg [oP 18 (.bin .add (.t 8) (cI 1)),
mV 8 18] [0,1,7,8])))))))
(.seq (.reg [oP 4 (.mv (cI (-1)))] [4])
.ret)))
abbrev Jl:RsT:=[(4,none)]
theorem Ii:SpF 19 DJ FW Jl:=SpI Tryz.func144 (by kernel_rfl)
theorem Jo:ak Tryz.prog DJ = true:=by kernel_rfl
abbrev CV:FuncId:=145
def Gk:AC:=
(.seq (.reg [oP 4 (.mv (cI 0))] [0,1])
(.seq (.seq (.reg [mV 6 0,
oP 7 (.len (.t 6)),
oP 8 (.mv (cI 0))] [0,1,7,8])
(.block 0
(.loop [0,1,7,8]
(.seq (.reg [oP 9 (.bin .lss (.t 8) (.t 7))] [0,1,7,8,9])
(.seq (.cond (.t 9)
.skip
(.exit 0))
(.seq (.block 1
(.seq (.reg [mV 10 8,
mV 5 10] [0,1,5,7,8])
(.seq (.reg [mV 11 1,
mV 12 0,
mV 13 5,
oP 14 (.ixS 3 (.t 12) (.t 13)),
oP 15 (.load (some 3) (.t 14)),
oP 16 (.call (.t 11) [false] [(.t 15)])] [0,1,5,7,8,16])
(.cond (.t 16)
(.seq (.reg [mV 17 5,
mV 4 17] [4])
.ret)
.skip))))
(.reg [oP 18 (.bin .add (.t 8) (cI 1)),
mV 8 18] [0,1,7,8])))))))
(.seq (.reg [oP 4 (.mv (cI (-1)))] [4])
.ret)))
abbrev KU:RsT:=[(4,none)]
theorem Kr:SpF 19 CV Gk KU:=SpI Tryz.func145 (by kernel_rfl)
theorem JY:ak Tryz.prog CV = true:=by kernel_rfl
abbrev Gi:FuncId:=155
theorem CC:ak Tryz.prog Gi = true:=by kernel_rfl
abbrev xr:FuncId:=156
def Gj:AC:=
(.seq (.reg [oP 2 (.mv (.c (.slice 7 [])))] [0])
(.seq (.seq (.reg [mV 3 0,
oP 4 (.snil false (.t 3))] [0,4])
(.cond (.t 4)
(.seq (.reg [oP 2 (.nilS 3 7)] [2])
.ret)
.skip))
(.seq (.reg [oP 5 (.lit 1 7 0 []),
mV 6 0,
oP 7 (.append 7 80 (.t 5) (.t 6)),
mV 2 7] [2])
.ret)))
abbrev CF:RsT:=[(2,none)]
theorem Jy:SpF 8 xr Gj CF:=SpI Tryz.func156 (by kernel_rfl)
theorem DA:ak Tryz.prog xr = true:=by kernel_rfl
def bD:AC:=
(.seq (.reg [oP 2 (.mv (.c (.slice 7 [])))] [0])
(.seq (.seq (.reg [mV 3 0,
oP 4 (.snil false (.t 3))] [0,4])
(.cond (.t 4)
(.seq (.reg [oP 2 (.nilS 2 7)] [2])
.ret)
.skip))
(.seq (.reg [oP 5 (.lit 2 7 0 []),
mV 6 0,
oP 7 (.append 7 80 (.t 5) (.t 6)),
mV 2 7] [2])
.ret)))
theorem er:wD Tryz.prog Tryz.f156 8 bD CF = true:=by kernel_rfl
theorem dS:SpF 8 xr bD CF:=fun ha h=>Spec.vn Tryz.func156 er ha h
abbrev AJ:FuncId:=157
def FL:AC:=
(.seq (.reg [oP 2 (.pbox 7 (.t 0)),
oP 3 (.mv (.c (.bool false)))] [1,2])
(.seq (.reg [oP 4 (.load (some 7) (.t 2)),
oP 5 (.fieldAddr none 2 (.t 1)),
oP 6 (.load none (.t 5)),
oP 7 (.call (.f 63) [true,false] [(.t 4),(.t 6)]),
mV 3 7] [3])
.ret))
abbrev IE:RsT:=[(3,none)]
theorem Lg:SpF 8 AJ FL IE:=SpI Tryz.func157 (by kernel_rfl)
theorem JS:ak Tryz.prog AJ = true:=by kernel_rfl
abbrev D8:FuncId:=158
def FM:AC:=
(.seq (.reg [oP 6 (.mv (.c (.slice 7 [])))] [0,1,2])
(.seq (.reg [mV 8 0,
mV 9 1,
mV 10 2,
mV 11 0,
oP 12 (.len (.t 11)),
oP 13 (.sub 3 7 (.t 8) (some (.t 9)) (some (.t 10)) (some (.t 12)))] [0,1,2])
(.seq (.seq (.reg [mV 14 1,
mV 15 2,
oP 16 (.bin .eql (.t 14) (.t 15))] [0,1,2,16])
(.cond (.t 16)
(.seq (.reg [mV 17 0,
oP 6 (.mvd (.t 17))] [6])
.ret)
.skip))
(.seq (.reg [mV 18 0,
oP 19 (.len (.t 18)),
mV 7 19] [0,1,2,7])
(.seq (.creg [mV 20 0,
mV 21 1,
oP 22 (.sub 0 7 (.t 20) none (some (.t 21)) none),
mV 23 0,
mV 24 2,
oP 25 (.sub 0 7 (.t 23) (some (.t 24)) none none),
oP 26 (.append 7 80 (.t 22) (.t 25)),
mV 0 26] [0,7] [[],[],[0,1],[],[],[3,4],[0,1,2,3,4,5],[0,1,2,3,4,5,6]] [([0,1,2,3,4,5],6)] [7])
(.seq (.reg [mV 27 0,
mV 28 0,
oP 29 (.len (.t 28)),
mV 30 7,
oP 31 (.sub 0 7 (.t 27) (some (.t 29)) (some (.t 30)) none),
oN (.clear 7 (.agg [.str ByteArray.empty, .int .i64 0, .int .i64 0, .int .i64 0, .slice 1 [], .int .i64 0, .int .i64 0]) (.t 31))] [0])
(.seq (.reg [mV 32 0,
oP 6 (.mvd (.t 32))] [6])
.ret)))))))
abbrev J5:RsT:=[(6,none)]
theorem Ir:SpF 33 D8 FM J5:=SpI Tryz.func158 (by kernel_rfl)
theorem KR:ak Tryz.prog D8 = true:=by kernel_rfl
end Go.AM
