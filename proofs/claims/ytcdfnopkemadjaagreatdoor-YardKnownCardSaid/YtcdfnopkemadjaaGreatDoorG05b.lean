/- MADE BY PROGRAM (gen.py): the abstract code of functions of this seat, each checked against the given code by the kernel. -/
import Derived.Test.YtcdfnopkemadjaaGreatDoorChecked
import Derived.Test.YtcdfnopkemadjaaGreatDoorG05a
import Derived.Test.YtcdfnopkemadjaaGreatDoorP18
import Derived.Test.YtcdfnopkemadjaaGreatDoorP19
namespace Go.AM
open Go.Proofs
abbrev ajL:FuncId:=92
def JP:AC:=
(.seq (.reg [oP 3 (.pbox 1 (.t 0)),
oP 4 (.pbox 1 (.t 1)),
oP 6 (.mv (.c (.bool false)))] [2,3,4])
(.seq (.reg [mV 7 2,
oP 8 (.mkfunc (.func 161) [] [(.t 3),(.t 4)]),
oP 9 (.call (.f 145) [true,false] [(.t 7),(.t 8)]),
mV 6 9] [6])
.ret))
abbrev JG:RsT:=[(6,none)]
theorem aiR:an Tryz.prog Tryz.f92 10 JP JG = true:=by kernel_rfl
theorem ajU:af Tryz.prog ajL = true:=by kernel_rfl
theorem ah1:ag Tryz.prog ⟨92,10,JP,JG,0⟩:=⟨fun _=>⟨ajU,_,Tryz.func92,aiR⟩,fun h=>by cases h⟩
abbrev akg:FuncId:=93
def MG:AC:=
(.seq (.reg [oP 1 (.mv (cI 0)),
oP 2 (.mv (cI 0))] [0])
(.seq (.reg [oP 3 (.fieldAddr (some 5) 0 (.t 0)),
oP 4 (.fieldAddr none 0 (.t 3)),
oP 5 (.load none (.t 4)),
oP 6 (.call (.f 94) [true] [(.t 5)]),
oP 7 (.extract (.t 6) 0),
oP 8 (.extract (.t 6) 1),
mV 1 7,
mV 2 8] [1,2])
.ret))
abbrev Ma:RsT:=[(1,none),(2,none)]
theorem ajP:an Tryz.prog Tryz.f93 9 MG Ma = true:=by kernel_rfl
theorem ai7:af Tryz.prog akg = true:=by kernel_rfl
theorem aif:ag Tryz.prog ⟨93,9,MG,Ma,0⟩:=⟨fun _=>⟨ai7,_,Tryz.func93,ajP⟩,fun h=>by cases h⟩
abbrev afj:FuncId:=94
def Lu:AC:=
(.seq (.reg [oP 1 (.pbox 1 (.t 0)),
oP 2 (.mv (cI 0)),
oP 3 (.mv (cI 0))] [1])
(.seq (.reg [oP 4 (.load none (.t 1)),
oP 5 (.mkfunc (.func 163) [] [(.t 1)]),
oP 6 (.call (.f 162) [true,false] [(.t 4),(.t 5)]),
oP 7 (.extract (.t 6) 0),
oP 8 (.extract (.t 6) 1),
mV 2 7,
mV 3 8] [2,3])
.ret))
abbrev Kx:RsT:=[(2,none),(3,none)]
theorem afu:an Tryz.prog Tryz.f94 9 Lu Kx = true:=by kernel_rfl
theorem aik:af Tryz.prog afj = true:=by kernel_rfl
theorem afl:ag Tryz.prog ⟨94,9,Lu,Kx,0⟩:=⟨fun _=>⟨aik,_,Tryz.func94,afu⟩,fun h=>by cases h⟩
abbrev ai4:FuncId:=95
def KE:AC:=
(.seq (.reg [oP 1 (.mv (cI 0)),
oP 2 (.mv (cI 0))] [0])
(.seq (.reg [oP 3 (.fieldAddr (some 5) 0 (.t 0)),
oP 4 (.fieldAddr none 1 (.t 3)),
oP 5 (.load none (.t 4)),
oP 6 (.call (.f 94) [true] [(.t 5)]),
oP 7 (.extract (.t 6) 0),
oP 8 (.extract (.t 6) 1),
mV 1 7,
mV 2 8] [1,2])
.ret))
abbrev JQ:RsT:=[(1,none),(2,none)]
theorem aka:an Tryz.prog Tryz.f95 9 KE JQ = true:=by kernel_rfl
theorem age:af Tryz.prog ai4 = true:=by kernel_rfl
theorem agT:ag Tryz.prog ⟨95,9,KE,JQ,0⟩:=⟨fun _=>⟨age,_,Tryz.func95,aka⟩,fun h=>by cases h⟩
abbrev afm:FuncId:=96
def Lk:AC:=
(.seq (.reg [oP 1 (.mv (cI 0)),
oP 2 (.mv (cI 0))] [0])
(.seq (.reg [oP 3 (.load (some 5) (.t 0)),
oP 4 (.fieldAddr (some 5) 0 (.t 0)),
oP 5 (.fieldAddr none 2 (.t 4)),
oP 6 (.load none (.t 5)),
oP 7 (.call (.f 97) [true,true] [(.t 3),(.t 6)]),
oP 8 (.extract (.t 7) 0),
oP 9 (.extract (.t 7) 1),
mV 1 8,
mV 2 9] [1,2])
.ret))
abbrev KQ:RsT:=[(1,none),(2,none)]
theorem agJ:an Tryz.prog Tryz.f96 10 Lk KQ = true:=by kernel_rfl
theorem agq:af Tryz.prog afm = true:=by kernel_rfl
theorem aj7:ag Tryz.prog ⟨96,10,Lk,KQ,0⟩:=⟨fun _=>⟨agq,_,Tryz.func96,agJ⟩,fun h=>by cases h⟩
abbrev ah0:FuncId:=97
def MI:AC:=
(.seq (.reg [oP 2 (.pbox 5 (.t 0)),
oP 4 (.mv (cI 0)),
oP 5 (.mv (cI 0))] [1,2])
(.seq (.reg [oP 7 (.mnew),
oP 6 (.alloc [.nilmap]),
oN (.store 1 (.t 6) (.t 7))] [1,2,6])
(.frz 6 false (.seq (.reg [mV 8 1,
oP 9 (.mkfunc (.func 166) [] [(.t 6),(.t 2)]),
oP 10 (.call (.f 165) [true,false] [(.t 8),(.t 9)]),
oP 11 (.extract (.t 10) 0),
oP 12 (.extract (.t 10) 1),
mV 4 11,
mV 5 12] [4,5])
.ret))))
abbrev L2:RsT:=[(4,none),(5,none)]
theorem ahq:an Tryz.prog Tryz.f97 13 MI L2 = true:=by kernel_rfl
theorem af5:af Tryz.prog ah0 = true:=by kernel_rfl
theorem ahL:ag Tryz.prog ⟨97,13,MI,L2,0⟩:=⟨fun _=>⟨af5,_,Tryz.func97,ahq⟩,fun h=>by cases h⟩
abbrev afw:FuncId:=98
def Lg:AC:=
(.seq (.reg [oP 1 (.mv (cI 0)),
oP 2 (.mv (cI 0))] [0])
(.seq (.reg [oP 3 (.fieldAddr (some 5) 0 (.t 0)),
oP 4 (.fieldAddr none 3 (.t 3)),
oP 5 (.load none (.t 4)),
oP 6 (.load (some 5) (.t 0)),
oP 7 (.mkfunc (.func 100) [(.t 6)] []),
oP 8 (.call (.f 99) [true,false] [(.t 5),(.t 7)]),
oP 9 (.extract (.t 8) 0),
oP 10 (.extract (.t 8) 1),
mV 1 9,
mV 2 10] [1,2])
.ret))
abbrev K8:RsT:=[(1,none),(2,none)]
theorem afC:an Tryz.prog Tryz.f98 11 Lg K8 = true:=by kernel_rfl
theorem agy:af Tryz.prog afw = true:=by kernel_rfl
theorem ajh:ag Tryz.prog ⟨98,11,Lg,K8,0⟩:=⟨fun _=>⟨agy,_,Tryz.func98,afC⟩,fun h=>by cases h⟩
abbrev aiD:FuncId:=99
def MX:AC:=
(.seq (.reg [oP 4 (.mv (cI 0)),
oP 5 (.mv (cI 0))] [0,1])
(.seq (.seq (.reg [mV 8 0,
oP 9 (.len (.t 8)),
oP 10 (.mv (cI 0))] [1,8,9,10])
(.block 0
(.loop [1,8,9,10]
(.seq (.reg [oP 11 (.bin .lss (.t 10) (.t 9))] [1,8,9,10,11])
(.seq (.cond (.t 11)
.skip
(.exit 0))
(.seq (.block 1
(.seq (.reg [mV 12 10,
oP 13 (.ixS 5 (.t 8) (.t 10)),
oP 14 (.load (some 5) (.t 13)),
oP 7 (.alloc [.int .i64 0, .int .i64 0, .int .i64 0, .int .i64 0, .int .i64 0]),
mV 6 12,
oN (.store 5 (.t 7) (.t 14))] [1,6,7,8,9,10])
(.frz 7 true (.seq (.reg [mV 15 1,
mV 16 6,
oP 17 (.load (some 5) (.t 7)),
oP 18 (.call (.t 15) [false,false] [(.t 16),(.t 17)]),
mV 5 18] [1,5,6,8,9,10])
(.seq (.reg [mV 19 5,
oP 20 (.bin .neq (.t 19) (cI 0))] [1,5,6,8,9,10,20])
(.cond (.t 20)
(.seq (.reg [mV 21 6,
mV 22 5,
mV 4 21,
mV 5 22] [4,5])
.ret)
.skip))))))
(.reg [oP 23 (.bin .add (.t 10) (cI 1)),
mV 10 23] [1,8,9,10])))))))
(.seq (.reg [oP 4 (.mv (cI 0)),
oP 5 (.mv (cI 0))] [4,5])
.ret)))
abbrev MK:RsT:=[(4,none),(5,none)]
theorem afe:an Tryz.prog Tryz.f99 24 MX MK = true:=by kernel_rfl
theorem aho:af Tryz.prog aiD = true:=by kernel_rfl
theorem ahy:ag Tryz.prog ⟨99,24,MX,MK,0⟩:=⟨fun _=>⟨aho,_,Tryz.func99,afe⟩,fun h=>by cases h⟩
abbrev Oz:FuncId:=100
def FP:AC:=
(.seq (.reg [oP 3 (.pbox 5 (.t 0)),
oP 5 (.box 5 (.t 2)),
oP 6 (.mv (cI 0))] [1,3,5])
(.seq (.block 0
(.seq (.reg [oP 9 (.fieldAddr (some 5) 0 (.t 3)),
oP 10 (.fieldAddr none 0 (.t 9)),
oP 11 (.load none (.t 10)),
oP 12 (.len (.t 11)),
oP 13 (.bin .sub (.t 12) (cI 1)),
oP 14 (.fieldAddr none 0 (.t 5)),
oP 15 (.load none (.t 14)),
oP 16 (.lit 0 1 1 [(0,(.t 15))]),
oP 17 (.call (.f 92) [false,false,true] [(cI 0),(.t 13),(.t 16)]),
mV 18 17,
gF 19 18 (.fieldAddr (some 5) 0 (.t 3)),
gF 20 18 (.fieldAddr none 1 (.t 19)),
gF 21 18 (.load none (.t 20)),
gF 22 18 (.len (.t 21)),
gF 23 18 (.bin .sub (.t 22) (cI 1)),
gF 24 18 (.fieldAddr none 1 (.t 5)),
gF 25 18 (.load none (.t 24)),
gF 26 18 (.fieldAddr none 2 (.t 5)),
gF 27 18 (.load none (.t 26)),
gF 28 18 (.lit 0 1 2 [(0,(.t 25)),(1,(.t 27))]),
gF 29 18 (.call (.f 92) [false,false,true] [(cI (-1)),(.t 23),(.t 28)]),
oP 30 (.pick (.t 18) (.c (.bool true)) (.t 29)),
mV 8 30] [1,3,5,8])
(.cond (.t 8)
(.seq (.reg [oP 6 (.mv (cI 4))] [6])
.ret)
(.seq (.reg [oP 32 (.fieldAddr none 1 (.t 5)),
oP 33 (.load none (.t 32)),
oP 34 (.fieldAddr none 2 (.t 5)),
oP 35 (.load none (.t 34)),
oP 36 (.bin .eql (.t 33) (.t 35)),
mV 31 36] [1,3,5,31])
(.cond (.t 31)
(.seq (.reg [oP 6 (.mv (cI 2))] [6])
.ret)
(.seq (.reg [oP 38 (.fieldAddr none 3 (.t 5)),
oP 39 (.load none (.t 38)),
oP 40 (.lit 0 1 1 [(0,(.t 39))]),
oP 41 (.call (.f 92) [false,false,true] [(cI 0),(cI 1000000),(.t 40)]),
mV 37 41] [1,3,5,37])
(.cond (.t 37)
(.seq (.reg [oP 6 (.mv (cI 7))] [6])
.ret)
(.seq (.reg [oP 43 (.fieldAddr none 4 (.t 5)),
oP 44 (.load none (.t 43)),
oP 45 (.bin .eql (.t 44) (cI (-1))),
mV 42 45] [1,3,5,42])
(.cond (.t 42)
(.seq (.reg [oP 6 (.mv (cI 0))] [6])
.ret)
(.seq (.reg [oP 47 (.fieldAddr (some 5) 0 (.t 3)),
oP 48 (.fieldAddr none 3 (.t 47)),
oP 49 (.load none (.t 48)),
oP 50 (.len (.t 49)),
oP 51 (.bin .sub (.t 50) (cI 1)),
oP 52 (.fieldAddr none 4 (.t 5)),
oP 53 (.load none (.t 52)),
oP 54 (.lit 0 1 1 [(0,(.t 53))]),
oP 55 (.call (.f 92) [false,false,true] [(cI 0),(.t 51),(.t 54)]),
mV 56 55,
gF 57 56 (.fieldAddr none 4 (.t 5)),
gF 58 56 (.load none (.t 57)),
gF 59 56 (.mv (.t 1)),
gF 60 56 (.bin .eql (.t 58) (.t 59)),
oP 61 (.pick (.t 56) (.c (.bool true)) (.t 60)),
mV 46 61] [1,3,5,46])
(.cond (.t 46)
(.seq (.reg [oP 6 (.mv (cI 9))] [6])
.ret)
.skip)))))))))))
(.seq (.reg [oP 62 (.fieldAddr (some 5) 0 (.t 3)),
oP 63 (.fieldAddr none 3 (.t 62)),
oP 64 (.load none (.t 63)),
oP 65 (.fieldAddr none 4 (.t 5)),
oP 66 (.load none (.t 65)),
oP 67 (.ixS 5 (.t 64) (.t 66)),
oP 68 (.load (some 5) (.t 67)),
oP 7 (.alloc [.int .i64 0, .int .i64 0, .int .i64 0, .int .i64 0, .int .i64 0]),
oN (.store 5 (.t 7) (.t 68))] [1,5,7])
(.seq (.reg [oP 69 (.fieldAddr none 3 (.t 5)),
oP 70 (.load none (.t 69)),
oP 71 (.fieldAddr none 3 (.t 7)),
oN (.store 1 (.t 71) (.t 70))] [1,5,7])
(.seq (.reg [mV 72 1,
oP 73 (.fieldAddr none 4 (.t 5)),
oN (.store 1 (.t 73) (.t 72))] [5,7])
(.seq (.seq (.reg [oP 74 (.load (some 5) (.t 7)),
oP 75 (.load (some 5) (.t 5)),
oP 76 (.eqa true [.i, .i, .i, .i, .i] (.t 74) (.t 75))] [76])
(.cond (.t 76)
(.seq (.reg [oP 6 (.mv (cI 9))] [6])
.ret)
.skip))
(.seq (.reg [oP 6 (.mv (cI 0))] [6])
.ret)))))))
abbrev Bp:RsT:=[(6,none)]
theorem Ql:an Tryz.prog Tryz.f100 77 FP Bp = true:=by kernel_rfl
theorem Uj:af Tryz.prog Oz = true:=by kernel_rfl
theorem adG:ag Tryz.prog ⟨100,77,FP,Bp,0⟩:=⟨fun _=>⟨Uj,_,Tryz.func100,Ql⟩,fun h=>by cases h⟩
abbrev aaB:FuncId:=101
def xF:AC:=
(.seq (.reg [oP 1 (.mv (cI 0)),
oP 2 (.mv (cI 0))] [0])
(.seq (.reg [oP 3 (.load (some 5) (.t 0)),
oP 4 (.fieldAddr (some 5) 0 (.t 0)),
oP 5 (.fieldAddr none 4 (.t 4)),
oP 6 (.load none (.t 5)),
oP 7 (.call (.f 97) [true,true] [(.t 3),(.t 6)]),
oP 8 (.extract (.t 7) 0),
oP 9 (.extract (.t 7) 1),
mV 1 8,
mV 2 9] [1,2])
.ret))
abbrev CU:RsT:=[(1,none),(2,none)]
theorem Yy:an Tryz.prog Tryz.f101 10 xF CU = true:=by kernel_rfl
theorem V6:af Tryz.prog aaB = true:=by kernel_rfl
theorem Uk:ag Tryz.prog ⟨101,10,xF,CU,0⟩:=⟨fun _=>⟨V6,_,Tryz.func101,Yy⟩,fun h=>by cases h⟩
abbrev Vb:FuncId:=102
def Gj:AC:=
(.seq (.reg [oP 1 (.pbox 2 (.t 0)),
oP 2 (.mv (cI 0))] [1])
(.seq (.block 0
(.seq (.reg [oP 4 (.fieldAddr none 0 (.t 1)),
oP 5 (.load none (.t 4)),
oP 6 (.fieldAddr none 1 (.t 1)),
oP 7 (.load none (.t 6)),
oP 8 (.lit 0 1 2 [(0,(.t 5)),(1,(.t 7))]),
oP 9 (.call (.f 103) [false,false,true] [(cI 0),(cI 1000000000),(.t 8)]),
mV 3 9] [1,3])
(.cond (.t 3)
(.seq (.reg [oP 2 (.mv (cI 7))] [2])
.ret)
(.seq (.reg [oP 11 (.fieldAddr none 0 (.t 1)),
oP 12 (.load none (.t 11)),
oP 13 (.fieldAddr none 1 (.t 1)),
oP 14 (.load none (.t 13)),
oP 15 (.bin .gtr (.t 12) (.t 14)),
mV 10 15] [10])
(.cond (.t 10)
(.seq (.reg [oP 2 (.mv (cI 2))] [2])
.ret)
.skip)))))
(.seq (.reg [oP 2 (.mv (cI 0))] [2])
.ret)))
abbrev Gh:RsT:=[(2,none)]
theorem Vo:an Tryz.prog Tryz.f102 16 Gj Gh = true:=by kernel_rfl
theorem ZG:af Tryz.prog Vb = true:=by kernel_rfl
theorem Wy:ag Tryz.prog ⟨102,16,Gj,Gh,0⟩:=⟨fun _=>⟨ZG,_,Tryz.func102,Vo⟩,fun h=>by cases h⟩
abbrev OJ:FuncId:=103
def EM:AC:=
(.seq (.reg [oP 3 (.pbox 1 (.t 0)),
oP 4 (.pbox 1 (.t 1)),
oP 6 (.mv (.c (.bool false)))] [2,3,4])
(.seq (.reg [mV 7 2,
oP 8 (.mkfunc (.func 167) [] [(.t 3),(.t 4)]),
oP 9 (.call (.f 145) [true,false] [(.t 7),(.t 8)]),
mV 6 9] [6])
.ret))
abbrev Fh:RsT:=[(6,none)]
theorem Ws:an Tryz.prog Tryz.f103 10 EM Fh = true:=by kernel_rfl
theorem abc:af Tryz.prog OJ = true:=by kernel_rfl
theorem acx:ag Tryz.prog ⟨103,10,EM,Fh,0⟩:=⟨fun _=>⟨abc,_,Tryz.func103,Ws⟩,fun h=>by cases h⟩
abbrev U6:FuncId:=104
def zE:AC:=
(.seq (.reg [oP 2 (.mv (cI 0))] [0])
(.seq (.reg [mV 5 0,
oP 6 (.len (.t 5)),
oP 7 (.bin .sub (.t 6) (cI 1)),
mV 3 7] [0,3])
(.seq (.reg [mV 8 0,
mV 9 3,
oP 10 (.ixS 4 (.t 8) (.t 9)),
oP 11 (.load (some 4) (.t 10)),
oP 4 (.alloc [.str ByteArray.empty, .int .i64 0, .int .i64 0, .int .i64 0]),
oN (.store 4 (.t 4) (.t 11))] [0,3,4])
(.frz 4 true (.seq (.block 0
(.seq (.reg [oP 13 (.fieldAddr none 0 (.t 4)),
oP 14 (.load none (.t 13)),
oP 15 (.call (.f 147) [false] [(.t 14)]),
oP 16 (.un .not (.t 15)),
mV 12 16] [0,3,4,12])
(.cond (.t 12)
(.seq (.reg [oP 2 (.mv (cI 6))] [2])
.ret)
(.seq (.reg [mV 18 0,
mV 19 3,
oP 20 (.subq 4 (.t 18) none (some (.t 19))),
oP 21 (.mkfunc (.func 169) [] [(.t 4)]),
oP 22 (.call (.f 168) [true,false] [(.t 20),(.t 21)]),
mV 17 22] [4,17])
(.cond (.t 17)
(.seq (.reg [oP 2 (.mv (cI 5))] [2])
.ret)
(.seq (.reg [oP 24 (.fieldAddr none 1 (.t 4)),
oP 25 (.load none (.t 24)),
oP 26 (.lit 0 1 1 [(0,(.t 25))]),
oP 27 (.call (.f 103) [false,false,true] [(cI 1),(cI 5),(.t 26)]),
mV 23 27] [4,23])
(.cond (.t 23)
(.seq (.reg [oP 2 (.mv (cI 7))] [2])
.ret)
.skip)))))))
(.seq (.reg [oP 28 (.fieldAddr (some 2) 2 (.t 4)),
oP 29 (.load (some 2) (.t 28)),
oP 30 (.call (.f 102) [false] [(.t 29)]),
mV 2 30] [2])
.ret))))))
abbrev xh:RsT:=[(2,none)]
theorem Pn:an Tryz.prog Tryz.f104 31 zE xh = true:=by kernel_rfl
theorem SJ:af Tryz.prog U6 = true:=by kernel_rfl
theorem PE:ag Tryz.prog ⟨104,31,zE,xh,0⟩:=⟨fun _=>⟨SJ,_,Tryz.func104,Pn⟩,fun h=>by cases h⟩
abbrev Sq:FuncId:=105
def xn:AC:=
(.seq (.reg [oP 2 (.pbox 2 (.t 0)),
oP 4 (.alloc [.slice 7 []]),
oP 5 (.mv (cI 0))] [1,2,4])
(.seq (.reg [oP 7 (.load (some 2) (.t 2)),
mV 8 1,
oP 9 (.call (.f 80) [true,false] [(.t 7),(.t 8)]),
mV 6 9,
oP 10 (.extract (.t 6) 0),
oP 11 (.extract (.t 6) 1),
oP 12 (.extract (.t 6) 2),
oP 13 (.extract (.t 6) 3),
oN (.store 1 (.t 4) (.t 10)),
mV 5 13] [1,4,5])
(.seq (.seq (.reg [mV 14 5,
oP 15 (.bin .eql (.t 14) (cI 0)),
mV 16 15,
gT 17 16 (.mv (.t 1)),
gT 18 16 (.lit 0 1 1 [(0,(.t 17))]),
gT 19 16 (.call (.f 141) [false,false,true] [(cI 0),(cI 40000),(.t 18)]),
oP 20 (.pick (.t 16) (.t 19) (.c (.bool false)))] [4,5,20])
(.cond (.t 20)
(.reg [oP 5 (.mv (cI 7))] [4,5])
.skip))
(.seq (.reg [oP 21 (.loadd (some 1) (.t 4)),
mV 22 5,
oN (.store 1 (.t 4) (.t 21)),
mV 5 22] [4,5])
.ret))))
abbrev BD:RsT:=[(4,some (some 1)),(5,none)]
theorem Vh:an Tryz.prog Tryz.f105 23 xn BD = true:=by kernel_rfl
theorem aaq:af Tryz.prog Sq = true:=by kernel_rfl
theorem aew:ag Tryz.prog ⟨105,23,xn,BD,0⟩:=⟨fun _=>⟨aaq,_,Tryz.func105,Vh⟩,fun h=>by cases h⟩
abbrev W9:FuncId:=106
def A3:AC:=
(.seq (.reg [oP 1 (.box 7 (.t 0)),
oP 2 (.alloc [.str ByteArray.empty, .int .i64 0, .int .i64 0, .int .i64 0, .slice 1 [], .int .i64 0, .int .i64 0])] [1,2])
(.seq (.reg [oP 3 (.fieldAddr none 4 (.t 1)),
oP 4 (.load none (.t 3)),
oP 5 (.call (.f 170) [true] [(.t 4)]),
oP 6 (.fieldAddr none 4 (.t 1)),
oN (.store 1 (.t 6) (.t 5))] [1,2])
(.seq (.reg [oP 7 (.loadd (some 7) (.t 1)),
oN (.store 7 (.t 2) (.t 7))] [2])
.ret)))
abbrev Bw:RsT:=[(2,some (some 7))]
theorem Uh:an Tryz.prog Tryz.f106 8 A3 Bw = true:=by kernel_rfl
theorem abV:af Tryz.prog W9 = true:=by kernel_rfl
theorem Sz:ag Tryz.prog ⟨106,8,A3,Bw,0⟩:=⟨fun _=>⟨abV,_,Tryz.func106,Uh⟩,fun h=>by cases h⟩
abbrev BS:FuncId:=113
def BG:AC:=
(.seq (.reg [oP 4 (.pbox 6 (.t 0)),
oP 5 (.pbox 3 (.t 1)),
oP 8 (.alloc [.int .i64 0, .int .i64 0, .int .i64 0, .int .i64 0]),
oP 9 (.mv (cI 0)),
oP 10 (.mv (cI 0))] [2,3,4,5,8])
(.scope
(.seq (.reg [oP 18 (.load (some 6) (.t 4)),
oP 19 (.load (some 3) (.t 5)),
mV 20 2,
mV 21 3,
oP 22 (.call (.f 181) [true,false,false,false] [(.t 18),(.t 19),(.t 20),(.t 21)]),
mV 17 22,
oP 23 (.extract (.t 17) 0),
oP 24 (.extract (.t 17) 1),
oP 11 (.alloc [.int .i64 0, .int .i64 0, .int .i64 0, .int .i64 0, .int .i64 0, .slice 5 [], .int .i64 0, .int .i64 0, .int .i64 0]),
oN (.store 9 (.t 11) (.t 23)),
mV 10 24] [2,3,8,10,11])
(.frz 11 true (.seq (.seq (.reg [mV 25 10,
oP 26 (.bin .neq (.t 25) (cI 0))] [2,3,8,10,11,26])
(.cond (.t 26)
(.seq (.reg [oP 27 (.load (some 4) (.t 8)),
mV 28 10,
oN (.store 4 (.t 8) (.t 27)),
oP 9 (.mv (cI 0)),
mV 10 28] [8,9,10])
.ret)
.skip))
(.seq (.reg [oP 29 (.load (some 9) (.t 11)),
mV 30 2,
oP 31 (.call (.f 182) [true,false] [(.t 29),(.t 30)]),
oP 12 (.alloc [.int .i64 0, .int .i64 0, .int .i64 0, .int .i64 0, .int .i64 0, .int .i64 0, .int .i64 0, .int .i64 0]),
oN (.store 8 (.t 12) (.t 31))] [3,8,11,12])
(.seq (.seq (.reg [oP 32 (.load (some 9) (.t 11)),
oP 33 (.load (some 8) (.t 12)),
mV 34 3,
oP 35 (.call (.f 183) [true,false,false] [(.t 32),(.t 33),(.t 34)])] [3,8,11,12,35])
(.cond (.t 35)
(.seq (.reg [oP 36 (.load (some 4) (.t 8)),
oN (.store 4 (.t 8) (.t 36)),
oP 9 (.mv (cI 0)),
oP 10 (.mv (cI 9))] [8,9,10])
.ret)
.skip))
(.seq (.reg [oP 13 (.alloc [.int .i64 0, .int .i64 0, .int .i64 0, .int .i64 0])] [3,8,11,12,13])
(.seq (.label 0)
(.seq (.seq (.reg [oP 37 (.load (some 8) (.t 12)),
oP 38 (.mv (cI 0))] [3,8,11,12,13,37,38])
(.block 0
(.loop [3,8,11,12,13,37,38]
(.seq (.reg [oP 39 (.bin .lss (.t 38) (cI 4))] [3,8,11,12,13,37,38,39])
(.seq (.cond (.t 39)
.skip
(.exit 0))
(.seq (.block 1
(.seq (.reg [mV 40 38,
oP 41 (.ixV 4 2 (some 2) (.t 37) (.t 38)),
oP 15 (.alloc [.int .i64 0, .int .i64 0]),
mV 14 40,
oN (.store 2 (.t 15) (.t 41))] [3,8,11,12,13,14,15,37,38])
(.frz 15 true (.seq (.reg [oP 42 (.fieldAddr none 0 (.t 15)),
oP 43 (.load none (.t 42)),
mV 16 43] [3,8,11,12,13,14,15,16,37,38])
(.block 2
(.loop [3,8,11,12,13,14,15,16,37,38]
(.seq (.seq (.reg [mV 44 16,
oP 45 (.fieldAddr none 1 (.t 15)),
oP 46 (.load none (.t 45)),
oP 47 (.bin .leq (.t 44) (.t 46))] [3,8,11,12,13,14,15,16,37,38,47])
(.cond (.t 47)
.skip
(.exit 2)))
(.seq (.block 3
(.seq (.reg [mV 50 14,
mV 51 16,
oP 52 (.call (.f 82) [false] [(.t 51)]),
oP 53 (.ixA 4 2 (some 2) (.t 12) (.t 50)),
oN (.store 2 (.t 53) (.t 52))] [3,8,11,12,13,14,15,16,37,38])
(.seq (.reg [oP 54 (.load (some 9) (.t 11)),
oP 55 (.load (some 8) (.t 12)),
mV 56 3,
oP 57 (.call (.f 183) [true,false,false] [(.t 54),(.t 55),(.t 56)]),
oP 58 (.un .not (.t 57))] [3,8,11,12,13,14,15,16,37,38,58])
(.cond (.t 58)
(.seq (.reg [mV 59 14,
mV 60 16,
oP 61 (.ixA 4 1 none (.t 13) (.t 59)),
oN (.store 1 (.t 61) (.t 60))] [3,8,11,12,13,37,38])
(.exit 1))
.skip))))
(.reg [mV 48 16,
oP 49 (.bin .add (.t 48) (cI 1)),
mV 16 49] [3,8,11,12,13,14,15,16,37,38])))))))))
(.reg [oP 62 (.bin .add (.t 38) (cI 1)),
mV 38 62] [3,8,11,12,13,37,38])))))))
(.seq (.dreg [oP 63 (.ixA 4 1 none (.t 13) (cI 0)),
oP 64 (.load none (.t 63)),
oP 65 (.ixA 4 1 none (.t 13) (cI 1)),
oP 66 (.load none (.t 65)),
oP 67 (.ixA 4 1 none (.t 13) (cI 2)),
oP 68 (.load none (.t 67)),
oP 69 (.ixA 4 1 none (.t 13) (cI 3)),
oP 70 (.load none (.t 69)),
oP 71 (.build [.int .i64 0, .int .i64 0, .int .i64 0, .int .i64 0] [(0,1,(.t 64)),(1,1,(.t 66)),(2,1,(.t 68)),(3,1,(.t 70))]),
oP 72 (.load (some 9) (.t 11)),
mV 73 3,
oP 74 (.call (.f 184) [true,false,false] [(.t 72),(.t 73),(cI 0)]),
oP 75 (.load (some 4) (.t 13)),
oP 76 (.call (.t 74) [false] [(.t 75)]),
oN (.store 4 (.t 8) (.t 71)),
mV 9 76,
oP 10 (.mv (cI 0))] [8,9,10] [[],[0],[],[2],[],[4],[],[6],[0,1,2,3,4,5,6,7],[],[],[9,10],[],[9,10,11,12],[0,1,2,3,4,5,6,7,8,9,10,11,12,13],[0,1,2,3,4,5,6,7,8,9,10,11,12,13,14],[0,1,2,3,4,5,6,7,8,9,10,11,12,13,14,15]])
.ret)))))))))))
abbrev zT:RsT:=[(8,some (some 4)),(9,none),(10,none)]
theorem TU:an Tryz.prog Tryz.f113 77 BG zT = true:=by kernel_rfl
theorem abp:af Tryz.prog BS = true:=by kernel_rfl
theorem Wj:ag Tryz.prog ⟨113,77,BG,zT,0⟩:=⟨fun _=>⟨abp,_,Tryz.func113,TU⟩,fun h=>by cases h⟩
abbrev JB:FuncId:=114
def F8:AC:=
(.seq (.reg [oP 4 (.pbox 6 (.t 0)),
oP 5 (.pbox 3 (.t 1)),
oP 8 (.alloc [.int .i64 0, .int .i64 0]),
oP 9 (.mv (cI 0))] [2,3,4,5,8])
(.seq (.reg [oP 13 (.load (some 6) (.t 4)),
oP 14 (.load (some 3) (.t 5)),
mV 15 2,
mV 16 3,
oP 17 (.call (.f 181) [true,false,false,false] [(.t 13),(.t 14),(.t 15),(.t 16)]),
mV 12 17,
oP 18 (.extract (.t 12) 0),
oP 19 (.extract (.t 12) 1),
oP 10 (.alloc [.int .i64 0, .int .i64 0, .int .i64 0, .int .i64 0, .int .i64 0, .slice 5 [], .int .i64 0, .int .i64 0, .int .i64 0]),
oN (.store 9 (.t 10) (.t 18)),
mV 11 19] [2,3,8,10,11])
(.frz 10 true (.seq (.seq (.reg [mV 20 11,
oP 21 (.bin .neq (.t 20) (cI 0))] [2,3,8,10,11,21])
(.cond (.t 21)
(.seq (.reg [oP 22 (.build [.int .i64 0, .int .i64 0] []),
mV 23 11,
oN (.store 2 (.t 8) (.t 22)),
mV 9 23] [8,9])
.ret)
.skip))
(.seq (.dreg [oP 24 (.load (some 9) (.t 10)),
mV 25 2,
oP 26 (.call (.f 182) [true,false] [(.t 24),(.t 25)]),
oP 27 (.call (.f 186) [false] [(.t 26)]),
oP 28 (.load (some 9) (.t 10)),
mV 29 3,
oP 30 (.call (.f 184) [true,false,false] [(.t 28),(.t 29),(cI 0)]),
oP 31 (.call (.f 185) [false,false] [(.t 27),(.t 30)]),
oN (.store 2 (.t 8) (.t 31)),
oP 9 (.mv (cI 0))] [8,9] [[],[],[0,1],[0,1,2],[],[],[0,1,2,3,4,5],[0,1,2,3,4,5,6],[0,1,2,3,4,5,6,7],[0,1,2,3,4,5,6,7,8]])
.ret)))))
abbrev zb:RsT:=[(8,some (some 2)),(9,none)]
theorem NI:an Tryz.prog Tryz.f114 32 F8 zb = true:=by kernel_rfl
theorem aee:af Tryz.prog JB = true:=by kernel_rfl
theorem Tv:ag Tryz.prog ⟨114,32,F8,zb,0⟩:=⟨fun _=>⟨aee,_,Tryz.func114,NI⟩,fun h=>by cases h⟩
abbrev TY:FuncId:=115
def DD:AC:=
(.seq (.reg [oP 2 (.nilS 1 1)] [0,2])
(.seq (.seq (.reg [mV 5 0,
oP 6 (.len (.t 5)),
oP 7 (.mv (cI 0))] [2,5,6,7])
(.block 0
(.loop [2,5,6,7]
(.seq (.reg [oP 8 (.bin .lss (.t 7) (.t 6))] [2,5,6,7,8])
(.seq (.cond (.t 8)
.skip
(.exit 0))
(.seq (.block 1
(.seq (.reg [oP 9 (.ixS 2 (.t 5) (.t 7)),
oP 10 (.load (some 2) (.t 9)),
oP 4 (.alloc [.int .i64 0, .int .i64 0]),
oN (.store 2 (.t 4) (.t 10))] [2,4,5,6,7])
(.frz 4 true (.reg [mV 11 2,
oP 12 (.fieldAddr none 0 (.t 4)),
oP 13 (.load none (.t 12)),
oP 14 (.fieldAddr none 1 (.t 4)),
oP 15 (.load none (.t 14)),
oP 16 (.lit 0 1 2 [(0,(.t 13)),(1,(.t 15))]),
oP 17 (.append 1 8 (.t 11) (.t 16)),
mV 2 17] [2,5,6,7]))))
(.reg [oP 18 (.bin .add (.t 7) (cI 1)),
mV 7 18] [2,5,6,7])))))))
(.seq (.reg [mV 19 2,
mV 2 19] [2])
.ret)))
abbrev AF:RsT:=[(2,none)]
theorem aeD:an Tryz.prog Tryz.f115 20 DD AF = true:=by kernel_rfl
theorem abg:af Tryz.prog TY = true:=by kernel_rfl
theorem U4:ag Tryz.prog ⟨115,20,DD,AF,0⟩:=⟨fun _=>⟨abg,_,Tryz.func115,aeD⟩,fun h=>by cases h⟩
abbrev tV:FuncId:=116
theorem WD:af Tryz.prog tV = true:=by kernel_rfl
abbrev E9:FuncId:=117
theorem TB:af Tryz.prog E9 = true:=by kernel_rfl
abbrev Dn:FuncId:=118
theorem WR:af Tryz.prog Dn = true:=by kernel_rfl
abbrev XJ:FuncId:=119
def yn:AC:=
(.seq (.reg [oP 6 (.mv (.c (.slice 1 [])))] [0,1,2])
(.seq (.reg [mV 8 0,
oP 9 (.nilchk (.t 8)),
oP 10 (.fieldAddr (some 36) 0 (.t 9)),
oP 11 (.fieldAddr (some 2) 20 (.t 10)),
oP 12 (.fieldAddr none 0 (.t 11)),
oP 13 (.load none (.t 12)),
mV 14 1,
oP 15 (.call (.f 191) [true,false,false] [(.t 13),(.t 14),(.f 192)]),
mV 7 15] [0,2,7])
(.seq (.reg [mV 16 0,
mV 17 0,
oP 18 (.nilchk (.t 17)),
oP 19 (.fieldAddr (some 10) 36 (.t 18)),
oP 20 (.fieldAddr none 5 (.t 19)),
oP 21 (.load none (.t 20)),
oP 22 (.call (.f 193) [true] [(.t 21)]),
mV 23 7,
mV 24 2,
oP 25 (.build [.int .i64 0, .bool false] [(0,1,(.t 23)),(1,1,(.t 24))]),
oP 26 (.lit 0 2 1 [(0,(.t 25))]),
oP 27 (.append 2 16 (.t 22) (.t 26)),
oP 28 (.nilchk (.t 16)),
oP 29 (.fieldAddr (some 10) 36 (.t 28)),
oP 30 (.fieldAddr none 5 (.t 29)),
oN (.store 1 (.t 30) (.t 27))] [0])
(.gG 0 41 2 (.seq (.reg [mV 31 0,
oP 32 (.call (.f 71) [false,true,true] [(.t 31),(.c (.slice 1 [])),(.c (.slice 1 []))]),
oP 6 (.mvd (.t 32))] [6])
.ret)))))
abbrev xx:RsT:=[(6,none)]
theorem O9:an Tryz.prog Tryz.f119 33 yn xx = true:=by kernel_rfl
theorem abt:af Tryz.prog XJ = true:=by kernel_rfl
theorem aec:ag Tryz.prog ⟨119,33,yn,xx,0⟩:=⟨fun _=>⟨abt,_,Tryz.func119,O9⟩,fun h=>by cases h⟩
abbrev Zq:FuncId:=120
def z7:AC:=
(.seq (.reg [oP 4 (.pbox 1 (.t 1)),
oP 5 (.pbox 1 (.t 2)),
oP 6 (.mv (cI 0))] [0,4,5])
(.seq (.reg [mV 8 0,
oP 9 (.mkfunc (.func 195) [] [(.t 5),(.t 4)]),
oP 10 (.call (.f 194) [true,false] [(.t 8),(.t 9)]),
mV 7 10] [7])
(.seq (.reg [mV 11 7,
oP 12 (.bin .geq (.t 11) (cI 0)),
oP 13 (.call (.f 37) [false,false] [(.t 12),(cI 4)]),
oP 14 (.lit 0 1 1 [(0,(.t 13))]),
oP 15 (.call (.f 36) [true] [(.t 14)])] [7])
(.seq (.reg [mV 16 7,
mV 6 16] [6])
.ret))))
abbrev yf:RsT:=[(6,none)]
theorem aez:an Tryz.prog Tryz.f120 17 z7 yf = true:=by kernel_rfl
theorem W2:af Tryz.prog Zq = true:=by kernel_rfl
theorem PU:ag Tryz.prog ⟨120,17,z7,yf,0⟩:=⟨fun _=>⟨W2,_,Tryz.func120,aez⟩,fun h=>by cases h⟩
abbrev Q1:FuncId:=121
def xu:AC:=
(.seq (.reg [oP 1 (.pbox 2 (.t 0)),
⟨some 2,none, .mv (.c (.str ⟨#[]⟩))⟩] [1])
(.seq (.reg [oP 3 (.fieldAddr none 0 (.t 1)),
oP 4 (.load none (.t 3)),
mV 2 4] [2])
.ret))
abbrev xb:RsT:=[(2,none)]
theorem Rn:an Tryz.prog Tryz.f121 5 xu xb = true:=by kernel_rfl
theorem YW:af Tryz.prog Q1 = true:=by kernel_rfl
theorem SA:ag Tryz.prog ⟨121,5,xu,xb,0⟩:=⟨fun _=>⟨YW,_,Tryz.func121,Rn⟩,fun h=>by cases h⟩
abbrev s5:FuncId:=122
def sX:AC:=
(.seq (.reg [oP 2 (.mv (.c (.slice 3 [])))] [0])
(.seq (.seq (.reg [mV 3 0,
oP 4 (.snil false (.t 3))] [0,4])
(.cond (.t 4)
(.seq (.reg [oP 2 (.nilS 3 3)] [2])
.ret)
.skip))
(.seq (.reg [oP 5 (.lit 1 3 0 []),
mV 6 0,
oP 7 (.append 3 24 (.t 5) (.t 6)),
mV 2 7] [2])
.ret)))
abbrev Fj:RsT:=[(2,none)]
theorem adA:SpF 8 s5 sX Fj:=SpI Tryz.func122 (by kernel_rfl)
theorem Jr:af Tryz.prog s5 = true:=by kernel_rfl
theorem OZ:ag Tryz.prog ⟨122,8,sX,Fj,0⟩:=⟨fun _=>⟨Jr,_,Tryz.func122,by kernel_rfl⟩,fun h=>by cases h⟩
abbrev Jl:FuncId:=123
def A0:AC:=
(.seq (.reg [oP 3 (.pbox 9 (.t 0)),
oP 6 (.alloc [.int .i64 0, .int .i64 0]),
oP 7 (.mv (cI 0))] [1,2,3,6])
(.seq (.reg [oP 12 (.load (some 9) (.t 3)),
mV 13 1,
mV 14 2,
oP 15 (.call (.f 196) [true,true,false] [(.t 12),(.t 13),(.t 14)]),
mV 11 15,
oP 16 (.extract (.t 11) 0),
oP 17 (.extract (.t 11) 1),
oP 18 (.extract (.t 11) 2),
oP 8 (.alloc [.int .i64 0, .int .i64 0, .int .i64 0, .int .i64 0, .int .i64 0, .int .i64 0, .int .i64 0, .slice 2 [], .slice 2 [], .nilmap]),
oP 9 (.alloc [.int .i64 0, .int .i64 0]),
oN (.store 10 (.t 8) (.t 16)),
oN (.store 2 (.t 9) (.t 17)),
mV 10 18] [6,9,10])
(.frz 9 true (.seq (.reg [oP 19 (.load (some 2) (.t 9)),
mV 20 10,
oN (.store 2 (.t 6) (.t 19)),
mV 7 20] [6,7])
.ret))))
abbrev DA:RsT:=[(6,some (some 2)),(7,none)]
theorem RF:an Tryz.prog Tryz.f123 21 A0 DA = true:=by kernel_rfl
theorem Yt:af Tryz.prog Jl = true:=by kernel_rfl
theorem P2:ag Tryz.prog ⟨123,21,A0,DA,0⟩:=⟨fun _=>⟨Yt,_,Tryz.func123,RF⟩,fun h=>by cases h⟩
abbrev YJ:FuncId:=124
def Fv:AC:=
(.seq (.reg [oP 4 (.pbox 1 (.t 1)),
oP 5 (.pbox 1 (.t 2)),
oP 6 (.mv (cI 0))] [0,4,5])
(.seq (.reg [mV 8 0,
oP 9 (.mkfunc (.func 198) [] [(.t 5),(.t 4)]),
oP 10 (.call (.f 197) [true,false] [(.t 8),(.t 9)]),
mV 7 10] [7])
(.seq (.reg [mV 11 7,
oP 12 (.bin .geq (.t 11) (cI 0)),
oP 13 (.call (.f 37) [false,false] [(.t 12),(cI 4)]),
oP 14 (.lit 0 1 1 [(0,(.t 13))]),
oP 15 (.call (.f 36) [true] [(.t 14)])] [7])
(.seq (.reg [mV 16 7,
mV 6 16] [6])
.ret))))
abbrev CF:RsT:=[(6,none)]
theorem Q9:an Tryz.prog Tryz.f124 17 Fv CF = true:=by kernel_rfl
theorem aeI:af Tryz.prog YJ = true:=by kernel_rfl
theorem Vp:ag Tryz.prog ⟨124,17,Fv,CF,0⟩:=⟨fun _=>⟨aeI,_,Tryz.func124,Q9⟩,fun h=>by cases h⟩
abbrev R1:FuncId:=125
def Bs:AC:=
(.seq (.reg [oP 1 (.pbox 7 (.t 0)),
⟨some 2,none, .mv (.c (.str ⟨#[]⟩))⟩] [1])
(.seq (.reg [oP 3 (.fieldAddr none 0 (.t 1)),
oP 4 (.load none (.t 3)),
mV 2 4] [2])
.ret))
abbrev Gw:RsT:=[(2,none)]
theorem ab3:an Tryz.prog Tryz.f125 5 Bs Gw = true:=by kernel_rfl
theorem adX:af Tryz.prog R1 = true:=by kernel_rfl
theorem aaQ:ag Tryz.prog ⟨125,5,Bs,Gw,0⟩:=⟨fun _=>⟨adX,_,Tryz.func125,ab3⟩,fun h=>by cases h⟩
abbrev Ba:FuncId:=126
def Ab:AC:=
(.seq (.reg [oP 3 (.pbox 9 (.t 0)),
oP 6 (.alloc [.int .i64 0]),
oP 7 (.mv (cI 0))] [1,2,3,6])
(.seq (.reg [oP 13 (.load (some 9) (.t 3)),
mV 14 1,
mV 15 2,
oP 16 (.call (.f 196) [true,true,false] [(.t 13),(.t 14),(.t 15)]),
mV 12 16,
oP 17 (.extract (.t 12) 0),
oP 18 (.extract (.t 12) 1),
oP 19 (.extract (.t 12) 2),
oP 8 (.alloc [.int .i64 0, .int .i64 0, .int .i64 0, .int .i64 0, .int .i64 0, .int .i64 0, .int .i64 0, .slice 2 [], .slice 2 [], .nilmap]),
oP 9 (.alloc [.int .i64 0, .int .i64 0]),
oN (.store 10 (.t 8) (.t 17)),
oN (.store 2 (.t 9) (.t 18)),
mV 7 19] [2,6,7,8,9])
(.frz 9 true (.frz 8 true (.seq (.seq (.reg [mV 20 7,
oP 21 (.bin .neq (.t 20) (cI 0))] [2,6,7,8,9,21])
(.cond (.t 21)
(.seq (.reg [mV 22 7,
oN (.store 1 (.t 6) (cI 0)),
mV 7 22] [6,7])
.ret)
.skip))
(.seq (.reg [oN (.store 1 (.t 6) (cI (-1)))] [2,6,8,9])
(.seq (.seq (.reg [oP 23 (.load (some 10) (.t 8)),
mV 24 2,
oP 25 (.load (some 2) (.t 9)),
mV 26 2,
oP 27 (.call (.f 199) [true,false,false,false] [(.t 23),(.t 24),(.t 25),(.t 26)])] [6,8,27])
(.block 0
(.cg (.t 27) [28,29] (.seq (.reg [mV 10 28] [6,8,10,29])
(.reg [oP 11 (.alloc [.int .i64 0, .int .i64 0]),
oN (.store 2 (.t 11) (.t 29))] [6,8,10,11]))
(.block 1
(.seq (.seq (.reg [oP 30 (.fieldAddr none 1 (.t 11)),
oP 31 (.load none (.t 30)),
oP 32 (.fieldAddr (some 9) 0 (.t 8)),
oP 33 (.fieldAddr none 6 (.t 32)),
oP 34 (.load none (.t 33)),
oP 35 (.bin .gtr (.t 31) (.t 34))] [6,10,35])
(.cond (.t 35)
(.exit 0)
.skip))
(.reg [mV 36 10,
oN (.store 1 (.t 6) (.t 36))] []))))))
(.seq (.reg [oP 37 (.load none (.t 6)),
oN (.store 1 (.t 6) (.t 37)),
oP 7 (.mv (cI 0))] [6,7])
.ret))))))))
abbrev BK:RsT:=[(6,some none),(7,none)]
theorem RW:an Tryz.prog Tryz.f126 38 Ab BK = true:=by kernel_rfl
theorem abC:af Tryz.prog Ba = true:=by kernel_rfl
theorem acK:ag Tryz.prog ⟨126,38,Ab,BK,0⟩:=⟨fun _=>⟨abC,_,Tryz.func126,RW⟩,fun h=>by cases h⟩
abbrev sc:FuncId:=127
def Br:AC:=
(.seq (.reg [oP 2 (.pbox 11 (.t 0)),
oP 4 (.mv (cI 0)),
oP 5 (.mv (cI 0)),
oP 6 (.mv (cI 0))] [1,2])
(.seq (.reg [oP 9 (.load (some 11) (.t 2)),
mV 10 1,
oP 11 (.call (.f 200) [true,true] [(.t 9),(.t 10)]),
mV 8 11,
oP 12 (.extract (.t 8) 0),
oP 13 (.extract (.t 8) 1),
mV 7 12,
mV 6 13] [1,6,7])
(.seq (.seq (.reg [mV 14 6,
oP 15 (.bin .neq (.t 14) (cI 0))] [1,6,7,15])
(.cond (.t 15)
(.seq (.reg [mV 16 6,
oP 4 (.mv (cI 0)),
oP 5 (.mv (cI 0)),
mV 6 16] [4,5,6])
.ret)
.skip))
(.seq (.reg [mV 18 7,
mV 19 1,
oP 20 (.call (.f 201) [false,true] [(.t 18),(.t 19)]),
mV 17 20,
oP 21 (.extract (.t 17) 0),
oP 22 (.extract (.t 17) 1),
oP 23 (.extract (.t 17) 2),
mV 4 21,
mV 5 22] [4,5])
(.seq (.reg [mV 24 4,
mV 25 5,
mV 4 24,
mV 5 25,
oP 6 (.mv (cI 0))] [4,5,6])
.ret)))))
abbrev FB:RsT:=[(4,none),(5,none),(6,none)]
theorem aeR:an Tryz.prog Tryz.f127 26 Br FB = true:=by kernel_rfl
theorem ZU:af Tryz.prog sc = true:=by kernel_rfl
theorem aar:ag Tryz.prog ⟨127,26,Br,FB,0⟩:=⟨fun _=>⟨ZU,_,Tryz.func127,aeR⟩,fun h=>by cases h⟩
abbrev aax:FuncId:=128
def Ct:AC:=
(.seq (.reg [oP 4 (.pbox 1 (.t 1)),
oP 5 (.pbox 1 (.t 2)),
oP 6 (.mv (cI 0))] [0,4,5])
(.seq (.reg [mV 8 0,
oP 9 (.mkfunc (.func 202) [] [(.t 5),(.t 4)]),
oP 10 (.call (.f 58) [true,false] [(.t 8),(.t 9)]),
mV 7 10] [7])
(.seq (.reg [mV 11 7,
oP 12 (.bin .geq (.t 11) (cI 0)),
oP 13 (.call (.f 37) [false,false] [(.t 12),(cI 4)]),
oP 14 (.lit 0 1 1 [(0,(.t 13))]),
oP 15 (.call (.f 36) [true] [(.t 14)])] [7])
(.seq (.reg [mV 16 7,
mV 6 16] [6])
.ret))))
abbrev Ca:RsT:=[(6,none)]
theorem Ob:an Tryz.prog Tryz.f128 17 Ct Ca = true:=by kernel_rfl
theorem VI:af Tryz.prog aax = true:=by kernel_rfl
theorem aaj:ag Tryz.prog ⟨128,17,Ct,Ca,0⟩:=⟨fun _=>⟨VI,_,Tryz.func128,Ob⟩,fun h=>by cases h⟩
abbrev adz:FuncId:=129
def Gr:AC:=
(.seq (.reg [⟨some 2,none, .mv (.c (.str ⟨#[]⟩))⟩] [0])
(.seq (.reg [mV 3 0,
mV 2 3] [2])
.ret))
abbrev BO:RsT:=[(2,none)]
theorem Y3:an Tryz.prog Tryz.f129 4 Gr BO = true:=by kernel_rfl
theorem acp:af Tryz.prog adz = true:=by kernel_rfl
theorem TG:ag Tryz.prog ⟨129,4,Gr,BO,0⟩:=⟨fun _=>⟨acp,_,Tryz.func129,Y3⟩,fun h=>by cases h⟩
abbrev UO:FuncId:=130
def CC:AC:=
(.seq (.reg [oP 4 (.mv (cI 0))] [0,1])
(.seq (.seq (.reg [mV 5 1,
⟨some 6,none, .bin .eql (.t 5) (.c (.str ⟨#[45]⟩))⟩] [0,1,6])
(.cond (.t 6)
(.seq (.reg [oP 4 (.mv (cI (-1)))] [4])
.ret)
.skip))
(.seq (.reg [mV 7 0,
oP 8 (.nilchk (.t 7)),
oP 9 (.fieldAddr (some 36) 0 (.t 8)),
oP 10 (.fieldAddr (some 5) 28 (.t 9)),
oP 11 (.fieldAddr none 1 (.t 10)),
oP 12 (.load none (.t 11)),
mV 13 1,
oP 14 (.call (.f 128) [true,false,false] [(.t 12),(.t 13),(.f 129)]),
mV 4 14] [4])
.ret)))
abbrev AN:RsT:=[(4,none)]
theorem RO:an Tryz.prog Tryz.f130 15 CC AN = true:=by kernel_rfl
theorem Ts:af Tryz.prog UO = true:=by kernel_rfl
theorem Zg:ag Tryz.prog ⟨130,15,CC,AN,0⟩:=⟨fun _=>⟨Ts,_,Tryz.func130,RO⟩,fun h=>by cases h⟩
abbrev th:FuncId:=131
def oW:AC:=
(.seq (.reg [oP 2 (.mv (.c (.slice 5 [])))] [0])
(.seq (.seq (.reg [mV 3 0,
oP 4 (.snil false (.t 3))] [0,4])
(.cond (.t 4)
(.seq (.reg [oP 2 (.nilS 2 5)] [2])
.ret)
.skip))
(.seq (.reg [oP 5 (.lit 2 5 0 []),
mV 6 0,
oP 7 (.append 5 40 (.t 5) (.t 6)),
mV 2 7] [2])
.ret)))
abbrev Di:RsT:=[(2,none)]
theorem aa6:SpF 8 th oW Di:=SpI Tryz.func131 (by kernel_rfl)
theorem JA:af Tryz.prog th = true:=by kernel_rfl
theorem ad3:ag Tryz.prog ⟨131,8,oW,Di,0⟩:=⟨fun _=>⟨JA,_,Tryz.func131,by kernel_rfl⟩,fun h=>by cases h⟩
abbrev ZP:FuncId:=132
def DM:AC:=
(.seq (.reg [oP 2 (.alloc [.slice 1 [], .slice 1 [], .slice 4 [], .slice 5 [], .slice 4 []])] [0,2])
(.seq (.reg [mV 4 0,
oP 5 (.nilchk (.t 4)),
oP 6 (.fieldAddr (some 36) 0 (.t 5)),
oP 7 (.fieldAddr (some 5) 28 (.t 6)),
oP 8 (.load (some 5) (.t 7)),
oP 3 (.alloc [.slice 1 [], .slice 1 [], .slice 4 [], .slice 5 [], .slice 4 []]),
oN (.store 5 (.t 3) (.t 8))] [0,2,3])
(.seq (.dreg [mV 9 0,
oP 10 (.nilchk (.t 9)),
oP 11 (.fieldAddr (some 10) 36 (.t 10)),
oP 12 (.fieldAddr none 8 (.t 11)),
oP 13 (.load none (.t 12)),
mV 14 0,
oP 15 (.nilchk (.t 14)),
oP 16 (.fieldAddr (some 10) 36 (.t 15)),
oP 17 (.fieldAddr none 9 (.t 16)),
oP 18 (.load none (.t 17)),
oP 19 (.fieldAddr none 3 (.t 3)),
oN (.store 1 (.t 19) (.t 13)),
oP 20 (.fieldAddr none 4 (.t 3)),
oN (.store 1 (.t 20) (.t 18))] [2,3] [[],[0],[0,1],[0,1,2],[0,1,2,3],[],[5],[5,6],[5,6,7],[5,6,7,8],[0,1,2,3,4],[0,1,2,3,4,10],[0,1,2,3,4,5,6,7,8,9,10,11],[0,1,2,3,4,5,6,7,8,9,10,11,12]])
(.seq (.reg [oP 21 (.loadd (some 5) (.t 3)),
oN (.store 5 (.t 2) (.t 21))] [2])
.ret))))
abbrev xd:RsT:=[(2,some (some 5))]
theorem adu:an Tryz.prog Tryz.f132 22 DM xd = true:=by kernel_rfl
theorem Wx:af Tryz.prog ZP = true:=by kernel_rfl
theorem acV:ag Tryz.prog ⟨132,22,DM,xd,0⟩:=⟨fun _=>⟨Wx,_,Tryz.func132,adu⟩,fun h=>by cases h⟩
abbrev sB:FuncId:=133
def tR:AC:=
(.seq (.reg [oP 2 (.mv (.c (.slice 4 [])))] [0])
(.seq (.seq (.reg [mV 3 0,
oP 4 (.snil false (.t 3))] [0,4])
(.cond (.t 4)
(.seq (.reg [oP 2 (.nilS 3 4)] [2])
.ret)
.skip))
(.seq (.reg [oP 5 (.lit 1 4 0 []),
mV 6 0,
oP 7 (.append 4 32 (.t 5) (.t 6)),
mV 2 7] [2])
.ret)))
abbrev xL:RsT:=[(2,none)]
theorem Yw:SpF 8 sB tR xL:=SpI Tryz.func133 (by kernel_rfl)
theorem Jd:af Tryz.prog sB = true:=by kernel_rfl
theorem XT:ag Tryz.prog ⟨133,8,tR,xL,0⟩:=⟨fun _=>⟨Jd,_,Tryz.func133,by kernel_rfl⟩,fun h=>by cases h⟩
abbrev yg:FuncId:=134
def z8:AC:=
(.seq (.reg [oP 2 (.pbox 11 (.t 0)),
oP 4 (.mv (.c (.slice 1 []))),
oP 5 (.mv (cI 0))] [1,2])
(.seq (.reg [oP 10 (.load (some 11) (.t 2)),
mV 11 1,
oP 12 (.call (.f 203) [true,true] [(.t 10),(.t 11)]),
mV 9 12,
oP 13 (.extract (.t 9) 0),
oP 14 (.extract (.t 9) 1),
oP 15 (.extract (.t 9) 2),
mV 6 13,
mV 7 14,
mV 8 15] [6,7,8])
(.seq (.seq (.reg [mV 16 8,
oP 17 (.bin .neq (.t 16) (cI 0))] [6,7,8,17])
(.cond (.t 17)
(.seq (.reg [mV 18 8,
oP 4 (.mv (.c (.slice 1 []))),
mV 5 18] [4,5])
.ret)
.skip))
(.seq (.reg [mV 19 6,
mV 20 7,
oP 21 (.call (.f 205) [false,false] [(.t 19),(.t 20)]),
oP 22 (.call (.f 204) [false,false] [(.t 21),(.f 206)]),
oP 4 (.mvd (.t 22)),
oP 5 (.mv (cI 0))] [4,5])
.ret))))
abbrev yI:RsT:=[(4,none),(5,none)]
theorem Yz:an Tryz.prog Tryz.f134 23 z8 yI = true:=by kernel_rfl
theorem acb:af Tryz.prog yg = true:=by kernel_rfl
theorem abN:ag Tryz.prog ⟨134,23,z8,yI,0⟩:=⟨fun _=>⟨acb,_,Tryz.func134,Yz⟩,fun h=>by cases h⟩
abbrev Ja:FuncId:=135
def FM:AC:=
(.seq (.reg [oP 1 (.pbox 5 (.t 0)),
oP 2 (.alloc [.slice 1 []]),
oP 3 (.alloc [.int .i64 0])] [1,2,3])
(.seq (.reg [oP 8 (.load (some 5) (.t 1)),
oP 9 (.call (.f 207) [true] [(.t 8)]),
mV 7 9,
oP 10 (.extract (.t 7) 0),
oP 11 (.extract (.t 7) 1),
oP 4 (.alloc [.slice 1 [], .slice 1 [], .slice 4 [], .slice 5 [], .slice 4 []]),
oN (.store 5 (.t 4) (.t 10)),
mV 5 11] [2,3,4,5])
(.frz 4 true (.seq (.seq (.reg [mV 12 5,
oP 13 (.bin .neq (.t 12) (cI 0))] [2,3,4,5,13])
(.cond (.t 13)
(.seq (.reg [mV 14 5,
oN (.store 1 (.t 2) (.c (.slice 1 []))),
oN (.store 1 (.t 3) (.t 14))] [2,3])
.ret)
.skip))
(.seq (.seq (.reg [oP 15 (.load (some 5) (.t 4)),
oP 16 (.call (.f 208) [true] [(.t 15)])] [2,3,4,16])
(.block 0
(.cg (.t 16) [17] (.reg [mV 6 17] [2,3,4,6])
(.block 1
(.seq (.reg [oP 18 (.load (some 5) (.t 4)),
mV 19 6,
oP 20 (.call (.f 209) [true,true] [(.t 18),(.t 19)])] [2,3,6,20])
(.cond (.t 20)
(.seq (.reg [oP 21 (.freeze 1 (.t 6)),
oN (.store 1 (.t 2) (.t 21)),
oN (.store 1 (.t 3) (cI 0))] [2,3])
.ret)
.skip))))))
(.seq (.reg [oN (.store 1 (.t 2) (.c (.slice 1 []))),
oN (.store 1 (.t 3) (cI 9))] [2,3])
.ret))))))
abbrev yS:RsT:=[(2,some none),(3,some none)]
theorem OU:an Tryz.prog Tryz.f135 22 FM yS = true:=by kernel_rfl
theorem abM:af Tryz.prog Ja = true:=by kernel_rfl
theorem Ol:ag Tryz.prog ⟨135,22,FM,yS,0⟩:=⟨fun _=>⟨abM,_,Tryz.func135,OU⟩,fun h=>by cases h⟩
abbrev Je:FuncId:=136
def Ez:AC:=
(.seq (.reg [oP 1 (.pbox 3 (.t 0)),
oP 2 (.nilS 1 2),
oP 3 (.mv (cI 0))] [1,2])
(.seq (.reg [oP 8 (.load (some 3) (.t 1)),
oP 9 (.call (.f 210) [true] [(.t 8)]),
mV 7 9,
oP 10 (.extract (.t 7) 0),
oP 11 (.extract (.t 7) 1),
oP 4 (.alloc [.int .i64 0, .int .i64 0, .slice 4 [], .slice 3 []]),
oN (.store 4 (.t 4) (.t 10)),
mV 3 11] [2,3,4])
(.frz 4 true (.seq (.seq (.reg [mV 12 3,
oP 13 (.bin .neq (.t 12) (cI 0))] [2,3,4,13])
(.cond (.t 13)
(.seq (.reg [mV 14 3,
oP 2 (.mv (.c (.slice 2 []))),
mV 3 14] [2,3])
.ret)
.skip))
(.seq (.reg [oP 15 (.mkfunc (.func 211) [] [(.t 4)]),
mV 5 15] [2,4,5])
(.seq (.seq (.reg [oP 16 (.fieldAddr none 3 (.t 4)),
oP 17 (.load none (.t 16)),
oP 18 (.len (.t 17)),
oP 19 (.mv (cI 0))] [2,4,5,18,19])
(.block 0
(.loop [2,4,5,18,19]
(.seq (.reg [oP 20 (.bin .lss (.t 19) (.t 18))] [2,4,5,18,19,20])
(.seq (.cond (.t 20)
.skip
(.exit 0))
(.seq (.block 1
(.seq (.reg [mV 21 19,
mV 6 21] [2,4,5,6,18,19])
(.dreg [mV 22 2,
mV 23 5,
mV 24 6,
oP 25 (.fieldAddr (some 3) 0 (.t 4)),
oP 26 (.fieldAddr (some 2) 0 (.t 25)),
oP 27 (.fieldAddr none 0 (.t 26)),
oP 28 (.load none (.t 27)),
oP 29 (.call (.t 23) [false,false,false,false] [(.t 24),(.t 28),(.f 215),(.f 216)]),
mV 30 5,
mV 31 6,
oP 32 (.fieldAddr (some 3) 0 (.t 4)),
oP 33 (.fieldAddr (some 2) 0 (.t 32)),
oP 34 (.fieldAddr none 1 (.t 33)),
oP 35 (.load none (.t 34)),
oP 36 (.call (.t 30) [false,false,false,false] [(.t 31),(.t 35),(.f 216),(.f 215)]),
oP 37 (.build [.int .i64 0, .int .i64 0] [(0,1,(.t 29)),(1,1,(.t 36))]),
oP 38 (.lit 0 2 1 [(0,(.t 37))]),
oP 39 (.append 2 16 (.t 22) (.t 38)),
mV 2 39] [2,4,5,18,19] [[],[],[],[],[3],[3,4],[3,4,5],[1,2,3,4,5,6],[],[],[],[10],[10,11],[10,11,12],[1,2,3,4,5,6,7,8,9,10,11,12,13],[1,2,3,4,5,6,7,8,9,10,11,12,13,14],[1,2,3,4,5,6,7,8,9,10,11,12,13,14,15],[0,1,2,3,4,5,6,7,8,9,10,11,12,13,14,15,16],[0,1,2,3,4,5,6,7,8,9,10,11,12,13,14,15,16,17]])))
(.reg [oP 40 (.bin .add (.t 19) (cI 1)),
mV 19 40] [2,4,5,18,19])))))))
(.seq (.reg [mV 41 2,
oP 2 (.mvd (.t 41)),
oP 3 (.mv (cI 0))] [2,3])
.ret)))))))
abbrev wX:RsT:=[(2,none),(3,none)]
theorem YS:an Tryz.prog Tryz.f136 42 Ez wX = true:=by kernel_rfl
theorem Sc:af Tryz.prog Je = true:=by kernel_rfl
theorem aba:ag Tryz.prog ⟨136,42,Ez,wX,0⟩:=⟨fun _=>⟨Sc,_,Tryz.func136,YS⟩,fun h=>by cases h⟩
abbrev OK:FuncId:=138
def C8:AC:=
(.seq (.reg [oP 4 (.mv (cI 0))] [0,1])
(.seq (.seq (.reg [mV 6 0,
oP 7 (.len (.t 6)),
oP 8 (.mv (cI 0))] [0,1,7,8])
(.block 0
(.loop [0,1,7,8]
(.seq (.reg [oP 9 (.bin .lss (.t 8) (.t 7))] [0,1,7,8,9])
(.seq (.cond (.t 9)
.skip
(.exit 0))
(.seq (.block 1
(.seq (.reg [mV 10 8,
mV 5 10] [0,1,5,7,8])
(.seq (.reg [mV 11 1,
mV 12 0,
mV 13 5,
oP 14 (.ixS 1 (.t 12) (.t 13)),
oP 15 (.load none (.t 14)),
oP 16 (.bin .eql (.t 11) (.t 15))] [0,1,5,7,8,16])
(.cond (.t 16)
(.seq (.reg [mV 17 5,
mV 4 17] [4])
.ret)
.skip))))
(.reg [oP 18 (.bin .add (.t 8) (cI 1)),
mV 8 18] [0,1,7,8])))))))
(.seq (.reg [oP 4 (.mv (cI (-1)))] [4])
.ret)))
abbrev yx:RsT:=[(4,none)]
theorem aaZ:an Tryz.prog Tryz.f138 19 C8 yx = true:=by kernel_rfl
theorem Qt:af Tryz.prog OK = true:=by kernel_rfl
theorem acM:ag Tryz.prog ⟨138,19,C8,yx,0⟩:=⟨fun _=>⟨Qt,_,Tryz.func138,aaZ⟩,fun h=>by cases h⟩
abbrev OA:FuncId:=139
def AP:AC:=
(.seq (.reg [oP 5 (.pbox 7 (.t 1)),
oP 8 (.mv (cI 0))] [0,2,3,5])
(.seq (.block 0
(.seq (.reg [oP 11 (.fieldAddr none 0 (.t 5)),
oP 12 (.load none (.t 11)),
oP 13 (.call (.f 147) [false] [(.t 12)]),
oP 14 (.un .not (.t 13)),
mV 10 14] [0,2,3,5,10])
(.cond (.t 10)
(.seq (.reg [oP 8 (.mv (cI 6))] [8])
.ret)
(.seq (.reg [mV 16 0,
oP 17 (.fieldAddr none 0 (.t 5)),
oP 18 (.load none (.t 17)),
oP 19 (.call (.f 217) [false,false] [(.t 16),(.t 18)]),
oP 20 (.bin .geq (.t 19) (cI 0)),
mV 21 20,
gT 22 21 (.mv (.t 0)),
gT 23 21 (.fieldAddr none 0 (.t 5)),
gT 24 21 (.load none (.t 23)),
gT 25 21 (.call (.f 217) [false,false] [(.t 22),(.t 24)]),
gT 26 21 (.mv (.t 2)),
gT 27 21 (.bin .lss (.t 25) (.t 26)),
oP 28 (.pick (.t 21) (.t 27) (.c (.bool false))),
mV 29 28,
gF 30 29 (.mv (.t 3)),
gF 31 29 (.mkfunc (.func 219) [] [(.t 5)]),
gF 32 29 (.call (.f 218) [true,false] [(.t 30),(.t 31)]),
oP 33 (.pick (.t 29) (.c (.bool true)) (.t 32)),
mV 15 33] [0,2,5,15])
(.cond (.t 15)
(.seq (.reg [oP 8 (.mv (cI 5))] [8])
.ret)
(.seq (.reg [oP 35 (.fieldAddr none 1 (.t 5)),
oP 36 (.load none (.t 35)),
oP 37 (.lit 0 1 1 [(0,(.t 36))]),
oP 38 (.call (.f 141) [false,false,true] [(cI 1),(cI 5),(.t 37)]),
mV 39 38,
gF 40 39 (.fieldAddr none 2 (.t 5)),
gF 41 39 (.load none (.t 40)),
gF 42 39 (.fieldAddr none 3 (.t 5)),
gF 43 39 (.load none (.t 42)),
gF 44 39 (.lit 0 1 2 [(0,(.t 41)),(1,(.t 43))]),
gF 45 39 (.call (.f 141) [false,false,true] [(cI 0),(cI 40),(.t 44)]),
oP 46 (.pick (.t 39) (.c (.bool true)) (.t 45)),
mV 47 46,
gF 48 47 (.fieldAddr (some 2) 5 (.t 5)),
gF 49 47 (.fieldAddr none 0 (.t 48)),
gF 50 47 (.load none (.t 49)),
gF 51 47 (.fieldAddr (some 2) 5 (.t 5)),
gF 52 47 (.fieldAddr none 1 (.t 51)),
gF 53 47 (.load none (.t 52)),
gF 54 47 (.lit 0 1 2 [(0,(.t 50)),(1,(.t 53))]),
gF 55 47 (.call (.f 141) [false,false,true] [(cI 1),(cI 1000000),(.t 54)]),
oP 56 (.pick (.t 47) (.c (.bool true)) (.t 55)),
mV 34 56] [0,2,5,34])
(.cond (.t 34)
(.seq (.reg [oP 8 (.mv (cI 7))] [8])
.ret)
(.seq (.reg [oP 58 (.fieldAddr none 2 (.t 5)),
oP 59 (.load none (.t 58)),
oP 60 (.fieldAddr none 3 (.t 5)),
oP 61 (.load none (.t 60)),
oP 62 (.bin .gtr (.t 59) (.t 61)),
mV 63 62,
gF 64 63 (.fieldAddr (some 2) 5 (.t 5)),
gF 65 63 (.fieldAddr none 0 (.t 64)),
gF 66 63 (.load none (.t 65)),
gF 67 63 (.fieldAddr (some 2) 5 (.t 5)),
gF 68 63 (.fieldAddr none 1 (.t 67)),
gF 69 63 (.load none (.t 68)),
gF 70 63 (.bin .gtr (.t 66) (.t 69)),
oP 71 (.pick (.t 63) (.c (.bool true)) (.t 70)),
mV 57 71] [0,2,5,57])
(.cond (.t 57)
(.seq (.reg [oP 8 (.mv (cI 2))] [8])
.ret)
.skip)))))))))
(.seq (.reg [mV 72 0,
oP 73 (.nilchk (.t 72)),
oP 74 (.fieldAddr (some 1) 0 (.t 73)),
oP 75 (.fieldAddr none 0 (.t 74)),
oP 76 (.load none (.t 75)),
mV 77 2,
oP 78 (.subq 7 (.t 76) none (some (.t 77))),
oP 79 (.build [.slice 7 []] [(0,1,(.t 78))]),
oP 80 (.build [.slice 7 []] [(0,1,(.t 79))]),
oP 9 (.alloc [.slice 7 []]),
oN (.store 1 (.t 9) (.t 80))] [5,9])
(.seq (.block 1
(.seq (.reg [oP 82 (.fieldAddr none 4 (.t 5)),
oP 83 (.load none (.t 82)),
oP 84 (.mkfunc (.func 220) [] [(.t 9)]),
oP 85 (.call (.f 30) [true,false] [(.t 83),(.t 84)]),
mV 81 85] [5,9,81])
(.cond (.t 81)
(.seq (.reg [oP 8 (.mv (cI 4))] [8])
.ret)
(.seq (.reg [oP 87 (.fieldAddr none 4 (.t 5)),
oP 88 (.load none (.t 87)),
oP 89 (.call (.f 221) [true] [(.t 88)]),
mV 86 89] [5,9,86])
(.cond (.t 86)
(.seq (.reg [oP 8 (.mv (cI 5))] [8])
.ret)
(.seq (.reg [oP 91 (.fieldAddr none 4 (.t 5)),
oP 92 (.load none (.t 91)),
oP 93 (.mkfunc (.func 222) [] [(.t 5),(.t 9)]),
oP 94 (.call (.f 30) [true,false] [(.t 92),(.t 93)]),
mV 90 94] [90])
(.cond (.t 90)
(.seq (.reg [oP 8 (.mv (cI 9))] [8])
.ret)
.skip)))))))
(.seq (.reg [oP 8 (.mv (cI 0))] [8])
.ret)))))
abbrev DK:RsT:=[(8,none)]
theorem OF:an Tryz.prog Tryz.f139 95 AP DK = true:=by kernel_rfl
theorem OH:af Tryz.prog OA = true:=by kernel_rfl
theorem aam:ag Tryz.prog ⟨139,95,AP,DK,0⟩:=⟨fun _=>⟨OH,_,Tryz.func139,OF⟩,fun h=>by cases h⟩
abbrev YO:FuncId:=140
def xE:AC:=
(.seq (.reg [oP 0 (.mv (.c .nilmap))] [])
(.seq (.reg [oP 1 (.mnew),
oP 2 (.build [.nilfunc, .nilfunc] [(0,1,(.f 224)),(1,1,(.f 225))]),
oN (.mset .i (.t 1) (cI 1) (.t 2)),
oP 3 (.build [.nilfunc, .nilfunc] [(0,1,(.f 226)),(1,1,(.f 228))]),
oN (.mset .i (.t 1) (cI 2) (.t 3)),
oP 4 (.build [.nilfunc, .nilfunc] [(0,1,(.f 229)),(1,1,(.f 230))]),
oN (.mset .i (.t 1) (cI 3) (.t 4)),
mV 5 1,
mV 0 5] [0])
.ret))
abbrev GH:RsT:=[(0,none)]
theorem aao:an Tryz.prog Tryz.f140 6 xE GH = true:=by kernel_rfl
theorem N5:af Tryz.prog YO = true:=by kernel_rfl
theorem Wa:ag Tryz.prog ⟨140,6,xE,GH,2⟩:=⟨fun _=>⟨N5,_,Tryz.func140,aao⟩,fun h=>by cases h⟩
abbrev Od:FuncId:=141
def By:AC:=
(.seq (.reg [oP 3 (.pbox 1 (.t 0)),
oP 4 (.pbox 1 (.t 1)),
oP 6 (.mv (.c (.bool false)))] [2,3,4])
(.seq (.reg [mV 7 2,
oP 8 (.mkfunc (.func 231) [] [(.t 3),(.t 4)]),
oP 9 (.call (.f 145) [true,false] [(.t 7),(.t 8)]),
mV 6 9] [6])
.ret))
abbrev yr:RsT:=[(6,none)]
theorem Wf:an Tryz.prog Tryz.f141 10 By yr = true:=by kernel_rfl
theorem TR:af Tryz.prog Od = true:=by kernel_rfl
theorem RB:ag Tryz.prog ⟨141,10,By,yr,0⟩:=⟨fun _=>⟨TR,_,Tryz.func141,Wf⟩,fun h=>by cases h⟩
abbrev TP:FuncId:=142
def Eh:AC:=
(.seq (.reg [oP 4 (.mv (.c (.bool false)))] [0,1])
(.seq (.reg [mV 5 0,
mV 6 1,
oP 7 (.call (.f 232) [true,false] [(.t 5),(.t 6)]),
oP 8 (.bin .geq (.t 7) (cI 0)),
mV 4 8] [4])
.ret))
abbrev AE:RsT:=[(4,none)]
theorem QM:an Tryz.prog Tryz.f142 9 Eh AE = true:=by kernel_rfl
theorem PS:af Tryz.prog TP = true:=by kernel_rfl
theorem XP:ag Tryz.prog ⟨142,9,Eh,AE,0⟩:=⟨fun _=>⟨PS,_,Tryz.func142,QM⟩,fun h=>by cases h⟩
abbrev X1:FuncId:=143
def yz:AC:=
(.seq (.reg [oP 1 (.pbox 4 (.t 0)),
oP 2 (.mv (.c (.bool false)))] [1])
(.seq (.reg [oP 3 (.fieldAddr (some 2) 0 (.t 1)),
oP 4 (.fieldAddr none 0 (.t 3)),
oP 5 (.load none (.t 4)),
oP 6 (.fieldAddr (some 2) 0 (.t 1)),
oP 7 (.fieldAddr none 1 (.t 6)),
oP 8 (.load none (.t 7)),
oP 9 (.mn [(.t 5),(.t 8)]),
oP 10 (.fieldAddr none 2 (.t 1)),
oP 11 (.load none (.t 10)),
oP 12 (.bin .lss (.t 9) (.t 11)),
mV 13 12,
gF 14 13 (.fieldAddr (some 2) 0 (.t 1)),
gF 15 13 (.fieldAddr none 0 (.t 14)),
gF 16 13 (.load none (.t 15)),
gF 17 13 (.fieldAddr (some 2) 0 (.t 1)),
gF 18 13 (.fieldAddr none 1 (.t 17)),
gF 19 13 (.load none (.t 18)),
gF 20 13 (.mx [(.t 16),(.t 19)]),
gF 21 13 (.fieldAddr none 3 (.t 1)),
gF 22 13 (.load none (.t 21)),
gF 23 13 (.bin .gtr (.t 20) (.t 22)),
oP 24 (.pick (.t 13) (.c (.bool true)) (.t 23)),
mV 2 24] [2])
.ret))
abbrev Ej:RsT:=[(2,none)]
theorem Ri:an Tryz.prog Tryz.f143 25 yz Ej = true:=by kernel_rfl
theorem VZ:af Tryz.prog X1 = true:=by kernel_rfl
theorem aeG:ag Tryz.prog ⟨143,25,yz,Ej,0⟩:=⟨fun _=>⟨VZ,_,Tryz.func143,Ri⟩,fun h=>by cases h⟩
abbrev Pj:FuncId:=144
def Eu:AC:=
(.seq (.reg [oP 1 (.pbox 4 (.t 0)),
oP 2 (.mv (.c (.bool false)))] [1])
(.seq (.reg [oP 3 (.fieldAddr (some 2) 0 (.t 1)),
oP 4 (.fieldAddr none 0 (.t 3)),
oP 5 (.load none (.t 4)),
oP 6 (.fieldAddr (some 2) 0 (.t 1)),
oP 7 (.fieldAddr none 1 (.t 6)),
oP 8 (.load none (.t 7)),
oP 9 (.bin .gtr (.t 5) (.t 8)),
mV 2 9] [2])
.ret))
abbrev xZ:RsT:=[(2,none)]
theorem Vg:an Tryz.prog Tryz.f144 10 Eu xZ = true:=by kernel_rfl
theorem Ye:af Tryz.prog Pj = true:=by kernel_rfl
theorem Rm:ag Tryz.prog ⟨144,10,Eu,xZ,0⟩:=⟨fun _=>⟨Ye,_,Tryz.func144,Vg⟩,fun h=>by cases h⟩
abbrev aak:FuncId:=145
def xU:AC:=
(.seq (.reg [oP 4 (.mv (.c (.bool false)))] [0,1])
(.seq (.reg [mV 5 0,
mV 6 1,
oP 7 (.call (.f 233) [true,false] [(.t 5),(.t 6)]),
oP 8 (.bin .geq (.t 7) (cI 0)),
mV 4 8] [4])
.ret))
abbrev yA:RsT:=[(4,none)]
theorem TS:an Tryz.prog Tryz.f145 9 xU yA = true:=by kernel_rfl
theorem Ng:af Tryz.prog aak = true:=by kernel_rfl
theorem Xr:ag Tryz.prog ⟨145,9,xU,yA,0⟩:=⟨fun _=>⟨Ng,_,Tryz.func145,TS⟩,fun h=>by cases h⟩
abbrev WQ:FuncId:=146
def D5:AC:=
(.seq (.reg [oP 4 (.mv (.c (.bool false)))] [0,1,2])
(.seq (.reg [mV 5 0,
oP 6 (.load none (.t 1)),
oP 7 (.bin .lss (.t 5) (.t 6)),
mV 8 7,
gF 9 8 (.mv (.t 0)),
gF 10 8 (.load none (.t 2)),
gF 11 8 (.bin .gtr (.t 9) (.t 10)),
oP 12 (.pick (.t 8) (.c (.bool true)) (.t 11)),
mV 4 12] [4])
.ret))
abbrev Fi:RsT:=[(4,none)]
theorem QK:an Tryz.prog Tryz.f146 13 D5 Fi = true:=by kernel_rfl
theorem UP:af Tryz.prog WQ = true:=by kernel_rfl
theorem adI:ag Tryz.prog ⟨146,13,D5,Fi,0⟩:=⟨fun _=>⟨UP,_,Tryz.func146,QK⟩,fun h=>by cases h⟩
abbrev Xx:FuncId:=147
def CD:AC:=
(.seq (.reg [oP 2 (.mv (.c (.bool false)))] [0])
(.seq (.seq (.reg [mV 7 0,
oP 8 (.range (.t 7))] [0,8])
(.block 0
(.loop [0,8]
(.seq (.reg [oP 9 (.next (.t 8)),
oP 10 (.extract (.t 9) 0)] [0,8,9,10])
(.seq (.cond (.t 10)
.skip
(.exit 0))
(.block 1
(.seq (.reg [oP 11 (.extract (.t 9) 1),
oP 12 (.extract (.t 9) 2),
mV 3 11,
mV 4 12] [0,3,4,8])
(.seq (.reg [mV 13 4,
oP 14 (.bin .geq (.t 13) (.c (.int .i32 97))),
mV 15 14,
gT 16 15 (.mv (.t 4)),
gT 17 15 (.bin .leq (.t 16) (.c (.int .i32 122))),
oP 18 (.pick (.t 15) (.t 17) (.c (.bool false))),
mV 19 4,
oP 20 (.bin .geq (.t 19) (.c (.int .i32 48))),
mV 21 20,
gT 22 21 (.mv (.t 4)),
gT 23 21 (.bin .leq (.t 22) (.c (.int .i32 57))),
oP 24 (.pick (.t 21) (.t 23) (.c (.bool false))),
mV 5 18,
mV 6 24] [0,3,5,6,8])
(.seq (.reg [mV 25 5,
oP 26 (.un .not (.t 25)),
mV 27 26,
gT 28 27 (.mv (.t 6)),
gT 29 27 (.un .not (.t 28)),
gT 30 27 (.mv (.t 29)),
gF 31 30 (.mv (.t 3)),
gF 32 30 (.bin .eql (.t 31) (cI 0)),
gT 33 27 (.pick (.t 30) (.c (.bool true)) (.t 32)),
oP 34 (.pick (.t 27) (.t 33) (.c (.bool false)))] [0,8,34])
(.cond (.t 34)
(.seq (.reg [oP 2 (.mv (.c (.bool false)))] [2])
.ret)
.skip))))))))))
(.seq (.reg [mV 35 0,
⟨some 36,none, .bin .neq (.t 35) (.c (.str ⟨#[]⟩))⟩,
mV 37 36,
gT 38 37 (.mv (.t 0)),
gT 39 37 (.lenStr (.t 38)),
gT 40 37 (.bin .leq (.t 39) (cI 16)),
oP 41 (.pick (.t 37) (.t 40) (.c (.bool false))),
mV 2 41] [2])
.ret)))
abbrev Dm:RsT:=[(2,none)]
theorem SB:an Tryz.prog Tryz.f147 42 CD Dm = true:=by kernel_rfl
theorem Zn:af Tryz.prog Xx = true:=by kernel_rfl
theorem Sn:ag Tryz.prog ⟨147,42,CD,Dm,0⟩:=⟨fun _=>⟨Zn,_,Tryz.func147,SB⟩,fun h=>by cases h⟩
abbrev Vu:FuncId:=148
def DV:AC:=
(.seq (.reg [oP 4 (.mv (.c (.bool false)))] [0,1])
(.seq (.reg [mV 5 0,
mV 6 1,
oP 7 (.call (.f 194) [true,false] [(.t 5),(.t 6)]),
oP 8 (.bin .geq (.t 7) (cI 0)),
mV 4 8] [4])
.ret))
abbrev zo:RsT:=[(4,none)]
theorem Ww:an Tryz.prog Tryz.f148 9 DV zo = true:=by kernel_rfl
theorem Vn:af Tryz.prog Vu = true:=by kernel_rfl
theorem N8:ag Tryz.prog ⟨148,9,DV,zo,0⟩:=⟨fun _=>⟨Vn,_,Tryz.func148,Ww⟩,fun h=>by cases h⟩
abbrev Wd:FuncId:=149
def Cl:AC:=
(.seq (.reg [oP 3 (.pbox 2 (.t 0)),
oP 4 (.mv (.c (.bool false)))] [1,2,3])
(.seq (.dreg [oP 5 (.load none (.t 1)),
oP 6 (.load (some 2) (.t 3)),
oP 7 (.call (.t 5) [false] [(.t 6)]),
oP 8 (.load none (.t 2)),
oP 9 (.bin .eql (.t 7) (.t 8)),
mV 4 9] [4] [[],[],[0,1],[],[0,1,2,3],[0,1,2,3,4]])
.ret))
abbrev zX:RsT:=[(4,none)]
theorem XN:an Tryz.prog Tryz.f149 10 Cl zX = true:=by kernel_rfl
theorem Pg:af Tryz.prog Wd = true:=by kernel_rfl
theorem Sy:ag Tryz.prog ⟨149,10,Cl,zX,0⟩:=⟨fun _=>⟨Pg,_,Tryz.func149,XN⟩,fun h=>by cases h⟩
abbrev aco:FuncId:=150
def Gi:AC:=
(.seq (.reg [oP 3 (.pbox 1 (.t 0)),
oP 4 (.pbox 1 (.t 1)),
oP 6 (.mv (.c (.bool false)))] [2,3,4])
(.seq (.reg [mV 7 2,
oP 8 (.mkfunc (.func 234) [] [(.t 3),(.t 4)]),
oP 9 (.call (.f 145) [true,false] [(.t 7),(.t 8)]),
mV 6 9] [6])
.ret))
abbrev zF:RsT:=[(6,none)]
theorem TW:an Tryz.prog Tryz.f150 10 Gi zF = true:=by kernel_rfl
theorem acB:af Tryz.prog aco = true:=by kernel_rfl
theorem abe:ag Tryz.prog ⟨150,10,Gi,zF,0⟩:=⟨fun _=>⟨acB,_,Tryz.func150,TW⟩,fun h=>by cases h⟩
abbrev Sj:FuncId:=151
def Dl:AC:=
(.seq (.reg [oP 4 (.mv (.c (.bool false)))] [0,1])
(.seq (.reg [mV 5 0,
mV 6 1,
oP 7 (.call (.f 235) [true,false] [(.t 5),(.t 6)]),
oP 8 (.bin .geq (.t 7) (cI 0)),
mV 4 8] [4])
.ret))
abbrev Aa:RsT:=[(4,none)]
theorem TN:an Tryz.prog Tryz.f151 9 Dl Aa = true:=by kernel_rfl
theorem Rf:af Tryz.prog Sj = true:=by kernel_rfl
theorem On:ag Tryz.prog ⟨151,9,Dl,Aa,0⟩:=⟨fun _=>⟨Rf,_,Tryz.func151,TN⟩,fun h=>by cases h⟩
abbrev Pb:FuncId:=152
def B6:AC:=
(.seq (.reg [oP 2 (.pbox 7 (.t 0)),
oP 3 (.mv (.c (.bool false)))] [1,2])
(.seq (.reg [oP 4 (.fieldAddr none 0 (.t 2)),
oP 5 (.load none (.t 4)),
oP 6 (.fieldAddr none 0 (.t 1)),
oP 7 (.load none (.t 6)),
oP 8 (.bin .eql (.t 5) (.t 7)),
mV 3 8] [3])
.ret))
abbrev xX:RsT:=[(3,none)]
theorem Wc:an Tryz.prog Tryz.f152 9 B6 xX = true:=by kernel_rfl
theorem SU:af Tryz.prog Pb = true:=by kernel_rfl
theorem WV:ag Tryz.prog ⟨152,9,B6,xX,0⟩:=⟨fun _=>⟨SU,_,Tryz.func152,Wc⟩,fun h=>by cases h⟩
abbrev W8:FuncId:=153
def Dr:AC:=
(.seq (.reg [oP 1 (.pbox 7 (.t 0)),
oP 2 (.mv (cI 0))] [1])
(.seq (.block 0
(.seq (.reg [oP 4 (.fieldAddr none 1 (.t 1)),
oP 5 (.load none (.t 4)),
oP 6 (.lit 0 1 1 [(0,(.t 5))]),
oP 7 (.call (.f 150) [false,false,true] [(cI 0),(cI 5000),(.t 6)]),
mV 8 7,
gF 9 8 (.fieldAddr none 4 (.t 1)),
gF 10 8 (.load none (.t 9)),
gF 11 8 (.lit 0 1 1 [(0,(.t 10))]),
gF 12 8 (.call (.f 150) [false,false,true] [(cI 0),(cI 1000),(.t 11)]),
oP 13 (.pick (.t 8) (.c (.bool true)) (.t 12)),
mV 14 13,
gF 15 14 (.fieldAddr (some 2) 2 (.t 1)),
gF 16 14 (.fieldAddr none 0 (.t 15)),
gF 17 14 (.load none (.t 16)),
gF 18 14 (.fieldAddr (some 2) 2 (.t 1)),
gF 19 14 (.fieldAddr none 1 (.t 18)),
gF 20 14 (.load none (.t 19)),
gF 21 14 (.lit 0 1 2 [(0,(.t 17)),(1,(.t 20))]),
gF 22 14 (.call (.f 150) [false,false,true] [(cI 0),(cI 1000000),(.t 21)]),
oP 23 (.pick (.t 14) (.c (.bool true)) (.t 22)),
mV 24 23,
gF 25 24 (.fieldAddr (some 2) 5 (.t 1)),
gF 26 24 (.fieldAddr none 0 (.t 25)),
gF 27 24 (.load none (.t 26)),
gF 28 24 (.fieldAddr (some 2) 5 (.t 1)),
gF 29 24 (.fieldAddr none 1 (.t 28)),
gF 30 24 (.load none (.t 29)),
gF 31 24 (.lit 0 1 2 [(0,(.t 27)),(1,(.t 30))]),
gF 32 24 (.call (.f 150) [false,false,true] [(cI 0),(cI 5000),(.t 31)]),
oP 33 (.pick (.t 24) (.c (.bool true)) (.t 32)),
mV 3 33] [1,3])
(.cond (.t 3)
(.seq (.reg [oP 2 (.mv (cI 7))] [2])
.ret)
(.seq (.reg [oP 35 (.fieldAddr (some 2) 2 (.t 1)),
oP 36 (.fieldAddr none 0 (.t 35)),
oP 37 (.load none (.t 36)),
oP 38 (.fieldAddr (some 2) 2 (.t 1)),
oP 39 (.fieldAddr none 1 (.t 38)),
oP 40 (.load none (.t 39)),
oP 41 (.bin .gtr (.t 37) (.t 40)),
mV 42 41,
gF 43 42 (.fieldAddr (some 2) 5 (.t 1)),
gF 44 42 (.fieldAddr none 0 (.t 43)),
gF 45 42 (.load none (.t 44)),
gF 46 42 (.fieldAddr (some 2) 5 (.t 1)),
gF 47 42 (.fieldAddr none 1 (.t 46)),
gF 48 42 (.load none (.t 47)),
gF 49 42 (.bin .gtr (.t 45) (.t 48)),
oP 50 (.pick (.t 42) (.c (.bool true)) (.t 49)),
mV 34 50] [34])
(.cond (.t 34)
(.seq (.reg [oP 2 (.mv (cI 2))] [2])
.ret)
.skip)))))
(.seq (.reg [oP 2 (.mv (cI 0))] [2])
.ret)))
abbrev Bd:RsT:=[(2,none)]
theorem RS:an Tryz.prog Tryz.f153 51 Dr Bd = true:=by kernel_rfl
theorem Th:af Tryz.prog W8 = true:=by kernel_rfl
theorem aeQ:ag Tryz.prog ⟨153,51,Dr,Bd,0⟩:=⟨fun _=>⟨Th,_,Tryz.func153,RS⟩,fun h=>by cases h⟩
abbrev Z1:FuncId:=154
def Am:AC:=
(.seq (.reg [oP 1 (.pbox 2 (.t 0)),
oP 2 (.mv (cI 0))] [1])
(.seq (.block 0
(.seq (.reg [oP 4 (.fieldAddr none 0 (.t 1)),
oP 5 (.load none (.t 4)),
oP 6 (.fieldAddr none 1 (.t 1)),
oP 7 (.load none (.t 6)),
oP 8 (.lit 0 1 2 [(0,(.t 5)),(1,(.t 7))]),
oP 9 (.call (.f 150) [false,false,true] [(cI 0),(cI 1000),(.t 8)]),
mV 3 9] [1,3])
(.cond (.t 3)
(.seq (.reg [oP 2 (.mv (cI 7))] [2])
.ret)
(.seq (.reg [oP 11 (.fieldAddr none 0 (.t 1)),
oP 12 (.load none (.t 11)),
oP 13 (.fieldAddr none 1 (.t 1)),
oP 14 (.load none (.t 13)),
oP 15 (.bin .gtr (.t 12) (.t 14)),
mV 10 15] [10])
(.cond (.t 10)
(.seq (.reg [oP 2 (.mv (cI 2))] [2])
.ret)
.skip)))))
(.seq (.reg [oP 2 (.mv (cI 0))] [2])
.ret)))
abbrev Fa:RsT:=[(2,none)]
theorem Wg:an Tryz.prog Tryz.f154 16 Am Fa = true:=by kernel_rfl
theorem Vz:af Tryz.prog Z1 = true:=by kernel_rfl
theorem Nh:ag Tryz.prog ⟨154,16,Am,Fa,0⟩:=⟨fun _=>⟨Vz,_,Tryz.func154,Wg⟩,fun h=>by cases h⟩
abbrev acy:FuncId:=155
def CX:AC:=
(.seq (.reg [oP 2 (.pbox 3 (.t 0)),
oP 3 (.pbox 2 (.t 1)),
oP 4 (.alloc [.int .i64 0]),
oP 5 (.alloc [.int .i64 0])] [2,3,4,5])
(.scope
(.seq (.label 0)
(.seq (.seq (.reg [oP 10 (.load (some 3) (.t 2)),
oP 11 (.load (some 2) (.t 3)),
oP 12 (.call (.f 236) [true,false] [(.t 10),(.t 11)])] [2,4,5,12])
(.block 0
(.cg (.t 12) [13] (.reg [oP 6 (.alloc [.int .i64 0, .int .i64 0]),
oN (.store 2 (.t 6) (.t 13))] [2,4,5,6])
(.block 1
(.seq (.seq (.reg [oP 14 (.load (some 3) (.t 2)),
oP 15 (.fieldAddr none 0 (.t 6)),
oP 16 (.load none (.t 15)),
oP 17 (.call (.f 237) [true,false] [(.t 14),(.t 16)]),
oP 18 (.call (.f 238) [false] [(.t 17)]),
oN (.store 1 (.t 4) (.t 18))] [2,4,5,6])
(.seq (.reg [oP 19 (.load none (.t 4)),
oP 20 (.bin .neq (.t 19) (cI 0))] [2,4,5,6,20])
(.cond (.t 20)
(.seq (.dreg [oP 21 (.load none (.t 4)),
oP 22 (.fieldAddr none 0 (.t 6)),
oP 23 (.load none (.t 22)),
oN (.store 1 (.t 4) (.t 21)),
oN (.store 1 (.t 5) (.t 23))] [4,5] [[],[],[1],[0],[0,1,2,3]])
.ret)
.skip)))
(.seq (.seq (.reg [oP 24 (.load (some 3) (.t 2)),
oP 25 (.fieldAddr none 1 (.t 6)),
oP 26 (.load none (.t 25)),
oP 27 (.call (.f 237) [true,false] [(.t 24),(.t 26)]),
oP 28 (.call (.f 238) [false] [(.t 27)]),
oP 29 (.bin .eql (.t 28) (cI 0))] [2,4,5,6,29])
(.cond (.t 29)
(.exit 1)
.skip))
(.seq (.dreg [oP 30 (.fieldAddr none 0 (.t 6)),
oP 31 (.load none (.t 30)),
oP 32 (.fieldAddr none 1 (.t 6)),
oP 33 (.load none (.t 32)),
mV 7 31,
mV 8 33] [2,4,5,7,8] [[],[0],[],[2],[0,1],[0,1,2,3,4]])
(.seq (.block 2
(.loop [2,4,5,7,8]
(.seq (.seq (.reg [mV 34 8,
mV 35 7,
oP 36 (.bin .sub (.t 34) (.t 35)),
oP 37 (.bin .gtr (.t 36) (cI 1))] [2,4,5,7,8,37])
(.cond (.t 37)
.skip
(.exit 2)))
(.block 3
(.seq (.reg [mV 38 7,
mV 39 8,
oP 40 (.bin .add (.t 38) (.t 39)),
oP 41 (.bin .quo (.t 40) (cI 2)),
mV 9 41] [2,4,5,7,8,9])
(.seq (.reg [oP 42 (.load (some 3) (.t 2)),
mV 43 9,
oP 44 (.call (.f 237) [true,false] [(.t 42),(.t 43)]),
oP 45 (.call (.f 238) [false] [(.t 44)]),
oP 46 (.bin .eql (.t 45) (cI 0))] [2,4,5,7,8,9,46])
(.cond (.t 46)
(.reg [mV 47 9,
mV 7 47] [2,4,5,7,8])
(.reg [mV 48 9,
mV 8 48] [2,4,5,7,8]))))))))
(.seq (.reg [oP 49 (.load (some 3) (.t 2)),
mV 50 8,
oP 51 (.call (.f 237) [true,false] [(.t 49),(.t 50)]),
oP 52 (.call (.f 238) [false] [(.t 51)]),
mV 53 8,
oN (.store 1 (.t 4) (.t 52)),
oN (.store 1 (.t 5) (.t 53))] [4,5])
.ret)))))))))
(.seq (.reg [oN (.store 1 (.t 4) (cI 0)),
oN (.store 1 (.t 5) (cI 0))] [4,5])
.ret)))))
abbrev Bf:RsT:=[(4,some none),(5,some none)]
theorem TH:an Tryz.prog Tryz.f155 54 CX Bf = true:=by kernel_rfl
theorem RC:af Tryz.prog acy = true:=by kernel_rfl
theorem Um:ag Tryz.prog ⟨155,54,CX,Bf,0⟩:=⟨fun _=>⟨RC,_,Tryz.func155,TH⟩,fun h=>by cases h⟩
abbrev YD:FuncId:=156
def xr:AC:=
(.seq (.reg [oP 4 (.pbox 2 (.t 0)),
oP 8 (.alloc [.nilptr]),
oP 9 (.alloc [.int .i64 0])] [1,2,3,4,8,9])
(.seq (.seq (.reg [oP 16 (.load (some 2) (.t 4)),
oP 17 (.call (.f 239) [true] [(.t 16)]),
mV 15 17,
oP 18 (.extract (.t 15) 0),
oP 19 (.extract (.t 15) 1),
oP 20 (.extract (.t 15) 2),
oN (.store 1 (.t 9) (.t 20))] [1,2,3,4,8,9])
(.seq (.reg [oP 21 (.load none (.t 9)),
oP 22 (.bin .neq (.t 21) (cI 0))] [1,2,3,4,8,9,22])
(.cond (.t 22)
(.seq (.dreg [oP 23 (.load none (.t 9)),
oN (.store 1 (.t 8) (.c .nilptr)),
oN (.store 1 (.t 9) (.t 23))] [8,9] [[],[],[0,1]])
.ret)
.skip)))
(.seq (.dfr 24 240 [(.t 8),(.t 9)] [1,2,3,4,8,9])
(.seq (.reg [oP 25 (.load (some 2) (.t 4)),
oP 26 (.build [.slice 2 [], .slice 3 [], .int .u64 0, .int .u64 0, .bool false, .bool false, .bool false, .bool false, .bool false, .bool false, .bool false, .bool false, .bool false, .bool false, .bool false, .bool false] [(0,2,(.t 25))]),
oP 27 (.box 16 (.t 26)),
oN (.store 1 (.t 8) (.t 27))] [1,2,3,4,8,9])
(.seq (.reg [mV 28 1,
oP 29 (.fieldAddr none 1 (.t 4)),
oP 30 (.load none (.t 29)),
oP 31 (.len (.t 30)),
oP 32 (.mkfunc (.func 242) [] [(.t 4)]),
oP 33 (.call (.f 241) [true,false,false] [(.t 28),(.t 31),(.t 32)])] [1,2,3,4,8,9])
(.seq (.seq (.reg [mV 34 3] [1,2,4,8,9,34])
(.cond (.t 34)
(.seq (.seq (.reg [mV 35 2,
oP 36 (.len (.t 35)),
oP 37 (.bin .eql (.t 36) (cI 0))] [1,2,4,8,9,37])
(.cond (.t 37)
(.reg [oP 38 (.mkiface 25 (cI 3)),
oN (.panic (.t 38))] [1,2,4,8,9])
.skip))
(.reg [mV 39 2,
oP 40 (.fieldAddr none 0 (.t 4)),
oP 41 (.load none (.t 40)),
oP 42 (.len (.t 41)),
oP 43 (.mkfunc (.func 243) [] [(.t 4)]),
oP 44 (.call (.f 241) [true,false,false] [(.t 39),(.t 42),(.t 43)])] [1,2,4,8,9]))
.skip))
(.seq (.seq (.reg [oP 45 (.fieldAddr none 1 (.t 4)),
oP 46 (.load none (.t 45)),
oP 47 (.len (.t 46)),
oP 48 (.mv (cI 0))] [1,2,4,8,9,47,48])
(.block 0
(.loop [1,2,4,8,9,47,48]
(.seq (.reg [oP 49 (.bin .lss (.t 48) (.t 47))] [1,2,4,8,9,47,48,49])
(.seq (.cond (.t 49)
.skip
(.exit 0))
(.seq (.block 1
(.seq (.reg [mV 50 48,
mV 10 50] [1,2,4,8,9,10,47,48])
(.dreg [oP 51 (.load none (.t 8)),
mV 52 10,
mV 53 1,
mV 54 10,
oP 55 (.call (.f 79) [true,false] [(.t 53),(.t 54)]),
oP 56 (.un .not (.t 55)),
oP 57 (.nilchk (.t 51)),
oP 58 (.fieldAddr (some 12) 4 (.t 57)),
oP 59 (.ixA 12 1 none (.t 58) (.t 52)),
oN (.store 1 (.t 59) (.t 56))] [1,2,4,8,9,47,48] [[],[],[],[],[2,3],[2,3,4],[0],[0,6],[0,1,2,3,4,5,6,7],[0,1,2,3,4,5,6,7,8]])))
(.reg [oP 60 (.bin .add (.t 48) (cI 1)),
mV 48 60] [1,2,4,8,9,47,48])))))))
(.seq (.seq (.reg [oP 61 (.fieldAddr none 0 (.t 4)),
oP 62 (.load none (.t 61)),
oP 63 (.len (.t 62)),
oP 64 (.mv (cI 0))] [2,8,9,62,63,64])
(.block 2
(.loop [2,8,9,62,63,64]
(.seq (.reg [oP 65 (.bin .lss (.t 64) (.t 63))] [2,8,9,62,63,64,65])
(.seq (.cond (.t 65)
.skip
(.exit 2))
(.seq (.block 3
(.seq (.reg [mV 66 64,
oP 67 (.ixS 2 (.t 62) (.t 64)),
oP 68 (.load (some 2) (.t 67)),
oP 12 (.alloc [.str ByteArray.empty, .bool false]),
mV 11 66,
oN (.store 2 (.t 12) (.t 68))] [2,8,9,11,12,62,63,64])
(.frz 12 true (.seq (.reg [oP 69 (.fieldAddr none 1 (.t 12)),
oP 70 (.load none (.t 69))] [2,8,9,11,62,63,64,70])
(.cond (.t 70)
(.dreg [oP 71 (.load none (.t 8)),
oP 72 (.nilchk (.t 71)),
oP 73 (.fieldAddr none 2 (.t 72)),
oP 74 (.load none (.t 73)),
mV 75 11,
oP 76 (.call (.f 244) [false] [(.t 75)]),
oP 77 (.bin .or (.t 74) (.t 76)),
oP 78 (.nilchk (.t 71)),
oP 79 (.fieldAddr none 2 (.t 78)),
oN (.store 1 (.t 79) (.t 77))] [2,8,9,62,63,64] [[],[0],[0,1],[0,1,2],[],[4],[0,1,2,3,4,5],[0,1,2,3,4,5,6],[0,1,2,3,4,5,6,7],[0,1,2,3,4,5,6,7,8]])
.skip)))))
(.reg [oP 80 (.bin .add (.t 64) (cI 1)),
mV 64 80] [2,8,9,62,63,64])))))))
(.seq (.seq (.reg [mV 81 2,
oP 82 (.len (.t 81)),
oP 83 (.mv (cI 0))] [8,9,81,82,83])
(.block 4
(.loop [8,9,81,82,83]
(.seq (.reg [oP 84 (.bin .lss (.t 83) (.t 82))] [8,9,81,82,83,84])
(.seq (.cond (.t 84)
.skip
(.exit 4))
(.seq (.block 5
(.seq (.reg [oP 85 (.ixS 1 (.t 81) (.t 83)),
oP 86 (.load none (.t 85)),
mV 14 86] [8,9,14,81,82,83])
(.dreg [oP 87 (.load none (.t 8)),
oP 88 (.nilchk (.t 87)),
oP 89 (.fieldAddr none 3 (.t 88)),
oP 90 (.load none (.t 89)),
mV 91 14,
oP 92 (.call (.f 244) [false] [(.t 91)]),
oP 93 (.bin .or (.t 90) (.t 92)),
oP 94 (.nilchk (.t 87)),
oP 95 (.fieldAddr none 3 (.t 94)),
oN (.store 1 (.t 95) (.t 93))] [8,9,81,82,83] [[],[0],[0,1],[0,1,2],[],[4],[0,1,2,3,4,5],[0,1,2,3,4,5,6],[0,1,2,3,4,5,6,7],[0,1,2,3,4,5,6,7,8]])))
(.reg [oP 96 (.bin .add (.t 83) (cI 1)),
mV 83 96] [8,9,81,82,83])))))))
(.seq (.reg [oP 97 (.load none (.t 8)),
oN (.store 1 (.t 8) (.t 97)),
oN (.store 1 (.t 9) (cI 0))] [8,9])
.ret))))))))))
abbrev FJ:RsT:=[(8,some none),(9,some none)]
theorem Y8:an Tryz.prog Tryz.f156 98 xr FJ = true:=by kernel_rfl
theorem Uy:af Tryz.prog YD = true:=by kernel_rfl
theorem Z3:ag Tryz.prog ⟨156,98,xr,FJ,2⟩:=⟨fun _=>⟨Uy,_,Tryz.func156,Y8⟩,fun h=>by cases h⟩
abbrev OQ:FuncId:=157
def E2:AC:=
(.seq (.reg [oP 2 (.pbox 1 (.t 0)),
oP 4 (.mv (.c (.bool false)))] [1,2])
(.seq (.reg [mV 5 1,
oP 6 (.mkfunc (.func 245) [] [(.t 2)]),
oP 7 (.call (.f 145) [true,false] [(.t 5),(.t 6)]),
mV 4 7] [4])
.ret))
abbrev yt:RsT:=[(4,none)]
theorem NH:an Tryz.prog Tryz.f157 8 E2 yt = true:=by kernel_rfl
theorem TT:af Tryz.prog OQ = true:=by kernel_rfl
theorem adw:ag Tryz.prog ⟨157,8,E2,yt,0⟩:=⟨fun _=>⟨TT,_,Tryz.func157,NH⟩,fun h=>by cases h⟩
abbrev Tl:FuncId:=158
def GJ:AC:=
(.seq (.reg [oP 4 (.box 2 (.t 1)),
oP 5 (.pbox 2 (.t 2)),
oP 6 (.alloc [.int .u64 0, .int .u64 0]),
oP 7 (.mv (.c (.bool false)))] [0,4,5,6])
(.seq (.seq (.dreg [mV 8 0,
oP 9 (.nilchk (.t 8)),
oP 10 (.fieldAddr none 2 (.t 9)),
oP 11 (.load none (.t 10)),
oP 12 (.fieldAddr none 0 (.t 5)),
oP 13 (.load none (.t 12)),
oP 14 (.call (.f 246) [false,false] [(.t 11),(.t 13)]),
mV 15 14,
gF 16 15 (.fieldAddr none 1 (.t 4)),
gF 17 15 (.load none (.t 16)),
gF 18 15 (.fieldAddr none 0 (.t 5)),
gF 19 15 (.load none (.t 18)),
gF 20 15 (.call (.f 246) [false,false] [(.t 17),(.t 19)]),
gF 21 15 (.fieldAddr none 1 (.t 5)),
gF 22 15 (.load none (.t 21)),
gF 23 15 (.eqb true (.t 20) (.t 22)),
oP 24 (.pick (.t 15) (.c (.bool true)) (.t 23))] [0,4,5,6,24] [[],[0],[0,1],[0,1,2],[],[4],[0,1,2,3,4,5],[0,1,2,3,4,5,6],[0,1,2,3,4,5,6,7],[0,1,2,3,4,5,6,7,8],[0,1,2,3,4,5,6,7],[0,1,2,3,4,5,6,7,10],[0,1,2,3,4,5,6,7,8,9,10,11],[0,1,2,3,4,5,6,7],[0,1,2,3,4,5,6,7,13],[0,1,2,3,4,5,6,7,8,9,10,11,12,13,14],[0,1,2,3,4,5,6,7,8,9,10,11,12,13,14,15]])
(.cond (.t 24)
(.seq (.reg [oP 25 (.load (some 2) (.t 4)),
oN (.store 2 (.t 6) (.t 25)),
oP 7 (.mv (.c (.bool false)))] [6,7])
.ret)
.skip))
(.seq (.seq (.reg [oP 26 (.fieldAddr none 1 (.t 5)),
oP 27 (.load none (.t 26))] [0,4,5,6,27])
(.cond (.t 27)
(.dreg [oP 28 (.fieldAddr none 1 (.t 4)),
oP 29 (.load none (.t 28)),
oP 30 (.fieldAddr none 0 (.t 5)),
oP 31 (.load none (.t 30)),
oP 32 (.call (.f 244) [false] [(.t 31)]),
oP 33 (.bin .andNot (.t 29) (.t 32)),
oP 34 (.fieldAddr none 1 (.t 4)),
oN (.store 1 (.t 34) (.t 33))] [0,4,6] [[],[0],[],[2],[2,3],[0,1,2,3,4],[0,1,2,3,4,5],[0,1,2,3,4,5,6]])
(.seq (.dreg [oP 35 (.fieldAddr none 1 (.t 4)),
oP 36 (.load none (.t 35)),
oP 37 (.fieldAddr none 0 (.t 5)),
oP 38 (.load none (.t 37)),
oP 39 (.call (.f 244) [false] [(.t 38)]),
oP 40 (.bin .or (.t 36) (.t 39)),
oP 41 (.fieldAddr none 1 (.t 4)),
oN (.store 1 (.t 41) (.t 40))] [0,4,5,6] [[],[0],[],[2],[2,3],[0,1,2,3,4],[0,1,2,3,4,5],[0,1,2,3,4,5,6]])
(.dreg [oP 42 (.fieldAddr none 0 (.t 4)),
oP 43 (.load none (.t 42)),
oP 44 (.fieldAddr none 0 (.t 5)),
oP 45 (.load none (.t 44)),
oP 46 (.call (.f 244) [false] [(.t 45)]),
oP 47 (.bin .or (.t 43) (.t 46)),
oP 48 (.fieldAddr none 0 (.t 4)),
oN (.store 1 (.t 48) (.t 47))] [0,4,6] [[],[0],[],[2],[2,3],[0,1,2,3,4],[0,1,2,3,4,5],[0,1,2,3,4,5,6]]))))
(.seq (.reg [mV 49 0,
oP 50 (.load (some 2) (.t 4)),
oP 51 (.call (.f 247) [false,false] [(.t 49),(.t 50)]),
oN (.store 2 (.t 6) (.t 51)),
oP 7 (.mv (.c (.bool true)))] [6,7])
.ret))))
abbrev Ep:RsT:=[(6,some (some 2)),(7,none)]
theorem Nu:an Tryz.prog Tryz.f158 52 GJ Ep = true:=by kernel_rfl
theorem Xw:af Tryz.prog Tl = true:=by kernel_rfl
theorem SM:ag Tryz.prog ⟨158,52,GJ,Ep,0⟩:=⟨fun _=>⟨Xw,_,Tryz.func158,Nu⟩,fun h=>by cases h⟩
abbrev Zo:FuncId:=159
def BP:AC:=
(.seq (.reg [oP 2 (.nilS 1 1)] [0,2])
(.seq (.seq (.reg [oP 4 (.mv (cI 0))] [0,2,4])
(.block 0
(.loop [0,2,4]
(.seq (.reg [oP 5 (.bin .lss (.t 4) (cI 7))] [0,2,4,5])
(.seq (.cond (.t 5)
.skip
(.exit 0))
(.seq (.block 1
(.seq (.reg [mV 6 4,
mV 3 6] [0,2,3,4])
(.seq (.reg [mV 7 0,
mV 8 3,
oP 9 (.call (.f 246) [false,false] [(.t 7),(.t 8)])] [0,2,3,4,9])
(.cond (.t 9)
(.reg [mV 10 2,
mV 11 3,
oP 12 (.lit 0 1 1 [(0,(.t 11))]),
oP 13 (.append 1 8 (.t 10) (.t 12)),
mV 2 13] [0,2,4])
.skip))))
(.reg [oP 14 (.bin .add (.t 4) (cI 1)),
mV 4 14] [0,2,4])))))))
(.seq (.reg [mV 15 2,
oP 2 (.mvd (.t 15))] [2])
.ret)))
abbrev DH:RsT:=[(2,none)]
theorem Nb:an Tryz.prog Tryz.f159 16 BP DH = true:=by kernel_rfl
theorem QX:af Tryz.prog Zo = true:=by kernel_rfl
theorem Pk:ag Tryz.prog ⟨159,16,BP,DH,0⟩:=⟨fun _=>⟨QX,_,Tryz.func159,Nb⟩,fun h=>by cases h⟩
abbrev UN:FuncId:=160
def Bz:AC:=
(.seq (.reg [oP 3 (.mv (.c (.bool false)))] [0,1])
(.seq (.reg [mV 4 0,
oP 5 (.bin .lss (.t 4) (cI 0)),
mV 6 5,
gF 7 6 (.mv (.t 0)),
gF 8 6 (.load none (.t 1)),
gF 9 6 (.bin .geq (.t 7) (.t 8)),
oP 10 (.pick (.t 6) (.c (.bool true)) (.t 9)),
mV 3 10] [3])
.ret))
abbrev FX:RsT:=[(3,none)]
theorem Oc:an Tryz.prog Tryz.f160 11 Bz FX = true:=by kernel_rfl
theorem Qf:af Tryz.prog UN = true:=by kernel_rfl
theorem Qb:ag Tryz.prog ⟨160,11,Bz,FX,0⟩:=⟨fun _=>⟨Qf,_,Tryz.func160,Oc⟩,fun h=>by cases h⟩
abbrev ZT:FuncId:=161
def Cd:AC:=
(.seq (.reg [oP 4 (.mv (.c (.bool false)))] [0,1,2])
(.seq (.reg [mV 5 0,
oP 6 (.load none (.t 1)),
oP 7 (.bin .lss (.t 5) (.t 6)),
mV 8 7,
gF 9 8 (.mv (.t 0)),
gF 10 8 (.load none (.t 2)),
gF 11 8 (.bin .gtr (.t 9) (.t 10)),
oP 12 (.pick (.t 8) (.c (.bool true)) (.t 11)),
mV 4 12] [4])
.ret))
abbrev xJ:RsT:=[(4,none)]
theorem Qa:an Tryz.prog Tryz.f161 13 Cd xJ = true:=by kernel_rfl
theorem P1:af Tryz.prog ZT = true:=by kernel_rfl
theorem aaM:ag Tryz.prog ⟨161,13,Cd,xJ,0⟩:=⟨fun _=>⟨P1,_,Tryz.func161,Qa⟩,fun h=>by cases h⟩
abbrev Su:FuncId:=162
def DI:AC:=
(.seq (.reg [oP 4 (.mv (cI 0)),
oP 5 (.mv (cI 0))] [0,1])
(.seq (.seq (.reg [mV 8 0,
oP 9 (.len (.t 8)),
oP 10 (.mv (cI 0))] [1,8,9,10])
(.block 0
(.loop [1,8,9,10]
(.seq (.reg [oP 11 (.bin .lss (.t 10) (.t 9))] [1,8,9,10,11])
(.seq (.cond (.t 11)
.skip
(.exit 0))
(.seq (.block 1
(.seq (.reg [mV 12 10,
oP 13 (.ixS 1 (.t 8) (.t 10)),
oP 14 (.load none (.t 13)),
mV 6 12,
mV 7 14] [1,6,7,8,9,10])
(.seq (.reg [mV 15 1,
mV 16 6,
mV 17 7,
oP 18 (.call (.t 15) [false,false] [(.t 16),(.t 17)]),
mV 5 18] [1,5,6,8,9,10])
(.seq (.reg [mV 19 5,
oP 20 (.bin .neq (.t 19) (cI 0))] [1,5,6,8,9,10,20])
(.cond (.t 20)
(.seq (.reg [mV 21 6,
mV 22 5,
mV 4 21,
mV 5 22] [4,5])
.ret)
.skip)))))
(.reg [oP 23 (.bin .add (.t 10) (cI 1)),
mV 10 23] [1,8,9,10])))))))
(.seq (.reg [oP 4 (.mv (cI 0)),
oP 5 (.mv (cI 0))] [4,5])
.ret)))
abbrev CK:RsT:=[(4,none),(5,none)]
theorem aas:an Tryz.prog Tryz.f162 24 DI CK = true:=by kernel_rfl
theorem X8:af Tryz.prog Su = true:=by kernel_rfl
theorem Ry:ag Tryz.prog ⟨162,24,DI,CK,0⟩:=⟨fun _=>⟨X8,_,Tryz.func162,aas⟩,fun h=>by cases h⟩
abbrev R2:FuncId:=163
def A5:AC:=
(.seq (.reg [oP 5 (.mv (cI 0))] [0,1,2])
(.seq (.block 0
(.seq (.reg [mV 7 1,
oP 8 (.call (.f 147) [false] [(.t 7)]),
oP 9 (.un .not (.t 8)),
mV 6 9] [0,1,2,6])
(.cond (.t 6)
(.seq (.reg [oP 5 (.mv (cI 6))] [5])
.ret)
(.seq (.reg [oP 11 (.load none (.t 2)),
mV 12 0,
oP 13 (.subq 1 (.t 11) none (some (.t 12))),
mV 14 1,
oP 15 (.call (.f 164) [true,false] [(.t 13),(.t 14)]),
mV 10 15] [10])
(.cond (.t 10)
(.seq (.reg [oP 5 (.mv (cI 5))] [5])
.ret)
.skip)))))
(.seq (.reg [oP 5 (.mv (cI 0))] [5])
.ret)))
abbrev Cz:RsT:=[(5,none)]
theorem QB:an Tryz.prog Tryz.f163 16 A5 Cz = true:=by kernel_rfl
theorem Rb:af Tryz.prog R2 = true:=by kernel_rfl
theorem NV:ag Tryz.prog ⟨163,16,A5,Cz,0⟩:=⟨fun _=>⟨Rb,_,Tryz.func163,QB⟩,fun h=>by cases h⟩
abbrev Pc:FuncId:=164
def Dz:AC:=
(.seq (.reg [oP 4 (.mv (.c (.bool false)))] [0,1])
(.seq (.reg [mV 5 0,
mV 6 1,
oP 7 (.call (.f 248) [true,false] [(.t 5),(.t 6)]),
oP 8 (.bin .geq (.t 7) (cI 0)),
mV 4 8] [4])
.ret))
abbrev Fy:RsT:=[(4,none)]
theorem aer:an Tryz.prog Tryz.f164 9 Dz Fy = true:=by kernel_rfl
theorem Yh:af Tryz.prog Pc = true:=by kernel_rfl
theorem ad7:ag Tryz.prog ⟨164,9,Dz,Fy,0⟩:=⟨fun _=>⟨Yh,_,Tryz.func164,aer⟩,fun h=>by cases h⟩
abbrev VK:FuncId:=165
def zP:AC:=
(.seq (.reg [oP 4 (.mv (cI 0)),
oP 5 (.mv (cI 0))] [0,1])
(.seq (.seq (.reg [mV 8 0,
oP 9 (.len (.t 8)),
oP 10 (.mv (cI 0))] [1,8,9,10])
(.block 0
(.loop [1,8,9,10]
(.seq (.reg [oP 11 (.bin .lss (.t 10) (.t 9))] [1,8,9,10,11])
(.seq (.cond (.t 11)
.skip
(.exit 0))
(.seq (.block 1
(.seq (.reg [mV 12 10,
oP 13 (.ixS 4 (.t 8) (.t 10)),
oP 14 (.load (some 4) (.t 13)),
oP 7 (.alloc [.int .i64 0, .int .i64 0, .int .i64 0, .int .i64 0]),
mV 6 12,
oN (.store 4 (.t 7) (.t 14))] [1,6,7,8,9,10])
(.frz 7 true (.seq (.reg [mV 15 1,
mV 16 6,
oP 17 (.load (some 4) (.t 7)),
oP 18 (.call (.t 15) [false,false] [(.t 16),(.t 17)]),
mV 5 18] [1,5,6,8,9,10])
(.seq (.reg [mV 19 5,
oP 20 (.bin .neq (.t 19) (cI 0))] [1,5,6,8,9,10,20])
(.cond (.t 20)
(.seq (.reg [mV 21 6,
mV 22 5,
mV 4 21,
mV 5 22] [4,5])
.ret)
.skip))))))
(.reg [oP 23 (.bin .add (.t 10) (cI 1)),
mV 10 23] [1,8,9,10])))))))
(.seq (.reg [oP 4 (.mv (cI 0)),
oP 5 (.mv (cI 0))] [4,5])
.ret)))
abbrev yC:RsT:=[(4,none),(5,none)]
theorem aaf:an Tryz.prog Tryz.f165 24 zP yC = true:=by kernel_rfl
theorem Oa:af Tryz.prog VK = true:=by kernel_rfl
theorem Zc:ag Tryz.prog ⟨165,24,zP,yC,0⟩:=⟨fun _=>⟨Oa,_,Tryz.func165,aaf⟩,fun h=>by cases h⟩
abbrev Sa:FuncId:=166
def Bi:AC:=
(.seq (.reg [oP 5 (.pbox 4 (.t 1)),
oP 6 (.mv (cI 0))] [2,3,5])
(.seq (.qreg [oP 7 (.load none (.t 2)),
oP 8 (.fieldAddr none 0 (.t 5)),
oP 9 (.load none (.t 8)),
oP 10 (.fieldAddr none 1 (.t 5)),
oP 11 (.load none (.t 10)),
oP 12 (.build [.int .i64 0, .int .i64 0] [(0,1,(.t 9)),(1,1,(.t 11))]),
oP 13 (.lookup false (.int .i64 0) (.t 7) (.t 12)),
oP 14 (.bin .add (.t 13) (cI 1)),
oP 15 (.ment (.int .i64 0) (.t 7) (.t 12)),
oP 16 (.extract (.t 15) 1),
oN (.estore (.t 7) (.t 16) (.t 14))] [2,3,5] [[],[],[1],[],[3],[1,2,3,4],[0,1,2,3,4,5],[0,1,2,3,4,5,6],[0,1,2,3,4,5],[0,1,2,3,4,5,8],[0,1,2,3,4,5,6,7,8,9]] [([0,1,2,3,4,5,6,7],8),([9],10)] [])
(.seq (.block 0
(.seq (.reg [oP 18 (.fieldAddr (some 5) 0 (.t 3)),
oP 19 (.fieldAddr none 0 (.t 18)),
oP 20 (.load none (.t 19)),
oP 21 (.len (.t 20)),
oP 22 (.bin .sub (.t 21) (cI 1)),
oP 23 (.fieldAddr none 0 (.t 5)),
oP 24 (.load none (.t 23)),
oP 25 (.lit 0 1 1 [(0,(.t 24))]),
oP 26 (.call (.f 92) [false,false,true] [(cI 0),(.t 22),(.t 25)]),
mV 27 26,
gF 28 27 (.fieldAddr (some 5) 0 (.t 3)),
gF 29 27 (.fieldAddr none 1 (.t 28)),
gF 30 27 (.load none (.t 29)),
gF 31 27 (.len (.t 30)),
gF 32 27 (.bin .sub (.t 31) (cI 1)),
gF 33 27 (.fieldAddr none 1 (.t 5)),
gF 34 27 (.load none (.t 33)),
gF 35 27 (.lit 0 1 1 [(0,(.t 34))]),
gF 36 27 (.call (.f 92) [false,false,true] [(cI 0),(.t 32),(.t 35)]),
oP 37 (.pick (.t 27) (.c (.bool true)) (.t 36)),
mV 17 37] [2,5,17])
(.cond (.t 17)
(.seq (.reg [oP 6 (.mv (cI 4))] [6])
.ret)
(.seq (.reg [oP 39 (.load none (.t 2)),
oP 40 (.fieldAddr none 0 (.t 5)),
oP 41 (.load none (.t 40)),
oP 42 (.fieldAddr none 1 (.t 5)),
oP 43 (.load none (.t 42)),
oP 44 (.build [.int .i64 0, .int .i64 0] [(0,1,(.t 41)),(1,1,(.t 43))]),
oP 45 (.mgetp false (.int .i64 0) (.t 39) (.t 44)),
oP 46 (.bin .gtr (.t 45) (cI 1)),
mV 38 46] [5,38])
(.cond (.t 38)
(.seq (.reg [oP 6 (.mv (cI 5))] [6])
.ret)
(.seq (.reg [oP 48 (.fieldAddr (some 2) 2 (.t 5)),
oP 49 (.fieldAddr none 0 (.t 48)),
oP 50 (.load none (.t 49)),
oP 51 (.fieldAddr (some 2) 2 (.t 5)),
oP 52 (.fieldAddr none 1 (.t 51)),
oP 53 (.load none (.t 52)),
oP 54 (.lit 0 1 2 [(0,(.t 50)),(1,(.t 53))]),
oP 55 (.call (.f 92) [false,false,true] [(cI 0),(cI 1000000),(.t 54)]),
mV 47 55] [5,47])
(.cond (.t 47)
(.seq (.reg [oP 6 (.mv (cI 7))] [6])
.ret)
(.seq (.reg [oP 57 (.fieldAddr (some 2) 2 (.t 5)),
oP 58 (.fieldAddr none 0 (.t 57)),
oP 59 (.load none (.t 58)),
oP 60 (.fieldAddr (some 2) 2 (.t 5)),
oP 61 (.fieldAddr none 1 (.t 60)),
oP 62 (.load none (.t 61)),
oP 63 (.bin .gtr (.t 59) (.t 62)),
mV 56 63] [56])
(.cond (.t 56)
(.seq (.reg [oP 6 (.mv (cI 2))] [6])
.ret)
.skip)))))))))
(.seq (.reg [oP 6 (.mv (cI 0))] [6])
.ret))))
abbrev yN:RsT:=[(6,none)]
theorem aav:an Tryz.prog Tryz.f166 64 Bi yN = true:=by kernel_rfl
theorem adn:af Tryz.prog Sa = true:=by kernel_rfl
theorem PD:ag Tryz.prog ⟨166,64,Bi,yN,0⟩:=⟨fun _=>⟨adn,_,Tryz.func166,aav⟩,fun h=>by cases h⟩
abbrev abj:FuncId:=167
def GP:AC:=
(.seq (.reg [oP 4 (.mv (.c (.bool false)))] [0,1,2])
(.seq (.reg [mV 5 0,
oP 6 (.load none (.t 1)),
oP 7 (.bin .lss (.t 5) (.t 6)),
mV 8 7,
gF 9 8 (.mv (.t 0)),
gF 10 8 (.load none (.t 2)),
gF 11 8 (.bin .gtr (.t 9) (.t 10)),
oP 12 (.pick (.t 8) (.c (.bool true)) (.t 11)),
mV 4 12] [4])
.ret))
abbrev C9:RsT:=[(4,none)]
theorem WA:an Tryz.prog Tryz.f167 13 GP C9 = true:=by kernel_rfl
theorem Se:af Tryz.prog abj = true:=by kernel_rfl
theorem WL:ag Tryz.prog ⟨167,13,GP,C9,0⟩:=⟨fun _=>⟨Se,_,Tryz.func167,WA⟩,fun h=>by cases h⟩
abbrev Ph:FuncId:=168
def wY:AC:=
(.seq (.reg [oP 4 (.mv (.c (.bool false)))] [0,1])
(.seq (.reg [mV 5 0,
mV 6 1,
oP 7 (.call (.f 249) [true,false] [(.t 5),(.t 6)]),
oP 8 (.bin .geq (.t 7) (cI 0)),
mV 4 8] [4])
.ret))
abbrev DO:RsT:=[(4,none)]
theorem Ur:an Tryz.prog Tryz.f168 9 wY DO = true:=by kernel_rfl
theorem Q2:af Tryz.prog Ph = true:=by kernel_rfl
theorem Oy:ag Tryz.prog ⟨168,9,wY,DO,0⟩:=⟨fun _=>⟨Q2,_,Tryz.func168,Ur⟩,fun h=>by cases h⟩
abbrev NU:FuncId:=169
def CV:AC:=
(.seq (.reg [oP 2 (.pbox 4 (.t 0)),
oP 3 (.mv (.c (.bool false)))] [1,2])
(.seq (.reg [oP 4 (.fieldAddr none 0 (.t 2)),
oP 5 (.load none (.t 4)),
oP 6 (.fieldAddr none 0 (.t 1)),
oP 7 (.load none (.t 6)),
oP 8 (.bin .eql (.t 5) (.t 7)),
mV 3 8] [3])
.ret))
abbrev AZ:RsT:=[(3,none)]
theorem abr:an Tryz.prog Tryz.f169 9 CV AZ = true:=by kernel_rfl
theorem Xz:af Tryz.prog NU = true:=by kernel_rfl
theorem S6:ag Tryz.prog ⟨169,9,CV,AZ,0⟩:=⟨fun _=>⟨Xz,_,Tryz.func169,abr⟩,fun h=>by cases h⟩
abbrev tW:FuncId:=170
def tP:AC:=
(.seq (.reg [oP 2 (.mv (.c (.slice 1 [])))] [0])
(.seq (.seq (.reg [mV 3 0,
oP 4 (.snil false (.t 3))] [0,4])
(.cond (.t 4)
(.seq (.reg [oP 2 (.nilS 3 1)] [2])
.ret)
.skip))
(.seq (.reg [oP 5 (.lit 1 1 0 []),
mV 6 0,
oP 7 (.append 1 16 (.t 5) (.t 6)),
mV 2 7] [2])
.ret)))
abbrev w5:RsT:=[(2,none)]
theorem No:SpF 8 tW tP w5:=SpI Tryz.func170 (by kernel_rfl)
theorem Jy:af Tryz.prog tW = true:=by kernel_rfl
theorem R0:ag Tryz.prog ⟨170,8,tP,w5,0⟩:=⟨fun _=>⟨Jy,_,Tryz.func170,by kernel_rfl⟩,fun h=>by cases h⟩
abbrev UI:FuncId:=181
def zg:AC:=
(.seq (.reg [oP 4 (.pbox 6 (.t 0)),
oP 5 (.pbox 3 (.t 1)),
oP 8 (.alloc [.int .i64 0, .int .i64 0, .int .i64 0, .int .i64 0, .int .i64 0, .slice 5 [], .int .i64 0, .int .i64 0, .int .i64 0]),
oP 9 (.mv (cI 0))] [2,3,4,5,8])
(.seq (.reg [oP 14 (.load (some 6) (.t 4)),
oP 15 (.load (some 3) (.t 5)),
oP 16 (.build [.int .i64 0, .int .i64 0, .int .i64 0, .int .i64 0, .int .i64 0, .slice 5 [], .int .i64 0, .int .i64 0, .int .i64 0] [(0,6,(.t 14)),(6,3,(.t 15))]),
oP 10 (.alloc [.int .i64 0, .int .i64 0, .int .i64 0, .int .i64 0, .int .i64 0, .slice 5 [], .int .i64 0, .int .i64 0, .int .i64 0]),
oN (.store 9 (.t 10) (.t 16))] [2,3,4,5,8,10])
(.frz 10 true (.seq (.seq (.reg [oP 18 (.load (some 6) (.t 4)),
oP 19 (.load (some 3) (.t 5)),
oP 20 (.call (.f 52) [true,false] [(.t 18),(.t 19)]),
mV 17 20,
oP 21 (.extract (.t 17) 0),
oP 22 (.extract (.t 17) 1),
oP 23 (.extract (.t 17) 2),
mV 11 21,
mV 12 22,
mV 13 23] [2,3,8,10,13])
(.seq (.reg [mV 24 13,
oP 25 (.bin .neq (.t 24) (cI 0))] [2,3,8,10,13,25])
(.cond (.t 25)
(.seq (.reg [oP 26 (.loadd (some 9) (.t 10)),
mV 27 13,
oN (.store 9 (.t 8) (.t 26)),
mV 9 27] [8,9])
.ret)
.skip)))
(.seq (.dreg [oP 28 (.load (some 9) (.t 10)),
oP 29 (.load (some 9) (.t 10)),
mV 30 2,
mV 31 3,
oP 32 (.call (.f 262) [true,false,false] [(.t 29),(.t 30),(.t 31)]),
oN (.store 9 (.t 8) (.t 28)),
mV 9 32] [8,9] [[],[],[],[],[1,2,3],[0,1,2,3,4],[0,1,2,3,4,5]])
.ret)))))
abbrev B0:RsT:=[(8,some (some 9)),(9,none)]
theorem ab1:an Tryz.prog Tryz.f181 33 zg B0 = true:=by kernel_rfl
theorem Uu:af Tryz.prog UI = true:=by kernel_rfl
theorem abD:ag Tryz.prog ⟨181,33,zg,B0,0⟩:=⟨fun _=>⟨Uu,_,Tryz.func181,ab1⟩,fun h=>by cases h⟩
abbrev QZ:FuncId:=182
def Ei:AC:=
(.seq (.reg [oP 2 (.pbox 9 (.t 0)),
oP 4 (.alloc [.int .i64 0, .int .i64 0, .int .i64 0, .int .i64 0, .int .i64 0, .int .i64 0, .int .i64 0, .int .i64 0])] [1,2,4])
(.seq (.dreg [oP 5 (.fieldAddr (some 6) 0 (.t 2)),
oP 6 (.fieldAddr (some 2) 0 (.t 5)),
oP 7 (.load (some 2) (.t 6)),
oP 8 (.fieldAddr (some 3) 6 (.t 2)),
oP 9 (.fieldAddr (some 2) 0 (.t 8)),
oP 10 (.load (some 2) (.t 9)),
oP 11 (.fieldAddr (some 6) 0 (.t 2)),
oP 12 (.fieldAddr none 5 (.t 11)),
oP 13 (.load none (.t 12)),
mV 14 1,
oP 15 (.ixS 5 (.t 13) (.t 14)),
oP 16 (.fieldAddr (some 2) 1 (.t 15)),
oP 17 (.load (some 2) (.t 16)),
oP 18 (.fieldAddr (some 6) 0 (.t 2)),
oP 19 (.fieldAddr none 5 (.t 18)),
oP 20 (.load none (.t 19)),
mV 21 1,
oP 22 (.ixS 5 (.t 20) (.t 21)),
oP 23 (.fieldAddr (some 2) 3 (.t 22)),
oP 24 (.load (some 2) (.t 23)),
oP 25 (.build [.int .i64 0, .int .i64 0, .int .i64 0, .int .i64 0, .int .i64 0, .int .i64 0, .int .i64 0, .int .i64 0] [(0,2,(.t 7)),(2,2,(.t 10)),(4,2,(.t 17)),(6,2,(.t 24))]),
oN (.store 8 (.t 4) (.t 25))] [4] [[],[0],[0,1],[],[3],[3,4],[],[6],[6,7],[],[6,7,8,9],[6,7,8,9,10],[6,7,8,9,10,11],[],[13],[13,14],[],[13,14,15,16],[13,14,15,16,17],[13,14,15,16,17,18],[0,1,2,3,4,5,6,7,8,9,10,11,12,13,14,15,16,17,18,19],[0,1,2,3,4,5,6,7,8,9,10,11,12,13,14,15,16,17,18,19,20]])
.ret))
abbrev FA:RsT:=[(4,some (some 8))]
theorem SZ:an Tryz.prog Tryz.f182 26 Ei FA = true:=by kernel_rfl
theorem WE:af Tryz.prog QZ = true:=by kernel_rfl
theorem aaC:ag Tryz.prog ⟨182,26,Ei,FA,0⟩:=⟨fun _=>⟨WE,_,Tryz.func182,SZ⟩,fun h=>by cases h⟩
abbrev QG:FuncId:=183
def B2:AC:=
(.seq (.reg [oP 3 (.pbox 9 (.t 0)),
oP 4 (.pbox 8 (.t 1)),
oP 6 (.mv (.c (.bool false)))] [2,3,4])
(.seq (.dreg [oP 8 (.load (some 8) (.t 4)),
oP 9 (.call (.f 186) [false] [(.t 8)]),
oP 10 (.load (some 9) (.t 3)),
mV 11 2,
oP 12 (.call (.f 184) [true,false,false] [(.t 10),(.t 11),(cI 0)]),
oP 13 (.call (.f 185) [false,false] [(.t 9),(.t 12)]),
oP 7 (.alloc [.int .i64 0, .int .i64 0]),
oN (.store 2 (.t 7) (.t 13))] [3,7] [[],[0],[],[],[0,1,2,3],[0,1,2,3,4],[],[0,1,2,3,4,5,6]])
(.seq (.reg [oP 14 (.fieldAddr none 0 (.t 7)),
oP 15 (.load none (.t 14)),
oP 16 (.fieldAddr (some 6) 0 (.t 3)),
oP 17 (.fieldAddr (some 2) 2 (.t 16)),
oP 18 (.fieldAddr none 0 (.t 17)),
oP 19 (.load none (.t 18)),
oP 20 (.bin .geq (.t 15) (.t 19)),
mV 21 20,
gT 22 21 (.fieldAddr none 1 (.t 7)),
gT 23 21 (.load none (.t 22)),
gT 24 21 (.fieldAddr (some 6) 0 (.t 3)),
gT 25 21 (.fieldAddr (some 2) 2 (.t 24)),
gT 26 21 (.fieldAddr none 1 (.t 25)),
gT 27 21 (.load none (.t 26)),
gT 28 21 (.bin .leq (.t 23) (.t 27)),
oP 29 (.pick (.t 21) (.t 28) (.c (.bool false))),
mV 6 29] [6])
.ret)))
abbrev Bl:RsT:=[(6,none)]
theorem PN:an Tryz.prog Tryz.f183 30 B2 Bl = true:=by kernel_rfl
theorem acd:af Tryz.prog QG = true:=by kernel_rfl
theorem Tz:ag Tryz.prog ⟨183,30,B2,Bl,0⟩:=⟨fun _=>⟨acd,_,Tryz.func183,PN⟩,fun h=>by cases h⟩
abbrev Xq:FuncId:=184
def CH:AC:=
(.seq (.reg [oP 3 (.pbox 9 (.t 0)),
oP 4 (.pbox 1 (.t 1)),
oP 5 (.pbox 1 (.t 2)),
oP 6 (.mv (.c .nilfunc))] [3,4,5])
(.seq (.reg [oP 7 (.mkfunc (.func 263) [] [(.t 5),(.t 3),(.t 4)]),
mV 6 7] [6])
.ret))
abbrev AA:RsT:=[(6,none)]
theorem QR:an Tryz.prog Tryz.f184 8 CH AA = true:=by kernel_rfl
theorem ack:af Tryz.prog Xq = true:=by kernel_rfl
theorem Qu:ag Tryz.prog ⟨184,8,CH,AA,0⟩:=⟨fun _=>⟨ack,_,Tryz.func184,QR⟩,fun h=>by cases h⟩
abbrev U0:FuncId:=185
def y4:AC:=
(.seq (.reg [oP 3 (.pbox 1 (.t 1)),
oP 4 (.alloc [.int .i64 0, .int .i64 0])] [0,3,4])
(.seq (.reg [oP 5 (.alloc [.int .i64 0, .int .i64 0])] [0,3,4,5])
(.seq (.reg [oP 6 (.alloc [.bool false]),
oN (.store 1 (.t 6) (.c (.bool true)))] [0,3,4,5,6])
(.seq (.seq (.reg [mV 9 0] [3,4,5,6,9])
(.block 0
(.cg (.t 9) [10] (.reg [oP 7 (.alloc [.int .i64 0, .int .i64 0, .int .i64 0, .int .i64 0]),
oN (.store 4 (.t 7) (.t 10))] [3,5,6,7])
(.block 1
(.seq (.reg [oP 11 (.load none (.t 3)),
oP 12 (.load (some 4) (.t 7)),
oP 13 (.call (.t 11) [false] [(.t 12)]),
mV 8 13] [5,6,8])
(.seq (.seq (.reg [oP 14 (.load none (.t 6))] [5,6,8,14])
(.cond (.t 14)
(.reg [mV 15 8,
oP 16 (.call (.f 82) [false] [(.t 15)]),
oN (.store 2 (.t 5) (.t 16)),
oN (.store 1 (.t 6) (.c (.bool false)))] [5,8])
.skip))
(.reg [oP 17 (.fieldAddr none 0 (.t 5)),
oP 18 (.load none (.t 17)),
mV 19 8,
oP 20 (.mn [(.t 18),(.t 19)]),
oP 21 (.fieldAddr none 1 (.t 5)),
oP 22 (.load none (.t 21)),
mV 23 8,
oP 24 (.mx [(.t 22),(.t 23)]),
oP 25 (.fieldAddr none 0 (.t 5)),
oN (.store 1 (.t 25) (.t 20)),
oP 26 (.fieldAddr none 1 (.t 5)),
oN (.store 1 (.t 26) (.t 24))] [])))))))
(.seq (.reg [oP 27 (.load (some 2) (.t 5)),
oN (.store 2 (.t 4) (.t 27))] [4])
.ret)))))
abbrev Cu:RsT:=[(4,some (some 2))]
theorem Tj:an Tryz.prog Tryz.f185 28 y4 Cu = true:=by kernel_rfl
theorem QC:af Tryz.prog U0 = true:=by kernel_rfl
theorem acY:ag Tryz.prog ⟨185,28,y4,Cu,0⟩:=⟨fun _=>⟨QC,_,Tryz.func185,Tj⟩,fun h=>by cases h⟩
abbrev S9:FuncId:=186
def y7:AC:=
(.seq (.reg [oP 1 (.pbox 8 (.t 0)),
oP 2 (.mv (.c .nilfunc))] [1])
(.seq (.reg [oP 3 (.mkfunc (.func 265) [] [(.t 1)]),
mV 2 3] [2])
.ret))
abbrev Aw:RsT:=[(2,none)]
theorem aa0:an Tryz.prog Tryz.f186 4 y7 Aw = true:=by kernel_rfl
theorem aeb:af Tryz.prog S9 = true:=by kernel_rfl
theorem PL:ag Tryz.prog ⟨186,4,y7,Aw,0⟩:=⟨fun _=>⟨aeb,_,Tryz.func186,aa0⟩,fun h=>by cases h⟩
abbrev T5:FuncId:=187
def Ck:AC:=
(.seq (.reg [oP 4 (.mv (.c (.bool false)))] [0,1])
(.seq (.reg [mV 5 0,
oP 6 (.call (.f 266) [false] [(.t 5)]),
mV 7 6,
gT 8 7 (.mv (.t 1)),
gT 9 7 (.call (.f 266) [false] [(.t 8)]),
gT 10 7 (.un .not (.t 9)),
oP 11 (.pick (.t 7) (.t 10) (.c (.bool false))),
mV 12 11,
gF 13 12 (.mv (.t 0)),
gF 14 12 (.mv (.t 1)),
gF 15 12 (.bin .lss (.t 13) (.t 14)),
oP 16 (.pick (.t 12) (.c (.bool true)) (.t 15)),
mV 4 16] [4])
.ret))
abbrev zz:RsT:=[(4,none)]
theorem aaD:an Tryz.prog Tryz.f187 17 Ck zz = true:=by kernel_rfl
theorem adt:af Tryz.prog T5 = true:=by kernel_rfl
theorem acO:ag Tryz.prog ⟨187,17,Ck,zz,0⟩:=⟨fun _=>⟨adt,_,Tryz.func187,aaD⟩,fun h=>by cases h⟩
abbrev Wv:FuncId:=191
def wW:AC:=
(.seq (.reg [oP 4 (.pbox 1 (.t 1)),
oP 5 (.pbox 1 (.t 2)),
oP 6 (.mv (cI 0))] [0,4,5])
(.seq (.reg [mV 8 0,
oP 9 (.mkfunc (.func 269) [] [(.t 5),(.t 4)]),
oP 10 (.call (.f 268) [true,false] [(.t 8),(.t 9)]),
mV 7 10] [7])
(.seq (.reg [mV 11 7,
oP 12 (.bin .geq (.t 11) (cI 0)),
oP 13 (.call (.f 37) [false,false] [(.t 12),(cI 4)]),
oP 14 (.lit 0 1 1 [(0,(.t 13))]),
oP 15 (.call (.f 36) [true] [(.t 14)])] [7])
(.seq (.reg [mV 16 7,
mV 6 16] [6])
.ret))))
abbrev Fs:RsT:=[(6,none)]
theorem aeU:an Tryz.prog Tryz.f191 17 wW Fs = true:=by kernel_rfl
theorem NW:af Tryz.prog Wv = true:=by kernel_rfl
theorem ac4:ag Tryz.prog ⟨191,17,wW,Fs,0⟩:=⟨fun _=>⟨NW,_,Tryz.func191,aeU⟩,fun h=>by cases h⟩
abbrev W5:FuncId:=192
def FR:AC:=
(.seq (.reg [oP 1 (.pbox 2 (.t 0)),
⟨some 2,none, .mv (.c (.str ⟨#[]⟩))⟩] [1])
(.seq (.reg [oP 3 (.fieldAddr none 0 (.t 1)),
oP 4 (.load none (.t 3)),
mV 2 4] [2])
.ret))
abbrev xa:RsT:=[(2,none)]
theorem Pe:an Tryz.prog Tryz.f192 5 FR xa = true:=by kernel_rfl
theorem aeM:af Tryz.prog W5 = true:=by kernel_rfl
theorem TD:ag Tryz.prog ⟨192,5,FR,xa,0⟩:=⟨fun _=>⟨aeM,_,Tryz.func192,Pe⟩,fun h=>by cases h⟩
abbrev tg:FuncId:=193
def ui:AC:=
(.seq (.reg [oP 2 (.mv (.c (.slice 2 [])))] [0])
(.seq (.seq (.reg [mV 3 0,
oP 4 (.snil false (.t 3))] [0,4])
(.cond (.t 4)
(.seq (.reg [oP 2 (.nilS 3 2)] [2])
.ret)
.skip))
(.seq (.reg [oP 5 (.lit 1 2 0 []),
mV 6 0,
oP 7 (.append 2 16 (.t 5) (.t 6)),
mV 2 7] [2])
.ret)))
abbrev xV:RsT:=[(2,none)]
theorem SI:SpF 8 tg ui xV:=SpI Tryz.func193 (by kernel_rfl)
theorem Jm:af Tryz.prog tg = true:=by kernel_rfl
theorem Ow:ag Tryz.prog ⟨193,8,ui,xV,0⟩:=⟨fun _=>⟨Jm,_,Tryz.func193,by kernel_rfl⟩,fun h=>by cases h⟩
abbrev acw:FuncId:=194
def EP:AC:=
(.seq (.reg [oP 4 (.mv (cI 0))] [0,1])
(.seq (.seq (.reg [mV 6 0,
oP 7 (.len (.t 6)),
oP 8 (.mv (cI 0))] [0,1,7,8])
(.block 0
(.loop [0,1,7,8]
(.seq (.reg [oP 9 (.bin .lss (.t 8) (.t 7))] [0,1,7,8,9])
(.seq (.cond (.t 9)
.skip
(.exit 0))
(.seq (.block 1
(.seq (.reg [mV 10 8,
mV 5 10] [0,1,5,7,8])
(.seq (.reg [mV 11 1,
mV 12 0,
mV 13 5,
oP 14 (.ixS 2 (.t 12) (.t 13)),
oP 15 (.load (some 2) (.t 14)),
oP 16 (.call (.t 11) [false] [(.t 15)])] [0,1,5,7,8,16])
(.cond (.t 16)
(.seq (.reg [mV 17 5,
mV 4 17] [4])
.ret)
.skip))))
(.reg [oP 18 (.bin .add (.t 8) (cI 1)),
mV 8 18] [0,1,7,8])))))))
(.seq (.reg [oP 4 (.mv (cI (-1)))] [4])
.ret)))
abbrev yL:RsT:=[(4,none)]
theorem abu:an Tryz.prog Tryz.f194 19 EP yL = true:=by kernel_rfl
theorem T3:af Tryz.prog acw = true:=by kernel_rfl
theorem YV:ag Tryz.prog ⟨194,19,EP,yL,0⟩:=⟨fun _=>⟨T3,_,Tryz.func194,abu⟩,fun h=>by cases h⟩
abbrev aeV:FuncId:=195
def De:AC:=
(.seq (.reg [oP 3 (.pbox 2 (.t 0)),
oP 4 (.mv (.c (.bool false)))] [1,2,3])
(.seq (.dreg [oP 5 (.load none (.t 1)),
oP 6 (.load (some 2) (.t 3)),
oP 7 (.call (.t 5) [false] [(.t 6)]),
oP 8 (.load none (.t 2)),
oP 9 (.bin .eql (.t 7) (.t 8)),
mV 4 9] [4] [[],[],[0,1],[],[0,1,2,3],[0,1,2,3,4]])
.ret))
abbrev A8:RsT:=[(4,none)]
theorem aa9:an Tryz.prog Tryz.f195 10 De A8 = true:=by kernel_rfl
theorem Nt:af Tryz.prog aeV = true:=by kernel_rfl
theorem TJ:ag Tryz.prog ⟨195,10,De,A8,0⟩:=⟨fun _=>⟨Nt,_,Tryz.func195,aa9⟩,fun h=>by cases h⟩
abbrev Tg:FuncId:=196
def Ac:AC:=
(.seq (.reg [oP 3 (.pbox 9 (.t 0)),
oP 6 (.alloc [.int .i64 0, .int .i64 0, .int .i64 0, .int .i64 0, .int .i64 0, .int .i64 0, .int .i64 0, .slice 2 [], .slice 2 [], .nilmap]),
oP 7 (.alloc [.int .i64 0, .int .i64 0]),
oP 8 (.mv (cI 0))] [1,2,3,6,7])
(.seq (.seq (.reg [oP 10 (.load (some 9) (.t 3)),
mV 11 1,
mV 12 2,
oP 13 (.call (.f 270) [true,true,false] [(.t 10),(.t 11),(.t 12)]),
mV 9 13,
oP 14 (.extract (.t 9) 0),
oP 15 (.extract (.t 9) 1),
oN (.store 10 (.t 6) (.t 14)),
mV 8 15] [2,6,7,8])
(.seq (.reg [mV 16 8,
oP 17 (.bin .eql (.t 16) (cI 0))] [2,6,7,8,17])
(.cond (.t 17)
(.reg [oP 19 (.load (some 10) (.t 6)),
mV 20 2,
oP 21 (.call (.f 271) [true,false] [(.t 19),(.t 20)]),
mV 18 21,
oP 22 (.extract (.t 18) 0),
oP 23 (.extract (.t 18) 1),
oN (.store 2 (.t 7) (.t 22)),
mV 8 23] [6,7,8])
.skip)))
(.seq (.dreg [oP 24 (.load (some 10) (.t 6)),
oP 25 (.load (some 2) (.t 7)),
mV 26 8,
oN (.store 10 (.t 6) (.t 24)),
oN (.store 2 (.t 7) (.t 25)),
mV 8 26] [6,7,8] [[],[],[],[0],[0,1,3],[0,1,2,3,4]])
.ret)))
abbrev BN:RsT:=[(6,some (some 10)),(7,some (some 2)),(8,none)]
theorem QJ:an Tryz.prog Tryz.f196 27 Ac BN = true:=by kernel_rfl
theorem Vv:af Tryz.prog Tg = true:=by kernel_rfl
theorem Nk:ag Tryz.prog ⟨196,27,Ac,BN,2⟩:=⟨fun _=>⟨Vv,_,Tryz.func196,QJ⟩,fun h=>by cases h⟩
abbrev adW:FuncId:=197
def B7:AC:=
(.seq (.reg [oP 4 (.mv (cI 0))] [0,1])
(.seq (.seq (.reg [mV 6 0,
oP 7 (.len (.t 6)),
oP 8 (.mv (cI 0))] [0,1,7,8])
(.block 0
(.loop [0,1,7,8]
(.seq (.reg [oP 9 (.bin .lss (.t 8) (.t 7))] [0,1,7,8,9])
(.seq (.cond (.t 9)
.skip
(.exit 0))
(.seq (.block 1
(.seq (.reg [mV 10 8,
mV 5 10] [0,1,5,7,8])
(.seq (.reg [mV 11 1,
mV 12 0,
mV 13 5,
oP 14 (.ixS 7 (.t 12) (.t 13)),
oP 15 (.load (some 7) (.t 14)),
oP 16 (.call (.t 11) [true] [(.t 15)])] [0,1,5,7,8,16])
(.cond (.t 16)
(.seq (.reg [mV 17 5,
mV 4 17] [4])
.ret)
.skip))))
(.reg [oP 18 (.bin .add (.t 8) (cI 1)),
mV 8 18] [0,1,7,8])))))))
(.seq (.reg [oP 4 (.mv (cI (-1)))] [4])
.ret)))
abbrev EC:RsT:=[(4,none)]
theorem ZQ:an Tryz.prog Tryz.f197 19 B7 EC = true:=by kernel_rfl
theorem N9:af Tryz.prog adW = true:=by kernel_rfl
theorem RT:ag Tryz.prog ⟨197,19,B7,EC,0⟩:=⟨fun _=>⟨N9,_,Tryz.func197,ZQ⟩,fun h=>by cases h⟩
abbrev Xh:FuncId:=198
def CM:AC:=
(.seq (.reg [oP 3 (.pbox 7 (.t 0)),
oP 4 (.mv (.c (.bool false)))] [1,2,3])
(.seq (.dreg [oP 5 (.load none (.t 1)),
oP 6 (.load (some 7) (.t 3)),
oP 7 (.call (.t 5) [true] [(.t 6)]),
oP 8 (.load none (.t 2)),
oP 9 (.bin .eql (.t 7) (.t 8)),
mV 4 9] [4] [[],[],[0,1],[],[0,1,2,3],[0,1,2,3,4]])
.ret))
abbrev Cb:RsT:=[(4,none)]
theorem aab:an Tryz.prog Tryz.f198 10 CM Cb = true:=by kernel_rfl
theorem V0:af Tryz.prog Xh = true:=by kernel_rfl
theorem Vs:ag Tryz.prog ⟨198,10,CM,Cb,0⟩:=⟨fun _=>⟨V0,_,Tryz.func198,aab⟩,fun h=>by cases h⟩
abbrev RH:FuncId:=199
def Cj:AC:=
(.seq (.reg [oP 4 (.pbox 10 (.t 0)),
oP 5 (.pbox 1 (.t 1)),
oP 6 (.box 2 (.t 2)),
oP 7 (.pbox 1 (.t 3)),
oP 8 (.mv (.c .nilfunc))] [4,5,6,7])
(.seq (.reg [oP 9 (.mkfunc (.func 272) [] [(.t 5),(.t 7),(.t 6),(.t 4)]),
mV 8 9] [8])
.ret))
abbrev Dh:RsT:=[(8,none)]
theorem SV:an Tryz.prog Tryz.f199 10 Cj Dh = true:=by kernel_rfl
theorem O2:af Tryz.prog RH = true:=by kernel_rfl
theorem X9:ag Tryz.prog ⟨199,10,Cj,Dh,0⟩:=⟨fun _=>⟨O2,_,Tryz.func199,SV⟩,fun h=>by cases h⟩
abbrev Qg:FuncId:=200
def CG:AC:=
(.seq (.reg [oP 2 (.pbox 11 (.t 0)),
oP 4 (.mv (.c .nilptr)),
oP 5 (.mv (cI 0))] [1,2])
(.seq (.reg [oP 9 (.load (some 11) (.t 2)),
oP 10 (.call (.f 278) [true] [(.t 9)]),
mV 8 10,
oP 11 (.extract (.t 8) 0),
oP 12 (.extract (.t 8) 1),
mV 6 11,
mV 7 12] [1,6,7])
(.seq (.seq (.reg [mV 13 7,
oP 14 (.bin .eql (.t 13) (cI 0)),
mV 15 14,
gT 16 15 (.mv (.t 6)),
gT 17 15 (.nilchk (.t 16)),
gT 18 15 (.fieldAddr none 11 (.t 17)),
gT 19 15 (.load none (.t 18)),
gT 20 15 (.len (.t 19)),
gT 21 15 (.mv (.t 1)),
gT 22 15 (.call (.f 91) [false,true] [(.t 20),(.t 21)]),
oP 23 (.pick (.t 15) (.t 22) (.c (.bool false)))] [6,7,23])
(.cond (.t 23)
(.reg [oP 7 (.mv (cI 4))] [6,7])
.skip))
(.seq (.reg [mV 24 6,
mV 25 7,
mV 4 24,
mV 5 25] [4,5])
.ret))))
abbrev B1:RsT:=[(4,none),(5,none)]
theorem Pt:an Tryz.prog Tryz.f200 26 CG B1 = true:=by kernel_rfl
theorem QY:af Tryz.prog Qg = true:=by kernel_rfl
theorem Pq:ag Tryz.prog ⟨200,26,CG,B1,2⟩:=⟨fun _=>⟨QY,_,Tryz.func200,Pt⟩,fun h=>by cases h⟩
abbrev aa3:FuncId:=201
def yp:AC:=
(.seq (.reg [oP 4 (.mv (cI 0)),
oP 5 (.mv (cI 0)),
oP 6 (.mv (cI 0))] [0,1])
(.seq (.reg [mV 10 0,
oP 11 (.call (.f 279) [false] [(.t 10)]),
mV 6 11] [0,1,6])
(.seq (.seq (.reg [mV 12 1,
oP 13 (.len (.t 12)),
oP 14 (.mv (cI 0))] [0,6,12,13,14])
(.block 0
(.loop [0,6,12,13,14]
(.seq (.reg [oP 15 (.bin .lss (.t 14) (.t 13))] [0,6,12,13,14,15])
(.seq (.cond (.t 15)
.skip
(.exit 0))
(.seq (.block 1
(.seq (.reg [mV 16 14,
oP 17 (.ixS 1 (.t 12) (.t 14)),
oP 18 (.load none (.t 17)),
mV 7 16,
mV 8 18] [0,6,7,8,12,13,14])
(.seq (.seq (.reg [mV 19 0,
mV 20 6,
mV 21 8,
oP 22 (.call (.f 280) [false,false,false] [(.t 19),(.t 20),(.t 21)]),
mV 9 22] [0,6,7,8,9,12,13,14])
(.seq (.reg [mV 23 9,
oP 24 (.bin .neq (.t 23) (cI 0))] [0,6,7,8,9,12,13,14,24])
(.cond (.t 24)
(.seq (.reg [mV 25 7,
mV 26 9,
mV 27 6,
mV 4 25,
mV 5 26,
mV 6 27] [4,5,6])
.ret)
.skip)))
(.reg [mV 28 6,
mV 29 8,
oP 30 (.bin .shl (cI 1) (.t 29)),
oP 31 (.bin .andNot (.t 28) (.t 30)),
mV 6 31] [0,6,12,13,14]))))
(.reg [oP 32 (.bin .add (.t 14) (cI 1)),
mV 14 32] [0,6,12,13,14])))))))
(.seq (.reg [mV 33 6,
oP 4 (.mv (cI (-1))),
oP 5 (.mv (cI 0)),
mV 6 33] [4,5,6])
.ret))))
abbrev EN:RsT:=[(4,none),(5,none),(6,none)]
theorem V2:an Tryz.prog Tryz.f201 34 yp EN = true:=by kernel_rfl
theorem acj:af Tryz.prog aa3 = true:=by kernel_rfl
theorem Q0:ag Tryz.prog ⟨201,34,yp,EN,0⟩:=⟨fun _=>⟨acj,_,Tryz.func201,V2⟩,fun h=>by cases h⟩
abbrev Vw:FuncId:=202
def zf:AC:=
(.seq (.reg [oP 4 (.mv (.c (.bool false)))] [0,1,2])
(.seq (.dreg [oP 5 (.load none (.t 1)),
mV 6 0,
oP 7 (.call (.t 5) [false] [(.t 6)]),
oP 8 (.load none (.t 2)),
oP 9 (.bin .eql (.t 7) (.t 8)),
mV 4 9] [4] [[],[],[0,1],[],[0,1,2,3],[0,1,2,3,4]])
.ret))
abbrev FL:RsT:=[(4,none)]
theorem abO:an Tryz.prog Tryz.f202 10 zf FL = true:=by kernel_rfl
theorem Sf:af Tryz.prog Vw = true:=by kernel_rfl
theorem W7:ag Tryz.prog ⟨202,10,zf,FL,0⟩:=⟨fun _=>⟨Sf,_,Tryz.func202,abO⟩,fun h=>by cases h⟩
abbrev YB:FuncId:=203
def xG:AC:=
(.seq (.reg [oP 2 (.pbox 11 (.t 0)),
oP 4 (.mv (.c .nilptr)),
oP 5 (.mv (cI 0)),
oP 6 (.mv (cI 0))] [1,2])
(.seq (.reg [oP 13 (.load (some 11) (.t 2)),
mV 14 1,
oP 15 (.call (.f 200) [true,true] [(.t 13),(.t 14)]),
mV 12 15,
oP 16 (.extract (.t 12) 0),
oP 17 (.extract (.t 12) 1),
mV 7 16,
mV 8 17] [1,7,8])
(.seq (.seq (.reg [mV 18 8,
oP 19 (.bin .neq (.t 18) (cI 0))] [1,7,8,19])
(.cond (.t 19)
(.seq (.reg [mV 20 8,
oP 4 (.mv (.c .nilptr)),
oP 5 (.mv (cI 0)),
mV 6 20] [4,5,6])
.ret)
.skip))
(.seq (.reg [mV 22 7,
mV 23 1,
oP 24 (.call (.f 201) [false,true] [(.t 22),(.t 23)]),
mV 21 24,
oP 25 (.extract (.t 21) 0),
oP 26 (.extract (.t 21) 1),
oP 27 (.extract (.t 21) 2),
mV 9 25,
mV 10 26,
mV 11 27] [7,9,11])
(.seq (.seq (.reg [mV 28 9,
oP 29 (.bin .geq (.t 28) (cI 0))] [7,11,29])
(.cond (.t 29)
(.seq (.reg [oP 4 (.mv (.c .nilptr)),
oP 5 (.mv (cI 0)),
oP 6 (.mv (cI 9))] [4,5,6])
.ret)
.skip))
(.seq (.reg [mV 30 7,
mV 31 11,
mV 4 30,
mV 5 31,
oP 6 (.mv (cI 0))] [4,5,6])
.ret))))))
abbrev Fl:RsT:=[(4,none),(5,none),(6,none)]
theorem P0:an Tryz.prog Tryz.f203 32 xG Fl = true:=by kernel_rfl
theorem acF:af Tryz.prog YB = true:=by kernel_rfl
theorem PA:ag Tryz.prog ⟨203,32,xG,Fl,2⟩:=⟨fun _=>⟨acF,_,Tryz.func203,P0⟩,fun h=>by cases h⟩
abbrev U2:FuncId:=204
def Cw:AC:=
(.seq (.reg [oP 3 (.pbox 1 (.t 1)),
oP 4 (.alloc [.mint 1])] [0,3,4])
(.seq (.seq (.reg [mV 7 0] [3,4,7])
(.block 0
(.cg (.t 7) [8,9] (.seq (.reg [mV 5 8] [3,4,5,9])
(.reg [mV 6 9] [3,4,5,6]))
(.block 1
(.seq (.reg [oP 10 (.load none (.t 3)),
mV 11 6,
oP 12 (.call (.t 10) [false] [(.t 11)])] [4,5,12])
(.cond (.t 12)
(.reg [oP 13 (.load none (.t 4)),
mV 14 5,
oP 15 (.lit 0 1 1 [(0,(.t 14))]),
oP 16 (.append 1 8 (.t 13) (.t 15)),
oN (.store 1 (.t 4) (.t 16))] [])
.skip))))))
(.seq (.reg [oP 17 (.loadd none (.t 4)),
oN (.store 1 (.t 4) (.t 17))] [4])
.ret)))
abbrev xj:RsT:=[(4,some none)]
theorem XS:an Tryz.prog Tryz.f204 18 Cw xj = true:=by kernel_rfl
theorem P9:af Tryz.prog U2 = true:=by kernel_rfl
theorem NX:ag Tryz.prog ⟨204,18,Cw,xj,0⟩:=⟨fun _=>⟨P9,_,Tryz.func204,XS⟩,fun h=>by cases h⟩
abbrev aeC:FuncId:=205
def Gn:AC:=
(.seq (.reg [oP 2 (.pbox 1 (.t 0)),
oP 3 (.pbox 1 (.t 1)),
oP 4 (.mv (.c .nilfunc))] [2,3])
(.seq (.reg [oP 5 (.mkfunc (.func 281) [] [(.t 3),(.t 2)]),
mV 4 5] [4])
.ret))
abbrev DX:RsT:=[(4,none)]
theorem aal:an Tryz.prog Tryz.f205 6 Gn DX = true:=by kernel_rfl
theorem acI:af Tryz.prog aeC = true:=by kernel_rfl
theorem aaa:ag Tryz.prog ⟨205,6,Gn,DX,0⟩:=⟨fun _=>⟨acI,_,Tryz.func205,aal⟩,fun h=>by cases h⟩
abbrev Qp:FuncId:=206
def Fg:AC:=
(.seq (.reg [oP 2 (.mv (.c (.bool false)))] [])
(.seq (.reg [oP 2 (.mv (.c (.bool true)))] [2])
.ret))
abbrev Ec:RsT:=[(2,none)]
theorem Py:an Tryz.prog Tryz.f206 3 Fg Ec = true:=by kernel_rfl
theorem V7:af Tryz.prog Qp = true:=by kernel_rfl
theorem Vi:ag Tryz.prog ⟨206,3,Fg,Ec,0⟩:=⟨fun _=>⟨V7,_,Tryz.func206,Py⟩,fun h=>by cases h⟩
abbrev NA:FuncId:=207
def CA:AC:=
(.seq (.reg [oP 1 (.pbox 5 (.t 0)),
oP 2 (.alloc [.slice 1 [], .slice 1 [], .slice 4 [], .slice 5 [], .slice 4 []]),
oP 3 (.mv (cI 0))] [1,2])
(.seq (.reg [oP 7 (.load (some 5) (.t 1)),
oP 8 (.call (.f 283) [true,true] [(.t 7),(.c (.slice 1 []))]),
mV 6 8,
oP 9 (.extract (.t 6) 0),
oP 10 (.extract (.t 6) 1),
oP 4 (.alloc [.slice 1 [], .slice 1 [], .slice 4 [], .slice 5 [], .slice 4 []]),
oN (.store 5 (.t 4) (.t 9)),
mV 5 10] [2,4,5])
(.frz 4 true (.seq (.seq (.qreg [mV 11 5,
oP 12 (.bin .eql (.t 11) (cI 0)),
mV 13 12,
gT 14 13 (.load (some 5) (.t 4)),
gT 15 13 (.load (some 5) (.t 4)),
gT 16 13 (.call (.f 284) [true,false] [(.t 15),(cI (-1))]),
gT 17 13 (.call (.f 209) [true,true] [(.t 14),(.t 16)]),
gT 18 13 (.un .not (.t 17)),
oP 19 (.pick (.t 13) (.t 18) (.c (.bool false)))] [2,4,5,19] [[],[0],[0,1],[0,1,2],[0,1,2],[0,1,2,4],[0,1,2,3,4,5],[0,1,2,3,4,5,6],[0,1,2,3,4,5,6,7]] [([0,1,2,3,4],5),([],6)] [7,8])
(.cond (.t 19)
(.reg [oP 5 (.mv (cI 9))] [2,4,5])
.skip))
(.seq (.reg [oP 20 (.loadd (some 5) (.t 4)),
mV 21 5,
oN (.store 5 (.t 2) (.t 20)),
mV 3 21] [2,3])
.ret)))))
abbrev w0:RsT:=[(2,some (some 5)),(3,none)]
theorem ab7:an Tryz.prog Tryz.f207 22 CA w0 = true:=by kernel_rfl
theorem SW:af Tryz.prog NA = true:=by kernel_rfl
theorem Ys:ag Tryz.prog ⟨207,22,CA,w0,0⟩:=⟨fun _=>⟨SW,_,Tryz.func207,ab7⟩,fun h=>by cases h⟩
abbrev ZI:FuncId:=208
def C6:AC:=
(.seq (.reg [oP 1 (.pbox 5 (.t 0)),
oP 2 (.mv (.c .nilfunc))] [1])
(.seq (.reg [oP 3 (.mkfunc (.func 285) [] [(.t 1)]),
mV 2 3] [2])
.ret))
abbrev BE:RsT:=[(2,none)]
theorem Qi:an Tryz.prog Tryz.f208 4 C6 BE = true:=by kernel_rfl
theorem TV:af Tryz.prog ZI = true:=by kernel_rfl
theorem X6:ag Tryz.prog ⟨208,4,C6,BE,0⟩:=⟨fun _=>⟨TV,_,Tryz.func208,Qi⟩,fun h=>by cases h⟩
abbrev adO:FuncId:=209
def FO:AC:=
(.seq (.reg [oP 2 (.pbox 5 (.t 0)),
oP 4 (.mv (.c (.bool false)))] [1,2])
(.seq (.seq (.reg [oP 6 (.load (some 5) (.t 2)),
mV 7 1,
oP 8 (.call (.f 287) [true,true] [(.t 6),(.t 7)]),
oP 9 (.bin .geq (.t 8) (cI 0))] [1,2,9])
(.cond (.t 9)
(.seq (.reg [oP 4 (.mv (.c (.bool false)))] [4])
.ret)
.skip))
(.seq (.seq (.reg [oP 10 (.fieldAddr (some 5) 0 (.t 2)),
oP 11 (.fieldAddr none 0 (.t 10)),
oP 12 (.load none (.t 11)),
oP 13 (.len (.t 12)),
oP 14 (.mv (cI 0))] [1,2,13,14])
(.block 0
(.loop [1,2,13,14]
(.seq (.reg [oP 15 (.bin .lss (.t 14) (.t 13))] [1,2,13,14,15])
(.seq (.cond (.t 15)
.skip
(.exit 0))
(.seq (.block 1
(.seq (.reg [mV 16 14,
mV 5 16] [1,2,5,13,14])
(.seq (.reg [oP 17 (.load (some 5) (.t 2)),
mV 18 5,
mV 19 1,
oP 20 (.call (.f 288) [true,false,true] [(.t 17),(.t 18),(.t 19)]),
oP 21 (.call (.f 289) [false] [(.t 20)]),
oP 22 (.un .not (.t 21))] [1,2,13,14,22])
(.cond (.t 22)
(.seq (.reg [oP 4 (.mv (.c (.bool false)))] [4])
.ret)
.skip))))
(.reg [oP 23 (.bin .add (.t 14) (cI 1)),
mV 14 23] [1,2,13,14])))))))
(.seq (.reg [oP 4 (.mv (.c (.bool true)))] [4])
.ret))))
abbrev zO:RsT:=[(4,none)]
theorem NO:an Tryz.prog Tryz.f209 24 FO zO = true:=by kernel_rfl
theorem PB:af Tryz.prog adO = true:=by kernel_rfl
theorem ae4:ag Tryz.prog ⟨209,24,FO,zO,0⟩:=⟨fun _=>⟨PB,_,Tryz.func209,NO⟩,fun h=>by cases h⟩
abbrev SE:FuncId:=210
def Gk:AC:=
(.seq (.reg [oP 1 (.pbox 3 (.t 0)),
oP 2 (.alloc [.int .i64 0, .int .i64 0, .slice 4 [], .mint 3]),
oP 3 (.mv (cI 0))] [1,2])
(.seq (.seq (.reg [oP 7 (.load (some 3) (.t 1)),
oP 8 (.call (.f 57) [true] [(.t 7)]),
mV 6 8,
oP 9 (.extract (.t 6) 0),
oP 10 (.extract (.t 6) 1),
oP 11 (.extract (.t 6) 2),
mV 3 11] [1,2,3])
(.seq (.reg [mV 12 3,
oP 13 (.bin .neq (.t 12) (cI 0))] [1,2,3,13])
(.cond (.t 13)
(.seq (.reg [oP 14 (.loadd (some 4) (.t 2)),
mV 15 3,
oN (.store 4 (.t 2) (.t 14)),
mV 3 15] [2,3])
.ret)
.skip)))
(.seq (.reg [oP 16 (.load (some 3) (.t 1)),
oP 17 (.fieldAddr (some 3) 0 (.t 2)),
oN (.store 3 (.t 17) (.t 16))] [1,2])
(.seq (.seq (.reg [oP 18 (.fieldAddr none 2 (.t 1)),
oP 19 (.load none (.t 18)),
oP 20 (.len (.t 19)),
oP 21 (.mv (cI 0))] [2,19,20,21])
(.block 0
(.loop [2,19,20,21]
(.seq (.reg [oP 22 (.bin .lss (.t 21) (.t 20))] [2,19,20,21,22])
(.seq (.cond (.t 22)
.skip
(.exit 0))
(.seq (.block 1
(.seq (.reg [oP 23 (.ixS 4 (.t 19) (.t 21)),
oP 24 (.load (some 4) (.t 23)),
oP 5 (.alloc [.str ByteArray.empty, .int .i64 0, .int .i64 0, .int .i64 0]),
oN (.store 4 (.t 5) (.t 24))] [2,5,19,20,21])
(.frz 5 true (.reg [oP 25 (.fieldAddr none 3 (.t 2)),
oP 26 (.load none (.t 25)),
oP 27 (.fieldAddr none 1 (.t 5)),
oP 28 (.load none (.t 27)),
oP 29 (.fieldAddr (some 2) 2 (.t 5)),
oP 30 (.load (some 2) (.t 29)),
oP 31 (.build [.int .i64 0, .int .i64 0, .int .i64 0] [(0,1,(.t 28)),(1,2,(.t 30))]),
oP 32 (.lit 0 3 1 [(0,(.t 31))]),
oP 33 (.append 3 24 (.t 26) (.t 32)),
oP 34 (.fieldAddr none 3 (.t 2)),
oN (.store 1 (.t 34) (.t 33))] [2,19,20,21]))))
(.reg [oP 35 (.bin .add (.t 21) (cI 1)),
mV 21 35] [2,19,20,21])))))))
(.seq (.reg [oP 36 (.loadd (some 4) (.t 2)),
oN (.store 4 (.t 2) (.t 36)),
oP 3 (.mv (cI 0))] [2,3])
.ret)))))
abbrev Be:RsT:=[(2,some (some 4)),(3,none)]
theorem Ut:an Tryz.prog Tryz.f210 37 Gk Be = true:=by kernel_rfl
theorem Xv:af Tryz.prog SE = true:=by kernel_rfl
theorem Rz:ag Tryz.prog ⟨210,37,Gk,Be,0⟩:=⟨fun _=>⟨Xv,_,Tryz.func210,Ut⟩,fun h=>by cases h⟩
abbrev Qm:FuncId:=211
def DE:AC:=
(.seq (.reg [oP 5 (.pbox 1 (.t 0)),
oP 7 (.pbox 1 (.t 2)),
oP 8 (.pbox 1 (.t 3)),
oP 9 (.mv (cI 0))] [1,4,5,7,8])
(.seq (.reg [oP 13 (.load (some 4) (.t 4)),
oP 14 (.mkfunc (.func 214) [] [(.t 5),(.t 7),(.t 8)]),
oP 15 (.call (.f 213) [true,false] [(.t 13),(.t 14)]),
mV 16 1,
oP 17 (.call (.f 212) [true,false] [(.t 15),(.t 16)]),
mV 12 17,
oP 18 (.extract (.t 12) 0),
oP 19 (.extract (.t 12) 1),
mV 10 18,
mV 11 19] [5,10])
(.seq (.reg [mV 20 10,
oP 21 (.load none (.t 5)),
oP 22 (.ixS 1 (.t 20) (.t 21)),
oP 23 (.load none (.t 22)),
mV 9 23] [9])
.ret)))
abbrev Gs:RsT:=[(9,none)]
theorem Rj:an Tryz.prog Tryz.f211 24 DE Gs = true:=by kernel_rfl
theorem Wn:af Tryz.prog Qm = true:=by kernel_rfl
theorem Pd:ag Tryz.prog ⟨211,24,DE,Gs,0⟩:=⟨fun _=>⟨Wn,_,Tryz.func211,Rj⟩,fun h=>by cases h⟩
abbrev abw:FuncId:=212
def EB:AC:=
(.seq (.reg [oP 4 (.mv (.c (.slice 1 []))),
oP 5 (.mv (cI 0))] [0,1])
(.scope
(.seq (.reg [mV 12 0,
oP 13 (.call (.f 290) [true,false,false] [(.t 12),(.f 291),(.f 215)]),
oP 6 (.alloc [.int .i64 0, .int .i64 0, .int .i64 0, .int .i64 0, .int .i64 0, .int .i64 0]),
oN (.store 6 (.t 6) (.t 13))] [0,1,6])
(.frz 6 true (.seq (.reg [mV 14 1,
mV 7 14] [0,1,6,7])
(.seq (.reg [mV 15 1,
mV 5 15] [0,5,6,7])
(.seq (.reg [mV 16 0,
oP 17 (.len (.t 16)),
oP 18 (.mksl 2 1 8 (.int .i64 0) (.t 17) (.t 17)),
oP 4 (.mvd (.t 18))] [0,4,5,6,7])
(.seq (.label 0)
(.seq (.seq (.reg [oP 19 (.load (some 6) (.t 6)),
oP 20 (.mv (cI 0))] [0,4,5,7,19,20])
(.block 0
(.loop [0,4,5,7,19,20]
(.seq (.reg [oP 21 (.bin .lss (.t 20) (cI 6))] [0,4,5,7,19,20,21])
(.seq (.cond (.t 21)
.skip
(.exit 0))
(.seq (.block 1
(.seq (.reg [mV 22 20,
oP 23 (.ixV 6 1 none (.t 19) (.t 20)),
mV 8 22,
mV 9 23] [0,4,5,7,8,9,19,20])
(.seq (.seq (.reg [mV 24 0,
oP 25 (.len (.t 24)),
oP 26 (.mv (cI 0))] [0,4,5,7,8,9,19,20,24,25,26])
(.block 2
(.loop [0,4,5,7,8,9,19,20,24,25,26]
(.seq (.reg [oP 27 (.bin .lss (.t 26) (.t 25))] [0,4,5,7,8,9,19,20,24,25,26,27])
(.seq (.cond (.t 27)
.skip
(.exit 2))
(.seq (.block 3
(.seq (.reg [mV 28 26,
oP 29 (.ixS 3 (.t 24) (.t 26)),
oP 30 (.load (some 3) (.t 29)),
oP 11 (.alloc [.int .i64 0, .int .i64 0, .int .i64 0]),
mV 10 28,
oN (.store 3 (.t 11) (.t 30))] [0,4,5,7,8,9,10,11,19,20,24,25,26])
(.frz 11 true (.seq (.block 4
(.seq (.reg [oP 42 (.fieldAddr none 0 (.t 11)),
oP 43 (.load none (.t 42)),
mV 44 8,
oP 45 (.bin .neq (.t 43) (.t 44)),
mV 41 45] [0,4,5,7,8,9,10,11,19,20,24,25,26,41])
(.cond (.t 41)
(.exit 3)
(.seq (.reg [mV 47 7,
mV 48 9,
oP 49 (.bin .geq (.t 47) (.t 48)),
mV 46 49] [0,4,5,7,8,9,10,11,19,20,24,25,26,46])
(.cond (.t 46)
(.reg [mV 50 4,
mV 51 10,
oP 52 (.fieldAddr (some 2) 1 (.t 11)),
oP 53 (.fieldAddr none 0 (.t 52)),
oP 54 (.load none (.t 53)),
oP 55 (.ixS 1 (.t 50) (.t 51)),
oN (.store 1 (.t 55) (.t 54))] [0,4,5,7,8,9,10,19,20,24,25,26])
(.reg [mV 31 4,
mV 32 10,
mV 33 7,
oP 34 (.fieldAddr (some 2) 1 (.t 11)),
oP 35 (.fieldAddr none 0 (.t 34)),
oP 36 (.load none (.t 35)),
oP 37 (.bin .mul (.t 33) (.t 36)),
mV 38 9,
oP 39 (.bin .quo (.t 37) (.t 38)),
oP 40 (.ixS 1 (.t 31) (.t 32)),
oN (.store 1 (.t 40) (.t 39))] [0,4,5,7,8,9,10,19,20,24,25,26]))))))
(.reg [mV 56 5,
mV 57 4,
mV 58 10,
oP 59 (.ixS 1 (.t 57) (.t 58)),
oP 60 (.load none (.t 59)),
oP 61 (.bin .sub (.t 56) (.t 60)),
mV 5 61] [0,4,5,7,8,9,19,20,24,25,26])))))
(.reg [oP 62 (.bin .add (.t 26) (cI 1)),
mV 26 62] [0,4,5,7,8,9,19,20,24,25,26])))))))
(.seq (.seq (.reg [mV 63 7,
mV 64 9,
oP 65 (.bin .lss (.t 63) (.t 64))] [0,4,5,7,9,19,20,65])
(.cond (.t 65)
(.exit 0)
.skip))
(.reg [mV 66 7,
mV 67 9,
oP 68 (.bin .sub (.t 66) (.t 67)),
mV 7 68] [0,4,5,7,19,20])))))
(.reg [oP 69 (.bin .add (.t 20) (cI 1)),
mV 20 69] [0,4,5,7,19,20])))))))
(.seq (.reg [oP 70 (.freeze 1 (.t 4)),
mV 71 5,
oP 4 (.mvd (.t 70)),
mV 5 71] [4,5])
.ret))))))))))
abbrev EU:RsT:=[(4,none),(5,none)]
theorem acG:an Tryz.prog Tryz.f212 72 EB EU = true:=by kernel_rfl
theorem RY:af Tryz.prog abw = true:=by kernel_rfl
theorem WM:ag Tryz.prog ⟨212,72,EB,EU,0⟩:=⟨fun _=>⟨RY,_,Tryz.func212,acG⟩,fun h=>by cases h⟩
abbrev SR:FuncId:=213
def y6:AC:=
(.seq (.reg [oP 2 (.pbox 4 (.t 0)),
oP 4 (.mv (.c (.slice 3 [])))] [1,2])
(.seq (.reg [oP 8 (.fieldAddr none 3 (.t 2)),
oP 9 (.load none (.t 8)),
oP 10 (.call (.f 292) [true] [(.t 9)]),
mV 5 10] [1,5])
(.seq (.seq (.reg [mV 11 5,
oP 12 (.len (.t 11)),
oP 13 (.mv (cI 0))] [1,5,11,12,13])
(.block 0
(.loop [1,5,11,12,13]
(.seq (.reg [oP 14 (.bin .lss (.t 13) (.t 12))] [1,5,11,12,13,14])
(.seq (.cond (.t 14)
.skip
(.exit 0))
(.seq (.block 1
(.seq (.reg [mV 15 13,
oP 16 (.ixS 3 (.t 11) (.t 13)),
oP 17 (.load (some 3) (.t 16)),
oP 7 (.alloc [.int .i64 0, .int .i64 0, .int .i64 0]),
mV 6 15,
oN (.store 3 (.t 7) (.t 17))] [1,5,6,7,11,12,13])
(.frz 7 true (.reg [mV 18 5,
mV 19 6,
mV 20 1,
mV 21 6,
oP 22 (.load (some 3) (.t 7)),
oP 23 (.call (.t 20) [false,false] [(.t 21),(.t 22)]),
oP 24 (.call (.f 293) [false] [(.t 23)]),
oP 25 (.ixS 3 (.t 18) (.t 19)),
oP 26 (.fieldAddr (some 2) 1 (.t 25)),
oN (.store 2 (.t 26) (.t 24))] [1,5,11,12,13]))))
(.reg [oP 27 (.bin .add (.t 13) (cI 1)),
mV 13 27] [1,5,11,12,13])))))))
(.seq (.reg [oP 28 (.freeze 3 (.t 5)),
oP 4 (.mvd (.t 28))] [4])
.ret))))
abbrev AT:RsT:=[(4,none)]
theorem Qj:an Tryz.prog Tryz.f213 29 y6 AT = true:=by kernel_rfl
theorem UC:af Tryz.prog SR = true:=by kernel_rfl
theorem adK:ag Tryz.prog ⟨213,29,y6,AT,0⟩:=⟨fun _=>⟨UC,_,Tryz.func213,Qj⟩,fun h=>by cases h⟩
abbrev NJ:FuncId:=214
def Em:AC:=
(.seq (.reg [oP 6 (.pbox 3 (.t 1)),
oP 7 (.mv (cI 0))] [0,2,3,4,6])
(.seq (.seq (.reg [mV 8 0,
oP 9 (.load none (.t 2)),
oP 10 (.bin .eql (.t 8) (.t 9))] [3,4,6,10])
(.cond (.t 10)
(.seq (.reg [oP 11 (.load none (.t 3)),
oP 12 (.load (some 3) (.t 6)),
oP 13 (.call (.t 11) [false] [(.t 12)]),
mV 7 13] [7])
.ret)
.skip))
(.seq (.reg [oP 14 (.load none (.t 4)),
oP 15 (.load (some 3) (.t 6)),
oP 16 (.call (.t 14) [false] [(.t 15)]),
mV 7 16] [7])
.ret)))
abbrev A2:RsT:=[(7,none)]
theorem W3:an Tryz.prog Tryz.f214 17 Em A2 = true:=by kernel_rfl
theorem aa8:af Tryz.prog NJ = true:=by kernel_rfl
theorem adP:ag Tryz.prog ⟨214,17,Em,A2,0⟩:=⟨fun _=>⟨aa8,_,Tryz.func214,W3⟩,fun h=>by cases h⟩
abbrev NL:FuncId:=215
def xw:AC:=
(.seq (.reg [oP 1 (.pbox 3 (.t 0)),
oP 2 (.mv (cI 0))] [1])
(.seq (.reg [oP 3 (.fieldAddr (some 2) 1 (.t 1)),
oP 4 (.fieldAddr none 0 (.t 3)),
oP 5 (.load none (.t 4)),
mV 2 5] [2])
.ret))
abbrev Bk:RsT:=[(2,none)]
theorem R4:an Tryz.prog Tryz.f215 6 xw Bk = true:=by kernel_rfl
theorem U1:af Tryz.prog NL = true:=by kernel_rfl
theorem Ti:ag Tryz.prog ⟨215,6,xw,Bk,0⟩:=⟨fun _=>⟨U1,_,Tryz.func215,R4⟩,fun h=>by cases h⟩
abbrev OP:FuncId:=216
def F6:AC:=
(.seq (.reg [oP 1 (.pbox 3 (.t 0)),
oP 2 (.mv (cI 0))] [1])
(.seq (.reg [oP 3 (.fieldAddr (some 2) 1 (.t 1)),
oP 4 (.fieldAddr none 1 (.t 3)),
oP 5 (.load none (.t 4)),
mV 2 5] [2])
.ret))
abbrev DF:RsT:=[(2,none)]
theorem abL:an Tryz.prog Tryz.f216 6 F6 DF = true:=by kernel_rfl
theorem Rt:af Tryz.prog OP = true:=by kernel_rfl
theorem Zk:ag Tryz.prog ⟨216,6,F6,DF,0⟩:=⟨fun _=>⟨Rt,_,Tryz.func216,abL⟩,fun h=>by cases h⟩
abbrev acW:FuncId:=217
def C2:AC:=
(.seq (.reg [oP 3 (.pbox 1 (.t 1)),
oP 4 (.mv (cI 0))] [0,3])
(.seq (.reg [mV 5 0,
oP 6 (.nilchk (.t 5)),
oP 7 (.fieldAddr (some 1) 0 (.t 6)),
oP 8 (.fieldAddr none 0 (.t 7)),
oP 9 (.load none (.t 8)),
oP 10 (.mkfunc (.func 294) [] [(.t 3)]),
oP 11 (.call (.f 197) [true,false] [(.t 9),(.t 10)]),
mV 4 11] [4])
.ret))
abbrev Ag:RsT:=[(4,none)]
theorem abk:an Tryz.prog Tryz.f217 12 C2 Ag = true:=by kernel_rfl
theorem aeY:af Tryz.prog acW = true:=by kernel_rfl
theorem NN:ag Tryz.prog ⟨217,12,C2,Ag,0⟩:=⟨fun _=>⟨aeY,_,Tryz.func217,abk⟩,fun h=>by cases h⟩
abbrev Td:FuncId:=218
def xk:AC:=
(.seq (.reg [oP 4 (.mv (.c (.bool false)))] [0,1])
(.seq (.reg [mV 5 0,
mV 6 1,
oP 7 (.call (.f 197) [true,false] [(.t 5),(.t 6)]),
oP 8 (.bin .geq (.t 7) (cI 0)),
mV 4 8] [4])
.ret))
abbrev zU:RsT:=[(4,none)]
theorem NM:an Tryz.prog Tryz.f218 9 xk zU = true:=by kernel_rfl
theorem OI:af Tryz.prog Td = true:=by kernel_rfl
theorem OT:ag Tryz.prog ⟨218,9,xk,zU,0⟩:=⟨fun _=>⟨OI,_,Tryz.func218,NM⟩,fun h=>by cases h⟩
abbrev QT:FuncId:=219
def BY:AC:=
(.seq (.reg [oP 2 (.pbox 7 (.t 0)),
oP 3 (.mv (.c (.bool false)))] [1,2])
(.seq (.reg [oP 4 (.fieldAddr none 0 (.t 2)),
oP 5 (.load none (.t 4)),
oP 6 (.fieldAddr none 0 (.t 1)),
oP 7 (.load none (.t 6)),
oP 8 (.bin .eql (.t 5) (.t 7)),
mV 3 8] [3])
.ret))
abbrev zl:RsT:=[(3,none)]
theorem acN:an Tryz.prog Tryz.f219 9 BY zl = true:=by kernel_rfl
theorem Ru:af Tryz.prog QT = true:=by kernel_rfl
theorem acZ:ag Tryz.prog ⟨219,9,BY,zl,0⟩:=⟨fun _=>⟨Ru,_,Tryz.func219,acN⟩,fun h=>by cases h⟩
abbrev Sh:FuncId:=220
def yQ:AC:=
(.seq (.reg [oP 3 (.mv (.c (.bool false)))] [0,1])
(.seq (.reg [mV 4 0,
oP 5 (.call (.f 217) [true,false] [(.t 1),(.t 4)]),
oP 6 (.bin .lss (.t 5) (cI 0)),
mV 3 6] [3])
.ret))
abbrev zY:RsT:=[(3,none)]
theorem acE:an Tryz.prog Tryz.f220 7 yQ zY = true:=by kernel_rfl
theorem YG:af Tryz.prog Sh = true:=by kernel_rfl
theorem T8:ag Tryz.prog ⟨220,7,yQ,zY,0⟩:=⟨fun _=>⟨YG,_,Tryz.func220,acE⟩,fun h=>by cases h⟩
abbrev XM:FuncId:=221
def Bn:AC:=
(.seq (.reg [oP 2 (.mv (.c (.bool false)))] [0])
(.seq (.seq (.reg [mV 5 0,
oP 6 (.len (.t 5)),
oP 7 (.mv (cI 0))] [0,5,6,7])
(.block 0
(.loop [0,5,6,7]
(.seq (.reg [oP 8 (.bin .lss (.t 7) (.t 6))] [0,5,6,7,8])
(.seq (.cond (.t 8)
.skip
(.exit 0))
(.seq (.block 1
(.seq (.reg [mV 9 7,
oP 10 (.ixS 1 (.t 5) (.t 7)),
oP 11 (.load none (.t 10)),
mV 3 9,
mV 4 11] [0,3,4,5,6,7])
(.seq (.reg [mV 12 0,
mV 13 3,
oP 14 (.subq 1 (.t 12) none (some (.t 13))),
mV 15 4,
oP 16 (.call (.f 164) [true,false] [(.t 14),(.t 15)])] [0,5,6,7,16])
(.cond (.t 16)
(.seq (.reg [oP 2 (.mv (.c (.bool true)))] [2])
.ret)
.skip))))
(.reg [oP 17 (.bin .add (.t 7) (cI 1)),
mV 7 17] [0,5,6,7])))))))
(.seq (.reg [oP 2 (.mv (.c (.bool false)))] [2])
.ret)))
abbrev Ff:RsT:=[(2,none)]
theorem Vf:an Tryz.prog Tryz.f221 18 Bn Ff = true:=by kernel_rfl
theorem Yp:af Tryz.prog XM = true:=by kernel_rfl
theorem adT:ag Tryz.prog ⟨221,18,Bn,Ff,0⟩:=⟨fun _=>⟨Yp,_,Tryz.func221,Vf⟩,fun h=>by cases h⟩
abbrev NK:FuncId:=222
def yJ:AC:=
(.seq (.reg [oP 4 (.mv (.c (.bool false)))] [0,1,2])
(.seq (.qreg [oP 5 (.load (some 7) (.t 1)),
oP 6 (.fieldAddr (some 1) 0 (.t 2)),
oP 7 (.fieldAddr none 0 (.t 6)),
oP 8 (.load none (.t 7)),
mV 9 0,
oP 10 (.call (.f 217) [true,false] [(.t 2),(.t 9)]),
oP 11 (.ixS 7 (.t 8) (.t 10)),
oP 12 (.load (some 7) (.t 11)),
oP 13 (.call (.f 223) [true,true] [(.t 5),(.t 12)]),
oP 14 (.un .not (.t 13)),
mV 4 14] [4] [[],[],[1],[1,2],[],[4],[1,2,3,4,5],[1,2,3,4,5,6],[0,1,2,3,4,5,6,7],[0,1,2,3,4,5,6,7,8],[0,1,2,3,4,5,6,7,8,9]] [([0,1,2,3,4],5),([6,7],8)] [9,10])
.ret))
abbrev DN:RsT:=[(4,none)]
theorem adx:an Tryz.prog Tryz.f222 15 yJ DN = true:=by kernel_rfl
theorem Xa:af Tryz.prog NK = true:=by kernel_rfl
theorem aaz:ag Tryz.prog ⟨222,15,yJ,DN,0⟩:=⟨fun _=>⟨Xa,_,Tryz.func222,adx⟩,fun h=>by cases h⟩
abbrev W1:FuncId:=223
def F1:AC:=
(.seq (.reg [oP 2 (.pbox 7 (.t 0)),
oP 3 (.pbox 7 (.t 1)),
oP 4 (.mv (.c (.bool false)))] [2,3])
(.seq (.reg [oP 5 (.fieldAddr none 2 (.t 2)),
oP 6 (.load none (.t 5)),
oP 7 (.fieldAddr none 3 (.t 3)),
oP 8 (.load none (.t 7)),
oP 9 (.bin .leq (.t 6) (.t 8)),
mV 10 9,
gT 11 10 (.fieldAddr none 2 (.t 3)),
gT 12 10 (.load none (.t 11)),
gT 13 10 (.fieldAddr none 3 (.t 2)),
gT 14 10 (.load none (.t 13)),
gT 15 10 (.bin .leq (.t 12) (.t 14)),
oP 16 (.pick (.t 10) (.t 15) (.c (.bool false))),
mV 4 16] [4])
.ret))
abbrev Dk:RsT:=[(4,none)]
theorem abA:an Tryz.prog Tryz.f223 17 F1 Dk = true:=by kernel_rfl
theorem adl:af Tryz.prog W1 = true:=by kernel_rfl
theorem ZM:ag Tryz.prog ⟨223,17,F1,Dk,0⟩:=⟨fun _=>⟨adl,_,Tryz.func223,abA⟩,fun h=>by cases h⟩
abbrev Ni:FuncId:=224
def Gf:AC:=
(.seq (.reg [oP 1 (.pbox 10 (.t 0)),
oP 2 (.mv (.c (.bool false)))] [1])
(.seq (.reg [oP 3 (.fieldAddr none 2 (.t 1)),
oP 4 (.load none (.t 3)),
⟨some 5,none, .bin .eql (.t 4) (.c (.str ⟨#[]⟩))⟩,
mV 2 5] [2])
.ret))
abbrev BH:RsT:=[(2,none)]
theorem aa1:an Tryz.prog Tryz.f224 6 Gf BH = true:=by kernel_rfl
theorem Tb:af Tryz.prog Ni = true:=by kernel_rfl
theorem Xc:ag Tryz.prog ⟨224,6,Gf,BH,0⟩:=⟨fun _=>⟨Tb,_,Tryz.func224,aa1⟩,fun h=>by cases h⟩
abbrev adk:FuncId:=225
def AX:AC:=
(.seq (.reg [oP 3 (.pbox 10 (.t 1)),
oP 4 (.mv (cI 0))] [0,3])
(.seq (.seq (.reg [mV 6 0,
oP 7 (.nilchk (.t 6)),
oP 8 (.fieldAddr (some 1) 0 (.t 7)),
oP 9 (.fieldAddr none 0 (.t 8)),
oP 10 (.load none (.t 9)),
oP 11 (.len (.t 10)),
oP 12 (.bin .geq (.t 11) (cI 12))] [0,3,12])
(.cond (.t 12)
(.seq (.reg [oP 4 (.mv (cI 3))] [4])
.ret)
.skip))
(.seq (.seq (.qreg [mV 13 0,
oP 14 (.fieldAddr (some 7) 3 (.t 3)),
oP 15 (.load (some 7) (.t 14)),
mV 16 0,
oP 17 (.nilchk (.t 16)),
oP 18 (.fieldAddr (some 1) 0 (.t 17)),
oP 19 (.fieldAddr none 0 (.t 18)),
oP 20 (.load none (.t 19)),
oP 21 (.len (.t 20)),
oP 22 (.call (.f 139) [false,true,false,true] [(.t 13),(.t 15),(.t 21),(.c (.slice 7 []))]),
mV 5 22] [0,3,5] [[],[],[1],[],[3],[3,4],[3,4,5],[3,4,5,6],[3,4,5,6,7],[0,1,2,3,4,5,6,7,8],[0,1,2,3,4,5,6,7,8,9]] [([0,1,2,3,4,5,6,7,8],9)] [10])
(.seq (.reg [mV 23 5,
oP 24 (.bin .neq (.t 23) (cI 0))] [0,3,5,24])
(.cond (.t 24)
(.seq (.reg [mV 25 5,
mV 4 25] [4])
.ret)
.skip)))
(.seq (.dreg [mV 26 0,
mV 27 0,
oP 28 (.nilchk (.t 27)),
oP 29 (.fieldAddr (some 1) 0 (.t 28)),
oP 30 (.fieldAddr none 0 (.t 29)),
oP 31 (.load none (.t 30)),
oP 32 (.callA 7 (.f 295) [true] [(.t 31)]),
oP 33 (.fieldAddr (some 7) 3 (.t 3)),
oP 34 (.load (some 7) (.t 33)),
oP 35 (.lit 0 7 1 [(0,(.t 34))]),
oP 36 (.append 7 80 (.t 32) (.t 35)),
oP 37 (.nilchk (.t 26)),
oP 38 (.fieldAddr (some 1) 0 (.t 37)),
oP 39 (.fieldAddr none 0 (.t 38)),
oN (.store 1 (.t 39) (.t 36))] [0] [[],[],[1],[1,2],[1,2,3],[1,2,3,4],[1,2,3,4,5],[],[7],[7,8],[1,2,3,4,5,6,7,8,9],[0,1,2,3,4,5,6,7,8,9,10],[0,1,2,3,4,5,6,7,8,9,10,11],[0,1,2,3,4,5,6,7,8,9,10,11,12],[0,1,2,3,4,5,6,7,8,9,10,11,12,13]])
(.gG 0 0 7 (.seq (.reg [oP 4 (.mv (cI 0))] [4])
.ret))))))
abbrev zW:RsT:=[(4,none)]
theorem U9:an Tryz.prog Tryz.f225 40 AX zW = true:=by kernel_rfl
theorem Ny:af Tryz.prog adk = true:=by kernel_rfl
theorem Oh:ag Tryz.prog ⟨225,40,AX,zW,0⟩:=⟨fun _=>⟨Ny,_,Tryz.func225,U9⟩,fun h=>by cases h⟩
abbrev WK:FuncId:=226
def DJ:AC:=
(.seq (.reg [oP 1 (.pbox 10 (.t 0)),
oP 2 (.mv (.c (.bool false)))] [1])
(.seq (.reg [oP 3 (.fieldAddr (some 7) 3 (.t 1)),
oP 4 (.load (some 7) (.t 3)),
oP 5 (.call (.f 227) [true] [(.t 4)]),
oP 6 (.build [.str ByteArray.empty, .int .i64 0, .int .i64 0, .int .i64 0, .int .i64 0, .int .i64 0] []),
oP 7 (.eqa false [.s, .i, .i, .i, .i, .i] (.t 5) (.t 6)),
mV 8 7,
gT 9 8 (.fieldAddr (some 7) 3 (.t 1)),
gT 10 8 (.fieldAddr none 4 (.t 9)),
gT 11 8 (.load none (.t 10)),
gT 12 8 (.len (.t 11)),
gT 13 8 (.bin .eql (.t 12) (cI 0)),
oP 14 (.pick (.t 8) (.t 13) (.c (.bool false))),
mV 2 14] [2])
.ret))
abbrev BT:RsT:=[(2,none)]
theorem S3:an Tryz.prog Tryz.f226 15 DJ BT = true:=by kernel_rfl
theorem Sd:af Tryz.prog WK = true:=by kernel_rfl
theorem adF:ag Tryz.prog ⟨226,15,DJ,BT,0⟩:=⟨fun _=>⟨Sd,_,Tryz.func226,S3⟩,fun h=>by cases h⟩
abbrev PT:FuncId:=227
def zc:AC:=
(.seq (.reg [oP 1 (.pbox 7 (.t 0)),
oP 2 (.alloc [.str ByteArray.empty, .int .i64 0, .int .i64 0, .int .i64 0, .int .i64 0, .int .i64 0])] [1,2])
(.seq (.reg [oP 3 (.fieldAddr none 0 (.t 1)),
oP 4 (.load none (.t 3)),
oP 5 (.fieldAddr none 1 (.t 1)),
oP 6 (.load none (.t 5)),
oP 7 (.fieldAddr none 2 (.t 1)),
oP 8 (.load none (.t 7)),
oP 9 (.fieldAddr none 3 (.t 1)),
oP 10 (.load none (.t 9)),
oP 11 (.fieldAddr (some 2) 5 (.t 1)),
oP 12 (.load (some 2) (.t 11)),
oP 13 (.build [.str ByteArray.empty, .int .i64 0, .int .i64 0, .int .i64 0, .int .i64 0, .int .i64 0] [(0,1,(.t 4)),(1,1,(.t 6)),(2,1,(.t 8)),(3,1,(.t 10)),(4,2,(.t 12))]),
oN (.store 6 (.t 2) (.t 13))] [2])
.ret))
abbrev Eb:RsT:=[(2,some (some 6))]
theorem V3:an Tryz.prog Tryz.f227 14 zc Eb = true:=by kernel_rfl
theorem Y0:af Tryz.prog PT = true:=by kernel_rfl
theorem ZL:ag Tryz.prog ⟨227,14,zc,Eb,0⟩:=⟨fun _=>⟨Y0,_,Tryz.func227,V3⟩,fun h=>by cases h⟩
abbrev ace:FuncId:=228
def EF:AC:=
(.seq (.reg [oP 3 (.pbox 10 (.t 1)),
oP 4 (.mv (cI 0))] [0,3])
(.seq (.reg [mV 6 0,
oP 7 (.fieldAddr none 2 (.t 3)),
oP 8 (.load none (.t 7)),
oP 9 (.call (.f 217) [false,false] [(.t 6),(.t 8)]),
mV 5 9] [0,3,5])
(.seq (.block 0
(.seq (.reg [mV 11 5,
oP 12 (.bin .lss (.t 11) (cI 0)),
mV 10 12] [0,3,5,10])
(.cond (.t 10)
(.seq (.reg [oP 4 (.mv (cI 4))] [4])
.ret)
(.seq (.reg [mV 14 0,
oP 15 (.nilchk (.t 14)),
oP 16 (.fieldAddr (some 1) 0 (.t 15)),
oP 17 (.fieldAddr none 0 (.t 16)),
oP 18 (.load none (.t 17)),
oP 19 (.mkfunc (.func 296) [] [(.t 3)]),
oP 20 (.call (.f 218) [true,false] [(.t 18),(.t 19)]),
mV 13 20] [0,5,13])
(.cond (.t 13)
(.seq (.reg [oP 4 (.mv (cI 9))] [4])
.ret)
.skip)))))
(.seq (.reg [mV 21 0,
mV 22 0,
oP 23 (.nilchk (.t 22)),
oP 24 (.fieldAddr (some 1) 0 (.t 23)),
oP 25 (.fieldAddr none 0 (.t 24)),
oP 26 (.load none (.t 25)),
oP 27 (.call (.f 295) [true] [(.t 26)]),
mV 28 5,
mV 29 5,
oP 30 (.bin .add (.t 29) (cI 1)),
oP 31 (.call (.f 298) [true,false,false] [(.t 27),(.t 28),(.t 30)]),
oP 32 (.nilchk (.t 21)),
oP 33 (.fieldAddr (some 1) 0 (.t 32)),
oP 34 (.fieldAddr none 0 (.t 33)),
oN (.store 1 (.t 34) (.t 31))] [0])
(.gG 0 0 7 (.seq (.reg [oP 4 (.mv (cI 0))] [4])
.ret))))))
abbrev xM:RsT:=[(4,none)]
theorem ZZ:an Tryz.prog Tryz.f228 35 EF xM = true:=by kernel_rfl
theorem Uz:af Tryz.prog ace = true:=by kernel_rfl
theorem aeS:ag Tryz.prog ⟨228,35,EF,xM,0⟩:=⟨fun _=>⟨Uz,_,Tryz.func228,ZZ⟩,fun h=>by cases h⟩
abbrev adZ:FuncId:=229
def Dj:AC:=
(.seq (.reg [oP 1 (.pbox 10 (.t 0)),
oP 2 (.mv (.c (.bool false)))] [])
(.seq (.reg [oP 2 (.mv (.c (.bool true)))] [2])
.ret))
abbrev Cp:RsT:=[(2,none)]
theorem Tr:an Tryz.prog Tryz.f229 3 Dj Cp = true:=by kernel_rfl
theorem Z2:af Tryz.prog adZ = true:=by kernel_rfl
theorem Qk:ag Tryz.prog ⟨229,3,Dj,Cp,0⟩:=⟨fun _=>⟨Z2,_,Tryz.func229,Tr⟩,fun h=>by cases h⟩
abbrev XG:FuncId:=230
def Ds:AC:=
(.seq (.reg [oP 3 (.pbox 10 (.t 1)),
oP 4 (.mv (cI 0))] [0,3])
(.seq (.reg [mV 11 0,
oP 12 (.fieldAddr none 2 (.t 3)),
oP 13 (.load none (.t 12)),
oP 14 (.call (.f 217) [false,false] [(.t 11),(.t 13)]),
mV 5 14] [0,3,5])
(.seq (.seq (.reg [mV 15 5,
oP 16 (.bin .lss (.t 15) (cI 0))] [0,3,5,16])
(.cond (.t 16)
(.seq (.reg [oP 4 (.mv (cI 4))] [4])
.ret)
.skip))
(.seq (.seq (.qreg [mV 17 0,
oP 18 (.fieldAddr (some 7) 3 (.t 3)),
oP 19 (.load (some 7) (.t 18)),
mV 20 5,
mV 21 0,
oP 22 (.nilchk (.t 21)),
oP 23 (.fieldAddr (some 1) 0 (.t 22)),
oP 24 (.fieldAddr none 0 (.t 23)),
oP 25 (.load none (.t 24)),
mV 26 5,
oP 27 (.bin .add (.t 26) (cI 1)),
oP 28 (.subq 7 (.t 25) (some (.t 27)) none),
oP 29 (.call (.f 139) [false,true,false,true] [(.t 17),(.t 19),(.t 20),(.t 28)]),
mV 6 29] [0,3,5,6] [[],[],[1],[],[],[4],[4,5],[4,5,6],[4,5,6,7],[],[9],[4,5,6,7,8,9,10],[0,1,2,3,4,5,6,7,8,9,10,11],[0,1,2,3,4,5,6,7,8,9,10,11,12]] [([0,1,2,3,4,5,6,7,8,9,10,11],12)] [13])
(.seq (.reg [mV 30 6,
oP 31 (.bin .neq (.t 30) (cI 0))] [0,3,5,6,31])
(.cond (.t 31)
(.seq (.reg [mV 32 6,
mV 4 32] [4])
.ret)
.skip)))
(.seq (.reg [mV 33 0,
oP 34 (.nilchk (.t 33)),
oP 35 (.fieldAddr (some 1) 0 (.t 34)),
oP 36 (.fieldAddr none 0 (.t 35)),
oP 37 (.load none (.t 36)),
oP 38 (.call (.f 295) [true] [(.t 37)]),
mV 7 38] [0,3,5,7])
(.seq (.reg [mV 39 7,
mV 40 5,
oP 41 (.fieldAddr (some 7) 3 (.t 3)),
oP 42 (.load (some 7) (.t 41)),
oP 43 (.ixS 7 (.t 39) (.t 40)),
oN (.store 7 (.t 43) (.t 42))] [0,3,5,7])
(.seq (.seq (.reg [mV 44 7,
mV 45 5,
oP 46 (.bin .add (.t 45) (cI 1)),
oP 47 (.sub 0 7 (.t 44) (some (.t 46)) none none),
oP 48 (.len (.t 47)),
oP 49 (.mv (cI 0))] [0,3,5,7,48,49])
(.block 0
(.loop [0,3,5,7,48,49]
(.seq (.reg [oP 50 (.bin .lss (.t 49) (.t 48))] [0,3,5,7,48,49,50])
(.seq (.cond (.t 50)
.skip
(.exit 0))
(.seq (.block 1
(.seq (.reg [mV 51 49,
mV 8 51] [0,3,5,7,8,48,49])
(.seq (.reg [mV 52 7,
mV 53 5,
oP 54 (.bin .add (.t 53) (cI 1)),
mV 55 8,
oP 56 (.bin .add (.t 54) (.t 55)),
oP 57 (.ixS 7 (.t 52) (.t 56)),
mV 9 57] [0,3,5,7,9,48,49])
(.seq (.dreg [mV 58 9,
oP 59 (.nilchk (.t 58)),
oP 60 (.fieldAddr none 4 (.t 59)),
oP 61 (.load none (.t 60)),
oP 62 (.fieldAddr none 2 (.t 3)),
oP 63 (.load none (.t 62)),
oP 64 (.call (.f 248) [true,false] [(.t 61),(.t 63)]),
mV 10 64] [0,3,5,7,9,10,48,49] [[],[0],[0,1],[0,1,2],[],[4],[0,1,2,3,4,5],[0,1,2,3,4,5,6]])
(.seq (.seq (.reg [mV 65 10,
oP 66 (.bin .lss (.t 65) (cI 0))] [0,3,5,7,9,10,48,49,66])
(.cond (.t 66)
(.exit 1)
.skip))
(.seq (.seq (.dreg [mV 67 9,
oP 68 (.nilchk (.t 67)),
oP 69 (.load (some 7) (.t 68)),
oP 70 (.fieldAddr (some 7) 3 (.t 3)),
oP 71 (.load (some 7) (.t 70)),
oP 72 (.call (.f 223) [true,true] [(.t 69),(.t 71)]),
oP 73 (.un .not (.t 72))] [0,3,5,7,9,10,48,49,73] [[],[0],[0,1],[],[3],[0,1,2,3,4],[0,1,2,3,4,5]])
(.cond (.t 73)
(.seq (.reg [oP 4 (.mv (cI 9))] [4])
.ret)
.skip))
(.seq (.reg [mV 74 9,
mV 75 9,
oP 76 (.nilchk (.t 75)),
oP 77 (.fieldAddr none 4 (.t 76)),
oP 78 (.load none (.t 77)),
oP 79 (.call (.f 170) [true] [(.t 78)]),
oP 80 (.nilchk (.t 74)),
oP 81 (.fieldAddr none 4 (.t 80)),
oN (.store 1 (.t 81) (.t 79))] [0,3,5,7,9,10,48,49])
(.dreg [mV 82 9,
oP 83 (.nilchk (.t 82)),
oP 84 (.fieldAddr none 4 (.t 83)),
oP 85 (.load none (.t 84)),
mV 86 10,
oP 87 (.fieldAddr (some 7) 3 (.t 3)),
oP 88 (.fieldAddr none 0 (.t 87)),
oP 89 (.load none (.t 88)),
oP 90 (.ixS 1 (.t 85) (.t 86)),
oN (.store 1 (.t 90) (.t 89))] [0,3,5,7,9,48,49] [[],[0],[0,1],[0,1,2],[],[],[5],[5,6],[0,1,2,3,4,5,6,7],[0,1,2,3,4,5,6,7,8]]))))))))
(.gG 9 4 1 (.reg [oP 91 (.bin .add (.t 49) (cI 1)),
mV 49 91] [0,3,5,7,48,49]))))))))
(.seq (.reg [mV 92 0,
mV 93 7,
oP 94 (.nilchk (.t 92)),
oP 95 (.fieldAddr (some 1) 0 (.t 94)),
oP 96 (.fieldAddr none 0 (.t 95)),
oN (.store 1 (.t 96) (.t 93))] [0])
(.gG 0 0 7 (.seq (.reg [oP 4 (.mv (cI 0))] [4])
.ret))))))))))
abbrev Df:RsT:=[(4,none)]
theorem TF:an Tryz.prog Tryz.f230 97 Ds Df = true:=by kernel_rfl
theorem Yd:af Tryz.prog XG = true:=by kernel_rfl
theorem ad4:ag Tryz.prog ⟨230,97,Ds,Df,0⟩:=⟨fun _=>⟨Yd,_,Tryz.func230,TF⟩,fun h=>by cases h⟩
abbrev NY:FuncId:=231
def FH:AC:=
(.seq (.reg [oP 4 (.mv (.c (.bool false)))] [0,1,2])
(.seq (.reg [mV 5 0,
oP 6 (.load none (.t 1)),
oP 7 (.bin .lss (.t 5) (.t 6)),
mV 8 7,
gF 9 8 (.mv (.t 0)),
gF 10 8 (.load none (.t 2)),
gF 11 8 (.bin .gtr (.t 9) (.t 10)),
oP 12 (.pick (.t 8) (.c (.bool true)) (.t 11)),
mV 4 12] [4])
.ret))
abbrev zI:RsT:=[(4,none)]
theorem XK:an Tryz.prog Tryz.f231 13 FH zI = true:=by kernel_rfl
theorem aeu:af Tryz.prog NY = true:=by kernel_rfl
theorem WZ:ag Tryz.prog ⟨231,13,FH,zI,0⟩:=⟨fun _=>⟨aeu,_,Tryz.func231,XK⟩,fun h=>by cases h⟩
abbrev WY:FuncId:=232
def Gy:AC:=
(.seq (.reg [oP 4 (.mv (cI 0))] [0,1])
(.seq (.seq (.reg [mV 6 0,
oP 7 (.len (.t 6)),
oP 8 (.mv (cI 0))] [0,1,7,8])
(.block 0
(.loop [0,1,7,8]
(.seq (.reg [oP 9 (.bin .lss (.t 8) (.t 7))] [0,1,7,8,9])
(.seq (.cond (.t 9)
.skip
(.exit 0))
(.seq (.block 1
(.seq (.reg [mV 10 8,
mV 5 10] [0,1,5,7,8])
(.seq (.reg [mV 11 1,
mV 12 0,
mV 13 5,
oP 14 (.ixS 4 (.t 12) (.t 13)),
oP 15 (.load (some 4) (.t 14)),
oP 16 (.call (.t 11) [false] [(.t 15)])] [0,1,5,7,8,16])
(.cond (.t 16)
(.seq (.reg [mV 17 5,
mV 4 17] [4])
.ret)
.skip))))
(.reg [oP 18 (.bin .add (.t 8) (cI 1)),
mV 8 18] [0,1,7,8])))))))
(.seq (.reg [oP 4 (.mv (cI (-1)))] [4])
.ret)))
abbrev Al:RsT:=[(4,none)]
theorem abH:an Tryz.prog Tryz.f232 19 Gy Al = true:=by kernel_rfl
theorem UB:af Tryz.prog WY = true:=by kernel_rfl
theorem PZ:ag Tryz.prog ⟨232,19,Gy,Al,0⟩:=⟨fun _=>⟨UB,_,Tryz.func232,abH⟩,fun h=>by cases h⟩
abbrev RI:FuncId:=233
def y5:AC:=
(.seq (.reg [oP 4 (.mv (cI 0))] [0,1])
(.seq (.seq (.reg [mV 6 0,
oP 7 (.len (.t 6)),
oP 8 (.mv (cI 0))] [0,1,7,8])
(.block 0
(.loop [0,1,7,8]
(.seq (.reg [oP 9 (.bin .lss (.t 8) (.t 7))] [0,1,7,8,9])
(.seq (.cond (.t 9)
.skip
(.exit 0))
(.seq (.block 1
(.seq (.reg [mV 10 8,
mV 5 10] [0,1,5,7,8])
(.seq (.reg [mV 11 1,
mV 12 0,
mV 13 5,
oP 14 (.ixS 1 (.t 12) (.t 13)),
oP 15 (.load none (.t 14)),
oP 16 (.call (.t 11) [false] [(.t 15)])] [0,1,5,7,8,16])
(.cond (.t 16)
(.seq (.reg [mV 17 5,
mV 4 17] [4])
.ret)
.skip))))
(.reg [oP 18 (.bin .add (.t 8) (cI 1)),
mV 8 18] [0,1,7,8])))))))
(.seq (.reg [oP 4 (.mv (cI (-1)))] [4])
.ret)))
abbrev Es:RsT:=[(4,none)]
theorem RN:an Tryz.prog Tryz.f233 19 y5 Es = true:=by kernel_rfl
theorem aa4:af Tryz.prog RI = true:=by kernel_rfl
theorem Ym:ag Tryz.prog ⟨233,19,y5,Es,0⟩:=⟨fun _=>⟨aa4,_,Tryz.func233,RN⟩,fun h=>by cases h⟩
abbrev aeH:FuncId:=234
def w8:AC:=
(.seq (.reg [oP 4 (.mv (.c (.bool false)))] [0,1,2])
(.seq (.reg [mV 5 0,
oP 6 (.load none (.t 1)),
oP 7 (.bin .lss (.t 5) (.t 6)),
mV 8 7,
gF 9 8 (.mv (.t 0)),
gF 10 8 (.load none (.t 2)),
gF 11 8 (.bin .gtr (.t 9) (.t 10)),
oP 12 (.pick (.t 8) (.c (.bool true)) (.t 11)),
mV 4 12] [4])
.ret))
abbrev BQ:RsT:=[(4,none)]
theorem XF:an Tryz.prog Tryz.f234 13 w8 BQ = true:=by kernel_rfl
theorem Sr:af Tryz.prog aeH = true:=by kernel_rfl
theorem abl:ag Tryz.prog ⟨234,13,w8,BQ,0⟩:=⟨fun _=>⟨Sr,_,Tryz.func234,XF⟩,fun h=>by cases h⟩
abbrev aen:FuncId:=235
def Bx:AC:=
(.seq (.reg [oP 4 (.mv (cI 0))] [0,1])
(.seq (.seq (.reg [mV 6 0,
oP 7 (.len (.t 6)),
oP 8 (.mv (cI 0))] [0,1,7,8])
(.block 0
(.loop [0,1,7,8]
(.seq (.reg [oP 9 (.bin .lss (.t 8) (.t 7))] [0,1,7,8,9])
(.seq (.cond (.t 9)
.skip
(.exit 0))
(.seq (.block 1
(.seq (.reg [mV 10 8,
mV 5 10] [0,1,5,7,8])
(.seq (.reg [mV 11 1,
mV 12 0,
mV 13 5,
oP 14 (.ixS 7 (.t 12) (.t 13)),
oP 15 (.load (some 7) (.t 14)),
oP 16 (.call (.t 11) [false] [(.t 15)])] [0,1,5,7,8,16])
(.cond (.t 16)
(.seq (.reg [mV 17 5,
mV 4 17] [4])
.ret)
.skip))))
(.reg [oP 18 (.bin .add (.t 8) (cI 1)),
mV 8 18] [0,1,7,8])))))))
(.seq (.reg [oP 4 (.mv (cI (-1)))] [4])
.ret)))
abbrev yV:RsT:=[(4,none)]
theorem Vq:an Tryz.prog Tryz.f235 19 Bx yV = true:=by kernel_rfl
theorem adj:af Tryz.prog aen = true:=by kernel_rfl
theorem PY:ag Tryz.prog ⟨235,19,Bx,yV,0⟩:=⟨fun _=>⟨adj,_,Tryz.func235,Vq⟩,fun h=>by cases h⟩
abbrev Zw:FuncId:=236
def zD:AC:=
(.seq (.reg [oP 2 (.pbox 3 (.t 0)),
oP 3 (.pbox 2 (.t 1)),
oP 4 (.mv (.c .nilfunc))] [2,3])
(.seq (.reg [oP 5 (.mkfunc (.func 299) [] [(.t 3),(.t 2)]),
mV 4 5] [4])
.ret))
abbrev AB:RsT:=[(4,none)]
theorem Wq:an Tryz.prog Tryz.f236 6 zD AB = true:=by kernel_rfl
theorem Wo:af Tryz.prog Zw = true:=by kernel_rfl
theorem Vc:ag Tryz.prog ⟨236,6,zD,AB,0⟩:=⟨fun _=>⟨Wo,_,Tryz.func236,Wq⟩,fun h=>by cases h⟩
abbrev YY:FuncId:=237
def GC:AC:=
(.seq (.reg [oP 2 (.pbox 3 (.t 0)),
oP 4 (.alloc [.int .i64 0, .int .i64 0, .int .i64 0])] [1,2,4])
(.seq (.seq (.reg [oP 11 (.load (some 3) (.t 2)),
oP 12 (.call (.f 302) [true] [(.t 11)]),
oP 13 (.mv (cI 0))] [1,2,4,12,13])
(.block 0
(.loop [1,2,4,12,13]
(.seq (.reg [oP 14 (.bin .lss (.t 13) (cI 3))] [1,2,4,12,13,14])
(.seq (.cond (.t 14)
.skip
(.exit 0))
(.seq (.block 1
(.seq (.reg [mV 15 13,
oP 16 (.ixV 3 3 (some 3) (.t 12) (.t 13)),
oP 6 (.alloc [.nilfunc, .nilfunc, .nilfunc]),
mV 5 15,
oN (.store 3 (.t 6) (.t 16))] [1,2,4,5,6,12,13])
(.frz 6 true (.seq (.reg [oP 17 (.fieldAddr (some 3) 0 (.t 2)),
oP 18 (.fieldAddr none 0 (.t 17)),
oP 19 (.load none (.t 18)),
oP 20 (.len (.t 19)),
oP 21 (.mv (cI 0))] [1,2,4,5,6,12,13,19,20,21])
(.block 2
(.loop [1,2,4,5,6,12,13,19,20,21]
(.seq (.reg [oP 22 (.bin .lss (.t 21) (.t 20))] [1,2,4,5,6,12,13,19,20,21,22])
(.seq (.cond (.t 22)
.skip
(.exit 2))
(.seq (.block 3
(.seq (.reg [oP 23 (.ixS 7 (.t 19) (.t 21)),
oP 24 (.load (some 7) (.t 23)),
oP 8 (.alloc [.str ByteArray.empty, .int .i64 0, .int .i64 0, .int .i64 0, .int .i64 0, .int .i64 0, .int .i64 0]),
oN (.store 7 (.t 8) (.t 24))] [1,2,4,5,6,8,12,13,19,20,21])
(.frz 8 true (.seq (.reg [oP 25 (.load (some 7) (.t 8)),
mV 26 1,
oP 27 (.fieldAddr none 4 (.t 8)),
oP 28 (.load none (.t 27)),
oP 29 (.bin .sub (.t 26) (.t 28)),
oP 30 (.mx [(cI 0),(.t 29)]),
oP 31 (.build [.str ByteArray.empty, .int .i64 0, .int .i64 0, .int .i64 0, .int .i64 0, .int .i64 0, .int .i64 0, .int .i64 0] [(0,7,(.t 25)),(7,1,(.t 30))]),
oP 9 (.alloc [.str ByteArray.empty, .int .i64 0, .int .i64 0, .int .i64 0, .int .i64 0, .int .i64 0, .int .i64 0, .int .i64 0]),
oN (.store 8 (.t 9) (.t 31))] [1,2,4,5,6,8,9,12,13,19,20,21])
(.frz 9 true (.seq (.reg [oP 32 (.fieldAddr none 1 (.t 6)),
oP 33 (.load none (.t 32)),
mV 10 33] [1,2,4,5,6,8,9,10,12,13,19,20,21])
(.seq (.seq (.reg [oP 34 (.fieldAddr none 0 (.t 6)),
oP 35 (.load none (.t 34)),
oP 36 (.load (some 7) (.t 8)),
oP 37 (.call (.t 35) [false] [(.t 36)]),
oP 38 (.bin .lss (.t 37) (cI 0))] [1,2,4,5,6,8,9,10,12,13,19,20,21,38])
(.cond (.t 38)
(.reg [oP 39 (.fieldAddr none 2 (.t 6)),
oP 40 (.load none (.t 39)),
mV 10 40] [1,2,4,5,6,8,9,10,12,13,19,20,21])
.skip))
(.dreg [mV 41 5,
oP 42 (.ixA 3 1 none (.t 4) (.t 41)),
oP 43 (.load none (.t 42)),
oP 44 (.fieldAddr none 0 (.t 6)),
oP 45 (.load none (.t 44)),
oP 46 (.load (some 7) (.t 8)),
oP 47 (.call (.t 45) [false] [(.t 46)]),
mV 48 10,
oP 49 (.load (some 8) (.t 9)),
oP 50 (.call (.t 48) [false] [(.t 49)]),
oP 51 (.bin .mul (.t 47) (.t 50)),
oP 52 (.bin .add (.t 43) (.t 51)),
oP 53 (.ixA 3 1 none (.t 4) (.t 41)),
oN (.store 1 (.t 53) (.t 52))] [1,2,4,5,6,12,13,19,20,21] [[],[0],[0,1],[],[3],[],[3,4,5],[],[],[3,4,5,6,7,8],[3,4,5,6,7,8,9],[0,1,2,3,4,5,6,7,8,9,10],[0,1,2,3,4,5,6,7,8,9,10,11],[0,1,2,3,4,5,6,7,8,9,10,11,12]]))))))))
(.reg [oP 54 (.bin .add (.t 21) (cI 1)),
mV 21 54] [1,2,4,5,6,12,13,19,20,21]))))))))))
(.reg [oP 55 (.bin .add (.t 13) (cI 1)),
mV 13 55] [1,2,4,12,13])))))))
(.seq (.reg [oP 56 (.load (some 3) (.t 4)),
oN (.store 3 (.t 4) (.t 56))] [4])
.ret)))
abbrev B3:RsT:=[(4,some (some 3))]
theorem TC:an Tryz.prog Tryz.f237 57 GC B3 = true:=by kernel_rfl
theorem VL:af Tryz.prog YY = true:=by kernel_rfl
theorem Y7:ag Tryz.prog ⟨237,57,GC,B3,0⟩:=⟨fun _=>⟨VL,_,Tryz.func237,TC⟩,fun h=>by cases h⟩
abbrev UA:FuncId:=238
def FT:AC:=
(.seq (.reg [oP 1 (.pbox 3 (.t 0)),
oP 2 (.mv (cI 0))] [1])
(.seq (.block 0
(.seq (.reg [oP 4 (.ixA 3 1 none (.t 1) (cI 0)),
oP 5 (.load none (.t 4)),
oP 6 (.bin .leq (.t 5) (cI 0)),
mV 3 6] [1,3])
(.cond (.t 3)
(.seq (.reg [oP 2 (.mv (cI 1))] [2])
.ret)
(.seq (.reg [oP 8 (.ixA 3 1 none (.t 1) (cI 1)),
oP 9 (.load none (.t 8)),
oP 10 (.bin .lss (.t 9) (cI 0)),
mV 7 10] [1,7])
(.cond (.t 7)
(.seq (.reg [oP 2 (.mv (cI 2))] [2])
.ret)
(.seq (.reg [oP 12 (.ixA 3 1 none (.t 1) (cI 2)),
oP 13 (.load none (.t 12)),
oP 14 (.bin .lss (.t 13) (cI 0)),
mV 11 14] [11])
(.cond (.t 11)
(.seq (.reg [oP 2 (.mv (cI 3))] [2])
.ret)
.skip)))))))
(.seq (.reg [oP 2 (.mv (cI 0))] [2])
.ret)))
abbrev y8:RsT:=[(2,none)]
theorem OE:an Tryz.prog Tryz.f238 15 FT y8 = true:=by kernel_rfl
theorem aei:af Tryz.prog UA = true:=by kernel_rfl
theorem Zz:ag Tryz.prog ⟨238,15,FT,y8,0⟩:=⟨fun _=>⟨aei,_,Tryz.func238,OE⟩,fun h=>by cases h⟩
end Go.AM
