/- MADE BY PROGRAM (gen.py): the abstract code of functions of this seat, each checked against the given code by the kernel. -/
import Derived.Test.YtcdfnopkemadjaaGreatDoorChecked
import Derived.Test.YtcdfnopkemadjaaGreatDoorG05a
import Derived.Test.YtcdfnopkemadjaaGreatDoorP18
import Derived.Test.YtcdfnopkemadjaaGreatDoorP19
namespace Go.AM
open Go.Proofs
abbrev Jz:FuncId:=239
def zk:AC:=
(.seq (.reg [oP 1 (.pbox 2 (.t 0)),
oP 2 (.mv (cI 0)),
oP 3 (.mv (cI 0)),
oP 4 (.mv (cI 0))] [1])
(.seq (.seq (.reg [oP 9 (.fieldAddr none 0 (.t 1)),
oP 10 (.load none (.t 9)),
oP 11 (.len (.t 10)),
oP 12 (.bin .eql (.t 11) (cI 0)),
mV 13 12,
gF 14 13 (.fieldAddr none 0 (.t 1)),
gF 15 13 (.load none (.t 14)),
gF 16 13 (.len (.t 15)),
gF 17 13 (.bin .gtr (.t 16) (cI 7)),
oP 18 (.pick (.t 13) (.c (.bool true)) (.t 17)),
mV 19 18,
gF 20 19 (.fieldAddr none 1 (.t 1)),
gF 21 19 (.load none (.t 20)),
gF 22 19 (.len (.t 21)),
gF 23 19 (.bin .gtr (.t 22) (cI 12)),
oP 24 (.pick (.t 19) (.c (.bool true)) (.t 23))] [1,24])
(.cond (.t 24)
(.seq (.reg [oP 2 (.mv (cI 1)),
oP 3 (.mv (cI 0)),
oP 4 (.mv (cI 3))] [2,3,4])
.ret)
.skip))
(.seq (.seq (.reg [oP 25 (.fieldAddr none 0 (.t 1)),
oP 26 (.load none (.t 25)),
oP 27 (.len (.t 26)),
oP 28 (.mv (cI 0))] [1,26,27,28])
(.block 0
(.loop [1,26,27,28]
(.seq (.reg [oP 29 (.bin .lss (.t 28) (.t 27))] [1,26,27,28,29])
(.seq (.cond (.t 29)
.skip
(.exit 0))
(.seq (.block 1
(.seq (.reg [mV 30 28,
oP 31 (.ixS 2 (.t 26) (.t 28)),
oP 32 (.load (some 2) (.t 31)),
oP 6 (.alloc [.str ByteArray.empty, .bool false]),
mV 5 30,
oN (.store 2 (.t 6) (.t 32))] [1,5,6,26,27,28])
(.frz 6 true (.block 2
(.seq (.reg [oP 34 (.fieldAddr none 0 (.t 6)),
oP 35 (.load none (.t 34)),
oP 36 (.call (.f 147) [false] [(.t 35)]),
oP 37 (.un .not (.t 36)),
mV 33 37] [1,5,6,26,27,28,33])
(.cond (.t 33)
(.seq (.reg [mV 38 5,
oP 2 (.mv (cI 2)),
mV 3 38,
oP 4 (.mv (cI 6))] [2,3,4])
.ret)
(.seq (.reg [oP 40 (.fieldAddr none 0 (.t 1)),
oP 41 (.load none (.t 40)),
mV 42 5,
oP 43 (.subq 2 (.t 41) none (some (.t 42))),
oP 44 (.mkfunc (.func 304) [] [(.t 6)]),
oP 45 (.call (.f 303) [true,false] [(.t 43),(.t 44)]),
mV 39 45] [1,5,26,27,28,39])
(.cond (.t 39)
(.seq (.reg [mV 46 5,
oP 2 (.mv (cI 2)),
mV 3 46,
oP 4 (.mv (cI 5))] [2,3,4])
.ret)
.skip))))))))
(.reg [oP 47 (.bin .add (.t 28) (cI 1)),
mV 28 47] [1,26,27,28])))))))
(.seq (.seq (.reg [oP 48 (.fieldAddr none 1 (.t 1)),
oP 49 (.load none (.t 48)),
oP 50 (.len (.t 49)),
oP 51 (.mv (cI 0))] [1,49,50,51])
(.block 3
(.loop [1,49,50,51]
(.seq (.reg [oP 52 (.bin .lss (.t 51) (.t 50))] [1,49,50,51,52])
(.seq (.cond (.t 52)
.skip
(.exit 3))
(.seq (.block 4
(.seq (.reg [mV 53 51,
oP 54 (.ixS 3 (.t 49) (.t 51)),
oP 55 (.load (some 3) (.t 54)),
oP 8 (.alloc [.int .i64 0, .int .i64 0, .bool false]),
mV 7 53,
oN (.store 3 (.t 8) (.t 55))] [1,7,8,49,50,51])
(.frz 8 true (.block 5
(.seq (.reg [oP 57 (.fieldAddr none 0 (.t 1)),
oP 58 (.load none (.t 57)),
oP 59 (.len (.t 58)),
oP 60 (.fieldAddr none 0 (.t 8)),
oP 61 (.load none (.t 60)),
oP 62 (.fieldAddr none 1 (.t 8)),
oP 63 (.load none (.t 62)),
oP 64 (.lit 0 1 2 [(0,(.t 61)),(1,(.t 63))]),
oP 65 (.call (.f 157) [false,true] [(.t 59),(.t 64)]),
mV 56 65] [1,7,8,49,50,51,56])
(.cond (.t 56)
(.seq (.reg [mV 66 7,
oP 2 (.mv (cI 3)),
mV 3 66,
oP 4 (.mv (cI 4))] [2,3,4])
.ret)
(.seq (.reg [oP 68 (.fieldAddr none 0 (.t 8)),
oP 69 (.load none (.t 68)),
oP 70 (.fieldAddr none 1 (.t 8)),
oP 71 (.load none (.t 70)),
oP 72 (.bin .eql (.t 69) (.t 71)),
mV 67 72] [1,7,49,50,51,67])
(.cond (.t 67)
(.seq (.reg [mV 73 7,
oP 2 (.mv (cI 3)),
mV 3 73,
oP 4 (.mv (cI 2))] [2,3,4])
.ret)
.skip))))))))
(.reg [oP 74 (.bin .add (.t 51) (cI 1)),
mV 51 74] [1,49,50,51])))))))
(.seq (.reg [oP 2 (.mv (cI 0)),
oP 3 (.mv (cI 0)),
oP 4 (.mv (cI 0))] [2,3,4])
.ret)))))
abbrev xS:RsT:=[(2,none),(3,none),(4,none)]
theorem QA:an Tryz.prog Tryz.f239 75 zk xS = true:=by kernel_rfl
theorem aai:af Tryz.prog Jz = true:=by kernel_rfl
theorem TE:ag Tryz.prog ⟨239,75,zk,xS,0⟩:=⟨fun _=>⟨aai,_,Tryz.func239,QA⟩,fun h=>by cases h⟩
abbrev Jk:FuncId:=240
def Bq:AC:=
(.seq (.reg [mV 4 2,
oP 5 (.isnil true (.t 4))] [0,1,2,5])
(.cond (.t 5)
(.dreg [mV 6 2,
oP 7 (.assert 25 (.t 6)),
oN (.store 1 (.t 0) (.c .nilptr)),
oN (.store 1 (.t 1) (.t 7))] [] [[],[0],[],[0,1,2]])
.skip))
theorem lg:lQ Tryz.prog Tryz.f240 8 3 2 Bq = true:=by kernel_rfl
theorem TO {args:List aa} {σ:ab} {m:PM} {Q:PM → ab → Prop} (ha:args.length ≤ 8) (h:AW Tryz.prog 8 none Bq (jU (Q m.after)) { v:=(2,m.val) :: (3, .undef) :: bF args 0,ds:=[] } σ):eH Tryz.prog Jk args σ m Q:=eH.pG Tryz.func240 lg ha h
theorem Zr:af Tryz.prog Jk = true:=by kernel_rfl
theorem Qn:tD Tryz.prog 240 8:=⟨Zr,fun caps hl σ=>TO hl (aE _ (by simp [Bq]))⟩
theorem XQ:ag Tryz.prog ⟨240,8, .skip,[],1⟩:=⟨fun h=>absurd rfl h,fun _=>Qn⟩
abbrev ac7:FuncId:=241
def D4:AC:=
(.seq (.reg [mV 8 0,
oP 9 (.len (.t 8)),
oP 10 (.mv (cI 0))] [0,1,2,8,9,10])
(.block 0
(.loop [0,1,2,8,9,10]
(.seq (.reg [oP 11 (.bin .lss (.t 10) (.t 9))] [0,1,2,8,9,10,11])
(.seq (.cond (.t 11)
.skip
(.exit 0))
(.seq (.block 1
(.seq (.reg [mV 12 10,
oP 13 (.ixS 1 (.t 8) (.t 10)),
oP 14 (.load none (.t 13)),
mV 6 12,
mV 7 14] [0,1,2,6,7,8,9,10])
(.block 2
(.seq (.reg [mV 16 1,
mV 17 7,
oP 18 (.lit 0 1 1 [(0,(.t 17))]),
oP 19 (.call (.f 157) [false,true] [(.t 16),(.t 18)]),
mV 15 19] [0,1,2,6,7,8,9,10,15])
(.cond (.t 15)
(.reg [oP 20 (.mkiface 25 (cI 4)),
oN (.panic (.t 20))] [0,1,2,8,9,10])
(.seq (.reg [mV 22 6,
oP 23 (.bin .gtr (.t 22) (cI 0)),
mV 24 23,
gT 25 24 (.mv (.t 7)),
gT 26 24 (.mv (.t 0)),
gT 27 24 (.mv (.t 6)),
gT 28 24 (.bin .sub (.t 27) (cI 1)),
gT 29 24 (.ixS 1 (.t 26) (.t 28)),
gT 30 24 (.load none (.t 29)),
gT 31 24 (.bin .leq (.t 25) (.t 30)),
oP 32 (.pick (.t 24) (.t 31) (.c (.bool false))),
mV 21 32] [0,1,2,7,8,9,10,21])
(.cond (.t 21)
(.reg [oP 33 (.mkiface 25 (cI 2)),
oN (.panic (.t 33))] [0,1,2,8,9,10])
(.seq (.reg [mV 35 2,
mV 36 7,
oP 37 (.call (.t 35) [false] [(.t 36)]),
mV 34 37] [0,1,2,8,9,10,34])
(.cond (.t 34)
(.reg [oP 38 (.mkiface 25 (cI 9)),
oN (.panic (.t 38))] [0,1,2,8,9,10])
.skip)))))))))
(.reg [oP 39 (.bin .add (.t 10) (cI 1)),
mV 10 39] [0,1,2,8,9,10])))))))
abbrev FN:RsT:=[]
theorem Ud:an Tryz.prog Tryz.f241 40 D4 FN = true:=by kernel_rfl
theorem aaL:af Tryz.prog ac7 = true:=by kernel_rfl
theorem abT:ag Tryz.prog ⟨241,40,D4,FN,0⟩:=⟨fun _=>⟨aaL,_,Tryz.func241,Ud⟩,fun h=>by cases h⟩
abbrev ac8:FuncId:=242
def zQ:AC:=
(.seq (.reg [oP 3 (.mv (.c (.bool false)))] [0,1])
(.seq (.reg [oP 4 (.fieldAddr none 1 (.t 1)),
oP 5 (.load none (.t 4)),
mV 6 0,
oP 7 (.ixS 3 (.t 5) (.t 6)),
oP 8 (.fieldAddr none 2 (.t 7)),
oP 9 (.load none (.t 8)),
mV 3 9] [3])
.ret))
abbrev yM:RsT:=[(3,none)]
theorem aaA:an Tryz.prog Tryz.f242 10 zQ yM = true:=by kernel_rfl
theorem abU:af Tryz.prog ac8 = true:=by kernel_rfl
theorem Tm:ag Tryz.prog ⟨242,10,zQ,yM,0⟩:=⟨fun _=>⟨abU,_,Tryz.func242,aaA⟩,fun h=>by cases h⟩
abbrev acH:FuncId:=243
def yU:AC:=
(.seq (.reg [oP 3 (.mv (.c (.bool false)))] [0,1])
(.seq (.reg [oP 4 (.fieldAddr none 0 (.t 1)),
oP 5 (.load none (.t 4)),
mV 6 0,
oP 7 (.ixS 2 (.t 5) (.t 6)),
oP 8 (.fieldAddr none 1 (.t 7)),
oP 9 (.load none (.t 8)),
mV 3 9] [3])
.ret))
abbrev Da:RsT:=[(3,none)]
theorem OB:an Tryz.prog Tryz.f243 10 yU Da = true:=by kernel_rfl
theorem O5:af Tryz.prog acH = true:=by kernel_rfl
theorem Xu:ag Tryz.prog ⟨243,10,yU,Da,0⟩:=⟨fun _=>⟨O5,_,Tryz.func243,OB⟩,fun h=>by cases h⟩
abbrev Xm:FuncId:=244
def CP:AC:=
(.seq (.reg [oP 2 (.mv (.c (.int .u64 0)))] [0])
(.seq (.reg [mV 3 0,
oP 4 (.bin .shl (.c (.int .u64 1)) (.t 3)),
mV 2 4] [2])
.ret))
abbrev GI:RsT:=[(2,none)]
theorem acD:an Tryz.prog Tryz.f244 5 CP GI = true:=by kernel_rfl
theorem ON:af Tryz.prog Xm = true:=by kernel_rfl
theorem R7:ag Tryz.prog ⟨244,5,CP,GI,0⟩:=⟨fun _=>⟨ON,_,Tryz.func244,acD⟩,fun h=>by cases h⟩
abbrev UW:FuncId:=245
def Cn:AC:=
(.seq (.reg [oP 3 (.mv (.c (.bool false)))] [0,1])
(.seq (.reg [mV 4 0,
oP 5 (.bin .lss (.t 4) (cI 0)),
mV 6 5,
gF 7 6 (.mv (.t 0)),
gF 8 6 (.load none (.t 1)),
gF 9 6 (.bin .geq (.t 7) (.t 8)),
oP 10 (.pick (.t 6) (.c (.bool true)) (.t 9)),
mV 3 10] [3])
.ret))
abbrev CR:RsT:=[(3,none)]
theorem abn:an Tryz.prog Tryz.f245 11 Cn CR = true:=by kernel_rfl
theorem Wz:af Tryz.prog UW = true:=by kernel_rfl
theorem SO:ag Tryz.prog ⟨245,11,Cn,CR,0⟩:=⟨fun _=>⟨Wz,_,Tryz.func245,abn⟩,fun h=>by cases h⟩
abbrev T6:FuncId:=246
def Gb:AC:=
(.seq (.reg [oP 4 (.mv (.c (.bool false)))] [0,1])
(.seq (.reg [mV 5 0,
mV 6 1,
oP 7 (.bin .shr (.t 5) (.t 6)),
oP 8 (.bin .and (.t 7) (.c (.int .u64 1))),
oP 9 (.bin .eql (.t 8) (.c (.int .u64 1))),
mV 4 9] [4])
.ret))
abbrev xe:RsT:=[(4,none)]
theorem RR:an Tryz.prog Tryz.f246 10 Gb xe = true:=by kernel_rfl
theorem Oe:af Tryz.prog T6 = true:=by kernel_rfl
theorem acq:ag Tryz.prog ⟨246,10,Gb,xe,0⟩:=⟨fun _=>⟨Oe,_,Tryz.func246,RR⟩,fun h=>by cases h⟩
abbrev PC:FuncId:=247
def zG:AC:=
(.seq (.reg [oP 3 (.box 2 (.t 1)),
oP 4 (.alloc [.int .u64 0, .int .u64 0])] [0,3,4])
(.seq (.seq (.reg [oP 9 (.build [.int .u64 0, .int .u64 0] []),
oP 5 (.alloc [.int .u64 0, .int .u64 0]),
oN (.store 2 (.t 5) (.t 9))] [0,3,4,5])
(.block 0
(.loop [0,3,4,5]
(.seq (.seq (.reg [oP 10 (.load (some 2) (.t 5)),
oP 11 (.load (some 2) (.t 3)),
oP 12 (.eqa true [.i, .i] (.t 10) (.t 11))] [0,3,4,5,12])
(.cond (.t 12)
.skip
(.exit 0)))
(.seq (.block 1
(.seq (.reg [oP 13 (.load (some 2) (.t 3)),
oN (.store 2 (.t 5) (.t 13))] [0,3,4,5])
(.seq (.reg [mV 14 0,
oP 15 (.nilchk (.t 14)),
oP 16 (.fieldAddr (some 2) 0 (.t 15)),
oP 17 (.fieldAddr none 1 (.t 16)),
oP 18 (.load none (.t 17)),
oP 19 (.len (.t 18)),
oP 20 (.mv (cI 0))] [0,3,4,5,18,19,20])
(.block 2
(.loop [0,3,4,5,18,19,20]
(.seq (.reg [oP 21 (.bin .lss (.t 20) (.t 19))] [0,3,4,5,18,19,20,21])
(.seq (.cond (.t 21)
.skip
(.exit 2))
(.seq (.block 3
(.seq (.reg [mV 22 20,
oP 23 (.ixS 3 (.t 18) (.t 20)),
oP 24 (.load (some 3) (.t 23)),
oP 7 (.alloc [.int .i64 0, .int .i64 0, .bool false]),
mV 6 22,
oN (.store 3 (.t 7) (.t 24))] [0,3,4,5,6,7,18,19,20])
(.frz 7 true (.seq (.seq (.dreg [mV 25 0,
mV 26 6,
oP 27 (.nilchk (.t 25)),
oP 28 (.fieldAddr (some 12) 4 (.t 27)),
oP 29 (.ixA 12 1 none (.t 28) (.t 26)),
oP 30 (.load none (.t 29)),
oP 31 (.un .not (.t 30)),
mV 32 31,
gF 33 32 (.fieldAddr none 0 (.t 3)),
gF 34 32 (.load none (.t 33)),
gF 35 32 (.fieldAddr none 0 (.t 7)),
gF 36 32 (.load none (.t 35)),
gF 37 32 (.call (.f 246) [false,false] [(.t 34),(.t 36)]),
gF 38 32 (.fieldAddr none 0 (.t 3)),
gF 39 32 (.load none (.t 38)),
gF 40 32 (.fieldAddr none 1 (.t 7)),
gF 41 32 (.load none (.t 40)),
gF 42 32 (.call (.f 246) [false,false] [(.t 39),(.t 41)]),
gF 43 32 (.eqb false (.t 37) (.t 42)),
oP 44 (.pick (.t 32) (.c (.bool true)) (.t 43))] [0,3,4,5,7,18,19,20,44] [[],[],[0],[0,2],[0,1,2,3],[0,1,2,3,4],[0,1,2,3,4,5],[0,1,2,3,4,5,6],[0,1,2,3,4,5,6,7],[0,1,2,3,4,5,6,7,8],[0,1,2,3,4,5,6,7],[0,1,2,3,4,5,6,7,10],[0,1,2,3,4,5,6,7,8,9,10,11],[0,1,2,3,4,5,6,7],[0,1,2,3,4,5,6,7,13],[0,1,2,3,4,5,6,7],[0,1,2,3,4,5,6,7,15],[0,1,2,3,4,5,6,7,8,9,10,11,12,13,14,15,16],[0,1,2,3,4,5,6,7,8,9,10,11,12,13,14,15,16,17],[0,1,2,3,4,5,6,7,8,9,10,11,12,13,14,15,16,17,18]])
(.cond (.t 44)
(.exit 3)
.skip))
(.seq (.dreg [oP 45 (.fieldAddr none 0 (.t 3)),
oP 46 (.load none (.t 45)),
oP 47 (.fieldAddr none 0 (.t 7)),
oP 48 (.load none (.t 47)),
oP 49 (.call (.f 244) [false] [(.t 48)]),
oP 50 (.fieldAddr none 1 (.t 7)),
oP 51 (.load none (.t 50)),
oP 52 (.call (.f 244) [false] [(.t 51)]),
oP 53 (.bin .or (.t 49) (.t 52)),
oP 54 (.bin .and (.t 46) (.t 53)),
oP 55 (.fieldAddr none 1 (.t 3)),
oP 56 (.load none (.t 55)),
oP 57 (.bin .andNot (.t 54) (.t 56)),
mV 8 57] [0,3,4,5,8,18,19,20] [[],[0],[],[2],[2,3],[],[5],[2,3,4,5,6],[2,3,4,5,6,7],[0,1,2,3,4,5,6,7,8],[],[10],[0,1,2,3,4,5,6,7,8,9,10,11],[0,1,2,3,4,5,6,7,8,9,10,11,12]])
(.reg [oP 58 (.fieldAddr none 0 (.t 3)),
oP 59 (.load none (.t 58)),
mV 60 8,
oP 61 (.bin .andNot (.t 59) (.t 60)),
oP 62 (.fieldAddr none 0 (.t 3)),
oN (.store 1 (.t 62) (.t 61))] [0,3,4,5,18,19,20]))))))
(.reg [oP 63 (.bin .add (.t 20) (cI 1)),
mV 20 63] [0,3,4,5,18,19,20])))))))))
(.seq (.reg [oP 64 (.load (some 2) (.t 5))] [0,3,4,64])
(.reg [oP 5 (.alloc [.int .u64 0, .int .u64 0]),
oN (.store 2 (.t 5) (.t 64))] [0,3,4,5])))))))
(.seq (.reg [oP 65 (.load (some 2) (.t 3)),
oN (.store 2 (.t 4) (.t 65))] [4])
.ret)))
abbrev AG:RsT:=[(4,some (some 2))]
theorem Re:an Tryz.prog Tryz.f247 66 zG AG = true:=by kernel_rfl
theorem abE:af Tryz.prog PC = true:=by kernel_rfl
theorem aby:ag Tryz.prog ⟨247,66,zG,AG,0⟩:=⟨fun _=>⟨abE,_,Tryz.func247,Re⟩,fun h=>by cases h⟩
abbrev ac9:FuncId:=248
def EA:AC:=
(.seq (.reg [oP 4 (.mv (cI 0))] [0,1])
(.seq (.seq (.reg [mV 6 0,
oP 7 (.len (.t 6)),
oP 8 (.mv (cI 0))] [0,1,7,8])
(.block 0
(.loop [0,1,7,8]
(.seq (.reg [oP 9 (.bin .lss (.t 8) (.t 7))] [0,1,7,8,9])
(.seq (.cond (.t 9)
.skip
(.exit 0))
(.seq (.block 1
(.seq (.reg [mV 10 8,
mV 5 10] [0,1,5,7,8])
(.seq (.reg [mV 11 1,
mV 12 0,
mV 13 5,
oP 14 (.ixS 1 (.t 12) (.t 13)),
oP 15 (.load none (.t 14)),
oP 16 (.bin .eql (.t 11) (.t 15))] [0,1,5,7,8,16])
(.cond (.t 16)
(.seq (.reg [mV 17 5,
mV 4 17] [4])
.ret)
.skip))))
(.reg [oP 18 (.bin .add (.t 8) (cI 1)),
mV 8 18] [0,1,7,8])))))))
(.seq (.reg [oP 4 (.mv (cI (-1)))] [4])
.ret)))
abbrev FF:RsT:=[(4,none)]
theorem T7:an Tryz.prog Tryz.f248 19 EA FF = true:=by kernel_rfl
theorem QQ:af Tryz.prog ac9 = true:=by kernel_rfl
theorem UY:ag Tryz.prog ⟨248,19,EA,FF,0⟩:=⟨fun _=>⟨QQ,_,Tryz.func248,T7⟩,fun h=>by cases h⟩
abbrev ae1:FuncId:=249
def DP:AC:=
(.seq (.reg [oP 4 (.mv (cI 0))] [0,1])
(.seq (.seq (.reg [mV 6 0,
oP 7 (.len (.t 6)),
oP 8 (.mv (cI 0))] [0,1,7,8])
(.block 0
(.loop [0,1,7,8]
(.seq (.reg [oP 9 (.bin .lss (.t 8) (.t 7))] [0,1,7,8,9])
(.seq (.cond (.t 9)
.skip
(.exit 0))
(.seq (.block 1
(.seq (.reg [mV 10 8,
mV 5 10] [0,1,5,7,8])
(.seq (.reg [mV 11 1,
mV 12 0,
mV 13 5,
oP 14 (.ixS 4 (.t 12) (.t 13)),
oP 15 (.load (some 4) (.t 14)),
oP 16 (.call (.t 11) [false] [(.t 15)])] [0,1,5,7,8,16])
(.cond (.t 16)
(.seq (.reg [mV 17 5,
mV 4 17] [4])
.ret)
.skip))))
(.reg [oP 18 (.bin .add (.t 8) (cI 1)),
mV 8 18] [0,1,7,8])))))))
(.seq (.reg [oP 4 (.mv (cI (-1)))] [4])
.ret)))
abbrev Ap:RsT:=[(4,none)]
theorem S2:an Tryz.prog Tryz.f249 19 DP Ap = true:=by kernel_rfl
theorem Q4:af Tryz.prog ae1 = true:=by kernel_rfl
theorem ac1:ag Tryz.prog ⟨249,19,DP,Ap,0⟩:=⟨fun _=>⟨Q4,_,Tryz.func249,S2⟩,fun h=>by cases h⟩
abbrev aeX:FuncId:=262
def yy:AC:=
(.seq (.reg [oP 3 (.pbox 9 (.t 0)),
oP 6 (.mv (cI 0))] [1,2,3])
(.seq (.block 0
(.seq (.reg [mV 8 1,
oP 9 (.bin .lss (.t 8) (cI 0)),
mV 10 9,
gF 11 10 (.mv (.t 1)),
gF 12 10 (.fieldAddr (some 6) 0 (.t 3)),
gF 13 10 (.fieldAddr none 5 (.t 12)),
gF 14 10 (.load none (.t 13)),
gF 15 10 (.len (.t 14)),
gF 16 10 (.bin .geq (.t 11) (.t 15)),
oP 17 (.pick (.t 10) (.c (.bool true)) (.t 16)),
mV 7 17] [2,7])
(.cond (.t 7)
(.seq (.reg [oP 6 (.mv (cI 4))] [6])
.ret)
(.seq (.reg [mV 19 2,
oP 20 (.bin .lss (.t 19) (cI 0)),
mV 21 20,
gF 22 21 (.mv (.t 2)),
gF 23 21 (.bin .gtr (.t 22) (cI 40)),
oP 24 (.pick (.t 21) (.c (.bool true)) (.t 23)),
mV 18 24] [18])
(.cond (.t 18)
(.seq (.reg [oP 6 (.mv (cI 7))] [6])
.ret)
.skip)))))
(.seq (.reg [oP 6 (.mv (cI 0))] [6])
.ret)))
abbrev ym:RsT:=[(6,none)]
theorem WX:an Tryz.prog Tryz.f262 25 yy ym = true:=by kernel_rfl
theorem Of:af Tryz.prog aeX = true:=by kernel_rfl
theorem adB:ag Tryz.prog ⟨262,25,yy,ym,0⟩:=⟨fun _=>⟨Of,_,Tryz.func262,WX⟩,fun h=>by cases h⟩
abbrev ady:FuncId:=263
def F3:AC:=
(.seq (.reg [oP 4 (.pbox 4 (.t 0)),
oP 5 (.mv (cI 0))] [1,2,3,4])
(.seq (.reg [oP 6 (.ixA 4 1 none (.t 4) (cI 2)),
oP 7 (.load none (.t 6)),
oP 8 (.ixA 4 1 none (.t 4) (cI 3)),
oP 9 (.load none (.t 8)),
oP 10 (.bin .add (.t 7) (.t 9)),
oP 11 (.load none (.t 1)),
oP 12 (.bin .add (.t 10) (.t 11)),
oP 13 (.ixA 4 1 none (.t 4) (cI 1)),
oP 14 (.load none (.t 13)),
oP 15 (.bin .sub (.t 12) (.t 14)),
oP 16 (.fieldAddr (some 3) 6 (.t 2)),
oP 17 (.fieldAddr none 2 (.t 16)),
oP 18 (.load none (.t 17)),
oP 19 (.load none (.t 3)),
oP 20 (.bin .mul (.t 18) (.t 19)),
oP 21 (.bin .sub (.t 15) (.t 20)),
oP 22 (.bin .mul (cI 1000) (.t 21)),
oP 23 (.ixA 4 1 none (.t 4) (cI 0)),
oP 24 (.load none (.t 23)),
oP 25 (.call (.f 264) [false,false] [(.t 22),(.t 24)]),
mV 5 25] [5])
.ret))
abbrev D8:RsT:=[(5,none)]
theorem adb:an Tryz.prog Tryz.f263 26 F3 D8 = true:=by kernel_rfl
theorem Ov:af Tryz.prog ady = true:=by kernel_rfl
theorem aaW:ag Tryz.prog ⟨263,26,F3,D8,0⟩:=⟨fun _=>⟨Ov,_,Tryz.func263,adb⟩,fun h=>by cases h⟩
abbrev ada:FuncId:=264
def FQ:AC:=
(.seq (.reg [oP 4 (.mv (cI 0))] [0,1])
(.seq (.reg [mV 6 0,
mV 7 1,
oP 8 (.bin .quo (.t 6) (.t 7)),
mV 5 8] [0,1,5])
(.seq (.seq (.reg [mV 9 0,
mV 10 1,
oP 11 (.bin .rem (.t 9) (.t 10)),
oP 12 (.bin .lss (.t 11) (cI 0))] [5,12])
(.cond (.t 12)
(.reg [mV 13 5,
oP 14 (.bin .sub (.t 13) (cI 1)),
mV 5 14] [5])
.skip))
(.seq (.reg [mV 15 5,
mV 4 15] [4])
.ret))))
abbrev AK:RsT:=[(4,none)]
theorem RE:an Tryz.prog Tryz.f264 16 FQ AK = true:=by kernel_rfl
theorem Si:af Tryz.prog ada = true:=by kernel_rfl
theorem TX:ag Tryz.prog ⟨264,16,FQ,AK,0⟩:=⟨fun _=>⟨Si,_,Tryz.func264,RE⟩,fun h=>by cases h⟩
abbrev adY:FuncId:=265
def FZ:AC:=
(.seq (.reg [oP 7 (.mv (cI 0))] [0,1,7])
(.block 0
(.loop [0,1,7]
(.seq (.reg [oP 8 (.bin .lss (.t 7) (cI 16))] [0,1,7,8])
(.seq (.cond (.t 8)
.skip
(.exit 0))
(.seq (.block 1
(.seq (.reg [mV 9 7,
mV 3 9] [0,1,3,7])
(.seq (.reg [oP 4 (.alloc [.int .i64 0, .int .i64 0, .int .i64 0, .int .i64 0])] [0,1,3,4,7])
(.seq (.seq (.reg [oP 10 (.load (some 8) (.t 1)),
oP 11 (.mv (cI 0))] [0,1,3,4,7,10,11])
(.block 2
(.loop [0,1,3,4,7,10,11]
(.seq (.reg [oP 12 (.bin .lss (.t 11) (cI 4))] [0,1,3,4,7,10,11,12])
(.seq (.cond (.t 12)
.skip
(.exit 2))
(.seq (.block 3
(.seq (.reg [mV 13 11,
oP 14 (.ixV 4 2 (some 2) (.t 10) (.t 11)),
oP 6 (.alloc [.int .i64 0, .int .i64 0]),
mV 5 13,
oN (.store 2 (.t 6) (.t 14))] [0,1,3,4,5,6,7,10,11])
(.frz 6 true (.seq (.reg [mV 15 5,
oP 16 (.fieldAddr none 0 (.t 6)),
oP 17 (.load none (.t 16)),
oP 18 (.ixA 4 1 none (.t 4) (.t 15)),
oN (.store 1 (.t 18) (.t 17))] [0,1,3,4,5,6,7,10,11])
(.seq (.reg [mV 19 3,
mV 20 5,
oP 21 (.bin .shr (.t 19) (.t 20)),
oP 22 (.bin .and (.t 21) (cI 1)),
oP 23 (.bin .eql (.t 22) (cI 1))] [0,1,3,4,5,6,7,10,11,23])
(.cond (.t 23)
(.reg [mV 24 5,
oP 25 (.fieldAddr none 1 (.t 6)),
oP 26 (.load none (.t 25)),
oP 27 (.ixA 4 1 none (.t 4) (.t 24)),
oN (.store 1 (.t 27) (.t 26))] [0,1,3,4,7,10,11])
.skip))))))
(.reg [oP 28 (.bin .add (.t 11) (cI 1)),
mV 11 28] [0,1,3,4,7,10,11])))))))
(.seq (.reg [mV 29 0,
oP 30 (.load (some 4) (.t 4)),
oP 31 (.call (.t 29) [false] [(.t 30)]),
oP 32 (.un .not (.t 31))] [0,1,7,32])
(.cond (.t 32)
.ret
.skip))))))
(.reg [oP 33 (.bin .add (.t 7) (cI 1)),
mV 7 33] [0,1,7])))))))
abbrev zm:RsT:=[]
theorem abi:an Tryz.prog Tryz.f265 34 FZ zm = true:=by kernel_rfl
theorem ads:af Tryz.prog adY = true:=by kernel_rfl
theorem Tx:ag Tryz.prog ⟨265,34,FZ,zm,0⟩:=⟨fun _=>⟨ads,_,Tryz.func265,abi⟩,fun h=>by cases h⟩
abbrev Pu:FuncId:=266
def Gl:AC:=
(.seq (.reg [oP 2 (.mv (.c (.bool false)))] [0])
(.seq (.reg [mV 3 0,
mV 4 0,
oP 5 (.bin .neq (.t 3) (.t 4)),
mV 2 5] [2])
.ret))
abbrev yb:RsT:=[(2,none)]
theorem R5:an Tryz.prog Tryz.f266 6 Gl yb = true:=by kernel_rfl
theorem XO:af Tryz.prog Pu = true:=by kernel_rfl
theorem Qv:ag Tryz.prog ⟨266,6,Gl,yb,0⟩:=⟨fun _=>⟨XO,_,Tryz.func266,R5⟩,fun h=>by cases h⟩
abbrev Yg:FuncId:=268
def DG:AC:=
(.seq (.reg [oP 4 (.mv (cI 0))] [0,1])
(.seq (.seq (.reg [mV 6 0,
oP 7 (.len (.t 6)),
oP 8 (.mv (cI 0))] [0,1,7,8])
(.block 0
(.loop [0,1,7,8]
(.seq (.reg [oP 9 (.bin .lss (.t 8) (.t 7))] [0,1,7,8,9])
(.seq (.cond (.t 9)
.skip
(.exit 0))
(.seq (.block 1
(.seq (.reg [mV 10 8,
mV 5 10] [0,1,5,7,8])
(.seq (.reg [mV 11 1,
mV 12 0,
mV 13 5,
oP 14 (.ixS 2 (.t 12) (.t 13)),
oP 15 (.load (some 2) (.t 14)),
oP 16 (.call (.t 11) [false] [(.t 15)])] [0,1,5,7,8,16])
(.cond (.t 16)
(.seq (.reg [mV 17 5,
mV 4 17] [4])
.ret)
.skip))))
(.reg [oP 18 (.bin .add (.t 8) (cI 1)),
mV 8 18] [0,1,7,8])))))))
(.seq (.reg [oP 4 (.mv (cI (-1)))] [4])
.ret)))
abbrev zZ:RsT:=[(4,none)]
theorem aaV:an Tryz.prog Tryz.f268 19 DG zZ = true:=by kernel_rfl
theorem Rg:af Tryz.prog Yg = true:=by kernel_rfl
theorem Vl:ag Tryz.prog ⟨268,19,DG,zZ,0⟩:=⟨fun _=>⟨Rg,_,Tryz.func268,aaV⟩,fun h=>by cases h⟩
abbrev Yk:FuncId:=269
def wZ:AC:=
(.seq (.reg [oP 3 (.pbox 2 (.t 0)),
oP 4 (.mv (.c (.bool false)))] [1,2,3])
(.seq (.dreg [oP 5 (.load none (.t 1)),
oP 6 (.load (some 2) (.t 3)),
oP 7 (.call (.t 5) [false] [(.t 6)]),
oP 8 (.load none (.t 2)),
oP 9 (.bin .eql (.t 7) (.t 8)),
mV 4 9] [4] [[],[],[0,1],[],[0,1,2,3],[0,1,2,3,4]])
.ret))
abbrev CT:RsT:=[(4,none)]
theorem R6:an Tryz.prog Tryz.f269 10 wZ CT = true:=by kernel_rfl
theorem Qx:af Tryz.prog Yk = true:=by kernel_rfl
theorem Tw:ag Tryz.prog ⟨269,10,wZ,CT,0⟩:=⟨fun _=>⟨Qx,_,Tryz.func269,R6⟩,fun h=>by cases h⟩
abbrev W6:FuncId:=270
def Co:AC:=
(.seq (.reg [oP 3 (.pbox 9 (.t 0)),
oP 6 (.alloc [.int .i64 0, .int .i64 0, .int .i64 0, .int .i64 0, .int .i64 0, .int .i64 0, .int .i64 0, .slice 2 [], .slice 2 [], .nilmap]),
oP 7 (.mv (cI 0))] [1,2,3,6])
(.seq (.seq (.reg [oP 12 (.load (some 9) (.t 3)),
oP 13 (.call (.f 53) [true] [(.t 12)]),
mV 11 13,
oP 14 (.extract (.t 11) 0),
oP 15 (.extract (.t 11) 1),
oP 16 (.extract (.t 11) 2),
mV 7 16] [1,2,3,6,7])
(.seq (.reg [mV 17 7,
oP 18 (.bin .neq (.t 17) (cI 0))] [1,2,3,6,7,18])
(.cond (.t 18)
(.seq (.reg [oP 19 (.loadd (some 10) (.t 6)),
mV 20 7,
oN (.store 10 (.t 6) (.t 19)),
mV 7 20] [6,7])
.ret)
.skip)))
(.seq (.seq (.reg [mV 21 1,
oP 22 (.len (.t 21)),
oP 23 (.bin .gtr (.t 22) (cI 12))] [1,2,3,6,23])
(.cond (.t 23)
(.seq (.reg [oP 24 (.loadd (some 10) (.t 6)),
oN (.store 10 (.t 6) (.t 24)),
oP 7 (.mv (cI 3))] [6,7])
.ret)
.skip))
(.seq (.reg [oP 25 (.load (some 9) (.t 3)),
oP 26 (.mnew),
oP 27 (.build [.int .i64 0, .int .i64 0, .int .i64 0, .int .i64 0, .int .i64 0, .int .i64 0, .int .i64 0, .slice 2 [], .slice 2 [], .nilmap] [(0,9,(.t 25)),(9,1,(.t 26))]),
oN (.store 10 (.t 6) (.t 27))] [1,2,3,6])
(.seq (.seq (.reg [mV 28 1,
oP 29 (.len (.t 28)),
oP 30 (.mv (cI 0))] [2,3,6,28,29,30])
(.block 0
(.loop [2,3,6,28,29,30]
(.seq (.reg [oP 31 (.bin .lss (.t 30) (.t 29))] [2,3,6,28,29,30,31])
(.seq (.cond (.t 31)
.skip
(.exit 0))
(.seq (.block 1
(.seq (.reg [oP 32 (.ixS 3 (.t 28) (.t 30)),
oP 33 (.load (some 3) (.t 32)),
oP 9 (.alloc [.int .i64 0, .int .i64 0, .int .i64 0]),
oN (.store 3 (.t 9) (.t 33))] [2,3,6,9,28,29,30])
(.frz 9 true (.seq (.block 2
(.seq (.reg [oP 35 (.fieldAddr none 8 (.t 3)),
oP 36 (.load none (.t 35)),
oP 37 (.len (.t 36)),
oP 38 (.bin .sub (.t 37) (cI 1)),
oP 39 (.fieldAddr none 1 (.t 9)),
oP 40 (.load none (.t 39)),
oP 41 (.lit 0 1 1 [(0,(.t 40))]),
oP 42 (.call (.f 83) [false,false,true] [(cI 0),(.t 38),(.t 41)]),
mV 34 42] [2,3,6,9,28,29,30,34])
(.cond (.t 34)
(.seq (.reg [oP 43 (.loadd (some 10) (.t 6)),
oN (.store 10 (.t 6) (.t 43)),
oP 7 (.mv (cI 4))] [6,7])
.ret)
(.seq (.reg [oP 45 (.fieldAddr none 0 (.t 9)),
oP 46 (.load none (.t 45)),
oP 47 (.lit 0 1 1 [(0,(.t 46))]),
oP 48 (.call (.f 83) [false,false,true] [(cI 0),(cI 60),(.t 47)]),
mV 49 48,
gF 50 49 (.fieldAddr none 2 (.t 9)),
gF 51 49 (.load none (.t 50)),
gF 52 49 (.lit 0 1 1 [(0,(.t 51))]),
gF 53 49 (.call (.f 83) [false,false,true] [(cI (-50)),(cI 250),(.t 52)]),
oP 54 (.pick (.t 49) (.c (.bool true)) (.t 53)),
mV 44 54] [2,3,6,9,28,29,30,44])
(.cond (.t 44)
(.seq (.reg [oP 55 (.loadd (some 10) (.t 6)),
oN (.store 10 (.t 6) (.t 55)),
oP 7 (.mv (cI 7))] [6,7])
.ret)
.skip)))))
(.seq (.reg [oP 56 (.fieldAddr none 8 (.t 3)),
oP 57 (.load none (.t 56)),
oP 58 (.fieldAddr none 1 (.t 9)),
oP 59 (.load none (.t 58)),
oP 60 (.ixS 2 (.t 57) (.t 59)),
oP 61 (.fieldAddr none 1 (.t 60)),
oP 62 (.load none (.t 61)),
mV 10 62] [2,3,6,9,10,28,29,30])
(.qreg [oP 63 (.fieldAddr none 9 (.t 6)),
oP 64 (.load none (.t 63)),
oP 65 (.fieldAddr none 0 (.t 9)),
oP 66 (.load none (.t 65)),
oP 67 (.load (some 10) (.t 6)),
oP 68 (.fieldAddr none 0 (.t 9)),
oP 69 (.load none (.t 68)),
oP 70 (.call (.f 274) [true,false] [(.t 67),(.t 69)]),
oP 71 (.fieldAddr none 2 (.t 9)),
oP 72 (.load none (.t 71)),
mV 73 10,
oP 74 (.bin .sub (.t 72) (.t 73)),
oP 75 (.fieldAddr none 2 (.t 9)),
oP 76 (.load none (.t 75)),
mV 77 10,
oP 78 (.bin .add (.t 76) (.t 77)),
oP 79 (.build [.int .i64 0, .int .i64 0] [(0,1,(.t 74)),(1,1,(.t 78))]),
oP 80 (.call (.f 273) [false,false] [(.t 70),(.t 79)]),
oN (.mset .i (.t 64) (.t 66) (.t 80))] [2,3,6,28,29,30] [[],[0],[],[2],[],[],[5],[4,5,6],[],[8],[],[8,9,10],[],[12],[],[12,13,14],[8,9,10,11,12,13,14,15],[4,5,6,7,8,9,10,11,12,13,14,15,16],[0,1,2,3,4,5,6,7,8,9,10,11,12,13,14,15,16,17]] [([0,1,2,3,4,5,6,8,9,10,11,12,13,14,15,16],7),([],17),([],18)] []))))))
(.reg [oP 81 (.bin .add (.t 30) (cI 1)),
mV 30 81] [2,3,6,28,29,30])))))))
(.seq (.seq (.reg [mV 82 2,
oP 83 (.lit 0 1 1 [(0,(.t 82))]),
oP 84 (.call (.f 83) [false,false,true] [(cI 0),(cI 60),(.t 83)])] [6,84])
(.cond (.t 84)
(.seq (.reg [oP 85 (.loadd (some 10) (.t 6)),
oN (.store 10 (.t 6) (.t 85)),
oP 7 (.mv (cI 7))] [6,7])
.ret)
.skip))
(.seq (.reg [oP 86 (.loadd (some 10) (.t 6)),
oN (.store 10 (.t 6) (.t 86)),
oP 7 (.mv (cI 0))] [6,7])
.ret)))))))
abbrev yi:RsT:=[(6,some (some 10)),(7,none)]
theorem Yx:an Tryz.prog Tryz.f270 87 Co yi = true:=by kernel_rfl
theorem YQ:af Tryz.prog W6 = true:=by kernel_rfl
theorem VA:ag Tryz.prog ⟨270,87,Co,yi,2⟩:=⟨fun _=>⟨YQ,_,Tryz.func270,Yx⟩,fun h=>by cases h⟩
abbrev XW:FuncId:=271
def ER:AC:=
(.seq (.reg [oP 2 (.pbox 10 (.t 0)),
oP 3 (.pbox 1 (.t 1)),
oP 4 (.alloc [.int .i64 0, .int .i64 0]),
oP 5 (.mv (cI 0))] [2,3,4])
(.seq (.seq (.reg [oP 8 (.load (some 10) (.t 2)),
oP 9 (.fieldAddr (some 9) 0 (.t 2)),
oP 10 (.fieldAddr (some 2) 0 (.t 9)),
oP 11 (.load (some 2) (.t 10)),
oP 12 (.load none (.t 3)),
oP 13 (.call (.f 199) [true,false,false,false] [(.t 8),(cI 0),(.t 11),(.t 12)])] [3,4,13])
(.block 0
(.cg (.t 13) [14,15] (.seq (.reg [mV 6 14] [3,4,6,15])
(.reg [oP 7 (.alloc [.int .i64 0, .int .i64 0]),
oN (.store 2 (.t 7) (.t 15))] [3,4,6,7]))
(.block 1
(.seq (.reg [oP 16 (.load (some 2) (.t 7)),
oN (.store 2 (.t 4) (.t 16))] [3,4,6])
(.seq (.reg [mV 17 6,
oP 18 (.load none (.t 3)),
oP 19 (.bin .eql (.t 17) (.t 18))] [4,19])
(.cond (.t 19)
(.exit 0)
.skip)))))))
(.seq (.seq (.dreg [oP 20 (.load (some 2) (.t 4)),
oP 21 (.call (.f 276) [] []),
oP 22 (.eqa false [.i, .i] (.t 20) (.t 21))] [4,22] [[],[],[0,1]])
(.cond (.t 22)
(.seq (.reg [oP 23 (.build [.int .i64 0, .int .i64 0] []),
oN (.store 2 (.t 4) (.t 23)),
oP 5 (.mv (cI 9))] [4,5])
.ret)
.skip))
(.seq (.reg [oP 24 (.load (some 2) (.t 4)),
oN (.store 2 (.t 4) (.t 24)),
oP 5 (.mv (cI 0))] [4,5])
.ret))))
abbrev CO:RsT:=[(4,some (some 2)),(5,none)]
theorem Un:an Tryz.prog Tryz.f271 25 ER CO = true:=by kernel_rfl
theorem VB:af Tryz.prog XW = true:=by kernel_rfl
theorem X0:ag Tryz.prog ⟨271,25,ER,CO,0⟩:=⟨fun _=>⟨VB,_,Tryz.func271,Un⟩,fun h=>by cases h⟩
abbrev P3:FuncId:=272
def Gm:AC:=
(.seq (.reg [oP 8 (.load none (.t 1)),
mV 6 8] [0,2,3,4,6])
(.block 0
(.loop [0,2,3,4,6]
(.seq (.seq (.reg [mV 9 6,
oP 10 (.bin .leq (.t 9) (cI 60))] [0,2,3,4,6,10])
(.cond (.t 10)
.skip
(.exit 0)))
(.seq (.block 1
(.seq (.seq (.reg [mV 13 6,
oP 14 (.load none (.t 2)),
oP 15 (.bin .leq (.t 13) (.t 14))] [0,2,3,4,6,15])
(.cond (.t 15)
(.qreg [oP 16 (.load (some 2) (.t 3)),
oP 17 (.load (some 10) (.t 4)),
mV 18 6,
oP 19 (.call (.f 274) [true,false] [(.t 17),(.t 18)]),
oP 20 (.call (.f 273) [false,false] [(.t 16),(.t 19)]),
oN (.store 2 (.t 3) (.t 20))] [0,2,3,4,6] [[],[],[],[1,2],[0,1,2,3],[0,1,2,3,4]] [([0,1,2],3),([],4),([],5)] [])
.skip))
(.seq (.seq (.reg [mV 21 0,
mV 22 6,
oP 23 (.load (some 2) (.t 3)),
oP 24 (.call (.t 21) [false,false] [(.t 22),(.t 23)]),
oP 25 (.un .not (.t 24))] [0,2,3,4,6,25])
(.cond (.t 25)
.ret
.skip))
(.seq (.reg [oP 26 (.load (some 10) (.t 4)),
mV 27 6,
oP 28 (.call (.f 275) [true,false] [(.t 26),(.t 27)]),
oP 7 (.alloc [.int .i64 0, .int .i64 0]),
oN (.store 2 (.t 7) (.t 28))] [0,2,3,4,6,7])
(.frz 7 true (.seq (.dreg [oP 29 (.load (some 2) (.t 3)),
oP 30 (.call (.f 276) [] []),
oP 31 (.eqa true [.i, .i] (.t 29) (.t 30))] [0,2,3,4,6,7,31] [[],[],[0,1]])
(.cond (.t 31)
(.dreg [oP 32 (.fieldAddr none 0 (.t 3)),
oP 33 (.load none (.t 32)),
oP 34 (.fieldAddr none 0 (.t 7)),
oP 35 (.load none (.t 34)),
oP 36 (.bin .add (.t 33) (.t 35)),
oP 37 (.call (.f 277) [false] [(.t 36)]),
oP 38 (.fieldAddr none 1 (.t 3)),
oP 39 (.load none (.t 38)),
oP 40 (.fieldAddr none 1 (.t 7)),
oP 41 (.load none (.t 40)),
oP 42 (.bin .add (.t 39) (.t 41)),
oP 43 (.call (.f 277) [false] [(.t 42)]),
oP 44 (.build [.int .i64 0, .int .i64 0] [(0,1,(.t 37)),(1,1,(.t 43))]),
oN (.store 2 (.t 3) (.t 44))] [0,2,3,4,6] [[],[0],[],[2],[0,1,2,3],[0,1,2,3,4],[],[6],[],[8],[6,7,8,9],[0,1,2,3,4,5,6,7,8,9,10],[0,1,2,3,4,5,6,7,8,9,10,11],[0,1,2,3,4,5,6,7,8,9,10,11,12]])
.skip)))))))
(.reg [mV 11 6,
oP 12 (.bin .add (.t 11) (cI 1)),
mV 6 12] [0,2,3,4,6]))))))
abbrev A1:RsT:=[]
theorem RX:an Tryz.prog Tryz.f272 45 Gm A1 = true:=by kernel_rfl
theorem Rw:af Tryz.prog P3 = true:=by kernel_rfl
theorem UL:ag Tryz.prog ⟨272,45,Gm,A1,0⟩:=⟨fun _=>⟨Rw,_,Tryz.func272,RX⟩,fun h=>by cases h⟩
abbrev V4:FuncId:=273
def Fk:AC:=
(.seq (.reg [oP 2 (.pbox 2 (.t 0)),
oP 3 (.pbox 2 (.t 1)),
oP 4 (.alloc [.int .i64 0, .int .i64 0])] [2,3,4])
(.seq (.reg [oP 6 (.fieldAddr none 0 (.t 2)),
oP 7 (.load none (.t 6)),
oP 8 (.fieldAddr none 0 (.t 3)),
oP 9 (.load none (.t 8)),
oP 10 (.mx [(.t 7),(.t 9)]),
oP 11 (.fieldAddr none 1 (.t 2)),
oP 12 (.load none (.t 11)),
oP 13 (.fieldAddr none 1 (.t 3)),
oP 14 (.load none (.t 13)),
oP 15 (.mn [(.t 12),(.t 14)]),
oP 16 (.build [.int .i64 0, .int .i64 0] [(0,1,(.t 10)),(1,1,(.t 15))]),
oP 5 (.alloc [.int .i64 0, .int .i64 0]),
oN (.store 2 (.t 5) (.t 16))] [2,3,4,5])
(.frz 5 true (.seq (.seq (.dreg [oP 17 (.load (some 2) (.t 2)),
oP 18 (.call (.f 276) [] []),
oP 19 (.eqa false [.i, .i] (.t 17) (.t 18)),
mV 20 19,
gF 21 20 (.load (some 2) (.t 3)),
gF 22 20 (.call (.f 276) [] []),
gF 23 20 (.eqa false [.i, .i] (.t 21) (.t 22)),
oP 24 (.pick (.t 20) (.c (.bool true)) (.t 23)),
mV 25 24,
gF 26 25 (.fieldAddr none 0 (.t 5)),
gF 27 25 (.load none (.t 26)),
gF 28 25 (.fieldAddr none 1 (.t 5)),
gF 29 25 (.load none (.t 28)),
gF 30 25 (.bin .gtr (.t 27) (.t 29)),
oP 31 (.pick (.t 25) (.c (.bool true)) (.t 30))] [4,5,31] [[],[],[0,1],[0,1,2],[0,1,2,3],[0,1,2,3],[0,1,2,3,4,5],[0,1,2,3,4,5,6],[0,1,2,3,4,5,6,7],[0,1,2,3,4,5,6,7,8],[0,1,2,3,4,5,6,7,8,9],[0,1,2,3,4,5,6,7,8],[0,1,2,3,4,5,6,7,8,11],[0,1,2,3,4,5,6,7,8,9,10,11,12],[0,1,2,3,4,5,6,7,8,9,10,11,12,13]])
(.cond (.t 31)
(.seq (.reg [oP 32 (.call (.f 276) [] []),
oN (.store 2 (.t 4) (.t 32))] [4])
.ret)
.skip))
(.seq (.reg [oP 33 (.load (some 2) (.t 5)),
oN (.store 2 (.t 4) (.t 33))] [4])
.ret)))))
abbrev zp:RsT:=[(4,some (some 2))]
theorem Z9:an Tryz.prog Tryz.f273 34 Fk zp = true:=by kernel_rfl
theorem NZ:af Tryz.prog V4 = true:=by kernel_rfl
theorem aeO:ag Tryz.prog ⟨273,34,Fk,zp,0⟩:=⟨fun _=>⟨NZ,_,Tryz.func273,Z9⟩,fun h=>by cases h⟩
abbrev Sw:FuncId:=274
def En:AC:=
(.seq (.reg [oP 2 (.pbox 10 (.t 0)),
oP 4 (.alloc [.int .i64 0, .int .i64 0])] [1,2,4])
(.seq (.seq (.reg [oP 8 (.fieldAddr none 9 (.t 2)),
oP 9 (.load none (.t 8)),
mV 10 1,
oP 11 (.mget true .i (.agg [.int .i64 0, .int .i64 0]) (.t 9) (.t 10)),
mV 7 11,
oP 12 (.extract (.t 7) 0),
oP 13 (.extract (.t 7) 1),
oP 5 (.alloc [.int .i64 0, .int .i64 0]),
oN (.store 2 (.t 5) (.t 12)),
mV 6 13] [4,5,6])
(.frz 5 true (.seq (.reg [mV 14 6] [4,5,14])
(.cond (.t 14)
(.seq (.reg [oP 15 (.load (some 2) (.t 5)),
oN (.store 2 (.t 4) (.t 15))] [4])
.ret)
.skip))))
(.seq (.reg [oP 16 (.build [.int .i64 0, .int .i64 0] [(1,1,(cI 200))]),
oN (.store 2 (.t 4) (.t 16))] [4])
.ret)))
abbrev zr:RsT:=[(4,some (some 2))]
theorem SN:an Tryz.prog Tryz.f274 17 En zr = true:=by kernel_rfl
theorem YI:af Tryz.prog Sw = true:=by kernel_rfl
theorem S0:ag Tryz.prog ⟨274,17,En,zr,0⟩:=⟨fun _=>⟨YI,_,Tryz.func274,SN⟩,fun h=>by cases h⟩
abbrev Xy:FuncId:=275
def DY:AC:=
(.seq (.reg [oP 2 (.pbox 10 (.t 0)),
oP 3 (.pbox 1 (.t 1)),
oP 4 (.alloc [.int .i64 0, .int .i64 0])] [2,3,4])
(.seq (.seq (.reg [oP 5 (.fieldAddr (some 9) 0 (.t 2)),
oP 6 (.fieldAddr none 7 (.t 5)),
oP 7 (.load none (.t 6)),
oP 8 (.mkfunc (.func 316) [] [(.t 3)]),
oP 9 (.call (.f 315) [true,false] [(.t 7),(.t 8)])] [2,4,9])
(.cond (.t 9)
(.seq (.reg [oP 10 (.fieldAddr (some 9) 0 (.t 2)),
oP 11 (.fieldAddr (some 2) 4 (.t 10)),
oP 12 (.load (some 2) (.t 11)),
oN (.store 2 (.t 4) (.t 12))] [4])
.ret)
.skip))
(.seq (.reg [oP 13 (.fieldAddr (some 9) 0 (.t 2)),
oP 14 (.fieldAddr (some 2) 2 (.t 13)),
oP 15 (.load (some 2) (.t 14)),
oN (.store 2 (.t 4) (.t 15))] [4])
.ret)))
abbrev Bu:RsT:=[(4,some (some 2))]
theorem adJ:an Tryz.prog Tryz.f275 16 DY Bu = true:=by kernel_rfl
theorem RU:af Tryz.prog Xy = true:=by kernel_rfl
theorem Sv:ag Tryz.prog ⟨275,16,DY,Bu,0⟩:=⟨fun _=>⟨RU,_,Tryz.func275,adJ⟩,fun h=>by cases h⟩
abbrev Up:FuncId:=276
def B5:AC:=
(.seq (.reg [oP 0 (.alloc [.int .i64 0, .int .i64 0])] [0])
(.seq (.reg [oP 1 (.build [.int .i64 0, .int .i64 0] [(0,1,(cI 1)),(1,1,(cI 0))]),
oN (.store 2 (.t 0) (.t 1))] [0])
.ret))
abbrev xT:RsT:=[(0,some (some 2))]
theorem abZ:an Tryz.prog Tryz.f276 2 B5 xT = true:=by kernel_rfl
theorem Z6:af Tryz.prog Up = true:=by kernel_rfl
theorem QV:ag Tryz.prog ⟨276,2,B5,xT,0⟩:=⟨fun _=>⟨Z6,_,Tryz.func276,abZ⟩,fun h=>by cases h⟩
abbrev acn:FuncId:=277
def Gz:AC:=
(.seq (.reg [oP 2 (.mv (cI 0))] [0])
(.seq (.reg [mV 3 0,
oP 4 (.mn [(cI 200),(.t 3)]),
oP 5 (.mx [(cI 0),(.t 4)]),
mV 2 5] [2])
.ret))
abbrev FW:RsT:=[(2,none)]
theorem OG:an Tryz.prog Tryz.f277 6 Gz FW = true:=by kernel_rfl
theorem XA:af Tryz.prog acn = true:=by kernel_rfl
theorem Nj:ag Tryz.prog ⟨277,6,Gz,FW,0⟩:=⟨fun _=>⟨XA,_,Tryz.func277,OG⟩,fun h=>by cases h⟩
abbrev ZV:FuncId:=278
def C3:AC:=
(.seq (.reg [oP 1 (.pbox 11 (.t 0)),
oP 2 (.mv (.c .nilptr)),
oP 3 (.mv (cI 0))] [1])
(.seq (.seq (.reg [oP 15 (.load (some 11) (.t 1)),
oP 16 (.call (.f 54) [true] [(.t 15)]),
mV 14 16,
oP 17 (.extract (.t 14) 0),
oP 18 (.extract (.t 14) 1),
oP 19 (.extract (.t 14) 2),
mV 4 17,
mV 5 18,
mV 6 19] [1,6])
(.seq (.reg [mV 20 6,
oP 21 (.bin .neq (.t 20) (cI 0))] [1,6,21])
(.cond (.t 21)
(.seq (.reg [mV 22 6,
oP 2 (.mv (.c .nilptr)),
mV 3 22] [2,3])
.ret)
.skip)))
(.seq (.dreg [oP 23 (.load (some 11) (.t 1)),
oP 24 (.fieldAddr (some 1) 0 (.t 1)),
oP 25 (.fieldAddr none 0 (.t 24)),
oP 26 (.load none (.t 25)),
oP 27 (.len (.t 26)),
oP 28 (.mksl 2 1 8 (.int .i64 0) (.t 27) (.t 27)),
oP 29 (.mnew),
oP 30 (.build [.slice 7 [], .slice 7 [], .int .i64 0, .int .i64 0, .int .i64 0, .int .i64 0, .slice 2 [], .slice 3 [], .slice 1 [], .slice 2 [], .slice 1 [], .slice 1 [], .int .i64 0, .nilmap] [(0,11,(.t 23)),(11,1,(.t 28)),(13,1,(.t 29))]),
oP 31 (.box 14 (.t 30)),
mV 7 31] [1,7] [[],[],[1],[1,2],[1,2,3],[1,2,3,4],[],[0,1,2,3,4,5,6],[0,1,2,3,4,5,6,7],[0,1,2,3,4,5,6,7,8]])
(.seq (.reg [oP 33 (.fieldAddr (some 2) 6 (.t 1)),
oP 34 (.load (some 2) (.t 33)),
oP 35 (.fieldAddr none 8 (.t 1)),
oP 36 (.load none (.t 35)),
oP 37 (.fieldAddr none 9 (.t 1)),
oP 38 (.load none (.t 37)),
oP 39 (.call (.f 90) [true,true,true] [(.t 34),(.t 36),(.t 38)]),
mV 32 39,
oP 40 (.extract (.t 32) 0),
oP 41 (.extract (.t 32) 1),
oP 8 (.alloc [.slice 1 [], .slice 1 []]),
oN (.store 2 (.t 8) (.t 40)),
mV 9 41] [1,7,8])
(.frz 8 true (.seq (.seq (.reg [oP 42 (.fieldAddr (some 1) 0 (.t 1)),
oP 43 (.fieldAddr none 0 (.t 42)),
oP 44 (.load none (.t 43)),
oP 45 (.len (.t 44)),
oP 46 (.mv (cI 0))] [1,7,8,44,45,46])
(.block 0
(.loop [1,7,8,44,45,46]
(.seq (.reg [oP 47 (.bin .lss (.t 46) (.t 45))] [1,7,8,44,45,46,47])
(.seq (.cond (.t 47)
.skip
(.exit 0))
(.seq (.block 1
(.seq (.reg [mV 48 46,
oP 49 (.ixS 7 (.t 44) (.t 46)),
oP 50 (.load (some 7) (.t 49)),
oP 11 (.alloc [.str ByteArray.empty, .int .i64 0, .int .i64 0, .int .i64 0, .slice 1 [], .int .i64 0, .int .i64 0]),
mV 10 48,
oN (.store 7 (.t 11) (.t 50))] [1,7,8,10,11,44,45,46])
(.frz 11 true (.seq (.seq (.reg [oP 51 (.fieldAddr (some 1) 0 (.t 1)),
oP 52 (.fieldAddr none 0 (.t 51)),
oP 53 (.load none (.t 52)),
oP 54 (.len (.t 53)),
oP 55 (.mv (cI 0))] [1,7,8,10,11,44,45,46,53,54,55])
(.block 2
(.loop [1,7,8,10,11,44,45,46,53,54,55]
(.seq (.reg [oP 56 (.bin .lss (.t 55) (.t 54))] [1,7,8,10,11,44,45,46,53,54,55,56])
(.seq (.cond (.t 56)
.skip
(.exit 2))
(.seq (.block 3
(.seq (.reg [mV 57 55,
oP 58 (.ixS 7 (.t 53) (.t 55)),
oP 59 (.load (some 7) (.t 58)),
oP 13 (.alloc [.str ByteArray.empty, .int .i64 0, .int .i64 0, .int .i64 0, .slice 1 [], .int .i64 0, .int .i64 0]),
mV 12 57,
oN (.store 7 (.t 13) (.t 59))] [1,7,8,10,11,12,13,44,45,46,53,54,55])
(.frz 13 true (.seq (.reg [oP 60 (.fieldAddr none 4 (.t 13)),
oP 61 (.load none (.t 60)),
oP 62 (.fieldAddr none 0 (.t 11)),
oP 63 (.load none (.t 62)),
oP 64 (.call (.f 164) [true,false] [(.t 61),(.t 63)])] [1,7,8,10,11,12,44,45,46,53,54,55,64])
(.cond (.t 64)
(.dreg [mV 65 7,
oP 66 (.nilchk (.t 65)),
oP 67 (.fieldAddr none 11 (.t 66)),
oP 68 (.load none (.t 67)),
mV 69 10,
oP 70 (.ixS 1 (.t 68) (.t 69)),
oP 71 (.load none (.t 70)),
mV 72 12,
oP 73 (.bin .shl (cI 1) (.t 72)),
oP 74 (.bin .or (.t 71) (.t 73)),
oP 75 (.ixS 1 (.t 68) (.t 69)),
oN (.store 1 (.t 75) (.t 74))] [1,7,8,10,11,44,45,46,53,54,55] [[],[0],[0,1],[0,1,2],[],[0,1,2,3,4],[0,1,2,3,4,5],[],[7],[0,1,2,3,4,5,6,7,8],[0,1,2,3,4,5,6,7,8,9],[0,1,2,3,4,5,6,7,8,9,10]])
.skip)))))
(.reg [oP 76 (.bin .add (.t 55) (cI 1)),
mV 55 76] [1,7,8,10,11,44,45,46,53,54,55])))))))
(.seq (.reg [oP 77 (.fieldAddr none 10 (.t 1)),
oP 78 (.load none (.t 77)),
mV 79 10,
oP 80 (.ixS 1 (.t 78) (.t 79)),
oP 81 (.load none (.t 80)),
oP 82 (.mkfunc (.func 317) [] [(.t 8)]),
oP 83 (.call (.f 145) [true,false] [(.t 81),(.t 82)])] [1,7,8,10,44,45,46,83])
(.cond (.t 83)
(.dreg [mV 84 7,
oP 85 (.nilchk (.t 84)),
oP 86 (.fieldAddr none 12 (.t 85)),
oP 87 (.load none (.t 86)),
mV 88 10,
oP 89 (.bin .shl (cI 1) (.t 88)),
oP 90 (.bin .or (.t 87) (.t 89)),
oP 91 (.nilchk (.t 84)),
oP 92 (.fieldAddr none 12 (.t 91)),
oN (.store 1 (.t 92) (.t 90))] [1,7,8,44,45,46] [[],[0],[0,1],[0,1,2],[],[4],[0,1,2,3,4,5],[0,1,2,3,4,5,6],[0,1,2,3,4,5,6,7],[0,1,2,3,4,5,6,7,8]])
.skip))))))
(.reg [oP 93 (.bin .add (.t 46) (cI 1)),
mV 46 93] [1,7,8,44,45,46])))))))
(.seq (.reg [mV 94 7,
mV 2 94,
oP 3 (.mv (cI 0))] [2,3])
.ret)))))))
abbrev Az:RsT:=[(2,none),(3,none)]
theorem Ot:an Tryz.prog Tryz.f278 95 C3 Az = true:=by kernel_rfl
theorem Zj:af Tryz.prog ZV = true:=by kernel_rfl
theorem O6:ag Tryz.prog ⟨278,95,C3,Az,2⟩:=⟨fun _=>⟨Zj,_,Tryz.func278,Ot⟩,fun h=>by cases h⟩
abbrev aeL:FuncId:=279
def x9:AC:=
(.seq (.reg [oP 2 (.mv (cI 0))] [0])
(.seq (.reg [mV 3 0,
oP 4 (.nilchk (.t 3)),
oP 5 (.fieldAddr none 11 (.t 4)),
oP 6 (.load none (.t 5)),
oP 7 (.len (.t 6)),
oP 8 (.bin .shl (cI 1) (.t 7)),
oP 9 (.bin .sub (.t 8) (cI 1)),
mV 2 9] [2])
.ret))
abbrev Ao:RsT:=[(2,none)]
theorem Ps:an Tryz.prog Tryz.f279 10 x9 Ao = true:=by kernel_rfl
theorem aek:af Tryz.prog aeL = true:=by kernel_rfl
theorem Vd:ag Tryz.prog ⟨279,10,x9,Ao,0⟩:=⟨fun _=>⟨aek,_,Tryz.func279,Ps⟩,fun h=>by cases h⟩
abbrev TL:FuncId:=280
def Dq:AC:=
(.seq (.reg [oP 6 (.mv (cI 0))] [0,1,2])
(.seq (.seq (.reg [mV 9 0,
oP 10 (.mkfunc (.func 318) [(.t 9)] []),
mV 11 0,
oP 12 (.mkfunc (.func 319) [(.t 11)] []),
mV 13 0,
oP 14 (.mkfunc (.func 320) [(.t 13)] []),
mV 15 0,
oP 16 (.mkfunc (.func 321) [(.t 15)] []),
oP 17 (.build [.nilfunc, .nilfunc, .nilfunc, .nilfunc] [(0,1,(.t 10)),(1,1,(.t 12)),(2,1,(.t 14)),(3,1,(.t 16))]),
oP 18 (.mv (cI 0))] [1,2,17,18])
(.block 0
(.loop [1,2,17,18]
(.seq (.reg [oP 19 (.bin .lss (.t 18) (cI 4))] [1,2,17,18,19])
(.seq (.cond (.t 19)
.skip
(.exit 0))
(.seq (.block 1
(.seq (.reg [mV 20 18,
oP 21 (.ixV 4 1 none (.t 17) (.t 18)),
mV 7 20,
mV 8 21] [1,2,7,8,17,18])
(.seq (.reg [mV 22 8,
mV 23 1,
mV 24 2,
oP 25 (.call (.t 22) [false,false] [(.t 23),(.t 24)])] [1,2,7,17,18,25])
(.cond (.t 25)
(.seq (.reg [mV 26 7,
oP 27 (.bin .add (cI 1) (.t 26)),
mV 6 27] [6])
.ret)
.skip))))
(.reg [oP 28 (.bin .add (.t 18) (cI 1)),
mV 18 28] [1,2,17,18])))))))
(.seq (.reg [oP 6 (.mv (cI 0))] [6])
.ret)))
abbrev Et:RsT:=[(6,none)]
theorem Vr:an Tryz.prog Tryz.f280 29 Dq Et = true:=by kernel_rfl
theorem Ss:af Tryz.prog TL = true:=by kernel_rfl
theorem VJ:ag Tryz.prog ⟨280,29,Dq,Et,0⟩:=⟨fun _=>⟨Ss,_,Tryz.func280,Vr⟩,fun h=>by cases h⟩
abbrev acS:FuncId:=281
def EO:AC:=
(.seq (.reg [oP 3 (.pbox 1 (.t 0))] [1,2,3])
(.seq (.reg [oP 5 (.load none (.t 1)),
oP 6 (.call (.f 282) [false] [(.t 5)])] [1,2,3,6])
(.block 0
(.cg (.t 6) [7] (.reg [mV 4 7] [1,2,3,4])
(.block 1
(.seq (.qreg [oP 8 (.load none (.t 2)),
oP 9 (.load none (.t 1)),
mV 10 4,
oP 11 (.call (.f 280) [false,false,false] [(.t 8),(.t 9),(.t 10)]),
oP 12 (.bin .eql (.t 11) (cI 0)),
mV 13 12,
gT 14 13 (.load none (.t 3)),
gT 15 13 (.mv (.t 4)),
gT 16 13 (.load none (.t 1)),
gT 17 13 (.mv (.t 4)),
gT 18 13 (.bin .shl (cI 1) (.t 17)),
gT 19 13 (.bin .andNot (.t 16) (.t 18)),
gT 20 13 (.call (.t 14) [false,false] [(.t 15),(.t 19)]),
gT 21 13 (.un .not (.t 20)),
oP 22 (.pick (.t 13) (.t 21) (.c (.bool false)))] [22] [[],[],[],[0,1,2],[0,1,2,3],[0,1,2,3,4],[0,1,2,3,4,5],[0,1,2,3,4,5],[0,1,2,3,4,5],[0,1,2,3,4,5],[0,1,2,3,4,5,9],[0,1,2,3,4,5,8,9,10],[0,1,2,3,4,5,6,7,8,9,10,11],[0,1,2,3,4,5,6,7,8,9,10,11,12],[0,1,2,3,4,5,6,7,8,9,10,11,12,13]] [([0,1,2],3),([4,5,6,7,8,9,10,11],12)] [13,14])
(.cond (.t 22)
.ret
.skip)))))))
abbrev Ax:RsT:=[]
theorem N0:an Tryz.prog Tryz.f281 23 EO Ax = true:=by kernel_rfl
theorem Yb:af Tryz.prog acS = true:=by kernel_rfl
theorem aeJ:ag Tryz.prog ⟨281,23,EO,Ax,0⟩:=⟨fun _=>⟨Yb,_,Tryz.func281,N0⟩,fun h=>by cases h⟩
abbrev Tt:FuncId:=282
def zV:AC:=
(.seq (.reg [oP 1 (.pbox 1 (.t 0)),
oP 2 (.mv (.c .nilfunc))] [1])
(.seq (.reg [oP 3 (.mkfunc (.func 322) [] [(.t 1)]),
mV 2 3] [2])
.ret))
abbrev AS:RsT:=[(2,none)]
theorem aaF:an Tryz.prog Tryz.f282 4 zV AS = true:=by kernel_rfl
theorem Vm:af Tryz.prog Tt = true:=by kernel_rfl
theorem Za:ag Tryz.prog ⟨282,4,zV,AS,0⟩:=⟨fun _=>⟨Vm,_,Tryz.func282,aaF⟩,fun h=>by cases h⟩
abbrev QP:FuncId:=283
def yw:AC:=
(.seq (.reg [oP 2 (.pbox 5 (.t 0)),
oP 3 (.pbox 1 (.t 1)),
oP 4 (.alloc [.slice 1 [], .slice 1 [], .slice 4 [], .slice 5 [], .slice 4 []]),
oP 5 (.mv (cI 0))] [2,3,4])
(.seq (.reg [oP 6 (.load (some 5) (.t 2)),
oP 7 (.build [.slice 1 [], .slice 1 [], .slice 4 [], .slice 5 [], .slice 4 []] [(0,5,(.t 6))]),
oN (.store 5 (.t 4) (.t 7))] [2,3,4])
(.seq (.seq (.reg [oP 9 (.load (some 5) (.t 2)),
oP 10 (.call (.f 56) [true] [(.t 9)]),
mV 8 10,
oP 11 (.extract (.t 8) 0),
oP 12 (.extract (.t 8) 1),
oP 13 (.extract (.t 8) 2),
mV 5 13] [3,4,5])
(.seq (.reg [mV 14 5,
oP 15 (.bin .neq (.t 14) (cI 0))] [3,4,5,15])
(.cond (.t 15)
(.seq (.reg [oP 16 (.loadd (some 5) (.t 4)),
mV 17 5,
oN (.store 5 (.t 4) (.t 16)),
mV 5 17] [4,5])
.ret)
.skip)))
(.seq (.reg [oP 19 (.load none (.t 3)),
oP 20 (.mkfunc (.func 324) [] [(.t 4),(.t 3)]),
oP 21 (.call (.f 323) [true,false] [(.t 19),(.t 20)]),
mV 18 21,
oP 22 (.extract (.t 18) 0),
oP 23 (.extract (.t 18) 1),
mV 5 23] [4,5])
(.seq (.reg [oP 24 (.loadd (some 5) (.t 4)),
mV 25 5,
oN (.store 5 (.t 4) (.t 24)),
mV 5 25] [4,5])
.ret)))))
abbrev EE:RsT:=[(4,some (some 5)),(5,none)]
theorem adQ:an Tryz.prog Tryz.f283 26 yw EE = true:=by kernel_rfl
theorem US:af Tryz.prog QP = true:=by kernel_rfl
theorem Zy:ag Tryz.prog ⟨283,26,yw,EE,0⟩:=⟨fun _=>⟨US,_,Tryz.func283,adQ⟩,fun h=>by cases h⟩
abbrev YH:FuncId:=284
def Gu:AC:=
(.seq (.reg [oP 2 (.pbox 5 (.t 0)),
oP 4 (.nilS 1 1)] [1,2,4])
(.seq (.seq (.reg [oP 6 (.fieldAddr (some 5) 0 (.t 2)),
oP 7 (.fieldAddr none 3 (.t 6)),
oP 8 (.load none (.t 7)),
oP 9 (.len (.t 8)),
oP 10 (.mv (cI 0))] [1,4,9,10])
(.block 0
(.loop [1,4,9,10]
(.seq (.reg [oP 11 (.bin .lss (.t 10) (.t 9))] [1,4,9,10,11])
(.seq (.cond (.t 11)
.skip
(.exit 0))
(.seq (.block 1
(.seq (.reg [mV 12 10,
mV 5 12] [1,4,5,9,10])
(.seq (.reg [mV 13 5,
mV 14 1,
oP 15 (.bin .neq (.t 13) (.t 14))] [1,4,5,9,10,15])
(.cond (.t 15)
(.reg [mV 16 4,
mV 17 5,
oP 18 (.lit 0 1 1 [(0,(.t 17))]),
oP 19 (.append 1 8 (.t 16) (.t 18)),
mV 4 19] [1,4,9,10])
.skip))))
(.reg [oP 20 (.bin .add (.t 10) (cI 1)),
mV 10 20] [1,4,9,10])))))))
(.seq (.reg [mV 21 4,
oP 4 (.mvd (.t 21))] [4])
.ret)))
abbrev C0:RsT:=[(4,none)]
theorem PH:an Tryz.prog Tryz.f284 22 Gu C0 = true:=by kernel_rfl
theorem aaS:af Tryz.prog YH = true:=by kernel_rfl
theorem U5:ag Tryz.prog ⟨284,22,Gu,C0,0⟩:=⟨fun _=>⟨aaS,_,Tryz.func284,PH⟩,fun h=>by cases h⟩
abbrev abS:FuncId:=285
def Fw:AC:=
(.seq (.reg [oP 2 (.pbox 1 (.t 0))] [1,2])
(.seq (.reg [oP 3 (.alloc [.nilfunc])] [1,2,3])
(.seq (.reg [oP 5 (.mkfunc (.func 286) [] [(.t 2),(.t 1),(.t 3)]),
oN (.store 1 (.t 3) (.t 5))] [1,3])
(.seq (.reg [oP 6 (.fieldAddr (some 5) 0 (.t 1)),
oP 7 (.fieldAddr none 3 (.t 6)),
oP 8 (.load none (.t 7)),
oP 9 (.len (.t 8)),
oP 10 (.bin .add (.t 9) (cI 1)),
oP 11 (.mv (cI 0))] [3,10,11])
(.block 0
(.loop [3,10,11]
(.seq (.reg [oP 12 (.bin .lss (.t 11) (.t 10))] [3,10,11,12])
(.seq (.cond (.t 12)
.skip
(.exit 0))
(.seq (.block 1
(.seq (.reg [mV 13 11,
mV 4 13] [3,4,10,11])
(.seq (.reg [oP 14 (.load none (.t 3)),
mV 15 4,
oP 16 (.call (.t 14) [true,false,false] [(.c (.slice 1 [])),(cI 0),(.t 15)]),
oP 17 (.un .not (.t 16))] [3,10,11,17])
(.cond (.t 17)
.ret
.skip))))
(.reg [oP 18 (.bin .add (.t 11) (cI 1)),
mV 11 18] [3,10,11]))))))))))
abbrev Ee:RsT:=[]
theorem abh:an Tryz.prog Tryz.f285 19 Fw Ee = true:=by kernel_rfl
theorem aah:af Tryz.prog abS = true:=by kernel_rfl
theorem OO:ag Tryz.prog ⟨285,19,Fw,Ee,0⟩:=⟨fun _=>⟨aah,_,Tryz.func285,abh⟩,fun h=>by cases h⟩
abbrev Xt:FuncId:=286
def ED:AC:=
(.seq (.reg [oP 9 (.mv (.c (.bool false)))] [0,1,2,3,4,5])
(.seq (.seq (.reg [mV 11 2,
oP 12 (.bin .eql (.t 11) (cI 0))] [0,1,2,3,4,5,12])
(.cond (.t 12)
(.seq (.reg [oP 13 (.load none (.t 3)),
mV 14 0,
oP 15 (.call (.t 13) [true] [(.t 14)]),
mV 9 15] [9])
.ret)
.skip))
(.seq (.seq (.reg [mV 16 1,
mV 10 16] [0,2,4,5,10])
(.block 0
(.loop [0,2,4,5,10]
(.seq (.seq (.reg [mV 17 10,
oP 18 (.fieldAddr (some 5) 0 (.t 4)),
oP 19 (.fieldAddr none 3 (.t 18)),
oP 20 (.load none (.t 19)),
oP 21 (.len (.t 20)),
mV 22 2,
oP 23 (.bin .sub (.t 21) (.t 22)),
oP 24 (.bin .leq (.t 17) (.t 23))] [0,2,4,5,10,24])
(.cond (.t 24)
.skip
(.exit 0)))
(.seq (.block 1
(.seq (.creg [oP 27 (.load none (.t 5)),
mV 28 0,
oP 29 (.call (.f 118) [true] [(.t 28)]),
mV 30 10,
oP 31 (.lit 0 1 1 [(0,(.t 30))]),
oP 32 (.append 1 8 (.t 29) (.t 31)),
mV 33 10,
oP 34 (.bin .add (.t 33) (cI 1)),
mV 35 2,
oP 36 (.bin .sub (.t 35) (cI 1)),
oP 37 (.call (.t 27) [true,false,false] [(.t 32),(.t 34),(.t 36)]),
oP 38 (.un .not (.t 37))] [0,2,4,5,10,38] [[],[],[1],[],[3],[1,2,3,4],[],[6],[],[8],[0,1,2,3,4,5,6,7,8,9],[0,1,2,3,4,5,6,7,8,9,10]] [([0,1,3,4,6,7,8,9],2),([],5),([],10)] [11])
(.cond (.t 38)
(.seq (.reg [oP 9 (.mv (.c (.bool false)))] [9])
.ret)
.skip)))
(.reg [mV 25 10,
oP 26 (.bin .add (.t 25) (cI 1)),
mV 10 26] [0,2,4,5,10]))))))
(.seq (.reg [oP 9 (.mv (.c (.bool true)))] [9])
.ret))))
abbrev yu:RsT:=[(9,none)]
theorem aea:an Tryz.prog Tryz.f286 39 ED yu = true:=by kernel_rfl
theorem QF:af Tryz.prog Xt = true:=by kernel_rfl
theorem XB:ag Tryz.prog ⟨286,39,ED,yu,0⟩:=⟨fun _=>⟨QF,_,Tryz.func286,aea⟩,fun h=>by cases h⟩
abbrev OY:FuncId:=287
def A7:AC:=
(.seq (.reg [oP 2 (.pbox 5 (.t 0)),
oP 4 (.mv (cI 0))] [1,2])
(.seq (.seq (.reg [oP 6 (.fieldAddr (some 5) 0 (.t 2)),
oP 7 (.fieldAddr none 3 (.t 6)),
oP 8 (.load none (.t 7)),
oP 9 (.len (.t 8)),
oP 10 (.mv (cI 0))] [1,2,9,10])
(.block 0
(.loop [1,2,9,10]
(.seq (.reg [oP 11 (.bin .lss (.t 10) (.t 9))] [1,2,9,10,11])
(.seq (.cond (.t 11)
.skip
(.exit 0))
(.seq (.block 1
(.seq (.reg [mV 12 10,
mV 5 12] [1,2,5,9,10])
(.seq (.reg [oP 13 (.load (some 5) (.t 2)),
mV 14 5,
mV 15 1,
oP 16 (.call (.f 325) [true,false,true] [(.t 13),(.t 14),(.t 15)])] [1,2,5,9,10,16])
(.cond (.t 16)
(.seq (.reg [mV 17 5,
mV 4 17] [4])
.ret)
.skip))))
(.reg [oP 18 (.bin .add (.t 10) (cI 1)),
mV 10 18] [1,2,9,10])))))))
(.seq (.reg [oP 4 (.mv (cI (-1)))] [4])
.ret)))
abbrev CN:RsT:=[(4,none)]
theorem UT:an Tryz.prog Tryz.f287 19 A7 CN = true:=by kernel_rfl
theorem Xd:af Tryz.prog OY = true:=by kernel_rfl
theorem Sl:ag Tryz.prog ⟨287,19,A7,CN,0⟩:=⟨fun _=>⟨Xd,_,Tryz.func287,UT⟩,fun h=>by cases h⟩
abbrev Y1:FuncId:=288
def yj:AC:=
(.seq (.reg [oP 3 (.pbox 5 (.t 0)),
oP 6 (.mv (.c .nilptr))] [1,2,3])
(.seq (.reg [oP 19 (.fieldAddr (some 5) 0 (.t 3)),
oP 20 (.fieldAddr none 1 (.t 19)),
oP 21 (.load none (.t 20)),
oP 22 (.len (.t 21)),
oP 7 (.alloc [.int .i64 0]),
oN (.store 1 (.t 7) (.t 22))] [1,2,3,7])
(.frz 7 false (.seq (.reg [oP 23 (.load none (.t 7)),
oP 24 (.bin .add (.t 23) (cI 1)),
mV 8 24] [1,2,3,7,8])
(.seq (.reg [mV 25 8,
oP 26 (.bin .add (.t 25) (cI 1)),
oP 27 (.fieldAddr (some 5) 0 (.t 3)),
oP 28 (.fieldAddr none 3 (.t 27)),
oP 29 (.load none (.t 28)),
oP 30 (.len (.t 29)),
oP 31 (.mksl 2 1 8 (.int .i64 0) (.t 30) (.t 30)),
oP 32 (.buildm [.mint 1005, .int .i64 0, .slice 1 [], .int .i64 0] [(1,1,(.t 26)),(2,1,(.t 31))]),
oP 33 (.box 4 (.t 32)),
mV 9 33] [1,2,3,7,8,9])
(.seq (.reg [oP 34 (.mkfunc (.func 326) [] [(.t 7)]),
mV 10 34] [1,2,3,7,8,9,10])
(.seq (.seq (.reg [oP 35 (.fieldAddr (some 5) 0 (.t 3)),
oP 36 (.fieldAddr none 1 (.t 35)),
oP 37 (.load none (.t 36)),
oP 38 (.len (.t 37)),
oP 39 (.mv (cI 0))] [1,2,3,7,8,9,10,38,39])
(.block 0
(.loop [1,2,3,7,8,9,10,38,39]
(.seq (.reg [oP 40 (.bin .lss (.t 39) (.t 38))] [1,2,3,7,8,9,10,38,39,40])
(.seq (.cond (.t 40)
.skip
(.exit 0))
(.seq (.block 1
(.seq (.reg [mV 41 39,
mV 11 41] [1,2,3,7,8,9,10,11,38,39])
(.seq (.reg [oP 43 (.fieldAddr (some 5) 0 (.t 3)),
oP 44 (.fieldAddr none 2 (.t 43)),
oP 45 (.load none (.t 44)),
mV 46 1,
mV 47 11,
oP 48 (.build [.int .i64 0, .int .i64 0] [(0,1,(.t 46)),(1,1,(.t 47))]),
oP 49 (.call (.f 327) [true,false] [(.t 45),(.t 48)]),
mV 42 49,
oP 50 (.extract (.t 42) 0),
oP 51 (.extract (.t 42) 1),
oP 12 (.alloc [.int .i64 0, .int .i64 0]),
oN (.store 2 (.t 12) (.t 50)),
mV 13 51] [1,2,3,7,8,9,10,11,12,38,39])
(.frz 12 true (.seq (.reg [oP 53 (.fieldAddr (some 5) 0 (.t 3)),
oP 54 (.fieldAddr none 4 (.t 53)),
oP 55 (.load none (.t 54)),
mV 56 1,
mV 57 11,
oP 58 (.build [.int .i64 0, .int .i64 0] [(0,1,(.t 56)),(1,1,(.t 57))]),
oP 59 (.call (.f 327) [true,false] [(.t 55),(.t 58)]),
mV 52 59,
oP 60 (.extract (.t 52) 0),
oP 61 (.extract (.t 52) 1),
oP 14 (.alloc [.int .i64 0, .int .i64 0]),
oN (.store 2 (.t 14) (.t 60)),
mV 15 61] [1,2,3,7,8,9,10,11,12,14,15,38,39])
(.seq (.seq (.reg [mV 62 15,
oP 63 (.un .not (.t 62))] [1,2,3,7,8,9,10,11,12,14,38,39,63])
(.cond (.t 63)
(.reg [oP 64 (.fieldAddr none 1 (.t 14)),
oN (.store 1 (.t 64) (cI 1099511627776))] [1,2,3,7,8,9,10,11,12,14,38,39])
.skip))
(.creg [mV 65 9,
mV 66 9,
oP 67 (.nilchk (.t 66)),
oP 68 (.fieldAddr none 0 (.t 67)),
oP 69 (.load none (.t 68)),
mV 70 8,
mV 71 11,
oP 72 (.fieldAddr none 0 (.t 12)),
oP 73 (.load none (.t 72)),
oP 74 (.fieldAddr none 1 (.t 12)),
oP 75 (.load none (.t 74)),
oP 76 (.fieldAddr none 0 (.t 12)),
oP 77 (.load none (.t 76)),
oP 78 (.build [.int .i64 0, .int .i64 0, .int .i64 0, .int .i64 0, .int .i64 0] [(0,1,(.t 70)),(1,1,(.t 71)),(2,1,(.t 73)),(3,1,(.t 75)),(4,1,(.t 77))]),
mV 79 11,
mV 80 8,
oP 81 (.fieldAddr none 0 (.t 14)),
oP 82 (.load none (.t 81)),
oP 83 (.fieldAddr none 1 (.t 14)),
oP 84 (.load none (.t 83)),
oP 85 (.fieldAddr none 0 (.t 14)),
oP 86 (.load none (.t 85)),
oP 87 (.build [.int .i64 0, .int .i64 0, .int .i64 0, .int .i64 0, .int .i64 0] [(0,1,(.t 79)),(1,1,(.t 80)),(2,1,(.t 82)),(3,1,(.t 84)),(4,1,(.t 86))]),
oP 88 (.lit 0 5 2 [(0,(.t 78)),(1,(.t 87))]),
oP 89 (.append 5 40 (.t 69) (.t 88)),
oP 90 (.nilchk (.t 65)),
oP 91 (.fieldAddr none 0 (.t 90)),
oN (.store 1 (.t 91) (.t 89))] [1,2,3,7,8,9,10,38,39] [[],[],[1],[1,2],[1,2,3],[],[],[],[7],[],[9],[],[11],[5,6,7,8,9,10,11,12],[],[],[],[16],[],[18],[],[20],[14,15,16,17,18,19,20,21],[5,6,7,8,9,10,11,12,13,14,15,16,17,18,19,20,21,22],[1,2,3,4,5,6,7,8,9,10,11,12,13,14,15,16,17,18,19,20,21,22,23],[0,1,2,3,4,5,6,7,8,9,10,11,12,13,14,15,16,17,18,19,20,21,22,23,24],[0,1,2,3,4,5,6,7,8,9,10,11,12,13,14,15,16,17,18,19,20,21,22,23,24,25],[0,1,2,3,4,5,6,7,8,9,10,11,12,13,14,15,16,17,18,19,20,21,22,23,24,25,26]] [([0,1,2,3,4,5,6,7,8,9,10,11,12,13,14,15,16,17,18,19,20,21,22,23],24),([25,26],27)] [])))))))
(.reg [oP 92 (.bin .add (.t 39) (cI 1)),
mV 39 92] [1,2,3,7,8,9,10,38,39])))))))
(.seq (.seq (.reg [oP 93 (.fieldAddr (some 5) 0 (.t 3)),
oP 94 (.fieldAddr none 3 (.t 93)),
oP 95 (.load none (.t 94)),
oP 96 (.len (.t 95)),
oP 97 (.mv (cI 0))] [1,2,3,7,8,9,10,95,96,97])
(.block 2
(.loop [1,2,3,7,8,9,10,95,96,97]
(.seq (.reg [oP 98 (.bin .lss (.t 97) (.t 96))] [1,2,3,7,8,9,10,95,96,97,98])
(.seq (.cond (.t 98)
.skip
(.exit 2))
(.seq (.block 3
(.seq (.reg [mV 99 97,
oP 100 (.ixS 5 (.t 95) (.t 97)),
oP 101 (.load (some 5) (.t 100)),
oP 17 (.alloc [.int .i64 0, .int .i64 0, .int .i64 0, .int .i64 0, .int .i64 0]),
mV 16 99,
oN (.store 5 (.t 17) (.t 101))] [1,2,3,7,8,9,10,16,17,95,96,97])
(.frz 17 true (.seq (.seq (.reg [oP 102 (.fieldAddr none 0 (.t 17)),
oP 103 (.load none (.t 102)),
mV 104 1,
oP 105 (.bin .neq (.t 103) (.t 104)),
mV 106 105,
gF 107 106 (.load (some 5) (.t 3)),
gF 108 106 (.mv (.t 16)),
gF 109 106 (.call (.f 328) [true,false] [(.t 107),(.t 108)]),
gF 110 106 (.un .not (.t 109)),
oP 111 (.pick (.t 106) (.c (.bool true)) (.t 110))] [1,2,3,7,8,9,10,16,17,95,96,97,111])
(.cond (.t 111)
(.exit 3)
.skip))
(.seq (.dreg [mV 112 9,
oP 113 (.nilchk (.t 112)),
oP 114 (.fieldAddr none 2 (.t 113)),
oP 115 (.load none (.t 114)),
mV 116 16,
mV 117 9,
oP 118 (.nilchk (.t 117)),
oP 119 (.fieldAddr none 0 (.t 118)),
oP 120 (.load none (.t 119)),
oP 121 (.len (.t 120)),
oP 122 (.ixS 1 (.t 115) (.t 116)),
oN (.store 1 (.t 122) (.t 121))] [1,2,3,7,8,9,10,16,17,95,96,97] [[],[0],[0,1],[0,1,2],[],[],[5],[5,6],[5,6,7],[5,6,7,8],[0,1,2,3,4,5,6,7,8,9],[0,1,2,3,4,5,6,7,8,9,10]])
(.seq (.seq (.reg [oP 123 (.fieldAddr none 4 (.t 17)),
oP 124 (.load none (.t 123)),
oP 125 (.bin .geq (.t 124) (cI 0))] [1,2,3,7,8,9,10,16,17,95,96,97,125])
(.cond (.t 125)
(.dreg [mV 126 9,
oP 127 (.nilchk (.t 126)),
oP 128 (.fieldAddr none 2 (.t 127)),
oP 129 (.load none (.t 128)),
oP 130 (.fieldAddr none 4 (.t 17)),
oP 131 (.load none (.t 130)),
mV 132 9,
oP 133 (.nilchk (.t 132)),
oP 134 (.fieldAddr none 0 (.t 133)),
oP 135 (.load none (.t 134)),
oP 136 (.len (.t 135)),
oP 137 (.ixS 1 (.t 129) (.t 131)),
oN (.store 1 (.t 137) (.t 136))] [1,2,3,7,8,9,10,16,17,95,96,97] [[],[0],[0,1],[0,1,2],[],[4],[],[6],[6,7],[6,7,8],[6,7,8,9],[0,1,2,3,4,5,6,7,8,9,10],[0,1,2,3,4,5,6,7,8,9,10,11]])
.skip))
(.seq (.reg [oP 138 (.load (some 5) (.t 3)),
mV 139 16,
mV 140 2,
oP 141 (.call (.f 329) [true,false,true] [(.t 138),(.t 139),(.t 140)]),
oP 18 (.alloc [.int .i64 0, .int .i64 0]),
oN (.store 2 (.t 18) (.t 141))] [1,2,3,7,8,9,10,17,18,95,96,97])
(.frz 18 true (.creg [mV 142 9,
mV 143 9,
oP 144 (.nilchk (.t 143)),
oP 145 (.fieldAddr none 0 (.t 144)),
oP 146 (.load none (.t 145)),
mV 147 10,
oP 148 (.fieldAddr none 1 (.t 17)),
oP 149 (.load none (.t 148)),
oP 150 (.call (.t 147) [false] [(.t 149)]),
mV 151 10,
oP 152 (.fieldAddr none 2 (.t 17)),
oP 153 (.load none (.t 152)),
oP 154 (.call (.t 151) [false] [(.t 153)]),
oP 155 (.fieldAddr none 0 (.t 18)),
oP 156 (.load none (.t 155)),
oP 157 (.fieldAddr none 1 (.t 18)),
oP 158 (.load none (.t 157)),
oP 159 (.fieldAddr none 0 (.t 18)),
oP 160 (.load none (.t 159)),
oP 161 (.build [.int .i64 0, .int .i64 0, .int .i64 0, .int .i64 0, .int .i64 0] [(0,1,(.t 150)),(1,1,(.t 154)),(2,1,(.t 156)),(3,1,(.t 158)),(4,1,(.t 160))]),
oP 162 (.lit 0 5 1 [(0,(.t 161))]),
oP 163 (.append 5 40 (.t 146) (.t 162)),
oP 164 (.nilchk (.t 142)),
oP 165 (.fieldAddr none 0 (.t 164)),
oN (.store 1 (.t 165) (.t 163))] [1,2,3,7,8,9,10,95,96,97] [[],[],[1],[1,2],[1,2,3],[],[],[6],[5,6,7],[],[],[10],[5,6,7,8,9,10,11],[],[13],[],[15],[],[17],[5,6,7,8,9,10,11,12,13,14,15,16,17,18],[5,6,7,8,9,10,11,12,13,14,15,16,17,18,19],[1,2,3,4,5,6,7,8,9,10,11,12,13,14,15,16,17,18,19,20],[0,1,2,3,4,5,6,7,8,9,10,11,12,13,14,15,16,17,18,19,20,21],[0,1,2,3,4,5,6,7,8,9,10,11,12,13,14,15,16,17,18,19,20,21,22],[0,1,2,3,4,5,6,7,8,9,10,11,12,13,14,15,16,17,18,19,20,21,22,23]] [([0,1,2,3,4,5,6,7,8,9,10,11,12,13,14,15,16,17,18,19,20],21),([22,23],24)] [])))))))))
(.reg [oP 166 (.bin .add (.t 97) (cI 1)),
mV 97 166] [1,2,3,7,8,9,10,95,96,97])))))))
(.seq (.reg [mV 167 9,
mV 168 9,
oP 169 (.nilchk (.t 168)),
oP 170 (.fieldAddr none 0 (.t 169)),
oP 171 (.load none (.t 170)),
oP 172 (.len (.t 171)),
oP 173 (.nilchk (.t 167)),
oP 174 (.fieldAddr none 3 (.t 173)),
oN (.store 1 (.t 174) (.t 172))] [7,8,9])
(.seq (.creg [mV 175 9,
mV 176 9,
oP 177 (.nilchk (.t 176)),
oP 178 (.fieldAddr none 0 (.t 177)),
oP 179 (.load none (.t 178)),
oP 180 (.load none (.t 7)),
mV 181 8,
oP 182 (.build [.int .i64 0, .int .i64 0, .int .i64 0, .int .i64 0, .int .i64 0] [(0,1,(.t 180)),(1,1,(.t 181)),(2,1,(cI (-1099511627776))),(3,1,(cI 1099511627776)),(4,1,(cI 0))]),
oP 183 (.lit 0 5 1 [(0,(.t 182))]),
oP 184 (.append 5 40 (.t 179) (.t 183)),
oP 185 (.nilchk (.t 175)),
oP 186 (.fieldAddr none 0 (.t 185)),
oN (.store 1 (.t 186) (.t 184))] [9] [[],[],[1],[1,2],[1,2,3],[],[],[5,6],[5,6,7],[1,2,3,4,5,6,7,8],[0,1,2,3,4,5,6,7,8,9],[0,1,2,3,4,5,6,7,8,9,10],[0,1,2,3,4,5,6,7,8,9,10,11]] [([0,1,2,3,4,5,6,7,8],9),([10,11],12)] [])
(.seq (.reg [mV 187 9,
mV 6 187] [6])
.ret)))))))))))
abbrev Bj:RsT:=[(6,none)]
theorem Zt:an Tryz.prog Tryz.f288 188 yj Bj = true:=by kernel_rfl
theorem acu:af Tryz.prog Y1 = true:=by kernel_rfl
theorem PR:ag Tryz.prog ⟨288,188,yj,Bj,2⟩:=⟨fun _=>⟨acu,_,Tryz.func288,Zt⟩,fun h=>by cases h⟩
abbrev O1:FuncId:=289
def CZ:AC:=
(.seq (.reg [oP 2 (.mv (.c (.bool false)))] [0])
(.seq (.reg [mV 9 0,
oP 10 (.nilchk (.t 9)),
oP 11 (.fieldAddr none 1 (.t 10)),
oP 12 (.load none (.t 11)),
oP 13 (.mksl 2 1 8 (.int .i64 0) (.t 12) (.t 12)),
oP 3 (.alloc [.slice 1 []]),
oN (.store 1 (.t 3) (.t 13))] [0,3])
(.frz 3 false (.seq (.seq (.reg [mV 14 0,
oP 15 (.nilchk (.t 14)),
oP 16 (.fieldAddr none 0 (.t 15)),
oP 17 (.load none (.t 16)),
oP 18 (.len (.t 17)),
oP 19 (.mv (cI 0))] [0,3,17,18,19])
(.block 0
(.loop [0,3,17,18,19]
(.seq (.reg [oP 20 (.bin .lss (.t 19) (.t 18))] [0,3,17,18,19,20])
(.seq (.cond (.t 20)
.skip
(.exit 0))
(.seq (.block 1
(.seq (.reg [oP 21 (.ixS 5 (.t 17) (.t 19)),
oP 22 (.load (some 5) (.t 21)),
oP 5 (.alloc [.int .i64 0, .int .i64 0, .int .i64 0, .int .i64 0, .int .i64 0]),
oN (.store 5 (.t 5) (.t 22))] [0,3,5,17,18,19])
(.frz 5 true (.seq (.dreg [oP 23 (.load none (.t 3)),
oP 24 (.fieldAddr none 0 (.t 5)),
oP 25 (.load none (.t 24)),
oP 26 (.ixS 1 (.t 23) (.t 25)),
oP 27 (.load none (.t 26)),
oP 28 (.fieldAddr none 4 (.t 5)),
oP 29 (.load none (.t 28)),
oP 30 (.bin .sub (.t 27) (.t 29)),
oP 31 (.ixS 1 (.t 23) (.t 25)),
oN (.store 1 (.t 31) (.t 30))] [0,3,5,17,18,19] [[],[],[1],[0,1,2],[0,1,2,3],[],[5],[0,1,2,3,4,5,6],[0,1,2,3,4,5,6,7],[0,1,2,3,4,5,6,7,8]])
(.dreg [oP 32 (.load none (.t 3)),
oP 33 (.fieldAddr none 1 (.t 5)),
oP 34 (.load none (.t 33)),
oP 35 (.ixS 1 (.t 32) (.t 34)),
oP 36 (.load none (.t 35)),
oP 37 (.fieldAddr none 4 (.t 5)),
oP 38 (.load none (.t 37)),
oP 39 (.bin .add (.t 36) (.t 38)),
oP 40 (.ixS 1 (.t 32) (.t 34)),
oN (.store 1 (.t 40) (.t 39))] [0,3,17,18,19] [[],[],[1],[0,1,2],[0,1,2,3],[],[5],[0,1,2,3,4,5,6],[0,1,2,3,4,5,6,7],[0,1,2,3,4,5,6,7,8]])))))
(.reg [oP 41 (.bin .add (.t 19) (cI 1)),
mV 19 41] [0,3,17,18,19])))))))
(.seq (.seq (.reg [oP 42 (.load none (.t 3)),
oP 43 (.len (.t 42)),
oP 44 (.mv (cI 0))] [0,3,43,44])
(.block 2
(.loop [0,3,43,44]
(.seq (.reg [oP 45 (.bin .lss (.t 44) (.t 43))] [0,3,43,44,45])
(.seq (.cond (.t 45)
.skip
(.exit 2))
(.seq (.block 3
(.seq (.reg [mV 46 44,
mV 6 46] [0,3,6,43,44])
(.block 4
(.loop [0,3,6,43,44]
(.seq (.seq (.reg [oP 47 (.load none (.t 3)),
mV 48 6,
oP 49 (.ixS 1 (.t 47) (.t 48)),
oP 50 (.load none (.t 49)),
oP 51 (.bin .gtr (.t 50) (cI 0))] [0,3,6,43,44,51])
(.cond (.t 51)
.skip
(.exit 4)))
(.block 5
(.seq (.reg [mV 53 0,
mV 54 6,
oP 55 (.load none (.t 3)),
mV 56 6,
oP 57 (.ixS 1 (.t 55) (.t 56)),
oP 58 (.load none (.t 57)),
oP 59 (.mkfunc (.func 331) [] [(.t 3)]),
oP 60 (.call (.f 330) [false,false,false,false,false] [(.t 53),(.t 54),(.t 58),(cI (-1)),(.t 59)]),
mV 52 60,
oP 61 (.extract (.t 52) 0),
oP 62 (.extract (.t 52) 1),
mV 7 61,
mV 8 62] [0,3,6,7,8,43,44])
(.seq (.seq (.reg [mV 63 7,
oP 64 (.bin .eql (.t 63) (cI 0))] [0,3,6,7,8,43,44,64])
(.cond (.t 64)
(.seq (.reg [oP 2 (.mv (.c (.bool false)))] [2])
.ret)
.skip))
(.seq (.reg [oP 65 (.load none (.t 3)),
mV 66 6,
oP 67 (.ixS 1 (.t 65) (.t 66)),
oP 68 (.load none (.t 67)),
mV 69 7,
oP 70 (.bin .sub (.t 68) (.t 69)),
oP 71 (.ixS 1 (.t 65) (.t 66)),
oN (.store 1 (.t 71) (.t 70))] [0,3,6,7,8,43,44])
(.reg [oP 72 (.load none (.t 3)),
mV 73 8,
oP 74 (.ixS 1 (.t 72) (.t 73)),
oP 75 (.load none (.t 74)),
mV 76 7,
oP 77 (.bin .add (.t 75) (.t 76)),
oP 78 (.ixS 1 (.t 72) (.t 73)),
oN (.store 1 (.t 78) (.t 77))] [0,3,6,43,44]))))))))))
(.reg [oP 79 (.bin .add (.t 44) (cI 1)),
mV 44 79] [0,3,43,44])))))))
(.seq (.reg [oP 2 (.mv (.c (.bool true)))] [2])
.ret))))))
abbrev E1:RsT:=[(2,none)]
theorem Po:an Tryz.prog Tryz.f289 80 CZ E1 = true:=by kernel_rfl
theorem Y4:af Tryz.prog O1 = true:=by kernel_rfl
theorem SL:ag Tryz.prog ⟨289,80,CZ,E1,0⟩:=⟨fun _=>⟨Y4,_,Tryz.func289,Po⟩,fun h=>by cases h⟩
abbrev V9:FuncId:=290
def Fb:AC:=
(.seq (.reg [oP 6 (.alloc [.int .i64 0, .int .i64 0, .int .i64 0, .int .i64 0, .int .i64 0, .int .i64 0])] [0,1,2,6])
(.seq (.seq (.reg [mV 9 0,
oP 10 (.len (.t 9)),
oP 11 (.mv (cI 0))] [1,2,6,9,10,11])
(.block 0
(.loop [1,2,6,9,10,11]
(.seq (.reg [oP 12 (.bin .lss (.t 11) (.t 10))] [1,2,6,9,10,11,12])
(.seq (.cond (.t 12)
.skip
(.exit 0))
(.seq (.block 1
(.seq (.reg [oP 13 (.ixS 3 (.t 9) (.t 11)),
oP 14 (.load (some 3) (.t 13)),
oP 8 (.alloc [.int .i64 0, .int .i64 0, .int .i64 0]),
oN (.store 3 (.t 8) (.t 14))] [1,2,6,8,9,10,11])
(.frz 8 true (.dreg [mV 15 1,
oP 16 (.load (some 3) (.t 8)),
oP 17 (.call (.t 15) [false] [(.t 16)]),
oP 18 (.ixA 6 1 none (.t 6) (.t 17)),
oP 19 (.load none (.t 18)),
mV 20 2,
oP 21 (.load (some 3) (.t 8)),
oP 22 (.call (.t 20) [false] [(.t 21)]),
oP 23 (.bin .add (.t 19) (.t 22)),
oP 24 (.ixA 6 1 none (.t 6) (.t 17)),
oN (.store 1 (.t 24) (.t 23))] [1,2,6,9,10,11] [[],[],[0,1],[0,1,2],[0,1,2,3],[],[],[0,1,2,5,6],[0,1,2,3,4,5,6,7],[0,1,2,3,4,5,6,7,8],[0,1,2,3,4,5,6,7,8,9]]))))
(.reg [oP 25 (.bin .add (.t 11) (cI 1)),
mV 11 25] [1,2,6,9,10,11])))))))
(.seq (.reg [oP 26 (.load (some 6) (.t 6)),
oN (.store 6 (.t 6) (.t 26))] [6])
.ret)))
abbrev Cx:RsT:=[(6,some (some 6))]
theorem Ub:an Tryz.prog Tryz.f290 27 Fb Cx = true:=by kernel_rfl
theorem WB:af Tryz.prog V9 = true:=by kernel_rfl
theorem Ta:ag Tryz.prog ⟨290,27,Fb,Cx,0⟩:=⟨fun _=>⟨WB,_,Tryz.func290,Ub⟩,fun h=>by cases h⟩
abbrev aed:FuncId:=291
def Bo:AC:=
(.seq (.reg [oP 1 (.pbox 3 (.t 0)),
oP 2 (.mv (cI 0))] [1])
(.seq (.reg [oP 3 (.fieldAddr none 0 (.t 1)),
oP 4 (.load none (.t 3)),
mV 2 4] [2])
.ret))
abbrev F0:RsT:=[(2,none)]
theorem YN:an Tryz.prog Tryz.f291 5 Bo F0 = true:=by kernel_rfl
theorem Qh:af Tryz.prog aed = true:=by kernel_rfl
theorem Yc:ag Tryz.prog ⟨291,5,Bo,F0,0⟩:=⟨fun _=>⟨Qh,_,Tryz.func291,YN⟩,fun h=>by cases h⟩
abbrev tC:FuncId:=292
def pW:AC:=
(.seq (.reg [oP 2 (.mv (.c (.slice 3 [])))] [0])
(.seq (.seq (.reg [mV 3 0,
oP 4 (.snil false (.t 3))] [0,4])
(.cond (.t 4)
(.seq (.reg [oP 2 (.nilS 2 3)] [2])
.ret)
.skip))
(.seq (.reg [oP 5 (.lit 2 3 0 []),
mV 6 0,
oP 7 (.append 3 24 (.t 5) (.t 6)),
mV 2 7] [2])
.ret)))
abbrev DC:RsT:=[(2,none)]
theorem YT:SpF 8 tC pW DC:=SpI Tryz.func292 (by kernel_rfl)
theorem Jp:af Tryz.prog tC = true:=by kernel_rfl
theorem Ya:ag Tryz.prog ⟨292,8,pW,DC,0⟩:=⟨fun _=>⟨Jp,_,Tryz.func292,by kernel_rfl⟩,fun h=>by cases h⟩
abbrev Nc:FuncId:=293
def xY:AC:=
(.seq (.reg [oP 2 (.alloc [.int .i64 0, .int .i64 0])] [0,2])
(.seq (.reg [mV 3 0,
mV 4 0,
oP 5 (.build [.int .i64 0, .int .i64 0] [(0,1,(.t 3)),(1,1,(.t 4))]),
oN (.store 2 (.t 2) (.t 5))] [2])
.ret))
abbrev EY:RsT:=[(2,some (some 2))]
theorem aaR:an Tryz.prog Tryz.f293 6 xY EY = true:=by kernel_rfl
theorem adi:af Tryz.prog Nc = true:=by kernel_rfl
theorem Nd:ag Tryz.prog ⟨293,6,xY,EY,0⟩:=⟨fun _=>⟨adi,_,Tryz.func293,aaR⟩,fun h=>by cases h⟩
abbrev Zs:FuncId:=294
def CQ:AC:=
(.seq (.reg [oP 2 (.pbox 7 (.t 0)),
oP 3 (.mv (.c (.bool false)))] [1,2])
(.seq (.reg [oP 4 (.fieldAddr none 0 (.t 2)),
oP 5 (.load none (.t 4)),
oP 6 (.load none (.t 1)),
oP 7 (.bin .eql (.t 5) (.t 6)),
mV 3 7] [3])
.ret))
abbrev BA:RsT:=[(3,none)]
theorem Qr:an Tryz.prog Tryz.f294 8 CQ BA = true:=by kernel_rfl
theorem aet:af Tryz.prog Zs = true:=by kernel_rfl
theorem VC:ag Tryz.prog ⟨294,8,CQ,BA,0⟩:=⟨fun _=>⟨aet,_,Tryz.func294,Qr⟩,fun h=>by cases h⟩
abbrev sb:FuncId:=295
def ub:AC:=
(.seq (.reg [oP 2 (.mv (.c (.slice 7 [])))] [0])
(.seq (.seq (.reg [mV 3 0,
oP 4 (.snil false (.t 3))] [0,4])
(.cond (.t 4)
(.seq (.reg [oP 2 (.nilS 3 7)] [2])
.ret)
.skip))
(.seq (.reg [oP 5 (.lit 1 7 0 []),
mV 6 0,
oP 7 (.append 7 80 (.t 5) (.t 6)),
mV 2 7] [2])
.ret)))
abbrev yH:RsT:=[(2,none)]
theorem Yo:SpF 8 sb ub yH:=SpI Tryz.func295 (by kernel_rfl)
theorem Jx:af Tryz.prog sb = true:=by kernel_rfl
theorem aep:ag Tryz.prog ⟨295,8,ub,yH,0⟩:=⟨fun _=>⟨Jx,_,Tryz.func295,by kernel_rfl⟩,fun h=>by cases h⟩
abbrev acA:FuncId:=296
def DQ:AC:=
(.seq (.reg [oP 2 (.pbox 7 (.t 0)),
oP 3 (.mv (.c (.bool false)))] [1,2])
(.seq (.reg [oP 4 (.load (some 7) (.t 2)),
oP 5 (.fieldAddr none 2 (.t 1)),
oP 6 (.load none (.t 5)),
oP 7 (.call (.f 297) [true,false] [(.t 4),(.t 6)]),
mV 3 7] [3])
.ret))
abbrev y0:RsT:=[(3,none)]
theorem UM:an Tryz.prog Tryz.f296 8 DQ y0 = true:=by kernel_rfl
theorem Nl:af Tryz.prog acA = true:=by kernel_rfl
theorem abF:ag Tryz.prog ⟨296,8,DQ,y0,0⟩:=⟨fun _=>⟨Nl,_,Tryz.func296,UM⟩,fun h=>by cases h⟩
abbrev Rr:FuncId:=297
def xi:AC:=
(.seq (.reg [oP 2 (.pbox 7 (.t 0)),
oP 4 (.mv (.c (.bool false)))] [1,2])
(.seq (.reg [oP 5 (.fieldAddr none 4 (.t 2)),
oP 6 (.load none (.t 5)),
mV 7 1,
oP 8 (.call (.f 164) [true,false] [(.t 6),(.t 7)]),
mV 4 8] [4])
.ret))
abbrev DL:RsT:=[(4,none)]
theorem XX:an Tryz.prog Tryz.f297 9 xi DL = true:=by kernel_rfl
theorem Qw:af Tryz.prog Rr = true:=by kernel_rfl
theorem Q6:ag Tryz.prog ⟨297,9,xi,DL,0⟩:=⟨fun _=>⟨Qw,_,Tryz.func297,XX⟩,fun h=>by cases h⟩
abbrev ZA:FuncId:=298
def Cs:AC:=
(.seq (.reg [oP 6 (.mv (.c (.slice 7 [])))] [0,1,2])
(.seq (.reg [mV 8 0,
mV 9 1,
mV 10 2,
mV 11 0,
oP 12 (.len (.t 11)),
oP 13 (.sub 3 7 (.t 8) (some (.t 9)) (some (.t 10)) (some (.t 12)))] [0,1,2])
(.seq (.seq (.reg [mV 14 1,
mV 15 2,
oP 16 (.bin .eql (.t 14) (.t 15))] [0,1,2,16])
(.cond (.t 16)
(.seq (.reg [mV 17 0,
oP 6 (.mvd (.t 17))] [6])
.ret)
.skip))
(.seq (.reg [mV 18 0,
oP 19 (.len (.t 18)),
mV 7 19] [0,1,2,7])
(.seq (.creg [mV 20 0,
mV 21 1,
oP 22 (.sub 0 7 (.t 20) none (some (.t 21)) none),
mV 23 0,
mV 24 2,
oP 25 (.sub 0 7 (.t 23) (some (.t 24)) none none),
oP 26 (.append 7 80 (.t 22) (.t 25)),
mV 0 26] [0,7] [[],[],[0,1],[],[],[3,4],[0,1,2,3,4,5],[0,1,2,3,4,5,6]] [([0,1,2,3,4,5],6)] [7])
(.seq (.reg [mV 27 0,
mV 28 0,
oP 29 (.len (.t 28)),
mV 30 7,
oP 31 (.sub 0 7 (.t 27) (some (.t 29)) (some (.t 30)) none),
oN (.clear 7 (.agg [.str ByteArray.empty, .int .i64 0, .int .i64 0, .int .i64 0, .slice 1 [], .int .i64 0, .int .i64 0]) (.t 31))] [0])
(.seq (.reg [mV 32 0,
oP 6 (.mvd (.t 32))] [6])
.ret)))))))
abbrev Ed:RsT:=[(6,none)]
theorem aac:an Tryz.prog Tryz.f298 33 Cs Ed = true:=by kernel_rfl
theorem T1:af Tryz.prog ZA = true:=by kernel_rfl
theorem RL:ag Tryz.prog ⟨298,33,Cs,Ed,0⟩:=⟨fun _=>⟨T1,_,Tryz.func298,aac⟩,fun h=>by cases h⟩
abbrev aaE:FuncId:=299
def F2:AC:=
(.seq (.reg [oP 10 (.fieldAddr none 1 (.t 1)),
oP 11 (.load none (.t 10)),
oP 12 (.lit 2 1 1 [(0,(.t 11))]),
mV 4 12] [0,1,2,4])
(.seq (.seq (.reg [oP 13 (.fieldAddr (some 3) 0 (.t 2)),
oP 14 (.fieldAddr none 0 (.t 13)),
oP 15 (.load none (.t 14)),
oP 16 (.len (.t 15)),
oP 17 (.mv (cI 0))] [0,1,4,15,16,17])
(.block 0
(.loop [0,1,4,15,16,17]
(.seq (.reg [oP 18 (.bin .lss (.t 17) (.t 16))] [0,1,4,15,16,17,18])
(.seq (.cond (.t 18)
.skip
(.exit 0))
(.seq (.block 1
(.seq (.reg [oP 19 (.ixS 7 (.t 15) (.t 17)),
oP 20 (.load (some 7) (.t 19)),
oP 6 (.alloc [.str ByteArray.empty, .int .i64 0, .int .i64 0, .int .i64 0, .int .i64 0, .int .i64 0, .int .i64 0]),
oN (.store 7 (.t 6) (.t 20))] [0,1,4,6,15,16,17])
(.frz 6 true (.seq (.reg [oP 21 (.fieldAddr none 0 (.t 1)),
oP 22 (.load none (.t 21)),
oP 23 (.fieldAddr none 4 (.t 6)),
oP 24 (.load none (.t 23)),
oP 25 (.bin .lss (.t 22) (.t 24)),
mV 26 25,
gT 27 26 (.fieldAddr none 4 (.t 6)),
gT 28 26 (.load none (.t 27)),
gT 29 26 (.fieldAddr none 1 (.t 1)),
gT 30 26 (.load none (.t 29)),
gT 31 26 (.bin .lss (.t 28) (.t 30)),
oP 32 (.pick (.t 26) (.t 31) (.c (.bool false)))] [0,1,4,6,15,16,17,32])
(.cond (.t 32)
(.reg [mV 33 4,
oP 34 (.fieldAddr none 4 (.t 6)),
oP 35 (.load none (.t 34)),
oP 36 (.lit 0 1 1 [(0,(.t 35))]),
oP 37 (.append 1 8 (.t 33) (.t 36)),
mV 4 37] [0,1,4,15,16,17])
.skip)))))
(.reg [oP 38 (.bin .add (.t 17) (cI 1)),
mV 17 38] [0,1,4,15,16,17])))))))
(.seq (.reg [mV 39 4,
oP 40 (.call (.f 300) [true] [(.t 39)])] [0,1,4])
(.seq (.reg [oP 41 (.fieldAddr none 0 (.t 1)),
oP 42 (.load none (.t 41)),
mV 7 42] [0,4,7])
(.seq (.reg [mV 43 4,
oP 44 (.call (.f 301) [true] [(.t 43)]),
oP 45 (.len (.t 44)),
oP 46 (.mv (cI 0))] [0,7,44,45,46])
(.block 2
(.loop [0,7,44,45,46]
(.seq (.reg [oP 47 (.bin .lss (.t 46) (.t 45))] [0,7,44,45,46,47])
(.seq (.cond (.t 47)
.skip
(.exit 2))
(.seq (.block 3
(.seq (.reg [oP 48 (.ixS 1 (.t 44) (.t 46)),
oP 49 (.load none (.t 48)),
mV 9 49] [0,7,9,44,45,46])
(.seq (.seq (.reg [mV 50 0,
mV 51 7,
mV 52 9,
oP 53 (.build [.int .i64 0, .int .i64 0] [(0,1,(.t 51)),(1,1,(.t 52))]),
oP 54 (.call (.t 50) [false] [(.t 53)]),
oP 55 (.un .not (.t 54))] [0,9,44,45,46,55])
(.cond (.t 55)
.ret
.skip))
(.reg [mV 56 9,
mV 7 56] [0,7,44,45,46]))))
(.reg [oP 57 (.bin .add (.t 46) (cI 1)),
mV 46 57] [0,7,44,45,46])))))))))))
abbrev Dy:RsT:=[]
theorem aeq:an Tryz.prog Tryz.f299 58 F2 Dy = true:=by kernel_rfl
theorem acg:af Tryz.prog aaE = true:=by kernel_rfl
theorem ab2:ag Tryz.prog ⟨299,58,F2,Dy,0⟩:=⟨fun _=>⟨acg,_,Tryz.func299,aeq⟩,fun h=>by cases h⟩
abbrev Nq:FuncId:=300
def Ch:AC:=
(.seq (.reg [mV 3 0,
oP 4 (.len (.t 3)),
mV 2 4] [0,2])
(.reg [mV 5 0,
mV 6 2,
mV 7 2,
oP 8 (.conv .u64 (.t 7)),
oP 9 (.call (.f 333) [false] [(.t 8)]),
oP 10 (.call (.f 332) [true,false,false,false] [(.t 5),(cI 0),(.t 6),(.t 9)])] []))
abbrev zS:RsT:=[]
theorem abP:an Tryz.prog Tryz.f300 11 Ch zS = true:=by kernel_rfl
theorem Oq:af Tryz.prog Nq = true:=by kernel_rfl
theorem S8:ag Tryz.prog ⟨300,11,Ch,zS,0⟩:=⟨fun _=>⟨Oq,_,Tryz.func300,abP⟩,fun h=>by cases h⟩
abbrev ZK:FuncId:=301
def zR:AC:=
(.seq (.reg [oP 2 (.mv (.c (.slice 1 [])))] [0])
(.seq (.seq (.reg [mV 6 0,
oP 7 (.len (.t 6)),
oP 8 (.bin .lss (.t 7) (cI 2))] [0,8])
(.cond (.t 8)
(.seq (.reg [mV 9 0,
oP 2 (.mvd (.t 9))] [2])
.ret)
.skip))
(.seq (.seq (.reg [oP 3 (.mv (cI 1))] [0,3])
(.block 0
(.loop [0,3]
(.seq (.seq (.reg [mV 10 3,
mV 11 0,
oP 12 (.len (.t 11)),
oP 13 (.bin .lss (.t 10) (.t 12))] [0,3,13])
(.cond (.t 13)
.skip
(.exit 0)))
(.seq (.block 1
(.seq (.dreg [mV 16 0,
mV 17 3,
oP 18 (.ixS 1 (.t 16) (.t 17)),
oP 19 (.load none (.t 18)),
mV 20 0,
mV 21 3,
oP 22 (.bin .sub (.t 21) (cI 1)),
oP 23 (.ixS 1 (.t 20) (.t 22)),
oP 24 (.load none (.t 23)),
oP 25 (.bin .eql (.t 19) (.t 24))] [0,3,25] [[],[],[0,1],[0,1,2],[],[],[5],[4,5,6],[4,5,6,7],[0,1,2,3,4,5,6,7,8]])
(.cond (.t 25)
(.seq (.reg [mV 26 0,
mV 27 3,
oP 28 (.sub 0 1 (.t 26) (some (.t 27)) none none),
mV 4 28] [0,3,4])
(.seq (.seq (.reg [oP 5 (.mv (cI 1))] [0,3,4,5])
(.block 2
(.loop [0,3,4,5]
(.seq (.seq (.reg [mV 29 5,
mV 30 4,
oP 31 (.len (.t 30)),
oP 32 (.bin .lss (.t 29) (.t 31))] [0,3,4,5,32])
(.cond (.t 32)
.skip
(.exit 2)))
(.seq (.block 3
(.seq (.dreg [mV 35 4,
mV 36 5,
oP 37 (.ixS 1 (.t 35) (.t 36)),
oP 38 (.load none (.t 37)),
mV 39 4,
mV 40 5,
oP 41 (.bin .sub (.t 40) (cI 1)),
oP 42 (.ixS 1 (.t 39) (.t 41)),
oP 43 (.load none (.t 42)),
oP 44 (.bin .neq (.t 38) (.t 43))] [0,3,4,5,44] [[],[],[0,1],[0,1,2],[],[],[5],[4,5,6],[4,5,6,7],[0,1,2,3,4,5,6,7,8]])
(.cond (.t 44)
(.seq (.reg [mV 45 0,
mV 46 3,
mV 47 4,
mV 48 5,
oP 49 (.ixS 1 (.t 47) (.t 48)),
oP 50 (.load none (.t 49)),
oP 51 (.ixS 1 (.t 45) (.t 46)),
oN (.store 1 (.t 51) (.t 50))] [0,3,4,5])
(.reg [mV 52 3,
oP 53 (.bin .add (.t 52) (cI 1)),
mV 3 53] [0,3,4,5]))
.skip)))
(.reg [mV 33 5,
oP 34 (.bin .add (.t 33) (cI 1)),
mV 5 34] [0,3,4,5]))))))
(.seq (.reg [mV 54 0,
mV 55 3,
oP 56 (.sub 0 1 (.t 54) (some (.t 55)) none none),
oN (.clear 1 (.int .i64 0) (.t 56))] [0,3])
(.seq (.reg [mV 57 0,
mV 58 3,
oP 59 (.sub 0 1 (.t 57) none (some (.t 58)) none),
oP 2 (.mvd (.t 59))] [2])
.ret))))
.skip)))
(.reg [mV 14 3,
oP 15 (.bin .add (.t 14) (cI 1)),
mV 3 15] [0,3]))))))
(.seq (.reg [mV 60 0,
oP 2 (.mvd (.t 60))] [2])
.ret))))
abbrev AV:RsT:=[(2,none)]
theorem ZY:an Tryz.prog Tryz.f301 61 zR AV = true:=by kernel_rfl
theorem ab0:af Tryz.prog ZK = true:=by kernel_rfl
theorem YU:ag Tryz.prog ⟨301,61,zR,AV,0⟩:=⟨fun _=>⟨ab0,_,Tryz.func301,ZY⟩,fun h=>by cases h⟩
abbrev Tu:FuncId:=302
def BF:AC:=
(.seq (.reg [oP 1 (.pbox 3 (.t 0)),
oP 2 (.alloc [.nilfunc, .nilfunc, .nilfunc, .nilfunc, .nilfunc, .nilfunc, .nilfunc, .nilfunc, .nilfunc])] [1,2])
(.seq (.reg [oP 7 (.mkfunc (.func 335) [] [(.t 1)]),
oP 8 (.mkfunc (.func 336) [] [(.t 1)]),
oP 9 (.build [.nilfunc, .nilfunc, .nilfunc] [(0,1,(.f 334)),(1,1,(.t 7)),(2,1,(.t 8))]),
oP 3 (.alloc [.nilfunc, .nilfunc, .nilfunc]),
oN (.store 3 (.t 3) (.t 9))] [2,3])
(.frz 3 true (.seq (.reg [oP 4 (.alloc [.nilfunc, .nilfunc, .nilfunc, .nilfunc, .nilfunc, .nilfunc, .nilfunc, .nilfunc, .nilfunc])] [2,3,4])
(.seq (.seq (.reg [oP 10 (.load (some 3) (.t 3)),
oP 11 (.mv (cI 0))] [2,4,10,11])
(.block 0
(.loop [2,4,10,11]
(.seq (.reg [oP 12 (.bin .lss (.t 11) (cI 3))] [2,4,10,11,12])
(.seq (.cond (.t 12)
.skip
(.exit 0))
(.seq (.block 1
(.seq (.reg [mV 13 11,
oP 14 (.ixV 3 1 none (.t 10) (.t 11)),
mV 5 13,
mV 6 14] [2,4,5,6,10,11])
(.reg [mV 15 5,
mV 16 6,
oP 17 (.build [.nilfunc, .nilfunc, .nilfunc] [(0,1,(.t 16)),(1,1,(.f 337)),(2,1,(.f 338))]),
oP 18 (.ixA 3 3 (some 3) (.t 4) (.t 15)),
oN (.store 3 (.t 18) (.t 17))] [2,4,10,11])))
(.reg [oP 19 (.bin .add (.t 11) (cI 1)),
mV 11 19] [2,4,10,11])))))))
(.seq (.reg [oP 20 (.load (some 9) (.t 4)),
oN (.store 9 (.t 2) (.t 20))] [2])
.ret))))))
abbrev Ai:RsT:=[(2,some (some 9))]
theorem O7:an Tryz.prog Tryz.f302 21 BF Ai = true:=by kernel_rfl
theorem ad0:af Tryz.prog Tu = true:=by kernel_rfl
theorem OL:ag Tryz.prog ⟨302,21,BF,Ai,0⟩:=⟨fun _=>⟨ad0,_,Tryz.func302,O7⟩,fun h=>by cases h⟩
abbrev PI:FuncId:=303
def yT:AC:=
(.seq (.reg [oP 4 (.mv (.c (.bool false)))] [0,1])
(.seq (.reg [mV 5 0,
mV 6 1,
oP 7 (.call (.f 268) [true,false] [(.t 5),(.t 6)]),
oP 8 (.bin .geq (.t 7) (cI 0)),
mV 4 8] [4])
.ret))
abbrev yP:RsT:=[(4,none)]
theorem RP:an Tryz.prog Tryz.f303 9 yT yP = true:=by kernel_rfl
theorem Qe:af Tryz.prog PI = true:=by kernel_rfl
theorem Pw:ag Tryz.prog ⟨303,9,yT,yP,0⟩:=⟨fun _=>⟨Qe,_,Tryz.func303,RP⟩,fun h=>by cases h⟩
abbrev QH:FuncId:=304
def FI:AC:=
(.seq (.reg [oP 2 (.pbox 2 (.t 0)),
oP 3 (.mv (.c (.bool false)))] [1,2])
(.seq (.reg [oP 4 (.fieldAddr none 0 (.t 2)),
oP 5 (.load none (.t 4)),
oP 6 (.fieldAddr none 0 (.t 1)),
oP 7 (.load none (.t 6)),
oP 8 (.bin .eql (.t 5) (.t 7)),
mV 3 8] [3])
.ret))
abbrev BB:RsT:=[(3,none)]
theorem Rh:an Tryz.prog Tryz.f304 9 FI BB = true:=by kernel_rfl
theorem QS:af Tryz.prog QH = true:=by kernel_rfl
theorem WJ:ag Tryz.prog ⟨304,9,FI,BB,0⟩:=⟨fun _=>⟨QS,_,Tryz.func304,Rh⟩,fun h=>by cases h⟩
abbrev aaN:FuncId:=310
def Dt:AC:=
(.seq (.reg [oP 2 (.mv (cI 0))] [0,2])
(.seq (.seq (.reg [mV 3 0,
oP 4 (.bin .geq (.t 3) (.c (.int .u64 4294967296)))] [0,2,4])
(.cond (.t 4)
(.seq (.reg [mV 5 0,
oP 6 (.bin .shr (.t 5) (.c (.int .u64 32))),
mV 0 6] [0])
(.reg [oP 2 (.mv (cI 32))] [0,2]))
.skip))
(.seq (.seq (.reg [mV 7 0,
oP 8 (.bin .geq (.t 7) (.c (.int .u64 65536)))] [0,2,8])
(.cond (.t 8)
(.seq (.reg [mV 9 0,
oP 10 (.bin .shr (.t 9) (.c (.int .u64 16))),
mV 0 10] [0,2])
(.reg [mV 11 2,
oP 12 (.bin .add (.t 11) (cI 16)),
mV 2 12] [0,2]))
.skip))
(.seq (.seq (.reg [mV 13 0,
oP 14 (.bin .geq (.t 13) (.c (.int .u64 256)))] [0,2,14])
(.cond (.t 14)
(.seq (.reg [mV 15 0,
oP 16 (.bin .shr (.t 15) (.c (.int .u64 8))),
mV 0 16] [0,2])
(.reg [mV 17 2,
oP 18 (.bin .add (.t 17) (cI 8)),
mV 2 18] [0,2]))
.skip))
(.seq (.reg [mV 19 2,
mV 20 0,
oP 21 (.conv .u8 (.t 20)),
⟨some 22,none, .ixStr (.c (.str ⟨#[0,1,2,2,3,3,3,3,4,4,4,4,4,4,4,4,5,5,5,5,5,5,5,5,5,5,5,5,5,5,5,5,6,6,6,6,6,6,6,6,6,6,6,6,6,6,6,6,6,6,6,6,6,6,6,6,6,6,6,6,6,6,6,6,7,7,7,7,7,7,7,7,7,7,7,7,7,7,7,7,7,7,7,7,7,7,7,7,7,7,7,7,7,7,7,7,7,7,7,7,7,7,7,7,7,7,7,7,7,7,7,7,7,7,7,7,7,7,7,7,7,7,7,7,7,7,7,7,8,8,8,8,8,8,8,8,8,8,8,8,8,8,8,8,8,8,8,8,8,8,8,8,8,8,8,8,8,8,8,8,8,8,8,8,8,8,8,8,8,8,8,8,8,8,8,8,8,8,8,8,8,8,8,8,8,8,8,8,8,8,8,8,8,8,8,8,8,8,8,8,8,8,8,8,8,8,8,8,8,8,8,8,8,8,8,8,8,8,8,8,8,8,8,8,8,8,8,8,8,8,8,8,8,8,8,8,8,8,8,8,8,8,8,8,8,8,8,8,8,8,8,8,8,8,8,8]⟩)) (.t 21)⟩,
oP 23 (.conv .i64 (.t 22)),
oP 24 (.bin .add (.t 19) (.t 23)),
mV 2 24] [2])
.ret)))))
abbrev E8:RsT:=[(2,none)]
theorem Vt:an Tryz.prog Tryz.f310 25 Dt E8 = true:=by kernel_rfl
theorem We:af Tryz.prog aaN = true:=by kernel_rfl
theorem aci:ag Tryz.prog ⟨310,25,Dt,E8,0⟩:=⟨fun _=>⟨We,_,Tryz.func310,Vt⟩,fun h=>by cases h⟩
abbrev ab8:FuncId:=313
def DT:AC:=
(.seq (.reg [oP 2 (.mv (cI 0))] [0])
(.seq (.cond (.c (.bool false))
(.seq (.reg [mV 3 0,
oP 4 (.conv .u32 (.t 3)),
oP 5 (.call (.f 339) [false] [(.t 4)]),
mV 2 5] [2])
.ret)
.skip)
(.seq (.reg [mV 6 0,
oP 7 (.call (.f 340) [false] [(.t 6)]),
mV 2 7] [2])
.ret)))
abbrev Ek:RsT:=[(2,none)]
theorem Yv:an Tryz.prog Tryz.f313 8 DT Ek = true:=by kernel_rfl
theorem YL:af Tryz.prog ab8 = true:=by kernel_rfl
theorem Xn:ag Tryz.prog ⟨313,8,DT,Ek,0⟩:=⟨fun _=>⟨YL,_,Tryz.func313,Yv⟩,fun h=>by cases h⟩
abbrev Yu:FuncId:=315
def GM:AC:=
(.seq (.reg [oP 4 (.mv (.c (.bool false)))] [0,1])
(.seq (.reg [mV 5 0,
mV 6 1,
oP 7 (.call (.f 341) [true,false] [(.t 5),(.t 6)]),
oP 8 (.bin .geq (.t 7) (cI 0)),
mV 4 8] [4])
.ret))
abbrev A4:RsT:=[(4,none)]
theorem aa5:an Tryz.prog Tryz.f315 9 GM A4 = true:=by kernel_rfl
theorem UK:af Tryz.prog Yu = true:=by kernel_rfl
theorem Tc:ag Tryz.prog ⟨315,9,GM,A4,0⟩:=⟨fun _=>⟨UK,_,Tryz.func315,aa5⟩,fun h=>by cases h⟩
abbrev Ro:FuncId:=316
def EW:AC:=
(.seq (.reg [oP 2 (.pbox 2 (.t 0)),
oP 3 (.mv (.c (.bool false)))] [1,2])
(.seq (.reg [oP 4 (.fieldAddr none 0 (.t 2)),
oP 5 (.load none (.t 4)),
oP 6 (.load none (.t 1)),
oP 7 (.bin .leq (.t 5) (.t 6)),
mV 8 7,
gT 9 8 (.load none (.t 1)),
gT 10 8 (.fieldAddr none 1 (.t 2)),
gT 11 8 (.load none (.t 10)),
gT 12 8 (.bin .leq (.t 9) (.t 11)),
oP 13 (.pick (.t 8) (.t 12) (.c (.bool false))),
mV 3 13] [3])
.ret))
abbrev Fo:RsT:=[(3,none)]
theorem Og:an Tryz.prog Tryz.f316 14 EW Fo = true:=by kernel_rfl
theorem T9:af Tryz.prog Ro = true:=by kernel_rfl
theorem NB:ag Tryz.prog ⟨316,14,EW,Fo,0⟩:=⟨fun _=>⟨T9,_,Tryz.func316,Og⟩,fun h=>by cases h⟩
abbrev Oi:FuncId:=317
def EI:AC:=
(.seq (.reg [oP 3 (.mv (.c (.bool false)))] [0,1])
(.seq (.reg [oP 4 (.fieldAddr none 0 (.t 1)),
oP 5 (.load none (.t 4)),
mV 6 0,
oP 7 (.call (.f 79) [true,false] [(.t 5),(.t 6)]),
oP 8 (.un .not (.t 7)),
mV 3 8] [3])
.ret))
abbrev yE:RsT:=[(3,none)]
theorem P7:an Tryz.prog Tryz.f317 9 EI yE = true:=by kernel_rfl
theorem acJ:af Tryz.prog Oi = true:=by kernel_rfl
theorem Nz:ag Tryz.prog ⟨317,9,EI,yE,0⟩:=⟨fun _=>⟨acJ,_,Tryz.func317,P7⟩,fun h=>by cases h⟩
abbrev S4:FuncId:=318
def ES:AC:=
(.seq (.reg [oP 6 (.mv (.c (.bool false)))] [1,2])
(.seq (.reg [mV 7 1,
mV 8 2,
oP 9 (.call (.f 342) [false,false] [(.t 7),(.t 8)]),
oP 10 (.un .not (.t 9)),
mV 6 10] [6])
.ret))
abbrev yX:RsT:=[(6,none)]
theorem NP:an Tryz.prog Tryz.f318 11 ES yX = true:=by kernel_rfl
theorem acR:af Tryz.prog S4 = true:=by kernel_rfl
theorem acz:ag Tryz.prog ⟨318,11,ES,yX,0⟩:=⟨fun _=>⟨acR,_,Tryz.func318,NP⟩,fun h=>by cases h⟩
abbrev U3:FuncId:=319
def DU:AC:=
(.seq (.reg [oP 6 (.mv (.c (.bool false)))] [0,1,2])
(.seq (.reg [mV 7 1,
mV 8 0,
oP 9 (.nilchk (.t 8)),
oP 10 (.fieldAddr none 11 (.t 9)),
oP 11 (.load none (.t 10)),
mV 12 2,
oP 13 (.ixS 1 (.t 11) (.t 12)),
oP 14 (.load none (.t 13)),
oP 15 (.bin .and (.t 7) (.t 14)),
oP 16 (.bin .neq (.t 15) (cI 0)),
mV 6 16] [6])
.ret))
abbrev C7:RsT:=[(6,none)]
theorem Ou:an Tryz.prog Tryz.f319 17 DU C7 = true:=by kernel_rfl
theorem TA:af Tryz.prog U3 = true:=by kernel_rfl
theorem aes:ag Tryz.prog ⟨319,17,DU,C7,0⟩:=⟨fun _=>⟨TA,_,Tryz.func319,Ou⟩,fun h=>by cases h⟩
abbrev Xj:FuncId:=320
def D6:AC:=
(.seq (.reg [oP 6 (.mv (.c (.bool false)))] [0,2])
(.seq (.reg [mV 7 0,
oP 8 (.nilchk (.t 7)),
oP 9 (.fieldAddr none 12 (.t 8)),
oP 10 (.load none (.t 9)),
mV 11 2,
oP 12 (.call (.f 342) [false,false] [(.t 10),(.t 11)]),
mV 6 12] [6])
.ret))
abbrev EK:RsT:=[(6,none)]
theorem XL:an Tryz.prog Tryz.f320 13 D6 EK = true:=by kernel_rfl
theorem ac3:af Tryz.prog Xj = true:=by kernel_rfl
theorem OV:ag Tryz.prog ⟨320,13,D6,EK,0⟩:=⟨fun _=>⟨ac3,_,Tryz.func320,XL⟩,fun h=>by cases h⟩
abbrev O0:FuncId:=321
def El:AC:=
(.seq (.reg [oP 3 (.pbox 1 (.t 0)),
oP 6 (.mv (.c (.bool false)))] [1,2,3])
(.seq (.reg [mV 12 1,
mV 13 2,
oP 14 (.bin .shl (cI 1) (.t 13)),
oP 15 (.bin .andNot (.t 12) (.t 14)),
mV 7 15] [3,7])
(.seq (.seq (.reg [mV 16 7,
oP 17 (.bin .eql (.t 16) (cI 0))] [3,7,17])
(.cond (.t 17)
(.seq (.reg [oP 6 (.mv (.c (.bool false)))] [6])
.ret)
.skip))
(.seq (.reg [oP 19 (.load none (.t 3)),
oP 20 (.nilchk (.t 19)),
oP 21 (.fieldAddr none 13 (.t 20)),
oP 22 (.load none (.t 21)),
mV 23 7,
oP 24 (.mget true .i (.int .i64 0) (.t 22) (.t 23)),
mV 18 24,
oP 25 (.extract (.t 18) 0),
oP 26 (.extract (.t 18) 1),
mV 8 25,
mV 9 26] [3,7,8,9])
(.seq (.seq (.reg [mV 27 9,
oP 28 (.un .not (.t 27))] [3,7,8,28])
(.cond (.t 28)
(.seq (.reg [oP 29 (.load none (.t 3)),
oP 30 (.nilchk (.t 29)),
oP 31 (.fieldAddr (some 11) 0 (.t 30)),
oP 32 (.fieldAddr (some 3) 1 (.t 31)),
oP 33 (.load (some 3) (.t 32)),
oP 10 (.alloc [.slice 7 [], .int .i64 0, .int .i64 0]),
oN (.store 3 (.t 10) (.t 33))] [3,7,10])
(.seq (.reg [oP 34 (.fieldAddr none 0 (.t 10)),
oN (.storem 7 (.t 34))] [3,7,10])
(.seq (.seq (.reg [mV 35 7,
oP 36 (.call (.f 282) [false] [(.t 35)])] [3,7,10,36])
(.block 0
(.cg (.t 36) [37] (.reg [mV 11 37] [3,10,11])
(.block 1
(.dreg [oP 38 (.fieldAddr none 0 (.t 10)),
oP 39 (.load none (.t 38)),
oP 40 (.load none (.t 3)),
oP 41 (.nilchk (.t 40)),
oP 42 (.fieldAddr (some 11) 0 (.t 41)),
oP 43 (.fieldAddr (some 3) 1 (.t 42)),
oP 44 (.fieldAddr none 0 (.t 43)),
oP 45 (.load none (.t 44)),
mV 46 11,
oP 47 (.ixS 7 (.t 45) (.t 46)),
oP 48 (.load (some 7) (.t 47)),
oP 49 (.lit 0 7 1 [(0,(.t 48))]),
oP 50 (.append 7 64 (.t 39) (.t 49)),
oP 51 (.fieldAddr none 0 (.t 10)),
oN (.store 1 (.t 51) (.t 50))] [] [[],[0],[],[2],[2,3],[2,3,4],[2,3,4,5],[2,3,4,5,6],[],[2,3,4,5,6,7,8],[2,3,4,5,6,7,8,9],[2,3,4,5,6,7,8,9,10],[0,1,2,3,4,5,6,7,8,9,10,11],[0,1,2,3,4,5,6,7,8,9,10,11,12],[0,1,2,3,4,5,6,7,8,9,10,11,12,13]])))))
(.seq (.dreg [oP 53 (.load (some 3) (.t 10)),
oP 54 (.load none (.t 3)),
oP 55 (.nilchk (.t 54)),
oP 56 (.fieldAddr (some 11) 0 (.t 55)),
oP 57 (.fieldAddr (some 2) 4 (.t 56)),
oP 58 (.load (some 2) (.t 57)),
oP 59 (.call (.f 89) [true,false] [(.t 53),(.t 58)]),
mV 52 59,
oP 60 (.extract (.t 52) 0),
oP 61 (.extract (.t 52) 1),
oP 62 (.extract (.t 52) 2),
mV 8 60] [3,7,8] [[],[],[1],[1,2],[1,2,3],[1,2,3,4],[0,1,2,3,4,5],[0,1,2,3,4,5,6],[0,1,2,3,4,5,6,7],[0,1,2,3,4,5,6,7],[0,1,2,3,4,5,6,7],[0,1,2,3,4,5,6,7,8]])
(.reg [oP 63 (.load none (.t 3)),
oP 64 (.nilchk (.t 63)),
oP 65 (.fieldAddr none 13 (.t 64)),
oP 66 (.load none (.t 65)),
mV 67 7,
mV 68 8,
oN (.mset .i (.t 66) (.t 67) (.t 68))] [8])))))
.skip))
(.seq (.reg [mV 69 8,
oP 70 (.bin .neq (.t 69) (cI 0)),
mV 6 70] [6])
.ret))))))
abbrev GF:RsT:=[(6,none)]
theorem abd:an Tryz.prog Tryz.f321 71 El GF = true:=by kernel_rfl
theorem abY:af Tryz.prog O0 = true:=by kernel_rfl
theorem adH:ag Tryz.prog ⟨321,71,El,GF,0⟩:=⟨fun _=>⟨abY,_,Tryz.func321,abd⟩,fun h=>by cases h⟩
abbrev QU:FuncId:=322
def z6:AC:=
(.seq (.reg [oP 4 (.load none (.t 1)),
oP 5 (.conv .u64 (.t 4)),
mV 3 5] [0,3])
(.block 0
(.loop [0,3]
(.seq (.seq (.reg [mV 6 3,
oP 7 (.bin .neq (.t 6) (.c (.int .u64 0)))] [0,3,7])
(.cond (.t 7)
.skip
(.exit 0)))
(.seq (.block 1
(.seq (.reg [mV 12 0,
mV 13 3,
oP 14 (.call (.f 313) [false] [(.t 13)]),
oP 15 (.call (.t 12) [false] [(.t 14)]),
oP 16 (.un .not (.t 15))] [0,3,16])
(.cond (.t 16)
.ret
.skip)))
(.reg [mV 8 3,
mV 9 3,
oP 10 (.bin .sub (.t 9) (.c (.int .u64 1))),
oP 11 (.bin .and (.t 8) (.t 10)),
mV 3 11] [0,3]))))))
abbrev yF:RsT:=[]
theorem Px:an Tryz.prog Tryz.f322 17 z6 yF = true:=by kernel_rfl
theorem SS:af Tryz.prog QU = true:=by kernel_rfl
theorem aa7:ag Tryz.prog ⟨322,17,z6,yF,0⟩:=⟨fun _=>⟨SS,_,Tryz.func322,Px⟩,fun h=>by cases h⟩
abbrev ac5:FuncId:=323
def Ew:AC:=
(.seq (.reg [oP 4 (.mv (cI 0)),
oP 5 (.mv (cI 0))] [0,1])
(.seq (.seq (.reg [mV 8 0,
oP 9 (.len (.t 8)),
oP 10 (.mv (cI 0))] [1,8,9,10])
(.block 0
(.loop [1,8,9,10]
(.seq (.reg [oP 11 (.bin .lss (.t 10) (.t 9))] [1,8,9,10,11])
(.seq (.cond (.t 11)
.skip
(.exit 0))
(.seq (.block 1
(.seq (.reg [mV 12 10,
oP 13 (.ixS 1 (.t 8) (.t 10)),
oP 14 (.load none (.t 13)),
mV 6 12,
mV 7 14] [1,6,7,8,9,10])
(.seq (.reg [mV 15 1,
mV 16 6,
mV 17 7,
oP 18 (.call (.t 15) [false,false] [(.t 16),(.t 17)]),
mV 5 18] [1,5,6,8,9,10])
(.seq (.reg [mV 19 5,
oP 20 (.bin .neq (.t 19) (cI 0))] [1,5,6,8,9,10,20])
(.cond (.t 20)
(.seq (.reg [mV 21 6,
mV 22 5,
mV 4 21,
mV 5 22] [4,5])
.ret)
.skip)))))
(.reg [oP 23 (.bin .add (.t 10) (cI 1)),
mV 10 23] [1,8,9,10])))))))
(.seq (.reg [oP 4 (.mv (cI 0)),
oP 5 (.mv (cI 0))] [4,5])
.ret)))
abbrev DB:RsT:=[(4,none),(5,none)]
theorem YX:an Tryz.prog Tryz.f323 24 Ew DB = true:=by kernel_rfl
theorem T0:af Tryz.prog ac5 = true:=by kernel_rfl
theorem S7:ag Tryz.prog ⟨323,24,Ew,DB,0⟩:=⟨fun _=>⟨T0,_,Tryz.func323,YX⟩,fun h=>by cases h⟩
abbrev Vk:FuncId:=324
def CB:AC:=
(.seq (.reg [oP 6 (.mv (cI 0))] [0,1,2,3])
(.seq (.block 0
(.seq (.reg [oP 8 (.fieldAddr (some 5) 0 (.t 2)),
oP 9 (.fieldAddr none 3 (.t 8)),
oP 10 (.load none (.t 9)),
oP 11 (.len (.t 10)),
oP 12 (.bin .sub (.t 11) (cI 1)),
mV 13 1,
oP 14 (.lit 0 1 1 [(0,(.t 13))]),
oP 15 (.call (.f 92) [false,false,true] [(cI 0),(.t 12),(.t 14)]),
mV 7 15] [0,1,3,7])
(.cond (.t 7)
(.seq (.reg [oP 6 (.mv (cI 4))] [6])
.ret)
(.seq (.reg [mV 17 0,
oP 18 (.bin .gtr (.t 17) (cI 0)),
mV 19 18,
gT 20 19 (.mv (.t 1)),
gT 21 19 (.load none (.t 3)),
gT 22 19 (.mv (.t 0)),
gT 23 19 (.bin .sub (.t 22) (cI 1)),
gT 24 19 (.ixS 1 (.t 21) (.t 23)),
gT 25 19 (.load none (.t 24)),
gT 26 19 (.bin .leq (.t 20) (.t 25)),
oP 27 (.pick (.t 19) (.t 26) (.c (.bool false))),
mV 16 27] [16])
(.cond (.t 16)
(.seq (.reg [oP 6 (.mv (cI 2))] [6])
.ret)
.skip)))))
(.seq (.reg [oP 6 (.mv (cI 0))] [6])
.ret)))
abbrev FE:RsT:=[(6,none)]
theorem Wr:an Tryz.prog Tryz.f324 28 CB FE = true:=by kernel_rfl
theorem Np:af Tryz.prog Vk = true:=by kernel_rfl
theorem UG:ag Tryz.prog ⟨324,28,CB,FE,0⟩:=⟨fun _=>⟨Np,_,Tryz.func324,Wr⟩,fun h=>by cases h⟩
abbrev Xe:FuncId:=325
def zA:AC:=
(.seq (.reg [oP 3 (.pbox 5 (.t 0)),
oP 6 (.mv (.c (.bool false)))] [1,2,3])
(.seq (.reg [oP 8 (.fieldAddr (some 5) 0 (.t 3)),
oP 9 (.fieldAddr none 3 (.t 8)),
oP 10 (.load none (.t 9)),
mV 11 1,
oP 12 (.ixS 5 (.t 10) (.t 11)),
oP 13 (.fieldAddr none 4 (.t 12)),
oP 14 (.load none (.t 13)),
mV 7 14] [1,2,3,7])
(.seq (.qreg [mV 15 7,
mV 16 1,
oP 17 (.bin .gtr (.t 15) (.t 16)),
mV 18 17,
gT 19 18 (.fieldAddr (some 5) 0 (.t 3)),
gT 20 18 (.fieldAddr none 3 (.t 19)),
gT 21 18 (.load none (.t 20)),
gT 22 18 (.mv (.t 1)),
gT 23 18 (.ixS 5 (.t 21) (.t 22)),
gT 24 18 (.fieldAddr none 3 (.t 23)),
gT 25 18 (.load none (.t 24)),
gT 26 18 (.fieldAddr (some 5) 0 (.t 3)),
gT 27 18 (.fieldAddr none 3 (.t 26)),
gT 28 18 (.load none (.t 27)),
gT 29 18 (.mv (.t 7)),
gT 30 18 (.ixS 5 (.t 28) (.t 29)),
gT 31 18 (.fieldAddr none 3 (.t 30)),
gT 32 18 (.load none (.t 31)),
gT 33 18 (.bin .neq (.t 25) (.t 32)),
oP 34 (.pick (.t 18) (.t 33) (.c (.bool false))),
mV 35 34,
gT 36 35 (.mv (.t 2)),
gT 37 35 (.mv (.t 1)),
gT 38 35 (.call (.f 79) [true,false] [(.t 36),(.t 37)]),
gT 39 35 (.un .not (.t 38)),
oP 40 (.pick (.t 35) (.t 39) (.c (.bool false))),
mV 41 40,
gT 42 41 (.mv (.t 2)),
gT 43 41 (.mv (.t 7)),
gT 44 41 (.call (.f 79) [true,false] [(.t 42),(.t 43)]),
gT 45 41 (.un .not (.t 44)),
oP 46 (.pick (.t 41) (.t 45) (.c (.bool false))),
mV 6 46] [6] [[],[],[0,1],[0,1,2],[0,1,2,3],[0,1,2,3,4],[0,1,2,3,4,5],[0,1,2,3],[0,1,2,3,4,5,6,7],[0,1,2,3,4,5,6,7,8],[0,1,2,3,4,5,6,7,8,9],[0,1,2,3],[0,1,2,3,11],[0,1,2,3,11,12],[0,1,2,3],[0,1,2,3,11,12,13,14],[0,1,2,3,11,12,13,14,15],[0,1,2,3,11,12,13,14,15,16],[0,1,2,3,4,5,6,7,8,9,10,11,12,13,14,15,16,17],[0,1,2,3,4,5,6,7,8,9,10,11,12,13,14,15,16,17,18],[0,1,2,3,4,5,6,7,8,9,10,11,12,13,14,15,16,17,18,19],[0,1,2,3,4,5,6,7,8,9,10,11,12,13,14,15,16,17,18,19,20],[0,1,2,3,4,5,6,7,8,9,10,11,12,13,14,15,16,17,18,19,20],[0,1,2,3,4,5,6,7,8,9,10,11,12,13,14,15,16,17,18,19,20,21,22],[0,1,2,3,4,5,6,7,8,9,10,11,12,13,14,15,16,17,18,19,20,21,22,23],[0,1,2,3,4,5,6,7,8,9,10,11,12,13,14,15,16,17,18,19,20,21,22,23,24],[0,1,2,3,4,5,6,7,8,9,10,11,12,13,14,15,16,17,18,19,20,21,22,23,24,25],[0,1,2,3,4,5,6,7,8,9,10,11,12,13,14,15,16,17,18,19,20,21,22,23,24,25,26],[0,1,2,3,4,5,6,7,8,9,10,11,12,13,14,15,16,17,18,19,20,21,22,23,24,25,26],[0,1,2,3,4,5,6,7,8,9,10,11,12,13,14,15,16,17,18,19,20,21,22,23,24,25,26,27,28],[0,1,2,3,4,5,6,7,8,9,10,11,12,13,14,15,16,17,18,19,20,21,22,23,24,25,26,27,28,29],[0,1,2,3,4,5,6,7,8,9,10,11,12,13,14,15,16,17,18,19,20,21,22,23,24,25,26,27,28,29,30],[0,1,2,3,4,5,6,7,8,9,10,11,12,13,14,15,16,17,18,19,20,21,22,23,24,25,26,27,28,29,30,31]] [([0,1,2,3,4,5,6,7,8,9,10,11,12,13,14,15,16,17,18,19,20,21,22],23),([24,25,26,27,28],29)] [30,31,32])
.ret)))
abbrev zL:RsT:=[(6,none)]
theorem Y5:an Tryz.prog Tryz.f325 47 zA zL = true:=by kernel_rfl
theorem WI:af Tryz.prog Xe = true:=by kernel_rfl
theorem adq:ag Tryz.prog ⟨325,47,zA,zL,0⟩:=⟨fun _=>⟨WI,_,Tryz.func325,Y5⟩,fun h=>by cases h⟩
abbrev VV:FuncId:=326
def xz:AC:=
(.seq (.reg [oP 3 (.mv (cI 0))] [0,1])
(.seq (.seq (.reg [mV 4 0,
oP 5 (.bin .eql (.t 4) (cI (-1)))] [0,1,5])
(.cond (.t 5)
(.seq (.reg [oP 6 (.load none (.t 1)),
mV 3 6] [3])
.ret)
.skip))
(.seq (.reg [mV 7 0,
mV 3 7] [3])
.ret)))
abbrev yc:RsT:=[(3,none)]
theorem P6:an Tryz.prog Tryz.f326 8 xz yc = true:=by kernel_rfl
theorem aeo:af Tryz.prog VV = true:=by kernel_rfl
theorem Qo:ag Tryz.prog ⟨326,8,xz,yc,0⟩:=⟨fun _=>⟨aeo,_,Tryz.func326,P6⟩,fun h=>by cases h⟩
abbrev Tp:FuncId:=327
def GL:AC:=
(.seq (.reg [oP 3 (.pbox 2 (.t 1)),
oP 4 (.alloc [.int .i64 0, .int .i64 0]),
oP 5 (.mv (.c (.bool false)))] [0,3,4])
(.seq (.reg [mV 7 0,
oP 8 (.mkfunc (.func 344) [] [(.t 3)]),
oP 9 (.call (.f 343) [true,false] [(.t 7),(.t 8)]),
mV 6 9] [0,4,6])
(.seq (.seq (.reg [mV 10 6,
oP 11 (.bin .lss (.t 10) (cI 0))] [0,4,6,11])
(.cond (.t 11)
(.seq (.reg [oP 12 (.build [.int .i64 0, .int .i64 0] []),
oN (.store 2 (.t 4) (.t 12)),
oP 5 (.mv (.c (.bool false)))] [4,5])
.ret)
.skip))
(.seq (.reg [mV 13 0,
mV 14 6,
oP 15 (.ixS 4 (.t 13) (.t 14)),
oP 16 (.fieldAddr (some 2) 2 (.t 15)),
oP 17 (.load (some 2) (.t 16)),
oN (.store 2 (.t 4) (.t 17)),
oP 5 (.mv (.c (.bool true)))] [4,5])
.ret))))
abbrev Fe:RsT:=[(4,some (some 2)),(5,none)]
theorem S1:an Tryz.prog Tryz.f327 18 GL Fe = true:=by kernel_rfl
theorem Yq:af Tryz.prog Tp = true:=by kernel_rfl
theorem Zm:ag Tryz.prog ⟨327,18,GL,Fe,0⟩:=⟨fun _=>⟨Yq,_,Tryz.func327,S1⟩,fun h=>by cases h⟩
abbrev acX:FuncId:=328
def yR:AC:=
(.seq (.reg [oP 2 (.pbox 5 (.t 0)),
oP 4 (.mv (.c (.bool false)))] [1,2])
(.seq (.reg [oP 5 (.fieldAddr (some 5) 0 (.t 2)),
oP 6 (.fieldAddr none 3 (.t 5)),
oP 7 (.load none (.t 6)),
mV 8 1,
oP 9 (.ixS 5 (.t 7) (.t 8)),
oP 10 (.fieldAddr none 4 (.t 9)),
oP 11 (.load none (.t 10)),
oP 12 (.bin .lss (.t 11) (cI 0)),
mV 13 12,
gF 14 13 (.mv (.t 1)),
gF 15 13 (.fieldAddr (some 5) 0 (.t 2)),
gF 16 13 (.fieldAddr none 3 (.t 15)),
gF 17 13 (.load none (.t 16)),
gF 18 13 (.mv (.t 1)),
gF 19 13 (.ixS 5 (.t 17) (.t 18)),
gF 20 13 (.fieldAddr none 4 (.t 19)),
gF 21 13 (.load none (.t 20)),
gF 22 13 (.bin .lss (.t 14) (.t 21)),
oP 23 (.pick (.t 13) (.c (.bool true)) (.t 22)),
mV 4 23] [4])
.ret))
abbrev Cv:RsT:=[(4,none)]
theorem Pp:an Tryz.prog Tryz.f328 24 yR Cv = true:=by kernel_rfl
theorem ad1:af Tryz.prog acX = true:=by kernel_rfl
theorem aay:ag Tryz.prog ⟨328,24,yR,Cv,0⟩:=⟨fun _=>⟨ad1,_,Tryz.func328,Pp⟩,fun h=>by cases h⟩
abbrev Vx:FuncId:=329
def CS:AC:=
(.seq (.reg [oP 3 (.pbox 5 (.t 0)),
oP 6 (.alloc [.int .i64 0, .int .i64 0])] [1,2,3,6])
(.seq (.reg [mV 11 1,
oP 12 (.lit 0 1 1 [(0,(.t 11))]),
mV 7 12] [1,2,3,6,7])
(.seq (.seq (.reg [oP 13 (.fieldAddr (some 5) 0 (.t 3)),
oP 14 (.fieldAddr none 3 (.t 13)),
oP 15 (.load none (.t 14)),
mV 16 1,
oP 17 (.ixS 5 (.t 15) (.t 16)),
oP 18 (.fieldAddr none 4 (.t 17)),
oP 19 (.load none (.t 18)),
mV 8 19] [1,2,3,6,7,8])
(.seq (.reg [mV 20 8,
oP 21 (.bin .geq (.t 20) (cI 0))] [1,2,3,6,7,8,21])
(.cond (.t 21)
(.reg [mV 22 1,
mV 23 8,
oP 24 (.mn [(.t 22),(.t 23)]),
mV 25 1,
mV 26 8,
oP 27 (.mx [(.t 25),(.t 26)]),
oP 28 (.lit 0 1 2 [(0,(.t 24)),(1,(.t 27))]),
mV 7 28] [2,3,6,7])
.skip)))
(.seq (.seq (.reg [mV 29 7,
oP 30 (.len (.t 29)),
oP 31 (.mv (cI 0))] [2,3,6,29,30,31])
(.block 0
(.loop [2,3,6,29,30,31]
(.seq (.reg [oP 32 (.bin .lss (.t 31) (.t 30))] [2,3,6,29,30,31,32])
(.seq (.cond (.t 32)
.skip
(.exit 0))
(.seq (.block 1
(.seq (.reg [oP 33 (.ixS 1 (.t 29) (.t 31)),
oP 34 (.load none (.t 33)),
mV 10 34] [2,3,6,10,29,30,31])
(.seq (.reg [mV 35 2,
mV 36 10,
oP 37 (.call (.f 79) [true,false] [(.t 35),(.t 36)]),
oP 38 (.un .not (.t 37))] [2,3,6,10,29,30,31,38])
(.cond (.t 38)
(.seq (.dreg [oP 39 (.fieldAddr (some 5) 0 (.t 3)),
oP 40 (.fieldAddr none 3 (.t 39)),
oP 41 (.load none (.t 40)),
mV 42 10,
oP 43 (.ixS 5 (.t 41) (.t 42)),
oP 44 (.fieldAddr none 3 (.t 43)),
oP 45 (.load none (.t 44)),
oP 46 (.fieldAddr (some 5) 0 (.t 3)),
oP 47 (.fieldAddr none 3 (.t 46)),
oP 48 (.load none (.t 47)),
mV 49 10,
oP 50 (.ixS 5 (.t 48) (.t 49)),
oP 51 (.fieldAddr none 3 (.t 50)),
oP 52 (.load none (.t 51)),
oP 53 (.build [.int .i64 0, .int .i64 0] [(0,1,(.t 45)),(1,1,(.t 52))]),
oN (.store 2 (.t 6) (.t 53))] [6] [[],[0],[0,1],[],[0,1,2,3],[0,1,2,3,4],[0,1,2,3,4,5],[],[7],[7,8],[],[7,8,9,10],[7,8,9,10,11],[7,8,9,10,11,12],[0,1,2,3,4,5,6,7,8,9,10,11,12,13],[0,1,2,3,4,5,6,7,8,9,10,11,12,13,14]])
.ret)
.skip))))
(.reg [oP 54 (.bin .add (.t 31) (cI 1)),
mV 31 54] [2,3,6,29,30,31])))))))
(.seq (.reg [oP 55 (.build [.int .i64 0, .int .i64 0] [(1,1,(cI 1000000))]),
oN (.store 2 (.t 6) (.t 55))] [6])
.ret)))))
abbrev Bv:RsT:=[(6,some (some 2))]
theorem Uc:an Tryz.prog Tryz.f329 56 CS Bv = true:=by kernel_rfl
theorem ade:af Tryz.prog Vx = true:=by kernel_rfl
theorem QI:ag Tryz.prog ⟨329,56,CS,Bv,0⟩:=⟨fun _=>⟨ade,_,Tryz.func329,Uc⟩,fun h=>by cases h⟩
abbrev PW:FuncId:=330
def yo:AC:=
(.seq (.reg [oP 5 (.pbox 1 (.t 0)),
oP 10 (.mv (cI 0)),
oP 11 (.mv (cI 0))] [1,2,3,4,5])
(.seq (.reg [oP 23 (.load none (.t 5)),
oP 24 (.nilchk (.t 23)),
oP 25 (.fieldAddr none 1 (.t 24)),
oP 26 (.load none (.t 25)),
oP 27 (.mksl 2 1 8 (.int .i64 0) (.t 26) (.t 26)),
mV 12 27] [1,2,3,4,5,12])
(.seq (.reg [mV 28 12,
mV 29 1,
oP 30 (.ixS 1 (.t 28) (.t 29)),
oN (.store 1 (.t 30) (cI (-1)))] [1,2,3,4,5,12])
(.seq (.reg [oP 31 (.mkfunc (.func 345) [] [(.t 5)]),
mV 13 31] [1,2,3,4,5,12,13])
(.seq (.seq (.reg [mV 32 1,
oP 33 (.lit 1 1 1 [(0,(.t 32))]),
mV 14 33] [1,2,3,4,5,12,13,14])
(.block 0
(.loop [1,2,3,4,5,12,13,14]
(.seq (.seq (.reg [mV 34 14,
oP 35 (.len (.t 34)),
oP 36 (.bin .gtr (.t 35) (cI 0))] [1,2,3,4,5,12,13,14,36])
(.cond (.t 36)
.skip
(.exit 0)))
(.seq (.block 1
(.seq (.reg [mV 39 14,
oP 40 (.ixS 1 (.t 39) (cI 0)),
oP 41 (.load none (.t 40)),
mV 15 41] [1,2,3,4,5,12,13,14,15])
(.seq (.seq (.reg [mV 42 15,
mV 43 1,
oP 44 (.bin .neq (.t 42) (.t 43)),
mV 45 44,
gT 46 45 (.mv (.t 4)),
gT 47 45 (.mv (.t 15)),
gT 48 45 (.call (.t 46) [false] [(.t 47)]),
gT 49 45 (.bin .gtr (.t 48) (cI 0)),
oP 50 (.pick (.t 45) (.t 49) (.c (.bool false)))] [1,2,3,4,5,12,13,14,15,50])
(.cond (.t 50)
(.seq (.reg [mV 51 2,
mV 52 4,
mV 53 15,
oP 54 (.call (.t 52) [false] [(.t 53)]),
oP 55 (.mn [(.t 51),(.t 54)]),
mV 10 55] [1,5,10,12,13,15])
(.seq (.seq (.reg [mV 56 15,
mV 16 56] [1,5,10,12,13,15,16])
(.block 2
(.loop [1,5,10,12,13,15,16]
(.seq (.seq (.reg [mV 57 16,
mV 58 1,
oP 59 (.bin .neq (.t 57) (.t 58))] [1,5,10,12,13,15,16,59])
(.cond (.t 59)
.skip
(.exit 2)))
(.seq (.block 3
(.seq (.reg [mV 68 12,
mV 69 16,
oP 70 (.ixS 1 (.t 68) (.t 69)),
oP 71 (.load none (.t 70)),
oP 72 (.bin .sub (.t 71) (cI 1)),
mV 17 72] [1,5,10,12,13,15,16,17])
(.creg [mV 73 10,
oP 74 (.load none (.t 5)),
oP 75 (.nilchk (.t 74)),
oP 76 (.fieldAddr none 0 (.t 75)),
oP 77 (.load none (.t 76)),
mV 78 17,
oP 79 (.ixS 5 (.t 77) (.t 78)),
oP 80 (.load (some 5) (.t 79)),
mV 81 13,
mV 82 17,
mV 83 16,
oP 84 (.call (.t 81) [false,false] [(.t 82),(.t 83)]),
oP 85 (.call (.f 346) [false,false] [(.t 80),(.t 84)]),
oP 86 (.mn [(.t 73),(.t 85)]),
oP 10 (.mvd (.t 86))] [1,5,10,12,13,15,16] [[],[],[1],[1,2],[1,2,3],[],[1,2,3,4,5],[1,2,3,4,5,6],[],[],[],[8,9,10],[1,2,3,4,5,6,7,8,9,10,11],[0,1,2,3,4,5,6,7,8,9,10,11,12],[0,1,2,3,4,5,6,7,8,9,10,11,12,13]] [([0,1,2,3,4,5,6,7,8,9,10],11),([],12),([13],14)] [])))
(.reg [mV 60 13,
mV 61 12,
mV 62 16,
oP 63 (.ixS 1 (.t 61) (.t 62)),
oP 64 (.load none (.t 63)),
oP 65 (.bin .sub (.t 64) (cI 1)),
mV 66 16,
oP 67 (.call (.t 60) [false,false] [(.t 65),(.t 66)]),
mV 16 67] [1,5,10,12,13,15,16]))))))
(.seq (.seq (.reg [mV 87 15,
mV 18 87] [1,5,10,12,13,15,18])
(.block 4
(.loop [1,5,10,12,13,15,18]
(.seq (.seq (.reg [mV 88 18,
mV 89 1,
oP 90 (.bin .neq (.t 88) (.t 89))] [1,5,10,12,13,15,18,90])
(.cond (.t 90)
.skip
(.exit 4)))
(.block 5
(.seq (.reg [mV 91 12,
mV 92 18,
oP 93 (.ixS 1 (.t 91) (.t 92)),
oP 94 (.load none (.t 93)),
oP 95 (.bin .sub (.t 94) (cI 1)),
mV 19 95] [1,5,10,12,13,15,18,19])
(.seq (.reg [mV 96 13,
mV 97 19,
mV 98 18,
oP 99 (.call (.t 96) [false,false] [(.t 97),(.t 98)]),
mV 20 99] [1,5,10,12,13,15,19,20])
(.seq (.seq (.reg [mV 100 20,
oP 101 (.load none (.t 5)),
oP 102 (.nilchk (.t 101)),
oP 103 (.fieldAddr none 0 (.t 102)),
oP 104 (.load none (.t 103)),
mV 105 19,
oP 106 (.ixS 5 (.t 104) (.t 105)),
oP 107 (.fieldAddr none 0 (.t 106)),
oP 108 (.load none (.t 107)),
oP 109 (.bin .eql (.t 100) (.t 108))] [1,5,10,12,13,15,19,20,109])
(.cond (.t 109)
(.reg [oP 110 (.load none (.t 5)),
oP 111 (.nilchk (.t 110)),
oP 112 (.fieldAddr none 0 (.t 111)),
oP 113 (.load none (.t 112)),
mV 114 19,
oP 115 (.ixS 5 (.t 113) (.t 114)),
oP 116 (.fieldAddr none 4 (.t 115)),
oP 117 (.load none (.t 116)),
mV 118 10,
oP 119 (.bin .add (.t 117) (.t 118)),
oP 120 (.ixS 5 (.t 113) (.t 114)),
oP 121 (.fieldAddr none 4 (.t 120)),
oN (.store 1 (.t 121) (.t 119))] [1,5,10,12,13,15,20])
(.reg [oP 122 (.load none (.t 5)),
oP 123 (.nilchk (.t 122)),
oP 124 (.fieldAddr none 0 (.t 123)),
oP 125 (.load none (.t 124)),
mV 126 19,
oP 127 (.ixS 5 (.t 125) (.t 126)),
oP 128 (.fieldAddr none 4 (.t 127)),
oP 129 (.load none (.t 128)),
mV 130 10,
oP 131 (.bin .sub (.t 129) (.t 130)),
oP 132 (.ixS 5 (.t 125) (.t 126)),
oP 133 (.fieldAddr none 4 (.t 132)),
oN (.store 1 (.t 133) (.t 131))] [1,5,10,12,13,15,20])))
(.reg [mV 134 20,
mV 18 134] [1,5,10,12,13,15,18])))))))))
(.seq (.reg [mV 135 10,
mV 136 15,
mV 10 135,
mV 11 136] [10,11])
.ret))))
.skip))
(.seq (.reg [oP 137 (.load none (.t 5)),
oP 138 (.nilchk (.t 137)),
oP 139 (.fieldAddr none 0 (.t 138)),
oP 140 (.load none (.t 139)),
oP 141 (.len (.t 140)),
oP 142 (.mv (cI 0))] [1,2,3,4,5,12,13,14,15,140,141,142])
(.block 6
(.loop [1,2,3,4,5,12,13,14,15,140,141,142]
(.seq (.reg [oP 143 (.bin .lss (.t 142) (.t 141))] [1,2,3,4,5,12,13,14,15,140,141,142,143])
(.seq (.cond (.t 143)
.skip
(.exit 6))
(.seq (.block 7
(.seq (.reg [mV 144 142,
oP 145 (.ixS 5 (.t 140) (.t 142)),
oP 146 (.load (some 5) (.t 145)),
oP 22 (.alloc [.int .i64 0, .int .i64 0, .int .i64 0, .int .i64 0, .int .i64 0]),
mV 21 144,
oN (.store 5 (.t 22) (.t 146))] [1,2,3,4,5,12,13,14,15,21,22,140,141,142])
(.frz 22 true (.seq (.seq (.reg [mV 147 21,
mV 148 3,
oP 149 (.bin .eql (.t 147) (.t 148)),
mV 150 149,
gF 151 150 (.mv (.t 15)),
gF 152 150 (.fieldAddr none 0 (.t 22)),
gF 153 150 (.load none (.t 152)),
gF 154 150 (.bin .neq (.t 151) (.t 153)),
gF 155 150 (.mv (.t 154)),
gT 156 155 (.mv (.t 15)),
gT 157 155 (.fieldAddr none 1 (.t 22)),
gT 158 155 (.load none (.t 157)),
gT 159 155 (.bin .neq (.t 156) (.t 158)),
gF 160 150 (.pick (.t 155) (.t 159) (.c (.bool false))),
oP 161 (.pick (.t 150) (.c (.bool true)) (.t 160)),
mV 162 161,
gF 163 162 (.load (some 5) (.t 22)),
gF 164 162 (.mv (.t 15)),
gF 165 162 (.call (.f 346) [false,false] [(.t 163),(.t 164)]),
gF 166 162 (.bin .leq (.t 165) (cI 0)),
oP 167 (.pick (.t 162) (.c (.bool true)) (.t 166)),
mV 168 167,
gF 169 168 (.mv (.t 12)),
gF 170 168 (.mv (.t 13)),
gF 171 168 (.mv (.t 21)),
gF 172 168 (.mv (.t 15)),
gF 173 168 (.call (.t 170) [false,false] [(.t 171),(.t 172)]),
gF 174 168 (.ixS 1 (.t 169) (.t 173)),
gF 175 168 (.load none (.t 174)),
gF 176 168 (.bin .neq (.t 175) (cI 0)),
oP 177 (.pick (.t 168) (.c (.bool true)) (.t 176))] [1,2,3,4,5,12,13,14,15,21,140,141,142,177])
(.cond (.t 177)
(.exit 7)
.skip))
(.seq (.reg [mV 178 12,
mV 179 13,
mV 180 21,
mV 181 15,
oP 182 (.call (.t 179) [false,false] [(.t 180),(.t 181)]),
mV 183 21,
oP 184 (.bin .add (.t 183) (cI 1)),
oP 185 (.ixS 1 (.t 178) (.t 182)),
oN (.store 1 (.t 185) (.t 184))] [1,2,3,4,5,12,13,14,15,21,140,141,142])
(.reg [mV 186 14,
mV 187 13,
mV 188 21,
mV 189 15,
oP 190 (.call (.t 187) [false,false] [(.t 188),(.t 189)]),
oP 191 (.lit 0 1 1 [(0,(.t 190))]),
oP 192 (.append 1 8 (.t 186) (.t 191)),
mV 14 192] [1,2,3,4,5,12,13,14,15,140,141,142]))))))
(.reg [oP 193 (.bin .add (.t 142) (cI 1)),
mV 142 193] [1,2,3,4,5,12,13,14,15,140,141,142]))))))))))
(.reg [mV 37 14,
oP 38 (.subO 1 (.t 37) (cI 1)),
mV 14 38] [1,2,3,4,5,12,13,14]))))))
(.seq (.reg [oP 10 (.mv (cI 0)),
oP 11 (.mv (cI 0))] [10,11])
.ret))))))
abbrev Gq:RsT:=[(10,none),(11,none)]
theorem abo:an Tryz.prog Tryz.f330 194 yo Gq = true:=by kernel_rfl
theorem Rq:af Tryz.prog PW = true:=by kernel_rfl
theorem VF:ag Tryz.prog ⟨330,194,yo,Gq,0⟩:=⟨fun _=>⟨Rq,_,Tryz.func330,abo⟩,fun h=>by cases h⟩
abbrev O3:FuncId:=331
def zt:AC:=
(.seq (.reg [oP 3 (.mv (cI 0))] [0,1])
(.seq (.reg [oP 4 (.load none (.t 1)),
mV 5 0,
oP 6 (.ixS 1 (.t 4) (.t 5)),
oP 7 (.load none (.t 6)),
oP 8 (.un .neg (.t 7)),
mV 3 8] [3])
.ret))
abbrev Cr:RsT:=[(3,none)]
theorem QE:an Tryz.prog Tryz.f331 9 zt Cr = true:=by kernel_rfl
theorem YP:af Tryz.prog O3 = true:=by kernel_rfl
theorem ab6:ag Tryz.prog ⟨331,9,zt,Cr,0⟩:=⟨fun _=>⟨YP,_,Tryz.func331,QE⟩,fun h=>by cases h⟩
abbrev YC:FuncId:=332
def zu:AC:=
(.seq (.reg [oP 8 (.mv (.c (.bool true)))] [0,1,2,3,8])
(.seq (.reg [oP 9 (.mv (.c (.bool true)))] [0,1,2,3,8,9])
(.block 0
(.loop [0,1,2,3,8,9]
(.block 1
(.seq (.reg [mV 19 2,
mV 20 1,
oP 21 (.bin .sub (.t 19) (.t 20)),
mV 10 21] [0,1,2,3,8,9,10])
(.seq (.seq (.reg [mV 22 10,
oP 23 (.bin .leq (.t 22) (cI 12))] [0,1,2,3,8,9,10,23])
(.cond (.t 23)
(.seq (.reg [mV 24 0,
mV 25 1,
mV 26 2,
oP 27 (.call (.f 347) [true,false,false] [(.t 24),(.t 25),(.t 26)])] [])
.ret)
.skip))
(.seq (.seq (.reg [mV 28 3,
oP 29 (.bin .eql (.t 28) (cI 0))] [0,1,2,3,8,9,10,29])
(.cond (.t 29)
(.seq (.reg [mV 30 0,
mV 31 1,
mV 32 2,
oP 33 (.call (.f 348) [true,false,false] [(.t 30),(.t 31),(.t 32)])] [])
.ret)
.skip))
(.seq (.seq (.reg [mV 34 8,
oP 35 (.un .not (.t 34))] [0,1,2,3,8,9,10,35])
(.cond (.t 35)
(.seq (.reg [mV 36 0,
mV 37 1,
mV 38 2,
oP 39 (.call (.f 349) [true,false,false] [(.t 36),(.t 37),(.t 38)])] [0,1,2,3,8,9,10])
(.reg [mV 40 3,
oP 41 (.bin .sub (.t 40) (cI 1)),
mV 3 41] [0,1,2,3,8,9,10]))
.skip))
(.seq (.reg [mV 43 0,
mV 44 1,
mV 45 2,
oP 46 (.call (.f 350) [true,false,false] [(.t 43),(.t 44),(.t 45)]),
mV 42 46,
oP 47 (.extract (.t 42) 0),
oP 48 (.extract (.t 42) 1),
mV 11 47,
mV 12 48] [0,1,2,3,8,9,10,11,12])
(.seq (.seq (.reg [mV 49 12,
oP 50 (.bin .eql (.t 49) (cI 2))] [0,1,2,3,8,9,10,11,12,50])
(.cond (.t 50)
(.seq (.reg [mV 51 0,
mV 52 1,
mV 53 2,
oP 54 (.call (.f 351) [true,false,false] [(.t 51),(.t 52),(.t 53)])] [0,1,2,3,8,9,10,11])
(.seq (.reg [mV 55 2,
oP 56 (.bin .sub (.t 55) (cI 1)),
mV 57 11,
mV 58 1,
oP 59 (.bin .sub (.t 57) (.t 58)),
oP 60 (.bin .sub (.t 56) (.t 59)),
mV 11 60] [0,1,2,3,8,9,10,11])
(.reg [oP 12 (.mv (cI 1))] [0,1,2,3,8,9,10,11,12])))
.skip))
(.seq (.seq (.reg [mV 61 8,
mV 62 61,
gT 63 62 (.mv (.t 9)),
oP 64 (.pick (.t 62) (.t 63) (.c (.bool false))),
mV 65 64,
gT 66 65 (.mv (.t 12)),
gT 67 65 (.bin .eql (.t 66) (cI 1)),
oP 68 (.pick (.t 65) (.t 67) (.c (.bool false)))] [0,1,2,3,8,9,10,11,68])
(.cond (.t 68)
(.seq (.reg [mV 69 0,
mV 70 1,
mV 71 2,
oP 72 (.call (.f 352) [true,false,false] [(.t 69),(.t 70),(.t 71)])] [0,1,2,3,8,9,10,11,72])
(.cond (.t 72)
.ret
.skip))
.skip))
(.seq (.seq (.dreg [mV 73 1,
oP 74 (.bin .gtr (.t 73) (cI 0)),
mV 75 74,
gT 76 75 (.mv (.t 0)),
gT 77 75 (.mv (.t 1)),
gT 78 75 (.bin .sub (.t 77) (cI 1)),
gT 79 75 (.ixS 1 (.t 76) (.t 78)),
gT 80 75 (.load none (.t 79)),
gT 81 75 (.mv (.t 0)),
gT 82 75 (.mv (.t 11)),
gT 83 75 (.ixS 1 (.t 81) (.t 82)),
gT 84 75 (.load none (.t 83)),
gT 85 75 (.call (.f 187) [false,false] [(.t 80),(.t 84)]),
gT 86 75 (.un .not (.t 85)),
oP 87 (.pick (.t 75) (.t 86) (.c (.bool false)))] [0,1,2,3,8,9,10,11,87] [[],[0],[0,1],[0,1,2],[0,1,2],[0,1,2,4],[0,1,2,3,4,5],[0,1,2,3,4,5,6],[0,1,2],[0,1,2],[0,1,2,8,9],[0,1,2,8,9,10],[0,1,2,3,4,5,6,7,8,9,10,11],[0,1,2,3,4,5,6,7,8,9,10,11,12],[0,1,2,3,4,5,6,7,8,9,10,11,12,13]])
(.cond (.t 87)
(.seq (.reg [mV 88 0,
mV 89 1,
mV 90 2,
mV 91 11,
oP 92 (.call (.f 353) [true,false,false,false] [(.t 88),(.t 89),(.t 90),(.t 91)]),
mV 13 92] [0,2,3,8,9,13])
(.seq (.reg [mV 93 13,
mV 1 93] [0,1,2,3,8,9])
(.exit 1)))
.skip))
(.seq (.reg [mV 95 0,
mV 96 1,
mV 97 2,
mV 98 11,
oP 99 (.call (.f 354) [true,false,false,false] [(.t 95),(.t 96),(.t 97),(.t 98)]),
mV 94 99,
oP 100 (.extract (.t 94) 0),
oP 101 (.extract (.t 94) 1),
mV 14 100,
mV 15 101] [0,1,2,3,10,14,15])
(.seq (.reg [mV 102 15,
mV 9 102] [0,1,2,3,9,10,14])
(.seq (.reg [mV 103 14,
mV 104 1,
oP 105 (.bin .sub (.t 103) (.t 104)),
mV 106 2,
mV 107 14,
oP 108 (.bin .sub (.t 106) (.t 107)),
mV 16 105,
mV 17 108] [0,1,2,3,9,10,14,16,17])
(.seq (.reg [mV 109 10,
oP 110 (.bin .quo (.t 109) (cI 8)),
mV 18 110] [0,1,2,3,9,14,16,17,18])
(.seq (.reg [mV 111 16,
mV 112 17,
oP 113 (.bin .lss (.t 111) (.t 112))] [0,1,2,3,9,14,16,17,18,113])
(.cond (.t 113)
(.seq (.reg [mV 114 16,
mV 115 18,
oP 116 (.bin .geq (.t 114) (.t 115)),
mV 8 116] [0,1,2,3,8,9,14])
(.seq (.reg [mV 117 0,
mV 118 1,
mV 119 14,
mV 120 3,
oP 121 (.call (.f 332) [true,false,false,false] [(.t 117),(.t 118),(.t 119),(.t 120)])] [0,2,3,8,9,14])
(.reg [mV 122 14,
oP 123 (.bin .add (.t 122) (cI 1)),
mV 1 123] [0,1,2,3,8,9])))
(.seq (.reg [mV 124 17,
mV 125 18,
oP 126 (.bin .geq (.t 124) (.t 125)),
mV 8 126] [0,1,2,3,8,9,14])
(.seq (.reg [mV 127 0,
mV 128 14,
oP 129 (.bin .add (.t 128) (cI 1)),
mV 130 2,
mV 131 3,
oP 132 (.call (.f 332) [true,false,false,false] [(.t 127),(.t 129),(.t 130),(.t 131)])] [0,1,3,8,9,14])
(.reg [mV 133 14,
mV 2 133] [0,1,2,3,8,9]))))))))))))))))))))))
abbrev Ef:RsT:=[]
theorem Tk:an Tryz.prog Tryz.f332 134 zu Ef = true:=by kernel_rfl
theorem aeN:af Tryz.prog YC = true:=by kernel_rfl
theorem Ua:ag Tryz.prog ⟨332,134,zu,Ef,0⟩:=⟨fun _=>⟨aeN,_,Tryz.func332,Tk⟩,fun h=>by cases h⟩
abbrev Nn:FuncId:=333
def BR:AC:=
(.seq (.reg [oP 2 (.mv (cI 0))] [0])
(.seq (.cond (.c (.bool false))
(.seq (.reg [mV 3 0,
oP 4 (.conv .u32 (.t 3)),
oP 5 (.call (.f 355) [false] [(.t 4)]),
mV 2 5] [2])
.ret)
.skip)
(.seq (.reg [mV 6 0,
oP 7 (.call (.f 310) [false] [(.t 6)]),
mV 2 7] [2])
.ret)))
abbrev Fz:RsT:=[(2,none)]
theorem ZS:an Tryz.prog Tryz.f333 8 BR Fz = true:=by kernel_rfl
theorem ZN:af Tryz.prog Nn = true:=by kernel_rfl
theorem SX:ag Tryz.prog ⟨333,8,BR,Fz,0⟩:=⟨fun _=>⟨ZN,_,Tryz.func333,ZS⟩,fun h=>by cases h⟩
abbrev VQ:FuncId:=334
def Dc:AC:=
(.seq (.reg [oP 1 (.pbox 7 (.t 0)),
oP 2 (.mv (cI 0))] [])
(.seq (.reg [oP 2 (.mv (cI 1))] [2])
.ret))
abbrev BU:RsT:=[(2,none)]
theorem ae0:an Tryz.prog Tryz.f334 3 Dc BU = true:=by kernel_rfl
theorem OR:af Tryz.prog VQ = true:=by kernel_rfl
theorem Wi:ag Tryz.prog ⟨334,3,Dc,BU,0⟩:=⟨fun _=>⟨OR,_,Tryz.func334,ae0⟩,fun h=>by cases h⟩
abbrev Ug:FuncId:=335
def AY:AC:=
(.seq (.reg [oP 2 (.pbox 7 (.t 0)),
oP 3 (.mv (cI 0))] [1,2])
(.seq (.reg [oP 4 (.fieldAddr none 1 (.t 2)),
oP 5 (.load none (.t 4)),
oP 6 (.fieldAddr (some 3) 0 (.t 1)),
oP 7 (.fieldAddr none 1 (.t 6)),
oP 8 (.load none (.t 7)),
oP 9 (.bin .sub (.t 5) (.t 8)),
mV 3 9] [3])
.ret))
abbrev BJ:RsT:=[(3,none)]
theorem Xo:an Tryz.prog Tryz.f335 10 AY BJ = true:=by kernel_rfl
theorem ZF:af Tryz.prog Ug = true:=by kernel_rfl
theorem XI:ag Tryz.prog ⟨335,10,AY,BJ,0⟩:=⟨fun _=>⟨ZF,_,Tryz.func335,Xo⟩,fun h=>by cases h⟩
abbrev TI:FuncId:=336
def yq:AC:=
(.seq (.reg [oP 2 (.pbox 7 (.t 0)),
oP 3 (.mv (cI 0))] [1,2])
(.seq (.reg [oP 4 (.fieldAddr (some 3) 0 (.t 1)),
oP 5 (.fieldAddr none 2 (.t 4)),
oP 6 (.load none (.t 5)),
oP 7 (.fieldAddr none 1 (.t 2)),
oP 8 (.load none (.t 7)),
oP 9 (.bin .sub (.t 6) (.t 8)),
mV 3 9] [3])
.ret))
abbrev Ga:RsT:=[(3,none)]
theorem WC:an Tryz.prog Tryz.f336 10 yq Ga = true:=by kernel_rfl
theorem WS:af Tryz.prog TI = true:=by kernel_rfl
theorem aaU:ag Tryz.prog ⟨336,10,yq,Ga,0⟩:=⟨fun _=>⟨WS,_,Tryz.func336,WC⟩,fun h=>by cases h⟩
abbrev RJ:FuncId:=337
def zB:AC:=
(.seq (.reg [oP 1 (.pbox 8 (.t 0)),
oP 2 (.mv (cI 0))] [1])
(.seq (.reg [oP 3 (.fieldAddr (some 7) 0 (.t 1)),
oP 4 (.fieldAddr (some 2) 2 (.t 3)),
oP 5 (.fieldAddr none 0 (.t 4)),
oP 6 (.load none (.t 5)),
oP 7 (.fieldAddr (some 7) 0 (.t 1)),
oP 8 (.fieldAddr (some 2) 5 (.t 7)),
oP 9 (.fieldAddr none 1 (.t 8)),
oP 10 (.load none (.t 9)),
oP 11 (.fieldAddr none 7 (.t 1)),
oP 12 (.load none (.t 11)),
oP 13 (.bin .mul (.t 10) (.t 12)),
oP 14 (.bin .sub (.t 6) (.t 13)),
mV 2 14] [2])
.ret))
abbrev Af:RsT:=[(2,none)]
theorem Xi:an Tryz.prog Tryz.f337 15 zB Af = true:=by kernel_rfl
theorem UX:af Tryz.prog RJ = true:=by kernel_rfl
theorem SF:ag Tryz.prog ⟨337,15,zB,Af,0⟩:=⟨fun _=>⟨UX,_,Tryz.func337,Xi⟩,fun h=>by cases h⟩
abbrev NR:FuncId:=338
def Fp:AC:=
(.seq (.reg [oP 1 (.pbox 8 (.t 0)),
oP 2 (.mv (cI 0))] [1])
(.seq (.reg [oP 3 (.fieldAddr (some 7) 0 (.t 1)),
oP 4 (.fieldAddr (some 2) 2 (.t 3)),
oP 5 (.fieldAddr none 1 (.t 4)),
oP 6 (.load none (.t 5)),
oP 7 (.fieldAddr (some 7) 0 (.t 1)),
oP 8 (.fieldAddr (some 2) 5 (.t 7)),
oP 9 (.fieldAddr none 0 (.t 8)),
oP 10 (.load none (.t 9)),
oP 11 (.fieldAddr none 7 (.t 1)),
oP 12 (.load none (.t 11)),
oP 13 (.bin .mul (.t 10) (.t 12)),
oP 14 (.bin .sub (.t 6) (.t 13)),
mV 2 14] [2])
.ret))
abbrev AU:RsT:=[(2,none)]
theorem adC:an Tryz.prog Tryz.f338 15 Fp AU = true:=by kernel_rfl
theorem Oo:af Tryz.prog NR = true:=by kernel_rfl
theorem QL:ag Tryz.prog ⟨338,15,Fp,AU,0⟩:=⟨fun _=>⟨Oo,_,Tryz.func338,adC⟩,fun h=>by cases h⟩
abbrev adL:FuncId:=339
def yk:AC:=
(.seq (.reg [oP 2 (.mv (cI 0))] [0])
(.seq (.seq (.reg [mV 3 0,
oP 4 (.bin .eql (.t 3) (.c (.int .u32 0)))] [0,4])
(.cond (.t 4)
(.seq (.reg [oP 2 (.mv (cI 32))] [2])
.ret)
.skip))
(.seq (.reg [mV 5 0,
mV 6 0,
oP 7 (.un .neg (.t 6)),
oP 8 (.bin .and (.t 5) (.t 7)),
oP 9 (.bin .mul (.t 8) (.c (.int .u32 125613361))),
oP 10 (.bin .shr (.t 9) (.c (.int .u64 27))),
oP 11 (.gix 6 (.t 10)),
oP 12 (.load none (.t 11)),
oP 13 (.conv .i64 (.t 12)),
mV 2 13] [2])
.ret)))
abbrev An:RsT:=[(2,none)]
theorem V1:an Tryz.prog Tryz.f339 14 yk An = true:=by kernel_rfl
theorem ND:af Tryz.prog adL = true:=by kernel_rfl
theorem Uw:ag Tryz.prog ⟨339,14,yk,An,0⟩:=⟨fun _=>⟨ND,_,Tryz.func339,V1⟩,fun h=>by cases h⟩
abbrev Yn:FuncId:=340
def zw:AC:=
(.seq (.reg [oP 2 (.mv (cI 0))] [0])
(.seq (.seq (.reg [mV 3 0,
oP 4 (.bin .eql (.t 3) (.c (.int .u64 0)))] [0,4])
(.cond (.t 4)
(.seq (.reg [oP 2 (.mv (cI 64))] [2])
.ret)
.skip))
(.seq (.reg [mV 5 0,
mV 6 0,
oP 7 (.un .neg (.t 6)),
oP 8 (.bin .and (.t 5) (.t 7)),
oP 9 (.bin .mul (.t 8) (.c (.int .u64 285870213051353865))),
oP 10 (.bin .shr (.t 9) (.c (.int .u64 58))),
oP 11 (.gix 7 (.t 10)),
oP 12 (.load none (.t 11)),
oP 13 (.conv .i64 (.t 12)),
mV 2 13] [2])
.ret)))
abbrev xf:RsT:=[(2,none)]
theorem Uf:an Tryz.prog Tryz.f340 14 zw xf = true:=by kernel_rfl
theorem RV:af Tryz.prog Yn = true:=by kernel_rfl
theorem aaT:ag Tryz.prog ⟨340,14,zw,xf,0⟩:=⟨fun _=>⟨RV,_,Tryz.func340,Uf⟩,fun h=>by cases h⟩
abbrev QO:FuncId:=341
def zx:AC:=
(.seq (.reg [oP 4 (.mv (cI 0))] [0,1])
(.seq (.seq (.reg [mV 6 0,
oP 7 (.len (.t 6)),
oP 8 (.mv (cI 0))] [0,1,7,8])
(.block 0
(.loop [0,1,7,8]
(.seq (.reg [oP 9 (.bin .lss (.t 8) (.t 7))] [0,1,7,8,9])
(.seq (.cond (.t 9)
.skip
(.exit 0))
(.seq (.block 1
(.seq (.reg [mV 10 8,
mV 5 10] [0,1,5,7,8])
(.seq (.reg [mV 11 1,
mV 12 0,
mV 13 5,
oP 14 (.ixS 2 (.t 12) (.t 13)),
oP 15 (.load (some 2) (.t 14)),
oP 16 (.call (.t 11) [false] [(.t 15)])] [0,1,5,7,8,16])
(.cond (.t 16)
(.seq (.reg [mV 17 5,
mV 4 17] [4])
.ret)
.skip))))
(.reg [oP 18 (.bin .add (.t 8) (cI 1)),
mV 8 18] [0,1,7,8])))))))
(.seq (.reg [oP 4 (.mv (cI (-1)))] [4])
.ret)))
abbrev FU:RsT:=[(4,none)]
theorem Ze:an Tryz.prog Tryz.f341 19 zx FU = true:=by kernel_rfl
theorem abI:af Tryz.prog QO = true:=by kernel_rfl
theorem aej:ag Tryz.prog ⟨341,19,zx,FU,0⟩:=⟨fun _=>⟨abI,_,Tryz.func341,Ze⟩,fun h=>by cases h⟩
abbrev ZD:FuncId:=342
def ET:AC:=
(.seq (.reg [oP 4 (.mv (.c (.bool false)))] [0,1])
(.seq (.reg [mV 5 0,
mV 6 1,
oP 7 (.bin .shr (.t 5) (.t 6)),
oP 8 (.bin .and (.t 7) (cI 1)),
oP 9 (.bin .eql (.t 8) (cI 1)),
mV 4 9] [4])
.ret))
abbrev E4:RsT:=[(4,none)]
theorem PK:an Tryz.prog Tryz.f342 10 ET E4 = true:=by kernel_rfl
theorem P4:af Tryz.prog ZD = true:=by kernel_rfl
theorem YR:ag Tryz.prog ⟨342,10,ET,E4,0⟩:=⟨fun _=>⟨P4,_,Tryz.func342,PK⟩,fun h=>by cases h⟩
abbrev Qd:FuncId:=343
def Gv:AC:=
(.seq (.reg [oP 4 (.mv (cI 0))] [0,1])
(.seq (.seq (.reg [mV 6 0,
oP 7 (.len (.t 6)),
oP 8 (.mv (cI 0))] [0,1,7,8])
(.block 0
(.loop [0,1,7,8]
(.seq (.reg [oP 9 (.bin .lss (.t 8) (.t 7))] [0,1,7,8,9])
(.seq (.cond (.t 9)
.skip
(.exit 0))
(.seq (.block 1
(.seq (.reg [mV 10 8,
mV 5 10] [0,1,5,7,8])
(.seq (.reg [mV 11 1,
mV 12 0,
mV 13 5,
oP 14 (.ixS 4 (.t 12) (.t 13)),
oP 15 (.load (some 4) (.t 14)),
oP 16 (.call (.t 11) [false] [(.t 15)])] [0,1,5,7,8,16])
(.cond (.t 16)
(.seq (.reg [mV 17 5,
mV 4 17] [4])
.ret)
.skip))))
(.reg [oP 18 (.bin .add (.t 8) (cI 1)),
mV 8 18] [0,1,7,8])))))))
(.seq (.reg [oP 4 (.mv (cI (-1)))] [4])
.ret)))
abbrev Bg:RsT:=[(4,none)]
theorem Xk:an Tryz.prog Tryz.f343 19 Gv Bg = true:=by kernel_rfl
theorem Ox:af Tryz.prog Qd = true:=by kernel_rfl
theorem NC:ag Tryz.prog ⟨343,19,Gv,Bg,0⟩:=⟨fun _=>⟨Ox,_,Tryz.func343,Xk⟩,fun h=>by cases h⟩
abbrev ZC:FuncId:=344
def BI:AC:=
(.seq (.reg [oP 2 (.pbox 4 (.t 0)),
oP 3 (.mv (.c (.bool false)))] [1,2])
(.seq (.reg [oP 4 (.fieldAddr none 0 (.t 2)),
oP 5 (.load none (.t 4)),
oP 6 (.fieldAddr none 1 (.t 2)),
oP 7 (.load none (.t 6)),
oP 8 (.build [.int .i64 0, .int .i64 0] [(0,1,(.t 5)),(1,1,(.t 7))]),
oP 9 (.load (some 2) (.t 1)),
oP 10 (.eqa false [.i, .i] (.t 8) (.t 9)),
mV 3 10] [3])
.ret))
abbrev yW:RsT:=[(3,none)]
theorem Yj:an Tryz.prog Tryz.f344 11 BI yW = true:=by kernel_rfl
theorem aev:af Tryz.prog ZC = true:=by kernel_rfl
theorem abv:ag Tryz.prog ⟨344,11,BI,yW,0⟩:=⟨fun _=>⟨aev,_,Tryz.func344,Yj⟩,fun h=>by cases h⟩
abbrev UH:FuncId:=345
def Dw:AC:=
(.seq (.reg [oP 5 (.mv (cI 0))] [0,1,2])
(.seq (.dreg [oP 6 (.load none (.t 2)),
oP 7 (.nilchk (.t 6)),
oP 8 (.fieldAddr none 0 (.t 7)),
oP 9 (.load none (.t 8)),
mV 10 0,
oP 11 (.ixS 5 (.t 9) (.t 10)),
oP 12 (.fieldAddr none 0 (.t 11)),
oP 13 (.load none (.t 12)),
oP 14 (.load none (.t 2)),
oP 15 (.nilchk (.t 14)),
oP 16 (.fieldAddr none 0 (.t 15)),
oP 17 (.load none (.t 16)),
mV 18 0,
oP 19 (.ixS 5 (.t 17) (.t 18)),
oP 20 (.fieldAddr none 1 (.t 19)),
oP 21 (.load none (.t 20)),
oP 22 (.bin .add (.t 13) (.t 21)),
mV 23 1,
oP 24 (.bin .sub (.t 22) (.t 23)),
mV 5 24] [5] [[],[0],[0,1],[0,1,2],[],[0,1,2,3,4],[0,1,2,3,4,5],[0,1,2,3,4,5,6],[],[8],[8,9],[8,9,10],[],[8,9,10,11,12],[8,9,10,11,12,13],[8,9,10,11,12,13,14],[0,1,2,3,4,5,6,7,8,9,10,11,12,13,14,15],[],[0,1,2,3,4,5,6,7,8,9,10,11,12,13,14,15,16,17],[0,1,2,3,4,5,6,7,8,9,10,11,12,13,14,15,16,17,18]])
.ret))
abbrev EX:RsT:=[(5,none)]
theorem UU:an Tryz.prog Tryz.f345 25 Dw EX = true:=by kernel_rfl
theorem aaw:af Tryz.prog UH = true:=by kernel_rfl
theorem abQ:ag Tryz.prog ⟨345,25,Dw,EX,0⟩:=⟨fun _=>⟨aaw,_,Tryz.func345,UU⟩,fun h=>by cases h⟩
abbrev PV:FuncId:=346
def BZ:AC:=
(.seq (.reg [oP 2 (.pbox 5 (.t 0)),
oP 4 (.mv (cI 0))] [1,2])
(.seq (.seq (.reg [mV 5 1,
oP 6 (.fieldAddr none 0 (.t 2)),
oP 7 (.load none (.t 6)),
oP 8 (.bin .eql (.t 5) (.t 7))] [2,8])
(.cond (.t 8)
(.seq (.reg [oP 9 (.fieldAddr none 3 (.t 2)),
oP 10 (.load none (.t 9)),
oP 11 (.fieldAddr none 4 (.t 2)),
oP 12 (.load none (.t 11)),
oP 13 (.bin .sub (.t 10) (.t 12)),
mV 4 13] [4])
.ret)
.skip))
(.seq (.reg [oP 14 (.fieldAddr none 4 (.t 2)),
oP 15 (.load none (.t 14)),
oP 16 (.fieldAddr none 2 (.t 2)),
oP 17 (.load none (.t 16)),
oP 18 (.bin .sub (.t 15) (.t 17)),
mV 4 18] [4])
.ret)))
abbrev yd:RsT:=[(4,none)]
theorem PO:an Tryz.prog Tryz.f346 19 BZ yd = true:=by kernel_rfl
theorem Ns:af Tryz.prog PV = true:=by kernel_rfl
theorem aeZ:ag Tryz.prog ⟨346,19,BZ,yd,0⟩:=⟨fun _=>⟨Ns,_,Tryz.func346,PO⟩,fun h=>by cases h⟩
abbrev TQ:FuncId:=347
def yl:AC:=
(.seq (.reg [mV 8 1,
oP 9 (.bin .add (.t 8) (cI 1)),
mV 6 9] [0,1,2,6])
(.block 0
(.loop [0,1,2,6]
(.seq (.seq (.reg [mV 10 6,
mV 11 2,
oP 12 (.bin .lss (.t 10) (.t 11))] [0,1,2,6,12])
(.cond (.t 12)
.skip
(.exit 0)))
(.seq (.block 1
(.seq (.reg [mV 15 6,
mV 7 15] [0,1,2,6,7])
(.block 2
(.loop [0,1,2,6,7]
(.seq (.seq (.dreg [mV 16 7,
mV 17 1,
oP 18 (.bin .gtr (.t 16) (.t 17)),
mV 19 18,
gT 20 19 (.mv (.t 0)),
gT 21 19 (.mv (.t 7)),
gT 22 19 (.ixS 1 (.t 20) (.t 21)),
gT 23 19 (.load none (.t 22)),
gT 24 19 (.mv (.t 0)),
gT 25 19 (.mv (.t 7)),
gT 26 19 (.bin .sub (.t 25) (cI 1)),
gT 27 19 (.ixS 1 (.t 24) (.t 26)),
gT 28 19 (.load none (.t 27)),
gT 29 19 (.call (.f 187) [false,false] [(.t 23),(.t 28)]),
oP 30 (.pick (.t 19) (.t 29) (.c (.bool false)))] [0,1,2,6,7,30] [[],[],[0,1],[0,1,2],[0,1,2,3],[0,1,2,3],[0,1,2,3,4,5],[0,1,2,3,4,5,6],[0,1,2,3],[0,1,2,3],[0,1,2,3,9],[0,1,2,3,8,9,10],[0,1,2,3,8,9,10,11],[0,1,2,3,4,5,6,7,8,9,10,11,12],[0,1,2,3,4,5,6,7,8,9,10,11,12,13]])
(.cond (.t 30)
.skip
(.exit 2)))
(.seq (.block 3
(.dreg [mV 33 0,
mV 34 7,
mV 35 0,
mV 36 7,
oP 37 (.bin .sub (.t 36) (cI 1)),
mV 38 0,
mV 39 7,
oP 40 (.bin .sub (.t 39) (cI 1)),
oP 41 (.ixS 1 (.t 38) (.t 40)),
oP 42 (.load none (.t 41)),
mV 43 0,
mV 44 7,
oP 45 (.ixS 1 (.t 43) (.t 44)),
oP 46 (.load none (.t 45)),
oP 47 (.ixS 1 (.t 33) (.t 34)),
oN (.store 1 (.t 47) (.t 42)),
oP 48 (.ixS 1 (.t 35) (.t 37)),
oN (.store 1 (.t 48) (.t 46))] [0,1,2,6,7] [[],[],[],[],[3],[],[],[6],[5,6,7],[5,6,7,8],[],[],[10,11],[10,11,12],[0,1,5,6,7,8,9,10,11,12,13],[0,1,5,6,7,8,9,10,11,12,13,14],[0,1,2,3,4,5,6,7,8,9,10,11,12,13,14,15],[0,1,2,3,4,5,6,7,8,9,10,11,12,13,14,15,16]]))
(.reg [mV 31 7,
oP 32 (.bin .sub (.t 31) (cI 1)),
mV 7 32] [0,1,2,6,7])))))))
(.reg [mV 13 6,
oP 14 (.bin .add (.t 13) (cI 1)),
mV 6 14] [0,1,2,6]))))))
abbrev EV:RsT:=[]
theorem Sk:an Tryz.prog Tryz.f347 49 yl EV = true:=by kernel_rfl
theorem abJ:af Tryz.prog TQ = true:=by kernel_rfl
theorem adf:ag Tryz.prog ⟨347,49,yl,EV,0⟩:=⟨fun _=>⟨abJ,_,Tryz.func347,Sk⟩,fun h=>by cases h⟩
abbrev adR:FuncId:=348
def Eg:AC:=
(.seq (.reg [mV 11 1,
mV 6 11] [0,1,2,6])
(.seq (.reg [oP 7 (.mv (cI 0))] [0,1,2,6,7])
(.seq (.reg [mV 12 2,
mV 13 1,
oP 14 (.bin .sub (.t 12) (.t 13)),
mV 8 14] [0,6,7,8])
(.seq (.seq (.reg [mV 15 8,
oP 16 (.bin .sub (.t 15) (cI 1)),
oP 17 (.bin .quo (.t 16) (cI 2)),
mV 9 17] [0,6,7,8,9])
(.block 0
(.loop [0,6,7,8,9]
(.seq (.seq (.reg [mV 18 9,
oP 19 (.bin .geq (.t 18) (cI 0))] [0,6,7,8,9,19])
(.cond (.t 19)
.skip
(.exit 0)))
(.seq (.block 1
(.reg [mV 22 0,
mV 23 9,
mV 24 8,
mV 25 6,
oP 26 (.call (.f 356) [true,false,false,false] [(.t 22),(.t 23),(.t 24),(.t 25)])] [0,6,7,8,9]))
(.reg [mV 20 9,
oP 21 (.bin .sub (.t 20) (cI 1)),
mV 9 21] [0,6,7,8,9]))))))
(.seq (.reg [mV 27 8,
oP 28 (.bin .sub (.t 27) (cI 1)),
mV 10 28] [0,6,7,10])
(.block 2
(.loop [0,6,7,10]
(.seq (.seq (.reg [mV 29 10,
oP 30 (.bin .geq (.t 29) (cI 0))] [0,6,7,10,30])
(.cond (.t 30)
.skip
(.exit 2)))
(.seq (.block 3
(.seq (.dreg [mV 33 0,
mV 34 6,
mV 35 0,
mV 36 6,
mV 37 10,
oP 38 (.bin .add (.t 36) (.t 37)),
mV 39 0,
mV 40 6,
mV 41 10,
oP 42 (.bin .add (.t 40) (.t 41)),
oP 43 (.ixS 1 (.t 39) (.t 42)),
oP 44 (.load none (.t 43)),
mV 45 0,
mV 46 6,
oP 47 (.ixS 1 (.t 45) (.t 46)),
oP 48 (.load none (.t 47)),
oP 49 (.ixS 1 (.t 33) (.t 34)),
oN (.store 1 (.t 49) (.t 44)),
oP 50 (.ixS 1 (.t 35) (.t 38)),
oN (.store 1 (.t 50) (.t 48))] [0,6,7,10] [[],[],[],[],[],[3,4],[],[],[],[7,8],[6,7,8,9],[6,7,8,9,10],[],[],[12,13],[12,13,14],[0,1,6,7,8,9,10,11,12,13,14,15],[0,1,6,7,8,9,10,11,12,13,14,15,16],[0,1,2,3,4,5,6,7,8,9,10,11,12,13,14,15,16,17],[0,1,2,3,4,5,6,7,8,9,10,11,12,13,14,15,16,17,18]])
(.reg [mV 51 0,
mV 52 7,
mV 53 10,
mV 54 6,
oP 55 (.call (.f 356) [true,false,false,false] [(.t 51),(.t 52),(.t 53),(.t 54)])] [0,6,7,10])))
(.reg [mV 31 10,
oP 32 (.bin .sub (.t 31) (cI 1)),
mV 10 32] [0,6,7,10]))))))))))
abbrev B8:RsT:=[]
theorem Om:an Tryz.prog Tryz.f348 56 Eg B8 = true:=by kernel_rfl
theorem YA:af Tryz.prog adR = true:=by kernel_rfl
theorem V5:ag Tryz.prog ⟨348,56,Eg,B8,0⟩:=⟨fun _=>⟨YA,_,Tryz.func348,Om⟩,fun h=>by cases h⟩
abbrev Qc:FuncId:=349
def EJ:AC:=
(.seq (.reg [mV 11 2,
mV 12 1,
oP 13 (.bin .sub (.t 11) (.t 12)),
mV 6 13] [0,1,6])
(.seq (.reg [mV 14 6,
oP 15 (.bin .geq (.t 14) (cI 8))] [0,1,6,15])
(.cond (.t 15)
(.seq (.reg [mV 16 6,
oP 17 (.conv .u64 (.t 16)),
oP 7 (.alloc [.int .u64 0]),
oN (.store 1 (.t 7) (.t 17))] [0,1,6,7])
(.seq (.reg [mV 18 6,
oP 19 (.call (.f 357) [false] [(.t 18)]),
mV 8 19] [0,1,6,7,8])
(.seq (.reg [mV 20 1,
mV 21 6,
oP 22 (.bin .quo (.t 21) (cI 4)),
oP 23 (.bin .mul (.t 22) (cI 2)),
oP 24 (.bin .add (.t 20) (.t 23)),
oP 25 (.bin .sub (.t 24) (cI 1)),
mV 9 25] [0,1,6,7,8,9])
(.block 0
(.loop [0,1,6,7,8,9]
(.seq (.seq (.reg [mV 26 9,
mV 27 1,
mV 28 6,
oP 29 (.bin .quo (.t 28) (cI 4)),
oP 30 (.bin .mul (.t 29) (cI 2)),
oP 31 (.bin .add (.t 27) (.t 30)),
oP 32 (.bin .add (.t 31) (cI 1)),
oP 33 (.bin .leq (.t 26) (.t 32))] [0,1,6,7,8,9,33])
(.cond (.t 33)
.skip
(.exit 0)))
(.seq (.block 1
(.seq (.reg [oP 36 (.call (.f 358) [false] [(.t 7)]),
mV 37 8,
oP 38 (.bin .sub (.t 37) (.c (.int .u64 1))),
oP 39 (.bin .and (.t 36) (.t 38)),
oP 40 (.conv .i64 (.t 39)),
mV 10 40] [0,1,6,7,8,9,10])
(.seq (.seq (.reg [mV 41 10,
mV 42 6,
oP 43 (.bin .geq (.t 41) (.t 42))] [0,1,6,7,8,9,10,43])
(.cond (.t 43)
(.reg [mV 44 10,
mV 45 6,
oP 46 (.bin .sub (.t 44) (.t 45)),
mV 10 46] [0,1,6,7,8,9,10])
.skip))
(.dreg [mV 47 0,
mV 48 9,
mV 49 0,
mV 50 1,
mV 51 10,
oP 52 (.bin .add (.t 50) (.t 51)),
mV 53 0,
mV 54 1,
mV 55 10,
oP 56 (.bin .add (.t 54) (.t 55)),
oP 57 (.ixS 1 (.t 53) (.t 56)),
oP 58 (.load none (.t 57)),
mV 59 0,
mV 60 9,
oP 61 (.ixS 1 (.t 59) (.t 60)),
oP 62 (.load none (.t 61)),
oP 63 (.ixS 1 (.t 47) (.t 48)),
oN (.store 1 (.t 63) (.t 58)),
oP 64 (.ixS 1 (.t 49) (.t 52)),
oN (.store 1 (.t 64) (.t 62))] [0,1,6,7,8,9] [[],[],[],[],[],[3,4],[],[],[],[7,8],[6,7,8,9],[6,7,8,9,10],[],[],[12,13],[12,13,14],[0,1,6,7,8,9,10,11,12,13,14,15],[0,1,6,7,8,9,10,11,12,13,14,15,16],[0,1,2,3,4,5,6,7,8,9,10,11,12,13,14,15,16,17],[0,1,2,3,4,5,6,7,8,9,10,11,12,13,14,15,16,17,18]]))))
(.reg [mV 34 9,
oP 35 (.bin .add (.t 34) (cI 1)),
mV 9 35] [0,1,6,7,8,9]))))))))
.skip)))
abbrev xW:RsT:=[]
theorem Xp:an Tryz.prog Tryz.f349 65 EJ xW = true:=by kernel_rfl
theorem TM:af Tryz.prog Qc = true:=by kernel_rfl
theorem aef:ag Tryz.prog ⟨349,65,EJ,xW,0⟩:=⟨fun _=>⟨TM,_,Tryz.func349,Xp⟩,fun h=>by cases h⟩
abbrev WG:FuncId:=350
def Bc:AC:=
(.seq (.reg [oP 6 (.mv (cI 0)),
oP 7 (.mv (cI 0))] [0,1,2])
(.seq (.reg [mV 13 2,
mV 14 1,
oP 15 (.bin .sub (.t 13) (.t 14)),
mV 8 15] [0,1,8])
(.seq (.reg [oP 9 (.alloc [.int .i64 0])] [0,1,8,9])
(.seq (.reg [mV 16 1,
mV 17 8,
oP 18 (.bin .quo (.t 17) (cI 4)),
oP 19 (.bin .mul (.t 18) (cI 1)),
oP 20 (.bin .add (.t 16) (.t 19)),
mV 10 20] [0,1,8,9,10])
(.seq (.reg [mV 21 1,
mV 22 8,
oP 23 (.bin .quo (.t 22) (cI 4)),
oP 24 (.bin .mul (.t 23) (cI 2)),
oP 25 (.bin .add (.t 21) (.t 24)),
mV 11 25] [0,1,8,9,10,11])
(.seq (.reg [mV 26 1,
mV 27 8,
oP 28 (.bin .quo (.t 27) (cI 4)),
oP 29 (.bin .mul (.t 28) (cI 3)),
oP 30 (.bin .add (.t 26) (.t 29)),
mV 12 30] [0,8,9,10,11,12])
(.seq (.seq (.reg [mV 31 8,
oP 32 (.bin .geq (.t 31) (cI 8))] [0,8,9,10,11,12,32])
(.cond (.t 32)
(.seq (.seq (.reg [mV 33 8,
oP 34 (.bin .geq (.t 33) (cI 50))] [0,9,10,11,12,34])
(.cond (.t 34)
(.seq (.reg [mV 35 0,
mV 36 10,
oP 37 (.call (.f 359) [true,false,false] [(.t 35),(.t 36),(.t 9)]),
mV 10 37] [0,9,10,11,12])
(.seq (.reg [mV 38 0,
mV 39 11,
oP 40 (.call (.f 359) [true,false,false] [(.t 38),(.t 39),(.t 9)]),
mV 11 40] [0,9,10,11,12])
(.reg [mV 41 0,
mV 42 12,
oP 43 (.call (.f 359) [true,false,false] [(.t 41),(.t 42),(.t 9)]),
mV 12 43] [0,9,10,11,12])))
.skip))
(.reg [mV 44 0,
mV 45 10,
mV 46 11,
mV 47 12,
oP 48 (.call (.f 360) [true,false,false,false,false] [(.t 44),(.t 45),(.t 46),(.t 47),(.t 9)]),
mV 11 48] [9,11]))
.skip))
(.seq (.reg [oP 49 (.load none (.t 9))] [11,49])
(.block 0
(.seq (.reg [oP 52 (.bin .eql (.t 49) (cI 0)),
mV 51 52] [11,49,51])
(.cond (.t 51)
(.seq (.reg [mV 53 11,
mV 6 53,
oP 7 (.mv (cI 1))] [6,7])
.ret)
(.seq (.reg [oP 55 (.bin .eql (.t 49) (cI 12)),
mV 54 55] [11,54])
(.cond (.t 54)
(.seq (.reg [mV 56 11,
mV 6 56,
oP 7 (.mv (cI 2))] [6,7])
.ret)
(.seq (.reg [mV 50 11,
mV 6 50,
oP 7 (.mv (cI 0))] [6,7])
.ret))))))))))))))
abbrev CI:RsT:=[(6,none),(7,none)]
theorem Qz:an Tryz.prog Tryz.f350 57 Bc CI = true:=by kernel_rfl
theorem Nr:af Tryz.prog WG = true:=by kernel_rfl
theorem X2:ag Tryz.prog ⟨350,57,Bc,CI,0⟩:=⟨fun _=>⟨Nr,_,Tryz.func350,Qz⟩,fun h=>by cases h⟩
abbrev aaX:FuncId:=351
def ze:AC:=
(.seq (.reg [mV 8 1,
mV 6 8] [0,2,6])
(.seq (.reg [mV 9 2,
oP 10 (.bin .sub (.t 9) (cI 1)),
mV 7 10] [0,6,7])
(.block 0
(.loop [0,6,7]
(.seq (.seq (.reg [mV 11 6,
mV 12 7,
oP 13 (.bin .lss (.t 11) (.t 12))] [0,6,7,13])
(.cond (.t 13)
.skip
(.exit 0)))
(.block 1
(.seq (.dreg [mV 14 0,
mV 15 6,
mV 16 0,
mV 17 7,
mV 18 0,
mV 19 7,
oP 20 (.ixS 1 (.t 18) (.t 19)),
oP 21 (.load none (.t 20)),
mV 22 0,
mV 23 6,
oP 24 (.ixS 1 (.t 22) (.t 23)),
oP 25 (.load none (.t 24)),
oP 26 (.ixS 1 (.t 14) (.t 15)),
oN (.store 1 (.t 26) (.t 21)),
oP 27 (.ixS 1 (.t 16) (.t 17)),
oN (.store 1 (.t 27) (.t 25))] [0,6,7] [[],[],[],[],[],[],[4,5],[4,5,6],[],[],[8,9],[8,9,10],[0,1,4,5,6,7,8,9,10,11],[0,1,4,5,6,7,8,9,10,11,12],[0,1,2,3,4,5,6,7,8,9,10,11,12,13],[0,1,2,3,4,5,6,7,8,9,10,11,12,13,14]])
(.seq (.reg [mV 28 6,
oP 29 (.bin .add (.t 28) (cI 1)),
mV 6 29] [0,6,7])
(.reg [mV 30 7,
oP 31 (.bin .sub (.t 30) (cI 1)),
mV 7 31] [0,6,7])))))))))
abbrev Bh:RsT:=[]
theorem VW:an Tryz.prog Tryz.f351 32 ze Bh = true:=by kernel_rfl
theorem Pv:af Tryz.prog aaX = true:=by kernel_rfl
theorem OC:ag Tryz.prog ⟨351,32,ze,Bh,0⟩:=⟨fun _=>⟨Pv,_,Tryz.func351,VW⟩,fun h=>by cases h⟩
abbrev Nv:FuncId:=352
def xo:AC:=
(.seq (.reg [oP 6 (.mv (.c (.bool false)))] [0,1,2])
(.seq (.reg [mV 11 1,
oP 12 (.bin .add (.t 11) (cI 1)),
mV 7 12] [0,1,2,7])
(.seq (.seq (.reg [oP 8 (.mv (cI 0))] [0,1,2,7,8])
(.block 0
(.loop [0,1,2,7,8]
(.seq (.seq (.reg [mV 13 8,
oP 14 (.bin .lss (.t 13) (cI 5))] [0,1,2,7,8,14])
(.cond (.t 14)
.skip
(.exit 0)))
(.seq (.block 1
(.seq (.block 2
(.loop [0,1,2,7,8]
(.seq (.seq (.dreg [mV 17 7,
mV 18 2,
oP 19 (.bin .lss (.t 17) (.t 18)),
mV 20 19,
gT 21 20 (.mv (.t 0)),
gT 22 20 (.mv (.t 7)),
gT 23 20 (.ixS 1 (.t 21) (.t 22)),
gT 24 20 (.load none (.t 23)),
gT 25 20 (.mv (.t 0)),
gT 26 20 (.mv (.t 7)),
gT 27 20 (.bin .sub (.t 26) (cI 1)),
gT 28 20 (.ixS 1 (.t 25) (.t 27)),
gT 29 20 (.load none (.t 28)),
gT 30 20 (.call (.f 187) [false,false] [(.t 24),(.t 29)]),
gT 31 20 (.un .not (.t 30)),
oP 32 (.pick (.t 20) (.t 31) (.c (.bool false)))] [0,1,2,7,8,32] [[],[],[0,1],[0,1,2],[0,1,2,3],[0,1,2,3],[0,1,2,3,4,5],[0,1,2,3,4,5,6],[0,1,2,3],[0,1,2,3],[0,1,2,3,9],[0,1,2,3,8,9,10],[0,1,2,3,8,9,10,11],[0,1,2,3,4,5,6,7,8,9,10,11,12],[0,1,2,3,4,5,6,7,8,9,10,11,12,13],[0,1,2,3,4,5,6,7,8,9,10,11,12,13,14]])
(.cond (.t 32)
.skip
(.exit 2)))
(.block 3
(.reg [mV 33 7,
oP 34 (.bin .add (.t 33) (cI 1)),
mV 7 34] [0,1,2,7,8])))))
(.seq (.seq (.reg [mV 35 7,
mV 36 2,
oP 37 (.bin .eql (.t 35) (.t 36))] [0,1,2,7,8,37])
(.cond (.t 37)
(.seq (.reg [oP 6 (.mv (.c (.bool true)))] [6])
.ret)
.skip))
(.seq (.seq (.reg [mV 38 2,
mV 39 1,
oP 40 (.bin .sub (.t 38) (.t 39)),
oP 41 (.bin .lss (.t 40) (cI 50))] [0,1,2,7,8,41])
(.cond (.t 41)
(.seq (.reg [oP 6 (.mv (.c (.bool false)))] [6])
.ret)
.skip))
(.seq (.dreg [mV 42 0,
mV 43 7,
mV 44 0,
mV 45 7,
oP 46 (.bin .sub (.t 45) (cI 1)),
mV 47 0,
mV 48 7,
oP 49 (.bin .sub (.t 48) (cI 1)),
oP 50 (.ixS 1 (.t 47) (.t 49)),
oP 51 (.load none (.t 50)),
mV 52 0,
mV 53 7,
oP 54 (.ixS 1 (.t 52) (.t 53)),
oP 55 (.load none (.t 54)),
oP 56 (.ixS 1 (.t 42) (.t 43)),
oN (.store 1 (.t 56) (.t 51)),
oP 57 (.ixS 1 (.t 44) (.t 46)),
oN (.store 1 (.t 57) (.t 55))] [0,1,2,7,8] [[],[],[],[],[3],[],[],[6],[5,6,7],[5,6,7,8],[],[],[10,11],[10,11,12],[0,1,5,6,7,8,9,10,11,12,13],[0,1,5,6,7,8,9,10,11,12,13,14],[0,1,2,3,4,5,6,7,8,9,10,11,12,13,14,15],[0,1,2,3,4,5,6,7,8,9,10,11,12,13,14,15,16]])
(.seq (.seq (.reg [mV 58 7,
mV 59 1,
oP 60 (.bin .sub (.t 58) (.t 59)),
oP 61 (.bin .geq (.t 60) (cI 2))] [0,1,2,7,8,61])
(.cond (.t 61)
(.seq (.reg [mV 62 7,
oP 63 (.bin .sub (.t 62) (cI 1)),
mV 9 63] [0,1,2,7,8,9])
(.block 4
(.loop [0,1,2,7,8,9]
(.seq (.seq (.reg [mV 64 9,
oP 65 (.bin .geq (.t 64) (cI 1))] [0,1,2,7,8,9,65])
(.cond (.t 65)
.skip
(.exit 4)))
(.seq (.block 5
(.seq (.seq (.dreg [mV 68 0,
mV 69 9,
oP 70 (.ixS 1 (.t 68) (.t 69)),
oP 71 (.load none (.t 70)),
mV 72 0,
mV 73 9,
oP 74 (.bin .sub (.t 73) (cI 1)),
oP 75 (.ixS 1 (.t 72) (.t 74)),
oP 76 (.load none (.t 75)),
oP 77 (.call (.f 187) [false,false] [(.t 71),(.t 76)]),
oP 78 (.un .not (.t 77))] [0,1,2,7,8,9,78] [[],[],[0,1],[0,1,2],[],[],[5],[4,5,6],[4,5,6,7],[0,1,2,3,4,5,6,7,8],[0,1,2,3,4,5,6,7,8,9]])
(.cond (.t 78)
(.exit 4)
.skip))
(.dreg [mV 79 0,
mV 80 9,
mV 81 0,
mV 82 9,
oP 83 (.bin .sub (.t 82) (cI 1)),
mV 84 0,
mV 85 9,
oP 86 (.bin .sub (.t 85) (cI 1)),
oP 87 (.ixS 1 (.t 84) (.t 86)),
oP 88 (.load none (.t 87)),
mV 89 0,
mV 90 9,
oP 91 (.ixS 1 (.t 89) (.t 90)),
oP 92 (.load none (.t 91)),
oP 93 (.ixS 1 (.t 79) (.t 80)),
oN (.store 1 (.t 93) (.t 88)),
oP 94 (.ixS 1 (.t 81) (.t 83)),
oN (.store 1 (.t 94) (.t 92))] [0,1,2,7,8,9] [[],[],[],[],[3],[],[],[6],[5,6,7],[5,6,7,8],[],[],[10,11],[10,11,12],[0,1,5,6,7,8,9,10,11,12,13],[0,1,5,6,7,8,9,10,11,12,13,14],[0,1,2,3,4,5,6,7,8,9,10,11,12,13,14,15],[0,1,2,3,4,5,6,7,8,9,10,11,12,13,14,15,16]])))
(.reg [mV 66 9,
oP 67 (.bin .sub (.t 66) (cI 1)),
mV 9 67] [0,1,2,7,8,9]))))))
.skip))
(.seq (.reg [mV 95 2,
mV 96 7,
oP 97 (.bin .sub (.t 95) (.t 96)),
oP 98 (.bin .geq (.t 97) (cI 2))] [0,1,2,7,8,98])
(.cond (.t 98)
(.seq (.reg [mV 99 7,
oP 100 (.bin .add (.t 99) (cI 1)),
mV 10 100] [0,1,2,7,8,10])
(.block 6
(.loop [0,1,2,7,8,10]
(.seq (.seq (.reg [mV 101 10,
mV 102 2,
oP 103 (.bin .lss (.t 101) (.t 102))] [0,1,2,7,8,10,103])
(.cond (.t 103)
.skip
(.exit 6)))
(.seq (.block 7
(.seq (.seq (.dreg [mV 106 0,
mV 107 10,
oP 108 (.ixS 1 (.t 106) (.t 107)),
oP 109 (.load none (.t 108)),
mV 110 0,
mV 111 10,
oP 112 (.bin .sub (.t 111) (cI 1)),
oP 113 (.ixS 1 (.t 110) (.t 112)),
oP 114 (.load none (.t 113)),
oP 115 (.call (.f 187) [false,false] [(.t 109),(.t 114)]),
oP 116 (.un .not (.t 115))] [0,1,2,7,8,10,116] [[],[],[0,1],[0,1,2],[],[],[5],[4,5,6],[4,5,6,7],[0,1,2,3,4,5,6,7,8],[0,1,2,3,4,5,6,7,8,9]])
(.cond (.t 116)
(.exit 6)
.skip))
(.dreg [mV 117 0,
mV 118 10,
mV 119 0,
mV 120 10,
oP 121 (.bin .sub (.t 120) (cI 1)),
mV 122 0,
mV 123 10,
oP 124 (.bin .sub (.t 123) (cI 1)),
oP 125 (.ixS 1 (.t 122) (.t 124)),
oP 126 (.load none (.t 125)),
mV 127 0,
mV 128 10,
oP 129 (.ixS 1 (.t 127) (.t 128)),
oP 130 (.load none (.t 129)),
oP 131 (.ixS 1 (.t 117) (.t 118)),
oN (.store 1 (.t 131) (.t 126)),
oP 132 (.ixS 1 (.t 119) (.t 121)),
oN (.store 1 (.t 132) (.t 130))] [0,1,2,7,8,10] [[],[],[],[],[3],[],[],[6],[5,6,7],[5,6,7,8],[],[],[10,11],[10,11,12],[0,1,5,6,7,8,9,10,11,12,13],[0,1,5,6,7,8,9,10,11,12,13,14],[0,1,2,3,4,5,6,7,8,9,10,11,12,13,14,15],[0,1,2,3,4,5,6,7,8,9,10,11,12,13,14,15,16]])))
(.reg [mV 104 10,
oP 105 (.bin .add (.t 104) (cI 1)),
mV 10 105] [0,1,2,7,8,10]))))))
.skip))))))))
(.reg [mV 15 8,
oP 16 (.bin .add (.t 15) (cI 1)),
mV 8 16] [0,1,2,7,8]))))))
(.seq (.reg [oP 6 (.mv (.c (.bool false)))] [6])
.ret))))
abbrev GA:RsT:=[(6,none)]
theorem SC:an Tryz.prog Tryz.f352 133 xo GA = true:=by kernel_rfl
theorem abf:af Tryz.prog Nv = true:=by kernel_rfl
theorem acv:ag Tryz.prog ⟨352,133,xo,GA,0⟩:=⟨fun _=>⟨abf,_,Tryz.func352,SC⟩,fun h=>by cases h⟩
abbrev adr:FuncId:=353
def Dd:AC:=
(.seq (.reg [oP 8 (.mv (cI 0))] [0,1,2,3])
(.seq (.dreg [mV 11 0,
mV 12 1,
mV 13 0,
mV 14 3,
mV 15 0,
mV 16 3,
oP 17 (.ixS 1 (.t 15) (.t 16)),
oP 18 (.load none (.t 17)),
mV 19 0,
mV 20 1,
oP 21 (.ixS 1 (.t 19) (.t 20)),
oP 22 (.load none (.t 21)),
oP 23 (.ixS 1 (.t 11) (.t 12)),
oN (.store 1 (.t 23) (.t 18)),
oP 24 (.ixS 1 (.t 13) (.t 14)),
oN (.store 1 (.t 24) (.t 22))] [0,1,2] [[],[],[],[],[],[],[4,5],[4,5,6],[],[],[8,9],[8,9,10],[0,1,4,5,6,7,8,9,10,11],[0,1,4,5,6,7,8,9,10,11,12],[0,1,2,3,4,5,6,7,8,9,10,11,12,13],[0,1,2,3,4,5,6,7,8,9,10,11,12,13,14]])
(.seq (.reg [mV 25 1,
oP 26 (.bin .add (.t 25) (cI 1)),
mV 27 2,
oP 28 (.bin .sub (.t 27) (cI 1)),
mV 9 26,
mV 10 28] [0,1,9,10])
(.seq (.block 0
(.loop [0,1,9,10]
(.block 1
(.seq (.block 2
(.loop [0,1,9,10]
(.seq (.seq (.dreg [mV 29 9,
mV 30 10,
oP 31 (.bin .leq (.t 29) (.t 30)),
mV 32 31,
gT 33 32 (.mv (.t 0)),
gT 34 32 (.mv (.t 1)),
gT 35 32 (.ixS 1 (.t 33) (.t 34)),
gT 36 32 (.load none (.t 35)),
gT 37 32 (.mv (.t 0)),
gT 38 32 (.mv (.t 9)),
gT 39 32 (.ixS 1 (.t 37) (.t 38)),
gT 40 32 (.load none (.t 39)),
gT 41 32 (.call (.f 187) [false,false] [(.t 36),(.t 40)]),
gT 42 32 (.un .not (.t 41)),
oP 43 (.pick (.t 32) (.t 42) (.c (.bool false)))] [0,1,9,10,43] [[],[],[0,1],[0,1,2],[0,1,2,3],[0,1,2,3],[0,1,2,3,4,5],[0,1,2,3,4,5,6],[0,1,2,3],[0,1,2,3],[0,1,2,3,8,9],[0,1,2,3,8,9,10],[0,1,2,3,4,5,6,7,8,9,10,11],[0,1,2,3,4,5,6,7,8,9,10,11,12],[0,1,2,3,4,5,6,7,8,9,10,11,12,13]])
(.cond (.t 43)
.skip
(.exit 2)))
(.block 3
(.reg [mV 44 9,
oP 45 (.bin .add (.t 44) (cI 1)),
mV 9 45] [0,1,9,10])))))
(.seq (.block 4
(.loop [0,1,9,10]
(.seq (.seq (.dreg [mV 46 9,
mV 47 10,
oP 48 (.bin .leq (.t 46) (.t 47)),
mV 49 48,
gT 50 49 (.mv (.t 0)),
gT 51 49 (.mv (.t 1)),
gT 52 49 (.ixS 1 (.t 50) (.t 51)),
gT 53 49 (.load none (.t 52)),
gT 54 49 (.mv (.t 0)),
gT 55 49 (.mv (.t 10)),
gT 56 49 (.ixS 1 (.t 54) (.t 55)),
gT 57 49 (.load none (.t 56)),
gT 58 49 (.call (.f 187) [false,false] [(.t 53),(.t 57)]),
oP 59 (.pick (.t 49) (.t 58) (.c (.bool false)))] [0,1,9,10,59] [[],[],[0,1],[0,1,2],[0,1,2,3],[0,1,2,3],[0,1,2,3,4,5],[0,1,2,3,4,5,6],[0,1,2,3],[0,1,2,3],[0,1,2,3,8,9],[0,1,2,3,8,9,10],[0,1,2,3,4,5,6,7,8,9,10,11],[0,1,2,3,4,5,6,7,8,9,10,11,12]])
(.cond (.t 59)
.skip
(.exit 4)))
(.block 5
(.reg [mV 60 10,
oP 61 (.bin .sub (.t 60) (cI 1)),
mV 10 61] [0,1,9,10])))))
(.seq (.seq (.reg [mV 62 9,
mV 63 10,
oP 64 (.bin .gtr (.t 62) (.t 63))] [0,1,9,10,64])
(.cond (.t 64)
(.exit 0)
.skip))
(.seq (.dreg [mV 65 0,
mV 66 9,
mV 67 0,
mV 68 10,
mV 69 0,
mV 70 10,
oP 71 (.ixS 1 (.t 69) (.t 70)),
oP 72 (.load none (.t 71)),
mV 73 0,
mV 74 9,
oP 75 (.ixS 1 (.t 73) (.t 74)),
oP 76 (.load none (.t 75)),
oP 77 (.ixS 1 (.t 65) (.t 66)),
oN (.store 1 (.t 77) (.t 72)),
oP 78 (.ixS 1 (.t 67) (.t 68)),
oN (.store 1 (.t 78) (.t 76))] [0,1,9,10] [[],[],[],[],[],[],[4,5],[4,5,6],[],[],[8,9],[8,9,10],[0,1,4,5,6,7,8,9,10,11],[0,1,4,5,6,7,8,9,10,11,12],[0,1,2,3,4,5,6,7,8,9,10,11,12,13],[0,1,2,3,4,5,6,7,8,9,10,11,12,13,14]])
(.seq (.reg [mV 79 9,
oP 80 (.bin .add (.t 79) (cI 1)),
mV 9 80] [0,1,9,10])
(.reg [mV 81 10,
oP 82 (.bin .sub (.t 81) (cI 1)),
mV 10 82] [0,1,9,10])))))))))
(.seq (.reg [mV 83 9,
mV 8 83] [8])
.ret)))))
abbrev GD:RsT:=[(8,none)]
theorem abx:an Tryz.prog Tryz.f353 84 Dd GD = true:=by kernel_rfl
theorem abB:af Tryz.prog adr = true:=by kernel_rfl
theorem aem:ag Tryz.prog ⟨353,84,Dd,GD,0⟩:=⟨fun _=>⟨abB,_,Tryz.func353,abx⟩,fun h=>by cases h⟩
end Go.AM
