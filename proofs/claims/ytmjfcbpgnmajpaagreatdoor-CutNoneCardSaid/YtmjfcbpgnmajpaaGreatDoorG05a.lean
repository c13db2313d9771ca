/- MADE BY PROGRAM (gen.py): the abstract code of functions of this seat, each checked against the given code by the kernel. -/
import Derived.Test.YtmjfcbpgnmajpaaGreatDoorChecked
import Derived.Test.YtmjfcbpgnmajpaaGreatDoorP13
namespace Go.AM
open Go.Proofs
@[simp] abbrev mV (d s:Nat):aJ:=⟨some d,none, .mv (.t s)⟩
@[simp] abbrev oP (d:Nat) (i:AI):aJ:=⟨some d,none,i⟩
@[simp] abbrev oN (i:AI):aJ:=⟨none,none,i⟩
@[simp] abbrev gT (d g:Nat) (i:AI):aJ:=⟨some d,some (g,true),i⟩
@[simp] abbrev gF (d g:Nat) (i:AI):aJ:=⟨some d,some (g,false),i⟩
abbrev RsT:=List (Nat × Option (Option Nat))
abbrev SpF (n:Nat) (F:FuncId) (C:AC) (Rs:RsT):Prop:=∀ {args:List ab} {σ:af} {R:dF → af → Prop},args.length ≤ n → AW Tryz.prog n none C (wJ Rs R) { v:=cZ args 0,ds:=[] } σ → Spec Tryz.prog F args σ R
theorem SpI {n:Nat} {F:FuncId} {fn:Func} {C:AC} {Rs:RsT} (hf:Tryz.prog.funcs[F]? = some fn) (hk:TF Tryz.prog fn n C Rs = true):SpF n F C Rs:=fun ha h=>Spec.yf hf hk ha h
@[simp] abbrev cI (n:Int):aI:=.c (.int .i64 n)
abbrev F_5:FuncId:=5
def C_5:AC:=
(.seq (.reg [oP 2 (.pbox 11 (.t 0)),
oP 4 (.mv (.c (.bool false)))] [1,2])
(.seq (.reg [oP 12 (.load (some 11) (.t 2)),
oP 13 (.call (.f 30) [true] [(.t 12)]),
mV 11 13,
oP 14 (.extract (.t 11) 0),
oP 15 (.extract (.t 11) 1),
mV 5 14,
mV 6 15] [1,2,5,6])
(.seq (.reg [oP 17 (.load (some 11) (.t 2)),
oP 18 (.call (.f 31) [true] [(.t 17)]),
mV 16 18,
oP 19 (.extract (.t 16) 0),
oP 20 (.extract (.t 16) 1),
mV 7 19,
mV 8 20] [1,2,5,6,7,8])
(.seq (.seq (.reg [mV 21 5,
mV 22 7,
oP 23 (.call (.f 20) [true,true] [(.t 21),(.t 22)]),
oP 24 (.un .not (.t 23)),
mV 25 24,
gF 26 25 (.mv (.t 6)),
gF 27 25 (.mv (.t 8)),
gF 28 25 (.bin .neq (.t 26) (.t 27)),
oP 29 (.pick (.t 25) (.c (.bool true)) (.t 28))] [1,2,29])
(.cond (.t 29)
(.seq (.reg [oP 4 (.mv (.c (.bool false)))] [4])
.ret)
.skip))
(.seq (.reg [oP 31 (.load (some 11) (.t 2)),
mV 32 1,
oP 33 (.call (.f 32) [true,true] [(.t 31),(.t 32)]),
mV 30 33,
oP 34 (.extract (.t 30) 0),
oP 35 (.extract (.t 30) 1),
mV 9 34,
mV 6 35] [1,2,6,9])
(.seq (.reg [oP 37 (.load (some 11) (.t 2)),
mV 38 1,
oP 39 (.call (.f 33) [true,true] [(.t 37),(.t 38)]),
mV 36 39,
oP 40 (.extract (.t 36) 0),
oP 41 (.extract (.t 36) 1),
mV 10 40,
mV 8 41] [6,8,9,10])
(.seq (.reg [mV 42 9,
mV 43 10,
oP 44 (.eqb false (.t 42) (.t 43)),
mV 45 44,
gT 46 45 (.mv (.t 6)),
gT 47 45 (.mv (.t 8)),
gT 48 45 (.bin .eql (.t 46) (.t 47)),
oP 49 (.pick (.t 45) (.t 48) (.c (.bool false))),
mV 50 49,
gT 51 50 (.call (.f 23) [] []),
oP 52 (.pick (.t 50) (.t 51) (.c (.bool false))),
mV 4 52] [4])
.ret)))))))
abbrev R_5:RsT:=[(4,none)]
theorem K_5:TF Tryz.prog Tryz.f5 53 C_5 R_5 = true:=by kernel_rfl
theorem S_5:SpF 53 F_5 C_5 R_5:=fun ha h=>Spec.yf Tryz.func5 K_5 ha h
abbrev F_8:FuncId:=8
def C_8:AC:=
(.seq (.reg [oP 3 (.pbox 11 (.t 0)),
oP 6 (.mv (.c (.bool false)))] [1,2,3])
(.seq (.reg [oP 16 (.load (some 11) (.t 3)),
oP 17 (.call (.f 24) [true] [(.t 16)]),
mV 15 17,
oP 18 (.extract (.t 15) 0),
oP 19 (.extract (.t 15) 1),
mV 7 18,
mV 8 19] [1,2,3,8])
(.seq (.reg [oP 21 (.load (some 11) (.t 3)),
oP 22 (.call (.f 30) [true] [(.t 21)]),
mV 20 22,
oP 23 (.extract (.t 20) 0),
oP 24 (.extract (.t 20) 1),
mV 9 23,
mV 10 24] [1,2,3,8,9,10])
(.seq (.seq (.reg [oP 25 (.load (some 11) (.t 3)),
oP 26 (.call (.f 35) [true] [(.t 25)]),
oP 27 (.un .not (.t 26))] [1,2,3,8,9,10,27])
(.cond (.t 27)
(.seq (.reg [mV 28 8,
oP 29 (.bin .neq (.t 28) (cI 0)),
mV 30 29,
gT 31 30 (.mv (.t 10)),
gT 32 30 (.mv (.t 8)),
gT 33 30 (.bin .eql (.t 31) (.t 32)),
oP 34 (.pick (.t 30) (.t 33) (.c (.bool false))),
mV 35 34,
gT 36 35 (.mv (.t 9)),
gT 37 35 (.len (.t 36)),
gT 38 35 (.bin .eql (.t 37) (cI 0)),
oP 39 (.pick (.t 35) (.t 38) (.c (.bool false))),
mV 40 39,
gT 41 40 (.call (.f 23) [] []),
oP 42 (.pick (.t 40) (.t 41) (.c (.bool false))),
mV 6 42] [6])
.ret)
.skip))
(.seq (.reg [oP 44 (.load (some 11) (.t 3)),
mV 45 1,
oP 46 (.call (.f 32) [true,true] [(.t 44),(.t 45)]),
mV 43 46,
oP 47 (.extract (.t 43) 0),
oP 48 (.extract (.t 43) 1),
mV 11 47,
mV 12 48] [2,3,8,9,10,11,12])
(.seq (.seq (.reg [mV 49 12,
oP 50 (.bin .neq (.t 49) (cI 0)),
mV 51 50,
gT 52 51 (.mv (.t 12)),
gT 53 51 (.bin .neq (.t 52) (cI 7)),
oP 54 (.pick (.t 51) (.t 53) (.c (.bool false))),
mV 55 54,
gF 56 55 (.mv (.t 11)),
gF 57 55 (.mv (.t 56)),
gT 58 57 (.mv (.t 8)),
gT 59 57 (.bin .eql (.t 58) (cI 0)),
gF 60 55 (.pick (.t 57) (.t 59) (.c (.bool false))),
oP 61 (.pick (.t 55) (.c (.bool true)) (.t 60))] [2,3,8,9,10,61])
(.cond (.t 61)
(.seq (.reg [oP 6 (.mv (.c (.bool false)))] [6])
.ret)
.skip))
(.seq (.seq (.reg [mV 62 8,
oP 63 (.bin .eql (.t 62) (cI 0))] [2,3,8,9,10,63])
(.cond (.t 63)
(.seq (.reg [mV 64 10,
oP 65 (.bin .eql (.t 64) (cI 9)),
mV 66 65,
gT 67 66 (.mv (.t 9)),
gT 68 66 (.len (.t 67)),
gT 69 66 (.bin .eql (.t 68) (cI 0)),
oP 70 (.pick (.t 66) (.t 69) (.c (.bool false))),
mV 71 70,
gT 72 71 (.call (.f 23) [] []),
oP 73 (.pick (.t 71) (.t 72) (.c (.bool false))),
mV 6 73] [6])
.ret)
.skip))
(.seq (.reg [oP 75 (.load (some 11) (.t 3)),
mV 76 9,
oP 77 (.call (.f 32) [true,true] [(.t 75),(.t 76)]),
mV 74 77,
oP 78 (.extract (.t 74) 0),
oP 79 (.extract (.t 74) 1),
mV 13 78,
mV 14 79] [2,3,8,10,13,14])
(.seq (.dreg [mV 80 8,
oP 81 (.bin .eql (.t 80) (cI 9)),
mV 82 81,
gT 83 82 (.mv (.t 10)),
gT 84 82 (.bin .eql (.t 83) (cI 0)),
oP 85 (.pick (.t 82) (.t 84) (.c (.bool false))),
mV 86 85,
gT 87 86 (.mv (.t 14)),
gT 88 86 (.bin .eql (.t 87) (cI 0)),
oP 89 (.pick (.t 86) (.t 88) (.c (.bool false))),
mV 90 89,
gT 91 90 (.mv (.t 13)),
oP 92 (.pick (.t 90) (.t 91) (.c (.bool false))),
mV 93 92,
gT 94 93 (.load (some 11) (.t 3)),
gT 95 93 (.mv (.t 2)),
gT 96 93 (.call (.f 39) [true,true,false] [(.t 94),(.t 95),(cI 7)]),
gT 97 93 (.len (.t 96)),
gT 98 93 (.fieldAddr (some 1) 0 (.t 3)),
gT 99 93 (.fieldAddr none 0 (.t 98)),
gT 100 93 (.load none (.t 99)),
gT 101 93 (.len (.t 100)),
gT 102 93 (.bin .lss (.t 97) (.t 101)),
oP 103 (.pick (.t 93) (.t 102) (.c (.bool false))),
mV 104 103,
gT 105 104 (.call (.f 23) [] []),
oP 106 (.pick (.t 104) (.t 105) (.c (.bool false))),
mV 6 106] [6] [[],[0],[0,1],[0,1,2],[0,1,2,3],[0,1,2,3,4],[0,1,2,3,4,5],[0,1,2,3,4,5,6],[0,1,2,3,4,5,6,7],[0,1,2,3,4,5,6,7,8],[0,1,2,3,4,5,6,7,8,9],[0,1,2,3,4,5,6,7,8,9,10],[0,1,2,3,4,5,6,7,8,9,10,11],[0,1,2,3,4,5,6,7,8,9,10,11,12],[0,1,2,3,4,5,6,7,8,9,10,11,12,13],[0,1,2,3,4,5,6,7,8,9,10,11,12,13],[0,1,2,3,4,5,6,7,8,9,10,11,12,13,14,15],[0,1,2,3,4,5,6,7,8,9,10,11,12,13,14,15,16],[0,1,2,3,4,5,6,7,8,9,10,11,12,13],[0,1,2,3,4,5,6,7,8,9,10,11,12,13,18],[0,1,2,3,4,5,6,7,8,9,10,11,12,13,18,19],[0,1,2,3,4,5,6,7,8,9,10,11,12,13,18,19,20],[0,1,2,3,4,5,6,7,8,9,10,11,12,13,14,15,16,17,18,19,20,21],[0,1,2,3,4,5,6,7,8,9,10,11,12,13,14,15,16,17,18,19,20,21,22],[0,1,2,3,4,5,6,7,8,9,10,11,12,13,14,15,16,17,18,19,20,21,22,23],[0,1,2,3,4,5,6,7,8,9,10,11,12,13,14,15,16,17,18,19,20,21,22,23,24],[0,1,2,3,4,5,6,7,8,9,10,11,12,13,14,15,16,17,18,19,20,21,22,23,24,25],[0,1,2,3,4,5,6,7,8,9,10,11,12,13,14,15,16,17,18,19,20,21,22,23,24,25,26]])
.ret)))))))))
abbrev R_8:RsT:=[(6,none)]
theorem S_8:SpF 107 F_8 C_8 R_8:=SpI Tryz.func8 (by kernel_rfl)
abbrev Ir:FuncId:=14
def Is:AC:=
(.seq (.reg [oP 1 (.pbox 11 (.t 0)),
oP 2 (.alloc [.int .i64 0]),
oP 3 (.alloc [.int .i64 0]),
oP 4 (.alloc [.int .i64 0])] [1,2,3,4])
(.seq (.dfr 12 43 [(.t 2),(.t 3),(.t 4)] [1,2,3,4])
(.seq (.reg [oP 14 (.fieldAddr (some 1) 0 (.t 1)),
oP 15 (.load (some 1) (.t 14)),
oP 16 (.build [.slice 7 [], .slice 10 []] [(0,1,(.t 15))]),
oP 17 (.call (.f 44) [true] [(.t 16)]),
mV 13 17,
oP 18 (.extract (.t 13) 0),
oP 19 (.extract (.t 13) 1),
oP 20 (.extract (.t 13) 2),
oN (.store 1 (.t 3) (.t 19)),
oN (.store 1 (.t 4) (.t 20))] [1,2,3,4])
(.seq (.reg [oP 21 (.load none (.t 3)),
oP 22 (.load none (.t 4)),
oP 23 (.call (.f 45) [false,false,false] [(cI 1),(.t 21),(.t 22)])] [1,2,3,4])
(.seq (.reg [oP 25 (.fieldAddr (some 3) 1 (.t 1)),
oP 26 (.load (some 3) (.t 25)),
oP 27 (.call (.f 46) [true] [(.t 26)]),
mV 24 27,
oP 28 (.extract (.t 24) 0),
oP 29 (.extract (.t 24) 1),
oP 30 (.extract (.t 24) 2),
oN (.store 1 (.t 4) (.t 30))] [1,2,3,4])
(.seq (.reg [oP 31 (.load none (.t 4)),
oP 32 (.call (.f 45) [false,false,false] [(cI 2),(cI 0),(.t 31)])] [1,2,3,4])
(.seq (.reg [oP 33 (.fieldAddr (some 1) 0 (.t 1)),
oP 34 (.fieldAddr none 0 (.t 33)),
oP 35 (.load none (.t 34)),
oP 36 (.len (.t 35)),
mV 5 36] [1,2,3,4,5])
(.seq (.seq (.reg [oP 37 (.fieldAddr (some 3) 1 (.t 1)),
oP 38 (.fieldAddr none 0 (.t 37)),
oP 39 (.load none (.t 38)),
oP 40 (.len (.t 39)),
mV 41 5,
oP 42 (.bin .neq (.t 40) (.t 41)),
mV 43 42,
gF 44 43 (.mv (.t 5)),
gF 45 43 (.bin .gtr (.t 44) (cI 7)),
oP 46 (.pick (.t 43) (.c (.bool true)) (.t 45))] [1,2,3,4,5,46])
(.cond (.t 46)
(.reg [oP 47 (.call (.f 45) [false,false,false] [(cI 2),(cI 0),(cI 3)])] [1,2,3,4,5])
.skip))
(.seq (.seq (.reg [oP 48 (.fieldAddr (some 1) 0 (.t 1)),
oP 49 (.fieldAddr none 0 (.t 48)),
oP 50 (.load none (.t 49)),
oP 51 (.len (.t 50)),
oP 52 (.mv (cI 0))] [1,2,3,4,5,50,51,52])
(.block 0
(.loop [1,2,3,4,5,50,51,52]
(.seq (.reg [oP 53 (.bin .lss (.t 52) (.t 51))] [1,2,3,4,5,50,51,52,53])
(.seq (.cond (.t 53)
.skip
(.exit 0))
(.seq (.block 1
(.seq (.reg [mV 54 52,
oP 55 (.ixS 7 (.t 50) (.t 52)),
oP 56 (.load (some 7) (.t 55)),
oP 7 (.alloc [.str ByteArray.empty, .int .i64 0, .int .i64 0, .int .i64 0, .slice 1 [], .int .i64 0, .int .i64 0]),
mV 6 54,
oN (.store 7 (.t 7) (.t 56))] [1,2,3,4,5,6,7,50,51,52])
(.frz 7 true (.seq (.dreg [oP 57 (.fieldAddr (some 3) 1 (.t 1)),
oP 58 (.fieldAddr none 0 (.t 57)),
oP 59 (.load none (.t 58)),
mV 60 6,
oP 61 (.ixS 7 (.t 59) (.t 60)),
oP 62 (.fieldAddr none 0 (.t 61)),
oP 63 (.load none (.t 62)),
oP 64 (.fieldAddr none 0 (.t 7)),
oP 65 (.load none (.t 64)),
oP 66 (.bin .neq (.t 63) (.t 65))] [1,2,3,4,5,6,50,51,52,66] [[],[0],[0,1],[],[0,1,2,3],[0,1,2,3,4],[0,1,2,3,4,5],[],[7],[0,1,2,3,4,5,6,7,8]])
(.cond (.t 66)
(.reg [mV 67 6,
oP 68 (.call (.f 45) [false,false,false] [(cI 2),(.t 67),(cI 4)])] [1,2,3,4,5,50,51,52])
.skip)))))
(.reg [oP 69 (.bin .add (.t 52) (cI 1)),
mV 52 69] [1,2,3,4,5,50,51,52])))))))
(.seq (.reg [oP 71 (.fieldAddr (some 3) 1 (.t 1)),
oP 72 (.load (some 3) (.t 71)),
oP 73 (.fieldAddr (some 2) 4 (.t 1)),
oP 74 (.load (some 2) (.t 73)),
oP 75 (.call (.f 47) [true,false] [(.t 72),(.t 74)]),
mV 70 75,
oP 76 (.extract (.t 70) 0),
oP 77 (.extract (.t 70) 1),
oP 78 (.extract (.t 70) 2),
oN (.store 1 (.t 4) (.t 78))] [1,2,3,4,5])
(.seq (.reg [oP 79 (.load none (.t 4)),
oP 80 (.call (.f 45) [false,false,false] [(cI 3),(cI 0),(.t 79)])] [1,2,3,4,5])
(.seq (.reg [oP 82 (.fieldAddr (some 2) 6 (.t 1)),
oP 83 (.load (some 2) (.t 82)),
oP 84 (.fieldAddr none 8 (.t 1)),
oP 85 (.load none (.t 84)),
oP 86 (.fieldAddr none 9 (.t 1)),
oP 87 (.load none (.t 86)),
oP 88 (.call (.f 48) [true,true,true] [(.t 83),(.t 85),(.t 87)]),
mV 81 88,
oP 89 (.extract (.t 81) 0),
oP 90 (.extract (.t 81) 1),
oN (.store 1 (.t 4) (.t 90))] [1,2,3,4,5])
(.seq (.reg [oP 91 (.load none (.t 4)),
oP 92 (.call (.f 45) [false,false,false] [(cI 4),(cI 0),(.t 91)])] [1,2,3,4,5])
(.seq (.seq (.reg [oP 93 (.fieldAddr none 10 (.t 1)),
oP 94 (.load none (.t 93)),
oP 95 (.len (.t 94)),
mV 96 5,
oP 97 (.bin .neq (.t 95) (.t 96))] [1,2,3,4,97])
(.cond (.t 97)
(.reg [oP 98 (.call (.f 45) [false,false,false] [(cI 5),(cI 0),(cI 3)])] [1,2,3,4])
.skip))
(.seq (.seq (.reg [oP 99 (.fieldAddr none 10 (.t 1)),
oP 100 (.load none (.t 99)),
oP 101 (.len (.t 100)),
oP 102 (.mv (cI 0))] [1,2,3,4,100,101,102])
(.block 2
(.loop [1,2,3,4,100,101,102]
(.seq (.reg [oP 103 (.bin .lss (.t 102) (.t 101))] [1,2,3,4,100,101,102,103])
(.seq (.cond (.t 103)
.skip
(.exit 2))
(.seq (.block 3
(.seq (.reg [mV 104 102,
oP 105 (.ixS 1 (.t 100) (.t 102)),
oP 106 (.load none (.t 105)),
mV 8 104,
mV 9 106] [1,2,3,4,8,9,100,101,102])
(.seq (.reg [mV 107 9,
oP 108 (.len (.t 107)),
oP 109 (.mv (cI 0))] [1,2,3,4,8,9,100,101,102,107,108,109])
(.block 4
(.loop [1,2,3,4,8,9,100,101,102,107,108,109]
(.seq (.reg [oP 110 (.bin .lss (.t 109) (.t 108))] [1,2,3,4,8,9,100,101,102,107,108,109,110])
(.seq (.cond (.t 110)
.skip
(.exit 4))
(.seq (.block 5
(.seq (.reg [mV 111 109,
oP 112 (.ixS 1 (.t 107) (.t 109)),
oP 113 (.load none (.t 112)),
mV 10 111,
mV 11 113] [1,2,3,4,8,9,10,11,100,101,102,107,108,109])
(.block 6
(.seq (.reg [oP 115 (.fieldAddr (some 2) 6 (.t 1)),
oP 116 (.fieldAddr none 0 (.t 115)),
oP 117 (.load none (.t 116)),
oP 118 (.len (.t 117)),
mV 119 11,
oP 120 (.lit 0 1 1 [(0,(.t 119))]),
oP 121 (.call (.f 49) [false,true] [(.t 118),(.t 120)]),
mV 114 121] [1,2,3,4,8,9,10,11,100,101,102,107,108,109,114])
(.cond (.t 114)
(.reg [mV 122 8,
oP 123 (.call (.f 45) [false,false,false] [(cI 5),(.t 122),(cI 4)])] [1,2,3,4,8,9,100,101,102,107,108,109])
(.seq (.reg [mV 125 10,
oP 126 (.bin .gtr (.t 125) (cI 0)),
mV 127 126,
gT 128 127 (.mv (.t 11)),
gT 129 127 (.mv (.t 9)),
gT 130 127 (.mv (.t 10)),
gT 131 127 (.bin .sub (.t 130) (cI 1)),
gT 132 127 (.ixS 1 (.t 129) (.t 131)),
gT 133 127 (.load none (.t 132)),
gT 134 127 (.bin .leq (.t 128) (.t 133)),
oP 135 (.pick (.t 127) (.t 134) (.c (.bool false))),
mV 124 135] [1,2,3,4,8,9,100,101,102,107,108,109,124])
(.cond (.t 124)
(.reg [mV 136 8,
oP 137 (.call (.f 45) [false,false,false] [(cI 5),(.t 136),(cI 2)])] [1,2,3,4,8,9,100,101,102,107,108,109])
.skip)))))))
(.reg [oP 138 (.bin .add (.t 109) (cI 1)),
mV 109 138] [1,2,3,4,8,9,100,101,102,107,108,109])))))))))
(.reg [oP 139 (.bin .add (.t 102) (cI 1)),
mV 102 139] [1,2,3,4,100,101,102])))))))
(.seq (.reg [oN (.store 1 (.t 2) (cI 0)),
oN (.store 1 (.t 3) (cI 0)),
oN (.store 1 (.t 4) (cI 0))] [2,3,4])
.ret))))))))))))))))
abbrev LD:RsT:=[(2,some none),(3,some none),(4,some none)]
theorem VM:TF Tryz.prog Tryz.f14 140 Is LD = true:=by kernel_rfl
theorem So {args:List ab} {σ:af} {R:dF → af → Prop} (ha:args.length ≤ 140) (h:AW Tryz.prog 140 none Is (sT Tryz.prog LD R) { v:=cZ args 0,ds:=[] } σ):Spec Tryz.prog Ir args σ R:=Spec.CA Tryz.func14 VM ha h
theorem R6:ak Tryz.prog Ir = true:=by kernel_rfl
abbrev Ik:FuncId:=15
def JL:AC:=
(.seq (.reg [oP 1 (.pbox 11 (.t 0)),
oP 2 (.mv (cI 0)),
oP 3 (.mv (cI 0)),
oP 4 (.mv (cI 0))] [1])
(.seq (.reg [oP 14 (.fieldAddr (some 1) 0 (.t 1)),
oP 15 (.load (some 1) (.t 14)),
oP 16 (.build [.slice 7 [], .slice 10 []] [(0,1,(.t 15))]),
oP 17 (.call (.f 50) [true] [(.t 16)]),
mV 13 17,
oP 18 (.extract (.t 13) 0),
oP 19 (.extract (.t 13) 1),
oP 20 (.extract (.t 13) 2),
mV 5 18,
mV 6 19,
mV 7 20] [1,6,7])
(.seq (.seq (.reg [mV 21 7,
oP 22 (.bin .neq (.t 21) (cI 0))] [1,6,7,22])
(.cond (.t 22)
(.seq (.reg [mV 23 6,
mV 24 7,
oP 2 (.mv (cI 1)),
mV 3 23,
mV 4 24] [2,3,4])
.ret)
.skip))
(.seq (.reg [oP 26 (.fieldAddr (some 3) 1 (.t 1)),
oP 27 (.load (some 3) (.t 26)),
oP 28 (.call (.f 51) [true] [(.t 27)]),
mV 25 28,
oP 29 (.extract (.t 25) 0),
oP 30 (.extract (.t 25) 1),
oP 31 (.extract (.t 25) 2),
mV 7 31] [1,7])
(.seq (.seq (.reg [mV 32 7,
oP 33 (.bin .neq (.t 32) (cI 0))] [1,7,33])
(.cond (.t 33)
(.seq (.reg [mV 34 7,
oP 2 (.mv (cI 2)),
oP 3 (.mv (cI 0)),
mV 4 34] [2,3,4])
.ret)
.skip))
(.seq (.reg [oP 35 (.fieldAddr (some 1) 0 (.t 1)),
oP 36 (.fieldAddr none 0 (.t 35)),
oP 37 (.load none (.t 36)),
oP 38 (.len (.t 37)),
mV 8 38] [1,8])
(.seq (.seq (.reg [oP 39 (.fieldAddr (some 3) 1 (.t 1)),
oP 40 (.fieldAddr none 0 (.t 39)),
oP 41 (.load none (.t 40)),
oP 42 (.len (.t 41)),
mV 43 8,
oP 44 (.bin .neq (.t 42) (.t 43)),
mV 45 44,
gF 46 45 (.mv (.t 8)),
gF 47 45 (.bin .gtr (.t 46) (cI 7)),
oP 48 (.pick (.t 45) (.c (.bool true)) (.t 47))] [1,8,48])
(.cond (.t 48)
(.seq (.reg [oP 2 (.mv (cI 2)),
oP 3 (.mv (cI 0)),
oP 4 (.mv (cI 3))] [2,3,4])
.ret)
.skip))
(.seq (.seq (.reg [oP 9 (.mv (cI 0))] [1,8,9])
(.block 0
(.loop [1,8,9]
(.seq (.seq (.reg [mV 49 9,
mV 50 8,
oP 51 (.bin .lss (.t 49) (.t 50))] [1,8,9,51])
(.cond (.t 51)
.skip
(.exit 0)))
(.seq (.block 1
(.seq (.dreg [oP 54 (.fieldAddr (some 3) 1 (.t 1)),
oP 55 (.fieldAddr none 0 (.t 54)),
oP 56 (.load none (.t 55)),
mV 57 9,
oP 58 (.ixS 7 (.t 56) (.t 57)),
oP 59 (.fieldAddr none 0 (.t 58)),
oP 60 (.load none (.t 59)),
oP 61 (.fieldAddr (some 1) 0 (.t 1)),
oP 62 (.fieldAddr none 0 (.t 61)),
oP 63 (.load none (.t 62)),
mV 64 9,
oP 65 (.ixS 7 (.t 63) (.t 64)),
oP 66 (.fieldAddr none 0 (.t 65)),
oP 67 (.load none (.t 66)),
oP 68 (.bin .neq (.t 60) (.t 67))] [1,8,9,68] [[],[0],[0,1],[],[0,1,2,3],[0,1,2,3,4],[0,1,2,3,4,5],[],[7],[7,8],[],[7,8,9,10],[7,8,9,10,11],[7,8,9,10,11,12],[0,1,2,3,4,5,6,7,8,9,10,11,12,13]])
(.cond (.t 68)
(.seq (.reg [mV 69 9,
oP 2 (.mv (cI 2)),
mV 3 69,
oP 4 (.mv (cI 4))] [2,3,4])
.ret)
.skip)))
(.reg [mV 52 9,
oP 53 (.bin .add (.t 52) (cI 1)),
mV 9 53] [1,8,9]))))))
(.seq (.reg [oP 71 (.fieldAddr (some 3) 1 (.t 1)),
oP 72 (.load (some 3) (.t 71)),
oP 73 (.fieldAddr (some 2) 4 (.t 1)),
oP 74 (.load (some 2) (.t 73)),
oP 75 (.call (.f 52) [true,false] [(.t 72),(.t 74)]),
mV 70 75,
oP 76 (.extract (.t 70) 0),
oP 77 (.extract (.t 70) 1),
oP 78 (.extract (.t 70) 2),
mV 7 78] [1,7,8])
(.seq (.seq (.reg [mV 79 7,
oP 80 (.bin .neq (.t 79) (cI 0))] [1,7,8,80])
(.cond (.t 80)
(.seq (.reg [mV 81 7,
oP 2 (.mv (cI 3)),
oP 3 (.mv (cI 0)),
mV 4 81] [2,3,4])
.ret)
.skip))
(.seq (.reg [oP 83 (.fieldAddr (some 2) 6 (.t 1)),
oP 84 (.load (some 2) (.t 83)),
oP 85 (.fieldAddr none 8 (.t 1)),
oP 86 (.load none (.t 85)),
oP 87 (.fieldAddr none 9 (.t 1)),
oP 88 (.load none (.t 87)),
oP 89 (.call (.f 53) [true,true,true] [(.t 84),(.t 86),(.t 88)]),
mV 82 89,
oP 90 (.extract (.t 82) 0),
oP 91 (.extract (.t 82) 1),
mV 7 91] [1,7,8])
(.seq (.seq (.reg [mV 92 7,
oP 93 (.bin .neq (.t 92) (cI 0))] [1,7,8,93])
(.cond (.t 93)
(.seq (.reg [mV 94 7,
oP 2 (.mv (cI 4)),
oP 3 (.mv (cI 0)),
mV 4 94] [2,3,4])
.ret)
.skip))
(.seq (.seq (.reg [oP 95 (.fieldAddr none 10 (.t 1)),
oP 96 (.load none (.t 95)),
oP 97 (.len (.t 96)),
mV 98 8,
oP 99 (.bin .neq (.t 97) (.t 98))] [1,8,99])
(.cond (.t 99)
(.seq (.reg [oP 2 (.mv (cI 5)),
oP 3 (.mv (cI 0)),
oP 4 (.mv (cI 3))] [2,3,4])
.ret)
.skip))
(.seq (.seq (.reg [oP 10 (.mv (cI 0))] [1,8,10])
(.block 2
(.loop [1,8,10]
(.seq (.seq (.reg [mV 100 10,
mV 101 8,
oP 102 (.bin .lss (.t 100) (.t 101))] [1,8,10,102])
(.cond (.t 102)
.skip
(.exit 2)))
(.seq (.block 3
(.seq (.reg [oP 105 (.fieldAddr none 10 (.t 1)),
oP 106 (.load none (.t 105)),
mV 107 10,
oP 108 (.ixS 1 (.t 106) (.t 107)),
oP 109 (.load none (.t 108)),
mV 11 109] [1,8,10,11])
(.seq (.reg [oP 12 (.mv (cI 0))] [1,8,10,11,12])
(.block 4
(.loop [1,8,10,11,12]
(.seq (.seq (.reg [mV 110 12,
mV 111 11,
oP 112 (.len (.t 111)),
oP 113 (.bin .lss (.t 110) (.t 112))] [1,8,10,11,12,113])
(.cond (.t 113)
.skip
(.exit 4)))
(.seq (.block 5
(.seq (.seq (.dreg [mV 116 11,
mV 117 12,
oP 118 (.ixS 1 (.t 116) (.t 117)),
oP 119 (.load none (.t 118)),
oP 120 (.fieldAddr (some 2) 6 (.t 1)),
oP 121 (.fieldAddr none 0 (.t 120)),
oP 122 (.load none (.t 121)),
oP 123 (.len (.t 122)),
oP 124 (.call (.f 54) [false,false] [(.t 119),(.t 123)]),
oP 125 (.un .not (.t 124))] [1,8,10,11,12,125] [[],[],[0,1],[0,1,2],[],[4],[4,5],[4,5,6],[0,1,2,3,4,5,6,7],[0,1,2,3,4,5,6,7,8]])
(.cond (.t 125)
(.seq (.reg [mV 126 10,
oP 2 (.mv (cI 5)),
mV 3 126,
oP 4 (.mv (cI 4))] [2,3,4])
.ret)
.skip))
(.seq (.dreg [mV 127 12,
oP 128 (.bin .gtr (.t 127) (cI 0)),
mV 129 128,
gT 130 129 (.mv (.t 11)),
gT 131 129 (.mv (.t 12)),
gT 132 129 (.ixS 1 (.t 130) (.t 131)),
gT 133 129 (.load none (.t 132)),
gT 134 129 (.mv (.t 11)),
gT 135 129 (.mv (.t 12)),
gT 136 129 (.bin .sub (.t 135) (cI 1)),
gT 137 129 (.ixS 1 (.t 134) (.t 136)),
gT 138 129 (.load none (.t 137)),
gT 139 129 (.bin .leq (.t 133) (.t 138)),
oP 140 (.pick (.t 129) (.t 139) (.c (.bool false)))] [1,8,10,11,12,140] [[],[0],[0,1],[0,1,2],[0,1,2],[0,1,2,3,4],[0,1,2,3,4,5],[0,1,2],[0,1,2],[0,1,2,8],[0,1,2,7,8,9],[0,1,2,7,8,9,10],[0,1,2,3,4,5,6,7,8,9,10,11],[0,1,2,3,4,5,6,7,8,9,10,11,12]])
(.cond (.t 140)
(.seq (.reg [mV 141 10,
oP 2 (.mv (cI 5)),
mV 3 141,
oP 4 (.mv (cI 2))] [2,3,4])
.ret)
.skip))))
(.reg [mV 114 12,
oP 115 (.bin .add (.t 114) (cI 1)),
mV 12 115] [1,8,10,11,12]))))))))
(.reg [mV 103 10,
oP 104 (.bin .add (.t 103) (cI 1)),
mV 10 104] [1,8,10]))))))
(.seq (.reg [oP 2 (.mv (cI 0)),
oP 3 (.mv (cI 0)),
oP 4 (.mv (cI 0))] [2,3,4])
.ret)))))))))))))))
abbrev Qg:RsT:=[(2,none),(3,none),(4,none)]
theorem Rw:SpF 142 Ik JL Qg:=SpI Tryz.func15 (by kernel_rfl)
theorem N5:ak Tryz.prog Ik = true:=by kernel_rfl
abbrev BG:FuncId:=16
def O4:AC:=
(.seq (.reg [oP 2 (.pbox 11 (.t 0)),
oP 4 (.mv (cI 0)),
oP 5 (.mv (cI 0)),
oP 6 (.mv (cI 0))] [1,2])
(.seq (.reg [oP 9 (.load (some 11) (.t 2)),
mV 10 1,
oP 11 (.call (.f 55) [true,true] [(.t 9),(.t 10)]),
mV 8 11,
oP 12 (.extract (.t 8) 0),
oP 13 (.extract (.t 8) 1),
mV 7 12,
mV 6 13] [1,6,7])
(.seq (.seq (.reg [mV 14 6,
oP 15 (.bin .neq (.t 14) (cI 0))] [1,6,7,15])
(.cond (.t 15)
(.seq (.reg [mV 16 6,
oP 4 (.mv (cI 0)),
oP 5 (.mv (cI 0)),
mV 6 16] [4,5,6])
.ret)
.skip))
(.seq (.reg [mV 18 7,
mV 19 1,
oP 20 (.call (.f 56) [false,true] [(.t 18),(.t 19)]),
mV 17 20,
oP 21 (.extract (.t 17) 0),
oP 22 (.extract (.t 17) 1),
oP 23 (.extract (.t 17) 2),
mV 4 21,
mV 5 22] [4,5])
(.seq (.reg [mV 24 4,
mV 25 5,
mV 4 24,
mV 5 25,
oP 6 (.mv (cI 0))] [4,5,6])
.ret)))))
abbrev Ry:RsT:=[(4,none),(5,none),(6,none)]
theorem RO:SpF 26 BG O4 Ry:=SpI Tryz.func16 (by kernel_rfl)
theorem wW:ak Tryz.prog BG = true:=by kernel_rfl
abbrev Em:FuncId:=18
def JA:AC:=
(.seq (.reg [oP 2 (.pbox 11 (.t 0)),
oP 4 (.mv (.c (.slice 1 []))),
oP 5 (.mv (cI 0))] [1,2])
(.seq (.reg [oP 10 (.load (some 11) (.t 2)),
mV 11 1,
oP 12 (.call (.f 59) [true,true] [(.t 10),(.t 11)]),
mV 9 12,
oP 13 (.extract (.t 9) 0),
oP 14 (.extract (.t 9) 1),
oP 15 (.extract (.t 9) 2),
mV 6 13,
mV 7 14,
mV 8 15] [6,7,8])
(.seq (.seq (.reg [mV 16 8,
oP 17 (.bin .neq (.t 16) (cI 0))] [6,7,8,17])
(.cond (.t 17)
(.seq (.reg [mV 18 8,
oP 4 (.mv (.c (.slice 1 []))),
mV 5 18] [4,5])
.ret)
.skip))
(.seq (.reg [mV 19 6,
mV 20 7,
oP 21 (.call (.f 61) [false,false] [(.t 19),(.t 20)]),
oP 22 (.call (.f 60) [false,false] [(.t 21),(.f 62)]),
oP 4 (.mvd (.t 22)),
oP 5 (.mv (cI 0))] [4,5])
.ret))))
abbrev Sk:RsT:=[(4,none),(5,none)]
theorem RV:SpF 23 Em JA Sk:=SpI Tryz.func18 (by kernel_rfl)
theorem zB:ak Tryz.prog Em = true:=by kernel_rfl
abbrev E9:FuncId:=20
def Kj:AC:=
(.seq (.reg [oP 4 (.mv (.c (.bool false)))] [0,1])
(.seq (.reg [mV 7 0,
oP 8 (.len (.t 7)),
mV 9 1,
oP 10 (.len (.t 9)),
oP 11 (.bin .eql (.t 8) (.t 10)),
mV 5 11] [0,1,5])
(.seq (.seq (.reg [oP 6 (.mv (cI 0))] [0,1,5,6])
(.block 0
(.loop [0,1,5,6]
(.seq (.seq (.reg [mV 12 6,
mV 13 0,
oP 14 (.len (.t 13)),
oP 15 (.bin .lss (.t 12) (.t 14)),
mV 16 15,
gT 17 16 (.mv (.t 5)),
oP 18 (.pick (.t 16) (.t 17) (.c (.bool false)))] [0,1,5,6,18])
(.cond (.t 18)
.skip
(.exit 0)))
(.seq (.block 1
(.dreg [mV 21 0,
mV 22 6,
oP 23 (.ixS 1 (.t 21) (.t 22)),
oP 24 (.load none (.t 23)),
mV 25 1,
mV 26 6,
oP 27 (.ixS 1 (.t 25) (.t 26)),
oP 28 (.load none (.t 27)),
oP 29 (.bin .eql (.t 24) (.t 28)),
mV 5 29] [0,1,5,6] [[],[],[0,1],[0,1,2],[],[],[4,5],[4,5,6],[0,1,2,3,4,5,6,7],[0,1,2,3,4,5,6,7,8]]))
(.reg [mV 19 6,
oP 20 (.bin .add (.t 19) (cI 1)),
mV 6 20] [0,1,5,6]))))))
(.seq (.reg [mV 30 5,
mV 4 30] [4])
.ret))))
abbrev Qc:RsT:=[(4,none)]
theorem QF:SpF 31 E9 Kj Qc:=SpI Tryz.func20 (by kernel_rfl)
theorem zG:ak Tryz.prog E9 = true:=by kernel_rfl
abbrev Ef:FuncId:=21
def Lk:AC:=
(.seq (.reg [oP 2 (.pbox 11 (.t 0)),
oP 4 (.mv (.c (.slice 1 []))),
oP 5 (.mv (cI 0))] [1,2])
(.seq (.reg [oP 11 (.load (some 11) (.t 2)),
mV 12 1,
oP 13 (.call (.f 59) [true,true] [(.t 11),(.t 12)]),
mV 10 13,
oP 14 (.extract (.t 10) 0),
oP 15 (.extract (.t 10) 1),
oP 16 (.extract (.t 10) 2),
mV 6 14,
mV 7 15,
mV 8 16] [6,7,8])
(.seq (.seq (.reg [mV 17 8,
oP 18 (.bin .neq (.t 17) (cI 0))] [6,7,8,18])
(.cond (.t 18)
(.seq (.reg [mV 19 8,
oP 4 (.mv (.c (.slice 1 []))),
mV 5 19] [4,5])
.ret)
.skip))
(.seq (.reg [mV 20 6,
oP 21 (.call (.f 64) [false] [(.t 20)]),
oP 9 (.alloc [.nilfunc]),
oN (.store 1 (.t 9) (.t 21))] [6,7,9])
(.frz 9 false (.seq (.reg [mV 22 6,
mV 23 7,
oP 24 (.call (.f 61) [false,false] [(.t 22),(.t 23)]),
oP 25 (.mkfunc (.func 65) [] [(.t 9)]),
oP 26 (.call (.f 60) [false,false] [(.t 24),(.t 25)]),
oP 4 (.mvd (.t 26)),
oP 5 (.mv (cI 0))] [4,5])
.ret))))))
abbrev Qe:RsT:=[(4,none),(5,none)]
theorem R3:SpF 27 Ef Lk Qe:=SpI Tryz.func21 (by kernel_rfl)
theorem yX:ak Tryz.prog Ef = true:=by kernel_rfl
abbrev Uu:FuncId:=23
def Nv:AC:=
(.seq (.reg [oP 0 (.mv (.c (.bool false)))] [])
(.seq (.reg [oP 28 (.call (.f 34) [false,false] [(.c (.bool false)),(.c (.bool false))]),
oP 29 (.call (.f 34) [false,false] [(.c (.bool true)),(.c (.bool false))]),
oP 30 (.call (.f 34) [false,false] [(.c (.bool false)),(.c (.bool true))]),
oP 1 (.alloc [.slice 7 [], .slice 7 [], .int .i64 0, .int .i64 0, .int .i64 0, .int .i64 0, .slice 2 [], .slice 3 [], .slice 1 [], .slice 2 [], .slice 1 []]),
oP 2 (.alloc [.slice 7 [], .slice 7 [], .int .i64 0, .int .i64 0, .int .i64 0, .int .i64 0, .slice 2 [], .slice 3 [], .slice 1 [], .slice 2 [], .slice 1 []]),
oP 3 (.alloc [.slice 7 [], .slice 7 [], .int .i64 0, .int .i64 0, .int .i64 0, .int .i64 0, .slice 2 [], .slice 3 [], .slice 1 [], .slice 2 [], .slice 1 []]),
oN (.store 11 (.t 1) (.t 28)),
oN (.store 11 (.t 2) (.t 29)),
oN (.store 11 (.t 3) (.t 30))] [1,2,3])
(.frz 3 true (.frz 2 true (.frz 1 true (.seq (.reg [oP 32 (.load (some 11) (.t 1)),
oP 33 (.lit 0 1 2 [(0,(cI 0)),(1,(cI 1))]),
oP 34 (.call (.f 16) [true,true] [(.t 32),(.t 33)]),
mV 31 34,
oP 35 (.extract (.t 31) 0),
oP 36 (.extract (.t 31) 1),
oP 37 (.extract (.t 31) 2),
mV 4 35,
mV 5 36,
mV 6 37] [1,2,3,4,5,6])
(.seq (.reg [oP 39 (.load (some 11) (.t 3)),
oP 40 (.lit 0 1 2 [(0,(cI 0)),(1,(cI 2))]),
oP 41 (.call (.f 16) [true,true] [(.t 39),(.t 40)]),
mV 38 41,
oP 42 (.extract (.t 38) 0),
oP 43 (.extract (.t 38) 1),
oP 44 (.extract (.t 38) 2),
mV 7 42,
mV 8 43,
mV 9 44] [1,2,3,4,5,6,7,8,9])
(.seq (.reg [oP 46 (.load (some 11) (.t 1)),
oP 47 (.call (.f 18) [true,true] [(.t 46),(.c (.slice 1 []))]),
mV 45 47,
oP 48 (.extract (.t 45) 0),
oP 49 (.extract (.t 45) 1),
mV 10 48,
mV 11 49] [1,2,3,4,5,6,7,8,9,10,11])
(.seq (.reg [oP 51 (.load (some 11) (.t 1)),
oP 52 (.call (.f 21) [true,true] [(.t 51),(.c (.slice 1 []))]),
mV 50 52,
oP 53 (.extract (.t 50) 0),
oP 54 (.extract (.t 50) 1),
mV 12 53,
mV 13 54] [1,2,3,4,5,6,7,8,9,10,11,12,13])
(.seq (.reg [oP 56 (.load (some 11) (.t 1)),
oP 57 (.call (.f 24) [true] [(.t 56)]),
mV 55 57,
oP 58 (.extract (.t 55) 0),
oP 59 (.extract (.t 55) 1),
mV 14 58,
mV 15 59] [1,2,3,4,5,6,7,8,9,10,11,12,13,14,15])
(.seq (.reg [oP 61 (.load (some 11) (.t 2)),
oP 62 (.call (.f 24) [true] [(.t 61)]),
mV 60 62,
oP 63 (.extract (.t 60) 0),
oP 64 (.extract (.t 60) 1),
mV 16 63,
mV 17 64] [1,2,3,4,5,6,7,8,9,10,11,12,13,14,15,17])
(.seq (.reg [oP 66 (.load (some 11) (.t 2)),
oP 67 (.call (.f 26) [true] [(.t 66)]),
mV 65 67,
oP 68 (.extract (.t 65) 0),
oP 69 (.extract (.t 65) 1),
mV 18 68,
mV 19 69] [1,3,4,5,6,7,8,9,10,11,12,13,14,15,17,18,19])
(.seq (.reg [oP 71 (.load (some 11) (.t 1)),
oP 72 (.call (.f 28) [true,false] [(.t 71),(cI 2)]),
mV 70 72,
oP 73 (.extract (.t 70) 0),
oP 74 (.extract (.t 70) 1),
mV 20 73,
mV 21 74] [3,4,5,6,7,8,9,10,11,12,13,14,15,17,18,19,20,21])
(.seq (.reg [oP 76 (.load (some 11) (.t 3)),
oP 77 (.call (.f 30) [true] [(.t 76)]),
mV 75 77,
oP 78 (.extract (.t 75) 0),
oP 79 (.extract (.t 75) 1),
mV 22 78,
mV 23 79] [3,4,5,6,7,8,9,10,11,12,13,14,15,17,18,19,20,21,22,23])
(.seq (.reg [oP 81 (.load (some 11) (.t 3)),
oP 82 (.lit 0 1 3 [(0,(cI 7)),(1,(cI 6)),(2,(cI 5))]),
oP 83 (.call (.f 32) [true,true] [(.t 81),(.t 82)]),
mV 80 83,
oP 84 (.extract (.t 80) 0),
oP 85 (.extract (.t 80) 1),
mV 24 84,
mV 25 85] [3,4,5,6,7,8,9,10,11,12,13,14,15,17,18,19,20,21,22,23,24,25])
(.seq (.reg [oP 87 (.load (some 11) (.t 3)),
oP 88 (.lit 0 1 2 [(0,(cI 7)),(1,(cI 6))]),
oP 89 (.call (.f 32) [true,true] [(.t 87),(.t 88)]),
mV 86 89,
oP 90 (.extract (.t 86) 0),
oP 91 (.extract (.t 86) 1),
mV 26 90,
mV 27 91] [4,5,6,7,8,9,10,11,12,13,14,15,17,18,19,20,21,22,23,24,25,26,27])
(.seq (.reg [mV 92 6,
oP 93 (.bin .eql (.t 92) (cI 0)),
mV 94 93,
gT 95 94 (.mv (.t 9)),
gT 96 94 (.bin .eql (.t 95) (cI 0)),
oP 97 (.pick (.t 94) (.t 96) (.c (.bool false))),
mV 98 97,
gT 99 98 (.mv (.t 11)),
gT 100 98 (.bin .eql (.t 99) (cI 0)),
oP 101 (.pick (.t 98) (.t 100) (.c (.bool false))),
mV 102 101,
gT 103 102 (.mv (.t 13)),
gT 104 102 (.bin .eql (.t 103) (cI 0)),
oP 105 (.pick (.t 102) (.t 104) (.c (.bool false))),
mV 106 105,
gT 107 106 (.mv (.t 15)),
gT 108 106 (.bin .eql (.t 107) (cI 0)),
oP 109 (.pick (.t 106) (.t 108) (.c (.bool false))),
mV 110 109,
gT 111 110 (.mv (.t 19)),
gT 112 110 (.bin .eql (.t 111) (cI 0)),
oP 113 (.pick (.t 110) (.t 112) (.c (.bool false))),
mV 114 113,
gT 115 114 (.mv (.t 21)),
gT 116 114 (.bin .eql (.t 115) (cI 0)),
oP 117 (.pick (.t 114) (.t 116) (.c (.bool false))),
mV 118 117,
gT 119 118 (.mv (.t 23)),
gT 120 118 (.bin .eql (.t 119) (cI 0)),
oP 121 (.pick (.t 118) (.t 120) (.c (.bool false))),
mV 122 121,
gT 123 122 (.mv (.t 25)),
gT 124 122 (.bin .eql (.t 123) (cI 0)),
oP 125 (.pick (.t 122) (.t 124) (.c (.bool false))),
mV 126 125,
gT 127 126 (.mv (.t 27)),
gT 128 126 (.bin .eql (.t 127) (cI 0)),
oP 129 (.pick (.t 126) (.t 128) (.c (.bool false))),
mV 130 129,
gT 131 130 (.mv (.t 17)),
gT 132 130 (.bin .eql (.t 131) (cI 9)),
oP 133 (.pick (.t 130) (.t 132) (.c (.bool false))),
mV 134 133,
gT 135 134 (.mv (.t 4)),
gT 136 134 (.bin .eql (.t 135) (cI 1)),
oP 137 (.pick (.t 134) (.t 136) (.c (.bool false))),
mV 138 137,
gT 139 138 (.mv (.t 5)),
gT 140 138 (.bin .eql (.t 139) (cI 4)),
oP 141 (.pick (.t 138) (.t 140) (.c (.bool false))),
mV 142 141,
gT 143 142 (.mv (.t 7)),
gT 144 142 (.bin .eql (.t 143) (cI 1)),
oP 145 (.pick (.t 142) (.t 144) (.c (.bool false))),
mV 146 145,
gT 147 146 (.mv (.t 8)),
gT 148 146 (.bin .eql (.t 147) (cI 3)),
oP 149 (.pick (.t 146) (.t 148) (.c (.bool false))),
mV 150 149,
gT 151 150 (.mv (.t 10)),
gT 152 150 (.lit 0 1 2 [(0,(cI 0)),(1,(cI 1))]),
gT 153 150 (.call (.f 20) [true,true] [(.t 151),(.t 152)]),
oP 154 (.pick (.t 150) (.t 153) (.c (.bool false))),
mV 155 154,
gT 156 155 (.mv (.t 12)),
gT 157 155 (.lit 0 1 1 [(0,(cI 0))]),
gT 158 155 (.call (.f 20) [true,true] [(.t 156),(.t 157)]),
oP 159 (.pick (.t 155) (.t 158) (.c (.bool false))),
mV 160 159,
gT 161 160 (.mv (.t 14)),
gT 162 160 (.lit 0 1 3 [(0,(cI 0)),(1,(cI 2)),(2,(cI 1))]),
gT 163 160 (.call (.f 20) [true,true] [(.t 161),(.t 162)]),
oP 164 (.pick (.t 160) (.t 163) (.c (.bool false))),
mV 165 164,
gT 166 165 (.mv (.t 18)),
gT 167 165 (.lit 0 1 1 [(0,(cI 1))]),
gT 168 165 (.call (.f 20) [true,true] [(.t 166),(.t 167)]),
oP 169 (.pick (.t 165) (.t 168) (.c (.bool false))),
mV 170 169,
gT 171 170 (.mv (.t 20)),
gT 172 170 (.lit 0 1 2 [(0,(cI 0)),(1,(cI 2))]),
gT 173 170 (.call (.f 20) [true,true] [(.t 171),(.t 172)]),
oP 174 (.pick (.t 170) (.t 173) (.c (.bool false))),
mV 175 174,
gT 176 175 (.mv (.t 22)),
gT 177 175 (.lit 0 1 3 [(0,(cI 5)),(1,(cI 6)),(2,(cI 7))]),
gT 178 175 (.call (.f 20) [true,true] [(.t 176),(.t 177)]),
oP 179 (.pick (.t 175) (.t 178) (.c (.bool false))),
mV 180 179,
gT 181 180 (.mv (.t 24)),
oP 182 (.pick (.t 180) (.t 181) (.c (.bool false))),
mV 183 182,
gT 184 183 (.mv (.t 26)),
gT 185 183 (.un .not (.t 184)),
oP 186 (.pick (.t 183) (.t 185) (.c (.bool false))),
mV 0 186] [0])
.ret)))))))))))))))))
abbrev QC:RsT:=[(0,none)]
theorem SM:SpF 187 Uu Nv QC:=SpI Tryz.func23 (by kernel_rfl)
theorem ka:ak Tryz.prog Uu = true:=by kernel_rfl
abbrev Db:FuncId:=24
def LR:AC:=
(.seq (.reg [oP 1 (.pbox 11 (.t 0)),
oP 2 (.mv (.c (.slice 1 []))),
oP 3 (.mv (cI 0))] [1])
(.seq (.reg [oP 8 (.load (some 11) (.t 1)),
oP 9 (.call (.f 69) [true] [(.t 8)]),
mV 7 9,
oP 10 (.extract (.t 7) 0),
oP 11 (.extract (.t 7) 1),
mV 4 10,
mV 5 11] [4,5])
(.seq (.seq (.reg [mV 12 5,
oP 13 (.bin .neq (.t 12) (cI 0))] [4,5,13])
(.cond (.t 13)
(.seq (.reg [mV 14 5,
oP 2 (.mv (.c (.slice 1 []))),
mV 3 14] [2,3])
.ret)
.skip))
(.seq (.reg [mV 15 4,
oP 16 (.call (.f 70) [false] [(.t 15)]),
mV 6 16] [4,6])
(.seq (.seq (.reg [mV 17 6,
oP 18 (.len (.t 17)),
mV 19 4,
oP 20 (.nilchk (.t 19)),
oP 21 (.fieldAddr none 11 (.t 20)),
oP 22 (.load none (.t 21)),
oP 23 (.len (.t 22)),
oP 24 (.bin .lss (.t 18) (.t 23))] [6,24])
(.cond (.t 24)
(.seq (.reg [oP 2 (.mv (.c (.slice 1 []))),
oP 3 (.mv (cI 9))] [2,3])
.ret)
.skip))
(.seq (.reg [mV 25 6,
oP 2 (.mvd (.t 25)),
oP 3 (.mv (cI 0))] [2,3])
.ret))))))
abbrev SV:RsT:=[(2,none),(3,none)]
theorem Re:SpF 26 Db LR SV:=SpI Tryz.func24 (by kernel_rfl)
theorem zi:ak Tryz.prog Db = true:=by kernel_rfl
abbrev EL:FuncId:=26
def Nn:AC:=
(.seq (.reg [oP 1 (.pbox 11 (.t 0)),
oP 2 (.mv (.c (.slice 1 []))),
oP 3 (.mv (cI 0))] [1])
(.seq (.reg [oP 7 (.load (some 11) (.t 1)),
oP 8 (.call (.f 69) [true] [(.t 7)]),
mV 6 8,
oP 9 (.extract (.t 6) 0),
oP 10 (.extract (.t 6) 1),
mV 4 9,
mV 5 10] [4,5])
(.seq (.seq (.reg [mV 11 5,
oP 12 (.bin .neq (.t 11) (cI 0))] [4,5,12])
(.cond (.t 12)
(.seq (.reg [mV 13 5,
oP 2 (.mv (.c (.slice 1 []))),
mV 3 13] [2,3])
.ret)
.skip))
(.seq (.reg [mV 14 4,
oP 15 (.call (.f 70) [false] [(.t 14)]),
oP 2 (.mvd (.t 15)),
oP 3 (.mv (cI 0))] [2,3])
.ret))))
abbrev R5:RsT:=[(2,none),(3,none)]
theorem QI:SpF 16 EL Nn R5:=SpI Tryz.func26 (by kernel_rfl)
theorem HU:ak Tryz.prog EL = true:=by kernel_rfl
abbrev EB:FuncId:=28
def Lj:AC:=
(.seq (.reg [oP 2 (.pbox 11 (.t 0)),
oP 3 (.pbox 1 (.t 1)),
oP 4 (.alloc [.slice 1 []]),
oP 5 (.alloc [.int .i64 0])] [2,3,4,5])
(.seq (.reg [oP 10 (.load (some 11) (.t 2)),
oP 11 (.load none (.t 3)),
oP 12 (.lit 0 1 1 [(0,(.t 11))]),
oP 13 (.call (.f 55) [true,true] [(.t 10),(.t 12)]),
mV 9 13,
oP 14 (.extract (.t 9) 0),
oP 15 (.extract (.t 9) 1),
oP 6 (.alloc [.nilptr]),
oN (.store 1 (.t 6) (.t 14)),
mV 7 15] [3,4,5,6,7])
(.frz 6 false (.seq (.seq (.reg [mV 16 7,
oP 17 (.bin .neq (.t 16) (cI 0))] [3,4,5,6,7,17])
(.cond (.t 17)
(.seq (.reg [mV 18 7,
oN (.store 1 (.t 4) (.c (.slice 1 []))),
oN (.store 1 (.t 5) (.t 18))] [4,5])
.ret)
.skip))
(.seq (.seq (.reg [oP 19 (.load none (.t 6)),
oP 20 (.call (.f 72) [false] [(.t 19)])] [3,4,5,6,20])
(.block 0
(.bF (.t 20) [21] (.reg [oP 8 (.alloc [.int .i64 0, .slice 1 []]),
oN (.store 2 (.t 8) (.t 21))] [3,4,5,6,8])
(.block 1
(.seq (.reg [oP 22 (.load none (.t 6)),
oP 23 (.fieldAddr none 0 (.t 8)),
oP 24 (.load none (.t 23)),
oP 25 (.load none (.t 3)),
oP 26 (.call (.f 73) [false,false,false] [(.t 22),(.t 24),(.t 25)]),
oP 27 (.bin .eql (.t 26) (cI 0))] [3,4,5,8,27])
(.cond (.t 27)
(.seq (.dreg [oP 28 (.fieldAddr none 1 (.t 8)),
oP 29 (.load none (.t 28)),
oP 30 (.callA 1 (.f 74) [true] [(.t 29)]),
oP 31 (.load none (.t 3)),
oP 32 (.lit 0 1 1 [(0,(.t 31))]),
oP 33 (.append 1 8 (.t 30) (.t 32)),
oN (.store 1 (.t 4) (.t 33)),
oN (.store 1 (.t 5) (cI 0))] [4,5] [[],[0],[0,1],[],[3],[0,1,2,3,4],[0,1,2,3,4,5],[0,1,2,3,4,5,6]])
(.tX 4 0 1 .ret))
.skip))))))
(.seq (.reg [oN (.store 1 (.t 4) (.c (.slice 1 []))),
oN (.store 1 (.t 5) (cI 9))] [4,5])
.ret))))))
abbrev Sq:RsT:=[(4,some none),(5,some none)]
theorem Sg:SpF 34 EB Lj Sq:=SpI Tryz.func28 (by kernel_rfl)
theorem Ih:ak Tryz.prog EB = true:=by kernel_rfl
abbrev EM:FuncId:=30
def NY:AC:=
(.seq (.reg [oP 1 (.pbox 11 (.t 0)),
oP 2 (.alloc [.mint 1001]),
oP 3 (.alloc [.int .i64 0])] [1,2,3])
(.seq (.reg [oP 7 (.load (some 11) (.t 1)),
oP 8 (.call (.f 69) [true] [(.t 7)]),
mV 6 8,
oP 9 (.extract (.t 6) 0),
oP 10 (.extract (.t 6) 1),
mV 4 9,
oN (.store 1 (.t 3) (.t 10))] [2,3,4])
(.seq (.seq (.reg [oP 11 (.load none (.t 3)),
oP 12 (.bin .neq (.t 11) (cI 0))] [2,3,4,12])
(.cond (.t 12)
(.seq (.dreg [oP 13 (.load none (.t 3)),
oN (.store 1 (.t 2) (.c (.slice 1 []))),
oN (.store 1 (.t 3) (.t 13))] [2,3] [[],[],[0,1]])
.ret)
.skip))
(.seq (.seq (.reg [mV 14 4,
oP 15 (.call (.f 72) [false] [(.t 14)])] [2,3,15])
(.block 0
(.bF (.t 15) [16] (.reg [oP 5 (.alloc [.int .i64 0, .slice 1 []]),
oN (.store 2 (.t 5) (.t 16))] [2,3,5])
(.block 1
(.seq (.seq (.reg [oP 17 (.fieldAddr none 0 (.t 5)),
oP 18 (.load none (.t 17)),
oP 19 (.bin .eql (.t 18) (cI 0))] [2,3,5,19])
(.cond (.t 19)
(.seq (.reg [oN (.store 1 (.t 2) (.c (.slice 1 []))),
oN (.store 1 (.t 3) (cI 9))] [2,3])
.ret)
.skip))
(.reg [oP 20 (.load none (.t 2)),
oP 21 (.fieldAddr none 0 (.t 5)),
oP 22 (.load none (.t 21)),
oP 23 (.lit 0 1 1 [(0,(.t 22))]),
oP 24 (.append 1 8 (.t 20) (.t 23)),
oN (.store 1 (.t 2) (.t 24))] []))))))
(.seq (.reg [oP 25 (.load none (.t 2)),
oP 26 (.call (.f 75) [true] [(.t 25)])] [2,3])
(.tX 2 0 1 (.seq (.reg [oP 27 (.loadd none (.t 2)),
oN (.store 1 (.t 2) (.t 27)),
oN (.store 1 (.t 3) (cI 0))] [2,3])
.ret)))))))
abbrev Rz:RsT:=[(2,some none),(3,some none)]
theorem R4:SpF 28 EM NY Rz:=SpI Tryz.func30 (by kernel_rfl)
theorem Qv:ak Tryz.prog EM = true:=by kernel_rfl
abbrev UX:FuncId:=31
def VD:AC:=
(.seq (.reg [oP 1 (.pbox 11 (.t 0)),
oP 2 (.mv (.c (.slice 1 []))),
oP 3 (.mv (cI 0))] [1])
(.seq (.reg [oP 11 (.load (some 11) (.t 1)),
oP 12 (.call (.f 63) [true,true] [(.t 11),(.c (.slice 1 []))]),
mV 10 12,
oP 13 (.extract (.t 10) 0),
oP 14 (.extract (.t 10) 1),
oP 15 (.extract (.t 10) 2),
oP 4 (.alloc [.int .i64 0, .slice 1 []]),
oN (.store 2 (.t 4) (.t 13)),
mV 5 14,
mV 6 15] [4,6])
(.frz 4 true (.seq (.seq (.reg [mV 16 6,
oP 17 (.bin .neq (.t 16) (cI 0))] [4,6,17])
(.cond (.t 17)
(.seq (.reg [mV 18 6,
oP 2 (.mv (.c (.slice 1 []))),
mV 3 18] [2,3])
.ret)
.skip))
(.seq (.reg [oP 19 (.load (some 2) (.t 4)),
oP 20 (.call (.f 76) [true] [(.t 19)]),
mV 7 20] [7])
(.seq (.seq (.reg [mV 21 7,
oP 22 (.ixS 1 (.t 21) (cI 0)),
oP 23 (.load none (.t 22))] [7,23])
(.cond (.t 23)
(.seq (.reg [oP 2 (.mv (.c (.slice 1 []))),
oP 3 (.mv (cI 9))] [2,3])
.ret)
.skip))
(.seq (.reg [oP 8 (.nilS 1 1)] [7,8])
(.seq (.seq (.reg [oP 9 (.mv (cI 0))] [7,8,9])
(.block 0
(.loop [7,8,9]
(.seq (.seq (.reg [mV 24 9,
mV 25 7,
oP 26 (.len (.t 25)),
oP 27 (.bin .lss (.t 24) (.t 26))] [7,8,9,27])
(.cond (.t 27)
.skip
(.exit 0)))
(.seq (.block 1
(.seq (.reg [mV 30 7,
mV 31 9,
oP 32 (.ixS 1 (.t 30) (.t 31)),
oP 33 (.load none (.t 32))] [7,8,9,33])
(.cond (.t 33)
(.reg [mV 34 8,
mV 35 9,
oP 36 (.lit 0 1 1 [(0,(.t 35))]),
oP 37 (.append 1 8 (.t 34) (.t 36)),
mV 8 37] [7,8,9])
.skip)))
(.reg [mV 28 9,
oP 29 (.bin .add (.t 28) (cI 1)),
mV 9 29] [7,8,9]))))))
(.seq (.reg [mV 38 8,
oP 2 (.mvd (.t 38)),
oP 3 (.mv (cI 0))] [2,3])
.ret)))))))))
abbrev VI:RsT:=[(2,none),(3,none)]
theorem VO:SpF 39 UX VD VI:=SpI Tryz.func31 (by kernel_rfl)
theorem VT:ak Tryz.prog UX = true:=by kernel_rfl
abbrev D4:FuncId:=32
def OS:AC:=
(.seq (.reg [oP 2 (.pbox 11 (.t 0)),
oP 3 (.pbox 1 (.t 1)),
oP 4 (.alloc [.bool false]),
oP 5 (.alloc [.int .i64 0])] [2,3,4,5])
(.seq (.reg [oP 13 (.load (some 11) (.t 2)),
oP 14 (.call (.f 69) [true] [(.t 13)]),
mV 12 14,
oP 15 (.extract (.t 12) 0),
oP 16 (.extract (.t 12) 1),
mV 6 15,
mV 7 16] [3,4,5,6,7])
(.seq (.block 0
(.seq (.reg [mV 18 7,
oP 19 (.bin .neq (.t 18) (cI 0)),
mV 17 19] [3,4,5,6,7,17])
(.cond (.t 17)
(.seq (.reg [mV 20 7,
oN (.store 1 (.t 4) (.c (.bool false))),
oN (.store 1 (.t 5) (.t 20))] [4,5])
.ret)
(.seq (.qreg [mV 22 6,
oP 23 (.call (.f 77) [false] [(.t 22)]),
oP 24 (.bin .add (.t 23) (cI 1)),
oP 25 (.load none (.t 3)),
oP 26 (.call (.f 49) [false,true] [(.t 24),(.t 25)]),
mV 21 26] [3,4,5,6,21] [[],[0],[0,1],[],[0,1,2,3],[0,1,2,3,4]] [([0,3],1),([2],4)] [5])
(.cond (.t 21)
(.seq (.reg [oN (.store 1 (.t 4) (.c (.bool false))),
oN (.store 1 (.t 5) (cI 7))] [4,5])
.ret)
(.seq (.qreg [oP 28 (.load none (.t 3)),
mV 29 6,
oP 30 (.call (.f 77) [false] [(.t 29)]),
oP 31 (.call (.f 78) [true,false] [(.t 28),(.t 30)]),
oP 32 (.un .not (.t 31)),
mV 33 32,
gF 34 33 (.load none (.t 3)),
gF 35 33 (.call (.f 78) [true,false] [(.t 34),(cI 0)]),
oP 36 (.pick (.t 33) (.c (.bool true)) (.t 35)),
mV 27 36] [3,4,5,6,27] [[],[],[1],[0,1,2],[0,1,2,3],[0,1,2,3,4],[0,1,2,3,4,5],[0,1,2,3,4,5,6],[0,1,2,3,4,5,6,7],[0,1,2,3,4,5,6,7,8]] [([0,1],2),([],3),([4,5,6],7)] [8,9])
(.cond (.t 27)
(.seq (.reg [oN (.store 1 (.t 4) (.c (.bool false))),
oN (.store 1 (.t 5) (cI 0))] [4,5])
.ret)
.skip)))))))
(.seq (.seq (.reg [oP 37 (.load none (.t 3)),
oP 38 (.len (.t 37)),
oP 39 (.mv (cI 0))] [3,4,5,6,37,38,39])
(.block 1
(.loop [3,4,5,6,37,38,39]
(.seq (.reg [oP 40 (.bin .lss (.t 39) (.t 38))] [3,4,5,6,37,38,39,40])
(.seq (.cond (.t 40)
.skip
(.exit 1))
(.seq (.block 2
(.seq (.reg [oP 41 (.ixS 1 (.t 37) (.t 39)),
oP 42 (.load none (.t 41)),
mV 9 42] [3,4,5,6,9,37,38,39])
(.seq (.reg [mV 43 6,
mV 44 9,
oP 45 (.call (.f 61) [false,false] [(.t 43),(.t 44)])] [3,4,5,6,37,38,39,45])
(.block 3
(.bF (.t 45) [46,47] (.reg [mV 11 47] [3,4,5,11])
(.block 4
(.seq (.reg [oP 48 (.load none (.t 3)),
mV 49 11,
oP 50 (.call (.f 78) [true,false] [(.t 48),(.t 49)]),
oP 51 (.un .not (.t 50))] [4,5,51])
(.cond (.t 51)
(.seq (.reg [oN (.store 1 (.t 4) (.c (.bool false))),
oN (.store 1 (.t 5) (cI 0))] [4,5])
.ret)
.skip))))))))
(.reg [oP 52 (.bin .add (.t 39) (cI 1)),
mV 39 52] [3,4,5,6,37,38,39])))))))
(.seq (.reg [oN (.store 1 (.t 4) (.c (.bool true))),
oN (.store 1 (.t 5) (cI 0))] [4,5])
.ret)))))
abbrev P1:RsT:=[(4,some none),(5,some none)]
theorem Qf:SpF 53 D4 OS P1:=SpI Tryz.func32 (by kernel_rfl)
theorem K1:ak Tryz.prog D4 = true:=by kernel_rfl
abbrev US:FuncId:=33
def Vs:AC:=
(.seq (.reg [oP 2 (.pbox 11 (.t 0)),
oP 4 (.mv (.c (.bool false))),
oP 5 (.mv (cI 0))] [1,2])
(.seq (.reg [oP 13 (.load (some 11) (.t 2)),
oP 14 (.call (.f 63) [true,true] [(.t 13),(.c (.slice 1 []))]),
mV 12 14,
oP 15 (.extract (.t 12) 0),
oP 16 (.extract (.t 12) 1),
oP 17 (.extract (.t 12) 2),
oP 6 (.alloc [.int .i64 0, .slice 1 []]),
oN (.store 2 (.t 6) (.t 15)),
mV 7 16,
mV 8 17] [1,6,7,8])
(.frz 6 true (.seq (.seq (.reg [oP 9 (.mv (cI 0))] [1,6,7,8,9])
(.block 0
(.loop [1,6,7,8,9]
(.seq (.seq (.reg [mV 18 9,
mV 19 1,
oP 20 (.len (.t 19)),
oP 21 (.bin .lss (.t 18) (.t 20)),
mV 22 21,
gT 23 22 (.mv (.t 8)),
gT 24 22 (.bin .eql (.t 23) (cI 0)),
oP 25 (.pick (.t 22) (.t 24) (.c (.bool false)))] [1,6,7,8,9,25])
(.cond (.t 25)
.skip
(.exit 0)))
(.seq (.block 1
(.seq (.reg [mV 28 1,
mV 29 9,
oP 30 (.ixS 1 (.t 28) (.t 29)),
oP 31 (.load none (.t 30)),
mV 32 7,
oP 33 (.bin .add (.t 32) (cI 1)),
oP 34 (.call (.f 54) [false,false] [(.t 31),(.t 33)]),
oP 35 (.un .not (.t 34))] [1,6,7,8,9,35])
(.cond (.t 35)
(.reg [oP 8 (.mv (cI 7))] [1,6,7,8,9])
.skip)))
(.reg [mV 26 9,
oP 27 (.bin .add (.t 26) (cI 1)),
mV 9 27] [1,6,7,8,9]))))))
(.seq (.seq (.reg [mV 36 8,
oP 37 (.bin .neq (.t 36) (cI 0))] [1,6,7,8,37])
(.cond (.t 37)
(.seq (.reg [mV 38 8,
oP 4 (.mv (.c (.bool false))),
mV 5 38] [4,5])
.ret)
.skip))
(.seq (.seq (.reg [mV 39 1,
mV 40 7,
oP 41 (.call (.f 37) [true,false] [(.t 39),(.t 40)]),
oP 42 (.un .not (.t 41)),
mV 43 42,
gF 44 43 (.mv (.t 1)),
gF 45 43 (.call (.f 37) [true,false] [(.t 44),(cI 0)]),
oP 46 (.pick (.t 43) (.c (.bool true)) (.t 45))] [1,6,46])
(.cond (.t 46)
(.seq (.reg [oP 4 (.mv (.c (.bool false))),
oP 5 (.mv (cI 0))] [4,5])
.ret)
.skip))
(.seq (.seq (.reg [oP 10 (.mv (cI 0))] [1,6,10])
(.block 2
(.loop [1,6,10]
(.seq (.seq (.reg [mV 47 10,
mV 48 1,
oP 49 (.len (.t 48)),
oP 50 (.bin .lss (.t 47) (.t 49))] [1,6,10,50])
(.cond (.t 50)
.skip
(.exit 2)))
(.seq (.block 3
(.seq (.reg [oP 11 (.mv (cI 0))] [1,6,10,11])
(.block 4
(.loop [1,6,10,11]
(.seq (.seq (.reg [mV 53 11,
oP 54 (.fieldAddr none 0 (.t 6)),
oP 55 (.load none (.t 54)),
oP 56 (.bin .lss (.t 53) (.t 55))] [1,6,10,11,56])
(.cond (.t 56)
.skip
(.exit 4)))
(.seq (.block 5
(.seq (.dreg [oP 59 (.fieldAddr none 1 (.t 6)),
oP 60 (.load none (.t 59)),
mV 61 1,
mV 62 10,
oP 63 (.ixS 1 (.t 61) (.t 62)),
oP 64 (.load none (.t 63)),
oP 65 (.ixS 1 (.t 60) (.t 64)),
oP 66 (.load none (.t 65)),
mV 67 11,
oP 68 (.ixS 1 (.t 66) (.t 67)),
oP 69 (.load none (.t 68)),
oP 70 (.bin .eql (.t 69) (cI 0)),
mV 71 70,
gT 72 71 (.mv (.t 1)),
gT 73 71 (.mv (.t 1)),
gT 74 71 (.mv (.t 10)),
gT 75 71 (.ixS 1 (.t 73) (.t 74)),
gT 76 71 (.load none (.t 75)),
gT 77 71 (.mv (.t 11)),
gT 78 71 (.call (.f 68) [false] [(.t 77)]),
gT 79 71 (.bin .sub (.t 76) (.t 78)),
gT 80 71 (.call (.f 37) [true,false] [(.t 72),(.t 79)]),
gT 81 71 (.un .not (.t 80)),
oP 82 (.pick (.t 71) (.t 81) (.c (.bool false)))] [1,6,10,11,82] [[],[0],[],[],[2,3],[2,3,4],[0,1,2,3,4,5],[0,1,2,3,4,5,6],[],[0,1,2,3,4,5,6,7,8],[0,1,2,3,4,5,6,7,8,9],[0,1,2,3,4,5,6,7,8,9,10],[0,1,2,3,4,5,6,7,8,9,10,11],[0,1,2,3,4,5,6,7,8,9,10,11,12],[0,1,2,3,4,5,6,7,8,9,10,11,12],[0,1,2,3,4,5,6,7,8,9,10,11,12],[0,1,2,3,4,5,6,7,8,9,10,11,12,14,15],[0,1,2,3,4,5,6,7,8,9,10,11,12,14,15,16],[0,1,2,3,4,5,6,7,8,9,10,11,12],[0,1,2,3,4,5,6,7,8,9,10,11,12,18],[0,1,2,3,4,5,6,7,8,9,10,11,12,14,15,16,17,18,19],[0,1,2,3,4,5,6,7,8,9,10,11,12,13,14,15,16,17,18,19,20],[0,1,2,3,4,5,6,7,8,9,10,11,12,13,14,15,16,17,18,19,20,21],[0,1,2,3,4,5,6,7,8,9,10,11,12,13,14,15,16,17,18,19,20,21,22]])
(.cond (.t 82)
(.seq (.reg [oP 4 (.mv (.c (.bool false))),
oP 5 (.mv (cI 0))] [4,5])
.ret)
.skip)))
(.reg [mV 57 11,
oP 58 (.bin .add (.t 57) (cI 1)),
mV 11 58] [1,6,10,11])))))))
(.reg [mV 51 10,
oP 52 (.bin .add (.t 51) (cI 1)),
mV 10 52] [1,6,10]))))))
(.seq (.reg [oP 4 (.mv (.c (.bool true))),
oP 5 (.mv (cI 0))] [4,5])
.ret))))))))
abbrev VL:RsT:=[(4,none),(5,none)]
theorem VH:SpF 83 US Vs VL:=SpI Tryz.func33 (by kernel_rfl)
theorem VR:ak Tryz.prog US = true:=by kernel_rfl
abbrev HN:FuncId:=34
def OX:AC:=
(.seq (.reg [oP 4 (.alloc [.slice 7 [], .slice 7 [], .int .i64 0, .int .i64 0, .int .i64 0, .int .i64 0, .slice 2 [], .slice 3 [], .slice 1 [], .slice 2 [], .slice 1 []])] [0,1,4])
(.seq (.reg [oP 5 (.mv (.f 79))] [0,1,4,5])
(.seq (.reg [mV 7 5,
⟨some 8,none, .call (.t 7) [false,false,false,false] [(.c (.str ⟨#[98,111,119]⟩)),(cI 2),(cI 0),(cI 10)]⟩,
mV 9 5,
⟨some 10,none, .call (.t 9) [false,false,false,false] [(.c (.str ⟨#[109,105,100]⟩)),(cI 1),(cI 5),(cI 30)]⟩,
mV 11 5,
⟨some 12,none, .call (.t 11) [false,false,false,false] [(.c (.str ⟨#[115,116,101,114,110]⟩)),(cI 1),(cI 25),(cI 40)]⟩,
oP 13 (.lit 2 7 3 [(0,(.t 8)),(1,(.t 10)),(2,(.t 12))]),
oP 14 (.build [.slice 7 []] [(0,1,(.t 13))]),
oP 15 (.call (.f 81) [] []),
oP 16 (.call (.f 80) [false,false] [(cI 0),(cI 60)]),
oP 17 (.call (.f 82) [false] [(.c (.bool false))]),
oP 18 (.lit 0 1 2 [(0,(cI 3)),(1,(cI 5))]),
oP 19 (.build [.int .i64 0, .bool false] [(0,1,(cI 3))]),
oP 20 (.build [.int .i64 0, .bool false] [(0,1,(cI 4))]),
oP 21 (.build [.int .i64 0, .bool false] [(0,1,(cI 3)),(1,1,(.c (.bool true)))]),
oP 22 (.build [.int .i64 0, .bool false] [(0,1,(cI 4)),(1,1,(.c (.bool true)))]),
oP 23 (.lit 0 2 4 [(0,(.t 19)),(1,(.t 20)),(2,(.t 21)),(3,(.t 22))]),
oP 24 (.lit 0 1 2 [(0,(cI 3)),(1,(cI 4))]),
oP 25 (.lit 2 1 3 [(0,(.c (.slice 1 []))),(1,(.t 24)),(2,(.c (.slice 1 [])))]),
oP 26 (.build [.slice 7 [], .slice 7 [], .int .i64 0, .int .i64 0, .int .i64 0, .int .i64 0, .slice 2 [], .slice 3 [], .slice 1 [], .slice 2 [], .slice 1 []] [(0,1,(.t 14)),(1,3,(.t 15)),(4,2,(.t 16)),(6,2,(.t 17)),(8,1,(.t 18)),(9,1,(.t 23)),(10,1,(.t 25))]),
oP 6 (.alloc [.slice 7 [], .slice 7 [], .int .i64 0, .int .i64 0, .int .i64 0, .int .i64 0, .slice 2 [], .slice 3 [], .slice 1 [], .slice 2 [], .slice 1 []]),
oN (.store 11 (.t 6) (.t 26))] [0,1,4,6])
(.seq (.seq (.reg [mV 27 0] [1,4,6,27])
(.cond (.t 27)
(.reg [oP 28 (.fieldAddr (some 1) 0 (.t 6)),
oP 29 (.fieldAddr none 0 (.t 28)),
oP 30 (.load none (.t 29)),
⟨some 31,none, .lit 0 1 1 [(0,(.c (.str ⟨#[98,111,119]⟩)))]⟩,
oP 32 (.ixS 7 (.t 30) (cI 1)),
oP 33 (.fieldAddr none 4 (.t 32)),
oN (.store 1 (.t 33) (.t 31))] [1,4,6])
.skip))
(.seq (.seq (.reg [mV 34 1] [4,6,34])
(.cond (.t 34)
(.reg [oP 35 (.fieldAddr none 10 (.t 6)),
oP 36 (.load none (.t 35)),
oP 37 (.lit 0 1 1 [(0,(cI 2))]),
oP 38 (.ixS 1 (.t 36) (cI 2)),
oN (.store 1 (.t 38) (.t 37))] [4,6])
.skip))
(.tX 6 0 7 (.tX 6 10 1 (.seq (.reg [oP 39 (.loadd (some 11) (.t 6)),
oN (.store 11 (.t 4) (.t 39))] [4])
.ret))))))))
abbrev QW:RsT:=[(4,some (some 11))]
theorem R0:SpF 40 HN OX QW:=SpI Tryz.func34 (by kernel_rfl)
theorem IQ:ak Tryz.prog HN = true:=by kernel_rfl
abbrev HQ:FuncId:=35
def Ow:AC:=
(.seq (.reg [oP 1 (.pbox 11 (.t 0)),
oP 2 (.mv (.c (.bool false)))] [1])
(.seq (.reg [oP 7 (.load (some 11) (.t 1)),
oP 8 (.call (.f 15) [true] [(.t 7)]),
mV 6 8,
oP 9 (.extract (.t 6) 0),
oP 10 (.extract (.t 6) 1),
oP 11 (.extract (.t 6) 2),
mV 3 9,
mV 4 10,
mV 5 11] [5])
(.seq (.reg [mV 12 5,
oP 13 (.bin .eql (.t 12) (cI 0)),
mV 2 13] [2])
.ret)))
abbrev Ru:RsT:=[(2,none)]
theorem PU:SpF 14 HQ Ow Ru:=SpI Tryz.func35 (by kernel_rfl)
theorem ra:ak Tryz.prog HQ = true:=by kernel_rfl
abbrev Fa:FuncId:=37
def OJ:AC:=
(.seq (.reg [oP 4 (.mv (.c (.bool false)))] [0,1])
(.seq (.seq (.reg [oP 5 (.mv (cI 0))] [0,1,5])
(.block 0
(.loop [0,1,5]
(.seq (.seq (.reg [mV 6 5,
mV 7 0,
oP 8 (.len (.t 7)),
oP 9 (.bin .lss (.t 6) (.t 8))] [0,1,5,9])
(.cond (.t 9)
.skip
(.exit 0)))
(.seq (.block 1
(.seq (.reg [mV 12 0,
mV 13 5,
oP 14 (.ixS 1 (.t 12) (.t 13)),
oP 15 (.load none (.t 14)),
mV 16 1,
oP 17 (.bin .eql (.t 15) (.t 16))] [0,1,5,17])
(.cond (.t 17)
(.seq (.reg [oP 4 (.mv (.c (.bool true)))] [4])
.ret)
.skip)))
(.reg [mV 10 5,
oP 11 (.bin .add (.t 10) (cI 1)),
mV 5 11] [0,1,5]))))))
(.seq (.reg [oP 4 (.mv (.c (.bool false)))] [4])
.ret)))
abbrev QE:RsT:=[(4,none)]
theorem Qi:SpF 18 Fa OJ QE:=SpI Tryz.func37 (by kernel_rfl)
theorem jc:ak Tryz.prog Fa = true:=by kernel_rfl
abbrev HD:FuncId:=39
def Mx:AC:=
(.seq (.reg [oP 3 (.pbox 11 (.t 0)),
oP 6 (.mv (.c (.slice 1 [])))] [1,2,3])
(.seq (.reg [oP 13 (.load (some 11) (.t 3)),
oP 14 (.call (.f 57) [true] [(.t 13)]),
oP 7 (.alloc [.int .i64 0, .slice 1 []]),
oN (.store 2 (.t 7) (.t 14))] [1,2,7])
(.frz 7 true (.seq (.reg [oP 15 (.fieldAddr none 0 (.t 7)),
oP 16 (.load none (.t 15)),
oP 17 (.call (.f 68) [false] [(.t 16)]),
oP 18 (.bin .sub (.t 17) (cI 1)),
mV 8 18] [1,2,7,8])
(.seq (.reg [oP 9 (.nilS 1 1)] [1,2,7,8,9])
(.seq (.block 0
(.loop [1,2,7,8,9]
(.seq (.seq (.reg [mV 19 9,
oP 20 (.len (.t 19)),
mV 21 2,
oP 22 (.bin .lss (.t 20) (.t 21))] [1,2,7,8,9,22])
(.cond (.t 22)
.skip
(.exit 0)))
(.block 1
(.seq (.reg [oP 10 (.nilS 1 1)] [1,2,7,8,9,10])
(.seq (.seq (.reg [oP 11 (.mv (cI 0))] [1,2,7,8,9,10,11])
(.block 2
(.loop [1,2,7,8,9,10,11]
(.seq (.seq (.reg [mV 23 11,
oP 24 (.fieldAddr none 0 (.t 7)),
oP 25 (.load none (.t 24)),
oP 26 (.bin .lss (.t 23) (.t 25))] [1,2,7,8,9,10,11,26])
(.cond (.t 26)
.skip
(.exit 2)))
(.seq (.block 3
(.seq (.reg [oP 29 (.fieldAddr none 1 (.t 7)),
oP 30 (.load none (.t 29)),
mV 31 8,
oP 32 (.ixS 1 (.t 30) (.t 31)),
oP 33 (.load none (.t 32)),
mV 34 11,
oP 35 (.ixS 1 (.t 33) (.t 34)),
oP 36 (.load none (.t 35)),
oP 37 (.bin .eql (.t 36) (cI 0))] [1,2,7,8,9,10,11,37])
(.cond (.t 37)
(.reg [mV 38 10,
mV 39 11,
oP 40 (.lit 0 1 1 [(0,(.t 39))]),
oP 41 (.append 1 8 (.t 38) (.t 40)),
mV 10 41] [1,2,7,8,9,10,11])
.skip)))
(.reg [mV 27 11,
oP 28 (.bin .add (.t 27) (cI 1)),
mV 11 28] [1,2,7,8,9,10,11]))))))
(.seq (.seq (.reg [mV 42 10,
oP 43 (.len (.t 42)),
oP 44 (.bin .eql (.t 43) (cI 0))] [1,2,7,8,9,10,44])
(.cond (.t 44)
(.exit 0)
.skip))
(.seq (.reg [mV 45 10,
mV 46 1,
mV 47 9,
oP 48 (.len (.t 47)),
oP 49 (.call (.f 40) [true,false] [(.t 46),(.t 48)]),
mV 50 10,
oP 51 (.len (.t 50)),
oP 52 (.bin .rem (.t 49) (.t 51)),
oP 53 (.ixS 1 (.t 45) (.t 52)),
oP 54 (.load none (.t 53)),
mV 12 54] [1,2,7,8,9,12])
(.seq (.reg [mV 55 9,
mV 56 12,
oP 57 (.lit 0 1 1 [(0,(.t 56))]),
oP 58 (.append 1 8 (.t 55) (.t 57)),
mV 9 58] [1,2,7,8,9,12])
(.reg [mV 59 8,
mV 60 12,
oP 61 (.call (.f 68) [false] [(.t 60)]),
oP 62 (.bin .sub (.t 59) (.t 61)),
mV 8 62] [1,2,7,8,9]))))))))))
(.seq (.reg [mV 63 9,
oP 6 (.mvd (.t 63))] [6])
.ret)))))))
abbrev P5:RsT:=[(6,none)]
theorem Ql:SpF 64 HD Mx P5:=SpI Tryz.func39 (by kernel_rfl)
theorem BI:ak Tryz.prog HD = true:=by kernel_rfl
abbrev H2:FuncId:=40
def HI:AC:=
(.seq (.reg [oP 4 (.mv (cI 0))] [0,1])
(.seq (.seq (.reg [mV 5 0,
oP 6 (.len (.t 5)),
oP 7 (.bin .eql (.t 6) (cI 0))] [0,1,7])
(.cond (.t 7)
(.seq (.reg [oP 4 (.mv (cI 0))] [4])
.ret)
.skip))
(.seq (.reg [mV 8 0,
mV 9 1,
mV 10 0,
oP 11 (.len (.t 10)),
oP 12 (.bin .rem (.t 9) (.t 11)),
oP 13 (.ixS 1 (.t 8) (.t 12)),
oP 14 (.load none (.t 13)),
oP 15 (.conv .i64 (.t 14)),
mV 4 15] [4])
.ret)))
abbrev QY:RsT:=[(4,none)]
theorem RQ:SpF 16 H2 HI QY:=SpI Tryz.func40 (by kernel_rfl)
theorem IC:ak Tryz.prog H2 = true:=by kernel_rfl
abbrev HY:FuncId:=41
def L9:AC:=
(.seq (.reg [oP 2 (.pbox 11 (.t 0)),
oP 4 (.mv (cI 0))] [1,2])
(.seq (.reg [oP 10 (.load (some 11) (.t 2)),
oP 11 (.call (.f 15) [true] [(.t 10)]),
mV 9 11,
oP 12 (.extract (.t 9) 0),
oP 13 (.extract (.t 9) 1),
oP 14 (.extract (.t 9) 2),
mV 5 12,
mV 6 13,
mV 7 14] [1,2,7])
(.seq (.seq (.reg [oP 8 (.mv (cI 0))] [1,2,7,8])
(.block 0
(.loop [1,2,7,8]
(.seq (.seq (.reg [mV 15 8,
mV 16 1,
oP 17 (.len (.t 16)),
oP 18 (.bin .lss (.t 15) (.t 17)),
mV 19 18,
gT 20 19 (.mv (.t 7)),
gT 21 19 (.bin .eql (.t 20) (cI 0)),
oP 22 (.pick (.t 19) (.t 21) (.c (.bool false)))] [1,2,7,8,22])
(.cond (.t 22)
.skip
(.exit 0)))
(.seq (.block 1
(.seq (.dreg [mV 25 1,
mV 26 8,
oP 27 (.ixS 1 (.t 25) (.t 26)),
oP 28 (.load none (.t 27)),
oP 29 (.fieldAddr (some 1) 0 (.t 2)),
oP 30 (.fieldAddr none 0 (.t 29)),
oP 31 (.load none (.t 30)),
oP 32 (.len (.t 31)),
oP 33 (.call (.f 54) [false,false] [(.t 28),(.t 32)]),
oP 34 (.un .not (.t 33))] [1,2,7,8,34] [[],[],[0,1],[0,1,2],[],[4],[4,5],[4,5,6],[0,1,2,3,4,5,6,7],[0,1,2,3,4,5,6,7,8]])
(.cond (.t 34)
(.reg [oP 7 (.mv (cI 4))] [1,2,7,8])
.skip)))
(.reg [mV 23 8,
oP 24 (.bin .add (.t 23) (cI 1)),
mV 8 24] [1,2,7,8]))))))
(.seq (.reg [mV 35 7,
mV 4 35] [4])
.ret))))
abbrev SJ:RsT:=[(4,none)]
theorem QX:SpF 36 HY L9 SJ:=SpI Tryz.func41 (by kernel_rfl)
theorem Kh:ak Tryz.prog HY = true:=by kernel_rfl
abbrev v5:FuncId:=43
def EY:AC:=
(.seq (.reg [mV 6 3,
oP 7 (.isnil true (.t 6))] [0,1,2,3,7])
(.cond (.t 7)
(.seq (.reg [mV 8 3,
oP 9 (.assert 81 (.t 8)),
oP 4 (.alloc [.int .i64 0, .int .i64 0, .int .i64 0]),
oN (.store 3 (.t 4) (.t 9))] [0,1,2,4])
(.frz 4 true (.dreg [oP 10 (.fieldAddr none 0 (.t 4)),
oP 11 (.load none (.t 10)),
oP 12 (.fieldAddr none 1 (.t 4)),
oP 13 (.load none (.t 12)),
oP 14 (.fieldAddr none 2 (.t 4)),
oP 15 (.load none (.t 14)),
oN (.store 1 (.t 0) (.t 11)),
oN (.store 1 (.t 1) (.t 13)),
oN (.store 1 (.t 2) (.t 15))] [] [[],[0],[],[2],[],[4],[0,1],[0,1,2,3,6],[0,1,2,3,4,5,6,7]])))
.skip))
theorem sh:AK Tryz.prog Tryz.f43 16 5 3 EY = true:=by kernel_rfl
theorem LP {args:List ab} {σ:af} {m:PM} {Q:PM → af → Prop} (ha:args.length ≤ 16) (h:AW Tryz.prog 16 none EY (v7 (Q m.after)) { v:=(3,m.val) :: (5, .undef) :: cZ args 0,ds:=[] } σ):gV Tryz.prog v5 args σ m Q:=gV.yf Tryz.func43 sh ha h
theorem J4:ak Tryz.prog v5 = true:=by kernel_rfl
abbrev IB:FuncId:=44
def Pa:AC:=
(.seq (.reg [oP 1 (.pbox 2 (.t 0)),
oP 2 (.mv (cI 0)),
oP 3 (.mv (cI 0)),
oP 4 (.mv (cI 0))] [1])
(.seq (.reg [oP 6 (.load (some 2) (.t 1)),
oP 7 (.call (.f 88) [true,false] [(.t 6),(cI 0)]),
mV 5 7,
oP 8 (.extract (.t 5) 0),
oP 9 (.extract (.t 5) 1),
oP 10 (.extract (.t 5) 2),
oP 11 (.extract (.t 5) 3),
mV 2 9,
mV 3 10,
mV 4 11] [2,3,4])
(.seq (.reg [mV 12 2,
mV 13 3,
mV 14 4,
mV 2 12,
mV 3 13,
mV 4 14] [2,3,4])
.ret)))
abbrev QJ:RsT:=[(2,none),(3,none),(4,none)]
theorem PC:SpF 15 IB Pa QJ:=SpI Tryz.func44 (by kernel_rfl)
theorem Qp:ak Tryz.prog IB = true:=by kernel_rfl
abbrev IJ:FuncId:=45
def I4:AC:=
(.seq (.reg [mV 6 2,
oP 7 (.bin .neq (.t 6) (cI 0))] [0,1,2,7])
(.cond (.t 7)
(.reg [mV 8 0,
mV 9 1,
mV 10 2,
oP 11 (.build [.int .i64 0, .int .i64 0, .int .i64 0] [(0,1,(.t 8)),(1,1,(.t 9)),(2,1,(.t 10))]),
oP 12 (.mkiface 81 (.t 11)),
oN (.panic (.t 12))] [])
.skip))
abbrev Qx:RsT:=[]
theorem R8:SpF 13 IJ I4 Qx:=SpI Tryz.func45 (by kernel_rfl)
theorem pI:ak Tryz.prog IJ = true:=by kernel_rfl
abbrev Fm:FuncId:=46
def KY:AC:=
(.seq (.reg [oP 1 (.pbox 3 (.t 0)),
oP 2 (.mv (cI 0)),
oP 3 (.mv (cI 0)),
oP 4 (.mv (cI 0))] [1])
(.seq (.block 0
(.seq (.reg [oP 8 (.fieldAddr none 0 (.t 1)),
oP 9 (.load none (.t 8)),
oP 10 (.len (.t 9)),
oP 11 (.lit 0 1 1 [(0,(.t 10))]),
oP 12 (.call (.f 89) [false,false,true] [(cI 1),(cI 10),(.t 11)]),
mV 7 12] [1,7])
(.cond (.t 7)
(.seq (.reg [oP 2 (.mv (cI 1)),
oP 3 (.mv (cI 0)),
oP 4 (.mv (cI 3))] [2,3,4])
.ret)
(.seq (.reg [oP 14 (.fieldAddr none 1 (.t 1)),
oP 15 (.load none (.t 14)),
oP 16 (.fieldAddr none 2 (.t 1)),
oP 17 (.load none (.t 16)),
oP 18 (.lit 0 1 2 [(0,(.t 15)),(1,(.t 17))]),
oP 19 (.call (.f 89) [false,false,true] [(cI 0),(cI 5000),(.t 18)]),
mV 13 19] [1,13])
(.cond (.t 13)
(.seq (.reg [oP 2 (.mv (cI 1)),
oP 3 (.mv (cI 0)),
oP 4 (.mv (cI 7))] [2,3,4])
.ret)
(.seq (.reg [oP 21 (.fieldAddr none 1 (.t 1)),
oP 22 (.load none (.t 21)),
oP 23 (.fieldAddr none 2 (.t 1)),
oP 24 (.load none (.t 23)),
oP 25 (.bin .geq (.t 22) (.t 24)),
mV 20 25] [1,20])
(.cond (.t 20)
(.seq (.reg [oP 2 (.mv (cI 1)),
oP 3 (.mv (cI 0)),
oP 4 (.mv (cI 2))] [2,3,4])
.ret)
.skip)))))))
(.seq (.seq (.reg [oP 26 (.fieldAddr none 0 (.t 1)),
oP 27 (.load none (.t 26)),
oP 28 (.len (.t 27)),
oP 29 (.mv (cI 0))] [1,27,28,29])
(.block 1
(.loop [1,27,28,29]
(.seq (.reg [oP 30 (.bin .lss (.t 29) (.t 28))] [1,27,28,29,30])
(.seq (.cond (.t 30)
.skip
(.exit 1))
(.seq (.block 2
(.seq (.reg [mV 31 29,
oP 32 (.ixS 7 (.t 27) (.t 29)),
oP 33 (.load (some 7) (.t 32)),
oP 6 (.alloc [.str ByteArray.empty, .int .i64 0, .int .i64 0, .int .i64 0, .int .i64 0, .int .i64 0, .int .i64 0]),
mV 5 31,
oN (.store 7 (.t 6) (.t 33))] [1,5,6,27,28,29])
(.frz 6 true (.seq (.block 3
(.seq (.reg [oP 35 (.fieldAddr none 0 (.t 6)),
oP 36 (.load none (.t 35)),
oP 37 (.call (.f 90) [false] [(.t 36)]),
oP 38 (.un .not (.t 37)),
mV 34 38] [1,5,6,27,28,29,34])
(.cond (.t 34)
(.seq (.reg [mV 39 5,
oP 2 (.mv (cI 2)),
mV 3 39,
oP 4 (.mv (cI 6))] [2,3,4])
.ret)
(.seq (.reg [oP 41 (.fieldAddr none 0 (.t 1)),
oP 42 (.load none (.t 41)),
mV 43 5,
oP 44 (.subq 7 (.t 42) none (some (.t 43))),
oP 45 (.mkfunc (.func 92) [] [(.t 6)]),
oP 46 (.call (.f 91) [true,false] [(.t 44),(.t 45)]),
mV 40 46] [1,5,6,27,28,29,40])
(.cond (.t 40)
(.seq (.reg [mV 47 5,
oP 2 (.mv (cI 2)),
mV 3 47,
oP 4 (.mv (cI 5))] [2,3,4])
.ret)
.skip)))))
(.seq (.reg [oP 48 (.load (some 7) (.t 6)),
oP 49 (.call (.f 93) [false] [(.t 48)]),
mV 4 49] [1,4,5,27,28,29])
(.seq (.reg [mV 50 4,
oP 51 (.bin .neq (.t 50) (cI 0))] [1,4,5,27,28,29,51])
(.cond (.t 51)
(.seq (.reg [mV 52 5,
mV 53 4,
oP 2 (.mv (cI 2)),
mV 3 52,
mV 4 53] [2,3,4])
.ret)
.skip)))))))
(.reg [oP 54 (.bin .add (.t 29) (cI 1)),
mV 29 54] [1,27,28,29])))))))
(.seq (.reg [oP 2 (.mv (cI 0)),
oP 3 (.mv (cI 0)),
oP 4 (.mv (cI 0))] [2,3,4])
.ret))))
abbrev P7:RsT:=[(2,none),(3,none),(4,none)]
theorem Q5:SpF 55 Fm KY P7:=SpI Tryz.func46 (by kernel_rfl)
theorem MG:ak Tryz.prog Fm = true:=by kernel_rfl
abbrev II:FuncId:=47
def LL:AC:=
(.seq (.reg [oP 2 (.pbox 3 (.t 0)),
oP 3 (.pbox 2 (.t 1)),
oP 4 (.mv (cI 0)),
oP 5 (.mv (cI 0)),
oP 6 (.mv (cI 0))] [2,3])
(.seq (.seq (.reg [oP 8 (.load (some 3) (.t 2)),
oP 9 (.call (.f 46) [true] [(.t 8)]),
mV 7 9,
oP 10 (.extract (.t 7) 0),
oP 11 (.extract (.t 7) 1),
oP 12 (.extract (.t 7) 2),
mV 6 12] [2,3,6])
(.seq (.reg [mV 13 6,
oP 14 (.bin .eql (.t 13) (cI 0))] [2,3,6,14])
(.cond (.t 14)
(.reg [oP 15 (.load (some 2) (.t 3)),
oP 16 (.call (.f 94) [false] [(.t 15)]),
mV 6 16] [2,3,6])
.skip)))
(.seq (.seq (.reg [mV 17 6,
oP 18 (.bin .neq (.t 17) (cI 0))] [2,3,6,18])
(.cond (.t 18)
(.seq (.reg [mV 19 6,
oP 4 (.mv (cI 0)),
oP 5 (.mv (cI 0)),
mV 6 19] [4,5,6])
.ret)
.skip))
(.seq (.reg [oP 21 (.load (some 3) (.t 2)),
oP 22 (.build [.slice 7 [], .int .i64 0, .int .i64 0] [(0,3,(.t 21))]),
oP 23 (.load (some 2) (.t 3)),
oP 24 (.call (.f 95) [true,false] [(.t 22),(.t 23)]),
mV 20 24,
oP 25 (.extract (.t 20) 0),
oP 26 (.extract (.t 20) 1),
mV 4 25,
mV 5 26] [4,5])
(.seq (.reg [mV 27 4,
mV 28 5,
mV 4 27,
mV 5 28,
oP 6 (.mv (cI 0))] [4,5,6])
.ret)))))
abbrev RL:RsT:=[(4,none),(5,none),(6,none)]
theorem Rl:SpF 29 II LL RL:=SpI Tryz.func47 (by kernel_rfl)
theorem NS:ak Tryz.prog II = true:=by kernel_rfl
abbrev EP:FuncId:=48
def Ld:AC:=
(.seq (.reg [oP 3 (.pbox 2 (.t 0)),
oP 6 (.alloc [.slice 1 [], .slice 1 []]),
oP 7 (.mv (cI 0))] [1,2,3,6])
(.seq (.reg [oP 16 (.load (some 2) (.t 3)),
mV 17 1,
oP 18 (.call (.f 96) [true,true,true,false] [(.t 16),(.t 17),(.c (.slice 1 [])),(.c (.bool false))]),
mV 15 18,
oP 19 (.extract (.t 15) 0),
oP 20 (.extract (.t 15) 1),
mV 8 19,
mV 9 20] [2,6,8,9])
(.seq (.block 0
(.seq (.reg [mV 22 9,
oP 23 (.bin .neq (.t 22) (cI 0)),
mV 21 23] [2,6,8,9,21])
(.cond (.t 21)
(.seq (.reg [oP 24 (.build [.slice 1 [], .slice 1 []] []),
mV 25 9,
oN (.store 2 (.t 6) (.t 24)),
mV 7 25] [6,7])
.ret)
(.seq (.reg [mV 27 2,
oP 28 (.len (.t 27)),
oP 29 (.bin .gtr (.t 28) (cI 60)),
mV 26 29] [2,6,8,26])
(.cond (.t 26)
(.seq (.reg [oP 30 (.build [.slice 1 [], .slice 1 []] []),
oN (.store 2 (.t 6) (.t 30)),
oP 7 (.mv (cI 3))] [6,7])
.ret)
.skip)))))
(.seq (.reg [oP 10 (.alloc [.int .u64 0, .int .u64 0])] [2,6,8,10])
(.seq (.seq (.reg [mV 31 2,
oP 32 (.len (.t 31)),
oP 33 (.mv (cI 0))] [6,8,10,31,32,33])
(.block 1
(.loop [6,8,10,31,32,33]
(.seq (.reg [oP 34 (.bin .lss (.t 33) (.t 32))] [6,8,10,31,32,33,34])
(.seq (.cond (.t 34)
.skip
(.exit 1))
(.seq (.block 2
(.seq (.reg [oP 35 (.ixS 2 (.t 31) (.t 33)),
oP 36 (.load (some 2) (.t 35)),
oP 12 (.alloc [.int .i64 0, .bool false]),
oN (.store 2 (.t 12) (.t 36))] [6,8,10,12,31,32,33])
(.frz 12 true (.seq (.seq (.dreg [mV 37 8,
oP 38 (.nilchk (.t 37)),
oP 39 (.fieldAddr (some 2) 0 (.t 38)),
oP 40 (.fieldAddr none 0 (.t 39)),
oP 41 (.load none (.t 40)),
oP 42 (.len (.t 41)),
oP 43 (.fieldAddr none 0 (.t 12)),
oP 44 (.load none (.t 43)),
oP 45 (.lit 0 1 1 [(0,(.t 44))]),
oP 46 (.call (.f 97) [false,true] [(.t 42),(.t 45)])] [6,8,10,12,31,32,33,46] [[],[0],[0,1],[0,1,2],[0,1,2,3],[0,1,2,3,4],[],[6],[6,7],[0,1,2,3,4,5,6,7,8]])
(.cond (.t 46)
(.seq (.reg [oP 47 (.build [.slice 1 [], .slice 1 []] []),
oN (.store 2 (.t 6) (.t 47)),
oP 7 (.mv (cI 4))] [6,7])
.ret)
.skip))
(.seq (.reg [mV 49 8,
oP 50 (.load (some 2) (.t 10)),
oP 51 (.load (some 2) (.t 12)),
oP 52 (.call (.f 98) [false,false,false] [(.t 49),(.t 50),(.t 51)]),
mV 48 52,
oP 53 (.extract (.t 48) 0),
oP 54 (.extract (.t 48) 1),
oP 13 (.alloc [.int .u64 0, .int .u64 0]),
oN (.store 2 (.t 13) (.t 53)),
mV 14 54] [6,8,10,13,14,31,32,33])
(.frz 13 true (.seq (.seq (.reg [mV 55 14,
oP 56 (.un .not (.t 55))] [6,8,10,13,31,32,33,56])
(.cond (.t 56)
(.seq (.reg [oP 57 (.build [.slice 1 [], .slice 1 []] []),
oN (.store 2 (.t 6) (.t 57)),
oP 7 (.mv (cI 2))] [6,7])
.ret)
.skip))
(.reg [oP 58 (.load (some 2) (.t 13)),
oN (.store 2 (.t 10) (.t 58))] [6,8,10,31,32,33]))))))))
(.reg [oP 59 (.bin .add (.t 33) (cI 1)),
mV 33 59] [6,8,10,31,32,33])))))))
(.seq (.dreg [oP 60 (.fieldAddr none 0 (.t 10)),
oP 61 (.load none (.t 60)),
oP 62 (.call (.f 99) [false] [(.t 61)]),
oP 63 (.fieldAddr none 1 (.t 10)),
oP 64 (.load none (.t 63)),
oP 65 (.call (.f 99) [false] [(.t 64)]),
oP 66 (.build [.slice 1 [], .slice 1 []] [(0,1,(.t 62)),(1,1,(.t 65))]),
oN (.store 2 (.t 6) (.t 66)),
oP 7 (.mv (cI 0))] [6,7] [[],[0],[0,1],[],[3],[0,1,2,3,4],[0,1,2,3,4,5],[0,1,2,3,4,5,6],[0,1,2,3,4,5,6,7]])
.ret))))))
abbrev RW:RsT:=[(6,some (some 2)),(7,none)]
theorem R1:SpF 67 EP Ld RW:=SpI Tryz.func48 (by kernel_rfl)
theorem JC:ak Tryz.prog EP = true:=by kernel_rfl
abbrev Hp:FuncId:=49
def J3:AC:=
(.seq (.reg [oP 2 (.pbox 1 (.t 0)),
oP 4 (.mv (.c (.bool false)))] [1,2])
(.seq (.reg [mV 5 1,
oP 6 (.mkfunc (.func 101) [] [(.t 2)]),
oP 7 (.call (.f 100) [true,false] [(.t 5),(.t 6)]),
mV 4 7] [4])
.ret))
abbrev QO:RsT:=[(4,none)]
theorem Sv:SpF 8 Hp J3 QO:=SpI Tryz.func49 (by kernel_rfl)
theorem Bx:ak Tryz.prog Hp = true:=by kernel_rfl
abbrev IG:FuncId:=50
def Jq:AC:=
(.seq (.reg [oP 1 (.pbox 2 (.t 0)),
oP 2 (.mv (cI 0)),
oP 3 (.mv (cI 0)),
oP 4 (.mv (cI 0))] [1])
(.seq (.reg [oP 13 (.fieldAddr (some 1) 0 (.t 1)),
oP 14 (.fieldAddr none 0 (.t 13)),
oP 15 (.load none (.t 14)),
mV 5 15] [1,5])
(.seq (.seq (.reg [mV 16 5,
oP 17 (.len (.t 16)),
oP 18 (.bin .gtr (.t 17) (cI 12))] [1,5,18])
(.cond (.t 18)
(.seq (.reg [oP 2 (.mv (cI 1)),
oP 3 (.mv (cI 0)),
oP 4 (.mv (cI 3))] [2,3,4])
.ret)
.skip))
(.seq (.seq (.reg [oP 6 (.mv (cI 0))] [1,5,6])
(.block 0
(.loop [1,5,6]
(.seq (.seq (.reg [mV 19 6,
mV 20 5,
oP 21 (.len (.t 20)),
oP 22 (.bin .lss (.t 19) (.t 21))] [1,5,6,22])
(.cond (.t 22)
.skip
(.exit 0)))
(.seq (.block 1
(.seq (.dreg [mV 25 5,
mV 26 6,
oP 27 (.ixS 7 (.t 25) (.t 26)),
oP 28 (.load (some 7) (.t 27)),
mV 29 5,
mV 30 6,
oP 31 (.subq 7 (.t 29) none (some (.t 30))),
mV 32 5,
mV 33 6,
oP 34 (.subq 7 (.t 32) none (some (.t 33))),
oP 35 (.call (.f 102) [true,true,true] [(.t 28),(.t 31),(.t 34)]),
mV 7 35] [1,5,6,7] [[],[],[0,1],[0,1,2],[],[],[4,5],[],[],[7,8],[0,1,2,3,4,5,6,7,8,9],[0,1,2,3,4,5,6,7,8,9,10]])
(.seq (.reg [mV 36 7,
oP 37 (.bin .neq (.t 36) (cI 0))] [1,5,6,7,37])
(.cond (.t 37)
(.seq (.reg [mV 38 6,
mV 39 7,
oP 2 (.mv (cI 1)),
mV 3 38,
mV 4 39] [2,3,4])
.ret)
.skip))))
(.reg [mV 23 6,
oP 24 (.bin .add (.t 23) (cI 1)),
mV 6 24] [1,5,6]))))))
(.seq (.seq (.reg [oP 40 (.fieldAddr none 1 (.t 1)),
oP 41 (.load none (.t 40)),
oP 42 (.len (.t 41)),
oP 43 (.bin .gtr (.t 42) (cI 8))] [1,5,43])
(.cond (.t 43)
(.seq (.reg [oP 2 (.mv (cI 2)),
oP 3 (.mv (cI 0)),
oP 4 (.mv (cI 3))] [2,3,4])
.ret)
.skip))
(.seq (.reg [oP 8 (.mv (cI 0))] [1,5,8])
(.seq (.seq (.reg [oP 9 (.mv (cI 0))] [1,5,8,9])
(.block 2
(.loop [1,5,8,9]
(.seq (.seq (.reg [mV 44 9,
oP 45 (.fieldAddr none 1 (.t 1)),
oP 46 (.load none (.t 45)),
oP 47 (.len (.t 46)),
oP 48 (.bin .lss (.t 44) (.t 47))] [1,5,8,9,48])
(.cond (.t 48)
.skip
(.exit 2)))
(.seq (.block 3
(.seq (.reg [oP 51 (.fieldAddr none 1 (.t 1)),
oP 52 (.load none (.t 51)),
mV 53 9,
oP 54 (.ixS 10 (.t 52) (.t 53)),
oP 55 (.load (some 10) (.t 54)),
oP 10 (.alloc [.int .i64 0, .int .i64 0, .str ByteArray.empty, .str ByteArray.empty, .int .i64 0, .int .i64 0, .int .i64 0, .slice 1 [], .int .i64 0, .int .i64 0]),
oN (.store 10 (.t 10) (.t 55))] [1,5,8,9,10])
(.frz 10 true (.seq (.seq (.reg [oP 56 (.fieldAddr none 1 (.t 10)),
oP 57 (.load none (.t 56)),
mV 58 8,
oP 59 (.call (.f 103) [false,false,false] [(.t 57),(.t 58),(cI 40000)]),
oP 60 (.un .not (.t 59))] [1,5,9,10,60])
(.cond (.t 60)
(.seq (.reg [mV 61 9,
oP 2 (.mv (cI 2)),
mV 3 61,
oP 4 (.mv (cI 7))] [2,3,4])
.ret)
.skip))
(.seq (.seq (.reg [oP 62 (.load (some 10) (.t 10)),
oP 63 (.call (.f 104) [true] [(.t 62)]),
oP 64 (.un .not (.t 63))] [1,5,9,10,64])
(.cond (.t 64)
(.seq (.reg [mV 65 9,
oP 2 (.mv (cI 2)),
mV 3 65,
oP 4 (.mv (cI 6))] [2,3,4])
.ret)
.skip))
(.seq (.reg [mV 67 5,
oP 68 (.load (some 10) (.t 10)),
oP 69 (.call (.f 105) [true,true] [(.t 67),(.t 68)]),
mV 66 69,
oP 70 (.extract (.t 66) 0),
oP 71 (.extract (.t 66) 1),
mV 11 70,
mV 12 71] [1,9,10,11,12])
(.seq (.seq (.reg [mV 72 12,
oP 73 (.bin .neq (.t 72) (cI 0))] [1,9,10,11,12,73])
(.cond (.t 73)
(.seq (.reg [mV 74 9,
mV 75 12,
oP 2 (.mv (cI 2)),
mV 3 74,
mV 4 75] [2,3,4])
.ret)
.skip))
(.dreg [mV 76 11,
oP 77 (.fieldAddr none 1 (.t 10)),
oP 78 (.load none (.t 77)),
mV 5 76,
mV 8 78] [1,5,8,9] [[],[],[1],[0],[0,1,2,3]]))))))))
(.reg [mV 49 9,
oP 50 (.bin .add (.t 49) (cI 1)),
mV 9 50] [1,5,8,9]))))))
(.seq (.reg [oP 2 (.mv (cI 0)),
oP 3 (.mv (cI 0)),
oP 4 (.mv (cI 0))] [2,3,4])
.ret))))))))
abbrev RD:RsT:=[(2,none),(3,none),(4,none)]
theorem Q4:SpF 79 IG Jq RD:=SpI Tryz.func50 (by kernel_rfl)
theorem Rf:ak Tryz.prog IG = true:=by kernel_rfl
abbrev Im:FuncId:=51
def Lo:AC:=
(.seq (.reg [oP 1 (.pbox 3 (.t 0)),
oP 2 (.mv (cI 0)),
oP 3 (.mv (cI 0)),
oP 4 (.mv (cI 0))] [1])
(.seq (.seq (.reg [oP 8 (.fieldAddr none 0 (.t 1)),
oP 9 (.load none (.t 8)),
oP 10 (.len (.t 9)),
oP 11 (.call (.f 106) [false,false,false] [(.t 10),(cI 1),(cI 10)]),
oP 12 (.un .not (.t 11))] [1,12])
(.cond (.t 12)
(.seq (.reg [oP 2 (.mv (cI 1)),
oP 3 (.mv (cI 0)),
oP 4 (.mv (cI 3))] [2,3,4])
.ret)
.skip))
(.seq (.seq (.reg [oP 13 (.fieldAddr none 1 (.t 1)),
oP 14 (.load none (.t 13)),
oP 15 (.call (.f 106) [false,false,false] [(.t 14),(cI 0),(cI 5000)]),
oP 16 (.un .not (.t 15)),
mV 17 16,
gF 18 17 (.fieldAddr none 2 (.t 1)),
gF 19 17 (.load none (.t 18)),
gF 20 17 (.call (.f 106) [false,false,false] [(.t 19),(cI 0),(cI 5000)]),
gF 21 17 (.un .not (.t 20)),
oP 22 (.pick (.t 17) (.c (.bool true)) (.t 21))] [1,22])
(.cond (.t 22)
(.seq (.reg [oP 2 (.mv (cI 1)),
oP 3 (.mv (cI 0)),
oP 4 (.mv (cI 7))] [2,3,4])
.ret)
.skip))
(.seq (.seq (.reg [oP 23 (.fieldAddr none 1 (.t 1)),
oP 24 (.load none (.t 23)),
oP 25 (.fieldAddr none 2 (.t 1)),
oP 26 (.load none (.t 25)),
oP 27 (.bin .geq (.t 24) (.t 26))] [1,27])
(.cond (.t 27)
(.seq (.reg [oP 2 (.mv (cI 1)),
oP 3 (.mv (cI 0)),
oP 4 (.mv (cI 2))] [2,3,4])
.ret)
.skip))
(.seq (.reg [oP 5 (.nilS 1 1)] [1,5])
(.seq (.seq (.reg [oP 6 (.mv (cI 0))] [1,5,6])
(.block 0
(.loop [1,5,6]
(.seq (.seq (.reg [mV 28 6,
oP 29 (.fieldAddr none 0 (.t 1)),
oP 30 (.load none (.t 29)),
oP 31 (.len (.t 30)),
oP 32 (.bin .lss (.t 28) (.t 31))] [1,5,6,32])
(.cond (.t 32)
.skip
(.exit 0)))
(.seq (.block 1
(.seq (.reg [oP 35 (.fieldAddr none 0 (.t 1)),
oP 36 (.load none (.t 35)),
mV 37 6,
oP 38 (.ixS 7 (.t 36) (.t 37)),
oP 39 (.fieldAddr none 0 (.t 38)),
oP 40 (.load none (.t 39)),
mV 41 5,
oP 42 (.call (.f 107) [false,true] [(.t 40),(.t 41)]),
mV 7 42] [1,5,6,7])
(.seq (.reg [mV 43 5,
oP 44 (.fieldAddr none 0 (.t 1)),
oP 45 (.load none (.t 44)),
mV 46 6,
oP 47 (.ixS 7 (.t 45) (.t 46)),
oP 48 (.fieldAddr none 0 (.t 47)),
oP 49 (.load none (.t 48)),
oP 50 (.lit 0 1 1 [(0,(.t 49))]),
oP 51 (.append 1 16 (.t 43) (.t 50)),
mV 5 51] [1,5,6,7])
(.seq (.seq (.reg [mV 52 7,
oP 53 (.bin .eql (.t 52) (cI 0))] [1,5,6,7,53])
(.cond (.t 53)
(.reg [oP 54 (.fieldAddr none 0 (.t 1)),
oP 55 (.load none (.t 54)),
mV 56 6,
oP 57 (.ixS 7 (.t 55) (.t 56)),
oP 58 (.load (some 7) (.t 57)),
oP 59 (.call (.f 108) [false] [(.t 58)]),
mV 7 59] [1,5,6,7])
.skip))
(.seq (.reg [mV 60 7,
oP 61 (.bin .neq (.t 60) (cI 0))] [1,5,6,7,61])
(.cond (.t 61)
(.seq (.reg [mV 62 6,
mV 63 7,
oP 2 (.mv (cI 2)),
mV 3 62,
mV 4 63] [2,3,4])
.ret)
.skip))))))
(.reg [mV 33 6,
oP 34 (.bin .add (.t 33) (cI 1)),
mV 6 34] [1,5,6]))))))
(.seq (.reg [oP 2 (.mv (cI 0)),
oP 3 (.mv (cI 0)),
oP 4 (.mv (cI 0))] [2,3,4])
.ret)))))))
abbrev Qb:RsT:=[(2,none),(3,none),(4,none)]
theorem SS:SpF 64 Im Lo Qb:=SpI Tryz.func51 (by kernel_rfl)
theorem Ni:ak Tryz.prog Im = true:=by kernel_rfl
abbrev Hu:FuncId:=52
def LB:AC:=
(.seq (.reg [oP 2 (.pbox 3 (.t 0)),
oP 3 (.pbox 2 (.t 1)),
oP 4 (.mv (cI 0)),
oP 5 (.mv (cI 0)),
oP 6 (.mv (cI 0))] [2,3])
(.seq (.reg [oP 13 (.load (some 3) (.t 2)),
oP 14 (.call (.f 51) [true] [(.t 13)]),
mV 12 14,
oP 15 (.extract (.t 12) 0),
oP 16 (.extract (.t 12) 1),
oP 17 (.extract (.t 12) 2),
mV 7 15,
mV 8 16,
mV 9 17] [2,3,9])
(.seq (.reg [mV 18 9,
oP 19 (.load (some 2) (.t 3)),
oP 20 (.call (.f 109) [false,false] [(.t 18),(.t 19)]),
mV 9 20] [2,3,9])
(.seq (.seq (.reg [mV 21 9,
oP 22 (.bin .neq (.t 21) (cI 0))] [2,3,9,22])
(.cond (.t 22)
(.seq (.reg [mV 23 9,
oP 4 (.mv (cI 0)),
oP 5 (.mv (cI 0)),
mV 6 23] [4,5,6])
.ret)
.skip))
(.seq (.reg [oP 25 (.load (some 3) (.t 2)),
oP 26 (.load (some 2) (.t 3)),
oP 27 (.call (.f 110) [true,false] [(.t 25),(.t 26)]),
mV 24 27,
oP 28 (.extract (.t 24) 0),
oP 29 (.extract (.t 24) 1),
mV 10 28,
mV 11 29] [10,11])
(.seq (.reg [mV 30 10,
mV 31 11,
mV 4 30,
mV 5 31,
oP 6 (.mv (cI 0))] [4,5,6])
.ret))))))
abbrev Q1:RsT:=[(4,none),(5,none),(6,none)]
theorem SE:SpF 32 Hu LB Q1:=SpI Tryz.func52 (by kernel_rfl)
theorem Nd:ak Tryz.prog Hu = true:=by kernel_rfl
abbrev Fl:FuncId:=53
def K3:AC:=
(.seq (.reg [oP 3 (.pbox 2 (.t 0)),
oP 6 (.alloc [.slice 1 [], .slice 1 []]),
oP 7 (.mv (cI 0))] [1,2,3,6])
(.seq (.reg [oP 13 (.load (some 2) (.t 3)),
mV 14 1,
oP 15 (.call (.f 111) [true,true] [(.t 13),(.t 14)]),
mV 8 15] [1,2,3,6,8])
(.seq (.seq (.reg [mV 16 8,
oP 17 (.bin .eql (.t 16) (cI 0)),
mV 18 17,
gT 19 18 (.mv (.t 2)),
gT 20 18 (.len (.t 19)),
gT 21 18 (.bin .gtr (.t 20) (cI 60)),
oP 22 (.pick (.t 18) (.t 21) (.c (.bool false)))] [1,2,3,6,8,22])
(.cond (.t 22)
(.reg [oP 8 (.mv (cI 3))] [1,2,3,6,8])
.skip))
(.seq (.reg [oP 9 (.alloc [.bool false, .bool false, .bool false, .bool false, .bool false, .bool false, .bool false, .bool false, .bool false, .bool false, .bool false, .bool false, .bool false, .bool false])] [1,2,3,6,8,9])
(.seq (.seq (.reg [oP 10 (.mv (cI 0))] [1,2,3,6,8,9,10])
(.block 0
(.loop [1,2,3,6,8,9,10]
(.seq (.seq (.reg [mV 23 10,
mV 24 2,
oP 25 (.len (.t 24)),
oP 26 (.bin .lss (.t 23) (.t 25)),
mV 27 26,
gT 28 27 (.mv (.t 8)),
gT 29 27 (.bin .eql (.t 28) (cI 0)),
oP 30 (.pick (.t 27) (.t 29) (.c (.bool false)))] [1,2,3,6,8,9,10,30])
(.cond (.t 30)
.skip
(.exit 0)))
(.seq (.block 1
(.seq (.seq (.dreg [mV 33 2,
mV 34 10,
oP 35 (.ixS 2 (.t 33) (.t 34)),
oP 36 (.fieldAddr none 0 (.t 35)),
oP 37 (.load none (.t 36)),
oP 38 (.fieldAddr none 0 (.t 3)),
oP 39 (.load none (.t 38)),
oP 40 (.len (.t 39)),
oP 41 (.call (.f 112) [false,false] [(.t 37),(.t 40)]),
oP 42 (.un .not (.t 41))] [1,2,3,6,8,9,10,42] [[],[],[0,1],[0,1,2],[0,1,2,3],[],[5],[5,6],[0,1,2,3,4,5,6,7],[0,1,2,3,4,5,6,7,8]])
(.cond (.t 42)
(.seq (.reg [oP 8 (.mv (cI 4))] [1,2,3,6,8,9,10])
(.exit 1))
.skip))
(.seq (.dreg [oP 44 (.load (some 2) (.t 3)),
mV 45 1,
oP 46 (.load (some 14) (.t 9)),
mV 47 2,
mV 48 10,
oP 49 (.ixS 2 (.t 47) (.t 48)),
oP 50 (.load (some 2) (.t 49)),
oP 51 (.call (.f 113) [true,true,false,false] [(.t 44),(.t 45),(.t 46),(.t 50)]),
mV 43 51,
oP 52 (.extract (.t 43) 0),
oP 53 (.extract (.t 43) 1),
oP 11 (.alloc [.bool false, .bool false, .bool false, .bool false, .bool false, .bool false, .bool false, .bool false, .bool false, .bool false, .bool false, .bool false, .bool false, .bool false]),
oN (.store 14 (.t 11) (.t 52)),
mV 12 53] [1,2,3,6,8,9,10,11,12] [[],[],[],[],[],[3,4],[3,4,5],[0,1,2,3,4,5,6],[0,1,2,3,4,5,6,7],[0,1,2,3,4,5,6,7,8],[0,1,2,3,4,5,6,7,8],[],[0,1,2,3,4,5,6,7,8,9,11],[0,1,2,3,4,5,6,7,8,9,10,11,12]])
(.seq (.seq (.reg [mV 54 12,
oP 55 (.un .not (.t 54))] [1,2,3,6,8,9,10,11,55])
(.cond (.t 55)
(.reg [oP 8 (.mv (cI 2))] [1,2,3,6,8,9,10,11])
.skip))
(.reg [oP 56 (.load (some 14) (.t 11)),
oN (.store 14 (.t 9) (.t 56))] [1,2,3,6,8,9,10])))))
(.reg [mV 31 10,
oP 32 (.bin .add (.t 31) (cI 1)),
mV 10 32] [1,2,3,6,8,9,10]))))))
(.seq (.seq (.reg [mV 57 8,
oP 58 (.bin .neq (.t 57) (cI 0))] [6,8,9,58])
(.cond (.t 58)
(.seq (.reg [oP 59 (.build [.slice 1 [], .slice 1 []] []),
mV 60 8,
oN (.store 2 (.t 6) (.t 59)),
mV 7 60] [6,7])
.ret)
.skip))
(.seq (.dreg [oP 61 (.fieldAddr (some 7) 0 (.t 9)),
oP 62 (.load (some 7) (.t 61)),
oP 63 (.call (.f 114) [false] [(.t 62)]),
oP 64 (.fieldAddr (some 7) 7 (.t 9)),
oP 65 (.load (some 7) (.t 64)),
oP 66 (.call (.f 114) [false] [(.t 65)]),
oP 67 (.build [.slice 1 [], .slice 1 []] [(0,1,(.t 63)),(1,1,(.t 66))]),
oN (.store 2 (.t 6) (.t 67)),
oP 7 (.mv (cI 0))] [6,7] [[],[0],[0,1],[],[3],[0,1,2,3,4],[0,1,2,3,4,5],[0,1,2,3,4,5,6],[0,1,2,3,4,5,6,7]])
.ret)))))))
abbrev Qy:RsT:=[(6,some (some 2)),(7,none)]
theorem Qz:SpF 68 Fl K3 Qy:=SpI Tryz.func53 (by kernel_rfl)
theorem Mz:ak Tryz.prog Fl = true:=by kernel_rfl
abbrev I3:FuncId:=54
def MV:AC:=
(.seq (.reg [oP 4 (.mv (.c (.bool false)))] [0,1])
(.seq (.reg [mV 5 0,
oP 6 (.bin .geq (.t 5) (cI 0)),
mV 7 6,
gT 8 7 (.mv (.t 0)),
gT 9 7 (.mv (.t 1)),
gT 10 7 (.bin .lss (.t 8) (.t 9)),
oP 11 (.pick (.t 7) (.t 10) (.c (.bool false))),
mV 4 11] [4])
.ret))
abbrev QM:RsT:=[(4,none)]
theorem Se:SpF 12 I3 MV QM:=SpI Tryz.func54 (by kernel_rfl)
theorem Md:ak Tryz.prog I3 = true:=by kernel_rfl
abbrev HF:FuncId:=55
def Lh:AC:=
(.seq (.reg [oP 2 (.pbox 11 (.t 0)),
oP 4 (.mv (.c .nilptr)),
oP 5 (.mv (cI 0))] [1,2])
(.seq (.reg [oP 9 (.load (some 11) (.t 2)),
oP 10 (.call (.f 69) [true] [(.t 9)]),
mV 8 10,
oP 11 (.extract (.t 8) 0),
oP 12 (.extract (.t 8) 1),
mV 6 11,
mV 7 12] [1,6,7])
(.seq (.seq (.reg [mV 13 7,
oP 14 (.bin .eql (.t 13) (cI 0)),
mV 15 14,
gT 16 15 (.mv (.t 6)),
gT 17 15 (.nilchk (.t 16)),
gT 18 15 (.fieldAddr none 11 (.t 17)),
gT 19 15 (.load none (.t 18)),
gT 20 15 (.len (.t 19)),
gT 21 15 (.mv (.t 1)),
gT 22 15 (.call (.f 49) [false,true] [(.t 20),(.t 21)]),
oP 23 (.pick (.t 15) (.t 22) (.c (.bool false)))] [6,7,23])
(.cond (.t 23)
(.reg [oP 7 (.mv (cI 4))] [6,7])
.skip))
(.seq (.reg [mV 24 6,
mV 25 7,
mV 4 24,
mV 5 25] [4,5])
.ret))))
abbrev Qq:RsT:=[(4,none),(5,none)]
theorem RU:SpF 26 HF Lh Qq:=SpI Tryz.func55 (by kernel_rfl)
theorem H7:ak Tryz.prog HF = true:=by kernel_rfl
abbrev HT:FuncId:=56
def LZ:AC:=
(.seq (.reg [oP 4 (.mv (cI 0)),
oP 5 (.mv (cI 0)),
oP 6 (.mv (cI 0))] [0,1])
(.seq (.reg [mV 10 0,
oP 11 (.call (.f 77) [false] [(.t 10)]),
mV 6 11] [0,1,6])
(.seq (.seq (.reg [mV 12 1,
oP 13 (.len (.t 12)),
oP 14 (.mv (cI 0))] [0,6,12,13,14])
(.block 0
(.loop [0,6,12,13,14]
(.seq (.reg [oP 15 (.bin .lss (.t 14) (.t 13))] [0,6,12,13,14,15])
(.seq (.cond (.t 15)
.skip
(.exit 0))
(.seq (.block 1
(.seq (.reg [mV 16 14,
oP 17 (.ixS 1 (.t 12) (.t 14)),
oP 18 (.load none (.t 17)),
mV 7 16,
mV 8 18] [0,6,7,8,12,13,14])
(.seq (.seq (.reg [mV 19 0,
mV 20 6,
mV 21 8,
oP 22 (.call (.f 73) [false,false,false] [(.t 19),(.t 20),(.t 21)]),
mV 9 22] [0,6,7,8,9,12,13,14])
(.seq (.reg [mV 23 9,
oP 24 (.bin .neq (.t 23) (cI 0))] [0,6,7,8,9,12,13,14,24])
(.cond (.t 24)
(.seq (.reg [mV 25 7,
mV 26 9,
mV 27 6,
mV 4 25,
mV 5 26,
mV 6 27] [4,5,6])
.ret)
.skip)))
(.reg [mV 28 6,
mV 29 8,
oP 30 (.bin .shl (cI 1) (.t 29)),
oP 31 (.bin .andNot (.t 28) (.t 30)),
mV 6 31] [0,6,12,13,14]))))
(.reg [oP 32 (.bin .add (.t 14) (cI 1)),
mV 14 32] [0,6,12,13,14])))))))
(.seq (.reg [mV 33 6,
oP 4 (.mv (cI (-1))),
oP 5 (.mv (cI 0)),
mV 6 33] [4,5,6])
.ret))))
abbrev Sm:RsT:=[(4,none),(5,none),(6,none)]
theorem RN:SpF 34 HT LZ Sm:=SpI Tryz.func56 (by kernel_rfl)
theorem Kg:ak Tryz.prog HT = true:=by kernel_rfl
abbrev Ie:FuncId:=57
def OW:AC:=
(.seq (.reg [oP 1 (.pbox 11 (.t 0)),
oP 2 (.alloc [.int .i64 0, .slice 1 []])] [1,2])
(.seq (.reg [oP 20 (.fieldAddr (some 1) 0 (.t 1)),
oP 21 (.fieldAddr none 0 (.t 20)),
oP 22 (.load none (.t 21)),
oP 23 (.len (.t 22)),
mV 3 23] [1,2,3])
(.seq (.reg [oP 24 (.lit 1 1 1 [(0,(.c (.bool true)))]),
mV 4 24] [1,2,3,4])
(.seq (.seq (.reg [oP 5 (.mv (cI 1))] [1,2,3,4,5])
(.block 0
(.loop [1,2,3,4,5]
(.seq (.seq (.reg [mV 25 5,
mV 26 3,
oP 27 (.call (.f 68) [false] [(.t 26)]),
oP 28 (.bin .lss (.t 25) (.t 27))] [1,2,3,4,5,28])
(.cond (.t 28)
.skip
(.exit 0)))
(.seq (.block 1
(.seq (.dreg [oP 32 (.load (some 11) (.t 1)),
mV 33 5,
oP 34 (.call (.f 115) [true,false] [(.t 32),(.t 33)]),
oP 35 (.fieldAddr (some 2) 4 (.t 1)),
oP 36 (.load (some 2) (.t 35)),
oP 37 (.call (.f 52) [true,false] [(.t 34),(.t 36)]),
mV 31 37,
oP 38 (.extract (.t 31) 0),
oP 39 (.extract (.t 31) 1),
oP 40 (.extract (.t 31) 2),
mV 6 38,
mV 7 39,
mV 8 40] [1,2,3,4,5,6] [[],[],[0,1],[],[3],[0,1,2,3,4],[0,1,2,3,4,5],[0,1,2,3,4,5,6],[0,1,2,3,4,5,6],[0,1,2,3,4,5,6],[0,1,2,3,4,5,6,7],[0,1,2,3,4,5,6,7,8,10],[0,1,2,3,4,5,6,7,8,9,10,11]])
(.reg [mV 41 4,
mV 42 6,
oP 43 (.bin .eql (.t 42) (cI 0)),
oP 44 (.lit 0 1 1 [(0,(.t 43))]),
oP 45 (.append 1 1 (.t 41) (.t 44)),
mV 4 45] [1,2,3,4,5])))
(.reg [mV 29 5,
oP 30 (.bin .add (.t 29) (cI 1)),
mV 5 30] [1,2,3,4,5]))))))
(.seq (.reg [oP 47 (.fieldAddr (some 2) 6 (.t 1)),
oP 48 (.load (some 2) (.t 47)),
oP 49 (.fieldAddr none 8 (.t 1)),
oP 50 (.load none (.t 49)),
oP 51 (.fieldAddr none 9 (.t 1)),
oP 52 (.load none (.t 51)),
oP 53 (.call (.f 53) [true,true,true] [(.t 48),(.t 50),(.t 52)]),
mV 46 53,
oP 54 (.extract (.t 46) 0),
oP 55 (.extract (.t 46) 1),
oP 9 (.alloc [.slice 1 [], .slice 1 []]),
oN (.store 2 (.t 9) (.t 54)),
mV 10 55] [1,2,3,4,9])
(.frz 9 true (.seq (.reg [mV 56 3,
oP 57 (.buildm [.int .i64 0, .mint 1] [(0,1,(.t 56))]),
oP 11 (.alloc [.int .i64 0, .slice 1 []]),
oN (.store 2 (.t 11) (.t 57))] [1,2,3,4,9,11])
(.seq (.seq (.reg [oP 12 (.mv (cI 0))] [1,2,3,4,9,11,12])
(.block 2
(.loop [1,2,3,4,9,11,12]
(.seq (.seq (.reg [mV 58 12,
mV 59 3,
oP 60 (.call (.f 68) [false] [(.t 59)]),
oP 61 (.bin .lss (.t 58) (.t 60))] [1,2,3,4,9,11,12,61])
(.cond (.t 61)
.skip
(.exit 2)))
(.seq (.block 3
(.seq (.reg [oP 13 (.nilS 1 1)] [1,2,3,4,9,11,12,13])
(.seq (.seq (.reg [oP 14 (.mv (cI 0))] [1,2,3,4,9,11,12,13,14])
(.block 4
(.loop [1,2,3,4,9,11,12,13,14]
(.seq (.seq (.reg [mV 64 14,
mV 65 3,
oP 66 (.bin .lss (.t 64) (.t 65))] [1,2,3,4,9,11,12,13,14,66])
(.cond (.t 66)
.skip
(.exit 4)))
(.seq (.block 5
(.seq (.reg [oP 15 (.mv (.c (.bool false))),
oP 16 (.mv (.c (.bool false)))] [1,2,3,4,9,11,12,13,14,15,16])
(.seq (.seq (.reg [oP 17 (.mv (cI 0))] [1,2,3,4,9,11,12,13,14,15,16,17])
(.block 6
(.loop [1,2,3,4,9,11,12,13,14,15,16,17]
(.seq (.seq (.reg [mV 69 17,
mV 70 3,
oP 71 (.bin .lss (.t 69) (.t 70))] [1,2,3,4,9,11,12,13,14,15,16,17,71])
(.cond (.t 71)
.skip
(.exit 6)))
(.seq (.block 7
(.dreg [mV 74 15,
mV 75 74,
gF 76 75 (.mv (.t 12)),
gF 77 75 (.mv (.t 17)),
gF 78 75 (.call (.f 116) [false,false] [(.t 76),(.t 77)]),
gF 79 75 (.mv (.t 78)),
gT 80 79 (.fieldAddr (some 1) 0 (.t 1)),
gT 81 79 (.fieldAddr none 0 (.t 80)),
gT 82 79 (.load none (.t 81)),
gT 83 79 (.mv (.t 17)),
gT 84 79 (.ixS 7 (.t 82) (.t 83)),
gT 85 79 (.fieldAddr none 4 (.t 84)),
gT 86 79 (.load none (.t 85)),
gT 87 79 (.fieldAddr (some 1) 0 (.t 1)),
gT 88 79 (.fieldAddr none 0 (.t 87)),
gT 89 79 (.load none (.t 88)),
gT 90 79 (.mv (.t 14)),
gT 91 79 (.ixS 7 (.t 89) (.t 90)),
gT 92 79 (.fieldAddr none 0 (.t 91)),
gT 93 79 (.load none (.t 92)),
gT 94 79 (.call (.f 117) [true,false] [(.t 86),(.t 93)]),
gT 95 79 (.bin .geq (.t 94) (cI 0)),
gF 96 75 (.pick (.t 79) (.t 95) (.c (.bool false))),
oP 97 (.pick (.t 75) (.c (.bool true)) (.t 96)),
mV 15 97] [1,2,3,4,9,11,12,13,14,15,16,17] [[],[0],[0,1],[0,1],[0,1,2,3],[0,1,2,3,4],[0,1,2,3,4,5],[0,1,2,3,4,5,6],[0,1,2,3,4,5,6,7],[0,1,2,3,4,5],[0,1,2,3,4,5,6,7,8,9],[0,1,2,3,4,5,6,7,8,9,10],[0,1,2,3,4,5,6,7,8,9,10,11],[0,1,2,3,4,5],[0,1,2,3,4,5,13],[0,1,2,3,4,5,13,14],[0,1,2,3,4,5],[0,1,2,3,4,5,13,14,15,16],[0,1,2,3,4,5,13,14,15,16,17],[0,1,2,3,4,5,13,14,15,16,17,18],[0,1,2,3,4,5,6,7,8,9,10,11,12,13,14,15,16,17,18,19],[0,1,2,3,4,5,6,7,8,9,10,11,12,13,14,15,16,17,18,19,20],[0,1,2,3,4,5,6,7,8,9,10,11,12,13,14,15,16,17,18,19,20,21],[0,1,2,3,4,5,6,7,8,9,10,11,12,13,14,15,16,17,18,19,20,21,22],[0,1,2,3,4,5,6,7,8,9,10,11,12,13,14,15,16,17,18,19,20,21,22,23]]))
(.reg [mV 72 17,
oP 73 (.bin .add (.t 72) (cI 1)),
mV 17 73] [1,2,3,4,9,11,12,13,14,15,16,17]))))))
(.seq (.seq (.reg [oP 18 (.mv (cI 0))] [1,2,3,4,9,11,12,13,14,15,16,18])
(.block 8
(.loop [1,2,3,4,9,11,12,13,14,15,16,18]
(.seq (.seq (.reg [mV 98 18,
oP 99 (.fieldAddr none 10 (.t 1)),
oP 100 (.load none (.t 99)),
mV 101 14,
oP 102 (.ixS 1 (.t 100) (.t 101)),
oP 103 (.load none (.t 102)),
oP 104 (.len (.t 103)),
oP 105 (.bin .lss (.t 98) (.t 104))] [1,2,3,4,9,11,12,13,14,15,16,18,105])
(.cond (.t 105)
.skip
(.exit 8)))
(.seq (.block 9
(.dreg [mV 108 16,
mV 109 108,
gF 110 109 (.fieldAddr none 0 (.t 9)),
gF 111 109 (.load none (.t 110)),
gF 112 109 (.fieldAddr none 10 (.t 1)),
gF 113 109 (.load none (.t 112)),
gF 114 109 (.mv (.t 14)),
gF 115 109 (.ixS 1 (.t 113) (.t 114)),
gF 116 109 (.load none (.t 115)),
gF 117 109 (.mv (.t 18)),
gF 118 109 (.ixS 1 (.t 116) (.t 117)),
gF 119 109 (.load none (.t 118)),
gF 120 109 (.call (.f 37) [true,false] [(.t 111),(.t 119)]),
gF 121 109 (.un .not (.t 120)),
oP 122 (.pick (.t 109) (.c (.bool true)) (.t 121)),
mV 16 122] [1,2,3,4,9,11,12,13,14,15,16,18] [[],[0],[0,1],[0,1,2],[0,1],[0,1,4],[0,1],[0,1,4,5,6],[0,1,4,5,6,7],[0,1],[0,1,4,5,6,7,8,9],[0,1,4,5,6,7,8,9,10],[0,1,2,3,4,5,6,7,8,9,10,11],[0,1,2,3,4,5,6,7,8,9,10,11,12],[0,1,2,3,4,5,6,7,8,9,10,11,12,13],[0,1,2,3,4,5,6,7,8,9,10,11,12,13,14]]))
(.reg [mV 106 18,
oP 107 (.bin .add (.t 106) (cI 1)),
mV 18 107] [1,2,3,4,9,11,12,13,14,15,16,18]))))))
(.seq (.reg [oP 19 (.mv (cI 0))] [1,2,3,4,9,11,12,13,14,15,16,19])
(.seq (.seq (.reg [mV 123 12,
mV 124 14,
oP 125 (.call (.f 116) [false,false] [(.t 123),(.t 124)]),
oP 126 (.un .not (.t 125))] [1,2,3,4,9,11,12,13,14,15,16,19,126])
(.cond (.t 126)
(.reg [oP 19 (.mv (cI 1))] [1,2,3,4,9,11,12,13,14,19])
(.seq (.reg [mV 127 15] [1,2,3,4,9,11,12,13,14,16,19,127])
(.cond (.t 127)
(.reg [oP 19 (.mv (cI 2))] [1,2,3,4,9,11,12,13,14,19])
(.seq (.reg [mV 128 16] [1,2,3,4,9,11,12,13,14,19,128])
(.cond (.t 128)
(.reg [oP 19 (.mv (cI 3))] [1,2,3,4,9,11,12,13,14,19])
(.seq (.reg [mV 129 4,
mV 130 12,
mV 131 14,
oP 132 (.call (.f 68) [false] [(.t 131)]),
oP 133 (.bin .sub (.t 130) (.t 132)),
oP 134 (.ixS 1 (.t 129) (.t 133)),
oP 135 (.load none (.t 134)),
oP 136 (.un .not (.t 135))] [1,2,3,4,9,11,12,13,14,19,136])
(.cond (.t 136)
(.reg [oP 19 (.mv (cI 4))] [1,2,3,4,9,11,12,13,14,19])
.skip))))))))
(.reg [mV 137 13,
mV 138 19,
oP 139 (.lit 0 1 1 [(0,(.t 138))]),
oP 140 (.append 1 8 (.t 137) (.t 139)),
mV 13 140] [1,2,3,4,9,11,12,13,14])))))))
(.reg [mV 67 14,
oP 68 (.bin .add (.t 67) (cI 1)),
mV 14 68] [1,2,3,4,9,11,12,13,14]))))))
(.reg [oP 141 (.fieldAddr none 1 (.t 11)),
oP 142 (.load none (.t 141)),
oP 143 (.mvd (.t 13)),
oP 144 (.lit 0 1 1 [(0,(.t 143))]),
oP 145 (.append 1 24 (.t 142) (.t 144)),
oP 146 (.fieldAddr none 1 (.t 11)),
oN (.store 1 (.t 146) (.t 145))] [1,2,3,4,9,11,12]))))
(.reg [mV 62 12,
oP 63 (.bin .add (.t 62) (cI 1)),
mV 12 63] [1,2,3,4,9,11,12]))))))
(.seq (.reg [oP 147 (.loadd (some 2) (.t 11)),
oN (.store 2 (.t 2) (.t 147))] [2])
.ret)))))))))
abbrev Qk:RsT:=[(2,some (some 2))]
theorem QD:SpF 148 Ie OW Qk:=SpI Tryz.func57 (by kernel_rfl)
theorem SD:ak Tryz.prog Ie = true:=by kernel_rfl
abbrev UU:FuncId:=58
def Vo:AC:=
(.seq (.reg [oP 2 (.pbox 2 (.t 0)),
oP 4 (.mv (cI 0)),
oP 5 (.mv (cI 0)),
oP 6 (.mv (cI 0))] [1,2])
(.seq (.reg [oP 10 (.fieldAddr none 0 (.t 2)),
oP 11 (.load none (.t 10)),
oP 12 (.call (.f 68) [false] [(.t 11)]),
oP 13 (.bin .sub (.t 12) (cI 1)),
mV 7 13] [1,2,7])
(.seq (.seq (.reg [oP 8 (.mv (cI 0))] [1,2,7,8])
(.block 0
(.loop [1,2,7,8]
(.seq (.seq (.reg [mV 14 8,
mV 15 1,
oP 16 (.len (.t 15)),
oP 17 (.bin .lss (.t 14) (.t 16))] [1,2,7,8,17])
(.cond (.t 17)
.skip
(.exit 0)))
(.seq (.block 1
(.seq (.dreg [oP 20 (.fieldAddr none 1 (.t 2)),
oP 21 (.load none (.t 20)),
mV 22 7,
oP 23 (.ixS 1 (.t 21) (.t 22)),
oP 24 (.load none (.t 23)),
mV 25 1,
mV 26 8,
oP 27 (.ixS 1 (.t 25) (.t 26)),
oP 28 (.load none (.t 27)),
oP 29 (.ixS 1 (.t 24) (.t 28)),
oP 30 (.load none (.t 29)),
mV 9 30] [1,2,7,8,9] [[],[0],[],[0,1,2],[0,1,2,3],[],[],[5,6],[5,6,7],[0,1,2,3,4,5,6,7,8],[0,1,2,3,4,5,6,7,8,9],[0,1,2,3,4,5,6,7,8,9,10]])
(.seq (.seq (.reg [mV 31 9,
oP 32 (.bin .neq (.t 31) (cI 0))] [1,2,7,8,9,32])
(.cond (.t 32)
(.seq (.reg [mV 33 8,
mV 34 9,
mV 35 7,
mV 4 33,
mV 5 34,
mV 6 35] [4,5,6])
.ret)
.skip))
(.reg [mV 36 7,
mV 37 1,
mV 38 8,
oP 39 (.ixS 1 (.t 37) (.t 38)),
oP 40 (.load none (.t 39)),
oP 41 (.call (.f 68) [false] [(.t 40)]),
oP 42 (.bin .sub (.t 36) (.t 41)),
mV 7 42] [1,2,7,8]))))
(.reg [mV 18 8,
oP 19 (.bin .add (.t 18) (cI 1)),
mV 8 19] [1,2,7,8]))))))
(.seq (.reg [mV 43 7,
oP 4 (.mv (cI (-1))),
oP 5 (.mv (cI 0)),
mV 6 43] [4,5,6])
.ret))))
abbrev VU:RsT:=[(4,none),(5,none),(6,none)]
theorem VS:SpF 44 UU Vo VU:=SpI Tryz.func58 (by kernel_rfl)
theorem VQ:ak Tryz.prog UU = true:=by kernel_rfl
abbrev IT:FuncId:=59
def NV:AC:=
(.seq (.reg [oP 2 (.pbox 11 (.t 0)),
oP 4 (.mv (.c .nilptr)),
oP 5 (.mv (cI 0)),
oP 6 (.mv (cI 0))] [1,2])
(.seq (.reg [oP 13 (.load (some 11) (.t 2)),
mV 14 1,
oP 15 (.call (.f 55) [true,true] [(.t 13),(.t 14)]),
mV 12 15,
oP 16 (.extract (.t 12) 0),
oP 17 (.extract (.t 12) 1),
mV 7 16,
mV 8 17] [1,7,8])
(.seq (.seq (.reg [mV 18 8,
oP 19 (.bin .neq (.t 18) (cI 0))] [1,7,8,19])
(.cond (.t 19)
(.seq (.reg [mV 20 8,
oP 4 (.mv (.c .nilptr)),
oP 5 (.mv (cI 0)),
mV 6 20] [4,5,6])
.ret)
.skip))
(.seq (.reg [mV 22 7,
mV 23 1,
oP 24 (.call (.f 56) [false,true] [(.t 22),(.t 23)]),
mV 21 24,
oP 25 (.extract (.t 21) 0),
oP 26 (.extract (.t 21) 1),
oP 27 (.extract (.t 21) 2),
mV 9 25,
mV 10 26,
mV 11 27] [7,9,11])
(.seq (.seq (.reg [mV 28 9,
oP 29 (.bin .geq (.t 28) (cI 0))] [7,11,29])
(.cond (.t 29)
(.seq (.reg [oP 4 (.mv (.c .nilptr)),
oP 5 (.mv (cI 0)),
oP 6 (.mv (cI 9))] [4,5,6])
.ret)
.skip))
(.seq (.reg [mV 30 7,
mV 31 11,
mV 4 30,
mV 5 31,
oP 6 (.mv (cI 0))] [4,5,6])
.ret))))))
abbrev Qu:RsT:=[(4,none),(5,none),(6,none)]
theorem SP:SpF 32 IT NV Qu:=SpI Tryz.func59 (by kernel_rfl)
theorem Oh:ak Tryz.prog IT = true:=by kernel_rfl
abbrev EZ:FuncId:=60
def K4:AC:=
(.seq (.reg [oP 3 (.pbox 1 (.t 1)),
oP 4 (.alloc [.mint 1])] [0,3,4])
(.seq (.seq (.reg [mV 7 0] [3,4,7])
(.block 0
(.bF (.t 7) [8,9] (.seq (.reg [mV 5 8] [3,4,5,9])
(.reg [mV 6 9] [3,4,5,6]))
(.block 1
(.seq (.reg [oP 10 (.load none (.t 3)),
mV 11 6,
oP 12 (.call (.t 10) [false] [(.t 11)])] [4,5,12])
(.cond (.t 12)
(.reg [oP 13 (.load none (.t 4)),
mV 14 5,
oP 15 (.lit 0 1 1 [(0,(.t 14))]),
oP 16 (.append 1 8 (.t 13) (.t 15)),
oN (.store 1 (.t 4) (.t 16))] [])
.skip))))))
(.seq (.reg [oP 17 (.loadd none (.t 4)),
oN (.store 1 (.t 4) (.t 17))] [4])
.ret)))
abbrev Rn:RsT:=[(4,some none)]
theorem SA:SpF 18 EZ K4 Rn:=SpI Tryz.func60 (by kernel_rfl)
theorem Nc:ak Tryz.prog EZ = true:=by kernel_rfl
abbrev Ij:FuncId:=61
def KP:AC:=
(.seq (.reg [oP 2 (.pbox 1 (.t 0)),
oP 3 (.pbox 1 (.t 1)),
oP 4 (.mv (.c .nilfunc))] [2,3])
(.seq (.reg [oP 5 (.mkfunc (.func 118) [] [(.t 3),(.t 2)]),
mV 4 5] [4])
.ret))
abbrev SL:RsT:=[(4,none)]
theorem Sl:SpF 6 Ij KP SL:=SpI Tryz.func61 (by kernel_rfl)
theorem Bp:ak Tryz.prog Ij = true:=by kernel_rfl
abbrev ET:FuncId:=62
def KU:AC:=
(.seq (.reg [oP 2 (.mv (.c (.bool false)))] [])
(.seq (.reg [oP 2 (.mv (.c (.bool true)))] [2])
.ret))
abbrev Rh:RsT:=[(2,none)]
theorem PW:SpF 3 ET KU Rh:=SpI Tryz.func62 (by kernel_rfl)
theorem Ss:ak Tryz.prog ET = true:=by kernel_rfl
abbrev UD:FuncId:=63
def U7:AC:=
(.seq (.reg [oP 2 (.pbox 11 (.t 0)),
oP 4 (.alloc [.int .i64 0, .slice 1 []]),
oP 5 (.mv (cI 0)),
oP 6 (.mv (cI 0))] [1,2,4])
(.seq (.reg [oP 12 (.load (some 11) (.t 2)),
mV 13 1,
oP 14 (.call (.f 41) [true,true] [(.t 12),(.t 13)]),
mV 7 14] [1,2,4,7])
(.seq (.seq (.reg [mV 15 7,
oP 16 (.bin .neq (.t 15) (cI 0))] [1,2,4,7,16])
(.cond (.t 16)
(.seq (.reg [oP 17 (.build [.int .i64 0, .slice 1 []] []),
mV 18 7,
oN (.store 2 (.t 4) (.t 17)),
oP 5 (.mv (cI 0)),
mV 6 18] [4,5,6])
.ret)
.skip))
(.seq (.reg [oP 19 (.load (some 11) (.t 2)),
oP 20 (.call (.f 57) [true] [(.t 19)]),
oP 8 (.alloc [.int .i64 0, .slice 1 []]),
oN (.store 2 (.t 8) (.t 20))] [1,4,8])
(.frz 8 true (.seq (.reg [oP 22 (.load (some 2) (.t 8)),
mV 23 1,
oP 24 (.call (.f 58) [true,true] [(.t 22),(.t 23)]),
mV 21 24,
oP 25 (.extract (.t 21) 0),
oP 26 (.extract (.t 21) 1),
oP 27 (.extract (.t 21) 2),
mV 9 25,
mV 10 26,
mV 11 27] [4,8,9,11])
(.seq (.seq (.reg [mV 28 9,
oP 29 (.bin .geq (.t 28) (cI 0))] [4,8,11,29])
(.cond (.t 29)
(.seq (.reg [oP 30 (.build [.int .i64 0, .slice 1 []] []),
oN (.store 2 (.t 4) (.t 30)),
oP 5 (.mv (cI 0)),
oP 6 (.mv (cI 9))] [4,5,6])
.ret)
.skip))
(.seq (.reg [oP 31 (.loadd (some 2) (.t 8)),
mV 32 11,
oN (.store 2 (.t 4) (.t 31)),
mV 5 32,
oP 6 (.mv (cI 0))] [4,5,6])
.ret))))))))
abbrev VW:RsT:=[(4,some (some 2)),(5,none),(6,none)]
theorem VN:SpF 33 UD U7 VW:=SpI Tryz.func63 (by kernel_rfl)
theorem UB:ak Tryz.prog UD = true:=by kernel_rfl
abbrev IL:FuncId:=64
def Ke:AC:=
(.seq (.reg [oP 1 (.pbox 1 (.t 0)),
oP 2 (.mv (.c .nilfunc))] [1])
(.seq (.reg [oP 5 (.mnew),
oP 3 (.alloc [.nilmap]),
oN (.store 1 (.t 3) (.t 5))] [1,3])
(.frz 3 false (.seq (.reg [oP 4 (.alloc [.nilfunc])] [1,3,4])
(.seq (.reg [oP 6 (.mkfunc (.func 120) [] [(.t 3),(.t 1),(.t 4)]),
oN (.store 1 (.t 4) (.t 6))] [4])
(.seq (.reg [oP 7 (.load none (.t 4)),
mV 2 7] [2])
.ret))))))
abbrev SI:RsT:=[(2,none)]
theorem Rg:SpF 8 IL Ke SI:=SpI Tryz.func64 (by kernel_rfl)
theorem Jw:ak Tryz.prog IL = true:=by kernel_rfl
abbrev Ct:FuncId:=65
def Kt:AC:=
(.seq (.reg [oP 3 (.mv (.c (.bool false)))] [0,1])
(.seq (.reg [oP 4 (.load none (.t 1)),
mV 5 0,
oP 6 (.call (.f 66) [false,false] [(.t 4),(.t 5)]),
mV 3 6] [3])
.ret))
abbrev PZ:RsT:=[(3,none)]
theorem PT:SpF 7 Ct Kt PZ:=SpI Tryz.func65 (by kernel_rfl)
theorem Rt:ak Tryz.prog Ct = true:=by kernel_rfl
abbrev HK:FuncId:=66
def NX:AC:=
(.seq (.reg [oP 4 (.mv (.c (.bool false)))] [0,1])
(.seq (.reg [mV 5 0,
mV 6 1,
oP 7 (.call (.t 5) [false] [(.t 6)]),
mV 8 1,
oP 9 (.conv .u64 (.t 8)),
oP 10 (.call (.f 121) [false] [(.t 9)]),
oP 11 (.bin .eql (.t 7) (.t 10)),
mV 4 11] [4])
.ret))
abbrev SC:RsT:=[(4,none)]
theorem SN:SpF 12 HK NX SC:=SpI Tryz.func66 (by kernel_rfl)
theorem P8:ak Tryz.prog HK = true:=by kernel_rfl
abbrev IZ:FuncId:=68
def Ou:AC:=
(.seq (.reg [oP 2 (.mv (cI 0))] [0])
(.seq (.reg [oP 3 (.mv (cI 1))] [0,3])
(.seq (.seq (.reg [oP 4 (.mv (cI 0))] [0,3,4])
(.block 0
(.loop [0,3,4]
(.seq (.seq (.reg [mV 5 4,
mV 6 0,
oP 7 (.bin .lss (.t 5) (.t 6))] [0,3,4,7])
(.cond (.t 7)
.skip
(.exit 0)))
(.seq (.block 1
(.reg [mV 10 3,
oP 11 (.bin .mul (cI 2) (.t 10)),
mV 3 11] [0,3,4]))
(.reg [mV 8 4,
oP 9 (.bin .add (.t 8) (cI 1)),
mV 4 9] [0,3,4]))))))
(.seq (.reg [mV 12 3,
mV 2 12] [2])
.ret))))
abbrev Su:RsT:=[(2,none)]
theorem PF:SpF 13 IZ Ou Su:=SpI Tryz.func68 (by kernel_rfl)
theorem xS:ak Tryz.prog IZ = true:=by kernel_rfl
abbrev H9:FuncId:=69
def KA:AC:=
(.seq (.reg [oP 1 (.pbox 11 (.t 0)),
oP 2 (.mv (.c .nilptr)),
oP 3 (.mv (cI 0))] [1])
(.seq (.seq (.reg [oP 15 (.load (some 11) (.t 1)),
oP 16 (.call (.f 14) [true] [(.t 15)]),
mV 14 16,
oP 17 (.extract (.t 14) 0),
oP 18 (.extract (.t 14) 1),
oP 19 (.extract (.t 14) 2),
mV 4 17,
mV 5 18,
mV 6 19] [1,6])
(.seq (.reg [mV 20 6,
oP 21 (.bin .neq (.t 20) (cI 0))] [1,6,21])
(.cond (.t 21)
(.seq (.reg [mV 22 6,
oP 2 (.mv (.c .nilptr)),
mV 3 22] [2,3])
.ret)
.skip)))
(.seq (.dreg [oP 23 (.load (some 11) (.t 1)),
oP 24 (.fieldAddr (some 1) 0 (.t 1)),
oP 25 (.fieldAddr none 0 (.t 24)),
oP 26 (.load none (.t 25)),
oP 27 (.len (.t 26)),
oP 28 (.mksl 2 1 8 (.int .i64 0) (.t 27) (.t 27)),
oP 29 (.mnew),
oP 30 (.build [.slice 7 [], .slice 7 [], .int .i64 0, .int .i64 0, .int .i64 0, .int .i64 0, .slice 2 [], .slice 3 [], .slice 1 [], .slice 2 [], .slice 1 [], .slice 1 [], .int .i64 0, .nilmap] [(0,11,(.t 23)),(11,1,(.t 28)),(13,1,(.t 29))]),
oP 31 (.box 14 (.t 30)),
mV 7 31] [1,7] [[],[],[1],[1,2],[1,2,3],[1,2,3,4],[],[0,1,2,3,4,5,6],[0,1,2,3,4,5,6,7],[0,1,2,3,4,5,6,7,8]])
(.seq (.reg [oP 33 (.fieldAddr (some 2) 6 (.t 1)),
oP 34 (.load (some 2) (.t 33)),
oP 35 (.fieldAddr none 8 (.t 1)),
oP 36 (.load none (.t 35)),
oP 37 (.fieldAddr none 9 (.t 1)),
oP 38 (.load none (.t 37)),
oP 39 (.call (.f 48) [true,true,true] [(.t 34),(.t 36),(.t 38)]),
mV 32 39,
oP 40 (.extract (.t 32) 0),
oP 41 (.extract (.t 32) 1),
oP 8 (.alloc [.slice 1 [], .slice 1 []]),
oN (.store 2 (.t 8) (.t 40)),
mV 9 41] [1,7,8])
(.frz 8 true (.seq (.seq (.reg [oP 42 (.fieldAddr (some 1) 0 (.t 1)),
oP 43 (.fieldAddr none 0 (.t 42)),
oP 44 (.load none (.t 43)),
oP 45 (.len (.t 44)),
oP 46 (.mv (cI 0))] [1,7,8,44,45,46])
(.block 0
(.loop [1,7,8,44,45,46]
(.seq (.reg [oP 47 (.bin .lss (.t 46) (.t 45))] [1,7,8,44,45,46,47])
(.seq (.cond (.t 47)
.skip
(.exit 0))
(.seq (.block 1
(.seq (.reg [mV 48 46,
oP 49 (.ixS 7 (.t 44) (.t 46)),
oP 50 (.load (some 7) (.t 49)),
oP 11 (.alloc [.str ByteArray.empty, .int .i64 0, .int .i64 0, .int .i64 0, .slice 1 [], .int .i64 0, .int .i64 0]),
mV 10 48,
oN (.store 7 (.t 11) (.t 50))] [1,7,8,10,11,44,45,46])
(.frz 11 true (.seq (.seq (.reg [oP 51 (.fieldAddr (some 1) 0 (.t 1)),
oP 52 (.fieldAddr none 0 (.t 51)),
oP 53 (.load none (.t 52)),
oP 54 (.len (.t 53)),
oP 55 (.mv (cI 0))] [1,7,8,10,11,44,45,46,53,54,55])
(.block 2
(.loop [1,7,8,10,11,44,45,46,53,54,55]
(.seq (.reg [oP 56 (.bin .lss (.t 55) (.t 54))] [1,7,8,10,11,44,45,46,53,54,55,56])
(.seq (.cond (.t 56)
.skip
(.exit 2))
(.seq (.block 3
(.seq (.reg [mV 57 55,
oP 58 (.ixS 7 (.t 53) (.t 55)),
oP 59 (.load (some 7) (.t 58)),
oP 13 (.alloc [.str ByteArray.empty, .int .i64 0, .int .i64 0, .int .i64 0, .slice 1 [], .int .i64 0, .int .i64 0]),
mV 12 57,
oN (.store 7 (.t 13) (.t 59))] [1,7,8,10,11,12,13,44,45,46,53,54,55])
(.frz 13 true (.seq (.reg [oP 60 (.fieldAddr none 4 (.t 13)),
oP 61 (.load none (.t 60)),
oP 62 (.fieldAddr none 0 (.t 11)),
oP 63 (.load none (.t 62)),
oP 64 (.call (.f 122) [true,false] [(.t 61),(.t 63)])] [1,7,8,10,11,12,44,45,46,53,54,55,64])
(.cond (.t 64)
(.dreg [mV 65 7,
oP 66 (.nilchk (.t 65)),
oP 67 (.fieldAddr none 11 (.t 66)),
oP 68 (.load none (.t 67)),
mV 69 10,
oP 70 (.ixS 1 (.t 68) (.t 69)),
oP 71 (.load none (.t 70)),
mV 72 12,
oP 73 (.bin .shl (cI 1) (.t 72)),
oP 74 (.bin .or (.t 71) (.t 73)),
oP 75 (.ixS 1 (.t 68) (.t 69)),
oN (.store 1 (.t 75) (.t 74))] [1,7,8,10,11,44,45,46,53,54,55] [[],[0],[0,1],[0,1,2],[],[0,1,2,3,4],[0,1,2,3,4,5],[],[7],[0,1,2,3,4,5,6,7,8],[0,1,2,3,4,5,6,7,8,9],[0,1,2,3,4,5,6,7,8,9,10]])
.skip)))))
(.reg [oP 76 (.bin .add (.t 55) (cI 1)),
mV 55 76] [1,7,8,10,11,44,45,46,53,54,55])))))))
(.seq (.reg [oP 77 (.fieldAddr none 10 (.t 1)),
oP 78 (.load none (.t 77)),
mV 79 10,
oP 80 (.ixS 1 (.t 78) (.t 79)),
oP 81 (.load none (.t 80)),
oP 82 (.mkfunc (.func 123) [] [(.t 8)]),
oP 83 (.call (.f 100) [true,false] [(.t 81),(.t 82)])] [1,7,8,10,44,45,46,83])
(.cond (.t 83)
(.dreg [mV 84 7,
oP 85 (.nilchk (.t 84)),
oP 86 (.fieldAddr none 12 (.t 85)),
oP 87 (.load none (.t 86)),
mV 88 10,
oP 89 (.bin .shl (cI 1) (.t 88)),
oP 90 (.bin .or (.t 87) (.t 89)),
oP 91 (.nilchk (.t 84)),
oP 92 (.fieldAddr none 12 (.t 91)),
oN (.store 1 (.t 92) (.t 90))] [1,7,8,44,45,46] [[],[0],[0,1],[0,1,2],[],[4],[0,1,2,3,4,5],[0,1,2,3,4,5,6],[0,1,2,3,4,5,6,7],[0,1,2,3,4,5,6,7,8]])
.skip))))))
(.reg [oP 93 (.bin .add (.t 46) (cI 1)),
mV 46 93] [1,7,8,44,45,46])))))))
(.seq (.reg [mV 94 7,
mV 2 94,
oP 3 (.mv (cI 0))] [2,3])
.ret)))))))
abbrev PY:RsT:=[(2,none),(3,none)]
theorem PI:SpF 95 H9 KA PY:=SpI Tryz.func69 (by kernel_rfl)
theorem B7:ak Tryz.prog H9 = true:=by kernel_rfl
abbrev Io:FuncId:=70
def OE:AC:=
(.seq (.reg [oP 2 (.alloc [.mint 1])] [0,2])
(.seq (.reg [mV 7 0,
oP 8 (.call (.f 64) [false] [(.t 7)]),
oP 3 (.alloc [.nilfunc]),
oN (.store 1 (.t 3) (.t 8))] [0,2,3])
(.frz 3 false (.seq (.seq (.reg [mV 9 0,
oP 10 (.call (.f 77) [false] [(.t 9)]),
oP 4 (.alloc [.int .i64 0]),
oN (.store 1 (.t 4) (.t 10))] [0,2,3,4])
(.block 0
(.loop [0,2,3,4]
(.seq (.seq (.reg [oP 11 (.load none (.t 3)),
oP 12 (.load none (.t 4)),
oP 13 (.call (.t 11) [false] [(.t 12)]),
oP 14 (.bin .gtr (.t 13) (cI 0))] [0,2,3,4,14])
(.cond (.t 14)
.skip
(.exit 0)))
(.seq (.block 1
(.seq (.reg [mV 15 0,
oP 16 (.load none (.t 4)),
oP 17 (.call (.f 61) [false,false] [(.t 15),(.t 16)])] [0,2,3,4,17])
(.block 2
(.bF (.t 17) [18,19] (.seq (.reg [mV 5 18] [0,2,3,4,5,19])
(.reg [mV 6 19] [0,2,3,4,5,6]))
(.block 3
(.seq (.qreg [oP 20 (.load none (.t 3)),
mV 21 6,
oP 22 (.call (.t 20) [false] [(.t 21)]),
oP 23 (.load none (.t 3)),
oP 24 (.load none (.t 4)),
oP 25 (.call (.t 23) [false] [(.t 24)]),
oP 26 (.bin .sub (.t 25) (cI 1)),
oP 27 (.bin .eql (.t 22) (.t 26))] [0,2,3,4,5,6,27] [[],[],[0,1],[],[],[0,1,2,3,4],[0,1,2,3,4,5],[0,1,2,3,4,5,6]] [([0,1,3,4],2),([],5)] [6,7])
(.cond (.t 27)
(.seq (.reg [oP 28 (.load none (.t 2)),
mV 29 5,
oP 30 (.lit 0 1 1 [(0,(.t 29))]),
oP 31 (.append 1 8 (.t 28) (.t 30)),
mV 32 6,
oN (.store 1 (.t 2) (.t 31)),
oN (.store 1 (.t 4) (.t 32))] [0,2,3,4])
(.exit 2))
.skip)))))))
(.seq (.reg [oP 33 (.load none (.t 4))] [0,2,3,33])
(.reg [oP 4 (.alloc [.int .i64 0]),
oN (.store 1 (.t 4) (.t 33))] [0,2,3,4])))))))
(.seq (.reg [oP 34 (.loadd none (.t 2)),
oN (.store 1 (.t 2) (.t 34))] [2])
.ret)))))
abbrev Q8:RsT:=[(2,some none)]
theorem SR:SpF 35 Io OE Q8:=SpI Tryz.func70 (by kernel_rfl)
theorem OZ:ak Tryz.prog Io = true:=by kernel_rfl
abbrev H8:FuncId:=72
def Pc:AC:=
(.seq (.reg [oP 1 (.pbox 1 (.t 0)),
oP 2 (.mv (.c .nilfunc))] [1])
(.seq (.reg [oP 3 (.mkfunc (.func 124) [] [(.t 1)]),
mV 2 3] [2])
.ret))
abbrev Qw:RsT:=[(2,none)]
theorem PD:SpF 4 H8 Pc Qw:=SpI Tryz.func72 (by kernel_rfl)
theorem OD:ak Tryz.prog H8 = true:=by kernel_rfl
abbrev H5:FuncId:=73
def JZ:AC:=
(.seq (.reg [oP 6 (.mv (cI 0))] [0,1,2])
(.seq (.seq (.reg [mV 9 0,
oP 10 (.mkfunc (.func 125) [(.t 9)] []),
mV 11 0,
oP 12 (.mkfunc (.func 126) [(.t 11)] []),
mV 13 0,
oP 14 (.mkfunc (.func 127) [(.t 13)] []),
mV 15 0,
oP 16 (.mkfunc (.func 128) [(.t 15)] []),
oP 17 (.build [.nilfunc, .nilfunc, .nilfunc, .nilfunc] [(0,1,(.t 10)),(1,1,(.t 12)),(2,1,(.t 14)),(3,1,(.t 16))]),
oP 18 (.mv (cI 0))] [1,2,17,18])
(.block 0
(.loop [1,2,17,18]
(.seq (.reg [oP 19 (.bin .lss (.t 18) (cI 4))] [1,2,17,18,19])
(.seq (.cond (.t 19)
.skip
(.exit 0))
(.seq (.block 1
(.seq (.reg [mV 20 18,
oP 21 (.ixV 4 1 none (.t 17) (.t 18)),
mV 7 20,
mV 8 21] [1,2,7,8,17,18])
(.seq (.reg [mV 22 8,
mV 23 1,
mV 24 2,
oP 25 (.call (.t 22) [false,false] [(.t 23),(.t 24)])] [1,2,7,17,18,25])
(.cond (.t 25)
(.seq (.reg [mV 26 7,
oP 27 (.bin .add (cI 1) (.t 26)),
mV 6 27] [6])
.ret)
.skip))))
(.reg [oP 28 (.bin .add (.t 18) (cI 1)),
mV 18 28] [1,2,17,18])))))))
(.seq (.reg [oP 6 (.mv (cI 0))] [6])
.ret)))
abbrev SO:RsT:=[(6,none)]
theorem Sb:SpF 29 H5 JZ SO:=SpI Tryz.func73 (by kernel_rfl)
theorem Fj:ak Tryz.prog H5 = true:=by kernel_rfl
abbrev Iw:FuncId:=74
def LY:AC:=
(.seq (.reg [oP 2 (.mv (.c (.slice 1 [])))] [0])
(.seq (.seq (.reg [mV 3 0,
oP 4 (.snil false (.t 3))] [0,4])
(.cond (.t 4)
(.seq (.reg [oP 2 (.nilS 3 1)] [2])
.ret)
.skip))
(.seq (.reg [oP 5 (.lit 1 1 0 []),
mV 6 0,
oP 7 (.append 1 8 (.t 5) (.t 6)),
mV 2 7] [2])
.ret)))
abbrev SW:RsT:=[(2,none)]
theorem PR:SpF 8 Iw LY SW:=SpI Tryz.func74 (by kernel_rfl)
theorem IW:ak Tryz.prog Iw = true:=by kernel_rfl
abbrev HR:FuncId:=75
def MR:AC:=
(.seq (.reg [mV 3 0,
oP 4 (.len (.t 3)),
mV 2 4] [0,2])
(.reg [mV 5 0,
mV 6 2,
mV 7 2,
oP 8 (.conv .u64 (.t 7)),
oP 9 (.call (.f 130) [false] [(.t 8)]),
oP 10 (.call (.f 129) [true,false,false,false] [(.t 5),(cI 0),(.t 6),(.t 9)])] []))
abbrev PH:RsT:=[]
theorem SH:SpF 11 HR MR PH:=SpI Tryz.func75 (by kernel_rfl)
theorem OC:ak Tryz.prog HR = true:=by kernel_rfl
abbrev UW:FuncId:=76
def Vl:AC:=
(.seq (.reg [oP 1 (.pbox 2 (.t 0)),
oP 2 (.mv (.c (.slice 1 [])))] [1])
(.seq (.reg [oP 6 (.fieldAddr none 0 (.t 1)),
oP 7 (.load none (.t 6)),
oP 8 (.call (.f 68) [false] [(.t 7)]),
oP 9 (.mksl 2 1 1 (.bool false) (.t 8) (.t 8)),
mV 3 9] [1,3])
(.seq (.reg [mV 10 3,
mV 11 3,
oP 12 (.len (.t 11)),
oP 13 (.bin .sub (.t 12) (cI 1)),
oP 14 (.ixS 1 (.t 10) (.t 13)),
oN (.store 1 (.t 14) (.c (.bool true)))] [1,3])
(.seq (.seq (.reg [mV 15 3,
oP 16 (.len (.t 15)),
oP 17 (.bin .sub (.t 16) (cI 1)),
mV 4 17] [1,3,4])
(.block 0
(.loop [1,3,4]
(.seq (.seq (.reg [mV 18 4,
oP 19 (.bin .geq (.t 18) (cI 0))] [1,3,4,19])
(.cond (.t 19)
.skip
(.exit 0)))
(.seq (.block 1
(.seq (.reg [oP 5 (.mv (cI 0))] [1,3,4,5])
(.block 2
(.loop [1,3,4,5]
(.seq (.seq (.reg [mV 22 5,
oP 23 (.fieldAddr none 0 (.t 1)),
oP 24 (.load none (.t 23)),
oP 25 (.bin .lss (.t 22) (.t 24)),
mV 26 25,
gT 27 26 (.mv (.t 3)),
gT 28 26 (.mv (.t 4)),
gT 29 26 (.ixS 1 (.t 27) (.t 28)),
gT 30 26 (.load none (.t 29)),
oP 31 (.pick (.t 26) (.t 30) (.c (.bool false)))] [1,3,4,5,31])
(.cond (.t 31)
.skip
(.exit 2)))
(.seq (.block 3
(.seq (.reg [oP 34 (.fieldAddr none 1 (.t 1)),
oP 35 (.load none (.t 34)),
mV 36 4,
oP 37 (.ixS 1 (.t 35) (.t 36)),
oP 38 (.load none (.t 37)),
mV 39 5,
oP 40 (.ixS 1 (.t 38) (.t 39)),
oP 41 (.load none (.t 40)),
oP 42 (.bin .eql (.t 41) (cI 0))] [1,3,4,5,42])
(.cond (.t 42)
(.reg [mV 43 3,
mV 44 4,
mV 45 5,
oP 46 (.call (.f 68) [false] [(.t 45)]),
oP 47 (.bin .sub (.t 44) (.t 46)),
oP 48 (.ixS 1 (.t 43) (.t 47)),
oN (.store 1 (.t 48) (.c (.bool true)))] [1,3,4,5])
.skip)))
(.reg [mV 32 5,
oP 33 (.bin .add (.t 32) (cI 1)),
mV 5 33] [1,3,4,5])))))))
(.reg [mV 20 4,
oP 21 (.bin .sub (.t 20) (cI 1)),
mV 4 21] [1,3,4]))))))
(.seq (.reg [oP 49 (.freeze 1 (.t 3)),
oP 2 (.mvd (.t 49))] [2])
.ret)))))
abbrev VG:RsT:=[(2,none)]
theorem VK:SpF 50 UW Vl VG:=SpI Tryz.func76 (by kernel_rfl)
theorem VJ:ak Tryz.prog UW = true:=by kernel_rfl
abbrev HP:FuncId:=77
def N9:AC:=
(.seq (.reg [oP 2 (.mv (cI 0))] [0])
(.seq (.reg [mV 3 0,
oP 4 (.nilchk (.t 3)),
oP 5 (.fieldAddr none 11 (.t 4)),
oP 6 (.load none (.t 5)),
oP 7 (.len (.t 6)),
oP 8 (.bin .shl (cI 1) (.t 7)),
oP 9 (.bin .sub (.t 8) (cI 1)),
mV 2 9] [2])
.ret))
abbrev Rx:RsT:=[(2,none)]
theorem SU:SpF 10 HP N9 Rx:=SpI Tryz.func77 (by kernel_rfl)
theorem Bt:ak Tryz.prog HP = true:=by kernel_rfl
abbrev IA:FuncId:=78
def Mf:AC:=
(.seq (.reg [oP 4 (.mv (.c (.bool false)))] [0,1])
(.seq (.reg [mV 5 0,
mV 6 1,
oP 7 (.call (.f 131) [true,false] [(.t 5),(.t 6)]),
oP 8 (.bin .geq (.t 7) (cI 0)),
mV 4 8] [4])
.ret))
abbrev R2:RsT:=[(4,none)]
theorem Sf:SpF 9 IA Mf R2:=SpI Tryz.func78 (by kernel_rfl)
theorem xY:ak Tryz.prog IA = true:=by kernel_rfl
abbrev HO:FuncId:=79
def K7:AC:=
(.seq (.reg [oP 8 (.alloc [.str ByteArray.empty, .int .i64 0, .int .i64 0, .int .i64 0, .slice 1 [], .int .i64 0, .int .i64 0])] [0,1,2,3,8])
(.seq (.reg [mV 9 0,
mV 10 1,
mV 11 2,
mV 12 3,
oP 13 (.call (.f 80) [false,false] [(cI 1),(cI 1)]),
oP 14 (.build [.str ByteArray.empty, .int .i64 0, .int .i64 0, .int .i64 0, .slice 1 [], .int .i64 0, .int .i64 0] [(0,1,(.t 9)),(1,1,(.t 10)),(2,1,(.t 11)),(3,1,(.t 12)),(5,2,(.t 13))]),
oN (.store 7 (.t 8) (.t 14))] [8])
.ret))
abbrev PJ:RsT:=[(8,some (some 7))]
theorem Qn:SpF 15 HO K7 PJ:=SpI Tryz.func79 (by kernel_rfl)
theorem I0:ak Tryz.prog HO = true:=by kernel_rfl
abbrev IS:FuncId:=80
def Lc:AC:=
(.seq (.reg [oP 4 (.alloc [.int .i64 0, .int .i64 0])] [0,1,4])
(.seq (.reg [mV 5 0,
mV 6 1,
oP 7 (.build [.int .i64 0, .int .i64 0] [(0,1,(.t 5)),(1,1,(.t 6))]),
oN (.store 2 (.t 4) (.t 7))] [4])
.ret))
abbrev Sh:RsT:=[(4,some (some 2))]
theorem RS:SpF 8 IS Lc Sh:=SpI Tryz.func80 (by kernel_rfl)
theorem Lx:ak Tryz.prog IS = true:=by kernel_rfl
abbrev Hy:FuncId:=81
def Lw:AC:=
(.seq (.reg [oP 0 (.alloc [.slice 7 [], .int .i64 0, .int .i64 0])] [0])
(.seq (.reg [oP 1 (.call (.f 132) [false,false] [(cI 1000),(cI 1200)]),
oP 2 (.call (.f 132) [false,false] [(cI 10),(cI 12)]),
⟨some 3,none, .build [.str ByteArray.empty, .int .i64 0, .int .i64 0, .int .i64 0, .int .i64 0, .int .i64 0, .int .i64 0] [(0,1,(.c (.str ⟨#[98,111,119]⟩))),(1,1,(cI 100)),(2,2,(.t 1)),(4,1,(cI 50)),(5,2,(.t 2))]⟩,
oP 4 (.call (.f 132) [false,false] [(cI 500),(cI 600)]),
oP 5 (.call (.f 132) [false,false] [(cI 4),(cI 5)]),
⟨some 6,none, .build [.str ByteArray.empty, .int .i64 0, .int .i64 0, .int .i64 0, .int .i64 0, .int .i64 0, .int .i64 0] [(0,1,(.c (.str ⟨#[109,105,100]⟩))),(1,1,(cI 400)),(2,2,(.t 4)),(4,1,(cI 100)),(5,2,(.t 5))]⟩,
oP 7 (.call (.f 132) [false,false] [(cI 2000),(cI 2000)]),
oP 8 (.call (.f 132) [false,false] [(cI 20),(cI 20)]),
⟨some 9,none, .build [.str ByteArray.empty, .int .i64 0, .int .i64 0, .int .i64 0, .int .i64 0, .int .i64 0, .int .i64 0] [(0,1,(.c (.str ⟨#[115,116,101,114,110]⟩))),(1,1,(cI 900)),(2,2,(.t 7)),(4,1,(cI 100)),(5,2,(.t 8))]⟩,
oP 10 (.lit 0 7 3 [(0,(.t 3)),(1,(.t 6)),(2,(.t 9))]),
oP 11 (.build [.slice 7 [], .int .i64 0, .int .i64 0] [(0,1,(.t 10)),(1,1,(cI 200)),(2,1,(cI 800))]),
oN (.store 3 (.t 0) (.t 11))] [0])
.ret))
abbrev Sw:RsT:=[(0,some (some 3))]
theorem QP:SpF 12 Hy Lw Sw:=SpI Tryz.func81 (by kernel_rfl)
theorem Q3:ak Tryz.prog Hy = true:=by kernel_rfl
abbrev I6:FuncId:=82
def KD:AC:=
(.seq (.reg [oP 2 (.alloc [.slice 2 [], .slice 3 []])] [0,2])
(.seq (.reg [⟨some 3,none, .build [.str ByteArray.empty, .bool false] [(0,1,(.c (.str ⟨#[97]⟩))),(1,1,(.c (.bool true)))]⟩,
⟨some 4,none, .build [.str ByteArray.empty, .bool false] [(0,1,(.c (.str ⟨#[98]⟩)))]⟩,
⟨some 5,none, .build [.str ByteArray.empty, .bool false] [(0,1,(.c (.str ⟨#[99]⟩)))]⟩,
⟨some 6,none, .build [.str ByteArray.empty, .bool false] [(0,1,(.c (.str ⟨#[100]⟩)))]⟩,
⟨some 7,none, .build [.str ByteArray.empty, .bool false] [(0,1,(.c (.str ⟨#[101]⟩)))]⟩,
oP 8 (.lit 0 2 5 [(0,(.t 3)),(1,(.t 4)),(2,(.t 5)),(3,(.t 6)),(4,(.t 7))]),
mV 9 0,
oP 10 (.build [.int .i64 0, .int .i64 0, .bool false] [(0,1,(cI 0)),(1,1,(cI 1)),(2,1,(.t 9))]),
oP 11 (.build [.int .i64 0, .int .i64 0, .bool false] [(0,1,(cI 1)),(1,1,(cI 2))]),
oP 12 (.build [.int .i64 0, .int .i64 0, .bool false] [(0,1,(cI 0)),(1,1,(cI 2))]),
oP 13 (.build [.int .i64 0, .int .i64 0, .bool false] [(0,1,(cI 2)),(1,1,(cI 3))]),
oP 14 (.build [.int .i64 0, .int .i64 0, .bool false] [(0,1,(cI 3)),(1,1,(cI 4))]),
oP 15 (.build [.int .i64 0, .int .i64 0, .bool false] [(0,1,(cI 2)),(1,1,(cI 4))]),
oP 16 (.lit 0 3 6 [(0,(.t 10)),(1,(.t 11)),(2,(.t 12)),(3,(.t 13)),(4,(.t 14)),(5,(.t 15))]),
oP 17 (.build [.slice 2 [], .slice 3 []] [(0,1,(.t 8)),(1,1,(.t 16))]),
oN (.store 2 (.t 2) (.t 17))] [2])
.ret))
abbrev Q0:RsT:=[(2,some (some 2))]
theorem Pz:SpF 18 I6 KD Q0:=SpI Tryz.func82 (by kernel_rfl)
theorem QZ:ak Tryz.prog I6 = true:=by kernel_rfl
abbrev Iq:FuncId:=85
def B1:AC:=
(.seq (.reg [oP 1 (.pbox 3 (.t 0)),
oP 2 (.mv (cI 0))] [1])
(.seq (.seq (.reg [oP 3 (.fieldAddr none 0 (.t 1)),
oP 4 (.load none (.t 3)),
oP 5 (.bin .leq (.t 4) (cI 0))] [1,5])
(.cond (.t 5)
(.seq (.reg [oP 2 (.mv (cI 1))] [2])
.ret)
.skip))
(.seq (.seq (.reg [oP 6 (.fieldAddr none 1 (.t 1)),
oP 7 (.load none (.t 6)),
oP 8 (.bin .lss (.t 7) (cI 0))] [1,8])
(.cond (.t 8)
(.seq (.reg [oP 2 (.mv (cI 2))] [2])
.ret)
.skip))
(.seq (.seq (.reg [oP 9 (.fieldAddr none 2 (.t 1)),
oP 10 (.load none (.t 9)),
oP 11 (.bin .lss (.t 10) (cI 0))] [11])
(.cond (.t 11)
(.seq (.reg [oP 2 (.mv (cI 3))] [2])
.ret)
.skip))
(.seq (.reg [oP 2 (.mv (cI 0))] [2])
.ret)))))
abbrev SG:RsT:=[(2,none)]
theorem Rp:SpF 12 Iq B1 SG:=SpI Tryz.func85 (by kernel_rfl)
theorem JP:ak Tryz.prog Iq = true:=by kernel_rfl
abbrev Hr:FuncId:=86
def O2:AC:=
(.seq (.reg [oP 3 (.pbox 3 (.t 0)),
oP 4 (.pbox 2 (.t 1)),
oP 6 (.alloc [.int .i64 0, .int .i64 0, .int .i64 0])] [2,3,4,6])
(.seq (.reg [oP 7 (.alloc [.int .i64 0, .int .i64 0, .int .i64 0])] [2,3,4,6,7])
(.seq (.seq (.reg [oP 8 (.mv (cI 0))] [2,3,4,6,7,8])
(.block 0
(.loop [2,3,4,6,7,8]
(.seq (.seq (.reg [mV 11 8,
oP 12 (.fieldAddr none 0 (.t 3)),
oP 13 (.load none (.t 12)),
oP 14 (.len (.t 13)),
oP 15 (.bin .lss (.t 11) (.t 14))] [2,3,4,6,7,8,15])
(.cond (.t 15)
.skip
(.exit 0)))
(.seq (.block 1
(.seq (.reg [oP 18 (.fieldAddr none 0 (.t 3)),
oP 19 (.load none (.t 18)),
mV 20 8,
oP 21 (.ixS 7 (.t 19) (.t 20)),
oP 22 (.load (some 7) (.t 21)),
oP 9 (.alloc [.str ByteArray.empty, .int .i64 0, .int .i64 0, .int .i64 0, .int .i64 0, .int .i64 0, .int .i64 0]),
oN (.store 7 (.t 9) (.t 22))] [2,3,4,6,7,8,9])
(.frz 9 true (.seq (.dreg [oP 23 (.fieldAddr none 0 (.t 4)),
oP 24 (.load none (.t 23)),
mV 25 8,
oP 26 (.ixS 1 (.t 24) (.t 25)),
oP 27 (.load none (.t 26)),
oP 28 (.fieldAddr none 1 (.t 4)),
oP 29 (.load none (.t 28)),
mV 30 8,
oP 31 (.ixS 1 (.t 29) (.t 30)),
oP 32 (.load none (.t 31)),
mV 33 2,
oP 34 (.fieldAddr none 4 (.t 9)),
oP 35 (.load none (.t 34)),
oP 36 (.bin .sub (.t 33) (.t 35)),
oP 37 (.mx [(cI 0),(.t 36)]),
oP 38 (.bin .mul (.t 32) (.t 37)),
oP 39 (.bin .sub (.t 27) (.t 38)),
mV 10 39] [2,3,4,6,7,8,9,10] [[],[0],[],[0,1,2],[0,1,2,3],[],[5],[],[5,6,7],[5,6,7,8],[],[],[11],[10,11,12],[10,11,12,13],[5,6,7,8,9,10,11,12,13,14],[0,1,2,3,4,5,6,7,8,9,10,11,12,13,14,15],[0,1,2,3,4,5,6,7,8,9,10,11,12,13,14,15,16]])
(.seq (.reg [oP 40 (.fieldAddr none 0 (.t 7)),
oP 41 (.load none (.t 40)),
mV 42 10,
oP 43 (.bin .add (.t 41) (.t 42)),
oP 44 (.fieldAddr none 0 (.t 7)),
oN (.store 1 (.t 44) (.t 43))] [2,3,4,6,7,8,9,10])
(.seq (.reg [oP 45 (.fieldAddr none 1 (.t 7)),
oP 46 (.load none (.t 45)),
mV 47 10,
oP 48 (.fieldAddr none 1 (.t 9)),
oP 49 (.load none (.t 48)),
oP 50 (.fieldAddr none 1 (.t 3)),
oP 51 (.load none (.t 50)),
oP 52 (.bin .sub (.t 49) (.t 51)),
oP 53 (.bin .mul (.t 47) (.t 52)),
oP 54 (.bin .add (.t 46) (.t 53)),
oP 55 (.fieldAddr none 1 (.t 7)),
oN (.store 1 (.t 55) (.t 54))] [2,3,4,6,7,8,9,10])
(.reg [oP 56 (.fieldAddr none 2 (.t 7)),
oP 57 (.load none (.t 56)),
mV 58 10,
oP 59 (.fieldAddr none 2 (.t 3)),
oP 60 (.load none (.t 59)),
oP 61 (.fieldAddr none 1 (.t 9)),
oP 62 (.load none (.t 61)),
oP 63 (.bin .sub (.t 60) (.t 62)),
oP 64 (.bin .mul (.t 58) (.t 63)),
oP 65 (.bin .add (.t 57) (.t 64)),
oP 66 (.fieldAddr none 2 (.t 7)),
oN (.store 1 (.t 66) (.t 65))] [2,3,4,6,7,8])))))))
(.reg [mV 16 8,
oP 17 (.bin .add (.t 16) (cI 1)),
mV 8 17] [2,3,4,6,7,8]))))))
(.seq (.reg [oP 67 (.load (some 3) (.t 7)),
oN (.store 3 (.t 6) (.t 67))] [6])
.ret))))
abbrev RK:RsT:=[(6,some (some 3))]
theorem R7:SpF 68 Hr O2 RK:=SpI Tryz.func86 (by kernel_rfl)
theorem EE:ak Tryz.prog Hr = true:=by kernel_rfl
abbrev Hw:FuncId:=87
def N0:AC:=
(.seq (.reg [oP 4 (.mv (cI 0))] [0,1])
(.seq (.seq (.reg [oP 5 (.mv (cI 0))] [0,1,5])
(.block 0
(.loop [0,1,5]
(.seq (.seq (.reg [mV 6 5,
mV 7 0,
oP 8 (.len (.t 7)),
oP 9 (.bin .lss (.t 6) (.t 8))] [0,1,5,9])
(.cond (.t 9)
.skip
(.exit 0)))
(.seq (.block 1
(.seq (.reg [mV 12 0,
mV 13 5,
oP 14 (.ixS 7 (.t 12) (.t 13)),
oP 15 (.fieldAddr none 0 (.t 14)),
oP 16 (.load none (.t 15)),
mV 17 1,
oP 18 (.bin .eql (.t 16) (.t 17))] [0,1,5,18])
(.cond (.t 18)
(.seq (.reg [mV 19 5,
mV 4 19] [4])
.ret)
.skip)))
(.reg [mV 10 5,
oP 11 (.bin .add (.t 10) (cI 1)),
mV 5 11] [0,1,5]))))))
(.seq (.reg [oP 4 (.mv (cI (-1)))] [4])
.ret)))
abbrev RP:RsT:=[(4,none)]
theorem QA:SpF 20 Hw N0 RP:=SpI Tryz.func87 (by kernel_rfl)
theorem ER:ak Tryz.prog Hw = true:=by kernel_rfl
abbrev Ii:FuncId:=88
def Pg:AC:=
(.seq (.reg [oP 2 (.pbox 2 (.t 0)),
oP 4 (.alloc [.slice 7 []]),
oP 5 (.mv (cI 0)),
oP 6 (.mv (cI 0)),
oP 7 (.mv (cI 0))] [1,2,4])
(.seq (.reg [oP 17 (.fieldAddr (some 1) 0 (.t 2)),
oP 18 (.load (some 1) (.t 17)),
oP 19 (.build [.slice 7 []] [(0,1,(.t 18))]),
oP 8 (.alloc [.slice 7 []]),
oN (.store 1 (.t 8) (.t 19))] [1,2,4,8])
(.seq (.seq (.reg [oP 20 (.fieldAddr (some 1) 0 (.t 8)),
oP 21 (.fieldAddr none 0 (.t 20)),
oP 22 (.load none (.t 21)),
oP 23 (.len (.t 22)),
oP 24 (.bin .gtr (.t 23) (cI 12))] [1,2,4,8,24])
(.cond (.t 24)
(.seq (.reg [oP 25 (.loadd (some 1) (.t 4)),
oN (.store 1 (.t 4) (.t 25)),
oP 5 (.mv (cI 1)),
oP 6 (.mv (cI 0)),
oP 7 (.mv (cI 3))] [4,5,6,7])
.ret)
.skip))
(.seq (.seq (.reg [oP 26 (.fieldAddr (some 1) 0 (.t 8)),
oP 27 (.fieldAddr none 0 (.t 26)),
oP 28 (.load none (.t 27)),
oP 29 (.len (.t 28)),
oP 30 (.mv (cI 0))] [1,2,4,8,28,29,30])
(.block 0
(.loop [1,2,4,8,28,29,30]
(.seq (.reg [oP 31 (.bin .lss (.t 30) (.t 29))] [1,2,4,8,28,29,30,31])
(.seq (.cond (.t 31)
.skip
(.exit 0))
(.seq (.block 1
(.seq (.reg [mV 32 30,
oP 33 (.ixS 7 (.t 28) (.t 30)),
oP 34 (.load (some 7) (.t 33)),
oP 10 (.alloc [.str ByteArray.empty, .int .i64 0, .int .i64 0, .int .i64 0, .slice 1 [], .int .i64 0, .int .i64 0]),
mV 9 32,
oN (.store 7 (.t 10) (.t 34))] [1,2,4,8,9,10,28,29,30])
(.frz 10 true (.seq (.reg [oP 35 (.load (some 7) (.t 10)),
mV 36 9,
oP 37 (.call (.f 133) [true,true,false,true] [(.t 8),(.t 35),(.t 36),(.c (.slice 7 []))]),
mV 7 37] [1,2,4,7,8,9,28,29,30])
(.seq (.reg [mV 38 7,
oP 39 (.bin .neq (.t 38) (cI 0))] [1,2,4,7,8,9,28,29,30,39])
(.cond (.t 39)
(.seq (.reg [oP 40 (.loadd (some 1) (.t 4)),
mV 41 9,
mV 42 7,
oN (.store 1 (.t 4) (.t 40)),
oP 5 (.mv (cI 1)),
mV 6 41,
mV 7 42] [4,5,6,7])
.ret)
.skip))))))
(.reg [oP 43 (.bin .add (.t 30) (cI 1)),
mV 30 43] [1,2,4,8,28,29,30])))))))
(.seq (.seq (.reg [oP 44 (.fieldAddr none 1 (.t 2)),
oP 45 (.load none (.t 44)),
oP 46 (.len (.t 45)),
oP 47 (.bin .gtr (.t 46) (cI 8))] [1,2,4,8,47])
(.cond (.t 47)
(.seq (.reg [oP 48 (.loadd (some 1) (.t 4)),
oN (.store 1 (.t 4) (.t 48)),
oP 5 (.mv (cI 2)),
oP 6 (.mv (cI 0)),
oP 7 (.mv (cI 3))] [4,5,6,7])
.ret)
.skip))
(.seq (.reg [oP 49 (.call (.f 134) [] []),
oP 11 (.mv (cI 0)),
mV 12 49] [1,2,4,8,11,12])
(.seq (.reg [oP 50 (.loadd (some 1) (.t 8)),
oN (.store 1 (.t 4) (.t 50))] [1,2,4,8,11,12])
(.seq (.seq (.reg [oP 51 (.fieldAddr none 1 (.t 2)),
oP 52 (.load none (.t 51)),
oP 53 (.len (.t 52)),
oP 54 (.mv (cI 0))] [1,4,8,11,12,52,53,54])
(.block 2
(.loop [1,4,8,11,12,52,53,54]
(.seq (.reg [oP 55 (.bin .lss (.t 54) (.t 53))] [1,4,8,11,12,52,53,54,55])
(.seq (.cond (.t 55)
.skip
(.exit 2))
(.seq (.block 3
(.seq (.reg [mV 56 54,
oP 57 (.ixS 10 (.t 52) (.t 54)),
oP 58 (.load (some 10) (.t 57)),
oP 14 (.alloc [.int .i64 0, .int .i64 0, .str ByteArray.empty, .str ByteArray.empty, .int .i64 0, .int .i64 0, .int .i64 0, .slice 1 [], .int .i64 0, .int .i64 0]),
mV 13 56,
oN (.store 10 (.t 14) (.t 58))] [1,4,8,11,12,13,14,52,53,54])
(.frz 14 true (.seq (.reg [mV 60 12,
oP 61 (.fieldAddr none 0 (.t 14)),
oP 62 (.load none (.t 61)),
oP 63 (.mget true .i (.agg [.nilfunc, .nilfunc]) (.t 60) (.t 62)),
mV 59 63,
oP 64 (.extract (.t 59) 0),
oP 65 (.extract (.t 59) 1),
oP 15 (.alloc [.nilfunc, .nilfunc]),
oN (.store 2 (.t 15) (.t 64)),
mV 16 65] [1,4,8,11,12,13,14,15,16,52,53,54])
(.frz 15 true (.seq (.block 4
(.seq (.reg [mV 67 11,
oP 68 (.fieldAddr none 1 (.t 14)),
oP 69 (.load none (.t 68)),
oP 70 (.lit 0 1 1 [(0,(.t 69))]),
oP 71 (.call (.f 135) [false,false,true] [(.t 67),(cI 40000),(.t 70)]),
mV 66 71] [1,4,8,12,13,14,15,16,52,53,54,66])
(.cond (.t 66)
(.seq (.reg [oP 72 (.loadd (some 1) (.t 4)),
mV 73 13,
oN (.store 1 (.t 4) (.t 72)),
oP 5 (.mv (cI 2)),
mV 6 73,
oP 7 (.mv (cI 7))] [4,5,6,7])
.ret)
(.seq (.reg [mV 75 16,
oP 76 (.un .not (.t 75)),
mV 77 76,
gF 78 77 (.fieldAddr none 0 (.t 15)),
gF 79 77 (.load none (.t 78)),
gF 80 77 (.load (some 10) (.t 14)),
gF 81 77 (.call (.t 79) [true] [(.t 80)]),
gF 82 77 (.un .not (.t 81)),
oP 83 (.pick (.t 77) (.c (.bool true)) (.t 82)),
mV 74 83] [1,4,8,12,13,14,15,52,53,54,74])
(.cond (.t 74)
(.seq (.reg [oP 84 (.loadd (some 1) (.t 4)),
mV 85 13,
oN (.store 1 (.t 4) (.t 84)),
oP 5 (.mv (cI 2)),
mV 6 85,
oP 7 (.mv (cI 6))] [4,5,6,7])
.ret)
.skip)))))
(.seq (.seq (.reg [oP 86 (.fieldAddr none 1 (.t 15)),
oP 87 (.load none (.t 86)),
oP 88 (.load (some 10) (.t 14)),
oP 89 (.call (.t 87) [false,true] [(.t 8),(.t 88)]),
mV 7 89] [1,4,7,8,12,13,14,52,53,54])
(.seq (.reg [mV 90 7,
oP 91 (.bin .neq (.t 90) (cI 0))] [1,4,7,8,12,13,14,52,53,54,91])
(.cond (.t 91)
(.seq (.reg [oP 92 (.loadd (some 1) (.t 4)),
mV 93 13,
mV 94 7,
oN (.store 1 (.t 4) (.t 92)),
oP 5 (.mv (cI 2)),
mV 6 93,
mV 7 94] [4,5,6,7])
.ret)
.skip)))
(.seq (.reg [oP 95 (.fieldAddr none 1 (.t 14)),
oP 96 (.load none (.t 95)),
mV 11 96] [1,4,8,11,12,52,53,54])
(.seq (.reg [mV 97 11,
mV 98 1,
oP 99 (.bin .leq (.t 97) (.t 98))] [1,4,8,11,12,52,53,54,99])
(.cond (.t 99)
(.reg [oP 100 (.loadd (some 1) (.t 8)),
oN (.store 1 (.t 4) (.t 100))] [1,4,8,11,12,52,53,54])
.skip))))))))))
(.reg [oP 101 (.bin .add (.t 54) (cI 1)),
mV 54 101] [1,4,8,11,12,52,53,54])))))))
(.seq (.reg [oP 102 (.loadd (some 1) (.t 4)),
oN (.store 1 (.t 4) (.t 102)),
oP 5 (.mv (cI 0)),
oP 6 (.mv (cI 0)),
oP 7 (.mv (cI 0))] [4,5,6,7])
.ret)))))))))
abbrev PN:RsT:=[(4,some (some 1)),(5,none),(6,none),(7,none)]
theorem RB:SpF 103 Ii Pg PN:=SpI Tryz.func88 (by kernel_rfl)
theorem Rb:ak Tryz.prog Ii = true:=by kernel_rfl
abbrev IY:FuncId:=89
def MH:AC:=
(.seq (.reg [oP 3 (.pbox 1 (.t 0)),
oP 4 (.pbox 1 (.t 1)),
oP 6 (.mv (.c (.bool false)))] [2,3,4])
(.seq (.reg [mV 7 2,
oP 8 (.mkfunc (.func 136) [] [(.t 3),(.t 4)]),
oP 9 (.call (.f 100) [true,false] [(.t 7),(.t 8)]),
mV 6 9] [6])
.ret))
abbrev P6:RsT:=[(6,none)]
theorem Si:SpF 10 IY MH P6:=SpI Tryz.func89 (by kernel_rfl)
theorem nS:ak Tryz.prog IY = true:=by kernel_rfl
abbrev IN:FuncId:=90
def Kk:AC:=
(.seq (.reg [oP 2 (.mv (.c (.bool false)))] [0])
(.seq (.seq (.reg [mV 7 0,
oP 8 (.range (.t 7))] [0,8])
(.block 0
(.loop [0,8]
(.seq (.reg [oP 9 (.next (.t 8)),
oP 10 (.extract (.t 9) 0)] [0,8,9,10])
(.seq (.cond (.t 10)
.skip
(.exit 0))
(.block 1
(.seq (.reg [oP 11 (.extract (.t 9) 1),
oP 12 (.extract (.t 9) 2),
mV 3 11,
mV 4 12] [0,3,4,8])
(.seq (.reg [mV 13 4,
oP 14 (.bin .geq (.t 13) (.c (.int .i32 97))),
mV 15 14,
gT 16 15 (.mv (.t 4)),
gT 17 15 (.bin .leq (.t 16) (.c (.int .i32 122))),
oP 18 (.pick (.t 15) (.t 17) (.c (.bool false))),
mV 19 4,
oP 20 (.bin .geq (.t 19) (.c (.int .i32 48))),
mV 21 20,
gT 22 21 (.mv (.t 4)),
gT 23 21 (.bin .leq (.t 22) (.c (.int .i32 57))),
oP 24 (.pick (.t 21) (.t 23) (.c (.bool false))),
mV 5 18,
mV 6 24] [0,3,5,6,8])
(.seq (.reg [mV 25 5,
oP 26 (.un .not (.t 25)),
mV 27 26,
gT 28 27 (.mv (.t 6)),
gT 29 27 (.un .not (.t 28)),
gT 30 27 (.mv (.t 29)),
gF 31 30 (.mv (.t 3)),
gF 32 30 (.bin .eql (.t 31) (cI 0)),
gT 33 27 (.pick (.t 30) (.c (.bool true)) (.t 32)),
oP 34 (.pick (.t 27) (.t 33) (.c (.bool false)))] [0,8,34])
(.cond (.t 34)
(.seq (.reg [oP 2 (.mv (.c (.bool false)))] [2])
.ret)
.skip))))))))))
(.seq (.reg [mV 35 0,
⟨some 36,none, .bin .neq (.t 35) (.c (.str ⟨#[]⟩))⟩,
mV 37 36,
gT 38 37 (.mv (.t 0)),
gT 39 37 (.lenStr (.t 38)),
gT 40 37 (.bin .leq (.t 39) (cI 16)),
oP 41 (.pick (.t 37) (.t 40) (.c (.bool false))),
mV 2 41] [2])
.ret)))
abbrev QQ:RsT:=[(2,none)]
theorem PK:SpF 42 IN Kk QQ:=SpI Tryz.func90 (by kernel_rfl)
theorem Bd:ak Tryz.prog IN = true:=by kernel_rfl
abbrev Iu:FuncId:=91
def KQ:AC:=
(.seq (.reg [oP 4 (.mv (.c (.bool false)))] [0,1])
(.seq (.reg [mV 5 0,
mV 6 1,
oP 7 (.call (.f 137) [true,false] [(.t 5),(.t 6)]),
oP 8 (.bin .geq (.t 7) (cI 0)),
mV 4 8] [4])
.ret))
abbrev QU:RsT:=[(4,none)]
theorem SQ:SpF 9 Iu KQ QU:=SpI Tryz.func91 (by kernel_rfl)
theorem KJ:ak Tryz.prog Iu = true:=by kernel_rfl
abbrev Fc:FuncId:=92
def Kx:AC:=
(.seq (.reg [oP 2 (.pbox 7 (.t 0)),
oP 3 (.mv (.c (.bool false)))] [1,2])
(.seq (.reg [oP 4 (.fieldAddr none 0 (.t 2)),
oP 5 (.load none (.t 4)),
oP 6 (.fieldAddr none 0 (.t 1)),
oP 7 (.load none (.t 6)),
oP 8 (.bin .eql (.t 5) (.t 7)),
mV 3 8] [3])
.ret))
abbrev Sj:RsT:=[(3,none)]
theorem RT:SpF 9 Fc Kx Sj:=SpI Tryz.func92 (by kernel_rfl)
theorem Ri:ak Tryz.prog Fc = true:=by kernel_rfl
abbrev Ib:FuncId:=93
def Ny:AC:=
(.seq (.reg [oP 1 (.pbox 7 (.t 0)),
oP 2 (.mv (cI 0))] [1])
(.seq (.block 0
(.seq (.reg [oP 4 (.fieldAddr none 1 (.t 1)),
oP 5 (.load none (.t 4)),
oP 6 (.lit 0 1 1 [(0,(.t 5))]),
oP 7 (.call (.f 89) [false,false,true] [(cI 0),(cI 5000),(.t 6)]),
mV 8 7,
gF 9 8 (.fieldAddr none 4 (.t 1)),
gF 10 8 (.load none (.t 9)),
gF 11 8 (.lit 0 1 1 [(0,(.t 10))]),
gF 12 8 (.call (.f 89) [false,false,true] [(cI 0),(cI 1000),(.t 11)]),
oP 13 (.pick (.t 8) (.c (.bool true)) (.t 12)),
mV 14 13,
gF 15 14 (.fieldAddr (some 2) 2 (.t 1)),
gF 16 14 (.fieldAddr none 0 (.t 15)),
gF 17 14 (.load none (.t 16)),
gF 18 14 (.fieldAddr (some 2) 2 (.t 1)),
gF 19 14 (.fieldAddr none 1 (.t 18)),
gF 20 14 (.load none (.t 19)),
gF 21 14 (.lit 0 1 2 [(0,(.t 17)),(1,(.t 20))]),
gF 22 14 (.call (.f 89) [false,false,true] [(cI 0),(cI 1000000),(.t 21)]),
oP 23 (.pick (.t 14) (.c (.bool true)) (.t 22)),
mV 24 23,
gF 25 24 (.fieldAddr (some 2) 5 (.t 1)),
gF 26 24 (.fieldAddr none 0 (.t 25)),
gF 27 24 (.load none (.t 26)),
gF 28 24 (.fieldAddr (some 2) 5 (.t 1)),
gF 29 24 (.fieldAddr none 1 (.t 28)),
gF 30 24 (.load none (.t 29)),
gF 31 24 (.lit 0 1 2 [(0,(.t 27)),(1,(.t 30))]),
gF 32 24 (.call (.f 89) [false,false,true] [(cI 0),(cI 5000),(.t 31)]),
oP 33 (.pick (.t 24) (.c (.bool true)) (.t 32)),
mV 3 33] [1,3])
(.cond (.t 3)
(.seq (.reg [oP 2 (.mv (cI 7))] [2])
.ret)
(.seq (.reg [oP 35 (.fieldAddr (some 2) 2 (.t 1)),
oP 36 (.fieldAddr none 0 (.t 35)),
oP 37 (.load none (.t 36)),
oP 38 (.fieldAddr (some 2) 2 (.t 1)),
oP 39 (.fieldAddr none 1 (.t 38)),
oP 40 (.load none (.t 39)),
oP 41 (.bin .gtr (.t 37) (.t 40)),
mV 42 41,
gF 43 42 (.fieldAddr (some 2) 5 (.t 1)),
gF 44 42 (.fieldAddr none 0 (.t 43)),
gF 45 42 (.load none (.t 44)),
gF 46 42 (.fieldAddr (some 2) 5 (.t 1)),
gF 47 42 (.fieldAddr none 1 (.t 46)),
gF 48 42 (.load none (.t 47)),
gF 49 42 (.bin .gtr (.t 45) (.t 48)),
oP 50 (.pick (.t 42) (.c (.bool true)) (.t 49)),
mV 34 50] [34])
(.cond (.t 34)
(.seq (.reg [oP 2 (.mv (cI 2))] [2])
.ret)
.skip)))))
(.seq (.reg [oP 2 (.mv (cI 0))] [2])
.ret)))
abbrev Rk:RsT:=[(2,none)]
theorem SB:SpF 51 Ib Ny Rk:=SpI Tryz.func93 (by kernel_rfl)
theorem Qd:ak Tryz.prog Ib = true:=by kernel_rfl
abbrev Il:FuncId:=94
def Ky:AC:=
(.seq (.reg [oP 1 (.pbox 2 (.t 0)),
oP 2 (.mv (cI 0))] [1])
(.seq (.block 0
(.seq (.reg [oP 4 (.fieldAddr none 0 (.t 1)),
oP 5 (.load none (.t 4)),
oP 6 (.fieldAddr none 1 (.t 1)),
oP 7 (.load none (.t 6)),
oP 8 (.lit 0 1 2 [(0,(.t 5)),(1,(.t 7))]),
oP 9 (.call (.f 89) [false,false,true] [(cI 0),(cI 1000),(.t 8)]),
mV 3 9] [1,3])
(.cond (.t 3)
(.seq (.reg [oP 2 (.mv (cI 7))] [2])
.ret)
(.seq (.reg [oP 11 (.fieldAddr none 0 (.t 1)),
oP 12 (.load none (.t 11)),
oP 13 (.fieldAddr none 1 (.t 1)),
oP 14 (.load none (.t 13)),
oP 15 (.bin .gtr (.t 12) (.t 14)),
mV 10 15] [10])
(.cond (.t 10)
(.seq (.reg [oP 2 (.mv (cI 2))] [2])
.ret)
.skip)))))
(.seq (.reg [oP 2 (.mv (cI 0))] [2])
.ret)))
abbrev Qa:RsT:=[(2,none)]
theorem RR:SpF 16 Il Ky Qa:=SpI Tryz.func94 (by kernel_rfl)
theorem Sp:ak Tryz.prog Il = true:=by kernel_rfl
abbrev HG:FuncId:=95
def LA:AC:=
(.seq (.reg [oP 2 (.pbox 3 (.t 0)),
oP 3 (.pbox 2 (.t 1)),
oP 4 (.alloc [.int .i64 0]),
oP 5 (.alloc [.int .i64 0])] [2,3,4,5])
(.scope
(.seq (.label 0)
(.seq (.seq (.reg [oP 10 (.load (some 3) (.t 2)),
oP 11 (.load (some 2) (.t 3)),
oP 12 (.call (.f 138) [true,false] [(.t 10),(.t 11)])] [2,4,5,12])
(.block 0
(.bF (.t 12) [13] (.reg [oP 6 (.alloc [.int .i64 0, .int .i64 0]),
oN (.store 2 (.t 6) (.t 13))] [2,4,5,6])
(.block 1
(.seq (.seq (.reg [oP 14 (.load (some 3) (.t 2)),
oP 15 (.fieldAddr none 0 (.t 6)),
oP 16 (.load none (.t 15)),
oP 17 (.call (.f 139) [true,false] [(.t 14),(.t 16)]),
oP 18 (.call (.f 140) [false] [(.t 17)]),
oN (.store 1 (.t 4) (.t 18))] [2,4,5,6])
(.seq (.reg [oP 19 (.load none (.t 4)),
oP 20 (.bin .neq (.t 19) (cI 0))] [2,4,5,6,20])
(.cond (.t 20)
(.seq (.dreg [oP 21 (.load none (.t 4)),
oP 22 (.fieldAddr none 0 (.t 6)),
oP 23 (.load none (.t 22)),
oN (.store 1 (.t 4) (.t 21)),
oN (.store 1 (.t 5) (.t 23))] [4,5] [[],[],[1],[0],[0,1,2,3]])
.ret)
.skip)))
(.seq (.seq (.reg [oP 24 (.load (some 3) (.t 2)),
oP 25 (.fieldAddr none 1 (.t 6)),
oP 26 (.load none (.t 25)),
oP 27 (.call (.f 139) [true,false] [(.t 24),(.t 26)]),
oP 28 (.call (.f 140) [false] [(.t 27)]),
oP 29 (.bin .eql (.t 28) (cI 0))] [2,4,5,6,29])
(.cond (.t 29)
(.exit 1)
.skip))
(.seq (.dreg [oP 30 (.fieldAddr none 0 (.t 6)),
oP 31 (.load none (.t 30)),
oP 32 (.fieldAddr none 1 (.t 6)),
oP 33 (.load none (.t 32)),
mV 7 31,
mV 8 33] [2,4,5,7,8] [[],[0],[],[2],[0,1],[0,1,2,3,4]])
(.seq (.block 2
(.loop [2,4,5,7,8]
(.seq (.seq (.reg [mV 34 8,
mV 35 7,
oP 36 (.bin .sub (.t 34) (.t 35)),
oP 37 (.bin .gtr (.t 36) (cI 1))] [2,4,5,7,8,37])
(.cond (.t 37)
.skip
(.exit 2)))
(.block 3
(.seq (.reg [mV 38 7,
mV 39 8,
oP 40 (.bin .add (.t 38) (.t 39)),
oP 41 (.bin .quo (.t 40) (cI 2)),
mV 9 41] [2,4,5,7,8,9])
(.seq (.reg [oP 42 (.load (some 3) (.t 2)),
mV 43 9,
oP 44 (.call (.f 139) [true,false] [(.t 42),(.t 43)]),
oP 45 (.call (.f 140) [false] [(.t 44)]),
oP 46 (.bin .eql (.t 45) (cI 0))] [2,4,5,7,8,9,46])
(.cond (.t 46)
(.reg [mV 47 9,
mV 7 47] [2,4,5,7,8])
(.reg [mV 48 9,
mV 8 48] [2,4,5,7,8]))))))))
(.seq (.reg [oP 49 (.load (some 3) (.t 2)),
mV 50 8,
oP 51 (.call (.f 139) [true,false] [(.t 49),(.t 50)]),
oP 52 (.call (.f 140) [false] [(.t 51)]),
mV 53 8,
oN (.store 1 (.t 4) (.t 52)),
oN (.store 1 (.t 5) (.t 53))] [4,5])
.ret)))))))))
(.seq (.reg [oN (.store 1 (.t 4) (cI 0)),
oN (.store 1 (.t 5) (cI 0))] [4,5])
.ret)))))
abbrev Q6:RsT:=[(4,some none),(5,some none)]
theorem Qm:SpF 54 HG LA Q6:=SpI Tryz.func95 (by kernel_rfl)
theorem RE:ak Tryz.prog HG = true:=by kernel_rfl
abbrev I5:FuncId:=96
def Ig:AC:=
(.seq (.reg [oP 4 (.pbox 2 (.t 0)),
oP 8 (.alloc [.nilptr]),
oP 9 (.alloc [.int .i64 0])] [1,2,3,4,8,9])
(.seq (.seq (.reg [oP 16 (.load (some 2) (.t 4)),
oP 17 (.call (.f 141) [true] [(.t 16)]),
mV 15 17,
oP 18 (.extract (.t 15) 0),
oP 19 (.extract (.t 15) 1),
oP 20 (.extract (.t 15) 2),
oN (.store 1 (.t 9) (.t 20))] [1,2,3,4,8,9])
(.seq (.reg [oP 21 (.load none (.t 9)),
oP 22 (.bin .neq (.t 21) (cI 0))] [1,2,3,4,8,9,22])
(.cond (.t 22)
(.seq (.dreg [oP 23 (.load none (.t 9)),
oN (.store 1 (.t 8) (.c .nilptr)),
oN (.store 1 (.t 9) (.t 23))] [8,9] [[],[],[0,1]])
.ret)
.skip)))
(.seq (.dfr 24 142 [(.t 8),(.t 9)] [1,2,3,4,8,9])
(.seq (.reg [oP 25 (.load (some 2) (.t 4)),
oP 26 (.build [.slice 2 [], .slice 3 [], .int .u64 0, .int .u64 0, .bool false, .bool false, .bool false, .bool false, .bool false, .bool false, .bool false, .bool false, .bool false, .bool false, .bool false, .bool false] [(0,2,(.t 25))]),
oP 27 (.box 16 (.t 26)),
oN (.store 1 (.t 8) (.t 27))] [1,2,3,4,8,9])
(.seq (.reg [mV 28 1,
oP 29 (.fieldAddr none 1 (.t 4)),
oP 30 (.load none (.t 29)),
oP 31 (.len (.t 30)),
oP 32 (.mkfunc (.func 144) [] [(.t 4)]),
oP 33 (.call (.f 143) [true,false,false] [(.t 28),(.t 31),(.t 32)])] [1,2,3,4,8,9])
(.seq (.seq (.reg [mV 34 3] [1,2,4,8,9,34])
(.cond (.t 34)
(.seq (.seq (.reg [mV 35 2,
oP 36 (.len (.t 35)),
oP 37 (.bin .eql (.t 36) (cI 0))] [1,2,4,8,9,37])
(.cond (.t 37)
(.reg [oP 38 (.mkiface 39 (cI 3)),
oN (.panic (.t 38))] [1,2,4,8,9])
.skip))
(.reg [mV 39 2,
oP 40 (.fieldAddr none 0 (.t 4)),
oP 41 (.load none (.t 40)),
oP 42 (.len (.t 41)),
oP 43 (.mkfunc (.func 145) [] [(.t 4)]),
oP 44 (.call (.f 143) [true,false,false] [(.t 39),(.t 42),(.t 43)])] [1,2,4,8,9]))
.skip))
(.seq (.seq (.reg [oP 45 (.fieldAddr none 1 (.t 4)),
oP 46 (.load none (.t 45)),
oP 47 (.len (.t 46)),
oP 48 (.mv (cI 0))] [1,2,4,8,9,47,48])
(.block 0
(.loop [1,2,4,8,9,47,48]
(.seq (.reg [oP 49 (.bin .lss (.t 48) (.t 47))] [1,2,4,8,9,47,48,49])
(.seq (.cond (.t 49)
.skip
(.exit 0))
(.seq (.block 1
(.seq (.reg [mV 50 48,
mV 10 50] [1,2,4,8,9,10,47,48])
(.dreg [oP 51 (.load none (.t 8)),
mV 52 10,
mV 53 1,
mV 54 10,
oP 55 (.call (.f 78) [true,false] [(.t 53),(.t 54)]),
oP 56 (.un .not (.t 55)),
oP 57 (.nilchk (.t 51)),
oP 58 (.fieldAddr (some 12) 4 (.t 57)),
oP 59 (.ixA 12 1 none (.t 58) (.t 52)),
oN (.store 1 (.t 59) (.t 56))] [1,2,4,8,9,47,48] [[],[],[],[],[2,3],[2,3,4],[0],[0,6],[0,1,2,3,4,5,6,7],[0,1,2,3,4,5,6,7,8]])))
(.reg [oP 60 (.bin .add (.t 48) (cI 1)),
mV 48 60] [1,2,4,8,9,47,48])))))))
(.seq (.seq (.reg [oP 61 (.fieldAddr none 0 (.t 4)),
oP 62 (.load none (.t 61)),
oP 63 (.len (.t 62)),
oP 64 (.mv (cI 0))] [2,8,9,62,63,64])
(.block 2
(.loop [2,8,9,62,63,64]
(.seq (.reg [oP 65 (.bin .lss (.t 64) (.t 63))] [2,8,9,62,63,64,65])
(.seq (.cond (.t 65)
.skip
(.exit 2))
(.seq (.block 3
(.seq (.reg [mV 66 64,
oP 67 (.ixS 2 (.t 62) (.t 64)),
oP 68 (.load (some 2) (.t 67)),
oP 12 (.alloc [.str ByteArray.empty, .bool false]),
mV 11 66,
oN (.store 2 (.t 12) (.t 68))] [2,8,9,11,12,62,63,64])
(.frz 12 true (.seq (.reg [oP 69 (.fieldAddr none 1 (.t 12)),
oP 70 (.load none (.t 69))] [2,8,9,11,62,63,64,70])
(.cond (.t 70)
(.dreg [oP 71 (.load none (.t 8)),
oP 72 (.nilchk (.t 71)),
oP 73 (.fieldAddr none 2 (.t 72)),
oP 74 (.load none (.t 73)),
mV 75 11,
oP 76 (.call (.f 146) [false] [(.t 75)]),
oP 77 (.bin .or (.t 74) (.t 76)),
oP 78 (.nilchk (.t 71)),
oP 79 (.fieldAddr none 2 (.t 78)),
oN (.store 1 (.t 79) (.t 77))] [2,8,9,62,63,64] [[],[0],[0,1],[0,1,2],[],[4],[0,1,2,3,4,5],[0,1,2,3,4,5,6],[0,1,2,3,4,5,6,7],[0,1,2,3,4,5,6,7,8]])
.skip)))))
(.reg [oP 80 (.bin .add (.t 64) (cI 1)),
mV 64 80] [2,8,9,62,63,64])))))))
(.seq (.seq (.reg [mV 81 2,
oP 82 (.len (.t 81)),
oP 83 (.mv (cI 0))] [8,9,81,82,83])
(.block 4
(.loop [8,9,81,82,83]
(.seq (.reg [oP 84 (.bin .lss (.t 83) (.t 82))] [8,9,81,82,83,84])
(.seq (.cond (.t 84)
.skip
(.exit 4))
(.seq (.block 5
(.seq (.reg [oP 85 (.ixS 1 (.t 81) (.t 83)),
oP 86 (.load none (.t 85)),
mV 14 86] [8,9,14,81,82,83])
(.dreg [oP 87 (.load none (.t 8)),
oP 88 (.nilchk (.t 87)),
oP 89 (.fieldAddr none 3 (.t 88)),
oP 90 (.load none (.t 89)),
mV 91 14,
oP 92 (.call (.f 146) [false] [(.t 91)]),
oP 93 (.bin .or (.t 90) (.t 92)),
oP 94 (.nilchk (.t 87)),
oP 95 (.fieldAddr none 3 (.t 94)),
oN (.store 1 (.t 95) (.t 93))] [8,9,81,82,83] [[],[0],[0,1],[0,1,2],[],[4],[0,1,2,3,4,5],[0,1,2,3,4,5,6],[0,1,2,3,4,5,6,7],[0,1,2,3,4,5,6,7,8]])))
(.reg [oP 96 (.bin .add (.t 83) (cI 1)),
mV 83 96] [8,9,81,82,83])))))))
(.seq (.reg [oP 97 (.load none (.t 8)),
oN (.store 1 (.t 8) (.t 97)),
oN (.store 1 (.t 9) (cI 0))] [8,9])
.ret))))))))))
abbrev NK:RsT:=[(8,some none),(9,some none)]
theorem PO:TF Tryz.prog Tryz.f96 98 Ig NK = true:=by kernel_rfl
theorem Qt {args:List ab} {σ:af} {R:dF → af → Prop} (ha:args.length ≤ 98) (h:AW Tryz.prog 98 none Ig (sT Tryz.prog NK R) { v:=cZ args 0,ds:=[] } σ):Spec Tryz.prog I5 args σ R:=Spec.CA Tryz.func96 PO ha h
theorem RH:ak Tryz.prog I5 = true:=by kernel_rfl
abbrev Hx:FuncId:=97
def Ms:AC:=
(.seq (.reg [oP 2 (.pbox 1 (.t 0)),
oP 4 (.mv (.c (.bool false)))] [1,2])
(.seq (.reg [mV 5 1,
oP 6 (.mkfunc (.func 147) [] [(.t 2)]),
oP 7 (.call (.f 100) [true,false] [(.t 5),(.t 6)]),
mV 4 7] [4])
.ret))
abbrev P9:RsT:=[(4,none)]
theorem Sa:SpF 8 Hx Ms P9:=SpI Tryz.func97 (by kernel_rfl)
theorem B3:ak Tryz.prog Hx = true:=by kernel_rfl
abbrev HV:FuncId:=98
def Dc:AC:=
(.seq (.reg [oP 4 (.box 2 (.t 1)),
oP 5 (.pbox 2 (.t 2)),
oP 6 (.alloc [.int .u64 0, .int .u64 0]),
oP 7 (.mv (.c (.bool false)))] [0,4,5,6])
(.seq (.seq (.dreg [mV 8 0,
oP 9 (.nilchk (.t 8)),
oP 10 (.fieldAddr none 2 (.t 9)),
oP 11 (.load none (.t 10)),
oP 12 (.fieldAddr none 0 (.t 5)),
oP 13 (.load none (.t 12)),
oP 14 (.call (.f 148) [false,false] [(.t 11),(.t 13)]),
mV 15 14,
gF 16 15 (.fieldAddr none 1 (.t 4)),
gF 17 15 (.load none (.t 16)),
gF 18 15 (.fieldAddr none 0 (.t 5)),
gF 19 15 (.load none (.t 18)),
gF 20 15 (.call (.f 148) [false,false] [(.t 17),(.t 19)]),
gF 21 15 (.fieldAddr none 1 (.t 5)),
gF 22 15 (.load none (.t 21)),
gF 23 15 (.eqb true (.t 20) (.t 22)),
oP 24 (.pick (.t 15) (.c (.bool true)) (.t 23))] [0,4,5,6,24] [[],[0],[0,1],[0,1,2],[],[4],[0,1,2,3,4,5],[0,1,2,3,4,5,6],[0,1,2,3,4,5,6,7],[0,1,2,3,4,5,6,7,8],[0,1,2,3,4,5,6,7],[0,1,2,3,4,5,6,7,10],[0,1,2,3,4,5,6,7,8,9,10,11],[0,1,2,3,4,5,6,7],[0,1,2,3,4,5,6,7,13],[0,1,2,3,4,5,6,7,8,9,10,11,12,13,14],[0,1,2,3,4,5,6,7,8,9,10,11,12,13,14,15]])
(.cond (.t 24)
(.seq (.reg [oP 25 (.load (some 2) (.t 4)),
oN (.store 2 (.t 6) (.t 25)),
oP 7 (.mv (.c (.bool false)))] [6,7])
.ret)
.skip))
(.seq (.seq (.reg [oP 26 (.fieldAddr none 1 (.t 5)),
oP 27 (.load none (.t 26))] [0,4,5,6,27])
(.cond (.t 27)
(.dreg [oP 28 (.fieldAddr none 1 (.t 4)),
oP 29 (.load none (.t 28)),
oP 30 (.fieldAddr none 0 (.t 5)),
oP 31 (.load none (.t 30)),
oP 32 (.call (.f 146) [false] [(.t 31)]),
oP 33 (.bin .andNot (.t 29) (.t 32)),
oP 34 (.fieldAddr none 1 (.t 4)),
oN (.store 1 (.t 34) (.t 33))] [0,4,6] [[],[0],[],[2],[2,3],[0,1,2,3,4],[0,1,2,3,4,5],[0,1,2,3,4,5,6]])
(.seq (.dreg [oP 35 (.fieldAddr none 1 (.t 4)),
oP 36 (.load none (.t 35)),
oP 37 (.fieldAddr none 0 (.t 5)),
oP 38 (.load none (.t 37)),
oP 39 (.call (.f 146) [false] [(.t 38)]),
oP 40 (.bin .or (.t 36) (.t 39)),
oP 41 (.fieldAddr none 1 (.t 4)),
oN (.store 1 (.t 41) (.t 40))] [0,4,5,6] [[],[0],[],[2],[2,3],[0,1,2,3,4],[0,1,2,3,4,5],[0,1,2,3,4,5,6]])
(.dreg [oP 42 (.fieldAddr none 0 (.t 4)),
oP 43 (.load none (.t 42)),
oP 44 (.fieldAddr none 0 (.t 5)),
oP 45 (.load none (.t 44)),
oP 46 (.call (.f 146) [false] [(.t 45)]),
oP 47 (.bin .or (.t 43) (.t 46)),
oP 48 (.fieldAddr none 0 (.t 4)),
oN (.store 1 (.t 48) (.t 47))] [0,4,6] [[],[0],[],[2],[2,3],[0,1,2,3,4],[0,1,2,3,4,5],[0,1,2,3,4,5,6]]))))
(.seq (.reg [mV 49 0,
oP 50 (.load (some 2) (.t 4)),
oP 51 (.call (.f 149) [false,false] [(.t 49),(.t 50)]),
oN (.store 2 (.t 6) (.t 51)),
oP 7 (.mv (.c (.bool true)))] [6,7])
.ret))))
abbrev PX:RsT:=[(6,some (some 2)),(7,none)]
theorem Ro:SpF 52 HV Dc PX:=SpI Tryz.func98 (by kernel_rfl)
theorem Np:ak Tryz.prog HV = true:=by kernel_rfl
abbrev I8:FuncId:=99
def KT:AC:=
(.seq (.reg [oP 2 (.nilS 1 1)] [0,2])
(.seq (.seq (.reg [oP 4 (.mv (cI 0))] [0,2,4])
(.block 0
(.loop [0,2,4]
(.seq (.reg [oP 5 (.bin .lss (.t 4) (cI 7))] [0,2,4,5])
(.seq (.cond (.t 5)
.skip
(.exit 0))
(.seq (.block 1
(.seq (.reg [mV 6 4,
mV 3 6] [0,2,3,4])
(.seq (.reg [mV 7 0,
mV 8 3,
oP 9 (.call (.f 148) [false,false] [(.t 7),(.t 8)])] [0,2,3,4,9])
(.cond (.t 9)
(.reg [mV 10 2,
mV 11 3,
oP 12 (.lit 0 1 1 [(0,(.t 11))]),
oP 13 (.append 1 8 (.t 10) (.t 12)),
mV 2 13] [0,2,4])
.skip))))
(.reg [oP 14 (.bin .add (.t 4) (cI 1)),
mV 4 14] [0,2,4])))))))
(.seq (.reg [mV 15 2,
oP 2 (.mvd (.t 15))] [2])
.ret)))
abbrev RF:RsT:=[(2,none)]
theorem Rd:SpF 16 I8 KT RF:=SpI Tryz.func99 (by kernel_rfl)
theorem Kv:ak Tryz.prog I8 = true:=by kernel_rfl
abbrev Dk:FuncId:=100
def F7:AC:=
(.seq (.reg [oP 4 (.mv (.c (.bool false)))] [0,1])
(.seq (.reg [mV 5 0,
mV 6 1,
oP 7 (.call (.f 150) [true,false] [(.t 5),(.t 6)]),
oP 8 (.bin .geq (.t 7) (cI 0)),
mV 4 8] [4])
.ret))
abbrev Ox:RsT:=[(4,none)]
theorem J1:SpF 9 Dk F7 Ox:=SpI Tryz.func100 (by kernel_rfl)
theorem uw:ak Tryz.prog Dk = true:=by kernel_rfl
abbrev B4:FuncId:=101
def Gn:AC:=
(.seq (.reg [oP 3 (.mv (.c (.bool false)))] [0,1])
(.seq (.reg [mV 4 0,
oP 5 (.bin .lss (.t 4) (cI 0)),
mV 6 5,
gF 7 6 (.mv (.t 0)),
gF 8 6 (.load none (.t 1)),
gF 9 6 (.bin .geq (.t 7) (.t 8)),
oP 10 (.pick (.t 6) (.c (.bool true)) (.t 9)),
mV 3 10] [3])
.ret))
abbrev Oi:RsT:=[(3,none)]
theorem OA:SpF 11 B4 Gn Oi:=SpI Tryz.func101 (by kernel_rfl)
theorem Mw:ak Tryz.prog B4 = true:=by kernel_rfl
abbrev CQ:FuncId:=102
def F2:AC:=
(.seq (.reg [oP 3 (.pbox 7 (.t 0)),
oP 6 (.mv (cI 0))] [1,2,3])
(.seq (.seq (.reg [oP 11 (.fieldAddr none 0 (.t 3)),
oP 12 (.load none (.t 11)),
oP 13 (.call (.f 151) [false] [(.t 12)]),
oP 14 (.un .not (.t 13))] [1,2,3,14])
(.cond (.t 14)
(.seq (.reg [oP 6 (.mv (cI 6))] [6])
.ret)
.skip))
(.seq (.seq (.reg [mV 15 2,
oP 16 (.fieldAddr none 0 (.t 3)),
oP 17 (.load none (.t 16)),
oP 18 (.call (.f 87) [true,false] [(.t 15),(.t 17)]),
oP 19 (.bin .geq (.t 18) (cI 0))] [1,3,19])
(.cond (.t 19)
(.seq (.reg [oP 6 (.mv (cI 5))] [6])
.ret)
.skip))
(.seq (.reg [oP 20 (.fieldAddr (some 2) 5 (.t 3)),
oP 21 (.load (some 2) (.t 20)),
oP 22 (.call (.f 152) [false,false,false] [(.t 21),(cI 1),(cI 1000000)]),
mV 7 22] [1,3,7])
(.seq (.seq (.reg [oP 23 (.fieldAddr none 1 (.t 3)),
oP 24 (.load none (.t 23)),
oP 25 (.call (.f 103) [false,false,false] [(.t 24),(cI 1),(cI 5)]),
oP 26 (.un .not (.t 25)),
mV 27 26,
gF 28 27 (.fieldAddr none 2 (.t 3)),
gF 29 27 (.load none (.t 28)),
gF 30 27 (.call (.f 103) [false,false,false] [(.t 29),(cI 0),(cI 40)]),
gF 31 27 (.un .not (.t 30)),
oP 32 (.pick (.t 27) (.c (.bool true)) (.t 31)),
mV 33 32,
gF 34 33 (.fieldAddr none 3 (.t 3)),
gF 35 33 (.load none (.t 34)),
gF 36 33 (.call (.f 103) [false,false,false] [(.t 35),(cI 0),(cI 40)]),
gF 37 33 (.un .not (.t 36)),
oP 38 (.pick (.t 33) (.c (.bool true)) (.t 37)),
mV 39 38,
gF 40 39 (.mv (.t 7)),
gF 41 39 (.bin .eql (.t 40) (cI 7)),
oP 42 (.pick (.t 39) (.c (.bool true)) (.t 41))] [1,3,7,42])
(.cond (.t 42)
(.seq (.reg [oP 6 (.mv (cI 7))] [6])
.ret)
.skip))
(.seq (.seq (.reg [oP 43 (.fieldAddr none 2 (.t 3)),
oP 44 (.load none (.t 43)),
oP 45 (.fieldAddr none 3 (.t 3)),
oP 46 (.load none (.t 45)),
oP 47 (.bin .gtr (.t 44) (.t 46)),
mV 48 47,
gF 49 48 (.mv (.t 7)),
gF 50 48 (.bin .neq (.t 49) (cI 0)),
oP 51 (.pick (.t 48) (.c (.bool true)) (.t 50))] [1,3,51])
(.cond (.t 51)
(.seq (.reg [oP 6 (.mv (cI 2))] [6])
.ret)
.skip))
(.seq (.seq (.reg [oP 8 (.mv (cI 0))] [1,3,8])
(.block 0
(.loop [1,3,8]
(.seq (.seq (.reg [mV 52 8,
oP 53 (.fieldAddr none 4 (.t 3)),
oP 54 (.load none (.t 53)),
oP 55 (.len (.t 54)),
oP 56 (.bin .lss (.t 52) (.t 55))] [1,3,8,56])
(.cond (.t 56)
.skip
(.exit 0)))
(.seq (.block 1
(.seq (.reg [mV 59 1,
oP 60 (.fieldAddr none 4 (.t 3)),
oP 61 (.load none (.t 60)),
mV 62 8,
oP 63 (.ixS 1 (.t 61) (.t 62)),
oP 64 (.load none (.t 63)),
oP 65 (.call (.f 87) [true,false] [(.t 59),(.t 64)]),
oP 66 (.bin .lss (.t 65) (cI 0))] [1,3,8,66])
(.cond (.t 66)
(.seq (.reg [oP 6 (.mv (cI 4))] [6])
.ret)
.skip)))
(.reg [mV 57 8,
oP 58 (.bin .add (.t 57) (cI 1)),
mV 8 58] [1,3,8]))))))
(.seq (.seq (.reg [oP 9 (.mv (cI 0))] [1,3,9])
(.block 2
(.loop [1,3,9]
(.seq (.seq (.reg [mV 67 9,
oP 68 (.fieldAddr none 4 (.t 3)),
oP 69 (.load none (.t 68)),
oP 70 (.len (.t 69)),
oP 71 (.bin .lss (.t 67) (.t 70))] [1,3,9,71])
(.cond (.t 71)
.skip
(.exit 2)))
(.seq (.block 3
(.seq (.dreg [oP 74 (.fieldAddr none 4 (.t 3)),
oP 75 (.load none (.t 74)),
mV 76 9,
oP 77 (.subq 1 (.t 75) none (some (.t 76))),
oP 78 (.fieldAddr none 4 (.t 3)),
oP 79 (.load none (.t 78)),
mV 80 9,
oP 81 (.ixS 1 (.t 79) (.t 80)),
oP 82 (.load none (.t 81)),
oP 83 (.call (.f 117) [true,false] [(.t 77),(.t 82)]),
oP 84 (.bin .geq (.t 83) (cI 0))] [1,3,9,84] [[],[0],[],[0,1,2],[],[4],[],[4,5,6],[4,5,6,7],[0,1,2,3,4,5,6,7,8],[0,1,2,3,4,5,6,7,8,9]])
(.cond (.t 84)
(.seq (.reg [oP 6 (.mv (cI 5))] [6])
.ret)
.skip)))
(.reg [mV 72 9,
oP 73 (.bin .add (.t 72) (cI 1)),
mV 9 73] [1,3,9]))))))
(.seq (.seq (.reg [oP 10 (.mv (cI 0))] [1,3,10])
(.block 4
(.loop [1,3,10]
(.seq (.seq (.reg [mV 85 10,
oP 86 (.fieldAddr none 4 (.t 3)),
oP 87 (.load none (.t 86)),
oP 88 (.len (.t 87)),
oP 89 (.bin .lss (.t 85) (.t 88))] [1,3,10,89])
(.cond (.t 89)
.skip
(.exit 4)))
(.seq (.block 5
(.seq (.dreg [oP 92 (.load (some 7) (.t 3)),
mV 93 1,
mV 94 1,
oP 95 (.fieldAddr none 4 (.t 3)),
oP 96 (.load none (.t 95)),
mV 97 10,
oP 98 (.ixS 1 (.t 96) (.t 97)),
oP 99 (.load none (.t 98)),
oP 100 (.call (.f 87) [true,false] [(.t 94),(.t 99)]),
oP 101 (.ixS 7 (.t 93) (.t 100)),
oP 102 (.load (some 7) (.t 101)),
oP 103 (.call (.f 153) [true,true] [(.t 92),(.t 102)]),
oP 104 (.un .not (.t 103))] [1,3,10,104] [[],[],[],[],[3],[],[3,4,5],[3,4,5,6],[2,3,4,5,6,7],[1,2,3,4,5,6,7,8],[1,2,3,4,5,6,7,8,9],[0,1,2,3,4,5,6,7,8,9,10],[0,1,2,3,4,5,6,7,8,9,10,11]])
(.cond (.t 104)
(.seq (.reg [oP 6 (.mv (cI 9))] [6])
.ret)
.skip)))
(.reg [mV 90 10,
oP 91 (.bin .add (.t 90) (cI 1)),
mV 10 91] [1,3,10]))))))
(.seq (.reg [oP 6 (.mv (cI 0))] [6])
.ret))))))))))
abbrev K9:RsT:=[(6,none)]
theorem Ml:SpF 105 CQ F2 K9:=SpI Tryz.func102 (by kernel_rfl)
theorem NN:ak Tryz.prog CQ = true:=by kernel_rfl
abbrev DM:FuncId:=103
def Ft:AC:=
(.seq (.reg [oP 6 (.mv (.c (.bool false)))] [0,1,2])
(.seq (.reg [mV 7 1,
mV 8 0,
oP 9 (.bin .leq (.t 7) (.t 8)),
mV 10 9,
gT 11 10 (.mv (.t 0)),
gT 12 10 (.mv (.t 2)),
gT 13 10 (.bin .leq (.t 11) (.t 12)),
oP 14 (.pick (.t 10) (.t 13) (.c (.bool false))),
mV 6 14] [6])
.ret))
abbrev Om:RsT:=[(6,none)]
theorem N6:SpF 15 DM Ft Om:=SpI Tryz.func103 (by kernel_rfl)
theorem ov:ak Tryz.prog DM = true:=by kernel_rfl
abbrev Eg:FuncId:=106
def F8:AC:=
(.seq (.reg [oP 6 (.mv (.c (.bool false)))] [0,1,2])
(.seq (.reg [mV 7 0,
mV 8 1,
oP 9 (.bin .geq (.t 7) (.t 8)),
mV 10 9,
gT 11 10 (.mv (.t 0)),
gT 12 10 (.mv (.t 2)),
gT 13 10 (.bin .leq (.t 11) (.t 12)),
oP 14 (.pick (.t 10) (.t 13) (.c (.bool false))),
mV 6 14] [6])
.ret))
abbrev Pd:RsT:=[(6,none)]
theorem Mm:SpF 15 Eg F8 Pd:=SpI Tryz.func106 (by kernel_rfl)
theorem mC:ak Tryz.prog Eg = true:=by kernel_rfl
abbrev Dr:FuncId:=107
def FU:AC:=
(.seq (.reg [oP 4 (.mv (cI 0))] [0,1])
(.seq (.seq (.reg [mV 5 0,
oP 6 (.call (.f 151) [false] [(.t 5)]),
oP 7 (.un .not (.t 6))] [0,1,7])
(.cond (.t 7)
(.seq (.reg [oP 4 (.mv (cI 6))] [4])
.ret)
.skip))
(.seq (.seq (.reg [mV 8 1,
mV 9 0,
oP 10 (.call (.f 117) [true,false] [(.t 8),(.t 9)]),
oP 11 (.bin .geq (.t 10) (cI 0))] [11])
(.cond (.t 11)
(.seq (.reg [oP 4 (.mv (cI 5))] [4])
.ret)
.skip))
(.seq (.reg [oP 4 (.mv (cI 0))] [4])
.ret))))
abbrev Ob:RsT:=[(4,none)]
theorem On:SpF 12 Dr FU Ob:=SpI Tryz.func107 (by kernel_rfl)
theorem Hd:ak Tryz.prog Dr = true:=by kernel_rfl
abbrev Ek:FuncId:=108
def G1:AC:=
(.seq (.reg [oP 1 (.pbox 7 (.t 0)),
oP 2 (.mv (cI 0))] [1])
(.seq (.dreg [oP 5 (.fieldAddr (some 2) 2 (.t 1)),
oP 6 (.load (some 2) (.t 5)),
oP 7 (.call (.f 152) [false,false,false] [(.t 6),(cI 0),(cI 1000000)]),
oP 8 (.fieldAddr (some 2) 5 (.t 1)),
oP 9 (.load (some 2) (.t 8)),
oP 10 (.call (.f 152) [false,false,false] [(.t 9),(cI 0),(cI 5000)]),
mV 3 7,
mV 4 10] [1,3,4] [[],[0],[0,1],[],[3],[0,1,2,3,4],[0,1,2,3,4,5],[0,1,2,3,4,5,6]])
(.seq (.seq (.reg [oP 11 (.fieldAddr none 1 (.t 1)),
oP 12 (.load none (.t 11)),
oP 13 (.call (.f 106) [false,false,false] [(.t 12),(cI 0),(cI 5000)]),
oP 14 (.un .not (.t 13)),
mV 15 14,
gF 16 15 (.fieldAddr none 4 (.t 1)),
gF 17 15 (.load none (.t 16)),
gF 18 15 (.call (.f 106) [false,false,false] [(.t 17),(cI 0),(cI 1000)]),
gF 19 15 (.un .not (.t 18)),
oP 20 (.pick (.t 15) (.c (.bool true)) (.t 19)),
mV 21 20,
gF 22 21 (.mv (.t 3)),
gF 23 21 (.bin .eql (.t 22) (cI 7)),
oP 24 (.pick (.t 21) (.c (.bool true)) (.t 23)),
mV 25 24,
gF 26 25 (.mv (.t 4)),
gF 27 25 (.bin .eql (.t 26) (cI 7)),
oP 28 (.pick (.t 25) (.c (.bool true)) (.t 27))] [3,4,28])
(.cond (.t 28)
(.seq (.reg [oP 2 (.mv (cI 7))] [2])
.ret)
.skip))
(.seq (.seq (.reg [mV 29 3,
oP 30 (.bin .neq (.t 29) (cI 0))] [3,4,30])
(.cond (.t 30)
(.seq (.reg [mV 31 3,
mV 2 31] [2])
.ret)
.skip))
(.seq (.reg [mV 32 4,
mV 2 32] [2])
.ret)))))
abbrev NP:RsT:=[(2,none)]
theorem KO:SpF 33 Ek G1 NP:=SpI Tryz.func108 (by kernel_rfl)
theorem N2:ak Tryz.prog Ek = true:=by kernel_rfl
abbrev DB:FuncId:=109
def Ep:AC:=
(.seq (.reg [oP 3 (.pbox 2 (.t 1)),
oP 4 (.mv (cI 0))] [0,3])
(.seq (.seq (.reg [mV 5 0,
oP 6 (.bin .eql (.t 5) (cI 0))] [0,3,6])
(.cond (.t 6)
(.reg [oP 7 (.load (some 2) (.t 3)),
oP 8 (.call (.f 152) [false,false,false] [(.t 7),(cI 0),(cI 1000)]),
mV 0 8] [0])
.skip))
(.seq (.reg [mV 9 0,
mV 4 9] [4])
.ret)))
abbrev Mc:RsT:=[(4,none)]
theorem O9:SpF 10 DB Ep Mc:=SpI Tryz.func109 (by kernel_rfl)
theorem O8:ak Tryz.prog DB = true:=by kernel_rfl
abbrev CF:FuncId:=110
def GV:AC:=
(.seq (.reg [oP 2 (.pbox 3 (.t 0)),
oP 3 (.pbox 2 (.t 1)),
oP 4 (.mv (cI 0)),
oP 5 (.mv (cI 0))] [2,3])
(.seq (.seq (.reg [oP 8 (.fieldAddr none 0 (.t 3)),
oP 9 (.load none (.t 8)),
mV 6 9] [2,3,6])
(.block 0
(.loop [2,3,6]
(.seq (.seq (.reg [mV 10 6,
oP 11 (.fieldAddr none 1 (.t 3)),
oP 12 (.load none (.t 11)),
oP 13 (.bin .leq (.t 10) (.t 12))] [2,3,6,13])
(.cond (.t 13)
.skip
(.exit 0)))
(.seq (.block 1
(.seq (.reg [oP 16 (.load (some 3) (.t 2)),
mV 17 6,
oP 18 (.call (.f 157) [true,false] [(.t 16),(.t 17)]),
oP 19 (.call (.f 85) [false] [(.t 18)]),
mV 7 19] [2,3,6,7])
(.seq (.reg [mV 20 7,
oP 21 (.bin .neq (.t 20) (cI 0))] [2,3,6,7,21])
(.cond (.t 21)
(.seq (.reg [mV 22 7,
mV 23 6,
mV 4 22,
mV 5 23] [4,5])
.ret)
.skip))))
(.reg [mV 14 6,
oP 15 (.bin .add (.t 14) (cI 1)),
mV 6 15] [2,3,6]))))))
(.seq (.reg [oP 4 (.mv (cI 0)),
oP 5 (.mv (cI 0))] [4,5])
.ret)))
abbrev JV:RsT:=[(4,none),(5,none)]
theorem M9:SpF 24 CF GV JV:=SpI Tryz.func110 (by kernel_rfl)
theorem Jp:ak Tryz.prog CF = true:=by kernel_rfl
abbrev T4:FuncId:=111
def Gz:AC:=
(.seq (.reg [oP 2 (.pbox 2 (.t 0)),
oP 4 (.mv (cI 0))] [1,2])
(.seq (.reg [oP 10 (.load (some 2) (.t 2)),
oP 11 (.call (.f 158) [true] [(.t 10)]),
mV 9 11,
oP 12 (.extract (.t 9) 0),
oP 13 (.extract (.t 9) 1),
oP 14 (.extract (.t 9) 2),
mV 5 12,
mV 6 13,
mV 7 14] [1,2,7])
(.seq (.seq (.reg [oP 8 (.mv (cI 0))] [1,2,7,8])
(.block 0
(.loop [1,2,7,8]
(.seq (.seq (.reg [mV 15 8,
mV 16 1,
oP 17 (.len (.t 16)),
oP 18 (.bin .lss (.t 15) (.t 17)),
mV 19 18,
gT 20 19 (.mv (.t 7)),
gT 21 19 (.bin .eql (.t 20) (cI 0)),
oP 22 (.pick (.t 19) (.t 21) (.c (.bool false)))] [1,2,7,8,22])
(.cond (.t 22)
.skip
(.exit 0)))
(.seq (.block 1
(.seq (.dreg [mV 25 1,
mV 26 8,
oP 27 (.ixS 1 (.t 25) (.t 26)),
oP 28 (.load none (.t 27)),
oP 29 (.fieldAddr none 1 (.t 2)),
oP 30 (.load none (.t 29)),
oP 31 (.len (.t 30)),
oP 32 (.call (.f 112) [false,false] [(.t 28),(.t 31)]),
oP 33 (.un .not (.t 32))] [1,2,7,8,33] [[],[],[0,1],[0,1,2],[],[4],[4,5],[0,1,2,3,4,5,6],[0,1,2,3,4,5,6,7]])
(.cond (.t 33)
(.reg [oP 7 (.mv (cI 4))] [1,2,7,8])
(.seq (.dreg [mV 34 8,
oP 35 (.bin .gtr (.t 34) (cI 0)),
mV 36 35,
gT 37 36 (.mv (.t 1)),
gT 38 36 (.mv (.t 8)),
gT 39 36 (.ixS 1 (.t 37) (.t 38)),
gT 40 36 (.load none (.t 39)),
gT 41 36 (.mv (.t 1)),
gT 42 36 (.mv (.t 8)),
gT 43 36 (.bin .sub (.t 42) (cI 1)),
gT 44 36 (.ixS 1 (.t 41) (.t 43)),
gT 45 36 (.load none (.t 44)),
gT 46 36 (.bin .leq (.t 40) (.t 45)),
oP 47 (.pick (.t 36) (.t 46) (.c (.bool false)))] [1,2,7,8,47] [[],[0],[0,1],[0,1,2],[0,1,2],[0,1,2,3,4],[0,1,2,3,4,5],[0,1,2],[0,1,2],[0,1,2,8],[0,1,2,7,8,9],[0,1,2,7,8,9,10],[0,1,2,3,4,5,6,7,8,9,10,11],[0,1,2,3,4,5,6,7,8,9,10,11,12]])
(.cond (.t 47)
(.reg [oP 7 (.mv (cI 2))] [1,2,7,8])
(.seq (.dreg [oP 48 (.fieldAddr none 1 (.t 2)),
oP 49 (.load none (.t 48)),
mV 50 1,
mV 51 8,
oP 52 (.ixS 1 (.t 50) (.t 51)),
oP 53 (.load none (.t 52)),
oP 54 (.ixS 3 (.t 49) (.t 53)),
oP 55 (.fieldAddr none 2 (.t 54)),
oP 56 (.load none (.t 55))] [1,2,7,8,56] [[],[0],[],[],[2,3],[2,3,4],[0,1,2,3,4,5],[0,1,2,3,4,5,6],[0,1,2,3,4,5,6,7]])
(.cond (.t 56)
(.reg [oP 7 (.mv (cI 9))] [1,2,7,8])
.skip)))))))
(.reg [mV 23 8,
oP 24 (.bin .add (.t 23) (cI 1)),
mV 8 24] [1,2,7,8]))))))
(.seq (.reg [mV 57 7,
mV 4 57] [4])
.ret))))
abbrev Kn:RsT:=[(4,none)]
theorem Ko:SpF 58 T4 Gz Kn:=SpI Tryz.func111 (by kernel_rfl)
theorem K6:ak Tryz.prog T4 = true:=by kernel_rfl
abbrev DX:FuncId:=112
def FA:AC:=
(.seq (.reg [oP 4 (.mv (.c (.bool false)))] [0,1])
(.seq (.reg [mV 5 0,
oP 6 (.bin .geq (.t 5) (cI 0)),
mV 7 6,
gT 8 7 (.mv (.t 0)),
gT 9 7 (.mv (.t 1)),
gT 10 7 (.bin .lss (.t 8) (.t 9)),
oP 11 (.pick (.t 7) (.t 10) (.c (.bool false))),
mV 4 11] [4])
.ret))
abbrev Ku:RsT:=[(4,none)]
theorem Mq:SpF 12 DX FA Ku:=SpI Tryz.func112 (by kernel_rfl)
theorem uX:ak Tryz.prog DX = true:=by kernel_rfl
end Go.AM
