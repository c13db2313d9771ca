/- MADE BY PROGRAM (gen.py): the abstract code of functions of this seat, each checked against the given code by the kernel. -/
import Derived.Test.YtcdfnopkemadjaaGreatDoorG05a
import Derived.Test.YtcdfnopkemadjaaGreatDoorG05b
import Derived.Test.YtcdfnopkemadjaaGreatDoorG05c
import Derived.Test.YtcdfnopkemadjaaGreatDoorChecked
import Derived.Test.YtcdfnopkemadjaaGreatDoorP18
import Derived.Test.YtcdfnopkemadjaaGreatDoorP19
namespace Go.AM
open Go.Proofs
abbrev YM:FuncId:=354
def AO:AC:=
(.seq (.reg [oP 8 (.mv (cI 0)),
oP 9 (.mv (.c (.bool false)))] [0,1,2,3])
(.seq (.dreg [mV 12 0,
mV 13 1,
mV 14 0,
mV 15 3,
mV 16 0,
mV 17 3,
oP 18 (.ixS 1 (.t 16) (.t 17)),
oP 19 (.load none (.t 18)),
mV 20 0,
mV 21 1,
oP 22 (.ixS 1 (.t 20) (.t 21)),
oP 23 (.load none (.t 22)),
oP 24 (.ixS 1 (.t 12) (.t 13)),
oN (.store 1 (.t 24) (.t 19)),
oP 25 (.ixS 1 (.t 14) (.t 15)),
oN (.store 1 (.t 25) (.t 23))] [0,1,2] [[],[],[],[],[],[],[4,5],[4,5,6],[],[],[8,9],[8,9,10],[0,1,4,5,6,7,8,9,10,11],[0,1,4,5,6,7,8,9,10,11,12],[0,1,2,3,4,5,6,7,8,9,10,11,12,13],[0,1,2,3,4,5,6,7,8,9,10,11,12,13,14]])
(.seq (.reg [mV 26 1,
oP 27 (.bin .add (.t 26) (cI 1)),
mV 28 2,
oP 29 (.bin .sub (.t 28) (cI 1)),
mV 10 27,
mV 11 29] [0,1,10,11])
(.seq (.block 0
(.loop [0,1,10,11]
(.seq (.seq (.dreg [mV 30 10,
mV 31 11,
oP 32 (.bin .leq (.t 30) (.t 31)),
mV 33 32,
gT 34 33 (.mv (.t 0)),
gT 35 33 (.mv (.t 10)),
gT 36 33 (.ixS 1 (.t 34) (.t 35)),
gT 37 33 (.load none (.t 36)),
gT 38 33 (.mv (.t 0)),
gT 39 33 (.mv (.t 1)),
gT 40 33 (.ixS 1 (.t 38) (.t 39)),
gT 41 33 (.load none (.t 40)),
gT 42 33 (.call (.f 187) [false,false] [(.t 37),(.t 41)]),
oP 43 (.pick (.t 33) (.t 42) (.c (.bool false)))] [0,1,10,11,43] [[],[],[0,1],[0,1,2],[0,1,2,3],[0,1,2,3],[0,1,2,3,4,5],[0,1,2,3,4,5,6],[0,1,2,3],[0,1,2,3],[0,1,2,3,8,9],[0,1,2,3,8,9,10],[0,1,2,3,4,5,6,7,8,9,10,11],[0,1,2,3,4,5,6,7,8,9,10,11,12]])
(.cond (.t 43)
.skip
(.exit 0)))
(.block 1
(.reg [mV 44 10,
oP 45 (.bin .add (.t 44) (cI 1)),
mV 10 45] [0,1,10,11])))))
(.seq (.block 2
(.loop [0,1,10,11]
(.seq (.seq (.dreg [mV 46 10,
mV 47 11,
oP 48 (.bin .leq (.t 46) (.t 47)),
mV 49 48,
gT 50 49 (.mv (.t 0)),
gT 51 49 (.mv (.t 11)),
gT 52 49 (.ixS 1 (.t 50) (.t 51)),
gT 53 49 (.load none (.t 52)),
gT 54 49 (.mv (.t 0)),
gT 55 49 (.mv (.t 1)),
gT 56 49 (.ixS 1 (.t 54) (.t 55)),
gT 57 49 (.load none (.t 56)),
gT 58 49 (.call (.f 187) [false,false] [(.t 53),(.t 57)]),
gT 59 49 (.un .not (.t 58)),
oP 60 (.pick (.t 49) (.t 59) (.c (.bool false)))] [0,1,10,11,60] [[],[],[0,1],[0,1,2],[0,1,2,3],[0,1,2,3],[0,1,2,3,4,5],[0,1,2,3,4,5,6],[0,1,2,3],[0,1,2,3],[0,1,2,3,8,9],[0,1,2,3,8,9,10],[0,1,2,3,4,5,6,7,8,9,10,11],[0,1,2,3,4,5,6,7,8,9,10,11,12],[0,1,2,3,4,5,6,7,8,9,10,11,12,13]])
(.cond (.t 60)
.skip
(.exit 2)))
(.block 3
(.reg [mV 61 11,
oP 62 (.bin .sub (.t 61) (cI 1)),
mV 11 62] [0,1,10,11])))))
(.seq (.seq (.reg [mV 63 10,
mV 64 11,
oP 65 (.bin .gtr (.t 63) (.t 64))] [0,1,10,11,65])
(.cond (.t 65)
(.seq (.dreg [mV 66 0,
mV 67 11,
mV 68 0,
mV 69 1,
mV 70 0,
mV 71 1,
oP 72 (.ixS 1 (.t 70) (.t 71)),
oP 73 (.load none (.t 72)),
mV 74 0,
mV 75 11,
oP 76 (.ixS 1 (.t 74) (.t 75)),
oP 77 (.load none (.t 76)),
oP 78 (.ixS 1 (.t 66) (.t 67)),
oN (.store 1 (.t 78) (.t 73)),
oP 79 (.ixS 1 (.t 68) (.t 69)),
oN (.store 1 (.t 79) (.t 77))] [11] [[],[],[],[],[],[],[4,5],[4,5,6],[],[],[8,9],[8,9,10],[0,1,4,5,6,7,8,9,10,11],[0,1,4,5,6,7,8,9,10,11,12],[0,1,2,3,4,5,6,7,8,9,10,11,12,13],[0,1,2,3,4,5,6,7,8,9,10,11,12,13,14]])
(.seq (.reg [mV 80 11,
mV 8 80,
oP 9 (.mv (.c (.bool true)))] [8,9])
.ret))
.skip))
(.seq (.dreg [mV 81 0,
mV 82 10,
mV 83 0,
mV 84 11,
mV 85 0,
mV 86 11,
oP 87 (.ixS 1 (.t 85) (.t 86)),
oP 88 (.load none (.t 87)),
mV 89 0,
mV 90 10,
oP 91 (.ixS 1 (.t 89) (.t 90)),
oP 92 (.load none (.t 91)),
oP 93 (.ixS 1 (.t 81) (.t 82)),
oN (.store 1 (.t 93) (.t 88)),
oP 94 (.ixS 1 (.t 83) (.t 84)),
oN (.store 1 (.t 94) (.t 92))] [0,1,10,11] [[],[],[],[],[],[],[4,5],[4,5,6],[],[],[8,9],[8,9,10],[0,1,4,5,6,7,8,9,10,11],[0,1,4,5,6,7,8,9,10,11,12],[0,1,2,3,4,5,6,7,8,9,10,11,12,13],[0,1,2,3,4,5,6,7,8,9,10,11,12,13,14]])
(.seq (.reg [mV 95 10,
oP 96 (.bin .add (.t 95) (cI 1)),
mV 10 96] [0,1,10,11])
(.seq (.reg [mV 97 11,
oP 98 (.bin .sub (.t 97) (cI 1)),
mV 11 98] [0,1,10,11])
(.seq (.block 4
(.loop [0,1,10,11]
(.block 5
(.seq (.block 6
(.loop [0,1,10,11]
(.seq (.seq (.dreg [mV 99 10,
mV 100 11,
oP 101 (.bin .leq (.t 99) (.t 100)),
mV 102 101,
gT 103 102 (.mv (.t 0)),
gT 104 102 (.mv (.t 10)),
gT 105 102 (.ixS 1 (.t 103) (.t 104)),
gT 106 102 (.load none (.t 105)),
gT 107 102 (.mv (.t 0)),
gT 108 102 (.mv (.t 1)),
gT 109 102 (.ixS 1 (.t 107) (.t 108)),
gT 110 102 (.load none (.t 109)),
gT 111 102 (.call (.f 187) [false,false] [(.t 106),(.t 110)]),
oP 112 (.pick (.t 102) (.t 111) (.c (.bool false)))] [0,1,10,11,112] [[],[],[0,1],[0,1,2],[0,1,2,3],[0,1,2,3],[0,1,2,3,4,5],[0,1,2,3,4,5,6],[0,1,2,3],[0,1,2,3],[0,1,2,3,8,9],[0,1,2,3,8,9,10],[0,1,2,3,4,5,6,7,8,9,10,11],[0,1,2,3,4,5,6,7,8,9,10,11,12]])
(.cond (.t 112)
.skip
(.exit 6)))
(.block 7
(.reg [mV 113 10,
oP 114 (.bin .add (.t 113) (cI 1)),
mV 10 114] [0,1,10,11])))))
(.seq (.block 8
(.loop [0,1,10,11]
(.seq (.seq (.dreg [mV 115 10,
mV 116 11,
oP 117 (.bin .leq (.t 115) (.t 116)),
mV 118 117,
gT 119 118 (.mv (.t 0)),
gT 120 118 (.mv (.t 11)),
gT 121 118 (.ixS 1 (.t 119) (.t 120)),
gT 122 118 (.load none (.t 121)),
gT 123 118 (.mv (.t 0)),
gT 124 118 (.mv (.t 1)),
gT 125 118 (.ixS 1 (.t 123) (.t 124)),
gT 126 118 (.load none (.t 125)),
gT 127 118 (.call (.f 187) [false,false] [(.t 122),(.t 126)]),
gT 128 118 (.un .not (.t 127)),
oP 129 (.pick (.t 118) (.t 128) (.c (.bool false)))] [0,1,10,11,129] [[],[],[0,1],[0,1,2],[0,1,2,3],[0,1,2,3],[0,1,2,3,4,5],[0,1,2,3,4,5,6],[0,1,2,3],[0,1,2,3],[0,1,2,3,8,9],[0,1,2,3,8,9,10],[0,1,2,3,4,5,6,7,8,9,10,11],[0,1,2,3,4,5,6,7,8,9,10,11,12],[0,1,2,3,4,5,6,7,8,9,10,11,12,13]])
(.cond (.t 129)
.skip
(.exit 8)))
(.block 9
(.reg [mV 130 11,
oP 131 (.bin .sub (.t 130) (cI 1)),
mV 11 131] [0,1,10,11])))))
(.seq (.seq (.reg [mV 132 10,
mV 133 11,
oP 134 (.bin .gtr (.t 132) (.t 133))] [0,1,10,11,134])
(.cond (.t 134)
(.exit 4)
.skip))
(.seq (.dreg [mV 135 0,
mV 136 10,
mV 137 0,
mV 138 11,
mV 139 0,
mV 140 11,
oP 141 (.ixS 1 (.t 139) (.t 140)),
oP 142 (.load none (.t 141)),
mV 143 0,
mV 144 10,
oP 145 (.ixS 1 (.t 143) (.t 144)),
oP 146 (.load none (.t 145)),
oP 147 (.ixS 1 (.t 135) (.t 136)),
oN (.store 1 (.t 147) (.t 142)),
oP 148 (.ixS 1 (.t 137) (.t 138)),
oN (.store 1 (.t 148) (.t 146))] [0,1,10,11] [[],[],[],[],[],[],[4,5],[4,5,6],[],[],[8,9],[8,9,10],[0,1,4,5,6,7,8,9,10,11],[0,1,4,5,6,7,8,9,10,11,12],[0,1,2,3,4,5,6,7,8,9,10,11,12,13],[0,1,2,3,4,5,6,7,8,9,10,11,12,13,14]])
(.seq (.reg [mV 149 10,
oP 150 (.bin .add (.t 149) (cI 1)),
mV 10 150] [0,1,10,11])
(.reg [mV 151 11,
oP 152 (.bin .sub (.t 151) (cI 1)),
mV 11 152] [0,1,10,11])))))))))
(.seq (.dreg [mV 153 0,
mV 154 11,
mV 155 0,
mV 156 1,
mV 157 0,
mV 158 1,
oP 159 (.ixS 1 (.t 157) (.t 158)),
oP 160 (.load none (.t 159)),
mV 161 0,
mV 162 11,
oP 163 (.ixS 1 (.t 161) (.t 162)),
oP 164 (.load none (.t 163)),
oP 165 (.ixS 1 (.t 153) (.t 154)),
oN (.store 1 (.t 165) (.t 160)),
oP 166 (.ixS 1 (.t 155) (.t 156)),
oN (.store 1 (.t 166) (.t 164))] [11] [[],[],[],[],[],[],[4,5],[4,5,6],[],[],[8,9],[8,9,10],[0,1,4,5,6,7,8,9,10,11],[0,1,4,5,6,7,8,9,10,11,12],[0,1,2,3,4,5,6,7,8,9,10,11,12,13],[0,1,2,3,4,5,6,7,8,9,10,11,12,13,14]])
(.seq (.reg [mV 167 11,
mV 8 167,
oP 9 (.mv (.c (.bool false)))] [8,9])
.ret))))))))))))
abbrev yZ:RsT:=[(8,none),(9,none)]
theorem Wp:an Tryz.prog Tryz.f354 168 AO yZ = true:=by kernel_rfl
theorem Rl:af Tryz.prog YM = true:=by kernel_rfl
theorem acP:ag Tryz.prog ⟨354,168,AO,yZ,0⟩:=⟨fun _=>⟨Rl,_,Tryz.func354,Wp⟩,fun h=>by cases h⟩
abbrev W4:FuncId:=355
def Cy:AC:=
(.seq (.reg [oP 2 (.mv (cI 0))] [0,2])
(.seq (.seq (.reg [mV 3 0,
oP 4 (.bin .geq (.t 3) (.c (.int .u32 65536)))] [0,2,4])
(.cond (.t 4)
(.seq (.reg [mV 5 0,
oP 6 (.bin .shr (.t 5) (.c (.int .u64 16))),
mV 0 6] [0])
(.reg [oP 2 (.mv (cI 16))] [0,2]))
.skip))
(.seq (.seq (.reg [mV 7 0,
oP 8 (.bin .geq (.t 7) (.c (.int .u32 256)))] [0,2,8])
(.cond (.t 8)
(.seq (.reg [mV 9 0,
oP 10 (.bin .shr (.t 9) (.c (.int .u64 8))),
mV 0 10] [0,2])
(.reg [mV 11 2,
oP 12 (.bin .add (.t 11) (cI 8)),
mV 2 12] [0,2]))
.skip))
(.seq (.reg [mV 13 2,
mV 14 0,
oP 15 (.conv .u8 (.t 14)),
⟨some 16,none, .ixStr (.c (.str ⟨#[0,1,2,2,3,3,3,3,4,4,4,4,4,4,4,4,5,5,5,5,5,5,5,5,5,5,5,5,5,5,5,5,6,6,6,6,6,6,6,6,6,6,6,6,6,6,6,6,6,6,6,6,6,6,6,6,6,6,6,6,6,6,6,6,7,7,7,7,7,7,7,7,7,7,7,7,7,7,7,7,7,7,7,7,7,7,7,7,7,7,7,7,7,7,7,7,7,7,7,7,7,7,7,7,7,7,7,7,7,7,7,7,7,7,7,7,7,7,7,7,7,7,7,7,7,7,7,7,8,8,8,8,8,8,8,8,8,8,8,8,8,8,8,8,8,8,8,8,8,8,8,8,8,8,8,8,8,8,8,8,8,8,8,8,8,8,8,8,8,8,8,8,8,8,8,8,8,8,8,8,8,8,8,8,8,8,8,8,8,8,8,8,8,8,8,8,8,8,8,8,8,8,8,8,8,8,8,8,8,8,8,8,8,8,8,8,8,8,8,8,8,8,8,8,8,8,8,8,8,8,8,8,8,8,8,8,8,8,8,8,8,8,8,8,8,8,8,8,8,8,8,8,8,8,8,8]⟩)) (.t 15)⟩,
oP 17 (.conv .i64 (.t 16)),
oP 18 (.bin .add (.t 13) (.t 17)),
mV 2 18] [2])
.ret))))
abbrev Dv:RsT:=[(2,none)]
theorem aeK:an Tryz.prog Tryz.f355 19 Cy Dv = true:=by kernel_rfl
theorem Z5:af Tryz.prog W4 = true:=by kernel_rfl
theorem Zx:ag Tryz.prog ⟨355,19,Cy,Dv,0⟩:=⟨fun _=>⟨Z5,_,Tryz.func355,aeK⟩,fun h=>by cases h⟩
abbrev Yl:FuncId:=356
def BV:AC:=
(.seq (.reg [mV 10 1,
mV 8 10] [0,2,3,8])
(.block 0
(.loop [0,2,3,8]
(.block 1
(.seq (.reg [mV 11 8,
oP 12 (.bin .mul (cI 2) (.t 11)),
oP 13 (.bin .add (.t 12) (cI 1)),
mV 9 13] [0,2,3,8,9])
(.seq (.seq (.reg [mV 14 9,
mV 15 2,
oP 16 (.bin .geq (.t 14) (.t 15))] [0,2,3,8,9,16])
(.cond (.t 16)
(.exit 0)
.skip))
(.seq (.seq (.dreg [mV 17 9,
oP 18 (.bin .add (.t 17) (cI 1)),
mV 19 2,
oP 20 (.bin .lss (.t 18) (.t 19)),
mV 21 20,
gT 22 21 (.mv (.t 0)),
gT 23 21 (.mv (.t 3)),
gT 24 21 (.mv (.t 9)),
gT 25 21 (.bin .add (.t 23) (.t 24)),
gT 26 21 (.ixS 1 (.t 22) (.t 25)),
gT 27 21 (.load none (.t 26)),
gT 28 21 (.mv (.t 0)),
gT 29 21 (.mv (.t 3)),
gT 30 21 (.mv (.t 9)),
gT 31 21 (.bin .add (.t 29) (.t 30)),
gT 32 21 (.bin .add (.t 31) (cI 1)),
gT 33 21 (.ixS 1 (.t 28) (.t 32)),
gT 34 21 (.load none (.t 33)),
gT 35 21 (.call (.f 187) [false,false] [(.t 27),(.t 34)]),
oP 36 (.pick (.t 21) (.t 35) (.c (.bool false)))] [0,2,3,8,9,36] [[],[0],[],[0,1,2],[0,1,2,3],[0,1,2,3,4],[0,1,2,3,4],[0,1,2,3,4],[0,1,2,3,4,6,7],[0,1,2,3,4,5,6,7,8],[0,1,2,3,4,5,6,7,8,9],[0,1,2,3,4],[0,1,2,3,4],[0,1,2,3,4],[0,1,2,3,4,12,13],[0,1,2,3,4,12,13,14],[0,1,2,3,4,11,12,13,14,15],[0,1,2,3,4,11,12,13,14,15,16],[0,1,2,3,4,5,6,7,8,9,10,11,12,13,14,15,16,17],[0,1,2,3,4,5,6,7,8,9,10,11,12,13,14,15,16,17,18]])
(.cond (.t 36)
(.reg [mV 37 9,
oP 38 (.bin .add (.t 37) (cI 1)),
mV 9 38] [0,2,3,8,9])
.skip))
(.seq (.seq (.dreg [mV 39 0,
mV 40 3,
mV 41 8,
oP 42 (.bin .add (.t 40) (.t 41)),
oP 43 (.ixS 1 (.t 39) (.t 42)),
oP 44 (.load none (.t 43)),
mV 45 0,
mV 46 3,
mV 47 9,
oP 48 (.bin .add (.t 46) (.t 47)),
oP 49 (.ixS 1 (.t 45) (.t 48)),
oP 50 (.load none (.t 49)),
oP 51 (.call (.f 187) [false,false] [(.t 44),(.t 50)]),
oP 52 (.un .not (.t 51))] [0,2,3,8,9,52] [[],[],[],[1,2],[0,1,2,3],[0,1,2,3,4],[],[],[],[7,8],[6,7,8,9],[6,7,8,9,10],[0,1,2,3,4,5,6,7,8,9,10,11],[0,1,2,3,4,5,6,7,8,9,10,11,12]])
(.cond (.t 52)
.ret
.skip))
(.seq (.dreg [mV 53 0,
mV 54 3,
mV 55 8,
oP 56 (.bin .add (.t 54) (.t 55)),
mV 57 0,
mV 58 3,
mV 59 9,
oP 60 (.bin .add (.t 58) (.t 59)),
mV 61 0,
mV 62 3,
mV 63 9,
oP 64 (.bin .add (.t 62) (.t 63)),
oP 65 (.ixS 1 (.t 61) (.t 64)),
oP 66 (.load none (.t 65)),
mV 67 0,
mV 68 3,
mV 69 8,
oP 70 (.bin .add (.t 68) (.t 69)),
oP 71 (.ixS 1 (.t 67) (.t 70)),
oP 72 (.load none (.t 71)),
oP 73 (.ixS 1 (.t 53) (.t 56)),
oN (.store 1 (.t 73) (.t 66)),
oP 74 (.ixS 1 (.t 57) (.t 60)),
oN (.store 1 (.t 74) (.t 72))] [0,2,3,9] [[],[],[],[1,2],[],[],[],[5,6],[],[],[],[9,10],[8,9,10,11],[8,9,10,11,12],[],[],[],[15,16],[14,15,16,17],[14,15,16,17,18],[0,1,2,3,8,9,10,11,12,13,14,15,16,17,18,19],[0,1,2,3,8,9,10,11,12,13,14,15,16,17,18,19,20],[0,1,2,3,4,5,6,7,8,9,10,11,12,13,14,15,16,17,18,19,20,21],[0,1,2,3,4,5,6,7,8,9,10,11,12,13,14,15,16,17,18,19,20,21,22]])
(.reg [mV 75 9,
mV 8 75] [0,2,3,8]))))))))))
abbrev xy:RsT:=[]
theorem Uq:an Tryz.prog Tryz.f356 76 BV xy = true:=by kernel_rfl
theorem ZJ:af Tryz.prog Yl = true:=by kernel_rfl
theorem aaI:ag Tryz.prog ⟨356,76,BV,xy,0⟩:=⟨fun _=>⟨ZJ,_,Tryz.func356,Uq⟩,fun h=>by cases h⟩
abbrev aeh:FuncId:=357
def F7:AC:=
(.seq (.reg [oP 2 (.mv (.c (.int .u64 0)))] [0])
(.seq (.reg [mV 3 0,
oP 4 (.conv .u64 (.t 3)),
oP 5 (.call (.f 333) [false] [(.t 4)]),
oP 6 (.bin .shl (.c (.int .u64 1)) (.t 5)),
mV 2 6] [2])
.ret))
abbrev C5:RsT:=[(2,none)]
theorem adp:an Tryz.prog Tryz.f357 7 F7 C5 = true:=by kernel_rfl
theorem Tf:af Tryz.prog aeh = true:=by kernel_rfl
theorem Yi:ag Tryz.prog ⟨357,7,F7,C5,0⟩:=⟨fun _=>⟨Tf,_,Tryz.func357,adp⟩,fun h=>by cases h⟩
abbrev Uv:FuncId:=358
def Gc:AC:=
(.seq (.reg [oP 2 (.mv (.c (.int .u64 0)))] [0])
(.seq (.dreg [mV 3 0,
oP 4 (.nilchk (.t 3)),
oP 5 (.load none (.t 4)),
mV 6 0,
oP 7 (.nilchk (.t 6)),
oP 8 (.load none (.t 7)),
oP 9 (.bin .shl (.t 8) (.c (.int .u64 13))),
oP 10 (.bin .xor (.t 5) (.t 9)),
oP 11 (.nilchk (.t 3)),
oN (.store 1 (.t 11) (.t 10))] [0] [[],[0],[0,1],[],[3],[3,4],[3,4,5],[0,1,2,3,4,5,6],[0,1,2,3,4,5,6,7],[0,1,2,3,4,5,6,7,8]])
(.seq (.dreg [mV 12 0,
oP 13 (.nilchk (.t 12)),
oP 14 (.load none (.t 13)),
mV 15 0,
oP 16 (.nilchk (.t 15)),
oP 17 (.load none (.t 16)),
oP 18 (.bin .shr (.t 17) (.c (.int .u64 7))),
oP 19 (.bin .xor (.t 14) (.t 18)),
oP 20 (.nilchk (.t 12)),
oN (.store 1 (.t 20) (.t 19))] [0] [[],[0],[0,1],[],[3],[3,4],[3,4,5],[0,1,2,3,4,5,6],[0,1,2,3,4,5,6,7],[0,1,2,3,4,5,6,7,8]])
(.seq (.dreg [mV 21 0,
oP 22 (.nilchk (.t 21)),
oP 23 (.load none (.t 22)),
mV 24 0,
oP 25 (.nilchk (.t 24)),
oP 26 (.load none (.t 25)),
oP 27 (.bin .shl (.t 26) (.c (.int .u64 17))),
oP 28 (.bin .xor (.t 23) (.t 27)),
oP 29 (.nilchk (.t 21)),
oN (.store 1 (.t 29) (.t 28))] [0] [[],[0],[0,1],[],[3],[3,4],[3,4,5],[0,1,2,3,4,5,6],[0,1,2,3,4,5,6,7],[0,1,2,3,4,5,6,7,8]])
(.seq (.reg [mV 30 0,
oP 31 (.nilchk (.t 30)),
oP 32 (.load none (.t 31)),
mV 2 32] [2])
.ret)))))
abbrev EL:RsT:=[(2,none)]
theorem RG:an Tryz.prog Tryz.f358 33 Gc EL = true:=by kernel_rfl
theorem abz:af Tryz.prog Uv = true:=by kernel_rfl
theorem adm:ag Tryz.prog ⟨358,33,Gc,EL,0⟩:=⟨fun _=>⟨abz,_,Tryz.func358,RG⟩,fun h=>by cases h⟩
abbrev aaP:FuncId:=359
def Fc:AC:=
(.seq (.reg [oP 6 (.mv (cI 0))] [0,1,2])
(.seq (.reg [mV 7 0,
mV 8 1,
oP 9 (.bin .sub (.t 8) (cI 1)),
mV 10 1,
mV 11 1,
oP 12 (.bin .add (.t 11) (cI 1)),
mV 13 2,
oP 14 (.call (.f 360) [true,false,false,false,false] [(.t 7),(.t 9),(.t 10),(.t 12),(.t 13)]),
mV 6 14] [6])
.ret))
abbrev AR:RsT:=[(6,none)]
theorem O8:an Tryz.prog Tryz.f359 15 Fc AR = true:=by kernel_rfl
theorem Sg:af Tryz.prog aaP = true:=by kernel_rfl
theorem acm:ag Tryz.prog ⟨359,15,Fc,AR,0⟩:=⟨fun _=>⟨Sg,_,Tryz.func359,O8⟩,fun h=>by cases h⟩
abbrev adD:FuncId:=360
def DW:AC:=
(.seq (.reg [oP 10 (.mv (cI 0))] [0,1,2,3,4])
(.seq (.reg [mV 12 0,
mV 13 1,
mV 14 2,
mV 15 4,
oP 16 (.call (.f 361) [true,false,false,false] [(.t 12),(.t 13),(.t 14),(.t 15)]),
mV 11 16,
oP 17 (.extract (.t 11) 0),
oP 18 (.extract (.t 11) 1),
mV 1 17,
mV 2 18] [0,1,2,3,4])
(.seq (.reg [mV 20 0,
mV 21 2,
mV 22 3,
mV 23 4,
oP 24 (.call (.f 361) [true,false,false,false] [(.t 20),(.t 21),(.t 22),(.t 23)]),
mV 19 24,
oP 25 (.extract (.t 19) 0),
oP 26 (.extract (.t 19) 1),
mV 2 25,
mV 3 26] [0,1,2,4])
(.seq (.reg [mV 28 0,
mV 29 1,
mV 30 2,
mV 31 4,
oP 32 (.call (.f 361) [true,false,false,false] [(.t 28),(.t 29),(.t 30),(.t 31)]),
mV 27 32,
oP 33 (.extract (.t 27) 0),
oP 34 (.extract (.t 27) 1),
mV 1 33,
mV 2 34] [2])
(.seq (.reg [mV 35 2,
mV 10 35] [10])
.ret)))))
abbrev Ar:RsT:=[(10,none)]
theorem ab4:an Tryz.prog Tryz.f360 36 DW Ar = true:=by kernel_rfl
theorem Nf:af Tryz.prog adD = true:=by kernel_rfl
theorem Ui:ag Tryz.prog ⟨360,36,DW,Ar,0⟩:=⟨fun _=>⟨Nf,_,Tryz.func360,ab4⟩,fun h=>by cases h⟩
abbrev X7:FuncId:=361
def Cg:AC:=
(.seq (.reg [oP 8 (.mv (cI 0)),
oP 9 (.mv (cI 0))] [0,1,2,3])
(.seq (.seq (.dreg [mV 10 0,
mV 11 2,
oP 12 (.ixS 1 (.t 10) (.t 11)),
oP 13 (.load none (.t 12)),
mV 14 0,
mV 15 1,
oP 16 (.ixS 1 (.t 14) (.t 15)),
oP 17 (.load none (.t 16)),
oP 18 (.call (.f 187) [false,false] [(.t 13),(.t 17)])] [1,2,3,18] [[],[],[0,1],[0,1,2],[],[],[4,5],[4,5,6],[0,1,2,3,4,5,6,7]])
(.cond (.t 18)
(.seq (.reg [mV 19 3,
oP 20 (.nilchk (.t 19)),
oP 21 (.load none (.t 20)),
oP 22 (.bin .add (.t 21) (cI 1)),
oP 23 (.nilchk (.t 19)),
oN (.store 1 (.t 23) (.t 22))] [1,2])
(.seq (.reg [mV 24 2,
mV 25 1,
mV 8 24,
mV 9 25] [8,9])
.ret))
.skip))
(.seq (.reg [mV 26 1,
mV 27 2,
mV 8 26,
mV 9 27] [8,9])
.ret)))
abbrev Bt:RsT:=[(8,none),(9,none)]
theorem ZH:an Tryz.prog Tryz.f361 28 Cg Bt = true:=by kernel_rfl
theorem NS:af Tryz.prog X7 = true:=by kernel_rfl
theorem abb:ag Tryz.prog ⟨361,28,Cg,Bt,0⟩:=⟨fun _=>⟨NS,_,Tryz.func361,ZH⟩,fun h=>by cases h⟩
set_option maxRecDepth 100000
def fH:List Ent:=[
  ⟨3,29,C_3,R_3,0⟩,
 ⟨4,2,C_4,R_4,0⟩,
 ⟨5,41,C_5,R_5,0⟩,
 ⟨6,26,C_6,R_6,0⟩,
 ⟨7,46,C_7,R_7,0⟩,
 ⟨8,51,C_8,R_8,0⟩,
 ⟨9,125,C_9,R_9,0⟩,
 ⟨10,27,LN,LU,2⟩,
 ⟨11,129,I7,IB,0⟩,
 ⟨12,21,Ky,Mh,0⟩,
 ⟨13,8,KN,JV,0⟩,
 ⟨14,25,JH,Mg,0⟩,
 ⟨15,11,JI,Mk,0⟩,
 ⟨16,3,My,L3,0⟩,
 ⟨17,10,Mr,Ll,0⟩,
 ⟨18,18,Mz,J7,0⟩,
 ⟨19,12,KD,J3,0⟩,
 ⟨20,12,MN,J9,0⟩,
 ⟨21,31,MV,Mc,0⟩,
 ⟨22,5,LX,Mx,0⟩,
 ⟨23,5,KY,LI,0⟩,
 ⟨24,24,Ly,Ke,0⟩,
 ⟨25,33,K7,MM,0⟩,
 ⟨26,74,LO,Kr,0⟩,
 ⟨27,27,Mq,LC,0⟩,
 ⟨28,31,K0,K2,0⟩,
 ⟨29,81,K4,M5,0⟩,
 ⟨30,9,Lb,LF,0⟩,
 ⟨31,6,Kz,JT,0⟩,
 ⟨32,16,Mw,JK,2⟩,
 ⟨33,15, .skip,[],1⟩,
 ⟨35,15,Li,L8,0⟩,
 ⟨36,15,JM,K1,0⟩,
 ⟨37,7,KL,L7,0⟩,
 ⟨38,28,JX,Kw,0⟩,
 ⟨39,47,Kc,Lr,2⟩,
 ⟨40,8,KH,KT,0⟩,
 ⟨41,8,KC,Mo,0⟩,
 ⟨42,8,Kb,MZ,0⟩,
 ⟨43,8,Km,Mp,0⟩,
 ⟨44,8,K9,Mi,0⟩,
 ⟨45,40,LB,Ml,2⟩,
 ⟨48,8,Mn,L5,0⟩,
 ⟨49,48,Ms,KX,0⟩,
 ⟨50,8,Hm,KA,0⟩,
 ⟨51,15,J6,JE,0⟩,
 ⟨52,89,KI,K5,0⟩,
 ⟨53,132,K6,Lq,0⟩,
 ⟨54,140,Lj,LZ,0⟩,
 ⟨55,39,LJ,Lc,0⟩,
 ⟨56,67,KR,JZ,0⟩,
 ⟨57,34,Mm,KZ,0⟩,
 ⟨58,19,K3,Kv,0⟩,
 ⟨59,43,M1,KF,0⟩,
 ⟨63,90,MU,LQ,0⟩,
 ⟨64,58,JO,JW,0⟩,
 ⟨65,12,Mb,MT,0⟩,
 ⟨66,12,MD,KJ,0⟩,
 ⟨67,63,L4,J1,0⟩,
 ⟨68,92,MF,La,0⟩,
 ⟨69,102,KW,JR,0⟩,
 ⟨70,62,JL,MQ,0⟩,
 ⟨71,33,LV,Ks,0⟩,
 ⟨72,31,M8,Ls,0⟩,
 ⟨73,24,M0,LD,0⟩,
 ⟨74,17,MY,MS,0⟩,
 ⟨75,19,Mu,Lt,0⟩,
 ⟨76,23,KV,ML,0⟩,
 ⟨78,21,M3,Ld,0⟩,
 ⟨79,9,Mt,LL,0⟩,
 ⟨80,103,JS,Mf,0⟩,
 ⟨81,9,J8,J4,0⟩,
 ⟨82,6,Kk,LR,0⟩,
 ⟨83,10,Lv,Kq,0⟩,
 ⟨84,26,Kt,Mv,0⟩,
 ⟨85,5,MP,LY,0⟩,
 ⟨86,16, .skip,[],1⟩,
 ⟨87,13,LA,MR,0⟩,
 ⟨88,55,Mj,M7,0⟩,
 ⟨89,29,LP,M6,0⟩,
 ⟨90,67,LW,J2,0⟩,
 ⟨91,8,Kf,M9,0⟩,
 ⟨92,10,JP,JG,0⟩,
 ⟨93,9,MG,Ma,0⟩,
 ⟨94,9,Lu,Kx,0⟩,
 ⟨95,9,KE,JQ,0⟩,
 ⟨96,10,Lk,KQ,0⟩,
 ⟨97,13,MI,L2,0⟩,
 ⟨98,11,Lg,K8,0⟩,
 ⟨99,24,MX,MK,0⟩,
 ⟨100,77,FP,Bp,0⟩,
 ⟨101,10,xF,CU,0⟩,
 ⟨102,16,Gj,Gh,0⟩,
 ⟨103,10,EM,Fh,0⟩,
 ⟨104,31,zE,xh,0⟩,
 ⟨105,23,xn,BD,0⟩,
 ⟨106,8,A3,Bw,0⟩,
 ⟨113,77,BG,zT,0⟩,
 ⟨114,32,F8,zb,0⟩,
 ⟨115,20,DD,AF,0⟩,
 ⟨119,33,yn,xx,0⟩,
 ⟨120,17,z7,yf,0⟩,
 ⟨121,5,xu,xb,0⟩,
 ⟨122,8,sX,Fj,0⟩,
 ⟨123,21,A0,DA,0⟩,
 ⟨124,17,Fv,CF,0⟩,
 ⟨125,5,Bs,Gw,0⟩,
 ⟨126,38,Ab,BK,0⟩,
 ⟨127,26,Br,FB,0⟩,
 ⟨128,17,Ct,Ca,0⟩,
 ⟨129,4,Gr,BO,0⟩,
 ⟨130,15,CC,AN,0⟩,
 ⟨131,8,oW,Di,0⟩,
 ⟨132,22,DM,xd,0⟩,
 ⟨133,8,tR,xL,0⟩,
 ⟨134,23,z8,yI,0⟩,
 ⟨135,22,FM,yS,0⟩,
 ⟨136,42,Ez,wX,0⟩,
 ⟨138,19,C8,yx,0⟩,
 ⟨139,95,AP,DK,0⟩,
 ⟨140,6,xE,GH,2⟩,
 ⟨141,10,By,yr,0⟩,
 ⟨142,9,Eh,AE,0⟩,
 ⟨143,25,yz,Ej,0⟩,
 ⟨144,10,Eu,xZ,0⟩,
 ⟨145,9,xU,yA,0⟩,
 ⟨146,13,D5,Fi,0⟩,
 ⟨147,42,CD,Dm,0⟩,
 ⟨148,9,DV,zo,0⟩,
 ⟨149,10,Cl,zX,0⟩,
 ⟨150,10,Gi,zF,0⟩,
 ⟨151,9,Dl,Aa,0⟩,
 ⟨152,9,B6,xX,0⟩,
 ⟨153,51,Dr,Bd,0⟩,
 ⟨154,16,Am,Fa,0⟩,
 ⟨155,54,CX,Bf,0⟩,
 ⟨156,98,xr,FJ,2⟩,
 ⟨157,8,E2,yt,0⟩,
 ⟨158,52,GJ,Ep,0⟩,
 ⟨159,16,BP,DH,0⟩,
 ⟨160,11,Bz,FX,0⟩,
 ⟨161,13,Cd,xJ,0⟩,
 ⟨162,24,DI,CK,0⟩,
 ⟨163,16,A5,Cz,0⟩,
 ⟨164,9,Dz,Fy,0⟩,
 ⟨165,24,zP,yC,0⟩,
 ⟨166,64,Bi,yN,0⟩,
 ⟨167,13,GP,C9,0⟩,
 ⟨168,9,wY,DO,0⟩,
 ⟨169,9,CV,AZ,0⟩,
 ⟨170,8,tP,w5,0⟩,
 ⟨181,33,zg,B0,0⟩,
 ⟨182,26,Ei,FA,0⟩,
 ⟨183,30,B2,Bl,0⟩,
 ⟨184,8,CH,AA,0⟩,
 ⟨185,28,y4,Cu,0⟩,
 ⟨186,4,y7,Aw,0⟩,
 ⟨187,17,Ck,zz,0⟩,
 ⟨191,17,wW,Fs,0⟩,
 ⟨192,5,FR,xa,0⟩,
 ⟨193,8,ui,xV,0⟩,
 ⟨194,19,EP,yL,0⟩,
 ⟨195,10,De,A8,0⟩,
 ⟨196,27,Ac,BN,2⟩,
 ⟨197,19,B7,EC,0⟩,
 ⟨198,10,CM,Cb,0⟩,
 ⟨199,10,Cj,Dh,0⟩,
 ⟨200,26,CG,B1,2⟩,
 ⟨201,34,yp,EN,0⟩,
 ⟨202,10,zf,FL,0⟩,
 ⟨203,32,xG,Fl,2⟩,
 ⟨204,18,Cw,xj,0⟩,
 ⟨205,6,Gn,DX,0⟩,
 ⟨206,3,Fg,Ec,0⟩,
 ⟨207,22,CA,w0,0⟩,
 ⟨208,4,C6,BE,0⟩,
 ⟨209,24,FO,zO,0⟩,
 ⟨210,37,Gk,Be,0⟩,
 ⟨211,24,DE,Gs,0⟩,
 ⟨212,72,EB,EU,0⟩,
 ⟨213,29,y6,AT,0⟩,
 ⟨214,17,Em,A2,0⟩,
 ⟨215,6,xw,Bk,0⟩,
 ⟨216,6,F6,DF,0⟩,
 ⟨217,12,C2,Ag,0⟩,
 ⟨218,9,xk,zU,0⟩,
 ⟨219,9,BY,zl,0⟩,
 ⟨220,7,yQ,zY,0⟩,
 ⟨221,18,Bn,Ff,0⟩,
 ⟨222,15,yJ,DN,0⟩,
 ⟨223,17,F1,Dk,0⟩,
 ⟨224,6,Gf,BH,0⟩,
 ⟨225,40,AX,zW,0⟩,
 ⟨226,15,DJ,BT,0⟩,
 ⟨227,14,zc,Eb,0⟩,
 ⟨228,35,EF,xM,0⟩,
 ⟨229,3,Dj,Cp,0⟩,
 ⟨230,97,Ds,Df,0⟩,
 ⟨231,13,FH,zI,0⟩,
 ⟨232,19,Gy,Al,0⟩,
 ⟨233,19,y5,Es,0⟩,
 ⟨234,13,w8,BQ,0⟩,
 ⟨235,19,Bx,yV,0⟩,
 ⟨236,6,zD,AB,0⟩,
 ⟨237,57,GC,B3,0⟩,
 ⟨238,15,FT,y8,0⟩,
 ⟨239,75,zk,xS,0⟩,
 ⟨240,8, .skip,[],1⟩,
 ⟨241,40,D4,FN,0⟩,
 ⟨242,10,zQ,yM,0⟩,
 ⟨243,10,yU,Da,0⟩,
 ⟨244,5,CP,GI,0⟩,
 ⟨245,11,Cn,CR,0⟩,
 ⟨246,10,Gb,xe,0⟩,
 ⟨247,66,zG,AG,0⟩,
 ⟨248,19,EA,FF,0⟩,
 ⟨249,19,DP,Ap,0⟩,
 ⟨262,25,yy,ym,0⟩,
 ⟨263,26,F3,D8,0⟩,
 ⟨264,16,FQ,AK,0⟩,
 ⟨265,34,FZ,zm,0⟩,
 ⟨266,6,Gl,yb,0⟩,
 ⟨268,19,DG,zZ,0⟩,
 ⟨269,10,wZ,CT,0⟩,
 ⟨270,87,Co,yi,2⟩,
 ⟨271,25,ER,CO,0⟩,
 ⟨272,45,Gm,A1,0⟩,
 ⟨273,34,Fk,zp,0⟩,
 ⟨274,17,En,zr,0⟩,
 ⟨275,16,DY,Bu,0⟩,
 ⟨276,2,B5,xT,0⟩,
 ⟨277,6,Gz,FW,0⟩,
 ⟨278,95,C3,Az,2⟩,
 ⟨279,10,x9,Ao,0⟩,
 ⟨280,29,Dq,Et,0⟩,
 ⟨281,23,EO,Ax,0⟩,
 ⟨282,4,zV,AS,0⟩,
 ⟨283,26,yw,EE,0⟩,
 ⟨284,22,Gu,C0,0⟩,
 ⟨285,19,Fw,Ee,0⟩,
 ⟨286,39,ED,yu,0⟩,
 ⟨287,19,A7,CN,0⟩,
 ⟨288,188,yj,Bj,2⟩,
 ⟨289,80,CZ,E1,0⟩,
 ⟨290,27,Fb,Cx,0⟩,
 ⟨291,5,Bo,F0,0⟩,
 ⟨292,8,pW,DC,0⟩,
 ⟨293,6,xY,EY,0⟩,
 ⟨294,8,CQ,BA,0⟩,
 ⟨295,8,ub,yH,0⟩,
 ⟨296,8,DQ,y0,0⟩,
 ⟨297,9,xi,DL,0⟩,
 ⟨298,33,Cs,Ed,0⟩,
 ⟨299,58,F2,Dy,0⟩,
 ⟨300,11,Ch,zS,0⟩,
 ⟨301,61,zR,AV,0⟩,
 ⟨302,21,BF,Ai,0⟩,
 ⟨303,9,yT,yP,0⟩,
 ⟨304,9,FI,BB,0⟩,
 ⟨310,25,Dt,E8,0⟩,
 ⟨313,8,DT,Ek,0⟩,
 ⟨315,9,GM,A4,0⟩,
 ⟨316,14,EW,Fo,0⟩,
 ⟨317,9,EI,yE,0⟩,
 ⟨318,11,ES,yX,0⟩,
 ⟨319,17,DU,C7,0⟩,
 ⟨320,13,D6,EK,0⟩,
 ⟨321,71,El,GF,0⟩,
 ⟨322,17,z6,yF,0⟩,
 ⟨323,24,Ew,DB,0⟩,
 ⟨324,28,CB,FE,0⟩,
 ⟨325,47,zA,zL,0⟩,
 ⟨326,8,xz,yc,0⟩,
 ⟨327,18,GL,Fe,0⟩,
 ⟨328,24,yR,Cv,0⟩,
 ⟨329,56,CS,Bv,0⟩,
 ⟨330,194,yo,Gq,0⟩,
 ⟨331,9,zt,Cr,0⟩,
 ⟨332,134,zu,Ef,0⟩,
 ⟨333,8,BR,Fz,0⟩,
 ⟨334,3,Dc,BU,0⟩,
 ⟨335,10,AY,BJ,0⟩,
 ⟨336,10,yq,Ga,0⟩,
 ⟨337,15,zB,Af,0⟩,
 ⟨338,15,Fp,AU,0⟩,
 ⟨339,14,yk,An,0⟩,
 ⟨340,14,zw,xf,0⟩,
 ⟨341,19,zx,FU,0⟩,
 ⟨342,10,ET,E4,0⟩,
 ⟨343,19,Gv,Bg,0⟩,
 ⟨344,11,BI,yW,0⟩,
 ⟨345,25,Dw,EX,0⟩,
 ⟨346,19,BZ,yd,0⟩,
 ⟨347,49,yl,EV,0⟩,
 ⟨348,56,Eg,B8,0⟩,
 ⟨349,65,EJ,xW,0⟩,
 ⟨350,57,Bc,CI,0⟩,
 ⟨351,32,ze,Bh,0⟩,
 ⟨352,133,xo,GA,0⟩,
 ⟨353,84,Dd,GD,0⟩,
 ⟨354,168,AO,yZ,0⟩,
 ⟨355,19,Cy,Dv,0⟩,
 ⟨356,76,BV,xy,0⟩,
 ⟨357,7,F7,C5,0⟩,
 ⟨358,33,Gc,EL,0⟩,
 ⟨359,15,Fc,AR,0⟩,
 ⟨360,36,DW,Ar,0⟩,
 ⟨361,28,Cg,Bt,0⟩]
theorem fY:fZ Tryz.prog fH:=⟨E_3,E_4,E_5,E_6,E_7,E_8,E_9,ajj,ah4,ai8,ake,ahg,afs,ag7,ag9,afU,afH,af8,ahW,ai2,ahS,aiP,ajY,aiL,aki,ag8,aji,ahk,afB,ahR,agS,ahm,aju,afp,ah5,ahU,ae7,agN,afX,ajB,agv,agE,ajQ,akh,akc,ai5,ai1,aiJ,ain,ahP,agG,ag3,ag5,aiM,ajy,ahK,af7,ajl,ajS,agK,ajt,agk,ajr,afK,ajd,agM,afn,ajK,ajA,ahY,afG,afV,agh,agC,agX,agZ,agQ,ajv,agt,ai3,afd,aiS,ah1,aif,afl,agT,aj7,ahL,ajh,ahy,adG,Uk,Wy,acx,PE,aew,Sz,Wj,Tv,U4,aec,PU,SA,OZ,P2,Vp,aaQ,acK,aar,aaj,TG,Zg,ad3,acV,XT,abN,Ol,aba,acM,aam,Wa,RB,XP,aeG,Rm,Xr,adI,Sn,N8,Sy,abe,On,WV,aeQ,Nh,Um,Z3,adw,SM,Pk,Qb,aaM,Ry,NV,ad7,Zc,PD,WL,Oy,S6,R0,abD,aaC,Tz,Qu,acY,PL,acO,ac4,TD,Ow,YV,TJ,Nk,RT,Vs,X9,Pq,Q0,W7,PA,NX,aaa,Vi,Ys,X6,ae4,Rz,Pd,WM,adK,adP,Ti,Zk,NN,OT,acZ,T8,adT,aaz,ZM,Xc,Oh,adF,ZL,aeS,Qk,ad4,WZ,PZ,Ym,abl,PY,Vc,Y7,Zz,TE,XQ,abT,Tm,Xu,R7,SO,acq,aby,UY,ac1,adB,aaW,TX,Tx,Qv,Vl,Tw,VA,X0,UL,aeO,S0,Sv,QV,Nj,O6,Vd,VJ,aeJ,Za,Zy,U5,OO,XB,Sl,PR,SL,Ta,Yc,Ya,Nd,VC,aep,abF,Q6,RL,ab2,S8,YU,OL,Pw,WJ,aci,Xn,Tc,NB,Nz,acz,aes,OV,adH,aa7,S7,UG,adq,Qo,Zm,aay,QI,VF,ab6,Ua,SX,Wi,XI,aaU,SF,QL,Uw,aaT,aej,YR,NC,abv,abQ,aeZ,adf,V5,aef,X2,OC,acv,aem,acP,Zx,aaI,Yi,adm,acm,Ui,abb,trivial⟩
end Go.AM
