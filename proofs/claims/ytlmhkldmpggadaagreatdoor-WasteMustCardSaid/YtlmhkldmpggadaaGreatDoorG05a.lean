/- MADE BY PROGRAM (gen.py): the abstract code of functions of this seat, each checked against the given code by the kernel. -/
import Derived.Test.YtlmhkldmpggadaaGreatDoorChecked
import Derived.Test.YtlmhkldmpggadaaGreatDoorP15
import Derived.Test.YtlmhkldmpggadaaGreatDoorP16
namespace Go.AM
open Go.Proofs
@[simp] abbrev mV (d s:Nat):aD:=⟨some d,none, .mv (.t s)⟩
@[simp] abbrev oP (d:Nat) (i:AI):aD:=⟨some d,none,i⟩
@[simp] abbrev oN (i:AI):aD:=⟨none,none,i⟩
@[simp] abbrev gT (d g:Nat) (i:AI):aD:=⟨some d,some (g,true),i⟩
@[simp] abbrev gF (d g:Nat) (i:AI):aD:=⟨some d,some (g,false),i⟩
abbrev RsT:=List (Nat × Option (Option Nat))
abbrev SpF (n:Nat) (F:FuncId) (C:AC) (Rs:RsT):Prop:=∀ {args:List ag} {σ:af} {R:dU → af → Prop},args.length ≤ n → AW Tryz.prog n none C (yZ Rs R) { v:=ep args 0,ds:=[] } σ → Spec Tryz.prog F args σ R
theorem SpI {n:Nat} {F:FuncId} {fn:Func} {C:AC} {Rs:RsT} (hf:Tryz.prog.funcs[F]? = some fn) (hk:Am Tryz.prog fn n C Rs = true):SpF n F C Rs:=fun ha h=>Spec.Co hf hk ha h
@[simp] abbrev cI (n:Int):aM:=.c (.int .i64 n)
abbrev P2:FuncId:=10
def PV:AC:=
(.seq (.reg [oP 3 (.pbox 5 (.t 0)),
oP 6 (.mv (.c (.bool false)))] [1,2,3])
(.seq (.reg [oP 23 (.load (some 5) (.t 3)),
oP 24 (.call (.f 28) [true] [(.t 23)]),
mV 22 24,
oP 25 (.extract (.t 22) 0),
oP 26 (.extract (.t 22) 1),
mV 7 25,
mV 8 26] [1,2,3,7,8])
(.seq (.reg [oP 28 (.load (some 5) (.t 3)),
oP 29 (.call (.f 30) [true] [(.t 28)]),
mV 27 29,
oP 30 (.extract (.t 27) 0),
oP 31 (.extract (.t 27) 1),
mV 9 30,
mV 10 31] [1,2,3,7,8,9,10])
(.seq (.reg [oP 33 (.load (some 5) (.t 3)),
oP 34 (.call (.f 25) [true] [(.t 33)]),
mV 32 34,
oP 35 (.extract (.t 32) 0),
oP 36 (.extract (.t 32) 1),
mV 11 35,
mV 12 36] [1,2,3,7,8,9,10,11,12])
(.seq (.seq (.reg [oP 37 (.load (some 5) (.t 3)),
oP 38 (.call (.f 43) [true] [(.t 37)]),
oP 39 (.un .not (.t 38)),
mV 40 39,
gF 41 40 (.mv (.t 8)),
gF 42 40 (.bin .neq (.t 41) (cI 0)),
oP 43 (.pick (.t 40) (.c (.bool true)) (.t 42))] [1,2,3,7,8,9,10,11,12,43])
(.cond (.t 43)
(.seq (.reg [mV 44 8,
oP 45 (.bin .neq (.t 44) (cI 0)),
mV 46 45,
gT 47 46 (.mv (.t 10)),
gT 48 46 (.mv (.t 8)),
gT 49 46 (.bin .eql (.t 47) (.t 48)),
oP 50 (.pick (.t 46) (.t 49) (.c (.bool false))),
mV 51 50,
gT 52 51 (.mv (.t 12)),
gT 53 51 (.mv (.t 8)),
gT 54 51 (.bin .eql (.t 52) (.t 53)),
oP 55 (.pick (.t 51) (.t 54) (.c (.bool false))),
mV 56 55,
gT 57 56 (.call (.f 24) [] []),
oP 58 (.pick (.t 56) (.t 57) (.c (.bool false))),
mV 6 58] [6])
.ret)
.skip))
(.seq (.seq (.reg [mV 59 10,
oP 60 (.bin .neq (.t 59) (cI 0)),
mV 61 60,
gF 62 61 (.mv (.t 12)),
gF 63 61 (.bin .neq (.t 62) (cI 0)),
oP 64 (.pick (.t 61) (.c (.bool true)) (.t 63)),
mV 65 64,
gF 66 65 (.fieldAddr none 3 (.t 3)),
gF 67 65 (.load none (.t 66)),
gF 68 65 (.len (.t 67)),
gF 69 65 (.bin .eql (.t 68) (cI 0)),
oP 70 (.pick (.t 65) (.c (.bool true)) (.t 69))] [1,2,3,7,9,10,11,12,70])
(.cond (.t 70)
(.seq (.reg [mV 71 10,
oP 72 (.bin .eql (.t 71) (cI 0)),
mV 73 72,
gT 74 73 (.mv (.t 12)),
gT 75 73 (.bin .eql (.t 74) (cI 0)),
oP 76 (.pick (.t 73) (.t 75) (.c (.bool false))),
mV 77 76,
gT 78 77 (.mv (.t 7)),
gT 79 77 (.len (.t 78)),
gT 80 77 (.mv (.t 9)),
gT 81 77 (.len (.t 80)),
gT 82 77 (.bin .add (.t 79) (.t 81)),
gT 83 77 (.bin .eql (.t 82) (cI 0)),
oP 84 (.pick (.t 77) (.t 83) (.c (.bool false))),
mV 85 84,
gT 86 85 (.call (.f 24) [] []),
oP 87 (.pick (.t 85) (.t 86) (.c (.bool false))),
mV 6 87] [6])
.ret)
.skip))
(.seq (.reg [mV 88 1,
oP 89 (.conv .i64 (.t 88)),
oP 90 (.fieldAddr none 3 (.t 3)),
oP 91 (.load none (.t 90)),
oP 92 (.len (.t 91)),
oP 93 (.bin .rem (.t 89) (.t 92)),
mV 13 93] [2,3,7,9,11,13])
(.seq (.dreg [oP 95 (.load (some 5) (.t 3)),
oP 96 (.load (some 5) (.t 3)),
mV 97 13,
oP 98 (.call (.f 48) [true,false] [(.t 96),(.t 97)]),
oP 99 (.call (.f 18) [true,true] [(.t 95),(.t 98)]),
mV 94 99,
oP 100 (.extract (.t 94) 0),
oP 101 (.extract (.t 94) 1),
mV 14 100,
mV 15 101] [2,3,7,9,11,13,14,15] [[],[],[],[1,2],[0,1,2,3],[0,1,2,3,4],[0,1,2,3,4,5],[0,1,2,3,4,5],[0,1,2,3,4,5,6],[0,1,2,3,4,5,6,7,8]])
(.seq (.reg [oP 102 (.load (some 5) (.t 3)),
mV 103 2,
oP 104 (.call (.f 47) [true,false] [(.t 102),(.t 103)]),
mV 16 104] [3,7,9,11,13,14,15,16])
(.seq (.reg [oP 106 (.load (some 5) (.t 3)),
mV 107 16,
oP 108 (.call (.f 18) [true,true] [(.t 106),(.t 107)]),
mV 105 108,
oP 109 (.extract (.t 105) 0),
oP 110 (.extract (.t 105) 1),
mV 17 109,
mV 18 110] [3,7,9,11,13,14,15,16,17,18])
(.seq (.seq (.reg [mV 111 15,
oP 112 (.bin .neq (.t 111) (cI 0)),
mV 113 112,
gF 114 113 (.mv (.t 18)),
gF 115 113 (.bin .neq (.t 114) (cI 0)),
oP 116 (.pick (.t 113) (.c (.bool true)) (.t 115)),
mV 117 116,
gF 118 117 (.mv (.t 14)),
gF 119 117 (.mv (.t 7)),
gF 120 117 (.mv (.t 13)),
gF 121 117 (.call (.f 45) [true,false] [(.t 119),(.t 120)]),
gF 122 117 (.eqb false (.t 118) (.t 121)),
oP 123 (.pick (.t 117) (.c (.bool true)) (.t 122)),
mV 124 123,
gF 125 124 (.mv (.t 17)),
gF 126 124 (.mv (.t 125)),
gT 127 126 (.mv (.t 7)),
gT 128 126 (.mv (.t 13)),
gT 129 126 (.call (.f 45) [true,false] [(.t 127),(.t 128)]),
gF 130 124 (.pick (.t 126) (.t 129) (.c (.bool false))),
gF 131 124 (.mv (.t 130)),
gT 132 131 (.mv (.t 16)),
gT 133 131 (.mv (.t 13)),
gT 134 131 (.call (.f 45) [true,false] [(.t 132),(.t 133)]),
gT 135 131 (.un .not (.t 134)),
gF 136 124 (.pick (.t 131) (.t 135) (.c (.bool false))),
oP 137 (.pick (.t 124) (.c (.bool true)) (.t 136))] [3,9,11,13,16,17,137])
(.cond (.t 137)
(.seq (.reg [oP 6 (.mv (.c (.bool false)))] [6])
.ret)
.skip))
(.seq (.seq (.reg [mV 138 17,
mV 139 138,
gT 140 139 (.mv (.t 16)),
gT 141 139 (.len (.t 140)),
gT 142 139 (.mv (.t 11)),
gT 143 139 (.len (.t 142)),
gT 144 139 (.bin .lss (.t 141) (.t 143)),
oP 145 (.pick (.t 139) (.t 144) (.c (.bool false))),
mV 146 145,
gF 147 146 (.mv (.t 17)),
gF 148 146 (.mv (.t 147)),
gT 149 148 (.mv (.t 16)),
gT 150 148 (.len (.t 149)),
gT 151 148 (.mv (.t 11)),
gT 152 148 (.len (.t 151)),
gT 153 148 (.bin .eql (.t 150) (.t 152)),
gF 154 146 (.pick (.t 148) (.t 153) (.c (.bool false))),
gF 155 146 (.mv (.t 154)),
gT 156 155 (.mv (.t 16)),
gT 157 155 (.mv (.t 13)),
gT 158 155 (.call (.f 45) [true,false] [(.t 156),(.t 157)]),
gF 159 146 (.pick (.t 155) (.t 158) (.c (.bool false))),
gF 160 146 (.mv (.t 159)),
gT 161 160 (.mv (.t 9)),
gT 162 160 (.mv (.t 13)),
gT 163 160 (.call (.f 45) [true,false] [(.t 161),(.t 162)]),
gT 164 160 (.un .not (.t 163)),
gF 165 146 (.pick (.t 160) (.t 164) (.c (.bool false))),
oP 166 (.pick (.t 146) (.c (.bool true)) (.t 165))] [3,9,11,13,166])
(.cond (.t 166)
(.seq (.reg [oP 6 (.mv (.c (.bool false)))] [6])
.ret)
.skip))
(.seq (.reg [oP 19 (.mv (.c (.bool false)))] [3,9,11,13,19])
(.seq (.reg [mV 167 11,
oP 168 (.len (.t 167)),
oP 169 (.fieldAddr none 3 (.t 3)),
oP 170 (.load none (.t 169)),
oP 171 (.len (.t 170)),
oP 172 (.call (.f 49) [true,false,false] [(.c (.slice 1 [])),(.t 168),(.t 171)]),
mV 20 172] [3,9,13,19,20])
(.seq (.seq (.reg [oP 21 (.mv (cI 0))] [3,9,13,19,20,21])
(.block 0
(.loop [3,9,13,19,20,21]
(.seq (.seq (.reg [mV 173 21,
mV 174 20,
oP 175 (.len (.t 174)),
oP 176 (.bin .lss (.t 173) (.t 175)),
mV 177 176,
gT 178 177 (.mv (.t 9)),
gT 179 177 (.mv (.t 13)),
gT 180 177 (.call (.f 45) [true,false] [(.t 178),(.t 179)]),
oP 181 (.pick (.t 177) (.t 180) (.c (.bool false))),
mV 182 181,
gT 183 182 (.mv (.t 19)),
gT 184 182 (.un .not (.t 183)),
oP 185 (.pick (.t 182) (.t 184) (.c (.bool false)))] [3,9,13,19,20,21,185])
(.cond (.t 185)
.skip
(.exit 0)))
(.seq (.block 1
(.seq (.reg [mV 188 20,
mV 189 21,
oP 190 (.ixS 1 (.t 188) (.t 189)),
oP 191 (.load none (.t 190)),
mV 192 13,
oP 193 (.call (.f 45) [true,false] [(.t 191),(.t 192)])] [3,9,13,19,20,21,193])
(.cond (.t 193)
(.dreg [oP 195 (.load (some 5) (.t 3)),
mV 196 20,
mV 197 21,
oP 198 (.ixS 1 (.t 196) (.t 197)),
oP 199 (.load none (.t 198)),
oP 200 (.call (.f 18) [true,true] [(.t 195),(.t 199)]),
mV 194 200,
oP 201 (.extract (.t 194) 0),
oP 202 (.extract (.t 194) 1),
mV 19 201] [3,9,13,19,20,21] [[],[],[],[1,2],[1,2,3],[0,1,2,3,4],[0,1,2,3,4,5],[0,1,2,3,4,5,6],[0,1,2,3,4,5,6],[0,1,2,3,4,5,6,7]])
.skip)))
(.reg [mV 186 21,
oP 187 (.bin .add (.t 186) (cI 1)),
mV 21 187] [3,9,13,19,20,21]))))))
(.seq (.reg [mV 203 19,
mV 204 9,
mV 205 13,
oP 206 (.call (.f 45) [true,false] [(.t 204),(.t 205)]),
oP 207 (.eqb false (.t 203) (.t 206)),
mV 208 207,
gT 209 208 (.call (.f 24) [] []),
oP 210 (.pick (.t 208) (.t 209) (.c (.bool false))),
mV 6 210] [6])
.ret))))))))))))))))
abbrev P5:RsT:=[(6,none)]
theorem P9:SpF 211 P2 PV P5:=SpI Tryz.func10 (by kernel_rfl)
abbrev IF:FuncId:=16
def Dz:AC:=
(.seq (.reg [oP 1 (.pbox 5 (.t 0)),
oP 2 (.mv (cI 0)),
oP 3 (.mv (cI 0)),
oP 4 (.mv (cI 0))] [1])
(.seq (.reg [oP 9 (.load (some 5) (.t 1)),
oP 10 (.build [.slice 1 [], .slice 1 [], .slice 4 [], .slice 5 [], .slice 4 []] [(0,5,(.t 9))]),
oP 5 (.alloc [.slice 1 [], .slice 1 [], .slice 4 [], .slice 5 [], .slice 4 []]),
oN (.store 5 (.t 5) (.t 10))] [5])
(.frz 5 true (.seq (.seq (.reg [oP 11 (.fieldAddr (some 5) 0 (.t 5)),
oP 12 (.fieldAddr none 0 (.t 11)),
oP 13 (.load none (.t 12)),
oP 14 (.len (.t 13)),
oP 15 (.lit 0 1 1 [(0,(.t 14))]),
oP 16 (.call (.f 53) [false,false,true] [(cI 1),(cI 4),(.t 15)]),
mV 17 16,
gF 18 17 (.fieldAddr (some 5) 0 (.t 5)),
gF 19 17 (.fieldAddr none 1 (.t 18)),
gF 20 17 (.load none (.t 19)),
gF 21 17 (.len (.t 20)),
gF 22 17 (.lit 0 1 1 [(0,(.t 21))]),
gF 23 17 (.call (.f 53) [false,false,true] [(cI 1),(cI 4),(.t 22)]),
oP 24 (.pick (.t 17) (.c (.bool true)) (.t 23)),
mV 25 24,
gF 26 25 (.fieldAddr (some 5) 0 (.t 5)),
gF 27 25 (.fieldAddr none 3 (.t 26)),
gF 28 25 (.load none (.t 27)),
gF 29 25 (.len (.t 28)),
gF 30 25 (.bin .gtr (.t 29) (cI 10)),
oP 31 (.pick (.t 25) (.c (.bool true)) (.t 30)),
mV 32 31,
gF 33 32 (.fieldAddr (some 5) 0 (.t 5)),
gF 34 32 (.fieldAddr none 2 (.t 33)),
gF 35 32 (.load none (.t 34)),
gF 36 32 (.len (.t 35)),
gF 37 32 (.fieldAddr (some 5) 0 (.t 5)),
gF 38 32 (.fieldAddr none 4 (.t 37)),
gF 39 32 (.load none (.t 38)),
gF 40 32 (.len (.t 39)),
gF 41 32 (.mx [(.t 36),(.t 40)]),
gF 42 32 (.bin .gtr (.t 41) (cI 8)),
oP 43 (.pick (.t 32) (.c (.bool true)) (.t 42))] [5,43])
(.cond (.t 43)
(.seq (.reg [oP 2 (.mv (cI 1)),
oP 3 (.mv (cI 0)),
oP 4 (.mv (cI 3))] [2,3,4])
.ret)
.skip))
(.seq (.reg [oP 44 (.mkfunc (.func 54) [] [(.t 5)]),
oP 45 (.mkfunc (.func 56) [] [(.t 5)]),
oP 46 (.mkfunc (.func 57) [] [(.t 5)]),
oP 47 (.mkfunc (.func 59) [] [(.t 5)]),
oP 48 (.mkfunc (.func 62) [] [(.t 5)]),
oP 49 (.build [.nilfunc, .nilfunc, .nilfunc, .nilfunc, .nilfunc] [(0,1,(.t 44)),(1,1,(.t 45)),(2,1,(.t 46)),(3,1,(.t 47)),(4,1,(.t 48))]),
oP 6 (.alloc [.nilfunc, .nilfunc, .nilfunc, .nilfunc, .nilfunc]),
oN (.store 5 (.t 6) (.t 49))] [6])
(.frz 6 true (.seq (.seq (.reg [oP 50 (.load (some 5) (.t 6)),
oP 51 (.mv (cI 0))] [50,51])
(.block 0
(.loop [50,51]
(.seq (.reg [oP 52 (.bin .lss (.t 51) (cI 5))] [50,51,52])
(.seq (.cond (.t 52)
.skip
(.exit 0))
(.seq (.block 1
(.seq (.reg [mV 53 51,
oP 54 (.ixV 5 1 none (.t 50) (.t 51)),
mV 7 53,
mV 8 54] [7,8,50,51])
(.seq (.reg [mV 56 8,
oP 57 (.call (.t 56) [] []),
mV 55 57,
oP 58 (.extract (.t 55) 0),
oP 59 (.extract (.t 55) 1),
mV 3 58,
mV 4 59] [3,4,7,50,51])
(.seq (.reg [mV 60 4,
oP 61 (.bin .neq (.t 60) (cI 0))] [3,4,7,50,51,61])
(.cond (.t 61)
(.seq (.reg [mV 62 7,
oP 63 (.bin .add (.t 62) (cI 2)),
mV 64 3,
mV 65 4,
mV 2 63,
mV 3 64,
mV 4 65] [2,3,4])
.ret)
.skip)))))
(.reg [oP 66 (.bin .add (.t 51) (cI 1)),
mV 51 66] [50,51])))))))
(.seq (.reg [oP 2 (.mv (cI 0)),
oP 3 (.mv (cI 0)),
oP 4 (.mv (cI 0))] [2,3,4])
.ret))))))))
abbrev Pp:RsT:=[(2,none),(3,none),(4,none)]
theorem Pv:SpF 67 IF Dz Pp:=SpI Tryz.func16 (by kernel_rfl)
theorem AV:ar Tryz.prog IF = true:=by kernel_rfl
abbrev Is:FuncId:=17
def zh:AC:=
(.seq (.reg [oP 1 (.pbox 5 (.t 0)),
oP 2 (.mv (cI 0)),
oP 3 (.mv (cI 0)),
oP 4 (.mv (cI 0))] [1])
(.seq (.seq (.reg [oP 8 (.fieldAddr none 0 (.t 1)),
oP 9 (.load none (.t 8)),
oP 10 (.len (.t 9)),
oP 11 (.call (.f 63) [false,false,false] [(.t 10),(cI 1),(cI 4)]),
oP 12 (.un .not (.t 11)),
mV 13 12,
gF 14 13 (.fieldAddr none 1 (.t 1)),
gF 15 13 (.load none (.t 14)),
gF 16 13 (.len (.t 15)),
gF 17 13 (.call (.f 63) [false,false,false] [(.t 16),(cI 1),(cI 4)]),
gF 18 13 (.un .not (.t 17)),
oP 19 (.pick (.t 13) (.c (.bool true)) (.t 18)),
mV 20 19,
gF 21 20 (.fieldAddr none 3 (.t 1)),
gF 22 20 (.load none (.t 21)),
gF 23 20 (.len (.t 22)),
gF 24 20 (.bin .gtr (.t 23) (cI 10)),
oP 25 (.pick (.t 20) (.c (.bool true)) (.t 24)),
mV 26 25,
gF 27 26 (.fieldAddr none 2 (.t 1)),
gF 28 26 (.load none (.t 27)),
gF 29 26 (.len (.t 28)),
gF 30 26 (.bin .gtr (.t 29) (cI 8)),
oP 31 (.pick (.t 26) (.c (.bool true)) (.t 30)),
mV 32 31,
gF 33 32 (.fieldAddr none 4 (.t 1)),
gF 34 32 (.load none (.t 33)),
gF 35 32 (.len (.t 34)),
gF 36 32 (.bin .gtr (.t 35) (cI 8)),
oP 37 (.pick (.t 32) (.c (.bool true)) (.t 36))] [1,37])
(.cond (.t 37)
(.seq (.reg [oP 2 (.mv (cI 1)),
oP 3 (.mv (cI 0)),
oP 4 (.mv (cI 3))] [2,3,4])
.ret)
.skip))
(.seq (.reg [oP 39 (.fieldAddr none 0 (.t 1)),
oP 40 (.load none (.t 39)),
oP 41 (.call (.f 64) [true] [(.t 40)]),
mV 38 41,
oP 42 (.extract (.t 38) 0),
oP 43 (.extract (.t 38) 1),
mV 5 42,
mV 6 43] [1,5,6])
(.seq (.seq (.reg [mV 44 6,
oP 45 (.bin .neq (.t 44) (cI 0))] [1,5,6,45])
(.cond (.t 45)
(.seq (.reg [mV 46 5,
mV 47 6,
oP 2 (.mv (cI 2)),
mV 3 46,
mV 4 47] [2,3,4])
.ret)
.skip))
(.seq (.reg [oP 49 (.fieldAddr none 1 (.t 1)),
oP 50 (.load none (.t 49)),
oP 51 (.call (.f 64) [true] [(.t 50)]),
mV 48 51,
oP 52 (.extract (.t 48) 0),
oP 53 (.extract (.t 48) 1),
mV 5 52,
mV 6 53] [1,5,6])
(.seq (.seq (.reg [mV 54 6,
oP 55 (.bin .neq (.t 54) (cI 0))] [1,5,6,55])
(.cond (.t 55)
(.seq (.reg [mV 56 5,
mV 57 6,
oP 2 (.mv (cI 3)),
mV 3 56,
mV 4 57] [2,3,4])
.ret)
.skip))
(.seq (.reg [oP 59 (.load (some 5) (.t 1)),
oP 60 (.fieldAddr none 2 (.t 1)),
oP 61 (.load none (.t 60)),
oP 62 (.call (.f 65) [true,true] [(.t 59),(.t 61)]),
mV 58 62,
oP 63 (.extract (.t 58) 0),
oP 64 (.extract (.t 58) 1),
mV 5 63,
mV 6 64] [1,5,6])
(.seq (.seq (.reg [mV 65 6,
oP 66 (.bin .neq (.t 65) (cI 0))] [1,5,6,66])
(.cond (.t 66)
(.seq (.reg [mV 67 5,
mV 68 6,
oP 2 (.mv (cI 4)),
mV 3 67,
mV 4 68] [2,3,4])
.ret)
.skip))
(.seq (.seq (.reg [oP 7 (.mv (cI 0))] [1,7])
(.block 0
(.loop [1,7]
(.seq (.seq (.reg [mV 69 7,
oP 70 (.fieldAddr none 3 (.t 1)),
oP 71 (.load none (.t 70)),
oP 72 (.len (.t 71)),
oP 73 (.bin .lss (.t 69) (.t 72))] [1,7,73])
(.cond (.t 73)
.skip
(.exit 0)))
(.seq (.block 1
(.seq (.reg [oP 76 (.load (some 5) (.t 1)),
mV 77 7,
oP 78 (.call (.f 66) [true,false] [(.t 76),(.t 77)]),
mV 6 78] [1,6,7])
(.seq (.reg [mV 79 6,
oP 80 (.bin .neq (.t 79) (cI 0))] [1,6,7,80])
(.cond (.t 80)
(.seq (.reg [mV 81 7,
mV 82 6,
oP 2 (.mv (cI 5)),
mV 3 81,
mV 4 82] [2,3,4])
.ret)
.skip))))
(.reg [mV 74 7,
oP 75 (.bin .add (.t 74) (cI 1)),
mV 7 75] [1,7]))))))
(.seq (.reg [oP 84 (.load (some 5) (.t 1)),
oP 85 (.fieldAddr none 4 (.t 1)),
oP 86 (.load none (.t 85)),
oP 87 (.call (.f 65) [true,true] [(.t 84),(.t 86)]),
mV 83 87,
oP 88 (.extract (.t 83) 0),
oP 89 (.extract (.t 83) 1),
mV 5 88,
mV 6 89] [5,6])
(.seq (.seq (.reg [mV 90 6,
oP 91 (.bin .neq (.t 90) (cI 0))] [5,6,91])
(.cond (.t 91)
(.seq (.reg [mV 92 5,
mV 93 6,
oP 2 (.mv (cI 6)),
mV 3 92,
mV 4 93] [2,3,4])
.ret)
.skip))
(.seq (.reg [oP 2 (.mv (cI 0)),
oP 3 (.mv (cI 0)),
oP 4 (.mv (cI 0))] [2,3,4])
.ret))))))))))))
abbrev M9:RsT:=[(2,none),(3,none),(4,none)]
theorem Pf:SpF 94 Is zh M9:=SpI Tryz.func17 (by kernel_rfl)
theorem MV:ar Tryz.prog Is = true:=by kernel_rfl
abbrev E7:FuncId:=18
def It:AC:=
(.seq (.reg [oP 2 (.pbox 5 (.t 0)),
oP 4 (.mv (.c (.bool false))),
oP 5 (.mv (cI 0))] [1,2])
(.seq (.reg [oP 9 (.load (some 5) (.t 2)),
mV 10 1,
oP 11 (.call (.f 67) [true,true] [(.t 9),(.t 10)]),
mV 8 11,
oP 12 (.extract (.t 8) 0),
oP 13 (.extract (.t 8) 1),
oP 6 (.alloc [.slice 1 [], .slice 1 [], .slice 4 [], .slice 5 [], .slice 4 []]),
oN (.store 5 (.t 6) (.t 12)),
mV 7 13] [1,6,7])
(.frz 6 true (.seq (.reg [mV 14 7,
oP 15 (.bin .eql (.t 14) (cI 0)),
mV 16 15,
gT 17 16 (.load (some 5) (.t 6)),
gT 18 16 (.mv (.t 1)),
gT 19 16 (.call (.f 68) [true,true] [(.t 17),(.t 18)]),
oP 20 (.pick (.t 16) (.t 19) (.c (.bool false))),
mV 21 7,
mV 4 20,
mV 5 21] [4,5])
.ret))))
abbrev Po:RsT:=[(4,none),(5,none)]
theorem Pu:SpF 22 E7 It Po:=SpI Tryz.func18 (by kernel_rfl)
theorem oz:ar Tryz.prog E7 = true:=by kernel_rfl
abbrev F4:FuncId:=20
def GW:AC:=
(.seq (.reg [oP 2 (.pbox 5 (.t 0)),
oP 4 (.alloc [.int .i64 0, .int .i64 0, .int .i64 0, .int .i64 0]),
oP 5 (.mv (cI 0))] [1,2,4])
(.seq (.reg [oP 14 (.load (some 5) (.t 2)),
mV 15 1,
oP 16 (.call (.f 67) [true,true] [(.t 14),(.t 15)]),
mV 13 16,
oP 17 (.extract (.t 13) 0),
oP 18 (.extract (.t 13) 1),
oP 6 (.alloc [.slice 1 [], .slice 1 [], .slice 4 [], .slice 5 [], .slice 4 []]),
oN (.store 5 (.t 6) (.t 17)),
mV 7 18] [1,4,6,7])
(.frz 6 true (.seq (.seq (.reg [mV 19 7,
oP 20 (.bin .neq (.t 19) (cI 0))] [1,4,6,7,20])
(.cond (.t 20)
(.seq (.reg [oP 21 (.build [.int .i64 0, .int .i64 0, .int .i64 0, .int .i64 0] []),
mV 22 7,
oN (.store 4 (.t 4) (.t 21)),
mV 5 22] [4,5])
.ret)
.skip))
(.seq (.seq (.reg [oP 23 (.load (some 5) (.t 6)),
mV 24 1,
oP 25 (.call (.f 70) [true,true] [(.t 23),(.t 24)]),
mV 8 25] [1,4,6,8])
(.seq (.reg [mV 26 8,
oP 27 (.bin .geq (.t 26) (cI 0))] [1,4,6,8,27])
(.cond (.t 27)
(.seq (.reg [mV 28 8,
oP 29 (.build [.int .i64 0, .int .i64 0, .int .i64 0, .int .i64 0] [(0,1,(.t 28))]),
oN (.store 4 (.t 4) (.t 29)),
oP 5 (.mv (cI 0))] [4,5])
.ret)
.skip)))
(.seq (.seq (.reg [oP 30 (.fieldAddr (some 5) 0 (.t 6)),
oP 31 (.fieldAddr none 0 (.t 30)),
oP 32 (.load none (.t 31)),
oP 33 (.len (.t 32)),
oP 34 (.mv (cI 0))] [1,4,6,33,34])
(.block 0
(.loop [1,4,6,33,34]
(.seq (.reg [oP 35 (.bin .lss (.t 34) (.t 33))] [1,4,6,33,34,35])
(.seq (.cond (.t 35)
.skip
(.exit 0))
(.seq (.block 1
(.seq (.reg [mV 36 34,
mV 9 36] [1,4,6,9,33,34])
(.seq (.reg [oP 10 (.mv (cI 1))] [1,4,6,9,10,33,34])
(.block 2
(.loop [1,4,6,9,10,33,34]
(.seq (.seq (.reg [mV 37 10,
oP 38 (.fieldAddr (some 5) 0 (.t 6)),
oP 39 (.fieldAddr none 1 (.t 38)),
oP 40 (.load none (.t 39)),
oP 41 (.len (.t 40)),
oP 42 (.bin .shl (cI 1) (.t 41)),
oP 43 (.bin .lss (.t 37) (.t 42))] [1,4,6,9,10,33,34,43])
(.cond (.t 43)
.skip
(.exit 2)))
(.seq (.block 3
(.seq (.reg [oP 47 (.load (some 5) (.t 6)),
mV 48 9,
mV 49 10,
mV 50 1,
oP 51 (.call (.f 71) [true,false,false,true] [(.t 47),(.t 48),(.t 49),(.t 50)]),
mV 46 51,
oP 52 (.extract (.t 46) 0),
oP 53 (.extract (.t 46) 1),
mV 11 52,
mV 12 53] [1,4,6,9,10,11,12,33,34])
(.seq (.seq (.reg [mV 54 11,
oP 55 (.bin .eql (.t 54) (cI 0))] [1,4,6,9,10,11,12,33,34,55])
(.cond (.t 55)
(.reg [mV 56 12,
mV 11 56] [1,4,6,9,10,11,33,34])
.skip))
(.seq (.reg [mV 57 11,
oP 58 (.bin .neq (.t 57) (cI 0))] [1,4,6,9,10,11,33,34,58])
(.cond (.t 58)
(.seq (.reg [mV 59 9,
mV 60 10,
mV 61 11,
oP 62 (.build [.int .i64 0, .int .i64 0, .int .i64 0, .int .i64 0] [(0,1,(cI (-1))),(1,1,(.t 59)),(2,1,(.t 60)),(3,1,(.t 61))]),
oN (.store 4 (.t 4) (.t 62)),
oP 5 (.mv (cI 0))] [4,5])
.ret)
.skip)))))
(.reg [mV 44 10,
oP 45 (.bin .add (.t 44) (cI 1)),
mV 10 45] [1,4,6,9,10,33,34]))))))))
(.reg [oP 63 (.bin .add (.t 34) (cI 1)),
mV 34 63] [1,4,6,33,34])))))))
(.seq (.reg [oP 64 (.build [.int .i64 0, .int .i64 0, .int .i64 0, .int .i64 0] []),
oN (.store 4 (.t 4) (.t 64)),
oP 5 (.mv (cI 4))] [4,5])
.ret)))))))
abbrev Ox:RsT:=[(4,some (some 4)),(5,none)]
theorem NS:SpF 65 F4 GW Ox:=SpI Tryz.func20 (by kernel_rfl)
theorem GR:ar Tryz.prog F4 = true:=by kernel_rfl
abbrev G8:FuncId:=22
def yV:AC:=
(.seq (.reg [oP 3 (.pbox 5 (.t 0)),
oP 5 (.pbox 4 (.t 2)),
oP 6 (.mv (.c (.bool false))),
oP 7 (.mv (cI 0))] [1,3,5])
(.seq (.reg [oP 13 (.load (some 5) (.t 3)),
mV 14 1,
oP 15 (.call (.f 67) [true,true] [(.t 13),(.t 14)]),
mV 12 15,
oP 16 (.extract (.t 12) 0),
oP 17 (.extract (.t 12) 1),
oP 8 (.alloc [.slice 1 [], .slice 1 [], .slice 4 [], .slice 5 [], .slice 4 []]),
oN (.store 5 (.t 8) (.t 16)),
mV 9 17] [1,5,8,9])
(.frz 8 true (.seq (.block 0
(.seq (.reg [mV 19 9,
oP 20 (.bin .neq (.t 19) (cI 0)),
mV 18 20] [1,5,8,9,18])
(.cond (.t 18)
(.seq (.reg [mV 21 9,
oP 6 (.mv (.c (.bool false))),
mV 7 21] [6,7])
.ret)
(.seq (.reg [oP 23 (.fieldAddr none 0 (.t 5)),
oP 24 (.load none (.t 23)),
oP 25 (.bin .neq (.t 24) (cI (-1))),
mV 22 25] [1,5,8,22])
(.cond (.t 22)
(.seq (.reg [oP 26 (.load (some 4) (.t 5)),
oP 27 (.fieldAddr none 0 (.t 5)),
oP 28 (.load none (.t 27)),
oP 29 (.build [.int .i64 0, .int .i64 0, .int .i64 0, .int .i64 0] [(0,1,(.t 28))]),
oP 30 (.eqa false [.i, .i, .i, .i] (.t 26) (.t 29)),
mV 31 30,
gT 32 31 (.fieldAddr (some 5) 0 (.t 8)),
gT 33 31 (.fieldAddr none 3 (.t 32)),
gT 34 31 (.load none (.t 33)),
gT 35 31 (.len (.t 34)),
gT 36 31 (.bin .sub (.t 35) (cI 1)),
gT 37 31 (.fieldAddr none 0 (.t 5)),
gT 38 31 (.load none (.t 37)),
gT 39 31 (.lit 0 1 1 [(0,(.t 38))]),
gT 40 31 (.call (.f 53) [false,false,true] [(cI 0),(.t 36),(.t 39)]),
gT 41 31 (.un .not (.t 40)),
oP 42 (.pick (.t 31) (.t 41) (.c (.bool false))),
mV 43 42,
gT 44 43 (.load (some 5) (.t 8)),
gT 45 43 (.fieldAddr none 0 (.t 5)),
gT 46 43 (.load none (.t 45)),
gT 47 43 (.mv (.t 1)),
gT 48 43 (.call (.f 73) [true,false,true] [(.t 44),(.t 46),(.t 47)]),
oP 49 (.pick (.t 43) (.t 48) (.c (.bool false))),
mV 6 49,
oP 7 (.mv (cI 0))] [6,7])
.ret)
(.seq (.dreg [oP 51 (.fieldAddr (some 5) 0 (.t 8)),
oP 52 (.fieldAddr none 0 (.t 51)),
oP 53 (.load none (.t 52)),
oP 54 (.len (.t 53)),
oP 55 (.bin .sub (.t 54) (cI 1)),
oP 56 (.fieldAddr none 1 (.t 5)),
oP 57 (.load none (.t 56)),
oP 58 (.lit 0 1 1 [(0,(.t 57))]),
oP 59 (.call (.f 53) [false,false,true] [(cI 0),(.t 55),(.t 58)]),
mV 60 59,
gF 61 60 (.fieldAddr (some 5) 0 (.t 8)),
gF 62 60 (.fieldAddr none 1 (.t 61)),
gF 63 60 (.load none (.t 62)),
gF 64 60 (.len (.t 63)),
gF 65 60 (.bin .shl (cI 1) (.t 64)),
gF 66 60 (.bin .sub (.t 65) (cI 1)),
gF 67 60 (.fieldAddr none 2 (.t 5)),
gF 68 60 (.load none (.t 67)),
gF 69 60 (.lit 0 1 1 [(0,(.t 68))]),
gF 70 60 (.call (.f 53) [false,false,true] [(cI 1),(.t 66),(.t 69)]),
oP 71 (.pick (.t 60) (.c (.bool true)) (.t 70)),
mV 50 71] [1,5,8,50] [[],[0],[0,1],[0,1,2],[0,1,2,3],[],[5],[5,6],[0,1,2,3,4,5,6,7],[0,1,2,3,4,5,6,7,8],[0,1,2,3,4,5,6,7,8,9],[0,1,2,3,4,5,6,7,8,9,10],[0,1,2,3,4,5,6,7,8,9,10,11],[0,1,2,3,4,5,6,7,8,9,10,11,12],[0,1,2,3,4,5,6,7,8,9,10,11,12,13],[0,1,2,3,4,5,6,7,8,9,10,11,12,13,14],[0,1,2,3,4,5,6,7,8,9],[0,1,2,3,4,5,6,7,8,9,16],[0,1,2,3,4,5,6,7,8,9,16,17],[0,1,2,3,4,5,6,7,8,9,10,11,12,13,14,15,16,17,18],[0,1,2,3,4,5,6,7,8,9,10,11,12,13,14,15,16,17,18,19],[0,1,2,3,4,5,6,7,8,9,10,11,12,13,14,15,16,17,18,19,20]])
(.cond (.t 50)
(.seq (.reg [oP 6 (.mv (.c (.bool false))),
oP 7 (.mv (cI 0))] [6,7])
.ret)
.skip)))))))
(.seq (.reg [oP 73 (.load (some 5) (.t 8)),
oP 74 (.fieldAddr none 1 (.t 5)),
oP 75 (.load none (.t 74)),
oP 76 (.fieldAddr none 2 (.t 5)),
oP 77 (.load none (.t 76)),
mV 78 1,
oP 79 (.call (.f 71) [true,false,false,true] [(.t 73),(.t 75),(.t 77),(.t 78)]),
mV 72 79,
oP 80 (.extract (.t 72) 0),
oP 81 (.extract (.t 72) 1),
mV 10 80,
mV 11 81] [5,10,11])
(.seq (.reg [oP 82 (.fieldAddr none 3 (.t 5)),
oP 83 (.load none (.t 82)),
oP 84 (.bin .gtr (.t 83) (cI 0)),
mV 85 84,
gT 86 85 (.fieldAddr none 3 (.t 5)),
gT 87 85 (.load none (.t 86)),
gT 88 85 (.mv (.t 10)),
gT 89 85 (.bin .eql (.t 87) (.t 88)),
oP 90 (.pick (.t 85) (.t 89) (.c (.bool false))),
mV 91 90,
gF 92 91 (.fieldAddr none 3 (.t 5)),
gF 93 91 (.load none (.t 92)),
gF 94 91 (.bin .lss (.t 93) (cI 0)),
gF 95 91 (.mv (.t 94)),
gT 96 95 (.fieldAddr none 3 (.t 5)),
gT 97 95 (.load none (.t 96)),
gT 98 95 (.mv (.t 11)),
gT 99 95 (.bin .eql (.t 97) (.t 98)),
gF 100 91 (.pick (.t 95) (.t 99) (.c (.bool false))),
oP 101 (.pick (.t 91) (.c (.bool true)) (.t 100)),
mV 6 101,
oP 7 (.mv (cI 0))] [6,7])
.ret))))))
abbrev OR:RsT:=[(6,none),(7,none)]
theorem NX:SpF 102 G8 yV OR:=SpI Tryz.func22 (by kernel_rfl)
theorem C0:ar Tryz.prog G8 = true:=by kernel_rfl
abbrev Jq:FuncId:=24
def Mr:AC:=
(.seq (.reg [oP 0 (.mv (.c (.bool false)))] [])
(.seq (.reg [oP 29 (.call (.f 41) [false] [(.c (.bool false))]),
oP 30 (.call (.f 41) [false] [(.c (.bool true))]),
oP 1 (.alloc [.slice 1 [], .slice 1 [], .slice 4 [], .slice 5 [], .slice 4 []]),
oP 2 (.alloc [.slice 1 [], .slice 1 [], .slice 4 [], .slice 5 [], .slice 4 []]),
oN (.store 5 (.t 1) (.t 29)),
oN (.store 5 (.t 2) (.t 30))] [1,2])
(.frz 2 true (.frz 1 true (.seq (.reg [oP 32 (.load (some 5) (.t 1)),
oP 33 (.lit 0 1 1 [(0,(cI 1))]),
oP 34 (.call (.f 18) [true,true] [(.t 32),(.t 33)]),
mV 31 34,
oP 35 (.extract (.t 31) 0),
oP 36 (.extract (.t 31) 1),
mV 3 35,
mV 4 36] [1,2,3,4])
(.seq (.reg [oP 38 (.load (some 5) (.t 1)),
oP 39 (.lit 0 1 1 [(0,(cI 0))]),
oP 40 (.call (.f 18) [true,true] [(.t 38),(.t 39)]),
mV 37 40,
oP 41 (.extract (.t 37) 0),
oP 42 (.extract (.t 37) 1),
mV 5 41,
mV 6 42] [1,2,3,4,5,6])
(.seq (.reg [oP 44 (.load (some 5) (.t 1)),
oP 45 (.lit 0 1 1 [(0,(cI 0))]),
oP 46 (.call (.f 20) [true,true] [(.t 44),(.t 45)]),
mV 43 46,
oP 47 (.extract (.t 43) 0),
oP 48 (.extract (.t 43) 1),
oP 7 (.alloc [.int .i64 0, .int .i64 0, .int .i64 0, .int .i64 0]),
oN (.store 4 (.t 7) (.t 47)),
mV 8 48] [1,2,3,4,5,6,7,8])
(.frz 7 true (.seq (.reg [oP 50 (.load (some 5) (.t 1)),
oP 51 (.lit 0 1 1 [(0,(cI 0))]),
oP 52 (.build [.int .i64 0, .int .i64 0, .int .i64 0, .int .i64 0] [(0,1,(cI (-1))),(2,1,(cI 1)),(3,1,(cI 100))]),
oP 53 (.call (.f 22) [true,true,false] [(.t 50),(.t 51),(.t 52)]),
mV 49 53,
oP 54 (.extract (.t 49) 0),
oP 55 (.extract (.t 49) 1),
mV 9 54,
mV 10 55] [1,2,3,4,5,6,7,8,9,10])
(.seq (.reg [oP 57 (.load (some 5) (.t 1)),
oP 58 (.lit 0 1 1 [(0,(cI 0))]),
oP 59 (.build [.int .i64 0, .int .i64 0, .int .i64 0, .int .i64 0] [(0,1,(cI (-1))),(2,1,(cI 1)),(3,1,(cI 99))]),
oP 60 (.call (.f 22) [true,true,false] [(.t 57),(.t 58),(.t 59)]),
mV 56 60,
oP 61 (.extract (.t 56) 0),
oP 62 (.extract (.t 56) 1),
mV 11 61,
mV 12 62] [1,2,3,4,5,6,7,8,9,10,11,12])
(.seq (.reg [oP 64 (.load (some 5) (.t 2)),
oP 65 (.call (.f 25) [true] [(.t 64)]),
mV 63 65,
oP 66 (.extract (.t 63) 0),
oP 67 (.extract (.t 63) 1),
mV 13 66,
mV 14 67] [1,2,3,4,5,6,7,8,9,10,11,12,13,14])
(.seq (.reg [oP 69 (.load (some 5) (.t 1)),
oP 70 (.call (.f 28) [true] [(.t 69)]),
mV 68 70,
oP 71 (.extract (.t 68) 0),
oP 72 (.extract (.t 68) 1),
mV 15 71,
mV 16 72] [1,2,3,4,5,6,7,8,9,10,11,12,13,14,15,16])
(.seq (.reg [oP 74 (.load (some 5) (.t 2)),
oP 75 (.call (.f 30) [true] [(.t 74)]),
mV 73 75,
oP 76 (.extract (.t 73) 0),
oP 77 (.extract (.t 73) 1),
mV 17 76,
mV 18 77] [1,2,3,4,5,6,7,8,9,10,11,12,13,14,15,16,17,18])
(.seq (.reg [oP 79 (.load (some 5) (.t 2)),
oP 80 (.lit 0 1 2 [(0,(cI 0)),(1,(cI 1))]),
oP 81 (.call (.f 32) [true,true,false] [(.t 79),(.t 80),(cI 0)]),
mV 78 81,
oP 82 (.extract (.t 78) 0),
oP 83 (.extract (.t 78) 1),
oP 19 (.alloc [.int .i64 0, .int .i64 0]),
oN (.store 2 (.t 19) (.t 82)),
mV 20 83] [1,2,3,4,5,6,7,8,9,10,11,12,13,14,15,16,17,18,19,20])
(.frz 19 true (.seq (.reg [oP 85 (.load (some 5) (.t 1)),
oP 86 (.lit 0 1 1 [(0,(cI 1))]),
oP 87 (.call (.f 34) [true,true,false] [(.t 85),(.t 86),(cI 0)]),
mV 84 87,
oP 88 (.extract (.t 84) 0),
oP 89 (.extract (.t 84) 1),
oP 21 (.alloc [.int .i64 0, .int .i64 0]),
oN (.store 2 (.t 21) (.t 88)),
mV 22 89] [1,2,3,4,5,6,7,8,9,10,11,12,13,14,15,16,17,18,19,20,21,22])
(.frz 21 true (.seq (.reg [oP 91 (.load (some 5) (.t 2)),
oP 92 (.call (.f 36) [true] [(.t 91)]),
mV 90 92,
oP 93 (.extract (.t 90) 0),
oP 94 (.extract (.t 90) 1),
mV 23 93,
mV 24 94] [1,2,3,4,5,6,7,8,9,10,11,12,13,14,15,16,17,18,19,20,21,22,23,24])
(.seq (.reg [oP 96 (.call (.f 78) [] []),
oP 97 (.call (.f 38) [false] [(.t 96)]),
mV 95 97,
oP 98 (.extract (.t 95) 0),
oP 99 (.extract (.t 95) 1),
oP 25 (.alloc [.slice 1 [], .slice 1 [], .slice 4 [], .slice 5 [], .slice 4 []]),
oN (.store 5 (.t 25) (.t 98)),
mV 26 99] [1,2,3,4,5,6,7,8,9,10,11,12,13,14,15,16,17,18,19,20,21,22,23,24,25,26])
(.frz 25 true (.seq (.reg [oP 101 (.load (some 5) (.t 1)),
oP 102 (.lit 0 1 1 [(0,(cI 0))]),
oP 103 (.call (.f 32) [true,true,false] [(.t 101),(.t 102),(cI 0)]),
mV 100 103,
oP 104 (.extract (.t 100) 0),
oP 105 (.extract (.t 100) 1),
oP 27 (.alloc [.int .i64 0, .int .i64 0]),
oN (.store 2 (.t 27) (.t 104)),
mV 28 105] [2,3,4,5,6,7,8,9,10,11,12,13,14,15,16,17,18,19,20,21,22,23,24,25,26,28])
(.seq (.dreg [mV 106 4,
oP 107 (.bin .eql (.t 106) (cI 0)),
mV 108 107,
gT 109 108 (.mv (.t 6)),
gT 110 108 (.bin .eql (.t 109) (cI 0)),
oP 111 (.pick (.t 108) (.t 110) (.c (.bool false))),
mV 112 111,
gT 113 112 (.mv (.t 8)),
gT 114 112 (.bin .eql (.t 113) (cI 0)),
oP 115 (.pick (.t 112) (.t 114) (.c (.bool false))),
mV 116 115,
gT 117 116 (.mv (.t 10)),
gT 118 116 (.bin .eql (.t 117) (cI 0)),
oP 119 (.pick (.t 116) (.t 118) (.c (.bool false))),
mV 120 119,
gT 121 120 (.mv (.t 12)),
gT 122 120 (.bin .eql (.t 121) (cI 0)),
oP 123 (.pick (.t 120) (.t 122) (.c (.bool false))),
mV 124 123,
gT 125 124 (.mv (.t 14)),
gT 126 124 (.bin .eql (.t 125) (cI 0)),
oP 127 (.pick (.t 124) (.t 126) (.c (.bool false))),
mV 128 127,
gT 129 128 (.mv (.t 16)),
gT 130 128 (.bin .eql (.t 129) (cI 0)),
oP 131 (.pick (.t 128) (.t 130) (.c (.bool false))),
mV 132 131,
gT 133 132 (.mv (.t 18)),
gT 134 132 (.bin .eql (.t 133) (cI 0)),
oP 135 (.pick (.t 132) (.t 134) (.c (.bool false))),
mV 136 135,
gT 137 136 (.mv (.t 20)),
gT 138 136 (.bin .eql (.t 137) (cI 0)),
oP 139 (.pick (.t 136) (.t 138) (.c (.bool false))),
mV 140 139,
gT 141 140 (.mv (.t 22)),
gT 142 140 (.bin .eql (.t 141) (cI 0)),
oP 143 (.pick (.t 140) (.t 142) (.c (.bool false))),
mV 144 143,
gT 145 144 (.mv (.t 24)),
gT 146 144 (.bin .eql (.t 145) (cI 0)),
oP 147 (.pick (.t 144) (.t 146) (.c (.bool false))),
mV 148 147,
gT 149 148 (.mv (.t 26)),
gT 150 148 (.bin .eql (.t 149) (cI 0)),
oP 151 (.pick (.t 148) (.t 150) (.c (.bool false))),
mV 152 151,
gT 153 152 (.mv (.t 28)),
gT 154 152 (.bin .eql (.t 153) (cI 9)),
oP 155 (.pick (.t 152) (.t 154) (.c (.bool false))),
mV 156 155,
gT 157 156 (.mv (.t 3)),
oP 158 (.pick (.t 156) (.t 157) (.c (.bool false))),
mV 159 158,
gT 160 159 (.mv (.t 5)),
gT 161 159 (.un .not (.t 160)),
oP 162 (.pick (.t 159) (.t 161) (.c (.bool false))),
mV 163 162,
gT 164 163 (.load (some 4) (.t 7)),
gT 165 163 (.build [.int .i64 0, .int .i64 0, .int .i64 0, .int .i64 0] [(0,1,(cI (-1))),(2,1,(cI 1)),(3,1,(cI 100))]),
gT 166 163 (.eqa false [.i, .i, .i, .i] (.t 164) (.t 165)),
oP 167 (.pick (.t 163) (.t 166) (.c (.bool false))),
mV 168 167,
gT 169 168 (.mv (.t 9)),
oP 170 (.pick (.t 168) (.t 169) (.c (.bool false))),
mV 171 170,
gT 172 171 (.mv (.t 11)),
gT 173 171 (.un .not (.t 172)),
oP 174 (.pick (.t 171) (.t 173) (.c (.bool false))),
mV 175 174,
gT 176 175 (.mv (.t 13)),
gT 177 175 (.lit 0 1 1 [(0,(cI 0))]),
gT 178 175 (.call (.f 27) [true,true] [(.t 176),(.t 177)]),
oP 179 (.pick (.t 175) (.t 178) (.c (.bool false))),
mV 180 179,
gT 181 180 (.mv (.t 15)),
gT 182 180 (.lit 0 1 1 [(0,(cI 1))]),
gT 183 180 (.call (.f 27) [true,true] [(.t 181),(.t 182)]),
oP 184 (.pick (.t 180) (.t 183) (.c (.bool false))),
mV 185 184,
gT 186 185 (.mv (.t 17)),
gT 187 185 (.lit 0 1 2 [(0,(cI 0)),(1,(cI 1))]),
gT 188 185 (.call (.f 27) [true,true] [(.t 186),(.t 187)]),
oP 189 (.pick (.t 185) (.t 188) (.c (.bool false))),
mV 190 189,
gT 191 190 (.load (some 2) (.t 19)),
gT 192 190 (.call (.f 42) [false,false] [(cI 500),(cI 600)]),
gT 193 190 (.eqa false [.i, .i] (.t 191) (.t 192)),
oP 194 (.pick (.t 190) (.t 193) (.c (.bool false))),
mV 195 194,
gT 196 195 (.load (some 2) (.t 21)),
gT 197 195 (.call (.f 42) [false,false] [(cI 300),(cI 300)]),
gT 198 195 (.eqa false [.i, .i] (.t 196) (.t 197)),
oP 199 (.pick (.t 195) (.t 198) (.c (.bool false))),
mV 200 199,
gT 201 200 (.mv (.t 23)),
gT 202 200 (.call (.f 78) [] []),
gT 203 200 (.bin .eql (.t 201) (.t 202)),
oP 204 (.pick (.t 200) (.t 203) (.c (.bool false))),
mV 205 204,
gT 206 205 (.load (some 5) (.t 25)),
gT 207 205 (.load (some 5) (.t 2)),
gT 208 205 (.call (.f 40) [true,true] [(.t 206),(.t 207)]),
oP 209 (.pick (.t 205) (.t 208) (.c (.bool false))),
mV 0 209] [0] [[],[0],[0,1],[0,1,2],[0,1,2,3],[0,1,2,3,4],[0,1,2,3,4,5],[0,1,2,3,4,5,6],[0,1,2,3,4,5,6,7],[0,1,2,3,4,5,6,7,8],[0,1,2,3,4,5,6,7,8,9],[0,1,2,3,4,5,6,7,8,9,10],[0,1,2,3,4,5,6,7,8,9,10,11],[0,1,2,3,4,5,6,7,8,9,10,11,12],[0,1,2,3,4,5,6,7,8,9,10,11,12,13],[0,1,2,3,4,5,6,7,8,9,10,11,12,13,14],[0,1,2,3,4,5,6,7,8,9,10,11,12,13,14,15],[0,1,2,3,4,5,6,7,8,9,10,11,12,13,14,15,16],[0,1,2,3,4,5,6,7,8,9,10,11,12,13,14,15,16,17],[0,1,2,3,4,5,6,7,8,9,10,11,12,13,14,15,16,17,18],[0,1,2,3,4,5,6,7,8,9,10,11,12,13,14,15,16,17,18,19],[0,1,2,3,4,5,6,7,8,9,10,11,12,13,14,15,16,17,18,19,20],[0,1,2,3,4,5,6,7,8,9,10,11,12,13,14,15,16,17,18,19,20,21],[0,1,2,3,4,5,6,7,8,9,10,11,12,13,14,15,16,17,18,19,20,21,22],[0,1,2,3,4,5,6,7,8,9,10,11,12,13,14,15,16,17,18,19,20,21,22,23],[0,1,2,3,4,5,6,7,8,9,10,11,12,13,14,15,16,17,18,19,20,21,22,23,24],[0,1,2,3,4,5,6,7,8,9,10,11,12,13,14,15,16,17,18,19,20,21,22,23,24,25],[0,1,2,3,4,5,6,7,8,9,10,11,12,13,14,15,16,17,18,19,20,21,22,23,24,25,26],[0,1,2,3,4,5,6,7,8,9,10,11,12,13,14,15,16,17,18,19,20,21,22,23,24,25,26,27],[0,1,2,3,4,5,6,7,8,9,10,11,12,13,14,15,16,17,18,19,20,21,22,23,24,25,26,27,28],[0,1,2,3,4,5,6,7,8,9,10,11,12,13,14,15,16,17,18,19,20,21,22,23,24,25,26,27,28,29],[0,1,2,3,4,5,6,7,8,9,10,11,12,13,14,15,16,17,18,19,20,21,22,23,24,25,26,27,28,29,30],[0,1,2,3,4,5,6,7,8,9,10,11,12,13,14,15,16,17,18,19,20,21,22,23,24,25,26,27,28,29,30,31],[0,1,2,3,4,5,6,7,8,9,10,11,12,13,14,15,16,17,18,19,20,21,22,23,24,25,26,27,28,29,30,31,32],[0,1,2,3,4,5,6,7,8,9,10,11,12,13,14,15,16,17,18,19,20,21,22,23,24,25,26,27,28,29,30,31,32,33],[0,1,2,3,4,5,6,7,8,9,10,11,12,13,14,15,16,17,18,19,20,21,22,23,24,25,26,27,28,29,30,31,32,33,34],[0,1,2,3,4,5,6,7,8,9,10,11,12,13,14,15,16,17,18,19,20,21,22,23,24,25,26,27,28,29,30,31,32,33,34,35],[0,1,2,3,4,5,6,7,8,9,10,11,12,13,14,15,16,17,18,19,20,21,22,23,24,25,26,27,28,29,30,31,32,33,34,35,36],[0,1,2,3,4,5,6,7,8,9,10,11,12,13,14,15,16,17,18,19,20,21,22,23,24,25,26,27,28,29,30,31,32,33,34,35,36,37],[0,1,2,3,4,5,6,7,8,9,10,11,12,13,14,15,16,17,18,19,20,21,22,23,24,25,26,27,28,29,30,31,32,33,34,35,36,37,38],[0,1,2,3,4,5,6,7,8,9,10,11,12,13,14,15,16,17,18,19,20,21,22,23,24,25,26,27,28,29,30,31,32,33,34,35,36,37,38,39],[0,1,2,3,4,5,6,7,8,9,10,11,12,13,14,15,16,17,18,19,20,21,22,23,24,25,26,27,28,29,30,31,32,33,34,35,36,37,38,39,40],[0,1,2,3,4,5,6,7,8,9,10,11,12,13,14,15,16,17,18,19,20,21,22,23,24,25,26,27,28,29,30,31,32,33,34,35,36,37,38,39,40,41],[0,1,2,3,4,5,6,7,8,9,10,11,12,13,14,15,16,17,18,19,20,21,22,23,24,25,26,27,28,29,30,31,32,33,34,35,36,37,38,39,40,41,42],[0,1,2,3,4,5,6,7,8,9,10,11,12,13,14,15,16,17,18,19,20,21,22,23,24,25,26,27,28,29,30,31,32,33,34,35,36,37,38,39,40,41,42,43],[0,1,2,3,4,5,6,7,8,9,10,11,12,13,14,15,16,17,18,19,20,21,22,23,24,25,26,27,28,29,30,31,32,33,34,35,36,37,38,39,40,41,42,43,44],[0,1,2,3,4,5,6,7,8,9,10,11,12,13,14,15,16,17,18,19,20,21,22,23,24,25,26,27,28,29,30,31,32,33,34,35,36,37,38,39,40,41,42,43,44,45],[0,1,2,3,4,5,6,7,8,9,10,11,12,13,14,15,16,17,18,19,20,21,22,23,24,25,26,27,28,29,30,31,32,33,34,35,36,37,38,39,40,41,42,43,44,45,46],[0,1,2,3,4,5,6,7,8,9,10,11,12,13,14,15,16,17,18,19,20,21,22,23,24,25,26,27,28,29,30,31,32,33,34,35,36,37,38,39,40,41,42,43,44,45,46,47],[0,1,2,3,4,5,6,7,8,9,10,11,12,13,14,15,16,17,18,19,20,21,22,23,24,25,26,27,28,29,30,31,32,33,34,35,36,37,38,39,40,41,42,43,44,45,46,47,48],[0,1,2,3,4,5,6,7,8,9,10,11,12,13,14,15,16,17,18,19,20,21,22,23,24,25,26,27,28,29,30,31,32,33,34,35,36,37,38,39,40,41,42,43,44,45,46,47,48,49],[0,1,2,3,4,5,6,7,8,9,10,11,12,13,14,15,16,17,18,19,20,21,22,23,24,25,26,27,28,29,30,31,32,33,34,35,36,37,38,39,40,41,42,43,44,45,46,47,48,49,50],[0,1,2,3,4,5,6,7,8,9,10,11,12,13,14,15,16,17,18,19,20,21,22,23,24,25,26,27,28,29,30,31,32,33,34,35,36,37,38,39,40,41,42,43,44,45,46,47,48,49,50,51],[0,1,2,3,4,5,6,7,8,9,10,11,12,13,14,15,16,17,18,19,20,21,22,23,24,25,26,27,28,29,30,31,32,33,34,35,36,37,38,39,40,41,42,43,44,45,46,47,48,49,50,51,52],[0,1,2,3,4,5,6,7,8,9,10,11,12,13,14,15,16,17,18,19,20,21,22,23,24,25,26,27,28,29,30,31,32,33,34,35,36,37,38,39,40,41,42,43,44,45,46,47,48,49,50,51,52,53],[0,1,2,3,4,5,6,7,8,9,10,11,12,13,14,15,16,17,18,19,20,21,22,23,24,25,26,27,28,29,30,31,32,33,34,35,36,37,38,39,40,41,42,43,44,45,46,47,48,49,50,51,52,53,54],[0,1,2,3,4,5,6,7,8,9,10,11,12,13,14,15,16,17,18,19,20,21,22,23,24,25,26,27,28,29,30,31,32,33,34,35,36,37,38,39,40,41,42,43,44,45,46,47,48,49,50,51,52,53,54,55],[0,1,2,3,4,5,6,7,8,9,10,11,12,13,14,15,16,17,18,19,20,21,22,23,24,25,26,27,28,29,30,31,32,33,34,35,36,37,38,39,40,41,42,43,44,45,46,47,48,49,50,51,52,53,54,55,56],[0,1,2,3,4,5,6,7,8,9,10,11,12,13,14,15,16,17,18,19,20,21,22,23,24,25,26,27,28,29,30,31,32,33,34,35,36,37,38,39,40,41,42,43,44,45,46,47,48,49,50,51,52,53,54,55,56,57],[0,1,2,3,4,5,6,7,8,9,10,11,12,13,14,15,16,17,18,19,20,21,22,23,24,25,26,27,28,29,30,31,32,33,34,35,36,37,38,39,40,41,42,43,44,45,46,47,48,49,50,51,52,53,54,55,56,57],[0,1,2,3,4,5,6,7,8,9,10,11,12,13,14,15,16,17,18,19,20,21,22,23,24,25,26,27,28,29,30,31,32,33,34,35,36,37,38,39,40,41,42,43,44,45,46,47,48,49,50,51,52,53,54,55,56,57,58,59],[0,1,2,3,4,5,6,7,8,9,10,11,12,13,14,15,16,17,18,19,20,21,22,23,24,25,26,27,28,29,30,31,32,33,34,35,36,37,38,39,40,41,42,43,44,45,46,47,48,49,50,51,52,53,54,55,56,57,58,59,60],[0,1,2,3,4,5,6,7,8,9,10,11,12,13,14,15,16,17,18,19,20,21,22,23,24,25,26,27,28,29,30,31,32,33,34,35,36,37,38,39,40,41,42,43,44,45,46,47,48,49,50,51,52,53,54,55,56,57,58,59,60,61],[0,1,2,3,4,5,6,7,8,9,10,11,12,13,14,15,16,17,18,19,20,21,22,23,24,25,26,27,28,29,30,31,32,33,34,35,36,37,38,39,40,41,42,43,44,45,46,47,48,49,50,51,52,53,54,55,56,57,58,59,60,61,62],[0,1,2,3,4,5,6,7,8,9,10,11,12,13,14,15,16,17,18,19,20,21,22,23,24,25,26,27,28,29,30,31,32,33,34,35,36,37,38,39,40,41,42,43,44,45,46,47,48,49,50,51,52,53,54,55,56,57,58,59,60,61,62,63],[0,1,2,3,4,5,6,7,8,9,10,11,12,13,14,15,16,17,18,19,20,21,22,23,24,25,26,27,28,29,30,31,32,33,34,35,36,37,38,39,40,41,42,43,44,45,46,47,48,49,50,51,52,53,54,55,56,57,58,59,60,61,62,63,64],[0,1,2,3,4,5,6,7,8,9,10,11,12,13,14,15,16,17,18,19,20,21,22,23,24,25,26,27,28,29,30,31,32,33,34,35,36,37,38,39,40,41,42,43,44,45,46,47,48,49,50,51,52,53,54,55,56,57,58,59,60,61,62,63,64,65],[0,1,2,3,4,5,6,7,8,9,10,11,12,13,14,15,16,17,18,19,20,21,22,23,24,25,26,27,28,29,30,31,32,33,34,35,36,37,38,39,40,41,42,43,44,45,46,47,48,49,50,51,52,53,54,55,56,57,58,59,60,61,62,63,64,65,66],[0,1,2,3,4,5,6,7,8,9,10,11,12,13,14,15,16,17,18,19,20,21,22,23,24,25,26,27,28,29,30,31,32,33,34,35,36,37,38,39,40,41,42,43,44,45,46,47,48,49,50,51,52,53,54,55,56,57,58,59,60,61,62,63,64,65,66,67],[0,1,2,3,4,5,6,7,8,9,10,11,12,13,14,15,16,17,18,19,20,21,22,23,24,25,26,27,28,29,30,31,32,33,34,35,36,37,38,39,40,41,42,43,44,45,46,47,48,49,50,51,52,53,54,55,56,57,58,59,60,61,62,63,64,65,66,67,68],[0,1,2,3,4,5,6,7,8,9,10,11,12,13,14,15,16,17,18,19,20,21,22,23,24,25,26,27,28,29,30,31,32,33,34,35,36,37,38,39,40,41,42,43,44,45,46,47,48,49,50,51,52,53,54,55,56,57,58,59,60,61,62,63,64,65,66,67,68,69],[0,1,2,3,4,5,6,7,8,9,10,11,12,13,14,15,16,17,18,19,20,21,22,23,24,25,26,27,28,29,30,31,32,33,34,35,36,37,38,39,40,41,42,43,44,45,46,47,48,49,50,51,52,53,54,55,56,57,58,59,60,61,62,63,64,65,66,67,68,69],[0,1,2,3,4,5,6,7,8,9,10,11,12,13,14,15,16,17,18,19,20,21,22,23,24,25,26,27,28,29,30,31,32,33,34,35,36,37,38,39,40,41,42,43,44,45,46,47,48,49,50,51,52,53,54,55,56,57,58,59,60,61,62,63,64,65,66,67,68,69,70,71],[0,1,2,3,4,5,6,7,8,9,10,11,12,13,14,15,16,17,18,19,20,21,22,23,24,25,26,27,28,29,30,31,32,33,34,35,36,37,38,39,40,41,42,43,44,45,46,47,48,49,50,51,52,53,54,55,56,57,58,59,60,61,62,63,64,65,66,67,68,69,70,71,72],[0,1,2,3,4,5,6,7,8,9,10,11,12,13,14,15,16,17,18,19,20,21,22,23,24,25,26,27,28,29,30,31,32,33,34,35,36,37,38,39,40,41,42,43,44,45,46,47,48,49,50,51,52,53,54,55,56,57,58,59,60,61,62,63,64,65,66,67,68,69,70,71,72,73],[0,1,2,3,4,5,6,7,8,9,10,11,12,13,14,15,16,17,18,19,20,21,22,23,24,25,26,27,28,29,30,31,32,33,34,35,36,37,38,39,40,41,42,43,44,45,46,47,48,49,50,51,52,53,54,55,56,57,58,59,60,61,62,63,64,65,66,67,68,69,70,71,72,73,74],[0,1,2,3,4,5,6,7,8,9,10,11,12,13,14,15,16,17,18,19,20,21,22,23,24,25,26,27,28,29,30,31,32,33,34,35,36,37,38,39,40,41,42,43,44,45,46,47,48,49,50,51,52,53,54,55,56,57,58,59,60,61,62,63,64,65,66,67,68,69,70,71,72,73,74],[0,1,2,3,4,5,6,7,8,9,10,11,12,13,14,15,16,17,18,19,20,21,22,23,24,25,26,27,28,29,30,31,32,33,34,35,36,37,38,39,40,41,42,43,44,45,46,47,48,49,50,51,52,53,54,55,56,57,58,59,60,61,62,63,64,65,66,67,68,69,70,71,72,73,74,75,76],[0,1,2,3,4,5,6,7,8,9,10,11,12,13,14,15,16,17,18,19,20,21,22,23,24,25,26,27,28,29,30,31,32,33,34,35,36,37,38,39,40,41,42,43,44,45,46,47,48,49,50,51,52,53,54,55,56,57,58,59,60,61,62,63,64,65,66,67,68,69,70,71,72,73,74,75,76,77],[0,1,2,3,4,5,6,7,8,9,10,11,12,13,14,15,16,17,18,19,20,21,22,23,24,25,26,27,28,29,30,31,32,33,34,35,36,37,38,39,40,41,42,43,44,45,46,47,48,49,50,51,52,53,54,55,56,57,58,59,60,61,62,63,64,65,66,67,68,69,70,71,72,73,74,75,76,77,78],[0,1,2,3,4,5,6,7,8,9,10,11,12,13,14,15,16,17,18,19,20,21,22,23,24,25,26,27,28,29,30,31,32,33,34,35,36,37,38,39,40,41,42,43,44,45,46,47,48,49,50,51,52,53,54,55,56,57,58,59,60,61,62,63,64,65,66,67,68,69,70,71,72,73,74,75,76,77,78,79],[0,1,2,3,4,5,6,7,8,9,10,11,12,13,14,15,16,17,18,19,20,21,22,23,24,25,26,27,28,29,30,31,32,33,34,35,36,37,38,39,40,41,42,43,44,45,46,47,48,49,50,51,52,53,54,55,56,57,58,59,60,61,62,63,64,65,66,67,68,69,70,71,72,73,74,75,76,77,78,79],[0,1,2,3,4,5,6,7,8,9,10,11,12,13,14,15,16,17,18,19,20,21,22,23,24,25,26,27,28,29,30,31,32,33,34,35,36,37,38,39,40,41,42,43,44,45,46,47,48,49,50,51,52,53,54,55,56,57,58,59,60,61,62,63,64,65,66,67,68,69,70,71,72,73,74,75,76,77,78,79,80,81],[0,1,2,3,4,5,6,7,8,9,10,11,12,13,14,15,16,17,18,19,20,21,22,23,24,25,26,27,28,29,30,31,32,33,34,35,36,37,38,39,40,41,42,43,44,45,46,47,48,49,50,51,52,53,54,55,56,57,58,59,60,61,62,63,64,65,66,67,68,69,70,71,72,73,74,75,76,77,78,79,80,81,82],[0,1,2,3,4,5,6,7,8,9,10,11,12,13,14,15,16,17,18,19,20,21,22,23,24,25,26,27,28,29,30,31,32,33,34,35,36,37,38,39,40,41,42,43,44,45,46,47,48,49,50,51,52,53,54,55,56,57,58,59,60,61,62,63,64,65,66,67,68,69,70,71,72,73,74,75,76,77,78,79,80,81,82,83],[0,1,2,3,4,5,6,7,8,9,10,11,12,13,14,15,16,17,18,19,20,21,22,23,24,25,26,27,28,29,30,31,32,33,34,35,36,37,38,39,40,41,42,43,44,45,46,47,48,49,50,51,52,53,54,55,56,57,58,59,60,61,62,63,64,65,66,67,68,69,70,71,72,73,74,75,76,77,78,79,80,81,82,83,84],[0,1,2,3,4,5,6,7,8,9,10,11,12,13,14,15,16,17,18,19,20,21,22,23,24,25,26,27,28,29,30,31,32,33,34,35,36,37,38,39,40,41,42,43,44,45,46,47,48,49,50,51,52,53,54,55,56,57,58,59,60,61,62,63,64,65,66,67,68,69,70,71,72,73,74,75,76,77,78,79,80,81,82,83,84],[0,1,2,3,4,5,6,7,8,9,10,11,12,13,14,15,16,17,18,19,20,21,22,23,24,25,26,27,28,29,30,31,32,33,34,35,36,37,38,39,40,41,42,43,44,45,46,47,48,49,50,51,52,53,54,55,56,57,58,59,60,61,62,63,64,65,66,67,68,69,70,71,72,73,74,75,76,77,78,79,80,81,82,83,84,85,86],[0,1,2,3,4,5,6,7,8,9,10,11,12,13,14,15,16,17,18,19,20,21,22,23,24,25,26,27,28,29,30,31,32,33,34,35,36,37,38,39,40,41,42,43,44,45,46,47,48,49,50,51,52,53,54,55,56,57,58,59,60,61,62,63,64,65,66,67,68,69,70,71,72,73,74,75,76,77,78,79,80,81,82,83,84,85,86,87],[0,1,2,3,4,5,6,7,8,9,10,11,12,13,14,15,16,17,18,19,20,21,22,23,24,25,26,27,28,29,30,31,32,33,34,35,36,37,38,39,40,41,42,43,44,45,46,47,48,49,50,51,52,53,54,55,56,57,58,59,60,61,62,63,64,65,66,67,68,69,70,71,72,73,74,75,76,77,78,79,80,81,82,83,84,85,86,87,88],[0,1,2,3,4,5,6,7,8,9,10,11,12,13,14,15,16,17,18,19,20,21,22,23,24,25,26,27,28,29,30,31,32,33,34,35,36,37,38,39,40,41,42,43,44,45,46,47,48,49,50,51,52,53,54,55,56,57,58,59,60,61,62,63,64,65,66,67,68,69,70,71,72,73,74,75,76,77,78,79,80,81,82,83,84,85,86,87,88,89],[0,1,2,3,4,5,6,7,8,9,10,11,12,13,14,15,16,17,18,19,20,21,22,23,24,25,26,27,28,29,30,31,32,33,34,35,36,37,38,39,40,41,42,43,44,45,46,47,48,49,50,51,52,53,54,55,56,57,58,59,60,61,62,63,64,65,66,67,68,69,70,71,72,73,74,75,76,77,78,79,80,81,82,83,84,85,86,87,88,89],[0,1,2,3,4,5,6,7,8,9,10,11,12,13,14,15,16,17,18,19,20,21,22,23,24,25,26,27,28,29,30,31,32,33,34,35,36,37,38,39,40,41,42,43,44,45,46,47,48,49,50,51,52,53,54,55,56,57,58,59,60,61,62,63,64,65,66,67,68,69,70,71,72,73,74,75,76,77,78,79,80,81,82,83,84,85,86,87,88,89,90,91],[0,1,2,3,4,5,6,7,8,9,10,11,12,13,14,15,16,17,18,19,20,21,22,23,24,25,26,27,28,29,30,31,32,33,34,35,36,37,38,39,40,41,42,43,44,45,46,47,48,49,50,51,52,53,54,55,56,57,58,59,60,61,62,63,64,65,66,67,68,69,70,71,72,73,74,75,76,77,78,79,80,81,82,83,84,85,86,87,88,89,90,91,92],[0,1,2,3,4,5,6,7,8,9,10,11,12,13,14,15,16,17,18,19,20,21,22,23,24,25,26,27,28,29,30,31,32,33,34,35,36,37,38,39,40,41,42,43,44,45,46,47,48,49,50,51,52,53,54,55,56,57,58,59,60,61,62,63,64,65,66,67,68,69,70,71,72,73,74,75,76,77,78,79,80,81,82,83,84,85,86,87,88,89,90,91,92,93],[0,1,2,3,4,5,6,7,8,9,10,11,12,13,14,15,16,17,18,19,20,21,22,23,24,25,26,27,28,29,30,31,32,33,34,35,36,37,38,39,40,41,42,43,44,45,46,47,48,49,50,51,52,53,54,55,56,57,58,59,60,61,62,63,64,65,66,67,68,69,70,71,72,73,74,75,76,77,78,79,80,81,82,83,84,85,86,87,88,89,90,91,92,93,94],[0,1,2,3,4,5,6,7,8,9,10,11,12,13,14,15,16,17,18,19,20,21,22,23,24,25,26,27,28,29,30,31,32,33,34,35,36,37,38,39,40,41,42,43,44,45,46,47,48,49,50,51,52,53,54,55,56,57,58,59,60,61,62,63,64,65,66,67,68,69,70,71,72,73,74,75,76,77,78,79,80,81,82,83,84,85,86,87,88,89,90,91,92,93,94],[0,1,2,3,4,5,6,7,8,9,10,11,12,13,14,15,16,17,18,19,20,21,22,23,24,25,26,27,28,29,30,31,32,33,34,35,36,37,38,39,40,41,42,43,44,45,46,47,48,49,50,51,52,53,54,55,56,57,58,59,60,61,62,63,64,65,66,67,68,69,70,71,72,73,74,75,76,77,78,79,80,81,82,83,84,85,86,87,88,89,90,91,92,93,94,95,96],[0,1,2,3,4,5,6,7,8,9,10,11,12,13,14,15,16,17,18,19,20,21,22,23,24,25,26,27,28,29,30,31,32,33,34,35,36,37,38,39,40,41,42,43,44,45,46,47,48,49,50,51,52,53,54,55,56,57,58,59,60,61,62,63,64,65,66,67,68,69,70,71,72,73,74,75,76,77,78,79,80,81,82,83,84,85,86,87,88,89,90,91,92,93,94,95,96,97],[0,1,2,3,4,5,6,7,8,9,10,11,12,13,14,15,16,17,18,19,20,21,22,23,24,25,26,27,28,29,30,31,32,33,34,35,36,37,38,39,40,41,42,43,44,45,46,47,48,49,50,51,52,53,54,55,56,57,58,59,60,61,62,63,64,65,66,67,68,69,70,71,72,73,74,75,76,77,78,79,80,81,82,83,84,85,86,87,88,89,90,91,92,93,94,95,96,97,98],[0,1,2,3,4,5,6,7,8,9,10,11,12,13,14,15,16,17,18,19,20,21,22,23,24,25,26,27,28,29,30,31,32,33,34,35,36,37,38,39,40,41,42,43,44,45,46,47,48,49,50,51,52,53,54,55,56,57,58,59,60,61,62,63,64,65,66,67,68,69,70,71,72,73,74,75,76,77,78,79,80,81,82,83,84,85,86,87,88,89,90,91,92,93,94,95,96,97,98,99],[0,1,2,3,4,5,6,7,8,9,10,11,12,13,14,15,16,17,18,19,20,21,22,23,24,25,26,27,28,29,30,31,32,33,34,35,36,37,38,39,40,41,42,43,44,45,46,47,48,49,50,51,52,53,54,55,56,57,58,59,60,61,62,63,64,65,66,67,68,69,70,71,72,73,74,75,76,77,78,79,80,81,82,83,84,85,86,87,88,89,90,91,92,93,94,95,96,97,98,99],[0,1,2,3,4,5,6,7,8,9,10,11,12,13,14,15,16,17,18,19,20,21,22,23,24,25,26,27,28,29,30,31,32,33,34,35,36,37,38,39,40,41,42,43,44,45,46,47,48,49,50,51,52,53,54,55,56,57,58,59,60,61,62,63,64,65,66,67,68,69,70,71,72,73,74,75,76,77,78,79,80,81,82,83,84,85,86,87,88,89,90,91,92,93,94,95,96,97,98,99,100,101],[0,1,2,3,4,5,6,7,8,9,10,11,12,13,14,15,16,17,18,19,20,21,22,23,24,25,26,27,28,29,30,31,32,33,34,35,36,37,38,39,40,41,42,43,44,45,46,47,48,49,50,51,52,53,54,55,56,57,58,59,60,61,62,63,64,65,66,67,68,69,70,71,72,73,74,75,76,77,78,79,80,81,82,83,84,85,86,87,88,89,90,91,92,93,94,95,96,97,98,99,100,101,102],[0,1,2,3,4,5,6,7,8,9,10,11,12,13,14,15,16,17,18,19,20,21,22,23,24,25,26,27,28,29,30,31,32,33,34,35,36,37,38,39,40,41,42,43,44,45,46,47,48,49,50,51,52,53,54,55,56,57,58,59,60,61,62,63,64,65,66,67,68,69,70,71,72,73,74,75,76,77,78,79,80,81,82,83,84,85,86,87,88,89,90,91,92,93,94,95,96,97,98,99,100,101,102,103]])
.ret))))))))))))))))))))))
abbrev Nv:RsT:=[(0,none)]
theorem NY:SpF 210 Jq Mr Nv:=SpI Tryz.func24 (by kernel_rfl)
theorem oL:ar Tryz.prog Jq = true:=by kernel_rfl
abbrev Gy:FuncId:=25
def IC:AC:=
(.seq (.reg [oP 1 (.pbox 5 (.t 0)),
oP 2 (.alloc [.slice 1 []]),
oP 3 (.alloc [.int .i64 0])] [1,2,3])
(.seq (.reg [oP 8 (.load (some 5) (.t 1)),
oP 9 (.call (.f 79) [true] [(.t 8)]),
mV 7 9,
oP 10 (.extract (.t 7) 0),
oP 11 (.extract (.t 7) 1),
oP 4 (.alloc [.slice 1 [], .slice 1 [], .slice 4 [], .slice 5 [], .slice 4 []]),
oN (.store 5 (.t 4) (.t 10)),
mV 5 11] [2,3,4,5])
(.frz 4 true (.seq (.seq (.reg [mV 12 5,
oP 13 (.bin .neq (.t 12) (cI 0))] [2,3,4,5,13])
(.cond (.t 13)
(.seq (.reg [mV 14 5,
oN (.store 1 (.t 2) (.c (.slice 1 []))),
oN (.store 1 (.t 3) (.t 14))] [2,3])
.ret)
.skip))
(.seq (.seq (.reg [oP 15 (.load (some 5) (.t 4)),
oP 16 (.call (.f 80) [true] [(.t 15)])] [2,3,4,16])
(.block 0
(.iu (.t 16) [17] (.reg [mV 6 17] [2,3,4,6])
(.block 1
(.seq (.reg [oP 18 (.load (some 5) (.t 4)),
mV 19 6,
oP 20 (.call (.f 68) [true,true] [(.t 18),(.t 19)])] [2,3,6,20])
(.cond (.t 20)
(.seq (.reg [mV 21 6,
oN (.store 1 (.t 2) (.t 21)),
oN (.store 1 (.t 3) (cI 0))] [2,3])
.ret)
.skip))))))
(.seq (.reg [oN (.store 1 (.t 2) (.c (.slice 1 []))),
oN (.store 1 (.t 3) (cI 9))] [2,3])
.ret))))))
abbrev NN:RsT:=[(2,some none),(3,some none)]
theorem OJ:SpF 22 Gy IC NN:=SpI Tryz.func25 (by kernel_rfl)
theorem Es:ar Tryz.prog Gy = true:=by kernel_rfl
abbrev Iw:FuncId:=27
def Mz:AC:=
(.seq (.reg [oP 4 (.mv (.c (.bool false)))] [0,1])
(.seq (.reg [mV 7 0,
oP 8 (.len (.t 7)),
mV 9 1,
oP 10 (.len (.t 9)),
oP 11 (.bin .eql (.t 8) (.t 10)),
mV 5 11] [0,1,5])
(.seq (.seq (.reg [oP 6 (.mv (cI 0))] [0,1,5,6])
(.block 0
(.loop [0,1,5,6]
(.seq (.seq (.reg [mV 12 6,
mV 13 0,
oP 14 (.len (.t 13)),
oP 15 (.bin .lss (.t 12) (.t 14)),
mV 16 15,
gT 17 16 (.mv (.t 5)),
oP 18 (.pick (.t 16) (.t 17) (.c (.bool false)))] [0,1,5,6,18])
(.cond (.t 18)
.skip
(.exit 0)))
(.seq (.block 1
(.dreg [mV 21 0,
mV 22 6,
oP 23 (.ixS 1 (.t 21) (.t 22)),
oP 24 (.load none (.t 23)),
mV 25 1,
mV 26 6,
oP 27 (.ixS 1 (.t 25) (.t 26)),
oP 28 (.load none (.t 27)),
oP 29 (.bin .eql (.t 24) (.t 28)),
mV 5 29] [0,1,5,6] [[],[],[0,1],[0,1,2],[],[],[4,5],[4,5,6],[0,1,2,3,4,5,6,7],[0,1,2,3,4,5,6,7,8]]))
(.reg [mV 19 6,
oP 20 (.bin .add (.t 19) (cI 1)),
mV 6 20] [0,1,5,6]))))))
(.seq (.reg [mV 30 5,
mV 4 30] [4])
.ret))))
abbrev OB:RsT:=[(4,none)]
theorem Pk:SpF 31 Iw Mz OB:=SpI Tryz.func27 (by kernel_rfl)
theorem Ir:ar Tryz.prog Iw = true:=by kernel_rfl
abbrev Gq:FuncId:=28
def Iv:AC:=
(.seq (.reg [oP 1 (.pbox 5 (.t 0)),
oP 2 (.nilS 1 1),
oP 3 (.mv (cI 0))] [1,2])
(.seq (.reg [oP 7 (.load (some 5) (.t 1)),
oP 8 (.call (.f 79) [true] [(.t 7)]),
mV 6 8,
oP 9 (.extract (.t 6) 0),
oP 10 (.extract (.t 6) 1),
oP 4 (.alloc [.slice 1 [], .slice 1 [], .slice 4 [], .slice 5 [], .slice 4 []]),
oN (.store 5 (.t 4) (.t 9)),
mV 3 10] [2,3,4])
(.frz 4 true (.seq (.seq (.reg [mV 11 3,
oP 12 (.bin .neq (.t 11) (cI 0))] [2,3,4,12])
(.cond (.t 12)
(.seq (.reg [mV 13 3,
oP 2 (.mv (.c (.slice 1 []))),
mV 3 13] [2,3])
.ret)
.skip))
(.seq (.seq (.reg [oP 14 (.fieldAddr (some 5) 0 (.t 4)),
oP 15 (.fieldAddr none 3 (.t 14)),
oP 16 (.load none (.t 15)),
oP 17 (.len (.t 16)),
oP 18 (.mv (cI 0))] [2,4,17,18])
(.block 0
(.loop [2,4,17,18]
(.seq (.reg [oP 19 (.bin .lss (.t 18) (.t 17))] [2,4,17,18,19])
(.seq (.cond (.t 19)
.skip
(.exit 0))
(.seq (.block 1
(.seq (.reg [mV 20 18,
mV 5 20] [2,4,5,17,18])
(.seq (.qreg [oP 21 (.load (some 5) (.t 4)),
oP 22 (.load (some 5) (.t 4)),
mV 23 5,
oP 24 (.call (.f 83) [true,false] [(.t 22),(.t 23)]),
oP 25 (.call (.f 68) [true,true] [(.t 21),(.t 24)]),
oP 26 (.un .not (.t 25))] [2,4,5,17,18,26] [[],[],[],[1,2],[0,1,2,3],[0,1,2,3,4]] [([0,1,2],3),([],4)] [5])
(.cond (.t 26)
(.reg [mV 27 2,
mV 28 5,
oP 29 (.lit 0 1 1 [(0,(.t 28))]),
oP 30 (.append 1 8 (.t 27) (.t 29)),
mV 2 30] [2,4,17,18])
.skip))))
(.reg [oP 31 (.bin .add (.t 18) (cI 1)),
mV 18 31] [2,4,17,18])))))))
(.seq (.reg [mV 32 2,
oP 2 (.mvd (.t 32)),
oP 3 (.mv (cI 0))] [2,3])
.ret))))))
abbrev Oz:RsT:=[(2,none),(3,none)]
theorem OD:SpF 33 Gq Iv Oz:=SpI Tryz.func28 (by kernel_rfl)
theorem Nw:ar Tryz.prog Gq = true:=by kernel_rfl
abbrev G1:FuncId:=30
def IA:AC:=
(.seq (.reg [oP 1 (.pbox 5 (.t 0)),
oP 2 (.mv (.c (.slice 1 []))),
oP 3 (.mv (cI 0))] [1])
(.seq (.reg [oP 8 (.load (some 5) (.t 1)),
oP 9 (.call (.f 79) [true] [(.t 8)]),
mV 7 9,
oP 10 (.extract (.t 7) 0),
oP 11 (.extract (.t 7) 1),
oP 4 (.alloc [.slice 1 [], .slice 1 [], .slice 4 [], .slice 5 [], .slice 4 []]),
oN (.store 5 (.t 4) (.t 10)),
mV 5 11] [4,5])
(.frz 4 true (.seq (.seq (.reg [mV 12 5,
oP 13 (.bin .neq (.t 12) (cI 0))] [4,5,13])
(.cond (.t 13)
(.seq (.reg [mV 14 5,
oP 2 (.mv (.c (.slice 1 []))),
mV 3 14] [2,3])
.ret)
.skip))
(.seq (.reg [oP 15 (.load (some 5) (.t 4)),
oP 16 (.call (.f 85) [true] [(.t 15)]),
oP 17 (.call (.f 84) [true] [(.t 16)]),
mV 6 17] [6])
(.seq (.reg [mV 18 6,
oP 19 (.call (.f 86) [true] [(.t 18)])] [6])
(.seq (.reg [mV 20 6,
oP 21 (.call (.f 87) [true] [(.t 20)]),
oP 2 (.freeze 1 (.t 21)),
oP 3 (.mv (cI 0))] [2,3])
.ret)))))))
abbrev O6:RsT:=[(2,none),(3,none)]
theorem NJ:SpF 22 G1 IA O6:=SpI Tryz.func30 (by kernel_rfl)
theorem OW:ar Tryz.prog G1 = true:=by kernel_rfl
abbrev CY:FuncId:=32
def KH:AC:=
(.seq (.reg [oP 3 (.pbox 5 (.t 0)),
oP 5 (.pbox 1 (.t 2)),
oP 6 (.alloc [.int .i64 0, .int .i64 0]),
oP 7 (.mv (cI 0))] [1,3,5,6])
(.seq (.reg [oP 11 (.load (some 5) (.t 3)),
mV 12 1,
oP 13 (.mkfunc (.func 89) [] [(.t 5)]),
oP 14 (.call (.f 88) [true,true,false] [(.t 11),(.t 12),(.t 13)]),
mV 10 14,
oP 15 (.extract (.t 10) 0),
oP 16 (.extract (.t 10) 1),
mV 8 15,
mV 9 16] [5,6,8,9])
(.seq (.seq (.reg [mV 17 9,
oP 18 (.bin .neq (.t 17) (cI 0))] [5,6,8,9,18])
(.cond (.t 18)
(.seq (.reg [oP 19 (.build [.int .i64 0, .int .i64 0] []),
mV 20 9,
oN (.store 2 (.t 6) (.t 19)),
mV 7 20] [6,7])
.ret)
.skip))
(.seq (.qreg [mV 21 8,
mV 22 8,
oP 23 (.nilchk (.t 22)),
oP 24 (.fieldAddr none 2 (.t 23)),
oP 25 (.load none (.t 24)),
oP 26 (.load none (.t 5)),
oP 27 (.ixS 1 (.t 25) (.t 26)),
oP 28 (.load none (.t 27)),
oP 29 (.call (.f 90) [false,false] [(.t 21),(.t 28)]),
oN (.store 2 (.t 6) (.t 29)),
oP 7 (.mv (cI 0))] [6,7] [[],[],[1],[1,2],[1,2,3],[],[1,2,3,4,5],[1,2,3,4,5,6],[0,1,2,3,4,5,6,7],[0,1,2,3,4,5,6,7,8],[0,1,2,3,4,5,6,7,8,9]] [([0,1,2,3,4,5,6,7],8),([],9)] [10])
.ret))))
abbrev NH:RsT:=[(6,some (some 2)),(7,none)]
theorem Oa:SpF 30 CY KH NH:=SpI Tryz.func32 (by kernel_rfl)
theorem Gc:ar Tryz.prog CY = true:=by kernel_rfl
abbrev Ea:FuncId:=34
def Lz:AC:=
(.seq (.reg [oP 3 (.pbox 5 (.t 0)),
oP 5 (.pbox 1 (.t 2)),
oP 6 (.alloc [.int .i64 0, .int .i64 0]),
oP 7 (.mv (cI 0))] [1,3,5,6])
(.seq (.reg [oP 11 (.load (some 5) (.t 3)),
mV 12 1,
oP 13 (.mkfunc (.func 94) [] [(.t 5)]),
oP 14 (.call (.f 88) [true,true,false] [(.t 11),(.t 12),(.t 13)]),
mV 10 14,
oP 15 (.extract (.t 10) 0),
oP 16 (.extract (.t 10) 1),
mV 8 15,
mV 9 16] [6,8,9])
(.seq (.seq (.reg [mV 17 9,
oP 18 (.bin .neq (.t 17) (cI 0))] [6,8,9,18])
(.cond (.t 18)
(.seq (.reg [oP 19 (.build [.int .i64 0, .int .i64 0] []),
mV 20 9,
oN (.store 2 (.t 6) (.t 19)),
mV 7 20] [6,7])
.ret)
.skip))
(.seq (.reg [mV 21 8,
mV 22 8,
oP 23 (.nilchk (.t 22)),
oP 24 (.fieldAddr none 3 (.t 23)),
oP 25 (.load none (.t 24)),
oP 26 (.call (.f 90) [false,false] [(.t 21),(.t 25)]),
oN (.store 2 (.t 6) (.t 26)),
oP 7 (.mv (cI 0))] [6,7])
.ret))))
abbrev O0:RsT:=[(6,some (some 2)),(7,none)]
theorem OS:SpF 27 Ea Lz O0:=SpI Tryz.func34 (by kernel_rfl)
theorem IM:ar Tryz.prog Ea = true:=by kernel_rfl
abbrev GV:FuncId:=36
def Ju:AC:=
(.seq (.reg [oP 1 (.pbox 5 (.t 0)),
⟨some 2,none, .mv (.c (.str ⟨#[]⟩))⟩,
oP 3 (.mv (cI 0))] [1])
(.seq (.seq (.reg [oP 8 (.load (some 5) (.t 1)),
oP 9 (.call (.f 16) [true] [(.t 8)]),
mV 7 9,
oP 10 (.extract (.t 7) 0),
oP 11 (.extract (.t 7) 1),
oP 12 (.extract (.t 7) 2),
mV 4 10,
mV 5 11,
mV 6 12] [1,6])
(.seq (.reg [mV 13 6,
oP 14 (.bin .neq (.t 13) (cI 0))] [1,6,14])
(.cond (.t 14)
(.seq (.reg [mV 15 6,
⟨some 2,none, .mv (.c (.str ⟨#[]⟩))⟩,
mV 3 15] [2,3])
.ret)
.skip)))
(.seq (.reg [oP 16 (.load (some 5) (.t 1)),
oP 17 (.build [.slice 1 [], .slice 1 [], .slice 4 [], .slice 5 [], .slice 4 []] [(0,5,(.t 16))]),
oP 18 (.call (.f 96) [true] [(.t 17)]),
mV 2 18,
oP 3 (.mv (cI 0))] [2,3])
.ret)))
abbrev NV:RsT:=[(2,none),(3,none)]
theorem ND:SpF 19 GV Ju NV:=SpI Tryz.func36 (by kernel_rfl)
theorem BF:ar Tryz.prog GV = true:=by kernel_rfl
abbrev Gr:FuncId:=38
def GB:AC:=
(.seq (.reg [oP 2 (.alloc [.slice 1 [], .slice 1 [], .slice 4 [], .slice 5 [], .slice 4 []]),
oP 3 (.alloc [.int .i64 0])] [0,2,3])
(.seq (.seq (.reg [mV 12 0,
oP 13 (.lenStr (.t 12)),
oP 14 (.bin .gtr (.t 13) (cI 4000))] [0,2,3,14])
(.cond (.t 14)
(.seq (.reg [oP 15 (.loadd (some 5) (.t 2)),
oN (.store 5 (.t 2) (.t 15)),
oN (.store 1 (.t 3) (cI 3))] [2,3])
.ret)
.skip))
(.seq (.dfr 16 98 [(.t 2),(.t 3)] [0,2,3])
(.seq (.reg [oP 4 (.alloc [.slice 1 [], .slice 1 [], .mint 4, .mint 5, .mint 4])] [0,2,3,4])
(.seq (.seq (.reg [mV 17 0,
mV 5 17] [0,2,3,4,5])
(.block 0
(.loop [0,2,3,4,5]
(.seq (.seq (.reg [mV 18 5,
⟨some 19,none, .bin .neq (.t 18) (.c (.str ⟨#[]⟩))⟩] [0,2,3,4,5,19])
(.cond (.t 19)
.skip
(.exit 0)))
(.block 1
(.seq (.reg [mV 21 5,
⟨some 22,none, .call (.f 99) [false,false] [(.t 21),(.c (.str ⟨#[10]⟩))]⟩,
mV 20 22,
oP 23 (.extract (.t 20) 0),
oP 24 (.extract (.t 20) 1),
oP 25 (.extract (.t 20) 2),
mV 6 23,
mV 7 24,
mV 8 25] [0,2,3,4,6,7,8])
(.seq (.reg [mV 26 8,
oP 27 (.call (.f 100) [false] [(.t 26)])] [0,2,3,4,6,7])
(.seq (.reg [mV 28 6,
⟨some 29,none, .call (.f 102) [false,false] [(.t 28),(.c (.str ⟨#[32]⟩))]⟩,
oP 30 (.call (.f 101) [true,true] [(.t 4),(.t 29)])] [0,2,3,4,7])
(.reg [mV 31 7,
mV 5 31] [0,2,3,4,5])))))))))
(.seq (.reg [oP 33 (.fieldAddr (some 5) 0 (.t 4)),
oP 34 (.load (some 5) (.t 33)),
oP 35 (.call (.f 16) [true] [(.t 34)]),
mV 32 35,
oP 36 (.extract (.t 32) 0),
oP 37 (.extract (.t 32) 1),
oP 38 (.extract (.t 32) 2),
mV 9 36,
mV 10 37,
mV 11 38] [0,2,3,4,11])
(.seq (.reg [mV 39 11,
oP 40 (.bin .eql (.t 39) (cI 0)),
mV 41 40,
gT 42 41 (.load (some 5) (.t 4)),
gT 43 41 (.call (.f 96) [true] [(.t 42)]),
gT 44 41 (.mv (.t 0)),
gT 45 41 (.bin .eql (.t 43) (.t 44)),
oP 46 (.pick (.t 41) (.t 45) (.c (.bool false))),
oP 47 (.call (.f 100) [false] [(.t 46)])] [2,3,4])
(.seq (.reg [oP 48 (.fieldAddr (some 5) 0 (.t 4)),
oP 49 (.loadd (some 5) (.t 48)),
oN (.store 5 (.t 2) (.t 49)),
oN (.store 1 (.t 3) (cI 0))] [2,3])
.ret))))))))
abbrev JM:RsT:=[(2,some (some 5)),(3,some none)]
theorem Nn:Am Tryz.prog Tryz.f38 50 GB JM = true:=by kernel_rfl
theorem Nh {args:List ag} {σ:af} {R:dU → af → Prop} (ha:args.length ≤ 50) (h:AW Tryz.prog 50 none GB (xr Tryz.prog JM R) { v:=ep args 0,ds:=[] } σ):Spec Tryz.prog Gr args σ R:=Spec.Jz Tryz.func38 Nn ha h
theorem Bh:ar Tryz.prog Gr = true:=by kernel_rfl
abbrev IJ:FuncId:=40
def Lw:AC:=
(.seq (.reg [oP 2 (.pbox 5 (.t 0)),
oP 3 (.pbox 5 (.t 1)),
oP 4 (.mv (.c (.bool false)))] [2,3])
(.seq (.reg [oP 7 (.fieldAddr none 0 (.t 2)),
oP 8 (.load none (.t 7)),
oP 9 (.fieldAddr none 0 (.t 3)),
oP 10 (.load none (.t 9)),
oP 11 (.call (.f 106) [true,true] [(.t 8),(.t 10)]),
mV 12 11,
gT 13 12 (.fieldAddr none 1 (.t 2)),
gT 14 12 (.load none (.t 13)),
gT 15 12 (.fieldAddr none 1 (.t 3)),
gT 16 12 (.load none (.t 15)),
gT 17 12 (.call (.f 106) [true,true] [(.t 14),(.t 16)]),
oP 18 (.pick (.t 12) (.t 17) (.c (.bool false))),
mV 19 18,
gT 20 19 (.fieldAddr none 2 (.t 2)),
gT 21 19 (.load none (.t 20)),
gT 22 19 (.fieldAddr none 2 (.t 3)),
gT 23 19 (.load none (.t 22)),
gT 24 19 (.call (.f 107) [true,true] [(.t 21),(.t 23)]),
oP 25 (.pick (.t 19) (.t 24) (.c (.bool false))),
mV 26 25,
gT 27 26 (.fieldAddr none 4 (.t 2)),
gT 28 26 (.load none (.t 27)),
gT 29 26 (.fieldAddr none 4 (.t 3)),
gT 30 26 (.load none (.t 29)),
gT 31 26 (.call (.f 107) [true,true] [(.t 28),(.t 30)]),
oP 32 (.pick (.t 26) (.t 31) (.c (.bool false))),
mV 33 32,
gT 34 33 (.fieldAddr none 3 (.t 2)),
gT 35 33 (.load none (.t 34)),
gT 36 33 (.len (.t 35)),
gT 37 33 (.fieldAddr none 3 (.t 3)),
gT 38 33 (.load none (.t 37)),
gT 39 33 (.len (.t 38)),
gT 40 33 (.bin .eql (.t 36) (.t 39)),
oP 41 (.pick (.t 33) (.t 40) (.c (.bool false))),
mV 5 41] [2,3,5])
(.seq (.seq (.reg [oP 6 (.mv (cI 0))] [2,3,5,6])
(.block 0
(.loop [2,3,5,6]
(.seq (.seq (.reg [mV 42 6,
oP 43 (.fieldAddr none 3 (.t 2)),
oP 44 (.load none (.t 43)),
oP 45 (.len (.t 44)),
oP 46 (.bin .lss (.t 42) (.t 45)),
mV 47 46,
gT 48 47 (.mv (.t 5)),
oP 49 (.pick (.t 47) (.t 48) (.c (.bool false)))] [2,3,5,6,49])
(.cond (.t 49)
.skip
(.exit 0)))
(.seq (.block 1
(.dreg [oP 52 (.fieldAddr none 3 (.t 2)),
oP 53 (.load none (.t 52)),
mV 54 6,
oP 55 (.ixS 5 (.t 53) (.t 54)),
oP 56 (.load (some 5) (.t 55)),
oP 57 (.fieldAddr none 3 (.t 3)),
oP 58 (.load none (.t 57)),
mV 59 6,
oP 60 (.ixS 5 (.t 58) (.t 59)),
oP 61 (.load (some 5) (.t 60)),
oP 62 (.eqa false [.i, .i, .i, .i, .i] (.t 56) (.t 61)),
mV 5 62] [2,3,5,6] [[],[0],[],[0,1,2],[0,1,2,3],[],[5],[],[5,6,7],[5,6,7,8],[0,1,2,3,4,5,6,7,8,9],[0,1,2,3,4,5,6,7,8,9,10]]))
(.reg [mV 50 6,
oP 51 (.bin .add (.t 50) (cI 1)),
mV 6 51] [2,3,5,6]))))))
(.seq (.reg [mV 63 5,
mV 4 63] [4])
.ret))))
abbrev N0:RsT:=[(4,none)]
theorem N9:SpF 64 IJ Lw N0:=SpI Tryz.func40 (by kernel_rfl)
theorem Iu:ar Tryz.prog IJ = true:=by kernel_rfl
abbrev IV:FuncId:=41
def Lt:AC:=
(.seq (.reg [oP 2 (.alloc [.slice 1 [], .slice 1 [], .slice 4 [], .slice 5 [], .slice 4 []])] [0,2])
(.seq (.reg [⟨some 4,none, .lit 0 1 2 [(0,(.c (.str ⟨#[111,105,108]⟩))),(1,(.c (.str ⟨#[112,97,105,110,116]⟩)))]⟩,
⟨some 5,none, .lit 0 1 2 [(0,(.c (.str ⟨#[121,97,114,100]⟩))),(1,(.c (.str ⟨#[112,105,116]⟩)))]⟩,
oP 6 (.call (.f 42) [false,false] [(cI 1000),(cI 1000)]),
oP 7 (.build [.int .i64 0, .int .i64 0, .int .i64 0, .int .i64 0] [(2,2,(.t 6))]),
oP 8 (.lit 0 4 1 [(0,(.t 7))]),
oP 9 (.build [.int .i64 0, .int .i64 0, .int .i64 0, .int .i64 0, .int .i64 0] [(2,1,(cI 1)),(3,1,(cI 600)),(4,1,(cI 1))]),
oP 10 (.build [.int .i64 0, .int .i64 0, .int .i64 0, .int .i64 0, .int .i64 0] [(2,1,(cI 1)),(3,1,(cI 500))]),
oP 11 (.build [.int .i64 0, .int .i64 0, .int .i64 0, .int .i64 0, .int .i64 0] [(2,1,(cI (-1))),(3,1,(cI 300)),(4,1,(cI (-1)))]),
oP 12 (.lit 0 5 3 [(0,(.t 9)),(1,(.t 10)),(2,(.t 11))]),
oP 13 (.call (.f 42) [false,false] [(cI 100),(cI 100)]),
oP 14 (.build [.int .i64 0, .int .i64 0, .int .i64 0, .int .i64 0] [(2,2,(.t 13))]),
oP 15 (.call (.f 42) [false,false] [(cI 600),(cI 600)]),
oP 16 (.build [.int .i64 0, .int .i64 0, .int .i64 0, .int .i64 0] [(1,1,(cI 1)),(2,2,(.t 15))]),
oP 17 (.lit 0 4 2 [(0,(.t 14)),(1,(.t 16))]),
oP 18 (.build [.slice 1 [], .slice 1 [], .slice 4 [], .slice 5 [], .slice 4 []] [(0,1,(.t 4)),(1,1,(.t 5)),(2,1,(.t 8)),(3,1,(.t 12)),(4,1,(.t 17))]),
oP 3 (.alloc [.slice 1 [], .slice 1 [], .slice 4 [], .slice 5 [], .slice 4 []]),
oN (.store 5 (.t 3) (.t 18))] [0,2,3])
(.seq (.seq (.reg [mV 19 0] [2,3,19])
(.cond (.t 19)
(.reg [oP 20 (.call (.f 42) [false,false] [(cI 100),(cI 200)]),
oP 21 (.build [.int .i64 0, .int .i64 0, .int .i64 0, .int .i64 0] [(2,2,(.t 20))]),
oP 22 (.lit 0 4 1 [(0,(.t 21))]),
oP 23 (.fieldAddr none 4 (.t 3)),
oN (.store 1 (.t 23) (.t 22))] [2,3])
.skip))
(.seq (.reg [oP 24 (.loadd (some 5) (.t 3)),
oN (.store 5 (.t 2) (.t 24))] [2])
.ret))))
abbrev Nt:RsT:=[(2,some (some 5))]
theorem NF:SpF 25 IV Lt Nt:=SpI Tryz.func41 (by kernel_rfl)
theorem Lu:ar Tryz.prog IV = true:=by kernel_rfl
abbrev IP:FuncId:=42
def KF:AC:=
(.seq (.reg [oP 4 (.alloc [.int .i64 0, .int .i64 0])] [0,1,4])
(.seq (.reg [mV 5 0,
mV 6 1,
oP 7 (.build [.int .i64 0, .int .i64 0] [(0,1,(.t 5)),(1,1,(.t 6))]),
oN (.store 2 (.t 4) (.t 7))] [4])
.ret))
abbrev NA:RsT:=[(4,some (some 2))]
theorem Pe:SpF 8 IP KF NA:=SpI Tryz.func42 (by kernel_rfl)
theorem C9:ar Tryz.prog IP = true:=by kernel_rfl
abbrev Js:FuncId:=43
def Mu:AC:=
(.seq (.reg [oP 1 (.pbox 5 (.t 0)),
oP 2 (.mv (.c (.bool false)))] [1])
(.seq (.reg [oP 7 (.load (some 5) (.t 1)),
oP 8 (.call (.f 17) [true] [(.t 7)]),
mV 6 8,
oP 9 (.extract (.t 6) 0),
oP 10 (.extract (.t 6) 1),
oP 11 (.extract (.t 6) 2),
mV 3 9,
mV 4 10,
mV 5 11] [5])
(.seq (.reg [mV 12 5,
oP 13 (.bin .eql (.t 12) (cI 0)),
mV 2 13] [2])
.ret)))
abbrev Og:RsT:=[(2,none)]
theorem OU:SpF 14 Js Mu Og:=SpI Tryz.func43 (by kernel_rfl)
theorem Gj:ar Tryz.prog Js = true:=by kernel_rfl
abbrev IY:FuncId:=45
def L5:AC:=
(.seq (.reg [oP 4 (.mv (.c (.bool false)))] [0,1])
(.seq (.seq (.reg [oP 5 (.mv (cI 0))] [0,1,5])
(.block 0
(.loop [0,1,5]
(.seq (.seq (.reg [mV 6 5,
mV 7 0,
oP 8 (.len (.t 7)),
oP 9 (.bin .lss (.t 6) (.t 8))] [0,1,5,9])
(.cond (.t 9)
.skip
(.exit 0)))
(.seq (.block 1
(.seq (.reg [mV 12 0,
mV 13 5,
oP 14 (.ixS 1 (.t 12) (.t 13)),
oP 15 (.load none (.t 14)),
mV 16 1,
oP 17 (.bin .eql (.t 15) (.t 16))] [0,1,5,17])
(.cond (.t 17)
(.seq (.reg [oP 4 (.mv (.c (.bool true)))] [4])
.ret)
.skip)))
(.reg [mV 10 5,
oP 11 (.bin .add (.t 10) (cI 1)),
mV 5 11] [0,1,5]))))))
(.seq (.reg [oP 4 (.mv (.c (.bool false)))] [4])
.ret)))
abbrev OX:RsT:=[(4,none)]
theorem NQ:SpF 18 IY L5 OX:=SpI Tryz.func45 (by kernel_rfl)
theorem IU:ar Tryz.prog IY = true:=by kernel_rfl
abbrev II:FuncId:=47
def Mj:AC:=
(.seq (.reg [oP 2 (.pbox 5 (.t 0)),
oP 4 (.mv (.c (.slice 1 [])))] [1,2])
(.seq (.reg [oP 5 (.nilS 1 1)] [1,2,5])
(.seq (.seq (.reg [oP 6 (.mv (cI 0))] [1,2,5,6])
(.block 0
(.loop [1,2,5,6]
(.seq (.seq (.reg [mV 7 6,
oP 8 (.fieldAddr none 3 (.t 2)),
oP 9 (.load none (.t 8)),
oP 10 (.len (.t 9)),
oP 11 (.bin .lss (.t 7) (.t 10))] [1,2,5,6,11])
(.cond (.t 11)
.skip
(.exit 0)))
(.seq (.block 1
(.seq (.reg [mV 14 1,
mV 15 6,
oP 16 (.bin .shr (.t 14) (.t 15)),
oP 17 (.bin .rem (.t 16) (.c (.int .u16 2))),
oP 18 (.bin .eql (.t 17) (.c (.int .u16 1)))] [1,2,5,6,18])
(.cond (.t 18)
(.reg [mV 19 5,
mV 20 6,
oP 21 (.lit 0 1 1 [(0,(.t 20))]),
oP 22 (.append 1 8 (.t 19) (.t 21)),
mV 5 22] [1,2,5,6])
.skip)))
(.reg [mV 12 6,
oP 13 (.bin .add (.t 12) (cI 1)),
mV 6 13] [1,2,5,6]))))))
(.seq (.reg [mV 23 5,
oP 4 (.mvd (.t 23))] [4])
.ret))))
abbrev O7:RsT:=[(4,none)]
theorem Na:SpF 24 II Mj O7:=SpI Tryz.func47 (by kernel_rfl)
theorem Jr:ar Tryz.prog II = true:=by kernel_rfl
abbrev PZ:FuncId:=48
def P0:AC:=
(.seq (.reg [oP 2 (.pbox 5 (.t 0)),
oP 4 (.mv (.c (.slice 1 [])))] [1,2])
(.seq (.reg [oP 5 (.nilS 1 1)] [1,2,5])
(.seq (.seq (.reg [oP 6 (.mv (cI 0))] [1,2,5,6])
(.block 0
(.loop [1,2,5,6]
(.seq (.seq (.reg [mV 7 6,
oP 8 (.fieldAddr none 3 (.t 2)),
oP 9 (.load none (.t 8)),
oP 10 (.len (.t 9)),
oP 11 (.bin .lss (.t 7) (.t 10))] [1,2,5,6,11])
(.cond (.t 11)
.skip
(.exit 0)))
(.seq (.block 1
(.seq (.reg [mV 14 6,
mV 15 1,
oP 16 (.bin .neq (.t 14) (.t 15))] [1,2,5,6,16])
(.cond (.t 16)
(.reg [mV 17 5,
mV 18 6,
oP 19 (.lit 0 1 1 [(0,(.t 18))]),
oP 20 (.append 1 8 (.t 17) (.t 19)),
mV 5 20] [1,2,5,6])
.skip)))
(.reg [mV 12 6,
oP 13 (.bin .add (.t 12) (cI 1)),
mV 6 13] [1,2,5,6]))))))
(.seq (.reg [mV 21 5,
oP 4 (.mvd (.t 21))] [4])
.ret))))
abbrev P7:RsT:=[(4,none)]
theorem P4:SpF 22 PZ P0 P7:=SpI Tryz.func48 (by kernel_rfl)
theorem P8:ar Tryz.prog PZ = true:=by kernel_rfl
abbrev PY:FuncId:=49
def PU:AC:=
(.seq (.reg [oP 6 (.mv (.c (.slice 1 [])))] [0,1,2])
(.seq (.seq (.reg [mV 10 1,
oP 11 (.bin .eql (.t 10) (cI 0))] [0,1,2,11])
(.cond (.t 11)
(.seq (.reg [mV 12 0,
oP 13 (.lit 0 1 1 [(0,(.t 12))]),
oP 6 (.mvd (.t 13))] [6])
.ret)
.skip))
(.seq (.reg [oP 7 (.mv (cI 0))] [0,1,2,7])
(.seq (.seq (.reg [mV 14 0,
oP 15 (.len (.t 14)),
oP 16 (.bin .gtr (.t 15) (cI 0))] [0,1,2,7,16])
(.cond (.t 16)
(.reg [mV 17 0,
mV 18 0,
oP 19 (.len (.t 18)),
oP 20 (.bin .sub (.t 19) (cI 1)),
oP 21 (.ixS 1 (.t 17) (.t 20)),
oP 22 (.load none (.t 21)),
oP 23 (.bin .add (.t 22) (cI 1)),
mV 7 23] [0,1,2,7])
.skip))
(.seq (.reg [oP 8 (.nilS 1 1)] [0,1,2,7,8])
(.seq (.seq (.reg [mV 24 7,
mV 9 24] [0,1,2,8,9])
(.block 0
(.loop [0,1,2,8,9]
(.seq (.seq (.reg [mV 25 9,
mV 26 2,
oP 27 (.bin .lss (.t 25) (.t 26))] [0,1,2,8,9,27])
(.cond (.t 27)
.skip
(.exit 0)))
(.seq (.block 1
(.reg [mV 30 8,
oP 31 (.lit 1 1 0 []),
mV 32 0,
oP 33 (.append 1 8 (.t 31) (.t 32)),
mV 34 9,
oP 35 (.lit 0 1 1 [(0,(.t 34))]),
oP 36 (.append 1 8 (.t 33) (.t 35)),
mV 37 1,
oP 38 (.bin .sub (.t 37) (cI 1)),
mV 39 2,
oP 40 (.call (.f 49) [true,false,false] [(.t 36),(.t 38),(.t 39)]),
oP 41 (.append 1 24 (.t 30) (.t 40)),
mV 8 41] [0,1,2,8,9]))
(.reg [mV 28 9,
oP 29 (.bin .add (.t 28) (cI 1)),
mV 9 29] [0,1,2,8,9]))))))
(.seq (.reg [mV 42 8,
oP 6 (.mvd (.t 42))] [6])
.ret)))))))
abbrev P6:RsT:=[(6,none)]
theorem P3:SpF 43 PY PU P6:=SpI Tryz.func49 (by kernel_rfl)
theorem PX:ar Tryz.prog PY = true:=by kernel_rfl
abbrev JG:FuncId:=52
def Mh:AC:=
(.seq (.reg [oP 2 (.mv (.c (.bool false)))] [0])
(.seq (.seq (.reg [mV 6 0,
oP 7 (.lenStr (.t 6)),
oP 8 (.call (.f 109) [false,false,false] [(.t 7),(cI 1),(cI 16)]),
oP 9 (.un .not (.t 8)),
mV 10 9,
gF 11 10 (.mv (.t 0)),
gF 12 10 (.ixStr (.t 11) (cI 0)),
gF 13 10 (.bin .lss (.t 12) (.c (.int .u8 97))),
oP 14 (.pick (.t 10) (.c (.bool true)) (.t 13)),
mV 15 14,
gF 16 15 (.mv (.t 0)),
gF 17 15 (.ixStr (.t 16) (cI 0)),
gF 18 15 (.bin .gtr (.t 17) (.c (.int .u8 122))),
oP 19 (.pick (.t 15) (.c (.bool true)) (.t 18))] [0,19])
(.cond (.t 19)
(.seq (.reg [oP 2 (.mv (.c (.bool false)))] [2])
.ret)
.skip))
(.seq (.seq (.reg [oP 3 (.mv (cI 1))] [0,3])
(.block 0
(.loop [0,3]
(.seq (.seq (.reg [mV 20 3,
mV 21 0,
oP 22 (.lenStr (.t 21)),
oP 23 (.bin .lss (.t 20) (.t 22))] [0,3,23])
(.cond (.t 23)
.skip
(.exit 0)))
(.seq (.block 1
(.seq (.dreg [mV 26 0,
mV 27 3,
oP 28 (.ixStr (.t 26) (.t 27)),
oP 29 (.bin .geq (.t 28) (.c (.int .u8 97))),
mV 30 29,
gT 31 30 (.mv (.t 0)),
gT 32 30 (.mv (.t 3)),
gT 33 30 (.ixStr (.t 31) (.t 32)),
gT 34 30 (.bin .leq (.t 33) (.c (.int .u8 122))),
oP 35 (.pick (.t 30) (.t 34) (.c (.bool false))),
mV 36 0,
mV 37 3,
oP 38 (.ixStr (.t 36) (.t 37)),
oP 39 (.bin .geq (.t 38) (.c (.int .u8 48))),
mV 40 39,
gT 41 40 (.mv (.t 0)),
gT 42 40 (.mv (.t 3)),
gT 43 40 (.ixStr (.t 41) (.t 42)),
gT 44 40 (.bin .leq (.t 43) (.c (.int .u8 57))),
oP 45 (.pick (.t 40) (.t 44) (.c (.bool false))),
mV 4 35,
mV 5 45] [0,3,4,5] [[],[],[0,1],[0,1,2],[0,1,2,3],[0,1,2,3,4],[0,1,2,3,4],[0,1,2,3,4,5,6],[0,1,2,3,4,5,6,7],[0,1,2,3,4,5,6,7,8],[],[],[10,11],[10,11,12],[0,1,2,3,4,10,11,12,13],[0,1,2,3,4,10,11,12,13,14],[0,1,2,3,4,10,11,12,13,14],[0,1,2,3,4,10,11,12,13,14,15,16],[0,1,2,3,4,10,11,12,13,14,15,16,17],[0,1,2,3,4,10,11,12,13,14,15,16,17,18],[0,1,2,3,4,5,6,7,8,9,10,11,12,13,14],[0,1,2,3,4,5,6,7,8,9,10,11,12,13,14,15,16,17,18,19,20]])
(.seq (.reg [mV 46 4,
oP 47 (.un .not (.t 46)),
mV 48 47,
gT 49 48 (.mv (.t 5)),
gT 50 48 (.un .not (.t 49)),
oP 51 (.pick (.t 48) (.t 50) (.c (.bool false)))] [0,3,51])
(.cond (.t 51)
(.seq (.reg [oP 2 (.mv (.c (.bool false)))] [2])
.ret)
.skip))))
(.reg [mV 24 3,
oP 25 (.bin .add (.t 24) (cI 1)),
mV 3 25] [0,3]))))))
(.seq (.reg [oP 2 (.mv (.c (.bool true)))] [2])
.ret))))
abbrev NG:RsT:=[(2,none)]
theorem Ob:SpF 52 JG Mh NG:=SpI Tryz.func52 (by kernel_rfl)
theorem Od:ar Tryz.prog JG = true:=by kernel_rfl
abbrev Fc:FuncId:=53
def L9:AC:=
(.seq (.reg [oP 3 (.pbox 1 (.t 0)),
oP 4 (.pbox 1 (.t 1)),
oP 6 (.mv (.c (.bool false)))] [2,3,4])
(.seq (.reg [mV 7 2,
oP 8 (.mkfunc (.func 111) [] [(.t 3),(.t 4)]),
oP 9 (.call (.f 110) [true,false] [(.t 7),(.t 8)]),
mV 6 9] [6])
.ret))
abbrev O2:RsT:=[(6,none)]
theorem Nc:SpF 10 Fc L9 O2:=SpI Tryz.func53 (by kernel_rfl)
theorem bE:ar Tryz.prog Fc = true:=by kernel_rfl
abbrev GQ:FuncId:=54
def KD:AC:=
(.seq (.reg [oP 1 (.mv (cI 0)),
oP 2 (.mv (cI 0))] [0])
(.seq (.reg [oP 3 (.fieldAddr (some 5) 0 (.t 0)),
oP 4 (.fieldAddr none 0 (.t 3)),
oP 5 (.load none (.t 4)),
oP 6 (.call (.f 55) [true] [(.t 5)]),
oP 7 (.extract (.t 6) 0),
oP 8 (.extract (.t 6) 1),
mV 1 7,
mV 2 8] [1,2])
.ret))
abbrev Pj:RsT:=[(1,none),(2,none)]
theorem Nu:SpF 9 GQ KD Pj:=SpI Tryz.func54 (by kernel_rfl)
theorem LA:ar Tryz.prog GQ = true:=by kernel_rfl
abbrev IB:FuncId:=55
def K5:AC:=
(.seq (.reg [oP 1 (.pbox 1 (.t 0)),
oP 2 (.mv (cI 0)),
oP 3 (.mv (cI 0))] [1])
(.seq (.reg [oP 4 (.load none (.t 1)),
oP 5 (.mkfunc (.func 113) [] [(.t 1)]),
oP 6 (.call (.f 112) [true,false] [(.t 4),(.t 5)]),
oP 7 (.extract (.t 6) 0),
oP 8 (.extract (.t 6) 1),
mV 2 7,
mV 3 8] [2,3])
.ret))
abbrev Oi:RsT:=[(2,none),(3,none)]
theorem N2:SpF 9 IB K5 Oi:=SpI Tryz.func55 (by kernel_rfl)
theorem Ku:ar Tryz.prog IB = true:=by kernel_rfl
abbrev Gf:FuncId:=56
def MG:AC:=
(.seq (.reg [oP 1 (.mv (cI 0)),
oP 2 (.mv (cI 0))] [0])
(.seq (.reg [oP 3 (.fieldAddr (some 5) 0 (.t 0)),
oP 4 (.fieldAddr none 1 (.t 3)),
oP 5 (.load none (.t 4)),
oP 6 (.call (.f 55) [true] [(.t 5)]),
oP 7 (.extract (.t 6) 0),
oP 8 (.extract (.t 6) 1),
mV 1 7,
mV 2 8] [1,2])
.ret))
abbrev M4:RsT:=[(1,none),(2,none)]
theorem M3:SpF 9 Gf MG M4:=SpI Tryz.func56 (by kernel_rfl)
theorem J1:ar Tryz.prog Gf = true:=by kernel_rfl
abbrev F9:FuncId:=57
def Ka:AC:=
(.seq (.reg [oP 1 (.mv (cI 0)),
oP 2 (.mv (cI 0))] [0])
(.seq (.reg [oP 3 (.load (some 5) (.t 0)),
oP 4 (.fieldAddr (some 5) 0 (.t 0)),
oP 5 (.fieldAddr none 2 (.t 4)),
oP 6 (.load none (.t 5)),
oP 7 (.call (.f 58) [true,true] [(.t 3),(.t 6)]),
oP 8 (.extract (.t 7) 0),
oP 9 (.extract (.t 7) 1),
mV 1 8,
mV 2 9] [1,2])
.ret))
abbrev NO:RsT:=[(1,none),(2,none)]
theorem M6:SpF 10 F9 Ka NO:=SpI Tryz.func57 (by kernel_rfl)
theorem MN:ar Tryz.prog F9 = true:=by kernel_rfl
abbrev I3:FuncId:=58
def LZ:AC:=
(.seq (.reg [oP 2 (.pbox 5 (.t 0)),
oP 4 (.mv (cI 0)),
oP 5 (.mv (cI 0))] [1,2])
(.seq (.reg [oP 7 (.mnew),
oP 6 (.alloc [.nilmap]),
oN (.store 1 (.t 6) (.t 7))] [1,2,6])
(.frz 6 false (.seq (.reg [mV 8 1,
oP 9 (.mkfunc (.func 117) [] [(.t 6),(.t 2)]),
oP 10 (.call (.f 116) [true,false] [(.t 8),(.t 9)]),
oP 11 (.extract (.t 10) 0),
oP 12 (.extract (.t 10) 1),
mV 4 11,
mV 5 12] [4,5])
.ret))))
abbrev O1:RsT:=[(4,none),(5,none)]
theorem OI:SpF 13 I3 LZ O1:=SpI Tryz.func58 (by kernel_rfl)
theorem Ke:ar Tryz.prog I3 = true:=by kernel_rfl
abbrev Gk:FuncId:=59
def K3:AC:=
(.seq (.reg [oP 1 (.mv (cI 0)),
oP 2 (.mv (cI 0))] [0])
(.seq (.reg [oP 3 (.fieldAddr (some 5) 0 (.t 0)),
oP 4 (.fieldAddr none 3 (.t 3)),
oP 5 (.load none (.t 4)),
oP 6 (.load (some 5) (.t 0)),
oP 7 (.mkfunc (.func 61) [(.t 6)] []),
oP 8 (.call (.f 60) [true,false] [(.t 5),(.t 7)]),
oP 9 (.extract (.t 8) 0),
oP 10 (.extract (.t 8) 1),
mV 1 9,
mV 2 10] [1,2])
.ret))
abbrev Np:RsT:=[(1,none),(2,none)]
theorem NW:SpF 11 Gk K3 Np:=SpI Tryz.func59 (by kernel_rfl)
theorem Mt:ar Tryz.prog Gk = true:=by kernel_rfl
abbrev G7:FuncId:=60
def LR:AC:=
(.seq (.reg [oP 4 (.mv (cI 0)),
oP 5 (.mv (cI 0))] [0,1])
(.seq (.seq (.reg [mV 8 0,
oP 9 (.len (.t 8)),
oP 10 (.mv (cI 0))] [1,8,9,10])
(.block 0
(.loop [1,8,9,10]
(.seq (.reg [oP 11 (.bin .lss (.t 10) (.t 9))] [1,8,9,10,11])
(.seq (.cond (.t 11)
.skip
(.exit 0))
(.seq (.block 1
(.seq (.reg [mV 12 10,
oP 13 (.ixS 5 (.t 8) (.t 10)),
oP 14 (.load (some 5) (.t 13)),
oP 7 (.alloc [.int .i64 0, .int .i64 0, .int .i64 0, .int .i64 0, .int .i64 0]),
mV 6 12,
oN (.store 5 (.t 7) (.t 14))] [1,6,7,8,9,10])
(.frz 7 true (.seq (.reg [mV 15 1,
mV 16 6,
oP 17 (.load (some 5) (.t 7)),
oP 18 (.call (.t 15) [false,false] [(.t 16),(.t 17)]),
mV 5 18] [1,5,6,8,9,10])
(.seq (.reg [mV 19 5,
oP 20 (.bin .neq (.t 19) (cI 0))] [1,5,6,8,9,10,20])
(.cond (.t 20)
(.seq (.reg [mV 21 6,
mV 22 5,
mV 4 21,
mV 5 22] [4,5])
.ret)
.skip))))))
(.reg [oP 23 (.bin .add (.t 10) (cI 1)),
mV 10 23] [1,8,9,10])))))))
(.seq (.reg [oP 4 (.mv (cI 0)),
oP 5 (.mv (cI 0))] [4,5])
.ret)))
abbrev Pl:RsT:=[(4,none),(5,none)]
theorem Pa:SpF 24 G7 LR Pl:=SpI Tryz.func60 (by kernel_rfl)
theorem Nx:ar Tryz.prog G7 = true:=by kernel_rfl
abbrev GX:FuncId:=61
def vh:AC:=
(.seq (.reg [oP 3 (.pbox 5 (.t 0)),
oP 5 (.box 5 (.t 2)),
oP 6 (.mv (cI 0))] [1,3,5])
(.seq (.block 0
(.seq (.reg [oP 9 (.fieldAddr (some 5) 0 (.t 3)),
oP 10 (.fieldAddr none 0 (.t 9)),
oP 11 (.load none (.t 10)),
oP 12 (.len (.t 11)),
oP 13 (.bin .sub (.t 12) (cI 1)),
oP 14 (.fieldAddr none 0 (.t 5)),
oP 15 (.load none (.t 14)),
oP 16 (.lit 0 1 1 [(0,(.t 15))]),
oP 17 (.call (.f 53) [false,false,true] [(cI 0),(.t 13),(.t 16)]),
mV 18 17,
gF 19 18 (.fieldAddr (some 5) 0 (.t 3)),
gF 20 18 (.fieldAddr none 1 (.t 19)),
gF 21 18 (.load none (.t 20)),
gF 22 18 (.len (.t 21)),
gF 23 18 (.bin .sub (.t 22) (cI 1)),
gF 24 18 (.fieldAddr none 1 (.t 5)),
gF 25 18 (.load none (.t 24)),
gF 26 18 (.fieldAddr none 2 (.t 5)),
gF 27 18 (.load none (.t 26)),
gF 28 18 (.lit 0 1 2 [(0,(.t 25)),(1,(.t 27))]),
gF 29 18 (.call (.f 53) [false,false,true] [(cI (-1)),(.t 23),(.t 28)]),
oP 30 (.pick (.t 18) (.c (.bool true)) (.t 29)),
mV 8 30] [1,3,5,8])
(.cond (.t 8)
(.seq (.reg [oP 6 (.mv (cI 4))] [6])
.ret)
(.seq (.reg [oP 32 (.fieldAddr none 1 (.t 5)),
oP 33 (.load none (.t 32)),
oP 34 (.fieldAddr none 2 (.t 5)),
oP 35 (.load none (.t 34)),
oP 36 (.bin .eql (.t 33) (.t 35)),
mV 31 36] [1,3,5,31])
(.cond (.t 31)
(.seq (.reg [oP 6 (.mv (cI 2))] [6])
.ret)
(.seq (.reg [oP 38 (.fieldAddr none 3 (.t 5)),
oP 39 (.load none (.t 38)),
oP 40 (.lit 0 1 1 [(0,(.t 39))]),
oP 41 (.call (.f 53) [false,false,true] [(cI 0),(cI 1000000),(.t 40)]),
mV 37 41] [1,3,5,37])
(.cond (.t 37)
(.seq (.reg [oP 6 (.mv (cI 7))] [6])
.ret)
(.seq (.reg [oP 43 (.fieldAddr none 4 (.t 5)),
oP 44 (.load none (.t 43)),
oP 45 (.bin .eql (.t 44) (cI (-1))),
mV 42 45] [1,3,5,42])
(.cond (.t 42)
(.seq (.reg [oP 6 (.mv (cI 0))] [6])
.ret)
(.seq (.reg [oP 47 (.fieldAddr (some 5) 0 (.t 3)),
oP 48 (.fieldAddr none 3 (.t 47)),
oP 49 (.load none (.t 48)),
oP 50 (.len (.t 49)),
oP 51 (.bin .sub (.t 50) (cI 1)),
oP 52 (.fieldAddr none 4 (.t 5)),
oP 53 (.load none (.t 52)),
oP 54 (.lit 0 1 1 [(0,(.t 53))]),
oP 55 (.call (.f 53) [false,false,true] [(cI 0),(.t 51),(.t 54)]),
mV 56 55,
gF 57 56 (.fieldAddr none 4 (.t 5)),
gF 58 56 (.load none (.t 57)),
gF 59 56 (.mv (.t 1)),
gF 60 56 (.bin .eql (.t 58) (.t 59)),
oP 61 (.pick (.t 56) (.c (.bool true)) (.t 60)),
mV 46 61] [1,3,5,46])
(.cond (.t 46)
(.seq (.reg [oP 6 (.mv (cI 9))] [6])
.ret)
.skip)))))))))))
(.seq (.reg [oP 62 (.fieldAddr (some 5) 0 (.t 3)),
oP 63 (.fieldAddr none 3 (.t 62)),
oP 64 (.load none (.t 63)),
oP 65 (.fieldAddr none 4 (.t 5)),
oP 66 (.load none (.t 65)),
oP 67 (.ixS 5 (.t 64) (.t 66)),
oP 68 (.load (some 5) (.t 67)),
oP 7 (.alloc [.int .i64 0, .int .i64 0, .int .i64 0, .int .i64 0, .int .i64 0]),
oN (.store 5 (.t 7) (.t 68))] [1,5,7])
(.seq (.reg [oP 69 (.fieldAddr none 3 (.t 5)),
oP 70 (.load none (.t 69)),
oP 71 (.fieldAddr none 3 (.t 7)),
oN (.store 1 (.t 71) (.t 70))] [1,5,7])
(.seq (.reg [mV 72 1,
oP 73 (.fieldAddr none 4 (.t 5)),
oN (.store 1 (.t 73) (.t 72))] [5,7])
(.seq (.seq (.reg [oP 74 (.load (some 5) (.t 7)),
oP 75 (.load (some 5) (.t 5)),
oP 76 (.eqa true [.i, .i, .i, .i, .i] (.t 74) (.t 75))] [76])
(.cond (.t 76)
(.seq (.reg [oP 6 (.mv (cI 9))] [6])
.ret)
.skip))
(.seq (.reg [oP 6 (.mv (cI 0))] [6])
.ret)))))))
abbrev Ns:RsT:=[(6,none)]
theorem NB:SpF 77 GX vh Ns:=SpI Tryz.func61 (by kernel_rfl)
theorem Oo:ar Tryz.prog GX = true:=by kernel_rfl
abbrev Gt:FuncId:=62
def KT:AC:=
(.seq (.reg [oP 1 (.mv (cI 0)),
oP 2 (.mv (cI 0))] [0])
(.seq (.reg [oP 3 (.load (some 5) (.t 0)),
oP 4 (.fieldAddr (some 5) 0 (.t 0)),
oP 5 (.fieldAddr none 4 (.t 4)),
oP 6 (.load none (.t 5)),
oP 7 (.call (.f 58) [true,true] [(.t 3),(.t 6)]),
oP 8 (.extract (.t 7) 0),
oP 9 (.extract (.t 7) 1),
mV 1 8,
mV 2 9] [1,2])
.ret))
abbrev OM:RsT:=[(1,none),(2,none)]
theorem Ny:SpF 10 Gt KT OM:=SpI Tryz.func62 (by kernel_rfl)
theorem Ml:ar Tryz.prog Gt = true:=by kernel_rfl
abbrev JH:FuncId:=63
def Ky:AC:=
(.seq (.reg [oP 6 (.mv (.c (.bool false)))] [0,1,2])
(.seq (.reg [mV 7 0,
mV 8 1,
oP 9 (.bin .geq (.t 7) (.t 8)),
mV 10 9,
gT 11 10 (.mv (.t 0)),
gT 12 10 (.mv (.t 2)),
gT 13 10 (.bin .leq (.t 11) (.t 12)),
oP 14 (.pick (.t 10) (.t 13) (.c (.bool false))),
mV 6 14] [6])
.ret))
abbrev Pd:RsT:=[(6,none)]
theorem Oe:SpF 15 JH Ky Pd:=SpI Tryz.func63 (by kernel_rfl)
theorem ck:ar Tryz.prog JH = true:=by kernel_rfl
abbrev Iq:FuncId:=64
def Kj:AC:=
(.seq (.reg [oP 2 (.mv (cI 0)),
oP 3 (.mv (cI 0))] [0])
(.seq (.seq (.reg [oP 4 (.mv (cI 0))] [0,4])
(.block 0
(.loop [0,4]
(.seq (.seq (.reg [mV 6 4,
mV 7 0,
oP 8 (.len (.t 7)),
oP 9 (.bin .lss (.t 6) (.t 8))] [0,4,9])
(.cond (.t 9)
.skip
(.exit 0)))
(.seq (.block 1
(.seq (.dreg [mV 12 0,
mV 13 4,
oP 14 (.ixS 1 (.t 12) (.t 13)),
oP 15 (.load none (.t 14)),
mV 16 0,
mV 17 4,
oP 18 (.subq 1 (.t 16) none (some (.t 17))),
oP 19 (.call (.f 118) [false,true] [(.t 15),(.t 18)]),
mV 5 19] [0,4,5] [[],[],[0,1],[0,1,2],[],[],[4,5],[0,1,2,3,4,5,6],[0,1,2,3,4,5,6,7]])
(.seq (.reg [mV 20 5,
oP 21 (.bin .neq (.t 20) (cI 0))] [0,4,5,21])
(.cond (.t 21)
(.seq (.reg [mV 22 4,
mV 23 5,
mV 2 22,
mV 3 23] [2,3])
.ret)
.skip))))
(.reg [mV 10 4,
oP 11 (.bin .add (.t 10) (cI 1)),
mV 4 11] [0,4]))))))
(.seq (.reg [oP 2 (.mv (cI 0)),
oP 3 (.mv (cI 0))] [2,3])
.ret)))
abbrev OQ:RsT:=[(2,none),(3,none)]
theorem Nk:SpF 24 Iq Kj OQ:=SpI Tryz.func64 (by kernel_rfl)
theorem AB:ar Tryz.prog Iq = true:=by kernel_rfl
abbrev Jh:FuncId:=65
def KS:AC:=
(.seq (.reg [oP 2 (.pbox 5 (.t 0)),
oP 4 (.mv (cI 0)),
oP 5 (.mv (cI 0))] [1,2])
(.seq (.seq (.reg [oP 6 (.mv (cI 0))] [1,2,6])
(.block 0
(.loop [1,2,6]
(.seq (.seq (.reg [mV 10 6,
mV 11 1,
oP 12 (.len (.t 11)),
oP 13 (.bin .lss (.t 10) (.t 12))] [1,2,6,13])
(.cond (.t 13)
.skip
(.exit 0)))
(.seq (.block 1
(.seq (.reg [mV 16 1,
mV 17 6,
oP 18 (.ixS 4 (.t 16) (.t 17)),
oP 19 (.load (some 4) (.t 18)),
oP 7 (.alloc [.int .i64 0, .int .i64 0, .int .i64 0, .int .i64 0]),
oN (.store 4 (.t 7) (.t 19))] [1,2,6,7])
(.frz 7 true (.seq (.seq (.reg [oP 20 (.fieldAddr none 0 (.t 7)),
oP 21 (.load none (.t 20)),
oP 22 (.fieldAddr none 0 (.t 2)),
oP 23 (.load none (.t 22)),
oP 24 (.len (.t 23)),
oP 25 (.bin .sub (.t 24) (cI 1)),
oP 26 (.call (.f 63) [false,false,false] [(.t 21),(cI 0),(.t 25)]),
oP 27 (.un .not (.t 26)),
mV 28 27,
gF 29 28 (.fieldAddr none 1 (.t 7)),
gF 30 28 (.load none (.t 29)),
gF 31 28 (.fieldAddr none 1 (.t 2)),
gF 32 28 (.load none (.t 31)),
gF 33 28 (.len (.t 32)),
gF 34 28 (.bin .sub (.t 33) (cI 1)),
gF 35 28 (.call (.f 63) [false,false,false] [(.t 30),(cI 0),(.t 34)]),
gF 36 28 (.un .not (.t 35)),
oP 37 (.pick (.t 28) (.c (.bool true)) (.t 36))] [1,2,6,7,37])
(.cond (.t 37)
(.seq (.reg [mV 38 6,
mV 4 38,
oP 5 (.mv (cI 4))] [4,5])
.ret)
.skip))
(.seq (.seq (.reg [oP 8 (.mv (cI 0))] [1,2,6,7,8])
(.block 2
(.loop [1,2,6,7,8]
(.seq (.seq (.reg [mV 39 8,
mV 40 6,
oP 41 (.bin .lss (.t 39) (.t 40))] [1,2,6,7,8,41])
(.cond (.t 41)
.skip
(.exit 2)))
(.seq (.block 3
(.seq (.dreg [mV 44 1,
mV 45 8,
oP 46 (.ixS 4 (.t 44) (.t 45)),
oP 47 (.fieldAddr none 0 (.t 46)),
oP 48 (.load none (.t 47)),
oP 49 (.fieldAddr none 0 (.t 7)),
oP 50 (.load none (.t 49)),
oP 51 (.bin .eql (.t 48) (.t 50)),
mV 52 51,
gT 53 52 (.mv (.t 1)),
gT 54 52 (.mv (.t 8)),
gT 55 52 (.ixS 4 (.t 53) (.t 54)),
gT 56 52 (.fieldAddr none 1 (.t 55)),
gT 57 52 (.load none (.t 56)),
gT 58 52 (.fieldAddr none 1 (.t 7)),
gT 59 52 (.load none (.t 58)),
gT 60 52 (.bin .eql (.t 57) (.t 59)),
oP 61 (.pick (.t 52) (.t 60) (.c (.bool false)))] [1,2,6,7,8,61] [[],[],[0,1],[0,1,2],[0,1,2,3],[],[5],[0,1,2,3,4,5,6],[0,1,2,3,4,5,6,7],[0,1,2,3,4,5,6,7,8],[0,1,2,3,4,5,6,7,8],[0,1,2,3,4,5,6,7,8,9,10],[0,1,2,3,4,5,6,7,8,9,10,11],[0,1,2,3,4,5,6,7,8,9,10,11,12],[0,1,2,3,4,5,6,7,8],[0,1,2,3,4,5,6,7,8,14],[0,1,2,3,4,5,6,7,8,9,10,11,12,13,14,15],[0,1,2,3,4,5,6,7,8,9,10,11,12,13,14,15,16]])
(.cond (.t 61)
(.seq (.reg [mV 62 6,
mV 4 62,
oP 5 (.mv (cI 5))] [4,5])
.ret)
.skip)))
(.reg [mV 42 8,
oP 43 (.bin .add (.t 42) (cI 1)),
mV 8 43] [1,2,6,7,8]))))))
(.seq (.reg [oP 63 (.fieldAddr (some 2) 2 (.t 7)),
oP 64 (.load (some 2) (.t 63)),
oP 65 (.call (.f 119) [false,false,false] [(.t 64),(cI 0),(cI 1000000)]),
mV 9 65] [1,2,6,9])
(.seq (.reg [mV 66 9,
oP 67 (.bin .neq (.t 66) (cI 0))] [1,2,6,9,67])
(.cond (.t 67)
(.seq (.reg [mV 68 6,
mV 69 9,
mV 4 68,
mV 5 69] [4,5])
.ret)
.skip))))))))
(.reg [mV 14 6,
oP 15 (.bin .add (.t 14) (cI 1)),
mV 6 15] [1,2,6]))))))
(.seq (.reg [oP 4 (.mv (cI 0)),
oP 5 (.mv (cI 0))] [4,5])
.ret)))
abbrev Oq:RsT:=[(4,none),(5,none)]
theorem Ni:SpF 70 Jh KS Oq:=SpI Tryz.func65 (by kernel_rfl)
theorem JA:ar Tryz.prog Jh = true:=by kernel_rfl
abbrev Jo:FuncId:=66
def vm:AC:=
(.seq (.reg [oP 2 (.pbox 5 (.t 0)),
oP 4 (.mv (cI 0))] [1,2])
(.seq (.reg [oP 7 (.fieldAddr none 3 (.t 2)),
oP 8 (.load none (.t 7)),
mV 9 1,
oP 10 (.ixS 5 (.t 8) (.t 9)),
oP 11 (.load (some 5) (.t 10)),
oP 5 (.alloc [.int .i64 0, .int .i64 0, .int .i64 0, .int .i64 0, .int .i64 0]),
oN (.store 5 (.t 5) (.t 11))] [1,2,5])
(.frz 5 true (.seq (.seq (.reg [oP 12 (.fieldAddr none 0 (.t 5)),
oP 13 (.load none (.t 12)),
oP 14 (.fieldAddr none 0 (.t 2)),
oP 15 (.load none (.t 14)),
oP 16 (.len (.t 15)),
oP 17 (.bin .sub (.t 16) (cI 1)),
oP 18 (.call (.f 63) [false,false,false] [(.t 13),(cI 0),(.t 17)]),
oP 19 (.un .not (.t 18)),
mV 20 19,
gF 21 20 (.fieldAddr none 1 (.t 5)),
gF 22 20 (.load none (.t 21)),
gF 23 20 (.fieldAddr none 1 (.t 2)),
gF 24 20 (.load none (.t 23)),
gF 25 20 (.len (.t 24)),
gF 26 20 (.bin .sub (.t 25) (cI 1)),
gF 27 20 (.call (.f 63) [false,false,false] [(.t 22),(cI (-1)),(.t 26)]),
gF 28 20 (.un .not (.t 27)),
oP 29 (.pick (.t 20) (.c (.bool true)) (.t 28)),
mV 30 29,
gF 31 30 (.fieldAddr none 2 (.t 5)),
gF 32 30 (.load none (.t 31)),
gF 33 30 (.fieldAddr none 1 (.t 2)),
gF 34 30 (.load none (.t 33)),
gF 35 30 (.len (.t 34)),
gF 36 30 (.bin .sub (.t 35) (cI 1)),
gF 37 30 (.call (.f 63) [false,false,false] [(.t 32),(cI (-1)),(.t 36)]),
gF 38 30 (.un .not (.t 37)),
oP 39 (.pick (.t 30) (.c (.bool true)) (.t 38))] [1,2,5,39])
(.cond (.t 39)
(.seq (.reg [oP 4 (.mv (cI 4))] [4])
.ret)
.skip))
(.seq (.seq (.reg [oP 40 (.fieldAddr none 1 (.t 5)),
oP 41 (.load none (.t 40)),
oP 42 (.fieldAddr none 2 (.t 5)),
oP 43 (.load none (.t 42)),
oP 44 (.bin .eql (.t 41) (.t 43))] [1,2,5,44])
(.cond (.t 44)
(.seq (.reg [oP 4 (.mv (cI 2))] [4])
.ret)
.skip))
(.seq (.seq (.reg [oP 45 (.fieldAddr none 3 (.t 5)),
oP 46 (.load none (.t 45)),
oP 47 (.call (.f 63) [false,false,false] [(.t 46),(cI 0),(cI 1000000)]),
oP 48 (.un .not (.t 47))] [1,2,5,48])
(.cond (.t 48)
(.seq (.reg [oP 4 (.mv (cI 7))] [4])
.ret)
.skip))
(.seq (.seq (.reg [oP 49 (.fieldAddr none 4 (.t 5)),
oP 50 (.load none (.t 49)),
oP 51 (.bin .eql (.t 50) (cI (-1)))] [1,2,5,51])
(.cond (.t 51)
(.seq (.reg [oP 4 (.mv (cI 0))] [4])
.ret)
.skip))
(.seq (.seq (.reg [oP 52 (.fieldAddr none 4 (.t 5)),
oP 53 (.load none (.t 52)),
oP 54 (.fieldAddr none 3 (.t 2)),
oP 55 (.load none (.t 54)),
oP 56 (.len (.t 55)),
oP 57 (.bin .sub (.t 56) (cI 1)),
oP 58 (.call (.f 63) [false,false,false] [(.t 53),(cI 0),(.t 57)]),
oP 59 (.un .not (.t 58)),
mV 60 59,
gF 61 60 (.fieldAddr none 4 (.t 5)),
gF 62 60 (.load none (.t 61)),
gF 63 60 (.mv (.t 1)),
gF 64 60 (.bin .eql (.t 62) (.t 63)),
oP 65 (.pick (.t 60) (.c (.bool true)) (.t 64))] [1,2,5,65])
(.cond (.t 65)
(.seq (.reg [oP 4 (.mv (cI 9))] [4])
.ret)
.skip))
(.seq (.reg [oP 66 (.fieldAddr none 3 (.t 2)),
oP 67 (.load none (.t 66)),
oP 68 (.fieldAddr none 4 (.t 5)),
oP 69 (.load none (.t 68)),
oP 70 (.ixS 5 (.t 67) (.t 69)),
oP 71 (.load (some 5) (.t 70)),
oP 6 (.alloc [.int .i64 0, .int .i64 0, .int .i64 0, .int .i64 0, .int .i64 0]),
oN (.store 5 (.t 6) (.t 71))] [1,5,6])
(.frz 6 true (.seq (.seq (.reg [oP 72 (.fieldAddr none 4 (.t 6)),
oP 73 (.load none (.t 72)),
mV 74 1,
oP 75 (.bin .neq (.t 73) (.t 74)),
mV 76 75,
gF 77 76 (.fieldAddr none 0 (.t 6)),
gF 78 76 (.load none (.t 77)),
gF 79 76 (.fieldAddr none 0 (.t 5)),
gF 80 76 (.load none (.t 79)),
gF 81 76 (.bin .neq (.t 78) (.t 80)),
oP 82 (.pick (.t 76) (.c (.bool true)) (.t 81)),
mV 83 82,
gF 84 83 (.fieldAddr none 1 (.t 6)),
gF 85 83 (.load none (.t 84)),
gF 86 83 (.fieldAddr none 1 (.t 5)),
gF 87 83 (.load none (.t 86)),
gF 88 83 (.bin .neq (.t 85) (.t 87)),
oP 89 (.pick (.t 83) (.c (.bool true)) (.t 88)),
mV 90 89,
gF 91 90 (.fieldAddr none 2 (.t 6)),
gF 92 90 (.load none (.t 91)),
gF 93 90 (.fieldAddr none 2 (.t 5)),
gF 94 90 (.load none (.t 93)),
gF 95 90 (.bin .neq (.t 92) (.t 94)),
oP 96 (.pick (.t 90) (.c (.bool true)) (.t 95))] [96])
(.cond (.t 96)
(.seq (.reg [oP 4 (.mv (cI 9))] [4])
.ret)
.skip))
(.seq (.reg [oP 4 (.mv (cI 0))] [4])
.ret))))))))))))
abbrev O9:RsT:=[(4,none)]
theorem Ow:SpF 97 Jo vm O9:=SpI Tryz.func66 (by kernel_rfl)
theorem Kb:ar Tryz.prog Jo = true:=by kernel_rfl
abbrev IQ:FuncId:=67
def JF:AC:=
(.seq (.reg [oP 2 (.pbox 5 (.t 0)),
oP 3 (.pbox 1 (.t 1)),
oP 4 (.alloc [.slice 1 [], .slice 1 [], .slice 4 [], .slice 5 [], .slice 4 []]),
oP 5 (.mv (cI 0))] [2,3,4])
(.seq (.reg [oP 6 (.load (some 5) (.t 2)),
oP 7 (.build [.slice 1 [], .slice 1 [], .slice 4 [], .slice 5 [], .slice 4 []] [(0,5,(.t 6))]),
oN (.store 5 (.t 4) (.t 7))] [2,3,4])
(.seq (.seq (.reg [oP 9 (.load (some 5) (.t 2)),
oP 10 (.call (.f 16) [true] [(.t 9)]),
mV 8 10,
oP 11 (.extract (.t 8) 0),
oP 12 (.extract (.t 8) 1),
oP 13 (.extract (.t 8) 2),
mV 5 13] [3,4,5])
(.seq (.reg [mV 14 5,
oP 15 (.bin .neq (.t 14) (cI 0))] [3,4,5,15])
(.cond (.t 15)
(.seq (.reg [oP 16 (.loadd (some 5) (.t 4)),
mV 17 5,
oN (.store 5 (.t 4) (.t 16)),
mV 5 17] [4,5])
.ret)
.skip)))
(.seq (.reg [oP 19 (.load none (.t 3)),
oP 20 (.mkfunc (.func 121) [] [(.t 4),(.t 3)]),
oP 21 (.call (.f 120) [true,false] [(.t 19),(.t 20)]),
mV 18 21,
oP 22 (.extract (.t 18) 0),
oP 23 (.extract (.t 18) 1),
mV 5 23] [4,5])
(.seq (.reg [oP 24 (.loadd (some 5) (.t 4)),
mV 25 5,
oN (.store 5 (.t 4) (.t 24)),
mV 5 25] [4,5])
.ret)))))
abbrev OE:RsT:=[(4,some (some 5)),(5,none)]
theorem Nq:SpF 26 IQ JF OE:=SpI Tryz.func67 (by kernel_rfl)
theorem lB:ar Tryz.prog IQ = true:=by kernel_rfl
abbrev Jg:FuncId:=68
def IH:AC:=
(.seq (.reg [oP 2 (.pbox 5 (.t 0)),
oP 4 (.mv (.c (.bool false)))] [1,2])
(.seq (.seq (.reg [oP 6 (.load (some 5) (.t 2)),
mV 7 1,
oP 8 (.call (.f 70) [true,true] [(.t 6),(.t 7)]),
oP 9 (.bin .geq (.t 8) (cI 0))] [1,2,9])
(.cond (.t 9)
(.seq (.reg [oP 4 (.mv (.c (.bool false)))] [4])
.ret)
.skip))
(.seq (.seq (.reg [oP 10 (.fieldAddr (some 5) 0 (.t 2)),
oP 11 (.fieldAddr none 0 (.t 10)),
oP 12 (.load none (.t 11)),
oP 13 (.len (.t 12)),
oP 14 (.mv (cI 0))] [1,2,13,14])
(.block 0
(.loop [1,2,13,14]
(.seq (.reg [oP 15 (.bin .lss (.t 14) (.t 13))] [1,2,13,14,15])
(.seq (.cond (.t 15)
.skip
(.exit 0))
(.seq (.block 1
(.seq (.reg [mV 16 14,
mV 5 16] [1,2,5,13,14])
(.seq (.reg [oP 17 (.load (some 5) (.t 2)),
mV 18 5,
mV 19 1,
oP 20 (.call (.f 122) [true,false,true] [(.t 17),(.t 18),(.t 19)]),
oP 21 (.call (.f 123) [false] [(.t 20)]),
oP 22 (.un .not (.t 21))] [1,2,13,14,22])
(.cond (.t 22)
(.seq (.reg [oP 4 (.mv (.c (.bool false)))] [4])
.ret)
.skip))))
(.reg [oP 23 (.bin .add (.t 14) (cI 1)),
mV 14 23] [1,2,13,14])))))))
(.seq (.reg [oP 4 (.mv (.c (.bool true)))] [4])
.ret))))
abbrev NL:RsT:=[(4,none)]
theorem OV:SpF 24 Jg IH NL:=SpI Tryz.func68 (by kernel_rfl)
theorem xS:ar Tryz.prog Jg = true:=by kernel_rfl
abbrev Jy:FuncId:=70
def Kr:AC:=
(.seq (.reg [oP 2 (.pbox 5 (.t 0)),
oP 4 (.mv (cI 0))] [1,2])
(.seq (.seq (.reg [oP 6 (.fieldAddr (some 5) 0 (.t 2)),
oP 7 (.fieldAddr none 3 (.t 6)),
oP 8 (.load none (.t 7)),
oP 9 (.len (.t 8)),
oP 10 (.mv (cI 0))] [1,2,9,10])
(.block 0
(.loop [1,2,9,10]
(.seq (.reg [oP 11 (.bin .lss (.t 10) (.t 9))] [1,2,9,10,11])
(.seq (.cond (.t 11)
.skip
(.exit 0))
(.seq (.block 1
(.seq (.reg [mV 12 10,
mV 5 12] [1,2,5,9,10])
(.seq (.reg [oP 13 (.load (some 5) (.t 2)),
mV 14 5,
mV 15 1,
oP 16 (.call (.f 73) [true,false,true] [(.t 13),(.t 14),(.t 15)])] [1,2,5,9,10,16])
(.cond (.t 16)
(.seq (.reg [mV 17 5,
mV 4 17] [4])
.ret)
.skip))))
(.reg [oP 18 (.bin .add (.t 10) (cI 1)),
mV 10 18] [1,2,9,10])))))))
(.seq (.reg [oP 4 (.mv (cI (-1)))] [4])
.ret)))
abbrev O8:RsT:=[(4,none)]
theorem Oc:SpF 19 Jy Kr O8:=SpI Tryz.func70 (by kernel_rfl)
theorem Gm:ar Tryz.prog Jy = true:=by kernel_rfl
abbrev Jl:FuncId:=71
def MQ:AC:=
(.seq (.reg [oP 4 (.pbox 5 (.t 0)),
oP 6 (.pbox 1 (.t 2)),
oP 8 (.mv (cI 0)),
oP 9 (.mv (cI 0))] [1,3,4,6,8])
(.seq (.reg [oP 23 (.mkfunc (.func 124) [] [(.t 6)]),
mV 10 23] [1,3,4,8,10])
(.seq (.reg [oP 11 (.alloc [.int .i64 0, .int .i64 0])] [1,3,4,8,10,11])
(.seq (.reg [oP 12 (.mv (.c (.bool true)))] [1,3,4,8,10,11,12])
(.seq (.seq (.reg [oP 24 (.call (.f 125) [] []),
oP 25 (.mv (cI 0))] [1,3,4,8,10,11,12,24,25])
(.block 0
(.loop [1,3,4,8,10,11,12,24,25]
(.seq (.reg [oP 26 (.bin .lss (.t 25) (cI 2))] [1,3,4,8,10,11,12,24,25,26])
(.seq (.cond (.t 26)
.skip
(.exit 0))
(.seq (.block 1
(.seq (.reg [mV 27 25,
oP 28 (.ixV 2 2 (some 2) (.t 24) (.t 25)),
oP 14 (.alloc [.nilfunc, .nilfunc]),
mV 13 27,
oN (.store 2 (.t 14) (.t 28))] [1,3,4,8,10,11,12,13,14,24,25])
(.frz 14 true (.seq (.seq (.reg [oP 29 (.fieldAddr (some 5) 0 (.t 4)),
oP 30 (.fieldAddr none 1 (.t 29)),
oP 31 (.load none (.t 30)),
oP 32 (.len (.t 31)),
oP 33 (.mv (cI 0))] [1,3,4,8,10,11,12,13,14,24,25,32,33])
(.block 2
(.loop [1,3,4,8,10,11,12,13,14,24,25,32,33]
(.seq (.reg [oP 34 (.bin .lss (.t 33) (.t 32))] [1,3,4,8,10,11,12,13,14,24,25,32,33,34])
(.seq (.cond (.t 34)
.skip
(.exit 2))
(.seq (.block 3
(.seq (.reg [mV 35 33,
mV 15 35] [1,3,4,8,10,11,12,13,14,15,24,25,32,33])
(.seq (.seq (.reg [mV 36 10,
mV 37 15,
oP 38 (.call (.t 36) [false] [(.t 37)]),
oP 39 (.un .not (.t 38))] [1,3,4,8,10,11,12,13,14,15,24,25,32,33,39])
(.cond (.t 39)
(.exit 3)
.skip))
(.seq (.reg [oP 41 (.fieldAddr (some 5) 0 (.t 4)),
oP 42 (.fieldAddr none 2 (.t 41)),
oP 43 (.load none (.t 42)),
mV 44 1,
mV 45 15,
oP 46 (.build [.int .i64 0, .int .i64 0] [(0,1,(.t 44)),(1,1,(.t 45))]),
oP 47 (.call (.f 126) [true,false] [(.t 43),(.t 46)]),
mV 40 47,
oP 48 (.extract (.t 40) 0),
oP 49 (.extract (.t 40) 1),
oP 16 (.alloc [.int .i64 0, .int .i64 0]),
oN (.store 2 (.t 16) (.t 48)),
mV 17 49] [1,3,4,8,10,11,12,13,14,15,16,24,25,32,33])
(.frz 16 true (.seq (.reg [oP 51 (.fieldAddr (some 5) 0 (.t 4)),
oP 52 (.fieldAddr none 4 (.t 51)),
oP 53 (.load none (.t 52)),
mV 54 1,
mV 55 15,
oP 56 (.build [.int .i64 0, .int .i64 0] [(0,1,(.t 54)),(1,1,(.t 55))]),
oP 57 (.call (.f 126) [true,false] [(.t 53),(.t 56)]),
mV 50 57,
oP 58 (.extract (.t 50) 0),
oP 59 (.extract (.t 50) 1),
oP 18 (.alloc [.int .i64 0, .int .i64 0]),
oN (.store 2 (.t 18) (.t 58)),
mV 19 59] [1,3,4,8,10,11,12,13,14,16,18,19,24,25,32,33])
(.frz 18 true (.seq (.dreg [mV 60 13,
oP 61 (.ixA 2 1 none (.t 11) (.t 60)),
oP 62 (.load none (.t 61)),
oP 63 (.fieldAddr none 0 (.t 14)),
oP 64 (.load none (.t 63)),
oP 65 (.load (some 2) (.t 16)),
oP 66 (.call (.t 64) [false] [(.t 65)]),
oP 67 (.fieldAddr none 1 (.t 14)),
oP 68 (.load none (.t 67)),
oP 69 (.load (some 2) (.t 18)),
oP 70 (.call (.t 68) [false] [(.t 69)]),
oP 71 (.bin .sub (.t 66) (.t 70)),
oP 72 (.bin .add (.t 62) (.t 71)),
oP 73 (.ixA 2 1 none (.t 11) (.t 60)),
oN (.store 1 (.t 73) (.t 72))] [1,3,4,8,10,11,12,13,14,19,24,25,32,33] [[],[0],[0,1],[],[3],[],[3,4,5],[],[7],[],[3,4,5,6,7,8,9],[3,4,5,6,7,8,9,10],[0,1,2,3,4,5,6,7,8,9,10,11],[0,1,2,3,4,5,6,7,8,9,10,11,12],[0,1,2,3,4,5,6,7,8,9,10,11,12,13]])
(.reg [mV 74 12,
mV 75 74,
gT 76 75 (.mv (.t 19)),
oP 77 (.pick (.t 75) (.t 76) (.c (.bool false))),
mV 12 77] [1,3,4,8,10,11,12,13,14,24,25,32,33])))))))))
(.reg [oP 78 (.bin .add (.t 33) (cI 1)),
mV 33 78] [1,3,4,8,10,11,12,13,14,24,25,32,33])))))))
(.seq (.reg [oP 79 (.fieldAddr (some 5) 0 (.t 4)),
oP 80 (.fieldAddr none 3 (.t 79)),
oP 81 (.load none (.t 80)),
oP 82 (.len (.t 81)),
oP 83 (.mv (cI 0))] [1,3,4,8,10,11,12,13,14,24,25,81,82,83])
(.block 4
(.loop [1,3,4,8,10,11,12,13,14,24,25,81,82,83]
(.seq (.reg [oP 84 (.bin .lss (.t 83) (.t 82))] [1,3,4,8,10,11,12,13,14,24,25,81,82,83,84])
(.seq (.cond (.t 84)
.skip
(.exit 4))
(.seq (.block 5
(.seq (.reg [mV 85 83,
oP 86 (.ixS 5 (.t 81) (.t 83)),
oP 87 (.load (some 5) (.t 86)),
oP 21 (.alloc [.int .i64 0, .int .i64 0, .int .i64 0, .int .i64 0, .int .i64 0]),
mV 20 85,
oN (.store 5 (.t 21) (.t 87))] [1,3,4,8,10,11,12,13,14,20,21,24,25,81,82,83])
(.frz 21 true (.seq (.seq (.reg [oP 88 (.fieldAddr none 0 (.t 21)),
oP 89 (.load none (.t 88)),
mV 90 1,
oP 91 (.bin .neq (.t 89) (.t 90)),
mV 92 91,
gF 93 92 (.load (some 5) (.t 4)),
gF 94 92 (.mv (.t 20)),
gF 95 92 (.call (.f 127) [true,false] [(.t 93),(.t 94)]),
gF 96 92 (.un .not (.t 95)),
oP 97 (.pick (.t 92) (.c (.bool true)) (.t 96))] [1,3,4,8,10,11,12,13,14,20,21,24,25,81,82,83,97])
(.cond (.t 97)
(.exit 5)
.skip))
(.seq (.reg [oP 98 (.load (some 5) (.t 4)),
mV 99 20,
mV 100 3,
oP 101 (.call (.f 128) [true,false,true] [(.t 98),(.t 99),(.t 100)]),
oP 22 (.alloc [.int .i64 0, .int .i64 0]),
oN (.store 2 (.t 22) (.t 101))] [1,3,4,8,10,11,12,13,14,21,22,24,25,81,82,83])
(.frz 22 true (.block 6
(.seq (.reg [mV 103 10,
oP 104 (.fieldAddr none 2 (.t 21)),
oP 105 (.load none (.t 104)),
oP 106 (.call (.t 103) [false] [(.t 105)]),
mV 107 106,
gT 108 107 (.mv (.t 10)),
gT 109 107 (.fieldAddr none 1 (.t 21)),
gT 110 107 (.load none (.t 109)),
gT 111 107 (.call (.t 108) [false] [(.t 110)]),
gT 112 107 (.un .not (.t 111)),
oP 113 (.pick (.t 107) (.t 112) (.c (.bool false))),
mV 102 113] [1,3,4,8,10,11,12,13,14,21,22,24,25,81,82,83,102])
(.cond (.t 102)
(.dreg [mV 114 13,
oP 115 (.ixA 2 1 none (.t 11) (.t 114)),
oP 116 (.load none (.t 115)),
oP 117 (.fieldAddr none 0 (.t 14)),
oP 118 (.load none (.t 117)),
oP 119 (.load (some 2) (.t 22)),
oP 120 (.call (.t 118) [false] [(.t 119)]),
oP 121 (.bin .add (.t 116) (.t 120)),
oP 122 (.ixA 2 1 none (.t 11) (.t 114)),
oN (.store 1 (.t 122) (.t 121))] [1,3,4,8,10,11,12,13,14,24,25,81,82,83] [[],[0],[0,1],[],[3],[],[3,4,5],[0,1,2,3,4,5,6],[0,1,2,3,4,5,6,7],[0,1,2,3,4,5,6,7,8]])
(.seq (.reg [mV 124 10,
oP 125 (.fieldAddr none 1 (.t 21)),
oP 126 (.load none (.t 125)),
oP 127 (.call (.t 124) [false] [(.t 126)]),
mV 128 127,
gT 129 128 (.mv (.t 10)),
gT 130 128 (.fieldAddr none 2 (.t 21)),
gT 131 128 (.load none (.t 130)),
gT 132 128 (.call (.t 129) [false] [(.t 131)]),
gT 133 128 (.un .not (.t 132)),
oP 134 (.pick (.t 128) (.t 133) (.c (.bool false))),
mV 123 134] [1,3,4,8,10,11,12,13,14,22,24,25,81,82,83,123])
(.cond (.t 123)
(.dreg [mV 135 13,
oP 136 (.ixA 2 1 none (.t 11) (.t 135)),
oP 137 (.load none (.t 136)),
oP 138 (.fieldAddr none 1 (.t 14)),
oP 139 (.load none (.t 138)),
oP 140 (.load (some 2) (.t 22)),
oP 141 (.call (.t 139) [false] [(.t 140)]),
oP 142 (.bin .sub (.t 137) (.t 141)),
oP 143 (.ixA 2 1 none (.t 11) (.t 135)),
oN (.store 1 (.t 143) (.t 142))] [1,3,4,8,10,11,12,13,14,24,25,81,82,83] [[],[0],[0,1],[],[3],[],[3,4,5],[0,1,2,3,4,5,6],[0,1,2,3,4,5,6,7],[0,1,2,3,4,5,6,7,8]])
.skip)))))))))))
(.reg [oP 144 (.bin .add (.t 83) (cI 1)),
mV 83 144] [1,3,4,8,10,11,12,13,14,24,25,81,82,83])))))))))))
(.reg [oP 145 (.bin .add (.t 25) (cI 1)),
mV 25 145] [1,3,4,8,10,11,12,24,25])))))))
(.seq (.seq (.reg [mV 146 12] [8,11,146])
(.cond (.t 146)
(.reg [oP 147 (.ixA 2 1 none (.t 11) (cI 0)),
oP 148 (.load none (.t 147)),
oP 149 (.mx [(cI 0),(.t 148)]),
mV 8 149] [8,11])
.skip))
(.seq (.dreg [mV 150 8,
oP 151 (.ixA 2 1 none (.t 11) (cI 1)),
oP 152 (.load none (.t 151)),
oP 153 (.mn [(cI 0),(.t 152)]),
mV 8 150,
mV 9 153] [8,9] [[],[],[1],[1,2],[0],[0,1,2,3,4]])
.ret)))))))
abbrev Pr:RsT:=[(8,none),(9,none)]
theorem Oy:SpF 154 Jl MQ Pr:=SpI Tryz.func71 (by kernel_rfl)
theorem Gu:ar Tryz.prog Jl = true:=by kernel_rfl
abbrev Jj:FuncId:=73
def Gl:AC:=
(.seq (.reg [oP 3 (.pbox 5 (.t 0)),
oP 6 (.mv (.c (.bool false)))] [1,2,3])
(.seq (.reg [oP 8 (.fieldAddr (some 5) 0 (.t 3)),
oP 9 (.fieldAddr none 3 (.t 8)),
oP 10 (.load none (.t 9)),
mV 11 1,
oP 12 (.ixS 5 (.t 10) (.t 11)),
oP 13 (.fieldAddr none 4 (.t 12)),
oP 14 (.load none (.t 13)),
mV 7 14] [1,2,3,7])
(.seq (.dreg [mV 15 7,
mV 16 1,
oP 17 (.bin .gtr (.t 15) (.t 16)),
mV 18 17,
gT 19 18 (.fieldAddr (some 5) 0 (.t 3)),
gT 20 18 (.fieldAddr none 3 (.t 19)),
gT 21 18 (.load none (.t 20)),
gT 22 18 (.mv (.t 1)),
gT 23 18 (.ixS 5 (.t 21) (.t 22)),
gT 24 18 (.fieldAddr none 3 (.t 23)),
gT 25 18 (.load none (.t 24)),
gT 26 18 (.fieldAddr (some 5) 0 (.t 3)),
gT 27 18 (.fieldAddr none 3 (.t 26)),
gT 28 18 (.load none (.t 27)),
gT 29 18 (.mv (.t 7)),
gT 30 18 (.ixS 5 (.t 28) (.t 29)),
gT 31 18 (.fieldAddr none 3 (.t 30)),
gT 32 18 (.load none (.t 31)),
gT 33 18 (.bin .neq (.t 25) (.t 32)),
oP 34 (.pick (.t 18) (.t 33) (.c (.bool false))),
mV 35 34,
gT 36 35 (.mv (.t 2)),
gT 37 35 (.mv (.t 1)),
gT 38 35 (.call (.f 130) [true,false] [(.t 36),(.t 37)]),
gT 39 35 (.un .not (.t 38)),
oP 40 (.pick (.t 35) (.t 39) (.c (.bool false))),
mV 41 40,
gT 42 41 (.mv (.t 2)),
gT 43 41 (.mv (.t 7)),
gT 44 41 (.call (.f 130) [true,false] [(.t 42),(.t 43)]),
gT 45 41 (.un .not (.t 44)),
oP 46 (.pick (.t 41) (.t 45) (.c (.bool false))),
mV 6 46] [6] [[],[],[0,1],[0,1,2],[0,1,2,3],[0,1,2,3,4],[0,1,2,3,4,5],[0,1,2,3],[0,1,2,3,4,5,6,7],[0,1,2,3,4,5,6,7,8],[0,1,2,3,4,5,6,7,8,9],[0,1,2,3],[0,1,2,3,11],[0,1,2,3,11,12],[0,1,2,3],[0,1,2,3,11,12,13,14],[0,1,2,3,11,12,13,14,15],[0,1,2,3,11,12,13,14,15,16],[0,1,2,3,4,5,6,7,8,9,10,11,12,13,14,15,16,17],[0,1,2,3,4,5,6,7,8,9,10,11,12,13,14,15,16,17,18],[0,1,2,3,4,5,6,7,8,9,10,11,12,13,14,15,16,17,18,19],[0,1,2,3,4,5,6,7,8,9,10,11,12,13,14,15,16,17,18,19,20],[0,1,2,3,4,5,6,7,8,9,10,11,12,13,14,15,16,17,18,19,20],[0,1,2,3,4,5,6,7,8,9,10,11,12,13,14,15,16,17,18,19,20,21,22],[0,1,2,3,4,5,6,7,8,9,10,11,12,13,14,15,16,17,18,19,20,21,22,23],[0,1,2,3,4,5,6,7,8,9,10,11,12,13,14,15,16,17,18,19,20,21,22,23,24],[0,1,2,3,4,5,6,7,8,9,10,11,12,13,14,15,16,17,18,19,20,21,22,23,24,25],[0,1,2,3,4,5,6,7,8,9,10,11,12,13,14,15,16,17,18,19,20,21,22,23,24,25,26],[0,1,2,3,4,5,6,7,8,9,10,11,12,13,14,15,16,17,18,19,20,21,22,23,24,25,26],[0,1,2,3,4,5,6,7,8,9,10,11,12,13,14,15,16,17,18,19,20,21,22,23,24,25,26,27,28],[0,1,2,3,4,5,6,7,8,9,10,11,12,13,14,15,16,17,18,19,20,21,22,23,24,25,26,27,28,29],[0,1,2,3,4,5,6,7,8,9,10,11,12,13,14,15,16,17,18,19,20,21,22,23,24,25,26,27,28,29,30],[0,1,2,3,4,5,6,7,8,9,10,11,12,13,14,15,16,17,18,19,20,21,22,23,24,25,26,27,28,29,30,31]])
.ret)))
abbrev Pt:RsT:=[(6,none)]
theorem NI:SpF 47 Jj Gl Pt:=SpI Tryz.func73 (by kernel_rfl)
theorem IN:ar Tryz.prog Jj = true:=by kernel_rfl
abbrev IK:FuncId:=78
def KL:AC:=
(.seq (.reg [⟨some 0,none, .mv (.c (.str ⟨#[]⟩))⟩] [])
(.seq (.reg [⟨some 0,none, .mv (.c (.str ⟨#[107,105,110,100,115,32,111,105,108,32,112,97,105,110,116,10,112,108,97,99,101,115,32,121,97,114,100,32,112,105,116,10,102,105,114,115,116,32,111,105,108,32,121,97,114,100,32,49,48,48,48,32,49,48,48,48,10,112,97,112,101,114,32,111,105,108,32,121,97,114,100,32,112,105,116,32,54,48,48,32,49,10,112,97,112,101,114,32,111,105,108,32,121,97,114,100,32,112,105,116,32,53,48,48,32,48,10,112,97,112,101,114,32,111,105,108,32,121,97,114,100,32,45,32,51,48,48,32,45,10,108,97,115,116,32,111,105,108,32,121,97,114,100,32,49,48,48,32,50,48,48,10]⟩))⟩] [0])
.ret))
abbrev Nz:RsT:=[(0,none)]
theorem NZ:SpF 1 IK KL Nz:=SpI Tryz.func78 (by kernel_rfl)
theorem Lj:ar Tryz.prog IK = true:=by kernel_rfl
abbrev Jt:FuncId:=79
def IG:AC:=
(.seq (.reg [oP 1 (.pbox 5 (.t 0)),
oP 2 (.alloc [.slice 1 [], .slice 1 [], .slice 4 [], .slice 5 [], .slice 4 []]),
oP 3 (.mv (cI 0))] [1,2])
(.seq (.reg [oP 7 (.load (some 5) (.t 1)),
oP 8 (.call (.f 67) [true,true] [(.t 7),(.c (.slice 1 []))]),
mV 6 8,
oP 9 (.extract (.t 6) 0),
oP 10 (.extract (.t 6) 1),
oP 4 (.alloc [.slice 1 [], .slice 1 [], .slice 4 [], .slice 5 [], .slice 4 []]),
oN (.store 5 (.t 4) (.t 9)),
mV 5 10] [2,4,5])
(.frz 4 true (.seq (.seq (.qreg [mV 11 5,
oP 12 (.bin .eql (.t 11) (cI 0)),
mV 13 12,
gT 14 13 (.load (some 5) (.t 4)),
gT 15 13 (.load (some 5) (.t 4)),
gT 16 13 (.call (.f 83) [true,false] [(.t 15),(cI (-1))]),
gT 17 13 (.call (.f 68) [true,true] [(.t 14),(.t 16)]),
gT 18 13 (.un .not (.t 17)),
oP 19 (.pick (.t 13) (.t 18) (.c (.bool false)))] [2,4,5,19] [[],[0],[0,1],[0,1,2],[0,1,2],[0,1,2,4],[0,1,2,3,4,5],[0,1,2,3,4,5,6],[0,1,2,3,4,5,6,7]] [([0,1,2,3,4],5),([],6)] [7,8])
(.cond (.t 19)
(.reg [oP 5 (.mv (cI 9))] [2,4,5])
.skip))
(.seq (.reg [oP 20 (.loadd (some 5) (.t 4)),
mV 21 5,
oN (.store 5 (.t 2) (.t 20)),
mV 3 21] [2,3])
.ret)))))
abbrev Om:RsT:=[(2,some (some 5)),(3,none)]
theorem OZ:SpF 22 Jt IG Om:=SpI Tryz.func79 (by kernel_rfl)
theorem CV:ar Tryz.prog Jt = true:=by kernel_rfl
abbrev Jc:FuncId:=80
def Mc:AC:=
(.seq (.reg [oP 1 (.pbox 5 (.t 0)),
oP 2 (.mv (.c .nilfunc))] [1])
(.seq (.reg [oP 3 (.mkfunc (.func 133) [] [(.t 1)]),
mV 2 3] [2])
.ret))
abbrev O5:RsT:=[(2,none)]
theorem Oj:SpF 4 Jc Mc O5:=SpI Tryz.func80 (by kernel_rfl)
theorem Mf:ar Tryz.prog Jc = true:=by kernel_rfl
abbrev Jf:FuncId:=83
def Kn:AC:=
(.seq (.reg [oP 2 (.pbox 5 (.t 0)),
oP 4 (.nilS 1 1)] [1,2,4])
(.seq (.seq (.reg [oP 6 (.fieldAddr (some 5) 0 (.t 2)),
oP 7 (.fieldAddr none 3 (.t 6)),
oP 8 (.load none (.t 7)),
oP 9 (.len (.t 8)),
oP 10 (.mv (cI 0))] [1,4,9,10])
(.block 0
(.loop [1,4,9,10]
(.seq (.reg [oP 11 (.bin .lss (.t 10) (.t 9))] [1,4,9,10,11])
(.seq (.cond (.t 11)
.skip
(.exit 0))
(.seq (.block 1
(.seq (.reg [mV 12 10,
mV 5 12] [1,4,5,9,10])
(.seq (.reg [mV 13 5,
mV 14 1,
oP 15 (.bin .neq (.t 13) (.t 14))] [1,4,5,9,10,15])
(.cond (.t 15)
(.reg [mV 16 4,
mV 17 5,
oP 18 (.lit 0 1 1 [(0,(.t 17))]),
oP 19 (.append 1 8 (.t 16) (.t 18)),
mV 4 19] [1,4,9,10])
.skip))))
(.reg [oP 20 (.bin .add (.t 10) (cI 1)),
mV 10 20] [1,4,9,10])))))))
(.seq (.reg [mV 21 4,
oP 4 (.mvd (.t 21))] [4])
.ret)))
abbrev Nf:RsT:=[(4,none)]
theorem OA:SpF 22 Jf Kn Nf:=SpI Tryz.func83 (by kernel_rfl)
theorem IX:ar Tryz.prog Jf = true:=by kernel_rfl
abbrev Jm:FuncId:=84
def KB:AC:=
(.seq (.reg [oP 2 (.mv (.c (.slice 1 [])))] [0])
(.seq (.reg [oP 3 (.mv (cI 0))] [0,3])
(.seq (.seq (.reg [mV 9 0,
oP 10 (.len (.t 9)),
oP 11 (.mv (cI 0))] [0,3,9,10,11])
(.block 0
(.loop [0,3,9,10,11]
(.seq (.reg [oP 12 (.bin .lss (.t 11) (.t 10))] [0,3,9,10,11,12])
(.seq (.cond (.t 12)
.skip
(.exit 0))
(.seq (.block 1
(.seq (.reg [oP 13 (.ixS 1 (.t 9) (.t 11)),
oP 14 (.load none (.t 13)),
mV 5 14] [0,3,5,9,10,11])
(.seq (.reg [mV 15 3,
mV 16 5,
oP 17 (.len (.t 16)),
oP 18 (.bin .add (.t 15) (.t 17)),
mV 3 18] [0,3,9,10,11])
(.seq (.reg [mV 19 3,
oP 20 (.bin .lss (.t 19) (cI 0))] [0,3,9,10,11,20])
(.cond (.t 20)
(.reg [⟨some 21,none, .mkiface 9 (.c (.str ⟨#[108,101,110,32,111,117,116,32,111,102,32,114,97,110,103,101]⟩))⟩,
oN (.panic (.t 21))] [0,3,9,10,11])
.skip)))))
(.reg [oP 22 (.bin .add (.t 11) (cI 1)),
mV 11 22] [0,3,9,10,11])))))))
(.seq (.reg [mV 23 3,
oP 24 (.call (.f 136) [false,false] [(.c (.nils 1)),(.t 23)]),
mV 6 24] [0,6])
(.seq (.seq (.reg [mV 25 0,
oP 26 (.len (.t 25)),
oP 27 (.mv (cI 0))] [6,25,26,27])
(.block 2
(.loop [6,25,26,27]
(.seq (.reg [oP 28 (.bin .lss (.t 27) (.t 26))] [6,25,26,27,28])
(.seq (.cond (.t 28)
.skip
(.exit 2))
(.seq (.block 3
(.seq (.reg [oP 29 (.ixS 1 (.t 25) (.t 27)),
oP 30 (.load none (.t 29)),
mV 8 30] [6,8,25,26,27])
(.reg [mV 31 6,
mV 32 8,
oP 33 (.append 1 8 (.t 31) (.t 32)),
mV 6 33] [6,25,26,27])))
(.reg [oP 34 (.bin .add (.t 27) (cI 1)),
mV 27 34] [6,25,26,27])))))))
(.seq (.reg [mV 35 6,
oP 2 (.mvd (.t 35))] [2])
.ret))))))
abbrev OG:RsT:=[(2,none)]
theorem M8:SpF 36 Jm KB OG:=SpI Tryz.func84 (by kernel_rfl)
theorem Pw:ar Tryz.prog Jm = true:=by kernel_rfl
abbrev Jx:FuncId:=85
def Kw:AC:=
(.seq (.reg [oP 1 (.pbox 5 (.t 0)),
oP 2 (.alloc [.mint 1])] [1,2])
(.scope
(.seq (.label 0)
(.seq (.seq (.reg [oP 4 (.load (some 5) (.t 1)),
oP 5 (.call (.f 80) [true] [(.t 4)])] [1,2,5])
(.block 0
(.iu (.t 5) [6] (.reg [mV 3 6] [1,2,3])
(.block 1
(.seq (.seq (.reg [oP 7 (.load none (.t 2)),
oP 8 (.len (.t 7)),
oP 9 (.bin .gtr (.t 8) (cI 0)),
mV 10 9,
gT 11 10 (.mv (.t 3)),
gT 12 10 (.len (.t 11)),
gT 13 10 (.load none (.t 2)),
gT 14 10 (.ixS 1 (.t 13) (cI 0)),
gT 15 10 (.load none (.t 14)),
gT 16 10 (.len (.t 15)),
gT 17 10 (.bin .gtr (.t 12) (.t 16)),
oP 18 (.pick (.t 10) (.t 17) (.c (.bool false)))] [1,2,3,18])
(.cond (.t 18)
(.exit 0)
.skip))
(.seq (.reg [oP 19 (.load (some 5) (.t 1)),
mV 20 3,
oP 21 (.call (.f 68) [true,true] [(.t 19),(.t 20)])] [2,3,21])
(.cond (.t 21)
(.reg [oP 22 (.load none (.t 2)),
mV 23 3,
oP 24 (.lit 0 1 1 [(0,(.t 23))]),
oP 25 (.append 1 24 (.t 22) (.t 24)),
oN (.store 1 (.t 2) (.t 25))] [])
.skip)))))))
(.seq (.reg [oP 26 (.loadd none (.t 2)),
oN (.store 1 (.t 2) (.t 26))] [2])
.ret)))))
abbrev Ou:RsT:=[(2,some none)]
theorem Pc:SpF 27 Jx Kw Ou:=SpI Tryz.func85 (by kernel_rfl)
theorem OF:ar Tryz.prog Jx = true:=by kernel_rfl
abbrev KR:FuncId:=86
theorem OK:ar Tryz.prog KR = true:=by kernel_rfl
abbrev JD:FuncId:=87
def Je:AC:=
(.seq (.reg [oP 2 (.mv (.c (.slice 1 [])))] [0])
(.seq (.seq (.reg [mV 6 0,
oP 7 (.len (.t 6)),
oP 8 (.bin .lss (.t 7) (cI 2))] [0,8])
(.cond (.t 8)
(.seq (.reg [mV 9 0,
oP 2 (.mvd (.t 9))] [2])
.ret)
.skip))
(.seq (.seq (.reg [oP 3 (.mv (cI 1))] [0,3])
(.block 0
(.loop [0,3]
(.seq (.seq (.reg [mV 10 3,
mV 11 0,
oP 12 (.len (.t 11)),
oP 13 (.bin .lss (.t 10) (.t 12))] [0,3,13])
(.cond (.t 13)
.skip
(.exit 0)))
(.seq (.block 1
(.seq (.dreg [mV 16 0,
mV 17 3,
oP 18 (.ixS 1 (.t 16) (.t 17)),
oP 19 (.load none (.t 18)),
mV 20 0,
mV 21 3,
oP 22 (.bin .sub (.t 21) (cI 1)),
oP 23 (.ixS 1 (.t 20) (.t 22)),
oP 24 (.load none (.t 23)),
oP 25 (.bin .eql (.t 19) (.t 24))] [0,3,25] [[],[],[0,1],[0,1,2],[],[],[5],[4,5,6],[4,5,6,7],[0,1,2,3,4,5,6,7,8]])
(.cond (.t 25)
(.seq (.reg [mV 26 0,
mV 27 3,
oP 28 (.sub 0 1 (.t 26) (some (.t 27)) none none),
mV 4 28] [0,3,4])
(.seq (.seq (.reg [oP 5 (.mv (cI 1))] [0,3,4,5])
(.block 2
(.loop [0,3,4,5]
(.seq (.seq (.reg [mV 29 5,
mV 30 4,
oP 31 (.len (.t 30)),
oP 32 (.bin .lss (.t 29) (.t 31))] [0,3,4,5,32])
(.cond (.t 32)
.skip
(.exit 2)))
(.seq (.block 3
(.seq (.dreg [mV 35 4,
mV 36 5,
oP 37 (.ixS 1 (.t 35) (.t 36)),
oP 38 (.load none (.t 37)),
mV 39 4,
mV 40 5,
oP 41 (.bin .sub (.t 40) (cI 1)),
oP 42 (.ixS 1 (.t 39) (.t 41)),
oP 43 (.load none (.t 42)),
oP 44 (.bin .neq (.t 38) (.t 43))] [0,3,4,5,44] [[],[],[0,1],[0,1,2],[],[],[5],[4,5,6],[4,5,6,7],[0,1,2,3,4,5,6,7,8]])
(.cond (.t 44)
(.seq (.reg [mV 45 0,
mV 46 3,
mV 47 4,
mV 48 5,
oP 49 (.ixS 1 (.t 47) (.t 48)),
oP 50 (.load none (.t 49)),
oP 51 (.ixS 1 (.t 45) (.t 46)),
oN (.store 1 (.t 51) (.t 50))] [0,3,4,5])
(.reg [mV 52 3,
oP 53 (.bin .add (.t 52) (cI 1)),
mV 3 53] [0,3,4,5]))
.skip)))
(.reg [mV 33 5,
oP 34 (.bin .add (.t 33) (cI 1)),
mV 5 34] [0,3,4,5]))))))
(.seq (.reg [mV 54 0,
mV 55 3,
oP 56 (.sub 0 1 (.t 54) (some (.t 55)) none none),
oN (.clear 1 (.int .i64 0) (.t 56))] [0,3])
(.seq (.reg [mV 57 0,
mV 58 3,
oP 59 (.sub 0 1 (.t 57) none (some (.t 58)) none),
oP 2 (.mvd (.t 59))] [2])
.ret))))
.skip)))
(.reg [mV 14 3,
oP 15 (.bin .add (.t 14) (cI 1)),
mV 3 15] [0,3]))))))
(.seq (.reg [mV 60 0,
oP 2 (.mvd (.t 60))] [2])
.ret))))
abbrev No:RsT:=[(2,none)]
theorem Nb:SpF 61 JD Je No:=SpI Tryz.func87 (by kernel_rfl)
theorem O4:ar Tryz.prog JD = true:=by kernel_rfl
abbrev Ix:FuncId:=88
def D0:AC:=
(.seq (.reg [oP 3 (.pbox 5 (.t 0)),
oP 6 (.mv (.c .nilptr)),
oP 7 (.mv (cI 0))] [1,2,3])
(.seq (.reg [oP 13 (.load (some 5) (.t 3)),
mV 14 1,
oP 15 (.call (.f 67) [true,true] [(.t 13),(.t 14)]),
mV 12 15,
oP 16 (.extract (.t 12) 0),
oP 17 (.extract (.t 12) 1),
oP 8 (.alloc [.slice 1 [], .slice 1 [], .slice 4 [], .slice 5 [], .slice 4 []]),
oN (.store 5 (.t 8) (.t 16)),
mV 9 17] [1,2,8,9])
(.frz 8 true (.seq (.seq (.reg [mV 18 9,
oP 19 (.bin .neq (.t 18) (cI 0))] [1,2,8,9,19])
(.cond (.t 19)
(.seq (.reg [mV 20 9,
oP 6 (.mv (.c .nilptr)),
mV 7 20] [6,7])
.ret)
.skip))
(.seq (.reg [mV 21 2,
oP 22 (.load (some 5) (.t 8)),
oP 23 (.call (.t 21) [true] [(.t 22)]),
mV 10 23] [1,8,10])
(.seq (.block 0
(.seq (.reg [mV 25 10,
oP 26 (.bin .lss (.t 25) (cI 0)),
mV 24 26] [1,8,10,24])
(.cond (.t 24)
(.seq (.reg [oP 6 (.mv (.c .nilptr)),
oP 7 (.mv (cI 4))] [6,7])
.ret)
(.seq (.reg [oP 28 (.load (some 5) (.t 8)),
mV 29 1,
oP 30 (.call (.f 68) [true,true] [(.t 28),(.t 29)]),
oP 31 (.un .not (.t 30)),
mV 27 31] [1,8,10,27])
(.cond (.t 27)
(.seq (.reg [oP 6 (.mv (.c .nilptr)),
oP 7 (.mv (cI 9))] [6,7])
.ret)
.skip)))))
(.seq (.reg [oP 32 (.load (some 5) (.t 8)),
mV 33 10,
mV 34 1,
oP 35 (.call (.f 122) [true,false,true] [(.t 32),(.t 33),(.t 34)]),
mV 11 35] [11])
(.seq (.reg [mV 36 11,
oP 37 (.call (.f 123) [false] [(.t 36)])] [11])
(.seq (.reg [mV 38 11,
mV 6 38,
oP 7 (.mv (cI 0))] [6,7])
.ret)))))))))
abbrev NK:RsT:=[(6,none),(7,none)]
theorem Ol:SpF 39 Ix D0 NK:=SpI Tryz.func88 (by kernel_rfl)
theorem JL:ar Tryz.prog Ix = true:=by kernel_rfl
abbrev GJ:FuncId:=89
def Jv:AC:=
(.seq (.reg [oP 2 (.pbox 5 (.t 0)),
oP 3 (.mv (cI 0))] [1,2])
(.seq (.seq (.reg [oP 4 (.fieldAddr (some 5) 0 (.t 2)),
oP 5 (.fieldAddr none 3 (.t 4)),
oP 6 (.load none (.t 5)),
oP 7 (.len (.t 6)),
oP 8 (.bin .sub (.t 7) (cI 1)),
oP 9 (.load none (.t 1)),
oP 10 (.lit 0 1 1 [(0,(.t 9))]),
oP 11 (.call (.f 53) [false,false,true] [(cI 0),(.t 8),(.t 10)])] [1,2,11])
(.cond (.t 11)
(.seq (.reg [oP 3 (.mv (cI (-1)))] [3])
.ret)
.skip))
(.seq (.reg [oP 12 (.fieldAddr (some 5) 0 (.t 2)),
oP 13 (.fieldAddr none 3 (.t 12)),
oP 14 (.load none (.t 13)),
oP 15 (.load none (.t 1)),
oP 16 (.ixS 5 (.t 14) (.t 15)),
oP 17 (.fieldAddr none 0 (.t 16)),
oP 18 (.load none (.t 17)),
mV 3 18] [3])
.ret)))
abbrev OP:RsT:=[(3,none)]
theorem Of:SpF 19 GJ Jv OP:=SpI Tryz.func89 (by kernel_rfl)
theorem OL:ar Tryz.prog GJ = true:=by kernel_rfl
abbrev Jb:FuncId:=90
def LY:AC:=
(.seq (.reg [oP 2 (.pbox 1 (.t 0)),
oP 3 (.pbox 1 (.t 1)),
oP 4 (.alloc [.int .i64 0, .int .i64 0])] [2,3,4])
(.seq (.reg [oP 9 (.mkfunc (.func 139) [] [(.t 2),(.t 3)]),
mV 5 9] [2,3,4,5])
(.seq (.dreg [oP 10 (.load none (.t 2)),
oP 11 (.nilchk (.t 10)),
oP 12 (.fieldAddr none 0 (.t 11)),
oP 13 (.load none (.t 12)),
oP 14 (.load none (.t 3)),
oP 15 (.ixS 5 (.t 13) (.t 14)),
oP 16 (.load (some 5) (.t 15)),
oP 6 (.alloc [.int .i64 0, .int .i64 0, .int .i64 0, .int .i64 0, .int .i64 0]),
oN (.store 5 (.t 6) (.t 16))] [2,3,4,5,6] [[],[0],[0,1],[0,1,2],[],[0,1,2,3,4],[0,1,2,3,4,5],[],[0,1,2,3,4,5,6,7]])
(.seq (.reg [mV 17 5,
oP 18 (.fieldAddr none 0 (.t 6)),
oP 19 (.load none (.t 18)),
oP 20 (.fieldAddr none 1 (.t 6)),
oP 21 (.load none (.t 20)),
oP 22 (.fieldAddr none 4 (.t 6)),
oP 23 (.load none (.t 22)),
oP 24 (.fieldAddr none 2 (.t 6)),
oP 25 (.load none (.t 24)),
oP 26 (.bin .sub (.t 23) (.t 25)),
oP 27 (.call (.t 17) [false,false,false] [(.t 19),(.t 21),(.t 26)]),
mV 7 27] [2,3,4,5,6,7])
(.seq (.dreg [oP 28 (.load none (.t 2)),
oP 29 (.nilchk (.t 28)),
oP 30 (.fieldAddr none 0 (.t 29)),
oP 31 (.load none (.t 30)),
oP 32 (.load none (.t 3)),
oP 33 (.ixS 5 (.t 31) (.t 32)),
oP 34 (.fieldAddr none 4 (.t 33)),
oP 35 (.load none (.t 34)),
mV 36 7,
oP 37 (.bin .sub (.t 35) (.t 36)),
oP 38 (.ixS 5 (.t 31) (.t 32)),
oP 39 (.fieldAddr none 4 (.t 38)),
oN (.store 1 (.t 39) (.t 37))] [2,3,4,5,6] [[],[0],[0,1],[0,1,2],[],[0,1,2,3,4],[0,1,2,3,4,5],[0,1,2,3,4,5,6],[],[0,1,2,3,4,5,6,7,8],[0,1,2,3,4,5,6,7,8,9],[0,1,2,3,4,5,6,7,8,9,10],[0,1,2,3,4,5,6,7,8,9,10,11]])
(.seq (.dreg [oP 40 (.load none (.t 2)),
oP 41 (.nilchk (.t 40)),
oP 42 (.fieldAddr none 0 (.t 41)),
oP 43 (.load none (.t 42)),
oP 44 (.load none (.t 3)),
oP 45 (.ixS 5 (.t 43) (.t 44)),
oP 46 (.fieldAddr none 4 (.t 45)),
oP 47 (.load none (.t 46)),
oP 48 (.fieldAddr none 0 (.t 4)),
oN (.store 1 (.t 48) (.t 47))] [2,3,4,5,6] [[],[0],[0,1],[0,1,2],[],[0,1,2,3,4],[0,1,2,3,4,5],[0,1,2,3,4,5,6],[0,1,2,3,4,5,6,7],[0,1,2,3,4,5,6,7,8]])
(.seq (.dreg [oP 49 (.load none (.t 2)),
oP 50 (.nilchk (.t 49)),
oP 51 (.fieldAddr none 0 (.t 50)),
oP 52 (.load none (.t 51)),
oP 53 (.load none (.t 3)),
oP 54 (.ixS 5 (.t 52) (.t 53)),
oP 55 (.load (some 5) (.t 54)),
oN (.store 5 (.t 6) (.t 55))] [2,3,4,5,6] [[],[0],[0,1],[0,1,2],[],[0,1,2,3,4],[0,1,2,3,4,5],[0,1,2,3,4,5,6]])
(.seq (.reg [mV 56 5,
oP 57 (.fieldAddr none 1 (.t 6)),
oP 58 (.load none (.t 57)),
oP 59 (.fieldAddr none 0 (.t 6)),
oP 60 (.load none (.t 59)),
oP 61 (.fieldAddr none 3 (.t 6)),
oP 62 (.load none (.t 61)),
oP 63 (.fieldAddr none 4 (.t 6)),
oP 64 (.load none (.t 63)),
oP 65 (.bin .sub (.t 62) (.t 64)),
oP 66 (.call (.t 56) [false,false,false] [(.t 58),(.t 60),(.t 65)]),
mV 8 66] [2,3,4,8])
(.seq (.dreg [oP 67 (.load none (.t 2)),
oP 68 (.nilchk (.t 67)),
oP 69 (.fieldAddr none 0 (.t 68)),
oP 70 (.load none (.t 69)),
oP 71 (.load none (.t 3)),
oP 72 (.ixS 5 (.t 70) (.t 71)),
oP 73 (.fieldAddr none 4 (.t 72)),
oP 74 (.load none (.t 73)),
mV 75 8,
oP 76 (.bin .add (.t 74) (.t 75)),
oP 77 (.ixS 5 (.t 70) (.t 71)),
oP 78 (.fieldAddr none 4 (.t 77)),
oN (.store 1 (.t 78) (.t 76))] [2,3,4] [[],[0],[0,1],[0,1,2],[],[0,1,2,3,4],[0,1,2,3,4,5],[0,1,2,3,4,5,6],[],[0,1,2,3,4,5,6,7,8],[0,1,2,3,4,5,6,7,8,9],[0,1,2,3,4,5,6,7,8,9,10],[0,1,2,3,4,5,6,7,8,9,10,11]])
(.seq (.dreg [oP 79 (.load none (.t 2)),
oP 80 (.nilchk (.t 79)),
oP 81 (.fieldAddr none 0 (.t 80)),
oP 82 (.load none (.t 81)),
oP 83 (.load none (.t 3)),
oP 84 (.ixS 5 (.t 82) (.t 83)),
oP 85 (.fieldAddr none 4 (.t 84)),
oP 86 (.load none (.t 85)),
oP 87 (.fieldAddr none 1 (.t 4)),
oN (.store 1 (.t 87) (.t 86))] [4] [[],[0],[0,1],[0,1,2],[],[0,1,2,3,4],[0,1,2,3,4,5],[0,1,2,3,4,5,6],[0,1,2,3,4,5,6,7],[0,1,2,3,4,5,6,7,8]])
(.seq (.reg [oP 88 (.load (some 2) (.t 4)),
oN (.store 2 (.t 4) (.t 88))] [4])
.ret)))))))))))
abbrev Nl:RsT:=[(4,some (some 2))]
theorem Pq:SpF 89 Jb LY Nl:=SpI Tryz.func90 (by kernel_rfl)
theorem Km:ar Tryz.prog Jb = true:=by kernel_rfl
abbrev G3:FuncId:=94
def Jd:AC:=
(.seq (.reg [oP 2 (.pbox 5 (.t 0)),
oP 3 (.mv (cI 0))] [1,2])
(.seq (.seq (.reg [oP 4 (.fieldAddr (some 5) 0 (.t 2)),
oP 5 (.fieldAddr none 0 (.t 4)),
oP 6 (.load none (.t 5)),
oP 7 (.len (.t 6)),
oP 8 (.bin .sub (.t 7) (cI 1)),
oP 9 (.load none (.t 1)),
oP 10 (.lit 0 1 1 [(0,(.t 9))]),
oP 11 (.call (.f 53) [false,false,true] [(cI 0),(.t 8),(.t 10)])] [1,11])
(.cond (.t 11)
(.seq (.reg [oP 3 (.mv (cI (-1)))] [3])
.ret)
.skip))
(.seq (.reg [oP 12 (.load none (.t 1)),
mV 3 12] [3])
.ret)))
abbrev NM:RsT:=[(3,none)]
theorem OC:SpF 13 G3 Jd NM:=SpI Tryz.func94 (by kernel_rfl)
theorem Pg:ar Tryz.prog G3 = true:=by kernel_rfl
abbrev IZ:FuncId:=96
def Mg:AC:=
(.seq (.reg [oP 1 (.pbox 5 (.t 0)),
⟨some 2,none, .mv (.c (.str ⟨#[]⟩))⟩] [1])
(.seq (.reg [oP 3 (.allocB)] [1,3])
(.seq (.reg [oP 10 (.mkfunc (.func 143) [] [(.t 3)]),
oP 4 (.alloc [.nilfunc]),
oN (.store 1 (.t 4) (.t 10))] [1,3,4])
(.frz 4 false (.seq (.reg [oP 11 (.mkfunc (.func 146) [] [(.t 4),(.t 1)]),
mV 5 11] [1,3,4,5])
(.seq (.reg [oP 12 (.mkfunc (.func 148) [] [(.t 1)]),
mV 6 12] [1,3,4,5,6])
(.seq (.qreg [oP 13 (.load none (.t 4)),
⟨some 14,none, .lit 1 1 1 [(0,(.c (.str ⟨#[107,105,110,100,115]⟩)))]⟩,
oP 15 (.fieldAddr (some 5) 0 (.t 1)),
oP 16 (.fieldAddr none 0 (.t 15)),
oP 17 (.load none (.t 16)),
oP 18 (.append 1 16 (.t 14) (.t 17)),
oP 19 (.call (.t 13) [true] [(.t 18)])] [1,3,4,5,6] [[],[],[],[2],[2,3],[1,2,3,4],[0,1,2,3,4,5]] [([0,2,3,4],1),([],5),([],6)] [])
(.seq (.qreg [oP 20 (.load none (.t 4)),
⟨some 21,none, .lit 1 1 1 [(0,(.c (.str ⟨#[112,108,97,99,101,115]⟩)))]⟩,
oP 22 (.fieldAddr (some 5) 0 (.t 1)),
oP 23 (.fieldAddr none 1 (.t 22)),
oP 24 (.load none (.t 23)),
oP 25 (.append 1 16 (.t 21) (.t 24)),
oP 26 (.call (.t 20) [true] [(.t 25)])] [1,3,4,5,6] [[],[],[],[2],[2,3],[1,2,3,4],[0,1,2,3,4,5]] [([0,2,3,4],1),([],5),([],6)] [])
(.seq (.reg [mV 27 5,
oP 28 (.fieldAddr (some 5) 0 (.t 1)),
oP 29 (.fieldAddr none 2 (.t 28)),
oP 30 (.load none (.t 29)),
⟨some 31,none, .call (.t 27) [false,true] [(.c (.str ⟨#[102,105,114,115,116]⟩)),(.t 30)]⟩] [1,3,4,5,6])
(.seq (.seq (.reg [oP 32 (.fieldAddr (some 5) 0 (.t 1)),
oP 33 (.fieldAddr none 3 (.t 32)),
oP 34 (.load none (.t 33)),
oP 35 (.len (.t 34)),
oP 36 (.mv (cI 0))] [1,3,4,5,6,34,35,36])
(.block 0
(.loop [1,3,4,5,6,34,35,36]
(.seq (.reg [oP 37 (.bin .lss (.t 36) (.t 35))] [1,3,4,5,6,34,35,36,37])
(.seq (.cond (.t 37)
.skip
(.exit 0))
(.seq (.block 1
(.seq (.reg [oP 38 (.ixS 5 (.t 34) (.t 36)),
oP 39 (.load (some 5) (.t 38)),
oP 8 (.alloc [.int .i64 0, .int .i64 0, .int .i64 0, .int .i64 0, .int .i64 0]),
oN (.store 5 (.t 8) (.t 39))] [1,3,4,5,6,8,34,35,36])
(.frz 8 true (.seq (.reg [⟨some 9,none, .mv (.c (.str ⟨#[45]⟩))⟩] [1,3,4,5,6,8,9,34,35,36])
(.seq (.seq (.reg [oP 40 (.fieldAddr none 4 (.t 8)),
oP 41 (.load none (.t 40)),
oP 42 (.bin .geq (.t 41) (cI 0))] [1,3,4,5,6,8,9,34,35,36,42])
(.cond (.t 42)
(.reg [oP 43 (.fieldAddr none 4 (.t 8)),
oP 44 (.load none (.t 43)),
oP 45 (.call (.f 147) [false] [(.t 44)]),
mV 9 45] [1,3,4,5,6,8,9,34,35,36])
.skip))
(.creg [oP 46 (.load none (.t 4)),
oP 47 (.fieldAddr (some 5) 0 (.t 1)),
oP 48 (.fieldAddr none 0 (.t 47)),
oP 49 (.load none (.t 48)),
oP 50 (.fieldAddr none 0 (.t 8)),
oP 51 (.load none (.t 50)),
oP 52 (.ixS 1 (.t 49) (.t 51)),
oP 53 (.load none (.t 52)),
mV 54 6,
oP 55 (.fieldAddr none 1 (.t 8)),
oP 56 (.load none (.t 55)),
oP 57 (.call (.t 54) [false] [(.t 56)]),
mV 58 6,
oP 59 (.fieldAddr none 2 (.t 8)),
oP 60 (.load none (.t 59)),
oP 61 (.call (.t 58) [false] [(.t 60)]),
oP 62 (.fieldAddr none 3 (.t 8)),
oP 63 (.load none (.t 62)),
oP 64 (.call (.f 147) [false] [(.t 63)]),
mV 65 9,
⟨some 66,none, .lit 0 1 6 [(0,(.c (.str ⟨#[112,97,112,101,114]⟩))),(1,(.t 53)),(2,(.t 57)),(3,(.t 61)),(4,(.t 64)),(5,(.t 65))]⟩,
oP 67 (.call (.t 46) [true] [(.t 66)])] [1,3,4,5,6,34,35,36] [[],[],[1],[1,2],[],[4],[1,2,3,4,5],[1,2,3,4,5,6],[],[],[9],[8,9,10],[],[],[13],[8,9,10,11,12,13,14],[],[16],[8,9,10,11,12,13,14,15,16,17],[],[1,2,3,4,5,6,7,8,9,10,11,12,13,14,15,16,17,18,19],[0,1,2,3,4,5,6,7,8,9,10,11,12,13,14,15,16,17,18,19,20]] [([0,1,2,3,4,5,6,7,8,9,10,11,12,13,14,15,16,17,18,19],20),([],21)] []))))))
(.reg [oP 68 (.bin .add (.t 36) (cI 1)),
mV 36 68] [1,3,4,5,6,34,35,36])))))))
(.seq (.reg [mV 69 5,
oP 70 (.fieldAddr (some 5) 0 (.t 1)),
oP 71 (.fieldAddr none 4 (.t 70)),
oP 72 (.load none (.t 71)),
⟨some 73,none, .call (.t 69) [false,true] [(.c (.str ⟨#[108,97,115,116]⟩)),(.t 72)]⟩] [3])
(.seq (.reg [oP 74 (.call (.f 149) [true] [(.t 3)]),
mV 2 74] [2])
.ret))))))))))))
abbrev ON:RsT:=[(2,none)]
theorem OH:SpF 75 IZ Mg ON:=SpI Tryz.func96 (by kernel_rfl)
theorem I9:ar Tryz.prog IZ = true:=by kernel_rfl
abbrev xw:FuncId:=98
def GN:AC:=
(.seq (.reg [mV 4 2,
oP 5 (.isnil true (.t 4))] [0,1,2,5])
(.cond (.t 5)
(.dreg [oP 6 (.build [.slice 1 [], .slice 1 [], .slice 4 [], .slice 5 [], .slice 4 []] []),
mV 7 2,
oP 8 (.assert 30 (.t 7)),
oN (.store 5 (.t 0) (.t 6)),
oN (.store 1 (.t 1) (.t 8))] [] [[],[],[1],[0],[0,1,2,3]])
.skip))
theorem sk:Em Tryz.prog Tryz.f98 9 3 2 GN = true:=by kernel_rfl
theorem Kq {args:List ag} {σ:af} {m:PM} {Q:PM → af → Prop} (ha:args.length ≤ 9) (h:AW Tryz.prog 9 none GN (Ap (Q m.after)) { v:=(2,m.val) :: (3, .undef) :: ep args 0,ds:=[] } σ):lg Tryz.prog xw args σ m Q:=lg.Co Tryz.func98 sk ha h
theorem L4:ar Tryz.prog xw = true:=by kernel_rfl
abbrev LF:FuncId:=99
theorem I8:ar Tryz.prog LF = true:=by kernel_rfl
abbrev Ce:FuncId:=100
def FU:AC:=
(.seq (.reg [mV 2 0,
oP 3 (.un .not (.t 2))] [3])
(.cond (.t 3)
(.reg [oP 4 (.mkiface 30 (cI 6)),
oN (.panic (.t 4))] [])
.skip))
abbrev KO:RsT:=[]
theorem H5:SpF 5 Ce FU KO:=SpI Tryz.func100 (by kernel_rfl)
theorem cY:ar Tryz.prog Ce = true:=by kernel_rfl
abbrev j5:FuncId:=101
def ja:AC:=
(.seq (.reg [oP 2 (.pbox 1 (.t 0)),
oP 3 (.pbox 1 (.t 1))] [2,3])
(.seq (.reg [oP 5 (.mkfunc (.func 155) [] [(.t 3),(.t 2)]),
mV 4 5] [2,3,4])
(.seq (.reg [oP 6 (.load none (.t 3)),
oP 7 (.ixS 1 (.t 6) (cI 0)),
oP 8 (.load none (.t 7))] [2,3,4,8])
(.block 0
(.seq (.reg [⟨some 11,none, .bin .eql (.t 8) (.c (.str ⟨#[107,105,110,100,115]⟩))⟩,
mV 10 11] [2,3,4,8,10])
(.cond (.t 10)
(.dreg [oP 12 (.load none (.t 2)),
oP 13 (.load none (.t 3)),
oP 14 (.subq 1 (.t 13) (some (cI 1)) none),
oP 15 (.nilchk (.t 12)),
oP 16 (.fieldAddr (some 5) 0 (.t 15)),
oP 17 (.fieldAddr none 0 (.t 16)),
oN (.store 1 (.t 17) (.t 14))] [] [[],[],[1],[0,1,2],[0,1,2,3],[0,1,2,3,4],[0,1,2,3,4,5]])
(.seq (.reg [⟨some 19,none, .bin .eql (.t 8) (.c (.str ⟨#[112,108,97,99,101,115]⟩))⟩,
mV 18 19] [2,3,4,8,18])
(.cond (.t 18)
(.dreg [oP 20 (.load none (.t 2)),
oP 21 (.load none (.t 3)),
oP 22 (.subq 1 (.t 21) (some (cI 1)) none),
oP 23 (.nilchk (.t 20)),
oP 24 (.fieldAddr (some 5) 0 (.t 23)),
oP 25 (.fieldAddr none 1 (.t 24)),
oN (.store 1 (.t 25) (.t 22))] [] [[],[],[1],[0,1,2],[0,1,2,3],[0,1,2,3,4],[0,1,2,3,4,5]])
(.seq (.reg [⟨some 27,none, .bin .eql (.t 8) (.c (.str ⟨#[102,105,114,115,116]⟩))⟩,
mV 26 27] [2,3,4,8,26])
(.cond (.t 26)
(.creg [oP 28 (.load none (.t 2)),
oP 29 (.load none (.t 2)),
oP 30 (.nilchk (.t 29)),
oP 31 (.fieldAddr (some 5) 0 (.t 30)),
oP 32 (.fieldAddr none 2 (.t 31)),
oP 33 (.load none (.t 32)),
mV 34 4,
oP 35 (.call (.t 34) [] []),
oP 36 (.lit 0 4 1 [(0,(.t 35))]),
oP 37 (.append 4 32 (.t 33) (.t 36)),
oP 38 (.nilchk (.t 28)),
oP 39 (.fieldAddr (some 5) 0 (.t 38)),
oP 40 (.fieldAddr none 2 (.t 39)),
oN (.store 1 (.t 40) (.t 37))] [] [[],[],[1],[1,2],[1,2,3],[1,2,3,4],[],[6],[6,7],[1,2,3,4,5,6,7,8],[0,1,2,3,4,5,6,7,8,9],[0,1,2,3,4,5,6,7,8,9,10],[0,1,2,3,4,5,6,7,8,9,10,11],[0,1,2,3,4,5,6,7,8,9,10,11,12]] [([0,1,2,3,4,5,6],7),([],8),([],9),([10,11,12],13)] [])
(.seq (.reg [⟨some 42,none, .bin .eql (.t 8) (.c (.str ⟨#[112,97,112,101,114]⟩))⟩,
mV 41 42] [2,3,4,8,41])
(.cond (.t 41)
(.seq (.reg [oP 43 (.load none (.t 3)),
oP 44 (.len (.t 43)),
oP 45 (.bin .eql (.t 44) (cI 6)),
oP 46 (.call (.f 100) [false] [(.t 45)])] [2,3])
(.creg [oP 47 (.load none (.t 2)),
oP 48 (.load none (.t 2)),
oP 49 (.nilchk (.t 48)),
oP 50 (.fieldAddr (some 5) 0 (.t 49)),
oP 51 (.fieldAddr none 3 (.t 50)),
oP 52 (.load none (.t 51)),
oP 53 (.load none (.t 2)),
oP 54 (.nilchk (.t 53)),
oP 55 (.fieldAddr (some 5) 0 (.t 54)),
oP 56 (.fieldAddr none 0 (.t 55)),
oP 57 (.load none (.t 56)),
oP 58 (.load none (.t 3)),
oP 59 (.ixS 1 (.t 58) (cI 1)),
oP 60 (.load none (.t 59)),
oP 61 (.call (.f 156) [true,false,false] [(.t 57),(.t 60),(.c (.bool false))]),
oP 62 (.load none (.t 2)),
oP 63 (.nilchk (.t 62)),
oP 64 (.fieldAddr (some 5) 0 (.t 63)),
oP 65 (.fieldAddr none 1 (.t 64)),
oP 66 (.load none (.t 65)),
oP 67 (.load none (.t 3)),
oP 68 (.ixS 1 (.t 67) (cI 2)),
oP 69 (.load none (.t 68)),
oP 70 (.call (.f 156) [true,false,false] [(.t 66),(.t 69),(.c (.bool true))]),
oP 71 (.load none (.t 2)),
oP 72 (.nilchk (.t 71)),
oP 73 (.fieldAddr (some 5) 0 (.t 72)),
oP 74 (.fieldAddr none 1 (.t 73)),
oP 75 (.load none (.t 74)),
oP 76 (.load none (.t 3)),
oP 77 (.ixS 1 (.t 76) (cI 3)),
oP 78 (.load none (.t 77)),
oP 79 (.call (.f 156) [true,false,false] [(.t 75),(.t 78),(.c (.bool true))]),
oP 80 (.load none (.t 3)),
oP 81 (.ixS 1 (.t 80) (cI 4)),
oP 82 (.load none (.t 81)),
oP 83 (.call (.f 157) [false,false] [(.t 82),(.c (.bool false))]),
oP 84 (.load none (.t 3)),
oP 85 (.ixS 1 (.t 84) (cI 5)),
oP 86 (.load none (.t 85)),
oP 87 (.call (.f 157) [false,false] [(.t 86),(.c (.bool true))]),
oP 88 (.build [.int .i64 0, .int .i64 0, .int .i64 0, .int .i64 0, .int .i64 0] [(0,1,(.t 61)),(1,1,(.t 70)),(2,1,(.t 79)),(3,1,(.t 83)),(4,1,(.t 87))]),
oP 89 (.lit 0 5 1 [(0,(.t 88))]),
oP 90 (.append 5 40 (.t 52) (.t 89)),
oP 91 (.nilchk (.t 47)),
oP 92 (.fieldAddr (some 5) 0 (.t 91)),
oP 93 (.fieldAddr none 3 (.t 92)),
oN (.store 1 (.t 93) (.t 90))] [] [[],[],[1],[1,2],[1,2,3],[1,2,3,4],[],[6],[6,7],[6,7,8],[6,7,8,9],[],[11],[11,12],[6,7,8,9,10,11,12,13],[],[15],[15,16],[15,16,17],[15,16,17,18],[],[20],[20,21],[6,7,8,9,10,11,12,13,14,15,16,17,18,19,20,21,22],[],[24],[24,25],[24,25,26],[24,25,26,27],[],[29],[29,30],[6,7,8,9,10,11,12,13,14,15,16,17,18,19,20,21,22,23,24,25,26,27,28,29,30,31],[],[33],[33,34],[6,7,8,9,10,11,12,13,14,15,16,17,18,19,20,21,22,23,24,25,26,27,28,29,30,31,32,33,34,35],[],[37],[37,38],[6,7,8,9,10,11,12,13,14,15,16,17,18,19,20,21,22,23,24,25,26,27,28,29,30,31,32,33,34,35,36,37,38,39],[6,7,8,9,10,11,12,13,14,15,16,17,18,19,20,21,22,23,24,25,26,27,28,29,30,31,32,33,34,35,36,37,38,39,40],[6,7,8,9,10,11,12,13,14,15,16,17,18,19,20,21,22,23,24,25,26,27,28,29,30,31,32,33,34,35,36,37,38,39,40,41],[1,2,3,4,5,6,7,8,9,10,11,12,13,14,15,16,17,18,19,20,21,22,23,24,25,26,27,28,29,30,31,32,33,34,35,36,37,38,39,40,41,42],[0,1,2,3,4,5,6,7,8,9,10,11,12,13,14,15,16,17,18,19,20,21,22,23,24,25,26,27,28,29,30,31,32,33,34,35,36,37,38,39,40,41,42,43],[0,1,2,3,4,5,6,7,8,9,10,11,12,13,14,15,16,17,18,19,20,21,22,23,24,25,26,27,28,29,30,31,32,33,34,35,36,37,38,39,40,41,42,43,44],[0,1,2,3,4,5,6,7,8,9,10,11,12,13,14,15,16,17,18,19,20,21,22,23,24,25,26,27,28,29,30,31,32,33,34,35,36,37,38,39,40,41,42,43,44,45],[0,1,2,3,4,5,6,7,8,9,10,11,12,13,14,15,16,17,18,19,20,21,22,23,24,25,26,27,28,29,30,31,32,33,34,35,36,37,38,39,40,41,42,43,44,45,46]] [([0,1,2,3,4,5,6,7,8,9,10,11,12,13,15,16,17,18,19,20,21,22,24,25,26,27,28,29,30,31,33,34,35,37,38,39],14),([],23),([],32),([],36),([],40),([41],42),([],43),([44,45,46],47)] []))
(.seq (.reg [⟨some 95,none, .bin .eql (.t 8) (.c (.str ⟨#[108,97,115,116]⟩))⟩,
mV 94 95] [2,4,94])
(.cond (.t 94)
(.creg [oP 96 (.load none (.t 2)),
oP 97 (.load none (.t 2)),
oP 98 (.nilchk (.t 97)),
oP 99 (.fieldAddr (some 5) 0 (.t 98)),
oP 100 (.fieldAddr none 4 (.t 99)),
oP 101 (.load none (.t 100)),
mV 102 4,
oP 103 (.call (.t 102) [] []),
oP 104 (.lit 0 4 1 [(0,(.t 103))]),
oP 105 (.append 4 32 (.t 101) (.t 104)),
oP 106 (.nilchk (.t 96)),
oP 107 (.fieldAddr (some 5) 0 (.t 106)),
oP 108 (.fieldAddr none 4 (.t 107)),
oN (.store 1 (.t 108) (.t 105))] [] [[],[],[1],[1,2],[1,2,3],[1,2,3,4],[],[6],[6,7],[1,2,3,4,5,6,7,8],[0,1,2,3,4,5,6,7,8,9],[0,1,2,3,4,5,6,7,8,9,10],[0,1,2,3,4,5,6,7,8,9,10,11],[0,1,2,3,4,5,6,7,8,9,10,11,12]] [([0,1,2,3,4,5,6],7),([],8),([],9),([10,11,12],13)] [])
(.reg [oP 9 (.call (.f 100) [false] [(.c (.bool false))])] [])))))))))))))))
abbrev KG:RsT:=[]
theorem nP:SpF 109 j5 ja KG:=SpI Tryz.func101 (by kernel_rfl)
theorem HX:ar Tryz.prog j5 = true:=by kernel_rfl
abbrev H3:FuncId:=102
theorem Ig:ar Tryz.prog H3 = true:=by kernel_rfl
abbrev BW:FuncId:=106
def Ii:AC:=
(.seq (.reg [oP 4 (.mv (.c (.bool false)))] [0,1])
(.seq (.reg [mV 7 0,
oP 8 (.len (.t 7)),
mV 9 1,
oP 10 (.len (.t 9)),
oP 11 (.bin .eql (.t 8) (.t 10)),
mV 5 11] [0,1,5])
(.seq (.seq (.reg [oP 6 (.mv (cI 0))] [0,1,5,6])
(.block 0
(.loop [0,1,5,6]
(.seq (.seq (.reg [mV 12 6,
mV 13 0,
oP 14 (.len (.t 13)),
oP 15 (.bin .lss (.t 12) (.t 14)),
mV 16 15,
gT 17 16 (.mv (.t 5)),
oP 18 (.pick (.t 16) (.t 17) (.c (.bool false)))] [0,1,5,6,18])
(.cond (.t 18)
.skip
(.exit 0)))
(.seq (.block 1
(.dreg [mV 21 0,
mV 22 6,
oP 23 (.ixS 1 (.t 21) (.t 22)),
oP 24 (.load none (.t 23)),
mV 25 1,
mV 26 6,
oP 27 (.ixS 1 (.t 25) (.t 26)),
oP 28 (.load none (.t 27)),
oP 29 (.bin .eql (.t 24) (.t 28)),
mV 5 29] [0,1,5,6] [[],[],[0,1],[0,1,2],[],[],[4,5],[4,5,6],[0,1,2,3,4,5,6,7],[0,1,2,3,4,5,6,7,8]]))
(.reg [mV 19 6,
oP 20 (.bin .add (.t 19) (cI 1)),
mV 6 20] [0,1,5,6]))))))
(.seq (.reg [mV 30 5,
mV 4 30] [4])
.ret))))
abbrev Ln:RsT:=[(4,none)]
theorem MH:SpF 31 BW Ii Ln:=SpI Tryz.func106 (by kernel_rfl)
theorem Hh:ar Tryz.prog BW = true:=by kernel_rfl
abbrev Ep:FuncId:=107
def H0:AC:=
(.seq (.reg [oP 4 (.mv (.c (.bool false)))] [0,1])
(.seq (.reg [mV 7 0,
oP 8 (.len (.t 7)),
mV 9 1,
oP 10 (.len (.t 9)),
oP 11 (.bin .eql (.t 8) (.t 10)),
mV 5 11] [0,1,5])
(.seq (.seq (.reg [oP 6 (.mv (cI 0))] [0,1,5,6])
(.block 0
(.loop [0,1,5,6]
(.seq (.seq (.reg [mV 12 6,
mV 13 0,
oP 14 (.len (.t 13)),
oP 15 (.bin .lss (.t 12) (.t 14)),
mV 16 15,
gT 17 16 (.mv (.t 5)),
oP 18 (.pick (.t 16) (.t 17) (.c (.bool false)))] [0,1,5,6,18])
(.cond (.t 18)
.skip
(.exit 0)))
(.seq (.block 1
(.dreg [mV 21 0,
mV 22 6,
oP 23 (.ixS 4 (.t 21) (.t 22)),
oP 24 (.load (some 4) (.t 23)),
mV 25 1,
mV 26 6,
oP 27 (.ixS 4 (.t 25) (.t 26)),
oP 28 (.load (some 4) (.t 27)),
oP 29 (.eqa false [.i, .i, .i, .i] (.t 24) (.t 28)),
mV 5 29] [0,1,5,6] [[],[],[0,1],[0,1,2],[],[],[4,5],[4,5,6],[0,1,2,3,4,5,6,7],[0,1,2,3,4,5,6,7,8]]))
(.reg [mV 19 6,
oP 20 (.bin .add (.t 19) (cI 1)),
mV 6 20] [0,1,5,6]))))))
(.seq (.reg [mV 30 5,
mV 4 30] [4])
.ret))))
abbrev J3:RsT:=[(4,none)]
theorem Li:SpF 31 Ep H0 J3:=SpI Tryz.func107 (by kernel_rfl)
theorem HS:ar Tryz.prog Ep = true:=by kernel_rfl
abbrev EH:FuncId:=109
def HO:AC:=
(.seq (.reg [oP 6 (.mv (.c (.bool false)))] [0,1,2])
(.seq (.reg [mV 7 1,
mV 8 0,
oP 9 (.bin .leq (.t 7) (.t 8)),
mV 10 9,
gT 11 10 (.mv (.t 0)),
gT 12 10 (.mv (.t 2)),
gT 13 10 (.bin .leq (.t 11) (.t 12)),
oP 14 (.pick (.t 10) (.t 13) (.c (.bool false))),
mV 6 14] [6])
.ret))
abbrev KU:RsT:=[(6,none)]
theorem JJ:SpF 15 EH HO KU:=SpI Tryz.func109 (by kernel_rfl)
theorem Ev:ar Tryz.prog EH = true:=by kernel_rfl
abbrev EN:FuncId:=110
def HN:AC:=
(.seq (.reg [oP 4 (.mv (.c (.bool false)))] [0,1])
(.seq (.reg [mV 5 0,
mV 6 1,
oP 7 (.call (.f 160) [true,false] [(.t 5),(.t 6)]),
oP 8 (.bin .geq (.t 7) (cI 0)),
mV 4 8] [4])
.ret))
abbrev KY:RsT:=[(4,none)]
theorem Lp:SpF 9 EN HN KY:=SpI Tryz.func110 (by kernel_rfl)
theorem K7:ar Tryz.prog EN = true:=by kernel_rfl
abbrev Eg:FuncId:=111
def Io:AC:=
(.seq (.reg [oP 4 (.mv (.c (.bool false)))] [0,1,2])
(.seq (.reg [mV 5 0,
oP 6 (.load none (.t 1)),
oP 7 (.bin .lss (.t 5) (.t 6)),
mV 8 7,
gF 9 8 (.mv (.t 0)),
gF 10 8 (.load none (.t 2)),
gF 11 8 (.bin .gtr (.t 9) (.t 10)),
oP 12 (.pick (.t 8) (.c (.bool true)) (.t 11)),
mV 4 12] [4])
.ret))
abbrev Mq:RsT:=[(4,none)]
theorem J2:SpF 13 Eg Io Mq:=SpI Tryz.func111 (by kernel_rfl)
theorem J9:ar Tryz.prog Eg = true:=by kernel_rfl
abbrev Ci:FuncId:=112
def HC:AC:=
(.seq (.reg [oP 4 (.mv (cI 0)),
oP 5 (.mv (cI 0))] [0,1])
(.seq (.seq (.reg [mV 8 0,
oP 9 (.len (.t 8)),
oP 10 (.mv (cI 0))] [1,8,9,10])
(.block 0
(.loop [1,8,9,10]
(.seq (.reg [oP 11 (.bin .lss (.t 10) (.t 9))] [1,8,9,10,11])
(.seq (.cond (.t 11)
.skip
(.exit 0))
(.seq (.block 1
(.seq (.reg [mV 12 10,
oP 13 (.ixS 1 (.t 8) (.t 10)),
oP 14 (.load none (.t 13)),
mV 6 12,
mV 7 14] [1,6,7,8,9,10])
(.seq (.reg [mV 15 1,
mV 16 6,
mV 17 7,
oP 18 (.call (.t 15) [false,false] [(.t 16),(.t 17)]),
mV 5 18] [1,5,6,8,9,10])
(.seq (.reg [mV 19 5,
oP 20 (.bin .neq (.t 19) (cI 0))] [1,5,6,8,9,10,20])
(.cond (.t 20)
(.seq (.reg [mV 21 6,
mV 22 5,
mV 4 21,
mV 5 22] [4,5])
.ret)
.skip)))))
(.reg [oP 23 (.bin .add (.t 10) (cI 1)),
mV 10 23] [1,8,9,10])))))))
(.seq (.reg [oP 4 (.mv (cI 0)),
oP 5 (.mv (cI 0))] [4,5])
.ret)))
abbrev JU:RsT:=[(4,none),(5,none)]
theorem Mo:SpF 24 Ci HC JU:=SpI Tryz.func112 (by kernel_rfl)
theorem LJ:ar Tryz.prog Ci = true:=by kernel_rfl
abbrev BX:FuncId:=113
def B2:AC:=
(.seq (.reg [oP 5 (.mv (cI 0))] [0,1,2])
(.seq (.block 0
(.seq (.reg [mV 7 1,
oP 8 (.call (.f 114) [false] [(.t 7)]),
oP 9 (.un .not (.t 8)),
mV 6 9] [0,1,2,6])
(.cond (.t 6)
(.seq (.reg [oP 5 (.mv (cI 6))] [5])
.ret)
(.seq (.reg [oP 11 (.load none (.t 2)),
mV 12 0,
oP 13 (.subq 1 (.t 11) none (some (.t 12))),
mV 14 1,
oP 15 (.call (.f 115) [true,false] [(.t 13),(.t 14)]),
mV 10 15] [10])
(.cond (.t 10)
(.seq (.reg [oP 5 (.mv (cI 5))] [5])
.ret)
.skip)))))
(.seq (.reg [oP 5 (.mv (cI 0))] [5])
.ret)))
abbrev Mv:RsT:=[(5,none)]
theorem Kc:SpF 16 BX B2 Mv:=SpI Tryz.func113 (by kernel_rfl)
theorem MJ:ar Tryz.prog BX = true:=by kernel_rfl
abbrev FD:FuncId:=114
def Ht:AC:=
(.seq (.reg [oP 2 (.mv (.c (.bool false)))] [0])
(.seq (.seq (.reg [mV 7 0,
oP 8 (.range (.t 7))] [0,8])
(.block 0
(.loop [0,8]
(.seq (.reg [oP 9 (.next (.t 8)),
oP 10 (.extract (.t 9) 0)] [0,8,9,10])
(.seq (.cond (.t 10)
.skip
(.exit 0))
(.block 1
(.seq (.reg [oP 11 (.extract (.t 9) 1),
oP 12 (.extract (.t 9) 2),
mV 3 11,
mV 4 12] [0,3,4,8])
(.seq (.reg [mV 13 4,
oP 14 (.bin .geq (.t 13) (.c (.int .i32 97))),
mV 15 14,
gT 16 15 (.mv (.t 4)),
gT 17 15 (.bin .leq (.t 16) (.c (.int .i32 122))),
oP 18 (.pick (.t 15) (.t 17) (.c (.bool false))),
mV 19 4,
oP 20 (.bin .geq (.t 19) (.c (.int .i32 48))),
mV 21 20,
gT 22 21 (.mv (.t 4)),
gT 23 21 (.bin .leq (.t 22) (.c (.int .i32 57))),
oP 24 (.pick (.t 21) (.t 23) (.c (.bool false))),
mV 5 18,
mV 6 24] [0,3,5,6,8])
(.seq (.reg [mV 25 5,
oP 26 (.un .not (.t 25)),
mV 27 26,
gT 28 27 (.mv (.t 6)),
gT 29 27 (.un .not (.t 28)),
gT 30 27 (.mv (.t 29)),
gF 31 30 (.mv (.t 3)),
gF 32 30 (.bin .eql (.t 31) (cI 0)),
gT 33 27 (.pick (.t 30) (.c (.bool true)) (.t 32)),
oP 34 (.pick (.t 27) (.t 33) (.c (.bool false)))] [0,8,34])
(.cond (.t 34)
(.seq (.reg [oP 2 (.mv (.c (.bool false)))] [2])
.ret)
.skip))))))))))
(.seq (.reg [mV 35 0,
⟨some 36,none, .bin .neq (.t 35) (.c (.str ⟨#[]⟩))⟩,
mV 37 36,
gT 38 37 (.mv (.t 0)),
gT 39 37 (.lenStr (.t 38)),
gT 40 37 (.bin .leq (.t 39) (cI 16)),
oP 41 (.pick (.t 37) (.t 40) (.c (.bool false))),
mV 2 41] [2])
.ret)))
abbrev MY:RsT:=[(2,none)]
theorem Kf:SpF 42 FD Ht MY:=SpI Tryz.func114 (by kernel_rfl)
theorem Fm:ar Tryz.prog FD = true:=by kernel_rfl
abbrev E6:FuncId:=115
def Hn:AC:=
(.seq (.reg [oP 4 (.mv (.c (.bool false)))] [0,1])
(.seq (.reg [mV 5 0,
mV 6 1,
oP 7 (.call (.f 161) [true,false] [(.t 5),(.t 6)]),
oP 8 (.bin .geq (.t 7) (cI 0)),
mV 4 8] [4])
.ret))
abbrev K0:RsT:=[(4,none)]
theorem KV:SpF 9 E6 Hn K0:=SpI Tryz.func115 (by kernel_rfl)
theorem HW:ar Tryz.prog E6 = true:=by kernel_rfl
abbrev ES:FuncId:=116
def HL:AC:=
(.seq (.reg [oP 4 (.mv (cI 0)),
oP 5 (.mv (cI 0))] [0,1])
(.seq (.seq (.reg [mV 8 0,
oP 9 (.len (.t 8)),
oP 10 (.mv (cI 0))] [1,8,9,10])
(.block 0
(.loop [1,8,9,10]
(.seq (.reg [oP 11 (.bin .lss (.t 10) (.t 9))] [1,8,9,10,11])
(.seq (.cond (.t 11)
.skip
(.exit 0))
(.seq (.block 1
(.seq (.reg [mV 12 10,
oP 13 (.ixS 4 (.t 8) (.t 10)),
oP 14 (.load (some 4) (.t 13)),
oP 7 (.alloc [.int .i64 0, .int .i64 0, .int .i64 0, .int .i64 0]),
mV 6 12,
oN (.store 4 (.t 7) (.t 14))] [1,6,7,8,9,10])
(.frz 7 true (.seq (.reg [mV 15 1,
mV 16 6,
oP 17 (.load (some 4) (.t 7)),
oP 18 (.call (.t 15) [false,false] [(.t 16),(.t 17)]),
mV 5 18] [1,5,6,8,9,10])
(.seq (.reg [mV 19 5,
oP 20 (.bin .neq (.t 19) (cI 0))] [1,5,6,8,9,10,20])
(.cond (.t 20)
(.seq (.reg [mV 21 6,
mV 22 5,
mV 4 21,
mV 5 22] [4,5])
.ret)
.skip))))))
(.reg [oP 23 (.bin .add (.t 10) (cI 1)),
mV 10 23] [1,8,9,10])))))))
(.seq (.reg [oP 4 (.mv (cI 0)),
oP 5 (.mv (cI 0))] [4,5])
.ret)))
abbrev JS:RsT:=[(4,none),(5,none)]
theorem MD:SpF 24 ES HL JS:=SpI Tryz.func116 (by kernel_rfl)
theorem Kv:ar Tryz.prog ES = true:=by kernel_rfl
abbrev BP:FuncId:=117
def px:AC:=
(.seq (.reg [oP 5 (.pbox 4 (.t 1)),
oP 6 (.mv (cI 0))] [2,3,5])
(.seq (.qreg [oP 7 (.load none (.t 2)),
oP 8 (.fieldAddr none 0 (.t 5)),
oP 9 (.load none (.t 8)),
oP 10 (.fieldAddr none 1 (.t 5)),
oP 11 (.load none (.t 10)),
oP 12 (.build [.int .i64 0, .int .i64 0] [(0,1,(.t 9)),(1,1,(.t 11))]),
oP 13 (.lookup false (.int .i64 0) (.t 7) (.t 12)),
oP 14 (.bin .add (.t 13) (cI 1)),
oP 15 (.ment (.int .i64 0) (.t 7) (.t 12)),
oP 16 (.extract (.t 15) 1),
oN (.estore (.t 7) (.t 16) (.t 14))] [2,3,5] [[],[],[1],[],[3],[1,2,3,4],[0,1,2,3,4,5],[0,1,2,3,4,5,6],[0,1,2,3,4,5],[0,1,2,3,4,5,8],[0,1,2,3,4,5,6,7,8,9]] [([0,1,2,3,4,5,6,7],8),([9],10)] [])
(.seq (.block 0
(.seq (.reg [oP 18 (.fieldAddr (some 5) 0 (.t 3)),
oP 19 (.fieldAddr none 0 (.t 18)),
oP 20 (.load none (.t 19)),
oP 21 (.len (.t 20)),
oP 22 (.bin .sub (.t 21) (cI 1)),
oP 23 (.fieldAddr none 0 (.t 5)),
oP 24 (.load none (.t 23)),
oP 25 (.lit 0 1 1 [(0,(.t 24))]),
oP 26 (.call (.f 53) [false,false,true] [(cI 0),(.t 22),(.t 25)]),
mV 27 26,
gF 28 27 (.fieldAddr (some 5) 0 (.t 3)),
gF 29 27 (.fieldAddr none 1 (.t 28)),
gF 30 27 (.load none (.t 29)),
gF 31 27 (.len (.t 30)),
gF 32 27 (.bin .sub (.t 31) (cI 1)),
gF 33 27 (.fieldAddr none 1 (.t 5)),
gF 34 27 (.load none (.t 33)),
gF 35 27 (.lit 0 1 1 [(0,(.t 34))]),
gF 36 27 (.call (.f 53) [false,false,true] [(cI 0),(.t 32),(.t 35)]),
oP 37 (.pick (.t 27) (.c (.bool true)) (.t 36)),
mV 17 37] [2,5,17])
(.cond (.t 17)
(.seq (.reg [oP 6 (.mv (cI 4))] [6])
.ret)
(.seq (.reg [oP 39 (.load none (.t 2)),
oP 40 (.fieldAddr none 0 (.t 5)),
oP 41 (.load none (.t 40)),
oP 42 (.fieldAddr none 1 (.t 5)),
oP 43 (.load none (.t 42)),
oP 44 (.build [.int .i64 0, .int .i64 0] [(0,1,(.t 41)),(1,1,(.t 43))]),
oP 45 (.mgetp false (.int .i64 0) (.t 39) (.t 44)),
oP 46 (.bin .gtr (.t 45) (cI 1)),
mV 38 46] [5,38])
(.cond (.t 38)
(.seq (.reg [oP 6 (.mv (cI 5))] [6])
.ret)
(.seq (.reg [oP 48 (.fieldAddr (some 2) 2 (.t 5)),
oP 49 (.fieldAddr none 0 (.t 48)),
oP 50 (.load none (.t 49)),
oP 51 (.fieldAddr (some 2) 2 (.t 5)),
oP 52 (.fieldAddr none 1 (.t 51)),
oP 53 (.load none (.t 52)),
oP 54 (.lit 0 1 2 [(0,(.t 50)),(1,(.t 53))]),
oP 55 (.call (.f 53) [false,false,true] [(cI 0),(cI 1000000),(.t 54)]),
mV 47 55] [5,47])
(.cond (.t 47)
(.seq (.reg [oP 6 (.mv (cI 7))] [6])
.ret)
(.seq (.reg [oP 57 (.fieldAddr (some 2) 2 (.t 5)),
oP 58 (.fieldAddr none 0 (.t 57)),
oP 59 (.load none (.t 58)),
oP 60 (.fieldAddr (some 2) 2 (.t 5)),
oP 61 (.fieldAddr none 1 (.t 60)),
oP 62 (.load none (.t 61)),
oP 63 (.bin .gtr (.t 59) (.t 62)),
mV 56 63] [56])
(.cond (.t 56)
(.seq (.reg [oP 6 (.mv (cI 2))] [6])
.ret)
.skip)))))))))
(.seq (.reg [oP 6 (.mv (cI 0))] [6])
.ret))))
abbrev MK:RsT:=[(6,none)]
theorem sh:SpF 64 BP px MK:=SpI Tryz.func117 (by kernel_rfl)
theorem Lo:ar Tryz.prog BP = true:=by kernel_rfl
abbrev ET:FuncId:=118
def H9:AC:=
(.seq (.reg [oP 4 (.mv (cI 0))] [0,1])
(.seq (.seq (.reg [mV 5 0,
oP 6 (.call (.f 52) [false] [(.t 5)]),
oP 7 (.un .not (.t 6))] [0,1,7])
(.cond (.t 7)
(.seq (.reg [oP 4 (.mv (cI 6))] [4])
.ret)
.skip))
(.seq (.seq (.reg [mV 8 1,
mV 9 0,
oP 10 (.call (.f 159) [true,false] [(.t 8),(.t 9)]),
oP 11 (.bin .geq (.t 10) (cI 0))] [11])
(.cond (.t 11)
(.seq (.reg [oP 4 (.mv (cI 5))] [4])
.ret)
.skip))
(.seq (.reg [oP 4 (.mv (cI 0))] [4])
.ret))))
abbrev MS:RsT:=[(4,none)]
theorem KA:SpF 12 ET H9 MS:=SpI Tryz.func118 (by kernel_rfl)
theorem HD:ar Tryz.prog ET = true:=by kernel_rfl
abbrev FL:FuncId:=119
def Hq:AC:=
(.seq (.reg [oP 3 (.pbox 2 (.t 0)),
oP 6 (.mv (cI 0))] [1,2,3])
(.seq (.reg [oP 7 (.load (some 2) (.t 3)),
oP 8 (.lit 0 2 1 [(0,(.t 7))]),
mV 9 1,
mV 10 2,
oP 11 (.call (.f 162) [true,false,false] [(.t 8),(.t 9),(.t 10)]),
mV 6 11] [6])
.ret))
abbrev K4:RsT:=[(6,none)]
theorem ME:SpF 12 FL Hq K4:=SpI Tryz.func119 (by kernel_rfl)
theorem HH:ar Tryz.prog FL = true:=by kernel_rfl
abbrev FC:FuncId:=120
def Hv:AC:=
(.seq (.reg [oP 4 (.mv (cI 0)),
oP 5 (.mv (cI 0))] [0,1])
(.seq (.seq (.reg [mV 8 0,
oP 9 (.len (.t 8)),
oP 10 (.mv (cI 0))] [1,8,9,10])
(.block 0
(.loop [1,8,9,10]
(.seq (.reg [oP 11 (.bin .lss (.t 10) (.t 9))] [1,8,9,10,11])
(.seq (.cond (.t 11)
.skip
(.exit 0))
(.seq (.block 1
(.seq (.reg [mV 12 10,
oP 13 (.ixS 1 (.t 8) (.t 10)),
oP 14 (.load none (.t 13)),
mV 6 12,
mV 7 14] [1,6,7,8,9,10])
(.seq (.reg [mV 15 1,
mV 16 6,
mV 17 7,
oP 18 (.call (.t 15) [false,false] [(.t 16),(.t 17)]),
mV 5 18] [1,5,6,8,9,10])
(.seq (.reg [mV 19 5,
oP 20 (.bin .neq (.t 19) (cI 0))] [1,5,6,8,9,10,20])
(.cond (.t 20)
(.seq (.reg [mV 21 6,
mV 22 5,
mV 4 21,
mV 5 22] [4,5])
.ret)
.skip)))))
(.reg [oP 23 (.bin .add (.t 10) (cI 1)),
mV 10 23] [1,8,9,10])))))))
(.seq (.reg [oP 4 (.mv (cI 0)),
oP 5 (.mv (cI 0))] [4,5])
.ret)))
abbrev JP:RsT:=[(4,none),(5,none)]
theorem K9:SpF 24 FC Hv JP:=SpI Tryz.func120 (by kernel_rfl)
theorem LI:ar Tryz.prog FC = true:=by kernel_rfl
abbrev BO:FuncId:=121
def z8:AC:=
(.seq (.reg [oP 6 (.mv (cI 0))] [0,1,2,3])
(.seq (.block 0
(.seq (.reg [oP 8 (.fieldAddr (some 5) 0 (.t 2)),
oP 9 (.fieldAddr none 3 (.t 8)),
oP 10 (.load none (.t 9)),
oP 11 (.len (.t 10)),
oP 12 (.bin .sub (.t 11) (cI 1)),
mV 13 1,
oP 14 (.lit 0 1 1 [(0,(.t 13))]),
oP 15 (.call (.f 53) [false,false,true] [(cI 0),(.t 12),(.t 14)]),
mV 7 15] [0,1,3,7])
(.cond (.t 7)
(.seq (.reg [oP 6 (.mv (cI 4))] [6])
.ret)
(.seq (.reg [mV 17 0,
oP 18 (.bin .gtr (.t 17) (cI 0)),
mV 19 18,
gT 20 19 (.mv (.t 1)),
gT 21 19 (.load none (.t 3)),
gT 22 19 (.mv (.t 0)),
gT 23 19 (.bin .sub (.t 22) (cI 1)),
gT 24 19 (.ixS 1 (.t 21) (.t 23)),
gT 25 19 (.load none (.t 24)),
gT 26 19 (.bin .leq (.t 20) (.t 25)),
oP 27 (.pick (.t 19) (.t 26) (.c (.bool false))),
mV 16 27] [16])
(.cond (.t 16)
(.seq (.reg [oP 6 (.mv (cI 2))] [6])
.ret)
.skip)))))
(.seq (.reg [oP 6 (.mv (cI 0))] [6])
.ret)))
abbrev KK:RsT:=[(6,none)]
theorem MC:SpF 28 BO z8 KK:=SpI Tryz.func121 (by kernel_rfl)
theorem J8:ar Tryz.prog BO = true:=by kernel_rfl
abbrev DH:FuncId:=122
def HG:AC:=
(.seq (.reg [oP 3 (.pbox 5 (.t 0)),
oP 6 (.mv (.c .nilptr))] [1,2,3])
(.seq (.reg [oP 19 (.fieldAddr (some 5) 0 (.t 3)),
oP 20 (.fieldAddr none 1 (.t 19)),
oP 21 (.load none (.t 20)),
oP 22 (.len (.t 21)),
oP 7 (.alloc [.int .i64 0]),
oN (.store 1 (.t 7) (.t 22))] [1,2,3,7])
(.frz 7 false (.seq (.reg [oP 23 (.load none (.t 7)),
oP 24 (.bin .add (.t 23) (cI 1)),
mV 8 24] [1,2,3,7,8])
(.seq (.reg [mV 25 8,
oP 26 (.bin .add (.t 25) (cI 1)),
oP 27 (.fieldAddr (some 5) 0 (.t 3)),
oP 28 (.fieldAddr none 3 (.t 27)),
oP 29 (.load none (.t 28)),
oP 30 (.len (.t 29)),
oP 31 (.mksl 2 1 8 (.int .i64 0) (.t 30) (.t 30)),
oP 32 (.buildm [.mint 1005, .int .i64 0, .slice 1 [], .int .i64 0] [(1,1,(.t 26)),(2,1,(.t 31))]),
oP 33 (.box 4 (.t 32)),
mV 9 33] [1,2,3,7,8,9])
(.seq (.reg [oP 34 (.mkfunc (.func 163) [] [(.t 7)]),
mV 10 34] [1,2,3,7,8,9,10])
(.seq (.seq (.reg [oP 35 (.fieldAddr (some 5) 0 (.t 3)),
oP 36 (.fieldAddr none 1 (.t 35)),
oP 37 (.load none (.t 36)),
oP 38 (.len (.t 37)),
oP 39 (.mv (cI 0))] [1,2,3,7,8,9,10,38,39])
(.block 0
(.loop [1,2,3,7,8,9,10,38,39]
(.seq (.reg [oP 40 (.bin .lss (.t 39) (.t 38))] [1,2,3,7,8,9,10,38,39,40])
(.seq (.cond (.t 40)
.skip
(.exit 0))
(.seq (.block 1
(.seq (.reg [mV 41 39,
mV 11 41] [1,2,3,7,8,9,10,11,38,39])
(.seq (.reg [oP 43 (.fieldAddr (some 5) 0 (.t 3)),
oP 44 (.fieldAddr none 2 (.t 43)),
oP 45 (.load none (.t 44)),
mV 46 1,
mV 47 11,
oP 48 (.build [.int .i64 0, .int .i64 0] [(0,1,(.t 46)),(1,1,(.t 47))]),
oP 49 (.call (.f 126) [true,false] [(.t 45),(.t 48)]),
mV 42 49,
oP 50 (.extract (.t 42) 0),
oP 51 (.extract (.t 42) 1),
oP 12 (.alloc [.int .i64 0, .int .i64 0]),
oN (.store 2 (.t 12) (.t 50)),
mV 13 51] [1,2,3,7,8,9,10,11,12,38,39])
(.frz 12 true (.seq (.reg [oP 53 (.fieldAddr (some 5) 0 (.t 3)),
oP 54 (.fieldAddr none 4 (.t 53)),
oP 55 (.load none (.t 54)),
mV 56 1,
mV 57 11,
oP 58 (.build [.int .i64 0, .int .i64 0] [(0,1,(.t 56)),(1,1,(.t 57))]),
oP 59 (.call (.f 126) [true,false] [(.t 55),(.t 58)]),
mV 52 59,
oP 60 (.extract (.t 52) 0),
oP 61 (.extract (.t 52) 1),
oP 14 (.alloc [.int .i64 0, .int .i64 0]),
oN (.store 2 (.t 14) (.t 60)),
mV 15 61] [1,2,3,7,8,9,10,11,12,14,15,38,39])
(.seq (.seq (.reg [mV 62 15,
oP 63 (.un .not (.t 62))] [1,2,3,7,8,9,10,11,12,14,38,39,63])
(.cond (.t 63)
(.reg [oP 64 (.fieldAddr none 1 (.t 14)),
oN (.store 1 (.t 64) (cI 1099511627776))] [1,2,3,7,8,9,10,11,12,14,38,39])
.skip))
(.dreg [mV 65 9,
mV 66 9,
oP 67 (.nilchk (.t 66)),
oP 68 (.fieldAddr none 0 (.t 67)),
oP 69 (.load none (.t 68)),
mV 70 8,
mV 71 11,
oP 72 (.fieldAddr none 0 (.t 12)),
oP 73 (.load none (.t 72)),
oP 74 (.fieldAddr none 1 (.t 12)),
oP 75 (.load none (.t 74)),
oP 76 (.fieldAddr none 0 (.t 12)),
oP 77 (.load none (.t 76)),
oP 78 (.build [.int .i64 0, .int .i64 0, .int .i64 0, .int .i64 0, .int .i64 0] [(0,1,(.t 70)),(1,1,(.t 71)),(2,1,(.t 73)),(3,1,(.t 75)),(4,1,(.t 77))]),
mV 79 11,
mV 80 8,
oP 81 (.fieldAddr none 0 (.t 14)),
oP 82 (.load none (.t 81)),
oP 83 (.fieldAddr none 1 (.t 14)),
oP 84 (.load none (.t 83)),
oP 85 (.fieldAddr none 0 (.t 14)),
oP 86 (.load none (.t 85)),
oP 87 (.build [.int .i64 0, .int .i64 0, .int .i64 0, .int .i64 0, .int .i64 0] [(0,1,(.t 79)),(1,1,(.t 80)),(2,1,(.t 82)),(3,1,(.t 84)),(4,1,(.t 86))]),
oP 88 (.lit 0 5 2 [(0,(.t 78)),(1,(.t 87))]),
oP 89 (.append 5 40 (.t 69) (.t 88)),
oP 90 (.nilchk (.t 65)),
oP 91 (.fieldAddr none 0 (.t 90)),
oN (.store 1 (.t 91) (.t 89))] [1,2,3,7,8,9,10,38,39] [[],[],[1],[1,2],[1,2,3],[],[],[],[7],[],[9],[],[11],[5,6,7,8,9,10,11,12],[],[],[],[16],[],[18],[],[20],[14,15,16,17,18,19,20,21],[5,6,7,8,9,10,11,12,13,14,15,16,17,18,19,20,21,22],[1,2,3,4,5,6,7,8,9,10,11,12,13,14,15,16,17,18,19,20,21,22,23],[0,1,2,3,4,5,6,7,8,9,10,11,12,13,14,15,16,17,18,19,20,21,22,23,24],[0,1,2,3,4,5,6,7,8,9,10,11,12,13,14,15,16,17,18,19,20,21,22,23,24,25],[0,1,2,3,4,5,6,7,8,9,10,11,12,13,14,15,16,17,18,19,20,21,22,23,24,25,26]])))))))
(.reg [oP 92 (.bin .add (.t 39) (cI 1)),
mV 39 92] [1,2,3,7,8,9,10,38,39])))))))
(.seq (.seq (.reg [oP 93 (.fieldAddr (some 5) 0 (.t 3)),
oP 94 (.fieldAddr none 3 (.t 93)),
oP 95 (.load none (.t 94)),
oP 96 (.len (.t 95)),
oP 97 (.mv (cI 0))] [1,2,3,7,8,9,10,95,96,97])
(.block 2
(.loop [1,2,3,7,8,9,10,95,96,97]
(.seq (.reg [oP 98 (.bin .lss (.t 97) (.t 96))] [1,2,3,7,8,9,10,95,96,97,98])
(.seq (.cond (.t 98)
.skip
(.exit 2))
(.seq (.block 3
(.seq (.reg [mV 99 97,
oP 100 (.ixS 5 (.t 95) (.t 97)),
oP 101 (.load (some 5) (.t 100)),
oP 17 (.alloc [.int .i64 0, .int .i64 0, .int .i64 0, .int .i64 0, .int .i64 0]),
mV 16 99,
oN (.store 5 (.t 17) (.t 101))] [1,2,3,7,8,9,10,16,17,95,96,97])
(.frz 17 true (.seq (.seq (.reg [oP 102 (.fieldAddr none 0 (.t 17)),
oP 103 (.load none (.t 102)),
mV 104 1,
oP 105 (.bin .neq (.t 103) (.t 104)),
mV 106 105,
gF 107 106 (.load (some 5) (.t 3)),
gF 108 106 (.mv (.t 16)),
gF 109 106 (.call (.f 127) [true,false] [(.t 107),(.t 108)]),
gF 110 106 (.un .not (.t 109)),
oP 111 (.pick (.t 106) (.c (.bool true)) (.t 110))] [1,2,3,7,8,9,10,16,17,95,96,97,111])
(.cond (.t 111)
(.exit 3)
.skip))
(.seq (.dreg [mV 112 9,
oP 113 (.nilchk (.t 112)),
oP 114 (.fieldAddr none 2 (.t 113)),
oP 115 (.load none (.t 114)),
mV 116 16,
mV 117 9,
oP 118 (.nilchk (.t 117)),
oP 119 (.fieldAddr none 0 (.t 118)),
oP 120 (.load none (.t 119)),
oP 121 (.len (.t 120)),
oP 122 (.ixS 1 (.t 115) (.t 116)),
oN (.store 1 (.t 122) (.t 121))] [1,2,3,7,8,9,10,16,17,95,96,97] [[],[0],[0,1],[0,1,2],[],[],[5],[5,6],[5,6,7],[5,6,7,8],[0,1,2,3,4,5,6,7,8,9],[0,1,2,3,4,5,6,7,8,9,10]])
(.seq (.seq (.reg [oP 123 (.fieldAddr none 4 (.t 17)),
oP 124 (.load none (.t 123)),
oP 125 (.bin .geq (.t 124) (cI 0))] [1,2,3,7,8,9,10,16,17,95,96,97,125])
(.cond (.t 125)
(.dreg [mV 126 9,
oP 127 (.nilchk (.t 126)),
oP 128 (.fieldAddr none 2 (.t 127)),
oP 129 (.load none (.t 128)),
oP 130 (.fieldAddr none 4 (.t 17)),
oP 131 (.load none (.t 130)),
mV 132 9,
oP 133 (.nilchk (.t 132)),
oP 134 (.fieldAddr none 0 (.t 133)),
oP 135 (.load none (.t 134)),
oP 136 (.len (.t 135)),
oP 137 (.ixS 1 (.t 129) (.t 131)),
oN (.store 1 (.t 137) (.t 136))] [1,2,3,7,8,9,10,16,17,95,96,97] [[],[0],[0,1],[0,1,2],[],[4],[],[6],[6,7],[6,7,8],[6,7,8,9],[0,1,2,3,4,5,6,7,8,9,10],[0,1,2,3,4,5,6,7,8,9,10,11]])
.skip))
(.seq (.reg [oP 138 (.load (some 5) (.t 3)),
mV 139 16,
mV 140 2,
oP 141 (.call (.f 128) [true,false,true] [(.t 138),(.t 139),(.t 140)]),
oP 18 (.alloc [.int .i64 0, .int .i64 0]),
oN (.store 2 (.t 18) (.t 141))] [1,2,3,7,8,9,10,17,18,95,96,97])
(.frz 18 true (.dreg [mV 142 9,
mV 143 9,
oP 144 (.nilchk (.t 143)),
oP 145 (.fieldAddr none 0 (.t 144)),
oP 146 (.load none (.t 145)),
mV 147 10,
oP 148 (.fieldAddr none 1 (.t 17)),
oP 149 (.load none (.t 148)),
oP 150 (.call (.t 147) [false] [(.t 149)]),
mV 151 10,
oP 152 (.fieldAddr none 2 (.t 17)),
oP 153 (.load none (.t 152)),
oP 154 (.call (.t 151) [false] [(.t 153)]),
oP 155 (.fieldAddr none 0 (.t 18)),
oP 156 (.load none (.t 155)),
oP 157 (.fieldAddr none 1 (.t 18)),
oP 158 (.load none (.t 157)),
oP 159 (.fieldAddr none 0 (.t 18)),
oP 160 (.load none (.t 159)),
oP 161 (.build [.int .i64 0, .int .i64 0, .int .i64 0, .int .i64 0, .int .i64 0] [(0,1,(.t 150)),(1,1,(.t 154)),(2,1,(.t 156)),(3,1,(.t 158)),(4,1,(.t 160))]),
oP 162 (.lit 0 5 1 [(0,(.t 161))]),
oP 163 (.append 5 40 (.t 146) (.t 162)),
oP 164 (.nilchk (.t 142)),
oP 165 (.fieldAddr none 0 (.t 164)),
oN (.store 1 (.t 165) (.t 163))] [1,2,3,7,8,9,10,95,96,97] [[],[],[1],[1,2],[1,2,3],[],[],[6],[5,6,7],[],[],[10],[5,6,7,8,9,10,11],[],[13],[],[15],[],[17],[5,6,7,8,9,10,11,12,13,14,15,16,17,18],[5,6,7,8,9,10,11,12,13,14,15,16,17,18,19],[1,2,3,4,5,6,7,8,9,10,11,12,13,14,15,16,17,18,19,20],[0,1,2,3,4,5,6,7,8,9,10,11,12,13,14,15,16,17,18,19,20,21],[0,1,2,3,4,5,6,7,8,9,10,11,12,13,14,15,16,17,18,19,20,21,22],[0,1,2,3,4,5,6,7,8,9,10,11,12,13,14,15,16,17,18,19,20,21,22,23]])))))))))
(.reg [oP 166 (.bin .add (.t 97) (cI 1)),
mV 97 166] [1,2,3,7,8,9,10,95,96,97])))))))
(.seq (.reg [mV 167 9,
mV 168 9,
oP 169 (.nilchk (.t 168)),
oP 170 (.fieldAddr none 0 (.t 169)),
oP 171 (.load none (.t 170)),
oP 172 (.len (.t 171)),
oP 173 (.nilchk (.t 167)),
oP 174 (.fieldAddr none 3 (.t 173)),
oN (.store 1 (.t 174) (.t 172))] [7,8,9])
(.seq (.dreg [mV 175 9,
mV 176 9,
oP 177 (.nilchk (.t 176)),
oP 178 (.fieldAddr none 0 (.t 177)),
oP 179 (.load none (.t 178)),
oP 180 (.load none (.t 7)),
mV 181 8,
oP 182 (.build [.int .i64 0, .int .i64 0, .int .i64 0, .int .i64 0, .int .i64 0] [(0,1,(.t 180)),(1,1,(.t 181)),(2,1,(cI (-1099511627776))),(3,1,(cI 1099511627776)),(4,1,(cI 0))]),
oP 183 (.lit 0 5 1 [(0,(.t 182))]),
oP 184 (.append 5 40 (.t 179) (.t 183)),
oP 185 (.nilchk (.t 175)),
oP 186 (.fieldAddr none 0 (.t 185)),
oN (.store 1 (.t 186) (.t 184))] [9] [[],[],[1],[1,2],[1,2,3],[],[],[5,6],[5,6,7],[1,2,3,4,5,6,7,8],[0,1,2,3,4,5,6,7,8,9],[0,1,2,3,4,5,6,7,8,9,10],[0,1,2,3,4,5,6,7,8,9,10,11]])
(.seq (.reg [mV 187 9,
mV 6 187] [6])
.ret)))))))))))
abbrev KW:RsT:=[(6,none)]
theorem JR:SpF 188 DH HG KW:=SpI Tryz.func122 (by kernel_rfl)
theorem HM:ar Tryz.prog DH = true:=by kernel_rfl
abbrev FE:FuncId:=123
def Il:AC:=
(.seq (.reg [oP 2 (.mv (.c (.bool false)))] [0])
(.seq (.reg [mV 9 0,
oP 10 (.nilchk (.t 9)),
oP 11 (.fieldAddr none 1 (.t 10)),
oP 12 (.load none (.t 11)),
oP 13 (.mksl 2 1 8 (.int .i64 0) (.t 12) (.t 12)),
oP 3 (.alloc [.slice 1 []]),
oN (.store 1 (.t 3) (.t 13))] [0,3])
(.frz 3 false (.seq (.seq (.reg [mV 14 0,
oP 15 (.nilchk (.t 14)),
oP 16 (.fieldAddr none 0 (.t 15)),
oP 17 (.load none (.t 16)),
oP 18 (.len (.t 17)),
oP 19 (.mv (cI 0))] [0,3,17,18,19])
(.block 0
(.loop [0,3,17,18,19]
(.seq (.reg [oP 20 (.bin .lss (.t 19) (.t 18))] [0,3,17,18,19,20])
(.seq (.cond (.t 20)
.skip
(.exit 0))
(.seq (.block 1
(.seq (.reg [oP 21 (.ixS 5 (.t 17) (.t 19)),
oP 22 (.load (some 5) (.t 21)),
oP 5 (.alloc [.int .i64 0, .int .i64 0, .int .i64 0, .int .i64 0, .int .i64 0]),
oN (.store 5 (.t 5) (.t 22))] [0,3,5,17,18,19])
(.frz 5 true (.seq (.dreg [oP 23 (.load none (.t 3)),
oP 24 (.fieldAddr none 0 (.t 5)),
oP 25 (.load none (.t 24)),
oP 26 (.ixS 1 (.t 23) (.t 25)),
oP 27 (.load none (.t 26)),
oP 28 (.fieldAddr none 4 (.t 5)),
oP 29 (.load none (.t 28)),
oP 30 (.bin .sub (.t 27) (.t 29)),
oP 31 (.ixS 1 (.t 23) (.t 25)),
oN (.store 1 (.t 31) (.t 30))] [0,3,5,17,18,19] [[],[],[1],[0,1,2],[0,1,2,3],[],[5],[0,1,2,3,4,5,6],[0,1,2,3,4,5,6,7],[0,1,2,3,4,5,6,7,8]])
(.dreg [oP 32 (.load none (.t 3)),
oP 33 (.fieldAddr none 1 (.t 5)),
oP 34 (.load none (.t 33)),
oP 35 (.ixS 1 (.t 32) (.t 34)),
oP 36 (.load none (.t 35)),
oP 37 (.fieldAddr none 4 (.t 5)),
oP 38 (.load none (.t 37)),
oP 39 (.bin .add (.t 36) (.t 38)),
oP 40 (.ixS 1 (.t 32) (.t 34)),
oN (.store 1 (.t 40) (.t 39))] [0,3,17,18,19] [[],[],[1],[0,1,2],[0,1,2,3],[],[5],[0,1,2,3,4,5,6],[0,1,2,3,4,5,6,7],[0,1,2,3,4,5,6,7,8]])))))
(.reg [oP 41 (.bin .add (.t 19) (cI 1)),
mV 19 41] [0,3,17,18,19])))))))
(.seq (.seq (.reg [oP 42 (.load none (.t 3)),
oP 43 (.len (.t 42)),
oP 44 (.mv (cI 0))] [0,3,43,44])
(.block 2
(.loop [0,3,43,44]
(.seq (.reg [oP 45 (.bin .lss (.t 44) (.t 43))] [0,3,43,44,45])
(.seq (.cond (.t 45)
.skip
(.exit 2))
(.seq (.block 3
(.seq (.reg [mV 46 44,
mV 6 46] [0,3,6,43,44])
(.block 4
(.loop [0,3,6,43,44]
(.seq (.seq (.reg [oP 47 (.load none (.t 3)),
mV 48 6,
oP 49 (.ixS 1 (.t 47) (.t 48)),
oP 50 (.load none (.t 49)),
oP 51 (.bin .gtr (.t 50) (cI 0))] [0,3,6,43,44,51])
(.cond (.t 51)
.skip
(.exit 4)))
(.block 5
(.seq (.reg [mV 53 0,
mV 54 6,
oP 55 (.load none (.t 3)),
mV 56 6,
oP 57 (.ixS 1 (.t 55) (.t 56)),
oP 58 (.load none (.t 57)),
oP 59 (.mkfunc (.func 164) [] [(.t 3)]),
oP 60 (.call (.f 140) [false,false,false,false,false] [(.t 53),(.t 54),(.t 58),(cI (-1)),(.t 59)]),
mV 52 60,
oP 61 (.extract (.t 52) 0),
oP 62 (.extract (.t 52) 1),
mV 7 61,
mV 8 62] [0,3,6,7,8,43,44])
(.seq (.seq (.reg [mV 63 7,
oP 64 (.bin .eql (.t 63) (cI 0))] [0,3,6,7,8,43,44,64])
(.cond (.t 64)
(.seq (.reg [oP 2 (.mv (.c (.bool false)))] [2])
.ret)
.skip))
(.seq (.reg [oP 65 (.load none (.t 3)),
mV 66 6,
oP 67 (.ixS 1 (.t 65) (.t 66)),
oP 68 (.load none (.t 67)),
mV 69 7,
oP 70 (.bin .sub (.t 68) (.t 69)),
oP 71 (.ixS 1 (.t 65) (.t 66)),
oN (.store 1 (.t 71) (.t 70))] [0,3,6,7,8,43,44])
(.reg [oP 72 (.load none (.t 3)),
mV 73 8,
oP 74 (.ixS 1 (.t 72) (.t 73)),
oP 75 (.load none (.t 74)),
mV 76 7,
oP 77 (.bin .add (.t 75) (.t 76)),
oP 78 (.ixS 1 (.t 72) (.t 73)),
oN (.store 1 (.t 78) (.t 77))] [0,3,6,43,44]))))))))))
(.reg [oP 79 (.bin .add (.t 44) (cI 1)),
mV 44 79] [0,3,43,44])))))))
(.seq (.reg [oP 2 (.mv (.c (.bool true)))] [2])
.ret))))))
abbrev Lq:RsT:=[(2,none)]
theorem Ly:SpF 80 FE Il Lq:=SpI Tryz.func123 (by kernel_rfl)
theorem Hs:ar Tryz.prog FE = true:=by kernel_rfl
abbrev vw:FuncId:=124
def FV:AC:=
(.seq (.reg [oP 3 (.mv (.c (.bool false)))] [0,1])
(.seq (.reg [mV 4 0,
oP 5 (.bin .geq (.t 4) (cI 0)),
mV 6 5,
gT 7 6 (.load none (.t 1)),
gT 8 6 (.mv (.t 0)),
gT 9 6 (.bin .shr (.t 7) (.t 8)),
gT 10 6 (.bin .and (.t 9) (cI 1)),
gT 11 6 (.bin .eql (.t 10) (cI 1)),
oP 12 (.pick (.t 6) (.t 11) (.c (.bool false))),
mV 3 12] [3])
.ret))
abbrev K2:RsT:=[(3,none)]
theorem Ko:SpF 13 vw FV K2:=SpI Tryz.func124 (by kernel_rfl)
theorem kp:ar Tryz.prog vw = true:=by kernel_rfl
abbrev EO:FuncId:=125
def H4:AC:=
(.seq (.reg [oP 0 (.alloc [.nilfunc, .nilfunc, .nilfunc, .nilfunc])] [0])
(.seq (.reg [oP 1 (.mv (.f 165)),
oP 2 (.mv (.f 166))] [0,1,2])
(.seq (.reg [mV 3 1,
mV 4 2,
oP 5 (.build [.nilfunc, .nilfunc] [(0,1,(.t 3)),(1,1,(.t 4))]),
mV 6 2,
mV 7 1,
oP 8 (.build [.nilfunc, .nilfunc] [(0,1,(.t 6)),(1,1,(.t 7))]),
oP 9 (.build [.nilfunc, .nilfunc, .nilfunc, .nilfunc] [(0,2,(.t 5)),(2,2,(.t 8))]),
oN (.store 4 (.t 0) (.t 9))] [0])
.ret)))
abbrev JO:RsT:=[(0,some (some 4))]
theorem LP:SpF 10 EO H4 JO:=SpI Tryz.func125 (by kernel_rfl)
theorem Ma:ar Tryz.prog EO = true:=by kernel_rfl
abbrev EE:FuncId:=126
def EB:AC:=
(.seq (.reg [oP 3 (.pbox 2 (.t 1)),
oP 4 (.alloc [.int .i64 0, .int .i64 0]),
oP 5 (.mv (.c (.bool false)))] [0,3,4])
(.seq (.reg [mV 7 0,
oP 8 (.mkfunc (.func 168) [] [(.t 3)]),
oP 9 (.call (.f 167) [true,false] [(.t 7),(.t 8)]),
mV 6 9] [0,4,6])
(.seq (.seq (.reg [mV 10 6,
oP 11 (.bin .lss (.t 10) (cI 0))] [0,4,6,11])
(.cond (.t 11)
(.seq (.reg [oP 12 (.build [.int .i64 0, .int .i64 0] []),
oN (.store 2 (.t 4) (.t 12)),
oP 5 (.mv (.c (.bool false)))] [4,5])
.ret)
.skip))
(.seq (.reg [mV 13 0,
mV 14 6,
oP 15 (.ixS 4 (.t 13) (.t 14)),
oP 16 (.fieldAddr (some 2) 2 (.t 15)),
oP 17 (.load (some 2) (.t 16)),
oN (.store 2 (.t 4) (.t 17)),
oP 5 (.mv (.c (.bool true)))] [4,5])
.ret))))
abbrev P1:RsT:=[(4,some (some 2)),(5,none)]
theorem Mm:SpF 18 EE EB P1:=SpI Tryz.func126 (by kernel_rfl)
theorem wU:ar Tryz.prog EE = true:=by kernel_rfl
abbrev Ei:FuncId:=127
def HJ:AC:=
(.seq (.reg [oP 2 (.pbox 5 (.t 0)),
oP 4 (.mv (.c (.bool false)))] [1,2])
(.seq (.reg [oP 5 (.fieldAddr (some 5) 0 (.t 2)),
oP 6 (.fieldAddr none 3 (.t 5)),
oP 7 (.load none (.t 6)),
mV 8 1,
oP 9 (.ixS 5 (.t 7) (.t 8)),
oP 10 (.fieldAddr none 4 (.t 9)),
oP 11 (.load none (.t 10)),
oP 12 (.bin .lss (.t 11) (cI 0)),
mV 13 12,
gF 14 13 (.mv (.t 1)),
gF 15 13 (.fieldAddr (some 5) 0 (.t 2)),
gF 16 13 (.fieldAddr none 3 (.t 15)),
gF 17 13 (.load none (.t 16)),
gF 18 13 (.mv (.t 1)),
gF 19 13 (.ixS 5 (.t 17) (.t 18)),
gF 20 13 (.fieldAddr none 4 (.t 19)),
gF 21 13 (.load none (.t 20)),
gF 22 13 (.bin .lss (.t 14) (.t 21)),
oP 23 (.pick (.t 13) (.c (.bool true)) (.t 22)),
mV 4 23] [4])
.ret))
abbrev LV:RsT:=[(4,none)]
theorem LB:SpF 24 Ei HJ LV:=SpI Tryz.func127 (by kernel_rfl)
theorem sg:ar Tryz.prog Ei = true:=by kernel_rfl
end Go.AM
