/- MADE BY PROGRAM (gen.py): the abstract code of functions of this seat, each checked against the given code by the kernel. -/
import Derived.Test.YtmjfcbpgnmajpaaGreatDoorChecked
import Derived.Test.YtmjfcbpgnmajpaaGreatDoorP13
namespace Go.AM
open Go.Proofs
@[simp] abbrev mV (d s : Nat) : aJ := ⟨some d,none, .mv (.t s)⟩
@[simp] abbrev oP (d : Nat) (i : AI) : aJ := ⟨some d,none,i⟩
@[simp] abbrev oN (i : AI) : aJ := ⟨none,none,i⟩
@[simp] abbrev gT (d g : Nat) (i : AI) : aJ := ⟨some d,some (g,true),i⟩
@[simp] abbrev gF (d g : Nat) (i : AI) : aJ := ⟨some d,some (g,false),i⟩
abbrev RsT := List (Nat × Option (Option Nat))
abbrev SpF (n : Nat) (F : FuncId) (C : AC) (Rs : RsT) : Prop := ∀ {args : List ab} {σ : af} {R : dF → af → Prop},args.length ≤ n → AW Tryz.prog n none C (wJ Rs R) { v := cZ args 0,ds := [] } σ → Spec Tryz.prog F args σ R
theorem SpI {n : Nat} {F : FuncId} {fn : Func} {C : AC} {Rs : RsT} (hf : Tryz.prog.funcs[F]? = some fn) (hk : w6 Tryz.prog fn n C Rs = true) : SpF n F C Rs := fun ha h => Spec.yf hf hk ha h
@[simp] abbrev cI (n : Int) : aI := .c (.int .i64 n)
abbrev F_4 : FuncId := 4
def C_4 : AC :=
(.seq (.reg [oP 2 (.pbox 11 (.t 0)),
oP 4 (.mv (.c (.bool false)))] [1,2])
(.seq (.reg [oP 10 (.load (some 11) (.t 2)),
oP 11 (.call (.f 24) [true] [(.t 10)]),
mV 9 11,
oP 12 (.extract (.t 9) 0),
oP 13 (.extract (.t 9) 1),
mV 5 12,
mV 6 13] [1,2,5,6])
(.seq (.reg [oP 15 (.load (some 11) (.t 2)),
oP 16 (.call (.f 25) [true] [(.t 15)]),
mV 14 16,
oP 17 (.extract (.t 14) 0),
oP 18 (.extract (.t 14) 1),
mV 7 17,
mV 8 18] [1,2,5,6,7,8])
(.seq (.seq (.reg [mV 19 5,
mV 20 7,
oP 21 (.call (.f 20) [true,true] [(.t 19),(.t 20)]),
oP 22 (.un .not (.t 21)),
mV 23 22,
gF 24 23 (.mv (.t 6)),
gF 25 23 (.mv (.t 8)),
gF 26 23 (.bin .neq (.t 24) (.t 25)),
oP 27 (.pick (.t 23) (.c (.bool true)) (.t 26))] [1,2,27])
(.cond (.t 27)
(.seq (.reg [oP 4 (.mv (.c (.bool false)))] [4])
.ret)
.skip))
(.seq (.reg [oP 29 (.load (some 11) (.t 2)),
oP 30 (.call (.f 26) [true] [(.t 29)]),
mV 28 30,
oP 31 (.extract (.t 28) 0),
oP 32 (.extract (.t 28) 1),
mV 5 31,
mV 6 32] [1,2,5,6])
(.seq (.reg [oP 34 (.load (some 11) (.t 2)),
oP 35 (.call (.f 27) [true] [(.t 34)]),
mV 33 35,
oP 36 (.extract (.t 33) 0),
oP 37 (.extract (.t 33) 1),
mV 7 36,
mV 8 37] [1,2,5,6,7,8])
(.seq (.seq (.reg [mV 38 5,
mV 39 7,
oP 40 (.call (.f 20) [true,true] [(.t 38),(.t 39)]),
oP 41 (.un .not (.t 40)),
mV 42 41,
gF 43 42 (.mv (.t 6)),
gF 44 42 (.mv (.t 8)),
gF 45 42 (.bin .neq (.t 43) (.t 44)),
oP 46 (.pick (.t 42) (.c (.bool true)) (.t 45))] [1,2,46])
(.cond (.t 46)
(.seq (.reg [oP 4 (.mv (.c (.bool false)))] [4])
.ret)
.skip))
(.seq (.reg [oP 48 (.load (some 11) (.t 2)),
mV 49 1,
oP 50 (.call (.f 28) [true,false] [(.t 48),(.t 49)]),
mV 47 50,
oP 51 (.extract (.t 47) 0),
oP 52 (.extract (.t 47) 1),
mV 5 51,
mV 6 52] [1,2,5,6])
(.seq (.reg [oP 54 (.load (some 11) (.t 2)),
mV 55 1,
oP 56 (.call (.f 29) [true,false] [(.t 54),(.t 55)]),
mV 53 56,
oP 57 (.extract (.t 53) 0),
oP 58 (.extract (.t 53) 1),
mV 7 57,
mV 8 58] [5,6,7,8])
(.seq (.reg [mV 59 5,
mV 60 7,
oP 61 (.call (.f 20) [true,true] [(.t 59),(.t 60)]),
mV 62 61,
gT 63 62 (.mv (.t 6)),
gT 64 62 (.mv (.t 8)),
gT 65 62 (.bin .eql (.t 63) (.t 64)),
oP 66 (.pick (.t 62) (.t 65) (.c (.bool false))),
mV 67 66,
gT 68 67 (.call (.f 23) [] []),
oP 69 (.pick (.t 67) (.t 68) (.c (.bool false))),
mV 4 69] [4])
.ret))))))))))
abbrev R_4 : RsT := [(4,none)]
theorem K_4 : w6 Tryz.prog Tryz.f4 70 C_4 R_4 = true := by kernel_rfl
theorem S_4 : SpF 70 F_4 C_4 R_4 := fun ha h => Spec.yf Tryz.func4 K_4 ha h
abbrev F_7 : FuncId := 7
def C_7 : AC :=
(.seq (.reg [oP 2 (.pbox 11 (.t 0)),
oP 3 (.pbox 4 (.t 1)),
oP 4 (.mv (.c (.bool false)))] [2,3])
(.seq (.reg [oP 11 (.load (some 11) (.t 2)),
oP 12 (.call (.f 24) [true] [(.t 11)]),
mV 10 12,
oP 13 (.extract (.t 10) 0),
oP 14 (.extract (.t 10) 1),
mV 5 13,
mV 6 14] [2,3,5,6])
(.seq (.seq (.reg [oP 15 (.load (some 11) (.t 2)),
oP 16 (.call (.f 35) [true] [(.t 15)]),
oP 17 (.un .not (.t 16))] [2,3,5,6,17])
(.cond (.t 17)
(.seq (.reg [mV 18 6,
oP 19 (.bin .neq (.t 18) (cI 0)),
mV 20 19,
gT 21 20 (.mv (.t 5)),
gT 22 20 (.len (.t 21)),
gT 23 20 (.bin .eql (.t 22) (cI 0)),
oP 24 (.pick (.t 20) (.t 23) (.c (.bool false))),
mV 25 24,
gT 26 25 (.call (.f 23) [] []),
oP 27 (.pick (.t 25) (.t 26) (.c (.bool false))),
mV 4 27] [4])
.ret)
.skip))
(.seq (.seq (.reg [mV 28 6,
oP 29 (.bin .neq (.t 28) (cI 0))] [2,3,5,6,29])
(.cond (.t 29)
(.seq (.reg [mV 30 6,
oP 31 (.bin .eql (.t 30) (cI 9)),
mV 32 31,
gT 33 32 (.mv (.t 5)),
gT 34 32 (.len (.t 33)),
gT 35 32 (.bin .eql (.t 34) (cI 0)),
oP 36 (.pick (.t 32) (.t 35) (.c (.bool false))),
mV 37 36,
gT 38 37 (.call (.f 23) [] []),
oP 39 (.pick (.t 37) (.t 38) (.c (.bool false))),
mV 4 39] [4])
.ret)
.skip))
(.seq (.seq (.reg [mV 40 5,
oP 41 (.len (.t 40)),
oP 42 (.fieldAddr (some 1) 0 (.t 2)),
oP 43 (.fieldAddr none 0 (.t 42)),
oP 44 (.load none (.t 43)),
oP 45 (.len (.t 44)),
oP 46 (.bin .neq (.t 41) (.t 45))] [2,3,5,46])
(.cond (.t 46)
(.seq (.reg [oP 4 (.mv (.c (.bool false)))] [4])
.ret)
.skip))
(.seq (.dreg [oP 47 (.fieldAddr (some 3) 1 (.t 2)),
oP 48 (.load (some 3) (.t 47)),
oP 49 (.fieldAddr none 3 (.t 3)),
oP 50 (.load none (.t 49)),
oP 51 (.call (.f 36) [true,true] [(.t 48),(.t 50)]),
oP 52 (.fieldAddr (some 2) 4 (.t 2)),
oP 53 (.fieldAddr none 0 (.t 52)),
oP 54 (.load none (.t 53)),
oP 55 (.fieldAddr none 2 (.t 3)),
oP 56 (.load none (.t 55)),
oP 57 (.conv .i64 (.t 56)),
oP 58 (.fieldAddr (some 2) 4 (.t 2)),
oP 59 (.fieldAddr none 1 (.t 58)),
oP 60 (.load none (.t 59)),
oP 61 (.fieldAddr (some 2) 4 (.t 2)),
oP 62 (.fieldAddr none 0 (.t 61)),
oP 63 (.load none (.t 62)),
oP 64 (.bin .sub (.t 60) (.t 63)),
oP 65 (.bin .add (.t 64) (cI 1)),
oP 66 (.bin .rem (.t 57) (.t 65)),
oP 67 (.bin .add (.t 54) (.t 66)),
oP 7 (.alloc [.slice 1 [], .slice 1 []]),
oN (.store 2 (.t 7) (.t 51)),
mV 8 67] [2,5,7,8] [[],[0],[],[2],[0,1,2,3],[],[5],[5,6],[],[8],[8,9],[],[11],[11,12],[],[14],[14,15],[11,12,13,14,15,16],[11,12,13,14,15,16,17],[8,9,10,11,12,13,14,15,16,17,18],[5,6,7,8,9,10,11,12,13,14,15,16,17,18,19],[],[0,1,2,3,4,21],[0,1,2,3,4,5,6,7,8,9,10,11,12,13,14,15,16,17,18,19,20,21,22]])
(.seq (.seq (.reg [oP 9 (.mv (cI 0))] [2,5,7,8,9])
(.block 0
(.loop [2,5,7,8,9]
(.seq (.seq (.reg [mV 68 9,
mV 69 5,
oP 70 (.len (.t 69)),
oP 71 (.bin .lss (.t 68) (.t 70))] [2,5,7,8,9,71])
(.cond (.t 71)
.skip
(.exit 0)))
(.seq (.block 1
(.seq (.dreg [mV 74 5,
mV 75 9,
oP 76 (.ixS 1 (.t 74) (.t 75)),
oP 77 (.load none (.t 76)),
oP 78 (.bin .lss (.t 77) (cI 0)),
mV 79 78,
gF 80 79 (.mv (.t 5)),
gF 81 79 (.mv (.t 9)),
gF 82 79 (.ixS 1 (.t 80) (.t 81)),
gF 83 79 (.load none (.t 82)),
gF 84 79 (.mv (.t 5)),
gF 85 79 (.len (.t 84)),
gF 86 79 (.bin .geq (.t 83) (.t 85)),
oP 87 (.pick (.t 79) (.c (.bool true)) (.t 86)),
mV 88 87,
gF 89 88 (.mv (.t 5)),
gF 90 88 (.mv (.t 9)),
gF 91 88 (.subq 1 (.t 89) none (some (.t 90))),
gF 92 88 (.mv (.t 5)),
gF 93 88 (.mv (.t 9)),
gF 94 88 (.ixS 1 (.t 92) (.t 93)),
gF 95 88 (.load none (.t 94)),
gF 96 88 (.call (.f 37) [true,false] [(.t 91),(.t 95)]),
oP 97 (.pick (.t 88) (.c (.bool true)) (.t 96)),
mV 98 97,
gF 99 98 (.load (some 11) (.t 2)),
gF 100 98 (.mv (.t 5)),
gF 101 98 (.mv (.t 9)),
gF 102 98 (.bin .add (.t 101) (cI 1)),
gF 103 98 (.subq 1 (.t 100) none (some (.t 102))),
gF 104 98 (.load (some 2) (.t 7)),
gF 105 98 (.mv (.t 8)),
gF 106 98 (.call (.f 38) [true,true,true,false] [(.t 99),(.t 103),(.t 104),(.t 105)]),
gF 107 98 (.un .not (.t 106)),
oP 108 (.pick (.t 98) (.c (.bool true)) (.t 107))] [2,5,7,8,9,108] [[],[],[0,1],[0,1,2],[0,1,2,3],[0,1,2,3,4],[0,1,2,3,4,5],[0,1,2,3,4,5],[0,1,2,3,4,5,6,7],[0,1,2,3,4,5,6,7,8],[0,1,2,3,4,5],[0,1,2,3,4,5,10],[0,1,2,3,4,5,6,7,8,9,10,11],[0,1,2,3,4,5,6,7,8,9,10,11,12],[0,1,2,3,4,5,6,7,8,9,10,11,12,13],[0,1,2,3,4,5,6,7,8,9,10,11,12,13,14],[0,1,2,3,4,5,6,7,8,9,10,11,12,13,14],[0,1,2,3,4,5,6,7,8,9,10,11,12,13,14,15,16],[0,1,2,3,4,5,6,7,8,9,10,11,12,13,14],[0,1,2,3,4,5,6,7,8,9,10,11,12,13,14],[0,1,2,3,4,5,6,7,8,9,10,11,12,13,14,18,19],[0,1,2,3,4,5,6,7,8,9,10,11,12,13,14,18,19,20],[0,1,2,3,4,5,6,7,8,9,10,11,12,13,14,15,16,17,18,19,20,21],[0,1,2,3,4,5,6,7,8,9,10,11,12,13,14,15,16,17,18,19,20,21,22],[0,1,2,3,4,5,6,7,8,9,10,11,12,13,14,15,16,17,18,19,20,21,22,23],[0,1,2,3,4,5,6,7,8,9,10,11,12,13,14,15,16,17,18,19,20,21,22,23,24],[0,1,2,3,4,5,6,7,8,9,10,11,12,13,14,15,16,17,18,19,20,21,22,23,24],[0,1,2,3,4,5,6,7,8,9,10,11,12,13,14,15,16,17,18,19,20,21,22,23,24],[0,1,2,3,4,5,6,7,8,9,10,11,12,13,14,15,16,17,18,19,20,21,22,23,24,27],[0,1,2,3,4,5,6,7,8,9,10,11,12,13,14,15,16,17,18,19,20,21,22,23,24,26,27,28],[0,1,2,3,4,5,6,7,8,9,10,11,12,13,14,15,16,17,18,19,20,21,22,23,24],[0,1,2,3,4,5,6,7,8,9,10,11,12,13,14,15,16,17,18,19,20,21,22,23,24],[0,1,2,3,4,5,6,7,8,9,10,11,12,13,14,15,16,17,18,19,20,21,22,23,24,25,26,27,28,29,30,31],[0,1,2,3,4,5,6,7,8,9,10,11,12,13,14,15,16,17,18,19,20,21,22,23,24,25,26,27,28,29,30,31,32],[0,1,2,3,4,5,6,7,8,9,10,11,12,13,14,15,16,17,18,19,20,21,22,23,24,25,26,27,28,29,30,31,32,33]])
(.cond (.t 108)
(.seq (.reg [oP 4 (.mv (.c (.bool false)))] [4])
.ret)
.skip)))
(.reg [mV 72 9,
oP 73 (.bin .add (.t 72) (cI 1)),
mV 9 73] [2,5,7,8,9]))))))
(.seq (.reg [oP 109 (.call (.f 23) [] []),
mV 4 109] [4])
.ret))))))))
abbrev R_7 : RsT := [(4,none)]
theorem K_7 : w6 Tryz.prog Tryz.f7 110 C_7 R_7 = true := by kernel_rfl
theorem S_7 : SpF 110 F_7 C_7 R_7 := fun ha h => Spec.yf Tryz.func7 K_7 ha h
abbrev F_9 : FuncId := 9
def C_9 : AC :=
(.seq (.reg [oP 3 (.pbox 11 (.t 0)),
oP 5 (.pbox 2 (.t 2)),
oP 6 (.mv (.c (.bool false)))] [1,3,5])
(.seq (.seq (.reg [oP 23 (.load (some 11) (.t 3)),
oP 24 (.call (.f 35) [true] [(.t 23)]),
oP 25 (.un .not (.t 24))] [1,3,5,25])
(.cond (.t 25)
(.seq (.reg [oP 27 (.load (some 11) (.t 3)),
oP 28 (.call (.f 21) [true,true] [(.t 27),(.c (.slice 1 []))]),
mV 26 28,
oP 29 (.extract (.t 26) 0),
oP 30 (.extract (.t 26) 1),
mV 7 29,
mV 8 30] [8])
(.seq (.reg [mV 31 8,
oP 32 (.bin .neq (.t 31) (cI 0)),
mV 33 32,
gT 34 33 (.call (.f 23) [] []),
oP 35 (.pick (.t 33) (.t 34) (.c (.bool false))),
mV 6 35] [6])
.ret))
.skip))
(.seq (.dreg [oP 36 (.load (some 11) (.t 3)),
mV 37 1,
oP 38 (.ixA 2 1 none (.t 5) (cI 0)),
oP 39 (.load none (.t 38)),
oP 40 (.conv .i64 (.t 39)),
oP 41 (.fieldAddr (some 1) 0 (.t 3)),
oP 42 (.fieldAddr none 0 (.t 41)),
oP 43 (.load none (.t 42)),
oP 44 (.len (.t 43)),
oP 45 (.bin .add (.t 44) (cI 1)),
oP 46 (.bin .rem (.t 40) (.t 45)),
oP 47 (.call (.f 39) [true,true,false] [(.t 36),(.t 37),(.t 46)]),
mV 9 47] [1,3,5,9] [[],[],[],[2],[2,3],[],[5],[5,6],[5,6,7],[5,6,7,8],[2,3,4,5,6,7,8,9],[0,1,2,3,4,5,6,7,8,9,10],[0,1,2,3,4,5,6,7,8,9,10,11]])
(.seq (.reg [oP 49 (.load (some 11) (.t 3)),
mV 50 9,
oP 51 (.call (.f 18) [true,true] [(.t 49),(.t 50)]),
mV 48 51,
oP 52 (.extract (.t 48) 0),
oP 53 (.extract (.t 48) 1),
mV 10 52,
mV 11 53] [1,3,5,9,10,11])
(.seq (.reg [oP 55 (.load (some 11) (.t 3)),
mV 56 9,
oP 57 (.call (.f 21) [true,true] [(.t 55),(.t 56)]),
mV 54 57,
oP 58 (.extract (.t 54) 0),
oP 59 (.extract (.t 54) 1),
mV 12 58,
mV 13 59] [1,3,5,9,10,11,12,13])
(.seq (.seq (.reg [mV 60 11,
oP 61 (.bin .neq (.t 60) (cI 0)),
mV 62 61,
gF 63 62 (.mv (.t 13)),
gF 64 62 (.bin .neq (.t 63) (cI 0)),
oP 65 (.pick (.t 62) (.c (.bool true)) (.t 64)),
mV 66 65,
gF 67 66 (.mv (.t 12)),
gF 68 66 (.len (.t 67)),
gF 69 66 (.mv (.t 10)),
gF 70 66 (.len (.t 69)),
gF 71 66 (.bin .gtr (.t 68) (.t 70)),
oP 72 (.pick (.t 66) (.c (.bool true)) (.t 71))] [1,3,5,9,10,12,72])
(.cond (.t 72)
(.seq (.reg [oP 6 (.mv (.c (.bool false)))] [6])
.ret)
.skip))
(.seq (.seq (.reg [mV 73 10,
oP 74 (.len (.t 73)),
oP 75 (.bin .eql (.t 74) (cI 0))] [1,3,5,9,10,12,75])
(.cond (.t 75)
(.seq (.reg [oP 76 (.call (.f 23) [] []),
mV 6 76] [6])
.ret)
.skip))
(.seq (.reg [mV 77 10,
oP 78 (.ixA 2 1 none (.t 5) (cI 1)),
oP 79 (.load none (.t 78)),
oP 80 (.conv .i64 (.t 79)),
mV 81 10,
oP 82 (.len (.t 81)),
oP 83 (.bin .rem (.t 80) (.t 82)),
oP 84 (.ixS 1 (.t 77) (.t 83)),
oP 85 (.load none (.t 84)),
mV 14 85] [1,3,9,12,14])
(.seq (.seq (.reg [mV 86 14,
oP 87 (.bin .lss (.t 86) (cI 0)),
mV 88 87,
gF 89 88 (.mv (.t 14)),
gF 90 88 (.fieldAddr (some 1) 0 (.t 3)),
gF 91 88 (.fieldAddr none 0 (.t 90)),
gF 92 88 (.load none (.t 91)),
gF 93 88 (.len (.t 92)),
gF 94 88 (.bin .geq (.t 89) (.t 93)),
oP 95 (.pick (.t 88) (.c (.bool true)) (.t 94)),
mV 96 95,
gF 97 96 (.mv (.t 9)),
gF 98 96 (.mv (.t 14)),
gF 99 96 (.call (.f 37) [true,false] [(.t 97),(.t 98)]),
oP 100 (.pick (.t 96) (.c (.bool true)) (.t 99))] [1,3,9,12,14,100])
(.cond (.t 100)
(.seq (.reg [oP 6 (.mv (.c (.bool false)))] [6])
.ret)
.skip))
(.seq (.reg [oP 101 (.lit 1 1 0 []),
mV 102 9,
oP 103 (.append 1 8 (.t 101) (.t 102)),
mV 104 14,
oP 105 (.lit 0 1 1 [(0,(.t 104))]),
oP 106 (.append 1 8 (.t 103) (.t 105)),
mV 15 106] [1,3,12,14,15])
(.seq (.reg [mV 107 12,
mV 108 14,
oP 109 (.call (.f 37) [true,false] [(.t 107),(.t 108)]),
mV 16 109] [1,3,15,16])
(.seq (.block 0
(.loop [1,3,15,16]
(.seq (.seq (.reg [mV 110 15,
oP 111 (.len (.t 110)),
oP 112 (.fieldAddr (some 1) 0 (.t 3)),
oP 113 (.fieldAddr none 0 (.t 112)),
oP 114 (.load none (.t 113)),
oP 115 (.len (.t 114)),
oP 116 (.bin .lss (.t 111) (.t 115))] [1,3,15,16,116])
(.cond (.t 116)
.skip
(.exit 0)))
(.block 1
(.seq (.reg [oP 118 (.load (some 11) (.t 3)),
mV 119 15,
oP 120 (.call (.f 21) [true,true] [(.t 118),(.t 119)]),
mV 117 120,
oP 121 (.extract (.t 117) 0),
oP 122 (.extract (.t 117) 1),
mV 17 121,
mV 18 122] [1,3,15,16,17,18])
(.seq (.seq (.reg [mV 123 18,
oP 124 (.bin .neq (.t 123) (cI 0)),
mV 125 124,
gF 126 125 (.mv (.t 16)),
gF 127 125 (.mv (.t 17)),
gF 128 125 (.len (.t 127)),
gF 129 125 (.bin .gtr (.t 128) (cI 0)),
gF 130 125 (.eqb true (.t 126) (.t 129)),
oP 131 (.pick (.t 125) (.c (.bool true)) (.t 130))] [1,3,15,16,17,131])
(.cond (.t 131)
(.seq (.reg [oP 6 (.mv (.c (.bool false)))] [6])
.ret)
.skip))
(.seq (.seq (.reg [mV 132 16,
oP 133 (.un .not (.t 132))] [1,3,15,16,17,133])
(.cond (.t 133)
(.seq (.reg [oP 135 (.load (some 11) (.t 3)),
mV 136 15,
oP 137 (.call (.f 18) [true,true] [(.t 135),(.t 136)]),
mV 134 137,
oP 138 (.extract (.t 134) 0),
oP 139 (.extract (.t 134) 1),
mV 17 138,
mV 18 139] [1,3,15,16,17,18])
(.seq (.reg [mV 140 18,
oP 141 (.bin .neq (.t 140) (cI 0)),
mV 142 141,
gF 143 142 (.mv (.t 17)),
gF 144 142 (.len (.t 143)),
gF 145 142 (.bin .eql (.t 144) (cI 0)),
oP 146 (.pick (.t 142) (.c (.bool true)) (.t 145))] [1,3,15,16,17,18,146])
(.cond (.t 146)
(.seq (.reg [mV 147 18,
oP 148 (.bin .eql (.t 147) (cI 0)),
mV 149 148,
gT 150 149 (.call (.f 23) [] []),
oP 151 (.pick (.t 149) (.t 150) (.c (.bool false))),
mV 6 151] [6])
.ret)
.skip)))
.skip))
(.seq (.reg [mV 152 17,
mV 153 1,
mV 154 15,
oP 155 (.len (.t 154)),
oP 156 (.call (.f 40) [true,false] [(.t 153),(.t 155)]),
mV 157 17,
oP 158 (.len (.t 157)),
oP 159 (.bin .rem (.t 156) (.t 158)),
oP 160 (.ixS 1 (.t 152) (.t 159)),
oP 161 (.load none (.t 160)),
mV 19 161] [1,3,15,16,19])
(.seq (.seq (.reg [mV 162 19,
oP 163 (.bin .lss (.t 162) (cI 0)),
mV 164 163,
gF 165 164 (.mv (.t 19)),
gF 166 164 (.fieldAddr (some 1) 0 (.t 3)),
gF 167 164 (.fieldAddr none 0 (.t 166)),
gF 168 164 (.load none (.t 167)),
gF 169 164 (.len (.t 168)),
gF 170 164 (.bin .geq (.t 165) (.t 169)),
oP 171 (.pick (.t 164) (.c (.bool true)) (.t 170)),
mV 172 171,
gF 173 172 (.mv (.t 15)),
gF 174 172 (.mv (.t 19)),
gF 175 172 (.call (.f 37) [true,false] [(.t 173),(.t 174)]),
oP 176 (.pick (.t 172) (.c (.bool true)) (.t 175))] [1,3,15,16,19,176])
(.cond (.t 176)
(.seq (.reg [oP 6 (.mv (.c (.bool false)))] [6])
.ret)
.skip))
(.reg [mV 177 15,
mV 178 19,
oP 179 (.lit 0 1 1 [(0,(.t 178))]),
oP 180 (.append 1 8 (.t 177) (.t 179)),
mV 15 180] [1,3,15,16]))))))))))
(.seq (.reg [oP 182 (.load (some 11) (.t 3)),
mV 183 15,
oP 184 (.call (.f 16) [true,true] [(.t 182),(.t 183)]),
mV 181 184,
oP 185 (.extract (.t 181) 0),
oP 186 (.extract (.t 181) 1),
oP 187 (.extract (.t 181) 2),
mV 20 185,
mV 21 186,
mV 22 187] [16,20,22])
(.seq (.reg [mV 188 22,
oP 189 (.bin .eql (.t 188) (cI 0)),
mV 190 189,
gT 191 190 (.mv (.t 16)),
oP 192 (.pick (.t 190) (.t 191) (.c (.bool false))),
mV 193 192,
gT 194 193 (.mv (.t 20)),
gT 195 193 (.bin .eql (.t 194) (cI (-1))),
oP 196 (.pick (.t 193) (.t 195) (.c (.bool false))),
mV 197 196,
gT 198 197 (.call (.f 23) [] []),
oP 199 (.pick (.t 197) (.t 198) (.c (.bool false))),
mV 6 199] [6])
.ret))))))))))))))
abbrev R_9 : RsT := [(6,none)]
theorem S_9 : SpF 200 F_9 C_9 R_9 := SpI Tryz.func9 (by kernel_rfl)
abbrev Jt : FuncId := 10
def HH : AC :=
(.seq (.reg [oP 2 (.pbox 11 (.t 0)),
oP 4 (.mv (.c (.bool false)))] [1,2])
(.seq (.reg [oP 13 (.load (some 11) (.t 2)),
oP 14 (.call (.f 26) [true] [(.t 13)]),
mV 12 14,
oP 15 (.extract (.t 12) 0),
oP 16 (.extract (.t 12) 1),
mV 5 15,
mV 6 16] [1,2,5,6])
(.seq (.seq (.reg [oP 17 (.load (some 11) (.t 2)),
oP 18 (.call (.f 35) [true] [(.t 17)]),
oP 19 (.un .not (.t 18))] [1,2,5,6,19])
(.cond (.t 19)
(.seq (.reg [mV 20 6,
oP 21 (.bin .neq (.t 20) (cI 0)),
mV 22 21,
gT 23 22 (.mv (.t 5)),
gT 24 22 (.len (.t 23)),
gT 25 22 (.bin .eql (.t 24) (cI 0)),
oP 26 (.pick (.t 22) (.t 25) (.c (.bool false))),
mV 27 26,
gT 28 27 (.call (.f 23) [] []),
oP 29 (.pick (.t 27) (.t 28) (.c (.bool false))),
mV 4 29] [4])
.ret)
.skip))
(.seq (.reg [oP 31 (.load (some 11) (.t 2)),
mV 32 5,
oP 33 (.call (.f 16) [true,true] [(.t 31),(.t 32)]),
mV 30 33,
oP 34 (.extract (.t 30) 0),
oP 35 (.extract (.t 30) 1),
oP 36 (.extract (.t 30) 2),
mV 7 34,
mV 8 35,
mV 9 36] [1,2,5,6,7,9])
(.seq (.reg [oP 38 (.load (some 11) (.t 2)),
oP 39 (.call (.f 24) [true] [(.t 38)]),
mV 37 39,
oP 40 (.extract (.t 37) 0),
oP 41 (.extract (.t 37) 1),
mV 10 40,
mV 11 41] [1,2,5,6,7,9,10,11])
(.seq (.reg [mV 42 6,
oP 43 (.bin .eql (.t 42) (cI 0)),
mV 44 43,
gT 45 44 (.mv (.t 9)),
gT 46 44 (.bin .eql (.t 45) (cI 0)),
oP 47 (.pick (.t 44) (.t 46) (.c (.bool false))),
mV 48 47,
gT 49 48 (.mv (.t 7)),
gT 50 48 (.bin .eql (.t 49) (cI (-1))),
oP 51 (.pick (.t 48) (.t 50) (.c (.bool false))),
mV 52 51,
gT 53 52 (.load (some 11) (.t 2)),
gT 54 52 (.mv (.t 1)),
gT 55 52 (.call (.f 39) [true,true,false] [(.t 53),(.t 54),(cI 7)]),
gT 56 52 (.len (.t 55)),
gT 57 52 (.mv (.t 5)),
gT 58 52 (.len (.t 57)),
gT 59 52 (.bin .leq (.t 56) (.t 58)),
oP 60 (.pick (.t 52) (.t 59) (.c (.bool false))),
mV 61 60,
gT 62 61 (.mv (.t 11)),
gT 63 61 (.bin .eql (.t 62) (cI 0)),
gT 64 61 (.mv (.t 63)),
gT 65 64 (.mv (.t 5)),
gT 66 64 (.mv (.t 10)),
gT 67 64 (.call (.f 20) [true,true] [(.t 65),(.t 66)]),
gT 68 61 (.pick (.t 64) (.t 67) (.c (.bool false))),
gT 69 61 (.mv (.t 68)),
gF 70 69 (.mv (.t 11)),
gF 71 69 (.bin .eql (.t 70) (cI 9)),
gF 72 69 (.mv (.t 71)),
gT 73 72 (.mv (.t 5)),
gT 74 72 (.len (.t 73)),
gT 75 72 (.fieldAddr (some 1) 0 (.t 2)),
gT 76 72 (.fieldAddr none 0 (.t 75)),
gT 77 72 (.load none (.t 76)),
gT 78 72 (.len (.t 77)),
gT 79 72 (.bin .lss (.t 74) (.t 78)),
gF 80 69 (.pick (.t 72) (.t 79) (.c (.bool false))),
gT 81 61 (.pick (.t 69) (.c (.bool true)) (.t 80)),
oP 82 (.pick (.t 61) (.t 81) (.c (.bool false))),
mV 83 82,
gT 84 83 (.call (.f 23) [] []),
oP 85 (.pick (.t 83) (.t 84) (.c (.bool false))),
mV 4 85] [4])
.ret))))))
abbrev Sy : RsT := [(4,none)]
theorem ND : SpF 86 Jt HH Sy := SpI Tryz.func10 (by kernel_rfl)
abbrev Nb : FuncId := 11
def Kl : AC :=
(.seq (.reg [oP 3 (.pbox 11 (.t 0)),
oP 6 (.mv (.c (.bool false)))] [1,2,3])
(.seq (.seq (.reg [oP 17 (.load (some 11) (.t 3)),
oP 18 (.call (.f 35) [true] [(.t 17)]),
oP 19 (.un .not (.t 18))] [1,2,3,19])
(.cond (.t 19)
(.seq (.reg [oP 21 (.load (some 11) (.t 3)),
mV 22 2,
oP 23 (.conv .i64 (.t 22)),
oP 24 (.call (.f 28) [true,false] [(.t 21),(.t 23)]),
mV 20 24,
oP 25 (.extract (.t 20) 0),
oP 26 (.extract (.t 20) 1),
mV 7 25,
mV 8 26] [8])
(.seq (.reg [mV 27 8,
oP 28 (.bin .neq (.t 27) (cI 0)),
mV 29 28,
gT 30 29 (.call (.f 23) [] []),
oP 31 (.pick (.t 29) (.t 30) (.c (.bool false))),
mV 6 31] [6])
.ret))
.skip))
(.seq (.reg [mV 32 2,
oP 33 (.conv .i64 (.t 32)),
oP 34 (.fieldAddr (some 1) 0 (.t 3)),
oP 35 (.fieldAddr none 0 (.t 34)),
oP 36 (.load none (.t 35)),
oP 37 (.len (.t 36)),
oP 38 (.bin .rem (.t 33) (.t 37)),
mV 9 38] [1,3,9])
(.seq (.reg [oP 40 (.load (some 11) (.t 3)),
mV 41 9,
oP 42 (.call (.f 28) [true,false] [(.t 40),(.t 41)]),
mV 39 42,
oP 43 (.extract (.t 39) 0),
oP 44 (.extract (.t 39) 1),
mV 10 43,
mV 11 44] [1,3,9,10,11])
(.seq (.reg [oP 45 (.load (some 11) (.t 3)),
mV 46 1,
oP 47 (.call (.f 39) [true,true,false] [(.t 45),(.t 46),(cI 7)]),
mV 12 47] [3,9,10,11,12])
(.seq (.seq (.reg [oP 13 (.mv (cI 0))] [3,9,10,11,12,13])
(.block 0
(.loop [3,9,10,11,12,13]
(.seq (.seq (.reg [mV 48 13,
mV 49 12,
oP 50 (.len (.t 49)),
oP 51 (.bin .lss (.t 48) (.t 50))] [3,9,10,11,12,13,51])
(.cond (.t 51)
.skip
(.exit 0)))
(.seq (.block 1
(.seq (.reg [mV 54 12,
mV 55 13,
oP 56 (.ixS 1 (.t 54) (.t 55)),
oP 57 (.load none (.t 56)),
mV 58 9,
oP 59 (.bin .eql (.t 57) (.t 58)),
mV 60 59,
gT 61 60 (.mv (.t 11)),
gT 62 60 (.bin .neq (.t 61) (cI 0)),
gT 63 60 (.mv (.t 62)),
gF 64 63 (.mv (.t 10)),
gF 65 63 (.len (.t 64)),
gF 66 63 (.mv (.t 13)),
gF 67 63 (.bin .add (.t 66) (cI 1)),
gF 68 63 (.bin .gtr (.t 65) (.t 67)),
gT 69 60 (.pick (.t 63) (.c (.bool true)) (.t 68)),
oP 70 (.pick (.t 60) (.t 69) (.c (.bool false)))] [3,9,10,11,12,13,70])
(.cond (.t 70)
(.seq (.reg [oP 6 (.mv (.c (.bool false)))] [6])
.ret)
.skip)))
(.reg [mV 52 13,
oP 53 (.bin .add (.t 52) (cI 1)),
mV 13 53] [3,9,10,11,12,13]))))))
(.seq (.seq (.reg [mV 71 11,
oP 72 (.bin .neq (.t 71) (cI 0))] [3,9,10,11,72])
(.cond (.t 72)
(.seq (.reg [mV 73 11,
oP 74 (.bin .eql (.t 73) (cI 9)),
mV 75 74,
gT 76 75 (.mv (.t 10)),
gT 77 75 (.len (.t 76)),
gT 78 75 (.bin .eql (.t 77) (cI 0)),
oP 79 (.pick (.t 75) (.t 78) (.c (.bool false))),
mV 80 79,
gT 81 80 (.call (.f 23) [] []),
oP 82 (.pick (.t 80) (.t 81) (.c (.bool false))),
mV 6 82] [6])
.ret)
.skip))
(.seq (.reg [oP 84 (.load (some 11) (.t 3)),
mV 85 10,
oP 86 (.call (.f 16) [true,true] [(.t 84),(.t 85)]),
mV 83 86,
oP 87 (.extract (.t 83) 0),
oP 88 (.extract (.t 83) 1),
oP 89 (.extract (.t 83) 2),
mV 14 87,
mV 15 88,
mV 16 89] [9,10,14,16])
(.seq (.reg [mV 90 10,
oP 91 (.len (.t 90)),
oP 92 (.bin .gtr (.t 91) (cI 0)),
mV 93 92,
gT 94 93 (.mv (.t 10)),
gT 95 93 (.mv (.t 10)),
gT 96 93 (.len (.t 95)),
gT 97 93 (.bin .sub (.t 96) (cI 1)),
gT 98 93 (.ixS 1 (.t 94) (.t 97)),
gT 99 93 (.load none (.t 98)),
gT 100 93 (.mv (.t 9)),
gT 101 93 (.bin .eql (.t 99) (.t 100)),
oP 102 (.pick (.t 93) (.t 101) (.c (.bool false))),
mV 103 102,
gT 104 103 (.mv (.t 14)),
gT 105 103 (.bin .eql (.t 104) (cI (-1))),
oP 106 (.pick (.t 103) (.t 105) (.c (.bool false))),
mV 107 106,
gT 108 107 (.mv (.t 16)),
gT 109 107 (.bin .eql (.t 108) (cI 0)),
oP 110 (.pick (.t 107) (.t 109) (.c (.bool false))),
mV 111 110,
gT 112 111 (.call (.f 23) [] []),
oP 113 (.pick (.t 111) (.t 112) (.c (.bool false))),
mV 6 113] [6])
.ret)))))))))
abbrev RX : RsT := [(6,none)]
theorem Sr : SpF 114 Nb Kl RX := SpI Tryz.func11 (by kernel_rfl)
abbrev Me : FuncId := 12
def IP : AC :=
(.seq (.reg [oP 3 (.pbox 11 (.t 0)),
oP 5 (.pbox 3 (.t 2)),
oP 6 (.mv (.c (.bool false)))] [1,3,5])
(.seq (.seq (.reg [oP 17 (.load (some 11) (.t 3)),
oP 18 (.call (.f 35) [true] [(.t 17)]),
oP 19 (.un .not (.t 18))] [1,3,5,19])
(.cond (.t 19)
(.seq (.reg [oP 20 (.call (.f 23) [] []),
mV 6 20] [6])
.ret)
.skip))
(.seq (.reg [oP 21 (.load (some 11) (.t 3)),
oP 7 (.alloc [.slice 7 [], .slice 7 [], .int .i64 0, .int .i64 0, .int .i64 0, .int .i64 0, .slice 2 [], .slice 3 [], .slice 1 [], .slice 2 [], .slice 1 []]),
oN (.store 11 (.t 7) (.t 21))] [1,3,5,7])
(.seq (.dreg [oP 22 (.fieldAddr (some 2) 4 (.t 3)),
oP 23 (.fieldAddr none 0 (.t 22)),
oP 24 (.load none (.t 23)),
oP 25 (.fieldAddr (some 2) 0 (.t 5)),
oP 26 (.ixA 2 1 none (.t 25) (cI 0)),
oP 27 (.load none (.t 26)),
oP 28 (.conv .i64 (.t 27)),
oP 29 (.fieldAddr (some 2) 4 (.t 3)),
oP 30 (.fieldAddr none 1 (.t 29)),
oP 31 (.load none (.t 30)),
oP 32 (.fieldAddr (some 2) 4 (.t 3)),
oP 33 (.fieldAddr none 0 (.t 32)),
oP 34 (.load none (.t 33)),
oP 35 (.bin .sub (.t 31) (.t 34)),
oP 36 (.bin .add (.t 35) (cI 1)),
oP 37 (.bin .rem (.t 28) (.t 36)),
oP 38 (.bin .add (.t 24) (.t 37)),
oP 39 (.fieldAddr (some 2) 4 (.t 7)),
oP 40 (.fieldAddr none 0 (.t 39)),
oN (.store 1 (.t 40) (.t 38))] [1,3,5,7] [[],[0],[0,1],[],[3],[3,4],[3,4,5],[],[7],[7,8],[],[10],[10,11],[7,8,9,10,11,12],[7,8,9,10,11,12,13],[3,4,5,6,7,8,9,10,11,12,13,14],[0,1,2,3,4,5,6,7,8,9,10,11,12,13,14,15],[0,1,2,3,4,5,6,7,8,9,10,11,12,13,14,15,16],[0,1,2,3,4,5,6,7,8,9,10,11,12,13,14,15,16,17],[0,1,2,3,4,5,6,7,8,9,10,11,12,13,14,15,16,17,18]])
(.seq (.dreg [oP 41 (.fieldAddr (some 2) 4 (.t 7)),
oP 42 (.fieldAddr none 0 (.t 41)),
oP 43 (.load none (.t 42)),
oP 44 (.fieldAddr (some 2) 0 (.t 5)),
oP 45 (.ixA 2 1 none (.t 44) (cI 1)),
oP 46 (.load none (.t 45)),
oP 47 (.conv .i64 (.t 46)),
oP 48 (.fieldAddr (some 2) 4 (.t 3)),
oP 49 (.fieldAddr none 1 (.t 48)),
oP 50 (.load none (.t 49)),
oP 51 (.fieldAddr (some 2) 4 (.t 7)),
oP 52 (.fieldAddr none 0 (.t 51)),
oP 53 (.load none (.t 52)),
oP 54 (.bin .sub (.t 50) (.t 53)),
oP 55 (.bin .add (.t 54) (cI 1)),
oP 56 (.bin .rem (.t 47) (.t 55)),
oP 57 (.bin .add (.t 43) (.t 56)),
oP 58 (.fieldAddr (some 2) 4 (.t 7)),
oP 59 (.fieldAddr none 1 (.t 58)),
oN (.store 1 (.t 59) (.t 57))] [1,3,5,7] [[],[0],[0,1],[],[3],[3,4],[3,4,5],[],[7],[7,8],[],[10],[10,11],[7,8,9,10,11,12],[7,8,9,10,11,12,13],[3,4,5,6,7,8,9,10,11,12,13,14],[0,1,2,3,4,5,6,7,8,9,10,11,12,13,14,15],[0,1,2,3,4,5,6,7,8,9,10,11,12,13,14,15,16],[0,1,2,3,4,5,6,7,8,9,10,11,12,13,14,15,16,17],[0,1,2,3,4,5,6,7,8,9,10,11,12,13,14,15,16,17,18]])
(.seq (.reg [oP 60 (.lit 2 1 0 []),
oP 61 (.fieldAddr none 10 (.t 3)),
oP 62 (.load none (.t 61)),
oP 63 (.append 1 24 (.t 60) (.t 62)),
oP 64 (.fieldAddr none 10 (.t 7)),
oN (.store 1 (.t 64) (.t 63))] [1,3,5,7])
(.seq (.dreg [oP 65 (.fieldAddr none 10 (.t 7)),
oP 66 (.load none (.t 65)),
oP 67 (.fieldAddr none 2 (.t 5)),
oP 68 (.load none (.t 67)),
oP 69 (.conv .i64 (.t 68)),
oP 70 (.fieldAddr none 10 (.t 3)),
oP 71 (.load none (.t 70)),
oP 72 (.len (.t 71)),
oP 73 (.bin .rem (.t 69) (.t 72)),
oP 74 (.ixS 1 (.t 66) (.t 73)),
oN (.store 1 (.t 74) (.c (.slice 1 [])))] [1,3,5,7] [[],[0],[],[2],[2,3],[],[5],[5,6],[2,3,4,5,6,7],[0,1,2,3,4,5,6,7,8],[0,1,2,3,4,5,6,7,8,9]])
(.seq (.dreg [oP 75 (.load (some 11) (.t 3)),
mV 76 1,
oP 77 (.fieldAddr none 2 (.t 5)),
oP 78 (.load none (.t 77)),
oP 79 (.conv .i64 (.t 78)),
oP 80 (.fieldAddr (some 1) 0 (.t 3)),
oP 81 (.fieldAddr none 0 (.t 80)),
oP 82 (.load none (.t 81)),
oP 83 (.len (.t 82)),
oP 84 (.bin .add (.t 83) (cI 1)),
oP 85 (.bin .rem (.t 79) (.t 84)),
oP 86 (.call (.f 39) [true,true,false] [(.t 75),(.t 76),(.t 85)]),
mV 8 86] [3,7,8] [[],[],[],[2],[2,3],[],[5],[5,6],[5,6,7],[5,6,7,8],[2,3,4,5,6,7,8,9],[0,1,2,3,4,5,6,7,8,9,10],[0,1,2,3,4,5,6,7,8,9,10,11]])
(.tX 7 10 1 (.seq (.reg [oP 88 (.load (some 11) (.t 7)),
mV 89 8,
oP 90 (.call (.f 16) [true,true] [(.t 88),(.t 89)]),
mV 87 90,
oP 91 (.extract (.t 87) 0),
oP 92 (.extract (.t 87) 1),
oP 93 (.extract (.t 87) 2),
mV 9 91,
mV 10 92,
mV 11 93] [3,7,8,9,11])
(.seq (.reg [oP 95 (.load (some 11) (.t 3)),
mV 96 8,
oP 97 (.call (.f 18) [true,true] [(.t 95),(.t 96)]),
mV 94 97,
oP 98 (.extract (.t 94) 0),
oP 99 (.extract (.t 94) 1),
mV 12 98,
mV 13 99] [7,8,9,11,12,13])
(.seq (.reg [oP 101 (.load (some 11) (.t 7)),
mV 102 8,
oP 103 (.call (.f 18) [true,true] [(.t 101),(.t 102)]),
mV 100 103,
oP 104 (.extract (.t 100) 0),
oP 105 (.extract (.t 100) 1),
mV 14 104,
mV 15 105] [9,11,12,13,14,15])
(.seq (.seq (.reg [mV 106 11,
oP 107 (.bin .neq (.t 106) (cI 0)),
mV 108 107,
gF 109 108 (.mv (.t 13)),
gF 110 108 (.bin .neq (.t 109) (cI 0)),
oP 111 (.pick (.t 108) (.c (.bool true)) (.t 110)),
mV 112 111,
gF 113 112 (.mv (.t 15)),
gF 114 112 (.bin .neq (.t 113) (cI 0)),
oP 115 (.pick (.t 112) (.c (.bool true)) (.t 114)),
mV 116 115,
gF 117 116 (.mv (.t 9)),
gF 118 116 (.bin .neq (.t 117) (cI (-1))),
oP 119 (.pick (.t 116) (.c (.bool true)) (.t 118))] [12,14,119])
(.cond (.t 119)
(.seq (.reg [oP 6 (.mv (.c (.bool false)))] [6])
.ret)
.skip))
(.seq (.seq (.reg [oP 16 (.mv (cI 0))] [12,14,16])
(.block 0
(.loop [12,14,16]
(.seq (.seq (.reg [mV 120 16,
mV 121 12,
oP 122 (.len (.t 121)),
oP 123 (.bin .lss (.t 120) (.t 122))] [12,14,16,123])
(.cond (.t 123)
.skip
(.exit 0)))
(.seq (.block 1
(.seq (.reg [mV 126 14,
mV 127 12,
mV 128 16,
oP 129 (.ixS 1 (.t 127) (.t 128)),
oP 130 (.load none (.t 129)),
oP 131 (.call (.f 37) [true,false] [(.t 126),(.t 130)]),
oP 132 (.un .not (.t 131))] [12,14,16,132])
(.cond (.t 132)
(.seq (.reg [oP 6 (.mv (.c (.bool false)))] [6])
.ret)
.skip)))
(.reg [mV 124 16,
oP 125 (.bin .add (.t 124) (cI 1)),
mV 16 125] [12,14,16]))))))
(.seq (.reg [oP 133 (.call (.f 23) [] []),
mV 6 133] [6])
.ret)))))))))))))))
abbrev RA : RsT := [(6,none)]
theorem Po : SpF 134 Me IP RA := SpI Tryz.func12 (by kernel_rfl)
abbrev Lq : FuncId := 13
def Ki : AC :=
(.seq (.reg [oP 2 (.pbox 11 (.t 0)),
oP 4 (.mv (.c (.bool false)))] [1,2])
(.seq (.reg [oP 14 (.load (some 11) (.t 2)),
mV 15 1,
oP 16 (.call (.f 16) [true,true] [(.t 14),(.t 15)]),
mV 13 16,
oP 17 (.extract (.t 13) 0),
oP 18 (.extract (.t 13) 1),
oP 19 (.extract (.t 13) 2),
mV 5 17,
mV 6 18,
mV 7 19] [1,2,5,6,7])
(.seq (.seq (.reg [oP 20 (.load (some 11) (.t 2)),
mV 21 1,
oP 22 (.call (.f 41) [true,true] [(.t 20),(.t 21)]),
oP 23 (.bin .neq (.t 22) (cI 0))] [1,2,5,6,7,23])
(.cond (.t 23)
(.seq (.reg [mV 24 7,
oP 25 (.bin .neq (.t 24) (cI 0)),
mV 26 25,
gT 27 26 (.mv (.t 5)),
gT 28 26 (.bin .eql (.t 27) (cI 0)),
oP 29 (.pick (.t 26) (.t 28) (.c (.bool false))),
mV 30 29,
gT 31 30 (.mv (.t 6)),
gT 32 30 (.bin .eql (.t 31) (cI 0)),
oP 33 (.pick (.t 30) (.t 32) (.c (.bool false))),
mV 34 33,
gT 35 34 (.call (.f 23) [] []),
oP 36 (.pick (.t 34) (.t 35) (.c (.bool false))),
mV 4 36] [4])
.ret)
.skip))
(.seq (.seq (.reg [mV 37 7,
oP 38 (.bin .neq (.t 37) (cI 0)),
mV 39 38,
gF 40 39 (.mv (.t 5)),
gF 41 39 (.bin .lss (.t 40) (cI (-1))),
oP 42 (.pick (.t 39) (.c (.bool true)) (.t 41)),
mV 43 42,
gF 44 43 (.mv (.t 5)),
gF 45 43 (.mv (.t 1)),
gF 46 43 (.len (.t 45)),
gF 47 43 (.bin .geq (.t 44) (.t 46)),
oP 48 (.pick (.t 43) (.c (.bool true)) (.t 47)),
mV 49 48,
gF 50 49 (.mv (.t 5)),
gF 51 49 (.bin .eql (.t 50) (cI (-1))),
gF 52 49 (.mv (.t 6)),
gF 53 49 (.bin .eql (.t 52) (cI 0)),
gF 54 49 (.eqb true (.t 51) (.t 53)),
oP 55 (.pick (.t 49) (.c (.bool true)) (.t 54))] [1,2,5,6,55])
(.cond (.t 55)
(.seq (.reg [oP 4 (.mv (.c (.bool false)))] [4])
.ret)
.skip))
(.seq (.reg [mV 56 1,
mV 8 56] [1,2,5,6,8])
(.seq (.seq (.reg [mV 57 5,
oP 58 (.bin .geq (.t 57) (cI 0))] [1,2,5,6,8,58])
(.cond (.t 58)
(.reg [mV 59 1,
mV 60 5,
oP 61 (.subq 1 (.t 59) none (some (.t 60))),
mV 8 61] [1,2,5,6,8])
.skip))
(.seq (.reg [oP 62 (.fieldAddr (some 1) 0 (.t 2)),
oP 63 (.fieldAddr none 0 (.t 62)),
oP 64 (.load none (.t 63)),
mV 9 64] [1,5,6,8,9])
(.seq (.seq (.reg [oP 10 (.mv (cI 0))] [1,5,6,8,9,10])
(.block 0
(.loop [1,5,6,8,9,10]
(.seq (.seq (.reg [mV 65 10,
mV 66 8,
oP 67 (.len (.t 66)),
oP 68 (.bin .lss (.t 65) (.t 67))] [1,5,6,8,9,10,68])
(.cond (.t 68)
.skip
(.exit 0)))
(.seq (.block 1
(.seq (.reg [mV 71 9,
mV 72 8,
mV 73 10,
oP 74 (.ixS 1 (.t 72) (.t 73)),
oP 75 (.load none (.t 74)),
oP 76 (.call (.f 42) [true,false] [(.t 71),(.t 75)]),
mV 11 76] [1,5,6,8,9,10,11])
(.seq (.reg [oP 12 (.mv (cI 0))] [1,5,6,8,9,10,11,12])
(.block 2
(.loop [1,5,6,8,9,10,11,12]
(.seq (.seq (.reg [mV 77 12,
mV 78 11,
oP 79 (.len (.t 78)),
oP 80 (.bin .lss (.t 77) (.t 79))] [1,5,6,8,9,10,11,12,80])
(.cond (.t 80)
.skip
(.exit 2)))
(.seq (.block 3
(.seq (.reg [mV 83 11,
mV 84 12,
oP 85 (.ixS 1 (.t 83) (.t 84)),
oP 86 (.load none (.t 85)),
mV 87 86,
gT 88 87 (.mv (.t 8)),
gT 89 87 (.mv (.t 10)),
gT 90 87 (.subq 1 (.t 88) none (some (.t 89))),
gT 91 87 (.mv (.t 12)),
gT 92 87 (.call (.f 37) [true,false] [(.t 90),(.t 91)]),
gT 93 87 (.un .not (.t 92)),
oP 94 (.pick (.t 87) (.t 93) (.c (.bool false)))] [1,5,6,8,9,10,11,12,94])
(.cond (.t 94)
(.seq (.reg [oP 4 (.mv (.c (.bool false)))] [4])
.ret)
.skip)))
(.reg [mV 81 12,
oP 82 (.bin .add (.t 81) (cI 1)),
mV 12 82] [1,5,6,8,9,10,11,12]))))))))
(.reg [mV 69 10,
oP 70 (.bin .add (.t 69) (cI 1)),
mV 10 70] [1,5,6,8,9,10]))))))
(.seq (.seq (.reg [mV 95 5,
oP 96 (.bin .geq (.t 95) (cI 0)),
mV 97 96,
gT 98 97 (.mv (.t 6)),
gT 99 97 (.bin .eql (.t 98) (cI 1)),
oP 100 (.pick (.t 97) (.t 99) (.c (.bool false)))] [1,5,8,100])
(.cond (.t 100)
(.seq (.reg [mV 101 8,
mV 102 1,
mV 103 5,
oP 104 (.ixS 1 (.t 102) (.t 103)),
oP 105 (.load none (.t 104)),
oP 106 (.call (.f 37) [true,false] [(.t 101),(.t 105)]),
mV 107 106,
gT 108 107 (.call (.f 23) [] []),
oP 109 (.pick (.t 107) (.t 108) (.c (.bool false))),
mV 4 109] [4])
.ret)
.skip))
(.seq (.reg [oP 110 (.call (.f 23) [] []),
mV 4 110] [4])
.ret))))))))))
abbrev Q7 : RsT := [(4,none)]
theorem Qh : SpF 111 Lq Ki Q7 := SpI Tryz.func13 (by kernel_rfl)
abbrev Ir : FuncId := 14
def Is : AC :=
(.seq (.reg [oP 1 (.pbox 11 (.t 0)),
oP 2 (.alloc [.int .i64 0]),
oP 3 (.alloc [.int .i64 0]),
oP 4 (.alloc [.int .i64 0])] [1,2,3,4])
(.seq (.dfr 12 43 [(.t 2),(.t 3),(.t 4)] [1,2,3,4])
(.seq (.reg [oP 14 (.fieldAddr (some 1) 0 (.t 1)),
oP 15 (.load (some 1) (.t 14)),
oP 16 (.build [.slice 7 [], .slice 10 []] [(0,1,(.t 15))]),
oP 17 (.call (.f 44) [true] [(.t 16)]),
mV 13 17,
oP 18 (.extract (.t 13) 0),
oP 19 (.extract (.t 13) 1),
oP 20 (.extract (.t 13) 2),
oN (.store 1 (.t 3) (.t 19)),
oN (.store 1 (.t 4) (.t 20))] [1,2,3,4])
(.seq (.reg [oP 21 (.load none (.t 3)),
oP 22 (.load none (.t 4)),
oP 23 (.call (.f 45) [false,false,false] [(cI 1),(.t 21),(.t 22)])] [1,2,3,4])
(.seq (.reg [oP 25 (.fieldAddr (some 3) 1 (.t 1)),
oP 26 (.load (some 3) (.t 25)),
oP 27 (.call (.f 46) [true] [(.t 26)]),
mV 24 27,
oP 28 (.extract (.t 24) 0),
oP 29 (.extract (.t 24) 1),
oP 30 (.extract (.t 24) 2),
oN (.store 1 (.t 4) (.t 30))] [1,2,3,4])
(.seq (.reg [oP 31 (.load none (.t 4)),
oP 32 (.call (.f 45) [false,false,false] [(cI 2),(cI 0),(.t 31)])] [1,2,3,4])
(.seq (.reg [oP 33 (.fieldAddr (some 1) 0 (.t 1)),
oP 34 (.fieldAddr none 0 (.t 33)),
oP 35 (.load none (.t 34)),
oP 36 (.len (.t 35)),
mV 5 36] [1,2,3,4,5])
(.seq (.seq (.reg [oP 37 (.fieldAddr (some 3) 1 (.t 1)),
oP 38 (.fieldAddr none 0 (.t 37)),
oP 39 (.load none (.t 38)),
oP 40 (.len (.t 39)),
mV 41 5,
oP 42 (.bin .neq (.t 40) (.t 41)),
mV 43 42,
gF 44 43 (.mv (.t 5)),
gF 45 43 (.bin .gtr (.t 44) (cI 7)),
oP 46 (.pick (.t 43) (.c (.bool true)) (.t 45))] [1,2,3,4,5,46])
(.cond (.t 46)
(.reg [oP 47 (.call (.f 45) [false,false,false] [(cI 2),(cI 0),(cI 3)])] [1,2,3,4,5])
.skip))
(.seq (.seq (.reg [oP 48 (.fieldAddr (some 1) 0 (.t 1)),
oP 49 (.fieldAddr none 0 (.t 48)),
oP 50 (.load none (.t 49)),
oP 51 (.len (.t 50)),
oP 52 (.mv (cI 0))] [1,2,3,4,5,50,51,52])
(.block 0
(.loop [1,2,3,4,5,50,51,52]
(.seq (.reg [oP 53 (.bin .lss (.t 52) (.t 51))] [1,2,3,4,5,50,51,52,53])
(.seq (.cond (.t 53)
.skip
(.exit 0))
(.seq (.block 1
(.seq (.reg [mV 54 52,
oP 55 (.ixS 7 (.t 50) (.t 52)),
oP 56 (.load (some 7) (.t 55)),
oP 7 (.alloc [.str ByteArray.empty, .int .i64 0, .int .i64 0, .int .i64 0, .slice 1 [], .int .i64 0, .int .i64 0]),
mV 6 54,
oN (.store 7 (.t 7) (.t 56))] [1,2,3,4,5,6,7,50,51,52])
(.frz 7 true (.seq (.dreg [oP 57 (.fieldAddr (some 3) 1 (.t 1)),
oP 58 (.fieldAddr none 0 (.t 57)),
oP 59 (.load none (.t 58)),
mV 60 6,
oP 61 (.ixS 7 (.t 59) (.t 60)),
oP 62 (.fieldAddr none 0 (.t 61)),
oP 63 (.load none (.t 62)),
oP 64 (.fieldAddr none 0 (.t 7)),
oP 65 (.load none (.t 64)),
oP 66 (.bin .neq (.t 63) (.t 65))] [1,2,3,4,5,6,50,51,52,66] [[],[0],[0,1],[],[0,1,2,3],[0,1,2,3,4],[0,1,2,3,4,5],[],[7],[0,1,2,3,4,5,6,7,8]])
(.cond (.t 66)
(.reg [mV 67 6,
oP 68 (.call (.f 45) [false,false,false] [(cI 2),(.t 67),(cI 4)])] [1,2,3,4,5,50,51,52])
.skip)))))
(.reg [oP 69 (.bin .add (.t 52) (cI 1)),
mV 52 69] [1,2,3,4,5,50,51,52])))))))
(.seq (.reg [oP 71 (.fieldAddr (some 3) 1 (.t 1)),
oP 72 (.load (some 3) (.t 71)),
oP 73 (.fieldAddr (some 2) 4 (.t 1)),
oP 74 (.load (some 2) (.t 73)),
oP 75 (.call (.f 47) [true,false] [(.t 72),(.t 74)]),
mV 70 75,
oP 76 (.extract (.t 70) 0),
oP 77 (.extract (.t 70) 1),
oP 78 (.extract (.t 70) 2),
oN (.store 1 (.t 4) (.t 78))] [1,2,3,4,5])
(.seq (.reg [oP 79 (.load none (.t 4)),
oP 80 (.call (.f 45) [false,false,false] [(cI 3),(cI 0),(.t 79)])] [1,2,3,4,5])
(.seq (.reg [oP 82 (.fieldAddr (some 2) 6 (.t 1)),
oP 83 (.load (some 2) (.t 82)),
oP 84 (.fieldAddr none 8 (.t 1)),
oP 85 (.load none (.t 84)),
oP 86 (.fieldAddr none 9 (.t 1)),
oP 87 (.load none (.t 86)),
oP 88 (.call (.f 48) [true,true,true] [(.t 83),(.t 85),(.t 87)]),
mV 81 88,
oP 89 (.extract (.t 81) 0),
oP 90 (.extract (.t 81) 1),
oN (.store 1 (.t 4) (.t 90))] [1,2,3,4,5])
(.seq (.reg [oP 91 (.load none (.t 4)),
oP 92 (.call (.f 45) [false,false,false] [(cI 4),(cI 0),(.t 91)])] [1,2,3,4,5])
(.seq (.seq (.reg [oP 93 (.fieldAddr none 10 (.t 1)),
oP 94 (.load none (.t 93)),
oP 95 (.len (.t 94)),
mV 96 5,
oP 97 (.bin .neq (.t 95) (.t 96))] [1,2,3,4,97])
(.cond (.t 97)
(.reg [oP 98 (.call (.f 45) [false,false,false] [(cI 5),(cI 0),(cI 3)])] [1,2,3,4])
.skip))
(.seq (.seq (.reg [oP 99 (.fieldAddr none 10 (.t 1)),
oP 100 (.load none (.t 99)),
oP 101 (.len (.t 100)),
oP 102 (.mv (cI 0))] [1,2,3,4,100,101,102])
(.block 2
(.loop [1,2,3,4,100,101,102]
(.seq (.reg [oP 103 (.bin .lss (.t 102) (.t 101))] [1,2,3,4,100,101,102,103])
(.seq (.cond (.t 103)
.skip
(.exit 2))
(.seq (.block 3
(.seq (.reg [mV 104 102,
oP 105 (.ixS 1 (.t 100) (.t 102)),
oP 106 (.load none (.t 105)),
mV 8 104,
mV 9 106] [1,2,3,4,8,9,100,101,102])
(.seq (.reg [mV 107 9,
oP 108 (.len (.t 107)),
oP 109 (.mv (cI 0))] [1,2,3,4,8,9,100,101,102,107,108,109])
(.block 4
(.loop [1,2,3,4,8,9,100,101,102,107,108,109]
(.seq (.reg [oP 110 (.bin .lss (.t 109) (.t 108))] [1,2,3,4,8,9,100,101,102,107,108,109,110])
(.seq (.cond (.t 110)
.skip
(.exit 4))
(.seq (.block 5
(.seq (.reg [mV 111 109,
oP 112 (.ixS 1 (.t 107) (.t 109)),
oP 113 (.load none (.t 112)),
mV 10 111,
mV 11 113] [1,2,3,4,8,9,10,11,100,101,102,107,108,109])
(.block 6
(.seq (.reg [oP 115 (.fieldAddr (some 2) 6 (.t 1)),
oP 116 (.fieldAddr none 0 (.t 115)),
oP 117 (.load none (.t 116)),
oP 118 (.len (.t 117)),
mV 119 11,
oP 120 (.lit 0 1 1 [(0,(.t 119))]),
oP 121 (.call (.f 49) [false,true] [(.t 118),(.t 120)]),
mV 114 121] [1,2,3,4,8,9,10,11,100,101,102,107,108,109,114])
(.cond (.t 114)
(.reg [mV 122 8,
oP 123 (.call (.f 45) [false,false,false] [(cI 5),(.t 122),(cI 4)])] [1,2,3,4,8,9,100,101,102,107,108,109])
(.seq (.reg [mV 125 10,
oP 126 (.bin .gtr (.t 125) (cI 0)),
mV 127 126,
gT 128 127 (.mv (.t 11)),
gT 129 127 (.mv (.t 9)),
gT 130 127 (.mv (.t 10)),
gT 131 127 (.bin .sub (.t 130) (cI 1)),
gT 132 127 (.ixS 1 (.t 129) (.t 131)),
gT 133 127 (.load none (.t 132)),
gT 134 127 (.bin .leq (.t 128) (.t 133)),
oP 135 (.pick (.t 127) (.t 134) (.c (.bool false))),
mV 124 135] [1,2,3,4,8,9,100,101,102,107,108,109,124])
(.cond (.t 124)
(.reg [mV 136 8,
oP 137 (.call (.f 45) [false,false,false] [(cI 5),(.t 136),(cI 2)])] [1,2,3,4,8,9,100,101,102,107,108,109])
.skip)))))))
(.reg [oP 138 (.bin .add (.t 109) (cI 1)),
mV 109 138] [1,2,3,4,8,9,100,101,102,107,108,109])))))))))
(.reg [oP 139 (.bin .add (.t 102) (cI 1)),
mV 102 139] [1,2,3,4,100,101,102])))))))
(.seq (.reg [oN (.store 1 (.t 2) (cI 0)),
oN (.store 1 (.t 3) (cI 0)),
oN (.store 1 (.t 4) (cI 0))] [2,3,4])
.ret))))))))))))))))
abbrev LD : RsT := [(2,some none),(3,some none),(4,some none)]
theorem PS : w6 Tryz.prog Tryz.f14 140 Is LD = true := by kernel_rfl
theorem So {args : List ab} {σ : af} {R : dF → af → Prop} (ha : args.length ≤ 140) (h : AW Tryz.prog 140 none Is (sT Tryz.prog LD R) { v := cZ args 0,ds := [] } σ) : Spec Tryz.prog Ir args σ R := Spec.CA Tryz.func14 PS ha h
theorem R6 : ak Tryz.prog Ir = true := by kernel_rfl
abbrev Ik : FuncId := 15
def JL : AC :=
(.seq (.reg [oP 1 (.pbox 11 (.t 0)),
oP 2 (.mv (cI 0)),
oP 3 (.mv (cI 0)),
oP 4 (.mv (cI 0))] [1])
(.seq (.reg [oP 14 (.fieldAddr (some 1) 0 (.t 1)),
oP 15 (.load (some 1) (.t 14)),
oP 16 (.build [.slice 7 [], .slice 10 []] [(0,1,(.t 15))]),
oP 17 (.call (.f 50) [true] [(.t 16)]),
mV 13 17,
oP 18 (.extract (.t 13) 0),
oP 19 (.extract (.t 13) 1),
oP 20 (.extract (.t 13) 2),
mV 5 18,
mV 6 19,
mV 7 20] [1,6,7])
(.seq (.seq (.reg [mV 21 7,
oP 22 (.bin .neq (.t 21) (cI 0))] [1,6,7,22])
(.cond (.t 22)
(.seq (.reg [mV 23 6,
mV 24 7,
oP 2 (.mv (cI 1)),
mV 3 23,
mV 4 24] [2,3,4])
.ret)
.skip))
(.seq (.reg [oP 26 (.fieldAddr (some 3) 1 (.t 1)),
oP 27 (.load (some 3) (.t 26)),
oP 28 (.call (.f 51) [true] [(.t 27)]),
mV 25 28,
oP 29 (.extract (.t 25) 0),
oP 30 (.extract (.t 25) 1),
oP 31 (.extract (.t 25) 2),
mV 7 31] [1,7])
(.seq (.seq (.reg [mV 32 7,
oP 33 (.bin .neq (.t 32) (cI 0))] [1,7,33])
(.cond (.t 33)
(.seq (.reg [mV 34 7,
oP 2 (.mv (cI 2)),
oP 3 (.mv (cI 0)),
mV 4 34] [2,3,4])
.ret)
.skip))
(.seq (.reg [oP 35 (.fieldAddr (some 1) 0 (.t 1)),
oP 36 (.fieldAddr none 0 (.t 35)),
oP 37 (.load none (.t 36)),
oP 38 (.len (.t 37)),
mV 8 38] [1,8])
(.seq (.seq (.reg [oP 39 (.fieldAddr (some 3) 1 (.t 1)),
oP 40 (.fieldAddr none 0 (.t 39)),
oP 41 (.load none (.t 40)),
oP 42 (.len (.t 41)),
mV 43 8,
oP 44 (.bin .neq (.t 42) (.t 43)),
mV 45 44,
gF 46 45 (.mv (.t 8)),
gF 47 45 (.bin .gtr (.t 46) (cI 7)),
oP 48 (.pick (.t 45) (.c (.bool true)) (.t 47))] [1,8,48])
(.cond (.t 48)
(.seq (.reg [oP 2 (.mv (cI 2)),
oP 3 (.mv (cI 0)),
oP 4 (.mv (cI 3))] [2,3,4])
.ret)
.skip))
(.seq (.seq (.reg [oP 9 (.mv (cI 0))] [1,8,9])
(.block 0
(.loop [1,8,9]
(.seq (.seq (.reg [mV 49 9,
mV 50 8,
oP 51 (.bin .lss (.t 49) (.t 50))] [1,8,9,51])
(.cond (.t 51)
.skip
(.exit 0)))
(.seq (.block 1
(.seq (.dreg [oP 54 (.fieldAddr (some 3) 1 (.t 1)),
oP 55 (.fieldAddr none 0 (.t 54)),
oP 56 (.load none (.t 55)),
mV 57 9,
oP 58 (.ixS 7 (.t 56) (.t 57)),
oP 59 (.fieldAddr none 0 (.t 58)),
oP 60 (.load none (.t 59)),
oP 61 (.fieldAddr (some 1) 0 (.t 1)),
oP 62 (.fieldAddr none 0 (.t 61)),
oP 63 (.load none (.t 62)),
mV 64 9,
oP 65 (.ixS 7 (.t 63) (.t 64)),
oP 66 (.fieldAddr none 0 (.t 65)),
oP 67 (.load none (.t 66)),
oP 68 (.bin .neq (.t 60) (.t 67))] [1,8,9,68] [[],[0],[0,1],[],[0,1,2,3],[0,1,2,3,4],[0,1,2,3,4,5],[],[7],[7,8],[],[7,8,9,10],[7,8,9,10,11],[7,8,9,10,11,12],[0,1,2,3,4,5,6,7,8,9,10,11,12,13]])
(.cond (.t 68)
(.seq (.reg [mV 69 9,
oP 2 (.mv (cI 2)),
mV 3 69,
oP 4 (.mv (cI 4))] [2,3,4])
.ret)
.skip)))
(.reg [mV 52 9,
oP 53 (.bin .add (.t 52) (cI 1)),
mV 9 53] [1,8,9]))))))
(.seq (.reg [oP 71 (.fieldAddr (some 3) 1 (.t 1)),
oP 72 (.load (some 3) (.t 71)),
oP 73 (.fieldAddr (some 2) 4 (.t 1)),
oP 74 (.load (some 2) (.t 73)),
oP 75 (.call (.f 52) [true,false] [(.t 72),(.t 74)]),
mV 70 75,
oP 76 (.extract (.t 70) 0),
oP 77 (.extract (.t 70) 1),
oP 78 (.extract (.t 70) 2),
mV 7 78] [1,7,8])
(.seq (.seq (.reg [mV 79 7,
oP 80 (.bin .neq (.t 79) (cI 0))] [1,7,8,80])
(.cond (.t 80)
(.seq (.reg [mV 81 7,
oP 2 (.mv (cI 3)),
oP 3 (.mv (cI 0)),
mV 4 81] [2,3,4])
.ret)
.skip))
(.seq (.reg [oP 83 (.fieldAddr (some 2) 6 (.t 1)),
oP 84 (.load (some 2) (.t 83)),
oP 85 (.fieldAddr none 8 (.t 1)),
oP 86 (.load none (.t 85)),
oP 87 (.fieldAddr none 9 (.t 1)),
oP 88 (.load none (.t 87)),
oP 89 (.call (.f 53) [true,true,true] [(.t 84),(.t 86),(.t 88)]),
mV 82 89,
oP 90 (.extract (.t 82) 0),
oP 91 (.extract (.t 82) 1),
mV 7 91] [1,7,8])
(.seq (.seq (.reg [mV 92 7,
oP 93 (.bin .neq (.t 92) (cI 0))] [1,7,8,93])
(.cond (.t 93)
(.seq (.reg [mV 94 7,
oP 2 (.mv (cI 4)),
oP 3 (.mv (cI 0)),
mV 4 94] [2,3,4])
.ret)
.skip))
(.seq (.seq (.reg [oP 95 (.fieldAddr none 10 (.t 1)),
oP 96 (.load none (.t 95)),
oP 97 (.len (.t 96)),
mV 98 8,
oP 99 (.bin .neq (.t 97) (.t 98))] [1,8,99])
(.cond (.t 99)
(.seq (.reg [oP 2 (.mv (cI 5)),
oP 3 (.mv (cI 0)),
oP 4 (.mv (cI 3))] [2,3,4])
.ret)
.skip))
(.seq (.seq (.reg [oP 10 (.mv (cI 0))] [1,8,10])
(.block 2
(.loop [1,8,10]
(.seq (.seq (.reg [mV 100 10,
mV 101 8,
oP 102 (.bin .lss (.t 100) (.t 101))] [1,8,10,102])
(.cond (.t 102)
.skip
(.exit 2)))
(.seq (.block 3
(.seq (.reg [oP 105 (.fieldAddr none 10 (.t 1)),
oP 106 (.load none (.t 105)),
mV 107 10,
oP 108 (.ixS 1 (.t 106) (.t 107)),
oP 109 (.load none (.t 108)),
mV 11 109] [1,8,10,11])
(.seq (.reg [oP 12 (.mv (cI 0))] [1,8,10,11,12])
(.block 4
(.loop [1,8,10,11,12]
(.seq (.seq (.reg [mV 110 12,
mV 111 11,
oP 112 (.len (.t 111)),
oP 113 (.bin .lss (.t 110) (.t 112))] [1,8,10,11,12,113])
(.cond (.t 113)
.skip
(.exit 4)))
(.seq (.block 5
(.seq (.seq (.dreg [mV 116 11,
mV 117 12,
oP 118 (.ixS 1 (.t 116) (.t 117)),
oP 119 (.load none (.t 118)),
oP 120 (.fieldAddr (some 2) 6 (.t 1)),
oP 121 (.fieldAddr none 0 (.t 120)),
oP 122 (.load none (.t 121)),
oP 123 (.len (.t 122)),
oP 124 (.call (.f 54) [false,false] [(.t 119),(.t 123)]),
oP 125 (.un .not (.t 124))] [1,8,10,11,12,125] [[],[],[0,1],[0,1,2],[],[4],[4,5],[4,5,6],[0,1,2,3,4,5,6,7],[0,1,2,3,4,5,6,7,8]])
(.cond (.t 125)
(.seq (.reg [mV 126 10,
oP 2 (.mv (cI 5)),
mV 3 126,
oP 4 (.mv (cI 4))] [2,3,4])
.ret)
.skip))
(.seq (.dreg [mV 127 12,
oP 128 (.bin .gtr (.t 127) (cI 0)),
mV 129 128,
gT 130 129 (.mv (.t 11)),
gT 131 129 (.mv (.t 12)),
gT 132 129 (.ixS 1 (.t 130) (.t 131)),
gT 133 129 (.load none (.t 132)),
gT 134 129 (.mv (.t 11)),
gT 135 129 (.mv (.t 12)),
gT 136 129 (.bin .sub (.t 135) (cI 1)),
gT 137 129 (.ixS 1 (.t 134) (.t 136)),
gT 138 129 (.load none (.t 137)),
gT 139 129 (.bin .leq (.t 133) (.t 138)),
oP 140 (.pick (.t 129) (.t 139) (.c (.bool false)))] [1,8,10,11,12,140] [[],[0],[0,1],[0,1,2],[0,1,2],[0,1,2,3,4],[0,1,2,3,4,5],[0,1,2],[0,1,2],[0,1,2,8],[0,1,2,7,8,9],[0,1,2,7,8,9,10],[0,1,2,3,4,5,6,7,8,9,10,11],[0,1,2,3,4,5,6,7,8,9,10,11,12]])
(.cond (.t 140)
(.seq (.reg [mV 141 10,
oP 2 (.mv (cI 5)),
mV 3 141,
oP 4 (.mv (cI 2))] [2,3,4])
.ret)
.skip))))
(.reg [mV 114 12,
oP 115 (.bin .add (.t 114) (cI 1)),
mV 12 115] [1,8,10,11,12]))))))))
(.reg [mV 103 10,
oP 104 (.bin .add (.t 103) (cI 1)),
mV 10 104] [1,8,10]))))))
(.seq (.reg [oP 2 (.mv (cI 0)),
oP 3 (.mv (cI 0)),
oP 4 (.mv (cI 0))] [2,3,4])
.ret)))))))))))))))
abbrev Qg : RsT := [(2,none),(3,none),(4,none)]
theorem Rw : SpF 142 Ik JL Qg := SpI Tryz.func15 (by kernel_rfl)
theorem N5 : ak Tryz.prog Ik = true := by kernel_rfl
abbrev BG : FuncId := 16
def O4 : AC :=
(.seq (.reg [oP 2 (.pbox 11 (.t 0)),
oP 4 (.mv (cI 0)),
oP 5 (.mv (cI 0)),
oP 6 (.mv (cI 0))] [1,2])
(.seq (.reg [oP 9 (.load (some 11) (.t 2)),
mV 10 1,
oP 11 (.call (.f 55) [true,true] [(.t 9),(.t 10)]),
mV 8 11,
oP 12 (.extract (.t 8) 0),
oP 13 (.extract (.t 8) 1),
mV 7 12,
mV 6 13] [1,6,7])
(.seq (.seq (.reg [mV 14 6,
oP 15 (.bin .neq (.t 14) (cI 0))] [1,6,7,15])
(.cond (.t 15)
(.seq (.reg [mV 16 6,
oP 4 (.mv (cI 0)),
oP 5 (.mv (cI 0)),
mV 6 16] [4,5,6])
.ret)
.skip))
(.seq (.reg [mV 18 7,
mV 19 1,
oP 20 (.call (.f 56) [false,true] [(.t 18),(.t 19)]),
mV 17 20,
oP 21 (.extract (.t 17) 0),
oP 22 (.extract (.t 17) 1),
oP 23 (.extract (.t 17) 2),
mV 4 21,
mV 5 22] [4,5])
(.seq (.reg [mV 24 4,
mV 25 5,
mV 4 24,
mV 5 25,
oP 6 (.mv (cI 0))] [4,5,6])
.ret)))))
abbrev Ry : RsT := [(4,none),(5,none),(6,none)]
theorem RO : SpF 26 BG O4 Ry := SpI Tryz.func16 (by kernel_rfl)
theorem wW : ak Tryz.prog BG = true := by kernel_rfl
abbrev Em : FuncId := 18
def JA : AC :=
(.seq (.reg [oP 2 (.pbox 11 (.t 0)),
oP 4 (.mv (.c (.slice 1 []))),
oP 5 (.mv (cI 0))] [1,2])
(.seq (.reg [oP 10 (.load (some 11) (.t 2)),
mV 11 1,
oP 12 (.call (.f 59) [true,true] [(.t 10),(.t 11)]),
mV 9 12,
oP 13 (.extract (.t 9) 0),
oP 14 (.extract (.t 9) 1),
oP 15 (.extract (.t 9) 2),
mV 6 13,
mV 7 14,
mV 8 15] [6,7,8])
(.seq (.seq (.reg [mV 16 8,
oP 17 (.bin .neq (.t 16) (cI 0))] [6,7,8,17])
(.cond (.t 17)
(.seq (.reg [mV 18 8,
oP 4 (.mv (.c (.slice 1 []))),
mV 5 18] [4,5])
.ret)
.skip))
(.seq (.reg [mV 19 6,
mV 20 7,
oP 21 (.call (.f 61) [false,false] [(.t 19),(.t 20)]),
oP 22 (.call (.f 60) [false,false] [(.t 21),(.f 62)]),
oP 4 (.mvd (.t 22)),
oP 5 (.mv (cI 0))] [4,5])
.ret))))
abbrev Sk : RsT := [(4,none),(5,none)]
theorem RV : SpF 23 Em JA Sk := SpI Tryz.func18 (by kernel_rfl)
theorem zB : ak Tryz.prog Em = true := by kernel_rfl
abbrev E9 : FuncId := 20
def Kj : AC :=
(.seq (.reg [oP 4 (.mv (.c (.bool false)))] [0,1])
(.seq (.reg [mV 7 0,
oP 8 (.len (.t 7)),
mV 9 1,
oP 10 (.len (.t 9)),
oP 11 (.bin .eql (.t 8) (.t 10)),
mV 5 11] [0,1,5])
(.seq (.seq (.reg [oP 6 (.mv (cI 0))] [0,1,5,6])
(.block 0
(.loop [0,1,5,6]
(.seq (.seq (.reg [mV 12 6,
mV 13 0,
oP 14 (.len (.t 13)),
oP 15 (.bin .lss (.t 12) (.t 14)),
mV 16 15,
gT 17 16 (.mv (.t 5)),
oP 18 (.pick (.t 16) (.t 17) (.c (.bool false)))] [0,1,5,6,18])
(.cond (.t 18)
.skip
(.exit 0)))
(.seq (.block 1
(.dreg [mV 21 0,
mV 22 6,
oP 23 (.ixS 1 (.t 21) (.t 22)),
oP 24 (.load none (.t 23)),
mV 25 1,
mV 26 6,
oP 27 (.ixS 1 (.t 25) (.t 26)),
oP 28 (.load none (.t 27)),
oP 29 (.bin .eql (.t 24) (.t 28)),
mV 5 29] [0,1,5,6] [[],[],[0,1],[0,1,2],[],[],[4,5],[4,5,6],[0,1,2,3,4,5,6,7],[0,1,2,3,4,5,6,7,8]]))
(.reg [mV 19 6,
oP 20 (.bin .add (.t 19) (cI 1)),
mV 6 20] [0,1,5,6]))))))
(.seq (.reg [mV 30 5,
mV 4 30] [4])
.ret))))
abbrev Qc : RsT := [(4,none)]
theorem QF : SpF 31 E9 Kj Qc := SpI Tryz.func20 (by kernel_rfl)
theorem zG : ak Tryz.prog E9 = true := by kernel_rfl
abbrev Ef : FuncId := 21
def Lk : AC :=
(.seq (.reg [oP 2 (.pbox 11 (.t 0)),
oP 4 (.mv (.c (.slice 1 []))),
oP 5 (.mv (cI 0))] [1,2])
(.seq (.reg [oP 11 (.load (some 11) (.t 2)),
mV 12 1,
oP 13 (.call (.f 59) [true,true] [(.t 11),(.t 12)]),
mV 10 13,
oP 14 (.extract (.t 10) 0),
oP 15 (.extract (.t 10) 1),
oP 16 (.extract (.t 10) 2),
mV 6 14,
mV 7 15,
mV 8 16] [6,7,8])
(.seq (.seq (.reg [mV 17 8,
oP 18 (.bin .neq (.t 17) (cI 0))] [6,7,8,18])
(.cond (.t 18)
(.seq (.reg [mV 19 8,
oP 4 (.mv (.c (.slice 1 []))),
mV 5 19] [4,5])
.ret)
.skip))
(.seq (.reg [mV 20 6,
oP 21 (.call (.f 64) [false] [(.t 20)]),
oP 9 (.alloc [.nilfunc]),
oN (.store 1 (.t 9) (.t 21))] [6,7,9])
(.frz 9 false (.seq (.reg [mV 22 6,
mV 23 7,
oP 24 (.call (.f 61) [false,false] [(.t 22),(.t 23)]),
oP 25 (.mkfunc (.func 65) [] [(.t 9)]),
oP 26 (.call (.f 60) [false,false] [(.t 24),(.t 25)]),
oP 4 (.mvd (.t 26)),
oP 5 (.mv (cI 0))] [4,5])
.ret))))))
abbrev Qe : RsT := [(4,none),(5,none)]
theorem R3 : SpF 27 Ef Lk Qe := SpI Tryz.func21 (by kernel_rfl)
theorem yX : ak Tryz.prog Ef = true := by kernel_rfl
abbrev vI : FuncId := 23
def Nv : AC :=
(.seq (.reg [oP 0 (.mv (.c (.bool false)))] [])
(.seq (.reg [oP 28 (.call (.f 34) [false,false] [(.c (.bool false)),(.c (.bool false))]),
oP 29 (.call (.f 34) [false,false] [(.c (.bool true)),(.c (.bool false))]),
oP 30 (.call (.f 34) [false,false] [(.c (.bool false)),(.c (.bool true))]),
oP 1 (.alloc [.slice 7 [], .slice 7 [], .int .i64 0, .int .i64 0, .int .i64 0, .int .i64 0, .slice 2 [], .slice 3 [], .slice 1 [], .slice 2 [], .slice 1 []]),
oP 2 (.alloc [.slice 7 [], .slice 7 [], .int .i64 0, .int .i64 0, .int .i64 0, .int .i64 0, .slice 2 [], .slice 3 [], .slice 1 [], .slice 2 [], .slice 1 []]),
oP 3 (.alloc [.slice 7 [], .slice 7 [], .int .i64 0, .int .i64 0, .int .i64 0, .int .i64 0, .slice 2 [], .slice 3 [], .slice 1 [], .slice 2 [], .slice 1 []]),
oN (.store 11 (.t 1) (.t 28)),
oN (.store 11 (.t 2) (.t 29)),
oN (.store 11 (.t 3) (.t 30))] [1,2,3])
(.frz 3 true (.frz 2 true (.frz 1 true (.seq (.reg [oP 32 (.load (some 11) (.t 1)),
oP 33 (.lit 0 1 2 [(0,(cI 0)),(1,(cI 1))]),
oP 34 (.call (.f 16) [true,true] [(.t 32),(.t 33)]),
mV 31 34,
oP 35 (.extract (.t 31) 0),
oP 36 (.extract (.t 31) 1),
oP 37 (.extract (.t 31) 2),
mV 4 35,
mV 5 36,
mV 6 37] [1,2,3,4,5,6])
(.seq (.reg [oP 39 (.load (some 11) (.t 3)),
oP 40 (.lit 0 1 2 [(0,(cI 0)),(1,(cI 2))]),
oP 41 (.call (.f 16) [true,true] [(.t 39),(.t 40)]),
mV 38 41,
oP 42 (.extract (.t 38) 0),
oP 43 (.extract (.t 38) 1),
oP 44 (.extract (.t 38) 2),
mV 7 42,
mV 8 43,
mV 9 44] [1,2,3,4,5,6,7,8,9])
(.seq (.reg [oP 46 (.load (some 11) (.t 1)),
oP 47 (.call (.f 18) [true,true] [(.t 46),(.c (.slice 1 []))]),
mV 45 47,
oP 48 (.extract (.t 45) 0),
oP 49 (.extract (.t 45) 1),
mV 10 48,
mV 11 49] [1,2,3,4,5,6,7,8,9,10,11])
(.seq (.reg [oP 51 (.load (some 11) (.t 1)),
oP 52 (.call (.f 21) [true,true] [(.t 51),(.c (.slice 1 []))]),
mV 50 52,
oP 53 (.extract (.t 50) 0),
oP 54 (.extract (.t 50) 1),
mV 12 53,
mV 13 54] [1,2,3,4,5,6,7,8,9,10,11,12,13])
(.seq (.reg [oP 56 (.load (some 11) (.t 1)),
oP 57 (.call (.f 24) [true] [(.t 56)]),
mV 55 57,
oP 58 (.extract (.t 55) 0),
oP 59 (.extract (.t 55) 1),
mV 14 58,
mV 15 59] [1,2,3,4,5,6,7,8,9,10,11,12,13,14,15])
(.seq (.reg [oP 61 (.load (some 11) (.t 2)),
oP 62 (.call (.f 24) [true] [(.t 61)]),
mV 60 62,
oP 63 (.extract (.t 60) 0),
oP 64 (.extract (.t 60) 1),
mV 16 63,
mV 17 64] [1,2,3,4,5,6,7,8,9,10,11,12,13,14,15,17])
(.seq (.reg [oP 66 (.load (some 11) (.t 2)),
oP 67 (.call (.f 26) [true] [(.t 66)]),
mV 65 67,
oP 68 (.extract (.t 65) 0),
oP 69 (.extract (.t 65) 1),
mV 18 68,
mV 19 69] [1,3,4,5,6,7,8,9,10,11,12,13,14,15,17,18,19])
(.seq (.reg [oP 71 (.load (some 11) (.t 1)),
oP 72 (.call (.f 28) [true,false] [(.t 71),(cI 2)]),
mV 70 72,
oP 73 (.extract (.t 70) 0),
oP 74 (.extract (.t 70) 1),
mV 20 73,
mV 21 74] [3,4,5,6,7,8,9,10,11,12,13,14,15,17,18,19,20,21])
(.seq (.reg [oP 76 (.load (some 11) (.t 3)),
oP 77 (.call (.f 30) [true] [(.t 76)]),
mV 75 77,
oP 78 (.extract (.t 75) 0),
oP 79 (.extract (.t 75) 1),
mV 22 78,
mV 23 79] [3,4,5,6,7,8,9,10,11,12,13,14,15,17,18,19,20,21,22,23])
(.seq (.reg [oP 81 (.load (some 11) (.t 3)),
oP 82 (.lit 0 1 3 [(0,(cI 7)),(1,(cI 6)),(2,(cI 5))]),
oP 83 (.call (.f 32) [true,true] [(.t 81),(.t 82)]),
mV 80 83,
oP 84 (.extract (.t 80) 0),
oP 85 (.extract (.t 80) 1),
mV 24 84,
mV 25 85] [3,4,5,6,7,8,9,10,11,12,13,14,15,17,18,19,20,21,22,23,24,25])
(.seq (.reg [oP 87 (.load (some 11) (.t 3)),
oP 88 (.lit 0 1 2 [(0,(cI 7)),(1,(cI 6))]),
oP 89 (.call (.f 32) [true,true] [(.t 87),(.t 88)]),
mV 86 89,
oP 90 (.extract (.t 86) 0),
oP 91 (.extract (.t 86) 1),
mV 26 90,
mV 27 91] [4,5,6,7,8,9,10,11,12,13,14,15,17,18,19,20,21,22,23,24,25,26,27])
(.seq (.reg [mV 92 6,
oP 93 (.bin .eql (.t 92) (cI 0)),
mV 94 93,
gT 95 94 (.mv (.t 9)),
gT 96 94 (.bin .eql (.t 95) (cI 0)),
oP 97 (.pick (.t 94) (.t 96) (.c (.bool false))),
mV 98 97,
gT 99 98 (.mv (.t 11)),
gT 100 98 (.bin .eql (.t 99) (cI 0)),
oP 101 (.pick (.t 98) (.t 100) (.c (.bool false))),
mV 102 101,
gT 103 102 (.mv (.t 13)),
gT 104 102 (.bin .eql (.t 103) (cI 0)),
oP 105 (.pick (.t 102) (.t 104) (.c (.bool false))),
mV 106 105,
gT 107 106 (.mv (.t 15)),
gT 108 106 (.bin .eql (.t 107) (cI 0)),
oP 109 (.pick (.t 106) (.t 108) (.c (.bool false))),
mV 110 109,
gT 111 110 (.mv (.t 19)),
gT 112 110 (.bin .eql (.t 111) (cI 0)),
oP 113 (.pick (.t 110) (.t 112) (.c (.bool false))),
mV 114 113,
gT 115 114 (.mv (.t 21)),
gT 116 114 (.bin .eql (.t 115) (cI 0)),
oP 117 (.pick (.t 114) (.t 116) (.c (.bool false))),
mV 118 117,
gT 119 118 (.mv (.t 23)),
gT 120 118 (.bin .eql (.t 119) (cI 0)),
oP 121 (.pick (.t 118) (.t 120) (.c (.bool false))),
mV 122 121,
gT 123 122 (.mv (.t 25)),
gT 124 122 (.bin .eql (.t 123) (cI 0)),
oP 125 (.pick (.t 122) (.t 124) (.c (.bool false))),
mV 126 125,
gT 127 126 (.mv (.t 27)),
gT 128 126 (.bin .eql (.t 127) (cI 0)),
oP 129 (.pick (.t 126) (.t 128) (.c (.bool false))),
mV 130 129,
gT 131 130 (.mv (.t 17)),
gT 132 130 (.bin .eql (.t 131) (cI 9)),
oP 133 (.pick (.t 130) (.t 132) (.c (.bool false))),
mV 134 133,
gT 135 134 (.mv (.t 4)),
gT 136 134 (.bin .eql (.t 135) (cI 1)),
oP 137 (.pick (.t 134) (.t 136) (.c (.bool false))),
mV 138 137,
gT 139 138 (.mv (.t 5)),
gT 140 138 (.bin .eql (.t 139) (cI 4)),
oP 141 (.pick (.t 138) (.t 140) (.c (.bool false))),
mV 142 141,
gT 143 142 (.mv (.t 7)),
gT 144 142 (.bin .eql (.t 143) (cI 1)),
oP 145 (.pick (.t 142) (.t 144) (.c (.bool false))),
mV 146 145,
gT 147 146 (.mv (.t 8)),
gT 148 146 (.bin .eql (.t 147) (cI 3)),
oP 149 (.pick (.t 146) (.t 148) (.c (.bool false))),
mV 150 149,
gT 151 150 (.mv (.t 10)),
gT 152 150 (.lit 0 1 2 [(0,(cI 0)),(1,(cI 1))]),
gT 153 150 (.call (.f 20) [true,true] [(.t 151),(.t 152)]),
oP 154 (.pick (.t 150) (.t 153) (.c (.bool false))),
mV 155 154,
gT 156 155 (.mv (.t 12)),
gT 157 155 (.lit 0 1 1 [(0,(cI 0))]),
gT 158 155 (.call (.f 20) [true,true] [(.t 156),(.t 157)]),
oP 159 (.pick (.t 155) (.t 158) (.c (.bool false))),
mV 160 159,
gT 161 160 (.mv (.t 14)),
gT 162 160 (.lit 0 1 3 [(0,(cI 0)),(1,(cI 2)),(2,(cI 1))]),
gT 163 160 (.call (.f 20) [true,true] [(.t 161),(.t 162)]),
oP 164 (.pick (.t 160) (.t 163) (.c (.bool false))),
mV 165 164,
gT 166 165 (.mv (.t 18)),
gT 167 165 (.lit 0 1 1 [(0,(cI 1))]),
gT 168 165 (.call (.f 20) [true,true] [(.t 166),(.t 167)]),
oP 169 (.pick (.t 165) (.t 168) (.c (.bool false))),
mV 170 169,
gT 171 170 (.mv (.t 20)),
gT 172 170 (.lit 0 1 2 [(0,(cI 0)),(1,(cI 2))]),
gT 173 170 (.call (.f 20) [true,true] [(.t 171),(.t 172)]),
oP 174 (.pick (.t 170) (.t 173) (.c (.bool false))),
mV 175 174,
gT 176 175 (.mv (.t 22)),
gT 177 175 (.lit 0 1 3 [(0,(cI 5)),(1,(cI 6)),(2,(cI 7))]),
gT 178 175 (.call (.f 20) [true,true] [(.t 176),(.t 177)]),
oP 179 (.pick (.t 175) (.t 178) (.c (.bool false))),
mV 180 179,
gT 181 180 (.mv (.t 24)),
oP 182 (.pick (.t 180) (.t 181) (.c (.bool false))),
mV 183 182,
gT 184 183 (.mv (.t 26)),
gT 185 183 (.un .not (.t 184)),
oP 186 (.pick (.t 183) (.t 185) (.c (.bool false))),
mV 0 186] [0])
.ret)))))))))))))))))
abbrev QC : RsT := [(0,none)]
theorem SM : SpF 187 vI Nv QC := SpI Tryz.func23 (by kernel_rfl)
theorem ka : ak Tryz.prog vI = true := by kernel_rfl
abbrev Db : FuncId := 24
def LR : AC :=
(.seq (.reg [oP 1 (.pbox 11 (.t 0)),
oP 2 (.mv (.c (.slice 1 []))),
oP 3 (.mv (cI 0))] [1])
(.seq (.reg [oP 8 (.load (some 11) (.t 1)),
oP 9 (.call (.f 69) [true] [(.t 8)]),
mV 7 9,
oP 10 (.extract (.t 7) 0),
oP 11 (.extract (.t 7) 1),
mV 4 10,
mV 5 11] [4,5])
(.seq (.seq (.reg [mV 12 5,
oP 13 (.bin .neq (.t 12) (cI 0))] [4,5,13])
(.cond (.t 13)
(.seq (.reg [mV 14 5,
oP 2 (.mv (.c (.slice 1 []))),
mV 3 14] [2,3])
.ret)
.skip))
(.seq (.reg [mV 15 4,
oP 16 (.call (.f 70) [false] [(.t 15)]),
mV 6 16] [4,6])
(.seq (.seq (.reg [mV 17 6,
oP 18 (.len (.t 17)),
mV 19 4,
oP 20 (.nilchk (.t 19)),
oP 21 (.fieldAddr none 11 (.t 20)),
oP 22 (.load none (.t 21)),
oP 23 (.len (.t 22)),
oP 24 (.bin .lss (.t 18) (.t 23))] [6,24])
(.cond (.t 24)
(.seq (.reg [oP 2 (.mv (.c (.slice 1 []))),
oP 3 (.mv (cI 9))] [2,3])
.ret)
.skip))
(.seq (.reg [mV 25 6,
oP 2 (.mvd (.t 25)),
oP 3 (.mv (cI 0))] [2,3])
.ret))))))
abbrev SV : RsT := [(2,none),(3,none)]
theorem Re : SpF 26 Db LR SV := SpI Tryz.func24 (by kernel_rfl)
theorem zi : ak Tryz.prog Db = true := by kernel_rfl
abbrev TV : FuncId := 25
def T8 : AC :=
(.seq (.reg [oP 1 (.pbox 11 (.t 0)),
oP 2 (.mv (.c (.slice 1 []))),
oP 3 (.mv (cI 0))] [1])
(.seq (.reg [oP 12 (.load (some 11) (.t 1)),
oP 13 (.call (.f 63) [true,true] [(.t 12),(.c (.slice 1 []))]),
mV 11 13,
oP 14 (.extract (.t 11) 0),
oP 15 (.extract (.t 11) 1),
oP 16 (.extract (.t 11) 2),
oP 4 (.alloc [.int .i64 0, .slice 1 []]),
oN (.store 2 (.t 4) (.t 14)),
mV 5 15,
mV 6 16] [4,5,6])
(.frz 4 true (.seq (.seq (.reg [mV 17 6,
oP 18 (.bin .neq (.t 17) (cI 0))] [4,5,6,18])
(.cond (.t 18)
(.seq (.reg [mV 19 6,
oP 2 (.mv (.c (.slice 1 []))),
mV 3 19] [2,3])
.ret)
.skip))
(.seq (.reg [oP 20 (.load (some 2) (.t 4)),
oP 21 (.call (.f 67) [true] [(.t 20)]),
mV 7 21] [4,5,7])
(.seq (.seq (.reg [mV 22 7,
mV 23 5,
oP 24 (.ixS 1 (.t 22) (.t 23)),
oP 25 (.load none (.t 24)),
oP 26 (.un .not (.t 25))] [4,5,7,26])
(.cond (.t 26)
(.seq (.reg [oP 2 (.mv (.c (.slice 1 []))),
oP 3 (.mv (cI 9))] [2,3])
.ret)
.skip))
(.seq (.reg [oP 8 (.nilS 1 1)] [4,5,7,8])
(.seq (.block 0
(.loop [4,5,7,8]
(.seq (.seq (.reg [mV 27 5,
oP 28 (.bin .gtr (.t 27) (cI 0))] [4,5,7,8,28])
(.cond (.t 28)
.skip
(.exit 0)))
(.block 1
(.seq (.reg [oP 9 (.mv (cI (-1)))] [4,5,7,8,9])
(.seq (.seq (.reg [oP 29 (.fieldAddr none 0 (.t 4)),
oP 30 (.load none (.t 29)),
oP 31 (.bin .sub (.t 30) (cI 1)),
mV 10 31] [4,5,7,8,9,10])
(.block 2
(.loop [4,5,7,8,9,10]
(.seq (.seq (.reg [mV 32 10,
oP 33 (.bin .geq (.t 32) (cI 0))] [4,5,7,8,9,10,33])
(.cond (.t 33)
.skip
(.exit 2)))
(.seq (.block 3
(.seq (.reg [oP 36 (.fieldAddr none 1 (.t 4)),
oP 37 (.load none (.t 36)),
mV 38 5,
oP 39 (.ixS 1 (.t 37) (.t 38)),
oP 40 (.load none (.t 39)),
mV 41 10,
oP 42 (.ixS 1 (.t 40) (.t 41)),
oP 43 (.load none (.t 42)),
oP 44 (.bin .eql (.t 43) (cI 0)),
mV 45 44,
gT 46 45 (.mv (.t 7)),
gT 47 45 (.mv (.t 5)),
gT 48 45 (.mv (.t 10)),
gT 49 45 (.call (.f 68) [false] [(.t 48)]),
gT 50 45 (.bin .sub (.t 47) (.t 49)),
gT 51 45 (.ixS 1 (.t 46) (.t 50)),
gT 52 45 (.load none (.t 51)),
oP 53 (.pick (.t 45) (.t 52) (.c (.bool false)))] [4,5,7,8,9,10,53])
(.cond (.t 53)
(.reg [mV 54 10,
mV 9 54] [4,5,7,8,9,10])
.skip)))
(.reg [mV 34 10,
oP 35 (.bin .sub (.t 34) (cI 1)),
mV 10 35] [4,5,7,8,9,10]))))))
(.seq (.reg [mV 55 8,
mV 56 9,
oP 57 (.lit 0 1 1 [(0,(.t 56))]),
oP 58 (.append 1 8 (.t 55) (.t 57)),
mV 8 58] [4,5,7,8,9])
(.reg [mV 59 5,
mV 60 9,
oP 61 (.call (.f 68) [false] [(.t 60)]),
oP 62 (.bin .sub (.t 59) (.t 61)),
mV 5 62] [4,5,7,8]))))))))
(.seq (.reg [mV 63 8,
oP 2 (.mvd (.t 63)),
oP 3 (.mv (cI 0))] [2,3])
.ret)))))))))
abbrev Uj : RsT := [(2,none),(3,none)]
theorem Uh : SpF 64 TV T8 Uj := SpI Tryz.func25 (by kernel_rfl)
theorem Um : ak Tryz.prog TV = true := by kernel_rfl
abbrev EL : FuncId := 26
def Nn : AC :=
(.seq (.reg [oP 1 (.pbox 11 (.t 0)),
oP 2 (.mv (.c (.slice 1 []))),
oP 3 (.mv (cI 0))] [1])
(.seq (.reg [oP 7 (.load (some 11) (.t 1)),
oP 8 (.call (.f 69) [true] [(.t 7)]),
mV 6 8,
oP 9 (.extract (.t 6) 0),
oP 10 (.extract (.t 6) 1),
mV 4 9,
mV 5 10] [4,5])
(.seq (.seq (.reg [mV 11 5,
oP 12 (.bin .neq (.t 11) (cI 0))] [4,5,12])
(.cond (.t 12)
(.seq (.reg [mV 13 5,
oP 2 (.mv (.c (.slice 1 []))),
mV 3 13] [2,3])
.ret)
.skip))
(.seq (.reg [mV 14 4,
oP 15 (.call (.f 70) [false] [(.t 14)]),
oP 2 (.mvd (.t 15)),
oP 3 (.mv (cI 0))] [2,3])
.ret))))
abbrev R5 : RsT := [(2,none),(3,none)]
theorem QI : SpF 16 EL Nn R5 := SpI Tryz.func26 (by kernel_rfl)
theorem HU : ak Tryz.prog EL = true := by kernel_rfl
abbrev TX : FuncId := 27
def T7 : AC :=
(.seq (.reg [oP 1 (.pbox 11 (.t 0)),
oP 2 (.mv (.c (.slice 1 []))),
oP 3 (.mv (cI 0))] [1])
(.seq (.reg [oP 10 (.load (some 11) (.t 1)),
oP 11 (.call (.f 63) [true,true] [(.t 10),(.c (.slice 1 []))]),
mV 9 11,
oP 12 (.extract (.t 9) 0),
oP 13 (.extract (.t 9) 1),
oP 14 (.extract (.t 9) 2),
oP 4 (.alloc [.int .i64 0, .slice 1 []]),
oN (.store 2 (.t 4) (.t 12)),
mV 5 13,
mV 6 14] [4,5,6])
(.frz 4 true (.seq (.seq (.reg [mV 15 6,
oP 16 (.bin .neq (.t 15) (cI 0))] [4,5,6,16])
(.cond (.t 16)
(.seq (.reg [mV 17 6,
oP 2 (.mv (.c (.slice 1 []))),
mV 3 17] [2,3])
.ret)
.skip))
(.seq (.seq (.reg [oP 18 (.fieldAddr none 0 (.t 4)),
oP 19 (.load none (.t 18)),
mV 7 19] [4,5,7])
(.block 0
(.loop [4,5,7]
(.seq (.seq (.reg [mV 20 7,
oP 21 (.bin .gtr (.t 20) (cI 0))] [4,5,7,21])
(.cond (.t 21)
.skip
(.exit 0)))
(.seq (.block 1
(.seq (.reg [oP 24 (.load (some 2) (.t 4)),
mV 25 5,
mV 26 7,
oP 27 (.call (.f 71) [true,false,false,true] [(.t 24),(.t 25),(.t 26),(.c (.slice 1 []))]),
mV 8 27] [4,5,7,8])
(.seq (.reg [mV 28 8,
oP 29 (.len (.t 28)),
oP 30 (.bin .gtr (.t 29) (cI 0))] [4,5,7,8,30])
(.cond (.t 30)
(.seq (.reg [mV 31 8,
oP 32 (.ixS 1 (.t 31) (cI 0)),
oP 33 (.load none (.t 32)),
oP 2 (.mvd (.t 33)),
oP 3 (.mv (cI 0))] [2,3])
.ret)
.skip))))
(.reg [mV 22 7,
oP 23 (.bin .sub (.t 22) (cI 1)),
mV 7 23] [4,5,7]))))))
(.seq (.reg [oP 2 (.mv (.c (.slice 1 []))),
oP 3 (.mv (cI 0))] [2,3])
.ret))))))
abbrev Ul : RsT := [(2,none),(3,none)]
theorem Uo : SpF 34 TX T7 Ul := SpI Tryz.func27 (by kernel_rfl)
theorem Ud : ak Tryz.prog TX = true := by kernel_rfl
abbrev EB : FuncId := 28
def Lj : AC :=
(.seq (.reg [oP 2 (.pbox 11 (.t 0)),
oP 3 (.pbox 1 (.t 1)),
oP 4 (.alloc [.slice 1 []]),
oP 5 (.alloc [.int .i64 0])] [2,3,4,5])
(.seq (.reg [oP 10 (.load (some 11) (.t 2)),
oP 11 (.load none (.t 3)),
oP 12 (.lit 0 1 1 [(0,(.t 11))]),
oP 13 (.call (.f 55) [true,true] [(.t 10),(.t 12)]),
mV 9 13,
oP 14 (.extract (.t 9) 0),
oP 15 (.extract (.t 9) 1),
oP 6 (.alloc [.nilptr]),
oN (.store 1 (.t 6) (.t 14)),
mV 7 15] [3,4,5,6,7])
(.frz 6 false (.seq (.seq (.reg [mV 16 7,
oP 17 (.bin .neq (.t 16) (cI 0))] [3,4,5,6,7,17])
(.cond (.t 17)
(.seq (.reg [mV 18 7,
oN (.store 1 (.t 4) (.c (.slice 1 []))),
oN (.store 1 (.t 5) (.t 18))] [4,5])
.ret)
.skip))
(.seq (.seq (.reg [oP 19 (.load none (.t 6)),
oP 20 (.call (.f 72) [false] [(.t 19)])] [3,4,5,6,20])
(.block 0
(.bF (.t 20) [21] (.reg [oP 8 (.alloc [.int .i64 0, .slice 1 []]),
oN (.store 2 (.t 8) (.t 21))] [3,4,5,6,8])
(.block 1
(.seq (.reg [oP 22 (.load none (.t 6)),
oP 23 (.fieldAddr none 0 (.t 8)),
oP 24 (.load none (.t 23)),
oP 25 (.load none (.t 3)),
oP 26 (.call (.f 73) [false,false,false] [(.t 22),(.t 24),(.t 25)]),
oP 27 (.bin .eql (.t 26) (cI 0))] [3,4,5,8,27])
(.cond (.t 27)
(.seq (.dreg [oP 28 (.fieldAddr none 1 (.t 8)),
oP 29 (.load none (.t 28)),
oP 30 (.callA 1 (.f 74) [true] [(.t 29)]),
oP 31 (.load none (.t 3)),
oP 32 (.lit 0 1 1 [(0,(.t 31))]),
oP 33 (.append 1 8 (.t 30) (.t 32)),
oN (.store 1 (.t 4) (.t 33)),
oN (.store 1 (.t 5) (cI 0))] [4,5] [[],[0],[0,1],[],[3],[0,1,2,3,4],[0,1,2,3,4,5],[0,1,2,3,4,5,6]])
(.tX 4 0 1 .ret))
.skip))))))
(.seq (.reg [oN (.store 1 (.t 4) (.c (.slice 1 []))),
oN (.store 1 (.t 5) (cI 9))] [4,5])
.ret))))))
abbrev Sq : RsT := [(4,some none),(5,some none)]
theorem Sg : SpF 34 EB Lj Sq := SpI Tryz.func28 (by kernel_rfl)
theorem Ih : ak Tryz.prog EB = true := by kernel_rfl
abbrev TY : FuncId := 29
def T3 : AC :=
(.seq (.reg [oP 2 (.pbox 11 (.t 0)),
oP 4 (.mv (.c (.slice 1 []))),
oP 5 (.mv (cI 0))] [1,2])
(.seq (.reg [oP 13 (.load (some 11) (.t 2)),
oP 14 (.call (.f 63) [true,true] [(.t 13),(.c (.slice 1 []))]),
mV 12 14,
oP 15 (.extract (.t 12) 0),
oP 16 (.extract (.t 12) 1),
oP 17 (.extract (.t 12) 2),
oP 6 (.alloc [.int .i64 0, .slice 1 []]),
oN (.store 2 (.t 6) (.t 15)),
mV 7 16,
mV 8 17] [1,6,7,8])
(.frz 6 true (.seq (.seq (.reg [mV 18 8,
oP 19 (.bin .eql (.t 18) (cI 0)),
mV 20 19,
gT 21 20 (.mv (.t 1)),
gT 22 20 (.fieldAddr none 0 (.t 6)),
gT 23 20 (.load none (.t 22)),
gT 24 20 (.call (.f 54) [false,false] [(.t 21),(.t 23)]),
gT 25 20 (.un .not (.t 24)),
oP 26 (.pick (.t 20) (.t 25) (.c (.bool false)))] [1,6,7,8,26])
(.cond (.t 26)
(.reg [oP 8 (.mv (cI 4))] [1,6,7,8])
.skip))
(.seq (.seq (.reg [mV 27 8,
oP 28 (.bin .neq (.t 27) (cI 0))] [1,6,7,8,28])
(.cond (.t 28)
(.seq (.reg [mV 29 8,
oP 4 (.mv (.c (.slice 1 []))),
mV 5 29] [4,5])
.ret)
.skip))
(.seq (.seq (.reg [oP 9 (.mv (cI 1))] [1,6,7,9])
(.block 0
(.loop [1,6,7,9]
(.seq (.seq (.reg [mV 30 9,
oP 31 (.fieldAddr none 0 (.t 6)),
oP 32 (.load none (.t 31)),
oP 33 (.bin .leq (.t 30) (.t 32))] [1,6,7,9,33])
(.cond (.t 33)
.skip
(.exit 0)))
(.seq (.block 1
(.seq (.reg [oP 36 (.load (some 2) (.t 6)),
mV 37 7,
mV 38 9,
oP 39 (.call (.f 71) [true,false,false,true] [(.t 36),(.t 37),(.t 38),(.c (.slice 1 []))]),
mV 10 39] [1,6,7,9,10])
(.seq (.reg [oP 11 (.mv (cI 0))] [1,6,7,9,10,11])
(.block 2
(.loop [1,6,7,9,10,11]
(.seq (.seq (.reg [mV 40 11,
mV 41 10,
oP 42 (.len (.t 41)),
oP 43 (.bin .lss (.t 40) (.t 42))] [1,6,7,9,10,11,43])
(.cond (.t 43)
.skip
(.exit 2)))
(.seq (.block 3
(.seq (.reg [mV 46 10,
mV 47 11,
oP 48 (.ixS 1 (.t 46) (.t 47)),
oP 49 (.load none (.t 48)),
mV 50 9,
oP 51 (.bin .sub (.t 50) (cI 1)),
oP 52 (.ixS 1 (.t 49) (.t 51)),
oP 53 (.load none (.t 52)),
mV 54 1,
oP 55 (.bin .eql (.t 53) (.t 54))] [1,6,7,9,10,11,55])
(.cond (.t 55)
(.seq (.reg [mV 56 10,
mV 57 11,
oP 58 (.ixS 1 (.t 56) (.t 57)),
oP 59 (.load none (.t 58)),
oP 4 (.mvd (.t 59)),
oP 5 (.mv (cI 0))] [4,5])
.ret)
.skip)))
(.reg [mV 44 11,
oP 45 (.bin .add (.t 44) (cI 1)),
mV 11 45] [1,6,7,9,10,11]))))))))
(.reg [mV 34 9,
oP 35 (.bin .add (.t 34) (cI 1)),
mV 9 35] [1,6,7,9]))))))
(.seq (.reg [oP 4 (.mv (.c (.slice 1 []))),
oP 5 (.mv (cI 9))] [4,5])
.ret)))))))
abbrev T9 : RsT := [(4,none),(5,none)]
theorem Ug : SpF 60 TY T3 T9 := SpI Tryz.func29 (by kernel_rfl)
theorem Uk : ak Tryz.prog TY = true := by kernel_rfl
abbrev EM : FuncId := 30
def NY : AC :=
(.seq (.reg [oP 1 (.pbox 11 (.t 0)),
oP 2 (.alloc [.mint 1001]),
oP 3 (.alloc [.int .i64 0])] [1,2,3])
(.seq (.reg [oP 7 (.load (some 11) (.t 1)),
oP 8 (.call (.f 69) [true] [(.t 7)]),
mV 6 8,
oP 9 (.extract (.t 6) 0),
oP 10 (.extract (.t 6) 1),
mV 4 9,
oN (.store 1 (.t 3) (.t 10))] [2,3,4])
(.seq (.seq (.reg [oP 11 (.load none (.t 3)),
oP 12 (.bin .neq (.t 11) (cI 0))] [2,3,4,12])
(.cond (.t 12)
(.seq (.dreg [oP 13 (.load none (.t 3)),
oN (.store 1 (.t 2) (.c (.slice 1 []))),
oN (.store 1 (.t 3) (.t 13))] [2,3] [[],[],[0,1]])
.ret)
.skip))
(.seq (.seq (.reg [mV 14 4,
oP 15 (.call (.f 72) [false] [(.t 14)])] [2,3,15])
(.block 0
(.bF (.t 15) [16] (.reg [oP 5 (.alloc [.int .i64 0, .slice 1 []]),
oN (.store 2 (.t 5) (.t 16))] [2,3,5])
(.block 1
(.seq (.seq (.reg [oP 17 (.fieldAddr none 0 (.t 5)),
oP 18 (.load none (.t 17)),
oP 19 (.bin .eql (.t 18) (cI 0))] [2,3,5,19])
(.cond (.t 19)
(.seq (.reg [oN (.store 1 (.t 2) (.c (.slice 1 []))),
oN (.store 1 (.t 3) (cI 9))] [2,3])
.ret)
.skip))
(.reg [oP 20 (.load none (.t 2)),
oP 21 (.fieldAddr none 0 (.t 5)),
oP 22 (.load none (.t 21)),
oP 23 (.lit 0 1 1 [(0,(.t 22))]),
oP 24 (.append 1 8 (.t 20) (.t 23)),
oN (.store 1 (.t 2) (.t 24))] []))))))
(.seq (.reg [oP 25 (.load none (.t 2)),
oP 26 (.call (.f 75) [true] [(.t 25)])] [2,3])
(.tX 2 0 1 (.seq (.reg [oP 27 (.loadd none (.t 2)),
oN (.store 1 (.t 2) (.t 27)),
oN (.store 1 (.t 3) (cI 0))] [2,3])
.ret)))))))
abbrev Rz : RsT := [(2,some none),(3,some none)]
theorem R4 : SpF 28 EM NY Rz := SpI Tryz.func30 (by kernel_rfl)
theorem Qv : ak Tryz.prog EM = true := by kernel_rfl
abbrev D4 : FuncId := 32
def OS : AC :=
(.seq (.reg [oP 2 (.pbox 11 (.t 0)),
oP 3 (.pbox 1 (.t 1)),
oP 4 (.alloc [.bool false]),
oP 5 (.alloc [.int .i64 0])] [2,3,4,5])
(.seq (.reg [oP 13 (.load (some 11) (.t 2)),
oP 14 (.call (.f 69) [true] [(.t 13)]),
mV 12 14,
oP 15 (.extract (.t 12) 0),
oP 16 (.extract (.t 12) 1),
mV 6 15,
mV 7 16] [3,4,5,6,7])
(.seq (.block 0
(.seq (.reg [mV 18 7,
oP 19 (.bin .neq (.t 18) (cI 0)),
mV 17 19] [3,4,5,6,7,17])
(.cond (.t 17)
(.seq (.reg [mV 20 7,
oN (.store 1 (.t 4) (.c (.bool false))),
oN (.store 1 (.t 5) (.t 20))] [4,5])
.ret)
(.seq (.qreg [mV 22 6,
oP 23 (.call (.f 77) [false] [(.t 22)]),
oP 24 (.bin .add (.t 23) (cI 1)),
oP 25 (.load none (.t 3)),
oP 26 (.call (.f 49) [false,true] [(.t 24),(.t 25)]),
mV 21 26] [3,4,5,6,21] [[],[0],[0,1],[],[0,1,2,3],[0,1,2,3,4]] [([0,3],1),([2],4)] [5])
(.cond (.t 21)
(.seq (.reg [oN (.store 1 (.t 4) (.c (.bool false))),
oN (.store 1 (.t 5) (cI 7))] [4,5])
.ret)
(.seq (.qreg [oP 28 (.load none (.t 3)),
mV 29 6,
oP 30 (.call (.f 77) [false] [(.t 29)]),
oP 31 (.call (.f 78) [true,false] [(.t 28),(.t 30)]),
oP 32 (.un .not (.t 31)),
mV 33 32,
gF 34 33 (.load none (.t 3)),
gF 35 33 (.call (.f 78) [true,false] [(.t 34),(cI 0)]),
oP 36 (.pick (.t 33) (.c (.bool true)) (.t 35)),
mV 27 36] [3,4,5,6,27] [[],[],[1],[0,1,2],[0,1,2,3],[0,1,2,3,4],[0,1,2,3,4,5],[0,1,2,3,4,5,6],[0,1,2,3,4,5,6,7],[0,1,2,3,4,5,6,7,8]] [([0,1],2),([],3),([4,5,6],7)] [8,9])
(.cond (.t 27)
(.seq (.reg [oN (.store 1 (.t 4) (.c (.bool false))),
oN (.store 1 (.t 5) (cI 0))] [4,5])
.ret)
.skip)))))))
(.seq (.seq (.reg [oP 37 (.load none (.t 3)),
oP 38 (.len (.t 37)),
oP 39 (.mv (cI 0))] [3,4,5,6,37,38,39])
(.block 1
(.loop [3,4,5,6,37,38,39]
(.seq (.reg [oP 40 (.bin .lss (.t 39) (.t 38))] [3,4,5,6,37,38,39,40])
(.seq (.cond (.t 40)
.skip
(.exit 1))
(.seq (.block 2
(.seq (.reg [oP 41 (.ixS 1 (.t 37) (.t 39)),
oP 42 (.load none (.t 41)),
mV 9 42] [3,4,5,6,9,37,38,39])
(.seq (.reg [mV 43 6,
mV 44 9,
oP 45 (.call (.f 61) [false,false] [(.t 43),(.t 44)])] [3,4,5,6,37,38,39,45])
(.block 3
(.bF (.t 45) [46,47] (.reg [mV 11 47] [3,4,5,11])
(.block 4
(.seq (.reg [oP 48 (.load none (.t 3)),
mV 49 11,
oP 50 (.call (.f 78) [true,false] [(.t 48),(.t 49)]),
oP 51 (.un .not (.t 50))] [4,5,51])
(.cond (.t 51)
(.seq (.reg [oN (.store 1 (.t 4) (.c (.bool false))),
oN (.store 1 (.t 5) (cI 0))] [4,5])
.ret)
.skip))))))))
(.reg [oP 52 (.bin .add (.t 39) (cI 1)),
mV 39 52] [3,4,5,6,37,38,39])))))))
(.seq (.reg [oN (.store 1 (.t 4) (.c (.bool true))),
oN (.store 1 (.t 5) (cI 0))] [4,5])
.ret)))))
abbrev P1 : RsT := [(4,some none),(5,some none)]
theorem Qf : SpF 53 D4 OS P1 := SpI Tryz.func32 (by kernel_rfl)
theorem K1 : ak Tryz.prog D4 = true := by kernel_rfl
abbrev HN : FuncId := 34
def OX : AC :=
(.seq (.reg [oP 4 (.alloc [.slice 7 [], .slice 7 [], .int .i64 0, .int .i64 0, .int .i64 0, .int .i64 0, .slice 2 [], .slice 3 [], .slice 1 [], .slice 2 [], .slice 1 []])] [0,1,4])
(.seq (.reg [oP 5 (.mv (.f 79))] [0,1,4,5])
(.seq (.reg [mV 7 5,
⟨some 8,none, .call (.t 7) [false,false,false,false] [(.c (.str ⟨#[98,111,119]⟩)),(cI 2),(cI 0),(cI 10)]⟩,
mV 9 5,
⟨some 10,none, .call (.t 9) [false,false,false,false] [(.c (.str ⟨#[109,105,100]⟩)),(cI 1),(cI 5),(cI 30)]⟩,
mV 11 5,
⟨some 12,none, .call (.t 11) [false,false,false,false] [(.c (.str ⟨#[115,116,101,114,110]⟩)),(cI 1),(cI 25),(cI 40)]⟩,
oP 13 (.lit 2 7 3 [(0,(.t 8)),(1,(.t 10)),(2,(.t 12))]),
oP 14 (.build [.slice 7 []] [(0,1,(.t 13))]),
oP 15 (.call (.f 81) [] []),
oP 16 (.call (.f 80) [false,false] [(cI 0),(cI 60)]),
oP 17 (.call (.f 82) [false] [(.c (.bool false))]),
oP 18 (.lit 0 1 2 [(0,(cI 3)),(1,(cI 5))]),
oP 19 (.build [.int .i64 0, .bool false] [(0,1,(cI 3))]),
oP 20 (.build [.int .i64 0, .bool false] [(0,1,(cI 4))]),
oP 21 (.build [.int .i64 0, .bool false] [(0,1,(cI 3)),(1,1,(.c (.bool true)))]),
oP 22 (.build [.int .i64 0, .bool false] [(0,1,(cI 4)),(1,1,(.c (.bool true)))]),
oP 23 (.lit 0 2 4 [(0,(.t 19)),(1,(.t 20)),(2,(.t 21)),(3,(.t 22))]),
oP 24 (.lit 0 1 2 [(0,(cI 3)),(1,(cI 4))]),
oP 25 (.lit 2 1 3 [(0,(.c (.slice 1 []))),(1,(.t 24)),(2,(.c (.slice 1 [])))]),
oP 26 (.build [.slice 7 [], .slice 7 [], .int .i64 0, .int .i64 0, .int .i64 0, .int .i64 0, .slice 2 [], .slice 3 [], .slice 1 [], .slice 2 [], .slice 1 []] [(0,1,(.t 14)),(1,3,(.t 15)),(4,2,(.t 16)),(6,2,(.t 17)),(8,1,(.t 18)),(9,1,(.t 23)),(10,1,(.t 25))]),
oP 6 (.alloc [.slice 7 [], .slice 7 [], .int .i64 0, .int .i64 0, .int .i64 0, .int .i64 0, .slice 2 [], .slice 3 [], .slice 1 [], .slice 2 [], .slice 1 []]),
oN (.store 11 (.t 6) (.t 26))] [0,1,4,6])
(.seq (.seq (.reg [mV 27 0] [1,4,6,27])
(.cond (.t 27)
(.reg [oP 28 (.fieldAddr (some 1) 0 (.t 6)),
oP 29 (.fieldAddr none 0 (.t 28)),
oP 30 (.load none (.t 29)),
⟨some 31,none, .lit 0 1 1 [(0,(.c (.str ⟨#[98,111,119]⟩)))]⟩,
oP 32 (.ixS 7 (.t 30) (cI 1)),
oP 33 (.fieldAddr none 4 (.t 32)),
oN (.store 1 (.t 33) (.t 31))] [1,4,6])
.skip))
(.seq (.seq (.reg [mV 34 1] [4,6,34])
(.cond (.t 34)
(.reg [oP 35 (.fieldAddr none 10 (.t 6)),
oP 36 (.load none (.t 35)),
oP 37 (.lit 0 1 1 [(0,(cI 2))]),
oP 38 (.ixS 1 (.t 36) (cI 2)),
oN (.store 1 (.t 38) (.t 37))] [4,6])
.skip))
(.tX 6 0 7 (.tX 6 10 1 (.seq (.reg [oP 39 (.loadd (some 11) (.t 6)),
oN (.store 11 (.t 4) (.t 39))] [4])
.ret))))))))
abbrev QW : RsT := [(4,some (some 11))]
theorem R0 : SpF 40 HN OX QW := SpI Tryz.func34 (by kernel_rfl)
theorem IQ : ak Tryz.prog HN = true := by kernel_rfl
abbrev HQ : FuncId := 35
def Ow : AC :=
(.seq (.reg [oP 1 (.pbox 11 (.t 0)),
oP 2 (.mv (.c (.bool false)))] [1])
(.seq (.reg [oP 7 (.load (some 11) (.t 1)),
oP 8 (.call (.f 15) [true] [(.t 7)]),
mV 6 8,
oP 9 (.extract (.t 6) 0),
oP 10 (.extract (.t 6) 1),
oP 11 (.extract (.t 6) 2),
mV 3 9,
mV 4 10,
mV 5 11] [5])
(.seq (.reg [mV 12 5,
oP 13 (.bin .eql (.t 12) (cI 0)),
mV 2 13] [2])
.ret)))
abbrev Ru : RsT := [(2,none)]
theorem PU : SpF 14 HQ Ow Ru := SpI Tryz.func35 (by kernel_rfl)
theorem ra : ak Tryz.prog HQ = true := by kernel_rfl
abbrev IE : FuncId := 36
def Lp : AC :=
(.seq (.reg [oP 2 (.pbox 3 (.t 0)),
oP 4 (.alloc [.slice 1 [], .slice 1 []])] [1,2,4])
(.seq (.reg [oP 5 (.alloc [.mint 1, .mint 1])] [1,2,4,5])
(.seq (.seq (.reg [oP 6 (.mv (cI 0))] [1,2,4,5,6])
(.block 0
(.loop [1,2,4,5,6]
(.seq (.seq (.reg [mV 7 6,
oP 8 (.fieldAddr none 0 (.t 2)),
oP 9 (.load none (.t 8)),
oP 10 (.len (.t 9)),
oP 11 (.bin .lss (.t 7) (.t 10))] [1,2,4,5,6,11])
(.cond (.t 11)
.skip
(.exit 0)))
(.seq (.block 1
(.seq (.dreg [oP 14 (.fieldAddr none 0 (.t 5)),
oP 15 (.load none (.t 14)),
oP 16 (.fieldAddr none 0 (.t 2)),
oP 17 (.load none (.t 16)),
mV 18 6,
oP 19 (.ixS 7 (.t 17) (.t 18)),
oP 20 (.fieldAddr (some 2) 2 (.t 19)),
oP 21 (.load (some 2) (.t 20)),
mV 22 1,
mV 23 6,
oP 24 (.bin .mul (cI 2) (.t 23)),
oP 25 (.call (.f 84) [true,false] [(.t 22),(.t 24)]),
oP 26 (.call (.f 83) [false,false] [(.t 21),(.t 25)]),
oP 27 (.lit 0 1 1 [(0,(.t 26))]),
oP 28 (.append 1 8 (.t 15) (.t 27)),
oP 29 (.fieldAddr none 0 (.t 5)),
oN (.store 1 (.t 29) (.t 28))] [1,2,4,5,6] [[],[0],[],[2],[],[2,3,4],[2,3,4,5],[2,3,4,5,6],[],[],[9],[8,9,10],[2,3,4,5,6,7,8,9,10,11],[2,3,4,5,6,7,8,9,10,11,12],[0,1,2,3,4,5,6,7,8,9,10,11,12,13],[0,1,2,3,4,5,6,7,8,9,10,11,12,13,14],[0,1,2,3,4,5,6,7,8,9,10,11,12,13,14,15]])
(.dreg [oP 30 (.fieldAddr none 1 (.t 5)),
oP 31 (.load none (.t 30)),
oP 32 (.fieldAddr none 0 (.t 2)),
oP 33 (.load none (.t 32)),
mV 34 6,
oP 35 (.ixS 7 (.t 33) (.t 34)),
oP 36 (.fieldAddr (some 2) 5 (.t 35)),
oP 37 (.load (some 2) (.t 36)),
mV 38 1,
mV 39 6,
oP 40 (.bin .mul (cI 2) (.t 39)),
oP 41 (.bin .add (.t 40) (cI 1)),
oP 42 (.call (.f 84) [true,false] [(.t 38),(.t 41)]),
oP 43 (.call (.f 83) [false,false] [(.t 37),(.t 42)]),
oP 44 (.lit 0 1 1 [(0,(.t 43))]),
oP 45 (.append 1 8 (.t 31) (.t 44)),
oP 46 (.fieldAddr none 1 (.t 5)),
oN (.store 1 (.t 46) (.t 45))] [1,2,4,5,6] [[],[0],[],[2],[],[2,3,4],[2,3,4,5],[2,3,4,5,6],[],[],[9],[9,10],[8,9,10,11],[2,3,4,5,6,7,8,9,10,11,12],[2,3,4,5,6,7,8,9,10,11,12,13],[0,1,2,3,4,5,6,7,8,9,10,11,12,13,14],[0,1,2,3,4,5,6,7,8,9,10,11,12,13,14,15],[0,1,2,3,4,5,6,7,8,9,10,11,12,13,14,15,16]])))
(.reg [mV 12 6,
oP 13 (.bin .add (.t 12) (cI 1)),
mV 6 13] [1,2,4,5,6]))))))
(.seq (.reg [oP 47 (.loadd (some 2) (.t 5)),
oN (.store 2 (.t 4) (.t 47))] [4])
.ret))))
abbrev QH : RsT := [(4,some (some 2))]
theorem PE : SpF 48 IE Lp QH := SpI Tryz.func36 (by kernel_rfl)
theorem QR : ak Tryz.prog IE = true := by kernel_rfl
abbrev Fa : FuncId := 37
def OJ : AC :=
(.seq (.reg [oP 4 (.mv (.c (.bool false)))] [0,1])
(.seq (.seq (.reg [oP 5 (.mv (cI 0))] [0,1,5])
(.block 0
(.loop [0,1,5]
(.seq (.seq (.reg [mV 6 5,
mV 7 0,
oP 8 (.len (.t 7)),
oP 9 (.bin .lss (.t 6) (.t 8))] [0,1,5,9])
(.cond (.t 9)
.skip
(.exit 0)))
(.seq (.block 1
(.seq (.reg [mV 12 0,
mV 13 5,
oP 14 (.ixS 1 (.t 12) (.t 13)),
oP 15 (.load none (.t 14)),
mV 16 1,
oP 17 (.bin .eql (.t 15) (.t 16))] [0,1,5,17])
(.cond (.t 17)
(.seq (.reg [oP 4 (.mv (.c (.bool true)))] [4])
.ret)
.skip)))
(.reg [mV 10 5,
oP 11 (.bin .add (.t 10) (cI 1)),
mV 5 11] [0,1,5]))))))
(.seq (.reg [oP 4 (.mv (.c (.bool false)))] [4])
.ret)))
abbrev QE : RsT := [(4,none)]
theorem Qi : SpF 18 Fa OJ QE := SpI Tryz.func37 (by kernel_rfl)
theorem jc : ak Tryz.prog Fa = true := by kernel_rfl
abbrev Hs : FuncId := 38
def LF : AC :=
(.seq (.reg [oP 4 (.pbox 11 (.t 0)),
oP 6 (.pbox 2 (.t 2)),
oP 8 (.mv (.c (.bool false)))] [1,3,4,6])
(.seq (.reg [oP 12 (.fieldAddr (some 3) 1 (.t 4)),
oP 13 (.load (some 3) (.t 12)),
oP 14 (.buildm [.mint 1, .mint 1] []),
oP 9 (.alloc [.slice 7 [], .int .i64 0, .int .i64 0]),
oP 10 (.alloc [.slice 1 [], .slice 1 []]),
oN (.store 3 (.t 9) (.t 13)),
oN (.store 2 (.t 10) (.t 14))] [1,3,4,6,9,10])
(.seq (.reg [oP 15 (.fieldAddr none 0 (.t 9)),
oN (.storem 7 (.t 15))] [1,3,4,6,9,10])
(.seq (.seq (.reg [oP 11 (.mv (cI 0))] [1,3,4,6,9,10,11])
(.block 0
(.loop [1,3,4,6,9,10,11]
(.seq (.seq (.reg [mV 16 11,
oP 17 (.fieldAddr (some 3) 1 (.t 4)),
oP 18 (.fieldAddr none 0 (.t 17)),
oP 19 (.load none (.t 18)),
oP 20 (.len (.t 19)),
oP 21 (.bin .lss (.t 16) (.t 20))] [1,3,4,6,9,10,11,21])
(.cond (.t 21)
.skip
(.exit 0)))
(.seq (.block 1
(.seq (.reg [mV 24 1,
mV 25 11,
oP 26 (.call (.f 37) [true,false] [(.t 24),(.t 25)]),
oP 27 (.un .not (.t 26))] [1,3,4,6,9,10,11,27])
(.cond (.t 27)
(.seq (.dreg [oP 28 (.fieldAddr none 0 (.t 9)),
oP 29 (.load none (.t 28)),
oP 30 (.fieldAddr (some 3) 1 (.t 4)),
oP 31 (.fieldAddr none 0 (.t 30)),
oP 32 (.load none (.t 31)),
mV 33 11,
oP 34 (.ixS 7 (.t 32) (.t 33)),
oP 35 (.load (some 7) (.t 34)),
oP 36 (.lit 0 7 1 [(0,(.t 35))]),
oP 37 (.append 7 64 (.t 29) (.t 36)),
oP 38 (.fieldAddr none 0 (.t 9)),
oN (.store 1 (.t 38) (.t 37))] [1,3,4,6,9,10,11] [[],[0],[],[2],[2,3],[],[2,3,4,5],[2,3,4,5,6],[2,3,4,5,6,7],[0,1,2,3,4,5,6,7,8],[0,1,2,3,4,5,6,7,8,9],[0,1,2,3,4,5,6,7,8,9,10]])
(.dreg [oP 39 (.fieldAddr none 0 (.t 10)),
oP 40 (.load none (.t 39)),
oP 41 (.fieldAddr none 0 (.t 6)),
oP 42 (.load none (.t 41)),
mV 43 11,
oP 44 (.ixS 1 (.t 42) (.t 43)),
oP 45 (.load none (.t 44)),
oP 46 (.lit 0 1 1 [(0,(.t 45))]),
oP 47 (.append 1 8 (.t 40) (.t 46)),
oP 48 (.fieldAddr none 1 (.t 10)),
oP 49 (.load none (.t 48)),
oP 50 (.fieldAddr none 1 (.t 6)),
oP 51 (.load none (.t 50)),
mV 52 11,
oP 53 (.ixS 1 (.t 51) (.t 52)),
oP 54 (.load none (.t 53)),
oP 55 (.lit 0 1 1 [(0,(.t 54))]),
oP 56 (.append 1 8 (.t 49) (.t 55)),
oP 57 (.fieldAddr none 0 (.t 10)),
oN (.store 1 (.t 57) (.t 47)),
oP 58 (.fieldAddr none 1 (.t 10)),
oN (.store 1 (.t 58) (.t 56))] [1,3,4,6,9,10,11] [[],[0],[],[2],[],[2,3,4],[2,3,4,5],[2,3,4,5,6],[0,1,2,3,4,5,6,7],[],[9],[],[11],[],[11,12,13],[11,12,13,14],[11,12,13,14,15],[0,1,2,3,4,5,6,7,8,9,10,11,12,13,14,15,16],[0,1,2,3,4,5,6,7,8,9,10],[0,1,2,3,4,5,6,7,8,9,10,11,12,13,14,15,16,17,18],[0,1,2,3,4,5,6,7,8,9,10,11,12,13,14,15,16,17,18,19],[0,1,2,3,4,5,6,7,8,9,10,11,12,13,14,15,16,17,18,19,20]]))
.skip)))
(.reg [mV 22 11,
oP 23 (.bin .add (.t 22) (cI 1)),
mV 11 23] [1,3,4,6,9,10,11]))))))
(.seq (.reg [oP 59 (.fieldAddr none 0 (.t 9)),
oP 60 (.load none (.t 59)),
oP 61 (.len (.t 60)),
oP 62 (.bin .eql (.t 61) (cI 0)),
mV 63 62,
gF 64 63 (.load (some 3) (.t 9)),
gF 65 63 (.load (some 2) (.t 10)),
gF 66 63 (.mv (.t 3)),
gF 67 63 (.call (.f 86) [true,true,false] [(.t 64),(.t 65),(.t 66)]),
gF 68 63 (.call (.f 85) [false] [(.t 67)]),
gF 69 63 (.bin .eql (.t 68) (cI 0)),
oP 70 (.pick (.t 63) (.c (.bool true)) (.t 69)),
mV 8 70] [8])
.ret)))))
abbrev QG : RsT := [(8,none)]
theorem SK : SpF 71 Hs LF QG := SpI Tryz.func38 (by kernel_rfl)
theorem Q9 : ak Tryz.prog Hs = true := by kernel_rfl
abbrev HD : FuncId := 39
def Mx : AC :=
(.seq (.reg [oP 3 (.pbox 11 (.t 0)),
oP 6 (.mv (.c (.slice 1 [])))] [1,2,3])
(.seq (.reg [oP 13 (.load (some 11) (.t 3)),
oP 14 (.call (.f 57) [true] [(.t 13)]),
oP 7 (.alloc [.int .i64 0, .slice 1 []]),
oN (.store 2 (.t 7) (.t 14))] [1,2,7])
(.frz 7 true (.seq (.reg [oP 15 (.fieldAddr none 0 (.t 7)),
oP 16 (.load none (.t 15)),
oP 17 (.call (.f 68) [false] [(.t 16)]),
oP 18 (.bin .sub (.t 17) (cI 1)),
mV 8 18] [1,2,7,8])
(.seq (.reg [oP 9 (.nilS 1 1)] [1,2,7,8,9])
(.seq (.block 0
(.loop [1,2,7,8,9]
(.seq (.seq (.reg [mV 19 9,
oP 20 (.len (.t 19)),
mV 21 2,
oP 22 (.bin .lss (.t 20) (.t 21))] [1,2,7,8,9,22])
(.cond (.t 22)
.skip
(.exit 0)))
(.block 1
(.seq (.reg [oP 10 (.nilS 1 1)] [1,2,7,8,9,10])
(.seq (.seq (.reg [oP 11 (.mv (cI 0))] [1,2,7,8,9,10,11])
(.block 2
(.loop [1,2,7,8,9,10,11]
(.seq (.seq (.reg [mV 23 11,
oP 24 (.fieldAddr none 0 (.t 7)),
oP 25 (.load none (.t 24)),
oP 26 (.bin .lss (.t 23) (.t 25))] [1,2,7,8,9,10,11,26])
(.cond (.t 26)
.skip
(.exit 2)))
(.seq (.block 3
(.seq (.reg [oP 29 (.fieldAddr none 1 (.t 7)),
oP 30 (.load none (.t 29)),
mV 31 8,
oP 32 (.ixS 1 (.t 30) (.t 31)),
oP 33 (.load none (.t 32)),
mV 34 11,
oP 35 (.ixS 1 (.t 33) (.t 34)),
oP 36 (.load none (.t 35)),
oP 37 (.bin .eql (.t 36) (cI 0))] [1,2,7,8,9,10,11,37])
(.cond (.t 37)
(.reg [mV 38 10,
mV 39 11,
oP 40 (.lit 0 1 1 [(0,(.t 39))]),
oP 41 (.append 1 8 (.t 38) (.t 40)),
mV 10 41] [1,2,7,8,9,10,11])
.skip)))
(.reg [mV 27 11,
oP 28 (.bin .add (.t 27) (cI 1)),
mV 11 28] [1,2,7,8,9,10,11]))))))
(.seq (.seq (.reg [mV 42 10,
oP 43 (.len (.t 42)),
oP 44 (.bin .eql (.t 43) (cI 0))] [1,2,7,8,9,10,44])
(.cond (.t 44)
(.exit 0)
.skip))
(.seq (.reg [mV 45 10,
mV 46 1,
mV 47 9,
oP 48 (.len (.t 47)),
oP 49 (.call (.f 40) [true,false] [(.t 46),(.t 48)]),
mV 50 10,
oP 51 (.len (.t 50)),
oP 52 (.bin .rem (.t 49) (.t 51)),
oP 53 (.ixS 1 (.t 45) (.t 52)),
oP 54 (.load none (.t 53)),
mV 12 54] [1,2,7,8,9,12])
(.seq (.reg [mV 55 9,
mV 56 12,
oP 57 (.lit 0 1 1 [(0,(.t 56))]),
oP 58 (.append 1 8 (.t 55) (.t 57)),
mV 9 58] [1,2,7,8,9,12])
(.reg [mV 59 8,
mV 60 12,
oP 61 (.call (.f 68) [false] [(.t 60)]),
oP 62 (.bin .sub (.t 59) (.t 61)),
mV 8 62] [1,2,7,8,9]))))))))))
(.seq (.reg [mV 63 9,
oP 6 (.mvd (.t 63))] [6])
.ret)))))))
abbrev P5 : RsT := [(6,none)]
theorem Ql : SpF 64 HD Mx P5 := SpI Tryz.func39 (by kernel_rfl)
theorem BI : ak Tryz.prog HD = true := by kernel_rfl
abbrev H2 : FuncId := 40
def HI : AC :=
(.seq (.reg [oP 4 (.mv (cI 0))] [0,1])
(.seq (.seq (.reg [mV 5 0,
oP 6 (.len (.t 5)),
oP 7 (.bin .eql (.t 6) (cI 0))] [0,1,7])
(.cond (.t 7)
(.seq (.reg [oP 4 (.mv (cI 0))] [4])
.ret)
.skip))
(.seq (.reg [mV 8 0,
mV 9 1,
mV 10 0,
oP 11 (.len (.t 10)),
oP 12 (.bin .rem (.t 9) (.t 11)),
oP 13 (.ixS 1 (.t 8) (.t 12)),
oP 14 (.load none (.t 13)),
oP 15 (.conv .i64 (.t 14)),
mV 4 15] [4])
.ret)))
abbrev QY : RsT := [(4,none)]
theorem RQ : SpF 16 H2 HI QY := SpI Tryz.func40 (by kernel_rfl)
theorem IC : ak Tryz.prog H2 = true := by kernel_rfl
abbrev HY : FuncId := 41
def L9 : AC :=
(.seq (.reg [oP 2 (.pbox 11 (.t 0)),
oP 4 (.mv (cI 0))] [1,2])
(.seq (.reg [oP 10 (.load (some 11) (.t 2)),
oP 11 (.call (.f 15) [true] [(.t 10)]),
mV 9 11,
oP 12 (.extract (.t 9) 0),
oP 13 (.extract (.t 9) 1),
oP 14 (.extract (.t 9) 2),
mV 5 12,
mV 6 13,
mV 7 14] [1,2,7])
(.seq (.seq (.reg [oP 8 (.mv (cI 0))] [1,2,7,8])
(.block 0
(.loop [1,2,7,8]
(.seq (.seq (.reg [mV 15 8,
mV 16 1,
oP 17 (.len (.t 16)),
oP 18 (.bin .lss (.t 15) (.t 17)),
mV 19 18,
gT 20 19 (.mv (.t 7)),
gT 21 19 (.bin .eql (.t 20) (cI 0)),
oP 22 (.pick (.t 19) (.t 21) (.c (.bool false)))] [1,2,7,8,22])
(.cond (.t 22)
.skip
(.exit 0)))
(.seq (.block 1
(.seq (.dreg [mV 25 1,
mV 26 8,
oP 27 (.ixS 1 (.t 25) (.t 26)),
oP 28 (.load none (.t 27)),
oP 29 (.fieldAddr (some 1) 0 (.t 2)),
oP 30 (.fieldAddr none 0 (.t 29)),
oP 31 (.load none (.t 30)),
oP 32 (.len (.t 31)),
oP 33 (.call (.f 54) [false,false] [(.t 28),(.t 32)]),
oP 34 (.un .not (.t 33))] [1,2,7,8,34] [[],[],[0,1],[0,1,2],[],[4],[4,5],[4,5,6],[0,1,2,3,4,5,6,7],[0,1,2,3,4,5,6,7,8]])
(.cond (.t 34)
(.reg [oP 7 (.mv (cI 4))] [1,2,7,8])
.skip)))
(.reg [mV 23 8,
oP 24 (.bin .add (.t 23) (cI 1)),
mV 8 24] [1,2,7,8]))))))
(.seq (.reg [mV 35 7,
mV 4 35] [4])
.ret))))
abbrev SJ : RsT := [(4,none)]
theorem QX : SpF 36 HY L9 SJ := SpI Tryz.func41 (by kernel_rfl)
theorem Kh : ak Tryz.prog HY = true := by kernel_rfl
abbrev ID : FuncId := 42
def MB : AC :=
(.seq (.reg [oP 4 (.mv (.c (.slice 1 [])))] [0,1])
(.seq (.reg [mV 9 0,
oP 10 (.len (.t 9)),
oP 11 (.mksl 2 1 1 (.bool false) (.t 10) (.t 10)),
mV 5 11] [0,1,5])
(.seq (.seq (.reg [mV 12 1,
oP 13 (.bin .add (.t 12) (cI 1)),
mV 6 13] [0,1,5,6])
(.block 0
(.loop [0,1,5,6]
(.seq (.seq (.reg [mV 14 6,
mV 15 0,
oP 16 (.len (.t 15)),
oP 17 (.bin .lss (.t 14) (.t 16))] [0,1,5,6,17])
(.cond (.t 17)
.skip
(.exit 0)))
(.seq (.block 1
(.seq (.reg [oP 7 (.mv (cI 0))] [0,1,5,6,7])
(.block 2
(.loop [0,1,5,6,7]
(.seq (.seq (.reg [mV 20 7,
mV 21 0,
mV 22 6,
oP 23 (.ixS 7 (.t 21) (.t 22)),
oP 24 (.fieldAddr none 4 (.t 23)),
oP 25 (.load none (.t 24)),
oP 26 (.len (.t 25)),
oP 27 (.bin .lss (.t 20) (.t 26))] [0,1,5,6,7,27])
(.cond (.t 27)
.skip
(.exit 2)))
(.seq (.block 3
(.seq (.reg [mV 30 0,
mV 31 0,
mV 32 6,
oP 33 (.ixS 7 (.t 31) (.t 32)),
oP 34 (.fieldAddr none 4 (.t 33)),
oP 35 (.load none (.t 34)),
mV 36 7,
oP 37 (.ixS 1 (.t 35) (.t 36)),
oP 38 (.load none (.t 37)),
oP 39 (.call (.f 87) [true,false] [(.t 30),(.t 38)]),
mV 8 39] [0,1,5,6,7,8])
(.reg [mV 40 5,
mV 41 6,
mV 42 5,
mV 43 6,
oP 44 (.ixS 1 (.t 42) (.t 43)),
oP 45 (.load none (.t 44)),
mV 46 45,
gF 47 46 (.mv (.t 8)),
gF 48 46 (.mv (.t 1)),
gF 49 46 (.bin .eql (.t 47) (.t 48)),
oP 50 (.pick (.t 46) (.c (.bool true)) (.t 49)),
mV 51 50,
gF 52 51 (.mv (.t 5)),
gF 53 51 (.mv (.t 8)),
gF 54 51 (.ixS 1 (.t 52) (.t 53)),
gF 55 51 (.load none (.t 54)),
oP 56 (.pick (.t 51) (.c (.bool true)) (.t 55)),
oP 57 (.ixS 1 (.t 40) (.t 41)),
oN (.store 1 (.t 57) (.t 56))] [0,1,5,6,7])))
(.reg [mV 28 7,
oP 29 (.bin .add (.t 28) (cI 1)),
mV 7 29] [0,1,5,6,7])))))))
(.reg [mV 18 6,
oP 19 (.bin .add (.t 18) (cI 1)),
mV 6 19] [0,1,5,6]))))))
(.seq (.reg [oP 58 (.freeze 1 (.t 5)),
oP 4 (.mvd (.t 58))] [4])
.ret))))
abbrev RC : RsT := [(4,none)]
theorem RG : SpF 59 ID MB RC := SpI Tryz.func42 (by kernel_rfl)
theorem PQ : ak Tryz.prog ID = true := by kernel_rfl
abbrev v5 : FuncId := 43
def EY : AC :=
(.seq (.reg [mV 6 3,
oP 7 (.isnil true (.t 6))] [0,1,2,3,7])
(.cond (.t 7)
(.seq (.reg [mV 8 3,
oP 9 (.assert 81 (.t 8)),
oP 4 (.alloc [.int .i64 0, .int .i64 0, .int .i64 0]),
oN (.store 3 (.t 4) (.t 9))] [0,1,2,4])
(.frz 4 true (.dreg [oP 10 (.fieldAddr none 0 (.t 4)),
oP 11 (.load none (.t 10)),
oP 12 (.fieldAddr none 1 (.t 4)),
oP 13 (.load none (.t 12)),
oP 14 (.fieldAddr none 2 (.t 4)),
oP 15 (.load none (.t 14)),
oN (.store 1 (.t 0) (.t 11)),
oN (.store 1 (.t 1) (.t 13)),
oN (.store 1 (.t 2) (.t 15))] [] [[],[0],[],[2],[],[4],[0,1],[0,1,2,3,6],[0,1,2,3,4,5,6,7]])))
.skip))
theorem sh : AK Tryz.prog Tryz.f43 16 5 3 EY = true := by kernel_rfl
theorem LP {args : List ab} {σ : af} {m : PM} {Q : PM → af → Prop} (ha : args.length ≤ 16) (h : AW Tryz.prog 16 none EY (v7 (Q m.after)) { v := (3,m.val) :: (5, .undef) :: cZ args 0,ds := [] } σ) : gV Tryz.prog v5 args σ m Q := gV.yf Tryz.func43 sh ha h
theorem J4 : ak Tryz.prog v5 = true := by kernel_rfl
abbrev IB : FuncId := 44
def Pa : AC :=
(.seq (.reg [oP 1 (.pbox 2 (.t 0)),
oP 2 (.mv (cI 0)),
oP 3 (.mv (cI 0)),
oP 4 (.mv (cI 0))] [1])
(.seq (.reg [oP 6 (.load (some 2) (.t 1)),
oP 7 (.call (.f 88) [true,false] [(.t 6),(cI 0)]),
mV 5 7,
oP 8 (.extract (.t 5) 0),
oP 9 (.extract (.t 5) 1),
oP 10 (.extract (.t 5) 2),
oP 11 (.extract (.t 5) 3),
mV 2 9,
mV 3 10,
mV 4 11] [2,3,4])
(.seq (.reg [mV 12 2,
mV 13 3,
mV 14 4,
mV 2 12,
mV 3 13,
mV 4 14] [2,3,4])
.ret)))
abbrev QJ : RsT := [(2,none),(3,none),(4,none)]
theorem PC : SpF 15 IB Pa QJ := SpI Tryz.func44 (by kernel_rfl)
theorem Qp : ak Tryz.prog IB = true := by kernel_rfl
abbrev IJ : FuncId := 45
def I4 : AC :=
(.seq (.reg [mV 6 2,
oP 7 (.bin .neq (.t 6) (cI 0))] [0,1,2,7])
(.cond (.t 7)
(.reg [mV 8 0,
mV 9 1,
mV 10 2,
oP 11 (.build [.int .i64 0, .int .i64 0, .int .i64 0] [(0,1,(.t 8)),(1,1,(.t 9)),(2,1,(.t 10))]),
oP 12 (.mkiface 81 (.t 11)),
oN (.panic (.t 12))] [])
.skip))
abbrev Qx : RsT := []
theorem R8 : SpF 13 IJ I4 Qx := SpI Tryz.func45 (by kernel_rfl)
theorem pI : ak Tryz.prog IJ = true := by kernel_rfl
abbrev Fm : FuncId := 46
def KY : AC :=
(.seq (.reg [oP 1 (.pbox 3 (.t 0)),
oP 2 (.mv (cI 0)),
oP 3 (.mv (cI 0)),
oP 4 (.mv (cI 0))] [1])
(.seq (.block 0
(.seq (.reg [oP 8 (.fieldAddr none 0 (.t 1)),
oP 9 (.load none (.t 8)),
oP 10 (.len (.t 9)),
oP 11 (.lit 0 1 1 [(0,(.t 10))]),
oP 12 (.call (.f 89) [false,false,true] [(cI 1),(cI 10),(.t 11)]),
mV 7 12] [1,7])
(.cond (.t 7)
(.seq (.reg [oP 2 (.mv (cI 1)),
oP 3 (.mv (cI 0)),
oP 4 (.mv (cI 3))] [2,3,4])
.ret)
(.seq (.reg [oP 14 (.fieldAddr none 1 (.t 1)),
oP 15 (.load none (.t 14)),
oP 16 (.fieldAddr none 2 (.t 1)),
oP 17 (.load none (.t 16)),
oP 18 (.lit 0 1 2 [(0,(.t 15)),(1,(.t 17))]),
oP 19 (.call (.f 89) [false,false,true] [(cI 0),(cI 5000),(.t 18)]),
mV 13 19] [1,13])
(.cond (.t 13)
(.seq (.reg [oP 2 (.mv (cI 1)),
oP 3 (.mv (cI 0)),
oP 4 (.mv (cI 7))] [2,3,4])
.ret)
(.seq (.reg [oP 21 (.fieldAddr none 1 (.t 1)),
oP 22 (.load none (.t 21)),
oP 23 (.fieldAddr none 2 (.t 1)),
oP 24 (.load none (.t 23)),
oP 25 (.bin .geq (.t 22) (.t 24)),
mV 20 25] [1,20])
(.cond (.t 20)
(.seq (.reg [oP 2 (.mv (cI 1)),
oP 3 (.mv (cI 0)),
oP 4 (.mv (cI 2))] [2,3,4])
.ret)
.skip)))))))
(.seq (.seq (.reg [oP 26 (.fieldAddr none 0 (.t 1)),
oP 27 (.load none (.t 26)),
oP 28 (.len (.t 27)),
oP 29 (.mv (cI 0))] [1,27,28,29])
(.block 1
(.loop [1,27,28,29]
(.seq (.reg [oP 30 (.bin .lss (.t 29) (.t 28))] [1,27,28,29,30])
(.seq (.cond (.t 30)
.skip
(.exit 1))
(.seq (.block 2
(.seq (.reg [mV 31 29,
oP 32 (.ixS 7 (.t 27) (.t 29)),
oP 33 (.load (some 7) (.t 32)),
oP 6 (.alloc [.str ByteArray.empty, .int .i64 0, .int .i64 0, .int .i64 0, .int .i64 0, .int .i64 0, .int .i64 0]),
mV 5 31,
oN (.store 7 (.t 6) (.t 33))] [1,5,6,27,28,29])
(.frz 6 true (.seq (.block 3
(.seq (.reg [oP 35 (.fieldAddr none 0 (.t 6)),
oP 36 (.load none (.t 35)),
oP 37 (.call (.f 90) [false] [(.t 36)]),
oP 38 (.un .not (.t 37)),
mV 34 38] [1,5,6,27,28,29,34])
(.cond (.t 34)
(.seq (.reg [mV 39 5,
oP 2 (.mv (cI 2)),
mV 3 39,
oP 4 (.mv (cI 6))] [2,3,4])
.ret)
(.seq (.reg [oP 41 (.fieldAddr none 0 (.t 1)),
oP 42 (.load none (.t 41)),
mV 43 5,
oP 44 (.subq 7 (.t 42) none (some (.t 43))),
oP 45 (.mkfunc (.func 92) [] [(.t 6)]),
oP 46 (.call (.f 91) [true,false] [(.t 44),(.t 45)]),
mV 40 46] [1,5,6,27,28,29,40])
(.cond (.t 40)
(.seq (.reg [mV 47 5,
oP 2 (.mv (cI 2)),
mV 3 47,
oP 4 (.mv (cI 5))] [2,3,4])
.ret)
.skip)))))
(.seq (.reg [oP 48 (.load (some 7) (.t 6)),
oP 49 (.call (.f 93) [false] [(.t 48)]),
mV 4 49] [1,4,5,27,28,29])
(.seq (.reg [mV 50 4,
oP 51 (.bin .neq (.t 50) (cI 0))] [1,4,5,27,28,29,51])
(.cond (.t 51)
(.seq (.reg [mV 52 5,
mV 53 4,
oP 2 (.mv (cI 2)),
mV 3 52,
mV 4 53] [2,3,4])
.ret)
.skip)))))))
(.reg [oP 54 (.bin .add (.t 29) (cI 1)),
mV 29 54] [1,27,28,29])))))))
(.seq (.reg [oP 2 (.mv (cI 0)),
oP 3 (.mv (cI 0)),
oP 4 (.mv (cI 0))] [2,3,4])
.ret))))
abbrev P7 : RsT := [(2,none),(3,none),(4,none)]
theorem Q5 : SpF 55 Fm KY P7 := SpI Tryz.func46 (by kernel_rfl)
theorem MG : ak Tryz.prog Fm = true := by kernel_rfl
abbrev II : FuncId := 47
def LL : AC :=
(.seq (.reg [oP 2 (.pbox 3 (.t 0)),
oP 3 (.pbox 2 (.t 1)),
oP 4 (.mv (cI 0)),
oP 5 (.mv (cI 0)),
oP 6 (.mv (cI 0))] [2,3])
(.seq (.seq (.reg [oP 8 (.load (some 3) (.t 2)),
oP 9 (.call (.f 46) [true] [(.t 8)]),
mV 7 9,
oP 10 (.extract (.t 7) 0),
oP 11 (.extract (.t 7) 1),
oP 12 (.extract (.t 7) 2),
mV 6 12] [2,3,6])
(.seq (.reg [mV 13 6,
oP 14 (.bin .eql (.t 13) (cI 0))] [2,3,6,14])
(.cond (.t 14)
(.reg [oP 15 (.load (some 2) (.t 3)),
oP 16 (.call (.f 94) [false] [(.t 15)]),
mV 6 16] [2,3,6])
.skip)))
(.seq (.seq (.reg [mV 17 6,
oP 18 (.bin .neq (.t 17) (cI 0))] [2,3,6,18])
(.cond (.t 18)
(.seq (.reg [mV 19 6,
oP 4 (.mv (cI 0)),
oP 5 (.mv (cI 0)),
mV 6 19] [4,5,6])
.ret)
.skip))
(.seq (.reg [oP 21 (.load (some 3) (.t 2)),
oP 22 (.build [.slice 7 [], .int .i64 0, .int .i64 0] [(0,3,(.t 21))]),
oP 23 (.load (some 2) (.t 3)),
oP 24 (.call (.f 95) [true,false] [(.t 22),(.t 23)]),
mV 20 24,
oP 25 (.extract (.t 20) 0),
oP 26 (.extract (.t 20) 1),
mV 4 25,
mV 5 26] [4,5])
(.seq (.reg [mV 27 4,
mV 28 5,
mV 4 27,
mV 5 28,
oP 6 (.mv (cI 0))] [4,5,6])
.ret)))))
abbrev RL : RsT := [(4,none),(5,none),(6,none)]
theorem Rl : SpF 29 II LL RL := SpI Tryz.func47 (by kernel_rfl)
theorem NS : ak Tryz.prog II = true := by kernel_rfl
abbrev EP : FuncId := 48
def Ld : AC :=
(.seq (.reg [oP 3 (.pbox 2 (.t 0)),
oP 6 (.alloc [.slice 1 [], .slice 1 []]),
oP 7 (.mv (cI 0))] [1,2,3,6])
(.seq (.reg [oP 16 (.load (some 2) (.t 3)),
mV 17 1,
oP 18 (.call (.f 96) [true,true,true,false] [(.t 16),(.t 17),(.c (.slice 1 [])),(.c (.bool false))]),
mV 15 18,
oP 19 (.extract (.t 15) 0),
oP 20 (.extract (.t 15) 1),
mV 8 19,
mV 9 20] [2,6,8,9])
(.seq (.block 0
(.seq (.reg [mV 22 9,
oP 23 (.bin .neq (.t 22) (cI 0)),
mV 21 23] [2,6,8,9,21])
(.cond (.t 21)
(.seq (.reg [oP 24 (.build [.slice 1 [], .slice 1 []] []),
mV 25 9,
oN (.store 2 (.t 6) (.t 24)),
mV 7 25] [6,7])
.ret)
(.seq (.reg [mV 27 2,
oP 28 (.len (.t 27)),
oP 29 (.bin .gtr (.t 28) (cI 60)),
mV 26 29] [2,6,8,26])
(.cond (.t 26)
(.seq (.reg [oP 30 (.build [.slice 1 [], .slice 1 []] []),
oN (.store 2 (.t 6) (.t 30)),
oP 7 (.mv (cI 3))] [6,7])
.ret)
.skip)))))
(.seq (.reg [oP 10 (.alloc [.int .u64 0, .int .u64 0])] [2,6,8,10])
(.seq (.seq (.reg [mV 31 2,
oP 32 (.len (.t 31)),
oP 33 (.mv (cI 0))] [6,8,10,31,32,33])
(.block 1
(.loop [6,8,10,31,32,33]
(.seq (.reg [oP 34 (.bin .lss (.t 33) (.t 32))] [6,8,10,31,32,33,34])
(.seq (.cond (.t 34)
.skip
(.exit 1))
(.seq (.block 2
(.seq (.reg [oP 35 (.ixS 2 (.t 31) (.t 33)),
oP 36 (.load (some 2) (.t 35)),
oP 12 (.alloc [.int .i64 0, .bool false]),
oN (.store 2 (.t 12) (.t 36))] [6,8,10,12,31,32,33])
(.frz 12 true (.seq (.seq (.dreg [mV 37 8,
oP 38 (.nilchk (.t 37)),
oP 39 (.fieldAddr (some 2) 0 (.t 38)),
oP 40 (.fieldAddr none 0 (.t 39)),
oP 41 (.load none (.t 40)),
oP 42 (.len (.t 41)),
oP 43 (.fieldAddr none 0 (.t 12)),
oP 44 (.load none (.t 43)),
oP 45 (.lit 0 1 1 [(0,(.t 44))]),
oP 46 (.call (.f 97) [false,true] [(.t 42),(.t 45)])] [6,8,10,12,31,32,33,46] [[],[0],[0,1],[0,1,2],[0,1,2,3],[0,1,2,3,4],[],[6],[6,7],[0,1,2,3,4,5,6,7,8]])
(.cond (.t 46)
(.seq (.reg [oP 47 (.build [.slice 1 [], .slice 1 []] []),
oN (.store 2 (.t 6) (.t 47)),
oP 7 (.mv (cI 4))] [6,7])
.ret)
.skip))
(.seq (.reg [mV 49 8,
oP 50 (.load (some 2) (.t 10)),
oP 51 (.load (some 2) (.t 12)),
oP 52 (.call (.f 98) [false,false,false] [(.t 49),(.t 50),(.t 51)]),
mV 48 52,
oP 53 (.extract (.t 48) 0),
oP 54 (.extract (.t 48) 1),
oP 13 (.alloc [.int .u64 0, .int .u64 0]),
oN (.store 2 (.t 13) (.t 53)),
mV 14 54] [6,8,10,13,14,31,32,33])
(.frz 13 true (.seq (.seq (.reg [mV 55 14,
oP 56 (.un .not (.t 55))] [6,8,10,13,31,32,33,56])
(.cond (.t 56)
(.seq (.reg [oP 57 (.build [.slice 1 [], .slice 1 []] []),
oN (.store 2 (.t 6) (.t 57)),
oP 7 (.mv (cI 2))] [6,7])
.ret)
.skip))
(.reg [oP 58 (.load (some 2) (.t 13)),
oN (.store 2 (.t 10) (.t 58))] [6,8,10,31,32,33]))))))))
(.reg [oP 59 (.bin .add (.t 33) (cI 1)),
mV 33 59] [6,8,10,31,32,33])))))))
(.seq (.dreg [oP 60 (.fieldAddr none 0 (.t 10)),
oP 61 (.load none (.t 60)),
oP 62 (.call (.f 99) [false] [(.t 61)]),
oP 63 (.fieldAddr none 1 (.t 10)),
oP 64 (.load none (.t 63)),
oP 65 (.call (.f 99) [false] [(.t 64)]),
oP 66 (.build [.slice 1 [], .slice 1 []] [(0,1,(.t 62)),(1,1,(.t 65))]),
oN (.store 2 (.t 6) (.t 66)),
oP 7 (.mv (cI 0))] [6,7] [[],[0],[0,1],[],[3],[0,1,2,3,4],[0,1,2,3,4,5],[0,1,2,3,4,5,6],[0,1,2,3,4,5,6,7]])
.ret))))))
abbrev RW : RsT := [(6,some (some 2)),(7,none)]
theorem R1 : SpF 67 EP Ld RW := SpI Tryz.func48 (by kernel_rfl)
theorem JC : ak Tryz.prog EP = true := by kernel_rfl
abbrev Hp : FuncId := 49
def J3 : AC :=
(.seq (.reg [oP 2 (.pbox 1 (.t 0)),
oP 4 (.mv (.c (.bool false)))] [1,2])
(.seq (.reg [mV 5 1,
oP 6 (.mkfunc (.func 101) [] [(.t 2)]),
oP 7 (.call (.f 100) [true,false] [(.t 5),(.t 6)]),
mV 4 7] [4])
.ret))
abbrev QO : RsT := [(4,none)]
theorem Sv : SpF 8 Hp J3 QO := SpI Tryz.func49 (by kernel_rfl)
theorem Bx : ak Tryz.prog Hp = true := by kernel_rfl
abbrev IG : FuncId := 50
def Jq : AC :=
(.seq (.reg [oP 1 (.pbox 2 (.t 0)),
oP 2 (.mv (cI 0)),
oP 3 (.mv (cI 0)),
oP 4 (.mv (cI 0))] [1])
(.seq (.reg [oP 13 (.fieldAddr (some 1) 0 (.t 1)),
oP 14 (.fieldAddr none 0 (.t 13)),
oP 15 (.load none (.t 14)),
mV 5 15] [1,5])
(.seq (.seq (.reg [mV 16 5,
oP 17 (.len (.t 16)),
oP 18 (.bin .gtr (.t 17) (cI 12))] [1,5,18])
(.cond (.t 18)
(.seq (.reg [oP 2 (.mv (cI 1)),
oP 3 (.mv (cI 0)),
oP 4 (.mv (cI 3))] [2,3,4])
.ret)
.skip))
(.seq (.seq (.reg [oP 6 (.mv (cI 0))] [1,5,6])
(.block 0
(.loop [1,5,6]
(.seq (.seq (.reg [mV 19 6,
mV 20 5,
oP 21 (.len (.t 20)),
oP 22 (.bin .lss (.t 19) (.t 21))] [1,5,6,22])
(.cond (.t 22)
.skip
(.exit 0)))
(.seq (.block 1
(.seq (.dreg [mV 25 5,
mV 26 6,
oP 27 (.ixS 7 (.t 25) (.t 26)),
oP 28 (.load (some 7) (.t 27)),
mV 29 5,
mV 30 6,
oP 31 (.subq 7 (.t 29) none (some (.t 30))),
mV 32 5,
mV 33 6,
oP 34 (.subq 7 (.t 32) none (some (.t 33))),
oP 35 (.call (.f 102) [true,true,true] [(.t 28),(.t 31),(.t 34)]),
mV 7 35] [1,5,6,7] [[],[],[0,1],[0,1,2],[],[],[4,5],[],[],[7,8],[0,1,2,3,4,5,6,7,8,9],[0,1,2,3,4,5,6,7,8,9,10]])
(.seq (.reg [mV 36 7,
oP 37 (.bin .neq (.t 36) (cI 0))] [1,5,6,7,37])
(.cond (.t 37)
(.seq (.reg [mV 38 6,
mV 39 7,
oP 2 (.mv (cI 1)),
mV 3 38,
mV 4 39] [2,3,4])
.ret)
.skip))))
(.reg [mV 23 6,
oP 24 (.bin .add (.t 23) (cI 1)),
mV 6 24] [1,5,6]))))))
(.seq (.seq (.reg [oP 40 (.fieldAddr none 1 (.t 1)),
oP 41 (.load none (.t 40)),
oP 42 (.len (.t 41)),
oP 43 (.bin .gtr (.t 42) (cI 8))] [1,5,43])
(.cond (.t 43)
(.seq (.reg [oP 2 (.mv (cI 2)),
oP 3 (.mv (cI 0)),
oP 4 (.mv (cI 3))] [2,3,4])
.ret)
.skip))
(.seq (.reg [oP 8 (.mv (cI 0))] [1,5,8])
(.seq (.seq (.reg [oP 9 (.mv (cI 0))] [1,5,8,9])
(.block 2
(.loop [1,5,8,9]
(.seq (.seq (.reg [mV 44 9,
oP 45 (.fieldAddr none 1 (.t 1)),
oP 46 (.load none (.t 45)),
oP 47 (.len (.t 46)),
oP 48 (.bin .lss (.t 44) (.t 47))] [1,5,8,9,48])
(.cond (.t 48)
.skip
(.exit 2)))
(.seq (.block 3
(.seq (.reg [oP 51 (.fieldAddr none 1 (.t 1)),
oP 52 (.load none (.t 51)),
mV 53 9,
oP 54 (.ixS 10 (.t 52) (.t 53)),
oP 55 (.load (some 10) (.t 54)),
oP 10 (.alloc [.int .i64 0, .int .i64 0, .str ByteArray.empty, .str ByteArray.empty, .int .i64 0, .int .i64 0, .int .i64 0, .slice 1 [], .int .i64 0, .int .i64 0]),
oN (.store 10 (.t 10) (.t 55))] [1,5,8,9,10])
(.frz 10 true (.seq (.seq (.reg [oP 56 (.fieldAddr none 1 (.t 10)),
oP 57 (.load none (.t 56)),
mV 58 8,
oP 59 (.call (.f 103) [false,false,false] [(.t 57),(.t 58),(cI 40000)]),
oP 60 (.un .not (.t 59))] [1,5,9,10,60])
(.cond (.t 60)
(.seq (.reg [mV 61 9,
oP 2 (.mv (cI 2)),
mV 3 61,
oP 4 (.mv (cI 7))] [2,3,4])
.ret)
.skip))
(.seq (.seq (.reg [oP 62 (.load (some 10) (.t 10)),
oP 63 (.call (.f 104) [true] [(.t 62)]),
oP 64 (.un .not (.t 63))] [1,5,9,10,64])
(.cond (.t 64)
(.seq (.reg [mV 65 9,
oP 2 (.mv (cI 2)),
mV 3 65,
oP 4 (.mv (cI 6))] [2,3,4])
.ret)
.skip))
(.seq (.reg [mV 67 5,
oP 68 (.load (some 10) (.t 10)),
oP 69 (.call (.f 105) [true,true] [(.t 67),(.t 68)]),
mV 66 69,
oP 70 (.extract (.t 66) 0),
oP 71 (.extract (.t 66) 1),
mV 11 70,
mV 12 71] [1,9,10,11,12])
(.seq (.seq (.reg [mV 72 12,
oP 73 (.bin .neq (.t 72) (cI 0))] [1,9,10,11,12,73])
(.cond (.t 73)
(.seq (.reg [mV 74 9,
mV 75 12,
oP 2 (.mv (cI 2)),
mV 3 74,
mV 4 75] [2,3,4])
.ret)
.skip))
(.dreg [mV 76 11,
oP 77 (.fieldAddr none 1 (.t 10)),
oP 78 (.load none (.t 77)),
mV 5 76,
mV 8 78] [1,5,8,9] [[],[],[1],[0],[0,1,2,3]]))))))))
(.reg [mV 49 9,
oP 50 (.bin .add (.t 49) (cI 1)),
mV 9 50] [1,5,8,9]))))))
(.seq (.reg [oP 2 (.mv (cI 0)),
oP 3 (.mv (cI 0)),
oP 4 (.mv (cI 0))] [2,3,4])
.ret))))))))
abbrev RD : RsT := [(2,none),(3,none),(4,none)]
theorem Q4 : SpF 79 IG Jq RD := SpI Tryz.func50 (by kernel_rfl)
theorem Rf : ak Tryz.prog IG = true := by kernel_rfl
abbrev Im : FuncId := 51
def Lo : AC :=
(.seq (.reg [oP 1 (.pbox 3 (.t 0)),
oP 2 (.mv (cI 0)),
oP 3 (.mv (cI 0)),
oP 4 (.mv (cI 0))] [1])
(.seq (.seq (.reg [oP 8 (.fieldAddr none 0 (.t 1)),
oP 9 (.load none (.t 8)),
oP 10 (.len (.t 9)),
oP 11 (.call (.f 106) [false,false,false] [(.t 10),(cI 1),(cI 10)]),
oP 12 (.un .not (.t 11))] [1,12])
(.cond (.t 12)
(.seq (.reg [oP 2 (.mv (cI 1)),
oP 3 (.mv (cI 0)),
oP 4 (.mv (cI 3))] [2,3,4])
.ret)
.skip))
(.seq (.seq (.reg [oP 13 (.fieldAddr none 1 (.t 1)),
oP 14 (.load none (.t 13)),
oP 15 (.call (.f 106) [false,false,false] [(.t 14),(cI 0),(cI 5000)]),
oP 16 (.un .not (.t 15)),
mV 17 16,
gF 18 17 (.fieldAddr none 2 (.t 1)),
gF 19 17 (.load none (.t 18)),
gF 20 17 (.call (.f 106) [false,false,false] [(.t 19),(cI 0),(cI 5000)]),
gF 21 17 (.un .not (.t 20)),
oP 22 (.pick (.t 17) (.c (.bool true)) (.t 21))] [1,22])
(.cond (.t 22)
(.seq (.reg [oP 2 (.mv (cI 1)),
oP 3 (.mv (cI 0)),
oP 4 (.mv (cI 7))] [2,3,4])
.ret)
.skip))
(.seq (.seq (.reg [oP 23 (.fieldAddr none 1 (.t 1)),
oP 24 (.load none (.t 23)),
oP 25 (.fieldAddr none 2 (.t 1)),
oP 26 (.load none (.t 25)),
oP 27 (.bin .geq (.t 24) (.t 26))] [1,27])
(.cond (.t 27)
(.seq (.reg [oP 2 (.mv (cI 1)),
oP 3 (.mv (cI 0)),
oP 4 (.mv (cI 2))] [2,3,4])
.ret)
.skip))
(.seq (.reg [oP 5 (.nilS 1 1)] [1,5])
(.seq (.seq (.reg [oP 6 (.mv (cI 0))] [1,5,6])
(.block 0
(.loop [1,5,6]
(.seq (.seq (.reg [mV 28 6,
oP 29 (.fieldAddr none 0 (.t 1)),
oP 30 (.load none (.t 29)),
oP 31 (.len (.t 30)),
oP 32 (.bin .lss (.t 28) (.t 31))] [1,5,6,32])
(.cond (.t 32)
.skip
(.exit 0)))
(.seq (.block 1
(.seq (.reg [oP 35 (.fieldAddr none 0 (.t 1)),
oP 36 (.load none (.t 35)),
mV 37 6,
oP 38 (.ixS 7 (.t 36) (.t 37)),
oP 39 (.fieldAddr none 0 (.t 38)),
oP 40 (.load none (.t 39)),
mV 41 5,
oP 42 (.call (.f 107) [false,true] [(.t 40),(.t 41)]),
mV 7 42] [1,5,6,7])
(.seq (.reg [mV 43 5,
oP 44 (.fieldAddr none 0 (.t 1)),
oP 45 (.load none (.t 44)),
mV 46 6,
oP 47 (.ixS 7 (.t 45) (.t 46)),
oP 48 (.fieldAddr none 0 (.t 47)),
oP 49 (.load none (.t 48)),
oP 50 (.lit 0 1 1 [(0,(.t 49))]),
oP 51 (.append 1 16 (.t 43) (.t 50)),
mV 5 51] [1,5,6,7])
(.seq (.seq (.reg [mV 52 7,
oP 53 (.bin .eql (.t 52) (cI 0))] [1,5,6,7,53])
(.cond (.t 53)
(.reg [oP 54 (.fieldAddr none 0 (.t 1)),
oP 55 (.load none (.t 54)),
mV 56 6,
oP 57 (.ixS 7 (.t 55) (.t 56)),
oP 58 (.load (some 7) (.t 57)),
oP 59 (.call (.f 108) [false] [(.t 58)]),
mV 7 59] [1,5,6,7])
.skip))
(.seq (.reg [mV 60 7,
oP 61 (.bin .neq (.t 60) (cI 0))] [1,5,6,7,61])
(.cond (.t 61)
(.seq (.reg [mV 62 6,
mV 63 7,
oP 2 (.mv (cI 2)),
mV 3 62,
mV 4 63] [2,3,4])
.ret)
.skip))))))
(.reg [mV 33 6,
oP 34 (.bin .add (.t 33) (cI 1)),
mV 6 34] [1,5,6]))))))
(.seq (.reg [oP 2 (.mv (cI 0)),
oP 3 (.mv (cI 0)),
oP 4 (.mv (cI 0))] [2,3,4])
.ret)))))))
abbrev Qb : RsT := [(2,none),(3,none),(4,none)]
theorem SS : SpF 64 Im Lo Qb := SpI Tryz.func51 (by kernel_rfl)
theorem Ni : ak Tryz.prog Im = true := by kernel_rfl
abbrev Hu : FuncId := 52
def LB : AC :=
(.seq (.reg [oP 2 (.pbox 3 (.t 0)),
oP 3 (.pbox 2 (.t 1)),
oP 4 (.mv (cI 0)),
oP 5 (.mv (cI 0)),
oP 6 (.mv (cI 0))] [2,3])
(.seq (.reg [oP 13 (.load (some 3) (.t 2)),
oP 14 (.call (.f 51) [true] [(.t 13)]),
mV 12 14,
oP 15 (.extract (.t 12) 0),
oP 16 (.extract (.t 12) 1),
oP 17 (.extract (.t 12) 2),
mV 7 15,
mV 8 16,
mV 9 17] [2,3,9])
(.seq (.reg [mV 18 9,
oP 19 (.load (some 2) (.t 3)),
oP 20 (.call (.f 109) [false,false] [(.t 18),(.t 19)]),
mV 9 20] [2,3,9])
(.seq (.seq (.reg [mV 21 9,
oP 22 (.bin .neq (.t 21) (cI 0))] [2,3,9,22])
(.cond (.t 22)
(.seq (.reg [mV 23 9,
oP 4 (.mv (cI 0)),
oP 5 (.mv (cI 0)),
mV 6 23] [4,5,6])
.ret)
.skip))
(.seq (.reg [oP 25 (.load (some 3) (.t 2)),
oP 26 (.load (some 2) (.t 3)),
oP 27 (.call (.f 110) [true,false] [(.t 25),(.t 26)]),
mV 24 27,
oP 28 (.extract (.t 24) 0),
oP 29 (.extract (.t 24) 1),
mV 10 28,
mV 11 29] [10,11])
(.seq (.reg [mV 30 10,
mV 31 11,
mV 4 30,
mV 5 31,
oP 6 (.mv (cI 0))] [4,5,6])
.ret))))))
abbrev Q1 : RsT := [(4,none),(5,none),(6,none)]
theorem SE : SpF 32 Hu LB Q1 := SpI Tryz.func52 (by kernel_rfl)
theorem Nd : ak Tryz.prog Hu = true := by kernel_rfl
abbrev Fl : FuncId := 53
def K3 : AC :=
(.seq (.reg [oP 3 (.pbox 2 (.t 0)),
oP 6 (.alloc [.slice 1 [], .slice 1 []]),
oP 7 (.mv (cI 0))] [1,2,3,6])
(.seq (.reg [oP 13 (.load (some 2) (.t 3)),
mV 14 1,
oP 15 (.call (.f 111) [true,true] [(.t 13),(.t 14)]),
mV 8 15] [1,2,3,6,8])
(.seq (.seq (.reg [mV 16 8,
oP 17 (.bin .eql (.t 16) (cI 0)),
mV 18 17,
gT 19 18 (.mv (.t 2)),
gT 20 18 (.len (.t 19)),
gT 21 18 (.bin .gtr (.t 20) (cI 60)),
oP 22 (.pick (.t 18) (.t 21) (.c (.bool false)))] [1,2,3,6,8,22])
(.cond (.t 22)
(.reg [oP 8 (.mv (cI 3))] [1,2,3,6,8])
.skip))
(.seq (.reg [oP 9 (.alloc [.bool false, .bool false, .bool false, .bool false, .bool false, .bool false, .bool false, .bool false, .bool false, .bool false, .bool false, .bool false, .bool false, .bool false])] [1,2,3,6,8,9])
(.seq (.seq (.reg [oP 10 (.mv (cI 0))] [1,2,3,6,8,9,10])
(.block 0
(.loop [1,2,3,6,8,9,10]
(.seq (.seq (.reg [mV 23 10,
mV 24 2,
oP 25 (.len (.t 24)),
oP 26 (.bin .lss (.t 23) (.t 25)),
mV 27 26,
gT 28 27 (.mv (.t 8)),
gT 29 27 (.bin .eql (.t 28) (cI 0)),
oP 30 (.pick (.t 27) (.t 29) (.c (.bool false)))] [1,2,3,6,8,9,10,30])
(.cond (.t 30)
.skip
(.exit 0)))
(.seq (.block 1
(.seq (.seq (.dreg [mV 33 2,
mV 34 10,
oP 35 (.ixS 2 (.t 33) (.t 34)),
oP 36 (.fieldAddr none 0 (.t 35)),
oP 37 (.load none (.t 36)),
oP 38 (.fieldAddr none 0 (.t 3)),
oP 39 (.load none (.t 38)),
oP 40 (.len (.t 39)),
oP 41 (.call (.f 112) [false,false] [(.t 37),(.t 40)]),
oP 42 (.un .not (.t 41))] [1,2,3,6,8,9,10,42] [[],[],[0,1],[0,1,2],[0,1,2,3],[],[5],[5,6],[0,1,2,3,4,5,6,7],[0,1,2,3,4,5,6,7,8]])
(.cond (.t 42)
(.seq (.reg [oP 8 (.mv (cI 4))] [1,2,3,6,8,9,10])
(.exit 1))
.skip))
(.seq (.dreg [oP 44 (.load (some 2) (.t 3)),
mV 45 1,
oP 46 (.load (some 14) (.t 9)),
mV 47 2,
mV 48 10,
oP 49 (.ixS 2 (.t 47) (.t 48)),
oP 50 (.load (some 2) (.t 49)),
oP 51 (.call (.f 113) [true,true,false,false] [(.t 44),(.t 45),(.t 46),(.t 50)]),
mV 43 51,
oP 52 (.extract (.t 43) 0),
oP 53 (.extract (.t 43) 1),
oP 11 (.alloc [.bool false, .bool false, .bool false, .bool false, .bool false, .bool false, .bool false, .bool false, .bool false, .bool false, .bool false, .bool false, .bool false, .bool false]),
oN (.store 14 (.t 11) (.t 52)),
mV 12 53] [1,2,3,6,8,9,10,11,12] [[],[],[],[],[],[3,4],[3,4,5],[0,1,2,3,4,5,6],[0,1,2,3,4,5,6,7],[0,1,2,3,4,5,6,7,8],[0,1,2,3,4,5,6,7,8],[],[0,1,2,3,4,5,6,7,8,9,11],[0,1,2,3,4,5,6,7,8,9,10,11,12]])
(.seq (.seq (.reg [mV 54 12,
oP 55 (.un .not (.t 54))] [1,2,3,6,8,9,10,11,55])
(.cond (.t 55)
(.reg [oP 8 (.mv (cI 2))] [1,2,3,6,8,9,10,11])
.skip))
(.reg [oP 56 (.load (some 14) (.t 11)),
oN (.store 14 (.t 9) (.t 56))] [1,2,3,6,8,9,10])))))
(.reg [mV 31 10,
oP 32 (.bin .add (.t 31) (cI 1)),
mV 10 32] [1,2,3,6,8,9,10]))))))
(.seq (.seq (.reg [mV 57 8,
oP 58 (.bin .neq (.t 57) (cI 0))] [6,8,9,58])
(.cond (.t 58)
(.seq (.reg [oP 59 (.build [.slice 1 [], .slice 1 []] []),
mV 60 8,
oN (.store 2 (.t 6) (.t 59)),
mV 7 60] [6,7])
.ret)
.skip))
(.seq (.dreg [oP 61 (.fieldAddr (some 7) 0 (.t 9)),
oP 62 (.load (some 7) (.t 61)),
oP 63 (.call (.f 114) [false] [(.t 62)]),
oP 64 (.fieldAddr (some 7) 7 (.t 9)),
oP 65 (.load (some 7) (.t 64)),
oP 66 (.call (.f 114) [false] [(.t 65)]),
oP 67 (.build [.slice 1 [], .slice 1 []] [(0,1,(.t 63)),(1,1,(.t 66))]),
oN (.store 2 (.t 6) (.t 67)),
oP 7 (.mv (cI 0))] [6,7] [[],[0],[0,1],[],[3],[0,1,2,3,4],[0,1,2,3,4,5],[0,1,2,3,4,5,6],[0,1,2,3,4,5,6,7]])
.ret)))))))
abbrev Qy : RsT := [(6,some (some 2)),(7,none)]
theorem Qz : SpF 68 Fl K3 Qy := SpI Tryz.func53 (by kernel_rfl)
theorem Mz : ak Tryz.prog Fl = true := by kernel_rfl
abbrev I3 : FuncId := 54
def MV : AC :=
(.seq (.reg [oP 4 (.mv (.c (.bool false)))] [0,1])
(.seq (.reg [mV 5 0,
oP 6 (.bin .geq (.t 5) (cI 0)),
mV 7 6,
gT 8 7 (.mv (.t 0)),
gT 9 7 (.mv (.t 1)),
gT 10 7 (.bin .lss (.t 8) (.t 9)),
oP 11 (.pick (.t 7) (.t 10) (.c (.bool false))),
mV 4 11] [4])
.ret))
abbrev QM : RsT := [(4,none)]
theorem Se : SpF 12 I3 MV QM := SpI Tryz.func54 (by kernel_rfl)
theorem Md : ak Tryz.prog I3 = true := by kernel_rfl
abbrev HF : FuncId := 55
def Lh : AC :=
(.seq (.reg [oP 2 (.pbox 11 (.t 0)),
oP 4 (.mv (.c .nilptr)),
oP 5 (.mv (cI 0))] [1,2])
(.seq (.reg [oP 9 (.load (some 11) (.t 2)),
oP 10 (.call (.f 69) [true] [(.t 9)]),
mV 8 10,
oP 11 (.extract (.t 8) 0),
oP 12 (.extract (.t 8) 1),
mV 6 11,
mV 7 12] [1,6,7])
(.seq (.seq (.reg [mV 13 7,
oP 14 (.bin .eql (.t 13) (cI 0)),
mV 15 14,
gT 16 15 (.mv (.t 6)),
gT 17 15 (.nilchk (.t 16)),
gT 18 15 (.fieldAddr none 11 (.t 17)),
gT 19 15 (.load none (.t 18)),
gT 20 15 (.len (.t 19)),
gT 21 15 (.mv (.t 1)),
gT 22 15 (.call (.f 49) [false,true] [(.t 20),(.t 21)]),
oP 23 (.pick (.t 15) (.t 22) (.c (.bool false)))] [6,7,23])
(.cond (.t 23)
(.reg [oP 7 (.mv (cI 4))] [6,7])
.skip))
(.seq (.reg [mV 24 6,
mV 25 7,
mV 4 24,
mV 5 25] [4,5])
.ret))))
abbrev Qq : RsT := [(4,none),(5,none)]
theorem RU : SpF 26 HF Lh Qq := SpI Tryz.func55 (by kernel_rfl)
theorem H7 : ak Tryz.prog HF = true := by kernel_rfl
abbrev HT : FuncId := 56
def LZ : AC :=
(.seq (.reg [oP 4 (.mv (cI 0)),
oP 5 (.mv (cI 0)),
oP 6 (.mv (cI 0))] [0,1])
(.seq (.reg [mV 10 0,
oP 11 (.call (.f 77) [false] [(.t 10)]),
mV 6 11] [0,1,6])
(.seq (.seq (.reg [mV 12 1,
oP 13 (.len (.t 12)),
oP 14 (.mv (cI 0))] [0,6,12,13,14])
(.block 0
(.loop [0,6,12,13,14]
(.seq (.reg [oP 15 (.bin .lss (.t 14) (.t 13))] [0,6,12,13,14,15])
(.seq (.cond (.t 15)
.skip
(.exit 0))
(.seq (.block 1
(.seq (.reg [mV 16 14,
oP 17 (.ixS 1 (.t 12) (.t 14)),
oP 18 (.load none (.t 17)),
mV 7 16,
mV 8 18] [0,6,7,8,12,13,14])
(.seq (.seq (.reg [mV 19 0,
mV 20 6,
mV 21 8,
oP 22 (.call (.f 73) [false,false,false] [(.t 19),(.t 20),(.t 21)]),
mV 9 22] [0,6,7,8,9,12,13,14])
(.seq (.reg [mV 23 9,
oP 24 (.bin .neq (.t 23) (cI 0))] [0,6,7,8,9,12,13,14,24])
(.cond (.t 24)
(.seq (.reg [mV 25 7,
mV 26 9,
mV 27 6,
mV 4 25,
mV 5 26,
mV 6 27] [4,5,6])
.ret)
.skip)))
(.reg [mV 28 6,
mV 29 8,
oP 30 (.bin .shl (cI 1) (.t 29)),
oP 31 (.bin .andNot (.t 28) (.t 30)),
mV 6 31] [0,6,12,13,14]))))
(.reg [oP 32 (.bin .add (.t 14) (cI 1)),
mV 14 32] [0,6,12,13,14])))))))
(.seq (.reg [mV 33 6,
oP 4 (.mv (cI (-1))),
oP 5 (.mv (cI 0)),
mV 6 33] [4,5,6])
.ret))))
abbrev Sm : RsT := [(4,none),(5,none),(6,none)]
theorem RN : SpF 34 HT LZ Sm := SpI Tryz.func56 (by kernel_rfl)
theorem Kg : ak Tryz.prog HT = true := by kernel_rfl
abbrev Ie : FuncId := 57
def OW : AC :=
(.seq (.reg [oP 1 (.pbox 11 (.t 0)),
oP 2 (.alloc [.int .i64 0, .slice 1 []])] [1,2])
(.seq (.reg [oP 20 (.fieldAddr (some 1) 0 (.t 1)),
oP 21 (.fieldAddr none 0 (.t 20)),
oP 22 (.load none (.t 21)),
oP 23 (.len (.t 22)),
mV 3 23] [1,2,3])
(.seq (.reg [oP 24 (.lit 1 1 1 [(0,(.c (.bool true)))]),
mV 4 24] [1,2,3,4])
(.seq (.seq (.reg [oP 5 (.mv (cI 1))] [1,2,3,4,5])
(.block 0
(.loop [1,2,3,4,5]
(.seq (.seq (.reg [mV 25 5,
mV 26 3,
oP 27 (.call (.f 68) [false] [(.t 26)]),
oP 28 (.bin .lss (.t 25) (.t 27))] [1,2,3,4,5,28])
(.cond (.t 28)
.skip
(.exit 0)))
(.seq (.block 1
(.seq (.dreg [oP 32 (.load (some 11) (.t 1)),
mV 33 5,
oP 34 (.call (.f 115) [true,false] [(.t 32),(.t 33)]),
oP 35 (.fieldAddr (some 2) 4 (.t 1)),
oP 36 (.load (some 2) (.t 35)),
oP 37 (.call (.f 52) [true,false] [(.t 34),(.t 36)]),
mV 31 37,
oP 38 (.extract (.t 31) 0),
oP 39 (.extract (.t 31) 1),
oP 40 (.extract (.t 31) 2),
mV 6 38,
mV 7 39,
mV 8 40] [1,2,3,4,5,6] [[],[],[0,1],[],[3],[0,1,2,3,4],[0,1,2,3,4,5],[0,1,2,3,4,5,6],[0,1,2,3,4,5,6],[0,1,2,3,4,5,6],[0,1,2,3,4,5,6,7],[0,1,2,3,4,5,6,7,8,10],[0,1,2,3,4,5,6,7,8,9,10,11]])
(.reg [mV 41 4,
mV 42 6,
oP 43 (.bin .eql (.t 42) (cI 0)),
oP 44 (.lit 0 1 1 [(0,(.t 43))]),
oP 45 (.append 1 1 (.t 41) (.t 44)),
mV 4 45] [1,2,3,4,5])))
(.reg [mV 29 5,
oP 30 (.bin .add (.t 29) (cI 1)),
mV 5 30] [1,2,3,4,5]))))))
(.seq (.reg [oP 47 (.fieldAddr (some 2) 6 (.t 1)),
oP 48 (.load (some 2) (.t 47)),
oP 49 (.fieldAddr none 8 (.t 1)),
oP 50 (.load none (.t 49)),
oP 51 (.fieldAddr none 9 (.t 1)),
oP 52 (.load none (.t 51)),
oP 53 (.call (.f 53) [true,true,true] [(.t 48),(.t 50),(.t 52)]),
mV 46 53,
oP 54 (.extract (.t 46) 0),
oP 55 (.extract (.t 46) 1),
oP 9 (.alloc [.slice 1 [], .slice 1 []]),
oN (.store 2 (.t 9) (.t 54)),
mV 10 55] [1,2,3,4,9])
(.frz 9 true (.seq (.reg [mV 56 3,
oP 57 (.buildm [.int .i64 0, .mint 1] [(0,1,(.t 56))]),
oP 11 (.alloc [.int .i64 0, .slice 1 []]),
oN (.store 2 (.t 11) (.t 57))] [1,2,3,4,9,11])
(.seq (.seq (.reg [oP 12 (.mv (cI 0))] [1,2,3,4,9,11,12])
(.block 2
(.loop [1,2,3,4,9,11,12]
(.seq (.seq (.reg [mV 58 12,
mV 59 3,
oP 60 (.call (.f 68) [false] [(.t 59)]),
oP 61 (.bin .lss (.t 58) (.t 60))] [1,2,3,4,9,11,12,61])
(.cond (.t 61)
.skip
(.exit 2)))
(.seq (.block 3
(.seq (.reg [oP 13 (.nilS 1 1)] [1,2,3,4,9,11,12,13])
(.seq (.seq (.reg [oP 14 (.mv (cI 0))] [1,2,3,4,9,11,12,13,14])
(.block 4
(.loop [1,2,3,4,9,11,12,13,14]
(.seq (.seq (.reg [mV 64 14,
mV 65 3,
oP 66 (.bin .lss (.t 64) (.t 65))] [1,2,3,4,9,11,12,13,14,66])
(.cond (.t 66)
.skip
(.exit 4)))
(.seq (.block 5
(.seq (.reg [oP 15 (.mv (.c (.bool false))),
oP 16 (.mv (.c (.bool false)))] [1,2,3,4,9,11,12,13,14,15,16])
(.seq (.seq (.reg [oP 17 (.mv (cI 0))] [1,2,3,4,9,11,12,13,14,15,16,17])
(.block 6
(.loop [1,2,3,4,9,11,12,13,14,15,16,17]
(.seq (.seq (.reg [mV 69 17,
mV 70 3,
oP 71 (.bin .lss (.t 69) (.t 70))] [1,2,3,4,9,11,12,13,14,15,16,17,71])
(.cond (.t 71)
.skip
(.exit 6)))
(.seq (.block 7
(.dreg [mV 74 15,
mV 75 74,
gF 76 75 (.mv (.t 12)),
gF 77 75 (.mv (.t 17)),
gF 78 75 (.call (.f 116) [false,false] [(.t 76),(.t 77)]),
gF 79 75 (.mv (.t 78)),
gT 80 79 (.fieldAddr (some 1) 0 (.t 1)),
gT 81 79 (.fieldAddr none 0 (.t 80)),
gT 82 79 (.load none (.t 81)),
gT 83 79 (.mv (.t 17)),
gT 84 79 (.ixS 7 (.t 82) (.t 83)),
gT 85 79 (.fieldAddr none 4 (.t 84)),
gT 86 79 (.load none (.t 85)),
gT 87 79 (.fieldAddr (some 1) 0 (.t 1)),
gT 88 79 (.fieldAddr none 0 (.t 87)),
gT 89 79 (.load none (.t 88)),
gT 90 79 (.mv (.t 14)),
gT 91 79 (.ixS 7 (.t 89) (.t 90)),
gT 92 79 (.fieldAddr none 0 (.t 91)),
gT 93 79 (.load none (.t 92)),
gT 94 79 (.call (.f 117) [true,false] [(.t 86),(.t 93)]),
gT 95 79 (.bin .geq (.t 94) (cI 0)),
gF 96 75 (.pick (.t 79) (.t 95) (.c (.bool false))),
oP 97 (.pick (.t 75) (.c (.bool true)) (.t 96)),
mV 15 97] [1,2,3,4,9,11,12,13,14,15,16,17] [[],[0],[0,1],[0,1],[0,1,2,3],[0,1,2,3,4],[0,1,2,3,4,5],[0,1,2,3,4,5,6],[0,1,2,3,4,5,6,7],[0,1,2,3,4,5],[0,1,2,3,4,5,6,7,8,9],[0,1,2,3,4,5,6,7,8,9,10],[0,1,2,3,4,5,6,7,8,9,10,11],[0,1,2,3,4,5],[0,1,2,3,4,5,13],[0,1,2,3,4,5,13,14],[0,1,2,3,4,5],[0,1,2,3,4,5,13,14,15,16],[0,1,2,3,4,5,13,14,15,16,17],[0,1,2,3,4,5,13,14,15,16,17,18],[0,1,2,3,4,5,6,7,8,9,10,11,12,13,14,15,16,17,18,19],[0,1,2,3,4,5,6,7,8,9,10,11,12,13,14,15,16,17,18,19,20],[0,1,2,3,4,5,6,7,8,9,10,11,12,13,14,15,16,17,18,19,20,21],[0,1,2,3,4,5,6,7,8,9,10,11,12,13,14,15,16,17,18,19,20,21,22],[0,1,2,3,4,5,6,7,8,9,10,11,12,13,14,15,16,17,18,19,20,21,22,23]]))
(.reg [mV 72 17,
oP 73 (.bin .add (.t 72) (cI 1)),
mV 17 73] [1,2,3,4,9,11,12,13,14,15,16,17]))))))
(.seq (.seq (.reg [oP 18 (.mv (cI 0))] [1,2,3,4,9,11,12,13,14,15,16,18])
(.block 8
(.loop [1,2,3,4,9,11,12,13,14,15,16,18]
(.seq (.seq (.reg [mV 98 18,
oP 99 (.fieldAddr none 10 (.t 1)),
oP 100 (.load none (.t 99)),
mV 101 14,
oP 102 (.ixS 1 (.t 100) (.t 101)),
oP 103 (.load none (.t 102)),
oP 104 (.len (.t 103)),
oP 105 (.bin .lss (.t 98) (.t 104))] [1,2,3,4,9,11,12,13,14,15,16,18,105])
(.cond (.t 105)
.skip
(.exit 8)))
(.seq (.block 9
(.dreg [mV 108 16,
mV 109 108,
gF 110 109 (.fieldAddr none 0 (.t 9)),
gF 111 109 (.load none (.t 110)),
gF 112 109 (.fieldAddr none 10 (.t 1)),
gF 113 109 (.load none (.t 112)),
gF 114 109 (.mv (.t 14)),
gF 115 109 (.ixS 1 (.t 113) (.t 114)),
gF 116 109 (.load none (.t 115)),
gF 117 109 (.mv (.t 18)),
gF 118 109 (.ixS 1 (.t 116) (.t 117)),
gF 119 109 (.load none (.t 118)),
gF 120 109 (.call (.f 37) [true,false] [(.t 111),(.t 119)]),
gF 121 109 (.un .not (.t 120)),
oP 122 (.pick (.t 109) (.c (.bool true)) (.t 121)),
mV 16 122] [1,2,3,4,9,11,12,13,14,15,16,18] [[],[0],[0,1],[0,1,2],[0,1],[0,1,4],[0,1],[0,1,4,5,6],[0,1,4,5,6,7],[0,1],[0,1,4,5,6,7,8,9],[0,1,4,5,6,7,8,9,10],[0,1,2,3,4,5,6,7,8,9,10,11],[0,1,2,3,4,5,6,7,8,9,10,11,12],[0,1,2,3,4,5,6,7,8,9,10,11,12,13],[0,1,2,3,4,5,6,7,8,9,10,11,12,13,14]]))
(.reg [mV 106 18,
oP 107 (.bin .add (.t 106) (cI 1)),
mV 18 107] [1,2,3,4,9,11,12,13,14,15,16,18]))))))
(.seq (.reg [oP 19 (.mv (cI 0))] [1,2,3,4,9,11,12,13,14,15,16,19])
(.seq (.seq (.reg [mV 123 12,
mV 124 14,
oP 125 (.call (.f 116) [false,false] [(.t 123),(.t 124)]),
oP 126 (.un .not (.t 125))] [1,2,3,4,9,11,12,13,14,15,16,19,126])
(.cond (.t 126)
(.reg [oP 19 (.mv (cI 1))] [1,2,3,4,9,11,12,13,14,19])
(.seq (.reg [mV 127 15] [1,2,3,4,9,11,12,13,14,16,19,127])
(.cond (.t 127)
(.reg [oP 19 (.mv (cI 2))] [1,2,3,4,9,11,12,13,14,19])
(.seq (.reg [mV 128 16] [1,2,3,4,9,11,12,13,14,19,128])
(.cond (.t 128)
(.reg [oP 19 (.mv (cI 3))] [1,2,3,4,9,11,12,13,14,19])
(.seq (.reg [mV 129 4,
mV 130 12,
mV 131 14,
oP 132 (.call (.f 68) [false] [(.t 131)]),
oP 133 (.bin .sub (.t 130) (.t 132)),
oP 134 (.ixS 1 (.t 129) (.t 133)),
oP 135 (.load none (.t 134)),
oP 136 (.un .not (.t 135))] [1,2,3,4,9,11,12,13,14,19,136])
(.cond (.t 136)
(.reg [oP 19 (.mv (cI 4))] [1,2,3,4,9,11,12,13,14,19])
.skip))))))))
(.reg [mV 137 13,
mV 138 19,
oP 139 (.lit 0 1 1 [(0,(.t 138))]),
oP 140 (.append 1 8 (.t 137) (.t 139)),
mV 13 140] [1,2,3,4,9,11,12,13,14])))))))
(.reg [mV 67 14,
oP 68 (.bin .add (.t 67) (cI 1)),
mV 14 68] [1,2,3,4,9,11,12,13,14]))))))
(.reg [oP 141 (.fieldAddr none 1 (.t 11)),
oP 142 (.load none (.t 141)),
oP 143 (.mvd (.t 13)),
oP 144 (.lit 0 1 1 [(0,(.t 143))]),
oP 145 (.append 1 24 (.t 142) (.t 144)),
oP 146 (.fieldAddr none 1 (.t 11)),
oN (.store 1 (.t 146) (.t 145))] [1,2,3,4,9,11,12]))))
(.reg [mV 62 12,
oP 63 (.bin .add (.t 62) (cI 1)),
mV 12 63] [1,2,3,4,9,11,12]))))))
(.seq (.reg [oP 147 (.loadd (some 2) (.t 11)),
oN (.store 2 (.t 2) (.t 147))] [2])
.ret)))))))))
abbrev Qk : RsT := [(2,some (some 2))]
theorem QD : SpF 148 Ie OW Qk := SpI Tryz.func57 (by kernel_rfl)
theorem SD : ak Tryz.prog Ie = true := by kernel_rfl
abbrev TZ : FuncId := 58
def T0 : AC :=
(.seq (.reg [oP 2 (.pbox 2 (.t 0)),
oP 4 (.mv (cI 0)),
oP 5 (.mv (cI 0)),
oP 6 (.mv (cI 0))] [1,2])
(.seq (.reg [oP 10 (.fieldAddr none 0 (.t 2)),
oP 11 (.load none (.t 10)),
oP 12 (.call (.f 68) [false] [(.t 11)]),
oP 13 (.bin .sub (.t 12) (cI 1)),
mV 7 13] [1,2,7])
(.seq (.seq (.reg [oP 8 (.mv (cI 0))] [1,2,7,8])
(.block 0
(.loop [1,2,7,8]
(.seq (.seq (.reg [mV 14 8,
mV 15 1,
oP 16 (.len (.t 15)),
oP 17 (.bin .lss (.t 14) (.t 16))] [1,2,7,8,17])
(.cond (.t 17)
.skip
(.exit 0)))
(.seq (.block 1
(.seq (.dreg [oP 20 (.fieldAddr none 1 (.t 2)),
oP 21 (.load none (.t 20)),
mV 22 7,
oP 23 (.ixS 1 (.t 21) (.t 22)),
oP 24 (.load none (.t 23)),
mV 25 1,
mV 26 8,
oP 27 (.ixS 1 (.t 25) (.t 26)),
oP 28 (.load none (.t 27)),
oP 29 (.ixS 1 (.t 24) (.t 28)),
oP 30 (.load none (.t 29)),
mV 9 30] [1,2,7,8,9] [[],[0],[],[0,1,2],[0,1,2,3],[],[],[5,6],[5,6,7],[0,1,2,3,4,5,6,7,8],[0,1,2,3,4,5,6,7,8,9],[0,1,2,3,4,5,6,7,8,9,10]])
(.seq (.seq (.reg [mV 31 9,
oP 32 (.bin .neq (.t 31) (cI 0))] [1,2,7,8,9,32])
(.cond (.t 32)
(.seq (.reg [mV 33 8,
mV 34 9,
mV 35 7,
mV 4 33,
mV 5 34,
mV 6 35] [4,5,6])
.ret)
.skip))
(.reg [mV 36 7,
mV 37 1,
mV 38 8,
oP 39 (.ixS 1 (.t 37) (.t 38)),
oP 40 (.load none (.t 39)),
oP 41 (.call (.f 68) [false] [(.t 40)]),
oP 42 (.bin .sub (.t 36) (.t 41)),
mV 7 42] [1,2,7,8]))))
(.reg [mV 18 8,
oP 19 (.bin .add (.t 18) (cI 1)),
mV 8 19] [1,2,7,8]))))))
(.seq (.reg [mV 43 7,
oP 4 (.mv (cI (-1))),
oP 5 (.mv (cI 0)),
mV 6 43] [4,5,6])
.ret))))
abbrev Un : RsT := [(4,none),(5,none),(6,none)]
theorem Up : SpF 44 TZ T0 Un := SpI Tryz.func58 (by kernel_rfl)
theorem Uf : ak Tryz.prog TZ = true := by kernel_rfl
abbrev IT : FuncId := 59
def NV : AC :=
(.seq (.reg [oP 2 (.pbox 11 (.t 0)),
oP 4 (.mv (.c .nilptr)),
oP 5 (.mv (cI 0)),
oP 6 (.mv (cI 0))] [1,2])
(.seq (.reg [oP 13 (.load (some 11) (.t 2)),
mV 14 1,
oP 15 (.call (.f 55) [true,true] [(.t 13),(.t 14)]),
mV 12 15,
oP 16 (.extract (.t 12) 0),
oP 17 (.extract (.t 12) 1),
mV 7 16,
mV 8 17] [1,7,8])
(.seq (.seq (.reg [mV 18 8,
oP 19 (.bin .neq (.t 18) (cI 0))] [1,7,8,19])
(.cond (.t 19)
(.seq (.reg [mV 20 8,
oP 4 (.mv (.c .nilptr)),
oP 5 (.mv (cI 0)),
mV 6 20] [4,5,6])
.ret)
.skip))
(.seq (.reg [mV 22 7,
mV 23 1,
oP 24 (.call (.f 56) [false,true] [(.t 22),(.t 23)]),
mV 21 24,
oP 25 (.extract (.t 21) 0),
oP 26 (.extract (.t 21) 1),
oP 27 (.extract (.t 21) 2),
mV 9 25,
mV 10 26,
mV 11 27] [7,9,11])
(.seq (.seq (.reg [mV 28 9,
oP 29 (.bin .geq (.t 28) (cI 0))] [7,11,29])
(.cond (.t 29)
(.seq (.reg [oP 4 (.mv (.c .nilptr)),
oP 5 (.mv (cI 0)),
oP 6 (.mv (cI 9))] [4,5,6])
.ret)
.skip))
(.seq (.reg [mV 30 7,
mV 31 11,
mV 4 30,
mV 5 31,
oP 6 (.mv (cI 0))] [4,5,6])
.ret))))))
abbrev Qu : RsT := [(4,none),(5,none),(6,none)]
theorem SP : SpF 32 IT NV Qu := SpI Tryz.func59 (by kernel_rfl)
theorem Oh : ak Tryz.prog IT = true := by kernel_rfl
abbrev EZ : FuncId := 60
def K4 : AC :=
(.seq (.reg [oP 3 (.pbox 1 (.t 1)),
oP 4 (.alloc [.mint 1])] [0,3,4])
(.seq (.seq (.reg [mV 7 0] [3,4,7])
(.block 0
(.bF (.t 7) [8,9] (.seq (.reg [mV 5 8] [3,4,5,9])
(.reg [mV 6 9] [3,4,5,6]))
(.block 1
(.seq (.reg [oP 10 (.load none (.t 3)),
mV 11 6,
oP 12 (.call (.t 10) [false] [(.t 11)])] [4,5,12])
(.cond (.t 12)
(.reg [oP 13 (.load none (.t 4)),
mV 14 5,
oP 15 (.lit 0 1 1 [(0,(.t 14))]),
oP 16 (.append 1 8 (.t 13) (.t 15)),
oN (.store 1 (.t 4) (.t 16))] [])
.skip))))))
(.seq (.reg [oP 17 (.loadd none (.t 4)),
oN (.store 1 (.t 4) (.t 17))] [4])
.ret)))
abbrev Rn : RsT := [(4,some none)]
theorem SA : SpF 18 EZ K4 Rn := SpI Tryz.func60 (by kernel_rfl)
theorem Nc : ak Tryz.prog EZ = true := by kernel_rfl
abbrev Ij : FuncId := 61
def KP : AC :=
(.seq (.reg [oP 2 (.pbox 1 (.t 0)),
oP 3 (.pbox 1 (.t 1)),
oP 4 (.mv (.c .nilfunc))] [2,3])
(.seq (.reg [oP 5 (.mkfunc (.func 118) [] [(.t 3),(.t 2)]),
mV 4 5] [4])
.ret))
abbrev SL : RsT := [(4,none)]
theorem Sl : SpF 6 Ij KP SL := SpI Tryz.func61 (by kernel_rfl)
theorem Bp : ak Tryz.prog Ij = true := by kernel_rfl
abbrev ET : FuncId := 62
def KU : AC :=
(.seq (.reg [oP 2 (.mv (.c (.bool false)))] [])
(.seq (.reg [oP 2 (.mv (.c (.bool true)))] [2])
.ret))
abbrev Rh : RsT := [(2,none)]
theorem PW : SpF 3 ET KU Rh := SpI Tryz.func62 (by kernel_rfl)
theorem Ss : ak Tryz.prog ET = true := by kernel_rfl
abbrev TO : FuncId := 63
def T4 : AC :=
(.seq (.reg [oP 2 (.pbox 11 (.t 0)),
oP 4 (.alloc [.int .i64 0, .slice 1 []]),
oP 5 (.mv (cI 0)),
oP 6 (.mv (cI 0))] [1,2,4])
(.seq (.reg [oP 12 (.load (some 11) (.t 2)),
mV 13 1,
oP 14 (.call (.f 41) [true,true] [(.t 12),(.t 13)]),
mV 7 14] [1,2,4,7])
(.seq (.seq (.reg [mV 15 7,
oP 16 (.bin .neq (.t 15) (cI 0))] [1,2,4,7,16])
(.cond (.t 16)
(.seq (.reg [oP 17 (.build [.int .i64 0, .slice 1 []] []),
mV 18 7,
oN (.store 2 (.t 4) (.t 17)),
oP 5 (.mv (cI 0)),
mV 6 18] [4,5,6])
.ret)
.skip))
(.seq (.reg [oP 19 (.load (some 11) (.t 2)),
oP 20 (.call (.f 57) [true] [(.t 19)]),
oP 8 (.alloc [.int .i64 0, .slice 1 []]),
oN (.store 2 (.t 8) (.t 20))] [1,4,8])
(.frz 8 true (.seq (.reg [oP 22 (.load (some 2) (.t 8)),
mV 23 1,
oP 24 (.call (.f 58) [true,true] [(.t 22),(.t 23)]),
mV 21 24,
oP 25 (.extract (.t 21) 0),
oP 26 (.extract (.t 21) 1),
oP 27 (.extract (.t 21) 2),
mV 9 25,
mV 10 26,
mV 11 27] [4,8,9,11])
(.seq (.seq (.reg [mV 28 9,
oP 29 (.bin .geq (.t 28) (cI 0))] [4,8,11,29])
(.cond (.t 29)
(.seq (.reg [oP 30 (.build [.int .i64 0, .slice 1 []] []),
oN (.store 2 (.t 4) (.t 30)),
oP 5 (.mv (cI 0)),
oP 6 (.mv (cI 9))] [4,5,6])
.ret)
.skip))
(.seq (.reg [oP 31 (.loadd (some 2) (.t 8)),
mV 32 11,
oN (.store 2 (.t 4) (.t 31)),
mV 5 32,
oP 6 (.mv (cI 0))] [4,5,6])
.ret))))))))
abbrev Uc : RsT := [(4,some (some 2)),(5,none),(6,none)]
theorem Ui : SpF 33 TO T4 Uc := SpI Tryz.func63 (by kernel_rfl)
theorem TH : ak Tryz.prog TO = true := by kernel_rfl
abbrev IL : FuncId := 64
def Ke : AC :=
(.seq (.reg [oP 1 (.pbox 1 (.t 0)),
oP 2 (.mv (.c .nilfunc))] [1])
(.seq (.reg [oP 5 (.mnew),
oP 3 (.alloc [.nilmap]),
oN (.store 1 (.t 3) (.t 5))] [1,3])
(.frz 3 false (.seq (.reg [oP 4 (.alloc [.nilfunc])] [1,3,4])
(.seq (.reg [oP 6 (.mkfunc (.func 120) [] [(.t 3),(.t 1),(.t 4)]),
oN (.store 1 (.t 4) (.t 6))] [4])
(.seq (.reg [oP 7 (.load none (.t 4)),
mV 2 7] [2])
.ret))))))
abbrev SI : RsT := [(2,none)]
theorem Rg : SpF 8 IL Ke SI := SpI Tryz.func64 (by kernel_rfl)
theorem Jw : ak Tryz.prog IL = true := by kernel_rfl
abbrev Ct : FuncId := 65
def Kt : AC :=
(.seq (.reg [oP 3 (.mv (.c (.bool false)))] [0,1])
(.seq (.reg [oP 4 (.load none (.t 1)),
mV 5 0,
oP 6 (.call (.f 66) [false,false] [(.t 4),(.t 5)]),
mV 3 6] [3])
.ret))
abbrev PZ : RsT := [(3,none)]
theorem PT : SpF 7 Ct Kt PZ := SpI Tryz.func65 (by kernel_rfl)
theorem Rt : ak Tryz.prog Ct = true := by kernel_rfl
abbrev HK : FuncId := 66
def NX : AC :=
(.seq (.reg [oP 4 (.mv (.c (.bool false)))] [0,1])
(.seq (.reg [mV 5 0,
mV 6 1,
oP 7 (.call (.t 5) [false] [(.t 6)]),
mV 8 1,
oP 9 (.conv .u64 (.t 8)),
oP 10 (.call (.f 121) [false] [(.t 9)]),
oP 11 (.bin .eql (.t 7) (.t 10)),
mV 4 11] [4])
.ret))
abbrev SC : RsT := [(4,none)]
theorem SN : SpF 12 HK NX SC := SpI Tryz.func66 (by kernel_rfl)
theorem P8 : ak Tryz.prog HK = true := by kernel_rfl
abbrev TT : FuncId := 67
def T1 : AC :=
(.seq (.reg [oP 1 (.pbox 2 (.t 0)),
oP 2 (.mv (.c (.slice 1 [])))] [1])
(.seq (.reg [oP 7 (.lit 1 1 1 [(0,(.c (.bool true)))]),
mV 3 7] [1,3])
(.seq (.seq (.reg [oP 4 (.mv (cI 1))] [1,3,4])
(.block 0
(.loop [1,3,4]
(.seq (.seq (.reg [mV 8 4,
oP 9 (.fieldAddr none 0 (.t 1)),
oP 10 (.load none (.t 9)),
oP 11 (.call (.f 68) [false] [(.t 10)]),
oP 12 (.bin .lss (.t 8) (.t 11))] [1,3,4,12])
(.cond (.t 12)
.skip
(.exit 0)))
(.seq (.block 1
(.seq (.reg [oP 5 (.mv (.c (.bool false)))] [1,3,4,5])
(.seq (.seq (.reg [oP 6 (.mv (cI 0))] [1,3,4,5,6])
(.block 2
(.loop [1,3,4,5,6]
(.seq (.seq (.reg [mV 15 6,
oP 16 (.fieldAddr none 0 (.t 1)),
oP 17 (.load none (.t 16)),
oP 18 (.bin .lss (.t 15) (.t 17))] [1,3,4,5,6,18])
(.cond (.t 18)
.skip
(.exit 2)))
(.seq (.block 3
(.reg [mV 21 5,
mV 22 21,
gF 23 22 (.fieldAddr none 1 (.t 1)),
gF 24 22 (.load none (.t 23)),
gF 25 22 (.mv (.t 4)),
gF 26 22 (.ixS 1 (.t 24) (.t 25)),
gF 27 22 (.load none (.t 26)),
gF 28 22 (.mv (.t 6)),
gF 29 22 (.ixS 1 (.t 27) (.t 28)),
gF 30 22 (.load none (.t 29)),
gF 31 22 (.bin .eql (.t 30) (cI 0)),
gF 32 22 (.mv (.t 31)),
gT 33 32 (.mv (.t 3)),
gT 34 32 (.mv (.t 4)),
gT 35 32 (.mv (.t 6)),
gT 36 32 (.call (.f 68) [false] [(.t 35)]),
gT 37 32 (.bin .sub (.t 34) (.t 36)),
gT 38 32 (.ixS 1 (.t 33) (.t 37)),
gT 39 32 (.load none (.t 38)),
gF 40 22 (.pick (.t 32) (.t 39) (.c (.bool false))),
oP 41 (.pick (.t 22) (.c (.bool true)) (.t 40)),
mV 5 41] [1,3,4,5,6]))
(.reg [mV 19 6,
oP 20 (.bin .add (.t 19) (cI 1)),
mV 6 20] [1,3,4,5,6]))))))
(.reg [mV 42 3,
mV 43 5,
oP 44 (.lit 0 1 1 [(0,(.t 43))]),
oP 45 (.append 1 1 (.t 42) (.t 44)),
mV 3 45] [1,3,4]))))
(.reg [mV 13 4,
oP 14 (.bin .add (.t 13) (cI 1)),
mV 4 14] [1,3,4]))))))
(.seq (.reg [mV 46 3,
oP 2 (.mvd (.t 46))] [2])
.ret))))
abbrev Ub : RsT := [(2,none)]
theorem Ua : SpF 47 TT T1 Ub := SpI Tryz.func67 (by kernel_rfl)
theorem Uq : ak Tryz.prog TT = true := by kernel_rfl
abbrev IZ : FuncId := 68
def Ou : AC :=
(.seq (.reg [oP 2 (.mv (cI 0))] [0])
(.seq (.reg [oP 3 (.mv (cI 1))] [0,3])
(.seq (.seq (.reg [oP 4 (.mv (cI 0))] [0,3,4])
(.block 0
(.loop [0,3,4]
(.seq (.seq (.reg [mV 5 4,
mV 6 0,
oP 7 (.bin .lss (.t 5) (.t 6))] [0,3,4,7])
(.cond (.t 7)
.skip
(.exit 0)))
(.seq (.block 1
(.reg [mV 10 3,
oP 11 (.bin .mul (cI 2) (.t 10)),
mV 3 11] [0,3,4]))
(.reg [mV 8 4,
oP 9 (.bin .add (.t 8) (cI 1)),
mV 4 9] [0,3,4]))))))
(.seq (.reg [mV 12 3,
mV 2 12] [2])
.ret))))
abbrev Su : RsT := [(2,none)]
theorem PF : SpF 13 IZ Ou Su := SpI Tryz.func68 (by kernel_rfl)
theorem xS : ak Tryz.prog IZ = true := by kernel_rfl
abbrev H9 : FuncId := 69
def KA : AC :=
(.seq (.reg [oP 1 (.pbox 11 (.t 0)),
oP 2 (.mv (.c .nilptr)),
oP 3 (.mv (cI 0))] [1])
(.seq (.seq (.reg [oP 15 (.load (some 11) (.t 1)),
oP 16 (.call (.f 14) [true] [(.t 15)]),
mV 14 16,
oP 17 (.extract (.t 14) 0),
oP 18 (.extract (.t 14) 1),
oP 19 (.extract (.t 14) 2),
mV 4 17,
mV 5 18,
mV 6 19] [1,6])
(.seq (.reg [mV 20 6,
oP 21 (.bin .neq (.t 20) (cI 0))] [1,6,21])
(.cond (.t 21)
(.seq (.reg [mV 22 6,
oP 2 (.mv (.c .nilptr)),
mV 3 22] [2,3])
.ret)
.skip)))
(.seq (.dreg [oP 23 (.load (some 11) (.t 1)),
oP 24 (.fieldAddr (some 1) 0 (.t 1)),
oP 25 (.fieldAddr none 0 (.t 24)),
oP 26 (.load none (.t 25)),
oP 27 (.len (.t 26)),
oP 28 (.mksl 2 1 8 (.int .i64 0) (.t 27) (.t 27)),
oP 29 (.mnew),
oP 30 (.build [.slice 7 [], .slice 7 [], .int .i64 0, .int .i64 0, .int .i64 0, .int .i64 0, .slice 2 [], .slice 3 [], .slice 1 [], .slice 2 [], .slice 1 [], .slice 1 [], .int .i64 0, .nilmap] [(0,11,(.t 23)),(11,1,(.t 28)),(13,1,(.t 29))]),
oP 31 (.box 14 (.t 30)),
mV 7 31] [1,7] [[],[],[1],[1,2],[1,2,3],[1,2,3,4],[],[0,1,2,3,4,5,6],[0,1,2,3,4,5,6,7],[0,1,2,3,4,5,6,7,8]])
(.seq (.reg [oP 33 (.fieldAddr (some 2) 6 (.t 1)),
oP 34 (.load (some 2) (.t 33)),
oP 35 (.fieldAddr none 8 (.t 1)),
oP 36 (.load none (.t 35)),
oP 37 (.fieldAddr none 9 (.t 1)),
oP 38 (.load none (.t 37)),
oP 39 (.call (.f 48) [true,true,true] [(.t 34),(.t 36),(.t 38)]),
mV 32 39,
oP 40 (.extract (.t 32) 0),
oP 41 (.extract (.t 32) 1),
oP 8 (.alloc [.slice 1 [], .slice 1 []]),
oN (.store 2 (.t 8) (.t 40)),
mV 9 41] [1,7,8])
(.frz 8 true (.seq (.seq (.reg [oP 42 (.fieldAddr (some 1) 0 (.t 1)),
oP 43 (.fieldAddr none 0 (.t 42)),
oP 44 (.load none (.t 43)),
oP 45 (.len (.t 44)),
oP 46 (.mv (cI 0))] [1,7,8,44,45,46])
(.block 0
(.loop [1,7,8,44,45,46]
(.seq (.reg [oP 47 (.bin .lss (.t 46) (.t 45))] [1,7,8,44,45,46,47])
(.seq (.cond (.t 47)
.skip
(.exit 0))
(.seq (.block 1
(.seq (.reg [mV 48 46,
oP 49 (.ixS 7 (.t 44) (.t 46)),
oP 50 (.load (some 7) (.t 49)),
oP 11 (.alloc [.str ByteArray.empty, .int .i64 0, .int .i64 0, .int .i64 0, .slice 1 [], .int .i64 0, .int .i64 0]),
mV 10 48,
oN (.store 7 (.t 11) (.t 50))] [1,7,8,10,11,44,45,46])
(.frz 11 true (.seq (.seq (.reg [oP 51 (.fieldAddr (some 1) 0 (.t 1)),
oP 52 (.fieldAddr none 0 (.t 51)),
oP 53 (.load none (.t 52)),
oP 54 (.len (.t 53)),
oP 55 (.mv (cI 0))] [1,7,8,10,11,44,45,46,53,54,55])
(.block 2
(.loop [1,7,8,10,11,44,45,46,53,54,55]
(.seq (.reg [oP 56 (.bin .lss (.t 55) (.t 54))] [1,7,8,10,11,44,45,46,53,54,55,56])
(.seq (.cond (.t 56)
.skip
(.exit 2))
(.seq (.block 3
(.seq (.reg [mV 57 55,
oP 58 (.ixS 7 (.t 53) (.t 55)),
oP 59 (.load (some 7) (.t 58)),
oP 13 (.alloc [.str ByteArray.empty, .int .i64 0, .int .i64 0, .int .i64 0, .slice 1 [], .int .i64 0, .int .i64 0]),
mV 12 57,
oN (.store 7 (.t 13) (.t 59))] [1,7,8,10,11,12,13,44,45,46,53,54,55])
(.frz 13 true (.seq (.reg [oP 60 (.fieldAddr none 4 (.t 13)),
oP 61 (.load none (.t 60)),
oP 62 (.fieldAddr none 0 (.t 11)),
oP 63 (.load none (.t 62)),
oP 64 (.call (.f 122) [true,false] [(.t 61),(.t 63)])] [1,7,8,10,11,12,44,45,46,53,54,55,64])
(.cond (.t 64)
(.dreg [mV 65 7,
oP 66 (.nilchk (.t 65)),
oP 67 (.fieldAddr none 11 (.t 66)),
oP 68 (.load none (.t 67)),
mV 69 10,
oP 70 (.ixS 1 (.t 68) (.t 69)),
oP 71 (.load none (.t 70)),
mV 72 12,
oP 73 (.bin .shl (cI 1) (.t 72)),
oP 74 (.bin .or (.t 71) (.t 73)),
oP 75 (.ixS 1 (.t 68) (.t 69)),
oN (.store 1 (.t 75) (.t 74))] [1,7,8,10,11,44,45,46,53,54,55] [[],[0],[0,1],[0,1,2],[],[0,1,2,3,4],[0,1,2,3,4,5],[],[7],[0,1,2,3,4,5,6,7,8],[0,1,2,3,4,5,6,7,8,9],[0,1,2,3,4,5,6,7,8,9,10]])
.skip)))))
(.reg [oP 76 (.bin .add (.t 55) (cI 1)),
mV 55 76] [1,7,8,10,11,44,45,46,53,54,55])))))))
(.seq (.reg [oP 77 (.fieldAddr none 10 (.t 1)),
oP 78 (.load none (.t 77)),
mV 79 10,
oP 80 (.ixS 1 (.t 78) (.t 79)),
oP 81 (.load none (.t 80)),
oP 82 (.mkfunc (.func 123) [] [(.t 8)]),
oP 83 (.call (.f 100) [true,false] [(.t 81),(.t 82)])] [1,7,8,10,44,45,46,83])
(.cond (.t 83)
(.dreg [mV 84 7,
oP 85 (.nilchk (.t 84)),
oP 86 (.fieldAddr none 12 (.t 85)),
oP 87 (.load none (.t 86)),
mV 88 10,
oP 89 (.bin .shl (cI 1) (.t 88)),
oP 90 (.bin .or (.t 87) (.t 89)),
oP 91 (.nilchk (.t 84)),
oP 92 (.fieldAddr none 12 (.t 91)),
oN (.store 1 (.t 92) (.t 90))] [1,7,8,44,45,46] [[],[0],[0,1],[0,1,2],[],[4],[0,1,2,3,4,5],[0,1,2,3,4,5,6],[0,1,2,3,4,5,6,7],[0,1,2,3,4,5,6,7,8]])
.skip))))))
(.reg [oP 93 (.bin .add (.t 46) (cI 1)),
mV 46 93] [1,7,8,44,45,46])))))))
(.seq (.reg [mV 94 7,
mV 2 94,
oP 3 (.mv (cI 0))] [2,3])
.ret)))))))
abbrev PY : RsT := [(2,none),(3,none)]
theorem PI : SpF 95 H9 KA PY := SpI Tryz.func69 (by kernel_rfl)
theorem B7 : ak Tryz.prog H9 = true := by kernel_rfl
abbrev Io : FuncId := 70
def OE : AC :=
(.seq (.reg [oP 2 (.alloc [.mint 1])] [0,2])
(.seq (.reg [mV 7 0,
oP 8 (.call (.f 64) [false] [(.t 7)]),
oP 3 (.alloc [.nilfunc]),
oN (.store 1 (.t 3) (.t 8))] [0,2,3])
(.frz 3 false (.seq (.seq (.reg [mV 9 0,
oP 10 (.call (.f 77) [false] [(.t 9)]),
oP 4 (.alloc [.int .i64 0]),
oN (.store 1 (.t 4) (.t 10))] [0,2,3,4])
(.block 0
(.loop [0,2,3,4]
(.seq (.seq (.reg [oP 11 (.load none (.t 3)),
oP 12 (.load none (.t 4)),
oP 13 (.call (.t 11) [false] [(.t 12)]),
oP 14 (.bin .gtr (.t 13) (cI 0))] [0,2,3,4,14])
(.cond (.t 14)
.skip
(.exit 0)))
(.seq (.block 1
(.seq (.reg [mV 15 0,
oP 16 (.load none (.t 4)),
oP 17 (.call (.f 61) [false,false] [(.t 15),(.t 16)])] [0,2,3,4,17])
(.block 2
(.bF (.t 17) [18,19] (.seq (.reg [mV 5 18] [0,2,3,4,5,19])
(.reg [mV 6 19] [0,2,3,4,5,6]))
(.block 3
(.seq (.qreg [oP 20 (.load none (.t 3)),
mV 21 6,
oP 22 (.call (.t 20) [false] [(.t 21)]),
oP 23 (.load none (.t 3)),
oP 24 (.load none (.t 4)),
oP 25 (.call (.t 23) [false] [(.t 24)]),
oP 26 (.bin .sub (.t 25) (cI 1)),
oP 27 (.bin .eql (.t 22) (.t 26))] [0,2,3,4,5,6,27] [[],[],[0,1],[],[],[0,1,2,3,4],[0,1,2,3,4,5],[0,1,2,3,4,5,6]] [([0,1,3,4],2),([],5)] [6,7])
(.cond (.t 27)
(.seq (.reg [oP 28 (.load none (.t 2)),
mV 29 5,
oP 30 (.lit 0 1 1 [(0,(.t 29))]),
oP 31 (.append 1 8 (.t 28) (.t 30)),
mV 32 6,
oN (.store 1 (.t 2) (.t 31)),
oN (.store 1 (.t 4) (.t 32))] [0,2,3,4])
(.exit 2))
.skip)))))))
(.seq (.reg [oP 33 (.load none (.t 4))] [0,2,3,33])
(.reg [oP 4 (.alloc [.int .i64 0]),
oN (.store 1 (.t 4) (.t 33))] [0,2,3,4])))))))
(.seq (.reg [oP 34 (.loadd none (.t 2)),
oN (.store 1 (.t 2) (.t 34))] [2])
.ret)))))
abbrev Q8 : RsT := [(2,some none)]
theorem SR : SpF 35 Io OE Q8 := SpI Tryz.func70 (by kernel_rfl)
theorem OZ : ak Tryz.prog Io = true := by kernel_rfl
abbrev TN : FuncId := 71
def TU : AC :=
(.seq (.reg [oP 4 (.pbox 2 (.t 0)),
oP 8 (.mv (.c (.slice 1 [])))] [1,2,3,4])
(.seq (.seq (.reg [mV 11 2,
oP 12 (.bin .eql (.t 11) (cI 0))] [1,2,3,4,12])
(.cond (.t 12)
(.seq (.reg [mV 13 3,
oP 14 (.lit 0 1 1 [(0,(.t 13))]),
oP 8 (.mvd (.t 14))] [8])
.ret)
.skip))
(.seq (.reg [oP 9 (.nilS 1 1)] [1,2,3,4,9])
(.seq (.seq (.reg [oP 10 (.mv (cI 0))] [1,2,3,4,9,10])
(.block 0
(.loop [1,2,3,4,9,10]
(.seq (.seq (.reg [mV 15 10,
oP 16 (.fieldAddr none 0 (.t 4)),
oP 17 (.load none (.t 16)),
oP 18 (.bin .lss (.t 15) (.t 17))] [1,2,3,4,9,10,18])
(.cond (.t 18)
.skip
(.exit 0)))
(.seq (.block 1
(.seq (.reg [oP 21 (.fieldAddr none 1 (.t 4)),
oP 22 (.load none (.t 21)),
mV 23 1,
oP 24 (.ixS 1 (.t 22) (.t 23)),
oP 25 (.load none (.t 24)),
mV 26 10,
oP 27 (.ixS 1 (.t 25) (.t 26)),
oP 28 (.load none (.t 27)),
oP 29 (.bin .eql (.t 28) (cI 0))] [1,2,3,4,9,10,29])
(.cond (.t 29)
(.dreg [mV 30 9,
oP 31 (.load (some 2) (.t 4)),
mV 32 1,
mV 33 10,
oP 34 (.call (.f 68) [false] [(.t 33)]),
oP 35 (.bin .sub (.t 32) (.t 34)),
mV 36 2,
oP 37 (.bin .sub (.t 36) (cI 1)),
oP 38 (.lit 1 1 0 []),
mV 39 3,
oP 40 (.append 1 8 (.t 38) (.t 39)),
mV 41 10,
oP 42 (.lit 0 1 1 [(0,(.t 41))]),
oP 43 (.append 1 8 (.t 40) (.t 42)),
oP 44 (.call (.f 71) [true,false,false,true] [(.t 31),(.t 35),(.t 37),(.t 43)]),
oP 45 (.append 1 24 (.t 30) (.t 44)),
mV 9 45] [1,2,3,4,9,10] [[],[],[],[],[3],[2,3,4],[],[6],[],[],[3,4,8,9],[],[11],[3,4,8,9,10,11,12],[1,2,3,4,5,6,7,8,9,10,11,12,13],[0,1,2,3,4,5,6,7,8,9,10,11,12,13,14],[0,1,2,3,4,5,6,7,8,9,10,11,12,13,14,15]])
.skip)))
(.reg [mV 19 10,
oP 20 (.bin .add (.t 19) (cI 1)),
mV 10 20] [1,2,3,4,9,10]))))))
(.seq (.reg [mV 46 9,
oP 8 (.mvd (.t 46))] [8])
.ret)))))
abbrev Ue : RsT := [(8,none)]
theorem T6 : SpF 47 TN TU Ue := SpI Tryz.func71 (by kernel_rfl)
theorem TW : ak Tryz.prog TN = true := by kernel_rfl
abbrev H8 : FuncId := 72
def Pc : AC :=
(.seq (.reg [oP 1 (.pbox 1 (.t 0)),
oP 2 (.mv (.c .nilfunc))] [1])
(.seq (.reg [oP 3 (.mkfunc (.func 124) [] [(.t 1)]),
mV 2 3] [2])
.ret))
abbrev Qw : RsT := [(2,none)]
theorem PD : SpF 4 H8 Pc Qw := SpI Tryz.func72 (by kernel_rfl)
theorem OD : ak Tryz.prog H8 = true := by kernel_rfl
abbrev H5 : FuncId := 73
def JZ : AC :=
(.seq (.reg [oP 6 (.mv (cI 0))] [0,1,2])
(.seq (.seq (.reg [mV 9 0,
oP 10 (.mkfunc (.func 125) [(.t 9)] []),
mV 11 0,
oP 12 (.mkfunc (.func 126) [(.t 11)] []),
mV 13 0,
oP 14 (.mkfunc (.func 127) [(.t 13)] []),
mV 15 0,
oP 16 (.mkfunc (.func 128) [(.t 15)] []),
oP 17 (.build [.nilfunc, .nilfunc, .nilfunc, .nilfunc] [(0,1,(.t 10)),(1,1,(.t 12)),(2,1,(.t 14)),(3,1,(.t 16))]),
oP 18 (.mv (cI 0))] [1,2,17,18])
(.block 0
(.loop [1,2,17,18]
(.seq (.reg [oP 19 (.bin .lss (.t 18) (cI 4))] [1,2,17,18,19])
(.seq (.cond (.t 19)
.skip
(.exit 0))
(.seq (.block 1
(.seq (.reg [mV 20 18,
oP 21 (.ixV 4 1 none (.t 17) (.t 18)),
mV 7 20,
mV 8 21] [1,2,7,8,17,18])
(.seq (.reg [mV 22 8,
mV 23 1,
mV 24 2,
oP 25 (.call (.t 22) [false,false] [(.t 23),(.t 24)])] [1,2,7,17,18,25])
(.cond (.t 25)
(.seq (.reg [mV 26 7,
oP 27 (.bin .add (cI 1) (.t 26)),
mV 6 27] [6])
.ret)
.skip))))
(.reg [oP 28 (.bin .add (.t 18) (cI 1)),
mV 18 28] [1,2,17,18])))))))
(.seq (.reg [oP 6 (.mv (cI 0))] [6])
.ret)))
abbrev SO : RsT := [(6,none)]
theorem Sb : SpF 29 H5 JZ SO := SpI Tryz.func73 (by kernel_rfl)
theorem Fj : ak Tryz.prog H5 = true := by kernel_rfl
abbrev Iw : FuncId := 74
def LY : AC :=
(.seq (.reg [oP 2 (.mv (.c (.slice 1 [])))] [0])
(.seq (.seq (.reg [mV 3 0,
oP 4 (.snil false (.t 3))] [0,4])
(.cond (.t 4)
(.seq (.reg [oP 2 (.nilS 3 1)] [2])
.ret)
.skip))
(.seq (.reg [oP 5 (.lit 1 1 0 []),
mV 6 0,
oP 7 (.append 1 8 (.t 5) (.t 6)),
mV 2 7] [2])
.ret)))
abbrev SW : RsT := [(2,none)]
theorem PR : SpF 8 Iw LY SW := SpI Tryz.func74 (by kernel_rfl)
theorem IW : ak Tryz.prog Iw = true := by kernel_rfl
abbrev HR : FuncId := 75
def MR : AC :=
(.seq (.reg [mV 3 0,
oP 4 (.len (.t 3)),
mV 2 4] [0,2])
(.reg [mV 5 0,
mV 6 2,
mV 7 2,
oP 8 (.conv .u64 (.t 7)),
oP 9 (.call (.f 130) [false] [(.t 8)]),
oP 10 (.call (.f 129) [true,false,false,false] [(.t 5),(cI 0),(.t 6),(.t 9)])] []))
abbrev PH : RsT := []
theorem SH : SpF 11 HR MR PH := SpI Tryz.func75 (by kernel_rfl)
theorem OC : ak Tryz.prog HR = true := by kernel_rfl
abbrev HP : FuncId := 77
def N9 : AC :=
(.seq (.reg [oP 2 (.mv (cI 0))] [0])
(.seq (.reg [mV 3 0,
oP 4 (.nilchk (.t 3)),
oP 5 (.fieldAddr none 11 (.t 4)),
oP 6 (.load none (.t 5)),
oP 7 (.len (.t 6)),
oP 8 (.bin .shl (cI 1) (.t 7)),
oP 9 (.bin .sub (.t 8) (cI 1)),
mV 2 9] [2])
.ret))
abbrev Rx : RsT := [(2,none)]
theorem SU : SpF 10 HP N9 Rx := SpI Tryz.func77 (by kernel_rfl)
theorem Bt : ak Tryz.prog HP = true := by kernel_rfl
abbrev IA : FuncId := 78
def Mf : AC :=
(.seq (.reg [oP 4 (.mv (.c (.bool false)))] [0,1])
(.seq (.reg [mV 5 0,
mV 6 1,
oP 7 (.call (.f 131) [true,false] [(.t 5),(.t 6)]),
oP 8 (.bin .geq (.t 7) (cI 0)),
mV 4 8] [4])
.ret))
abbrev R2 : RsT := [(4,none)]
theorem Sf : SpF 9 IA Mf R2 := SpI Tryz.func78 (by kernel_rfl)
theorem xY : ak Tryz.prog IA = true := by kernel_rfl
abbrev HO : FuncId := 79
def K7 : AC :=
(.seq (.reg [oP 8 (.alloc [.str ByteArray.empty, .int .i64 0, .int .i64 0, .int .i64 0, .slice 1 [], .int .i64 0, .int .i64 0])] [0,1,2,3,8])
(.seq (.reg [mV 9 0,
mV 10 1,
mV 11 2,
mV 12 3,
oP 13 (.call (.f 80) [false,false] [(cI 1),(cI 1)]),
oP 14 (.build [.str ByteArray.empty, .int .i64 0, .int .i64 0, .int .i64 0, .slice 1 [], .int .i64 0, .int .i64 0] [(0,1,(.t 9)),(1,1,(.t 10)),(2,1,(.t 11)),(3,1,(.t 12)),(5,2,(.t 13))]),
oN (.store 7 (.t 8) (.t 14))] [8])
.ret))
abbrev PJ : RsT := [(8,some (some 7))]
theorem Qn : SpF 15 HO K7 PJ := SpI Tryz.func79 (by kernel_rfl)
theorem I0 : ak Tryz.prog HO = true := by kernel_rfl
abbrev IS : FuncId := 80
def Lc : AC :=
(.seq (.reg [oP 4 (.alloc [.int .i64 0, .int .i64 0])] [0,1,4])
(.seq (.reg [mV 5 0,
mV 6 1,
oP 7 (.build [.int .i64 0, .int .i64 0] [(0,1,(.t 5)),(1,1,(.t 6))]),
oN (.store 2 (.t 4) (.t 7))] [4])
.ret))
abbrev Sh : RsT := [(4,some (some 2))]
theorem RS : SpF 8 IS Lc Sh := SpI Tryz.func80 (by kernel_rfl)
theorem Lx : ak Tryz.prog IS = true := by kernel_rfl
abbrev Hy : FuncId := 81
def Lw : AC :=
(.seq (.reg [oP 0 (.alloc [.slice 7 [], .int .i64 0, .int .i64 0])] [0])
(.seq (.reg [oP 1 (.call (.f 132) [false,false] [(cI 1000),(cI 1200)]),
oP 2 (.call (.f 132) [false,false] [(cI 10),(cI 12)]),
⟨some 3,none, .build [.str ByteArray.empty, .int .i64 0, .int .i64 0, .int .i64 0, .int .i64 0, .int .i64 0, .int .i64 0] [(0,1,(.c (.str ⟨#[98,111,119]⟩))),(1,1,(cI 100)),(2,2,(.t 1)),(4,1,(cI 50)),(5,2,(.t 2))]⟩,
oP 4 (.call (.f 132) [false,false] [(cI 500),(cI 600)]),
oP 5 (.call (.f 132) [false,false] [(cI 4),(cI 5)]),
⟨some 6,none, .build [.str ByteArray.empty, .int .i64 0, .int .i64 0, .int .i64 0, .int .i64 0, .int .i64 0, .int .i64 0] [(0,1,(.c (.str ⟨#[109,105,100]⟩))),(1,1,(cI 400)),(2,2,(.t 4)),(4,1,(cI 100)),(5,2,(.t 5))]⟩,
oP 7 (.call (.f 132) [false,false] [(cI 2000),(cI 2000)]),
oP 8 (.call (.f 132) [false,false] [(cI 20),(cI 20)]),
⟨some 9,none, .build [.str ByteArray.empty, .int .i64 0, .int .i64 0, .int .i64 0, .int .i64 0, .int .i64 0, .int .i64 0] [(0,1,(.c (.str ⟨#[115,116,101,114,110]⟩))),(1,1,(cI 900)),(2,2,(.t 7)),(4,1,(cI 100)),(5,2,(.t 8))]⟩,
oP 10 (.lit 0 7 3 [(0,(.t 3)),(1,(.t 6)),(2,(.t 9))]),
oP 11 (.build [.slice 7 [], .int .i64 0, .int .i64 0] [(0,1,(.t 10)),(1,1,(cI 200)),(2,1,(cI 800))]),
oN (.store 3 (.t 0) (.t 11))] [0])
.ret))
abbrev Sw : RsT := [(0,some (some 3))]
theorem QP : SpF 12 Hy Lw Sw := SpI Tryz.func81 (by kernel_rfl)
theorem Q3 : ak Tryz.prog Hy = true := by kernel_rfl
abbrev I6 : FuncId := 82
def KD : AC :=
(.seq (.reg [oP 2 (.alloc [.slice 2 [], .slice 3 []])] [0,2])
(.seq (.reg [⟨some 3,none, .build [.str ByteArray.empty, .bool false] [(0,1,(.c (.str ⟨#[97]⟩))),(1,1,(.c (.bool true)))]⟩,
⟨some 4,none, .build [.str ByteArray.empty, .bool false] [(0,1,(.c (.str ⟨#[98]⟩)))]⟩,
⟨some 5,none, .build [.str ByteArray.empty, .bool false] [(0,1,(.c (.str ⟨#[99]⟩)))]⟩,
⟨some 6,none, .build [.str ByteArray.empty, .bool false] [(0,1,(.c (.str ⟨#[100]⟩)))]⟩,
⟨some 7,none, .build [.str ByteArray.empty, .bool false] [(0,1,(.c (.str ⟨#[101]⟩)))]⟩,
oP 8 (.lit 0 2 5 [(0,(.t 3)),(1,(.t 4)),(2,(.t 5)),(3,(.t 6)),(4,(.t 7))]),
mV 9 0,
oP 10 (.build [.int .i64 0, .int .i64 0, .bool false] [(0,1,(cI 0)),(1,1,(cI 1)),(2,1,(.t 9))]),
oP 11 (.build [.int .i64 0, .int .i64 0, .bool false] [(0,1,(cI 1)),(1,1,(cI 2))]),
oP 12 (.build [.int .i64 0, .int .i64 0, .bool false] [(0,1,(cI 0)),(1,1,(cI 2))]),
oP 13 (.build [.int .i64 0, .int .i64 0, .bool false] [(0,1,(cI 2)),(1,1,(cI 3))]),
oP 14 (.build [.int .i64 0, .int .i64 0, .bool false] [(0,1,(cI 3)),(1,1,(cI 4))]),
oP 15 (.build [.int .i64 0, .int .i64 0, .bool false] [(0,1,(cI 2)),(1,1,(cI 4))]),
oP 16 (.lit 0 3 6 [(0,(.t 10)),(1,(.t 11)),(2,(.t 12)),(3,(.t 13)),(4,(.t 14)),(5,(.t 15))]),
oP 17 (.build [.slice 2 [], .slice 3 []] [(0,1,(.t 8)),(1,1,(.t 16))]),
oN (.store 2 (.t 2) (.t 17))] [2])
.ret))
abbrev Q0 : RsT := [(2,some (some 2))]
theorem Pz : SpF 18 I6 KD Q0 := SpI Tryz.func82 (by kernel_rfl)
theorem QZ : ak Tryz.prog I6 = true := by kernel_rfl
abbrev H6 : FuncId := 83
def L2 : AC :=
(.seq (.reg [oP 2 (.pbox 2 (.t 0)),
oP 4 (.mv (cI 0))] [1,2])
(.seq (.dreg [oP 5 (.fieldAddr none 0 (.t 2)),
oP 6 (.load none (.t 5)),
mV 7 1,
oP 8 (.fieldAddr none 1 (.t 2)),
oP 9 (.load none (.t 8)),
oP 10 (.fieldAddr none 0 (.t 2)),
oP 11 (.load none (.t 10)),
oP 12 (.bin .sub (.t 9) (.t 11)),
oP 13 (.bin .add (.t 12) (cI 1)),
oP 14 (.bin .rem (.t 7) (.t 13)),
oP 15 (.bin .add (.t 6) (.t 14)),
mV 4 15] [4] [[],[0],[],[],[3],[],[5],[3,4,5,6],[3,4,5,6,7],[2,3,4,5,6,7,8],[0,1,2,3,4,5,6,7,8,9],[0,1,2,3,4,5,6,7,8,9,10]])
.ret))
abbrev Rc : RsT := [(4,none)]
theorem RJ : SpF 16 H6 L2 Rc := SpI Tryz.func83 (by kernel_rfl)
theorem MC : ak Tryz.prog H6 = true := by kernel_rfl
abbrev HB : FuncId := 84
def IF : AC :=
(.seq (.reg [oP 4 (.mv (cI 0))] [0,1])
(.seq (.seq (.reg [mV 5 0,
oP 6 (.len (.t 5)),
oP 7 (.bin .eql (.t 6) (cI 0))] [0,1,7])
(.cond (.t 7)
(.seq (.reg [oP 4 (.mv (cI 0))] [4])
.ret)
.skip))
(.seq (.reg [mV 8 0,
mV 9 1,
mV 10 0,
oP 11 (.len (.t 10)),
oP 12 (.bin .rem (.t 9) (.t 11)),
oP 13 (.ixS 1 (.t 8) (.t 12)),
oP 14 (.load none (.t 13)),
oP 15 (.conv .i64 (.t 14)),
mV 4 15] [4])
.ret)))
abbrev QT : RsT := [(4,none)]
theorem QS : SpF 16 HB IF QT := SpI Tryz.func84 (by kernel_rfl)
theorem Ly : ak Tryz.prog HB = true := by kernel_rfl
abbrev Iq : FuncId := 85
def B1 : AC :=
(.seq (.reg [oP 1 (.pbox 3 (.t 0)),
oP 2 (.mv (cI 0))] [1])
(.seq (.seq (.reg [oP 3 (.fieldAddr none 0 (.t 1)),
oP 4 (.load none (.t 3)),
oP 5 (.bin .leq (.t 4) (cI 0))] [1,5])
(.cond (.t 5)
(.seq (.reg [oP 2 (.mv (cI 1))] [2])
.ret)
.skip))
(.seq (.seq (.reg [oP 6 (.fieldAddr none 1 (.t 1)),
oP 7 (.load none (.t 6)),
oP 8 (.bin .lss (.t 7) (cI 0))] [1,8])
(.cond (.t 8)
(.seq (.reg [oP 2 (.mv (cI 2))] [2])
.ret)
.skip))
(.seq (.seq (.reg [oP 9 (.fieldAddr none 2 (.t 1)),
oP 10 (.load none (.t 9)),
oP 11 (.bin .lss (.t 10) (cI 0))] [11])
(.cond (.t 11)
(.seq (.reg [oP 2 (.mv (cI 3))] [2])
.ret)
.skip))
(.seq (.reg [oP 2 (.mv (cI 0))] [2])
.ret)))))
abbrev SG : RsT := [(2,none)]
theorem Rp : SpF 12 Iq B1 SG := SpI Tryz.func85 (by kernel_rfl)
theorem JP : ak Tryz.prog Iq = true := by kernel_rfl
abbrev Hr : FuncId := 86
def O2 : AC :=
(.seq (.reg [oP 3 (.pbox 3 (.t 0)),
oP 4 (.pbox 2 (.t 1)),
oP 6 (.alloc [.int .i64 0, .int .i64 0, .int .i64 0])] [2,3,4,6])
(.seq (.reg [oP 7 (.alloc [.int .i64 0, .int .i64 0, .int .i64 0])] [2,3,4,6,7])
(.seq (.seq (.reg [oP 8 (.mv (cI 0))] [2,3,4,6,7,8])
(.block 0
(.loop [2,3,4,6,7,8]
(.seq (.seq (.reg [mV 11 8,
oP 12 (.fieldAddr none 0 (.t 3)),
oP 13 (.load none (.t 12)),
oP 14 (.len (.t 13)),
oP 15 (.bin .lss (.t 11) (.t 14))] [2,3,4,6,7,8,15])
(.cond (.t 15)
.skip
(.exit 0)))
(.seq (.block 1
(.seq (.reg [oP 18 (.fieldAddr none 0 (.t 3)),
oP 19 (.load none (.t 18)),
mV 20 8,
oP 21 (.ixS 7 (.t 19) (.t 20)),
oP 22 (.load (some 7) (.t 21)),
oP 9 (.alloc [.str ByteArray.empty, .int .i64 0, .int .i64 0, .int .i64 0, .int .i64 0, .int .i64 0, .int .i64 0]),
oN (.store 7 (.t 9) (.t 22))] [2,3,4,6,7,8,9])
(.frz 9 true (.seq (.dreg [oP 23 (.fieldAddr none 0 (.t 4)),
oP 24 (.load none (.t 23)),
mV 25 8,
oP 26 (.ixS 1 (.t 24) (.t 25)),
oP 27 (.load none (.t 26)),
oP 28 (.fieldAddr none 1 (.t 4)),
oP 29 (.load none (.t 28)),
mV 30 8,
oP 31 (.ixS 1 (.t 29) (.t 30)),
oP 32 (.load none (.t 31)),
mV 33 2,
oP 34 (.fieldAddr none 4 (.t 9)),
oP 35 (.load none (.t 34)),
oP 36 (.bin .sub (.t 33) (.t 35)),
oP 37 (.mx [(cI 0),(.t 36)]),
oP 38 (.bin .mul (.t 32) (.t 37)),
oP 39 (.bin .sub (.t 27) (.t 38)),
mV 10 39] [2,3,4,6,7,8,9,10] [[],[0],[],[0,1,2],[0,1,2,3],[],[5],[],[5,6,7],[5,6,7,8],[],[],[11],[10,11,12],[10,11,12,13],[5,6,7,8,9,10,11,12,13,14],[0,1,2,3,4,5,6,7,8,9,10,11,12,13,14,15],[0,1,2,3,4,5,6,7,8,9,10,11,12,13,14,15,16]])
(.seq (.reg [oP 40 (.fieldAddr none 0 (.t 7)),
oP 41 (.load none (.t 40)),
mV 42 10,
oP 43 (.bin .add (.t 41) (.t 42)),
oP 44 (.fieldAddr none 0 (.t 7)),
oN (.store 1 (.t 44) (.t 43))] [2,3,4,6,7,8,9,10])
(.seq (.reg [oP 45 (.fieldAddr none 1 (.t 7)),
oP 46 (.load none (.t 45)),
mV 47 10,
oP 48 (.fieldAddr none 1 (.t 9)),
oP 49 (.load none (.t 48)),
oP 50 (.fieldAddr none 1 (.t 3)),
oP 51 (.load none (.t 50)),
oP 52 (.bin .sub (.t 49) (.t 51)),
oP 53 (.bin .mul (.t 47) (.t 52)),
oP 54 (.bin .add (.t 46) (.t 53)),
oP 55 (.fieldAddr none 1 (.t 7)),
oN (.store 1 (.t 55) (.t 54))] [2,3,4,6,7,8,9,10])
(.reg [oP 56 (.fieldAddr none 2 (.t 7)),
oP 57 (.load none (.t 56)),
mV 58 10,
oP 59 (.fieldAddr none 2 (.t 3)),
oP 60 (.load none (.t 59)),
oP 61 (.fieldAddr none 1 (.t 9)),
oP 62 (.load none (.t 61)),
oP 63 (.bin .sub (.t 60) (.t 62)),
oP 64 (.bin .mul (.t 58) (.t 63)),
oP 65 (.bin .add (.t 57) (.t 64)),
oP 66 (.fieldAddr none 2 (.t 7)),
oN (.store 1 (.t 66) (.t 65))] [2,3,4,6,7,8])))))))
(.reg [mV 16 8,
oP 17 (.bin .add (.t 16) (cI 1)),
mV 8 17] [2,3,4,6,7,8]))))))
(.seq (.reg [oP 67 (.load (some 3) (.t 7)),
oN (.store 3 (.t 6) (.t 67))] [6])
.ret))))
abbrev RK : RsT := [(6,some (some 3))]
theorem R7 : SpF 68 Hr O2 RK := SpI Tryz.func86 (by kernel_rfl)
theorem EE : ak Tryz.prog Hr = true := by kernel_rfl
abbrev Hw : FuncId := 87
def N0 : AC :=
(.seq (.reg [oP 4 (.mv (cI 0))] [0,1])
(.seq (.seq (.reg [oP 5 (.mv (cI 0))] [0,1,5])
(.block 0
(.loop [0,1,5]
(.seq (.seq (.reg [mV 6 5,
mV 7 0,
oP 8 (.len (.t 7)),
oP 9 (.bin .lss (.t 6) (.t 8))] [0,1,5,9])
(.cond (.t 9)
.skip
(.exit 0)))
(.seq (.block 1
(.seq (.reg [mV 12 0,
mV 13 5,
oP 14 (.ixS 7 (.t 12) (.t 13)),
oP 15 (.fieldAddr none 0 (.t 14)),
oP 16 (.load none (.t 15)),
mV 17 1,
oP 18 (.bin .eql (.t 16) (.t 17))] [0,1,5,18])
(.cond (.t 18)
(.seq (.reg [mV 19 5,
mV 4 19] [4])
.ret)
.skip)))
(.reg [mV 10 5,
oP 11 (.bin .add (.t 10) (cI 1)),
mV 5 11] [0,1,5]))))))
(.seq (.reg [oP 4 (.mv (cI (-1)))] [4])
.ret)))
abbrev RP : RsT := [(4,none)]
theorem QA : SpF 20 Hw N0 RP := SpI Tryz.func87 (by kernel_rfl)
theorem ER : ak Tryz.prog Hw = true := by kernel_rfl
abbrev Ii : FuncId := 88
def Pg : AC :=
(.seq (.reg [oP 2 (.pbox 2 (.t 0)),
oP 4 (.alloc [.slice 7 []]),
oP 5 (.mv (cI 0)),
oP 6 (.mv (cI 0)),
oP 7 (.mv (cI 0))] [1,2,4])
(.seq (.reg [oP 17 (.fieldAddr (some 1) 0 (.t 2)),
oP 18 (.load (some 1) (.t 17)),
oP 19 (.build [.slice 7 []] [(0,1,(.t 18))]),
oP 8 (.alloc [.slice 7 []]),
oN (.store 1 (.t 8) (.t 19))] [1,2,4,8])
(.seq (.seq (.reg [oP 20 (.fieldAddr (some 1) 0 (.t 8)),
oP 21 (.fieldAddr none 0 (.t 20)),
oP 22 (.load none (.t 21)),
oP 23 (.len (.t 22)),
oP 24 (.bin .gtr (.t 23) (cI 12))] [1,2,4,8,24])
(.cond (.t 24)
(.seq (.reg [oP 25 (.loadd (some 1) (.t 4)),
oN (.store 1 (.t 4) (.t 25)),
oP 5 (.mv (cI 1)),
oP 6 (.mv (cI 0)),
oP 7 (.mv (cI 3))] [4,5,6,7])
.ret)
.skip))
(.seq (.seq (.reg [oP 26 (.fieldAddr (some 1) 0 (.t 8)),
oP 27 (.fieldAddr none 0 (.t 26)),
oP 28 (.load none (.t 27)),
oP 29 (.len (.t 28)),
oP 30 (.mv (cI 0))] [1,2,4,8,28,29,30])
(.block 0
(.loop [1,2,4,8,28,29,30]
(.seq (.reg [oP 31 (.bin .lss (.t 30) (.t 29))] [1,2,4,8,28,29,30,31])
(.seq (.cond (.t 31)
.skip
(.exit 0))
(.seq (.block 1
(.seq (.reg [mV 32 30,
oP 33 (.ixS 7 (.t 28) (.t 30)),
oP 34 (.load (some 7) (.t 33)),
oP 10 (.alloc [.str ByteArray.empty, .int .i64 0, .int .i64 0, .int .i64 0, .slice 1 [], .int .i64 0, .int .i64 0]),
mV 9 32,
oN (.store 7 (.t 10) (.t 34))] [1,2,4,8,9,10,28,29,30])
(.frz 10 true (.seq (.reg [oP 35 (.load (some 7) (.t 10)),
mV 36 9,
oP 37 (.call (.f 133) [true,true,false,true] [(.t 8),(.t 35),(.t 36),(.c (.slice 7 []))]),
mV 7 37] [1,2,4,7,8,9,28,29,30])
(.seq (.reg [mV 38 7,
oP 39 (.bin .neq (.t 38) (cI 0))] [1,2,4,7,8,9,28,29,30,39])
(.cond (.t 39)
(.seq (.reg [oP 40 (.loadd (some 1) (.t 4)),
mV 41 9,
mV 42 7,
oN (.store 1 (.t 4) (.t 40)),
oP 5 (.mv (cI 1)),
mV 6 41,
mV 7 42] [4,5,6,7])
.ret)
.skip))))))
(.reg [oP 43 (.bin .add (.t 30) (cI 1)),
mV 30 43] [1,2,4,8,28,29,30])))))))
(.seq (.seq (.reg [oP 44 (.fieldAddr none 1 (.t 2)),
oP 45 (.load none (.t 44)),
oP 46 (.len (.t 45)),
oP 47 (.bin .gtr (.t 46) (cI 8))] [1,2,4,8,47])
(.cond (.t 47)
(.seq (.reg [oP 48 (.loadd (some 1) (.t 4)),
oN (.store 1 (.t 4) (.t 48)),
oP 5 (.mv (cI 2)),
oP 6 (.mv (cI 0)),
oP 7 (.mv (cI 3))] [4,5,6,7])
.ret)
.skip))
(.seq (.reg [oP 49 (.call (.f 134) [] []),
oP 11 (.mv (cI 0)),
mV 12 49] [1,2,4,8,11,12])
(.seq (.reg [oP 50 (.loadd (some 1) (.t 8)),
oN (.store 1 (.t 4) (.t 50))] [1,2,4,8,11,12])
(.seq (.seq (.reg [oP 51 (.fieldAddr none 1 (.t 2)),
oP 52 (.load none (.t 51)),
oP 53 (.len (.t 52)),
oP 54 (.mv (cI 0))] [1,4,8,11,12,52,53,54])
(.block 2
(.loop [1,4,8,11,12,52,53,54]
(.seq (.reg [oP 55 (.bin .lss (.t 54) (.t 53))] [1,4,8,11,12,52,53,54,55])
(.seq (.cond (.t 55)
.skip
(.exit 2))
(.seq (.block 3
(.seq (.reg [mV 56 54,
oP 57 (.ixS 10 (.t 52) (.t 54)),
oP 58 (.load (some 10) (.t 57)),
oP 14 (.alloc [.int .i64 0, .int .i64 0, .str ByteArray.empty, .str ByteArray.empty, .int .i64 0, .int .i64 0, .int .i64 0, .slice 1 [], .int .i64 0, .int .i64 0]),
mV 13 56,
oN (.store 10 (.t 14) (.t 58))] [1,4,8,11,12,13,14,52,53,54])
(.frz 14 true (.seq (.reg [mV 60 12,
oP 61 (.fieldAddr none 0 (.t 14)),
oP 62 (.load none (.t 61)),
oP 63 (.mget true .i (.agg [.nilfunc, .nilfunc]) (.t 60) (.t 62)),
mV 59 63,
oP 64 (.extract (.t 59) 0),
oP 65 (.extract (.t 59) 1),
oP 15 (.alloc [.nilfunc, .nilfunc]),
oN (.store 2 (.t 15) (.t 64)),
mV 16 65] [1,4,8,11,12,13,14,15,16,52,53,54])
(.frz 15 true (.seq (.block 4
(.seq (.reg [mV 67 11,
oP 68 (.fieldAddr none 1 (.t 14)),
oP 69 (.load none (.t 68)),
oP 70 (.lit 0 1 1 [(0,(.t 69))]),
oP 71 (.call (.f 135) [false,false,true] [(.t 67),(cI 40000),(.t 70)]),
mV 66 71] [1,4,8,12,13,14,15,16,52,53,54,66])
(.cond (.t 66)
(.seq (.reg [oP 72 (.loadd (some 1) (.t 4)),
mV 73 13,
oN (.store 1 (.t 4) (.t 72)),
oP 5 (.mv (cI 2)),
mV 6 73,
oP 7 (.mv (cI 7))] [4,5,6,7])
.ret)
(.seq (.reg [mV 75 16,
oP 76 (.un .not (.t 75)),
mV 77 76,
gF 78 77 (.fieldAddr none 0 (.t 15)),
gF 79 77 (.load none (.t 78)),
gF 80 77 (.load (some 10) (.t 14)),
gF 81 77 (.call (.t 79) [true] [(.t 80)]),
gF 82 77 (.un .not (.t 81)),
oP 83 (.pick (.t 77) (.c (.bool true)) (.t 82)),
mV 74 83] [1,4,8,12,13,14,15,52,53,54,74])
(.cond (.t 74)
(.seq (.reg [oP 84 (.loadd (some 1) (.t 4)),
mV 85 13,
oN (.store 1 (.t 4) (.t 84)),
oP 5 (.mv (cI 2)),
mV 6 85,
oP 7 (.mv (cI 6))] [4,5,6,7])
.ret)
.skip)))))
(.seq (.seq (.reg [oP 86 (.fieldAddr none 1 (.t 15)),
oP 87 (.load none (.t 86)),
oP 88 (.load (some 10) (.t 14)),
oP 89 (.call (.t 87) [false,true] [(.t 8),(.t 88)]),
mV 7 89] [1,4,7,8,12,13,14,52,53,54])
(.seq (.reg [mV 90 7,
oP 91 (.bin .neq (.t 90) (cI 0))] [1,4,7,8,12,13,14,52,53,54,91])
(.cond (.t 91)
(.seq (.reg [oP 92 (.loadd (some 1) (.t 4)),
mV 93 13,
mV 94 7,
oN (.store 1 (.t 4) (.t 92)),
oP 5 (.mv (cI 2)),
mV 6 93,
mV 7 94] [4,5,6,7])
.ret)
.skip)))
(.seq (.reg [oP 95 (.fieldAddr none 1 (.t 14)),
oP 96 (.load none (.t 95)),
mV 11 96] [1,4,8,11,12,52,53,54])
(.seq (.reg [mV 97 11,
mV 98 1,
oP 99 (.bin .leq (.t 97) (.t 98))] [1,4,8,11,12,52,53,54,99])
(.cond (.t 99)
(.reg [oP 100 (.loadd (some 1) (.t 8)),
oN (.store 1 (.t 4) (.t 100))] [1,4,8,11,12,52,53,54])
.skip))))))))))
(.reg [oP 101 (.bin .add (.t 54) (cI 1)),
mV 54 101] [1,4,8,11,12,52,53,54])))))))
(.seq (.reg [oP 102 (.loadd (some 1) (.t 4)),
oN (.store 1 (.t 4) (.t 102)),
oP 5 (.mv (cI 0)),
oP 6 (.mv (cI 0)),
oP 7 (.mv (cI 0))] [4,5,6,7])
.ret)))))))))
abbrev PN : RsT := [(4,some (some 1)),(5,none),(6,none),(7,none)]
theorem RB : SpF 103 Ii Pg PN := SpI Tryz.func88 (by kernel_rfl)
theorem Rb : ak Tryz.prog Ii = true := by kernel_rfl
abbrev IY : FuncId := 89
def MH : AC :=
(.seq (.reg [oP 3 (.pbox 1 (.t 0)),
oP 4 (.pbox 1 (.t 1)),
oP 6 (.mv (.c (.bool false)))] [2,3,4])
(.seq (.reg [mV 7 2,
oP 8 (.mkfunc (.func 136) [] [(.t 3),(.t 4)]),
oP 9 (.call (.f 100) [true,false] [(.t 7),(.t 8)]),
mV 6 9] [6])
.ret))
abbrev P6 : RsT := [(6,none)]
theorem Si : SpF 10 IY MH P6 := SpI Tryz.func89 (by kernel_rfl)
theorem nS : ak Tryz.prog IY = true := by kernel_rfl
end Go.AM
