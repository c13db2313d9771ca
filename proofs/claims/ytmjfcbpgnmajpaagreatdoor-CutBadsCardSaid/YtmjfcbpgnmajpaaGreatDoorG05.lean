/- MADE BY PROGRAM (gen.py): the abstract code of functions of this seat, each checked against the given code by the kernel. -/
import Derived.Test.YtmjfcbpgnmajpaaGreatDoorG05a
import Derived.Test.YtmjfcbpgnmajpaaGreatDoorChecked
import Derived.Test.YtmjfcbpgnmajpaaGreatDoorP13
namespace Go.AM
open Go.Proofs
abbrev F_cut_ship_can_1 : FuncId := 118
def C_cut_ship_can_1 : AC :=
 (.seq (.reg [oP 3 (.pbox 1 (.t 0))] [1,2,3])
 (.seq (.reg [oP 5 (.load none (.t 1)),
oP 6 (.call (.f 119) [false] [(.t 5)])] [1,2,3,6])
 (.block 0
 (.rangeF (.t 6) [7] (.reg [mV 4 7] [1,2,3,4])
 (.block 1
 (.seq (.qreg [oP 8 (.load none (.t 2)),
oP 9 (.load none (.t 1)),
mV 10 4,
oP 11 (.call (.f 73) [false, false, false] [(.t 8), (.t 9), (.t 10)]),
oP 12 (.bin .eql (.t 11) (cI 0)),
mV 13 12,
gT 14 13 (.load none (.t 3)),
gT 15 13 (.mv (.t 4)),
gT 16 13 (.load none (.t 1)),
gT 17 13 (.mv (.t 4)),
gT 18 13 (.bin .shl (cI 1) (.t 17)),
gT 19 13 (.bin .andNot (.t 16) (.t 18)),
gT 20 13 (.call (.t 14) [false, false] [(.t 15), (.t 19)]),
gT 21 13 (.un .not (.t 20)),
oP 22 (.pick (.t 13) (.t 21) (.c (.bool false)))] [22] [[], [], [], [0,1,2], [0,1,2,3], [0,1,2,3,4], [0,1,2,3,4,5], [0,1,2,3,4,5], [0,1,2,3,4,5], [0,1,2,3,4,5], [0,1,2,3,4,5,9], [0,1,2,3,4,5,8,9,10], [0,1,2,3,4,5,6,7,8,9,10,11], [0,1,2,3,4,5,6,7,8,9,10,11,12], [0,1,2,3,4,5,6,7,8,9,10,11,12,13]] [([0,1,2], 3), ([4,5,6,7,8,9,10,11], 12)] [13,14])
 (.cond (.t 22)
 .ret
 .skip)))))))
abbrev R_cut_ship_can_1 : List (Nat × Option (Option Nat)) := []
theorem K_cut_ship_can_1 : chkF Tryz.prog Tryz.f118 23 C_cut_ship_can_1 R_cut_ship_can_1 = true := by kernel_rfl
theorem spec_cut_ship_can_1 : SpF 23 F_cut_ship_can_1 C_cut_ship_can_1 R_cut_ship_can_1 := fun ha h => Spec.of_fn Tryz.func118 K_cut_ship_can_1 ha h
theorem B_cut_ship_can_1 : hasBody Tryz.prog F_cut_ship_can_1 = true := by kernel_rfl
abbrev F_cut_set_parts : FuncId := 119
def C_cut_set_parts : AC :=
 (.seq (.reg [oP 1 (.pbox 1 (.t 0)),
oP 2 (.mv (.c .nilfunc))] [1])
 (.seq (.reg [oP 3 (.mkfunc (.func 160) [] [(.t 1)]),
mV 2 3] [2])
 .ret))
abbrev R_cut_set_parts : List (Nat × Option (Option Nat)) := [(2, none)]
theorem K_cut_set_parts : chkF Tryz.prog Tryz.f119 4 C_cut_set_parts R_cut_set_parts = true := by kernel_rfl
theorem spec_cut_set_parts : SpF 4 F_cut_set_parts C_cut_set_parts R_cut_set_parts := fun ha h => Spec.of_fn Tryz.func119 K_cut_set_parts ha h
theorem B_cut_set_parts : hasBody Tryz.prog F_cut_set_parts = true := by kernel_rfl
abbrev F_cut_ship_most_1 : FuncId := 120
def C_cut_ship_most_1 : AC :=
 (.seq (.reg [oP 4 (.pbox 1 (.t 0)),
oP 5 (.mv (cI 0))] [1,2,3,4])
 (.scope
 (.seq (.reg [oP 11 (.load none (.t 1)),
oP 12 (.load none (.t 4)),
oP 13 (.mget true .i (.int .i64 0) (.t 11) (.t 12)),
mV 10 13,
oP 14 (.extract (.t 10) 0),
oP 15 (.extract (.t 10) 1),
oP 6 (.alloc [.int .i64 0]),
oN (.store 1 (.t 6) (.t 14)),
mV 7 15] [1,2,3,4,6,7])
 (.seq (.seq (.reg [mV 16 7] [1,2,3,4,6,16])
 (.cond (.t 16)
 (.seq (.reg [oP 17 (.load none (.t 6)),
mV 5 17] [5])
 .ret)
 .skip))
 (.seq (.label 0)
 (.seq (.seq (.reg [oP 18 (.load none (.t 2)),
oP 19 (.load none (.t 4)),
oP 20 (.call (.f 61) [false, false] [(.t 18), (.t 19)])] [1,3,4,6,20])
 (.block 0
 (.rangeF (.t 20) [21,22] (.reg [mV 9 22] [1,3,4,6,9])
 (.block 1
 (.seq (.qreg [oP 23 (.load none (.t 6)),
oP 24 (.load none (.t 3)),
mV 25 9,
oP 26 (.call (.t 24) [false] [(.t 25)]),
oP 27 (.bin .add (cI 1) (.t 26)),
oP 28 (.mx [(.t 23), (.t 27)]),
oN (.store 1 (.t 6) (.t 28))] [1,4,6] [[], [], [], [1,2], [1,2,3], [0,1,2,3,4], [0,1,2,3,4,5]] [([0,1,2], 3), ([4,5], 6)] [])
 (.seq (.dreg [oP 29 (.load none (.t 6)),
oP 30 (.load none (.t 4)),
oP 31 (.conv .u64 (.t 30)),
oP 32 (.call (.f 121) [false] [(.t 31)]),
oP 33 (.bin .eql (.t 29) (.t 32))] [1,4,6,33] [[], [], [1], [1,2], [0,1,2,3]])
 (.cond (.t 33)
 (.exit 0)
 .skip)))))))
 (.seq (.reg [oP 34 (.load none (.t 1)),
oP 35 (.load none (.t 4)),
oP 36 (.load none (.t 6)),
oN (.mset .i (.t 34) (.t 35) (.t 36))] [6])
 (.seq (.reg [oP 37 (.load none (.t 6)),
mV 5 37] [5])
 .ret))))))))
abbrev R_cut_ship_most_1 : List (Nat × Option (Option Nat)) := [(5, none)]
theorem K_cut_ship_most_1 : chkF Tryz.prog Tryz.f120 38 C_cut_ship_most_1 R_cut_ship_most_1 = true := by kernel_rfl
theorem spec_cut_ship_most_1 : SpF 38 F_cut_ship_most_1 C_cut_ship_most_1 R_cut_ship_most_1 := fun ha h => Spec.of_fn Tryz.func120 K_cut_ship_most_1 ha h
theorem B_cut_ship_most_1 : hasBody Tryz.prog F_cut_ship_most_1 = true := by kernel_rfl
abbrev F_math_bits_OnesCount : FuncId := 121
def C_math_bits_OnesCount : AC :=
 (.seq (.reg [oP 2 (.mv (cI 0))] [0])
 (.seq (.cond (.c (.bool false))
 (.seq (.reg [mV 3 0,
oP 4 (.conv .u32 (.t 3)),
oP 5 (.call (.f 162) [false] [(.t 4)]),
mV 2 5] [2])
 .ret)
 .skip)
 (.seq (.reg [mV 6 0,
oP 7 (.call (.f 163) [false] [(.t 6)]),
mV 2 7] [2])
 .ret)))
abbrev R_math_bits_OnesCount : List (Nat × Option (Option Nat)) := [(2, none)]
theorem K_math_bits_OnesCount : chkF Tryz.prog Tryz.f121 8 C_math_bits_OnesCount R_math_bits_OnesCount = true := by kernel_rfl
theorem spec_math_bits_OnesCount : SpF 8 F_math_bits_OnesCount C_math_bits_OnesCount R_math_bits_OnesCount := fun ha h => Spec.of_fn Tryz.func121 K_math_bits_OnesCount ha h
theorem B_math_bits_OnesCount : hasBody Tryz.prog F_math_bits_OnesCount = true := by kernel_rfl
abbrev F_slices_Contains_string_string : FuncId := 122
def C_slices_Contains_string_string : AC :=
 (.seq (.reg [oP 4 (.mv (.c (.bool false)))] [0,1])
 (.seq (.reg [mV 5 0,
mV 6 1,
oP 7 (.call (.f 164) [true, false] [(.t 5), (.t 6)]),
oP 8 (.bin .geq (.t 7) (cI 0)),
mV 4 8] [4])
 .ret))
abbrev R_slices_Contains_string_string : List (Nat × Option (Option Nat)) := [(4, none)]
theorem K_slices_Contains_string_string : chkF Tryz.prog Tryz.f122 9 C_slices_Contains_string_string R_slices_Contains_string_string = true := by kernel_rfl
theorem spec_slices_Contains_string_string : SpF 9 F_slices_Contains_string_string C_slices_Contains_string_string R_slices_Contains_string_string := fun ha h => Spec.of_fn Tryz.func122 K_slices_Contains_string_string ha h
theorem B_slices_Contains_string_string : hasBody Tryz.prog F_slices_Contains_string_string = true := by kernel_rfl
abbrev F_cut_open_1 : FuncId := 123
def C_cut_open_1 : AC :=
 (.seq (.reg [oP 3 (.mv (.c (.bool false)))] [0,1])
 (.seq (.reg [oP 4 (.fieldAddr none 0 (.t 1)),
oP 5 (.load none (.t 4)),
mV 6 0,
oP 7 (.call (.f 78) [true, false] [(.t 5), (.t 6)]),
oP 8 (.un .not (.t 7)),
mV 3 8] [3])
 .ret))
abbrev R_cut_open_1 : List (Nat × Option (Option Nat)) := [(3, none)]
theorem K_cut_open_1 : chkF Tryz.prog Tryz.f123 9 C_cut_open_1 R_cut_open_1 = true := by kernel_rfl
theorem spec_cut_open_1 : SpF 9 F_cut_open_1 C_cut_open_1 R_cut_open_1 := fun ha h => Spec.of_fn Tryz.func123 K_cut_open_1 ha h
theorem B_cut_open_1 : hasBody Tryz.prog F_cut_open_1 = true := by kernel_rfl
abbrev F_cut_ship_reached_1 : FuncId := 124
def C_cut_ship_reached_1 : AC :=
 (.seq (.reg [oP 8 (.mnew),
oP 9 (.load none (.t 1)),
oP 10 (.call (.f 77) [false] [(.t 9)]),
oN (.mset .i (.t 8) (.t 10) (cI 1)),
mV 11 8,
oP 3 (.alloc [.nilmap]),
oN (.store 1 (.t 3) (.t 11))] [0,1,3])
 (.frz 3 false (.seq (.reg [oP 12 (.load none (.t 1)),
oP 13 (.call (.f 77) [false] [(.t 12)]),
oP 14 (.build [.int .i64 0, .slice 1 []] [(0,1, (.t 13)), (1,1, (.c (.slice 1 [])))]),
oP 15 (.lit 1 2 1 [(0, (.t 14))]),
oP 4 (.alloc [.slice 2 []]),
oN (.store 1 (.t 4) (.t 15))] [0,1,3,4])
 (.block 0
 (.loop [0,1,3,4]
 (.seq (.seq (.reg [oP 16 (.load none (.t 4)),
oP 17 (.len (.t 16)),
oP 18 (.bin .gtr (.t 17) (cI 0))] [0,1,3,4,18])
 (.cond (.t 18)
 .skip
 (.exit 0)))
 (.seq (.block 1
 (.seq (.reg [oP 21 (.load none (.t 4)),
oP 22 (.ixS 2 (.t 21) (cI 0)),
oP 23 (.load (some 2) (.t 22)),
oP 5 (.alloc [.int .i64 0, .slice 1 []]),
oN (.store 2 (.t 5) (.t 23))] [0,1,3,4,5])
 (.frz 5 true (.seq (.seq (.reg [mV 24 0,
oP 25 (.load (some 2) (.t 5)),
oP 26 (.call (.t 24) [true] [(.t 25)]),
oP 27 (.un .not (.t 26))] [0,1,3,4,5,27])
 (.cond (.t 27)
 .ret
 .skip))
 (.seq (.reg [oP 28 (.load none (.t 1)),
oP 29 (.fieldAddr none 0 (.t 5)),
oP 30 (.load none (.t 29)),
oP 31 (.call (.f 61) [false, false] [(.t 28), (.t 30)])] [0,1,3,4,5,31])
 (.block 2
 (.rangeF (.t 31) [32,33] (.seq (.reg [mV 6 32] [3,4,5,6,33])
 (.reg [mV 7 33] [3,4,5,6,7]))
 (.block 3
 (.seq (.reg [oP 34 (.load none (.t 3)),
mV 35 7,
oP 36 (.mget false .i (.int .i64 0) (.t 34) (.t 35)),
oP 37 (.bin .add (.t 36) (cI 1)),
oN (.mset .i (.t 34) (.t 35) (.t 37))] [3,4,5,6,7])
 (.seq (.reg [oP 38 (.load none (.t 3)),
mV 39 7,
oP 40 (.mget false .i (.int .i64 0) (.t 38) (.t 39)),
oP 41 (.bin .eql (.t 40) (cI 1))] [4,5,6,7,41])
 (.cond (.t 41)
 (.dreg [oP 42 (.load none (.t 4)),
mV 43 7,
oP 44 (.fieldAddr none 1 (.t 5)),
oP 45 (.load none (.t 44)),
oP 46 (.callA 1 (.f 74) [true] [(.t 45)]),
mV 47 6,
oP 48 (.lit 0 1 1 [(0, (.t 47))]),
oP 49 (.append 1 8 (.t 46) (.t 48)),
oP 50 (.build [.int .i64 0, .slice 1 []] [(0,1, (.t 43)), (1,1, (.t 49))]),
oP 51 (.lit 0 2 1 [(0, (.t 50))]),
oP 52 (.append 2 32 (.t 42) (.t 51)),
oN (.store 1 (.t 4) (.t 52))] [] [[], [], [], [2], [2,3], [], [5], [2,3,4,5,6], [1,2,3,4,5,6,7], [1,2,3,4,5,6,7,8], [0,1,2,3,4,5,6,7,8,9], [0,1,2,3,4,5,6,7,8,9,10]])
 .skip)))))))))))
 (.seq (.seq (.reg [oP 53 (.load none (.t 4))] [0,1,3,53])
 (.reg [oP 4 (.alloc [.slice 2 []]),
oN (.store 1 (.t 4) (.t 53))] [0,1,3,4]))
 (.reg [oP 19 (.load none (.t 4)),
oP 20 (.subO 2 (.t 19) (cI 1)),
oN (.store 1 (.t 4) (.t 20))] [0,1,3,4])))))))))
abbrev R_cut_ship_reached_1 : List (Nat × Option (Option Nat)) := []
theorem K_cut_ship_reached_1 : chkF Tryz.prog Tryz.f124 54 C_cut_ship_reached_1 R_cut_ship_reached_1 = true := by kernel_rfl
theorem spec_cut_ship_reached_1 : SpF 54 F_cut_ship_reached_1 C_cut_ship_reached_1 R_cut_ship_reached_1 := fun ha h => Spec.of_fn Tryz.func124 K_cut_ship_reached_1 ha h
theorem B_cut_ship_reached_1 : hasBody Tryz.prog F_cut_ship_reached_1 = true := by kernel_rfl
abbrev F_cut_ship_gone : FuncId := 125
def C_cut_ship_gone : AC :=
 (.seq (.reg [oP 6 (.mv (.c (.bool false)))] [1,2])
 (.seq (.reg [mV 7 1,
mV 8 2,
oP 9 (.call (.f 165) [false, false] [(.t 7), (.t 8)]),
oP 10 (.un .not (.t 9)),
mV 6 10] [6])
 .ret))
abbrev R_cut_ship_gone : List (Nat × Option (Option Nat)) := [(6, none)]
theorem K_cut_ship_gone : chkF Tryz.prog Tryz.f125 11 C_cut_ship_gone R_cut_ship_gone = true := by kernel_rfl
theorem spec_cut_ship_gone : SpF 11 F_cut_ship_gone C_cut_ship_gone R_cut_ship_gone := fun ha h => Spec.of_fn Tryz.func125 K_cut_ship_gone ha h
theorem B_cut_ship_gone : hasBody Tryz.prog F_cut_ship_gone = true := by kernel_rfl
abbrev F_cut_ship_covered : FuncId := 126
def C_cut_ship_covered : AC :=
 (.seq (.reg [oP 6 (.mv (.c (.bool false)))] [0,1,2])
 (.seq (.reg [mV 7 1,
mV 8 0,
oP 9 (.nilchk (.t 8)),
oP 10 (.fieldAddr none 11 (.t 9)),
oP 11 (.load none (.t 10)),
mV 12 2,
oP 13 (.ixS 1 (.t 11) (.t 12)),
oP 14 (.load none (.t 13)),
oP 15 (.bin .and (.t 7) (.t 14)),
oP 16 (.bin .neq (.t 15) (cI 0)),
mV 6 16] [6])
 .ret))
abbrev R_cut_ship_covered : List (Nat × Option (Option Nat)) := [(6, none)]
theorem K_cut_ship_covered : chkF Tryz.prog Tryz.f126 17 C_cut_ship_covered R_cut_ship_covered = true := by kernel_rfl
theorem spec_cut_ship_covered : SpF 17 F_cut_ship_covered C_cut_ship_covered R_cut_ship_covered := fun ha h => Spec.of_fn Tryz.func126 K_cut_ship_covered ha h
theorem B_cut_ship_covered : hasBody Tryz.prog F_cut_ship_covered = true := by kernel_rfl
abbrev F_cut_ship_gassed : FuncId := 127
def C_cut_ship_gassed : AC :=
 (.seq (.reg [oP 6 (.mv (.c (.bool false)))] [0,2])
 (.seq (.reg [mV 7 0,
oP 8 (.nilchk (.t 7)),
oP 9 (.fieldAddr none 12 (.t 8)),
oP 10 (.load none (.t 9)),
mV 11 2,
oP 12 (.call (.f 165) [false, false] [(.t 10), (.t 11)]),
mV 6 12] [6])
 .ret))
abbrev R_cut_ship_gassed : List (Nat × Option (Option Nat)) := [(6, none)]
theorem K_cut_ship_gassed : chkF Tryz.prog Tryz.f127 13 C_cut_ship_gassed R_cut_ship_gassed = true := by kernel_rfl
theorem spec_cut_ship_gassed : SpF 13 F_cut_ship_gassed C_cut_ship_gassed R_cut_ship_gassed := fun ha h => Spec.of_fn Tryz.func127 K_cut_ship_gassed ha h
theorem B_cut_ship_gassed : hasBody Tryz.prog F_cut_ship_gassed = true := by kernel_rfl
abbrev F_cut_ship_falls : FuncId := 128
def C_cut_ship_falls : AC :=
 (.seq (.reg [oP 3 (.pbox 1 (.t 0)),
oP 6 (.mv (.c (.bool false)))] [1,2,3])
 (.seq (.reg [mV 12 1,
mV 13 2,
oP 14 (.bin .shl (cI 1) (.t 13)),
oP 15 (.bin .andNot (.t 12) (.t 14)),
mV 7 15] [3,7])
 (.seq (.seq (.reg [mV 16 7,
oP 17 (.bin .eql (.t 16) (cI 0))] [3,7,17])
 (.cond (.t 17)
 (.seq (.reg [oP 6 (.mv (.c (.bool false)))] [6])
 .ret)
 .skip))
 (.seq (.reg [oP 19 (.load none (.t 3)),
oP 20 (.nilchk (.t 19)),
oP 21 (.fieldAddr none 13 (.t 20)),
oP 22 (.load none (.t 21)),
mV 23 7,
oP 24 (.mget true .i (.int .i64 0) (.t 22) (.t 23)),
mV 18 24,
oP 25 (.extract (.t 18) 0),
oP 26 (.extract (.t 18) 1),
mV 8 25,
mV 9 26] [3,7,8,9])
 (.seq (.seq (.reg [mV 27 9,
oP 28 (.un .not (.t 27))] [3,7,8,28])
 (.cond (.t 28)
 (.seq (.reg [oP 29 (.load none (.t 3)),
oP 30 (.nilchk (.t 29)),
oP 31 (.fieldAddr (some 11) 0 (.t 30)),
oP 32 (.fieldAddr (some 3) 1 (.t 31)),
oP 33 (.load (some 3) (.t 32)),
oP 10 (.alloc [.slice 7 [], .int .i64 0, .int .i64 0]),
oN (.store 3 (.t 10) (.t 33))] [3,7,10])
 (.seq (.reg [oP 34 (.fieldAddr none 0 (.t 10)),
oN (.storem 7 (.t 34))] [3,7,10])
 (.seq (.seq (.reg [mV 35 7,
oP 36 (.call (.f 119) [false] [(.t 35)])] [3,7,10,36])
 (.block 0
 (.rangeF (.t 36) [37] (.reg [mV 11 37] [3,10,11])
 (.block 1
 (.dreg [oP 38 (.fieldAddr none 0 (.t 10)),
oP 39 (.load none (.t 38)),
oP 40 (.load none (.t 3)),
oP 41 (.nilchk (.t 40)),
oP 42 (.fieldAddr (some 11) 0 (.t 41)),
oP 43 (.fieldAddr (some 3) 1 (.t 42)),
oP 44 (.fieldAddr none 0 (.t 43)),
oP 45 (.load none (.t 44)),
mV 46 11,
oP 47 (.ixS 7 (.t 45) (.t 46)),
oP 48 (.load (some 7) (.t 47)),
oP 49 (.lit 0 7 1 [(0, (.t 48))]),
oP 50 (.append 7 64 (.t 39) (.t 49)),
oP 51 (.fieldAddr none 0 (.t 10)),
oN (.store 1 (.t 51) (.t 50))] [] [[], [0], [], [2], [2,3], [2,3,4], [2,3,4,5], [2,3,4,5,6], [], [2,3,4,5,6,7,8], [2,3,4,5,6,7,8,9], [2,3,4,5,6,7,8,9,10], [0,1,2,3,4,5,6,7,8,9,10,11], [0,1,2,3,4,5,6,7,8,9,10,11,12], [0,1,2,3,4,5,6,7,8,9,10,11,12,13]])))))
 (.seq (.dreg [oP 53 (.load (some 3) (.t 10)),
oP 54 (.load none (.t 3)),
oP 55 (.nilchk (.t 54)),
oP 56 (.fieldAddr (some 11) 0 (.t 55)),
oP 57 (.fieldAddr (some 2) 4 (.t 56)),
oP 58 (.load (some 2) (.t 57)),
oP 59 (.call (.f 47) [true, false] [(.t 53), (.t 58)]),
mV 52 59,
oP 60 (.extract (.t 52) 0),
oP 61 (.extract (.t 52) 1),
oP 62 (.extract (.t 52) 2),
mV 8 60] [3,7,8] [[], [], [1], [1,2], [1,2,3], [1,2,3,4], [0,1,2,3,4,5], [0,1,2,3,4,5,6], [0,1,2,3,4,5,6,7], [0,1,2,3,4,5,6,7], [0,1,2,3,4,5,6,7], [0,1,2,3,4,5,6,7,8]])
 (.reg [oP 63 (.load none (.t 3)),
oP 64 (.nilchk (.t 63)),
oP 65 (.fieldAddr none 13 (.t 64)),
oP 66 (.load none (.t 65)),
mV 67 7,
mV 68 8,
oN (.mset .i (.t 66) (.t 67) (.t 68))] [8])))))
 .skip))
 (.seq (.reg [mV 69 8,
oP 70 (.bin .neq (.t 69) (cI 0)),
mV 6 70] [6])
 .ret))))))
abbrev R_cut_ship_falls : List (Nat × Option (Option Nat)) := [(6, none)]
theorem K_cut_ship_falls : chkF Tryz.prog Tryz.f128 71 C_cut_ship_falls R_cut_ship_falls = true := by kernel_rfl
theorem spec_cut_ship_falls : SpF 71 F_cut_ship_falls C_cut_ship_falls R_cut_ship_falls := fun ha h => Spec.of_fn Tryz.func128 K_cut_ship_falls ha h
theorem B_cut_ship_falls : hasBody Tryz.prog F_cut_ship_falls = true := by kernel_rfl
abbrev F_slices_pdqsortOrdered_int : FuncId := 129
def C_slices_pdqsortOrdered_int : AC :=
 (.seq (.reg [oP 8 (.mv (.c (.bool true)))] [0,1,2,3,8])
 (.seq (.reg [oP 9 (.mv (.c (.bool true)))] [0,1,2,3,8,9])
 (.block 0
 (.loop [0,1,2,3,8,9]
 (.block 1
 (.seq (.reg [mV 19 2,
mV 20 1,
oP 21 (.bin .sub (.t 19) (.t 20)),
mV 10 21] [0,1,2,3,8,9,10])
 (.seq (.seq (.reg [mV 22 10,
oP 23 (.bin .leq (.t 22) (cI 12))] [0,1,2,3,8,9,10,23])
 (.cond (.t 23)
 (.seq (.reg [mV 24 0,
mV 25 1,
mV 26 2,
oP 27 (.call (.f 166) [true, false, false] [(.t 24), (.t 25), (.t 26)])] [])
 .ret)
 .skip))
 (.seq (.seq (.reg [mV 28 3,
oP 29 (.bin .eql (.t 28) (cI 0))] [0,1,2,3,8,9,10,29])
 (.cond (.t 29)
 (.seq (.reg [mV 30 0,
mV 31 1,
mV 32 2,
oP 33 (.call (.f 167) [true, false, false] [(.t 30), (.t 31), (.t 32)])] [])
 .ret)
 .skip))
 (.seq (.seq (.reg [mV 34 8,
oP 35 (.un .not (.t 34))] [0,1,2,3,8,9,10,35])
 (.cond (.t 35)
 (.seq (.reg [mV 36 0,
mV 37 1,
mV 38 2,
oP 39 (.call (.f 168) [true, false, false] [(.t 36), (.t 37), (.t 38)])] [0,1,2,3,8,9,10])
 (.reg [mV 40 3,
oP 41 (.bin .sub (.t 40) (cI 1)),
mV 3 41] [0,1,2,3,8,9,10]))
 .skip))
 (.seq (.reg [mV 43 0,
mV 44 1,
mV 45 2,
oP 46 (.call (.f 169) [true, false, false] [(.t 43), (.t 44), (.t 45)]),
mV 42 46,
oP 47 (.extract (.t 42) 0),
oP 48 (.extract (.t 42) 1),
mV 11 47,
mV 12 48] [0,1,2,3,8,9,10,11,12])
 (.seq (.seq (.reg [mV 49 12,
oP 50 (.bin .eql (.t 49) (cI 2))] [0,1,2,3,8,9,10,11,12,50])
 (.cond (.t 50)
 (.seq (.reg [mV 51 0,
mV 52 1,
mV 53 2,
oP 54 (.call (.f 170) [true, false, false] [(.t 51), (.t 52), (.t 53)])] [0,1,2,3,8,9,10,11])
 (.seq (.reg [mV 55 2,
oP 56 (.bin .sub (.t 55) (cI 1)),
mV 57 11,
mV 58 1,
oP 59 (.bin .sub (.t 57) (.t 58)),
oP 60 (.bin .sub (.t 56) (.t 59)),
mV 11 60] [0,1,2,3,8,9,10,11])
 (.reg [oP 12 (.mv (cI 1))] [0,1,2,3,8,9,10,11,12])))
 .skip))
 (.seq (.seq (.reg [mV 61 8,
mV 62 61,
gT 63 62 (.mv (.t 9)),
oP 64 (.pick (.t 62) (.t 63) (.c (.bool false))),
mV 65 64,
gT 66 65 (.mv (.t 12)),
gT 67 65 (.bin .eql (.t 66) (cI 1)),
oP 68 (.pick (.t 65) (.t 67) (.c (.bool false)))] [0,1,2,3,8,9,10,11,68])
 (.cond (.t 68)
 (.seq (.reg [mV 69 0,
mV 70 1,
mV 71 2,
oP 72 (.call (.f 171) [true, false, false] [(.t 69), (.t 70), (.t 71)])] [0,1,2,3,8,9,10,11,72])
 (.cond (.t 72)
 .ret
 .skip))
 .skip))
 (.seq (.seq (.dreg [mV 73 1,
oP 74 (.bin .gtr (.t 73) (cI 0)),
mV 75 74,
gT 76 75 (.mv (.t 0)),
gT 77 75 (.mv (.t 1)),
gT 78 75 (.bin .sub (.t 77) (cI 1)),
gT 79 75 (.ixS 1 (.t 76) (.t 78)),
gT 80 75 (.load none (.t 79)),
gT 81 75 (.mv (.t 0)),
gT 82 75 (.mv (.t 11)),
gT 83 75 (.ixS 1 (.t 81) (.t 82)),
gT 84 75 (.load none (.t 83)),
gT 85 75 (.call (.f 172) [false, false] [(.t 80), (.t 84)]),
gT 86 75 (.un .not (.t 85)),
oP 87 (.pick (.t 75) (.t 86) (.c (.bool false)))] [0,1,2,3,8,9,10,11,87] [[], [0], [0,1], [0,1,2], [0,1,2], [0,1,2,4], [0,1,2,3,4,5], [0,1,2,3,4,5,6], [0,1,2], [0,1,2], [0,1,2,8,9], [0,1,2,8,9,10], [0,1,2,3,4,5,6,7,8,9,10,11], [0,1,2,3,4,5,6,7,8,9,10,11,12], [0,1,2,3,4,5,6,7,8,9,10,11,12,13]])
 (.cond (.t 87)
 (.seq (.reg [mV 88 0,
mV 89 1,
mV 90 2,
mV 91 11,
oP 92 (.call (.f 173) [true, false, false, false] [(.t 88), (.t 89), (.t 90), (.t 91)]),
mV 13 92] [0,2,3,8,9,13])
 (.seq (.reg [mV 93 13,
mV 1 93] [0,1,2,3,8,9])
 (.exit 1)))
 .skip))
 (.seq (.reg [mV 95 0,
mV 96 1,
mV 97 2,
mV 98 11,
oP 99 (.call (.f 174) [true, false, false, false] [(.t 95), (.t 96), (.t 97), (.t 98)]),
mV 94 99,
oP 100 (.extract (.t 94) 0),
oP 101 (.extract (.t 94) 1),
mV 14 100,
mV 15 101] [0,1,2,3,10,14,15])
 (.seq (.reg [mV 102 15,
mV 9 102] [0,1,2,3,9,10,14])
 (.seq (.reg [mV 103 14,
mV 104 1,
oP 105 (.bin .sub (.t 103) (.t 104)),
mV 106 2,
mV 107 14,
oP 108 (.bin .sub (.t 106) (.t 107)),
mV 16 105,
mV 17 108] [0,1,2,3,9,10,14,16,17])
 (.seq (.reg [mV 109 10,
oP 110 (.bin .quo (.t 109) (cI 8)),
mV 18 110] [0,1,2,3,9,14,16,17,18])
 (.seq (.reg [mV 111 16,
mV 112 17,
oP 113 (.bin .lss (.t 111) (.t 112))] [0,1,2,3,9,14,16,17,18,113])
 (.cond (.t 113)
 (.seq (.reg [mV 114 16,
mV 115 18,
oP 116 (.bin .geq (.t 114) (.t 115)),
mV 8 116] [0,1,2,3,8,9,14])
 (.seq (.reg [mV 117 0,
mV 118 1,
mV 119 14,
mV 120 3,
oP 121 (.call (.f 129) [true, false, false, false] [(.t 117), (.t 118), (.t 119), (.t 120)])] [0,2,3,8,9,14])
 (.reg [mV 122 14,
oP 123 (.bin .add (.t 122) (cI 1)),
mV 1 123] [0,1,2,3,8,9])))
 (.seq (.reg [mV 124 17,
mV 125 18,
oP 126 (.bin .geq (.t 124) (.t 125)),
mV 8 126] [0,1,2,3,8,9,14])
 (.seq (.reg [mV 127 0,
mV 128 14,
oP 129 (.bin .add (.t 128) (cI 1)),
mV 130 2,
mV 131 3,
oP 132 (.call (.f 129) [true, false, false, false] [(.t 127), (.t 129), (.t 130), (.t 131)])] [0,1,3,8,9,14])
 (.reg [mV 133 14,
mV 2 133] [0,1,2,3,8,9]))))))))))))))))))))))
abbrev R_slices_pdqsortOrdered_int : List (Nat × Option (Option Nat)) := []
theorem K_slices_pdqsortOrdered_int : chkF Tryz.prog Tryz.f129 134 C_slices_pdqsortOrdered_int R_slices_pdqsortOrdered_int = true := by kernel_rfl
theorem spec_slices_pdqsortOrdered_int : SpF 134 F_slices_pdqsortOrdered_int C_slices_pdqsortOrdered_int R_slices_pdqsortOrdered_int := fun ha h => Spec.of_fn Tryz.func129 K_slices_pdqsortOrdered_int ha h
theorem B_slices_pdqsortOrdered_int : hasBody Tryz.prog F_slices_pdqsortOrdered_int = true := by kernel_rfl
abbrev F_math_bits_Len : FuncId := 130
def C_math_bits_Len : AC :=
 (.seq (.reg [oP 2 (.mv (cI 0))] [0])
 (.seq (.cond (.c (.bool false))
 (.seq (.reg [mV 3 0,
oP 4 (.conv .u32 (.t 3)),
oP 5 (.call (.f 175) [false] [(.t 4)]),
mV 2 5] [2])
 .ret)
 .skip)
 (.seq (.reg [mV 6 0,
oP 7 (.call (.f 176) [false] [(.t 6)]),
mV 2 7] [2])
 .ret)))
abbrev R_math_bits_Len : List (Nat × Option (Option Nat)) := [(2, none)]
theorem K_math_bits_Len : chkF Tryz.prog Tryz.f130 8 C_math_bits_Len R_math_bits_Len = true := by kernel_rfl
theorem spec_math_bits_Len : SpF 8 F_math_bits_Len C_math_bits_Len R_math_bits_Len := fun ha h => Spec.of_fn Tryz.func130 K_math_bits_Len ha h
theorem B_math_bits_Len : hasBody Tryz.prog F_math_bits_Len = true := by kernel_rfl
abbrev F_slices_Index_int_int : FuncId := 131
def C_slices_Index_int_int : AC :=
 (.seq (.reg [oP 4 (.mv (cI 0))] [0,1])
 (.seq (.seq (.reg [mV 6 0,
oP 7 (.len (.t 6)),
oP 8 (.mv (cI 0))] [0,1,7,8])
 (.block 0
 (.loop [0,1,7,8]
 (.seq (.reg [oP 9 (.bin .lss (.t 8) (.t 7))] [0,1,7,8,9])
 (.seq (.cond (.t 9)
 .skip
 (.exit 0))
 (.seq (.block 1
 (.seq (.reg [mV 10 8,
mV 5 10] [0,1,5,7,8])
 (.seq (.reg [mV 11 1,
mV 12 0,
mV 13 5,
oP 14 (.ixS 1 (.t 12) (.t 13)),
oP 15 (.load none (.t 14)),
oP 16 (.bin .eql (.t 11) (.t 15))] [0,1,5,7,8,16])
 (.cond (.t 16)
 (.seq (.reg [mV 17 5,
mV 4 17] [4])
 .ret)
 .skip))))
 (.reg [oP 18 (.bin .add (.t 8) (cI 1)),
mV 8 18] [0,1,7,8])))))))
 (.seq (.reg [oP 4 (.mv (cI (-1)))] [4])
 .ret)))
abbrev R_slices_Index_int_int : List (Nat × Option (Option Nat)) := [(4, none)]
theorem K_slices_Index_int_int : chkF Tryz.prog Tryz.f131 19 C_slices_Index_int_int R_slices_Index_int_int = true := by kernel_rfl
theorem spec_slices_Index_int_int : SpF 19 F_slices_Index_int_int C_slices_Index_int_int R_slices_Index_int_int := fun ha h => Spec.of_fn Tryz.func131 K_slices_Index_int_int ha h
theorem B_slices_Index_int_int : hasBody Tryz.prog F_slices_Index_int_int = true := by kernel_rfl
abbrev F_l05_span : FuncId := 132
def C_l05_span : AC :=
 (.seq (.reg [oP 4 (.alloc [.int .i64 0, .int .i64 0])] [0,1,4])
 (.seq (.reg [mV 5 0,
mV 6 1,
oP 7 (.build [.int .i64 0, .int .i64 0] [(0,1, (.t 5)), (1,1, (.t 6))]),
oN (.store 2 (.t 4) (.t 7))] [4])
 .ret))
abbrev R_l05_span : List (Nat × Option (Option Nat)) := [(4, some (some 2))]
theorem K_l05_span : chkF Tryz.prog Tryz.f132 8 C_l05_span R_l05_span = true := by kernel_rfl
theorem spec_l05_span : SpF 8 F_l05_span C_l05_span R_l05_span := fun ha h => Spec.of_fn Tryz.func132 K_l05_span ha h
theorem B_l05_span : hasBody Tryz.prog F_l05_span = true := by kernel_rfl
abbrev F_hull_ship_check : FuncId := 133
def C_hull_ship_check : AC :=
 (.seq (.reg [oP 5 (.pbox 7 (.t 1)),
oP 8 (.mv (cI 0))] [0,2,3,5])
 (.seq (.block 0
 (.seq (.reg [oP 11 (.fieldAddr none 0 (.t 5)),
oP 12 (.load none (.t 11)),
oP 13 (.call (.f 90) [false] [(.t 12)]),
oP 14 (.un .not (.t 13)),
mV 10 14] [0,2,3,5,10])
 (.cond (.t 10)
 (.seq (.reg [oP 8 (.mv (cI 6))] [8])
 .ret)
 (.seq (.reg [mV 16 0,
oP 17 (.fieldAddr none 0 (.t 5)),
oP 18 (.load none (.t 17)),
oP 19 (.call (.f 177) [false, false] [(.t 16), (.t 18)]),
oP 20 (.bin .geq (.t 19) (cI 0)),
mV 21 20,
gT 22 21 (.mv (.t 0)),
gT 23 21 (.fieldAddr none 0 (.t 5)),
gT 24 21 (.load none (.t 23)),
gT 25 21 (.call (.f 177) [false, false] [(.t 22), (.t 24)]),
gT 26 21 (.mv (.t 2)),
gT 27 21 (.bin .lss (.t 25) (.t 26)),
oP 28 (.pick (.t 21) (.t 27) (.c (.bool false))),
mV 29 28,
gF 30 29 (.mv (.t 3)),
gF 31 29 (.mkfunc (.func 179) [] [(.t 5)]),
gF 32 29 (.call (.f 178) [true, false] [(.t 30), (.t 31)]),
oP 33 (.pick (.t 29) (.c (.bool true)) (.t 32)),
mV 15 33] [0,2,5,15])
 (.cond (.t 15)
 (.seq (.reg [oP 8 (.mv (cI 5))] [8])
 .ret)
 (.seq (.reg [oP 35 (.fieldAddr none 1 (.t 5)),
oP 36 (.load none (.t 35)),
oP 37 (.lit 0 1 1 [(0, (.t 36))]),
oP 38 (.call (.f 135) [false, false, true] [(cI 1), (cI 5), (.t 37)]),
mV 39 38,
gF 40 39 (.fieldAddr none 2 (.t 5)),
gF 41 39 (.load none (.t 40)),
gF 42 39 (.fieldAddr none 3 (.t 5)),
gF 43 39 (.load none (.t 42)),
gF 44 39 (.lit 0 1 2 [(0, (.t 41)), (1, (.t 43))]),
gF 45 39 (.call (.f 135) [false, false, true] [(cI 0), (cI 40), (.t 44)]),
oP 46 (.pick (.t 39) (.c (.bool true)) (.t 45)),
mV 47 46,
gF 48 47 (.fieldAddr (some 2) 5 (.t 5)),
gF 49 47 (.fieldAddr none 0 (.t 48)),
gF 50 47 (.load none (.t 49)),
gF 51 47 (.fieldAddr (some 2) 5 (.t 5)),
gF 52 47 (.fieldAddr none 1 (.t 51)),
gF 53 47 (.load none (.t 52)),
gF 54 47 (.lit 0 1 2 [(0, (.t 50)), (1, (.t 53))]),
gF 55 47 (.call (.f 135) [false, false, true] [(cI 1), (cI 1000000), (.t 54)]),
oP 56 (.pick (.t 47) (.c (.bool true)) (.t 55)),
mV 34 56] [0,2,5,34])
 (.cond (.t 34)
 (.seq (.reg [oP 8 (.mv (cI 7))] [8])
 .ret)
 (.seq (.reg [oP 58 (.fieldAddr none 2 (.t 5)),
oP 59 (.load none (.t 58)),
oP 60 (.fieldAddr none 3 (.t 5)),
oP 61 (.load none (.t 60)),
oP 62 (.bin .gtr (.t 59) (.t 61)),
mV 63 62,
gF 64 63 (.fieldAddr (some 2) 5 (.t 5)),
gF 65 63 (.fieldAddr none 0 (.t 64)),
gF 66 63 (.load none (.t 65)),
gF 67 63 (.fieldAddr (some 2) 5 (.t 5)),
gF 68 63 (.fieldAddr none 1 (.t 67)),
gF 69 63 (.load none (.t 68)),
gF 70 63 (.bin .gtr (.t 66) (.t 69)),
oP 71 (.pick (.t 63) (.c (.bool true)) (.t 70)),
mV 57 71] [0,2,5,57])
 (.cond (.t 57)
 (.seq (.reg [oP 8 (.mv (cI 2))] [8])
 .ret)
 .skip)))))))))
 (.seq (.reg [mV 72 0,
oP 73 (.nilchk (.t 72)),
oP 74 (.fieldAddr (some 1) 0 (.t 73)),
oP 75 (.fieldAddr none 0 (.t 74)),
oP 76 (.load none (.t 75)),
mV 77 2,
oP 78 (.subq 7 (.t 76) none (some (.t 77))),
oP 79 (.build [.slice 7 []] [(0,1, (.t 78))]),
oP 80 (.build [.slice 7 []] [(0,1, (.t 79))]),
oP 9 (.alloc [.slice 7 []]),
oN (.store 1 (.t 9) (.t 80))] [5,9])
 (.seq (.block 1
 (.seq (.reg [oP 82 (.fieldAddr none 4 (.t 5)),
oP 83 (.load none (.t 82)),
oP 84 (.mkfunc (.func 181) [] [(.t 9)]),
oP 85 (.call (.f 180) [true, false] [(.t 83), (.t 84)]),
mV 81 85] [5,9,81])
 (.cond (.t 81)
 (.seq (.reg [oP 8 (.mv (cI 4))] [8])
 .ret)
 (.seq (.reg [oP 87 (.fieldAddr none 4 (.t 5)),
oP 88 (.load none (.t 87)),
oP 89 (.call (.f 182) [true] [(.t 88)]),
mV 86 89] [5,9,86])
 (.cond (.t 86)
 (.seq (.reg [oP 8 (.mv (cI 5))] [8])
 .ret)
 (.seq (.reg [oP 91 (.fieldAddr none 4 (.t 5)),
oP 92 (.load none (.t 91)),
oP 93 (.mkfunc (.func 183) [] [(.t 5), (.t 9)]),
oP 94 (.call (.f 180) [true, false] [(.t 92), (.t 93)]),
mV 90 94] [90])
 (.cond (.t 90)
 (.seq (.reg [oP 8 (.mv (cI 9))] [8])
 .ret)
 .skip)))))))
 (.seq (.reg [oP 8 (.mv (cI 0))] [8])
 .ret)))))
abbrev R_hull_ship_check : List (Nat × Option (Option Nat)) := [(8, none)]
theorem K_hull_ship_check : chkF Tryz.prog Tryz.f133 95 C_hull_ship_check R_hull_ship_check = true := by kernel_rfl
theorem spec_hull_ship_check : SpF 95 F_hull_ship_check C_hull_ship_check R_hull_ship_check := fun ha h => Spec.of_fn Tryz.func133 K_hull_ship_check ha h
theorem B_hull_ship_check : hasBody Tryz.prog F_hull_ship_check = true := by kernel_rfl
abbrev F_hull_verbs : FuncId := 134
def C_hull_verbs : AC :=
 (.seq (.reg [oP 0 (.mv (.c .nilmap))] [])
 (.seq (.reg [oP 1 (.mnew),
oP 2 (.build [.nilfunc, .nilfunc] [(0,1, (.f 185)), (1,1, (.f 186))]),
oN (.mset .i (.t 1) (cI 1) (.t 2)),
oP 3 (.build [.nilfunc, .nilfunc] [(0,1, (.f 187)), (1,1, (.f 189))]),
oN (.mset .i (.t 1) (cI 2) (.t 3)),
oP 4 (.build [.nilfunc, .nilfunc] [(0,1, (.f 190)), (1,1, (.f 191))]),
oN (.mset .i (.t 1) (cI 3) (.t 4)),
mV 5 1,
mV 0 5] [0])
 .ret))
abbrev R_hull_verbs : List (Nat × Option (Option Nat)) := [(0, none)]
theorem K_hull_verbs : chkF Tryz.prog Tryz.f134 6 C_hull_verbs R_hull_verbs = true := by kernel_rfl
theorem spec_hull_verbs : SpF 6 F_hull_verbs C_hull_verbs R_hull_verbs := fun ha h => Spec.of_fn Tryz.func134 K_hull_verbs ha h
theorem B_hull_verbs : hasBody Tryz.prog F_hull_verbs = true := by kernel_rfl
abbrev F_hull_beyond : FuncId := 135
def C_hull_beyond : AC :=
 (.seq (.reg [oP 3 (.pbox 1 (.t 0)),
oP 4 (.pbox 1 (.t 1)),
oP 6 (.mv (.c (.bool false)))] [2,3,4])
 (.seq (.reg [mV 7 2,
oP 8 (.mkfunc (.func 192) [] [(.t 3), (.t 4)]),
oP 9 (.call (.f 100) [true, false] [(.t 7), (.t 8)]),
mV 6 9] [6])
 .ret))
abbrev R_hull_beyond : List (Nat × Option (Option Nat)) := [(6, none)]
theorem K_hull_beyond : chkF Tryz.prog Tryz.f135 10 C_hull_beyond R_hull_beyond = true := by kernel_rfl
theorem spec_hull_beyond : SpF 10 F_hull_beyond C_hull_beyond R_hull_beyond := fun ha h => Spec.of_fn Tryz.func135 K_hull_beyond ha h
theorem B_hull_beyond : hasBody Tryz.prog F_hull_beyond = true := by kernel_rfl
abbrev F_stand_beyond_1 : FuncId := 136
def C_stand_beyond_1 : AC :=
 (.seq (.reg [oP 4 (.mv (.c (.bool false)))] [0,1,2])
 (.seq (.reg [mV 5 0,
oP 6 (.load none (.t 1)),
oP 7 (.bin .lss (.t 5) (.t 6)),
mV 8 7,
gF 9 8 (.mv (.t 0)),
gF 10 8 (.load none (.t 2)),
gF 11 8 (.bin .gtr (.t 9) (.t 10)),
oP 12 (.pick (.t 8) (.c (.bool true)) (.t 11)),
mV 4 12] [4])
 .ret))
abbrev R_stand_beyond_1 : List (Nat × Option (Option Nat)) := [(4, none)]
theorem K_stand_beyond_1 : chkF Tryz.prog Tryz.f136 13 C_stand_beyond_1 R_stand_beyond_1 = true := by kernel_rfl
theorem spec_stand_beyond_1 : SpF 13 F_stand_beyond_1 C_stand_beyond_1 R_stand_beyond_1 := fun ha h => Spec.of_fn Tryz.func136 K_stand_beyond_1 ha h
theorem B_stand_beyond_1 : hasBody Tryz.prog F_stand_beyond_1 = true := by kernel_rfl
abbrev F_slices_IndexFunc_api_StPart_api_StPart : FuncId := 137
def C_slices_IndexFunc_api_StPart_api_StPart : AC :=
 (.seq (.reg [oP 4 (.mv (cI 0))] [0,1])
 (.seq (.seq (.reg [mV 6 0,
oP 7 (.len (.t 6)),
oP 8 (.mv (cI 0))] [0,1,7,8])
 (.block 0
 (.loop [0,1,7,8]
 (.seq (.reg [oP 9 (.bin .lss (.t 8) (.t 7))] [0,1,7,8,9])
 (.seq (.cond (.t 9)
 .skip
 (.exit 0))
 (.seq (.block 1
 (.seq (.reg [mV 10 8,
mV 5 10] [0,1,5,7,8])
 (.seq (.reg [mV 11 1,
mV 12 0,
mV 13 5,
oP 14 (.ixS 7 (.t 12) (.t 13)),
oP 15 (.load (some 7) (.t 14)),
oP 16 (.call (.t 11) [false] [(.t 15)])] [0,1,5,7,8,16])
 (.cond (.t 16)
 (.seq (.reg [mV 17 5,
mV 4 17] [4])
 .ret)
 .skip))))
 (.reg [oP 18 (.bin .add (.t 8) (cI 1)),
mV 8 18] [0,1,7,8])))))))
 (.seq (.reg [oP 4 (.mv (cI (-1)))] [4])
 .ret)))
abbrev R_slices_IndexFunc_api_StPart_api_StPart : List (Nat × Option (Option Nat)) := [(4, none)]
theorem K_slices_IndexFunc_api_StPart_api_StPart : chkF Tryz.prog Tryz.f137 19 C_slices_IndexFunc_api_StPart_api_StPart R_slices_IndexFunc_api_StPart_api_StPart = true := by kernel_rfl
theorem spec_slices_IndexFunc_api_StPart_api_StPart : SpF 19 F_slices_IndexFunc_api_StPart_api_StPart C_slices_IndexFunc_api_StPart_api_StPart R_slices_IndexFunc_api_StPart_api_StPart := fun ha h => Spec.of_fn Tryz.func137 K_slices_IndexFunc_api_StPart_api_StPart ha h
theorem B_slices_IndexFunc_api_StPart_api_StPart : hasBody Tryz.prog F_slices_IndexFunc_api_StPart_api_StPart = true := by kernel_rfl
abbrev F_stand_body_bends : FuncId := 138
def C_stand_body_bends : AC :=
 (.seq (.reg [oP 2 (.pbox 3 (.t 0)),
oP 3 (.pbox 2 (.t 1)),
oP 4 (.mv (.c .nilfunc))] [2,3])
 (.seq (.reg [oP 5 (.mkfunc (.func 193) [] [(.t 3), (.t 2)]),
mV 4 5] [4])
 .ret))
abbrev R_stand_body_bends : List (Nat × Option (Option Nat)) := [(4, none)]
theorem K_stand_body_bends : chkF Tryz.prog Tryz.f138 6 C_stand_body_bends R_stand_body_bends = true := by kernel_rfl
theorem spec_stand_body_bends : SpF 6 F_stand_body_bends C_stand_body_bends R_stand_body_bends := fun ha h => Spec.of_fn Tryz.func138 K_stand_body_bends ha h
theorem B_stand_body_bends : hasBody Tryz.prog F_stand_body_bends = true := by kernel_rfl
abbrev F_stand_body_least : FuncId := 139
def C_stand_body_least : AC :=
 (.seq (.reg [oP 2 (.pbox 3 (.t 0)),
oP 4 (.alloc [.int .i64 0, .int .i64 0, .int .i64 0])] [1,2,4])
 (.seq (.seq (.reg [oP 11 (.load (some 3) (.t 2)),
oP 12 (.call (.f 195) [true] [(.t 11)]),
oP 13 (.mv (cI 0))] [1,2,4,12,13])
 (.block 0
 (.loop [1,2,4,12,13]
 (.seq (.reg [oP 14 (.bin .lss (.t 13) (cI 3))] [1,2,4,12,13,14])
 (.seq (.cond (.t 14)
 .skip
 (.exit 0))
 (.seq (.block 1
 (.seq (.reg [mV 15 13,
oP 16 (.ixV 3 3 (some 3) (.t 12) (.t 13)),
oP 6 (.alloc [.nilfunc, .nilfunc, .nilfunc]),
mV 5 15,
oN (.store 3 (.t 6) (.t 16))] [1,2,4,5,6,12,13])
 (.frz 6 true (.seq (.reg [oP 17 (.fieldAddr (some 3) 0 (.t 2)),
oP 18 (.fieldAddr none 0 (.t 17)),
oP 19 (.load none (.t 18)),
oP 20 (.len (.t 19)),
oP 21 (.mv (cI 0))] [1,2,4,5,6,12,13,19,20,21])
 (.block 2
 (.loop [1,2,4,5,6,12,13,19,20,21]
 (.seq (.reg [oP 22 (.bin .lss (.t 21) (.t 20))] [1,2,4,5,6,12,13,19,20,21,22])
 (.seq (.cond (.t 22)
 .skip
 (.exit 2))
 (.seq (.block 3
 (.seq (.reg [oP 23 (.ixS 7 (.t 19) (.t 21)),
oP 24 (.load (some 7) (.t 23)),
oP 8 (.alloc [.str ByteArray.empty, .int .i64 0, .int .i64 0, .int .i64 0, .int .i64 0, .int .i64 0, .int .i64 0]),
oN (.store 7 (.t 8) (.t 24))] [1,2,4,5,6,8,12,13,19,20,21])
 (.frz 8 true (.seq (.reg [oP 25 (.load (some 7) (.t 8)),
mV 26 1,
oP 27 (.fieldAddr none 4 (.t 8)),
oP 28 (.load none (.t 27)),
oP 29 (.bin .sub (.t 26) (.t 28)),
oP 30 (.mx [(cI 0), (.t 29)]),
oP 31 (.build [.str ByteArray.empty, .int .i64 0, .int .i64 0, .int .i64 0, .int .i64 0, .int .i64 0, .int .i64 0, .int .i64 0] [(0,7, (.t 25)), (7,1, (.t 30))]),
oP 9 (.alloc [.str ByteArray.empty, .int .i64 0, .int .i64 0, .int .i64 0, .int .i64 0, .int .i64 0, .int .i64 0, .int .i64 0]),
oN (.store 8 (.t 9) (.t 31))] [1,2,4,5,6,8,9,12,13,19,20,21])
 (.frz 9 true (.seq (.reg [oP 32 (.fieldAddr none 1 (.t 6)),
oP 33 (.load none (.t 32)),
mV 10 33] [1,2,4,5,6,8,9,10,12,13,19,20,21])
 (.seq (.seq (.reg [oP 34 (.fieldAddr none 0 (.t 6)),
oP 35 (.load none (.t 34)),
oP 36 (.load (some 7) (.t 8)),
oP 37 (.call (.t 35) [false] [(.t 36)]),
oP 38 (.bin .lss (.t 37) (cI 0))] [1,2,4,5,6,8,9,10,12,13,19,20,21,38])
 (.cond (.t 38)
 (.reg [oP 39 (.fieldAddr none 2 (.t 6)),
oP 40 (.load none (.t 39)),
mV 10 40] [1,2,4,5,6,8,9,10,12,13,19,20,21])
 .skip))
 (.dreg [mV 41 5,
oP 42 (.ixA 3 1 none (.t 4) (.t 41)),
oP 43 (.load none (.t 42)),
oP 44 (.fieldAddr none 0 (.t 6)),
oP 45 (.load none (.t 44)),
oP 46 (.load (some 7) (.t 8)),
oP 47 (.call (.t 45) [false] [(.t 46)]),
mV 48 10,
oP 49 (.load (some 8) (.t 9)),
oP 50 (.call (.t 48) [false] [(.t 49)]),
oP 51 (.bin .mul (.t 47) (.t 50)),
oP 52 (.bin .add (.t 43) (.t 51)),
oP 53 (.ixA 3 1 none (.t 4) (.t 41)),
oN (.store 1 (.t 53) (.t 52))] [1,2,4,5,6,12,13,19,20,21] [[], [0], [0,1], [], [3], [], [3,4,5], [], [], [3,4,5,6,7,8], [3,4,5,6,7,8,9], [0,1,2,3,4,5,6,7,8,9,10], [0,1,2,3,4,5,6,7,8,9,10,11], [0,1,2,3,4,5,6,7,8,9,10,11,12]]))))))))
 (.reg [oP 54 (.bin .add (.t 21) (cI 1)),
mV 21 54] [1,2,4,5,6,12,13,19,20,21]))))))))))
 (.reg [oP 55 (.bin .add (.t 13) (cI 1)),
mV 13 55] [1,2,4,12,13])))))))
 (.seq (.reg [oP 56 (.load (some 3) (.t 4)),
oN (.store 3 (.t 4) (.t 56))] [4])
 .ret)))
abbrev R_stand_body_least : List (Nat × Option (Option Nat)) := [(4, some (some 3))]
theorem K_stand_body_least : chkF Tryz.prog Tryz.f139 57 C_stand_body_least R_stand_body_least = true := by kernel_rfl
theorem spec_stand_body_least : SpF 57 F_stand_body_least C_stand_body_least R_stand_body_least := fun ha h => Spec.of_fn Tryz.func139 K_stand_body_least ha h
theorem B_stand_body_least : hasBody Tryz.prog F_stand_body_least = true := by kernel_rfl
abbrev F_stand_sums_why : FuncId := 140
def C_stand_sums_why : AC :=
 (.seq (.reg [oP 1 (.pbox 3 (.t 0)),
oP 2 (.mv (cI 0))] [1])
 (.seq (.block 0
 (.seq (.reg [oP 4 (.ixA 3 1 none (.t 1) (cI 0)),
oP 5 (.load none (.t 4)),
oP 6 (.bin .leq (.t 5) (cI 0)),
mV 3 6] [1,3])
 (.cond (.t 3)
 (.seq (.reg [oP 2 (.mv (cI 1))] [2])
 .ret)
 (.seq (.reg [oP 8 (.ixA 3 1 none (.t 1) (cI 1)),
oP 9 (.load none (.t 8)),
oP 10 (.bin .lss (.t 9) (cI 0)),
mV 7 10] [1,7])
 (.cond (.t 7)
 (.seq (.reg [oP 2 (.mv (cI 2))] [2])
 .ret)
 (.seq (.reg [oP 12 (.ixA 3 1 none (.t 1) (cI 2)),
oP 13 (.load none (.t 12)),
oP 14 (.bin .lss (.t 13) (cI 0)),
mV 11 14] [11])
 (.cond (.t 11)
 (.seq (.reg [oP 2 (.mv (cI 3))] [2])
 .ret)
 .skip)))))))
 (.seq (.reg [oP 2 (.mv (cI 0))] [2])
 .ret)))
abbrev R_stand_sums_why : List (Nat × Option (Option Nat)) := [(2, none)]
theorem K_stand_sums_why : chkF Tryz.prog Tryz.f140 15 C_stand_sums_why R_stand_sums_why = true := by kernel_rfl
theorem spec_stand_sums_why : SpF 15 F_stand_sums_why C_stand_sums_why R_stand_sums_why := fun ha h => Spec.of_fn Tryz.func140 K_stand_sums_why ha h
theorem B_stand_sums_why : hasBody Tryz.prog F_stand_sums_why = true := by kernel_rfl
abbrev F_vent_Check : FuncId := 141
def C_vent_Check : AC :=
 (.seq (.reg [oP 1 (.pbox 2 (.t 0)),
oP 2 (.mv (cI 0)),
oP 3 (.mv (cI 0)),
oP 4 (.mv (cI 0))] [1])
 (.seq (.seq (.reg [oP 9 (.fieldAddr none 0 (.t 1)),
oP 10 (.load none (.t 9)),
oP 11 (.len (.t 10)),
oP 12 (.bin .eql (.t 11) (cI 0)),
mV 13 12,
gF 14 13 (.fieldAddr none 0 (.t 1)),
gF 15 13 (.load none (.t 14)),
gF 16 13 (.len (.t 15)),
gF 17 13 (.bin .gtr (.t 16) (cI 7)),
oP 18 (.pick (.t 13) (.c (.bool true)) (.t 17)),
mV 19 18,
gF 20 19 (.fieldAddr none 1 (.t 1)),
gF 21 19 (.load none (.t 20)),
gF 22 19 (.len (.t 21)),
gF 23 19 (.bin .gtr (.t 22) (cI 12)),
oP 24 (.pick (.t 19) (.c (.bool true)) (.t 23))] [1,24])
 (.cond (.t 24)
 (.seq (.reg [oP 2 (.mv (cI 1)),
oP 3 (.mv (cI 0)),
oP 4 (.mv (cI 3))] [2,3,4])
 .ret)
 .skip))
 (.seq (.seq (.reg [oP 25 (.fieldAddr none 0 (.t 1)),
oP 26 (.load none (.t 25)),
oP 27 (.len (.t 26)),
oP 28 (.mv (cI 0))] [1,26,27,28])
 (.block 0
 (.loop [1,26,27,28]
 (.seq (.reg [oP 29 (.bin .lss (.t 28) (.t 27))] [1,26,27,28,29])
 (.seq (.cond (.t 29)
 .skip
 (.exit 0))
 (.seq (.block 1
 (.seq (.reg [mV 30 28,
oP 31 (.ixS 2 (.t 26) (.t 28)),
oP 32 (.load (some 2) (.t 31)),
oP 6 (.alloc [.str ByteArray.empty, .bool false]),
mV 5 30,
oN (.store 2 (.t 6) (.t 32))] [1,5,6,26,27,28])
 (.frz 6 true (.block 2
 (.seq (.reg [oP 34 (.fieldAddr none 0 (.t 6)),
oP 35 (.load none (.t 34)),
oP 36 (.call (.f 90) [false] [(.t 35)]),
oP 37 (.un .not (.t 36)),
mV 33 37] [1,5,6,26,27,28,33])
 (.cond (.t 33)
 (.seq (.reg [mV 38 5,
oP 2 (.mv (cI 2)),
mV 3 38,
oP 4 (.mv (cI 6))] [2,3,4])
 .ret)
 (.seq (.reg [oP 40 (.fieldAddr none 0 (.t 1)),
oP 41 (.load none (.t 40)),
mV 42 5,
oP 43 (.subq 2 (.t 41) none (some (.t 42))),
oP 44 (.mkfunc (.func 197) [] [(.t 6)]),
oP 45 (.call (.f 196) [true, false] [(.t 43), (.t 44)]),
mV 39 45] [1,5,26,27,28,39])
 (.cond (.t 39)
 (.seq (.reg [mV 46 5,
oP 2 (.mv (cI 2)),
mV 3 46,
oP 4 (.mv (cI 5))] [2,3,4])
 .ret)
 .skip))))))))
 (.reg [oP 47 (.bin .add (.t 28) (cI 1)),
mV 28 47] [1,26,27,28])))))))
 (.seq (.seq (.reg [oP 48 (.fieldAddr none 1 (.t 1)),
oP 49 (.load none (.t 48)),
oP 50 (.len (.t 49)),
oP 51 (.mv (cI 0))] [1,49,50,51])
 (.block 3
 (.loop [1,49,50,51]
 (.seq (.reg [oP 52 (.bin .lss (.t 51) (.t 50))] [1,49,50,51,52])
 (.seq (.cond (.t 52)
 .skip
 (.exit 3))
 (.seq (.block 4
 (.seq (.reg [mV 53 51,
oP 54 (.ixS 3 (.t 49) (.t 51)),
oP 55 (.load (some 3) (.t 54)),
oP 8 (.alloc [.int .i64 0, .int .i64 0, .bool false]),
mV 7 53,
oN (.store 3 (.t 8) (.t 55))] [1,7,8,49,50,51])
 (.frz 8 true (.block 5
 (.seq (.reg [oP 57 (.fieldAddr none 0 (.t 1)),
oP 58 (.load none (.t 57)),
oP 59 (.len (.t 58)),
oP 60 (.fieldAddr none 0 (.t 8)),
oP 61 (.load none (.t 60)),
oP 62 (.fieldAddr none 1 (.t 8)),
oP 63 (.load none (.t 62)),
oP 64 (.lit 0 1 2 [(0, (.t 61)), (1, (.t 63))]),
oP 65 (.call (.f 97) [false, true] [(.t 59), (.t 64)]),
mV 56 65] [1,7,8,49,50,51,56])
 (.cond (.t 56)
 (.seq (.reg [mV 66 7,
oP 2 (.mv (cI 3)),
mV 3 66,
oP 4 (.mv (cI 4))] [2,3,4])
 .ret)
 (.seq (.reg [oP 68 (.fieldAddr none 0 (.t 8)),
oP 69 (.load none (.t 68)),
oP 70 (.fieldAddr none 1 (.t 8)),
oP 71 (.load none (.t 70)),
oP 72 (.bin .eql (.t 69) (.t 71)),
mV 67 72] [1,7,49,50,51,67])
 (.cond (.t 67)
 (.seq (.reg [mV 73 7,
oP 2 (.mv (cI 3)),
mV 3 73,
oP 4 (.mv (cI 2))] [2,3,4])
 .ret)
 .skip))))))))
 (.reg [oP 74 (.bin .add (.t 51) (cI 1)),
mV 51 74] [1,49,50,51])))))))
 (.seq (.reg [oP 2 (.mv (cI 0)),
oP 3 (.mv (cI 0)),
oP 4 (.mv (cI 0))] [2,3,4])
 .ret)))))
abbrev R_vent_Check : List (Nat × Option (Option Nat)) := [(2, none), (3, none), (4, none)]
theorem K_vent_Check : chkF Tryz.prog Tryz.f141 75 C_vent_Check R_vent_Check = true := by kernel_rfl
theorem spec_vent_Check : SpF 75 F_vent_Check C_vent_Check R_vent_Check := fun ha h => Spec.of_fn Tryz.func141 K_vent_Check ha h
theorem B_vent_Check : hasBody Tryz.prog F_vent_Check = true := by kernel_rfl
abbrev F_vent_look_1 : FuncId := 142
def C_vent_look_1 : AC :=
 (.seq (.reg [mV 4 2,
oP 5 (.isnil true (.t 4))] [0,1,2,5])
 (.cond (.t 5)
 (.dreg [mV 6 2,
oP 7 (.assert 39 (.t 6)),
oN (.store 1 (.t 0) (.c .nilptr)),
oN (.store 1 (.t 1) (.t 7))] [] [[], [0], [], [0,1,2]])
 .skip))
theorem KD_vent_look_1 : chkDF Tryz.prog Tryz.f142 8 3 2 C_vent_look_1 = true := by kernel_rfl
theorem dspec_vent_look_1 {args : List AVal} {σ : AHeap} {m : PM} {Q : PM → AHeap → Prop} (ha : args.length ≤ 8) (h : AW Tryz.prog 8 none C_vent_look_1 (dbodyQ (Q m.after)) { v := (2, m.val) :: (3, .undef) :: argEnv args 0, ds := [] } σ) : DSpec Tryz.prog F_vent_look_1 args σ m Q := DSpec.of_fn Tryz.func142 KD_vent_look_1 ha h
theorem B_vent_look_1 : hasBody Tryz.prog F_vent_look_1 = true := by kernel_rfl
abbrev F_vent_each_int : FuncId := 143
def C_vent_each_int : AC :=
 (.seq (.reg [mV 8 0,
oP 9 (.len (.t 8)),
oP 10 (.mv (cI 0))] [0,1,2,8,9,10])
 (.block 0
 (.loop [0,1,2,8,9,10]
 (.seq (.reg [oP 11 (.bin .lss (.t 10) (.t 9))] [0,1,2,8,9,10,11])
 (.seq (.cond (.t 11)
 .skip
 (.exit 0))
 (.seq (.block 1
 (.seq (.reg [mV 12 10,
oP 13 (.ixS 1 (.t 8) (.t 10)),
oP 14 (.load none (.t 13)),
mV 6 12,
mV 7 14] [0,1,2,6,7,8,9,10])
 (.block 2
 (.seq (.reg [mV 16 1,
mV 17 7,
oP 18 (.lit 0 1 1 [(0, (.t 17))]),
oP 19 (.call (.f 97) [false, true] [(.t 16), (.t 18)]),
mV 15 19] [0,1,2,6,7,8,9,10,15])
 (.cond (.t 15)
 (.reg [oP 20 (.mkiface 39 (cI 4)),
oN (.panic (.t 20))] [0,1,2,8,9,10])
 (.seq (.reg [mV 22 6,
oP 23 (.bin .gtr (.t 22) (cI 0)),
mV 24 23,
gT 25 24 (.mv (.t 7)),
gT 26 24 (.mv (.t 0)),
gT 27 24 (.mv (.t 6)),
gT 28 24 (.bin .sub (.t 27) (cI 1)),
gT 29 24 (.ixS 1 (.t 26) (.t 28)),
gT 30 24 (.load none (.t 29)),
gT 31 24 (.bin .leq (.t 25) (.t 30)),
oP 32 (.pick (.t 24) (.t 31) (.c (.bool false))),
mV 21 32] [0,1,2,7,8,9,10,21])
 (.cond (.t 21)
 (.reg [oP 33 (.mkiface 39 (cI 2)),
oN (.panic (.t 33))] [0,1,2,8,9,10])
 (.seq (.reg [mV 35 2,
mV 36 7,
oP 37 (.call (.t 35) [false] [(.t 36)]),
mV 34 37] [0,1,2,8,9,10,34])
 (.cond (.t 34)
 (.reg [oP 38 (.mkiface 39 (cI 9)),
oN (.panic (.t 38))] [0,1,2,8,9,10])
 .skip)))))))))
 (.reg [oP 39 (.bin .add (.t 10) (cI 1)),
mV 10 39] [0,1,2,8,9,10])))))))
abbrev R_vent_each_int : List (Nat × Option (Option Nat)) := []
theorem K_vent_each_int : chkF Tryz.prog Tryz.f143 40 C_vent_each_int R_vent_each_int = true := by kernel_rfl
theorem spec_vent_each_int : SpF 40 F_vent_each_int C_vent_each_int R_vent_each_int := fun ha h => Spec.of_fn Tryz.func143 K_vent_each_int ha h
theorem B_vent_each_int : hasBody Tryz.prog F_vent_each_int = true := by kernel_rfl
abbrev F_vent_look_2 : FuncId := 144
def C_vent_look_2 : AC :=
 (.seq (.reg [oP 3 (.mv (.c (.bool false)))] [0,1])
 (.seq (.reg [oP 4 (.fieldAddr none 1 (.t 1)),
oP 5 (.load none (.t 4)),
mV 6 0,
oP 7 (.ixS 3 (.t 5) (.t 6)),
oP 8 (.fieldAddr none 2 (.t 7)),
oP 9 (.load none (.t 8)),
mV 3 9] [3])
 .ret))
abbrev R_vent_look_2 : List (Nat × Option (Option Nat)) := [(3, none)]
theorem K_vent_look_2 : chkF Tryz.prog Tryz.f144 10 C_vent_look_2 R_vent_look_2 = true := by kernel_rfl
theorem spec_vent_look_2 : SpF 10 F_vent_look_2 C_vent_look_2 R_vent_look_2 := fun ha h => Spec.of_fn Tryz.func144 K_vent_look_2 ha h
theorem B_vent_look_2 : hasBody Tryz.prog F_vent_look_2 = true := by kernel_rfl
abbrev F_vent_look_3 : FuncId := 145
def C_vent_look_3 : AC :=
 (.seq (.reg [oP 3 (.mv (.c (.bool false)))] [0,1])
 (.seq (.reg [oP 4 (.fieldAddr none 0 (.t 1)),
oP 5 (.load none (.t 4)),
mV 6 0,
oP 7 (.ixS 2 (.t 5) (.t 6)),
oP 8 (.fieldAddr none 1 (.t 7)),
oP 9 (.load none (.t 8)),
mV 3 9] [3])
 .ret))
abbrev R_vent_look_3 : List (Nat × Option (Option Nat)) := [(3, none)]
theorem K_vent_look_3 : chkF Tryz.prog Tryz.f145 10 C_vent_look_3 R_vent_look_3 = true := by kernel_rfl
theorem spec_vent_look_3 : SpF 10 F_vent_look_3 C_vent_look_3 R_vent_look_3 := fun ha h => Spec.of_fn Tryz.func145 K_vent_look_3 ha h
theorem B_vent_look_3 : hasBody Tryz.prog F_vent_look_3 = true := by kernel_rfl
abbrev F_vent_one : FuncId := 146
def C_vent_one : AC :=
 (.seq (.reg [oP 2 (.mv (.c (.int .u64 0)))] [0])
 (.seq (.reg [mV 3 0,
oP 4 (.bin .shl (.c (.int .u64 1)) (.t 3)),
mV 2 4] [2])
 .ret))
abbrev R_vent_one : List (Nat × Option (Option Nat)) := [(2, none)]
theorem K_vent_one : chkF Tryz.prog Tryz.f146 5 C_vent_one R_vent_one = true := by kernel_rfl
theorem spec_vent_one : SpF 5 F_vent_one C_vent_one R_vent_one := fun ha h => Spec.of_fn Tryz.func146 K_vent_one ha h
theorem B_vent_one : hasBody Tryz.prog F_vent_one = true := by kernel_rfl
abbrev F_vent_beyond_1 : FuncId := 147
def C_vent_beyond_1 : AC :=
 (.seq (.reg [oP 3 (.mv (.c (.bool false)))] [0,1])
 (.seq (.reg [mV 4 0,
oP 5 (.bin .lss (.t 4) (cI 0)),
mV 6 5,
gF 7 6 (.mv (.t 0)),
gF 8 6 (.load none (.t 1)),
gF 9 6 (.bin .geq (.t 7) (.t 8)),
oP 10 (.pick (.t 6) (.c (.bool true)) (.t 9)),
mV 3 10] [3])
 .ret))
abbrev R_vent_beyond_1 : List (Nat × Option (Option Nat)) := [(3, none)]
theorem K_vent_beyond_1 : chkF Tryz.prog Tryz.f147 11 C_vent_beyond_1 R_vent_beyond_1 = true := by kernel_rfl
theorem spec_vent_beyond_1 : SpF 11 F_vent_beyond_1 C_vent_beyond_1 R_vent_beyond_1 := fun ha h => Spec.of_fn Tryz.func147 K_vent_beyond_1 ha h
theorem B_vent_beyond_1 : hasBody Tryz.prog F_vent_beyond_1 = true := by kernel_rfl
abbrev F_vent_set_has : FuncId := 148
def C_vent_set_has : AC :=
 (.seq (.reg [oP 4 (.mv (.c (.bool false)))] [0,1])
 (.seq (.reg [mV 5 0,
mV 6 1,
oP 7 (.bin .shr (.t 5) (.t 6)),
oP 8 (.bin .and (.t 7) (.c (.int .u64 1))),
oP 9 (.bin .eql (.t 8) (.c (.int .u64 1))),
mV 4 9] [4])
 .ret))
abbrev R_vent_set_has : List (Nat × Option (Option Nat)) := [(4, none)]
theorem K_vent_set_has : chkF Tryz.prog Tryz.f148 10 C_vent_set_has R_vent_set_has = true := by kernel_rfl
theorem spec_vent_set_has : SpF 10 F_vent_set_has C_vent_set_has R_vent_set_has := fun ha h => Spec.of_fn Tryz.func148 K_vent_set_has ha h
theorem B_vent_set_has : hasBody Tryz.prog F_vent_set_has = true := by kernel_rfl
abbrev F_vent_net_spread : FuncId := 149
def C_vent_net_spread : AC :=
 (.seq (.reg [oP 3 (.box 2 (.t 1)),
oP 4 (.alloc [.int .u64 0, .int .u64 0])] [0,3,4])
 (.seq (.seq (.reg [oP 9 (.build [.int .u64 0, .int .u64 0] []),
oP 5 (.alloc [.int .u64 0, .int .u64 0]),
oN (.store 2 (.t 5) (.t 9))] [0,3,4,5])
 (.block 0
 (.loop [0,3,4,5]
 (.seq (.seq (.reg [oP 10 (.load (some 2) (.t 5)),
oP 11 (.load (some 2) (.t 3)),
oP 12 (.eqa true [.i, .i] (.t 10) (.t 11))] [0,3,4,5,12])
 (.cond (.t 12)
 .skip
 (.exit 0)))
 (.seq (.block 1
 (.seq (.reg [oP 13 (.load (some 2) (.t 3)),
oN (.store 2 (.t 5) (.t 13))] [0,3,4,5])
 (.seq (.reg [mV 14 0,
oP 15 (.nilchk (.t 14)),
oP 16 (.fieldAddr (some 2) 0 (.t 15)),
oP 17 (.fieldAddr none 1 (.t 16)),
oP 18 (.load none (.t 17)),
oP 19 (.len (.t 18)),
oP 20 (.mv (cI 0))] [0,3,4,5,18,19,20])
 (.block 2
 (.loop [0,3,4,5,18,19,20]
 (.seq (.reg [oP 21 (.bin .lss (.t 20) (.t 19))] [0,3,4,5,18,19,20,21])
 (.seq (.cond (.t 21)
 .skip
 (.exit 2))
 (.seq (.block 3
 (.seq (.reg [mV 22 20,
oP 23 (.ixS 3 (.t 18) (.t 20)),
oP 24 (.load (some 3) (.t 23)),
oP 7 (.alloc [.int .i64 0, .int .i64 0, .bool false]),
mV 6 22,
oN (.store 3 (.t 7) (.t 24))] [0,3,4,5,6,7,18,19,20])
 (.frz 7 true (.seq (.seq (.dreg [mV 25 0,
mV 26 6,
oP 27 (.nilchk (.t 25)),
oP 28 (.fieldAddr (some 12) 4 (.t 27)),
oP 29 (.ixA 12 1 none (.t 28) (.t 26)),
oP 30 (.load none (.t 29)),
oP 31 (.un .not (.t 30)),
mV 32 31,
gF 33 32 (.fieldAddr none 0 (.t 3)),
gF 34 32 (.load none (.t 33)),
gF 35 32 (.fieldAddr none 0 (.t 7)),
gF 36 32 (.load none (.t 35)),
gF 37 32 (.call (.f 148) [false, false] [(.t 34), (.t 36)]),
gF 38 32 (.fieldAddr none 0 (.t 3)),
gF 39 32 (.load none (.t 38)),
gF 40 32 (.fieldAddr none 1 (.t 7)),
gF 41 32 (.load none (.t 40)),
gF 42 32 (.call (.f 148) [false, false] [(.t 39), (.t 41)]),
gF 43 32 (.eqb false (.t 37) (.t 42)),
oP 44 (.pick (.t 32) (.c (.bool true)) (.t 43))] [0,3,4,5,7,18,19,20,44] [[], [], [0], [0,2], [0,1,2,3], [0,1,2,3,4], [0,1,2,3,4,5], [0,1,2,3,4,5,6], [0,1,2,3,4,5,6,7], [0,1,2,3,4,5,6,7,8], [0,1,2,3,4,5,6,7], [0,1,2,3,4,5,6,7,10], [0,1,2,3,4,5,6,7,8,9,10,11], [0,1,2,3,4,5,6,7], [0,1,2,3,4,5,6,7,13], [0,1,2,3,4,5,6,7], [0,1,2,3,4,5,6,7,15], [0,1,2,3,4,5,6,7,8,9,10,11,12,13,14,15,16], [0,1,2,3,4,5,6,7,8,9,10,11,12,13,14,15,16,17], [0,1,2,3,4,5,6,7,8,9,10,11,12,13,14,15,16,17,18]])
 (.cond (.t 44)
 (.exit 3)
 .skip))
 (.seq (.dreg [oP 45 (.fieldAddr none 0 (.t 3)),
oP 46 (.load none (.t 45)),
oP 47 (.fieldAddr none 0 (.t 7)),
oP 48 (.load none (.t 47)),
oP 49 (.call (.f 146) [false] [(.t 48)]),
oP 50 (.fieldAddr none 1 (.t 7)),
oP 51 (.load none (.t 50)),
oP 52 (.call (.f 146) [false] [(.t 51)]),
oP 53 (.bin .or (.t 49) (.t 52)),
oP 54 (.bin .and (.t 46) (.t 53)),
oP 55 (.fieldAddr none 1 (.t 3)),
oP 56 (.load none (.t 55)),
oP 57 (.bin .andNot (.t 54) (.t 56)),
mV 8 57] [0,3,4,5,8,18,19,20] [[], [0], [], [2], [2,3], [], [5], [2,3,4,5,6], [2,3,4,5,6,7], [0,1,2,3,4,5,6,7,8], [], [10], [0,1,2,3,4,5,6,7,8,9,10,11], [0,1,2,3,4,5,6,7,8,9,10,11,12]])
 (.reg [oP 58 (.fieldAddr none 0 (.t 3)),
oP 59 (.load none (.t 58)),
mV 60 8,
oP 61 (.bin .andNot (.t 59) (.t 60)),
oP 62 (.fieldAddr none 0 (.t 3)),
oN (.store 1 (.t 62) (.t 61))] [0,3,4,5,18,19,20]))))))
 (.reg [oP 63 (.bin .add (.t 20) (cI 1)),
mV 20 63] [0,3,4,5,18,19,20])))))))))
 (.seq (.reg [oP 64 (.load (some 2) (.t 5))] [0,3,4,64])
 (.reg [oP 5 (.alloc [.int .u64 0, .int .u64 0]),
oN (.store 2 (.t 5) (.t 64))] [0,3,4,5])))))))
 (.seq (.reg [oP 65 (.load (some 2) (.t 3)),
oN (.store 2 (.t 4) (.t 65))] [4])
 .ret)))
abbrev R_vent_net_spread : List (Nat × Option (Option Nat)) := [(4, some (some 2))]
theorem K_vent_net_spread : chkF Tryz.prog Tryz.f149 66 C_vent_net_spread R_vent_net_spread = true := by kernel_rfl
theorem spec_vent_net_spread : SpF 66 F_vent_net_spread C_vent_net_spread R_vent_net_spread := fun ha h => Spec.of_fn Tryz.func149 K_vent_net_spread ha h
theorem B_vent_net_spread : hasBody Tryz.prog F_vent_net_spread = true := by kernel_rfl
abbrev F_slices_IndexFunc_int_int : FuncId := 150
def C_slices_IndexFunc_int_int : AC :=
 (.seq (.reg [oP 4 (.mv (cI 0))] [0,1])
 (.seq (.seq (.reg [mV 6 0,
oP 7 (.len (.t 6)),
oP 8 (.mv (cI 0))] [0,1,7,8])
 (.block 0
 (.loop [0,1,7,8]
 (.seq (.reg [oP 9 (.bin .lss (.t 8) (.t 7))] [0,1,7,8,9])
 (.seq (.cond (.t 9)
 .skip
 (.exit 0))
 (.seq (.block 1
 (.seq (.reg [mV 10 8,
mV 5 10] [0,1,5,7,8])
 (.seq (.reg [mV 11 1,
mV 12 0,
mV 13 5,
oP 14 (.ixS 1 (.t 12) (.t 13)),
oP 15 (.load none (.t 14)),
oP 16 (.call (.t 11) [false] [(.t 15)])] [0,1,5,7,8,16])
 (.cond (.t 16)
 (.seq (.reg [mV 17 5,
mV 4 17] [4])
 .ret)
 .skip))))
 (.reg [oP 18 (.bin .add (.t 8) (cI 1)),
mV 8 18] [0,1,7,8])))))))
 (.seq (.reg [oP 4 (.mv (cI (-1)))] [4])
 .ret)))
abbrev R_slices_IndexFunc_int_int : List (Nat × Option (Option Nat)) := [(4, none)]
theorem K_slices_IndexFunc_int_int : chkF Tryz.prog Tryz.f150 19 C_slices_IndexFunc_int_int R_slices_IndexFunc_int_int = true := by kernel_rfl
theorem spec_slices_IndexFunc_int_int : SpF 19 F_slices_IndexFunc_int_int C_slices_IndexFunc_int_int R_slices_IndexFunc_int_int := fun ha h => Spec.of_fn Tryz.func150 K_slices_IndexFunc_int_int ha h
theorem B_slices_IndexFunc_int_int : hasBody Tryz.prog F_slices_IndexFunc_int_int = true := by kernel_rfl
abbrev F_r01_Name : FuncId := 151
def C_r01_Name : AC :=
 (.seq (.reg [oP 2 (.mv (.c (.bool false)))] [0])
 (.seq (.seq (.reg [mV 6 0,
oP 7 (.lenStr (.t 6)),
oP 8 (.call (.f 103) [false, false, false] [(.t 7), (cI 1), (cI 16)]),
oP 9 (.un .not (.t 8)),
mV 10 9,
gF 11 10 (.mv (.t 0)),
gF 12 10 (.ixStr (.t 11) (cI 0)),
gF 13 10 (.bin .lss (.t 12) (.c (.int .u8 97))),
oP 14 (.pick (.t 10) (.c (.bool true)) (.t 13)),
mV 15 14,
gF 16 15 (.mv (.t 0)),
gF 17 15 (.ixStr (.t 16) (cI 0)),
gF 18 15 (.bin .gtr (.t 17) (.c (.int .u8 122))),
oP 19 (.pick (.t 15) (.c (.bool true)) (.t 18))] [0,19])
 (.cond (.t 19)
 (.seq (.reg [oP 2 (.mv (.c (.bool false)))] [2])
 .ret)
 .skip))
 (.seq (.seq (.reg [oP 3 (.mv (cI 1))] [0,3])
 (.block 0
 (.loop [0,3]
 (.seq (.seq (.reg [mV 20 3,
mV 21 0,
oP 22 (.lenStr (.t 21)),
oP 23 (.bin .lss (.t 20) (.t 22))] [0,3,23])
 (.cond (.t 23)
 .skip
 (.exit 0)))
 (.seq (.block 1
 (.seq (.dreg [mV 26 0,
mV 27 3,
oP 28 (.ixStr (.t 26) (.t 27)),
oP 29 (.bin .geq (.t 28) (.c (.int .u8 97))),
mV 30 29,
gT 31 30 (.mv (.t 0)),
gT 32 30 (.mv (.t 3)),
gT 33 30 (.ixStr (.t 31) (.t 32)),
gT 34 30 (.bin .leq (.t 33) (.c (.int .u8 122))),
oP 35 (.pick (.t 30) (.t 34) (.c (.bool false))),
mV 36 0,
mV 37 3,
oP 38 (.ixStr (.t 36) (.t 37)),
oP 39 (.bin .geq (.t 38) (.c (.int .u8 48))),
mV 40 39,
gT 41 40 (.mv (.t 0)),
gT 42 40 (.mv (.t 3)),
gT 43 40 (.ixStr (.t 41) (.t 42)),
gT 44 40 (.bin .leq (.t 43) (.c (.int .u8 57))),
oP 45 (.pick (.t 40) (.t 44) (.c (.bool false))),
mV 4 35,
mV 5 45] [0,3,4,5] [[], [], [0,1], [0,1,2], [0,1,2,3], [0,1,2,3,4], [0,1,2,3,4], [0,1,2,3,4,5,6], [0,1,2,3,4,5,6,7], [0,1,2,3,4,5,6,7,8], [], [], [10,11], [10,11,12], [0,1,2,3,4,10,11,12,13], [0,1,2,3,4,10,11,12,13,14], [0,1,2,3,4,10,11,12,13,14], [0,1,2,3,4,10,11,12,13,14,15,16], [0,1,2,3,4,10,11,12,13,14,15,16,17], [0,1,2,3,4,10,11,12,13,14,15,16,17,18], [0,1,2,3,4,5,6,7,8,9,10,11,12,13,14], [0,1,2,3,4,5,6,7,8,9,10,11,12,13,14,15,16,17,18,19,20]])
 (.seq (.reg [mV 46 4,
oP 47 (.un .not (.t 46)),
mV 48 47,
gT 49 48 (.mv (.t 5)),
gT 50 48 (.un .not (.t 49)),
oP 51 (.pick (.t 48) (.t 50) (.c (.bool false)))] [0,3,51])
 (.cond (.t 51)
 (.seq (.reg [oP 2 (.mv (.c (.bool false)))] [2])
 .ret)
 .skip))))
 (.reg [mV 24 3,
oP 25 (.bin .add (.t 24) (cI 1)),
mV 3 25] [0,3]))))))
 (.seq (.reg [oP 2 (.mv (.c (.bool true)))] [2])
 .ret))))
abbrev R_r01_Name : List (Nat × Option (Option Nat)) := [(2, none)]
theorem K_r01_Name : chkF Tryz.prog Tryz.f151 52 C_r01_Name R_r01_Name = true := by kernel_rfl
theorem spec_r01_Name : SpF 52 F_r01_Name C_r01_Name R_r01_Name := fun ha h => Spec.of_fn Tryz.func151 K_r01_Name ha h
theorem B_r01_Name : hasBody Tryz.prog F_r01_Name = true := by kernel_rfl
abbrev F_r01_Range : FuncId := 152
def C_r01_Range : AC :=
 (.seq (.reg [oP 3 (.pbox 2 (.t 0)),
oP 6 (.mv (cI 0))] [1,2,3])
 (.seq (.reg [oP 7 (.load (some 2) (.t 3)),
oP 8 (.lit 0 2 1 [(0, (.t 7))]),
mV 9 1,
mV 10 2,
oP 11 (.call (.f 198) [true, false, false] [(.t 8), (.t 9), (.t 10)]),
mV 6 11] [6])
 .ret))
abbrev R_r01_Range : List (Nat × Option (Option Nat)) := [(6, none)]
theorem K_r01_Range : chkF Tryz.prog Tryz.f152 12 C_r01_Range R_r01_Range = true := by kernel_rfl
theorem spec_r01_Range : SpF 12 F_r01_Range C_r01_Range R_r01_Range := fun ha h => Spec.of_fn Tryz.func152 K_r01_Range ha h
theorem B_r01_Range : hasBody Tryz.prog F_r01_Range = true := by kernel_rfl
abbrev F_r01_meet : FuncId := 153
def C_r01_meet : AC :=
 (.seq (.reg [oP 2 (.pbox 7 (.t 0)),
oP 3 (.pbox 7 (.t 1)),
oP 4 (.mv (.c (.bool false)))] [2,3])
 (.seq (.reg [oP 5 (.fieldAddr none 2 (.t 2)),
oP 6 (.load none (.t 5)),
oP 7 (.fieldAddr none 2 (.t 3)),
oP 8 (.load none (.t 7)),
oP 9 (.mx [(.t 6), (.t 8)]),
oP 10 (.fieldAddr none 3 (.t 2)),
oP 11 (.load none (.t 10)),
oP 12 (.fieldAddr none 3 (.t 3)),
oP 13 (.load none (.t 12)),
oP 14 (.mn [(.t 11), (.t 13)]),
oP 15 (.bin .leq (.t 9) (.t 14)),
mV 4 15] [4])
 .ret))
abbrev R_r01_meet : List (Nat × Option (Option Nat)) := [(4, none)]
theorem K_r01_meet : chkF Tryz.prog Tryz.f153 16 C_r01_meet R_r01_meet = true := by kernel_rfl
theorem spec_r01_meet : SpF 16 F_r01_meet C_r01_meet R_r01_meet := fun ha h => Spec.of_fn Tryz.func153 K_r01_meet ha h
theorem B_r01_meet : hasBody Tryz.prog F_r01_meet = true := by kernel_rfl
abbrev F_r05_Smallest : FuncId := 157
def C_r05_Smallest : AC :=
 (.seq (.reg [oP 2 (.pbox 3 (.t 0)),
oP 4 (.alloc [.int .i64 0, .int .i64 0, .int .i64 0])] [1,2,4])
 (.seq (.dreg [oP 5 (.load (some 3) (.t 2)),
oP 6 (.load (some 3) (.t 2)),
oP 7 (.call (.f 199) [true, false] [(.t 6), (cI 1)]),
mV 8 1,
oP 9 (.call (.f 86) [true, true, false] [(.t 5), (.t 7), (.t 8)]),
oP 10 (.field none 0 (.t 9)),
oP 11 (.load (some 3) (.t 2)),
oP 12 (.load (some 3) (.t 2)),
oP 13 (.call (.f 199) [true, false] [(.t 12), (cI 2)]),
mV 14 1,
oP 15 (.call (.f 86) [true, true, false] [(.t 11), (.t 13), (.t 14)]),
oP 16 (.field none 1 (.t 15)),
oP 17 (.load (some 3) (.t 2)),
oP 18 (.load (some 3) (.t 2)),
oP 19 (.call (.f 199) [true, false] [(.t 18), (cI 3)]),
mV 20 1,
oP 21 (.call (.f 86) [true, true, false] [(.t 17), (.t 19), (.t 20)]),
oP 22 (.field none 2 (.t 21)),
oP 23 (.build [.int .i64 0, .int .i64 0, .int .i64 0] [(0,1, (.t 10)), (1,1, (.t 16)), (2,1, (.t 22))]),
oN (.store 3 (.t 4) (.t 23))] [4] [[], [], [1], [], [0,1,2,3], [0,1,2,3,4], [], [], [0,1,2,3,4,7], [], [0,1,2,3,4,6,7,8,9], [0,1,2,3,4,6,7,8,9,10], [], [], [0,1,2,3,4,6,7,8,9,10,13], [], [0,1,2,3,4,6,7,8,9,10,12,13,14,15], [0,1,2,3,4,6,7,8,9,10,12,13,14,15,16], [0,1,2,3,4,5,6,7,8,9,10,11,12,13,14,15,16,17], [0,1,2,3,4,5,6,7,8,9,10,11,12,13,14,15,16,17,18]])
 .ret))
abbrev R_r05_Smallest : List (Nat × Option (Option Nat)) := [(4, some (some 3))]
theorem K_r05_Smallest : chkF Tryz.prog Tryz.f157 24 C_r05_Smallest R_r05_Smallest = true := by kernel_rfl
theorem spec_r05_Smallest : SpF 24 F_r05_Smallest C_r05_Smallest R_r05_Smallest := fun ha h => Spec.of_fn Tryz.func157 K_r05_Smallest ha h
theorem B_r05_Smallest : hasBody Tryz.prog F_r05_Smallest = true := by kernel_rfl
abbrev F_r04_Check : FuncId := 158
def C_r04_Check : AC :=
 (.seq (.reg [oP 1 (.pbox 2 (.t 0)),
oP 2 (.mv (cI 0)),
oP 3 (.mv (cI 0)),
oP 4 (.mv (cI 0))] [1])
 (.seq (.seq (.reg [oP 10 (.fieldAddr none 0 (.t 1)),
oP 11 (.load none (.t 10)),
oP 12 (.len (.t 11)),
oP 13 (.bin .lss (.t 12) (cI 1)),
mV 14 13,
gF 15 14 (.fieldAddr none 0 (.t 1)),
gF 16 14 (.load none (.t 15)),
gF 17 14 (.len (.t 16)),
gF 18 14 (.bin .gtr (.t 17) (cI 7)),
oP 19 (.pick (.t 14) (.c (.bool true)) (.t 18)),
mV 20 19,
gF 21 20 (.fieldAddr none 1 (.t 1)),
gF 22 20 (.load none (.t 21)),
gF 23 20 (.len (.t 22)),
gF 24 20 (.bin .gtr (.t 23) (cI 12)),
oP 25 (.pick (.t 20) (.c (.bool true)) (.t 24))] [1,25])
 (.cond (.t 25)
 (.seq (.reg [oP 2 (.mv (cI 1)),
oP 3 (.mv (cI 0)),
oP 4 (.mv (cI 3))] [2,3,4])
 .ret)
 .skip))
 (.seq (.reg [oP 5 (.nilS 1 1)] [1,5])
 (.seq (.seq (.reg [oP 6 (.mv (cI 0))] [1,5,6])
 (.block 0
 (.loop [1,5,6]
 (.seq (.seq (.reg [mV 26 6,
oP 27 (.fieldAddr none 0 (.t 1)),
oP 28 (.load none (.t 27)),
oP 29 (.len (.t 28)),
oP 30 (.bin .lss (.t 26) (.t 29))] [1,5,6,30])
 (.cond (.t 30)
 .skip
 (.exit 0)))
 (.seq (.block 1
 (.seq (.reg [oP 33 (.fieldAddr none 0 (.t 1)),
oP 34 (.load none (.t 33)),
mV 35 6,
oP 36 (.ixS 2 (.t 34) (.t 35)),
oP 37 (.fieldAddr none 0 (.t 36)),
oP 38 (.load none (.t 37)),
mV 39 5,
oP 40 (.call (.f 107) [false, true] [(.t 38), (.t 39)]),
mV 7 40] [1,5,6,7])
 (.seq (.reg [mV 41 5,
oP 42 (.fieldAddr none 0 (.t 1)),
oP 43 (.load none (.t 42)),
mV 44 6,
oP 45 (.ixS 2 (.t 43) (.t 44)),
oP 46 (.fieldAddr none 0 (.t 45)),
oP 47 (.load none (.t 46)),
oP 48 (.lit 0 1 1 [(0, (.t 47))]),
oP 49 (.append 1 16 (.t 41) (.t 48)),
mV 5 49] [1,5,6,7])
 (.seq (.reg [mV 50 7,
oP 51 (.bin .neq (.t 50) (cI 0))] [1,5,6,7,51])
 (.cond (.t 51)
 (.seq (.reg [mV 52 6,
mV 53 7,
oP 2 (.mv (cI 2)),
mV 3 52,
mV 4 53] [2,3,4])
 .ret)
 .skip)))))
 (.reg [mV 31 6,
oP 32 (.bin .add (.t 31) (cI 1)),
mV 6 32] [1,5,6]))))))
 (.seq (.seq (.reg [oP 8 (.mv (cI 0))] [1,8])
 (.block 2
 (.loop [1,8]
 (.seq (.seq (.reg [mV 54 8,
oP 55 (.fieldAddr none 1 (.t 1)),
oP 56 (.load none (.t 55)),
oP 57 (.len (.t 56)),
oP 58 (.bin .lss (.t 54) (.t 57))] [1,8,58])
 (.cond (.t 58)
 .skip
 (.exit 2)))
 (.seq (.block 3
 (.seq (.reg [oP 61 (.fieldAddr none 1 (.t 1)),
oP 62 (.load none (.t 61)),
mV 63 8,
oP 64 (.ixS 3 (.t 62) (.t 63)),
oP 65 (.load (some 3) (.t 64)),
oP 9 (.alloc [.int .i64 0, .int .i64 0, .bool false]),
oN (.store 3 (.t 9) (.t 65))] [1,8,9])
 (.frz 9 true (.seq (.seq (.reg [oP 66 (.fieldAddr none 0 (.t 9)),
oP 67 (.load none (.t 66)),
oP 68 (.fieldAddr none 0 (.t 1)),
oP 69 (.load none (.t 68)),
oP 70 (.len (.t 69)),
oP 71 (.call (.f 112) [false, false] [(.t 67), (.t 70)]),
oP 72 (.un .not (.t 71)),
mV 73 72,
gF 74 73 (.fieldAddr none 1 (.t 9)),
gF 75 73 (.load none (.t 74)),
gF 76 73 (.fieldAddr none 0 (.t 1)),
gF 77 73 (.load none (.t 76)),
gF 78 73 (.len (.t 77)),
gF 79 73 (.call (.f 112) [false, false] [(.t 75), (.t 78)]),
gF 80 73 (.un .not (.t 79)),
oP 81 (.pick (.t 73) (.c (.bool true)) (.t 80))] [1,8,9,81])
 (.cond (.t 81)
 (.seq (.reg [mV 82 8,
oP 2 (.mv (cI 3)),
mV 3 82,
oP 4 (.mv (cI 4))] [2,3,4])
 .ret)
 .skip))
 (.seq (.reg [oP 83 (.fieldAddr none 0 (.t 9)),
oP 84 (.load none (.t 83)),
oP 85 (.fieldAddr none 1 (.t 9)),
oP 86 (.load none (.t 85)),
oP 87 (.bin .eql (.t 84) (.t 86))] [1,8,87])
 (.cond (.t 87)
 (.seq (.reg [mV 88 8,
oP 2 (.mv (cI 3)),
mV 3 88,
oP 4 (.mv (cI 2))] [2,3,4])
 .ret)
 .skip))))))
 (.reg [mV 59 8,
oP 60 (.bin .add (.t 59) (cI 1)),
mV 8 60] [1,8]))))))
 (.seq (.reg [oP 2 (.mv (cI 0)),
oP 3 (.mv (cI 0)),
oP 4 (.mv (cI 0))] [2,3,4])
 .ret))))))
abbrev R_r04_Check : List (Nat × Option (Option Nat)) := [(2, none), (3, none), (4, none)]
theorem K_r04_Check : chkF Tryz.prog Tryz.f158 89 C_r04_Check R_r04_Check = true := by kernel_rfl
theorem spec_r04_Check : SpF 89 F_r04_Check C_r04_Check R_r04_Check := fun ha h => Spec.of_fn Tryz.func158 K_r04_Check ha h
theorem B_r04_Check : hasBody Tryz.prog F_r04_Check = true := by kernel_rfl
abbrev F_r04_spread : FuncId := 159
def C_r04_spread : AC :=
 (.seq (.reg [oP 3 (.pbox 2 (.t 0)),
oP 5 (.box 14 (.t 2)),
oP 6 (.alloc [.bool false, .bool false, .bool false, .bool false, .bool false, .bool false, .bool false, .bool false, .bool false, .bool false, .bool false, .bool false, .bool false, .bool false])] [1,3,5,6])
 (.seq (.seq (.reg [oP 7 (.mv (.c (.bool true)))] [1,3,5,6,7])
 (.block 0
 (.loop [1,3,5,6,7]
 (.seq (.seq (.reg [mV 12 7] [1,3,5,6,12])
 (.cond (.t 12)
 .skip
 (.exit 0)))
 (.block 1
 (.seq (.reg [oP 7 (.mv (.c (.bool false)))] [1,3,5,6,7])
 (.seq (.reg [oP 8 (.mv (cI 0))] [1,3,5,6,7,8])
 (.block 2
 (.loop [1,3,5,6,7,8]
 (.seq (.seq (.reg [mV 13 8,
oP 14 (.fieldAddr none 1 (.t 3)),
oP 15 (.load none (.t 14)),
oP 16 (.len (.t 15)),
oP 17 (.bin .lss (.t 13) (.t 16))] [1,3,5,6,7,8,17])
 (.cond (.t 17)
 .skip
 (.exit 2)))
 (.seq (.block 3
 (.seq (.reg [oP 9 (.mv (cI 0))] [1,3,5,6,7,8,9])
 (.block 4
 (.loop [1,3,5,6,7,8,9]
 (.seq (.seq (.reg [mV 20 9,
oP 21 (.bin .lss (.t 20) (cI 2))] [1,3,5,6,7,8,9,21])
 (.cond (.t 21)
 .skip
 (.exit 4)))
 (.seq (.block 5
 (.seq (.dreg [oP 24 (.fieldAddr none 1 (.t 3)),
oP 25 (.load none (.t 24)),
mV 26 8,
oP 27 (.ixS 3 (.t 25) (.t 26)),
oP 28 (.fieldAddr none 0 (.t 27)),
oP 29 (.load none (.t 28)),
oP 30 (.fieldAddr none 1 (.t 3)),
oP 31 (.load none (.t 30)),
mV 32 8,
oP 33 (.ixS 3 (.t 31) (.t 32)),
oP 34 (.fieldAddr none 1 (.t 33)),
oP 35 (.load none (.t 34)),
mV 10 29,
mV 11 35] [1,3,5,6,7,8,9,10,11] [[], [0], [], [0,1,2], [0,1,2,3], [0,1,2,3,4], [], [6], [], [6,7,8], [6,7,8,9], [6,7,8,9,10], [0,1,2,3,4,5], [0,1,2,3,4,5,6,7,8,9,10,11,12]])
 (.seq (.seq (.reg [mV 36 9,
oP 37 (.bin .eql (.t 36) (cI 1))] [1,3,5,6,7,8,9,10,11,37])
 (.cond (.t 37)
 (.reg [mV 38 11,
mV 39 10,
mV 10 38,
mV 11 39] [1,3,5,6,7,8,9,10,11])
 .skip))
 (.seq (.reg [mV 40 1,
mV 41 8,
oP 42 (.call (.f 37) [true, false] [(.t 40), (.t 41)]),
oP 43 (.un .not (.t 42)),
mV 44 43,
gT 45 44 (.mv (.t 10)),
gT 46 44 (.fieldAddr (some 7) 0 (.t 5)),
gT 47 44 (.ixA 7 1 none (.t 46) (.t 45)),
gT 48 44 (.load none (.t 47)),
gT 49 44 (.un .not (.t 48)),
oP 50 (.pick (.t 44) (.t 49) (.c (.bool false))),
mV 51 50,
gT 52 51 (.mv (.t 11)),
gT 53 51 (.fieldAddr (some 7) 0 (.t 5)),
gT 54 51 (.ixA 7 1 none (.t 53) (.t 52)),
gT 55 51 (.load none (.t 54)),
oP 56 (.pick (.t 51) (.t 55) (.c (.bool false))),
mV 57 56,
gT 58 57 (.mv (.t 11)),
gT 59 57 (.fieldAddr (some 7) 7 (.t 5)),
gT 60 57 (.ixA 7 1 none (.t 59) (.t 58)),
gT 61 57 (.load none (.t 60)),
gT 62 57 (.un .not (.t 61)),
oP 63 (.pick (.t 57) (.t 62) (.c (.bool false)))] [1,3,5,6,7,8,9,11,63])
 (.cond (.t 63)
 (.reg [mV 64 11,
oP 65 (.fieldAddr (some 7) 0 (.t 5)),
oP 66 (.ixA 7 1 none (.t 65) (.t 64)),
oN (.store 1 (.t 66) (.c (.bool false))),
oP 7 (.mv (.c (.bool true)))] [1,3,5,6,7,8,9])
 .skip)))))
 (.reg [mV 22 9,
oP 23 (.bin .add (.t 22) (cI 1)),
mV 9 23] [1,3,5,6,7,8,9])))))))
 (.reg [mV 18 8,
oP 19 (.bin .add (.t 18) (cI 1)),
mV 8 19] [1,3,5,6,7,8]))))))))))))
 (.seq (.reg [oP 67 (.load (some 14) (.t 5)),
oN (.store 14 (.t 6) (.t 67))] [6])
 .ret)))
abbrev R_r04_spread : List (Nat × Option (Option Nat)) := [(6, some (some 14))]
theorem K_r04_spread : chkF Tryz.prog Tryz.f159 68 C_r04_spread R_r04_spread = true := by kernel_rfl
theorem spec_r04_spread : SpF 68 F_r04_spread C_r04_spread R_r04_spread := fun ha h => Spec.of_fn Tryz.func159 K_r04_spread ha h
theorem B_r04_spread : hasBody Tryz.prog F_r04_spread = true := by kernel_rfl
abbrev F_cut_set_parts_1 : FuncId := 160
def C_cut_set_parts_1 : AC :=
 (.seq (.reg [oP 4 (.load none (.t 1)),
oP 5 (.conv .u64 (.t 4)),
mV 3 5] [0,3])
 (.block 0
 (.loop [0,3]
 (.seq (.seq (.reg [mV 6 3,
oP 7 (.bin .neq (.t 6) (.c (.int .u64 0)))] [0,3,7])
 (.cond (.t 7)
 .skip
 (.exit 0)))
 (.seq (.block 1
 (.seq (.reg [mV 12 0,
mV 13 3,
oP 14 (.call (.f 161) [false] [(.t 13)]),
oP 15 (.call (.t 12) [false] [(.t 14)]),
oP 16 (.un .not (.t 15))] [0,3,16])
 (.cond (.t 16)
 .ret
 .skip)))
 (.reg [mV 8 3,
mV 9 3,
oP 10 (.bin .sub (.t 9) (.c (.int .u64 1))),
oP 11 (.bin .and (.t 8) (.t 10)),
mV 3 11] [0,3]))))))
abbrev R_cut_set_parts_1 : List (Nat × Option (Option Nat)) := []
theorem K_cut_set_parts_1 : chkF Tryz.prog Tryz.f160 17 C_cut_set_parts_1 R_cut_set_parts_1 = true := by kernel_rfl
theorem spec_cut_set_parts_1 : SpF 17 F_cut_set_parts_1 C_cut_set_parts_1 R_cut_set_parts_1 := fun ha h => Spec.of_fn Tryz.func160 K_cut_set_parts_1 ha h
theorem B_cut_set_parts_1 : hasBody Tryz.prog F_cut_set_parts_1 = true := by kernel_rfl
abbrev F_math_bits_TrailingZeros : FuncId := 161
def C_math_bits_TrailingZeros : AC :=
 (.seq (.reg [oP 2 (.mv (cI 0))] [0])
 (.seq (.cond (.c (.bool false))
 (.seq (.reg [mV 3 0,
oP 4 (.conv .u32 (.t 3)),
oP 5 (.call (.f 200) [false] [(.t 4)]),
mV 2 5] [2])
 .ret)
 .skip)
 (.seq (.reg [mV 6 0,
oP 7 (.call (.f 201) [false] [(.t 6)]),
mV 2 7] [2])
 .ret)))
abbrev R_math_bits_TrailingZeros : List (Nat × Option (Option Nat)) := [(2, none)]
theorem K_math_bits_TrailingZeros : chkF Tryz.prog Tryz.f161 8 C_math_bits_TrailingZeros R_math_bits_TrailingZeros = true := by kernel_rfl
theorem spec_math_bits_TrailingZeros : SpF 8 F_math_bits_TrailingZeros C_math_bits_TrailingZeros R_math_bits_TrailingZeros := fun ha h => Spec.of_fn Tryz.func161 K_math_bits_TrailingZeros ha h
theorem B_math_bits_TrailingZeros : hasBody Tryz.prog F_math_bits_TrailingZeros = true := by kernel_rfl
abbrev F_math_bits_OnesCount64 : FuncId := 163
def C_math_bits_OnesCount64 : AC :=
 (.seq (.reg [oP 2 (.mv (cI 0))] [0])
 (.seq (.reg [mV 3 0,
oP 4 (.bin .shr (.t 3) (.c (.int .u64 1))),
oP 5 (.bin .and (.t 4) (.c (.int .u64 6148914691236517205))),
mV 6 0,
oP 7 (.bin .and (.t 6) (.c (.int .u64 6148914691236517205))),
oP 8 (.bin .add (.t 5) (.t 7)),
mV 0 8] [0])
 (.seq (.reg [mV 9 0,
oP 10 (.bin .shr (.t 9) (.c (.int .u64 2))),
oP 11 (.bin .and (.t 10) (.c (.int .u64 3689348814741910323))),
mV 12 0,
oP 13 (.bin .and (.t 12) (.c (.int .u64 3689348814741910323))),
oP 14 (.bin .add (.t 11) (.t 13)),
mV 0 14] [0])
 (.seq (.reg [mV 15 0,
oP 16 (.bin .shr (.t 15) (.c (.int .u64 4))),
mV 17 0,
oP 18 (.bin .add (.t 16) (.t 17)),
oP 19 (.bin .and (.t 18) (.c (.int .u64 1085102592571150095))),
mV 0 19] [0])
 (.seq (.reg [mV 20 0,
mV 21 0,
oP 22 (.bin .shr (.t 21) (.c (.int .u64 8))),
oP 23 (.bin .add (.t 20) (.t 22)),
mV 0 23] [0])
 (.seq (.reg [mV 24 0,
mV 25 0,
oP 26 (.bin .shr (.t 25) (.c (.int .u64 16))),
oP 27 (.bin .add (.t 24) (.t 26)),
mV 0 27] [0])
 (.seq (.reg [mV 28 0,
mV 29 0,
oP 30 (.bin .shr (.t 29) (.c (.int .u64 32))),
oP 31 (.bin .add (.t 28) (.t 30)),
mV 0 31] [0])
 (.seq (.reg [mV 32 0,
oP 33 (.conv .i64 (.t 32)),
oP 34 (.bin .and (.t 33) (cI 127)),
mV 2 34] [2])
 .ret))))))))
abbrev R_math_bits_OnesCount64 : List (Nat × Option (Option Nat)) := [(2, none)]
theorem K_math_bits_OnesCount64 : chkF Tryz.prog Tryz.f163 35 C_math_bits_OnesCount64 R_math_bits_OnesCount64 = true := by kernel_rfl
theorem spec_math_bits_OnesCount64 : SpF 35 F_math_bits_OnesCount64 C_math_bits_OnesCount64 R_math_bits_OnesCount64 := fun ha h => Spec.of_fn Tryz.func163 K_math_bits_OnesCount64 ha h
theorem B_math_bits_OnesCount64 : hasBody Tryz.prog F_math_bits_OnesCount64 = true := by kernel_rfl
abbrev F_slices_Index_string_string : FuncId := 164
def C_slices_Index_string_string : AC :=
 (.seq (.reg [oP 4 (.mv (cI 0))] [0,1])
 (.seq (.seq (.reg [mV 6 0,
oP 7 (.len (.t 6)),
oP 8 (.mv (cI 0))] [0,1,7,8])
 (.block 0
 (.loop [0,1,7,8]
 (.seq (.reg [oP 9 (.bin .lss (.t 8) (.t 7))] [0,1,7,8,9])
 (.seq (.cond (.t 9)
 .skip
 (.exit 0))
 (.seq (.block 1
 (.seq (.reg [mV 10 8,
mV 5 10] [0,1,5,7,8])
 (.seq (.reg [mV 11 1,
mV 12 0,
mV 13 5,
oP 14 (.ixS 1 (.t 12) (.t 13)),
oP 15 (.load none (.t 14)),
oP 16 (.bin .eql (.t 11) (.t 15))] [0,1,5,7,8,16])
 (.cond (.t 16)
 (.seq (.reg [mV 17 5,
mV 4 17] [4])
 .ret)
 .skip))))
 (.reg [oP 18 (.bin .add (.t 8) (cI 1)),
mV 8 18] [0,1,7,8])))))))
 (.seq (.reg [oP 4 (.mv (cI (-1)))] [4])
 .ret)))
abbrev R_slices_Index_string_string : List (Nat × Option (Option Nat)) := [(4, none)]
theorem K_slices_Index_string_string : chkF Tryz.prog Tryz.f164 19 C_slices_Index_string_string R_slices_Index_string_string = true := by kernel_rfl
theorem spec_slices_Index_string_string : SpF 19 F_slices_Index_string_string C_slices_Index_string_string R_slices_Index_string_string := fun ha h => Spec.of_fn Tryz.func164 K_slices_Index_string_string ha h
theorem B_slices_Index_string_string : hasBody Tryz.prog F_slices_Index_string_string = true := by kernel_rfl
abbrev F_cut_set_has : FuncId := 165
def C_cut_set_has : AC :=
 (.seq (.reg [oP 4 (.mv (.c (.bool false)))] [0,1])
 (.seq (.reg [mV 5 0,
mV 6 1,
oP 7 (.bin .shr (.t 5) (.t 6)),
oP 8 (.bin .and (.t 7) (cI 1)),
oP 9 (.bin .eql (.t 8) (cI 1)),
mV 4 9] [4])
 .ret))
abbrev R_cut_set_has : List (Nat × Option (Option Nat)) := [(4, none)]
theorem K_cut_set_has : chkF Tryz.prog Tryz.f165 10 C_cut_set_has R_cut_set_has = true := by kernel_rfl
theorem spec_cut_set_has : SpF 10 F_cut_set_has C_cut_set_has R_cut_set_has := fun ha h => Spec.of_fn Tryz.func165 K_cut_set_has ha h
theorem B_cut_set_has : hasBody Tryz.prog F_cut_set_has = true := by kernel_rfl
abbrev F_slices_insertionSortOrdered_int : FuncId := 166
def C_slices_insertionSortOrdered_int : AC :=
 (.seq (.reg [mV 8 1,
oP 9 (.bin .add (.t 8) (cI 1)),
mV 6 9] [0,1,2,6])
 (.block 0
 (.loop [0,1,2,6]
 (.seq (.seq (.reg [mV 10 6,
mV 11 2,
oP 12 (.bin .lss (.t 10) (.t 11))] [0,1,2,6,12])
 (.cond (.t 12)
 .skip
 (.exit 0)))
 (.seq (.block 1
 (.seq (.reg [mV 15 6,
mV 7 15] [0,1,2,6,7])
 (.block 2
 (.loop [0,1,2,6,7]
 (.seq (.seq (.dreg [mV 16 7,
mV 17 1,
oP 18 (.bin .gtr (.t 16) (.t 17)),
mV 19 18,
gT 20 19 (.mv (.t 0)),
gT 21 19 (.mv (.t 7)),
gT 22 19 (.ixS 1 (.t 20) (.t 21)),
gT 23 19 (.load none (.t 22)),
gT 24 19 (.mv (.t 0)),
gT 25 19 (.mv (.t 7)),
gT 26 19 (.bin .sub (.t 25) (cI 1)),
gT 27 19 (.ixS 1 (.t 24) (.t 26)),
gT 28 19 (.load none (.t 27)),
gT 29 19 (.call (.f 172) [false, false] [(.t 23), (.t 28)]),
oP 30 (.pick (.t 19) (.t 29) (.c (.bool false)))] [0,1,2,6,7,30] [[], [], [0,1], [0,1,2], [0,1,2,3], [0,1,2,3], [0,1,2,3,4,5], [0,1,2,3,4,5,6], [0,1,2,3], [0,1,2,3], [0,1,2,3,9], [0,1,2,3,8,9,10], [0,1,2,3,8,9,10,11], [0,1,2,3,4,5,6,7,8,9,10,11,12], [0,1,2,3,4,5,6,7,8,9,10,11,12,13]])
 (.cond (.t 30)
 .skip
 (.exit 2)))
 (.seq (.block 3
 (.dreg [mV 33 0,
mV 34 7,
mV 35 0,
mV 36 7,
oP 37 (.bin .sub (.t 36) (cI 1)),
mV 38 0,
mV 39 7,
oP 40 (.bin .sub (.t 39) (cI 1)),
oP 41 (.ixS 1 (.t 38) (.t 40)),
oP 42 (.load none (.t 41)),
mV 43 0,
mV 44 7,
oP 45 (.ixS 1 (.t 43) (.t 44)),
oP 46 (.load none (.t 45)),
oP 47 (.ixS 1 (.t 33) (.t 34)),
oN (.store 1 (.t 47) (.t 42)),
oP 48 (.ixS 1 (.t 35) (.t 37)),
oN (.store 1 (.t 48) (.t 46))] [0,1,2,6,7] [[], [], [], [], [3], [], [], [6], [5,6,7], [5,6,7,8], [], [], [10,11], [10,11,12], [0,1,5,6,7,8,9,10,11,12,13], [0,1,5,6,7,8,9,10,11,12,13,14], [0,1,2,3,4,5,6,7,8,9,10,11,12,13,14,15], [0,1,2,3,4,5,6,7,8,9,10,11,12,13,14,15,16]]))
 (.reg [mV 31 7,
oP 32 (.bin .sub (.t 31) (cI 1)),
mV 7 32] [0,1,2,6,7])))))))
 (.reg [mV 13 6,
oP 14 (.bin .add (.t 13) (cI 1)),
mV 6 14] [0,1,2,6]))))))
abbrev R_slices_insertionSortOrdered_int : List (Nat × Option (Option Nat)) := []
theorem K_slices_insertionSortOrdered_int : chkF Tryz.prog Tryz.f166 49 C_slices_insertionSortOrdered_int R_slices_insertionSortOrdered_int = true := by kernel_rfl
theorem spec_slices_insertionSortOrdered_int : SpF 49 F_slices_insertionSortOrdered_int C_slices_insertionSortOrdered_int R_slices_insertionSortOrdered_int := fun ha h => Spec.of_fn Tryz.func166 K_slices_insertionSortOrdered_int ha h
theorem B_slices_insertionSortOrdered_int : hasBody Tryz.prog F_slices_insertionSortOrdered_int = true := by kernel_rfl
abbrev F_cmp_Less_int : FuncId := 172
def C_cmp_Less_int : AC :=
 (.seq (.reg [oP 4 (.mv (.c (.bool false)))] [0,1])
 (.seq (.reg [mV 5 0,
oP 6 (.call (.f 207) [false] [(.t 5)]),
mV 7 6,
gT 8 7 (.mv (.t 1)),
gT 9 7 (.call (.f 207) [false] [(.t 8)]),
gT 10 7 (.un .not (.t 9)),
oP 11 (.pick (.t 7) (.t 10) (.c (.bool false))),
mV 12 11,
gF 13 12 (.mv (.t 0)),
gF 14 12 (.mv (.t 1)),
gF 15 12 (.bin .lss (.t 13) (.t 14)),
oP 16 (.pick (.t 12) (.c (.bool true)) (.t 15)),
mV 4 16] [4])
 .ret))
abbrev R_cmp_Less_int : List (Nat × Option (Option Nat)) := [(4, none)]
theorem K_cmp_Less_int : chkF Tryz.prog Tryz.f172 17 C_cmp_Less_int R_cmp_Less_int = true := by kernel_rfl
theorem spec_cmp_Less_int : SpF 17 F_cmp_Less_int C_cmp_Less_int R_cmp_Less_int := fun ha h => Spec.of_fn Tryz.func172 K_cmp_Less_int ha h
theorem B_cmp_Less_int : hasBody Tryz.prog F_cmp_Less_int = true := by kernel_rfl
abbrev F_math_bits_Len64 : FuncId := 176
def C_math_bits_Len64 : AC :=
 (.seq (.reg [oP 2 (.mv (cI 0))] [0,2])
 (.seq (.seq (.reg [mV 3 0,
oP 4 (.bin .geq (.t 3) (.c (.int .u64 4294967296)))] [0,2,4])
 (.cond (.t 4)
 (.seq (.reg [mV 5 0,
oP 6 (.bin .shr (.t 5) (.c (.int .u64 32))),
mV 0 6] [0])
 (.reg [oP 2 (.mv (cI 32))] [0,2]))
 .skip))
 (.seq (.seq (.reg [mV 7 0,
oP 8 (.bin .geq (.t 7) (.c (.int .u64 65536)))] [0,2,8])
 (.cond (.t 8)
 (.seq (.reg [mV 9 0,
oP 10 (.bin .shr (.t 9) (.c (.int .u64 16))),
mV 0 10] [0,2])
 (.reg [mV 11 2,
oP 12 (.bin .add (.t 11) (cI 16)),
mV 2 12] [0,2]))
 .skip))
 (.seq (.seq (.reg [mV 13 0,
oP 14 (.bin .geq (.t 13) (.c (.int .u64 256)))] [0,2,14])
 (.cond (.t 14)
 (.seq (.reg [mV 15 0,
oP 16 (.bin .shr (.t 15) (.c (.int .u64 8))),
mV 0 16] [0,2])
 (.reg [mV 17 2,
oP 18 (.bin .add (.t 17) (cI 8)),
mV 2 18] [0,2]))
 .skip))
 (.seq (.reg [mV 19 2,
mV 20 0,
oP 21 (.conv .u8 (.t 20)),
⟨some 22, none, .ixStr (.c (.str ⟨#[0,1,2,2,3,3,3,3,4,4,4,4,4,4,4,4,5,5,5,5,5,5,5,5,5,5,5,5,5,5,5,5,6,6,6,6,6,6,6,6,6,6,6,6,6,6,6,6,6,6,6,6,6,6,6,6,6,6,6,6,6,6,6,6,7,7,7,7,7,7,7,7,7,7,7,7,7,7,7,7,7,7,7,7,7,7,7,7,7,7,7,7,7,7,7,7,7,7,7,7,7,7,7,7,7,7,7,7,7,7,7,7,7,7,7,7,7,7,7,7,7,7,7,7,7,7,7,7,8,8,8,8,8,8,8,8,8,8,8,8,8,8,8,8,8,8,8,8,8,8,8,8,8,8,8,8,8,8,8,8,8,8,8,8,8,8,8,8,8,8,8,8,8,8,8,8,8,8,8,8,8,8,8,8,8,8,8,8,8,8,8,8,8,8,8,8,8,8,8,8,8,8,8,8,8,8,8,8,8,8,8,8,8,8,8,8,8,8,8,8,8,8,8,8,8,8,8,8,8,8,8,8,8,8,8,8,8,8,8,8,8,8,8,8,8,8,8,8,8,8,8,8,8,8,8,8]⟩)) (.t 21)⟩,
oP 23 (.conv .i64 (.t 22)),
oP 24 (.bin .add (.t 19) (.t 23)),
mV 2 24] [2])
 .ret)))))
abbrev R_math_bits_Len64 : List (Nat × Option (Option Nat)) := [(2, none)]
theorem K_math_bits_Len64 : chkF Tryz.prog Tryz.f176 25 C_math_bits_Len64 R_math_bits_Len64 = true := by kernel_rfl
theorem spec_math_bits_Len64 : SpF 25 F_math_bits_Len64 C_math_bits_Len64 R_math_bits_Len64 := fun ha h => Spec.of_fn Tryz.func176 K_math_bits_Len64 ha h
theorem B_math_bits_Len64 : hasBody Tryz.prog F_math_bits_Len64 = true := by kernel_rfl
abbrev F_hull_ship_find : FuncId := 177
def C_hull_ship_find : AC :=
 (.seq (.reg [oP 3 (.pbox 1 (.t 1)),
oP 4 (.mv (cI 0))] [0,3])
 (.seq (.reg [mV 5 0,
oP 6 (.nilchk (.t 5)),
oP 7 (.fieldAddr (some 1) 0 (.t 6)),
oP 8 (.fieldAddr none 0 (.t 7)),
oP 9 (.load none (.t 8)),
oP 10 (.mkfunc (.func 209) [] [(.t 3)]),
oP 11 (.call (.f 208) [true, false] [(.t 9), (.t 10)]),
mV 4 11] [4])
 .ret))
abbrev R_hull_ship_find : List (Nat × Option (Option Nat)) := [(4, none)]
theorem K_hull_ship_find : chkF Tryz.prog Tryz.f177 12 C_hull_ship_find R_hull_ship_find = true := by kernel_rfl
theorem spec_hull_ship_find : SpF 12 F_hull_ship_find C_hull_ship_find R_hull_ship_find := fun ha h => Spec.of_fn Tryz.func177 K_hull_ship_find ha h
theorem B_hull_ship_find : hasBody Tryz.prog F_hull_ship_find = true := by kernel_rfl
abbrev F_slices_ContainsFunc_api_HuPart_api_HuPart : FuncId := 178
def C_slices_ContainsFunc_api_HuPart_api_HuPart : AC :=
 (.seq (.reg [oP 4 (.mv (.c (.bool false)))] [0,1])
 (.seq (.reg [mV 5 0,
mV 6 1,
oP 7 (.call (.f 208) [true, false] [(.t 5), (.t 6)]),
oP 8 (.bin .geq (.t 7) (cI 0)),
mV 4 8] [4])
 .ret))
abbrev R_slices_ContainsFunc_api_HuPart_api_HuPart : List (Nat × Option (Option Nat)) := [(4, none)]
theorem K_slices_ContainsFunc_api_HuPart_api_HuPart : chkF Tryz.prog Tryz.f178 9 C_slices_ContainsFunc_api_HuPart_api_HuPart R_slices_ContainsFunc_api_HuPart_api_HuPart = true := by kernel_rfl
theorem spec_slices_ContainsFunc_api_HuPart_api_HuPart : SpF 9 F_slices_ContainsFunc_api_HuPart_api_HuPart C_slices_ContainsFunc_api_HuPart_api_HuPart R_slices_ContainsFunc_api_HuPart_api_HuPart := fun ha h => Spec.of_fn Tryz.func178 K_slices_ContainsFunc_api_HuPart_api_HuPart ha h
theorem B_slices_ContainsFunc_api_HuPart_api_HuPart : hasBody Tryz.prog F_slices_ContainsFunc_api_HuPart_api_HuPart = true := by kernel_rfl
abbrev F_hull_ship_check_1 : FuncId := 179
abbrev F_slices_ContainsFunc_string_string : FuncId := 180
def C_slices_ContainsFunc_string_string : AC :=
 (.seq (.reg [oP 4 (.mv (.c (.bool false)))] [0,1])
 (.seq (.reg [mV 5 0,
mV 6 1,
oP 7 (.call (.f 210) [true, false] [(.t 5), (.t 6)]),
oP 8 (.bin .geq (.t 7) (cI 0)),
mV 4 8] [4])
 .ret))
abbrev R_slices_ContainsFunc_string_string : List (Nat × Option (Option Nat)) := [(4, none)]
theorem K_slices_ContainsFunc_string_string : chkF Tryz.prog Tryz.f180 9 C_slices_ContainsFunc_string_string R_slices_ContainsFunc_string_string = true := by kernel_rfl
theorem spec_slices_ContainsFunc_string_string : SpF 9 F_slices_ContainsFunc_string_string C_slices_ContainsFunc_string_string R_slices_ContainsFunc_string_string := fun ha h => Spec.of_fn Tryz.func180 K_slices_ContainsFunc_string_string ha h
theorem B_slices_ContainsFunc_string_string : hasBody Tryz.prog F_slices_ContainsFunc_string_string = true := by kernel_rfl
abbrev F_hull_ship_check_2 : FuncId := 181
def C_hull_ship_check_2 : AC :=
 (.seq (.reg [oP 3 (.mv (.c (.bool false)))] [0,1])
 (.seq (.reg [mV 4 0,
oP 5 (.call (.f 177) [true, false] [(.t 1), (.t 4)]),
oP 6 (.bin .lss (.t 5) (cI 0)),
mV 3 6] [3])
 .ret))
abbrev R_hull_ship_check_2 : List (Nat × Option (Option Nat)) := [(3, none)]
theorem K_hull_ship_check_2 : chkF Tryz.prog Tryz.f181 7 C_hull_ship_check_2 R_hull_ship_check_2 = true := by kernel_rfl
theorem spec_hull_ship_check_2 : SpF 7 F_hull_ship_check_2 C_hull_ship_check_2 R_hull_ship_check_2 := fun ha h => Spec.of_fn Tryz.func181 K_hull_ship_check_2 ha h
theorem B_hull_ship_check_2 : hasBody Tryz.prog F_hull_ship_check_2 = true := by kernel_rfl
abbrev F_hull_repeated_string : FuncId := 182
def C_hull_repeated_string : AC :=
 (.seq (.reg [oP 2 (.mv (.c (.bool false)))] [0])
 (.seq (.seq (.reg [mV 5 0,
oP 6 (.len (.t 5)),
oP 7 (.mv (cI 0))] [0,5,6,7])
 (.block 0
 (.loop [0,5,6,7]
 (.seq (.reg [oP 8 (.bin .lss (.t 7) (.t 6))] [0,5,6,7,8])
 (.seq (.cond (.t 8)
 .skip
 (.exit 0))
 (.seq (.block 1
 (.seq (.reg [mV 9 7,
oP 10 (.ixS 1 (.t 5) (.t 7)),
oP 11 (.load none (.t 10)),
mV 3 9,
mV 4 11] [0,3,4,5,6,7])
 (.seq (.reg [mV 12 0,
mV 13 3,
oP 14 (.subq 1 (.t 12) none (some (.t 13))),
mV 15 4,
oP 16 (.call (.f 122) [true, false] [(.t 14), (.t 15)])] [0,5,6,7,16])
 (.cond (.t 16)
 (.seq (.reg [oP 2 (.mv (.c (.bool true)))] [2])
 .ret)
 .skip))))
 (.reg [oP 17 (.bin .add (.t 7) (cI 1)),
mV 7 17] [0,5,6,7])))))))
 (.seq (.reg [oP 2 (.mv (.c (.bool false)))] [2])
 .ret)))
abbrev R_hull_repeated_string : List (Nat × Option (Option Nat)) := [(2, none)]
theorem K_hull_repeated_string : chkF Tryz.prog Tryz.f182 18 C_hull_repeated_string R_hull_repeated_string = true := by kernel_rfl
theorem spec_hull_repeated_string : SpF 18 F_hull_repeated_string C_hull_repeated_string R_hull_repeated_string := fun ha h => Spec.of_fn Tryz.func182 K_hull_repeated_string ha h
theorem B_hull_repeated_string : hasBody Tryz.prog F_hull_repeated_string = true := by kernel_rfl
abbrev F_hull_ship_check_3 : FuncId := 183
def C_hull_ship_check_3 : AC :=
 (.seq (.reg [oP 4 (.mv (.c (.bool false)))] [0,1,2])
 (.seq (.qreg [oP 5 (.load (some 7) (.t 1)),
oP 6 (.fieldAddr (some 1) 0 (.t 2)),
oP 7 (.fieldAddr none 0 (.t 6)),
oP 8 (.load none (.t 7)),
mV 9 0,
oP 10 (.call (.f 177) [true, false] [(.t 2), (.t 9)]),
oP 11 (.ixS 7 (.t 8) (.t 10)),
oP 12 (.load (some 7) (.t 11)),
oP 13 (.call (.f 184) [true, true] [(.t 5), (.t 12)]),
oP 14 (.un .not (.t 13)),
mV 4 14] [4] [[], [], [1], [1,2], [], [4], [1,2,3,4,5], [1,2,3,4,5,6], [0,1,2,3,4,5,6,7], [0,1,2,3,4,5,6,7,8], [0,1,2,3,4,5,6,7,8,9]] [([0,1,2,3,4], 5), ([6,7], 8)] [9,10])
 .ret))
abbrev R_hull_ship_check_3 : List (Nat × Option (Option Nat)) := [(4, none)]
theorem K_hull_ship_check_3 : chkF Tryz.prog Tryz.f183 15 C_hull_ship_check_3 R_hull_ship_check_3 = true := by kernel_rfl
theorem spec_hull_ship_check_3 : SpF 15 F_hull_ship_check_3 C_hull_ship_check_3 R_hull_ship_check_3 := fun ha h => Spec.of_fn Tryz.func183 K_hull_ship_check_3 ha h
theorem B_hull_ship_check_3 : hasBody Tryz.prog F_hull_ship_check_3 = true := by kernel_rfl
abbrev F_hull_meet : FuncId := 184
def C_hull_meet : AC :=
 (.seq (.reg [oP 2 (.pbox 7 (.t 0)),
oP 3 (.pbox 7 (.t 1)),
oP 4 (.mv (.c (.bool false)))] [2,3])
 (.seq (.reg [oP 5 (.fieldAddr none 2 (.t 2)),
oP 6 (.load none (.t 5)),
oP 7 (.fieldAddr none 3 (.t 3)),
oP 8 (.load none (.t 7)),
oP 9 (.bin .leq (.t 6) (.t 8)),
mV 10 9,
gT 11 10 (.fieldAddr none 2 (.t 3)),
gT 12 10 (.load none (.t 11)),
gT 13 10 (.fieldAddr none 3 (.t 2)),
gT 14 10 (.load none (.t 13)),
gT 15 10 (.bin .leq (.t 12) (.t 14)),
oP 16 (.pick (.t 10) (.t 15) (.c (.bool false))),
mV 4 16] [4])
 .ret))
abbrev R_hull_meet : List (Nat × Option (Option Nat)) := [(4, none)]
theorem K_hull_meet : chkF Tryz.prog Tryz.f184 17 C_hull_meet R_hull_meet = true := by kernel_rfl
theorem spec_hull_meet : SpF 17 F_hull_meet C_hull_meet R_hull_meet := fun ha h => Spec.of_fn Tryz.func184 K_hull_meet ha h
theorem B_hull_meet : hasBody Tryz.prog F_hull_meet = true := by kernel_rfl
abbrev F_hull_beyond_1 : FuncId := 192
def C_hull_beyond_1 : AC :=
 (.seq (.reg [oP 4 (.mv (.c (.bool false)))] [0,1,2])
 (.seq (.reg [mV 5 0,
oP 6 (.load none (.t 1)),
oP 7 (.bin .lss (.t 5) (.t 6)),
mV 8 7,
gF 9 8 (.mv (.t 0)),
gF 10 8 (.load none (.t 2)),
gF 11 8 (.bin .gtr (.t 9) (.t 10)),
oP 12 (.pick (.t 8) (.c (.bool true)) (.t 11)),
mV 4 12] [4])
 .ret))
abbrev R_hull_beyond_1 : List (Nat × Option (Option Nat)) := [(4, none)]
theorem K_hull_beyond_1 : chkF Tryz.prog Tryz.f192 13 C_hull_beyond_1 R_hull_beyond_1 = true := by kernel_rfl
theorem spec_hull_beyond_1 : SpF 13 F_hull_beyond_1 C_hull_beyond_1 R_hull_beyond_1 := fun ha h => Spec.of_fn Tryz.func192 K_hull_beyond_1 ha h
theorem B_hull_beyond_1 : hasBody Tryz.prog F_hull_beyond_1 = true := by kernel_rfl
abbrev F_stand_body_bends_1 : FuncId := 193
def C_stand_body_bends_1 : AC :=
 (.seq (.reg [oP 10 (.fieldAddr none 1 (.t 1)),
oP 11 (.load none (.t 10)),
oP 12 (.lit 2 1 1 [(0, (.t 11))]),
mV 4 12] [0,1,2,4])
 (.seq (.seq (.reg [oP 13 (.fieldAddr (some 3) 0 (.t 2)),
oP 14 (.fieldAddr none 0 (.t 13)),
oP 15 (.load none (.t 14)),
oP 16 (.len (.t 15)),
oP 17 (.mv (cI 0))] [0,1,4,15,16,17])
 (.block 0
 (.loop [0,1,4,15,16,17]
 (.seq (.reg [oP 18 (.bin .lss (.t 17) (.t 16))] [0,1,4,15,16,17,18])
 (.seq (.cond (.t 18)
 .skip
 (.exit 0))
 (.seq (.block 1
 (.seq (.reg [oP 19 (.ixS 7 (.t 15) (.t 17)),
oP 20 (.load (some 7) (.t 19)),
oP 6 (.alloc [.str ByteArray.empty, .int .i64 0, .int .i64 0, .int .i64 0, .int .i64 0, .int .i64 0, .int .i64 0]),
oN (.store 7 (.t 6) (.t 20))] [0,1,4,6,15,16,17])
 (.frz 6 true (.seq (.reg [oP 21 (.fieldAddr none 0 (.t 1)),
oP 22 (.load none (.t 21)),
oP 23 (.fieldAddr none 4 (.t 6)),
oP 24 (.load none (.t 23)),
oP 25 (.bin .lss (.t 22) (.t 24)),
mV 26 25,
gT 27 26 (.fieldAddr none 4 (.t 6)),
gT 28 26 (.load none (.t 27)),
gT 29 26 (.fieldAddr none 1 (.t 1)),
gT 30 26 (.load none (.t 29)),
gT 31 26 (.bin .lss (.t 28) (.t 30)),
oP 32 (.pick (.t 26) (.t 31) (.c (.bool false)))] [0,1,4,6,15,16,17,32])
 (.cond (.t 32)
 (.reg [mV 33 4,
oP 34 (.fieldAddr none 4 (.t 6)),
oP 35 (.load none (.t 34)),
oP 36 (.lit 0 1 1 [(0, (.t 35))]),
oP 37 (.append 1 8 (.t 33) (.t 36)),
mV 4 37] [0,1,4,15,16,17])
 .skip)))))
 (.reg [oP 38 (.bin .add (.t 17) (cI 1)),
mV 17 38] [0,1,4,15,16,17])))))))
 (.seq (.reg [mV 39 4,
oP 40 (.call (.f 75) [true] [(.t 39)])] [0,1,4])
 (.seq (.reg [oP 41 (.fieldAddr none 0 (.t 1)),
oP 42 (.load none (.t 41)),
mV 7 42] [0,4,7])
 (.seq (.reg [mV 43 4,
oP 44 (.call (.f 194) [true] [(.t 43)]),
oP 45 (.len (.t 44)),
oP 46 (.mv (cI 0))] [0,7,44,45,46])
 (.block 2
 (.loop [0,7,44,45,46]
 (.seq (.reg [oP 47 (.bin .lss (.t 46) (.t 45))] [0,7,44,45,46,47])
 (.seq (.cond (.t 47)
 .skip
 (.exit 2))
 (.seq (.block 3
 (.seq (.reg [oP 48 (.ixS 1 (.t 44) (.t 46)),
oP 49 (.load none (.t 48)),
mV 9 49] [0,7,9,44,45,46])
 (.seq (.seq (.reg [mV 50 0,
mV 51 7,
mV 52 9,
oP 53 (.build [.int .i64 0, .int .i64 0] [(0,1, (.t 51)), (1,1, (.t 52))]),
oP 54 (.call (.t 50) [false] [(.t 53)]),
oP 55 (.un .not (.t 54))] [0,9,44,45,46,55])
 (.cond (.t 55)
 .ret
 .skip))
 (.reg [mV 56 9,
mV 7 56] [0,7,44,45,46]))))
 (.reg [oP 57 (.bin .add (.t 46) (cI 1)),
mV 46 57] [0,7,44,45,46])))))))))))
abbrev R_stand_body_bends_1 : List (Nat × Option (Option Nat)) := []
theorem K_stand_body_bends_1 : chkF Tryz.prog Tryz.f193 58 C_stand_body_bends_1 R_stand_body_bends_1 = true := by kernel_rfl
theorem spec_stand_body_bends_1 : SpF 58 F_stand_body_bends_1 C_stand_body_bends_1 R_stand_body_bends_1 := fun ha h => Spec.of_fn Tryz.func193 K_stand_body_bends_1 ha h
theorem B_stand_body_bends_1 : hasBody Tryz.prog F_stand_body_bends_1 = true := by kernel_rfl
abbrev F_slices_Compact_int_int : FuncId := 194
def C_slices_Compact_int_int : AC :=
 (.seq (.reg [oP 2 (.mv (.c (.slice 1 [])))] [0])
 (.seq (.seq (.reg [mV 6 0,
oP 7 (.len (.t 6)),
oP 8 (.bin .lss (.t 7) (cI 2))] [0,8])
 (.cond (.t 8)
 (.seq (.reg [mV 9 0,
oP 2 (.mvd (.t 9))] [2])
 .ret)
 .skip))
 (.seq (.seq (.reg [oP 3 (.mv (cI 1))] [0,3])
 (.block 0
 (.loop [0,3]
 (.seq (.seq (.reg [mV 10 3,
mV 11 0,
oP 12 (.len (.t 11)),
oP 13 (.bin .lss (.t 10) (.t 12))] [0,3,13])
 (.cond (.t 13)
 .skip
 (.exit 0)))
 (.seq (.block 1
 (.seq (.dreg [mV 16 0,
mV 17 3,
oP 18 (.ixS 1 (.t 16) (.t 17)),
oP 19 (.load none (.t 18)),
mV 20 0,
mV 21 3,
oP 22 (.bin .sub (.t 21) (cI 1)),
oP 23 (.ixS 1 (.t 20) (.t 22)),
oP 24 (.load none (.t 23)),
oP 25 (.bin .eql (.t 19) (.t 24))] [0,3,25] [[], [], [0,1], [0,1,2], [], [], [5], [4,5,6], [4,5,6,7], [0,1,2,3,4,5,6,7,8]])
 (.cond (.t 25)
 (.seq (.reg [mV 26 0,
mV 27 3,
oP 28 (.sub 0 1 (.t 26) (some (.t 27)) none none),
mV 4 28] [0,3,4])
 (.seq (.seq (.reg [oP 5 (.mv (cI 1))] [0,3,4,5])
 (.block 2
 (.loop [0,3,4,5]
 (.seq (.seq (.reg [mV 29 5,
mV 30 4,
oP 31 (.len (.t 30)),
oP 32 (.bin .lss (.t 29) (.t 31))] [0,3,4,5,32])
 (.cond (.t 32)
 .skip
 (.exit 2)))
 (.seq (.block 3
 (.seq (.dreg [mV 35 4,
mV 36 5,
oP 37 (.ixS 1 (.t 35) (.t 36)),
oP 38 (.load none (.t 37)),
mV 39 4,
mV 40 5,
oP 41 (.bin .sub (.t 40) (cI 1)),
oP 42 (.ixS 1 (.t 39) (.t 41)),
oP 43 (.load none (.t 42)),
oP 44 (.bin .neq (.t 38) (.t 43))] [0,3,4,5,44] [[], [], [0,1], [0,1,2], [], [], [5], [4,5,6], [4,5,6,7], [0,1,2,3,4,5,6,7,8]])
 (.cond (.t 44)
 (.seq (.reg [mV 45 0,
mV 46 3,
mV 47 4,
mV 48 5,
oP 49 (.ixS 1 (.t 47) (.t 48)),
oP 50 (.load none (.t 49)),
oP 51 (.ixS 1 (.t 45) (.t 46)),
oN (.store 1 (.t 51) (.t 50))] [0,3,4,5])
 (.reg [mV 52 3,
oP 53 (.bin .add (.t 52) (cI 1)),
mV 3 53] [0,3,4,5]))
 .skip)))
 (.reg [mV 33 5,
oP 34 (.bin .add (.t 33) (cI 1)),
mV 5 34] [0,3,4,5]))))))
 (.seq (.reg [mV 54 0,
mV 55 3,
oP 56 (.sub 0 1 (.t 54) (some (.t 55)) none none),
oN (.clear 1 (.int .i64 0) (.t 56))] [0,3])
 (.seq (.reg [mV 57 0,
mV 58 3,
oP 59 (.sub 0 1 (.t 57) none (some (.t 58)) none),
oP 2 (.mvd (.t 59))] [2])
 .ret))))
 .skip)))
 (.reg [mV 14 3,
oP 15 (.bin .add (.t 14) (cI 1)),
mV 3 15] [0,3]))))))
 (.seq (.reg [mV 60 0,
oP 2 (.mvd (.t 60))] [2])
 .ret))))
abbrev R_slices_Compact_int_int : List (Nat × Option (Option Nat)) := [(2, none)]
theorem K_slices_Compact_int_int : chkF Tryz.prog Tryz.f194 61 C_slices_Compact_int_int R_slices_Compact_int_int = true := by kernel_rfl
theorem spec_slices_Compact_int_int : SpF 61 F_slices_Compact_int_int C_slices_Compact_int_int R_slices_Compact_int_int := fun ha h => Spec.of_fn Tryz.func194 K_slices_Compact_int_int ha h
theorem B_slices_Compact_int_int : hasBody Tryz.prog F_slices_Compact_int_int = true := by kernel_rfl
abbrev F_stand_body_levers : FuncId := 195
def C_stand_body_levers : AC :=
 (.seq (.reg [oP 1 (.pbox 3 (.t 0)),
oP 2 (.alloc [.nilfunc, .nilfunc, .nilfunc, .nilfunc, .nilfunc, .nilfunc, .nilfunc, .nilfunc, .nilfunc])] [1,2])
 (.seq (.reg [oP 7 (.mkfunc (.func 217) [] [(.t 1)]),
oP 8 (.mkfunc (.func 218) [] [(.t 1)]),
oP 9 (.build [.nilfunc, .nilfunc, .nilfunc] [(0,1, (.f 216)), (1,1, (.t 7)), (2,1, (.t 8))]),
oP 3 (.alloc [.nilfunc, .nilfunc, .nilfunc]),
oN (.store 3 (.t 3) (.t 9))] [2,3])
 (.frz 3 true (.seq (.reg [oP 4 (.alloc [.nilfunc, .nilfunc, .nilfunc, .nilfunc, .nilfunc, .nilfunc, .nilfunc, .nilfunc, .nilfunc])] [2,3,4])
 (.seq (.seq (.reg [oP 10 (.load (some 3) (.t 3)),
oP 11 (.mv (cI 0))] [2,4,10,11])
 (.block 0
 (.loop [2,4,10,11]
 (.seq (.reg [oP 12 (.bin .lss (.t 11) (cI 3))] [2,4,10,11,12])
 (.seq (.cond (.t 12)
 .skip
 (.exit 0))
 (.seq (.block 1
 (.seq (.reg [mV 13 11,
oP 14 (.ixV 3 1 none (.t 10) (.t 11)),
mV 5 13,
mV 6 14] [2,4,5,6,10,11])
 (.reg [mV 15 5,
mV 16 6,
oP 17 (.build [.nilfunc, .nilfunc, .nilfunc] [(0,1, (.t 16)), (1,1, (.f 219)), (2,1, (.f 220))]),
oP 18 (.ixA 3 3 (some 3) (.t 4) (.t 15)),
oN (.store 3 (.t 18) (.t 17))] [2,4,10,11])))
 (.reg [oP 19 (.bin .add (.t 11) (cI 1)),
mV 11 19] [2,4,10,11])))))))
 (.seq (.reg [oP 20 (.load (some 9) (.t 4)),
oN (.store 9 (.t 2) (.t 20))] [2])
 .ret))))))
abbrev R_stand_body_levers : List (Nat × Option (Option Nat)) := [(2, some (some 9))]
theorem K_stand_body_levers : chkF Tryz.prog Tryz.f195 21 C_stand_body_levers R_stand_body_levers = true := by kernel_rfl
theorem spec_stand_body_levers : SpF 21 F_stand_body_levers C_stand_body_levers R_stand_body_levers := fun ha h => Spec.of_fn Tryz.func195 K_stand_body_levers ha h
theorem B_stand_body_levers : hasBody Tryz.prog F_stand_body_levers = true := by kernel_rfl
abbrev F_slices_ContainsFunc_api_VnTank_api_VnTank : FuncId := 196
def C_slices_ContainsFunc_api_VnTank_api_VnTank : AC :=
 (.seq (.reg [oP 4 (.mv (.c (.bool false)))] [0,1])
 (.seq (.reg [mV 5 0,
mV 6 1,
oP 7 (.call (.f 221) [true, false] [(.t 5), (.t 6)]),
oP 8 (.bin .geq (.t 7) (cI 0)),
mV 4 8] [4])
 .ret))
abbrev R_slices_ContainsFunc_api_VnTank_api_VnTank : List (Nat × Option (Option Nat)) := [(4, none)]
theorem K_slices_ContainsFunc_api_VnTank_api_VnTank : chkF Tryz.prog Tryz.f196 9 C_slices_ContainsFunc_api_VnTank_api_VnTank R_slices_ContainsFunc_api_VnTank_api_VnTank = true := by kernel_rfl
theorem spec_slices_ContainsFunc_api_VnTank_api_VnTank : SpF 9 F_slices_ContainsFunc_api_VnTank_api_VnTank C_slices_ContainsFunc_api_VnTank_api_VnTank R_slices_ContainsFunc_api_VnTank_api_VnTank := fun ha h => Spec.of_fn Tryz.func196 K_slices_ContainsFunc_api_VnTank_api_VnTank ha h
theorem B_slices_ContainsFunc_api_VnTank_api_VnTank : hasBody Tryz.prog F_slices_ContainsFunc_api_VnTank_api_VnTank = true := by kernel_rfl
abbrev F_vent_Check_1 : FuncId := 197
def C_vent_Check_1 : AC :=
 (.seq (.reg [oP 2 (.pbox 2 (.t 0)),
oP 3 (.mv (.c (.bool false)))] [1,2])
 (.seq (.reg [oP 4 (.fieldAddr none 0 (.t 2)),
oP 5 (.load none (.t 4)),
oP 6 (.fieldAddr none 0 (.t 1)),
oP 7 (.load none (.t 6)),
oP 8 (.bin .eql (.t 5) (.t 7)),
mV 3 8] [3])
 .ret))
abbrev R_vent_Check_1 : List (Nat × Option (Option Nat)) := [(3, none)]
theorem K_vent_Check_1 : chkF Tryz.prog Tryz.f197 9 C_vent_Check_1 R_vent_Check_1 = true := by kernel_rfl
theorem spec_vent_Check_1 : SpF 9 F_vent_Check_1 C_vent_Check_1 R_vent_Check_1 := fun ha h => Spec.of_fn Tryz.func197 K_vent_Check_1 ha h
theorem B_vent_Check_1 : hasBody Tryz.prog F_vent_Check_1 = true := by kernel_rfl
abbrev F_r01_Spread : FuncId := 198
def C_r01_Spread : AC :=
 (.seq (.reg [oP 6 (.mv (cI 0))] [0,1,2])
 (.seq (.reg [oP 7 (.mv (.c (.bool false)))] [0,1,2,7])
 (.seq (.seq (.reg [oP 8 (.mv (cI 0))] [0,1,2,7,8])
 (.block 0
 (.loop [0,1,2,7,8]
 (.seq (.seq (.reg [mV 9 8,
mV 10 0,
oP 11 (.len (.t 10)),
oP 12 (.bin .lss (.t 9) (.t 11))] [0,1,2,7,8,12])
 (.cond (.t 12)
 .skip
 (.exit 0)))
 (.seq (.block 1
 (.seq (.seq (.reg [mV 15 0,
mV 16 8,
oP 17 (.ixS 2 (.t 15) (.t 16)),
oP 18 (.fieldAddr none 0 (.t 17)),
oP 19 (.load none (.t 18)),
mV 20 1,
mV 21 2,
oP 22 (.call (.f 103) [false, false, false] [(.t 19), (.t 20), (.t 21)]),
oP 23 (.un .not (.t 22)),
mV 24 23,
gF 25 24 (.mv (.t 0)),
gF 26 24 (.mv (.t 8)),
gF 27 24 (.ixS 2 (.t 25) (.t 26)),
gF 28 24 (.fieldAddr none 1 (.t 27)),
gF 29 24 (.load none (.t 28)),
gF 30 24 (.mv (.t 1)),
gF 31 24 (.mv (.t 2)),
gF 32 24 (.call (.f 103) [false, false, false] [(.t 29), (.t 30), (.t 31)]),
gF 33 24 (.un .not (.t 32)),
oP 34 (.pick (.t 24) (.c (.bool true)) (.t 33))] [0,1,2,7,8,34])
 (.cond (.t 34)
 (.seq (.reg [oP 6 (.mv (cI 7))] [6])
 .ret)
 .skip))
 (.dreg [mV 35 7,
mV 36 35,
gF 37 36 (.mv (.t 0)),
gF 38 36 (.mv (.t 8)),
gF 39 36 (.ixS 2 (.t 37) (.t 38)),
gF 40 36 (.fieldAddr none 0 (.t 39)),
gF 41 36 (.load none (.t 40)),
gF 42 36 (.mv (.t 0)),
gF 43 36 (.mv (.t 8)),
gF 44 36 (.ixS 2 (.t 42) (.t 43)),
gF 45 36 (.fieldAddr none 1 (.t 44)),
gF 46 36 (.load none (.t 45)),
gF 47 36 (.bin .gtr (.t 41) (.t 46)),
oP 48 (.pick (.t 36) (.c (.bool true)) (.t 47)),
mV 7 48] [0,1,2,7,8] [[], [0], [0,1], [0,1], [0,1,2,3], [0,1,2,3,4], [0,1,2,3,4,5], [0,1], [0,1], [0,1,7,8], [0,1,7,8,9], [0,1,7,8,9,10], [0,1,2,3,4,5,6,7,8,9,10,11], [0,1,2,3,4,5,6,7,8,9,10,11,12], [0,1,2,3,4,5,6,7,8,9,10,11,12,13]])))
 (.reg [mV 13 8,
oP 14 (.bin .add (.t 13) (cI 1)),
mV 8 14] [0,1,2,7,8]))))))
 (.seq (.seq (.reg [mV 49 7] [49])
 (.cond (.t 49)
 (.seq (.reg [oP 6 (.mv (cI 2))] [6])
 .ret)
 .skip))
 (.seq (.reg [oP 6 (.mv (cI 0))] [6])
 .ret)))))
abbrev R_r01_Spread : List (Nat × Option (Option Nat)) := [(6, none)]
theorem K_r01_Spread : chkF Tryz.prog Tryz.f198 50 C_r01_Spread R_r01_Spread = true := by kernel_rfl
theorem spec_r01_Spread : SpF 50 F_r01_Spread C_r01_Spread R_r01_Spread := fun ha h => Spec.of_fn Tryz.func198 K_r01_Spread ha h
theorem B_r01_Spread : hasBody Tryz.prog F_r01_Spread = true := by kernel_rfl
abbrev F_r05_Shown : FuncId := 199
def C_r05_Shown : AC :=
 (.seq (.reg [oP 2 (.pbox 3 (.t 0)),
oP 4 (.alloc [.slice 1 [], .slice 1 []])] [1,2,4])
 (.seq (.reg [oP 5 (.alloc [.mint 1, .mint 1])] [1,2,4,5])
 (.seq (.seq (.reg [oP 6 (.mv (cI 0))] [1,2,4,5,6])
 (.block 0
 (.loop [1,2,4,5,6]
 (.seq (.seq (.reg [mV 9 6,
oP 10 (.fieldAddr none 0 (.t 2)),
oP 11 (.load none (.t 10)),
oP 12 (.len (.t 11)),
oP 13 (.bin .lss (.t 9) (.t 12))] [1,2,4,5,6,13])
 (.cond (.t 13)
 .skip
 (.exit 0)))
 (.seq (.block 1
 (.seq (.reg [oP 16 (.fieldAddr none 0 (.t 2)),
oP 17 (.load none (.t 16)),
mV 18 6,
oP 19 (.ixS 7 (.t 17) (.t 18)),
oP 20 (.load (some 7) (.t 19)),
oP 7 (.alloc [.str ByteArray.empty, .int .i64 0, .int .i64 0, .int .i64 0, .int .i64 0, .int .i64 0, .int .i64 0]),
oN (.store 7 (.t 7) (.t 20))] [1,2,4,5,6,7])
 (.frz 7 true (.seq (.reg [mV 21 1,
oP 22 (.bin .eql (.t 21) (cI 0)),
mV 23 22,
gF 24 23 (.mv (.t 1)),
gF 25 23 (.bin .eql (.t 24) (cI 1)),
oP 26 (.pick (.t 23) (.c (.bool true)) (.t 25)),
mV 27 26,
gF 28 27 (.mv (.t 1)),
gF 29 27 (.bin .eql (.t 28) (cI 2)),
gF 30 27 (.mv (.t 29)),
gT 31 30 (.fieldAddr none 1 (.t 7)),
gT 32 30 (.load none (.t 31)),
gT 33 30 (.fieldAddr none 1 (.t 2)),
gT 34 30 (.load none (.t 33)),
gT 35 30 (.bin .geq (.t 32) (.t 34)),
gF 36 27 (.pick (.t 30) (.t 35) (.c (.bool false))),
oP 37 (.pick (.t 27) (.c (.bool true)) (.t 36)),
mV 38 37,
gF 39 38 (.mv (.t 1)),
gF 40 38 (.bin .eql (.t 39) (cI 3)),
gF 41 38 (.mv (.t 40)),
gT 42 41 (.fieldAddr none 1 (.t 7)),
gT 43 41 (.load none (.t 42)),
gT 44 41 (.fieldAddr none 2 (.t 2)),
gT 45 41 (.load none (.t 44)),
gT 46 41 (.bin .leq (.t 43) (.t 45)),
gF 47 38 (.pick (.t 41) (.t 46) (.c (.bool false))),
oP 48 (.pick (.t 38) (.c (.bool true)) (.t 47)),
mV 8 48] [1,2,4,5,6,7,8])
 (.seq (.reg [mV 49 8] [1,2,4,5,6,7,49])
 (.cond (.t 49)
 (.dreg [oP 50 (.fieldAddr none 0 (.t 5)),
oP 51 (.load none (.t 50)),
oP 52 (.fieldAddr (some 2) 2 (.t 7)),
oP 53 (.fieldAddr none 0 (.t 52)),
oP 54 (.load none (.t 53)),
oP 55 (.lit 0 1 1 [(0, (.t 54))]),
oP 56 (.append 1 8 (.t 51) (.t 55)),
oP 57 (.fieldAddr none 1 (.t 5)),
oP 58 (.load none (.t 57)),
oP 59 (.fieldAddr (some 2) 5 (.t 7)),
oP 60 (.fieldAddr none 1 (.t 59)),
oP 61 (.load none (.t 60)),
oP 62 (.lit 0 1 1 [(0, (.t 61))]),
oP 63 (.append 1 8 (.t 58) (.t 62)),
oP 64 (.fieldAddr none 0 (.t 5)),
oN (.store 1 (.t 64) (.t 56)),
oP 65 (.fieldAddr none 1 (.t 5)),
oN (.store 1 (.t 65) (.t 63))] [1,2,4,5,6] [[], [0], [], [2], [2,3], [2,3,4], [0,1,2,3,4,5], [], [7], [], [9], [9,10], [9,10,11], [0,1,2,3,4,5,6,7,8,9,10,11,12], [0,1,2,3,4,5,6,7,8], [0,1,2,3,4,5,6,7,8,9,10,11,12,13,14], [0,1,2,3,4,5,6,7,8,9,10,11,12,13,14,15], [0,1,2,3,4,5,6,7,8,9,10,11,12,13,14,15,16]])
 (.dreg [oP 66 (.fieldAddr none 0 (.t 5)),
oP 67 (.load none (.t 66)),
oP 68 (.fieldAddr (some 2) 2 (.t 7)),
oP 69 (.fieldAddr none 1 (.t 68)),
oP 70 (.load none (.t 69)),
oP 71 (.lit 0 1 1 [(0, (.t 70))]),
oP 72 (.append 1 8 (.t 67) (.t 71)),
oP 73 (.fieldAddr none 1 (.t 5)),
oP 74 (.load none (.t 73)),
oP 75 (.fieldAddr (some 2) 5 (.t 7)),
oP 76 (.fieldAddr none 0 (.t 75)),
oP 77 (.load none (.t 76)),
oP 78 (.lit 0 1 1 [(0, (.t 77))]),
oP 79 (.append 1 8 (.t 74) (.t 78)),
oP 80 (.fieldAddr none 0 (.t 5)),
oN (.store 1 (.t 80) (.t 72)),
oP 81 (.fieldAddr none 1 (.t 5)),
oN (.store 1 (.t 81) (.t 79))] [1,2,4,5,6] [[], [0], [], [2], [2,3], [2,3,4], [0,1,2,3,4,5], [], [7], [], [9], [9,10], [9,10,11], [0,1,2,3,4,5,6,7,8,9,10,11,12], [0,1,2,3,4,5,6,7,8], [0,1,2,3,4,5,6,7,8,9,10,11,12,13,14], [0,1,2,3,4,5,6,7,8,9,10,11,12,13,14,15], [0,1,2,3,4,5,6,7,8,9,10,11,12,13,14,15,16]])))))))
 (.reg [mV 14 6,
oP 15 (.bin .add (.t 14) (cI 1)),
mV 6 15] [1,2,4,5,6]))))))
 (.seq (.reg [oP 82 (.loadd (some 2) (.t 5)),
oN (.store 2 (.t 4) (.t 82))] [4])
 .ret))))
abbrev R_r05_Shown : List (Nat × Option (Option Nat)) := [(4, some (some 2))]
theorem K_r05_Shown : chkF Tryz.prog Tryz.f199 83 C_r05_Shown R_r05_Shown = true := by kernel_rfl
theorem spec_r05_Shown : SpF 83 F_r05_Shown C_r05_Shown R_r05_Shown := fun ha h => Spec.of_fn Tryz.func199 K_r05_Shown ha h
theorem B_r05_Shown : hasBody Tryz.prog F_r05_Shown = true := by kernel_rfl
abbrev F_math_bits_TrailingZeros64 : FuncId := 201
def C_math_bits_TrailingZeros64 : AC :=
 (.seq (.reg [oP 2 (.mv (cI 0))] [0])
 (.seq (.seq (.reg [mV 3 0,
oP 4 (.bin .eql (.t 3) (.c (.int .u64 0)))] [0,4])
 (.cond (.t 4)
 (.seq (.reg [oP 2 (.mv (cI 64))] [2])
 .ret)
 .skip))
 (.seq (.reg [mV 5 0,
mV 6 0,
oP 7 (.un .neg (.t 6)),
oP 8 (.bin .and (.t 5) (.t 7)),
oP 9 (.bin .mul (.t 8) (.c (.int .u64 285870213051353865))),
oP 10 (.bin .shr (.t 9) (.c (.int .u64 58))),
oP 11 (.gix 1 (.t 10)),
oP 12 (.load none (.t 11)),
oP 13 (.conv .i64 (.t 12)),
mV 2 13] [2])
 .ret)))
abbrev R_math_bits_TrailingZeros64 : List (Nat × Option (Option Nat)) := [(2, none)]
theorem K_math_bits_TrailingZeros64 : chkF Tryz.prog Tryz.f201 14 C_math_bits_TrailingZeros64 R_math_bits_TrailingZeros64 = true := by kernel_rfl
theorem spec_math_bits_TrailingZeros64 : SpF 14 F_math_bits_TrailingZeros64 C_math_bits_TrailingZeros64 R_math_bits_TrailingZeros64 := fun ha h => Spec.of_fn Tryz.func201 K_math_bits_TrailingZeros64 ha h
theorem B_math_bits_TrailingZeros64 : hasBody Tryz.prog F_math_bits_TrailingZeros64 = true := by kernel_rfl
abbrev F_cmp_isNaN_int : FuncId := 207
def C_cmp_isNaN_int : AC :=
 (.seq (.reg [oP 2 (.mv (.c (.bool false)))] [0])
 (.seq (.reg [mV 3 0,
mV 4 0,
oP 5 (.bin .neq (.t 3) (.t 4)),
mV 2 5] [2])
 .ret))
abbrev R_cmp_isNaN_int : List (Nat × Option (Option Nat)) := [(2, none)]
theorem K_cmp_isNaN_int : chkF Tryz.prog Tryz.f207 6 C_cmp_isNaN_int R_cmp_isNaN_int = true := by kernel_rfl
theorem spec_cmp_isNaN_int : SpF 6 F_cmp_isNaN_int C_cmp_isNaN_int R_cmp_isNaN_int := fun ha h => Spec.of_fn Tryz.func207 K_cmp_isNaN_int ha h
theorem B_cmp_isNaN_int : hasBody Tryz.prog F_cmp_isNaN_int = true := by kernel_rfl
abbrev F_slices_IndexFunc_api_HuPart_api_HuPart : FuncId := 208
def C_slices_IndexFunc_api_HuPart_api_HuPart : AC :=
 (.seq (.reg [oP 4 (.mv (cI 0))] [0,1])
 (.seq (.seq (.reg [mV 6 0,
oP 7 (.len (.t 6)),
oP 8 (.mv (cI 0))] [0,1,7,8])
 (.block 0
 (.loop [0,1,7,8]
 (.seq (.reg [oP 9 (.bin .lss (.t 8) (.t 7))] [0,1,7,8,9])
 (.seq (.cond (.t 9)
 .skip
 (.exit 0))
 (.seq (.block 1
 (.seq (.reg [mV 10 8,
mV 5 10] [0,1,5,7,8])
 (.seq (.reg [mV 11 1,
mV 12 0,
mV 13 5,
oP 14 (.ixS 7 (.t 12) (.t 13)),
oP 15 (.load (some 7) (.t 14)),
oP 16 (.call (.t 11) [true] [(.t 15)])] [0,1,5,7,8,16])
 (.cond (.t 16)
 (.seq (.reg [mV 17 5,
mV 4 17] [4])
 .ret)
 .skip))))
 (.reg [oP 18 (.bin .add (.t 8) (cI 1)),
mV 8 18] [0,1,7,8])))))))
 (.seq (.reg [oP 4 (.mv (cI (-1)))] [4])
 .ret)))
abbrev R_slices_IndexFunc_api_HuPart_api_HuPart : List (Nat × Option (Option Nat)) := [(4, none)]
theorem K_slices_IndexFunc_api_HuPart_api_HuPart : chkF Tryz.prog Tryz.f208 19 C_slices_IndexFunc_api_HuPart_api_HuPart R_slices_IndexFunc_api_HuPart_api_HuPart = true := by kernel_rfl
theorem spec_slices_IndexFunc_api_HuPart_api_HuPart : SpF 19 F_slices_IndexFunc_api_HuPart_api_HuPart C_slices_IndexFunc_api_HuPart_api_HuPart R_slices_IndexFunc_api_HuPart_api_HuPart := fun ha h => Spec.of_fn Tryz.func208 K_slices_IndexFunc_api_HuPart_api_HuPart ha h
theorem B_slices_IndexFunc_api_HuPart_api_HuPart : hasBody Tryz.prog F_slices_IndexFunc_api_HuPart_api_HuPart = true := by kernel_rfl
abbrev F_hull_ship_find_1 : FuncId := 209
def C_hull_ship_find_1 : AC :=
 (.seq (.reg [oP 2 (.pbox 7 (.t 0)),
oP 3 (.mv (.c (.bool false)))] [1,2])
 (.seq (.reg [oP 4 (.fieldAddr none 0 (.t 2)),
oP 5 (.load none (.t 4)),
oP 6 (.load none (.t 1)),
oP 7 (.bin .eql (.t 5) (.t 6)),
mV 3 7] [3])
 .ret))
abbrev R_hull_ship_find_1 : List (Nat × Option (Option Nat)) := [(3, none)]
theorem K_hull_ship_find_1 : chkF Tryz.prog Tryz.f209 8 C_hull_ship_find_1 R_hull_ship_find_1 = true := by kernel_rfl
theorem spec_hull_ship_find_1 : SpF 8 F_hull_ship_find_1 C_hull_ship_find_1 R_hull_ship_find_1 := fun ha h => Spec.of_fn Tryz.func209 K_hull_ship_find_1 ha h
theorem B_hull_ship_find_1 : hasBody Tryz.prog F_hull_ship_find_1 = true := by kernel_rfl
abbrev F_slices_IndexFunc_string_string : FuncId := 210
def C_slices_IndexFunc_string_string : AC :=
 (.seq (.reg [oP 4 (.mv (cI 0))] [0,1])
 (.seq (.seq (.reg [mV 6 0,
oP 7 (.len (.t 6)),
oP 8 (.mv (cI 0))] [0,1,7,8])
 (.block 0
 (.loop [0,1,7,8]
 (.seq (.reg [oP 9 (.bin .lss (.t 8) (.t 7))] [0,1,7,8,9])
 (.seq (.cond (.t 9)
 .skip
 (.exit 0))
 (.seq (.block 1
 (.seq (.reg [mV 10 8,
mV 5 10] [0,1,5,7,8])
 (.seq (.reg [mV 11 1,
mV 12 0,
mV 13 5,
oP 14 (.ixS 1 (.t 12) (.t 13)),
oP 15 (.load none (.t 14)),
oP 16 (.call (.t 11) [false] [(.t 15)])] [0,1,5,7,8,16])
 (.cond (.t 16)
 (.seq (.reg [mV 17 5,
mV 4 17] [4])
 .ret)
 .skip))))
 (.reg [oP 18 (.bin .add (.t 8) (cI 1)),
mV 8 18] [0,1,7,8])))))))
 (.seq (.reg [oP 4 (.mv (cI (-1)))] [4])
 .ret)))
abbrev R_slices_IndexFunc_string_string : List (Nat × Option (Option Nat)) := [(4, none)]
theorem K_slices_IndexFunc_string_string : chkF Tryz.prog Tryz.f210 19 C_slices_IndexFunc_string_string R_slices_IndexFunc_string_string = true := by kernel_rfl
theorem spec_slices_IndexFunc_string_string : SpF 19 F_slices_IndexFunc_string_string C_slices_IndexFunc_string_string R_slices_IndexFunc_string_string := fun ha h => Spec.of_fn Tryz.func210 K_slices_IndexFunc_string_string ha h
theorem B_slices_IndexFunc_string_string : hasBody Tryz.prog F_slices_IndexFunc_string_string = true := by kernel_rfl
abbrev F_stand_body_levers_1 : FuncId := 216
def C_stand_body_levers_1 : AC :=
 (.seq (.reg [oP 1 (.pbox 7 (.t 0)),
oP 2 (.mv (cI 0))] [])
 (.seq (.reg [oP 2 (.mv (cI 1))] [2])
 .ret))
abbrev R_stand_body_levers_1 : List (Nat × Option (Option Nat)) := [(2, none)]
theorem K_stand_body_levers_1 : chkF Tryz.prog Tryz.f216 3 C_stand_body_levers_1 R_stand_body_levers_1 = true := by kernel_rfl
theorem spec_stand_body_levers_1 : SpF 3 F_stand_body_levers_1 C_stand_body_levers_1 R_stand_body_levers_1 := fun ha h => Spec.of_fn Tryz.func216 K_stand_body_levers_1 ha h
theorem B_stand_body_levers_1 : hasBody Tryz.prog F_stand_body_levers_1 = true := by kernel_rfl
abbrev F_stand_body_levers_2 : FuncId := 217
def C_stand_body_levers_2 : AC :=
 (.seq (.reg [oP 2 (.pbox 7 (.t 0)),
oP 3 (.mv (cI 0))] [1,2])
 (.seq (.reg [oP 4 (.fieldAddr none 1 (.t 2)),
oP 5 (.load none (.t 4)),
oP 6 (.fieldAddr (some 3) 0 (.t 1)),
oP 7 (.fieldAddr none 1 (.t 6)),
oP 8 (.load none (.t 7)),
oP 9 (.bin .sub (.t 5) (.t 8)),
mV 3 9] [3])
 .ret))
abbrev R_stand_body_levers_2 : List (Nat × Option (Option Nat)) := [(3, none)]
theorem K_stand_body_levers_2 : chkF Tryz.prog Tryz.f217 10 C_stand_body_levers_2 R_stand_body_levers_2 = true := by kernel_rfl
theorem spec_stand_body_levers_2 : SpF 10 F_stand_body_levers_2 C_stand_body_levers_2 R_stand_body_levers_2 := fun ha h => Spec.of_fn Tryz.func217 K_stand_body_levers_2 ha h
theorem B_stand_body_levers_2 : hasBody Tryz.prog F_stand_body_levers_2 = true := by kernel_rfl
abbrev F_stand_body_levers_3 : FuncId := 218
def C_stand_body_levers_3 : AC :=
 (.seq (.reg [oP 2 (.pbox 7 (.t 0)),
oP 3 (.mv (cI 0))] [1,2])
 (.seq (.reg [oP 4 (.fieldAddr (some 3) 0 (.t 1)),
oP 5 (.fieldAddr none 2 (.t 4)),
oP 6 (.load none (.t 5)),
oP 7 (.fieldAddr none 1 (.t 2)),
oP 8 (.load none (.t 7)),
oP 9 (.bin .sub (.t 6) (.t 8)),
mV 3 9] [3])
 .ret))
abbrev R_stand_body_levers_3 : List (Nat × Option (Option Nat)) := [(3, none)]
theorem K_stand_body_levers_3 : chkF Tryz.prog Tryz.f218 10 C_stand_body_levers_3 R_stand_body_levers_3 = true := by kernel_rfl
theorem spec_stand_body_levers_3 : SpF 10 F_stand_body_levers_3 C_stand_body_levers_3 R_stand_body_levers_3 := fun ha h => Spec.of_fn Tryz.func218 K_stand_body_levers_3 ha h
theorem B_stand_body_levers_3 : hasBody Tryz.prog F_stand_body_levers_3 = true := by kernel_rfl
abbrev F_stand_load_light : FuncId := 219
def C_stand_load_light : AC :=
 (.seq (.reg [oP 1 (.pbox 8 (.t 0)),
oP 2 (.mv (cI 0))] [1])
 (.seq (.reg [oP 3 (.fieldAddr (some 7) 0 (.t 1)),
oP 4 (.fieldAddr (some 2) 2 (.t 3)),
oP 5 (.fieldAddr none 0 (.t 4)),
oP 6 (.load none (.t 5)),
oP 7 (.fieldAddr (some 7) 0 (.t 1)),
oP 8 (.fieldAddr (some 2) 5 (.t 7)),
oP 9 (.fieldAddr none 1 (.t 8)),
oP 10 (.load none (.t 9)),
oP 11 (.fieldAddr none 7 (.t 1)),
oP 12 (.load none (.t 11)),
oP 13 (.bin .mul (.t 10) (.t 12)),
oP 14 (.bin .sub (.t 6) (.t 13)),
mV 2 14] [2])
 .ret))
abbrev R_stand_load_light : List (Nat × Option (Option Nat)) := [(2, none)]
theorem K_stand_load_light : chkF Tryz.prog Tryz.f219 15 C_stand_load_light R_stand_load_light = true := by kernel_rfl
theorem spec_stand_load_light : SpF 15 F_stand_load_light C_stand_load_light R_stand_load_light := fun ha h => Spec.of_fn Tryz.func219 K_stand_load_light ha h
theorem B_stand_load_light : hasBody Tryz.prog F_stand_load_light = true := by kernel_rfl
abbrev F_stand_load_heavy : FuncId := 220
def C_stand_load_heavy : AC :=
 (.seq (.reg [oP 1 (.pbox 8 (.t 0)),
oP 2 (.mv (cI 0))] [1])
 (.seq (.reg [oP 3 (.fieldAddr (some 7) 0 (.t 1)),
oP 4 (.fieldAddr (some 2) 2 (.t 3)),
oP 5 (.fieldAddr none 1 (.t 4)),
oP 6 (.load none (.t 5)),
oP 7 (.fieldAddr (some 7) 0 (.t 1)),
oP 8 (.fieldAddr (some 2) 5 (.t 7)),
oP 9 (.fieldAddr none 0 (.t 8)),
oP 10 (.load none (.t 9)),
oP 11 (.fieldAddr none 7 (.t 1)),
oP 12 (.load none (.t 11)),
oP 13 (.bin .mul (.t 10) (.t 12)),
oP 14 (.bin .sub (.t 6) (.t 13)),
mV 2 14] [2])
 .ret))
abbrev R_stand_load_heavy : List (Nat × Option (Option Nat)) := [(2, none)]
theorem K_stand_load_heavy : chkF Tryz.prog Tryz.f220 15 C_stand_load_heavy R_stand_load_heavy = true := by kernel_rfl
theorem spec_stand_load_heavy : SpF 15 F_stand_load_heavy C_stand_load_heavy R_stand_load_heavy := fun ha h => Spec.of_fn Tryz.func220 K_stand_load_heavy ha h
theorem B_stand_load_heavy : hasBody Tryz.prog F_stand_load_heavy = true := by kernel_rfl
abbrev F_slices_IndexFunc_api_VnTank_api_VnTank : FuncId := 221
def C_slices_IndexFunc_api_VnTank_api_VnTank : AC :=
 (.seq (.reg [oP 4 (.mv (cI 0))] [0,1])
 (.seq (.seq (.reg [mV 6 0,
oP 7 (.len (.t 6)),
oP 8 (.mv (cI 0))] [0,1,7,8])
 (.block 0
 (.loop [0,1,7,8]
 (.seq (.reg [oP 9 (.bin .lss (.t 8) (.t 7))] [0,1,7,8,9])
 (.seq (.cond (.t 9)
 .skip
 (.exit 0))
 (.seq (.block 1
 (.seq (.reg [mV 10 8,
mV 5 10] [0,1,5,7,8])
 (.seq (.reg [mV 11 1,
mV 12 0,
mV 13 5,
oP 14 (.ixS 2 (.t 12) (.t 13)),
oP 15 (.load (some 2) (.t 14)),
oP 16 (.call (.t 11) [false] [(.t 15)])] [0,1,5,7,8,16])
 (.cond (.t 16)
 (.seq (.reg [mV 17 5,
mV 4 17] [4])
 .ret)
 .skip))))
 (.reg [oP 18 (.bin .add (.t 8) (cI 1)),
mV 8 18] [0,1,7,8])))))))
 (.seq (.reg [oP 4 (.mv (cI (-1)))] [4])
 .ret)))
abbrev R_slices_IndexFunc_api_VnTank_api_VnTank : List (Nat × Option (Option Nat)) := [(4, none)]
theorem K_slices_IndexFunc_api_VnTank_api_VnTank : chkF Tryz.prog Tryz.f221 19 C_slices_IndexFunc_api_VnTank_api_VnTank R_slices_IndexFunc_api_VnTank_api_VnTank = true := by kernel_rfl
theorem spec_slices_IndexFunc_api_VnTank_api_VnTank : SpF 19 F_slices_IndexFunc_api_VnTank_api_VnTank C_slices_IndexFunc_api_VnTank_api_VnTank R_slices_IndexFunc_api_VnTank_api_VnTank := fun ha h => Spec.of_fn Tryz.func221 K_slices_IndexFunc_api_VnTank_api_VnTank ha h
theorem B_slices_IndexFunc_api_VnTank_api_VnTank : hasBody Tryz.prog F_slices_IndexFunc_api_VnTank_api_VnTank = true := by kernel_rfl
end Go.AM
