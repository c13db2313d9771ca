/- MADE BY PROGRAM (gen.py): the abstract code of functions of this seat, each checked against the given code by the kernel. -/
import Derived.Test.YtmjfcbpgnmajpaaGreatDoorG05a
import Derived.Test.YtmjfcbpgnmajpaaGreatDoorChecked
import Derived.Test.YtmjfcbpgnmajpaaGreatDoorA18
import Derived.Test.YtmjfcbpgnmajpaaGreatDoorA13
namespace Go.AM
open Go.Proofs

abbrev F_slices_heapSortOrdered_int : FuncId := 167
/-- slices.heapSortOrdered[int]: parameters ['[]int', 'int', 'int'], results [] -/
def C_slices_heapSortOrdered_int : AC :=
 (.seq (.reg [⟨some 11, none, .mv (.t 1)⟩,
 ⟨some 6, none, .mv (.t 11)⟩] [0, 1, 2, 6])
 (.seq (.reg [⟨some 7, none, .mv (.c (.int .i64 0))⟩] [0, 1, 2, 6, 7])
 (.seq (.reg [⟨some 12, none, .mv (.t 2)⟩,
 ⟨some 13, none, .mv (.t 1)⟩,
 ⟨some 14, none, .bin .sub (.t 12) (.t 13)⟩,
 ⟨some 8, none, .mv (.t 14)⟩] [0, 6, 7, 8])
 (.seq (.seq (.reg [⟨some 15, none, .mv (.t 8)⟩,
 ⟨some 16, none, .bin .sub (.t 15) (.c (.int .i64 1))⟩,
 ⟨some 17, none, .bin .quo (.t 16) (.c (.int .i64 2))⟩,
 ⟨some 9, none, .mv (.t 17)⟩] [0, 6, 7, 8, 9])
 (.block 0
 (.loop [0, 6, 7, 8, 9]
 (.seq (.seq (.reg [⟨some 18, none, .mv (.t 9)⟩,
 ⟨some 19, none, .bin .geq (.t 18) (.c (.int .i64 0))⟩] [0, 6, 7, 8, 9, 19])
 (.cond (.t 19)
 .skip
 (.exit 0)))
 (.seq (.block 1
 (.reg [⟨some 22, none, .mv (.t 0)⟩,
 ⟨some 23, none, .mv (.t 9)⟩,
 ⟨some 24, none, .mv (.t 8)⟩,
 ⟨some 25, none, .mv (.t 6)⟩,
 ⟨some 26, none, .call (.f 202) [true, false, false, false] [(.t 22), (.t 23), (.t 24), (.t 25)]⟩] [0, 6, 7, 8, 9]))
 (.reg [⟨some 20, none, .mv (.t 9)⟩,
 ⟨some 21, none, .bin .sub (.t 20) (.c (.int .i64 1))⟩,
 ⟨some 9, none, .mv (.t 21)⟩] [0, 6, 7, 8, 9]))))))
 (.seq (.reg [⟨some 27, none, .mv (.t 8)⟩,
 ⟨some 28, none, .bin .sub (.t 27) (.c (.int .i64 1))⟩,
 ⟨some 10, none, .mv (.t 28)⟩] [0, 6, 7, 10])
 (.block 2
 (.loop [0, 6, 7, 10]
 (.seq (.seq (.reg [⟨some 29, none, .mv (.t 10)⟩,
 ⟨some 30, none, .bin .geq (.t 29) (.c (.int .i64 0))⟩] [0, 6, 7, 10, 30])
 (.cond (.t 30)
 .skip
 (.exit 2)))
 (.seq (.block 3
 (.seq (.dreg [⟨some 33, none, .mv (.t 0)⟩,
 ⟨some 34, none, .mv (.t 6)⟩,
 ⟨some 35, none, .mv (.t 0)⟩,
 ⟨some 36, none, .mv (.t 6)⟩,
 ⟨some 37, none, .mv (.t 10)⟩,
 ⟨some 38, none, .bin .add (.t 36) (.t 37)⟩,
 ⟨some 39, none, .mv (.t 0)⟩,
 ⟨some 40, none, .mv (.t 6)⟩,
 ⟨some 41, none, .mv (.t 10)⟩,
 ⟨some 42, none, .bin .add (.t 40) (.t 41)⟩,
 ⟨some 43, none, .ixS 1 (.t 39) (.t 42)⟩,
 ⟨some 44, none, .load none (.t 43)⟩,
 ⟨some 45, none, .mv (.t 0)⟩,
 ⟨some 46, none, .mv (.t 6)⟩,
 ⟨some 47, none, .ixS 1 (.t 45) (.t 46)⟩,
 ⟨some 48, none, .load none (.t 47)⟩,
 ⟨some 49, none, .ixS 1 (.t 33) (.t 34)⟩,
 ⟨none, none, .store 1 (.t 49) (.t 44)⟩,
 ⟨some 50, none, .ixS 1 (.t 35) (.t 38)⟩,
 ⟨none, none, .store 1 (.t 50) (.t 48)⟩] [0, 6, 7, 10] [[], [], [], [], [], [3, 4], [], [], [], [7, 8], [6, 7, 8, 9], [6, 7, 8, 9, 10], [], [], [12, 13], [12, 13, 14], [0, 1, 6, 7, 8, 9, 10, 11, 12, 13, 14, 15], [0, 1, 6, 7, 8, 9, 10, 11, 12, 13, 14, 15, 16], [0, 1, 2, 3, 4, 5, 6, 7, 8, 9, 10, 11, 12, 13, 14, 15, 16, 17], [0, 1, 2, 3, 4, 5, 6, 7, 8, 9, 10, 11, 12, 13, 14, 15, 16, 17, 18]])
 (.reg [⟨some 51, none, .mv (.t 0)⟩,
 ⟨some 52, none, .mv (.t 7)⟩,
 ⟨some 53, none, .mv (.t 10)⟩,
 ⟨some 54, none, .mv (.t 6)⟩,
 ⟨some 55, none, .call (.f 202) [true, false, false, false] [(.t 51), (.t 52), (.t 53), (.t 54)]⟩] [0, 6, 7, 10])))
 (.reg [⟨some 31, none, .mv (.t 10)⟩,
 ⟨some 32, none, .bin .sub (.t 31) (.c (.int .i64 1))⟩,
 ⟨some 10, none, .mv (.t 32)⟩] [0, 6, 7, 10]))))))))))
abbrev R_slices_heapSortOrdered_int : List (Nat × Option (Option Nat)) := []
theorem K_slices_heapSortOrdered_int : chkF Tryz.prog Tryz.f167 56 C_slices_heapSortOrdered_int R_slices_heapSortOrdered_int = true := by kernel_rfl
theorem spec_slices_heapSortOrdered_int {args : List AVal} {σ : AHeap} {R : ARes → AHeap → Prop} (ha : args.length ≤ 56) (h : AW Tryz.prog 56 none C_slices_heapSortOrdered_int (bodyQ R_slices_heapSortOrdered_int R) { v := argEnv args 0, ds := [] } σ) : Spec Tryz.prog F_slices_heapSortOrdered_int args σ R := Spec.of_fn Tryz.func167 K_slices_heapSortOrdered_int ha h
theorem B_slices_heapSortOrdered_int : hasBody Tryz.prog F_slices_heapSortOrdered_int = true := by kernel_rfl
theorem E_slices_heapSortOrdered_int : EntOk Tryz.prog ⟨167, 56, C_slices_heapSortOrdered_int, R_slices_heapSortOrdered_int, 0⟩ := ⟨fun _ => ⟨B_slices_heapSortOrdered_int, _, Tryz.func167, K_slices_heapSortOrdered_int⟩, fun h => by cases h⟩

abbrev F_slices_breakPatternsOrdered_int : FuncId := 168
/-- slices.breakPatternsOrdered[int]: parameters ['[]int', 'int', 'int'], results [] -/
def C_slices_breakPatternsOrdered_int : AC :=
 (.seq (.reg [⟨some 11, none, .mv (.t 2)⟩,
 ⟨some 12, none, .mv (.t 1)⟩,
 ⟨some 13, none, .bin .sub (.t 11) (.t 12)⟩,
 ⟨some 6, none, .mv (.t 13)⟩] [0, 1, 6])
 (.seq (.reg [⟨some 14, none, .mv (.t 6)⟩,
 ⟨some 15, none, .bin .geq (.t 14) (.c (.int .i64 8))⟩] [0, 1, 6, 15])
 (.cond (.t 15)
 (.seq (.reg [⟨some 16, none, .mv (.t 6)⟩,
 ⟨some 17, none, .conv .u64 (.t 16)⟩,
 ⟨some 7, none, .alloc [.int .u64 0]⟩,
 ⟨none, none, .store 1 (.t 7) (.t 17)⟩] [0, 1, 6, 7])
 (.seq (.reg [⟨some 18, none, .mv (.t 6)⟩,
 ⟨some 19, none, .call (.f 203) [false] [(.t 18)]⟩,
 ⟨some 8, none, .mv (.t 19)⟩] [0, 1, 6, 7, 8])
 (.seq (.reg [⟨some 20, none, .mv (.t 1)⟩,
 ⟨some 21, none, .mv (.t 6)⟩,
 ⟨some 22, none, .bin .quo (.t 21) (.c (.int .i64 4))⟩,
 ⟨some 23, none, .bin .mul (.t 22) (.c (.int .i64 2))⟩,
 ⟨some 24, none, .bin .add (.t 20) (.t 23)⟩,
 ⟨some 25, none, .bin .sub (.t 24) (.c (.int .i64 1))⟩,
 ⟨some 9, none, .mv (.t 25)⟩] [0, 1, 6, 7, 8, 9])
 (.block 0
 (.loop [0, 1, 6, 7, 8, 9]
 (.seq (.seq (.reg [⟨some 26, none, .mv (.t 9)⟩,
 ⟨some 27, none, .mv (.t 1)⟩,
 ⟨some 28, none, .mv (.t 6)⟩,
 ⟨some 29, none, .bin .quo (.t 28) (.c (.int .i64 4))⟩,
 ⟨some 30, none, .bin .mul (.t 29) (.c (.int .i64 2))⟩,
 ⟨some 31, none, .bin .add (.t 27) (.t 30)⟩,
 ⟨some 32, none, .bin .add (.t 31) (.c (.int .i64 1))⟩,
 ⟨some 33, none, .bin .leq (.t 26) (.t 32)⟩] [0, 1, 6, 7, 8, 9, 33])
 (.cond (.t 33)
 .skip
 (.exit 0)))
 (.seq (.block 1
 (.seq (.reg [⟨some 36, none, .call (.f 204) [false] [(.t 7)]⟩,
 ⟨some 37, none, .mv (.t 8)⟩,
 ⟨some 38, none, .bin .sub (.t 37) (.c (.int .u64 1))⟩,
 ⟨some 39, none, .bin .and (.t 36) (.t 38)⟩,
 ⟨some 40, none, .conv .i64 (.t 39)⟩,
 ⟨some 10, none, .mv (.t 40)⟩] [0, 1, 6, 7, 8, 9, 10])
 (.seq (.seq (.reg [⟨some 41, none, .mv (.t 10)⟩,
 ⟨some 42, none, .mv (.t 6)⟩,
 ⟨some 43, none, .bin .geq (.t 41) (.t 42)⟩] [0, 1, 6, 7, 8, 9, 10, 43])
 (.cond (.t 43)
 (.reg [⟨some 44, none, .mv (.t 10)⟩,
 ⟨some 45, none, .mv (.t 6)⟩,
 ⟨some 46, none, .bin .sub (.t 44) (.t 45)⟩,
 ⟨some 10, none, .mv (.t 46)⟩] [0, 1, 6, 7, 8, 9, 10])
 .skip))
 (.dreg [⟨some 47, none, .mv (.t 0)⟩,
 ⟨some 48, none, .mv (.t 9)⟩,
 ⟨some 49, none, .mv (.t 0)⟩,
 ⟨some 50, none, .mv (.t 1)⟩,
 ⟨some 51, none, .mv (.t 10)⟩,
 ⟨some 52, none, .bin .add (.t 50) (.t 51)⟩,
 ⟨some 53, none, .mv (.t 0)⟩,
 ⟨some 54, none, .mv (.t 1)⟩,
 ⟨some 55, none, .mv (.t 10)⟩,
 ⟨some 56, none, .bin .add (.t 54) (.t 55)⟩,
 ⟨some 57, none, .ixS 1 (.t 53) (.t 56)⟩,
 ⟨some 58, none, .load none (.t 57)⟩,
 ⟨some 59, none, .mv (.t 0)⟩,
 ⟨some 60, none, .mv (.t 9)⟩,
 ⟨some 61, none, .ixS 1 (.t 59) (.t 60)⟩,
 ⟨some 62, none, .load none (.t 61)⟩,
 ⟨some 63, none, .ixS 1 (.t 47) (.t 48)⟩,
 ⟨none, none, .store 1 (.t 63) (.t 58)⟩,
 ⟨some 64, none, .ixS 1 (.t 49) (.t 52)⟩,
 ⟨none, none, .store 1 (.t 64) (.t 62)⟩] [0, 1, 6, 7, 8, 9] [[], [], [], [], [], [3, 4], [], [], [], [7, 8], [6, 7, 8, 9], [6, 7, 8, 9, 10], [], [], [12, 13], [12, 13, 14], [0, 1, 6, 7, 8, 9, 10, 11, 12, 13, 14, 15], [0, 1, 6, 7, 8, 9, 10, 11, 12, 13, 14, 15, 16], [0, 1, 2, 3, 4, 5, 6, 7, 8, 9, 10, 11, 12, 13, 14, 15, 16, 17], [0, 1, 2, 3, 4, 5, 6, 7, 8, 9, 10, 11, 12, 13, 14, 15, 16, 17, 18]]))))
 (.reg [⟨some 34, none, .mv (.t 9)⟩,
 ⟨some 35, none, .bin .add (.t 34) (.c (.int .i64 1))⟩,
 ⟨some 9, none, .mv (.t 35)⟩] [0, 1, 6, 7, 8, 9]))))))))
 .skip)))
abbrev R_slices_breakPatternsOrdered_int : List (Nat × Option (Option Nat)) := []
theorem K_slices_breakPatternsOrdered_int : chkF Tryz.prog Tryz.f168 65 C_slices_breakPatternsOrdered_int R_slices_breakPatternsOrdered_int = true := by kernel_rfl
theorem spec_slices_breakPatternsOrdered_int {args : List AVal} {σ : AHeap} {R : ARes → AHeap → Prop} (ha : args.length ≤ 65) (h : AW Tryz.prog 65 none C_slices_breakPatternsOrdered_int (bodyQ R_slices_breakPatternsOrdered_int R) { v := argEnv args 0, ds := [] } σ) : Spec Tryz.prog F_slices_breakPatternsOrdered_int args σ R := Spec.of_fn Tryz.func168 K_slices_breakPatternsOrdered_int ha h
theorem B_slices_breakPatternsOrdered_int : hasBody Tryz.prog F_slices_breakPatternsOrdered_int = true := by kernel_rfl
theorem E_slices_breakPatternsOrdered_int : EntOk Tryz.prog ⟨168, 65, C_slices_breakPatternsOrdered_int, R_slices_breakPatternsOrdered_int, 0⟩ := ⟨fun _ => ⟨B_slices_breakPatternsOrdered_int, _, Tryz.func168, K_slices_breakPatternsOrdered_int⟩, fun h => by cases h⟩

abbrev F_slices_choosePivotOrdered_int : FuncId := 169
/-- slices.choosePivotOrdered[int]: parameters ['[]int', 'int', 'int'], results ['int', 'slices.sortedHint'] -/
def C_slices_choosePivotOrdered_int : AC :=
 (.seq (.reg [⟨some 6, none, .mv (.c (.int .i64 0))⟩,
 ⟨some 7, none, .mv (.c (.int .i64 0))⟩] [0, 1, 2])
 (.seq (.reg [⟨some 13, none, .mv (.t 2)⟩,
 ⟨some 14, none, .mv (.t 1)⟩,
 ⟨some 15, none, .bin .sub (.t 13) (.t 14)⟩,
 ⟨some 8, none, .mv (.t 15)⟩] [0, 1, 8])
 (.seq (.reg [⟨some 9, none, .alloc [.int .i64 0]⟩] [0, 1, 8, 9])
 (.seq (.reg [⟨some 16, none, .mv (.t 1)⟩,
 ⟨some 17, none, .mv (.t 8)⟩,
 ⟨some 18, none, .bin .quo (.t 17) (.c (.int .i64 4))⟩,
 ⟨some 19, none, .bin .mul (.t 18) (.c (.int .i64 1))⟩,
 ⟨some 20, none, .bin .add (.t 16) (.t 19)⟩,
 ⟨some 10, none, .mv (.t 20)⟩] [0, 1, 8, 9, 10])
 (.seq (.reg [⟨some 21, none, .mv (.t 1)⟩,
 ⟨some 22, none, .mv (.t 8)⟩,
 ⟨some 23, none, .bin .quo (.t 22) (.c (.int .i64 4))⟩,
 ⟨some 24, none, .bin .mul (.t 23) (.c (.int .i64 2))⟩,
 ⟨some 25, none, .bin .add (.t 21) (.t 24)⟩,
 ⟨some 11, none, .mv (.t 25)⟩] [0, 1, 8, 9, 10, 11])
 (.seq (.reg [⟨some 26, none, .mv (.t 1)⟩,
 ⟨some 27, none, .mv (.t 8)⟩,
 ⟨some 28, none, .bin .quo (.t 27) (.c (.int .i64 4))⟩,
 ⟨some 29, none, .bin .mul (.t 28) (.c (.int .i64 3))⟩,
 ⟨some 30, none, .bin .add (.t 26) (.t 29)⟩,
 ⟨some 12, none, .mv (.t 30)⟩] [0, 8, 9, 10, 11, 12])
 (.seq (.seq (.reg [⟨some 31, none, .mv (.t 8)⟩,
 ⟨some 32, none, .bin .geq (.t 31) (.c (.int .i64 8))⟩] [0, 8, 9, 10, 11, 12, 32])
 (.cond (.t 32)
 (.seq (.seq (.reg [⟨some 33, none, .mv (.t 8)⟩,
 ⟨some 34, none, .bin .geq (.t 33) (.c (.int .i64 50))⟩] [0, 9, 10, 11, 12, 34])
 (.cond (.t 34)
 (.seq (.reg [⟨some 35, none, .mv (.t 0)⟩,
 ⟨some 36, none, .mv (.t 10)⟩,
 ⟨some 37, none, .call (.f 205) [true, false, false] [(.t 35), (.t 36), (.t 9)]⟩,
 ⟨some 10, none, .mv (.t 37)⟩] [0, 9, 10, 11, 12])
 (.seq (.reg [⟨some 38, none, .mv (.t 0)⟩,
 ⟨some 39, none, .mv (.t 11)⟩,
 ⟨some 40, none, .call (.f 205) [true, false, false] [(.t 38), (.t 39), (.t 9)]⟩,
 ⟨some 11, none, .mv (.t 40)⟩] [0, 9, 10, 11, 12])
 (.reg [⟨some 41, none, .mv (.t 0)⟩,
 ⟨some 42, none, .mv (.t 12)⟩,
 ⟨some 43, none, .call (.f 205) [true, false, false] [(.t 41), (.t 42), (.t 9)]⟩,
 ⟨some 12, none, .mv (.t 43)⟩] [0, 9, 10, 11, 12])))
 .skip))
 (.reg [⟨some 44, none, .mv (.t 0)⟩,
 ⟨some 45, none, .mv (.t 10)⟩,
 ⟨some 46, none, .mv (.t 11)⟩,
 ⟨some 47, none, .mv (.t 12)⟩,
 ⟨some 48, none, .call (.f 206) [true, false, false, false, false] [(.t 44), (.t 45), (.t 46), (.t 47), (.t 9)]⟩,
 ⟨some 11, none, .mv (.t 48)⟩] [9, 11]))
 .skip))
 (.seq (.reg [⟨some 49, none, .load none (.t 9)⟩] [11, 49])
 (.block 0
 (.seq (.reg [⟨some 52, none, .bin .eql (.t 49) (.c (.int .i64 0))⟩,
 ⟨some 51, none, .mv (.t 52)⟩] [11, 49, 51])
 (.cond (.t 51)
 (.seq (.reg [⟨some 53, none, .mv (.t 11)⟩,
 ⟨some 6, none, .mv (.t 53)⟩,
 ⟨some 7, none, .mv (.c (.int .i64 1))⟩] [6, 7])
 .ret)
 (.seq (.reg [⟨some 55, none, .bin .eql (.t 49) (.c (.int .i64 12))⟩,
 ⟨some 54, none, .mv (.t 55)⟩] [11, 54])
 (.cond (.t 54)
 (.seq (.reg [⟨some 56, none, .mv (.t 11)⟩,
 ⟨some 6, none, .mv (.t 56)⟩,
 ⟨some 7, none, .mv (.c (.int .i64 2))⟩] [6, 7])
 .ret)
 (.seq (.reg [⟨some 50, none, .mv (.t 11)⟩,
 ⟨some 6, none, .mv (.t 50)⟩,
 ⟨some 7, none, .mv (.c (.int .i64 0))⟩] [6, 7])
 .ret))))))))))))))
abbrev R_slices_choosePivotOrdered_int : List (Nat × Option (Option Nat)) := [(6, none), (7, none)]
theorem K_slices_choosePivotOrdered_int : chkF Tryz.prog Tryz.f169 57 C_slices_choosePivotOrdered_int R_slices_choosePivotOrdered_int = true := by kernel_rfl
theorem spec_slices_choosePivotOrdered_int {args : List AVal} {σ : AHeap} {R : ARes → AHeap → Prop} (ha : args.length ≤ 57) (h : AW Tryz.prog 57 none C_slices_choosePivotOrdered_int (bodyQ R_slices_choosePivotOrdered_int R) { v := argEnv args 0, ds := [] } σ) : Spec Tryz.prog F_slices_choosePivotOrdered_int args σ R := Spec.of_fn Tryz.func169 K_slices_choosePivotOrdered_int ha h
theorem B_slices_choosePivotOrdered_int : hasBody Tryz.prog F_slices_choosePivotOrdered_int = true := by kernel_rfl
theorem E_slices_choosePivotOrdered_int : EntOk Tryz.prog ⟨169, 57, C_slices_choosePivotOrdered_int, R_slices_choosePivotOrdered_int, 0⟩ := ⟨fun _ => ⟨B_slices_choosePivotOrdered_int, _, Tryz.func169, K_slices_choosePivotOrdered_int⟩, fun h => by cases h⟩

abbrev F_slices_reverseRangeOrdered_int : FuncId := 170
/-- slices.reverseRangeOrdered[int]: parameters ['[]int', 'int', 'int'], results [] -/
def C_slices_reverseRangeOrdered_int : AC :=
 (.seq (.reg [⟨some 8, none, .mv (.t 1)⟩,
 ⟨some 6, none, .mv (.t 8)⟩] [0, 2, 6])
 (.seq (.reg [⟨some 9, none, .mv (.t 2)⟩,
 ⟨some 10, none, .bin .sub (.t 9) (.c (.int .i64 1))⟩,
 ⟨some 7, none, .mv (.t 10)⟩] [0, 6, 7])
 (.block 0
 (.loop [0, 6, 7]
 (.seq (.seq (.reg [⟨some 11, none, .mv (.t 6)⟩,
 ⟨some 12, none, .mv (.t 7)⟩,
 ⟨some 13, none, .bin .lss (.t 11) (.t 12)⟩] [0, 6, 7, 13])
 (.cond (.t 13)
 .skip
 (.exit 0)))
 (.block 1
 (.seq (.dreg [⟨some 14, none, .mv (.t 0)⟩,
 ⟨some 15, none, .mv (.t 6)⟩,
 ⟨some 16, none, .mv (.t 0)⟩,
 ⟨some 17, none, .mv (.t 7)⟩,
 ⟨some 18, none, .mv (.t 0)⟩,
 ⟨some 19, none, .mv (.t 7)⟩,
 ⟨some 20, none, .ixS 1 (.t 18) (.t 19)⟩,
 ⟨some 21, none, .load none (.t 20)⟩,
 ⟨some 22, none, .mv (.t 0)⟩,
 ⟨some 23, none, .mv (.t 6)⟩,
 ⟨some 24, none, .ixS 1 (.t 22) (.t 23)⟩,
 ⟨some 25, none, .load none (.t 24)⟩,
 ⟨some 26, none, .ixS 1 (.t 14) (.t 15)⟩,
 ⟨none, none, .store 1 (.t 26) (.t 21)⟩,
 ⟨some 27, none, .ixS 1 (.t 16) (.t 17)⟩,
 ⟨none, none, .store 1 (.t 27) (.t 25)⟩] [0, 6, 7] [[], [], [], [], [], [], [4, 5], [4, 5, 6], [], [], [8, 9], [8, 9, 10], [0, 1, 4, 5, 6, 7, 8, 9, 10, 11], [0, 1, 4, 5, 6, 7, 8, 9, 10, 11, 12], [0, 1, 2, 3, 4, 5, 6, 7, 8, 9, 10, 11, 12, 13], [0, 1, 2, 3, 4, 5, 6, 7, 8, 9, 10, 11, 12, 13, 14]])
 (.seq (.reg [⟨some 28, none, .mv (.t 6)⟩,
 ⟨some 29, none, .bin .add (.t 28) (.c (.int .i64 1))⟩,
 ⟨some 6, none, .mv (.t 29)⟩] [0, 6, 7])
 (.reg [⟨some 30, none, .mv (.t 7)⟩,
 ⟨some 31, none, .bin .sub (.t 30) (.c (.int .i64 1))⟩,
 ⟨some 7, none, .mv (.t 31)⟩] [0, 6, 7])))))))))
abbrev R_slices_reverseRangeOrdered_int : List (Nat × Option (Option Nat)) := []
theorem K_slices_reverseRangeOrdered_int : chkF Tryz.prog Tryz.f170 32 C_slices_reverseRangeOrdered_int R_slices_reverseRangeOrdered_int = true := by kernel_rfl
theorem spec_slices_reverseRangeOrdered_int {args : List AVal} {σ : AHeap} {R : ARes → AHeap → Prop} (ha : args.length ≤ 32) (h : AW Tryz.prog 32 none C_slices_reverseRangeOrdered_int (bodyQ R_slices_reverseRangeOrdered_int R) { v := argEnv args 0, ds := [] } σ) : Spec Tryz.prog F_slices_reverseRangeOrdered_int args σ R := Spec.of_fn Tryz.func170 K_slices_reverseRangeOrdered_int ha h
theorem B_slices_reverseRangeOrdered_int : hasBody Tryz.prog F_slices_reverseRangeOrdered_int = true := by kernel_rfl
theorem E_slices_reverseRangeOrdered_int : EntOk Tryz.prog ⟨170, 32, C_slices_reverseRangeOrdered_int, R_slices_reverseRangeOrdered_int, 0⟩ := ⟨fun _ => ⟨B_slices_reverseRangeOrdered_int, _, Tryz.func170, K_slices_reverseRangeOrdered_int⟩, fun h => by cases h⟩

abbrev F_slices_partialInsertionSortOrdered_int : FuncId := 171
/-- slices.partialInsertionSortOrdered[int]: parameters ['[]int', 'int', 'int'], results ['bool'] -/
def C_slices_partialInsertionSortOrdered_int : AC :=
 (.seq (.reg [⟨some 6, none, .mv (.c (.bool false))⟩] [0, 1, 2])
 (.seq (.reg [⟨some 11, none, .mv (.t 1)⟩,
 ⟨some 12, none, .bin .add (.t 11) (.c (.int .i64 1))⟩,
 ⟨some 7, none, .mv (.t 12)⟩] [0, 1, 2, 7])
 (.seq (.seq (.reg [⟨some 8, none, .mv (.c (.int .i64 0))⟩] [0, 1, 2, 7, 8])
 (.block 0
 (.loop [0, 1, 2, 7, 8]
 (.seq (.seq (.reg [⟨some 13, none, .mv (.t 8)⟩,
 ⟨some 14, none, .bin .lss (.t 13) (.c (.int .i64 5))⟩] [0, 1, 2, 7, 8, 14])
 (.cond (.t 14)
 .skip
 (.exit 0)))
 (.seq (.block 1
 (.seq (.block 2
 (.loop [0, 1, 2, 7, 8]
 (.seq (.seq (.dreg [⟨some 17, none, .mv (.t 7)⟩,
 ⟨some 18, none, .mv (.t 2)⟩,
 ⟨some 19, none, .bin .lss (.t 17) (.t 18)⟩,
 ⟨some 20, none, .mv (.t 19)⟩,
 ⟨some 21, (some (20, true)), .mv (.t 0)⟩,
 ⟨some 22, (some (20, true)), .mv (.t 7)⟩,
 ⟨some 23, (some (20, true)), .ixS 1 (.t 21) (.t 22)⟩,
 ⟨some 24, (some (20, true)), .load none (.t 23)⟩,
 ⟨some 25, (some (20, true)), .mv (.t 0)⟩,
 ⟨some 26, (some (20, true)), .mv (.t 7)⟩,
 ⟨some 27, (some (20, true)), .bin .sub (.t 26) (.c (.int .i64 1))⟩,
 ⟨some 28, (some (20, true)), .ixS 1 (.t 25) (.t 27)⟩,
 ⟨some 29, (some (20, true)), .load none (.t 28)⟩,
 ⟨some 30, (some (20, true)), .call (.f 172) [false, false] [(.t 24), (.t 29)]⟩,
 ⟨some 31, (some (20, true)), .un .not (.t 30)⟩,
 ⟨some 32, none, .pick (.t 20) (.t 31) (.c (.bool false))⟩] [0, 1, 2, 7, 8, 32] [[], [], [0, 1], [0, 1, 2], [0, 1, 2, 3], [0, 1, 2, 3], [0, 1, 2, 3, 4, 5], [0, 1, 2, 3, 4, 5, 6], [0, 1, 2, 3], [0, 1, 2, 3], [0, 1, 2, 3, 9], [0, 1, 2, 3, 8, 9, 10], [0, 1, 2, 3, 8, 9, 10, 11], [0, 1, 2, 3, 4, 5, 6, 7, 8, 9, 10, 11, 12], [0, 1, 2, 3, 4, 5, 6, 7, 8, 9, 10, 11, 12, 13], [0, 1, 2, 3, 4, 5, 6, 7, 8, 9, 10, 11, 12, 13, 14]])
 (.cond (.t 32)
 .skip
 (.exit 2)))
 (.block 3
 (.reg [⟨some 33, none, .mv (.t 7)⟩,
 ⟨some 34, none, .bin .add (.t 33) (.c (.int .i64 1))⟩,
 ⟨some 7, none, .mv (.t 34)⟩] [0, 1, 2, 7, 8])))))
 (.seq (.seq (.reg [⟨some 35, none, .mv (.t 7)⟩,
 ⟨some 36, none, .mv (.t 2)⟩,
 ⟨some 37, none, .bin .eql (.t 35) (.t 36)⟩] [0, 1, 2, 7, 8, 37])
 (.cond (.t 37)
 (.seq (.reg [⟨some 6, none, .mv (.c (.bool true))⟩] [6])
 .ret)
 .skip))
 (.seq (.seq (.reg [⟨some 38, none, .mv (.t 2)⟩,
 ⟨some 39, none, .mv (.t 1)⟩,
 ⟨some 40, none, .bin .sub (.t 38) (.t 39)⟩,
 ⟨some 41, none, .bin .lss (.t 40) (.c (.int .i64 50))⟩] [0, 1, 2, 7, 8, 41])
 (.cond (.t 41)
 (.seq (.reg [⟨some 6, none, .mv (.c (.bool false))⟩] [6])
 .ret)
 .skip))
 (.seq (.dreg [⟨some 42, none, .mv (.t 0)⟩,
 ⟨some 43, none, .mv (.t 7)⟩,
 ⟨some 44, none, .mv (.t 0)⟩,
 ⟨some 45, none, .mv (.t 7)⟩,
 ⟨some 46, none, .bin .sub (.t 45) (.c (.int .i64 1))⟩,
 ⟨some 47, none, .mv (.t 0)⟩,
 ⟨some 48, none, .mv (.t 7)⟩,
 ⟨some 49, none, .bin .sub (.t 48) (.c (.int .i64 1))⟩,
 ⟨some 50, none, .ixS 1 (.t 47) (.t 49)⟩,
 ⟨some 51, none, .load none (.t 50)⟩,
 ⟨some 52, none, .mv (.t 0)⟩,
 ⟨some 53, none, .mv (.t 7)⟩,
 ⟨some 54, none, .ixS 1 (.t 52) (.t 53)⟩,
 ⟨some 55, none, .load none (.t 54)⟩,
 ⟨some 56, none, .ixS 1 (.t 42) (.t 43)⟩,
 ⟨none, none, .store 1 (.t 56) (.t 51)⟩,
 ⟨some 57, none, .ixS 1 (.t 44) (.t 46)⟩,
 ⟨none, none, .store 1 (.t 57) (.t 55)⟩] [0, 1, 2, 7, 8] [[], [], [], [], [3], [], [], [6], [5, 6, 7], [5, 6, 7, 8], [], [], [10, 11], [10, 11, 12], [0, 1, 5, 6, 7, 8, 9, 10, 11, 12, 13], [0, 1, 5, 6, 7, 8, 9, 10, 11, 12, 13, 14], [0, 1, 2, 3, 4, 5, 6, 7, 8, 9, 10, 11, 12, 13, 14, 15], [0, 1, 2, 3, 4, 5, 6, 7, 8, 9, 10, 11, 12, 13, 14, 15, 16]])
 (.seq (.seq (.reg [⟨some 58, none, .mv (.t 7)⟩,
 ⟨some 59, none, .mv (.t 1)⟩,
 ⟨some 60, none, .bin .sub (.t 58) (.t 59)⟩,
 ⟨some 61, none, .bin .geq (.t 60) (.c (.int .i64 2))⟩] [0, 1, 2, 7, 8, 61])
 (.cond (.t 61)
 (.seq (.reg [⟨some 62, none, .mv (.t 7)⟩,
 ⟨some 63, none, .bin .sub (.t 62) (.c (.int .i64 1))⟩,
 ⟨some 9, none, .mv (.t 63)⟩] [0, 1, 2, 7, 8, 9])
 (.block 4
 (.loop [0, 1, 2, 7, 8, 9]
 (.seq (.seq (.reg [⟨some 64, none, .mv (.t 9)⟩,
 ⟨some 65, none, .bin .geq (.t 64) (.c (.int .i64 1))⟩] [0, 1, 2, 7, 8, 9, 65])
 (.cond (.t 65)
 .skip
 (.exit 4)))
 (.seq (.block 5
 (.seq (.seq (.dreg [⟨some 68, none, .mv (.t 0)⟩,
 ⟨some 69, none, .mv (.t 9)⟩,
 ⟨some 70, none, .ixS 1 (.t 68) (.t 69)⟩,
 ⟨some 71, none, .load none (.t 70)⟩,
 ⟨some 72, none, .mv (.t 0)⟩,
 ⟨some 73, none, .mv (.t 9)⟩,
 ⟨some 74, none, .bin .sub (.t 73) (.c (.int .i64 1))⟩,
 ⟨some 75, none, .ixS 1 (.t 72) (.t 74)⟩,
 ⟨some 76, none, .load none (.t 75)⟩,
 ⟨some 77, none, .call (.f 172) [false, false] [(.t 71), (.t 76)]⟩,
 ⟨some 78, none, .un .not (.t 77)⟩] [0, 1, 2, 7, 8, 9, 78] [[], [], [0, 1], [0, 1, 2], [], [], [5], [4, 5, 6], [4, 5, 6, 7], [0, 1, 2, 3, 4, 5, 6, 7, 8], [0, 1, 2, 3, 4, 5, 6, 7, 8, 9]])
 (.cond (.t 78)
 (.exit 4)
 .skip))
 (.dreg [⟨some 79, none, .mv (.t 0)⟩,
 ⟨some 80, none, .mv (.t 9)⟩,
 ⟨some 81, none, .mv (.t 0)⟩,
 ⟨some 82, none, .mv (.t 9)⟩,
 ⟨some 83, none, .bin .sub (.t 82) (.c (.int .i64 1))⟩,
 ⟨some 84, none, .mv (.t 0)⟩,
 ⟨some 85, none, .mv (.t 9)⟩,
 ⟨some 86, none, .bin .sub (.t 85) (.c (.int .i64 1))⟩,
 ⟨some 87, none, .ixS 1 (.t 84) (.t 86)⟩,
 ⟨some 88, none, .load none (.t 87)⟩,
 ⟨some 89, none, .mv (.t 0)⟩,
 ⟨some 90, none, .mv (.t 9)⟩,
 ⟨some 91, none, .ixS 1 (.t 89) (.t 90)⟩,
 ⟨some 92, none, .load none (.t 91)⟩,
 ⟨some 93, none, .ixS 1 (.t 79) (.t 80)⟩,
 ⟨none, none, .store 1 (.t 93) (.t 88)⟩,
 ⟨some 94, none, .ixS 1 (.t 81) (.t 83)⟩,
 ⟨none, none, .store 1 (.t 94) (.t 92)⟩] [0, 1, 2, 7, 8, 9] [[], [], [], [], [3], [], [], [6], [5, 6, 7], [5, 6, 7, 8], [], [], [10, 11], [10, 11, 12], [0, 1, 5, 6, 7, 8, 9, 10, 11, 12, 13], [0, 1, 5, 6, 7, 8, 9, 10, 11, 12, 13, 14], [0, 1, 2, 3, 4, 5, 6, 7, 8, 9, 10, 11, 12, 13, 14, 15], [0, 1, 2, 3, 4, 5, 6, 7, 8, 9, 10, 11, 12, 13, 14, 15, 16]])))
 (.reg [⟨some 66, none, .mv (.t 9)⟩,
 ⟨some 67, none, .bin .sub (.t 66) (.c (.int .i64 1))⟩,
 ⟨some 9, none, .mv (.t 67)⟩] [0, 1, 2, 7, 8, 9]))))))
 .skip))
 (.seq (.reg [⟨some 95, none, .mv (.t 2)⟩,
 ⟨some 96, none, .mv (.t 7)⟩,
 ⟨some 97, none, .bin .sub (.t 95) (.t 96)⟩,
 ⟨some 98, none, .bin .geq (.t 97) (.c (.int .i64 2))⟩] [0, 1, 2, 7, 8, 98])
 (.cond (.t 98)
 (.seq (.reg [⟨some 99, none, .mv (.t 7)⟩,
 ⟨some 100, none, .bin .add (.t 99) (.c (.int .i64 1))⟩,
 ⟨some 10, none, .mv (.t 100)⟩] [0, 1, 2, 7, 8, 10])
 (.block 6
 (.loop [0, 1, 2, 7, 8, 10]
 (.seq (.seq (.reg [⟨some 101, none, .mv (.t 10)⟩,
 ⟨some 102, none, .mv (.t 2)⟩,
 ⟨some 103, none, .bin .lss (.t 101) (.t 102)⟩] [0, 1, 2, 7, 8, 10, 103])
 (.cond (.t 103)
 .skip
 (.exit 6)))
 (.seq (.block 7
 (.seq (.seq (.dreg [⟨some 106, none, .mv (.t 0)⟩,
 ⟨some 107, none, .mv (.t 10)⟩,
 ⟨some 108, none, .ixS 1 (.t 106) (.t 107)⟩,
 ⟨some 109, none, .load none (.t 108)⟩,
 ⟨some 110, none, .mv (.t 0)⟩,
 ⟨some 111, none, .mv (.t 10)⟩,
 ⟨some 112, none, .bin .sub (.t 111) (.c (.int .i64 1))⟩,
 ⟨some 113, none, .ixS 1 (.t 110) (.t 112)⟩,
 ⟨some 114, none, .load none (.t 113)⟩,
 ⟨some 115, none, .call (.f 172) [false, false] [(.t 109), (.t 114)]⟩,
 ⟨some 116, none, .un .not (.t 115)⟩] [0, 1, 2, 7, 8, 10, 116] [[], [], [0, 1], [0, 1, 2], [], [], [5], [4, 5, 6], [4, 5, 6, 7], [0, 1, 2, 3, 4, 5, 6, 7, 8], [0, 1, 2, 3, 4, 5, 6, 7, 8, 9]])
 (.cond (.t 116)
 (.exit 6)
 .skip))
 (.dreg [⟨some 117, none, .mv (.t 0)⟩,
 ⟨some 118, none, .mv (.t 10)⟩,
 ⟨some 119, none, .mv (.t 0)⟩,
 ⟨some 120, none, .mv (.t 10)⟩,
 ⟨some 121, none, .bin .sub (.t 120) (.c (.int .i64 1))⟩,
 ⟨some 122, none, .mv (.t 0)⟩,
 ⟨some 123, none, .mv (.t 10)⟩,
 ⟨some 124, none, .bin .sub (.t 123) (.c (.int .i64 1))⟩,
 ⟨some 125, none, .ixS 1 (.t 122) (.t 124)⟩,
 ⟨some 126, none, .load none (.t 125)⟩,
 ⟨some 127, none, .mv (.t 0)⟩,
 ⟨some 128, none, .mv (.t 10)⟩,
 ⟨some 129, none, .ixS 1 (.t 127) (.t 128)⟩,
 ⟨some 130, none, .load none (.t 129)⟩,
 ⟨some 131, none, .ixS 1 (.t 117) (.t 118)⟩,
 ⟨none, none, .store 1 (.t 131) (.t 126)⟩,
 ⟨some 132, none, .ixS 1 (.t 119) (.t 121)⟩,
 ⟨none, none, .store 1 (.t 132) (.t 130)⟩] [0, 1, 2, 7, 8, 10] [[], [], [], [], [3], [], [], [6], [5, 6, 7], [5, 6, 7, 8], [], [], [10, 11], [10, 11, 12], [0, 1, 5, 6, 7, 8, 9, 10, 11, 12, 13], [0, 1, 5, 6, 7, 8, 9, 10, 11, 12, 13, 14], [0, 1, 2, 3, 4, 5, 6, 7, 8, 9, 10, 11, 12, 13, 14, 15], [0, 1, 2, 3, 4, 5, 6, 7, 8, 9, 10, 11, 12, 13, 14, 15, 16]])))
 (.reg [⟨some 104, none, .mv (.t 10)⟩,
 ⟨some 105, none, .bin .add (.t 104) (.c (.int .i64 1))⟩,
 ⟨some 10, none, .mv (.t 105)⟩] [0, 1, 2, 7, 8, 10]))))))
 .skip))))))))
 (.reg [⟨some 15, none, .mv (.t 8)⟩,
 ⟨some 16, none, .bin .add (.t 15) (.c (.int .i64 1))⟩,
 ⟨some 8, none, .mv (.t 16)⟩] [0, 1, 2, 7, 8]))))))
 (.seq (.reg [⟨some 6, none, .mv (.c (.bool false))⟩] [6])
 .ret))))
abbrev R_slices_partialInsertionSortOrdered_int : List (Nat × Option (Option Nat)) := [(6, none)]
theorem K_slices_partialInsertionSortOrdered_int : chkF Tryz.prog Tryz.f171 133 C_slices_partialInsertionSortOrdered_int R_slices_partialInsertionSortOrdered_int = true := by kernel_rfl
theorem spec_slices_partialInsertionSortOrdered_int {args : List AVal} {σ : AHeap} {R : ARes → AHeap → Prop} (ha : args.length ≤ 133) (h : AW Tryz.prog 133 none C_slices_partialInsertionSortOrdered_int (bodyQ R_slices_partialInsertionSortOrdered_int R) { v := argEnv args 0, ds := [] } σ) : Spec Tryz.prog F_slices_partialInsertionSortOrdered_int args σ R := Spec.of_fn Tryz.func171 K_slices_partialInsertionSortOrdered_int ha h
theorem B_slices_partialInsertionSortOrdered_int : hasBody Tryz.prog F_slices_partialInsertionSortOrdered_int = true := by kernel_rfl
theorem E_slices_partialInsertionSortOrdered_int : EntOk Tryz.prog ⟨171, 133, C_slices_partialInsertionSortOrdered_int, R_slices_partialInsertionSortOrdered_int, 0⟩ := ⟨fun _ => ⟨B_slices_partialInsertionSortOrdered_int, _, Tryz.func171, K_slices_partialInsertionSortOrdered_int⟩, fun h => by cases h⟩

abbrev F_cmp_Less_int : FuncId := 172
/-- cmp.Less[int]: parameters ['int', 'int'], results ['bool'] -/
def C_cmp_Less_int : AC :=
 (.seq (.reg [⟨some 4, none, .mv (.c (.bool false))⟩] [0, 1])
 (.seq (.reg [⟨some 5, none, .mv (.t 0)⟩,
 ⟨some 6, none, .call (.f 207) [false] [(.t 5)]⟩,
 ⟨some 7, none, .mv (.t 6)⟩,
 ⟨some 8, (some (7, true)), .mv (.t 1)⟩,
 ⟨some 9, (some (7, true)), .call (.f 207) [false] [(.t 8)]⟩,
 ⟨some 10, (some (7, true)), .un .not (.t 9)⟩,
 ⟨some 11, none, .pick (.t 7) (.t 10) (.c (.bool false))⟩,
 ⟨some 12, none, .mv (.t 11)⟩,
 ⟨some 13, (some (12, false)), .mv (.t 0)⟩,
 ⟨some 14, (some (12, false)), .mv (.t 1)⟩,
 ⟨some 15, (some (12, false)), .bin .lss (.t 13) (.t 14)⟩,
 ⟨some 16, none, .pick (.t 12) (.c (.bool true)) (.t 15)⟩,
 ⟨some 4, none, .mv (.t 16)⟩] [4])
 .ret))
abbrev R_cmp_Less_int : List (Nat × Option (Option Nat)) := [(4, none)]
theorem K_cmp_Less_int : chkF Tryz.prog Tryz.f172 17 C_cmp_Less_int R_cmp_Less_int = true := by kernel_rfl
theorem spec_cmp_Less_int {args : List AVal} {σ : AHeap} {R : ARes → AHeap → Prop} (ha : args.length ≤ 17) (h : AW Tryz.prog 17 none C_cmp_Less_int (bodyQ R_cmp_Less_int R) { v := argEnv args 0, ds := [] } σ) : Spec Tryz.prog F_cmp_Less_int args σ R := Spec.of_fn Tryz.func172 K_cmp_Less_int ha h
theorem B_cmp_Less_int : hasBody Tryz.prog F_cmp_Less_int = true := by kernel_rfl
theorem E_cmp_Less_int : EntOk Tryz.prog ⟨172, 17, C_cmp_Less_int, R_cmp_Less_int, 0⟩ := ⟨fun _ => ⟨B_cmp_Less_int, _, Tryz.func172, K_cmp_Less_int⟩, fun h => by cases h⟩

abbrev F_slices_partitionEqualOrdered_int : FuncId := 173
/-- slices.partitionEqualOrdered[int]: parameters ['[]int', 'int', 'int', 'int'], results ['int'] -/
def C_slices_partitionEqualOrdered_int : AC :=
 (.seq (.reg [⟨some 8, none, .mv (.c (.int .i64 0))⟩] [0, 1, 2, 3])
 (.seq (.dreg [⟨some 11, none, .mv (.t 0)⟩,
 ⟨some 12, none, .mv (.t 1)⟩,
 ⟨some 13, none, .mv (.t 0)⟩,
 ⟨some 14, none, .mv (.t 3)⟩,
 ⟨some 15, none, .mv (.t 0)⟩,
 ⟨some 16, none, .mv (.t 3)⟩,
 ⟨some 17, none, .ixS 1 (.t 15) (.t 16)⟩,
 ⟨some 18, none, .load none (.t 17)⟩,
 ⟨some 19, none, .mv (.t 0)⟩,
 ⟨some 20, none, .mv (.t 1)⟩,
 ⟨some 21, none, .ixS 1 (.t 19) (.t 20)⟩,
 ⟨some 22, none, .load none (.t 21)⟩,
 ⟨some 23, none, .ixS 1 (.t 11) (.t 12)⟩,
 ⟨none, none, .store 1 (.t 23) (.t 18)⟩,
 ⟨some 24, none, .ixS 1 (.t 13) (.t 14)⟩,
 ⟨none, none, .store 1 (.t 24) (.t 22)⟩] [0, 1, 2] [[], [], [], [], [], [], [4, 5], [4, 5, 6], [], [], [8, 9], [8, 9, 10], [0, 1, 4, 5, 6, 7, 8, 9, 10, 11], [0, 1, 4, 5, 6, 7, 8, 9, 10, 11, 12], [0, 1, 2, 3, 4, 5, 6, 7, 8, 9, 10, 11, 12, 13], [0, 1, 2, 3, 4, 5, 6, 7, 8, 9, 10, 11, 12, 13, 14]])
 (.seq (.reg [⟨some 25, none, .mv (.t 1)⟩,
 ⟨some 26, none, .bin .add (.t 25) (.c (.int .i64 1))⟩,
 ⟨some 27, none, .mv (.t 2)⟩,
 ⟨some 28, none, .bin .sub (.t 27) (.c (.int .i64 1))⟩,
 ⟨some 9, none, .mv (.t 26)⟩,
 ⟨some 10, none, .mv (.t 28)⟩] [0, 1, 9, 10])
 (.seq (.block 0
 (.loop [0, 1, 9, 10]
 (.block 1
 (.seq (.block 2
 (.loop [0, 1, 9, 10]
 (.seq (.seq (.dreg [⟨some 29, none, .mv (.t 9)⟩,
 ⟨some 30, none, .mv (.t 10)⟩,
 ⟨some 31, none, .bin .leq (.t 29) (.t 30)⟩,
 ⟨some 32, none, .mv (.t 31)⟩,
 ⟨some 33, (some (32, true)), .mv (.t 0)⟩,
 ⟨some 34, (some (32, true)), .mv (.t 1)⟩,
 ⟨some 35, (some (32, true)), .ixS 1 (.t 33) (.t 34)⟩,
 ⟨some 36, (some (32, true)), .load none (.t 35)⟩,
 ⟨some 37, (some (32, true)), .mv (.t 0)⟩,
 ⟨some 38, (some (32, true)), .mv (.t 9)⟩,
 ⟨some 39, (some (32, true)), .ixS 1 (.t 37) (.t 38)⟩,
 ⟨some 40, (some (32, true)), .load none (.t 39)⟩,
 ⟨some 41, (some (32, true)), .call (.f 172) [false, false] [(.t 36), (.t 40)]⟩,
 ⟨some 42, (some (32, true)), .un .not (.t 41)⟩,
 ⟨some 43, none, .pick (.t 32) (.t 42) (.c (.bool false))⟩] [0, 1, 9, 10, 43] [[], [], [0, 1], [0, 1, 2], [0, 1, 2, 3], [0, 1, 2, 3], [0, 1, 2, 3, 4, 5], [0, 1, 2, 3, 4, 5, 6], [0, 1, 2, 3], [0, 1, 2, 3], [0, 1, 2, 3, 8, 9], [0, 1, 2, 3, 8, 9, 10], [0, 1, 2, 3, 4, 5, 6, 7, 8, 9, 10, 11], [0, 1, 2, 3, 4, 5, 6, 7, 8, 9, 10, 11, 12], [0, 1, 2, 3, 4, 5, 6, 7, 8, 9, 10, 11, 12, 13]])
 (.cond (.t 43)
 .skip
 (.exit 2)))
 (.block 3
 (.reg [⟨some 44, none, .mv (.t 9)⟩,
 ⟨some 45, none, .bin .add (.t 44) (.c (.int .i64 1))⟩,
 ⟨some 9, none, .mv (.t 45)⟩] [0, 1, 9, 10])))))
 (.seq (.block 4
 (.loop [0, 1, 9, 10]
 (.seq (.seq (.dreg [⟨some 46, none, .mv (.t 9)⟩,
 ⟨some 47, none, .mv (.t 10)⟩,
 ⟨some 48, none, .bin .leq (.t 46) (.t 47)⟩,
 ⟨some 49, none, .mv (.t 48)⟩,
 ⟨some 50, (some (49, true)), .mv (.t 0)⟩,
 ⟨some 51, (some (49, true)), .mv (.t 1)⟩,
 ⟨some 52, (some (49, true)), .ixS 1 (.t 50) (.t 51)⟩,
 ⟨some 53, (some (49, true)), .load none (.t 52)⟩,
 ⟨some 54, (some (49, true)), .mv (.t 0)⟩,
 ⟨some 55, (some (49, true)), .mv (.t 10)⟩,
 ⟨some 56, (some (49, true)), .ixS 1 (.t 54) (.t 55)⟩,
 ⟨some 57, (some (49, true)), .load none (.t 56)⟩,
 ⟨some 58, (some (49, true)), .call (.f 172) [false, false] [(.t 53), (.t 57)]⟩,
 ⟨some 59, none, .pick (.t 49) (.t 58) (.c (.bool false))⟩] [0, 1, 9, 10, 59] [[], [], [0, 1], [0, 1, 2], [0, 1, 2, 3], [0, 1, 2, 3], [0, 1, 2, 3, 4, 5], [0, 1, 2, 3, 4, 5, 6], [0, 1, 2, 3], [0, 1, 2, 3], [0, 1, 2, 3, 8, 9], [0, 1, 2, 3, 8, 9, 10], [0, 1, 2, 3, 4, 5, 6, 7, 8, 9, 10, 11], [0, 1, 2, 3, 4, 5, 6, 7, 8, 9, 10, 11, 12]])
 (.cond (.t 59)
 .skip
 (.exit 4)))
 (.block 5
 (.reg [⟨some 60, none, .mv (.t 10)⟩,
 ⟨some 61, none, .bin .sub (.t 60) (.c (.int .i64 1))⟩,
 ⟨some 10, none, .mv (.t 61)⟩] [0, 1, 9, 10])))))
 (.seq (.seq (.reg [⟨some 62, none, .mv (.t 9)⟩,
 ⟨some 63, none, .mv (.t 10)⟩,
 ⟨some 64, none, .bin .gtr (.t 62) (.t 63)⟩] [0, 1, 9, 10, 64])
 (.cond (.t 64)
 (.exit 0)
 .skip))
 (.seq (.dreg [⟨some 65, none, .mv (.t 0)⟩,
 ⟨some 66, none, .mv (.t 9)⟩,
 ⟨some 67, none, .mv (.t 0)⟩,
 ⟨some 68, none, .mv (.t 10)⟩,
 ⟨some 69, none, .mv (.t 0)⟩,
 ⟨some 70, none, .mv (.t 10)⟩,
 ⟨some 71, none, .ixS 1 (.t 69) (.t 70)⟩,
 ⟨some 72, none, .load none (.t 71)⟩,
 ⟨some 73, none, .mv (.t 0)⟩,
 ⟨some 74, none, .mv (.t 9)⟩,
 ⟨some 75, none, .ixS 1 (.t 73) (.t 74)⟩,
 ⟨some 76, none, .load none (.t 75)⟩,
 ⟨some 77, none, .ixS 1 (.t 65) (.t 66)⟩,
 ⟨none, none, .store 1 (.t 77) (.t 72)⟩,
 ⟨some 78, none, .ixS 1 (.t 67) (.t 68)⟩,
 ⟨none, none, .store 1 (.t 78) (.t 76)⟩] [0, 1, 9, 10] [[], [], [], [], [], [], [4, 5], [4, 5, 6], [], [], [8, 9], [8, 9, 10], [0, 1, 4, 5, 6, 7, 8, 9, 10, 11], [0, 1, 4, 5, 6, 7, 8, 9, 10, 11, 12], [0, 1, 2, 3, 4, 5, 6, 7, 8, 9, 10, 11, 12, 13], [0, 1, 2, 3, 4, 5, 6, 7, 8, 9, 10, 11, 12, 13, 14]])
 (.seq (.reg [⟨some 79, none, .mv (.t 9)⟩,
 ⟨some 80, none, .bin .add (.t 79) (.c (.int .i64 1))⟩,
 ⟨some 9, none, .mv (.t 80)⟩] [0, 1, 9, 10])
 (.reg [⟨some 81, none, .mv (.t 10)⟩,
 ⟨some 82, none, .bin .sub (.t 81) (.c (.int .i64 1))⟩,
 ⟨some 10, none, .mv (.t 82)⟩] [0, 1, 9, 10])))))))))
 (.seq (.reg [⟨some 83, none, .mv (.t 9)⟩,
 ⟨some 8, none, .mv (.t 83)⟩] [8])
 .ret)))))
abbrev R_slices_partitionEqualOrdered_int : List (Nat × Option (Option Nat)) := [(8, none)]
theorem K_slices_partitionEqualOrdered_int : chkF Tryz.prog Tryz.f173 84 C_slices_partitionEqualOrdered_int R_slices_partitionEqualOrdered_int = true := by kernel_rfl
theorem spec_slices_partitionEqualOrdered_int {args : List AVal} {σ : AHeap} {R : ARes → AHeap → Prop} (ha : args.length ≤ 84) (h : AW Tryz.prog 84 none C_slices_partitionEqualOrdered_int (bodyQ R_slices_partitionEqualOrdered_int R) { v := argEnv args 0, ds := [] } σ) : Spec Tryz.prog F_slices_partitionEqualOrdered_int args σ R := Spec.of_fn Tryz.func173 K_slices_partitionEqualOrdered_int ha h
theorem B_slices_partitionEqualOrdered_int : hasBody Tryz.prog F_slices_partitionEqualOrdered_int = true := by kernel_rfl
theorem E_slices_partitionEqualOrdered_int : EntOk Tryz.prog ⟨173, 84, C_slices_partitionEqualOrdered_int, R_slices_partitionEqualOrdered_int, 0⟩ := ⟨fun _ => ⟨B_slices_partitionEqualOrdered_int, _, Tryz.func173, K_slices_partitionEqualOrdered_int⟩, fun h => by cases h⟩

abbrev F_slices_partitionOrdered_int : FuncId := 174
/-- slices.partitionOrdered[int]: parameters ['[]int', 'int', 'int', 'int'], results ['int', 'bool'] -/
def C_slices_partitionOrdered_int : AC :=
 (.seq (.reg [⟨some 8, none, .mv (.c (.int .i64 0))⟩,
 ⟨some 9, none, .mv (.c (.bool false))⟩] [0, 1, 2, 3])
 (.seq (.dreg [⟨some 12, none, .mv (.t 0)⟩,
 ⟨some 13, none, .mv (.t 1)⟩,
 ⟨some 14, none, .mv (.t 0)⟩,
 ⟨some 15, none, .mv (.t 3)⟩,
 ⟨some 16, none, .mv (.t 0)⟩,
 ⟨some 17, none, .mv (.t 3)⟩,
 ⟨some 18, none, .ixS 1 (.t 16) (.t 17)⟩,
 ⟨some 19, none, .load none (.t 18)⟩,
 ⟨some 20, none, .mv (.t 0)⟩,
 ⟨some 21, none, .mv (.t 1)⟩,
 ⟨some 22, none, .ixS 1 (.t 20) (.t 21)⟩,
 ⟨some 23, none, .load none (.t 22)⟩,
 ⟨some 24, none, .ixS 1 (.t 12) (.t 13)⟩,
 ⟨none, none, .store 1 (.t 24) (.t 19)⟩,
 ⟨some 25, none, .ixS 1 (.t 14) (.t 15)⟩,
 ⟨none, none, .store 1 (.t 25) (.t 23)⟩] [0, 1, 2] [[], [], [], [], [], [], [4, 5], [4, 5, 6], [], [], [8, 9], [8, 9, 10], [0, 1, 4, 5, 6, 7, 8, 9, 10, 11], [0, 1, 4, 5, 6, 7, 8, 9, 10, 11, 12], [0, 1, 2, 3, 4, 5, 6, 7, 8, 9, 10, 11, 12, 13], [0, 1, 2, 3, 4, 5, 6, 7, 8, 9, 10, 11, 12, 13, 14]])
 (.seq (.reg [⟨some 26, none, .mv (.t 1)⟩,
 ⟨some 27, none, .bin .add (.t 26) (.c (.int .i64 1))⟩,
 ⟨some 28, none, .mv (.t 2)⟩,
 ⟨some 29, none, .bin .sub (.t 28) (.c (.int .i64 1))⟩,
 ⟨some 10, none, .mv (.t 27)⟩,
 ⟨some 11, none, .mv (.t 29)⟩] [0, 1, 10, 11])
 (.seq (.block 0
 (.loop [0, 1, 10, 11]
 (.seq (.seq (.dreg [⟨some 30, none, .mv (.t 10)⟩,
 ⟨some 31, none, .mv (.t 11)⟩,
 ⟨some 32, none, .bin .leq (.t 30) (.t 31)⟩,
 ⟨some 33, none, .mv (.t 32)⟩,
 ⟨some 34, (some (33, true)), .mv (.t 0)⟩,
 ⟨some 35, (some (33, true)), .mv (.t 10)⟩,
 ⟨some 36, (some (33, true)), .ixS 1 (.t 34) (.t 35)⟩,
 ⟨some 37, (some (33, true)), .load none (.t 36)⟩,
 ⟨some 38, (some (33, true)), .mv (.t 0)⟩,
 ⟨some 39, (some (33, true)), .mv (.t 1)⟩,
 ⟨some 40, (some (33, true)), .ixS 1 (.t 38) (.t 39)⟩,
 ⟨some 41, (some (33, true)), .load none (.t 40)⟩,
 ⟨some 42, (some (33, true)), .call (.f 172) [false, false] [(.t 37), (.t 41)]⟩,
 ⟨some 43, none, .pick (.t 33) (.t 42) (.c (.bool false))⟩] [0, 1, 10, 11, 43] [[], [], [0, 1], [0, 1, 2], [0, 1, 2, 3], [0, 1, 2, 3], [0, 1, 2, 3, 4, 5], [0, 1, 2, 3, 4, 5, 6], [0, 1, 2, 3], [0, 1, 2, 3], [0, 1, 2, 3, 8, 9], [0, 1, 2, 3, 8, 9, 10], [0, 1, 2, 3, 4, 5, 6, 7, 8, 9, 10, 11], [0, 1, 2, 3, 4, 5, 6, 7, 8, 9, 10, 11, 12]])
 (.cond (.t 43)
 .skip
 (.exit 0)))
 (.block 1
 (.reg [⟨some 44, none, .mv (.t 10)⟩,
 ⟨some 45, none, .bin .add (.t 44) (.c (.int .i64 1))⟩,
 ⟨some 10, none, .mv (.t 45)⟩] [0, 1, 10, 11])))))
 (.seq (.block 2
 (.loop [0, 1, 10, 11]
 (.seq (.seq (.dreg [⟨some 46, none, .mv (.t 10)⟩,
 ⟨some 47, none, .mv (.t 11)⟩,
 ⟨some 48, none, .bin .leq (.t 46) (.t 47)⟩,
 ⟨some 49, none, .mv (.t 48)⟩,
 ⟨some 50, (some (49, true)), .mv (.t 0)⟩,
 ⟨some 51, (some (49, true)), .mv (.t 11)⟩,
 ⟨some 52, (some (49, true)), .ixS 1 (.t 50) (.t 51)⟩,
 ⟨some 53, (some (49, true)), .load none (.t 52)⟩,
 ⟨some 54, (some (49, true)), .mv (.t 0)⟩,
 ⟨some 55, (some (49, true)), .mv (.t 1)⟩,
 ⟨some 56, (some (49, true)), .ixS 1 (.t 54) (.t 55)⟩,
 ⟨some 57, (some (49, true)), .load none (.t 56)⟩,
 ⟨some 58, (some (49, true)), .call (.f 172) [false, false] [(.t 53), (.t 57)]⟩,
 ⟨some 59, (some (49, true)), .un .not (.t 58)⟩,
 ⟨some 60, none, .pick (.t 49) (.t 59) (.c (.bool false))⟩] [0, 1, 10, 11, 60] [[], [], [0, 1], [0, 1, 2], [0, 1, 2, 3], [0, 1, 2, 3], [0, 1, 2, 3, 4, 5], [0, 1, 2, 3, 4, 5, 6], [0, 1, 2, 3], [0, 1, 2, 3], [0, 1, 2, 3, 8, 9], [0, 1, 2, 3, 8, 9, 10], [0, 1, 2, 3, 4, 5, 6, 7, 8, 9, 10, 11], [0, 1, 2, 3, 4, 5, 6, 7, 8, 9, 10, 11, 12], [0, 1, 2, 3, 4, 5, 6, 7, 8, 9, 10, 11, 12, 13]])
 (.cond (.t 60)
 .skip
 (.exit 2)))
 (.block 3
 (.reg [⟨some 61, none, .mv (.t 11)⟩,
 ⟨some 62, none, .bin .sub (.t 61) (.c (.int .i64 1))⟩,
 ⟨some 11, none, .mv (.t 62)⟩] [0, 1, 10, 11])))))
 (.seq (.seq (.reg [⟨some 63, none, .mv (.t 10)⟩,
 ⟨some 64, none, .mv (.t 11)⟩,
 ⟨some 65, none, .bin .gtr (.t 63) (.t 64)⟩] [0, 1, 10, 11, 65])
 (.cond (.t 65)
 (.seq (.dreg [⟨some 66, none, .mv (.t 0)⟩,
 ⟨some 67, none, .mv (.t 11)⟩,
 ⟨some 68, none, .mv (.t 0)⟩,
 ⟨some 69, none, .mv (.t 1)⟩,
 ⟨some 70, none, .mv (.t 0)⟩,
 ⟨some 71, none, .mv (.t 1)⟩,
 ⟨some 72, none, .ixS 1 (.t 70) (.t 71)⟩,
 ⟨some 73, none, .load none (.t 72)⟩,
 ⟨some 74, none, .mv (.t 0)⟩,
 ⟨some 75, none, .mv (.t 11)⟩,
 ⟨some 76, none, .ixS 1 (.t 74) (.t 75)⟩,
 ⟨some 77, none, .load none (.t 76)⟩,
 ⟨some 78, none, .ixS 1 (.t 66) (.t 67)⟩,
 ⟨none, none, .store 1 (.t 78) (.t 73)⟩,
 ⟨some 79, none, .ixS 1 (.t 68) (.t 69)⟩,
 ⟨none, none, .store 1 (.t 79) (.t 77)⟩] [11] [[], [], [], [], [], [], [4, 5], [4, 5, 6], [], [], [8, 9], [8, 9, 10], [0, 1, 4, 5, 6, 7, 8, 9, 10, 11], [0, 1, 4, 5, 6, 7, 8, 9, 10, 11, 12], [0, 1, 2, 3, 4, 5, 6, 7, 8, 9, 10, 11, 12, 13], [0, 1, 2, 3, 4, 5, 6, 7, 8, 9, 10, 11, 12, 13, 14]])
 (.seq (.reg [⟨some 80, none, .mv (.t 11)⟩,
 ⟨some 8, none, .mv (.t 80)⟩,
 ⟨some 9, none, .mv (.c (.bool true))⟩] [8, 9])
 .ret))
 .skip))
 (.seq (.dreg [⟨some 81, none, .mv (.t 0)⟩,
 ⟨some 82, none, .mv (.t 10)⟩,
 ⟨some 83, none, .mv (.t 0)⟩,
 ⟨some 84, none, .mv (.t 11)⟩,
 ⟨some 85, none, .mv (.t 0)⟩,
 ⟨some 86, none, .mv (.t 11)⟩,
 ⟨some 87, none, .ixS 1 (.t 85) (.t 86)⟩,
 ⟨some 88, none, .load none (.t 87)⟩,
 ⟨some 89, none, .mv (.t 0)⟩,
 ⟨some 90, none, .mv (.t 10)⟩,
 ⟨some 91, none, .ixS 1 (.t 89) (.t 90)⟩,
 ⟨some 92, none, .load none (.t 91)⟩,
 ⟨some 93, none, .ixS 1 (.t 81) (.t 82)⟩,
 ⟨none, none, .store 1 (.t 93) (.t 88)⟩,
 ⟨some 94, none, .ixS 1 (.t 83) (.t 84)⟩,
 ⟨none, none, .store 1 (.t 94) (.t 92)⟩] [0, 1, 10, 11] [[], [], [], [], [], [], [4, 5], [4, 5, 6], [], [], [8, 9], [8, 9, 10], [0, 1, 4, 5, 6, 7, 8, 9, 10, 11], [0, 1, 4, 5, 6, 7, 8, 9, 10, 11, 12], [0, 1, 2, 3, 4, 5, 6, 7, 8, 9, 10, 11, 12, 13], [0, 1, 2, 3, 4, 5, 6, 7, 8, 9, 10, 11, 12, 13, 14]])
 (.seq (.reg [⟨some 95, none, .mv (.t 10)⟩,
 ⟨some 96, none, .bin .add (.t 95) (.c (.int .i64 1))⟩,
 ⟨some 10, none, .mv (.t 96)⟩] [0, 1, 10, 11])
 (.seq (.reg [⟨some 97, none, .mv (.t 11)⟩,
 ⟨some 98, none, .bin .sub (.t 97) (.c (.int .i64 1))⟩,
 ⟨some 11, none, .mv (.t 98)⟩] [0, 1, 10, 11])
 (.seq (.block 4
 (.loop [0, 1, 10, 11]
 (.block 5
 (.seq (.block 6
 (.loop [0, 1, 10, 11]
 (.seq (.seq (.dreg [⟨some 99, none, .mv (.t 10)⟩,
 ⟨some 100, none, .mv (.t 11)⟩,
 ⟨some 101, none, .bin .leq (.t 99) (.t 100)⟩,
 ⟨some 102, none, .mv (.t 101)⟩,
 ⟨some 103, (some (102, true)), .mv (.t 0)⟩,
 ⟨some 104, (some (102, true)), .mv (.t 10)⟩,
 ⟨some 105, (some (102, true)), .ixS 1 (.t 103) (.t 104)⟩,
 ⟨some 106, (some (102, true)), .load none (.t 105)⟩,
 ⟨some 107, (some (102, true)), .mv (.t 0)⟩,
 ⟨some 108, (some (102, true)), .mv (.t 1)⟩,
 ⟨some 109, (some (102, true)), .ixS 1 (.t 107) (.t 108)⟩,
 ⟨some 110, (some (102, true)), .load none (.t 109)⟩,
 ⟨some 111, (some (102, true)), .call (.f 172) [false, false] [(.t 106), (.t 110)]⟩,
 ⟨some 112, none, .pick (.t 102) (.t 111) (.c (.bool false))⟩] [0, 1, 10, 11, 112] [[], [], [0, 1], [0, 1, 2], [0, 1, 2, 3], [0, 1, 2, 3], [0, 1, 2, 3, 4, 5], [0, 1, 2, 3, 4, 5, 6], [0, 1, 2, 3], [0, 1, 2, 3], [0, 1, 2, 3, 8, 9], [0, 1, 2, 3, 8, 9, 10], [0, 1, 2, 3, 4, 5, 6, 7, 8, 9, 10, 11], [0, 1, 2, 3, 4, 5, 6, 7, 8, 9, 10, 11, 12]])
 (.cond (.t 112)
 .skip
 (.exit 6)))
 (.block 7
 (.reg [⟨some 113, none, .mv (.t 10)⟩,
 ⟨some 114, none, .bin .add (.t 113) (.c (.int .i64 1))⟩,
 ⟨some 10, none, .mv (.t 114)⟩] [0, 1, 10, 11])))))
 (.seq (.block 8
 (.loop [0, 1, 10, 11]
 (.seq (.seq (.dreg [⟨some 115, none, .mv (.t 10)⟩,
 ⟨some 116, none, .mv (.t 11)⟩,
 ⟨some 117, none, .bin .leq (.t 115) (.t 116)⟩,
 ⟨some 118, none, .mv (.t 117)⟩,
 ⟨some 119, (some (118, true)), .mv (.t 0)⟩,
 ⟨some 120, (some (118, true)), .mv (.t 11)⟩,
 ⟨some 121, (some (118, true)), .ixS 1 (.t 119) (.t 120)⟩,
 ⟨some 122, (some (118, true)), .load none (.t 121)⟩,
 ⟨some 123, (some (118, true)), .mv (.t 0)⟩,
 ⟨some 124, (some (118, true)), .mv (.t 1)⟩,
 ⟨some 125, (some (118, true)), .ixS 1 (.t 123) (.t 124)⟩,
 ⟨some 126, (some (118, true)), .load none (.t 125)⟩,
 ⟨some 127, (some (118, true)), .call (.f 172) [false, false] [(.t 122), (.t 126)]⟩,
 ⟨some 128, (some (118, true)), .un .not (.t 127)⟩,
 ⟨some 129, none, .pick (.t 118) (.t 128) (.c (.bool false))⟩] [0, 1, 10, 11, 129] [[], [], [0, 1], [0, 1, 2], [0, 1, 2, 3], [0, 1, 2, 3], [0, 1, 2, 3, 4, 5], [0, 1, 2, 3, 4, 5, 6], [0, 1, 2, 3], [0, 1, 2, 3], [0, 1, 2, 3, 8, 9], [0, 1, 2, 3, 8, 9, 10], [0, 1, 2, 3, 4, 5, 6, 7, 8, 9, 10, 11], [0, 1, 2, 3, 4, 5, 6, 7, 8, 9, 10, 11, 12], [0, 1, 2, 3, 4, 5, 6, 7, 8, 9, 10, 11, 12, 13]])
 (.cond (.t 129)
 .skip
 (.exit 8)))
 (.block 9
 (.reg [⟨some 130, none, .mv (.t 11)⟩,
 ⟨some 131, none, .bin .sub (.t 130) (.c (.int .i64 1))⟩,
 ⟨some 11, none, .mv (.t 131)⟩] [0, 1, 10, 11])))))
 (.seq (.seq (.reg [⟨some 132, none, .mv (.t 10)⟩,
 ⟨some 133, none, .mv (.t 11)⟩,
 ⟨some 134, none, .bin .gtr (.t 132) (.t 133)⟩] [0, 1, 10, 11, 134])
 (.cond (.t 134)
 (.exit 4)
 .skip))
 (.seq (.dreg [⟨some 135, none, .mv (.t 0)⟩,
 ⟨some 136, none, .mv (.t 10)⟩,
 ⟨some 137, none, .mv (.t 0)⟩,
 ⟨some 138, none, .mv (.t 11)⟩,
 ⟨some 139, none, .mv (.t 0)⟩,
 ⟨some 140, none, .mv (.t 11)⟩,
 ⟨some 141, none, .ixS 1 (.t 139) (.t 140)⟩,
 ⟨some 142, none, .load none (.t 141)⟩,
 ⟨some 143, none, .mv (.t 0)⟩,
 ⟨some 144, none, .mv (.t 10)⟩,
 ⟨some 145, none, .ixS 1 (.t 143) (.t 144)⟩,
 ⟨some 146, none, .load none (.t 145)⟩,
 ⟨some 147, none, .ixS 1 (.t 135) (.t 136)⟩,
 ⟨none, none, .store 1 (.t 147) (.t 142)⟩,
 ⟨some 148, none, .ixS 1 (.t 137) (.t 138)⟩,
 ⟨none, none, .store 1 (.t 148) (.t 146)⟩] [0, 1, 10, 11] [[], [], [], [], [], [], [4, 5], [4, 5, 6], [], [], [8, 9], [8, 9, 10], [0, 1, 4, 5, 6, 7, 8, 9, 10, 11], [0, 1, 4, 5, 6, 7, 8, 9, 10, 11, 12], [0, 1, 2, 3, 4, 5, 6, 7, 8, 9, 10, 11, 12, 13], [0, 1, 2, 3, 4, 5, 6, 7, 8, 9, 10, 11, 12, 13, 14]])
 (.seq (.reg [⟨some 149, none, .mv (.t 10)⟩,
 ⟨some 150, none, .bin .add (.t 149) (.c (.int .i64 1))⟩,
 ⟨some 10, none, .mv (.t 150)⟩] [0, 1, 10, 11])
 (.reg [⟨some 151, none, .mv (.t 11)⟩,
 ⟨some 152, none, .bin .sub (.t 151) (.c (.int .i64 1))⟩,
 ⟨some 11, none, .mv (.t 152)⟩] [0, 1, 10, 11])))))))))
 (.seq (.dreg [⟨some 153, none, .mv (.t 0)⟩,
 ⟨some 154, none, .mv (.t 11)⟩,
 ⟨some 155, none, .mv (.t 0)⟩,
 ⟨some 156, none, .mv (.t 1)⟩,
 ⟨some 157, none, .mv (.t 0)⟩,
 ⟨some 158, none, .mv (.t 1)⟩,
 ⟨some 159, none, .ixS 1 (.t 157) (.t 158)⟩,
 ⟨some 160, none, .load none (.t 159)⟩,
 ⟨some 161, none, .mv (.t 0)⟩,
 ⟨some 162, none, .mv (.t 11)⟩,
 ⟨some 163, none, .ixS 1 (.t 161) (.t 162)⟩,
 ⟨some 164, none, .load none (.t 163)⟩,
 ⟨some 165, none, .ixS 1 (.t 153) (.t 154)⟩,
 ⟨none, none, .store 1 (.t 165) (.t 160)⟩,
 ⟨some 166, none, .ixS 1 (.t 155) (.t 156)⟩,
 ⟨none, none, .store 1 (.t 166) (.t 164)⟩] [11] [[], [], [], [], [], [], [4, 5], [4, 5, 6], [], [], [8, 9], [8, 9, 10], [0, 1, 4, 5, 6, 7, 8, 9, 10, 11], [0, 1, 4, 5, 6, 7, 8, 9, 10, 11, 12], [0, 1, 2, 3, 4, 5, 6, 7, 8, 9, 10, 11, 12, 13], [0, 1, 2, 3, 4, 5, 6, 7, 8, 9, 10, 11, 12, 13, 14]])
 (.seq (.reg [⟨some 167, none, .mv (.t 11)⟩,
 ⟨some 8, none, .mv (.t 167)⟩,
 ⟨some 9, none, .mv (.c (.bool false))⟩] [8, 9])
 .ret))))))))))))
abbrev R_slices_partitionOrdered_int : List (Nat × Option (Option Nat)) := [(8, none), (9, none)]
theorem K_slices_partitionOrdered_int : chkF Tryz.prog Tryz.f174 168 C_slices_partitionOrdered_int R_slices_partitionOrdered_int = true := by kernel_rfl
theorem spec_slices_partitionOrdered_int {args : List AVal} {σ : AHeap} {R : ARes → AHeap → Prop} (ha : args.length ≤ 168) (h : AW Tryz.prog 168 none C_slices_partitionOrdered_int (bodyQ R_slices_partitionOrdered_int R) { v := argEnv args 0, ds := [] } σ) : Spec Tryz.prog F_slices_partitionOrdered_int args σ R := Spec.of_fn Tryz.func174 K_slices_partitionOrdered_int ha h
theorem B_slices_partitionOrdered_int : hasBody Tryz.prog F_slices_partitionOrdered_int = true := by kernel_rfl
theorem E_slices_partitionOrdered_int : EntOk Tryz.prog ⟨174, 168, C_slices_partitionOrdered_int, R_slices_partitionOrdered_int, 0⟩ := ⟨fun _ => ⟨B_slices_partitionOrdered_int, _, Tryz.func174, K_slices_partitionOrdered_int⟩, fun h => by cases h⟩

abbrev F_math_bits_Len32 : FuncId := 175
/-- math/bits.Len32: parameters ['uint32'], results ['int'] -/
def C_math_bits_Len32 : AC :=
 (.seq (.reg [⟨some 2, none, .mv (.c (.int .i64 0))⟩] [0, 2])
 (.seq (.seq (.reg [⟨some 3, none, .mv (.t 0)⟩,
 ⟨some 4, none, .bin .geq (.t 3) (.c (.int .u32 65536))⟩] [0, 2, 4])
 (.cond (.t 4)
 (.seq (.reg [⟨some 5, none, .mv (.t 0)⟩,
 ⟨some 6, none, .bin .shr (.t 5) (.c (.int .u64 16))⟩,
 ⟨some 0, none, .mv (.t 6)⟩] [0])
 (.reg [⟨some 2, none, .mv (.c (.int .i64 16))⟩] [0, 2]))
 .skip))
 (.seq (.seq (.reg [⟨some 7, none, .mv (.t 0)⟩,
 ⟨some 8, none, .bin .geq (.t 7) (.c (.int .u32 256))⟩] [0, 2, 8])
 (.cond (.t 8)
 (.seq (.reg [⟨some 9, none, .mv (.t 0)⟩,
 ⟨some 10, none, .bin .shr (.t 9) (.c (.int .u64 8))⟩,
 ⟨some 0, none, .mv (.t 10)⟩] [0, 2])
 (.reg [⟨some 11, none, .mv (.t 2)⟩,
 ⟨some 12, none, .bin .add (.t 11) (.c (.int .i64 8))⟩,
 ⟨some 2, none, .mv (.t 12)⟩] [0, 2]))
 .skip))
 (.seq (.reg [⟨some 13, none, .mv (.t 2)⟩,
 ⟨some 14, none, .mv (.t 0)⟩,
 ⟨some 15, none, .conv .u8 (.t 14)⟩,
 ⟨some 16, none, .ixStr (.c (.str ⟨#[0, 1, 2, 2, 3, 3, 3, 3, 4, 4, 4, 4, 4, 4, 4, 4, 5, 5, 5, 5, 5, 5, 5, 5, 5, 5, 5, 5, 5, 5, 5, 5, 6, 6, 6, 6, 6, 6, 6, 6, 6, 6, 6, 6, 6, 6, 6, 6, 6, 6, 6, 6, 6, 6, 6, 6, 6, 6, 6, 6, 6, 6, 6, 6, 7, 7, 7, 7, 7, 7, 7, 7, 7, 7, 7, 7, 7, 7, 7, 7, 7, 7, 7, 7, 7, 7, 7, 7, 7, 7, 7, 7, 7, 7, 7, 7, 7, 7, 7, 7, 7, 7, 7, 7, 7, 7, 7, 7, 7, 7, 7, 7, 7, 7, 7, 7, 7, 7, 7, 7, 7, 7, 7, 7, 7, 7, 7, 7, 8, 8, 8, 8, 8, 8, 8, 8, 8, 8, 8, 8, 8, 8, 8, 8, 8, 8, 8, 8, 8, 8, 8, 8, 8, 8, 8, 8, 8, 8, 8, 8, 8, 8, 8, 8, 8, 8, 8, 8, 8, 8, 8, 8, 8, 8, 8, 8, 8, 8, 8, 8, 8, 8, 8, 8, 8, 8, 8, 8, 8, 8, 8, 8, 8, 8, 8, 8, 8, 8, 8, 8, 8, 8, 8, 8, 8, 8, 8, 8, 8, 8, 8, 8, 8, 8, 8, 8, 8, 8, 8, 8, 8, 8, 8, 8, 8, 8, 8, 8, 8, 8, 8, 8, 8, 8, 8, 8, 8, 8, 8, 8, 8, 8, 8, 8, 8, 8, 8, 8, 8, 8, 8, 8, 8, 8, 8, 8]⟩)) (.t 15)⟩,
 ⟨some 17, none, .conv .i64 (.t 16)⟩,
 ⟨some 18, none, .bin .add (.t 13) (.t 17)⟩,
 ⟨some 2, none, .mv (.t 18)⟩] [2])
 .ret))))
abbrev R_math_bits_Len32 : List (Nat × Option (Option Nat)) := [(2, none)]
theorem K_math_bits_Len32 : chkF Tryz.prog Tryz.f175 19 C_math_bits_Len32 R_math_bits_Len32 = true := by kernel_rfl
theorem spec_math_bits_Len32 {args : List AVal} {σ : AHeap} {R : ARes → AHeap → Prop} (ha : args.length ≤ 19) (h : AW Tryz.prog 19 none C_math_bits_Len32 (bodyQ R_math_bits_Len32 R) { v := argEnv args 0, ds := [] } σ) : Spec Tryz.prog F_math_bits_Len32 args σ R := Spec.of_fn Tryz.func175 K_math_bits_Len32 ha h
theorem B_math_bits_Len32 : hasBody Tryz.prog F_math_bits_Len32 = true := by kernel_rfl
theorem E_math_bits_Len32 : EntOk Tryz.prog ⟨175, 19, C_math_bits_Len32, R_math_bits_Len32, 0⟩ := ⟨fun _ => ⟨B_math_bits_Len32, _, Tryz.func175, K_math_bits_Len32⟩, fun h => by cases h⟩

abbrev F_math_bits_Len64 : FuncId := 176
/-- math/bits.Len64: parameters ['uint64'], results ['int'] -/
def C_math_bits_Len64 : AC :=
 (.seq (.reg [⟨some 2, none, .mv (.c (.int .i64 0))⟩] [0, 2])
 (.seq (.seq (.reg [⟨some 3, none, .mv (.t 0)⟩,
 ⟨some 4, none, .bin .geq (.t 3) (.c (.int .u64 4294967296))⟩] [0, 2, 4])
 (.cond (.t 4)
 (.seq (.reg [⟨some 5, none, .mv (.t 0)⟩,
 ⟨some 6, none, .bin .shr (.t 5) (.c (.int .u64 32))⟩,
 ⟨some 0, none, .mv (.t 6)⟩] [0])
 (.reg [⟨some 2, none, .mv (.c (.int .i64 32))⟩] [0, 2]))
 .skip))
 (.seq (.seq (.reg [⟨some 7, none, .mv (.t 0)⟩,
 ⟨some 8, none, .bin .geq (.t 7) (.c (.int .u64 65536))⟩] [0, 2, 8])
 (.cond (.t 8)
 (.seq (.reg [⟨some 9, none, .mv (.t 0)⟩,
 ⟨some 10, none, .bin .shr (.t 9) (.c (.int .u64 16))⟩,
 ⟨some 0, none, .mv (.t 10)⟩] [0, 2])
 (.reg [⟨some 11, none, .mv (.t 2)⟩,
 ⟨some 12, none, .bin .add (.t 11) (.c (.int .i64 16))⟩,
 ⟨some 2, none, .mv (.t 12)⟩] [0, 2]))
 .skip))
 (.seq (.seq (.reg [⟨some 13, none, .mv (.t 0)⟩,
 ⟨some 14, none, .bin .geq (.t 13) (.c (.int .u64 256))⟩] [0, 2, 14])
 (.cond (.t 14)
 (.seq (.reg [⟨some 15, none, .mv (.t 0)⟩,
 ⟨some 16, none, .bin .shr (.t 15) (.c (.int .u64 8))⟩,
 ⟨some 0, none, .mv (.t 16)⟩] [0, 2])
 (.reg [⟨some 17, none, .mv (.t 2)⟩,
 ⟨some 18, none, .bin .add (.t 17) (.c (.int .i64 8))⟩,
 ⟨some 2, none, .mv (.t 18)⟩] [0, 2]))
 .skip))
 (.seq (.reg [⟨some 19, none, .mv (.t 2)⟩,
 ⟨some 20, none, .mv (.t 0)⟩,
 ⟨some 21, none, .conv .u8 (.t 20)⟩,
 ⟨some 22, none, .ixStr (.c (.str ⟨#[0, 1, 2, 2, 3, 3, 3, 3, 4, 4, 4, 4, 4, 4, 4, 4, 5, 5, 5, 5, 5, 5, 5, 5, 5, 5, 5, 5, 5, 5, 5, 5, 6, 6, 6, 6, 6, 6, 6, 6, 6, 6, 6, 6, 6, 6, 6, 6, 6, 6, 6, 6, 6, 6, 6, 6, 6, 6, 6, 6, 6, 6, 6, 6, 7, 7, 7, 7, 7, 7, 7, 7, 7, 7, 7, 7, 7, 7, 7, 7, 7, 7, 7, 7, 7, 7, 7, 7, 7, 7, 7, 7, 7, 7, 7, 7, 7, 7, 7, 7, 7, 7, 7, 7, 7, 7, 7, 7, 7, 7, 7, 7, 7, 7, 7, 7, 7, 7, 7, 7, 7, 7, 7, 7, 7, 7, 7, 7, 8, 8, 8, 8, 8, 8, 8, 8, 8, 8, 8, 8, 8, 8, 8, 8, 8, 8, 8, 8, 8, 8, 8, 8, 8, 8, 8, 8, 8, 8, 8, 8, 8, 8, 8, 8, 8, 8, 8, 8, 8, 8, 8, 8, 8, 8, 8, 8, 8, 8, 8, 8, 8, 8, 8, 8, 8, 8, 8, 8, 8, 8, 8, 8, 8, 8, 8, 8, 8, 8, 8, 8, 8, 8, 8, 8, 8, 8, 8, 8, 8, 8, 8, 8, 8, 8, 8, 8, 8, 8, 8, 8, 8, 8, 8, 8, 8, 8, 8, 8, 8, 8, 8, 8, 8, 8, 8, 8, 8, 8, 8, 8, 8, 8, 8, 8, 8, 8, 8, 8, 8, 8, 8, 8, 8, 8, 8, 8]⟩)) (.t 21)⟩,
 ⟨some 23, none, .conv .i64 (.t 22)⟩,
 ⟨some 24, none, .bin .add (.t 19) (.t 23)⟩,
 ⟨some 2, none, .mv (.t 24)⟩] [2])
 .ret)))))
abbrev R_math_bits_Len64 : List (Nat × Option (Option Nat)) := [(2, none)]
theorem K_math_bits_Len64 : chkF Tryz.prog Tryz.f176 25 C_math_bits_Len64 R_math_bits_Len64 = true := by kernel_rfl
theorem spec_math_bits_Len64 {args : List AVal} {σ : AHeap} {R : ARes → AHeap → Prop} (ha : args.length ≤ 25) (h : AW Tryz.prog 25 none C_math_bits_Len64 (bodyQ R_math_bits_Len64 R) { v := argEnv args 0, ds := [] } σ) : Spec Tryz.prog F_math_bits_Len64 args σ R := Spec.of_fn Tryz.func176 K_math_bits_Len64 ha h
theorem B_math_bits_Len64 : hasBody Tryz.prog F_math_bits_Len64 = true := by kernel_rfl
theorem E_math_bits_Len64 : EntOk Tryz.prog ⟨176, 25, C_math_bits_Len64, R_math_bits_Len64, 0⟩ := ⟨fun _ => ⟨B_math_bits_Len64, _, Tryz.func176, K_math_bits_Len64⟩, fun h => by cases h⟩

abbrev F_hull_ship_find : FuncId := 177
/-- (*orlop/hull.ship).find: parameters ['*hull.ship', 'string'], results ['int'] -/
def C_hull_ship_find : AC :=
 (.seq (.reg [⟨some 3, none, .pbox 1 (.t 1)⟩,
 ⟨some 4, none, .mv (.c (.int .i64 0))⟩] [0, 3])
 (.seq (.reg [⟨some 5, none, .mv (.t 0)⟩,
 ⟨some 6, none, .nilchk (.t 5)⟩,
 ⟨some 7, none, .fieldAddr (some 1) 0 (.t 6)⟩,
 ⟨some 8, none, .fieldAddr none 0 (.t 7)⟩,
 ⟨some 9, none, .load none (.t 8)⟩,
 ⟨some 10, none, .mkfunc (.func 209) [] [(.t 3)]⟩,
 ⟨some 11, none, .call (.f 208) [true, false] [(.t 9), (.t 10)]⟩,
 ⟨some 4, none, .mv (.t 11)⟩] [4])
 .ret))
abbrev R_hull_ship_find : List (Nat × Option (Option Nat)) := [(4, none)]
theorem K_hull_ship_find : chkF Tryz.prog Tryz.f177 12 C_hull_ship_find R_hull_ship_find = true := by kernel_rfl
theorem spec_hull_ship_find {args : List AVal} {σ : AHeap} {R : ARes → AHeap → Prop} (ha : args.length ≤ 12) (h : AW Tryz.prog 12 none C_hull_ship_find (bodyQ R_hull_ship_find R) { v := argEnv args 0, ds := [] } σ) : Spec Tryz.prog F_hull_ship_find args σ R := Spec.of_fn Tryz.func177 K_hull_ship_find ha h
theorem B_hull_ship_find : hasBody Tryz.prog F_hull_ship_find = true := by kernel_rfl
theorem E_hull_ship_find : EntOk Tryz.prog ⟨177, 12, C_hull_ship_find, R_hull_ship_find, 0⟩ := ⟨fun _ => ⟨B_hull_ship_find, _, Tryz.func177, K_hull_ship_find⟩, fun h => by cases h⟩

abbrev F_slices_ContainsFunc_api_HuPart_api_HuPart : FuncId := 178
/-- slices.ContainsFunc[[]orlop/api.HuPart,orlop/api.HuPart]: parameters ['[]api.HuPart', 'func(api.HuPart) bool'], results ['bool'] -/
def C_slices_ContainsFunc_api_HuPart_api_HuPart : AC :=
 (.seq (.reg [⟨some 4, none, .mv (.c (.bool false))⟩] [0, 1])
 (.seq (.reg [⟨some 5, none, .mv (.t 0)⟩,
 ⟨some 6, none, .mv (.t 1)⟩,
 ⟨some 7, none, .call (.f 208) [true, false] [(.t 5), (.t 6)]⟩,
 ⟨some 8, none, .bin .geq (.t 7) (.c (.int .i64 0))⟩,
 ⟨some 4, none, .mv (.t 8)⟩] [4])
 .ret))
abbrev R_slices_ContainsFunc_api_HuPart_api_HuPart : List (Nat × Option (Option Nat)) := [(4, none)]
theorem K_slices_ContainsFunc_api_HuPart_api_HuPart : chkF Tryz.prog Tryz.f178 9 C_slices_ContainsFunc_api_HuPart_api_HuPart R_slices_ContainsFunc_api_HuPart_api_HuPart = true := by kernel_rfl
theorem spec_slices_ContainsFunc_api_HuPart_api_HuPart {args : List AVal} {σ : AHeap} {R : ARes → AHeap → Prop} (ha : args.length ≤ 9) (h : AW Tryz.prog 9 none C_slices_ContainsFunc_api_HuPart_api_HuPart (bodyQ R_slices_ContainsFunc_api_HuPart_api_HuPart R) { v := argEnv args 0, ds := [] } σ) : Spec Tryz.prog F_slices_ContainsFunc_api_HuPart_api_HuPart args σ R := Spec.of_fn Tryz.func178 K_slices_ContainsFunc_api_HuPart_api_HuPart ha h
theorem B_slices_ContainsFunc_api_HuPart_api_HuPart : hasBody Tryz.prog F_slices_ContainsFunc_api_HuPart_api_HuPart = true := by kernel_rfl
theorem E_slices_ContainsFunc_api_HuPart_api_HuPart : EntOk Tryz.prog ⟨178, 9, C_slices_ContainsFunc_api_HuPart_api_HuPart, R_slices_ContainsFunc_api_HuPart_api_HuPart, 0⟩ := ⟨fun _ => ⟨B_slices_ContainsFunc_api_HuPart_api_HuPart, _, Tryz.func178, K_slices_ContainsFunc_api_HuPart_api_HuPart⟩, fun h => by cases h⟩

abbrev F_hull_ship_check_1 : FuncId := 179
/-- (*orlop/hull.ship).check$1: parameters ['api.HuPart'], results ['bool'] -/
def C_hull_ship_check_1 : AC :=
 (.seq (.reg [⟨some 2, none, .pbox 7 (.t 0)⟩,
 ⟨some 3, none, .mv (.c (.bool false))⟩] [1, 2])
 (.seq (.reg [⟨some 4, none, .fieldAddr none 0 (.t 2)⟩,
 ⟨some 5, none, .load none (.t 4)⟩,
 ⟨some 6, none, .fieldAddr none 0 (.t 1)⟩,
 ⟨some 7, none, .load none (.t 6)⟩,
 ⟨some 8, none, .bin .eql (.t 5) (.t 7)⟩,
 ⟨some 3, none, .mv (.t 8)⟩] [3])
 .ret))
abbrev R_hull_ship_check_1 : List (Nat × Option (Option Nat)) := [(3, none)]
theorem K_hull_ship_check_1 : chkF Tryz.prog Tryz.f179 9 C_hull_ship_check_1 R_hull_ship_check_1 = true := by kernel_rfl
theorem spec_hull_ship_check_1 {args : List AVal} {σ : AHeap} {R : ARes → AHeap → Prop} (ha : args.length ≤ 9) (h : AW Tryz.prog 9 none C_hull_ship_check_1 (bodyQ R_hull_ship_check_1 R) { v := argEnv args 0, ds := [] } σ) : Spec Tryz.prog F_hull_ship_check_1 args σ R := Spec.of_fn Tryz.func179 K_hull_ship_check_1 ha h
theorem B_hull_ship_check_1 : hasBody Tryz.prog F_hull_ship_check_1 = true := by kernel_rfl
theorem E_hull_ship_check_1 : EntOk Tryz.prog ⟨179, 9, C_hull_ship_check_1, R_hull_ship_check_1, 0⟩ := ⟨fun _ => ⟨B_hull_ship_check_1, _, Tryz.func179, K_hull_ship_check_1⟩, fun h => by cases h⟩

abbrev F_slices_ContainsFunc_string_string : FuncId := 180
/-- slices.ContainsFunc[[]string,string]: parameters ['[]string', 'func(string) bool'], results ['bool'] -/
def C_slices_ContainsFunc_string_string : AC :=
 (.seq (.reg [⟨some 4, none, .mv (.c (.bool false))⟩] [0, 1])
 (.seq (.reg [⟨some 5, none, .mv (.t 0)⟩,
 ⟨some 6, none, .mv (.t 1)⟩,
 ⟨some 7, none, .call (.f 210) [true, false] [(.t 5), (.t 6)]⟩,
 ⟨some 8, none, .bin .geq (.t 7) (.c (.int .i64 0))⟩,
 ⟨some 4, none, .mv (.t 8)⟩] [4])
 .ret))
abbrev R_slices_ContainsFunc_string_string : List (Nat × Option (Option Nat)) := [(4, none)]
theorem K_slices_ContainsFunc_string_string : chkF Tryz.prog Tryz.f180 9 C_slices_ContainsFunc_string_string R_slices_ContainsFunc_string_string = true := by kernel_rfl
theorem spec_slices_ContainsFunc_string_string {args : List AVal} {σ : AHeap} {R : ARes → AHeap → Prop} (ha : args.length ≤ 9) (h : AW Tryz.prog 9 none C_slices_ContainsFunc_string_string (bodyQ R_slices_ContainsFunc_string_string R) { v := argEnv args 0, ds := [] } σ) : Spec Tryz.prog F_slices_ContainsFunc_string_string args σ R := Spec.of_fn Tryz.func180 K_slices_ContainsFunc_string_string ha h
theorem B_slices_ContainsFunc_string_string : hasBody Tryz.prog F_slices_ContainsFunc_string_string = true := by kernel_rfl
theorem E_slices_ContainsFunc_string_string : EntOk Tryz.prog ⟨180, 9, C_slices_ContainsFunc_string_string, R_slices_ContainsFunc_string_string, 0⟩ := ⟨fun _ => ⟨B_slices_ContainsFunc_string_string, _, Tryz.func180, K_slices_ContainsFunc_string_string⟩, fun h => by cases h⟩

abbrev F_hull_ship_check_2 : FuncId := 181
/-- (*orlop/hull.ship).check$2: parameters ['string'], results ['bool'] -/
def C_hull_ship_check_2 : AC :=
 (.seq (.reg [⟨some 3, none, .mv (.c (.bool false))⟩] [0, 1])
 (.seq (.reg [⟨some 4, none, .mv (.t 0)⟩,
 ⟨some 5, none, .call (.f 177) [true, false] [(.t 1), (.t 4)]⟩,
 ⟨some 6, none, .bin .lss (.t 5) (.c (.int .i64 0))⟩,
 ⟨some 3, none, .mv (.t 6)⟩] [3])
 .ret))
abbrev R_hull_ship_check_2 : List (Nat × Option (Option Nat)) := [(3, none)]
theorem K_hull_ship_check_2 : chkF Tryz.prog Tryz.f181 7 C_hull_ship_check_2 R_hull_ship_check_2 = true := by kernel_rfl
theorem spec_hull_ship_check_2 {args : List AVal} {σ : AHeap} {R : ARes → AHeap → Prop} (ha : args.length ≤ 7) (h : AW Tryz.prog 7 none C_hull_ship_check_2 (bodyQ R_hull_ship_check_2 R) { v := argEnv args 0, ds := [] } σ) : Spec Tryz.prog F_hull_ship_check_2 args σ R := Spec.of_fn Tryz.func181 K_hull_ship_check_2 ha h
theorem B_hull_ship_check_2 : hasBody Tryz.prog F_hull_ship_check_2 = true := by kernel_rfl
theorem E_hull_ship_check_2 : EntOk Tryz.prog ⟨181, 7, C_hull_ship_check_2, R_hull_ship_check_2, 0⟩ := ⟨fun _ => ⟨B_hull_ship_check_2, _, Tryz.func181, K_hull_ship_check_2⟩, fun h => by cases h⟩

abbrev F_hull_repeated_string : FuncId := 182
/-- orlop/hull.repeated[string]: parameters ['[]string'], results ['bool'] -/
def C_hull_repeated_string : AC :=
 (.seq (.reg [⟨some 2, none, .mv (.c (.bool false))⟩] [0])
 (.seq (.seq (.reg [⟨some 5, none, .mv (.t 0)⟩,
 ⟨some 6, none, .len (.t 5)⟩,
 ⟨some 7, none, .mv (.c (.int .i64 0))⟩] [0, 5, 6, 7])
 (.block 0
 (.loop [0, 5, 6, 7]
 (.seq (.reg [⟨some 8, none, .bin .lss (.t 7) (.t 6)⟩] [0, 5, 6, 7, 8])
 (.seq (.cond (.t 8)
 .skip
 (.exit 0))
 (.seq (.block 1
 (.seq (.reg [⟨some 9, none, .mv (.t 7)⟩,
 ⟨some 10, none, .ixS 1 (.t 5) (.t 7)⟩,
 ⟨some 11, none, .load none (.t 10)⟩,
 ⟨some 3, none, .mv (.t 9)⟩,
 ⟨some 4, none, .mv (.t 11)⟩] [0, 3, 4, 5, 6, 7])
 (.seq (.reg [⟨some 12, none, .mv (.t 0)⟩,
 ⟨some 13, none, .mv (.t 3)⟩,
 ⟨some 14, none, .subq 1 (.t 12) none (some (.t 13))⟩,
 ⟨some 15, none, .mv (.t 4)⟩,
 ⟨some 16, none, .call (.f 122) [true, false] [(.t 14), (.t 15)]⟩] [0, 5, 6, 7, 16])
 (.cond (.t 16)
 (.seq (.reg [⟨some 2, none, .mv (.c (.bool true))⟩] [2])
 .ret)
 .skip))))
 (.reg [⟨some 17, none, .bin .add (.t 7) (.c (.int .i64 1))⟩,
 ⟨some 7, none, .mv (.t 17)⟩] [0, 5, 6, 7])))))))
 (.seq (.reg [⟨some 2, none, .mv (.c (.bool false))⟩] [2])
 .ret)))
abbrev R_hull_repeated_string : List (Nat × Option (Option Nat)) := [(2, none)]
theorem K_hull_repeated_string : chkF Tryz.prog Tryz.f182 18 C_hull_repeated_string R_hull_repeated_string = true := by kernel_rfl
theorem spec_hull_repeated_string {args : List AVal} {σ : AHeap} {R : ARes → AHeap → Prop} (ha : args.length ≤ 18) (h : AW Tryz.prog 18 none C_hull_repeated_string (bodyQ R_hull_repeated_string R) { v := argEnv args 0, ds := [] } σ) : Spec Tryz.prog F_hull_repeated_string args σ R := Spec.of_fn Tryz.func182 K_hull_repeated_string ha h
theorem B_hull_repeated_string : hasBody Tryz.prog F_hull_repeated_string = true := by kernel_rfl
theorem E_hull_repeated_string : EntOk Tryz.prog ⟨182, 18, C_hull_repeated_string, R_hull_repeated_string, 0⟩ := ⟨fun _ => ⟨B_hull_repeated_string, _, Tryz.func182, K_hull_repeated_string⟩, fun h => by cases h⟩

abbrev F_hull_ship_check_3 : FuncId := 183
/-- (*orlop/hull.ship).check$3: parameters ['string'], results ['bool'] -/
def C_hull_ship_check_3 : AC :=
 (.seq (.reg [⟨some 4, none, .mv (.c (.bool false))⟩] [0, 1, 2])
 (.seq (.qreg [⟨some 5, none, .load (some 7) (.t 1)⟩,
 ⟨some 6, none, .fieldAddr (some 1) 0 (.t 2)⟩,
 ⟨some 7, none, .fieldAddr none 0 (.t 6)⟩,
 ⟨some 8, none, .load none (.t 7)⟩,
 ⟨some 9, none, .mv (.t 0)⟩,
 ⟨some 10, none, .call (.f 177) [true, false] [(.t 2), (.t 9)]⟩,
 ⟨some 11, none, .ixS 7 (.t 8) (.t 10)⟩,
 ⟨some 12, none, .load (some 7) (.t 11)⟩,
 ⟨some 13, none, .call (.f 184) [true, true] [(.t 5), (.t 12)]⟩,
 ⟨some 14, none, .un .not (.t 13)⟩,
 ⟨some 4, none, .mv (.t 14)⟩] [4] [[], [], [1], [1, 2], [], [4], [1, 2, 3, 4, 5], [1, 2, 3, 4, 5, 6], [0, 1, 2, 3, 4, 5, 6, 7], [0, 1, 2, 3, 4, 5, 6, 7, 8], [0, 1, 2, 3, 4, 5, 6, 7, 8, 9]] [([0, 1, 2, 3, 4], 5), ([6, 7], 8)] [9, 10])
 .ret))
abbrev R_hull_ship_check_3 : List (Nat × Option (Option Nat)) := [(4, none)]
theorem K_hull_ship_check_3 : chkF Tryz.prog Tryz.f183 15 C_hull_ship_check_3 R_hull_ship_check_3 = true := by kernel_rfl
theorem spec_hull_ship_check_3 {args : List AVal} {σ : AHeap} {R : ARes → AHeap → Prop} (ha : args.length ≤ 15) (h : AW Tryz.prog 15 none C_hull_ship_check_3 (bodyQ R_hull_ship_check_3 R) { v := argEnv args 0, ds := [] } σ) : Spec Tryz.prog F_hull_ship_check_3 args σ R := Spec.of_fn Tryz.func183 K_hull_ship_check_3 ha h
theorem B_hull_ship_check_3 : hasBody Tryz.prog F_hull_ship_check_3 = true := by kernel_rfl
theorem E_hull_ship_check_3 : EntOk Tryz.prog ⟨183, 15, C_hull_ship_check_3, R_hull_ship_check_3, 0⟩ := ⟨fun _ => ⟨B_hull_ship_check_3, _, Tryz.func183, K_hull_ship_check_3⟩, fun h => by cases h⟩

abbrev F_hull_meet : FuncId := 184
/-- orlop/hull.meet: parameters ['api.HuPart', 'api.HuPart'], results ['bool'] -/
def C_hull_meet : AC :=
 (.seq (.reg [⟨some 2, none, .pbox 7 (.t 0)⟩,
 ⟨some 3, none, .pbox 7 (.t 1)⟩,
 ⟨some 4, none, .mv (.c (.bool false))⟩] [2, 3])
 (.seq (.reg [⟨some 5, none, .fieldAddr none 2 (.t 2)⟩,
 ⟨some 6, none, .load none (.t 5)⟩,
 ⟨some 7, none, .fieldAddr none 3 (.t 3)⟩,
 ⟨some 8, none, .load none (.t 7)⟩,
 ⟨some 9, none, .bin .leq (.t 6) (.t 8)⟩,
 ⟨some 10, none, .mv (.t 9)⟩,
 ⟨some 11, (some (10, true)), .fieldAddr none 2 (.t 3)⟩,
 ⟨some 12, (some (10, true)), .load none (.t 11)⟩,
 ⟨some 13, (some (10, true)), .fieldAddr none 3 (.t 2)⟩,
 ⟨some 14, (some (10, true)), .load none (.t 13)⟩,
 ⟨some 15, (some (10, true)), .bin .leq (.t 12) (.t 14)⟩,
 ⟨some 16, none, .pick (.t 10) (.t 15) (.c (.bool false))⟩,
 ⟨some 4, none, .mv (.t 16)⟩] [4])
 .ret))
abbrev R_hull_meet : List (Nat × Option (Option Nat)) := [(4, none)]
theorem K_hull_meet : chkF Tryz.prog Tryz.f184 17 C_hull_meet R_hull_meet = true := by kernel_rfl
theorem spec_hull_meet {args : List AVal} {σ : AHeap} {R : ARes → AHeap → Prop} (ha : args.length ≤ 17) (h : AW Tryz.prog 17 none C_hull_meet (bodyQ R_hull_meet R) { v := argEnv args 0, ds := [] } σ) : Spec Tryz.prog F_hull_meet args σ R := Spec.of_fn Tryz.func184 K_hull_meet ha h
theorem B_hull_meet : hasBody Tryz.prog F_hull_meet = true := by kernel_rfl
theorem E_hull_meet : EntOk Tryz.prog ⟨184, 17, C_hull_meet, R_hull_meet, 0⟩ := ⟨fun _ => ⟨B_hull_meet, _, Tryz.func184, K_hull_meet⟩, fun h => by cases h⟩

abbrev F_hull_verbs_1 : FuncId := 185
/-- orlop/hull.verbs$1: parameters ['api.HuChange'], results ['bool'] -/
def C_hull_verbs_1 : AC :=
 (.seq (.reg [⟨some 1, none, .pbox 10 (.t 0)⟩,
 ⟨some 2, none, .mv (.c (.bool false))⟩] [1])
 (.seq (.reg [⟨some 3, none, .fieldAddr none 2 (.t 1)⟩,
 ⟨some 4, none, .load none (.t 3)⟩,
 ⟨some 5, none, .bin .eql (.t 4) (.c (.str ⟨#[]⟩))⟩,
 ⟨some 2, none, .mv (.t 5)⟩] [2])
 .ret))
abbrev R_hull_verbs_1 : List (Nat × Option (Option Nat)) := [(2, none)]
theorem K_hull_verbs_1 : chkF Tryz.prog Tryz.f185 6 C_hull_verbs_1 R_hull_verbs_1 = true := by kernel_rfl
theorem spec_hull_verbs_1 {args : List AVal} {σ : AHeap} {R : ARes → AHeap → Prop} (ha : args.length ≤ 6) (h : AW Tryz.prog 6 none C_hull_verbs_1 (bodyQ R_hull_verbs_1 R) { v := argEnv args 0, ds := [] } σ) : Spec Tryz.prog F_hull_verbs_1 args σ R := Spec.of_fn Tryz.func185 K_hull_verbs_1 ha h
theorem B_hull_verbs_1 : hasBody Tryz.prog F_hull_verbs_1 = true := by kernel_rfl
theorem E_hull_verbs_1 : EntOk Tryz.prog ⟨185, 6, C_hull_verbs_1, R_hull_verbs_1, 0⟩ := ⟨fun _ => ⟨B_hull_verbs_1, _, Tryz.func185, K_hull_verbs_1⟩, fun h => by cases h⟩

abbrev F_hull_ship_add : FuncId := 186
/-- (*orlop/hull.ship).add: parameters ['*hull.ship', 'api.HuChange'], results ['api.Errno'] -/
def C_hull_ship_add : AC :=
 (.seq (.reg [⟨some 3, none, .pbox 10 (.t 1)⟩,
 ⟨some 4, none, .mv (.c (.int .i64 0))⟩] [0, 3])
 (.seq (.seq (.reg [⟨some 6, none, .mv (.t 0)⟩,
 ⟨some 7, none, .nilchk (.t 6)⟩,
 ⟨some 8, none, .fieldAddr (some 1) 0 (.t 7)⟩,
 ⟨some 9, none, .fieldAddr none 0 (.t 8)⟩,
 ⟨some 10, none, .load none (.t 9)⟩,
 ⟨some 11, none, .len (.t 10)⟩,
 ⟨some 12, none, .bin .geq (.t 11) (.c (.int .i64 12))⟩] [0, 3, 12])
 (.cond (.t 12)
 (.seq (.reg [⟨some 4, none, .mv (.c (.int .i64 3))⟩] [4])
 .ret)
 .skip))
 (.seq (.seq (.dreg [⟨some 13, none, .mv (.t 0)⟩,
 ⟨some 14, none, .fieldAddr (some 7) 3 (.t 3)⟩,
 ⟨some 15, none, .load (some 7) (.t 14)⟩,
 ⟨some 16, none, .mv (.t 0)⟩,
 ⟨some 17, none, .nilchk (.t 16)⟩,
 ⟨some 18, none, .fieldAddr (some 1) 0 (.t 17)⟩,
 ⟨some 19, none, .fieldAddr none 0 (.t 18)⟩,
 ⟨some 20, none, .load none (.t 19)⟩,
 ⟨some 21, none, .len (.t 20)⟩,
 ⟨some 22, none, .call (.f 133) [false, true, false, true] [(.t 13), (.t 15), (.t 21), (.c (.slice 7 []))]⟩,
 ⟨some 5, none, .mv (.t 22)⟩] [0, 3, 5] [[], [], [1], [], [3], [3, 4], [3, 4, 5], [3, 4, 5, 6], [3, 4, 5, 6, 7], [0, 1, 2, 3, 4, 5, 6, 7, 8], [0, 1, 2, 3, 4, 5, 6, 7, 8, 9]])
 (.seq (.reg [⟨some 23, none, .mv (.t 5)⟩,
 ⟨some 24, none, .bin .neq (.t 23) (.c (.int .i64 0))⟩] [0, 3, 5, 24])
 (.cond (.t 24)
 (.seq (.reg [⟨some 25, none, .mv (.t 5)⟩,
 ⟨some 4, none, .mv (.t 25)⟩] [4])
 .ret)
 .skip)))
 (.seq (.dreg [⟨some 26, none, .mv (.t 0)⟩,
 ⟨some 27, none, .mv (.t 0)⟩,
 ⟨some 28, none, .nilchk (.t 27)⟩,
 ⟨some 29, none, .fieldAddr (some 1) 0 (.t 28)⟩,
 ⟨some 30, none, .fieldAddr none 0 (.t 29)⟩,
 ⟨some 31, none, .load none (.t 30)⟩,
 ⟨some 32, none, .call (.f 211) [true] [(.t 31)]⟩,
 ⟨some 33, none, .fieldAddr (some 7) 3 (.t 3)⟩,
 ⟨some 34, none, .load (some 7) (.t 33)⟩,
 ⟨some 35, none, .lit 0 7 1 [(0, (.t 34))]⟩,
 ⟨some 36, none, .append 7 80 (.t 32) (.t 35)⟩,
 ⟨some 37, none, .nilchk (.t 26)⟩,
 ⟨some 38, none, .fieldAddr (some 1) 0 (.t 37)⟩,
 ⟨some 39, none, .fieldAddr none 0 (.t 38)⟩,
 ⟨none, none, .store 1 (.t 39) (.t 36)⟩] [] [[], [], [1], [1, 2], [1, 2, 3], [1, 2, 3, 4], [1, 2, 3, 4, 5], [], [7], [7, 8], [1, 2, 3, 4, 5, 6, 7, 8, 9], [0, 1, 2, 3, 4, 5, 6, 7, 8, 9, 10], [0, 1, 2, 3, 4, 5, 6, 7, 8, 9, 10, 11], [0, 1, 2, 3, 4, 5, 6, 7, 8, 9, 10, 11, 12], [0, 1, 2, 3, 4, 5, 6, 7, 8, 9, 10, 11, 12, 13]])
 (.seq (.reg [⟨some 4, none, .mv (.c (.int .i64 0))⟩] [4])
 .ret)))))
abbrev R_hull_ship_add : List (Nat × Option (Option Nat)) := [(4, none)]
theorem K_hull_ship_add : chkF Tryz.prog Tryz.f186 40 C_hull_ship_add R_hull_ship_add = true := by kernel_rfl
theorem spec_hull_ship_add {args : List AVal} {σ : AHeap} {R : ARes → AHeap → Prop} (ha : args.length ≤ 40) (h : AW Tryz.prog 40 none C_hull_ship_add (bodyQ R_hull_ship_add R) { v := argEnv args 0, ds := [] } σ) : Spec Tryz.prog F_hull_ship_add args σ R := Spec.of_fn Tryz.func186 K_hull_ship_add ha h
theorem B_hull_ship_add : hasBody Tryz.prog F_hull_ship_add = true := by kernel_rfl
theorem E_hull_ship_add : EntOk Tryz.prog ⟨186, 40, C_hull_ship_add, R_hull_ship_add, 0⟩ := ⟨fun _ => ⟨B_hull_ship_add, _, Tryz.func186, K_hull_ship_add⟩, fun h => by cases h⟩

abbrev F_hull_verbs_2 : FuncId := 187
/-- orlop/hull.verbs$2: parameters ['api.HuChange'], results ['bool'] -/
def C_hull_verbs_2 : AC :=
 (.seq (.reg [⟨some 1, none, .pbox 10 (.t 0)⟩,
 ⟨some 2, none, .mv (.c (.bool false))⟩] [1])
 (.seq (.reg [⟨some 3, none, .fieldAddr (some 7) 3 (.t 1)⟩,
 ⟨some 4, none, .load (some 7) (.t 3)⟩,
 ⟨some 5, none, .call (.f 188) [true] [(.t 4)]⟩,
 ⟨some 6, none, .build [.str ByteArray.empty, .int .i64 0, .int .i64 0, .int .i64 0, .int .i64 0, .int .i64 0] []⟩,
 ⟨some 7, none, .eqa false [.s, .i, .i, .i, .i, .i] (.t 5) (.t 6)⟩,
 ⟨some 8, none, .mv (.t 7)⟩,
 ⟨some 9, (some (8, true)), .fieldAddr (some 7) 3 (.t 1)⟩,
 ⟨some 10, (some (8, true)), .fieldAddr none 4 (.t 9)⟩,
 ⟨some 11, (some (8, true)), .load none (.t 10)⟩,
 ⟨some 12, (some (8, true)), .len (.t 11)⟩,
 ⟨some 13, (some (8, true)), .bin .eql (.t 12) (.c (.int .i64 0))⟩,
 ⟨some 14, none, .pick (.t 8) (.t 13) (.c (.bool false))⟩,
 ⟨some 2, none, .mv (.t 14)⟩] [2])
 .ret))
abbrev R_hull_verbs_2 : List (Nat × Option (Option Nat)) := [(2, none)]
theorem K_hull_verbs_2 : chkF Tryz.prog Tryz.f187 15 C_hull_verbs_2 R_hull_verbs_2 = true := by kernel_rfl
theorem spec_hull_verbs_2 {args : List AVal} {σ : AHeap} {R : ARes → AHeap → Prop} (ha : args.length ≤ 15) (h : AW Tryz.prog 15 none C_hull_verbs_2 (bodyQ R_hull_verbs_2 R) { v := argEnv args 0, ds := [] } σ) : Spec Tryz.prog F_hull_verbs_2 args σ R := Spec.of_fn Tryz.func187 K_hull_verbs_2 ha h
theorem B_hull_verbs_2 : hasBody Tryz.prog F_hull_verbs_2 = true := by kernel_rfl
theorem E_hull_verbs_2 : EntOk Tryz.prog ⟨187, 15, C_hull_verbs_2, R_hull_verbs_2, 0⟩ := ⟨fun _ => ⟨B_hull_verbs_2, _, Tryz.func187, K_hull_verbs_2⟩, fun h => by cases h⟩

abbrev F_hull_plainly : FuncId := 188
/-- orlop/hull.plainly: parameters ['api.HuPart'], results ['hull.plain'] -/
def C_hull_plainly : AC :=
 (.seq (.reg [⟨some 1, none, .pbox 7 (.t 0)⟩,
 ⟨some 2, none, .alloc [.str ByteArray.empty, .int .i64 0, .int .i64 0, .int .i64 0, .int .i64 0, .int .i64 0]⟩] [1, 2])
 (.seq (.reg [⟨some 3, none, .fieldAddr none 0 (.t 1)⟩,
 ⟨some 4, none, .load none (.t 3)⟩,
 ⟨some 5, none, .fieldAddr none 1 (.t 1)⟩,
 ⟨some 6, none, .load none (.t 5)⟩,
 ⟨some 7, none, .fieldAddr none 2 (.t 1)⟩,
 ⟨some 8, none, .load none (.t 7)⟩,
 ⟨some 9, none, .fieldAddr none 3 (.t 1)⟩,
 ⟨some 10, none, .load none (.t 9)⟩,
 ⟨some 11, none, .fieldAddr (some 2) 5 (.t 1)⟩,
 ⟨some 12, none, .load (some 2) (.t 11)⟩,
 ⟨some 13, none, .build [.str ByteArray.empty, .int .i64 0, .int .i64 0, .int .i64 0, .int .i64 0, .int .i64 0] [(0, 1, (.t 4)), (1, 1, (.t 6)), (2, 1, (.t 8)), (3, 1, (.t 10)), (4, 2, (.t 12))]⟩,
 ⟨none, none, .store 6 (.t 2) (.t 13)⟩] [2])
 .ret))
abbrev R_hull_plainly : List (Nat × Option (Option Nat)) := [(2, some (some 6))]
theorem K_hull_plainly : chkF Tryz.prog Tryz.f188 14 C_hull_plainly R_hull_plainly = true := by kernel_rfl
theorem spec_hull_plainly {args : List AVal} {σ : AHeap} {R : ARes → AHeap → Prop} (ha : args.length ≤ 14) (h : AW Tryz.prog 14 none C_hull_plainly (bodyQ R_hull_plainly R) { v := argEnv args 0, ds := [] } σ) : Spec Tryz.prog F_hull_plainly args σ R := Spec.of_fn Tryz.func188 K_hull_plainly ha h
theorem B_hull_plainly : hasBody Tryz.prog F_hull_plainly = true := by kernel_rfl
theorem E_hull_plainly : EntOk Tryz.prog ⟨188, 14, C_hull_plainly, R_hull_plainly, 0⟩ := ⟨fun _ => ⟨B_hull_plainly, _, Tryz.func188, K_hull_plainly⟩, fun h => by cases h⟩

abbrev F_hull_ship_take : FuncId := 189
/-- (*orlop/hull.ship).take: parameters ['*hull.ship', 'api.HuChange'], results ['api.Errno'] -/
def C_hull_ship_take : AC :=
 (.seq (.reg [⟨some 3, none, .pbox 10 (.t 1)⟩,
 ⟨some 4, none, .mv (.c (.int .i64 0))⟩] [0, 3])
 (.seq (.reg [⟨some 6, none, .mv (.t 0)⟩,
 ⟨some 7, none, .fieldAddr none 2 (.t 3)⟩,
 ⟨some 8, none, .load none (.t 7)⟩,
 ⟨some 9, none, .call (.f 177) [false, false] [(.t 6), (.t 8)]⟩,
 ⟨some 5, none, .mv (.t 9)⟩] [0, 3, 5])
 (.seq (.block 0
 (.seq (.reg [⟨some 11, none, .mv (.t 5)⟩,
 ⟨some 12, none, .bin .lss (.t 11) (.c (.int .i64 0))⟩,
 ⟨some 10, none, .mv (.t 12)⟩] [0, 3, 5, 10])
 (.cond (.t 10)
 (.seq (.reg [⟨some 4, none, .mv (.c (.int .i64 4))⟩] [4])
 .ret)
 (.seq (.reg [⟨some 14, none, .mv (.t 0)⟩,
 ⟨some 15, none, .nilchk (.t 14)⟩,
 ⟨some 16, none, .fieldAddr (some 1) 0 (.t 15)⟩,
 ⟨some 17, none, .fieldAddr none 0 (.t 16)⟩,
 ⟨some 18, none, .load none (.t 17)⟩,
 ⟨some 19, none, .mkfunc (.func 212) [] [(.t 3)]⟩,
 ⟨some 20, none, .call (.f 178) [true, false] [(.t 18), (.t 19)]⟩,
 ⟨some 13, none, .mv (.t 20)⟩] [0, 5, 13])
 (.cond (.t 13)
 (.seq (.reg [⟨some 4, none, .mv (.c (.int .i64 9))⟩] [4])
 .ret)
 .skip)))))
 (.seq (.reg [⟨some 21, none, .mv (.t 0)⟩,
 ⟨some 22, none, .mv (.t 0)⟩,
 ⟨some 23, none, .nilchk (.t 22)⟩,
 ⟨some 24, none, .fieldAddr (some 1) 0 (.t 23)⟩,
 ⟨some 25, none, .fieldAddr none 0 (.t 24)⟩,
 ⟨some 26, none, .load none (.t 25)⟩,
 ⟨some 27, none, .call (.f 211) [true] [(.t 26)]⟩,
 ⟨some 28, none, .mv (.t 5)⟩,
 ⟨some 29, none, .mv (.t 5)⟩,
 ⟨some 30, none, .bin .add (.t 29) (.c (.int .i64 1))⟩,
 ⟨some 31, none, .call (.f 214) [true, false, false] [(.t 27), (.t 28), (.t 30)]⟩,
 ⟨some 32, none, .nilchk (.t 21)⟩,
 ⟨some 33, none, .fieldAddr (some 1) 0 (.t 32)⟩,
 ⟨some 34, none, .fieldAddr none 0 (.t 33)⟩,
 ⟨none, none, .store 1 (.t 34) (.t 31)⟩] [])
 (.seq (.reg [⟨some 4, none, .mv (.c (.int .i64 0))⟩] [4])
 .ret)))))
abbrev R_hull_ship_take : List (Nat × Option (Option Nat)) := [(4, none)]
theorem K_hull_ship_take : chkF Tryz.prog Tryz.f189 35 C_hull_ship_take R_hull_ship_take = true := by kernel_rfl
theorem spec_hull_ship_take {args : List AVal} {σ : AHeap} {R : ARes → AHeap → Prop} (ha : args.length ≤ 35) (h : AW Tryz.prog 35 none C_hull_ship_take (bodyQ R_hull_ship_take R) { v := argEnv args 0, ds := [] } σ) : Spec Tryz.prog F_hull_ship_take args σ R := Spec.of_fn Tryz.func189 K_hull_ship_take ha h
theorem B_hull_ship_take : hasBody Tryz.prog F_hull_ship_take = true := by kernel_rfl
theorem E_hull_ship_take : EntOk Tryz.prog ⟨189, 35, C_hull_ship_take, R_hull_ship_take, 0⟩ := ⟨fun _ => ⟨B_hull_ship_take, _, Tryz.func189, K_hull_ship_take⟩, fun h => by cases h⟩

abbrev F_hull_verbs_3 : FuncId := 190
/-- orlop/hull.verbs$3: parameters ['api.HuChange'], results ['bool'] -/
def C_hull_verbs_3 : AC :=
 (.seq (.reg [⟨some 1, none, .pbox 10 (.t 0)⟩,
 ⟨some 2, none, .mv (.c (.bool false))⟩] [])
 (.seq (.reg [⟨some 2, none, .mv (.c (.bool true))⟩] [2])
 .ret))
abbrev R_hull_verbs_3 : List (Nat × Option (Option Nat)) := [(2, none)]
theorem K_hull_verbs_3 : chkF Tryz.prog Tryz.f190 3 C_hull_verbs_3 R_hull_verbs_3 = true := by kernel_rfl
theorem spec_hull_verbs_3 {args : List AVal} {σ : AHeap} {R : ARes → AHeap → Prop} (ha : args.length ≤ 3) (h : AW Tryz.prog 3 none C_hull_verbs_3 (bodyQ R_hull_verbs_3 R) { v := argEnv args 0, ds := [] } σ) : Spec Tryz.prog F_hull_verbs_3 args σ R := Spec.of_fn Tryz.func190 K_hull_verbs_3 ha h
theorem B_hull_verbs_3 : hasBody Tryz.prog F_hull_verbs_3 = true := by kernel_rfl
theorem E_hull_verbs_3 : EntOk Tryz.prog ⟨190, 3, C_hull_verbs_3, R_hull_verbs_3, 0⟩ := ⟨fun _ => ⟨B_hull_verbs_3, _, Tryz.func190, K_hull_verbs_3⟩, fun h => by cases h⟩

abbrev F_hull_ship_swap : FuncId := 191
/-- (*orlop/hull.ship).swap: parameters ['*hull.ship', 'api.HuChange'], results ['api.Errno'] -/
def C_hull_ship_swap : AC :=
 (.seq (.reg [⟨some 3, none, .pbox 10 (.t 1)⟩,
 ⟨some 4, none, .mv (.c (.int .i64 0))⟩] [0, 3])
 (.seq (.reg [⟨some 11, none, .mv (.t 0)⟩,
 ⟨some 12, none, .fieldAddr none 2 (.t 3)⟩,
 ⟨some 13, none, .load none (.t 12)⟩,
 ⟨some 14, none, .call (.f 177) [false, false] [(.t 11), (.t 13)]⟩,
 ⟨some 5, none, .mv (.t 14)⟩] [0, 3, 5])
 (.seq (.seq (.reg [⟨some 15, none, .mv (.t 5)⟩,
 ⟨some 16, none, .bin .lss (.t 15) (.c (.int .i64 0))⟩] [0, 3, 5, 16])
 (.cond (.t 16)
 (.seq (.reg [⟨some 4, none, .mv (.c (.int .i64 4))⟩] [4])
 .ret)
 .skip))
 (.seq (.seq (.dreg [⟨some 17, none, .mv (.t 0)⟩,
 ⟨some 18, none, .fieldAddr (some 7) 3 (.t 3)⟩,
 ⟨some 19, none, .load (some 7) (.t 18)⟩,
 ⟨some 20, none, .mv (.t 5)⟩,
 ⟨some 21, none, .mv (.t 0)⟩,
 ⟨some 22, none, .nilchk (.t 21)⟩,
 ⟨some 23, none, .fieldAddr (some 1) 0 (.t 22)⟩,
 ⟨some 24, none, .fieldAddr none 0 (.t 23)⟩,
 ⟨some 25, none, .load none (.t 24)⟩,
 ⟨some 26, none, .mv (.t 5)⟩,
 ⟨some 27, none, .bin .add (.t 26) (.c (.int .i64 1))⟩,
 ⟨some 28, none, .subq 7 (.t 25) (some (.t 27)) none⟩,
 ⟨some 29, none, .call (.f 133) [false, true, false, true] [(.t 17), (.t 19), (.t 20), (.t 28)]⟩,
 ⟨some 6, none, .mv (.t 29)⟩] [0, 3, 5, 6] [[], [], [1], [], [], [4], [4, 5], [4, 5, 6], [4, 5, 6, 7], [], [9], [4, 5, 6, 7, 8, 9, 10], [0, 1, 2, 3, 4, 5, 6, 7, 8, 9, 10, 11], [0, 1, 2, 3, 4, 5, 6, 7, 8, 9, 10, 11, 12]])
 (.seq (.reg [⟨some 30, none, .mv (.t 6)⟩,
 ⟨some 31, none, .bin .neq (.t 30) (.c (.int .i64 0))⟩] [0, 3, 5, 6, 31])
 (.cond (.t 31)
 (.seq (.reg [⟨some 32, none, .mv (.t 6)⟩,
 ⟨some 4, none, .mv (.t 32)⟩] [4])
 .ret)
 .skip)))
 (.seq (.reg [⟨some 33, none, .mv (.t 0)⟩,
 ⟨some 34, none, .nilchk (.t 33)⟩,
 ⟨some 35, none, .fieldAddr (some 1) 0 (.t 34)⟩,
 ⟨some 36, none, .fieldAddr none 0 (.t 35)⟩,
 ⟨some 37, none, .load none (.t 36)⟩,
 ⟨some 38, none, .call (.f 211) [true] [(.t 37)]⟩,
 ⟨some 7, none, .mv (.t 38)⟩] [0, 3, 5, 7])
 (.seq (.reg [⟨some 39, none, .mv (.t 7)⟩,
 ⟨some 40, none, .mv (.t 5)⟩,
 ⟨some 41, none, .fieldAddr (some 7) 3 (.t 3)⟩,
 ⟨some 42, none, .load (some 7) (.t 41)⟩,
 ⟨some 43, none, .ixS 7 (.t 39) (.t 40)⟩,
 ⟨none, none, .store 7 (.t 43) (.t 42)⟩] [0, 3, 5, 7])
 (.seq (.seq (.reg [⟨some 44, none, .mv (.t 7)⟩,
 ⟨some 45, none, .mv (.t 5)⟩,
 ⟨some 46, none, .bin .add (.t 45) (.c (.int .i64 1))⟩,
 ⟨some 47, none, .subq 7 (.t 44) (some (.t 46)) none⟩,
 ⟨some 48, none, .len (.t 47)⟩,
 ⟨some 49, none, .mv (.c (.int .i64 0))⟩] [0, 3, 5, 7, 48, 49])
 (.block 0
 (.loop [0, 3, 5, 7, 48, 49]
 (.seq (.reg [⟨some 50, none, .bin .lss (.t 49) (.t 48)⟩] [0, 3, 5, 7, 48, 49, 50])
 (.seq (.cond (.t 50)
 .skip
 (.exit 0))
 (.seq (.block 1
 (.seq (.reg [⟨some 51, none, .mv (.t 49)⟩,
 ⟨some 8, none, .mv (.t 51)⟩] [0, 3, 5, 7, 8, 48, 49])
 (.seq (.reg [⟨some 52, none, .mv (.t 7)⟩,
 ⟨some 53, none, .mv (.t 5)⟩,
 ⟨some 54, none, .bin .add (.t 53) (.c (.int .i64 1))⟩,
 ⟨some 55, none, .mv (.t 8)⟩,
 ⟨some 56, none, .bin .add (.t 54) (.t 55)⟩,
 ⟨some 57, none, .ixS 7 (.t 52) (.t 56)⟩,
 ⟨some 9, none, .mv (.t 57)⟩] [0, 3, 5, 7, 9, 48, 49])
 (.seq (.dreg [⟨some 58, none, .mv (.t 9)⟩,
 ⟨some 59, none, .nilchk (.t 58)⟩,
 ⟨some 60, none, .fieldAddr none 4 (.t 59)⟩,
 ⟨some 61, none, .load none (.t 60)⟩,
 ⟨some 62, none, .fieldAddr none 2 (.t 3)⟩,
 ⟨some 63, none, .load none (.t 62)⟩,
 ⟨some 64, none, .call (.f 164) [true, false] [(.t 61), (.t 63)]⟩,
 ⟨some 10, none, .mv (.t 64)⟩] [0, 3, 5, 7, 9, 10, 48, 49] [[], [0], [0, 1], [0, 1, 2], [], [4], [0, 1, 2, 3, 4, 5], [0, 1, 2, 3, 4, 5, 6]])
 (.seq (.seq (.reg [⟨some 65, none, .mv (.t 10)⟩,
 ⟨some 66, none, .bin .lss (.t 65) (.c (.int .i64 0))⟩] [0, 3, 5, 7, 9, 10, 48, 49, 66])
 (.cond (.t 66)
 (.exit 1)
 .skip))
 (.seq (.seq (.dreg [⟨some 67, none, .mv (.t 9)⟩,
 ⟨some 68, none, .nilchk (.t 67)⟩,
 ⟨some 69, none, .load (some 7) (.t 68)⟩,
 ⟨some 70, none, .fieldAddr (some 7) 3 (.t 3)⟩,
 ⟨some 71, none, .load (some 7) (.t 70)⟩,
 ⟨some 72, none, .call (.f 184) [true, true] [(.t 69), (.t 71)]⟩,
 ⟨some 73, none, .un .not (.t 72)⟩] [0, 3, 5, 7, 9, 10, 48, 49, 73] [[], [0], [0, 1], [], [3], [0, 1, 2, 3, 4], [0, 1, 2, 3, 4, 5]])
 (.cond (.t 73)
 (.seq (.reg [⟨some 4, none, .mv (.c (.int .i64 9))⟩] [4])
 .ret)
 .skip))
 (.seq (.reg [⟨some 74, none, .mv (.t 9)⟩,
 ⟨some 75, none, .mv (.t 9)⟩,
 ⟨some 76, none, .nilchk (.t 75)⟩,
 ⟨some 77, none, .fieldAddr none 4 (.t 76)⟩,
 ⟨some 78, none, .load none (.t 77)⟩,
 ⟨some 79, none, .call (.f 215) [true] [(.t 78)]⟩,
 ⟨some 80, none, .nilchk (.t 74)⟩,
 ⟨some 81, none, .fieldAddr none 4 (.t 80)⟩,
 ⟨none, none, .store 1 (.t 81) (.t 79)⟩] [0, 3, 5, 7, 9, 10, 48, 49])
 (.dreg [⟨some 82, none, .mv (.t 9)⟩,
 ⟨some 83, none, .nilchk (.t 82)⟩,
 ⟨some 84, none, .fieldAddr none 4 (.t 83)⟩,
 ⟨some 85, none, .load none (.t 84)⟩,
 ⟨some 86, none, .mv (.t 10)⟩,
 ⟨some 87, none, .fieldAddr (some 7) 3 (.t 3)⟩,
 ⟨some 88, none, .fieldAddr none 0 (.t 87)⟩,
 ⟨some 89, none, .load none (.t 88)⟩,
 ⟨some 90, none, .ixS 1 (.t 85) (.t 86)⟩,
 ⟨none, none, .store 1 (.t 90) (.t 89)⟩] [0, 3, 5, 7, 48, 49] [[], [0], [0, 1], [0, 1, 2], [], [], [5], [5, 6], [0, 1, 2, 3, 4, 5, 6, 7], [0, 1, 2, 3, 4, 5, 6, 7, 8]]))))))))
 (.reg [⟨some 91, none, .bin .add (.t 49) (.c (.int .i64 1))⟩,
 ⟨some 49, none, .mv (.t 91)⟩] [0, 3, 5, 7, 48, 49])))))))
 (.seq (.reg [⟨some 92, none, .mv (.t 0)⟩,
 ⟨some 93, none, .mv (.t 7)⟩,
 ⟨some 94, none, .nilchk (.t 92)⟩,
 ⟨some 95, none, .fieldAddr (some 1) 0 (.t 94)⟩,
 ⟨some 96, none, .fieldAddr none 0 (.t 95)⟩,
 ⟨none, none, .store 1 (.t 96) (.t 93)⟩] [])
 (.seq (.reg [⟨some 4, none, .mv (.c (.int .i64 0))⟩] [4])
 .ret)))))))))
abbrev R_hull_ship_swap : List (Nat × Option (Option Nat)) := [(4, none)]
theorem K_hull_ship_swap : chkF Tryz.prog Tryz.f191 97 C_hull_ship_swap R_hull_ship_swap = true := by kernel_rfl
theorem spec_hull_ship_swap {args : List AVal} {σ : AHeap} {R : ARes → AHeap → Prop} (ha : args.length ≤ 97) (h : AW Tryz.prog 97 none C_hull_ship_swap (bodyQ R_hull_ship_swap R) { v := argEnv args 0, ds := [] } σ) : Spec Tryz.prog F_hull_ship_swap args σ R := Spec.of_fn Tryz.func191 K_hull_ship_swap ha h
theorem B_hull_ship_swap : hasBody Tryz.prog F_hull_ship_swap = true := by kernel_rfl
theorem E_hull_ship_swap : EntOk Tryz.prog ⟨191, 97, C_hull_ship_swap, R_hull_ship_swap, 0⟩ := ⟨fun _ => ⟨B_hull_ship_swap, _, Tryz.func191, K_hull_ship_swap⟩, fun h => by cases h⟩

abbrev F_hull_beyond_1 : FuncId := 192
/-- orlop/hull.beyond$1: parameters ['int'], results ['bool'] -/
def C_hull_beyond_1 : AC :=
 (.seq (.reg [⟨some 4, none, .mv (.c (.bool false))⟩] [0, 1, 2])
 (.seq (.reg [⟨some 5, none, .mv (.t 0)⟩,
 ⟨some 6, none, .load none (.t 1)⟩,
 ⟨some 7, none, .bin .lss (.t 5) (.t 6)⟩,
 ⟨some 8, none, .mv (.t 7)⟩,
 ⟨some 9, (some (8, false)), .mv (.t 0)⟩,
 ⟨some 10, (some (8, false)), .load none (.t 2)⟩,
 ⟨some 11, (some (8, false)), .bin .gtr (.t 9) (.t 10)⟩,
 ⟨some 12, none, .pick (.t 8) (.c (.bool true)) (.t 11)⟩,
 ⟨some 4, none, .mv (.t 12)⟩] [4])
 .ret))
abbrev R_hull_beyond_1 : List (Nat × Option (Option Nat)) := [(4, none)]
theorem K_hull_beyond_1 : chkF Tryz.prog Tryz.f192 13 C_hull_beyond_1 R_hull_beyond_1 = true := by kernel_rfl
theorem spec_hull_beyond_1 {args : List AVal} {σ : AHeap} {R : ARes → AHeap → Prop} (ha : args.length ≤ 13) (h : AW Tryz.prog 13 none C_hull_beyond_1 (bodyQ R_hull_beyond_1 R) { v := argEnv args 0, ds := [] } σ) : Spec Tryz.prog F_hull_beyond_1 args σ R := Spec.of_fn Tryz.func192 K_hull_beyond_1 ha h
theorem B_hull_beyond_1 : hasBody Tryz.prog F_hull_beyond_1 = true := by kernel_rfl
theorem E_hull_beyond_1 : EntOk Tryz.prog ⟨192, 13, C_hull_beyond_1, R_hull_beyond_1, 0⟩ := ⟨fun _ => ⟨B_hull_beyond_1, _, Tryz.func192, K_hull_beyond_1⟩, fun h => by cases h⟩

abbrev F_stand_body_bends_1 : FuncId := 193
/-- (orlop/stand.body).bends$1: parameters ['func(api.Span) bool'], results [] -/
def C_stand_body_bends_1 : AC :=
 (.seq (.reg [⟨some 10, none, .fieldAddr none 1 (.t 1)⟩,
 ⟨some 11, none, .load none (.t 10)⟩,
 ⟨some 12, none, .lit 2 1 1 [(0, (.t 11))]⟩,
 ⟨some 4, none, .mv (.t 12)⟩] [0, 1, 2, 4])
 (.seq (.seq (.reg [⟨some 13, none, .fieldAddr (some 3) 0 (.t 2)⟩,
 ⟨some 14, none, .fieldAddr none 0 (.t 13)⟩,
 ⟨some 15, none, .load none (.t 14)⟩,
 ⟨some 16, none, .len (.t 15)⟩,
 ⟨some 17, none, .mv (.c (.int .i64 0))⟩] [0, 1, 4, 15, 16, 17])
 (.block 0
 (.loop [0, 1, 4, 15, 16, 17]
 (.seq (.reg [⟨some 18, none, .bin .lss (.t 17) (.t 16)⟩] [0, 1, 4, 15, 16, 17, 18])
 (.seq (.cond (.t 18)
 .skip
 (.exit 0))
 (.seq (.block 1
 (.seq (.reg [⟨some 19, none, .ixS 7 (.t 15) (.t 17)⟩,
 ⟨some 20, none, .load (some 7) (.t 19)⟩,
 ⟨some 6, none, .alloc [.str ByteArray.empty, .int .i64 0, .int .i64 0, .int .i64 0, .int .i64 0, .int .i64 0, .int .i64 0]⟩,
 ⟨none, none, .store 7 (.t 6) (.t 20)⟩] [0, 1, 4, 6, 15, 16, 17])
 (.frz 6 true (.seq (.reg [⟨some 21, none, .fieldAddr none 0 (.t 1)⟩,
 ⟨some 22, none, .load none (.t 21)⟩,
 ⟨some 23, none, .fieldAddr none 4 (.t 6)⟩,
 ⟨some 24, none, .load none (.t 23)⟩,
 ⟨some 25, none, .bin .lss (.t 22) (.t 24)⟩,
 ⟨some 26, none, .mv (.t 25)⟩,
 ⟨some 27, (some (26, true)), .fieldAddr none 4 (.t 6)⟩,
 ⟨some 28, (some (26, true)), .load none (.t 27)⟩,
 ⟨some 29, (some (26, true)), .fieldAddr none 1 (.t 1)⟩,
 ⟨some 30, (some (26, true)), .load none (.t 29)⟩,
 ⟨some 31, (some (26, true)), .bin .lss (.t 28) (.t 30)⟩,
 ⟨some 32, none, .pick (.t 26) (.t 31) (.c (.bool false))⟩] [0, 1, 4, 6, 15, 16, 17, 32])
 (.cond (.t 32)
 (.reg [⟨some 33, none, .mv (.t 4)⟩,
 ⟨some 34, none, .fieldAddr none 4 (.t 6)⟩,
 ⟨some 35, none, .load none (.t 34)⟩,
 ⟨some 36, none, .lit 0 1 1 [(0, (.t 35))]⟩,
 ⟨some 37, none, .append 1 8 (.t 33) (.t 36)⟩,
 ⟨some 4, none, .mv (.t 37)⟩] [0, 1, 4, 15, 16, 17])
 .skip)))))
 (.reg [⟨some 38, none, .bin .add (.t 17) (.c (.int .i64 1))⟩,
 ⟨some 17, none, .mv (.t 38)⟩] [0, 1, 4, 15, 16, 17])))))))
 (.seq (.reg [⟨some 39, none, .mv (.t 4)⟩,
 ⟨some 40, none, .call (.f 75) [true] [(.t 39)]⟩] [0, 1, 4])
 (.seq (.reg [⟨some 41, none, .fieldAddr none 0 (.t 1)⟩,
 ⟨some 42, none, .load none (.t 41)⟩,
 ⟨some 7, none, .mv (.t 42)⟩] [0, 4, 7])
 (.seq (.reg [⟨some 43, none, .mv (.t 4)⟩,
 ⟨some 44, none, .call (.f 194) [true] [(.t 43)]⟩,
 ⟨some 45, none, .len (.t 44)⟩,
 ⟨some 46, none, .mv (.c (.int .i64 0))⟩] [0, 7, 44, 45, 46])
 (.block 2
 (.loop [0, 7, 44, 45, 46]
 (.seq (.reg [⟨some 47, none, .bin .lss (.t 46) (.t 45)⟩] [0, 7, 44, 45, 46, 47])
 (.seq (.cond (.t 47)
 .skip
 (.exit 2))
 (.seq (.block 3
 (.seq (.reg [⟨some 48, none, .ixS 1 (.t 44) (.t 46)⟩,
 ⟨some 49, none, .load none (.t 48)⟩,
 ⟨some 9, none, .mv (.t 49)⟩] [0, 7, 9, 44, 45, 46])
 (.seq (.seq (.reg [⟨some 50, none, .mv (.t 0)⟩,
 ⟨some 51, none, .mv (.t 7)⟩,
 ⟨some 52, none, .mv (.t 9)⟩,
 ⟨some 53, none, .build [.int .i64 0, .int .i64 0] [(0, 1, (.t 51)), (1, 1, (.t 52))]⟩,
 ⟨some 54, none, .call (.t 50) [false] [(.t 53)]⟩,
 ⟨some 55, none, .un .not (.t 54)⟩] [0, 9, 44, 45, 46, 55])
 (.cond (.t 55)
 .ret
 .skip))
 (.reg [⟨some 56, none, .mv (.t 9)⟩,
 ⟨some 7, none, .mv (.t 56)⟩] [0, 7, 44, 45, 46]))))
 (.reg [⟨some 57, none, .bin .add (.t 46) (.c (.int .i64 1))⟩,
 ⟨some 46, none, .mv (.t 57)⟩] [0, 7, 44, 45, 46])))))))))))
abbrev R_stand_body_bends_1 : List (Nat × Option (Option Nat)) := []
theorem K_stand_body_bends_1 : chkF Tryz.prog Tryz.f193 58 C_stand_body_bends_1 R_stand_body_bends_1 = true := by kernel_rfl
theorem spec_stand_body_bends_1 {args : List AVal} {σ : AHeap} {R : ARes → AHeap → Prop} (ha : args.length ≤ 58) (h : AW Tryz.prog 58 none C_stand_body_bends_1 (bodyQ R_stand_body_bends_1 R) { v := argEnv args 0, ds := [] } σ) : Spec Tryz.prog F_stand_body_bends_1 args σ R := Spec.of_fn Tryz.func193 K_stand_body_bends_1 ha h
theorem B_stand_body_bends_1 : hasBody Tryz.prog F_stand_body_bends_1 = true := by kernel_rfl
theorem E_stand_body_bends_1 : EntOk Tryz.prog ⟨193, 58, C_stand_body_bends_1, R_stand_body_bends_1, 0⟩ := ⟨fun _ => ⟨B_stand_body_bends_1, _, Tryz.func193, K_stand_body_bends_1⟩, fun h => by cases h⟩

abbrev F_slices_Compact_int_int : FuncId := 194
/-- slices.Compact[[]int,int]: parameters ['[]int'], results ['[]int'] -/
def C_slices_Compact_int_int : AC :=
 (.seq (.reg [⟨some 2, none, .mv (.c (.slice 1 []))⟩] [0])
 (.seq (.seq (.reg [⟨some 6, none, .mv (.t 0)⟩,
 ⟨some 7, none, .len (.t 6)⟩,
 ⟨some 8, none, .bin .lss (.t 7) (.c (.int .i64 2))⟩] [0, 8])
 (.cond (.t 8)
 (.seq (.reg [⟨some 9, none, .mv (.t 0)⟩,
 ⟨some 2, none, .mvd (.t 9)⟩] [2])
 .ret)
 .skip))
 (.seq (.seq (.reg [⟨some 3, none, .mv (.c (.int .i64 1))⟩] [0, 3])
 (.block 0
 (.loop [0, 3]
 (.seq (.seq (.reg [⟨some 10, none, .mv (.t 3)⟩,
 ⟨some 11, none, .mv (.t 0)⟩,
 ⟨some 12, none, .len (.t 11)⟩,
 ⟨some 13, none, .bin .lss (.t 10) (.t 12)⟩] [0, 3, 13])
 (.cond (.t 13)
 .skip
 (.exit 0)))
 (.seq (.block 1
 (.seq (.dreg [⟨some 16, none, .mv (.t 0)⟩,
 ⟨some 17, none, .mv (.t 3)⟩,
 ⟨some 18, none, .ixS 1 (.t 16) (.t 17)⟩,
 ⟨some 19, none, .load none (.t 18)⟩,
 ⟨some 20, none, .mv (.t 0)⟩,
 ⟨some 21, none, .mv (.t 3)⟩,
 ⟨some 22, none, .bin .sub (.t 21) (.c (.int .i64 1))⟩,
 ⟨some 23, none, .ixS 1 (.t 20) (.t 22)⟩,
 ⟨some 24, none, .load none (.t 23)⟩,
 ⟨some 25, none, .bin .eql (.t 19) (.t 24)⟩] [0, 3, 25] [[], [], [0, 1], [0, 1, 2], [], [], [5], [4, 5, 6], [4, 5, 6, 7], [0, 1, 2, 3, 4, 5, 6, 7, 8]])
 (.cond (.t 25)
 (.seq (.reg [⟨some 26, none, .mv (.t 0)⟩,
 ⟨some 27, none, .mv (.t 3)⟩,
 ⟨some 28, none, .sub 0 1 (.t 26) (some (.t 27)) none none⟩,
 ⟨some 4, none, .mv (.t 28)⟩] [0, 3, 4])
 (.seq (.seq (.reg [⟨some 5, none, .mv (.c (.int .i64 1))⟩] [0, 3, 4, 5])
 (.block 2
 (.loop [0, 3, 4, 5]
 (.seq (.seq (.reg [⟨some 29, none, .mv (.t 5)⟩,
 ⟨some 30, none, .mv (.t 4)⟩,
 ⟨some 31, none, .len (.t 30)⟩,
 ⟨some 32, none, .bin .lss (.t 29) (.t 31)⟩] [0, 3, 4, 5, 32])
 (.cond (.t 32)
 .skip
 (.exit 2)))
 (.seq (.block 3
 (.seq (.dreg [⟨some 35, none, .mv (.t 4)⟩,
 ⟨some 36, none, .mv (.t 5)⟩,
 ⟨some 37, none, .ixS 1 (.t 35) (.t 36)⟩,
 ⟨some 38, none, .load none (.t 37)⟩,
 ⟨some 39, none, .mv (.t 4)⟩,
 ⟨some 40, none, .mv (.t 5)⟩,
 ⟨some 41, none, .bin .sub (.t 40) (.c (.int .i64 1))⟩,
 ⟨some 42, none, .ixS 1 (.t 39) (.t 41)⟩,
 ⟨some 43, none, .load none (.t 42)⟩,
 ⟨some 44, none, .bin .neq (.t 38) (.t 43)⟩] [0, 3, 4, 5, 44] [[], [], [0, 1], [0, 1, 2], [], [], [5], [4, 5, 6], [4, 5, 6, 7], [0, 1, 2, 3, 4, 5, 6, 7, 8]])
 (.cond (.t 44)
 (.seq (.reg [⟨some 45, none, .mv (.t 0)⟩,
 ⟨some 46, none, .mv (.t 3)⟩,
 ⟨some 47, none, .mv (.t 4)⟩,
 ⟨some 48, none, .mv (.t 5)⟩,
 ⟨some 49, none, .ixS 1 (.t 47) (.t 48)⟩,
 ⟨some 50, none, .load none (.t 49)⟩,
 ⟨some 51, none, .ixS 1 (.t 45) (.t 46)⟩,
 ⟨none, none, .store 1 (.t 51) (.t 50)⟩] [0, 3, 4, 5])
 (.reg [⟨some 52, none, .mv (.t 3)⟩,
 ⟨some 53, none, .bin .add (.t 52) (.c (.int .i64 1))⟩,
 ⟨some 3, none, .mv (.t 53)⟩] [0, 3, 4, 5]))
 .skip)))
 (.reg [⟨some 33, none, .mv (.t 5)⟩,
 ⟨some 34, none, .bin .add (.t 33) (.c (.int .i64 1))⟩,
 ⟨some 5, none, .mv (.t 34)⟩] [0, 3, 4, 5]))))))
 (.seq (.reg [⟨some 54, none, .mv (.t 0)⟩,
 ⟨some 55, none, .mv (.t 3)⟩,
 ⟨some 56, none, .sub 0 1 (.t 54) (some (.t 55)) none none⟩,
 ⟨none, none, .clear 1 (.int .i64 0) (.t 56)⟩] [0, 3])
 (.seq (.reg [⟨some 57, none, .mv (.t 0)⟩,
 ⟨some 58, none, .mv (.t 3)⟩,
 ⟨some 59, none, .sub 0 1 (.t 57) none (some (.t 58)) none⟩,
 ⟨some 2, none, .mvd (.t 59)⟩] [2])
 .ret))))
 .skip)))
 (.reg [⟨some 14, none, .mv (.t 3)⟩,
 ⟨some 15, none, .bin .add (.t 14) (.c (.int .i64 1))⟩,
 ⟨some 3, none, .mv (.t 15)⟩] [0, 3]))))))
 (.seq (.reg [⟨some 60, none, .mv (.t 0)⟩,
 ⟨some 2, none, .mvd (.t 60)⟩] [2])
 .ret))))
abbrev R_slices_Compact_int_int : List (Nat × Option (Option Nat)) := [(2, none)]
theorem K_slices_Compact_int_int : chkF Tryz.prog Tryz.f194 61 C_slices_Compact_int_int R_slices_Compact_int_int = true := by kernel_rfl
theorem spec_slices_Compact_int_int {args : List AVal} {σ : AHeap} {R : ARes → AHeap → Prop} (ha : args.length ≤ 61) (h : AW Tryz.prog 61 none C_slices_Compact_int_int (bodyQ R_slices_Compact_int_int R) { v := argEnv args 0, ds := [] } σ) : Spec Tryz.prog F_slices_Compact_int_int args σ R := Spec.of_fn Tryz.func194 K_slices_Compact_int_int ha h
theorem B_slices_Compact_int_int : hasBody Tryz.prog F_slices_Compact_int_int = true := by kernel_rfl
theorem E_slices_Compact_int_int : EntOk Tryz.prog ⟨194, 61, C_slices_Compact_int_int, R_slices_Compact_int_int, 0⟩ := ⟨fun _ => ⟨B_slices_Compact_int_int, _, Tryz.func194, K_slices_Compact_int_int⟩, fun h => by cases h⟩

abbrev F_stand_body_levers : FuncId := 195
/-- (orlop/stand.body).levers: parameters ['stand.body'], results ['[3]stand.lever'] -/
def C_stand_body_levers : AC :=
 (.seq (.reg [⟨some 1, none, .pbox 3 (.t 0)⟩,
 ⟨some 2, none, .alloc [.nilfunc, .nilfunc, .nilfunc, .nilfunc, .nilfunc, .nilfunc, .nilfunc, .nilfunc, .nilfunc]⟩] [1, 2])
 (.seq (.reg [⟨some 7, none, .mkfunc (.func 217) [] [(.t 1)]⟩,
 ⟨some 8, none, .mkfunc (.func 218) [] [(.t 1)]⟩,
 ⟨some 9, none, .build [.nilfunc, .nilfunc, .nilfunc] [(0, 1, (.f 216)), (1, 1, (.t 7)), (2, 1, (.t 8))]⟩,
 ⟨some 3, none, .alloc [.nilfunc, .nilfunc, .nilfunc]⟩,
 ⟨none, none, .store 3 (.t 3) (.t 9)⟩] [2, 3])
 (.frz 3 true (.seq (.reg [⟨some 4, none, .alloc [.nilfunc, .nilfunc, .nilfunc, .nilfunc, .nilfunc, .nilfunc, .nilfunc, .nilfunc, .nilfunc]⟩] [2, 3, 4])
 (.seq (.seq (.reg [⟨some 10, none, .load (some 3) (.t 3)⟩,
 ⟨some 11, none, .mv (.c (.int .i64 0))⟩] [2, 4, 10, 11])
 (.block 0
 (.loop [2, 4, 10, 11]
 (.seq (.reg [⟨some 12, none, .bin .lss (.t 11) (.c (.int .i64 3))⟩] [2, 4, 10, 11, 12])
 (.seq (.cond (.t 12)
 .skip
 (.exit 0))
 (.seq (.block 1
 (.seq (.reg [⟨some 13, none, .mv (.t 11)⟩,
 ⟨some 14, none, .ixV 3 1 none (.t 10) (.t 11)⟩,
 ⟨some 5, none, .mv (.t 13)⟩,
 ⟨some 6, none, .mv (.t 14)⟩] [2, 4, 5, 6, 10, 11])
 (.reg [⟨some 15, none, .mv (.t 5)⟩,
 ⟨some 16, none, .mv (.t 6)⟩,
 ⟨some 17, none, .build [.nilfunc, .nilfunc, .nilfunc] [(0, 1, (.t 16)), (1, 1, (.f 219)), (2, 1, (.f 220))]⟩,
 ⟨some 18, none, .ixA 3 3 (some 3) (.t 4) (.t 15)⟩,
 ⟨none, none, .store 3 (.t 18) (.t 17)⟩] [2, 4, 10, 11])))
 (.reg [⟨some 19, none, .bin .add (.t 11) (.c (.int .i64 1))⟩,
 ⟨some 11, none, .mv (.t 19)⟩] [2, 4, 10, 11])))))))
 (.seq (.reg [⟨some 20, none, .load (some 9) (.t 4)⟩,
 ⟨none, none, .store 9 (.t 2) (.t 20)⟩] [2])
 .ret))))))
abbrev R_stand_body_levers : List (Nat × Option (Option Nat)) := [(2, some (some 9))]
theorem K_stand_body_levers : chkF Tryz.prog Tryz.f195 21 C_stand_body_levers R_stand_body_levers = true := by kernel_rfl
theorem spec_stand_body_levers {args : List AVal} {σ : AHeap} {R : ARes → AHeap → Prop} (ha : args.length ≤ 21) (h : AW Tryz.prog 21 none C_stand_body_levers (bodyQ R_stand_body_levers R) { v := argEnv args 0, ds := [] } σ) : Spec Tryz.prog F_stand_body_levers args σ R := Spec.of_fn Tryz.func195 K_stand_body_levers ha h
theorem B_stand_body_levers : hasBody Tryz.prog F_stand_body_levers = true := by kernel_rfl
theorem E_stand_body_levers : EntOk Tryz.prog ⟨195, 21, C_stand_body_levers, R_stand_body_levers, 0⟩ := ⟨fun _ => ⟨B_stand_body_levers, _, Tryz.func195, K_stand_body_levers⟩, fun h => by cases h⟩

abbrev F_slices_ContainsFunc_api_VnTank_api_VnTank : FuncId := 196
/-- slices.ContainsFunc[[]orlop/api.VnTank,orlop/api.VnTank]: parameters ['[]api.VnTank', 'func(api.VnTank) bool'], results ['bool'] -/
def C_slices_ContainsFunc_api_VnTank_api_VnTank : AC :=
 (.seq (.reg [⟨some 4, none, .mv (.c (.bool false))⟩] [0, 1])
 (.seq (.reg [⟨some 5, none, .mv (.t 0)⟩,
 ⟨some 6, none, .mv (.t 1)⟩,
 ⟨some 7, none, .call (.f 221) [true, false] [(.t 5), (.t 6)]⟩,
 ⟨some 8, none, .bin .geq (.t 7) (.c (.int .i64 0))⟩,
 ⟨some 4, none, .mv (.t 8)⟩] [4])
 .ret))
abbrev R_slices_ContainsFunc_api_VnTank_api_VnTank : List (Nat × Option (Option Nat)) := [(4, none)]
theorem K_slices_ContainsFunc_api_VnTank_api_VnTank : chkF Tryz.prog Tryz.f196 9 C_slices_ContainsFunc_api_VnTank_api_VnTank R_slices_ContainsFunc_api_VnTank_api_VnTank = true := by kernel_rfl
theorem spec_slices_ContainsFunc_api_VnTank_api_VnTank {args : List AVal} {σ : AHeap} {R : ARes → AHeap → Prop} (ha : args.length ≤ 9) (h : AW Tryz.prog 9 none C_slices_ContainsFunc_api_VnTank_api_VnTank (bodyQ R_slices_ContainsFunc_api_VnTank_api_VnTank R) { v := argEnv args 0, ds := [] } σ) : Spec Tryz.prog F_slices_ContainsFunc_api_VnTank_api_VnTank args σ R := Spec.of_fn Tryz.func196 K_slices_ContainsFunc_api_VnTank_api_VnTank ha h
theorem B_slices_ContainsFunc_api_VnTank_api_VnTank : hasBody Tryz.prog F_slices_ContainsFunc_api_VnTank_api_VnTank = true := by kernel_rfl
theorem E_slices_ContainsFunc_api_VnTank_api_VnTank : EntOk Tryz.prog ⟨196, 9, C_slices_ContainsFunc_api_VnTank_api_VnTank, R_slices_ContainsFunc_api_VnTank_api_VnTank, 0⟩ := ⟨fun _ => ⟨B_slices_ContainsFunc_api_VnTank_api_VnTank, _, Tryz.func196, K_slices_ContainsFunc_api_VnTank_api_VnTank⟩, fun h => by cases h⟩

abbrev F_vent_Check_1 : FuncId := 197
/-- orlop/vent.Check$1: parameters ['api.VnTank'], results ['bool'] -/
def C_vent_Check_1 : AC :=
 (.seq (.reg [⟨some 2, none, .pbox 2 (.t 0)⟩,
 ⟨some 3, none, .mv (.c (.bool false))⟩] [1, 2])
 (.seq (.reg [⟨some 4, none, .fieldAddr none 0 (.t 2)⟩,
 ⟨some 5, none, .load none (.t 4)⟩,
 ⟨some 6, none, .fieldAddr none 0 (.t 1)⟩,
 ⟨some 7, none, .load none (.t 6)⟩,
 ⟨some 8, none, .bin .eql (.t 5) (.t 7)⟩,
 ⟨some 3, none, .mv (.t 8)⟩] [3])
 .ret))
abbrev R_vent_Check_1 : List (Nat × Option (Option Nat)) := [(3, none)]
theorem K_vent_Check_1 : chkF Tryz.prog Tryz.f197 9 C_vent_Check_1 R_vent_Check_1 = true := by kernel_rfl
theorem spec_vent_Check_1 {args : List AVal} {σ : AHeap} {R : ARes → AHeap → Prop} (ha : args.length ≤ 9) (h : AW Tryz.prog 9 none C_vent_Check_1 (bodyQ R_vent_Check_1 R) { v := argEnv args 0, ds := [] } σ) : Spec Tryz.prog F_vent_Check_1 args σ R := Spec.of_fn Tryz.func197 K_vent_Check_1 ha h
theorem B_vent_Check_1 : hasBody Tryz.prog F_vent_Check_1 = true := by kernel_rfl
theorem E_vent_Check_1 : EntOk Tryz.prog ⟨197, 9, C_vent_Check_1, R_vent_Check_1, 0⟩ := ⟨fun _ => ⟨B_vent_Check_1, _, Tryz.func197, K_vent_Check_1⟩, fun h => by cases h⟩

abbrev F_math_bits_TrailingZeros32 : FuncId := 200
/-- math/bits.TrailingZeros32: parameters ['uint32'], results ['int'] -/
def C_math_bits_TrailingZeros32 : AC :=
 (.seq (.reg [⟨some 2, none, .mv (.c (.int .i64 0))⟩] [0])
 (.seq (.seq (.reg [⟨some 3, none, .mv (.t 0)⟩,
 ⟨some 4, none, .bin .eql (.t 3) (.c (.int .u32 0))⟩] [0, 4])
 (.cond (.t 4)
 (.seq (.reg [⟨some 2, none, .mv (.c (.int .i64 32))⟩] [2])
 .ret)
 .skip))
 (.seq (.reg [⟨some 5, none, .mv (.t 0)⟩,
 ⟨some 6, none, .mv (.t 0)⟩,
 ⟨some 7, none, .un .neg (.t 6)⟩,
 ⟨some 8, none, .bin .and (.t 5) (.t 7)⟩,
 ⟨some 9, none, .bin .mul (.t 8) (.c (.int .u32 125613361))⟩,
 ⟨some 10, none, .bin .shr (.t 9) (.c (.int .u64 27))⟩,
 ⟨some 11, none, .gix 0 (.t 10)⟩,
 ⟨some 12, none, .load none (.t 11)⟩,
 ⟨some 13, none, .conv .i64 (.t 12)⟩,
 ⟨some 2, none, .mv (.t 13)⟩] [2])
 .ret)))
abbrev R_math_bits_TrailingZeros32 : List (Nat × Option (Option Nat)) := [(2, none)]
theorem K_math_bits_TrailingZeros32 : chkF Tryz.prog Tryz.f200 14 C_math_bits_TrailingZeros32 R_math_bits_TrailingZeros32 = true := by kernel_rfl
theorem spec_math_bits_TrailingZeros32 {args : List AVal} {σ : AHeap} {R : ARes → AHeap → Prop} (ha : args.length ≤ 14) (h : AW Tryz.prog 14 none C_math_bits_TrailingZeros32 (bodyQ R_math_bits_TrailingZeros32 R) { v := argEnv args 0, ds := [] } σ) : Spec Tryz.prog F_math_bits_TrailingZeros32 args σ R := Spec.of_fn Tryz.func200 K_math_bits_TrailingZeros32 ha h
theorem B_math_bits_TrailingZeros32 : hasBody Tryz.prog F_math_bits_TrailingZeros32 = true := by kernel_rfl
theorem E_math_bits_TrailingZeros32 : EntOk Tryz.prog ⟨200, 14, C_math_bits_TrailingZeros32, R_math_bits_TrailingZeros32, 0⟩ := ⟨fun _ => ⟨B_math_bits_TrailingZeros32, _, Tryz.func200, K_math_bits_TrailingZeros32⟩, fun h => by cases h⟩

abbrev F_math_bits_TrailingZeros64 : FuncId := 201
/-- math/bits.TrailingZeros64: parameters ['uint64'], results ['int'] -/
def C_math_bits_TrailingZeros64 : AC :=
 (.seq (.reg [⟨some 2, none, .mv (.c (.int .i64 0))⟩] [0])
 (.seq (.seq (.reg [⟨some 3, none, .mv (.t 0)⟩,
 ⟨some 4, none, .bin .eql (.t 3) (.c (.int .u64 0))⟩] [0, 4])
 (.cond (.t 4)
 (.seq (.reg [⟨some 2, none, .mv (.c (.int .i64 64))⟩] [2])
 .ret)
 .skip))
 (.seq (.reg [⟨some 5, none, .mv (.t 0)⟩,
 ⟨some 6, none, .mv (.t 0)⟩,
 ⟨some 7, none, .un .neg (.t 6)⟩,
 ⟨some 8, none, .bin .and (.t 5) (.t 7)⟩,
 ⟨some 9, none, .bin .mul (.t 8) (.c (.int .u64 285870213051353865))⟩,
 ⟨some 10, none, .bin .shr (.t 9) (.c (.int .u64 58))⟩,
 ⟨some 11, none, .gix 1 (.t 10)⟩,
 ⟨some 12, none, .load none (.t 11)⟩,
 ⟨some 13, none, .conv .i64 (.t 12)⟩,
 ⟨some 2, none, .mv (.t 13)⟩] [2])
 .ret)))
abbrev R_math_bits_TrailingZeros64 : List (Nat × Option (Option Nat)) := [(2, none)]
theorem K_math_bits_TrailingZeros64 : chkF Tryz.prog Tryz.f201 14 C_math_bits_TrailingZeros64 R_math_bits_TrailingZeros64 = true := by kernel_rfl
theorem spec_math_bits_TrailingZeros64 {args : List AVal} {σ : AHeap} {R : ARes → AHeap → Prop} (ha : args.length ≤ 14) (h : AW Tryz.prog 14 none C_math_bits_TrailingZeros64 (bodyQ R_math_bits_TrailingZeros64 R) { v := argEnv args 0, ds := [] } σ) : Spec Tryz.prog F_math_bits_TrailingZeros64 args σ R := Spec.of_fn Tryz.func201 K_math_bits_TrailingZeros64 ha h
theorem B_math_bits_TrailingZeros64 : hasBody Tryz.prog F_math_bits_TrailingZeros64 = true := by kernel_rfl
theorem E_math_bits_TrailingZeros64 : EntOk Tryz.prog ⟨201, 14, C_math_bits_TrailingZeros64, R_math_bits_TrailingZeros64, 0⟩ := ⟨fun _ => ⟨B_math_bits_TrailingZeros64, _, Tryz.func201, K_math_bits_TrailingZeros64⟩, fun h => by cases h⟩

abbrev F_slices_siftDownOrdered_int : FuncId := 202
/-- slices.siftDownOrdered[int]: parameters ['[]int', 'int', 'int', 'int'], results [] -/
def C_slices_siftDownOrdered_int : AC :=
 (.seq (.reg [⟨some 10, none, .mv (.t 1)⟩,
 ⟨some 8, none, .mv (.t 10)⟩] [0, 2, 3, 8])
 (.block 0
 (.loop [0, 2, 3, 8]
 (.block 1
 (.seq (.reg [⟨some 11, none, .mv (.t 8)⟩,
 ⟨some 12, none, .bin .mul (.c (.int .i64 2)) (.t 11)⟩,
 ⟨some 13, none, .bin .add (.t 12) (.c (.int .i64 1))⟩,
 ⟨some 9, none, .mv (.t 13)⟩] [0, 2, 3, 8, 9])
 (.seq (.seq (.reg [⟨some 14, none, .mv (.t 9)⟩,
 ⟨some 15, none, .mv (.t 2)⟩,
 ⟨some 16, none, .bin .geq (.t 14) (.t 15)⟩] [0, 2, 3, 8, 9, 16])
 (.cond (.t 16)
 (.exit 0)
 .skip))
 (.seq (.seq (.dreg [⟨some 17, none, .mv (.t 9)⟩,
 ⟨some 18, none, .bin .add (.t 17) (.c (.int .i64 1))⟩,
 ⟨some 19, none, .mv (.t 2)⟩,
 ⟨some 20, none, .bin .lss (.t 18) (.t 19)⟩,
 ⟨some 21, none, .mv (.t 20)⟩,
 ⟨some 22, (some (21, true)), .mv (.t 0)⟩,
 ⟨some 23, (some (21, true)), .mv (.t 3)⟩,
 ⟨some 24, (some (21, true)), .mv (.t 9)⟩,
 ⟨some 25, (some (21, true)), .bin .add (.t 23) (.t 24)⟩,
 ⟨some 26, (some (21, true)), .ixS 1 (.t 22) (.t 25)⟩,
 ⟨some 27, (some (21, true)), .load none (.t 26)⟩,
 ⟨some 28, (some (21, true)), .mv (.t 0)⟩,
 ⟨some 29, (some (21, true)), .mv (.t 3)⟩,
 ⟨some 30, (some (21, true)), .mv (.t 9)⟩,
 ⟨some 31, (some (21, true)), .bin .add (.t 29) (.t 30)⟩,
 ⟨some 32, (some (21, true)), .bin .add (.t 31) (.c (.int .i64 1))⟩,
 ⟨some 33, (some (21, true)), .ixS 1 (.t 28) (.t 32)⟩,
 ⟨some 34, (some (21, true)), .load none (.t 33)⟩,
 ⟨some 35, (some (21, true)), .call (.f 172) [false, false] [(.t 27), (.t 34)]⟩,
 ⟨some 36, none, .pick (.t 21) (.t 35) (.c (.bool false))⟩] [0, 2, 3, 8, 9, 36] [[], [0], [], [0, 1, 2], [0, 1, 2, 3], [0, 1, 2, 3, 4], [0, 1, 2, 3, 4], [0, 1, 2, 3, 4], [0, 1, 2, 3, 4, 6, 7], [0, 1, 2, 3, 4, 5, 6, 7, 8], [0, 1, 2, 3, 4, 5, 6, 7, 8, 9], [0, 1, 2, 3, 4], [0, 1, 2, 3, 4], [0, 1, 2, 3, 4], [0, 1, 2, 3, 4, 12, 13], [0, 1, 2, 3, 4, 12, 13, 14], [0, 1, 2, 3, 4, 11, 12, 13, 14, 15], [0, 1, 2, 3, 4, 11, 12, 13, 14, 15, 16], [0, 1, 2, 3, 4, 5, 6, 7, 8, 9, 10, 11, 12, 13, 14, 15, 16, 17], [0, 1, 2, 3, 4, 5, 6, 7, 8, 9, 10, 11, 12, 13, 14, 15, 16, 17, 18]])
 (.cond (.t 36)
 (.reg [⟨some 37, none, .mv (.t 9)⟩,
 ⟨some 38, none, .bin .add (.t 37) (.c (.int .i64 1))⟩,
 ⟨some 9, none, .mv (.t 38)⟩] [0, 2, 3, 8, 9])
 .skip))
 (.seq (.seq (.dreg [⟨some 39, none, .mv (.t 0)⟩,
 ⟨some 40, none, .mv (.t 3)⟩,
 ⟨some 41, none, .mv (.t 8)⟩,
 ⟨some 42, none, .bin .add (.t 40) (.t 41)⟩,
 ⟨some 43, none, .ixS 1 (.t 39) (.t 42)⟩,
 ⟨some 44, none, .load none (.t 43)⟩,
 ⟨some 45, none, .mv (.t 0)⟩,
 ⟨some 46, none, .mv (.t 3)⟩,
 ⟨some 47, none, .mv (.t 9)⟩,
 ⟨some 48, none, .bin .add (.t 46) (.t 47)⟩,
 ⟨some 49, none, .ixS 1 (.t 45) (.t 48)⟩,
 ⟨some 50, none, .load none (.t 49)⟩,
 ⟨some 51, none, .call (.f 172) [false, false] [(.t 44), (.t 50)]⟩,
 ⟨some 52, none, .un .not (.t 51)⟩] [0, 2, 3, 8, 9, 52] [[], [], [], [1, 2], [0, 1, 2, 3], [0, 1, 2, 3, 4], [], [], [], [7, 8], [6, 7, 8, 9], [6, 7, 8, 9, 10], [0, 1, 2, 3, 4, 5, 6, 7, 8, 9, 10, 11], [0, 1, 2, 3, 4, 5, 6, 7, 8, 9, 10, 11, 12]])
 (.cond (.t 52)
 .ret
 .skip))
 (.seq (.dreg [⟨some 53, none, .mv (.t 0)⟩,
 ⟨some 54, none, .mv (.t 3)⟩,
 ⟨some 55, none, .mv (.t 8)⟩,
 ⟨some 56, none, .bin .add (.t 54) (.t 55)⟩,
 ⟨some 57, none, .mv (.t 0)⟩,
 ⟨some 58, none, .mv (.t 3)⟩,
 ⟨some 59, none, .mv (.t 9)⟩,
 ⟨some 60, none, .bin .add (.t 58) (.t 59)⟩,
 ⟨some 61, none, .mv (.t 0)⟩,
 ⟨some 62, none, .mv (.t 3)⟩,
 ⟨some 63, none, .mv (.t 9)⟩,
 ⟨some 64, none, .bin .add (.t 62) (.t 63)⟩,
 ⟨some 65, none, .ixS 1 (.t 61) (.t 64)⟩,
 ⟨some 66, none, .load none (.t 65)⟩,
 ⟨some 67, none, .mv (.t 0)⟩,
 ⟨some 68, none, .mv (.t 3)⟩,
 ⟨some 69, none, .mv (.t 8)⟩,
 ⟨some 70, none, .bin .add (.t 68) (.t 69)⟩,
 ⟨some 71, none, .ixS 1 (.t 67) (.t 70)⟩,
 ⟨some 72, none, .load none (.t 71)⟩,
 ⟨some 73, none, .ixS 1 (.t 53) (.t 56)⟩,
 ⟨none, none, .store 1 (.t 73) (.t 66)⟩,
 ⟨some 74, none, .ixS 1 (.t 57) (.t 60)⟩,
 ⟨none, none, .store 1 (.t 74) (.t 72)⟩] [0, 2, 3, 9] [[], [], [], [1, 2], [], [], [], [5, 6], [], [], [], [9, 10], [8, 9, 10, 11], [8, 9, 10, 11, 12], [], [], [], [15, 16], [14, 15, 16, 17], [14, 15, 16, 17, 18], [0, 1, 2, 3, 8, 9, 10, 11, 12, 13, 14, 15, 16, 17, 18, 19], [0, 1, 2, 3, 8, 9, 10, 11, 12, 13, 14, 15, 16, 17, 18, 19, 20], [0, 1, 2, 3, 4, 5, 6, 7, 8, 9, 10, 11, 12, 13, 14, 15, 16, 17, 18, 19, 20, 21], [0, 1, 2, 3, 4, 5, 6, 7, 8, 9, 10, 11, 12, 13, 14, 15, 16, 17, 18, 19, 20, 21, 22]])
 (.reg [⟨some 75, none, .mv (.t 9)⟩,
 ⟨some 8, none, .mv (.t 75)⟩] [0, 2, 3, 8]))))))))))
abbrev R_slices_siftDownOrdered_int : List (Nat × Option (Option Nat)) := []
theorem K_slices_siftDownOrdered_int : chkF Tryz.prog Tryz.f202 76 C_slices_siftDownOrdered_int R_slices_siftDownOrdered_int = true := by kernel_rfl
theorem spec_slices_siftDownOrdered_int {args : List AVal} {σ : AHeap} {R : ARes → AHeap → Prop} (ha : args.length ≤ 76) (h : AW Tryz.prog 76 none C_slices_siftDownOrdered_int (bodyQ R_slices_siftDownOrdered_int R) { v := argEnv args 0, ds := [] } σ) : Spec Tryz.prog F_slices_siftDownOrdered_int args σ R := Spec.of_fn Tryz.func202 K_slices_siftDownOrdered_int ha h
theorem B_slices_siftDownOrdered_int : hasBody Tryz.prog F_slices_siftDownOrdered_int = true := by kernel_rfl
theorem E_slices_siftDownOrdered_int : EntOk Tryz.prog ⟨202, 76, C_slices_siftDownOrdered_int, R_slices_siftDownOrdered_int, 0⟩ := ⟨fun _ => ⟨B_slices_siftDownOrdered_int, _, Tryz.func202, K_slices_siftDownOrdered_int⟩, fun h => by cases h⟩

abbrev F_slices_nextPowerOfTwo : FuncId := 203
/-- slices.nextPowerOfTwo: parameters ['int'], results ['uint'] -/
def C_slices_nextPowerOfTwo : AC :=
 (.seq (.reg [⟨some 2, none, .mv (.c (.int .u64 0))⟩] [0])
 (.seq (.reg [⟨some 3, none, .mv (.t 0)⟩,
 ⟨some 4, none, .conv .u64 (.t 3)⟩,
 ⟨some 5, none, .call (.f 130) [false] [(.t 4)]⟩,
 ⟨some 6, none, .bin .shl (.c (.int .u64 1)) (.t 5)⟩,
 ⟨some 2, none, .mv (.t 6)⟩] [2])
 .ret))
abbrev R_slices_nextPowerOfTwo : List (Nat × Option (Option Nat)) := [(2, none)]
theorem K_slices_nextPowerOfTwo : chkF Tryz.prog Tryz.f203 7 C_slices_nextPowerOfTwo R_slices_nextPowerOfTwo = true := by kernel_rfl
theorem spec_slices_nextPowerOfTwo {args : List AVal} {σ : AHeap} {R : ARes → AHeap → Prop} (ha : args.length ≤ 7) (h : AW Tryz.prog 7 none C_slices_nextPowerOfTwo (bodyQ R_slices_nextPowerOfTwo R) { v := argEnv args 0, ds := [] } σ) : Spec Tryz.prog F_slices_nextPowerOfTwo args σ R := Spec.of_fn Tryz.func203 K_slices_nextPowerOfTwo ha h
theorem B_slices_nextPowerOfTwo : hasBody Tryz.prog F_slices_nextPowerOfTwo = true := by kernel_rfl
theorem E_slices_nextPowerOfTwo : EntOk Tryz.prog ⟨203, 7, C_slices_nextPowerOfTwo, R_slices_nextPowerOfTwo, 0⟩ := ⟨fun _ => ⟨B_slices_nextPowerOfTwo, _, Tryz.func203, K_slices_nextPowerOfTwo⟩, fun h => by cases h⟩

abbrev F_slices_xorshift_Next : FuncId := 204
/-- (*slices.xorshift).Next: parameters ['*slices.xorshift'], results ['uint64'] -/
def C_slices_xorshift_Next : AC :=
 (.seq (.reg [⟨some 2, none, .mv (.c (.int .u64 0))⟩] [0])
 (.seq (.dreg [⟨some 3, none, .mv (.t 0)⟩,
 ⟨some 4, none, .nilchk (.t 3)⟩,
 ⟨some 5, none, .load none (.t 4)⟩,
 ⟨some 6, none, .mv (.t 0)⟩,
 ⟨some 7, none, .nilchk (.t 6)⟩,
 ⟨some 8, none, .load none (.t 7)⟩,
 ⟨some 9, none, .bin .shl (.t 8) (.c (.int .u64 13))⟩,
 ⟨some 10, none, .bin .xor (.t 5) (.t 9)⟩,
 ⟨some 11, none, .nilchk (.t 3)⟩,
 ⟨none, none, .store 1 (.t 11) (.t 10)⟩] [0] [[], [0], [0, 1], [], [3], [3, 4], [3, 4, 5], [0, 1, 2, 3, 4, 5, 6], [0, 1, 2, 3, 4, 5, 6, 7], [0, 1, 2, 3, 4, 5, 6, 7, 8]])
 (.seq (.dreg [⟨some 12, none, .mv (.t 0)⟩,
 ⟨some 13, none, .nilchk (.t 12)⟩,
 ⟨some 14, none, .load none (.t 13)⟩,
 ⟨some 15, none, .mv (.t 0)⟩,
 ⟨some 16, none, .nilchk (.t 15)⟩,
 ⟨some 17, none, .load none (.t 16)⟩,
 ⟨some 18, none, .bin .shr (.t 17) (.c (.int .u64 7))⟩,
 ⟨some 19, none, .bin .xor (.t 14) (.t 18)⟩,
 ⟨some 20, none, .nilchk (.t 12)⟩,
 ⟨none, none, .store 1 (.t 20) (.t 19)⟩] [0] [[], [0], [0, 1], [], [3], [3, 4], [3, 4, 5], [0, 1, 2, 3, 4, 5, 6], [0, 1, 2, 3, 4, 5, 6, 7], [0, 1, 2, 3, 4, 5, 6, 7, 8]])
 (.seq (.dreg [⟨some 21, none, .mv (.t 0)⟩,
 ⟨some 22, none, .nilchk (.t 21)⟩,
 ⟨some 23, none, .load none (.t 22)⟩,
 ⟨some 24, none, .mv (.t 0)⟩,
 ⟨some 25, none, .nilchk (.t 24)⟩,
 ⟨some 26, none, .load none (.t 25)⟩,
 ⟨some 27, none, .bin .shl (.t 26) (.c (.int .u64 17))⟩,
 ⟨some 28, none, .bin .xor (.t 23) (.t 27)⟩,
 ⟨some 29, none, .nilchk (.t 21)⟩,
 ⟨none, none, .store 1 (.t 29) (.t 28)⟩] [0] [[], [0], [0, 1], [], [3], [3, 4], [3, 4, 5], [0, 1, 2, 3, 4, 5, 6], [0, 1, 2, 3, 4, 5, 6, 7], [0, 1, 2, 3, 4, 5, 6, 7, 8]])
 (.seq (.reg [⟨some 30, none, .mv (.t 0)⟩,
 ⟨some 31, none, .nilchk (.t 30)⟩,
 ⟨some 32, none, .load none (.t 31)⟩,
 ⟨some 2, none, .mv (.t 32)⟩] [2])
 .ret)))))
abbrev R_slices_xorshift_Next : List (Nat × Option (Option Nat)) := [(2, none)]
theorem K_slices_xorshift_Next : chkF Tryz.prog Tryz.f204 33 C_slices_xorshift_Next R_slices_xorshift_Next = true := by kernel_rfl
theorem spec_slices_xorshift_Next {args : List AVal} {σ : AHeap} {R : ARes → AHeap → Prop} (ha : args.length ≤ 33) (h : AW Tryz.prog 33 none C_slices_xorshift_Next (bodyQ R_slices_xorshift_Next R) { v := argEnv args 0, ds := [] } σ) : Spec Tryz.prog F_slices_xorshift_Next args σ R := Spec.of_fn Tryz.func204 K_slices_xorshift_Next ha h
theorem B_slices_xorshift_Next : hasBody Tryz.prog F_slices_xorshift_Next = true := by kernel_rfl
theorem E_slices_xorshift_Next : EntOk Tryz.prog ⟨204, 33, C_slices_xorshift_Next, R_slices_xorshift_Next, 0⟩ := ⟨fun _ => ⟨B_slices_xorshift_Next, _, Tryz.func204, K_slices_xorshift_Next⟩, fun h => by cases h⟩

abbrev F_slices_medianAdjacentOrdered_int : FuncId := 205
/-- slices.medianAdjacentOrdered[int]: parameters ['[]int', 'int', '*int'], results ['int'] -/
def C_slices_medianAdjacentOrdered_int : AC :=
 (.seq (.reg [⟨some 6, none, .mv (.c (.int .i64 0))⟩] [0, 1, 2])
 (.seq (.reg [⟨some 7, none, .mv (.t 0)⟩,
 ⟨some 8, none, .mv (.t 1)⟩,
 ⟨some 9, none, .bin .sub (.t 8) (.c (.int .i64 1))⟩,
 ⟨some 10, none, .mv (.t 1)⟩,
 ⟨some 11, none, .mv (.t 1)⟩,
 ⟨some 12, none, .bin .add (.t 11) (.c (.int .i64 1))⟩,
 ⟨some 13, none, .mv (.t 2)⟩,
 ⟨some 14, none, .call (.f 206) [true, false, false, false, false] [(.t 7), (.t 9), (.t 10), (.t 12), (.t 13)]⟩,
 ⟨some 6, none, .mv (.t 14)⟩] [6])
 .ret))
abbrev R_slices_medianAdjacentOrdered_int : List (Nat × Option (Option Nat)) := [(6, none)]
theorem K_slices_medianAdjacentOrdered_int : chkF Tryz.prog Tryz.f205 15 C_slices_medianAdjacentOrdered_int R_slices_medianAdjacentOrdered_int = true := by kernel_rfl
theorem spec_slices_medianAdjacentOrdered_int {args : List AVal} {σ : AHeap} {R : ARes → AHeap → Prop} (ha : args.length ≤ 15) (h : AW Tryz.prog 15 none C_slices_medianAdjacentOrdered_int (bodyQ R_slices_medianAdjacentOrdered_int R) { v := argEnv args 0, ds := [] } σ) : Spec Tryz.prog F_slices_medianAdjacentOrdered_int args σ R := Spec.of_fn Tryz.func205 K_slices_medianAdjacentOrdered_int ha h
theorem B_slices_medianAdjacentOrdered_int : hasBody Tryz.prog F_slices_medianAdjacentOrdered_int = true := by kernel_rfl
theorem E_slices_medianAdjacentOrdered_int : EntOk Tryz.prog ⟨205, 15, C_slices_medianAdjacentOrdered_int, R_slices_medianAdjacentOrdered_int, 0⟩ := ⟨fun _ => ⟨B_slices_medianAdjacentOrdered_int, _, Tryz.func205, K_slices_medianAdjacentOrdered_int⟩, fun h => by cases h⟩

abbrev F_slices_medianOrdered_int : FuncId := 206
/-- slices.medianOrdered[int]: parameters ['[]int', 'int', 'int', 'int', '*int'], results ['int'] -/
def C_slices_medianOrdered_int : AC :=
 (.seq (.reg [⟨some 10, none, .mv (.c (.int .i64 0))⟩] [0, 1, 2, 3, 4])
 (.seq (.reg [⟨some 12, none, .mv (.t 0)⟩,
 ⟨some 13, none, .mv (.t 1)⟩,
 ⟨some 14, none, .mv (.t 2)⟩,
 ⟨some 15, none, .mv (.t 4)⟩,
 ⟨some 16, none, .call (.f 222) [true, false, false, false] [(.t 12), (.t 13), (.t 14), (.t 15)]⟩,
 ⟨some 11, none, .mv (.t 16)⟩,
 ⟨some 17, none, .extract (.t 11) 0⟩,
 ⟨some 18, none, .extract (.t 11) 1⟩,
 ⟨some 1, none, .mv (.t 17)⟩,
 ⟨some 2, none, .mv (.t 18)⟩] [0, 1, 2, 3, 4])
 (.seq (.reg [⟨some 20, none, .mv (.t 0)⟩,
 ⟨some 21, none, .mv (.t 2)⟩,
 ⟨some 22, none, .mv (.t 3)⟩,
 ⟨some 23, none, .mv (.t 4)⟩,
 ⟨some 24, none, .call (.f 222) [true, false, false, false] [(.t 20), (.t 21), (.t 22), (.t 23)]⟩,
 ⟨some 19, none, .mv (.t 24)⟩,
 ⟨some 25, none, .extract (.t 19) 0⟩,
 ⟨some 26, none, .extract (.t 19) 1⟩,
 ⟨some 2, none, .mv (.t 25)⟩,
 ⟨some 3, none, .mv (.t 26)⟩] [0, 1, 2, 4])
 (.seq (.reg [⟨some 28, none, .mv (.t 0)⟩,
 ⟨some 29, none, .mv (.t 1)⟩,
 ⟨some 30, none, .mv (.t 2)⟩,
 ⟨some 31, none, .mv (.t 4)⟩,
 ⟨some 32, none, .call (.f 222) [true, false, false, false] [(.t 28), (.t 29), (.t 30), (.t 31)]⟩,
 ⟨some 27, none, .mv (.t 32)⟩,
 ⟨some 33, none, .extract (.t 27) 0⟩,
 ⟨some 34, none, .extract (.t 27) 1⟩,
 ⟨some 1, none, .mv (.t 33)⟩,
 ⟨some 2, none, .mv (.t 34)⟩] [2])
 (.seq (.reg [⟨some 35, none, .mv (.t 2)⟩,
 ⟨some 10, none, .mv (.t 35)⟩] [10])
 .ret)))))
abbrev R_slices_medianOrdered_int : List (Nat × Option (Option Nat)) := [(10, none)]
theorem K_slices_medianOrdered_int : chkF Tryz.prog Tryz.f206 36 C_slices_medianOrdered_int R_slices_medianOrdered_int = true := by kernel_rfl
theorem spec_slices_medianOrdered_int {args : List AVal} {σ : AHeap} {R : ARes → AHeap → Prop} (ha : args.length ≤ 36) (h : AW Tryz.prog 36 none C_slices_medianOrdered_int (bodyQ R_slices_medianOrdered_int R) { v := argEnv args 0, ds := [] } σ) : Spec Tryz.prog F_slices_medianOrdered_int args σ R := Spec.of_fn Tryz.func206 K_slices_medianOrdered_int ha h
theorem B_slices_medianOrdered_int : hasBody Tryz.prog F_slices_medianOrdered_int = true := by kernel_rfl
theorem E_slices_medianOrdered_int : EntOk Tryz.prog ⟨206, 36, C_slices_medianOrdered_int, R_slices_medianOrdered_int, 0⟩ := ⟨fun _ => ⟨B_slices_medianOrdered_int, _, Tryz.func206, K_slices_medianOrdered_int⟩, fun h => by cases h⟩

abbrev F_cmp_isNaN_int : FuncId := 207
/-- cmp.isNaN[int]: parameters ['int'], results ['bool'] -/
def C_cmp_isNaN_int : AC :=
 (.seq (.reg [⟨some 2, none, .mv (.c (.bool false))⟩] [0])
 (.seq (.reg [⟨some 3, none, .mv (.t 0)⟩,
 ⟨some 4, none, .mv (.t 0)⟩,
 ⟨some 5, none, .bin .neq (.t 3) (.t 4)⟩,
 ⟨some 2, none, .mv (.t 5)⟩] [2])
 .ret))
abbrev R_cmp_isNaN_int : List (Nat × Option (Option Nat)) := [(2, none)]
theorem K_cmp_isNaN_int : chkF Tryz.prog Tryz.f207 6 C_cmp_isNaN_int R_cmp_isNaN_int = true := by kernel_rfl
theorem spec_cmp_isNaN_int {args : List AVal} {σ : AHeap} {R : ARes → AHeap → Prop} (ha : args.length ≤ 6) (h : AW Tryz.prog 6 none C_cmp_isNaN_int (bodyQ R_cmp_isNaN_int R) { v := argEnv args 0, ds := [] } σ) : Spec Tryz.prog F_cmp_isNaN_int args σ R := Spec.of_fn Tryz.func207 K_cmp_isNaN_int ha h
theorem B_cmp_isNaN_int : hasBody Tryz.prog F_cmp_isNaN_int = true := by kernel_rfl
theorem E_cmp_isNaN_int : EntOk Tryz.prog ⟨207, 6, C_cmp_isNaN_int, R_cmp_isNaN_int, 0⟩ := ⟨fun _ => ⟨B_cmp_isNaN_int, _, Tryz.func207, K_cmp_isNaN_int⟩, fun h => by cases h⟩

abbrev F_slices_IndexFunc_api_HuPart_api_HuPart : FuncId := 208
/-- slices.IndexFunc[[]orlop/api.HuPart,orlop/api.HuPart]: parameters ['[]api.HuPart', 'func(api.HuPart) bool'], results ['int'] -/
def C_slices_IndexFunc_api_HuPart_api_HuPart : AC :=
 (.seq (.reg [⟨some 4, none, .mv (.c (.int .i64 0))⟩] [0, 1])
 (.seq (.seq (.reg [⟨some 6, none, .mv (.t 0)⟩,
 ⟨some 7, none, .len (.t 6)⟩,
 ⟨some 8, none, .mv (.c (.int .i64 0))⟩] [0, 1, 7, 8])
 (.block 0
 (.loop [0, 1, 7, 8]
 (.seq (.reg [⟨some 9, none, .bin .lss (.t 8) (.t 7)⟩] [0, 1, 7, 8, 9])
 (.seq (.cond (.t 9)
 .skip
 (.exit 0))
 (.seq (.block 1
 (.seq (.reg [⟨some 10, none, .mv (.t 8)⟩,
 ⟨some 5, none, .mv (.t 10)⟩] [0, 1, 5, 7, 8])
 (.seq (.reg [⟨some 11, none, .mv (.t 1)⟩,
 ⟨some 12, none, .mv (.t 0)⟩,
 ⟨some 13, none, .mv (.t 5)⟩,
 ⟨some 14, none, .ixS 7 (.t 12) (.t 13)⟩,
 ⟨some 15, none, .load (some 7) (.t 14)⟩,
 ⟨some 16, none, .call (.t 11) [true] [(.t 15)]⟩] [0, 1, 5, 7, 8, 16])
 (.cond (.t 16)
 (.seq (.reg [⟨some 17, none, .mv (.t 5)⟩,
 ⟨some 4, none, .mv (.t 17)⟩] [4])
 .ret)
 .skip))))
 (.reg [⟨some 18, none, .bin .add (.t 8) (.c (.int .i64 1))⟩,
 ⟨some 8, none, .mv (.t 18)⟩] [0, 1, 7, 8])))))))
 (.seq (.reg [⟨some 4, none, .mv (.c (.int .i64 (-1)))⟩] [4])
 .ret)))
abbrev R_slices_IndexFunc_api_HuPart_api_HuPart : List (Nat × Option (Option Nat)) := [(4, none)]
theorem K_slices_IndexFunc_api_HuPart_api_HuPart : chkF Tryz.prog Tryz.f208 19 C_slices_IndexFunc_api_HuPart_api_HuPart R_slices_IndexFunc_api_HuPart_api_HuPart = true := by kernel_rfl
theorem spec_slices_IndexFunc_api_HuPart_api_HuPart {args : List AVal} {σ : AHeap} {R : ARes → AHeap → Prop} (ha : args.length ≤ 19) (h : AW Tryz.prog 19 none C_slices_IndexFunc_api_HuPart_api_HuPart (bodyQ R_slices_IndexFunc_api_HuPart_api_HuPart R) { v := argEnv args 0, ds := [] } σ) : Spec Tryz.prog F_slices_IndexFunc_api_HuPart_api_HuPart args σ R := Spec.of_fn Tryz.func208 K_slices_IndexFunc_api_HuPart_api_HuPart ha h
theorem B_slices_IndexFunc_api_HuPart_api_HuPart : hasBody Tryz.prog F_slices_IndexFunc_api_HuPart_api_HuPart = true := by kernel_rfl
theorem E_slices_IndexFunc_api_HuPart_api_HuPart : EntOk Tryz.prog ⟨208, 19, C_slices_IndexFunc_api_HuPart_api_HuPart, R_slices_IndexFunc_api_HuPart_api_HuPart, 0⟩ := ⟨fun _ => ⟨B_slices_IndexFunc_api_HuPart_api_HuPart, _, Tryz.func208, K_slices_IndexFunc_api_HuPart_api_HuPart⟩, fun h => by cases h⟩

abbrev F_hull_ship_find_1 : FuncId := 209
/-- (*orlop/hull.ship).find$1: parameters ['api.HuPart'], results ['bool'] -/
def C_hull_ship_find_1 : AC :=
 (.seq (.reg [⟨some 2, none, .pbox 7 (.t 0)⟩,
 ⟨some 3, none, .mv (.c (.bool false))⟩] [1, 2])
 (.seq (.reg [⟨some 4, none, .fieldAddr none 0 (.t 2)⟩,
 ⟨some 5, none, .load none (.t 4)⟩,
 ⟨some 6, none, .load none (.t 1)⟩,
 ⟨some 7, none, .bin .eql (.t 5) (.t 6)⟩,
 ⟨some 3, none, .mv (.t 7)⟩] [3])
 .ret))
abbrev R_hull_ship_find_1 : List (Nat × Option (Option Nat)) := [(3, none)]
theorem K_hull_ship_find_1 : chkF Tryz.prog Tryz.f209 8 C_hull_ship_find_1 R_hull_ship_find_1 = true := by kernel_rfl
theorem spec_hull_ship_find_1 {args : List AVal} {σ : AHeap} {R : ARes → AHeap → Prop} (ha : args.length ≤ 8) (h : AW Tryz.prog 8 none C_hull_ship_find_1 (bodyQ R_hull_ship_find_1 R) { v := argEnv args 0, ds := [] } σ) : Spec Tryz.prog F_hull_ship_find_1 args σ R := Spec.of_fn Tryz.func209 K_hull_ship_find_1 ha h
theorem B_hull_ship_find_1 : hasBody Tryz.prog F_hull_ship_find_1 = true := by kernel_rfl
theorem E_hull_ship_find_1 : EntOk Tryz.prog ⟨209, 8, C_hull_ship_find_1, R_hull_ship_find_1, 0⟩ := ⟨fun _ => ⟨B_hull_ship_find_1, _, Tryz.func209, K_hull_ship_find_1⟩, fun h => by cases h⟩

abbrev F_slices_IndexFunc_string_string : FuncId := 210
/-- slices.IndexFunc[[]string,string]: parameters ['[]string', 'func(string) bool'], results ['int'] -/
def C_slices_IndexFunc_string_string : AC :=
 (.seq (.reg [⟨some 4, none, .mv (.c (.int .i64 0))⟩] [0, 1])
 (.seq (.seq (.reg [⟨some 6, none, .mv (.t 0)⟩,
 ⟨some 7, none, .len (.t 6)⟩,
 ⟨some 8, none, .mv (.c (.int .i64 0))⟩] [0, 1, 7, 8])
 (.block 0
 (.loop [0, 1, 7, 8]
 (.seq (.reg [⟨some 9, none, .bin .lss (.t 8) (.t 7)⟩] [0, 1, 7, 8, 9])
 (.seq (.cond (.t 9)
 .skip
 (.exit 0))
 (.seq (.block 1
 (.seq (.reg [⟨some 10, none, .mv (.t 8)⟩,
 ⟨some 5, none, .mv (.t 10)⟩] [0, 1, 5, 7, 8])
 (.seq (.reg [⟨some 11, none, .mv (.t 1)⟩,
 ⟨some 12, none, .mv (.t 0)⟩,
 ⟨some 13, none, .mv (.t 5)⟩,
 ⟨some 14, none, .ixS 1 (.t 12) (.t 13)⟩,
 ⟨some 15, none, .load none (.t 14)⟩,
 ⟨some 16, none, .call (.t 11) [false] [(.t 15)]⟩] [0, 1, 5, 7, 8, 16])
 (.cond (.t 16)
 (.seq (.reg [⟨some 17, none, .mv (.t 5)⟩,
 ⟨some 4, none, .mv (.t 17)⟩] [4])
 .ret)
 .skip))))
 (.reg [⟨some 18, none, .bin .add (.t 8) (.c (.int .i64 1))⟩,
 ⟨some 8, none, .mv (.t 18)⟩] [0, 1, 7, 8])))))))
 (.seq (.reg [⟨some 4, none, .mv (.c (.int .i64 (-1)))⟩] [4])
 .ret)))
abbrev R_slices_IndexFunc_string_string : List (Nat × Option (Option Nat)) := [(4, none)]
theorem K_slices_IndexFunc_string_string : chkF Tryz.prog Tryz.f210 19 C_slices_IndexFunc_string_string R_slices_IndexFunc_string_string = true := by kernel_rfl
theorem spec_slices_IndexFunc_string_string {args : List AVal} {σ : AHeap} {R : ARes → AHeap → Prop} (ha : args.length ≤ 19) (h : AW Tryz.prog 19 none C_slices_IndexFunc_string_string (bodyQ R_slices_IndexFunc_string_string R) { v := argEnv args 0, ds := [] } σ) : Spec Tryz.prog F_slices_IndexFunc_string_string args σ R := Spec.of_fn Tryz.func210 K_slices_IndexFunc_string_string ha h
theorem B_slices_IndexFunc_string_string : hasBody Tryz.prog F_slices_IndexFunc_string_string = true := by kernel_rfl
theorem E_slices_IndexFunc_string_string : EntOk Tryz.prog ⟨210, 19, C_slices_IndexFunc_string_string, R_slices_IndexFunc_string_string, 0⟩ := ⟨fun _ => ⟨B_slices_IndexFunc_string_string, _, Tryz.func210, K_slices_IndexFunc_string_string⟩, fun h => by cases h⟩

abbrev F_slices_Clone_api_HuPart_api_HuPart : FuncId := 211
/-- slices.Clone[[]orlop/api.HuPart,orlop/api.HuPart]: parameters ['[]api.HuPart'], results ['[]api.HuPart'] -/
def C_slices_Clone_api_HuPart_api_HuPart : AC :=
 (.seq (.reg [⟨some 2, none, .mv (.c (.slice 7 []))⟩] [0])
 (.seq (.seq (.reg [⟨some 3, none, .mv (.t 0)⟩,
 ⟨some 4, none, .snil false (.t 3)⟩] [0, 4])
 (.cond (.t 4)
 (.seq (.reg [⟨some 2, none, .mv (.c (.slice 7 []))⟩] [2])
 .ret)
 .skip))
 (.seq (.reg [⟨some 5, none, .lit 0 7 0 []⟩,
 ⟨some 6, none, .mv (.t 0)⟩,
 ⟨some 7, none, .append 7 80 (.t 5) (.t 6)⟩,
 ⟨some 2, none, .mvd (.t 7)⟩] [2])
 .ret)))
abbrev R_slices_Clone_api_HuPart_api_HuPart : List (Nat × Option (Option Nat)) := [(2, none)]
theorem K_slices_Clone_api_HuPart_api_HuPart : chkF Tryz.prog Tryz.f211 8 C_slices_Clone_api_HuPart_api_HuPart R_slices_Clone_api_HuPart_api_HuPart = true := by kernel_rfl
theorem spec_slices_Clone_api_HuPart_api_HuPart {args : List AVal} {σ : AHeap} {R : ARes → AHeap → Prop} (ha : args.length ≤ 8) (h : AW Tryz.prog 8 none C_slices_Clone_api_HuPart_api_HuPart (bodyQ R_slices_Clone_api_HuPart_api_HuPart R) { v := argEnv args 0, ds := [] } σ) : Spec Tryz.prog F_slices_Clone_api_HuPart_api_HuPart args σ R := Spec.of_fn Tryz.func211 K_slices_Clone_api_HuPart_api_HuPart ha h
theorem B_slices_Clone_api_HuPart_api_HuPart : hasBody Tryz.prog F_slices_Clone_api_HuPart_api_HuPart = true := by kernel_rfl
theorem E_slices_Clone_api_HuPart_api_HuPart : EntOk Tryz.prog ⟨211, 8, C_slices_Clone_api_HuPart_api_HuPart, R_slices_Clone_api_HuPart_api_HuPart, 0⟩ := ⟨fun _ => ⟨B_slices_Clone_api_HuPart_api_HuPart, _, Tryz.func211, K_slices_Clone_api_HuPart_api_HuPart⟩, fun h => by cases h⟩

abbrev F_hull_ship_take_1 : FuncId := 212
/-- (*orlop/hull.ship).take$1: parameters ['api.HuPart'], results ['bool'] -/
def C_hull_ship_take_1 : AC :=
 (.seq (.reg [⟨some 2, none, .pbox 7 (.t 0)⟩,
 ⟨some 3, none, .mv (.c (.bool false))⟩] [1, 2])
 (.seq (.reg [⟨some 4, none, .load (some 7) (.t 2)⟩,
 ⟨some 5, none, .fieldAddr none 2 (.t 1)⟩,
 ⟨some 6, none, .load none (.t 5)⟩,
 ⟨some 7, none, .call (.f 213) [true, false] [(.t 4), (.t 6)]⟩,
 ⟨some 3, none, .mv (.t 7)⟩] [3])
 .ret))
abbrev R_hull_ship_take_1 : List (Nat × Option (Option Nat)) := [(3, none)]
theorem K_hull_ship_take_1 : chkF Tryz.prog Tryz.f212 8 C_hull_ship_take_1 R_hull_ship_take_1 = true := by kernel_rfl
theorem spec_hull_ship_take_1 {args : List AVal} {σ : AHeap} {R : ARes → AHeap → Prop} (ha : args.length ≤ 8) (h : AW Tryz.prog 8 none C_hull_ship_take_1 (bodyQ R_hull_ship_take_1 R) { v := argEnv args 0, ds := [] } σ) : Spec Tryz.prog F_hull_ship_take_1 args σ R := Spec.of_fn Tryz.func212 K_hull_ship_take_1 ha h
theorem B_hull_ship_take_1 : hasBody Tryz.prog F_hull_ship_take_1 = true := by kernel_rfl
theorem E_hull_ship_take_1 : EntOk Tryz.prog ⟨212, 8, C_hull_ship_take_1, R_hull_ship_take_1, 0⟩ := ⟨fun _ => ⟨B_hull_ship_take_1, _, Tryz.func212, K_hull_ship_take_1⟩, fun h => by cases h⟩

abbrev F_hull_on : FuncId := 213
/-- orlop/hull.on: parameters ['api.HuPart', 'string'], results ['bool'] -/
def C_hull_on : AC :=
 (.seq (.reg [⟨some 2, none, .pbox 7 (.t 0)⟩,
 ⟨some 4, none, .mv (.c (.bool false))⟩] [1, 2])
 (.seq (.reg [⟨some 5, none, .fieldAddr none 4 (.t 2)⟩,
 ⟨some 6, none, .load none (.t 5)⟩,
 ⟨some 7, none, .mv (.t 1)⟩,
 ⟨some 8, none, .call (.f 122) [true, false] [(.t 6), (.t 7)]⟩,
 ⟨some 4, none, .mv (.t 8)⟩] [4])
 .ret))
abbrev R_hull_on : List (Nat × Option (Option Nat)) := [(4, none)]
theorem K_hull_on : chkF Tryz.prog Tryz.f213 9 C_hull_on R_hull_on = true := by kernel_rfl
theorem spec_hull_on {args : List AVal} {σ : AHeap} {R : ARes → AHeap → Prop} (ha : args.length ≤ 9) (h : AW Tryz.prog 9 none C_hull_on (bodyQ R_hull_on R) { v := argEnv args 0, ds := [] } σ) : Spec Tryz.prog F_hull_on args σ R := Spec.of_fn Tryz.func213 K_hull_on ha h
theorem B_hull_on : hasBody Tryz.prog F_hull_on = true := by kernel_rfl
theorem E_hull_on : EntOk Tryz.prog ⟨213, 9, C_hull_on, R_hull_on, 0⟩ := ⟨fun _ => ⟨B_hull_on, _, Tryz.func213, K_hull_on⟩, fun h => by cases h⟩

abbrev F_slices_Delete_api_HuPart_api_HuPart : FuncId := 214
/-- slices.Delete[[]orlop/api.HuPart,orlop/api.HuPart]: parameters ['[]api.HuPart', 'int', 'int'], results ['[]api.HuPart'] -/
def C_slices_Delete_api_HuPart_api_HuPart : AC :=
 (.seq (.reg [⟨some 6, none, .mv (.c (.slice 7 []))⟩] [0, 1, 2])
 (.seq (.reg [⟨some 8, none, .mv (.t 0)⟩,
 ⟨some 9, none, .mv (.t 1)⟩,
 ⟨some 10, none, .mv (.t 2)⟩,
 ⟨some 11, none, .mv (.t 0)⟩,
 ⟨some 12, none, .len (.t 11)⟩,
 ⟨some 13, none, .sub 0 7 (.t 8) (some (.t 9)) (some (.t 10)) (some (.t 12))⟩] [0, 1, 2])
 (.seq (.seq (.reg [⟨some 14, none, .mv (.t 1)⟩,
 ⟨some 15, none, .mv (.t 2)⟩,
 ⟨some 16, none, .bin .eql (.t 14) (.t 15)⟩] [0, 1, 2, 16])
 (.cond (.t 16)
 (.seq (.reg [⟨some 17, none, .mv (.t 0)⟩,
 ⟨some 6, none, .mvd (.t 17)⟩] [6])
 .ret)
 .skip))
 (.seq (.reg [⟨some 18, none, .mv (.t 0)⟩,
 ⟨some 19, none, .len (.t 18)⟩,
 ⟨some 7, none, .mv (.t 19)⟩] [0, 1, 2, 7])
 (.seq (.dreg [⟨some 20, none, .mv (.t 0)⟩,
 ⟨some 21, none, .mv (.t 1)⟩,
 ⟨some 22, none, .subq 7 (.t 20) none (some (.t 21))⟩,
 ⟨some 23, none, .mv (.t 0)⟩,
 ⟨some 24, none, .mv (.t 2)⟩,
 ⟨some 25, none, .subq 7 (.t 23) (some (.t 24)) none⟩,
 ⟨some 26, none, .append 7 80 (.t 22) (.t 25)⟩,
 ⟨some 0, none, .mv (.t 26)⟩] [0, 7] [[], [], [0, 1], [], [], [3, 4], [0, 1, 2, 3, 4, 5], [0, 1, 2, 3, 4, 5, 6]])
 (.seq (.reg [⟨some 27, none, .mv (.t 0)⟩,
 ⟨some 28, none, .mv (.t 0)⟩,
 ⟨some 29, none, .len (.t 28)⟩,
 ⟨some 30, none, .mv (.t 7)⟩,
 ⟨some 31, none, .subq 7 (.t 27) (some (.t 29)) (some (.t 30))⟩,
 ⟨none, none, .clear 7 (.agg [.str ByteArray.empty, .int .i64 0, .int .i64 0, .int .i64 0, .slice 1 [], .int .i64 0, .int .i64 0]) (.t 31)⟩] [0])
 (.seq (.reg [⟨some 32, none, .mv (.t 0)⟩,
 ⟨some 6, none, .mvd (.t 32)⟩] [6])
 .ret)))))))
abbrev R_slices_Delete_api_HuPart_api_HuPart : List (Nat × Option (Option Nat)) := [(6, none)]
theorem K_slices_Delete_api_HuPart_api_HuPart : chkF Tryz.prog Tryz.f214 33 C_slices_Delete_api_HuPart_api_HuPart R_slices_Delete_api_HuPart_api_HuPart = true := by kernel_rfl
theorem spec_slices_Delete_api_HuPart_api_HuPart {args : List AVal} {σ : AHeap} {R : ARes → AHeap → Prop} (ha : args.length ≤ 33) (h : AW Tryz.prog 33 none C_slices_Delete_api_HuPart_api_HuPart (bodyQ R_slices_Delete_api_HuPart_api_HuPart R) { v := argEnv args 0, ds := [] } σ) : Spec Tryz.prog F_slices_Delete_api_HuPart_api_HuPart args σ R := Spec.of_fn Tryz.func214 K_slices_Delete_api_HuPart_api_HuPart ha h
theorem B_slices_Delete_api_HuPart_api_HuPart : hasBody Tryz.prog F_slices_Delete_api_HuPart_api_HuPart = true := by kernel_rfl
theorem E_slices_Delete_api_HuPart_api_HuPart : EntOk Tryz.prog ⟨214, 33, C_slices_Delete_api_HuPart_api_HuPart, R_slices_Delete_api_HuPart_api_HuPart, 0⟩ := ⟨fun _ => ⟨B_slices_Delete_api_HuPart_api_HuPart, _, Tryz.func214, K_slices_Delete_api_HuPart_api_HuPart⟩, fun h => by cases h⟩

abbrev F_slices_Clone_string_string : FuncId := 215
/-- slices.Clone[[]string,string]: parameters ['[]string'], results ['[]string'] -/
def C_slices_Clone_string_string : AC :=
 (.seq (.reg [⟨some 2, none, .mv (.c (.slice 1 []))⟩] [0])
 (.seq (.seq (.reg [⟨some 3, none, .mv (.t 0)⟩,
 ⟨some 4, none, .snil false (.t 3)⟩] [0, 4])
 (.cond (.t 4)
 (.seq (.reg [⟨some 2, none, .mv (.c (.slice 1 []))⟩] [2])
 .ret)
 .skip))
 (.seq (.reg [⟨some 5, none, .lit 0 1 0 []⟩,
 ⟨some 6, none, .mv (.t 0)⟩,
 ⟨some 7, none, .append 1 16 (.t 5) (.t 6)⟩,
 ⟨some 2, none, .mvd (.t 7)⟩] [2])
 .ret)))
abbrev R_slices_Clone_string_string : List (Nat × Option (Option Nat)) := [(2, none)]
theorem K_slices_Clone_string_string : chkF Tryz.prog Tryz.f215 8 C_slices_Clone_string_string R_slices_Clone_string_string = true := by kernel_rfl
theorem spec_slices_Clone_string_string {args : List AVal} {σ : AHeap} {R : ARes → AHeap → Prop} (ha : args.length ≤ 8) (h : AW Tryz.prog 8 none C_slices_Clone_string_string (bodyQ R_slices_Clone_string_string R) { v := argEnv args 0, ds := [] } σ) : Spec Tryz.prog F_slices_Clone_string_string args σ R := Spec.of_fn Tryz.func215 K_slices_Clone_string_string ha h
theorem B_slices_Clone_string_string : hasBody Tryz.prog F_slices_Clone_string_string = true := by kernel_rfl
theorem E_slices_Clone_string_string : EntOk Tryz.prog ⟨215, 8, C_slices_Clone_string_string, R_slices_Clone_string_string, 0⟩ := ⟨fun _ => ⟨B_slices_Clone_string_string, _, Tryz.func215, K_slices_Clone_string_string⟩, fun h => by cases h⟩

abbrev F_stand_body_levers_1 : FuncId := 216
/-- (orlop/stand.body).levers$1: parameters ['api.StPart'], results ['int'] -/
def C_stand_body_levers_1 : AC :=
 (.seq (.reg [⟨some 1, none, .pbox 7 (.t 0)⟩,
 ⟨some 2, none, .mv (.c (.int .i64 0))⟩] [])
 (.seq (.reg [⟨some 2, none, .mv (.c (.int .i64 1))⟩] [2])
 .ret))
abbrev R_stand_body_levers_1 : List (Nat × Option (Option Nat)) := [(2, none)]
theorem K_stand_body_levers_1 : chkF Tryz.prog Tryz.f216 3 C_stand_body_levers_1 R_stand_body_levers_1 = true := by kernel_rfl
theorem spec_stand_body_levers_1 {args : List AVal} {σ : AHeap} {R : ARes → AHeap → Prop} (ha : args.length ≤ 3) (h : AW Tryz.prog 3 none C_stand_body_levers_1 (bodyQ R_stand_body_levers_1 R) { v := argEnv args 0, ds := [] } σ) : Spec Tryz.prog F_stand_body_levers_1 args σ R := Spec.of_fn Tryz.func216 K_stand_body_levers_1 ha h
theorem B_stand_body_levers_1 : hasBody Tryz.prog F_stand_body_levers_1 = true := by kernel_rfl
theorem E_stand_body_levers_1 : EntOk Tryz.prog ⟨216, 3, C_stand_body_levers_1, R_stand_body_levers_1, 0⟩ := ⟨fun _ => ⟨B_stand_body_levers_1, _, Tryz.func216, K_stand_body_levers_1⟩, fun h => by cases h⟩

abbrev F_stand_body_levers_2 : FuncId := 217
/-- (orlop/stand.body).levers$2: parameters ['api.StPart'], results ['int'] -/
def C_stand_body_levers_2 : AC :=
 (.seq (.reg [⟨some 2, none, .pbox 7 (.t 0)⟩,
 ⟨some 3, none, .mv (.c (.int .i64 0))⟩] [1, 2])
 (.seq (.reg [⟨some 4, none, .fieldAddr none 1 (.t 2)⟩,
 ⟨some 5, none, .load none (.t 4)⟩,
 ⟨some 6, none, .fieldAddr (some 3) 0 (.t 1)⟩,
 ⟨some 7, none, .fieldAddr none 1 (.t 6)⟩,
 ⟨some 8, none, .load none (.t 7)⟩,
 ⟨some 9, none, .bin .sub (.t 5) (.t 8)⟩,
 ⟨some 3, none, .mv (.t 9)⟩] [3])
 .ret))
abbrev R_stand_body_levers_2 : List (Nat × Option (Option Nat)) := [(3, none)]
theorem K_stand_body_levers_2 : chkF Tryz.prog Tryz.f217 10 C_stand_body_levers_2 R_stand_body_levers_2 = true := by kernel_rfl
theorem spec_stand_body_levers_2 {args : List AVal} {σ : AHeap} {R : ARes → AHeap → Prop} (ha : args.length ≤ 10) (h : AW Tryz.prog 10 none C_stand_body_levers_2 (bodyQ R_stand_body_levers_2 R) { v := argEnv args 0, ds := [] } σ) : Spec Tryz.prog F_stand_body_levers_2 args σ R := Spec.of_fn Tryz.func217 K_stand_body_levers_2 ha h
theorem B_stand_body_levers_2 : hasBody Tryz.prog F_stand_body_levers_2 = true := by kernel_rfl
theorem E_stand_body_levers_2 : EntOk Tryz.prog ⟨217, 10, C_stand_body_levers_2, R_stand_body_levers_2, 0⟩ := ⟨fun _ => ⟨B_stand_body_levers_2, _, Tryz.func217, K_stand_body_levers_2⟩, fun h => by cases h⟩

abbrev F_stand_body_levers_3 : FuncId := 218
/-- (orlop/stand.body).levers$3: parameters ['api.StPart'], results ['int'] -/
def C_stand_body_levers_3 : AC :=
 (.seq (.reg [⟨some 2, none, .pbox 7 (.t 0)⟩,
 ⟨some 3, none, .mv (.c (.int .i64 0))⟩] [1, 2])
 (.seq (.reg [⟨some 4, none, .fieldAddr (some 3) 0 (.t 1)⟩,
 ⟨some 5, none, .fieldAddr none 2 (.t 4)⟩,
 ⟨some 6, none, .load none (.t 5)⟩,
 ⟨some 7, none, .fieldAddr none 1 (.t 2)⟩,
 ⟨some 8, none, .load none (.t 7)⟩,
 ⟨some 9, none, .bin .sub (.t 6) (.t 8)⟩,
 ⟨some 3, none, .mv (.t 9)⟩] [3])
 .ret))
abbrev R_stand_body_levers_3 : List (Nat × Option (Option Nat)) := [(3, none)]
theorem K_stand_body_levers_3 : chkF Tryz.prog Tryz.f218 10 C_stand_body_levers_3 R_stand_body_levers_3 = true := by kernel_rfl
theorem spec_stand_body_levers_3 {args : List AVal} {σ : AHeap} {R : ARes → AHeap → Prop} (ha : args.length ≤ 10) (h : AW Tryz.prog 10 none C_stand_body_levers_3 (bodyQ R_stand_body_levers_3 R) { v := argEnv args 0, ds := [] } σ) : Spec Tryz.prog F_stand_body_levers_3 args σ R := Spec.of_fn Tryz.func218 K_stand_body_levers_3 ha h
theorem B_stand_body_levers_3 : hasBody Tryz.prog F_stand_body_levers_3 = true := by kernel_rfl
theorem E_stand_body_levers_3 : EntOk Tryz.prog ⟨218, 10, C_stand_body_levers_3, R_stand_body_levers_3, 0⟩ := ⟨fun _ => ⟨B_stand_body_levers_3, _, Tryz.func218, K_stand_body_levers_3⟩, fun h => by cases h⟩

abbrev F_stand_load_light : FuncId := 219
/-- (orlop/stand.load).light: parameters ['stand.load'], results ['int'] -/
def C_stand_load_light : AC :=
 (.seq (.reg [⟨some 1, none, .pbox 8 (.t 0)⟩,
 ⟨some 2, none, .mv (.c (.int .i64 0))⟩] [1])
 (.seq (.reg [⟨some 3, none, .fieldAddr (some 7) 0 (.t 1)⟩,
 ⟨some 4, none, .fieldAddr (some 2) 2 (.t 3)⟩,
 ⟨some 5, none, .fieldAddr none 0 (.t 4)⟩,
 ⟨some 6, none, .load none (.t 5)⟩,
 ⟨some 7, none, .fieldAddr (some 7) 0 (.t 1)⟩,
 ⟨some 8, none, .fieldAddr (some 2) 5 (.t 7)⟩,
 ⟨some 9, none, .fieldAddr none 1 (.t 8)⟩,
 ⟨some 10, none, .load none (.t 9)⟩,
 ⟨some 11, none, .fieldAddr none 7 (.t 1)⟩,
 ⟨some 12, none, .load none (.t 11)⟩,
 ⟨some 13, none, .bin .mul (.t 10) (.t 12)⟩,
 ⟨some 14, none, .bin .sub (.t 6) (.t 13)⟩,
 ⟨some 2, none, .mv (.t 14)⟩] [2])
 .ret))
abbrev R_stand_load_light : List (Nat × Option (Option Nat)) := [(2, none)]
theorem K_stand_load_light : chkF Tryz.prog Tryz.f219 15 C_stand_load_light R_stand_load_light = true := by kernel_rfl
theorem spec_stand_load_light {args : List AVal} {σ : AHeap} {R : ARes → AHeap → Prop} (ha : args.length ≤ 15) (h : AW Tryz.prog 15 none C_stand_load_light (bodyQ R_stand_load_light R) { v := argEnv args 0, ds := [] } σ) : Spec Tryz.prog F_stand_load_light args σ R := Spec.of_fn Tryz.func219 K_stand_load_light ha h
theorem B_stand_load_light : hasBody Tryz.prog F_stand_load_light = true := by kernel_rfl
theorem E_stand_load_light : EntOk Tryz.prog ⟨219, 15, C_stand_load_light, R_stand_load_light, 0⟩ := ⟨fun _ => ⟨B_stand_load_light, _, Tryz.func219, K_stand_load_light⟩, fun h => by cases h⟩

abbrev F_stand_load_heavy : FuncId := 220
/-- (orlop/stand.load).heavy: parameters ['stand.load'], results ['int'] -/
def C_stand_load_heavy : AC :=
 (.seq (.reg [⟨some 1, none, .pbox 8 (.t 0)⟩,
 ⟨some 2, none, .mv (.c (.int .i64 0))⟩] [1])
 (.seq (.reg [⟨some 3, none, .fieldAddr (some 7) 0 (.t 1)⟩,
 ⟨some 4, none, .fieldAddr (some 2) 2 (.t 3)⟩,
 ⟨some 5, none, .fieldAddr none 1 (.t 4)⟩,
 ⟨some 6, none, .load none (.t 5)⟩,
 ⟨some 7, none, .fieldAddr (some 7) 0 (.t 1)⟩,
 ⟨some 8, none, .fieldAddr (some 2) 5 (.t 7)⟩,
 ⟨some 9, none, .fieldAddr none 0 (.t 8)⟩,
 ⟨some 10, none, .load none (.t 9)⟩,
 ⟨some 11, none, .fieldAddr none 7 (.t 1)⟩,
 ⟨some 12, none, .load none (.t 11)⟩,
 ⟨some 13, none, .bin .mul (.t 10) (.t 12)⟩,
 ⟨some 14, none, .bin .sub (.t 6) (.t 13)⟩,
 ⟨some 2, none, .mv (.t 14)⟩] [2])
 .ret))
abbrev R_stand_load_heavy : List (Nat × Option (Option Nat)) := [(2, none)]
theorem K_stand_load_heavy : chkF Tryz.prog Tryz.f220 15 C_stand_load_heavy R_stand_load_heavy = true := by kernel_rfl
theorem spec_stand_load_heavy {args : List AVal} {σ : AHeap} {R : ARes → AHeap → Prop} (ha : args.length ≤ 15) (h : AW Tryz.prog 15 none C_stand_load_heavy (bodyQ R_stand_load_heavy R) { v := argEnv args 0, ds := [] } σ) : Spec Tryz.prog F_stand_load_heavy args σ R := Spec.of_fn Tryz.func220 K_stand_load_heavy ha h
theorem B_stand_load_heavy : hasBody Tryz.prog F_stand_load_heavy = true := by kernel_rfl
theorem E_stand_load_heavy : EntOk Tryz.prog ⟨220, 15, C_stand_load_heavy, R_stand_load_heavy, 0⟩ := ⟨fun _ => ⟨B_stand_load_heavy, _, Tryz.func220, K_stand_load_heavy⟩, fun h => by cases h⟩

abbrev F_slices_IndexFunc_api_VnTank_api_VnTank : FuncId := 221
/-- slices.IndexFunc[[]orlop/api.VnTank,orlop/api.VnTank]: parameters ['[]api.VnTank', 'func(api.VnTank) bool'], results ['int'] -/
def C_slices_IndexFunc_api_VnTank_api_VnTank : AC :=
 (.seq (.reg [⟨some 4, none, .mv (.c (.int .i64 0))⟩] [0, 1])
 (.seq (.seq (.reg [⟨some 6, none, .mv (.t 0)⟩,
 ⟨some 7, none, .len (.t 6)⟩,
 ⟨some 8, none, .mv (.c (.int .i64 0))⟩] [0, 1, 7, 8])
 (.block 0
 (.loop [0, 1, 7, 8]
 (.seq (.reg [⟨some 9, none, .bin .lss (.t 8) (.t 7)⟩] [0, 1, 7, 8, 9])
 (.seq (.cond (.t 9)
 .skip
 (.exit 0))
 (.seq (.block 1
 (.seq (.reg [⟨some 10, none, .mv (.t 8)⟩,
 ⟨some 5, none, .mv (.t 10)⟩] [0, 1, 5, 7, 8])
 (.seq (.reg [⟨some 11, none, .mv (.t 1)⟩,
 ⟨some 12, none, .mv (.t 0)⟩,
 ⟨some 13, none, .mv (.t 5)⟩,
 ⟨some 14, none, .ixS 2 (.t 12) (.t 13)⟩,
 ⟨some 15, none, .load (some 2) (.t 14)⟩,
 ⟨some 16, none, .call (.t 11) [false] [(.t 15)]⟩] [0, 1, 5, 7, 8, 16])
 (.cond (.t 16)
 (.seq (.reg [⟨some 17, none, .mv (.t 5)⟩,
 ⟨some 4, none, .mv (.t 17)⟩] [4])
 .ret)
 .skip))))
 (.reg [⟨some 18, none, .bin .add (.t 8) (.c (.int .i64 1))⟩,
 ⟨some 8, none, .mv (.t 18)⟩] [0, 1, 7, 8])))))))
 (.seq (.reg [⟨some 4, none, .mv (.c (.int .i64 (-1)))⟩] [4])
 .ret)))
abbrev R_slices_IndexFunc_api_VnTank_api_VnTank : List (Nat × Option (Option Nat)) := [(4, none)]
theorem K_slices_IndexFunc_api_VnTank_api_VnTank : chkF Tryz.prog Tryz.f221 19 C_slices_IndexFunc_api_VnTank_api_VnTank R_slices_IndexFunc_api_VnTank_api_VnTank = true := by kernel_rfl
theorem spec_slices_IndexFunc_api_VnTank_api_VnTank {args : List AVal} {σ : AHeap} {R : ARes → AHeap → Prop} (ha : args.length ≤ 19) (h : AW Tryz.prog 19 none C_slices_IndexFunc_api_VnTank_api_VnTank (bodyQ R_slices_IndexFunc_api_VnTank_api_VnTank R) { v := argEnv args 0, ds := [] } σ) : Spec Tryz.prog F_slices_IndexFunc_api_VnTank_api_VnTank args σ R := Spec.of_fn Tryz.func221 K_slices_IndexFunc_api_VnTank_api_VnTank ha h
theorem B_slices_IndexFunc_api_VnTank_api_VnTank : hasBody Tryz.prog F_slices_IndexFunc_api_VnTank_api_VnTank = true := by kernel_rfl
theorem E_slices_IndexFunc_api_VnTank_api_VnTank : EntOk Tryz.prog ⟨221, 19, C_slices_IndexFunc_api_VnTank_api_VnTank, R_slices_IndexFunc_api_VnTank_api_VnTank, 0⟩ := ⟨fun _ => ⟨B_slices_IndexFunc_api_VnTank_api_VnTank, _, Tryz.func221, K_slices_IndexFunc_api_VnTank_api_VnTank⟩, fun h => by cases h⟩

abbrev F_slices_order2Ordered_int : FuncId := 222
/-- slices.order2Ordered[int]: parameters ['[]int', 'int', 'int', '*int'], results ['int', 'int'] -/
def C_slices_order2Ordered_int : AC :=
 (.seq (.reg [⟨some 8, none, .mv (.c (.int .i64 0))⟩,
 ⟨some 9, none, .mv (.c (.int .i64 0))⟩] [0, 1, 2, 3])
 (.seq (.seq (.dreg [⟨some 10, none, .mv (.t 0)⟩,
 ⟨some 11, none, .mv (.t 2)⟩,
 ⟨some 12, none, .ixS 1 (.t 10) (.t 11)⟩,
 ⟨some 13, none, .load none (.t 12)⟩,
 ⟨some 14, none, .mv (.t 0)⟩,
 ⟨some 15, none, .mv (.t 1)⟩,
 ⟨some 16, none, .ixS 1 (.t 14) (.t 15)⟩,
 ⟨some 17, none, .load none (.t 16)⟩,
 ⟨some 18, none, .call (.f 172) [false, false] [(.t 13), (.t 17)]⟩] [1, 2, 3, 18] [[], [], [0, 1], [0, 1, 2], [], [], [4, 5], [4, 5, 6], [0, 1, 2, 3, 4, 5, 6, 7]])
 (.cond (.t 18)
 (.seq (.reg [⟨some 19, none, .mv (.t 3)⟩,
 ⟨some 20, none, .nilchk (.t 19)⟩,
 ⟨some 21, none, .load none (.t 20)⟩,
 ⟨some 22, none, .bin .add (.t 21) (.c (.int .i64 1))⟩,
 ⟨some 23, none, .nilchk (.t 19)⟩,
 ⟨none, none, .store 1 (.t 23) (.t 22)⟩] [1, 2])
 (.seq (.reg [⟨some 24, none, .mv (.t 2)⟩,
 ⟨some 25, none, .mv (.t 1)⟩,
 ⟨some 8, none, .mv (.t 24)⟩,
 ⟨some 9, none, .mv (.t 25)⟩] [8, 9])
 .ret))
 .skip))
 (.seq (.reg [⟨some 26, none, .mv (.t 1)⟩,
 ⟨some 27, none, .mv (.t 2)⟩,
 ⟨some 8, none, .mv (.t 26)⟩,
 ⟨some 9, none, .mv (.t 27)⟩] [8, 9])
 .ret)))
abbrev R_slices_order2Ordered_int : List (Nat × Option (Option Nat)) := [(8, none), (9, none)]
theorem K_slices_order2Ordered_int : chkF Tryz.prog Tryz.f222 28 C_slices_order2Ordered_int R_slices_order2Ordered_int = true := by kernel_rfl
theorem spec_slices_order2Ordered_int {args : List AVal} {σ : AHeap} {R : ARes → AHeap → Prop} (ha : args.length ≤ 28) (h : AW Tryz.prog 28 none C_slices_order2Ordered_int (bodyQ R_slices_order2Ordered_int R) { v := argEnv args 0, ds := [] } σ) : Spec Tryz.prog F_slices_order2Ordered_int args σ R := Spec.of_fn Tryz.func222 K_slices_order2Ordered_int ha h
theorem B_slices_order2Ordered_int : hasBody Tryz.prog F_slices_order2Ordered_int = true := by kernel_rfl
theorem E_slices_order2Ordered_int : EntOk Tryz.prog ⟨222, 28, C_slices_order2Ordered_int, R_slices_order2Ordered_int, 0⟩ := ⟨fun _ => ⟨B_slices_order2Ordered_int, _, Tryz.func222, K_slices_order2Ordered_int⟩, fun h => by cases h⟩

def theTab : List Ent := [
  ⟨6, 184, C_l06_CutKnown, R_l06_CutKnown, 0⟩,
  ⟨14, 140, C_cut_Check, R_cut_Check, 0⟩,
  ⟨16, 26, C_cut_Bad, R_cut_Bad, 0⟩,
  ⟨18, 23, C_cut_May, R_cut_May, 0⟩,
  ⟨20, 31, C_r01_Ints, R_r01_Ints, 0⟩,
  ⟨21, 27, C_cut_Next, R_cut_Next, 0⟩,
  ⟨23, 187, C_l06_Awake, R_l06_Awake, 0⟩,
  ⟨24, 26, C_cut_First, R_cut_First, 0⟩,
  ⟨26, 16, C_cut_Most, R_cut_Most, 0⟩,
  ⟨28, 34, C_cut_To, R_cut_To, 0⟩,
  ⟨30, 28, C_cut_Proof, R_cut_Proof, 0⟩,
  ⟨32, 53, C_cut_Proves, R_cut_Proves, 0⟩,
  ⟨34, 40, C_l06_Task, R_l06_Task, 0⟩,
  ⟨43, 16, .skip, [], 1⟩,
  ⟨44, 15, C_hull_Check, R_hull_Check, 0⟩,
  ⟨45, 13, C_cut_must, R_cut_must, 0⟩,
  ⟨46, 55, C_stand_Check, R_stand_Check, 0⟩,
  ⟨47, 29, C_stand_Why, R_stand_Why, 0⟩,
  ⟨48, 67, C_vent_After, R_vent_After, 0⟩,
  ⟨49, 8, C_cut_beyond, R_cut_beyond, 0⟩,
  ⟨55, 26, C_cut_enter, R_cut_enter, 2⟩,
  ⟨56, 34, C_cut_ship_walk, R_cut_ship_walk, 0⟩,
  ⟨59, 32, C_cut_good, R_cut_good, 2⟩,
  ⟨60, 18, C_cut_collect_cut_set, R_cut_collect_cut_set, 0⟩,
  ⟨61, 6, C_cut_ship_can, R_cut_ship_can, 0⟩,
  ⟨62, 3, C_cut_May_1, R_cut_May_1, 0⟩,
  ⟨64, 8, C_cut_ship_most, R_cut_ship_most, 0⟩,
  ⟨65, 7, C_cut_Next_1, R_cut_Next_1, 0⟩,
  ⟨66, 12, C_cut_whole, R_cut_whole, 0⟩,
  ⟨69, 95, C_cut_open, R_cut_open, 2⟩,
  ⟨70, 35, C_cut_ship_longest, R_cut_ship_longest, 0⟩,
  ⟨72, 4, C_cut_ship_reached, R_cut_ship_reached, 0⟩,
  ⟨73, 29, C_cut_ship_why, R_cut_ship_why, 0⟩,
  ⟨74, 8, C_slices_Clone_int_int, R_slices_Clone_int_int, 0⟩,
  ⟨75, 11, C_slices_Sort_int_int, R_slices_Sort_int_int, 0⟩,
  ⟨77, 10, C_cut_ship_all, R_cut_ship_all, 0⟩,
  ⟨78, 9, C_slices_Contains_int_int, R_slices_Contains_int_int, 0⟩,
  ⟨79, 15, C_l06_Task_1, R_l06_Task_1, 0⟩,
  ⟨80, 8, C_l06_span, R_l06_span, 0⟩,
  ⟨81, 12, C_l05_Hull, R_l05_Hull, 0⟩,
  ⟨82, 18, C_l04_Net, R_l04_Net, 0⟩,
  ⟨88, 103, C_hull_build, R_hull_build, 0⟩,
  ⟨89, 10, C_stand_beyond, R_stand_beyond, 0⟩,
  ⟨90, 42, C_hull_Name, R_hull_Name, 0⟩,
  ⟨91, 9, C_slices_ContainsFunc_api_StPart_api_StPart, R_slices_ContainsFunc_api_StPart_api_StPart, 0⟩,
  ⟨92, 9, C_stand_Check_1, R_stand_Check_1, 0⟩,
  ⟨93, 51, C_stand_check, R_stand_check, 0⟩,
  ⟨94, 16, C_stand_tidal, R_stand_tidal, 0⟩,
  ⟨95, 54, C_stand_body_first, R_stand_body_first, 0⟩,
  ⟨96, 98, C_vent_look, R_vent_look, 2⟩,
  ⟨97, 8, C_vent_beyond, R_vent_beyond, 0⟩,
  ⟨98, 52, C_vent_net_step, R_vent_net_step, 0⟩,
  ⟨99, 16, C_vent_set_list, R_vent_set_list, 0⟩,
  ⟨100, 9, C_slices_ContainsFunc_int_int, R_slices_ContainsFunc_int_int, 0⟩,
  ⟨101, 11, C_cut_beyond_1, R_cut_beyond_1, 0⟩,
  ⟨118, 23, C_cut_ship_can_1, R_cut_ship_can_1, 0⟩,
  ⟨119, 4, C_cut_set_parts, R_cut_set_parts, 0⟩,
  ⟨120, 38, C_cut_ship_most_1, R_cut_ship_most_1, 0⟩,
  ⟨121, 8, C_math_bits_OnesCount, R_math_bits_OnesCount, 0⟩,
  ⟨122, 9, C_slices_Contains_string_string, R_slices_Contains_string_string, 0⟩,
  ⟨123, 9, C_cut_open_1, R_cut_open_1, 0⟩,
  ⟨124, 54, C_cut_ship_reached_1, R_cut_ship_reached_1, 0⟩,
  ⟨125, 11, C_cut_ship_gone, R_cut_ship_gone, 0⟩,
  ⟨126, 17, C_cut_ship_covered, R_cut_ship_covered, 0⟩,
  ⟨127, 13, C_cut_ship_gassed, R_cut_ship_gassed, 0⟩,
  ⟨128, 71, C_cut_ship_falls, R_cut_ship_falls, 0⟩,
  ⟨129, 134, C_slices_pdqsortOrdered_int, R_slices_pdqsortOrdered_int, 0⟩,
  ⟨130, 8, C_math_bits_Len, R_math_bits_Len, 0⟩,
  ⟨131, 19, C_slices_Index_int_int, R_slices_Index_int_int, 0⟩,
  ⟨132, 8, C_l05_span, R_l05_span, 0⟩,
  ⟨133, 95, C_hull_ship_check, R_hull_ship_check, 0⟩,
  ⟨134, 6, C_hull_verbs, R_hull_verbs, 2⟩,
  ⟨135, 10, C_hull_beyond, R_hull_beyond, 0⟩,
  ⟨136, 13, C_stand_beyond_1, R_stand_beyond_1, 0⟩,
  ⟨137, 19, C_slices_IndexFunc_api_StPart_api_StPart, R_slices_IndexFunc_api_StPart_api_StPart, 0⟩,
  ⟨138, 6, C_stand_body_bends, R_stand_body_bends, 0⟩,
  ⟨139, 57, C_stand_body_least, R_stand_body_least, 0⟩,
  ⟨140, 15, C_stand_sums_why, R_stand_sums_why, 0⟩,
  ⟨141, 75, C_vent_Check, R_vent_Check, 0⟩,
  ⟨142, 8, .skip, [], 1⟩,
  ⟨143, 40, C_vent_each_int, R_vent_each_int, 0⟩,
  ⟨144, 10, C_vent_look_2, R_vent_look_2, 0⟩,
  ⟨145, 10, C_vent_look_3, R_vent_look_3, 0⟩,
  ⟨146, 5, C_vent_one, R_vent_one, 0⟩,
  ⟨147, 11, C_vent_beyond_1, R_vent_beyond_1, 0⟩,
  ⟨148, 10, C_vent_set_has, R_vent_set_has, 0⟩,
  ⟨149, 66, C_vent_net_spread, R_vent_net_spread, 0⟩,
  ⟨150, 19, C_slices_IndexFunc_int_int, R_slices_IndexFunc_int_int, 0⟩,
  ⟨160, 17, C_cut_set_parts_1, R_cut_set_parts_1, 0⟩,
  ⟨161, 8, C_math_bits_TrailingZeros, R_math_bits_TrailingZeros, 0⟩,
  ⟨162, 21, C_math_bits_OnesCount32, R_math_bits_OnesCount32, 0⟩,
  ⟨163, 35, C_math_bits_OnesCount64, R_math_bits_OnesCount64, 0⟩,
  ⟨164, 19, C_slices_Index_string_string, R_slices_Index_string_string, 0⟩,
  ⟨165, 10, C_cut_set_has, R_cut_set_has, 0⟩,
  ⟨166, 49, C_slices_insertionSortOrdered_int, R_slices_insertionSortOrdered_int, 0⟩,
  ⟨167, 56, C_slices_heapSortOrdered_int, R_slices_heapSortOrdered_int, 0⟩,
  ⟨168, 65, C_slices_breakPatternsOrdered_int, R_slices_breakPatternsOrdered_int, 0⟩,
  ⟨169, 57, C_slices_choosePivotOrdered_int, R_slices_choosePivotOrdered_int, 0⟩,
  ⟨170, 32, C_slices_reverseRangeOrdered_int, R_slices_reverseRangeOrdered_int, 0⟩,
  ⟨171, 133, C_slices_partialInsertionSortOrdered_int, R_slices_partialInsertionSortOrdered_int, 0⟩,
  ⟨172, 17, C_cmp_Less_int, R_cmp_Less_int, 0⟩,
  ⟨173, 84, C_slices_partitionEqualOrdered_int, R_slices_partitionEqualOrdered_int, 0⟩,
  ⟨174, 168, C_slices_partitionOrdered_int, R_slices_partitionOrdered_int, 0⟩,
  ⟨175, 19, C_math_bits_Len32, R_math_bits_Len32, 0⟩,
  ⟨176, 25, C_math_bits_Len64, R_math_bits_Len64, 0⟩,
  ⟨177, 12, C_hull_ship_find, R_hull_ship_find, 0⟩,
  ⟨178, 9, C_slices_ContainsFunc_api_HuPart_api_HuPart, R_slices_ContainsFunc_api_HuPart_api_HuPart, 0⟩,
  ⟨179, 9, C_hull_ship_check_1, R_hull_ship_check_1, 0⟩,
  ⟨180, 9, C_slices_ContainsFunc_string_string, R_slices_ContainsFunc_string_string, 0⟩,
  ⟨181, 7, C_hull_ship_check_2, R_hull_ship_check_2, 0⟩,
  ⟨182, 18, C_hull_repeated_string, R_hull_repeated_string, 0⟩,
  ⟨183, 15, C_hull_ship_check_3, R_hull_ship_check_3, 0⟩,
  ⟨184, 17, C_hull_meet, R_hull_meet, 0⟩,
  ⟨185, 6, C_hull_verbs_1, R_hull_verbs_1, 0⟩,
  ⟨186, 40, C_hull_ship_add, R_hull_ship_add, 0⟩,
  ⟨187, 15, C_hull_verbs_2, R_hull_verbs_2, 0⟩,
  ⟨188, 14, C_hull_plainly, R_hull_plainly, 0⟩,
  ⟨189, 35, C_hull_ship_take, R_hull_ship_take, 0⟩,
  ⟨190, 3, C_hull_verbs_3, R_hull_verbs_3, 0⟩,
  ⟨191, 97, C_hull_ship_swap, R_hull_ship_swap, 0⟩,
  ⟨192, 13, C_hull_beyond_1, R_hull_beyond_1, 0⟩,
  ⟨193, 58, C_stand_body_bends_1, R_stand_body_bends_1, 0⟩,
  ⟨194, 61, C_slices_Compact_int_int, R_slices_Compact_int_int, 0⟩,
  ⟨195, 21, C_stand_body_levers, R_stand_body_levers, 0⟩,
  ⟨196, 9, C_slices_ContainsFunc_api_VnTank_api_VnTank, R_slices_ContainsFunc_api_VnTank_api_VnTank, 0⟩,
  ⟨197, 9, C_vent_Check_1, R_vent_Check_1, 0⟩,
  ⟨200, 14, C_math_bits_TrailingZeros32, R_math_bits_TrailingZeros32, 0⟩,
  ⟨201, 14, C_math_bits_TrailingZeros64, R_math_bits_TrailingZeros64, 0⟩,
  ⟨202, 76, C_slices_siftDownOrdered_int, R_slices_siftDownOrdered_int, 0⟩,
  ⟨203, 7, C_slices_nextPowerOfTwo, R_slices_nextPowerOfTwo, 0⟩,
  ⟨204, 33, C_slices_xorshift_Next, R_slices_xorshift_Next, 0⟩,
  ⟨205, 15, C_slices_medianAdjacentOrdered_int, R_slices_medianAdjacentOrdered_int, 0⟩,
  ⟨206, 36, C_slices_medianOrdered_int, R_slices_medianOrdered_int, 0⟩,
  ⟨207, 6, C_cmp_isNaN_int, R_cmp_isNaN_int, 0⟩,
  ⟨208, 19, C_slices_IndexFunc_api_HuPart_api_HuPart, R_slices_IndexFunc_api_HuPart_api_HuPart, 0⟩,
  ⟨209, 8, C_hull_ship_find_1, R_hull_ship_find_1, 0⟩,
  ⟨210, 19, C_slices_IndexFunc_string_string, R_slices_IndexFunc_string_string, 0⟩,
  ⟨211, 8, C_slices_Clone_api_HuPart_api_HuPart, R_slices_Clone_api_HuPart_api_HuPart, 0⟩,
  ⟨212, 8, C_hull_ship_take_1, R_hull_ship_take_1, 0⟩,
  ⟨213, 9, C_hull_on, R_hull_on, 0⟩,
  ⟨214, 33, C_slices_Delete_api_HuPart_api_HuPart, R_slices_Delete_api_HuPart_api_HuPart, 0⟩,
  ⟨215, 8, C_slices_Clone_string_string, R_slices_Clone_string_string, 0⟩,
  ⟨216, 3, C_stand_body_levers_1, R_stand_body_levers_1, 0⟩,
  ⟨217, 10, C_stand_body_levers_2, R_stand_body_levers_2, 0⟩,
  ⟨218, 10, C_stand_body_levers_3, R_stand_body_levers_3, 0⟩,
  ⟨219, 15, C_stand_load_light, R_stand_load_light, 0⟩,
  ⟨220, 15, C_stand_load_heavy, R_stand_load_heavy, 0⟩,
  ⟨221, 19, C_slices_IndexFunc_api_VnTank_api_VnTank, R_slices_IndexFunc_api_VnTank_api_VnTank, 0⟩,
  ⟨222, 28, C_slices_order2Ordered_int, R_slices_order2Ordered_int, 0⟩]
theorem theTab_ok : TabOk Tryz.prog theTab := ⟨E_l06_CutKnown, E_cut_Check, E_cut_Bad, E_cut_May, E_r01_Ints, E_cut_Next, E_l06_Awake, E_cut_First, E_cut_Most, E_cut_To, E_cut_Proof, E_cut_Proves, E_l06_Task, E_cut_Check_1, E_hull_Check, E_cut_must, E_stand_Check, E_stand_Why, E_vent_After, E_cut_beyond, E_cut_enter, E_cut_ship_walk, E_cut_good, E_cut_collect_cut_set, E_cut_ship_can, E_cut_May_1, E_cut_ship_most, E_cut_Next_1, E_cut_whole, E_cut_open, E_cut_ship_longest, E_cut_ship_reached, E_cut_ship_why, E_slices_Clone_int_int, E_slices_Sort_int_int, E_cut_ship_all, E_slices_Contains_int_int, E_l06_Task_1, E_l06_span, E_l05_Hull, E_l04_Net, E_hull_build, E_stand_beyond, E_hull_Name, E_slices_ContainsFunc_api_StPart_api_StPart, E_stand_Check_1, E_stand_check, E_stand_tidal, E_stand_body_first, E_vent_look, E_vent_beyond, E_vent_net_step, E_vent_set_list, E_slices_ContainsFunc_int_int, E_cut_beyond_1, E_cut_ship_can_1, E_cut_set_parts, E_cut_ship_most_1, E_math_bits_OnesCount, E_slices_Contains_string_string, E_cut_open_1, E_cut_ship_reached_1, E_cut_ship_gone, E_cut_ship_covered, E_cut_ship_gassed, E_cut_ship_falls, E_slices_pdqsortOrdered_int, E_math_bits_Len, E_slices_Index_int_int, E_l05_span, E_hull_ship_check, E_hull_verbs, E_hull_beyond, E_stand_beyond_1, E_slices_IndexFunc_api_StPart_api_StPart, E_stand_body_bends, E_stand_body_least, E_stand_sums_why, E_vent_Check, E_vent_look_1, E_vent_each_int, E_vent_look_2, E_vent_look_3, E_vent_one, E_vent_beyond_1, E_vent_set_has, E_vent_net_spread, E_slices_IndexFunc_int_int, E_cut_set_parts_1, E_math_bits_TrailingZeros, E_math_bits_OnesCount32, E_math_bits_OnesCount64, E_slices_Index_string_string, E_cut_set_has, E_slices_insertionSortOrdered_int, E_slices_heapSortOrdered_int, E_slices_breakPatternsOrdered_int, E_slices_choosePivotOrdered_int, E_slices_reverseRangeOrdered_int, E_slices_partialInsertionSortOrdered_int, E_cmp_Less_int, E_slices_partitionEqualOrdered_int, E_slices_partitionOrdered_int, E_math_bits_Len32, E_math_bits_Len64, E_hull_ship_find, E_slices_ContainsFunc_api_HuPart_api_HuPart, E_hull_ship_check_1, E_slices_ContainsFunc_string_string, E_hull_ship_check_2, E_hull_repeated_string, E_hull_ship_check_3, E_hull_meet, E_hull_verbs_1, E_hull_ship_add, E_hull_verbs_2, E_hull_plainly, E_hull_ship_take, E_hull_verbs_3, E_hull_ship_swap, E_hull_beyond_1, E_stand_body_bends_1, E_slices_Compact_int_int, E_stand_body_levers, E_slices_ContainsFunc_api_VnTank_api_VnTank, E_vent_Check_1, E_math_bits_TrailingZeros32, E_math_bits_TrailingZeros64, E_slices_siftDownOrdered_int, E_slices_nextPowerOfTwo, E_slices_xorshift_Next, E_slices_medianAdjacentOrdered_int, E_slices_medianOrdered_int, E_cmp_isNaN_int, E_slices_IndexFunc_api_HuPart_api_HuPart, E_hull_ship_find_1, E_slices_IndexFunc_string_string, E_slices_Clone_api_HuPart_api_HuPart, E_hull_ship_take_1, E_hull_on, E_slices_Delete_api_HuPart_api_HuPart, E_slices_Clone_string_string, E_stand_body_levers_1, E_stand_body_levers_2, E_stand_body_levers_3, E_stand_load_light, E_stand_load_heavy, E_slices_IndexFunc_api_VnTank_api_VnTank, E_slices_order2Ordered_int, trivial⟩

end Go.AM
