/- MADE BY PROGRAM (gen.py): the abstract code of functions of this seat, each checked against the given code by the kernel. -/
import Derived.Test.YtmjfcbpgnmajpaaGreatDoorChecked
import Derived.Test.YtmjfcbpgnmajpaaGreatDoorA18
import Derived.Test.YtmjfcbpgnmajpaaGreatDoorA13
namespace Go.AM
open Go.Proofs

abbrev F_l06_CutKnown : FuncId := 6
/-- orlop/orloplaw06.CutKnown: parameters [], results ['bool'] -/
def C_l06_CutKnown : AC :=
 (.seq (.reg [⟨some 0, none, .mv (.c (.bool false))⟩] [])
 (.seq (.reg [⟨some 28, none, .call (.f 34) [false, false] [(.c (.bool false)), (.c (.bool false))]⟩,
 ⟨some 29, none, .call (.f 34) [false, false] [(.c (.bool true)), (.c (.bool false))]⟩,
 ⟨some 30, none, .call (.f 34) [false, false] [(.c (.bool false)), (.c (.bool true))]⟩,
 ⟨some 1, none, .alloc [.slice 7 [], .slice 7 [], .int .i64 0, .int .i64 0, .int .i64 0, .int .i64 0, .slice 2 [], .slice 3 [], .slice 1 [], .slice 2 [], .slice 1 []]⟩,
 ⟨some 2, none, .alloc [.slice 7 [], .slice 7 [], .int .i64 0, .int .i64 0, .int .i64 0, .int .i64 0, .slice 2 [], .slice 3 [], .slice 1 [], .slice 2 [], .slice 1 []]⟩,
 ⟨some 3, none, .alloc [.slice 7 [], .slice 7 [], .int .i64 0, .int .i64 0, .int .i64 0, .int .i64 0, .slice 2 [], .slice 3 [], .slice 1 [], .slice 2 [], .slice 1 []]⟩,
 ⟨none, none, .store 11 (.t 1) (.t 28)⟩,
 ⟨none, none, .store 11 (.t 2) (.t 29)⟩,
 ⟨none, none, .store 11 (.t 3) (.t 30)⟩] [1, 2, 3])
 (.frz 3 true (.frz 2 true (.frz 1 true (.seq (.reg [⟨some 32, none, .load (some 11) (.t 1)⟩,
 ⟨some 33, none, .lit 0 1 1 [(0, (.c (.int .i64 0)))]⟩,
 ⟨some 34, none, .call (.f 18) [true, true] [(.t 32), (.t 33)]⟩,
 ⟨some 31, none, .mv (.t 34)⟩,
 ⟨some 35, none, .extract (.t 31) 0⟩,
 ⟨some 36, none, .extract (.t 31) 1⟩,
 ⟨some 4, none, .mv (.t 35)⟩,
 ⟨some 5, none, .mv (.t 36)⟩] [1, 2, 3, 4, 5])
 (.seq (.reg [⟨some 38, none, .load (some 11) (.t 1)⟩,
 ⟨some 39, none, .lit 0 1 2 [(0, (.c (.int .i64 0))), (1, (.c (.int .i64 2)))]⟩,
 ⟨some 40, none, .call (.f 18) [true, true] [(.t 38), (.t 39)]⟩,
 ⟨some 37, none, .mv (.t 40)⟩,
 ⟨some 41, none, .extract (.t 37) 0⟩,
 ⟨some 42, none, .extract (.t 37) 1⟩,
 ⟨some 6, none, .mv (.t 41)⟩,
 ⟨some 7, none, .mv (.t 42)⟩] [1, 2, 3, 4, 5, 6, 7])
 (.seq (.reg [⟨some 44, none, .load (some 11) (.t 3)⟩,
 ⟨some 45, none, .call (.f 24) [true] [(.t 44)]⟩,
 ⟨some 43, none, .mv (.t 45)⟩,
 ⟨some 46, none, .extract (.t 43) 0⟩,
 ⟨some 47, none, .extract (.t 43) 1⟩,
 ⟨some 8, none, .mv (.t 46)⟩,
 ⟨some 9, none, .mv (.t 47)⟩] [1, 2, 3, 4, 5, 6, 7, 9])
 (.seq (.reg [⟨some 49, none, .load (some 11) (.t 1)⟩,
 ⟨some 50, none, .lit 0 1 2 [(0, (.c (.int .i64 1))), (1, (.c (.int .i64 1)))]⟩,
 ⟨some 51, none, .call (.f 16) [true, true] [(.t 49), (.t 50)]⟩,
 ⟨some 48, none, .mv (.t 51)⟩,
 ⟨some 52, none, .extract (.t 48) 0⟩,
 ⟨some 53, none, .extract (.t 48) 1⟩,
 ⟨some 54, none, .extract (.t 48) 2⟩,
 ⟨some 10, none, .mv (.t 52)⟩,
 ⟨some 11, none, .mv (.t 53)⟩,
 ⟨some 12, none, .mv (.t 54)⟩] [1, 2, 3, 4, 5, 6, 7, 9, 10, 11, 12])
 (.seq (.reg [⟨some 56, none, .load (some 11) (.t 1)⟩,
 ⟨some 57, none, .lit 0 1 2 [(0, (.c (.int .i64 1))), (1, (.c (.int .i64 0)))]⟩,
 ⟨some 58, none, .call (.f 16) [true, true] [(.t 56), (.t 57)]⟩,
 ⟨some 55, none, .mv (.t 58)⟩,
 ⟨some 59, none, .extract (.t 55) 0⟩,
 ⟨some 60, none, .extract (.t 55) 1⟩,
 ⟨some 61, none, .extract (.t 55) 2⟩,
 ⟨some 13, none, .mv (.t 59)⟩,
 ⟨some 14, none, .mv (.t 60)⟩,
 ⟨some 15, none, .mv (.t 61)⟩] [1, 2, 3, 4, 5, 6, 7, 9, 10, 11, 12, 13, 14, 15])
 (.seq (.reg [⟨some 63, none, .load (some 11) (.t 1)⟩,
 ⟨some 64, none, .lit 0 1 3 [(0, (.c (.int .i64 0))), (1, (.c (.int .i64 2))), (2, (.c (.int .i64 1)))]⟩,
 ⟨some 65, none, .call (.f 16) [true, true] [(.t 63), (.t 64)]⟩,
 ⟨some 62, none, .mv (.t 65)⟩,
 ⟨some 66, none, .extract (.t 62) 0⟩,
 ⟨some 67, none, .extract (.t 62) 1⟩,
 ⟨some 68, none, .extract (.t 62) 2⟩,
 ⟨some 16, none, .mv (.t 66)⟩,
 ⟨some 17, none, .mv (.t 67)⟩,
 ⟨some 18, none, .mv (.t 68)⟩] [2, 3, 4, 5, 6, 7, 9, 10, 11, 12, 13, 14, 15, 16, 17, 18])
 (.seq (.reg [⟨some 70, none, .load (some 11) (.t 2)⟩,
 ⟨some 71, none, .lit 0 1 1 [(0, (.c (.int .i64 0)))]⟩,
 ⟨some 72, none, .call (.f 16) [true, true] [(.t 70), (.t 71)]⟩,
 ⟨some 69, none, .mv (.t 72)⟩,
 ⟨some 73, none, .extract (.t 69) 0⟩,
 ⟨some 74, none, .extract (.t 69) 1⟩,
 ⟨some 75, none, .extract (.t 69) 2⟩,
 ⟨some 19, none, .mv (.t 73)⟩,
 ⟨some 20, none, .mv (.t 74)⟩,
 ⟨some 21, none, .mv (.t 75)⟩] [2, 3, 4, 5, 6, 7, 9, 10, 11, 12, 13, 14, 15, 16, 17, 18, 19, 20, 21])
 (.seq (.reg [⟨some 77, none, .load (some 11) (.t 3)⟩,
 ⟨some 78, none, .call (.f 26) [true] [(.t 77)]⟩,
 ⟨some 76, none, .mv (.t 78)⟩,
 ⟨some 79, none, .extract (.t 76) 0⟩,
 ⟨some 80, none, .extract (.t 76) 1⟩,
 ⟨some 22, none, .mv (.t 79)⟩,
 ⟨some 23, none, .mv (.t 80)⟩] [2, 4, 5, 6, 7, 9, 10, 11, 12, 13, 14, 15, 16, 17, 18, 19, 20, 21, 22, 23])
 (.seq (.reg [⟨some 82, none, .load (some 11) (.t 2)⟩,
 ⟨some 83, none, .call (.f 28) [true, false] [(.t 82), (.c (.int .i64 2))]⟩,
 ⟨some 81, none, .mv (.t 83)⟩,
 ⟨some 84, none, .extract (.t 81) 0⟩,
 ⟨some 85, none, .extract (.t 81) 1⟩,
 ⟨some 24, none, .mv (.t 84)⟩,
 ⟨some 25, none, .mv (.t 85)⟩] [2, 4, 5, 6, 7, 9, 10, 11, 12, 13, 14, 15, 16, 17, 18, 19, 20, 21, 22, 23, 25])
 (.seq (.reg [⟨some 87, none, .load (some 11) (.t 2)⟩,
 ⟨some 88, none, .call (.f 30) [true] [(.t 87)]⟩,
 ⟨some 86, none, .mv (.t 88)⟩,
 ⟨some 89, none, .extract (.t 86) 0⟩,
 ⟨some 90, none, .extract (.t 86) 1⟩,
 ⟨some 26, none, .mv (.t 89)⟩,
 ⟨some 27, none, .mv (.t 90)⟩] [4, 5, 6, 7, 9, 10, 11, 12, 13, 14, 15, 16, 17, 18, 19, 20, 21, 22, 23, 25, 26, 27])
 (.seq (.reg [⟨some 91, none, .mv (.t 5)⟩,
 ⟨some 92, none, .bin .eql (.t 91) (.c (.int .i64 0))⟩,
 ⟨some 93, none, .mv (.t 92)⟩,
 ⟨some 94, (some (93, true)), .mv (.t 7)⟩,
 ⟨some 95, (some (93, true)), .bin .eql (.t 94) (.c (.int .i64 0))⟩,
 ⟨some 96, none, .pick (.t 93) (.t 95) (.c (.bool false))⟩,
 ⟨some 97, none, .mv (.t 96)⟩,
 ⟨some 98, (some (97, true)), .mv (.t 12)⟩,
 ⟨some 99, (some (97, true)), .bin .eql (.t 98) (.c (.int .i64 0))⟩,
 ⟨some 100, none, .pick (.t 97) (.t 99) (.c (.bool false))⟩,
 ⟨some 101, none, .mv (.t 100)⟩,
 ⟨some 102, (some (101, true)), .mv (.t 15)⟩,
 ⟨some 103, (some (101, true)), .bin .eql (.t 102) (.c (.int .i64 0))⟩,
 ⟨some 104, none, .pick (.t 101) (.t 103) (.c (.bool false))⟩,
 ⟨some 105, none, .mv (.t 104)⟩,
 ⟨some 106, (some (105, true)), .mv (.t 18)⟩,
 ⟨some 107, (some (105, true)), .bin .eql (.t 106) (.c (.int .i64 0))⟩,
 ⟨some 108, none, .pick (.t 105) (.t 107) (.c (.bool false))⟩,
 ⟨some 109, none, .mv (.t 108)⟩,
 ⟨some 110, (some (109, true)), .mv (.t 21)⟩,
 ⟨some 111, (some (109, true)), .bin .eql (.t 110) (.c (.int .i64 0))⟩,
 ⟨some 112, none, .pick (.t 109) (.t 111) (.c (.bool false))⟩,
 ⟨some 113, none, .mv (.t 112)⟩,
 ⟨some 114, (some (113, true)), .mv (.t 23)⟩,
 ⟨some 115, (some (113, true)), .bin .eql (.t 114) (.c (.int .i64 0))⟩,
 ⟨some 116, none, .pick (.t 113) (.t 115) (.c (.bool false))⟩,
 ⟨some 117, none, .mv (.t 116)⟩,
 ⟨some 118, (some (117, true)), .mv (.t 27)⟩,
 ⟨some 119, (some (117, true)), .bin .eql (.t 118) (.c (.int .i64 0))⟩,
 ⟨some 120, none, .pick (.t 117) (.t 119) (.c (.bool false))⟩,
 ⟨some 121, none, .mv (.t 120)⟩,
 ⟨some 122, (some (121, true)), .mv (.t 9)⟩,
 ⟨some 123, (some (121, true)), .bin .eql (.t 122) (.c (.int .i64 9))⟩,
 ⟨some 124, none, .pick (.t 121) (.t 123) (.c (.bool false))⟩,
 ⟨some 125, none, .mv (.t 124)⟩,
 ⟨some 126, (some (125, true)), .mv (.t 25)⟩,
 ⟨some 127, (some (125, true)), .bin .eql (.t 126) (.c (.int .i64 9))⟩,
 ⟨some 128, none, .pick (.t 125) (.t 127) (.c (.bool false))⟩,
 ⟨some 129, none, .mv (.t 128)⟩,
 ⟨some 130, (some (129, true)), .mv (.t 4)⟩,
 ⟨some 131, (some (129, true)), .lit 0 1 1 [(0, (.c (.int .i64 2)))]⟩,
 ⟨some 132, (some (129, true)), .call (.f 20) [true, true] [(.t 130), (.t 131)]⟩,
 ⟨some 133, none, .pick (.t 129) (.t 132) (.c (.bool false))⟩,
 ⟨some 134, none, .mv (.t 133)⟩,
 ⟨some 135, (some (134, true)), .mv (.t 6)⟩,
 ⟨some 136, (some (134, true)), .lit 0 1 1 [(0, (.c (.int .i64 1)))]⟩,
 ⟨some 137, (some (134, true)), .call (.f 20) [true, true] [(.t 135), (.t 136)]⟩,
 ⟨some 138, none, .pick (.t 134) (.t 137) (.c (.bool false))⟩,
 ⟨some 139, none, .mv (.t 138)⟩,
 ⟨some 140, (some (139, true)), .mv (.t 10)⟩,
 ⟨some 141, (some (139, true)), .bin .eql (.t 140) (.c (.int .i64 1))⟩,
 ⟨some 142, none, .pick (.t 139) (.t 141) (.c (.bool false))⟩,
 ⟨some 143, none, .mv (.t 142)⟩,
 ⟨some 144, (some (143, true)), .mv (.t 11)⟩,
 ⟨some 145, (some (143, true)), .bin .eql (.t 144) (.c (.int .i64 1))⟩,
 ⟨some 146, none, .pick (.t 143) (.t 145) (.c (.bool false))⟩,
 ⟨some 147, none, .mv (.t 146)⟩,
 ⟨some 148, (some (147, true)), .mv (.t 13)⟩,
 ⟨some 149, (some (147, true)), .bin .eql (.t 148) (.c (.int .i64 1))⟩,
 ⟨some 150, none, .pick (.t 147) (.t 149) (.c (.bool false))⟩,
 ⟨some 151, none, .mv (.t 150)⟩,
 ⟨some 152, (some (151, true)), .mv (.t 14)⟩,
 ⟨some 153, (some (151, true)), .bin .eql (.t 152) (.c (.int .i64 4))⟩,
 ⟨some 154, none, .pick (.t 151) (.t 153) (.c (.bool false))⟩,
 ⟨some 155, none, .mv (.t 154)⟩,
 ⟨some 156, (some (155, true)), .mv (.t 16)⟩,
 ⟨some 157, (some (155, true)), .bin .eql (.t 156) (.c (.int .i64 (-1)))⟩,
 ⟨some 158, none, .pick (.t 155) (.t 157) (.c (.bool false))⟩,
 ⟨some 159, none, .mv (.t 158)⟩,
 ⟨some 160, (some (159, true)), .mv (.t 17)⟩,
 ⟨some 161, (some (159, true)), .bin .eql (.t 160) (.c (.int .i64 0))⟩,
 ⟨some 162, none, .pick (.t 159) (.t 161) (.c (.bool false))⟩,
 ⟨some 163, none, .mv (.t 162)⟩,
 ⟨some 164, (some (163, true)), .mv (.t 19)⟩,
 ⟨some 165, (some (163, true)), .bin .eql (.t 164) (.c (.int .i64 0))⟩,
 ⟨some 166, none, .pick (.t 163) (.t 165) (.c (.bool false))⟩,
 ⟨some 167, none, .mv (.t 166)⟩,
 ⟨some 168, (some (167, true)), .mv (.t 20)⟩,
 ⟨some 169, (some (167, true)), .bin .eql (.t 168) (.c (.int .i64 2))⟩,
 ⟨some 170, none, .pick (.t 167) (.t 169) (.c (.bool false))⟩,
 ⟨some 171, none, .mv (.t 170)⟩,
 ⟨some 172, (some (171, true)), .mv (.t 22)⟩,
 ⟨some 173, (some (171, true)), .lit 0 1 1 [(0, (.c (.int .i64 0)))]⟩,
 ⟨some 174, (some (171, true)), .call (.f 20) [true, true] [(.t 172), (.t 173)]⟩,
 ⟨some 175, none, .pick (.t 171) (.t 174) (.c (.bool false))⟩,
 ⟨some 176, none, .mv (.t 175)⟩,
 ⟨some 177, (some (176, true)), .mv (.t 26)⟩,
 ⟨some 178, (some (176, true)), .lit 0 1 2 [(0, (.c (.int .i64 5))), (1, (.c (.int .i64 7)))]⟩,
 ⟨some 179, (some (176, true)), .call (.f 20) [true, true] [(.t 177), (.t 178)]⟩,
 ⟨some 180, none, .pick (.t 176) (.t 179) (.c (.bool false))⟩,
 ⟨some 181, none, .mv (.t 180)⟩,
 ⟨some 182, (some (181, true)), .call (.f 23) [] []⟩,
 ⟨some 183, none, .pick (.t 181) (.t 182) (.c (.bool false))⟩,
 ⟨some 0, none, .mv (.t 183)⟩] [0])
 .ret))))))))))))))))
abbrev R_l06_CutKnown : List (Nat × Option (Option Nat)) := [(0, none)]
theorem K_l06_CutKnown : chkF Tryz.prog Tryz.f6 184 C_l06_CutKnown R_l06_CutKnown = true := by kernel_rfl
theorem spec_l06_CutKnown {args : List AVal} {σ : AHeap} {R : ARes → AHeap → Prop} (ha : args.length ≤ 184) (h : AW Tryz.prog 184 none C_l06_CutKnown (bodyQ R_l06_CutKnown R) { v := argEnv args 0, ds := [] } σ) : Spec Tryz.prog F_l06_CutKnown args σ R := Spec.of_fn Tryz.func6 K_l06_CutKnown ha h
theorem B_l06_CutKnown : hasBody Tryz.prog F_l06_CutKnown = true := by kernel_rfl
theorem E_l06_CutKnown : EntOk Tryz.prog ⟨6, 184, C_l06_CutKnown, R_l06_CutKnown, 0⟩ := ⟨fun _ => ⟨B_l06_CutKnown, _, Tryz.func6, K_l06_CutKnown⟩, fun h => by cases h⟩

abbrev F_cut_Check : FuncId := 14
/-- orlop/cut.Check: parameters ['api.CtTask'], results ['int', 'int', 'api.Errno'] -/
def C_cut_Check : AC :=
 (.seq (.reg [⟨some 1, none, .pbox 11 (.t 0)⟩,
 ⟨some 2, none, .alloc [.int .i64 0]⟩,
 ⟨some 3, none, .alloc [.int .i64 0]⟩,
 ⟨some 4, none, .alloc [.int .i64 0]⟩] [1, 2, 3, 4])
 (.seq (.dfr 12 43 [(.t 2), (.t 3), (.t 4)] [1, 2, 3, 4])
 (.seq (.reg [⟨some 14, none, .fieldAddr (some 1) 0 (.t 1)⟩,
 ⟨some 15, none, .load (some 1) (.t 14)⟩,
 ⟨some 16, none, .build [.slice 7 [], .slice 10 []] [(0, 1, (.t 15))]⟩,
 ⟨some 17, none, .call (.f 44) [true] [(.t 16)]⟩,
 ⟨some 13, none, .mv (.t 17)⟩,
 ⟨some 18, none, .extract (.t 13) 0⟩,
 ⟨some 19, none, .extract (.t 13) 1⟩,
 ⟨some 20, none, .extract (.t 13) 2⟩,
 ⟨none, none, .store 1 (.t 3) (.t 19)⟩,
 ⟨none, none, .store 1 (.t 4) (.t 20)⟩] [1, 2, 3, 4])
 (.seq (.reg [⟨some 21, none, .load none (.t 3)⟩,
 ⟨some 22, none, .load none (.t 4)⟩,
 ⟨some 23, none, .call (.f 45) [false, false, false] [(.c (.int .i64 1)), (.t 21), (.t 22)]⟩] [1, 2, 3, 4])
 (.seq (.reg [⟨some 25, none, .fieldAddr (some 3) 1 (.t 1)⟩,
 ⟨some 26, none, .load (some 3) (.t 25)⟩,
 ⟨some 27, none, .call (.f 46) [true] [(.t 26)]⟩,
 ⟨some 24, none, .mv (.t 27)⟩,
 ⟨some 28, none, .extract (.t 24) 0⟩,
 ⟨some 29, none, .extract (.t 24) 1⟩,
 ⟨some 30, none, .extract (.t 24) 2⟩,
 ⟨none, none, .store 1 (.t 4) (.t 30)⟩] [1, 2, 3, 4])
 (.seq (.reg [⟨some 31, none, .load none (.t 4)⟩,
 ⟨some 32, none, .call (.f 45) [false, false, false] [(.c (.int .i64 2)), (.c (.int .i64 0)), (.t 31)]⟩] [1, 2, 3, 4])
 (.seq (.reg [⟨some 33, none, .fieldAddr (some 1) 0 (.t 1)⟩,
 ⟨some 34, none, .fieldAddr none 0 (.t 33)⟩,
 ⟨some 35, none, .load none (.t 34)⟩,
 ⟨some 36, none, .len (.t 35)⟩,
 ⟨some 5, none, .mv (.t 36)⟩] [1, 2, 3, 4, 5])
 (.seq (.seq (.reg [⟨some 37, none, .fieldAddr (some 3) 1 (.t 1)⟩,
 ⟨some 38, none, .fieldAddr none 0 (.t 37)⟩,
 ⟨some 39, none, .load none (.t 38)⟩,
 ⟨some 40, none, .len (.t 39)⟩,
 ⟨some 41, none, .mv (.t 5)⟩,
 ⟨some 42, none, .bin .neq (.t 40) (.t 41)⟩,
 ⟨some 43, none, .mv (.t 42)⟩,
 ⟨some 44, (some (43, false)), .mv (.t 5)⟩,
 ⟨some 45, (some (43, false)), .bin .gtr (.t 44) (.c (.int .i64 7))⟩,
 ⟨some 46, none, .pick (.t 43) (.c (.bool true)) (.t 45)⟩] [1, 2, 3, 4, 5, 46])
 (.cond (.t 46)
 (.reg [⟨some 47, none, .call (.f 45) [false, false, false] [(.c (.int .i64 2)), (.c (.int .i64 0)), (.c (.int .i64 3))]⟩] [1, 2, 3, 4, 5])
 .skip))
 (.seq (.seq (.reg [⟨some 48, none, .fieldAddr (some 1) 0 (.t 1)⟩,
 ⟨some 49, none, .fieldAddr none 0 (.t 48)⟩,
 ⟨some 50, none, .load none (.t 49)⟩,
 ⟨some 51, none, .len (.t 50)⟩,
 ⟨some 52, none, .mv (.c (.int .i64 0))⟩] [1, 2, 3, 4, 5, 50, 51, 52])
 (.block 0
 (.loop [1, 2, 3, 4, 5, 50, 51, 52]
 (.seq (.reg [⟨some 53, none, .bin .lss (.t 52) (.t 51)⟩] [1, 2, 3, 4, 5, 50, 51, 52, 53])
 (.seq (.cond (.t 53)
 .skip
 (.exit 0))
 (.seq (.block 1
 (.seq (.reg [⟨some 54, none, .mv (.t 52)⟩,
 ⟨some 55, none, .ixS 7 (.t 50) (.t 52)⟩,
 ⟨some 56, none, .load (some 7) (.t 55)⟩,
 ⟨some 7, none, .alloc [.str ByteArray.empty, .int .i64 0, .int .i64 0, .int .i64 0, .slice 1 [], .int .i64 0, .int .i64 0]⟩,
 ⟨some 6, none, .mv (.t 54)⟩,
 ⟨none, none, .store 7 (.t 7) (.t 56)⟩] [1, 2, 3, 4, 5, 6, 7, 50, 51, 52])
 (.frz 7 true (.seq (.dreg [⟨some 57, none, .fieldAddr (some 3) 1 (.t 1)⟩,
 ⟨some 58, none, .fieldAddr none 0 (.t 57)⟩,
 ⟨some 59, none, .load none (.t 58)⟩,
 ⟨some 60, none, .mv (.t 6)⟩,
 ⟨some 61, none, .ixS 7 (.t 59) (.t 60)⟩,
 ⟨some 62, none, .fieldAddr none 0 (.t 61)⟩,
 ⟨some 63, none, .load none (.t 62)⟩,
 ⟨some 64, none, .fieldAddr none 0 (.t 7)⟩,
 ⟨some 65, none, .load none (.t 64)⟩,
 ⟨some 66, none, .bin .neq (.t 63) (.t 65)⟩] [1, 2, 3, 4, 5, 6, 50, 51, 52, 66] [[], [0], [0, 1], [], [0, 1, 2, 3], [0, 1, 2, 3, 4], [0, 1, 2, 3, 4, 5], [], [7], [0, 1, 2, 3, 4, 5, 6, 7, 8]])
 (.cond (.t 66)
 (.reg [⟨some 67, none, .mv (.t 6)⟩,
 ⟨some 68, none, .call (.f 45) [false, false, false] [(.c (.int .i64 2)), (.t 67), (.c (.int .i64 4))]⟩] [1, 2, 3, 4, 5, 50, 51, 52])
 .skip)))))
 (.reg [⟨some 69, none, .bin .add (.t 52) (.c (.int .i64 1))⟩,
 ⟨some 52, none, .mv (.t 69)⟩] [1, 2, 3, 4, 5, 50, 51, 52])))))))
 (.seq (.reg [⟨some 71, none, .fieldAddr (some 3) 1 (.t 1)⟩,
 ⟨some 72, none, .load (some 3) (.t 71)⟩,
 ⟨some 73, none, .fieldAddr (some 2) 4 (.t 1)⟩,
 ⟨some 74, none, .load (some 2) (.t 73)⟩,
 ⟨some 75, none, .call (.f 47) [true, false] [(.t 72), (.t 74)]⟩,
 ⟨some 70, none, .mv (.t 75)⟩,
 ⟨some 76, none, .extract (.t 70) 0⟩,
 ⟨some 77, none, .extract (.t 70) 1⟩,
 ⟨some 78, none, .extract (.t 70) 2⟩,
 ⟨none, none, .store 1 (.t 4) (.t 78)⟩] [1, 2, 3, 4, 5])
 (.seq (.reg [⟨some 79, none, .load none (.t 4)⟩,
 ⟨some 80, none, .call (.f 45) [false, false, false] [(.c (.int .i64 3)), (.c (.int .i64 0)), (.t 79)]⟩] [1, 2, 3, 4, 5])
 (.seq (.reg [⟨some 82, none, .fieldAddr (some 2) 6 (.t 1)⟩,
 ⟨some 83, none, .load (some 2) (.t 82)⟩,
 ⟨some 84, none, .fieldAddr none 8 (.t 1)⟩,
 ⟨some 85, none, .load none (.t 84)⟩,
 ⟨some 86, none, .fieldAddr none 9 (.t 1)⟩,
 ⟨some 87, none, .load none (.t 86)⟩,
 ⟨some 88, none, .call (.f 48) [true, true, true] [(.t 83), (.t 85), (.t 87)]⟩,
 ⟨some 81, none, .mv (.t 88)⟩,
 ⟨some 89, none, .extract (.t 81) 0⟩,
 ⟨some 90, none, .extract (.t 81) 1⟩,
 ⟨none, none, .store 1 (.t 4) (.t 90)⟩] [1, 2, 3, 4, 5])
 (.seq (.reg [⟨some 91, none, .load none (.t 4)⟩,
 ⟨some 92, none, .call (.f 45) [false, false, false] [(.c (.int .i64 4)), (.c (.int .i64 0)), (.t 91)]⟩] [1, 2, 3, 4, 5])
 (.seq (.seq (.reg [⟨some 93, none, .fieldAddr none 10 (.t 1)⟩,
 ⟨some 94, none, .load none (.t 93)⟩,
 ⟨some 95, none, .len (.t 94)⟩,
 ⟨some 96, none, .mv (.t 5)⟩,
 ⟨some 97, none, .bin .neq (.t 95) (.t 96)⟩] [1, 2, 3, 4, 97])
 (.cond (.t 97)
 (.reg [⟨some 98, none, .call (.f 45) [false, false, false] [(.c (.int .i64 5)), (.c (.int .i64 0)), (.c (.int .i64 3))]⟩] [1, 2, 3, 4])
 .skip))
 (.seq (.seq (.reg [⟨some 99, none, .fieldAddr none 10 (.t 1)⟩,
 ⟨some 100, none, .load none (.t 99)⟩,
 ⟨some 101, none, .len (.t 100)⟩,
 ⟨some 102, none, .mv (.c (.int .i64 0))⟩] [1, 2, 3, 4, 100, 101, 102])
 (.block 2
 (.loop [1, 2, 3, 4, 100, 101, 102]
 (.seq (.reg [⟨some 103, none, .bin .lss (.t 102) (.t 101)⟩] [1, 2, 3, 4, 100, 101, 102, 103])
 (.seq (.cond (.t 103)
 .skip
 (.exit 2))
 (.seq (.block 3
 (.seq (.reg [⟨some 104, none, .mv (.t 102)⟩,
 ⟨some 105, none, .ixS 1 (.t 100) (.t 102)⟩,
 ⟨some 106, none, .load none (.t 105)⟩,
 ⟨some 8, none, .mv (.t 104)⟩,
 ⟨some 9, none, .mv (.t 106)⟩] [1, 2, 3, 4, 8, 9, 100, 101, 102])
 (.seq (.reg [⟨some 107, none, .mv (.t 9)⟩,
 ⟨some 108, none, .len (.t 107)⟩,
 ⟨some 109, none, .mv (.c (.int .i64 0))⟩] [1, 2, 3, 4, 8, 9, 100, 101, 102, 107, 108, 109])
 (.block 4
 (.loop [1, 2, 3, 4, 8, 9, 100, 101, 102, 107, 108, 109]
 (.seq (.reg [⟨some 110, none, .bin .lss (.t 109) (.t 108)⟩] [1, 2, 3, 4, 8, 9, 100, 101, 102, 107, 108, 109, 110])
 (.seq (.cond (.t 110)
 .skip
 (.exit 4))
 (.seq (.block 5
 (.seq (.reg [⟨some 111, none, .mv (.t 109)⟩,
 ⟨some 112, none, .ixS 1 (.t 107) (.t 109)⟩,
 ⟨some 113, none, .load none (.t 112)⟩,
 ⟨some 10, none, .mv (.t 111)⟩,
 ⟨some 11, none, .mv (.t 113)⟩] [1, 2, 3, 4, 8, 9, 10, 11, 100, 101, 102, 107, 108, 109])
 (.block 6
 (.seq (.reg [⟨some 115, none, .fieldAddr (some 2) 6 (.t 1)⟩,
 ⟨some 116, none, .fieldAddr none 0 (.t 115)⟩,
 ⟨some 117, none, .load none (.t 116)⟩,
 ⟨some 118, none, .len (.t 117)⟩,
 ⟨some 119, none, .mv (.t 11)⟩,
 ⟨some 120, none, .lit 0 1 1 [(0, (.t 119))]⟩,
 ⟨some 121, none, .call (.f 49) [false, true] [(.t 118), (.t 120)]⟩,
 ⟨some 114, none, .mv (.t 121)⟩] [1, 2, 3, 4, 8, 9, 10, 11, 100, 101, 102, 107, 108, 109, 114])
 (.cond (.t 114)
 (.reg [⟨some 122, none, .mv (.t 8)⟩,
 ⟨some 123, none, .call (.f 45) [false, false, false] [(.c (.int .i64 5)), (.t 122), (.c (.int .i64 4))]⟩] [1, 2, 3, 4, 8, 9, 100, 101, 102, 107, 108, 109])
 (.seq (.reg [⟨some 125, none, .mv (.t 10)⟩,
 ⟨some 126, none, .bin .gtr (.t 125) (.c (.int .i64 0))⟩,
 ⟨some 127, none, .mv (.t 126)⟩,
 ⟨some 128, (some (127, true)), .mv (.t 11)⟩,
 ⟨some 129, (some (127, true)), .mv (.t 9)⟩,
 ⟨some 130, (some (127, true)), .mv (.t 10)⟩,
 ⟨some 131, (some (127, true)), .bin .sub (.t 130) (.c (.int .i64 1))⟩,
 ⟨some 132, (some (127, true)), .ixS 1 (.t 129) (.t 131)⟩,
 ⟨some 133, (some (127, true)), .load none (.t 132)⟩,
 ⟨some 134, (some (127, true)), .bin .leq (.t 128) (.t 133)⟩,
 ⟨some 135, none, .pick (.t 127) (.t 134) (.c (.bool false))⟩,
 ⟨some 124, none, .mv (.t 135)⟩] [1, 2, 3, 4, 8, 9, 100, 101, 102, 107, 108, 109, 124])
 (.cond (.t 124)
 (.reg [⟨some 136, none, .mv (.t 8)⟩,
 ⟨some 137, none, .call (.f 45) [false, false, false] [(.c (.int .i64 5)), (.t 136), (.c (.int .i64 2))]⟩] [1, 2, 3, 4, 8, 9, 100, 101, 102, 107, 108, 109])
 .skip)))))))
 (.reg [⟨some 138, none, .bin .add (.t 109) (.c (.int .i64 1))⟩,
 ⟨some 109, none, .mv (.t 138)⟩] [1, 2, 3, 4, 8, 9, 100, 101, 102, 107, 108, 109])))))))))
 (.reg [⟨some 139, none, .bin .add (.t 102) (.c (.int .i64 1))⟩,
 ⟨some 102, none, .mv (.t 139)⟩] [1, 2, 3, 4, 100, 101, 102])))))))
 (.seq (.reg [⟨none, none, .store 1 (.t 2) (.c (.int .i64 0))⟩,
 ⟨none, none, .store 1 (.t 3) (.c (.int .i64 0))⟩,
 ⟨none, none, .store 1 (.t 4) (.c (.int .i64 0))⟩] [2, 3, 4])
 .ret))))))))))))))))
abbrev R_cut_Check : List (Nat × Option (Option Nat)) := [(2, some none), (3, some none), (4, some none)]
theorem K_cut_Check : chkF Tryz.prog Tryz.f14 140 C_cut_Check R_cut_Check = true := by kernel_rfl
theorem spec_cut_Check {args : List AVal} {σ : AHeap} {R : ARes → AHeap → Prop} (ha : args.length ≤ 140) (h : AW Tryz.prog 140 none C_cut_Check (bodyQD Tryz.prog R_cut_Check R) { v := argEnv args 0, ds := [] } σ) : Spec Tryz.prog F_cut_Check args σ R := Spec.of_fnD Tryz.func14 K_cut_Check ha h
theorem B_cut_Check : hasBody Tryz.prog F_cut_Check = true := by kernel_rfl
theorem E_cut_Check : EntOk Tryz.prog ⟨14, 140, C_cut_Check, R_cut_Check, 0⟩ := ⟨fun _ => ⟨B_cut_Check, _, Tryz.func14, K_cut_Check⟩, fun h => by cases h⟩

abbrev F_cut_Bad : FuncId := 16
/-- orlop/cut.Bad: parameters ['api.CtTask', '[]int'], results ['int', 'int', 'api.Errno'] -/
def C_cut_Bad : AC :=
 (.seq (.reg [⟨some 2, none, .pbox 11 (.t 0)⟩,
 ⟨some 4, none, .mv (.c (.int .i64 0))⟩,
 ⟨some 5, none, .mv (.c (.int .i64 0))⟩,
 ⟨some 6, none, .mv (.c (.int .i64 0))⟩] [1, 2])
 (.seq (.reg [⟨some 9, none, .load (some 11) (.t 2)⟩,
 ⟨some 10, none, .mv (.t 1)⟩,
 ⟨some 11, none, .call (.f 55) [true, true] [(.t 9), (.t 10)]⟩,
 ⟨some 8, none, .mv (.t 11)⟩,
 ⟨some 12, none, .extract (.t 8) 0⟩,
 ⟨some 13, none, .extract (.t 8) 1⟩,
 ⟨some 7, none, .mv (.t 12)⟩,
 ⟨some 6, none, .mv (.t 13)⟩] [1, 6, 7])
 (.seq (.seq (.reg [⟨some 14, none, .mv (.t 6)⟩,
 ⟨some 15, none, .bin .neq (.t 14) (.c (.int .i64 0))⟩] [1, 6, 7, 15])
 (.cond (.t 15)
 (.seq (.reg [⟨some 16, none, .mv (.t 6)⟩,
 ⟨some 4, none, .mv (.c (.int .i64 0))⟩,
 ⟨some 5, none, .mv (.c (.int .i64 0))⟩,
 ⟨some 6, none, .mv (.t 16)⟩] [4, 5, 6])
 .ret)
 .skip))
 (.seq (.reg [⟨some 18, none, .mv (.t 7)⟩,
 ⟨some 19, none, .mv (.t 1)⟩,
 ⟨some 20, none, .call (.f 56) [false, true] [(.t 18), (.t 19)]⟩,
 ⟨some 17, none, .mv (.t 20)⟩,
 ⟨some 21, none, .extract (.t 17) 0⟩,
 ⟨some 22, none, .extract (.t 17) 1⟩,
 ⟨some 23, none, .extract (.t 17) 2⟩,
 ⟨some 4, none, .mv (.t 21)⟩,
 ⟨some 5, none, .mv (.t 22)⟩] [4, 5])
 (.seq (.reg [⟨some 24, none, .mv (.t 4)⟩,
 ⟨some 25, none, .mv (.t 5)⟩,
 ⟨some 4, none, .mv (.t 24)⟩,
 ⟨some 5, none, .mv (.t 25)⟩,
 ⟨some 6, none, .mv (.c (.int .i64 0))⟩] [4, 5, 6])
 .ret)))))
abbrev R_cut_Bad : List (Nat × Option (Option Nat)) := [(4, none), (5, none), (6, none)]
theorem K_cut_Bad : chkF Tryz.prog Tryz.f16 26 C_cut_Bad R_cut_Bad = true := by kernel_rfl
theorem spec_cut_Bad {args : List AVal} {σ : AHeap} {R : ARes → AHeap → Prop} (ha : args.length ≤ 26) (h : AW Tryz.prog 26 none C_cut_Bad (bodyQ R_cut_Bad R) { v := argEnv args 0, ds := [] } σ) : Spec Tryz.prog F_cut_Bad args σ R := Spec.of_fn Tryz.func16 K_cut_Bad ha h
theorem B_cut_Bad : hasBody Tryz.prog F_cut_Bad = true := by kernel_rfl
theorem E_cut_Bad : EntOk Tryz.prog ⟨16, 26, C_cut_Bad, R_cut_Bad, 0⟩ := ⟨fun _ => ⟨B_cut_Bad, _, Tryz.func16, K_cut_Bad⟩, fun h => by cases h⟩

abbrev F_cut_May : FuncId := 18
/-- orlop/cut.May: parameters ['api.CtTask', '[]int'], results ['[]int', 'api.Errno'] -/
def C_cut_May : AC :=
 (.seq (.reg [⟨some 2, none, .pbox 11 (.t 0)⟩,
 ⟨some 4, none, .mv (.c (.slice 1 []))⟩,
 ⟨some 5, none, .mv (.c (.int .i64 0))⟩] [1, 2])
 (.seq (.reg [⟨some 10, none, .load (some 11) (.t 2)⟩,
 ⟨some 11, none, .mv (.t 1)⟩,
 ⟨some 12, none, .call (.f 59) [true, true] [(.t 10), (.t 11)]⟩,
 ⟨some 9, none, .mv (.t 12)⟩,
 ⟨some 13, none, .extract (.t 9) 0⟩,
 ⟨some 14, none, .extract (.t 9) 1⟩,
 ⟨some 15, none, .extract (.t 9) 2⟩,
 ⟨some 6, none, .mv (.t 13)⟩,
 ⟨some 7, none, .mv (.t 14)⟩,
 ⟨some 8, none, .mv (.t 15)⟩] [6, 7, 8])
 (.seq (.seq (.reg [⟨some 16, none, .mv (.t 8)⟩,
 ⟨some 17, none, .bin .neq (.t 16) (.c (.int .i64 0))⟩] [6, 7, 8, 17])
 (.cond (.t 17)
 (.seq (.reg [⟨some 18, none, .mv (.t 8)⟩,
 ⟨some 4, none, .mv (.c (.slice 1 []))⟩,
 ⟨some 5, none, .mv (.t 18)⟩] [4, 5])
 .ret)
 .skip))
 (.seq (.reg [⟨some 19, none, .mv (.t 6)⟩,
 ⟨some 20, none, .mv (.t 7)⟩,
 ⟨some 21, none, .call (.f 61) [false, false] [(.t 19), (.t 20)]⟩,
 ⟨some 22, none, .call (.f 60) [false, false] [(.t 21), (.f 62)]⟩,
 ⟨some 4, none, .mvd (.t 22)⟩,
 ⟨some 5, none, .mv (.c (.int .i64 0))⟩] [4, 5])
 .ret))))
abbrev R_cut_May : List (Nat × Option (Option Nat)) := [(4, none), (5, none)]
theorem K_cut_May : chkF Tryz.prog Tryz.f18 23 C_cut_May R_cut_May = true := by kernel_rfl
theorem spec_cut_May {args : List AVal} {σ : AHeap} {R : ARes → AHeap → Prop} (ha : args.length ≤ 23) (h : AW Tryz.prog 23 none C_cut_May (bodyQ R_cut_May R) { v := argEnv args 0, ds := [] } σ) : Spec Tryz.prog F_cut_May args σ R := Spec.of_fn Tryz.func18 K_cut_May ha h
theorem B_cut_May : hasBody Tryz.prog F_cut_May = true := by kernel_rfl
theorem E_cut_May : EntOk Tryz.prog ⟨18, 23, C_cut_May, R_cut_May, 0⟩ := ⟨fun _ => ⟨B_cut_May, _, Tryz.func18, K_cut_May⟩, fun h => by cases h⟩

abbrev F_r01_Ints : FuncId := 20
/-- orlop/orlopref01.Ints: parameters ['[]int', '[]int'], results ['bool'] -/
def C_r01_Ints : AC :=
 (.seq (.reg [⟨some 4, none, .mv (.c (.bool false))⟩] [0, 1])
 (.seq (.reg [⟨some 7, none, .mv (.t 0)⟩,
 ⟨some 8, none, .len (.t 7)⟩,
 ⟨some 9, none, .mv (.t 1)⟩,
 ⟨some 10, none, .len (.t 9)⟩,
 ⟨some 11, none, .bin .eql (.t 8) (.t 10)⟩,
 ⟨some 5, none, .mv (.t 11)⟩] [0, 1, 5])
 (.seq (.seq (.reg [⟨some 6, none, .mv (.c (.int .i64 0))⟩] [0, 1, 5, 6])
 (.block 0
 (.loop [0, 1, 5, 6]
 (.seq (.seq (.reg [⟨some 12, none, .mv (.t 6)⟩,
 ⟨some 13, none, .mv (.t 0)⟩,
 ⟨some 14, none, .len (.t 13)⟩,
 ⟨some 15, none, .bin .lss (.t 12) (.t 14)⟩,
 ⟨some 16, none, .mv (.t 15)⟩,
 ⟨some 17, (some (16, true)), .mv (.t 5)⟩,
 ⟨some 18, none, .pick (.t 16) (.t 17) (.c (.bool false))⟩] [0, 1, 5, 6, 18])
 (.cond (.t 18)
 .skip
 (.exit 0)))
 (.seq (.block 1
 (.dreg [⟨some 21, none, .mv (.t 0)⟩,
 ⟨some 22, none, .mv (.t 6)⟩,
 ⟨some 23, none, .ixS 1 (.t 21) (.t 22)⟩,
 ⟨some 24, none, .load none (.t 23)⟩,
 ⟨some 25, none, .mv (.t 1)⟩,
 ⟨some 26, none, .mv (.t 6)⟩,
 ⟨some 27, none, .ixS 1 (.t 25) (.t 26)⟩,
 ⟨some 28, none, .load none (.t 27)⟩,
 ⟨some 29, none, .bin .eql (.t 24) (.t 28)⟩,
 ⟨some 5, none, .mv (.t 29)⟩] [0, 1, 5, 6] [[], [], [0, 1], [0, 1, 2], [], [], [4, 5], [4, 5, 6], [0, 1, 2, 3, 4, 5, 6, 7], [0, 1, 2, 3, 4, 5, 6, 7, 8]]))
 (.reg [⟨some 19, none, .mv (.t 6)⟩,
 ⟨some 20, none, .bin .add (.t 19) (.c (.int .i64 1))⟩,
 ⟨some 6, none, .mv (.t 20)⟩] [0, 1, 5, 6]))))))
 (.seq (.reg [⟨some 30, none, .mv (.t 5)⟩,
 ⟨some 4, none, .mv (.t 30)⟩] [4])
 .ret))))
abbrev R_r01_Ints : List (Nat × Option (Option Nat)) := [(4, none)]
theorem K_r01_Ints : chkF Tryz.prog Tryz.f20 31 C_r01_Ints R_r01_Ints = true := by kernel_rfl
theorem spec_r01_Ints {args : List AVal} {σ : AHeap} {R : ARes → AHeap → Prop} (ha : args.length ≤ 31) (h : AW Tryz.prog 31 none C_r01_Ints (bodyQ R_r01_Ints R) { v := argEnv args 0, ds := [] } σ) : Spec Tryz.prog F_r01_Ints args σ R := Spec.of_fn Tryz.func20 K_r01_Ints ha h
theorem B_r01_Ints : hasBody Tryz.prog F_r01_Ints = true := by kernel_rfl
theorem E_r01_Ints : EntOk Tryz.prog ⟨20, 31, C_r01_Ints, R_r01_Ints, 0⟩ := ⟨fun _ => ⟨B_r01_Ints, _, Tryz.func20, K_r01_Ints⟩, fun h => by cases h⟩

abbrev F_cut_Next : FuncId := 21
/-- orlop/cut.Next: parameters ['api.CtTask', '[]int'], results ['[]int', 'api.Errno'] -/
def C_cut_Next : AC :=
 (.seq (.reg [⟨some 2, none, .pbox 11 (.t 0)⟩,
 ⟨some 4, none, .mv (.c (.slice 1 []))⟩,
 ⟨some 5, none, .mv (.c (.int .i64 0))⟩] [1, 2])
 (.seq (.reg [⟨some 11, none, .load (some 11) (.t 2)⟩,
 ⟨some 12, none, .mv (.t 1)⟩,
 ⟨some 13, none, .call (.f 59) [true, true] [(.t 11), (.t 12)]⟩,
 ⟨some 10, none, .mv (.t 13)⟩,
 ⟨some 14, none, .extract (.t 10) 0⟩,
 ⟨some 15, none, .extract (.t 10) 1⟩,
 ⟨some 16, none, .extract (.t 10) 2⟩,
 ⟨some 6, none, .mv (.t 14)⟩,
 ⟨some 7, none, .mv (.t 15)⟩,
 ⟨some 8, none, .mv (.t 16)⟩] [6, 7, 8])
 (.seq (.seq (.reg [⟨some 17, none, .mv (.t 8)⟩,
 ⟨some 18, none, .bin .neq (.t 17) (.c (.int .i64 0))⟩] [6, 7, 8, 18])
 (.cond (.t 18)
 (.seq (.reg [⟨some 19, none, .mv (.t 8)⟩,
 ⟨some 4, none, .mv (.c (.slice 1 []))⟩,
 ⟨some 5, none, .mv (.t 19)⟩] [4, 5])
 .ret)
 .skip))
 (.seq (.reg [⟨some 20, none, .mv (.t 6)⟩,
 ⟨some 21, none, .call (.f 64) [false] [(.t 20)]⟩,
 ⟨some 9, none, .alloc [.nilfunc]⟩,
 ⟨none, none, .store 1 (.t 9) (.t 21)⟩] [6, 7, 9])
 (.frz 9 false (.seq (.reg [⟨some 22, none, .mv (.t 6)⟩,
 ⟨some 23, none, .mv (.t 7)⟩,
 ⟨some 24, none, .call (.f 61) [false, false] [(.t 22), (.t 23)]⟩,
 ⟨some 25, none, .mkfunc (.func 65) [] [(.t 9)]⟩,
 ⟨some 26, none, .call (.f 60) [false, false] [(.t 24), (.t 25)]⟩,
 ⟨some 4, none, .mvd (.t 26)⟩,
 ⟨some 5, none, .mv (.c (.int .i64 0))⟩] [4, 5])
 .ret))))))
abbrev R_cut_Next : List (Nat × Option (Option Nat)) := [(4, none), (5, none)]
theorem K_cut_Next : chkF Tryz.prog Tryz.f21 27 C_cut_Next R_cut_Next = true := by kernel_rfl
theorem spec_cut_Next {args : List AVal} {σ : AHeap} {R : ARes → AHeap → Prop} (ha : args.length ≤ 27) (h : AW Tryz.prog 27 none C_cut_Next (bodyQ R_cut_Next R) { v := argEnv args 0, ds := [] } σ) : Spec Tryz.prog F_cut_Next args σ R := Spec.of_fn Tryz.func21 K_cut_Next ha h
theorem B_cut_Next : hasBody Tryz.prog F_cut_Next = true := by kernel_rfl
theorem E_cut_Next : EntOk Tryz.prog ⟨21, 27, C_cut_Next, R_cut_Next, 0⟩ := ⟨fun _ => ⟨B_cut_Next, _, Tryz.func21, K_cut_Next⟩, fun h => by cases h⟩

abbrev F_l06_Awake : FuncId := 23
/-- orlop/orloplaw06.Awake: parameters [], results ['bool'] -/
def C_l06_Awake : AC :=
 (.seq (.reg [⟨some 0, none, .mv (.c (.bool false))⟩] [])
 (.seq (.reg [⟨some 28, none, .call (.f 34) [false, false] [(.c (.bool false)), (.c (.bool false))]⟩,
 ⟨some 29, none, .call (.f 34) [false, false] [(.c (.bool true)), (.c (.bool false))]⟩,
 ⟨some 30, none, .call (.f 34) [false, false] [(.c (.bool false)), (.c (.bool true))]⟩,
 ⟨some 1, none, .alloc [.slice 7 [], .slice 7 [], .int .i64 0, .int .i64 0, .int .i64 0, .int .i64 0, .slice 2 [], .slice 3 [], .slice 1 [], .slice 2 [], .slice 1 []]⟩,
 ⟨some 2, none, .alloc [.slice 7 [], .slice 7 [], .int .i64 0, .int .i64 0, .int .i64 0, .int .i64 0, .slice 2 [], .slice 3 [], .slice 1 [], .slice 2 [], .slice 1 []]⟩,
 ⟨some 3, none, .alloc [.slice 7 [], .slice 7 [], .int .i64 0, .int .i64 0, .int .i64 0, .int .i64 0, .slice 2 [], .slice 3 [], .slice 1 [], .slice 2 [], .slice 1 []]⟩,
 ⟨none, none, .store 11 (.t 1) (.t 28)⟩,
 ⟨none, none, .store 11 (.t 2) (.t 29)⟩,
 ⟨none, none, .store 11 (.t 3) (.t 30)⟩] [1, 2, 3])
 (.frz 3 true (.frz 2 true (.frz 1 true (.seq (.reg [⟨some 32, none, .load (some 11) (.t 1)⟩,
 ⟨some 33, none, .lit 0 1 2 [(0, (.c (.int .i64 0))), (1, (.c (.int .i64 1)))]⟩,
 ⟨some 34, none, .call (.f 16) [true, true] [(.t 32), (.t 33)]⟩,
 ⟨some 31, none, .mv (.t 34)⟩,
 ⟨some 35, none, .extract (.t 31) 0⟩,
 ⟨some 36, none, .extract (.t 31) 1⟩,
 ⟨some 37, none, .extract (.t 31) 2⟩,
 ⟨some 4, none, .mv (.t 35)⟩,
 ⟨some 5, none, .mv (.t 36)⟩,
 ⟨some 6, none, .mv (.t 37)⟩] [1, 2, 3, 4, 5, 6])
 (.seq (.reg [⟨some 39, none, .load (some 11) (.t 3)⟩,
 ⟨some 40, none, .lit 0 1 2 [(0, (.c (.int .i64 0))), (1, (.c (.int .i64 2)))]⟩,
 ⟨some 41, none, .call (.f 16) [true, true] [(.t 39), (.t 40)]⟩,
 ⟨some 38, none, .mv (.t 41)⟩,
 ⟨some 42, none, .extract (.t 38) 0⟩,
 ⟨some 43, none, .extract (.t 38) 1⟩,
 ⟨some 44, none, .extract (.t 38) 2⟩,
 ⟨some 7, none, .mv (.t 42)⟩,
 ⟨some 8, none, .mv (.t 43)⟩,
 ⟨some 9, none, .mv (.t 44)⟩] [1, 2, 3, 4, 5, 6, 7, 8, 9])
 (.seq (.reg [⟨some 46, none, .load (some 11) (.t 1)⟩,
 ⟨some 47, none, .call (.f 18) [true, true] [(.t 46), (.c (.slice 1 []))]⟩,
 ⟨some 45, none, .mv (.t 47)⟩,
 ⟨some 48, none, .extract (.t 45) 0⟩,
 ⟨some 49, none, .extract (.t 45) 1⟩,
 ⟨some 10, none, .mv (.t 48)⟩,
 ⟨some 11, none, .mv (.t 49)⟩] [1, 2, 3, 4, 5, 6, 7, 8, 9, 10, 11])
 (.seq (.reg [⟨some 51, none, .load (some 11) (.t 1)⟩,
 ⟨some 52, none, .call (.f 21) [true, true] [(.t 51), (.c (.slice 1 []))]⟩,
 ⟨some 50, none, .mv (.t 52)⟩,
 ⟨some 53, none, .extract (.t 50) 0⟩,
 ⟨some 54, none, .extract (.t 50) 1⟩,
 ⟨some 12, none, .mv (.t 53)⟩,
 ⟨some 13, none, .mv (.t 54)⟩] [1, 2, 3, 4, 5, 6, 7, 8, 9, 10, 11, 12, 13])
 (.seq (.reg [⟨some 56, none, .load (some 11) (.t 1)⟩,
 ⟨some 57, none, .call (.f 24) [true] [(.t 56)]⟩,
 ⟨some 55, none, .mv (.t 57)⟩,
 ⟨some 58, none, .extract (.t 55) 0⟩,
 ⟨some 59, none, .extract (.t 55) 1⟩,
 ⟨some 14, none, .mv (.t 58)⟩,
 ⟨some 15, none, .mv (.t 59)⟩] [1, 2, 3, 4, 5, 6, 7, 8, 9, 10, 11, 12, 13, 14, 15])
 (.seq (.reg [⟨some 61, none, .load (some 11) (.t 2)⟩,
 ⟨some 62, none, .call (.f 24) [true] [(.t 61)]⟩,
 ⟨some 60, none, .mv (.t 62)⟩,
 ⟨some 63, none, .extract (.t 60) 0⟩,
 ⟨some 64, none, .extract (.t 60) 1⟩,
 ⟨some 16, none, .mv (.t 63)⟩,
 ⟨some 17, none, .mv (.t 64)⟩] [1, 2, 3, 4, 5, 6, 7, 8, 9, 10, 11, 12, 13, 14, 15, 17])
 (.seq (.reg [⟨some 66, none, .load (some 11) (.t 2)⟩,
 ⟨some 67, none, .call (.f 26) [true] [(.t 66)]⟩,
 ⟨some 65, none, .mv (.t 67)⟩,
 ⟨some 68, none, .extract (.t 65) 0⟩,
 ⟨some 69, none, .extract (.t 65) 1⟩,
 ⟨some 18, none, .mv (.t 68)⟩,
 ⟨some 19, none, .mv (.t 69)⟩] [1, 3, 4, 5, 6, 7, 8, 9, 10, 11, 12, 13, 14, 15, 17, 18, 19])
 (.seq (.reg [⟨some 71, none, .load (some 11) (.t 1)⟩,
 ⟨some 72, none, .call (.f 28) [true, false] [(.t 71), (.c (.int .i64 2))]⟩,
 ⟨some 70, none, .mv (.t 72)⟩,
 ⟨some 73, none, .extract (.t 70) 0⟩,
 ⟨some 74, none, .extract (.t 70) 1⟩,
 ⟨some 20, none, .mv (.t 73)⟩,
 ⟨some 21, none, .mv (.t 74)⟩] [3, 4, 5, 6, 7, 8, 9, 10, 11, 12, 13, 14, 15, 17, 18, 19, 20, 21])
 (.seq (.reg [⟨some 76, none, .load (some 11) (.t 3)⟩,
 ⟨some 77, none, .call (.f 30) [true] [(.t 76)]⟩,
 ⟨some 75, none, .mv (.t 77)⟩,
 ⟨some 78, none, .extract (.t 75) 0⟩,
 ⟨some 79, none, .extract (.t 75) 1⟩,
 ⟨some 22, none, .mv (.t 78)⟩,
 ⟨some 23, none, .mv (.t 79)⟩] [3, 4, 5, 6, 7, 8, 9, 10, 11, 12, 13, 14, 15, 17, 18, 19, 20, 21, 22, 23])
 (.seq (.reg [⟨some 81, none, .load (some 11) (.t 3)⟩,
 ⟨some 82, none, .lit 0 1 3 [(0, (.c (.int .i64 7))), (1, (.c (.int .i64 6))), (2, (.c (.int .i64 5)))]⟩,
 ⟨some 83, none, .call (.f 32) [true, true] [(.t 81), (.t 82)]⟩,
 ⟨some 80, none, .mv (.t 83)⟩,
 ⟨some 84, none, .extract (.t 80) 0⟩,
 ⟨some 85, none, .extract (.t 80) 1⟩,
 ⟨some 24, none, .mv (.t 84)⟩,
 ⟨some 25, none, .mv (.t 85)⟩] [3, 4, 5, 6, 7, 8, 9, 10, 11, 12, 13, 14, 15, 17, 18, 19, 20, 21, 22, 23, 24, 25])
 (.seq (.reg [⟨some 87, none, .load (some 11) (.t 3)⟩,
 ⟨some 88, none, .lit 0 1 2 [(0, (.c (.int .i64 7))), (1, (.c (.int .i64 6)))]⟩,
 ⟨some 89, none, .call (.f 32) [true, true] [(.t 87), (.t 88)]⟩,
 ⟨some 86, none, .mv (.t 89)⟩,
 ⟨some 90, none, .extract (.t 86) 0⟩,
 ⟨some 91, none, .extract (.t 86) 1⟩,
 ⟨some 26, none, .mv (.t 90)⟩,
 ⟨some 27, none, .mv (.t 91)⟩] [4, 5, 6, 7, 8, 9, 10, 11, 12, 13, 14, 15, 17, 18, 19, 20, 21, 22, 23, 24, 25, 26, 27])
 (.seq (.reg [⟨some 92, none, .mv (.t 6)⟩,
 ⟨some 93, none, .bin .eql (.t 92) (.c (.int .i64 0))⟩,
 ⟨some 94, none, .mv (.t 93)⟩,
 ⟨some 95, (some (94, true)), .mv (.t 9)⟩,
 ⟨some 96, (some (94, true)), .bin .eql (.t 95) (.c (.int .i64 0))⟩,
 ⟨some 97, none, .pick (.t 94) (.t 96) (.c (.bool false))⟩,
 ⟨some 98, none, .mv (.t 97)⟩,
 ⟨some 99, (some (98, true)), .mv (.t 11)⟩,
 ⟨some 100, (some (98, true)), .bin .eql (.t 99) (.c (.int .i64 0))⟩,
 ⟨some 101, none, .pick (.t 98) (.t 100) (.c (.bool false))⟩,
 ⟨some 102, none, .mv (.t 101)⟩,
 ⟨some 103, (some (102, true)), .mv (.t 13)⟩,
 ⟨some 104, (some (102, true)), .bin .eql (.t 103) (.c (.int .i64 0))⟩,
 ⟨some 105, none, .pick (.t 102) (.t 104) (.c (.bool false))⟩,
 ⟨some 106, none, .mv (.t 105)⟩,
 ⟨some 107, (some (106, true)), .mv (.t 15)⟩,
 ⟨some 108, (some (106, true)), .bin .eql (.t 107) (.c (.int .i64 0))⟩,
 ⟨some 109, none, .pick (.t 106) (.t 108) (.c (.bool false))⟩,
 ⟨some 110, none, .mv (.t 109)⟩,
 ⟨some 111, (some (110, true)), .mv (.t 19)⟩,
 ⟨some 112, (some (110, true)), .bin .eql (.t 111) (.c (.int .i64 0))⟩,
 ⟨some 113, none, .pick (.t 110) (.t 112) (.c (.bool false))⟩,
 ⟨some 114, none, .mv (.t 113)⟩,
 ⟨some 115, (some (114, true)), .mv (.t 21)⟩,
 ⟨some 116, (some (114, true)), .bin .eql (.t 115) (.c (.int .i64 0))⟩,
 ⟨some 117, none, .pick (.t 114) (.t 116) (.c (.bool false))⟩,
 ⟨some 118, none, .mv (.t 117)⟩,
 ⟨some 119, (some (118, true)), .mv (.t 23)⟩,
 ⟨some 120, (some (118, true)), .bin .eql (.t 119) (.c (.int .i64 0))⟩,
 ⟨some 121, none, .pick (.t 118) (.t 120) (.c (.bool false))⟩,
 ⟨some 122, none, .mv (.t 121)⟩,
 ⟨some 123, (some (122, true)), .mv (.t 25)⟩,
 ⟨some 124, (some (122, true)), .bin .eql (.t 123) (.c (.int .i64 0))⟩,
 ⟨some 125, none, .pick (.t 122) (.t 124) (.c (.bool false))⟩,
 ⟨some 126, none, .mv (.t 125)⟩,
 ⟨some 127, (some (126, true)), .mv (.t 27)⟩,
 ⟨some 128, (some (126, true)), .bin .eql (.t 127) (.c (.int .i64 0))⟩,
 ⟨some 129, none, .pick (.t 126) (.t 128) (.c (.bool false))⟩,
 ⟨some 130, none, .mv (.t 129)⟩,
 ⟨some 131, (some (130, true)), .mv (.t 17)⟩,
 ⟨some 132, (some (130, true)), .bin .eql (.t 131) (.c (.int .i64 9))⟩,
 ⟨some 133, none, .pick (.t 130) (.t 132) (.c (.bool false))⟩,
 ⟨some 134, none, .mv (.t 133)⟩,
 ⟨some 135, (some (134, true)), .mv (.t 4)⟩,
 ⟨some 136, (some (134, true)), .bin .eql (.t 135) (.c (.int .i64 1))⟩,
 ⟨some 137, none, .pick (.t 134) (.t 136) (.c (.bool false))⟩,
 ⟨some 138, none, .mv (.t 137)⟩,
 ⟨some 139, (some (138, true)), .mv (.t 5)⟩,
 ⟨some 140, (some (138, true)), .bin .eql (.t 139) (.c (.int .i64 4))⟩,
 ⟨some 141, none, .pick (.t 138) (.t 140) (.c (.bool false))⟩,
 ⟨some 142, none, .mv (.t 141)⟩,
 ⟨some 143, (some (142, true)), .mv (.t 7)⟩,
 ⟨some 144, (some (142, true)), .bin .eql (.t 143) (.c (.int .i64 1))⟩,
 ⟨some 145, none, .pick (.t 142) (.t 144) (.c (.bool false))⟩,
 ⟨some 146, none, .mv (.t 145)⟩,
 ⟨some 147, (some (146, true)), .mv (.t 8)⟩,
 ⟨some 148, (some (146, true)), .bin .eql (.t 147) (.c (.int .i64 3))⟩,
 ⟨some 149, none, .pick (.t 146) (.t 148) (.c (.bool false))⟩,
 ⟨some 150, none, .mv (.t 149)⟩,
 ⟨some 151, (some (150, true)), .mv (.t 10)⟩,
 ⟨some 152, (some (150, true)), .lit 0 1 2 [(0, (.c (.int .i64 0))), (1, (.c (.int .i64 1)))]⟩,
 ⟨some 153, (some (150, true)), .call (.f 20) [true, true] [(.t 151), (.t 152)]⟩,
 ⟨some 154, none, .pick (.t 150) (.t 153) (.c (.bool false))⟩,
 ⟨some 155, none, .mv (.t 154)⟩,
 ⟨some 156, (some (155, true)), .mv (.t 12)⟩,
 ⟨some 157, (some (155, true)), .lit 0 1 1 [(0, (.c (.int .i64 0)))]⟩,
 ⟨some 158, (some (155, true)), .call (.f 20) [true, true] [(.t 156), (.t 157)]⟩,
 ⟨some 159, none, .pick (.t 155) (.t 158) (.c (.bool false))⟩,
 ⟨some 160, none, .mv (.t 159)⟩,
 ⟨some 161, (some (160, true)), .mv (.t 14)⟩,
 ⟨some 162, (some (160, true)), .lit 0 1 3 [(0, (.c (.int .i64 0))), (1, (.c (.int .i64 2))), (2, (.c (.int .i64 1)))]⟩,
 ⟨some 163, (some (160, true)), .call (.f 20) [true, true] [(.t 161), (.t 162)]⟩,
 ⟨some 164, none, .pick (.t 160) (.t 163) (.c (.bool false))⟩,
 ⟨some 165, none, .mv (.t 164)⟩,
 ⟨some 166, (some (165, true)), .mv (.t 18)⟩,
 ⟨some 167, (some (165, true)), .lit 0 1 1 [(0, (.c (.int .i64 1)))]⟩,
 ⟨some 168, (some (165, true)), .call (.f 20) [true, true] [(.t 166), (.t 167)]⟩,
 ⟨some 169, none, .pick (.t 165) (.t 168) (.c (.bool false))⟩,
 ⟨some 170, none, .mv (.t 169)⟩,
 ⟨some 171, (some (170, true)), .mv (.t 20)⟩,
 ⟨some 172, (some (170, true)), .lit 0 1 2 [(0, (.c (.int .i64 0))), (1, (.c (.int .i64 2)))]⟩,
 ⟨some 173, (some (170, true)), .call (.f 20) [true, true] [(.t 171), (.t 172)]⟩,
 ⟨some 174, none, .pick (.t 170) (.t 173) (.c (.bool false))⟩,
 ⟨some 175, none, .mv (.t 174)⟩,
 ⟨some 176, (some (175, true)), .mv (.t 22)⟩,
 ⟨some 177, (some (175, true)), .lit 0 1 3 [(0, (.c (.int .i64 5))), (1, (.c (.int .i64 6))), (2, (.c (.int .i64 7)))]⟩,
 ⟨some 178, (some (175, true)), .call (.f 20) [true, true] [(.t 176), (.t 177)]⟩,
 ⟨some 179, none, .pick (.t 175) (.t 178) (.c (.bool false))⟩,
 ⟨some 180, none, .mv (.t 179)⟩,
 ⟨some 181, (some (180, true)), .mv (.t 24)⟩,
 ⟨some 182, none, .pick (.t 180) (.t 181) (.c (.bool false))⟩,
 ⟨some 183, none, .mv (.t 182)⟩,
 ⟨some 184, (some (183, true)), .mv (.t 26)⟩,
 ⟨some 185, (some (183, true)), .un .not (.t 184)⟩,
 ⟨some 186, none, .pick (.t 183) (.t 185) (.c (.bool false))⟩,
 ⟨some 0, none, .mv (.t 186)⟩] [0])
 .ret)))))))))))))))))
abbrev R_l06_Awake : List (Nat × Option (Option Nat)) := [(0, none)]
theorem K_l06_Awake : chkF Tryz.prog Tryz.f23 187 C_l06_Awake R_l06_Awake = true := by kernel_rfl
theorem spec_l06_Awake {args : List AVal} {σ : AHeap} {R : ARes → AHeap → Prop} (ha : args.length ≤ 187) (h : AW Tryz.prog 187 none C_l06_Awake (bodyQ R_l06_Awake R) { v := argEnv args 0, ds := [] } σ) : Spec Tryz.prog F_l06_Awake args σ R := Spec.of_fn Tryz.func23 K_l06_Awake ha h
theorem B_l06_Awake : hasBody Tryz.prog F_l06_Awake = true := by kernel_rfl
theorem E_l06_Awake : EntOk Tryz.prog ⟨23, 187, C_l06_Awake, R_l06_Awake, 0⟩ := ⟨fun _ => ⟨B_l06_Awake, _, Tryz.func23, K_l06_Awake⟩, fun h => by cases h⟩

abbrev F_cut_First : FuncId := 24
/-- orlop/cut.First: parameters ['api.CtTask'], results ['[]int', 'api.Errno'] -/
def C_cut_First : AC :=
 (.seq (.reg [⟨some 1, none, .pbox 11 (.t 0)⟩,
 ⟨some 2, none, .mv (.c (.slice 1 []))⟩,
 ⟨some 3, none, .mv (.c (.int .i64 0))⟩] [1])
 (.seq (.reg [⟨some 8, none, .load (some 11) (.t 1)⟩,
 ⟨some 9, none, .call (.f 69) [true] [(.t 8)]⟩,
 ⟨some 7, none, .mv (.t 9)⟩,
 ⟨some 10, none, .extract (.t 7) 0⟩,
 ⟨some 11, none, .extract (.t 7) 1⟩,
 ⟨some 4, none, .mv (.t 10)⟩,
 ⟨some 5, none, .mv (.t 11)⟩] [4, 5])
 (.seq (.seq (.reg [⟨some 12, none, .mv (.t 5)⟩,
 ⟨some 13, none, .bin .neq (.t 12) (.c (.int .i64 0))⟩] [4, 5, 13])
 (.cond (.t 13)
 (.seq (.reg [⟨some 14, none, .mv (.t 5)⟩,
 ⟨some 2, none, .mv (.c (.slice 1 []))⟩,
 ⟨some 3, none, .mv (.t 14)⟩] [2, 3])
 .ret)
 .skip))
 (.seq (.reg [⟨some 15, none, .mv (.t 4)⟩,
 ⟨some 16, none, .call (.f 70) [false] [(.t 15)]⟩,
 ⟨some 6, none, .mv (.t 16)⟩] [4, 6])
 (.seq (.seq (.reg [⟨some 17, none, .mv (.t 6)⟩,
 ⟨some 18, none, .len (.t 17)⟩,
 ⟨some 19, none, .mv (.t 4)⟩,
 ⟨some 20, none, .nilchk (.t 19)⟩,
 ⟨some 21, none, .fieldAddr none 11 (.t 20)⟩,
 ⟨some 22, none, .load none (.t 21)⟩,
 ⟨some 23, none, .len (.t 22)⟩,
 ⟨some 24, none, .bin .lss (.t 18) (.t 23)⟩] [6, 24])
 (.cond (.t 24)
 (.seq (.reg [⟨some 2, none, .mv (.c (.slice 1 []))⟩,
 ⟨some 3, none, .mv (.c (.int .i64 9))⟩] [2, 3])
 .ret)
 .skip))
 (.seq (.reg [⟨some 25, none, .mv (.t 6)⟩,
 ⟨some 2, none, .mvd (.t 25)⟩,
 ⟨some 3, none, .mv (.c (.int .i64 0))⟩] [2, 3])
 .ret))))))
abbrev R_cut_First : List (Nat × Option (Option Nat)) := [(2, none), (3, none)]
theorem K_cut_First : chkF Tryz.prog Tryz.f24 26 C_cut_First R_cut_First = true := by kernel_rfl
theorem spec_cut_First {args : List AVal} {σ : AHeap} {R : ARes → AHeap → Prop} (ha : args.length ≤ 26) (h : AW Tryz.prog 26 none C_cut_First (bodyQ R_cut_First R) { v := argEnv args 0, ds := [] } σ) : Spec Tryz.prog F_cut_First args σ R := Spec.of_fn Tryz.func24 K_cut_First ha h
theorem B_cut_First : hasBody Tryz.prog F_cut_First = true := by kernel_rfl
theorem E_cut_First : EntOk Tryz.prog ⟨24, 26, C_cut_First, R_cut_First, 0⟩ := ⟨fun _ => ⟨B_cut_First, _, Tryz.func24, K_cut_First⟩, fun h => by cases h⟩

abbrev F_cut_Most : FuncId := 26
/-- orlop/cut.Most: parameters ['api.CtTask'], results ['[]int', 'api.Errno'] -/
def C_cut_Most : AC :=
 (.seq (.reg [⟨some 1, none, .pbox 11 (.t 0)⟩,
 ⟨some 2, none, .mv (.c (.slice 1 []))⟩,
 ⟨some 3, none, .mv (.c (.int .i64 0))⟩] [1])
 (.seq (.reg [⟨some 7, none, .load (some 11) (.t 1)⟩,
 ⟨some 8, none, .call (.f 69) [true] [(.t 7)]⟩,
 ⟨some 6, none, .mv (.t 8)⟩,
 ⟨some 9, none, .extract (.t 6) 0⟩,
 ⟨some 10, none, .extract (.t 6) 1⟩,
 ⟨some 4, none, .mv (.t 9)⟩,
 ⟨some 5, none, .mv (.t 10)⟩] [4, 5])
 (.seq (.seq (.reg [⟨some 11, none, .mv (.t 5)⟩,
 ⟨some 12, none, .bin .neq (.t 11) (.c (.int .i64 0))⟩] [4, 5, 12])
 (.cond (.t 12)
 (.seq (.reg [⟨some 13, none, .mv (.t 5)⟩,
 ⟨some 2, none, .mv (.c (.slice 1 []))⟩,
 ⟨some 3, none, .mv (.t 13)⟩] [2, 3])
 .ret)
 .skip))
 (.seq (.reg [⟨some 14, none, .mv (.t 4)⟩,
 ⟨some 15, none, .call (.f 70) [false] [(.t 14)]⟩,
 ⟨some 2, none, .mvd (.t 15)⟩,
 ⟨some 3, none, .mv (.c (.int .i64 0))⟩] [2, 3])
 .ret))))
abbrev R_cut_Most : List (Nat × Option (Option Nat)) := [(2, none), (3, none)]
theorem K_cut_Most : chkF Tryz.prog Tryz.f26 16 C_cut_Most R_cut_Most = true := by kernel_rfl
theorem spec_cut_Most {args : List AVal} {σ : AHeap} {R : ARes → AHeap → Prop} (ha : args.length ≤ 16) (h : AW Tryz.prog 16 none C_cut_Most (bodyQ R_cut_Most R) { v := argEnv args 0, ds := [] } σ) : Spec Tryz.prog F_cut_Most args σ R := Spec.of_fn Tryz.func26 K_cut_Most ha h
theorem B_cut_Most : hasBody Tryz.prog F_cut_Most = true := by kernel_rfl
theorem E_cut_Most : EntOk Tryz.prog ⟨26, 16, C_cut_Most, R_cut_Most, 0⟩ := ⟨fun _ => ⟨B_cut_Most, _, Tryz.func26, K_cut_Most⟩, fun h => by cases h⟩

abbrev F_cut_To : FuncId := 28
/-- orlop/cut.To: parameters ['api.CtTask', 'int'], results ['[]int', 'api.Errno'] -/
def C_cut_To : AC :=
 (.seq (.reg [⟨some 2, none, .pbox 11 (.t 0)⟩,
 ⟨some 3, none, .pbox 1 (.t 1)⟩,
 ⟨some 4, none, .alloc [.slice 1 []]⟩,
 ⟨some 5, none, .alloc [.int .i64 0]⟩] [2, 3, 4, 5])
 (.seq (.reg [⟨some 10, none, .load (some 11) (.t 2)⟩,
 ⟨some 11, none, .load none (.t 3)⟩,
 ⟨some 12, none, .lit 0 1 1 [(0, (.t 11))]⟩,
 ⟨some 13, none, .call (.f 55) [true, true] [(.t 10), (.t 12)]⟩,
 ⟨some 9, none, .mv (.t 13)⟩,
 ⟨some 14, none, .extract (.t 9) 0⟩,
 ⟨some 15, none, .extract (.t 9) 1⟩,
 ⟨some 6, none, .alloc [.nilptr]⟩,
 ⟨none, none, .store 1 (.t 6) (.t 14)⟩,
 ⟨some 7, none, .mv (.t 15)⟩] [3, 4, 5, 6, 7])
 (.frz 6 false (.seq (.seq (.reg [⟨some 16, none, .mv (.t 7)⟩,
 ⟨some 17, none, .bin .neq (.t 16) (.c (.int .i64 0))⟩] [3, 4, 5, 6, 7, 17])
 (.cond (.t 17)
 (.seq (.reg [⟨some 18, none, .mv (.t 7)⟩,
 ⟨none, none, .store 1 (.t 4) (.c (.slice 1 []))⟩,
 ⟨none, none, .store 1 (.t 5) (.t 18)⟩] [4, 5])
 .ret)
 .skip))
 (.seq (.seq (.reg [⟨some 19, none, .load none (.t 6)⟩,
 ⟨some 20, none, .call (.f 72) [false] [(.t 19)]⟩] [3, 4, 5, 6, 20])
 (.block 0
 (.rangeF (.t 20) [21] (.reg [⟨some 8, none, .alloc [.int .i64 0, .slice 1 []]⟩,
 ⟨none, none, .store 2 (.t 8) (.t 21)⟩] [3, 4, 5, 6, 8])
 (.block 1
 (.seq (.reg [⟨some 22, none, .load none (.t 6)⟩,
 ⟨some 23, none, .fieldAddr none 0 (.t 8)⟩,
 ⟨some 24, none, .load none (.t 23)⟩,
 ⟨some 25, none, .load none (.t 3)⟩,
 ⟨some 26, none, .call (.f 73) [false, false, false] [(.t 22), (.t 24), (.t 25)]⟩,
 ⟨some 27, none, .bin .eql (.t 26) (.c (.int .i64 0))⟩] [3, 4, 5, 8, 27])
 (.cond (.t 27)
 (.seq (.dreg [⟨some 28, none, .fieldAddr none 1 (.t 8)⟩,
 ⟨some 29, none, .load none (.t 28)⟩,
 ⟨some 30, none, .callA 1 (.f 74) [true] [(.t 29)]⟩,
 ⟨some 31, none, .load none (.t 3)⟩,
 ⟨some 32, none, .lit 0 1 1 [(0, (.t 31))]⟩,
 ⟨some 33, none, .append 1 8 (.t 30) (.t 32)⟩,
 ⟨none, none, .store 1 (.t 4) (.t 33)⟩,
 ⟨none, none, .store 1 (.t 5) (.c (.int .i64 0))⟩] [4, 5] [[], [0], [0, 1], [], [3], [0, 1, 2, 3, 4], [0, 1, 2, 3, 4, 5], [0, 1, 2, 3, 4, 5, 6]])
 (.frzc 4 0 1 .ret))
 .skip))))))
 (.seq (.reg [⟨none, none, .store 1 (.t 4) (.c (.slice 1 []))⟩,
 ⟨none, none, .store 1 (.t 5) (.c (.int .i64 9))⟩] [4, 5])
 .ret))))))
abbrev R_cut_To : List (Nat × Option (Option Nat)) := [(4, some none), (5, some none)]
theorem K_cut_To : chkF Tryz.prog Tryz.f28 34 C_cut_To R_cut_To = true := by kernel_rfl
theorem spec_cut_To {args : List AVal} {σ : AHeap} {R : ARes → AHeap → Prop} (ha : args.length ≤ 34) (h : AW Tryz.prog 34 none C_cut_To (bodyQ R_cut_To R) { v := argEnv args 0, ds := [] } σ) : Spec Tryz.prog F_cut_To args σ R := Spec.of_fn Tryz.func28 K_cut_To ha h
theorem B_cut_To : hasBody Tryz.prog F_cut_To = true := by kernel_rfl
theorem E_cut_To : EntOk Tryz.prog ⟨28, 34, C_cut_To, R_cut_To, 0⟩ := ⟨fun _ => ⟨B_cut_To, _, Tryz.func28, K_cut_To⟩, fun h => by cases h⟩

abbrev F_cut_Proof : FuncId := 30
/-- orlop/cut.Proof: parameters ['api.CtTask'], results ['[]int', 'api.Errno'] -/
def C_cut_Proof : AC :=
 (.seq (.reg [⟨some 1, none, .pbox 11 (.t 0)⟩,
 ⟨some 2, none, .alloc [.mint 1001]⟩,
 ⟨some 3, none, .alloc [.int .i64 0]⟩] [1, 2, 3])
 (.seq (.reg [⟨some 7, none, .load (some 11) (.t 1)⟩,
 ⟨some 8, none, .call (.f 69) [true] [(.t 7)]⟩,
 ⟨some 6, none, .mv (.t 8)⟩,
 ⟨some 9, none, .extract (.t 6) 0⟩,
 ⟨some 10, none, .extract (.t 6) 1⟩,
 ⟨some 4, none, .mv (.t 9)⟩,
 ⟨none, none, .store 1 (.t 3) (.t 10)⟩] [2, 3, 4])
 (.seq (.seq (.reg [⟨some 11, none, .load none (.t 3)⟩,
 ⟨some 12, none, .bin .neq (.t 11) (.c (.int .i64 0))⟩] [2, 3, 4, 12])
 (.cond (.t 12)
 (.seq (.dreg [⟨some 13, none, .load none (.t 3)⟩,
 ⟨none, none, .store 1 (.t 2) (.c (.slice 1 []))⟩,
 ⟨none, none, .store 1 (.t 3) (.t 13)⟩] [2, 3] [[], [], [0, 1]])
 .ret)
 .skip))
 (.seq (.seq (.reg [⟨some 14, none, .mv (.t 4)⟩,
 ⟨some 15, none, .call (.f 72) [false] [(.t 14)]⟩] [2, 3, 15])
 (.block 0
 (.rangeF (.t 15) [16] (.reg [⟨some 5, none, .alloc [.int .i64 0, .slice 1 []]⟩,
 ⟨none, none, .store 2 (.t 5) (.t 16)⟩] [2, 3, 5])
 (.block 1
 (.seq (.seq (.reg [⟨some 17, none, .fieldAddr none 0 (.t 5)⟩,
 ⟨some 18, none, .load none (.t 17)⟩,
 ⟨some 19, none, .bin .eql (.t 18) (.c (.int .i64 0))⟩] [2, 3, 5, 19])
 (.cond (.t 19)
 (.seq (.reg [⟨none, none, .store 1 (.t 2) (.c (.slice 1 []))⟩,
 ⟨none, none, .store 1 (.t 3) (.c (.int .i64 9))⟩] [2, 3])
 .ret)
 .skip))
 (.reg [⟨some 20, none, .load none (.t 2)⟩,
 ⟨some 21, none, .fieldAddr none 0 (.t 5)⟩,
 ⟨some 22, none, .load none (.t 21)⟩,
 ⟨some 23, none, .lit 0 1 1 [(0, (.t 22))]⟩,
 ⟨some 24, none, .append 1 8 (.t 20) (.t 23)⟩,
 ⟨none, none, .store 1 (.t 2) (.t 24)⟩] []))))))
 (.seq (.reg [⟨some 25, none, .load none (.t 2)⟩,
 ⟨some 26, none, .call (.f 75) [true] [(.t 25)]⟩] [2, 3])
 (.frzc 2 0 1 (.seq (.reg [⟨some 27, none, .loadd none (.t 2)⟩,
 ⟨none, none, .store 1 (.t 2) (.t 27)⟩,
 ⟨none, none, .store 1 (.t 3) (.c (.int .i64 0))⟩] [2, 3])
 .ret)))))))
abbrev R_cut_Proof : List (Nat × Option (Option Nat)) := [(2, some none), (3, some none)]
theorem K_cut_Proof : chkF Tryz.prog Tryz.f30 28 C_cut_Proof R_cut_Proof = true := by kernel_rfl
theorem spec_cut_Proof {args : List AVal} {σ : AHeap} {R : ARes → AHeap → Prop} (ha : args.length ≤ 28) (h : AW Tryz.prog 28 none C_cut_Proof (bodyQ R_cut_Proof R) { v := argEnv args 0, ds := [] } σ) : Spec Tryz.prog F_cut_Proof args σ R := Spec.of_fn Tryz.func30 K_cut_Proof ha h
theorem B_cut_Proof : hasBody Tryz.prog F_cut_Proof = true := by kernel_rfl
theorem E_cut_Proof : EntOk Tryz.prog ⟨30, 28, C_cut_Proof, R_cut_Proof, 0⟩ := ⟨fun _ => ⟨B_cut_Proof, _, Tryz.func30, K_cut_Proof⟩, fun h => by cases h⟩

abbrev F_cut_Proves : FuncId := 32
/-- orlop/cut.Proves: parameters ['api.CtTask', '[]int'], results ['bool', 'api.Errno'] -/
def C_cut_Proves : AC :=
 (.seq (.reg [⟨some 2, none, .pbox 11 (.t 0)⟩,
 ⟨some 3, none, .pbox 1 (.t 1)⟩,
 ⟨some 4, none, .alloc [.bool false]⟩,
 ⟨some 5, none, .alloc [.int .i64 0]⟩] [2, 3, 4, 5])
 (.seq (.reg [⟨some 13, none, .load (some 11) (.t 2)⟩,
 ⟨some 14, none, .call (.f 69) [true] [(.t 13)]⟩,
 ⟨some 12, none, .mv (.t 14)⟩,
 ⟨some 15, none, .extract (.t 12) 0⟩,
 ⟨some 16, none, .extract (.t 12) 1⟩,
 ⟨some 6, none, .mv (.t 15)⟩,
 ⟨some 7, none, .mv (.t 16)⟩] [3, 4, 5, 6, 7])
 (.seq (.block 0
 (.seq (.reg [⟨some 18, none, .mv (.t 7)⟩,
 ⟨some 19, none, .bin .neq (.t 18) (.c (.int .i64 0))⟩,
 ⟨some 17, none, .mv (.t 19)⟩] [3, 4, 5, 6, 7, 17])
 (.cond (.t 17)
 (.seq (.reg [⟨some 20, none, .mv (.t 7)⟩,
 ⟨none, none, .store 1 (.t 4) (.c (.bool false))⟩,
 ⟨none, none, .store 1 (.t 5) (.t 20)⟩] [4, 5])
 .ret)
 (.seq (.qreg [⟨some 22, none, .mv (.t 6)⟩,
 ⟨some 23, none, .call (.f 77) [false] [(.t 22)]⟩,
 ⟨some 24, none, .bin .add (.t 23) (.c (.int .i64 1))⟩,
 ⟨some 25, none, .load none (.t 3)⟩,
 ⟨some 26, none, .call (.f 49) [false, true] [(.t 24), (.t 25)]⟩,
 ⟨some 21, none, .mv (.t 26)⟩] [3, 4, 5, 6, 21] [[], [0], [0, 1], [], [0, 1, 2, 3], [0, 1, 2, 3, 4]] [([0, 3], 1), ([2], 4)] [5])
 (.cond (.t 21)
 (.seq (.reg [⟨none, none, .store 1 (.t 4) (.c (.bool false))⟩,
 ⟨none, none, .store 1 (.t 5) (.c (.int .i64 7))⟩] [4, 5])
 .ret)
 (.seq (.qreg [⟨some 28, none, .load none (.t 3)⟩,
 ⟨some 29, none, .mv (.t 6)⟩,
 ⟨some 30, none, .call (.f 77) [false] [(.t 29)]⟩,
 ⟨some 31, none, .call (.f 78) [true, false] [(.t 28), (.t 30)]⟩,
 ⟨some 32, none, .un .not (.t 31)⟩,
 ⟨some 33, none, .mv (.t 32)⟩,
 ⟨some 34, (some (33, false)), .load none (.t 3)⟩,
 ⟨some 35, (some (33, false)), .call (.f 78) [true, false] [(.t 34), (.c (.int .i64 0))]⟩,
 ⟨some 36, none, .pick (.t 33) (.c (.bool true)) (.t 35)⟩,
 ⟨some 27, none, .mv (.t 36)⟩] [3, 4, 5, 6, 27] [[], [], [1], [0, 1, 2], [0, 1, 2, 3], [0, 1, 2, 3, 4], [0, 1, 2, 3, 4, 5], [0, 1, 2, 3, 4, 5, 6], [0, 1, 2, 3, 4, 5, 6, 7], [0, 1, 2, 3, 4, 5, 6, 7, 8]] [([0, 1], 2), ([], 3), ([4, 5, 6], 7)] [8, 9])
 (.cond (.t 27)
 (.seq (.reg [⟨none, none, .store 1 (.t 4) (.c (.bool false))⟩,
 ⟨none, none, .store 1 (.t 5) (.c (.int .i64 0))⟩] [4, 5])
 .ret)
 .skip)))))))
 (.seq (.seq (.reg [⟨some 37, none, .load none (.t 3)⟩,
 ⟨some 38, none, .len (.t 37)⟩,
 ⟨some 39, none, .mv (.c (.int .i64 0))⟩] [3, 4, 5, 6, 37, 38, 39])
 (.block 1
 (.loop [3, 4, 5, 6, 37, 38, 39]
 (.seq (.reg [⟨some 40, none, .bin .lss (.t 39) (.t 38)⟩] [3, 4, 5, 6, 37, 38, 39, 40])
 (.seq (.cond (.t 40)
 .skip
 (.exit 1))
 (.seq (.block 2
 (.seq (.reg [⟨some 41, none, .ixS 1 (.t 37) (.t 39)⟩,
 ⟨some 42, none, .load none (.t 41)⟩,
 ⟨some 9, none, .mv (.t 42)⟩] [3, 4, 5, 6, 9, 37, 38, 39])
 (.seq (.reg [⟨some 43, none, .mv (.t 6)⟩,
 ⟨some 44, none, .mv (.t 9)⟩,
 ⟨some 45, none, .call (.f 61) [false, false] [(.t 43), (.t 44)]⟩] [3, 4, 5, 6, 37, 38, 39, 45])
 (.block 3
 (.rangeF (.t 45) [46, 47] (.reg [⟨some 11, none, .mv (.t 47)⟩] [3, 4, 5, 11])
 (.block 4
 (.seq (.reg [⟨some 48, none, .load none (.t 3)⟩,
 ⟨some 49, none, .mv (.t 11)⟩,
 ⟨some 50, none, .call (.f 78) [true, false] [(.t 48), (.t 49)]⟩,
 ⟨some 51, none, .un .not (.t 50)⟩] [4, 5, 51])
 (.cond (.t 51)
 (.seq (.reg [⟨none, none, .store 1 (.t 4) (.c (.bool false))⟩,
 ⟨none, none, .store 1 (.t 5) (.c (.int .i64 0))⟩] [4, 5])
 .ret)
 .skip))))))))
 (.reg [⟨some 52, none, .bin .add (.t 39) (.c (.int .i64 1))⟩,
 ⟨some 39, none, .mv (.t 52)⟩] [3, 4, 5, 6, 37, 38, 39])))))))
 (.seq (.reg [⟨none, none, .store 1 (.t 4) (.c (.bool true))⟩,
 ⟨none, none, .store 1 (.t 5) (.c (.int .i64 0))⟩] [4, 5])
 .ret)))))
abbrev R_cut_Proves : List (Nat × Option (Option Nat)) := [(4, some none), (5, some none)]
theorem K_cut_Proves : chkF Tryz.prog Tryz.f32 53 C_cut_Proves R_cut_Proves = true := by kernel_rfl
theorem spec_cut_Proves {args : List AVal} {σ : AHeap} {R : ARes → AHeap → Prop} (ha : args.length ≤ 53) (h : AW Tryz.prog 53 none C_cut_Proves (bodyQ R_cut_Proves R) { v := argEnv args 0, ds := [] } σ) : Spec Tryz.prog F_cut_Proves args σ R := Spec.of_fn Tryz.func32 K_cut_Proves ha h
theorem B_cut_Proves : hasBody Tryz.prog F_cut_Proves = true := by kernel_rfl
theorem E_cut_Proves : EntOk Tryz.prog ⟨32, 53, C_cut_Proves, R_cut_Proves, 0⟩ := ⟨fun _ => ⟨B_cut_Proves, _, Tryz.func32, K_cut_Proves⟩, fun h => by cases h⟩

abbrev F_l06_Task : FuncId := 34
/-- orlop/orloplaw06.Task: parameters ['bool', 'bool'], results ['api.CtTask'] -/
def C_l06_Task : AC :=
 (.seq (.reg [⟨some 4, none, .alloc [.slice 7 [], .slice 7 [], .int .i64 0, .int .i64 0, .int .i64 0, .int .i64 0, .slice 2 [], .slice 3 [], .slice 1 [], .slice 2 [], .slice 1 []]⟩] [0, 1, 4])
 (.seq (.reg [⟨some 5, none, .mv (.f 79)⟩] [0, 1, 4, 5])
 (.seq (.reg [⟨some 7, none, .mv (.t 5)⟩,
 ⟨some 8, none, .call (.t 7) [false, false, false, false] [(.c (.str ⟨#[98, 111, 119]⟩)), (.c (.int .i64 2)), (.c (.int .i64 0)), (.c (.int .i64 10))]⟩,
 ⟨some 9, none, .mv (.t 5)⟩,
 ⟨some 10, none, .call (.t 9) [false, false, false, false] [(.c (.str ⟨#[109, 105, 100]⟩)), (.c (.int .i64 1)), (.c (.int .i64 5)), (.c (.int .i64 30))]⟩,
 ⟨some 11, none, .mv (.t 5)⟩,
 ⟨some 12, none, .call (.t 11) [false, false, false, false] [(.c (.str ⟨#[115, 116, 101, 114, 110]⟩)), (.c (.int .i64 1)), (.c (.int .i64 25)), (.c (.int .i64 40))]⟩,
 ⟨some 13, none, .lit 2 7 3 [(0, (.t 8)), (1, (.t 10)), (2, (.t 12))]⟩,
 ⟨some 14, none, .build [.slice 7 []] [(0, 1, (.t 13))]⟩,
 ⟨some 15, none, .call (.f 81) [] []⟩,
 ⟨some 16, none, .call (.f 80) [false, false] [(.c (.int .i64 0)), (.c (.int .i64 60))]⟩,
 ⟨some 17, none, .call (.f 82) [false] [(.c (.bool false))]⟩,
 ⟨some 18, none, .lit 0 1 2 [(0, (.c (.int .i64 3))), (1, (.c (.int .i64 5)))]⟩,
 ⟨some 19, none, .build [.int .i64 0, .bool false] [(0, 1, (.c (.int .i64 3)))]⟩,
 ⟨some 20, none, .build [.int .i64 0, .bool false] [(0, 1, (.c (.int .i64 4)))]⟩,
 ⟨some 21, none, .build [.int .i64 0, .bool false] [(0, 1, (.c (.int .i64 3))), (1, 1, (.c (.bool true)))]⟩,
 ⟨some 22, none, .build [.int .i64 0, .bool false] [(0, 1, (.c (.int .i64 4))), (1, 1, (.c (.bool true)))]⟩,
 ⟨some 23, none, .lit 0 2 4 [(0, (.t 19)), (1, (.t 20)), (2, (.t 21)), (3, (.t 22))]⟩,
 ⟨some 24, none, .lit 0 1 2 [(0, (.c (.int .i64 3))), (1, (.c (.int .i64 4)))]⟩,
 ⟨some 25, none, .lit 2 1 3 [(0, (.c (.slice 1 []))), (1, (.t 24)), (2, (.c (.slice 1 [])))]⟩,
 ⟨some 26, none, .build [.slice 7 [], .slice 7 [], .int .i64 0, .int .i64 0, .int .i64 0, .int .i64 0, .slice 2 [], .slice 3 [], .slice 1 [], .slice 2 [], .slice 1 []] [(0, 1, (.t 14)), (1, 3, (.t 15)), (4, 2, (.t 16)), (6, 2, (.t 17)), (8, 1, (.t 18)), (9, 1, (.t 23)), (10, 1, (.t 25))]⟩,
 ⟨some 6, none, .alloc [.slice 7 [], .slice 7 [], .int .i64 0, .int .i64 0, .int .i64 0, .int .i64 0, .slice 2 [], .slice 3 [], .slice 1 [], .slice 2 [], .slice 1 []]⟩,
 ⟨none, none, .store 11 (.t 6) (.t 26)⟩] [0, 1, 4, 6])
 (.seq (.seq (.reg [⟨some 27, none, .mv (.t 0)⟩] [1, 4, 6, 27])
 (.cond (.t 27)
 (.reg [⟨some 28, none, .fieldAddr (some 1) 0 (.t 6)⟩,
 ⟨some 29, none, .fieldAddr none 0 (.t 28)⟩,
 ⟨some 30, none, .load none (.t 29)⟩,
 ⟨some 31, none, .lit 0 1 1 [(0, (.c (.str ⟨#[98, 111, 119]⟩)))]⟩,
 ⟨some 32, none, .ixS 7 (.t 30) (.c (.int .i64 1))⟩,
 ⟨some 33, none, .fieldAddr none 4 (.t 32)⟩,
 ⟨none, none, .store 1 (.t 33) (.t 31)⟩] [1, 4, 6])
 .skip))
 (.seq (.seq (.reg [⟨some 34, none, .mv (.t 1)⟩] [4, 6, 34])
 (.cond (.t 34)
 (.reg [⟨some 35, none, .fieldAddr none 10 (.t 6)⟩,
 ⟨some 36, none, .load none (.t 35)⟩,
 ⟨some 37, none, .lit 0 1 1 [(0, (.c (.int .i64 2)))]⟩,
 ⟨some 38, none, .ixS 1 (.t 36) (.c (.int .i64 2))⟩,
 ⟨none, none, .store 1 (.t 38) (.t 37)⟩] [4, 6])
 .skip))
 (.frzc 6 0 7 (.frzc 6 10 1 (.seq (.reg [⟨some 39, none, .loadd (some 11) (.t 6)⟩,
 ⟨none, none, .store 11 (.t 4) (.t 39)⟩] [4])
 .ret))))))))
abbrev R_l06_Task : List (Nat × Option (Option Nat)) := [(4, some (some 11))]
theorem K_l06_Task : chkF Tryz.prog Tryz.f34 40 C_l06_Task R_l06_Task = true := by kernel_rfl
theorem spec_l06_Task {args : List AVal} {σ : AHeap} {R : ARes → AHeap → Prop} (ha : args.length ≤ 40) (h : AW Tryz.prog 40 none C_l06_Task (bodyQ R_l06_Task R) { v := argEnv args 0, ds := [] } σ) : Spec Tryz.prog F_l06_Task args σ R := Spec.of_fn Tryz.func34 K_l06_Task ha h
theorem B_l06_Task : hasBody Tryz.prog F_l06_Task = true := by kernel_rfl
theorem E_l06_Task : EntOk Tryz.prog ⟨34, 40, C_l06_Task, R_l06_Task, 0⟩ := ⟨fun _ => ⟨B_l06_Task, _, Tryz.func34, K_l06_Task⟩, fun h => by cases h⟩

abbrev F_cut_Check_1 : FuncId := 43
/-- orlop/cut.Check$1: parameters [], results [] -/
def C_cut_Check_1 : AC :=
 (.seq (.reg [⟨some 6, none, .mv (.t 3)⟩,
 ⟨some 7, none, .isnil true (.t 6)⟩] [0, 1, 2, 3, 7])
 (.cond (.t 7)
 (.seq (.reg [⟨some 8, none, .mv (.t 3)⟩,
 ⟨some 9, none, .assert 81 (.t 8)⟩,
 ⟨some 4, none, .alloc [.int .i64 0, .int .i64 0, .int .i64 0]⟩,
 ⟨none, none, .store 3 (.t 4) (.t 9)⟩] [0, 1, 2, 4])
 (.frz 4 true (.dreg [⟨some 10, none, .fieldAddr none 0 (.t 4)⟩,
 ⟨some 11, none, .load none (.t 10)⟩,
 ⟨some 12, none, .fieldAddr none 1 (.t 4)⟩,
 ⟨some 13, none, .load none (.t 12)⟩,
 ⟨some 14, none, .fieldAddr none 2 (.t 4)⟩,
 ⟨some 15, none, .load none (.t 14)⟩,
 ⟨none, none, .store 1 (.t 0) (.t 11)⟩,
 ⟨none, none, .store 1 (.t 1) (.t 13)⟩,
 ⟨none, none, .store 1 (.t 2) (.t 15)⟩] [] [[], [0], [], [2], [], [4], [0, 1], [0, 1, 2, 3, 6], [0, 1, 2, 3, 4, 5, 6, 7]])))
 .skip))
abbrev R_cut_Check_1 : List (Nat × Option (Option Nat)) := []
theorem KD_cut_Check_1 : chkDF Tryz.prog Tryz.f43 16 5 3 C_cut_Check_1 = true := by kernel_rfl
theorem dspec_cut_Check_1 {args : List AVal} {σ : AHeap} {m : PM} {Q : PM → AHeap → Prop} (ha : args.length ≤ 16) (h : AW Tryz.prog 16 none C_cut_Check_1 (dbodyQ (Q m.after)) { v := (3, m.val) :: (5, .undef) :: argEnv args 0, ds := [] } σ) : DSpec Tryz.prog F_cut_Check_1 args σ m Q := DSpec.of_fn Tryz.func43 KD_cut_Check_1 ha h
theorem B_cut_Check_1 : hasBody Tryz.prog F_cut_Check_1 = true := by kernel_rfl
theorem I_cut_Check_1 : Inert Tryz.prog 43 16 := ⟨B_cut_Check_1, fun caps hl σ => dspec_cut_Check_1 hl (awpC_sound _ (by simp [C_cut_Check_1]))⟩
theorem E_cut_Check_1 : EntOk Tryz.prog ⟨43, 16, .skip, [], 1⟩ := ⟨fun h => absurd rfl h, fun _ => I_cut_Check_1⟩

abbrev F_hull_Check : FuncId := 44
/-- orlop/hull.Check: parameters ['api.HuPlan'], results ['int', 'int', 'api.Errno'] -/
def C_hull_Check : AC :=
 (.seq (.reg [⟨some 1, none, .pbox 2 (.t 0)⟩,
 ⟨some 2, none, .mv (.c (.int .i64 0))⟩,
 ⟨some 3, none, .mv (.c (.int .i64 0))⟩,
 ⟨some 4, none, .mv (.c (.int .i64 0))⟩] [1])
 (.seq (.reg [⟨some 6, none, .load (some 2) (.t 1)⟩,
 ⟨some 7, none, .call (.f 88) [true, false] [(.t 6), (.c (.int .i64 0))]⟩,
 ⟨some 5, none, .mv (.t 7)⟩,
 ⟨some 8, none, .extract (.t 5) 0⟩,
 ⟨some 9, none, .extract (.t 5) 1⟩,
 ⟨some 10, none, .extract (.t 5) 2⟩,
 ⟨some 11, none, .extract (.t 5) 3⟩,
 ⟨some 2, none, .mv (.t 9)⟩,
 ⟨some 3, none, .mv (.t 10)⟩,
 ⟨some 4, none, .mv (.t 11)⟩] [2, 3, 4])
 (.seq (.reg [⟨some 12, none, .mv (.t 2)⟩,
 ⟨some 13, none, .mv (.t 3)⟩,
 ⟨some 14, none, .mv (.t 4)⟩,
 ⟨some 2, none, .mv (.t 12)⟩,
 ⟨some 3, none, .mv (.t 13)⟩,
 ⟨some 4, none, .mv (.t 14)⟩] [2, 3, 4])
 .ret)))
abbrev R_hull_Check : List (Nat × Option (Option Nat)) := [(2, none), (3, none), (4, none)]
theorem K_hull_Check : chkF Tryz.prog Tryz.f44 15 C_hull_Check R_hull_Check = true := by kernel_rfl
theorem spec_hull_Check {args : List AVal} {σ : AHeap} {R : ARes → AHeap → Prop} (ha : args.length ≤ 15) (h : AW Tryz.prog 15 none C_hull_Check (bodyQ R_hull_Check R) { v := argEnv args 0, ds := [] } σ) : Spec Tryz.prog F_hull_Check args σ R := Spec.of_fn Tryz.func44 K_hull_Check ha h
theorem B_hull_Check : hasBody Tryz.prog F_hull_Check = true := by kernel_rfl
theorem E_hull_Check : EntOk Tryz.prog ⟨44, 15, C_hull_Check, R_hull_Check, 0⟩ := ⟨fun _ => ⟨B_hull_Check, _, Tryz.func44, K_hull_Check⟩, fun h => by cases h⟩

abbrev F_cut_must : FuncId := 45
/-- orlop/cut.must: parameters ['int', 'int', 'api.Errno'], results [] -/
def C_cut_must : AC :=
 (.seq (.reg [⟨some 6, none, .mv (.t 2)⟩,
 ⟨some 7, none, .bin .neq (.t 6) (.c (.int .i64 0))⟩] [0, 1, 2, 7])
 (.cond (.t 7)
 (.reg [⟨some 8, none, .mv (.t 0)⟩,
 ⟨some 9, none, .mv (.t 1)⟩,
 ⟨some 10, none, .mv (.t 2)⟩,
 ⟨some 11, none, .build [.int .i64 0, .int .i64 0, .int .i64 0] [(0, 1, (.t 8)), (1, 1, (.t 9)), (2, 1, (.t 10))]⟩,
 ⟨some 12, none, .mkiface 81 (.t 11)⟩,
 ⟨none, none, .panic (.t 12)⟩] [])
 .skip))
abbrev R_cut_must : List (Nat × Option (Option Nat)) := []
theorem K_cut_must : chkF Tryz.prog Tryz.f45 13 C_cut_must R_cut_must = true := by kernel_rfl
theorem spec_cut_must {args : List AVal} {σ : AHeap} {R : ARes → AHeap → Prop} (ha : args.length ≤ 13) (h : AW Tryz.prog 13 none C_cut_must (bodyQ R_cut_must R) { v := argEnv args 0, ds := [] } σ) : Spec Tryz.prog F_cut_must args σ R := Spec.of_fn Tryz.func45 K_cut_must ha h
theorem B_cut_must : hasBody Tryz.prog F_cut_must = true := by kernel_rfl
theorem E_cut_must : EntOk Tryz.prog ⟨45, 13, C_cut_must, R_cut_must, 0⟩ := ⟨fun _ => ⟨B_cut_must, _, Tryz.func45, K_cut_must⟩, fun h => by cases h⟩

abbrev F_stand_Check : FuncId := 46
/-- orlop/stand.Check: parameters ['api.StHull'], results ['int', 'int', 'api.Errno'] -/
def C_stand_Check : AC :=
 (.seq (.reg [⟨some 1, none, .pbox 3 (.t 0)⟩,
 ⟨some 2, none, .mv (.c (.int .i64 0))⟩,
 ⟨some 3, none, .mv (.c (.int .i64 0))⟩,
 ⟨some 4, none, .mv (.c (.int .i64 0))⟩] [1])
 (.seq (.block 0
 (.seq (.reg [⟨some 8, none, .fieldAddr none 0 (.t 1)⟩,
 ⟨some 9, none, .load none (.t 8)⟩,
 ⟨some 10, none, .len (.t 9)⟩,
 ⟨some 11, none, .lit 0 1 1 [(0, (.t 10))]⟩,
 ⟨some 12, none, .call (.f 89) [false, false, true] [(.c (.int .i64 1)), (.c (.int .i64 10)), (.t 11)]⟩,
 ⟨some 7, none, .mv (.t 12)⟩] [1, 7])
 (.cond (.t 7)
 (.seq (.reg [⟨some 2, none, .mv (.c (.int .i64 1))⟩,
 ⟨some 3, none, .mv (.c (.int .i64 0))⟩,
 ⟨some 4, none, .mv (.c (.int .i64 3))⟩] [2, 3, 4])
 .ret)
 (.seq (.reg [⟨some 14, none, .fieldAddr none 1 (.t 1)⟩,
 ⟨some 15, none, .load none (.t 14)⟩,
 ⟨some 16, none, .fieldAddr none 2 (.t 1)⟩,
 ⟨some 17, none, .load none (.t 16)⟩,
 ⟨some 18, none, .lit 0 1 2 [(0, (.t 15)), (1, (.t 17))]⟩,
 ⟨some 19, none, .call (.f 89) [false, false, true] [(.c (.int .i64 0)), (.c (.int .i64 5000)), (.t 18)]⟩,
 ⟨some 13, none, .mv (.t 19)⟩] [1, 13])
 (.cond (.t 13)
 (.seq (.reg [⟨some 2, none, .mv (.c (.int .i64 1))⟩,
 ⟨some 3, none, .mv (.c (.int .i64 0))⟩,
 ⟨some 4, none, .mv (.c (.int .i64 7))⟩] [2, 3, 4])
 .ret)
 (.seq (.reg [⟨some 21, none, .fieldAddr none 1 (.t 1)⟩,
 ⟨some 22, none, .load none (.t 21)⟩,
 ⟨some 23, none, .fieldAddr none 2 (.t 1)⟩,
 ⟨some 24, none, .load none (.t 23)⟩,
 ⟨some 25, none, .bin .geq (.t 22) (.t 24)⟩,
 ⟨some 20, none, .mv (.t 25)⟩] [1, 20])
 (.cond (.t 20)
 (.seq (.reg [⟨some 2, none, .mv (.c (.int .i64 1))⟩,
 ⟨some 3, none, .mv (.c (.int .i64 0))⟩,
 ⟨some 4, none, .mv (.c (.int .i64 2))⟩] [2, 3, 4])
 .ret)
 .skip)))))))
 (.seq (.seq (.reg [⟨some 26, none, .fieldAddr none 0 (.t 1)⟩,
 ⟨some 27, none, .load none (.t 26)⟩,
 ⟨some 28, none, .len (.t 27)⟩,
 ⟨some 29, none, .mv (.c (.int .i64 0))⟩] [1, 27, 28, 29])
 (.block 1
 (.loop [1, 27, 28, 29]
 (.seq (.reg [⟨some 30, none, .bin .lss (.t 29) (.t 28)⟩] [1, 27, 28, 29, 30])
 (.seq (.cond (.t 30)
 .skip
 (.exit 1))
 (.seq (.block 2
 (.seq (.reg [⟨some 31, none, .mv (.t 29)⟩,
 ⟨some 32, none, .ixS 7 (.t 27) (.t 29)⟩,
 ⟨some 33, none, .load (some 7) (.t 32)⟩,
 ⟨some 6, none, .alloc [.str ByteArray.empty, .int .i64 0, .int .i64 0, .int .i64 0, .int .i64 0, .int .i64 0, .int .i64 0]⟩,
 ⟨some 5, none, .mv (.t 31)⟩,
 ⟨none, none, .store 7 (.t 6) (.t 33)⟩] [1, 5, 6, 27, 28, 29])
 (.frz 6 true (.seq (.block 3
 (.seq (.reg [⟨some 35, none, .fieldAddr none 0 (.t 6)⟩,
 ⟨some 36, none, .load none (.t 35)⟩,
 ⟨some 37, none, .call (.f 90) [false] [(.t 36)]⟩,
 ⟨some 38, none, .un .not (.t 37)⟩,
 ⟨some 34, none, .mv (.t 38)⟩] [1, 5, 6, 27, 28, 29, 34])
 (.cond (.t 34)
 (.seq (.reg [⟨some 39, none, .mv (.t 5)⟩,
 ⟨some 2, none, .mv (.c (.int .i64 2))⟩,
 ⟨some 3, none, .mv (.t 39)⟩,
 ⟨some 4, none, .mv (.c (.int .i64 6))⟩] [2, 3, 4])
 .ret)
 (.seq (.reg [⟨some 41, none, .fieldAddr none 0 (.t 1)⟩,
 ⟨some 42, none, .load none (.t 41)⟩,
 ⟨some 43, none, .mv (.t 5)⟩,
 ⟨some 44, none, .subq 7 (.t 42) none (some (.t 43))⟩,
 ⟨some 45, none, .mkfunc (.func 92) [] [(.t 6)]⟩,
 ⟨some 46, none, .call (.f 91) [true, false] [(.t 44), (.t 45)]⟩,
 ⟨some 40, none, .mv (.t 46)⟩] [1, 5, 6, 27, 28, 29, 40])
 (.cond (.t 40)
 (.seq (.reg [⟨some 47, none, .mv (.t 5)⟩,
 ⟨some 2, none, .mv (.c (.int .i64 2))⟩,
 ⟨some 3, none, .mv (.t 47)⟩,
 ⟨some 4, none, .mv (.c (.int .i64 5))⟩] [2, 3, 4])
 .ret)
 .skip)))))
 (.seq (.reg [⟨some 48, none, .load (some 7) (.t 6)⟩,
 ⟨some 49, none, .call (.f 93) [false] [(.t 48)]⟩,
 ⟨some 4, none, .mv (.t 49)⟩] [1, 4, 5, 27, 28, 29])
 (.seq (.reg [⟨some 50, none, .mv (.t 4)⟩,
 ⟨some 51, none, .bin .neq (.t 50) (.c (.int .i64 0))⟩] [1, 4, 5, 27, 28, 29, 51])
 (.cond (.t 51)
 (.seq (.reg [⟨some 52, none, .mv (.t 5)⟩,
 ⟨some 53, none, .mv (.t 4)⟩,
 ⟨some 2, none, .mv (.c (.int .i64 2))⟩,
 ⟨some 3, none, .mv (.t 52)⟩,
 ⟨some 4, none, .mv (.t 53)⟩] [2, 3, 4])
 .ret)
 .skip)))))))
 (.reg [⟨some 54, none, .bin .add (.t 29) (.c (.int .i64 1))⟩,
 ⟨some 29, none, .mv (.t 54)⟩] [1, 27, 28, 29])))))))
 (.seq (.reg [⟨some 2, none, .mv (.c (.int .i64 0))⟩,
 ⟨some 3, none, .mv (.c (.int .i64 0))⟩,
 ⟨some 4, none, .mv (.c (.int .i64 0))⟩] [2, 3, 4])
 .ret))))
abbrev R_stand_Check : List (Nat × Option (Option Nat)) := [(2, none), (3, none), (4, none)]
theorem K_stand_Check : chkF Tryz.prog Tryz.f46 55 C_stand_Check R_stand_Check = true := by kernel_rfl
theorem spec_stand_Check {args : List AVal} {σ : AHeap} {R : ARes → AHeap → Prop} (ha : args.length ≤ 55) (h : AW Tryz.prog 55 none C_stand_Check (bodyQ R_stand_Check R) { v := argEnv args 0, ds := [] } σ) : Spec Tryz.prog F_stand_Check args σ R := Spec.of_fn Tryz.func46 K_stand_Check ha h
theorem B_stand_Check : hasBody Tryz.prog F_stand_Check = true := by kernel_rfl
theorem E_stand_Check : EntOk Tryz.prog ⟨46, 55, C_stand_Check, R_stand_Check, 0⟩ := ⟨fun _ => ⟨B_stand_Check, _, Tryz.func46, K_stand_Check⟩, fun h => by cases h⟩

abbrev F_stand_Why : FuncId := 47
/-- orlop/stand.Why: parameters ['api.StHull', 'api.Span'], results ['int', 'int', 'api.Errno'] -/
def C_stand_Why : AC :=
 (.seq (.reg [⟨some 2, none, .pbox 3 (.t 0)⟩,
 ⟨some 3, none, .pbox 2 (.t 1)⟩,
 ⟨some 4, none, .mv (.c (.int .i64 0))⟩,
 ⟨some 5, none, .mv (.c (.int .i64 0))⟩,
 ⟨some 6, none, .mv (.c (.int .i64 0))⟩] [2, 3])
 (.seq (.seq (.reg [⟨some 8, none, .load (some 3) (.t 2)⟩,
 ⟨some 9, none, .call (.f 46) [true] [(.t 8)]⟩,
 ⟨some 7, none, .mv (.t 9)⟩,
 ⟨some 10, none, .extract (.t 7) 0⟩,
 ⟨some 11, none, .extract (.t 7) 1⟩,
 ⟨some 12, none, .extract (.t 7) 2⟩,
 ⟨some 6, none, .mv (.t 12)⟩] [2, 3, 6])
 (.seq (.reg [⟨some 13, none, .mv (.t 6)⟩,
 ⟨some 14, none, .bin .eql (.t 13) (.c (.int .i64 0))⟩] [2, 3, 6, 14])
 (.cond (.t 14)
 (.reg [⟨some 15, none, .load (some 2) (.t 3)⟩,
 ⟨some 16, none, .call (.f 94) [false] [(.t 15)]⟩,
 ⟨some 6, none, .mv (.t 16)⟩] [2, 3, 6])
 .skip)))
 (.seq (.seq (.reg [⟨some 17, none, .mv (.t 6)⟩,
 ⟨some 18, none, .bin .neq (.t 17) (.c (.int .i64 0))⟩] [2, 3, 6, 18])
 (.cond (.t 18)
 (.seq (.reg [⟨some 19, none, .mv (.t 6)⟩,
 ⟨some 4, none, .mv (.c (.int .i64 0))⟩,
 ⟨some 5, none, .mv (.c (.int .i64 0))⟩,
 ⟨some 6, none, .mv (.t 19)⟩] [4, 5, 6])
 .ret)
 .skip))
 (.seq (.reg [⟨some 21, none, .load (some 3) (.t 2)⟩,
 ⟨some 22, none, .build [.slice 7 [], .int .i64 0, .int .i64 0] [(0, 3, (.t 21))]⟩,
 ⟨some 23, none, .load (some 2) (.t 3)⟩,
 ⟨some 24, none, .call (.f 95) [true, false] [(.t 22), (.t 23)]⟩,
 ⟨some 20, none, .mv (.t 24)⟩,
 ⟨some 25, none, .extract (.t 20) 0⟩,
 ⟨some 26, none, .extract (.t 20) 1⟩,
 ⟨some 4, none, .mv (.t 25)⟩,
 ⟨some 5, none, .mv (.t 26)⟩] [4, 5])
 (.seq (.reg [⟨some 27, none, .mv (.t 4)⟩,
 ⟨some 28, none, .mv (.t 5)⟩,
 ⟨some 4, none, .mv (.t 27)⟩,
 ⟨some 5, none, .mv (.t 28)⟩,
 ⟨some 6, none, .mv (.c (.int .i64 0))⟩] [4, 5, 6])
 .ret)))))
abbrev R_stand_Why : List (Nat × Option (Option Nat)) := [(4, none), (5, none), (6, none)]
theorem K_stand_Why : chkF Tryz.prog Tryz.f47 29 C_stand_Why R_stand_Why = true := by kernel_rfl
theorem spec_stand_Why {args : List AVal} {σ : AHeap} {R : ARes → AHeap → Prop} (ha : args.length ≤ 29) (h : AW Tryz.prog 29 none C_stand_Why (bodyQ R_stand_Why R) { v := argEnv args 0, ds := [] } σ) : Spec Tryz.prog F_stand_Why args σ R := Spec.of_fn Tryz.func47 K_stand_Why ha h
theorem B_stand_Why : hasBody Tryz.prog F_stand_Why = true := by kernel_rfl
theorem E_stand_Why : EntOk Tryz.prog ⟨47, 29, C_stand_Why, R_stand_Why, 0⟩ := ⟨fun _ => ⟨B_stand_Why, _, Tryz.func47, K_stand_Why⟩, fun h => by cases h⟩

abbrev F_vent_After : FuncId := 48
/-- orlop/vent.After: parameters ['api.VnNet', '[]int', '[]api.VnStep'], results ['api.VnState', 'api.Errno'] -/
def C_vent_After : AC :=
 (.seq (.reg [⟨some 3, none, .pbox 2 (.t 0)⟩,
 ⟨some 6, none, .alloc [.slice 1 [], .slice 1 []]⟩,
 ⟨some 7, none, .mv (.c (.int .i64 0))⟩] [1, 2, 3, 6])
 (.seq (.reg [⟨some 16, none, .load (some 2) (.t 3)⟩,
 ⟨some 17, none, .mv (.t 1)⟩,
 ⟨some 18, none, .call (.f 96) [true, true, true, false] [(.t 16), (.t 17), (.c (.slice 1 [])), (.c (.bool false))]⟩,
 ⟨some 15, none, .mv (.t 18)⟩,
 ⟨some 19, none, .extract (.t 15) 0⟩,
 ⟨some 20, none, .extract (.t 15) 1⟩,
 ⟨some 8, none, .mv (.t 19)⟩,
 ⟨some 9, none, .mv (.t 20)⟩] [2, 6, 8, 9])
 (.seq (.block 0
 (.seq (.reg [⟨some 22, none, .mv (.t 9)⟩,
 ⟨some 23, none, .bin .neq (.t 22) (.c (.int .i64 0))⟩,
 ⟨some 21, none, .mv (.t 23)⟩] [2, 6, 8, 9, 21])
 (.cond (.t 21)
 (.seq (.reg [⟨some 24, none, .build [.slice 1 [], .slice 1 []] []⟩,
 ⟨some 25, none, .mv (.t 9)⟩,
 ⟨none, none, .store 2 (.t 6) (.t 24)⟩,
 ⟨some 7, none, .mv (.t 25)⟩] [6, 7])
 .ret)
 (.seq (.reg [⟨some 27, none, .mv (.t 2)⟩,
 ⟨some 28, none, .len (.t 27)⟩,
 ⟨some 29, none, .bin .gtr (.t 28) (.c (.int .i64 60))⟩,
 ⟨some 26, none, .mv (.t 29)⟩] [2, 6, 8, 26])
 (.cond (.t 26)
 (.seq (.reg [⟨some 30, none, .build [.slice 1 [], .slice 1 []] []⟩,
 ⟨none, none, .store 2 (.t 6) (.t 30)⟩,
 ⟨some 7, none, .mv (.c (.int .i64 3))⟩] [6, 7])
 .ret)
 .skip)))))
 (.seq (.reg [⟨some 10, none, .alloc [.int .u64 0, .int .u64 0]⟩] [2, 6, 8, 10])
 (.seq (.seq (.reg [⟨some 31, none, .mv (.t 2)⟩,
 ⟨some 32, none, .len (.t 31)⟩,
 ⟨some 33, none, .mv (.c (.int .i64 0))⟩] [6, 8, 10, 31, 32, 33])
 (.block 1
 (.loop [6, 8, 10, 31, 32, 33]
 (.seq (.reg [⟨some 34, none, .bin .lss (.t 33) (.t 32)⟩] [6, 8, 10, 31, 32, 33, 34])
 (.seq (.cond (.t 34)
 .skip
 (.exit 1))
 (.seq (.block 2
 (.seq (.reg [⟨some 35, none, .ixS 2 (.t 31) (.t 33)⟩,
 ⟨some 36, none, .load (some 2) (.t 35)⟩,
 ⟨some 12, none, .alloc [.int .i64 0, .bool false]⟩,
 ⟨none, none, .store 2 (.t 12) (.t 36)⟩] [6, 8, 10, 12, 31, 32, 33])
 (.frz 12 true (.seq (.seq (.dreg [⟨some 37, none, .mv (.t 8)⟩,
 ⟨some 38, none, .nilchk (.t 37)⟩,
 ⟨some 39, none, .fieldAddr (some 2) 0 (.t 38)⟩,
 ⟨some 40, none, .fieldAddr none 0 (.t 39)⟩,
 ⟨some 41, none, .load none (.t 40)⟩,
 ⟨some 42, none, .len (.t 41)⟩,
 ⟨some 43, none, .fieldAddr none 0 (.t 12)⟩,
 ⟨some 44, none, .load none (.t 43)⟩,
 ⟨some 45, none, .lit 0 1 1 [(0, (.t 44))]⟩,
 ⟨some 46, none, .call (.f 97) [false, true] [(.t 42), (.t 45)]⟩] [6, 8, 10, 12, 31, 32, 33, 46] [[], [0], [0, 1], [0, 1, 2], [0, 1, 2, 3], [0, 1, 2, 3, 4], [], [6], [6, 7], [0, 1, 2, 3, 4, 5, 6, 7, 8]])
 (.cond (.t 46)
 (.seq (.reg [⟨some 47, none, .build [.slice 1 [], .slice 1 []] []⟩,
 ⟨none, none, .store 2 (.t 6) (.t 47)⟩,
 ⟨some 7, none, .mv (.c (.int .i64 4))⟩] [6, 7])
 .ret)
 .skip))
 (.seq (.reg [⟨some 49, none, .mv (.t 8)⟩,
 ⟨some 50, none, .load (some 2) (.t 10)⟩,
 ⟨some 51, none, .load (some 2) (.t 12)⟩,
 ⟨some 52, none, .call (.f 98) [false, false, false] [(.t 49), (.t 50), (.t 51)]⟩,
 ⟨some 48, none, .mv (.t 52)⟩,
 ⟨some 53, none, .extract (.t 48) 0⟩,
 ⟨some 54, none, .extract (.t 48) 1⟩,
 ⟨some 13, none, .alloc [.int .u64 0, .int .u64 0]⟩,
 ⟨none, none, .store 2 (.t 13) (.t 53)⟩,
 ⟨some 14, none, .mv (.t 54)⟩] [6, 8, 10, 13, 14, 31, 32, 33])
 (.frz 13 true (.seq (.seq (.reg [⟨some 55, none, .mv (.t 14)⟩,
 ⟨some 56, none, .un .not (.t 55)⟩] [6, 8, 10, 13, 31, 32, 33, 56])
 (.cond (.t 56)
 (.seq (.reg [⟨some 57, none, .build [.slice 1 [], .slice 1 []] []⟩,
 ⟨none, none, .store 2 (.t 6) (.t 57)⟩,
 ⟨some 7, none, .mv (.c (.int .i64 2))⟩] [6, 7])
 .ret)
 .skip))
 (.reg [⟨some 58, none, .load (some 2) (.t 13)⟩,
 ⟨none, none, .store 2 (.t 10) (.t 58)⟩] [6, 8, 10, 31, 32, 33]))))))))
 (.reg [⟨some 59, none, .bin .add (.t 33) (.c (.int .i64 1))⟩,
 ⟨some 33, none, .mv (.t 59)⟩] [6, 8, 10, 31, 32, 33])))))))
 (.seq (.dreg [⟨some 60, none, .fieldAddr none 0 (.t 10)⟩,
 ⟨some 61, none, .load none (.t 60)⟩,
 ⟨some 62, none, .call (.f 99) [false] [(.t 61)]⟩,
 ⟨some 63, none, .fieldAddr none 1 (.t 10)⟩,
 ⟨some 64, none, .load none (.t 63)⟩,
 ⟨some 65, none, .call (.f 99) [false] [(.t 64)]⟩,
 ⟨some 66, none, .build [.slice 1 [], .slice 1 []] [(0, 1, (.t 62)), (1, 1, (.t 65))]⟩,
 ⟨none, none, .store 2 (.t 6) (.t 66)⟩,
 ⟨some 7, none, .mv (.c (.int .i64 0))⟩] [6, 7] [[], [0], [0, 1], [], [3], [0, 1, 2, 3, 4], [0, 1, 2, 3, 4, 5], [0, 1, 2, 3, 4, 5, 6], [0, 1, 2, 3, 4, 5, 6, 7]])
 .ret))))))
abbrev R_vent_After : List (Nat × Option (Option Nat)) := [(6, some (some 2)), (7, none)]
theorem K_vent_After : chkF Tryz.prog Tryz.f48 67 C_vent_After R_vent_After = true := by kernel_rfl
theorem spec_vent_After {args : List AVal} {σ : AHeap} {R : ARes → AHeap → Prop} (ha : args.length ≤ 67) (h : AW Tryz.prog 67 none C_vent_After (bodyQ R_vent_After R) { v := argEnv args 0, ds := [] } σ) : Spec Tryz.prog F_vent_After args σ R := Spec.of_fn Tryz.func48 K_vent_After ha h
theorem B_vent_After : hasBody Tryz.prog F_vent_After = true := by kernel_rfl
theorem E_vent_After : EntOk Tryz.prog ⟨48, 67, C_vent_After, R_vent_After, 0⟩ := ⟨fun _ => ⟨B_vent_After, _, Tryz.func48, K_vent_After⟩, fun h => by cases h⟩

abbrev F_cut_beyond : FuncId := 49
/-- orlop/cut.beyond: parameters ['int', '[]int'], results ['bool'] -/
def C_cut_beyond : AC :=
 (.seq (.reg [⟨some 2, none, .pbox 1 (.t 0)⟩,
 ⟨some 4, none, .mv (.c (.bool false))⟩] [1, 2])
 (.seq (.reg [⟨some 5, none, .mv (.t 1)⟩,
 ⟨some 6, none, .mkfunc (.func 101) [] [(.t 2)]⟩,
 ⟨some 7, none, .call (.f 100) [true, false] [(.t 5), (.t 6)]⟩,
 ⟨some 4, none, .mv (.t 7)⟩] [4])
 .ret))
abbrev R_cut_beyond : List (Nat × Option (Option Nat)) := [(4, none)]
theorem K_cut_beyond : chkF Tryz.prog Tryz.f49 8 C_cut_beyond R_cut_beyond = true := by kernel_rfl
theorem spec_cut_beyond {args : List AVal} {σ : AHeap} {R : ARes → AHeap → Prop} (ha : args.length ≤ 8) (h : AW Tryz.prog 8 none C_cut_beyond (bodyQ R_cut_beyond R) { v := argEnv args 0, ds := [] } σ) : Spec Tryz.prog F_cut_beyond args σ R := Spec.of_fn Tryz.func49 K_cut_beyond ha h
theorem B_cut_beyond : hasBody Tryz.prog F_cut_beyond = true := by kernel_rfl
theorem E_cut_beyond : EntOk Tryz.prog ⟨49, 8, C_cut_beyond, R_cut_beyond, 0⟩ := ⟨fun _ => ⟨B_cut_beyond, _, Tryz.func49, K_cut_beyond⟩, fun h => by cases h⟩

abbrev F_cut_enter : FuncId := 55
/-- orlop/cut.enter: parameters ['api.CtTask', '[]int'], results ['*cut.ship', 'api.Errno'] -/
def C_cut_enter : AC :=
 (.seq (.reg [⟨some 2, none, .pbox 11 (.t 0)⟩,
 ⟨some 4, none, .mv (.c .nilptr)⟩,
 ⟨some 5, none, .mv (.c (.int .i64 0))⟩] [1, 2])
 (.seq (.reg [⟨some 9, none, .load (some 11) (.t 2)⟩,
 ⟨some 10, none, .call (.f 69) [true] [(.t 9)]⟩,
 ⟨some 8, none, .mv (.t 10)⟩,
 ⟨some 11, none, .extract (.t 8) 0⟩,
 ⟨some 12, none, .extract (.t 8) 1⟩,
 ⟨some 6, none, .mv (.t 11)⟩,
 ⟨some 7, none, .mv (.t 12)⟩] [1, 6, 7])
 (.seq (.seq (.reg [⟨some 13, none, .mv (.t 7)⟩,
 ⟨some 14, none, .bin .eql (.t 13) (.c (.int .i64 0))⟩,
 ⟨some 15, none, .mv (.t 14)⟩,
 ⟨some 16, (some (15, true)), .mv (.t 6)⟩,
 ⟨some 17, (some (15, true)), .nilchk (.t 16)⟩,
 ⟨some 18, (some (15, true)), .fieldAddr none 11 (.t 17)⟩,
 ⟨some 19, (some (15, true)), .load none (.t 18)⟩,
 ⟨some 20, (some (15, true)), .len (.t 19)⟩,
 ⟨some 21, (some (15, true)), .mv (.t 1)⟩,
 ⟨some 22, (some (15, true)), .call (.f 49) [false, true] [(.t 20), (.t 21)]⟩,
 ⟨some 23, none, .pick (.t 15) (.t 22) (.c (.bool false))⟩] [6, 7, 23])
 (.cond (.t 23)
 (.reg [⟨some 7, none, .mv (.c (.int .i64 4))⟩] [6, 7])
 .skip))
 (.seq (.reg [⟨some 24, none, .mv (.t 6)⟩,
 ⟨some 25, none, .mv (.t 7)⟩,
 ⟨some 4, none, .mv (.t 24)⟩,
 ⟨some 5, none, .mv (.t 25)⟩] [4, 5])
 .ret))))
abbrev R_cut_enter : List (Nat × Option (Option Nat)) := [(4, none), (5, none)]
theorem K_cut_enter : chkF Tryz.prog Tryz.f55 26 C_cut_enter R_cut_enter = true := by kernel_rfl
theorem spec_cut_enter {args : List AVal} {σ : AHeap} {R : ARes → AHeap → Prop} (ha : args.length ≤ 26) (h : AW Tryz.prog 26 none C_cut_enter (bodyQ R_cut_enter R) { v := argEnv args 0, ds := [] } σ) : Spec Tryz.prog F_cut_enter args σ R := Spec.of_fn Tryz.func55 K_cut_enter ha h
theorem B_cut_enter : hasBody Tryz.prog F_cut_enter = true := by kernel_rfl
theorem E_cut_enter : EntOk Tryz.prog ⟨55, 26, C_cut_enter, R_cut_enter, 2⟩ := ⟨fun _ => ⟨B_cut_enter, _, Tryz.func55, K_cut_enter⟩, fun h => by cases h⟩

abbrev F_cut_ship_walk : FuncId := 56
/-- (*orlop/cut.ship).walk: parameters ['*cut.ship', '[]int'], results ['int', 'int', 'cut.set'] -/
def C_cut_ship_walk : AC :=
 (.seq (.reg [⟨some 4, none, .mv (.c (.int .i64 0))⟩,
 ⟨some 5, none, .mv (.c (.int .i64 0))⟩,
 ⟨some 6, none, .mv (.c (.int .i64 0))⟩] [0, 1])
 (.seq (.reg [⟨some 10, none, .mv (.t 0)⟩,
 ⟨some 11, none, .call (.f 77) [false] [(.t 10)]⟩,
 ⟨some 6, none, .mv (.t 11)⟩] [0, 1, 6])
 (.seq (.seq (.reg [⟨some 12, none, .mv (.t 1)⟩,
 ⟨some 13, none, .len (.t 12)⟩,
 ⟨some 14, none, .mv (.c (.int .i64 0))⟩] [0, 6, 12, 13, 14])
 (.block 0
 (.loop [0, 6, 12, 13, 14]
 (.seq (.reg [⟨some 15, none, .bin .lss (.t 14) (.t 13)⟩] [0, 6, 12, 13, 14, 15])
 (.seq (.cond (.t 15)
 .skip
 (.exit 0))
 (.seq (.block 1
 (.seq (.reg [⟨some 16, none, .mv (.t 14)⟩,
 ⟨some 17, none, .ixS 1 (.t 12) (.t 14)⟩,
 ⟨some 18, none, .load none (.t 17)⟩,
 ⟨some 7, none, .mv (.t 16)⟩,
 ⟨some 8, none, .mv (.t 18)⟩] [0, 6, 7, 8, 12, 13, 14])
 (.seq (.seq (.reg [⟨some 19, none, .mv (.t 0)⟩,
 ⟨some 20, none, .mv (.t 6)⟩,
 ⟨some 21, none, .mv (.t 8)⟩,
 ⟨some 22, none, .call (.f 73) [false, false, false] [(.t 19), (.t 20), (.t 21)]⟩,
 ⟨some 9, none, .mv (.t 22)⟩] [0, 6, 7, 8, 9, 12, 13, 14])
 (.seq (.reg [⟨some 23, none, .mv (.t 9)⟩,
 ⟨some 24, none, .bin .neq (.t 23) (.c (.int .i64 0))⟩] [0, 6, 7, 8, 9, 12, 13, 14, 24])
 (.cond (.t 24)
 (.seq (.reg [⟨some 25, none, .mv (.t 7)⟩,
 ⟨some 26, none, .mv (.t 9)⟩,
 ⟨some 27, none, .mv (.t 6)⟩,
 ⟨some 4, none, .mv (.t 25)⟩,
 ⟨some 5, none, .mv (.t 26)⟩,
 ⟨some 6, none, .mv (.t 27)⟩] [4, 5, 6])
 .ret)
 .skip)))
 (.reg [⟨some 28, none, .mv (.t 6)⟩,
 ⟨some 29, none, .mv (.t 8)⟩,
 ⟨some 30, none, .bin .shl (.c (.int .i64 1)) (.t 29)⟩,
 ⟨some 31, none, .bin .andNot (.t 28) (.t 30)⟩,
 ⟨some 6, none, .mv (.t 31)⟩] [0, 6, 12, 13, 14]))))
 (.reg [⟨some 32, none, .bin .add (.t 14) (.c (.int .i64 1))⟩,
 ⟨some 14, none, .mv (.t 32)⟩] [0, 6, 12, 13, 14])))))))
 (.seq (.reg [⟨some 33, none, .mv (.t 6)⟩,
 ⟨some 4, none, .mv (.c (.int .i64 (-1)))⟩,
 ⟨some 5, none, .mv (.c (.int .i64 0))⟩,
 ⟨some 6, none, .mv (.t 33)⟩] [4, 5, 6])
 .ret))))
abbrev R_cut_ship_walk : List (Nat × Option (Option Nat)) := [(4, none), (5, none), (6, none)]
theorem K_cut_ship_walk : chkF Tryz.prog Tryz.f56 34 C_cut_ship_walk R_cut_ship_walk = true := by kernel_rfl
theorem spec_cut_ship_walk {args : List AVal} {σ : AHeap} {R : ARes → AHeap → Prop} (ha : args.length ≤ 34) (h : AW Tryz.prog 34 none C_cut_ship_walk (bodyQ R_cut_ship_walk R) { v := argEnv args 0, ds := [] } σ) : Spec Tryz.prog F_cut_ship_walk args σ R := Spec.of_fn Tryz.func56 K_cut_ship_walk ha h
theorem B_cut_ship_walk : hasBody Tryz.prog F_cut_ship_walk = true := by kernel_rfl
theorem E_cut_ship_walk : EntOk Tryz.prog ⟨56, 34, C_cut_ship_walk, R_cut_ship_walk, 0⟩ := ⟨fun _ => ⟨B_cut_ship_walk, _, Tryz.func56, K_cut_ship_walk⟩, fun h => by cases h⟩

abbrev F_cut_good : FuncId := 59
/-- orlop/cut.good: parameters ['api.CtTask', '[]int'], results ['*cut.ship', 'cut.set', 'api.Errno'] -/
def C_cut_good : AC :=
 (.seq (.reg [⟨some 2, none, .pbox 11 (.t 0)⟩,
 ⟨some 4, none, .mv (.c .nilptr)⟩,
 ⟨some 5, none, .mv (.c (.int .i64 0))⟩,
 ⟨some 6, none, .mv (.c (.int .i64 0))⟩] [1, 2])
 (.seq (.reg [⟨some 13, none, .load (some 11) (.t 2)⟩,
 ⟨some 14, none, .mv (.t 1)⟩,
 ⟨some 15, none, .call (.f 55) [true, true] [(.t 13), (.t 14)]⟩,
 ⟨some 12, none, .mv (.t 15)⟩,
 ⟨some 16, none, .extract (.t 12) 0⟩,
 ⟨some 17, none, .extract (.t 12) 1⟩,
 ⟨some 7, none, .mv (.t 16)⟩,
 ⟨some 8, none, .mv (.t 17)⟩] [1, 7, 8])
 (.seq (.seq (.reg [⟨some 18, none, .mv (.t 8)⟩,
 ⟨some 19, none, .bin .neq (.t 18) (.c (.int .i64 0))⟩] [1, 7, 8, 19])
 (.cond (.t 19)
 (.seq (.reg [⟨some 20, none, .mv (.t 8)⟩,
 ⟨some 4, none, .mv (.c .nilptr)⟩,
 ⟨some 5, none, .mv (.c (.int .i64 0))⟩,
 ⟨some 6, none, .mv (.t 20)⟩] [4, 5, 6])
 .ret)
 .skip))
 (.seq (.reg [⟨some 22, none, .mv (.t 7)⟩,
 ⟨some 23, none, .mv (.t 1)⟩,
 ⟨some 24, none, .call (.f 56) [false, true] [(.t 22), (.t 23)]⟩,
 ⟨some 21, none, .mv (.t 24)⟩,
 ⟨some 25, none, .extract (.t 21) 0⟩,
 ⟨some 26, none, .extract (.t 21) 1⟩,
 ⟨some 27, none, .extract (.t 21) 2⟩,
 ⟨some 9, none, .mv (.t 25)⟩,
 ⟨some 10, none, .mv (.t 26)⟩,
 ⟨some 11, none, .mv (.t 27)⟩] [7, 9, 11])
 (.seq (.seq (.reg [⟨some 28, none, .mv (.t 9)⟩,
 ⟨some 29, none, .bin .geq (.t 28) (.c (.int .i64 0))⟩] [7, 11, 29])
 (.cond (.t 29)
 (.seq (.reg [⟨some 4, none, .mv (.c .nilptr)⟩,
 ⟨some 5, none, .mv (.c (.int .i64 0))⟩,
 ⟨some 6, none, .mv (.c (.int .i64 9))⟩] [4, 5, 6])
 .ret)
 .skip))
 (.seq (.reg [⟨some 30, none, .mv (.t 7)⟩,
 ⟨some 31, none, .mv (.t 11)⟩,
 ⟨some 4, none, .mv (.t 30)⟩,
 ⟨some 5, none, .mv (.t 31)⟩,
 ⟨some 6, none, .mv (.c (.int .i64 0))⟩] [4, 5, 6])
 .ret))))))
abbrev R_cut_good : List (Nat × Option (Option Nat)) := [(4, none), (5, none), (6, none)]
theorem K_cut_good : chkF Tryz.prog Tryz.f59 32 C_cut_good R_cut_good = true := by kernel_rfl
theorem spec_cut_good {args : List AVal} {σ : AHeap} {R : ARes → AHeap → Prop} (ha : args.length ≤ 32) (h : AW Tryz.prog 32 none C_cut_good (bodyQ R_cut_good R) { v := argEnv args 0, ds := [] } σ) : Spec Tryz.prog F_cut_good args σ R := Spec.of_fn Tryz.func59 K_cut_good ha h
theorem B_cut_good : hasBody Tryz.prog F_cut_good = true := by kernel_rfl
theorem E_cut_good : EntOk Tryz.prog ⟨59, 32, C_cut_good, R_cut_good, 2⟩ := ⟨fun _ => ⟨B_cut_good, _, Tryz.func59, K_cut_good⟩, fun h => by cases h⟩

abbrev F_cut_collect_cut_set : FuncId := 60
/-- orlop/cut.collect[orlop/cut.set]: parameters ['iter.Seq2[int,orlop/cut.set]', 'func(cut.set) bool'], results ['[]int'] -/
def C_cut_collect_cut_set : AC :=
 (.seq (.reg [⟨some 3, none, .pbox 1 (.t 1)⟩,
 ⟨some 4, none, .alloc [.mint 1]⟩] [0, 3, 4])
 (.seq (.seq (.reg [⟨some 7, none, .mv (.t 0)⟩] [3, 4, 7])
 (.block 0
 (.rangeF (.t 7) [8, 9] (.seq (.reg [⟨some 5, none, .mv (.t 8)⟩] [3, 4, 5, 9])
 (.reg [⟨some 6, none, .mv (.t 9)⟩] [3, 4, 5, 6]))
 (.block 1
 (.seq (.reg [⟨some 10, none, .load none (.t 3)⟩,
 ⟨some 11, none, .mv (.t 6)⟩,
 ⟨some 12, none, .call (.t 10) [false] [(.t 11)]⟩] [4, 5, 12])
 (.cond (.t 12)
 (.reg [⟨some 13, none, .load none (.t 4)⟩,
 ⟨some 14, none, .mv (.t 5)⟩,
 ⟨some 15, none, .lit 0 1 1 [(0, (.t 14))]⟩,
 ⟨some 16, none, .append 1 8 (.t 13) (.t 15)⟩,
 ⟨none, none, .store 1 (.t 4) (.t 16)⟩] [])
 .skip))))))
 (.seq (.reg [⟨some 17, none, .loadd none (.t 4)⟩,
 ⟨none, none, .store 1 (.t 4) (.t 17)⟩] [4])
 .ret)))
abbrev R_cut_collect_cut_set : List (Nat × Option (Option Nat)) := [(4, some none)]
theorem K_cut_collect_cut_set : chkF Tryz.prog Tryz.f60 18 C_cut_collect_cut_set R_cut_collect_cut_set = true := by kernel_rfl
theorem spec_cut_collect_cut_set {args : List AVal} {σ : AHeap} {R : ARes → AHeap → Prop} (ha : args.length ≤ 18) (h : AW Tryz.prog 18 none C_cut_collect_cut_set (bodyQ R_cut_collect_cut_set R) { v := argEnv args 0, ds := [] } σ) : Spec Tryz.prog F_cut_collect_cut_set args σ R := Spec.of_fn Tryz.func60 K_cut_collect_cut_set ha h
theorem B_cut_collect_cut_set : hasBody Tryz.prog F_cut_collect_cut_set = true := by kernel_rfl
theorem E_cut_collect_cut_set : EntOk Tryz.prog ⟨60, 18, C_cut_collect_cut_set, R_cut_collect_cut_set, 0⟩ := ⟨fun _ => ⟨B_cut_collect_cut_set, _, Tryz.func60, K_cut_collect_cut_set⟩, fun h => by cases h⟩

abbrev F_cut_ship_can : FuncId := 61
/-- (*orlop/cut.ship).can: parameters ['*cut.ship', 'cut.set'], results ['iter.Seq2[int,orlop/cut.set]'] -/
def C_cut_ship_can : AC :=
 (.seq (.reg [⟨some 2, none, .pbox 1 (.t 0)⟩,
 ⟨some 3, none, .pbox 1 (.t 1)⟩,
 ⟨some 4, none, .mv (.c .nilfunc)⟩] [2, 3])
 (.seq (.reg [⟨some 5, none, .mkfunc (.func 118) [] [(.t 3), (.t 2)]⟩,
 ⟨some 4, none, .mv (.t 5)⟩] [4])
 .ret))
abbrev R_cut_ship_can : List (Nat × Option (Option Nat)) := [(4, none)]
theorem K_cut_ship_can : chkF Tryz.prog Tryz.f61 6 C_cut_ship_can R_cut_ship_can = true := by kernel_rfl
theorem spec_cut_ship_can {args : List AVal} {σ : AHeap} {R : ARes → AHeap → Prop} (ha : args.length ≤ 6) (h : AW Tryz.prog 6 none C_cut_ship_can (bodyQ R_cut_ship_can R) { v := argEnv args 0, ds := [] } σ) : Spec Tryz.prog F_cut_ship_can args σ R := Spec.of_fn Tryz.func61 K_cut_ship_can ha h
theorem B_cut_ship_can : hasBody Tryz.prog F_cut_ship_can = true := by kernel_rfl
theorem E_cut_ship_can : EntOk Tryz.prog ⟨61, 6, C_cut_ship_can, R_cut_ship_can, 0⟩ := ⟨fun _ => ⟨B_cut_ship_can, _, Tryz.func61, K_cut_ship_can⟩, fun h => by cases h⟩

abbrev F_cut_May_1 : FuncId := 62
/-- orlop/cut.May$1: parameters ['cut.set'], results ['bool'] -/
def C_cut_May_1 : AC :=
 (.seq (.reg [⟨some 2, none, .mv (.c (.bool false))⟩] [])
 (.seq (.reg [⟨some 2, none, .mv (.c (.bool true))⟩] [2])
 .ret))
abbrev R_cut_May_1 : List (Nat × Option (Option Nat)) := [(2, none)]
theorem K_cut_May_1 : chkF Tryz.prog Tryz.f62 3 C_cut_May_1 R_cut_May_1 = true := by kernel_rfl
theorem spec_cut_May_1 {args : List AVal} {σ : AHeap} {R : ARes → AHeap → Prop} (ha : args.length ≤ 3) (h : AW Tryz.prog 3 none C_cut_May_1 (bodyQ R_cut_May_1 R) { v := argEnv args 0, ds := [] } σ) : Spec Tryz.prog F_cut_May_1 args σ R := Spec.of_fn Tryz.func62 K_cut_May_1 ha h
theorem B_cut_May_1 : hasBody Tryz.prog F_cut_May_1 = true := by kernel_rfl
theorem E_cut_May_1 : EntOk Tryz.prog ⟨62, 3, C_cut_May_1, R_cut_May_1, 0⟩ := ⟨fun _ => ⟨B_cut_May_1, _, Tryz.func62, K_cut_May_1⟩, fun h => by cases h⟩

abbrev F_cut_ship_most : FuncId := 64
/-- (*orlop/cut.ship).most: parameters ['*cut.ship'], results ['func(cut.set) int'] -/
def C_cut_ship_most : AC :=
 (.seq (.reg [⟨some 1, none, .pbox 1 (.t 0)⟩,
 ⟨some 2, none, .mv (.c .nilfunc)⟩] [1])
 (.seq (.reg [⟨some 5, none, .mnew⟩,
 ⟨some 3, none, .alloc [.nilmap]⟩,
 ⟨none, none, .store 1 (.t 3) (.t 5)⟩] [1, 3])
 (.frz 3 false (.seq (.reg [⟨some 4, none, .alloc [.nilfunc]⟩] [1, 3, 4])
 (.seq (.reg [⟨some 6, none, .mkfunc (.func 120) [] [(.t 3), (.t 1), (.t 4)]⟩,
 ⟨none, none, .store 1 (.t 4) (.t 6)⟩] [4])
 (.seq (.reg [⟨some 7, none, .load none (.t 4)⟩,
 ⟨some 2, none, .mv (.t 7)⟩] [2])
 .ret))))))
abbrev R_cut_ship_most : List (Nat × Option (Option Nat)) := [(2, none)]
theorem K_cut_ship_most : chkF Tryz.prog Tryz.f64 8 C_cut_ship_most R_cut_ship_most = true := by kernel_rfl
theorem spec_cut_ship_most {args : List AVal} {σ : AHeap} {R : ARes → AHeap → Prop} (ha : args.length ≤ 8) (h : AW Tryz.prog 8 none C_cut_ship_most (bodyQ R_cut_ship_most R) { v := argEnv args 0, ds := [] } σ) : Spec Tryz.prog F_cut_ship_most args σ R := Spec.of_fn Tryz.func64 K_cut_ship_most ha h
theorem B_cut_ship_most : hasBody Tryz.prog F_cut_ship_most = true := by kernel_rfl
theorem E_cut_ship_most : EntOk Tryz.prog ⟨64, 8, C_cut_ship_most, R_cut_ship_most, 0⟩ := ⟨fun _ => ⟨B_cut_ship_most, _, Tryz.func64, K_cut_ship_most⟩, fun h => by cases h⟩

abbrev F_cut_Next_1 : FuncId := 65
/-- orlop/cut.Next$1: parameters ['cut.set'], results ['bool'] -/
def C_cut_Next_1 : AC :=
 (.seq (.reg [⟨some 3, none, .mv (.c (.bool false))⟩] [0, 1])
 (.seq (.reg [⟨some 4, none, .load none (.t 1)⟩,
 ⟨some 5, none, .mv (.t 0)⟩,
 ⟨some 6, none, .call (.f 66) [false, false] [(.t 4), (.t 5)]⟩,
 ⟨some 3, none, .mv (.t 6)⟩] [3])
 .ret))
abbrev R_cut_Next_1 : List (Nat × Option (Option Nat)) := [(3, none)]
theorem K_cut_Next_1 : chkF Tryz.prog Tryz.f65 7 C_cut_Next_1 R_cut_Next_1 = true := by kernel_rfl
theorem spec_cut_Next_1 {args : List AVal} {σ : AHeap} {R : ARes → AHeap → Prop} (ha : args.length ≤ 7) (h : AW Tryz.prog 7 none C_cut_Next_1 (bodyQ R_cut_Next_1 R) { v := argEnv args 0, ds := [] } σ) : Spec Tryz.prog F_cut_Next_1 args σ R := Spec.of_fn Tryz.func65 K_cut_Next_1 ha h
theorem B_cut_Next_1 : hasBody Tryz.prog F_cut_Next_1 = true := by kernel_rfl
theorem E_cut_Next_1 : EntOk Tryz.prog ⟨65, 7, C_cut_Next_1, R_cut_Next_1, 0⟩ := ⟨fun _ => ⟨B_cut_Next_1, _, Tryz.func65, K_cut_Next_1⟩, fun h => by cases h⟩

abbrev F_cut_whole : FuncId := 66
/-- orlop/cut.whole: parameters ['func(cut.set) int', 'cut.set'], results ['bool'] -/
def C_cut_whole : AC :=
 (.seq (.reg [⟨some 4, none, .mv (.c (.bool false))⟩] [0, 1])
 (.seq (.reg [⟨some 5, none, .mv (.t 0)⟩,
 ⟨some 6, none, .mv (.t 1)⟩,
 ⟨some 7, none, .call (.t 5) [false] [(.t 6)]⟩,
 ⟨some 8, none, .mv (.t 1)⟩,
 ⟨some 9, none, .conv .u64 (.t 8)⟩,
 ⟨some 10, none, .call (.f 121) [false] [(.t 9)]⟩,
 ⟨some 11, none, .bin .eql (.t 7) (.t 10)⟩,
 ⟨some 4, none, .mv (.t 11)⟩] [4])
 .ret))
abbrev R_cut_whole : List (Nat × Option (Option Nat)) := [(4, none)]
theorem K_cut_whole : chkF Tryz.prog Tryz.f66 12 C_cut_whole R_cut_whole = true := by kernel_rfl
theorem spec_cut_whole {args : List AVal} {σ : AHeap} {R : ARes → AHeap → Prop} (ha : args.length ≤ 12) (h : AW Tryz.prog 12 none C_cut_whole (bodyQ R_cut_whole R) { v := argEnv args 0, ds := [] } σ) : Spec Tryz.prog F_cut_whole args σ R := Spec.of_fn Tryz.func66 K_cut_whole ha h
theorem B_cut_whole : hasBody Tryz.prog F_cut_whole = true := by kernel_rfl
theorem E_cut_whole : EntOk Tryz.prog ⟨66, 12, C_cut_whole, R_cut_whole, 0⟩ := ⟨fun _ => ⟨B_cut_whole, _, Tryz.func66, K_cut_whole⟩, fun h => by cases h⟩

abbrev F_cut_open : FuncId := 69
/-- orlop/cut.open: parameters ['api.CtTask'], results ['*cut.ship', 'api.Errno'] -/
def C_cut_open : AC :=
 (.seq (.reg [⟨some 1, none, .pbox 11 (.t 0)⟩,
 ⟨some 2, none, .mv (.c .nilptr)⟩,
 ⟨some 3, none, .mv (.c (.int .i64 0))⟩] [1])
 (.seq (.seq (.reg [⟨some 15, none, .load (some 11) (.t 1)⟩,
 ⟨some 16, none, .call (.f 14) [true] [(.t 15)]⟩,
 ⟨some 14, none, .mv (.t 16)⟩,
 ⟨some 17, none, .extract (.t 14) 0⟩,
 ⟨some 18, none, .extract (.t 14) 1⟩,
 ⟨some 19, none, .extract (.t 14) 2⟩,
 ⟨some 4, none, .mv (.t 17)⟩,
 ⟨some 5, none, .mv (.t 18)⟩,
 ⟨some 6, none, .mv (.t 19)⟩] [1, 6])
 (.seq (.reg [⟨some 20, none, .mv (.t 6)⟩,
 ⟨some 21, none, .bin .neq (.t 20) (.c (.int .i64 0))⟩] [1, 6, 21])
 (.cond (.t 21)
 (.seq (.reg [⟨some 22, none, .mv (.t 6)⟩,
 ⟨some 2, none, .mv (.c .nilptr)⟩,
 ⟨some 3, none, .mv (.t 22)⟩] [2, 3])
 .ret)
 .skip)))
 (.seq (.dreg [⟨some 23, none, .load (some 11) (.t 1)⟩,
 ⟨some 24, none, .fieldAddr (some 1) 0 (.t 1)⟩,
 ⟨some 25, none, .fieldAddr none 0 (.t 24)⟩,
 ⟨some 26, none, .load none (.t 25)⟩,
 ⟨some 27, none, .len (.t 26)⟩,
 ⟨some 28, none, .mksl 2 1 8 (.int .i64 0) (.t 27) (.t 27)⟩,
 ⟨some 29, none, .mnew⟩,
 ⟨some 30, none, .build [.slice 7 [], .slice 7 [], .int .i64 0, .int .i64 0, .int .i64 0, .int .i64 0, .slice 2 [], .slice 3 [], .slice 1 [], .slice 2 [], .slice 1 [], .slice 1 [], .int .i64 0, .nilmap] [(0, 11, (.t 23)), (11, 1, (.t 28)), (13, 1, (.t 29))]⟩,
 ⟨some 31, none, .box 14 (.t 30)⟩,
 ⟨some 7, none, .mv (.t 31)⟩] [1, 7] [[], [], [1], [1, 2], [1, 2, 3], [1, 2, 3, 4], [], [0, 1, 2, 3, 4, 5, 6], [0, 1, 2, 3, 4, 5, 6, 7], [0, 1, 2, 3, 4, 5, 6, 7, 8]])
 (.seq (.reg [⟨some 33, none, .fieldAddr (some 2) 6 (.t 1)⟩,
 ⟨some 34, none, .load (some 2) (.t 33)⟩,
 ⟨some 35, none, .fieldAddr none 8 (.t 1)⟩,
 ⟨some 36, none, .load none (.t 35)⟩,
 ⟨some 37, none, .fieldAddr none 9 (.t 1)⟩,
 ⟨some 38, none, .load none (.t 37)⟩,
 ⟨some 39, none, .call (.f 48) [true, true, true] [(.t 34), (.t 36), (.t 38)]⟩,
 ⟨some 32, none, .mv (.t 39)⟩,
 ⟨some 40, none, .extract (.t 32) 0⟩,
 ⟨some 41, none, .extract (.t 32) 1⟩,
 ⟨some 8, none, .alloc [.slice 1 [], .slice 1 []]⟩,
 ⟨none, none, .store 2 (.t 8) (.t 40)⟩,
 ⟨some 9, none, .mv (.t 41)⟩] [1, 7, 8])
 (.frz 8 true (.seq (.seq (.reg [⟨some 42, none, .fieldAddr (some 1) 0 (.t 1)⟩,
 ⟨some 43, none, .fieldAddr none 0 (.t 42)⟩,
 ⟨some 44, none, .load none (.t 43)⟩,
 ⟨some 45, none, .len (.t 44)⟩,
 ⟨some 46, none, .mv (.c (.int .i64 0))⟩] [1, 7, 8, 44, 45, 46])
 (.block 0
 (.loop [1, 7, 8, 44, 45, 46]
 (.seq (.reg [⟨some 47, none, .bin .lss (.t 46) (.t 45)⟩] [1, 7, 8, 44, 45, 46, 47])
 (.seq (.cond (.t 47)
 .skip
 (.exit 0))
 (.seq (.block 1
 (.seq (.reg [⟨some 48, none, .mv (.t 46)⟩,
 ⟨some 49, none, .ixS 7 (.t 44) (.t 46)⟩,
 ⟨some 50, none, .load (some 7) (.t 49)⟩,
 ⟨some 11, none, .alloc [.str ByteArray.empty, .int .i64 0, .int .i64 0, .int .i64 0, .slice 1 [], .int .i64 0, .int .i64 0]⟩,
 ⟨some 10, none, .mv (.t 48)⟩,
 ⟨none, none, .store 7 (.t 11) (.t 50)⟩] [1, 7, 8, 10, 11, 44, 45, 46])
 (.frz 11 true (.seq (.seq (.reg [⟨some 51, none, .fieldAddr (some 1) 0 (.t 1)⟩,
 ⟨some 52, none, .fieldAddr none 0 (.t 51)⟩,
 ⟨some 53, none, .load none (.t 52)⟩,
 ⟨some 54, none, .len (.t 53)⟩,
 ⟨some 55, none, .mv (.c (.int .i64 0))⟩] [1, 7, 8, 10, 11, 44, 45, 46, 53, 54, 55])
 (.block 2
 (.loop [1, 7, 8, 10, 11, 44, 45, 46, 53, 54, 55]
 (.seq (.reg [⟨some 56, none, .bin .lss (.t 55) (.t 54)⟩] [1, 7, 8, 10, 11, 44, 45, 46, 53, 54, 55, 56])
 (.seq (.cond (.t 56)
 .skip
 (.exit 2))
 (.seq (.block 3
 (.seq (.reg [⟨some 57, none, .mv (.t 55)⟩,
 ⟨some 58, none, .ixS 7 (.t 53) (.t 55)⟩,
 ⟨some 59, none, .load (some 7) (.t 58)⟩,
 ⟨some 13, none, .alloc [.str ByteArray.empty, .int .i64 0, .int .i64 0, .int .i64 0, .slice 1 [], .int .i64 0, .int .i64 0]⟩,
 ⟨some 12, none, .mv (.t 57)⟩,
 ⟨none, none, .store 7 (.t 13) (.t 59)⟩] [1, 7, 8, 10, 11, 12, 13, 44, 45, 46, 53, 54, 55])
 (.frz 13 true (.seq (.reg [⟨some 60, none, .fieldAddr none 4 (.t 13)⟩,
 ⟨some 61, none, .load none (.t 60)⟩,
 ⟨some 62, none, .fieldAddr none 0 (.t 11)⟩,
 ⟨some 63, none, .load none (.t 62)⟩,
 ⟨some 64, none, .call (.f 122) [true, false] [(.t 61), (.t 63)]⟩] [1, 7, 8, 10, 11, 12, 44, 45, 46, 53, 54, 55, 64])
 (.cond (.t 64)
 (.dreg [⟨some 65, none, .mv (.t 7)⟩,
 ⟨some 66, none, .nilchk (.t 65)⟩,
 ⟨some 67, none, .fieldAddr none 11 (.t 66)⟩,
 ⟨some 68, none, .load none (.t 67)⟩,
 ⟨some 69, none, .mv (.t 10)⟩,
 ⟨some 70, none, .ixS 1 (.t 68) (.t 69)⟩,
 ⟨some 71, none, .load none (.t 70)⟩,
 ⟨some 72, none, .mv (.t 12)⟩,
 ⟨some 73, none, .bin .shl (.c (.int .i64 1)) (.t 72)⟩,
 ⟨some 74, none, .bin .or (.t 71) (.t 73)⟩,
 ⟨some 75, none, .ixS 1 (.t 68) (.t 69)⟩,
 ⟨none, none, .store 1 (.t 75) (.t 74)⟩] [1, 7, 8, 10, 11, 44, 45, 46, 53, 54, 55] [[], [0], [0, 1], [0, 1, 2], [], [0, 1, 2, 3, 4], [0, 1, 2, 3, 4, 5], [], [7], [0, 1, 2, 3, 4, 5, 6, 7, 8], [0, 1, 2, 3, 4, 5, 6, 7, 8, 9], [0, 1, 2, 3, 4, 5, 6, 7, 8, 9, 10]])
 .skip)))))
 (.reg [⟨some 76, none, .bin .add (.t 55) (.c (.int .i64 1))⟩,
 ⟨some 55, none, .mv (.t 76)⟩] [1, 7, 8, 10, 11, 44, 45, 46, 53, 54, 55])))))))
 (.seq (.reg [⟨some 77, none, .fieldAddr none 10 (.t 1)⟩,
 ⟨some 78, none, .load none (.t 77)⟩,
 ⟨some 79, none, .mv (.t 10)⟩,
 ⟨some 80, none, .ixS 1 (.t 78) (.t 79)⟩,
 ⟨some 81, none, .load none (.t 80)⟩,
 ⟨some 82, none, .mkfunc (.func 123) [] [(.t 8)]⟩,
 ⟨some 83, none, .call (.f 100) [true, false] [(.t 81), (.t 82)]⟩] [1, 7, 8, 10, 44, 45, 46, 83])
 (.cond (.t 83)
 (.dreg [⟨some 84, none, .mv (.t 7)⟩,
 ⟨some 85, none, .nilchk (.t 84)⟩,
 ⟨some 86, none, .fieldAddr none 12 (.t 85)⟩,
 ⟨some 87, none, .load none (.t 86)⟩,
 ⟨some 88, none, .mv (.t 10)⟩,
 ⟨some 89, none, .bin .shl (.c (.int .i64 1)) (.t 88)⟩,
 ⟨some 90, none, .bin .or (.t 87) (.t 89)⟩,
 ⟨some 91, none, .nilchk (.t 84)⟩,
 ⟨some 92, none, .fieldAddr none 12 (.t 91)⟩,
 ⟨none, none, .store 1 (.t 92) (.t 90)⟩] [1, 7, 8, 44, 45, 46] [[], [0], [0, 1], [0, 1, 2], [], [4], [0, 1, 2, 3, 4, 5], [0, 1, 2, 3, 4, 5, 6], [0, 1, 2, 3, 4, 5, 6, 7], [0, 1, 2, 3, 4, 5, 6, 7, 8]])
 .skip))))))
 (.reg [⟨some 93, none, .bin .add (.t 46) (.c (.int .i64 1))⟩,
 ⟨some 46, none, .mv (.t 93)⟩] [1, 7, 8, 44, 45, 46])))))))
 (.seq (.reg [⟨some 94, none, .mv (.t 7)⟩,
 ⟨some 2, none, .mv (.t 94)⟩,
 ⟨some 3, none, .mv (.c (.int .i64 0))⟩] [2, 3])
 .ret)))))))
abbrev R_cut_open : List (Nat × Option (Option Nat)) := [(2, none), (3, none)]
theorem K_cut_open : chkF Tryz.prog Tryz.f69 95 C_cut_open R_cut_open = true := by kernel_rfl
theorem spec_cut_open {args : List AVal} {σ : AHeap} {R : ARes → AHeap → Prop} (ha : args.length ≤ 95) (h : AW Tryz.prog 95 none C_cut_open (bodyQ R_cut_open R) { v := argEnv args 0, ds := [] } σ) : Spec Tryz.prog F_cut_open args σ R := Spec.of_fn Tryz.func69 K_cut_open ha h
theorem B_cut_open : hasBody Tryz.prog F_cut_open = true := by kernel_rfl
theorem E_cut_open : EntOk Tryz.prog ⟨69, 95, C_cut_open, R_cut_open, 2⟩ := ⟨fun _ => ⟨B_cut_open, _, Tryz.func69, K_cut_open⟩, fun h => by cases h⟩

abbrev F_cut_ship_longest : FuncId := 70
/-- (*orlop/cut.ship).longest: parameters ['*cut.ship'], results ['[]int'] -/
def C_cut_ship_longest : AC :=
 (.seq (.reg [⟨some 2, none, .alloc [.mint 1]⟩] [0, 2])
 (.seq (.reg [⟨some 7, none, .mv (.t 0)⟩,
 ⟨some 8, none, .call (.f 64) [false] [(.t 7)]⟩,
 ⟨some 3, none, .alloc [.nilfunc]⟩,
 ⟨none, none, .store 1 (.t 3) (.t 8)⟩] [0, 2, 3])
 (.frz 3 false (.seq (.seq (.reg [⟨some 9, none, .mv (.t 0)⟩,
 ⟨some 10, none, .call (.f 77) [false] [(.t 9)]⟩,
 ⟨some 4, none, .alloc [.int .i64 0]⟩,
 ⟨none, none, .store 1 (.t 4) (.t 10)⟩] [0, 2, 3, 4])
 (.block 0
 (.loop [0, 2, 3, 4]
 (.seq (.seq (.reg [⟨some 11, none, .load none (.t 3)⟩,
 ⟨some 12, none, .load none (.t 4)⟩,
 ⟨some 13, none, .call (.t 11) [false] [(.t 12)]⟩,
 ⟨some 14, none, .bin .gtr (.t 13) (.c (.int .i64 0))⟩] [0, 2, 3, 4, 14])
 (.cond (.t 14)
 .skip
 (.exit 0)))
 (.seq (.block 1
 (.seq (.reg [⟨some 15, none, .mv (.t 0)⟩,
 ⟨some 16, none, .load none (.t 4)⟩,
 ⟨some 17, none, .call (.f 61) [false, false] [(.t 15), (.t 16)]⟩] [0, 2, 3, 4, 17])
 (.block 2
 (.rangeF (.t 17) [18, 19] (.seq (.reg [⟨some 5, none, .mv (.t 18)⟩] [0, 2, 3, 4, 5, 19])
 (.reg [⟨some 6, none, .mv (.t 19)⟩] [0, 2, 3, 4, 5, 6]))
 (.block 3
 (.seq (.qreg [⟨some 20, none, .load none (.t 3)⟩,
 ⟨some 21, none, .mv (.t 6)⟩,
 ⟨some 22, none, .call (.t 20) [false] [(.t 21)]⟩,
 ⟨some 23, none, .load none (.t 3)⟩,
 ⟨some 24, none, .load none (.t 4)⟩,
 ⟨some 25, none, .call (.t 23) [false] [(.t 24)]⟩,
 ⟨some 26, none, .bin .sub (.t 25) (.c (.int .i64 1))⟩,
 ⟨some 27, none, .bin .eql (.t 22) (.t 26)⟩] [0, 2, 3, 4, 5, 6, 27] [[], [], [0, 1], [], [], [0, 1, 2, 3, 4], [0, 1, 2, 3, 4, 5], [0, 1, 2, 3, 4, 5, 6]] [([0, 1, 3, 4], 2), ([], 5)] [6, 7])
 (.cond (.t 27)
 (.seq (.reg [⟨some 28, none, .load none (.t 2)⟩,
 ⟨some 29, none, .mv (.t 5)⟩,
 ⟨some 30, none, .lit 0 1 1 [(0, (.t 29))]⟩,
 ⟨some 31, none, .append 1 8 (.t 28) (.t 30)⟩,
 ⟨some 32, none, .mv (.t 6)⟩,
 ⟨none, none, .store 1 (.t 2) (.t 31)⟩,
 ⟨none, none, .store 1 (.t 4) (.t 32)⟩] [0, 2, 3, 4])
 (.exit 2))
 .skip)))))))
 (.seq (.reg [⟨some 33, none, .load none (.t 4)⟩] [0, 2, 3, 33])
 (.reg [⟨some 4, none, .alloc [.int .i64 0]⟩,
 ⟨none, none, .store 1 (.t 4) (.t 33)⟩] [0, 2, 3, 4])))))))
 (.seq (.reg [⟨some 34, none, .loadd none (.t 2)⟩,
 ⟨none, none, .store 1 (.t 2) (.t 34)⟩] [2])
 .ret)))))
abbrev R_cut_ship_longest : List (Nat × Option (Option Nat)) := [(2, some none)]
theorem K_cut_ship_longest : chkF Tryz.prog Tryz.f70 35 C_cut_ship_longest R_cut_ship_longest = true := by kernel_rfl
theorem spec_cut_ship_longest {args : List AVal} {σ : AHeap} {R : ARes → AHeap → Prop} (ha : args.length ≤ 35) (h : AW Tryz.prog 35 none C_cut_ship_longest (bodyQ R_cut_ship_longest R) { v := argEnv args 0, ds := [] } σ) : Spec Tryz.prog F_cut_ship_longest args σ R := Spec.of_fn Tryz.func70 K_cut_ship_longest ha h
theorem B_cut_ship_longest : hasBody Tryz.prog F_cut_ship_longest = true := by kernel_rfl
theorem E_cut_ship_longest : EntOk Tryz.prog ⟨70, 35, C_cut_ship_longest, R_cut_ship_longest, 0⟩ := ⟨fun _ => ⟨B_cut_ship_longest, _, Tryz.func70, K_cut_ship_longest⟩, fun h => by cases h⟩

abbrev F_cut_ship_reached : FuncId := 72
/-- (*orlop/cut.ship).reached: parameters ['*cut.ship'], results ['iter.Seq[orlop/cut.place]'] -/
def C_cut_ship_reached : AC :=
 (.seq (.reg [⟨some 1, none, .pbox 1 (.t 0)⟩,
 ⟨some 2, none, .mv (.c .nilfunc)⟩] [1])
 (.seq (.reg [⟨some 3, none, .mkfunc (.func 124) [] [(.t 1)]⟩,
 ⟨some 2, none, .mv (.t 3)⟩] [2])
 .ret))
abbrev R_cut_ship_reached : List (Nat × Option (Option Nat)) := [(2, none)]
theorem K_cut_ship_reached : chkF Tryz.prog Tryz.f72 4 C_cut_ship_reached R_cut_ship_reached = true := by kernel_rfl
theorem spec_cut_ship_reached {args : List AVal} {σ : AHeap} {R : ARes → AHeap → Prop} (ha : args.length ≤ 4) (h : AW Tryz.prog 4 none C_cut_ship_reached (bodyQ R_cut_ship_reached R) { v := argEnv args 0, ds := [] } σ) : Spec Tryz.prog F_cut_ship_reached args σ R := Spec.of_fn Tryz.func72 K_cut_ship_reached ha h
theorem B_cut_ship_reached : hasBody Tryz.prog F_cut_ship_reached = true := by kernel_rfl
theorem E_cut_ship_reached : EntOk Tryz.prog ⟨72, 4, C_cut_ship_reached, R_cut_ship_reached, 0⟩ := ⟨fun _ => ⟨B_cut_ship_reached, _, Tryz.func72, K_cut_ship_reached⟩, fun h => by cases h⟩

abbrev F_cut_ship_why : FuncId := 73
/-- (*orlop/cut.ship).why: parameters ['*cut.ship', 'cut.set', 'int'], results ['int'] -/
def C_cut_ship_why : AC :=
 (.seq (.reg [⟨some 6, none, .mv (.c (.int .i64 0))⟩] [0, 1, 2])
 (.seq (.seq (.reg [⟨some 9, none, .mv (.t 0)⟩,
 ⟨some 10, none, .mkfunc (.func 125) [(.t 9)] []⟩,
 ⟨some 11, none, .mv (.t 0)⟩,
 ⟨some 12, none, .mkfunc (.func 126) [(.t 11)] []⟩,
 ⟨some 13, none, .mv (.t 0)⟩,
 ⟨some 14, none, .mkfunc (.func 127) [(.t 13)] []⟩,
 ⟨some 15, none, .mv (.t 0)⟩,
 ⟨some 16, none, .mkfunc (.func 128) [(.t 15)] []⟩,
 ⟨some 17, none, .build [.nilfunc, .nilfunc, .nilfunc, .nilfunc] [(0, 1, (.t 10)), (1, 1, (.t 12)), (2, 1, (.t 14)), (3, 1, (.t 16))]⟩,
 ⟨some 18, none, .mv (.c (.int .i64 0))⟩] [1, 2, 17, 18])
 (.block 0
 (.loop [1, 2, 17, 18]
 (.seq (.reg [⟨some 19, none, .bin .lss (.t 18) (.c (.int .i64 4))⟩] [1, 2, 17, 18, 19])
 (.seq (.cond (.t 19)
 .skip
 (.exit 0))
 (.seq (.block 1
 (.seq (.reg [⟨some 20, none, .mv (.t 18)⟩,
 ⟨some 21, none, .ixV 4 1 none (.t 17) (.t 18)⟩,
 ⟨some 7, none, .mv (.t 20)⟩,
 ⟨some 8, none, .mv (.t 21)⟩] [1, 2, 7, 8, 17, 18])
 (.seq (.reg [⟨some 22, none, .mv (.t 8)⟩,
 ⟨some 23, none, .mv (.t 1)⟩,
 ⟨some 24, none, .mv (.t 2)⟩,
 ⟨some 25, none, .call (.t 22) [false, false] [(.t 23), (.t 24)]⟩] [1, 2, 7, 17, 18, 25])
 (.cond (.t 25)
 (.seq (.reg [⟨some 26, none, .mv (.t 7)⟩,
 ⟨some 27, none, .bin .add (.c (.int .i64 1)) (.t 26)⟩,
 ⟨some 6, none, .mv (.t 27)⟩] [6])
 .ret)
 .skip))))
 (.reg [⟨some 28, none, .bin .add (.t 18) (.c (.int .i64 1))⟩,
 ⟨some 18, none, .mv (.t 28)⟩] [1, 2, 17, 18])))))))
 (.seq (.reg [⟨some 6, none, .mv (.c (.int .i64 0))⟩] [6])
 .ret)))
abbrev R_cut_ship_why : List (Nat × Option (Option Nat)) := [(6, none)]
theorem K_cut_ship_why : chkF Tryz.prog Tryz.f73 29 C_cut_ship_why R_cut_ship_why = true := by kernel_rfl
theorem spec_cut_ship_why {args : List AVal} {σ : AHeap} {R : ARes → AHeap → Prop} (ha : args.length ≤ 29) (h : AW Tryz.prog 29 none C_cut_ship_why (bodyQ R_cut_ship_why R) { v := argEnv args 0, ds := [] } σ) : Spec Tryz.prog F_cut_ship_why args σ R := Spec.of_fn Tryz.func73 K_cut_ship_why ha h
theorem B_cut_ship_why : hasBody Tryz.prog F_cut_ship_why = true := by kernel_rfl
theorem E_cut_ship_why : EntOk Tryz.prog ⟨73, 29, C_cut_ship_why, R_cut_ship_why, 0⟩ := ⟨fun _ => ⟨B_cut_ship_why, _, Tryz.func73, K_cut_ship_why⟩, fun h => by cases h⟩

abbrev F_slices_Clone_int_int : FuncId := 74
/-- slices.Clone[[]int,int]: parameters ['[]int'], results ['[]int'] -/
def C_slices_Clone_int_int : AC :=
 (.seq (.reg [⟨some 2, none, .mv (.c (.slice 1 []))⟩] [0])
 (.seq (.seq (.reg [⟨some 3, none, .mv (.t 0)⟩,
 ⟨some 4, none, .snil false (.t 3)⟩] [0, 4])
 (.cond (.t 4)
 (.seq (.reg [⟨some 2, none, .nilS 3 1⟩] [2])
 .ret)
 .skip))
 (.seq (.reg [⟨some 5, none, .lit 1 1 0 []⟩,
 ⟨some 6, none, .mv (.t 0)⟩,
 ⟨some 7, none, .append 1 8 (.t 5) (.t 6)⟩,
 ⟨some 2, none, .mv (.t 7)⟩] [2])
 .ret)))
abbrev R_slices_Clone_int_int : List (Nat × Option (Option Nat)) := [(2, none)]
theorem K_slices_Clone_int_int : chkF Tryz.prog Tryz.f74 8 C_slices_Clone_int_int R_slices_Clone_int_int = true := by kernel_rfl
theorem spec_slices_Clone_int_int {args : List AVal} {σ : AHeap} {R : ARes → AHeap → Prop} (ha : args.length ≤ 8) (h : AW Tryz.prog 8 none C_slices_Clone_int_int (bodyQ R_slices_Clone_int_int R) { v := argEnv args 0, ds := [] } σ) : Spec Tryz.prog F_slices_Clone_int_int args σ R := Spec.of_fn Tryz.func74 K_slices_Clone_int_int ha h
theorem B_slices_Clone_int_int : hasBody Tryz.prog F_slices_Clone_int_int = true := by kernel_rfl
theorem E_slices_Clone_int_int : EntOk Tryz.prog ⟨74, 8, C_slices_Clone_int_int, R_slices_Clone_int_int, 0⟩ := ⟨fun _ => ⟨B_slices_Clone_int_int, _, Tryz.func74, K_slices_Clone_int_int⟩, fun h => by cases h⟩

abbrev F_slices_Sort_int_int : FuncId := 75
/-- slices.Sort[[]int,int]: parameters ['[]int'], results [] -/
def C_slices_Sort_int_int : AC :=
 (.seq (.reg [⟨some 3, none, .mv (.t 0)⟩,
 ⟨some 4, none, .len (.t 3)⟩,
 ⟨some 2, none, .mv (.t 4)⟩] [0, 2])
 (.reg [⟨some 5, none, .mv (.t 0)⟩,
 ⟨some 6, none, .mv (.t 2)⟩,
 ⟨some 7, none, .mv (.t 2)⟩,
 ⟨some 8, none, .conv .u64 (.t 7)⟩,
 ⟨some 9, none, .call (.f 130) [false] [(.t 8)]⟩,
 ⟨some 10, none, .call (.f 129) [true, false, false, false] [(.t 5), (.c (.int .i64 0)), (.t 6), (.t 9)]⟩] []))
abbrev R_slices_Sort_int_int : List (Nat × Option (Option Nat)) := []
theorem K_slices_Sort_int_int : chkF Tryz.prog Tryz.f75 11 C_slices_Sort_int_int R_slices_Sort_int_int = true := by kernel_rfl
theorem spec_slices_Sort_int_int {args : List AVal} {σ : AHeap} {R : ARes → AHeap → Prop} (ha : args.length ≤ 11) (h : AW Tryz.prog 11 none C_slices_Sort_int_int (bodyQ R_slices_Sort_int_int R) { v := argEnv args 0, ds := [] } σ) : Spec Tryz.prog F_slices_Sort_int_int args σ R := Spec.of_fn Tryz.func75 K_slices_Sort_int_int ha h
theorem B_slices_Sort_int_int : hasBody Tryz.prog F_slices_Sort_int_int = true := by kernel_rfl
theorem E_slices_Sort_int_int : EntOk Tryz.prog ⟨75, 11, C_slices_Sort_int_int, R_slices_Sort_int_int, 0⟩ := ⟨fun _ => ⟨B_slices_Sort_int_int, _, Tryz.func75, K_slices_Sort_int_int⟩, fun h => by cases h⟩

abbrev F_cut_ship_all : FuncId := 77
/-- (*orlop/cut.ship).all: parameters ['*cut.ship'], results ['cut.set'] -/
def C_cut_ship_all : AC :=
 (.seq (.reg [⟨some 2, none, .mv (.c (.int .i64 0))⟩] [0])
 (.seq (.reg [⟨some 3, none, .mv (.t 0)⟩,
 ⟨some 4, none, .nilchk (.t 3)⟩,
 ⟨some 5, none, .fieldAddr none 11 (.t 4)⟩,
 ⟨some 6, none, .load none (.t 5)⟩,
 ⟨some 7, none, .len (.t 6)⟩,
 ⟨some 8, none, .bin .shl (.c (.int .i64 1)) (.t 7)⟩,
 ⟨some 9, none, .bin .sub (.t 8) (.c (.int .i64 1))⟩,
 ⟨some 2, none, .mv (.t 9)⟩] [2])
 .ret))
abbrev R_cut_ship_all : List (Nat × Option (Option Nat)) := [(2, none)]
theorem K_cut_ship_all : chkF Tryz.prog Tryz.f77 10 C_cut_ship_all R_cut_ship_all = true := by kernel_rfl
theorem spec_cut_ship_all {args : List AVal} {σ : AHeap} {R : ARes → AHeap → Prop} (ha : args.length ≤ 10) (h : AW Tryz.prog 10 none C_cut_ship_all (bodyQ R_cut_ship_all R) { v := argEnv args 0, ds := [] } σ) : Spec Tryz.prog F_cut_ship_all args σ R := Spec.of_fn Tryz.func77 K_cut_ship_all ha h
theorem B_cut_ship_all : hasBody Tryz.prog F_cut_ship_all = true := by kernel_rfl
theorem E_cut_ship_all : EntOk Tryz.prog ⟨77, 10, C_cut_ship_all, R_cut_ship_all, 0⟩ := ⟨fun _ => ⟨B_cut_ship_all, _, Tryz.func77, K_cut_ship_all⟩, fun h => by cases h⟩

abbrev F_slices_Contains_int_int : FuncId := 78
/-- slices.Contains[[]int,int]: parameters ['[]int', 'int'], results ['bool'] -/
def C_slices_Contains_int_int : AC :=
 (.seq (.reg [⟨some 4, none, .mv (.c (.bool false))⟩] [0, 1])
 (.seq (.reg [⟨some 5, none, .mv (.t 0)⟩,
 ⟨some 6, none, .mv (.t 1)⟩,
 ⟨some 7, none, .call (.f 131) [true, false] [(.t 5), (.t 6)]⟩,
 ⟨some 8, none, .bin .geq (.t 7) (.c (.int .i64 0))⟩,
 ⟨some 4, none, .mv (.t 8)⟩] [4])
 .ret))
abbrev R_slices_Contains_int_int : List (Nat × Option (Option Nat)) := [(4, none)]
theorem K_slices_Contains_int_int : chkF Tryz.prog Tryz.f78 9 C_slices_Contains_int_int R_slices_Contains_int_int = true := by kernel_rfl
theorem spec_slices_Contains_int_int {args : List AVal} {σ : AHeap} {R : ARes → AHeap → Prop} (ha : args.length ≤ 9) (h : AW Tryz.prog 9 none C_slices_Contains_int_int (bodyQ R_slices_Contains_int_int R) { v := argEnv args 0, ds := [] } σ) : Spec Tryz.prog F_slices_Contains_int_int args σ R := Spec.of_fn Tryz.func78 K_slices_Contains_int_int ha h
theorem B_slices_Contains_int_int : hasBody Tryz.prog F_slices_Contains_int_int = true := by kernel_rfl
theorem E_slices_Contains_int_int : EntOk Tryz.prog ⟨78, 9, C_slices_Contains_int_int, R_slices_Contains_int_int, 0⟩ := ⟨fun _ => ⟨B_slices_Contains_int_int, _, Tryz.func78, K_slices_Contains_int_int⟩, fun h => by cases h⟩

abbrev F_l06_Task_1 : FuncId := 79
/-- orlop/orloplaw06.Task$1: parameters ['string', 'int', 'int', 'int'], results ['api.HuPart'] -/
def C_l06_Task_1 : AC :=
 (.seq (.reg [⟨some 8, none, .alloc [.str ByteArray.empty, .int .i64 0, .int .i64 0, .int .i64 0, .slice 1 [], .int .i64 0, .int .i64 0]⟩] [0, 1, 2, 3, 8])
 (.seq (.reg [⟨some 9, none, .mv (.t 0)⟩,
 ⟨some 10, none, .mv (.t 1)⟩,
 ⟨some 11, none, .mv (.t 2)⟩,
 ⟨some 12, none, .mv (.t 3)⟩,
 ⟨some 13, none, .call (.f 80) [false, false] [(.c (.int .i64 1)), (.c (.int .i64 1))]⟩,
 ⟨some 14, none, .build [.str ByteArray.empty, .int .i64 0, .int .i64 0, .int .i64 0, .slice 1 [], .int .i64 0, .int .i64 0] [(0, 1, (.t 9)), (1, 1, (.t 10)), (2, 1, (.t 11)), (3, 1, (.t 12)), (5, 2, (.t 13))]⟩,
 ⟨none, none, .store 7 (.t 8) (.t 14)⟩] [8])
 .ret))
abbrev R_l06_Task_1 : List (Nat × Option (Option Nat)) := [(8, some (some 7))]
theorem K_l06_Task_1 : chkF Tryz.prog Tryz.f79 15 C_l06_Task_1 R_l06_Task_1 = true := by kernel_rfl
theorem spec_l06_Task_1 {args : List AVal} {σ : AHeap} {R : ARes → AHeap → Prop} (ha : args.length ≤ 15) (h : AW Tryz.prog 15 none C_l06_Task_1 (bodyQ R_l06_Task_1 R) { v := argEnv args 0, ds := [] } σ) : Spec Tryz.prog F_l06_Task_1 args σ R := Spec.of_fn Tryz.func79 K_l06_Task_1 ha h
theorem B_l06_Task_1 : hasBody Tryz.prog F_l06_Task_1 = true := by kernel_rfl
theorem E_l06_Task_1 : EntOk Tryz.prog ⟨79, 15, C_l06_Task_1, R_l06_Task_1, 0⟩ := ⟨fun _ => ⟨B_l06_Task_1, _, Tryz.func79, K_l06_Task_1⟩, fun h => by cases h⟩

abbrev F_l06_span : FuncId := 80
/-- orlop/orloplaw06.span: parameters ['int', 'int'], results ['api.Span'] -/
def C_l06_span : AC :=
 (.seq (.reg [⟨some 4, none, .alloc [.int .i64 0, .int .i64 0]⟩] [0, 1, 4])
 (.seq (.reg [⟨some 5, none, .mv (.t 0)⟩,
 ⟨some 6, none, .mv (.t 1)⟩,
 ⟨some 7, none, .build [.int .i64 0, .int .i64 0] [(0, 1, (.t 5)), (1, 1, (.t 6))]⟩,
 ⟨none, none, .store 2 (.t 4) (.t 7)⟩] [4])
 .ret))
abbrev R_l06_span : List (Nat × Option (Option Nat)) := [(4, some (some 2))]
theorem K_l06_span : chkF Tryz.prog Tryz.f80 8 C_l06_span R_l06_span = true := by kernel_rfl
theorem spec_l06_span {args : List AVal} {σ : AHeap} {R : ARes → AHeap → Prop} (ha : args.length ≤ 8) (h : AW Tryz.prog 8 none C_l06_span (bodyQ R_l06_span R) { v := argEnv args 0, ds := [] } σ) : Spec Tryz.prog F_l06_span args σ R := Spec.of_fn Tryz.func80 K_l06_span ha h
theorem B_l06_span : hasBody Tryz.prog F_l06_span = true := by kernel_rfl
theorem E_l06_span : EntOk Tryz.prog ⟨80, 8, C_l06_span, R_l06_span, 0⟩ := ⟨fun _ => ⟨B_l06_span, _, Tryz.func80, K_l06_span⟩, fun h => by cases h⟩

abbrev F_l05_Hull : FuncId := 81
/-- orlop/orloplaw05.Hull: parameters [], results ['api.StHull'] -/
def C_l05_Hull : AC :=
 (.seq (.reg [⟨some 0, none, .alloc [.slice 7 [], .int .i64 0, .int .i64 0]⟩] [0])
 (.seq (.reg [⟨some 1, none, .call (.f 132) [false, false] [(.c (.int .i64 1000)), (.c (.int .i64 1200))]⟩,
 ⟨some 2, none, .call (.f 132) [false, false] [(.c (.int .i64 10)), (.c (.int .i64 12))]⟩,
 ⟨some 3, none, .build [.str ByteArray.empty, .int .i64 0, .int .i64 0, .int .i64 0, .int .i64 0, .int .i64 0, .int .i64 0] [(0, 1, (.c (.str ⟨#[98, 111, 119]⟩))), (1, 1, (.c (.int .i64 100))), (2, 2, (.t 1)), (4, 1, (.c (.int .i64 50))), (5, 2, (.t 2))]⟩,
 ⟨some 4, none, .call (.f 132) [false, false] [(.c (.int .i64 500)), (.c (.int .i64 600))]⟩,
 ⟨some 5, none, .call (.f 132) [false, false] [(.c (.int .i64 4)), (.c (.int .i64 5))]⟩,
 ⟨some 6, none, .build [.str ByteArray.empty, .int .i64 0, .int .i64 0, .int .i64 0, .int .i64 0, .int .i64 0, .int .i64 0] [(0, 1, (.c (.str ⟨#[109, 105, 100]⟩))), (1, 1, (.c (.int .i64 400))), (2, 2, (.t 4)), (4, 1, (.c (.int .i64 100))), (5, 2, (.t 5))]⟩,
 ⟨some 7, none, .call (.f 132) [false, false] [(.c (.int .i64 2000)), (.c (.int .i64 2000))]⟩,
 ⟨some 8, none, .call (.f 132) [false, false] [(.c (.int .i64 20)), (.c (.int .i64 20))]⟩,
 ⟨some 9, none, .build [.str ByteArray.empty, .int .i64 0, .int .i64 0, .int .i64 0, .int .i64 0, .int .i64 0, .int .i64 0] [(0, 1, (.c (.str ⟨#[115, 116, 101, 114, 110]⟩))), (1, 1, (.c (.int .i64 900))), (2, 2, (.t 7)), (4, 1, (.c (.int .i64 100))), (5, 2, (.t 8))]⟩,
 ⟨some 10, none, .lit 0 7 3 [(0, (.t 3)), (1, (.t 6)), (2, (.t 9))]⟩,
 ⟨some 11, none, .build [.slice 7 [], .int .i64 0, .int .i64 0] [(0, 1, (.t 10)), (1, 1, (.c (.int .i64 200))), (2, 1, (.c (.int .i64 800)))]⟩,
 ⟨none, none, .store 3 (.t 0) (.t 11)⟩] [0])
 .ret))
abbrev R_l05_Hull : List (Nat × Option (Option Nat)) := [(0, some (some 3))]
theorem K_l05_Hull : chkF Tryz.prog Tryz.f81 12 C_l05_Hull R_l05_Hull = true := by kernel_rfl
theorem spec_l05_Hull {args : List AVal} {σ : AHeap} {R : ARes → AHeap → Prop} (ha : args.length ≤ 12) (h : AW Tryz.prog 12 none C_l05_Hull (bodyQ R_l05_Hull R) { v := argEnv args 0, ds := [] } σ) : Spec Tryz.prog F_l05_Hull args σ R := Spec.of_fn Tryz.func81 K_l05_Hull ha h
theorem B_l05_Hull : hasBody Tryz.prog F_l05_Hull = true := by kernel_rfl
theorem E_l05_Hull : EntOk Tryz.prog ⟨81, 12, C_l05_Hull, R_l05_Hull, 0⟩ := ⟨fun _ => ⟨B_l05_Hull, _, Tryz.func81, K_l05_Hull⟩, fun h => by cases h⟩

abbrev F_l04_Net : FuncId := 82
/-- orlop/orloplaw04.Net: parameters ['bool'], results ['api.VnNet'] -/
def C_l04_Net : AC :=
 (.seq (.reg [⟨some 2, none, .alloc [.slice 2 [], .slice 3 []]⟩] [0, 2])
 (.seq (.reg [⟨some 3, none, .build [.str ByteArray.empty, .bool false] [(0, 1, (.c (.str ⟨#[97]⟩))), (1, 1, (.c (.bool true)))]⟩,
 ⟨some 4, none, .build [.str ByteArray.empty, .bool false] [(0, 1, (.c (.str ⟨#[98]⟩)))]⟩,
 ⟨some 5, none, .build [.str ByteArray.empty, .bool false] [(0, 1, (.c (.str ⟨#[99]⟩)))]⟩,
 ⟨some 6, none, .build [.str ByteArray.empty, .bool false] [(0, 1, (.c (.str ⟨#[100]⟩)))]⟩,
 ⟨some 7, none, .build [.str ByteArray.empty, .bool false] [(0, 1, (.c (.str ⟨#[101]⟩)))]⟩,
 ⟨some 8, none, .lit 0 2 5 [(0, (.t 3)), (1, (.t 4)), (2, (.t 5)), (3, (.t 6)), (4, (.t 7))]⟩,
 ⟨some 9, none, .mv (.t 0)⟩,
 ⟨some 10, none, .build [.int .i64 0, .int .i64 0, .bool false] [(0, 1, (.c (.int .i64 0))), (1, 1, (.c (.int .i64 1))), (2, 1, (.t 9))]⟩,
 ⟨some 11, none, .build [.int .i64 0, .int .i64 0, .bool false] [(0, 1, (.c (.int .i64 1))), (1, 1, (.c (.int .i64 2)))]⟩,
 ⟨some 12, none, .build [.int .i64 0, .int .i64 0, .bool false] [(0, 1, (.c (.int .i64 0))), (1, 1, (.c (.int .i64 2)))]⟩,
 ⟨some 13, none, .build [.int .i64 0, .int .i64 0, .bool false] [(0, 1, (.c (.int .i64 2))), (1, 1, (.c (.int .i64 3)))]⟩,
 ⟨some 14, none, .build [.int .i64 0, .int .i64 0, .bool false] [(0, 1, (.c (.int .i64 3))), (1, 1, (.c (.int .i64 4)))]⟩,
 ⟨some 15, none, .build [.int .i64 0, .int .i64 0, .bool false] [(0, 1, (.c (.int .i64 2))), (1, 1, (.c (.int .i64 4)))]⟩,
 ⟨some 16, none, .lit 0 3 6 [(0, (.t 10)), (1, (.t 11)), (2, (.t 12)), (3, (.t 13)), (4, (.t 14)), (5, (.t 15))]⟩,
 ⟨some 17, none, .build [.slice 2 [], .slice 3 []] [(0, 1, (.t 8)), (1, 1, (.t 16))]⟩,
 ⟨none, none, .store 2 (.t 2) (.t 17)⟩] [2])
 .ret))
abbrev R_l04_Net : List (Nat × Option (Option Nat)) := [(2, some (some 2))]
theorem K_l04_Net : chkF Tryz.prog Tryz.f82 18 C_l04_Net R_l04_Net = true := by kernel_rfl
theorem spec_l04_Net {args : List AVal} {σ : AHeap} {R : ARes → AHeap → Prop} (ha : args.length ≤ 18) (h : AW Tryz.prog 18 none C_l04_Net (bodyQ R_l04_Net R) { v := argEnv args 0, ds := [] } σ) : Spec Tryz.prog F_l04_Net args σ R := Spec.of_fn Tryz.func82 K_l04_Net ha h
theorem B_l04_Net : hasBody Tryz.prog F_l04_Net = true := by kernel_rfl
theorem E_l04_Net : EntOk Tryz.prog ⟨82, 18, C_l04_Net, R_l04_Net, 0⟩ := ⟨fun _ => ⟨B_l04_Net, _, Tryz.func82, K_l04_Net⟩, fun h => by cases h⟩

abbrev F_hull_build : FuncId := 88
/-- orlop/hull.build: parameters ['api.HuPlan', 'int'], results ['hull.ship', 'int', 'int', 'api.Errno'] -/
def C_hull_build : AC :=
 (.seq (.reg [⟨some 2, none, .pbox 2 (.t 0)⟩,
 ⟨some 4, none, .alloc [.slice 7 []]⟩,
 ⟨some 5, none, .mv (.c (.int .i64 0))⟩,
 ⟨some 6, none, .mv (.c (.int .i64 0))⟩,
 ⟨some 7, none, .mv (.c (.int .i64 0))⟩] [1, 2, 4])
 (.seq (.reg [⟨some 17, none, .fieldAddr (some 1) 0 (.t 2)⟩,
 ⟨some 18, none, .load (some 1) (.t 17)⟩,
 ⟨some 19, none, .build [.slice 7 []] [(0, 1, (.t 18))]⟩,
 ⟨some 8, none, .alloc [.slice 7 []]⟩,
 ⟨none, none, .store 1 (.t 8) (.t 19)⟩] [1, 2, 4, 8])
 (.seq (.seq (.reg [⟨some 20, none, .fieldAddr (some 1) 0 (.t 8)⟩,
 ⟨some 21, none, .fieldAddr none 0 (.t 20)⟩,
 ⟨some 22, none, .load none (.t 21)⟩,
 ⟨some 23, none, .len (.t 22)⟩,
 ⟨some 24, none, .bin .gtr (.t 23) (.c (.int .i64 12))⟩] [1, 2, 4, 8, 24])
 (.cond (.t 24)
 (.seq (.reg [⟨some 25, none, .loadd (some 1) (.t 4)⟩,
 ⟨none, none, .store 1 (.t 4) (.t 25)⟩,
 ⟨some 5, none, .mv (.c (.int .i64 1))⟩,
 ⟨some 6, none, .mv (.c (.int .i64 0))⟩,
 ⟨some 7, none, .mv (.c (.int .i64 3))⟩] [4, 5, 6, 7])
 .ret)
 .skip))
 (.seq (.seq (.reg [⟨some 26, none, .fieldAddr (some 1) 0 (.t 8)⟩,
 ⟨some 27, none, .fieldAddr none 0 (.t 26)⟩,
 ⟨some 28, none, .load none (.t 27)⟩,
 ⟨some 29, none, .len (.t 28)⟩,
 ⟨some 30, none, .mv (.c (.int .i64 0))⟩] [1, 2, 4, 8, 28, 29, 30])
 (.block 0
 (.loop [1, 2, 4, 8, 28, 29, 30]
 (.seq (.reg [⟨some 31, none, .bin .lss (.t 30) (.t 29)⟩] [1, 2, 4, 8, 28, 29, 30, 31])
 (.seq (.cond (.t 31)
 .skip
 (.exit 0))
 (.seq (.block 1
 (.seq (.reg [⟨some 32, none, .mv (.t 30)⟩,
 ⟨some 33, none, .ixS 7 (.t 28) (.t 30)⟩,
 ⟨some 34, none, .load (some 7) (.t 33)⟩,
 ⟨some 10, none, .alloc [.str ByteArray.empty, .int .i64 0, .int .i64 0, .int .i64 0, .slice 1 [], .int .i64 0, .int .i64 0]⟩,
 ⟨some 9, none, .mv (.t 32)⟩,
 ⟨none, none, .store 7 (.t 10) (.t 34)⟩] [1, 2, 4, 8, 9, 10, 28, 29, 30])
 (.frz 10 true (.seq (.reg [⟨some 35, none, .load (some 7) (.t 10)⟩,
 ⟨some 36, none, .mv (.t 9)⟩,
 ⟨some 37, none, .call (.f 133) [true, true, false, true] [(.t 8), (.t 35), (.t 36), (.c (.slice 7 []))]⟩,
 ⟨some 7, none, .mv (.t 37)⟩] [1, 2, 4, 7, 8, 9, 28, 29, 30])
 (.seq (.reg [⟨some 38, none, .mv (.t 7)⟩,
 ⟨some 39, none, .bin .neq (.t 38) (.c (.int .i64 0))⟩] [1, 2, 4, 7, 8, 9, 28, 29, 30, 39])
 (.cond (.t 39)
 (.seq (.reg [⟨some 40, none, .loadd (some 1) (.t 4)⟩,
 ⟨some 41, none, .mv (.t 9)⟩,
 ⟨some 42, none, .mv (.t 7)⟩,
 ⟨none, none, .store 1 (.t 4) (.t 40)⟩,
 ⟨some 5, none, .mv (.c (.int .i64 1))⟩,
 ⟨some 6, none, .mv (.t 41)⟩,
 ⟨some 7, none, .mv (.t 42)⟩] [4, 5, 6, 7])
 .ret)
 .skip))))))
 (.reg [⟨some 43, none, .bin .add (.t 30) (.c (.int .i64 1))⟩,
 ⟨some 30, none, .mv (.t 43)⟩] [1, 2, 4, 8, 28, 29, 30])))))))
 (.seq (.seq (.reg [⟨some 44, none, .fieldAddr none 1 (.t 2)⟩,
 ⟨some 45, none, .load none (.t 44)⟩,
 ⟨some 46, none, .len (.t 45)⟩,
 ⟨some 47, none, .bin .gtr (.t 46) (.c (.int .i64 8))⟩] [1, 2, 4, 8, 47])
 (.cond (.t 47)
 (.seq (.reg [⟨some 48, none, .loadd (some 1) (.t 4)⟩,
 ⟨none, none, .store 1 (.t 4) (.t 48)⟩,
 ⟨some 5, none, .mv (.c (.int .i64 2))⟩,
 ⟨some 6, none, .mv (.c (.int .i64 0))⟩,
 ⟨some 7, none, .mv (.c (.int .i64 3))⟩] [4, 5, 6, 7])
 .ret)
 .skip))
 (.seq (.reg [⟨some 49, none, .call (.f 134) [] []⟩,
 ⟨some 11, none, .mv (.c (.int .i64 0))⟩,
 ⟨some 12, none, .mv (.t 49)⟩] [1, 2, 4, 8, 11, 12])
 (.seq (.reg [⟨some 50, none, .loadd (some 1) (.t 8)⟩,
 ⟨none, none, .store 1 (.t 4) (.t 50)⟩] [1, 2, 4, 8, 11, 12])
 (.seq (.seq (.reg [⟨some 51, none, .fieldAddr none 1 (.t 2)⟩,
 ⟨some 52, none, .load none (.t 51)⟩,
 ⟨some 53, none, .len (.t 52)⟩,
 ⟨some 54, none, .mv (.c (.int .i64 0))⟩] [1, 4, 8, 11, 12, 52, 53, 54])
 (.block 2
 (.loop [1, 4, 8, 11, 12, 52, 53, 54]
 (.seq (.reg [⟨some 55, none, .bin .lss (.t 54) (.t 53)⟩] [1, 4, 8, 11, 12, 52, 53, 54, 55])
 (.seq (.cond (.t 55)
 .skip
 (.exit 2))
 (.seq (.block 3
 (.seq (.reg [⟨some 56, none, .mv (.t 54)⟩,
 ⟨some 57, none, .ixS 10 (.t 52) (.t 54)⟩,
 ⟨some 58, none, .load (some 10) (.t 57)⟩,
 ⟨some 14, none, .alloc [.int .i64 0, .int .i64 0, .str ByteArray.empty, .str ByteArray.empty, .int .i64 0, .int .i64 0, .int .i64 0, .slice 1 [], .int .i64 0, .int .i64 0]⟩,
 ⟨some 13, none, .mv (.t 56)⟩,
 ⟨none, none, .store 10 (.t 14) (.t 58)⟩] [1, 4, 8, 11, 12, 13, 14, 52, 53, 54])
 (.frz 14 true (.seq (.reg [⟨some 60, none, .mv (.t 12)⟩,
 ⟨some 61, none, .fieldAddr none 0 (.t 14)⟩,
 ⟨some 62, none, .load none (.t 61)⟩,
 ⟨some 63, none, .mget true .i (.agg [.nilfunc, .nilfunc]) (.t 60) (.t 62)⟩,
 ⟨some 59, none, .mv (.t 63)⟩,
 ⟨some 64, none, .extract (.t 59) 0⟩,
 ⟨some 65, none, .extract (.t 59) 1⟩,
 ⟨some 15, none, .alloc [.nilfunc, .nilfunc]⟩,
 ⟨none, none, .store 2 (.t 15) (.t 64)⟩,
 ⟨some 16, none, .mv (.t 65)⟩] [1, 4, 8, 11, 12, 13, 14, 15, 16, 52, 53, 54])
 (.frz 15 true (.seq (.block 4
 (.seq (.reg [⟨some 67, none, .mv (.t 11)⟩,
 ⟨some 68, none, .fieldAddr none 1 (.t 14)⟩,
 ⟨some 69, none, .load none (.t 68)⟩,
 ⟨some 70, none, .lit 0 1 1 [(0, (.t 69))]⟩,
 ⟨some 71, none, .call (.f 135) [false, false, true] [(.t 67), (.c (.int .i64 40000)), (.t 70)]⟩,
 ⟨some 66, none, .mv (.t 71)⟩] [1, 4, 8, 12, 13, 14, 15, 16, 52, 53, 54, 66])
 (.cond (.t 66)
 (.seq (.reg [⟨some 72, none, .loadd (some 1) (.t 4)⟩,
 ⟨some 73, none, .mv (.t 13)⟩,
 ⟨none, none, .store 1 (.t 4) (.t 72)⟩,
 ⟨some 5, none, .mv (.c (.int .i64 2))⟩,
 ⟨some 6, none, .mv (.t 73)⟩,
 ⟨some 7, none, .mv (.c (.int .i64 7))⟩] [4, 5, 6, 7])
 .ret)
 (.seq (.reg [⟨some 75, none, .mv (.t 16)⟩,
 ⟨some 76, none, .un .not (.t 75)⟩,
 ⟨some 77, none, .mv (.t 76)⟩,
 ⟨some 78, (some (77, false)), .fieldAddr none 0 (.t 15)⟩,
 ⟨some 79, (some (77, false)), .load none (.t 78)⟩,
 ⟨some 80, (some (77, false)), .load (some 10) (.t 14)⟩,
 ⟨some 81, (some (77, false)), .call (.t 79) [true] [(.t 80)]⟩,
 ⟨some 82, (some (77, false)), .un .not (.t 81)⟩,
 ⟨some 83, none, .pick (.t 77) (.c (.bool true)) (.t 82)⟩,
 ⟨some 74, none, .mv (.t 83)⟩] [1, 4, 8, 12, 13, 14, 15, 52, 53, 54, 74])
 (.cond (.t 74)
 (.seq (.reg [⟨some 84, none, .loadd (some 1) (.t 4)⟩,
 ⟨some 85, none, .mv (.t 13)⟩,
 ⟨none, none, .store 1 (.t 4) (.t 84)⟩,
 ⟨some 5, none, .mv (.c (.int .i64 2))⟩,
 ⟨some 6, none, .mv (.t 85)⟩,
 ⟨some 7, none, .mv (.c (.int .i64 6))⟩] [4, 5, 6, 7])
 .ret)
 .skip)))))
 (.seq (.seq (.reg [⟨some 86, none, .fieldAddr none 1 (.t 15)⟩,
 ⟨some 87, none, .load none (.t 86)⟩,
 ⟨some 88, none, .load (some 10) (.t 14)⟩,
 ⟨some 89, none, .call (.t 87) [false, true] [(.t 8), (.t 88)]⟩,
 ⟨some 7, none, .mv (.t 89)⟩] [1, 4, 7, 8, 12, 13, 14, 52, 53, 54])
 (.seq (.reg [⟨some 90, none, .mv (.t 7)⟩,
 ⟨some 91, none, .bin .neq (.t 90) (.c (.int .i64 0))⟩] [1, 4, 7, 8, 12, 13, 14, 52, 53, 54, 91])
 (.cond (.t 91)
 (.seq (.reg [⟨some 92, none, .loadd (some 1) (.t 4)⟩,
 ⟨some 93, none, .mv (.t 13)⟩,
 ⟨some 94, none, .mv (.t 7)⟩,
 ⟨none, none, .store 1 (.t 4) (.t 92)⟩,
 ⟨some 5, none, .mv (.c (.int .i64 2))⟩,
 ⟨some 6, none, .mv (.t 93)⟩,
 ⟨some 7, none, .mv (.t 94)⟩] [4, 5, 6, 7])
 .ret)
 .skip)))
 (.seq (.reg [⟨some 95, none, .fieldAddr none 1 (.t 14)⟩,
 ⟨some 96, none, .load none (.t 95)⟩,
 ⟨some 11, none, .mv (.t 96)⟩] [1, 4, 8, 11, 12, 52, 53, 54])
 (.seq (.reg [⟨some 97, none, .mv (.t 11)⟩,
 ⟨some 98, none, .mv (.t 1)⟩,
 ⟨some 99, none, .bin .leq (.t 97) (.t 98)⟩] [1, 4, 8, 11, 12, 52, 53, 54, 99])
 (.cond (.t 99)
 (.reg [⟨some 100, none, .loadd (some 1) (.t 8)⟩,
 ⟨none, none, .store 1 (.t 4) (.t 100)⟩] [1, 4, 8, 11, 12, 52, 53, 54])
 .skip))))))))))
 (.reg [⟨some 101, none, .bin .add (.t 54) (.c (.int .i64 1))⟩,
 ⟨some 54, none, .mv (.t 101)⟩] [1, 4, 8, 11, 12, 52, 53, 54])))))))
 (.seq (.reg [⟨some 102, none, .loadd (some 1) (.t 4)⟩,
 ⟨none, none, .store 1 (.t 4) (.t 102)⟩,
 ⟨some 5, none, .mv (.c (.int .i64 0))⟩,
 ⟨some 6, none, .mv (.c (.int .i64 0))⟩,
 ⟨some 7, none, .mv (.c (.int .i64 0))⟩] [4, 5, 6, 7])
 .ret)))))))))
abbrev R_hull_build : List (Nat × Option (Option Nat)) := [(4, some (some 1)), (5, none), (6, none), (7, none)]
theorem K_hull_build : chkF Tryz.prog Tryz.f88 103 C_hull_build R_hull_build = true := by kernel_rfl
theorem spec_hull_build {args : List AVal} {σ : AHeap} {R : ARes → AHeap → Prop} (ha : args.length ≤ 103) (h : AW Tryz.prog 103 none C_hull_build (bodyQ R_hull_build R) { v := argEnv args 0, ds := [] } σ) : Spec Tryz.prog F_hull_build args σ R := Spec.of_fn Tryz.func88 K_hull_build ha h
theorem B_hull_build : hasBody Tryz.prog F_hull_build = true := by kernel_rfl
theorem E_hull_build : EntOk Tryz.prog ⟨88, 103, C_hull_build, R_hull_build, 0⟩ := ⟨fun _ => ⟨B_hull_build, _, Tryz.func88, K_hull_build⟩, fun h => by cases h⟩

abbrev F_stand_beyond : FuncId := 89
/-- orlop/stand.beyond: parameters ['int', 'int', '[]int'], results ['bool'] -/
def C_stand_beyond : AC :=
 (.seq (.reg [⟨some 3, none, .pbox 1 (.t 0)⟩,
 ⟨some 4, none, .pbox 1 (.t 1)⟩,
 ⟨some 6, none, .mv (.c (.bool false))⟩] [2, 3, 4])
 (.seq (.reg [⟨some 7, none, .mv (.t 2)⟩,
 ⟨some 8, none, .mkfunc (.func 136) [] [(.t 3), (.t 4)]⟩,
 ⟨some 9, none, .call (.f 100) [true, false] [(.t 7), (.t 8)]⟩,
 ⟨some 6, none, .mv (.t 9)⟩] [6])
 .ret))
abbrev R_stand_beyond : List (Nat × Option (Option Nat)) := [(6, none)]
theorem K_stand_beyond : chkF Tryz.prog Tryz.f89 10 C_stand_beyond R_stand_beyond = true := by kernel_rfl
theorem spec_stand_beyond {args : List AVal} {σ : AHeap} {R : ARes → AHeap → Prop} (ha : args.length ≤ 10) (h : AW Tryz.prog 10 none C_stand_beyond (bodyQ R_stand_beyond R) { v := argEnv args 0, ds := [] } σ) : Spec Tryz.prog F_stand_beyond args σ R := Spec.of_fn Tryz.func89 K_stand_beyond ha h
theorem B_stand_beyond : hasBody Tryz.prog F_stand_beyond = true := by kernel_rfl
theorem E_stand_beyond : EntOk Tryz.prog ⟨89, 10, C_stand_beyond, R_stand_beyond, 0⟩ := ⟨fun _ => ⟨B_stand_beyond, _, Tryz.func89, K_stand_beyond⟩, fun h => by cases h⟩

abbrev F_hull_Name : FuncId := 90
/-- orlop/hull.Name: parameters ['string'], results ['bool'] -/
def C_hull_Name : AC :=
 (.seq (.reg [⟨some 2, none, .mv (.c (.bool false))⟩] [0])
 (.seq (.seq (.reg [⟨some 7, none, .mv (.t 0)⟩,
 ⟨some 8, none, .range (.t 7)⟩] [0, 8])
 (.block 0
 (.loop [0, 8]
 (.seq (.reg [⟨some 9, none, .next (.t 8)⟩,
 ⟨some 10, none, .extract (.t 9) 0⟩] [0, 8, 9, 10])
 (.seq (.cond (.t 10)
 .skip
 (.exit 0))
 (.block 1
 (.seq (.reg [⟨some 11, none, .extract (.t 9) 1⟩,
 ⟨some 12, none, .extract (.t 9) 2⟩,
 ⟨some 3, none, .mv (.t 11)⟩,
 ⟨some 4, none, .mv (.t 12)⟩] [0, 3, 4, 8])
 (.seq (.reg [⟨some 13, none, .mv (.t 4)⟩,
 ⟨some 14, none, .bin .geq (.t 13) (.c (.int .i32 97))⟩,
 ⟨some 15, none, .mv (.t 14)⟩,
 ⟨some 16, (some (15, true)), .mv (.t 4)⟩,
 ⟨some 17, (some (15, true)), .bin .leq (.t 16) (.c (.int .i32 122))⟩,
 ⟨some 18, none, .pick (.t 15) (.t 17) (.c (.bool false))⟩,
 ⟨some 19, none, .mv (.t 4)⟩,
 ⟨some 20, none, .bin .geq (.t 19) (.c (.int .i32 48))⟩,
 ⟨some 21, none, .mv (.t 20)⟩,
 ⟨some 22, (some (21, true)), .mv (.t 4)⟩,
 ⟨some 23, (some (21, true)), .bin .leq (.t 22) (.c (.int .i32 57))⟩,
 ⟨some 24, none, .pick (.t 21) (.t 23) (.c (.bool false))⟩,
 ⟨some 5, none, .mv (.t 18)⟩,
 ⟨some 6, none, .mv (.t 24)⟩] [0, 3, 5, 6, 8])
 (.seq (.reg [⟨some 25, none, .mv (.t 5)⟩,
 ⟨some 26, none, .un .not (.t 25)⟩,
 ⟨some 27, none, .mv (.t 26)⟩,
 ⟨some 28, (some (27, true)), .mv (.t 6)⟩,
 ⟨some 29, (some (27, true)), .un .not (.t 28)⟩,
 ⟨some 30, (some (27, true)), .mv (.t 29)⟩,
 ⟨some 31, (some (30, false)), .mv (.t 3)⟩,
 ⟨some 32, (some (30, false)), .bin .eql (.t 31) (.c (.int .i64 0))⟩,
 ⟨some 33, (some (27, true)), .pick (.t 30) (.c (.bool true)) (.t 32)⟩,
 ⟨some 34, none, .pick (.t 27) (.t 33) (.c (.bool false))⟩] [0, 8, 34])
 (.cond (.t 34)
 (.seq (.reg [⟨some 2, none, .mv (.c (.bool false))⟩] [2])
 .ret)
 .skip))))))))))
 (.seq (.reg [⟨some 35, none, .mv (.t 0)⟩,
 ⟨some 36, none, .bin .neq (.t 35) (.c (.str ⟨#[]⟩))⟩,
 ⟨some 37, none, .mv (.t 36)⟩,
 ⟨some 38, (some (37, true)), .mv (.t 0)⟩,
 ⟨some 39, (some (37, true)), .lenStr (.t 38)⟩,
 ⟨some 40, (some (37, true)), .bin .leq (.t 39) (.c (.int .i64 16))⟩,
 ⟨some 41, none, .pick (.t 37) (.t 40) (.c (.bool false))⟩,
 ⟨some 2, none, .mv (.t 41)⟩] [2])
 .ret)))
abbrev R_hull_Name : List (Nat × Option (Option Nat)) := [(2, none)]
theorem K_hull_Name : chkF Tryz.prog Tryz.f90 42 C_hull_Name R_hull_Name = true := by kernel_rfl
theorem spec_hull_Name {args : List AVal} {σ : AHeap} {R : ARes → AHeap → Prop} (ha : args.length ≤ 42) (h : AW Tryz.prog 42 none C_hull_Name (bodyQ R_hull_Name R) { v := argEnv args 0, ds := [] } σ) : Spec Tryz.prog F_hull_Name args σ R := Spec.of_fn Tryz.func90 K_hull_Name ha h
theorem B_hull_Name : hasBody Tryz.prog F_hull_Name = true := by kernel_rfl
theorem E_hull_Name : EntOk Tryz.prog ⟨90, 42, C_hull_Name, R_hull_Name, 0⟩ := ⟨fun _ => ⟨B_hull_Name, _, Tryz.func90, K_hull_Name⟩, fun h => by cases h⟩

abbrev F_slices_ContainsFunc_api_StPart_api_StPart : FuncId := 91
/-- slices.ContainsFunc[[]orlop/api.StPart,orlop/api.StPart]: parameters ['[]api.StPart', 'func(api.StPart) bool'], results ['bool'] -/
def C_slices_ContainsFunc_api_StPart_api_StPart : AC :=
 (.seq (.reg [⟨some 4, none, .mv (.c (.bool false))⟩] [0, 1])
 (.seq (.reg [⟨some 5, none, .mv (.t 0)⟩,
 ⟨some 6, none, .mv (.t 1)⟩,
 ⟨some 7, none, .call (.f 137) [true, false] [(.t 5), (.t 6)]⟩,
 ⟨some 8, none, .bin .geq (.t 7) (.c (.int .i64 0))⟩,
 ⟨some 4, none, .mv (.t 8)⟩] [4])
 .ret))
abbrev R_slices_ContainsFunc_api_StPart_api_StPart : List (Nat × Option (Option Nat)) := [(4, none)]
theorem K_slices_ContainsFunc_api_StPart_api_StPart : chkF Tryz.prog Tryz.f91 9 C_slices_ContainsFunc_api_StPart_api_StPart R_slices_ContainsFunc_api_StPart_api_StPart = true := by kernel_rfl
theorem spec_slices_ContainsFunc_api_StPart_api_StPart {args : List AVal} {σ : AHeap} {R : ARes → AHeap → Prop} (ha : args.length ≤ 9) (h : AW Tryz.prog 9 none C_slices_ContainsFunc_api_StPart_api_StPart (bodyQ R_slices_ContainsFunc_api_StPart_api_StPart R) { v := argEnv args 0, ds := [] } σ) : Spec Tryz.prog F_slices_ContainsFunc_api_StPart_api_StPart args σ R := Spec.of_fn Tryz.func91 K_slices_ContainsFunc_api_StPart_api_StPart ha h
theorem B_slices_ContainsFunc_api_StPart_api_StPart : hasBody Tryz.prog F_slices_ContainsFunc_api_StPart_api_StPart = true := by kernel_rfl
theorem E_slices_ContainsFunc_api_StPart_api_StPart : EntOk Tryz.prog ⟨91, 9, C_slices_ContainsFunc_api_StPart_api_StPart, R_slices_ContainsFunc_api_StPart_api_StPart, 0⟩ := ⟨fun _ => ⟨B_slices_ContainsFunc_api_StPart_api_StPart, _, Tryz.func91, K_slices_ContainsFunc_api_StPart_api_StPart⟩, fun h => by cases h⟩

abbrev F_stand_Check_1 : FuncId := 92
/-- orlop/stand.Check$1: parameters ['api.StPart'], results ['bool'] -/
def C_stand_Check_1 : AC :=
 (.seq (.reg [⟨some 2, none, .pbox 7 (.t 0)⟩,
 ⟨some 3, none, .mv (.c (.bool false))⟩] [1, 2])
 (.seq (.reg [⟨some 4, none, .fieldAddr none 0 (.t 2)⟩,
 ⟨some 5, none, .load none (.t 4)⟩,
 ⟨some 6, none, .fieldAddr none 0 (.t 1)⟩,
 ⟨some 7, none, .load none (.t 6)⟩,
 ⟨some 8, none, .bin .eql (.t 5) (.t 7)⟩,
 ⟨some 3, none, .mv (.t 8)⟩] [3])
 .ret))
abbrev R_stand_Check_1 : List (Nat × Option (Option Nat)) := [(3, none)]
theorem K_stand_Check_1 : chkF Tryz.prog Tryz.f92 9 C_stand_Check_1 R_stand_Check_1 = true := by kernel_rfl
theorem spec_stand_Check_1 {args : List AVal} {σ : AHeap} {R : ARes → AHeap → Prop} (ha : args.length ≤ 9) (h : AW Tryz.prog 9 none C_stand_Check_1 (bodyQ R_stand_Check_1 R) { v := argEnv args 0, ds := [] } σ) : Spec Tryz.prog F_stand_Check_1 args σ R := Spec.of_fn Tryz.func92 K_stand_Check_1 ha h
theorem B_stand_Check_1 : hasBody Tryz.prog F_stand_Check_1 = true := by kernel_rfl
theorem E_stand_Check_1 : EntOk Tryz.prog ⟨92, 9, C_stand_Check_1, R_stand_Check_1, 0⟩ := ⟨fun _ => ⟨B_stand_Check_1, _, Tryz.func92, K_stand_Check_1⟩, fun h => by cases h⟩

abbrev F_stand_check : FuncId := 93
/-- orlop/stand.check: parameters ['api.StPart'], results ['api.Errno'] -/
def C_stand_check : AC :=
 (.seq (.reg [⟨some 1, none, .pbox 7 (.t 0)⟩,
 ⟨some 2, none, .mv (.c (.int .i64 0))⟩] [1])
 (.seq (.block 0
 (.seq (.reg [⟨some 4, none, .fieldAddr none 1 (.t 1)⟩,
 ⟨some 5, none, .load none (.t 4)⟩,
 ⟨some 6, none, .lit 0 1 1 [(0, (.t 5))]⟩,
 ⟨some 7, none, .call (.f 89) [false, false, true] [(.c (.int .i64 0)), (.c (.int .i64 5000)), (.t 6)]⟩,
 ⟨some 8, none, .mv (.t 7)⟩,
 ⟨some 9, (some (8, false)), .fieldAddr none 4 (.t 1)⟩,
 ⟨some 10, (some (8, false)), .load none (.t 9)⟩,
 ⟨some 11, (some (8, false)), .lit 0 1 1 [(0, (.t 10))]⟩,
 ⟨some 12, (some (8, false)), .call (.f 89) [false, false, true] [(.c (.int .i64 0)), (.c (.int .i64 1000)), (.t 11)]⟩,
 ⟨some 13, none, .pick (.t 8) (.c (.bool true)) (.t 12)⟩,
 ⟨some 14, none, .mv (.t 13)⟩,
 ⟨some 15, (some (14, false)), .fieldAddr (some 2) 2 (.t 1)⟩,
 ⟨some 16, (some (14, false)), .fieldAddr none 0 (.t 15)⟩,
 ⟨some 17, (some (14, false)), .load none (.t 16)⟩,
 ⟨some 18, (some (14, false)), .fieldAddr (some 2) 2 (.t 1)⟩,
 ⟨some 19, (some (14, false)), .fieldAddr none 1 (.t 18)⟩,
 ⟨some 20, (some (14, false)), .load none (.t 19)⟩,
 ⟨some 21, (some (14, false)), .lit 0 1 2 [(0, (.t 17)), (1, (.t 20))]⟩,
 ⟨some 22, (some (14, false)), .call (.f 89) [false, false, true] [(.c (.int .i64 0)), (.c (.int .i64 1000000)), (.t 21)]⟩,
 ⟨some 23, none, .pick (.t 14) (.c (.bool true)) (.t 22)⟩,
 ⟨some 24, none, .mv (.t 23)⟩,
 ⟨some 25, (some (24, false)), .fieldAddr (some 2) 5 (.t 1)⟩,
 ⟨some 26, (some (24, false)), .fieldAddr none 0 (.t 25)⟩,
 ⟨some 27, (some (24, false)), .load none (.t 26)⟩,
 ⟨some 28, (some (24, false)), .fieldAddr (some 2) 5 (.t 1)⟩,
 ⟨some 29, (some (24, false)), .fieldAddr none 1 (.t 28)⟩,
 ⟨some 30, (some (24, false)), .load none (.t 29)⟩,
 ⟨some 31, (some (24, false)), .lit 0 1 2 [(0, (.t 27)), (1, (.t 30))]⟩,
 ⟨some 32, (some (24, false)), .call (.f 89) [false, false, true] [(.c (.int .i64 0)), (.c (.int .i64 5000)), (.t 31)]⟩,
 ⟨some 33, none, .pick (.t 24) (.c (.bool true)) (.t 32)⟩,
 ⟨some 3, none, .mv (.t 33)⟩] [1, 3])
 (.cond (.t 3)
 (.seq (.reg [⟨some 2, none, .mv (.c (.int .i64 7))⟩] [2])
 .ret)
 (.seq (.reg [⟨some 35, none, .fieldAddr (some 2) 2 (.t 1)⟩,
 ⟨some 36, none, .fieldAddr none 0 (.t 35)⟩,
 ⟨some 37, none, .load none (.t 36)⟩,
 ⟨some 38, none, .fieldAddr (some 2) 2 (.t 1)⟩,
 ⟨some 39, none, .fieldAddr none 1 (.t 38)⟩,
 ⟨some 40, none, .load none (.t 39)⟩,
 ⟨some 41, none, .bin .gtr (.t 37) (.t 40)⟩,
 ⟨some 42, none, .mv (.t 41)⟩,
 ⟨some 43, (some (42, false)), .fieldAddr (some 2) 5 (.t 1)⟩,
 ⟨some 44, (some (42, false)), .fieldAddr none 0 (.t 43)⟩,
 ⟨some 45, (some (42, false)), .load none (.t 44)⟩,
 ⟨some 46, (some (42, false)), .fieldAddr (some 2) 5 (.t 1)⟩,
 ⟨some 47, (some (42, false)), .fieldAddr none 1 (.t 46)⟩,
 ⟨some 48, (some (42, false)), .load none (.t 47)⟩,
 ⟨some 49, (some (42, false)), .bin .gtr (.t 45) (.t 48)⟩,
 ⟨some 50, none, .pick (.t 42) (.c (.bool true)) (.t 49)⟩,
 ⟨some 34, none, .mv (.t 50)⟩] [34])
 (.cond (.t 34)
 (.seq (.reg [⟨some 2, none, .mv (.c (.int .i64 2))⟩] [2])
 .ret)
 .skip)))))
 (.seq (.reg [⟨some 2, none, .mv (.c (.int .i64 0))⟩] [2])
 .ret)))
abbrev R_stand_check : List (Nat × Option (Option Nat)) := [(2, none)]
theorem K_stand_check : chkF Tryz.prog Tryz.f93 51 C_stand_check R_stand_check = true := by kernel_rfl
theorem spec_stand_check {args : List AVal} {σ : AHeap} {R : ARes → AHeap → Prop} (ha : args.length ≤ 51) (h : AW Tryz.prog 51 none C_stand_check (bodyQ R_stand_check R) { v := argEnv args 0, ds := [] } σ) : Spec Tryz.prog F_stand_check args σ R := Spec.of_fn Tryz.func93 K_stand_check ha h
theorem B_stand_check : hasBody Tryz.prog F_stand_check = true := by kernel_rfl
theorem E_stand_check : EntOk Tryz.prog ⟨93, 51, C_stand_check, R_stand_check, 0⟩ := ⟨fun _ => ⟨B_stand_check, _, Tryz.func93, K_stand_check⟩, fun h => by cases h⟩

abbrev F_stand_tidal : FuncId := 94
/-- orlop/stand.tidal: parameters ['api.Span'], results ['api.Errno'] -/
def C_stand_tidal : AC :=
 (.seq (.reg [⟨some 1, none, .pbox 2 (.t 0)⟩,
 ⟨some 2, none, .mv (.c (.int .i64 0))⟩] [1])
 (.seq (.block 0
 (.seq (.reg [⟨some 4, none, .fieldAddr none 0 (.t 1)⟩,
 ⟨some 5, none, .load none (.t 4)⟩,
 ⟨some 6, none, .fieldAddr none 1 (.t 1)⟩,
 ⟨some 7, none, .load none (.t 6)⟩,
 ⟨some 8, none, .lit 0 1 2 [(0, (.t 5)), (1, (.t 7))]⟩,
 ⟨some 9, none, .call (.f 89) [false, false, true] [(.c (.int .i64 0)), (.c (.int .i64 1000)), (.t 8)]⟩,
 ⟨some 3, none, .mv (.t 9)⟩] [1, 3])
 (.cond (.t 3)
 (.seq (.reg [⟨some 2, none, .mv (.c (.int .i64 7))⟩] [2])
 .ret)
 (.seq (.reg [⟨some 11, none, .fieldAddr none 0 (.t 1)⟩,
 ⟨some 12, none, .load none (.t 11)⟩,
 ⟨some 13, none, .fieldAddr none 1 (.t 1)⟩,
 ⟨some 14, none, .load none (.t 13)⟩,
 ⟨some 15, none, .bin .gtr (.t 12) (.t 14)⟩,
 ⟨some 10, none, .mv (.t 15)⟩] [10])
 (.cond (.t 10)
 (.seq (.reg [⟨some 2, none, .mv (.c (.int .i64 2))⟩] [2])
 .ret)
 .skip)))))
 (.seq (.reg [⟨some 2, none, .mv (.c (.int .i64 0))⟩] [2])
 .ret)))
abbrev R_stand_tidal : List (Nat × Option (Option Nat)) := [(2, none)]
theorem K_stand_tidal : chkF Tryz.prog Tryz.f94 16 C_stand_tidal R_stand_tidal = true := by kernel_rfl
theorem spec_stand_tidal {args : List AVal} {σ : AHeap} {R : ARes → AHeap → Prop} (ha : args.length ≤ 16) (h : AW Tryz.prog 16 none C_stand_tidal (bodyQ R_stand_tidal R) { v := argEnv args 0, ds := [] } σ) : Spec Tryz.prog F_stand_tidal args σ R := Spec.of_fn Tryz.func94 K_stand_tidal ha h
theorem B_stand_tidal : hasBody Tryz.prog F_stand_tidal = true := by kernel_rfl
theorem E_stand_tidal : EntOk Tryz.prog ⟨94, 16, C_stand_tidal, R_stand_tidal, 0⟩ := ⟨fun _ => ⟨B_stand_tidal, _, Tryz.func94, K_stand_tidal⟩, fun h => by cases h⟩

abbrev F_stand_body_first : FuncId := 95
/-- (orlop/stand.body).first: parameters ['stand.body', 'api.Span'], results ['int', 'int'] -/
def C_stand_body_first : AC :=
 (.seq (.reg [⟨some 2, none, .pbox 3 (.t 0)⟩,
 ⟨some 3, none, .pbox 2 (.t 1)⟩,
 ⟨some 4, none, .alloc [.int .i64 0]⟩,
 ⟨some 5, none, .alloc [.int .i64 0]⟩] [2, 3, 4, 5])
 (.scope
 (.seq (.label 0)
 (.seq (.seq (.reg [⟨some 10, none, .load (some 3) (.t 2)⟩,
 ⟨some 11, none, .load (some 2) (.t 3)⟩,
 ⟨some 12, none, .call (.f 138) [true, false] [(.t 10), (.t 11)]⟩] [2, 4, 5, 12])
 (.block 0
 (.rangeF (.t 12) [13] (.reg [⟨some 6, none, .alloc [.int .i64 0, .int .i64 0]⟩,
 ⟨none, none, .store 2 (.t 6) (.t 13)⟩] [2, 4, 5, 6])
 (.block 1
 (.seq (.seq (.reg [⟨some 14, none, .load (some 3) (.t 2)⟩,
 ⟨some 15, none, .fieldAddr none 0 (.t 6)⟩,
 ⟨some 16, none, .load none (.t 15)⟩,
 ⟨some 17, none, .call (.f 139) [true, false] [(.t 14), (.t 16)]⟩,
 ⟨some 18, none, .call (.f 140) [false] [(.t 17)]⟩,
 ⟨none, none, .store 1 (.t 4) (.t 18)⟩] [2, 4, 5, 6])
 (.seq (.reg [⟨some 19, none, .load none (.t 4)⟩,
 ⟨some 20, none, .bin .neq (.t 19) (.c (.int .i64 0))⟩] [2, 4, 5, 6, 20])
 (.cond (.t 20)
 (.seq (.dreg [⟨some 21, none, .load none (.t 4)⟩,
 ⟨some 22, none, .fieldAddr none 0 (.t 6)⟩,
 ⟨some 23, none, .load none (.t 22)⟩,
 ⟨none, none, .store 1 (.t 4) (.t 21)⟩,
 ⟨none, none, .store 1 (.t 5) (.t 23)⟩] [4, 5] [[], [], [1], [0], [0, 1, 2, 3]])
 .ret)
 .skip)))
 (.seq (.seq (.reg [⟨some 24, none, .load (some 3) (.t 2)⟩,
 ⟨some 25, none, .fieldAddr none 1 (.t 6)⟩,
 ⟨some 26, none, .load none (.t 25)⟩,
 ⟨some 27, none, .call (.f 139) [true, false] [(.t 24), (.t 26)]⟩,
 ⟨some 28, none, .call (.f 140) [false] [(.t 27)]⟩,
 ⟨some 29, none, .bin .eql (.t 28) (.c (.int .i64 0))⟩] [2, 4, 5, 6, 29])
 (.cond (.t 29)
 (.exit 1)
 .skip))
 (.seq (.dreg [⟨some 30, none, .fieldAddr none 0 (.t 6)⟩,
 ⟨some 31, none, .load none (.t 30)⟩,
 ⟨some 32, none, .fieldAddr none 1 (.t 6)⟩,
 ⟨some 33, none, .load none (.t 32)⟩,
 ⟨some 7, none, .mv (.t 31)⟩,
 ⟨some 8, none, .mv (.t 33)⟩] [2, 4, 5, 7, 8] [[], [0], [], [2], [0, 1], [0, 1, 2, 3, 4]])
 (.seq (.block 2
 (.loop [2, 4, 5, 7, 8]
 (.seq (.seq (.reg [⟨some 34, none, .mv (.t 8)⟩,
 ⟨some 35, none, .mv (.t 7)⟩,
 ⟨some 36, none, .bin .sub (.t 34) (.t 35)⟩,
 ⟨some 37, none, .bin .gtr (.t 36) (.c (.int .i64 1))⟩] [2, 4, 5, 7, 8, 37])
 (.cond (.t 37)
 .skip
 (.exit 2)))
 (.block 3
 (.seq (.reg [⟨some 38, none, .mv (.t 7)⟩,
 ⟨some 39, none, .mv (.t 8)⟩,
 ⟨some 40, none, .bin .add (.t 38) (.t 39)⟩,
 ⟨some 41, none, .bin .quo (.t 40) (.c (.int .i64 2))⟩,
 ⟨some 9, none, .mv (.t 41)⟩] [2, 4, 5, 7, 8, 9])
 (.seq (.reg [⟨some 42, none, .load (some 3) (.t 2)⟩,
 ⟨some 43, none, .mv (.t 9)⟩,
 ⟨some 44, none, .call (.f 139) [true, false] [(.t 42), (.t 43)]⟩,
 ⟨some 45, none, .call (.f 140) [false] [(.t 44)]⟩,
 ⟨some 46, none, .bin .eql (.t 45) (.c (.int .i64 0))⟩] [2, 4, 5, 7, 8, 9, 46])
 (.cond (.t 46)
 (.reg [⟨some 47, none, .mv (.t 9)⟩,
 ⟨some 7, none, .mv (.t 47)⟩] [2, 4, 5, 7, 8])
 (.reg [⟨some 48, none, .mv (.t 9)⟩,
 ⟨some 8, none, .mv (.t 48)⟩] [2, 4, 5, 7, 8]))))))))
 (.seq (.reg [⟨some 49, none, .load (some 3) (.t 2)⟩,
 ⟨some 50, none, .mv (.t 8)⟩,
 ⟨some 51, none, .call (.f 139) [true, false] [(.t 49), (.t 50)]⟩,
 ⟨some 52, none, .call (.f 140) [false] [(.t 51)]⟩,
 ⟨some 53, none, .mv (.t 8)⟩,
 ⟨none, none, .store 1 (.t 4) (.t 52)⟩,
 ⟨none, none, .store 1 (.t 5) (.t 53)⟩] [4, 5])
 .ret)))))))))
 (.seq (.reg [⟨none, none, .store 1 (.t 4) (.c (.int .i64 0))⟩,
 ⟨none, none, .store 1 (.t 5) (.c (.int .i64 0))⟩] [4, 5])
 .ret)))))
abbrev R_stand_body_first : List (Nat × Option (Option Nat)) := [(4, some none), (5, some none)]
theorem K_stand_body_first : chkF Tryz.prog Tryz.f95 54 C_stand_body_first R_stand_body_first = true := by kernel_rfl
theorem spec_stand_body_first {args : List AVal} {σ : AHeap} {R : ARes → AHeap → Prop} (ha : args.length ≤ 54) (h : AW Tryz.prog 54 none C_stand_body_first (bodyQ R_stand_body_first R) { v := argEnv args 0, ds := [] } σ) : Spec Tryz.prog F_stand_body_first args σ R := Spec.of_fn Tryz.func95 K_stand_body_first ha h
theorem B_stand_body_first : hasBody Tryz.prog F_stand_body_first = true := by kernel_rfl
theorem E_stand_body_first : EntOk Tryz.prog ⟨95, 54, C_stand_body_first, R_stand_body_first, 0⟩ := ⟨fun _ => ⟨B_stand_body_first, _, Tryz.func95, K_stand_body_first⟩, fun h => by cases h⟩

abbrev F_vent_look : FuncId := 96
/-- orlop/vent.look: parameters ['api.VnNet', '[]int', '[]int', 'bool'], results ['*vent.net', 'api.Errno'] -/
def C_vent_look : AC :=
 (.seq (.reg [⟨some 4, none, .pbox 2 (.t 0)⟩,
 ⟨some 8, none, .alloc [.nilptr]⟩,
 ⟨some 9, none, .alloc [.int .i64 0]⟩] [1, 2, 3, 4, 8, 9])
 (.seq (.seq (.reg [⟨some 16, none, .load (some 2) (.t 4)⟩,
 ⟨some 17, none, .call (.f 141) [true] [(.t 16)]⟩,
 ⟨some 15, none, .mv (.t 17)⟩,
 ⟨some 18, none, .extract (.t 15) 0⟩,
 ⟨some 19, none, .extract (.t 15) 1⟩,
 ⟨some 20, none, .extract (.t 15) 2⟩,
 ⟨none, none, .store 1 (.t 9) (.t 20)⟩] [1, 2, 3, 4, 8, 9])
 (.seq (.reg [⟨some 21, none, .load none (.t 9)⟩,
 ⟨some 22, none, .bin .neq (.t 21) (.c (.int .i64 0))⟩] [1, 2, 3, 4, 8, 9, 22])
 (.cond (.t 22)
 (.seq (.dreg [⟨some 23, none, .load none (.t 9)⟩,
 ⟨none, none, .store 1 (.t 8) (.c .nilptr)⟩,
 ⟨none, none, .store 1 (.t 9) (.t 23)⟩] [8, 9] [[], [], [0, 1]])
 .ret)
 .skip)))
 (.seq (.dfr 24 142 [(.t 8), (.t 9)] [1, 2, 3, 4, 8, 9])
 (.seq (.reg [⟨some 25, none, .load (some 2) (.t 4)⟩,
 ⟨some 26, none, .build [.slice 2 [], .slice 3 [], .int .u64 0, .int .u64 0, .bool false, .bool false, .bool false, .bool false, .bool false, .bool false, .bool false, .bool false, .bool false, .bool false, .bool false, .bool false] [(0, 2, (.t 25))]⟩,
 ⟨some 27, none, .box 16 (.t 26)⟩,
 ⟨none, none, .store 1 (.t 8) (.t 27)⟩] [1, 2, 3, 4, 8, 9])
 (.seq (.reg [⟨some 28, none, .mv (.t 1)⟩,
 ⟨some 29, none, .fieldAddr none 1 (.t 4)⟩,
 ⟨some 30, none, .load none (.t 29)⟩,
 ⟨some 31, none, .len (.t 30)⟩,
 ⟨some 32, none, .mkfunc (.func 144) [] [(.t 4)]⟩,
 ⟨some 33, none, .call (.f 143) [true, false, false] [(.t 28), (.t 31), (.t 32)]⟩] [1, 2, 3, 4, 8, 9])
 (.seq (.seq (.reg [⟨some 34, none, .mv (.t 3)⟩] [1, 2, 4, 8, 9, 34])
 (.cond (.t 34)
 (.seq (.seq (.reg [⟨some 35, none, .mv (.t 2)⟩,
 ⟨some 36, none, .len (.t 35)⟩,
 ⟨some 37, none, .bin .eql (.t 36) (.c (.int .i64 0))⟩] [1, 2, 4, 8, 9, 37])
 (.cond (.t 37)
 (.reg [⟨some 38, none, .mkiface 39 (.c (.int .i64 3))⟩,
 ⟨none, none, .panic (.t 38)⟩] [1, 2, 4, 8, 9])
 .skip))
 (.reg [⟨some 39, none, .mv (.t 2)⟩,
 ⟨some 40, none, .fieldAddr none 0 (.t 4)⟩,
 ⟨some 41, none, .load none (.t 40)⟩,
 ⟨some 42, none, .len (.t 41)⟩,
 ⟨some 43, none, .mkfunc (.func 145) [] [(.t 4)]⟩,
 ⟨some 44, none, .call (.f 143) [true, false, false] [(.t 39), (.t 42), (.t 43)]⟩] [1, 2, 4, 8, 9]))
 .skip))
 (.seq (.seq (.reg [⟨some 45, none, .fieldAddr none 1 (.t 4)⟩,
 ⟨some 46, none, .load none (.t 45)⟩,
 ⟨some 47, none, .len (.t 46)⟩,
 ⟨some 48, none, .mv (.c (.int .i64 0))⟩] [1, 2, 4, 8, 9, 47, 48])
 (.block 0
 (.loop [1, 2, 4, 8, 9, 47, 48]
 (.seq (.reg [⟨some 49, none, .bin .lss (.t 48) (.t 47)⟩] [1, 2, 4, 8, 9, 47, 48, 49])
 (.seq (.cond (.t 49)
 .skip
 (.exit 0))
 (.seq (.block 1
 (.seq (.reg [⟨some 50, none, .mv (.t 48)⟩,
 ⟨some 10, none, .mv (.t 50)⟩] [1, 2, 4, 8, 9, 10, 47, 48])
 (.dreg [⟨some 51, none, .load none (.t 8)⟩,
 ⟨some 52, none, .mv (.t 10)⟩,
 ⟨some 53, none, .mv (.t 1)⟩,
 ⟨some 54, none, .mv (.t 10)⟩,
 ⟨some 55, none, .call (.f 78) [true, false] [(.t 53), (.t 54)]⟩,
 ⟨some 56, none, .un .not (.t 55)⟩,
 ⟨some 57, none, .nilchk (.t 51)⟩,
 ⟨some 58, none, .fieldAddr (some 12) 4 (.t 57)⟩,
 ⟨some 59, none, .ixA 12 1 none (.t 58) (.t 52)⟩,
 ⟨none, none, .store 1 (.t 59) (.t 56)⟩] [1, 2, 4, 8, 9, 47, 48] [[], [], [], [], [2, 3], [2, 3, 4], [0], [0, 6], [0, 1, 2, 3, 4, 5, 6, 7], [0, 1, 2, 3, 4, 5, 6, 7, 8]])))
 (.reg [⟨some 60, none, .bin .add (.t 48) (.c (.int .i64 1))⟩,
 ⟨some 48, none, .mv (.t 60)⟩] [1, 2, 4, 8, 9, 47, 48])))))))
 (.seq (.seq (.reg [⟨some 61, none, .fieldAddr none 0 (.t 4)⟩,
 ⟨some 62, none, .load none (.t 61)⟩,
 ⟨some 63, none, .len (.t 62)⟩,
 ⟨some 64, none, .mv (.c (.int .i64 0))⟩] [2, 8, 9, 62, 63, 64])
 (.block 2
 (.loop [2, 8, 9, 62, 63, 64]
 (.seq (.reg [⟨some 65, none, .bin .lss (.t 64) (.t 63)⟩] [2, 8, 9, 62, 63, 64, 65])
 (.seq (.cond (.t 65)
 .skip
 (.exit 2))
 (.seq (.block 3
 (.seq (.reg [⟨some 66, none, .mv (.t 64)⟩,
 ⟨some 67, none, .ixS 2 (.t 62) (.t 64)⟩,
 ⟨some 68, none, .load (some 2) (.t 67)⟩,
 ⟨some 12, none, .alloc [.str ByteArray.empty, .bool false]⟩,
 ⟨some 11, none, .mv (.t 66)⟩,
 ⟨none, none, .store 2 (.t 12) (.t 68)⟩] [2, 8, 9, 11, 12, 62, 63, 64])
 (.frz 12 true (.seq (.reg [⟨some 69, none, .fieldAddr none 1 (.t 12)⟩,
 ⟨some 70, none, .load none (.t 69)⟩] [2, 8, 9, 11, 62, 63, 64, 70])
 (.cond (.t 70)
 (.dreg [⟨some 71, none, .load none (.t 8)⟩,
 ⟨some 72, none, .nilchk (.t 71)⟩,
 ⟨some 73, none, .fieldAddr none 2 (.t 72)⟩,
 ⟨some 74, none, .load none (.t 73)⟩,
 ⟨some 75, none, .mv (.t 11)⟩,
 ⟨some 76, none, .call (.f 146) [false] [(.t 75)]⟩,
 ⟨some 77, none, .bin .or (.t 74) (.t 76)⟩,
 ⟨some 78, none, .nilchk (.t 71)⟩,
 ⟨some 79, none, .fieldAddr none 2 (.t 78)⟩,
 ⟨none, none, .store 1 (.t 79) (.t 77)⟩] [2, 8, 9, 62, 63, 64] [[], [0], [0, 1], [0, 1, 2], [], [4], [0, 1, 2, 3, 4, 5], [0, 1, 2, 3, 4, 5, 6], [0, 1, 2, 3, 4, 5, 6, 7], [0, 1, 2, 3, 4, 5, 6, 7, 8]])
 .skip)))))
 (.reg [⟨some 80, none, .bin .add (.t 64) (.c (.int .i64 1))⟩,
 ⟨some 64, none, .mv (.t 80)⟩] [2, 8, 9, 62, 63, 64])))))))
 (.seq (.seq (.reg [⟨some 81, none, .mv (.t 2)⟩,
 ⟨some 82, none, .len (.t 81)⟩,
 ⟨some 83, none, .mv (.c (.int .i64 0))⟩] [8, 9, 81, 82, 83])
 (.block 4
 (.loop [8, 9, 81, 82, 83]
 (.seq (.reg [⟨some 84, none, .bin .lss (.t 83) (.t 82)⟩] [8, 9, 81, 82, 83, 84])
 (.seq (.cond (.t 84)
 .skip
 (.exit 4))
 (.seq (.block 5
 (.seq (.reg [⟨some 85, none, .ixS 1 (.t 81) (.t 83)⟩,
 ⟨some 86, none, .load none (.t 85)⟩,
 ⟨some 14, none, .mv (.t 86)⟩] [8, 9, 14, 81, 82, 83])
 (.dreg [⟨some 87, none, .load none (.t 8)⟩,
 ⟨some 88, none, .nilchk (.t 87)⟩,
 ⟨some 89, none, .fieldAddr none 3 (.t 88)⟩,
 ⟨some 90, none, .load none (.t 89)⟩,
 ⟨some 91, none, .mv (.t 14)⟩,
 ⟨some 92, none, .call (.f 146) [false] [(.t 91)]⟩,
 ⟨some 93, none, .bin .or (.t 90) (.t 92)⟩,
 ⟨some 94, none, .nilchk (.t 87)⟩,
 ⟨some 95, none, .fieldAddr none 3 (.t 94)⟩,
 ⟨none, none, .store 1 (.t 95) (.t 93)⟩] [8, 9, 81, 82, 83] [[], [0], [0, 1], [0, 1, 2], [], [4], [0, 1, 2, 3, 4, 5], [0, 1, 2, 3, 4, 5, 6], [0, 1, 2, 3, 4, 5, 6, 7], [0, 1, 2, 3, 4, 5, 6, 7, 8]])))
 (.reg [⟨some 96, none, .bin .add (.t 83) (.c (.int .i64 1))⟩,
 ⟨some 83, none, .mv (.t 96)⟩] [8, 9, 81, 82, 83])))))))
 (.seq (.reg [⟨some 97, none, .load none (.t 8)⟩,
 ⟨none, none, .store 1 (.t 8) (.t 97)⟩,
 ⟨none, none, .store 1 (.t 9) (.c (.int .i64 0))⟩] [8, 9])
 .ret))))))))))
abbrev R_vent_look : List (Nat × Option (Option Nat)) := [(8, some none), (9, some none)]
theorem K_vent_look : chkF Tryz.prog Tryz.f96 98 C_vent_look R_vent_look = true := by kernel_rfl
theorem spec_vent_look {args : List AVal} {σ : AHeap} {R : ARes → AHeap → Prop} (ha : args.length ≤ 98) (h : AW Tryz.prog 98 none C_vent_look (bodyQD Tryz.prog R_vent_look R) { v := argEnv args 0, ds := [] } σ) : Spec Tryz.prog F_vent_look args σ R := Spec.of_fnD Tryz.func96 K_vent_look ha h
theorem B_vent_look : hasBody Tryz.prog F_vent_look = true := by kernel_rfl
theorem E_vent_look : EntOk Tryz.prog ⟨96, 98, C_vent_look, R_vent_look, 2⟩ := ⟨fun _ => ⟨B_vent_look, _, Tryz.func96, K_vent_look⟩, fun h => by cases h⟩

abbrev F_vent_beyond : FuncId := 97
/-- orlop/vent.beyond: parameters ['int', '[]int'], results ['bool'] -/
def C_vent_beyond : AC :=
 (.seq (.reg [⟨some 2, none, .pbox 1 (.t 0)⟩,
 ⟨some 4, none, .mv (.c (.bool false))⟩] [1, 2])
 (.seq (.reg [⟨some 5, none, .mv (.t 1)⟩,
 ⟨some 6, none, .mkfunc (.func 147) [] [(.t 2)]⟩,
 ⟨some 7, none, .call (.f 100) [true, false] [(.t 5), (.t 6)]⟩,
 ⟨some 4, none, .mv (.t 7)⟩] [4])
 .ret))
abbrev R_vent_beyond : List (Nat × Option (Option Nat)) := [(4, none)]
theorem K_vent_beyond : chkF Tryz.prog Tryz.f97 8 C_vent_beyond R_vent_beyond = true := by kernel_rfl
theorem spec_vent_beyond {args : List AVal} {σ : AHeap} {R : ARes → AHeap → Prop} (ha : args.length ≤ 8) (h : AW Tryz.prog 8 none C_vent_beyond (bodyQ R_vent_beyond R) { v := argEnv args 0, ds := [] } σ) : Spec Tryz.prog F_vent_beyond args σ R := Spec.of_fn Tryz.func97 K_vent_beyond ha h
theorem B_vent_beyond : hasBody Tryz.prog F_vent_beyond = true := by kernel_rfl
theorem E_vent_beyond : EntOk Tryz.prog ⟨97, 8, C_vent_beyond, R_vent_beyond, 0⟩ := ⟨fun _ => ⟨B_vent_beyond, _, Tryz.func97, K_vent_beyond⟩, fun h => by cases h⟩

abbrev F_vent_net_step : FuncId := 98
/-- (*orlop/vent.net).step: parameters ['*vent.net', 'vent.state', 'api.VnStep'], results ['vent.state', 'bool'] -/
def C_vent_net_step : AC :=
 (.seq (.reg [⟨some 4, none, .box 2 (.t 1)⟩,
 ⟨some 5, none, .pbox 2 (.t 2)⟩,
 ⟨some 6, none, .alloc [.int .u64 0, .int .u64 0]⟩,
 ⟨some 7, none, .mv (.c (.bool false))⟩] [0, 4, 5, 6])
 (.seq (.seq (.dreg [⟨some 8, none, .mv (.t 0)⟩,
 ⟨some 9, none, .nilchk (.t 8)⟩,
 ⟨some 10, none, .fieldAddr none 2 (.t 9)⟩,
 ⟨some 11, none, .load none (.t 10)⟩,
 ⟨some 12, none, .fieldAddr none 0 (.t 5)⟩,
 ⟨some 13, none, .load none (.t 12)⟩,
 ⟨some 14, none, .call (.f 148) [false, false] [(.t 11), (.t 13)]⟩,
 ⟨some 15, none, .mv (.t 14)⟩,
 ⟨some 16, (some (15, false)), .fieldAddr none 1 (.t 4)⟩,
 ⟨some 17, (some (15, false)), .load none (.t 16)⟩,
 ⟨some 18, (some (15, false)), .fieldAddr none 0 (.t 5)⟩,
 ⟨some 19, (some (15, false)), .load none (.t 18)⟩,
 ⟨some 20, (some (15, false)), .call (.f 148) [false, false] [(.t 17), (.t 19)]⟩,
 ⟨some 21, (some (15, false)), .fieldAddr none 1 (.t 5)⟩,
 ⟨some 22, (some (15, false)), .load none (.t 21)⟩,
 ⟨some 23, (some (15, false)), .eqb true (.t 20) (.t 22)⟩,
 ⟨some 24, none, .pick (.t 15) (.c (.bool true)) (.t 23)⟩] [0, 4, 5, 6, 24] [[], [0], [0, 1], [0, 1, 2], [], [4], [0, 1, 2, 3, 4, 5], [0, 1, 2, 3, 4, 5, 6], [0, 1, 2, 3, 4, 5, 6, 7], [0, 1, 2, 3, 4, 5, 6, 7, 8], [0, 1, 2, 3, 4, 5, 6, 7], [0, 1, 2, 3, 4, 5, 6, 7, 10], [0, 1, 2, 3, 4, 5, 6, 7, 8, 9, 10, 11], [0, 1, 2, 3, 4, 5, 6, 7], [0, 1, 2, 3, 4, 5, 6, 7, 13], [0, 1, 2, 3, 4, 5, 6, 7, 8, 9, 10, 11, 12, 13, 14], [0, 1, 2, 3, 4, 5, 6, 7, 8, 9, 10, 11, 12, 13, 14, 15]])
 (.cond (.t 24)
 (.seq (.reg [⟨some 25, none, .load (some 2) (.t 4)⟩,
 ⟨none, none, .store 2 (.t 6) (.t 25)⟩,
 ⟨some 7, none, .mv (.c (.bool false))⟩] [6, 7])
 .ret)
 .skip))
 (.seq (.seq (.reg [⟨some 26, none, .fieldAddr none 1 (.t 5)⟩,
 ⟨some 27, none, .load none (.t 26)⟩] [0, 4, 5, 6, 27])
 (.cond (.t 27)
 (.dreg [⟨some 28, none, .fieldAddr none 1 (.t 4)⟩,
 ⟨some 29, none, .load none (.t 28)⟩,
 ⟨some 30, none, .fieldAddr none 0 (.t 5)⟩,
 ⟨some 31, none, .load none (.t 30)⟩,
 ⟨some 32, none, .call (.f 146) [false] [(.t 31)]⟩,
 ⟨some 33, none, .bin .andNot (.t 29) (.t 32)⟩,
 ⟨some 34, none, .fieldAddr none 1 (.t 4)⟩,
 ⟨none, none, .store 1 (.t 34) (.t 33)⟩] [0, 4, 6] [[], [0], [], [2], [2, 3], [0, 1, 2, 3, 4], [0, 1, 2, 3, 4, 5], [0, 1, 2, 3, 4, 5, 6]])
 (.seq (.dreg [⟨some 35, none, .fieldAddr none 1 (.t 4)⟩,
 ⟨some 36, none, .load none (.t 35)⟩,
 ⟨some 37, none, .fieldAddr none 0 (.t 5)⟩,
 ⟨some 38, none, .load none (.t 37)⟩,
 ⟨some 39, none, .call (.f 146) [false] [(.t 38)]⟩,
 ⟨some 40, none, .bin .or (.t 36) (.t 39)⟩,
 ⟨some 41, none, .fieldAddr none 1 (.t 4)⟩,
 ⟨none, none, .store 1 (.t 41) (.t 40)⟩] [0, 4, 5, 6] [[], [0], [], [2], [2, 3], [0, 1, 2, 3, 4], [0, 1, 2, 3, 4, 5], [0, 1, 2, 3, 4, 5, 6]])
 (.dreg [⟨some 42, none, .fieldAddr none 0 (.t 4)⟩,
 ⟨some 43, none, .load none (.t 42)⟩,
 ⟨some 44, none, .fieldAddr none 0 (.t 5)⟩,
 ⟨some 45, none, .load none (.t 44)⟩,
 ⟨some 46, none, .call (.f 146) [false] [(.t 45)]⟩,
 ⟨some 47, none, .bin .or (.t 43) (.t 46)⟩,
 ⟨some 48, none, .fieldAddr none 0 (.t 4)⟩,
 ⟨none, none, .store 1 (.t 48) (.t 47)⟩] [0, 4, 6] [[], [0], [], [2], [2, 3], [0, 1, 2, 3, 4], [0, 1, 2, 3, 4, 5], [0, 1, 2, 3, 4, 5, 6]]))))
 (.seq (.reg [⟨some 49, none, .mv (.t 0)⟩,
 ⟨some 50, none, .load (some 2) (.t 4)⟩,
 ⟨some 51, none, .call (.f 149) [false, false] [(.t 49), (.t 50)]⟩,
 ⟨none, none, .store 2 (.t 6) (.t 51)⟩,
 ⟨some 7, none, .mv (.c (.bool true))⟩] [6, 7])
 .ret))))
abbrev R_vent_net_step : List (Nat × Option (Option Nat)) := [(6, some (some 2)), (7, none)]
theorem K_vent_net_step : chkF Tryz.prog Tryz.f98 52 C_vent_net_step R_vent_net_step = true := by kernel_rfl
theorem spec_vent_net_step {args : List AVal} {σ : AHeap} {R : ARes → AHeap → Prop} (ha : args.length ≤ 52) (h : AW Tryz.prog 52 none C_vent_net_step (bodyQ R_vent_net_step R) { v := argEnv args 0, ds := [] } σ) : Spec Tryz.prog F_vent_net_step args σ R := Spec.of_fn Tryz.func98 K_vent_net_step ha h
theorem B_vent_net_step : hasBody Tryz.prog F_vent_net_step = true := by kernel_rfl
theorem E_vent_net_step : EntOk Tryz.prog ⟨98, 52, C_vent_net_step, R_vent_net_step, 0⟩ := ⟨fun _ => ⟨B_vent_net_step, _, Tryz.func98, K_vent_net_step⟩, fun h => by cases h⟩

abbrev F_vent_set_list : FuncId := 99
/-- (orlop/vent.set).list: parameters ['vent.set'], results ['[]int'] -/
def C_vent_set_list : AC :=
 (.seq (.reg [⟨some 2, none, .nilS 1 1⟩] [0, 2])
 (.seq (.seq (.reg [⟨some 4, none, .mv (.c (.int .i64 0))⟩] [0, 2, 4])
 (.block 0
 (.loop [0, 2, 4]
 (.seq (.reg [⟨some 5, none, .bin .lss (.t 4) (.c (.int .i64 7))⟩] [0, 2, 4, 5])
 (.seq (.cond (.t 5)
 .skip
 (.exit 0))
 (.seq (.block 1
 (.seq (.reg [⟨some 6, none, .mv (.t 4)⟩,
 ⟨some 3, none, .mv (.t 6)⟩] [0, 2, 3, 4])
 (.seq (.reg [⟨some 7, none, .mv (.t 0)⟩,
 ⟨some 8, none, .mv (.t 3)⟩,
 ⟨some 9, none, .call (.f 148) [false, false] [(.t 7), (.t 8)]⟩] [0, 2, 3, 4, 9])
 (.cond (.t 9)
 (.reg [⟨some 10, none, .mv (.t 2)⟩,
 ⟨some 11, none, .mv (.t 3)⟩,
 ⟨some 12, none, .lit 0 1 1 [(0, (.t 11))]⟩,
 ⟨some 13, none, .append 1 8 (.t 10) (.t 12)⟩,
 ⟨some 2, none, .mv (.t 13)⟩] [0, 2, 4])
 .skip))))
 (.reg [⟨some 14, none, .bin .add (.t 4) (.c (.int .i64 1))⟩,
 ⟨some 4, none, .mv (.t 14)⟩] [0, 2, 4])))))))
 (.seq (.reg [⟨some 15, none, .mv (.t 2)⟩,
 ⟨some 2, none, .mvd (.t 15)⟩] [2])
 .ret)))
abbrev R_vent_set_list : List (Nat × Option (Option Nat)) := [(2, none)]
theorem K_vent_set_list : chkF Tryz.prog Tryz.f99 16 C_vent_set_list R_vent_set_list = true := by kernel_rfl
theorem spec_vent_set_list {args : List AVal} {σ : AHeap} {R : ARes → AHeap → Prop} (ha : args.length ≤ 16) (h : AW Tryz.prog 16 none C_vent_set_list (bodyQ R_vent_set_list R) { v := argEnv args 0, ds := [] } σ) : Spec Tryz.prog F_vent_set_list args σ R := Spec.of_fn Tryz.func99 K_vent_set_list ha h
theorem B_vent_set_list : hasBody Tryz.prog F_vent_set_list = true := by kernel_rfl
theorem E_vent_set_list : EntOk Tryz.prog ⟨99, 16, C_vent_set_list, R_vent_set_list, 0⟩ := ⟨fun _ => ⟨B_vent_set_list, _, Tryz.func99, K_vent_set_list⟩, fun h => by cases h⟩

abbrev F_slices_ContainsFunc_int_int : FuncId := 100
/-- slices.ContainsFunc[[]int,int]: parameters ['[]int', 'func(int) bool'], results ['bool'] -/
def C_slices_ContainsFunc_int_int : AC :=
 (.seq (.reg [⟨some 4, none, .mv (.c (.bool false))⟩] [0, 1])
 (.seq (.reg [⟨some 5, none, .mv (.t 0)⟩,
 ⟨some 6, none, .mv (.t 1)⟩,
 ⟨some 7, none, .call (.f 150) [true, false] [(.t 5), (.t 6)]⟩,
 ⟨some 8, none, .bin .geq (.t 7) (.c (.int .i64 0))⟩,
 ⟨some 4, none, .mv (.t 8)⟩] [4])
 .ret))
abbrev R_slices_ContainsFunc_int_int : List (Nat × Option (Option Nat)) := [(4, none)]
theorem K_slices_ContainsFunc_int_int : chkF Tryz.prog Tryz.f100 9 C_slices_ContainsFunc_int_int R_slices_ContainsFunc_int_int = true := by kernel_rfl
theorem spec_slices_ContainsFunc_int_int {args : List AVal} {σ : AHeap} {R : ARes → AHeap → Prop} (ha : args.length ≤ 9) (h : AW Tryz.prog 9 none C_slices_ContainsFunc_int_int (bodyQ R_slices_ContainsFunc_int_int R) { v := argEnv args 0, ds := [] } σ) : Spec Tryz.prog F_slices_ContainsFunc_int_int args σ R := Spec.of_fn Tryz.func100 K_slices_ContainsFunc_int_int ha h
theorem B_slices_ContainsFunc_int_int : hasBody Tryz.prog F_slices_ContainsFunc_int_int = true := by kernel_rfl
theorem E_slices_ContainsFunc_int_int : EntOk Tryz.prog ⟨100, 9, C_slices_ContainsFunc_int_int, R_slices_ContainsFunc_int_int, 0⟩ := ⟨fun _ => ⟨B_slices_ContainsFunc_int_int, _, Tryz.func100, K_slices_ContainsFunc_int_int⟩, fun h => by cases h⟩

abbrev F_cut_beyond_1 : FuncId := 101
/-- orlop/cut.beyond$1: parameters ['int'], results ['bool'] -/
def C_cut_beyond_1 : AC :=
 (.seq (.reg [⟨some 3, none, .mv (.c (.bool false))⟩] [0, 1])
 (.seq (.reg [⟨some 4, none, .mv (.t 0)⟩,
 ⟨some 5, none, .bin .lss (.t 4) (.c (.int .i64 0))⟩,
 ⟨some 6, none, .mv (.t 5)⟩,
 ⟨some 7, (some (6, false)), .mv (.t 0)⟩,
 ⟨some 8, (some (6, false)), .load none (.t 1)⟩,
 ⟨some 9, (some (6, false)), .bin .geq (.t 7) (.t 8)⟩,
 ⟨some 10, none, .pick (.t 6) (.c (.bool true)) (.t 9)⟩,
 ⟨some 3, none, .mv (.t 10)⟩] [3])
 .ret))
abbrev R_cut_beyond_1 : List (Nat × Option (Option Nat)) := [(3, none)]
theorem K_cut_beyond_1 : chkF Tryz.prog Tryz.f101 11 C_cut_beyond_1 R_cut_beyond_1 = true := by kernel_rfl
theorem spec_cut_beyond_1 {args : List AVal} {σ : AHeap} {R : ARes → AHeap → Prop} (ha : args.length ≤ 11) (h : AW Tryz.prog 11 none C_cut_beyond_1 (bodyQ R_cut_beyond_1 R) { v := argEnv args 0, ds := [] } σ) : Spec Tryz.prog F_cut_beyond_1 args σ R := Spec.of_fn Tryz.func101 K_cut_beyond_1 ha h
theorem B_cut_beyond_1 : hasBody Tryz.prog F_cut_beyond_1 = true := by kernel_rfl
theorem E_cut_beyond_1 : EntOk Tryz.prog ⟨101, 11, C_cut_beyond_1, R_cut_beyond_1, 0⟩ := ⟨fun _ => ⟨B_cut_beyond_1, _, Tryz.func101, K_cut_beyond_1⟩, fun h => by cases h⟩

abbrev F_cut_ship_can_1 : FuncId := 118
/-- (*orlop/cut.ship).can$1: parameters ['func(int, cut.set) bool'], results [] -/
def C_cut_ship_can_1 : AC :=
 (.seq (.reg [⟨some 3, none, .pbox 1 (.t 0)⟩] [1, 2, 3])
 (.seq (.reg [⟨some 5, none, .load none (.t 1)⟩,
 ⟨some 6, none, .call (.f 119) [false] [(.t 5)]⟩] [1, 2, 3, 6])
 (.block 0
 (.rangeF (.t 6) [7] (.reg [⟨some 4, none, .mv (.t 7)⟩] [1, 2, 3, 4])
 (.block 1
 (.seq (.qreg [⟨some 8, none, .load none (.t 2)⟩,
 ⟨some 9, none, .load none (.t 1)⟩,
 ⟨some 10, none, .mv (.t 4)⟩,
 ⟨some 11, none, .call (.f 73) [false, false, false] [(.t 8), (.t 9), (.t 10)]⟩,
 ⟨some 12, none, .bin .eql (.t 11) (.c (.int .i64 0))⟩,
 ⟨some 13, none, .mv (.t 12)⟩,
 ⟨some 14, (some (13, true)), .load none (.t 3)⟩,
 ⟨some 15, (some (13, true)), .mv (.t 4)⟩,
 ⟨some 16, (some (13, true)), .load none (.t 1)⟩,
 ⟨some 17, (some (13, true)), .mv (.t 4)⟩,
 ⟨some 18, (some (13, true)), .bin .shl (.c (.int .i64 1)) (.t 17)⟩,
 ⟨some 19, (some (13, true)), .bin .andNot (.t 16) (.t 18)⟩,
 ⟨some 20, (some (13, true)), .call (.t 14) [false, false] [(.t 15), (.t 19)]⟩,
 ⟨some 21, (some (13, true)), .un .not (.t 20)⟩,
 ⟨some 22, none, .pick (.t 13) (.t 21) (.c (.bool false))⟩] [22] [[], [], [], [0, 1, 2], [0, 1, 2, 3], [0, 1, 2, 3, 4], [0, 1, 2, 3, 4, 5], [0, 1, 2, 3, 4, 5], [0, 1, 2, 3, 4, 5], [0, 1, 2, 3, 4, 5], [0, 1, 2, 3, 4, 5, 9], [0, 1, 2, 3, 4, 5, 8, 9, 10], [0, 1, 2, 3, 4, 5, 6, 7, 8, 9, 10, 11], [0, 1, 2, 3, 4, 5, 6, 7, 8, 9, 10, 11, 12], [0, 1, 2, 3, 4, 5, 6, 7, 8, 9, 10, 11, 12, 13]] [([0, 1, 2], 3), ([4, 5, 6, 7, 8, 9, 10, 11], 12)] [13, 14])
 (.cond (.t 22)
 .ret
 .skip)))))))
abbrev R_cut_ship_can_1 : List (Nat × Option (Option Nat)) := []
theorem K_cut_ship_can_1 : chkF Tryz.prog Tryz.f118 23 C_cut_ship_can_1 R_cut_ship_can_1 = true := by kernel_rfl
theorem spec_cut_ship_can_1 {args : List AVal} {σ : AHeap} {R : ARes → AHeap → Prop} (ha : args.length ≤ 23) (h : AW Tryz.prog 23 none C_cut_ship_can_1 (bodyQ R_cut_ship_can_1 R) { v := argEnv args 0, ds := [] } σ) : Spec Tryz.prog F_cut_ship_can_1 args σ R := Spec.of_fn Tryz.func118 K_cut_ship_can_1 ha h
theorem B_cut_ship_can_1 : hasBody Tryz.prog F_cut_ship_can_1 = true := by kernel_rfl
theorem E_cut_ship_can_1 : EntOk Tryz.prog ⟨118, 23, C_cut_ship_can_1, R_cut_ship_can_1, 0⟩ := ⟨fun _ => ⟨B_cut_ship_can_1, _, Tryz.func118, K_cut_ship_can_1⟩, fun h => by cases h⟩

abbrev F_cut_set_parts : FuncId := 119
/-- (orlop/cut.set).parts: parameters ['cut.set'], results ['iter.Seq[int]'] -/
def C_cut_set_parts : AC :=
 (.seq (.reg [⟨some 1, none, .pbox 1 (.t 0)⟩,
 ⟨some 2, none, .mv (.c .nilfunc)⟩] [1])
 (.seq (.reg [⟨some 3, none, .mkfunc (.func 160) [] [(.t 1)]⟩,
 ⟨some 2, none, .mv (.t 3)⟩] [2])
 .ret))
abbrev R_cut_set_parts : List (Nat × Option (Option Nat)) := [(2, none)]
theorem K_cut_set_parts : chkF Tryz.prog Tryz.f119 4 C_cut_set_parts R_cut_set_parts = true := by kernel_rfl
theorem spec_cut_set_parts {args : List AVal} {σ : AHeap} {R : ARes → AHeap → Prop} (ha : args.length ≤ 4) (h : AW Tryz.prog 4 none C_cut_set_parts (bodyQ R_cut_set_parts R) { v := argEnv args 0, ds := [] } σ) : Spec Tryz.prog F_cut_set_parts args σ R := Spec.of_fn Tryz.func119 K_cut_set_parts ha h
theorem B_cut_set_parts : hasBody Tryz.prog F_cut_set_parts = true := by kernel_rfl
theorem E_cut_set_parts : EntOk Tryz.prog ⟨119, 4, C_cut_set_parts, R_cut_set_parts, 0⟩ := ⟨fun _ => ⟨B_cut_set_parts, _, Tryz.func119, K_cut_set_parts⟩, fun h => by cases h⟩

abbrev F_cut_ship_most_1 : FuncId := 120
/-- (*orlop/cut.ship).most$1: parameters ['cut.set'], results ['int'] -/
def C_cut_ship_most_1 : AC :=
 (.seq (.reg [⟨some 4, none, .pbox 1 (.t 0)⟩,
 ⟨some 5, none, .mv (.c (.int .i64 0))⟩] [1, 2, 3, 4])
 (.scope
 (.seq (.reg [⟨some 11, none, .load none (.t 1)⟩,
 ⟨some 12, none, .load none (.t 4)⟩,
 ⟨some 13, none, .mget true .i (.int .i64 0) (.t 11) (.t 12)⟩,
 ⟨some 10, none, .mv (.t 13)⟩,
 ⟨some 14, none, .extract (.t 10) 0⟩,
 ⟨some 15, none, .extract (.t 10) 1⟩,
 ⟨some 6, none, .alloc [.int .i64 0]⟩,
 ⟨none, none, .store 1 (.t 6) (.t 14)⟩,
 ⟨some 7, none, .mv (.t 15)⟩] [1, 2, 3, 4, 6, 7])
 (.seq (.seq (.reg [⟨some 16, none, .mv (.t 7)⟩] [1, 2, 3, 4, 6, 16])
 (.cond (.t 16)
 (.seq (.reg [⟨some 17, none, .load none (.t 6)⟩,
 ⟨some 5, none, .mv (.t 17)⟩] [5])
 .ret)
 .skip))
 (.seq (.label 0)
 (.seq (.seq (.reg [⟨some 18, none, .load none (.t 2)⟩,
 ⟨some 19, none, .load none (.t 4)⟩,
 ⟨some 20, none, .call (.f 61) [false, false] [(.t 18), (.t 19)]⟩] [1, 3, 4, 6, 20])
 (.block 0
 (.rangeF (.t 20) [21, 22] (.reg [⟨some 9, none, .mv (.t 22)⟩] [1, 3, 4, 6, 9])
 (.block 1
 (.seq (.qreg [⟨some 23, none, .load none (.t 6)⟩,
 ⟨some 24, none, .load none (.t 3)⟩,
 ⟨some 25, none, .mv (.t 9)⟩,
 ⟨some 26, none, .call (.t 24) [false] [(.t 25)]⟩,
 ⟨some 27, none, .bin .add (.c (.int .i64 1)) (.t 26)⟩,
 ⟨some 28, none, .mx [(.t 23), (.t 27)]⟩,
 ⟨none, none, .store 1 (.t 6) (.t 28)⟩] [1, 4, 6] [[], [], [], [1, 2], [1, 2, 3], [0, 1, 2, 3, 4], [0, 1, 2, 3, 4, 5]] [([0, 1, 2], 3), ([4, 5], 6)] [])
 (.seq (.dreg [⟨some 29, none, .load none (.t 6)⟩,
 ⟨some 30, none, .load none (.t 4)⟩,
 ⟨some 31, none, .conv .u64 (.t 30)⟩,
 ⟨some 32, none, .call (.f 121) [false] [(.t 31)]⟩,
 ⟨some 33, none, .bin .eql (.t 29) (.t 32)⟩] [1, 4, 6, 33] [[], [], [1], [1, 2], [0, 1, 2, 3]])
 (.cond (.t 33)
 (.exit 0)
 .skip)))))))
 (.seq (.reg [⟨some 34, none, .load none (.t 1)⟩,
 ⟨some 35, none, .load none (.t 4)⟩,
 ⟨some 36, none, .load none (.t 6)⟩,
 ⟨none, none, .mset .i (.t 34) (.t 35) (.t 36)⟩] [6])
 (.seq (.reg [⟨some 37, none, .load none (.t 6)⟩,
 ⟨some 5, none, .mv (.t 37)⟩] [5])
 .ret))))))))
abbrev R_cut_ship_most_1 : List (Nat × Option (Option Nat)) := [(5, none)]
theorem K_cut_ship_most_1 : chkF Tryz.prog Tryz.f120 38 C_cut_ship_most_1 R_cut_ship_most_1 = true := by kernel_rfl
theorem spec_cut_ship_most_1 {args : List AVal} {σ : AHeap} {R : ARes → AHeap → Prop} (ha : args.length ≤ 38) (h : AW Tryz.prog 38 none C_cut_ship_most_1 (bodyQ R_cut_ship_most_1 R) { v := argEnv args 0, ds := [] } σ) : Spec Tryz.prog F_cut_ship_most_1 args σ R := Spec.of_fn Tryz.func120 K_cut_ship_most_1 ha h
theorem B_cut_ship_most_1 : hasBody Tryz.prog F_cut_ship_most_1 = true := by kernel_rfl
theorem E_cut_ship_most_1 : EntOk Tryz.prog ⟨120, 38, C_cut_ship_most_1, R_cut_ship_most_1, 0⟩ := ⟨fun _ => ⟨B_cut_ship_most_1, _, Tryz.func120, K_cut_ship_most_1⟩, fun h => by cases h⟩

abbrev F_math_bits_OnesCount : FuncId := 121
/-- math/bits.OnesCount: parameters ['uint'], results ['int'] -/
def C_math_bits_OnesCount : AC :=
 (.seq (.reg [⟨some 2, none, .mv (.c (.int .i64 0))⟩] [0])
 (.seq (.cond (.c (.bool false))
 (.seq (.reg [⟨some 3, none, .mv (.t 0)⟩,
 ⟨some 4, none, .conv .u32 (.t 3)⟩,
 ⟨some 5, none, .call (.f 162) [false] [(.t 4)]⟩,
 ⟨some 2, none, .mv (.t 5)⟩] [2])
 .ret)
 .skip)
 (.seq (.reg [⟨some 6, none, .mv (.t 0)⟩,
 ⟨some 7, none, .call (.f 163) [false] [(.t 6)]⟩,
 ⟨some 2, none, .mv (.t 7)⟩] [2])
 .ret)))
abbrev R_math_bits_OnesCount : List (Nat × Option (Option Nat)) := [(2, none)]
theorem K_math_bits_OnesCount : chkF Tryz.prog Tryz.f121 8 C_math_bits_OnesCount R_math_bits_OnesCount = true := by kernel_rfl
theorem spec_math_bits_OnesCount {args : List AVal} {σ : AHeap} {R : ARes → AHeap → Prop} (ha : args.length ≤ 8) (h : AW Tryz.prog 8 none C_math_bits_OnesCount (bodyQ R_math_bits_OnesCount R) { v := argEnv args 0, ds := [] } σ) : Spec Tryz.prog F_math_bits_OnesCount args σ R := Spec.of_fn Tryz.func121 K_math_bits_OnesCount ha h
theorem B_math_bits_OnesCount : hasBody Tryz.prog F_math_bits_OnesCount = true := by kernel_rfl
theorem E_math_bits_OnesCount : EntOk Tryz.prog ⟨121, 8, C_math_bits_OnesCount, R_math_bits_OnesCount, 0⟩ := ⟨fun _ => ⟨B_math_bits_OnesCount, _, Tryz.func121, K_math_bits_OnesCount⟩, fun h => by cases h⟩

abbrev F_slices_Contains_string_string : FuncId := 122
/-- slices.Contains[[]string,string]: parameters ['[]string', 'string'], results ['bool'] -/
def C_slices_Contains_string_string : AC :=
 (.seq (.reg [⟨some 4, none, .mv (.c (.bool false))⟩] [0, 1])
 (.seq (.reg [⟨some 5, none, .mv (.t 0)⟩,
 ⟨some 6, none, .mv (.t 1)⟩,
 ⟨some 7, none, .call (.f 164) [true, false] [(.t 5), (.t 6)]⟩,
 ⟨some 8, none, .bin .geq (.t 7) (.c (.int .i64 0))⟩,
 ⟨some 4, none, .mv (.t 8)⟩] [4])
 .ret))
abbrev R_slices_Contains_string_string : List (Nat × Option (Option Nat)) := [(4, none)]
theorem K_slices_Contains_string_string : chkF Tryz.prog Tryz.f122 9 C_slices_Contains_string_string R_slices_Contains_string_string = true := by kernel_rfl
theorem spec_slices_Contains_string_string {args : List AVal} {σ : AHeap} {R : ARes → AHeap → Prop} (ha : args.length ≤ 9) (h : AW Tryz.prog 9 none C_slices_Contains_string_string (bodyQ R_slices_Contains_string_string R) { v := argEnv args 0, ds := [] } σ) : Spec Tryz.prog F_slices_Contains_string_string args σ R := Spec.of_fn Tryz.func122 K_slices_Contains_string_string ha h
theorem B_slices_Contains_string_string : hasBody Tryz.prog F_slices_Contains_string_string = true := by kernel_rfl
theorem E_slices_Contains_string_string : EntOk Tryz.prog ⟨122, 9, C_slices_Contains_string_string, R_slices_Contains_string_string, 0⟩ := ⟨fun _ => ⟨B_slices_Contains_string_string, _, Tryz.func122, K_slices_Contains_string_string⟩, fun h => by cases h⟩

abbrev F_cut_open_1 : FuncId := 123
/-- orlop/cut.open$1: parameters ['int'], results ['bool'] -/
def C_cut_open_1 : AC :=
 (.seq (.reg [⟨some 3, none, .mv (.c (.bool false))⟩] [0, 1])
 (.seq (.reg [⟨some 4, none, .fieldAddr none 0 (.t 1)⟩,
 ⟨some 5, none, .load none (.t 4)⟩,
 ⟨some 6, none, .mv (.t 0)⟩,
 ⟨some 7, none, .call (.f 78) [true, false] [(.t 5), (.t 6)]⟩,
 ⟨some 8, none, .un .not (.t 7)⟩,
 ⟨some 3, none, .mv (.t 8)⟩] [3])
 .ret))
abbrev R_cut_open_1 : List (Nat × Option (Option Nat)) := [(3, none)]
theorem K_cut_open_1 : chkF Tryz.prog Tryz.f123 9 C_cut_open_1 R_cut_open_1 = true := by kernel_rfl
theorem spec_cut_open_1 {args : List AVal} {σ : AHeap} {R : ARes → AHeap → Prop} (ha : args.length ≤ 9) (h : AW Tryz.prog 9 none C_cut_open_1 (bodyQ R_cut_open_1 R) { v := argEnv args 0, ds := [] } σ) : Spec Tryz.prog F_cut_open_1 args σ R := Spec.of_fn Tryz.func123 K_cut_open_1 ha h
theorem B_cut_open_1 : hasBody Tryz.prog F_cut_open_1 = true := by kernel_rfl
theorem E_cut_open_1 : EntOk Tryz.prog ⟨123, 9, C_cut_open_1, R_cut_open_1, 0⟩ := ⟨fun _ => ⟨B_cut_open_1, _, Tryz.func123, K_cut_open_1⟩, fun h => by cases h⟩

abbrev F_cut_ship_reached_1 : FuncId := 124
/-- (*orlop/cut.ship).reached$1: parameters ['func(cut.place) bool'], results [] -/
def C_cut_ship_reached_1 : AC :=
 (.seq (.reg [⟨some 8, none, .mnew⟩,
 ⟨some 9, none, .load none (.t 1)⟩,
 ⟨some 10, none, .call (.f 77) [false] [(.t 9)]⟩,
 ⟨none, none, .mset .i (.t 8) (.t 10) (.c (.int .i64 1))⟩,
 ⟨some 11, none, .mv (.t 8)⟩,
 ⟨some 3, none, .alloc [.nilmap]⟩,
 ⟨none, none, .store 1 (.t 3) (.t 11)⟩] [0, 1, 3])
 (.frz 3 false (.seq (.reg [⟨some 12, none, .load none (.t 1)⟩,
 ⟨some 13, none, .call (.f 77) [false] [(.t 12)]⟩,
 ⟨some 14, none, .build [.int .i64 0, .slice 1 []] [(0, 1, (.t 13)), (1, 1, (.c (.slice 1 [])))]⟩,
 ⟨some 15, none, .lit 1 2 1 [(0, (.t 14))]⟩,
 ⟨some 4, none, .alloc [.slice 2 []]⟩,
 ⟨none, none, .store 1 (.t 4) (.t 15)⟩] [0, 1, 3, 4])
 (.block 0
 (.loop [0, 1, 3, 4]
 (.seq (.seq (.reg [⟨some 16, none, .load none (.t 4)⟩,
 ⟨some 17, none, .len (.t 16)⟩,
 ⟨some 18, none, .bin .gtr (.t 17) (.c (.int .i64 0))⟩] [0, 1, 3, 4, 18])
 (.cond (.t 18)
 .skip
 (.exit 0)))
 (.seq (.block 1
 (.seq (.reg [⟨some 21, none, .load none (.t 4)⟩,
 ⟨some 22, none, .ixS 2 (.t 21) (.c (.int .i64 0))⟩,
 ⟨some 23, none, .load (some 2) (.t 22)⟩,
 ⟨some 5, none, .alloc [.int .i64 0, .slice 1 []]⟩,
 ⟨none, none, .store 2 (.t 5) (.t 23)⟩] [0, 1, 3, 4, 5])
 (.frz 5 true (.seq (.seq (.reg [⟨some 24, none, .mv (.t 0)⟩,
 ⟨some 25, none, .load (some 2) (.t 5)⟩,
 ⟨some 26, none, .call (.t 24) [true] [(.t 25)]⟩,
 ⟨some 27, none, .un .not (.t 26)⟩] [0, 1, 3, 4, 5, 27])
 (.cond (.t 27)
 .ret
 .skip))
 (.seq (.reg [⟨some 28, none, .load none (.t 1)⟩,
 ⟨some 29, none, .fieldAddr none 0 (.t 5)⟩,
 ⟨some 30, none, .load none (.t 29)⟩,
 ⟨some 31, none, .call (.f 61) [false, false] [(.t 28), (.t 30)]⟩] [0, 1, 3, 4, 5, 31])
 (.block 2
 (.rangeF (.t 31) [32, 33] (.seq (.reg [⟨some 6, none, .mv (.t 32)⟩] [3, 4, 5, 6, 33])
 (.reg [⟨some 7, none, .mv (.t 33)⟩] [3, 4, 5, 6, 7]))
 (.block 3
 (.seq (.reg [⟨some 34, none, .load none (.t 3)⟩,
 ⟨some 35, none, .mv (.t 7)⟩,
 ⟨some 36, none, .mget false .i (.int .i64 0) (.t 34) (.t 35)⟩,
 ⟨some 37, none, .bin .add (.t 36) (.c (.int .i64 1))⟩,
 ⟨none, none, .mset .i (.t 34) (.t 35) (.t 37)⟩] [3, 4, 5, 6, 7])
 (.seq (.reg [⟨some 38, none, .load none (.t 3)⟩,
 ⟨some 39, none, .mv (.t 7)⟩,
 ⟨some 40, none, .mget false .i (.int .i64 0) (.t 38) (.t 39)⟩,
 ⟨some 41, none, .bin .eql (.t 40) (.c (.int .i64 1))⟩] [4, 5, 6, 7, 41])
 (.cond (.t 41)
 (.dreg [⟨some 42, none, .load none (.t 4)⟩,
 ⟨some 43, none, .mv (.t 7)⟩,
 ⟨some 44, none, .fieldAddr none 1 (.t 5)⟩,
 ⟨some 45, none, .load none (.t 44)⟩,
 ⟨some 46, none, .callA 1 (.f 74) [true] [(.t 45)]⟩,
 ⟨some 47, none, .mv (.t 6)⟩,
 ⟨some 48, none, .lit 0 1 1 [(0, (.t 47))]⟩,
 ⟨some 49, none, .append 1 8 (.t 46) (.t 48)⟩,
 ⟨some 50, none, .build [.int .i64 0, .slice 1 []] [(0, 1, (.t 43)), (1, 1, (.t 49))]⟩,
 ⟨some 51, none, .lit 0 2 1 [(0, (.t 50))]⟩,
 ⟨some 52, none, .append 2 32 (.t 42) (.t 51)⟩,
 ⟨none, none, .store 1 (.t 4) (.t 52)⟩] [] [[], [], [], [2], [2, 3], [], [5], [2, 3, 4, 5, 6], [1, 2, 3, 4, 5, 6, 7], [1, 2, 3, 4, 5, 6, 7, 8], [0, 1, 2, 3, 4, 5, 6, 7, 8, 9], [0, 1, 2, 3, 4, 5, 6, 7, 8, 9, 10]])
 .skip)))))))))))
 (.seq (.seq (.reg [⟨some 53, none, .load none (.t 4)⟩] [0, 1, 3, 53])
 (.reg [⟨some 4, none, .alloc [.slice 2 []]⟩,
 ⟨none, none, .store 1 (.t 4) (.t 53)⟩] [0, 1, 3, 4]))
 (.reg [⟨some 19, none, .load none (.t 4)⟩,
 ⟨some 20, none, .subO 2 (.t 19) (.c (.int .i64 1))⟩,
 ⟨none, none, .store 1 (.t 4) (.t 20)⟩] [0, 1, 3, 4])))))))))
abbrev R_cut_ship_reached_1 : List (Nat × Option (Option Nat)) := []
theorem K_cut_ship_reached_1 : chkF Tryz.prog Tryz.f124 54 C_cut_ship_reached_1 R_cut_ship_reached_1 = true := by kernel_rfl
theorem spec_cut_ship_reached_1 {args : List AVal} {σ : AHeap} {R : ARes → AHeap → Prop} (ha : args.length ≤ 54) (h : AW Tryz.prog 54 none C_cut_ship_reached_1 (bodyQ R_cut_ship_reached_1 R) { v := argEnv args 0, ds := [] } σ) : Spec Tryz.prog F_cut_ship_reached_1 args σ R := Spec.of_fn Tryz.func124 K_cut_ship_reached_1 ha h
theorem B_cut_ship_reached_1 : hasBody Tryz.prog F_cut_ship_reached_1 = true := by kernel_rfl
theorem E_cut_ship_reached_1 : EntOk Tryz.prog ⟨124, 54, C_cut_ship_reached_1, R_cut_ship_reached_1, 0⟩ := ⟨fun _ => ⟨B_cut_ship_reached_1, _, Tryz.func124, K_cut_ship_reached_1⟩, fun h => by cases h⟩

abbrev F_cut_ship_gone : FuncId := 125
/-- (*orlop/cut.ship).gone: parameters ['*cut.ship', 'cut.set', 'int'], results ['bool'] -/
def C_cut_ship_gone : AC :=
 (.seq (.reg [⟨some 6, none, .mv (.c (.bool false))⟩] [1, 2])
 (.seq (.reg [⟨some 7, none, .mv (.t 1)⟩,
 ⟨some 8, none, .mv (.t 2)⟩,
 ⟨some 9, none, .call (.f 165) [false, false] [(.t 7), (.t 8)]⟩,
 ⟨some 10, none, .un .not (.t 9)⟩,
 ⟨some 6, none, .mv (.t 10)⟩] [6])
 .ret))
abbrev R_cut_ship_gone : List (Nat × Option (Option Nat)) := [(6, none)]
theorem K_cut_ship_gone : chkF Tryz.prog Tryz.f125 11 C_cut_ship_gone R_cut_ship_gone = true := by kernel_rfl
theorem spec_cut_ship_gone {args : List AVal} {σ : AHeap} {R : ARes → AHeap → Prop} (ha : args.length ≤ 11) (h : AW Tryz.prog 11 none C_cut_ship_gone (bodyQ R_cut_ship_gone R) { v := argEnv args 0, ds := [] } σ) : Spec Tryz.prog F_cut_ship_gone args σ R := Spec.of_fn Tryz.func125 K_cut_ship_gone ha h
theorem B_cut_ship_gone : hasBody Tryz.prog F_cut_ship_gone = true := by kernel_rfl
theorem E_cut_ship_gone : EntOk Tryz.prog ⟨125, 11, C_cut_ship_gone, R_cut_ship_gone, 0⟩ := ⟨fun _ => ⟨B_cut_ship_gone, _, Tryz.func125, K_cut_ship_gone⟩, fun h => by cases h⟩

abbrev F_cut_ship_covered : FuncId := 126
/-- (*orlop/cut.ship).covered: parameters ['*cut.ship', 'cut.set', 'int'], results ['bool'] -/
def C_cut_ship_covered : AC :=
 (.seq (.reg [⟨some 6, none, .mv (.c (.bool false))⟩] [0, 1, 2])
 (.seq (.reg [⟨some 7, none, .mv (.t 1)⟩,
 ⟨some 8, none, .mv (.t 0)⟩,
 ⟨some 9, none, .nilchk (.t 8)⟩,
 ⟨some 10, none, .fieldAddr none 11 (.t 9)⟩,
 ⟨some 11, none, .load none (.t 10)⟩,
 ⟨some 12, none, .mv (.t 2)⟩,
 ⟨some 13, none, .ixS 1 (.t 11) (.t 12)⟩,
 ⟨some 14, none, .load none (.t 13)⟩,
 ⟨some 15, none, .bin .and (.t 7) (.t 14)⟩,
 ⟨some 16, none, .bin .neq (.t 15) (.c (.int .i64 0))⟩,
 ⟨some 6, none, .mv (.t 16)⟩] [6])
 .ret))
abbrev R_cut_ship_covered : List (Nat × Option (Option Nat)) := [(6, none)]
theorem K_cut_ship_covered : chkF Tryz.prog Tryz.f126 17 C_cut_ship_covered R_cut_ship_covered = true := by kernel_rfl
theorem spec_cut_ship_covered {args : List AVal} {σ : AHeap} {R : ARes → AHeap → Prop} (ha : args.length ≤ 17) (h : AW Tryz.prog 17 none C_cut_ship_covered (bodyQ R_cut_ship_covered R) { v := argEnv args 0, ds := [] } σ) : Spec Tryz.prog F_cut_ship_covered args σ R := Spec.of_fn Tryz.func126 K_cut_ship_covered ha h
theorem B_cut_ship_covered : hasBody Tryz.prog F_cut_ship_covered = true := by kernel_rfl
theorem E_cut_ship_covered : EntOk Tryz.prog ⟨126, 17, C_cut_ship_covered, R_cut_ship_covered, 0⟩ := ⟨fun _ => ⟨B_cut_ship_covered, _, Tryz.func126, K_cut_ship_covered⟩, fun h => by cases h⟩

abbrev F_cut_ship_gassed : FuncId := 127
/-- (*orlop/cut.ship).gassed: parameters ['*cut.ship', 'cut.set', 'int'], results ['bool'] -/
def C_cut_ship_gassed : AC :=
 (.seq (.reg [⟨some 6, none, .mv (.c (.bool false))⟩] [0, 2])
 (.seq (.reg [⟨some 7, none, .mv (.t 0)⟩,
 ⟨some 8, none, .nilchk (.t 7)⟩,
 ⟨some 9, none, .fieldAddr none 12 (.t 8)⟩,
 ⟨some 10, none, .load none (.t 9)⟩,
 ⟨some 11, none, .mv (.t 2)⟩,
 ⟨some 12, none, .call (.f 165) [false, false] [(.t 10), (.t 11)]⟩,
 ⟨some 6, none, .mv (.t 12)⟩] [6])
 .ret))
abbrev R_cut_ship_gassed : List (Nat × Option (Option Nat)) := [(6, none)]
theorem K_cut_ship_gassed : chkF Tryz.prog Tryz.f127 13 C_cut_ship_gassed R_cut_ship_gassed = true := by kernel_rfl
theorem spec_cut_ship_gassed {args : List AVal} {σ : AHeap} {R : ARes → AHeap → Prop} (ha : args.length ≤ 13) (h : AW Tryz.prog 13 none C_cut_ship_gassed (bodyQ R_cut_ship_gassed R) { v := argEnv args 0, ds := [] } σ) : Spec Tryz.prog F_cut_ship_gassed args σ R := Spec.of_fn Tryz.func127 K_cut_ship_gassed ha h
theorem B_cut_ship_gassed : hasBody Tryz.prog F_cut_ship_gassed = true := by kernel_rfl
theorem E_cut_ship_gassed : EntOk Tryz.prog ⟨127, 13, C_cut_ship_gassed, R_cut_ship_gassed, 0⟩ := ⟨fun _ => ⟨B_cut_ship_gassed, _, Tryz.func127, K_cut_ship_gassed⟩, fun h => by cases h⟩

abbrev F_cut_ship_falls : FuncId := 128
/-- (*orlop/cut.ship).falls: parameters ['*cut.ship', 'cut.set', 'int'], results ['bool'] -/
def C_cut_ship_falls : AC :=
 (.seq (.reg [⟨some 3, none, .pbox 1 (.t 0)⟩,
 ⟨some 6, none, .mv (.c (.bool false))⟩] [1, 2, 3])
 (.seq (.reg [⟨some 12, none, .mv (.t 1)⟩,
 ⟨some 13, none, .mv (.t 2)⟩,
 ⟨some 14, none, .bin .shl (.c (.int .i64 1)) (.t 13)⟩,
 ⟨some 15, none, .bin .andNot (.t 12) (.t 14)⟩,
 ⟨some 7, none, .mv (.t 15)⟩] [3, 7])
 (.seq (.seq (.reg [⟨some 16, none, .mv (.t 7)⟩,
 ⟨some 17, none, .bin .eql (.t 16) (.c (.int .i64 0))⟩] [3, 7, 17])
 (.cond (.t 17)
 (.seq (.reg [⟨some 6, none, .mv (.c (.bool false))⟩] [6])
 .ret)
 .skip))
 (.seq (.reg [⟨some 19, none, .load none (.t 3)⟩,
 ⟨some 20, none, .nilchk (.t 19)⟩,
 ⟨some 21, none, .fieldAddr none 13 (.t 20)⟩,
 ⟨some 22, none, .load none (.t 21)⟩,
 ⟨some 23, none, .mv (.t 7)⟩,
 ⟨some 24, none, .mget true .i (.int .i64 0) (.t 22) (.t 23)⟩,
 ⟨some 18, none, .mv (.t 24)⟩,
 ⟨some 25, none, .extract (.t 18) 0⟩,
 ⟨some 26, none, .extract (.t 18) 1⟩,
 ⟨some 8, none, .mv (.t 25)⟩,
 ⟨some 9, none, .mv (.t 26)⟩] [3, 7, 8, 9])
 (.seq (.seq (.reg [⟨some 27, none, .mv (.t 9)⟩,
 ⟨some 28, none, .un .not (.t 27)⟩] [3, 7, 8, 28])
 (.cond (.t 28)
 (.seq (.reg [⟨some 29, none, .load none (.t 3)⟩,
 ⟨some 30, none, .nilchk (.t 29)⟩,
 ⟨some 31, none, .fieldAddr (some 11) 0 (.t 30)⟩,
 ⟨some 32, none, .fieldAddr (some 3) 1 (.t 31)⟩,
 ⟨some 33, none, .load (some 3) (.t 32)⟩,
 ⟨some 10, none, .alloc [.slice 7 [], .int .i64 0, .int .i64 0]⟩,
 ⟨none, none, .store 3 (.t 10) (.t 33)⟩] [3, 7, 10])
 (.seq (.reg [⟨some 34, none, .fieldAddr none 0 (.t 10)⟩,
 ⟨none, none, .storem 7 (.t 34)⟩] [3, 7, 10])
 (.seq (.seq (.reg [⟨some 35, none, .mv (.t 7)⟩,
 ⟨some 36, none, .call (.f 119) [false] [(.t 35)]⟩] [3, 7, 10, 36])
 (.block 0
 (.rangeF (.t 36) [37] (.reg [⟨some 11, none, .mv (.t 37)⟩] [3, 10, 11])
 (.block 1
 (.dreg [⟨some 38, none, .fieldAddr none 0 (.t 10)⟩,
 ⟨some 39, none, .load none (.t 38)⟩,
 ⟨some 40, none, .load none (.t 3)⟩,
 ⟨some 41, none, .nilchk (.t 40)⟩,
 ⟨some 42, none, .fieldAddr (some 11) 0 (.t 41)⟩,
 ⟨some 43, none, .fieldAddr (some 3) 1 (.t 42)⟩,
 ⟨some 44, none, .fieldAddr none 0 (.t 43)⟩,
 ⟨some 45, none, .load none (.t 44)⟩,
 ⟨some 46, none, .mv (.t 11)⟩,
 ⟨some 47, none, .ixS 7 (.t 45) (.t 46)⟩,
 ⟨some 48, none, .load (some 7) (.t 47)⟩,
 ⟨some 49, none, .lit 0 7 1 [(0, (.t 48))]⟩,
 ⟨some 50, none, .append 7 64 (.t 39) (.t 49)⟩,
 ⟨some 51, none, .fieldAddr none 0 (.t 10)⟩,
 ⟨none, none, .store 1 (.t 51) (.t 50)⟩] [] [[], [0], [], [2], [2, 3], [2, 3, 4], [2, 3, 4, 5], [2, 3, 4, 5, 6], [], [2, 3, 4, 5, 6, 7, 8], [2, 3, 4, 5, 6, 7, 8, 9], [2, 3, 4, 5, 6, 7, 8, 9, 10], [0, 1, 2, 3, 4, 5, 6, 7, 8, 9, 10, 11], [0, 1, 2, 3, 4, 5, 6, 7, 8, 9, 10, 11, 12], [0, 1, 2, 3, 4, 5, 6, 7, 8, 9, 10, 11, 12, 13]])))))
 (.seq (.dreg [⟨some 53, none, .load (some 3) (.t 10)⟩,
 ⟨some 54, none, .load none (.t 3)⟩,
 ⟨some 55, none, .nilchk (.t 54)⟩,
 ⟨some 56, none, .fieldAddr (some 11) 0 (.t 55)⟩,
 ⟨some 57, none, .fieldAddr (some 2) 4 (.t 56)⟩,
 ⟨some 58, none, .load (some 2) (.t 57)⟩,
 ⟨some 59, none, .call (.f 47) [true, false] [(.t 53), (.t 58)]⟩,
 ⟨some 52, none, .mv (.t 59)⟩,
 ⟨some 60, none, .extract (.t 52) 0⟩,
 ⟨some 61, none, .extract (.t 52) 1⟩,
 ⟨some 62, none, .extract (.t 52) 2⟩,
 ⟨some 8, none, .mv (.t 60)⟩] [3, 7, 8] [[], [], [1], [1, 2], [1, 2, 3], [1, 2, 3, 4], [0, 1, 2, 3, 4, 5], [0, 1, 2, 3, 4, 5, 6], [0, 1, 2, 3, 4, 5, 6, 7], [0, 1, 2, 3, 4, 5, 6, 7], [0, 1, 2, 3, 4, 5, 6, 7], [0, 1, 2, 3, 4, 5, 6, 7, 8]])
 (.reg [⟨some 63, none, .load none (.t 3)⟩,
 ⟨some 64, none, .nilchk (.t 63)⟩,
 ⟨some 65, none, .fieldAddr none 13 (.t 64)⟩,
 ⟨some 66, none, .load none (.t 65)⟩,
 ⟨some 67, none, .mv (.t 7)⟩,
 ⟨some 68, none, .mv (.t 8)⟩,
 ⟨none, none, .mset .i (.t 66) (.t 67) (.t 68)⟩] [8])))))
 .skip))
 (.seq (.reg [⟨some 69, none, .mv (.t 8)⟩,
 ⟨some 70, none, .bin .neq (.t 69) (.c (.int .i64 0))⟩,
 ⟨some 6, none, .mv (.t 70)⟩] [6])
 .ret))))))
abbrev R_cut_ship_falls : List (Nat × Option (Option Nat)) := [(6, none)]
theorem K_cut_ship_falls : chkF Tryz.prog Tryz.f128 71 C_cut_ship_falls R_cut_ship_falls = true := by kernel_rfl
theorem spec_cut_ship_falls {args : List AVal} {σ : AHeap} {R : ARes → AHeap → Prop} (ha : args.length ≤ 71) (h : AW Tryz.prog 71 none C_cut_ship_falls (bodyQ R_cut_ship_falls R) { v := argEnv args 0, ds := [] } σ) : Spec Tryz.prog F_cut_ship_falls args σ R := Spec.of_fn Tryz.func128 K_cut_ship_falls ha h
theorem B_cut_ship_falls : hasBody Tryz.prog F_cut_ship_falls = true := by kernel_rfl
theorem E_cut_ship_falls : EntOk Tryz.prog ⟨128, 71, C_cut_ship_falls, R_cut_ship_falls, 0⟩ := ⟨fun _ => ⟨B_cut_ship_falls, _, Tryz.func128, K_cut_ship_falls⟩, fun h => by cases h⟩

abbrev F_slices_pdqsortOrdered_int : FuncId := 129
/-- slices.pdqsortOrdered[int]: parameters ['[]int', 'int', 'int', 'int'], results [] -/
def C_slices_pdqsortOrdered_int : AC :=
 (.seq (.reg [⟨some 8, none, .mv (.c (.bool true))⟩] [0, 1, 2, 3, 8])
 (.seq (.reg [⟨some 9, none, .mv (.c (.bool true))⟩] [0, 1, 2, 3, 8, 9])
 (.block 0
 (.loop [0, 1, 2, 3, 8, 9]
 (.block 1
 (.seq (.reg [⟨some 19, none, .mv (.t 2)⟩,
 ⟨some 20, none, .mv (.t 1)⟩,
 ⟨some 21, none, .bin .sub (.t 19) (.t 20)⟩,
 ⟨some 10, none, .mv (.t 21)⟩] [0, 1, 2, 3, 8, 9, 10])
 (.seq (.seq (.reg [⟨some 22, none, .mv (.t 10)⟩,
 ⟨some 23, none, .bin .leq (.t 22) (.c (.int .i64 12))⟩] [0, 1, 2, 3, 8, 9, 10, 23])
 (.cond (.t 23)
 (.seq (.reg [⟨some 24, none, .mv (.t 0)⟩,
 ⟨some 25, none, .mv (.t 1)⟩,
 ⟨some 26, none, .mv (.t 2)⟩,
 ⟨some 27, none, .call (.f 166) [true, false, false] [(.t 24), (.t 25), (.t 26)]⟩] [])
 .ret)
 .skip))
 (.seq (.seq (.reg [⟨some 28, none, .mv (.t 3)⟩,
 ⟨some 29, none, .bin .eql (.t 28) (.c (.int .i64 0))⟩] [0, 1, 2, 3, 8, 9, 10, 29])
 (.cond (.t 29)
 (.seq (.reg [⟨some 30, none, .mv (.t 0)⟩,
 ⟨some 31, none, .mv (.t 1)⟩,
 ⟨some 32, none, .mv (.t 2)⟩,
 ⟨some 33, none, .call (.f 167) [true, false, false] [(.t 30), (.t 31), (.t 32)]⟩] [])
 .ret)
 .skip))
 (.seq (.seq (.reg [⟨some 34, none, .mv (.t 8)⟩,
 ⟨some 35, none, .un .not (.t 34)⟩] [0, 1, 2, 3, 8, 9, 10, 35])
 (.cond (.t 35)
 (.seq (.reg [⟨some 36, none, .mv (.t 0)⟩,
 ⟨some 37, none, .mv (.t 1)⟩,
 ⟨some 38, none, .mv (.t 2)⟩,
 ⟨some 39, none, .call (.f 168) [true, false, false] [(.t 36), (.t 37), (.t 38)]⟩] [0, 1, 2, 3, 8, 9, 10])
 (.reg [⟨some 40, none, .mv (.t 3)⟩,
 ⟨some 41, none, .bin .sub (.t 40) (.c (.int .i64 1))⟩,
 ⟨some 3, none, .mv (.t 41)⟩] [0, 1, 2, 3, 8, 9, 10]))
 .skip))
 (.seq (.reg [⟨some 43, none, .mv (.t 0)⟩,
 ⟨some 44, none, .mv (.t 1)⟩,
 ⟨some 45, none, .mv (.t 2)⟩,
 ⟨some 46, none, .call (.f 169) [true, false, false] [(.t 43), (.t 44), (.t 45)]⟩,
 ⟨some 42, none, .mv (.t 46)⟩,
 ⟨some 47, none, .extract (.t 42) 0⟩,
 ⟨some 48, none, .extract (.t 42) 1⟩,
 ⟨some 11, none, .mv (.t 47)⟩,
 ⟨some 12, none, .mv (.t 48)⟩] [0, 1, 2, 3, 8, 9, 10, 11, 12])
 (.seq (.seq (.reg [⟨some 49, none, .mv (.t 12)⟩,
 ⟨some 50, none, .bin .eql (.t 49) (.c (.int .i64 2))⟩] [0, 1, 2, 3, 8, 9, 10, 11, 12, 50])
 (.cond (.t 50)
 (.seq (.reg [⟨some 51, none, .mv (.t 0)⟩,
 ⟨some 52, none, .mv (.t 1)⟩,
 ⟨some 53, none, .mv (.t 2)⟩,
 ⟨some 54, none, .call (.f 170) [true, false, false] [(.t 51), (.t 52), (.t 53)]⟩] [0, 1, 2, 3, 8, 9, 10, 11])
 (.seq (.reg [⟨some 55, none, .mv (.t 2)⟩,
 ⟨some 56, none, .bin .sub (.t 55) (.c (.int .i64 1))⟩,
 ⟨some 57, none, .mv (.t 11)⟩,
 ⟨some 58, none, .mv (.t 1)⟩,
 ⟨some 59, none, .bin .sub (.t 57) (.t 58)⟩,
 ⟨some 60, none, .bin .sub (.t 56) (.t 59)⟩,
 ⟨some 11, none, .mv (.t 60)⟩] [0, 1, 2, 3, 8, 9, 10, 11])
 (.reg [⟨some 12, none, .mv (.c (.int .i64 1))⟩] [0, 1, 2, 3, 8, 9, 10, 11, 12])))
 .skip))
 (.seq (.seq (.reg [⟨some 61, none, .mv (.t 8)⟩,
 ⟨some 62, none, .mv (.t 61)⟩,
 ⟨some 63, (some (62, true)), .mv (.t 9)⟩,
 ⟨some 64, none, .pick (.t 62) (.t 63) (.c (.bool false))⟩,
 ⟨some 65, none, .mv (.t 64)⟩,
 ⟨some 66, (some (65, true)), .mv (.t 12)⟩,
 ⟨some 67, (some (65, true)), .bin .eql (.t 66) (.c (.int .i64 1))⟩,
 ⟨some 68, none, .pick (.t 65) (.t 67) (.c (.bool false))⟩] [0, 1, 2, 3, 8, 9, 10, 11, 68])
 (.cond (.t 68)
 (.seq (.reg [⟨some 69, none, .mv (.t 0)⟩,
 ⟨some 70, none, .mv (.t 1)⟩,
 ⟨some 71, none, .mv (.t 2)⟩,
 ⟨some 72, none, .call (.f 171) [true, false, false] [(.t 69), (.t 70), (.t 71)]⟩] [0, 1, 2, 3, 8, 9, 10, 11, 72])
 (.cond (.t 72)
 .ret
 .skip))
 .skip))
 (.seq (.seq (.dreg [⟨some 73, none, .mv (.t 1)⟩,
 ⟨some 74, none, .bin .gtr (.t 73) (.c (.int .i64 0))⟩,
 ⟨some 75, none, .mv (.t 74)⟩,
 ⟨some 76, (some (75, true)), .mv (.t 0)⟩,
 ⟨some 77, (some (75, true)), .mv (.t 1)⟩,
 ⟨some 78, (some (75, true)), .bin .sub (.t 77) (.c (.int .i64 1))⟩,
 ⟨some 79, (some (75, true)), .ixS 1 (.t 76) (.t 78)⟩,
 ⟨some 80, (some (75, true)), .load none (.t 79)⟩,
 ⟨some 81, (some (75, true)), .mv (.t 0)⟩,
 ⟨some 82, (some (75, true)), .mv (.t 11)⟩,
 ⟨some 83, (some (75, true)), .ixS 1 (.t 81) (.t 82)⟩,
 ⟨some 84, (some (75, true)), .load none (.t 83)⟩,
 ⟨some 85, (some (75, true)), .call (.f 172) [false, false] [(.t 80), (.t 84)]⟩,
 ⟨some 86, (some (75, true)), .un .not (.t 85)⟩,
 ⟨some 87, none, .pick (.t 75) (.t 86) (.c (.bool false))⟩] [0, 1, 2, 3, 8, 9, 10, 11, 87] [[], [0], [0, 1], [0, 1, 2], [0, 1, 2], [0, 1, 2, 4], [0, 1, 2, 3, 4, 5], [0, 1, 2, 3, 4, 5, 6], [0, 1, 2], [0, 1, 2], [0, 1, 2, 8, 9], [0, 1, 2, 8, 9, 10], [0, 1, 2, 3, 4, 5, 6, 7, 8, 9, 10, 11], [0, 1, 2, 3, 4, 5, 6, 7, 8, 9, 10, 11, 12], [0, 1, 2, 3, 4, 5, 6, 7, 8, 9, 10, 11, 12, 13]])
 (.cond (.t 87)
 (.seq (.reg [⟨some 88, none, .mv (.t 0)⟩,
 ⟨some 89, none, .mv (.t 1)⟩,
 ⟨some 90, none, .mv (.t 2)⟩,
 ⟨some 91, none, .mv (.t 11)⟩,
 ⟨some 92, none, .call (.f 173) [true, false, false, false] [(.t 88), (.t 89), (.t 90), (.t 91)]⟩,
 ⟨some 13, none, .mv (.t 92)⟩] [0, 2, 3, 8, 9, 13])
 (.seq (.reg [⟨some 93, none, .mv (.t 13)⟩,
 ⟨some 1, none, .mv (.t 93)⟩] [0, 1, 2, 3, 8, 9])
 (.exit 1)))
 .skip))
 (.seq (.reg [⟨some 95, none, .mv (.t 0)⟩,
 ⟨some 96, none, .mv (.t 1)⟩,
 ⟨some 97, none, .mv (.t 2)⟩,
 ⟨some 98, none, .mv (.t 11)⟩,
 ⟨some 99, none, .call (.f 174) [true, false, false, false] [(.t 95), (.t 96), (.t 97), (.t 98)]⟩,
 ⟨some 94, none, .mv (.t 99)⟩,
 ⟨some 100, none, .extract (.t 94) 0⟩,
 ⟨some 101, none, .extract (.t 94) 1⟩,
 ⟨some 14, none, .mv (.t 100)⟩,
 ⟨some 15, none, .mv (.t 101)⟩] [0, 1, 2, 3, 10, 14, 15])
 (.seq (.reg [⟨some 102, none, .mv (.t 15)⟩,
 ⟨some 9, none, .mv (.t 102)⟩] [0, 1, 2, 3, 9, 10, 14])
 (.seq (.reg [⟨some 103, none, .mv (.t 14)⟩,
 ⟨some 104, none, .mv (.t 1)⟩,
 ⟨some 105, none, .bin .sub (.t 103) (.t 104)⟩,
 ⟨some 106, none, .mv (.t 2)⟩,
 ⟨some 107, none, .mv (.t 14)⟩,
 ⟨some 108, none, .bin .sub (.t 106) (.t 107)⟩,
 ⟨some 16, none, .mv (.t 105)⟩,
 ⟨some 17, none, .mv (.t 108)⟩] [0, 1, 2, 3, 9, 10, 14, 16, 17])
 (.seq (.reg [⟨some 109, none, .mv (.t 10)⟩,
 ⟨some 110, none, .bin .quo (.t 109) (.c (.int .i64 8))⟩,
 ⟨some 18, none, .mv (.t 110)⟩] [0, 1, 2, 3, 9, 14, 16, 17, 18])
 (.seq (.reg [⟨some 111, none, .mv (.t 16)⟩,
 ⟨some 112, none, .mv (.t 17)⟩,
 ⟨some 113, none, .bin .lss (.t 111) (.t 112)⟩] [0, 1, 2, 3, 9, 14, 16, 17, 18, 113])
 (.cond (.t 113)
 (.seq (.reg [⟨some 114, none, .mv (.t 16)⟩,
 ⟨some 115, none, .mv (.t 18)⟩,
 ⟨some 116, none, .bin .geq (.t 114) (.t 115)⟩,
 ⟨some 8, none, .mv (.t 116)⟩] [0, 1, 2, 3, 8, 9, 14])
 (.seq (.reg [⟨some 117, none, .mv (.t 0)⟩,
 ⟨some 118, none, .mv (.t 1)⟩,
 ⟨some 119, none, .mv (.t 14)⟩,
 ⟨some 120, none, .mv (.t 3)⟩,
 ⟨some 121, none, .call (.f 129) [true, false, false, false] [(.t 117), (.t 118), (.t 119), (.t 120)]⟩] [0, 2, 3, 8, 9, 14])
 (.reg [⟨some 122, none, .mv (.t 14)⟩,
 ⟨some 123, none, .bin .add (.t 122) (.c (.int .i64 1))⟩,
 ⟨some 1, none, .mv (.t 123)⟩] [0, 1, 2, 3, 8, 9])))
 (.seq (.reg [⟨some 124, none, .mv (.t 17)⟩,
 ⟨some 125, none, .mv (.t 18)⟩,
 ⟨some 126, none, .bin .geq (.t 124) (.t 125)⟩,
 ⟨some 8, none, .mv (.t 126)⟩] [0, 1, 2, 3, 8, 9, 14])
 (.seq (.reg [⟨some 127, none, .mv (.t 0)⟩,
 ⟨some 128, none, .mv (.t 14)⟩,
 ⟨some 129, none, .bin .add (.t 128) (.c (.int .i64 1))⟩,
 ⟨some 130, none, .mv (.t 2)⟩,
 ⟨some 131, none, .mv (.t 3)⟩,
 ⟨some 132, none, .call (.f 129) [true, false, false, false] [(.t 127), (.t 129), (.t 130), (.t 131)]⟩] [0, 1, 3, 8, 9, 14])
 (.reg [⟨some 133, none, .mv (.t 14)⟩,
 ⟨some 2, none, .mv (.t 133)⟩] [0, 1, 2, 3, 8, 9]))))))))))))))))))))))
abbrev R_slices_pdqsortOrdered_int : List (Nat × Option (Option Nat)) := []
theorem K_slices_pdqsortOrdered_int : chkF Tryz.prog Tryz.f129 134 C_slices_pdqsortOrdered_int R_slices_pdqsortOrdered_int = true := by kernel_rfl
theorem spec_slices_pdqsortOrdered_int {args : List AVal} {σ : AHeap} {R : ARes → AHeap → Prop} (ha : args.length ≤ 134) (h : AW Tryz.prog 134 none C_slices_pdqsortOrdered_int (bodyQ R_slices_pdqsortOrdered_int R) { v := argEnv args 0, ds := [] } σ) : Spec Tryz.prog F_slices_pdqsortOrdered_int args σ R := Spec.of_fn Tryz.func129 K_slices_pdqsortOrdered_int ha h
theorem B_slices_pdqsortOrdered_int : hasBody Tryz.prog F_slices_pdqsortOrdered_int = true := by kernel_rfl
theorem E_slices_pdqsortOrdered_int : EntOk Tryz.prog ⟨129, 134, C_slices_pdqsortOrdered_int, R_slices_pdqsortOrdered_int, 0⟩ := ⟨fun _ => ⟨B_slices_pdqsortOrdered_int, _, Tryz.func129, K_slices_pdqsortOrdered_int⟩, fun h => by cases h⟩

abbrev F_math_bits_Len : FuncId := 130
/-- math/bits.Len: parameters ['uint'], results ['int'] -/
def C_math_bits_Len : AC :=
 (.seq (.reg [⟨some 2, none, .mv (.c (.int .i64 0))⟩] [0])
 (.seq (.cond (.c (.bool false))
 (.seq (.reg [⟨some 3, none, .mv (.t 0)⟩,
 ⟨some 4, none, .conv .u32 (.t 3)⟩,
 ⟨some 5, none, .call (.f 175) [false] [(.t 4)]⟩,
 ⟨some 2, none, .mv (.t 5)⟩] [2])
 .ret)
 .skip)
 (.seq (.reg [⟨some 6, none, .mv (.t 0)⟩,
 ⟨some 7, none, .call (.f 176) [false] [(.t 6)]⟩,
 ⟨some 2, none, .mv (.t 7)⟩] [2])
 .ret)))
abbrev R_math_bits_Len : List (Nat × Option (Option Nat)) := [(2, none)]
theorem K_math_bits_Len : chkF Tryz.prog Tryz.f130 8 C_math_bits_Len R_math_bits_Len = true := by kernel_rfl
theorem spec_math_bits_Len {args : List AVal} {σ : AHeap} {R : ARes → AHeap → Prop} (ha : args.length ≤ 8) (h : AW Tryz.prog 8 none C_math_bits_Len (bodyQ R_math_bits_Len R) { v := argEnv args 0, ds := [] } σ) : Spec Tryz.prog F_math_bits_Len args σ R := Spec.of_fn Tryz.func130 K_math_bits_Len ha h
theorem B_math_bits_Len : hasBody Tryz.prog F_math_bits_Len = true := by kernel_rfl
theorem E_math_bits_Len : EntOk Tryz.prog ⟨130, 8, C_math_bits_Len, R_math_bits_Len, 0⟩ := ⟨fun _ => ⟨B_math_bits_Len, _, Tryz.func130, K_math_bits_Len⟩, fun h => by cases h⟩

abbrev F_slices_Index_int_int : FuncId := 131
/-- slices.Index[[]int,int]: parameters ['[]int', 'int'], results ['int'] -/
def C_slices_Index_int_int : AC :=
 (.seq (.reg [⟨some 4, none, .mv (.c (.int .i64 0))⟩] [0, 1])
 (.seq (.seq (.reg [⟨some 6, none, .mv (.t 0)⟩,
 ⟨some 7, none, .len (.t 6)⟩,
 ⟨some 8, none, .mv (.c (.int .i64 0))⟩] [0, 1, 7, 8])
 (.block 0
 (.loop [0, 1, 7, 8]
 (.seq (.reg [⟨some 9, none, .bin .lss (.t 8) (.t 7)⟩] [0, 1, 7, 8, 9])
 (.seq (.cond (.t 9)
 .skip
 (.exit 0))
 (.seq (.block 1
 (.seq (.reg [⟨some 10, none, .mv (.t 8)⟩,
 ⟨some 5, none, .mv (.t 10)⟩] [0, 1, 5, 7, 8])
 (.seq (.reg [⟨some 11, none, .mv (.t 1)⟩,
 ⟨some 12, none, .mv (.t 0)⟩,
 ⟨some 13, none, .mv (.t 5)⟩,
 ⟨some 14, none, .ixS 1 (.t 12) (.t 13)⟩,
 ⟨some 15, none, .load none (.t 14)⟩,
 ⟨some 16, none, .bin .eql (.t 11) (.t 15)⟩] [0, 1, 5, 7, 8, 16])
 (.cond (.t 16)
 (.seq (.reg [⟨some 17, none, .mv (.t 5)⟩,
 ⟨some 4, none, .mv (.t 17)⟩] [4])
 .ret)
 .skip))))
 (.reg [⟨some 18, none, .bin .add (.t 8) (.c (.int .i64 1))⟩,
 ⟨some 8, none, .mv (.t 18)⟩] [0, 1, 7, 8])))))))
 (.seq (.reg [⟨some 4, none, .mv (.c (.int .i64 (-1)))⟩] [4])
 .ret)))
abbrev R_slices_Index_int_int : List (Nat × Option (Option Nat)) := [(4, none)]
theorem K_slices_Index_int_int : chkF Tryz.prog Tryz.f131 19 C_slices_Index_int_int R_slices_Index_int_int = true := by kernel_rfl
theorem spec_slices_Index_int_int {args : List AVal} {σ : AHeap} {R : ARes → AHeap → Prop} (ha : args.length ≤ 19) (h : AW Tryz.prog 19 none C_slices_Index_int_int (bodyQ R_slices_Index_int_int R) { v := argEnv args 0, ds := [] } σ) : Spec Tryz.prog F_slices_Index_int_int args σ R := Spec.of_fn Tryz.func131 K_slices_Index_int_int ha h
theorem B_slices_Index_int_int : hasBody Tryz.prog F_slices_Index_int_int = true := by kernel_rfl
theorem E_slices_Index_int_int : EntOk Tryz.prog ⟨131, 19, C_slices_Index_int_int, R_slices_Index_int_int, 0⟩ := ⟨fun _ => ⟨B_slices_Index_int_int, _, Tryz.func131, K_slices_Index_int_int⟩, fun h => by cases h⟩

abbrev F_l05_span : FuncId := 132
/-- orlop/orloplaw05.span: parameters ['int', 'int'], results ['api.Span'] -/
def C_l05_span : AC :=
 (.seq (.reg [⟨some 4, none, .alloc [.int .i64 0, .int .i64 0]⟩] [0, 1, 4])
 (.seq (.reg [⟨some 5, none, .mv (.t 0)⟩,
 ⟨some 6, none, .mv (.t 1)⟩,
 ⟨some 7, none, .build [.int .i64 0, .int .i64 0] [(0, 1, (.t 5)), (1, 1, (.t 6))]⟩,
 ⟨none, none, .store 2 (.t 4) (.t 7)⟩] [4])
 .ret))
abbrev R_l05_span : List (Nat × Option (Option Nat)) := [(4, some (some 2))]
theorem K_l05_span : chkF Tryz.prog Tryz.f132 8 C_l05_span R_l05_span = true := by kernel_rfl
theorem spec_l05_span {args : List AVal} {σ : AHeap} {R : ARes → AHeap → Prop} (ha : args.length ≤ 8) (h : AW Tryz.prog 8 none C_l05_span (bodyQ R_l05_span R) { v := argEnv args 0, ds := [] } σ) : Spec Tryz.prog F_l05_span args σ R := Spec.of_fn Tryz.func132 K_l05_span ha h
theorem B_l05_span : hasBody Tryz.prog F_l05_span = true := by kernel_rfl
theorem E_l05_span : EntOk Tryz.prog ⟨132, 8, C_l05_span, R_l05_span, 0⟩ := ⟨fun _ => ⟨B_l05_span, _, Tryz.func132, K_l05_span⟩, fun h => by cases h⟩

abbrev F_hull_ship_check : FuncId := 133
/-- (*orlop/hull.ship).check: parameters ['*hull.ship', 'api.HuPart', 'int', '[]api.HuPart'], results ['api.Errno'] -/
def C_hull_ship_check : AC :=
 (.seq (.reg [⟨some 5, none, .pbox 7 (.t 1)⟩,
 ⟨some 8, none, .mv (.c (.int .i64 0))⟩] [0, 2, 3, 5])
 (.seq (.block 0
 (.seq (.reg [⟨some 11, none, .fieldAddr none 0 (.t 5)⟩,
 ⟨some 12, none, .load none (.t 11)⟩,
 ⟨some 13, none, .call (.f 90) [false] [(.t 12)]⟩,
 ⟨some 14, none, .un .not (.t 13)⟩,
 ⟨some 10, none, .mv (.t 14)⟩] [0, 2, 3, 5, 10])
 (.cond (.t 10)
 (.seq (.reg [⟨some 8, none, .mv (.c (.int .i64 6))⟩] [8])
 .ret)
 (.seq (.reg [⟨some 16, none, .mv (.t 0)⟩,
 ⟨some 17, none, .fieldAddr none 0 (.t 5)⟩,
 ⟨some 18, none, .load none (.t 17)⟩,
 ⟨some 19, none, .call (.f 177) [false, false] [(.t 16), (.t 18)]⟩,
 ⟨some 20, none, .bin .geq (.t 19) (.c (.int .i64 0))⟩,
 ⟨some 21, none, .mv (.t 20)⟩,
 ⟨some 22, (some (21, true)), .mv (.t 0)⟩,
 ⟨some 23, (some (21, true)), .fieldAddr none 0 (.t 5)⟩,
 ⟨some 24, (some (21, true)), .load none (.t 23)⟩,
 ⟨some 25, (some (21, true)), .call (.f 177) [false, false] [(.t 22), (.t 24)]⟩,
 ⟨some 26, (some (21, true)), .mv (.t 2)⟩,
 ⟨some 27, (some (21, true)), .bin .lss (.t 25) (.t 26)⟩,
 ⟨some 28, none, .pick (.t 21) (.t 27) (.c (.bool false))⟩,
 ⟨some 29, none, .mv (.t 28)⟩,
 ⟨some 30, (some (29, false)), .mv (.t 3)⟩,
 ⟨some 31, (some (29, false)), .mkfunc (.func 179) [] [(.t 5)]⟩,
 ⟨some 32, (some (29, false)), .call (.f 178) [true, false] [(.t 30), (.t 31)]⟩,
 ⟨some 33, none, .pick (.t 29) (.c (.bool true)) (.t 32)⟩,
 ⟨some 15, none, .mv (.t 33)⟩] [0, 2, 5, 15])
 (.cond (.t 15)
 (.seq (.reg [⟨some 8, none, .mv (.c (.int .i64 5))⟩] [8])
 .ret)
 (.seq (.reg [⟨some 35, none, .fieldAddr none 1 (.t 5)⟩,
 ⟨some 36, none, .load none (.t 35)⟩,
 ⟨some 37, none, .lit 0 1 1 [(0, (.t 36))]⟩,
 ⟨some 38, none, .call (.f 135) [false, false, true] [(.c (.int .i64 1)), (.c (.int .i64 5)), (.t 37)]⟩,
 ⟨some 39, none, .mv (.t 38)⟩,
 ⟨some 40, (some (39, false)), .fieldAddr none 2 (.t 5)⟩,
 ⟨some 41, (some (39, false)), .load none (.t 40)⟩,
 ⟨some 42, (some (39, false)), .fieldAddr none 3 (.t 5)⟩,
 ⟨some 43, (some (39, false)), .load none (.t 42)⟩,
 ⟨some 44, (some (39, false)), .lit 0 1 2 [(0, (.t 41)), (1, (.t 43))]⟩,
 ⟨some 45, (some (39, false)), .call (.f 135) [false, false, true] [(.c (.int .i64 0)), (.c (.int .i64 40)), (.t 44)]⟩,
 ⟨some 46, none, .pick (.t 39) (.c (.bool true)) (.t 45)⟩,
 ⟨some 47, none, .mv (.t 46)⟩,
 ⟨some 48, (some (47, false)), .fieldAddr (some 2) 5 (.t 5)⟩,
 ⟨some 49, (some (47, false)), .fieldAddr none 0 (.t 48)⟩,
 ⟨some 50, (some (47, false)), .load none (.t 49)⟩,
 ⟨some 51, (some (47, false)), .fieldAddr (some 2) 5 (.t 5)⟩,
 ⟨some 52, (some (47, false)), .fieldAddr none 1 (.t 51)⟩,
 ⟨some 53, (some (47, false)), .load none (.t 52)⟩,
 ⟨some 54, (some (47, false)), .lit 0 1 2 [(0, (.t 50)), (1, (.t 53))]⟩,
 ⟨some 55, (some (47, false)), .call (.f 135) [false, false, true] [(.c (.int .i64 1)), (.c (.int .i64 1000000)), (.t 54)]⟩,
 ⟨some 56, none, .pick (.t 47) (.c (.bool true)) (.t 55)⟩,
 ⟨some 34, none, .mv (.t 56)⟩] [0, 2, 5, 34])
 (.cond (.t 34)
 (.seq (.reg [⟨some 8, none, .mv (.c (.int .i64 7))⟩] [8])
 .ret)
 (.seq (.reg [⟨some 58, none, .fieldAddr none 2 (.t 5)⟩,
 ⟨some 59, none, .load none (.t 58)⟩,
 ⟨some 60, none, .fieldAddr none 3 (.t 5)⟩,
 ⟨some 61, none, .load none (.t 60)⟩,
 ⟨some 62, none, .bin .gtr (.t 59) (.t 61)⟩,
 ⟨some 63, none, .mv (.t 62)⟩,
 ⟨some 64, (some (63, false)), .fieldAddr (some 2) 5 (.t 5)⟩,
 ⟨some 65, (some (63, false)), .fieldAddr none 0 (.t 64)⟩,
 ⟨some 66, (some (63, false)), .load none (.t 65)⟩,
 ⟨some 67, (some (63, false)), .fieldAddr (some 2) 5 (.t 5)⟩,
 ⟨some 68, (some (63, false)), .fieldAddr none 1 (.t 67)⟩,
 ⟨some 69, (some (63, false)), .load none (.t 68)⟩,
 ⟨some 70, (some (63, false)), .bin .gtr (.t 66) (.t 69)⟩,
 ⟨some 71, none, .pick (.t 63) (.c (.bool true)) (.t 70)⟩,
 ⟨some 57, none, .mv (.t 71)⟩] [0, 2, 5, 57])
 (.cond (.t 57)
 (.seq (.reg [⟨some 8, none, .mv (.c (.int .i64 2))⟩] [8])
 .ret)
 .skip)))))))))
 (.seq (.reg [⟨some 72, none, .mv (.t 0)⟩,
 ⟨some 73, none, .nilchk (.t 72)⟩,
 ⟨some 74, none, .fieldAddr (some 1) 0 (.t 73)⟩,
 ⟨some 75, none, .fieldAddr none 0 (.t 74)⟩,
 ⟨some 76, none, .load none (.t 75)⟩,
 ⟨some 77, none, .mv (.t 2)⟩,
 ⟨some 78, none, .subq 7 (.t 76) none (some (.t 77))⟩,
 ⟨some 79, none, .build [.slice 7 []] [(0, 1, (.t 78))]⟩,
 ⟨some 80, none, .build [.slice 7 []] [(0, 1, (.t 79))]⟩,
 ⟨some 9, none, .alloc [.slice 7 []]⟩,
 ⟨none, none, .store 1 (.t 9) (.t 80)⟩] [5, 9])
 (.seq (.block 1
 (.seq (.reg [⟨some 82, none, .fieldAddr none 4 (.t 5)⟩,
 ⟨some 83, none, .load none (.t 82)⟩,
 ⟨some 84, none, .mkfunc (.func 181) [] [(.t 9)]⟩,
 ⟨some 85, none, .call (.f 180) [true, false] [(.t 83), (.t 84)]⟩,
 ⟨some 81, none, .mv (.t 85)⟩] [5, 9, 81])
 (.cond (.t 81)
 (.seq (.reg [⟨some 8, none, .mv (.c (.int .i64 4))⟩] [8])
 .ret)
 (.seq (.reg [⟨some 87, none, .fieldAddr none 4 (.t 5)⟩,
 ⟨some 88, none, .load none (.t 87)⟩,
 ⟨some 89, none, .call (.f 182) [true] [(.t 88)]⟩,
 ⟨some 86, none, .mv (.t 89)⟩] [5, 9, 86])
 (.cond (.t 86)
 (.seq (.reg [⟨some 8, none, .mv (.c (.int .i64 5))⟩] [8])
 .ret)
 (.seq (.reg [⟨some 91, none, .fieldAddr none 4 (.t 5)⟩,
 ⟨some 92, none, .load none (.t 91)⟩,
 ⟨some 93, none, .mkfunc (.func 183) [] [(.t 5), (.t 9)]⟩,
 ⟨some 94, none, .call (.f 180) [true, false] [(.t 92), (.t 93)]⟩,
 ⟨some 90, none, .mv (.t 94)⟩] [90])
 (.cond (.t 90)
 (.seq (.reg [⟨some 8, none, .mv (.c (.int .i64 9))⟩] [8])
 .ret)
 .skip)))))))
 (.seq (.reg [⟨some 8, none, .mv (.c (.int .i64 0))⟩] [8])
 .ret)))))
abbrev R_hull_ship_check : List (Nat × Option (Option Nat)) := [(8, none)]
theorem K_hull_ship_check : chkF Tryz.prog Tryz.f133 95 C_hull_ship_check R_hull_ship_check = true := by kernel_rfl
theorem spec_hull_ship_check {args : List AVal} {σ : AHeap} {R : ARes → AHeap → Prop} (ha : args.length ≤ 95) (h : AW Tryz.prog 95 none C_hull_ship_check (bodyQ R_hull_ship_check R) { v := argEnv args 0, ds := [] } σ) : Spec Tryz.prog F_hull_ship_check args σ R := Spec.of_fn Tryz.func133 K_hull_ship_check ha h
theorem B_hull_ship_check : hasBody Tryz.prog F_hull_ship_check = true := by kernel_rfl
theorem E_hull_ship_check : EntOk Tryz.prog ⟨133, 95, C_hull_ship_check, R_hull_ship_check, 0⟩ := ⟨fun _ => ⟨B_hull_ship_check, _, Tryz.func133, K_hull_ship_check⟩, fun h => by cases h⟩

abbrev F_hull_verbs : FuncId := 134
/-- orlop/hull.verbs: parameters [], results ['map[int]hull.verb'] -/
def C_hull_verbs : AC :=
 (.seq (.reg [⟨some 0, none, .mv (.c .nilmap)⟩] [])
 (.seq (.reg [⟨some 1, none, .mnew⟩,
 ⟨some 2, none, .build [.nilfunc, .nilfunc] [(0, 1, (.f 185)), (1, 1, (.f 186))]⟩,
 ⟨none, none, .mset .i (.t 1) (.c (.int .i64 1)) (.t 2)⟩,
 ⟨some 3, none, .build [.nilfunc, .nilfunc] [(0, 1, (.f 187)), (1, 1, (.f 189))]⟩,
 ⟨none, none, .mset .i (.t 1) (.c (.int .i64 2)) (.t 3)⟩,
 ⟨some 4, none, .build [.nilfunc, .nilfunc] [(0, 1, (.f 190)), (1, 1, (.f 191))]⟩,
 ⟨none, none, .mset .i (.t 1) (.c (.int .i64 3)) (.t 4)⟩,
 ⟨some 5, none, .mv (.t 1)⟩,
 ⟨some 0, none, .mv (.t 5)⟩] [0])
 .ret))
abbrev R_hull_verbs : List (Nat × Option (Option Nat)) := [(0, none)]
theorem K_hull_verbs : chkF Tryz.prog Tryz.f134 6 C_hull_verbs R_hull_verbs = true := by kernel_rfl
theorem spec_hull_verbs {args : List AVal} {σ : AHeap} {R : ARes → AHeap → Prop} (ha : args.length ≤ 6) (h : AW Tryz.prog 6 none C_hull_verbs (bodyQ R_hull_verbs R) { v := argEnv args 0, ds := [] } σ) : Spec Tryz.prog F_hull_verbs args σ R := Spec.of_fn Tryz.func134 K_hull_verbs ha h
theorem B_hull_verbs : hasBody Tryz.prog F_hull_verbs = true := by kernel_rfl
theorem E_hull_verbs : EntOk Tryz.prog ⟨134, 6, C_hull_verbs, R_hull_verbs, 2⟩ := ⟨fun _ => ⟨B_hull_verbs, _, Tryz.func134, K_hull_verbs⟩, fun h => by cases h⟩

abbrev F_hull_beyond : FuncId := 135
/-- orlop/hull.beyond: parameters ['int', 'int', '[]int'], results ['bool'] -/
def C_hull_beyond : AC :=
 (.seq (.reg [⟨some 3, none, .pbox 1 (.t 0)⟩,
 ⟨some 4, none, .pbox 1 (.t 1)⟩,
 ⟨some 6, none, .mv (.c (.bool false))⟩] [2, 3, 4])
 (.seq (.reg [⟨some 7, none, .mv (.t 2)⟩,
 ⟨some 8, none, .mkfunc (.func 192) [] [(.t 3), (.t 4)]⟩,
 ⟨some 9, none, .call (.f 100) [true, false] [(.t 7), (.t 8)]⟩,
 ⟨some 6, none, .mv (.t 9)⟩] [6])
 .ret))
abbrev R_hull_beyond : List (Nat × Option (Option Nat)) := [(6, none)]
theorem K_hull_beyond : chkF Tryz.prog Tryz.f135 10 C_hull_beyond R_hull_beyond = true := by kernel_rfl
theorem spec_hull_beyond {args : List AVal} {σ : AHeap} {R : ARes → AHeap → Prop} (ha : args.length ≤ 10) (h : AW Tryz.prog 10 none C_hull_beyond (bodyQ R_hull_beyond R) { v := argEnv args 0, ds := [] } σ) : Spec Tryz.prog F_hull_beyond args σ R := Spec.of_fn Tryz.func135 K_hull_beyond ha h
theorem B_hull_beyond : hasBody Tryz.prog F_hull_beyond = true := by kernel_rfl
theorem E_hull_beyond : EntOk Tryz.prog ⟨135, 10, C_hull_beyond, R_hull_beyond, 0⟩ := ⟨fun _ => ⟨B_hull_beyond, _, Tryz.func135, K_hull_beyond⟩, fun h => by cases h⟩

abbrev F_stand_beyond_1 : FuncId := 136
/-- orlop/stand.beyond$1: parameters ['int'], results ['bool'] -/
def C_stand_beyond_1 : AC :=
 (.seq (.reg [⟨some 4, none, .mv (.c (.bool false))⟩] [0, 1, 2])
 (.seq (.reg [⟨some 5, none, .mv (.t 0)⟩,
 ⟨some 6, none, .load none (.t 1)⟩,
 ⟨some 7, none, .bin .lss (.t 5) (.t 6)⟩,
 ⟨some 8, none, .mv (.t 7)⟩,
 ⟨some 9, (some (8, false)), .mv (.t 0)⟩,
 ⟨some 10, (some (8, false)), .load none (.t 2)⟩,
 ⟨some 11, (some (8, false)), .bin .gtr (.t 9) (.t 10)⟩,
 ⟨some 12, none, .pick (.t 8) (.c (.bool true)) (.t 11)⟩,
 ⟨some 4, none, .mv (.t 12)⟩] [4])
 .ret))
abbrev R_stand_beyond_1 : List (Nat × Option (Option Nat)) := [(4, none)]
theorem K_stand_beyond_1 : chkF Tryz.prog Tryz.f136 13 C_stand_beyond_1 R_stand_beyond_1 = true := by kernel_rfl
theorem spec_stand_beyond_1 {args : List AVal} {σ : AHeap} {R : ARes → AHeap → Prop} (ha : args.length ≤ 13) (h : AW Tryz.prog 13 none C_stand_beyond_1 (bodyQ R_stand_beyond_1 R) { v := argEnv args 0, ds := [] } σ) : Spec Tryz.prog F_stand_beyond_1 args σ R := Spec.of_fn Tryz.func136 K_stand_beyond_1 ha h
theorem B_stand_beyond_1 : hasBody Tryz.prog F_stand_beyond_1 = true := by kernel_rfl
theorem E_stand_beyond_1 : EntOk Tryz.prog ⟨136, 13, C_stand_beyond_1, R_stand_beyond_1, 0⟩ := ⟨fun _ => ⟨B_stand_beyond_1, _, Tryz.func136, K_stand_beyond_1⟩, fun h => by cases h⟩

abbrev F_slices_IndexFunc_api_StPart_api_StPart : FuncId := 137
/-- slices.IndexFunc[[]orlop/api.StPart,orlop/api.StPart]: parameters ['[]api.StPart', 'func(api.StPart) bool'], results ['int'] -/
def C_slices_IndexFunc_api_StPart_api_StPart : AC :=
 (.seq (.reg [⟨some 4, none, .mv (.c (.int .i64 0))⟩] [0, 1])
 (.seq (.seq (.reg [⟨some 6, none, .mv (.t 0)⟩,
 ⟨some 7, none, .len (.t 6)⟩,
 ⟨some 8, none, .mv (.c (.int .i64 0))⟩] [0, 1, 7, 8])
 (.block 0
 (.loop [0, 1, 7, 8]
 (.seq (.reg [⟨some 9, none, .bin .lss (.t 8) (.t 7)⟩] [0, 1, 7, 8, 9])
 (.seq (.cond (.t 9)
 .skip
 (.exit 0))
 (.seq (.block 1
 (.seq (.reg [⟨some 10, none, .mv (.t 8)⟩,
 ⟨some 5, none, .mv (.t 10)⟩] [0, 1, 5, 7, 8])
 (.seq (.reg [⟨some 11, none, .mv (.t 1)⟩,
 ⟨some 12, none, .mv (.t 0)⟩,
 ⟨some 13, none, .mv (.t 5)⟩,
 ⟨some 14, none, .ixS 7 (.t 12) (.t 13)⟩,
 ⟨some 15, none, .load (some 7) (.t 14)⟩,
 ⟨some 16, none, .call (.t 11) [false] [(.t 15)]⟩] [0, 1, 5, 7, 8, 16])
 (.cond (.t 16)
 (.seq (.reg [⟨some 17, none, .mv (.t 5)⟩,
 ⟨some 4, none, .mv (.t 17)⟩] [4])
 .ret)
 .skip))))
 (.reg [⟨some 18, none, .bin .add (.t 8) (.c (.int .i64 1))⟩,
 ⟨some 8, none, .mv (.t 18)⟩] [0, 1, 7, 8])))))))
 (.seq (.reg [⟨some 4, none, .mv (.c (.int .i64 (-1)))⟩] [4])
 .ret)))
abbrev R_slices_IndexFunc_api_StPart_api_StPart : List (Nat × Option (Option Nat)) := [(4, none)]
theorem K_slices_IndexFunc_api_StPart_api_StPart : chkF Tryz.prog Tryz.f137 19 C_slices_IndexFunc_api_StPart_api_StPart R_slices_IndexFunc_api_StPart_api_StPart = true := by kernel_rfl
theorem spec_slices_IndexFunc_api_StPart_api_StPart {args : List AVal} {σ : AHeap} {R : ARes → AHeap → Prop} (ha : args.length ≤ 19) (h : AW Tryz.prog 19 none C_slices_IndexFunc_api_StPart_api_StPart (bodyQ R_slices_IndexFunc_api_StPart_api_StPart R) { v := argEnv args 0, ds := [] } σ) : Spec Tryz.prog F_slices_IndexFunc_api_StPart_api_StPart args σ R := Spec.of_fn Tryz.func137 K_slices_IndexFunc_api_StPart_api_StPart ha h
theorem B_slices_IndexFunc_api_StPart_api_StPart : hasBody Tryz.prog F_slices_IndexFunc_api_StPart_api_StPart = true := by kernel_rfl
theorem E_slices_IndexFunc_api_StPart_api_StPart : EntOk Tryz.prog ⟨137, 19, C_slices_IndexFunc_api_StPart_api_StPart, R_slices_IndexFunc_api_StPart_api_StPart, 0⟩ := ⟨fun _ => ⟨B_slices_IndexFunc_api_StPart_api_StPart, _, Tryz.func137, K_slices_IndexFunc_api_StPart_api_StPart⟩, fun h => by cases h⟩

abbrev F_stand_body_bends : FuncId := 138
/-- (orlop/stand.body).bends: parameters ['stand.body', 'api.Span'], results ['iter.Seq[orlop/api.Span]'] -/
def C_stand_body_bends : AC :=
 (.seq (.reg [⟨some 2, none, .pbox 3 (.t 0)⟩,
 ⟨some 3, none, .pbox 2 (.t 1)⟩,
 ⟨some 4, none, .mv (.c .nilfunc)⟩] [2, 3])
 (.seq (.reg [⟨some 5, none, .mkfunc (.func 193) [] [(.t 3), (.t 2)]⟩,
 ⟨some 4, none, .mv (.t 5)⟩] [4])
 .ret))
abbrev R_stand_body_bends : List (Nat × Option (Option Nat)) := [(4, none)]
theorem K_stand_body_bends : chkF Tryz.prog Tryz.f138 6 C_stand_body_bends R_stand_body_bends = true := by kernel_rfl
theorem spec_stand_body_bends {args : List AVal} {σ : AHeap} {R : ARes → AHeap → Prop} (ha : args.length ≤ 6) (h : AW Tryz.prog 6 none C_stand_body_bends (bodyQ R_stand_body_bends R) { v := argEnv args 0, ds := [] } σ) : Spec Tryz.prog F_stand_body_bends args σ R := Spec.of_fn Tryz.func138 K_stand_body_bends ha h
theorem B_stand_body_bends : hasBody Tryz.prog F_stand_body_bends = true := by kernel_rfl
theorem E_stand_body_bends : EntOk Tryz.prog ⟨138, 6, C_stand_body_bends, R_stand_body_bends, 0⟩ := ⟨fun _ => ⟨B_stand_body_bends, _, Tryz.func138, K_stand_body_bends⟩, fun h => by cases h⟩

abbrev F_stand_body_least : FuncId := 139
/-- (orlop/stand.body).least: parameters ['stand.body', 'int'], results ['stand.sums'] -/
def C_stand_body_least : AC :=
 (.seq (.reg [⟨some 2, none, .pbox 3 (.t 0)⟩,
 ⟨some 4, none, .alloc [.int .i64 0, .int .i64 0, .int .i64 0]⟩] [1, 2, 4])
 (.seq (.seq (.reg [⟨some 11, none, .load (some 3) (.t 2)⟩,
 ⟨some 12, none, .call (.f 195) [true] [(.t 11)]⟩,
 ⟨some 13, none, .mv (.c (.int .i64 0))⟩] [1, 2, 4, 12, 13])
 (.block 0
 (.loop [1, 2, 4, 12, 13]
 (.seq (.reg [⟨some 14, none, .bin .lss (.t 13) (.c (.int .i64 3))⟩] [1, 2, 4, 12, 13, 14])
 (.seq (.cond (.t 14)
 .skip
 (.exit 0))
 (.seq (.block 1
 (.seq (.reg [⟨some 15, none, .mv (.t 13)⟩,
 ⟨some 16, none, .ixV 3 3 (some 3) (.t 12) (.t 13)⟩,
 ⟨some 6, none, .alloc [.nilfunc, .nilfunc, .nilfunc]⟩,
 ⟨some 5, none, .mv (.t 15)⟩,
 ⟨none, none, .store 3 (.t 6) (.t 16)⟩] [1, 2, 4, 5, 6, 12, 13])
 (.frz 6 true (.seq (.reg [⟨some 17, none, .fieldAddr (some 3) 0 (.t 2)⟩,
 ⟨some 18, none, .fieldAddr none 0 (.t 17)⟩,
 ⟨some 19, none, .load none (.t 18)⟩,
 ⟨some 20, none, .len (.t 19)⟩,
 ⟨some 21, none, .mv (.c (.int .i64 0))⟩] [1, 2, 4, 5, 6, 12, 13, 19, 20, 21])
 (.block 2
 (.loop [1, 2, 4, 5, 6, 12, 13, 19, 20, 21]
 (.seq (.reg [⟨some 22, none, .bin .lss (.t 21) (.t 20)⟩] [1, 2, 4, 5, 6, 12, 13, 19, 20, 21, 22])
 (.seq (.cond (.t 22)
 .skip
 (.exit 2))
 (.seq (.block 3
 (.seq (.reg [⟨some 23, none, .ixS 7 (.t 19) (.t 21)⟩,
 ⟨some 24, none, .load (some 7) (.t 23)⟩,
 ⟨some 8, none, .alloc [.str ByteArray.empty, .int .i64 0, .int .i64 0, .int .i64 0, .int .i64 0, .int .i64 0, .int .i64 0]⟩,
 ⟨none, none, .store 7 (.t 8) (.t 24)⟩] [1, 2, 4, 5, 6, 8, 12, 13, 19, 20, 21])
 (.frz 8 true (.seq (.reg [⟨some 25, none, .load (some 7) (.t 8)⟩,
 ⟨some 26, none, .mv (.t 1)⟩,
 ⟨some 27, none, .fieldAddr none 4 (.t 8)⟩,
 ⟨some 28, none, .load none (.t 27)⟩,
 ⟨some 29, none, .bin .sub (.t 26) (.t 28)⟩,
 ⟨some 30, none, .mx [(.c (.int .i64 0)), (.t 29)]⟩,
 ⟨some 31, none, .build [.str ByteArray.empty, .int .i64 0, .int .i64 0, .int .i64 0, .int .i64 0, .int .i64 0, .int .i64 0, .int .i64 0] [(0, 7, (.t 25)), (7, 1, (.t 30))]⟩,
 ⟨some 9, none, .alloc [.str ByteArray.empty, .int .i64 0, .int .i64 0, .int .i64 0, .int .i64 0, .int .i64 0, .int .i64 0, .int .i64 0]⟩,
 ⟨none, none, .store 8 (.t 9) (.t 31)⟩] [1, 2, 4, 5, 6, 8, 9, 12, 13, 19, 20, 21])
 (.frz 9 true (.seq (.reg [⟨some 32, none, .fieldAddr none 1 (.t 6)⟩,
 ⟨some 33, none, .load none (.t 32)⟩,
 ⟨some 10, none, .mv (.t 33)⟩] [1, 2, 4, 5, 6, 8, 9, 10, 12, 13, 19, 20, 21])
 (.seq (.seq (.reg [⟨some 34, none, .fieldAddr none 0 (.t 6)⟩,
 ⟨some 35, none, .load none (.t 34)⟩,
 ⟨some 36, none, .load (some 7) (.t 8)⟩,
 ⟨some 37, none, .call (.t 35) [false] [(.t 36)]⟩,
 ⟨some 38, none, .bin .lss (.t 37) (.c (.int .i64 0))⟩] [1, 2, 4, 5, 6, 8, 9, 10, 12, 13, 19, 20, 21, 38])
 (.cond (.t 38)
 (.reg [⟨some 39, none, .fieldAddr none 2 (.t 6)⟩,
 ⟨some 40, none, .load none (.t 39)⟩,
 ⟨some 10, none, .mv (.t 40)⟩] [1, 2, 4, 5, 6, 8, 9, 10, 12, 13, 19, 20, 21])
 .skip))
 (.dreg [⟨some 41, none, .mv (.t 5)⟩,
 ⟨some 42, none, .ixA 3 1 none (.t 4) (.t 41)⟩,
 ⟨some 43, none, .load none (.t 42)⟩,
 ⟨some 44, none, .fieldAddr none 0 (.t 6)⟩,
 ⟨some 45, none, .load none (.t 44)⟩,
 ⟨some 46, none, .load (some 7) (.t 8)⟩,
 ⟨some 47, none, .call (.t 45) [false] [(.t 46)]⟩,
 ⟨some 48, none, .mv (.t 10)⟩,
 ⟨some 49, none, .load (some 8) (.t 9)⟩,
 ⟨some 50, none, .call (.t 48) [false] [(.t 49)]⟩,
 ⟨some 51, none, .bin .mul (.t 47) (.t 50)⟩,
 ⟨some 52, none, .bin .add (.t 43) (.t 51)⟩,
 ⟨some 53, none, .ixA 3 1 none (.t 4) (.t 41)⟩,
 ⟨none, none, .store 1 (.t 53) (.t 52)⟩] [1, 2, 4, 5, 6, 12, 13, 19, 20, 21] [[], [0], [0, 1], [], [3], [], [3, 4, 5], [], [], [3, 4, 5, 6, 7, 8], [3, 4, 5, 6, 7, 8, 9], [0, 1, 2, 3, 4, 5, 6, 7, 8, 9, 10], [0, 1, 2, 3, 4, 5, 6, 7, 8, 9, 10, 11], [0, 1, 2, 3, 4, 5, 6, 7, 8, 9, 10, 11, 12]]))))))))
 (.reg [⟨some 54, none, .bin .add (.t 21) (.c (.int .i64 1))⟩,
 ⟨some 21, none, .mv (.t 54)⟩] [1, 2, 4, 5, 6, 12, 13, 19, 20, 21]))))))))))
 (.reg [⟨some 55, none, .bin .add (.t 13) (.c (.int .i64 1))⟩,
 ⟨some 13, none, .mv (.t 55)⟩] [1, 2, 4, 12, 13])))))))
 (.seq (.reg [⟨some 56, none, .load (some 3) (.t 4)⟩,
 ⟨none, none, .store 3 (.t 4) (.t 56)⟩] [4])
 .ret)))
abbrev R_stand_body_least : List (Nat × Option (Option Nat)) := [(4, some (some 3))]
theorem K_stand_body_least : chkF Tryz.prog Tryz.f139 57 C_stand_body_least R_stand_body_least = true := by kernel_rfl
theorem spec_stand_body_least {args : List AVal} {σ : AHeap} {R : ARes → AHeap → Prop} (ha : args.length ≤ 57) (h : AW Tryz.prog 57 none C_stand_body_least (bodyQ R_stand_body_least R) { v := argEnv args 0, ds := [] } σ) : Spec Tryz.prog F_stand_body_least args σ R := Spec.of_fn Tryz.func139 K_stand_body_least ha h
theorem B_stand_body_least : hasBody Tryz.prog F_stand_body_least = true := by kernel_rfl
theorem E_stand_body_least : EntOk Tryz.prog ⟨139, 57, C_stand_body_least, R_stand_body_least, 0⟩ := ⟨fun _ => ⟨B_stand_body_least, _, Tryz.func139, K_stand_body_least⟩, fun h => by cases h⟩

abbrev F_stand_sums_why : FuncId := 140
/-- (orlop/stand.sums).why: parameters ['stand.sums'], results ['int'] -/
def C_stand_sums_why : AC :=
 (.seq (.reg [⟨some 1, none, .pbox 3 (.t 0)⟩,
 ⟨some 2, none, .mv (.c (.int .i64 0))⟩] [1])
 (.seq (.block 0
 (.seq (.reg [⟨some 4, none, .ixA 3 1 none (.t 1) (.c (.int .i64 0))⟩,
 ⟨some 5, none, .load none (.t 4)⟩,
 ⟨some 6, none, .bin .leq (.t 5) (.c (.int .i64 0))⟩,
 ⟨some 3, none, .mv (.t 6)⟩] [1, 3])
 (.cond (.t 3)
 (.seq (.reg [⟨some 2, none, .mv (.c (.int .i64 1))⟩] [2])
 .ret)
 (.seq (.reg [⟨some 8, none, .ixA 3 1 none (.t 1) (.c (.int .i64 1))⟩,
 ⟨some 9, none, .load none (.t 8)⟩,
 ⟨some 10, none, .bin .lss (.t 9) (.c (.int .i64 0))⟩,
 ⟨some 7, none, .mv (.t 10)⟩] [1, 7])
 (.cond (.t 7)
 (.seq (.reg [⟨some 2, none, .mv (.c (.int .i64 2))⟩] [2])
 .ret)
 (.seq (.reg [⟨some 12, none, .ixA 3 1 none (.t 1) (.c (.int .i64 2))⟩,
 ⟨some 13, none, .load none (.t 12)⟩,
 ⟨some 14, none, .bin .lss (.t 13) (.c (.int .i64 0))⟩,
 ⟨some 11, none, .mv (.t 14)⟩] [11])
 (.cond (.t 11)
 (.seq (.reg [⟨some 2, none, .mv (.c (.int .i64 3))⟩] [2])
 .ret)
 .skip)))))))
 (.seq (.reg [⟨some 2, none, .mv (.c (.int .i64 0))⟩] [2])
 .ret)))
abbrev R_stand_sums_why : List (Nat × Option (Option Nat)) := [(2, none)]
theorem K_stand_sums_why : chkF Tryz.prog Tryz.f140 15 C_stand_sums_why R_stand_sums_why = true := by kernel_rfl
theorem spec_stand_sums_why {args : List AVal} {σ : AHeap} {R : ARes → AHeap → Prop} (ha : args.length ≤ 15) (h : AW Tryz.prog 15 none C_stand_sums_why (bodyQ R_stand_sums_why R) { v := argEnv args 0, ds := [] } σ) : Spec Tryz.prog F_stand_sums_why args σ R := Spec.of_fn Tryz.func140 K_stand_sums_why ha h
theorem B_stand_sums_why : hasBody Tryz.prog F_stand_sums_why = true := by kernel_rfl
theorem E_stand_sums_why : EntOk Tryz.prog ⟨140, 15, C_stand_sums_why, R_stand_sums_why, 0⟩ := ⟨fun _ => ⟨B_stand_sums_why, _, Tryz.func140, K_stand_sums_why⟩, fun h => by cases h⟩

abbrev F_vent_Check : FuncId := 141
/-- orlop/vent.Check: parameters ['api.VnNet'], results ['int', 'int', 'api.Errno'] -/
def C_vent_Check : AC :=
 (.seq (.reg [⟨some 1, none, .pbox 2 (.t 0)⟩,
 ⟨some 2, none, .mv (.c (.int .i64 0))⟩,
 ⟨some 3, none, .mv (.c (.int .i64 0))⟩,
 ⟨some 4, none, .mv (.c (.int .i64 0))⟩] [1])
 (.seq (.seq (.reg [⟨some 9, none, .fieldAddr none 0 (.t 1)⟩,
 ⟨some 10, none, .load none (.t 9)⟩,
 ⟨some 11, none, .len (.t 10)⟩,
 ⟨some 12, none, .bin .eql (.t 11) (.c (.int .i64 0))⟩,
 ⟨some 13, none, .mv (.t 12)⟩,
 ⟨some 14, (some (13, false)), .fieldAddr none 0 (.t 1)⟩,
 ⟨some 15, (some (13, false)), .load none (.t 14)⟩,
 ⟨some 16, (some (13, false)), .len (.t 15)⟩,
 ⟨some 17, (some (13, false)), .bin .gtr (.t 16) (.c (.int .i64 7))⟩,
 ⟨some 18, none, .pick (.t 13) (.c (.bool true)) (.t 17)⟩,
 ⟨some 19, none, .mv (.t 18)⟩,
 ⟨some 20, (some (19, false)), .fieldAddr none 1 (.t 1)⟩,
 ⟨some 21, (some (19, false)), .load none (.t 20)⟩,
 ⟨some 22, (some (19, false)), .len (.t 21)⟩,
 ⟨some 23, (some (19, false)), .bin .gtr (.t 22) (.c (.int .i64 12))⟩,
 ⟨some 24, none, .pick (.t 19) (.c (.bool true)) (.t 23)⟩] [1, 24])
 (.cond (.t 24)
 (.seq (.reg [⟨some 2, none, .mv (.c (.int .i64 1))⟩,
 ⟨some 3, none, .mv (.c (.int .i64 0))⟩,
 ⟨some 4, none, .mv (.c (.int .i64 3))⟩] [2, 3, 4])
 .ret)
 .skip))
 (.seq (.seq (.reg [⟨some 25, none, .fieldAddr none 0 (.t 1)⟩,
 ⟨some 26, none, .load none (.t 25)⟩,
 ⟨some 27, none, .len (.t 26)⟩,
 ⟨some 28, none, .mv (.c (.int .i64 0))⟩] [1, 26, 27, 28])
 (.block 0
 (.loop [1, 26, 27, 28]
 (.seq (.reg [⟨some 29, none, .bin .lss (.t 28) (.t 27)⟩] [1, 26, 27, 28, 29])
 (.seq (.cond (.t 29)
 .skip
 (.exit 0))
 (.seq (.block 1
 (.seq (.reg [⟨some 30, none, .mv (.t 28)⟩,
 ⟨some 31, none, .ixS 2 (.t 26) (.t 28)⟩,
 ⟨some 32, none, .load (some 2) (.t 31)⟩,
 ⟨some 6, none, .alloc [.str ByteArray.empty, .bool false]⟩,
 ⟨some 5, none, .mv (.t 30)⟩,
 ⟨none, none, .store 2 (.t 6) (.t 32)⟩] [1, 5, 6, 26, 27, 28])
 (.frz 6 true (.block 2
 (.seq (.reg [⟨some 34, none, .fieldAddr none 0 (.t 6)⟩,
 ⟨some 35, none, .load none (.t 34)⟩,
 ⟨some 36, none, .call (.f 90) [false] [(.t 35)]⟩,
 ⟨some 37, none, .un .not (.t 36)⟩,
 ⟨some 33, none, .mv (.t 37)⟩] [1, 5, 6, 26, 27, 28, 33])
 (.cond (.t 33)
 (.seq (.reg [⟨some 38, none, .mv (.t 5)⟩,
 ⟨some 2, none, .mv (.c (.int .i64 2))⟩,
 ⟨some 3, none, .mv (.t 38)⟩,
 ⟨some 4, none, .mv (.c (.int .i64 6))⟩] [2, 3, 4])
 .ret)
 (.seq (.reg [⟨some 40, none, .fieldAddr none 0 (.t 1)⟩,
 ⟨some 41, none, .load none (.t 40)⟩,
 ⟨some 42, none, .mv (.t 5)⟩,
 ⟨some 43, none, .subq 2 (.t 41) none (some (.t 42))⟩,
 ⟨some 44, none, .mkfunc (.func 197) [] [(.t 6)]⟩,
 ⟨some 45, none, .call (.f 196) [true, false] [(.t 43), (.t 44)]⟩,
 ⟨some 39, none, .mv (.t 45)⟩] [1, 5, 26, 27, 28, 39])
 (.cond (.t 39)
 (.seq (.reg [⟨some 46, none, .mv (.t 5)⟩,
 ⟨some 2, none, .mv (.c (.int .i64 2))⟩,
 ⟨some 3, none, .mv (.t 46)⟩,
 ⟨some 4, none, .mv (.c (.int .i64 5))⟩] [2, 3, 4])
 .ret)
 .skip))))))))
 (.reg [⟨some 47, none, .bin .add (.t 28) (.c (.int .i64 1))⟩,
 ⟨some 28, none, .mv (.t 47)⟩] [1, 26, 27, 28])))))))
 (.seq (.seq (.reg [⟨some 48, none, .fieldAddr none 1 (.t 1)⟩,
 ⟨some 49, none, .load none (.t 48)⟩,
 ⟨some 50, none, .len (.t 49)⟩,
 ⟨some 51, none, .mv (.c (.int .i64 0))⟩] [1, 49, 50, 51])
 (.block 3
 (.loop [1, 49, 50, 51]
 (.seq (.reg [⟨some 52, none, .bin .lss (.t 51) (.t 50)⟩] [1, 49, 50, 51, 52])
 (.seq (.cond (.t 52)
 .skip
 (.exit 3))
 (.seq (.block 4
 (.seq (.reg [⟨some 53, none, .mv (.t 51)⟩,
 ⟨some 54, none, .ixS 3 (.t 49) (.t 51)⟩,
 ⟨some 55, none, .load (some 3) (.t 54)⟩,
 ⟨some 8, none, .alloc [.int .i64 0, .int .i64 0, .bool false]⟩,
 ⟨some 7, none, .mv (.t 53)⟩,
 ⟨none, none, .store 3 (.t 8) (.t 55)⟩] [1, 7, 8, 49, 50, 51])
 (.frz 8 true (.block 5
 (.seq (.reg [⟨some 57, none, .fieldAddr none 0 (.t 1)⟩,
 ⟨some 58, none, .load none (.t 57)⟩,
 ⟨some 59, none, .len (.t 58)⟩,
 ⟨some 60, none, .fieldAddr none 0 (.t 8)⟩,
 ⟨some 61, none, .load none (.t 60)⟩,
 ⟨some 62, none, .fieldAddr none 1 (.t 8)⟩,
 ⟨some 63, none, .load none (.t 62)⟩,
 ⟨some 64, none, .lit 0 1 2 [(0, (.t 61)), (1, (.t 63))]⟩,
 ⟨some 65, none, .call (.f 97) [false, true] [(.t 59), (.t 64)]⟩,
 ⟨some 56, none, .mv (.t 65)⟩] [1, 7, 8, 49, 50, 51, 56])
 (.cond (.t 56)
 (.seq (.reg [⟨some 66, none, .mv (.t 7)⟩,
 ⟨some 2, none, .mv (.c (.int .i64 3))⟩,
 ⟨some 3, none, .mv (.t 66)⟩,
 ⟨some 4, none, .mv (.c (.int .i64 4))⟩] [2, 3, 4])
 .ret)
 (.seq (.reg [⟨some 68, none, .fieldAddr none 0 (.t 8)⟩,
 ⟨some 69, none, .load none (.t 68)⟩,
 ⟨some 70, none, .fieldAddr none 1 (.t 8)⟩,
 ⟨some 71, none, .load none (.t 70)⟩,
 ⟨some 72, none, .bin .eql (.t 69) (.t 71)⟩,
 ⟨some 67, none, .mv (.t 72)⟩] [1, 7, 49, 50, 51, 67])
 (.cond (.t 67)
 (.seq (.reg [⟨some 73, none, .mv (.t 7)⟩,
 ⟨some 2, none, .mv (.c (.int .i64 3))⟩,
 ⟨some 3, none, .mv (.t 73)⟩,
 ⟨some 4, none, .mv (.c (.int .i64 2))⟩] [2, 3, 4])
 .ret)
 .skip))))))))
 (.reg [⟨some 74, none, .bin .add (.t 51) (.c (.int .i64 1))⟩,
 ⟨some 51, none, .mv (.t 74)⟩] [1, 49, 50, 51])))))))
 (.seq (.reg [⟨some 2, none, .mv (.c (.int .i64 0))⟩,
 ⟨some 3, none, .mv (.c (.int .i64 0))⟩,
 ⟨some 4, none, .mv (.c (.int .i64 0))⟩] [2, 3, 4])
 .ret)))))
abbrev R_vent_Check : List (Nat × Option (Option Nat)) := [(2, none), (3, none), (4, none)]
theorem K_vent_Check : chkF Tryz.prog Tryz.f141 75 C_vent_Check R_vent_Check = true := by kernel_rfl
theorem spec_vent_Check {args : List AVal} {σ : AHeap} {R : ARes → AHeap → Prop} (ha : args.length ≤ 75) (h : AW Tryz.prog 75 none C_vent_Check (bodyQ R_vent_Check R) { v := argEnv args 0, ds := [] } σ) : Spec Tryz.prog F_vent_Check args σ R := Spec.of_fn Tryz.func141 K_vent_Check ha h
theorem B_vent_Check : hasBody Tryz.prog F_vent_Check = true := by kernel_rfl
theorem E_vent_Check : EntOk Tryz.prog ⟨141, 75, C_vent_Check, R_vent_Check, 0⟩ := ⟨fun _ => ⟨B_vent_Check, _, Tryz.func141, K_vent_Check⟩, fun h => by cases h⟩

abbrev F_vent_look_1 : FuncId := 142
/-- orlop/vent.look$1: parameters [], results [] -/
def C_vent_look_1 : AC :=
 (.seq (.reg [⟨some 4, none, .mv (.t 2)⟩,
 ⟨some 5, none, .isnil true (.t 4)⟩] [0, 1, 2, 5])
 (.cond (.t 5)
 (.dreg [⟨some 6, none, .mv (.t 2)⟩,
 ⟨some 7, none, .assert 39 (.t 6)⟩,
 ⟨none, none, .store 1 (.t 0) (.c .nilptr)⟩,
 ⟨none, none, .store 1 (.t 1) (.t 7)⟩] [] [[], [0], [], [0, 1, 2]])
 .skip))
abbrev R_vent_look_1 : List (Nat × Option (Option Nat)) := []
theorem KD_vent_look_1 : chkDF Tryz.prog Tryz.f142 8 3 2 C_vent_look_1 = true := by kernel_rfl
theorem dspec_vent_look_1 {args : List AVal} {σ : AHeap} {m : PM} {Q : PM → AHeap → Prop} (ha : args.length ≤ 8) (h : AW Tryz.prog 8 none C_vent_look_1 (dbodyQ (Q m.after)) { v := (2, m.val) :: (3, .undef) :: argEnv args 0, ds := [] } σ) : DSpec Tryz.prog F_vent_look_1 args σ m Q := DSpec.of_fn Tryz.func142 KD_vent_look_1 ha h
theorem B_vent_look_1 : hasBody Tryz.prog F_vent_look_1 = true := by kernel_rfl
theorem I_vent_look_1 : Inert Tryz.prog 142 8 := ⟨B_vent_look_1, fun caps hl σ => dspec_vent_look_1 hl (awpC_sound _ (by simp [C_vent_look_1]))⟩
theorem E_vent_look_1 : EntOk Tryz.prog ⟨142, 8, .skip, [], 1⟩ := ⟨fun h => absurd rfl h, fun _ => I_vent_look_1⟩

abbrev F_vent_each_int : FuncId := 143
/-- orlop/vent.each[[]int]: parameters ['[]int', 'int', 'func(int) bool'], results [] -/
def C_vent_each_int : AC :=
 (.seq (.reg [⟨some 8, none, .mv (.t 0)⟩,
 ⟨some 9, none, .len (.t 8)⟩,
 ⟨some 10, none, .mv (.c (.int .i64 0))⟩] [0, 1, 2, 8, 9, 10])
 (.block 0
 (.loop [0, 1, 2, 8, 9, 10]
 (.seq (.reg [⟨some 11, none, .bin .lss (.t 10) (.t 9)⟩] [0, 1, 2, 8, 9, 10, 11])
 (.seq (.cond (.t 11)
 .skip
 (.exit 0))
 (.seq (.block 1
 (.seq (.reg [⟨some 12, none, .mv (.t 10)⟩,
 ⟨some 13, none, .ixS 1 (.t 8) (.t 10)⟩,
 ⟨some 14, none, .load none (.t 13)⟩,
 ⟨some 6, none, .mv (.t 12)⟩,
 ⟨some 7, none, .mv (.t 14)⟩] [0, 1, 2, 6, 7, 8, 9, 10])
 (.block 2
 (.seq (.reg [⟨some 16, none, .mv (.t 1)⟩,
 ⟨some 17, none, .mv (.t 7)⟩,
 ⟨some 18, none, .lit 0 1 1 [(0, (.t 17))]⟩,
 ⟨some 19, none, .call (.f 97) [false, true] [(.t 16), (.t 18)]⟩,
 ⟨some 15, none, .mv (.t 19)⟩] [0, 1, 2, 6, 7, 8, 9, 10, 15])
 (.cond (.t 15)
 (.reg [⟨some 20, none, .mkiface 39 (.c (.int .i64 4))⟩,
 ⟨none, none, .panic (.t 20)⟩] [0, 1, 2, 8, 9, 10])
 (.seq (.reg [⟨some 22, none, .mv (.t 6)⟩,
 ⟨some 23, none, .bin .gtr (.t 22) (.c (.int .i64 0))⟩,
 ⟨some 24, none, .mv (.t 23)⟩,
 ⟨some 25, (some (24, true)), .mv (.t 7)⟩,
 ⟨some 26, (some (24, true)), .mv (.t 0)⟩,
 ⟨some 27, (some (24, true)), .mv (.t 6)⟩,
 ⟨some 28, (some (24, true)), .bin .sub (.t 27) (.c (.int .i64 1))⟩,
 ⟨some 29, (some (24, true)), .ixS 1 (.t 26) (.t 28)⟩,
 ⟨some 30, (some (24, true)), .load none (.t 29)⟩,
 ⟨some 31, (some (24, true)), .bin .leq (.t 25) (.t 30)⟩,
 ⟨some 32, none, .pick (.t 24) (.t 31) (.c (.bool false))⟩,
 ⟨some 21, none, .mv (.t 32)⟩] [0, 1, 2, 7, 8, 9, 10, 21])
 (.cond (.t 21)
 (.reg [⟨some 33, none, .mkiface 39 (.c (.int .i64 2))⟩,
 ⟨none, none, .panic (.t 33)⟩] [0, 1, 2, 8, 9, 10])
 (.seq (.reg [⟨some 35, none, .mv (.t 2)⟩,
 ⟨some 36, none, .mv (.t 7)⟩,
 ⟨some 37, none, .call (.t 35) [false] [(.t 36)]⟩,
 ⟨some 34, none, .mv (.t 37)⟩] [0, 1, 2, 8, 9, 10, 34])
 (.cond (.t 34)
 (.reg [⟨some 38, none, .mkiface 39 (.c (.int .i64 9))⟩,
 ⟨none, none, .panic (.t 38)⟩] [0, 1, 2, 8, 9, 10])
 .skip)))))))))
 (.reg [⟨some 39, none, .bin .add (.t 10) (.c (.int .i64 1))⟩,
 ⟨some 10, none, .mv (.t 39)⟩] [0, 1, 2, 8, 9, 10])))))))
abbrev R_vent_each_int : List (Nat × Option (Option Nat)) := []
theorem K_vent_each_int : chkF Tryz.prog Tryz.f143 40 C_vent_each_int R_vent_each_int = true := by kernel_rfl
theorem spec_vent_each_int {args : List AVal} {σ : AHeap} {R : ARes → AHeap → Prop} (ha : args.length ≤ 40) (h : AW Tryz.prog 40 none C_vent_each_int (bodyQ R_vent_each_int R) { v := argEnv args 0, ds := [] } σ) : Spec Tryz.prog F_vent_each_int args σ R := Spec.of_fn Tryz.func143 K_vent_each_int ha h
theorem B_vent_each_int : hasBody Tryz.prog F_vent_each_int = true := by kernel_rfl
theorem E_vent_each_int : EntOk Tryz.prog ⟨143, 40, C_vent_each_int, R_vent_each_int, 0⟩ := ⟨fun _ => ⟨B_vent_each_int, _, Tryz.func143, K_vent_each_int⟩, fun h => by cases h⟩

abbrev F_vent_look_2 : FuncId := 144
/-- orlop/vent.look$2: parameters ['int'], results ['bool'] -/
def C_vent_look_2 : AC :=
 (.seq (.reg [⟨some 3, none, .mv (.c (.bool false))⟩] [0, 1])
 (.seq (.reg [⟨some 4, none, .fieldAddr none 1 (.t 1)⟩,
 ⟨some 5, none, .load none (.t 4)⟩,
 ⟨some 6, none, .mv (.t 0)⟩,
 ⟨some 7, none, .ixS 3 (.t 5) (.t 6)⟩,
 ⟨some 8, none, .fieldAddr none 2 (.t 7)⟩,
 ⟨some 9, none, .load none (.t 8)⟩,
 ⟨some 3, none, .mv (.t 9)⟩] [3])
 .ret))
abbrev R_vent_look_2 : List (Nat × Option (Option Nat)) := [(3, none)]
theorem K_vent_look_2 : chkF Tryz.prog Tryz.f144 10 C_vent_look_2 R_vent_look_2 = true := by kernel_rfl
theorem spec_vent_look_2 {args : List AVal} {σ : AHeap} {R : ARes → AHeap → Prop} (ha : args.length ≤ 10) (h : AW Tryz.prog 10 none C_vent_look_2 (bodyQ R_vent_look_2 R) { v := argEnv args 0, ds := [] } σ) : Spec Tryz.prog F_vent_look_2 args σ R := Spec.of_fn Tryz.func144 K_vent_look_2 ha h
theorem B_vent_look_2 : hasBody Tryz.prog F_vent_look_2 = true := by kernel_rfl
theorem E_vent_look_2 : EntOk Tryz.prog ⟨144, 10, C_vent_look_2, R_vent_look_2, 0⟩ := ⟨fun _ => ⟨B_vent_look_2, _, Tryz.func144, K_vent_look_2⟩, fun h => by cases h⟩

abbrev F_vent_look_3 : FuncId := 145
/-- orlop/vent.look$3: parameters ['int'], results ['bool'] -/
def C_vent_look_3 : AC :=
 (.seq (.reg [⟨some 3, none, .mv (.c (.bool false))⟩] [0, 1])
 (.seq (.reg [⟨some 4, none, .fieldAddr none 0 (.t 1)⟩,
 ⟨some 5, none, .load none (.t 4)⟩,
 ⟨some 6, none, .mv (.t 0)⟩,
 ⟨some 7, none, .ixS 2 (.t 5) (.t 6)⟩,
 ⟨some 8, none, .fieldAddr none 1 (.t 7)⟩,
 ⟨some 9, none, .load none (.t 8)⟩,
 ⟨some 3, none, .mv (.t 9)⟩] [3])
 .ret))
abbrev R_vent_look_3 : List (Nat × Option (Option Nat)) := [(3, none)]
theorem K_vent_look_3 : chkF Tryz.prog Tryz.f145 10 C_vent_look_3 R_vent_look_3 = true := by kernel_rfl
theorem spec_vent_look_3 {args : List AVal} {σ : AHeap} {R : ARes → AHeap → Prop} (ha : args.length ≤ 10) (h : AW Tryz.prog 10 none C_vent_look_3 (bodyQ R_vent_look_3 R) { v := argEnv args 0, ds := [] } σ) : Spec Tryz.prog F_vent_look_3 args σ R := Spec.of_fn Tryz.func145 K_vent_look_3 ha h
theorem B_vent_look_3 : hasBody Tryz.prog F_vent_look_3 = true := by kernel_rfl
theorem E_vent_look_3 : EntOk Tryz.prog ⟨145, 10, C_vent_look_3, R_vent_look_3, 0⟩ := ⟨fun _ => ⟨B_vent_look_3, _, Tryz.func145, K_vent_look_3⟩, fun h => by cases h⟩

abbrev F_vent_one : FuncId := 146
/-- orlop/vent.one: parameters ['int'], results ['vent.set'] -/
def C_vent_one : AC :=
 (.seq (.reg [⟨some 2, none, .mv (.c (.int .u64 0))⟩] [0])
 (.seq (.reg [⟨some 3, none, .mv (.t 0)⟩,
 ⟨some 4, none, .bin .shl (.c (.int .u64 1)) (.t 3)⟩,
 ⟨some 2, none, .mv (.t 4)⟩] [2])
 .ret))
abbrev R_vent_one : List (Nat × Option (Option Nat)) := [(2, none)]
theorem K_vent_one : chkF Tryz.prog Tryz.f146 5 C_vent_one R_vent_one = true := by kernel_rfl
theorem spec_vent_one {args : List AVal} {σ : AHeap} {R : ARes → AHeap → Prop} (ha : args.length ≤ 5) (h : AW Tryz.prog 5 none C_vent_one (bodyQ R_vent_one R) { v := argEnv args 0, ds := [] } σ) : Spec Tryz.prog F_vent_one args σ R := Spec.of_fn Tryz.func146 K_vent_one ha h
theorem B_vent_one : hasBody Tryz.prog F_vent_one = true := by kernel_rfl
theorem E_vent_one : EntOk Tryz.prog ⟨146, 5, C_vent_one, R_vent_one, 0⟩ := ⟨fun _ => ⟨B_vent_one, _, Tryz.func146, K_vent_one⟩, fun h => by cases h⟩

abbrev F_vent_beyond_1 : FuncId := 147
/-- orlop/vent.beyond$1: parameters ['int'], results ['bool'] -/
def C_vent_beyond_1 : AC :=
 (.seq (.reg [⟨some 3, none, .mv (.c (.bool false))⟩] [0, 1])
 (.seq (.reg [⟨some 4, none, .mv (.t 0)⟩,
 ⟨some 5, none, .bin .lss (.t 4) (.c (.int .i64 0))⟩,
 ⟨some 6, none, .mv (.t 5)⟩,
 ⟨some 7, (some (6, false)), .mv (.t 0)⟩,
 ⟨some 8, (some (6, false)), .load none (.t 1)⟩,
 ⟨some 9, (some (6, false)), .bin .geq (.t 7) (.t 8)⟩,
 ⟨some 10, none, .pick (.t 6) (.c (.bool true)) (.t 9)⟩,
 ⟨some 3, none, .mv (.t 10)⟩] [3])
 .ret))
abbrev R_vent_beyond_1 : List (Nat × Option (Option Nat)) := [(3, none)]
theorem K_vent_beyond_1 : chkF Tryz.prog Tryz.f147 11 C_vent_beyond_1 R_vent_beyond_1 = true := by kernel_rfl
theorem spec_vent_beyond_1 {args : List AVal} {σ : AHeap} {R : ARes → AHeap → Prop} (ha : args.length ≤ 11) (h : AW Tryz.prog 11 none C_vent_beyond_1 (bodyQ R_vent_beyond_1 R) { v := argEnv args 0, ds := [] } σ) : Spec Tryz.prog F_vent_beyond_1 args σ R := Spec.of_fn Tryz.func147 K_vent_beyond_1 ha h
theorem B_vent_beyond_1 : hasBody Tryz.prog F_vent_beyond_1 = true := by kernel_rfl
theorem E_vent_beyond_1 : EntOk Tryz.prog ⟨147, 11, C_vent_beyond_1, R_vent_beyond_1, 0⟩ := ⟨fun _ => ⟨B_vent_beyond_1, _, Tryz.func147, K_vent_beyond_1⟩, fun h => by cases h⟩

abbrev F_vent_set_has : FuncId := 148
/-- (orlop/vent.set).has: parameters ['vent.set', 'int'], results ['bool'] -/
def C_vent_set_has : AC :=
 (.seq (.reg [⟨some 4, none, .mv (.c (.bool false))⟩] [0, 1])
 (.seq (.reg [⟨some 5, none, .mv (.t 0)⟩,
 ⟨some 6, none, .mv (.t 1)⟩,
 ⟨some 7, none, .bin .shr (.t 5) (.t 6)⟩,
 ⟨some 8, none, .bin .and (.t 7) (.c (.int .u64 1))⟩,
 ⟨some 9, none, .bin .eql (.t 8) (.c (.int .u64 1))⟩,
 ⟨some 4, none, .mv (.t 9)⟩] [4])
 .ret))
abbrev R_vent_set_has : List (Nat × Option (Option Nat)) := [(4, none)]
theorem K_vent_set_has : chkF Tryz.prog Tryz.f148 10 C_vent_set_has R_vent_set_has = true := by kernel_rfl
theorem spec_vent_set_has {args : List AVal} {σ : AHeap} {R : ARes → AHeap → Prop} (ha : args.length ≤ 10) (h : AW Tryz.prog 10 none C_vent_set_has (bodyQ R_vent_set_has R) { v := argEnv args 0, ds := [] } σ) : Spec Tryz.prog F_vent_set_has args σ R := Spec.of_fn Tryz.func148 K_vent_set_has ha h
theorem B_vent_set_has : hasBody Tryz.prog F_vent_set_has = true := by kernel_rfl
theorem E_vent_set_has : EntOk Tryz.prog ⟨148, 10, C_vent_set_has, R_vent_set_has, 0⟩ := ⟨fun _ => ⟨B_vent_set_has, _, Tryz.func148, K_vent_set_has⟩, fun h => by cases h⟩

abbrev F_vent_net_spread : FuncId := 149
/-- (*orlop/vent.net).spread: parameters ['*vent.net', 'vent.state'], results ['vent.state'] -/
def C_vent_net_spread : AC :=
 (.seq (.reg [⟨some 3, none, .box 2 (.t 1)⟩,
 ⟨some 4, none, .alloc [.int .u64 0, .int .u64 0]⟩] [0, 3, 4])
 (.seq (.seq (.reg [⟨some 9, none, .build [.int .u64 0, .int .u64 0] []⟩,
 ⟨some 5, none, .alloc [.int .u64 0, .int .u64 0]⟩,
 ⟨none, none, .store 2 (.t 5) (.t 9)⟩] [0, 3, 4, 5])
 (.block 0
 (.loop [0, 3, 4, 5]
 (.seq (.seq (.reg [⟨some 10, none, .load (some 2) (.t 5)⟩,
 ⟨some 11, none, .load (some 2) (.t 3)⟩,
 ⟨some 12, none, .eqa true [.i, .i] (.t 10) (.t 11)⟩] [0, 3, 4, 5, 12])
 (.cond (.t 12)
 .skip
 (.exit 0)))
 (.seq (.block 1
 (.seq (.reg [⟨some 13, none, .load (some 2) (.t 3)⟩,
 ⟨none, none, .store 2 (.t 5) (.t 13)⟩] [0, 3, 4, 5])
 (.seq (.reg [⟨some 14, none, .mv (.t 0)⟩,
 ⟨some 15, none, .nilchk (.t 14)⟩,
 ⟨some 16, none, .fieldAddr (some 2) 0 (.t 15)⟩,
 ⟨some 17, none, .fieldAddr none 1 (.t 16)⟩,
 ⟨some 18, none, .load none (.t 17)⟩,
 ⟨some 19, none, .len (.t 18)⟩,
 ⟨some 20, none, .mv (.c (.int .i64 0))⟩] [0, 3, 4, 5, 18, 19, 20])
 (.block 2
 (.loop [0, 3, 4, 5, 18, 19, 20]
 (.seq (.reg [⟨some 21, none, .bin .lss (.t 20) (.t 19)⟩] [0, 3, 4, 5, 18, 19, 20, 21])
 (.seq (.cond (.t 21)
 .skip
 (.exit 2))
 (.seq (.block 3
 (.seq (.reg [⟨some 22, none, .mv (.t 20)⟩,
 ⟨some 23, none, .ixS 3 (.t 18) (.t 20)⟩,
 ⟨some 24, none, .load (some 3) (.t 23)⟩,
 ⟨some 7, none, .alloc [.int .i64 0, .int .i64 0, .bool false]⟩,
 ⟨some 6, none, .mv (.t 22)⟩,
 ⟨none, none, .store 3 (.t 7) (.t 24)⟩] [0, 3, 4, 5, 6, 7, 18, 19, 20])
 (.frz 7 true (.seq (.seq (.dreg [⟨some 25, none, .mv (.t 0)⟩,
 ⟨some 26, none, .mv (.t 6)⟩,
 ⟨some 27, none, .nilchk (.t 25)⟩,
 ⟨some 28, none, .fieldAddr (some 12) 4 (.t 27)⟩,
 ⟨some 29, none, .ixA 12 1 none (.t 28) (.t 26)⟩,
 ⟨some 30, none, .load none (.t 29)⟩,
 ⟨some 31, none, .un .not (.t 30)⟩,
 ⟨some 32, none, .mv (.t 31)⟩,
 ⟨some 33, (some (32, false)), .fieldAddr none 0 (.t 3)⟩,
 ⟨some 34, (some (32, false)), .load none (.t 33)⟩,
 ⟨some 35, (some (32, false)), .fieldAddr none 0 (.t 7)⟩,
 ⟨some 36, (some (32, false)), .load none (.t 35)⟩,
 ⟨some 37, (some (32, false)), .call (.f 148) [false, false] [(.t 34), (.t 36)]⟩,
 ⟨some 38, (some (32, false)), .fieldAddr none 0 (.t 3)⟩,
 ⟨some 39, (some (32, false)), .load none (.t 38)⟩,
 ⟨some 40, (some (32, false)), .fieldAddr none 1 (.t 7)⟩,
 ⟨some 41, (some (32, false)), .load none (.t 40)⟩,
 ⟨some 42, (some (32, false)), .call (.f 148) [false, false] [(.t 39), (.t 41)]⟩,
 ⟨some 43, (some (32, false)), .eqb false (.t 37) (.t 42)⟩,
 ⟨some 44, none, .pick (.t 32) (.c (.bool true)) (.t 43)⟩] [0, 3, 4, 5, 7, 18, 19, 20, 44] [[], [], [0], [0, 2], [0, 1, 2, 3], [0, 1, 2, 3, 4], [0, 1, 2, 3, 4, 5], [0, 1, 2, 3, 4, 5, 6], [0, 1, 2, 3, 4, 5, 6, 7], [0, 1, 2, 3, 4, 5, 6, 7, 8], [0, 1, 2, 3, 4, 5, 6, 7], [0, 1, 2, 3, 4, 5, 6, 7, 10], [0, 1, 2, 3, 4, 5, 6, 7, 8, 9, 10, 11], [0, 1, 2, 3, 4, 5, 6, 7], [0, 1, 2, 3, 4, 5, 6, 7, 13], [0, 1, 2, 3, 4, 5, 6, 7], [0, 1, 2, 3, 4, 5, 6, 7, 15], [0, 1, 2, 3, 4, 5, 6, 7, 8, 9, 10, 11, 12, 13, 14, 15, 16], [0, 1, 2, 3, 4, 5, 6, 7, 8, 9, 10, 11, 12, 13, 14, 15, 16, 17], [0, 1, 2, 3, 4, 5, 6, 7, 8, 9, 10, 11, 12, 13, 14, 15, 16, 17, 18]])
 (.cond (.t 44)
 (.exit 3)
 .skip))
 (.seq (.dreg [⟨some 45, none, .fieldAddr none 0 (.t 3)⟩,
 ⟨some 46, none, .load none (.t 45)⟩,
 ⟨some 47, none, .fieldAddr none 0 (.t 7)⟩,
 ⟨some 48, none, .load none (.t 47)⟩,
 ⟨some 49, none, .call (.f 146) [false] [(.t 48)]⟩,
 ⟨some 50, none, .fieldAddr none 1 (.t 7)⟩,
 ⟨some 51, none, .load none (.t 50)⟩,
 ⟨some 52, none, .call (.f 146) [false] [(.t 51)]⟩,
 ⟨some 53, none, .bin .or (.t 49) (.t 52)⟩,
 ⟨some 54, none, .bin .and (.t 46) (.t 53)⟩,
 ⟨some 55, none, .fieldAddr none 1 (.t 3)⟩,
 ⟨some 56, none, .load none (.t 55)⟩,
 ⟨some 57, none, .bin .andNot (.t 54) (.t 56)⟩,
 ⟨some 8, none, .mv (.t 57)⟩] [0, 3, 4, 5, 8, 18, 19, 20] [[], [0], [], [2], [2, 3], [], [5], [2, 3, 4, 5, 6], [2, 3, 4, 5, 6, 7], [0, 1, 2, 3, 4, 5, 6, 7, 8], [], [10], [0, 1, 2, 3, 4, 5, 6, 7, 8, 9, 10, 11], [0, 1, 2, 3, 4, 5, 6, 7, 8, 9, 10, 11, 12]])
 (.reg [⟨some 58, none, .fieldAddr none 0 (.t 3)⟩,
 ⟨some 59, none, .load none (.t 58)⟩,
 ⟨some 60, none, .mv (.t 8)⟩,
 ⟨some 61, none, .bin .andNot (.t 59) (.t 60)⟩,
 ⟨some 62, none, .fieldAddr none 0 (.t 3)⟩,
 ⟨none, none, .store 1 (.t 62) (.t 61)⟩] [0, 3, 4, 5, 18, 19, 20]))))))
 (.reg [⟨some 63, none, .bin .add (.t 20) (.c (.int .i64 1))⟩,
 ⟨some 20, none, .mv (.t 63)⟩] [0, 3, 4, 5, 18, 19, 20])))))))))
 (.seq (.reg [⟨some 64, none, .load (some 2) (.t 5)⟩] [0, 3, 4, 64])
 (.reg [⟨some 5, none, .alloc [.int .u64 0, .int .u64 0]⟩,
 ⟨none, none, .store 2 (.t 5) (.t 64)⟩] [0, 3, 4, 5])))))))
 (.seq (.reg [⟨some 65, none, .load (some 2) (.t 3)⟩,
 ⟨none, none, .store 2 (.t 4) (.t 65)⟩] [4])
 .ret)))
abbrev R_vent_net_spread : List (Nat × Option (Option Nat)) := [(4, some (some 2))]
theorem K_vent_net_spread : chkF Tryz.prog Tryz.f149 66 C_vent_net_spread R_vent_net_spread = true := by kernel_rfl
theorem spec_vent_net_spread {args : List AVal} {σ : AHeap} {R : ARes → AHeap → Prop} (ha : args.length ≤ 66) (h : AW Tryz.prog 66 none C_vent_net_spread (bodyQ R_vent_net_spread R) { v := argEnv args 0, ds := [] } σ) : Spec Tryz.prog F_vent_net_spread args σ R := Spec.of_fn Tryz.func149 K_vent_net_spread ha h
theorem B_vent_net_spread : hasBody Tryz.prog F_vent_net_spread = true := by kernel_rfl
theorem E_vent_net_spread : EntOk Tryz.prog ⟨149, 66, C_vent_net_spread, R_vent_net_spread, 0⟩ := ⟨fun _ => ⟨B_vent_net_spread, _, Tryz.func149, K_vent_net_spread⟩, fun h => by cases h⟩

abbrev F_slices_IndexFunc_int_int : FuncId := 150
/-- slices.IndexFunc[[]int,int]: parameters ['[]int', 'func(int) bool'], results ['int'] -/
def C_slices_IndexFunc_int_int : AC :=
 (.seq (.reg [⟨some 4, none, .mv (.c (.int .i64 0))⟩] [0, 1])
 (.seq (.seq (.reg [⟨some 6, none, .mv (.t 0)⟩,
 ⟨some 7, none, .len (.t 6)⟩,
 ⟨some 8, none, .mv (.c (.int .i64 0))⟩] [0, 1, 7, 8])
 (.block 0
 (.loop [0, 1, 7, 8]
 (.seq (.reg [⟨some 9, none, .bin .lss (.t 8) (.t 7)⟩] [0, 1, 7, 8, 9])
 (.seq (.cond (.t 9)
 .skip
 (.exit 0))
 (.seq (.block 1
 (.seq (.reg [⟨some 10, none, .mv (.t 8)⟩,
 ⟨some 5, none, .mv (.t 10)⟩] [0, 1, 5, 7, 8])
 (.seq (.reg [⟨some 11, none, .mv (.t 1)⟩,
 ⟨some 12, none, .mv (.t 0)⟩,
 ⟨some 13, none, .mv (.t 5)⟩,
 ⟨some 14, none, .ixS 1 (.t 12) (.t 13)⟩,
 ⟨some 15, none, .load none (.t 14)⟩,
 ⟨some 16, none, .call (.t 11) [false] [(.t 15)]⟩] [0, 1, 5, 7, 8, 16])
 (.cond (.t 16)
 (.seq (.reg [⟨some 17, none, .mv (.t 5)⟩,
 ⟨some 4, none, .mv (.t 17)⟩] [4])
 .ret)
 .skip))))
 (.reg [⟨some 18, none, .bin .add (.t 8) (.c (.int .i64 1))⟩,
 ⟨some 8, none, .mv (.t 18)⟩] [0, 1, 7, 8])))))))
 (.seq (.reg [⟨some 4, none, .mv (.c (.int .i64 (-1)))⟩] [4])
 .ret)))
abbrev R_slices_IndexFunc_int_int : List (Nat × Option (Option Nat)) := [(4, none)]
theorem K_slices_IndexFunc_int_int : chkF Tryz.prog Tryz.f150 19 C_slices_IndexFunc_int_int R_slices_IndexFunc_int_int = true := by kernel_rfl
theorem spec_slices_IndexFunc_int_int {args : List AVal} {σ : AHeap} {R : ARes → AHeap → Prop} (ha : args.length ≤ 19) (h : AW Tryz.prog 19 none C_slices_IndexFunc_int_int (bodyQ R_slices_IndexFunc_int_int R) { v := argEnv args 0, ds := [] } σ) : Spec Tryz.prog F_slices_IndexFunc_int_int args σ R := Spec.of_fn Tryz.func150 K_slices_IndexFunc_int_int ha h
theorem B_slices_IndexFunc_int_int : hasBody Tryz.prog F_slices_IndexFunc_int_int = true := by kernel_rfl
theorem E_slices_IndexFunc_int_int : EntOk Tryz.prog ⟨150, 19, C_slices_IndexFunc_int_int, R_slices_IndexFunc_int_int, 0⟩ := ⟨fun _ => ⟨B_slices_IndexFunc_int_int, _, Tryz.func150, K_slices_IndexFunc_int_int⟩, fun h => by cases h⟩

abbrev F_cut_set_parts_1 : FuncId := 160
/-- (orlop/cut.set).parts$1: parameters ['func(int) bool'], results [] -/
def C_cut_set_parts_1 : AC :=
 (.seq (.reg [⟨some 4, none, .load none (.t 1)⟩,
 ⟨some 5, none, .conv .u64 (.t 4)⟩,
 ⟨some 3, none, .mv (.t 5)⟩] [0, 3])
 (.block 0
 (.loop [0, 3]
 (.seq (.seq (.reg [⟨some 6, none, .mv (.t 3)⟩,
 ⟨some 7, none, .bin .neq (.t 6) (.c (.int .u64 0))⟩] [0, 3, 7])
 (.cond (.t 7)
 .skip
 (.exit 0)))
 (.seq (.block 1
 (.seq (.reg [⟨some 12, none, .mv (.t 0)⟩,
 ⟨some 13, none, .mv (.t 3)⟩,
 ⟨some 14, none, .call (.f 161) [false] [(.t 13)]⟩,
 ⟨some 15, none, .call (.t 12) [false] [(.t 14)]⟩,
 ⟨some 16, none, .un .not (.t 15)⟩] [0, 3, 16])
 (.cond (.t 16)
 .ret
 .skip)))
 (.reg [⟨some 8, none, .mv (.t 3)⟩,
 ⟨some 9, none, .mv (.t 3)⟩,
 ⟨some 10, none, .bin .sub (.t 9) (.c (.int .u64 1))⟩,
 ⟨some 11, none, .bin .and (.t 8) (.t 10)⟩,
 ⟨some 3, none, .mv (.t 11)⟩] [0, 3]))))))
abbrev R_cut_set_parts_1 : List (Nat × Option (Option Nat)) := []
theorem K_cut_set_parts_1 : chkF Tryz.prog Tryz.f160 17 C_cut_set_parts_1 R_cut_set_parts_1 = true := by kernel_rfl
theorem spec_cut_set_parts_1 {args : List AVal} {σ : AHeap} {R : ARes → AHeap → Prop} (ha : args.length ≤ 17) (h : AW Tryz.prog 17 none C_cut_set_parts_1 (bodyQ R_cut_set_parts_1 R) { v := argEnv args 0, ds := [] } σ) : Spec Tryz.prog F_cut_set_parts_1 args σ R := Spec.of_fn Tryz.func160 K_cut_set_parts_1 ha h
theorem B_cut_set_parts_1 : hasBody Tryz.prog F_cut_set_parts_1 = true := by kernel_rfl
theorem E_cut_set_parts_1 : EntOk Tryz.prog ⟨160, 17, C_cut_set_parts_1, R_cut_set_parts_1, 0⟩ := ⟨fun _ => ⟨B_cut_set_parts_1, _, Tryz.func160, K_cut_set_parts_1⟩, fun h => by cases h⟩

abbrev F_math_bits_TrailingZeros : FuncId := 161
/-- math/bits.TrailingZeros: parameters ['uint'], results ['int'] -/
def C_math_bits_TrailingZeros : AC :=
 (.seq (.reg [⟨some 2, none, .mv (.c (.int .i64 0))⟩] [0])
 (.seq (.cond (.c (.bool false))
 (.seq (.reg [⟨some 3, none, .mv (.t 0)⟩,
 ⟨some 4, none, .conv .u32 (.t 3)⟩,
 ⟨some 5, none, .call (.f 200) [false] [(.t 4)]⟩,
 ⟨some 2, none, .mv (.t 5)⟩] [2])
 .ret)
 .skip)
 (.seq (.reg [⟨some 6, none, .mv (.t 0)⟩,
 ⟨some 7, none, .call (.f 201) [false] [(.t 6)]⟩,
 ⟨some 2, none, .mv (.t 7)⟩] [2])
 .ret)))
abbrev R_math_bits_TrailingZeros : List (Nat × Option (Option Nat)) := [(2, none)]
theorem K_math_bits_TrailingZeros : chkF Tryz.prog Tryz.f161 8 C_math_bits_TrailingZeros R_math_bits_TrailingZeros = true := by kernel_rfl
theorem spec_math_bits_TrailingZeros {args : List AVal} {σ : AHeap} {R : ARes → AHeap → Prop} (ha : args.length ≤ 8) (h : AW Tryz.prog 8 none C_math_bits_TrailingZeros (bodyQ R_math_bits_TrailingZeros R) { v := argEnv args 0, ds := [] } σ) : Spec Tryz.prog F_math_bits_TrailingZeros args σ R := Spec.of_fn Tryz.func161 K_math_bits_TrailingZeros ha h
theorem B_math_bits_TrailingZeros : hasBody Tryz.prog F_math_bits_TrailingZeros = true := by kernel_rfl
theorem E_math_bits_TrailingZeros : EntOk Tryz.prog ⟨161, 8, C_math_bits_TrailingZeros, R_math_bits_TrailingZeros, 0⟩ := ⟨fun _ => ⟨B_math_bits_TrailingZeros, _, Tryz.func161, K_math_bits_TrailingZeros⟩, fun h => by cases h⟩

abbrev F_math_bits_OnesCount32 : FuncId := 162
/-- math/bits.OnesCount32: parameters ['uint32'], results ['int'] -/
def C_math_bits_OnesCount32 : AC :=
 (.seq (.reg [⟨some 2, none, .mv (.c (.int .i64 0))⟩] [0])
 (.seq (.dreg [⟨some 3, none, .mv (.t 0)⟩,
 ⟨some 4, none, .bin .shr (.t 3) (.c (.int .u64 24))⟩,
 ⟨some 5, none, .ixStr (.c (.str ⟨#[0, 1, 1, 2, 1, 2, 2, 3, 1, 2, 2, 3, 2, 3, 3, 4, 1, 2, 2, 3, 2, 3, 3, 4, 2, 3, 3, 4, 3, 4, 4, 5, 1, 2, 2, 3, 2, 3, 3, 4, 2, 3, 3, 4, 3, 4, 4, 5, 2, 3, 3, 4, 3, 4, 4, 5, 3, 4, 4, 5, 4, 5, 5, 6, 1, 2, 2, 3, 2, 3, 3, 4, 2, 3, 3, 4, 3, 4, 4, 5, 2, 3, 3, 4, 3, 4, 4, 5, 3, 4, 4, 5, 4, 5, 5, 6, 2, 3, 3, 4, 3, 4, 4, 5, 3, 4, 4, 5, 4, 5, 5, 6, 3, 4, 4, 5, 4, 5, 5, 6, 4, 5, 5, 6, 5, 6, 6, 7, 1, 2, 2, 3, 2, 3, 3, 4, 2, 3, 3, 4, 3, 4, 4, 5, 2, 3, 3, 4, 3, 4, 4, 5, 3, 4, 4, 5, 4, 5, 5, 6, 2, 3, 3, 4, 3, 4, 4, 5, 3, 4, 4, 5, 4, 5, 5, 6, 3, 4, 4, 5, 4, 5, 5, 6, 4, 5, 5, 6, 5, 6, 6, 7, 2, 3, 3, 4, 3, 4, 4, 5, 3, 4, 4, 5, 4, 5, 5, 6, 3, 4, 4, 5, 4, 5, 5, 6, 4, 5, 5, 6, 5, 6, 6, 7, 3, 4, 4, 5, 4, 5, 5, 6, 4, 5, 5, 6, 5, 6, 6, 7, 4, 5, 5, 6, 5, 6, 6, 7, 5, 6, 6, 7, 6, 7, 7, 8]⟩)) (.t 4)⟩,
 ⟨some 6, none, .mv (.t 0)⟩,
 ⟨some 7, none, .bin .shr (.t 6) (.c (.int .u64 16))⟩,
 ⟨some 8, none, .bin .and (.t 7) (.c (.int .u32 255))⟩,
 ⟨some 9, none, .ixStr (.c (.str ⟨#[0, 1, 1, 2, 1, 2, 2, 3, 1, 2, 2, 3, 2, 3, 3, 4, 1, 2, 2, 3, 2, 3, 3, 4, 2, 3, 3, 4, 3, 4, 4, 5, 1, 2, 2, 3, 2, 3, 3, 4, 2, 3, 3, 4, 3, 4, 4, 5, 2, 3, 3, 4, 3, 4, 4, 5, 3, 4, 4, 5, 4, 5, 5, 6, 1, 2, 2, 3, 2, 3, 3, 4, 2, 3, 3, 4, 3, 4, 4, 5, 2, 3, 3, 4, 3, 4, 4, 5, 3, 4, 4, 5, 4, 5, 5, 6, 2, 3, 3, 4, 3, 4, 4, 5, 3, 4, 4, 5, 4, 5, 5, 6, 3, 4, 4, 5, 4, 5, 5, 6, 4, 5, 5, 6, 5, 6, 6, 7, 1, 2, 2, 3, 2, 3, 3, 4, 2, 3, 3, 4, 3, 4, 4, 5, 2, 3, 3, 4, 3, 4, 4, 5, 3, 4, 4, 5, 4, 5, 5, 6, 2, 3, 3, 4, 3, 4, 4, 5, 3, 4, 4, 5, 4, 5, 5, 6, 3, 4, 4, 5, 4, 5, 5, 6, 4, 5, 5, 6, 5, 6, 6, 7, 2, 3, 3, 4, 3, 4, 4, 5, 3, 4, 4, 5, 4, 5, 5, 6, 3, 4, 4, 5, 4, 5, 5, 6, 4, 5, 5, 6, 5, 6, 6, 7, 3, 4, 4, 5, 4, 5, 5, 6, 4, 5, 5, 6, 5, 6, 6, 7, 4, 5, 5, 6, 5, 6, 6, 7, 5, 6, 6, 7, 6, 7, 7, 8]⟩)) (.t 8)⟩,
 ⟨some 10, none, .bin .add (.t 5) (.t 9)⟩,
 ⟨some 11, none, .mv (.t 0)⟩,
 ⟨some 12, none, .bin .shr (.t 11) (.c (.int .u64 8))⟩,
 ⟨some 13, none, .bin .and (.t 12) (.c (.int .u32 255))⟩,
 ⟨some 14, none, .ixStr (.c (.str ⟨#[0, 1, 1, 2, 1, 2, 2, 3, 1, 2, 2, 3, 2, 3, 3, 4, 1, 2, 2, 3, 2, 3, 3, 4, 2, 3, 3, 4, 3, 4, 4, 5, 1, 2, 2, 3, 2, 3, 3, 4, 2, 3, 3, 4, 3, 4, 4, 5, 2, 3, 3, 4, 3, 4, 4, 5, 3, 4, 4, 5, 4, 5, 5, 6, 1, 2, 2, 3, 2, 3, 3, 4, 2, 3, 3, 4, 3, 4, 4, 5, 2, 3, 3, 4, 3, 4, 4, 5, 3, 4, 4, 5, 4, 5, 5, 6, 2, 3, 3, 4, 3, 4, 4, 5, 3, 4, 4, 5, 4, 5, 5, 6, 3, 4, 4, 5, 4, 5, 5, 6, 4, 5, 5, 6, 5, 6, 6, 7, 1, 2, 2, 3, 2, 3, 3, 4, 2, 3, 3, 4, 3, 4, 4, 5, 2, 3, 3, 4, 3, 4, 4, 5, 3, 4, 4, 5, 4, 5, 5, 6, 2, 3, 3, 4, 3, 4, 4, 5, 3, 4, 4, 5, 4, 5, 5, 6, 3, 4, 4, 5, 4, 5, 5, 6, 4, 5, 5, 6, 5, 6, 6, 7, 2, 3, 3, 4, 3, 4, 4, 5, 3, 4, 4, 5, 4, 5, 5, 6, 3, 4, 4, 5, 4, 5, 5, 6, 4, 5, 5, 6, 5, 6, 6, 7, 3, 4, 4, 5, 4, 5, 5, 6, 4, 5, 5, 6, 5, 6, 6, 7, 4, 5, 5, 6, 5, 6, 6, 7, 5, 6, 6, 7, 6, 7, 7, 8]⟩)) (.t 13)⟩,
 ⟨some 15, none, .bin .add (.t 10) (.t 14)⟩,
 ⟨some 16, none, .mv (.t 0)⟩,
 ⟨some 17, none, .bin .and (.t 16) (.c (.int .u32 255))⟩,
 ⟨some 18, none, .ixStr (.c (.str ⟨#[0, 1, 1, 2, 1, 2, 2, 3, 1, 2, 2, 3, 2, 3, 3, 4, 1, 2, 2, 3, 2, 3, 3, 4, 2, 3, 3, 4, 3, 4, 4, 5, 1, 2, 2, 3, 2, 3, 3, 4, 2, 3, 3, 4, 3, 4, 4, 5, 2, 3, 3, 4, 3, 4, 4, 5, 3, 4, 4, 5, 4, 5, 5, 6, 1, 2, 2, 3, 2, 3, 3, 4, 2, 3, 3, 4, 3, 4, 4, 5, 2, 3, 3, 4, 3, 4, 4, 5, 3, 4, 4, 5, 4, 5, 5, 6, 2, 3, 3, 4, 3, 4, 4, 5, 3, 4, 4, 5, 4, 5, 5, 6, 3, 4, 4, 5, 4, 5, 5, 6, 4, 5, 5, 6, 5, 6, 6, 7, 1, 2, 2, 3, 2, 3, 3, 4, 2, 3, 3, 4, 3, 4, 4, 5, 2, 3, 3, 4, 3, 4, 4, 5, 3, 4, 4, 5, 4, 5, 5, 6, 2, 3, 3, 4, 3, 4, 4, 5, 3, 4, 4, 5, 4, 5, 5, 6, 3, 4, 4, 5, 4, 5, 5, 6, 4, 5, 5, 6, 5, 6, 6, 7, 2, 3, 3, 4, 3, 4, 4, 5, 3, 4, 4, 5, 4, 5, 5, 6, 3, 4, 4, 5, 4, 5, 5, 6, 4, 5, 5, 6, 5, 6, 6, 7, 3, 4, 4, 5, 4, 5, 5, 6, 4, 5, 5, 6, 5, 6, 6, 7, 4, 5, 5, 6, 5, 6, 6, 7, 5, 6, 6, 7, 6, 7, 7, 8]⟩)) (.t 17)⟩,
 ⟨some 19, none, .bin .add (.t 15) (.t 18)⟩,
 ⟨some 20, none, .conv .i64 (.t 19)⟩,
 ⟨some 2, none, .mv (.t 20)⟩] [2] [[], [0], [0, 1], [], [3], [3, 4], [3, 4, 5], [0, 1, 2, 3, 4, 5, 6], [], [8], [8, 9], [8, 9, 10], [0, 1, 2, 3, 4, 5, 6, 7, 8, 9, 10, 11], [], [13], [13, 14], [0, 1, 2, 3, 4, 5, 6, 7, 8, 9, 10, 11, 12, 13, 14, 15], [0, 1, 2, 3, 4, 5, 6, 7, 8, 9, 10, 11, 12, 13, 14, 15, 16], [0, 1, 2, 3, 4, 5, 6, 7, 8, 9, 10, 11, 12, 13, 14, 15, 16, 17]])
 .ret))
abbrev R_math_bits_OnesCount32 : List (Nat × Option (Option Nat)) := [(2, none)]
theorem K_math_bits_OnesCount32 : chkF Tryz.prog Tryz.f162 21 C_math_bits_OnesCount32 R_math_bits_OnesCount32 = true := by kernel_rfl
theorem spec_math_bits_OnesCount32 {args : List AVal} {σ : AHeap} {R : ARes → AHeap → Prop} (ha : args.length ≤ 21) (h : AW Tryz.prog 21 none C_math_bits_OnesCount32 (bodyQ R_math_bits_OnesCount32 R) { v := argEnv args 0, ds := [] } σ) : Spec Tryz.prog F_math_bits_OnesCount32 args σ R := Spec.of_fn Tryz.func162 K_math_bits_OnesCount32 ha h
theorem B_math_bits_OnesCount32 : hasBody Tryz.prog F_math_bits_OnesCount32 = true := by kernel_rfl
theorem E_math_bits_OnesCount32 : EntOk Tryz.prog ⟨162, 21, C_math_bits_OnesCount32, R_math_bits_OnesCount32, 0⟩ := ⟨fun _ => ⟨B_math_bits_OnesCount32, _, Tryz.func162, K_math_bits_OnesCount32⟩, fun h => by cases h⟩

abbrev F_math_bits_OnesCount64 : FuncId := 163
/-- math/bits.OnesCount64: parameters ['uint64'], results ['int'] -/
def C_math_bits_OnesCount64 : AC :=
 (.seq (.reg [⟨some 2, none, .mv (.c (.int .i64 0))⟩] [0])
 (.seq (.reg [⟨some 3, none, .mv (.t 0)⟩,
 ⟨some 4, none, .bin .shr (.t 3) (.c (.int .u64 1))⟩,
 ⟨some 5, none, .bin .and (.t 4) (.c (.int .u64 6148914691236517205))⟩,
 ⟨some 6, none, .mv (.t 0)⟩,
 ⟨some 7, none, .bin .and (.t 6) (.c (.int .u64 6148914691236517205))⟩,
 ⟨some 8, none, .bin .add (.t 5) (.t 7)⟩,
 ⟨some 0, none, .mv (.t 8)⟩] [0])
 (.seq (.reg [⟨some 9, none, .mv (.t 0)⟩,
 ⟨some 10, none, .bin .shr (.t 9) (.c (.int .u64 2))⟩,
 ⟨some 11, none, .bin .and (.t 10) (.c (.int .u64 3689348814741910323))⟩,
 ⟨some 12, none, .mv (.t 0)⟩,
 ⟨some 13, none, .bin .and (.t 12) (.c (.int .u64 3689348814741910323))⟩,
 ⟨some 14, none, .bin .add (.t 11) (.t 13)⟩,
 ⟨some 0, none, .mv (.t 14)⟩] [0])
 (.seq (.reg [⟨some 15, none, .mv (.t 0)⟩,
 ⟨some 16, none, .bin .shr (.t 15) (.c (.int .u64 4))⟩,
 ⟨some 17, none, .mv (.t 0)⟩,
 ⟨some 18, none, .bin .add (.t 16) (.t 17)⟩,
 ⟨some 19, none, .bin .and (.t 18) (.c (.int .u64 1085102592571150095))⟩,
 ⟨some 0, none, .mv (.t 19)⟩] [0])
 (.seq (.reg [⟨some 20, none, .mv (.t 0)⟩,
 ⟨some 21, none, .mv (.t 0)⟩,
 ⟨some 22, none, .bin .shr (.t 21) (.c (.int .u64 8))⟩,
 ⟨some 23, none, .bin .add (.t 20) (.t 22)⟩,
 ⟨some 0, none, .mv (.t 23)⟩] [0])
 (.seq (.reg [⟨some 24, none, .mv (.t 0)⟩,
 ⟨some 25, none, .mv (.t 0)⟩,
 ⟨some 26, none, .bin .shr (.t 25) (.c (.int .u64 16))⟩,
 ⟨some 27, none, .bin .add (.t 24) (.t 26)⟩,
 ⟨some 0, none, .mv (.t 27)⟩] [0])
 (.seq (.reg [⟨some 28, none, .mv (.t 0)⟩,
 ⟨some 29, none, .mv (.t 0)⟩,
 ⟨some 30, none, .bin .shr (.t 29) (.c (.int .u64 32))⟩,
 ⟨some 31, none, .bin .add (.t 28) (.t 30)⟩,
 ⟨some 0, none, .mv (.t 31)⟩] [0])
 (.seq (.reg [⟨some 32, none, .mv (.t 0)⟩,
 ⟨some 33, none, .conv .i64 (.t 32)⟩,
 ⟨some 34, none, .bin .and (.t 33) (.c (.int .i64 127))⟩,
 ⟨some 2, none, .mv (.t 34)⟩] [2])
 .ret))))))))
abbrev R_math_bits_OnesCount64 : List (Nat × Option (Option Nat)) := [(2, none)]
theorem K_math_bits_OnesCount64 : chkF Tryz.prog Tryz.f163 35 C_math_bits_OnesCount64 R_math_bits_OnesCount64 = true := by kernel_rfl
theorem spec_math_bits_OnesCount64 {args : List AVal} {σ : AHeap} {R : ARes → AHeap → Prop} (ha : args.length ≤ 35) (h : AW Tryz.prog 35 none C_math_bits_OnesCount64 (bodyQ R_math_bits_OnesCount64 R) { v := argEnv args 0, ds := [] } σ) : Spec Tryz.prog F_math_bits_OnesCount64 args σ R := Spec.of_fn Tryz.func163 K_math_bits_OnesCount64 ha h
theorem B_math_bits_OnesCount64 : hasBody Tryz.prog F_math_bits_OnesCount64 = true := by kernel_rfl
theorem E_math_bits_OnesCount64 : EntOk Tryz.prog ⟨163, 35, C_math_bits_OnesCount64, R_math_bits_OnesCount64, 0⟩ := ⟨fun _ => ⟨B_math_bits_OnesCount64, _, Tryz.func163, K_math_bits_OnesCount64⟩, fun h => by cases h⟩

abbrev F_slices_Index_string_string : FuncId := 164
/-- slices.Index[[]string,string]: parameters ['[]string', 'string'], results ['int'] -/
def C_slices_Index_string_string : AC :=
 (.seq (.reg [⟨some 4, none, .mv (.c (.int .i64 0))⟩] [0, 1])
 (.seq (.seq (.reg [⟨some 6, none, .mv (.t 0)⟩,
 ⟨some 7, none, .len (.t 6)⟩,
 ⟨some 8, none, .mv (.c (.int .i64 0))⟩] [0, 1, 7, 8])
 (.block 0
 (.loop [0, 1, 7, 8]
 (.seq (.reg [⟨some 9, none, .bin .lss (.t 8) (.t 7)⟩] [0, 1, 7, 8, 9])
 (.seq (.cond (.t 9)
 .skip
 (.exit 0))
 (.seq (.block 1
 (.seq (.reg [⟨some 10, none, .mv (.t 8)⟩,
 ⟨some 5, none, .mv (.t 10)⟩] [0, 1, 5, 7, 8])
 (.seq (.reg [⟨some 11, none, .mv (.t 1)⟩,
 ⟨some 12, none, .mv (.t 0)⟩,
 ⟨some 13, none, .mv (.t 5)⟩,
 ⟨some 14, none, .ixS 1 (.t 12) (.t 13)⟩,
 ⟨some 15, none, .load none (.t 14)⟩,
 ⟨some 16, none, .bin .eql (.t 11) (.t 15)⟩] [0, 1, 5, 7, 8, 16])
 (.cond (.t 16)
 (.seq (.reg [⟨some 17, none, .mv (.t 5)⟩,
 ⟨some 4, none, .mv (.t 17)⟩] [4])
 .ret)
 .skip))))
 (.reg [⟨some 18, none, .bin .add (.t 8) (.c (.int .i64 1))⟩,
 ⟨some 8, none, .mv (.t 18)⟩] [0, 1, 7, 8])))))))
 (.seq (.reg [⟨some 4, none, .mv (.c (.int .i64 (-1)))⟩] [4])
 .ret)))
abbrev R_slices_Index_string_string : List (Nat × Option (Option Nat)) := [(4, none)]
theorem K_slices_Index_string_string : chkF Tryz.prog Tryz.f164 19 C_slices_Index_string_string R_slices_Index_string_string = true := by kernel_rfl
theorem spec_slices_Index_string_string {args : List AVal} {σ : AHeap} {R : ARes → AHeap → Prop} (ha : args.length ≤ 19) (h : AW Tryz.prog 19 none C_slices_Index_string_string (bodyQ R_slices_Index_string_string R) { v := argEnv args 0, ds := [] } σ) : Spec Tryz.prog F_slices_Index_string_string args σ R := Spec.of_fn Tryz.func164 K_slices_Index_string_string ha h
theorem B_slices_Index_string_string : hasBody Tryz.prog F_slices_Index_string_string = true := by kernel_rfl
theorem E_slices_Index_string_string : EntOk Tryz.prog ⟨164, 19, C_slices_Index_string_string, R_slices_Index_string_string, 0⟩ := ⟨fun _ => ⟨B_slices_Index_string_string, _, Tryz.func164, K_slices_Index_string_string⟩, fun h => by cases h⟩

abbrev F_cut_set_has : FuncId := 165
/-- (orlop/cut.set).has: parameters ['cut.set', 'int'], results ['bool'] -/
def C_cut_set_has : AC :=
 (.seq (.reg [⟨some 4, none, .mv (.c (.bool false))⟩] [0, 1])
 (.seq (.reg [⟨some 5, none, .mv (.t 0)⟩,
 ⟨some 6, none, .mv (.t 1)⟩,
 ⟨some 7, none, .bin .shr (.t 5) (.t 6)⟩,
 ⟨some 8, none, .bin .and (.t 7) (.c (.int .i64 1))⟩,
 ⟨some 9, none, .bin .eql (.t 8) (.c (.int .i64 1))⟩,
 ⟨some 4, none, .mv (.t 9)⟩] [4])
 .ret))
abbrev R_cut_set_has : List (Nat × Option (Option Nat)) := [(4, none)]
theorem K_cut_set_has : chkF Tryz.prog Tryz.f165 10 C_cut_set_has R_cut_set_has = true := by kernel_rfl
theorem spec_cut_set_has {args : List AVal} {σ : AHeap} {R : ARes → AHeap → Prop} (ha : args.length ≤ 10) (h : AW Tryz.prog 10 none C_cut_set_has (bodyQ R_cut_set_has R) { v := argEnv args 0, ds := [] } σ) : Spec Tryz.prog F_cut_set_has args σ R := Spec.of_fn Tryz.func165 K_cut_set_has ha h
theorem B_cut_set_has : hasBody Tryz.prog F_cut_set_has = true := by kernel_rfl
theorem E_cut_set_has : EntOk Tryz.prog ⟨165, 10, C_cut_set_has, R_cut_set_has, 0⟩ := ⟨fun _ => ⟨B_cut_set_has, _, Tryz.func165, K_cut_set_has⟩, fun h => by cases h⟩

abbrev F_slices_insertionSortOrdered_int : FuncId := 166
/-- slices.insertionSortOrdered[int]: parameters ['[]int', 'int', 'int'], results [] -/
def C_slices_insertionSortOrdered_int : AC :=
 (.seq (.reg [⟨some 8, none, .mv (.t 1)⟩,
 ⟨some 9, none, .bin .add (.t 8) (.c (.int .i64 1))⟩,
 ⟨some 6, none, .mv (.t 9)⟩] [0, 1, 2, 6])
 (.block 0
 (.loop [0, 1, 2, 6]
 (.seq (.seq (.reg [⟨some 10, none, .mv (.t 6)⟩,
 ⟨some 11, none, .mv (.t 2)⟩,
 ⟨some 12, none, .bin .lss (.t 10) (.t 11)⟩] [0, 1, 2, 6, 12])
 (.cond (.t 12)
 .skip
 (.exit 0)))
 (.seq (.block 1
 (.seq (.reg [⟨some 15, none, .mv (.t 6)⟩,
 ⟨some 7, none, .mv (.t 15)⟩] [0, 1, 2, 6, 7])
 (.block 2
 (.loop [0, 1, 2, 6, 7]
 (.seq (.seq (.dreg [⟨some 16, none, .mv (.t 7)⟩,
 ⟨some 17, none, .mv (.t 1)⟩,
 ⟨some 18, none, .bin .gtr (.t 16) (.t 17)⟩,
 ⟨some 19, none, .mv (.t 18)⟩,
 ⟨some 20, (some (19, true)), .mv (.t 0)⟩,
 ⟨some 21, (some (19, true)), .mv (.t 7)⟩,
 ⟨some 22, (some (19, true)), .ixS 1 (.t 20) (.t 21)⟩,
 ⟨some 23, (some (19, true)), .load none (.t 22)⟩,
 ⟨some 24, (some (19, true)), .mv (.t 0)⟩,
 ⟨some 25, (some (19, true)), .mv (.t 7)⟩,
 ⟨some 26, (some (19, true)), .bin .sub (.t 25) (.c (.int .i64 1))⟩,
 ⟨some 27, (some (19, true)), .ixS 1 (.t 24) (.t 26)⟩,
 ⟨some 28, (some (19, true)), .load none (.t 27)⟩,
 ⟨some 29, (some (19, true)), .call (.f 172) [false, false] [(.t 23), (.t 28)]⟩,
 ⟨some 30, none, .pick (.t 19) (.t 29) (.c (.bool false))⟩] [0, 1, 2, 6, 7, 30] [[], [], [0, 1], [0, 1, 2], [0, 1, 2, 3], [0, 1, 2, 3], [0, 1, 2, 3, 4, 5], [0, 1, 2, 3, 4, 5, 6], [0, 1, 2, 3], [0, 1, 2, 3], [0, 1, 2, 3, 9], [0, 1, 2, 3, 8, 9, 10], [0, 1, 2, 3, 8, 9, 10, 11], [0, 1, 2, 3, 4, 5, 6, 7, 8, 9, 10, 11, 12], [0, 1, 2, 3, 4, 5, 6, 7, 8, 9, 10, 11, 12, 13]])
 (.cond (.t 30)
 .skip
 (.exit 2)))
 (.seq (.block 3
 (.dreg [⟨some 33, none, .mv (.t 0)⟩,
 ⟨some 34, none, .mv (.t 7)⟩,
 ⟨some 35, none, .mv (.t 0)⟩,
 ⟨some 36, none, .mv (.t 7)⟩,
 ⟨some 37, none, .bin .sub (.t 36) (.c (.int .i64 1))⟩,
 ⟨some 38, none, .mv (.t 0)⟩,
 ⟨some 39, none, .mv (.t 7)⟩,
 ⟨some 40, none, .bin .sub (.t 39) (.c (.int .i64 1))⟩,
 ⟨some 41, none, .ixS 1 (.t 38) (.t 40)⟩,
 ⟨some 42, none, .load none (.t 41)⟩,
 ⟨some 43, none, .mv (.t 0)⟩,
 ⟨some 44, none, .mv (.t 7)⟩,
 ⟨some 45, none, .ixS 1 (.t 43) (.t 44)⟩,
 ⟨some 46, none, .load none (.t 45)⟩,
 ⟨some 47, none, .ixS 1 (.t 33) (.t 34)⟩,
 ⟨none, none, .store 1 (.t 47) (.t 42)⟩,
 ⟨some 48, none, .ixS 1 (.t 35) (.t 37)⟩,
 ⟨none, none, .store 1 (.t 48) (.t 46)⟩] [0, 1, 2, 6, 7] [[], [], [], [], [3], [], [], [6], [5, 6, 7], [5, 6, 7, 8], [], [], [10, 11], [10, 11, 12], [0, 1, 5, 6, 7, 8, 9, 10, 11, 12, 13], [0, 1, 5, 6, 7, 8, 9, 10, 11, 12, 13, 14], [0, 1, 2, 3, 4, 5, 6, 7, 8, 9, 10, 11, 12, 13, 14, 15], [0, 1, 2, 3, 4, 5, 6, 7, 8, 9, 10, 11, 12, 13, 14, 15, 16]]))
 (.reg [⟨some 31, none, .mv (.t 7)⟩,
 ⟨some 32, none, .bin .sub (.t 31) (.c (.int .i64 1))⟩,
 ⟨some 7, none, .mv (.t 32)⟩] [0, 1, 2, 6, 7])))))))
 (.reg [⟨some 13, none, .mv (.t 6)⟩,
 ⟨some 14, none, .bin .add (.t 13) (.c (.int .i64 1))⟩,
 ⟨some 6, none, .mv (.t 14)⟩] [0, 1, 2, 6]))))))
abbrev R_slices_insertionSortOrdered_int : List (Nat × Option (Option Nat)) := []
theorem K_slices_insertionSortOrdered_int : chkF Tryz.prog Tryz.f166 49 C_slices_insertionSortOrdered_int R_slices_insertionSortOrdered_int = true := by kernel_rfl
theorem spec_slices_insertionSortOrdered_int {args : List AVal} {σ : AHeap} {R : ARes → AHeap → Prop} (ha : args.length ≤ 49) (h : AW Tryz.prog 49 none C_slices_insertionSortOrdered_int (bodyQ R_slices_insertionSortOrdered_int R) { v := argEnv args 0, ds := [] } σ) : Spec Tryz.prog F_slices_insertionSortOrdered_int args σ R := Spec.of_fn Tryz.func166 K_slices_insertionSortOrdered_int ha h
theorem B_slices_insertionSortOrdered_int : hasBody Tryz.prog F_slices_insertionSortOrdered_int = true := by kernel_rfl
theorem E_slices_insertionSortOrdered_int : EntOk Tryz.prog ⟨166, 49, C_slices_insertionSortOrdered_int, R_slices_insertionSortOrdered_int, 0⟩ := ⟨fun _ => ⟨B_slices_insertionSortOrdered_int, _, Tryz.func166, K_slices_insertionSortOrdered_int⟩, fun h => by cases h⟩

end Go.AM
