/- MADE BY PROGRAM (gen.py): the abstract code of functions of this seat, each checked against the given code by the kernel. -/
import Derived.Test.YtmgbkmobhjjkiaaChecked
import Derived.Test.YtmgbkmobhjjkiaaA18
import Derived.Test.YtmgbkmobhjjkiaaA13
namespace Go.AM
open Go.Proofs

abbrev F_gosem_cut_init : FuncId := 2
/-- gosem.cut.init: parameters [], results [] -/
def C_gosem_cut_init : AC :=
  (.reg [⟨some 0, none, .call (.f 1) [] []⟩] [])
abbrev R_gosem_cut_init : List (Nat × Option (Option Nat)) := []
theorem K_gosem_cut_init : chkF Try.prog Try.f2 1 C_gosem_cut_init R_gosem_cut_init = true := by kernel_rfl
theorem spec_gosem_cut_init {args : List AVal} {σ : AHeap} {R : ARes → AHeap → Prop} (ha : args.length ≤ 1) (h : AW Try.prog 1 none C_gosem_cut_init (bodyQ R_gosem_cut_init R) { v := argEnv args 0, ds := [] } σ) : Spec Try.prog F_gosem_cut_init args σ R := Spec.of_fn Try.func2 K_gosem_cut_init ha h
theorem B_gosem_cut_init : hasBody Try.prog F_gosem_cut_init = true := by kernel_rfl
theorem E_gosem_cut_init : EntOk Try.prog ⟨2, 1, C_gosem_cut_init, R_gosem_cut_init, false⟩ := ⟨fun _ => ⟨B_gosem_cut_init, _, Try.func2, K_gosem_cut_init⟩, fun h => by cases h⟩

abbrev F_l05_StandBalances : FuncId := 3
/-- orlop/orloplaw05.StandBalances: parameters ['api.StHull', 'api.StTruth', 'int'], results ['bool'] -/
def C_l05_StandBalances : AC :=
  (.seq (.reg [⟨some 3, none, .pbox 3 (.t 0)⟩,
      ⟨some 4, none, .pbox 2 (.t 1)⟩,
      ⟨some 6, none, .mv (.c (.bool false))⟩] [2, 3, 4])
  (.seq (.reg [⟨some 16, none, .load (some 3) (.t 3)⟩,
      ⟨some 17, none, .call (.f 17) [true] [(.t 16)]⟩,
      ⟨some 15, none, .mv (.t 17)⟩,
      ⟨some 18, none, .extract (.t 15) 0⟩,
      ⟨some 19, none, .extract (.t 15) 1⟩,
      ⟨some 20, none, .extract (.t 15) 2⟩,
      ⟨some 7, none, .mv (.t 18)⟩,
      ⟨some 8, none, .mv (.t 19)⟩,
      ⟨some 9, none, .mv (.t 20)⟩] [2, 3, 4, 7, 8, 9])
  (.seq (.reg [⟨some 22, none, .load (some 3) (.t 3)⟩,
      ⟨some 23, none, .call (.f 18) [true] [(.t 22)]⟩,
      ⟨some 21, none, .mv (.t 23)⟩,
      ⟨some 24, none, .extract (.t 21) 0⟩,
      ⟨some 25, none, .extract (.t 21) 1⟩,
      ⟨some 26, none, .extract (.t 21) 2⟩,
      ⟨some 10, none, .mv (.t 24)⟩,
      ⟨some 11, none, .mv (.t 25)⟩,
      ⟨some 12, none, .mv (.t 26)⟩] [2, 3, 4, 7, 8, 9, 10, 11, 12])
  (.seq (.seq (.reg [⟨some 27, none, .mv (.t 7)⟩,
      ⟨some 28, none, .mv (.t 10)⟩,
      ⟨some 29, none, .bin .neq (.t 27) (.t 28)⟩,
      ⟨some 30, none, .mv (.t 29)⟩,
      ⟨some 31, (some (30, false)), .mv (.t 8)⟩,
      ⟨some 32, (some (30, false)), .mv (.t 11)⟩,
      ⟨some 33, (some (30, false)), .bin .neq (.t 31) (.t 32)⟩,
      ⟨some 34, none, .pick (.t 30) (.c (.bool true)) (.t 33)⟩,
      ⟨some 35, none, .mv (.t 34)⟩,
      ⟨some 36, (some (35, false)), .mv (.t 9)⟩,
      ⟨some 37, (some (35, false)), .mv (.t 12)⟩,
      ⟨some 38, (some (35, false)), .bin .neq (.t 36) (.t 37)⟩,
      ⟨some 39, none, .pick (.t 35) (.c (.bool true)) (.t 38)⟩] [2, 3, 4, 39])
  (.cond (.t 39)
    (.seq (.reg [⟨some 6, none, .mv (.c (.bool false))⟩] [6])
    .ret)
    .skip))
  (.seq (.reg [⟨some 41, none, .load (some 3) (.t 3)⟩,
      ⟨some 42, none, .load (some 2) (.t 4)⟩,
      ⟨some 43, none, .mv (.t 2)⟩,
      ⟨some 44, none, .call (.f 19) [true, true, false] [(.t 41), (.t 42), (.t 43)]⟩,
      ⟨some 40, none, .mv (.t 44)⟩,
      ⟨some 45, none, .extract (.t 40) 0⟩,
      ⟨some 46, none, .extract (.t 40) 1⟩,
      ⟨some 13, none, .alloc [.int .i64 0, .int .i64 0, .int .i64 0]⟩,
      ⟨none, none, .store 3 (.t 13) (.t 45)⟩,
      ⟨some 9, none, .mv (.t 46)⟩] [2, 3, 4, 9, 13])
  (.seq (.reg [⟨some 48, none, .load (some 3) (.t 3)⟩,
      ⟨some 49, none, .load (some 2) (.t 4)⟩,
      ⟨some 50, none, .mv (.t 2)⟩,
      ⟨some 51, none, .call (.f 20) [true, true, false] [(.t 48), (.t 49), (.t 50)]⟩,
      ⟨some 47, none, .mv (.t 51)⟩,
      ⟨some 52, none, .extract (.t 47) 0⟩,
      ⟨some 53, none, .extract (.t 47) 1⟩,
      ⟨some 14, none, .alloc [.int .i64 0, .int .i64 0, .int .i64 0]⟩,
      ⟨none, none, .store 3 (.t 14) (.t 52)⟩,
      ⟨some 12, none, .mv (.t 53)⟩] [2, 3, 9, 12, 13, 14])
  (.seq (.seq (.reg [⟨some 54, none, .load (some 3) (.t 13)⟩,
      ⟨some 55, none, .load (some 3) (.t 14)⟩,
      ⟨some 56, none, .eqa true [.i, .i, .i] (.t 54) (.t 55)⟩,
      ⟨some 57, none, .mv (.t 56)⟩,
      ⟨some 58, (some (57, false)), .mv (.t 9)⟩,
      ⟨some 59, (some (57, false)), .mv (.t 12)⟩,
      ⟨some 60, (some (57, false)), .bin .neq (.t 58) (.t 59)⟩,
      ⟨some 61, none, .pick (.t 57) (.c (.bool true)) (.t 60)⟩] [2, 3, 13, 14, 61])
  (.cond (.t 61)
    (.seq (.reg [⟨some 6, none, .mv (.c (.bool false))⟩] [6])
    .ret)
    .skip))
  (.seq (.reg [⟨some 63, none, .load (some 3) (.t 3)⟩,
      ⟨some 64, none, .mv (.t 2)⟩,
      ⟨some 65, none, .call (.f 21) [true, false] [(.t 63), (.t 64)]⟩,
      ⟨some 62, none, .mv (.t 65)⟩,
      ⟨some 66, none, .extract (.t 62) 0⟩,
      ⟨some 67, none, .extract (.t 62) 1⟩,
      ⟨none, none, .store 3 (.t 13) (.t 66)⟩,
      ⟨some 9, none, .mv (.t 67)⟩] [2, 3, 9, 13, 14])
  (.seq (.reg [⟨some 69, none, .load (some 3) (.t 3)⟩,
      ⟨some 70, none, .mv (.t 2)⟩,
      ⟨some 71, none, .call (.f 22) [true, false] [(.t 69), (.t 70)]⟩,
      ⟨some 68, none, .mv (.t 71)⟩,
      ⟨some 72, none, .extract (.t 68) 0⟩,
      ⟨some 73, none, .extract (.t 68) 1⟩,
      ⟨none, none, .store 3 (.t 14) (.t 72)⟩,
      ⟨some 12, none, .mv (.t 73)⟩] [9, 12, 13, 14])
  (.seq (.reg [⟨some 74, none, .load (some 3) (.t 13)⟩,
      ⟨some 75, none, .load (some 3) (.t 14)⟩,
      ⟨some 76, none, .eqa false [.i, .i, .i] (.t 74) (.t 75)⟩,
      ⟨some 77, none, .mv (.t 76)⟩,
      ⟨some 78, (some (77, true)), .mv (.t 9)⟩,
      ⟨some 79, (some (77, true)), .mv (.t 12)⟩,
      ⟨some 80, (some (77, true)), .bin .eql (.t 78) (.t 79)⟩,
      ⟨some 81, none, .pick (.t 77) (.t 80) (.c (.bool false))⟩,
      ⟨some 82, none, .mv (.t 81)⟩,
      ⟨some 83, (some (82, true)), .call (.f 23) [] []⟩,
      ⟨some 84, none, .pick (.t 82) (.t 83) (.c (.bool false))⟩,
      ⟨some 6, none, .mv (.t 84)⟩] [6])
  .ret))))))))))
abbrev R_l05_StandBalances : List (Nat × Option (Option Nat)) := [(6, none)]
theorem K_l05_StandBalances : chkF Try.prog Try.f3 85 C_l05_StandBalances R_l05_StandBalances = true := by kernel_rfl
theorem spec_l05_StandBalances {args : List AVal} {σ : AHeap} {R : ARes → AHeap → Prop} (ha : args.length ≤ 85) (h : AW Try.prog 85 none C_l05_StandBalances (bodyQ R_l05_StandBalances R) { v := argEnv args 0, ds := [] } σ) : Spec Try.prog F_l05_StandBalances args σ R := Spec.of_fn Try.func3 K_l05_StandBalances ha h
theorem B_l05_StandBalances : hasBody Try.prog F_l05_StandBalances = true := by kernel_rfl
theorem E_l05_StandBalances : EntOk Try.prog ⟨3, 85, C_l05_StandBalances, R_l05_StandBalances, false⟩ := ⟨fun _ => ⟨B_l05_StandBalances, _, Try.func3, K_l05_StandBalances⟩, fun h => by cases h⟩

abbrev F_l05_StandTides : FuncId := 4
/-- orlop/orloplaw05.StandTides: parameters ['api.StHull', 'api.Span', 'int'], results ['bool'] -/
def C_l05_StandTides : AC :=
  (.seq (.reg [⟨some 3, none, .pbox 3 (.t 0)⟩,
      ⟨some 4, none, .pbox 2 (.t 1)⟩,
      ⟨some 6, none, .mv (.c (.bool false))⟩] [2, 3, 4])
  (.seq (.reg [⟨some 16, none, .load (some 3) (.t 3)⟩,
      ⟨some 17, none, .load (some 2) (.t 4)⟩,
      ⟨some 18, none, .call (.f 24) [true, false] [(.t 16), (.t 17)]⟩,
      ⟨some 15, none, .mv (.t 18)⟩,
      ⟨some 19, none, .extract (.t 15) 0⟩,
      ⟨some 20, none, .extract (.t 15) 1⟩,
      ⟨some 21, none, .extract (.t 15) 2⟩,
      ⟨some 7, none, .mv (.t 19)⟩,
      ⟨some 8, none, .mv (.t 20)⟩,
      ⟨some 9, none, .mv (.t 21)⟩] [2, 3, 4, 7, 8, 9])
  (.seq (.reg [⟨some 23, none, .load (some 3) (.t 3)⟩,
      ⟨some 24, none, .load (some 2) (.t 4)⟩,
      ⟨some 25, none, .call (.f 25) [true, false] [(.t 23), (.t 24)]⟩,
      ⟨some 22, none, .mv (.t 25)⟩,
      ⟨some 26, none, .extract (.t 22) 0⟩,
      ⟨some 27, none, .extract (.t 22) 1⟩,
      ⟨some 28, none, .extract (.t 22) 2⟩,
      ⟨some 10, none, .mv (.t 26)⟩,
      ⟨some 11, none, .mv (.t 27)⟩,
      ⟨some 12, none, .mv (.t 28)⟩] [2, 3, 7, 8, 9, 10, 11, 12])
  (.seq (.seq (.reg [⟨some 29, none, .mv (.t 7)⟩,
      ⟨some 30, none, .mv (.t 10)⟩,
      ⟨some 31, none, .bin .neq (.t 29) (.t 30)⟩,
      ⟨some 32, none, .mv (.t 31)⟩,
      ⟨some 33, (some (32, false)), .mv (.t 8)⟩,
      ⟨some 34, (some (32, false)), .mv (.t 11)⟩,
      ⟨some 35, (some (32, false)), .bin .neq (.t 33) (.t 34)⟩,
      ⟨some 36, none, .pick (.t 32) (.c (.bool true)) (.t 35)⟩,
      ⟨some 37, none, .mv (.t 36)⟩,
      ⟨some 38, (some (37, false)), .mv (.t 9)⟩,
      ⟨some 39, (some (37, false)), .mv (.t 12)⟩,
      ⟨some 40, (some (37, false)), .bin .neq (.t 38) (.t 39)⟩,
      ⟨some 41, none, .pick (.t 37) (.c (.bool true)) (.t 40)⟩] [2, 3, 41])
  (.cond (.t 41)
    (.seq (.reg [⟨some 6, none, .mv (.c (.bool false))⟩] [6])
    .ret)
    .skip))
  (.seq (.reg [⟨some 43, none, .load (some 3) (.t 3)⟩,
      ⟨some 44, none, .mv (.t 2)⟩,
      ⟨some 45, none, .call (.f 26) [true, false] [(.t 43), (.t 44)]⟩,
      ⟨some 42, none, .mv (.t 45)⟩,
      ⟨some 46, none, .extract (.t 42) 0⟩,
      ⟨some 47, none, .extract (.t 42) 1⟩,
      ⟨some 48, none, .extract (.t 42) 2⟩,
      ⟨some 13, none, .alloc [.slice 1 [], .slice 1 []]⟩,
      ⟨none, none, .store 2 (.t 13) (.t 46)⟩,
      ⟨some 7, none, .mv (.t 47)⟩,
      ⟨some 9, none, .mv (.t 48)⟩] [2, 3, 7, 9, 13])
  (.frz 13 true (.seq (.reg [⟨some 50, none, .load (some 3) (.t 3)⟩,
      ⟨some 51, none, .mv (.t 2)⟩,
      ⟨some 52, none, .call (.f 27) [true, false] [(.t 50), (.t 51)]⟩,
      ⟨some 49, none, .mv (.t 52)⟩,
      ⟨some 53, none, .extract (.t 49) 0⟩,
      ⟨some 54, none, .extract (.t 49) 1⟩,
      ⟨some 55, none, .extract (.t 49) 2⟩,
      ⟨some 14, none, .alloc [.slice 1 [], .slice 1 []]⟩,
      ⟨none, none, .store 2 (.t 14) (.t 53)⟩,
      ⟨some 10, none, .mv (.t 54)⟩,
      ⟨some 12, none, .mv (.t 55)⟩] [3, 7, 9, 10, 12, 13, 14])
  (.frz 14 true (.seq (.seq (.reg [⟨some 56, none, .load (some 2) (.t 13)⟩,
      ⟨some 57, none, .load (some 2) (.t 14)⟩,
      ⟨some 58, none, .call (.f 28) [true, true] [(.t 56), (.t 57)]⟩,
      ⟨some 59, none, .un .not (.t 58)⟩,
      ⟨some 60, none, .mv (.t 59)⟩,
      ⟨some 61, (some (60, false)), .mv (.t 7)⟩,
      ⟨some 62, (some (60, false)), .mv (.t 10)⟩,
      ⟨some 63, (some (60, false)), .bin .neq (.t 61) (.t 62)⟩,
      ⟨some 64, none, .pick (.t 60) (.c (.bool true)) (.t 63)⟩,
      ⟨some 65, none, .mv (.t 64)⟩,
      ⟨some 66, (some (65, false)), .mv (.t 9)⟩,
      ⟨some 67, (some (65, false)), .mv (.t 12)⟩,
      ⟨some 68, (some (65, false)), .bin .neq (.t 66) (.t 67)⟩,
      ⟨some 69, none, .pick (.t 65) (.c (.bool true)) (.t 68)⟩] [3, 69])
  (.cond (.t 69)
    (.seq (.reg [⟨some 6, none, .mv (.c (.bool false))⟩] [6])
    .ret)
    .skip))
  (.seq (.reg [⟨some 71, none, .load (some 3) (.t 3)⟩,
      ⟨some 72, none, .call (.f 29) [true] [(.t 71)]⟩,
      ⟨some 70, none, .mv (.t 72)⟩,
      ⟨some 73, none, .extract (.t 70) 0⟩,
      ⟨some 74, none, .extract (.t 70) 1⟩,
      ⟨some 7, none, .mv (.t 73)⟩,
      ⟨some 9, none, .mv (.t 74)⟩] [3, 7, 9])
  (.seq (.reg [⟨some 76, none, .load (some 3) (.t 3)⟩,
      ⟨some 77, none, .call (.f 30) [true] [(.t 76)]⟩,
      ⟨some 75, none, .mv (.t 77)⟩,
      ⟨some 78, none, .extract (.t 75) 0⟩,
      ⟨some 79, none, .extract (.t 75) 1⟩,
      ⟨some 10, none, .mv (.t 78)⟩,
      ⟨some 12, none, .mv (.t 79)⟩] [7, 9, 10, 12])
  (.seq (.reg [⟨some 80, none, .mv (.t 7)⟩,
      ⟨some 81, none, .mv (.t 10)⟩,
      ⟨some 82, none, .bin .eql (.t 80) (.t 81)⟩,
      ⟨some 83, none, .mv (.t 82)⟩,
      ⟨some 84, (some (83, true)), .mv (.t 9)⟩,
      ⟨some 85, (some (83, true)), .mv (.t 12)⟩,
      ⟨some 86, (some (83, true)), .bin .eql (.t 84) (.t 85)⟩,
      ⟨some 87, none, .pick (.t 83) (.t 86) (.c (.bool false))⟩,
      ⟨some 88, none, .mv (.t 87)⟩,
      ⟨some 89, (some (88, true)), .call (.f 23) [] []⟩,
      ⟨some 90, none, .pick (.t 88) (.t 89) (.c (.bool false))⟩,
      ⟨some 6, none, .mv (.t 90)⟩] [6])
  .ret))))))))))))
abbrev R_l05_StandTides : List (Nat × Option (Option Nat)) := [(6, none)]
theorem K_l05_StandTides : chkF Try.prog Try.f4 91 C_l05_StandTides R_l05_StandTides = true := by kernel_rfl
theorem spec_l05_StandTides {args : List AVal} {σ : AHeap} {R : ARes → AHeap → Prop} (ha : args.length ≤ 91) (h : AW Try.prog 91 none C_l05_StandTides (bodyQ R_l05_StandTides R) { v := argEnv args 0, ds := [] } σ) : Spec Try.prog F_l05_StandTides args σ R := Spec.of_fn Try.func4 K_l05_StandTides ha h
theorem B_l05_StandTides : hasBody Try.prog F_l05_StandTides = true := by kernel_rfl
theorem E_l05_StandTides : EntOk Try.prog ⟨4, 91, C_l05_StandTides, R_l05_StandTides, false⟩ := ⟨fun _ => ⟨B_l05_StandTides, _, Try.func4, K_l05_StandTides⟩, fun h => by cases h⟩

abbrev F_l05_StandForces : FuncId := 5
/-- orlop/orloplaw05.StandForces: parameters ['api.StHull', 'orloplaw05.Pressed'], results ['bool'] -/
def C_l05_StandForces : AC :=
  (.seq (.reg [⟨some 2, none, .pbox 3 (.t 0)⟩,
      ⟨some 3, none, .pbox 4 (.t 1)⟩,
      ⟨some 4, none, .mv (.c (.bool false))⟩] [2, 3])
  (.seq (.reg [⟨some 12, none, .load (some 3) (.t 2)⟩,
      ⟨some 13, none, .fieldAddr (some 2) 0 (.t 3)⟩,
      ⟨some 14, none, .load (some 2) (.t 13)⟩,
      ⟨some 15, none, .fieldAddr none 2 (.t 3)⟩,
      ⟨some 16, none, .load none (.t 15)⟩,
      ⟨some 17, none, .call (.f 31) [true, true, false] [(.t 12), (.t 14), (.t 16)]⟩,
      ⟨some 11, none, .mv (.t 17)⟩,
      ⟨some 18, none, .extract (.t 11) 0⟩,
      ⟨some 19, none, .extract (.t 11) 1⟩,
      ⟨some 5, none, .mv (.t 18)⟩,
      ⟨some 6, none, .mv (.t 19)⟩] [2, 3, 5, 6])
  (.seq (.reg [⟨some 21, none, .load (some 3) (.t 2)⟩,
      ⟨some 22, none, .fieldAddr (some 2) 0 (.t 3)⟩,
      ⟨some 23, none, .load (some 2) (.t 22)⟩,
      ⟨some 24, none, .fieldAddr none 2 (.t 3)⟩,
      ⟨some 25, none, .load none (.t 24)⟩,
      ⟨some 26, none, .call (.f 32) [true, true, false] [(.t 21), (.t 23), (.t 25)]⟩,
      ⟨some 20, none, .mv (.t 26)⟩,
      ⟨some 27, none, .extract (.t 20) 0⟩,
      ⟨some 28, none, .extract (.t 20) 1⟩,
      ⟨some 7, none, .mv (.t 27)⟩,
      ⟨some 8, none, .mv (.t 28)⟩] [2, 3, 5, 6, 7, 8])
  (.seq (.seq (.reg [⟨some 29, none, .mv (.t 5)⟩,
      ⟨some 30, none, .mv (.t 7)⟩,
      ⟨some 31, none, .call (.f 33) [true, true] [(.t 29), (.t 30)]⟩,
      ⟨some 32, none, .un .not (.t 31)⟩,
      ⟨some 33, none, .mv (.t 32)⟩,
      ⟨some 34, (some (33, false)), .mv (.t 6)⟩,
      ⟨some 35, (some (33, false)), .mv (.t 8)⟩,
      ⟨some 36, (some (33, false)), .bin .neq (.t 34) (.t 35)⟩,
      ⟨some 37, none, .pick (.t 33) (.c (.bool true)) (.t 36)⟩] [2, 3, 37])
  (.cond (.t 37)
    (.seq (.reg [⟨some 4, none, .mv (.c (.bool false))⟩] [4])
    .ret)
    .skip))
  (.seq (.reg [⟨some 39, none, .load (some 3) (.t 2)⟩,
      ⟨some 40, none, .fieldAddr (some 2) 0 (.t 3)⟩,
      ⟨some 41, none, .load (some 2) (.t 40)⟩,
      ⟨some 42, none, .fieldAddr none 2 (.t 3)⟩,
      ⟨some 43, none, .load none (.t 42)⟩,
      ⟨some 44, none, .fieldAddr none 3 (.t 3)⟩,
      ⟨some 45, none, .load none (.t 44)⟩,
      ⟨some 46, none, .call (.f 34) [true, true, false, true] [(.t 39), (.t 41), (.t 43), (.t 45)]⟩,
      ⟨some 38, none, .mv (.t 46)⟩,
      ⟨some 47, none, .extract (.t 38) 0⟩,
      ⟨some 48, none, .extract (.t 38) 1⟩,
      ⟨some 9, none, .mv (.t 47)⟩,
      ⟨some 6, none, .mv (.t 48)⟩] [2, 3, 6, 9])
  (.seq (.reg [⟨some 50, none, .load (some 3) (.t 2)⟩,
      ⟨some 51, none, .fieldAddr (some 2) 0 (.t 3)⟩,
      ⟨some 52, none, .load (some 2) (.t 51)⟩,
      ⟨some 53, none, .fieldAddr none 2 (.t 3)⟩,
      ⟨some 54, none, .load none (.t 53)⟩,
      ⟨some 55, none, .fieldAddr none 3 (.t 3)⟩,
      ⟨some 56, none, .load none (.t 55)⟩,
      ⟨some 57, none, .call (.f 35) [true, true, false, true] [(.t 50), (.t 52), (.t 54), (.t 56)]⟩,
      ⟨some 49, none, .mv (.t 57)⟩,
      ⟨some 58, none, .extract (.t 49) 0⟩,
      ⟨some 59, none, .extract (.t 49) 1⟩,
      ⟨some 10, none, .mv (.t 58)⟩,
      ⟨some 8, none, .mv (.t 59)⟩] [6, 8, 9, 10])
  (.seq (.reg [⟨some 60, none, .mv (.t 9)⟩,
      ⟨some 61, none, .mv (.t 10)⟩,
      ⟨some 62, none, .eqb false (.t 60) (.t 61)⟩,
      ⟨some 63, none, .mv (.t 62)⟩,
      ⟨some 64, (some (63, true)), .mv (.t 6)⟩,
      ⟨some 65, (some (63, true)), .mv (.t 8)⟩,
      ⟨some 66, (some (63, true)), .bin .eql (.t 64) (.t 65)⟩,
      ⟨some 67, none, .pick (.t 63) (.t 66) (.c (.bool false))⟩,
      ⟨some 68, none, .mv (.t 67)⟩,
      ⟨some 69, (some (68, true)), .call (.f 23) [] []⟩,
      ⟨some 70, none, .pick (.t 68) (.t 69) (.c (.bool false))⟩,
      ⟨some 4, none, .mv (.t 70)⟩] [4])
  .ret)))))))
abbrev R_l05_StandForces : List (Nat × Option (Option Nat)) := [(4, none)]
theorem K_l05_StandForces : chkF Try.prog Try.f5 71 C_l05_StandForces R_l05_StandForces = true := by kernel_rfl
theorem spec_l05_StandForces {args : List AVal} {σ : AHeap} {R : ARes → AHeap → Prop} (ha : args.length ≤ 71) (h : AW Try.prog 71 none C_l05_StandForces (bodyQ R_l05_StandForces R) { v := argEnv args 0, ds := [] } σ) : Spec Try.prog F_l05_StandForces args σ R := Spec.of_fn Try.func5 K_l05_StandForces ha h
theorem B_l05_StandForces : hasBody Try.prog F_l05_StandForces = true := by kernel_rfl
theorem E_l05_StandForces : EntOk Try.prog ⟨5, 71, C_l05_StandForces, R_l05_StandForces, false⟩ := ⟨fun _ => ⟨B_l05_StandForces, _, Try.func5, K_l05_StandForces⟩, fun h => by cases h⟩

abbrev F_l05_StandBallasts : FuncId := 6
/-- orlop/orloplaw05.StandBallasts: parameters ['api.StHull', 'int', 'api.Span'], results ['bool'] -/
def C_l05_StandBallasts : AC :=
  (.seq (.reg [⟨some 3, none, .pbox 3 (.t 0)⟩,
      ⟨some 5, none, .pbox 2 (.t 2)⟩,
      ⟨some 6, none, .mv (.c (.bool false))⟩] [1, 3, 5])
  (.seq (.reg [⟨some 12, none, .load (some 3) (.t 3)⟩,
      ⟨some 13, none, .mv (.t 1)⟩,
      ⟨some 14, none, .load (some 2) (.t 5)⟩,
      ⟨some 15, none, .call (.f 36) [true, false, false] [(.t 12), (.t 13), (.t 14)]⟩,
      ⟨some 11, none, .mv (.t 15)⟩,
      ⟨some 16, none, .extract (.t 11) 0⟩,
      ⟨some 17, none, .extract (.t 11) 1⟩,
      ⟨some 7, none, .mv (.t 16)⟩,
      ⟨some 8, none, .mv (.t 17)⟩] [1, 3, 5, 7, 8])
  (.seq (.reg [⟨some 19, none, .load (some 3) (.t 3)⟩,
      ⟨some 20, none, .mv (.t 1)⟩,
      ⟨some 21, none, .load (some 2) (.t 5)⟩,
      ⟨some 22, none, .call (.f 37) [true, false, false] [(.t 19), (.t 20), (.t 21)]⟩,
      ⟨some 18, none, .mv (.t 22)⟩,
      ⟨some 23, none, .extract (.t 18) 0⟩,
      ⟨some 24, none, .extract (.t 18) 1⟩,
      ⟨some 9, none, .mv (.t 23)⟩,
      ⟨some 10, none, .mv (.t 24)⟩] [7, 8, 9, 10])
  (.seq (.reg [⟨some 25, none, .mv (.t 7)⟩,
      ⟨some 26, none, .mv (.t 9)⟩,
      ⟨some 27, none, .bin .eql (.t 25) (.t 26)⟩,
      ⟨some 28, none, .mv (.t 27)⟩,
      ⟨some 29, (some (28, true)), .mv (.t 8)⟩,
      ⟨some 30, (some (28, true)), .mv (.t 10)⟩,
      ⟨some 31, (some (28, true)), .bin .eql (.t 29) (.t 30)⟩,
      ⟨some 32, none, .pick (.t 28) (.t 31) (.c (.bool false))⟩,
      ⟨some 33, none, .mv (.t 32)⟩,
      ⟨some 34, (some (33, true)), .call (.f 23) [] []⟩,
      ⟨some 35, none, .pick (.t 33) (.t 34) (.c (.bool false))⟩,
      ⟨some 6, none, .mv (.t 35)⟩] [6])
  .ret))))
abbrev R_l05_StandBallasts : List (Nat × Option (Option Nat)) := [(6, none)]
theorem K_l05_StandBallasts : chkF Try.prog Try.f6 36 C_l05_StandBallasts R_l05_StandBallasts = true := by kernel_rfl
theorem spec_l05_StandBallasts {args : List AVal} {σ : AHeap} {R : ARes → AHeap → Prop} (ha : args.length ≤ 36) (h : AW Try.prog 36 none C_l05_StandBallasts (bodyQ R_l05_StandBallasts R) { v := argEnv args 0, ds := [] } σ) : Spec Try.prog F_l05_StandBallasts args σ R := Spec.of_fn Try.func6 K_l05_StandBallasts ha h
theorem B_l05_StandBallasts : hasBody Try.prog F_l05_StandBallasts = true := by kernel_rfl
theorem E_l05_StandBallasts : EntOk Try.prog ⟨6, 36, C_l05_StandBallasts, R_l05_StandBallasts, false⟩ := ⟨fun _ => ⟨B_l05_StandBallasts, _, Try.func6, K_l05_StandBallasts⟩, fun h => by cases h⟩

abbrev F_l05_StandKnown : FuncId := 7
/-- orlop/orloplaw05.StandKnown: parameters [], results ['bool'] -/
def C_l05_StandKnown : AC :=
  (.seq (.reg [⟨some 0, none, .mv (.c (.bool false))⟩] [])
  (.seq (.reg [⟨some 9, none, .call (.f 38) [] []⟩,
      ⟨some 10, none, .call (.f 39) [] []⟩,
      ⟨some 11, none, .call (.f 19) [true, true, false] [(.t 9), (.t 10), (.c (.int .i64 0))]⟩,
      ⟨some 8, none, .mv (.t 11)⟩,
      ⟨some 12, none, .extract (.t 8) 0⟩,
      ⟨some 13, none, .extract (.t 8) 1⟩,
      ⟨some 1, none, .alloc [.int .i64 0, .int .i64 0, .int .i64 0]⟩,
      ⟨none, none, .store 3 (.t 1) (.t 12)⟩,
      ⟨some 2, none, .mv (.t 13)⟩] [1, 2])
  (.frz 1 true (.seq (.reg [⟨some 15, none, .call (.f 38) [] []⟩,
      ⟨some 16, none, .call (.f 40) [false, false] [(.c (.int .i64 0)), (.c (.int .i64 133))]⟩,
      ⟨some 17, none, .call (.f 24) [true, false] [(.t 15), (.t 16)]⟩,
      ⟨some 14, none, .mv (.t 17)⟩,
      ⟨some 18, none, .extract (.t 14) 0⟩,
      ⟨some 19, none, .extract (.t 14) 1⟩,
      ⟨some 20, none, .extract (.t 14) 2⟩,
      ⟨some 3, none, .mv (.t 18)⟩,
      ⟨some 4, none, .mv (.t 19)⟩,
      ⟨some 5, none, .mv (.t 20)⟩] [1, 2, 3, 4, 5])
  (.seq (.reg [⟨some 22, none, .call (.f 38) [] []⟩,
      ⟨some 23, none, .call (.f 39) [] []⟩,
      ⟨some 24, none, .build [.int .i64 0, .int .i64 0] [(0, 1, (.c (.int .i64 600))), (1, 1, (.c (.int .i64 2100000)))]⟩,
      ⟨some 25, none, .lit 0 2 1 [(0, (.t 24))]⟩,
      ⟨some 26, none, .call (.f 34) [true, true, false, true] [(.t 22), (.t 23), (.c (.int .i64 0)), (.t 25)]⟩,
      ⟨some 21, none, .mv (.t 26)⟩,
      ⟨some 27, none, .extract (.t 21) 0⟩,
      ⟨some 28, none, .extract (.t 21) 1⟩,
      ⟨some 6, none, .mv (.t 27)⟩,
      ⟨some 7, none, .mv (.t 28)⟩] [1, 2, 3, 4, 5, 6, 7])
  (.seq (.reg [⟨some 29, none, .mv (.t 2)⟩,
      ⟨some 30, none, .bin .eql (.t 29) (.c (.int .i64 0))⟩,
      ⟨some 31, none, .mv (.t 30)⟩,
      ⟨some 32, (some (31, true)), .mv (.t 5)⟩,
      ⟨some 33, (some (31, true)), .bin .eql (.t 32) (.c (.int .i64 0))⟩,
      ⟨some 34, none, .pick (.t 31) (.t 33) (.c (.bool false))⟩,
      ⟨some 35, none, .mv (.t 34)⟩,
      ⟨some 36, (some (35, true)), .mv (.t 7)⟩,
      ⟨some 37, (some (35, true)), .bin .eql (.t 36) (.c (.int .i64 0))⟩,
      ⟨some 38, none, .pick (.t 35) (.t 37) (.c (.bool false))⟩,
      ⟨some 39, none, .mv (.t 38)⟩,
      ⟨some 40, (some (39, true)), .load (some 3) (.t 1)⟩,
      ⟨some 41, (some (39, true)), .build [.int .i64 0, .int .i64 0, .int .i64 0] [(0, 1, (.c (.int .i64 3500))), (1, 1, (.c (.int .i64 1400000))), (2, 1, (.c (.int .i64 700000)))]⟩,
      ⟨some 42, (some (39, true)), .eqa false [.i, .i, .i] (.t 40) (.t 41)⟩,
      ⟨some 43, none, .pick (.t 39) (.t 42) (.c (.bool false))⟩,
      ⟨some 44, none, .mv (.t 43)⟩,
      ⟨some 45, (some (44, true)), .mv (.t 3)⟩,
      ⟨some 46, (some (44, true)), .bin .eql (.t 45) (.c (.int .i64 0))⟩,
      ⟨some 47, none, .pick (.t 44) (.t 46) (.c (.bool false))⟩,
      ⟨some 48, none, .mv (.t 47)⟩,
      ⟨some 49, (some (48, true)), .mv (.t 4)⟩,
      ⟨some 50, (some (48, true)), .bin .eql (.t 49) (.c (.int .i64 0))⟩,
      ⟨some 51, none, .pick (.t 48) (.t 50) (.c (.bool false))⟩,
      ⟨some 52, none, .mv (.t 51)⟩,
      ⟨some 53, (some (52, true)), .mv (.t 6)⟩,
      ⟨some 54, none, .pick (.t 52) (.t 53) (.c (.bool false))⟩,
      ⟨some 55, none, .mv (.t 54)⟩,
      ⟨some 56, (some (55, true)), .call (.f 41) [false] [(.c (.str ⟨#[98, 111, 119]⟩))]⟩,
      ⟨some 57, none, .pick (.t 55) (.t 56) (.c (.bool false))⟩,
      ⟨some 58, none, .mv (.t 57)⟩,
      ⟨some 59, (some (58, true)), .call (.f 23) [] []⟩,
      ⟨some 60, none, .pick (.t 58) (.t 59) (.c (.bool false))⟩,
      ⟨some 0, none, .mv (.t 60)⟩] [0])
  .ret))))))
abbrev R_l05_StandKnown : List (Nat × Option (Option Nat)) := [(0, none)]
theorem K_l05_StandKnown : chkF Try.prog Try.f7 61 C_l05_StandKnown R_l05_StandKnown = true := by kernel_rfl
theorem spec_l05_StandKnown {args : List AVal} {σ : AHeap} {R : ARes → AHeap → Prop} (ha : args.length ≤ 61) (h : AW Try.prog 61 none C_l05_StandKnown (bodyQ R_l05_StandKnown R) { v := argEnv args 0, ds := [] } σ) : Spec Try.prog F_l05_StandKnown args σ R := Spec.of_fn Try.func7 K_l05_StandKnown ha h
theorem B_l05_StandKnown : hasBody Try.prog F_l05_StandKnown = true := by kernel_rfl
theorem E_l05_StandKnown : EntOk Try.prog ⟨7, 61, C_l05_StandKnown, R_l05_StandKnown, false⟩ := ⟨fun _ => ⟨B_l05_StandKnown, _, Try.func7, K_l05_StandKnown⟩, fun h => by cases h⟩

abbrev F_l05_StandTrue : FuncId := 8
/-- orlop/orloplaw05.StandTrue: parameters ['api.StHull', 'orloplaw05.Wet'], results ['bool'] -/
def C_l05_StandTrue : AC :=
  (.seq (.reg [⟨some 2, none, .pbox 3 (.t 0)⟩,
      ⟨some 3, none, .pbox 4 (.t 1)⟩,
      ⟨some 4, none, .mv (.c (.bool false))⟩] [2, 3])
  (.seq (.reg [⟨some 9, none, .fieldAddr (some 2) 0 (.t 3)⟩,
      ⟨some 10, none, .load (some 2) (.t 9)⟩,
      ⟨some 11, none, .call (.f 42) [false] [(.t 10)]⟩,
      ⟨some 5, none, .alloc [.int .i64 0, .int .i64 0]⟩,
      ⟨none, none, .store 2 (.t 5) (.t 11)⟩] [2, 3, 5])
  (.frz 5 true (.seq (.reg [⟨some 13, none, .load (some 3) (.t 2)⟩,
      ⟨some 14, none, .load (some 2) (.t 5)⟩,
      ⟨some 15, none, .call (.f 24) [true, false] [(.t 13), (.t 14)]⟩,
      ⟨some 12, none, .mv (.t 15)⟩,
      ⟨some 16, none, .extract (.t 12) 0⟩,
      ⟨some 17, none, .extract (.t 12) 1⟩,
      ⟨some 18, none, .extract (.t 12) 2⟩,
      ⟨some 6, none, .mv (.t 16)⟩,
      ⟨some 7, none, .mv (.t 17)⟩,
      ⟨some 8, none, .mv (.t 18)⟩] [2, 3, 5, 6, 7, 8])
  (.seq (.seq (.reg [⟨some 19, none, .load (some 3) (.t 2)⟩,
      ⟨some 20, none, .call (.f 43) [true] [(.t 19)]⟩,
      ⟨some 21, none, .un .not (.t 20)⟩] [2, 3, 5, 6, 7, 8, 21])
  (.cond (.t 21)
    (.seq (.reg [⟨some 22, none, .mv (.t 8)⟩,
        ⟨some 23, none, .bin .neq (.t 22) (.c (.int .i64 0))⟩,
        ⟨some 24, none, .mv (.t 23)⟩,
        ⟨some 25, (some (24, true)), .mv (.t 6)⟩,
        ⟨some 26, (some (24, true)), .bin .eql (.t 25) (.c (.int .i64 0))⟩,
        ⟨some 27, none, .pick (.t 24) (.t 26) (.c (.bool false))⟩,
        ⟨some 28, none, .mv (.t 27)⟩,
        ⟨some 29, (some (28, true)), .mv (.t 7)⟩,
        ⟨some 30, (some (28, true)), .bin .eql (.t 29) (.c (.int .i64 0))⟩,
        ⟨some 31, none, .pick (.t 28) (.t 30) (.c (.bool false))⟩,
        ⟨some 32, none, .mv (.t 31)⟩,
        ⟨some 33, (some (32, true)), .call (.f 23) [] []⟩,
        ⟨some 34, none, .pick (.t 32) (.t 33) (.c (.bool false))⟩,
        ⟨some 4, none, .mv (.t 34)⟩] [4])
    .ret)
    .skip))
  (.seq (.seq (.reg [⟨some 35, none, .mv (.t 8)⟩,
      ⟨some 36, none, .bin .neq (.t 35) (.c (.int .i64 0))⟩] [2, 3, 5, 6, 7, 36])
  (.cond (.t 36)
    (.seq (.reg [⟨some 4, none, .mv (.c (.bool false))⟩] [4])
    .ret)
    .skip))
  (.seq (.seq (.reg [⟨some 37, none, .mv (.t 6)⟩,
      ⟨some 38, none, .bin .neq (.t 37) (.c (.int .i64 0))⟩] [2, 3, 5, 6, 7, 38])
  (.cond (.t 38)
    (.seq (.reg [⟨some 39, none, .mv (.t 6)⟩,
        ⟨some 40, none, .bin .geq (.t 39) (.c (.int .i64 1))⟩,
        ⟨some 41, none, .mv (.t 40)⟩,
        ⟨some 42, (some (41, true)), .mv (.t 6)⟩,
        ⟨some 43, (some (41, true)), .bin .leq (.t 42) (.c (.int .i64 3))⟩,
        ⟨some 44, none, .pick (.t 41) (.t 43) (.c (.bool false))⟩,
        ⟨some 45, none, .mv (.t 44)⟩,
        ⟨some 46, (some (45, true)), .mv (.t 7)⟩,
        ⟨some 47, (some (45, true)), .fieldAddr none 0 (.t 5)⟩,
        ⟨some 48, (some (45, true)), .load none (.t 47)⟩,
        ⟨some 49, (some (45, true)), .bin .geq (.t 46) (.t 48)⟩,
        ⟨some 50, none, .pick (.t 45) (.t 49) (.c (.bool false))⟩,
        ⟨some 51, none, .mv (.t 50)⟩,
        ⟨some 52, (some (51, true)), .mv (.t 7)⟩,
        ⟨some 53, (some (51, true)), .fieldAddr none 1 (.t 5)⟩,
        ⟨some 54, (some (51, true)), .load none (.t 53)⟩,
        ⟨some 55, (some (51, true)), .bin .leq (.t 52) (.t 54)⟩,
        ⟨some 56, none, .pick (.t 51) (.t 55) (.c (.bool false))⟩,
        ⟨some 57, none, .mv (.t 56)⟩,
        ⟨some 58, (some (57, true)), .call (.f 23) [] []⟩,
        ⟨some 59, none, .pick (.t 57) (.t 58) (.c (.bool false))⟩,
        ⟨some 4, none, .mv (.t 59)⟩] [4])
    .ret)
    .skip))
  (.seq (.dreg [⟨some 60, none, .mv (.t 7)⟩,
      ⟨some 61, none, .bin .eql (.t 60) (.c (.int .i64 0))⟩,
      ⟨some 62, none, .mv (.t 61)⟩,
      ⟨some 63, (some (62, true)), .load (some 3) (.t 2)⟩,
      ⟨some 64, (some (62, true)), .load (some 3) (.t 2)⟩,
      ⟨some 65, (some (62, true)), .fieldAddr none 3 (.t 3)⟩,
      ⟨some 66, (some (62, true)), .load none (.t 65)⟩,
      ⟨some 67, (some (62, true)), .call (.f 45) [true, true] [(.t 64), (.t 66)]⟩,
      ⟨some 68, (some (62, true)), .load (some 2) (.t 5)⟩,
      ⟨some 69, (some (62, true)), .fieldAddr none 2 (.t 3)⟩,
      ⟨some 70, (some (62, true)), .load none (.t 69)⟩,
      ⟨some 71, (some (62, true)), .conv .i64 (.t 70)⟩,
      ⟨some 72, (some (62, true)), .call (.f 46) [false, false] [(.t 68), (.t 71)]⟩,
      ⟨some 73, (some (62, true)), .call (.f 44) [true, true, false] [(.t 63), (.t 67), (.t 72)]⟩,
      ⟨some 74, none, .pick (.t 62) (.t 73) (.c (.bool false))⟩,
      ⟨some 75, none, .mv (.t 74)⟩,
      ⟨some 76, (some (75, true)), .call (.f 23) [] []⟩,
      ⟨some 77, none, .pick (.t 75) (.t 76) (.c (.bool false))⟩,
      ⟨some 4, none, .mv (.t 77)⟩] [4] [[], [0], [0, 1], [0, 1, 2], [0, 1, 2], [0, 1, 2], [0, 1, 2, 5], [0, 1, 2, 4, 5, 6], [0, 1, 2], [0, 1, 2], [0, 1, 2, 9], [0, 1, 2, 9, 10], [0, 1, 2, 4, 5, 6, 7, 8, 9, 10, 11], [0, 1, 2, 3, 4, 5, 6, 7, 8, 9, 10, 11, 12], [0, 1, 2, 3, 4, 5, 6, 7, 8, 9, 10, 11, 12, 13], [0, 1, 2, 3, 4, 5, 6, 7, 8, 9, 10, 11, 12, 13, 14], [0, 1, 2, 3, 4, 5, 6, 7, 8, 9, 10, 11, 12, 13, 14, 15], [0, 1, 2, 3, 4, 5, 6, 7, 8, 9, 10, 11, 12, 13, 14, 15, 16], [0, 1, 2, 3, 4, 5, 6, 7, 8, 9, 10, 11, 12, 13, 14, 15, 16, 17]])
  .ret))))))))
abbrev R_l05_StandTrue : List (Nat × Option (Option Nat)) := [(4, none)]
theorem K_l05_StandTrue : chkF Try.prog Try.f8 78 C_l05_StandTrue R_l05_StandTrue = true := by kernel_rfl
theorem spec_l05_StandTrue {args : List AVal} {σ : AHeap} {R : ARes → AHeap → Prop} (ha : args.length ≤ 78) (h : AW Try.prog 78 none C_l05_StandTrue (bodyQ R_l05_StandTrue R) { v := argEnv args 0, ds := [] } σ) : Spec Try.prog F_l05_StandTrue args σ R := Spec.of_fn Try.func8 K_l05_StandTrue ha h
theorem B_l05_StandTrue : hasBody Try.prog F_l05_StandTrue = true := by kernel_rfl
theorem E_l05_StandTrue : EntOk Try.prog ⟨8, 78, C_l05_StandTrue, R_l05_StandTrue, false⟩ := ⟨fun _ => ⟨B_l05_StandTrue, _, Try.func8, K_l05_StandTrue⟩, fun h => by cases h⟩

abbrev F_l05_StandShown : FuncId := 9
/-- orlop/orloplaw05.StandShown: parameters ['api.StHull', 'orloplaw05.Wet'], results ['bool'] -/
def C_l05_StandShown : AC :=
  (.seq (.reg [⟨some 2, none, .pbox 3 (.t 0)⟩,
      ⟨some 3, none, .pbox 4 (.t 1)⟩,
      ⟨some 4, none, .mv (.c (.bool false))⟩] [2, 3])
  (.seq (.reg [⟨some 15, none, .fieldAddr (some 2) 0 (.t 3)⟩,
      ⟨some 16, none, .load (some 2) (.t 15)⟩,
      ⟨some 17, none, .call (.f 42) [false] [(.t 16)]⟩,
      ⟨some 5, none, .alloc [.int .i64 0, .int .i64 0]⟩,
      ⟨none, none, .store 2 (.t 5) (.t 17)⟩] [2, 3, 5])
  (.frz 5 true (.seq (.reg [⟨some 19, none, .load (some 3) (.t 2)⟩,
      ⟨some 20, none, .load (some 2) (.t 5)⟩,
      ⟨some 21, none, .call (.f 24) [true, false] [(.t 19), (.t 20)]⟩,
      ⟨some 18, none, .mv (.t 21)⟩,
      ⟨some 22, none, .extract (.t 18) 0⟩,
      ⟨some 23, none, .extract (.t 18) 1⟩,
      ⟨some 24, none, .extract (.t 18) 2⟩,
      ⟨some 6, none, .mv (.t 22)⟩,
      ⟨some 7, none, .mv (.t 23)⟩,
      ⟨some 8, none, .mv (.t 24)⟩] [2, 3, 5, 6, 7, 8])
  (.seq (.seq (.reg [⟨some 25, none, .load (some 3) (.t 2)⟩,
      ⟨some 26, none, .call (.f 43) [true] [(.t 25)]⟩,
      ⟨some 27, none, .un .not (.t 26)⟩,
      ⟨some 28, none, .mv (.t 27)⟩,
      ⟨some 29, (some (28, false)), .mv (.t 8)⟩,
      ⟨some 30, (some (28, false)), .bin .neq (.t 29) (.c (.int .i64 0))⟩,
      ⟨some 31, none, .pick (.t 28) (.c (.bool true)) (.t 30)⟩] [2, 3, 5, 6, 7, 8, 31])
  (.cond (.t 31)
    (.seq (.reg [⟨some 32, none, .load (some 3) (.t 2)⟩,
        ⟨some 33, none, .call (.f 43) [true] [(.t 32)]⟩,
        ⟨some 34, none, .un .not (.t 33)⟩,
        ⟨some 35, none, .mv (.t 34)⟩,
        ⟨some 36, (some (35, true)), .mv (.t 8)⟩,
        ⟨some 37, (some (35, true)), .bin .neq (.t 36) (.c (.int .i64 0))⟩,
        ⟨some 38, none, .pick (.t 35) (.t 37) (.c (.bool false))⟩,
        ⟨some 39, none, .mv (.t 38)⟩,
        ⟨some 40, (some (39, true)), .call (.f 23) [] []⟩,
        ⟨some 41, none, .pick (.t 39) (.t 40) (.c (.bool false))⟩,
        ⟨some 4, none, .mv (.t 41)⟩] [4])
    .ret)
    .skip))
  (.seq (.seq (.reg [⟨some 42, none, .mv (.t 6)⟩,
      ⟨some 43, none, .bin .eql (.t 42) (.c (.int .i64 0))⟩] [2, 3, 5, 6, 7, 43])
  (.cond (.t 43)
    (.seq (.reg [⟨some 44, none, .call (.f 23) [] []⟩,
        ⟨some 4, none, .mv (.t 44)⟩] [4])
    .ret)
    .skip))
  (.seq (.reg [⟨some 46, none, .load (some 3) (.t 2)⟩,
      ⟨some 47, none, .mv (.t 7)⟩,
      ⟨some 48, none, .call (.f 26) [true, false] [(.t 46), (.t 47)]⟩,
      ⟨some 45, none, .mv (.t 48)⟩,
      ⟨some 49, none, .extract (.t 45) 0⟩,
      ⟨some 50, none, .extract (.t 45) 1⟩,
      ⟨some 51, none, .extract (.t 45) 2⟩,
      ⟨some 9, none, .alloc [.slice 1 [], .slice 1 []]⟩,
      ⟨none, none, .store 2 (.t 9) (.t 49)⟩,
      ⟨some 10, none, .mv (.t 50)⟩,
      ⟨some 11, none, .mv (.t 51)⟩] [2, 3, 5, 6, 7, 9, 10, 11])
  (.frz 9 true (.seq (.seq (.reg [⟨some 52, none, .mv (.t 11)⟩,
      ⟨some 53, none, .bin .neq (.t 52) (.c (.int .i64 0))⟩,
      ⟨some 54, none, .mv (.t 53)⟩,
      ⟨some 55, (some (54, false)), .mv (.t 10)⟩,
      ⟨some 56, (some (54, false)), .mv (.t 6)⟩,
      ⟨some 57, (some (54, false)), .bin .neq (.t 55) (.t 56)⟩,
      ⟨some 58, none, .pick (.t 54) (.c (.bool true)) (.t 57)⟩,
      ⟨some 59, none, .mv (.t 58)⟩,
      ⟨some 60, (some (59, false)), .load (some 3) (.t 2)⟩,
      ⟨some 61, (some (59, false)), .load (some 2) (.t 9)⟩,
      ⟨some 62, (some (59, false)), .call (.f 47) [true, true] [(.t 60), (.t 61)]⟩,
      ⟨some 63, (some (59, false)), .bin .neq (.t 62) (.c (.int .i64 0))⟩,
      ⟨some 64, none, .pick (.t 59) (.c (.bool true)) (.t 63)⟩,
      ⟨some 65, none, .mv (.t 64)⟩,
      ⟨some 66, (some (65, false)), .mv (.t 7)⟩,
      ⟨some 67, (some (65, false)), .fieldAddr none 0 (.t 5)⟩,
      ⟨some 68, (some (65, false)), .load none (.t 67)⟩,
      ⟨some 69, (some (65, false)), .bin .lss (.t 66) (.t 68)⟩,
      ⟨some 70, none, .pick (.t 65) (.c (.bool true)) (.t 69)⟩,
      ⟨some 71, none, .mv (.t 70)⟩,
      ⟨some 72, (some (71, false)), .mv (.t 7)⟩,
      ⟨some 73, (some (71, false)), .fieldAddr none 1 (.t 5)⟩,
      ⟨some 74, (some (71, false)), .load none (.t 73)⟩,
      ⟨some 75, (some (71, false)), .bin .gtr (.t 72) (.t 74)⟩,
      ⟨some 76, none, .pick (.t 71) (.c (.bool true)) (.t 75)⟩] [2, 3, 5, 6, 7, 9, 76])
  (.cond (.t 76)
    (.seq (.reg [⟨some 4, none, .mv (.c (.bool false))⟩] [4])
    .ret)
    .skip))
  (.seq (.reg [⟨some 78, none, .load (some 3) (.t 2)⟩,
      ⟨some 79, none, .load (some 2) (.t 9)⟩,
      ⟨some 80, none, .mv (.t 7)⟩,
      ⟨some 81, none, .call (.f 19) [true, true, false] [(.t 78), (.t 79), (.t 80)]⟩,
      ⟨some 77, none, .mv (.t 81)⟩,
      ⟨some 82, none, .extract (.t 77) 0⟩,
      ⟨some 83, none, .extract (.t 77) 1⟩,
      ⟨some 12, none, .alloc [.int .i64 0, .int .i64 0, .int .i64 0]⟩,
      ⟨none, none, .store 3 (.t 12) (.t 82)⟩,
      ⟨some 13, none, .mv (.t 83)⟩] [2, 3, 5, 6, 7, 9, 12, 13])
  (.frz 12 true (.seq (.reg [⟨some 84, none, .mv (.t 6)⟩,
      ⟨some 85, none, .bin .eql (.t 84) (.c (.int .i64 1))⟩,
      ⟨some 86, none, .mv (.t 85)⟩,
      ⟨some 87, (some (86, true)), .fieldAddr none 0 (.t 12)⟩,
      ⟨some 88, (some (86, true)), .load none (.t 87)⟩,
      ⟨some 89, (some (86, true)), .bin .leq (.t 88) (.c (.int .i64 0))⟩,
      ⟨some 90, none, .pick (.t 86) (.t 89) (.c (.bool false))⟩,
      ⟨some 91, none, .mv (.t 90)⟩,
      ⟨some 92, (some (91, false)), .mv (.t 6)⟩,
      ⟨some 93, (some (91, false)), .bin .eql (.t 92) (.c (.int .i64 2))⟩,
      ⟨some 94, (some (91, false)), .mv (.t 93)⟩,
      ⟨some 95, (some (94, true)), .fieldAddr none 1 (.t 12)⟩,
      ⟨some 96, (some (94, true)), .load none (.t 95)⟩,
      ⟨some 97, (some (94, true)), .bin .lss (.t 96) (.c (.int .i64 0))⟩,
      ⟨some 98, (some (91, false)), .pick (.t 94) (.t 97) (.c (.bool false))⟩,
      ⟨some 99, none, .pick (.t 91) (.c (.bool true)) (.t 98)⟩,
      ⟨some 100, none, .mv (.t 99)⟩,
      ⟨some 101, (some (100, false)), .mv (.t 6)⟩,
      ⟨some 102, (some (100, false)), .bin .eql (.t 101) (.c (.int .i64 3))⟩,
      ⟨some 103, (some (100, false)), .mv (.t 102)⟩,
      ⟨some 104, (some (103, true)), .fieldAddr none 2 (.t 12)⟩,
      ⟨some 105, (some (103, true)), .load none (.t 104)⟩,
      ⟨some 106, (some (103, true)), .bin .lss (.t 105) (.c (.int .i64 0))⟩,
      ⟨some 107, (some (100, false)), .pick (.t 103) (.t 106) (.c (.bool false))⟩,
      ⟨some 108, none, .pick (.t 100) (.c (.bool true)) (.t 107)⟩,
      ⟨some 14, none, .mv (.t 108)⟩] [2, 3, 5, 7, 9, 13, 14])
  (.seq (.seq (.reg [⟨some 109, none, .mv (.t 13)⟩,
      ⟨some 110, none, .bin .neq (.t 109) (.c (.int .i64 0))⟩,
      ⟨some 111, none, .mv (.t 110)⟩,
      ⟨some 112, (some (111, false)), .mv (.t 14)⟩,
      ⟨some 113, (some (111, false)), .un .not (.t 112)⟩,
      ⟨some 114, none, .pick (.t 111) (.c (.bool true)) (.t 113)⟩,
      ⟨some 115, none, .mv (.t 114)⟩,
      ⟨some 116, (some (115, false)), .load (some 3) (.t 2)⟩,
      ⟨some 117, (some (115, false)), .load (some 2) (.t 9)⟩,
      ⟨some 118, (some (115, false)), .mv (.t 7)⟩,
      ⟨some 119, (some (115, false)), .call (.f 44) [true, true, false] [(.t 116), (.t 117), (.t 118)]⟩,
      ⟨some 120, none, .pick (.t 115) (.c (.bool true)) (.t 119)⟩] [2, 3, 5, 7, 120])
  (.cond (.t 120)
    (.seq (.reg [⟨some 4, none, .mv (.c (.bool false))⟩] [4])
    .ret)
    .skip))
  (.seq (.seq (.reg [⟨some 121, none, .mv (.t 7)⟩,
      ⟨some 122, none, .fieldAddr none 0 (.t 5)⟩,
      ⟨some 123, none, .load none (.t 122)⟩,
      ⟨some 124, none, .bin .eql (.t 121) (.t 123)⟩] [2, 3, 5, 7, 124])
  (.cond (.t 124)
    (.seq (.reg [⟨some 125, none, .call (.f 23) [] []⟩,
        ⟨some 4, none, .mv (.t 125)⟩] [4])
    .ret)
    .skip))
  (.seq (.dreg [⟨some 126, none, .load (some 3) (.t 2)⟩,
      ⟨some 127, none, .load (some 3) (.t 2)⟩,
      ⟨some 128, none, .fieldAddr none 3 (.t 3)⟩,
      ⟨some 129, none, .load none (.t 128)⟩,
      ⟨some 130, none, .call (.f 45) [true, true] [(.t 127), (.t 129)]⟩,
      ⟨some 131, none, .fieldAddr none 0 (.t 5)⟩,
      ⟨some 132, none, .load none (.t 131)⟩,
      ⟨some 133, none, .mv (.t 7)⟩,
      ⟨some 134, none, .bin .sub (.t 133) (.c (.int .i64 1))⟩,
      ⟨some 135, none, .call (.f 40) [false, false] [(.t 132), (.t 134)]⟩,
      ⟨some 136, none, .fieldAddr none 2 (.t 3)⟩,
      ⟨some 137, none, .load none (.t 136)⟩,
      ⟨some 138, none, .conv .i64 (.t 137)⟩,
      ⟨some 139, none, .call (.f 46) [false, false] [(.t 135), (.t 138)]⟩,
      ⟨some 140, none, .call (.f 44) [true, true, false] [(.t 126), (.t 130), (.t 139)]⟩,
      ⟨some 141, none, .mv (.t 140)⟩,
      ⟨some 142, (some (141, true)), .call (.f 23) [] []⟩,
      ⟨some 143, none, .pick (.t 141) (.t 142) (.c (.bool false))⟩,
      ⟨some 4, none, .mv (.t 143)⟩] [4] [[], [], [], [2], [1, 2, 3], [], [5], [], [7], [1, 2, 3, 4, 5, 6, 7, 8], [], [10], [10, 11], [1, 2, 3, 4, 5, 6, 7, 8, 9, 10, 11, 12], [0, 1, 2, 3, 4, 5, 6, 7, 8, 9, 10, 11, 12, 13], [0, 1, 2, 3, 4, 5, 6, 7, 8, 9, 10, 11, 12, 13, 14], [0, 1, 2, 3, 4, 5, 6, 7, 8, 9, 10, 11, 12, 13, 14, 15], [0, 1, 2, 3, 4, 5, 6, 7, 8, 9, 10, 11, 12, 13, 14, 15, 16], [0, 1, 2, 3, 4, 5, 6, 7, 8, 9, 10, 11, 12, 13, 14, 15, 16, 17]])
  .ret)))))))))))))))
abbrev R_l05_StandShown : List (Nat × Option (Option Nat)) := [(4, none)]
theorem K_l05_StandShown : chkF Try.prog Try.f9 144 C_l05_StandShown R_l05_StandShown = true := by kernel_rfl
theorem spec_l05_StandShown {args : List AVal} {σ : AHeap} {R : ARes → AHeap → Prop} (ha : args.length ≤ 144) (h : AW Try.prog 144 none C_l05_StandShown (bodyQ R_l05_StandShown R) { v := argEnv args 0, ds := [] } σ) : Spec Try.prog F_l05_StandShown args σ R := Spec.of_fn Try.func9 K_l05_StandShown ha h
theorem B_l05_StandShown : hasBody Try.prog F_l05_StandShown = true := by kernel_rfl
theorem E_l05_StandShown : EntOk Try.prog ⟨9, 144, C_l05_StandShown, R_l05_StandShown, false⟩ := ⟨fun _ => ⟨B_l05_StandShown, _, Try.func9, K_l05_StandShown⟩, fun h => by cases h⟩

abbrev F_l05_StandBears : FuncId := 10
/-- orlop/orloplaw05.StandBears: parameters ['api.StHull', 'orloplaw05.Wet', '[]api.StForce'], results ['bool'] -/
def C_l05_StandBears : AC :=
  (.seq (.reg [⟨some 3, none, .pbox 3 (.t 0)⟩,
      ⟨some 4, none, .pbox 4 (.t 1)⟩,
      ⟨some 6, none, .mv (.c (.bool false))⟩] [2, 3, 4])
  (.seq (.seq (.reg [⟨some 20, none, .load (some 3) (.t 3)⟩,
      ⟨some 21, none, .call (.f 43) [true] [(.t 20)]⟩,
      ⟨some 22, none, .un .not (.t 21)⟩] [2, 3, 4, 22])
  (.cond (.t 22)
    (.seq (.reg [⟨some 24, none, .load (some 3) (.t 3)⟩,
        ⟨some 25, none, .build [.slice 1 [], .slice 1 []] []⟩,
        ⟨some 26, none, .mv (.t 2)⟩,
        ⟨some 27, none, .call (.f 34) [true, true, false, true] [(.t 24), (.t 25), (.c (.int .i64 0)), (.t 26)]⟩,
        ⟨some 23, none, .mv (.t 27)⟩,
        ⟨some 28, none, .extract (.t 23) 0⟩,
        ⟨some 29, none, .extract (.t 23) 1⟩,
        ⟨some 7, none, .mv (.t 28)⟩,
        ⟨some 8, none, .mv (.t 29)⟩] [8])
    (.seq (.reg [⟨some 30, none, .mv (.t 8)⟩,
        ⟨some 31, none, .bin .neq (.t 30) (.c (.int .i64 0))⟩,
        ⟨some 32, none, .mv (.t 31)⟩,
        ⟨some 33, (some (32, true)), .call (.f 23) [] []⟩,
        ⟨some 34, none, .pick (.t 32) (.t 33) (.c (.bool false))⟩,
        ⟨some 6, none, .mv (.t 34)⟩] [6])
    .ret))
    .skip))
  (.seq (.dreg [⟨some 35, none, .load (some 3) (.t 3)⟩,
      ⟨some 36, none, .fieldAddr none 3 (.t 4)⟩,
      ⟨some 37, none, .load none (.t 36)⟩,
      ⟨some 38, none, .call (.f 45) [true, true] [(.t 35), (.t 37)]⟩,
      ⟨some 39, none, .fieldAddr none 2 (.t 4)⟩,
      ⟨some 40, none, .load none (.t 39)⟩,
      ⟨some 41, none, .conv .i64 (.t 40)⟩,
      ⟨some 42, none, .bin .rem (.t 41) (.c (.int .i64 1001))⟩,
      ⟨some 9, none, .alloc [.slice 1 [], .slice 1 []]⟩,
      ⟨none, none, .store 2 (.t 9) (.t 38)⟩,
      ⟨some 10, none, .mv (.t 42)⟩] [2, 3, 9, 10] [[], [], [1], [0, 1, 2], [], [4], [4, 5], [4, 5, 6], [], [0, 1, 2, 3, 8], [0, 1, 2, 3, 4, 5, 6, 7, 8, 9]])
  (.seq (.reg [⟨some 44, none, .load (some 3) (.t 3)⟩,
      ⟨some 45, none, .load (some 2) (.t 9)⟩,
      ⟨some 46, none, .mv (.t 10)⟩,
      ⟨some 47, none, .call (.f 19) [true, true, false] [(.t 44), (.t 45), (.t 46)]⟩,
      ⟨some 43, none, .mv (.t 47)⟩,
      ⟨some 48, none, .extract (.t 43) 0⟩,
      ⟨some 49, none, .extract (.t 43) 1⟩,
      ⟨some 11, none, .alloc [.int .i64 0, .int .i64 0, .int .i64 0]⟩,
      ⟨none, none, .store 3 (.t 11) (.t 48)⟩,
      ⟨some 12, none, .mv (.t 49)⟩] [2, 3, 9, 10, 11, 12])
  (.frz 11 true (.seq (.reg [⟨some 51, none, .load (some 3) (.t 3)⟩,
      ⟨some 52, none, .load (some 2) (.t 9)⟩,
      ⟨some 53, none, .mv (.t 10)⟩,
      ⟨some 54, none, .call (.f 31) [true, true, false] [(.t 51), (.t 52), (.t 53)]⟩,
      ⟨some 50, none, .mv (.t 54)⟩,
      ⟨some 55, none, .extract (.t 50) 0⟩,
      ⟨some 56, none, .extract (.t 50) 1⟩,
      ⟨some 13, none, .mv (.t 55)⟩,
      ⟨some 14, none, .mv (.t 56)⟩] [2, 3, 9, 10, 11, 12, 13, 14])
  (.seq (.reg [⟨some 58, none, .load (some 3) (.t 3)⟩,
      ⟨some 59, none, .load (some 2) (.t 9)⟩,
      ⟨some 60, none, .mv (.t 10)⟩,
      ⟨some 61, none, .mv (.t 2)⟩,
      ⟨some 62, none, .call (.f 34) [true, true, false, true] [(.t 58), (.t 59), (.t 60), (.t 61)]⟩,
      ⟨some 57, none, .mv (.t 62)⟩,
      ⟨some 63, none, .extract (.t 57) 0⟩,
      ⟨some 64, none, .extract (.t 57) 1⟩,
      ⟨some 15, none, .mv (.t 63)⟩,
      ⟨some 16, none, .mv (.t 64)⟩] [2, 3, 9, 10, 11, 12, 13, 14, 15, 16])
  (.seq (.seq (.reg [⟨some 65, none, .mv (.t 12)⟩,
      ⟨some 66, none, .bin .neq (.t 65) (.c (.int .i64 0))⟩,
      ⟨some 67, none, .mv (.t 66)⟩,
      ⟨some 68, (some (67, false)), .mv (.t 2)⟩,
      ⟨some 69, (some (67, false)), .len (.t 68)⟩,
      ⟨some 70, (some (67, false)), .bin .gtr (.t 69) (.c (.int .i64 10))⟩,
      ⟨some 71, (some (67, false)), .mv (.t 70)⟩,
      ⟨some 72, (some (71, true)), .mv (.t 16)⟩,
      ⟨some 73, (some (71, true)), .bin .neq (.t 72) (.c (.int .i64 3))⟩,
      ⟨some 74, (some (67, false)), .pick (.t 71) (.t 73) (.c (.bool false))⟩,
      ⟨some 75, none, .pick (.t 67) (.c (.bool true)) (.t 74)⟩,
      ⟨some 76, none, .mv (.t 75)⟩,
      ⟨some 77, (some (76, false)), .mv (.t 2)⟩,
      ⟨some 78, (some (76, false)), .len (.t 77)⟩,
      ⟨some 79, (some (76, false)), .bin .leq (.t 78) (.c (.int .i64 10))⟩,
      ⟨some 80, (some (76, false)), .mv (.t 79)⟩,
      ⟨some 81, (some (80, true)), .mv (.t 16)⟩,
      ⟨some 82, (some (80, true)), .bin .neq (.t 81) (.c (.int .i64 0))⟩,
      ⟨some 83, (some (76, false)), .pick (.t 80) (.t 82) (.c (.bool false))⟩,
      ⟨some 84, none, .pick (.t 76) (.c (.bool true)) (.t 83)⟩] [3, 9, 10, 11, 13, 14, 15, 84])
  (.cond (.t 84)
    (.seq (.reg [⟨some 6, none, .mv (.c (.bool false))⟩] [6])
    .ret)
    .skip))
  (.seq (.reg [⟨some 85, none, .fieldAddr none 0 (.t 11)⟩,
      ⟨some 86, none, .load none (.t 85)⟩,
      ⟨some 87, none, .bin .gtr (.t 86) (.c (.int .i64 0))⟩,
      ⟨some 88, none, .mv (.t 87)⟩,
      ⟨some 89, (some (88, true)), .fieldAddr none 1 (.t 11)⟩,
      ⟨some 90, (some (88, true)), .load none (.t 89)⟩,
      ⟨some 91, (some (88, true)), .bin .geq (.t 90) (.c (.int .i64 0))⟩,
      ⟨some 92, none, .pick (.t 88) (.t 91) (.c (.bool false))⟩,
      ⟨some 93, none, .mv (.t 92)⟩,
      ⟨some 94, (some (93, true)), .fieldAddr none 2 (.t 11)⟩,
      ⟨some 95, (some (93, true)), .load none (.t 94)⟩,
      ⟨some 96, (some (93, true)), .bin .geq (.t 95) (.c (.int .i64 0))⟩,
      ⟨some 97, none, .pick (.t 93) (.t 96) (.c (.bool false))⟩,
      ⟨some 17, none, .mv (.t 97)⟩] [3, 9, 10, 13, 14, 15, 17])
  (.seq (.seq (.reg [⟨some 98, none, .mv (.t 17)⟩,
      ⟨some 99, none, .un .not (.t 98)⟩] [3, 9, 10, 13, 14, 15, 99])
  (.cond (.t 99)
    (.seq (.reg [⟨some 100, none, .mv (.t 14)⟩,
        ⟨some 101, none, .bin .eql (.t 100) (.c (.int .i64 9))⟩,
        ⟨some 102, none, .mv (.t 101)⟩,
        ⟨some 103, (some (102, true)), .mv (.t 15)⟩,
        ⟨some 104, (some (102, true)), .un .not (.t 103)⟩,
        ⟨some 105, none, .pick (.t 102) (.t 104) (.c (.bool false))⟩,
        ⟨some 106, none, .mv (.t 105)⟩,
        ⟨some 107, (some (106, true)), .mv (.t 13)⟩,
        ⟨some 108, (some (106, true)), .len (.t 107)⟩,
        ⟨some 109, (some (106, true)), .bin .eql (.t 108) (.c (.int .i64 0))⟩,
        ⟨some 110, none, .pick (.t 106) (.t 109) (.c (.bool false))⟩,
        ⟨some 111, none, .mv (.t 110)⟩,
        ⟨some 112, (some (111, true)), .call (.f 23) [] []⟩,
        ⟨some 113, none, .pick (.t 111) (.t 112) (.c (.bool false))⟩,
        ⟨some 6, none, .mv (.t 113)⟩] [6])
    .ret)
    .skip))
  (.seq (.reg [⟨some 115, none, .load (some 3) (.t 3)⟩,
      ⟨some 116, none, .load (some 2) (.t 9)⟩,
      ⟨some 117, none, .mv (.t 10)⟩,
      ⟨some 118, none, .mv (.t 13)⟩,
      ⟨some 119, none, .call (.f 34) [true, true, false, true] [(.t 115), (.t 116), (.t 117), (.t 118)]⟩,
      ⟨some 114, none, .mv (.t 119)⟩,
      ⟨some 120, none, .extract (.t 114) 0⟩,
      ⟨some 121, none, .extract (.t 114) 1⟩,
      ⟨some 18, none, .mv (.t 120)⟩,
      ⟨some 19, none, .mv (.t 121)⟩] [14, 18, 19])
  (.seq (.reg [⟨some 122, none, .mv (.t 14)⟩,
      ⟨some 123, none, .bin .eql (.t 122) (.c (.int .i64 0))⟩,
      ⟨some 124, none, .mv (.t 123)⟩,
      ⟨some 125, (some (124, true)), .mv (.t 19)⟩,
      ⟨some 126, (some (124, true)), .bin .eql (.t 125) (.c (.int .i64 0))⟩,
      ⟨some 127, none, .pick (.t 124) (.t 126) (.c (.bool false))⟩,
      ⟨some 128, none, .mv (.t 127)⟩,
      ⟨some 129, (some (128, true)), .mv (.t 18)⟩,
      ⟨some 130, none, .pick (.t 128) (.t 129) (.c (.bool false))⟩,
      ⟨some 131, none, .mv (.t 130)⟩,
      ⟨some 132, (some (131, true)), .call (.f 23) [] []⟩,
      ⟨some 133, none, .pick (.t 131) (.t 132) (.c (.bool false))⟩,
      ⟨some 6, none, .mv (.t 133)⟩] [6])
  .ret))))))))))))
abbrev R_l05_StandBears : List (Nat × Option (Option Nat)) := [(6, none)]
theorem K_l05_StandBears : chkF Try.prog Try.f10 134 C_l05_StandBears R_l05_StandBears = true := by kernel_rfl
theorem spec_l05_StandBears {args : List AVal} {σ : AHeap} {R : ARes → AHeap → Prop} (ha : args.length ≤ 134) (h : AW Try.prog 134 none C_l05_StandBears (bodyQ R_l05_StandBears R) { v := argEnv args 0, ds := [] } σ) : Spec Try.prog F_l05_StandBears args σ R := Spec.of_fn Try.func10 K_l05_StandBears ha h
theorem B_l05_StandBears : hasBody Try.prog F_l05_StandBears = true := by kernel_rfl
theorem E_l05_StandBears : EntOk Try.prog ⟨10, 134, C_l05_StandBears, R_l05_StandBears, false⟩ := ⟨fun _ => ⟨B_l05_StandBears, _, Try.func10, K_l05_StandBears⟩, fun h => by cases h⟩

abbrev F_l05_StandLeast : FuncId := 11
/-- orlop/orloplaw05.StandLeast: parameters ['api.StHull', 'orloplaw05.Wet'], results ['bool'] -/
def C_l05_StandLeast : AC :=
  (.seq (.reg [⟨some 2, none, .pbox 3 (.t 0)⟩,
      ⟨some 3, none, .pbox 4 (.t 1)⟩,
      ⟨some 4, none, .mv (.c (.bool false))⟩] [2, 3])
  (.seq (.reg [⟨some 18, none, .fieldAddr none 2 (.t 3)⟩,
      ⟨some 19, none, .load none (.t 18)⟩,
      ⟨some 20, none, .conv .i64 (.t 19)⟩,
      ⟨some 21, none, .bin .rem (.t 20) (.c (.int .i64 1001))⟩,
      ⟨some 5, none, .mv (.t 21)⟩] [2, 3, 5])
  (.seq (.reg [⟨some 23, none, .load (some 3) (.t 2)⟩,
      ⟨some 24, none, .mv (.t 5)⟩,
      ⟨some 25, none, .call (.f 21) [true, false] [(.t 23), (.t 24)]⟩,
      ⟨some 22, none, .mv (.t 25)⟩,
      ⟨some 26, none, .extract (.t 22) 0⟩,
      ⟨some 27, none, .extract (.t 22) 1⟩,
      ⟨some 6, none, .alloc [.int .i64 0, .int .i64 0, .int .i64 0]⟩,
      ⟨none, none, .store 3 (.t 6) (.t 26)⟩,
      ⟨some 7, none, .mv (.t 27)⟩] [2, 3, 5, 6, 7])
  (.frz 6 true (.seq (.seq (.reg [⟨some 28, none, .load (some 3) (.t 2)⟩,
      ⟨some 29, none, .call (.f 43) [true] [(.t 28)]⟩,
      ⟨some 30, none, .un .not (.t 29)⟩] [2, 3, 5, 6, 7, 30])
  (.cond (.t 30)
    (.seq (.reg [⟨some 31, none, .mv (.t 7)⟩,
        ⟨some 32, none, .bin .neq (.t 31) (.c (.int .i64 0))⟩,
        ⟨some 33, none, .mv (.t 32)⟩,
        ⟨some 34, (some (33, true)), .load (some 3) (.t 6)⟩,
        ⟨some 35, (some (33, true)), .build [.int .i64 0, .int .i64 0, .int .i64 0] []⟩,
        ⟨some 36, (some (33, true)), .eqa false [.i, .i, .i] (.t 34) (.t 35)⟩,
        ⟨some 37, none, .pick (.t 33) (.t 36) (.c (.bool false))⟩,
        ⟨some 38, none, .mv (.t 37)⟩,
        ⟨some 39, (some (38, true)), .call (.f 23) [] []⟩,
        ⟨some 40, none, .pick (.t 38) (.t 39) (.c (.bool false))⟩,
        ⟨some 4, none, .mv (.t 40)⟩] [4])
    .ret)
    .skip))
  (.seq (.dreg [⟨some 42, none, .load (some 3) (.t 2)⟩,
      ⟨some 43, none, .load (some 3) (.t 2)⟩,
      ⟨some 44, none, .fieldAddr none 3 (.t 3)⟩,
      ⟨some 45, none, .load none (.t 44)⟩,
      ⟨some 46, none, .call (.f 45) [true, true] [(.t 43), (.t 45)]⟩,
      ⟨some 47, none, .mv (.t 5)⟩,
      ⟨some 48, none, .call (.f 19) [true, true, false] [(.t 42), (.t 46), (.t 47)]⟩,
      ⟨some 41, none, .mv (.t 48)⟩,
      ⟨some 49, none, .extract (.t 41) 0⟩,
      ⟨some 50, none, .extract (.t 41) 1⟩,
      ⟨some 8, none, .alloc [.int .i64 0, .int .i64 0, .int .i64 0]⟩,
      ⟨none, none, .store 3 (.t 8) (.t 49)⟩,
      ⟨some 9, none, .mv (.t 50)⟩] [2, 5, 6, 7, 8, 9] [[], [], [], [2], [1, 2, 3], [], [0, 1, 2, 3, 4, 5], [0, 1, 2, 3, 4, 5, 6], [0, 1, 2, 3, 4, 5, 6, 7], [0, 1, 2, 3, 4, 5, 6, 7], [], [0, 1, 2, 3, 4, 5, 6, 7, 8, 10], [0, 1, 2, 3, 4, 5, 6, 7, 8, 9, 10, 11]])
  (.seq (.seq (.reg [⟨some 51, none, .mv (.t 7)⟩,
      ⟨some 52, none, .bin .neq (.t 51) (.c (.int .i64 0))⟩,
      ⟨some 53, none, .mv (.t 52)⟩,
      ⟨some 54, (some (53, false)), .mv (.t 9)⟩,
      ⟨some 55, (some (53, false)), .bin .neq (.t 54) (.c (.int .i64 0))⟩,
      ⟨some 56, none, .pick (.t 53) (.c (.bool true)) (.t 55)⟩,
      ⟨some 57, none, .mv (.t 56)⟩,
      ⟨some 58, (some (57, false)), .fieldAddr none 0 (.t 8)⟩,
      ⟨some 59, (some (57, false)), .load none (.t 58)⟩,
      ⟨some 60, (some (57, false)), .fieldAddr none 0 (.t 6)⟩,
      ⟨some 61, (some (57, false)), .load none (.t 60)⟩,
      ⟨some 62, (some (57, false)), .bin .lss (.t 59) (.t 61)⟩,
      ⟨some 63, none, .pick (.t 57) (.c (.bool true)) (.t 62)⟩,
      ⟨some 64, none, .mv (.t 63)⟩,
      ⟨some 65, (some (64, false)), .fieldAddr none 1 (.t 8)⟩,
      ⟨some 66, (some (64, false)), .load none (.t 65)⟩,
      ⟨some 67, (some (64, false)), .fieldAddr none 1 (.t 6)⟩,
      ⟨some 68, (some (64, false)), .load none (.t 67)⟩,
      ⟨some 69, (some (64, false)), .bin .lss (.t 66) (.t 68)⟩,
      ⟨some 70, none, .pick (.t 64) (.c (.bool true)) (.t 69)⟩,
      ⟨some 71, none, .mv (.t 70)⟩,
      ⟨some 72, (some (71, false)), .fieldAddr none 2 (.t 8)⟩,
      ⟨some 73, (some (71, false)), .load none (.t 72)⟩,
      ⟨some 74, (some (71, false)), .fieldAddr none 2 (.t 6)⟩,
      ⟨some 75, (some (71, false)), .load none (.t 74)⟩,
      ⟨some 76, (some (71, false)), .bin .lss (.t 73) (.t 75)⟩,
      ⟨some 77, none, .pick (.t 71) (.c (.bool true)) (.t 76)⟩] [2, 5, 6, 77])
  (.cond (.t 77)
    (.seq (.reg [⟨some 4, none, .mv (.c (.bool false))⟩] [4])
    .ret)
    .skip))
  (.seq (.seq (.reg [⟨some 10, none, .mv (.c (.int .i64 0))⟩] [2, 5, 6, 10])
  (.block 0
    (.loop [2, 5, 6, 10]
      (.seq (.seq (.reg [⟨some 78, none, .mv (.t 10)⟩,
          ⟨some 79, none, .bin .lss (.t 78) (.c (.int .i64 3))⟩] [2, 5, 6, 10, 79])
      (.cond (.t 79)
        .skip
        (.exit 0)))
      (.seq (.block 1
        (.seq (.reg [⟨some 11, none, .mv (.c (.int .i64 0))⟩] [2, 5, 6, 10, 11])
        (.seq (.seq (.reg [⟨some 12, none, .mv (.c (.int .i64 0))⟩] [2, 5, 6, 10, 11, 12])
        (.block 2
          (.loop [2, 5, 6, 10, 11, 12]
            (.seq (.seq (.reg [⟨some 82, none, .mv (.t 12)⟩,
                ⟨some 83, none, .fieldAddr none 0 (.t 2)⟩,
                ⟨some 84, none, .load none (.t 83)⟩,
                ⟨some 85, none, .len (.t 84)⟩,
                ⟨some 86, none, .bin .lss (.t 82) (.t 85)⟩] [2, 5, 6, 10, 11, 12, 86])
            (.cond (.t 86)
              .skip
              (.exit 2)))
            (.seq (.block 3
              (.seq (.reg [⟨some 89, none, .fieldAddr none 0 (.t 2)⟩,
                  ⟨some 90, none, .load none (.t 89)⟩,
                  ⟨some 91, none, .mv (.t 12)⟩,
                  ⟨some 92, none, .ixS 7 (.t 90) (.t 91)⟩,
                  ⟨some 93, none, .load (some 7) (.t 92)⟩,
                  ⟨some 13, none, .alloc [.str ByteArray.empty, .int .i64 0, .int .i64 0, .int .i64 0, .int .i64 0, .int .i64 0, .int .i64 0]⟩,
                  ⟨none, none, .store 7 (.t 13) (.t 93)⟩] [2, 5, 6, 10, 11, 12, 13])
              (.frz 13 true (.seq (.reg [⟨some 14, none, .mv (.c (.int .i64 0))⟩] [2, 5, 6, 10, 11, 12, 13, 14])
              (.seq (.seq (.reg [⟨some 15, none, .mv (.c (.int .i64 0))⟩] [2, 5, 6, 10, 11, 12, 13, 14, 15])
              (.block 4
                (.loop [2, 5, 6, 10, 11, 12, 13, 14, 15]
                  (.seq (.seq (.reg [⟨some 94, none, .mv (.t 15)⟩,
                      ⟨some 95, none, .bin .lss (.t 94) (.c (.int .i64 4))⟩] [2, 5, 6, 10, 11, 12, 13, 14, 15, 95])
                  (.cond (.t 95)
                    .skip
                    (.exit 4)))
                  (.seq (.block 5
                    (.seq (.dreg [⟨some 98, none, .fieldAddr (some 2) 2 (.t 13)⟩,
                        ⟨some 99, none, .fieldAddr none 0 (.t 98)⟩,
                        ⟨some 100, none, .load none (.t 99)⟩,
                        ⟨some 101, none, .fieldAddr (some 2) 2 (.t 13)⟩,
                        ⟨some 102, none, .fieldAddr none 1 (.t 101)⟩,
                        ⟨some 103, none, .load none (.t 102)⟩,
                        ⟨some 104, none, .lit 0 1 2 [(0, (.t 100)), (1, (.t 103))]⟩,
                        ⟨some 105, none, .mv (.t 15)⟩,
                        ⟨some 106, none, .bin .rem (.t 105) (.c (.int .i64 2))⟩,
                        ⟨some 107, none, .ixS 1 (.t 104) (.t 106)⟩,
                        ⟨some 108, none, .load none (.t 107)⟩,
                        ⟨some 109, none, .fieldAddr (some 2) 5 (.t 13)⟩,
                        ⟨some 110, none, .fieldAddr none 0 (.t 109)⟩,
                        ⟨some 111, none, .load none (.t 110)⟩,
                        ⟨some 112, none, .fieldAddr (some 2) 5 (.t 13)⟩,
                        ⟨some 113, none, .fieldAddr none 1 (.t 112)⟩,
                        ⟨some 114, none, .load none (.t 113)⟩,
                        ⟨some 115, none, .lit 0 1 2 [(0, (.t 111)), (1, (.t 114))]⟩,
                        ⟨some 116, none, .mv (.t 15)⟩,
                        ⟨some 117, none, .bin .quo (.t 116) (.c (.int .i64 2))⟩,
                        ⟨some 118, none, .ixS 1 (.t 115) (.t 117)⟩,
                        ⟨some 119, none, .load none (.t 118)⟩,
                        ⟨some 120, none, .mv (.t 5)⟩,
                        ⟨some 121, none, .fieldAddr none 4 (.t 13)⟩,
                        ⟨some 122, none, .load none (.t 121)⟩,
                        ⟨some 123, none, .bin .sub (.t 120) (.t 122)⟩,
                        ⟨some 124, none, .mx [(.c (.int .i64 0)), (.t 123)]⟩,
                        ⟨some 125, none, .bin .mul (.t 119) (.t 124)⟩,
                        ⟨some 126, none, .bin .sub (.t 108) (.t 125)⟩,
                        ⟨some 16, none, .mv (.t 126)⟩] [2, 5, 6, 10, 11, 12, 13, 14, 15, 16] [[], [0], [0, 1], [], [3], [3, 4], [0, 1, 2, 3, 4, 5], [], [7], [0, 1, 2, 3, 4, 5, 6, 7, 8], [0, 1, 2, 3, 4, 5, 6, 7, 8, 9], [], [11], [11, 12], [], [14], [14, 15], [11, 12, 13, 14, 15, 16], [], [18], [11, 12, 13, 14, 15, 16, 17, 18, 19], [11, 12, 13, 14, 15, 16, 17, 18, 19, 20], [], [], [23], [22, 23, 24], [22, 23, 24, 25], [11, 12, 13, 14, 15, 16, 17, 18, 19, 20, 21, 22, 23, 24, 25, 26], [0, 1, 2, 3, 4, 5, 6, 7, 8, 9, 10, 11, 12, 13, 14, 15, 16, 17, 18, 19, 20, 21, 22, 23, 24, 25, 26, 27], [0, 1, 2, 3, 4, 5, 6, 7, 8, 9, 10, 11, 12, 13, 14, 15, 16, 17, 18, 19, 20, 21, 22, 23, 24, 25, 26, 27, 28]])
                    (.seq (.reg [⟨some 127, none, .mv (.t 16)⟩,
                        ⟨some 128, none, .fieldAddr none 1 (.t 13)⟩,
                        ⟨some 129, none, .load none (.t 128)⟩,
                        ⟨some 130, none, .fieldAddr none 1 (.t 2)⟩,
                        ⟨some 131, none, .load none (.t 130)⟩,
                        ⟨some 132, none, .bin .sub (.t 129) (.t 131)⟩,
                        ⟨some 133, none, .fieldAddr none 2 (.t 2)⟩,
                        ⟨some 134, none, .load none (.t 133)⟩,
                        ⟨some 135, none, .fieldAddr none 1 (.t 13)⟩,
                        ⟨some 136, none, .load none (.t 135)⟩,
                        ⟨some 137, none, .bin .sub (.t 134) (.t 136)⟩,
                        ⟨some 138, none, .lit 0 1 3 [(0, (.c (.int .i64 1))), (1, (.t 132)), (2, (.t 137))]⟩,
                        ⟨some 139, none, .mv (.t 10)⟩,
                        ⟨some 140, none, .ixS 1 (.t 138) (.t 139)⟩,
                        ⟨some 141, none, .load none (.t 140)⟩,
                        ⟨some 142, none, .bin .mul (.t 127) (.t 141)⟩,
                        ⟨some 17, none, .mv (.t 142)⟩] [2, 5, 6, 10, 11, 12, 13, 14, 15, 17])
                    (.seq (.reg [⟨some 143, none, .mv (.t 15)⟩,
                        ⟨some 144, none, .bin .eql (.t 143) (.c (.int .i64 0))⟩,
                        ⟨some 145, none, .mv (.t 144)⟩,
                        ⟨some 146, (some (145, false)), .mv (.t 17)⟩,
                        ⟨some 147, (some (145, false)), .mv (.t 14)⟩,
                        ⟨some 148, (some (145, false)), .bin .lss (.t 146) (.t 147)⟩,
                        ⟨some 149, none, .pick (.t 145) (.c (.bool true)) (.t 148)⟩] [2, 5, 6, 10, 11, 12, 13, 14, 15, 17, 149])
                    (.cond (.t 149)
                      (.reg [⟨some 150, none, .mv (.t 17)⟩,
                          ⟨some 14, none, .mv (.t 150)⟩] [2, 5, 6, 10, 11, 12, 13, 14, 15])
                      .skip)))))
                  (.reg [⟨some 96, none, .mv (.t 15)⟩,
                      ⟨some 97, none, .bin .add (.t 96) (.c (.int .i64 1))⟩,
                      ⟨some 15, none, .mv (.t 97)⟩] [2, 5, 6, 10, 11, 12, 13, 14, 15]))))))
              (.reg [⟨some 151, none, .mv (.t 11)⟩,
                  ⟨some 152, none, .mv (.t 14)⟩,
                  ⟨some 153, none, .bin .add (.t 151) (.t 152)⟩,
                  ⟨some 11, none, .mv (.t 153)⟩] [2, 5, 6, 10, 11, 12]))))))
            (.reg [⟨some 87, none, .mv (.t 12)⟩,
                ⟨some 88, none, .bin .add (.t 87) (.c (.int .i64 1))⟩,
                ⟨some 12, none, .mv (.t 88)⟩] [2, 5, 6, 10, 11, 12]))))))
        (.seq (.reg [⟨some 154, none, .mv (.t 11)⟩,
            ⟨some 155, none, .fieldAddr none 0 (.t 6)⟩,
            ⟨some 156, none, .load none (.t 155)⟩,
            ⟨some 157, none, .fieldAddr none 1 (.t 6)⟩,
            ⟨some 158, none, .load none (.t 157)⟩,
            ⟨some 159, none, .fieldAddr none 2 (.t 6)⟩,
            ⟨some 160, none, .load none (.t 159)⟩,
            ⟨some 161, none, .lit 0 1 3 [(0, (.t 156)), (1, (.t 158)), (2, (.t 160))]⟩,
            ⟨some 162, none, .mv (.t 10)⟩,
            ⟨some 163, none, .ixS 1 (.t 161) (.t 162)⟩,
            ⟨some 164, none, .load none (.t 163)⟩,
            ⟨some 165, none, .bin .neq (.t 154) (.t 164)⟩] [2, 5, 6, 10, 165])
        (.cond (.t 165)
          (.seq (.reg [⟨some 4, none, .mv (.c (.bool false))⟩] [4])
          .ret)
          .skip)))))
      (.reg [⟨some 80, none, .mv (.t 10)⟩,
          ⟨some 81, none, .bin .add (.t 80) (.c (.int .i64 1))⟩,
          ⟨some 10, none, .mv (.t 81)⟩] [2, 5, 6, 10]))))))
  (.seq (.reg [⟨some 166, none, .call (.f 23) [] []⟩,
      ⟨some 4, none, .mv (.t 166)⟩] [4])
  .ret)))))))))
abbrev R_l05_StandLeast : List (Nat × Option (Option Nat)) := [(4, none)]
theorem K_l05_StandLeast : chkF Try.prog Try.f11 167 C_l05_StandLeast R_l05_StandLeast = true := by kernel_rfl
theorem spec_l05_StandLeast {args : List AVal} {σ : AHeap} {R : ARes → AHeap → Prop} (ha : args.length ≤ 167) (h : AW Try.prog 167 none C_l05_StandLeast (bodyQ R_l05_StandLeast R) { v := argEnv args 0, ds := [] } σ) : Spec Try.prog F_l05_StandLeast args σ R := Spec.of_fn Try.func11 K_l05_StandLeast ha h
theorem B_l05_StandLeast : hasBody Try.prog F_l05_StandLeast = true := by kernel_rfl
theorem E_l05_StandLeast : EntOk Try.prog ⟨11, 167, C_l05_StandLeast, R_l05_StandLeast, false⟩ := ⟨fun _ => ⟨B_l05_StandLeast, _, Try.func11, K_l05_StandLeast⟩, fun h => by cases h⟩

abbrev F_l05_StandBallast : FuncId := 12
/-- orlop/orloplaw05.StandBallast: parameters ['api.StHull', 'orloplaw05.Wet', '[2]uint32'], results ['bool'] -/
def C_l05_StandBallast : AC :=
  (.seq (.reg [⟨some 3, none, .pbox 3 (.t 0)⟩,
      ⟨some 4, none, .pbox 4 (.t 1)⟩,
      ⟨some 5, none, .pbox 2 (.t 2)⟩,
      ⟨some 6, none, .mv (.c (.bool false))⟩] [3, 4, 5])
  (.seq (.reg [⟨some 24, none, .fieldAddr (some 2) 0 (.t 4)⟩,
      ⟨some 25, none, .load (some 2) (.t 24)⟩,
      ⟨some 26, none, .call (.f 42) [false] [(.t 25)]⟩,
      ⟨some 7, none, .alloc [.int .i64 0, .int .i64 0]⟩,
      ⟨none, none, .store 2 (.t 7) (.t 26)⟩] [3, 5, 7])
  (.frz 7 true (.seq (.seq (.reg [⟨some 27, none, .load (some 3) (.t 3)⟩,
      ⟨some 28, none, .call (.f 43) [true] [(.t 27)]⟩,
      ⟨some 29, none, .un .not (.t 28)⟩] [3, 5, 7, 29])
  (.cond (.t 29)
    (.seq (.reg [⟨some 31, none, .load (some 3) (.t 3)⟩,
        ⟨some 32, none, .load (some 2) (.t 7)⟩,
        ⟨some 33, none, .call (.f 36) [true, false, false] [(.t 31), (.c (.int .i64 0)), (.t 32)]⟩,
        ⟨some 30, none, .mv (.t 33)⟩,
        ⟨some 34, none, .extract (.t 30) 0⟩,
        ⟨some 35, none, .extract (.t 30) 1⟩,
        ⟨some 8, none, .mv (.t 34)⟩,
        ⟨some 9, none, .mv (.t 35)⟩] [9])
    (.seq (.reg [⟨some 36, none, .mv (.t 9)⟩,
        ⟨some 37, none, .bin .neq (.t 36) (.c (.int .i64 0))⟩,
        ⟨some 38, none, .mv (.t 37)⟩,
        ⟨some 39, (some (38, true)), .call (.f 23) [] []⟩,
        ⟨some 40, none, .pick (.t 38) (.t 39) (.c (.bool false))⟩,
        ⟨some 6, none, .mv (.t 40)⟩] [6])
    .ret))
    .skip))
  (.seq (.reg [⟨some 41, none, .ixA 2 1 none (.t 5) (.c (.int .i64 0))⟩,
      ⟨some 42, none, .load none (.t 41)⟩,
      ⟨some 43, none, .conv .i64 (.t 42)⟩,
      ⟨some 44, none, .fieldAddr none 0 (.t 3)⟩,
      ⟨some 45, none, .load none (.t 44)⟩,
      ⟨some 46, none, .len (.t 45)⟩,
      ⟨some 47, none, .bin .rem (.t 43) (.t 46)⟩,
      ⟨some 10, none, .mv (.t 47)⟩] [3, 5, 7, 10])
  (.seq (.reg [⟨some 49, none, .load (some 3) (.t 3)⟩,
      ⟨some 50, none, .mv (.t 10)⟩,
      ⟨some 51, none, .load (some 2) (.t 7)⟩,
      ⟨some 52, none, .call (.f 36) [true, false, false] [(.t 49), (.t 50), (.t 51)]⟩,
      ⟨some 48, none, .mv (.t 52)⟩,
      ⟨some 53, none, .extract (.t 48) 0⟩,
      ⟨some 54, none, .extract (.t 48) 1⟩,
      ⟨some 11, none, .mv (.t 53)⟩,
      ⟨some 12, none, .mv (.t 54)⟩] [3, 5, 7, 10, 11, 12])
  (.seq (.seq (.dreg [⟨some 55, none, .fieldAddr none 0 (.t 3)⟩,
      ⟨some 56, none, .load none (.t 55)⟩,
      ⟨some 57, none, .mv (.t 10)⟩,
      ⟨some 58, none, .ixS 7 (.t 56) (.t 57)⟩,
      ⟨some 59, none, .fieldAddr none 1 (.t 58)⟩,
      ⟨some 60, none, .load none (.t 59)⟩,
      ⟨some 61, none, .fieldAddr none 1 (.t 3)⟩,
      ⟨some 62, none, .load none (.t 61)⟩,
      ⟨some 63, none, .bin .lss (.t 60) (.t 62)⟩,
      ⟨some 64, none, .mv (.t 63)⟩,
      ⟨some 65, (some (64, false)), .fieldAddr none 0 (.t 3)⟩,
      ⟨some 66, (some (64, false)), .load none (.t 65)⟩,
      ⟨some 67, (some (64, false)), .mv (.t 10)⟩,
      ⟨some 68, (some (64, false)), .ixS 7 (.t 66) (.t 67)⟩,
      ⟨some 69, (some (64, false)), .fieldAddr none 1 (.t 68)⟩,
      ⟨some 70, (some (64, false)), .load none (.t 69)⟩,
      ⟨some 71, (some (64, false)), .fieldAddr none 2 (.t 3)⟩,
      ⟨some 72, (some (64, false)), .load none (.t 71)⟩,
      ⟨some 73, (some (64, false)), .bin .gtr (.t 70) (.t 72)⟩,
      ⟨some 74, none, .pick (.t 64) (.c (.bool true)) (.t 73)⟩] [3, 5, 7, 10, 11, 12, 74] [[], [0], [], [0, 1, 2], [0, 1, 2, 3], [0, 1, 2, 3, 4], [], [6], [0, 1, 2, 3, 4, 5, 6, 7], [0, 1, 2, 3, 4, 5, 6, 7, 8], [0, 1, 2, 3, 4, 5, 6, 7, 8, 9], [0, 1, 2, 3, 4, 5, 6, 7, 8, 9, 10], [0, 1, 2, 3, 4, 5, 6, 7, 8, 9], [0, 1, 2, 3, 4, 5, 6, 7, 8, 9, 10, 11, 12], [0, 1, 2, 3, 4, 5, 6, 7, 8, 9, 10, 11, 12, 13], [0, 1, 2, 3, 4, 5, 6, 7, 8, 9, 10, 11, 12, 13, 14], [0, 1, 2, 3, 4, 5, 6, 7, 8, 9], [0, 1, 2, 3, 4, 5, 6, 7, 8, 9, 16], [0, 1, 2, 3, 4, 5, 6, 7, 8, 9, 10, 11, 12, 13, 14, 15, 16, 17], [0, 1, 2, 3, 4, 5, 6, 7, 8, 9, 10, 11, 12, 13, 14, 15, 16, 17, 18]])
  (.cond (.t 74)
    (.seq (.reg [⟨some 75, none, .mv (.t 12)⟩,
        ⟨some 76, none, .bin .eql (.t 75) (.c (.int .i64 2))⟩,
        ⟨some 77, none, .mv (.t 76)⟩,
        ⟨some 78, (some (77, true)), .call (.f 23) [] []⟩,
        ⟨some 79, none, .pick (.t 77) (.t 78) (.c (.bool false))⟩,
        ⟨some 6, none, .mv (.t 79)⟩] [6])
    .ret)
    .skip))
  (.seq (.seq (.reg [⟨some 80, none, .mv (.t 12)⟩,
      ⟨some 81, none, .bin .neq (.t 80) (.c (.int .i64 0))⟩] [3, 5, 7, 10, 11, 12, 81])
  (.cond (.t 81)
    (.seq (.reg [⟨some 83, none, .load (some 3) (.t 3)⟩,
        ⟨some 84, none, .load (some 2) (.t 7)⟩,
        ⟨some 85, none, .call (.f 25) [true, false] [(.t 83), (.t 84)]⟩,
        ⟨some 82, none, .mv (.t 85)⟩,
        ⟨some 86, none, .extract (.t 82) 0⟩,
        ⟨some 87, none, .extract (.t 82) 1⟩,
        ⟨some 88, none, .extract (.t 82) 2⟩,
        ⟨some 13, none, .mv (.t 86)⟩,
        ⟨some 14, none, .mv (.t 87)⟩,
        ⟨some 15, none, .mv (.t 88)⟩] [11, 12, 13, 15])
    (.seq (.reg [⟨some 89, none, .mv (.t 12)⟩,
        ⟨some 90, none, .bin .eql (.t 89) (.c (.int .i64 9))⟩,
        ⟨some 91, none, .mv (.t 90)⟩,
        ⟨some 92, (some (91, true)), .mv (.t 11)⟩,
        ⟨some 93, (some (91, true)), .bin .eql (.t 92) (.c (.int .i64 0))⟩,
        ⟨some 94, none, .pick (.t 91) (.t 93) (.c (.bool false))⟩,
        ⟨some 95, none, .mv (.t 94)⟩,
        ⟨some 96, (some (95, true)), .mv (.t 15)⟩,
        ⟨some 97, (some (95, true)), .bin .eql (.t 96) (.c (.int .i64 0))⟩,
        ⟨some 98, none, .pick (.t 95) (.t 97) (.c (.bool false))⟩,
        ⟨some 99, none, .mv (.t 98)⟩,
        ⟨some 100, (some (99, true)), .mv (.t 13)⟩,
        ⟨some 101, (some (99, true)), .bin .neq (.t 100) (.c (.int .i64 0))⟩,
        ⟨some 102, none, .pick (.t 99) (.t 101) (.c (.bool false))⟩,
        ⟨some 103, none, .mv (.t 102)⟩,
        ⟨some 104, (some (103, true)), .call (.f 23) [] []⟩,
        ⟨some 105, none, .pick (.t 103) (.t 104) (.c (.bool false))⟩,
        ⟨some 6, none, .mv (.t 105)⟩] [6])
    .ret))
    .skip))
  (.seq (.seq (.reg [⟨some 106, none, .mv (.t 11)⟩,
      ⟨some 107, none, .bin .lss (.t 106) (.c (.int .i64 0))⟩,
      ⟨some 108, none, .mv (.t 107)⟩,
      ⟨some 109, (some (108, false)), .mv (.t 11)⟩,
      ⟨some 110, (some (108, false)), .bin .gtr (.t 109) (.c (.int .i64 1000000))⟩,
      ⟨some 111, none, .pick (.t 108) (.c (.bool true)) (.t 110)⟩] [3, 5, 7, 10, 11, 111])
  (.cond (.t 111)
    (.seq (.reg [⟨some 6, none, .mv (.c (.bool false))⟩] [6])
    .ret)
    .skip))
  (.seq (.reg [⟨some 112, none, .load (some 3) (.t 3)⟩,
      ⟨some 113, none, .mv (.t 10)⟩,
      ⟨some 114, none, .mv (.t 11)⟩,
      ⟨some 115, none, .call (.f 48) [true, false, false] [(.t 112), (.t 113), (.t 114)]⟩,
      ⟨some 16, none, .alloc [.slice 7 [], .int .i64 0, .int .i64 0]⟩,
      ⟨none, none, .store 3 (.t 16) (.t 115)⟩] [3, 5, 7, 10, 11, 16])
  (.frz 16 true (.seq (.seq (.reg [⟨some 116, none, .load (some 3) (.t 16)⟩,
      ⟨some 117, none, .call (.f 43) [true] [(.t 116)]⟩] [3, 5, 7, 10, 11, 16, 117])
  (.cond (.t 117)
    (.seq (.reg [⟨some 119, none, .load (some 3) (.t 16)⟩,
        ⟨some 120, none, .load (some 2) (.t 7)⟩,
        ⟨some 121, none, .call (.f 24) [true, false] [(.t 119), (.t 120)]⟩,
        ⟨some 118, none, .mv (.t 121)⟩,
        ⟨some 122, none, .extract (.t 118) 0⟩,
        ⟨some 123, none, .extract (.t 118) 1⟩,
        ⟨some 124, none, .extract (.t 118) 2⟩,
        ⟨some 17, none, .mv (.t 122)⟩,
        ⟨some 18, none, .mv (.t 123)⟩,
        ⟨some 19, none, .mv (.t 124)⟩] [3, 5, 7, 10, 11, 17, 19])
    (.seq (.reg [⟨some 125, none, .mv (.t 19)⟩,
        ⟨some 126, none, .bin .neq (.t 125) (.c (.int .i64 0))⟩,
        ⟨some 127, none, .mv (.t 126)⟩,
        ⟨some 128, (some (127, false)), .mv (.t 17)⟩,
        ⟨some 129, (some (127, false)), .bin .neq (.t 128) (.c (.int .i64 0))⟩,
        ⟨some 130, none, .pick (.t 127) (.c (.bool true)) (.t 129)⟩] [3, 5, 7, 10, 11, 130])
    (.cond (.t 130)
      (.seq (.reg [⟨some 6, none, .mv (.c (.bool false))⟩] [6])
      .ret)
      .skip)))
    .skip))
  (.seq (.seq (.reg [⟨some 131, none, .mv (.t 11)⟩,
      ⟨some 132, none, .bin .eql (.t 131) (.c (.int .i64 0))⟩] [3, 5, 7, 10, 11, 132])
  (.cond (.t 132)
    (.seq (.reg [⟨some 133, none, .call (.f 23) [] []⟩,
        ⟨some 6, none, .mv (.t 133)⟩] [6])
    .ret)
    .skip))
  (.seq (.dreg [⟨some 134, none, .load (some 3) (.t 3)⟩,
      ⟨some 135, none, .mv (.t 10)⟩,
      ⟨some 136, none, .ixA 2 1 none (.t 5) (.c (.int .i64 1))⟩,
      ⟨some 137, none, .load none (.t 136)⟩,
      ⟨some 138, none, .conv .i64 (.t 137)⟩,
      ⟨some 139, none, .mv (.t 11)⟩,
      ⟨some 140, none, .bin .rem (.t 138) (.t 139)⟩,
      ⟨some 141, none, .call (.f 48) [true, false, false] [(.t 134), (.t 135), (.t 140)]⟩,
      ⟨some 20, none, .alloc [.slice 7 [], .int .i64 0, .int .i64 0]⟩,
      ⟨none, none, .store 3 (.t 20) (.t 141)⟩] [7, 20] [[], [], [], [2], [2, 3], [], [2, 3, 4, 5], [0, 1, 2, 3, 4, 5, 6], [], [0, 1, 2, 3, 4, 5, 6, 7, 8]])
  (.seq (.seq (.reg [⟨some 142, none, .load (some 3) (.t 20)⟩,
      ⟨some 143, none, .call (.f 43) [true] [(.t 142)]⟩,
      ⟨some 144, none, .un .not (.t 143)⟩] [7, 20, 144])
  (.cond (.t 144)
    (.seq (.reg [⟨some 145, none, .call (.f 23) [] []⟩,
        ⟨some 6, none, .mv (.t 145)⟩] [6])
    .ret)
    .skip))
  (.seq (.reg [⟨some 147, none, .load (some 3) (.t 20)⟩,
      ⟨some 148, none, .load (some 2) (.t 7)⟩,
      ⟨some 149, none, .call (.f 24) [true, false] [(.t 147), (.t 148)]⟩,
      ⟨some 146, none, .mv (.t 149)⟩,
      ⟨some 150, none, .extract (.t 146) 0⟩,
      ⟨some 151, none, .extract (.t 146) 1⟩,
      ⟨some 152, none, .extract (.t 146) 2⟩,
      ⟨some 21, none, .mv (.t 150)⟩,
      ⟨some 22, none, .mv (.t 151)⟩,
      ⟨some 23, none, .mv (.t 152)⟩] [21, 23])
  (.seq (.reg [⟨some 153, none, .mv (.t 23)⟩,
      ⟨some 154, none, .bin .eql (.t 153) (.c (.int .i64 0))⟩,
      ⟨some 155, none, .mv (.t 154)⟩,
      ⟨some 156, (some (155, true)), .mv (.t 21)⟩,
      ⟨some 157, (some (155, true)), .bin .neq (.t 156) (.c (.int .i64 0))⟩,
      ⟨some 158, none, .pick (.t 155) (.t 157) (.c (.bool false))⟩,
      ⟨some 159, none, .mv (.t 158)⟩,
      ⟨some 160, (some (159, true)), .call (.f 23) [] []⟩,
      ⟨some 161, none, .pick (.t 159) (.t 160) (.c (.bool false))⟩,
      ⟨some 6, none, .mv (.t 161)⟩] [6])
  .ret)))))))))))))))))
abbrev R_l05_StandBallast : List (Nat × Option (Option Nat)) := [(6, none)]
theorem K_l05_StandBallast : chkF Try.prog Try.f12 162 C_l05_StandBallast R_l05_StandBallast = true := by kernel_rfl
theorem spec_l05_StandBallast {args : List AVal} {σ : AHeap} {R : ARes → AHeap → Prop} (ha : args.length ≤ 162) (h : AW Try.prog 162 none C_l05_StandBallast (bodyQ R_l05_StandBallast R) { v := argEnv args 0, ds := [] } σ) : Spec Try.prog F_l05_StandBallast args σ R := Spec.of_fn Try.func12 K_l05_StandBallast ha h
theorem B_l05_StandBallast : hasBody Try.prog F_l05_StandBallast = true := by kernel_rfl
theorem E_l05_StandBallast : EntOk Try.prog ⟨12, 162, C_l05_StandBallast, R_l05_StandBallast, false⟩ := ⟨fun _ => ⟨B_l05_StandBallast, _, Try.func12, K_l05_StandBallast⟩, fun h => by cases h⟩

abbrev F_l05_StandWater : FuncId := 13
/-- orlop/orloplaw05.StandWater: parameters ['api.StHull', '[2]uint16'], results ['bool'] -/
def C_l05_StandWater : AC :=
  (.seq (.reg [⟨some 2, none, .pbox 3 (.t 0)⟩,
      ⟨some 3, none, .pbox 2 (.t 1)⟩,
      ⟨some 4, none, .mv (.c (.bool false))⟩] [2, 3])
  (.seq (.reg [⟨some 15, none, .load (some 3) (.t 2)⟩,
      ⟨some 16, none, .call (.f 29) [true] [(.t 15)]⟩,
      ⟨some 14, none, .mv (.t 16)⟩,
      ⟨some 17, none, .extract (.t 14) 0⟩,
      ⟨some 18, none, .extract (.t 14) 1⟩,
      ⟨some 5, none, .mv (.t 17)⟩,
      ⟨some 6, none, .mv (.t 18)⟩] [2, 3, 5, 6])
  (.seq (.seq (.reg [⟨some 19, none, .load (some 3) (.t 2)⟩,
      ⟨some 20, none, .call (.f 43) [true] [(.t 19)]⟩,
      ⟨some 21, none, .un .not (.t 20)⟩] [2, 3, 5, 6, 21])
  (.cond (.t 21)
    (.seq (.reg [⟨some 22, none, .mv (.t 6)⟩,
        ⟨some 23, none, .bin .neq (.t 22) (.c (.int .i64 0))⟩,
        ⟨some 24, none, .mv (.t 23)⟩,
        ⟨some 25, (some (24, true)), .mv (.t 5)⟩,
        ⟨some 26, (some (24, true)), .bin .eql (.t 25) (.c (.int .i64 0))⟩,
        ⟨some 27, none, .pick (.t 24) (.t 26) (.c (.bool false))⟩,
        ⟨some 28, none, .mv (.t 27)⟩,
        ⟨some 29, (some (28, true)), .call (.f 23) [] []⟩,
        ⟨some 30, none, .pick (.t 28) (.t 29) (.c (.bool false))⟩,
        ⟨some 4, none, .mv (.t 30)⟩] [4])
    .ret)
    .skip))
  (.seq (.seq (.reg [⟨some 31, none, .mv (.t 6)⟩,
      ⟨some 32, none, .bin .neq (.t 31) (.c (.int .i64 0))⟩] [2, 3, 5, 6, 32])
  (.cond (.t 32)
    (.seq (.dreg [⟨some 34, none, .load (some 3) (.t 2)⟩,
        ⟨some 35, none, .call (.f 40) [false, false] [(.c (.int .i64 0)), (.c (.int .i64 0))]⟩,
        ⟨some 36, none, .call (.f 24) [true, false] [(.t 34), (.t 35)]⟩,
        ⟨some 33, none, .mv (.t 36)⟩,
        ⟨some 37, none, .extract (.t 33) 0⟩,
        ⟨some 38, none, .extract (.t 33) 1⟩,
        ⟨some 39, none, .extract (.t 33) 2⟩,
        ⟨some 7, none, .mv (.t 37)⟩,
        ⟨some 8, none, .mv (.t 38)⟩,
        ⟨some 9, none, .mv (.t 39)⟩] [6, 7, 8, 9] [[], [], [0, 1], [0, 1, 2], [0, 1, 2, 3], [0, 1, 2, 3], [0, 1, 2, 3], [0, 1, 2, 3, 4], [0, 1, 2, 3, 4, 5, 7], [0, 1, 2, 3, 4, 5, 6, 7, 8]])
    (.seq (.reg [⟨some 40, none, .mv (.t 6)⟩,
        ⟨some 41, none, .bin .eql (.t 40) (.c (.int .i64 9))⟩,
        ⟨some 42, none, .mv (.t 41)⟩,
        ⟨some 43, (some (42, true)), .mv (.t 9)⟩,
        ⟨some 44, (some (42, true)), .bin .eql (.t 43) (.c (.int .i64 0))⟩,
        ⟨some 45, none, .pick (.t 42) (.t 44) (.c (.bool false))⟩,
        ⟨some 46, none, .mv (.t 45)⟩,
        ⟨some 47, (some (46, true)), .mv (.t 7)⟩,
        ⟨some 48, (some (46, true)), .bin .neq (.t 47) (.c (.int .i64 0))⟩,
        ⟨some 49, none, .pick (.t 46) (.t 48) (.c (.bool false))⟩,
        ⟨some 50, none, .mv (.t 49)⟩,
        ⟨some 51, (some (50, true)), .mv (.t 8)⟩,
        ⟨some 52, (some (50, true)), .bin .eql (.t 51) (.c (.int .i64 0))⟩,
        ⟨some 53, none, .pick (.t 50) (.t 52) (.c (.bool false))⟩,
        ⟨some 54, none, .mv (.t 53)⟩,
        ⟨some 55, (some (54, true)), .call (.f 23) [] []⟩,
        ⟨some 56, none, .pick (.t 54) (.t 55) (.c (.bool false))⟩,
        ⟨some 4, none, .mv (.t 56)⟩] [4])
    .ret))
    .skip))
  (.seq (.seq (.reg [⟨some 57, none, .mv (.t 5)⟩,
      ⟨some 58, none, .bin .lss (.t 57) (.c (.int .i64 0))⟩,
      ⟨some 59, none, .mv (.t 58)⟩,
      ⟨some 60, (some (59, false)), .mv (.t 5)⟩,
      ⟨some 61, (some (59, false)), .bin .gtr (.t 60) (.c (.int .i64 1000))⟩,
      ⟨some 62, none, .pick (.t 59) (.c (.bool true)) (.t 61)⟩] [2, 3, 5, 62])
  (.cond (.t 62)
    (.seq (.reg [⟨some 4, none, .mv (.c (.bool false))⟩] [4])
    .ret)
    .skip))
  (.seq (.reg [⟨some 63, none, .ixA 2 1 none (.t 3) (.c (.int .i64 0))⟩,
      ⟨some 64, none, .load none (.t 63)⟩,
      ⟨some 65, none, .conv .i64 (.t 64)⟩,
      ⟨some 66, none, .mv (.t 5)⟩,
      ⟨some 67, none, .bin .add (.t 66) (.c (.int .i64 1))⟩,
      ⟨some 68, none, .bin .rem (.t 65) (.t 67)⟩,
      ⟨some 10, none, .mv (.t 68)⟩] [2, 3, 5, 10])
  (.seq (.dreg [⟨some 70, none, .load (some 3) (.t 2)⟩,
      ⟨some 71, none, .mv (.t 10)⟩,
      ⟨some 72, none, .mv (.t 10)⟩,
      ⟨some 73, none, .ixA 2 1 none (.t 3) (.c (.int .i64 1))⟩,
      ⟨some 74, none, .load none (.t 73)⟩,
      ⟨some 75, none, .conv .i64 (.t 74)⟩,
      ⟨some 76, none, .mv (.t 5)⟩,
      ⟨some 77, none, .mv (.t 10)⟩,
      ⟨some 78, none, .bin .sub (.t 76) (.t 77)⟩,
      ⟨some 79, none, .bin .add (.t 78) (.c (.int .i64 1))⟩,
      ⟨some 80, none, .bin .rem (.t 75) (.t 79)⟩,
      ⟨some 81, none, .bin .add (.t 72) (.t 80)⟩,
      ⟨some 82, none, .call (.f 40) [false, false] [(.t 71), (.t 81)]⟩,
      ⟨some 83, none, .call (.f 24) [true, false] [(.t 70), (.t 82)]⟩,
      ⟨some 69, none, .mv (.t 83)⟩,
      ⟨some 84, none, .extract (.t 69) 0⟩,
      ⟨some 85, none, .extract (.t 69) 1⟩,
      ⟨some 86, none, .extract (.t 69) 2⟩,
      ⟨some 11, none, .mv (.t 84)⟩,
      ⟨some 12, none, .mv (.t 85)⟩,
      ⟨some 13, none, .mv (.t 86)⟩] [2, 5, 11, 13] [[], [], [], [], [3], [3, 4], [], [], [6, 7], [6, 7, 8], [3, 4, 5, 6, 7, 8, 9], [2, 3, 4, 5, 6, 7, 8, 9, 10], [1, 2, 3, 4, 5, 6, 7, 8, 9, 10, 11], [0, 1, 2, 3, 4, 5, 6, 7, 8, 9, 10, 11, 12], [0, 1, 2, 3, 4, 5, 6, 7, 8, 9, 10, 11, 12, 13], [0, 1, 2, 3, 4, 5, 6, 7, 8, 9, 10, 11, 12, 13, 14], [0, 1, 2, 3, 4, 5, 6, 7, 8, 9, 10, 11, 12, 13, 14], [0, 1, 2, 3, 4, 5, 6, 7, 8, 9, 10, 11, 12, 13, 14], [0, 1, 2, 3, 4, 5, 6, 7, 8, 9, 10, 11, 12, 13, 14, 15], [0, 1, 2, 3, 4, 5, 6, 7, 8, 9, 10, 11, 12, 13, 14, 15, 16, 18], [0, 1, 2, 3, 4, 5, 6, 7, 8, 9, 10, 11, 12, 13, 14, 15, 16, 17, 18, 19]])
  (.seq (.seq (.reg [⟨some 87, none, .mv (.t 13)⟩,
      ⟨some 88, none, .bin .neq (.t 87) (.c (.int .i64 0))⟩,
      ⟨some 89, none, .mv (.t 88)⟩,
      ⟨some 90, (some (89, false)), .mv (.t 11)⟩,
      ⟨some 91, (some (89, false)), .bin .neq (.t 90) (.c (.int .i64 0))⟩,
      ⟨some 92, none, .pick (.t 89) (.c (.bool true)) (.t 91)⟩] [2, 5, 92])
  (.cond (.t 92)
    (.seq (.reg [⟨some 4, none, .mv (.c (.bool false))⟩] [4])
    .ret)
    .skip))
  (.seq (.seq (.reg [⟨some 93, none, .mv (.t 5)⟩,
      ⟨some 94, none, .bin .eql (.t 93) (.c (.int .i64 1000))⟩] [2, 5, 94])
  (.cond (.t 94)
    (.seq (.reg [⟨some 95, none, .call (.f 23) [] []⟩,
        ⟨some 4, none, .mv (.t 95)⟩] [4])
    .ret)
    .skip))
  (.seq (.dreg [⟨some 97, none, .load (some 3) (.t 2)⟩,
      ⟨some 98, none, .mv (.t 5)⟩,
      ⟨some 99, none, .bin .add (.t 98) (.c (.int .i64 1))⟩,
      ⟨some 100, none, .mv (.t 5)⟩,
      ⟨some 101, none, .bin .add (.t 100) (.c (.int .i64 1))⟩,
      ⟨some 102, none, .call (.f 40) [false, false] [(.t 99), (.t 101)]⟩,
      ⟨some 103, none, .call (.f 24) [true, false] [(.t 97), (.t 102)]⟩,
      ⟨some 96, none, .mv (.t 103)⟩,
      ⟨some 104, none, .extract (.t 96) 0⟩,
      ⟨some 105, none, .extract (.t 96) 1⟩,
      ⟨some 106, none, .extract (.t 96) 2⟩,
      ⟨some 11, none, .mv (.t 104)⟩,
      ⟨some 13, none, .mv (.t 106)⟩] [11, 13] [[], [], [1], [], [3], [1, 2, 3, 4], [0, 1, 2, 3, 4, 5], [0, 1, 2, 3, 4, 5, 6], [0, 1, 2, 3, 4, 5, 6, 7], [0, 1, 2, 3, 4, 5, 6, 7], [0, 1, 2, 3, 4, 5, 6, 7], [0, 1, 2, 3, 4, 5, 6, 7, 8], [0, 1, 2, 3, 4, 5, 6, 7, 8, 9, 10, 11]])
  (.seq (.reg [⟨some 107, none, .mv (.t 13)⟩,
      ⟨some 108, none, .bin .eql (.t 107) (.c (.int .i64 0))⟩,
      ⟨some 109, none, .mv (.t 108)⟩,
      ⟨some 110, (some (109, true)), .mv (.t 11)⟩,
      ⟨some 111, (some (109, true)), .bin .neq (.t 110) (.c (.int .i64 0))⟩,
      ⟨some 112, none, .pick (.t 109) (.t 111) (.c (.bool false))⟩,
      ⟨some 113, none, .mv (.t 112)⟩,
      ⟨some 114, (some (113, true)), .call (.f 23) [] []⟩,
      ⟨some 115, none, .pick (.t 113) (.t 114) (.c (.bool false))⟩,
      ⟨some 4, none, .mv (.t 115)⟩] [4])
  .ret)))))))))))
abbrev R_l05_StandWater : List (Nat × Option (Option Nat)) := [(4, none)]
theorem K_l05_StandWater : chkF Try.prog Try.f13 116 C_l05_StandWater R_l05_StandWater = true := by kernel_rfl
theorem spec_l05_StandWater {args : List AVal} {σ : AHeap} {R : ARes → AHeap → Prop} (ha : args.length ≤ 116) (h : AW Try.prog 116 none C_l05_StandWater (bodyQ R_l05_StandWater R) { v := argEnv args 0, ds := [] } σ) : Spec Try.prog F_l05_StandWater args σ R := Spec.of_fn Try.func13 K_l05_StandWater ha h
theorem B_l05_StandWater : hasBody Try.prog F_l05_StandWater = true := by kernel_rfl
theorem E_l05_StandWater : EntOk Try.prog ⟨13, 116, C_l05_StandWater, R_l05_StandWater, false⟩ := ⟨fun _ => ⟨B_l05_StandWater, _, Try.func13, K_l05_StandWater⟩, fun h => by cases h⟩

abbrev F_l05_StandLess : FuncId := 14
/-- orlop/orloplaw05.StandLess: parameters ['api.StHull', 'orloplaw05.Wet', '[]uint32'], results ['bool'] -/
def C_l05_StandLess : AC :=
  (.seq (.reg [⟨some 3, none, .pbox 3 (.t 0)⟩,
      ⟨some 4, none, .pbox 4 (.t 1)⟩,
      ⟨some 6, none, .mv (.c (.bool false))⟩] [2, 3, 4])
  (.seq (.seq (.reg [⟨some 23, none, .load (some 3) (.t 3)⟩,
      ⟨some 24, none, .call (.f 43) [true] [(.t 23)]⟩,
      ⟨some 25, none, .un .not (.t 24)⟩] [2, 3, 4, 25])
  (.cond (.t 25)
    (.seq (.reg [⟨some 26, none, .call (.f 23) [] []⟩,
        ⟨some 6, none, .mv (.t 26)⟩] [6])
    .ret)
    .skip))
  (.seq (.dreg [⟨some 27, none, .fieldAddr none 2 (.t 4)⟩,
      ⟨some 28, none, .load none (.t 27)⟩,
      ⟨some 29, none, .conv .i64 (.t 28)⟩,
      ⟨some 30, none, .bin .rem (.t 29) (.c (.int .i64 1001))⟩,
      ⟨some 31, none, .fieldAddr (some 2) 0 (.t 4)⟩,
      ⟨some 32, none, .load (some 2) (.t 31)⟩,
      ⟨some 33, none, .call (.f 42) [false] [(.t 32)]⟩,
      ⟨some 8, none, .alloc [.int .i64 0, .int .i64 0]⟩,
      ⟨some 7, none, .mv (.t 30)⟩,
      ⟨none, none, .store 2 (.t 8) (.t 33)⟩] [2, 3, 7, 8] [[], [0], [0, 1], [0, 1, 2], [], [4], [4, 5], [], [0, 1, 2, 3, 4, 5, 6, 7], [0, 1, 2, 3, 4, 5, 6, 7, 8]])
  (.seq (.reg [⟨some 34, none, .load (some 3) (.t 3)⟩,
      ⟨some 9, none, .alloc [.slice 7 [], .int .i64 0, .int .i64 0]⟩,
      ⟨none, none, .store 3 (.t 9) (.t 34)⟩] [2, 3, 7, 8, 9])
  (.seq (.reg [⟨some 35, none, .fieldAddr none 0 (.t 9)⟩,
      ⟨none, none, .storem 7 (.t 35)⟩] [2, 3, 7, 8, 9])
  (.seq (.seq (.reg [⟨some 10, none, .mv (.c (.int .i64 0))⟩] [2, 3, 7, 8, 9, 10])
  (.block 0
    (.loop [2, 3, 7, 8, 9, 10]
      (.seq (.seq (.reg [⟨some 36, none, .mv (.t 10)⟩,
          ⟨some 37, none, .fieldAddr none 0 (.t 3)⟩,
          ⟨some 38, none, .load none (.t 37)⟩,
          ⟨some 39, none, .len (.t 38)⟩,
          ⟨some 40, none, .bin .lss (.t 36) (.t 39)⟩] [2, 3, 7, 8, 9, 10, 40])
      (.cond (.t 40)
        .skip
        (.exit 0)))
      (.seq (.block 1
        (.seq (.reg [⟨some 43, none, .fieldAddr none 0 (.t 3)⟩,
            ⟨some 44, none, .load none (.t 43)⟩,
            ⟨some 45, none, .mv (.t 10)⟩,
            ⟨some 46, none, .ixS 7 (.t 44) (.t 45)⟩,
            ⟨some 47, none, .load (some 7) (.t 46)⟩,
            ⟨some 11, none, .alloc [.str ByteArray.empty, .int .i64 0, .int .i64 0, .int .i64 0, .int .i64 0, .int .i64 0, .int .i64 0]⟩,
            ⟨none, none, .store 7 (.t 11) (.t 47)⟩] [2, 3, 7, 8, 9, 10, 11])
        (.seq (.dreg [⟨some 48, none, .fieldAddr (some 2) 2 (.t 11)⟩,
            ⟨some 49, none, .load (some 2) (.t 48)⟩,
            ⟨some 50, none, .mv (.t 2)⟩,
            ⟨some 51, none, .mv (.t 10)⟩,
            ⟨some 52, none, .bin .mul (.c (.int .i64 4)) (.t 51)⟩,
            ⟨some 53, none, .call (.f 49) [false, true, false] [(.t 49), (.t 50), (.t 52)]⟩,
            ⟨some 54, none, .fieldAddr (some 2) 5 (.t 11)⟩,
            ⟨some 55, none, .load (some 2) (.t 54)⟩,
            ⟨some 56, none, .mv (.t 2)⟩,
            ⟨some 57, none, .mv (.t 10)⟩,
            ⟨some 58, none, .bin .mul (.c (.int .i64 4)) (.t 57)⟩,
            ⟨some 59, none, .bin .add (.t 58) (.c (.int .i64 2))⟩,
            ⟨some 60, none, .call (.f 49) [false, true, false] [(.t 55), (.t 56), (.t 59)]⟩,
            ⟨some 61, none, .fieldAddr (some 2) 2 (.t 11)⟩,
            ⟨none, none, .store 2 (.t 61) (.t 53)⟩,
            ⟨some 62, none, .fieldAddr (some 2) 5 (.t 11)⟩,
            ⟨none, none, .store 2 (.t 62) (.t 60)⟩] [2, 3, 7, 8, 9, 10, 11] [[], [0], [], [], [3], [0, 1, 2, 3, 4], [], [6], [], [], [9], [9, 10], [0, 1, 2, 3, 4, 5, 6, 7, 8, 9, 10, 11], [0, 1, 2, 3, 4, 5, 6, 7], [0, 1, 2, 3, 4, 5, 6, 7, 8, 9, 10, 11, 12, 13], [0, 1, 2, 3, 4, 5, 6, 7, 8, 9, 10, 11, 12, 13, 14], [0, 1, 2, 3, 4, 5, 6, 7, 8, 9, 10, 11, 12, 13, 14, 15]])
        (.reg [⟨some 63, none, .fieldAddr none 0 (.t 9)⟩,
            ⟨some 64, none, .load none (.t 63)⟩,
            ⟨some 65, none, .load (some 7) (.t 11)⟩,
            ⟨some 66, none, .lit 0 7 1 [(0, (.t 65))]⟩,
            ⟨some 67, none, .append 7 64 (.t 64) (.t 66)⟩,
            ⟨some 68, none, .fieldAddr none 0 (.t 9)⟩,
            ⟨none, none, .store 1 (.t 68) (.t 67)⟩] [2, 3, 7, 8, 9, 10]))))
      (.reg [⟨some 41, none, .mv (.t 10)⟩,
          ⟨some 42, none, .bin .add (.t 41) (.c (.int .i64 1))⟩,
          ⟨some 10, none, .mv (.t 42)⟩] [2, 3, 7, 8, 9, 10]))))))
  (.seq (.reg [⟨some 70, none, .load (some 3) (.t 3)⟩,
      ⟨some 71, none, .mv (.t 7)⟩,
      ⟨some 72, none, .call (.f 21) [true, false] [(.t 70), (.t 71)]⟩,
      ⟨some 69, none, .mv (.t 72)⟩,
      ⟨some 73, none, .extract (.t 69) 0⟩,
      ⟨some 74, none, .extract (.t 69) 1⟩,
      ⟨some 12, none, .alloc [.int .i64 0, .int .i64 0, .int .i64 0]⟩,
      ⟨none, none, .store 3 (.t 12) (.t 73)⟩,
      ⟨some 13, none, .mv (.t 74)⟩] [2, 3, 7, 8, 9, 12, 13])
  (.frz 12 true (.seq (.reg [⟨some 76, none, .load (some 3) (.t 9)⟩,
      ⟨some 77, none, .mv (.t 7)⟩,
      ⟨some 78, none, .call (.f 21) [true, false] [(.t 76), (.t 77)]⟩,
      ⟨some 75, none, .mv (.t 78)⟩,
      ⟨some 79, none, .extract (.t 75) 0⟩,
      ⟨some 80, none, .extract (.t 75) 1⟩,
      ⟨some 14, none, .alloc [.int .i64 0, .int .i64 0, .int .i64 0]⟩,
      ⟨none, none, .store 3 (.t 14) (.t 79)⟩,
      ⟨some 15, none, .mv (.t 80)⟩] [2, 3, 8, 12, 13, 14, 15])
  (.frz 14 true (.seq (.seq (.reg [⟨some 81, none, .mv (.t 13)⟩,
      ⟨some 82, none, .bin .neq (.t 81) (.c (.int .i64 0))⟩,
      ⟨some 83, none, .mv (.t 82)⟩,
      ⟨some 84, (some (83, false)), .mv (.t 15)⟩,
      ⟨some 85, (some (83, false)), .bin .neq (.t 84) (.c (.int .i64 0))⟩,
      ⟨some 86, none, .pick (.t 83) (.c (.bool true)) (.t 85)⟩,
      ⟨some 87, none, .mv (.t 86)⟩,
      ⟨some 88, (some (87, false)), .fieldAddr none 0 (.t 14)⟩,
      ⟨some 89, (some (87, false)), .load none (.t 88)⟩,
      ⟨some 90, (some (87, false)), .fieldAddr none 0 (.t 12)⟩,
      ⟨some 91, (some (87, false)), .load none (.t 90)⟩,
      ⟨some 92, (some (87, false)), .bin .lss (.t 89) (.t 91)⟩,
      ⟨some 93, none, .pick (.t 87) (.c (.bool true)) (.t 92)⟩,
      ⟨some 94, none, .mv (.t 93)⟩,
      ⟨some 95, (some (94, false)), .fieldAddr none 1 (.t 14)⟩,
      ⟨some 96, (some (94, false)), .load none (.t 95)⟩,
      ⟨some 97, (some (94, false)), .fieldAddr none 1 (.t 12)⟩,
      ⟨some 98, (some (94, false)), .load none (.t 97)⟩,
      ⟨some 99, (some (94, false)), .bin .lss (.t 96) (.t 98)⟩,
      ⟨some 100, none, .pick (.t 94) (.c (.bool true)) (.t 99)⟩,
      ⟨some 101, none, .mv (.t 100)⟩,
      ⟨some 102, (some (101, false)), .fieldAddr none 2 (.t 14)⟩,
      ⟨some 103, (some (101, false)), .load none (.t 102)⟩,
      ⟨some 104, (some (101, false)), .fieldAddr none 2 (.t 12)⟩,
      ⟨some 105, (some (101, false)), .load none (.t 104)⟩,
      ⟨some 106, (some (101, false)), .bin .lss (.t 103) (.t 105)⟩,
      ⟨some 107, none, .pick (.t 101) (.c (.bool true)) (.t 106)⟩] [2, 3, 8, 107])
  (.cond (.t 107)
    (.seq (.reg [⟨some 6, none, .mv (.c (.bool false))⟩] [6])
    .ret)
    .skip))
  (.seq (.reg [⟨some 108, none, .load (some 3) (.t 3)⟩,
      ⟨some 16, none, .alloc [.slice 7 [], .int .i64 0, .int .i64 0]⟩,
      ⟨none, none, .store 3 (.t 16) (.t 108)⟩] [2, 3, 8, 16])
  (.seq (.dreg [⟨some 109, none, .fieldAddr none 1 (.t 3)⟩,
      ⟨some 110, none, .load none (.t 109)⟩,
      ⟨some 111, none, .mv (.t 2)⟩,
      ⟨some 112, none, .call (.f 50) [true, false] [(.t 111), (.c (.int .i64 0))]⟩,
      ⟨some 113, none, .fieldAddr none 1 (.t 3)⟩,
      ⟨some 114, none, .load none (.t 113)⟩,
      ⟨some 115, none, .bin .add (.t 114) (.c (.int .i64 1))⟩,
      ⟨some 116, none, .bin .rem (.t 112) (.t 115)⟩,
      ⟨some 117, none, .bin .sub (.t 110) (.t 116)⟩,
      ⟨some 118, none, .fieldAddr none 2 (.t 3)⟩,
      ⟨some 119, none, .load none (.t 118)⟩,
      ⟨some 120, none, .mv (.t 2)⟩,
      ⟨some 121, none, .call (.f 50) [true, false] [(.t 120), (.c (.int .i64 1))]⟩,
      ⟨some 122, none, .fieldAddr none 2 (.t 3)⟩,
      ⟨some 123, none, .load none (.t 122)⟩,
      ⟨some 124, none, .bin .sub (.c (.int .i64 5000)) (.t 123)⟩,
      ⟨some 125, none, .bin .add (.t 124) (.c (.int .i64 1))⟩,
      ⟨some 126, none, .bin .rem (.t 121) (.t 125)⟩,
      ⟨some 127, none, .bin .add (.t 119) (.t 126)⟩,
      ⟨some 128, none, .fieldAddr none 1 (.t 16)⟩,
      ⟨none, none, .store 1 (.t 128) (.t 117)⟩,
      ⟨some 129, none, .fieldAddr none 2 (.t 16)⟩,
      ⟨none, none, .store 1 (.t 129) (.t 127)⟩] [3, 8, 16] [[], [0], [], [2], [], [4], [4, 5], [2, 3, 4, 5, 6], [0, 1, 2, 3, 4, 5, 6, 7], [], [9], [], [2, 3, 11], [], [13], [13, 14], [13, 14, 15], [2, 3, 11, 12, 13, 14, 15, 16], [2, 3, 9, 10, 11, 12, 13, 14, 15, 16, 17], [0, 1, 2, 3, 4, 5, 6, 7, 8], [0, 1, 2, 3, 4, 5, 6, 7, 8, 11, 12, 19], [0, 1, 2, 3, 4, 5, 6, 7, 8, 9, 10, 11, 12, 13, 14, 15, 16, 17, 18, 19, 20], [0, 1, 2, 3, 4, 5, 6, 7, 8, 9, 10, 11, 12, 13, 14, 15, 16, 17, 18, 19, 20, 21]])
  (.seq (.reg [⟨some 131, none, .load (some 3) (.t 3)⟩,
      ⟨some 132, none, .load (some 2) (.t 8)⟩,
      ⟨some 133, none, .call (.f 24) [true, false] [(.t 131), (.t 132)]⟩,
      ⟨some 130, none, .mv (.t 133)⟩,
      ⟨some 134, none, .extract (.t 130) 0⟩,
      ⟨some 135, none, .extract (.t 130) 1⟩,
      ⟨some 136, none, .extract (.t 130) 2⟩,
      ⟨some 17, none, .mv (.t 134)⟩,
      ⟨some 18, none, .mv (.t 135)⟩,
      ⟨some 19, none, .mv (.t 136)⟩] [8, 16, 17, 19])
  (.seq (.reg [⟨some 138, none, .load (some 3) (.t 16)⟩,
      ⟨some 139, none, .load (some 2) (.t 8)⟩,
      ⟨some 140, none, .call (.f 24) [true, false] [(.t 138), (.t 139)]⟩,
      ⟨some 137, none, .mv (.t 140)⟩,
      ⟨some 141, none, .extract (.t 137) 0⟩,
      ⟨some 142, none, .extract (.t 137) 1⟩,
      ⟨some 143, none, .extract (.t 137) 2⟩,
      ⟨some 20, none, .mv (.t 141)⟩,
      ⟨some 21, none, .mv (.t 142)⟩,
      ⟨some 22, none, .mv (.t 143)⟩] [17, 19, 20, 22])
  (.seq (.reg [⟨some 144, none, .mv (.t 19)⟩,
      ⟨some 145, none, .bin .eql (.t 144) (.c (.int .i64 0))⟩,
      ⟨some 146, none, .mv (.t 145)⟩,
      ⟨some 147, (some (146, true)), .mv (.t 22)⟩,
      ⟨some 148, (some (146, true)), .bin .eql (.t 147) (.c (.int .i64 0))⟩,
      ⟨some 149, none, .pick (.t 146) (.t 148) (.c (.bool false))⟩,
      ⟨some 150, none, .mv (.t 149)⟩,
      ⟨some 151, (some (150, true)), .mv (.t 17)⟩,
      ⟨some 152, (some (150, true)), .bin .neq (.t 151) (.c (.int .i64 0))⟩,
      ⟨some 153, (some (150, true)), .mv (.t 152)⟩,
      ⟨some 154, (some (153, false)), .mv (.t 20)⟩,
      ⟨some 155, (some (153, false)), .bin .eql (.t 154) (.c (.int .i64 0))⟩,
      ⟨some 156, (some (150, true)), .pick (.t 153) (.c (.bool true)) (.t 155)⟩,
      ⟨some 157, none, .pick (.t 150) (.t 156) (.c (.bool false))⟩,
      ⟨some 158, none, .mv (.t 157)⟩,
      ⟨some 159, (some (158, true)), .call (.f 23) [] []⟩,
      ⟨some 160, none, .pick (.t 158) (.t 159) (.c (.bool false))⟩,
      ⟨some 6, none, .mv (.t 160)⟩] [6])
  .ret))))))))))))))))
abbrev R_l05_StandLess : List (Nat × Option (Option Nat)) := [(6, none)]
theorem K_l05_StandLess : chkF Try.prog Try.f14 161 C_l05_StandLess R_l05_StandLess = true := by kernel_rfl
theorem spec_l05_StandLess {args : List AVal} {σ : AHeap} {R : ARes → AHeap → Prop} (ha : args.length ≤ 161) (h : AW Try.prog 161 none C_l05_StandLess (bodyQ R_l05_StandLess R) { v := argEnv args 0, ds := [] } σ) : Spec Try.prog F_l05_StandLess args σ R := Spec.of_fn Try.func14 K_l05_StandLess ha h
theorem B_l05_StandLess : hasBody Try.prog F_l05_StandLess = true := by kernel_rfl
theorem E_l05_StandLess : EntOk Try.prog ⟨14, 161, C_l05_StandLess, R_l05_StandLess, false⟩ := ⟨fun _ => ⟨B_l05_StandLess, _, Try.func14, K_l05_StandLess⟩, fun h => by cases h⟩

abbrev F_l05_StandTurned : FuncId := 15
/-- orlop/orloplaw05.StandTurned: parameters ['api.StHull', 'orloplaw05.Wet'], results ['bool'] -/
def C_l05_StandTurned : AC :=
  (.seq (.reg [⟨some 2, none, .pbox 3 (.t 0)⟩,
      ⟨some 3, none, .pbox 4 (.t 1)⟩,
      ⟨some 4, none, .mv (.c (.bool false))⟩] [2, 3])
  (.seq (.seq (.reg [⟨some 18, none, .load (some 3) (.t 2)⟩,
      ⟨some 19, none, .call (.f 43) [true] [(.t 18)]⟩,
      ⟨some 20, none, .un .not (.t 19)⟩] [2, 3, 20])
  (.cond (.t 20)
    (.seq (.reg [⟨some 21, none, .call (.f 23) [] []⟩,
        ⟨some 4, none, .mv (.t 21)⟩] [4])
    .ret)
    .skip))
  (.seq (.dreg [⟨some 22, none, .load (some 3) (.t 2)⟩,
      ⟨some 23, none, .fieldAddr none 3 (.t 3)⟩,
      ⟨some 24, none, .load none (.t 23)⟩,
      ⟨some 25, none, .call (.f 45) [true, true] [(.t 22), (.t 24)]⟩,
      ⟨some 26, none, .fieldAddr none 2 (.t 3)⟩,
      ⟨some 27, none, .load none (.t 26)⟩,
      ⟨some 28, none, .conv .i64 (.t 27)⟩,
      ⟨some 29, none, .bin .rem (.t 28) (.c (.int .i64 1001))⟩,
      ⟨some 5, none, .alloc [.slice 1 [], .slice 1 []]⟩,
      ⟨none, none, .store 2 (.t 5) (.t 25)⟩,
      ⟨some 6, none, .mv (.t 29)⟩] [2, 5, 6] [[], [], [1], [0, 1, 2], [], [4], [4, 5], [4, 5, 6], [], [0, 1, 2, 3, 8], [0, 1, 2, 3, 4, 5, 6, 7, 8, 9]])
  (.seq (.reg [⟨some 30, none, .fieldAddr none 2 (.t 2)⟩,
      ⟨some 31, none, .load none (.t 30)⟩,
      ⟨some 32, none, .bin .sub (.c (.int .i64 5000)) (.t 31)⟩,
      ⟨some 33, none, .fieldAddr none 1 (.t 2)⟩,
      ⟨some 34, none, .load none (.t 33)⟩,
      ⟨some 35, none, .bin .sub (.c (.int .i64 5000)) (.t 34)⟩,
      ⟨some 36, none, .buildm [.mint 7, .int .i64 0, .int .i64 0] [(1, 1, (.t 32)), (2, 1, (.t 35))]⟩,
      ⟨some 7, none, .alloc [.slice 7 [], .int .i64 0, .int .i64 0]⟩,
      ⟨none, none, .store 3 (.t 7) (.t 36)⟩] [2, 5, 6, 7])
  (.seq (.seq (.reg [⟨some 8, none, .mv (.c (.int .i64 0))⟩] [2, 5, 6, 7, 8])
  (.block 0
    (.loop [2, 5, 6, 7, 8]
      (.seq (.seq (.reg [⟨some 37, none, .mv (.t 8)⟩,
          ⟨some 38, none, .fieldAddr none 0 (.t 2)⟩,
          ⟨some 39, none, .load none (.t 38)⟩,
          ⟨some 40, none, .len (.t 39)⟩,
          ⟨some 41, none, .bin .lss (.t 37) (.t 40)⟩] [2, 5, 6, 7, 8, 41])
      (.cond (.t 41)
        .skip
        (.exit 0)))
      (.seq (.block 1
        (.seq (.reg [⟨some 44, none, .fieldAddr none 0 (.t 2)⟩,
            ⟨some 45, none, .load none (.t 44)⟩,
            ⟨some 46, none, .mv (.t 8)⟩,
            ⟨some 47, none, .ixS 7 (.t 45) (.t 46)⟩,
            ⟨some 48, none, .load (some 7) (.t 47)⟩,
            ⟨some 9, none, .alloc [.str ByteArray.empty, .int .i64 0, .int .i64 0, .int .i64 0, .int .i64 0, .int .i64 0, .int .i64 0]⟩,
            ⟨none, none, .store 7 (.t 9) (.t 48)⟩] [2, 5, 6, 7, 8, 9])
        (.seq (.reg [⟨some 49, none, .fieldAddr none 1 (.t 9)⟩,
            ⟨some 50, none, .load none (.t 49)⟩,
            ⟨some 51, none, .bin .sub (.c (.int .i64 5000)) (.t 50)⟩,
            ⟨some 52, none, .fieldAddr none 1 (.t 9)⟩,
            ⟨none, none, .store 1 (.t 52) (.t 51)⟩] [2, 5, 6, 7, 8, 9])
        (.reg [⟨some 53, none, .fieldAddr none 0 (.t 7)⟩,
            ⟨some 54, none, .load none (.t 53)⟩,
            ⟨some 55, none, .load (some 7) (.t 9)⟩,
            ⟨some 56, none, .lit 0 7 1 [(0, (.t 55))]⟩,
            ⟨some 57, none, .append 7 64 (.t 54) (.t 56)⟩,
            ⟨some 58, none, .fieldAddr none 0 (.t 7)⟩,
            ⟨none, none, .store 1 (.t 58) (.t 57)⟩] [2, 5, 6, 7, 8]))))
      (.reg [⟨some 42, none, .mv (.t 8)⟩,
          ⟨some 43, none, .bin .add (.t 42) (.c (.int .i64 1))⟩,
          ⟨some 8, none, .mv (.t 43)⟩] [2, 5, 6, 7, 8]))))))
  (.seq (.reg [⟨some 60, none, .load (some 3) (.t 2)⟩,
      ⟨some 61, none, .load (some 2) (.t 5)⟩,
      ⟨some 62, none, .mv (.t 6)⟩,
      ⟨some 63, none, .call (.f 19) [true, true, false] [(.t 60), (.t 61), (.t 62)]⟩,
      ⟨some 59, none, .mv (.t 63)⟩,
      ⟨some 64, none, .extract (.t 59) 0⟩,
      ⟨some 65, none, .extract (.t 59) 1⟩,
      ⟨some 10, none, .alloc [.int .i64 0, .int .i64 0, .int .i64 0]⟩,
      ⟨none, none, .store 3 (.t 10) (.t 64)⟩,
      ⟨some 11, none, .mv (.t 65)⟩] [2, 5, 6, 7, 10, 11])
  (.frz 10 true (.seq (.reg [⟨some 67, none, .load (some 3) (.t 7)⟩,
      ⟨some 68, none, .load (some 2) (.t 5)⟩,
      ⟨some 69, none, .mv (.t 6)⟩,
      ⟨some 70, none, .call (.f 19) [true, true, false] [(.t 67), (.t 68), (.t 69)]⟩,
      ⟨some 66, none, .mv (.t 70)⟩,
      ⟨some 71, none, .extract (.t 66) 0⟩,
      ⟨some 72, none, .extract (.t 66) 1⟩,
      ⟨some 12, none, .alloc [.int .i64 0, .int .i64 0, .int .i64 0]⟩,
      ⟨none, none, .store 3 (.t 12) (.t 71)⟩,
      ⟨some 13, none, .mv (.t 72)⟩] [2, 6, 7, 10, 11, 12, 13])
  (.frz 12 true (.seq (.reg [⟨some 74, none, .load (some 3) (.t 2)⟩,
      ⟨some 75, none, .mv (.t 6)⟩,
      ⟨some 76, none, .call (.f 21) [true, false] [(.t 74), (.t 75)]⟩,
      ⟨some 73, none, .mv (.t 76)⟩,
      ⟨some 77, none, .extract (.t 73) 0⟩,
      ⟨some 78, none, .extract (.t 73) 1⟩,
      ⟨some 14, none, .alloc [.int .i64 0, .int .i64 0, .int .i64 0]⟩,
      ⟨none, none, .store 3 (.t 14) (.t 77)⟩,
      ⟨some 15, none, .mv (.t 78)⟩] [6, 7, 10, 11, 12, 13, 14, 15])
  (.frz 14 true (.seq (.reg [⟨some 80, none, .load (some 3) (.t 7)⟩,
      ⟨some 81, none, .mv (.t 6)⟩,
      ⟨some 82, none, .call (.f 21) [true, false] [(.t 80), (.t 81)]⟩,
      ⟨some 79, none, .mv (.t 82)⟩,
      ⟨some 83, none, .extract (.t 79) 0⟩,
      ⟨some 84, none, .extract (.t 79) 1⟩,
      ⟨some 16, none, .alloc [.int .i64 0, .int .i64 0, .int .i64 0]⟩,
      ⟨none, none, .store 3 (.t 16) (.t 83)⟩,
      ⟨some 17, none, .mv (.t 84)⟩] [10, 11, 12, 13, 14, 15, 16, 17])
  (.frz 16 true (.seq (.reg [⟨some 85, none, .mv (.t 11)⟩,
      ⟨some 86, none, .bin .eql (.t 85) (.c (.int .i64 0))⟩,
      ⟨some 87, none, .mv (.t 86)⟩,
      ⟨some 88, (some (87, true)), .mv (.t 13)⟩,
      ⟨some 89, (some (87, true)), .bin .eql (.t 88) (.c (.int .i64 0))⟩,
      ⟨some 90, none, .pick (.t 87) (.t 89) (.c (.bool false))⟩,
      ⟨some 91, none, .mv (.t 90)⟩,
      ⟨some 92, (some (91, true)), .mv (.t 15)⟩,
      ⟨some 93, (some (91, true)), .bin .eql (.t 92) (.c (.int .i64 0))⟩,
      ⟨some 94, none, .pick (.t 91) (.t 93) (.c (.bool false))⟩,
      ⟨some 95, none, .mv (.t 94)⟩,
      ⟨some 96, (some (95, true)), .mv (.t 17)⟩,
      ⟨some 97, (some (95, true)), .bin .eql (.t 96) (.c (.int .i64 0))⟩,
      ⟨some 98, none, .pick (.t 95) (.t 97) (.c (.bool false))⟩,
      ⟨some 99, none, .mv (.t 98)⟩,
      ⟨some 100, (some (99, true)), .load (some 3) (.t 12)⟩,
      ⟨some 101, (some (99, true)), .fieldAddr none 0 (.t 10)⟩,
      ⟨some 102, (some (99, true)), .load none (.t 101)⟩,
      ⟨some 103, (some (99, true)), .fieldAddr none 2 (.t 10)⟩,
      ⟨some 104, (some (99, true)), .load none (.t 103)⟩,
      ⟨some 105, (some (99, true)), .fieldAddr none 1 (.t 10)⟩,
      ⟨some 106, (some (99, true)), .load none (.t 105)⟩,
      ⟨some 107, (some (99, true)), .build [.int .i64 0, .int .i64 0, .int .i64 0] [(0, 1, (.t 102)), (1, 1, (.t 104)), (2, 1, (.t 106))]⟩,
      ⟨some 108, (some (99, true)), .eqa false [.i, .i, .i] (.t 100) (.t 107)⟩,
      ⟨some 109, none, .pick (.t 99) (.t 108) (.c (.bool false))⟩,
      ⟨some 110, none, .mv (.t 109)⟩,
      ⟨some 111, (some (110, true)), .load (some 3) (.t 16)⟩,
      ⟨some 112, (some (110, true)), .fieldAddr none 0 (.t 14)⟩,
      ⟨some 113, (some (110, true)), .load none (.t 112)⟩,
      ⟨some 114, (some (110, true)), .fieldAddr none 2 (.t 14)⟩,
      ⟨some 115, (some (110, true)), .load none (.t 114)⟩,
      ⟨some 116, (some (110, true)), .fieldAddr none 1 (.t 14)⟩,
      ⟨some 117, (some (110, true)), .load none (.t 116)⟩,
      ⟨some 118, (some (110, true)), .build [.int .i64 0, .int .i64 0, .int .i64 0] [(0, 1, (.t 113)), (1, 1, (.t 115)), (2, 1, (.t 117))]⟩,
      ⟨some 119, (some (110, true)), .eqa false [.i, .i, .i] (.t 111) (.t 118)⟩,
      ⟨some 120, none, .pick (.t 110) (.t 119) (.c (.bool false))⟩,
      ⟨some 121, none, .mv (.t 120)⟩,
      ⟨some 122, (some (121, true)), .call (.f 23) [] []⟩,
      ⟨some 123, none, .pick (.t 121) (.t 122) (.c (.bool false))⟩,
      ⟨some 4, none, .mv (.t 123)⟩] [4])
  .ret))))))))))))))
abbrev R_l05_StandTurned : List (Nat × Option (Option Nat)) := [(4, none)]
theorem K_l05_StandTurned : chkF Try.prog Try.f15 124 C_l05_StandTurned R_l05_StandTurned = true := by kernel_rfl
theorem spec_l05_StandTurned {args : List AVal} {σ : AHeap} {R : ARes → AHeap → Prop} (ha : args.length ≤ 124) (h : AW Try.prog 124 none C_l05_StandTurned (bodyQ R_l05_StandTurned R) { v := argEnv args 0, ds := [] } σ) : Spec Try.prog F_l05_StandTurned args σ R := Spec.of_fn Try.func15 K_l05_StandTurned ha h
theorem B_l05_StandTurned : hasBody Try.prog F_l05_StandTurned = true := by kernel_rfl
theorem E_l05_StandTurned : EntOk Try.prog ⟨15, 124, C_l05_StandTurned, R_l05_StandTurned, false⟩ := ⟨fun _ => ⟨B_l05_StandTurned, _, Try.func15, K_l05_StandTurned⟩, fun h => by cases h⟩

abbrev F_l05_StandJoined : FuncId := 16
/-- orlop/orloplaw05.StandJoined: parameters ['api.StHull', '[4]uint16'], results ['bool'] -/
def C_l05_StandJoined : AC :=
  (.seq (.reg [⟨some 2, none, .pbox 3 (.t 0)⟩,
      ⟨some 3, none, .pbox 4 (.t 1)⟩,
      ⟨some 4, none, .mv (.c (.bool false))⟩] [2, 3])
  (.seq (.seq (.reg [⟨some 20, none, .load (some 3) (.t 2)⟩,
      ⟨some 21, none, .call (.f 43) [true] [(.t 20)]⟩,
      ⟨some 22, none, .un .not (.t 21)⟩,
      ⟨some 23, none, .mv (.t 22)⟩,
      ⟨some 24, (some (23, false)), .fieldAddr none 0 (.t 2)⟩,
      ⟨some 25, (some (23, false)), .load none (.t 24)⟩,
      ⟨some 26, (some (23, false)), .len (.t 25)⟩,
      ⟨some 27, (some (23, false)), .bin .eql (.t 26) (.c (.int .i64 10))⟩,
      ⟨some 28, none, .pick (.t 23) (.c (.bool true)) (.t 27)⟩] [2, 3, 28])
  (.cond (.t 28)
    (.seq (.reg [⟨some 29, none, .call (.f 23) [] []⟩,
        ⟨some 4, none, .mv (.t 29)⟩] [4])
    .ret)
    .skip))
  (.seq (.dreg [⟨some 30, none, .ixA 4 1 none (.t 3) (.c (.int .i64 0))⟩,
      ⟨some 31, none, .load none (.t 30)⟩,
      ⟨some 32, none, .conv .i64 (.t 31)⟩,
      ⟨some 33, none, .fieldAddr none 0 (.t 2)⟩,
      ⟨some 34, none, .load none (.t 33)⟩,
      ⟨some 35, none, .len (.t 34)⟩,
      ⟨some 36, none, .bin .rem (.t 32) (.t 35)⟩,
      ⟨some 37, none, .ixA 4 1 none (.t 3) (.c (.int .i64 1))⟩,
      ⟨some 38, none, .load none (.t 37)⟩,
      ⟨some 39, none, .conv .i64 (.t 38)⟩,
      ⟨some 40, none, .bin .rem (.t 39) (.c (.int .i64 1001))⟩,
      ⟨some 5, none, .mv (.t 36)⟩,
      ⟨some 6, none, .mv (.t 40)⟩] [2, 3, 5, 6] [[], [0], [0, 1], [], [3], [3, 4], [0, 1, 2, 3, 4, 5], [], [7], [7, 8], [7, 8, 9], [0, 1, 2, 3, 4, 5, 6], [0, 1, 2, 3, 4, 5, 6, 7, 8, 9, 10, 11]])
  (.seq (.reg [⟨some 41, none, .fieldAddr none 0 (.t 2)⟩,
      ⟨some 42, none, .load none (.t 41)⟩,
      ⟨some 43, none, .mv (.t 5)⟩,
      ⟨some 44, none, .ixS 7 (.t 42) (.t 43)⟩,
      ⟨some 45, none, .load (some 7) (.t 44)⟩,
      ⟨some 7, none, .alloc [.str ByteArray.empty, .int .i64 0, .int .i64 0, .int .i64 0, .int .i64 0, .int .i64 0, .int .i64 0]⟩,
      ⟨none, none, .store 7 (.t 7) (.t 45)⟩] [2, 3, 5, 6, 7])
  (.seq (.reg [⟨some 46, none, .load (some 7) (.t 7)⟩,
      ⟨some 8, none, .alloc [.str ByteArray.empty, .int .i64 0, .int .i64 0, .int .i64 0, .int .i64 0, .int .i64 0, .int .i64 0]⟩,
      ⟨none, none, .store 7 (.t 8) (.t 46)⟩] [2, 3, 5, 6, 7, 8])
  (.seq (.reg [⟨some 47, none, .fieldAddr none 0 (.t 8)⟩,
      ⟨none, none, .store 1 (.t 47) (.c (.str ⟨#[122, 122]⟩))⟩] [2, 3, 5, 6, 7, 8])
  (.seq (.dreg [⟨some 48, none, .ixA 4 1 none (.t 3) (.c (.int .i64 2))⟩,
      ⟨some 49, none, .load none (.t 48)⟩,
      ⟨some 50, none, .conv .i64 (.t 49)⟩,
      ⟨some 51, none, .fieldAddr (some 2) 2 (.t 7)⟩,
      ⟨some 52, none, .fieldAddr none 0 (.t 51)⟩,
      ⟨some 53, none, .load none (.t 52)⟩,
      ⟨some 54, none, .bin .add (.t 53) (.c (.int .i64 1))⟩,
      ⟨some 55, none, .bin .rem (.t 50) (.t 54)⟩,
      ⟨some 56, none, .call (.f 40) [false, false] [(.t 55), (.c (.int .i64 0))]⟩,
      ⟨some 57, none, .ixA 4 1 none (.t 3) (.c (.int .i64 3))⟩,
      ⟨some 58, none, .load none (.t 57)⟩,
      ⟨some 59, none, .conv .i64 (.t 58)⟩,
      ⟨some 60, none, .fieldAddr (some 2) 5 (.t 7)⟩,
      ⟨some 61, none, .fieldAddr none 0 (.t 60)⟩,
      ⟨some 62, none, .load none (.t 61)⟩,
      ⟨some 63, none, .bin .add (.t 62) (.c (.int .i64 1))⟩,
      ⟨some 64, none, .bin .rem (.t 59) (.t 63)⟩,
      ⟨some 65, none, .call (.f 40) [false, false] [(.t 64), (.c (.int .i64 0))]⟩,
      ⟨some 9, none, .alloc [.int .i64 0, .int .i64 0]⟩,
      ⟨some 10, none, .alloc [.int .i64 0, .int .i64 0]⟩,
      ⟨none, none, .store 2 (.t 9) (.t 56)⟩,
      ⟨none, none, .store 2 (.t 10) (.t 65)⟩] [2, 5, 6, 7, 8, 9, 10] [[], [0], [0, 1], [], [3], [3, 4], [3, 4, 5], [0, 1, 2, 3, 4, 5, 6], [0, 1, 2, 3, 4, 5, 6, 7], [], [9], [9, 10], [], [12], [12, 13], [12, 13, 14], [9, 10, 11, 12, 13, 14, 15], [0, 1, 2, 3, 4, 5, 6, 7, 8, 9, 10, 11, 12, 13, 14, 15, 16], [], [], [0, 1, 2, 3, 4, 5, 6, 7, 8, 9, 10, 11, 12, 13, 14, 15, 16, 17, 18, 19], [0, 1, 2, 3, 4, 5, 6, 7, 8, 9, 10, 11, 12, 13, 14, 15, 16, 17, 18, 19, 20]])
  (.seq (.reg [⟨some 66, none, .fieldAddr none 0 (.t 9)⟩,
      ⟨some 67, none, .load none (.t 66)⟩,
      ⟨some 68, none, .fieldAddr (some 2) 2 (.t 7)⟩,
      ⟨some 69, none, .fieldAddr none 1 (.t 68)⟩,
      ⟨some 70, none, .load none (.t 69)⟩,
      ⟨some 71, none, .fieldAddr (some 2) 2 (.t 7)⟩,
      ⟨some 72, none, .fieldAddr none 0 (.t 71)⟩,
      ⟨some 73, none, .load none (.t 72)⟩,
      ⟨some 74, none, .bin .sub (.t 70) (.t 73)⟩,
      ⟨some 75, none, .bin .quo (.t 74) (.c (.int .i64 2))⟩,
      ⟨some 76, none, .bin .add (.t 67) (.t 75)⟩,
      ⟨some 77, none, .fieldAddr none 1 (.t 9)⟩,
      ⟨none, none, .store 1 (.t 77) (.t 76)⟩] [2, 5, 6, 7, 8, 9, 10])
  (.seq (.reg [⟨some 78, none, .fieldAddr none 0 (.t 10)⟩,
      ⟨some 79, none, .load none (.t 78)⟩,
      ⟨some 80, none, .fieldAddr (some 2) 5 (.t 7)⟩,
      ⟨some 81, none, .fieldAddr none 1 (.t 80)⟩,
      ⟨some 82, none, .load none (.t 81)⟩,
      ⟨some 83, none, .fieldAddr (some 2) 5 (.t 7)⟩,
      ⟨some 84, none, .fieldAddr none 0 (.t 83)⟩,
      ⟨some 85, none, .load none (.t 84)⟩,
      ⟨some 86, none, .bin .sub (.t 82) (.t 85)⟩,
      ⟨some 87, none, .bin .quo (.t 86) (.c (.int .i64 2))⟩,
      ⟨some 88, none, .bin .add (.t 79) (.t 87)⟩,
      ⟨some 89, none, .fieldAddr none 1 (.t 10)⟩,
      ⟨none, none, .store 1 (.t 89) (.t 88)⟩] [2, 5, 6, 7, 8, 9, 10])
  (.seq (.dreg [⟨some 90, none, .load (some 2) (.t 9)⟩,
      ⟨some 91, none, .load (some 2) (.t 10)⟩,
      ⟨some 92, none, .fieldAddr (some 2) 2 (.t 8)⟩,
      ⟨none, none, .store 2 (.t 92) (.t 90)⟩,
      ⟨some 93, none, .fieldAddr (some 2) 5 (.t 8)⟩,
      ⟨none, none, .store 2 (.t 93) (.t 91)⟩] [2, 5, 6, 7, 8, 9, 10] [[], [], [0], [0, 2], [0, 1, 2, 3], [0, 1, 2, 3, 4]])
  (.seq (.dreg [⟨some 94, none, .fieldAddr (some 2) 2 (.t 7)⟩,
      ⟨some 95, none, .fieldAddr none 0 (.t 94)⟩,
      ⟨some 96, none, .load none (.t 95)⟩,
      ⟨some 97, none, .fieldAddr none 0 (.t 9)⟩,
      ⟨some 98, none, .load none (.t 97)⟩,
      ⟨some 99, none, .bin .sub (.t 96) (.t 98)⟩,
      ⟨some 100, none, .fieldAddr (some 2) 2 (.t 7)⟩,
      ⟨some 101, none, .fieldAddr none 1 (.t 100)⟩,
      ⟨some 102, none, .load none (.t 101)⟩,
      ⟨some 103, none, .fieldAddr none 1 (.t 9)⟩,
      ⟨some 104, none, .load none (.t 103)⟩,
      ⟨some 105, none, .bin .sub (.t 102) (.t 104)⟩,
      ⟨some 106, none, .call (.f 40) [false, false] [(.t 99), (.t 105)]⟩,
      ⟨some 107, none, .fieldAddr (some 2) 5 (.t 7)⟩,
      ⟨some 108, none, .fieldAddr none 0 (.t 107)⟩,
      ⟨some 109, none, .load none (.t 108)⟩,
      ⟨some 110, none, .fieldAddr none 0 (.t 10)⟩,
      ⟨some 111, none, .load none (.t 110)⟩,
      ⟨some 112, none, .bin .sub (.t 109) (.t 111)⟩,
      ⟨some 113, none, .fieldAddr (some 2) 5 (.t 7)⟩,
      ⟨some 114, none, .fieldAddr none 1 (.t 113)⟩,
      ⟨some 115, none, .load none (.t 114)⟩,
      ⟨some 116, none, .fieldAddr none 1 (.t 10)⟩,
      ⟨some 117, none, .load none (.t 116)⟩,
      ⟨some 118, none, .bin .sub (.t 115) (.t 117)⟩,
      ⟨some 119, none, .call (.f 40) [false, false] [(.t 112), (.t 118)]⟩,
      ⟨some 120, none, .fieldAddr (some 2) 2 (.t 7)⟩,
      ⟨none, none, .store 2 (.t 120) (.t 106)⟩,
      ⟨some 121, none, .fieldAddr (some 2) 5 (.t 7)⟩,
      ⟨none, none, .store 2 (.t 121) (.t 119)⟩] [2, 5, 6, 7, 8] [[], [0], [0, 1], [], [3], [0, 1, 2, 3, 4], [], [6], [6, 7], [], [9], [6, 7, 8, 9, 10], [0, 1, 2, 3, 4, 5, 6, 7, 8, 9, 10, 11], [], [13], [13, 14], [], [16], [13, 14, 15, 16, 17], [], [19], [19, 20], [], [22], [19, 20, 21, 22, 23], [0, 1, 2, 3, 4, 5, 6, 7, 8, 9, 10, 11, 12, 13, 14, 15, 16, 17, 18, 19, 20, 21, 22, 23, 24], [0, 1, 2, 3, 4, 5, 6, 7, 8, 9, 10, 11, 12, 13, 14, 15, 19, 20, 21], [0, 1, 2, 3, 4, 5, 6, 7, 8, 9, 10, 11, 12, 13, 14, 15, 16, 17, 18, 19, 20, 21, 22, 23, 24, 25, 26], [0, 1, 2, 3, 4, 5, 6, 7, 8, 9, 10, 11, 12, 13, 14, 15, 16, 17, 18, 19, 20, 21, 22, 23, 24, 25, 26, 27], [0, 1, 2, 3, 4, 5, 6, 7, 8, 9, 10, 11, 12, 13, 14, 15, 16, 17, 18, 19, 20, 21, 22, 23, 24, 25, 26, 27, 28]])
  (.seq (.reg [⟨some 122, none, .load (some 3) (.t 2)⟩,
      ⟨some 11, none, .alloc [.slice 7 [], .int .i64 0, .int .i64 0]⟩,
      ⟨none, none, .store 3 (.t 11) (.t 122)⟩] [2, 5, 6, 7, 8, 11])
  (.seq (.dreg [⟨some 123, none, .lit 2 7 0 []⟩,
      ⟨some 124, none, .fieldAddr none 0 (.t 2)⟩,
      ⟨some 125, none, .load none (.t 124)⟩,
      ⟨some 126, none, .append 7 64 (.t 123) (.t 125)⟩,
      ⟨some 127, none, .load (some 7) (.t 8)⟩,
      ⟨some 128, none, .lit 0 7 1 [(0, (.t 127))]⟩,
      ⟨some 129, none, .append 7 64 (.t 126) (.t 128)⟩,
      ⟨some 130, none, .fieldAddr none 0 (.t 11)⟩,
      ⟨none, none, .store 1 (.t 130) (.t 129)⟩] [2, 5, 6, 7, 8, 11] [[], [], [1], [0, 1, 2], [], [4], [0, 1, 2, 3, 4, 5], [0, 1, 2, 3, 4, 5, 6], [0, 1, 2, 3, 4, 5, 6, 7]])
  (.seq (.reg [⟨some 131, none, .fieldAddr none 0 (.t 11)⟩,
      ⟨some 132, none, .load none (.t 131)⟩,
      ⟨some 133, none, .mv (.t 5)⟩,
      ⟨some 134, none, .load (some 7) (.t 7)⟩,
      ⟨some 135, none, .ixS 7 (.t 132) (.t 133)⟩,
      ⟨none, none, .store 7 (.t 135) (.t 134)⟩] [2, 6, 8, 11])
  (.frzc 11 0 7 (.seq (.seq (.reg [⟨some 136, none, .load (some 3) (.t 11)⟩,
      ⟨some 137, none, .call (.f 43) [true] [(.t 136)]⟩,
      ⟨some 138, none, .un .not (.t 137)⟩] [2, 6, 8, 11, 138])
  (.cond (.t 138)
    (.seq (.reg [⟨some 139, none, .call (.f 23) [] []⟩,
        ⟨some 4, none, .mv (.t 139)⟩] [4])
    .ret)
    .skip))
  (.seq (.reg [⟨some 141, none, .load (some 3) (.t 2)⟩,
      ⟨some 142, none, .mv (.t 6)⟩,
      ⟨some 143, none, .call (.f 21) [true, false] [(.t 141), (.t 142)]⟩,
      ⟨some 140, none, .mv (.t 143)⟩,
      ⟨some 144, none, .extract (.t 140) 0⟩,
      ⟨some 145, none, .extract (.t 140) 1⟩,
      ⟨some 12, none, .alloc [.int .i64 0, .int .i64 0, .int .i64 0]⟩,
      ⟨none, none, .store 3 (.t 12) (.t 144)⟩,
      ⟨some 13, none, .mv (.t 145)⟩] [2, 6, 8, 11, 12, 13])
  (.frz 12 true (.seq (.reg [⟨some 147, none, .load (some 3) (.t 11)⟩,
      ⟨some 148, none, .mv (.t 6)⟩,
      ⟨some 149, none, .call (.f 21) [true, false] [(.t 147), (.t 148)]⟩,
      ⟨some 146, none, .mv (.t 149)⟩,
      ⟨some 150, none, .extract (.t 146) 0⟩,
      ⟨some 151, none, .extract (.t 146) 1⟩,
      ⟨some 14, none, .alloc [.int .i64 0, .int .i64 0, .int .i64 0]⟩,
      ⟨none, none, .store 3 (.t 14) (.t 150)⟩,
      ⟨some 15, none, .mv (.t 151)⟩] [2, 8, 11, 12, 13, 14, 15])
  (.frz 14 true (.seq (.reg [⟨some 153, none, .load (some 3) (.t 2)⟩,
      ⟨some 154, none, .call (.f 29) [true] [(.t 153)]⟩,
      ⟨some 152, none, .mv (.t 154)⟩,
      ⟨some 155, none, .extract (.t 152) 0⟩,
      ⟨some 156, none, .extract (.t 152) 1⟩,
      ⟨some 16, none, .mv (.t 155)⟩,
      ⟨some 17, none, .mv (.t 156)⟩] [8, 11, 12, 13, 14, 15, 16, 17])
  (.seq (.reg [⟨some 158, none, .load (some 3) (.t 11)⟩,
      ⟨some 159, none, .call (.f 29) [true] [(.t 158)]⟩,
      ⟨some 157, none, .mv (.t 159)⟩,
      ⟨some 160, none, .extract (.t 157) 0⟩,
      ⟨some 161, none, .extract (.t 157) 1⟩,
      ⟨some 18, none, .mv (.t 160)⟩,
      ⟨some 19, none, .mv (.t 161)⟩] [8, 12, 13, 14, 15, 16, 17, 18, 19])
  (.seq (.reg [⟨some 162, none, .mv (.t 13)⟩,
      ⟨some 163, none, .bin .eql (.t 162) (.c (.int .i64 0))⟩,
      ⟨some 164, none, .mv (.t 163)⟩,
      ⟨some 165, (some (164, true)), .mv (.t 15)⟩,
      ⟨some 166, (some (164, true)), .bin .eql (.t 165) (.c (.int .i64 0))⟩,
      ⟨some 167, none, .pick (.t 164) (.t 166) (.c (.bool false))⟩,
      ⟨some 168, none, .mv (.t 167)⟩,
      ⟨some 169, (some (168, true)), .load (some 3) (.t 12)⟩,
      ⟨some 170, (some (168, true)), .load (some 3) (.t 14)⟩,
      ⟨some 171, (some (168, true)), .eqa false [.i, .i, .i] (.t 169) (.t 170)⟩,
      ⟨some 172, none, .pick (.t 168) (.t 171) (.c (.bool false))⟩,
      ⟨some 173, none, .mv (.t 172)⟩,
      ⟨some 174, (some (173, true)), .mv (.t 16)⟩,
      ⟨some 175, (some (173, true)), .mv (.t 18)⟩,
      ⟨some 176, (some (173, true)), .bin .eql (.t 174) (.t 175)⟩,
      ⟨some 177, none, .pick (.t 173) (.t 176) (.c (.bool false))⟩,
      ⟨some 178, none, .mv (.t 177)⟩,
      ⟨some 179, (some (178, true)), .mv (.t 17)⟩,
      ⟨some 180, (some (178, true)), .mv (.t 19)⟩,
      ⟨some 181, (some (178, true)), .bin .eql (.t 179) (.t 180)⟩,
      ⟨some 182, none, .pick (.t 178) (.t 181) (.c (.bool false))⟩,
      ⟨some 183, none, .mv (.t 182)⟩,
      ⟨some 184, (some (183, true)), .fieldAddr none 0 (.t 8)⟩,
      ⟨some 185, (some (183, true)), .load none (.t 184)⟩,
      ⟨some 186, (some (183, true)), .call (.f 41) [false] [(.t 185)]⟩,
      ⟨some 187, none, .pick (.t 183) (.t 186) (.c (.bool false))⟩,
      ⟨some 188, none, .mv (.t 187)⟩,
      ⟨some 189, (some (188, true)), .call (.f 23) [] []⟩,
      ⟨some 190, none, .pick (.t 188) (.t 189) (.c (.bool false))⟩,
      ⟨some 4, none, .mv (.t 190)⟩] [4])
  .ret)))))))))))))))))))))))
abbrev R_l05_StandJoined : List (Nat × Option (Option Nat)) := [(4, none)]
theorem K_l05_StandJoined : chkF Try.prog Try.f16 191 C_l05_StandJoined R_l05_StandJoined = true := by kernel_rfl
theorem spec_l05_StandJoined {args : List AVal} {σ : AHeap} {R : ARes → AHeap → Prop} (ha : args.length ≤ 191) (h : AW Try.prog 191 none C_l05_StandJoined (bodyQ R_l05_StandJoined R) { v := argEnv args 0, ds := [] } σ) : Spec Try.prog F_l05_StandJoined args σ R := Spec.of_fn Try.func16 K_l05_StandJoined ha h
theorem B_l05_StandJoined : hasBody Try.prog F_l05_StandJoined = true := by kernel_rfl
theorem E_l05_StandJoined : EntOk Try.prog ⟨16, 191, C_l05_StandJoined, R_l05_StandJoined, false⟩ := ⟨fun _ => ⟨B_l05_StandJoined, _, Try.func16, K_l05_StandJoined⟩, fun h => by cases h⟩

abbrev F_stand_Check : FuncId := 17
/-- orlop/stand.Check: parameters ['api.StHull'], results ['int', 'int', 'api.Errno'] -/
def C_stand_Check : AC :=
  (.seq (.reg [⟨some 1, none, .pbox 3 (.t 0)⟩,
      ⟨some 2, none, .mv (.c (.int .i64 0))⟩,
      ⟨some 3, none, .mv (.c (.int .i64 0))⟩,
      ⟨some 4, none, .mv (.c (.int .i64 0))⟩] [1])
  (.seq (.block 0
    (.seq (.reg [⟨some 8, none, .fieldAddr none 0 (.t 1)⟩,
        ⟨some 9, none, .load none (.t 8)⟩,
        ⟨some 10, none, .len (.t 9)⟩,
        ⟨some 11, none, .lit 0 1 1 [(0, (.t 10))]⟩,
        ⟨some 12, none, .call (.f 51) [false, false, true] [(.c (.int .i64 1)), (.c (.int .i64 10)), (.t 11)]⟩,
        ⟨some 7, none, .mv (.t 12)⟩] [1, 7])
    (.cond (.t 7)
      (.seq (.reg [⟨some 2, none, .mv (.c (.int .i64 1))⟩,
          ⟨some 3, none, .mv (.c (.int .i64 0))⟩,
          ⟨some 4, none, .mv (.c (.int .i64 3))⟩] [2, 3, 4])
      .ret)
      (.seq (.reg [⟨some 14, none, .fieldAddr none 1 (.t 1)⟩,
          ⟨some 15, none, .load none (.t 14)⟩,
          ⟨some 16, none, .fieldAddr none 2 (.t 1)⟩,
          ⟨some 17, none, .load none (.t 16)⟩,
          ⟨some 18, none, .lit 0 1 2 [(0, (.t 15)), (1, (.t 17))]⟩,
          ⟨some 19, none, .call (.f 51) [false, false, true] [(.c (.int .i64 0)), (.c (.int .i64 5000)), (.t 18)]⟩,
          ⟨some 13, none, .mv (.t 19)⟩] [1, 13])
      (.cond (.t 13)
        (.seq (.reg [⟨some 2, none, .mv (.c (.int .i64 1))⟩,
            ⟨some 3, none, .mv (.c (.int .i64 0))⟩,
            ⟨some 4, none, .mv (.c (.int .i64 7))⟩] [2, 3, 4])
        .ret)
        (.seq (.reg [⟨some 21, none, .fieldAddr none 1 (.t 1)⟩,
            ⟨some 22, none, .load none (.t 21)⟩,
            ⟨some 23, none, .fieldAddr none 2 (.t 1)⟩,
            ⟨some 24, none, .load none (.t 23)⟩,
            ⟨some 25, none, .bin .geq (.t 22) (.t 24)⟩,
            ⟨some 20, none, .mv (.t 25)⟩] [1, 20])
        (.cond (.t 20)
          (.seq (.reg [⟨some 2, none, .mv (.c (.int .i64 1))⟩,
              ⟨some 3, none, .mv (.c (.int .i64 0))⟩,
              ⟨some 4, none, .mv (.c (.int .i64 2))⟩] [2, 3, 4])
          .ret)
          .skip)))))))
  (.seq (.seq (.reg [⟨some 26, none, .fieldAddr none 0 (.t 1)⟩,
      ⟨some 27, none, .load none (.t 26)⟩,
      ⟨some 28, none, .len (.t 27)⟩,
      ⟨some 29, none, .mv (.c (.int .i64 0))⟩] [1, 27, 28, 29])
  (.block 1
    (.loop [1, 27, 28, 29]
      (.seq (.reg [⟨some 30, none, .bin .lss (.t 29) (.t 28)⟩] [1, 27, 28, 29, 30])
      (.seq (.cond (.t 30)
        .skip
        (.exit 1))
      (.seq (.block 2
        (.seq (.reg [⟨some 31, none, .mv (.t 29)⟩,
            ⟨some 32, none, .ixS 7 (.t 27) (.t 29)⟩,
            ⟨some 33, none, .load (some 7) (.t 32)⟩,
            ⟨some 6, none, .alloc [.str ByteArray.empty, .int .i64 0, .int .i64 0, .int .i64 0, .int .i64 0, .int .i64 0, .int .i64 0]⟩,
            ⟨some 5, none, .mv (.t 31)⟩,
            ⟨none, none, .store 7 (.t 6) (.t 33)⟩] [1, 5, 6, 27, 28, 29])
        (.frz 6 true (.seq (.block 3
          (.seq (.reg [⟨some 35, none, .fieldAddr none 0 (.t 6)⟩,
              ⟨some 36, none, .load none (.t 35)⟩,
              ⟨some 37, none, .call (.f 52) [false] [(.t 36)]⟩,
              ⟨some 38, none, .un .not (.t 37)⟩,
              ⟨some 34, none, .mv (.t 38)⟩] [1, 5, 6, 27, 28, 29, 34])
          (.cond (.t 34)
            (.seq (.reg [⟨some 39, none, .mv (.t 5)⟩,
                ⟨some 2, none, .mv (.c (.int .i64 2))⟩,
                ⟨some 3, none, .mv (.t 39)⟩,
                ⟨some 4, none, .mv (.c (.int .i64 6))⟩] [2, 3, 4])
            .ret)
            (.seq (.reg [⟨some 41, none, .fieldAddr none 0 (.t 1)⟩,
                ⟨some 42, none, .load none (.t 41)⟩,
                ⟨some 43, none, .mv (.t 5)⟩,
                ⟨some 44, none, .subq 7 (.t 42) none (some (.t 43))⟩,
                ⟨some 45, none, .mkfunc (.func 54) [] [(.t 6)]⟩,
                ⟨some 46, none, .call (.f 53) [true, false] [(.t 44), (.t 45)]⟩,
                ⟨some 40, none, .mv (.t 46)⟩] [1, 5, 6, 27, 28, 29, 40])
            (.cond (.t 40)
              (.seq (.reg [⟨some 47, none, .mv (.t 5)⟩,
                  ⟨some 2, none, .mv (.c (.int .i64 2))⟩,
                  ⟨some 3, none, .mv (.t 47)⟩,
                  ⟨some 4, none, .mv (.c (.int .i64 5))⟩] [2, 3, 4])
              .ret)
              .skip)))))
        (.seq (.reg [⟨some 48, none, .load (some 7) (.t 6)⟩,
            ⟨some 49, none, .call (.f 55) [false] [(.t 48)]⟩,
            ⟨some 4, none, .mv (.t 49)⟩] [1, 4, 5, 27, 28, 29])
        (.seq (.reg [⟨some 50, none, .mv (.t 4)⟩,
            ⟨some 51, none, .bin .neq (.t 50) (.c (.int .i64 0))⟩] [1, 4, 5, 27, 28, 29, 51])
        (.cond (.t 51)
          (.seq (.reg [⟨some 52, none, .mv (.t 5)⟩,
              ⟨some 53, none, .mv (.t 4)⟩,
              ⟨some 2, none, .mv (.c (.int .i64 2))⟩,
              ⟨some 3, none, .mv (.t 52)⟩,
              ⟨some 4, none, .mv (.t 53)⟩] [2, 3, 4])
          .ret)
          .skip)))))))
      (.reg [⟨some 54, none, .bin .add (.t 29) (.c (.int .i64 1))⟩,
          ⟨some 29, none, .mv (.t 54)⟩] [1, 27, 28, 29])))))))
  (.seq (.reg [⟨some 2, none, .mv (.c (.int .i64 0))⟩,
      ⟨some 3, none, .mv (.c (.int .i64 0))⟩,
      ⟨some 4, none, .mv (.c (.int .i64 0))⟩] [2, 3, 4])
  .ret))))
abbrev R_stand_Check : List (Nat × Option (Option Nat)) := [(2, none), (3, none), (4, none)]
theorem K_stand_Check : chkF Try.prog Try.f17 55 C_stand_Check R_stand_Check = true := by kernel_rfl
theorem spec_stand_Check {args : List AVal} {σ : AHeap} {R : ARes → AHeap → Prop} (ha : args.length ≤ 55) (h : AW Try.prog 55 none C_stand_Check (bodyQ R_stand_Check R) { v := argEnv args 0, ds := [] } σ) : Spec Try.prog F_stand_Check args σ R := Spec.of_fn Try.func17 K_stand_Check ha h
theorem B_stand_Check : hasBody Try.prog F_stand_Check = true := by kernel_rfl
theorem E_stand_Check : EntOk Try.prog ⟨17, 55, C_stand_Check, R_stand_Check, false⟩ := ⟨fun _ => ⟨B_stand_Check, _, Try.func17, K_stand_Check⟩, fun h => by cases h⟩

abbrev F_r05_Check : FuncId := 18
/-- orlop/orlopref05.Check: parameters ['api.StHull'], results ['int', 'int', 'api.Errno'] -/
def C_r05_Check : AC :=
  (.seq (.reg [⟨some 1, none, .pbox 3 (.t 0)⟩,
      ⟨some 2, none, .mv (.c (.int .i64 0))⟩,
      ⟨some 3, none, .mv (.c (.int .i64 0))⟩,
      ⟨some 4, none, .mv (.c (.int .i64 0))⟩] [1])
  (.seq (.seq (.reg [⟨some 8, none, .fieldAddr none 0 (.t 1)⟩,
      ⟨some 9, none, .load none (.t 8)⟩,
      ⟨some 10, none, .len (.t 9)⟩,
      ⟨some 11, none, .call (.f 56) [false, false, false] [(.t 10), (.c (.int .i64 1)), (.c (.int .i64 10))]⟩,
      ⟨some 12, none, .un .not (.t 11)⟩] [1, 12])
  (.cond (.t 12)
    (.seq (.reg [⟨some 2, none, .mv (.c (.int .i64 1))⟩,
        ⟨some 3, none, .mv (.c (.int .i64 0))⟩,
        ⟨some 4, none, .mv (.c (.int .i64 3))⟩] [2, 3, 4])
    .ret)
    .skip))
  (.seq (.seq (.reg [⟨some 13, none, .fieldAddr none 1 (.t 1)⟩,
      ⟨some 14, none, .load none (.t 13)⟩,
      ⟨some 15, none, .call (.f 56) [false, false, false] [(.t 14), (.c (.int .i64 0)), (.c (.int .i64 5000))]⟩,
      ⟨some 16, none, .un .not (.t 15)⟩,
      ⟨some 17, none, .mv (.t 16)⟩,
      ⟨some 18, (some (17, false)), .fieldAddr none 2 (.t 1)⟩,
      ⟨some 19, (some (17, false)), .load none (.t 18)⟩,
      ⟨some 20, (some (17, false)), .call (.f 56) [false, false, false] [(.t 19), (.c (.int .i64 0)), (.c (.int .i64 5000))]⟩,
      ⟨some 21, (some (17, false)), .un .not (.t 20)⟩,
      ⟨some 22, none, .pick (.t 17) (.c (.bool true)) (.t 21)⟩] [1, 22])
  (.cond (.t 22)
    (.seq (.reg [⟨some 2, none, .mv (.c (.int .i64 1))⟩,
        ⟨some 3, none, .mv (.c (.int .i64 0))⟩,
        ⟨some 4, none, .mv (.c (.int .i64 7))⟩] [2, 3, 4])
    .ret)
    .skip))
  (.seq (.seq (.reg [⟨some 23, none, .fieldAddr none 1 (.t 1)⟩,
      ⟨some 24, none, .load none (.t 23)⟩,
      ⟨some 25, none, .fieldAddr none 2 (.t 1)⟩,
      ⟨some 26, none, .load none (.t 25)⟩,
      ⟨some 27, none, .bin .geq (.t 24) (.t 26)⟩] [1, 27])
  (.cond (.t 27)
    (.seq (.reg [⟨some 2, none, .mv (.c (.int .i64 1))⟩,
        ⟨some 3, none, .mv (.c (.int .i64 0))⟩,
        ⟨some 4, none, .mv (.c (.int .i64 2))⟩] [2, 3, 4])
    .ret)
    .skip))
  (.seq (.reg [⟨some 5, none, .nilS 1 1⟩] [1, 5])
  (.seq (.seq (.reg [⟨some 6, none, .mv (.c (.int .i64 0))⟩] [1, 5, 6])
  (.block 0
    (.loop [1, 5, 6]
      (.seq (.seq (.reg [⟨some 28, none, .mv (.t 6)⟩,
          ⟨some 29, none, .fieldAddr none 0 (.t 1)⟩,
          ⟨some 30, none, .load none (.t 29)⟩,
          ⟨some 31, none, .len (.t 30)⟩,
          ⟨some 32, none, .bin .lss (.t 28) (.t 31)⟩] [1, 5, 6, 32])
      (.cond (.t 32)
        .skip
        (.exit 0)))
      (.seq (.block 1
        (.seq (.reg [⟨some 35, none, .fieldAddr none 0 (.t 1)⟩,
            ⟨some 36, none, .load none (.t 35)⟩,
            ⟨some 37, none, .mv (.t 6)⟩,
            ⟨some 38, none, .ixS 7 (.t 36) (.t 37)⟩,
            ⟨some 39, none, .fieldAddr none 0 (.t 38)⟩,
            ⟨some 40, none, .load none (.t 39)⟩,
            ⟨some 41, none, .mv (.t 5)⟩,
            ⟨some 42, none, .call (.f 57) [false, true] [(.t 40), (.t 41)]⟩,
            ⟨some 7, none, .mv (.t 42)⟩] [1, 5, 6, 7])
        (.seq (.reg [⟨some 43, none, .mv (.t 5)⟩,
            ⟨some 44, none, .fieldAddr none 0 (.t 1)⟩,
            ⟨some 45, none, .load none (.t 44)⟩,
            ⟨some 46, none, .mv (.t 6)⟩,
            ⟨some 47, none, .ixS 7 (.t 45) (.t 46)⟩,
            ⟨some 48, none, .fieldAddr none 0 (.t 47)⟩,
            ⟨some 49, none, .load none (.t 48)⟩,
            ⟨some 50, none, .lit 0 1 1 [(0, (.t 49))]⟩,
            ⟨some 51, none, .append 1 16 (.t 43) (.t 50)⟩,
            ⟨some 5, none, .mv (.t 51)⟩] [1, 5, 6, 7])
        (.seq (.seq (.reg [⟨some 52, none, .mv (.t 7)⟩,
            ⟨some 53, none, .bin .eql (.t 52) (.c (.int .i64 0))⟩] [1, 5, 6, 7, 53])
        (.cond (.t 53)
          (.reg [⟨some 54, none, .fieldAddr none 0 (.t 1)⟩,
              ⟨some 55, none, .load none (.t 54)⟩,
              ⟨some 56, none, .mv (.t 6)⟩,
              ⟨some 57, none, .ixS 7 (.t 55) (.t 56)⟩,
              ⟨some 58, none, .load (some 7) (.t 57)⟩,
              ⟨some 59, none, .call (.f 58) [false] [(.t 58)]⟩,
              ⟨some 7, none, .mv (.t 59)⟩] [1, 5, 6, 7])
          .skip))
        (.seq (.reg [⟨some 60, none, .mv (.t 7)⟩,
            ⟨some 61, none, .bin .neq (.t 60) (.c (.int .i64 0))⟩] [1, 5, 6, 7, 61])
        (.cond (.t 61)
          (.seq (.reg [⟨some 62, none, .mv (.t 6)⟩,
              ⟨some 63, none, .mv (.t 7)⟩,
              ⟨some 2, none, .mv (.c (.int .i64 2))⟩,
              ⟨some 3, none, .mv (.t 62)⟩,
              ⟨some 4, none, .mv (.t 63)⟩] [2, 3, 4])
          .ret)
          .skip))))))
      (.reg [⟨some 33, none, .mv (.t 6)⟩,
          ⟨some 34, none, .bin .add (.t 33) (.c (.int .i64 1))⟩,
          ⟨some 6, none, .mv (.t 34)⟩] [1, 5, 6]))))))
  (.seq (.reg [⟨some 2, none, .mv (.c (.int .i64 0))⟩,
      ⟨some 3, none, .mv (.c (.int .i64 0))⟩,
      ⟨some 4, none, .mv (.c (.int .i64 0))⟩] [2, 3, 4])
  .ret)))))))
abbrev R_r05_Check : List (Nat × Option (Option Nat)) := [(2, none), (3, none), (4, none)]
theorem K_r05_Check : chkF Try.prog Try.f18 64 C_r05_Check R_r05_Check = true := by kernel_rfl
theorem spec_r05_Check {args : List AVal} {σ : AHeap} {R : ARes → AHeap → Prop} (ha : args.length ≤ 64) (h : AW Try.prog 64 none C_r05_Check (bodyQ R_r05_Check R) { v := argEnv args 0, ds := [] } σ) : Spec Try.prog F_r05_Check args σ R := Spec.of_fn Try.func18 K_r05_Check ha h
theorem B_r05_Check : hasBody Try.prog F_r05_Check = true := by kernel_rfl
theorem E_r05_Check : EntOk Try.prog ⟨18, 64, C_r05_Check, R_r05_Check, false⟩ := ⟨fun _ => ⟨B_r05_Check, _, Try.func18, K_r05_Check⟩, fun h => by cases h⟩

abbrev F_stand_Balance : FuncId := 19
/-- orlop/stand.Balance: parameters ['api.StHull', 'api.StTruth', 'int'], results ['api.StBalance', 'api.Errno'] -/
def C_stand_Balance : AC :=
  (.seq (.reg [⟨some 3, none, .pbox 3 (.t 0)⟩,
      ⟨some 4, none, .pbox 2 (.t 1)⟩,
      ⟨some 6, none, .alloc [.int .i64 0, .int .i64 0, .int .i64 0]⟩,
      ⟨some 7, none, .mv (.c (.int .i64 0))⟩] [2, 3, 4, 6])
  (.seq (.reg [⟨some 11, none, .load (some 3) (.t 3)⟩,
      ⟨some 12, none, .load (some 2) (.t 4)⟩,
      ⟨some 13, none, .mv (.t 2)⟩,
      ⟨some 14, none, .call (.f 59) [true, true, false] [(.t 11), (.t 12), (.t 13)]⟩,
      ⟨some 10, none, .mv (.t 14)⟩,
      ⟨some 15, none, .extract (.t 10) 0⟩,
      ⟨some 16, none, .extract (.t 10) 1⟩,
      ⟨some 8, none, .alloc [.slice 7 [], .int .i64 0, .int .i64 0]⟩,
      ⟨none, none, .store 3 (.t 8) (.t 15)⟩,
      ⟨some 9, none, .mv (.t 16)⟩] [2, 4, 6, 8, 9])
  (.frz 8 true (.seq (.seq (.reg [⟨some 17, none, .mv (.t 9)⟩,
      ⟨some 18, none, .bin .neq (.t 17) (.c (.int .i64 0))⟩] [2, 4, 6, 8, 9, 18])
  (.cond (.t 18)
    (.seq (.reg [⟨some 19, none, .build [.int .i64 0, .int .i64 0, .int .i64 0] []⟩,
        ⟨some 20, none, .mv (.t 9)⟩,
        ⟨none, none, .store 3 (.t 6) (.t 19)⟩,
        ⟨some 7, none, .mv (.t 20)⟩] [6, 7])
    .ret)
    .skip))
  (.seq (.reg [⟨some 21, none, .load (some 3) (.t 8)⟩,
      ⟨some 22, none, .load (some 2) (.t 4)⟩,
      ⟨some 23, none, .mv (.t 2)⟩,
      ⟨some 24, none, .call (.f 60) [true, true, false] [(.t 21), (.t 22), (.t 23)]⟩,
      ⟨some 25, none, .call (.f 61) [false] [(.t 24)]⟩,
      ⟨none, none, .store 3 (.t 6) (.t 25)⟩,
      ⟨some 7, none, .mv (.c (.int .i64 0))⟩] [6, 7])
  .ret)))))
abbrev R_stand_Balance : List (Nat × Option (Option Nat)) := [(6, some (some 3)), (7, none)]
theorem K_stand_Balance : chkF Try.prog Try.f19 26 C_stand_Balance R_stand_Balance = true := by kernel_rfl
theorem spec_stand_Balance {args : List AVal} {σ : AHeap} {R : ARes → AHeap → Prop} (ha : args.length ≤ 26) (h : AW Try.prog 26 none C_stand_Balance (bodyQ R_stand_Balance R) { v := argEnv args 0, ds := [] } σ) : Spec Try.prog F_stand_Balance args σ R := Spec.of_fn Try.func19 K_stand_Balance ha h
theorem B_stand_Balance : hasBody Try.prog F_stand_Balance = true := by kernel_rfl
theorem E_stand_Balance : EntOk Try.prog ⟨19, 26, C_stand_Balance, R_stand_Balance, false⟩ := ⟨fun _ => ⟨B_stand_Balance, _, Try.func19, K_stand_Balance⟩, fun h => by cases h⟩

abbrev F_r05_Balance : FuncId := 20
/-- orlop/orlopref05.Balance: parameters ['api.StHull', 'api.StTruth', 'int'], results ['api.StBalance', 'api.Errno'] -/
def C_r05_Balance : AC :=
  (.seq (.reg [⟨some 3, none, .pbox 3 (.t 0)⟩,
      ⟨some 4, none, .pbox 2 (.t 1)⟩,
      ⟨some 6, none, .alloc [.int .i64 0, .int .i64 0, .int .i64 0]⟩,
      ⟨some 7, none, .mv (.c (.int .i64 0))⟩] [2, 3, 4, 6])
  (.seq (.reg [⟨some 9, none, .load (some 3) (.t 3)⟩,
      ⟨some 10, none, .load (some 2) (.t 4)⟩,
      ⟨some 11, none, .call (.f 47) [true, true] [(.t 9), (.t 10)]⟩,
      ⟨some 12, none, .mv (.t 2)⟩,
      ⟨some 13, none, .call (.f 62) [false, false] [(.t 11), (.t 12)]⟩,
      ⟨some 8, none, .mv (.t 13)⟩] [2, 3, 4, 6, 8])
  (.seq (.seq (.reg [⟨some 14, none, .mv (.t 8)⟩,
      ⟨some 15, none, .bin .neq (.t 14) (.c (.int .i64 0))⟩] [2, 3, 4, 6, 8, 15])
  (.cond (.t 15)
    (.seq (.reg [⟨some 16, none, .build [.int .i64 0, .int .i64 0, .int .i64 0] []⟩,
        ⟨some 17, none, .mv (.t 8)⟩,
        ⟨none, none, .store 3 (.t 6) (.t 16)⟩,
        ⟨some 7, none, .mv (.t 17)⟩] [6, 7])
    .ret)
    .skip))
  (.seq (.reg [⟨some 18, none, .load (some 3) (.t 3)⟩,
      ⟨some 19, none, .load (some 2) (.t 4)⟩,
      ⟨some 20, none, .mv (.t 2)⟩,
      ⟨some 21, none, .call (.f 63) [true, true, false] [(.t 18), (.t 19), (.t 20)]⟩,
      ⟨none, none, .store 3 (.t 6) (.t 21)⟩,
      ⟨some 7, none, .mv (.c (.int .i64 0))⟩] [6, 7])
  .ret))))
abbrev R_r05_Balance : List (Nat × Option (Option Nat)) := [(6, some (some 3)), (7, none)]
theorem K_r05_Balance : chkF Try.prog Try.f20 22 C_r05_Balance R_r05_Balance = true := by kernel_rfl
theorem spec_r05_Balance {args : List AVal} {σ : AHeap} {R : ARes → AHeap → Prop} (ha : args.length ≤ 22) (h : AW Try.prog 22 none C_r05_Balance (bodyQ R_r05_Balance R) { v := argEnv args 0, ds := [] } σ) : Spec Try.prog F_r05_Balance args σ R := Spec.of_fn Try.func20 K_r05_Balance ha h
theorem B_r05_Balance : hasBody Try.prog F_r05_Balance = true := by kernel_rfl
theorem E_r05_Balance : EntOk Try.prog ⟨20, 22, C_r05_Balance, R_r05_Balance, false⟩ := ⟨fun _ => ⟨B_r05_Balance, _, Try.func20, K_r05_Balance⟩, fun h => by cases h⟩

abbrev F_stand_Least : FuncId := 21
/-- orlop/stand.Least: parameters ['api.StHull', 'int'], results ['api.StBalance', 'api.Errno'] -/
def C_stand_Least : AC :=
  (.seq (.reg [⟨some 2, none, .pbox 3 (.t 0)⟩,
      ⟨some 4, none, .alloc [.int .i64 0, .int .i64 0, .int .i64 0]⟩,
      ⟨some 5, none, .mv (.c (.int .i64 0))⟩] [1, 2, 4])
  (.seq (.reg [⟨some 9, none, .load (some 3) (.t 2)⟩,
      ⟨some 10, none, .mv (.t 1)⟩,
      ⟨some 11, none, .call (.f 64) [true, false] [(.t 9), (.t 10)]⟩,
      ⟨some 8, none, .mv (.t 11)⟩,
      ⟨some 12, none, .extract (.t 8) 0⟩,
      ⟨some 13, none, .extract (.t 8) 1⟩,
      ⟨some 6, none, .alloc [.slice 7 [], .int .i64 0, .int .i64 0]⟩,
      ⟨none, none, .store 3 (.t 6) (.t 12)⟩,
      ⟨some 7, none, .mv (.t 13)⟩] [1, 4, 6, 7])
  (.frz 6 true (.seq (.seq (.reg [⟨some 14, none, .mv (.t 7)⟩,
      ⟨some 15, none, .bin .neq (.t 14) (.c (.int .i64 0))⟩] [1, 4, 6, 7, 15])
  (.cond (.t 15)
    (.seq (.reg [⟨some 16, none, .build [.int .i64 0, .int .i64 0, .int .i64 0] []⟩,
        ⟨some 17, none, .mv (.t 7)⟩,
        ⟨none, none, .store 3 (.t 4) (.t 16)⟩,
        ⟨some 5, none, .mv (.t 17)⟩] [4, 5])
    .ret)
    .skip))
  (.seq (.reg [⟨some 18, none, .load (some 3) (.t 6)⟩,
      ⟨some 19, none, .mv (.t 1)⟩,
      ⟨some 20, none, .call (.f 65) [true, false] [(.t 18), (.t 19)]⟩,
      ⟨some 21, none, .call (.f 61) [false] [(.t 20)]⟩,
      ⟨none, none, .store 3 (.t 4) (.t 21)⟩,
      ⟨some 5, none, .mv (.c (.int .i64 0))⟩] [4, 5])
  .ret)))))
abbrev R_stand_Least : List (Nat × Option (Option Nat)) := [(4, some (some 3)), (5, none)]
theorem K_stand_Least : chkF Try.prog Try.f21 22 C_stand_Least R_stand_Least = true := by kernel_rfl
theorem spec_stand_Least {args : List AVal} {σ : AHeap} {R : ARes → AHeap → Prop} (ha : args.length ≤ 22) (h : AW Try.prog 22 none C_stand_Least (bodyQ R_stand_Least R) { v := argEnv args 0, ds := [] } σ) : Spec Try.prog F_stand_Least args σ R := Spec.of_fn Try.func21 K_stand_Least ha h
theorem B_stand_Least : hasBody Try.prog F_stand_Least = true := by kernel_rfl
theorem E_stand_Least : EntOk Try.prog ⟨21, 22, C_stand_Least, R_stand_Least, false⟩ := ⟨fun _ => ⟨B_stand_Least, _, Try.func21, K_stand_Least⟩, fun h => by cases h⟩

abbrev F_r05_Least : FuncId := 22
/-- orlop/orlopref05.Least: parameters ['api.StHull', 'int'], results ['api.StBalance', 'api.Errno'] -/
def C_r05_Least : AC :=
  (.seq (.reg [⟨some 2, none, .pbox 3 (.t 0)⟩,
      ⟨some 4, none, .alloc [.int .i64 0, .int .i64 0, .int .i64 0]⟩,
      ⟨some 5, none, .mv (.c (.int .i64 0))⟩] [1, 2, 4])
  (.seq (.reg [⟨some 10, none, .load (some 3) (.t 2)⟩,
      ⟨some 11, none, .call (.f 18) [true] [(.t 10)]⟩,
      ⟨some 9, none, .mv (.t 11)⟩,
      ⟨some 12, none, .extract (.t 9) 0⟩,
      ⟨some 13, none, .extract (.t 9) 1⟩,
      ⟨some 14, none, .extract (.t 9) 2⟩,
      ⟨some 6, none, .mv (.t 12)⟩,
      ⟨some 7, none, .mv (.t 13)⟩,
      ⟨some 8, none, .mv (.t 14)⟩] [1, 2, 4, 8])
  (.seq (.reg [⟨some 15, none, .mv (.t 8)⟩,
      ⟨some 16, none, .mv (.t 1)⟩,
      ⟨some 17, none, .call (.f 62) [false, false] [(.t 15), (.t 16)]⟩,
      ⟨some 8, none, .mv (.t 17)⟩] [1, 2, 4, 8])
  (.seq (.seq (.reg [⟨some 18, none, .mv (.t 8)⟩,
      ⟨some 19, none, .bin .neq (.t 18) (.c (.int .i64 0))⟩] [1, 2, 4, 8, 19])
  (.cond (.t 19)
    (.seq (.reg [⟨some 20, none, .build [.int .i64 0, .int .i64 0, .int .i64 0] []⟩,
        ⟨some 21, none, .mv (.t 8)⟩,
        ⟨none, none, .store 3 (.t 4) (.t 20)⟩,
        ⟨some 5, none, .mv (.t 21)⟩] [4, 5])
    .ret)
    .skip))
  (.seq (.reg [⟨some 22, none, .load (some 3) (.t 2)⟩,
      ⟨some 23, none, .mv (.t 1)⟩,
      ⟨some 24, none, .call (.f 66) [true, false] [(.t 22), (.t 23)]⟩,
      ⟨none, none, .store 3 (.t 4) (.t 24)⟩,
      ⟨some 5, none, .mv (.c (.int .i64 0))⟩] [4, 5])
  .ret)))))
abbrev R_r05_Least : List (Nat × Option (Option Nat)) := [(4, some (some 3)), (5, none)]
theorem K_r05_Least : chkF Try.prog Try.f22 25 C_r05_Least R_r05_Least = true := by kernel_rfl
theorem spec_r05_Least {args : List AVal} {σ : AHeap} {R : ARes → AHeap → Prop} (ha : args.length ≤ 25) (h : AW Try.prog 25 none C_r05_Least (bodyQ R_r05_Least R) { v := argEnv args 0, ds := [] } σ) : Spec Try.prog F_r05_Least args σ R := Spec.of_fn Try.func22 K_r05_Least ha h
theorem B_r05_Least : hasBody Try.prog F_r05_Least = true := by kernel_rfl
theorem E_r05_Least : EntOk Try.prog ⟨22, 25, C_r05_Least, R_r05_Least, false⟩ := ⟨fun _ => ⟨B_r05_Least, _, Try.func22, K_r05_Least⟩, fun h => by cases h⟩

abbrev F_l05_Awake : FuncId := 23
/-- orlop/orloplaw05.Awake: parameters [], results ['bool'] -/
def C_l05_Awake : AC :=
  (.seq (.reg [⟨some 0, none, .mv (.c (.bool false))⟩] [])
  (.seq (.reg [⟨some 24, none, .call (.f 38) [] []⟩,
      ⟨some 25, none, .call (.f 39) [] []⟩,
      ⟨some 26, none, .call (.f 19) [true, true, false] [(.t 24), (.t 25), (.c (.int .i64 134))]⟩,
      ⟨some 23, none, .mv (.t 26)⟩,
      ⟨some 27, none, .extract (.t 23) 0⟩,
      ⟨some 28, none, .extract (.t 23) 1⟩,
      ⟨some 1, none, .alloc [.int .i64 0, .int .i64 0, .int .i64 0]⟩,
      ⟨none, none, .store 3 (.t 1) (.t 27)⟩,
      ⟨some 2, none, .mv (.t 28)⟩] [1, 2])
  (.frz 1 true (.seq (.reg [⟨some 30, none, .call (.f 38) [] []⟩,
      ⟨some 31, none, .call (.f 21) [true, false] [(.t 30), (.c (.int .i64 150))]⟩,
      ⟨some 29, none, .mv (.t 31)⟩,
      ⟨some 32, none, .extract (.t 29) 0⟩,
      ⟨some 33, none, .extract (.t 29) 1⟩,
      ⟨some 3, none, .alloc [.int .i64 0, .int .i64 0, .int .i64 0]⟩,
      ⟨none, none, .store 3 (.t 3) (.t 32)⟩,
      ⟨some 4, none, .mv (.t 33)⟩] [1, 2, 3, 4])
  (.frz 3 true (.seq (.reg [⟨some 35, none, .call (.f 38) [] []⟩,
      ⟨some 36, none, .call (.f 40) [false, false] [(.c (.int .i64 0)), (.c (.int .i64 150))]⟩,
      ⟨some 37, none, .call (.f 24) [true, false] [(.t 35), (.t 36)]⟩,
      ⟨some 34, none, .mv (.t 37)⟩,
      ⟨some 38, none, .extract (.t 34) 0⟩,
      ⟨some 39, none, .extract (.t 34) 1⟩,
      ⟨some 40, none, .extract (.t 34) 2⟩,
      ⟨some 5, none, .mv (.t 38)⟩,
      ⟨some 6, none, .mv (.t 39)⟩,
      ⟨some 7, none, .mv (.t 40)⟩] [1, 2, 3, 4, 5, 6, 7])
  (.seq (.reg [⟨some 42, none, .call (.f 38) [] []⟩,
      ⟨some 43, none, .call (.f 26) [true, false] [(.t 42), (.c (.int .i64 134))]⟩,
      ⟨some 41, none, .mv (.t 43)⟩,
      ⟨some 44, none, .extract (.t 41) 0⟩,
      ⟨some 45, none, .extract (.t 41) 1⟩,
      ⟨some 46, none, .extract (.t 41) 2⟩,
      ⟨some 8, none, .alloc [.slice 1 [], .slice 1 []]⟩,
      ⟨none, none, .store 2 (.t 8) (.t 44)⟩,
      ⟨some 9, none, .mv (.t 45)⟩,
      ⟨some 10, none, .mv (.t 46)⟩] [1, 2, 3, 4, 5, 6, 7, 8, 9, 10])
  (.frz 8 true (.seq (.reg [⟨some 48, none, .call (.f 38) [] []⟩,
      ⟨some 49, none, .call (.f 39) [] []⟩,
      ⟨some 50, none, .call (.f 31) [true, true, false] [(.t 48), (.t 49), (.c (.int .i64 0))]⟩,
      ⟨some 47, none, .mv (.t 50)⟩,
      ⟨some 51, none, .extract (.t 47) 0⟩,
      ⟨some 52, none, .extract (.t 47) 1⟩,
      ⟨some 11, none, .mv (.t 51)⟩,
      ⟨some 12, none, .mv (.t 52)⟩] [1, 2, 3, 4, 5, 6, 7, 8, 9, 10, 11, 12])
  (.seq (.reg [⟨some 54, none, .call (.f 38) [] []⟩,
      ⟨some 55, none, .call (.f 39) [] []⟩,
      ⟨some 56, none, .call (.f 67) [] []⟩,
      ⟨some 57, none, .call (.f 34) [true, true, false, true] [(.t 54), (.t 55), (.c (.int .i64 0)), (.t 56)]⟩,
      ⟨some 53, none, .mv (.t 57)⟩,
      ⟨some 58, none, .extract (.t 53) 0⟩,
      ⟨some 59, none, .extract (.t 53) 1⟩,
      ⟨some 13, none, .mv (.t 58)⟩,
      ⟨some 14, none, .mv (.t 59)⟩] [1, 2, 3, 4, 5, 6, 7, 8, 9, 10, 11, 12, 13, 14])
  (.seq (.reg [⟨some 61, none, .call (.f 38) [] []⟩,
      ⟨some 62, none, .call (.f 39) [] []⟩,
      ⟨some 63, none, .call (.f 67) [] []⟩,
      ⟨some 64, none, .subq 2 (.t 63) none (some (.c (.int .i64 1)))⟩,
      ⟨some 65, none, .call (.f 34) [true, true, false, true] [(.t 61), (.t 62), (.c (.int .i64 0)), (.t 64)]⟩,
      ⟨some 60, none, .mv (.t 65)⟩,
      ⟨some 66, none, .extract (.t 60) 0⟩,
      ⟨some 67, none, .extract (.t 60) 1⟩,
      ⟨some 15, none, .mv (.t 66)⟩,
      ⟨some 16, none, .mv (.t 67)⟩] [1, 2, 3, 4, 5, 6, 7, 8, 9, 10, 11, 12, 13, 14, 15, 16])
  (.seq (.reg [⟨some 69, none, .call (.f 38) [] []⟩,
      ⟨some 70, none, .call (.f 29) [true] [(.t 69)]⟩,
      ⟨some 68, none, .mv (.t 70)⟩,
      ⟨some 71, none, .extract (.t 68) 0⟩,
      ⟨some 72, none, .extract (.t 68) 1⟩,
      ⟨some 17, none, .mv (.t 71)⟩,
      ⟨some 18, none, .mv (.t 72)⟩] [1, 2, 3, 4, 5, 6, 7, 8, 9, 10, 11, 12, 13, 14, 15, 16, 17, 18])
  (.seq (.reg [⟨some 74, none, .call (.f 38) [] []⟩,
      ⟨some 75, none, .call (.f 40) [false, false] [(.c (.int .i64 0)), (.c (.int .i64 150))]⟩,
      ⟨some 76, none, .call (.f 36) [true, false, false] [(.t 74), (.c (.int .i64 1)), (.t 75)]⟩,
      ⟨some 73, none, .mv (.t 76)⟩,
      ⟨some 77, none, .extract (.t 73) 0⟩,
      ⟨some 78, none, .extract (.t 73) 1⟩,
      ⟨some 19, none, .mv (.t 77)⟩,
      ⟨some 20, none, .mv (.t 78)⟩] [1, 2, 3, 4, 5, 6, 7, 8, 9, 10, 11, 12, 13, 14, 15, 16, 17, 18, 19, 20])
  (.seq (.reg [⟨some 80, none, .call (.f 38) [] []⟩,
      ⟨some 81, none, .call (.f 40) [false, false] [(.c (.int .i64 0)), (.c (.int .i64 150))]⟩,
      ⟨some 82, none, .call (.f 36) [true, false, false] [(.t 80), (.c (.int .i64 0)), (.t 81)]⟩,
      ⟨some 79, none, .mv (.t 82)⟩,
      ⟨some 83, none, .extract (.t 79) 0⟩,
      ⟨some 84, none, .extract (.t 79) 1⟩,
      ⟨some 21, none, .mv (.t 83)⟩,
      ⟨some 22, none, .mv (.t 84)⟩] [1, 2, 3, 4, 5, 6, 7, 8, 9, 10, 11, 12, 13, 14, 15, 16, 17, 18, 19, 20, 22])
  (.seq (.dreg [⟨some 85, none, .mv (.t 2)⟩,
      ⟨some 86, none, .bin .eql (.t 85) (.c (.int .i64 0))⟩,
      ⟨some 87, none, .mv (.t 86)⟩,
      ⟨some 88, (some (87, true)), .mv (.t 4)⟩,
      ⟨some 89, (some (87, true)), .bin .eql (.t 88) (.c (.int .i64 0))⟩,
      ⟨some 90, none, .pick (.t 87) (.t 89) (.c (.bool false))⟩,
      ⟨some 91, none, .mv (.t 90)⟩,
      ⟨some 92, (some (91, true)), .mv (.t 7)⟩,
      ⟨some 93, (some (91, true)), .bin .eql (.t 92) (.c (.int .i64 0))⟩,
      ⟨some 94, none, .pick (.t 91) (.t 93) (.c (.bool false))⟩,
      ⟨some 95, none, .mv (.t 94)⟩,
      ⟨some 96, (some (95, true)), .mv (.t 10)⟩,
      ⟨some 97, (some (95, true)), .bin .eql (.t 96) (.c (.int .i64 0))⟩,
      ⟨some 98, none, .pick (.t 95) (.t 97) (.c (.bool false))⟩,
      ⟨some 99, none, .mv (.t 98)⟩,
      ⟨some 100, (some (99, true)), .mv (.t 12)⟩,
      ⟨some 101, (some (99, true)), .bin .eql (.t 100) (.c (.int .i64 0))⟩,
      ⟨some 102, none, .pick (.t 99) (.t 101) (.c (.bool false))⟩,
      ⟨some 103, none, .mv (.t 102)⟩,
      ⟨some 104, (some (103, true)), .mv (.t 14)⟩,
      ⟨some 105, (some (103, true)), .bin .eql (.t 104) (.c (.int .i64 0))⟩,
      ⟨some 106, none, .pick (.t 103) (.t 105) (.c (.bool false))⟩,
      ⟨some 107, none, .mv (.t 106)⟩,
      ⟨some 108, (some (107, true)), .mv (.t 16)⟩,
      ⟨some 109, (some (107, true)), .bin .eql (.t 108) (.c (.int .i64 0))⟩,
      ⟨some 110, none, .pick (.t 107) (.t 109) (.c (.bool false))⟩,
      ⟨some 111, none, .mv (.t 110)⟩,
      ⟨some 112, (some (111, true)), .mv (.t 18)⟩,
      ⟨some 113, (some (111, true)), .bin .eql (.t 112) (.c (.int .i64 0))⟩,
      ⟨some 114, none, .pick (.t 111) (.t 113) (.c (.bool false))⟩,
      ⟨some 115, none, .mv (.t 114)⟩,
      ⟨some 116, (some (115, true)), .mv (.t 20)⟩,
      ⟨some 117, (some (115, true)), .bin .eql (.t 116) (.c (.int .i64 0))⟩,
      ⟨some 118, none, .pick (.t 115) (.t 117) (.c (.bool false))⟩,
      ⟨some 119, none, .mv (.t 118)⟩,
      ⟨some 120, (some (119, true)), .mv (.t 22)⟩,
      ⟨some 121, (some (119, true)), .bin .eql (.t 120) (.c (.int .i64 2))⟩,
      ⟨some 122, none, .pick (.t 119) (.t 121) (.c (.bool false))⟩,
      ⟨some 123, none, .mv (.t 122)⟩,
      ⟨some 124, (some (123, true)), .load (some 3) (.t 1)⟩,
      ⟨some 125, (some (123, true)), .build [.int .i64 0, .int .i64 0, .int .i64 0] [(0, 1, (.c (.int .i64 1642))), (1, 1, (.c (.int .i64 990800))), (2, 1, (.c (.int .i64 (-5600))))]⟩,
      ⟨some 126, (some (123, true)), .eqa false [.i, .i, .i] (.t 124) (.t 125)⟩,
      ⟨some 127, none, .pick (.t 123) (.t 126) (.c (.bool false))⟩,
      ⟨some 128, none, .mv (.t 127)⟩,
      ⟨some 129, (some (128, true)), .load (some 3) (.t 3)⟩,
      ⟨some 130, (some (128, true)), .build [.int .i64 0, .int .i64 0, .int .i64 0] [(0, 1, (.c (.int .i64 1050))), (1, 1, (.c (.int .i64 730000))), (2, 1, (.c (.int .i64 (-140000))))]⟩,
      ⟨some 131, (some (128, true)), .eqa false [.i, .i, .i] (.t 129) (.t 130)⟩,
      ⟨some 132, none, .pick (.t 128) (.t 131) (.c (.bool false))⟩,
      ⟨some 133, none, .mv (.t 132)⟩,
      ⟨some 134, (some (133, true)), .mv (.t 5)⟩,
      ⟨some 135, (some (133, true)), .bin .eql (.t 134) (.c (.int .i64 3))⟩,
      ⟨some 136, none, .pick (.t 133) (.t 135) (.c (.bool false))⟩,
      ⟨some 137, none, .mv (.t 136)⟩,
      ⟨some 138, (some (137, true)), .mv (.t 6)⟩,
      ⟨some 139, (some (137, true)), .bin .eql (.t 138) (.c (.int .i64 134))⟩,
      ⟨some 140, none, .pick (.t 137) (.t 139) (.c (.bool false))⟩,
      ⟨some 141, none, .mv (.t 140)⟩,
      ⟨some 142, (some (141, true)), .load (some 2) (.t 8)⟩,
      ⟨some 143, (some (141, true)), .call (.f 39) [] []⟩,
      ⟨some 144, (some (141, true)), .call (.f 28) [true, true] [(.t 142), (.t 143)]⟩,
      ⟨some 145, none, .pick (.t 141) (.t 144) (.c (.bool false))⟩,
      ⟨some 146, none, .mv (.t 145)⟩,
      ⟨some 147, (some (146, true)), .mv (.t 9)⟩,
      ⟨some 148, (some (146, true)), .bin .eql (.t 147) (.c (.int .i64 3))⟩,
      ⟨some 149, none, .pick (.t 146) (.t 148) (.c (.bool false))⟩,
      ⟨some 150, none, .mv (.t 149)⟩,
      ⟨some 151, (some (150, true)), .mv (.t 11)⟩,
      ⟨some 152, (some (150, true)), .build [.int .i64 0, .int .i64 0] [(0, 1, (.c (.int .i64 200))), (1, 1, (.c (.int .i64 700000)))]⟩,
      ⟨some 153, (some (150, true)), .build [.int .i64 0, .int .i64 0] [(0, 1, (.c (.int .i64 800))), (1, 1, (.c (.int .i64 1400000)))]⟩,
      ⟨some 154, (some (150, true)), .lit 0 2 2 [(0, (.t 152)), (1, (.t 153))]⟩,
      ⟨some 155, (some (150, true)), .call (.f 33) [true, true] [(.t 151), (.t 154)]⟩,
      ⟨some 156, none, .pick (.t 150) (.t 155) (.c (.bool false))⟩,
      ⟨some 157, none, .mv (.t 156)⟩,
      ⟨some 158, (some (157, true)), .mv (.t 13)⟩,
      ⟨some 159, none, .pick (.t 157) (.t 158) (.c (.bool false))⟩,
      ⟨some 160, none, .mv (.t 159)⟩,
      ⟨some 161, (some (160, true)), .mv (.t 15)⟩,
      ⟨some 162, (some (160, true)), .un .not (.t 161)⟩,
      ⟨some 163, none, .pick (.t 160) (.t 162) (.c (.bool false))⟩,
      ⟨some 164, none, .mv (.t 163)⟩,
      ⟨some 165, (some (164, true)), .mv (.t 17)⟩,
      ⟨some 166, (some (164, true)), .bin .eql (.t 165) (.c (.int .i64 133))⟩,
      ⟨some 167, none, .pick (.t 164) (.t 166) (.c (.bool false))⟩,
      ⟨some 168, none, .mv (.t 167)⟩,
      ⟨some 169, (some (168, true)), .mv (.t 19)⟩,
      ⟨some 170, (some (168, true)), .bin .eql (.t 169) (.c (.int .i64 350))⟩,
      ⟨some 171, none, .pick (.t 168) (.t 170) (.c (.bool false))⟩,
      ⟨some 0, none, .mv (.t 171)⟩] [0] [[], [0], [0, 1], [0, 1, 2], [0, 1, 2, 3], [0, 1, 2, 3, 4], [0, 1, 2, 3, 4, 5], [0, 1, 2, 3, 4, 5, 6], [0, 1, 2, 3, 4, 5, 6, 7], [0, 1, 2, 3, 4, 5, 6, 7, 8], [0, 1, 2, 3, 4, 5, 6, 7, 8, 9], [0, 1, 2, 3, 4, 5, 6, 7, 8, 9, 10], [0, 1, 2, 3, 4, 5, 6, 7, 8, 9, 10, 11], [0, 1, 2, 3, 4, 5, 6, 7, 8, 9, 10, 11, 12], [0, 1, 2, 3, 4, 5, 6, 7, 8, 9, 10, 11, 12, 13], [0, 1, 2, 3, 4, 5, 6, 7, 8, 9, 10, 11, 12, 13, 14], [0, 1, 2, 3, 4, 5, 6, 7, 8, 9, 10, 11, 12, 13, 14, 15], [0, 1, 2, 3, 4, 5, 6, 7, 8, 9, 10, 11, 12, 13, 14, 15, 16], [0, 1, 2, 3, 4, 5, 6, 7, 8, 9, 10, 11, 12, 13, 14, 15, 16, 17], [0, 1, 2, 3, 4, 5, 6, 7, 8, 9, 10, 11, 12, 13, 14, 15, 16, 17, 18], [0, 1, 2, 3, 4, 5, 6, 7, 8, 9, 10, 11, 12, 13, 14, 15, 16, 17, 18, 19], [0, 1, 2, 3, 4, 5, 6, 7, 8, 9, 10, 11, 12, 13, 14, 15, 16, 17, 18, 19, 20], [0, 1, 2, 3, 4, 5, 6, 7, 8, 9, 10, 11, 12, 13, 14, 15, 16, 17, 18, 19, 20, 21], [0, 1, 2, 3, 4, 5, 6, 7, 8, 9, 10, 11, 12, 13, 14, 15, 16, 17, 18, 19, 20, 21, 22], [0, 1, 2, 3, 4, 5, 6, 7, 8, 9, 10, 11, 12, 13, 14, 15, 16, 17, 18, 19, 20, 21, 22, 23], [0, 1, 2, 3, 4, 5, 6, 7, 8, 9, 10, 11, 12, 13, 14, 15, 16, 17, 18, 19, 20, 21, 22, 23, 24], [0, 1, 2, 3, 4, 5, 6, 7, 8, 9, 10, 11, 12, 13, 14, 15, 16, 17, 18, 19, 20, 21, 22, 23, 24, 25], [0, 1, 2, 3, 4, 5, 6, 7, 8, 9, 10, 11, 12, 13, 14, 15, 16, 17, 18, 19, 20, 21, 22, 23, 24, 25, 26], [0, 1, 2, 3, 4, 5, 6, 7, 8, 9, 10, 11, 12, 13, 14, 15, 16, 17, 18, 19, 20, 21, 22, 23, 24, 25, 26, 27], [0, 1, 2, 3, 4, 5, 6, 7, 8, 9, 10, 11, 12, 13, 14, 15, 16, 17, 18, 19, 20, 21, 22, 23, 24, 25, 26, 27, 28], [0, 1, 2, 3, 4, 5, 6, 7, 8, 9, 10, 11, 12, 13, 14, 15, 16, 17, 18, 19, 20, 21, 22, 23, 24, 25, 26, 27, 28, 29], [0, 1, 2, 3, 4, 5, 6, 7, 8, 9, 10, 11, 12, 13, 14, 15, 16, 17, 18, 19, 20, 21, 22, 23, 24, 25, 26, 27, 28, 29, 30], [0, 1, 2, 3, 4, 5, 6, 7, 8, 9, 10, 11, 12, 13, 14, 15, 16, 17, 18, 19, 20, 21, 22, 23, 24, 25, 26, 27, 28, 29, 30, 31], [0, 1, 2, 3, 4, 5, 6, 7, 8, 9, 10, 11, 12, 13, 14, 15, 16, 17, 18, 19, 20, 21, 22, 23, 24, 25, 26, 27, 28, 29, 30, 31, 32], [0, 1, 2, 3, 4, 5, 6, 7, 8, 9, 10, 11, 12, 13, 14, 15, 16, 17, 18, 19, 20, 21, 22, 23, 24, 25, 26, 27, 28, 29, 30, 31, 32, 33], [0, 1, 2, 3, 4, 5, 6, 7, 8, 9, 10, 11, 12, 13, 14, 15, 16, 17, 18, 19, 20, 21, 22, 23, 24, 25, 26, 27, 28, 29, 30, 31, 32, 33, 34], [0, 1, 2, 3, 4, 5, 6, 7, 8, 9, 10, 11, 12, 13, 14, 15, 16, 17, 18, 19, 20, 21, 22, 23, 24, 25, 26, 27, 28, 29, 30, 31, 32, 33, 34, 35], [0, 1, 2, 3, 4, 5, 6, 7, 8, 9, 10, 11, 12, 13, 14, 15, 16, 17, 18, 19, 20, 21, 22, 23, 24, 25, 26, 27, 28, 29, 30, 31, 32, 33, 34, 35, 36], [0, 1, 2, 3, 4, 5, 6, 7, 8, 9, 10, 11, 12, 13, 14, 15, 16, 17, 18, 19, 20, 21, 22, 23, 24, 25, 26, 27, 28, 29, 30, 31, 32, 33, 34, 35, 36, 37], [0, 1, 2, 3, 4, 5, 6, 7, 8, 9, 10, 11, 12, 13, 14, 15, 16, 17, 18, 19, 20, 21, 22, 23, 24, 25, 26, 27, 28, 29, 30, 31, 32, 33, 34, 35, 36, 37, 38], [0, 1, 2, 3, 4, 5, 6, 7, 8, 9, 10, 11, 12, 13, 14, 15, 16, 17, 18, 19, 20, 21, 22, 23, 24, 25, 26, 27, 28, 29, 30, 31, 32, 33, 34, 35, 36, 37, 38], [0, 1, 2, 3, 4, 5, 6, 7, 8, 9, 10, 11, 12, 13, 14, 15, 16, 17, 18, 19, 20, 21, 22, 23, 24, 25, 26, 27, 28, 29, 30, 31, 32, 33, 34, 35, 36, 37, 38, 39, 40], [0, 1, 2, 3, 4, 5, 6, 7, 8, 9, 10, 11, 12, 13, 14, 15, 16, 17, 18, 19, 20, 21, 22, 23, 24, 25, 26, 27, 28, 29, 30, 31, 32, 33, 34, 35, 36, 37, 38, 39, 40, 41], [0, 1, 2, 3, 4, 5, 6, 7, 8, 9, 10, 11, 12, 13, 14, 15, 16, 17, 18, 19, 20, 21, 22, 23, 24, 25, 26, 27, 28, 29, 30, 31, 32, 33, 34, 35, 36, 37, 38, 39, 40, 41, 42], [0, 1, 2, 3, 4, 5, 6, 7, 8, 9, 10, 11, 12, 13, 14, 15, 16, 17, 18, 19, 20, 21, 22, 23, 24, 25, 26, 27, 28, 29, 30, 31, 32, 33, 34, 35, 36, 37, 38, 39, 40, 41, 42, 43], [0, 1, 2, 3, 4, 5, 6, 7, 8, 9, 10, 11, 12, 13, 14, 15, 16, 17, 18, 19, 20, 21, 22, 23, 24, 25, 26, 27, 28, 29, 30, 31, 32, 33, 34, 35, 36, 37, 38, 39, 40, 41, 42, 43], [0, 1, 2, 3, 4, 5, 6, 7, 8, 9, 10, 11, 12, 13, 14, 15, 16, 17, 18, 19, 20, 21, 22, 23, 24, 25, 26, 27, 28, 29, 30, 31, 32, 33, 34, 35, 36, 37, 38, 39, 40, 41, 42, 43, 44, 45], [0, 1, 2, 3, 4, 5, 6, 7, 8, 9, 10, 11, 12, 13, 14, 15, 16, 17, 18, 19, 20, 21, 22, 23, 24, 25, 26, 27, 28, 29, 30, 31, 32, 33, 34, 35, 36, 37, 38, 39, 40, 41, 42, 43, 44, 45, 46], [0, 1, 2, 3, 4, 5, 6, 7, 8, 9, 10, 11, 12, 13, 14, 15, 16, 17, 18, 19, 20, 21, 22, 23, 24, 25, 26, 27, 28, 29, 30, 31, 32, 33, 34, 35, 36, 37, 38, 39, 40, 41, 42, 43, 44, 45, 46, 47], [0, 1, 2, 3, 4, 5, 6, 7, 8, 9, 10, 11, 12, 13, 14, 15, 16, 17, 18, 19, 20, 21, 22, 23, 24, 25, 26, 27, 28, 29, 30, 31, 32, 33, 34, 35, 36, 37, 38, 39, 40, 41, 42, 43, 44, 45, 46, 47, 48], [0, 1, 2, 3, 4, 5, 6, 7, 8, 9, 10, 11, 12, 13, 14, 15, 16, 17, 18, 19, 20, 21, 22, 23, 24, 25, 26, 27, 28, 29, 30, 31, 32, 33, 34, 35, 36, 37, 38, 39, 40, 41, 42, 43, 44, 45, 46, 47, 48, 49], [0, 1, 2, 3, 4, 5, 6, 7, 8, 9, 10, 11, 12, 13, 14, 15, 16, 17, 18, 19, 20, 21, 22, 23, 24, 25, 26, 27, 28, 29, 30, 31, 32, 33, 34, 35, 36, 37, 38, 39, 40, 41, 42, 43, 44, 45, 46, 47, 48, 49, 50], [0, 1, 2, 3, 4, 5, 6, 7, 8, 9, 10, 11, 12, 13, 14, 15, 16, 17, 18, 19, 20, 21, 22, 23, 24, 25, 26, 27, 28, 29, 30, 31, 32, 33, 34, 35, 36, 37, 38, 39, 40, 41, 42, 43, 44, 45, 46, 47, 48, 49, 50, 51], [0, 1, 2, 3, 4, 5, 6, 7, 8, 9, 10, 11, 12, 13, 14, 15, 16, 17, 18, 19, 20, 21, 22, 23, 24, 25, 26, 27, 28, 29, 30, 31, 32, 33, 34, 35, 36, 37, 38, 39, 40, 41, 42, 43, 44, 45, 46, 47, 48, 49, 50, 51, 52], [0, 1, 2, 3, 4, 5, 6, 7, 8, 9, 10, 11, 12, 13, 14, 15, 16, 17, 18, 19, 20, 21, 22, 23, 24, 25, 26, 27, 28, 29, 30, 31, 32, 33, 34, 35, 36, 37, 38, 39, 40, 41, 42, 43, 44, 45, 46, 47, 48, 49, 50, 51, 52, 53], [0, 1, 2, 3, 4, 5, 6, 7, 8, 9, 10, 11, 12, 13, 14, 15, 16, 17, 18, 19, 20, 21, 22, 23, 24, 25, 26, 27, 28, 29, 30, 31, 32, 33, 34, 35, 36, 37, 38, 39, 40, 41, 42, 43, 44, 45, 46, 47, 48, 49, 50, 51, 52, 53, 54], [0, 1, 2, 3, 4, 5, 6, 7, 8, 9, 10, 11, 12, 13, 14, 15, 16, 17, 18, 19, 20, 21, 22, 23, 24, 25, 26, 27, 28, 29, 30, 31, 32, 33, 34, 35, 36, 37, 38, 39, 40, 41, 42, 43, 44, 45, 46, 47, 48, 49, 50, 51, 52, 53, 54, 55], [0, 1, 2, 3, 4, 5, 6, 7, 8, 9, 10, 11, 12, 13, 14, 15, 16, 17, 18, 19, 20, 21, 22, 23, 24, 25, 26, 27, 28, 29, 30, 31, 32, 33, 34, 35, 36, 37, 38, 39, 40, 41, 42, 43, 44, 45, 46, 47, 48, 49, 50, 51, 52, 53, 54, 55, 56], [0, 1, 2, 3, 4, 5, 6, 7, 8, 9, 10, 11, 12, 13, 14, 15, 16, 17, 18, 19, 20, 21, 22, 23, 24, 25, 26, 27, 28, 29, 30, 31, 32, 33, 34, 35, 36, 37, 38, 39, 40, 41, 42, 43, 44, 45, 46, 47, 48, 49, 50, 51, 52, 53, 54, 55, 56], [0, 1, 2, 3, 4, 5, 6, 7, 8, 9, 10, 11, 12, 13, 14, 15, 16, 17, 18, 19, 20, 21, 22, 23, 24, 25, 26, 27, 28, 29, 30, 31, 32, 33, 34, 35, 36, 37, 38, 39, 40, 41, 42, 43, 44, 45, 46, 47, 48, 49, 50, 51, 52, 53, 54, 55, 56, 57, 58], [0, 1, 2, 3, 4, 5, 6, 7, 8, 9, 10, 11, 12, 13, 14, 15, 16, 17, 18, 19, 20, 21, 22, 23, 24, 25, 26, 27, 28, 29, 30, 31, 32, 33, 34, 35, 36, 37, 38, 39, 40, 41, 42, 43, 44, 45, 46, 47, 48, 49, 50, 51, 52, 53, 54, 55, 56, 57, 58, 59], [0, 1, 2, 3, 4, 5, 6, 7, 8, 9, 10, 11, 12, 13, 14, 15, 16, 17, 18, 19, 20, 21, 22, 23, 24, 25, 26, 27, 28, 29, 30, 31, 32, 33, 34, 35, 36, 37, 38, 39, 40, 41, 42, 43, 44, 45, 46, 47, 48, 49, 50, 51, 52, 53, 54, 55, 56, 57, 58, 59, 60], [0, 1, 2, 3, 4, 5, 6, 7, 8, 9, 10, 11, 12, 13, 14, 15, 16, 17, 18, 19, 20, 21, 22, 23, 24, 25, 26, 27, 28, 29, 30, 31, 32, 33, 34, 35, 36, 37, 38, 39, 40, 41, 42, 43, 44, 45, 46, 47, 48, 49, 50, 51, 52, 53, 54, 55, 56, 57, 58, 59, 60, 61], [0, 1, 2, 3, 4, 5, 6, 7, 8, 9, 10, 11, 12, 13, 14, 15, 16, 17, 18, 19, 20, 21, 22, 23, 24, 25, 26, 27, 28, 29, 30, 31, 32, 33, 34, 35, 36, 37, 38, 39, 40, 41, 42, 43, 44, 45, 46, 47, 48, 49, 50, 51, 52, 53, 54, 55, 56, 57, 58, 59, 60, 61, 62], [0, 1, 2, 3, 4, 5, 6, 7, 8, 9, 10, 11, 12, 13, 14, 15, 16, 17, 18, 19, 20, 21, 22, 23, 24, 25, 26, 27, 28, 29, 30, 31, 32, 33, 34, 35, 36, 37, 38, 39, 40, 41, 42, 43, 44, 45, 46, 47, 48, 49, 50, 51, 52, 53, 54, 55, 56, 57, 58, 59, 60, 61, 62, 63], [0, 1, 2, 3, 4, 5, 6, 7, 8, 9, 10, 11, 12, 13, 14, 15, 16, 17, 18, 19, 20, 21, 22, 23, 24, 25, 26, 27, 28, 29, 30, 31, 32, 33, 34, 35, 36, 37, 38, 39, 40, 41, 42, 43, 44, 45, 46, 47, 48, 49, 50, 51, 52, 53, 54, 55, 56, 57, 58, 59, 60, 61, 62, 63, 64], [0, 1, 2, 3, 4, 5, 6, 7, 8, 9, 10, 11, 12, 13, 14, 15, 16, 17, 18, 19, 20, 21, 22, 23, 24, 25, 26, 27, 28, 29, 30, 31, 32, 33, 34, 35, 36, 37, 38, 39, 40, 41, 42, 43, 44, 45, 46, 47, 48, 49, 50, 51, 52, 53, 54, 55, 56, 57, 58, 59, 60, 61, 62, 63, 64, 65], [0, 1, 2, 3, 4, 5, 6, 7, 8, 9, 10, 11, 12, 13, 14, 15, 16, 17, 18, 19, 20, 21, 22, 23, 24, 25, 26, 27, 28, 29, 30, 31, 32, 33, 34, 35, 36, 37, 38, 39, 40, 41, 42, 43, 44, 45, 46, 47, 48, 49, 50, 51, 52, 53, 54, 55, 56, 57, 58, 59, 60, 61, 62, 63, 64, 65], [0, 1, 2, 3, 4, 5, 6, 7, 8, 9, 10, 11, 12, 13, 14, 15, 16, 17, 18, 19, 20, 21, 22, 23, 24, 25, 26, 27, 28, 29, 30, 31, 32, 33, 34, 35, 36, 37, 38, 39, 40, 41, 42, 43, 44, 45, 46, 47, 48, 49, 50, 51, 52, 53, 54, 55, 56, 57, 58, 59, 60, 61, 62, 63, 64, 65], [0, 1, 2, 3, 4, 5, 6, 7, 8, 9, 10, 11, 12, 13, 14, 15, 16, 17, 18, 19, 20, 21, 22, 23, 24, 25, 26, 27, 28, 29, 30, 31, 32, 33, 34, 35, 36, 37, 38, 39, 40, 41, 42, 43, 44, 45, 46, 47, 48, 49, 50, 51, 52, 53, 54, 55, 56, 57, 58, 59, 60, 61, 62, 63, 64, 65, 67, 68], [0, 1, 2, 3, 4, 5, 6, 7, 8, 9, 10, 11, 12, 13, 14, 15, 16, 17, 18, 19, 20, 21, 22, 23, 24, 25, 26, 27, 28, 29, 30, 31, 32, 33, 34, 35, 36, 37, 38, 39, 40, 41, 42, 43, 44, 45, 46, 47, 48, 49, 50, 51, 52, 53, 54, 55, 56, 57, 58, 59, 60, 61, 62, 63, 64, 65, 66, 67, 68, 69], [0, 1, 2, 3, 4, 5, 6, 7, 8, 9, 10, 11, 12, 13, 14, 15, 16, 17, 18, 19, 20, 21, 22, 23, 24, 25, 26, 27, 28, 29, 30, 31, 32, 33, 34, 35, 36, 37, 38, 39, 40, 41, 42, 43, 44, 45, 46, 47, 48, 49, 50, 51, 52, 53, 54, 55, 56, 57, 58, 59, 60, 61, 62, 63, 64, 65, 66, 67, 68, 69, 70], [0, 1, 2, 3, 4, 5, 6, 7, 8, 9, 10, 11, 12, 13, 14, 15, 16, 17, 18, 19, 20, 21, 22, 23, 24, 25, 26, 27, 28, 29, 30, 31, 32, 33, 34, 35, 36, 37, 38, 39, 40, 41, 42, 43, 44, 45, 46, 47, 48, 49, 50, 51, 52, 53, 54, 55, 56, 57, 58, 59, 60, 61, 62, 63, 64, 65, 66, 67, 68, 69, 70, 71], [0, 1, 2, 3, 4, 5, 6, 7, 8, 9, 10, 11, 12, 13, 14, 15, 16, 17, 18, 19, 20, 21, 22, 23, 24, 25, 26, 27, 28, 29, 30, 31, 32, 33, 34, 35, 36, 37, 38, 39, 40, 41, 42, 43, 44, 45, 46, 47, 48, 49, 50, 51, 52, 53, 54, 55, 56, 57, 58, 59, 60, 61, 62, 63, 64, 65, 66, 67, 68, 69, 70, 71, 72], [0, 1, 2, 3, 4, 5, 6, 7, 8, 9, 10, 11, 12, 13, 14, 15, 16, 17, 18, 19, 20, 21, 22, 23, 24, 25, 26, 27, 28, 29, 30, 31, 32, 33, 34, 35, 36, 37, 38, 39, 40, 41, 42, 43, 44, 45, 46, 47, 48, 49, 50, 51, 52, 53, 54, 55, 56, 57, 58, 59, 60, 61, 62, 63, 64, 65, 66, 67, 68, 69, 70, 71, 72, 73], [0, 1, 2, 3, 4, 5, 6, 7, 8, 9, 10, 11, 12, 13, 14, 15, 16, 17, 18, 19, 20, 21, 22, 23, 24, 25, 26, 27, 28, 29, 30, 31, 32, 33, 34, 35, 36, 37, 38, 39, 40, 41, 42, 43, 44, 45, 46, 47, 48, 49, 50, 51, 52, 53, 54, 55, 56, 57, 58, 59, 60, 61, 62, 63, 64, 65, 66, 67, 68, 69, 70, 71, 72, 73, 74], [0, 1, 2, 3, 4, 5, 6, 7, 8, 9, 10, 11, 12, 13, 14, 15, 16, 17, 18, 19, 20, 21, 22, 23, 24, 25, 26, 27, 28, 29, 30, 31, 32, 33, 34, 35, 36, 37, 38, 39, 40, 41, 42, 43, 44, 45, 46, 47, 48, 49, 50, 51, 52, 53, 54, 55, 56, 57, 58, 59, 60, 61, 62, 63, 64, 65, 66, 67, 68, 69, 70, 71, 72, 73, 74, 75], [0, 1, 2, 3, 4, 5, 6, 7, 8, 9, 10, 11, 12, 13, 14, 15, 16, 17, 18, 19, 20, 21, 22, 23, 24, 25, 26, 27, 28, 29, 30, 31, 32, 33, 34, 35, 36, 37, 38, 39, 40, 41, 42, 43, 44, 45, 46, 47, 48, 49, 50, 51, 52, 53, 54, 55, 56, 57, 58, 59, 60, 61, 62, 63, 64, 65, 66, 67, 68, 69, 70, 71, 72, 73, 74, 75, 76], [0, 1, 2, 3, 4, 5, 6, 7, 8, 9, 10, 11, 12, 13, 14, 15, 16, 17, 18, 19, 20, 21, 22, 23, 24, 25, 26, 27, 28, 29, 30, 31, 32, 33, 34, 35, 36, 37, 38, 39, 40, 41, 42, 43, 44, 45, 46, 47, 48, 49, 50, 51, 52, 53, 54, 55, 56, 57, 58, 59, 60, 61, 62, 63, 64, 65, 66, 67, 68, 69, 70, 71, 72, 73, 74, 75, 76, 77], [0, 1, 2, 3, 4, 5, 6, 7, 8, 9, 10, 11, 12, 13, 14, 15, 16, 17, 18, 19, 20, 21, 22, 23, 24, 25, 26, 27, 28, 29, 30, 31, 32, 33, 34, 35, 36, 37, 38, 39, 40, 41, 42, 43, 44, 45, 46, 47, 48, 49, 50, 51, 52, 53, 54, 55, 56, 57, 58, 59, 60, 61, 62, 63, 64, 65, 66, 67, 68, 69, 70, 71, 72, 73, 74, 75, 76, 77, 78], [0, 1, 2, 3, 4, 5, 6, 7, 8, 9, 10, 11, 12, 13, 14, 15, 16, 17, 18, 19, 20, 21, 22, 23, 24, 25, 26, 27, 28, 29, 30, 31, 32, 33, 34, 35, 36, 37, 38, 39, 40, 41, 42, 43, 44, 45, 46, 47, 48, 49, 50, 51, 52, 53, 54, 55, 56, 57, 58, 59, 60, 61, 62, 63, 64, 65, 66, 67, 68, 69, 70, 71, 72, 73, 74, 75, 76, 77, 78, 79], [0, 1, 2, 3, 4, 5, 6, 7, 8, 9, 10, 11, 12, 13, 14, 15, 16, 17, 18, 19, 20, 21, 22, 23, 24, 25, 26, 27, 28, 29, 30, 31, 32, 33, 34, 35, 36, 37, 38, 39, 40, 41, 42, 43, 44, 45, 46, 47, 48, 49, 50, 51, 52, 53, 54, 55, 56, 57, 58, 59, 60, 61, 62, 63, 64, 65, 66, 67, 68, 69, 70, 71, 72, 73, 74, 75, 76, 77, 78, 79, 80], [0, 1, 2, 3, 4, 5, 6, 7, 8, 9, 10, 11, 12, 13, 14, 15, 16, 17, 18, 19, 20, 21, 22, 23, 24, 25, 26, 27, 28, 29, 30, 31, 32, 33, 34, 35, 36, 37, 38, 39, 40, 41, 42, 43, 44, 45, 46, 47, 48, 49, 50, 51, 52, 53, 54, 55, 56, 57, 58, 59, 60, 61, 62, 63, 64, 65, 66, 67, 68, 69, 70, 71, 72, 73, 74, 75, 76, 77, 78, 79, 80, 81], [0, 1, 2, 3, 4, 5, 6, 7, 8, 9, 10, 11, 12, 13, 14, 15, 16, 17, 18, 19, 20, 21, 22, 23, 24, 25, 26, 27, 28, 29, 30, 31, 32, 33, 34, 35, 36, 37, 38, 39, 40, 41, 42, 43, 44, 45, 46, 47, 48, 49, 50, 51, 52, 53, 54, 55, 56, 57, 58, 59, 60, 61, 62, 63, 64, 65, 66, 67, 68, 69, 70, 71, 72, 73, 74, 75, 76, 77, 78, 79, 80, 81, 82], [0, 1, 2, 3, 4, 5, 6, 7, 8, 9, 10, 11, 12, 13, 14, 15, 16, 17, 18, 19, 20, 21, 22, 23, 24, 25, 26, 27, 28, 29, 30, 31, 32, 33, 34, 35, 36, 37, 38, 39, 40, 41, 42, 43, 44, 45, 46, 47, 48, 49, 50, 51, 52, 53, 54, 55, 56, 57, 58, 59, 60, 61, 62, 63, 64, 65, 66, 67, 68, 69, 70, 71, 72, 73, 74, 75, 76, 77, 78, 79, 80, 81, 82, 83], [0, 1, 2, 3, 4, 5, 6, 7, 8, 9, 10, 11, 12, 13, 14, 15, 16, 17, 18, 19, 20, 21, 22, 23, 24, 25, 26, 27, 28, 29, 30, 31, 32, 33, 34, 35, 36, 37, 38, 39, 40, 41, 42, 43, 44, 45, 46, 47, 48, 49, 50, 51, 52, 53, 54, 55, 56, 57, 58, 59, 60, 61, 62, 63, 64, 65, 66, 67, 68, 69, 70, 71, 72, 73, 74, 75, 76, 77, 78, 79, 80, 81, 82, 83, 84], [0, 1, 2, 3, 4, 5, 6, 7, 8, 9, 10, 11, 12, 13, 14, 15, 16, 17, 18, 19, 20, 21, 22, 23, 24, 25, 26, 27, 28, 29, 30, 31, 32, 33, 34, 35, 36, 37, 38, 39, 40, 41, 42, 43, 44, 45, 46, 47, 48, 49, 50, 51, 52, 53, 54, 55, 56, 57, 58, 59, 60, 61, 62, 63, 64, 65, 66, 67, 68, 69, 70, 71, 72, 73, 74, 75, 76, 77, 78, 79, 80, 81, 82, 83, 84, 85], [0, 1, 2, 3, 4, 5, 6, 7, 8, 9, 10, 11, 12, 13, 14, 15, 16, 17, 18, 19, 20, 21, 22, 23, 24, 25, 26, 27, 28, 29, 30, 31, 32, 33, 34, 35, 36, 37, 38, 39, 40, 41, 42, 43, 44, 45, 46, 47, 48, 49, 50, 51, 52, 53, 54, 55, 56, 57, 58, 59, 60, 61, 62, 63, 64, 65, 66, 67, 68, 69, 70, 71, 72, 73, 74, 75, 76, 77, 78, 79, 80, 81, 82, 83, 84, 85, 86]])
  .ret)))))))))))))))
abbrev R_l05_Awake : List (Nat × Option (Option Nat)) := [(0, none)]
theorem K_l05_Awake : chkF Try.prog Try.f23 172 C_l05_Awake R_l05_Awake = true := by kernel_rfl
theorem spec_l05_Awake {args : List AVal} {σ : AHeap} {R : ARes → AHeap → Prop} (ha : args.length ≤ 172) (h : AW Try.prog 172 none C_l05_Awake (bodyQ R_l05_Awake R) { v := argEnv args 0, ds := [] } σ) : Spec Try.prog F_l05_Awake args σ R := Spec.of_fn Try.func23 K_l05_Awake ha h
theorem B_l05_Awake : hasBody Try.prog F_l05_Awake = true := by kernel_rfl
theorem E_l05_Awake : EntOk Try.prog ⟨23, 172, C_l05_Awake, R_l05_Awake, false⟩ := ⟨fun _ => ⟨B_l05_Awake, _, Try.func23, K_l05_Awake⟩, fun h => by cases h⟩

abbrev F_stand_Why : FuncId := 24
/-- orlop/stand.Why: parameters ['api.StHull', 'api.Span'], results ['int', 'int', 'api.Errno'] -/
def C_stand_Why : AC :=
  (.seq (.reg [⟨some 2, none, .pbox 3 (.t 0)⟩,
      ⟨some 3, none, .pbox 2 (.t 1)⟩,
      ⟨some 4, none, .mv (.c (.int .i64 0))⟩,
      ⟨some 5, none, .mv (.c (.int .i64 0))⟩,
      ⟨some 6, none, .mv (.c (.int .i64 0))⟩] [2, 3])
  (.seq (.seq (.reg [⟨some 8, none, .load (some 3) (.t 2)⟩,
      ⟨some 9, none, .call (.f 17) [true] [(.t 8)]⟩,
      ⟨some 7, none, .mv (.t 9)⟩,
      ⟨some 10, none, .extract (.t 7) 0⟩,
      ⟨some 11, none, .extract (.t 7) 1⟩,
      ⟨some 12, none, .extract (.t 7) 2⟩,
      ⟨some 6, none, .mv (.t 12)⟩] [2, 3, 6])
  (.seq (.reg [⟨some 13, none, .mv (.t 6)⟩,
      ⟨some 14, none, .bin .eql (.t 13) (.c (.int .i64 0))⟩] [2, 3, 6, 14])
  (.cond (.t 14)
    (.reg [⟨some 15, none, .load (some 2) (.t 3)⟩,
        ⟨some 16, none, .call (.f 68) [false] [(.t 15)]⟩,
        ⟨some 6, none, .mv (.t 16)⟩] [2, 3, 6])
    .skip)))
  (.seq (.seq (.reg [⟨some 17, none, .mv (.t 6)⟩,
      ⟨some 18, none, .bin .neq (.t 17) (.c (.int .i64 0))⟩] [2, 3, 6, 18])
  (.cond (.t 18)
    (.seq (.reg [⟨some 19, none, .mv (.t 6)⟩,
        ⟨some 4, none, .mv (.c (.int .i64 0))⟩,
        ⟨some 5, none, .mv (.c (.int .i64 0))⟩,
        ⟨some 6, none, .mv (.t 19)⟩] [4, 5, 6])
    .ret)
    .skip))
  (.seq (.reg [⟨some 21, none, .load (some 3) (.t 2)⟩,
      ⟨some 22, none, .build [.slice 7 [], .int .i64 0, .int .i64 0] [(0, 3, (.t 21))]⟩,
      ⟨some 23, none, .load (some 2) (.t 3)⟩,
      ⟨some 24, none, .call (.f 69) [true, false] [(.t 22), (.t 23)]⟩,
      ⟨some 20, none, .mv (.t 24)⟩,
      ⟨some 25, none, .extract (.t 20) 0⟩,
      ⟨some 26, none, .extract (.t 20) 1⟩,
      ⟨some 4, none, .mv (.t 25)⟩,
      ⟨some 5, none, .mv (.t 26)⟩] [4, 5])
  (.seq (.reg [⟨some 27, none, .mv (.t 4)⟩,
      ⟨some 28, none, .mv (.t 5)⟩,
      ⟨some 4, none, .mv (.t 27)⟩,
      ⟨some 5, none, .mv (.t 28)⟩,
      ⟨some 6, none, .mv (.c (.int .i64 0))⟩] [4, 5, 6])
  .ret)))))
abbrev R_stand_Why : List (Nat × Option (Option Nat)) := [(4, none), (5, none), (6, none)]
theorem K_stand_Why : chkF Try.prog Try.f24 29 C_stand_Why R_stand_Why = true := by kernel_rfl
theorem spec_stand_Why {args : List AVal} {σ : AHeap} {R : ARes → AHeap → Prop} (ha : args.length ≤ 29) (h : AW Try.prog 29 none C_stand_Why (bodyQ R_stand_Why R) { v := argEnv args 0, ds := [] } σ) : Spec Try.prog F_stand_Why args σ R := Spec.of_fn Try.func24 K_stand_Why ha h
theorem B_stand_Why : hasBody Try.prog F_stand_Why = true := by kernel_rfl
theorem E_stand_Why : EntOk Try.prog ⟨24, 29, C_stand_Why, R_stand_Why, false⟩ := ⟨fun _ => ⟨B_stand_Why, _, Try.func24, K_stand_Why⟩, fun h => by cases h⟩

abbrev F_r05_Why : FuncId := 25
/-- orlop/orlopref05.Why: parameters ['api.StHull', 'api.Span'], results ['int', 'int', 'api.Errno'] -/
def C_r05_Why : AC :=
  (.seq (.reg [⟨some 2, none, .pbox 3 (.t 0)⟩,
      ⟨some 3, none, .pbox 2 (.t 1)⟩,
      ⟨some 4, none, .mv (.c (.int .i64 0))⟩,
      ⟨some 5, none, .mv (.c (.int .i64 0))⟩,
      ⟨some 6, none, .mv (.c (.int .i64 0))⟩] [2, 3])
  (.seq (.reg [⟨some 13, none, .load (some 3) (.t 2)⟩,
      ⟨some 14, none, .call (.f 18) [true] [(.t 13)]⟩,
      ⟨some 12, none, .mv (.t 14)⟩,
      ⟨some 15, none, .extract (.t 12) 0⟩,
      ⟨some 16, none, .extract (.t 12) 1⟩,
      ⟨some 17, none, .extract (.t 12) 2⟩,
      ⟨some 7, none, .mv (.t 15)⟩,
      ⟨some 8, none, .mv (.t 16)⟩,
      ⟨some 9, none, .mv (.t 17)⟩] [2, 3, 9])
  (.seq (.reg [⟨some 18, none, .mv (.t 9)⟩,
      ⟨some 19, none, .load (some 2) (.t 3)⟩,
      ⟨some 20, none, .call (.f 70) [false, false] [(.t 18), (.t 19)]⟩,
      ⟨some 9, none, .mv (.t 20)⟩] [2, 3, 9])
  (.seq (.seq (.reg [⟨some 21, none, .mv (.t 9)⟩,
      ⟨some 22, none, .bin .neq (.t 21) (.c (.int .i64 0))⟩] [2, 3, 9, 22])
  (.cond (.t 22)
    (.seq (.reg [⟨some 23, none, .mv (.t 9)⟩,
        ⟨some 4, none, .mv (.c (.int .i64 0))⟩,
        ⟨some 5, none, .mv (.c (.int .i64 0))⟩,
        ⟨some 6, none, .mv (.t 23)⟩] [4, 5, 6])
    .ret)
    .skip))
  (.seq (.reg [⟨some 25, none, .load (some 3) (.t 2)⟩,
      ⟨some 26, none, .load (some 2) (.t 3)⟩,
      ⟨some 27, none, .call (.f 71) [true, false] [(.t 25), (.t 26)]⟩,
      ⟨some 24, none, .mv (.t 27)⟩,
      ⟨some 28, none, .extract (.t 24) 0⟩,
      ⟨some 29, none, .extract (.t 24) 1⟩,
      ⟨some 10, none, .mv (.t 28)⟩,
      ⟨some 11, none, .mv (.t 29)⟩] [10, 11])
  (.seq (.reg [⟨some 30, none, .mv (.t 10)⟩,
      ⟨some 31, none, .mv (.t 11)⟩,
      ⟨some 4, none, .mv (.t 30)⟩,
      ⟨some 5, none, .mv (.t 31)⟩,
      ⟨some 6, none, .mv (.c (.int .i64 0))⟩] [4, 5, 6])
  .ret))))))
abbrev R_r05_Why : List (Nat × Option (Option Nat)) := [(4, none), (5, none), (6, none)]
theorem K_r05_Why : chkF Try.prog Try.f25 32 C_r05_Why R_r05_Why = true := by kernel_rfl
theorem spec_r05_Why {args : List AVal} {σ : AHeap} {R : ARes → AHeap → Prop} (ha : args.length ≤ 32) (h : AW Try.prog 32 none C_r05_Why (bodyQ R_r05_Why R) { v := argEnv args 0, ds := [] } σ) : Spec Try.prog F_r05_Why args σ R := Spec.of_fn Try.func25 K_r05_Why ha h
theorem B_r05_Why : hasBody Try.prog F_r05_Why = true := by kernel_rfl
theorem E_r05_Why : EntOk Try.prog ⟨25, 32, C_r05_Why, R_r05_Why, false⟩ := ⟨fun _ => ⟨B_r05_Why, _, Try.func25, K_r05_Why⟩, fun h => by cases h⟩

abbrev F_stand_Show : FuncId := 26
/-- orlop/stand.Show: parameters ['api.StHull', 'int'], results ['api.StTruth', 'int', 'api.Errno'] -/
def C_stand_Show : AC :=
  (.seq (.reg [⟨some 2, none, .pbox 3 (.t 0)⟩,
      ⟨some 4, none, .alloc [.mint 1, .mint 1]⟩,
      ⟨some 5, none, .mv (.c (.int .i64 0))⟩,
      ⟨some 6, none, .mv (.c (.int .i64 0))⟩] [1, 2, 4])
  (.seq (.reg [⟨some 12, none, .load (some 3) (.t 2)⟩,
      ⟨some 13, none, .mv (.t 1)⟩,
      ⟨some 14, none, .call (.f 64) [true, false] [(.t 12), (.t 13)]⟩,
      ⟨some 11, none, .mv (.t 14)⟩,
      ⟨some 15, none, .extract (.t 11) 0⟩,
      ⟨some 16, none, .extract (.t 11) 1⟩,
      ⟨some 7, none, .alloc [.slice 7 [], .int .i64 0, .int .i64 0]⟩,
      ⟨none, none, .store 3 (.t 7) (.t 15)⟩,
      ⟨some 6, none, .mv (.t 16)⟩] [1, 4, 6, 7])
  (.frz 7 true (.seq (.seq (.reg [⟨some 17, none, .mv (.t 6)⟩,
      ⟨some 18, none, .bin .neq (.t 17) (.c (.int .i64 0))⟩] [1, 4, 6, 7, 18])
  (.cond (.t 18)
    (.seq (.reg [⟨some 19, none, .loadd (some 2) (.t 4)⟩,
        ⟨some 20, none, .mv (.t 6)⟩,
        ⟨none, none, .store 2 (.t 4) (.t 19)⟩,
        ⟨some 5, none, .mv (.c (.int .i64 0))⟩,
        ⟨some 6, none, .mv (.t 20)⟩] [4, 5, 6])
    .ret)
    .skip))
  (.seq (.reg [⟨some 21, none, .load (some 3) (.t 7)⟩,
      ⟨some 22, none, .mv (.t 1)⟩,
      ⟨some 23, none, .call (.f 65) [true, false] [(.t 21), (.t 22)]⟩,
      ⟨some 24, none, .call (.f 72) [false] [(.t 23)]⟩,
      ⟨some 5, none, .mv (.t 24)⟩] [4, 5, 7])
  (.seq (.reg [⟨some 25, none, .load (some 3) (.t 7)⟩,
      ⟨some 26, none, .call (.f 73) [true] [(.t 25)]⟩,
      ⟨some 27, none, .mv (.t 5)⟩,
      ⟨some 28, none, .bin .sub (.t 27) (.c (.int .i64 1))⟩,
      ⟨some 29, none, .mx [(.c (.int .i64 0)), (.t 28)]⟩,
      ⟨some 30, none, .ixV 3 3 (some 3) (.t 26) (.t 29)⟩,
      ⟨some 8, none, .alloc [.nilfunc, .nilfunc, .nilfunc]⟩,
      ⟨none, none, .store 3 (.t 8) (.t 30)⟩] [4, 5, 7, 8])
  (.frz 8 true (.seq (.seq (.reg [⟨some 31, none, .fieldAddr (some 3) 0 (.t 7)⟩,
      ⟨some 32, none, .fieldAddr none 0 (.t 31)⟩,
      ⟨some 33, none, .load none (.t 32)⟩,
      ⟨some 34, none, .len (.t 33)⟩,
      ⟨some 35, none, .mv (.c (.int .i64 0))⟩] [4, 5, 8, 33, 34, 35])
  (.block 0
    (.loop [4, 5, 8, 33, 34, 35]
      (.seq (.reg [⟨some 36, none, .bin .lss (.t 35) (.t 34)⟩] [4, 5, 8, 33, 34, 35, 36])
      (.seq (.cond (.t 36)
        .skip
        (.exit 0))
      (.seq (.block 1
        (.seq (.reg [⟨some 37, none, .ixS 7 (.t 33) (.t 35)⟩,
            ⟨some 38, none, .load (some 7) (.t 37)⟩,
            ⟨some 10, none, .alloc [.str ByteArray.empty, .int .i64 0, .int .i64 0, .int .i64 0, .int .i64 0, .int .i64 0, .int .i64 0]⟩,
            ⟨none, none, .store 7 (.t 10) (.t 38)⟩] [4, 5, 8, 10, 33, 34, 35])
        (.frz 10 true (.seq (.reg [⟨some 39, none, .fieldAddr none 0 (.t 8)⟩,
            ⟨some 40, none, .load none (.t 39)⟩,
            ⟨some 41, none, .load (some 7) (.t 10)⟩,
            ⟨some 42, none, .call (.t 40) [false] [(.t 41)]⟩,
            ⟨some 43, none, .bin .lss (.t 42) (.c (.int .i64 0))⟩] [4, 5, 8, 10, 33, 34, 35, 43])
        (.cond (.t 43)
          (.dreg [⟨some 44, none, .fieldAddr none 0 (.t 4)⟩,
              ⟨some 45, none, .load none (.t 44)⟩,
              ⟨some 46, none, .fieldAddr (some 2) 2 (.t 10)⟩,
              ⟨some 47, none, .fieldAddr none 1 (.t 46)⟩,
              ⟨some 48, none, .load none (.t 47)⟩,
              ⟨some 49, none, .lit 0 1 1 [(0, (.t 48))]⟩,
              ⟨some 50, none, .append 1 8 (.t 45) (.t 49)⟩,
              ⟨some 51, none, .fieldAddr none 1 (.t 4)⟩,
              ⟨some 52, none, .load none (.t 51)⟩,
              ⟨some 53, none, .fieldAddr (some 2) 5 (.t 10)⟩,
              ⟨some 54, none, .fieldAddr none 0 (.t 53)⟩,
              ⟨some 55, none, .load none (.t 54)⟩,
              ⟨some 56, none, .lit 0 1 1 [(0, (.t 55))]⟩,
              ⟨some 57, none, .append 1 8 (.t 52) (.t 56)⟩,
              ⟨some 58, none, .fieldAddr none 0 (.t 4)⟩,
              ⟨none, none, .store 1 (.t 58) (.t 50)⟩,
              ⟨some 59, none, .fieldAddr none 1 (.t 4)⟩,
              ⟨none, none, .store 1 (.t 59) (.t 57)⟩] [4, 5, 8, 33, 34, 35] [[], [0], [], [2], [2, 3], [2, 3, 4], [0, 1, 2, 3, 4, 5], [], [7], [], [9], [9, 10], [9, 10, 11], [0, 1, 2, 3, 4, 5, 6, 7, 8, 9, 10, 11, 12], [0, 1, 2, 3, 4, 5, 6, 7, 8], [0, 1, 2, 3, 4, 5, 6, 7, 8, 9, 10, 11, 12, 13, 14], [0, 1, 2, 3, 4, 5, 6, 7, 8, 9, 10, 11, 12, 13, 14, 15], [0, 1, 2, 3, 4, 5, 6, 7, 8, 9, 10, 11, 12, 13, 14, 15, 16]])
          (.dreg [⟨some 60, none, .fieldAddr none 0 (.t 4)⟩,
              ⟨some 61, none, .load none (.t 60)⟩,
              ⟨some 62, none, .fieldAddr (some 2) 2 (.t 10)⟩,
              ⟨some 63, none, .fieldAddr none 0 (.t 62)⟩,
              ⟨some 64, none, .load none (.t 63)⟩,
              ⟨some 65, none, .lit 0 1 1 [(0, (.t 64))]⟩,
              ⟨some 66, none, .append 1 8 (.t 61) (.t 65)⟩,
              ⟨some 67, none, .fieldAddr none 1 (.t 4)⟩,
              ⟨some 68, none, .load none (.t 67)⟩,
              ⟨some 69, none, .fieldAddr (some 2) 5 (.t 10)⟩,
              ⟨some 70, none, .fieldAddr none 1 (.t 69)⟩,
              ⟨some 71, none, .load none (.t 70)⟩,
              ⟨some 72, none, .lit 0 1 1 [(0, (.t 71))]⟩,
              ⟨some 73, none, .append 1 8 (.t 68) (.t 72)⟩,
              ⟨some 74, none, .fieldAddr none 0 (.t 4)⟩,
              ⟨none, none, .store 1 (.t 74) (.t 66)⟩,
              ⟨some 75, none, .fieldAddr none 1 (.t 4)⟩,
              ⟨none, none, .store 1 (.t 75) (.t 73)⟩] [4, 5, 8, 33, 34, 35] [[], [0], [], [2], [2, 3], [2, 3, 4], [0, 1, 2, 3, 4, 5], [], [7], [], [9], [9, 10], [9, 10, 11], [0, 1, 2, 3, 4, 5, 6, 7, 8, 9, 10, 11, 12], [0, 1, 2, 3, 4, 5, 6, 7, 8], [0, 1, 2, 3, 4, 5, 6, 7, 8, 9, 10, 11, 12, 13, 14], [0, 1, 2, 3, 4, 5, 6, 7, 8, 9, 10, 11, 12, 13, 14, 15], [0, 1, 2, 3, 4, 5, 6, 7, 8, 9, 10, 11, 12, 13, 14, 15, 16]]))))))
      (.reg [⟨some 76, none, .bin .add (.t 35) (.c (.int .i64 1))⟩,
          ⟨some 35, none, .mv (.t 76)⟩] [4, 5, 8, 33, 34, 35])))))))
  (.seq (.reg [⟨some 77, none, .loadd (some 2) (.t 4)⟩,
      ⟨some 78, none, .mv (.t 5)⟩,
      ⟨none, none, .store 2 (.t 4) (.t 77)⟩,
      ⟨some 5, none, .mv (.t 78)⟩,
      ⟨some 6, none, .mv (.c (.int .i64 0))⟩] [4, 5, 6])
  .ret)))))))))
abbrev R_stand_Show : List (Nat × Option (Option Nat)) := [(4, some (some 2)), (5, none), (6, none)]
theorem K_stand_Show : chkF Try.prog Try.f26 79 C_stand_Show R_stand_Show = true := by kernel_rfl
theorem spec_stand_Show {args : List AVal} {σ : AHeap} {R : ARes → AHeap → Prop} (ha : args.length ≤ 79) (h : AW Try.prog 79 none C_stand_Show (bodyQ R_stand_Show R) { v := argEnv args 0, ds := [] } σ) : Spec Try.prog F_stand_Show args σ R := Spec.of_fn Try.func26 K_stand_Show ha h
theorem B_stand_Show : hasBody Try.prog F_stand_Show = true := by kernel_rfl
theorem E_stand_Show : EntOk Try.prog ⟨26, 79, C_stand_Show, R_stand_Show, false⟩ := ⟨fun _ => ⟨B_stand_Show, _, Try.func26, K_stand_Show⟩, fun h => by cases h⟩

abbrev F_r05_Show : FuncId := 27
/-- orlop/orlopref05.Show: parameters ['api.StHull', 'int'], results ['api.StTruth', 'int', 'api.Errno'] -/
def C_r05_Show : AC :=
  (.seq (.reg [⟨some 2, none, .pbox 3 (.t 0)⟩,
      ⟨some 4, none, .alloc [.slice 1 [], .slice 1 []]⟩,
      ⟨some 5, none, .mv (.c (.int .i64 0))⟩,
      ⟨some 6, none, .mv (.c (.int .i64 0))⟩] [1, 2, 4])
  (.seq (.reg [⟨some 12, none, .load (some 3) (.t 2)⟩,
      ⟨some 13, none, .call (.f 18) [true] [(.t 12)]⟩,
      ⟨some 11, none, .mv (.t 13)⟩,
      ⟨some 14, none, .extract (.t 11) 0⟩,
      ⟨some 15, none, .extract (.t 11) 1⟩,
      ⟨some 16, none, .extract (.t 11) 2⟩,
      ⟨some 7, none, .mv (.t 14)⟩,
      ⟨some 8, none, .mv (.t 15)⟩,
      ⟨some 9, none, .mv (.t 16)⟩] [1, 2, 4, 9])
  (.seq (.reg [⟨some 17, none, .mv (.t 9)⟩,
      ⟨some 18, none, .mv (.t 1)⟩,
      ⟨some 19, none, .call (.f 62) [false, false] [(.t 17), (.t 18)]⟩,
      ⟨some 9, none, .mv (.t 19)⟩] [1, 2, 4, 9])
  (.seq (.seq (.reg [⟨some 20, none, .mv (.t 9)⟩,
      ⟨some 21, none, .bin .neq (.t 20) (.c (.int .i64 0))⟩] [1, 2, 4, 9, 21])
  (.cond (.t 21)
    (.seq (.reg [⟨some 22, none, .build [.slice 1 [], .slice 1 []] []⟩,
        ⟨some 23, none, .mv (.t 9)⟩,
        ⟨none, none, .store 2 (.t 4) (.t 22)⟩,
        ⟨some 5, none, .mv (.c (.int .i64 0))⟩,
        ⟨some 6, none, .mv (.t 23)⟩] [4, 5, 6])
    .ret)
    .skip))
  (.seq (.reg [⟨some 24, none, .load (some 3) (.t 2)⟩,
      ⟨some 25, none, .mv (.t 1)⟩,
      ⟨some 26, none, .call (.f 66) [true, false] [(.t 24), (.t 25)]⟩,
      ⟨some 27, none, .call (.f 74) [false] [(.t 26)]⟩,
      ⟨some 10, none, .mv (.t 27)⟩] [2, 4, 10])
  (.seq (.reg [⟨some 28, none, .load (some 3) (.t 2)⟩,
      ⟨some 29, none, .mv (.t 10)⟩,
      ⟨some 30, none, .call (.f 75) [true, false] [(.t 28), (.t 29)]⟩,
      ⟨some 31, none, .mv (.t 10)⟩,
      ⟨none, none, .store 2 (.t 4) (.t 30)⟩,
      ⟨some 5, none, .mv (.t 31)⟩,
      ⟨some 6, none, .mv (.c (.int .i64 0))⟩] [4, 5, 6])
  .ret))))))
abbrev R_r05_Show : List (Nat × Option (Option Nat)) := [(4, some (some 2)), (5, none), (6, none)]
theorem K_r05_Show : chkF Try.prog Try.f27 32 C_r05_Show R_r05_Show = true := by kernel_rfl
theorem spec_r05_Show {args : List AVal} {σ : AHeap} {R : ARes → AHeap → Prop} (ha : args.length ≤ 32) (h : AW Try.prog 32 none C_r05_Show (bodyQ R_r05_Show R) { v := argEnv args 0, ds := [] } σ) : Spec Try.prog F_r05_Show args σ R := Spec.of_fn Try.func27 K_r05_Show ha h
theorem B_r05_Show : hasBody Try.prog F_r05_Show = true := by kernel_rfl
theorem E_r05_Show : EntOk Try.prog ⟨27, 32, C_r05_Show, R_r05_Show, false⟩ := ⟨fun _ => ⟨B_r05_Show, _, Try.func27, K_r05_Show⟩, fun h => by cases h⟩

abbrev F_r05_Same : FuncId := 28
/-- orlop/orlopref05.Same: parameters ['api.StTruth', 'api.StTruth'], results ['bool'] -/
def C_r05_Same : AC :=
  (.seq (.reg [⟨some 2, none, .pbox 2 (.t 0)⟩,
      ⟨some 3, none, .pbox 2 (.t 1)⟩,
      ⟨some 4, none, .mv (.c (.bool false))⟩] [2, 3])
  (.seq (.reg [⟨some 5, none, .fieldAddr none 0 (.t 2)⟩,
      ⟨some 6, none, .load none (.t 5)⟩,
      ⟨some 7, none, .fieldAddr none 0 (.t 3)⟩,
      ⟨some 8, none, .load none (.t 7)⟩,
      ⟨some 9, none, .call (.f 76) [true, true] [(.t 6), (.t 8)]⟩,
      ⟨some 10, none, .mv (.t 9)⟩,
      ⟨some 11, (some (10, true)), .fieldAddr none 1 (.t 2)⟩,
      ⟨some 12, (some (10, true)), .load none (.t 11)⟩,
      ⟨some 13, (some (10, true)), .fieldAddr none 1 (.t 3)⟩,
      ⟨some 14, (some (10, true)), .load none (.t 13)⟩,
      ⟨some 15, (some (10, true)), .call (.f 76) [true, true] [(.t 12), (.t 14)]⟩,
      ⟨some 16, none, .pick (.t 10) (.t 15) (.c (.bool false))⟩,
      ⟨some 4, none, .mv (.t 16)⟩] [4])
  .ret))
abbrev R_r05_Same : List (Nat × Option (Option Nat)) := [(4, none)]
theorem K_r05_Same : chkF Try.prog Try.f28 17 C_r05_Same R_r05_Same = true := by kernel_rfl
theorem spec_r05_Same {args : List AVal} {σ : AHeap} {R : ARes → AHeap → Prop} (ha : args.length ≤ 17) (h : AW Try.prog 17 none C_r05_Same (bodyQ R_r05_Same R) { v := argEnv args 0, ds := [] } σ) : Spec Try.prog F_r05_Same args σ R := Spec.of_fn Try.func28 K_r05_Same ha h
theorem B_r05_Same : hasBody Try.prog F_r05_Same = true := by kernel_rfl
theorem E_r05_Same : EntOk Try.prog ⟨28, 17, C_r05_Same, R_r05_Same, false⟩ := ⟨fun _ => ⟨B_r05_Same, _, Try.func28, K_r05_Same⟩, fun h => by cases h⟩

abbrev F_stand_Tide : FuncId := 29
/-- orlop/stand.Tide: parameters ['api.StHull'], results ['int', 'api.Errno'] -/
def C_stand_Tide : AC :=
  (.seq (.reg [⟨some 1, none, .pbox 3 (.t 0)⟩,
      ⟨some 2, none, .mv (.c (.int .i64 0))⟩,
      ⟨some 3, none, .mv (.c (.int .i64 0))⟩] [1])
  (.seq (.seq (.reg [⟨some 10, none, .load (some 3) (.t 1)⟩,
      ⟨some 11, none, .call (.f 17) [true] [(.t 10)]⟩,
      ⟨some 9, none, .mv (.t 11)⟩,
      ⟨some 12, none, .extract (.t 9) 0⟩,
      ⟨some 13, none, .extract (.t 9) 1⟩,
      ⟨some 14, none, .extract (.t 9) 2⟩,
      ⟨some 4, none, .mv (.t 12)⟩,
      ⟨some 5, none, .mv (.t 13)⟩,
      ⟨some 6, none, .mv (.t 14)⟩] [1, 6])
  (.seq (.reg [⟨some 15, none, .mv (.t 6)⟩,
      ⟨some 16, none, .bin .neq (.t 15) (.c (.int .i64 0))⟩] [1, 6, 16])
  (.cond (.t 16)
    (.seq (.reg [⟨some 17, none, .mv (.t 6)⟩,
        ⟨some 2, none, .mv (.c (.int .i64 0))⟩,
        ⟨some 3, none, .mv (.t 17)⟩] [2, 3])
    .ret)
    .skip)))
  (.seq (.reg [⟨some 19, none, .load (some 3) (.t 1)⟩,
      ⟨some 20, none, .build [.slice 7 [], .int .i64 0, .int .i64 0] [(0, 3, (.t 19))]⟩,
      ⟨some 21, none, .build [.int .i64 0, .int .i64 0] [(1, 1, (.c (.int .i64 1000)))]⟩,
      ⟨some 22, none, .call (.f 69) [true, false] [(.t 20), (.t 21)]⟩,
      ⟨some 18, none, .mv (.t 22)⟩,
      ⟨some 23, none, .extract (.t 18) 0⟩,
      ⟨some 24, none, .extract (.t 18) 1⟩,
      ⟨some 7, none, .mv (.t 23)⟩,
      ⟨some 8, none, .mv (.t 24)⟩] [7, 8])
  (.seq (.block 0
    (.seq (.reg [⟨some 26, none, .mv (.t 7)⟩,
        ⟨some 27, none, .bin .eql (.t 26) (.c (.int .i64 0))⟩,
        ⟨some 25, none, .mv (.t 27)⟩] [8, 25])
    (.cond (.t 25)
      (.seq (.reg [⟨some 2, none, .mv (.c (.int .i64 1000))⟩,
          ⟨some 3, none, .mv (.c (.int .i64 0))⟩] [2, 3])
      .ret)
      (.seq (.reg [⟨some 29, none, .mv (.t 8)⟩,
          ⟨some 30, none, .bin .eql (.t 29) (.c (.int .i64 0))⟩,
          ⟨some 28, none, .mv (.t 30)⟩] [8, 28])
      (.cond (.t 28)
        (.seq (.reg [⟨some 2, none, .mv (.c (.int .i64 0))⟩,
            ⟨some 3, none, .mv (.c (.int .i64 9))⟩] [2, 3])
        .ret)
        .skip)))))
  (.seq (.reg [⟨some 31, none, .mv (.t 8)⟩,
      ⟨some 32, none, .bin .sub (.t 31) (.c (.int .i64 1))⟩,
      ⟨some 2, none, .mv (.t 32)⟩,
      ⟨some 3, none, .mv (.c (.int .i64 0))⟩] [2, 3])
  .ret)))))
abbrev R_stand_Tide : List (Nat × Option (Option Nat)) := [(2, none), (3, none)]
theorem K_stand_Tide : chkF Try.prog Try.f29 33 C_stand_Tide R_stand_Tide = true := by kernel_rfl
theorem spec_stand_Tide {args : List AVal} {σ : AHeap} {R : ARes → AHeap → Prop} (ha : args.length ≤ 33) (h : AW Try.prog 33 none C_stand_Tide (bodyQ R_stand_Tide R) { v := argEnv args 0, ds := [] } σ) : Spec Try.prog F_stand_Tide args σ R := Spec.of_fn Try.func29 K_stand_Tide ha h
theorem B_stand_Tide : hasBody Try.prog F_stand_Tide = true := by kernel_rfl
theorem E_stand_Tide : EntOk Try.prog ⟨29, 33, C_stand_Tide, R_stand_Tide, false⟩ := ⟨fun _ => ⟨B_stand_Tide, _, Try.func29, K_stand_Tide⟩, fun h => by cases h⟩

abbrev F_r05_Tide : FuncId := 30
/-- orlop/orlopref05.Tide: parameters ['api.StHull'], results ['int', 'api.Errno'] -/
def C_r05_Tide : AC :=
  (.seq (.reg [⟨some 1, none, .pbox 3 (.t 0)⟩,
      ⟨some 2, none, .mv (.c (.int .i64 0))⟩,
      ⟨some 3, none, .mv (.c (.int .i64 0))⟩] [1])
  (.seq (.reg [⟨some 10, none, .load (some 3) (.t 1)⟩,
      ⟨some 11, none, .call (.f 18) [true] [(.t 10)]⟩,
      ⟨some 9, none, .mv (.t 11)⟩,
      ⟨some 12, none, .extract (.t 9) 0⟩,
      ⟨some 13, none, .extract (.t 9) 1⟩,
      ⟨some 14, none, .extract (.t 9) 2⟩,
      ⟨some 4, none, .mv (.t 12)⟩,
      ⟨some 5, none, .mv (.t 13)⟩,
      ⟨some 6, none, .mv (.t 14)⟩] [1, 6])
  (.seq (.seq (.reg [⟨some 15, none, .mv (.t 6)⟩,
      ⟨some 16, none, .bin .neq (.t 15) (.c (.int .i64 0))⟩] [1, 6, 16])
  (.cond (.t 16)
    (.seq (.reg [⟨some 17, none, .mv (.t 6)⟩,
        ⟨some 2, none, .mv (.c (.int .i64 0))⟩,
        ⟨some 3, none, .mv (.t 17)⟩] [2, 3])
    .ret)
    .skip))
  (.seq (.reg [⟨some 19, none, .load (some 3) (.t 1)⟩,
      ⟨some 20, none, .build [.int .i64 0, .int .i64 0] [(0, 1, (.c (.int .i64 0))), (1, 1, (.c (.int .i64 1000)))]⟩,
      ⟨some 21, none, .call (.f 71) [true, false] [(.t 19), (.t 20)]⟩,
      ⟨some 18, none, .mv (.t 21)⟩,
      ⟨some 22, none, .extract (.t 18) 0⟩,
      ⟨some 23, none, .extract (.t 18) 1⟩,
      ⟨some 7, none, .mv (.t 22)⟩,
      ⟨some 8, none, .mv (.t 23)⟩] [7, 8])
  (.seq (.seq (.reg [⟨some 24, none, .mv (.t 7)⟩,
      ⟨some 25, none, .bin .eql (.t 24) (.c (.int .i64 0))⟩] [8, 25])
  (.cond (.t 25)
    (.seq (.reg [⟨some 2, none, .mv (.c (.int .i64 1000))⟩,
        ⟨some 3, none, .mv (.c (.int .i64 0))⟩] [2, 3])
    .ret)
    .skip))
  (.seq (.seq (.reg [⟨some 26, none, .mv (.t 8)⟩,
      ⟨some 27, none, .bin .eql (.t 26) (.c (.int .i64 0))⟩] [8, 27])
  (.cond (.t 27)
    (.seq (.reg [⟨some 2, none, .mv (.c (.int .i64 0))⟩,
        ⟨some 3, none, .mv (.c (.int .i64 9))⟩] [2, 3])
    .ret)
    .skip))
  (.seq (.reg [⟨some 28, none, .mv (.t 8)⟩,
      ⟨some 29, none, .bin .sub (.t 28) (.c (.int .i64 1))⟩,
      ⟨some 2, none, .mv (.t 29)⟩,
      ⟨some 3, none, .mv (.c (.int .i64 0))⟩] [2, 3])
  .ret)))))))
abbrev R_r05_Tide : List (Nat × Option (Option Nat)) := [(2, none), (3, none)]
theorem K_r05_Tide : chkF Try.prog Try.f30 30 C_r05_Tide R_r05_Tide = true := by kernel_rfl
theorem spec_r05_Tide {args : List AVal} {σ : AHeap} {R : ARes → AHeap → Prop} (ha : args.length ≤ 30) (h : AW Try.prog 30 none C_r05_Tide (bodyQ R_r05_Tide R) { v := argEnv args 0, ds := [] } σ) : Spec Try.prog F_r05_Tide args σ R := Spec.of_fn Try.func30 K_r05_Tide ha h
theorem B_r05_Tide : hasBody Try.prog F_r05_Tide = true := by kernel_rfl
theorem E_r05_Tide : EntOk Try.prog ⟨30, 30, C_r05_Tide, R_r05_Tide, false⟩ := ⟨fun _ => ⟨B_r05_Tide, _, Try.func30, K_r05_Tide⟩, fun h => by cases h⟩

abbrev F_stand_Forces : FuncId := 31
/-- orlop/stand.Forces: parameters ['api.StHull', 'api.StTruth', 'int'], results ['[]api.StForce', 'api.Errno'] -/
def C_stand_Forces : AC :=
  (.seq (.reg [⟨some 3, none, .pbox 3 (.t 0)⟩,
      ⟨some 4, none, .pbox 2 (.t 1)⟩,
      ⟨some 6, none, .mv (.c (.slice 2 []))⟩,
      ⟨some 7, none, .mv (.c (.int .i64 0))⟩] [2, 3, 4])
  (.seq (.reg [⟨some 12, none, .load (some 3) (.t 3)⟩,
      ⟨some 13, none, .load (some 2) (.t 4)⟩,
      ⟨some 14, none, .mv (.t 2)⟩,
      ⟨some 15, none, .call (.f 59) [true, true, false] [(.t 12), (.t 13), (.t 14)]⟩,
      ⟨some 11, none, .mv (.t 15)⟩,
      ⟨some 16, none, .extract (.t 11) 0⟩,
      ⟨some 17, none, .extract (.t 11) 1⟩,
      ⟨some 8, none, .alloc [.slice 7 [], .int .i64 0, .int .i64 0]⟩,
      ⟨none, none, .store 3 (.t 8) (.t 16)⟩,
      ⟨some 9, none, .mv (.t 17)⟩] [2, 3, 4, 8, 9])
  (.frz 8 true (.seq (.seq (.reg [⟨some 18, none, .mv (.t 9)⟩,
      ⟨some 19, none, .bin .neq (.t 18) (.c (.int .i64 0))⟩] [2, 3, 4, 8, 9, 19])
  (.cond (.t 19)
    (.seq (.reg [⟨some 20, none, .mv (.t 9)⟩,
        ⟨some 6, none, .mv (.c (.slice 2 []))⟩,
        ⟨some 7, none, .mv (.t 20)⟩] [6, 7])
    .ret)
    .skip))
  (.seq (.reg [⟨some 21, none, .load (some 3) (.t 8)⟩,
      ⟨some 22, none, .load (some 2) (.t 4)⟩,
      ⟨some 23, none, .mv (.t 2)⟩,
      ⟨some 24, none, .call (.f 60) [true, true, false] [(.t 21), (.t 22), (.t 23)]⟩,
      ⟨some 10, none, .alloc [.int .i64 0, .int .i64 0, .int .i64 0]⟩,
      ⟨none, none, .store 3 (.t 10) (.t 24)⟩] [3, 10])
  (.frz 10 true (.seq (.seq (.reg [⟨some 25, none, .load (some 3) (.t 10)⟩,
      ⟨some 26, none, .call (.f 72) [false] [(.t 25)]⟩,
      ⟨some 27, none, .bin .neq (.t 26) (.c (.int .i64 0))⟩] [3, 10, 27])
  (.cond (.t 27)
    (.seq (.reg [⟨some 6, none, .mv (.c (.slice 2 []))⟩,
        ⟨some 7, none, .mv (.c (.int .i64 9))⟩] [6, 7])
    .ret)
    .skip))
  (.seq (.reg [⟨some 28, none, .fieldAddr none 1 (.t 3)⟩,
      ⟨some 29, none, .load none (.t 28)⟩,
      ⟨some 30, none, .ixA 3 1 none (.t 10) (.c (.int .i64 2))⟩,
      ⟨some 31, none, .load none (.t 30)⟩,
      ⟨some 32, none, .build [.int .i64 0, .int .i64 0] [(0, 1, (.t 29)), (1, 1, (.t 31))]⟩,
      ⟨some 33, none, .fieldAddr none 2 (.t 3)⟩,
      ⟨some 34, none, .load none (.t 33)⟩,
      ⟨some 35, none, .ixA 3 1 none (.t 10) (.c (.int .i64 1))⟩,
      ⟨some 36, none, .load none (.t 35)⟩,
      ⟨some 37, none, .build [.int .i64 0, .int .i64 0] [(0, 1, (.t 34)), (1, 1, (.t 36))]⟩,
      ⟨some 38, none, .lit 0 2 2 [(0, (.t 32)), (1, (.t 37))]⟩,
      ⟨some 6, none, .mvd (.t 38)⟩,
      ⟨some 7, none, .mv (.c (.int .i64 0))⟩] [6, 7])
  .ret))))))))
abbrev R_stand_Forces : List (Nat × Option (Option Nat)) := [(6, none), (7, none)]
theorem K_stand_Forces : chkF Try.prog Try.f31 39 C_stand_Forces R_stand_Forces = true := by kernel_rfl
theorem spec_stand_Forces {args : List AVal} {σ : AHeap} {R : ARes → AHeap → Prop} (ha : args.length ≤ 39) (h : AW Try.prog 39 none C_stand_Forces (bodyQ R_stand_Forces R) { v := argEnv args 0, ds := [] } σ) : Spec Try.prog F_stand_Forces args σ R := Spec.of_fn Try.func31 K_stand_Forces ha h
theorem B_stand_Forces : hasBody Try.prog F_stand_Forces = true := by kernel_rfl
theorem E_stand_Forces : EntOk Try.prog ⟨31, 39, C_stand_Forces, R_stand_Forces, false⟩ := ⟨fun _ => ⟨B_stand_Forces, _, Try.func31, K_stand_Forces⟩, fun h => by cases h⟩

abbrev F_r05_Forces : FuncId := 32
/-- orlop/orlopref05.Forces: parameters ['api.StHull', 'api.StTruth', 'int'], results ['[]api.StForce', 'api.Errno'] -/
def C_r05_Forces : AC :=
  (.seq (.reg [⟨some 3, none, .pbox 3 (.t 0)⟩,
      ⟨some 4, none, .pbox 2 (.t 1)⟩,
      ⟨some 6, none, .mv (.c (.slice 2 []))⟩,
      ⟨some 7, none, .mv (.c (.int .i64 0))⟩] [2, 3, 4])
  (.seq (.reg [⟨some 11, none, .load (some 3) (.t 3)⟩,
      ⟨some 12, none, .load (some 2) (.t 4)⟩,
      ⟨some 13, none, .mv (.t 2)⟩,
      ⟨some 14, none, .call (.f 20) [true, true, false] [(.t 11), (.t 12), (.t 13)]⟩,
      ⟨some 10, none, .mv (.t 14)⟩,
      ⟨some 15, none, .extract (.t 10) 0⟩,
      ⟨some 16, none, .extract (.t 10) 1⟩,
      ⟨some 8, none, .alloc [.int .i64 0, .int .i64 0, .int .i64 0]⟩,
      ⟨none, none, .store 3 (.t 8) (.t 15)⟩,
      ⟨some 9, none, .mv (.t 16)⟩] [3, 8, 9])
  (.frz 8 true (.seq (.seq (.reg [⟨some 17, none, .mv (.t 9)⟩,
      ⟨some 18, none, .bin .eql (.t 17) (.c (.int .i64 0))⟩,
      ⟨some 19, none, .mv (.t 18)⟩,
      ⟨some 20, (some (19, true)), .load (some 3) (.t 8)⟩,
      ⟨some 21, (some (19, true)), .call (.f 74) [false] [(.t 20)]⟩,
      ⟨some 22, (some (19, true)), .bin .neq (.t 21) (.c (.int .i64 0))⟩,
      ⟨some 23, none, .pick (.t 19) (.t 22) (.c (.bool false))⟩] [3, 8, 9, 23])
  (.cond (.t 23)
    (.reg [⟨some 9, none, .mv (.c (.int .i64 9))⟩] [3, 8, 9])
    .skip))
  (.seq (.seq (.reg [⟨some 24, none, .mv (.t 9)⟩,
      ⟨some 25, none, .bin .neq (.t 24) (.c (.int .i64 0))⟩] [3, 8, 9, 25])
  (.cond (.t 25)
    (.seq (.reg [⟨some 26, none, .mv (.t 9)⟩,
        ⟨some 6, none, .mv (.c (.slice 2 []))⟩,
        ⟨some 7, none, .mv (.t 26)⟩] [6, 7])
    .ret)
    .skip))
  (.seq (.reg [⟨some 27, none, .fieldAddr none 1 (.t 3)⟩,
      ⟨some 28, none, .load none (.t 27)⟩,
      ⟨some 29, none, .fieldAddr none 2 (.t 8)⟩,
      ⟨some 30, none, .load none (.t 29)⟩,
      ⟨some 31, none, .build [.int .i64 0, .int .i64 0] [(0, 1, (.t 28)), (1, 1, (.t 30))]⟩,
      ⟨some 32, none, .fieldAddr none 2 (.t 3)⟩,
      ⟨some 33, none, .load none (.t 32)⟩,
      ⟨some 34, none, .fieldAddr none 1 (.t 8)⟩,
      ⟨some 35, none, .load none (.t 34)⟩,
      ⟨some 36, none, .build [.int .i64 0, .int .i64 0] [(0, 1, (.t 33)), (1, 1, (.t 35))]⟩,
      ⟨some 37, none, .lit 0 2 2 [(0, (.t 31)), (1, (.t 36))]⟩,
      ⟨some 6, none, .mvd (.t 37)⟩,
      ⟨some 7, none, .mv (.c (.int .i64 0))⟩] [6, 7])
  .ret))))))
abbrev R_r05_Forces : List (Nat × Option (Option Nat)) := [(6, none), (7, none)]
theorem K_r05_Forces : chkF Try.prog Try.f32 38 C_r05_Forces R_r05_Forces = true := by kernel_rfl
theorem spec_r05_Forces {args : List AVal} {σ : AHeap} {R : ARes → AHeap → Prop} (ha : args.length ≤ 38) (h : AW Try.prog 38 none C_r05_Forces (bodyQ R_r05_Forces R) { v := argEnv args 0, ds := [] } σ) : Spec Try.prog F_r05_Forces args σ R := Spec.of_fn Try.func32 K_r05_Forces ha h
theorem B_r05_Forces : hasBody Try.prog F_r05_Forces = true := by kernel_rfl
theorem E_r05_Forces : EntOk Try.prog ⟨32, 38, C_r05_Forces, R_r05_Forces, false⟩ := ⟨fun _ => ⟨B_r05_Forces, _, Try.func32, K_r05_Forces⟩, fun h => by cases h⟩

abbrev F_r05_Alike : FuncId := 33
/-- orlop/orlopref05.Alike: parameters ['[]api.StForce', '[]api.StForce'], results ['bool'] -/
def C_r05_Alike : AC :=
  (.seq (.reg [⟨some 4, none, .mv (.c (.bool false))⟩] [0, 1])
  (.seq (.reg [⟨some 7, none, .mv (.t 0)⟩,
      ⟨some 8, none, .len (.t 7)⟩,
      ⟨some 9, none, .mv (.t 1)⟩,
      ⟨some 10, none, .len (.t 9)⟩,
      ⟨some 11, none, .bin .eql (.t 8) (.t 10)⟩,
      ⟨some 5, none, .mv (.t 11)⟩] [0, 1, 5])
  (.seq (.seq (.reg [⟨some 6, none, .mv (.c (.int .i64 0))⟩] [0, 1, 5, 6])
  (.block 0
    (.loop [0, 1, 5, 6]
      (.seq (.seq (.reg [⟨some 12, none, .mv (.t 6)⟩,
          ⟨some 13, none, .mv (.t 0)⟩,
          ⟨some 14, none, .len (.t 13)⟩,
          ⟨some 15, none, .bin .lss (.t 12) (.t 14)⟩,
          ⟨some 16, none, .mv (.t 15)⟩,
          ⟨some 17, (some (16, true)), .mv (.t 5)⟩,
          ⟨some 18, none, .pick (.t 16) (.t 17) (.c (.bool false))⟩] [0, 1, 5, 6, 18])
      (.cond (.t 18)
        .skip
        (.exit 0)))
      (.seq (.block 1
        (.dreg [⟨some 21, none, .mv (.t 0)⟩,
            ⟨some 22, none, .mv (.t 6)⟩,
            ⟨some 23, none, .ixS 2 (.t 21) (.t 22)⟩,
            ⟨some 24, none, .load (some 2) (.t 23)⟩,
            ⟨some 25, none, .mv (.t 1)⟩,
            ⟨some 26, none, .mv (.t 6)⟩,
            ⟨some 27, none, .ixS 2 (.t 25) (.t 26)⟩,
            ⟨some 28, none, .load (some 2) (.t 27)⟩,
            ⟨some 29, none, .eqa false [.i, .i] (.t 24) (.t 28)⟩,
            ⟨some 5, none, .mv (.t 29)⟩] [0, 1, 5, 6] [[], [], [0, 1], [0, 1, 2], [], [], [4, 5], [4, 5, 6], [0, 1, 2, 3, 4, 5, 6, 7], [0, 1, 2, 3, 4, 5, 6, 7, 8]]))
      (.reg [⟨some 19, none, .mv (.t 6)⟩,
          ⟨some 20, none, .bin .add (.t 19) (.c (.int .i64 1))⟩,
          ⟨some 6, none, .mv (.t 20)⟩] [0, 1, 5, 6]))))))
  (.seq (.reg [⟨some 30, none, .mv (.t 5)⟩,
      ⟨some 4, none, .mv (.t 30)⟩] [4])
  .ret))))
abbrev R_r05_Alike : List (Nat × Option (Option Nat)) := [(4, none)]
theorem K_r05_Alike : chkF Try.prog Try.f33 31 C_r05_Alike R_r05_Alike = true := by kernel_rfl
theorem spec_r05_Alike {args : List AVal} {σ : AHeap} {R : ARes → AHeap → Prop} (ha : args.length ≤ 31) (h : AW Try.prog 31 none C_r05_Alike (bodyQ R_r05_Alike R) { v := argEnv args 0, ds := [] } σ) : Spec Try.prog F_r05_Alike args σ R := Spec.of_fn Try.func33 K_r05_Alike ha h
theorem B_r05_Alike : hasBody Try.prog F_r05_Alike = true := by kernel_rfl
theorem E_r05_Alike : EntOk Try.prog ⟨33, 31, C_r05_Alike, R_r05_Alike, false⟩ := ⟨fun _ => ⟨B_r05_Alike, _, Try.func33, K_r05_Alike⟩, fun h => by cases h⟩

abbrev F_stand_Bears : FuncId := 34
/-- orlop/stand.Bears: parameters ['api.StHull', 'api.StTruth', 'int', '[]api.StForce'], results ['bool', 'api.Errno'] -/
def C_stand_Bears : AC :=
  (.seq (.reg [⟨some 4, none, .pbox 3 (.t 0)⟩,
      ⟨some 5, none, .pbox 2 (.t 1)⟩,
      ⟨some 8, none, .mv (.c (.bool false))⟩,
      ⟨some 9, none, .mv (.c (.int .i64 0))⟩] [2, 3, 4, 5])
  (.seq (.reg [⟨some 19, none, .load (some 3) (.t 4)⟩,
      ⟨some 20, none, .load (some 2) (.t 5)⟩,
      ⟨some 21, none, .mv (.t 2)⟩,
      ⟨some 22, none, .call (.f 59) [true, true, false] [(.t 19), (.t 20), (.t 21)]⟩,
      ⟨some 18, none, .mv (.t 22)⟩,
      ⟨some 23, none, .extract (.t 18) 0⟩,
      ⟨some 24, none, .extract (.t 18) 1⟩,
      ⟨some 10, none, .alloc [.slice 7 [], .int .i64 0, .int .i64 0]⟩,
      ⟨none, none, .store 3 (.t 10) (.t 23)⟩,
      ⟨some 11, none, .mv (.t 24)⟩] [2, 3, 4, 5, 10, 11])
  (.frz 10 true (.seq (.block 0
    (.seq (.reg [⟨some 26, none, .mv (.t 11)⟩,
        ⟨some 27, none, .bin .neq (.t 26) (.c (.int .i64 0))⟩,
        ⟨some 25, none, .mv (.t 27)⟩] [2, 3, 4, 5, 10, 11, 25])
    (.cond (.t 25)
      (.seq (.reg [⟨some 28, none, .mv (.t 11)⟩,
          ⟨some 8, none, .mv (.c (.bool false))⟩,
          ⟨some 9, none, .mv (.t 28)⟩] [8, 9])
      .ret)
      (.seq (.reg [⟨some 30, none, .mv (.t 3)⟩,
          ⟨some 31, none, .len (.t 30)⟩,
          ⟨some 32, none, .bin .gtr (.t 31) (.c (.int .i64 10))⟩,
          ⟨some 29, none, .mv (.t 32)⟩] [2, 3, 4, 5, 10, 29])
      (.cond (.t 29)
        (.seq (.reg [⟨some 8, none, .mv (.c (.bool false))⟩,
            ⟨some 9, none, .mv (.c (.int .i64 3))⟩] [8, 9])
        .ret)
        .skip)))))
  (.seq (.reg [⟨some 33, none, .load (some 3) (.t 10)⟩,
      ⟨some 34, none, .load (some 2) (.t 5)⟩,
      ⟨some 35, none, .mv (.t 2)⟩,
      ⟨some 36, none, .call (.f 60) [true, true, false] [(.t 33), (.t 34), (.t 35)]⟩,
      ⟨some 12, none, .alloc [.int .i64 0, .int .i64 0, .int .i64 0]⟩,
      ⟨none, none, .store 3 (.t 12) (.t 36)⟩] [3, 4, 12])
  (.frz 12 true (.seq (.reg [⟨some 37, none, .fieldAddr none 2 (.t 4)⟩,
      ⟨some 38, none, .load none (.t 37)⟩,
      ⟨some 39, none, .fieldAddr none 1 (.t 4)⟩,
      ⟨some 40, none, .load none (.t 39)⟩,
      ⟨some 41, none, .bin .sub (.t 38) (.t 40)⟩,
      ⟨some 13, none, .mv (.t 41)⟩] [3, 4, 12, 13])
  (.seq (.reg [⟨some 14, none, .mv (.c (.int .i64 0))⟩,
      ⟨some 15, none, .mv (.c (.int .i64 0))⟩] [3, 4, 12, 13, 14, 15])
  (.seq (.seq (.reg [⟨some 42, none, .mv (.t 3)⟩,
      ⟨some 43, none, .len (.t 42)⟩,
      ⟨some 44, none, .mv (.c (.int .i64 0))⟩] [4, 12, 13, 14, 15, 42, 43, 44])
  (.block 1
    (.loop [4, 12, 13, 14, 15, 42, 43, 44]
      (.seq (.reg [⟨some 45, none, .bin .lss (.t 44) (.t 43)⟩] [4, 12, 13, 14, 15, 42, 43, 44, 45])
      (.seq (.cond (.t 45)
        .skip
        (.exit 1))
      (.seq (.block 2
        (.seq (.reg [⟨some 46, none, .ixS 2 (.t 42) (.t 44)⟩,
            ⟨some 47, none, .load (some 2) (.t 46)⟩,
            ⟨some 17, none, .alloc [.int .i64 0, .int .i64 0]⟩,
            ⟨none, none, .store 2 (.t 17) (.t 47)⟩] [4, 12, 13, 14, 15, 17, 42, 43, 44])
        (.frz 17 true (.seq (.seq (.reg [⟨some 48, none, .fieldAddr none 1 (.t 4)⟩,
            ⟨some 49, none, .load none (.t 48)⟩,
            ⟨some 50, none, .fieldAddr none 2 (.t 4)⟩,
            ⟨some 51, none, .load none (.t 50)⟩,
            ⟨some 52, none, .fieldAddr none 0 (.t 17)⟩,
            ⟨some 53, none, .load none (.t 52)⟩,
            ⟨some 54, none, .lit 0 1 1 [(0, (.t 53))]⟩,
            ⟨some 55, none, .call (.f 51) [false, false, true] [(.t 49), (.t 51), (.t 54)]⟩,
            ⟨some 56, none, .mv (.t 55)⟩,
            ⟨some 57, (some (56, false)), .ixA 3 1 none (.t 12) (.c (.int .i64 0))⟩,
            ⟨some 58, (some (56, false)), .load none (.t 57)⟩,
            ⟨some 59, (some (56, false)), .mv (.t 13)⟩,
            ⟨some 60, (some (56, false)), .bin .mul (.t 58) (.t 59)⟩,
            ⟨some 61, (some (56, false)), .mv (.t 14)⟩,
            ⟨some 62, (some (56, false)), .bin .sub (.t 60) (.t 61)⟩,
            ⟨some 63, (some (56, false)), .mx [(.c (.int .i64 0)), (.t 62)]⟩,
            ⟨some 64, (some (56, false)), .fieldAddr none 1 (.t 17)⟩,
            ⟨some 65, (some (56, false)), .load none (.t 64)⟩,
            ⟨some 66, (some (56, false)), .lit 0 1 1 [(0, (.t 65))]⟩,
            ⟨some 67, (some (56, false)), .call (.f 51) [false, false, true] [(.c (.int .i64 0)), (.t 63), (.t 66)]⟩,
            ⟨some 68, none, .pick (.t 56) (.c (.bool true)) (.t 67)⟩] [4, 12, 13, 14, 15, 17, 42, 43, 44, 68])
        (.cond (.t 68)
          (.seq (.reg [⟨some 8, none, .mv (.c (.bool false))⟩,
              ⟨some 9, none, .mv (.c (.int .i64 0))⟩] [8, 9])
          .ret)
          .skip))
        (.seq (.reg [⟨some 69, none, .mv (.t 14)⟩,
            ⟨some 70, none, .fieldAddr none 1 (.t 17)⟩,
            ⟨some 71, none, .load none (.t 70)⟩,
            ⟨some 72, none, .bin .add (.t 69) (.t 71)⟩,
            ⟨some 14, none, .mv (.t 72)⟩] [4, 12, 13, 14, 15, 17, 42, 43, 44])
        (.reg [⟨some 73, none, .mv (.t 15)⟩,
            ⟨some 74, none, .fieldAddr none 1 (.t 17)⟩,
            ⟨some 75, none, .load none (.t 74)⟩,
            ⟨some 76, none, .fieldAddr none 0 (.t 17)⟩,
            ⟨some 77, none, .load none (.t 76)⟩,
            ⟨some 78, none, .fieldAddr none 1 (.t 4)⟩,
            ⟨some 79, none, .load none (.t 78)⟩,
            ⟨some 80, none, .bin .sub (.t 77) (.t 79)⟩,
            ⟨some 81, none, .bin .mul (.t 75) (.t 80)⟩,
            ⟨some 82, none, .bin .add (.t 73) (.t 81)⟩,
            ⟨some 15, none, .mv (.t 82)⟩] [4, 12, 13, 14, 15, 42, 43, 44]))))))
      (.reg [⟨some 83, none, .bin .add (.t 44) (.c (.int .i64 1))⟩,
          ⟨some 44, none, .mv (.t 83)⟩] [4, 12, 13, 14, 15, 42, 43, 44])))))))
  (.seq (.reg [⟨some 84, none, .ixA 3 1 none (.t 12) (.c (.int .i64 0))⟩,
      ⟨some 85, none, .load none (.t 84)⟩,
      ⟨some 86, none, .bin .gtr (.t 85) (.c (.int .i64 0))⟩,
      ⟨some 87, none, .mv (.t 86)⟩,
      ⟨some 88, (some (87, true)), .mv (.t 14)⟩,
      ⟨some 89, (some (87, true)), .ixA 3 1 none (.t 12) (.c (.int .i64 0))⟩,
      ⟨some 90, (some (87, true)), .load none (.t 89)⟩,
      ⟨some 91, (some (87, true)), .mv (.t 13)⟩,
      ⟨some 92, (some (87, true)), .bin .mul (.t 90) (.t 91)⟩,
      ⟨some 93, (some (87, true)), .bin .eql (.t 88) (.t 92)⟩,
      ⟨some 94, none, .pick (.t 87) (.t 93) (.c (.bool false))⟩,
      ⟨some 95, none, .mv (.t 94)⟩,
      ⟨some 96, (some (95, true)), .mv (.t 15)⟩,
      ⟨some 97, (some (95, true)), .ixA 3 1 none (.t 12) (.c (.int .i64 1))⟩,
      ⟨some 98, (some (95, true)), .load none (.t 97)⟩,
      ⟨some 99, (some (95, true)), .mv (.t 13)⟩,
      ⟨some 100, (some (95, true)), .bin .mul (.t 98) (.t 99)⟩,
      ⟨some 101, (some (95, true)), .bin .eql (.t 96) (.t 100)⟩,
      ⟨some 102, none, .pick (.t 95) (.t 101) (.c (.bool false))⟩,
      ⟨some 8, none, .mv (.t 102)⟩,
      ⟨some 9, none, .mv (.c (.int .i64 0))⟩] [8, 9])
  .ret))))))))))
abbrev R_stand_Bears : List (Nat × Option (Option Nat)) := [(8, none), (9, none)]
theorem K_stand_Bears : chkF Try.prog Try.f34 103 C_stand_Bears R_stand_Bears = true := by kernel_rfl
theorem spec_stand_Bears {args : List AVal} {σ : AHeap} {R : ARes → AHeap → Prop} (ha : args.length ≤ 103) (h : AW Try.prog 103 none C_stand_Bears (bodyQ R_stand_Bears R) { v := argEnv args 0, ds := [] } σ) : Spec Try.prog F_stand_Bears args σ R := Spec.of_fn Try.func34 K_stand_Bears ha h
theorem B_stand_Bears : hasBody Try.prog F_stand_Bears = true := by kernel_rfl
theorem E_stand_Bears : EntOk Try.prog ⟨34, 103, C_stand_Bears, R_stand_Bears, false⟩ := ⟨fun _ => ⟨B_stand_Bears, _, Try.func34, K_stand_Bears⟩, fun h => by cases h⟩

abbrev F_r05_Bears : FuncId := 35
/-- orlop/orlopref05.Bears: parameters ['api.StHull', 'api.StTruth', 'int', '[]api.StForce'], results ['bool', 'api.Errno'] -/
def C_r05_Bears : AC :=
  (.seq (.reg [⟨some 4, none, .pbox 3 (.t 0)⟩,
      ⟨some 5, none, .pbox 2 (.t 1)⟩,
      ⟨some 8, none, .mv (.c (.bool false))⟩,
      ⟨some 9, none, .mv (.c (.int .i64 0))⟩] [2, 3, 4, 5])
  (.seq (.reg [⟨some 16, none, .load (some 3) (.t 4)⟩,
      ⟨some 17, none, .load (some 2) (.t 5)⟩,
      ⟨some 18, none, .mv (.t 2)⟩,
      ⟨some 19, none, .call (.f 20) [true, true, false] [(.t 16), (.t 17), (.t 18)]⟩,
      ⟨some 15, none, .mv (.t 19)⟩,
      ⟨some 20, none, .extract (.t 15) 0⟩,
      ⟨some 21, none, .extract (.t 15) 1⟩,
      ⟨some 10, none, .alloc [.int .i64 0, .int .i64 0, .int .i64 0]⟩,
      ⟨none, none, .store 3 (.t 10) (.t 20)⟩,
      ⟨some 11, none, .mv (.t 21)⟩] [3, 4, 10, 11])
  (.frz 10 true (.seq (.seq (.reg [⟨some 22, none, .mv (.t 11)⟩,
      ⟨some 23, none, .bin .eql (.t 22) (.c (.int .i64 0))⟩,
      ⟨some 24, none, .mv (.t 23)⟩,
      ⟨some 25, (some (24, true)), .mv (.t 3)⟩,
      ⟨some 26, (some (24, true)), .len (.t 25)⟩,
      ⟨some 27, (some (24, true)), .bin .gtr (.t 26) (.c (.int .i64 10))⟩,
      ⟨some 28, none, .pick (.t 24) (.t 27) (.c (.bool false))⟩] [3, 4, 10, 11, 28])
  (.cond (.t 28)
    (.reg [⟨some 11, none, .mv (.c (.int .i64 3))⟩] [3, 4, 10, 11])
    .skip))
  (.seq (.seq (.reg [⟨some 29, none, .mv (.t 11)⟩,
      ⟨some 30, none, .bin .neq (.t 29) (.c (.int .i64 0))⟩] [3, 4, 10, 11, 30])
  (.cond (.t 30)
    (.seq (.reg [⟨some 31, none, .mv (.t 11)⟩,
        ⟨some 8, none, .mv (.c (.bool false))⟩,
        ⟨some 9, none, .mv (.t 31)⟩] [8, 9])
    .ret)
    .skip))
  (.seq (.reg [⟨some 32, none, .fieldAddr none 0 (.t 10)⟩,
      ⟨some 33, none, .load none (.t 32)⟩,
      ⟨some 34, none, .fieldAddr none 2 (.t 4)⟩,
      ⟨some 35, none, .load none (.t 34)⟩,
      ⟨some 36, none, .fieldAddr none 1 (.t 4)⟩,
      ⟨some 37, none, .load none (.t 36)⟩,
      ⟨some 38, none, .bin .sub (.t 35) (.t 37)⟩,
      ⟨some 39, none, .bin .mul (.t 33) (.t 38)⟩,
      ⟨some 12, none, .mv (.t 39)⟩] [3, 4, 10, 12])
  (.seq (.reg [⟨some 40, none, .fieldAddr none 1 (.t 10)⟩,
      ⟨some 41, none, .load none (.t 40)⟩,
      ⟨some 42, none, .fieldAddr none 2 (.t 4)⟩,
      ⟨some 43, none, .load none (.t 42)⟩,
      ⟨some 44, none, .fieldAddr none 1 (.t 4)⟩,
      ⟨some 45, none, .load none (.t 44)⟩,
      ⟨some 46, none, .bin .sub (.t 43) (.t 45)⟩,
      ⟨some 47, none, .bin .mul (.t 41) (.t 46)⟩,
      ⟨some 13, none, .mv (.t 47)⟩] [3, 4, 10, 12, 13])
  (.seq (.seq (.reg [⟨some 48, none, .fieldAddr none 0 (.t 10)⟩,
      ⟨some 49, none, .load none (.t 48)⟩,
      ⟨some 50, none, .bin .leq (.t 49) (.c (.int .i64 0))⟩] [3, 4, 12, 13, 50])
  (.cond (.t 50)
    (.seq (.reg [⟨some 8, none, .mv (.c (.bool false))⟩,
        ⟨some 9, none, .mv (.c (.int .i64 0))⟩] [8, 9])
    .ret)
    .skip))
  (.seq (.seq (.reg [⟨some 14, none, .mv (.c (.int .i64 0))⟩] [3, 4, 12, 13, 14])
  (.block 0
    (.loop [3, 4, 12, 13, 14]
      (.seq (.seq (.reg [⟨some 51, none, .mv (.t 14)⟩,
          ⟨some 52, none, .mv (.t 3)⟩,
          ⟨some 53, none, .len (.t 52)⟩,
          ⟨some 54, none, .bin .lss (.t 51) (.t 53)⟩] [3, 4, 12, 13, 14, 54])
      (.cond (.t 54)
        .skip
        (.exit 0)))
      (.seq (.block 1
        (.seq (.seq (.dreg [⟨some 57, none, .mv (.t 3)⟩,
            ⟨some 58, none, .mv (.t 14)⟩,
            ⟨some 59, none, .ixS 2 (.t 57) (.t 58)⟩,
            ⟨some 60, none, .fieldAddr none 0 (.t 59)⟩,
            ⟨some 61, none, .load none (.t 60)⟩,
            ⟨some 62, none, .fieldAddr none 1 (.t 4)⟩,
            ⟨some 63, none, .load none (.t 62)⟩,
            ⟨some 64, none, .fieldAddr none 2 (.t 4)⟩,
            ⟨some 65, none, .load none (.t 64)⟩,
            ⟨some 66, none, .call (.f 56) [false, false, false] [(.t 61), (.t 63), (.t 65)]⟩,
            ⟨some 67, none, .un .not (.t 66)⟩,
            ⟨some 68, none, .mv (.t 67)⟩,
            ⟨some 69, (some (68, false)), .mv (.t 3)⟩,
            ⟨some 70, (some (68, false)), .mv (.t 14)⟩,
            ⟨some 71, (some (68, false)), .ixS 2 (.t 69) (.t 70)⟩,
            ⟨some 72, (some (68, false)), .fieldAddr none 1 (.t 71)⟩,
            ⟨some 73, (some (68, false)), .load none (.t 72)⟩,
            ⟨some 74, (some (68, false)), .mv (.t 12)⟩,
            ⟨some 75, (some (68, false)), .call (.f 56) [false, false, false] [(.t 73), (.c (.int .i64 0)), (.t 74)]⟩,
            ⟨some 76, (some (68, false)), .un .not (.t 75)⟩,
            ⟨some 77, none, .pick (.t 68) (.c (.bool true)) (.t 76)⟩] [3, 4, 12, 13, 14, 77] [[], [], [0, 1], [0, 1, 2], [0, 1, 2, 3], [], [5], [], [7], [0, 1, 2, 3, 4, 5, 6, 7, 8], [0, 1, 2, 3, 4, 5, 6, 7, 8, 9], [0, 1, 2, 3, 4, 5, 6, 7, 8, 9, 10], [0, 1, 2, 3, 4, 5, 6, 7, 8, 9, 10, 11], [0, 1, 2, 3, 4, 5, 6, 7, 8, 9, 10, 11], [0, 1, 2, 3, 4, 5, 6, 7, 8, 9, 10, 11, 12, 13], [0, 1, 2, 3, 4, 5, 6, 7, 8, 9, 10, 11, 12, 13, 14], [0, 1, 2, 3, 4, 5, 6, 7, 8, 9, 10, 11, 12, 13, 14, 15], [0, 1, 2, 3, 4, 5, 6, 7, 8, 9, 10, 11], [0, 1, 2, 3, 4, 5, 6, 7, 8, 9, 10, 11, 12, 13, 14, 15, 16, 17], [0, 1, 2, 3, 4, 5, 6, 7, 8, 9, 10, 11, 12, 13, 14, 15, 16, 17, 18], [0, 1, 2, 3, 4, 5, 6, 7, 8, 9, 10, 11, 12, 13, 14, 15, 16, 17, 18, 19]])
        (.cond (.t 77)
          (.seq (.reg [⟨some 8, none, .mv (.c (.bool false))⟩,
              ⟨some 9, none, .mv (.c (.int .i64 0))⟩] [8, 9])
          .ret)
          .skip))
        (.seq (.reg [⟨some 78, none, .mv (.t 12)⟩,
            ⟨some 79, none, .mv (.t 3)⟩,
            ⟨some 80, none, .mv (.t 14)⟩,
            ⟨some 81, none, .ixS 2 (.t 79) (.t 80)⟩,
            ⟨some 82, none, .fieldAddr none 1 (.t 81)⟩,
            ⟨some 83, none, .load none (.t 82)⟩,
            ⟨some 84, none, .bin .sub (.t 78) (.t 83)⟩,
            ⟨some 12, none, .mv (.t 84)⟩] [3, 4, 12, 13, 14])
        (.dreg [⟨some 85, none, .mv (.t 13)⟩,
            ⟨some 86, none, .mv (.t 3)⟩,
            ⟨some 87, none, .mv (.t 14)⟩,
            ⟨some 88, none, .ixS 2 (.t 86) (.t 87)⟩,
            ⟨some 89, none, .fieldAddr none 1 (.t 88)⟩,
            ⟨some 90, none, .load none (.t 89)⟩,
            ⟨some 91, none, .mv (.t 3)⟩,
            ⟨some 92, none, .mv (.t 14)⟩,
            ⟨some 93, none, .ixS 2 (.t 91) (.t 92)⟩,
            ⟨some 94, none, .fieldAddr none 0 (.t 93)⟩,
            ⟨some 95, none, .load none (.t 94)⟩,
            ⟨some 96, none, .fieldAddr none 1 (.t 4)⟩,
            ⟨some 97, none, .load none (.t 96)⟩,
            ⟨some 98, none, .bin .sub (.t 95) (.t 97)⟩,
            ⟨some 99, none, .bin .mul (.t 90) (.t 98)⟩,
            ⟨some 100, none, .bin .sub (.t 85) (.t 99)⟩,
            ⟨some 13, none, .mv (.t 100)⟩] [3, 4, 12, 13, 14] [[], [], [], [1, 2], [1, 2, 3], [1, 2, 3, 4], [], [], [6, 7], [6, 7, 8], [6, 7, 8, 9], [], [11], [6, 7, 8, 9, 10, 11, 12], [1, 2, 3, 4, 5, 6, 7, 8, 9, 10, 11, 12, 13], [0, 1, 2, 3, 4, 5, 6, 7, 8, 9, 10, 11, 12, 13, 14], [0, 1, 2, 3, 4, 5, 6, 7, 8, 9, 10, 11, 12, 13, 14, 15]]))))
      (.reg [⟨some 55, none, .mv (.t 14)⟩,
          ⟨some 56, none, .bin .add (.t 55) (.c (.int .i64 1))⟩,
          ⟨some 14, none, .mv (.t 56)⟩] [3, 4, 12, 13, 14]))))))
  (.seq (.reg [⟨some 101, none, .mv (.t 12)⟩,
      ⟨some 102, none, .bin .eql (.t 101) (.c (.int .i64 0))⟩,
      ⟨some 103, none, .mv (.t 102)⟩,
      ⟨some 104, (some (103, true)), .mv (.t 13)⟩,
      ⟨some 105, (some (103, true)), .bin .eql (.t 104) (.c (.int .i64 0))⟩,
      ⟨some 106, none, .pick (.t 103) (.t 105) (.c (.bool false))⟩,
      ⟨some 8, none, .mv (.t 106)⟩,
      ⟨some 9, none, .mv (.c (.int .i64 0))⟩] [8, 9])
  .ret))))))))))
abbrev R_r05_Bears : List (Nat × Option (Option Nat)) := [(8, none), (9, none)]
theorem K_r05_Bears : chkF Try.prog Try.f35 107 C_r05_Bears R_r05_Bears = true := by kernel_rfl
theorem spec_r05_Bears {args : List AVal} {σ : AHeap} {R : ARes → AHeap → Prop} (ha : args.length ≤ 107) (h : AW Try.prog 107 none C_r05_Bears (bodyQ R_r05_Bears R) { v := argEnv args 0, ds := [] } σ) : Spec Try.prog F_r05_Bears args σ R := Spec.of_fn Try.func35 K_r05_Bears ha h
theorem B_r05_Bears : hasBody Try.prog F_r05_Bears = true := by kernel_rfl
theorem E_r05_Bears : EntOk Try.prog ⟨35, 107, C_r05_Bears, R_r05_Bears, false⟩ := ⟨fun _ => ⟨B_r05_Bears, _, Try.func35, K_r05_Bears⟩, fun h => by cases h⟩

abbrev F_stand_Ballast : FuncId := 36
/-- orlop/stand.Ballast: parameters ['api.StHull', 'int', 'api.Span'], results ['int', 'api.Errno'] -/
def C_stand_Ballast : AC :=
  (.seq (.reg [⟨some 3, none, .pbox 3 (.t 0)⟩,
      ⟨some 4, none, .pbox 1 (.t 1)⟩,
      ⟨some 5, none, .pbox 2 (.t 2)⟩,
      ⟨some 6, none, .alloc [.int .i64 0]⟩,
      ⟨some 7, none, .alloc [.int .i64 0]⟩] [3, 4, 5, 6, 7])
  (.seq (.reg [⟨some 21, none, .load (some 3) (.t 3)⟩,
      ⟨some 22, none, .call (.f 17) [true] [(.t 21)]⟩,
      ⟨some 20, none, .mv (.t 22)⟩,
      ⟨some 23, none, .extract (.t 20) 0⟩,
      ⟨some 24, none, .extract (.t 20) 1⟩,
      ⟨some 25, none, .extract (.t 20) 2⟩,
      ⟨some 8, none, .mv (.t 23)⟩,
      ⟨some 9, none, .mv (.t 24)⟩,
      ⟨some 10, none, .mv (.t 25)⟩] [3, 4, 5, 6, 7, 10])
  (.seq (.block 0
    (.seq (.reg [⟨some 27, none, .mv (.t 10)⟩,
        ⟨some 28, none, .bin .neq (.t 27) (.c (.int .i64 0))⟩,
        ⟨some 26, none, .mv (.t 28)⟩] [3, 4, 5, 6, 7, 10, 26])
    (.cond (.t 26)
      (.seq (.reg [⟨some 29, none, .mv (.t 10)⟩,
          ⟨none, none, .store 1 (.t 6) (.c (.int .i64 0))⟩,
          ⟨none, none, .store 1 (.t 7) (.t 29)⟩] [6, 7])
      .ret)
      (.seq (.reg [⟨some 31, none, .fieldAddr none 0 (.t 3)⟩,
          ⟨some 32, none, .load none (.t 31)⟩,
          ⟨some 33, none, .len (.t 32)⟩,
          ⟨some 34, none, .bin .sub (.t 33) (.c (.int .i64 1))⟩,
          ⟨some 35, none, .load none (.t 4)⟩,
          ⟨some 36, none, .lit 0 1 1 [(0, (.t 35))]⟩,
          ⟨some 37, none, .call (.f 51) [false, false, true] [(.c (.int .i64 0)), (.t 34), (.t 36)]⟩,
          ⟨some 30, none, .mv (.t 37)⟩] [3, 4, 5, 6, 7, 30])
      (.cond (.t 30)
        (.seq (.reg [⟨none, none, .store 1 (.t 6) (.c (.int .i64 0))⟩,
            ⟨none, none, .store 1 (.t 7) (.c (.int .i64 4))⟩] [6, 7])
        .ret)
        (.seq (.dreg [⟨some 39, none, .fieldAddr none 1 (.t 3)⟩,
            ⟨some 40, none, .load none (.t 39)⟩,
            ⟨some 41, none, .fieldAddr none 2 (.t 3)⟩,
            ⟨some 42, none, .load none (.t 41)⟩,
            ⟨some 43, none, .fieldAddr none 0 (.t 3)⟩,
            ⟨some 44, none, .load none (.t 43)⟩,
            ⟨some 45, none, .load none (.t 4)⟩,
            ⟨some 46, none, .ixS 7 (.t 44) (.t 45)⟩,
            ⟨some 47, none, .fieldAddr none 1 (.t 46)⟩,
            ⟨some 48, none, .load none (.t 47)⟩,
            ⟨some 49, none, .lit 0 1 1 [(0, (.t 48))]⟩,
            ⟨some 50, none, .call (.f 51) [false, false, true] [(.t 40), (.t 42), (.t 49)]⟩,
            ⟨some 38, none, .mv (.t 50)⟩] [3, 4, 5, 6, 7, 38] [[], [0], [], [2], [], [4], [], [4, 5, 6], [4, 5, 6, 7], [4, 5, 6, 7, 8], [4, 5, 6, 7, 8, 9], [0, 1, 2, 3, 4, 5, 6, 7, 8, 9, 10], [0, 1, 2, 3, 4, 5, 6, 7, 8, 9, 10, 11]])
        (.cond (.t 38)
          (.seq (.reg [⟨none, none, .store 1 (.t 6) (.c (.int .i64 0))⟩,
              ⟨none, none, .store 1 (.t 7) (.c (.int .i64 2))⟩] [6, 7])
          .ret)
          .skip)))))))
  (.seq (.seq (.reg [⟨some 51, none, .load (some 2) (.t 5)⟩,
      ⟨some 52, none, .call (.f 68) [false] [(.t 51)]⟩,
      ⟨some 10, none, .mv (.t 52)⟩] [3, 4, 5, 6, 7, 10])
  (.seq (.reg [⟨some 53, none, .mv (.t 10)⟩,
      ⟨some 54, none, .bin .neq (.t 53) (.c (.int .i64 0))⟩] [3, 4, 5, 6, 7, 10, 54])
  (.cond (.t 54)
    (.seq (.reg [⟨some 55, none, .mv (.t 10)⟩,
        ⟨none, none, .store 1 (.t 6) (.c (.int .i64 0))⟩,
        ⟨none, none, .store 1 (.t 7) (.t 55)⟩] [6, 7])
    .ret)
    .skip)))
  (.seq (.reg [⟨some 56, none, .load (some 3) (.t 3)⟩,
      ⟨some 57, none, .build [.slice 7 [], .int .i64 0, .int .i64 0] [(0, 3, (.t 56))]⟩,
      ⟨some 11, none, .alloc [.slice 7 [], .int .i64 0, .int .i64 0]⟩,
      ⟨none, none, .store 3 (.t 11) (.t 57)⟩] [3, 4, 5, 6, 7, 11])
  (.frz 11 true (.seq (.reg [⟨some 12, none, .alloc [.int .i64 0]⟩,
      ⟨none, none, .store 1 (.t 12) (.c (.int .i64 0))⟩] [3, 4, 5, 6, 7, 11, 12])
  (.seq (.seq (.reg [⟨some 58, none, .load (some 3) (.t 11)⟩,
      ⟨some 59, none, .load (some 2) (.t 5)⟩,
      ⟨some 60, none, .call (.f 77) [true, false] [(.t 58), (.t 59)]⟩] [3, 4, 6, 7, 11, 12, 60])
  (.block 1
    (.rangeF (.t 60) [61] (.reg [⟨some 13, none, .alloc [.int .i64 0, .int .i64 0]⟩,
          ⟨none, none, .store 2 (.t 13) (.t 61)⟩] [3, 4, 6, 7, 11, 12, 13])
      (.block 2
        (.seq (.reg [⟨some 62, none, .fieldAddr none 0 (.t 13)⟩,
            ⟨some 63, none, .load none (.t 62)⟩,
            ⟨some 64, none, .fieldAddr none 1 (.t 13)⟩,
            ⟨some 65, none, .load none (.t 64)⟩,
            ⟨some 66, none, .lit 0 1 2 [(0, (.t 63)), (1, (.t 65))]⟩,
            ⟨some 67, none, .len (.t 66)⟩,
            ⟨some 68, none, .mv (.c (.int .i64 0))⟩] [3, 4, 6, 7, 11, 12, 66, 67, 68])
        (.block 3
          (.loop [3, 4, 6, 7, 11, 12, 66, 67, 68]
            (.seq (.reg [⟨some 69, none, .bin .lss (.t 68) (.t 67)⟩] [3, 4, 6, 7, 11, 12, 66, 67, 68, 69])
            (.seq (.cond (.t 69)
              .skip
              (.exit 3))
            (.seq (.block 4
              (.seq (.reg [⟨some 70, none, .ixS 1 (.t 66) (.t 68)⟩,
                  ⟨some 71, none, .load none (.t 70)⟩,
                  ⟨some 15, none, .mv (.t 71)⟩] [3, 4, 6, 7, 11, 12, 15, 66, 67, 68])
              (.seq (.reg [⟨some 72, none, .load (some 3) (.t 11)⟩,
                  ⟨some 73, none, .mv (.t 15)⟩,
                  ⟨some 74, none, .call (.f 65) [true, false] [(.t 72), (.t 73)]⟩,
                  ⟨some 16, none, .alloc [.int .i64 0, .int .i64 0, .int .i64 0]⟩,
                  ⟨none, none, .store 3 (.t 16) (.t 74)⟩] [3, 4, 6, 7, 11, 12, 16, 66, 67, 68])
              (.seq (.reg [⟨some 75, none, .ixA 3 1 none (.t 16) (.c (.int .i64 0))⟩,
                  ⟨some 76, none, .load none (.t 75)⟩,
                  ⟨some 77, none, .bin .sub (.t 76) (.c (.int .i64 1))⟩,
                  ⟨some 78, none, .ixA 3 1 none (.t 16) (.c (.int .i64 0))⟩,
                  ⟨none, none, .store 1 (.t 78) (.t 77)⟩] [3, 4, 6, 7, 11, 12, 16, 66, 67, 68])
              (.seq (.reg [⟨some 79, none, .load (some 3) (.t 11)⟩,
                  ⟨some 80, none, .call (.f 73) [true] [(.t 79)]⟩,
                  ⟨some 81, none, .mv (.c (.int .i64 0))⟩] [3, 4, 6, 7, 11, 12, 16, 66, 67, 68, 80, 81])
              (.block 5
                (.loop [3, 4, 6, 7, 11, 12, 16, 66, 67, 68, 80, 81]
                  (.seq (.reg [⟨some 82, none, .bin .lss (.t 81) (.c (.int .i64 3))⟩] [3, 4, 6, 7, 11, 12, 16, 66, 67, 68, 80, 81, 82])
                  (.seq (.cond (.t 82)
                    .skip
                    (.exit 5))
                  (.seq (.block 6
                    (.seq (.reg [⟨some 83, none, .mv (.t 81)⟩,
                        ⟨some 84, none, .ixV 3 3 (some 3) (.t 80) (.t 81)⟩,
                        ⟨some 18, none, .alloc [.nilfunc, .nilfunc, .nilfunc]⟩,
                        ⟨some 17, none, .mv (.t 83)⟩,
                        ⟨none, none, .store 3 (.t 18) (.t 84)⟩] [3, 4, 6, 7, 11, 12, 16, 17, 18, 66, 67, 68, 80, 81])
                    (.frz 18 true (.seq (.dreg [⟨some 85, none, .fieldAddr none 0 (.t 18)⟩,
                        ⟨some 86, none, .load none (.t 85)⟩,
                        ⟨some 87, none, .fieldAddr none 0 (.t 3)⟩,
                        ⟨some 88, none, .load none (.t 87)⟩,
                        ⟨some 89, none, .load none (.t 4)⟩,
                        ⟨some 90, none, .ixS 7 (.t 88) (.t 89)⟩,
                        ⟨some 91, none, .load (some 7) (.t 90)⟩,
                        ⟨some 92, none, .call (.t 86) [false] [(.t 91)]⟩,
                        ⟨some 19, none, .mv (.t 92)⟩] [3, 4, 6, 7, 11, 12, 16, 17, 19, 66, 67, 68, 80, 81] [[], [0], [], [2], [], [2, 3, 4], [2, 3, 4, 5], [0, 1, 2, 3, 4, 5, 6], [0, 1, 2, 3, 4, 5, 6, 7]])
                    (.block 7
                      (.seq (.reg [⟨some 104, none, .mv (.t 17)⟩,
                          ⟨some 105, none, .ixA 3 1 none (.t 16) (.t 104)⟩,
                          ⟨some 106, none, .load none (.t 105)⟩,
                          ⟨some 107, none, .bin .geq (.t 106) (.c (.int .i64 0))⟩,
                          ⟨some 103, none, .mv (.t 107)⟩] [3, 4, 6, 7, 11, 12, 16, 17, 19, 66, 67, 68, 80, 81, 103])
                      (.cond (.t 103)
                        .skip
                        (.seq (.reg [⟨some 109, none, .mv (.t 19)⟩,
                            ⟨some 110, none, .bin .eql (.t 109) (.c (.int .i64 0))⟩,
                            ⟨some 108, none, .mv (.t 110)⟩] [3, 4, 6, 7, 11, 12, 16, 17, 19, 66, 67, 68, 80, 81, 108])
                        (.cond (.t 108)
                          (.seq (.reg [⟨none, none, .store 1 (.t 6) (.c (.int .i64 0))⟩,
                              ⟨none, none, .store 1 (.t 7) (.c (.int .i64 9))⟩] [6, 7])
                          .ret)
                          (.dreg [⟨some 93, none, .load none (.t 12)⟩,
                              ⟨some 94, none, .mv (.t 19)⟩,
                              ⟨some 95, none, .bin .sub (.t 94) (.c (.int .i64 1))⟩,
                              ⟨some 96, none, .mv (.t 17)⟩,
                              ⟨some 97, none, .ixA 3 1 none (.t 16) (.t 96)⟩,
                              ⟨some 98, none, .load none (.t 97)⟩,
                              ⟨some 99, none, .bin .sub (.t 95) (.t 98)⟩,
                              ⟨some 100, none, .mv (.t 19)⟩,
                              ⟨some 101, none, .bin .quo (.t 99) (.t 100)⟩,
                              ⟨some 102, none, .mx [(.t 93), (.t 101)]⟩,
                              ⟨none, none, .store 1 (.t 12) (.t 102)⟩] [3, 4, 6, 7, 11, 12, 16, 66, 67, 68, 80, 81] [[], [], [1], [], [3], [3, 4], [1, 2, 3, 4, 5], [], [1, 2, 3, 4, 5, 6, 7], [0, 1, 2, 3, 4, 5, 6, 7, 8], [0, 1, 2, 3, 4, 5, 6, 7, 8, 9]]))))))))))
                  (.reg [⟨some 111, none, .bin .add (.t 81) (.c (.int .i64 1))⟩,
                      ⟨some 81, none, .mv (.t 111)⟩] [3, 4, 6, 7, 11, 12, 16, 66, 67, 68, 80, 81])))))))))))
            (.reg [⟨some 112, none, .bin .add (.t 68) (.c (.int .i64 1))⟩,
                ⟨some 68, none, .mv (.t 112)⟩] [3, 4, 6, 7, 11, 12, 66, 67, 68])))))))))))
  (.seq (.seq (.reg [⟨some 113, none, .load none (.t 12)⟩,
      ⟨some 114, none, .bin .gtr (.t 113) (.c (.int .i64 1000000))⟩] [6, 7, 12, 114])
  (.cond (.t 114)
    (.seq (.reg [⟨none, none, .store 1 (.t 6) (.c (.int .i64 0))⟩,
        ⟨none, none, .store 1 (.t 7) (.c (.int .i64 9))⟩] [6, 7])
    .ret)
    .skip))
  (.seq (.reg [⟨some 115, none, .load none (.t 12)⟩,
      ⟨none, none, .store 1 (.t 6) (.t 115)⟩,
      ⟨none, none, .store 1 (.t 7) (.c (.int .i64 0))⟩] [6, 7])
  .ret))))))))))
abbrev R_stand_Ballast : List (Nat × Option (Option Nat)) := [(6, some none), (7, some none)]
theorem K_stand_Ballast : chkF Try.prog Try.f36 116 C_stand_Ballast R_stand_Ballast = true := by kernel_rfl
theorem spec_stand_Ballast {args : List AVal} {σ : AHeap} {R : ARes → AHeap → Prop} (ha : args.length ≤ 116) (h : AW Try.prog 116 none C_stand_Ballast (bodyQ R_stand_Ballast R) { v := argEnv args 0, ds := [] } σ) : Spec Try.prog F_stand_Ballast args σ R := Spec.of_fn Try.func36 K_stand_Ballast ha h
theorem B_stand_Ballast : hasBody Try.prog F_stand_Ballast = true := by kernel_rfl
theorem E_stand_Ballast : EntOk Try.prog ⟨36, 116, C_stand_Ballast, R_stand_Ballast, false⟩ := ⟨fun _ => ⟨B_stand_Ballast, _, Try.func36, K_stand_Ballast⟩, fun h => by cases h⟩

abbrev F_r05_Ballast : FuncId := 37
/-- orlop/orlopref05.Ballast: parameters ['api.StHull', 'int', 'api.Span'], results ['int', 'api.Errno'] -/
def C_r05_Ballast : AC :=
  (.seq (.reg [⟨some 3, none, .pbox 3 (.t 0)⟩,
      ⟨some 5, none, .pbox 2 (.t 2)⟩,
      ⟨some 6, none, .mv (.c (.int .i64 0))⟩,
      ⟨some 7, none, .mv (.c (.int .i64 0))⟩] [1, 3, 5])
  (.seq (.reg [⟨some 17, none, .load (some 3) (.t 3)⟩,
      ⟨some 18, none, .call (.f 18) [true] [(.t 17)]⟩,
      ⟨some 16, none, .mv (.t 18)⟩,
      ⟨some 19, none, .extract (.t 16) 0⟩,
      ⟨some 20, none, .extract (.t 16) 1⟩,
      ⟨some 21, none, .extract (.t 16) 2⟩,
      ⟨some 8, none, .mv (.t 19)⟩,
      ⟨some 9, none, .mv (.t 20)⟩,
      ⟨some 10, none, .mv (.t 21)⟩] [1, 3, 5, 10])
  (.seq (.seq (.reg [⟨some 22, none, .mv (.t 10)⟩,
      ⟨some 23, none, .bin .eql (.t 22) (.c (.int .i64 0))⟩,
      ⟨some 24, none, .mv (.t 23)⟩,
      ⟨some 25, (some (24, true)), .mv (.t 1)⟩,
      ⟨some 26, (some (24, true)), .fieldAddr none 0 (.t 3)⟩,
      ⟨some 27, (some (24, true)), .load none (.t 26)⟩,
      ⟨some 28, (some (24, true)), .len (.t 27)⟩,
      ⟨some 29, (some (24, true)), .bin .sub (.t 28) (.c (.int .i64 1))⟩,
      ⟨some 30, (some (24, true)), .call (.f 56) [false, false, false] [(.t 25), (.c (.int .i64 0)), (.t 29)]⟩,
      ⟨some 31, (some (24, true)), .un .not (.t 30)⟩,
      ⟨some 32, none, .pick (.t 24) (.t 31) (.c (.bool false))⟩] [1, 3, 5, 10, 32])
  (.cond (.t 32)
    (.reg [⟨some 10, none, .mv (.c (.int .i64 4))⟩] [1, 3, 5, 10])
    .skip))
  (.seq (.seq (.dreg [⟨some 33, none, .mv (.t 10)⟩,
      ⟨some 34, none, .bin .eql (.t 33) (.c (.int .i64 0))⟩,
      ⟨some 35, none, .mv (.t 34)⟩,
      ⟨some 36, (some (35, true)), .fieldAddr none 0 (.t 3)⟩,
      ⟨some 37, (some (35, true)), .load none (.t 36)⟩,
      ⟨some 38, (some (35, true)), .mv (.t 1)⟩,
      ⟨some 39, (some (35, true)), .ixS 7 (.t 37) (.t 38)⟩,
      ⟨some 40, (some (35, true)), .fieldAddr none 1 (.t 39)⟩,
      ⟨some 41, (some (35, true)), .load none (.t 40)⟩,
      ⟨some 42, (some (35, true)), .fieldAddr none 1 (.t 3)⟩,
      ⟨some 43, (some (35, true)), .load none (.t 42)⟩,
      ⟨some 44, (some (35, true)), .fieldAddr none 2 (.t 3)⟩,
      ⟨some 45, (some (35, true)), .load none (.t 44)⟩,
      ⟨some 46, (some (35, true)), .call (.f 56) [false, false, false] [(.t 41), (.t 43), (.t 45)]⟩,
      ⟨some 47, (some (35, true)), .un .not (.t 46)⟩,
      ⟨some 48, none, .pick (.t 35) (.t 47) (.c (.bool false))⟩] [1, 3, 5, 10, 48] [[], [0], [0, 1], [0, 1, 2], [0, 1, 2, 3], [0, 1, 2], [0, 1, 2, 3, 4, 5], [0, 1, 2, 3, 4, 5, 6], [0, 1, 2, 3, 4, 5, 6, 7], [0, 1, 2], [0, 1, 2, 9], [0, 1, 2], [0, 1, 2, 11], [0, 1, 2, 3, 4, 5, 6, 7, 8, 9, 10, 11, 12], [0, 1, 2, 3, 4, 5, 6, 7, 8, 9, 10, 11, 12, 13], [0, 1, 2, 3, 4, 5, 6, 7, 8, 9, 10, 11, 12, 13, 14]])
  (.cond (.t 48)
    (.reg [⟨some 10, none, .mv (.c (.int .i64 2))⟩] [1, 3, 5, 10])
    .skip))
  (.seq (.reg [⟨some 49, none, .mv (.t 10)⟩,
      ⟨some 50, none, .load (some 2) (.t 5)⟩,
      ⟨some 51, none, .call (.f 70) [false, false] [(.t 49), (.t 50)]⟩,
      ⟨some 10, none, .mv (.t 51)⟩] [1, 3, 5, 10])
  (.seq (.seq (.reg [⟨some 52, none, .mv (.t 10)⟩,
      ⟨some 53, none, .bin .neq (.t 52) (.c (.int .i64 0))⟩] [1, 3, 5, 10, 53])
  (.cond (.t 53)
    (.seq (.reg [⟨some 54, none, .mv (.t 10)⟩,
        ⟨some 6, none, .mv (.c (.int .i64 0))⟩,
        ⟨some 7, none, .mv (.t 54)⟩] [6, 7])
    .ret)
    .skip))
  (.seq (.reg [⟨some 11, none, .mv (.c (.int .i64 0))⟩,
      ⟨some 12, none, .mv (.c (.int .i64 1000001))⟩] [1, 3, 5, 11, 12])
  (.seq (.block 0
    (.loop [1, 3, 5, 11, 12]
      (.seq (.seq (.reg [⟨some 55, none, .mv (.t 11)⟩,
          ⟨some 56, none, .mv (.t 12)⟩,
          ⟨some 57, none, .bin .lss (.t 55) (.t 56)⟩] [1, 3, 5, 11, 12, 57])
      (.cond (.t 57)
        .skip
        (.exit 0)))
      (.block 1
        (.seq (.reg [⟨some 58, none, .mv (.t 11)⟩,
            ⟨some 59, none, .mv (.t 12)⟩,
            ⟨some 60, none, .bin .add (.t 58) (.t 59)⟩,
            ⟨some 61, none, .bin .quo (.t 60) (.c (.int .i64 2))⟩,
            ⟨some 13, none, .mv (.t 61)⟩] [1, 3, 5, 11, 12, 13])
        (.seq (.dreg [⟨some 63, none, .load (some 3) (.t 3)⟩,
            ⟨some 64, none, .mv (.t 1)⟩,
            ⟨some 65, none, .mv (.t 13)⟩,
            ⟨some 66, none, .call (.f 48) [true, false, false] [(.t 63), (.t 64), (.t 65)]⟩,
            ⟨some 67, none, .load (some 2) (.t 5)⟩,
            ⟨some 68, none, .call (.f 71) [true, false] [(.t 66), (.t 67)]⟩,
            ⟨some 62, none, .mv (.t 68)⟩,
            ⟨some 69, none, .extract (.t 62) 0⟩,
            ⟨some 70, none, .extract (.t 62) 1⟩,
            ⟨some 14, none, .mv (.t 69)⟩,
            ⟨some 15, none, .mv (.t 70)⟩] [1, 3, 5, 11, 12, 13, 14] [[], [], [], [0, 1, 2], [], [0, 1, 2, 3, 4], [0, 1, 2, 3, 4, 5], [0, 1, 2, 3, 4, 5, 6], [0, 1, 2, 3, 4, 5, 6], [0, 1, 2, 3, 4, 5, 6, 7], [0, 1, 2, 3, 4, 5, 6, 7, 8, 9]])
        (.seq (.reg [⟨some 71, none, .mv (.t 14)⟩,
            ⟨some 72, none, .bin .eql (.t 71) (.c (.int .i64 0))⟩] [1, 3, 5, 11, 12, 13, 72])
        (.cond (.t 72)
          (.reg [⟨some 73, none, .mv (.t 13)⟩,
              ⟨some 12, none, .mv (.t 73)⟩] [1, 3, 5, 11, 12])
          (.reg [⟨some 74, none, .mv (.t 13)⟩,
              ⟨some 75, none, .bin .add (.t 74) (.c (.int .i64 1))⟩,
              ⟨some 11, none, .mv (.t 75)⟩] [1, 3, 5, 11, 12])))))))))
  (.seq (.seq (.reg [⟨some 76, none, .mv (.t 11)⟩,
      ⟨some 77, none, .bin .gtr (.t 76) (.c (.int .i64 1000000))⟩] [11, 77])
  (.cond (.t 77)
    (.seq (.reg [⟨some 6, none, .mv (.c (.int .i64 0))⟩,
        ⟨some 7, none, .mv (.c (.int .i64 9))⟩] [6, 7])
    .ret)
    .skip))
  (.seq (.reg [⟨some 78, none, .mv (.t 11)⟩,
      ⟨some 6, none, .mv (.t 78)⟩,
      ⟨some 7, none, .mv (.c (.int .i64 0))⟩] [6, 7])
  .ret))))))))))
abbrev R_r05_Ballast : List (Nat × Option (Option Nat)) := [(6, none), (7, none)]
theorem K_r05_Ballast : chkF Try.prog Try.f37 79 C_r05_Ballast R_r05_Ballast = true := by kernel_rfl
theorem spec_r05_Ballast {args : List AVal} {σ : AHeap} {R : ARes → AHeap → Prop} (ha : args.length ≤ 79) (h : AW Try.prog 79 none C_r05_Ballast (bodyQ R_r05_Ballast R) { v := argEnv args 0, ds := [] } σ) : Spec Try.prog F_r05_Ballast args σ R := Spec.of_fn Try.func37 K_r05_Ballast ha h
theorem B_r05_Ballast : hasBody Try.prog F_r05_Ballast = true := by kernel_rfl
theorem E_r05_Ballast : EntOk Try.prog ⟨37, 79, C_r05_Ballast, R_r05_Ballast, false⟩ := ⟨fun _ => ⟨B_r05_Ballast, _, Try.func37, K_r05_Ballast⟩, fun h => by cases h⟩

abbrev F_l05_Hull : FuncId := 38
/-- orlop/orloplaw05.Hull: parameters [], results ['api.StHull'] -/
def C_l05_Hull : AC :=
  (.seq (.reg [⟨some 0, none, .alloc [.slice 7 [], .int .i64 0, .int .i64 0]⟩] [0])
  (.seq (.reg [⟨some 1, none, .call (.f 40) [false, false] [(.c (.int .i64 1000)), (.c (.int .i64 1200))]⟩,
      ⟨some 2, none, .call (.f 40) [false, false] [(.c (.int .i64 10)), (.c (.int .i64 12))]⟩,
      ⟨some 3, none, .build [.str ByteArray.empty, .int .i64 0, .int .i64 0, .int .i64 0, .int .i64 0, .int .i64 0, .int .i64 0] [(0, 1, (.c (.str ⟨#[98, 111, 119]⟩))), (1, 1, (.c (.int .i64 100))), (2, 2, (.t 1)), (4, 1, (.c (.int .i64 50))), (5, 2, (.t 2))]⟩,
      ⟨some 4, none, .call (.f 40) [false, false] [(.c (.int .i64 500)), (.c (.int .i64 600))]⟩,
      ⟨some 5, none, .call (.f 40) [false, false] [(.c (.int .i64 4)), (.c (.int .i64 5))]⟩,
      ⟨some 6, none, .build [.str ByteArray.empty, .int .i64 0, .int .i64 0, .int .i64 0, .int .i64 0, .int .i64 0, .int .i64 0] [(0, 1, (.c (.str ⟨#[109, 105, 100]⟩))), (1, 1, (.c (.int .i64 400))), (2, 2, (.t 4)), (4, 1, (.c (.int .i64 100))), (5, 2, (.t 5))]⟩,
      ⟨some 7, none, .call (.f 40) [false, false] [(.c (.int .i64 2000)), (.c (.int .i64 2000))]⟩,
      ⟨some 8, none, .call (.f 40) [false, false] [(.c (.int .i64 20)), (.c (.int .i64 20))]⟩,
      ⟨some 9, none, .build [.str ByteArray.empty, .int .i64 0, .int .i64 0, .int .i64 0, .int .i64 0, .int .i64 0, .int .i64 0] [(0, 1, (.c (.str ⟨#[115, 116, 101, 114, 110]⟩))), (1, 1, (.c (.int .i64 900))), (2, 2, (.t 7)), (4, 1, (.c (.int .i64 100))), (5, 2, (.t 8))]⟩,
      ⟨some 10, none, .lit 0 7 3 [(0, (.t 3)), (1, (.t 6)), (2, (.t 9))]⟩,
      ⟨some 11, none, .build [.slice 7 [], .int .i64 0, .int .i64 0] [(0, 1, (.t 10)), (1, 1, (.c (.int .i64 200))), (2, 1, (.c (.int .i64 800)))]⟩,
      ⟨none, none, .store 3 (.t 0) (.t 11)⟩] [0])
  .ret))
abbrev R_l05_Hull : List (Nat × Option (Option Nat)) := [(0, some (some 3))]
theorem K_l05_Hull : chkF Try.prog Try.f38 12 C_l05_Hull R_l05_Hull = true := by kernel_rfl
theorem spec_l05_Hull {args : List AVal} {σ : AHeap} {R : ARes → AHeap → Prop} (ha : args.length ≤ 12) (h : AW Try.prog 12 none C_l05_Hull (bodyQ R_l05_Hull R) { v := argEnv args 0, ds := [] } σ) : Spec Try.prog F_l05_Hull args σ R := Spec.of_fn Try.func38 K_l05_Hull ha h
theorem B_l05_Hull : hasBody Try.prog F_l05_Hull = true := by kernel_rfl
theorem E_l05_Hull : EntOk Try.prog ⟨38, 12, C_l05_Hull, R_l05_Hull, false⟩ := ⟨fun _ => ⟨B_l05_Hull, _, Try.func38, K_l05_Hull⟩, fun h => by cases h⟩

abbrev F_l05_Heavy : FuncId := 39
/-- orlop/orloplaw05.Heavy: parameters [], results ['api.StTruth'] -/
def C_l05_Heavy : AC :=
  (.seq (.reg [⟨some 0, none, .alloc [.slice 1 [], .slice 1 []]⟩] [0])
  (.seq (.reg [⟨some 1, none, .lit 0 1 3 [(0, (.c (.int .i64 1000))), (1, (.c (.int .i64 500))), (2, (.c (.int .i64 2000)))]⟩,
      ⟨some 2, none, .lit 0 1 3 [(0, (.c (.int .i64 12))), (1, (.c (.int .i64 5))), (2, (.c (.int .i64 20)))]⟩,
      ⟨some 3, none, .build [.slice 1 [], .slice 1 []] [(0, 1, (.t 1)), (1, 1, (.t 2))]⟩,
      ⟨none, none, .store 2 (.t 0) (.t 3)⟩] [0])
  .ret))
abbrev R_l05_Heavy : List (Nat × Option (Option Nat)) := [(0, some (some 2))]
theorem K_l05_Heavy : chkF Try.prog Try.f39 4 C_l05_Heavy R_l05_Heavy = true := by kernel_rfl
theorem spec_l05_Heavy {args : List AVal} {σ : AHeap} {R : ARes → AHeap → Prop} (ha : args.length ≤ 4) (h : AW Try.prog 4 none C_l05_Heavy (bodyQ R_l05_Heavy R) { v := argEnv args 0, ds := [] } σ) : Spec Try.prog F_l05_Heavy args σ R := Spec.of_fn Try.func39 K_l05_Heavy ha h
theorem B_l05_Heavy : hasBody Try.prog F_l05_Heavy = true := by kernel_rfl
theorem E_l05_Heavy : EntOk Try.prog ⟨39, 4, C_l05_Heavy, R_l05_Heavy, false⟩ := ⟨fun _ => ⟨B_l05_Heavy, _, Try.func39, K_l05_Heavy⟩, fun h => by cases h⟩

abbrev F_l05_span : FuncId := 40
/-- orlop/orloplaw05.span: parameters ['int', 'int'], results ['api.Span'] -/
def C_l05_span : AC :=
  (.seq (.reg [⟨some 4, none, .alloc [.int .i64 0, .int .i64 0]⟩] [0, 1, 4])
  (.seq (.reg [⟨some 5, none, .mv (.t 0)⟩,
      ⟨some 6, none, .mv (.t 1)⟩,
      ⟨some 7, none, .build [.int .i64 0, .int .i64 0] [(0, 1, (.t 5)), (1, 1, (.t 6))]⟩,
      ⟨none, none, .store 2 (.t 4) (.t 7)⟩] [4])
  .ret))
abbrev R_l05_span : List (Nat × Option (Option Nat)) := [(4, some (some 2))]
theorem K_l05_span : chkF Try.prog Try.f40 8 C_l05_span R_l05_span = true := by kernel_rfl
theorem spec_l05_span {args : List AVal} {σ : AHeap} {R : ARes → AHeap → Prop} (ha : args.length ≤ 8) (h : AW Try.prog 8 none C_l05_span (bodyQ R_l05_span R) { v := argEnv args 0, ds := [] } σ) : Spec Try.prog F_l05_span args σ R := Spec.of_fn Try.func40 K_l05_span ha h
theorem B_l05_span : hasBody Try.prog F_l05_span = true := by kernel_rfl
theorem E_l05_span : EntOk Try.prog ⟨40, 8, C_l05_span, R_l05_span, false⟩ := ⟨fun _ => ⟨B_l05_span, _, Try.func40, K_l05_span⟩, fun h => by cases h⟩

abbrev F_r01_Name : FuncId := 41
/-- orlop/orlopref01.Name: parameters ['string'], results ['bool'] -/
def C_r01_Name : AC :=
  (.seq (.reg [⟨some 2, none, .mv (.c (.bool false))⟩] [0])
  (.seq (.seq (.reg [⟨some 6, none, .mv (.t 0)⟩,
      ⟨some 7, none, .lenStr (.t 6)⟩,
      ⟨some 8, none, .call (.f 78) [false, false, false] [(.t 7), (.c (.int .i64 1)), (.c (.int .i64 16))]⟩,
      ⟨some 9, none, .un .not (.t 8)⟩,
      ⟨some 10, none, .mv (.t 9)⟩,
      ⟨some 11, (some (10, false)), .mv (.t 0)⟩,
      ⟨some 12, (some (10, false)), .ixStr (.t 11) (.c (.int .i64 0))⟩,
      ⟨some 13, (some (10, false)), .bin .lss (.t 12) (.c (.int .u8 97))⟩,
      ⟨some 14, none, .pick (.t 10) (.c (.bool true)) (.t 13)⟩,
      ⟨some 15, none, .mv (.t 14)⟩,
      ⟨some 16, (some (15, false)), .mv (.t 0)⟩,
      ⟨some 17, (some (15, false)), .ixStr (.t 16) (.c (.int .i64 0))⟩,
      ⟨some 18, (some (15, false)), .bin .gtr (.t 17) (.c (.int .u8 122))⟩,
      ⟨some 19, none, .pick (.t 15) (.c (.bool true)) (.t 18)⟩] [0, 19])
  (.cond (.t 19)
    (.seq (.reg [⟨some 2, none, .mv (.c (.bool false))⟩] [2])
    .ret)
    .skip))
  (.seq (.seq (.reg [⟨some 3, none, .mv (.c (.int .i64 1))⟩] [0, 3])
  (.block 0
    (.loop [0, 3]
      (.seq (.seq (.reg [⟨some 20, none, .mv (.t 3)⟩,
          ⟨some 21, none, .mv (.t 0)⟩,
          ⟨some 22, none, .lenStr (.t 21)⟩,
          ⟨some 23, none, .bin .lss (.t 20) (.t 22)⟩] [0, 3, 23])
      (.cond (.t 23)
        .skip
        (.exit 0)))
      (.seq (.block 1
        (.seq (.dreg [⟨some 26, none, .mv (.t 0)⟩,
            ⟨some 27, none, .mv (.t 3)⟩,
            ⟨some 28, none, .ixStr (.t 26) (.t 27)⟩,
            ⟨some 29, none, .bin .geq (.t 28) (.c (.int .u8 97))⟩,
            ⟨some 30, none, .mv (.t 29)⟩,
            ⟨some 31, (some (30, true)), .mv (.t 0)⟩,
            ⟨some 32, (some (30, true)), .mv (.t 3)⟩,
            ⟨some 33, (some (30, true)), .ixStr (.t 31) (.t 32)⟩,
            ⟨some 34, (some (30, true)), .bin .leq (.t 33) (.c (.int .u8 122))⟩,
            ⟨some 35, none, .pick (.t 30) (.t 34) (.c (.bool false))⟩,
            ⟨some 36, none, .mv (.t 0)⟩,
            ⟨some 37, none, .mv (.t 3)⟩,
            ⟨some 38, none, .ixStr (.t 36) (.t 37)⟩,
            ⟨some 39, none, .bin .geq (.t 38) (.c (.int .u8 48))⟩,
            ⟨some 40, none, .mv (.t 39)⟩,
            ⟨some 41, (some (40, true)), .mv (.t 0)⟩,
            ⟨some 42, (some (40, true)), .mv (.t 3)⟩,
            ⟨some 43, (some (40, true)), .ixStr (.t 41) (.t 42)⟩,
            ⟨some 44, (some (40, true)), .bin .leq (.t 43) (.c (.int .u8 57))⟩,
            ⟨some 45, none, .pick (.t 40) (.t 44) (.c (.bool false))⟩,
            ⟨some 4, none, .mv (.t 35)⟩,
            ⟨some 5, none, .mv (.t 45)⟩] [0, 3, 4, 5] [[], [], [0, 1], [0, 1, 2], [0, 1, 2, 3], [0, 1, 2, 3, 4], [0, 1, 2, 3, 4], [0, 1, 2, 3, 4, 5, 6], [0, 1, 2, 3, 4, 5, 6, 7], [0, 1, 2, 3, 4, 5, 6, 7, 8], [], [], [10, 11], [10, 11, 12], [0, 1, 2, 3, 4, 10, 11, 12, 13], [0, 1, 2, 3, 4, 10, 11, 12, 13, 14], [0, 1, 2, 3, 4, 10, 11, 12, 13, 14], [0, 1, 2, 3, 4, 10, 11, 12, 13, 14, 15, 16], [0, 1, 2, 3, 4, 10, 11, 12, 13, 14, 15, 16, 17], [0, 1, 2, 3, 4, 10, 11, 12, 13, 14, 15, 16, 17, 18], [0, 1, 2, 3, 4, 5, 6, 7, 8, 9, 10, 11, 12, 13, 14], [0, 1, 2, 3, 4, 5, 6, 7, 8, 9, 10, 11, 12, 13, 14, 15, 16, 17, 18, 19, 20]])
        (.seq (.reg [⟨some 46, none, .mv (.t 4)⟩,
            ⟨some 47, none, .un .not (.t 46)⟩,
            ⟨some 48, none, .mv (.t 47)⟩,
            ⟨some 49, (some (48, true)), .mv (.t 5)⟩,
            ⟨some 50, (some (48, true)), .un .not (.t 49)⟩,
            ⟨some 51, none, .pick (.t 48) (.t 50) (.c (.bool false))⟩] [0, 3, 51])
        (.cond (.t 51)
          (.seq (.reg [⟨some 2, none, .mv (.c (.bool false))⟩] [2])
          .ret)
          .skip))))
      (.reg [⟨some 24, none, .mv (.t 3)⟩,
          ⟨some 25, none, .bin .add (.t 24) (.c (.int .i64 1))⟩,
          ⟨some 3, none, .mv (.t 25)⟩] [0, 3]))))))
  (.seq (.reg [⟨some 2, none, .mv (.c (.bool true))⟩] [2])
  .ret))))
abbrev R_r01_Name : List (Nat × Option (Option Nat)) := [(2, none)]
theorem K_r01_Name : chkF Try.prog Try.f41 52 C_r01_Name R_r01_Name = true := by kernel_rfl
theorem spec_r01_Name {args : List AVal} {σ : AHeap} {R : ARes → AHeap → Prop} (ha : args.length ≤ 52) (h : AW Try.prog 52 none C_r01_Name (bodyQ R_r01_Name R) { v := argEnv args 0, ds := [] } σ) : Spec Try.prog F_r01_Name args σ R := Spec.of_fn Try.func41 K_r01_Name ha h
theorem B_r01_Name : hasBody Try.prog F_r01_Name = true := by kernel_rfl
theorem E_r01_Name : EntOk Try.prog ⟨41, 52, C_r01_Name, R_r01_Name, false⟩ := ⟨fun _ => ⟨B_r01_Name, _, Try.func41, K_r01_Name⟩, fun h => by cases h⟩

abbrev F_l05_Tide : FuncId := 42
/-- orlop/orloplaw05.Tide: parameters ['[2]uint16'], results ['api.Span'] -/
def C_l05_Tide : AC :=
  (.seq (.reg [⟨some 1, none, .pbox 2 (.t 0)⟩,
      ⟨some 2, none, .alloc [.int .i64 0, .int .i64 0]⟩] [1, 2])
  (.seq (.reg [⟨some 4, none, .ixA 2 1 none (.t 1) (.c (.int .i64 0))⟩,
      ⟨some 5, none, .load none (.t 4)⟩,
      ⟨some 6, none, .conv .i64 (.t 5)⟩,
      ⟨some 7, none, .bin .rem (.t 6) (.c (.int .i64 1001))⟩,
      ⟨some 3, none, .mv (.t 7)⟩] [1, 2, 3])
  (.seq (.reg [⟨some 8, none, .mv (.t 3)⟩,
      ⟨some 9, none, .mv (.t 3)⟩,
      ⟨some 10, none, .ixA 2 1 none (.t 1) (.c (.int .i64 1))⟩,
      ⟨some 11, none, .load none (.t 10)⟩,
      ⟨some 12, none, .conv .i64 (.t 11)⟩,
      ⟨some 13, none, .mv (.t 3)⟩,
      ⟨some 14, none, .bin .sub (.c (.int .i64 1000)) (.t 13)⟩,
      ⟨some 15, none, .bin .add (.t 14) (.c (.int .i64 1))⟩,
      ⟨some 16, none, .bin .rem (.t 12) (.t 15)⟩,
      ⟨some 17, none, .bin .add (.t 9) (.t 16)⟩,
      ⟨some 18, none, .call (.f 40) [false, false] [(.t 8), (.t 17)]⟩,
      ⟨none, none, .store 2 (.t 2) (.t 18)⟩] [2])
  .ret)))
abbrev R_l05_Tide : List (Nat × Option (Option Nat)) := [(2, some (some 2))]
theorem K_l05_Tide : chkF Try.prog Try.f42 19 C_l05_Tide R_l05_Tide = true := by kernel_rfl
theorem spec_l05_Tide {args : List AVal} {σ : AHeap} {R : ARes → AHeap → Prop} (ha : args.length ≤ 19) (h : AW Try.prog 19 none C_l05_Tide (bodyQ R_l05_Tide R) { v := argEnv args 0, ds := [] } σ) : Spec Try.prog F_l05_Tide args σ R := Spec.of_fn Try.func42 K_l05_Tide ha h
theorem B_l05_Tide : hasBody Try.prog F_l05_Tide = true := by kernel_rfl
theorem E_l05_Tide : EntOk Try.prog ⟨42, 19, C_l05_Tide, R_l05_Tide, false⟩ := ⟨fun _ => ⟨B_l05_Tide, _, Try.func42, K_l05_Tide⟩, fun h => by cases h⟩

abbrev F_l05_valid : FuncId := 43
/-- orlop/orloplaw05.valid: parameters ['api.StHull'], results ['bool'] -/
def C_l05_valid : AC :=
  (.seq (.reg [⟨some 1, none, .pbox 3 (.t 0)⟩,
      ⟨some 2, none, .mv (.c (.bool false))⟩] [1])
  (.seq (.reg [⟨some 7, none, .load (some 3) (.t 1)⟩,
      ⟨some 8, none, .call (.f 18) [true] [(.t 7)]⟩,
      ⟨some 6, none, .mv (.t 8)⟩,
      ⟨some 9, none, .extract (.t 6) 0⟩,
      ⟨some 10, none, .extract (.t 6) 1⟩,
      ⟨some 11, none, .extract (.t 6) 2⟩,
      ⟨some 3, none, .mv (.t 9)⟩,
      ⟨some 4, none, .mv (.t 10)⟩,
      ⟨some 5, none, .mv (.t 11)⟩] [5])
  (.seq (.reg [⟨some 12, none, .mv (.t 5)⟩,
      ⟨some 13, none, .bin .eql (.t 12) (.c (.int .i64 0))⟩,
      ⟨some 2, none, .mv (.t 13)⟩] [2])
  .ret)))
abbrev R_l05_valid : List (Nat × Option (Option Nat)) := [(2, none)]
theorem K_l05_valid : chkF Try.prog Try.f43 14 C_l05_valid R_l05_valid = true := by kernel_rfl
theorem spec_l05_valid {args : List AVal} {σ : AHeap} {R : ARes → AHeap → Prop} (ha : args.length ≤ 14) (h : AW Try.prog 14 none C_l05_valid (bodyQ R_l05_valid R) { v := argEnv args 0, ds := [] } σ) : Spec Try.prog F_l05_valid args σ R := Spec.of_fn Try.func43 K_l05_valid ha h
theorem B_l05_valid : hasBody Try.prog F_l05_valid = true := by kernel_rfl
theorem E_l05_valid : EntOk Try.prog ⟨43, 14, C_l05_valid, R_l05_valid, false⟩ := ⟨fun _ => ⟨B_l05_valid, _, Try.func43, K_l05_valid⟩, fun h => by cases h⟩

abbrev F_l05_stands : FuncId := 44
/-- orlop/orloplaw05.stands: parameters ['api.StHull', 'api.StTruth', 'int'], results ['bool'] -/
def C_l05_stands : AC :=
  (.seq (.reg [⟨some 3, none, .pbox 3 (.t 0)⟩,
      ⟨some 4, none, .pbox 2 (.t 1)⟩,
      ⟨some 6, none, .mv (.c (.bool false))⟩] [2, 3, 4])
  (.seq (.reg [⟨some 12, none, .load (some 3) (.t 3)⟩,
      ⟨some 13, none, .load (some 2) (.t 4)⟩,
      ⟨some 14, none, .mv (.t 2)⟩,
      ⟨some 15, none, .call (.f 31) [true, true, false] [(.t 12), (.t 13), (.t 14)]⟩,
      ⟨some 11, none, .mv (.t 15)⟩,
      ⟨some 16, none, .extract (.t 11) 0⟩,
      ⟨some 17, none, .extract (.t 11) 1⟩,
      ⟨some 7, none, .mv (.t 16)⟩,
      ⟨some 8, none, .mv (.t 17)⟩] [2, 3, 4, 7, 8])
  (.seq (.seq (.reg [⟨some 18, none, .mv (.t 8)⟩,
      ⟨some 19, none, .bin .neq (.t 18) (.c (.int .i64 0))⟩] [2, 3, 4, 7, 19])
  (.cond (.t 19)
    (.seq (.reg [⟨some 6, none, .mv (.c (.bool false))⟩] [6])
    .ret)
    .skip))
  (.seq (.reg [⟨some 21, none, .load (some 3) (.t 3)⟩,
      ⟨some 22, none, .load (some 2) (.t 4)⟩,
      ⟨some 23, none, .mv (.t 2)⟩,
      ⟨some 24, none, .mv (.t 7)⟩,
      ⟨some 25, none, .call (.f 34) [true, true, false, true] [(.t 21), (.t 22), (.t 23), (.t 24)]⟩,
      ⟨some 20, none, .mv (.t 25)⟩,
      ⟨some 26, none, .extract (.t 20) 0⟩,
      ⟨some 27, none, .extract (.t 20) 1⟩,
      ⟨some 9, none, .mv (.t 26)⟩,
      ⟨some 10, none, .mv (.t 27)⟩] [9, 10])
  (.seq (.reg [⟨some 28, none, .mv (.t 10)⟩,
      ⟨some 29, none, .bin .eql (.t 28) (.c (.int .i64 0))⟩,
      ⟨some 30, none, .mv (.t 29)⟩,
      ⟨some 31, (some (30, true)), .mv (.t 9)⟩,
      ⟨some 32, none, .pick (.t 30) (.t 31) (.c (.bool false))⟩,
      ⟨some 6, none, .mv (.t 32)⟩] [6])
  .ret)))))
abbrev R_l05_stands : List (Nat × Option (Option Nat)) := [(6, none)]
theorem K_l05_stands : chkF Try.prog Try.f44 33 C_l05_stands R_l05_stands = true := by kernel_rfl
theorem spec_l05_stands {args : List AVal} {σ : AHeap} {R : ARes → AHeap → Prop} (ha : args.length ≤ 33) (h : AW Try.prog 33 none C_l05_stands (bodyQ R_l05_stands R) { v := argEnv args 0, ds := [] } σ) : Spec Try.prog F_l05_stands args σ R := Spec.of_fn Try.func44 K_l05_stands ha h
theorem B_l05_stands : hasBody Try.prog F_l05_stands = true := by kernel_rfl
theorem E_l05_stands : EntOk Try.prog ⟨44, 33, C_l05_stands, R_l05_stands, false⟩ := ⟨fun _ => ⟨B_l05_stands, _, Try.func44, K_l05_stands⟩, fun h => by cases h⟩

abbrev F_l05_Truth : FuncId := 45
/-- orlop/orloplaw05.Truth: parameters ['api.StHull', '[]uint32'], results ['api.StTruth'] -/
def C_l05_Truth : AC :=
  (.seq (.reg [⟨some 2, none, .pbox 3 (.t 0)⟩,
      ⟨some 4, none, .alloc [.slice 1 [], .slice 1 []]⟩] [1, 2, 4])
  (.seq (.reg [⟨some 5, none, .alloc [.mint 1, .mint 1]⟩] [1, 2, 4, 5])
  (.seq (.seq (.reg [⟨some 6, none, .mv (.c (.int .i64 0))⟩] [1, 2, 4, 5, 6])
  (.block 0
    (.loop [1, 2, 4, 5, 6]
      (.seq (.seq (.reg [⟨some 7, none, .mv (.t 6)⟩,
          ⟨some 8, none, .fieldAddr none 0 (.t 2)⟩,
          ⟨some 9, none, .load none (.t 8)⟩,
          ⟨some 10, none, .len (.t 9)⟩,
          ⟨some 11, none, .bin .lss (.t 7) (.t 10)⟩] [1, 2, 4, 5, 6, 11])
      (.cond (.t 11)
        .skip
        (.exit 0)))
      (.seq (.block 1
        (.seq (.dreg [⟨some 14, none, .fieldAddr none 0 (.t 5)⟩,
            ⟨some 15, none, .load none (.t 14)⟩,
            ⟨some 16, none, .fieldAddr none 0 (.t 2)⟩,
            ⟨some 17, none, .load none (.t 16)⟩,
            ⟨some 18, none, .mv (.t 6)⟩,
            ⟨some 19, none, .ixS 7 (.t 17) (.t 18)⟩,
            ⟨some 20, none, .fieldAddr (some 2) 2 (.t 19)⟩,
            ⟨some 21, none, .load (some 2) (.t 20)⟩,
            ⟨some 22, none, .mv (.t 1)⟩,
            ⟨some 23, none, .mv (.t 6)⟩,
            ⟨some 24, none, .bin .mul (.c (.int .i64 2)) (.t 23)⟩,
            ⟨some 25, none, .call (.f 50) [true, false] [(.t 22), (.t 24)]⟩,
            ⟨some 26, none, .call (.f 46) [false, false] [(.t 21), (.t 25)]⟩,
            ⟨some 27, none, .lit 0 1 1 [(0, (.t 26))]⟩,
            ⟨some 28, none, .append 1 8 (.t 15) (.t 27)⟩,
            ⟨some 29, none, .fieldAddr none 0 (.t 5)⟩,
            ⟨none, none, .store 1 (.t 29) (.t 28)⟩] [1, 2, 4, 5, 6] [[], [0], [], [2], [], [2, 3, 4], [2, 3, 4, 5], [2, 3, 4, 5, 6], [], [], [9], [8, 9, 10], [2, 3, 4, 5, 6, 7, 8, 9, 10, 11], [2, 3, 4, 5, 6, 7, 8, 9, 10, 11, 12], [0, 1, 2, 3, 4, 5, 6, 7, 8, 9, 10, 11, 12, 13], [0, 1, 2, 3, 4, 5, 6, 7, 8, 9, 10, 11, 12, 13, 14], [0, 1, 2, 3, 4, 5, 6, 7, 8, 9, 10, 11, 12, 13, 14, 15]])
        (.dreg [⟨some 30, none, .fieldAddr none 1 (.t 5)⟩,
            ⟨some 31, none, .load none (.t 30)⟩,
            ⟨some 32, none, .fieldAddr none 0 (.t 2)⟩,
            ⟨some 33, none, .load none (.t 32)⟩,
            ⟨some 34, none, .mv (.t 6)⟩,
            ⟨some 35, none, .ixS 7 (.t 33) (.t 34)⟩,
            ⟨some 36, none, .fieldAddr (some 2) 5 (.t 35)⟩,
            ⟨some 37, none, .load (some 2) (.t 36)⟩,
            ⟨some 38, none, .mv (.t 1)⟩,
            ⟨some 39, none, .mv (.t 6)⟩,
            ⟨some 40, none, .bin .mul (.c (.int .i64 2)) (.t 39)⟩,
            ⟨some 41, none, .bin .add (.t 40) (.c (.int .i64 1))⟩,
            ⟨some 42, none, .call (.f 50) [true, false] [(.t 38), (.t 41)]⟩,
            ⟨some 43, none, .call (.f 46) [false, false] [(.t 37), (.t 42)]⟩,
            ⟨some 44, none, .lit 0 1 1 [(0, (.t 43))]⟩,
            ⟨some 45, none, .append 1 8 (.t 31) (.t 44)⟩,
            ⟨some 46, none, .fieldAddr none 1 (.t 5)⟩,
            ⟨none, none, .store 1 (.t 46) (.t 45)⟩] [1, 2, 4, 5, 6] [[], [0], [], [2], [], [2, 3, 4], [2, 3, 4, 5], [2, 3, 4, 5, 6], [], [], [9], [9, 10], [8, 9, 10, 11], [2, 3, 4, 5, 6, 7, 8, 9, 10, 11, 12], [2, 3, 4, 5, 6, 7, 8, 9, 10, 11, 12, 13], [0, 1, 2, 3, 4, 5, 6, 7, 8, 9, 10, 11, 12, 13, 14], [0, 1, 2, 3, 4, 5, 6, 7, 8, 9, 10, 11, 12, 13, 14, 15], [0, 1, 2, 3, 4, 5, 6, 7, 8, 9, 10, 11, 12, 13, 14, 15, 16]])))
      (.reg [⟨some 12, none, .mv (.t 6)⟩,
          ⟨some 13, none, .bin .add (.t 12) (.c (.int .i64 1))⟩,
          ⟨some 6, none, .mv (.t 13)⟩] [1, 2, 4, 5, 6]))))))
  (.seq (.reg [⟨some 47, none, .loadd (some 2) (.t 5)⟩,
      ⟨none, none, .store 2 (.t 4) (.t 47)⟩] [4])
  .ret))))
abbrev R_l05_Truth : List (Nat × Option (Option Nat)) := [(4, some (some 2))]
theorem K_l05_Truth : chkF Try.prog Try.f45 48 C_l05_Truth R_l05_Truth = true := by kernel_rfl
theorem spec_l05_Truth {args : List AVal} {σ : AHeap} {R : ARes → AHeap → Prop} (ha : args.length ≤ 48) (h : AW Try.prog 48 none C_l05_Truth (bodyQ R_l05_Truth R) { v := argEnv args 0, ds := [] } σ) : Spec Try.prog F_l05_Truth args σ R := Spec.of_fn Try.func45 K_l05_Truth ha h
theorem B_l05_Truth : hasBody Try.prog F_l05_Truth = true := by kernel_rfl
theorem E_l05_Truth : EntOk Try.prog ⟨45, 48, C_l05_Truth, R_l05_Truth, false⟩ := ⟨fun _ => ⟨B_l05_Truth, _, Try.func45, K_l05_Truth⟩, fun h => by cases h⟩

abbrev F_l05_among : FuncId := 46
/-- orlop/orloplaw05.among: parameters ['api.Span', 'int'], results ['int'] -/
def C_l05_among : AC :=
  (.seq (.reg [⟨some 2, none, .pbox 2 (.t 0)⟩,
      ⟨some 4, none, .mv (.c (.int .i64 0))⟩] [1, 2])
  (.seq (.dreg [⟨some 5, none, .fieldAddr none 0 (.t 2)⟩,
      ⟨some 6, none, .load none (.t 5)⟩,
      ⟨some 7, none, .mv (.t 1)⟩,
      ⟨some 8, none, .fieldAddr none 1 (.t 2)⟩,
      ⟨some 9, none, .load none (.t 8)⟩,
      ⟨some 10, none, .fieldAddr none 0 (.t 2)⟩,
      ⟨some 11, none, .load none (.t 10)⟩,
      ⟨some 12, none, .bin .sub (.t 9) (.t 11)⟩,
      ⟨some 13, none, .bin .add (.t 12) (.c (.int .i64 1))⟩,
      ⟨some 14, none, .bin .rem (.t 7) (.t 13)⟩,
      ⟨some 15, none, .bin .add (.t 6) (.t 14)⟩,
      ⟨some 4, none, .mv (.t 15)⟩] [4] [[], [0], [], [], [3], [], [5], [3, 4, 5, 6], [3, 4, 5, 6, 7], [2, 3, 4, 5, 6, 7, 8], [0, 1, 2, 3, 4, 5, 6, 7, 8, 9], [0, 1, 2, 3, 4, 5, 6, 7, 8, 9, 10]])
  .ret))
abbrev R_l05_among : List (Nat × Option (Option Nat)) := [(4, none)]
theorem K_l05_among : chkF Try.prog Try.f46 16 C_l05_among R_l05_among = true := by kernel_rfl
theorem spec_l05_among {args : List AVal} {σ : AHeap} {R : ARes → AHeap → Prop} (ha : args.length ≤ 16) (h : AW Try.prog 16 none C_l05_among (bodyQ R_l05_among R) { v := argEnv args 0, ds := [] } σ) : Spec Try.prog F_l05_among args σ R := Spec.of_fn Try.func46 K_l05_among ha h
theorem B_l05_among : hasBody Try.prog F_l05_among = true := by kernel_rfl
theorem E_l05_among : EntOk Try.prog ⟨46, 16, C_l05_among, R_l05_among, false⟩ := ⟨fun _ => ⟨B_l05_among, _, Try.func46, K_l05_among⟩, fun h => by cases h⟩

abbrev F_r05_Truth : FuncId := 47
/-- orlop/orlopref05.Truth: parameters ['api.StHull', 'api.StTruth'], results ['api.Errno'] -/
def C_r05_Truth : AC :=
  (.seq (.reg [⟨some 2, none, .pbox 3 (.t 0)⟩,
      ⟨some 3, none, .pbox 2 (.t 1)⟩,
      ⟨some 4, none, .mv (.c (.int .i64 0))⟩] [2, 3])
  (.seq (.reg [⟨some 11, none, .load (some 3) (.t 2)⟩,
      ⟨some 12, none, .call (.f 18) [true] [(.t 11)]⟩,
      ⟨some 10, none, .mv (.t 12)⟩,
      ⟨some 13, none, .extract (.t 10) 0⟩,
      ⟨some 14, none, .extract (.t 10) 1⟩,
      ⟨some 15, none, .extract (.t 10) 2⟩,
      ⟨some 5, none, .mv (.t 13)⟩,
      ⟨some 6, none, .mv (.t 14)⟩,
      ⟨some 7, none, .mv (.t 15)⟩] [2, 3, 7])
  (.seq (.seq (.reg [⟨some 16, none, .mv (.t 7)⟩,
      ⟨some 17, none, .bin .neq (.t 16) (.c (.int .i64 0))⟩] [2, 3, 7, 17])
  (.cond (.t 17)
    (.seq (.reg [⟨some 18, none, .mv (.t 7)⟩,
        ⟨some 4, none, .mv (.t 18)⟩] [4])
    .ret)
    .skip))
  (.seq (.seq (.reg [⟨some 19, none, .fieldAddr none 0 (.t 3)⟩,
      ⟨some 20, none, .load none (.t 19)⟩,
      ⟨some 21, none, .len (.t 20)⟩,
      ⟨some 22, none, .fieldAddr none 0 (.t 2)⟩,
      ⟨some 23, none, .load none (.t 22)⟩,
      ⟨some 24, none, .len (.t 23)⟩,
      ⟨some 25, none, .bin .neq (.t 21) (.t 24)⟩,
      ⟨some 26, none, .mv (.t 25)⟩,
      ⟨some 27, (some (26, false)), .fieldAddr none 1 (.t 3)⟩,
      ⟨some 28, (some (26, false)), .load none (.t 27)⟩,
      ⟨some 29, (some (26, false)), .len (.t 28)⟩,
      ⟨some 30, (some (26, false)), .fieldAddr none 0 (.t 2)⟩,
      ⟨some 31, (some (26, false)), .load none (.t 30)⟩,
      ⟨some 32, (some (26, false)), .len (.t 31)⟩,
      ⟨some 33, (some (26, false)), .bin .neq (.t 29) (.t 32)⟩,
      ⟨some 34, none, .pick (.t 26) (.c (.bool true)) (.t 33)⟩] [2, 3, 34])
  (.cond (.t 34)
    (.seq (.reg [⟨some 4, none, .mv (.c (.int .i64 3))⟩] [4])
    .ret)
    .skip))
  (.seq (.seq (.reg [⟨some 8, none, .mv (.c (.int .i64 0))⟩] [2, 3, 8])
  (.block 0
    (.loop [2, 3, 8]
      (.seq (.seq (.reg [⟨some 35, none, .mv (.t 8)⟩,
          ⟨some 36, none, .fieldAddr none 0 (.t 2)⟩,
          ⟨some 37, none, .load none (.t 36)⟩,
          ⟨some 38, none, .len (.t 37)⟩,
          ⟨some 39, none, .bin .lss (.t 35) (.t 38)⟩] [2, 3, 8, 39])
      (.cond (.t 39)
        .skip
        (.exit 0)))
      (.seq (.block 1
        (.seq (.reg [⟨some 42, none, .fieldAddr none 0 (.t 2)⟩,
            ⟨some 43, none, .load none (.t 42)⟩,
            ⟨some 44, none, .mv (.t 8)⟩,
            ⟨some 45, none, .ixS 7 (.t 43) (.t 44)⟩,
            ⟨some 46, none, .load (some 7) (.t 45)⟩,
            ⟨some 9, none, .alloc [.str ByteArray.empty, .int .i64 0, .int .i64 0, .int .i64 0, .int .i64 0, .int .i64 0, .int .i64 0]⟩,
            ⟨none, none, .store 7 (.t 9) (.t 46)⟩] [2, 3, 8, 9])
        (.frz 9 true (.seq (.dreg [⟨some 47, none, .fieldAddr none 0 (.t 3)⟩,
            ⟨some 48, none, .load none (.t 47)⟩,
            ⟨some 49, none, .mv (.t 8)⟩,
            ⟨some 50, none, .ixS 1 (.t 48) (.t 49)⟩,
            ⟨some 51, none, .load none (.t 50)⟩,
            ⟨some 52, none, .fieldAddr (some 2) 2 (.t 9)⟩,
            ⟨some 53, none, .fieldAddr none 0 (.t 52)⟩,
            ⟨some 54, none, .load none (.t 53)⟩,
            ⟨some 55, none, .fieldAddr (some 2) 2 (.t 9)⟩,
            ⟨some 56, none, .fieldAddr none 1 (.t 55)⟩,
            ⟨some 57, none, .load none (.t 56)⟩,
            ⟨some 58, none, .call (.f 56) [false, false, false] [(.t 51), (.t 54), (.t 57)]⟩,
            ⟨some 59, none, .un .not (.t 58)⟩,
            ⟨some 60, none, .mv (.t 59)⟩,
            ⟨some 61, (some (60, false)), .fieldAddr none 1 (.t 3)⟩,
            ⟨some 62, (some (60, false)), .load none (.t 61)⟩,
            ⟨some 63, (some (60, false)), .mv (.t 8)⟩,
            ⟨some 64, (some (60, false)), .ixS 1 (.t 62) (.t 63)⟩,
            ⟨some 65, (some (60, false)), .load none (.t 64)⟩,
            ⟨some 66, (some (60, false)), .fieldAddr (some 2) 5 (.t 9)⟩,
            ⟨some 67, (some (60, false)), .fieldAddr none 0 (.t 66)⟩,
            ⟨some 68, (some (60, false)), .load none (.t 67)⟩,
            ⟨some 69, (some (60, false)), .fieldAddr (some 2) 5 (.t 9)⟩,
            ⟨some 70, (some (60, false)), .fieldAddr none 1 (.t 69)⟩,
            ⟨some 71, (some (60, false)), .load none (.t 70)⟩,
            ⟨some 72, (some (60, false)), .call (.f 56) [false, false, false] [(.t 65), (.t 68), (.t 71)]⟩,
            ⟨some 73, (some (60, false)), .un .not (.t 72)⟩,
            ⟨some 74, none, .pick (.t 60) (.c (.bool true)) (.t 73)⟩] [2, 3, 8, 74] [[], [0], [], [0, 1, 2], [0, 1, 2, 3], [], [5], [5, 6], [], [8], [8, 9], [0, 1, 2, 3, 4, 5, 6, 7, 8, 9, 10], [0, 1, 2, 3, 4, 5, 6, 7, 8, 9, 10, 11], [0, 1, 2, 3, 4, 5, 6, 7, 8, 9, 10, 11, 12], [0, 1, 2, 3, 4, 5, 6, 7, 8, 9, 10, 11, 12, 13], [0, 1, 2, 3, 4, 5, 6, 7, 8, 9, 10, 11, 12, 13, 14], [0, 1, 2, 3, 4, 5, 6, 7, 8, 9, 10, 11, 12, 13], [0, 1, 2, 3, 4, 5, 6, 7, 8, 9, 10, 11, 12, 13, 14, 15, 16], [0, 1, 2, 3, 4, 5, 6, 7, 8, 9, 10, 11, 12, 13, 14, 15, 16, 17], [0, 1, 2, 3, 4, 5, 6, 7, 8, 9, 10, 11, 12, 13], [0, 1, 2, 3, 4, 5, 6, 7, 8, 9, 10, 11, 12, 13, 19], [0, 1, 2, 3, 4, 5, 6, 7, 8, 9, 10, 11, 12, 13, 19, 20], [0, 1, 2, 3, 4, 5, 6, 7, 8, 9, 10, 11, 12, 13], [0, 1, 2, 3, 4, 5, 6, 7, 8, 9, 10, 11, 12, 13, 22], [0, 1, 2, 3, 4, 5, 6, 7, 8, 9, 10, 11, 12, 13, 22, 23], [0, 1, 2, 3, 4, 5, 6, 7, 8, 9, 10, 11, 12, 13, 14, 15, 16, 17, 18, 19, 20, 21, 22, 23, 24], [0, 1, 2, 3, 4, 5, 6, 7, 8, 9, 10, 11, 12, 13, 14, 15, 16, 17, 18, 19, 20, 21, 22, 23, 24, 25], [0, 1, 2, 3, 4, 5, 6, 7, 8, 9, 10, 11, 12, 13, 14, 15, 16, 17, 18, 19, 20, 21, 22, 23, 24, 25, 26]])
        (.cond (.t 74)
          (.seq (.reg [⟨some 4, none, .mv (.c (.int .i64 7))⟩] [4])
          .ret)
          .skip)))))
      (.reg [⟨some 40, none, .mv (.t 8)⟩,
          ⟨some 41, none, .bin .add (.t 40) (.c (.int .i64 1))⟩,
          ⟨some 8, none, .mv (.t 41)⟩] [2, 3, 8]))))))
  (.seq (.reg [⟨some 4, none, .mv (.c (.int .i64 0))⟩] [4])
  .ret))))))
abbrev R_r05_Truth : List (Nat × Option (Option Nat)) := [(4, none)]
theorem K_r05_Truth : chkF Try.prog Try.f47 75 C_r05_Truth R_r05_Truth = true := by kernel_rfl
theorem spec_r05_Truth {args : List AVal} {σ : AHeap} {R : ARes → AHeap → Prop} (ha : args.length ≤ 75) (h : AW Try.prog 75 none C_r05_Truth (bodyQ R_r05_Truth R) { v := argEnv args 0, ds := [] } σ) : Spec Try.prog F_r05_Truth args σ R := Spec.of_fn Try.func47 K_r05_Truth ha h
theorem B_r05_Truth : hasBody Try.prog F_r05_Truth = true := by kernel_rfl
theorem E_r05_Truth : EntOk Try.prog ⟨47, 75, C_r05_Truth, R_r05_Truth, false⟩ := ⟨fun _ => ⟨B_r05_Truth, _, Try.func47, K_r05_Truth⟩, fun h => by cases h⟩

abbrev F_r05_Heavier : FuncId := 48
/-- orlop/orlopref05.Heavier: parameters ['api.StHull', 'int', 'int'], results ['api.StHull'] -/
def C_r05_Heavier : AC :=
  (.seq (.reg [⟨some 3, none, .box 3 (.t 0)⟩,
      ⟨some 6, none, .alloc [.slice 7 [], .int .i64 0, .int .i64 0]⟩] [1, 2, 3, 6])
  (.seq (.reg [⟨some 8, none, .lit 2 7 0 []⟩,
      ⟨some 9, none, .fieldAddr none 0 (.t 3)⟩,
      ⟨some 10, none, .load none (.t 9)⟩,
      ⟨some 11, none, .append 7 64 (.t 8) (.t 10)⟩,
      ⟨some 12, none, .fieldAddr none 0 (.t 3)⟩,
      ⟨none, none, .store 1 (.t 12) (.t 11)⟩] [1, 2, 3, 6])
  (.seq (.reg [⟨some 13, none, .fieldAddr none 0 (.t 3)⟩,
      ⟨some 14, none, .load none (.t 13)⟩,
      ⟨some 15, none, .mv (.t 1)⟩,
      ⟨some 16, none, .ixS 7 (.t 14) (.t 15)⟩,
      ⟨some 17, none, .fieldAddr (some 2) 2 (.t 16)⟩,
      ⟨some 18, none, .load (some 2) (.t 17)⟩,
      ⟨some 7, none, .alloc [.int .i64 0, .int .i64 0]⟩,
      ⟨none, none, .store 2 (.t 7) (.t 18)⟩] [1, 2, 3, 6, 7])
  (.frz 7 true (.seq (.reg [⟨some 19, none, .fieldAddr none 0 (.t 3)⟩,
      ⟨some 20, none, .load none (.t 19)⟩,
      ⟨some 21, none, .mv (.t 1)⟩,
      ⟨some 22, none, .fieldAddr none 0 (.t 7)⟩,
      ⟨some 23, none, .load none (.t 22)⟩,
      ⟨some 24, none, .mv (.t 2)⟩,
      ⟨some 25, none, .bin .add (.t 23) (.t 24)⟩,
      ⟨some 26, none, .fieldAddr none 1 (.t 7)⟩,
      ⟨some 27, none, .load none (.t 26)⟩,
      ⟨some 28, none, .mv (.t 2)⟩,
      ⟨some 29, none, .bin .add (.t 27) (.t 28)⟩,
      ⟨some 30, none, .build [.int .i64 0, .int .i64 0] [(0, 1, (.t 25)), (1, 1, (.t 29))]⟩,
      ⟨some 31, none, .ixS 7 (.t 20) (.t 21)⟩,
      ⟨some 32, none, .fieldAddr (some 2) 2 (.t 31)⟩,
      ⟨none, none, .store 2 (.t 32) (.t 30)⟩] [3, 6])
  (.frzc 3 0 7 (.seq (.reg [⟨some 33, none, .loadd (some 3) (.t 3)⟩,
      ⟨none, none, .store 3 (.t 6) (.t 33)⟩] [6])
  .ret)))))))
abbrev R_r05_Heavier : List (Nat × Option (Option Nat)) := [(6, some (some 3))]
theorem K_r05_Heavier : chkF Try.prog Try.f48 34 C_r05_Heavier R_r05_Heavier = true := by kernel_rfl
theorem spec_r05_Heavier {args : List AVal} {σ : AHeap} {R : ARes → AHeap → Prop} (ha : args.length ≤ 34) (h : AW Try.prog 34 none C_r05_Heavier (bodyQ R_r05_Heavier R) { v := argEnv args 0, ds := [] } σ) : Spec Try.prog F_r05_Heavier args σ R := Spec.of_fn Try.func48 K_r05_Heavier ha h
theorem B_r05_Heavier : hasBody Try.prog F_r05_Heavier = true := by kernel_rfl
theorem E_r05_Heavier : EntOk Try.prog ⟨48, 34, C_r05_Heavier, R_r05_Heavier, false⟩ := ⟨fun _ => ⟨B_r05_Heavier, _, Try.func48, K_r05_Heavier⟩, fun h => by cases h⟩

abbrev F_l05_narrow : FuncId := 49
/-- orlop/orloplaw05.narrow: parameters ['api.Span', '[]uint32', 'int'], results ['api.Span'] -/
def C_l05_narrow : AC :=
  (.seq (.reg [⟨some 3, none, .pbox 2 (.t 0)⟩,
      ⟨some 6, none, .alloc [.int .i64 0, .int .i64 0]⟩] [1, 2, 3, 6])
  (.seq (.dreg [⟨some 8, none, .load (some 2) (.t 3)⟩,
      ⟨some 9, none, .mv (.t 1)⟩,
      ⟨some 10, none, .mv (.t 2)⟩,
      ⟨some 11, none, .call (.f 50) [true, false] [(.t 9), (.t 10)]⟩,
      ⟨some 12, none, .call (.f 46) [false, false] [(.t 8), (.t 11)]⟩,
      ⟨some 7, none, .mv (.t 12)⟩] [1, 2, 3, 6, 7] [[], [], [], [1, 2], [0, 1, 2, 3], [0, 1, 2, 3, 4]])
  (.seq (.dreg [⟨some 13, none, .mv (.t 7)⟩,
      ⟨some 14, none, .mv (.t 7)⟩,
      ⟨some 15, none, .mv (.t 1)⟩,
      ⟨some 16, none, .mv (.t 2)⟩,
      ⟨some 17, none, .bin .add (.t 16) (.c (.int .i64 1))⟩,
      ⟨some 18, none, .call (.f 50) [true, false] [(.t 15), (.t 17)]⟩,
      ⟨some 19, none, .fieldAddr none 1 (.t 3)⟩,
      ⟨some 20, none, .load none (.t 19)⟩,
      ⟨some 21, none, .mv (.t 7)⟩,
      ⟨some 22, none, .bin .sub (.t 20) (.t 21)⟩,
      ⟨some 23, none, .bin .add (.t 22) (.c (.int .i64 1))⟩,
      ⟨some 24, none, .bin .rem (.t 18) (.t 23)⟩,
      ⟨some 25, none, .bin .add (.t 14) (.t 24)⟩,
      ⟨some 26, none, .call (.f 40) [false, false] [(.t 13), (.t 25)]⟩,
      ⟨none, none, .store 2 (.t 6) (.t 26)⟩] [6] [[], [], [], [], [3], [2, 3, 4], [], [6], [], [6, 7, 8], [6, 7, 8, 9], [2, 3, 4, 5, 6, 7, 8, 9, 10], [1, 2, 3, 4, 5, 6, 7, 8, 9, 10, 11], [0, 1, 2, 3, 4, 5, 6, 7, 8, 9, 10, 11, 12], [0, 1, 2, 3, 4, 5, 6, 7, 8, 9, 10, 11, 12, 13]])
  .ret)))
abbrev R_l05_narrow : List (Nat × Option (Option Nat)) := [(6, some (some 2))]
theorem K_l05_narrow : chkF Try.prog Try.f49 27 C_l05_narrow R_l05_narrow = true := by kernel_rfl
theorem spec_l05_narrow {args : List AVal} {σ : AHeap} {R : ARes → AHeap → Prop} (ha : args.length ≤ 27) (h : AW Try.prog 27 none C_l05_narrow (bodyQ R_l05_narrow R) { v := argEnv args 0, ds := [] } σ) : Spec Try.prog F_l05_narrow args σ R := Spec.of_fn Try.func49 K_l05_narrow ha h
theorem B_l05_narrow : hasBody Try.prog F_l05_narrow = true := by kernel_rfl
theorem E_l05_narrow : EntOk Try.prog ⟨49, 27, C_l05_narrow, R_l05_narrow, false⟩ := ⟨fun _ => ⟨B_l05_narrow, _, Try.func49, K_l05_narrow⟩, fun h => by cases h⟩

abbrev F_l05_turn : FuncId := 50
/-- orlop/orloplaw05.turn: parameters ['[]uint32', 'int'], results ['int'] -/
def C_l05_turn : AC :=
  (.seq (.reg [⟨some 4, none, .mv (.c (.int .i64 0))⟩] [0, 1])
  (.seq (.seq (.reg [⟨some 5, none, .mv (.t 0)⟩,
      ⟨some 6, none, .len (.t 5)⟩,
      ⟨some 7, none, .bin .eql (.t 6) (.c (.int .i64 0))⟩] [0, 1, 7])
  (.cond (.t 7)
    (.seq (.reg [⟨some 4, none, .mv (.c (.int .i64 0))⟩] [4])
    .ret)
    .skip))
  (.seq (.reg [⟨some 8, none, .mv (.t 0)⟩,
      ⟨some 9, none, .mv (.t 1)⟩,
      ⟨some 10, none, .mv (.t 0)⟩,
      ⟨some 11, none, .len (.t 10)⟩,
      ⟨some 12, none, .bin .rem (.t 9) (.t 11)⟩,
      ⟨some 13, none, .ixS 1 (.t 8) (.t 12)⟩,
      ⟨some 14, none, .load none (.t 13)⟩,
      ⟨some 15, none, .conv .i64 (.t 14)⟩,
      ⟨some 4, none, .mv (.t 15)⟩] [4])
  .ret)))
abbrev R_l05_turn : List (Nat × Option (Option Nat)) := [(4, none)]
theorem K_l05_turn : chkF Try.prog Try.f50 16 C_l05_turn R_l05_turn = true := by kernel_rfl
theorem spec_l05_turn {args : List AVal} {σ : AHeap} {R : ARes → AHeap → Prop} (ha : args.length ≤ 16) (h : AW Try.prog 16 none C_l05_turn (bodyQ R_l05_turn R) { v := argEnv args 0, ds := [] } σ) : Spec Try.prog F_l05_turn args σ R := Spec.of_fn Try.func50 K_l05_turn ha h
theorem B_l05_turn : hasBody Try.prog F_l05_turn = true := by kernel_rfl
theorem E_l05_turn : EntOk Try.prog ⟨50, 16, C_l05_turn, R_l05_turn, false⟩ := ⟨fun _ => ⟨B_l05_turn, _, Try.func50, K_l05_turn⟩, fun h => by cases h⟩

abbrev F_stand_beyond : FuncId := 51
/-- orlop/stand.beyond: parameters ['int', 'int', '[]int'], results ['bool'] -/
def C_stand_beyond : AC :=
  (.seq (.reg [⟨some 3, none, .pbox 1 (.t 0)⟩,
      ⟨some 4, none, .pbox 1 (.t 1)⟩,
      ⟨some 6, none, .mv (.c (.bool false))⟩] [2, 3, 4])
  (.seq (.reg [⟨some 7, none, .mv (.t 2)⟩,
      ⟨some 8, none, .mkfunc (.func 80) [] [(.t 3), (.t 4)]⟩,
      ⟨some 9, none, .call (.f 79) [true, false] [(.t 7), (.t 8)]⟩,
      ⟨some 6, none, .mv (.t 9)⟩] [6])
  .ret))
abbrev R_stand_beyond : List (Nat × Option (Option Nat)) := [(6, none)]
theorem K_stand_beyond : chkF Try.prog Try.f51 10 C_stand_beyond R_stand_beyond = true := by kernel_rfl
theorem spec_stand_beyond {args : List AVal} {σ : AHeap} {R : ARes → AHeap → Prop} (ha : args.length ≤ 10) (h : AW Try.prog 10 none C_stand_beyond (bodyQ R_stand_beyond R) { v := argEnv args 0, ds := [] } σ) : Spec Try.prog F_stand_beyond args σ R := Spec.of_fn Try.func51 K_stand_beyond ha h
theorem B_stand_beyond : hasBody Try.prog F_stand_beyond = true := by kernel_rfl
theorem E_stand_beyond : EntOk Try.prog ⟨51, 10, C_stand_beyond, R_stand_beyond, false⟩ := ⟨fun _ => ⟨B_stand_beyond, _, Try.func51, K_stand_beyond⟩, fun h => by cases h⟩

end Go.AM
