/- MADE BY PROGRAM (gen.py): the abstract code of functions of this seat, each checked against the given code by the kernel. -/
import Derived.Test.YtmgbkmobhjjkiaaG05a
import Derived.Test.YtmgbkmobhjjkiaaChecked
import Derived.Test.YtmgbkmobhjjkiaaA18
import Derived.Test.YtmgbkmobhjjkiaaA13
namespace Go.AM
open Go.Proofs

abbrev F_hull_Name : FuncId := 52
/-- orlop/hull.Name: parameters ['string'], results ['bool'] -/
def C_hull_Name : AC :=
  (.seq (.reg [⟨some 2, none, .mv (.c (.bool false))⟩] [0])
  (.seq (.seq (.reg [⟨some 7, none, .mv (.t 0)⟩,
      ⟨some 8, none, .range (.t 7)⟩] [0, 8])
  (.block 0
    (.loop [0, 8]
      (.seq (.reg [⟨some 9, none, .next (.t 8)⟩,
          ⟨some 10, none, .extract (.t 9) 0⟩] [0, 8, 9, 10])
      (.seq (.cond (.t 10)
        .skip
        (.exit 0))
      (.block 1
        (.seq (.reg [⟨some 11, none, .extract (.t 9) 1⟩,
            ⟨some 12, none, .extract (.t 9) 2⟩,
            ⟨some 3, none, .mv (.t 11)⟩,
            ⟨some 4, none, .mv (.t 12)⟩] [0, 3, 4, 8])
        (.seq (.reg [⟨some 13, none, .mv (.t 4)⟩,
            ⟨some 14, none, .bin .geq (.t 13) (.c (.int .i32 97))⟩,
            ⟨some 15, none, .mv (.t 14)⟩,
            ⟨some 16, (some (15, true)), .mv (.t 4)⟩,
            ⟨some 17, (some (15, true)), .bin .leq (.t 16) (.c (.int .i32 122))⟩,
            ⟨some 18, none, .pick (.t 15) (.t 17) (.c (.bool false))⟩,
            ⟨some 19, none, .mv (.t 4)⟩,
            ⟨some 20, none, .bin .geq (.t 19) (.c (.int .i32 48))⟩,
            ⟨some 21, none, .mv (.t 20)⟩,
            ⟨some 22, (some (21, true)), .mv (.t 4)⟩,
            ⟨some 23, (some (21, true)), .bin .leq (.t 22) (.c (.int .i32 57))⟩,
            ⟨some 24, none, .pick (.t 21) (.t 23) (.c (.bool false))⟩,
            ⟨some 5, none, .mv (.t 18)⟩,
            ⟨some 6, none, .mv (.t 24)⟩] [0, 3, 5, 6, 8])
        (.seq (.reg [⟨some 25, none, .mv (.t 5)⟩,
            ⟨some 26, none, .un .not (.t 25)⟩,
            ⟨some 27, none, .mv (.t 26)⟩,
            ⟨some 28, (some (27, true)), .mv (.t 6)⟩,
            ⟨some 29, (some (27, true)), .un .not (.t 28)⟩,
            ⟨some 30, (some (27, true)), .mv (.t 29)⟩,
            ⟨some 31, (some (30, false)), .mv (.t 3)⟩,
            ⟨some 32, (some (30, false)), .bin .eql (.t 31) (.c (.int .i64 0))⟩,
            ⟨some 33, (some (27, true)), .pick (.t 30) (.c (.bool true)) (.t 32)⟩,
            ⟨some 34, none, .pick (.t 27) (.t 33) (.c (.bool false))⟩] [0, 8, 34])
        (.cond (.t 34)
          (.seq (.reg [⟨some 2, none, .mv (.c (.bool false))⟩] [2])
          .ret)
          .skip))))))))))
  (.seq (.reg [⟨some 35, none, .mv (.t 0)⟩,
      ⟨some 36, none, .bin .neq (.t 35) (.c (.str ⟨#[]⟩))⟩,
      ⟨some 37, none, .mv (.t 36)⟩,
      ⟨some 38, (some (37, true)), .mv (.t 0)⟩,
      ⟨some 39, (some (37, true)), .lenStr (.t 38)⟩,
      ⟨some 40, (some (37, true)), .bin .leq (.t 39) (.c (.int .i64 16))⟩,
      ⟨some 41, none, .pick (.t 37) (.t 40) (.c (.bool false))⟩,
      ⟨some 2, none, .mv (.t 41)⟩] [2])
  .ret)))
abbrev R_hull_Name : List (Nat × Option (Option Nat)) := [(2, none)]
theorem K_hull_Name : chkF Try.prog Try.f52 42 C_hull_Name R_hull_Name = true := by kernel_rfl
theorem spec_hull_Name {args : List AVal} {σ : AHeap} {R : ARes → AHeap → Prop} (ha : args.length ≤ 42) (h : AW Try.prog 42 none C_hull_Name (bodyQ R_hull_Name R) { v := argEnv args 0, ds := [] } σ) : Spec Try.prog F_hull_Name args σ R := Spec.of_fn Try.func52 K_hull_Name ha h
theorem B_hull_Name : hasBody Try.prog F_hull_Name = true := by kernel_rfl
theorem E_hull_Name : EntOk Try.prog ⟨52, 42, C_hull_Name, R_hull_Name, false⟩ := ⟨fun _ => ⟨B_hull_Name, _, Try.func52, K_hull_Name⟩, fun h => by cases h⟩

abbrev F_slices_ContainsFunc_api_StPart_api_StPart : FuncId := 53
/-- slices.ContainsFunc[[]orlop/api.StPart,orlop/api.StPart]: parameters ['[]api.StPart', 'func(api.StPart) bool'], results ['bool'] -/
def C_slices_ContainsFunc_api_StPart_api_StPart : AC :=
  (.seq (.reg [⟨some 4, none, .mv (.c (.bool false))⟩] [0, 1])
  (.seq (.reg [⟨some 5, none, .mv (.t 0)⟩,
      ⟨some 6, none, .mv (.t 1)⟩,
      ⟨some 7, none, .call (.f 81) [true, false] [(.t 5), (.t 6)]⟩,
      ⟨some 8, none, .bin .geq (.t 7) (.c (.int .i64 0))⟩,
      ⟨some 4, none, .mv (.t 8)⟩] [4])
  .ret))
abbrev R_slices_ContainsFunc_api_StPart_api_StPart : List (Nat × Option (Option Nat)) := [(4, none)]
theorem K_slices_ContainsFunc_api_StPart_api_StPart : chkF Try.prog Try.f53 9 C_slices_ContainsFunc_api_StPart_api_StPart R_slices_ContainsFunc_api_StPart_api_StPart = true := by kernel_rfl
theorem spec_slices_ContainsFunc_api_StPart_api_StPart {args : List AVal} {σ : AHeap} {R : ARes → AHeap → Prop} (ha : args.length ≤ 9) (h : AW Try.prog 9 none C_slices_ContainsFunc_api_StPart_api_StPart (bodyQ R_slices_ContainsFunc_api_StPart_api_StPart R) { v := argEnv args 0, ds := [] } σ) : Spec Try.prog F_slices_ContainsFunc_api_StPart_api_StPart args σ R := Spec.of_fn Try.func53 K_slices_ContainsFunc_api_StPart_api_StPart ha h
theorem B_slices_ContainsFunc_api_StPart_api_StPart : hasBody Try.prog F_slices_ContainsFunc_api_StPart_api_StPart = true := by kernel_rfl
theorem E_slices_ContainsFunc_api_StPart_api_StPart : EntOk Try.prog ⟨53, 9, C_slices_ContainsFunc_api_StPart_api_StPart, R_slices_ContainsFunc_api_StPart_api_StPart, false⟩ := ⟨fun _ => ⟨B_slices_ContainsFunc_api_StPart_api_StPart, _, Try.func53, K_slices_ContainsFunc_api_StPart_api_StPart⟩, fun h => by cases h⟩

abbrev F_stand_Check_1 : FuncId := 54
/-- orlop/stand.Check$1: parameters ['api.StPart'], results ['bool'] -/
def C_stand_Check_1 : AC :=
  (.seq (.reg [⟨some 2, none, .pbox 7 (.t 0)⟩,
      ⟨some 3, none, .mv (.c (.bool false))⟩] [1, 2])
  (.seq (.reg [⟨some 4, none, .fieldAddr none 0 (.t 2)⟩,
      ⟨some 5, none, .load none (.t 4)⟩,
      ⟨some 6, none, .fieldAddr none 0 (.t 1)⟩,
      ⟨some 7, none, .load none (.t 6)⟩,
      ⟨some 8, none, .bin .eql (.t 5) (.t 7)⟩,
      ⟨some 3, none, .mv (.t 8)⟩] [3])
  .ret))
abbrev R_stand_Check_1 : List (Nat × Option (Option Nat)) := [(3, none)]
theorem K_stand_Check_1 : chkF Try.prog Try.f54 9 C_stand_Check_1 R_stand_Check_1 = true := by kernel_rfl
theorem spec_stand_Check_1 {args : List AVal} {σ : AHeap} {R : ARes → AHeap → Prop} (ha : args.length ≤ 9) (h : AW Try.prog 9 none C_stand_Check_1 (bodyQ R_stand_Check_1 R) { v := argEnv args 0, ds := [] } σ) : Spec Try.prog F_stand_Check_1 args σ R := Spec.of_fn Try.func54 K_stand_Check_1 ha h
theorem B_stand_Check_1 : hasBody Try.prog F_stand_Check_1 = true := by kernel_rfl
theorem E_stand_Check_1 : EntOk Try.prog ⟨54, 9, C_stand_Check_1, R_stand_Check_1, false⟩ := ⟨fun _ => ⟨B_stand_Check_1, _, Try.func54, K_stand_Check_1⟩, fun h => by cases h⟩

abbrev F_stand_check : FuncId := 55
/-- orlop/stand.check: parameters ['api.StPart'], results ['api.Errno'] -/
def C_stand_check : AC :=
  (.seq (.reg [⟨some 1, none, .pbox 7 (.t 0)⟩,
      ⟨some 2, none, .mv (.c (.int .i64 0))⟩] [1])
  (.seq (.block 0
    (.seq (.reg [⟨some 4, none, .fieldAddr none 1 (.t 1)⟩,
        ⟨some 5, none, .load none (.t 4)⟩,
        ⟨some 6, none, .lit 0 1 1 [(0, (.t 5))]⟩,
        ⟨some 7, none, .call (.f 51) [false, false, true] [(.c (.int .i64 0)), (.c (.int .i64 5000)), (.t 6)]⟩,
        ⟨some 8, none, .mv (.t 7)⟩,
        ⟨some 9, (some (8, false)), .fieldAddr none 4 (.t 1)⟩,
        ⟨some 10, (some (8, false)), .load none (.t 9)⟩,
        ⟨some 11, (some (8, false)), .lit 0 1 1 [(0, (.t 10))]⟩,
        ⟨some 12, (some (8, false)), .call (.f 51) [false, false, true] [(.c (.int .i64 0)), (.c (.int .i64 1000)), (.t 11)]⟩,
        ⟨some 13, none, .pick (.t 8) (.c (.bool true)) (.t 12)⟩,
        ⟨some 14, none, .mv (.t 13)⟩,
        ⟨some 15, (some (14, false)), .fieldAddr (some 2) 2 (.t 1)⟩,
        ⟨some 16, (some (14, false)), .fieldAddr none 0 (.t 15)⟩,
        ⟨some 17, (some (14, false)), .load none (.t 16)⟩,
        ⟨some 18, (some (14, false)), .fieldAddr (some 2) 2 (.t 1)⟩,
        ⟨some 19, (some (14, false)), .fieldAddr none 1 (.t 18)⟩,
        ⟨some 20, (some (14, false)), .load none (.t 19)⟩,
        ⟨some 21, (some (14, false)), .lit 0 1 2 [(0, (.t 17)), (1, (.t 20))]⟩,
        ⟨some 22, (some (14, false)), .call (.f 51) [false, false, true] [(.c (.int .i64 0)), (.c (.int .i64 1000000)), (.t 21)]⟩,
        ⟨some 23, none, .pick (.t 14) (.c (.bool true)) (.t 22)⟩,
        ⟨some 24, none, .mv (.t 23)⟩,
        ⟨some 25, (some (24, false)), .fieldAddr (some 2) 5 (.t 1)⟩,
        ⟨some 26, (some (24, false)), .fieldAddr none 0 (.t 25)⟩,
        ⟨some 27, (some (24, false)), .load none (.t 26)⟩,
        ⟨some 28, (some (24, false)), .fieldAddr (some 2) 5 (.t 1)⟩,
        ⟨some 29, (some (24, false)), .fieldAddr none 1 (.t 28)⟩,
        ⟨some 30, (some (24, false)), .load none (.t 29)⟩,
        ⟨some 31, (some (24, false)), .lit 0 1 2 [(0, (.t 27)), (1, (.t 30))]⟩,
        ⟨some 32, (some (24, false)), .call (.f 51) [false, false, true] [(.c (.int .i64 0)), (.c (.int .i64 5000)), (.t 31)]⟩,
        ⟨some 33, none, .pick (.t 24) (.c (.bool true)) (.t 32)⟩,
        ⟨some 3, none, .mv (.t 33)⟩] [1, 3])
    (.cond (.t 3)
      (.seq (.reg [⟨some 2, none, .mv (.c (.int .i64 7))⟩] [2])
      .ret)
      (.seq (.reg [⟨some 35, none, .fieldAddr (some 2) 2 (.t 1)⟩,
          ⟨some 36, none, .fieldAddr none 0 (.t 35)⟩,
          ⟨some 37, none, .load none (.t 36)⟩,
          ⟨some 38, none, .fieldAddr (some 2) 2 (.t 1)⟩,
          ⟨some 39, none, .fieldAddr none 1 (.t 38)⟩,
          ⟨some 40, none, .load none (.t 39)⟩,
          ⟨some 41, none, .bin .gtr (.t 37) (.t 40)⟩,
          ⟨some 42, none, .mv (.t 41)⟩,
          ⟨some 43, (some (42, false)), .fieldAddr (some 2) 5 (.t 1)⟩,
          ⟨some 44, (some (42, false)), .fieldAddr none 0 (.t 43)⟩,
          ⟨some 45, (some (42, false)), .load none (.t 44)⟩,
          ⟨some 46, (some (42, false)), .fieldAddr (some 2) 5 (.t 1)⟩,
          ⟨some 47, (some (42, false)), .fieldAddr none 1 (.t 46)⟩,
          ⟨some 48, (some (42, false)), .load none (.t 47)⟩,
          ⟨some 49, (some (42, false)), .bin .gtr (.t 45) (.t 48)⟩,
          ⟨some 50, none, .pick (.t 42) (.c (.bool true)) (.t 49)⟩,
          ⟨some 34, none, .mv (.t 50)⟩] [34])
      (.cond (.t 34)
        (.seq (.reg [⟨some 2, none, .mv (.c (.int .i64 2))⟩] [2])
        .ret)
        .skip)))))
  (.seq (.reg [⟨some 2, none, .mv (.c (.int .i64 0))⟩] [2])
  .ret)))
abbrev R_stand_check : List (Nat × Option (Option Nat)) := [(2, none)]
theorem K_stand_check : chkF Try.prog Try.f55 51 C_stand_check R_stand_check = true := by kernel_rfl
theorem spec_stand_check {args : List AVal} {σ : AHeap} {R : ARes → AHeap → Prop} (ha : args.length ≤ 51) (h : AW Try.prog 51 none C_stand_check (bodyQ R_stand_check R) { v := argEnv args 0, ds := [] } σ) : Spec Try.prog F_stand_check args σ R := Spec.of_fn Try.func55 K_stand_check ha h
theorem B_stand_check : hasBody Try.prog F_stand_check = true := by kernel_rfl
theorem E_stand_check : EntOk Try.prog ⟨55, 51, C_stand_check, R_stand_check, false⟩ := ⟨fun _ => ⟨B_stand_check, _, Try.func55, K_stand_check⟩, fun h => by cases h⟩

abbrev F_r05_in : FuncId := 56
/-- orlop/orlopref05.in: parameters ['int', 'int', 'int'], results ['bool'] -/
def C_r05_in : AC :=
  (.seq (.reg [⟨some 6, none, .mv (.c (.bool false))⟩] [0, 1, 2])
  (.seq (.reg [⟨some 7, none, .mv (.t 0)⟩,
      ⟨some 8, none, .mv (.t 1)⟩,
      ⟨some 9, none, .bin .geq (.t 7) (.t 8)⟩,
      ⟨some 10, none, .mv (.t 9)⟩,
      ⟨some 11, (some (10, true)), .mv (.t 0)⟩,
      ⟨some 12, (some (10, true)), .mv (.t 2)⟩,
      ⟨some 13, (some (10, true)), .bin .leq (.t 11) (.t 12)⟩,
      ⟨some 14, none, .pick (.t 10) (.t 13) (.c (.bool false))⟩,
      ⟨some 6, none, .mv (.t 14)⟩] [6])
  .ret))
abbrev R_r05_in : List (Nat × Option (Option Nat)) := [(6, none)]
theorem K_r05_in : chkF Try.prog Try.f56 15 C_r05_in R_r05_in = true := by kernel_rfl
theorem spec_r05_in {args : List AVal} {σ : AHeap} {R : ARes → AHeap → Prop} (ha : args.length ≤ 15) (h : AW Try.prog 15 none C_r05_in (bodyQ R_r05_in R) { v := argEnv args 0, ds := [] } σ) : Spec Try.prog F_r05_in args σ R := Spec.of_fn Try.func56 K_r05_in ha h
theorem B_r05_in : hasBody Try.prog F_r05_in = true := by kernel_rfl
theorem E_r05_in : EntOk Try.prog ⟨56, 15, C_r05_in, R_r05_in, false⟩ := ⟨fun _ => ⟨B_r05_in, _, Try.func56, K_r05_in⟩, fun h => by cases h⟩

abbrev F_r01_Fresh : FuncId := 57
/-- orlop/orlopref01.Fresh: parameters ['string', '[]string'], results ['api.Errno'] -/
def C_r01_Fresh : AC :=
  (.seq (.reg [⟨some 4, none, .mv (.c (.int .i64 0))⟩] [0, 1])
  (.seq (.seq (.reg [⟨some 5, none, .mv (.t 0)⟩,
      ⟨some 6, none, .call (.f 41) [false] [(.t 5)]⟩,
      ⟨some 7, none, .un .not (.t 6)⟩] [0, 1, 7])
  (.cond (.t 7)
    (.seq (.reg [⟨some 4, none, .mv (.c (.int .i64 6))⟩] [4])
    .ret)
    .skip))
  (.seq (.seq (.reg [⟨some 8, none, .mv (.t 1)⟩,
      ⟨some 9, none, .mv (.t 0)⟩,
      ⟨some 10, none, .call (.f 82) [true, false] [(.t 8), (.t 9)]⟩,
      ⟨some 11, none, .bin .geq (.t 10) (.c (.int .i64 0))⟩] [11])
  (.cond (.t 11)
    (.seq (.reg [⟨some 4, none, .mv (.c (.int .i64 5))⟩] [4])
    .ret)
    .skip))
  (.seq (.reg [⟨some 4, none, .mv (.c (.int .i64 0))⟩] [4])
  .ret))))
abbrev R_r01_Fresh : List (Nat × Option (Option Nat)) := [(4, none)]
theorem K_r01_Fresh : chkF Try.prog Try.f57 12 C_r01_Fresh R_r01_Fresh = true := by kernel_rfl
theorem spec_r01_Fresh {args : List AVal} {σ : AHeap} {R : ARes → AHeap → Prop} (ha : args.length ≤ 12) (h : AW Try.prog 12 none C_r01_Fresh (bodyQ R_r01_Fresh R) { v := argEnv args 0, ds := [] } σ) : Spec Try.prog F_r01_Fresh args σ R := Spec.of_fn Try.func57 K_r01_Fresh ha h
theorem B_r01_Fresh : hasBody Try.prog F_r01_Fresh = true := by kernel_rfl
theorem E_r01_Fresh : EntOk Try.prog ⟨57, 12, C_r01_Fresh, R_r01_Fresh, false⟩ := ⟨fun _ => ⟨B_r01_Fresh, _, Try.func57, K_r01_Fresh⟩, fun h => by cases h⟩

abbrev F_r05_part : FuncId := 58
/-- orlop/orlopref05.part: parameters ['api.StPart'], results ['api.Errno'] -/
def C_r05_part : AC :=
  (.seq (.reg [⟨some 1, none, .pbox 7 (.t 0)⟩,
      ⟨some 2, none, .mv (.c (.int .i64 0))⟩] [1])
  (.seq (.dreg [⟨some 5, none, .fieldAddr (some 2) 2 (.t 1)⟩,
      ⟨some 6, none, .load (some 2) (.t 5)⟩,
      ⟨some 7, none, .call (.f 83) [false, false, false] [(.t 6), (.c (.int .i64 0)), (.c (.int .i64 1000000))]⟩,
      ⟨some 8, none, .fieldAddr (some 2) 5 (.t 1)⟩,
      ⟨some 9, none, .load (some 2) (.t 8)⟩,
      ⟨some 10, none, .call (.f 83) [false, false, false] [(.t 9), (.c (.int .i64 0)), (.c (.int .i64 5000))]⟩,
      ⟨some 3, none, .mv (.t 7)⟩,
      ⟨some 4, none, .mv (.t 10)⟩] [1, 3, 4] [[], [0], [0, 1], [], [3], [0, 1, 2, 3, 4], [0, 1, 2, 3, 4, 5], [0, 1, 2, 3, 4, 5, 6]])
  (.seq (.seq (.reg [⟨some 11, none, .fieldAddr none 1 (.t 1)⟩,
      ⟨some 12, none, .load none (.t 11)⟩,
      ⟨some 13, none, .call (.f 56) [false, false, false] [(.t 12), (.c (.int .i64 0)), (.c (.int .i64 5000))]⟩,
      ⟨some 14, none, .un .not (.t 13)⟩,
      ⟨some 15, none, .mv (.t 14)⟩,
      ⟨some 16, (some (15, false)), .fieldAddr none 4 (.t 1)⟩,
      ⟨some 17, (some (15, false)), .load none (.t 16)⟩,
      ⟨some 18, (some (15, false)), .call (.f 56) [false, false, false] [(.t 17), (.c (.int .i64 0)), (.c (.int .i64 1000))]⟩,
      ⟨some 19, (some (15, false)), .un .not (.t 18)⟩,
      ⟨some 20, none, .pick (.t 15) (.c (.bool true)) (.t 19)⟩,
      ⟨some 21, none, .mv (.t 20)⟩,
      ⟨some 22, (some (21, false)), .mv (.t 3)⟩,
      ⟨some 23, (some (21, false)), .bin .eql (.t 22) (.c (.int .i64 7))⟩,
      ⟨some 24, none, .pick (.t 21) (.c (.bool true)) (.t 23)⟩,
      ⟨some 25, none, .mv (.t 24)⟩,
      ⟨some 26, (some (25, false)), .mv (.t 4)⟩,
      ⟨some 27, (some (25, false)), .bin .eql (.t 26) (.c (.int .i64 7))⟩,
      ⟨some 28, none, .pick (.t 25) (.c (.bool true)) (.t 27)⟩] [3, 4, 28])
  (.cond (.t 28)
    (.seq (.reg [⟨some 2, none, .mv (.c (.int .i64 7))⟩] [2])
    .ret)
    .skip))
  (.seq (.seq (.reg [⟨some 29, none, .mv (.t 3)⟩,
      ⟨some 30, none, .bin .neq (.t 29) (.c (.int .i64 0))⟩] [3, 4, 30])
  (.cond (.t 30)
    (.seq (.reg [⟨some 31, none, .mv (.t 3)⟩,
        ⟨some 2, none, .mv (.t 31)⟩] [2])
    .ret)
    .skip))
  (.seq (.reg [⟨some 32, none, .mv (.t 4)⟩,
      ⟨some 2, none, .mv (.t 32)⟩] [2])
  .ret)))))
abbrev R_r05_part : List (Nat × Option (Option Nat)) := [(2, none)]
theorem K_r05_part : chkF Try.prog Try.f58 33 C_r05_part R_r05_part = true := by kernel_rfl
theorem spec_r05_part {args : List AVal} {σ : AHeap} {R : ARes → AHeap → Prop} (ha : args.length ≤ 33) (h : AW Try.prog 33 none C_r05_part (bodyQ R_r05_part R) { v := argEnv args 0, ds := [] } σ) : Spec Try.prog F_r05_part args σ R := Spec.of_fn Try.func58 K_r05_part ha h
theorem B_r05_part : hasBody Try.prog F_r05_part = true := by kernel_rfl
theorem E_r05_part : EntOk Try.prog ⟨58, 33, C_r05_part, R_r05_part, false⟩ := ⟨fun _ => ⟨B_r05_part, _, Try.func58, K_r05_part⟩, fun h => by cases h⟩

abbrev F_stand_open : FuncId := 59
/-- orlop/stand.open: parameters ['api.StHull', 'api.StTruth', 'int'], results ['stand.body', 'api.Errno'] -/
def C_stand_open : AC :=
  (.seq (.reg [⟨some 3, none, .pbox 3 (.t 0)⟩,
      ⟨some 4, none, .pbox 2 (.t 1)⟩,
      ⟨some 6, none, .alloc [.slice 7 [], .int .i64 0, .int .i64 0]⟩,
      ⟨some 7, none, .mv (.c (.int .i64 0))⟩] [2, 3, 4, 6])
  (.seq (.reg [⟨some 9, none, .load (some 3) (.t 3)⟩,
      ⟨some 10, none, .call (.f 17) [true] [(.t 9)]⟩,
      ⟨some 8, none, .mv (.t 10)⟩,
      ⟨some 11, none, .extract (.t 8) 0⟩,
      ⟨some 12, none, .extract (.t 8) 1⟩,
      ⟨some 13, none, .extract (.t 8) 2⟩,
      ⟨some 7, none, .mv (.t 13)⟩] [2, 3, 4, 6, 7])
  (.seq (.block 0
    (.seq (.reg [⟨some 15, none, .mv (.t 7)⟩,
        ⟨some 16, none, .bin .neq (.t 15) (.c (.int .i64 0))⟩,
        ⟨some 14, none, .mv (.t 16)⟩] [2, 3, 4, 6, 7, 14])
    (.cond (.t 14)
      (.seq (.reg [⟨some 17, none, .loadd (some 3) (.t 6)⟩,
          ⟨some 18, none, .mv (.t 7)⟩,
          ⟨none, none, .store 3 (.t 6) (.t 17)⟩,
          ⟨some 7, none, .mv (.t 18)⟩] [6, 7])
      .ret)
      (.seq (.reg [⟨some 20, none, .fieldAddr none 0 (.t 4)⟩,
          ⟨some 21, none, .load none (.t 20)⟩,
          ⟨some 22, none, .len (.t 21)⟩,
          ⟨some 23, none, .fieldAddr none 0 (.t 3)⟩,
          ⟨some 24, none, .load none (.t 23)⟩,
          ⟨some 25, none, .len (.t 24)⟩,
          ⟨some 26, none, .bin .neq (.t 22) (.t 25)⟩,
          ⟨some 27, none, .mv (.t 26)⟩,
          ⟨some 28, (some (27, false)), .fieldAddr none 1 (.t 4)⟩,
          ⟨some 29, (some (27, false)), .load none (.t 28)⟩,
          ⟨some 30, (some (27, false)), .len (.t 29)⟩,
          ⟨some 31, (some (27, false)), .fieldAddr none 0 (.t 3)⟩,
          ⟨some 32, (some (27, false)), .load none (.t 31)⟩,
          ⟨some 33, (some (27, false)), .len (.t 32)⟩,
          ⟨some 34, (some (27, false)), .bin .neq (.t 30) (.t 33)⟩,
          ⟨some 35, none, .pick (.t 27) (.c (.bool true)) (.t 34)⟩,
          ⟨some 19, none, .mv (.t 35)⟩] [2, 3, 4, 6, 19])
      (.cond (.t 19)
        (.seq (.reg [⟨some 36, none, .loadd (some 3) (.t 6)⟩,
            ⟨none, none, .store 3 (.t 6) (.t 36)⟩,
            ⟨some 7, none, .mv (.c (.int .i64 3))⟩] [6, 7])
        .ret)
        (.seq (.reg [⟨some 38, none, .fieldAddr none 0 (.t 3)⟩,
            ⟨some 39, none, .load none (.t 38)⟩,
            ⟨some 40, none, .fieldAddr none 0 (.t 4)⟩,
            ⟨some 41, none, .load none (.t 40)⟩,
            ⟨some 42, none, .call (.f 84) [true, true, false] [(.t 39), (.t 41), (.f 85)]⟩,
            ⟨some 43, none, .mv (.t 42)⟩,
            ⟨some 44, (some (43, false)), .fieldAddr none 0 (.t 3)⟩,
            ⟨some 45, (some (43, false)), .load none (.t 44)⟩,
            ⟨some 46, (some (43, false)), .fieldAddr none 1 (.t 4)⟩,
            ⟨some 47, (some (43, false)), .load none (.t 46)⟩,
            ⟨some 48, (some (43, false)), .call (.f 84) [true, true, false] [(.t 45), (.t 47), (.f 86)]⟩,
            ⟨some 49, none, .pick (.t 43) (.c (.bool true)) (.t 48)⟩,
            ⟨some 37, none, .mv (.t 49)⟩] [2, 3, 6, 37])
        (.cond (.t 37)
          (.seq (.reg [⟨some 50, none, .loadd (some 3) (.t 6)⟩,
              ⟨none, none, .store 3 (.t 6) (.t 50)⟩,
              ⟨some 7, none, .mv (.c (.int .i64 7))⟩] [6, 7])
          .ret)
          .skip)))))))
  (.seq (.reg [⟨some 51, none, .load (some 3) (.t 3)⟩,
      ⟨some 52, none, .mv (.t 2)⟩,
      ⟨some 53, none, .call (.f 64) [true, false] [(.t 51), (.t 52)]⟩,
      ⟨some 54, none, .extract (.t 53) 0⟩,
      ⟨some 55, none, .extract (.t 53) 1⟩,
      ⟨none, none, .store 3 (.t 6) (.t 54)⟩,
      ⟨some 7, none, .mv (.t 55)⟩] [6, 7])
  .ret))))
abbrev R_stand_open : List (Nat × Option (Option Nat)) := [(6, some (some 3)), (7, none)]
theorem K_stand_open : chkF Try.prog Try.f59 56 C_stand_open R_stand_open = true := by kernel_rfl
theorem spec_stand_open {args : List AVal} {σ : AHeap} {R : ARes → AHeap → Prop} (ha : args.length ≤ 56) (h : AW Try.prog 56 none C_stand_open (bodyQ R_stand_open R) { v := argEnv args 0, ds := [] } σ) : Spec Try.prog F_stand_open args σ R := Spec.of_fn Try.func59 K_stand_open ha h
theorem B_stand_open : hasBody Try.prog F_stand_open = true := by kernel_rfl
theorem E_stand_open : EntOk Try.prog ⟨59, 56, C_stand_open, R_stand_open, false⟩ := ⟨fun _ => ⟨B_stand_open, _, Try.func59, K_stand_open⟩, fun h => by cases h⟩

abbrev F_stand_body_in : FuncId := 60
/-- (orlop/stand.body).in: parameters ['stand.body', 'api.StTruth', 'int'], results ['stand.sums'] -/
def C_stand_body_in : AC :=
  (.seq (.reg [⟨some 3, none, .pbox 3 (.t 0)⟩,
      ⟨some 4, none, .pbox 2 (.t 1)⟩,
      ⟨some 6, none, .alloc [.int .i64 0, .int .i64 0, .int .i64 0]⟩] [2, 3, 4, 6])
  (.seq (.seq (.reg [⟨some 11, none, .load (some 3) (.t 3)⟩,
      ⟨some 12, none, .call (.f 73) [true] [(.t 11)]⟩,
      ⟨some 13, none, .mv (.c (.int .i64 0))⟩] [2, 3, 4, 6, 12, 13])
  (.block 0
    (.loop [2, 3, 4, 6, 12, 13]
      (.seq (.reg [⟨some 14, none, .bin .lss (.t 13) (.c (.int .i64 3))⟩] [2, 3, 4, 6, 12, 13, 14])
      (.seq (.cond (.t 14)
        .skip
        (.exit 0))
      (.seq (.block 1
        (.seq (.reg [⟨some 15, none, .mv (.t 13)⟩,
            ⟨some 16, none, .ixV 3 3 (some 3) (.t 12) (.t 13)⟩,
            ⟨some 8, none, .alloc [.nilfunc, .nilfunc, .nilfunc]⟩,
            ⟨some 7, none, .mv (.t 15)⟩,
            ⟨none, none, .store 3 (.t 8) (.t 16)⟩] [2, 3, 4, 6, 7, 8, 12, 13])
        (.frz 8 true (.seq (.reg [⟨some 17, none, .fieldAddr (some 3) 0 (.t 3)⟩,
            ⟨some 18, none, .fieldAddr none 0 (.t 17)⟩,
            ⟨some 19, none, .load none (.t 18)⟩,
            ⟨some 20, none, .len (.t 19)⟩,
            ⟨some 21, none, .mv (.c (.int .i64 0))⟩] [2, 3, 4, 6, 7, 8, 12, 13, 19, 20, 21])
        (.block 2
          (.loop [2, 3, 4, 6, 7, 8, 12, 13, 19, 20, 21]
            (.seq (.reg [⟨some 22, none, .bin .lss (.t 21) (.t 20)⟩] [2, 3, 4, 6, 7, 8, 12, 13, 19, 20, 21, 22])
            (.seq (.cond (.t 22)
              .skip
              (.exit 2))
            (.seq (.block 3
              (.seq (.reg [⟨some 23, none, .mv (.t 21)⟩,
                  ⟨some 24, none, .ixS 7 (.t 19) (.t 21)⟩,
                  ⟨some 25, none, .load (some 7) (.t 24)⟩,
                  ⟨some 10, none, .alloc [.str ByteArray.empty, .int .i64 0, .int .i64 0, .int .i64 0, .int .i64 0, .int .i64 0, .int .i64 0]⟩,
                  ⟨some 9, none, .mv (.t 23)⟩,
                  ⟨none, none, .store 7 (.t 10) (.t 25)⟩] [2, 3, 4, 6, 7, 8, 9, 10, 12, 13, 19, 20, 21])
              (.frz 10 true (.dreg [⟨some 26, none, .mv (.t 7)⟩,
                  ⟨some 27, none, .ixA 3 1 none (.t 6) (.t 26)⟩,
                  ⟨some 28, none, .load none (.t 27)⟩,
                  ⟨some 29, none, .fieldAddr none 0 (.t 8)⟩,
                  ⟨some 30, none, .load none (.t 29)⟩,
                  ⟨some 31, none, .load (some 7) (.t 10)⟩,
                  ⟨some 32, none, .call (.t 30) [false] [(.t 31)]⟩,
                  ⟨some 33, none, .fieldAddr none 0 (.t 4)⟩,
                  ⟨some 34, none, .load none (.t 33)⟩,
                  ⟨some 35, none, .mv (.t 9)⟩,
                  ⟨some 36, none, .ixS 1 (.t 34) (.t 35)⟩,
                  ⟨some 37, none, .load none (.t 36)⟩,
                  ⟨some 38, none, .fieldAddr none 1 (.t 4)⟩,
                  ⟨some 39, none, .load none (.t 38)⟩,
                  ⟨some 40, none, .mv (.t 9)⟩,
                  ⟨some 41, none, .ixS 1 (.t 39) (.t 40)⟩,
                  ⟨some 42, none, .load none (.t 41)⟩,
                  ⟨some 43, none, .mv (.t 2)⟩,
                  ⟨some 44, none, .fieldAddr none 4 (.t 10)⟩,
                  ⟨some 45, none, .load none (.t 44)⟩,
                  ⟨some 46, none, .bin .sub (.t 43) (.t 45)⟩,
                  ⟨some 47, none, .mx [(.c (.int .i64 0)), (.t 46)]⟩,
                  ⟨some 48, none, .bin .mul (.t 42) (.t 47)⟩,
                  ⟨some 49, none, .bin .sub (.t 37) (.t 48)⟩,
                  ⟨some 50, none, .bin .mul (.t 32) (.t 49)⟩,
                  ⟨some 51, none, .bin .add (.t 28) (.t 50)⟩,
                  ⟨some 52, none, .ixA 3 1 none (.t 6) (.t 26)⟩,
                  ⟨none, none, .store 1 (.t 52) (.t 51)⟩] [2, 3, 4, 6, 7, 8, 12, 13, 19, 20, 21] [[], [0], [0, 1], [], [3], [], [3, 4, 5], [], [7], [], [7, 8, 9], [7, 8, 9, 10], [], [12], [], [12, 13, 14], [12, 13, 14, 15], [], [], [18], [17, 18, 19], [17, 18, 19, 20], [12, 13, 14, 15, 16, 17, 18, 19, 20, 21], [7, 8, 9, 10, 11, 12, 13, 14, 15, 16, 17, 18, 19, 20, 21, 22], [3, 4, 5, 6, 7, 8, 9, 10, 11, 12, 13, 14, 15, 16, 17, 18, 19, 20, 21, 22, 23], [0, 1, 2, 3, 4, 5, 6, 7, 8, 9, 10, 11, 12, 13, 14, 15, 16, 17, 18, 19, 20, 21, 22, 23, 24], [0, 1, 2, 3, 4, 5, 6, 7, 8, 9, 10, 11, 12, 13, 14, 15, 16, 17, 18, 19, 20, 21, 22, 23, 24, 25], [0, 1, 2, 3, 4, 5, 6, 7, 8, 9, 10, 11, 12, 13, 14, 15, 16, 17, 18, 19, 20, 21, 22, 23, 24, 25, 26]]))))
            (.reg [⟨some 53, none, .bin .add (.t 21) (.c (.int .i64 1))⟩,
                ⟨some 21, none, .mv (.t 53)⟩] [2, 3, 4, 6, 7, 8, 12, 13, 19, 20, 21]))))))))))
      (.reg [⟨some 54, none, .bin .add (.t 13) (.c (.int .i64 1))⟩,
          ⟨some 13, none, .mv (.t 54)⟩] [2, 3, 4, 6, 12, 13])))))))
  (.seq (.reg [⟨some 55, none, .load (some 3) (.t 6)⟩,
      ⟨none, none, .store 3 (.t 6) (.t 55)⟩] [6])
  .ret)))
abbrev R_stand_body_in : List (Nat × Option (Option Nat)) := [(6, some (some 3))]
theorem K_stand_body_in : chkF Try.prog Try.f60 56 C_stand_body_in R_stand_body_in = true := by kernel_rfl
theorem spec_stand_body_in {args : List AVal} {σ : AHeap} {R : ARes → AHeap → Prop} (ha : args.length ≤ 56) (h : AW Try.prog 56 none C_stand_body_in (bodyQ R_stand_body_in R) { v := argEnv args 0, ds := [] } σ) : Spec Try.prog F_stand_body_in args σ R := Spec.of_fn Try.func60 K_stand_body_in ha h
theorem B_stand_body_in : hasBody Try.prog F_stand_body_in = true := by kernel_rfl
theorem E_stand_body_in : EntOk Try.prog ⟨60, 56, C_stand_body_in, R_stand_body_in, false⟩ := ⟨fun _ => ⟨B_stand_body_in, _, Try.func60, K_stand_body_in⟩, fun h => by cases h⟩

abbrev F_stand_sums_balance : FuncId := 61
/-- (orlop/stand.sums).balance: parameters ['stand.sums'], results ['api.StBalance'] -/
def C_stand_sums_balance : AC :=
  (.seq (.reg [⟨some 1, none, .pbox 3 (.t 0)⟩,
      ⟨some 2, none, .alloc [.int .i64 0, .int .i64 0, .int .i64 0]⟩] [1, 2])
  (.seq (.reg [⟨some 3, none, .ixA 3 1 none (.t 1) (.c (.int .i64 0))⟩,
      ⟨some 4, none, .load none (.t 3)⟩,
      ⟨some 5, none, .ixA 3 1 none (.t 1) (.c (.int .i64 1))⟩,
      ⟨some 6, none, .load none (.t 5)⟩,
      ⟨some 7, none, .ixA 3 1 none (.t 1) (.c (.int .i64 2))⟩,
      ⟨some 8, none, .load none (.t 7)⟩,
      ⟨some 9, none, .build [.int .i64 0, .int .i64 0, .int .i64 0] [(0, 1, (.t 4)), (1, 1, (.t 6)), (2, 1, (.t 8))]⟩,
      ⟨none, none, .store 3 (.t 2) (.t 9)⟩] [2])
  .ret))
abbrev R_stand_sums_balance : List (Nat × Option (Option Nat)) := [(2, some (some 3))]
theorem K_stand_sums_balance : chkF Try.prog Try.f61 10 C_stand_sums_balance R_stand_sums_balance = true := by kernel_rfl
theorem spec_stand_sums_balance {args : List AVal} {σ : AHeap} {R : ARes → AHeap → Prop} (ha : args.length ≤ 10) (h : AW Try.prog 10 none C_stand_sums_balance (bodyQ R_stand_sums_balance R) { v := argEnv args 0, ds := [] } σ) : Spec Try.prog F_stand_sums_balance args σ R := Spec.of_fn Try.func61 K_stand_sums_balance ha h
theorem B_stand_sums_balance : hasBody Try.prog F_stand_sums_balance = true := by kernel_rfl
theorem E_stand_sums_balance : EntOk Try.prog ⟨61, 10, C_stand_sums_balance, R_stand_sums_balance, false⟩ := ⟨fun _ => ⟨B_stand_sums_balance, _, Try.func61, K_stand_sums_balance⟩, fun h => by cases h⟩

abbrev F_r05_watered : FuncId := 62
/-- orlop/orlopref05.watered: parameters ['api.Errno', 'int'], results ['api.Errno'] -/
def C_r05_watered : AC :=
  (.seq (.reg [⟨some 4, none, .mv (.c (.int .i64 0))⟩] [0, 1])
  (.seq (.seq (.reg [⟨some 5, none, .mv (.t 0)⟩,
      ⟨some 6, none, .bin .eql (.t 5) (.c (.int .i64 0))⟩,
      ⟨some 7, none, .mv (.t 6)⟩,
      ⟨some 8, (some (7, true)), .mv (.t 1)⟩,
      ⟨some 9, (some (7, true)), .call (.f 56) [false, false, false] [(.t 8), (.c (.int .i64 0)), (.c (.int .i64 1000))]⟩,
      ⟨some 10, (some (7, true)), .un .not (.t 9)⟩,
      ⟨some 11, none, .pick (.t 7) (.t 10) (.c (.bool false))⟩] [0, 11])
  (.cond (.t 11)
    (.seq (.reg [⟨some 4, none, .mv (.c (.int .i64 7))⟩] [4])
    .ret)
    .skip))
  (.seq (.reg [⟨some 12, none, .mv (.t 0)⟩,
      ⟨some 4, none, .mv (.t 12)⟩] [4])
  .ret)))
abbrev R_r05_watered : List (Nat × Option (Option Nat)) := [(4, none)]
theorem K_r05_watered : chkF Try.prog Try.f62 13 C_r05_watered R_r05_watered = true := by kernel_rfl
theorem spec_r05_watered {args : List AVal} {σ : AHeap} {R : ARes → AHeap → Prop} (ha : args.length ≤ 13) (h : AW Try.prog 13 none C_r05_watered (bodyQ R_r05_watered R) { v := argEnv args 0, ds := [] } σ) : Spec Try.prog F_r05_watered args σ R := Spec.of_fn Try.func62 K_r05_watered ha h
theorem B_r05_watered : hasBody Try.prog F_r05_watered = true := by kernel_rfl
theorem E_r05_watered : EntOk Try.prog ⟨62, 13, C_r05_watered, R_r05_watered, false⟩ := ⟨fun _ => ⟨B_r05_watered, _, Try.func62, K_r05_watered⟩, fun h => by cases h⟩

abbrev F_r05_Weighed : FuncId := 63
/-- orlop/orlopref05.Weighed: parameters ['api.StHull', 'api.StTruth', 'int'], results ['api.StBalance'] -/
def C_r05_Weighed : AC :=
  (.seq (.reg [⟨some 3, none, .pbox 3 (.t 0)⟩,
      ⟨some 4, none, .pbox 2 (.t 1)⟩,
      ⟨some 6, none, .alloc [.int .i64 0, .int .i64 0, .int .i64 0]⟩] [2, 3, 4, 6])
  (.seq (.reg [⟨some 7, none, .alloc [.int .i64 0, .int .i64 0, .int .i64 0]⟩] [2, 3, 4, 6, 7])
  (.seq (.seq (.reg [⟨some 8, none, .mv (.c (.int .i64 0))⟩] [2, 3, 4, 6, 7, 8])
  (.block 0
    (.loop [2, 3, 4, 6, 7, 8]
      (.seq (.seq (.reg [⟨some 11, none, .mv (.t 8)⟩,
          ⟨some 12, none, .fieldAddr none 0 (.t 3)⟩,
          ⟨some 13, none, .load none (.t 12)⟩,
          ⟨some 14, none, .len (.t 13)⟩,
          ⟨some 15, none, .bin .lss (.t 11) (.t 14)⟩] [2, 3, 4, 6, 7, 8, 15])
      (.cond (.t 15)
        .skip
        (.exit 0)))
      (.seq (.block 1
        (.seq (.reg [⟨some 18, none, .fieldAddr none 0 (.t 3)⟩,
            ⟨some 19, none, .load none (.t 18)⟩,
            ⟨some 20, none, .mv (.t 8)⟩,
            ⟨some 21, none, .ixS 7 (.t 19) (.t 20)⟩,
            ⟨some 22, none, .load (some 7) (.t 21)⟩,
            ⟨some 9, none, .alloc [.str ByteArray.empty, .int .i64 0, .int .i64 0, .int .i64 0, .int .i64 0, .int .i64 0, .int .i64 0]⟩,
            ⟨none, none, .store 7 (.t 9) (.t 22)⟩] [2, 3, 4, 6, 7, 8, 9])
        (.frz 9 true (.seq (.dreg [⟨some 23, none, .fieldAddr none 0 (.t 4)⟩,
            ⟨some 24, none, .load none (.t 23)⟩,
            ⟨some 25, none, .mv (.t 8)⟩,
            ⟨some 26, none, .ixS 1 (.t 24) (.t 25)⟩,
            ⟨some 27, none, .load none (.t 26)⟩,
            ⟨some 28, none, .fieldAddr none 1 (.t 4)⟩,
            ⟨some 29, none, .load none (.t 28)⟩,
            ⟨some 30, none, .mv (.t 8)⟩,
            ⟨some 31, none, .ixS 1 (.t 29) (.t 30)⟩,
            ⟨some 32, none, .load none (.t 31)⟩,
            ⟨some 33, none, .mv (.t 2)⟩,
            ⟨some 34, none, .fieldAddr none 4 (.t 9)⟩,
            ⟨some 35, none, .load none (.t 34)⟩,
            ⟨some 36, none, .bin .sub (.t 33) (.t 35)⟩,
            ⟨some 37, none, .mx [(.c (.int .i64 0)), (.t 36)]⟩,
            ⟨some 38, none, .bin .mul (.t 32) (.t 37)⟩,
            ⟨some 39, none, .bin .sub (.t 27) (.t 38)⟩,
            ⟨some 10, none, .mv (.t 39)⟩] [2, 3, 4, 6, 7, 8, 9, 10] [[], [0], [], [0, 1, 2], [0, 1, 2, 3], [], [5], [], [5, 6, 7], [5, 6, 7, 8], [], [], [11], [10, 11, 12], [10, 11, 12, 13], [5, 6, 7, 8, 9, 10, 11, 12, 13, 14], [0, 1, 2, 3, 4, 5, 6, 7, 8, 9, 10, 11, 12, 13, 14, 15], [0, 1, 2, 3, 4, 5, 6, 7, 8, 9, 10, 11, 12, 13, 14, 15, 16]])
        (.seq (.reg [⟨some 40, none, .fieldAddr none 0 (.t 7)⟩,
            ⟨some 41, none, .load none (.t 40)⟩,
            ⟨some 42, none, .mv (.t 10)⟩,
            ⟨some 43, none, .bin .add (.t 41) (.t 42)⟩,
            ⟨some 44, none, .fieldAddr none 0 (.t 7)⟩,
            ⟨none, none, .store 1 (.t 44) (.t 43)⟩] [2, 3, 4, 6, 7, 8, 9, 10])
        (.seq (.reg [⟨some 45, none, .fieldAddr none 1 (.t 7)⟩,
            ⟨some 46, none, .load none (.t 45)⟩,
            ⟨some 47, none, .mv (.t 10)⟩,
            ⟨some 48, none, .fieldAddr none 1 (.t 9)⟩,
            ⟨some 49, none, .load none (.t 48)⟩,
            ⟨some 50, none, .fieldAddr none 1 (.t 3)⟩,
            ⟨some 51, none, .load none (.t 50)⟩,
            ⟨some 52, none, .bin .sub (.t 49) (.t 51)⟩,
            ⟨some 53, none, .bin .mul (.t 47) (.t 52)⟩,
            ⟨some 54, none, .bin .add (.t 46) (.t 53)⟩,
            ⟨some 55, none, .fieldAddr none 1 (.t 7)⟩,
            ⟨none, none, .store 1 (.t 55) (.t 54)⟩] [2, 3, 4, 6, 7, 8, 9, 10])
        (.reg [⟨some 56, none, .fieldAddr none 2 (.t 7)⟩,
            ⟨some 57, none, .load none (.t 56)⟩,
            ⟨some 58, none, .mv (.t 10)⟩,
            ⟨some 59, none, .fieldAddr none 2 (.t 3)⟩,
            ⟨some 60, none, .load none (.t 59)⟩,
            ⟨some 61, none, .fieldAddr none 1 (.t 9)⟩,
            ⟨some 62, none, .load none (.t 61)⟩,
            ⟨some 63, none, .bin .sub (.t 60) (.t 62)⟩,
            ⟨some 64, none, .bin .mul (.t 58) (.t 63)⟩,
            ⟨some 65, none, .bin .add (.t 57) (.t 64)⟩,
            ⟨some 66, none, .fieldAddr none 2 (.t 7)⟩,
            ⟨none, none, .store 1 (.t 66) (.t 65)⟩] [2, 3, 4, 6, 7, 8])))))))
      (.reg [⟨some 16, none, .mv (.t 8)⟩,
          ⟨some 17, none, .bin .add (.t 16) (.c (.int .i64 1))⟩,
          ⟨some 8, none, .mv (.t 17)⟩] [2, 3, 4, 6, 7, 8]))))))
  (.seq (.reg [⟨some 67, none, .load (some 3) (.t 7)⟩,
      ⟨none, none, .store 3 (.t 6) (.t 67)⟩] [6])
  .ret))))
abbrev R_r05_Weighed : List (Nat × Option (Option Nat)) := [(6, some (some 3))]
theorem K_r05_Weighed : chkF Try.prog Try.f63 68 C_r05_Weighed R_r05_Weighed = true := by kernel_rfl
theorem spec_r05_Weighed {args : List AVal} {σ : AHeap} {R : ARes → AHeap → Prop} (ha : args.length ≤ 68) (h : AW Try.prog 68 none C_r05_Weighed (bodyQ R_r05_Weighed R) { v := argEnv args 0, ds := [] } σ) : Spec Try.prog F_r05_Weighed args σ R := Spec.of_fn Try.func63 K_r05_Weighed ha h
theorem B_r05_Weighed : hasBody Try.prog F_r05_Weighed = true := by kernel_rfl
theorem E_r05_Weighed : EntOk Try.prog ⟨63, 68, C_r05_Weighed, R_r05_Weighed, false⟩ := ⟨fun _ => ⟨B_r05_Weighed, _, Try.func63, K_r05_Weighed⟩, fun h => by cases h⟩

abbrev F_stand_wet : FuncId := 64
/-- orlop/stand.wet: parameters ['api.StHull', 'int'], results ['stand.body', 'api.Errno'] -/
def C_stand_wet : AC :=
  (.seq (.reg [⟨some 2, none, .pbox 3 (.t 0)⟩,
      ⟨some 4, none, .alloc [.slice 7 [], .int .i64 0, .int .i64 0]⟩,
      ⟨some 5, none, .mv (.c (.int .i64 0))⟩] [1, 2, 4])
  (.seq (.reg [⟨some 7, none, .load (some 3) (.t 2)⟩,
      ⟨some 8, none, .call (.f 17) [true] [(.t 7)]⟩,
      ⟨some 6, none, .mv (.t 8)⟩,
      ⟨some 9, none, .extract (.t 6) 0⟩,
      ⟨some 10, none, .extract (.t 6) 1⟩,
      ⟨some 11, none, .extract (.t 6) 2⟩,
      ⟨some 5, none, .mv (.t 11)⟩] [1, 2, 4, 5])
  (.seq (.seq (.reg [⟨some 12, none, .mv (.t 5)⟩,
      ⟨some 13, none, .bin .eql (.t 12) (.c (.int .i64 0))⟩,
      ⟨some 14, none, .mv (.t 13)⟩,
      ⟨some 15, (some (14, true)), .mv (.t 1)⟩,
      ⟨some 16, (some (14, true)), .lit 0 1 1 [(0, (.t 15))]⟩,
      ⟨some 17, (some (14, true)), .call (.f 51) [false, false, true] [(.c (.int .i64 0)), (.c (.int .i64 1000)), (.t 16)]⟩,
      ⟨some 18, none, .pick (.t 14) (.t 17) (.c (.bool false))⟩] [2, 4, 5, 18])
  (.cond (.t 18)
    (.reg [⟨some 5, none, .mv (.c (.int .i64 7))⟩] [2, 4, 5])
    .skip))
  (.seq (.reg [⟨some 19, none, .load (some 3) (.t 2)⟩,
      ⟨some 20, none, .build [.slice 7 [], .int .i64 0, .int .i64 0] [(0, 3, (.t 19))]⟩,
      ⟨some 21, none, .mv (.t 5)⟩,
      ⟨none, none, .store 3 (.t 4) (.t 20)⟩,
      ⟨some 5, none, .mv (.t 21)⟩] [4, 5])
  .ret))))
abbrev R_stand_wet : List (Nat × Option (Option Nat)) := [(4, some (some 3)), (5, none)]
theorem K_stand_wet : chkF Try.prog Try.f64 22 C_stand_wet R_stand_wet = true := by kernel_rfl
theorem spec_stand_wet {args : List AVal} {σ : AHeap} {R : ARes → AHeap → Prop} (ha : args.length ≤ 22) (h : AW Try.prog 22 none C_stand_wet (bodyQ R_stand_wet R) { v := argEnv args 0, ds := [] } σ) : Spec Try.prog F_stand_wet args σ R := Spec.of_fn Try.func64 K_stand_wet ha h
theorem B_stand_wet : hasBody Try.prog F_stand_wet = true := by kernel_rfl
theorem E_stand_wet : EntOk Try.prog ⟨64, 22, C_stand_wet, R_stand_wet, false⟩ := ⟨fun _ => ⟨B_stand_wet, _, Try.func64, K_stand_wet⟩, fun h => by cases h⟩

abbrev F_stand_body_least : FuncId := 65
/-- (orlop/stand.body).least: parameters ['stand.body', 'int'], results ['stand.sums'] -/
def C_stand_body_least : AC :=
  (.seq (.reg [⟨some 2, none, .pbox 3 (.t 0)⟩,
      ⟨some 4, none, .alloc [.int .i64 0, .int .i64 0, .int .i64 0]⟩] [1, 2, 4])
  (.seq (.seq (.reg [⟨some 11, none, .load (some 3) (.t 2)⟩,
      ⟨some 12, none, .call (.f 73) [true] [(.t 11)]⟩,
      ⟨some 13, none, .mv (.c (.int .i64 0))⟩] [1, 2, 4, 12, 13])
  (.block 0
    (.loop [1, 2, 4, 12, 13]
      (.seq (.reg [⟨some 14, none, .bin .lss (.t 13) (.c (.int .i64 3))⟩] [1, 2, 4, 12, 13, 14])
      (.seq (.cond (.t 14)
        .skip
        (.exit 0))
      (.seq (.block 1
        (.seq (.reg [⟨some 15, none, .mv (.t 13)⟩,
            ⟨some 16, none, .ixV 3 3 (some 3) (.t 12) (.t 13)⟩,
            ⟨some 6, none, .alloc [.nilfunc, .nilfunc, .nilfunc]⟩,
            ⟨some 5, none, .mv (.t 15)⟩,
            ⟨none, none, .store 3 (.t 6) (.t 16)⟩] [1, 2, 4, 5, 6, 12, 13])
        (.frz 6 true (.seq (.reg [⟨some 17, none, .fieldAddr (some 3) 0 (.t 2)⟩,
            ⟨some 18, none, .fieldAddr none 0 (.t 17)⟩,
            ⟨some 19, none, .load none (.t 18)⟩,
            ⟨some 20, none, .len (.t 19)⟩,
            ⟨some 21, none, .mv (.c (.int .i64 0))⟩] [1, 2, 4, 5, 6, 12, 13, 19, 20, 21])
        (.block 2
          (.loop [1, 2, 4, 5, 6, 12, 13, 19, 20, 21]
            (.seq (.reg [⟨some 22, none, .bin .lss (.t 21) (.t 20)⟩] [1, 2, 4, 5, 6, 12, 13, 19, 20, 21, 22])
            (.seq (.cond (.t 22)
              .skip
              (.exit 2))
            (.seq (.block 3
              (.seq (.reg [⟨some 23, none, .ixS 7 (.t 19) (.t 21)⟩,
                  ⟨some 24, none, .load (some 7) (.t 23)⟩,
                  ⟨some 8, none, .alloc [.str ByteArray.empty, .int .i64 0, .int .i64 0, .int .i64 0, .int .i64 0, .int .i64 0, .int .i64 0]⟩,
                  ⟨none, none, .store 7 (.t 8) (.t 24)⟩] [1, 2, 4, 5, 6, 8, 12, 13, 19, 20, 21])
              (.frz 8 true (.seq (.reg [⟨some 25, none, .load (some 7) (.t 8)⟩,
                  ⟨some 26, none, .mv (.t 1)⟩,
                  ⟨some 27, none, .fieldAddr none 4 (.t 8)⟩,
                  ⟨some 28, none, .load none (.t 27)⟩,
                  ⟨some 29, none, .bin .sub (.t 26) (.t 28)⟩,
                  ⟨some 30, none, .mx [(.c (.int .i64 0)), (.t 29)]⟩,
                  ⟨some 31, none, .build [.str ByteArray.empty, .int .i64 0, .int .i64 0, .int .i64 0, .int .i64 0, .int .i64 0, .int .i64 0, .int .i64 0] [(0, 7, (.t 25)), (7, 1, (.t 30))]⟩,
                  ⟨some 9, none, .alloc [.str ByteArray.empty, .int .i64 0, .int .i64 0, .int .i64 0, .int .i64 0, .int .i64 0, .int .i64 0, .int .i64 0]⟩,
                  ⟨none, none, .store 8 (.t 9) (.t 31)⟩] [1, 2, 4, 5, 6, 8, 9, 12, 13, 19, 20, 21])
              (.frz 9 true (.seq (.reg [⟨some 32, none, .fieldAddr none 1 (.t 6)⟩,
                  ⟨some 33, none, .load none (.t 32)⟩,
                  ⟨some 10, none, .mv (.t 33)⟩] [1, 2, 4, 5, 6, 8, 9, 10, 12, 13, 19, 20, 21])
              (.seq (.seq (.reg [⟨some 34, none, .fieldAddr none 0 (.t 6)⟩,
                  ⟨some 35, none, .load none (.t 34)⟩,
                  ⟨some 36, none, .load (some 7) (.t 8)⟩,
                  ⟨some 37, none, .call (.t 35) [false] [(.t 36)]⟩,
                  ⟨some 38, none, .bin .lss (.t 37) (.c (.int .i64 0))⟩] [1, 2, 4, 5, 6, 8, 9, 10, 12, 13, 19, 20, 21, 38])
              (.cond (.t 38)
                (.reg [⟨some 39, none, .fieldAddr none 2 (.t 6)⟩,
                    ⟨some 40, none, .load none (.t 39)⟩,
                    ⟨some 10, none, .mv (.t 40)⟩] [1, 2, 4, 5, 6, 8, 9, 10, 12, 13, 19, 20, 21])
                .skip))
              (.dreg [⟨some 41, none, .mv (.t 5)⟩,
                  ⟨some 42, none, .ixA 3 1 none (.t 4) (.t 41)⟩,
                  ⟨some 43, none, .load none (.t 42)⟩,
                  ⟨some 44, none, .fieldAddr none 0 (.t 6)⟩,
                  ⟨some 45, none, .load none (.t 44)⟩,
                  ⟨some 46, none, .load (some 7) (.t 8)⟩,
                  ⟨some 47, none, .call (.t 45) [false] [(.t 46)]⟩,
                  ⟨some 48, none, .mv (.t 10)⟩,
                  ⟨some 49, none, .load (some 8) (.t 9)⟩,
                  ⟨some 50, none, .call (.t 48) [false] [(.t 49)]⟩,
                  ⟨some 51, none, .bin .mul (.t 47) (.t 50)⟩,
                  ⟨some 52, none, .bin .add (.t 43) (.t 51)⟩,
                  ⟨some 53, none, .ixA 3 1 none (.t 4) (.t 41)⟩,
                  ⟨none, none, .store 1 (.t 53) (.t 52)⟩] [1, 2, 4, 5, 6, 12, 13, 19, 20, 21] [[], [0], [0, 1], [], [3], [], [3, 4, 5], [], [], [3, 4, 5, 6, 7, 8], [3, 4, 5, 6, 7, 8, 9], [0, 1, 2, 3, 4, 5, 6, 7, 8, 9, 10], [0, 1, 2, 3, 4, 5, 6, 7, 8, 9, 10, 11], [0, 1, 2, 3, 4, 5, 6, 7, 8, 9, 10, 11, 12]]))))))))
            (.reg [⟨some 54, none, .bin .add (.t 21) (.c (.int .i64 1))⟩,
                ⟨some 21, none, .mv (.t 54)⟩] [1, 2, 4, 5, 6, 12, 13, 19, 20, 21]))))))))))
      (.reg [⟨some 55, none, .bin .add (.t 13) (.c (.int .i64 1))⟩,
          ⟨some 13, none, .mv (.t 55)⟩] [1, 2, 4, 12, 13])))))))
  (.seq (.reg [⟨some 56, none, .load (some 3) (.t 4)⟩,
      ⟨none, none, .store 3 (.t 4) (.t 56)⟩] [4])
  .ret)))
abbrev R_stand_body_least : List (Nat × Option (Option Nat)) := [(4, some (some 3))]
theorem K_stand_body_least : chkF Try.prog Try.f65 57 C_stand_body_least R_stand_body_least = true := by kernel_rfl
theorem spec_stand_body_least {args : List AVal} {σ : AHeap} {R : ARes → AHeap → Prop} (ha : args.length ≤ 57) (h : AW Try.prog 57 none C_stand_body_least (bodyQ R_stand_body_least R) { v := argEnv args 0, ds := [] } σ) : Spec Try.prog F_stand_body_least args σ R := Spec.of_fn Try.func65 K_stand_body_least ha h
theorem B_stand_body_least : hasBody Try.prog F_stand_body_least = true := by kernel_rfl
theorem E_stand_body_least : EntOk Try.prog ⟨65, 57, C_stand_body_least, R_stand_body_least, false⟩ := ⟨fun _ => ⟨B_stand_body_least, _, Try.func65, K_stand_body_least⟩, fun h => by cases h⟩

abbrev F_r05_Smallest : FuncId := 66
/-- orlop/orlopref05.Smallest: parameters ['api.StHull', 'int'], results ['api.StBalance'] -/
def C_r05_Smallest : AC :=
  (.seq (.reg [⟨some 2, none, .pbox 3 (.t 0)⟩,
      ⟨some 4, none, .alloc [.int .i64 0, .int .i64 0, .int .i64 0]⟩] [1, 2, 4])
  (.seq (.dreg [⟨some 5, none, .load (some 3) (.t 2)⟩,
      ⟨some 6, none, .load (some 3) (.t 2)⟩,
      ⟨some 7, none, .call (.f 75) [true, false] [(.t 6), (.c (.int .i64 1))]⟩,
      ⟨some 8, none, .mv (.t 1)⟩,
      ⟨some 9, none, .call (.f 63) [true, true, false] [(.t 5), (.t 7), (.t 8)]⟩,
      ⟨some 10, none, .field none 0 (.t 9)⟩,
      ⟨some 11, none, .load (some 3) (.t 2)⟩,
      ⟨some 12, none, .load (some 3) (.t 2)⟩,
      ⟨some 13, none, .call (.f 75) [true, false] [(.t 12), (.c (.int .i64 2))]⟩,
      ⟨some 14, none, .mv (.t 1)⟩,
      ⟨some 15, none, .call (.f 63) [true, true, false] [(.t 11), (.t 13), (.t 14)]⟩,
      ⟨some 16, none, .field none 1 (.t 15)⟩,
      ⟨some 17, none, .load (some 3) (.t 2)⟩,
      ⟨some 18, none, .load (some 3) (.t 2)⟩,
      ⟨some 19, none, .call (.f 75) [true, false] [(.t 18), (.c (.int .i64 3))]⟩,
      ⟨some 20, none, .mv (.t 1)⟩,
      ⟨some 21, none, .call (.f 63) [true, true, false] [(.t 17), (.t 19), (.t 20)]⟩,
      ⟨some 22, none, .field none 2 (.t 21)⟩,
      ⟨some 23, none, .build [.int .i64 0, .int .i64 0, .int .i64 0] [(0, 1, (.t 10)), (1, 1, (.t 16)), (2, 1, (.t 22))]⟩,
      ⟨none, none, .store 3 (.t 4) (.t 23)⟩] [4] [[], [], [1], [], [0, 1, 2, 3], [0, 1, 2, 3, 4], [], [], [0, 1, 2, 3, 4, 7], [], [0, 1, 2, 3, 4, 6, 7, 8, 9], [0, 1, 2, 3, 4, 6, 7, 8, 9, 10], [], [], [0, 1, 2, 3, 4, 6, 7, 8, 9, 10, 13], [], [0, 1, 2, 3, 4, 6, 7, 8, 9, 10, 12, 13, 14, 15], [0, 1, 2, 3, 4, 6, 7, 8, 9, 10, 12, 13, 14, 15, 16], [0, 1, 2, 3, 4, 5, 6, 7, 8, 9, 10, 11, 12, 13, 14, 15, 16, 17], [0, 1, 2, 3, 4, 5, 6, 7, 8, 9, 10, 11, 12, 13, 14, 15, 16, 17, 18]])
  .ret))
abbrev R_r05_Smallest : List (Nat × Option (Option Nat)) := [(4, some (some 3))]
theorem K_r05_Smallest : chkF Try.prog Try.f66 24 C_r05_Smallest R_r05_Smallest = true := by kernel_rfl
theorem spec_r05_Smallest {args : List AVal} {σ : AHeap} {R : ARes → AHeap → Prop} (ha : args.length ≤ 24) (h : AW Try.prog 24 none C_r05_Smallest (bodyQ R_r05_Smallest R) { v := argEnv args 0, ds := [] } σ) : Spec Try.prog F_r05_Smallest args σ R := Spec.of_fn Try.func66 K_r05_Smallest ha h
theorem B_r05_Smallest : hasBody Try.prog F_r05_Smallest = true := by kernel_rfl
theorem E_r05_Smallest : EntOk Try.prog ⟨66, 24, C_r05_Smallest, R_r05_Smallest, false⟩ := ⟨fun _ => ⟨B_r05_Smallest, _, Try.func66, K_r05_Smallest⟩, fun h => by cases h⟩

abbrev F_l05_two : FuncId := 67
/-- orlop/orloplaw05.two: parameters [], results ['[]api.StForce'] -/
def C_l05_two : AC :=
  (.seq (.reg [⟨some 0, none, .mv (.c (.slice 2 []))⟩] [])
  (.seq (.reg [⟨some 1, none, .build [.int .i64 0, .int .i64 0] [(0, 1, (.c (.int .i64 300))), (1, 1, (.c (.int .i64 525000)))]⟩,
      ⟨some 2, none, .build [.int .i64 0, .int .i64 0] [(0, 1, (.c (.int .i64 700))), (1, 1, (.c (.int .i64 1575000)))]⟩,
      ⟨some 3, none, .lit 0 2 2 [(0, (.t 1)), (1, (.t 2))]⟩,
      ⟨some 0, none, .mvd (.t 3)⟩] [0])
  .ret))
abbrev R_l05_two : List (Nat × Option (Option Nat)) := [(0, none)]
theorem K_l05_two : chkF Try.prog Try.f67 4 C_l05_two R_l05_two = true := by kernel_rfl
theorem spec_l05_two {args : List AVal} {σ : AHeap} {R : ARes → AHeap → Prop} (ha : args.length ≤ 4) (h : AW Try.prog 4 none C_l05_two (bodyQ R_l05_two R) { v := argEnv args 0, ds := [] } σ) : Spec Try.prog F_l05_two args σ R := Spec.of_fn Try.func67 K_l05_two ha h
theorem B_l05_two : hasBody Try.prog F_l05_two = true := by kernel_rfl
theorem E_l05_two : EntOk Try.prog ⟨67, 4, C_l05_two, R_l05_two, false⟩ := ⟨fun _ => ⟨B_l05_two, _, Try.func67, K_l05_two⟩, fun h => by cases h⟩

abbrev F_stand_tidal : FuncId := 68
/-- orlop/stand.tidal: parameters ['api.Span'], results ['api.Errno'] -/
def C_stand_tidal : AC :=
  (.seq (.reg [⟨some 1, none, .pbox 2 (.t 0)⟩,
      ⟨some 2, none, .mv (.c (.int .i64 0))⟩] [1])
  (.seq (.block 0
    (.seq (.reg [⟨some 4, none, .fieldAddr none 0 (.t 1)⟩,
        ⟨some 5, none, .load none (.t 4)⟩,
        ⟨some 6, none, .fieldAddr none 1 (.t 1)⟩,
        ⟨some 7, none, .load none (.t 6)⟩,
        ⟨some 8, none, .lit 0 1 2 [(0, (.t 5)), (1, (.t 7))]⟩,
        ⟨some 9, none, .call (.f 51) [false, false, true] [(.c (.int .i64 0)), (.c (.int .i64 1000)), (.t 8)]⟩,
        ⟨some 3, none, .mv (.t 9)⟩] [1, 3])
    (.cond (.t 3)
      (.seq (.reg [⟨some 2, none, .mv (.c (.int .i64 7))⟩] [2])
      .ret)
      (.seq (.reg [⟨some 11, none, .fieldAddr none 0 (.t 1)⟩,
          ⟨some 12, none, .load none (.t 11)⟩,
          ⟨some 13, none, .fieldAddr none 1 (.t 1)⟩,
          ⟨some 14, none, .load none (.t 13)⟩,
          ⟨some 15, none, .bin .gtr (.t 12) (.t 14)⟩,
          ⟨some 10, none, .mv (.t 15)⟩] [10])
      (.cond (.t 10)
        (.seq (.reg [⟨some 2, none, .mv (.c (.int .i64 2))⟩] [2])
        .ret)
        .skip)))))
  (.seq (.reg [⟨some 2, none, .mv (.c (.int .i64 0))⟩] [2])
  .ret)))
abbrev R_stand_tidal : List (Nat × Option (Option Nat)) := [(2, none)]
theorem K_stand_tidal : chkF Try.prog Try.f68 16 C_stand_tidal R_stand_tidal = true := by kernel_rfl
theorem spec_stand_tidal {args : List AVal} {σ : AHeap} {R : ARes → AHeap → Prop} (ha : args.length ≤ 16) (h : AW Try.prog 16 none C_stand_tidal (bodyQ R_stand_tidal R) { v := argEnv args 0, ds := [] } σ) : Spec Try.prog F_stand_tidal args σ R := Spec.of_fn Try.func68 K_stand_tidal ha h
theorem B_stand_tidal : hasBody Try.prog F_stand_tidal = true := by kernel_rfl
theorem E_stand_tidal : EntOk Try.prog ⟨68, 16, C_stand_tidal, R_stand_tidal, false⟩ := ⟨fun _ => ⟨B_stand_tidal, _, Try.func68, K_stand_tidal⟩, fun h => by cases h⟩

abbrev F_stand_body_first : FuncId := 69
/-- (orlop/stand.body).first: parameters ['stand.body', 'api.Span'], results ['int', 'int'] -/
def C_stand_body_first : AC :=
  (.seq (.reg [⟨some 2, none, .pbox 3 (.t 0)⟩,
      ⟨some 3, none, .pbox 2 (.t 1)⟩,
      ⟨some 4, none, .alloc [.int .i64 0]⟩,
      ⟨some 5, none, .alloc [.int .i64 0]⟩] [2, 3, 4, 5])
  (.scope
    (.seq (.label 0)
    (.seq (.seq (.reg [⟨some 10, none, .load (some 3) (.t 2)⟩,
        ⟨some 11, none, .load (some 2) (.t 3)⟩,
        ⟨some 12, none, .call (.f 77) [true, false] [(.t 10), (.t 11)]⟩] [2, 4, 5, 12])
    (.block 0
      (.rangeF (.t 12) [13] (.reg [⟨some 6, none, .alloc [.int .i64 0, .int .i64 0]⟩,
            ⟨none, none, .store 2 (.t 6) (.t 13)⟩] [2, 4, 5, 6])
        (.block 1
          (.seq (.seq (.reg [⟨some 14, none, .load (some 3) (.t 2)⟩,
              ⟨some 15, none, .fieldAddr none 0 (.t 6)⟩,
              ⟨some 16, none, .load none (.t 15)⟩,
              ⟨some 17, none, .call (.f 65) [true, false] [(.t 14), (.t 16)]⟩,
              ⟨some 18, none, .call (.f 72) [false] [(.t 17)]⟩,
              ⟨none, none, .store 1 (.t 4) (.t 18)⟩] [2, 4, 5, 6])
          (.seq (.reg [⟨some 19, none, .load none (.t 4)⟩,
              ⟨some 20, none, .bin .neq (.t 19) (.c (.int .i64 0))⟩] [2, 4, 5, 6, 20])
          (.cond (.t 20)
            (.seq (.dreg [⟨some 21, none, .load none (.t 4)⟩,
                ⟨some 22, none, .fieldAddr none 0 (.t 6)⟩,
                ⟨some 23, none, .load none (.t 22)⟩,
                ⟨none, none, .store 1 (.t 4) (.t 21)⟩,
                ⟨none, none, .store 1 (.t 5) (.t 23)⟩] [4, 5] [[], [], [1], [0], [0, 1, 2, 3]])
            .ret)
            .skip)))
          (.seq (.seq (.reg [⟨some 24, none, .load (some 3) (.t 2)⟩,
              ⟨some 25, none, .fieldAddr none 1 (.t 6)⟩,
              ⟨some 26, none, .load none (.t 25)⟩,
              ⟨some 27, none, .call (.f 65) [true, false] [(.t 24), (.t 26)]⟩,
              ⟨some 28, none, .call (.f 72) [false] [(.t 27)]⟩,
              ⟨some 29, none, .bin .eql (.t 28) (.c (.int .i64 0))⟩] [2, 4, 5, 6, 29])
          (.cond (.t 29)
            (.exit 1)
            .skip))
          (.seq (.dreg [⟨some 30, none, .fieldAddr none 0 (.t 6)⟩,
              ⟨some 31, none, .load none (.t 30)⟩,
              ⟨some 32, none, .fieldAddr none 1 (.t 6)⟩,
              ⟨some 33, none, .load none (.t 32)⟩,
              ⟨some 7, none, .mv (.t 31)⟩,
              ⟨some 8, none, .mv (.t 33)⟩] [2, 4, 5, 7, 8] [[], [0], [], [2], [0, 1], [0, 1, 2, 3, 4]])
          (.seq (.block 2
            (.loop [2, 4, 5, 7, 8]
              (.seq (.seq (.reg [⟨some 34, none, .mv (.t 8)⟩,
                  ⟨some 35, none, .mv (.t 7)⟩,
                  ⟨some 36, none, .bin .sub (.t 34) (.t 35)⟩,
                  ⟨some 37, none, .bin .gtr (.t 36) (.c (.int .i64 1))⟩] [2, 4, 5, 7, 8, 37])
              (.cond (.t 37)
                .skip
                (.exit 2)))
              (.block 3
                (.seq (.reg [⟨some 38, none, .mv (.t 7)⟩,
                    ⟨some 39, none, .mv (.t 8)⟩,
                    ⟨some 40, none, .bin .add (.t 38) (.t 39)⟩,
                    ⟨some 41, none, .bin .quo (.t 40) (.c (.int .i64 2))⟩,
                    ⟨some 9, none, .mv (.t 41)⟩] [2, 4, 5, 7, 8, 9])
                (.seq (.reg [⟨some 42, none, .load (some 3) (.t 2)⟩,
                    ⟨some 43, none, .mv (.t 9)⟩,
                    ⟨some 44, none, .call (.f 65) [true, false] [(.t 42), (.t 43)]⟩,
                    ⟨some 45, none, .call (.f 72) [false] [(.t 44)]⟩,
                    ⟨some 46, none, .bin .eql (.t 45) (.c (.int .i64 0))⟩] [2, 4, 5, 7, 8, 9, 46])
                (.cond (.t 46)
                  (.reg [⟨some 47, none, .mv (.t 9)⟩,
                      ⟨some 7, none, .mv (.t 47)⟩] [2, 4, 5, 7, 8])
                  (.reg [⟨some 48, none, .mv (.t 9)⟩,
                      ⟨some 8, none, .mv (.t 48)⟩] [2, 4, 5, 7, 8]))))))))
          (.seq (.reg [⟨some 49, none, .load (some 3) (.t 2)⟩,
              ⟨some 50, none, .mv (.t 8)⟩,
              ⟨some 51, none, .call (.f 65) [true, false] [(.t 49), (.t 50)]⟩,
              ⟨some 52, none, .call (.f 72) [false] [(.t 51)]⟩,
              ⟨some 53, none, .mv (.t 8)⟩,
              ⟨none, none, .store 1 (.t 4) (.t 52)⟩,
              ⟨none, none, .store 1 (.t 5) (.t 53)⟩] [4, 5])
          .ret)))))))))
    (.seq (.reg [⟨none, none, .store 1 (.t 4) (.c (.int .i64 0))⟩,
        ⟨none, none, .store 1 (.t 5) (.c (.int .i64 0))⟩] [4, 5])
    .ret)))))
abbrev R_stand_body_first : List (Nat × Option (Option Nat)) := [(4, some none), (5, some none)]
theorem K_stand_body_first : chkF Try.prog Try.f69 54 C_stand_body_first R_stand_body_first = true := by kernel_rfl
theorem spec_stand_body_first {args : List AVal} {σ : AHeap} {R : ARes → AHeap → Prop} (ha : args.length ≤ 54) (h : AW Try.prog 54 none C_stand_body_first (bodyQ R_stand_body_first R) { v := argEnv args 0, ds := [] } σ) : Spec Try.prog F_stand_body_first args σ R := Spec.of_fn Try.func69 K_stand_body_first ha h
theorem B_stand_body_first : hasBody Try.prog F_stand_body_first = true := by kernel_rfl
theorem E_stand_body_first : EntOk Try.prog ⟨69, 54, C_stand_body_first, R_stand_body_first, false⟩ := ⟨fun _ => ⟨B_stand_body_first, _, Try.func69, K_stand_body_first⟩, fun h => by cases h⟩

abbrev F_r05_tided : FuncId := 70
/-- orlop/orlopref05.tided: parameters ['api.Errno', 'api.Span'], results ['api.Errno'] -/
def C_r05_tided : AC :=
  (.seq (.reg [⟨some 3, none, .pbox 2 (.t 1)⟩,
      ⟨some 4, none, .mv (.c (.int .i64 0))⟩] [0, 3])
  (.seq (.seq (.reg [⟨some 5, none, .mv (.t 0)⟩,
      ⟨some 6, none, .bin .eql (.t 5) (.c (.int .i64 0))⟩] [0, 3, 6])
  (.cond (.t 6)
    (.reg [⟨some 7, none, .load (some 2) (.t 3)⟩,
        ⟨some 8, none, .call (.f 83) [false, false, false] [(.t 7), (.c (.int .i64 0)), (.c (.int .i64 1000))]⟩,
        ⟨some 0, none, .mv (.t 8)⟩] [0])
    .skip))
  (.seq (.reg [⟨some 9, none, .mv (.t 0)⟩,
      ⟨some 4, none, .mv (.t 9)⟩] [4])
  .ret)))
abbrev R_r05_tided : List (Nat × Option (Option Nat)) := [(4, none)]
theorem K_r05_tided : chkF Try.prog Try.f70 10 C_r05_tided R_r05_tided = true := by kernel_rfl
theorem spec_r05_tided {args : List AVal} {σ : AHeap} {R : ARes → AHeap → Prop} (ha : args.length ≤ 10) (h : AW Try.prog 10 none C_r05_tided (bodyQ R_r05_tided R) { v := argEnv args 0, ds := [] } σ) : Spec Try.prog F_r05_tided args σ R := Spec.of_fn Try.func70 K_r05_tided ha h
theorem B_r05_tided : hasBody Try.prog F_r05_tided = true := by kernel_rfl
theorem E_r05_tided : EntOk Try.prog ⟨70, 10, C_r05_tided, R_r05_tided, false⟩ := ⟨fun _ => ⟨B_r05_tided, _, Try.func70, K_r05_tided⟩, fun h => by cases h⟩

abbrev F_r05_first : FuncId := 71
/-- orlop/orlopref05.first: parameters ['api.StHull', 'api.Span'], results ['int', 'int'] -/
def C_r05_first : AC :=
  (.seq (.reg [⟨some 2, none, .pbox 3 (.t 0)⟩,
      ⟨some 3, none, .pbox 2 (.t 1)⟩,
      ⟨some 4, none, .mv (.c (.int .i64 0))⟩,
      ⟨some 5, none, .mv (.c (.int .i64 0))⟩] [2, 3])
  (.seq (.seq (.reg [⟨some 8, none, .fieldAddr none 0 (.t 3)⟩,
      ⟨some 9, none, .load none (.t 8)⟩,
      ⟨some 6, none, .mv (.t 9)⟩] [2, 3, 6])
  (.block 0
    (.loop [2, 3, 6]
      (.seq (.seq (.reg [⟨some 10, none, .mv (.t 6)⟩,
          ⟨some 11, none, .fieldAddr none 1 (.t 3)⟩,
          ⟨some 12, none, .load none (.t 11)⟩,
          ⟨some 13, none, .bin .leq (.t 10) (.t 12)⟩] [2, 3, 6, 13])
      (.cond (.t 13)
        .skip
        (.exit 0)))
      (.seq (.block 1
        (.seq (.reg [⟨some 16, none, .load (some 3) (.t 2)⟩,
            ⟨some 17, none, .mv (.t 6)⟩,
            ⟨some 18, none, .call (.f 66) [true, false] [(.t 16), (.t 17)]⟩,
            ⟨some 19, none, .call (.f 74) [false] [(.t 18)]⟩,
            ⟨some 7, none, .mv (.t 19)⟩] [2, 3, 6, 7])
        (.seq (.reg [⟨some 20, none, .mv (.t 7)⟩,
            ⟨some 21, none, .bin .neq (.t 20) (.c (.int .i64 0))⟩] [2, 3, 6, 7, 21])
        (.cond (.t 21)
          (.seq (.reg [⟨some 22, none, .mv (.t 7)⟩,
              ⟨some 23, none, .mv (.t 6)⟩,
              ⟨some 4, none, .mv (.t 22)⟩,
              ⟨some 5, none, .mv (.t 23)⟩] [4, 5])
          .ret)
          .skip))))
      (.reg [⟨some 14, none, .mv (.t 6)⟩,
          ⟨some 15, none, .bin .add (.t 14) (.c (.int .i64 1))⟩,
          ⟨some 6, none, .mv (.t 15)⟩] [2, 3, 6]))))))
  (.seq (.reg [⟨some 4, none, .mv (.c (.int .i64 0))⟩,
      ⟨some 5, none, .mv (.c (.int .i64 0))⟩] [4, 5])
  .ret)))
abbrev R_r05_first : List (Nat × Option (Option Nat)) := [(4, none), (5, none)]
theorem K_r05_first : chkF Try.prog Try.f71 24 C_r05_first R_r05_first = true := by kernel_rfl
theorem spec_r05_first {args : List AVal} {σ : AHeap} {R : ARes → AHeap → Prop} (ha : args.length ≤ 24) (h : AW Try.prog 24 none C_r05_first (bodyQ R_r05_first R) { v := argEnv args 0, ds := [] } σ) : Spec Try.prog F_r05_first args σ R := Spec.of_fn Try.func71 K_r05_first ha h
theorem B_r05_first : hasBody Try.prog F_r05_first = true := by kernel_rfl
theorem E_r05_first : EntOk Try.prog ⟨71, 24, C_r05_first, R_r05_first, false⟩ := ⟨fun _ => ⟨B_r05_first, _, Try.func71, K_r05_first⟩, fun h => by cases h⟩

abbrev F_stand_sums_why : FuncId := 72
/-- (orlop/stand.sums).why: parameters ['stand.sums'], results ['int'] -/
def C_stand_sums_why : AC :=
  (.seq (.reg [⟨some 1, none, .pbox 3 (.t 0)⟩,
      ⟨some 2, none, .mv (.c (.int .i64 0))⟩] [1])
  (.seq (.block 0
    (.seq (.reg [⟨some 4, none, .ixA 3 1 none (.t 1) (.c (.int .i64 0))⟩,
        ⟨some 5, none, .load none (.t 4)⟩,
        ⟨some 6, none, .bin .leq (.t 5) (.c (.int .i64 0))⟩,
        ⟨some 3, none, .mv (.t 6)⟩] [1, 3])
    (.cond (.t 3)
      (.seq (.reg [⟨some 2, none, .mv (.c (.int .i64 1))⟩] [2])
      .ret)
      (.seq (.reg [⟨some 8, none, .ixA 3 1 none (.t 1) (.c (.int .i64 1))⟩,
          ⟨some 9, none, .load none (.t 8)⟩,
          ⟨some 10, none, .bin .lss (.t 9) (.c (.int .i64 0))⟩,
          ⟨some 7, none, .mv (.t 10)⟩] [1, 7])
      (.cond (.t 7)
        (.seq (.reg [⟨some 2, none, .mv (.c (.int .i64 2))⟩] [2])
        .ret)
        (.seq (.reg [⟨some 12, none, .ixA 3 1 none (.t 1) (.c (.int .i64 2))⟩,
            ⟨some 13, none, .load none (.t 12)⟩,
            ⟨some 14, none, .bin .lss (.t 13) (.c (.int .i64 0))⟩,
            ⟨some 11, none, .mv (.t 14)⟩] [11])
        (.cond (.t 11)
          (.seq (.reg [⟨some 2, none, .mv (.c (.int .i64 3))⟩] [2])
          .ret)
          .skip)))))))
  (.seq (.reg [⟨some 2, none, .mv (.c (.int .i64 0))⟩] [2])
  .ret)))
abbrev R_stand_sums_why : List (Nat × Option (Option Nat)) := [(2, none)]
theorem K_stand_sums_why : chkF Try.prog Try.f72 15 C_stand_sums_why R_stand_sums_why = true := by kernel_rfl
theorem spec_stand_sums_why {args : List AVal} {σ : AHeap} {R : ARes → AHeap → Prop} (ha : args.length ≤ 15) (h : AW Try.prog 15 none C_stand_sums_why (bodyQ R_stand_sums_why R) { v := argEnv args 0, ds := [] } σ) : Spec Try.prog F_stand_sums_why args σ R := Spec.of_fn Try.func72 K_stand_sums_why ha h
theorem B_stand_sums_why : hasBody Try.prog F_stand_sums_why = true := by kernel_rfl
theorem E_stand_sums_why : EntOk Try.prog ⟨72, 15, C_stand_sums_why, R_stand_sums_why, false⟩ := ⟨fun _ => ⟨B_stand_sums_why, _, Try.func72, K_stand_sums_why⟩, fun h => by cases h⟩

abbrev F_stand_body_levers : FuncId := 73
/-- (orlop/stand.body).levers: parameters ['stand.body'], results ['[3]stand.lever'] -/
def C_stand_body_levers : AC :=
  (.seq (.reg [⟨some 1, none, .pbox 3 (.t 0)⟩,
      ⟨some 2, none, .alloc [.nilfunc, .nilfunc, .nilfunc, .nilfunc, .nilfunc, .nilfunc, .nilfunc, .nilfunc, .nilfunc]⟩] [1, 2])
  (.seq (.reg [⟨some 7, none, .mkfunc (.func 88) [] [(.t 1)]⟩,
      ⟨some 8, none, .mkfunc (.func 89) [] [(.t 1)]⟩,
      ⟨some 9, none, .build [.nilfunc, .nilfunc, .nilfunc] [(0, 1, (.f 87)), (1, 1, (.t 7)), (2, 1, (.t 8))]⟩,
      ⟨some 3, none, .alloc [.nilfunc, .nilfunc, .nilfunc]⟩,
      ⟨none, none, .store 3 (.t 3) (.t 9)⟩] [2, 3])
  (.frz 3 true (.seq (.reg [⟨some 4, none, .alloc [.nilfunc, .nilfunc, .nilfunc, .nilfunc, .nilfunc, .nilfunc, .nilfunc, .nilfunc, .nilfunc]⟩] [2, 3, 4])
  (.seq (.seq (.reg [⟨some 10, none, .load (some 3) (.t 3)⟩,
      ⟨some 11, none, .mv (.c (.int .i64 0))⟩] [2, 4, 10, 11])
  (.block 0
    (.loop [2, 4, 10, 11]
      (.seq (.reg [⟨some 12, none, .bin .lss (.t 11) (.c (.int .i64 3))⟩] [2, 4, 10, 11, 12])
      (.seq (.cond (.t 12)
        .skip
        (.exit 0))
      (.seq (.block 1
        (.seq (.reg [⟨some 13, none, .mv (.t 11)⟩,
            ⟨some 14, none, .ixV 3 1 none (.t 10) (.t 11)⟩,
            ⟨some 5, none, .mv (.t 13)⟩,
            ⟨some 6, none, .mv (.t 14)⟩] [2, 4, 5, 6, 10, 11])
        (.reg [⟨some 15, none, .mv (.t 5)⟩,
            ⟨some 16, none, .mv (.t 6)⟩,
            ⟨some 17, none, .build [.nilfunc, .nilfunc, .nilfunc] [(0, 1, (.t 16)), (1, 1, (.f 90)), (2, 1, (.f 91))]⟩,
            ⟨some 18, none, .ixA 3 3 (some 3) (.t 4) (.t 15)⟩,
            ⟨none, none, .store 3 (.t 18) (.t 17)⟩] [2, 4, 10, 11])))
      (.reg [⟨some 19, none, .bin .add (.t 11) (.c (.int .i64 1))⟩,
          ⟨some 11, none, .mv (.t 19)⟩] [2, 4, 10, 11])))))))
  (.seq (.reg [⟨some 20, none, .load (some 9) (.t 4)⟩,
      ⟨none, none, .store 9 (.t 2) (.t 20)⟩] [2])
  .ret))))))
abbrev R_stand_body_levers : List (Nat × Option (Option Nat)) := [(2, some (some 9))]
theorem K_stand_body_levers : chkF Try.prog Try.f73 21 C_stand_body_levers R_stand_body_levers = true := by kernel_rfl
theorem spec_stand_body_levers {args : List AVal} {σ : AHeap} {R : ARes → AHeap → Prop} (ha : args.length ≤ 21) (h : AW Try.prog 21 none C_stand_body_levers (bodyQ R_stand_body_levers R) { v := argEnv args 0, ds := [] } σ) : Spec Try.prog F_stand_body_levers args σ R := Spec.of_fn Try.func73 K_stand_body_levers ha h
theorem B_stand_body_levers : hasBody Try.prog F_stand_body_levers = true := by kernel_rfl
theorem E_stand_body_levers : EntOk Try.prog ⟨73, 21, C_stand_body_levers, R_stand_body_levers, false⟩ := ⟨fun _ => ⟨B_stand_body_levers, _, Try.func73, K_stand_body_levers⟩, fun h => by cases h⟩

abbrev F_r05_Reason : FuncId := 74
/-- orlop/orlopref05.Reason: parameters ['api.StBalance'], results ['int'] -/
def C_r05_Reason : AC :=
  (.seq (.reg [⟨some 1, none, .pbox 3 (.t 0)⟩,
      ⟨some 2, none, .mv (.c (.int .i64 0))⟩] [1])
  (.seq (.seq (.reg [⟨some 3, none, .fieldAddr none 0 (.t 1)⟩,
      ⟨some 4, none, .load none (.t 3)⟩,
      ⟨some 5, none, .bin .leq (.t 4) (.c (.int .i64 0))⟩] [1, 5])
  (.cond (.t 5)
    (.seq (.reg [⟨some 2, none, .mv (.c (.int .i64 1))⟩] [2])
    .ret)
    .skip))
  (.seq (.seq (.reg [⟨some 6, none, .fieldAddr none 1 (.t 1)⟩,
      ⟨some 7, none, .load none (.t 6)⟩,
      ⟨some 8, none, .bin .lss (.t 7) (.c (.int .i64 0))⟩] [1, 8])
  (.cond (.t 8)
    (.seq (.reg [⟨some 2, none, .mv (.c (.int .i64 2))⟩] [2])
    .ret)
    .skip))
  (.seq (.seq (.reg [⟨some 9, none, .fieldAddr none 2 (.t 1)⟩,
      ⟨some 10, none, .load none (.t 9)⟩,
      ⟨some 11, none, .bin .lss (.t 10) (.c (.int .i64 0))⟩] [11])
  (.cond (.t 11)
    (.seq (.reg [⟨some 2, none, .mv (.c (.int .i64 3))⟩] [2])
    .ret)
    .skip))
  (.seq (.reg [⟨some 2, none, .mv (.c (.int .i64 0))⟩] [2])
  .ret)))))
abbrev R_r05_Reason : List (Nat × Option (Option Nat)) := [(2, none)]
theorem K_r05_Reason : chkF Try.prog Try.f74 12 C_r05_Reason R_r05_Reason = true := by kernel_rfl
theorem spec_r05_Reason {args : List AVal} {σ : AHeap} {R : ARes → AHeap → Prop} (ha : args.length ≤ 12) (h : AW Try.prog 12 none C_r05_Reason (bodyQ R_r05_Reason R) { v := argEnv args 0, ds := [] } σ) : Spec Try.prog F_r05_Reason args σ R := Spec.of_fn Try.func74 K_r05_Reason ha h
theorem B_r05_Reason : hasBody Try.prog F_r05_Reason = true := by kernel_rfl
theorem E_r05_Reason : EntOk Try.prog ⟨74, 12, C_r05_Reason, R_r05_Reason, false⟩ := ⟨fun _ => ⟨B_r05_Reason, _, Try.func74, K_r05_Reason⟩, fun h => by cases h⟩

abbrev F_r05_Shown : FuncId := 75
/-- orlop/orlopref05.Shown: parameters ['api.StHull', 'int'], results ['api.StTruth'] -/
def C_r05_Shown : AC :=
  (.seq (.reg [⟨some 2, none, .pbox 3 (.t 0)⟩,
      ⟨some 4, none, .alloc [.slice 1 [], .slice 1 []]⟩] [1, 2, 4])
  (.seq (.reg [⟨some 5, none, .alloc [.mint 1, .mint 1]⟩] [1, 2, 4, 5])
  (.seq (.seq (.reg [⟨some 6, none, .mv (.c (.int .i64 0))⟩] [1, 2, 4, 5, 6])
  (.block 0
    (.loop [1, 2, 4, 5, 6]
      (.seq (.seq (.reg [⟨some 9, none, .mv (.t 6)⟩,
          ⟨some 10, none, .fieldAddr none 0 (.t 2)⟩,
          ⟨some 11, none, .load none (.t 10)⟩,
          ⟨some 12, none, .len (.t 11)⟩,
          ⟨some 13, none, .bin .lss (.t 9) (.t 12)⟩] [1, 2, 4, 5, 6, 13])
      (.cond (.t 13)
        .skip
        (.exit 0)))
      (.seq (.block 1
        (.seq (.reg [⟨some 16, none, .fieldAddr none 0 (.t 2)⟩,
            ⟨some 17, none, .load none (.t 16)⟩,
            ⟨some 18, none, .mv (.t 6)⟩,
            ⟨some 19, none, .ixS 7 (.t 17) (.t 18)⟩,
            ⟨some 20, none, .load (some 7) (.t 19)⟩,
            ⟨some 7, none, .alloc [.str ByteArray.empty, .int .i64 0, .int .i64 0, .int .i64 0, .int .i64 0, .int .i64 0, .int .i64 0]⟩,
            ⟨none, none, .store 7 (.t 7) (.t 20)⟩] [1, 2, 4, 5, 6, 7])
        (.frz 7 true (.seq (.reg [⟨some 21, none, .mv (.t 1)⟩,
            ⟨some 22, none, .bin .eql (.t 21) (.c (.int .i64 0))⟩,
            ⟨some 23, none, .mv (.t 22)⟩,
            ⟨some 24, (some (23, false)), .mv (.t 1)⟩,
            ⟨some 25, (some (23, false)), .bin .eql (.t 24) (.c (.int .i64 1))⟩,
            ⟨some 26, none, .pick (.t 23) (.c (.bool true)) (.t 25)⟩,
            ⟨some 27, none, .mv (.t 26)⟩,
            ⟨some 28, (some (27, false)), .mv (.t 1)⟩,
            ⟨some 29, (some (27, false)), .bin .eql (.t 28) (.c (.int .i64 2))⟩,
            ⟨some 30, (some (27, false)), .mv (.t 29)⟩,
            ⟨some 31, (some (30, true)), .fieldAddr none 1 (.t 7)⟩,
            ⟨some 32, (some (30, true)), .load none (.t 31)⟩,
            ⟨some 33, (some (30, true)), .fieldAddr none 1 (.t 2)⟩,
            ⟨some 34, (some (30, true)), .load none (.t 33)⟩,
            ⟨some 35, (some (30, true)), .bin .geq (.t 32) (.t 34)⟩,
            ⟨some 36, (some (27, false)), .pick (.t 30) (.t 35) (.c (.bool false))⟩,
            ⟨some 37, none, .pick (.t 27) (.c (.bool true)) (.t 36)⟩,
            ⟨some 38, none, .mv (.t 37)⟩,
            ⟨some 39, (some (38, false)), .mv (.t 1)⟩,
            ⟨some 40, (some (38, false)), .bin .eql (.t 39) (.c (.int .i64 3))⟩,
            ⟨some 41, (some (38, false)), .mv (.t 40)⟩,
            ⟨some 42, (some (41, true)), .fieldAddr none 1 (.t 7)⟩,
            ⟨some 43, (some (41, true)), .load none (.t 42)⟩,
            ⟨some 44, (some (41, true)), .fieldAddr none 2 (.t 2)⟩,
            ⟨some 45, (some (41, true)), .load none (.t 44)⟩,
            ⟨some 46, (some (41, true)), .bin .leq (.t 43) (.t 45)⟩,
            ⟨some 47, (some (38, false)), .pick (.t 41) (.t 46) (.c (.bool false))⟩,
            ⟨some 48, none, .pick (.t 38) (.c (.bool true)) (.t 47)⟩,
            ⟨some 8, none, .mv (.t 48)⟩] [1, 2, 4, 5, 6, 7, 8])
        (.seq (.reg [⟨some 49, none, .mv (.t 8)⟩] [1, 2, 4, 5, 6, 7, 49])
        (.cond (.t 49)
          (.dreg [⟨some 50, none, .fieldAddr none 0 (.t 5)⟩,
              ⟨some 51, none, .load none (.t 50)⟩,
              ⟨some 52, none, .fieldAddr (some 2) 2 (.t 7)⟩,
              ⟨some 53, none, .fieldAddr none 0 (.t 52)⟩,
              ⟨some 54, none, .load none (.t 53)⟩,
              ⟨some 55, none, .lit 0 1 1 [(0, (.t 54))]⟩,
              ⟨some 56, none, .append 1 8 (.t 51) (.t 55)⟩,
              ⟨some 57, none, .fieldAddr none 1 (.t 5)⟩,
              ⟨some 58, none, .load none (.t 57)⟩,
              ⟨some 59, none, .fieldAddr (some 2) 5 (.t 7)⟩,
              ⟨some 60, none, .fieldAddr none 1 (.t 59)⟩,
              ⟨some 61, none, .load none (.t 60)⟩,
              ⟨some 62, none, .lit 0 1 1 [(0, (.t 61))]⟩,
              ⟨some 63, none, .append 1 8 (.t 58) (.t 62)⟩,
              ⟨some 64, none, .fieldAddr none 0 (.t 5)⟩,
              ⟨none, none, .store 1 (.t 64) (.t 56)⟩,
              ⟨some 65, none, .fieldAddr none 1 (.t 5)⟩,
              ⟨none, none, .store 1 (.t 65) (.t 63)⟩] [1, 2, 4, 5, 6] [[], [0], [], [2], [2, 3], [2, 3, 4], [0, 1, 2, 3, 4, 5], [], [7], [], [9], [9, 10], [9, 10, 11], [0, 1, 2, 3, 4, 5, 6, 7, 8, 9, 10, 11, 12], [0, 1, 2, 3, 4, 5, 6, 7, 8], [0, 1, 2, 3, 4, 5, 6, 7, 8, 9, 10, 11, 12, 13, 14], [0, 1, 2, 3, 4, 5, 6, 7, 8, 9, 10, 11, 12, 13, 14, 15], [0, 1, 2, 3, 4, 5, 6, 7, 8, 9, 10, 11, 12, 13, 14, 15, 16]])
          (.dreg [⟨some 66, none, .fieldAddr none 0 (.t 5)⟩,
              ⟨some 67, none, .load none (.t 66)⟩,
              ⟨some 68, none, .fieldAddr (some 2) 2 (.t 7)⟩,
              ⟨some 69, none, .fieldAddr none 1 (.t 68)⟩,
              ⟨some 70, none, .load none (.t 69)⟩,
              ⟨some 71, none, .lit 0 1 1 [(0, (.t 70))]⟩,
              ⟨some 72, none, .append 1 8 (.t 67) (.t 71)⟩,
              ⟨some 73, none, .fieldAddr none 1 (.t 5)⟩,
              ⟨some 74, none, .load none (.t 73)⟩,
              ⟨some 75, none, .fieldAddr (some 2) 5 (.t 7)⟩,
              ⟨some 76, none, .fieldAddr none 0 (.t 75)⟩,
              ⟨some 77, none, .load none (.t 76)⟩,
              ⟨some 78, none, .lit 0 1 1 [(0, (.t 77))]⟩,
              ⟨some 79, none, .append 1 8 (.t 74) (.t 78)⟩,
              ⟨some 80, none, .fieldAddr none 0 (.t 5)⟩,
              ⟨none, none, .store 1 (.t 80) (.t 72)⟩,
              ⟨some 81, none, .fieldAddr none 1 (.t 5)⟩,
              ⟨none, none, .store 1 (.t 81) (.t 79)⟩] [1, 2, 4, 5, 6] [[], [0], [], [2], [2, 3], [2, 3, 4], [0, 1, 2, 3, 4, 5], [], [7], [], [9], [9, 10], [9, 10, 11], [0, 1, 2, 3, 4, 5, 6, 7, 8, 9, 10, 11, 12], [0, 1, 2, 3, 4, 5, 6, 7, 8], [0, 1, 2, 3, 4, 5, 6, 7, 8, 9, 10, 11, 12, 13, 14], [0, 1, 2, 3, 4, 5, 6, 7, 8, 9, 10, 11, 12, 13, 14, 15], [0, 1, 2, 3, 4, 5, 6, 7, 8, 9, 10, 11, 12, 13, 14, 15, 16]])))))))
      (.reg [⟨some 14, none, .mv (.t 6)⟩,
          ⟨some 15, none, .bin .add (.t 14) (.c (.int .i64 1))⟩,
          ⟨some 6, none, .mv (.t 15)⟩] [1, 2, 4, 5, 6]))))))
  (.seq (.reg [⟨some 82, none, .loadd (some 2) (.t 5)⟩,
      ⟨none, none, .store 2 (.t 4) (.t 82)⟩] [4])
  .ret))))
abbrev R_r05_Shown : List (Nat × Option (Option Nat)) := [(4, some (some 2))]
theorem K_r05_Shown : chkF Try.prog Try.f75 83 C_r05_Shown R_r05_Shown = true := by kernel_rfl
theorem spec_r05_Shown {args : List AVal} {σ : AHeap} {R : ARes → AHeap → Prop} (ha : args.length ≤ 83) (h : AW Try.prog 83 none C_r05_Shown (bodyQ R_r05_Shown R) { v := argEnv args 0, ds := [] } σ) : Spec Try.prog F_r05_Shown args σ R := Spec.of_fn Try.func75 K_r05_Shown ha h
theorem B_r05_Shown : hasBody Try.prog F_r05_Shown = true := by kernel_rfl
theorem E_r05_Shown : EntOk Try.prog ⟨75, 83, C_r05_Shown, R_r05_Shown, false⟩ := ⟨fun _ => ⟨B_r05_Shown, _, Try.func75, K_r05_Shown⟩, fun h => by cases h⟩

abbrev F_r01_Ints : FuncId := 76
/-- orlop/orlopref01.Ints: parameters ['[]int', '[]int'], results ['bool'] -/
def C_r01_Ints : AC :=
  (.seq (.reg [⟨some 4, none, .mv (.c (.bool false))⟩] [0, 1])
  (.seq (.reg [⟨some 7, none, .mv (.t 0)⟩,
      ⟨some 8, none, .len (.t 7)⟩,
      ⟨some 9, none, .mv (.t 1)⟩,
      ⟨some 10, none, .len (.t 9)⟩,
      ⟨some 11, none, .bin .eql (.t 8) (.t 10)⟩,
      ⟨some 5, none, .mv (.t 11)⟩] [0, 1, 5])
  (.seq (.seq (.reg [⟨some 6, none, .mv (.c (.int .i64 0))⟩] [0, 1, 5, 6])
  (.block 0
    (.loop [0, 1, 5, 6]
      (.seq (.seq (.reg [⟨some 12, none, .mv (.t 6)⟩,
          ⟨some 13, none, .mv (.t 0)⟩,
          ⟨some 14, none, .len (.t 13)⟩,
          ⟨some 15, none, .bin .lss (.t 12) (.t 14)⟩,
          ⟨some 16, none, .mv (.t 15)⟩,
          ⟨some 17, (some (16, true)), .mv (.t 5)⟩,
          ⟨some 18, none, .pick (.t 16) (.t 17) (.c (.bool false))⟩] [0, 1, 5, 6, 18])
      (.cond (.t 18)
        .skip
        (.exit 0)))
      (.seq (.block 1
        (.dreg [⟨some 21, none, .mv (.t 0)⟩,
            ⟨some 22, none, .mv (.t 6)⟩,
            ⟨some 23, none, .ixS 1 (.t 21) (.t 22)⟩,
            ⟨some 24, none, .load none (.t 23)⟩,
            ⟨some 25, none, .mv (.t 1)⟩,
            ⟨some 26, none, .mv (.t 6)⟩,
            ⟨some 27, none, .ixS 1 (.t 25) (.t 26)⟩,
            ⟨some 28, none, .load none (.t 27)⟩,
            ⟨some 29, none, .bin .eql (.t 24) (.t 28)⟩,
            ⟨some 5, none, .mv (.t 29)⟩] [0, 1, 5, 6] [[], [], [0, 1], [0, 1, 2], [], [], [4, 5], [4, 5, 6], [0, 1, 2, 3, 4, 5, 6, 7], [0, 1, 2, 3, 4, 5, 6, 7, 8]]))
      (.reg [⟨some 19, none, .mv (.t 6)⟩,
          ⟨some 20, none, .bin .add (.t 19) (.c (.int .i64 1))⟩,
          ⟨some 6, none, .mv (.t 20)⟩] [0, 1, 5, 6]))))))
  (.seq (.reg [⟨some 30, none, .mv (.t 5)⟩,
      ⟨some 4, none, .mv (.t 30)⟩] [4])
  .ret))))
abbrev R_r01_Ints : List (Nat × Option (Option Nat)) := [(4, none)]
theorem K_r01_Ints : chkF Try.prog Try.f76 31 C_r01_Ints R_r01_Ints = true := by kernel_rfl
theorem spec_r01_Ints {args : List AVal} {σ : AHeap} {R : ARes → AHeap → Prop} (ha : args.length ≤ 31) (h : AW Try.prog 31 none C_r01_Ints (bodyQ R_r01_Ints R) { v := argEnv args 0, ds := [] } σ) : Spec Try.prog F_r01_Ints args σ R := Spec.of_fn Try.func76 K_r01_Ints ha h
theorem B_r01_Ints : hasBody Try.prog F_r01_Ints = true := by kernel_rfl
theorem E_r01_Ints : EntOk Try.prog ⟨76, 31, C_r01_Ints, R_r01_Ints, false⟩ := ⟨fun _ => ⟨B_r01_Ints, _, Try.func76, K_r01_Ints⟩, fun h => by cases h⟩

abbrev F_stand_body_bends : FuncId := 77
/-- (orlop/stand.body).bends: parameters ['stand.body', 'api.Span'], results ['iter.Seq[orlop/api.Span]'] -/
def C_stand_body_bends : AC :=
  (.seq (.reg [⟨some 2, none, .pbox 3 (.t 0)⟩,
      ⟨some 3, none, .pbox 2 (.t 1)⟩,
      ⟨some 4, none, .mv (.c .nilfunc)⟩] [2, 3])
  (.seq (.reg [⟨some 5, none, .mkfunc (.func 92) [] [(.t 3), (.t 2)]⟩,
      ⟨some 4, none, .mv (.t 5)⟩] [4])
  .ret))
abbrev R_stand_body_bends : List (Nat × Option (Option Nat)) := [(4, none)]
theorem K_stand_body_bends : chkF Try.prog Try.f77 6 C_stand_body_bends R_stand_body_bends = true := by kernel_rfl
theorem spec_stand_body_bends {args : List AVal} {σ : AHeap} {R : ARes → AHeap → Prop} (ha : args.length ≤ 6) (h : AW Try.prog 6 none C_stand_body_bends (bodyQ R_stand_body_bends R) { v := argEnv args 0, ds := [] } σ) : Spec Try.prog F_stand_body_bends args σ R := Spec.of_fn Try.func77 K_stand_body_bends ha h
theorem B_stand_body_bends : hasBody Try.prog F_stand_body_bends = true := by kernel_rfl
theorem E_stand_body_bends : EntOk Try.prog ⟨77, 6, C_stand_body_bends, R_stand_body_bends, false⟩ := ⟨fun _ => ⟨B_stand_body_bends, _, Try.func77, K_stand_body_bends⟩, fun h => by cases h⟩

abbrev F_r01_within : FuncId := 78
/-- orlop/orlopref01.within: parameters ['int', 'int', 'int'], results ['bool'] -/
def C_r01_within : AC :=
  (.seq (.reg [⟨some 6, none, .mv (.c (.bool false))⟩] [0, 1, 2])
  (.seq (.reg [⟨some 7, none, .mv (.t 1)⟩,
      ⟨some 8, none, .mv (.t 0)⟩,
      ⟨some 9, none, .bin .leq (.t 7) (.t 8)⟩,
      ⟨some 10, none, .mv (.t 9)⟩,
      ⟨some 11, (some (10, true)), .mv (.t 0)⟩,
      ⟨some 12, (some (10, true)), .mv (.t 2)⟩,
      ⟨some 13, (some (10, true)), .bin .leq (.t 11) (.t 12)⟩,
      ⟨some 14, none, .pick (.t 10) (.t 13) (.c (.bool false))⟩,
      ⟨some 6, none, .mv (.t 14)⟩] [6])
  .ret))
abbrev R_r01_within : List (Nat × Option (Option Nat)) := [(6, none)]
theorem K_r01_within : chkF Try.prog Try.f78 15 C_r01_within R_r01_within = true := by kernel_rfl
theorem spec_r01_within {args : List AVal} {σ : AHeap} {R : ARes → AHeap → Prop} (ha : args.length ≤ 15) (h : AW Try.prog 15 none C_r01_within (bodyQ R_r01_within R) { v := argEnv args 0, ds := [] } σ) : Spec Try.prog F_r01_within args σ R := Spec.of_fn Try.func78 K_r01_within ha h
theorem B_r01_within : hasBody Try.prog F_r01_within = true := by kernel_rfl
theorem E_r01_within : EntOk Try.prog ⟨78, 15, C_r01_within, R_r01_within, false⟩ := ⟨fun _ => ⟨B_r01_within, _, Try.func78, K_r01_within⟩, fun h => by cases h⟩

abbrev F_slices_ContainsFunc_int_int : FuncId := 79
/-- slices.ContainsFunc[[]int,int]: parameters ['[]int', 'func(int) bool'], results ['bool'] -/
def C_slices_ContainsFunc_int_int : AC :=
  (.seq (.reg [⟨some 4, none, .mv (.c (.bool false))⟩] [0, 1])
  (.seq (.reg [⟨some 5, none, .mv (.t 0)⟩,
      ⟨some 6, none, .mv (.t 1)⟩,
      ⟨some 7, none, .call (.f 95) [true, false] [(.t 5), (.t 6)]⟩,
      ⟨some 8, none, .bin .geq (.t 7) (.c (.int .i64 0))⟩,
      ⟨some 4, none, .mv (.t 8)⟩] [4])
  .ret))
abbrev R_slices_ContainsFunc_int_int : List (Nat × Option (Option Nat)) := [(4, none)]
theorem K_slices_ContainsFunc_int_int : chkF Try.prog Try.f79 9 C_slices_ContainsFunc_int_int R_slices_ContainsFunc_int_int = true := by kernel_rfl
theorem spec_slices_ContainsFunc_int_int {args : List AVal} {σ : AHeap} {R : ARes → AHeap → Prop} (ha : args.length ≤ 9) (h : AW Try.prog 9 none C_slices_ContainsFunc_int_int (bodyQ R_slices_ContainsFunc_int_int R) { v := argEnv args 0, ds := [] } σ) : Spec Try.prog F_slices_ContainsFunc_int_int args σ R := Spec.of_fn Try.func79 K_slices_ContainsFunc_int_int ha h
theorem B_slices_ContainsFunc_int_int : hasBody Try.prog F_slices_ContainsFunc_int_int = true := by kernel_rfl
theorem E_slices_ContainsFunc_int_int : EntOk Try.prog ⟨79, 9, C_slices_ContainsFunc_int_int, R_slices_ContainsFunc_int_int, false⟩ := ⟨fun _ => ⟨B_slices_ContainsFunc_int_int, _, Try.func79, K_slices_ContainsFunc_int_int⟩, fun h => by cases h⟩

abbrev F_stand_beyond_1 : FuncId := 80
/-- orlop/stand.beyond$1: parameters ['int'], results ['bool'] -/
def C_stand_beyond_1 : AC :=
  (.seq (.reg [⟨some 4, none, .mv (.c (.bool false))⟩] [0, 1, 2])
  (.seq (.reg [⟨some 5, none, .mv (.t 0)⟩,
      ⟨some 6, none, .load none (.t 1)⟩,
      ⟨some 7, none, .bin .lss (.t 5) (.t 6)⟩,
      ⟨some 8, none, .mv (.t 7)⟩,
      ⟨some 9, (some (8, false)), .mv (.t 0)⟩,
      ⟨some 10, (some (8, false)), .load none (.t 2)⟩,
      ⟨some 11, (some (8, false)), .bin .gtr (.t 9) (.t 10)⟩,
      ⟨some 12, none, .pick (.t 8) (.c (.bool true)) (.t 11)⟩,
      ⟨some 4, none, .mv (.t 12)⟩] [4])
  .ret))
abbrev R_stand_beyond_1 : List (Nat × Option (Option Nat)) := [(4, none)]
theorem K_stand_beyond_1 : chkF Try.prog Try.f80 13 C_stand_beyond_1 R_stand_beyond_1 = true := by kernel_rfl
theorem spec_stand_beyond_1 {args : List AVal} {σ : AHeap} {R : ARes → AHeap → Prop} (ha : args.length ≤ 13) (h : AW Try.prog 13 none C_stand_beyond_1 (bodyQ R_stand_beyond_1 R) { v := argEnv args 0, ds := [] } σ) : Spec Try.prog F_stand_beyond_1 args σ R := Spec.of_fn Try.func80 K_stand_beyond_1 ha h
theorem B_stand_beyond_1 : hasBody Try.prog F_stand_beyond_1 = true := by kernel_rfl
theorem E_stand_beyond_1 : EntOk Try.prog ⟨80, 13, C_stand_beyond_1, R_stand_beyond_1, false⟩ := ⟨fun _ => ⟨B_stand_beyond_1, _, Try.func80, K_stand_beyond_1⟩, fun h => by cases h⟩

abbrev F_slices_IndexFunc_api_StPart_api_StPart : FuncId := 81
/-- slices.IndexFunc[[]orlop/api.StPart,orlop/api.StPart]: parameters ['[]api.StPart', 'func(api.StPart) bool'], results ['int'] -/
def C_slices_IndexFunc_api_StPart_api_StPart : AC :=
  (.seq (.reg [⟨some 4, none, .mv (.c (.int .i64 0))⟩] [0, 1])
  (.seq (.seq (.reg [⟨some 6, none, .mv (.t 0)⟩,
      ⟨some 7, none, .len (.t 6)⟩,
      ⟨some 8, none, .mv (.c (.int .i64 0))⟩] [0, 1, 7, 8])
  (.block 0
    (.loop [0, 1, 7, 8]
      (.seq (.reg [⟨some 9, none, .bin .lss (.t 8) (.t 7)⟩] [0, 1, 7, 8, 9])
      (.seq (.cond (.t 9)
        .skip
        (.exit 0))
      (.seq (.block 1
        (.seq (.reg [⟨some 10, none, .mv (.t 8)⟩,
            ⟨some 5, none, .mv (.t 10)⟩] [0, 1, 5, 7, 8])
        (.seq (.reg [⟨some 11, none, .mv (.t 1)⟩,
            ⟨some 12, none, .mv (.t 0)⟩,
            ⟨some 13, none, .mv (.t 5)⟩,
            ⟨some 14, none, .ixS 7 (.t 12) (.t 13)⟩,
            ⟨some 15, none, .load (some 7) (.t 14)⟩,
            ⟨some 16, none, .call (.t 11) [false] [(.t 15)]⟩] [0, 1, 5, 7, 8, 16])
        (.cond (.t 16)
          (.seq (.reg [⟨some 17, none, .mv (.t 5)⟩,
              ⟨some 4, none, .mv (.t 17)⟩] [4])
          .ret)
          .skip))))
      (.reg [⟨some 18, none, .bin .add (.t 8) (.c (.int .i64 1))⟩,
          ⟨some 8, none, .mv (.t 18)⟩] [0, 1, 7, 8])))))))
  (.seq (.reg [⟨some 4, none, .mv (.c (.int .i64 (-1)))⟩] [4])
  .ret)))
abbrev R_slices_IndexFunc_api_StPart_api_StPart : List (Nat × Option (Option Nat)) := [(4, none)]
theorem K_slices_IndexFunc_api_StPart_api_StPart : chkF Try.prog Try.f81 19 C_slices_IndexFunc_api_StPart_api_StPart R_slices_IndexFunc_api_StPart_api_StPart = true := by kernel_rfl
theorem spec_slices_IndexFunc_api_StPart_api_StPart {args : List AVal} {σ : AHeap} {R : ARes → AHeap → Prop} (ha : args.length ≤ 19) (h : AW Try.prog 19 none C_slices_IndexFunc_api_StPart_api_StPart (bodyQ R_slices_IndexFunc_api_StPart_api_StPart R) { v := argEnv args 0, ds := [] } σ) : Spec Try.prog F_slices_IndexFunc_api_StPart_api_StPart args σ R := Spec.of_fn Try.func81 K_slices_IndexFunc_api_StPart_api_StPart ha h
theorem B_slices_IndexFunc_api_StPart_api_StPart : hasBody Try.prog F_slices_IndexFunc_api_StPart_api_StPart = true := by kernel_rfl
theorem E_slices_IndexFunc_api_StPart_api_StPart : EntOk Try.prog ⟨81, 19, C_slices_IndexFunc_api_StPart_api_StPart, R_slices_IndexFunc_api_StPart_api_StPart, false⟩ := ⟨fun _ => ⟨B_slices_IndexFunc_api_StPart_api_StPart, _, Try.func81, K_slices_IndexFunc_api_StPart_api_StPart⟩, fun h => by cases h⟩

abbrev F_r01_Place : FuncId := 82
/-- orlop/orlopref01.Place: parameters ['[]string', 'string'], results ['int'] -/
def C_r01_Place : AC :=
  (.seq (.reg [⟨some 4, none, .mv (.c (.int .i64 0))⟩] [0, 1])
  (.seq (.seq (.reg [⟨some 5, none, .mv (.c (.int .i64 0))⟩] [0, 1, 5])
  (.block 0
    (.loop [0, 1, 5]
      (.seq (.seq (.reg [⟨some 6, none, .mv (.t 5)⟩,
          ⟨some 7, none, .mv (.t 0)⟩,
          ⟨some 8, none, .len (.t 7)⟩,
          ⟨some 9, none, .bin .lss (.t 6) (.t 8)⟩] [0, 1, 5, 9])
      (.cond (.t 9)
        .skip
        (.exit 0)))
      (.seq (.block 1
        (.seq (.reg [⟨some 12, none, .mv (.t 0)⟩,
            ⟨some 13, none, .mv (.t 5)⟩,
            ⟨some 14, none, .ixS 1 (.t 12) (.t 13)⟩,
            ⟨some 15, none, .load none (.t 14)⟩,
            ⟨some 16, none, .mv (.t 1)⟩,
            ⟨some 17, none, .bin .eql (.t 15) (.t 16)⟩] [0, 1, 5, 17])
        (.cond (.t 17)
          (.seq (.reg [⟨some 18, none, .mv (.t 5)⟩,
              ⟨some 4, none, .mv (.t 18)⟩] [4])
          .ret)
          .skip)))
      (.reg [⟨some 10, none, .mv (.t 5)⟩,
          ⟨some 11, none, .bin .add (.t 10) (.c (.int .i64 1))⟩,
          ⟨some 5, none, .mv (.t 11)⟩] [0, 1, 5]))))))
  (.seq (.reg [⟨some 4, none, .mv (.c (.int .i64 (-1)))⟩] [4])
  .ret)))
abbrev R_r01_Place : List (Nat × Option (Option Nat)) := [(4, none)]
theorem K_r01_Place : chkF Try.prog Try.f82 19 C_r01_Place R_r01_Place = true := by kernel_rfl
theorem spec_r01_Place {args : List AVal} {σ : AHeap} {R : ARes → AHeap → Prop} (ha : args.length ≤ 19) (h : AW Try.prog 19 none C_r01_Place (bodyQ R_r01_Place R) { v := argEnv args 0, ds := [] } σ) : Spec Try.prog F_r01_Place args σ R := Spec.of_fn Try.func82 K_r01_Place ha h
theorem B_r01_Place : hasBody Try.prog F_r01_Place = true := by kernel_rfl
theorem E_r01_Place : EntOk Try.prog ⟨82, 19, C_r01_Place, R_r01_Place, false⟩ := ⟨fun _ => ⟨B_r01_Place, _, Try.func82, K_r01_Place⟩, fun h => by cases h⟩

abbrev F_r01_Range : FuncId := 83
/-- orlop/orlopref01.Range: parameters ['api.Span', 'int', 'int'], results ['api.Errno'] -/
def C_r01_Range : AC :=
  (.seq (.reg [⟨some 3, none, .pbox 2 (.t 0)⟩,
      ⟨some 6, none, .mv (.c (.int .i64 0))⟩] [1, 2, 3])
  (.seq (.reg [⟨some 7, none, .load (some 2) (.t 3)⟩,
      ⟨some 8, none, .lit 0 2 1 [(0, (.t 7))]⟩,
      ⟨some 9, none, .mv (.t 1)⟩,
      ⟨some 10, none, .mv (.t 2)⟩,
      ⟨some 11, none, .call (.f 96) [true, false, false] [(.t 8), (.t 9), (.t 10)]⟩,
      ⟨some 6, none, .mv (.t 11)⟩] [6])
  .ret))
abbrev R_r01_Range : List (Nat × Option (Option Nat)) := [(6, none)]
theorem K_r01_Range : chkF Try.prog Try.f83 12 C_r01_Range R_r01_Range = true := by kernel_rfl
theorem spec_r01_Range {args : List AVal} {σ : AHeap} {R : ARes → AHeap → Prop} (ha : args.length ≤ 12) (h : AW Try.prog 12 none C_r01_Range (bodyQ R_r01_Range R) { v := argEnv args 0, ds := [] } σ) : Spec Try.prog F_r01_Range args σ R := Spec.of_fn Try.func83 K_r01_Range ha h
theorem B_r01_Range : hasBody Try.prog F_r01_Range = true := by kernel_rfl
theorem E_r01_Range : EntOk Try.prog ⟨83, 12, C_r01_Range, R_r01_Range, false⟩ := ⟨fun _ => ⟨B_r01_Range, _, Try.func83, K_r01_Range⟩, fun h => by cases h⟩

abbrev F_stand_strange_api_StPart : FuncId := 84
/-- orlop/stand.strange[orlop/api.StPart]: parameters ['[]api.StPart', '[]int', 'func(api.StPart) api.Span'], results ['bool'] -/
def C_stand_strange_api_StPart : AC :=
  (.seq (.reg [⟨some 6, none, .mv (.c (.bool false))⟩] [0, 1, 2])
  (.seq (.seq (.reg [⟨some 10, none, .mv (.t 0)⟩,
      ⟨some 11, none, .len (.t 10)⟩,
      ⟨some 12, none, .mv (.c (.int .i64 0))⟩] [1, 2, 10, 11, 12])
  (.block 0
    (.loop [1, 2, 10, 11, 12]
      (.seq (.reg [⟨some 13, none, .bin .lss (.t 12) (.t 11)⟩] [1, 2, 10, 11, 12, 13])
      (.seq (.cond (.t 13)
        .skip
        (.exit 0))
      (.seq (.block 1
        (.seq (.reg [⟨some 14, none, .mv (.t 12)⟩,
            ⟨some 15, none, .ixS 7 (.t 10) (.t 12)⟩,
            ⟨some 16, none, .load (some 7) (.t 15)⟩,
            ⟨some 8, none, .alloc [.str ByteArray.empty, .int .i64 0, .int .i64 0, .int .i64 0, .int .i64 0, .int .i64 0, .int .i64 0]⟩,
            ⟨some 7, none, .mv (.t 14)⟩,
            ⟨none, none, .store 7 (.t 8) (.t 16)⟩] [1, 2, 7, 8, 10, 11, 12])
        (.frz 8 true (.seq (.reg [⟨some 17, none, .mv (.t 2)⟩,
            ⟨some 18, none, .load (some 7) (.t 8)⟩,
            ⟨some 19, none, .call (.t 17) [false] [(.t 18)]⟩,
            ⟨some 9, none, .alloc [.int .i64 0, .int .i64 0]⟩,
            ⟨none, none, .store 2 (.t 9) (.t 19)⟩] [1, 2, 7, 9, 10, 11, 12])
        (.frz 9 true (.seq (.dreg [⟨some 20, none, .fieldAddr none 0 (.t 9)⟩,
            ⟨some 21, none, .load none (.t 20)⟩,
            ⟨some 22, none, .fieldAddr none 1 (.t 9)⟩,
            ⟨some 23, none, .load none (.t 22)⟩,
            ⟨some 24, none, .mv (.t 1)⟩,
            ⟨some 25, none, .mv (.t 7)⟩,
            ⟨some 26, none, .ixS 1 (.t 24) (.t 25)⟩,
            ⟨some 27, none, .load none (.t 26)⟩,
            ⟨some 28, none, .lit 0 1 1 [(0, (.t 27))]⟩,
            ⟨some 29, none, .call (.f 51) [false, false, true] [(.t 21), (.t 23), (.t 28)]⟩] [1, 2, 10, 11, 12, 29] [[], [0], [], [2], [], [], [4, 5], [4, 5, 6], [4, 5, 6, 7], [0, 1, 2, 3, 4, 5, 6, 7, 8]])
        (.cond (.t 29)
          (.seq (.reg [⟨some 6, none, .mv (.c (.bool true))⟩] [6])
          .ret)
          .skip)))))))
      (.reg [⟨some 30, none, .bin .add (.t 12) (.c (.int .i64 1))⟩,
          ⟨some 12, none, .mv (.t 30)⟩] [1, 2, 10, 11, 12])))))))
  (.seq (.reg [⟨some 6, none, .mv (.c (.bool false))⟩] [6])
  .ret)))
abbrev R_stand_strange_api_StPart : List (Nat × Option (Option Nat)) := [(6, none)]
theorem K_stand_strange_api_StPart : chkF Try.prog Try.f84 31 C_stand_strange_api_StPart R_stand_strange_api_StPart = true := by kernel_rfl
theorem spec_stand_strange_api_StPart {args : List AVal} {σ : AHeap} {R : ARes → AHeap → Prop} (ha : args.length ≤ 31) (h : AW Try.prog 31 none C_stand_strange_api_StPart (bodyQ R_stand_strange_api_StPart R) { v := argEnv args 0, ds := [] } σ) : Spec Try.prog F_stand_strange_api_StPart args σ R := Spec.of_fn Try.func84 K_stand_strange_api_StPart ha h
theorem B_stand_strange_api_StPart : hasBody Try.prog F_stand_strange_api_StPart = true := by kernel_rfl
theorem E_stand_strange_api_StPart : EntOk Try.prog ⟨84, 31, C_stand_strange_api_StPart, R_stand_strange_api_StPart, false⟩ := ⟨fun _ => ⟨B_stand_strange_api_StPart, _, Try.func84, K_stand_strange_api_StPart⟩, fun h => by cases h⟩

abbrev F_stand_open_1 : FuncId := 85
/-- orlop/stand.open$1: parameters ['api.StPart'], results ['api.Span'] -/
def C_stand_open_1 : AC :=
  (.seq (.reg [⟨some 1, none, .pbox 7 (.t 0)⟩,
      ⟨some 2, none, .alloc [.int .i64 0, .int .i64 0]⟩] [1, 2])
  (.seq (.reg [⟨some 3, none, .fieldAddr (some 2) 2 (.t 1)⟩,
      ⟨some 4, none, .load (some 2) (.t 3)⟩,
      ⟨none, none, .store 2 (.t 2) (.t 4)⟩] [2])
  .ret))
abbrev R_stand_open_1 : List (Nat × Option (Option Nat)) := [(2, some (some 2))]
theorem K_stand_open_1 : chkF Try.prog Try.f85 5 C_stand_open_1 R_stand_open_1 = true := by kernel_rfl
theorem spec_stand_open_1 {args : List AVal} {σ : AHeap} {R : ARes → AHeap → Prop} (ha : args.length ≤ 5) (h : AW Try.prog 5 none C_stand_open_1 (bodyQ R_stand_open_1 R) { v := argEnv args 0, ds := [] } σ) : Spec Try.prog F_stand_open_1 args σ R := Spec.of_fn Try.func85 K_stand_open_1 ha h
theorem B_stand_open_1 : hasBody Try.prog F_stand_open_1 = true := by kernel_rfl
theorem E_stand_open_1 : EntOk Try.prog ⟨85, 5, C_stand_open_1, R_stand_open_1, false⟩ := ⟨fun _ => ⟨B_stand_open_1, _, Try.func85, K_stand_open_1⟩, fun h => by cases h⟩

abbrev F_stand_open_2 : FuncId := 86
/-- orlop/stand.open$2: parameters ['api.StPart'], results ['api.Span'] -/
def C_stand_open_2 : AC :=
  (.seq (.reg [⟨some 1, none, .pbox 7 (.t 0)⟩,
      ⟨some 2, none, .alloc [.int .i64 0, .int .i64 0]⟩] [1, 2])
  (.seq (.reg [⟨some 3, none, .fieldAddr (some 2) 5 (.t 1)⟩,
      ⟨some 4, none, .load (some 2) (.t 3)⟩,
      ⟨none, none, .store 2 (.t 2) (.t 4)⟩] [2])
  .ret))
abbrev R_stand_open_2 : List (Nat × Option (Option Nat)) := [(2, some (some 2))]
theorem K_stand_open_2 : chkF Try.prog Try.f86 5 C_stand_open_2 R_stand_open_2 = true := by kernel_rfl
theorem spec_stand_open_2 {args : List AVal} {σ : AHeap} {R : ARes → AHeap → Prop} (ha : args.length ≤ 5) (h : AW Try.prog 5 none C_stand_open_2 (bodyQ R_stand_open_2 R) { v := argEnv args 0, ds := [] } σ) : Spec Try.prog F_stand_open_2 args σ R := Spec.of_fn Try.func86 K_stand_open_2 ha h
theorem B_stand_open_2 : hasBody Try.prog F_stand_open_2 = true := by kernel_rfl
theorem E_stand_open_2 : EntOk Try.prog ⟨86, 5, C_stand_open_2, R_stand_open_2, false⟩ := ⟨fun _ => ⟨B_stand_open_2, _, Try.func86, K_stand_open_2⟩, fun h => by cases h⟩

abbrev F_stand_body_levers_1 : FuncId := 87
/-- (orlop/stand.body).levers$1: parameters ['api.StPart'], results ['int'] -/
def C_stand_body_levers_1 : AC :=
  (.seq (.reg [⟨some 1, none, .pbox 7 (.t 0)⟩,
      ⟨some 2, none, .mv (.c (.int .i64 0))⟩] [])
  (.seq (.reg [⟨some 2, none, .mv (.c (.int .i64 1))⟩] [2])
  .ret))
abbrev R_stand_body_levers_1 : List (Nat × Option (Option Nat)) := [(2, none)]
theorem K_stand_body_levers_1 : chkF Try.prog Try.f87 3 C_stand_body_levers_1 R_stand_body_levers_1 = true := by kernel_rfl
theorem spec_stand_body_levers_1 {args : List AVal} {σ : AHeap} {R : ARes → AHeap → Prop} (ha : args.length ≤ 3) (h : AW Try.prog 3 none C_stand_body_levers_1 (bodyQ R_stand_body_levers_1 R) { v := argEnv args 0, ds := [] } σ) : Spec Try.prog F_stand_body_levers_1 args σ R := Spec.of_fn Try.func87 K_stand_body_levers_1 ha h
theorem B_stand_body_levers_1 : hasBody Try.prog F_stand_body_levers_1 = true := by kernel_rfl
theorem E_stand_body_levers_1 : EntOk Try.prog ⟨87, 3, C_stand_body_levers_1, R_stand_body_levers_1, false⟩ := ⟨fun _ => ⟨B_stand_body_levers_1, _, Try.func87, K_stand_body_levers_1⟩, fun h => by cases h⟩

abbrev F_stand_body_levers_2 : FuncId := 88
/-- (orlop/stand.body).levers$2: parameters ['api.StPart'], results ['int'] -/
def C_stand_body_levers_2 : AC :=
  (.seq (.reg [⟨some 2, none, .pbox 7 (.t 0)⟩,
      ⟨some 3, none, .mv (.c (.int .i64 0))⟩] [1, 2])
  (.seq (.reg [⟨some 4, none, .fieldAddr none 1 (.t 2)⟩,
      ⟨some 5, none, .load none (.t 4)⟩,
      ⟨some 6, none, .fieldAddr (some 3) 0 (.t 1)⟩,
      ⟨some 7, none, .fieldAddr none 1 (.t 6)⟩,
      ⟨some 8, none, .load none (.t 7)⟩,
      ⟨some 9, none, .bin .sub (.t 5) (.t 8)⟩,
      ⟨some 3, none, .mv (.t 9)⟩] [3])
  .ret))
abbrev R_stand_body_levers_2 : List (Nat × Option (Option Nat)) := [(3, none)]
theorem K_stand_body_levers_2 : chkF Try.prog Try.f88 10 C_stand_body_levers_2 R_stand_body_levers_2 = true := by kernel_rfl
theorem spec_stand_body_levers_2 {args : List AVal} {σ : AHeap} {R : ARes → AHeap → Prop} (ha : args.length ≤ 10) (h : AW Try.prog 10 none C_stand_body_levers_2 (bodyQ R_stand_body_levers_2 R) { v := argEnv args 0, ds := [] } σ) : Spec Try.prog F_stand_body_levers_2 args σ R := Spec.of_fn Try.func88 K_stand_body_levers_2 ha h
theorem B_stand_body_levers_2 : hasBody Try.prog F_stand_body_levers_2 = true := by kernel_rfl
theorem E_stand_body_levers_2 : EntOk Try.prog ⟨88, 10, C_stand_body_levers_2, R_stand_body_levers_2, false⟩ := ⟨fun _ => ⟨B_stand_body_levers_2, _, Try.func88, K_stand_body_levers_2⟩, fun h => by cases h⟩

abbrev F_stand_body_levers_3 : FuncId := 89
/-- (orlop/stand.body).levers$3: parameters ['api.StPart'], results ['int'] -/
def C_stand_body_levers_3 : AC :=
  (.seq (.reg [⟨some 2, none, .pbox 7 (.t 0)⟩,
      ⟨some 3, none, .mv (.c (.int .i64 0))⟩] [1, 2])
  (.seq (.reg [⟨some 4, none, .fieldAddr (some 3) 0 (.t 1)⟩,
      ⟨some 5, none, .fieldAddr none 2 (.t 4)⟩,
      ⟨some 6, none, .load none (.t 5)⟩,
      ⟨some 7, none, .fieldAddr none 1 (.t 2)⟩,
      ⟨some 8, none, .load none (.t 7)⟩,
      ⟨some 9, none, .bin .sub (.t 6) (.t 8)⟩,
      ⟨some 3, none, .mv (.t 9)⟩] [3])
  .ret))
abbrev R_stand_body_levers_3 : List (Nat × Option (Option Nat)) := [(3, none)]
theorem K_stand_body_levers_3 : chkF Try.prog Try.f89 10 C_stand_body_levers_3 R_stand_body_levers_3 = true := by kernel_rfl
theorem spec_stand_body_levers_3 {args : List AVal} {σ : AHeap} {R : ARes → AHeap → Prop} (ha : args.length ≤ 10) (h : AW Try.prog 10 none C_stand_body_levers_3 (bodyQ R_stand_body_levers_3 R) { v := argEnv args 0, ds := [] } σ) : Spec Try.prog F_stand_body_levers_3 args σ R := Spec.of_fn Try.func89 K_stand_body_levers_3 ha h
theorem B_stand_body_levers_3 : hasBody Try.prog F_stand_body_levers_3 = true := by kernel_rfl
theorem E_stand_body_levers_3 : EntOk Try.prog ⟨89, 10, C_stand_body_levers_3, R_stand_body_levers_3, false⟩ := ⟨fun _ => ⟨B_stand_body_levers_3, _, Try.func89, K_stand_body_levers_3⟩, fun h => by cases h⟩

abbrev F_stand_load_light : FuncId := 90
/-- (orlop/stand.load).light: parameters ['stand.load'], results ['int'] -/
def C_stand_load_light : AC :=
  (.seq (.reg [⟨some 1, none, .pbox 8 (.t 0)⟩,
      ⟨some 2, none, .mv (.c (.int .i64 0))⟩] [1])
  (.seq (.reg [⟨some 3, none, .fieldAddr (some 7) 0 (.t 1)⟩,
      ⟨some 4, none, .fieldAddr (some 2) 2 (.t 3)⟩,
      ⟨some 5, none, .fieldAddr none 0 (.t 4)⟩,
      ⟨some 6, none, .load none (.t 5)⟩,
      ⟨some 7, none, .fieldAddr (some 7) 0 (.t 1)⟩,
      ⟨some 8, none, .fieldAddr (some 2) 5 (.t 7)⟩,
      ⟨some 9, none, .fieldAddr none 1 (.t 8)⟩,
      ⟨some 10, none, .load none (.t 9)⟩,
      ⟨some 11, none, .fieldAddr none 7 (.t 1)⟩,
      ⟨some 12, none, .load none (.t 11)⟩,
      ⟨some 13, none, .bin .mul (.t 10) (.t 12)⟩,
      ⟨some 14, none, .bin .sub (.t 6) (.t 13)⟩,
      ⟨some 2, none, .mv (.t 14)⟩] [2])
  .ret))
abbrev R_stand_load_light : List (Nat × Option (Option Nat)) := [(2, none)]
theorem K_stand_load_light : chkF Try.prog Try.f90 15 C_stand_load_light R_stand_load_light = true := by kernel_rfl
theorem spec_stand_load_light {args : List AVal} {σ : AHeap} {R : ARes → AHeap → Prop} (ha : args.length ≤ 15) (h : AW Try.prog 15 none C_stand_load_light (bodyQ R_stand_load_light R) { v := argEnv args 0, ds := [] } σ) : Spec Try.prog F_stand_load_light args σ R := Spec.of_fn Try.func90 K_stand_load_light ha h
theorem B_stand_load_light : hasBody Try.prog F_stand_load_light = true := by kernel_rfl
theorem E_stand_load_light : EntOk Try.prog ⟨90, 15, C_stand_load_light, R_stand_load_light, false⟩ := ⟨fun _ => ⟨B_stand_load_light, _, Try.func90, K_stand_load_light⟩, fun h => by cases h⟩

abbrev F_stand_load_heavy : FuncId := 91
/-- (orlop/stand.load).heavy: parameters ['stand.load'], results ['int'] -/
def C_stand_load_heavy : AC :=
  (.seq (.reg [⟨some 1, none, .pbox 8 (.t 0)⟩,
      ⟨some 2, none, .mv (.c (.int .i64 0))⟩] [1])
  (.seq (.reg [⟨some 3, none, .fieldAddr (some 7) 0 (.t 1)⟩,
      ⟨some 4, none, .fieldAddr (some 2) 2 (.t 3)⟩,
      ⟨some 5, none, .fieldAddr none 1 (.t 4)⟩,
      ⟨some 6, none, .load none (.t 5)⟩,
      ⟨some 7, none, .fieldAddr (some 7) 0 (.t 1)⟩,
      ⟨some 8, none, .fieldAddr (some 2) 5 (.t 7)⟩,
      ⟨some 9, none, .fieldAddr none 0 (.t 8)⟩,
      ⟨some 10, none, .load none (.t 9)⟩,
      ⟨some 11, none, .fieldAddr none 7 (.t 1)⟩,
      ⟨some 12, none, .load none (.t 11)⟩,
      ⟨some 13, none, .bin .mul (.t 10) (.t 12)⟩,
      ⟨some 14, none, .bin .sub (.t 6) (.t 13)⟩,
      ⟨some 2, none, .mv (.t 14)⟩] [2])
  .ret))
abbrev R_stand_load_heavy : List (Nat × Option (Option Nat)) := [(2, none)]
theorem K_stand_load_heavy : chkF Try.prog Try.f91 15 C_stand_load_heavy R_stand_load_heavy = true := by kernel_rfl
theorem spec_stand_load_heavy {args : List AVal} {σ : AHeap} {R : ARes → AHeap → Prop} (ha : args.length ≤ 15) (h : AW Try.prog 15 none C_stand_load_heavy (bodyQ R_stand_load_heavy R) { v := argEnv args 0, ds := [] } σ) : Spec Try.prog F_stand_load_heavy args σ R := Spec.of_fn Try.func91 K_stand_load_heavy ha h
theorem B_stand_load_heavy : hasBody Try.prog F_stand_load_heavy = true := by kernel_rfl
theorem E_stand_load_heavy : EntOk Try.prog ⟨91, 15, C_stand_load_heavy, R_stand_load_heavy, false⟩ := ⟨fun _ => ⟨B_stand_load_heavy, _, Try.func91, K_stand_load_heavy⟩, fun h => by cases h⟩

abbrev F_stand_body_bends_1 : FuncId := 92
/-- (orlop/stand.body).bends$1: parameters ['func(api.Span) bool'], results [] -/
def C_stand_body_bends_1 : AC :=
  (.seq (.reg [⟨some 10, none, .fieldAddr none 1 (.t 1)⟩,
      ⟨some 11, none, .load none (.t 10)⟩,
      ⟨some 12, none, .lit 2 1 1 [(0, (.t 11))]⟩,
      ⟨some 4, none, .mv (.t 12)⟩] [0, 1, 2, 4])
  (.seq (.seq (.reg [⟨some 13, none, .fieldAddr (some 3) 0 (.t 2)⟩,
      ⟨some 14, none, .fieldAddr none 0 (.t 13)⟩,
      ⟨some 15, none, .load none (.t 14)⟩,
      ⟨some 16, none, .len (.t 15)⟩,
      ⟨some 17, none, .mv (.c (.int .i64 0))⟩] [0, 1, 4, 15, 16, 17])
  (.block 0
    (.loop [0, 1, 4, 15, 16, 17]
      (.seq (.reg [⟨some 18, none, .bin .lss (.t 17) (.t 16)⟩] [0, 1, 4, 15, 16, 17, 18])
      (.seq (.cond (.t 18)
        .skip
        (.exit 0))
      (.seq (.block 1
        (.seq (.reg [⟨some 19, none, .ixS 7 (.t 15) (.t 17)⟩,
            ⟨some 20, none, .load (some 7) (.t 19)⟩,
            ⟨some 6, none, .alloc [.str ByteArray.empty, .int .i64 0, .int .i64 0, .int .i64 0, .int .i64 0, .int .i64 0, .int .i64 0]⟩,
            ⟨none, none, .store 7 (.t 6) (.t 20)⟩] [0, 1, 4, 6, 15, 16, 17])
        (.frz 6 true (.seq (.reg [⟨some 21, none, .fieldAddr none 0 (.t 1)⟩,
            ⟨some 22, none, .load none (.t 21)⟩,
            ⟨some 23, none, .fieldAddr none 4 (.t 6)⟩,
            ⟨some 24, none, .load none (.t 23)⟩,
            ⟨some 25, none, .bin .lss (.t 22) (.t 24)⟩,
            ⟨some 26, none, .mv (.t 25)⟩,
            ⟨some 27, (some (26, true)), .fieldAddr none 4 (.t 6)⟩,
            ⟨some 28, (some (26, true)), .load none (.t 27)⟩,
            ⟨some 29, (some (26, true)), .fieldAddr none 1 (.t 1)⟩,
            ⟨some 30, (some (26, true)), .load none (.t 29)⟩,
            ⟨some 31, (some (26, true)), .bin .lss (.t 28) (.t 30)⟩,
            ⟨some 32, none, .pick (.t 26) (.t 31) (.c (.bool false))⟩] [0, 1, 4, 6, 15, 16, 17, 32])
        (.cond (.t 32)
          (.reg [⟨some 33, none, .mv (.t 4)⟩,
              ⟨some 34, none, .fieldAddr none 4 (.t 6)⟩,
              ⟨some 35, none, .load none (.t 34)⟩,
              ⟨some 36, none, .lit 0 1 1 [(0, (.t 35))]⟩,
              ⟨some 37, none, .append 1 8 (.t 33) (.t 36)⟩,
              ⟨some 4, none, .mv (.t 37)⟩] [0, 1, 4, 15, 16, 17])
          .skip)))))
      (.reg [⟨some 38, none, .bin .add (.t 17) (.c (.int .i64 1))⟩,
          ⟨some 17, none, .mv (.t 38)⟩] [0, 1, 4, 15, 16, 17])))))))
  (.seq (.reg [⟨some 39, none, .mv (.t 4)⟩,
      ⟨some 40, none, .call (.f 93) [true] [(.t 39)]⟩] [0, 1, 4])
  (.seq (.reg [⟨some 41, none, .fieldAddr none 0 (.t 1)⟩,
      ⟨some 42, none, .load none (.t 41)⟩,
      ⟨some 7, none, .mv (.t 42)⟩] [0, 4, 7])
  (.seq (.reg [⟨some 43, none, .mv (.t 4)⟩,
      ⟨some 44, none, .call (.f 94) [true] [(.t 43)]⟩,
      ⟨some 45, none, .len (.t 44)⟩,
      ⟨some 46, none, .mv (.c (.int .i64 0))⟩] [0, 7, 44, 45, 46])
  (.block 2
    (.loop [0, 7, 44, 45, 46]
      (.seq (.reg [⟨some 47, none, .bin .lss (.t 46) (.t 45)⟩] [0, 7, 44, 45, 46, 47])
      (.seq (.cond (.t 47)
        .skip
        (.exit 2))
      (.seq (.block 3
        (.seq (.reg [⟨some 48, none, .ixS 1 (.t 44) (.t 46)⟩,
            ⟨some 49, none, .load none (.t 48)⟩,
            ⟨some 9, none, .mv (.t 49)⟩] [0, 7, 9, 44, 45, 46])
        (.seq (.seq (.reg [⟨some 50, none, .mv (.t 0)⟩,
            ⟨some 51, none, .mv (.t 7)⟩,
            ⟨some 52, none, .mv (.t 9)⟩,
            ⟨some 53, none, .build [.int .i64 0, .int .i64 0] [(0, 1, (.t 51)), (1, 1, (.t 52))]⟩,
            ⟨some 54, none, .call (.t 50) [false] [(.t 53)]⟩,
            ⟨some 55, none, .un .not (.t 54)⟩] [0, 9, 44, 45, 46, 55])
        (.cond (.t 55)
          .ret
          .skip))
        (.reg [⟨some 56, none, .mv (.t 9)⟩,
            ⟨some 7, none, .mv (.t 56)⟩] [0, 7, 44, 45, 46]))))
      (.reg [⟨some 57, none, .bin .add (.t 46) (.c (.int .i64 1))⟩,
          ⟨some 46, none, .mv (.t 57)⟩] [0, 7, 44, 45, 46])))))))))))
abbrev R_stand_body_bends_1 : List (Nat × Option (Option Nat)) := []
theorem K_stand_body_bends_1 : chkF Try.prog Try.f92 58 C_stand_body_bends_1 R_stand_body_bends_1 = true := by kernel_rfl
theorem spec_stand_body_bends_1 {args : List AVal} {σ : AHeap} {R : ARes → AHeap → Prop} (ha : args.length ≤ 58) (h : AW Try.prog 58 none C_stand_body_bends_1 (bodyQ R_stand_body_bends_1 R) { v := argEnv args 0, ds := [] } σ) : Spec Try.prog F_stand_body_bends_1 args σ R := Spec.of_fn Try.func92 K_stand_body_bends_1 ha h
theorem B_stand_body_bends_1 : hasBody Try.prog F_stand_body_bends_1 = true := by kernel_rfl
theorem E_stand_body_bends_1 : EntOk Try.prog ⟨92, 58, C_stand_body_bends_1, R_stand_body_bends_1, false⟩ := ⟨fun _ => ⟨B_stand_body_bends_1, _, Try.func92, K_stand_body_bends_1⟩, fun h => by cases h⟩

abbrev F_slices_Sort_int_int : FuncId := 93
/-- slices.Sort[[]int,int]: parameters ['[]int'], results [] -/
def C_slices_Sort_int_int : AC :=
  (.seq (.reg [⟨some 3, none, .mv (.t 0)⟩,
      ⟨some 4, none, .len (.t 3)⟩,
      ⟨some 2, none, .mv (.t 4)⟩] [0, 2])
  (.reg [⟨some 5, none, .mv (.t 0)⟩,
      ⟨some 6, none, .mv (.t 2)⟩,
      ⟨some 7, none, .mv (.t 2)⟩,
      ⟨some 8, none, .conv .u64 (.t 7)⟩,
      ⟨some 9, none, .call (.f 98) [false] [(.t 8)]⟩,
      ⟨some 10, none, .call (.f 97) [true, false, false, false] [(.t 5), (.c (.int .i64 0)), (.t 6), (.t 9)]⟩] []))
abbrev R_slices_Sort_int_int : List (Nat × Option (Option Nat)) := []
theorem K_slices_Sort_int_int : chkF Try.prog Try.f93 11 C_slices_Sort_int_int R_slices_Sort_int_int = true := by kernel_rfl
theorem spec_slices_Sort_int_int {args : List AVal} {σ : AHeap} {R : ARes → AHeap → Prop} (ha : args.length ≤ 11) (h : AW Try.prog 11 none C_slices_Sort_int_int (bodyQ R_slices_Sort_int_int R) { v := argEnv args 0, ds := [] } σ) : Spec Try.prog F_slices_Sort_int_int args σ R := Spec.of_fn Try.func93 K_slices_Sort_int_int ha h
theorem B_slices_Sort_int_int : hasBody Try.prog F_slices_Sort_int_int = true := by kernel_rfl
theorem E_slices_Sort_int_int : EntOk Try.prog ⟨93, 11, C_slices_Sort_int_int, R_slices_Sort_int_int, false⟩ := ⟨fun _ => ⟨B_slices_Sort_int_int, _, Try.func93, K_slices_Sort_int_int⟩, fun h => by cases h⟩

abbrev F_slices_Compact_int_int : FuncId := 94
/-- slices.Compact[[]int,int]: parameters ['[]int'], results ['[]int'] -/
def C_slices_Compact_int_int : AC :=
  (.seq (.reg [⟨some 2, none, .mv (.c (.slice 1 []))⟩] [0])
  (.seq (.seq (.reg [⟨some 6, none, .mv (.t 0)⟩,
      ⟨some 7, none, .len (.t 6)⟩,
      ⟨some 8, none, .bin .lss (.t 7) (.c (.int .i64 2))⟩] [0, 8])
  (.cond (.t 8)
    (.seq (.reg [⟨some 9, none, .mv (.t 0)⟩,
        ⟨some 2, none, .mvd (.t 9)⟩] [2])
    .ret)
    .skip))
  (.seq (.seq (.reg [⟨some 3, none, .mv (.c (.int .i64 1))⟩] [0, 3])
  (.block 0
    (.loop [0, 3]
      (.seq (.seq (.reg [⟨some 10, none, .mv (.t 3)⟩,
          ⟨some 11, none, .mv (.t 0)⟩,
          ⟨some 12, none, .len (.t 11)⟩,
          ⟨some 13, none, .bin .lss (.t 10) (.t 12)⟩] [0, 3, 13])
      (.cond (.t 13)
        .skip
        (.exit 0)))
      (.seq (.block 1
        (.seq (.dreg [⟨some 16, none, .mv (.t 0)⟩,
            ⟨some 17, none, .mv (.t 3)⟩,
            ⟨some 18, none, .ixS 1 (.t 16) (.t 17)⟩,
            ⟨some 19, none, .load none (.t 18)⟩,
            ⟨some 20, none, .mv (.t 0)⟩,
            ⟨some 21, none, .mv (.t 3)⟩,
            ⟨some 22, none, .bin .sub (.t 21) (.c (.int .i64 1))⟩,
            ⟨some 23, none, .ixS 1 (.t 20) (.t 22)⟩,
            ⟨some 24, none, .load none (.t 23)⟩,
            ⟨some 25, none, .bin .eql (.t 19) (.t 24)⟩] [0, 3, 25] [[], [], [0, 1], [0, 1, 2], [], [], [5], [4, 5, 6], [4, 5, 6, 7], [0, 1, 2, 3, 4, 5, 6, 7, 8]])
        (.cond (.t 25)
          (.seq (.reg [⟨some 26, none, .mv (.t 0)⟩,
              ⟨some 27, none, .mv (.t 3)⟩,
              ⟨some 28, none, .sub 0 1 (.t 26) (some (.t 27)) none none⟩,
              ⟨some 4, none, .mv (.t 28)⟩] [0, 3, 4])
          (.seq (.seq (.reg [⟨some 5, none, .mv (.c (.int .i64 1))⟩] [0, 3, 4, 5])
          (.block 2
            (.loop [0, 3, 4, 5]
              (.seq (.seq (.reg [⟨some 29, none, .mv (.t 5)⟩,
                  ⟨some 30, none, .mv (.t 4)⟩,
                  ⟨some 31, none, .len (.t 30)⟩,
                  ⟨some 32, none, .bin .lss (.t 29) (.t 31)⟩] [0, 3, 4, 5, 32])
              (.cond (.t 32)
                .skip
                (.exit 2)))
              (.seq (.block 3
                (.seq (.dreg [⟨some 35, none, .mv (.t 4)⟩,
                    ⟨some 36, none, .mv (.t 5)⟩,
                    ⟨some 37, none, .ixS 1 (.t 35) (.t 36)⟩,
                    ⟨some 38, none, .load none (.t 37)⟩,
                    ⟨some 39, none, .mv (.t 4)⟩,
                    ⟨some 40, none, .mv (.t 5)⟩,
                    ⟨some 41, none, .bin .sub (.t 40) (.c (.int .i64 1))⟩,
                    ⟨some 42, none, .ixS 1 (.t 39) (.t 41)⟩,
                    ⟨some 43, none, .load none (.t 42)⟩,
                    ⟨some 44, none, .bin .neq (.t 38) (.t 43)⟩] [0, 3, 4, 5, 44] [[], [], [0, 1], [0, 1, 2], [], [], [5], [4, 5, 6], [4, 5, 6, 7], [0, 1, 2, 3, 4, 5, 6, 7, 8]])
                (.cond (.t 44)
                  (.seq (.reg [⟨some 45, none, .mv (.t 0)⟩,
                      ⟨some 46, none, .mv (.t 3)⟩,
                      ⟨some 47, none, .mv (.t 4)⟩,
                      ⟨some 48, none, .mv (.t 5)⟩,
                      ⟨some 49, none, .ixS 1 (.t 47) (.t 48)⟩,
                      ⟨some 50, none, .load none (.t 49)⟩,
                      ⟨some 51, none, .ixS 1 (.t 45) (.t 46)⟩,
                      ⟨none, none, .store 1 (.t 51) (.t 50)⟩] [0, 3, 4, 5])
                  (.reg [⟨some 52, none, .mv (.t 3)⟩,
                      ⟨some 53, none, .bin .add (.t 52) (.c (.int .i64 1))⟩,
                      ⟨some 3, none, .mv (.t 53)⟩] [0, 3, 4, 5]))
                  .skip)))
              (.reg [⟨some 33, none, .mv (.t 5)⟩,
                  ⟨some 34, none, .bin .add (.t 33) (.c (.int .i64 1))⟩,
                  ⟨some 5, none, .mv (.t 34)⟩] [0, 3, 4, 5]))))))
          (.seq (.reg [⟨some 54, none, .mv (.t 0)⟩,
              ⟨some 55, none, .mv (.t 3)⟩,
              ⟨some 56, none, .sub 0 1 (.t 54) (some (.t 55)) none none⟩,
              ⟨none, none, .clear 1 (.int .i64 0) (.t 56)⟩] [0, 3])
          (.seq (.reg [⟨some 57, none, .mv (.t 0)⟩,
              ⟨some 58, none, .mv (.t 3)⟩,
              ⟨some 59, none, .sub 0 1 (.t 57) none (some (.t 58)) none⟩,
              ⟨some 2, none, .mvd (.t 59)⟩] [2])
          .ret))))
          .skip)))
      (.reg [⟨some 14, none, .mv (.t 3)⟩,
          ⟨some 15, none, .bin .add (.t 14) (.c (.int .i64 1))⟩,
          ⟨some 3, none, .mv (.t 15)⟩] [0, 3]))))))
  (.seq (.reg [⟨some 60, none, .mv (.t 0)⟩,
      ⟨some 2, none, .mvd (.t 60)⟩] [2])
  .ret))))
abbrev R_slices_Compact_int_int : List (Nat × Option (Option Nat)) := [(2, none)]
theorem K_slices_Compact_int_int : chkF Try.prog Try.f94 61 C_slices_Compact_int_int R_slices_Compact_int_int = true := by kernel_rfl
theorem spec_slices_Compact_int_int {args : List AVal} {σ : AHeap} {R : ARes → AHeap → Prop} (ha : args.length ≤ 61) (h : AW Try.prog 61 none C_slices_Compact_int_int (bodyQ R_slices_Compact_int_int R) { v := argEnv args 0, ds := [] } σ) : Spec Try.prog F_slices_Compact_int_int args σ R := Spec.of_fn Try.func94 K_slices_Compact_int_int ha h
theorem B_slices_Compact_int_int : hasBody Try.prog F_slices_Compact_int_int = true := by kernel_rfl
theorem E_slices_Compact_int_int : EntOk Try.prog ⟨94, 61, C_slices_Compact_int_int, R_slices_Compact_int_int, false⟩ := ⟨fun _ => ⟨B_slices_Compact_int_int, _, Try.func94, K_slices_Compact_int_int⟩, fun h => by cases h⟩

abbrev F_slices_IndexFunc_int_int : FuncId := 95
/-- slices.IndexFunc[[]int,int]: parameters ['[]int', 'func(int) bool'], results ['int'] -/
def C_slices_IndexFunc_int_int : AC :=
  (.seq (.reg [⟨some 4, none, .mv (.c (.int .i64 0))⟩] [0, 1])
  (.seq (.seq (.reg [⟨some 6, none, .mv (.t 0)⟩,
      ⟨some 7, none, .len (.t 6)⟩,
      ⟨some 8, none, .mv (.c (.int .i64 0))⟩] [0, 1, 7, 8])
  (.block 0
    (.loop [0, 1, 7, 8]
      (.seq (.reg [⟨some 9, none, .bin .lss (.t 8) (.t 7)⟩] [0, 1, 7, 8, 9])
      (.seq (.cond (.t 9)
        .skip
        (.exit 0))
      (.seq (.block 1
        (.seq (.reg [⟨some 10, none, .mv (.t 8)⟩,
            ⟨some 5, none, .mv (.t 10)⟩] [0, 1, 5, 7, 8])
        (.seq (.reg [⟨some 11, none, .mv (.t 1)⟩,
            ⟨some 12, none, .mv (.t 0)⟩,
            ⟨some 13, none, .mv (.t 5)⟩,
            ⟨some 14, none, .ixS 1 (.t 12) (.t 13)⟩,
            ⟨some 15, none, .load none (.t 14)⟩,
            ⟨some 16, none, .call (.t 11) [false] [(.t 15)]⟩] [0, 1, 5, 7, 8, 16])
        (.cond (.t 16)
          (.seq (.reg [⟨some 17, none, .mv (.t 5)⟩,
              ⟨some 4, none, .mv (.t 17)⟩] [4])
          .ret)
          .skip))))
      (.reg [⟨some 18, none, .bin .add (.t 8) (.c (.int .i64 1))⟩,
          ⟨some 8, none, .mv (.t 18)⟩] [0, 1, 7, 8])))))))
  (.seq (.reg [⟨some 4, none, .mv (.c (.int .i64 (-1)))⟩] [4])
  .ret)))
abbrev R_slices_IndexFunc_int_int : List (Nat × Option (Option Nat)) := [(4, none)]
theorem K_slices_IndexFunc_int_int : chkF Try.prog Try.f95 19 C_slices_IndexFunc_int_int R_slices_IndexFunc_int_int = true := by kernel_rfl
theorem spec_slices_IndexFunc_int_int {args : List AVal} {σ : AHeap} {R : ARes → AHeap → Prop} (ha : args.length ≤ 19) (h : AW Try.prog 19 none C_slices_IndexFunc_int_int (bodyQ R_slices_IndexFunc_int_int R) { v := argEnv args 0, ds := [] } σ) : Spec Try.prog F_slices_IndexFunc_int_int args σ R := Spec.of_fn Try.func95 K_slices_IndexFunc_int_int ha h
theorem B_slices_IndexFunc_int_int : hasBody Try.prog F_slices_IndexFunc_int_int = true := by kernel_rfl
theorem E_slices_IndexFunc_int_int : EntOk Try.prog ⟨95, 19, C_slices_IndexFunc_int_int, R_slices_IndexFunc_int_int, false⟩ := ⟨fun _ => ⟨B_slices_IndexFunc_int_int, _, Try.func95, K_slices_IndexFunc_int_int⟩, fun h => by cases h⟩

abbrev F_r01_Spread : FuncId := 96
/-- orlop/orlopref01.Spread: parameters ['[]api.Span', 'int', 'int'], results ['api.Errno'] -/
def C_r01_Spread : AC :=
  (.seq (.reg [⟨some 6, none, .mv (.c (.int .i64 0))⟩] [0, 1, 2])
  (.seq (.reg [⟨some 7, none, .mv (.c (.bool false))⟩] [0, 1, 2, 7])
  (.seq (.seq (.reg [⟨some 8, none, .mv (.c (.int .i64 0))⟩] [0, 1, 2, 7, 8])
  (.block 0
    (.loop [0, 1, 2, 7, 8]
      (.seq (.seq (.reg [⟨some 9, none, .mv (.t 8)⟩,
          ⟨some 10, none, .mv (.t 0)⟩,
          ⟨some 11, none, .len (.t 10)⟩,
          ⟨some 12, none, .bin .lss (.t 9) (.t 11)⟩] [0, 1, 2, 7, 8, 12])
      (.cond (.t 12)
        .skip
        (.exit 0)))
      (.seq (.block 1
        (.seq (.seq (.reg [⟨some 15, none, .mv (.t 0)⟩,
            ⟨some 16, none, .mv (.t 8)⟩,
            ⟨some 17, none, .ixS 2 (.t 15) (.t 16)⟩,
            ⟨some 18, none, .fieldAddr none 0 (.t 17)⟩,
            ⟨some 19, none, .load none (.t 18)⟩,
            ⟨some 20, none, .mv (.t 1)⟩,
            ⟨some 21, none, .mv (.t 2)⟩,
            ⟨some 22, none, .call (.f 78) [false, false, false] [(.t 19), (.t 20), (.t 21)]⟩,
            ⟨some 23, none, .un .not (.t 22)⟩,
            ⟨some 24, none, .mv (.t 23)⟩,
            ⟨some 25, (some (24, false)), .mv (.t 0)⟩,
            ⟨some 26, (some (24, false)), .mv (.t 8)⟩,
            ⟨some 27, (some (24, false)), .ixS 2 (.t 25) (.t 26)⟩,
            ⟨some 28, (some (24, false)), .fieldAddr none 1 (.t 27)⟩,
            ⟨some 29, (some (24, false)), .load none (.t 28)⟩,
            ⟨some 30, (some (24, false)), .mv (.t 1)⟩,
            ⟨some 31, (some (24, false)), .mv (.t 2)⟩,
            ⟨some 32, (some (24, false)), .call (.f 78) [false, false, false] [(.t 29), (.t 30), (.t 31)]⟩,
            ⟨some 33, (some (24, false)), .un .not (.t 32)⟩,
            ⟨some 34, none, .pick (.t 24) (.c (.bool true)) (.t 33)⟩] [0, 1, 2, 7, 8, 34])
        (.cond (.t 34)
          (.seq (.reg [⟨some 6, none, .mv (.c (.int .i64 7))⟩] [6])
          .ret)
          .skip))
        (.dreg [⟨some 35, none, .mv (.t 7)⟩,
            ⟨some 36, none, .mv (.t 35)⟩,
            ⟨some 37, (some (36, false)), .mv (.t 0)⟩,
            ⟨some 38, (some (36, false)), .mv (.t 8)⟩,
            ⟨some 39, (some (36, false)), .ixS 2 (.t 37) (.t 38)⟩,
            ⟨some 40, (some (36, false)), .fieldAddr none 0 (.t 39)⟩,
            ⟨some 41, (some (36, false)), .load none (.t 40)⟩,
            ⟨some 42, (some (36, false)), .mv (.t 0)⟩,
            ⟨some 43, (some (36, false)), .mv (.t 8)⟩,
            ⟨some 44, (some (36, false)), .ixS 2 (.t 42) (.t 43)⟩,
            ⟨some 45, (some (36, false)), .fieldAddr none 1 (.t 44)⟩,
            ⟨some 46, (some (36, false)), .load none (.t 45)⟩,
            ⟨some 47, (some (36, false)), .bin .gtr (.t 41) (.t 46)⟩,
            ⟨some 48, none, .pick (.t 36) (.c (.bool true)) (.t 47)⟩,
            ⟨some 7, none, .mv (.t 48)⟩] [0, 1, 2, 7, 8] [[], [0], [0, 1], [0, 1], [0, 1, 2, 3], [0, 1, 2, 3, 4], [0, 1, 2, 3, 4, 5], [0, 1], [0, 1], [0, 1, 7, 8], [0, 1, 7, 8, 9], [0, 1, 7, 8, 9, 10], [0, 1, 2, 3, 4, 5, 6, 7, 8, 9, 10, 11], [0, 1, 2, 3, 4, 5, 6, 7, 8, 9, 10, 11, 12], [0, 1, 2, 3, 4, 5, 6, 7, 8, 9, 10, 11, 12, 13]])))
      (.reg [⟨some 13, none, .mv (.t 8)⟩,
          ⟨some 14, none, .bin .add (.t 13) (.c (.int .i64 1))⟩,
          ⟨some 8, none, .mv (.t 14)⟩] [0, 1, 2, 7, 8]))))))
  (.seq (.seq (.reg [⟨some 49, none, .mv (.t 7)⟩] [49])
  (.cond (.t 49)
    (.seq (.reg [⟨some 6, none, .mv (.c (.int .i64 2))⟩] [6])
    .ret)
    .skip))
  (.seq (.reg [⟨some 6, none, .mv (.c (.int .i64 0))⟩] [6])
  .ret)))))
abbrev R_r01_Spread : List (Nat × Option (Option Nat)) := [(6, none)]
theorem K_r01_Spread : chkF Try.prog Try.f96 50 C_r01_Spread R_r01_Spread = true := by kernel_rfl
theorem spec_r01_Spread {args : List AVal} {σ : AHeap} {R : ARes → AHeap → Prop} (ha : args.length ≤ 50) (h : AW Try.prog 50 none C_r01_Spread (bodyQ R_r01_Spread R) { v := argEnv args 0, ds := [] } σ) : Spec Try.prog F_r01_Spread args σ R := Spec.of_fn Try.func96 K_r01_Spread ha h
theorem B_r01_Spread : hasBody Try.prog F_r01_Spread = true := by kernel_rfl
theorem E_r01_Spread : EntOk Try.prog ⟨96, 50, C_r01_Spread, R_r01_Spread, false⟩ := ⟨fun _ => ⟨B_r01_Spread, _, Try.func96, K_r01_Spread⟩, fun h => by cases h⟩

abbrev F_slices_pdqsortOrdered_int : FuncId := 97
/-- slices.pdqsortOrdered[int]: parameters ['[]int', 'int', 'int', 'int'], results [] -/
def C_slices_pdqsortOrdered_int : AC :=
  (.seq (.reg [⟨some 8, none, .mv (.c (.bool true))⟩] [0, 1, 2, 3, 8])
  (.seq (.reg [⟨some 9, none, .mv (.c (.bool true))⟩] [0, 1, 2, 3, 8, 9])
  (.block 0
    (.loop [0, 1, 2, 3, 8, 9]
      (.block 1
        (.seq (.reg [⟨some 19, none, .mv (.t 2)⟩,
            ⟨some 20, none, .mv (.t 1)⟩,
            ⟨some 21, none, .bin .sub (.t 19) (.t 20)⟩,
            ⟨some 10, none, .mv (.t 21)⟩] [0, 1, 2, 3, 8, 9, 10])
        (.seq (.seq (.reg [⟨some 22, none, .mv (.t 10)⟩,
            ⟨some 23, none, .bin .leq (.t 22) (.c (.int .i64 12))⟩] [0, 1, 2, 3, 8, 9, 10, 23])
        (.cond (.t 23)
          (.seq (.reg [⟨some 24, none, .mv (.t 0)⟩,
              ⟨some 25, none, .mv (.t 1)⟩,
              ⟨some 26, none, .mv (.t 2)⟩,
              ⟨some 27, none, .call (.f 99) [true, false, false] [(.t 24), (.t 25), (.t 26)]⟩] [])
          .ret)
          .skip))
        (.seq (.seq (.reg [⟨some 28, none, .mv (.t 3)⟩,
            ⟨some 29, none, .bin .eql (.t 28) (.c (.int .i64 0))⟩] [0, 1, 2, 3, 8, 9, 10, 29])
        (.cond (.t 29)
          (.seq (.reg [⟨some 30, none, .mv (.t 0)⟩,
              ⟨some 31, none, .mv (.t 1)⟩,
              ⟨some 32, none, .mv (.t 2)⟩,
              ⟨some 33, none, .call (.f 100) [true, false, false] [(.t 30), (.t 31), (.t 32)]⟩] [])
          .ret)
          .skip))
        (.seq (.seq (.reg [⟨some 34, none, .mv (.t 8)⟩,
            ⟨some 35, none, .un .not (.t 34)⟩] [0, 1, 2, 3, 8, 9, 10, 35])
        (.cond (.t 35)
          (.seq (.reg [⟨some 36, none, .mv (.t 0)⟩,
              ⟨some 37, none, .mv (.t 1)⟩,
              ⟨some 38, none, .mv (.t 2)⟩,
              ⟨some 39, none, .call (.f 101) [true, false, false] [(.t 36), (.t 37), (.t 38)]⟩] [0, 1, 2, 3, 8, 9, 10])
          (.reg [⟨some 40, none, .mv (.t 3)⟩,
              ⟨some 41, none, .bin .sub (.t 40) (.c (.int .i64 1))⟩,
              ⟨some 3, none, .mv (.t 41)⟩] [0, 1, 2, 3, 8, 9, 10]))
          .skip))
        (.seq (.reg [⟨some 43, none, .mv (.t 0)⟩,
            ⟨some 44, none, .mv (.t 1)⟩,
            ⟨some 45, none, .mv (.t 2)⟩,
            ⟨some 46, none, .call (.f 102) [true, false, false] [(.t 43), (.t 44), (.t 45)]⟩,
            ⟨some 42, none, .mv (.t 46)⟩,
            ⟨some 47, none, .extract (.t 42) 0⟩,
            ⟨some 48, none, .extract (.t 42) 1⟩,
            ⟨some 11, none, .mv (.t 47)⟩,
            ⟨some 12, none, .mv (.t 48)⟩] [0, 1, 2, 3, 8, 9, 10, 11, 12])
        (.seq (.seq (.reg [⟨some 49, none, .mv (.t 12)⟩,
            ⟨some 50, none, .bin .eql (.t 49) (.c (.int .i64 2))⟩] [0, 1, 2, 3, 8, 9, 10, 11, 12, 50])
        (.cond (.t 50)
          (.seq (.reg [⟨some 51, none, .mv (.t 0)⟩,
              ⟨some 52, none, .mv (.t 1)⟩,
              ⟨some 53, none, .mv (.t 2)⟩,
              ⟨some 54, none, .call (.f 103) [true, false, false] [(.t 51), (.t 52), (.t 53)]⟩] [0, 1, 2, 3, 8, 9, 10, 11])
          (.seq (.reg [⟨some 55, none, .mv (.t 2)⟩,
              ⟨some 56, none, .bin .sub (.t 55) (.c (.int .i64 1))⟩,
              ⟨some 57, none, .mv (.t 11)⟩,
              ⟨some 58, none, .mv (.t 1)⟩,
              ⟨some 59, none, .bin .sub (.t 57) (.t 58)⟩,
              ⟨some 60, none, .bin .sub (.t 56) (.t 59)⟩,
              ⟨some 11, none, .mv (.t 60)⟩] [0, 1, 2, 3, 8, 9, 10, 11])
          (.reg [⟨some 12, none, .mv (.c (.int .i64 1))⟩] [0, 1, 2, 3, 8, 9, 10, 11, 12])))
          .skip))
        (.seq (.seq (.reg [⟨some 61, none, .mv (.t 8)⟩,
            ⟨some 62, none, .mv (.t 61)⟩,
            ⟨some 63, (some (62, true)), .mv (.t 9)⟩,
            ⟨some 64, none, .pick (.t 62) (.t 63) (.c (.bool false))⟩,
            ⟨some 65, none, .mv (.t 64)⟩,
            ⟨some 66, (some (65, true)), .mv (.t 12)⟩,
            ⟨some 67, (some (65, true)), .bin .eql (.t 66) (.c (.int .i64 1))⟩,
            ⟨some 68, none, .pick (.t 65) (.t 67) (.c (.bool false))⟩] [0, 1, 2, 3, 8, 9, 10, 11, 68])
        (.cond (.t 68)
          (.seq (.reg [⟨some 69, none, .mv (.t 0)⟩,
              ⟨some 70, none, .mv (.t 1)⟩,
              ⟨some 71, none, .mv (.t 2)⟩,
              ⟨some 72, none, .call (.f 104) [true, false, false] [(.t 69), (.t 70), (.t 71)]⟩] [0, 1, 2, 3, 8, 9, 10, 11, 72])
          (.cond (.t 72)
            .ret
            .skip))
          .skip))
        (.seq (.seq (.dreg [⟨some 73, none, .mv (.t 1)⟩,
            ⟨some 74, none, .bin .gtr (.t 73) (.c (.int .i64 0))⟩,
            ⟨some 75, none, .mv (.t 74)⟩,
            ⟨some 76, (some (75, true)), .mv (.t 0)⟩,
            ⟨some 77, (some (75, true)), .mv (.t 1)⟩,
            ⟨some 78, (some (75, true)), .bin .sub (.t 77) (.c (.int .i64 1))⟩,
            ⟨some 79, (some (75, true)), .ixS 1 (.t 76) (.t 78)⟩,
            ⟨some 80, (some (75, true)), .load none (.t 79)⟩,
            ⟨some 81, (some (75, true)), .mv (.t 0)⟩,
            ⟨some 82, (some (75, true)), .mv (.t 11)⟩,
            ⟨some 83, (some (75, true)), .ixS 1 (.t 81) (.t 82)⟩,
            ⟨some 84, (some (75, true)), .load none (.t 83)⟩,
            ⟨some 85, (some (75, true)), .call (.f 105) [false, false] [(.t 80), (.t 84)]⟩,
            ⟨some 86, (some (75, true)), .un .not (.t 85)⟩,
            ⟨some 87, none, .pick (.t 75) (.t 86) (.c (.bool false))⟩] [0, 1, 2, 3, 8, 9, 10, 11, 87] [[], [0], [0, 1], [0, 1, 2], [0, 1, 2], [0, 1, 2, 4], [0, 1, 2, 3, 4, 5], [0, 1, 2, 3, 4, 5, 6], [0, 1, 2], [0, 1, 2], [0, 1, 2, 8, 9], [0, 1, 2, 8, 9, 10], [0, 1, 2, 3, 4, 5, 6, 7, 8, 9, 10, 11], [0, 1, 2, 3, 4, 5, 6, 7, 8, 9, 10, 11, 12], [0, 1, 2, 3, 4, 5, 6, 7, 8, 9, 10, 11, 12, 13]])
        (.cond (.t 87)
          (.seq (.reg [⟨some 88, none, .mv (.t 0)⟩,
              ⟨some 89, none, .mv (.t 1)⟩,
              ⟨some 90, none, .mv (.t 2)⟩,
              ⟨some 91, none, .mv (.t 11)⟩,
              ⟨some 92, none, .call (.f 106) [true, false, false, false] [(.t 88), (.t 89), (.t 90), (.t 91)]⟩,
              ⟨some 13, none, .mv (.t 92)⟩] [0, 2, 3, 8, 9, 13])
          (.seq (.reg [⟨some 93, none, .mv (.t 13)⟩,
              ⟨some 1, none, .mv (.t 93)⟩] [0, 1, 2, 3, 8, 9])
          (.exit 1)))
          .skip))
        (.seq (.reg [⟨some 95, none, .mv (.t 0)⟩,
            ⟨some 96, none, .mv (.t 1)⟩,
            ⟨some 97, none, .mv (.t 2)⟩,
            ⟨some 98, none, .mv (.t 11)⟩,
            ⟨some 99, none, .call (.f 107) [true, false, false, false] [(.t 95), (.t 96), (.t 97), (.t 98)]⟩,
            ⟨some 94, none, .mv (.t 99)⟩,
            ⟨some 100, none, .extract (.t 94) 0⟩,
            ⟨some 101, none, .extract (.t 94) 1⟩,
            ⟨some 14, none, .mv (.t 100)⟩,
            ⟨some 15, none, .mv (.t 101)⟩] [0, 1, 2, 3, 10, 14, 15])
        (.seq (.reg [⟨some 102, none, .mv (.t 15)⟩,
            ⟨some 9, none, .mv (.t 102)⟩] [0, 1, 2, 3, 9, 10, 14])
        (.seq (.reg [⟨some 103, none, .mv (.t 14)⟩,
            ⟨some 104, none, .mv (.t 1)⟩,
            ⟨some 105, none, .bin .sub (.t 103) (.t 104)⟩,
            ⟨some 106, none, .mv (.t 2)⟩,
            ⟨some 107, none, .mv (.t 14)⟩,
            ⟨some 108, none, .bin .sub (.t 106) (.t 107)⟩,
            ⟨some 16, none, .mv (.t 105)⟩,
            ⟨some 17, none, .mv (.t 108)⟩] [0, 1, 2, 3, 9, 10, 14, 16, 17])
        (.seq (.reg [⟨some 109, none, .mv (.t 10)⟩,
            ⟨some 110, none, .bin .quo (.t 109) (.c (.int .i64 8))⟩,
            ⟨some 18, none, .mv (.t 110)⟩] [0, 1, 2, 3, 9, 14, 16, 17, 18])
        (.seq (.reg [⟨some 111, none, .mv (.t 16)⟩,
            ⟨some 112, none, .mv (.t 17)⟩,
            ⟨some 113, none, .bin .lss (.t 111) (.t 112)⟩] [0, 1, 2, 3, 9, 14, 16, 17, 18, 113])
        (.cond (.t 113)
          (.seq (.reg [⟨some 114, none, .mv (.t 16)⟩,
              ⟨some 115, none, .mv (.t 18)⟩,
              ⟨some 116, none, .bin .geq (.t 114) (.t 115)⟩,
              ⟨some 8, none, .mv (.t 116)⟩] [0, 1, 2, 3, 8, 9, 14])
          (.seq (.reg [⟨some 117, none, .mv (.t 0)⟩,
              ⟨some 118, none, .mv (.t 1)⟩,
              ⟨some 119, none, .mv (.t 14)⟩,
              ⟨some 120, none, .mv (.t 3)⟩,
              ⟨some 121, none, .call (.f 97) [true, false, false, false] [(.t 117), (.t 118), (.t 119), (.t 120)]⟩] [0, 2, 3, 8, 9, 14])
          (.reg [⟨some 122, none, .mv (.t 14)⟩,
              ⟨some 123, none, .bin .add (.t 122) (.c (.int .i64 1))⟩,
              ⟨some 1, none, .mv (.t 123)⟩] [0, 1, 2, 3, 8, 9])))
          (.seq (.reg [⟨some 124, none, .mv (.t 17)⟩,
              ⟨some 125, none, .mv (.t 18)⟩,
              ⟨some 126, none, .bin .geq (.t 124) (.t 125)⟩,
              ⟨some 8, none, .mv (.t 126)⟩] [0, 1, 2, 3, 8, 9, 14])
          (.seq (.reg [⟨some 127, none, .mv (.t 0)⟩,
              ⟨some 128, none, .mv (.t 14)⟩,
              ⟨some 129, none, .bin .add (.t 128) (.c (.int .i64 1))⟩,
              ⟨some 130, none, .mv (.t 2)⟩,
              ⟨some 131, none, .mv (.t 3)⟩,
              ⟨some 132, none, .call (.f 97) [true, false, false, false] [(.t 127), (.t 129), (.t 130), (.t 131)]⟩] [0, 1, 3, 8, 9, 14])
          (.reg [⟨some 133, none, .mv (.t 14)⟩,
              ⟨some 2, none, .mv (.t 133)⟩] [0, 1, 2, 3, 8, 9]))))))))))))))))))))))
abbrev R_slices_pdqsortOrdered_int : List (Nat × Option (Option Nat)) := []
theorem K_slices_pdqsortOrdered_int : chkF Try.prog Try.f97 134 C_slices_pdqsortOrdered_int R_slices_pdqsortOrdered_int = true := by kernel_rfl
theorem spec_slices_pdqsortOrdered_int {args : List AVal} {σ : AHeap} {R : ARes → AHeap → Prop} (ha : args.length ≤ 134) (h : AW Try.prog 134 none C_slices_pdqsortOrdered_int (bodyQ R_slices_pdqsortOrdered_int R) { v := argEnv args 0, ds := [] } σ) : Spec Try.prog F_slices_pdqsortOrdered_int args σ R := Spec.of_fn Try.func97 K_slices_pdqsortOrdered_int ha h
theorem B_slices_pdqsortOrdered_int : hasBody Try.prog F_slices_pdqsortOrdered_int = true := by kernel_rfl
theorem E_slices_pdqsortOrdered_int : EntOk Try.prog ⟨97, 134, C_slices_pdqsortOrdered_int, R_slices_pdqsortOrdered_int, false⟩ := ⟨fun _ => ⟨B_slices_pdqsortOrdered_int, _, Try.func97, K_slices_pdqsortOrdered_int⟩, fun h => by cases h⟩

abbrev F_math_bits_Len : FuncId := 98
/-- math/bits.Len: parameters ['uint'], results ['int'] -/
def C_math_bits_Len : AC :=
  (.seq (.reg [⟨some 2, none, .mv (.c (.int .i64 0))⟩] [0])
  (.seq (.cond (.c (.bool false))
    (.seq (.reg [⟨some 3, none, .mv (.t 0)⟩,
        ⟨some 4, none, .conv .u32 (.t 3)⟩,
        ⟨some 5, none, .call (.f 108) [false] [(.t 4)]⟩,
        ⟨some 2, none, .mv (.t 5)⟩] [2])
    .ret)
    .skip)
  (.seq (.reg [⟨some 6, none, .mv (.t 0)⟩,
      ⟨some 7, none, .call (.f 109) [false] [(.t 6)]⟩,
      ⟨some 2, none, .mv (.t 7)⟩] [2])
  .ret)))
abbrev R_math_bits_Len : List (Nat × Option (Option Nat)) := [(2, none)]
theorem K_math_bits_Len : chkF Try.prog Try.f98 8 C_math_bits_Len R_math_bits_Len = true := by kernel_rfl
theorem spec_math_bits_Len {args : List AVal} {σ : AHeap} {R : ARes → AHeap → Prop} (ha : args.length ≤ 8) (h : AW Try.prog 8 none C_math_bits_Len (bodyQ R_math_bits_Len R) { v := argEnv args 0, ds := [] } σ) : Spec Try.prog F_math_bits_Len args σ R := Spec.of_fn Try.func98 K_math_bits_Len ha h
theorem B_math_bits_Len : hasBody Try.prog F_math_bits_Len = true := by kernel_rfl
theorem E_math_bits_Len : EntOk Try.prog ⟨98, 8, C_math_bits_Len, R_math_bits_Len, false⟩ := ⟨fun _ => ⟨B_math_bits_Len, _, Try.func98, K_math_bits_Len⟩, fun h => by cases h⟩

abbrev F_slices_insertionSortOrdered_int : FuncId := 99
/-- slices.insertionSortOrdered[int]: parameters ['[]int', 'int', 'int'], results [] -/
def C_slices_insertionSortOrdered_int : AC :=
  (.seq (.reg [⟨some 8, none, .mv (.t 1)⟩,
      ⟨some 9, none, .bin .add (.t 8) (.c (.int .i64 1))⟩,
      ⟨some 6, none, .mv (.t 9)⟩] [0, 1, 2, 6])
  (.block 0
    (.loop [0, 1, 2, 6]
      (.seq (.seq (.reg [⟨some 10, none, .mv (.t 6)⟩,
          ⟨some 11, none, .mv (.t 2)⟩,
          ⟨some 12, none, .bin .lss (.t 10) (.t 11)⟩] [0, 1, 2, 6, 12])
      (.cond (.t 12)
        .skip
        (.exit 0)))
      (.seq (.block 1
        (.seq (.reg [⟨some 15, none, .mv (.t 6)⟩,
            ⟨some 7, none, .mv (.t 15)⟩] [0, 1, 2, 6, 7])
        (.block 2
          (.loop [0, 1, 2, 6, 7]
            (.seq (.seq (.dreg [⟨some 16, none, .mv (.t 7)⟩,
                ⟨some 17, none, .mv (.t 1)⟩,
                ⟨some 18, none, .bin .gtr (.t 16) (.t 17)⟩,
                ⟨some 19, none, .mv (.t 18)⟩,
                ⟨some 20, (some (19, true)), .mv (.t 0)⟩,
                ⟨some 21, (some (19, true)), .mv (.t 7)⟩,
                ⟨some 22, (some (19, true)), .ixS 1 (.t 20) (.t 21)⟩,
                ⟨some 23, (some (19, true)), .load none (.t 22)⟩,
                ⟨some 24, (some (19, true)), .mv (.t 0)⟩,
                ⟨some 25, (some (19, true)), .mv (.t 7)⟩,
                ⟨some 26, (some (19, true)), .bin .sub (.t 25) (.c (.int .i64 1))⟩,
                ⟨some 27, (some (19, true)), .ixS 1 (.t 24) (.t 26)⟩,
                ⟨some 28, (some (19, true)), .load none (.t 27)⟩,
                ⟨some 29, (some (19, true)), .call (.f 105) [false, false] [(.t 23), (.t 28)]⟩,
                ⟨some 30, none, .pick (.t 19) (.t 29) (.c (.bool false))⟩] [0, 1, 2, 6, 7, 30] [[], [], [0, 1], [0, 1, 2], [0, 1, 2, 3], [0, 1, 2, 3], [0, 1, 2, 3, 4, 5], [0, 1, 2, 3, 4, 5, 6], [0, 1, 2, 3], [0, 1, 2, 3], [0, 1, 2, 3, 9], [0, 1, 2, 3, 8, 9, 10], [0, 1, 2, 3, 8, 9, 10, 11], [0, 1, 2, 3, 4, 5, 6, 7, 8, 9, 10, 11, 12], [0, 1, 2, 3, 4, 5, 6, 7, 8, 9, 10, 11, 12, 13]])
            (.cond (.t 30)
              .skip
              (.exit 2)))
            (.seq (.block 3
              (.dreg [⟨some 33, none, .mv (.t 0)⟩,
                  ⟨some 34, none, .mv (.t 7)⟩,
                  ⟨some 35, none, .mv (.t 0)⟩,
                  ⟨some 36, none, .mv (.t 7)⟩,
                  ⟨some 37, none, .bin .sub (.t 36) (.c (.int .i64 1))⟩,
                  ⟨some 38, none, .mv (.t 0)⟩,
                  ⟨some 39, none, .mv (.t 7)⟩,
                  ⟨some 40, none, .bin .sub (.t 39) (.c (.int .i64 1))⟩,
                  ⟨some 41, none, .ixS 1 (.t 38) (.t 40)⟩,
                  ⟨some 42, none, .load none (.t 41)⟩,
                  ⟨some 43, none, .mv (.t 0)⟩,
                  ⟨some 44, none, .mv (.t 7)⟩,
                  ⟨some 45, none, .ixS 1 (.t 43) (.t 44)⟩,
                  ⟨some 46, none, .load none (.t 45)⟩,
                  ⟨some 47, none, .ixS 1 (.t 33) (.t 34)⟩,
                  ⟨none, none, .store 1 (.t 47) (.t 42)⟩,
                  ⟨some 48, none, .ixS 1 (.t 35) (.t 37)⟩,
                  ⟨none, none, .store 1 (.t 48) (.t 46)⟩] [0, 1, 2, 6, 7] [[], [], [], [], [3], [], [], [6], [5, 6, 7], [5, 6, 7, 8], [], [], [10, 11], [10, 11, 12], [0, 1, 5, 6, 7, 8, 9, 10, 11, 12, 13], [0, 1, 5, 6, 7, 8, 9, 10, 11, 12, 13, 14], [0, 1, 2, 3, 4, 5, 6, 7, 8, 9, 10, 11, 12, 13, 14, 15], [0, 1, 2, 3, 4, 5, 6, 7, 8, 9, 10, 11, 12, 13, 14, 15, 16]]))
            (.reg [⟨some 31, none, .mv (.t 7)⟩,
                ⟨some 32, none, .bin .sub (.t 31) (.c (.int .i64 1))⟩,
                ⟨some 7, none, .mv (.t 32)⟩] [0, 1, 2, 6, 7])))))))
      (.reg [⟨some 13, none, .mv (.t 6)⟩,
          ⟨some 14, none, .bin .add (.t 13) (.c (.int .i64 1))⟩,
          ⟨some 6, none, .mv (.t 14)⟩] [0, 1, 2, 6]))))))
abbrev R_slices_insertionSortOrdered_int : List (Nat × Option (Option Nat)) := []
theorem K_slices_insertionSortOrdered_int : chkF Try.prog Try.f99 49 C_slices_insertionSortOrdered_int R_slices_insertionSortOrdered_int = true := by kernel_rfl
theorem spec_slices_insertionSortOrdered_int {args : List AVal} {σ : AHeap} {R : ARes → AHeap → Prop} (ha : args.length ≤ 49) (h : AW Try.prog 49 none C_slices_insertionSortOrdered_int (bodyQ R_slices_insertionSortOrdered_int R) { v := argEnv args 0, ds := [] } σ) : Spec Try.prog F_slices_insertionSortOrdered_int args σ R := Spec.of_fn Try.func99 K_slices_insertionSortOrdered_int ha h
theorem B_slices_insertionSortOrdered_int : hasBody Try.prog F_slices_insertionSortOrdered_int = true := by kernel_rfl
theorem E_slices_insertionSortOrdered_int : EntOk Try.prog ⟨99, 49, C_slices_insertionSortOrdered_int, R_slices_insertionSortOrdered_int, false⟩ := ⟨fun _ => ⟨B_slices_insertionSortOrdered_int, _, Try.func99, K_slices_insertionSortOrdered_int⟩, fun h => by cases h⟩

abbrev F_slices_heapSortOrdered_int : FuncId := 100
/-- slices.heapSortOrdered[int]: parameters ['[]int', 'int', 'int'], results [] -/
def C_slices_heapSortOrdered_int : AC :=
  (.seq (.reg [⟨some 11, none, .mv (.t 1)⟩,
      ⟨some 6, none, .mv (.t 11)⟩] [0, 1, 2, 6])
  (.seq (.reg [⟨some 7, none, .mv (.c (.int .i64 0))⟩] [0, 1, 2, 6, 7])
  (.seq (.reg [⟨some 12, none, .mv (.t 2)⟩,
      ⟨some 13, none, .mv (.t 1)⟩,
      ⟨some 14, none, .bin .sub (.t 12) (.t 13)⟩,
      ⟨some 8, none, .mv (.t 14)⟩] [0, 6, 7, 8])
  (.seq (.seq (.reg [⟨some 15, none, .mv (.t 8)⟩,
      ⟨some 16, none, .bin .sub (.t 15) (.c (.int .i64 1))⟩,
      ⟨some 17, none, .bin .quo (.t 16) (.c (.int .i64 2))⟩,
      ⟨some 9, none, .mv (.t 17)⟩] [0, 6, 7, 8, 9])
  (.block 0
    (.loop [0, 6, 7, 8, 9]
      (.seq (.seq (.reg [⟨some 18, none, .mv (.t 9)⟩,
          ⟨some 19, none, .bin .geq (.t 18) (.c (.int .i64 0))⟩] [0, 6, 7, 8, 9, 19])
      (.cond (.t 19)
        .skip
        (.exit 0)))
      (.seq (.block 1
        (.reg [⟨some 22, none, .mv (.t 0)⟩,
            ⟨some 23, none, .mv (.t 9)⟩,
            ⟨some 24, none, .mv (.t 8)⟩,
            ⟨some 25, none, .mv (.t 6)⟩,
            ⟨some 26, none, .call (.f 110) [true, false, false, false] [(.t 22), (.t 23), (.t 24), (.t 25)]⟩] [0, 6, 7, 8, 9]))
      (.reg [⟨some 20, none, .mv (.t 9)⟩,
          ⟨some 21, none, .bin .sub (.t 20) (.c (.int .i64 1))⟩,
          ⟨some 9, none, .mv (.t 21)⟩] [0, 6, 7, 8, 9]))))))
  (.seq (.reg [⟨some 27, none, .mv (.t 8)⟩,
      ⟨some 28, none, .bin .sub (.t 27) (.c (.int .i64 1))⟩,
      ⟨some 10, none, .mv (.t 28)⟩] [0, 6, 7, 10])
  (.block 2
    (.loop [0, 6, 7, 10]
      (.seq (.seq (.reg [⟨some 29, none, .mv (.t 10)⟩,
          ⟨some 30, none, .bin .geq (.t 29) (.c (.int .i64 0))⟩] [0, 6, 7, 10, 30])
      (.cond (.t 30)
        .skip
        (.exit 2)))
      (.seq (.block 3
        (.seq (.dreg [⟨some 33, none, .mv (.t 0)⟩,
            ⟨some 34, none, .mv (.t 6)⟩,
            ⟨some 35, none, .mv (.t 0)⟩,
            ⟨some 36, none, .mv (.t 6)⟩,
            ⟨some 37, none, .mv (.t 10)⟩,
            ⟨some 38, none, .bin .add (.t 36) (.t 37)⟩,
            ⟨some 39, none, .mv (.t 0)⟩,
            ⟨some 40, none, .mv (.t 6)⟩,
            ⟨some 41, none, .mv (.t 10)⟩,
            ⟨some 42, none, .bin .add (.t 40) (.t 41)⟩,
            ⟨some 43, none, .ixS 1 (.t 39) (.t 42)⟩,
            ⟨some 44, none, .load none (.t 43)⟩,
            ⟨some 45, none, .mv (.t 0)⟩,
            ⟨some 46, none, .mv (.t 6)⟩,
            ⟨some 47, none, .ixS 1 (.t 45) (.t 46)⟩,
            ⟨some 48, none, .load none (.t 47)⟩,
            ⟨some 49, none, .ixS 1 (.t 33) (.t 34)⟩,
            ⟨none, none, .store 1 (.t 49) (.t 44)⟩,
            ⟨some 50, none, .ixS 1 (.t 35) (.t 38)⟩,
            ⟨none, none, .store 1 (.t 50) (.t 48)⟩] [0, 6, 7, 10] [[], [], [], [], [], [3, 4], [], [], [], [7, 8], [6, 7, 8, 9], [6, 7, 8, 9, 10], [], [], [12, 13], [12, 13, 14], [0, 1, 6, 7, 8, 9, 10, 11, 12, 13, 14, 15], [0, 1, 6, 7, 8, 9, 10, 11, 12, 13, 14, 15, 16], [0, 1, 2, 3, 4, 5, 6, 7, 8, 9, 10, 11, 12, 13, 14, 15, 16, 17], [0, 1, 2, 3, 4, 5, 6, 7, 8, 9, 10, 11, 12, 13, 14, 15, 16, 17, 18]])
        (.reg [⟨some 51, none, .mv (.t 0)⟩,
            ⟨some 52, none, .mv (.t 7)⟩,
            ⟨some 53, none, .mv (.t 10)⟩,
            ⟨some 54, none, .mv (.t 6)⟩,
            ⟨some 55, none, .call (.f 110) [true, false, false, false] [(.t 51), (.t 52), (.t 53), (.t 54)]⟩] [0, 6, 7, 10])))
      (.reg [⟨some 31, none, .mv (.t 10)⟩,
          ⟨some 32, none, .bin .sub (.t 31) (.c (.int .i64 1))⟩,
          ⟨some 10, none, .mv (.t 32)⟩] [0, 6, 7, 10]))))))))))
abbrev R_slices_heapSortOrdered_int : List (Nat × Option (Option Nat)) := []
theorem K_slices_heapSortOrdered_int : chkF Try.prog Try.f100 56 C_slices_heapSortOrdered_int R_slices_heapSortOrdered_int = true := by kernel_rfl
theorem spec_slices_heapSortOrdered_int {args : List AVal} {σ : AHeap} {R : ARes → AHeap → Prop} (ha : args.length ≤ 56) (h : AW Try.prog 56 none C_slices_heapSortOrdered_int (bodyQ R_slices_heapSortOrdered_int R) { v := argEnv args 0, ds := [] } σ) : Spec Try.prog F_slices_heapSortOrdered_int args σ R := Spec.of_fn Try.func100 K_slices_heapSortOrdered_int ha h
theorem B_slices_heapSortOrdered_int : hasBody Try.prog F_slices_heapSortOrdered_int = true := by kernel_rfl
theorem E_slices_heapSortOrdered_int : EntOk Try.prog ⟨100, 56, C_slices_heapSortOrdered_int, R_slices_heapSortOrdered_int, false⟩ := ⟨fun _ => ⟨B_slices_heapSortOrdered_int, _, Try.func100, K_slices_heapSortOrdered_int⟩, fun h => by cases h⟩

abbrev F_slices_breakPatternsOrdered_int : FuncId := 101
/-- slices.breakPatternsOrdered[int]: parameters ['[]int', 'int', 'int'], results [] -/
def C_slices_breakPatternsOrdered_int : AC :=
  (.seq (.reg [⟨some 11, none, .mv (.t 2)⟩,
      ⟨some 12, none, .mv (.t 1)⟩,
      ⟨some 13, none, .bin .sub (.t 11) (.t 12)⟩,
      ⟨some 6, none, .mv (.t 13)⟩] [0, 1, 6])
  (.seq (.reg [⟨some 14, none, .mv (.t 6)⟩,
      ⟨some 15, none, .bin .geq (.t 14) (.c (.int .i64 8))⟩] [0, 1, 6, 15])
  (.cond (.t 15)
    (.seq (.reg [⟨some 16, none, .mv (.t 6)⟩,
        ⟨some 17, none, .conv .u64 (.t 16)⟩,
        ⟨some 7, none, .alloc [.int .u64 0]⟩,
        ⟨none, none, .store 1 (.t 7) (.t 17)⟩] [0, 1, 6, 7])
    (.seq (.reg [⟨some 18, none, .mv (.t 6)⟩,
        ⟨some 19, none, .call (.f 111) [false] [(.t 18)]⟩,
        ⟨some 8, none, .mv (.t 19)⟩] [0, 1, 6, 7, 8])
    (.seq (.reg [⟨some 20, none, .mv (.t 1)⟩,
        ⟨some 21, none, .mv (.t 6)⟩,
        ⟨some 22, none, .bin .quo (.t 21) (.c (.int .i64 4))⟩,
        ⟨some 23, none, .bin .mul (.t 22) (.c (.int .i64 2))⟩,
        ⟨some 24, none, .bin .add (.t 20) (.t 23)⟩,
        ⟨some 25, none, .bin .sub (.t 24) (.c (.int .i64 1))⟩,
        ⟨some 9, none, .mv (.t 25)⟩] [0, 1, 6, 7, 8, 9])
    (.block 0
      (.loop [0, 1, 6, 7, 8, 9]
        (.seq (.seq (.reg [⟨some 26, none, .mv (.t 9)⟩,
            ⟨some 27, none, .mv (.t 1)⟩,
            ⟨some 28, none, .mv (.t 6)⟩,
            ⟨some 29, none, .bin .quo (.t 28) (.c (.int .i64 4))⟩,
            ⟨some 30, none, .bin .mul (.t 29) (.c (.int .i64 2))⟩,
            ⟨some 31, none, .bin .add (.t 27) (.t 30)⟩,
            ⟨some 32, none, .bin .add (.t 31) (.c (.int .i64 1))⟩,
            ⟨some 33, none, .bin .leq (.t 26) (.t 32)⟩] [0, 1, 6, 7, 8, 9, 33])
        (.cond (.t 33)
          .skip
          (.exit 0)))
        (.seq (.block 1
          (.seq (.reg [⟨some 36, none, .call (.f 112) [false] [(.t 7)]⟩,
              ⟨some 37, none, .mv (.t 8)⟩,
              ⟨some 38, none, .bin .sub (.t 37) (.c (.int .u64 1))⟩,
              ⟨some 39, none, .bin .and (.t 36) (.t 38)⟩,
              ⟨some 40, none, .conv .i64 (.t 39)⟩,
              ⟨some 10, none, .mv (.t 40)⟩] [0, 1, 6, 7, 8, 9, 10])
          (.seq (.seq (.reg [⟨some 41, none, .mv (.t 10)⟩,
              ⟨some 42, none, .mv (.t 6)⟩,
              ⟨some 43, none, .bin .geq (.t 41) (.t 42)⟩] [0, 1, 6, 7, 8, 9, 10, 43])
          (.cond (.t 43)
            (.reg [⟨some 44, none, .mv (.t 10)⟩,
                ⟨some 45, none, .mv (.t 6)⟩,
                ⟨some 46, none, .bin .sub (.t 44) (.t 45)⟩,
                ⟨some 10, none, .mv (.t 46)⟩] [0, 1, 6, 7, 8, 9, 10])
            .skip))
          (.dreg [⟨some 47, none, .mv (.t 0)⟩,
              ⟨some 48, none, .mv (.t 9)⟩,
              ⟨some 49, none, .mv (.t 0)⟩,
              ⟨some 50, none, .mv (.t 1)⟩,
              ⟨some 51, none, .mv (.t 10)⟩,
              ⟨some 52, none, .bin .add (.t 50) (.t 51)⟩,
              ⟨some 53, none, .mv (.t 0)⟩,
              ⟨some 54, none, .mv (.t 1)⟩,
              ⟨some 55, none, .mv (.t 10)⟩,
              ⟨some 56, none, .bin .add (.t 54) (.t 55)⟩,
              ⟨some 57, none, .ixS 1 (.t 53) (.t 56)⟩,
              ⟨some 58, none, .load none (.t 57)⟩,
              ⟨some 59, none, .mv (.t 0)⟩,
              ⟨some 60, none, .mv (.t 9)⟩,
              ⟨some 61, none, .ixS 1 (.t 59) (.t 60)⟩,
              ⟨some 62, none, .load none (.t 61)⟩,
              ⟨some 63, none, .ixS 1 (.t 47) (.t 48)⟩,
              ⟨none, none, .store 1 (.t 63) (.t 58)⟩,
              ⟨some 64, none, .ixS 1 (.t 49) (.t 52)⟩,
              ⟨none, none, .store 1 (.t 64) (.t 62)⟩] [0, 1, 6, 7, 8, 9] [[], [], [], [], [], [3, 4], [], [], [], [7, 8], [6, 7, 8, 9], [6, 7, 8, 9, 10], [], [], [12, 13], [12, 13, 14], [0, 1, 6, 7, 8, 9, 10, 11, 12, 13, 14, 15], [0, 1, 6, 7, 8, 9, 10, 11, 12, 13, 14, 15, 16], [0, 1, 2, 3, 4, 5, 6, 7, 8, 9, 10, 11, 12, 13, 14, 15, 16, 17], [0, 1, 2, 3, 4, 5, 6, 7, 8, 9, 10, 11, 12, 13, 14, 15, 16, 17, 18]]))))
        (.reg [⟨some 34, none, .mv (.t 9)⟩,
            ⟨some 35, none, .bin .add (.t 34) (.c (.int .i64 1))⟩,
            ⟨some 9, none, .mv (.t 35)⟩] [0, 1, 6, 7, 8, 9]))))))))
    .skip)))
abbrev R_slices_breakPatternsOrdered_int : List (Nat × Option (Option Nat)) := []
theorem K_slices_breakPatternsOrdered_int : chkF Try.prog Try.f101 65 C_slices_breakPatternsOrdered_int R_slices_breakPatternsOrdered_int = true := by kernel_rfl
theorem spec_slices_breakPatternsOrdered_int {args : List AVal} {σ : AHeap} {R : ARes → AHeap → Prop} (ha : args.length ≤ 65) (h : AW Try.prog 65 none C_slices_breakPatternsOrdered_int (bodyQ R_slices_breakPatternsOrdered_int R) { v := argEnv args 0, ds := [] } σ) : Spec Try.prog F_slices_breakPatternsOrdered_int args σ R := Spec.of_fn Try.func101 K_slices_breakPatternsOrdered_int ha h
theorem B_slices_breakPatternsOrdered_int : hasBody Try.prog F_slices_breakPatternsOrdered_int = true := by kernel_rfl
theorem E_slices_breakPatternsOrdered_int : EntOk Try.prog ⟨101, 65, C_slices_breakPatternsOrdered_int, R_slices_breakPatternsOrdered_int, false⟩ := ⟨fun _ => ⟨B_slices_breakPatternsOrdered_int, _, Try.func101, K_slices_breakPatternsOrdered_int⟩, fun h => by cases h⟩

abbrev F_slices_choosePivotOrdered_int : FuncId := 102
/-- slices.choosePivotOrdered[int]: parameters ['[]int', 'int', 'int'], results ['int', 'slices.sortedHint'] -/
def C_slices_choosePivotOrdered_int : AC :=
  (.seq (.reg [⟨some 6, none, .mv (.c (.int .i64 0))⟩,
      ⟨some 7, none, .mv (.c (.int .i64 0))⟩] [0, 1, 2])
  (.seq (.reg [⟨some 13, none, .mv (.t 2)⟩,
      ⟨some 14, none, .mv (.t 1)⟩,
      ⟨some 15, none, .bin .sub (.t 13) (.t 14)⟩,
      ⟨some 8, none, .mv (.t 15)⟩] [0, 1, 8])
  (.seq (.reg [⟨some 9, none, .alloc [.int .i64 0]⟩] [0, 1, 8, 9])
  (.seq (.reg [⟨some 16, none, .mv (.t 1)⟩,
      ⟨some 17, none, .mv (.t 8)⟩,
      ⟨some 18, none, .bin .quo (.t 17) (.c (.int .i64 4))⟩,
      ⟨some 19, none, .bin .mul (.t 18) (.c (.int .i64 1))⟩,
      ⟨some 20, none, .bin .add (.t 16) (.t 19)⟩,
      ⟨some 10, none, .mv (.t 20)⟩] [0, 1, 8, 9, 10])
  (.seq (.reg [⟨some 21, none, .mv (.t 1)⟩,
      ⟨some 22, none, .mv (.t 8)⟩,
      ⟨some 23, none, .bin .quo (.t 22) (.c (.int .i64 4))⟩,
      ⟨some 24, none, .bin .mul (.t 23) (.c (.int .i64 2))⟩,
      ⟨some 25, none, .bin .add (.t 21) (.t 24)⟩,
      ⟨some 11, none, .mv (.t 25)⟩] [0, 1, 8, 9, 10, 11])
  (.seq (.reg [⟨some 26, none, .mv (.t 1)⟩,
      ⟨some 27, none, .mv (.t 8)⟩,
      ⟨some 28, none, .bin .quo (.t 27) (.c (.int .i64 4))⟩,
      ⟨some 29, none, .bin .mul (.t 28) (.c (.int .i64 3))⟩,
      ⟨some 30, none, .bin .add (.t 26) (.t 29)⟩,
      ⟨some 12, none, .mv (.t 30)⟩] [0, 8, 9, 10, 11, 12])
  (.seq (.seq (.reg [⟨some 31, none, .mv (.t 8)⟩,
      ⟨some 32, none, .bin .geq (.t 31) (.c (.int .i64 8))⟩] [0, 8, 9, 10, 11, 12, 32])
  (.cond (.t 32)
    (.seq (.seq (.reg [⟨some 33, none, .mv (.t 8)⟩,
        ⟨some 34, none, .bin .geq (.t 33) (.c (.int .i64 50))⟩] [0, 9, 10, 11, 12, 34])
    (.cond (.t 34)
      (.seq (.reg [⟨some 35, none, .mv (.t 0)⟩,
          ⟨some 36, none, .mv (.t 10)⟩,
          ⟨some 37, none, .call (.f 113) [true, false, false] [(.t 35), (.t 36), (.t 9)]⟩,
          ⟨some 10, none, .mv (.t 37)⟩] [0, 9, 10, 11, 12])
      (.seq (.reg [⟨some 38, none, .mv (.t 0)⟩,
          ⟨some 39, none, .mv (.t 11)⟩,
          ⟨some 40, none, .call (.f 113) [true, false, false] [(.t 38), (.t 39), (.t 9)]⟩,
          ⟨some 11, none, .mv (.t 40)⟩] [0, 9, 10, 11, 12])
      (.reg [⟨some 41, none, .mv (.t 0)⟩,
          ⟨some 42, none, .mv (.t 12)⟩,
          ⟨some 43, none, .call (.f 113) [true, false, false] [(.t 41), (.t 42), (.t 9)]⟩,
          ⟨some 12, none, .mv (.t 43)⟩] [0, 9, 10, 11, 12])))
      .skip))
    (.reg [⟨some 44, none, .mv (.t 0)⟩,
        ⟨some 45, none, .mv (.t 10)⟩,
        ⟨some 46, none, .mv (.t 11)⟩,
        ⟨some 47, none, .mv (.t 12)⟩,
        ⟨some 48, none, .call (.f 114) [true, false, false, false, false] [(.t 44), (.t 45), (.t 46), (.t 47), (.t 9)]⟩,
        ⟨some 11, none, .mv (.t 48)⟩] [9, 11]))
    .skip))
  (.seq (.reg [⟨some 49, none, .load none (.t 9)⟩] [11, 49])
  (.block 0
    (.seq (.reg [⟨some 52, none, .bin .eql (.t 49) (.c (.int .i64 0))⟩,
        ⟨some 51, none, .mv (.t 52)⟩] [11, 49, 51])
    (.cond (.t 51)
      (.seq (.reg [⟨some 53, none, .mv (.t 11)⟩,
          ⟨some 6, none, .mv (.t 53)⟩,
          ⟨some 7, none, .mv (.c (.int .i64 1))⟩] [6, 7])
      .ret)
      (.seq (.reg [⟨some 55, none, .bin .eql (.t 49) (.c (.int .i64 12))⟩,
          ⟨some 54, none, .mv (.t 55)⟩] [11, 54])
      (.cond (.t 54)
        (.seq (.reg [⟨some 56, none, .mv (.t 11)⟩,
            ⟨some 6, none, .mv (.t 56)⟩,
            ⟨some 7, none, .mv (.c (.int .i64 2))⟩] [6, 7])
        .ret)
        (.seq (.reg [⟨some 50, none, .mv (.t 11)⟩,
            ⟨some 6, none, .mv (.t 50)⟩,
            ⟨some 7, none, .mv (.c (.int .i64 0))⟩] [6, 7])
        .ret))))))))))))))
abbrev R_slices_choosePivotOrdered_int : List (Nat × Option (Option Nat)) := [(6, none), (7, none)]
theorem K_slices_choosePivotOrdered_int : chkF Try.prog Try.f102 57 C_slices_choosePivotOrdered_int R_slices_choosePivotOrdered_int = true := by kernel_rfl
theorem spec_slices_choosePivotOrdered_int {args : List AVal} {σ : AHeap} {R : ARes → AHeap → Prop} (ha : args.length ≤ 57) (h : AW Try.prog 57 none C_slices_choosePivotOrdered_int (bodyQ R_slices_choosePivotOrdered_int R) { v := argEnv args 0, ds := [] } σ) : Spec Try.prog F_slices_choosePivotOrdered_int args σ R := Spec.of_fn Try.func102 K_slices_choosePivotOrdered_int ha h
theorem B_slices_choosePivotOrdered_int : hasBody Try.prog F_slices_choosePivotOrdered_int = true := by kernel_rfl
theorem E_slices_choosePivotOrdered_int : EntOk Try.prog ⟨102, 57, C_slices_choosePivotOrdered_int, R_slices_choosePivotOrdered_int, false⟩ := ⟨fun _ => ⟨B_slices_choosePivotOrdered_int, _, Try.func102, K_slices_choosePivotOrdered_int⟩, fun h => by cases h⟩

abbrev F_slices_reverseRangeOrdered_int : FuncId := 103
/-- slices.reverseRangeOrdered[int]: parameters ['[]int', 'int', 'int'], results [] -/
def C_slices_reverseRangeOrdered_int : AC :=
  (.seq (.reg [⟨some 8, none, .mv (.t 1)⟩,
      ⟨some 6, none, .mv (.t 8)⟩] [0, 2, 6])
  (.seq (.reg [⟨some 9, none, .mv (.t 2)⟩,
      ⟨some 10, none, .bin .sub (.t 9) (.c (.int .i64 1))⟩,
      ⟨some 7, none, .mv (.t 10)⟩] [0, 6, 7])
  (.block 0
    (.loop [0, 6, 7]
      (.seq (.seq (.reg [⟨some 11, none, .mv (.t 6)⟩,
          ⟨some 12, none, .mv (.t 7)⟩,
          ⟨some 13, none, .bin .lss (.t 11) (.t 12)⟩] [0, 6, 7, 13])
      (.cond (.t 13)
        .skip
        (.exit 0)))
      (.block 1
        (.seq (.dreg [⟨some 14, none, .mv (.t 0)⟩,
            ⟨some 15, none, .mv (.t 6)⟩,
            ⟨some 16, none, .mv (.t 0)⟩,
            ⟨some 17, none, .mv (.t 7)⟩,
            ⟨some 18, none, .mv (.t 0)⟩,
            ⟨some 19, none, .mv (.t 7)⟩,
            ⟨some 20, none, .ixS 1 (.t 18) (.t 19)⟩,
            ⟨some 21, none, .load none (.t 20)⟩,
            ⟨some 22, none, .mv (.t 0)⟩,
            ⟨some 23, none, .mv (.t 6)⟩,
            ⟨some 24, none, .ixS 1 (.t 22) (.t 23)⟩,
            ⟨some 25, none, .load none (.t 24)⟩,
            ⟨some 26, none, .ixS 1 (.t 14) (.t 15)⟩,
            ⟨none, none, .store 1 (.t 26) (.t 21)⟩,
            ⟨some 27, none, .ixS 1 (.t 16) (.t 17)⟩,
            ⟨none, none, .store 1 (.t 27) (.t 25)⟩] [0, 6, 7] [[], [], [], [], [], [], [4, 5], [4, 5, 6], [], [], [8, 9], [8, 9, 10], [0, 1, 4, 5, 6, 7, 8, 9, 10, 11], [0, 1, 4, 5, 6, 7, 8, 9, 10, 11, 12], [0, 1, 2, 3, 4, 5, 6, 7, 8, 9, 10, 11, 12, 13], [0, 1, 2, 3, 4, 5, 6, 7, 8, 9, 10, 11, 12, 13, 14]])
        (.seq (.reg [⟨some 28, none, .mv (.t 6)⟩,
            ⟨some 29, none, .bin .add (.t 28) (.c (.int .i64 1))⟩,
            ⟨some 6, none, .mv (.t 29)⟩] [0, 6, 7])
        (.reg [⟨some 30, none, .mv (.t 7)⟩,
            ⟨some 31, none, .bin .sub (.t 30) (.c (.int .i64 1))⟩,
            ⟨some 7, none, .mv (.t 31)⟩] [0, 6, 7])))))))))
abbrev R_slices_reverseRangeOrdered_int : List (Nat × Option (Option Nat)) := []
theorem K_slices_reverseRangeOrdered_int : chkF Try.prog Try.f103 32 C_slices_reverseRangeOrdered_int R_slices_reverseRangeOrdered_int = true := by kernel_rfl
theorem spec_slices_reverseRangeOrdered_int {args : List AVal} {σ : AHeap} {R : ARes → AHeap → Prop} (ha : args.length ≤ 32) (h : AW Try.prog 32 none C_slices_reverseRangeOrdered_int (bodyQ R_slices_reverseRangeOrdered_int R) { v := argEnv args 0, ds := [] } σ) : Spec Try.prog F_slices_reverseRangeOrdered_int args σ R := Spec.of_fn Try.func103 K_slices_reverseRangeOrdered_int ha h
theorem B_slices_reverseRangeOrdered_int : hasBody Try.prog F_slices_reverseRangeOrdered_int = true := by kernel_rfl
theorem E_slices_reverseRangeOrdered_int : EntOk Try.prog ⟨103, 32, C_slices_reverseRangeOrdered_int, R_slices_reverseRangeOrdered_int, false⟩ := ⟨fun _ => ⟨B_slices_reverseRangeOrdered_int, _, Try.func103, K_slices_reverseRangeOrdered_int⟩, fun h => by cases h⟩

abbrev F_slices_partialInsertionSortOrdered_int : FuncId := 104
/-- slices.partialInsertionSortOrdered[int]: parameters ['[]int', 'int', 'int'], results ['bool'] -/
def C_slices_partialInsertionSortOrdered_int : AC :=
  (.seq (.reg [⟨some 6, none, .mv (.c (.bool false))⟩] [0, 1, 2])
  (.seq (.reg [⟨some 11, none, .mv (.t 1)⟩,
      ⟨some 12, none, .bin .add (.t 11) (.c (.int .i64 1))⟩,
      ⟨some 7, none, .mv (.t 12)⟩] [0, 1, 2, 7])
  (.seq (.seq (.reg [⟨some 8, none, .mv (.c (.int .i64 0))⟩] [0, 1, 2, 7, 8])
  (.block 0
    (.loop [0, 1, 2, 7, 8]
      (.seq (.seq (.reg [⟨some 13, none, .mv (.t 8)⟩,
          ⟨some 14, none, .bin .lss (.t 13) (.c (.int .i64 5))⟩] [0, 1, 2, 7, 8, 14])
      (.cond (.t 14)
        .skip
        (.exit 0)))
      (.seq (.block 1
        (.seq (.block 2
          (.loop [0, 1, 2, 7, 8]
            (.seq (.seq (.dreg [⟨some 17, none, .mv (.t 7)⟩,
                ⟨some 18, none, .mv (.t 2)⟩,
                ⟨some 19, none, .bin .lss (.t 17) (.t 18)⟩,
                ⟨some 20, none, .mv (.t 19)⟩,
                ⟨some 21, (some (20, true)), .mv (.t 0)⟩,
                ⟨some 22, (some (20, true)), .mv (.t 7)⟩,
                ⟨some 23, (some (20, true)), .ixS 1 (.t 21) (.t 22)⟩,
                ⟨some 24, (some (20, true)), .load none (.t 23)⟩,
                ⟨some 25, (some (20, true)), .mv (.t 0)⟩,
                ⟨some 26, (some (20, true)), .mv (.t 7)⟩,
                ⟨some 27, (some (20, true)), .bin .sub (.t 26) (.c (.int .i64 1))⟩,
                ⟨some 28, (some (20, true)), .ixS 1 (.t 25) (.t 27)⟩,
                ⟨some 29, (some (20, true)), .load none (.t 28)⟩,
                ⟨some 30, (some (20, true)), .call (.f 105) [false, false] [(.t 24), (.t 29)]⟩,
                ⟨some 31, (some (20, true)), .un .not (.t 30)⟩,
                ⟨some 32, none, .pick (.t 20) (.t 31) (.c (.bool false))⟩] [0, 1, 2, 7, 8, 32] [[], [], [0, 1], [0, 1, 2], [0, 1, 2, 3], [0, 1, 2, 3], [0, 1, 2, 3, 4, 5], [0, 1, 2, 3, 4, 5, 6], [0, 1, 2, 3], [0, 1, 2, 3], [0, 1, 2, 3, 9], [0, 1, 2, 3, 8, 9, 10], [0, 1, 2, 3, 8, 9, 10, 11], [0, 1, 2, 3, 4, 5, 6, 7, 8, 9, 10, 11, 12], [0, 1, 2, 3, 4, 5, 6, 7, 8, 9, 10, 11, 12, 13], [0, 1, 2, 3, 4, 5, 6, 7, 8, 9, 10, 11, 12, 13, 14]])
            (.cond (.t 32)
              .skip
              (.exit 2)))
            (.block 3
              (.reg [⟨some 33, none, .mv (.t 7)⟩,
                  ⟨some 34, none, .bin .add (.t 33) (.c (.int .i64 1))⟩,
                  ⟨some 7, none, .mv (.t 34)⟩] [0, 1, 2, 7, 8])))))
        (.seq (.seq (.reg [⟨some 35, none, .mv (.t 7)⟩,
            ⟨some 36, none, .mv (.t 2)⟩,
            ⟨some 37, none, .bin .eql (.t 35) (.t 36)⟩] [0, 1, 2, 7, 8, 37])
        (.cond (.t 37)
          (.seq (.reg [⟨some 6, none, .mv (.c (.bool true))⟩] [6])
          .ret)
          .skip))
        (.seq (.seq (.reg [⟨some 38, none, .mv (.t 2)⟩,
            ⟨some 39, none, .mv (.t 1)⟩,
            ⟨some 40, none, .bin .sub (.t 38) (.t 39)⟩,
            ⟨some 41, none, .bin .lss (.t 40) (.c (.int .i64 50))⟩] [0, 1, 2, 7, 8, 41])
        (.cond (.t 41)
          (.seq (.reg [⟨some 6, none, .mv (.c (.bool false))⟩] [6])
          .ret)
          .skip))
        (.seq (.dreg [⟨some 42, none, .mv (.t 0)⟩,
            ⟨some 43, none, .mv (.t 7)⟩,
            ⟨some 44, none, .mv (.t 0)⟩,
            ⟨some 45, none, .mv (.t 7)⟩,
            ⟨some 46, none, .bin .sub (.t 45) (.c (.int .i64 1))⟩,
            ⟨some 47, none, .mv (.t 0)⟩,
            ⟨some 48, none, .mv (.t 7)⟩,
            ⟨some 49, none, .bin .sub (.t 48) (.c (.int .i64 1))⟩,
            ⟨some 50, none, .ixS 1 (.t 47) (.t 49)⟩,
            ⟨some 51, none, .load none (.t 50)⟩,
            ⟨some 52, none, .mv (.t 0)⟩,
            ⟨some 53, none, .mv (.t 7)⟩,
            ⟨some 54, none, .ixS 1 (.t 52) (.t 53)⟩,
            ⟨some 55, none, .load none (.t 54)⟩,
            ⟨some 56, none, .ixS 1 (.t 42) (.t 43)⟩,
            ⟨none, none, .store 1 (.t 56) (.t 51)⟩,
            ⟨some 57, none, .ixS 1 (.t 44) (.t 46)⟩,
            ⟨none, none, .store 1 (.t 57) (.t 55)⟩] [0, 1, 2, 7, 8] [[], [], [], [], [3], [], [], [6], [5, 6, 7], [5, 6, 7, 8], [], [], [10, 11], [10, 11, 12], [0, 1, 5, 6, 7, 8, 9, 10, 11, 12, 13], [0, 1, 5, 6, 7, 8, 9, 10, 11, 12, 13, 14], [0, 1, 2, 3, 4, 5, 6, 7, 8, 9, 10, 11, 12, 13, 14, 15], [0, 1, 2, 3, 4, 5, 6, 7, 8, 9, 10, 11, 12, 13, 14, 15, 16]])
        (.seq (.seq (.reg [⟨some 58, none, .mv (.t 7)⟩,
            ⟨some 59, none, .mv (.t 1)⟩,
            ⟨some 60, none, .bin .sub (.t 58) (.t 59)⟩,
            ⟨some 61, none, .bin .geq (.t 60) (.c (.int .i64 2))⟩] [0, 1, 2, 7, 8, 61])
        (.cond (.t 61)
          (.seq (.reg [⟨some 62, none, .mv (.t 7)⟩,
              ⟨some 63, none, .bin .sub (.t 62) (.c (.int .i64 1))⟩,
              ⟨some 9, none, .mv (.t 63)⟩] [0, 1, 2, 7, 8, 9])
          (.block 4
            (.loop [0, 1, 2, 7, 8, 9]
              (.seq (.seq (.reg [⟨some 64, none, .mv (.t 9)⟩,
                  ⟨some 65, none, .bin .geq (.t 64) (.c (.int .i64 1))⟩] [0, 1, 2, 7, 8, 9, 65])
              (.cond (.t 65)
                .skip
                (.exit 4)))
              (.seq (.block 5
                (.seq (.seq (.dreg [⟨some 68, none, .mv (.t 0)⟩,
                    ⟨some 69, none, .mv (.t 9)⟩,
                    ⟨some 70, none, .ixS 1 (.t 68) (.t 69)⟩,
                    ⟨some 71, none, .load none (.t 70)⟩,
                    ⟨some 72, none, .mv (.t 0)⟩,
                    ⟨some 73, none, .mv (.t 9)⟩,
                    ⟨some 74, none, .bin .sub (.t 73) (.c (.int .i64 1))⟩,
                    ⟨some 75, none, .ixS 1 (.t 72) (.t 74)⟩,
                    ⟨some 76, none, .load none (.t 75)⟩,
                    ⟨some 77, none, .call (.f 105) [false, false] [(.t 71), (.t 76)]⟩,
                    ⟨some 78, none, .un .not (.t 77)⟩] [0, 1, 2, 7, 8, 9, 78] [[], [], [0, 1], [0, 1, 2], [], [], [5], [4, 5, 6], [4, 5, 6, 7], [0, 1, 2, 3, 4, 5, 6, 7, 8], [0, 1, 2, 3, 4, 5, 6, 7, 8, 9]])
                (.cond (.t 78)
                  (.exit 4)
                  .skip))
                (.dreg [⟨some 79, none, .mv (.t 0)⟩,
                    ⟨some 80, none, .mv (.t 9)⟩,
                    ⟨some 81, none, .mv (.t 0)⟩,
                    ⟨some 82, none, .mv (.t 9)⟩,
                    ⟨some 83, none, .bin .sub (.t 82) (.c (.int .i64 1))⟩,
                    ⟨some 84, none, .mv (.t 0)⟩,
                    ⟨some 85, none, .mv (.t 9)⟩,
                    ⟨some 86, none, .bin .sub (.t 85) (.c (.int .i64 1))⟩,
                    ⟨some 87, none, .ixS 1 (.t 84) (.t 86)⟩,
                    ⟨some 88, none, .load none (.t 87)⟩,
                    ⟨some 89, none, .mv (.t 0)⟩,
                    ⟨some 90, none, .mv (.t 9)⟩,
                    ⟨some 91, none, .ixS 1 (.t 89) (.t 90)⟩,
                    ⟨some 92, none, .load none (.t 91)⟩,
                    ⟨some 93, none, .ixS 1 (.t 79) (.t 80)⟩,
                    ⟨none, none, .store 1 (.t 93) (.t 88)⟩,
                    ⟨some 94, none, .ixS 1 (.t 81) (.t 83)⟩,
                    ⟨none, none, .store 1 (.t 94) (.t 92)⟩] [0, 1, 2, 7, 8, 9] [[], [], [], [], [3], [], [], [6], [5, 6, 7], [5, 6, 7, 8], [], [], [10, 11], [10, 11, 12], [0, 1, 5, 6, 7, 8, 9, 10, 11, 12, 13], [0, 1, 5, 6, 7, 8, 9, 10, 11, 12, 13, 14], [0, 1, 2, 3, 4, 5, 6, 7, 8, 9, 10, 11, 12, 13, 14, 15], [0, 1, 2, 3, 4, 5, 6, 7, 8, 9, 10, 11, 12, 13, 14, 15, 16]])))
              (.reg [⟨some 66, none, .mv (.t 9)⟩,
                  ⟨some 67, none, .bin .sub (.t 66) (.c (.int .i64 1))⟩,
                  ⟨some 9, none, .mv (.t 67)⟩] [0, 1, 2, 7, 8, 9]))))))
          .skip))
        (.seq (.reg [⟨some 95, none, .mv (.t 2)⟩,
            ⟨some 96, none, .mv (.t 7)⟩,
            ⟨some 97, none, .bin .sub (.t 95) (.t 96)⟩,
            ⟨some 98, none, .bin .geq (.t 97) (.c (.int .i64 2))⟩] [0, 1, 2, 7, 8, 98])
        (.cond (.t 98)
          (.seq (.reg [⟨some 99, none, .mv (.t 7)⟩,
              ⟨some 100, none, .bin .add (.t 99) (.c (.int .i64 1))⟩,
              ⟨some 10, none, .mv (.t 100)⟩] [0, 1, 2, 7, 8, 10])
          (.block 6
            (.loop [0, 1, 2, 7, 8, 10]
              (.seq (.seq (.reg [⟨some 101, none, .mv (.t 10)⟩,
                  ⟨some 102, none, .mv (.t 2)⟩,
                  ⟨some 103, none, .bin .lss (.t 101) (.t 102)⟩] [0, 1, 2, 7, 8, 10, 103])
              (.cond (.t 103)
                .skip
                (.exit 6)))
              (.seq (.block 7
                (.seq (.seq (.dreg [⟨some 106, none, .mv (.t 0)⟩,
                    ⟨some 107, none, .mv (.t 10)⟩,
                    ⟨some 108, none, .ixS 1 (.t 106) (.t 107)⟩,
                    ⟨some 109, none, .load none (.t 108)⟩,
                    ⟨some 110, none, .mv (.t 0)⟩,
                    ⟨some 111, none, .mv (.t 10)⟩,
                    ⟨some 112, none, .bin .sub (.t 111) (.c (.int .i64 1))⟩,
                    ⟨some 113, none, .ixS 1 (.t 110) (.t 112)⟩,
                    ⟨some 114, none, .load none (.t 113)⟩,
                    ⟨some 115, none, .call (.f 105) [false, false] [(.t 109), (.t 114)]⟩,
                    ⟨some 116, none, .un .not (.t 115)⟩] [0, 1, 2, 7, 8, 10, 116] [[], [], [0, 1], [0, 1, 2], [], [], [5], [4, 5, 6], [4, 5, 6, 7], [0, 1, 2, 3, 4, 5, 6, 7, 8], [0, 1, 2, 3, 4, 5, 6, 7, 8, 9]])
                (.cond (.t 116)
                  (.exit 6)
                  .skip))
                (.dreg [⟨some 117, none, .mv (.t 0)⟩,
                    ⟨some 118, none, .mv (.t 10)⟩,
                    ⟨some 119, none, .mv (.t 0)⟩,
                    ⟨some 120, none, .mv (.t 10)⟩,
                    ⟨some 121, none, .bin .sub (.t 120) (.c (.int .i64 1))⟩,
                    ⟨some 122, none, .mv (.t 0)⟩,
                    ⟨some 123, none, .mv (.t 10)⟩,
                    ⟨some 124, none, .bin .sub (.t 123) (.c (.int .i64 1))⟩,
                    ⟨some 125, none, .ixS 1 (.t 122) (.t 124)⟩,
                    ⟨some 126, none, .load none (.t 125)⟩,
                    ⟨some 127, none, .mv (.t 0)⟩,
                    ⟨some 128, none, .mv (.t 10)⟩,
                    ⟨some 129, none, .ixS 1 (.t 127) (.t 128)⟩,
                    ⟨some 130, none, .load none (.t 129)⟩,
                    ⟨some 131, none, .ixS 1 (.t 117) (.t 118)⟩,
                    ⟨none, none, .store 1 (.t 131) (.t 126)⟩,
                    ⟨some 132, none, .ixS 1 (.t 119) (.t 121)⟩,
                    ⟨none, none, .store 1 (.t 132) (.t 130)⟩] [0, 1, 2, 7, 8, 10] [[], [], [], [], [3], [], [], [6], [5, 6, 7], [5, 6, 7, 8], [], [], [10, 11], [10, 11, 12], [0, 1, 5, 6, 7, 8, 9, 10, 11, 12, 13], [0, 1, 5, 6, 7, 8, 9, 10, 11, 12, 13, 14], [0, 1, 2, 3, 4, 5, 6, 7, 8, 9, 10, 11, 12, 13, 14, 15], [0, 1, 2, 3, 4, 5, 6, 7, 8, 9, 10, 11, 12, 13, 14, 15, 16]])))
              (.reg [⟨some 104, none, .mv (.t 10)⟩,
                  ⟨some 105, none, .bin .add (.t 104) (.c (.int .i64 1))⟩,
                  ⟨some 10, none, .mv (.t 105)⟩] [0, 1, 2, 7, 8, 10]))))))
          .skip))))))))
      (.reg [⟨some 15, none, .mv (.t 8)⟩,
          ⟨some 16, none, .bin .add (.t 15) (.c (.int .i64 1))⟩,
          ⟨some 8, none, .mv (.t 16)⟩] [0, 1, 2, 7, 8]))))))
  (.seq (.reg [⟨some 6, none, .mv (.c (.bool false))⟩] [6])
  .ret))))
abbrev R_slices_partialInsertionSortOrdered_int : List (Nat × Option (Option Nat)) := [(6, none)]
theorem K_slices_partialInsertionSortOrdered_int : chkF Try.prog Try.f104 133 C_slices_partialInsertionSortOrdered_int R_slices_partialInsertionSortOrdered_int = true := by kernel_rfl
theorem spec_slices_partialInsertionSortOrdered_int {args : List AVal} {σ : AHeap} {R : ARes → AHeap → Prop} (ha : args.length ≤ 133) (h : AW Try.prog 133 none C_slices_partialInsertionSortOrdered_int (bodyQ R_slices_partialInsertionSortOrdered_int R) { v := argEnv args 0, ds := [] } σ) : Spec Try.prog F_slices_partialInsertionSortOrdered_int args σ R := Spec.of_fn Try.func104 K_slices_partialInsertionSortOrdered_int ha h
theorem B_slices_partialInsertionSortOrdered_int : hasBody Try.prog F_slices_partialInsertionSortOrdered_int = true := by kernel_rfl
theorem E_slices_partialInsertionSortOrdered_int : EntOk Try.prog ⟨104, 133, C_slices_partialInsertionSortOrdered_int, R_slices_partialInsertionSortOrdered_int, false⟩ := ⟨fun _ => ⟨B_slices_partialInsertionSortOrdered_int, _, Try.func104, K_slices_partialInsertionSortOrdered_int⟩, fun h => by cases h⟩

abbrev F_cmp_Less_int : FuncId := 105
/-- cmp.Less[int]: parameters ['int', 'int'], results ['bool'] -/
def C_cmp_Less_int : AC :=
  (.seq (.reg [⟨some 4, none, .mv (.c (.bool false))⟩] [0, 1])
  (.seq (.reg [⟨some 5, none, .mv (.t 0)⟩,
      ⟨some 6, none, .call (.f 115) [false] [(.t 5)]⟩,
      ⟨some 7, none, .mv (.t 6)⟩,
      ⟨some 8, (some (7, true)), .mv (.t 1)⟩,
      ⟨some 9, (some (7, true)), .call (.f 115) [false] [(.t 8)]⟩,
      ⟨some 10, (some (7, true)), .un .not (.t 9)⟩,
      ⟨some 11, none, .pick (.t 7) (.t 10) (.c (.bool false))⟩,
      ⟨some 12, none, .mv (.t 11)⟩,
      ⟨some 13, (some (12, false)), .mv (.t 0)⟩,
      ⟨some 14, (some (12, false)), .mv (.t 1)⟩,
      ⟨some 15, (some (12, false)), .bin .lss (.t 13) (.t 14)⟩,
      ⟨some 16, none, .pick (.t 12) (.c (.bool true)) (.t 15)⟩,
      ⟨some 4, none, .mv (.t 16)⟩] [4])
  .ret))
abbrev R_cmp_Less_int : List (Nat × Option (Option Nat)) := [(4, none)]
theorem K_cmp_Less_int : chkF Try.prog Try.f105 17 C_cmp_Less_int R_cmp_Less_int = true := by kernel_rfl
theorem spec_cmp_Less_int {args : List AVal} {σ : AHeap} {R : ARes → AHeap → Prop} (ha : args.length ≤ 17) (h : AW Try.prog 17 none C_cmp_Less_int (bodyQ R_cmp_Less_int R) { v := argEnv args 0, ds := [] } σ) : Spec Try.prog F_cmp_Less_int args σ R := Spec.of_fn Try.func105 K_cmp_Less_int ha h
theorem B_cmp_Less_int : hasBody Try.prog F_cmp_Less_int = true := by kernel_rfl
theorem E_cmp_Less_int : EntOk Try.prog ⟨105, 17, C_cmp_Less_int, R_cmp_Less_int, false⟩ := ⟨fun _ => ⟨B_cmp_Less_int, _, Try.func105, K_cmp_Less_int⟩, fun h => by cases h⟩

abbrev F_slices_partitionEqualOrdered_int : FuncId := 106
/-- slices.partitionEqualOrdered[int]: parameters ['[]int', 'int', 'int', 'int'], results ['int'] -/
def C_slices_partitionEqualOrdered_int : AC :=
  (.seq (.reg [⟨some 8, none, .mv (.c (.int .i64 0))⟩] [0, 1, 2, 3])
  (.seq (.dreg [⟨some 11, none, .mv (.t 0)⟩,
      ⟨some 12, none, .mv (.t 1)⟩,
      ⟨some 13, none, .mv (.t 0)⟩,
      ⟨some 14, none, .mv (.t 3)⟩,
      ⟨some 15, none, .mv (.t 0)⟩,
      ⟨some 16, none, .mv (.t 3)⟩,
      ⟨some 17, none, .ixS 1 (.t 15) (.t 16)⟩,
      ⟨some 18, none, .load none (.t 17)⟩,
      ⟨some 19, none, .mv (.t 0)⟩,
      ⟨some 20, none, .mv (.t 1)⟩,
      ⟨some 21, none, .ixS 1 (.t 19) (.t 20)⟩,
      ⟨some 22, none, .load none (.t 21)⟩,
      ⟨some 23, none, .ixS 1 (.t 11) (.t 12)⟩,
      ⟨none, none, .store 1 (.t 23) (.t 18)⟩,
      ⟨some 24, none, .ixS 1 (.t 13) (.t 14)⟩,
      ⟨none, none, .store 1 (.t 24) (.t 22)⟩] [0, 1, 2] [[], [], [], [], [], [], [4, 5], [4, 5, 6], [], [], [8, 9], [8, 9, 10], [0, 1, 4, 5, 6, 7, 8, 9, 10, 11], [0, 1, 4, 5, 6, 7, 8, 9, 10, 11, 12], [0, 1, 2, 3, 4, 5, 6, 7, 8, 9, 10, 11, 12, 13], [0, 1, 2, 3, 4, 5, 6, 7, 8, 9, 10, 11, 12, 13, 14]])
  (.seq (.reg [⟨some 25, none, .mv (.t 1)⟩,
      ⟨some 26, none, .bin .add (.t 25) (.c (.int .i64 1))⟩,
      ⟨some 27, none, .mv (.t 2)⟩,
      ⟨some 28, none, .bin .sub (.t 27) (.c (.int .i64 1))⟩,
      ⟨some 9, none, .mv (.t 26)⟩,
      ⟨some 10, none, .mv (.t 28)⟩] [0, 1, 9, 10])
  (.seq (.block 0
    (.loop [0, 1, 9, 10]
      (.block 1
        (.seq (.block 2
          (.loop [0, 1, 9, 10]
            (.seq (.seq (.dreg [⟨some 29, none, .mv (.t 9)⟩,
                ⟨some 30, none, .mv (.t 10)⟩,
                ⟨some 31, none, .bin .leq (.t 29) (.t 30)⟩,
                ⟨some 32, none, .mv (.t 31)⟩,
                ⟨some 33, (some (32, true)), .mv (.t 0)⟩,
                ⟨some 34, (some (32, true)), .mv (.t 1)⟩,
                ⟨some 35, (some (32, true)), .ixS 1 (.t 33) (.t 34)⟩,
                ⟨some 36, (some (32, true)), .load none (.t 35)⟩,
                ⟨some 37, (some (32, true)), .mv (.t 0)⟩,
                ⟨some 38, (some (32, true)), .mv (.t 9)⟩,
                ⟨some 39, (some (32, true)), .ixS 1 (.t 37) (.t 38)⟩,
                ⟨some 40, (some (32, true)), .load none (.t 39)⟩,
                ⟨some 41, (some (32, true)), .call (.f 105) [false, false] [(.t 36), (.t 40)]⟩,
                ⟨some 42, (some (32, true)), .un .not (.t 41)⟩,
                ⟨some 43, none, .pick (.t 32) (.t 42) (.c (.bool false))⟩] [0, 1, 9, 10, 43] [[], [], [0, 1], [0, 1, 2], [0, 1, 2, 3], [0, 1, 2, 3], [0, 1, 2, 3, 4, 5], [0, 1, 2, 3, 4, 5, 6], [0, 1, 2, 3], [0, 1, 2, 3], [0, 1, 2, 3, 8, 9], [0, 1, 2, 3, 8, 9, 10], [0, 1, 2, 3, 4, 5, 6, 7, 8, 9, 10, 11], [0, 1, 2, 3, 4, 5, 6, 7, 8, 9, 10, 11, 12], [0, 1, 2, 3, 4, 5, 6, 7, 8, 9, 10, 11, 12, 13]])
            (.cond (.t 43)
              .skip
              (.exit 2)))
            (.block 3
              (.reg [⟨some 44, none, .mv (.t 9)⟩,
                  ⟨some 45, none, .bin .add (.t 44) (.c (.int .i64 1))⟩,
                  ⟨some 9, none, .mv (.t 45)⟩] [0, 1, 9, 10])))))
        (.seq (.block 4
          (.loop [0, 1, 9, 10]
            (.seq (.seq (.dreg [⟨some 46, none, .mv (.t 9)⟩,
                ⟨some 47, none, .mv (.t 10)⟩,
                ⟨some 48, none, .bin .leq (.t 46) (.t 47)⟩,
                ⟨some 49, none, .mv (.t 48)⟩,
                ⟨some 50, (some (49, true)), .mv (.t 0)⟩,
                ⟨some 51, (some (49, true)), .mv (.t 1)⟩,
                ⟨some 52, (some (49, true)), .ixS 1 (.t 50) (.t 51)⟩,
                ⟨some 53, (some (49, true)), .load none (.t 52)⟩,
                ⟨some 54, (some (49, true)), .mv (.t 0)⟩,
                ⟨some 55, (some (49, true)), .mv (.t 10)⟩,
                ⟨some 56, (some (49, true)), .ixS 1 (.t 54) (.t 55)⟩,
                ⟨some 57, (some (49, true)), .load none (.t 56)⟩,
                ⟨some 58, (some (49, true)), .call (.f 105) [false, false] [(.t 53), (.t 57)]⟩,
                ⟨some 59, none, .pick (.t 49) (.t 58) (.c (.bool false))⟩] [0, 1, 9, 10, 59] [[], [], [0, 1], [0, 1, 2], [0, 1, 2, 3], [0, 1, 2, 3], [0, 1, 2, 3, 4, 5], [0, 1, 2, 3, 4, 5, 6], [0, 1, 2, 3], [0, 1, 2, 3], [0, 1, 2, 3, 8, 9], [0, 1, 2, 3, 8, 9, 10], [0, 1, 2, 3, 4, 5, 6, 7, 8, 9, 10, 11], [0, 1, 2, 3, 4, 5, 6, 7, 8, 9, 10, 11, 12]])
            (.cond (.t 59)
              .skip
              (.exit 4)))
            (.block 5
              (.reg [⟨some 60, none, .mv (.t 10)⟩,
                  ⟨some 61, none, .bin .sub (.t 60) (.c (.int .i64 1))⟩,
                  ⟨some 10, none, .mv (.t 61)⟩] [0, 1, 9, 10])))))
        (.seq (.seq (.reg [⟨some 62, none, .mv (.t 9)⟩,
            ⟨some 63, none, .mv (.t 10)⟩,
            ⟨some 64, none, .bin .gtr (.t 62) (.t 63)⟩] [0, 1, 9, 10, 64])
        (.cond (.t 64)
          (.exit 0)
          .skip))
        (.seq (.dreg [⟨some 65, none, .mv (.t 0)⟩,
            ⟨some 66, none, .mv (.t 9)⟩,
            ⟨some 67, none, .mv (.t 0)⟩,
            ⟨some 68, none, .mv (.t 10)⟩,
            ⟨some 69, none, .mv (.t 0)⟩,
            ⟨some 70, none, .mv (.t 10)⟩,
            ⟨some 71, none, .ixS 1 (.t 69) (.t 70)⟩,
            ⟨some 72, none, .load none (.t 71)⟩,
            ⟨some 73, none, .mv (.t 0)⟩,
            ⟨some 74, none, .mv (.t 9)⟩,
            ⟨some 75, none, .ixS 1 (.t 73) (.t 74)⟩,
            ⟨some 76, none, .load none (.t 75)⟩,
            ⟨some 77, none, .ixS 1 (.t 65) (.t 66)⟩,
            ⟨none, none, .store 1 (.t 77) (.t 72)⟩,
            ⟨some 78, none, .ixS 1 (.t 67) (.t 68)⟩,
            ⟨none, none, .store 1 (.t 78) (.t 76)⟩] [0, 1, 9, 10] [[], [], [], [], [], [], [4, 5], [4, 5, 6], [], [], [8, 9], [8, 9, 10], [0, 1, 4, 5, 6, 7, 8, 9, 10, 11], [0, 1, 4, 5, 6, 7, 8, 9, 10, 11, 12], [0, 1, 2, 3, 4, 5, 6, 7, 8, 9, 10, 11, 12, 13], [0, 1, 2, 3, 4, 5, 6, 7, 8, 9, 10, 11, 12, 13, 14]])
        (.seq (.reg [⟨some 79, none, .mv (.t 9)⟩,
            ⟨some 80, none, .bin .add (.t 79) (.c (.int .i64 1))⟩,
            ⟨some 9, none, .mv (.t 80)⟩] [0, 1, 9, 10])
        (.reg [⟨some 81, none, .mv (.t 10)⟩,
            ⟨some 82, none, .bin .sub (.t 81) (.c (.int .i64 1))⟩,
            ⟨some 10, none, .mv (.t 82)⟩] [0, 1, 9, 10])))))))))
  (.seq (.reg [⟨some 83, none, .mv (.t 9)⟩,
      ⟨some 8, none, .mv (.t 83)⟩] [8])
  .ret)))))
abbrev R_slices_partitionEqualOrdered_int : List (Nat × Option (Option Nat)) := [(8, none)]
theorem K_slices_partitionEqualOrdered_int : chkF Try.prog Try.f106 84 C_slices_partitionEqualOrdered_int R_slices_partitionEqualOrdered_int = true := by kernel_rfl
theorem spec_slices_partitionEqualOrdered_int {args : List AVal} {σ : AHeap} {R : ARes → AHeap → Prop} (ha : args.length ≤ 84) (h : AW Try.prog 84 none C_slices_partitionEqualOrdered_int (bodyQ R_slices_partitionEqualOrdered_int R) { v := argEnv args 0, ds := [] } σ) : Spec Try.prog F_slices_partitionEqualOrdered_int args σ R := Spec.of_fn Try.func106 K_slices_partitionEqualOrdered_int ha h
theorem B_slices_partitionEqualOrdered_int : hasBody Try.prog F_slices_partitionEqualOrdered_int = true := by kernel_rfl
theorem E_slices_partitionEqualOrdered_int : EntOk Try.prog ⟨106, 84, C_slices_partitionEqualOrdered_int, R_slices_partitionEqualOrdered_int, false⟩ := ⟨fun _ => ⟨B_slices_partitionEqualOrdered_int, _, Try.func106, K_slices_partitionEqualOrdered_int⟩, fun h => by cases h⟩

abbrev F_slices_partitionOrdered_int : FuncId := 107
/-- slices.partitionOrdered[int]: parameters ['[]int', 'int', 'int', 'int'], results ['int', 'bool'] -/
def C_slices_partitionOrdered_int : AC :=
  (.seq (.reg [⟨some 8, none, .mv (.c (.int .i64 0))⟩,
      ⟨some 9, none, .mv (.c (.bool false))⟩] [0, 1, 2, 3])
  (.seq (.dreg [⟨some 12, none, .mv (.t 0)⟩,
      ⟨some 13, none, .mv (.t 1)⟩,
      ⟨some 14, none, .mv (.t 0)⟩,
      ⟨some 15, none, .mv (.t 3)⟩,
      ⟨some 16, none, .mv (.t 0)⟩,
      ⟨some 17, none, .mv (.t 3)⟩,
      ⟨some 18, none, .ixS 1 (.t 16) (.t 17)⟩,
      ⟨some 19, none, .load none (.t 18)⟩,
      ⟨some 20, none, .mv (.t 0)⟩,
      ⟨some 21, none, .mv (.t 1)⟩,
      ⟨some 22, none, .ixS 1 (.t 20) (.t 21)⟩,
      ⟨some 23, none, .load none (.t 22)⟩,
      ⟨some 24, none, .ixS 1 (.t 12) (.t 13)⟩,
      ⟨none, none, .store 1 (.t 24) (.t 19)⟩,
      ⟨some 25, none, .ixS 1 (.t 14) (.t 15)⟩,
      ⟨none, none, .store 1 (.t 25) (.t 23)⟩] [0, 1, 2] [[], [], [], [], [], [], [4, 5], [4, 5, 6], [], [], [8, 9], [8, 9, 10], [0, 1, 4, 5, 6, 7, 8, 9, 10, 11], [0, 1, 4, 5, 6, 7, 8, 9, 10, 11, 12], [0, 1, 2, 3, 4, 5, 6, 7, 8, 9, 10, 11, 12, 13], [0, 1, 2, 3, 4, 5, 6, 7, 8, 9, 10, 11, 12, 13, 14]])
  (.seq (.reg [⟨some 26, none, .mv (.t 1)⟩,
      ⟨some 27, none, .bin .add (.t 26) (.c (.int .i64 1))⟩,
      ⟨some 28, none, .mv (.t 2)⟩,
      ⟨some 29, none, .bin .sub (.t 28) (.c (.int .i64 1))⟩,
      ⟨some 10, none, .mv (.t 27)⟩,
      ⟨some 11, none, .mv (.t 29)⟩] [0, 1, 10, 11])
  (.seq (.block 0
    (.loop [0, 1, 10, 11]
      (.seq (.seq (.dreg [⟨some 30, none, .mv (.t 10)⟩,
          ⟨some 31, none, .mv (.t 11)⟩,
          ⟨some 32, none, .bin .leq (.t 30) (.t 31)⟩,
          ⟨some 33, none, .mv (.t 32)⟩,
          ⟨some 34, (some (33, true)), .mv (.t 0)⟩,
          ⟨some 35, (some (33, true)), .mv (.t 10)⟩,
          ⟨some 36, (some (33, true)), .ixS 1 (.t 34) (.t 35)⟩,
          ⟨some 37, (some (33, true)), .load none (.t 36)⟩,
          ⟨some 38, (some (33, true)), .mv (.t 0)⟩,
          ⟨some 39, (some (33, true)), .mv (.t 1)⟩,
          ⟨some 40, (some (33, true)), .ixS 1 (.t 38) (.t 39)⟩,
          ⟨some 41, (some (33, true)), .load none (.t 40)⟩,
          ⟨some 42, (some (33, true)), .call (.f 105) [false, false] [(.t 37), (.t 41)]⟩,
          ⟨some 43, none, .pick (.t 33) (.t 42) (.c (.bool false))⟩] [0, 1, 10, 11, 43] [[], [], [0, 1], [0, 1, 2], [0, 1, 2, 3], [0, 1, 2, 3], [0, 1, 2, 3, 4, 5], [0, 1, 2, 3, 4, 5, 6], [0, 1, 2, 3], [0, 1, 2, 3], [0, 1, 2, 3, 8, 9], [0, 1, 2, 3, 8, 9, 10], [0, 1, 2, 3, 4, 5, 6, 7, 8, 9, 10, 11], [0, 1, 2, 3, 4, 5, 6, 7, 8, 9, 10, 11, 12]])
      (.cond (.t 43)
        .skip
        (.exit 0)))
      (.block 1
        (.reg [⟨some 44, none, .mv (.t 10)⟩,
            ⟨some 45, none, .bin .add (.t 44) (.c (.int .i64 1))⟩,
            ⟨some 10, none, .mv (.t 45)⟩] [0, 1, 10, 11])))))
  (.seq (.block 2
    (.loop [0, 1, 10, 11]
      (.seq (.seq (.dreg [⟨some 46, none, .mv (.t 10)⟩,
          ⟨some 47, none, .mv (.t 11)⟩,
          ⟨some 48, none, .bin .leq (.t 46) (.t 47)⟩,
          ⟨some 49, none, .mv (.t 48)⟩,
          ⟨some 50, (some (49, true)), .mv (.t 0)⟩,
          ⟨some 51, (some (49, true)), .mv (.t 11)⟩,
          ⟨some 52, (some (49, true)), .ixS 1 (.t 50) (.t 51)⟩,
          ⟨some 53, (some (49, true)), .load none (.t 52)⟩,
          ⟨some 54, (some (49, true)), .mv (.t 0)⟩,
          ⟨some 55, (some (49, true)), .mv (.t 1)⟩,
          ⟨some 56, (some (49, true)), .ixS 1 (.t 54) (.t 55)⟩,
          ⟨some 57, (some (49, true)), .load none (.t 56)⟩,
          ⟨some 58, (some (49, true)), .call (.f 105) [false, false] [(.t 53), (.t 57)]⟩,
          ⟨some 59, (some (49, true)), .un .not (.t 58)⟩,
          ⟨some 60, none, .pick (.t 49) (.t 59) (.c (.bool false))⟩] [0, 1, 10, 11, 60] [[], [], [0, 1], [0, 1, 2], [0, 1, 2, 3], [0, 1, 2, 3], [0, 1, 2, 3, 4, 5], [0, 1, 2, 3, 4, 5, 6], [0, 1, 2, 3], [0, 1, 2, 3], [0, 1, 2, 3, 8, 9], [0, 1, 2, 3, 8, 9, 10], [0, 1, 2, 3, 4, 5, 6, 7, 8, 9, 10, 11], [0, 1, 2, 3, 4, 5, 6, 7, 8, 9, 10, 11, 12], [0, 1, 2, 3, 4, 5, 6, 7, 8, 9, 10, 11, 12, 13]])
      (.cond (.t 60)
        .skip
        (.exit 2)))
      (.block 3
        (.reg [⟨some 61, none, .mv (.t 11)⟩,
            ⟨some 62, none, .bin .sub (.t 61) (.c (.int .i64 1))⟩,
            ⟨some 11, none, .mv (.t 62)⟩] [0, 1, 10, 11])))))
  (.seq (.seq (.reg [⟨some 63, none, .mv (.t 10)⟩,
      ⟨some 64, none, .mv (.t 11)⟩,
      ⟨some 65, none, .bin .gtr (.t 63) (.t 64)⟩] [0, 1, 10, 11, 65])
  (.cond (.t 65)
    (.seq (.dreg [⟨some 66, none, .mv (.t 0)⟩,
        ⟨some 67, none, .mv (.t 11)⟩,
        ⟨some 68, none, .mv (.t 0)⟩,
        ⟨some 69, none, .mv (.t 1)⟩,
        ⟨some 70, none, .mv (.t 0)⟩,
        ⟨some 71, none, .mv (.t 1)⟩,
        ⟨some 72, none, .ixS 1 (.t 70) (.t 71)⟩,
        ⟨some 73, none, .load none (.t 72)⟩,
        ⟨some 74, none, .mv (.t 0)⟩,
        ⟨some 75, none, .mv (.t 11)⟩,
        ⟨some 76, none, .ixS 1 (.t 74) (.t 75)⟩,
        ⟨some 77, none, .load none (.t 76)⟩,
        ⟨some 78, none, .ixS 1 (.t 66) (.t 67)⟩,
        ⟨none, none, .store 1 (.t 78) (.t 73)⟩,
        ⟨some 79, none, .ixS 1 (.t 68) (.t 69)⟩,
        ⟨none, none, .store 1 (.t 79) (.t 77)⟩] [11] [[], [], [], [], [], [], [4, 5], [4, 5, 6], [], [], [8, 9], [8, 9, 10], [0, 1, 4, 5, 6, 7, 8, 9, 10, 11], [0, 1, 4, 5, 6, 7, 8, 9, 10, 11, 12], [0, 1, 2, 3, 4, 5, 6, 7, 8, 9, 10, 11, 12, 13], [0, 1, 2, 3, 4, 5, 6, 7, 8, 9, 10, 11, 12, 13, 14]])
    (.seq (.reg [⟨some 80, none, .mv (.t 11)⟩,
        ⟨some 8, none, .mv (.t 80)⟩,
        ⟨some 9, none, .mv (.c (.bool true))⟩] [8, 9])
    .ret))
    .skip))
  (.seq (.dreg [⟨some 81, none, .mv (.t 0)⟩,
      ⟨some 82, none, .mv (.t 10)⟩,
      ⟨some 83, none, .mv (.t 0)⟩,
      ⟨some 84, none, .mv (.t 11)⟩,
      ⟨some 85, none, .mv (.t 0)⟩,
      ⟨some 86, none, .mv (.t 11)⟩,
      ⟨some 87, none, .ixS 1 (.t 85) (.t 86)⟩,
      ⟨some 88, none, .load none (.t 87)⟩,
      ⟨some 89, none, .mv (.t 0)⟩,
      ⟨some 90, none, .mv (.t 10)⟩,
      ⟨some 91, none, .ixS 1 (.t 89) (.t 90)⟩,
      ⟨some 92, none, .load none (.t 91)⟩,
      ⟨some 93, none, .ixS 1 (.t 81) (.t 82)⟩,
      ⟨none, none, .store 1 (.t 93) (.t 88)⟩,
      ⟨some 94, none, .ixS 1 (.t 83) (.t 84)⟩,
      ⟨none, none, .store 1 (.t 94) (.t 92)⟩] [0, 1, 10, 11] [[], [], [], [], [], [], [4, 5], [4, 5, 6], [], [], [8, 9], [8, 9, 10], [0, 1, 4, 5, 6, 7, 8, 9, 10, 11], [0, 1, 4, 5, 6, 7, 8, 9, 10, 11, 12], [0, 1, 2, 3, 4, 5, 6, 7, 8, 9, 10, 11, 12, 13], [0, 1, 2, 3, 4, 5, 6, 7, 8, 9, 10, 11, 12, 13, 14]])
  (.seq (.reg [⟨some 95, none, .mv (.t 10)⟩,
      ⟨some 96, none, .bin .add (.t 95) (.c (.int .i64 1))⟩,
      ⟨some 10, none, .mv (.t 96)⟩] [0, 1, 10, 11])
  (.seq (.reg [⟨some 97, none, .mv (.t 11)⟩,
      ⟨some 98, none, .bin .sub (.t 97) (.c (.int .i64 1))⟩,
      ⟨some 11, none, .mv (.t 98)⟩] [0, 1, 10, 11])
  (.seq (.block 4
    (.loop [0, 1, 10, 11]
      (.block 5
        (.seq (.block 6
          (.loop [0, 1, 10, 11]
            (.seq (.seq (.dreg [⟨some 99, none, .mv (.t 10)⟩,
                ⟨some 100, none, .mv (.t 11)⟩,
                ⟨some 101, none, .bin .leq (.t 99) (.t 100)⟩,
                ⟨some 102, none, .mv (.t 101)⟩,
                ⟨some 103, (some (102, true)), .mv (.t 0)⟩,
                ⟨some 104, (some (102, true)), .mv (.t 10)⟩,
                ⟨some 105, (some (102, true)), .ixS 1 (.t 103) (.t 104)⟩,
                ⟨some 106, (some (102, true)), .load none (.t 105)⟩,
                ⟨some 107, (some (102, true)), .mv (.t 0)⟩,
                ⟨some 108, (some (102, true)), .mv (.t 1)⟩,
                ⟨some 109, (some (102, true)), .ixS 1 (.t 107) (.t 108)⟩,
                ⟨some 110, (some (102, true)), .load none (.t 109)⟩,
                ⟨some 111, (some (102, true)), .call (.f 105) [false, false] [(.t 106), (.t 110)]⟩,
                ⟨some 112, none, .pick (.t 102) (.t 111) (.c (.bool false))⟩] [0, 1, 10, 11, 112] [[], [], [0, 1], [0, 1, 2], [0, 1, 2, 3], [0, 1, 2, 3], [0, 1, 2, 3, 4, 5], [0, 1, 2, 3, 4, 5, 6], [0, 1, 2, 3], [0, 1, 2, 3], [0, 1, 2, 3, 8, 9], [0, 1, 2, 3, 8, 9, 10], [0, 1, 2, 3, 4, 5, 6, 7, 8, 9, 10, 11], [0, 1, 2, 3, 4, 5, 6, 7, 8, 9, 10, 11, 12]])
            (.cond (.t 112)
              .skip
              (.exit 6)))
            (.block 7
              (.reg [⟨some 113, none, .mv (.t 10)⟩,
                  ⟨some 114, none, .bin .add (.t 113) (.c (.int .i64 1))⟩,
                  ⟨some 10, none, .mv (.t 114)⟩] [0, 1, 10, 11])))))
        (.seq (.block 8
          (.loop [0, 1, 10, 11]
            (.seq (.seq (.dreg [⟨some 115, none, .mv (.t 10)⟩,
                ⟨some 116, none, .mv (.t 11)⟩,
                ⟨some 117, none, .bin .leq (.t 115) (.t 116)⟩,
                ⟨some 118, none, .mv (.t 117)⟩,
                ⟨some 119, (some (118, true)), .mv (.t 0)⟩,
                ⟨some 120, (some (118, true)), .mv (.t 11)⟩,
                ⟨some 121, (some (118, true)), .ixS 1 (.t 119) (.t 120)⟩,
                ⟨some 122, (some (118, true)), .load none (.t 121)⟩,
                ⟨some 123, (some (118, true)), .mv (.t 0)⟩,
                ⟨some 124, (some (118, true)), .mv (.t 1)⟩,
                ⟨some 125, (some (118, true)), .ixS 1 (.t 123) (.t 124)⟩,
                ⟨some 126, (some (118, true)), .load none (.t 125)⟩,
                ⟨some 127, (some (118, true)), .call (.f 105) [false, false] [(.t 122), (.t 126)]⟩,
                ⟨some 128, (some (118, true)), .un .not (.t 127)⟩,
                ⟨some 129, none, .pick (.t 118) (.t 128) (.c (.bool false))⟩] [0, 1, 10, 11, 129] [[], [], [0, 1], [0, 1, 2], [0, 1, 2, 3], [0, 1, 2, 3], [0, 1, 2, 3, 4, 5], [0, 1, 2, 3, 4, 5, 6], [0, 1, 2, 3], [0, 1, 2, 3], [0, 1, 2, 3, 8, 9], [0, 1, 2, 3, 8, 9, 10], [0, 1, 2, 3, 4, 5, 6, 7, 8, 9, 10, 11], [0, 1, 2, 3, 4, 5, 6, 7, 8, 9, 10, 11, 12], [0, 1, 2, 3, 4, 5, 6, 7, 8, 9, 10, 11, 12, 13]])
            (.cond (.t 129)
              .skip
              (.exit 8)))
            (.block 9
              (.reg [⟨some 130, none, .mv (.t 11)⟩,
                  ⟨some 131, none, .bin .sub (.t 130) (.c (.int .i64 1))⟩,
                  ⟨some 11, none, .mv (.t 131)⟩] [0, 1, 10, 11])))))
        (.seq (.seq (.reg [⟨some 132, none, .mv (.t 10)⟩,
            ⟨some 133, none, .mv (.t 11)⟩,
            ⟨some 134, none, .bin .gtr (.t 132) (.t 133)⟩] [0, 1, 10, 11, 134])
        (.cond (.t 134)
          (.exit 4)
          .skip))
        (.seq (.dreg [⟨some 135, none, .mv (.t 0)⟩,
            ⟨some 136, none, .mv (.t 10)⟩,
            ⟨some 137, none, .mv (.t 0)⟩,
            ⟨some 138, none, .mv (.t 11)⟩,
            ⟨some 139, none, .mv (.t 0)⟩,
            ⟨some 140, none, .mv (.t 11)⟩,
            ⟨some 141, none, .ixS 1 (.t 139) (.t 140)⟩,
            ⟨some 142, none, .load none (.t 141)⟩,
            ⟨some 143, none, .mv (.t 0)⟩,
            ⟨some 144, none, .mv (.t 10)⟩,
            ⟨some 145, none, .ixS 1 (.t 143) (.t 144)⟩,
            ⟨some 146, none, .load none (.t 145)⟩,
            ⟨some 147, none, .ixS 1 (.t 135) (.t 136)⟩,
            ⟨none, none, .store 1 (.t 147) (.t 142)⟩,
            ⟨some 148, none, .ixS 1 (.t 137) (.t 138)⟩,
            ⟨none, none, .store 1 (.t 148) (.t 146)⟩] [0, 1, 10, 11] [[], [], [], [], [], [], [4, 5], [4, 5, 6], [], [], [8, 9], [8, 9, 10], [0, 1, 4, 5, 6, 7, 8, 9, 10, 11], [0, 1, 4, 5, 6, 7, 8, 9, 10, 11, 12], [0, 1, 2, 3, 4, 5, 6, 7, 8, 9, 10, 11, 12, 13], [0, 1, 2, 3, 4, 5, 6, 7, 8, 9, 10, 11, 12, 13, 14]])
        (.seq (.reg [⟨some 149, none, .mv (.t 10)⟩,
            ⟨some 150, none, .bin .add (.t 149) (.c (.int .i64 1))⟩,
            ⟨some 10, none, .mv (.t 150)⟩] [0, 1, 10, 11])
        (.reg [⟨some 151, none, .mv (.t 11)⟩,
            ⟨some 152, none, .bin .sub (.t 151) (.c (.int .i64 1))⟩,
            ⟨some 11, none, .mv (.t 152)⟩] [0, 1, 10, 11])))))))))
  (.seq (.dreg [⟨some 153, none, .mv (.t 0)⟩,
      ⟨some 154, none, .mv (.t 11)⟩,
      ⟨some 155, none, .mv (.t 0)⟩,
      ⟨some 156, none, .mv (.t 1)⟩,
      ⟨some 157, none, .mv (.t 0)⟩,
      ⟨some 158, none, .mv (.t 1)⟩,
      ⟨some 159, none, .ixS 1 (.t 157) (.t 158)⟩,
      ⟨some 160, none, .load none (.t 159)⟩,
      ⟨some 161, none, .mv (.t 0)⟩,
      ⟨some 162, none, .mv (.t 11)⟩,
      ⟨some 163, none, .ixS 1 (.t 161) (.t 162)⟩,
      ⟨some 164, none, .load none (.t 163)⟩,
      ⟨some 165, none, .ixS 1 (.t 153) (.t 154)⟩,
      ⟨none, none, .store 1 (.t 165) (.t 160)⟩,
      ⟨some 166, none, .ixS 1 (.t 155) (.t 156)⟩,
      ⟨none, none, .store 1 (.t 166) (.t 164)⟩] [11] [[], [], [], [], [], [], [4, 5], [4, 5, 6], [], [], [8, 9], [8, 9, 10], [0, 1, 4, 5, 6, 7, 8, 9, 10, 11], [0, 1, 4, 5, 6, 7, 8, 9, 10, 11, 12], [0, 1, 2, 3, 4, 5, 6, 7, 8, 9, 10, 11, 12, 13], [0, 1, 2, 3, 4, 5, 6, 7, 8, 9, 10, 11, 12, 13, 14]])
  (.seq (.reg [⟨some 167, none, .mv (.t 11)⟩,
      ⟨some 8, none, .mv (.t 167)⟩,
      ⟨some 9, none, .mv (.c (.bool false))⟩] [8, 9])
  .ret))))))))))))
abbrev R_slices_partitionOrdered_int : List (Nat × Option (Option Nat)) := [(8, none), (9, none)]
theorem K_slices_partitionOrdered_int : chkF Try.prog Try.f107 168 C_slices_partitionOrdered_int R_slices_partitionOrdered_int = true := by kernel_rfl
theorem spec_slices_partitionOrdered_int {args : List AVal} {σ : AHeap} {R : ARes → AHeap → Prop} (ha : args.length ≤ 168) (h : AW Try.prog 168 none C_slices_partitionOrdered_int (bodyQ R_slices_partitionOrdered_int R) { v := argEnv args 0, ds := [] } σ) : Spec Try.prog F_slices_partitionOrdered_int args σ R := Spec.of_fn Try.func107 K_slices_partitionOrdered_int ha h
theorem B_slices_partitionOrdered_int : hasBody Try.prog F_slices_partitionOrdered_int = true := by kernel_rfl
theorem E_slices_partitionOrdered_int : EntOk Try.prog ⟨107, 168, C_slices_partitionOrdered_int, R_slices_partitionOrdered_int, false⟩ := ⟨fun _ => ⟨B_slices_partitionOrdered_int, _, Try.func107, K_slices_partitionOrdered_int⟩, fun h => by cases h⟩

abbrev F_math_bits_Len32 : FuncId := 108
/-- math/bits.Len32: parameters ['uint32'], results ['int'] -/
def C_math_bits_Len32 : AC :=
  (.seq (.reg [⟨some 2, none, .mv (.c (.int .i64 0))⟩] [0, 2])
  (.seq (.seq (.reg [⟨some 3, none, .mv (.t 0)⟩,
      ⟨some 4, none, .bin .geq (.t 3) (.c (.int .u32 65536))⟩] [0, 2, 4])
  (.cond (.t 4)
    (.seq (.reg [⟨some 5, none, .mv (.t 0)⟩,
        ⟨some 6, none, .bin .shr (.t 5) (.c (.int .u64 16))⟩,
        ⟨some 0, none, .mv (.t 6)⟩] [0])
    (.reg [⟨some 2, none, .mv (.c (.int .i64 16))⟩] [0, 2]))
    .skip))
  (.seq (.seq (.reg [⟨some 7, none, .mv (.t 0)⟩,
      ⟨some 8, none, .bin .geq (.t 7) (.c (.int .u32 256))⟩] [0, 2, 8])
  (.cond (.t 8)
    (.seq (.reg [⟨some 9, none, .mv (.t 0)⟩,
        ⟨some 10, none, .bin .shr (.t 9) (.c (.int .u64 8))⟩,
        ⟨some 0, none, .mv (.t 10)⟩] [0, 2])
    (.reg [⟨some 11, none, .mv (.t 2)⟩,
        ⟨some 12, none, .bin .add (.t 11) (.c (.int .i64 8))⟩,
        ⟨some 2, none, .mv (.t 12)⟩] [0, 2]))
    .skip))
  (.seq (.reg [⟨some 13, none, .mv (.t 2)⟩,
      ⟨some 14, none, .mv (.t 0)⟩,
      ⟨some 15, none, .conv .u8 (.t 14)⟩,
      ⟨some 16, none, .ixStr (.c (.str ⟨#[0, 1, 2, 2, 3, 3, 3, 3, 4, 4, 4, 4, 4, 4, 4, 4, 5, 5, 5, 5, 5, 5, 5, 5, 5, 5, 5, 5, 5, 5, 5, 5, 6, 6, 6, 6, 6, 6, 6, 6, 6, 6, 6, 6, 6, 6, 6, 6, 6, 6, 6, 6, 6, 6, 6, 6, 6, 6, 6, 6, 6, 6, 6, 6, 7, 7, 7, 7, 7, 7, 7, 7, 7, 7, 7, 7, 7, 7, 7, 7, 7, 7, 7, 7, 7, 7, 7, 7, 7, 7, 7, 7, 7, 7, 7, 7, 7, 7, 7, 7, 7, 7, 7, 7, 7, 7, 7, 7, 7, 7, 7, 7, 7, 7, 7, 7, 7, 7, 7, 7, 7, 7, 7, 7, 7, 7, 7, 7, 8, 8, 8, 8, 8, 8, 8, 8, 8, 8, 8, 8, 8, 8, 8, 8, 8, 8, 8, 8, 8, 8, 8, 8, 8, 8, 8, 8, 8, 8, 8, 8, 8, 8, 8, 8, 8, 8, 8, 8, 8, 8, 8, 8, 8, 8, 8, 8, 8, 8, 8, 8, 8, 8, 8, 8, 8, 8, 8, 8, 8, 8, 8, 8, 8, 8, 8, 8, 8, 8, 8, 8, 8, 8, 8, 8, 8, 8, 8, 8, 8, 8, 8, 8, 8, 8, 8, 8, 8, 8, 8, 8, 8, 8, 8, 8, 8, 8, 8, 8, 8, 8, 8, 8, 8, 8, 8, 8, 8, 8, 8, 8, 8, 8, 8, 8, 8, 8, 8, 8, 8, 8, 8, 8, 8, 8, 8, 8]⟩)) (.t 15)⟩,
      ⟨some 17, none, .conv .i64 (.t 16)⟩,
      ⟨some 18, none, .bin .add (.t 13) (.t 17)⟩,
      ⟨some 2, none, .mv (.t 18)⟩] [2])
  .ret))))
abbrev R_math_bits_Len32 : List (Nat × Option (Option Nat)) := [(2, none)]
theorem K_math_bits_Len32 : chkF Try.prog Try.f108 19 C_math_bits_Len32 R_math_bits_Len32 = true := by kernel_rfl
theorem spec_math_bits_Len32 {args : List AVal} {σ : AHeap} {R : ARes → AHeap → Prop} (ha : args.length ≤ 19) (h : AW Try.prog 19 none C_math_bits_Len32 (bodyQ R_math_bits_Len32 R) { v := argEnv args 0, ds := [] } σ) : Spec Try.prog F_math_bits_Len32 args σ R := Spec.of_fn Try.func108 K_math_bits_Len32 ha h
theorem B_math_bits_Len32 : hasBody Try.prog F_math_bits_Len32 = true := by kernel_rfl
theorem E_math_bits_Len32 : EntOk Try.prog ⟨108, 19, C_math_bits_Len32, R_math_bits_Len32, false⟩ := ⟨fun _ => ⟨B_math_bits_Len32, _, Try.func108, K_math_bits_Len32⟩, fun h => by cases h⟩

abbrev F_math_bits_Len64 : FuncId := 109
/-- math/bits.Len64: parameters ['uint64'], results ['int'] -/
def C_math_bits_Len64 : AC :=
  (.seq (.reg [⟨some 2, none, .mv (.c (.int .i64 0))⟩] [0, 2])
  (.seq (.seq (.reg [⟨some 3, none, .mv (.t 0)⟩,
      ⟨some 4, none, .bin .geq (.t 3) (.c (.int .u64 4294967296))⟩] [0, 2, 4])
  (.cond (.t 4)
    (.seq (.reg [⟨some 5, none, .mv (.t 0)⟩,
        ⟨some 6, none, .bin .shr (.t 5) (.c (.int .u64 32))⟩,
        ⟨some 0, none, .mv (.t 6)⟩] [0])
    (.reg [⟨some 2, none, .mv (.c (.int .i64 32))⟩] [0, 2]))
    .skip))
  (.seq (.seq (.reg [⟨some 7, none, .mv (.t 0)⟩,
      ⟨some 8, none, .bin .geq (.t 7) (.c (.int .u64 65536))⟩] [0, 2, 8])
  (.cond (.t 8)
    (.seq (.reg [⟨some 9, none, .mv (.t 0)⟩,
        ⟨some 10, none, .bin .shr (.t 9) (.c (.int .u64 16))⟩,
        ⟨some 0, none, .mv (.t 10)⟩] [0, 2])
    (.reg [⟨some 11, none, .mv (.t 2)⟩,
        ⟨some 12, none, .bin .add (.t 11) (.c (.int .i64 16))⟩,
        ⟨some 2, none, .mv (.t 12)⟩] [0, 2]))
    .skip))
  (.seq (.seq (.reg [⟨some 13, none, .mv (.t 0)⟩,
      ⟨some 14, none, .bin .geq (.t 13) (.c (.int .u64 256))⟩] [0, 2, 14])
  (.cond (.t 14)
    (.seq (.reg [⟨some 15, none, .mv (.t 0)⟩,
        ⟨some 16, none, .bin .shr (.t 15) (.c (.int .u64 8))⟩,
        ⟨some 0, none, .mv (.t 16)⟩] [0, 2])
    (.reg [⟨some 17, none, .mv (.t 2)⟩,
        ⟨some 18, none, .bin .add (.t 17) (.c (.int .i64 8))⟩,
        ⟨some 2, none, .mv (.t 18)⟩] [0, 2]))
    .skip))
  (.seq (.reg [⟨some 19, none, .mv (.t 2)⟩,
      ⟨some 20, none, .mv (.t 0)⟩,
      ⟨some 21, none, .conv .u8 (.t 20)⟩,
      ⟨some 22, none, .ixStr (.c (.str ⟨#[0, 1, 2, 2, 3, 3, 3, 3, 4, 4, 4, 4, 4, 4, 4, 4, 5, 5, 5, 5, 5, 5, 5, 5, 5, 5, 5, 5, 5, 5, 5, 5, 6, 6, 6, 6, 6, 6, 6, 6, 6, 6, 6, 6, 6, 6, 6, 6, 6, 6, 6, 6, 6, 6, 6, 6, 6, 6, 6, 6, 6, 6, 6, 6, 7, 7, 7, 7, 7, 7, 7, 7, 7, 7, 7, 7, 7, 7, 7, 7, 7, 7, 7, 7, 7, 7, 7, 7, 7, 7, 7, 7, 7, 7, 7, 7, 7, 7, 7, 7, 7, 7, 7, 7, 7, 7, 7, 7, 7, 7, 7, 7, 7, 7, 7, 7, 7, 7, 7, 7, 7, 7, 7, 7, 7, 7, 7, 7, 8, 8, 8, 8, 8, 8, 8, 8, 8, 8, 8, 8, 8, 8, 8, 8, 8, 8, 8, 8, 8, 8, 8, 8, 8, 8, 8, 8, 8, 8, 8, 8, 8, 8, 8, 8, 8, 8, 8, 8, 8, 8, 8, 8, 8, 8, 8, 8, 8, 8, 8, 8, 8, 8, 8, 8, 8, 8, 8, 8, 8, 8, 8, 8, 8, 8, 8, 8, 8, 8, 8, 8, 8, 8, 8, 8, 8, 8, 8, 8, 8, 8, 8, 8, 8, 8, 8, 8, 8, 8, 8, 8, 8, 8, 8, 8, 8, 8, 8, 8, 8, 8, 8, 8, 8, 8, 8, 8, 8, 8, 8, 8, 8, 8, 8, 8, 8, 8, 8, 8, 8, 8, 8, 8, 8, 8, 8, 8]⟩)) (.t 21)⟩,
      ⟨some 23, none, .conv .i64 (.t 22)⟩,
      ⟨some 24, none, .bin .add (.t 19) (.t 23)⟩,
      ⟨some 2, none, .mv (.t 24)⟩] [2])
  .ret)))))
abbrev R_math_bits_Len64 : List (Nat × Option (Option Nat)) := [(2, none)]
theorem K_math_bits_Len64 : chkF Try.prog Try.f109 25 C_math_bits_Len64 R_math_bits_Len64 = true := by kernel_rfl
theorem spec_math_bits_Len64 {args : List AVal} {σ : AHeap} {R : ARes → AHeap → Prop} (ha : args.length ≤ 25) (h : AW Try.prog 25 none C_math_bits_Len64 (bodyQ R_math_bits_Len64 R) { v := argEnv args 0, ds := [] } σ) : Spec Try.prog F_math_bits_Len64 args σ R := Spec.of_fn Try.func109 K_math_bits_Len64 ha h
theorem B_math_bits_Len64 : hasBody Try.prog F_math_bits_Len64 = true := by kernel_rfl
theorem E_math_bits_Len64 : EntOk Try.prog ⟨109, 25, C_math_bits_Len64, R_math_bits_Len64, false⟩ := ⟨fun _ => ⟨B_math_bits_Len64, _, Try.func109, K_math_bits_Len64⟩, fun h => by cases h⟩

abbrev F_slices_siftDownOrdered_int : FuncId := 110
/-- slices.siftDownOrdered[int]: parameters ['[]int', 'int', 'int', 'int'], results [] -/
def C_slices_siftDownOrdered_int : AC :=
  (.seq (.reg [⟨some 10, none, .mv (.t 1)⟩,
      ⟨some 8, none, .mv (.t 10)⟩] [0, 2, 3, 8])
  (.block 0
    (.loop [0, 2, 3, 8]
      (.block 1
        (.seq (.reg [⟨some 11, none, .mv (.t 8)⟩,
            ⟨some 12, none, .bin .mul (.c (.int .i64 2)) (.t 11)⟩,
            ⟨some 13, none, .bin .add (.t 12) (.c (.int .i64 1))⟩,
            ⟨some 9, none, .mv (.t 13)⟩] [0, 2, 3, 8, 9])
        (.seq (.seq (.reg [⟨some 14, none, .mv (.t 9)⟩,
            ⟨some 15, none, .mv (.t 2)⟩,
            ⟨some 16, none, .bin .geq (.t 14) (.t 15)⟩] [0, 2, 3, 8, 9, 16])
        (.cond (.t 16)
          (.exit 0)
          .skip))
        (.seq (.seq (.dreg [⟨some 17, none, .mv (.t 9)⟩,
            ⟨some 18, none, .bin .add (.t 17) (.c (.int .i64 1))⟩,
            ⟨some 19, none, .mv (.t 2)⟩,
            ⟨some 20, none, .bin .lss (.t 18) (.t 19)⟩,
            ⟨some 21, none, .mv (.t 20)⟩,
            ⟨some 22, (some (21, true)), .mv (.t 0)⟩,
            ⟨some 23, (some (21, true)), .mv (.t 3)⟩,
            ⟨some 24, (some (21, true)), .mv (.t 9)⟩,
            ⟨some 25, (some (21, true)), .bin .add (.t 23) (.t 24)⟩,
            ⟨some 26, (some (21, true)), .ixS 1 (.t 22) (.t 25)⟩,
            ⟨some 27, (some (21, true)), .load none (.t 26)⟩,
            ⟨some 28, (some (21, true)), .mv (.t 0)⟩,
            ⟨some 29, (some (21, true)), .mv (.t 3)⟩,
            ⟨some 30, (some (21, true)), .mv (.t 9)⟩,
            ⟨some 31, (some (21, true)), .bin .add (.t 29) (.t 30)⟩,
            ⟨some 32, (some (21, true)), .bin .add (.t 31) (.c (.int .i64 1))⟩,
            ⟨some 33, (some (21, true)), .ixS 1 (.t 28) (.t 32)⟩,
            ⟨some 34, (some (21, true)), .load none (.t 33)⟩,
            ⟨some 35, (some (21, true)), .call (.f 105) [false, false] [(.t 27), (.t 34)]⟩,
            ⟨some 36, none, .pick (.t 21) (.t 35) (.c (.bool false))⟩] [0, 2, 3, 8, 9, 36] [[], [0], [], [0, 1, 2], [0, 1, 2, 3], [0, 1, 2, 3, 4], [0, 1, 2, 3, 4], [0, 1, 2, 3, 4], [0, 1, 2, 3, 4, 6, 7], [0, 1, 2, 3, 4, 5, 6, 7, 8], [0, 1, 2, 3, 4, 5, 6, 7, 8, 9], [0, 1, 2, 3, 4], [0, 1, 2, 3, 4], [0, 1, 2, 3, 4], [0, 1, 2, 3, 4, 12, 13], [0, 1, 2, 3, 4, 12, 13, 14], [0, 1, 2, 3, 4, 11, 12, 13, 14, 15], [0, 1, 2, 3, 4, 11, 12, 13, 14, 15, 16], [0, 1, 2, 3, 4, 5, 6, 7, 8, 9, 10, 11, 12, 13, 14, 15, 16, 17], [0, 1, 2, 3, 4, 5, 6, 7, 8, 9, 10, 11, 12, 13, 14, 15, 16, 17, 18]])
        (.cond (.t 36)
          (.reg [⟨some 37, none, .mv (.t 9)⟩,
              ⟨some 38, none, .bin .add (.t 37) (.c (.int .i64 1))⟩,
              ⟨some 9, none, .mv (.t 38)⟩] [0, 2, 3, 8, 9])
          .skip))
        (.seq (.seq (.dreg [⟨some 39, none, .mv (.t 0)⟩,
            ⟨some 40, none, .mv (.t 3)⟩,
            ⟨some 41, none, .mv (.t 8)⟩,
            ⟨some 42, none, .bin .add (.t 40) (.t 41)⟩,
            ⟨some 43, none, .ixS 1 (.t 39) (.t 42)⟩,
            ⟨some 44, none, .load none (.t 43)⟩,
            ⟨some 45, none, .mv (.t 0)⟩,
            ⟨some 46, none, .mv (.t 3)⟩,
            ⟨some 47, none, .mv (.t 9)⟩,
            ⟨some 48, none, .bin .add (.t 46) (.t 47)⟩,
            ⟨some 49, none, .ixS 1 (.t 45) (.t 48)⟩,
            ⟨some 50, none, .load none (.t 49)⟩,
            ⟨some 51, none, .call (.f 105) [false, false] [(.t 44), (.t 50)]⟩,
            ⟨some 52, none, .un .not (.t 51)⟩] [0, 2, 3, 8, 9, 52] [[], [], [], [1, 2], [0, 1, 2, 3], [0, 1, 2, 3, 4], [], [], [], [7, 8], [6, 7, 8, 9], [6, 7, 8, 9, 10], [0, 1, 2, 3, 4, 5, 6, 7, 8, 9, 10, 11], [0, 1, 2, 3, 4, 5, 6, 7, 8, 9, 10, 11, 12]])
        (.cond (.t 52)
          .ret
          .skip))
        (.seq (.dreg [⟨some 53, none, .mv (.t 0)⟩,
            ⟨some 54, none, .mv (.t 3)⟩,
            ⟨some 55, none, .mv (.t 8)⟩,
            ⟨some 56, none, .bin .add (.t 54) (.t 55)⟩,
            ⟨some 57, none, .mv (.t 0)⟩,
            ⟨some 58, none, .mv (.t 3)⟩,
            ⟨some 59, none, .mv (.t 9)⟩,
            ⟨some 60, none, .bin .add (.t 58) (.t 59)⟩,
            ⟨some 61, none, .mv (.t 0)⟩,
            ⟨some 62, none, .mv (.t 3)⟩,
            ⟨some 63, none, .mv (.t 9)⟩,
            ⟨some 64, none, .bin .add (.t 62) (.t 63)⟩,
            ⟨some 65, none, .ixS 1 (.t 61) (.t 64)⟩,
            ⟨some 66, none, .load none (.t 65)⟩,
            ⟨some 67, none, .mv (.t 0)⟩,
            ⟨some 68, none, .mv (.t 3)⟩,
            ⟨some 69, none, .mv (.t 8)⟩,
            ⟨some 70, none, .bin .add (.t 68) (.t 69)⟩,
            ⟨some 71, none, .ixS 1 (.t 67) (.t 70)⟩,
            ⟨some 72, none, .load none (.t 71)⟩,
            ⟨some 73, none, .ixS 1 (.t 53) (.t 56)⟩,
            ⟨none, none, .store 1 (.t 73) (.t 66)⟩,
            ⟨some 74, none, .ixS 1 (.t 57) (.t 60)⟩,
            ⟨none, none, .store 1 (.t 74) (.t 72)⟩] [0, 2, 3, 9] [[], [], [], [1, 2], [], [], [], [5, 6], [], [], [], [9, 10], [8, 9, 10, 11], [8, 9, 10, 11, 12], [], [], [], [15, 16], [14, 15, 16, 17], [14, 15, 16, 17, 18], [0, 1, 2, 3, 8, 9, 10, 11, 12, 13, 14, 15, 16, 17, 18, 19], [0, 1, 2, 3, 8, 9, 10, 11, 12, 13, 14, 15, 16, 17, 18, 19, 20], [0, 1, 2, 3, 4, 5, 6, 7, 8, 9, 10, 11, 12, 13, 14, 15, 16, 17, 18, 19, 20, 21], [0, 1, 2, 3, 4, 5, 6, 7, 8, 9, 10, 11, 12, 13, 14, 15, 16, 17, 18, 19, 20, 21, 22]])
        (.reg [⟨some 75, none, .mv (.t 9)⟩,
            ⟨some 8, none, .mv (.t 75)⟩] [0, 2, 3, 8]))))))))))
abbrev R_slices_siftDownOrdered_int : List (Nat × Option (Option Nat)) := []
theorem K_slices_siftDownOrdered_int : chkF Try.prog Try.f110 76 C_slices_siftDownOrdered_int R_slices_siftDownOrdered_int = true := by kernel_rfl
theorem spec_slices_siftDownOrdered_int {args : List AVal} {σ : AHeap} {R : ARes → AHeap → Prop} (ha : args.length ≤ 76) (h : AW Try.prog 76 none C_slices_siftDownOrdered_int (bodyQ R_slices_siftDownOrdered_int R) { v := argEnv args 0, ds := [] } σ) : Spec Try.prog F_slices_siftDownOrdered_int args σ R := Spec.of_fn Try.func110 K_slices_siftDownOrdered_int ha h
theorem B_slices_siftDownOrdered_int : hasBody Try.prog F_slices_siftDownOrdered_int = true := by kernel_rfl
theorem E_slices_siftDownOrdered_int : EntOk Try.prog ⟨110, 76, C_slices_siftDownOrdered_int, R_slices_siftDownOrdered_int, false⟩ := ⟨fun _ => ⟨B_slices_siftDownOrdered_int, _, Try.func110, K_slices_siftDownOrdered_int⟩, fun h => by cases h⟩

abbrev F_slices_nextPowerOfTwo : FuncId := 111
/-- slices.nextPowerOfTwo: parameters ['int'], results ['uint'] -/
def C_slices_nextPowerOfTwo : AC :=
  (.seq (.reg [⟨some 2, none, .mv (.c (.int .u64 0))⟩] [0])
  (.seq (.reg [⟨some 3, none, .mv (.t 0)⟩,
      ⟨some 4, none, .conv .u64 (.t 3)⟩,
      ⟨some 5, none, .call (.f 98) [false] [(.t 4)]⟩,
      ⟨some 6, none, .bin .shl (.c (.int .u64 1)) (.t 5)⟩,
      ⟨some 2, none, .mv (.t 6)⟩] [2])
  .ret))
abbrev R_slices_nextPowerOfTwo : List (Nat × Option (Option Nat)) := [(2, none)]
theorem K_slices_nextPowerOfTwo : chkF Try.prog Try.f111 7 C_slices_nextPowerOfTwo R_slices_nextPowerOfTwo = true := by kernel_rfl
theorem spec_slices_nextPowerOfTwo {args : List AVal} {σ : AHeap} {R : ARes → AHeap → Prop} (ha : args.length ≤ 7) (h : AW Try.prog 7 none C_slices_nextPowerOfTwo (bodyQ R_slices_nextPowerOfTwo R) { v := argEnv args 0, ds := [] } σ) : Spec Try.prog F_slices_nextPowerOfTwo args σ R := Spec.of_fn Try.func111 K_slices_nextPowerOfTwo ha h
theorem B_slices_nextPowerOfTwo : hasBody Try.prog F_slices_nextPowerOfTwo = true := by kernel_rfl
theorem E_slices_nextPowerOfTwo : EntOk Try.prog ⟨111, 7, C_slices_nextPowerOfTwo, R_slices_nextPowerOfTwo, false⟩ := ⟨fun _ => ⟨B_slices_nextPowerOfTwo, _, Try.func111, K_slices_nextPowerOfTwo⟩, fun h => by cases h⟩

abbrev F_slices_xorshift_Next : FuncId := 112
/-- (*slices.xorshift).Next: parameters ['*slices.xorshift'], results ['uint64'] -/
def C_slices_xorshift_Next : AC :=
  (.seq (.reg [⟨some 2, none, .mv (.c (.int .u64 0))⟩] [0])
  (.seq (.dreg [⟨some 3, none, .mv (.t 0)⟩,
      ⟨some 4, none, .nilchk (.t 3)⟩,
      ⟨some 5, none, .load none (.t 4)⟩,
      ⟨some 6, none, .mv (.t 0)⟩,
      ⟨some 7, none, .nilchk (.t 6)⟩,
      ⟨some 8, none, .load none (.t 7)⟩,
      ⟨some 9, none, .bin .shl (.t 8) (.c (.int .u64 13))⟩,
      ⟨some 10, none, .bin .xor (.t 5) (.t 9)⟩,
      ⟨some 11, none, .nilchk (.t 3)⟩,
      ⟨none, none, .store 1 (.t 11) (.t 10)⟩] [0] [[], [0], [0, 1], [], [3], [3, 4], [3, 4, 5], [0, 1, 2, 3, 4, 5, 6], [0, 1, 2, 3, 4, 5, 6, 7], [0, 1, 2, 3, 4, 5, 6, 7, 8]])
  (.seq (.dreg [⟨some 12, none, .mv (.t 0)⟩,
      ⟨some 13, none, .nilchk (.t 12)⟩,
      ⟨some 14, none, .load none (.t 13)⟩,
      ⟨some 15, none, .mv (.t 0)⟩,
      ⟨some 16, none, .nilchk (.t 15)⟩,
      ⟨some 17, none, .load none (.t 16)⟩,
      ⟨some 18, none, .bin .shr (.t 17) (.c (.int .u64 7))⟩,
      ⟨some 19, none, .bin .xor (.t 14) (.t 18)⟩,
      ⟨some 20, none, .nilchk (.t 12)⟩,
      ⟨none, none, .store 1 (.t 20) (.t 19)⟩] [0] [[], [0], [0, 1], [], [3], [3, 4], [3, 4, 5], [0, 1, 2, 3, 4, 5, 6], [0, 1, 2, 3, 4, 5, 6, 7], [0, 1, 2, 3, 4, 5, 6, 7, 8]])
  (.seq (.dreg [⟨some 21, none, .mv (.t 0)⟩,
      ⟨some 22, none, .nilchk (.t 21)⟩,
      ⟨some 23, none, .load none (.t 22)⟩,
      ⟨some 24, none, .mv (.t 0)⟩,
      ⟨some 25, none, .nilchk (.t 24)⟩,
      ⟨some 26, none, .load none (.t 25)⟩,
      ⟨some 27, none, .bin .shl (.t 26) (.c (.int .u64 17))⟩,
      ⟨some 28, none, .bin .xor (.t 23) (.t 27)⟩,
      ⟨some 29, none, .nilchk (.t 21)⟩,
      ⟨none, none, .store 1 (.t 29) (.t 28)⟩] [0] [[], [0], [0, 1], [], [3], [3, 4], [3, 4, 5], [0, 1, 2, 3, 4, 5, 6], [0, 1, 2, 3, 4, 5, 6, 7], [0, 1, 2, 3, 4, 5, 6, 7, 8]])
  (.seq (.reg [⟨some 30, none, .mv (.t 0)⟩,
      ⟨some 31, none, .nilchk (.t 30)⟩,
      ⟨some 32, none, .load none (.t 31)⟩,
      ⟨some 2, none, .mv (.t 32)⟩] [2])
  .ret)))))
abbrev R_slices_xorshift_Next : List (Nat × Option (Option Nat)) := [(2, none)]
theorem K_slices_xorshift_Next : chkF Try.prog Try.f112 33 C_slices_xorshift_Next R_slices_xorshift_Next = true := by kernel_rfl
theorem spec_slices_xorshift_Next {args : List AVal} {σ : AHeap} {R : ARes → AHeap → Prop} (ha : args.length ≤ 33) (h : AW Try.prog 33 none C_slices_xorshift_Next (bodyQ R_slices_xorshift_Next R) { v := argEnv args 0, ds := [] } σ) : Spec Try.prog F_slices_xorshift_Next args σ R := Spec.of_fn Try.func112 K_slices_xorshift_Next ha h
theorem B_slices_xorshift_Next : hasBody Try.prog F_slices_xorshift_Next = true := by kernel_rfl
theorem E_slices_xorshift_Next : EntOk Try.prog ⟨112, 33, C_slices_xorshift_Next, R_slices_xorshift_Next, false⟩ := ⟨fun _ => ⟨B_slices_xorshift_Next, _, Try.func112, K_slices_xorshift_Next⟩, fun h => by cases h⟩

abbrev F_slices_medianAdjacentOrdered_int : FuncId := 113
/-- slices.medianAdjacentOrdered[int]: parameters ['[]int', 'int', '*int'], results ['int'] -/
def C_slices_medianAdjacentOrdered_int : AC :=
  (.seq (.reg [⟨some 6, none, .mv (.c (.int .i64 0))⟩] [0, 1, 2])
  (.seq (.reg [⟨some 7, none, .mv (.t 0)⟩,
      ⟨some 8, none, .mv (.t 1)⟩,
      ⟨some 9, none, .bin .sub (.t 8) (.c (.int .i64 1))⟩,
      ⟨some 10, none, .mv (.t 1)⟩,
      ⟨some 11, none, .mv (.t 1)⟩,
      ⟨some 12, none, .bin .add (.t 11) (.c (.int .i64 1))⟩,
      ⟨some 13, none, .mv (.t 2)⟩,
      ⟨some 14, none, .call (.f 114) [true, false, false, false, false] [(.t 7), (.t 9), (.t 10), (.t 12), (.t 13)]⟩,
      ⟨some 6, none, .mv (.t 14)⟩] [6])
  .ret))
abbrev R_slices_medianAdjacentOrdered_int : List (Nat × Option (Option Nat)) := [(6, none)]
theorem K_slices_medianAdjacentOrdered_int : chkF Try.prog Try.f113 15 C_slices_medianAdjacentOrdered_int R_slices_medianAdjacentOrdered_int = true := by kernel_rfl
theorem spec_slices_medianAdjacentOrdered_int {args : List AVal} {σ : AHeap} {R : ARes → AHeap → Prop} (ha : args.length ≤ 15) (h : AW Try.prog 15 none C_slices_medianAdjacentOrdered_int (bodyQ R_slices_medianAdjacentOrdered_int R) { v := argEnv args 0, ds := [] } σ) : Spec Try.prog F_slices_medianAdjacentOrdered_int args σ R := Spec.of_fn Try.func113 K_slices_medianAdjacentOrdered_int ha h
theorem B_slices_medianAdjacentOrdered_int : hasBody Try.prog F_slices_medianAdjacentOrdered_int = true := by kernel_rfl
theorem E_slices_medianAdjacentOrdered_int : EntOk Try.prog ⟨113, 15, C_slices_medianAdjacentOrdered_int, R_slices_medianAdjacentOrdered_int, false⟩ := ⟨fun _ => ⟨B_slices_medianAdjacentOrdered_int, _, Try.func113, K_slices_medianAdjacentOrdered_int⟩, fun h => by cases h⟩

abbrev F_slices_medianOrdered_int : FuncId := 114
/-- slices.medianOrdered[int]: parameters ['[]int', 'int', 'int', 'int', '*int'], results ['int'] -/
def C_slices_medianOrdered_int : AC :=
  (.seq (.reg [⟨some 10, none, .mv (.c (.int .i64 0))⟩] [0, 1, 2, 3, 4])
  (.seq (.reg [⟨some 12, none, .mv (.t 0)⟩,
      ⟨some 13, none, .mv (.t 1)⟩,
      ⟨some 14, none, .mv (.t 2)⟩,
      ⟨some 15, none, .mv (.t 4)⟩,
      ⟨some 16, none, .call (.f 116) [true, false, false, false] [(.t 12), (.t 13), (.t 14), (.t 15)]⟩,
      ⟨some 11, none, .mv (.t 16)⟩,
      ⟨some 17, none, .extract (.t 11) 0⟩,
      ⟨some 18, none, .extract (.t 11) 1⟩,
      ⟨some 1, none, .mv (.t 17)⟩,
      ⟨some 2, none, .mv (.t 18)⟩] [0, 1, 2, 3, 4])
  (.seq (.reg [⟨some 20, none, .mv (.t 0)⟩,
      ⟨some 21, none, .mv (.t 2)⟩,
      ⟨some 22, none, .mv (.t 3)⟩,
      ⟨some 23, none, .mv (.t 4)⟩,
      ⟨some 24, none, .call (.f 116) [true, false, false, false] [(.t 20), (.t 21), (.t 22), (.t 23)]⟩,
      ⟨some 19, none, .mv (.t 24)⟩,
      ⟨some 25, none, .extract (.t 19) 0⟩,
      ⟨some 26, none, .extract (.t 19) 1⟩,
      ⟨some 2, none, .mv (.t 25)⟩,
      ⟨some 3, none, .mv (.t 26)⟩] [0, 1, 2, 4])
  (.seq (.reg [⟨some 28, none, .mv (.t 0)⟩,
      ⟨some 29, none, .mv (.t 1)⟩,
      ⟨some 30, none, .mv (.t 2)⟩,
      ⟨some 31, none, .mv (.t 4)⟩,
      ⟨some 32, none, .call (.f 116) [true, false, false, false] [(.t 28), (.t 29), (.t 30), (.t 31)]⟩,
      ⟨some 27, none, .mv (.t 32)⟩,
      ⟨some 33, none, .extract (.t 27) 0⟩,
      ⟨some 34, none, .extract (.t 27) 1⟩,
      ⟨some 1, none, .mv (.t 33)⟩,
      ⟨some 2, none, .mv (.t 34)⟩] [2])
  (.seq (.reg [⟨some 35, none, .mv (.t 2)⟩,
      ⟨some 10, none, .mv (.t 35)⟩] [10])
  .ret)))))
abbrev R_slices_medianOrdered_int : List (Nat × Option (Option Nat)) := [(10, none)]
theorem K_slices_medianOrdered_int : chkF Try.prog Try.f114 36 C_slices_medianOrdered_int R_slices_medianOrdered_int = true := by kernel_rfl
theorem spec_slices_medianOrdered_int {args : List AVal} {σ : AHeap} {R : ARes → AHeap → Prop} (ha : args.length ≤ 36) (h : AW Try.prog 36 none C_slices_medianOrdered_int (bodyQ R_slices_medianOrdered_int R) { v := argEnv args 0, ds := [] } σ) : Spec Try.prog F_slices_medianOrdered_int args σ R := Spec.of_fn Try.func114 K_slices_medianOrdered_int ha h
theorem B_slices_medianOrdered_int : hasBody Try.prog F_slices_medianOrdered_int = true := by kernel_rfl
theorem E_slices_medianOrdered_int : EntOk Try.prog ⟨114, 36, C_slices_medianOrdered_int, R_slices_medianOrdered_int, false⟩ := ⟨fun _ => ⟨B_slices_medianOrdered_int, _, Try.func114, K_slices_medianOrdered_int⟩, fun h => by cases h⟩

abbrev F_cmp_isNaN_int : FuncId := 115
/-- cmp.isNaN[int]: parameters ['int'], results ['bool'] -/
def C_cmp_isNaN_int : AC :=
  (.seq (.reg [⟨some 2, none, .mv (.c (.bool false))⟩] [0])
  (.seq (.reg [⟨some 3, none, .mv (.t 0)⟩,
      ⟨some 4, none, .mv (.t 0)⟩,
      ⟨some 5, none, .bin .neq (.t 3) (.t 4)⟩,
      ⟨some 2, none, .mv (.t 5)⟩] [2])
  .ret))
abbrev R_cmp_isNaN_int : List (Nat × Option (Option Nat)) := [(2, none)]
theorem K_cmp_isNaN_int : chkF Try.prog Try.f115 6 C_cmp_isNaN_int R_cmp_isNaN_int = true := by kernel_rfl
theorem spec_cmp_isNaN_int {args : List AVal} {σ : AHeap} {R : ARes → AHeap → Prop} (ha : args.length ≤ 6) (h : AW Try.prog 6 none C_cmp_isNaN_int (bodyQ R_cmp_isNaN_int R) { v := argEnv args 0, ds := [] } σ) : Spec Try.prog F_cmp_isNaN_int args σ R := Spec.of_fn Try.func115 K_cmp_isNaN_int ha h
theorem B_cmp_isNaN_int : hasBody Try.prog F_cmp_isNaN_int = true := by kernel_rfl
theorem E_cmp_isNaN_int : EntOk Try.prog ⟨115, 6, C_cmp_isNaN_int, R_cmp_isNaN_int, false⟩ := ⟨fun _ => ⟨B_cmp_isNaN_int, _, Try.func115, K_cmp_isNaN_int⟩, fun h => by cases h⟩

abbrev F_slices_order2Ordered_int : FuncId := 116
/-- slices.order2Ordered[int]: parameters ['[]int', 'int', 'int', '*int'], results ['int', 'int'] -/
def C_slices_order2Ordered_int : AC :=
  (.seq (.reg [⟨some 8, none, .mv (.c (.int .i64 0))⟩,
      ⟨some 9, none, .mv (.c (.int .i64 0))⟩] [0, 1, 2, 3])
  (.seq (.seq (.dreg [⟨some 10, none, .mv (.t 0)⟩,
      ⟨some 11, none, .mv (.t 2)⟩,
      ⟨some 12, none, .ixS 1 (.t 10) (.t 11)⟩,
      ⟨some 13, none, .load none (.t 12)⟩,
      ⟨some 14, none, .mv (.t 0)⟩,
      ⟨some 15, none, .mv (.t 1)⟩,
      ⟨some 16, none, .ixS 1 (.t 14) (.t 15)⟩,
      ⟨some 17, none, .load none (.t 16)⟩,
      ⟨some 18, none, .call (.f 105) [false, false] [(.t 13), (.t 17)]⟩] [1, 2, 3, 18] [[], [], [0, 1], [0, 1, 2], [], [], [4, 5], [4, 5, 6], [0, 1, 2, 3, 4, 5, 6, 7]])
  (.cond (.t 18)
    (.seq (.reg [⟨some 19, none, .mv (.t 3)⟩,
        ⟨some 20, none, .nilchk (.t 19)⟩,
        ⟨some 21, none, .load none (.t 20)⟩,
        ⟨some 22, none, .bin .add (.t 21) (.c (.int .i64 1))⟩,
        ⟨some 23, none, .nilchk (.t 19)⟩,
        ⟨none, none, .store 1 (.t 23) (.t 22)⟩] [1, 2])
    (.seq (.reg [⟨some 24, none, .mv (.t 2)⟩,
        ⟨some 25, none, .mv (.t 1)⟩,
        ⟨some 8, none, .mv (.t 24)⟩,
        ⟨some 9, none, .mv (.t 25)⟩] [8, 9])
    .ret))
    .skip))
  (.seq (.reg [⟨some 26, none, .mv (.t 1)⟩,
      ⟨some 27, none, .mv (.t 2)⟩,
      ⟨some 8, none, .mv (.t 26)⟩,
      ⟨some 9, none, .mv (.t 27)⟩] [8, 9])
  .ret)))
abbrev R_slices_order2Ordered_int : List (Nat × Option (Option Nat)) := [(8, none), (9, none)]
theorem K_slices_order2Ordered_int : chkF Try.prog Try.f116 28 C_slices_order2Ordered_int R_slices_order2Ordered_int = true := by kernel_rfl
theorem spec_slices_order2Ordered_int {args : List AVal} {σ : AHeap} {R : ARes → AHeap → Prop} (ha : args.length ≤ 28) (h : AW Try.prog 28 none C_slices_order2Ordered_int (bodyQ R_slices_order2Ordered_int R) { v := argEnv args 0, ds := [] } σ) : Spec Try.prog F_slices_order2Ordered_int args σ R := Spec.of_fn Try.func116 K_slices_order2Ordered_int ha h
theorem B_slices_order2Ordered_int : hasBody Try.prog F_slices_order2Ordered_int = true := by kernel_rfl
theorem E_slices_order2Ordered_int : EntOk Try.prog ⟨116, 28, C_slices_order2Ordered_int, R_slices_order2Ordered_int, false⟩ := ⟨fun _ => ⟨B_slices_order2Ordered_int, _, Try.func116, K_slices_order2Ordered_int⟩, fun h => by cases h⟩

def theTab : List Ent := [
  ⟨2, 1, C_gosem_cut_init, R_gosem_cut_init, false⟩,
  ⟨3, 85, C_l05_StandBalances, R_l05_StandBalances, false⟩,
  ⟨4, 91, C_l05_StandTides, R_l05_StandTides, false⟩,
  ⟨5, 71, C_l05_StandForces, R_l05_StandForces, false⟩,
  ⟨6, 36, C_l05_StandBallasts, R_l05_StandBallasts, false⟩,
  ⟨7, 61, C_l05_StandKnown, R_l05_StandKnown, false⟩,
  ⟨8, 78, C_l05_StandTrue, R_l05_StandTrue, false⟩,
  ⟨9, 144, C_l05_StandShown, R_l05_StandShown, false⟩,
  ⟨10, 134, C_l05_StandBears, R_l05_StandBears, false⟩,
  ⟨11, 167, C_l05_StandLeast, R_l05_StandLeast, false⟩,
  ⟨12, 162, C_l05_StandBallast, R_l05_StandBallast, false⟩,
  ⟨13, 116, C_l05_StandWater, R_l05_StandWater, false⟩,
  ⟨14, 161, C_l05_StandLess, R_l05_StandLess, false⟩,
  ⟨15, 124, C_l05_StandTurned, R_l05_StandTurned, false⟩,
  ⟨16, 191, C_l05_StandJoined, R_l05_StandJoined, false⟩,
  ⟨17, 55, C_stand_Check, R_stand_Check, false⟩,
  ⟨18, 64, C_r05_Check, R_r05_Check, false⟩,
  ⟨19, 26, C_stand_Balance, R_stand_Balance, false⟩,
  ⟨20, 22, C_r05_Balance, R_r05_Balance, false⟩,
  ⟨21, 22, C_stand_Least, R_stand_Least, false⟩,
  ⟨22, 25, C_r05_Least, R_r05_Least, false⟩,
  ⟨23, 172, C_l05_Awake, R_l05_Awake, false⟩,
  ⟨24, 29, C_stand_Why, R_stand_Why, false⟩,
  ⟨25, 32, C_r05_Why, R_r05_Why, false⟩,
  ⟨26, 79, C_stand_Show, R_stand_Show, false⟩,
  ⟨27, 32, C_r05_Show, R_r05_Show, false⟩,
  ⟨28, 17, C_r05_Same, R_r05_Same, false⟩,
  ⟨29, 33, C_stand_Tide, R_stand_Tide, false⟩,
  ⟨30, 30, C_r05_Tide, R_r05_Tide, false⟩,
  ⟨31, 39, C_stand_Forces, R_stand_Forces, false⟩,
  ⟨32, 38, C_r05_Forces, R_r05_Forces, false⟩,
  ⟨33, 31, C_r05_Alike, R_r05_Alike, false⟩,
  ⟨34, 103, C_stand_Bears, R_stand_Bears, false⟩,
  ⟨35, 107, C_r05_Bears, R_r05_Bears, false⟩,
  ⟨36, 116, C_stand_Ballast, R_stand_Ballast, false⟩,
  ⟨37, 79, C_r05_Ballast, R_r05_Ballast, false⟩,
  ⟨38, 12, C_l05_Hull, R_l05_Hull, false⟩,
  ⟨39, 4, C_l05_Heavy, R_l05_Heavy, false⟩,
  ⟨40, 8, C_l05_span, R_l05_span, false⟩,
  ⟨41, 52, C_r01_Name, R_r01_Name, false⟩,
  ⟨42, 19, C_l05_Tide, R_l05_Tide, false⟩,
  ⟨43, 14, C_l05_valid, R_l05_valid, false⟩,
  ⟨44, 33, C_l05_stands, R_l05_stands, false⟩,
  ⟨45, 48, C_l05_Truth, R_l05_Truth, false⟩,
  ⟨46, 16, C_l05_among, R_l05_among, false⟩,
  ⟨47, 75, C_r05_Truth, R_r05_Truth, false⟩,
  ⟨48, 34, C_r05_Heavier, R_r05_Heavier, false⟩,
  ⟨49, 27, C_l05_narrow, R_l05_narrow, false⟩,
  ⟨50, 16, C_l05_turn, R_l05_turn, false⟩,
  ⟨51, 10, C_stand_beyond, R_stand_beyond, false⟩,
  ⟨52, 42, C_hull_Name, R_hull_Name, false⟩,
  ⟨53, 9, C_slices_ContainsFunc_api_StPart_api_StPart, R_slices_ContainsFunc_api_StPart_api_StPart, false⟩,
  ⟨54, 9, C_stand_Check_1, R_stand_Check_1, false⟩,
  ⟨55, 51, C_stand_check, R_stand_check, false⟩,
  ⟨56, 15, C_r05_in, R_r05_in, false⟩,
  ⟨57, 12, C_r01_Fresh, R_r01_Fresh, false⟩,
  ⟨58, 33, C_r05_part, R_r05_part, false⟩,
  ⟨59, 56, C_stand_open, R_stand_open, false⟩,
  ⟨60, 56, C_stand_body_in, R_stand_body_in, false⟩,
  ⟨61, 10, C_stand_sums_balance, R_stand_sums_balance, false⟩,
  ⟨62, 13, C_r05_watered, R_r05_watered, false⟩,
  ⟨63, 68, C_r05_Weighed, R_r05_Weighed, false⟩,
  ⟨64, 22, C_stand_wet, R_stand_wet, false⟩,
  ⟨65, 57, C_stand_body_least, R_stand_body_least, false⟩,
  ⟨66, 24, C_r05_Smallest, R_r05_Smallest, false⟩,
  ⟨67, 4, C_l05_two, R_l05_two, false⟩,
  ⟨68, 16, C_stand_tidal, R_stand_tidal, false⟩,
  ⟨69, 54, C_stand_body_first, R_stand_body_first, false⟩,
  ⟨70, 10, C_r05_tided, R_r05_tided, false⟩,
  ⟨71, 24, C_r05_first, R_r05_first, false⟩,
  ⟨72, 15, C_stand_sums_why, R_stand_sums_why, false⟩,
  ⟨73, 21, C_stand_body_levers, R_stand_body_levers, false⟩,
  ⟨74, 12, C_r05_Reason, R_r05_Reason, false⟩,
  ⟨75, 83, C_r05_Shown, R_r05_Shown, false⟩,
  ⟨76, 31, C_r01_Ints, R_r01_Ints, false⟩,
  ⟨77, 6, C_stand_body_bends, R_stand_body_bends, false⟩,
  ⟨78, 15, C_r01_within, R_r01_within, false⟩,
  ⟨79, 9, C_slices_ContainsFunc_int_int, R_slices_ContainsFunc_int_int, false⟩,
  ⟨80, 13, C_stand_beyond_1, R_stand_beyond_1, false⟩,
  ⟨81, 19, C_slices_IndexFunc_api_StPart_api_StPart, R_slices_IndexFunc_api_StPart_api_StPart, false⟩,
  ⟨82, 19, C_r01_Place, R_r01_Place, false⟩,
  ⟨83, 12, C_r01_Range, R_r01_Range, false⟩,
  ⟨84, 31, C_stand_strange_api_StPart, R_stand_strange_api_StPart, false⟩,
  ⟨85, 5, C_stand_open_1, R_stand_open_1, false⟩,
  ⟨86, 5, C_stand_open_2, R_stand_open_2, false⟩,
  ⟨87, 3, C_stand_body_levers_1, R_stand_body_levers_1, false⟩,
  ⟨88, 10, C_stand_body_levers_2, R_stand_body_levers_2, false⟩,
  ⟨89, 10, C_stand_body_levers_3, R_stand_body_levers_3, false⟩,
  ⟨90, 15, C_stand_load_light, R_stand_load_light, false⟩,
  ⟨91, 15, C_stand_load_heavy, R_stand_load_heavy, false⟩,
  ⟨92, 58, C_stand_body_bends_1, R_stand_body_bends_1, false⟩,
  ⟨93, 11, C_slices_Sort_int_int, R_slices_Sort_int_int, false⟩,
  ⟨94, 61, C_slices_Compact_int_int, R_slices_Compact_int_int, false⟩,
  ⟨95, 19, C_slices_IndexFunc_int_int, R_slices_IndexFunc_int_int, false⟩,
  ⟨96, 50, C_r01_Spread, R_r01_Spread, false⟩,
  ⟨97, 134, C_slices_pdqsortOrdered_int, R_slices_pdqsortOrdered_int, false⟩,
  ⟨98, 8, C_math_bits_Len, R_math_bits_Len, false⟩,
  ⟨99, 49, C_slices_insertionSortOrdered_int, R_slices_insertionSortOrdered_int, false⟩,
  ⟨100, 56, C_slices_heapSortOrdered_int, R_slices_heapSortOrdered_int, false⟩,
  ⟨101, 65, C_slices_breakPatternsOrdered_int, R_slices_breakPatternsOrdered_int, false⟩,
  ⟨102, 57, C_slices_choosePivotOrdered_int, R_slices_choosePivotOrdered_int, false⟩,
  ⟨103, 32, C_slices_reverseRangeOrdered_int, R_slices_reverseRangeOrdered_int, false⟩,
  ⟨104, 133, C_slices_partialInsertionSortOrdered_int, R_slices_partialInsertionSortOrdered_int, false⟩,
  ⟨105, 17, C_cmp_Less_int, R_cmp_Less_int, false⟩,
  ⟨106, 84, C_slices_partitionEqualOrdered_int, R_slices_partitionEqualOrdered_int, false⟩,
  ⟨107, 168, C_slices_partitionOrdered_int, R_slices_partitionOrdered_int, false⟩,
  ⟨108, 19, C_math_bits_Len32, R_math_bits_Len32, false⟩,
  ⟨109, 25, C_math_bits_Len64, R_math_bits_Len64, false⟩,
  ⟨110, 76, C_slices_siftDownOrdered_int, R_slices_siftDownOrdered_int, false⟩,
  ⟨111, 7, C_slices_nextPowerOfTwo, R_slices_nextPowerOfTwo, false⟩,
  ⟨112, 33, C_slices_xorshift_Next, R_slices_xorshift_Next, false⟩,
  ⟨113, 15, C_slices_medianAdjacentOrdered_int, R_slices_medianAdjacentOrdered_int, false⟩,
  ⟨114, 36, C_slices_medianOrdered_int, R_slices_medianOrdered_int, false⟩,
  ⟨115, 6, C_cmp_isNaN_int, R_cmp_isNaN_int, false⟩,
  ⟨116, 28, C_slices_order2Ordered_int, R_slices_order2Ordered_int, false⟩]
theorem theTab_ok : TabOk Try.prog theTab := ⟨E_gosem_cut_init, E_l05_StandBalances, E_l05_StandTides, E_l05_StandForces, E_l05_StandBallasts, E_l05_StandKnown, E_l05_StandTrue, E_l05_StandShown, E_l05_StandBears, E_l05_StandLeast, E_l05_StandBallast, E_l05_StandWater, E_l05_StandLess, E_l05_StandTurned, E_l05_StandJoined, E_stand_Check, E_r05_Check, E_stand_Balance, E_r05_Balance, E_stand_Least, E_r05_Least, E_l05_Awake, E_stand_Why, E_r05_Why, E_stand_Show, E_r05_Show, E_r05_Same, E_stand_Tide, E_r05_Tide, E_stand_Forces, E_r05_Forces, E_r05_Alike, E_stand_Bears, E_r05_Bears, E_stand_Ballast, E_r05_Ballast, E_l05_Hull, E_l05_Heavy, E_l05_span, E_r01_Name, E_l05_Tide, E_l05_valid, E_l05_stands, E_l05_Truth, E_l05_among, E_r05_Truth, E_r05_Heavier, E_l05_narrow, E_l05_turn, E_stand_beyond, E_hull_Name, E_slices_ContainsFunc_api_StPart_api_StPart, E_stand_Check_1, E_stand_check, E_r05_in, E_r01_Fresh, E_r05_part, E_stand_open, E_stand_body_in, E_stand_sums_balance, E_r05_watered, E_r05_Weighed, E_stand_wet, E_stand_body_least, E_r05_Smallest, E_l05_two, E_stand_tidal, E_stand_body_first, E_r05_tided, E_r05_first, E_stand_sums_why, E_stand_body_levers, E_r05_Reason, E_r05_Shown, E_r01_Ints, E_stand_body_bends, E_r01_within, E_slices_ContainsFunc_int_int, E_stand_beyond_1, E_slices_IndexFunc_api_StPart_api_StPart, E_r01_Place, E_r01_Range, E_stand_strange_api_StPart, E_stand_open_1, E_stand_open_2, E_stand_body_levers_1, E_stand_body_levers_2, E_stand_body_levers_3, E_stand_load_light, E_stand_load_heavy, E_stand_body_bends_1, E_slices_Sort_int_int, E_slices_Compact_int_int, E_slices_IndexFunc_int_int, E_r01_Spread, E_slices_pdqsortOrdered_int, E_math_bits_Len, E_slices_insertionSortOrdered_int, E_slices_heapSortOrdered_int, E_slices_breakPatternsOrdered_int, E_slices_choosePivotOrdered_int, E_slices_reverseRangeOrdered_int, E_slices_partialInsertionSortOrdered_int, E_cmp_Less_int, E_slices_partitionEqualOrdered_int, E_slices_partitionOrdered_int, E_math_bits_Len32, E_math_bits_Len64, E_slices_siftDownOrdered_int, E_slices_nextPowerOfTwo, E_slices_xorshift_Next, E_slices_medianAdjacentOrdered_int, E_slices_medianOrdered_int, E_cmp_isNaN_int, E_slices_order2Ordered_int, trivial⟩

end Go.AM
