/- The examples of chapter 06: the calls of Awake. -/
import Derived.Test.YtmjfcbpgnmajpaaGreatDoorTC2
namespace Go.AM
open Go.Proofs
set_option maxRecDepth 100000

def oa0 : OrcE := ⟨F_cut_Bad, [taskT, .slice 1 [jj 0, jj 1]], .tup [jj 1, jj 4, jj 0]⟩
theorem oa0_ok : OrcEOk Tryz.prog oa0 := orcE_of_run (L := 5000) (n := 40) theTab_ok (orcs_ok orcC_ok) (by kernel_rfl) (by kernel_rfl) (by kernel_rfl) (by kernel_rfl)
def oa1 : OrcE := ⟨F_cut_Bad, [taskV, .slice 1 [jj 0, jj 2]], .tup [jj 1, jj 3, jj 0]⟩
theorem oa1_ok : OrcEOk Tryz.prog oa1 := orcE_of_run (L := 5000) (n := 40) theTab_ok (orcs_ok orcC_ok) (by kernel_rfl) (by kernel_rfl) (by kernel_rfl) (by kernel_rfl)
def oa2 : OrcE := ⟨F_cut_May, [taskT, .slice 1 []], .tup [.slice 1 [jj 0, jj 1], jj 0]⟩
theorem oa2_ok : OrcEOk Tryz.prog oa2 := orcE_of_run (L := 5000) (n := 40) theTab_ok (orcs_ok orcC_ok) (by kernel_rfl) (by kernel_rfl) (by kernel_rfl) (by kernel_rfl)
def oa3 : OrcE := ⟨F_cut_Next, [taskT, .slice 1 []], .tup [.slice 1 [jj 0], jj 0]⟩
theorem oa3_ok : OrcEOk Tryz.prog oa3 := orcE_of_run (L := 5000) (n := 40) theTab_ok (orcs_ok orcC_ok) (by kernel_rfl) (by kernel_rfl) (by kernel_rfl) (by kernel_rfl)
def oa4 : OrcE := ⟨F_cut_First, [taskT], .tup [.slice 1 [jj 0, jj 2, jj 1], jj 0]⟩
theorem oa4_ok : OrcEOk Tryz.prog oa4 := orcE_of_run (L := 5000) (n := 40) theTab_ok (orcs_ok orcC_ok) (by kernel_rfl) (by kernel_rfl) (by kernel_rfl) (by kernel_rfl)
def oa5 : OrcE := ⟨F_cut_First, [taskU], .tup [.slice 1 [], jj 9]⟩
theorem oa5_ok : OrcEOk Tryz.prog oa5 := orcE_of_run (L := 5000) (n := 40) theTab_ok (orcs_ok orcC_ok) (by kernel_rfl) (by kernel_rfl) (by kernel_rfl) (by kernel_rfl)
def oa6 : OrcE := ⟨F_cut_Most, [taskU], .tup [.slice 1 [jj 1], jj 0]⟩
theorem oa6_ok : OrcEOk Tryz.prog oa6 := orcE_of_run (L := 5000) (n := 40) theTab_ok (orcs_ok orcC_ok) (by kernel_rfl) (by kernel_rfl) (by kernel_rfl) (by kernel_rfl)
def oa7 : OrcE := ⟨F_cut_To, [taskT, jj 2], .tup [.slice 1 [jj 0, jj 2], jj 0]⟩
theorem oa7_ok : OrcEOk Tryz.prog oa7 := orcE_of_run (L := 5000) (n := 40) theTab_ok (orcs_ok orcC_ok) (by kernel_rfl) (by kernel_rfl) (by kernel_rfl) (by kernel_rfl)
def oa8 : OrcE := ⟨F_cut_Proof, [taskV], .tup [.slice 1 [jj 5, jj 6, jj 7], jj 0]⟩
theorem oa8_ok : OrcEOk Tryz.prog oa8 := orcE_of_run (L := 5000) (n := 40) theTab_ok (orcs_ok orcC_ok) (by kernel_rfl) (by kernel_rfl) (by kernel_rfl) (by kernel_rfl)
def oa9 : OrcE := ⟨F_cut_Proves, [taskV, .slice 1 [jj 7, jj 6, jj 5]], .tup [.bool true, jj 0]⟩
theorem oa9_ok : OrcEOk Tryz.prog oa9 := orcE_of_run (L := 5000) (n := 40) theTab_ok (orcs_ok orcC_ok) (by kernel_rfl) (by kernel_rfl) (by kernel_rfl) (by kernel_rfl)
def oa10 : OrcE := ⟨F_cut_Proves, [taskV, .slice 1 [jj 7, jj 6]], .tup [.bool false, jj 0]⟩
theorem oa10_ok : OrcEOk Tryz.prog oa10 := orcE_of_run (L := 5000) (n := 40) theTab_ok (orcs_ok orcC_ok) (by kernel_rfl) (by kernel_rfl) (by kernel_rfl) (by kernel_rfl)
def orcA : List OrcE := [oa0, oa1, oa2, oa3, oa4, oa5, oa6, oa7, oa8, oa9, oa10] ++ orcC
theorem orcA_ok : OrcsOk Tryz.prog orcA := orcs_app ⟨oa0_ok, oa1_ok, oa2_ok, oa3_ok, oa4_ok, oa5_ok, oa6_ok, oa7_ok, oa8_ok, oa9_ok, oa10_ok, trivial⟩ orcC_ok
def oAw : OrcE := ⟨F_l06_Awake, [], .bool true⟩
theorem oAw_ok : OrcEOk Tryz.prog oAw := orcE_of_run (L := 5000) (n := 40) theTab_ok (orcs_ok orcA_ok) (by kernel_rfl) (by kernel_rfl) (by kernel_rfl) (by kernel_rfl)
end Go.AM
