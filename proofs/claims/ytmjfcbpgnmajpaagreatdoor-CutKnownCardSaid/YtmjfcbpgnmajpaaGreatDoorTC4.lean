/- CutKnown: its calls. -/
import Derived.Test.YtmjfcbpgnmajpaaGreatDoorTC3
namespace Go.AM
open Go.Proofs
set_option maxRecDepth 100000

def ok0 : OrcE := ⟨F_cut_May, [taskT, .slice 1 [jj 0]], .tup [.slice 1 [jj 2], jj 0]⟩
theorem ok0_ok : OrcEOk Tryz.prog ok0 := orcE_of_run (L := 5000) (n := 40) theTab_ok (orcs_ok orcC_ok) (by kernel_rfl) (by kernel_rfl) (by kernel_rfl) (by kernel_rfl)
def ok1 : OrcE := ⟨F_cut_May, [taskT, .slice 1 [jj 0, jj 2]], .tup [.slice 1 [jj 1], jj 0]⟩
theorem ok1_ok : OrcEOk Tryz.prog ok1 := orcE_of_run (L := 5000) (n := 40) theTab_ok (orcs_ok orcC_ok) (by kernel_rfl) (by kernel_rfl) (by kernel_rfl) (by kernel_rfl)
def ok2 : OrcE := ⟨F_cut_First, [taskV], .tup [.slice 1 [], jj 9]⟩
theorem ok2_ok : OrcEOk Tryz.prog ok2 := orcE_of_run (L := 5000) (n := 40) theTab_ok (orcs_ok orcC_ok) (by kernel_rfl) (by kernel_rfl) (by kernel_rfl) (by kernel_rfl)
def ok3 : OrcE := ⟨F_cut_Bad, [taskT, .slice 1 [jj 1, jj 1]], .tup [jj 1, jj 1, jj 0]⟩
theorem ok3_ok : OrcEOk Tryz.prog ok3 := orcE_of_run (L := 5000) (n := 40) theTab_ok (orcs_ok orcC_ok) (by kernel_rfl) (by kernel_rfl) (by kernel_rfl) (by kernel_rfl)
def ok4 : OrcE := ⟨F_cut_Bad, [taskT, .slice 1 [jj 1, jj 0]], .tup [jj 1, jj 4, jj 0]⟩
theorem ok4_ok : OrcEOk Tryz.prog ok4 := orcE_of_run (L := 5000) (n := 40) theTab_ok (orcs_ok orcC_ok) (by kernel_rfl) (by kernel_rfl) (by kernel_rfl) (by kernel_rfl)
def ok5 : OrcE := ⟨F_cut_Bad, [taskT, .slice 1 [jj 0, jj 2, jj 1]], .tup [jj (-1), jj 0, jj 0]⟩
theorem ok5_ok : OrcEOk Tryz.prog ok5 := orcE_of_run (L := 5000) (n := 40) theTab_ok (orcs_ok orcC_ok) (by kernel_rfl) (by kernel_rfl) (by kernel_rfl) (by kernel_rfl)
def ok6 : OrcE := ⟨F_cut_Bad, [taskU, .slice 1 [jj 0]], .tup [jj 0, jj 2, jj 0]⟩
theorem ok6_ok : OrcEOk Tryz.prog ok6 := orcE_of_run (L := 5000) (n := 40) theTab_ok (orcs_ok orcC_ok) (by kernel_rfl) (by kernel_rfl) (by kernel_rfl) (by kernel_rfl)
def ok7 : OrcE := ⟨F_cut_Most, [taskV], .tup [.slice 1 [jj 0], jj 0]⟩
theorem ok7_ok : OrcEOk Tryz.prog ok7 := orcE_of_run (L := 5000) (n := 40) theTab_ok (orcs_ok orcC_ok) (by kernel_rfl) (by kernel_rfl) (by kernel_rfl) (by kernel_rfl)
def ok8 : OrcE := ⟨F_cut_To, [taskU, jj 2], .tup [.slice 1 [], jj 9]⟩
theorem ok8_ok : OrcEOk Tryz.prog ok8 := orcE_of_run (L := 5000) (n := 40) theTab_ok (orcs_ok orcC_ok) (by kernel_rfl) (by kernel_rfl) (by kernel_rfl) (by kernel_rfl)
def ok9 : OrcE := ⟨F_cut_Proof, [taskU], .tup [.slice 1 [jj 5, jj 7], jj 0]⟩
theorem ok9_ok : OrcEOk Tryz.prog ok9 := orcE_of_run (L := 5000) (n := 40) theTab_ok (orcs_ok orcC_ok) (by kernel_rfl) (by kernel_rfl) (by kernel_rfl) (by kernel_rfl)
def orcK : List OrcE := [oAw, ok0, ok1, ok2, ok3, ok4, ok5, ok6, ok7, ok8, ok9] ++ orcC
theorem orcK_ok : OrcsOk Tryz.prog orcK := orcs_app ⟨oAw_ok, ok0_ok, ok1_ok, ok2_ok, ok3_ok, ok4_ok, ok5_ok, ok6_ok, ok7_ok, ok8_ok, ok9_ok, trivial⟩ orcC_ok
theorem known_run : isTrueX (xFc Tryz.prog theTab 5000 (mkEx Tryz.prog theTab (orcs orcK) 5000 40) [] F_l06_CutKnown [] []) = true := by kernel_rfl
end Go.AM
