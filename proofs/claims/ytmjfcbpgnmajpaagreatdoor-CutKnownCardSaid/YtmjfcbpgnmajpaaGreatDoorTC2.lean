/- The examples of chapter 06: known calls of the other chapters, and Check. -/
import Derived.Test.YtmjfcbpgnmajpaaGreatDoorTC1
namespace Go.AM
open Go.Proofs
set_option maxRecDepth 100000

theorem orc0_ok : OrcsOk Tryz.prog [] := trivial

def ob0 : OrcE := ⟨F_l06_Task, [.bool false, .bool false], taskT⟩
theorem ob0_ok : OrcEOk Tryz.prog ob0 := orcE_of_run (L := 5000) (n := 40) theTab_ok (orcs_ok orc0_ok) (by kernel_rfl) (by kernel_rfl) (by kernel_rfl) (by kernel_rfl)
def ob1 : OrcE := ⟨F_l06_Task, [.bool true, .bool false], taskU⟩
theorem ob1_ok : OrcEOk Tryz.prog ob1 := orcE_of_run (L := 5000) (n := 40) theTab_ok (orcs_ok orc0_ok) (by kernel_rfl) (by kernel_rfl) (by kernel_rfl) (by kernel_rfl)
def ob2 : OrcE := ⟨F_l06_Task, [.bool false, .bool true], taskV⟩
theorem ob2_ok : OrcEOk Tryz.prog ob2 := orcE_of_run (L := 5000) (n := 40) theTab_ok (orcs_ok orc0_ok) (by kernel_rfl) (by kernel_rfl) (by kernel_rfl) (by kernel_rfl)
def ob3 : OrcE := ⟨F_hull_Check, [.agg [partsV [], .slice 10 []]], .tup [jj 0, jj 0, jj 0]⟩
theorem ob3_ok : OrcEOk Tryz.prog ob3 := orcE_of_run (L := 5000) (n := 40) theTab_ok (orcs_ok orc0_ok) (by kernel_rfl) (by kernel_rfl) (by kernel_rfl) (by kernel_rfl)
def ob4 : OrcE := ⟨F_hull_Check, [.agg [partsV [.str bowS], .slice 10 []]], .tup [jj 0, jj 0, jj 0]⟩
theorem ob4_ok : OrcEOk Tryz.prog ob4 := orcE_of_run (L := 5000) (n := 40) theTab_ok (orcs_ok orc0_ok) (by kernel_rfl) (by kernel_rfl) (by kernel_rfl) (by kernel_rfl)
def ob5 : OrcE := ⟨F_stand_Check, [hull6 [bowP, midP, sternP]], .tup [jj 0, jj 0, jj 0]⟩
theorem ob5_ok : OrcEOk Tryz.prog ob5 := orcE_of_run (L := 5000) (n := 40) theTab_ok (orcs_ok orc0_ok) (by kernel_rfl) (by kernel_rfl) (by kernel_rfl) (by kernel_rfl)
def ob6 : OrcE := ⟨F_stand_Why, [hull6 [bowP, midP, sternP], tide6], .tup [jj 0, jj 0, jj 0]⟩
theorem ob6_ok : OrcEOk Tryz.prog ob6 := orcE_of_run (L := 5000) (n := 40) theTab_ok (orcs_ok orc0_ok) (by kernel_rfl) (by kernel_rfl) (by kernel_rfl) (by kernel_rfl)
def ob7 : OrcE := ⟨F_stand_Why, [hull6 [bowP], tide6], .tup [jj 2, jj 0, jj 0]⟩
theorem ob7_ok : OrcEOk Tryz.prog ob7 := orcE_of_run (L := 5000) (n := 40) theTab_ok (orcs_ok orc0_ok) (by kernel_rfl) (by kernel_rfl) (by kernel_rfl) (by kernel_rfl)
def ob8 : OrcE := ⟨F_stand_Why, [hull6 [midP], tide6], .tup [jj 0, jj 0, jj 0]⟩
theorem ob8_ok : OrcEOk Tryz.prog ob8 := orcE_of_run (L := 5000) (n := 40) theTab_ok (orcs_ok orc0_ok) (by kernel_rfl) (by kernel_rfl) (by kernel_rfl) (by kernel_rfl)
def ob9 : OrcE := ⟨F_stand_Why, [hull6 [sternP], tide6], .tup [jj 3, jj 0, jj 0]⟩
theorem ob9_ok : OrcEOk Tryz.prog ob9 := orcE_of_run (L := 5000) (n := 40) theTab_ok (orcs_ok orc0_ok) (by kernel_rfl) (by kernel_rfl) (by kernel_rfl) (by kernel_rfl)
def ob10 : OrcE := ⟨F_stand_Why, [hull6 [bowP, midP], tide6], .tup [jj 2, jj 0, jj 0]⟩
theorem ob10_ok : OrcEOk Tryz.prog ob10 := orcE_of_run (L := 5000) (n := 40) theTab_ok (orcs_ok orc0_ok) (by kernel_rfl) (by kernel_rfl) (by kernel_rfl) (by kernel_rfl)
def ob11 : OrcE := ⟨F_stand_Why, [hull6 [bowP, sternP], tide6], .tup [jj 0, jj 0, jj 0]⟩
theorem ob11_ok : OrcEOk Tryz.prog ob11 := orcE_of_run (L := 5000) (n := 40) theTab_ok (orcs_ok orc0_ok) (by kernel_rfl) (by kernel_rfl) (by kernel_rfl) (by kernel_rfl)
def ob12 : OrcE := ⟨F_stand_Why, [hull6 [midP, sternP], tide6], .tup [jj 0, jj 0, jj 0]⟩
theorem ob12_ok : OrcEOk Tryz.prog ob12 := orcE_of_run (L := 5000) (n := 40) theTab_ok (orcs_ok orc0_ok) (by kernel_rfl) (by kernel_rfl) (by kernel_rfl) (by kernel_rfl)
def ob13 : OrcE := ⟨F_vent_After, [.agg [tanksV, pipesV], blanksV, stepsV], .tup [.agg [.slice 1 [jj 3, jj 4], .slice 1 []], jj 0]⟩
theorem ob13_ok : OrcEOk Tryz.prog ob13 := orcE_of_run (L := 5000) (n := 40) theTab_ok (orcs_ok orc0_ok) (by kernel_rfl) (by kernel_rfl) (by kernel_rfl) (by kernel_rfl)
theorem orcs_app {P : Program} : ∀ {a b : List OrcE}, OrcsOk P a → OrcsOk P b → OrcsOk P (a ++ b)
  | [], _, _, h => h
  | _ :: _, _, h, k => ⟨h.1, orcs_app h.2 k⟩
def orcB : List OrcE := [ob0, ob1, ob2, ob3, ob4, ob5, ob6, ob7, ob8, ob9, ob10, ob11, ob12, ob13]
theorem orcB_ok : OrcsOk Tryz.prog orcB := ⟨ob0_ok, ob1_ok, ob2_ok, ob3_ok, ob4_ok, ob5_ok, ob6_ok, ob7_ok, ob8_ok, ob9_ok, ob10_ok, ob11_ok, ob12_ok, ob13_ok, trivial⟩
def oc0 : OrcE := ⟨F_cut_Check, [taskT], .tup [jj 0, jj 0, jj 0]⟩
theorem oc0_ok : OrcEOk Tryz.prog oc0 := orcE_of_run (L := 5000) (n := 40) theTab_ok (orcs_ok orcB_ok) (by kernel_rfl) (by kernel_rfl) (by kernel_rfl) (by kernel_rfl)
def oc1 : OrcE := ⟨F_cut_Check, [taskU], .tup [jj 0, jj 0, jj 0]⟩
theorem oc1_ok : OrcEOk Tryz.prog oc1 := orcE_of_run (L := 5000) (n := 40) theTab_ok (orcs_ok orcB_ok) (by kernel_rfl) (by kernel_rfl) (by kernel_rfl) (by kernel_rfl)
def oc2 : OrcE := ⟨F_cut_Check, [taskV], .tup [jj 0, jj 0, jj 0]⟩
theorem oc2_ok : OrcEOk Tryz.prog oc2 := orcE_of_run (L := 5000) (n := 40) theTab_ok (orcs_ok orcB_ok) (by kernel_rfl) (by kernel_rfl) (by kernel_rfl) (by kernel_rfl)
def orcC : List OrcE := [oc0, oc1, oc2] ++ orcB
theorem orcC_ok : OrcsOk Tryz.prog orcC := orcs_app ⟨oc0_ok, oc1_ok, oc2_ok, trivial⟩ orcB_ok
end Go.AM
