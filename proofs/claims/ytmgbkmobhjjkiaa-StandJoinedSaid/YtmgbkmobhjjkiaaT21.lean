/- The examples of chapter 05: what the calls of Awake and of StandKnown return, by runs of the abstract code. -/
import Derived.Test.YtmgbkmobhjjkiaaG05
import Derived.Test.YtmgbkmobhjjkiaaA19
namespace Go.AM
open Go.Proofs
set_option maxRecDepth 100000

def ii (n : Int) : AVal := .int .i64 n
def hullV : AVal := .agg [.slice 7 [.agg [.str ⟨#[98, 111, 119]⟩, ii 100, ii 1000, ii 1200, ii 50, ii 10, ii 12], .agg [.str ⟨#[109, 105, 100]⟩, ii 400, ii 500, ii 600, ii 100, ii 4, ii 5], .agg [.str ⟨#[115, 116, 101, 114, 110]⟩, ii 900, ii 2000, ii 2000, ii 100, ii 20, ii 20]], ii 200, ii 800]

def o1 : OrcE := ⟨F_stand_Check, [hullV], .tup [ii 0, ii 0, ii 0]⟩
theorem o1_ok : OrcEOk Try.prog o1 := orcE_of_run (L := 5000) (n := 40) theTab_ok noOrc_ok (by kernel_rfl) (by kernel_rfl) (by kernel_rfl) (by kernel_rfl)
theorem os1 : OrcOk Try.prog (orcOf [o1]) := orcOf_ok ⟨o1_ok, trivial⟩

def o2 : OrcE := ⟨F_stand_Why, [hullV, .agg [ii 0, ii 150]], .tup [ii 3, ii 134, ii 0]⟩
theorem o2_ok : OrcEOk Try.prog o2 := orcE_of_run (L := 5000) (n := 40) theTab_ok os1 (by kernel_rfl) (by kernel_rfl) (by kernel_rfl) (by kernel_rfl)
def o3 : OrcE := ⟨F_stand_Tide, [hullV], .tup [ii 133, ii 0]⟩
theorem o3_ok : OrcEOk Try.prog o3 := orcE_of_run (L := 5000) (n := 40) theTab_ok os1 (by kernel_rfl) (by kernel_rfl) (by kernel_rfl) (by kernel_rfl)
def o4 : OrcE := ⟨F_stand_Ballast, [hullV, ii 1, .agg [ii 0, ii 150]], .tup [ii 350, ii 0]⟩
theorem o4_ok : OrcEOk Try.prog o4 := orcE_of_run (L := 5000) (n := 40) theTab_ok os1 (by kernel_rfl) (by kernel_rfl) (by kernel_rfl) (by kernel_rfl)
def o5 : OrcE := ⟨F_stand_Why, [hullV, .agg [ii 0, ii 133]], .tup [ii 0, ii 0, ii 0]⟩
theorem o5_ok : OrcEOk Try.prog o5 := orcE_of_run (L := 5000) (n := 40) theTab_ok os1 (by kernel_rfl) (by kernel_rfl) (by kernel_rfl) (by kernel_rfl)
theorem os2 : OrcOk Try.prog (orcOf [o1, o2, o3, o4, o5]) := orcOf_ok ⟨o1_ok, o2_ok, o3_ok, o4_ok, o5_ok, trivial⟩

def o6 : OrcE := ⟨F_l05_Awake, [], .bool true⟩
theorem o6_ok : OrcEOk Try.prog o6 := orcE_of_run (L := 5000) (n := 40) theTab_ok os2 (by kernel_rfl) (by kernel_rfl) (by kernel_rfl) (by kernel_rfl)
theorem os3 : OrcOk Try.prog (orcOf [o1, o2, o3, o4, o5, o6]) := orcOf_ok ⟨o1_ok, o2_ok, o3_ok, o4_ok, o5_ok, o6_ok, trivial⟩

theorem known_run : isTrueX (xFc Try.prog theTab 5000 (mkEx Try.prog theTab (orcOf [o1, o2, o3, o4, o5, o6]) 5000 40) [] F_l05_StandKnown [] []) = true := by kernel_rfl
end Go.AM
