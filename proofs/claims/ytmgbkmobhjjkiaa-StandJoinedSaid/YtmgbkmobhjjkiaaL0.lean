/- The tables of the program that this seat reads: none. -/
import GoSem.Claim
namespace Go.AM

/-- The number of a package-level table, and the numbers in its cells. -/
def laidTab : List (Nat × List (IntKind × Int)) := []

end Go.AM
