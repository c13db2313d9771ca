/- CutMost: what the law's call returns. -/
import Derived.Test.YtmjfcbpgnmajpaaGreatDoorUC1
import Derived.Test.YtmjfcbpgnmajpaaGreatDoorP25
namespace Go.AM
open Go.Proofs
set_option maxRecDepth 100000
set_option maxHeartbeats 1000000
end Go.AM
