/- MADE BY PROGRAM (gen.py): the abstract code of functions of this seat, each checked against the given code by the kernel. -/
import Derived.Test.YtmjfcbpgnmajpaaGreatDoorG05a
import Derived.Test.YtmjfcbpgnmajpaaGreatDoorG05b
import Derived.Test.YtmjfcbpgnmajpaaGreatDoorChecked
import Derived.Test.YtmjfcbpgnmajpaaGreatDoorP13
namespace Go.AM
open Go.Proofs
abbrev EC:FuncId:=221
def Hb:AC:=
(.seq (.reg [oP 4 (.mv (cI 0))] [0,1])
(.seq (.seq (.reg [mV 6 0,
oP 7 (.len (.t 6)),
oP 8 (.mv (cI 0))] [0,1,7,8])
(.block 0
(.loop [0,1,7,8]
(.seq (.reg [oP 9 (.bin .lss (.t 8) (.t 7))] [0,1,7,8,9])
(.seq (.cond (.t 9)
.skip
(.exit 0))
(.seq (.block 1
(.seq (.reg [mV 10 8,
mV 5 10] [0,1,5,7,8])
(.seq (.reg [mV 11 1,
mV 12 0,
mV 13 5,
oP 14 (.ixS 2 (.t 12) (.t 13)),
oP 15 (.load (some 2) (.t 14)),
oP 16 (.call (.t 11) [false] [(.t 15)])] [0,1,5,7,8,16])
(.cond (.t 16)
(.seq (.reg [mV 17 5,
mV 4 17] [4])
.ret)
.skip))))
(.reg [oP 18 (.bin .add (.t 8) (cI 1)),
mV 8 18] [0,1,7,8])))))))
(.seq (.reg [oP 4 (.mv (cI (-1)))] [4])
.ret)))
abbrev Jl:RsT:=[(4,none)]
theorem Oy:SpF 19 EC Hb Jl:=SpI Tryz.func221 (by kernel_rfl)
theorem K0:ak Tryz.prog EC = true:=by kernel_rfl
abbrev T8:FuncId:=222
def UR:AC:=
(.seq (.reg [oP 8 (.mv (cI 0)),
oP 9 (.mv (cI 0))] [0,1,2,3])
(.seq (.seq (.dreg [mV 10 0,
mV 11 2,
oP 12 (.ixS 1 (.t 10) (.t 11)),
oP 13 (.load none (.t 12)),
mV 14 0,
mV 15 1,
oP 16 (.ixS 1 (.t 14) (.t 15)),
oP 17 (.load none (.t 16)),
oP 18 (.call (.f 172) [false,false] [(.t 13),(.t 17)])] [1,2,3,18] [[],[],[0,1],[0,1,2],[],[],[4,5],[4,5,6],[0,1,2,3,4,5,6,7]])
(.cond (.t 18)
(.seq (.reg [mV 19 3,
oP 20 (.nilchk (.t 19)),
oP 21 (.load none (.t 20)),
oP 22 (.bin .add (.t 21) (cI 1)),
oP 23 (.nilchk (.t 19)),
oN (.store 1 (.t 23) (.t 22))] [1,2])
(.seq (.reg [mV 24 2,
mV 25 1,
mV 8 24,
mV 9 25] [8,9])
.ret))
.skip))
(.seq (.reg [mV 26 1,
mV 27 2,
mV 8 26,
mV 9 27] [8,9])
.ret)))
abbrev Vp:RsT:=[(8,none),(9,none)]
theorem Vm:SpF 28 T8 UR Vp:=SpI Tryz.func222 (by kernel_rfl)
theorem Un:ak Tryz.prog T8 = true:=by kernel_rfl
end Go.AM
