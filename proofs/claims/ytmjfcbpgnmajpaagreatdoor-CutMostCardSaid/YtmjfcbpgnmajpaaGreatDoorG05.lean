/- MADE BY PROGRAM (gen.py): the abstract code of functions of this seat, each checked against the given code by the kernel. -/
import Derived.Test.YtmjfcbpgnmajpaaGreatDoorG05a
import Derived.Test.YtmjfcbpgnmajpaaGreatDoorG05b
import Derived.Test.YtmjfcbpgnmajpaaGreatDoorChecked
import Derived.Test.YtmjfcbpgnmajpaaGreatDoorP13
namespace Go.AM
open Go.Proofs
abbrev Eo : FuncId := 201
def G6 : AC :=
 (.seq (.reg [oP 2 (.mv (cI 0))] [0])
 (.seq (.seq (.reg [mV 3 0,
oP 4 (.bin .eql (.t 3) (.c (.int .u64 0)))] [0,4])
 (.cond (.t 4)
 (.seq (.reg [oP 2 (.mv (cI 64))] [2])
 .ret)
 .skip))
 (.seq (.reg [mV 5 0,
mV 6 0,
oP 7 (.un .neg (.t 6)),
oP 8 (.bin .and (.t 5) (.t 7)),
oP 9 (.bin .mul (.t 8) (.c (.int .u64 285870213051353865))),
oP 10 (.bin .shr (.t 9) (.c (.int .u64 58))),
oP 11 (.gix 1 (.t 10)),
oP 12 (.load none (.t 11)),
oP 13 (.conv .i64 (.t 12)),
mV 2 13] [2])
 .ret)))
abbrev NZ : RsT := [(2, none)]
theorem KC : SpF 14 Eo G6 NZ := SpI Tryz.func201 (by kernel_rfl)
theorem KS : ak Tryz.prog Eo = true := by kernel_rfl
abbrev DQ : FuncId := 207
def FM : AC :=
 (.seq (.reg [oP 2 (.mv (.c (.bool false)))] [0])
 (.seq (.reg [mV 3 0,
mV 4 0,
oP 5 (.bin .neq (.t 3) (.t 4)),
mV 2 5] [2])
 .ret))
abbrev KR : RsT := [(2, none)]
theorem O1 : SpF 6 DQ FM KR := SpI Tryz.func207 (by kernel_rfl)
theorem MM : ak Tryz.prog DQ = true := by kernel_rfl
abbrev Cl : FuncId := 208
def FG : AC :=
 (.seq (.reg [oP 4 (.mv (cI 0))] [0,1])
 (.seq (.seq (.reg [mV 6 0,
oP 7 (.len (.t 6)),
oP 8 (.mv (cI 0))] [0,1,7,8])
 (.block 0
 (.loop [0,1,7,8]
 (.seq (.reg [oP 9 (.bin .lss (.t 8) (.t 7))] [0,1,7,8,9])
 (.seq (.cond (.t 9)
 .skip
 (.exit 0))
 (.seq (.block 1
 (.seq (.reg [mV 10 8,
mV 5 10] [0,1,5,7,8])
 (.seq (.reg [mV 11 1,
mV 12 0,
mV 13 5,
oP 14 (.ixS 7 (.t 12) (.t 13)),
oP 15 (.load (some 7) (.t 14)),
oP 16 (.call (.t 11) [true] [(.t 15)])] [0,1,5,7,8,16])
 (.cond (.t 16)
 (.seq (.reg [mV 17 5,
mV 4 17] [4])
 .ret)
 .skip))))
 (.reg [oP 18 (.bin .add (.t 8) (cI 1)),
mV 8 18] [0,1,7,8])))))))
 (.seq (.reg [oP 4 (.mv (cI (-1)))] [4])
 .ret)))
abbrev Ks : RsT := [(4, none)]
theorem Kc : SpF 19 Cl FG Ks := SpI Tryz.func208 (by kernel_rfl)
theorem GK : ak Tryz.prog Cl = true := by kernel_rfl
abbrev Ea : FuncId := 209
def Gb : AC :=
 (.seq (.reg [oP 2 (.pbox 7 (.t 0)),
oP 3 (.mv (.c (.bool false)))] [1,2])
 (.seq (.reg [oP 4 (.fieldAddr none 0 (.t 2)),
oP 5 (.load none (.t 4)),
oP 6 (.load none (.t 1)),
oP 7 (.bin .eql (.t 5) (.t 6)),
mV 3 7] [3])
 .ret))
abbrev Jm : RsT := [(3, none)]
theorem Ov : SpF 8 Ea Gb Jm := SpI Tryz.func209 (by kernel_rfl)
theorem K5 : ak Tryz.prog Ea = true := by kernel_rfl
abbrev CM : FuncId := 210
def F5 : AC :=
 (.seq (.reg [oP 4 (.mv (cI 0))] [0,1])
 (.seq (.seq (.reg [mV 6 0,
oP 7 (.len (.t 6)),
oP 8 (.mv (cI 0))] [0,1,7,8])
 (.block 0
 (.loop [0,1,7,8]
 (.seq (.reg [oP 9 (.bin .lss (.t 8) (.t 7))] [0,1,7,8,9])
 (.seq (.cond (.t 9)
 .skip
 (.exit 0))
 (.seq (.block 1
 (.seq (.reg [mV 10 8,
mV 5 10] [0,1,5,7,8])
 (.seq (.reg [mV 11 1,
mV 12 0,
mV 13 5,
oP 14 (.ixS 1 (.t 12) (.t 13)),
oP 15 (.load none (.t 14)),
oP 16 (.call (.t 11) [false] [(.t 15)])] [0,1,5,7,8,16])
 (.cond (.t 16)
 (.seq (.reg [mV 17 5,
mV 4 17] [4])
 .ret)
 .skip))))
 (.reg [oP 18 (.bin .add (.t 8) (cI 1)),
mV 8 18] [0,1,7,8])))))))
 (.seq (.reg [oP 4 (.mv (cI (-1)))] [4])
 .ret)))
abbrev LN : RsT := [(4, none)]
theorem JQ : SpF 19 CM F5 LN := SpI Tryz.func210 (by kernel_rfl)
theorem Pm : ak Tryz.prog CM = true := by kernel_rfl
abbrev B2 : FuncId := 216
def Gh : AC :=
 (.seq (.reg [oP 1 (.pbox 7 (.t 0)),
oP 2 (.mv (cI 0))] [])
 (.seq (.reg [oP 2 (.mv (cI 1))] [2])
 .ret))
abbrev NC : RsT := [(2, none)]
theorem Kb : SpF 3 B2 Gh NC := SpI Tryz.func216 (by kernel_rfl)
theorem Oe : ak Tryz.prog B2 = true := by kernel_rfl
abbrev CS : FuncId := 217
def FT : AC :=
 (.seq (.reg [oP 2 (.pbox 7 (.t 0)),
oP 3 (.mv (cI 0))] [1,2])
 (.seq (.reg [oP 4 (.fieldAddr none 1 (.t 2)),
oP 5 (.load none (.t 4)),
oP 6 (.fieldAddr (some 3) 0 (.t 1)),
oP 7 (.fieldAddr none 1 (.t 6)),
oP 8 (.load none (.t 7)),
oP 9 (.bin .sub (.t 5) (.t 8)),
mV 3 9] [3])
 .ret))
abbrev Mk : RsT := [(3, none)]
theorem MF : SpF 10 CS FT Mk := SpI Tryz.func217 (by kernel_rfl)
theorem OV : ak Tryz.prog CS = true := by kernel_rfl
abbrev DN : FuncId := 218
def Gl : AC :=
 (.seq (.reg [oP 2 (.pbox 7 (.t 0)),
oP 3 (.mv (cI 0))] [1,2])
 (.seq (.reg [oP 4 (.fieldAddr (some 3) 0 (.t 1)),
oP 5 (.fieldAddr none 2 (.t 4)),
oP 6 (.load none (.t 5)),
oP 7 (.fieldAddr none 1 (.t 2)),
oP 8 (.load none (.t 7)),
oP 9 (.bin .sub (.t 6) (.t 8)),
mV 3 9] [3])
 .ret))
abbrev MT : RsT := [(3, none)]
theorem Pl : SpF 10 DN Gl MT := SpI Tryz.func218 (by kernel_rfl)
theorem OB : ak Tryz.prog DN = true := by kernel_rfl
abbrev DT : FuncId := 219
def He : AC :=
 (.seq (.reg [oP 1 (.pbox 8 (.t 0)),
oP 2 (.mv (cI 0))] [1])
 (.seq (.reg [oP 3 (.fieldAddr (some 7) 0 (.t 1)),
oP 4 (.fieldAddr (some 2) 2 (.t 3)),
oP 5 (.fieldAddr none 0 (.t 4)),
oP 6 (.load none (.t 5)),
oP 7 (.fieldAddr (some 7) 0 (.t 1)),
oP 8 (.fieldAddr (some 2) 5 (.t 7)),
oP 9 (.fieldAddr none 1 (.t 8)),
oP 10 (.load none (.t 9)),
oP 11 (.fieldAddr none 7 (.t 1)),
oP 12 (.load none (.t 11)),
oP 13 (.bin .mul (.t 10) (.t 12)),
oP 14 (.bin .sub (.t 6) (.t 13)),
mV 2 14] [2])
 .ret))
abbrev L6 : RsT := [(2, none)]
theorem Ka : SpF 15 DT He L6 := SpI Tryz.func219 (by kernel_rfl)
theorem Kd : ak Tryz.prog DT = true := by kernel_rfl
abbrev DC : FuncId := 220
def Hc : AC :=
 (.seq (.reg [oP 1 (.pbox 8 (.t 0)),
oP 2 (.mv (cI 0))] [1])
 (.seq (.reg [oP 3 (.fieldAddr (some 7) 0 (.t 1)),
oP 4 (.fieldAddr (some 2) 2 (.t 3)),
oP 5 (.fieldAddr none 1 (.t 4)),
oP 6 (.load none (.t 5)),
oP 7 (.fieldAddr (some 7) 0 (.t 1)),
oP 8 (.fieldAddr (some 2) 5 (.t 7)),
oP 9 (.fieldAddr none 0 (.t 8)),
oP 10 (.load none (.t 9)),
oP 11 (.fieldAddr none 7 (.t 1)),
oP 12 (.load none (.t 11)),
oP 13 (.bin .mul (.t 10) (.t 12)),
oP 14 (.bin .sub (.t 6) (.t 13)),
mV 2 14] [2])
 .ret))
abbrev Na : RsT := [(2, none)]
theorem JG : SpF 15 DC Hc Na := SpI Tryz.func220 (by kernel_rfl)
theorem Kz : ak Tryz.prog DC = true := by kernel_rfl
abbrev EC : FuncId := 221
def Hb : AC :=
 (.seq (.reg [oP 4 (.mv (cI 0))] [0,1])
 (.seq (.seq (.reg [mV 6 0,
oP 7 (.len (.t 6)),
oP 8 (.mv (cI 0))] [0,1,7,8])
 (.block 0
 (.loop [0,1,7,8]
 (.seq (.reg [oP 9 (.bin .lss (.t 8) (.t 7))] [0,1,7,8,9])
 (.seq (.cond (.t 9)
 .skip
 (.exit 0))
 (.seq (.block 1
 (.seq (.reg [mV 10 8,
mV 5 10] [0,1,5,7,8])
 (.seq (.reg [mV 11 1,
mV 12 0,
mV 13 5,
oP 14 (.ixS 2 (.t 12) (.t 13)),
oP 15 (.load (some 2) (.t 14)),
oP 16 (.call (.t 11) [false] [(.t 15)])] [0,1,5,7,8,16])
 (.cond (.t 16)
 (.seq (.reg [mV 17 5,
mV 4 17] [4])
 .ret)
 .skip))))
 (.reg [oP 18 (.bin .add (.t 8) (cI 1)),
mV 8 18] [0,1,7,8])))))))
 (.seq (.reg [oP 4 (.mv (cI (-1)))] [4])
 .ret)))
abbrev Jl : RsT := [(4, none)]
theorem Oy : SpF 19 EC Hb Jl := SpI Tryz.func221 (by kernel_rfl)
theorem K0 : ak Tryz.prog EC = true := by kernel_rfl
end Go.AM
