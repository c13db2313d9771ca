/- MADE BY PROGRAM (gen.py): the abstract code of functions of this seat, each checked against the given code by the kernel. -/
import Derived.Test.YtmjfcbpgnmajpaaGreatDoorChecked
import Derived.Test.YtmjfcbpgnmajpaaGreatDoorG05a
import Derived.Test.YtmjfcbpgnmajpaaGreatDoorP13
namespace Go.AM
open Go.Proofs
abbrev IN : FuncId := 90
def Kk : AC :=
(.seq (.reg [oP 2 (.mv (.c (.bool false)))] [0])
(.seq (.seq (.reg [mV 7 0,
oP 8 (.range (.t 7))] [0,8])
(.block 0
(.loop [0,8]
(.seq (.reg [oP 9 (.next (.t 8)),
oP 10 (.extract (.t 9) 0)] [0,8,9,10])
(.seq (.cond (.t 10)
.skip
(.exit 0))
(.block 1
(.seq (.reg [oP 11 (.extract (.t 9) 1),
oP 12 (.extract (.t 9) 2),
mV 3 11,
mV 4 12] [0,3,4,8])
(.seq (.reg [mV 13 4,
oP 14 (.bin .geq (.t 13) (.c (.int .i32 97))),
mV 15 14,
gT 16 15 (.mv (.t 4)),
gT 17 15 (.bin .leq (.t 16) (.c (.int .i32 122))),
oP 18 (.pick (.t 15) (.t 17) (.c (.bool false))),
mV 19 4,
oP 20 (.bin .geq (.t 19) (.c (.int .i32 48))),
mV 21 20,
gT 22 21 (.mv (.t 4)),
gT 23 21 (.bin .leq (.t 22) (.c (.int .i32 57))),
oP 24 (.pick (.t 21) (.t 23) (.c (.bool false))),
mV 5 18,
mV 6 24] [0,3,5,6,8])
(.seq (.reg [mV 25 5,
oP 26 (.un .not (.t 25)),
mV 27 26,
gT 28 27 (.mv (.t 6)),
gT 29 27 (.un .not (.t 28)),
gT 30 27 (.mv (.t 29)),
gF 31 30 (.mv (.t 3)),
gF 32 30 (.bin .eql (.t 31) (cI 0)),
gT 33 27 (.pick (.t 30) (.c (.bool true)) (.t 32)),
oP 34 (.pick (.t 27) (.t 33) (.c (.bool false)))] [0,8,34])
(.cond (.t 34)
(.seq (.reg [oP 2 (.mv (.c (.bool false)))] [2])
.ret)
.skip))))))))))
(.seq (.reg [mV 35 0,
⟨some 36,none, .bin .neq (.t 35) (.c (.str ⟨#[]⟩))⟩,
mV 37 36,
gT 38 37 (.mv (.t 0)),
gT 39 37 (.lenStr (.t 38)),
gT 40 37 (.bin .leq (.t 39) (cI 16)),
oP 41 (.pick (.t 37) (.t 40) (.c (.bool false))),
mV 2 41] [2])
.ret)))
abbrev QQ : RsT := [(2,none)]
theorem PK : SpF 42 IN Kk QQ := SpI Tryz.func90 (by kernel_rfl)
theorem Bd : ak Tryz.prog IN = true := by kernel_rfl
abbrev Iu : FuncId := 91
def KQ : AC :=
(.seq (.reg [oP 4 (.mv (.c (.bool false)))] [0,1])
(.seq (.reg [mV 5 0,
mV 6 1,
oP 7 (.call (.f 137) [true,false] [(.t 5),(.t 6)]),
oP 8 (.bin .geq (.t 7) (cI 0)),
mV 4 8] [4])
.ret))
abbrev QU : RsT := [(4,none)]
theorem SQ : SpF 9 Iu KQ QU := SpI Tryz.func91 (by kernel_rfl)
theorem KJ : ak Tryz.prog Iu = true := by kernel_rfl
abbrev Fc : FuncId := 92
def Kx : AC :=
(.seq (.reg [oP 2 (.pbox 7 (.t 0)),
oP 3 (.mv (.c (.bool false)))] [1,2])
(.seq (.reg [oP 4 (.fieldAddr none 0 (.t 2)),
oP 5 (.load none (.t 4)),
oP 6 (.fieldAddr none 0 (.t 1)),
oP 7 (.load none (.t 6)),
oP 8 (.bin .eql (.t 5) (.t 7)),
mV 3 8] [3])
.ret))
abbrev Sj : RsT := [(3,none)]
theorem RT : SpF 9 Fc Kx Sj := SpI Tryz.func92 (by kernel_rfl)
theorem Ri : ak Tryz.prog Fc = true := by kernel_rfl
abbrev Ib : FuncId := 93
def Ny : AC :=
(.seq (.reg [oP 1 (.pbox 7 (.t 0)),
oP 2 (.mv (cI 0))] [1])
(.seq (.block 0
(.seq (.reg [oP 4 (.fieldAddr none 1 (.t 1)),
oP 5 (.load none (.t 4)),
oP 6 (.lit 0 1 1 [(0,(.t 5))]),
oP 7 (.call (.f 89) [false,false,true] [(cI 0),(cI 5000),(.t 6)]),
mV 8 7,
gF 9 8 (.fieldAddr none 4 (.t 1)),
gF 10 8 (.load none (.t 9)),
gF 11 8 (.lit 0 1 1 [(0,(.t 10))]),
gF 12 8 (.call (.f 89) [false,false,true] [(cI 0),(cI 1000),(.t 11)]),
oP 13 (.pick (.t 8) (.c (.bool true)) (.t 12)),
mV 14 13,
gF 15 14 (.fieldAddr (some 2) 2 (.t 1)),
gF 16 14 (.fieldAddr none 0 (.t 15)),
gF 17 14 (.load none (.t 16)),
gF 18 14 (.fieldAddr (some 2) 2 (.t 1)),
gF 19 14 (.fieldAddr none 1 (.t 18)),
gF 20 14 (.load none (.t 19)),
gF 21 14 (.lit 0 1 2 [(0,(.t 17)),(1,(.t 20))]),
gF 22 14 (.call (.f 89) [false,false,true] [(cI 0),(cI 1000000),(.t 21)]),
oP 23 (.pick (.t 14) (.c (.bool true)) (.t 22)),
mV 24 23,
gF 25 24 (.fieldAddr (some 2) 5 (.t 1)),
gF 26 24 (.fieldAddr none 0 (.t 25)),
gF 27 24 (.load none (.t 26)),
gF 28 24 (.fieldAddr (some 2) 5 (.t 1)),
gF 29 24 (.fieldAddr none 1 (.t 28)),
gF 30 24 (.load none (.t 29)),
gF 31 24 (.lit 0 1 2 [(0,(.t 27)),(1,(.t 30))]),
gF 32 24 (.call (.f 89) [false,false,true] [(cI 0),(cI 5000),(.t 31)]),
oP 33 (.pick (.t 24) (.c (.bool true)) (.t 32)),
mV 3 33] [1,3])
(.cond (.t 3)
(.seq (.reg [oP 2 (.mv (cI 7))] [2])
.ret)
(.seq (.reg [oP 35 (.fieldAddr (some 2) 2 (.t 1)),
oP 36 (.fieldAddr none 0 (.t 35)),
oP 37 (.load none (.t 36)),
oP 38 (.fieldAddr (some 2) 2 (.t 1)),
oP 39 (.fieldAddr none 1 (.t 38)),
oP 40 (.load none (.t 39)),
oP 41 (.bin .gtr (.t 37) (.t 40)),
mV 42 41,
gF 43 42 (.fieldAddr (some 2) 5 (.t 1)),
gF 44 42 (.fieldAddr none 0 (.t 43)),
gF 45 42 (.load none (.t 44)),
gF 46 42 (.fieldAddr (some 2) 5 (.t 1)),
gF 47 42 (.fieldAddr none 1 (.t 46)),
gF 48 42 (.load none (.t 47)),
gF 49 42 (.bin .gtr (.t 45) (.t 48)),
oP 50 (.pick (.t 42) (.c (.bool true)) (.t 49)),
mV 34 50] [34])
(.cond (.t 34)
(.seq (.reg [oP 2 (.mv (cI 2))] [2])
.ret)
.skip)))))
(.seq (.reg [oP 2 (.mv (cI 0))] [2])
.ret)))
abbrev Rk : RsT := [(2,none)]
theorem SB : SpF 51 Ib Ny Rk := SpI Tryz.func93 (by kernel_rfl)
theorem Qd : ak Tryz.prog Ib = true := by kernel_rfl
abbrev Il : FuncId := 94
def Ky : AC :=
(.seq (.reg [oP 1 (.pbox 2 (.t 0)),
oP 2 (.mv (cI 0))] [1])
(.seq (.block 0
(.seq (.reg [oP 4 (.fieldAddr none 0 (.t 1)),
oP 5 (.load none (.t 4)),
oP 6 (.fieldAddr none 1 (.t 1)),
oP 7 (.load none (.t 6)),
oP 8 (.lit 0 1 2 [(0,(.t 5)),(1,(.t 7))]),
oP 9 (.call (.f 89) [false,false,true] [(cI 0),(cI 1000),(.t 8)]),
mV 3 9] [1,3])
(.cond (.t 3)
(.seq (.reg [oP 2 (.mv (cI 7))] [2])
.ret)
(.seq (.reg [oP 11 (.fieldAddr none 0 (.t 1)),
oP 12 (.load none (.t 11)),
oP 13 (.fieldAddr none 1 (.t 1)),
oP 14 (.load none (.t 13)),
oP 15 (.bin .gtr (.t 12) (.t 14)),
mV 10 15] [10])
(.cond (.t 10)
(.seq (.reg [oP 2 (.mv (cI 2))] [2])
.ret)
.skip)))))
(.seq (.reg [oP 2 (.mv (cI 0))] [2])
.ret)))
abbrev Qa : RsT := [(2,none)]
theorem RR : SpF 16 Il Ky Qa := SpI Tryz.func94 (by kernel_rfl)
theorem Sp : ak Tryz.prog Il = true := by kernel_rfl
abbrev HG : FuncId := 95
def LA : AC :=
(.seq (.reg [oP 2 (.pbox 3 (.t 0)),
oP 3 (.pbox 2 (.t 1)),
oP 4 (.alloc [.int .i64 0]),
oP 5 (.alloc [.int .i64 0])] [2,3,4,5])
(.scope
(.seq (.label 0)
(.seq (.seq (.reg [oP 10 (.load (some 3) (.t 2)),
oP 11 (.load (some 2) (.t 3)),
oP 12 (.call (.f 138) [true,false] [(.t 10),(.t 11)])] [2,4,5,12])
(.block 0
(.bF (.t 12) [13] (.reg [oP 6 (.alloc [.int .i64 0, .int .i64 0]),
oN (.store 2 (.t 6) (.t 13))] [2,4,5,6])
(.block 1
(.seq (.seq (.reg [oP 14 (.load (some 3) (.t 2)),
oP 15 (.fieldAddr none 0 (.t 6)),
oP 16 (.load none (.t 15)),
oP 17 (.call (.f 139) [true,false] [(.t 14),(.t 16)]),
oP 18 (.call (.f 140) [false] [(.t 17)]),
oN (.store 1 (.t 4) (.t 18))] [2,4,5,6])
(.seq (.reg [oP 19 (.load none (.t 4)),
oP 20 (.bin .neq (.t 19) (cI 0))] [2,4,5,6,20])
(.cond (.t 20)
(.seq (.dreg [oP 21 (.load none (.t 4)),
oP 22 (.fieldAddr none 0 (.t 6)),
oP 23 (.load none (.t 22)),
oN (.store 1 (.t 4) (.t 21)),
oN (.store 1 (.t 5) (.t 23))] [4,5] [[],[],[1],[0],[0,1,2,3]])
.ret)
.skip)))
(.seq (.seq (.reg [oP 24 (.load (some 3) (.t 2)),
oP 25 (.fieldAddr none 1 (.t 6)),
oP 26 (.load none (.t 25)),
oP 27 (.call (.f 139) [true,false] [(.t 24),(.t 26)]),
oP 28 (.call (.f 140) [false] [(.t 27)]),
oP 29 (.bin .eql (.t 28) (cI 0))] [2,4,5,6,29])
(.cond (.t 29)
(.exit 1)
.skip))
(.seq (.dreg [oP 30 (.fieldAddr none 0 (.t 6)),
oP 31 (.load none (.t 30)),
oP 32 (.fieldAddr none 1 (.t 6)),
oP 33 (.load none (.t 32)),
mV 7 31,
mV 8 33] [2,4,5,7,8] [[],[0],[],[2],[0,1],[0,1,2,3,4]])
(.seq (.block 2
(.loop [2,4,5,7,8]
(.seq (.seq (.reg [mV 34 8,
mV 35 7,
oP 36 (.bin .sub (.t 34) (.t 35)),
oP 37 (.bin .gtr (.t 36) (cI 1))] [2,4,5,7,8,37])
(.cond (.t 37)
.skip
(.exit 2)))
(.block 3
(.seq (.reg [mV 38 7,
mV 39 8,
oP 40 (.bin .add (.t 38) (.t 39)),
oP 41 (.bin .quo (.t 40) (cI 2)),
mV 9 41] [2,4,5,7,8,9])
(.seq (.reg [oP 42 (.load (some 3) (.t 2)),
mV 43 9,
oP 44 (.call (.f 139) [true,false] [(.t 42),(.t 43)]),
oP 45 (.call (.f 140) [false] [(.t 44)]),
oP 46 (.bin .eql (.t 45) (cI 0))] [2,4,5,7,8,9,46])
(.cond (.t 46)
(.reg [mV 47 9,
mV 7 47] [2,4,5,7,8])
(.reg [mV 48 9,
mV 8 48] [2,4,5,7,8]))))))))
(.seq (.reg [oP 49 (.load (some 3) (.t 2)),
mV 50 8,
oP 51 (.call (.f 139) [true,false] [(.t 49),(.t 50)]),
oP 52 (.call (.f 140) [false] [(.t 51)]),
mV 53 8,
oN (.store 1 (.t 4) (.t 52)),
oN (.store 1 (.t 5) (.t 53))] [4,5])
.ret)))))))))
(.seq (.reg [oN (.store 1 (.t 4) (cI 0)),
oN (.store 1 (.t 5) (cI 0))] [4,5])
.ret)))))
abbrev Q6 : RsT := [(4,some none),(5,some none)]
theorem Qm : SpF 54 HG LA Q6 := SpI Tryz.func95 (by kernel_rfl)
theorem RE : ak Tryz.prog HG = true := by kernel_rfl
abbrev I5 : FuncId := 96
def Ig : AC :=
(.seq (.reg [oP 4 (.pbox 2 (.t 0)),
oP 8 (.alloc [.nilptr]),
oP 9 (.alloc [.int .i64 0])] [1,2,3,4,8,9])
(.seq (.seq (.reg [oP 16 (.load (some 2) (.t 4)),
oP 17 (.call (.f 141) [true] [(.t 16)]),
mV 15 17,
oP 18 (.extract (.t 15) 0),
oP 19 (.extract (.t 15) 1),
oP 20 (.extract (.t 15) 2),
oN (.store 1 (.t 9) (.t 20))] [1,2,3,4,8,9])
(.seq (.reg [oP 21 (.load none (.t 9)),
oP 22 (.bin .neq (.t 21) (cI 0))] [1,2,3,4,8,9,22])
(.cond (.t 22)
(.seq (.dreg [oP 23 (.load none (.t 9)),
oN (.store 1 (.t 8) (.c .nilptr)),
oN (.store 1 (.t 9) (.t 23))] [8,9] [[],[],[0,1]])
.ret)
.skip)))
(.seq (.dfr 24 142 [(.t 8),(.t 9)] [1,2,3,4,8,9])
(.seq (.reg [oP 25 (.load (some 2) (.t 4)),
oP 26 (.build [.slice 2 [], .slice 3 [], .int .u64 0, .int .u64 0, .bool false, .bool false, .bool false, .bool false, .bool false, .bool false, .bool false, .bool false, .bool false, .bool false, .bool false, .bool false] [(0,2,(.t 25))]),
oP 27 (.box 16 (.t 26)),
oN (.store 1 (.t 8) (.t 27))] [1,2,3,4,8,9])
(.seq (.reg [mV 28 1,
oP 29 (.fieldAddr none 1 (.t 4)),
oP 30 (.load none (.t 29)),
oP 31 (.len (.t 30)),
oP 32 (.mkfunc (.func 144) [] [(.t 4)]),
oP 33 (.call (.f 143) [true,false,false] [(.t 28),(.t 31),(.t 32)])] [1,2,3,4,8,9])
(.seq (.seq (.reg [mV 34 3] [1,2,4,8,9,34])
(.cond (.t 34)
(.seq (.seq (.reg [mV 35 2,
oP 36 (.len (.t 35)),
oP 37 (.bin .eql (.t 36) (cI 0))] [1,2,4,8,9,37])
(.cond (.t 37)
(.reg [oP 38 (.mkiface 39 (cI 3)),
oN (.panic (.t 38))] [1,2,4,8,9])
.skip))
(.reg [mV 39 2,
oP 40 (.fieldAddr none 0 (.t 4)),
oP 41 (.load none (.t 40)),
oP 42 (.len (.t 41)),
oP 43 (.mkfunc (.func 145) [] [(.t 4)]),
oP 44 (.call (.f 143) [true,false,false] [(.t 39),(.t 42),(.t 43)])] [1,2,4,8,9]))
.skip))
(.seq (.seq (.reg [oP 45 (.fieldAddr none 1 (.t 4)),
oP 46 (.load none (.t 45)),
oP 47 (.len (.t 46)),
oP 48 (.mv (cI 0))] [1,2,4,8,9,47,48])
(.block 0
(.loop [1,2,4,8,9,47,48]
(.seq (.reg [oP 49 (.bin .lss (.t 48) (.t 47))] [1,2,4,8,9,47,48,49])
(.seq (.cond (.t 49)
.skip
(.exit 0))
(.seq (.block 1
(.seq (.reg [mV 50 48,
mV 10 50] [1,2,4,8,9,10,47,48])
(.dreg [oP 51 (.load none (.t 8)),
mV 52 10,
mV 53 1,
mV 54 10,
oP 55 (.call (.f 78) [true,false] [(.t 53),(.t 54)]),
oP 56 (.un .not (.t 55)),
oP 57 (.nilchk (.t 51)),
oP 58 (.fieldAddr (some 12) 4 (.t 57)),
oP 59 (.ixA 12 1 none (.t 58) (.t 52)),
oN (.store 1 (.t 59) (.t 56))] [1,2,4,8,9,47,48] [[],[],[],[],[2,3],[2,3,4],[0],[0,6],[0,1,2,3,4,5,6,7],[0,1,2,3,4,5,6,7,8]])))
(.reg [oP 60 (.bin .add (.t 48) (cI 1)),
mV 48 60] [1,2,4,8,9,47,48])))))))
(.seq (.seq (.reg [oP 61 (.fieldAddr none 0 (.t 4)),
oP 62 (.load none (.t 61)),
oP 63 (.len (.t 62)),
oP 64 (.mv (cI 0))] [2,8,9,62,63,64])
(.block 2
(.loop [2,8,9,62,63,64]
(.seq (.reg [oP 65 (.bin .lss (.t 64) (.t 63))] [2,8,9,62,63,64,65])
(.seq (.cond (.t 65)
.skip
(.exit 2))
(.seq (.block 3
(.seq (.reg [mV 66 64,
oP 67 (.ixS 2 (.t 62) (.t 64)),
oP 68 (.load (some 2) (.t 67)),
oP 12 (.alloc [.str ByteArray.empty, .bool false]),
mV 11 66,
oN (.store 2 (.t 12) (.t 68))] [2,8,9,11,12,62,63,64])
(.frz 12 true (.seq (.reg [oP 69 (.fieldAddr none 1 (.t 12)),
oP 70 (.load none (.t 69))] [2,8,9,11,62,63,64,70])
(.cond (.t 70)
(.dreg [oP 71 (.load none (.t 8)),
oP 72 (.nilchk (.t 71)),
oP 73 (.fieldAddr none 2 (.t 72)),
oP 74 (.load none (.t 73)),
mV 75 11,
oP 76 (.call (.f 146) [false] [(.t 75)]),
oP 77 (.bin .or (.t 74) (.t 76)),
oP 78 (.nilchk (.t 71)),
oP 79 (.fieldAddr none 2 (.t 78)),
oN (.store 1 (.t 79) (.t 77))] [2,8,9,62,63,64] [[],[0],[0,1],[0,1,2],[],[4],[0,1,2,3,4,5],[0,1,2,3,4,5,6],[0,1,2,3,4,5,6,7],[0,1,2,3,4,5,6,7,8]])
.skip)))))
(.reg [oP 80 (.bin .add (.t 64) (cI 1)),
mV 64 80] [2,8,9,62,63,64])))))))
(.seq (.seq (.reg [mV 81 2,
oP 82 (.len (.t 81)),
oP 83 (.mv (cI 0))] [8,9,81,82,83])
(.block 4
(.loop [8,9,81,82,83]
(.seq (.reg [oP 84 (.bin .lss (.t 83) (.t 82))] [8,9,81,82,83,84])
(.seq (.cond (.t 84)
.skip
(.exit 4))
(.seq (.block 5
(.seq (.reg [oP 85 (.ixS 1 (.t 81) (.t 83)),
oP 86 (.load none (.t 85)),
mV 14 86] [8,9,14,81,82,83])
(.dreg [oP 87 (.load none (.t 8)),
oP 88 (.nilchk (.t 87)),
oP 89 (.fieldAddr none 3 (.t 88)),
oP 90 (.load none (.t 89)),
mV 91 14,
oP 92 (.call (.f 146) [false] [(.t 91)]),
oP 93 (.bin .or (.t 90) (.t 92)),
oP 94 (.nilchk (.t 87)),
oP 95 (.fieldAddr none 3 (.t 94)),
oN (.store 1 (.t 95) (.t 93))] [8,9,81,82,83] [[],[0],[0,1],[0,1,2],[],[4],[0,1,2,3,4,5],[0,1,2,3,4,5,6],[0,1,2,3,4,5,6,7],[0,1,2,3,4,5,6,7,8]])))
(.reg [oP 96 (.bin .add (.t 83) (cI 1)),
mV 83 96] [8,9,81,82,83])))))))
(.seq (.reg [oP 97 (.load none (.t 8)),
oN (.store 1 (.t 8) (.t 97)),
oN (.store 1 (.t 9) (cI 0))] [8,9])
.ret))))))))))
abbrev NK : RsT := [(8,some none),(9,some none)]
theorem PO : w6 Tryz.prog Tryz.f96 98 Ig NK = true := by kernel_rfl
theorem Qt {args : List ab} {σ : af} {R : dF → af → Prop} (ha : args.length ≤ 98) (h : AW Tryz.prog 98 none Ig (sT Tryz.prog NK R) { v := cZ args 0,ds := [] } σ) : Spec Tryz.prog I5 args σ R := Spec.CA Tryz.func96 PO ha h
theorem RH : ak Tryz.prog I5 = true := by kernel_rfl
abbrev Hx : FuncId := 97
def Ms : AC :=
(.seq (.reg [oP 2 (.pbox 1 (.t 0)),
oP 4 (.mv (.c (.bool false)))] [1,2])
(.seq (.reg [mV 5 1,
oP 6 (.mkfunc (.func 147) [] [(.t 2)]),
oP 7 (.call (.f 100) [true,false] [(.t 5),(.t 6)]),
mV 4 7] [4])
.ret))
abbrev P9 : RsT := [(4,none)]
theorem Sa : SpF 8 Hx Ms P9 := SpI Tryz.func97 (by kernel_rfl)
theorem B3 : ak Tryz.prog Hx = true := by kernel_rfl
abbrev HV : FuncId := 98
def Dc : AC :=
(.seq (.reg [oP 4 (.box 2 (.t 1)),
oP 5 (.pbox 2 (.t 2)),
oP 6 (.alloc [.int .u64 0, .int .u64 0]),
oP 7 (.mv (.c (.bool false)))] [0,4,5,6])
(.seq (.seq (.dreg [mV 8 0,
oP 9 (.nilchk (.t 8)),
oP 10 (.fieldAddr none 2 (.t 9)),
oP 11 (.load none (.t 10)),
oP 12 (.fieldAddr none 0 (.t 5)),
oP 13 (.load none (.t 12)),
oP 14 (.call (.f 148) [false,false] [(.t 11),(.t 13)]),
mV 15 14,
gF 16 15 (.fieldAddr none 1 (.t 4)),
gF 17 15 (.load none (.t 16)),
gF 18 15 (.fieldAddr none 0 (.t 5)),
gF 19 15 (.load none (.t 18)),
gF 20 15 (.call (.f 148) [false,false] [(.t 17),(.t 19)]),
gF 21 15 (.fieldAddr none 1 (.t 5)),
gF 22 15 (.load none (.t 21)),
gF 23 15 (.eqb true (.t 20) (.t 22)),
oP 24 (.pick (.t 15) (.c (.bool true)) (.t 23))] [0,4,5,6,24] [[],[0],[0,1],[0,1,2],[],[4],[0,1,2,3,4,5],[0,1,2,3,4,5,6],[0,1,2,3,4,5,6,7],[0,1,2,3,4,5,6,7,8],[0,1,2,3,4,5,6,7],[0,1,2,3,4,5,6,7,10],[0,1,2,3,4,5,6,7,8,9,10,11],[0,1,2,3,4,5,6,7],[0,1,2,3,4,5,6,7,13],[0,1,2,3,4,5,6,7,8,9,10,11,12,13,14],[0,1,2,3,4,5,6,7,8,9,10,11,12,13,14,15]])
(.cond (.t 24)
(.seq (.reg [oP 25 (.load (some 2) (.t 4)),
oN (.store 2 (.t 6) (.t 25)),
oP 7 (.mv (.c (.bool false)))] [6,7])
.ret)
.skip))
(.seq (.seq (.reg [oP 26 (.fieldAddr none 1 (.t 5)),
oP 27 (.load none (.t 26))] [0,4,5,6,27])
(.cond (.t 27)
(.dreg [oP 28 (.fieldAddr none 1 (.t 4)),
oP 29 (.load none (.t 28)),
oP 30 (.fieldAddr none 0 (.t 5)),
oP 31 (.load none (.t 30)),
oP 32 (.call (.f 146) [false] [(.t 31)]),
oP 33 (.bin .andNot (.t 29) (.t 32)),
oP 34 (.fieldAddr none 1 (.t 4)),
oN (.store 1 (.t 34) (.t 33))] [0,4,6] [[],[0],[],[2],[2,3],[0,1,2,3,4],[0,1,2,3,4,5],[0,1,2,3,4,5,6]])
(.seq (.dreg [oP 35 (.fieldAddr none 1 (.t 4)),
oP 36 (.load none (.t 35)),
oP 37 (.fieldAddr none 0 (.t 5)),
oP 38 (.load none (.t 37)),
oP 39 (.call (.f 146) [false] [(.t 38)]),
oP 40 (.bin .or (.t 36) (.t 39)),
oP 41 (.fieldAddr none 1 (.t 4)),
oN (.store 1 (.t 41) (.t 40))] [0,4,5,6] [[],[0],[],[2],[2,3],[0,1,2,3,4],[0,1,2,3,4,5],[0,1,2,3,4,5,6]])
(.dreg [oP 42 (.fieldAddr none 0 (.t 4)),
oP 43 (.load none (.t 42)),
oP 44 (.fieldAddr none 0 (.t 5)),
oP 45 (.load none (.t 44)),
oP 46 (.call (.f 146) [false] [(.t 45)]),
oP 47 (.bin .or (.t 43) (.t 46)),
oP 48 (.fieldAddr none 0 (.t 4)),
oN (.store 1 (.t 48) (.t 47))] [0,4,6] [[],[0],[],[2],[2,3],[0,1,2,3,4],[0,1,2,3,4,5],[0,1,2,3,4,5,6]]))))
(.seq (.reg [mV 49 0,
oP 50 (.load (some 2) (.t 4)),
oP 51 (.call (.f 149) [false,false] [(.t 49),(.t 50)]),
oN (.store 2 (.t 6) (.t 51)),
oP 7 (.mv (.c (.bool true)))] [6,7])
.ret))))
abbrev PX : RsT := [(6,some (some 2)),(7,none)]
theorem Ro : SpF 52 HV Dc PX := SpI Tryz.func98 (by kernel_rfl)
theorem Np : ak Tryz.prog HV = true := by kernel_rfl
abbrev I8 : FuncId := 99
def KT : AC :=
(.seq (.reg [oP 2 (.nilS 1 1)] [0,2])
(.seq (.seq (.reg [oP 4 (.mv (cI 0))] [0,2,4])
(.block 0
(.loop [0,2,4]
(.seq (.reg [oP 5 (.bin .lss (.t 4) (cI 7))] [0,2,4,5])
(.seq (.cond (.t 5)
.skip
(.exit 0))
(.seq (.block 1
(.seq (.reg [mV 6 4,
mV 3 6] [0,2,3,4])
(.seq (.reg [mV 7 0,
mV 8 3,
oP 9 (.call (.f 148) [false,false] [(.t 7),(.t 8)])] [0,2,3,4,9])
(.cond (.t 9)
(.reg [mV 10 2,
mV 11 3,
oP 12 (.lit 0 1 1 [(0,(.t 11))]),
oP 13 (.append 1 8 (.t 10) (.t 12)),
mV 2 13] [0,2,4])
.skip))))
(.reg [oP 14 (.bin .add (.t 4) (cI 1)),
mV 4 14] [0,2,4])))))))
(.seq (.reg [mV 15 2,
oP 2 (.mvd (.t 15))] [2])
.ret)))
abbrev RF : RsT := [(2,none)]
theorem Rd : SpF 16 I8 KT RF := SpI Tryz.func99 (by kernel_rfl)
theorem Kv : ak Tryz.prog I8 = true := by kernel_rfl
abbrev Dk : FuncId := 100
def F7 : AC :=
(.seq (.reg [oP 4 (.mv (.c (.bool false)))] [0,1])
(.seq (.reg [mV 5 0,
mV 6 1,
oP 7 (.call (.f 150) [true,false] [(.t 5),(.t 6)]),
oP 8 (.bin .geq (.t 7) (cI 0)),
mV 4 8] [4])
.ret))
abbrev Ox : RsT := [(4,none)]
theorem J1 : SpF 9 Dk F7 Ox := SpI Tryz.func100 (by kernel_rfl)
theorem uw : ak Tryz.prog Dk = true := by kernel_rfl
abbrev B4 : FuncId := 101
def Gn : AC :=
(.seq (.reg [oP 3 (.mv (.c (.bool false)))] [0,1])
(.seq (.reg [mV 4 0,
oP 5 (.bin .lss (.t 4) (cI 0)),
mV 6 5,
gF 7 6 (.mv (.t 0)),
gF 8 6 (.load none (.t 1)),
gF 9 6 (.bin .geq (.t 7) (.t 8)),
oP 10 (.pick (.t 6) (.c (.bool true)) (.t 9)),
mV 3 10] [3])
.ret))
abbrev Oi : RsT := [(3,none)]
theorem OA : SpF 11 B4 Gn Oi := SpI Tryz.func101 (by kernel_rfl)
theorem Mw : ak Tryz.prog B4 = true := by kernel_rfl
abbrev CQ : FuncId := 102
def F2 : AC :=
(.seq (.reg [oP 3 (.pbox 7 (.t 0)),
oP 6 (.mv (cI 0))] [1,2,3])
(.seq (.seq (.reg [oP 11 (.fieldAddr none 0 (.t 3)),
oP 12 (.load none (.t 11)),
oP 13 (.call (.f 151) [false] [(.t 12)]),
oP 14 (.un .not (.t 13))] [1,2,3,14])
(.cond (.t 14)
(.seq (.reg [oP 6 (.mv (cI 6))] [6])
.ret)
.skip))
(.seq (.seq (.reg [mV 15 2,
oP 16 (.fieldAddr none 0 (.t 3)),
oP 17 (.load none (.t 16)),
oP 18 (.call (.f 87) [true,false] [(.t 15),(.t 17)]),
oP 19 (.bin .geq (.t 18) (cI 0))] [1,3,19])
(.cond (.t 19)
(.seq (.reg [oP 6 (.mv (cI 5))] [6])
.ret)
.skip))
(.seq (.reg [oP 20 (.fieldAddr (some 2) 5 (.t 3)),
oP 21 (.load (some 2) (.t 20)),
oP 22 (.call (.f 152) [false,false,false] [(.t 21),(cI 1),(cI 1000000)]),
mV 7 22] [1,3,7])
(.seq (.seq (.reg [oP 23 (.fieldAddr none 1 (.t 3)),
oP 24 (.load none (.t 23)),
oP 25 (.call (.f 103) [false,false,false] [(.t 24),(cI 1),(cI 5)]),
oP 26 (.un .not (.t 25)),
mV 27 26,
gF 28 27 (.fieldAddr none 2 (.t 3)),
gF 29 27 (.load none (.t 28)),
gF 30 27 (.call (.f 103) [false,false,false] [(.t 29),(cI 0),(cI 40)]),
gF 31 27 (.un .not (.t 30)),
oP 32 (.pick (.t 27) (.c (.bool true)) (.t 31)),
mV 33 32,
gF 34 33 (.fieldAddr none 3 (.t 3)),
gF 35 33 (.load none (.t 34)),
gF 36 33 (.call (.f 103) [false,false,false] [(.t 35),(cI 0),(cI 40)]),
gF 37 33 (.un .not (.t 36)),
oP 38 (.pick (.t 33) (.c (.bool true)) (.t 37)),
mV 39 38,
gF 40 39 (.mv (.t 7)),
gF 41 39 (.bin .eql (.t 40) (cI 7)),
oP 42 (.pick (.t 39) (.c (.bool true)) (.t 41))] [1,3,7,42])
(.cond (.t 42)
(.seq (.reg [oP 6 (.mv (cI 7))] [6])
.ret)
.skip))
(.seq (.seq (.reg [oP 43 (.fieldAddr none 2 (.t 3)),
oP 44 (.load none (.t 43)),
oP 45 (.fieldAddr none 3 (.t 3)),
oP 46 (.load none (.t 45)),
oP 47 (.bin .gtr (.t 44) (.t 46)),
mV 48 47,
gF 49 48 (.mv (.t 7)),
gF 50 48 (.bin .neq (.t 49) (cI 0)),
oP 51 (.pick (.t 48) (.c (.bool true)) (.t 50))] [1,3,51])
(.cond (.t 51)
(.seq (.reg [oP 6 (.mv (cI 2))] [6])
.ret)
.skip))
(.seq (.seq (.reg [oP 8 (.mv (cI 0))] [1,3,8])
(.block 0
(.loop [1,3,8]
(.seq (.seq (.reg [mV 52 8,
oP 53 (.fieldAddr none 4 (.t 3)),
oP 54 (.load none (.t 53)),
oP 55 (.len (.t 54)),
oP 56 (.bin .lss (.t 52) (.t 55))] [1,3,8,56])
(.cond (.t 56)
.skip
(.exit 0)))
(.seq (.block 1
(.seq (.reg [mV 59 1,
oP 60 (.fieldAddr none 4 (.t 3)),
oP 61 (.load none (.t 60)),
mV 62 8,
oP 63 (.ixS 1 (.t 61) (.t 62)),
oP 64 (.load none (.t 63)),
oP 65 (.call (.f 87) [true,false] [(.t 59),(.t 64)]),
oP 66 (.bin .lss (.t 65) (cI 0))] [1,3,8,66])
(.cond (.t 66)
(.seq (.reg [oP 6 (.mv (cI 4))] [6])
.ret)
.skip)))
(.reg [mV 57 8,
oP 58 (.bin .add (.t 57) (cI 1)),
mV 8 58] [1,3,8]))))))
(.seq (.seq (.reg [oP 9 (.mv (cI 0))] [1,3,9])
(.block 2
(.loop [1,3,9]
(.seq (.seq (.reg [mV 67 9,
oP 68 (.fieldAddr none 4 (.t 3)),
oP 69 (.load none (.t 68)),
oP 70 (.len (.t 69)),
oP 71 (.bin .lss (.t 67) (.t 70))] [1,3,9,71])
(.cond (.t 71)
.skip
(.exit 2)))
(.seq (.block 3
(.seq (.dreg [oP 74 (.fieldAddr none 4 (.t 3)),
oP 75 (.load none (.t 74)),
mV 76 9,
oP 77 (.subq 1 (.t 75) none (some (.t 76))),
oP 78 (.fieldAddr none 4 (.t 3)),
oP 79 (.load none (.t 78)),
mV 80 9,
oP 81 (.ixS 1 (.t 79) (.t 80)),
oP 82 (.load none (.t 81)),
oP 83 (.call (.f 117) [true,false] [(.t 77),(.t 82)]),
oP 84 (.bin .geq (.t 83) (cI 0))] [1,3,9,84] [[],[0],[],[0,1,2],[],[4],[],[4,5,6],[4,5,6,7],[0,1,2,3,4,5,6,7,8],[0,1,2,3,4,5,6,7,8,9]])
(.cond (.t 84)
(.seq (.reg [oP 6 (.mv (cI 5))] [6])
.ret)
.skip)))
(.reg [mV 72 9,
oP 73 (.bin .add (.t 72) (cI 1)),
mV 9 73] [1,3,9]))))))
(.seq (.seq (.reg [oP 10 (.mv (cI 0))] [1,3,10])
(.block 4
(.loop [1,3,10]
(.seq (.seq (.reg [mV 85 10,
oP 86 (.fieldAddr none 4 (.t 3)),
oP 87 (.load none (.t 86)),
oP 88 (.len (.t 87)),
oP 89 (.bin .lss (.t 85) (.t 88))] [1,3,10,89])
(.cond (.t 89)
.skip
(.exit 4)))
(.seq (.block 5
(.seq (.dreg [oP 92 (.load (some 7) (.t 3)),
mV 93 1,
mV 94 1,
oP 95 (.fieldAddr none 4 (.t 3)),
oP 96 (.load none (.t 95)),
mV 97 10,
oP 98 (.ixS 1 (.t 96) (.t 97)),
oP 99 (.load none (.t 98)),
oP 100 (.call (.f 87) [true,false] [(.t 94),(.t 99)]),
oP 101 (.ixS 7 (.t 93) (.t 100)),
oP 102 (.load (some 7) (.t 101)),
oP 103 (.call (.f 153) [true,true] [(.t 92),(.t 102)]),
oP 104 (.un .not (.t 103))] [1,3,10,104] [[],[],[],[],[3],[],[3,4,5],[3,4,5,6],[2,3,4,5,6,7],[1,2,3,4,5,6,7,8],[1,2,3,4,5,6,7,8,9],[0,1,2,3,4,5,6,7,8,9,10],[0,1,2,3,4,5,6,7,8,9,10,11]])
(.cond (.t 104)
(.seq (.reg [oP 6 (.mv (cI 9))] [6])
.ret)
.skip)))
(.reg [mV 90 10,
oP 91 (.bin .add (.t 90) (cI 1)),
mV 10 91] [1,3,10]))))))
(.seq (.reg [oP 6 (.mv (cI 0))] [6])
.ret))))))))))
abbrev K9 : RsT := [(6,none)]
theorem Ml : SpF 105 CQ F2 K9 := SpI Tryz.func102 (by kernel_rfl)
theorem NN : ak Tryz.prog CQ = true := by kernel_rfl
abbrev DM : FuncId := 103
def Ft : AC :=
(.seq (.reg [oP 6 (.mv (.c (.bool false)))] [0,1,2])
(.seq (.reg [mV 7 1,
mV 8 0,
oP 9 (.bin .leq (.t 7) (.t 8)),
mV 10 9,
gT 11 10 (.mv (.t 0)),
gT 12 10 (.mv (.t 2)),
gT 13 10 (.bin .leq (.t 11) (.t 12)),
oP 14 (.pick (.t 10) (.t 13) (.c (.bool false))),
mV 6 14] [6])
.ret))
abbrev Om : RsT := [(6,none)]
theorem N6 : SpF 15 DM Ft Om := SpI Tryz.func103 (by kernel_rfl)
theorem ov : ak Tryz.prog DM = true := by kernel_rfl
abbrev Eg : FuncId := 106
def F8 : AC :=
(.seq (.reg [oP 6 (.mv (.c (.bool false)))] [0,1,2])
(.seq (.reg [mV 7 0,
mV 8 1,
oP 9 (.bin .geq (.t 7) (.t 8)),
mV 10 9,
gT 11 10 (.mv (.t 0)),
gT 12 10 (.mv (.t 2)),
gT 13 10 (.bin .leq (.t 11) (.t 12)),
oP 14 (.pick (.t 10) (.t 13) (.c (.bool false))),
mV 6 14] [6])
.ret))
abbrev Pd : RsT := [(6,none)]
theorem Mm : SpF 15 Eg F8 Pd := SpI Tryz.func106 (by kernel_rfl)
theorem mC : ak Tryz.prog Eg = true := by kernel_rfl
abbrev Dr : FuncId := 107
def FU : AC :=
(.seq (.reg [oP 4 (.mv (cI 0))] [0,1])
(.seq (.seq (.reg [mV 5 0,
oP 6 (.call (.f 151) [false] [(.t 5)]),
oP 7 (.un .not (.t 6))] [0,1,7])
(.cond (.t 7)
(.seq (.reg [oP 4 (.mv (cI 6))] [4])
.ret)
.skip))
(.seq (.seq (.reg [mV 8 1,
mV 9 0,
oP 10 (.call (.f 117) [true,false] [(.t 8),(.t 9)]),
oP 11 (.bin .geq (.t 10) (cI 0))] [11])
(.cond (.t 11)
(.seq (.reg [oP 4 (.mv (cI 5))] [4])
.ret)
.skip))
(.seq (.reg [oP 4 (.mv (cI 0))] [4])
.ret))))
abbrev Ob : RsT := [(4,none)]
theorem On : SpF 12 Dr FU Ob := SpI Tryz.func107 (by kernel_rfl)
theorem Hd : ak Tryz.prog Dr = true := by kernel_rfl
abbrev Ek : FuncId := 108
def G1 : AC :=
(.seq (.reg [oP 1 (.pbox 7 (.t 0)),
oP 2 (.mv (cI 0))] [1])
(.seq (.dreg [oP 5 (.fieldAddr (some 2) 2 (.t 1)),
oP 6 (.load (some 2) (.t 5)),
oP 7 (.call (.f 152) [false,false,false] [(.t 6),(cI 0),(cI 1000000)]),
oP 8 (.fieldAddr (some 2) 5 (.t 1)),
oP 9 (.load (some 2) (.t 8)),
oP 10 (.call (.f 152) [false,false,false] [(.t 9),(cI 0),(cI 5000)]),
mV 3 7,
mV 4 10] [1,3,4] [[],[0],[0,1],[],[3],[0,1,2,3,4],[0,1,2,3,4,5],[0,1,2,3,4,5,6]])
(.seq (.seq (.reg [oP 11 (.fieldAddr none 1 (.t 1)),
oP 12 (.load none (.t 11)),
oP 13 (.call (.f 106) [false,false,false] [(.t 12),(cI 0),(cI 5000)]),
oP 14 (.un .not (.t 13)),
mV 15 14,
gF 16 15 (.fieldAddr none 4 (.t 1)),
gF 17 15 (.load none (.t 16)),
gF 18 15 (.call (.f 106) [false,false,false] [(.t 17),(cI 0),(cI 1000)]),
gF 19 15 (.un .not (.t 18)),
oP 20 (.pick (.t 15) (.c (.bool true)) (.t 19)),
mV 21 20,
gF 22 21 (.mv (.t 3)),
gF 23 21 (.bin .eql (.t 22) (cI 7)),
oP 24 (.pick (.t 21) (.c (.bool true)) (.t 23)),
mV 25 24,
gF 26 25 (.mv (.t 4)),
gF 27 25 (.bin .eql (.t 26) (cI 7)),
oP 28 (.pick (.t 25) (.c (.bool true)) (.t 27))] [3,4,28])
(.cond (.t 28)
(.seq (.reg [oP 2 (.mv (cI 7))] [2])
.ret)
.skip))
(.seq (.seq (.reg [mV 29 3,
oP 30 (.bin .neq (.t 29) (cI 0))] [3,4,30])
(.cond (.t 30)
(.seq (.reg [mV 31 3,
mV 2 31] [2])
.ret)
.skip))
(.seq (.reg [mV 32 4,
mV 2 32] [2])
.ret)))))
abbrev NP : RsT := [(2,none)]
theorem KO : SpF 33 Ek G1 NP := SpI Tryz.func108 (by kernel_rfl)
theorem N2 : ak Tryz.prog Ek = true := by kernel_rfl
abbrev DB : FuncId := 109
def Ep : AC :=
(.seq (.reg [oP 3 (.pbox 2 (.t 1)),
oP 4 (.mv (cI 0))] [0,3])
(.seq (.seq (.reg [mV 5 0,
oP 6 (.bin .eql (.t 5) (cI 0))] [0,3,6])
(.cond (.t 6)
(.reg [oP 7 (.load (some 2) (.t 3)),
oP 8 (.call (.f 152) [false,false,false] [(.t 7),(cI 0),(cI 1000)]),
mV 0 8] [0])
.skip))
(.seq (.reg [mV 9 0,
mV 4 9] [4])
.ret)))
abbrev Mc : RsT := [(4,none)]
theorem O9 : SpF 10 DB Ep Mc := SpI Tryz.func109 (by kernel_rfl)
theorem O8 : ak Tryz.prog DB = true := by kernel_rfl
abbrev CF : FuncId := 110
def GV : AC :=
(.seq (.reg [oP 2 (.pbox 3 (.t 0)),
oP 3 (.pbox 2 (.t 1)),
oP 4 (.mv (cI 0)),
oP 5 (.mv (cI 0))] [2,3])
(.seq (.seq (.reg [oP 8 (.fieldAddr none 0 (.t 3)),
oP 9 (.load none (.t 8)),
mV 6 9] [2,3,6])
(.block 0
(.loop [2,3,6]
(.seq (.seq (.reg [mV 10 6,
oP 11 (.fieldAddr none 1 (.t 3)),
oP 12 (.load none (.t 11)),
oP 13 (.bin .leq (.t 10) (.t 12))] [2,3,6,13])
(.cond (.t 13)
.skip
(.exit 0)))
(.seq (.block 1
(.seq (.reg [oP 16 (.load (some 3) (.t 2)),
mV 17 6,
oP 18 (.call (.f 157) [true,false] [(.t 16),(.t 17)]),
oP 19 (.call (.f 85) [false] [(.t 18)]),
mV 7 19] [2,3,6,7])
(.seq (.reg [mV 20 7,
oP 21 (.bin .neq (.t 20) (cI 0))] [2,3,6,7,21])
(.cond (.t 21)
(.seq (.reg [mV 22 7,
mV 23 6,
mV 4 22,
mV 5 23] [4,5])
.ret)
.skip))))
(.reg [mV 14 6,
oP 15 (.bin .add (.t 14) (cI 1)),
mV 6 15] [2,3,6]))))))
(.seq (.reg [oP 4 (.mv (cI 0)),
oP 5 (.mv (cI 0))] [4,5])
.ret)))
abbrev JV : RsT := [(4,none),(5,none)]
theorem M9 : SpF 24 CF GV JV := SpI Tryz.func110 (by kernel_rfl)
theorem Jp : ak Tryz.prog CF = true := by kernel_rfl
abbrev D6 : FuncId := 111
def Gz : AC :=
(.seq (.reg [oP 2 (.pbox 2 (.t 0)),
oP 4 (.mv (cI 0))] [1,2])
(.seq (.reg [oP 10 (.load (some 2) (.t 2)),
oP 11 (.call (.f 158) [true] [(.t 10)]),
mV 9 11,
oP 12 (.extract (.t 9) 0),
oP 13 (.extract (.t 9) 1),
oP 14 (.extract (.t 9) 2),
mV 5 12,
mV 6 13,
mV 7 14] [1,2,7])
(.seq (.seq (.reg [oP 8 (.mv (cI 0))] [1,2,7,8])
(.block 0
(.loop [1,2,7,8]
(.seq (.seq (.reg [mV 15 8,
mV 16 1,
oP 17 (.len (.t 16)),
oP 18 (.bin .lss (.t 15) (.t 17)),
mV 19 18,
gT 20 19 (.mv (.t 7)),
gT 21 19 (.bin .eql (.t 20) (cI 0)),
oP 22 (.pick (.t 19) (.t 21) (.c (.bool false)))] [1,2,7,8,22])
(.cond (.t 22)
.skip
(.exit 0)))
(.seq (.block 1
(.seq (.dreg [mV 25 1,
mV 26 8,
oP 27 (.ixS 1 (.t 25) (.t 26)),
oP 28 (.load none (.t 27)),
oP 29 (.fieldAddr none 1 (.t 2)),
oP 30 (.load none (.t 29)),
oP 31 (.len (.t 30)),
oP 32 (.call (.f 112) [false,false] [(.t 28),(.t 31)]),
oP 33 (.un .not (.t 32))] [1,2,7,8,33] [[],[],[0,1],[0,1,2],[],[4],[4,5],[0,1,2,3,4,5,6],[0,1,2,3,4,5,6,7]])
(.cond (.t 33)
(.reg [oP 7 (.mv (cI 4))] [1,2,7,8])
(.seq (.dreg [mV 34 8,
oP 35 (.bin .gtr (.t 34) (cI 0)),
mV 36 35,
gT 37 36 (.mv (.t 1)),
gT 38 36 (.mv (.t 8)),
gT 39 36 (.ixS 1 (.t 37) (.t 38)),
gT 40 36 (.load none (.t 39)),
gT 41 36 (.mv (.t 1)),
gT 42 36 (.mv (.t 8)),
gT 43 36 (.bin .sub (.t 42) (cI 1)),
gT 44 36 (.ixS 1 (.t 41) (.t 43)),
gT 45 36 (.load none (.t 44)),
gT 46 36 (.bin .leq (.t 40) (.t 45)),
oP 47 (.pick (.t 36) (.t 46) (.c (.bool false)))] [1,2,7,8,47] [[],[0],[0,1],[0,1,2],[0,1,2],[0,1,2,3,4],[0,1,2,3,4,5],[0,1,2],[0,1,2],[0,1,2,8],[0,1,2,7,8,9],[0,1,2,7,8,9,10],[0,1,2,3,4,5,6,7,8,9,10,11],[0,1,2,3,4,5,6,7,8,9,10,11,12]])
(.cond (.t 47)
(.reg [oP 7 (.mv (cI 2))] [1,2,7,8])
(.seq (.dreg [oP 48 (.fieldAddr none 1 (.t 2)),
oP 49 (.load none (.t 48)),
mV 50 1,
mV 51 8,
oP 52 (.ixS 1 (.t 50) (.t 51)),
oP 53 (.load none (.t 52)),
oP 54 (.ixS 3 (.t 49) (.t 53)),
oP 55 (.fieldAddr none 2 (.t 54)),
oP 56 (.load none (.t 55))] [1,2,7,8,56] [[],[0],[],[],[2,3],[2,3,4],[0,1,2,3,4,5],[0,1,2,3,4,5,6],[0,1,2,3,4,5,6,7]])
(.cond (.t 56)
(.reg [oP 7 (.mv (cI 9))] [1,2,7,8])
.skip)))))))
(.reg [mV 23 8,
oP 24 (.bin .add (.t 23) (cI 1)),
mV 8 24] [1,2,7,8]))))))
(.seq (.reg [mV 57 7,
mV 4 57] [4])
.ret))))
abbrev Kn : RsT := [(4,none)]
theorem Ko : SpF 58 D6 Gz Kn := SpI Tryz.func111 (by kernel_rfl)
theorem K6 : ak Tryz.prog D6 = true := by kernel_rfl
abbrev DX : FuncId := 112
def FA : AC :=
(.seq (.reg [oP 4 (.mv (.c (.bool false)))] [0,1])
(.seq (.reg [mV 5 0,
oP 6 (.bin .geq (.t 5) (cI 0)),
mV 7 6,
gT 8 7 (.mv (.t 0)),
gT 9 7 (.mv (.t 1)),
gT 10 7 (.bin .lss (.t 8) (.t 9)),
oP 11 (.pick (.t 7) (.t 10) (.c (.bool false))),
mV 4 11] [4])
.ret))
abbrev Ku : RsT := [(4,none)]
theorem Mq : SpF 12 DX FA Ku := SpI Tryz.func112 (by kernel_rfl)
theorem uX : ak Tryz.prog DX = true := by kernel_rfl
abbrev Dx : FuncId := 113
def xW : AC :=
(.seq (.reg [oP 4 (.pbox 2 (.t 0)),
oP 6 (.box 14 (.t 2)),
oP 7 (.pbox 2 (.t 3)),
oP 8 (.alloc [.bool false, .bool false, .bool false, .bool false, .bool false, .bool false, .bool false, .bool false, .bool false, .bool false, .bool false, .bool false, .bool false, .bool false]),
oP 9 (.mv (.c (.bool false)))] [1,4,6,7,8])
(.seq (.seq (.dreg [oP 10 (.fieldAddr none 0 (.t 4)),
oP 11 (.load none (.t 10)),
oP 12 (.fieldAddr none 0 (.t 7)),
oP 13 (.load none (.t 12)),
oP 14 (.ixS 2 (.t 11) (.t 13)),
oP 15 (.fieldAddr none 1 (.t 14)),
oP 16 (.load none (.t 15)),
mV 17 16,
gF 18 17 (.fieldAddr none 0 (.t 7)),
gF 19 17 (.load none (.t 18)),
gF 20 17 (.fieldAddr (some 7) 7 (.t 6)),
gF 21 17 (.ixA 7 1 none (.t 20) (.t 19)),
gF 22 17 (.load none (.t 21)),
gF 23 17 (.fieldAddr none 1 (.t 7)),
gF 24 17 (.load none (.t 23)),
gF 25 17 (.eqb true (.t 22) (.t 24)),
oP 26 (.pick (.t 17) (.c (.bool true)) (.t 25))] [1,4,6,7,8,26] [[],[0],[],[2],[0,1,2,3],[0,1,2,3,4],[0,1,2,3,4,5],[0,1,2,3,4,5,6],[0,1,2,3,4,5,6,7],[0,1,2,3,4,5,6,7,8],[0,1,2,3,4,5,6,7],[0,1,2,3,4,5,6,7,8,9,10],[0,1,2,3,4,5,6,7,8,9,10,11],[0,1,2,3,4,5,6,7],[0,1,2,3,4,5,6,7,13],[0,1,2,3,4,5,6,7,8,9,10,11,12,13,14],[0,1,2,3,4,5,6,7,8,9,10,11,12,13,14,15]])
(.cond (.t 26)
(.seq (.reg [oP 27 (.load (some 14) (.t 6)),
oN (.store 14 (.t 8) (.t 27)),
oP 9 (.mv (.c (.bool false)))] [8,9])
.ret)
.skip))
(.seq (.reg [oP 28 (.fieldAddr none 0 (.t 7)),
oP 29 (.load none (.t 28)),
oP 30 (.fieldAddr none 1 (.t 7)),
oP 31 (.load none (.t 30)),
oP 32 (.un .not (.t 31)),
oP 33 (.fieldAddr (some 7) 7 (.t 6)),
oP 34 (.ixA 7 1 none (.t 33) (.t 29)),
oN (.store 1 (.t 34) (.t 32))] [1,4,6,7,8])
(.seq (.seq (.reg [oP 35 (.fieldAddr none 1 (.t 7)),
oP 36 (.load none (.t 35)),
oP 37 (.un .not (.t 36))] [1,4,6,7,8,37])
(.cond (.t 37)
(.reg [oP 38 (.fieldAddr none 0 (.t 7)),
oP 39 (.load none (.t 38)),
oP 40 (.fieldAddr (some 7) 0 (.t 6)),
oP 41 (.ixA 7 1 none (.t 40) (.t 39)),
oN (.store 1 (.t 41) (.c (.bool true)))] [1,4,6,8])
.skip))
(.seq (.reg [oP 42 (.load (some 2) (.t 4)),
mV 43 1,
oP 44 (.load (some 14) (.t 6)),
oP 45 (.call (.f 159) [true,true,false] [(.t 42),(.t 43),(.t 44)]),
oN (.store 14 (.t 8) (.t 45)),
oP 9 (.mv (.c (.bool true)))] [8,9])
.ret)))))
abbrev MY : RsT := [(8,some (some 14)),(9,none)]
theorem Oz : SpF 46 Dx xW MY := SpI Tryz.func113 (by kernel_rfl)
theorem Gj : ak Tryz.prog Dx = true := by kernel_rfl
abbrev CI : FuncId := 114
def GA : AC :=
(.seq (.reg [oP 1 (.pbox 7 (.t 0)),
oP 2 (.mv (.c (.slice 1 [])))] [1])
(.seq (.reg [oP 3 (.nilS 1 1)] [1,3])
(.seq (.seq (.reg [oP 4 (.mv (cI 0))] [1,3,4])
(.block 0
(.loop [1,3,4]
(.seq (.seq (.reg [mV 5 4,
oP 6 (.bin .lss (.t 5) (cI 7))] [1,3,4,6])
(.cond (.t 6)
.skip
(.exit 0)))
(.seq (.block 1
(.seq (.reg [mV 9 4,
oP 10 (.ixA 7 1 none (.t 1) (.t 9)),
oP 11 (.load none (.t 10))] [1,3,4,11])
(.cond (.t 11)
(.reg [mV 12 3,
mV 13 4,
oP 14 (.lit 0 1 1 [(0,(.t 13))]),
oP 15 (.append 1 8 (.t 12) (.t 14)),
mV 3 15] [1,3,4])
.skip)))
(.reg [mV 7 4,
oP 8 (.bin .add (.t 7) (cI 1)),
mV 4 8] [1,3,4]))))))
(.seq (.reg [mV 16 3,
oP 2 (.mvd (.t 16))] [2])
.ret))))
abbrev Ls : RsT := [(2,none)]
theorem LH : SpF 17 CI GA Ls := SpI Tryz.func114 (by kernel_rfl)
theorem Hl : ak Tryz.prog CI = true := by kernel_rfl
abbrev Cm : FuncId := 115
def FW : AC :=
(.seq (.reg [oP 2 (.pbox 11 (.t 0)),
oP 4 (.alloc [.slice 7 [], .int .i64 0, .int .i64 0])] [1,2,4])
(.seq (.reg [oP 7 (.fieldAddr (some 3) 1 (.t 2)),
oP 8 (.load (some 3) (.t 7)),
oP 5 (.alloc [.slice 7 [], .int .i64 0, .int .i64 0]),
oN (.store 3 (.t 5) (.t 8))] [1,2,4,5])
(.seq (.reg [oP 9 (.fieldAddr none 0 (.t 5)),
oN (.storem 7 (.t 9))] [1,2,4,5])
(.seq (.seq (.reg [oP 6 (.mv (cI 0))] [1,2,4,5,6])
(.block 0
(.loop [1,2,4,5,6]
(.seq (.seq (.reg [mV 10 6,
oP 11 (.fieldAddr (some 3) 1 (.t 2)),
oP 12 (.fieldAddr none 0 (.t 11)),
oP 13 (.load none (.t 12)),
oP 14 (.len (.t 13)),
oP 15 (.bin .lss (.t 10) (.t 14))] [1,2,4,5,6,15])
(.cond (.t 15)
.skip
(.exit 0)))
(.seq (.block 1
(.seq (.reg [mV 18 1,
mV 19 6,
oP 20 (.call (.f 116) [false,false] [(.t 18),(.t 19)])] [1,2,4,5,6,20])
(.cond (.t 20)
(.dreg [oP 21 (.fieldAddr none 0 (.t 5)),
oP 22 (.load none (.t 21)),
oP 23 (.fieldAddr (some 3) 1 (.t 2)),
oP 24 (.fieldAddr none 0 (.t 23)),
oP 25 (.load none (.t 24)),
mV 26 6,
oP 27 (.ixS 7 (.t 25) (.t 26)),
oP 28 (.load (some 7) (.t 27)),
oP 29 (.lit 0 7 1 [(0,(.t 28))]),
oP 30 (.append 7 64 (.t 22) (.t 29)),
oP 31 (.fieldAddr none 0 (.t 5)),
oN (.store 1 (.t 31) (.t 30))] [1,2,4,5,6] [[],[0],[],[2],[2,3],[],[2,3,4,5],[2,3,4,5,6],[2,3,4,5,6,7],[0,1,2,3,4,5,6,7,8],[0,1,2,3,4,5,6,7,8,9],[0,1,2,3,4,5,6,7,8,9,10]])
.skip)))
(.reg [mV 16 6,
oP 17 (.bin .add (.t 16) (cI 1)),
mV 6 17] [1,2,4,5,6]))))))
(.seq (.reg [oP 32 (.loadd (some 3) (.t 5)),
oN (.store 3 (.t 4) (.t 32))] [4])
.ret)))))
abbrev Jr : RsT := [(4,some (some 3))]
theorem Li : SpF 33 Cm FW Jr := SpI Tryz.func115 (by kernel_rfl)
theorem N7 : ak Tryz.prog Cm = true := by kernel_rfl
abbrev B8 : FuncId := 116
def GF : AC :=
(.seq (.reg [oP 4 (.mv (.c (.bool false)))] [0,1])
(.seq (.reg [mV 5 0,
mV 6 1,
oP 7 (.call (.f 68) [false] [(.t 6)]),
oP 8 (.bin .quo (.t 5) (.t 7)),
oP 9 (.bin .rem (.t 8) (cI 2)),
oP 10 (.bin .eql (.t 9) (cI 1)),
mV 4 10] [4])
.ret))
abbrev Pq : RsT := [(4,none)]
theorem Oc : SpF 11 B8 GF Pq := SpI Tryz.func116 (by kernel_rfl)
theorem uE : ak Tryz.prog B8 = true := by kernel_rfl
abbrev Dj : FuncId := 117
def GZ : AC :=
(.seq (.reg [oP 4 (.mv (cI 0))] [0,1])
(.seq (.seq (.reg [oP 5 (.mv (cI 0))] [0,1,5])
(.block 0
(.loop [0,1,5]
(.seq (.seq (.reg [mV 6 5,
mV 7 0,
oP 8 (.len (.t 7)),
oP 9 (.bin .lss (.t 6) (.t 8))] [0,1,5,9])
(.cond (.t 9)
.skip
(.exit 0)))
(.seq (.block 1
(.seq (.reg [mV 12 0,
mV 13 5,
oP 14 (.ixS 1 (.t 12) (.t 13)),
oP 15 (.load none (.t 14)),
mV 16 1,
oP 17 (.bin .eql (.t 15) (.t 16))] [0,1,5,17])
(.cond (.t 17)
(.seq (.reg [mV 18 5,
mV 4 18] [4])
.ret)
.skip)))
(.reg [mV 10 5,
oP 11 (.bin .add (.t 10) (cI 1)),
mV 5 11] [0,1,5]))))))
(.seq (.reg [oP 4 (.mv (cI (-1)))] [4])
.ret)))
abbrev L8 : RsT := [(4,none)]
theorem KH : SpF 19 Dj GZ L8 := SpI Tryz.func117 (by kernel_rfl)
theorem El : ak Tryz.prog Dj = true := by kernel_rfl
abbrev gR : FuncId := 118
def GG : AC :=
(.seq (.reg [oP 3 (.pbox 1 (.t 0))] [1,2,3])
(.seq (.reg [oP 5 (.load none (.t 1)),
oP 6 (.call (.f 119) [false] [(.t 5)])] [1,2,3,6])
(.block 0
(.bF (.t 6) [7] (.reg [mV 4 7] [1,2,3,4])
(.block 1
(.seq (.qreg [oP 8 (.load none (.t 2)),
oP 9 (.load none (.t 1)),
mV 10 4,
oP 11 (.call (.f 73) [false,false,false] [(.t 8),(.t 9),(.t 10)]),
oP 12 (.bin .eql (.t 11) (cI 0)),
mV 13 12,
gT 14 13 (.load none (.t 3)),
gT 15 13 (.mv (.t 4)),
gT 16 13 (.load none (.t 1)),
gT 17 13 (.mv (.t 4)),
gT 18 13 (.bin .shl (cI 1) (.t 17)),
gT 19 13 (.bin .andNot (.t 16) (.t 18)),
gT 20 13 (.call (.t 14) [false,false] [(.t 15),(.t 19)]),
gT 21 13 (.un .not (.t 20)),
oP 22 (.pick (.t 13) (.t 21) (.c (.bool false)))] [22] [[],[],[],[0,1,2],[0,1,2,3],[0,1,2,3,4],[0,1,2,3,4,5],[0,1,2,3,4,5],[0,1,2,3,4,5],[0,1,2,3,4,5],[0,1,2,3,4,5,9],[0,1,2,3,4,5,8,9,10],[0,1,2,3,4,5,6,7,8,9,10,11],[0,1,2,3,4,5,6,7,8,9,10,11,12],[0,1,2,3,4,5,6,7,8,9,10,11,12,13]] [([0,1,2],3),([4,5,6,7,8,9,10,11],12)] [13,14])
(.cond (.t 22)
.ret
.skip)))))))
abbrev JJ : RsT := []
theorem OM : SpF 23 gR GG JJ := SpI Tryz.func118 (by kernel_rfl)
theorem wZ : ak Tryz.prog gR = true := by kernel_rfl
abbrev Co : FuncId := 119
def G3 : AC :=
(.seq (.reg [oP 1 (.pbox 1 (.t 0)),
oP 2 (.mv (.c .nilfunc))] [1])
(.seq (.reg [oP 3 (.mkfunc (.func 160) [] [(.t 1)]),
mV 2 3] [2])
.ret))
abbrev JS : RsT := [(2,none)]
theorem Ph : SpF 4 Co G3 JS := SpI Tryz.func119 (by kernel_rfl)
theorem Gt : ak Tryz.prog Co = true := by kernel_rfl
abbrev oA : FuncId := 120
def FO : AC :=
(.seq (.reg [oP 4 (.pbox 1 (.t 0)),
oP 5 (.mv (cI 0))] [1,2,3,4])
(.scope
(.seq (.reg [oP 11 (.load none (.t 1)),
oP 12 (.load none (.t 4)),
oP 13 (.mget true .i (.int .i64 0) (.t 11) (.t 12)),
mV 10 13,
oP 14 (.extract (.t 10) 0),
oP 15 (.extract (.t 10) 1),
oP 6 (.alloc [.int .i64 0]),
oN (.store 1 (.t 6) (.t 14)),
mV 7 15] [1,2,3,4,6,7])
(.seq (.seq (.reg [mV 16 7] [1,2,3,4,6,16])
(.cond (.t 16)
(.seq (.reg [oP 17 (.load none (.t 6)),
mV 5 17] [5])
.ret)
.skip))
(.seq (.label 0)
(.seq (.seq (.reg [oP 18 (.load none (.t 2)),
oP 19 (.load none (.t 4)),
oP 20 (.call (.f 61) [false,false] [(.t 18),(.t 19)])] [1,3,4,6,20])
(.block 0
(.bF (.t 20) [21,22] (.reg [mV 9 22] [1,3,4,6,9])
(.block 1
(.seq (.qreg [oP 23 (.load none (.t 6)),
oP 24 (.load none (.t 3)),
mV 25 9,
oP 26 (.call (.t 24) [false] [(.t 25)]),
oP 27 (.bin .add (cI 1) (.t 26)),
oP 28 (.mx [(.t 23),(.t 27)]),
oN (.store 1 (.t 6) (.t 28))] [1,4,6] [[],[],[],[1,2],[1,2,3],[0,1,2,3,4],[0,1,2,3,4,5]] [([0,1,2],3),([4,5],6)] [])
(.seq (.dreg [oP 29 (.load none (.t 6)),
oP 30 (.load none (.t 4)),
oP 31 (.conv .u64 (.t 30)),
oP 32 (.call (.f 121) [false] [(.t 31)]),
oP 33 (.bin .eql (.t 29) (.t 32))] [1,4,6,33] [[],[],[1],[1,2],[0,1,2,3]])
(.cond (.t 33)
(.exit 0)
.skip)))))))
(.seq (.reg [oP 34 (.load none (.t 1)),
oP 35 (.load none (.t 4)),
oP 36 (.load none (.t 6)),
oN (.j5 .i (.t 34) (.t 35) (.t 36))] [6])
(.seq (.reg [oP 37 (.load none (.t 6)),
mV 5 37] [5])
.ret))))))))
abbrev MU : RsT := [(5,none)]
theorem OF : SpF 38 oA FO MU := SpI Tryz.func120 (by kernel_rfl)
theorem Es : ak Tryz.prog oA = true := by kernel_rfl
abbrev Er : FuncId := 121
def GN : AC :=
(.seq (.reg [oP 2 (.mv (cI 0))] [0])
(.seq (.cond (.c (.bool false))
(.seq (.reg [mV 3 0,
oP 4 (.conv .u32 (.t 3)),
oP 5 (.call (.f 162) [false] [(.t 4)]),
mV 2 5] [2])
.ret)
.skip)
(.seq (.reg [mV 6 0,
oP 7 (.call (.f 163) [false] [(.t 6)]),
mV 2 7] [2])
.ret)))
abbrev OH : RsT := [(2,none)]
theorem Kf : SpF 8 Er GN OH := SpI Tryz.func121 (by kernel_rfl)
theorem Hn : ak Tryz.prog Er = true := by kernel_rfl
abbrev D2 : FuncId := 122
def FZ : AC :=
(.seq (.reg [oP 4 (.mv (.c (.bool false)))] [0,1])
(.seq (.reg [mV 5 0,
mV 6 1,
oP 7 (.call (.f 164) [true,false] [(.t 5),(.t 6)]),
oP 8 (.bin .geq (.t 7) (cI 0)),
mV 4 8] [4])
.ret))
abbrev Nq : RsT := [(4,none)]
theorem OL : SpF 9 D2 FZ Nq := SpI Tryz.func122 (by kernel_rfl)
theorem DE : ak Tryz.prog D2 = true := by kernel_rfl
abbrev At : FuncId := 123
def Gp : AC :=
(.seq (.reg [oP 3 (.mv (.c (.bool false)))] [0,1])
(.seq (.reg [oP 4 (.fieldAddr none 0 (.t 1)),
oP 5 (.load none (.t 4)),
mV 6 0,
oP 7 (.call (.f 78) [true,false] [(.t 5),(.t 6)]),
oP 8 (.un .not (.t 7)),
mV 3 8] [3])
.ret))
abbrev Oa : RsT := [(3,none)]
theorem L4 : SpF 9 At Gp Oa := SpI Tryz.func123 (by kernel_rfl)
theorem NW : ak Tryz.prog At = true := by kernel_rfl
abbrev qt : FuncId := 124
def Gk : AC :=
(.seq (.reg [oP 8 (.mnew),
oP 9 (.load none (.t 1)),
oP 10 (.call (.f 77) [false] [(.t 9)]),
oN (.j5 .i (.t 8) (.t 10) (cI 1)),
mV 11 8,
oP 3 (.alloc [.nilmap]),
oN (.store 1 (.t 3) (.t 11))] [0,1,3])
(.frz 3 false (.seq (.reg [oP 12 (.load none (.t 1)),
oP 13 (.call (.f 77) [false] [(.t 12)]),
oP 14 (.build [.int .i64 0, .slice 1 []] [(0,1,(.t 13)),(1,1,(.c (.slice 1 [])))]),
oP 15 (.lit 1 2 1 [(0,(.t 14))]),
oP 4 (.alloc [.slice 2 []]),
oN (.store 1 (.t 4) (.t 15))] [0,1,3,4])
(.block 0
(.loop [0,1,3,4]
(.seq (.seq (.reg [oP 16 (.load none (.t 4)),
oP 17 (.len (.t 16)),
oP 18 (.bin .gtr (.t 17) (cI 0))] [0,1,3,4,18])
(.cond (.t 18)
.skip
(.exit 0)))
(.seq (.block 1
(.seq (.reg [oP 21 (.load none (.t 4)),
oP 22 (.ixS 2 (.t 21) (cI 0)),
oP 23 (.load (some 2) (.t 22)),
oP 5 (.alloc [.int .i64 0, .slice 1 []]),
oN (.store 2 (.t 5) (.t 23))] [0,1,3,4,5])
(.frz 5 true (.seq (.seq (.reg [mV 24 0,
oP 25 (.load (some 2) (.t 5)),
oP 26 (.call (.t 24) [true] [(.t 25)]),
oP 27 (.un .not (.t 26))] [0,1,3,4,5,27])
(.cond (.t 27)
.ret
.skip))
(.seq (.reg [oP 28 (.load none (.t 1)),
oP 29 (.fieldAddr none 0 (.t 5)),
oP 30 (.load none (.t 29)),
oP 31 (.call (.f 61) [false,false] [(.t 28),(.t 30)])] [0,1,3,4,5,31])
(.block 2
(.bF (.t 31) [32,33] (.seq (.reg [mV 6 32] [3,4,5,6,33])
(.reg [mV 7 33] [3,4,5,6,7]))
(.block 3
(.seq (.reg [oP 34 (.load none (.t 3)),
mV 35 7,
oP 36 (.mget false .i (.int .i64 0) (.t 34) (.t 35)),
oP 37 (.bin .add (.t 36) (cI 1)),
oN (.j5 .i (.t 34) (.t 35) (.t 37))] [3,4,5,6,7])
(.seq (.reg [oP 38 (.load none (.t 3)),
mV 39 7,
oP 40 (.mget false .i (.int .i64 0) (.t 38) (.t 39)),
oP 41 (.bin .eql (.t 40) (cI 1))] [4,5,6,7,41])
(.cond (.t 41)
(.dreg [oP 42 (.load none (.t 4)),
mV 43 7,
oP 44 (.fieldAddr none 1 (.t 5)),
oP 45 (.load none (.t 44)),
oP 46 (.callA 1 (.f 74) [true] [(.t 45)]),
mV 47 6,
oP 48 (.lit 0 1 1 [(0,(.t 47))]),
oP 49 (.append 1 8 (.t 46) (.t 48)),
oP 50 (.build [.int .i64 0, .slice 1 []] [(0,1,(.t 43)),(1,1,(.t 49))]),
oP 51 (.lit 0 2 1 [(0,(.t 50))]),
oP 52 (.append 2 32 (.t 42) (.t 51)),
oN (.store 1 (.t 4) (.t 52))] [] [[],[],[],[2],[2,3],[],[5],[2,3,4,5,6],[1,2,3,4,5,6,7],[1,2,3,4,5,6,7,8],[0,1,2,3,4,5,6,7,8,9],[0,1,2,3,4,5,6,7,8,9,10]])
.skip)))))))))))
(.seq (.seq (.reg [oP 53 (.load none (.t 4))] [0,1,3,53])
(.reg [oP 4 (.alloc [.slice 2 []]),
oN (.store 1 (.t 4) (.t 53))] [0,1,3,4]))
(.reg [oP 19 (.load none (.t 4)),
oP 20 (.subO 2 (.t 19) (cI 1)),
oN (.store 1 (.t 4) (.t 20))] [0,1,3,4])))))))))
abbrev OI : RsT := []
theorem LJ : SpF 54 qt Gk OI := SpI Tryz.func124 (by kernel_rfl)
theorem GU : ak Tryz.prog qt = true := by kernel_rfl
abbrev u0 : FuncId := 125
def Gs : AC :=
(.seq (.reg [oP 6 (.mv (.c (.bool false)))] [1,2])
(.seq (.reg [mV 7 1,
mV 8 2,
oP 9 (.call (.f 165) [false,false] [(.t 7),(.t 8)]),
oP 10 (.un .not (.t 9)),
mV 6 10] [6])
.ret))
abbrev L5 : RsT := [(6,none)]
theorem KL : SpF 11 u0 Gs L5 := SpI Tryz.func125 (by kernel_rfl)
theorem MW : ak Tryz.prog u0 = true := by kernel_rfl
abbrev u7 : FuncId := 126
def Gd : AC :=
(.seq (.reg [oP 6 (.mv (.c (.bool false)))] [0,1,2])
(.seq (.reg [mV 7 1,
mV 8 0,
oP 9 (.nilchk (.t 8)),
oP 10 (.fieldAddr none 11 (.t 9)),
oP 11 (.load none (.t 10)),
mV 12 2,
oP 13 (.ixS 1 (.t 11) (.t 12)),
oP 14 (.load none (.t 13)),
oP 15 (.bin .and (.t 7) (.t 14)),
oP 16 (.bin .neq (.t 15) (cI 0)),
mV 6 16] [6])
.ret))
abbrev MK : RsT := [(6,none)]
theorem Kw : SpF 17 u7 Gd MK := SpI Tryz.func126 (by kernel_rfl)
theorem NJ : ak Tryz.prog u7 = true := by kernel_rfl
abbrev ur : FuncId := 127
def Gy : AC :=
(.seq (.reg [oP 6 (.mv (.c (.bool false)))] [0,2])
(.seq (.reg [mV 7 0,
oP 8 (.nilchk (.t 7)),
oP 9 (.fieldAddr none 12 (.t 8)),
oP 10 (.load none (.t 9)),
mV 11 2,
oP 12 (.call (.f 165) [false,false] [(.t 10),(.t 11)]),
mV 6 12] [6])
.ret))
abbrev Nm : RsT := [(6,none)]
theorem Ot : SpF 13 ur Gy Nm := SpI Tryz.func127 (by kernel_rfl)
theorem K2 : ak Tryz.prog ur = true := by kernel_rfl
abbrev va : FuncId := 128
def G9 : AC :=
(.seq (.reg [oP 3 (.pbox 1 (.t 0)),
oP 6 (.mv (.c (.bool false)))] [1,2,3])
(.seq (.reg [mV 12 1,
mV 13 2,
oP 14 (.bin .shl (cI 1) (.t 13)),
oP 15 (.bin .andNot (.t 12) (.t 14)),
mV 7 15] [3,7])
(.seq (.seq (.reg [mV 16 7,
oP 17 (.bin .eql (.t 16) (cI 0))] [3,7,17])
(.cond (.t 17)
(.seq (.reg [oP 6 (.mv (.c (.bool false)))] [6])
.ret)
.skip))
(.seq (.reg [oP 19 (.load none (.t 3)),
oP 20 (.nilchk (.t 19)),
oP 21 (.fieldAddr none 13 (.t 20)),
oP 22 (.load none (.t 21)),
mV 23 7,
oP 24 (.mget true .i (.int .i64 0) (.t 22) (.t 23)),
mV 18 24,
oP 25 (.extract (.t 18) 0),
oP 26 (.extract (.t 18) 1),
mV 8 25,
mV 9 26] [3,7,8,9])
(.seq (.seq (.reg [mV 27 9,
oP 28 (.un .not (.t 27))] [3,7,8,28])
(.cond (.t 28)
(.seq (.reg [oP 29 (.load none (.t 3)),
oP 30 (.nilchk (.t 29)),
oP 31 (.fieldAddr (some 11) 0 (.t 30)),
oP 32 (.fieldAddr (some 3) 1 (.t 31)),
oP 33 (.load (some 3) (.t 32)),
oP 10 (.alloc [.slice 7 [], .int .i64 0, .int .i64 0]),
oN (.store 3 (.t 10) (.t 33))] [3,7,10])
(.seq (.reg [oP 34 (.fieldAddr none 0 (.t 10)),
oN (.storem 7 (.t 34))] [3,7,10])
(.seq (.seq (.reg [mV 35 7,
oP 36 (.call (.f 119) [false] [(.t 35)])] [3,7,10,36])
(.block 0
(.bF (.t 36) [37] (.reg [mV 11 37] [3,10,11])
(.block 1
(.dreg [oP 38 (.fieldAddr none 0 (.t 10)),
oP 39 (.load none (.t 38)),
oP 40 (.load none (.t 3)),
oP 41 (.nilchk (.t 40)),
oP 42 (.fieldAddr (some 11) 0 (.t 41)),
oP 43 (.fieldAddr (some 3) 1 (.t 42)),
oP 44 (.fieldAddr none 0 (.t 43)),
oP 45 (.load none (.t 44)),
mV 46 11,
oP 47 (.ixS 7 (.t 45) (.t 46)),
oP 48 (.load (some 7) (.t 47)),
oP 49 (.lit 0 7 1 [(0,(.t 48))]),
oP 50 (.append 7 64 (.t 39) (.t 49)),
oP 51 (.fieldAddr none 0 (.t 10)),
oN (.store 1 (.t 51) (.t 50))] [] [[],[0],[],[2],[2,3],[2,3,4],[2,3,4,5],[2,3,4,5,6],[],[2,3,4,5,6,7,8],[2,3,4,5,6,7,8,9],[2,3,4,5,6,7,8,9,10],[0,1,2,3,4,5,6,7,8,9,10,11],[0,1,2,3,4,5,6,7,8,9,10,11,12],[0,1,2,3,4,5,6,7,8,9,10,11,12,13]])))))
(.seq (.dreg [oP 53 (.load (some 3) (.t 10)),
oP 54 (.load none (.t 3)),
oP 55 (.nilchk (.t 54)),
oP 56 (.fieldAddr (some 11) 0 (.t 55)),
oP 57 (.fieldAddr (some 2) 4 (.t 56)),
oP 58 (.load (some 2) (.t 57)),
oP 59 (.call (.f 47) [true,false] [(.t 53),(.t 58)]),
mV 52 59,
oP 60 (.extract (.t 52) 0),
oP 61 (.extract (.t 52) 1),
oP 62 (.extract (.t 52) 2),
mV 8 60] [3,7,8] [[],[],[1],[1,2],[1,2,3],[1,2,3,4],[0,1,2,3,4,5],[0,1,2,3,4,5,6],[0,1,2,3,4,5,6,7],[0,1,2,3,4,5,6,7],[0,1,2,3,4,5,6,7],[0,1,2,3,4,5,6,7,8]])
(.reg [oP 63 (.load none (.t 3)),
oP 64 (.nilchk (.t 63)),
oP 65 (.fieldAddr none 13 (.t 64)),
oP 66 (.load none (.t 65)),
mV 67 7,
mV 68 8,
oN (.j5 .i (.t 66) (.t 67) (.t 68))] [8])))))
.skip))
(.seq (.reg [mV 69 8,
oP 70 (.bin .neq (.t 69) (cI 0)),
mV 6 70] [6])
.ret))))))
abbrev JH : RsT := [(6,none)]
theorem J8 : SpF 71 va G9 JH := SpI Tryz.func128 (by kernel_rfl)
theorem JX : ak Tryz.prog va = true := by kernel_rfl
abbrev C2 : FuncId := 129
def FY : AC :=
(.seq (.reg [oP 8 (.mv (.c (.bool true)))] [0,1,2,3,8])
(.seq (.reg [oP 9 (.mv (.c (.bool true)))] [0,1,2,3,8,9])
(.block 0
(.loop [0,1,2,3,8,9]
(.block 1
(.seq (.reg [mV 19 2,
mV 20 1,
oP 21 (.bin .sub (.t 19) (.t 20)),
mV 10 21] [0,1,2,3,8,9,10])
(.seq (.seq (.reg [mV 22 10,
oP 23 (.bin .leq (.t 22) (cI 12))] [0,1,2,3,8,9,10,23])
(.cond (.t 23)
(.seq (.reg [mV 24 0,
mV 25 1,
mV 26 2,
oP 27 (.call (.f 166) [true,false,false] [(.t 24),(.t 25),(.t 26)])] [])
.ret)
.skip))
(.seq (.seq (.reg [mV 28 3,
oP 29 (.bin .eql (.t 28) (cI 0))] [0,1,2,3,8,9,10,29])
(.cond (.t 29)
(.seq (.reg [mV 30 0,
mV 31 1,
mV 32 2,
oP 33 (.call (.f 167) [true,false,false] [(.t 30),(.t 31),(.t 32)])] [])
.ret)
.skip))
(.seq (.seq (.reg [mV 34 8,
oP 35 (.un .not (.t 34))] [0,1,2,3,8,9,10,35])
(.cond (.t 35)
(.seq (.reg [mV 36 0,
mV 37 1,
mV 38 2,
oP 39 (.call (.f 168) [true,false,false] [(.t 36),(.t 37),(.t 38)])] [0,1,2,3,8,9,10])
(.reg [mV 40 3,
oP 41 (.bin .sub (.t 40) (cI 1)),
mV 3 41] [0,1,2,3,8,9,10]))
.skip))
(.seq (.reg [mV 43 0,
mV 44 1,
mV 45 2,
oP 46 (.call (.f 169) [true,false,false] [(.t 43),(.t 44),(.t 45)]),
mV 42 46,
oP 47 (.extract (.t 42) 0),
oP 48 (.extract (.t 42) 1),
mV 11 47,
mV 12 48] [0,1,2,3,8,9,10,11,12])
(.seq (.seq (.reg [mV 49 12,
oP 50 (.bin .eql (.t 49) (cI 2))] [0,1,2,3,8,9,10,11,12,50])
(.cond (.t 50)
(.seq (.reg [mV 51 0,
mV 52 1,
mV 53 2,
oP 54 (.call (.f 170) [true,false,false] [(.t 51),(.t 52),(.t 53)])] [0,1,2,3,8,9,10,11])
(.seq (.reg [mV 55 2,
oP 56 (.bin .sub (.t 55) (cI 1)),
mV 57 11,
mV 58 1,
oP 59 (.bin .sub (.t 57) (.t 58)),
oP 60 (.bin .sub (.t 56) (.t 59)),
mV 11 60] [0,1,2,3,8,9,10,11])
(.reg [oP 12 (.mv (cI 1))] [0,1,2,3,8,9,10,11,12])))
.skip))
(.seq (.seq (.reg [mV 61 8,
mV 62 61,
gT 63 62 (.mv (.t 9)),
oP 64 (.pick (.t 62) (.t 63) (.c (.bool false))),
mV 65 64,
gT 66 65 (.mv (.t 12)),
gT 67 65 (.bin .eql (.t 66) (cI 1)),
oP 68 (.pick (.t 65) (.t 67) (.c (.bool false)))] [0,1,2,3,8,9,10,11,68])
(.cond (.t 68)
(.seq (.reg [mV 69 0,
mV 70 1,
mV 71 2,
oP 72 (.call (.f 171) [true,false,false] [(.t 69),(.t 70),(.t 71)])] [0,1,2,3,8,9,10,11,72])
(.cond (.t 72)
.ret
.skip))
.skip))
(.seq (.seq (.dreg [mV 73 1,
oP 74 (.bin .gtr (.t 73) (cI 0)),
mV 75 74,
gT 76 75 (.mv (.t 0)),
gT 77 75 (.mv (.t 1)),
gT 78 75 (.bin .sub (.t 77) (cI 1)),
gT 79 75 (.ixS 1 (.t 76) (.t 78)),
gT 80 75 (.load none (.t 79)),
gT 81 75 (.mv (.t 0)),
gT 82 75 (.mv (.t 11)),
gT 83 75 (.ixS 1 (.t 81) (.t 82)),
gT 84 75 (.load none (.t 83)),
gT 85 75 (.call (.f 172) [false,false] [(.t 80),(.t 84)]),
gT 86 75 (.un .not (.t 85)),
oP 87 (.pick (.t 75) (.t 86) (.c (.bool false)))] [0,1,2,3,8,9,10,11,87] [[],[0],[0,1],[0,1,2],[0,1,2],[0,1,2,4],[0,1,2,3,4,5],[0,1,2,3,4,5,6],[0,1,2],[0,1,2],[0,1,2,8,9],[0,1,2,8,9,10],[0,1,2,3,4,5,6,7,8,9,10,11],[0,1,2,3,4,5,6,7,8,9,10,11,12],[0,1,2,3,4,5,6,7,8,9,10,11,12,13]])
(.cond (.t 87)
(.seq (.reg [mV 88 0,
mV 89 1,
mV 90 2,
mV 91 11,
oP 92 (.call (.f 173) [true,false,false,false] [(.t 88),(.t 89),(.t 90),(.t 91)]),
mV 13 92] [0,2,3,8,9,13])
(.seq (.reg [mV 93 13,
mV 1 93] [0,1,2,3,8,9])
(.exit 1)))
.skip))
(.seq (.reg [mV 95 0,
mV 96 1,
mV 97 2,
mV 98 11,
oP 99 (.call (.f 174) [true,false,false,false] [(.t 95),(.t 96),(.t 97),(.t 98)]),
mV 94 99,
oP 100 (.extract (.t 94) 0),
oP 101 (.extract (.t 94) 1),
mV 14 100,
mV 15 101] [0,1,2,3,10,14,15])
(.seq (.reg [mV 102 15,
mV 9 102] [0,1,2,3,9,10,14])
(.seq (.reg [mV 103 14,
mV 104 1,
oP 105 (.bin .sub (.t 103) (.t 104)),
mV 106 2,
mV 107 14,
oP 108 (.bin .sub (.t 106) (.t 107)),
mV 16 105,
mV 17 108] [0,1,2,3,9,10,14,16,17])
(.seq (.reg [mV 109 10,
oP 110 (.bin .quo (.t 109) (cI 8)),
mV 18 110] [0,1,2,3,9,14,16,17,18])
(.seq (.reg [mV 111 16,
mV 112 17,
oP 113 (.bin .lss (.t 111) (.t 112))] [0,1,2,3,9,14,16,17,18,113])
(.cond (.t 113)
(.seq (.reg [mV 114 16,
mV 115 18,
oP 116 (.bin .geq (.t 114) (.t 115)),
mV 8 116] [0,1,2,3,8,9,14])
(.seq (.reg [mV 117 0,
mV 118 1,
mV 119 14,
mV 120 3,
oP 121 (.call (.f 129) [true,false,false,false] [(.t 117),(.t 118),(.t 119),(.t 120)])] [0,2,3,8,9,14])
(.reg [mV 122 14,
oP 123 (.bin .add (.t 122) (cI 1)),
mV 1 123] [0,1,2,3,8,9])))
(.seq (.reg [mV 124 17,
mV 125 18,
oP 126 (.bin .geq (.t 124) (.t 125)),
mV 8 126] [0,1,2,3,8,9,14])
(.seq (.reg [mV 127 0,
mV 128 14,
oP 129 (.bin .add (.t 128) (cI 1)),
mV 130 2,
mV 131 3,
oP 132 (.call (.f 129) [true,false,false,false] [(.t 127),(.t 129),(.t 130),(.t 131)])] [0,1,3,8,9,14])
(.reg [mV 133 14,
mV 2 133] [0,1,2,3,8,9]))))))))))))))))))))))
abbrev Nf : RsT := []
theorem M5 : SpF 134 C2 FY Nf := SpI Tryz.func129 (by kernel_rfl)
theorem Jn : ak Tryz.prog C2 = true := by kernel_rfl
abbrev Dm : FuncId := 130
def FC : AC :=
(.seq (.reg [oP 2 (.mv (cI 0))] [0])
(.seq (.cond (.c (.bool false))
(.seq (.reg [mV 3 0,
oP 4 (.conv .u32 (.t 3)),
oP 5 (.call (.f 175) [false] [(.t 4)]),
mV 2 5] [2])
.ret)
.skip)
(.seq (.reg [mV 6 0,
oP 7 (.call (.f 176) [false] [(.t 6)]),
mV 2 7] [2])
.ret)))
abbrev Pe : RsT := [(2,none)]
theorem JM : SpF 8 Dm FC Pe := SpI Tryz.func130 (by kernel_rfl)
theorem J0 : ak Tryz.prog Dm = true := by kernel_rfl
abbrev C7 : FuncId := 131
def FQ : AC :=
(.seq (.reg [oP 4 (.mv (cI 0))] [0,1])
(.seq (.seq (.reg [mV 6 0,
oP 7 (.len (.t 6)),
oP 8 (.mv (cI 0))] [0,1,7,8])
(.block 0
(.loop [0,1,7,8]
(.seq (.reg [oP 9 (.bin .lss (.t 8) (.t 7))] [0,1,7,8,9])
(.seq (.cond (.t 9)
.skip
(.exit 0))
(.seq (.block 1
(.seq (.reg [mV 10 8,
mV 5 10] [0,1,5,7,8])
(.seq (.reg [mV 11 1,
mV 12 0,
mV 13 5,
oP 14 (.ixS 1 (.t 12) (.t 13)),
oP 15 (.load none (.t 14)),
oP 16 (.bin .eql (.t 11) (.t 15))] [0,1,5,7,8,16])
(.cond (.t 16)
(.seq (.reg [mV 17 5,
mV 4 17] [4])
.ret)
.skip))))
(.reg [oP 18 (.bin .add (.t 8) (cI 1)),
mV 8 18] [0,1,7,8])))))))
(.seq (.reg [oP 4 (.mv (cI (-1)))] [4])
.ret)))
abbrev Lf : RsT := [(4,none)]
theorem OR : SpF 19 C7 FQ Lf := SpI Tryz.func131 (by kernel_rfl)
theorem Ol : ak Tryz.prog C7 = true := by kernel_rfl
abbrev CT : FuncId := 132
def FX : AC :=
(.seq (.reg [oP 4 (.alloc [.int .i64 0, .int .i64 0])] [0,1,4])
(.seq (.reg [mV 5 0,
mV 6 1,
oP 7 (.build [.int .i64 0, .int .i64 0] [(0,1,(.t 5)),(1,1,(.t 6))]),
oN (.store 2 (.t 4) (.t 7))] [4])
.ret))
abbrev M7 : RsT := [(4,some (some 2))]
theorem Le : SpF 8 CT FX M7 := SpI Tryz.func132 (by kernel_rfl)
theorem ud : ak Tryz.prog CT = true := by kernel_rfl
abbrev Cd : FuncId := 133
def Hg : AC :=
(.seq (.reg [oP 5 (.pbox 7 (.t 1)),
oP 8 (.mv (cI 0))] [0,2,3,5])
(.seq (.block 0
(.seq (.reg [oP 11 (.fieldAddr none 0 (.t 5)),
oP 12 (.load none (.t 11)),
oP 13 (.call (.f 90) [false] [(.t 12)]),
oP 14 (.un .not (.t 13)),
mV 10 14] [0,2,3,5,10])
(.cond (.t 10)
(.seq (.reg [oP 8 (.mv (cI 6))] [8])
.ret)
(.seq (.reg [mV 16 0,
oP 17 (.fieldAddr none 0 (.t 5)),
oP 18 (.load none (.t 17)),
oP 19 (.call (.f 177) [false,false] [(.t 16),(.t 18)]),
oP 20 (.bin .geq (.t 19) (cI 0)),
mV 21 20,
gT 22 21 (.mv (.t 0)),
gT 23 21 (.fieldAddr none 0 (.t 5)),
gT 24 21 (.load none (.t 23)),
gT 25 21 (.call (.f 177) [false,false] [(.t 22),(.t 24)]),
gT 26 21 (.mv (.t 2)),
gT 27 21 (.bin .lss (.t 25) (.t 26)),
oP 28 (.pick (.t 21) (.t 27) (.c (.bool false))),
mV 29 28,
gF 30 29 (.mv (.t 3)),
gF 31 29 (.mkfunc (.func 179) [] [(.t 5)]),
gF 32 29 (.call (.f 178) [true,false] [(.t 30),(.t 31)]),
oP 33 (.pick (.t 29) (.c (.bool true)) (.t 32)),
mV 15 33] [0,2,5,15])
(.cond (.t 15)
(.seq (.reg [oP 8 (.mv (cI 5))] [8])
.ret)
(.seq (.reg [oP 35 (.fieldAddr none 1 (.t 5)),
oP 36 (.load none (.t 35)),
oP 37 (.lit 0 1 1 [(0,(.t 36))]),
oP 38 (.call (.f 135) [false,false,true] [(cI 1),(cI 5),(.t 37)]),
mV 39 38,
gF 40 39 (.fieldAddr none 2 (.t 5)),
gF 41 39 (.load none (.t 40)),
gF 42 39 (.fieldAddr none 3 (.t 5)),
gF 43 39 (.load none (.t 42)),
gF 44 39 (.lit 0 1 2 [(0,(.t 41)),(1,(.t 43))]),
gF 45 39 (.call (.f 135) [false,false,true] [(cI 0),(cI 40),(.t 44)]),
oP 46 (.pick (.t 39) (.c (.bool true)) (.t 45)),
mV 47 46,
gF 48 47 (.fieldAddr (some 2) 5 (.t 5)),
gF 49 47 (.fieldAddr none 0 (.t 48)),
gF 50 47 (.load none (.t 49)),
gF 51 47 (.fieldAddr (some 2) 5 (.t 5)),
gF 52 47 (.fieldAddr none 1 (.t 51)),
gF 53 47 (.load none (.t 52)),
gF 54 47 (.lit 0 1 2 [(0,(.t 50)),(1,(.t 53))]),
gF 55 47 (.call (.f 135) [false,false,true] [(cI 1),(cI 1000000),(.t 54)]),
oP 56 (.pick (.t 47) (.c (.bool true)) (.t 55)),
mV 34 56] [0,2,5,34])
(.cond (.t 34)
(.seq (.reg [oP 8 (.mv (cI 7))] [8])
.ret)
(.seq (.reg [oP 58 (.fieldAddr none 2 (.t 5)),
oP 59 (.load none (.t 58)),
oP 60 (.fieldAddr none 3 (.t 5)),
oP 61 (.load none (.t 60)),
oP 62 (.bin .gtr (.t 59) (.t 61)),
mV 63 62,
gF 64 63 (.fieldAddr (some 2) 5 (.t 5)),
gF 65 63 (.fieldAddr none 0 (.t 64)),
gF 66 63 (.load none (.t 65)),
gF 67 63 (.fieldAddr (some 2) 5 (.t 5)),
gF 68 63 (.fieldAddr none 1 (.t 67)),
gF 69 63 (.load none (.t 68)),
gF 70 63 (.bin .gtr (.t 66) (.t 69)),
oP 71 (.pick (.t 63) (.c (.bool true)) (.t 70)),
mV 57 71] [0,2,5,57])
(.cond (.t 57)
(.seq (.reg [oP 8 (.mv (cI 2))] [8])
.ret)
.skip)))))))))
(.seq (.reg [mV 72 0,
oP 73 (.nilchk (.t 72)),
oP 74 (.fieldAddr (some 1) 0 (.t 73)),
oP 75 (.fieldAddr none 0 (.t 74)),
oP 76 (.load none (.t 75)),
mV 77 2,
oP 78 (.subq 7 (.t 76) none (some (.t 77))),
oP 79 (.build [.slice 7 []] [(0,1,(.t 78))]),
oP 80 (.build [.slice 7 []] [(0,1,(.t 79))]),
oP 9 (.alloc [.slice 7 []]),
oN (.store 1 (.t 9) (.t 80))] [5,9])
(.seq (.block 1
(.seq (.reg [oP 82 (.fieldAddr none 4 (.t 5)),
oP 83 (.load none (.t 82)),
oP 84 (.mkfunc (.func 181) [] [(.t 9)]),
oP 85 (.call (.f 180) [true,false] [(.t 83),(.t 84)]),
mV 81 85] [5,9,81])
(.cond (.t 81)
(.seq (.reg [oP 8 (.mv (cI 4))] [8])
.ret)
(.seq (.reg [oP 87 (.fieldAddr none 4 (.t 5)),
oP 88 (.load none (.t 87)),
oP 89 (.call (.f 182) [true] [(.t 88)]),
mV 86 89] [5,9,86])
(.cond (.t 86)
(.seq (.reg [oP 8 (.mv (cI 5))] [8])
.ret)
(.seq (.reg [oP 91 (.fieldAddr none 4 (.t 5)),
oP 92 (.load none (.t 91)),
oP 93 (.mkfunc (.func 183) [] [(.t 5),(.t 9)]),
oP 94 (.call (.f 180) [true,false] [(.t 92),(.t 93)]),
mV 90 94] [90])
(.cond (.t 90)
(.seq (.reg [oP 8 (.mv (cI 9))] [8])
.ret)
.skip)))))))
(.seq (.reg [oP 8 (.mv (cI 0))] [8])
.ret)))))
abbrev No : RsT := [(8,none)]
theorem Pb : SpF 95 Cd Hg No := SpI Tryz.func133 (by kernel_rfl)
theorem Od : ak Tryz.prog Cd = true := by kernel_rfl
abbrev Dn : FuncId := 134
def GO : AC :=
(.seq (.reg [oP 0 (.mv (.c .nilmap))] [])
(.seq (.reg [oP 1 (.mnew),
oP 2 (.build [.nilfunc, .nilfunc] [(0,1,(.f 185)),(1,1,(.f 186))]),
oN (.j5 .i (.t 1) (cI 1) (.t 2)),
oP 3 (.build [.nilfunc, .nilfunc] [(0,1,(.f 187)),(1,1,(.f 189))]),
oN (.j5 .i (.t 1) (cI 2) (.t 3)),
oP 4 (.build [.nilfunc, .nilfunc] [(0,1,(.f 190)),(1,1,(.f 191))]),
oN (.j5 .i (.t 1) (cI 3) (.t 4)),
mV 5 1,
mV 0 5] [0])
.ret))
abbrev KX : RsT := [(0,none)]
theorem Mh : SpF 6 Dn GO KX := SpI Tryz.func134 (by kernel_rfl)
theorem ON : ak Tryz.prog Dn = true := by kernel_rfl
abbrev Ei : FuncId := 135
def Fx : AC :=
(.seq (.reg [oP 3 (.pbox 1 (.t 0)),
oP 4 (.pbox 1 (.t 1)),
oP 6 (.mv (.c (.bool false)))] [2,3,4])
(.seq (.reg [mV 7 2,
oP 8 (.mkfunc (.func 192) [] [(.t 3),(.t 4)]),
oP 9 (.call (.f 100) [true,false] [(.t 7),(.t 8)]),
mV 6 9] [6])
.ret))
abbrev KB : RsT := [(6,none)]
theorem L7 : SpF 10 Ei Fx KB := SpI Tryz.func135 (by kernel_rfl)
theorem uy : ak Tryz.prog Ei = true := by kernel_rfl
abbrev CW : FuncId := 136
def F4 : AC :=
(.seq (.reg [oP 4 (.mv (.c (.bool false)))] [0,1,2])
(.seq (.reg [mV 5 0,
oP 6 (.load none (.t 1)),
oP 7 (.bin .lss (.t 5) (.t 6)),
mV 8 7,
gF 9 8 (.mv (.t 0)),
gF 10 8 (.load none (.t 2)),
gF 11 8 (.bin .gtr (.t 9) (.t 10)),
oP 12 (.pick (.t 8) (.c (.bool true)) (.t 11)),
mV 4 12] [4])
.ret))
abbrev Jo : RsT := [(4,none)]
theorem JR : SpF 13 CW F4 Jo := SpI Tryz.func136 (by kernel_rfl)
theorem Nw : ak Tryz.prog CW = true := by kernel_rfl
abbrev Et : FuncId := 137
def Hm : AC :=
(.seq (.reg [oP 4 (.mv (cI 0))] [0,1])
(.seq (.seq (.reg [mV 6 0,
oP 7 (.len (.t 6)),
oP 8 (.mv (cI 0))] [0,1,7,8])
(.block 0
(.loop [0,1,7,8]
(.seq (.reg [oP 9 (.bin .lss (.t 8) (.t 7))] [0,1,7,8,9])
(.seq (.cond (.t 9)
.skip
(.exit 0))
(.seq (.block 1
(.seq (.reg [mV 10 8,
mV 5 10] [0,1,5,7,8])
(.seq (.reg [mV 11 1,
mV 12 0,
mV 13 5,
oP 14 (.ixS 7 (.t 12) (.t 13)),
oP 15 (.load (some 7) (.t 14)),
oP 16 (.call (.t 11) [false] [(.t 15)])] [0,1,5,7,8,16])
(.cond (.t 16)
(.seq (.reg [mV 17 5,
mV 4 17] [4])
.ret)
.skip))))
(.reg [oP 18 (.bin .add (.t 8) (cI 1)),
mV 8 18] [0,1,7,8])))))))
(.seq (.reg [oP 4 (.mv (cI (-1)))] [4])
.ret)))
abbrev Mv : RsT := [(4,none)]
theorem N4 : SpF 19 Et Hm Mv := SpI Tryz.func137 (by kernel_rfl)
theorem JU : ak Tryz.prog Et = true := by kernel_rfl
abbrev C6 : FuncId := 138
def FV : AC :=
(.seq (.reg [oP 2 (.pbox 3 (.t 0)),
oP 3 (.pbox 2 (.t 1)),
oP 4 (.mv (.c .nilfunc))] [2,3])
(.seq (.reg [oP 5 (.mkfunc (.func 193) [] [(.t 3),(.t 2)]),
mV 4 5] [4])
.ret))
abbrev Mu : RsT := [(4,none)]
theorem NQ : SpF 6 C6 FV Mu := SpI Tryz.func138 (by kernel_rfl)
theorem LC : ak Tryz.prog C6 = true := by kernel_rfl
abbrev D8 : FuncId := 139
def Hf : AC :=
(.seq (.reg [oP 2 (.pbox 3 (.t 0)),
oP 4 (.alloc [.int .i64 0, .int .i64 0, .int .i64 0])] [1,2,4])
(.seq (.seq (.reg [oP 11 (.load (some 3) (.t 2)),
oP 12 (.call (.f 195) [true] [(.t 11)]),
oP 13 (.mv (cI 0))] [1,2,4,12,13])
(.block 0
(.loop [1,2,4,12,13]
(.seq (.reg [oP 14 (.bin .lss (.t 13) (cI 3))] [1,2,4,12,13,14])
(.seq (.cond (.t 14)
.skip
(.exit 0))
(.seq (.block 1
(.seq (.reg [mV 15 13,
oP 16 (.ixV 3 3 (some 3) (.t 12) (.t 13)),
oP 6 (.alloc [.nilfunc, .nilfunc, .nilfunc]),
mV 5 15,
oN (.store 3 (.t 6) (.t 16))] [1,2,4,5,6,12,13])
(.frz 6 true (.seq (.reg [oP 17 (.fieldAddr (some 3) 0 (.t 2)),
oP 18 (.fieldAddr none 0 (.t 17)),
oP 19 (.load none (.t 18)),
oP 20 (.len (.t 19)),
oP 21 (.mv (cI 0))] [1,2,4,5,6,12,13,19,20,21])
(.block 2
(.loop [1,2,4,5,6,12,13,19,20,21]
(.seq (.reg [oP 22 (.bin .lss (.t 21) (.t 20))] [1,2,4,5,6,12,13,19,20,21,22])
(.seq (.cond (.t 22)
.skip
(.exit 2))
(.seq (.block 3
(.seq (.reg [oP 23 (.ixS 7 (.t 19) (.t 21)),
oP 24 (.load (some 7) (.t 23)),
oP 8 (.alloc [.str ByteArray.empty, .int .i64 0, .int .i64 0, .int .i64 0, .int .i64 0, .int .i64 0, .int .i64 0]),
oN (.store 7 (.t 8) (.t 24))] [1,2,4,5,6,8,12,13,19,20,21])
(.frz 8 true (.seq (.reg [oP 25 (.load (some 7) (.t 8)),
mV 26 1,
oP 27 (.fieldAddr none 4 (.t 8)),
oP 28 (.load none (.t 27)),
oP 29 (.bin .sub (.t 26) (.t 28)),
oP 30 (.mx [(cI 0),(.t 29)]),
oP 31 (.build [.str ByteArray.empty, .int .i64 0, .int .i64 0, .int .i64 0, .int .i64 0, .int .i64 0, .int .i64 0, .int .i64 0] [(0,7,(.t 25)),(7,1,(.t 30))]),
oP 9 (.alloc [.str ByteArray.empty, .int .i64 0, .int .i64 0, .int .i64 0, .int .i64 0, .int .i64 0, .int .i64 0, .int .i64 0]),
oN (.store 8 (.t 9) (.t 31))] [1,2,4,5,6,8,9,12,13,19,20,21])
(.frz 9 true (.seq (.reg [oP 32 (.fieldAddr none 1 (.t 6)),
oP 33 (.load none (.t 32)),
mV 10 33] [1,2,4,5,6,8,9,10,12,13,19,20,21])
(.seq (.seq (.reg [oP 34 (.fieldAddr none 0 (.t 6)),
oP 35 (.load none (.t 34)),
oP 36 (.load (some 7) (.t 8)),
oP 37 (.call (.t 35) [false] [(.t 36)]),
oP 38 (.bin .lss (.t 37) (cI 0))] [1,2,4,5,6,8,9,10,12,13,19,20,21,38])
(.cond (.t 38)
(.reg [oP 39 (.fieldAddr none 2 (.t 6)),
oP 40 (.load none (.t 39)),
mV 10 40] [1,2,4,5,6,8,9,10,12,13,19,20,21])
.skip))
(.dreg [mV 41 5,
oP 42 (.ixA 3 1 none (.t 4) (.t 41)),
oP 43 (.load none (.t 42)),
oP 44 (.fieldAddr none 0 (.t 6)),
oP 45 (.load none (.t 44)),
oP 46 (.load (some 7) (.t 8)),
oP 47 (.call (.t 45) [false] [(.t 46)]),
mV 48 10,
oP 49 (.load (some 8) (.t 9)),
oP 50 (.call (.t 48) [false] [(.t 49)]),
oP 51 (.bin .mul (.t 47) (.t 50)),
oP 52 (.bin .add (.t 43) (.t 51)),
oP 53 (.ixA 3 1 none (.t 4) (.t 41)),
oN (.store 1 (.t 53) (.t 52))] [1,2,4,5,6,12,13,19,20,21] [[],[0],[0,1],[],[3],[],[3,4,5],[],[],[3,4,5,6,7,8],[3,4,5,6,7,8,9],[0,1,2,3,4,5,6,7,8,9,10],[0,1,2,3,4,5,6,7,8,9,10,11],[0,1,2,3,4,5,6,7,8,9,10,11,12]]))))))))
(.reg [oP 54 (.bin .add (.t 21) (cI 1)),
mV 21 54] [1,2,4,5,6,12,13,19,20,21]))))))))))
(.reg [oP 55 (.bin .add (.t 13) (cI 1)),
mV 13 55] [1,2,4,12,13])))))))
(.seq (.reg [oP 56 (.load (some 3) (.t 4)),
oN (.store 3 (.t 4) (.t 56))] [4])
.ret)))
abbrev ML : RsT := [(4,some (some 3))]
theorem LG : SpF 57 D8 Hf ML := SpI Tryz.func139 (by kernel_rfl)
theorem A1 : ak Tryz.prog D8 = true := by kernel_rfl
abbrev Cq : FuncId := 140
def xP : AC :=
(.seq (.reg [oP 1 (.pbox 3 (.t 0)),
oP 2 (.mv (cI 0))] [1])
(.seq (.block 0
(.seq (.reg [oP 4 (.ixA 3 1 none (.t 1) (cI 0)),
oP 5 (.load none (.t 4)),
oP 6 (.bin .leq (.t 5) (cI 0)),
mV 3 6] [1,3])
(.cond (.t 3)
(.seq (.reg [oP 2 (.mv (cI 1))] [2])
.ret)
(.seq (.reg [oP 8 (.ixA 3 1 none (.t 1) (cI 1)),
oP 9 (.load none (.t 8)),
oP 10 (.bin .lss (.t 9) (cI 0)),
mV 7 10] [1,7])
(.cond (.t 7)
(.seq (.reg [oP 2 (.mv (cI 2))] [2])
.ret)
(.seq (.reg [oP 12 (.ixA 3 1 none (.t 1) (cI 2)),
oP 13 (.load none (.t 12)),
oP 14 (.bin .lss (.t 13) (cI 0)),
mV 11 14] [11])
(.cond (.t 11)
(.seq (.reg [oP 2 (.mv (cI 3))] [2])
.ret)
.skip)))))))
(.seq (.reg [oP 2 (.mv (cI 0))] [2])
.ret)))
abbrev JK : RsT := [(2,none)]
theorem Lz : SpF 15 Cq xP JK := SpI Tryz.func140 (by kernel_rfl)
theorem z8 : ak Tryz.prog Cq = true := by kernel_rfl
abbrev Dg : FuncId := 141
def FF : AC :=
(.seq (.reg [oP 1 (.pbox 2 (.t 0)),
oP 2 (.mv (cI 0)),
oP 3 (.mv (cI 0)),
oP 4 (.mv (cI 0))] [1])
(.seq (.seq (.reg [oP 9 (.fieldAddr none 0 (.t 1)),
oP 10 (.load none (.t 9)),
oP 11 (.len (.t 10)),
oP 12 (.bin .eql (.t 11) (cI 0)),
mV 13 12,
gF 14 13 (.fieldAddr none 0 (.t 1)),
gF 15 13 (.load none (.t 14)),
gF 16 13 (.len (.t 15)),
gF 17 13 (.bin .gtr (.t 16) (cI 7)),
oP 18 (.pick (.t 13) (.c (.bool true)) (.t 17)),
mV 19 18,
gF 20 19 (.fieldAddr none 1 (.t 1)),
gF 21 19 (.load none (.t 20)),
gF 22 19 (.len (.t 21)),
gF 23 19 (.bin .gtr (.t 22) (cI 12)),
oP 24 (.pick (.t 19) (.c (.bool true)) (.t 23))] [1,24])
(.cond (.t 24)
(.seq (.reg [oP 2 (.mv (cI 1)),
oP 3 (.mv (cI 0)),
oP 4 (.mv (cI 3))] [2,3,4])
.ret)
.skip))
(.seq (.seq (.reg [oP 25 (.fieldAddr none 0 (.t 1)),
oP 26 (.load none (.t 25)),
oP 27 (.len (.t 26)),
oP 28 (.mv (cI 0))] [1,26,27,28])
(.block 0
(.loop [1,26,27,28]
(.seq (.reg [oP 29 (.bin .lss (.t 28) (.t 27))] [1,26,27,28,29])
(.seq (.cond (.t 29)
.skip
(.exit 0))
(.seq (.block 1
(.seq (.reg [mV 30 28,
oP 31 (.ixS 2 (.t 26) (.t 28)),
oP 32 (.load (some 2) (.t 31)),
oP 6 (.alloc [.str ByteArray.empty, .bool false]),
mV 5 30,
oN (.store 2 (.t 6) (.t 32))] [1,5,6,26,27,28])
(.frz 6 true (.block 2
(.seq (.reg [oP 34 (.fieldAddr none 0 (.t 6)),
oP 35 (.load none (.t 34)),
oP 36 (.call (.f 90) [false] [(.t 35)]),
oP 37 (.un .not (.t 36)),
mV 33 37] [1,5,6,26,27,28,33])
(.cond (.t 33)
(.seq (.reg [mV 38 5,
oP 2 (.mv (cI 2)),
mV 3 38,
oP 4 (.mv (cI 6))] [2,3,4])
.ret)
(.seq (.reg [oP 40 (.fieldAddr none 0 (.t 1)),
oP 41 (.load none (.t 40)),
mV 42 5,
oP 43 (.subq 2 (.t 41) none (some (.t 42))),
oP 44 (.mkfunc (.func 197) [] [(.t 6)]),
oP 45 (.call (.f 196) [true,false] [(.t 43),(.t 44)]),
mV 39 45] [1,5,26,27,28,39])
(.cond (.t 39)
(.seq (.reg [mV 46 5,
oP 2 (.mv (cI 2)),
mV 3 46,
oP 4 (.mv (cI 5))] [2,3,4])
.ret)
.skip))))))))
(.reg [oP 47 (.bin .add (.t 28) (cI 1)),
mV 28 47] [1,26,27,28])))))))
(.seq (.seq (.reg [oP 48 (.fieldAddr none 1 (.t 1)),
oP 49 (.load none (.t 48)),
oP 50 (.len (.t 49)),
oP 51 (.mv (cI 0))] [1,49,50,51])
(.block 3
(.loop [1,49,50,51]
(.seq (.reg [oP 52 (.bin .lss (.t 51) (.t 50))] [1,49,50,51,52])
(.seq (.cond (.t 52)
.skip
(.exit 3))
(.seq (.block 4
(.seq (.reg [mV 53 51,
oP 54 (.ixS 3 (.t 49) (.t 51)),
oP 55 (.load (some 3) (.t 54)),
oP 8 (.alloc [.int .i64 0, .int .i64 0, .bool false]),
mV 7 53,
oN (.store 3 (.t 8) (.t 55))] [1,7,8,49,50,51])
(.frz 8 true (.block 5
(.seq (.reg [oP 57 (.fieldAddr none 0 (.t 1)),
oP 58 (.load none (.t 57)),
oP 59 (.len (.t 58)),
oP 60 (.fieldAddr none 0 (.t 8)),
oP 61 (.load none (.t 60)),
oP 62 (.fieldAddr none 1 (.t 8)),
oP 63 (.load none (.t 62)),
oP 64 (.lit 0 1 2 [(0,(.t 61)),(1,(.t 63))]),
oP 65 (.call (.f 97) [false,true] [(.t 59),(.t 64)]),
mV 56 65] [1,7,8,49,50,51,56])
(.cond (.t 56)
(.seq (.reg [mV 66 7,
oP 2 (.mv (cI 3)),
mV 3 66,
oP 4 (.mv (cI 4))] [2,3,4])
.ret)
(.seq (.reg [oP 68 (.fieldAddr none 0 (.t 8)),
oP 69 (.load none (.t 68)),
oP 70 (.fieldAddr none 1 (.t 8)),
oP 71 (.load none (.t 70)),
oP 72 (.bin .eql (.t 69) (.t 71)),
mV 67 72] [1,7,49,50,51,67])
(.cond (.t 67)
(.seq (.reg [mV 73 7,
oP 2 (.mv (cI 3)),
mV 3 73,
oP 4 (.mv (cI 2))] [2,3,4])
.ret)
.skip))))))))
(.reg [oP 74 (.bin .add (.t 51) (cI 1)),
mV 51 74] [1,49,50,51])))))))
(.seq (.reg [oP 2 (.mv (cI 0)),
oP 3 (.mv (cI 0)),
oP 4 (.mv (cI 0))] [2,3,4])
.ret)))))
abbrev J9 : RsT := [(2,none),(3,none),(4,none)]
theorem NM : SpF 75 Dg FF J9 := SpI Tryz.func141 (by kernel_rfl)
theorem Jz : ak Tryz.prog Dg = true := by kernel_rfl
abbrev qK : FuncId := 142
def z9 : AC :=
(.seq (.reg [mV 4 2,
oP 5 (.isnil true (.t 4))] [0,1,2,5])
(.cond (.t 5)
(.dreg [mV 6 2,
oP 7 (.assert 39 (.t 6)),
oN (.store 1 (.t 0) (.c .nilptr)),
oN (.store 1 (.t 1) (.t 7))] [] [[],[0],[],[0,1,2]])
.skip))
theorem tt : AK Tryz.prog Tryz.f142 8 3 2 z9 = true := by kernel_rfl
theorem Hh {args : List ab} {σ : af} {m : PM} {Q : PM → af → Prop} (ha : args.length ≤ 8) (h : AW Tryz.prog 8 none z9 (v7 (Q m.after)) { v := (2,m.val) :: (3, .undef) :: cZ args 0,ds := [] } σ) : gV Tryz.prog qK args σ m Q := gV.yf Tryz.func142 tt ha h
theorem Ae : ak Tryz.prog qK = true := by kernel_rfl
abbrev Ce : FuncId := 143
def FP : AC :=
(.seq (.reg [mV 8 0,
oP 9 (.len (.t 8)),
oP 10 (.mv (cI 0))] [0,1,2,8,9,10])
(.block 0
(.loop [0,1,2,8,9,10]
(.seq (.reg [oP 11 (.bin .lss (.t 10) (.t 9))] [0,1,2,8,9,10,11])
(.seq (.cond (.t 11)
.skip
(.exit 0))
(.seq (.block 1
(.seq (.reg [mV 12 10,
oP 13 (.ixS 1 (.t 8) (.t 10)),
oP 14 (.load none (.t 13)),
mV 6 12,
mV 7 14] [0,1,2,6,7,8,9,10])
(.block 2
(.seq (.reg [mV 16 1,
mV 17 7,
oP 18 (.lit 0 1 1 [(0,(.t 17))]),
oP 19 (.call (.f 97) [false,true] [(.t 16),(.t 18)]),
mV 15 19] [0,1,2,6,7,8,9,10,15])
(.cond (.t 15)
(.reg [oP 20 (.mkiface 39 (cI 4)),
oN (.panic (.t 20))] [0,1,2,8,9,10])
(.seq (.reg [mV 22 6,
oP 23 (.bin .gtr (.t 22) (cI 0)),
mV 24 23,
gT 25 24 (.mv (.t 7)),
gT 26 24 (.mv (.t 0)),
gT 27 24 (.mv (.t 6)),
gT 28 24 (.bin .sub (.t 27) (cI 1)),
gT 29 24 (.ixS 1 (.t 26) (.t 28)),
gT 30 24 (.load none (.t 29)),
gT 31 24 (.bin .leq (.t 25) (.t 30)),
oP 32 (.pick (.t 24) (.t 31) (.c (.bool false))),
mV 21 32] [0,1,2,7,8,9,10,21])
(.cond (.t 21)
(.reg [oP 33 (.mkiface 39 (cI 2)),
oN (.panic (.t 33))] [0,1,2,8,9,10])
(.seq (.reg [mV 35 2,
mV 36 7,
oP 37 (.call (.t 35) [false] [(.t 36)]),
mV 34 37] [0,1,2,8,9,10,34])
(.cond (.t 34)
(.reg [oP 38 (.mkiface 39 (cI 9)),
oN (.panic (.t 38))] [0,1,2,8,9,10])
.skip)))))))))
(.reg [oP 39 (.bin .add (.t 10) (cI 1)),
mV 10 39] [0,1,2,8,9,10])))))))
abbrev Lt : RsT := []
theorem Mn : SpF 40 Ce FP Lt := SpI Tryz.func143 (by kernel_rfl)
theorem AV : ak Tryz.prog Ce = true := by kernel_rfl
abbrev AU : FuncId := 144
def G0 : AC :=
(.seq (.reg [oP 3 (.mv (.c (.bool false)))] [0,1])
(.seq (.reg [oP 4 (.fieldAddr none 1 (.t 1)),
oP 5 (.load none (.t 4)),
mV 6 0,
oP 7 (.ixS 3 (.t 5) (.t 6)),
oP 8 (.fieldAddr none 2 (.t 7)),
oP 9 (.load none (.t 8)),
mV 3 9] [3])
.ret))
abbrev MZ : RsT := [(3,none)]
theorem Ln : SpF 10 AU G0 MZ := SpI Tryz.func144 (by kernel_rfl)
theorem LU : ak Tryz.prog AU = true := by kernel_rfl
abbrev z5 : FuncId := 145
def Ho : AC :=
(.seq (.reg [oP 3 (.mv (.c (.bool false)))] [0,1])
(.seq (.reg [oP 4 (.fieldAddr none 0 (.t 1)),
oP 5 (.load none (.t 4)),
mV 6 0,
oP 7 (.ixS 2 (.t 5) (.t 6)),
oP 8 (.fieldAddr none 1 (.t 7)),
oP 9 (.load none (.t 8)),
mV 3 9] [3])
.ret))
abbrev Lr : RsT := [(3,none)]
theorem Jv : SpF 10 z5 Ho Lr := SpI Tryz.func145 (by kernel_rfl)
theorem NF : ak Tryz.prog z5 = true := by kernel_rfl
abbrev Ew : FuncId := 146
def GH : AC :=
(.seq (.reg [oP 2 (.mv (.c (.int .u64 0)))] [0])
(.seq (.reg [mV 3 0,
oP 4 (.bin .shl (.c (.int .u64 1)) (.t 3)),
mV 2 4] [2])
.ret))
abbrev OT : RsT := [(2,none)]
theorem LQ : SpF 5 Ew GH OT := SpI Tryz.func146 (by kernel_rfl)
theorem so : ak Tryz.prog Ew = true := by kernel_rfl
abbrev DO : FuncId := 147
def Hk : AC :=
(.seq (.reg [oP 3 (.mv (.c (.bool false)))] [0,1])
(.seq (.reg [mV 4 0,
oP 5 (.bin .lss (.t 4) (cI 0)),
mV 6 5,
gF 7 6 (.mv (.t 0)),
gF 8 6 (.load none (.t 1)),
gF 9 6 (.bin .geq (.t 7) (.t 8)),
oP 10 (.pick (.t 6) (.c (.bool true)) (.t 9)),
mV 3 10] [3])
.ret))
abbrev LS : RsT := [(3,none)]
theorem Lu : SpF 11 DO Hk LS := SpI Tryz.func147 (by kernel_rfl)
theorem Nx : ak Tryz.prog DO = true := by kernel_rfl
abbrev Cx : FuncId := 148
def FB : AC :=
(.seq (.reg [oP 4 (.mv (.c (.bool false)))] [0,1])
(.seq (.reg [mV 5 0,
mV 6 1,
oP 7 (.bin .shr (.t 5) (.t 6)),
oP 8 (.bin .and (.t 7) (.c (.int .u64 1))),
oP 9 (.bin .eql (.t 8) (.c (.int .u64 1))),
mV 4 9] [4])
.ret))
abbrev Jy : RsT := [(4,none)]
theorem LX : SpF 10 Cx FB Jy := SpI Tryz.func148 (by kernel_rfl)
theorem kL : ak Tryz.prog Cx = true := by kernel_rfl
abbrev D5 : FuncId := 149
def Fy : AC :=
(.seq (.reg [oP 3 (.box 2 (.t 1)),
oP 4 (.alloc [.int .u64 0, .int .u64 0])] [0,3,4])
(.seq (.seq (.reg [oP 9 (.build [.int .u64 0, .int .u64 0] []),
oP 5 (.alloc [.int .u64 0, .int .u64 0]),
oN (.store 2 (.t 5) (.t 9))] [0,3,4,5])
(.block 0
(.loop [0,3,4,5]
(.seq (.seq (.reg [oP 10 (.load (some 2) (.t 5)),
oP 11 (.load (some 2) (.t 3)),
oP 12 (.eqa true [.i, .i] (.t 10) (.t 11))] [0,3,4,5,12])
(.cond (.t 12)
.skip
(.exit 0)))
(.seq (.block 1
(.seq (.reg [oP 13 (.load (some 2) (.t 3)),
oN (.store 2 (.t 5) (.t 13))] [0,3,4,5])
(.seq (.reg [mV 14 0,
oP 15 (.nilchk (.t 14)),
oP 16 (.fieldAddr (some 2) 0 (.t 15)),
oP 17 (.fieldAddr none 1 (.t 16)),
oP 18 (.load none (.t 17)),
oP 19 (.len (.t 18)),
oP 20 (.mv (cI 0))] [0,3,4,5,18,19,20])
(.block 2
(.loop [0,3,4,5,18,19,20]
(.seq (.reg [oP 21 (.bin .lss (.t 20) (.t 19))] [0,3,4,5,18,19,20,21])
(.seq (.cond (.t 21)
.skip
(.exit 2))
(.seq (.block 3
(.seq (.reg [mV 22 20,
oP 23 (.ixS 3 (.t 18) (.t 20)),
oP 24 (.load (some 3) (.t 23)),
oP 7 (.alloc [.int .i64 0, .int .i64 0, .bool false]),
mV 6 22,
oN (.store 3 (.t 7) (.t 24))] [0,3,4,5,6,7,18,19,20])
(.frz 7 true (.seq (.seq (.dreg [mV 25 0,
mV 26 6,
oP 27 (.nilchk (.t 25)),
oP 28 (.fieldAddr (some 12) 4 (.t 27)),
oP 29 (.ixA 12 1 none (.t 28) (.t 26)),
oP 30 (.load none (.t 29)),
oP 31 (.un .not (.t 30)),
mV 32 31,
gF 33 32 (.fieldAddr none 0 (.t 3)),
gF 34 32 (.load none (.t 33)),
gF 35 32 (.fieldAddr none 0 (.t 7)),
gF 36 32 (.load none (.t 35)),
gF 37 32 (.call (.f 148) [false,false] [(.t 34),(.t 36)]),
gF 38 32 (.fieldAddr none 0 (.t 3)),
gF 39 32 (.load none (.t 38)),
gF 40 32 (.fieldAddr none 1 (.t 7)),
gF 41 32 (.load none (.t 40)),
gF 42 32 (.call (.f 148) [false,false] [(.t 39),(.t 41)]),
gF 43 32 (.eqb false (.t 37) (.t 42)),
oP 44 (.pick (.t 32) (.c (.bool true)) (.t 43))] [0,3,4,5,7,18,19,20,44] [[],[],[0],[0,2],[0,1,2,3],[0,1,2,3,4],[0,1,2,3,4,5],[0,1,2,3,4,5,6],[0,1,2,3,4,5,6,7],[0,1,2,3,4,5,6,7,8],[0,1,2,3,4,5,6,7],[0,1,2,3,4,5,6,7,10],[0,1,2,3,4,5,6,7,8,9,10,11],[0,1,2,3,4,5,6,7],[0,1,2,3,4,5,6,7,13],[0,1,2,3,4,5,6,7],[0,1,2,3,4,5,6,7,15],[0,1,2,3,4,5,6,7,8,9,10,11,12,13,14,15,16],[0,1,2,3,4,5,6,7,8,9,10,11,12,13,14,15,16,17],[0,1,2,3,4,5,6,7,8,9,10,11,12,13,14,15,16,17,18]])
(.cond (.t 44)
(.exit 3)
.skip))
(.seq (.dreg [oP 45 (.fieldAddr none 0 (.t 3)),
oP 46 (.load none (.t 45)),
oP 47 (.fieldAddr none 0 (.t 7)),
oP 48 (.load none (.t 47)),
oP 49 (.call (.f 146) [false] [(.t 48)]),
oP 50 (.fieldAddr none 1 (.t 7)),
oP 51 (.load none (.t 50)),
oP 52 (.call (.f 146) [false] [(.t 51)]),
oP 53 (.bin .or (.t 49) (.t 52)),
oP 54 (.bin .and (.t 46) (.t 53)),
oP 55 (.fieldAddr none 1 (.t 3)),
oP 56 (.load none (.t 55)),
oP 57 (.bin .andNot (.t 54) (.t 56)),
mV 8 57] [0,3,4,5,8,18,19,20] [[],[0],[],[2],[2,3],[],[5],[2,3,4,5,6],[2,3,4,5,6,7],[0,1,2,3,4,5,6,7,8],[],[10],[0,1,2,3,4,5,6,7,8,9,10,11],[0,1,2,3,4,5,6,7,8,9,10,11,12]])
(.reg [oP 58 (.fieldAddr none 0 (.t 3)),
oP 59 (.load none (.t 58)),
mV 60 8,
oP 61 (.bin .andNot (.t 59) (.t 60)),
oP 62 (.fieldAddr none 0 (.t 3)),
oN (.store 1 (.t 62) (.t 61))] [0,3,4,5,18,19,20]))))))
(.reg [oP 63 (.bin .add (.t 20) (cI 1)),
mV 20 63] [0,3,4,5,18,19,20])))))))))
(.seq (.reg [oP 64 (.load (some 2) (.t 5))] [0,3,4,64])
(.reg [oP 5 (.alloc [.int .u64 0, .int .u64 0]),
oN (.store 2 (.t 5) (.t 64))] [0,3,4,5])))))))
(.seq (.reg [oP 65 (.load (some 2) (.t 3)),
oN (.store 2 (.t 4) (.t 65))] [4])
.ret)))
abbrev OK : RsT := [(4,some (some 2))]
theorem Og : SpF 66 D5 Fy OK := SpI Tryz.func149 (by kernel_rfl)
theorem GD : ak Tryz.prog D5 = true := by kernel_rfl
abbrev B9 : FuncId := 150
def F9 : AC :=
(.seq (.reg [oP 4 (.mv (cI 0))] [0,1])
(.seq (.seq (.reg [mV 6 0,
oP 7 (.len (.t 6)),
oP 8 (.mv (cI 0))] [0,1,7,8])
(.block 0
(.loop [0,1,7,8]
(.seq (.reg [oP 9 (.bin .lss (.t 8) (.t 7))] [0,1,7,8,9])
(.seq (.cond (.t 9)
.skip
(.exit 0))
(.seq (.block 1
(.seq (.reg [mV 10 8,
mV 5 10] [0,1,5,7,8])
(.seq (.reg [mV 11 1,
mV 12 0,
mV 13 5,
oP 14 (.ixS 1 (.t 12) (.t 13)),
oP 15 (.load none (.t 14)),
oP 16 (.call (.t 11) [false] [(.t 15)])] [0,1,5,7,8,16])
(.cond (.t 16)
(.seq (.reg [mV 17 5,
mV 4 17] [4])
.ret)
.skip))))
(.reg [oP 18 (.bin .add (.t 8) (cI 1)),
mV 8 18] [0,1,7,8])))))))
(.seq (.reg [oP 4 (.mv (cI (-1)))] [4])
.ret)))
abbrev KF : RsT := [(4,none)]
theorem OU : SpF 19 B9 F9 KF := SpI Tryz.func150 (by kernel_rfl)
theorem Nr : ak Tryz.prog B9 = true := by kernel_rfl
abbrev Eh : FuncId := 151
def Gf : AC :=
(.seq (.reg [oP 2 (.mv (.c (.bool false)))] [0])
(.seq (.seq (.reg [mV 6 0,
oP 7 (.lenStr (.t 6)),
oP 8 (.call (.f 103) [false,false,false] [(.t 7),(cI 1),(cI 16)]),
oP 9 (.un .not (.t 8)),
mV 10 9,
gF 11 10 (.mv (.t 0)),
gF 12 10 (.ixStr (.t 11) (cI 0)),
gF 13 10 (.bin .lss (.t 12) (.c (.int .u8 97))),
oP 14 (.pick (.t 10) (.c (.bool true)) (.t 13)),
mV 15 14,
gF 16 15 (.mv (.t 0)),
gF 17 15 (.ixStr (.t 16) (cI 0)),
gF 18 15 (.bin .gtr (.t 17) (.c (.int .u8 122))),
oP 19 (.pick (.t 15) (.c (.bool true)) (.t 18))] [0,19])
(.cond (.t 19)
(.seq (.reg [oP 2 (.mv (.c (.bool false)))] [2])
.ret)
.skip))
(.seq (.seq (.reg [oP 3 (.mv (cI 1))] [0,3])
(.block 0
(.loop [0,3]
(.seq (.seq (.reg [mV 20 3,
mV 21 0,
oP 22 (.lenStr (.t 21)),
oP 23 (.bin .lss (.t 20) (.t 22))] [0,3,23])
(.cond (.t 23)
.skip
(.exit 0)))
(.seq (.block 1
(.seq (.dreg [mV 26 0,
mV 27 3,
oP 28 (.ixStr (.t 26) (.t 27)),
oP 29 (.bin .geq (.t 28) (.c (.int .u8 97))),
mV 30 29,
gT 31 30 (.mv (.t 0)),
gT 32 30 (.mv (.t 3)),
gT 33 30 (.ixStr (.t 31) (.t 32)),
gT 34 30 (.bin .leq (.t 33) (.c (.int .u8 122))),
oP 35 (.pick (.t 30) (.t 34) (.c (.bool false))),
mV 36 0,
mV 37 3,
oP 38 (.ixStr (.t 36) (.t 37)),
oP 39 (.bin .geq (.t 38) (.c (.int .u8 48))),
mV 40 39,
gT 41 40 (.mv (.t 0)),
gT 42 40 (.mv (.t 3)),
gT 43 40 (.ixStr (.t 41) (.t 42)),
gT 44 40 (.bin .leq (.t 43) (.c (.int .u8 57))),
oP 45 (.pick (.t 40) (.t 44) (.c (.bool false))),
mV 4 35,
mV 5 45] [0,3,4,5] [[],[],[0,1],[0,1,2],[0,1,2,3],[0,1,2,3,4],[0,1,2,3,4],[0,1,2,3,4,5,6],[0,1,2,3,4,5,6,7],[0,1,2,3,4,5,6,7,8],[],[],[10,11],[10,11,12],[0,1,2,3,4,10,11,12,13],[0,1,2,3,4,10,11,12,13,14],[0,1,2,3,4,10,11,12,13,14],[0,1,2,3,4,10,11,12,13,14,15,16],[0,1,2,3,4,10,11,12,13,14,15,16,17],[0,1,2,3,4,10,11,12,13,14,15,16,17,18],[0,1,2,3,4,5,6,7,8,9,10,11,12,13,14],[0,1,2,3,4,5,6,7,8,9,10,11,12,13,14,15,16,17,18,19,20]])
(.seq (.reg [mV 46 4,
oP 47 (.un .not (.t 46)),
mV 48 47,
gT 49 48 (.mv (.t 5)),
gT 50 48 (.un .not (.t 49)),
oP 51 (.pick (.t 48) (.t 50) (.c (.bool false)))] [0,3,51])
(.cond (.t 51)
(.seq (.reg [oP 2 (.mv (.c (.bool false)))] [2])
.ret)
.skip))))
(.reg [mV 24 3,
oP 25 (.bin .add (.t 24) (cI 1)),
mV 3 25] [0,3]))))))
(.seq (.reg [oP 2 (.mv (.c (.bool true)))] [2])
.ret))))
abbrev Mb : RsT := [(2,none)]
theorem Nz : SpF 52 Eh Gf Mb := SpI Tryz.func151 (by kernel_rfl)
theorem Dl : ak Tryz.prog Eh = true := by kernel_rfl
abbrev C0 : FuncId := 152
def Gq : AC :=
(.seq (.reg [oP 3 (.pbox 2 (.t 0)),
oP 6 (.mv (cI 0))] [1,2,3])
(.seq (.reg [oP 7 (.load (some 2) (.t 3)),
oP 8 (.lit 0 2 1 [(0,(.t 7))]),
mV 9 1,
mV 10 2,
oP 11 (.call (.f 198) [true,false,false] [(.t 8),(.t 9),(.t 10)]),
mV 6 11] [6])
.ret))
abbrev MP : RsT := [(6,none)]
theorem O7 : SpF 12 C0 Gq MP := SpI Tryz.func152 (by kernel_rfl)
theorem Ad : ak Tryz.prog C0 = true := by kernel_rfl
abbrev En : FuncId := 153
def Ga : AC :=
(.seq (.reg [oP 2 (.pbox 7 (.t 0)),
oP 3 (.pbox 7 (.t 1)),
oP 4 (.mv (.c (.bool false)))] [2,3])
(.seq (.reg [oP 5 (.fieldAddr none 2 (.t 2)),
oP 6 (.load none (.t 5)),
oP 7 (.fieldAddr none 2 (.t 3)),
oP 8 (.load none (.t 7)),
oP 9 (.mx [(.t 6),(.t 8)]),
oP 10 (.fieldAddr none 3 (.t 2)),
oP 11 (.load none (.t 10)),
oP 12 (.fieldAddr none 3 (.t 3)),
oP 13 (.load none (.t 12)),
oP 14 (.mn [(.t 11),(.t 13)]),
oP 15 (.bin .leq (.t 9) (.t 14)),
mV 4 15] [4])
.ret))
abbrev Lg : RsT := [(4,none)]
theorem Mg : SpF 16 En Ga Lg := SpI Tryz.func153 (by kernel_rfl)
theorem JD : ak Tryz.prog En = true := by kernel_rfl
abbrev AJ : FuncId := 157
def GL : AC :=
(.seq (.reg [oP 2 (.pbox 3 (.t 0)),
oP 4 (.alloc [.int .i64 0, .int .i64 0, .int .i64 0])] [1,2,4])
(.seq (.dreg [oP 5 (.load (some 3) (.t 2)),
oP 6 (.load (some 3) (.t 2)),
oP 7 (.call (.f 199) [true,false] [(.t 6),(cI 1)]),
mV 8 1,
oP 9 (.call (.f 86) [true,true,false] [(.t 5),(.t 7),(.t 8)]),
oP 10 (.field none 0 (.t 9)),
oP 11 (.load (some 3) (.t 2)),
oP 12 (.load (some 3) (.t 2)),
oP 13 (.call (.f 199) [true,false] [(.t 12),(cI 2)]),
mV 14 1,
oP 15 (.call (.f 86) [true,true,false] [(.t 11),(.t 13),(.t 14)]),
oP 16 (.field none 1 (.t 15)),
oP 17 (.load (some 3) (.t 2)),
oP 18 (.load (some 3) (.t 2)),
oP 19 (.call (.f 199) [true,false] [(.t 18),(cI 3)]),
mV 20 1,
oP 21 (.call (.f 86) [true,true,false] [(.t 17),(.t 19),(.t 20)]),
oP 22 (.field none 2 (.t 21)),
oP 23 (.build [.int .i64 0, .int .i64 0, .int .i64 0] [(0,1,(.t 10)),(1,1,(.t 16)),(2,1,(.t 22))]),
oN (.store 3 (.t 4) (.t 23))] [4] [[],[],[1],[],[0,1,2,3],[0,1,2,3,4],[],[],[0,1,2,3,4,7],[],[0,1,2,3,4,6,7,8,9],[0,1,2,3,4,6,7,8,9,10],[],[],[0,1,2,3,4,6,7,8,9,10,13],[],[0,1,2,3,4,6,7,8,9,10,12,13,14,15],[0,1,2,3,4,6,7,8,9,10,12,13,14,15,16],[0,1,2,3,4,5,6,7,8,9,10,11,12,13,14,15,16,17],[0,1,2,3,4,5,6,7,8,9,10,11,12,13,14,15,16,17,18]])
.ret))
abbrev Mj : RsT := [(4,some (some 3))]
theorem MX : SpF 24 AJ GL Mj := SpI Tryz.func157 (by kernel_rfl)
theorem J5 : ak Tryz.prog AJ = true := by kernel_rfl
abbrev CZ : FuncId := 158
def GS : AC :=
(.seq (.reg [oP 1 (.pbox 2 (.t 0)),
oP 2 (.mv (cI 0)),
oP 3 (.mv (cI 0)),
oP 4 (.mv (cI 0))] [1])
(.seq (.seq (.reg [oP 10 (.fieldAddr none 0 (.t 1)),
oP 11 (.load none (.t 10)),
oP 12 (.len (.t 11)),
oP 13 (.bin .lss (.t 12) (cI 1)),
mV 14 13,
gF 15 14 (.fieldAddr none 0 (.t 1)),
gF 16 14 (.load none (.t 15)),
gF 17 14 (.len (.t 16)),
gF 18 14 (.bin .gtr (.t 17) (cI 7)),
oP 19 (.pick (.t 14) (.c (.bool true)) (.t 18)),
mV 20 19,
gF 21 20 (.fieldAddr none 1 (.t 1)),
gF 22 20 (.load none (.t 21)),
gF 23 20 (.len (.t 22)),
gF 24 20 (.bin .gtr (.t 23) (cI 12)),
oP 25 (.pick (.t 20) (.c (.bool true)) (.t 24))] [1,25])
(.cond (.t 25)
(.seq (.reg [oP 2 (.mv (cI 1)),
oP 3 (.mv (cI 0)),
oP 4 (.mv (cI 3))] [2,3,4])
.ret)
.skip))
(.seq (.reg [oP 5 (.nilS 1 1)] [1,5])
(.seq (.seq (.reg [oP 6 (.mv (cI 0))] [1,5,6])
(.block 0
(.loop [1,5,6]
(.seq (.seq (.reg [mV 26 6,
oP 27 (.fieldAddr none 0 (.t 1)),
oP 28 (.load none (.t 27)),
oP 29 (.len (.t 28)),
oP 30 (.bin .lss (.t 26) (.t 29))] [1,5,6,30])
(.cond (.t 30)
.skip
(.exit 0)))
(.seq (.block 1
(.seq (.reg [oP 33 (.fieldAddr none 0 (.t 1)),
oP 34 (.load none (.t 33)),
mV 35 6,
oP 36 (.ixS 2 (.t 34) (.t 35)),
oP 37 (.fieldAddr none 0 (.t 36)),
oP 38 (.load none (.t 37)),
mV 39 5,
oP 40 (.call (.f 107) [false,true] [(.t 38),(.t 39)]),
mV 7 40] [1,5,6,7])
(.seq (.reg [mV 41 5,
oP 42 (.fieldAddr none 0 (.t 1)),
oP 43 (.load none (.t 42)),
mV 44 6,
oP 45 (.ixS 2 (.t 43) (.t 44)),
oP 46 (.fieldAddr none 0 (.t 45)),
oP 47 (.load none (.t 46)),
oP 48 (.lit 0 1 1 [(0,(.t 47))]),
oP 49 (.append 1 16 (.t 41) (.t 48)),
mV 5 49] [1,5,6,7])
(.seq (.reg [mV 50 7,
oP 51 (.bin .neq (.t 50) (cI 0))] [1,5,6,7,51])
(.cond (.t 51)
(.seq (.reg [mV 52 6,
mV 53 7,
oP 2 (.mv (cI 2)),
mV 3 52,
mV 4 53] [2,3,4])
.ret)
.skip)))))
(.reg [mV 31 6,
oP 32 (.bin .add (.t 31) (cI 1)),
mV 6 32] [1,5,6]))))))
(.seq (.seq (.reg [oP 8 (.mv (cI 0))] [1,8])
(.block 2
(.loop [1,8]
(.seq (.seq (.reg [mV 54 8,
oP 55 (.fieldAddr none 1 (.t 1)),
oP 56 (.load none (.t 55)),
oP 57 (.len (.t 56)),
oP 58 (.bin .lss (.t 54) (.t 57))] [1,8,58])
(.cond (.t 58)
.skip
(.exit 2)))
(.seq (.block 3
(.seq (.reg [oP 61 (.fieldAddr none 1 (.t 1)),
oP 62 (.load none (.t 61)),
mV 63 8,
oP 64 (.ixS 3 (.t 62) (.t 63)),
oP 65 (.load (some 3) (.t 64)),
oP 9 (.alloc [.int .i64 0, .int .i64 0, .bool false]),
oN (.store 3 (.t 9) (.t 65))] [1,8,9])
(.frz 9 true (.seq (.seq (.reg [oP 66 (.fieldAddr none 0 (.t 9)),
oP 67 (.load none (.t 66)),
oP 68 (.fieldAddr none 0 (.t 1)),
oP 69 (.load none (.t 68)),
oP 70 (.len (.t 69)),
oP 71 (.call (.f 112) [false,false] [(.t 67),(.t 70)]),
oP 72 (.un .not (.t 71)),
mV 73 72,
gF 74 73 (.fieldAddr none 1 (.t 9)),
gF 75 73 (.load none (.t 74)),
gF 76 73 (.fieldAddr none 0 (.t 1)),
gF 77 73 (.load none (.t 76)),
gF 78 73 (.len (.t 77)),
gF 79 73 (.call (.f 112) [false,false] [(.t 75),(.t 78)]),
gF 80 73 (.un .not (.t 79)),
oP 81 (.pick (.t 73) (.c (.bool true)) (.t 80))] [1,8,9,81])
(.cond (.t 81)
(.seq (.reg [mV 82 8,
oP 2 (.mv (cI 3)),
mV 3 82,
oP 4 (.mv (cI 4))] [2,3,4])
.ret)
.skip))
(.seq (.reg [oP 83 (.fieldAddr none 0 (.t 9)),
oP 84 (.load none (.t 83)),
oP 85 (.fieldAddr none 1 (.t 9)),
oP 86 (.load none (.t 85)),
oP 87 (.bin .eql (.t 84) (.t 86))] [1,8,87])
(.cond (.t 87)
(.seq (.reg [mV 88 8,
oP 2 (.mv (cI 3)),
mV 3 88,
oP 4 (.mv (cI 2))] [2,3,4])
.ret)
.skip))))))
(.reg [mV 59 8,
oP 60 (.bin .add (.t 59) (cI 1)),
mV 8 60] [1,8]))))))
(.seq (.reg [oP 2 (.mv (cI 0)),
oP 3 (.mv (cI 0)),
oP 4 (.mv (cI 0))] [2,3,4])
.ret))))))
abbrev NO : RsT := [(2,none),(3,none),(4,none)]
theorem K8 : SpF 89 CZ GS NO := SpI Tryz.func158 (by kernel_rfl)
theorem Mo : ak Tryz.prog CZ = true := by kernel_rfl
abbrev Cj : FuncId := 159
def FL : AC :=
(.seq (.reg [oP 3 (.pbox 2 (.t 0)),
oP 5 (.box 14 (.t 2)),
oP 6 (.alloc [.bool false, .bool false, .bool false, .bool false, .bool false, .bool false, .bool false, .bool false, .bool false, .bool false, .bool false, .bool false, .bool false, .bool false])] [1,3,5,6])
(.seq (.seq (.reg [oP 7 (.mv (.c (.bool true)))] [1,3,5,6,7])
(.block 0
(.loop [1,3,5,6,7]
(.seq (.seq (.reg [mV 12 7] [1,3,5,6,12])
(.cond (.t 12)
.skip
(.exit 0)))
(.block 1
(.seq (.reg [oP 7 (.mv (.c (.bool false)))] [1,3,5,6,7])
(.seq (.reg [oP 8 (.mv (cI 0))] [1,3,5,6,7,8])
(.block 2
(.loop [1,3,5,6,7,8]
(.seq (.seq (.reg [mV 13 8,
oP 14 (.fieldAddr none 1 (.t 3)),
oP 15 (.load none (.t 14)),
oP 16 (.len (.t 15)),
oP 17 (.bin .lss (.t 13) (.t 16))] [1,3,5,6,7,8,17])
(.cond (.t 17)
.skip
(.exit 2)))
(.seq (.block 3
(.seq (.reg [oP 9 (.mv (cI 0))] [1,3,5,6,7,8,9])
(.block 4
(.loop [1,3,5,6,7,8,9]
(.seq (.seq (.reg [mV 20 9,
oP 21 (.bin .lss (.t 20) (cI 2))] [1,3,5,6,7,8,9,21])
(.cond (.t 21)
.skip
(.exit 4)))
(.seq (.block 5
(.seq (.dreg [oP 24 (.fieldAddr none 1 (.t 3)),
oP 25 (.load none (.t 24)),
mV 26 8,
oP 27 (.ixS 3 (.t 25) (.t 26)),
oP 28 (.fieldAddr none 0 (.t 27)),
oP 29 (.load none (.t 28)),
oP 30 (.fieldAddr none 1 (.t 3)),
oP 31 (.load none (.t 30)),
mV 32 8,
oP 33 (.ixS 3 (.t 31) (.t 32)),
oP 34 (.fieldAddr none 1 (.t 33)),
oP 35 (.load none (.t 34)),
mV 10 29,
mV 11 35] [1,3,5,6,7,8,9,10,11] [[],[0],[],[0,1,2],[0,1,2,3],[0,1,2,3,4],[],[6],[],[6,7,8],[6,7,8,9],[6,7,8,9,10],[0,1,2,3,4,5],[0,1,2,3,4,5,6,7,8,9,10,11,12]])
(.seq (.seq (.reg [mV 36 9,
oP 37 (.bin .eql (.t 36) (cI 1))] [1,3,5,6,7,8,9,10,11,37])
(.cond (.t 37)
(.reg [mV 38 11,
mV 39 10,
mV 10 38,
mV 11 39] [1,3,5,6,7,8,9,10,11])
.skip))
(.seq (.reg [mV 40 1,
mV 41 8,
oP 42 (.call (.f 37) [true,false] [(.t 40),(.t 41)]),
oP 43 (.un .not (.t 42)),
mV 44 43,
gT 45 44 (.mv (.t 10)),
gT 46 44 (.fieldAddr (some 7) 0 (.t 5)),
gT 47 44 (.ixA 7 1 none (.t 46) (.t 45)),
gT 48 44 (.load none (.t 47)),
gT 49 44 (.un .not (.t 48)),
oP 50 (.pick (.t 44) (.t 49) (.c (.bool false))),
mV 51 50,
gT 52 51 (.mv (.t 11)),
gT 53 51 (.fieldAddr (some 7) 0 (.t 5)),
gT 54 51 (.ixA 7 1 none (.t 53) (.t 52)),
gT 55 51 (.load none (.t 54)),
oP 56 (.pick (.t 51) (.t 55) (.c (.bool false))),
mV 57 56,
gT 58 57 (.mv (.t 11)),
gT 59 57 (.fieldAddr (some 7) 7 (.t 5)),
gT 60 57 (.ixA 7 1 none (.t 59) (.t 58)),
gT 61 57 (.load none (.t 60)),
gT 62 57 (.un .not (.t 61)),
oP 63 (.pick (.t 57) (.t 62) (.c (.bool false)))] [1,3,5,6,7,8,9,11,63])
(.cond (.t 63)
(.reg [mV 64 11,
oP 65 (.fieldAddr (some 7) 0 (.t 5)),
oP 66 (.ixA 7 1 none (.t 65) (.t 64)),
oN (.store 1 (.t 66) (.c (.bool false))),
oP 7 (.mv (.c (.bool true)))] [1,3,5,6,7,8,9])
.skip)))))
(.reg [mV 22 9,
oP 23 (.bin .add (.t 22) (cI 1)),
mV 9 23] [1,3,5,6,7,8,9])))))))
(.reg [mV 18 8,
oP 19 (.bin .add (.t 18) (cI 1)),
mV 8 19] [1,3,5,6,7,8]))))))))))))
(.seq (.reg [oP 67 (.load (some 14) (.t 5)),
oN (.store 14 (.t 6) (.t 67))] [6])
.ret)))
abbrev OY : RsT := [(6,some (some 14))]
theorem Oq : SpF 68 Cj FL OY := SpI Tryz.func159 (by kernel_rfl)
theorem Hj : ak Tryz.prog Cj = true := by kernel_rfl
abbrev oy : FuncId := 160
def Gw : AC :=
(.seq (.reg [oP 4 (.load none (.t 1)),
oP 5 (.conv .u64 (.t 4)),
mV 3 5] [0,3])
(.block 0
(.loop [0,3]
(.seq (.seq (.reg [mV 6 3,
oP 7 (.bin .neq (.t 6) (.c (.int .u64 0)))] [0,3,7])
(.cond (.t 7)
.skip
(.exit 0)))
(.seq (.block 1
(.seq (.reg [mV 12 0,
mV 13 3,
oP 14 (.call (.f 161) [false] [(.t 13)]),
oP 15 (.call (.t 12) [false] [(.t 14)]),
oP 16 (.un .not (.t 15))] [0,3,16])
(.cond (.t 16)
.ret
.skip)))
(.reg [mV 8 3,
mV 9 3,
oP 10 (.bin .sub (.t 9) (.c (.int .u64 1))),
oP 11 (.bin .and (.t 8) (.t 10)),
mV 3 11] [0,3]))))))
abbrev Mp : RsT := []
theorem Kr : SpF 17 oy Gw Mp := SpI Tryz.func160 (by kernel_rfl)
theorem Ha : ak Tryz.prog oy = true := by kernel_rfl
abbrev BY : FuncId := 161
def F6 : AC :=
(.seq (.reg [oP 2 (.mv (cI 0))] [0])
(.seq (.cond (.c (.bool false))
(.seq (.reg [mV 3 0,
oP 4 (.conv .u32 (.t 3)),
oP 5 (.call (.f 200) [false] [(.t 4)]),
mV 2 5] [2])
.ret)
.skip)
(.seq (.reg [mV 6 0,
oP 7 (.call (.f 201) [false] [(.t 6)]),
mV 2 7] [2])
.ret)))
abbrev My : RsT := [(2,none)]
theorem KN : SpF 8 BY F6 My := SpI Tryz.func161 (by kernel_rfl)
theorem J2 : ak Tryz.prog BY = true := by kernel_rfl
abbrev BZ : FuncId := 163
def FJ : AC :=
(.seq (.reg [oP 2 (.mv (cI 0))] [0])
(.seq (.reg [mV 3 0,
oP 4 (.bin .shr (.t 3) (.c (.int .u64 1))),
oP 5 (.bin .and (.t 4) (.c (.int .u64 6148914691236517205))),
mV 6 0,
oP 7 (.bin .and (.t 6) (.c (.int .u64 6148914691236517205))),
oP 8 (.bin .add (.t 5) (.t 7)),
mV 0 8] [0])
(.seq (.reg [mV 9 0,
oP 10 (.bin .shr (.t 9) (.c (.int .u64 2))),
oP 11 (.bin .and (.t 10) (.c (.int .u64 3689348814741910323))),
mV 12 0,
oP 13 (.bin .and (.t 12) (.c (.int .u64 3689348814741910323))),
oP 14 (.bin .add (.t 11) (.t 13)),
mV 0 14] [0])
(.seq (.reg [mV 15 0,
oP 16 (.bin .shr (.t 15) (.c (.int .u64 4))),
mV 17 0,
oP 18 (.bin .add (.t 16) (.t 17)),
oP 19 (.bin .and (.t 18) (.c (.int .u64 1085102592571150095))),
mV 0 19] [0])
(.seq (.reg [mV 20 0,
mV 21 0,
oP 22 (.bin .shr (.t 21) (.c (.int .u64 8))),
oP 23 (.bin .add (.t 20) (.t 22)),
mV 0 23] [0])
(.seq (.reg [mV 24 0,
mV 25 0,
oP 26 (.bin .shr (.t 25) (.c (.int .u64 16))),
oP 27 (.bin .add (.t 24) (.t 26)),
mV 0 27] [0])
(.seq (.reg [mV 28 0,
mV 29 0,
oP 30 (.bin .shr (.t 29) (.c (.int .u64 32))),
oP 31 (.bin .add (.t 28) (.t 30)),
mV 0 31] [0])
(.seq (.reg [mV 32 0,
oP 33 (.conv .i64 (.t 32)),
oP 34 (.bin .and (.t 33) (cI 127)),
mV 2 34] [2])
.ret))))))))
abbrev Oo : RsT := [(2,none)]
theorem L3 : SpF 35 BZ FJ Oo := SpI Tryz.func163 (by kernel_rfl)
theorem JI : ak Tryz.prog BZ = true := by kernel_rfl
abbrev Dh : FuncId := 164
def FD : AC :=
(.seq (.reg [oP 4 (.mv (cI 0))] [0,1])
(.seq (.seq (.reg [mV 6 0,
oP 7 (.len (.t 6)),
oP 8 (.mv (cI 0))] [0,1,7,8])
(.block 0
(.loop [0,1,7,8]
(.seq (.reg [oP 9 (.bin .lss (.t 8) (.t 7))] [0,1,7,8,9])
(.seq (.cond (.t 9)
.skip
(.exit 0))
(.seq (.block 1
(.seq (.reg [mV 10 8,
mV 5 10] [0,1,5,7,8])
(.seq (.reg [mV 11 1,
mV 12 0,
mV 13 5,
oP 14 (.ixS 1 (.t 12) (.t 13)),
oP 15 (.load none (.t 14)),
oP 16 (.bin .eql (.t 11) (.t 15))] [0,1,5,7,8,16])
(.cond (.t 16)
(.seq (.reg [mV 17 5,
mV 4 17] [4])
.ret)
.skip))))
(.reg [oP 18 (.bin .add (.t 8) (cI 1)),
mV 8 18] [0,1,7,8])))))))
(.seq (.reg [oP 4 (.mv (cI (-1)))] [4])
.ret)))
abbrev KI : RsT := [(4,none)]
theorem Of : SpF 19 Dh FD KI := SpI Tryz.func164 (by kernel_rfl)
theorem Js : ak Tryz.prog Dh = true := by kernel_rfl
abbrev DA : FuncId := 165
def Ge : AC :=
(.seq (.reg [oP 4 (.mv (.c (.bool false)))] [0,1])
(.seq (.reg [mV 5 0,
mV 6 1,
oP 7 (.bin .shr (.t 5) (.t 6)),
oP 8 (.bin .and (.t 7) (cI 1)),
oP 9 (.bin .eql (.t 8) (cI 1)),
mV 4 9] [4])
.ret))
abbrev Ns : RsT := [(4,none)]
theorem KV : SpF 10 DA Ge Ns := SpI Tryz.func165 (by kernel_rfl)
theorem GJ : ak Tryz.prog DA = true := by kernel_rfl
abbrev Cn : FuncId := 166
def Hi : AC :=
(.seq (.reg [mV 8 1,
oP 9 (.bin .add (.t 8) (cI 1)),
mV 6 9] [0,1,2,6])
(.block 0
(.loop [0,1,2,6]
(.seq (.seq (.reg [mV 10 6,
mV 11 2,
oP 12 (.bin .lss (.t 10) (.t 11))] [0,1,2,6,12])
(.cond (.t 12)
.skip
(.exit 0)))
(.seq (.block 1
(.seq (.reg [mV 15 6,
mV 7 15] [0,1,2,6,7])
(.block 2
(.loop [0,1,2,6,7]
(.seq (.seq (.dreg [mV 16 7,
mV 17 1,
oP 18 (.bin .gtr (.t 16) (.t 17)),
mV 19 18,
gT 20 19 (.mv (.t 0)),
gT 21 19 (.mv (.t 7)),
gT 22 19 (.ixS 1 (.t 20) (.t 21)),
gT 23 19 (.load none (.t 22)),
gT 24 19 (.mv (.t 0)),
gT 25 19 (.mv (.t 7)),
gT 26 19 (.bin .sub (.t 25) (cI 1)),
gT 27 19 (.ixS 1 (.t 24) (.t 26)),
gT 28 19 (.load none (.t 27)),
gT 29 19 (.call (.f 172) [false,false] [(.t 23),(.t 28)]),
oP 30 (.pick (.t 19) (.t 29) (.c (.bool false)))] [0,1,2,6,7,30] [[],[],[0,1],[0,1,2],[0,1,2,3],[0,1,2,3],[0,1,2,3,4,5],[0,1,2,3,4,5,6],[0,1,2,3],[0,1,2,3],[0,1,2,3,9],[0,1,2,3,8,9,10],[0,1,2,3,8,9,10,11],[0,1,2,3,4,5,6,7,8,9,10,11,12],[0,1,2,3,4,5,6,7,8,9,10,11,12,13]])
(.cond (.t 30)
.skip
(.exit 2)))
(.seq (.block 3
(.dreg [mV 33 0,
mV 34 7,
mV 35 0,
mV 36 7,
oP 37 (.bin .sub (.t 36) (cI 1)),
mV 38 0,
mV 39 7,
oP 40 (.bin .sub (.t 39) (cI 1)),
oP 41 (.ixS 1 (.t 38) (.t 40)),
oP 42 (.load none (.t 41)),
mV 43 0,
mV 44 7,
oP 45 (.ixS 1 (.t 43) (.t 44)),
oP 46 (.load none (.t 45)),
oP 47 (.ixS 1 (.t 33) (.t 34)),
oN (.store 1 (.t 47) (.t 42)),
oP 48 (.ixS 1 (.t 35) (.t 37)),
oN (.store 1 (.t 48) (.t 46))] [0,1,2,6,7] [[],[],[],[],[3],[],[],[6],[5,6,7],[5,6,7,8],[],[],[10,11],[10,11,12],[0,1,5,6,7,8,9,10,11,12,13],[0,1,5,6,7,8,9,10,11,12,13,14],[0,1,2,3,4,5,6,7,8,9,10,11,12,13,14,15],[0,1,2,3,4,5,6,7,8,9,10,11,12,13,14,15,16]]))
(.reg [mV 31 7,
oP 32 (.bin .sub (.t 31) (cI 1)),
mV 7 32] [0,1,2,6,7])))))))
(.reg [mV 13 6,
oP 14 (.bin .add (.t 13) (cI 1)),
mV 6 14] [0,1,2,6]))))))
abbrev Ju : RsT := []
theorem MQ : SpF 49 Cn Hi Ju := SpI Tryz.func166 (by kernel_rfl)
theorem Lb : ak Tryz.prog Cn = true := by kernel_rfl
abbrev Dq : FuncId := 172
def FE : AC :=
(.seq (.reg [oP 4 (.mv (.c (.bool false)))] [0,1])
(.seq (.reg [mV 5 0,
oP 6 (.call (.f 207) [false] [(.t 5)]),
mV 7 6,
gT 8 7 (.mv (.t 1)),
gT 9 7 (.call (.f 207) [false] [(.t 8)]),
gT 10 7 (.un .not (.t 9)),
oP 11 (.pick (.t 7) (.t 10) (.c (.bool false))),
mV 12 11,
gF 13 12 (.mv (.t 0)),
gF 14 12 (.mv (.t 1)),
gF 15 12 (.bin .lss (.t 13) (.t 14)),
oP 16 (.pick (.t 12) (.c (.bool true)) (.t 15)),
mV 4 16] [4])
.ret))
abbrev KG : RsT := [(4,none)]
theorem O3 : SpF 17 Dq FE KG := SpI Tryz.func172 (by kernel_rfl)
theorem LI : ak Tryz.prog Dq = true := by kernel_rfl
abbrev DK : FuncId := 176
def Gu : AC :=
(.seq (.reg [oP 2 (.mv (cI 0))] [0,2])
(.seq (.seq (.reg [mV 3 0,
oP 4 (.bin .geq (.t 3) (.c (.int .u64 4294967296)))] [0,2,4])
(.cond (.t 4)
(.seq (.reg [mV 5 0,
oP 6 (.bin .shr (.t 5) (.c (.int .u64 32))),
mV 0 6] [0])
(.reg [oP 2 (.mv (cI 32))] [0,2]))
.skip))
(.seq (.seq (.reg [mV 7 0,
oP 8 (.bin .geq (.t 7) (.c (.int .u64 65536)))] [0,2,8])
(.cond (.t 8)
(.seq (.reg [mV 9 0,
oP 10 (.bin .shr (.t 9) (.c (.int .u64 16))),
mV 0 10] [0,2])
(.reg [mV 11 2,
oP 12 (.bin .add (.t 11) (cI 16)),
mV 2 12] [0,2]))
.skip))
(.seq (.seq (.reg [mV 13 0,
oP 14 (.bin .geq (.t 13) (.c (.int .u64 256)))] [0,2,14])
(.cond (.t 14)
(.seq (.reg [mV 15 0,
oP 16 (.bin .shr (.t 15) (.c (.int .u64 8))),
mV 0 16] [0,2])
(.reg [mV 17 2,
oP 18 (.bin .add (.t 17) (cI 8)),
mV 2 18] [0,2]))
.skip))
(.seq (.reg [mV 19 2,
mV 20 0,
oP 21 (.conv .u8 (.t 20)),
⟨some 22,none, .ixStr (.c (.str ⟨#[0,1,2,2,3,3,3,3,4,4,4,4,4,4,4,4,5,5,5,5,5,5,5,5,5,5,5,5,5,5,5,5,6,6,6,6,6,6,6,6,6,6,6,6,6,6,6,6,6,6,6,6,6,6,6,6,6,6,6,6,6,6,6,6,7,7,7,7,7,7,7,7,7,7,7,7,7,7,7,7,7,7,7,7,7,7,7,7,7,7,7,7,7,7,7,7,7,7,7,7,7,7,7,7,7,7,7,7,7,7,7,7,7,7,7,7,7,7,7,7,7,7,7,7,7,7,7,7,8,8,8,8,8,8,8,8,8,8,8,8,8,8,8,8,8,8,8,8,8,8,8,8,8,8,8,8,8,8,8,8,8,8,8,8,8,8,8,8,8,8,8,8,8,8,8,8,8,8,8,8,8,8,8,8,8,8,8,8,8,8,8,8,8,8,8,8,8,8,8,8,8,8,8,8,8,8,8,8,8,8,8,8,8,8,8,8,8,8,8,8,8,8,8,8,8,8,8,8,8,8,8,8,8,8,8,8,8,8,8,8,8,8,8,8,8,8,8,8,8,8,8,8,8,8,8,8]⟩)) (.t 21)⟩,
oP 23 (.conv .i64 (.t 22)),
oP 24 (.bin .add (.t 19) (.t 23)),
mV 2 24] [2])
.ret)))))
abbrev MN : RsT := [(2,none)]
theorem La : SpF 25 DK Gu MN := SpI Tryz.func176 (by kernel_rfl)
theorem KM : ak Tryz.prog DK = true := by kernel_rfl
abbrev CU : FuncId := 177
def GB : AC :=
(.seq (.reg [oP 3 (.pbox 1 (.t 1)),
oP 4 (.mv (cI 0))] [0,3])
(.seq (.reg [mV 5 0,
oP 6 (.nilchk (.t 5)),
oP 7 (.fieldAddr (some 1) 0 (.t 6)),
oP 8 (.fieldAddr none 0 (.t 7)),
oP 9 (.load none (.t 8)),
oP 10 (.mkfunc (.func 209) [] [(.t 3)]),
oP 11 (.call (.f 208) [true,false] [(.t 9),(.t 10)]),
mV 4 11] [4])
.ret))
abbrev KE : RsT := [(4,none)]
theorem Nt : SpF 12 CU GB KE := SpI Tryz.func177 (by kernel_rfl)
theorem wA : ak Tryz.prog CU = true := by kernel_rfl
abbrev DD : FuncId := 178
def G5 : AC :=
(.seq (.reg [oP 4 (.mv (.c (.bool false)))] [0,1])
(.seq (.reg [mV 5 0,
mV 6 1,
oP 7 (.call (.f 208) [true,false] [(.t 5),(.t 6)]),
oP 8 (.bin .geq (.t 7) (cI 0)),
mV 4 8] [4])
.ret))
abbrev NU : RsT := [(4,none)]
theorem Oj : SpF 9 DD G5 NU := SpI Tryz.func178 (by kernel_rfl)
theorem Fu : ak Tryz.prog DD = true := by kernel_rfl
abbrev NT : FuncId := 179
abbrev De : FuncId := 180
def Gr : AC :=
(.seq (.reg [oP 4 (.mv (.c (.bool false)))] [0,1])
(.seq (.reg [mV 5 0,
mV 6 1,
oP 7 (.call (.f 210) [true,false] [(.t 5),(.t 6)]),
oP 8 (.bin .geq (.t 7) (cI 0)),
mV 4 8] [4])
.ret))
abbrev Kq : RsT := [(4,none)]
theorem MJ : SpF 9 De Gr Kq := SpI Tryz.func180 (by kernel_rfl)
theorem zY : ak Tryz.prog De = true := by kernel_rfl
abbrev AT : FuncId := 181
def G4 : AC :=
(.seq (.reg [oP 3 (.mv (.c (.bool false)))] [0,1])
(.seq (.reg [mV 4 0,
oP 5 (.call (.f 177) [true,false] [(.t 1),(.t 4)]),
oP 6 (.bin .lss (.t 5) (cI 0)),
mV 3 6] [3])
.ret))
abbrev Pn : RsT := [(3,none)]
theorem Nu : SpF 7 AT G4 Pn := SpI Tryz.func181 (by kernel_rfl)
theorem O0 : ak Tryz.prog AT = true := by kernel_rfl
abbrev Cp : FuncId := 182
def FK : AC :=
(.seq (.reg [oP 2 (.mv (.c (.bool false)))] [0])
(.seq (.seq (.reg [mV 5 0,
oP 6 (.len (.t 5)),
oP 7 (.mv (cI 0))] [0,5,6,7])
(.block 0
(.loop [0,5,6,7]
(.seq (.reg [oP 8 (.bin .lss (.t 7) (.t 6))] [0,5,6,7,8])
(.seq (.cond (.t 8)
.skip
(.exit 0))
(.seq (.block 1
(.seq (.reg [mV 9 7,
oP 10 (.ixS 1 (.t 5) (.t 7)),
oP 11 (.load none (.t 10)),
mV 3 9,
mV 4 11] [0,3,4,5,6,7])
(.seq (.reg [mV 12 0,
mV 13 3,
oP 14 (.subq 1 (.t 12) none (some (.t 13))),
mV 15 4,
oP 16 (.call (.f 122) [true,false] [(.t 14),(.t 15)])] [0,5,6,7,16])
(.cond (.t 16)
(.seq (.reg [oP 2 (.mv (.c (.bool true)))] [2])
.ret)
.skip))))
(.reg [oP 17 (.bin .add (.t 7) (cI 1)),
mV 7 17] [0,5,6,7])))))))
(.seq (.reg [oP 2 (.mv (.c (.bool false)))] [2])
.ret)))
abbrev NH : RsT := [(2,none)]
theorem L1 : SpF 18 Cp FK NH := SpI Tryz.func182 (by kernel_rfl)
theorem GX : ak Tryz.prog Cp = true := by kernel_rfl
abbrev AL : FuncId := 183
def GP : AC :=
(.seq (.reg [oP 4 (.mv (.c (.bool false)))] [0,1,2])
(.seq (.qreg [oP 5 (.load (some 7) (.t 1)),
oP 6 (.fieldAddr (some 1) 0 (.t 2)),
oP 7 (.fieldAddr none 0 (.t 6)),
oP 8 (.load none (.t 7)),
mV 9 0,
oP 10 (.call (.f 177) [true,false] [(.t 2),(.t 9)]),
oP 11 (.ixS 7 (.t 8) (.t 10)),
oP 12 (.load (some 7) (.t 11)),
oP 13 (.call (.f 184) [true,true] [(.t 5),(.t 12)]),
oP 14 (.un .not (.t 13)),
mV 4 14] [4] [[],[],[1],[1,2],[],[4],[1,2,3,4,5],[1,2,3,4,5,6],[0,1,2,3,4,5,6,7],[0,1,2,3,4,5,6,7,8],[0,1,2,3,4,5,6,7,8,9]] [([0,1,2,3,4],5),([6,7],8)] [9,10])
.ret))
abbrev NB : RsT := [(4,none)]
theorem Pf : SpF 15 AL GP NB := SpI Tryz.func183 (by kernel_rfl)
theorem J7 : ak Tryz.prog AL = true := by kernel_rfl
abbrev C9 : FuncId := 184
def Gg : AC :=
(.seq (.reg [oP 2 (.pbox 7 (.t 0)),
oP 3 (.pbox 7 (.t 1)),
oP 4 (.mv (.c (.bool false)))] [2,3])
(.seq (.reg [oP 5 (.fieldAddr none 2 (.t 2)),
oP 6 (.load none (.t 5)),
oP 7 (.fieldAddr none 3 (.t 3)),
oP 8 (.load none (.t 7)),
oP 9 (.bin .leq (.t 6) (.t 8)),
mV 10 9,
gT 11 10 (.fieldAddr none 2 (.t 3)),
gT 12 10 (.load none (.t 11)),
gT 13 10 (.fieldAddr none 3 (.t 2)),
gT 14 10 (.load none (.t 13)),
gT 15 10 (.bin .leq (.t 12) (.t 14)),
oP 16 (.pick (.t 10) (.t 15) (.c (.bool false))),
mV 4 16] [4])
.ret))
abbrev JF : RsT := [(4,none)]
theorem NI : SpF 17 C9 Gg JF := SpI Tryz.func184 (by kernel_rfl)
theorem MD : ak Tryz.prog C9 = true := by kernel_rfl
end Go.AM
